/- VerifyTurn: for every input the law returns true, and each argument reads as it read before. No further condition. Part 6 of 8. -/
import Derived.Test.YthmnlfenkhmmhaaGreatTv5
namespace Go.Proofs.YthmnlfenkhmmhaaGreat
noncomputable section
open List (length map)
set_option linter.unusedSimpArgs false
set_option linter.unusedVariables false
set_option linter.unusedSectionVars false
set_option maxRecDepth 100000
set_option maxHeartbeats 4000000
variable [Flo]
def zX(v8:(List za)):Option (Bool):=
 (zg9 v8).bind fun v39=>(ziY v39).bind fun v40=>some v40
def zf0(v1:List za)(v2:Int)(v3:Int)(v4:Int)(v5:zw)(v6:List UInt8):Option (Bool):=
 (zjC).bind fun v7=>cond (!v7) (some false) ((zg9 v1).bind fun v8=>cond (((((List.length v8:Int) == (0:Int))||(decide (v2<0)))||(decide (v3<0)))||(decide (10<(List.length v6:Int)))) (some true) ((zr1 v2 (List.length v8:Int)).bind fun v9=>(idx v8 v9).bind fun v10=>cond ((List.length v10.Methods:Int) == (0:Int)) (some true) ((zr1 v3 (List.length v10.Methods:Int)).bind fun v11=>(idx v10.Methods v11).bind fun v12=>cond ((List.length v12.Code:Int) == (0:Int)) (some true) ((zr1 v3 (List.length v12.Code:Int)).bind fun v13=>(zr1 v4 8).bind fun v14=>(zr1 (IntKind.i64.wrap (v14+8)) 8).bind fun v15=>cond (v15 == (0:Int)) ((idx v12.Code v13).bind fun v16=>zX v8) (cond (v15 == (1:Int)) ((zhs v12.Code 0 v13).bind fun v17=>(zhs v12.Code v13 (List.length v12.Code:Int)).bind fun v18=>(zfY 48 ([]:List zw) v17).bind fun v19=>(zfY 48 v19 [v5]).bind fun v20=>(zfY 48 v20 v18).bind fun v21=>zX v8) (cond (v15 == (2:Int)) ((zhs v12.Code 0 v13).bind fun v22=>(zhs v12.Code (IntKind.i64.wrap (v13+1)) (List.length v12.Code:Int)).bind fun v23=>(zfY 48 ([]:List zw) v22).bind fun v24=>(zfY 48 v24 v23).bind fun v25=>zX v8) (cond (v15 == (3:Int)) (zX v8) (cond (v15 == (4:Int)) (cond (decide (0<(List.length v12.Maps:Int))) ((zr1 v3 (List.length v12.Maps:Int)).bind fun v26=>(zhs v12.Maps 0 v26).bind fun v27=>(zhs v12.Maps (IntKind.i64.wrap (v26+1)) (List.length v12.Maps:Int)).bind fun v28=>(zfY 56 ([]:List zU) v27).bind fun v29=>(zfY 56 v29 v28).bind fun v30=>zX v8) (zX v8)) (cond (v15 == (5:Int)) (cond (decide (0<(List.length v12.Maps:Int))) ((zr1 v3 (List.length v12.Maps:Int)).bind fun v31=>(idx v12.Maps v31).bind fun v32=>cond (decide (0<(List.length v32.Locals:Int))) ((idx v12.Maps v31).bind fun v33=>(idx v12.Maps v31).bind fun v34=>(zr1 v3 (List.length v34.Locals:Int)).bind fun v35=>(idx v33.Locals v35).bind fun v36=>zX v8) (zX v8)) (zX v8)) (cond (v15 == (6:Int)) (cond (decide (0<(List.length v12.Maps:Int))) ((zr1 v3 (List.length v12.Maps:Int)).bind fun v37=>(idx v12.Maps v37).bind fun v38=>zX v8) (zX v8)) (zX v8)))))))))))
theorem zlU(v1:List za)(v2:Int)(v3:Int)(v4:Int)(v5:zw)(v6:List UInt8)(h:zf0 v1 v2 v3 v4 v5 v6=some true)(hW1:∀v8,zg9 v1=some v8→wL zbl v8)(hW2:∀v8,zg9 v1=some v8→∀c∈v8,∀m∈c.Methods,∀p∈m.Maps,p.Stack.length≤1000000)(hx:zhB v5)(hs:wS v6)
    (hall:∀cs,wL zbl cs→∃x,zg9 cs=some x∧ziY x=some true):zvA Tryz.prog 6 [.isl 6 (List.map zc v1),iA v2,iA v3,iA v4,.agg (zi v5),sA v6]:=by
 refine zyd Tryz.func6 rfl rfl fun wS G=>?_
 unfold zf0 at h
 refine zdR (ze3 (rl rfl<|u<|bx 0 4 rfl rfl rfl rfl<|u<|asg rfl<|zn ?_))
 obtain ⟨v7,q1,h⟩:=bs h
 refine zdR (ze3 (rl rfl<|u<|pc (zlC q1) rfl rfl rfl<|u<|asg rfl<|zn ?_))
 refine zdR ?_
 refine zdR (ze3 (rl rfl<|u<|mv rfl<|u<|nt rfl<|zn ?_))
 refine zf9 rfl (fun hc2=>?_) (fun hc2=>?_)
 ·
  replace h:=bT hc2 h
  cases sm h
 ·
  replace h:=bF hc2 h
  refine ze3 (ze ?_)
  obtain ⟨v8,q3,h⟩:=bs h
  have hW8:=hW1 v8 q3
  refine zdR (ze3 (rl rfl<|u<|mv rfl<|u<|sc [] (zry v1 q3) rfl rfl rfl rfl ⟨(rnI rfl),trivial⟩ trivial<|zv (env0:=[(24,.fr (.isl 6 (List.map zc v8))),(1,iA v2),(2,iA v3),(3,iA v4),(5,sA v6),(10,.mpt 0 0 0)]) (st0:=[some (4,[(zi v5)])]) ⟨[.old 0],cv rfl (zAS zB8 rfl rfl)<|ce rfl rfl<|ce rfl rfl<|ce rfl rfl<|ce rfl rfl<|cv rfl (.mpt rfl)<|cn,rfl,⟨⟨_,rfl,zaz (ciL rfl)⟩,trivial⟩,rfl,Nat.le_of_ble_eq_true rfl⟩<|u<|asg rfl<|zn ?_))
  refine zyp (d:=0) (av:=.isl 6 (List.map zc v8)) (env0:=[(1,iA v2),(2,iA v3),(3,iA v4),(5,sA v6),(10,.mpt 0 0 0)]) rfl (zCP ⟨rfl,rfl,rfl,rfl,rfl,trivial⟩) rfl rfl ?_
  refine zdR ?_
  refine zdR (ze3 (rl rfl<|u<|mv rfl<|u<|lnI ti rfl rfl<|u<|eql ti rfl rfl<|u<|mv rfl<|zq3 (j:=3) 2 rfl rfl rfl rfl rfl gpn (fun hb4=>g rfl hb4<|mv rfl<|g rfl hb4<|lss ti rfl rfl<|zn (egO [29,30] 2 hb4 rfl rfl rfl rfl)) orT<|u<|mv rfl<|zq3 (j:=7) 2 rfl rfl rfl rfl rfl gpn (fun hb5=>g rfl hb5<|mv rfl<|g rfl hb5<|lss ti rfl rfl<|zn (egO [33,34] 2 hb5 rfl rfl rfl rfl)) orT<|u<|mv rfl<|zq3 (j:=11) 3 rfl rfl rfl rfl rfl gpn (fun hb6=>g rfl hb6<|mv rfl<|g rfl hb6<|lnS ti rfl rfl<|g rfl hb6<|gtr ti rfl rfl<|zn (egO [37,38,39] 3 hb6 rfl rfl rfl rfl)) orT<|zn ?_))
  refine zf9 rfl (fun hc7=>?_) (fun hc7=>?_)
  ·
   replace h:=bT hc7 h
   exact ze3 (rg rfl<|u<|asg rfl<|zn<|zD rfl)
  ·
   replace h:=bF hc7 h
   refine ze3 (ze ?_)
   obtain ⟨v9,q8,h⟩:=bs h
   obtain ⟨v10,q9,h⟩:=bs h
   refine zdR (ze3 (rl rfl<|u<|mv rfl<|u<|mv rfl<|u<|mv rfl<|u<|lnI ti rfl rfl<|u<|rem ti rfl rfl q8<|u<|ixI ti rfl ti rfl rfl rfl q9<|u<|asg rfl<|zn ?_))
   refine zdR ?_
   refine zdR (ze3 (rl rfl<|u<|mv rfl<|u<|nc rfl rfl<|u<|fa ti rfl rfl rfl<|u<|ldI ti rfl (zm q9).2.2 rfl<|u<|lnI ti rfl rfl<|u<|eql ti rfl rfl<|zn ?_))
   refine zf9 rfl (fun hc10=>?_) (fun hc10=>?_)
   ·
    replace h:=bT hc10 h
    exact ze3 (rg rfl<|u<|asg rfl<|zn<|zD rfl)
   ·
    replace h:=bF hc10 h
    refine ze3 (ze ?_)
    obtain ⟨v11,q11,h⟩:=bs h
    obtain ⟨v12,q12,h⟩:=bs h
    have hw10:zbl v10:=hW8.2 _ (List.mem_of_getElem? (zm q9).2.2)
    have hw12:zg5 v12:=hw10.2.2.2.2.2.2 _ (List.mem_of_getElem? (zm q12).2.2)
    have hwc:wL zhB v12.Code:=hw12.2.2.2.2.2.2.2.1
    have hwm:wL zhC v12.Maps:=hw12.2.2.2.2.2.2.2.2.1
    refine zdR (ze3 (rdL [(0,.isl 6 (List.map zc v8)),(2,iA v3),(3,iA v4),(5,sA v6),(10,.mpt 0 0 0),(15,.ipt 10 (List.map zd v10.Methods) (Int.toNat v11) 0)] [some (4,[(zi v5)])] [] [12,11,10,9,8,7,6,5,4,3,2,1,0] [(15,.ipt 10 (List.map zd v10.Methods) (Int.toNat v11) 0),(64,.ipt 10 (List.map zd v10.Methods) (Int.toNat v11) 0),(63,iA v11),(62,iA (List.length v10.Methods:Int)),(61,.isl 10 (List.map zd v10.Methods)),(60,.ipt 6 (List.map zc v8) (Int.toNat v9) 5),(59,.ipt 6 (List.map zc v8) (Int.toNat v9) 0),(58,.ipt 6 (List.map zc v8) (Int.toNat v9) 0),(57,iA v3),(56,.isl 10 (List.map zd v10.Methods)),(55,.ipt 6 (List.map zc v8) (Int.toNat v9) 5),(54,.ipt 6 (List.map zc v8) (Int.toNat v9) 0),(53,.ipt 6 (List.map zc v8) (Int.toNat v9) 0)] 0 (by kernel_rfl) (by kernel_rfl) rfl (by kernel_rfl) (dt0 ⟨(fun _=>pa rfl rfl rfl rfl (asg rfl<|⟨rfl,rfl⟩)),(fun _=>pa rfl rfl rfl rfl (ixI ti rfl ti rfl rfl rfl q12<|⟨rfl,rfl⟩)),(fun _=>pa rfl rfl rfl rfl (rem ti rfl rfl q11<|⟨rfl,rfl⟩)),(fun _=>pa rfl rfl rfl rfl (lnI ti rfl rfl<|⟨rfl,rfl⟩)),(fun _=>pa rfl rfl rfl rfl (ldI ti rfl (zm q9).2.2 rfl<|⟨rfl,rfl⟩)),(fun _=>pa rfl rfl rfl rfl (fa ti rfl rfl rfl<|⟨rfl,rfl⟩)),(fun _=>pa rfl rfl rfl rfl (nc rfl rfl<|⟨rfl,rfl⟩)),(fun _=>pa rfl rfl rfl rfl (mv rfl<|⟨rfl,rfl⟩)),(fun _=>pa rfl rfl rfl rfl (mv rfl<|⟨rfl,rfl⟩)),(fun _=>pa rfl rfl rfl rfl (ldI ti rfl (zm q9).2.2 rfl<|⟨rfl,rfl⟩)),(fun _=>pa rfl rfl rfl rfl (fa ti rfl rfl rfl<|⟨rfl,rfl⟩)),(fun _=>pa rfl rfl rfl rfl (nc rfl rfl<|⟨rfl,rfl⟩)),(fun _=>pa rfl rfl rfl rfl (mv rfl<|⟨rfl,rfl⟩)),trivial⟩ (by kernel_rfl) rfl ⟨[.old 0],ce rfl rfl<|ce rfl rfl<|ce rfl rfl<|ce rfl rfl<|cv rfl (.mpt rfl)<|ce rfl rfl<|cn,rfl,⟨⟨_,rfl,zaz (ciL rfl)⟩,trivial⟩,rfl,Nat.le_of_ble_eq_true rfl⟩) ?_))
    refine zdR ?_
    refine zdR (ze3 (rl rfl<|u<|mv rfl<|u<|nc rfl rfl<|u<|fa ti rfl rfl rfl<|u<|ldI ti rfl (zm q12).2.2 rfl<|u<|lnI ti rfl rfl<|u<|eql ti rfl rfl<|zn ?_))
    refine zf9 rfl (fun hc13=>?_) (fun hc13=>?_)
    ·
     replace h:=bT hc13 h
     exact ze3 (rg rfl<|u<|asg rfl<|zn<|zD rfl)
    ·
     replace h:=bF hc13 h
     refine ze3 (ze ?_)
     obtain ⟨v13,q14,h⟩:=bs h
     refine zdR (ze3 (rl rfl<|u<|mv rfl<|u<|mv rfl<|u<|nc rfl rfl<|u<|fa ti rfl rfl rfl<|u<|ldI ti rfl (zm q12).2.2 rfl<|u<|lnI ti rfl rfl<|u<|rem ti rfl rfl q14<|u<|asg rfl<|zn ?_))
     refine zAo (fun env st=>∃cs:List za,wL zbl cs∧Can 0 [(0,.isl 6 (List.map zc cs))] [] env st) ?_ ?_
     ·
      obtain ⟨v14,q15,h⟩:=bs h
      obtain ⟨v15,q16,h⟩:=bs h
      refine zdR (ze3 (rl rfl<|u<|mv rfl<|u<|rem ti rfl rfl q15<|u<|add ti rfl rfl<|u<|rem ti rfl rfl q16<|zn ?_))
      refine zyo ?_
      refine zdR (ze3 (rl rfl<|u<|eql ti rfl rfl<|u<|asg rfl<|zn ?_))
      refine zf9 rfl (fun hc17=>?_) (fun hc17=>?_)
      ·
       replace h:=bT hc17 h
       obtain ⟨v16,q18,h⟩:=bs h
       refine zro [_,_,_,_,_,_,_] _ [(0,.isl 6 (List.map zc v8)),(93,.agg (zi v5)),(94,.ipt 4 (List.map zi v12.Code) (Int.toNat v13) 0)] [] [] [6,5,4,3,2,1,0] [(94,.ipt 4 (List.map zi v12.Code) (Int.toNat v13) 0),(93,.agg (zi v5)),(92,iA v13),(91,.isl 4 (List.map zi v12.Code)),(90,.ipt 10 (List.map zd v10.Methods) (Int.toNat v11) 7),(89,.ipt 10 (List.map zd v10.Methods) (Int.toNat v11) 0),(88,.ipt 10 (List.map zd v10.Methods) (Int.toNat v11) 0)] 0 rfl (by kernel_rfl) (by kernel_rfl) rfl rfl (by kernel_rfl) (by kernel_rfl) rfl (by kernel_rfl) (dt0 ⟨(fun _=>pa rfl rfl rfl rfl (ixI ti rfl ti rfl rfl rfl q18<|⟨rfl,rfl⟩)),(fun _=>pa rfl rfl rfl rfl (ld ti rfl rfl<|⟨rfl,rfl⟩)),(fun _=>pa rfl rfl rfl rfl (mv rfl<|⟨rfl,rfl⟩)),(fun _=>pa rfl rfl rfl rfl (ldI ti rfl (zm q12).2.2 rfl<|⟨rfl,rfl⟩)),(fun _=>pa rfl rfl rfl rfl (fa ti rfl rfl rfl<|⟨rfl,rfl⟩)),(fun _=>pa rfl rfl rfl rfl (nc rfl rfl<|⟨rfl,rfl⟩)),(fun _=>pa rfl rfl rfl rfl (mv rfl<|⟨rfl,rfl⟩)),trivial⟩ (by kernel_rfl) rfl ⟨[],ce rfl rfl<|ce rfl rfl<|ce rfl rfl<|cn,rfl,trivial,rfl,Nat.le_of_ble_eq_true rfl⟩) ?_
       exact ziu (env0:=[]) (tl:=0) ti rfl (znJ (zm q18).2.2) rfl rfl rfl rfl rfl (zCT v16 hx) rfl rfl hW8 (fun _ _ h=>by cases h) rfl fun cs hcs=>⟨cs,hcs,[],ce rfl rfl<|cn,rfl,trivial,rfl,Nat.le_of_ble_eq_true rfl⟩
      ·
       replace h:=bF hc17 h
       refine zdR (ze3 (rl rfl<|u<|eql ti rfl rfl<|u<|asg rfl<|zn ?_))
       refine zf9 rfl (fun hc19=>?_) (fun hc19=>?_)
       ·
        replace h:=bT hc19 h
        obtain ⟨v17,q20,h⟩:=bs h
        obtain ⟨v18,q21,h⟩:=bs h
        obtain ⟨v19,q22,h⟩:=bs h
        obtain ⟨v20,q23,h⟩:=bs h
        obtain ⟨v21,q24,h⟩:=bs h
        refine zro [_,_,_,_,_,_,_,_,_,_,_,_,_,_,_,_,_,_,_,_] _ [(0,.isl 6 (List.map zc v8)),(114,.msl 0 0 (List.length v21)),(116,.ipt 10 (List.map zd v10.Methods) (Int.toNat v11) 7)] [some (4,List.map zi v21)] [7,9,10,17] [16,15,14,13,12,11,8,6,5,4,3,2,1,0] [(113,.isl 4 (List.map zi v18)),(112,iA v13),(111,.isl 4 (List.map zi v12.Code)),(110,.ipt 10 (List.map zd v10.Methods) (Int.toNat v11) 7),(109,.ipt 10 (List.map zd v10.Methods) (Int.toNat v11) 0),(108,.ipt 10 (List.map zd v10.Methods) (Int.toNat v11) 0),(105,.agg (zi v5)),(103,.isl 4 (List.map zi v17)),(102,iA v13),(101,.isl 4 (List.map zi v12.Code)),(100,.ipt 10 (List.map zd v10.Methods) (Int.toNat v11) 7),(99,.ipt 10 (List.map zd v10.Methods) (Int.toNat v11) 0),(98,.ipt 10 (List.map zd v10.Methods) (Int.toNat v11) 0),(97,.ipt 10 (List.map zd v10.Methods) (Int.toNat v11) 0)] 4 rfl (by kernel_rfl) (by kernel_rfl) rfl rfl (by kernel_rfl) (by kernel_rfl) rfl (by kernel_rfl) (dtS ⟨(fun _=>pa rfl rfl rfl rfl (slI (a:=v13) (b:=(List.length v12.Code:Int)) ti rfl ti rfl rfl (zfP rfl q21) rfl q21<|⟨rfl,rfl⟩)),(fun _=>pa rfl rfl rfl rfl (mv rfl<|⟨rfl,rfl⟩)),(fun _=>pa rfl rfl rfl rfl (ldI ti rfl (zm q12).2.2 rfl<|⟨rfl,rfl⟩)),(fun _=>pa rfl rfl rfl rfl (fa ti rfl rfl rfl<|⟨rfl,rfl⟩)),(fun _=>pa rfl rfl rfl rfl (nc rfl rfl<|⟨rfl,rfl⟩)),(fun _=>pa rfl rfl rfl rfl (mv rfl<|⟨rfl,rfl⟩)),(fun _=>pa rfl rfl rfl rfl (ld ti rfl rfl<|⟨rfl,rfl⟩)),(fun _=>pa rfl rfl rfl rfl (slI (a:=0) (b:=v13) ti rfl ti rfl rfl rfl (zjZ rfl q20) q20<|⟨rfl,rfl⟩)),(fun _=>pa rfl rfl rfl rfl (mv rfl<|⟨rfl,rfl⟩)),(fun _=>pa rfl rfl rfl rfl (ldI ti rfl (zm q12).2.2 rfl<|⟨rfl,rfl⟩)),(fun _=>pa rfl rfl rfl rfl (fa ti rfl rfl rfl<|⟨rfl,rfl⟩)),(fun _=>pa rfl rfl rfl rfl (nc rfl rfl<|⟨rfl,rfl⟩)),(fun _=>pa rfl rfl rfl rfl (mv rfl<|⟨rfl,rfl⟩)),(fun _=>pa rfl rfl rfl rfl (mv rfl<|⟨rfl,rfl⟩)),trivial⟩ (by kernel_rfl) rfl ⟨(fun _ _=>⟨_,rfl,rfl,apN (f:=zi) 1 ti rfl ti rfl rfl (by decide) ti rfl rfl rfl roI (fun _=>rfl) rfl q22<|⟨(.msl 1 0 (List.length v19)),[],[(104,.msl 1 0 (List.length v19))],rfl,rfl,by kernel_rfl,rfl,dtS ⟨(fun _=>pa rfl rfl rfl rfl (slI (a:=v13) (b:=(List.length v12.Code:Int)) ti rfl ti rfl rfl (zfP rfl q21) rfl q21<|⟨rfl,rfl⟩)),(fun _=>pa rfl rfl rfl rfl (mv rfl<|⟨rfl,rfl⟩)),(fun _=>pa rfl rfl rfl rfl (ldI ti rfl (zm q12).2.2 rfl<|⟨rfl,rfl⟩)),(fun _=>pa rfl rfl rfl rfl (fa ti rfl rfl rfl<|⟨rfl,rfl⟩)),(fun _=>pa rfl rfl rfl rfl (nc rfl rfl<|⟨rfl,rfl⟩)),(fun _=>pa rfl rfl rfl rfl (mv rfl<|⟨rfl,rfl⟩)),(fun _=>pa rfl rfl rfl rfl (ld ti rfl rfl<|⟨rfl,rfl⟩)),(fun h=>by cases h),(fun _=>pa rfl rfl rfl rfl (mv rfl<|⟨rfl,rfl⟩)),(fun _=>pa rfl rfl rfl rfl (ldI ti rfl (zm q12).2.2 rfl<|⟨rfl,rfl⟩)),(fun _=>pa rfl rfl rfl rfl (fa ti rfl rfl rfl<|⟨rfl,rfl⟩)),(fun _=>pa rfl rfl rfl rfl (nc rfl rfl<|⟨rfl,rfl⟩)),(fun _=>pa rfl rfl rfl rfl (mv rfl<|⟨rfl,rfl⟩)),(fun _=>pa rfl rfl rfl rfl (mv rfl<|⟨rfl,rfl⟩)),trivial⟩ (by kernel_rfl) rfl ⟨(fun h=>by cases h),(fun _ _=>⟨_,rfl,rfl,bl 2 ti rfl ti rfl (by decide) (by decide) rfl rfl rfl<|⟨(.msl 2 0 1),[],[(106,.msl 2 0 1)],rfl,rfl,by kernel_rfl,rfl,dtS ⟨(fun _=>pa rfl rfl rfl rfl (slI (a:=v13) (b:=(List.length v12.Code:Int)) ti rfl ti rfl rfl (zfP rfl q21) rfl q21<|⟨rfl,rfl⟩)),(fun _=>pa rfl rfl rfl rfl (mv rfl<|⟨rfl,rfl⟩)),(fun _=>pa rfl rfl rfl rfl (ldI ti rfl (zm q12).2.2 rfl<|⟨rfl,rfl⟩)),(fun _=>pa rfl rfl rfl rfl (fa ti rfl rfl rfl<|⟨rfl,rfl⟩)),(fun _=>pa rfl rfl rfl rfl (nc rfl rfl<|⟨rfl,rfl⟩)),(fun _=>pa rfl rfl rfl rfl (mv rfl<|⟨rfl,rfl⟩)),(fun h=>by cases h),(fun h=>by cases h),(fun _=>pa rfl rfl rfl rfl (mv rfl<|⟨rfl,rfl⟩)),(fun _=>pa rfl rfl rfl rfl (ldI ti rfl (zm q12).2.2 rfl<|⟨rfl,rfl⟩)),(fun _=>pa rfl rfl rfl rfl (fa ti rfl rfl rfl<|⟨rfl,rfl⟩)),(fun _=>pa rfl rfl rfl rfl (nc rfl rfl<|⟨rfl,rfl⟩)),(fun _=>pa rfl rfl rfl rfl (mv rfl<|⟨rfl,rfl⟩)),(fun _=>pa rfl rfl rfl rfl (mv rfl<|⟨rfl,rfl⟩)),trivial⟩ (by kernel_rfl) rfl ⟨(fun h=>by cases h),(fun h=>by cases h),(fun _ _=>⟨_,rfl,rfl,apM 3 ti rfl ti rfl rfl (by decide) ti rfl rfl rfl rfl (roX (f:=zi) (z:=[v5]) rfl rfl) (fun _=>rfl) rfl q23<|⟨(.msl 3 0 (List.length v20)),[],[(107,.msl 3 0 (List.length v20))],rfl,rfl,by kernel_rfl,rfl,dtS ⟨(fun _=>pa rfl rfl rfl rfl (slI (a:=v13) (b:=(List.length v12.Code:Int)) ti rfl ti rfl rfl (zfP rfl q21) rfl q21<|⟨rfl,rfl⟩)),(fun _=>pa rfl rfl rfl rfl (mv rfl<|⟨rfl,rfl⟩)),(fun _=>pa rfl rfl rfl rfl (ldI ti rfl (zm q12).2.2 rfl<|⟨rfl,rfl⟩)),(fun _=>pa rfl rfl rfl rfl (fa ti rfl rfl rfl<|⟨rfl,rfl⟩)),(fun _=>pa rfl rfl rfl rfl (nc rfl rfl<|⟨rfl,rfl⟩)),(fun _=>pa rfl rfl rfl rfl (mv rfl<|⟨rfl,rfl⟩)),(fun h=>by cases h),(fun h=>by cases h),(fun _=>pa rfl rfl rfl rfl (mv rfl<|⟨rfl,rfl⟩)),(fun _=>pa rfl rfl rfl rfl (ldI ti rfl (zm q12).2.2 rfl<|⟨rfl,rfl⟩)),(fun _=>pa rfl rfl rfl rfl (fa ti rfl rfl rfl<|⟨rfl,rfl⟩)),(fun _=>pa rfl rfl rfl rfl (nc rfl rfl<|⟨rfl,rfl⟩)),(fun _=>pa rfl rfl rfl rfl (mv rfl<|⟨rfl,rfl⟩)),(fun _=>pa rfl rfl rfl rfl (mv rfl<|⟨rfl,rfl⟩)),trivial⟩ (by kernel_rfl) rfl ⟨(fun h=>by cases h),(fun h=>by cases h),(fun h=>by cases h),(fun _ _=>⟨_,rfl,rfl,apM 4 ti rfl ti rfl rfl (by decide) ti rfl rfl rfl rfl roI (fun _=>rfl) rfl q24<|⟨(.msl 4 0 (List.length v21)),[19,18],[(116,.ipt 10 (List.map zd v10.Methods) (Int.toNat v11) 7),(115,.ipt 10 (List.map zd v10.Methods) (Int.toNat v11) 0),(114,.msl 4 0 (List.length v21))],rfl,rfl,by kernel_rfl,rfl,dt0 ⟨(fun _=>pa rfl rfl rfl rfl (fa ti rfl rfl rfl<|⟨rfl,rfl⟩)),(fun _=>pa rfl rfl rfl rfl (nc rfl rfl<|⟨rfl,rfl⟩)),(fun h=>by cases h),(fun _=>pa rfl rfl rfl rfl (mv rfl<|⟨rfl,rfl⟩)),(fun _=>pa rfl rfl rfl rfl (ldI ti rfl (zm q12).2.2 rfl<|⟨rfl,rfl⟩)),(fun _=>pa rfl rfl rfl rfl (fa ti rfl rfl rfl<|⟨rfl,rfl⟩)),(fun _=>pa rfl rfl rfl rfl (nc rfl rfl<|⟨rfl,rfl⟩)),(fun _=>pa rfl rfl rfl rfl (mv rfl<|⟨rfl,rfl⟩)),(fun h=>by cases h),(fun h=>by cases h),(fun _=>pa rfl rfl rfl rfl (mv rfl<|⟨rfl,rfl⟩)),(fun _=>pa rfl rfl rfl rfl (ldI ti rfl (zm q12).2.2 rfl<|⟨rfl,rfl⟩)),(fun _=>pa rfl rfl rfl rfl (fa ti rfl rfl rfl<|⟨rfl,rfl⟩)),(fun _=>pa rfl rfl rfl rfl (nc rfl rfl<|⟨rfl,rfl⟩)),(fun _=>pa rfl rfl rfl rfl (mv rfl<|⟨rfl,rfl⟩)),(fun _=>pa rfl rfl rfl rfl (mv rfl<|⟨rfl,rfl⟩)),trivial⟩ (by kernel_rfl) rfl ⟨[.old 4],ce rfl rfl<|cv rfl (.msl rfl)<|ce rfl rfl<|cn,rfl,⟨⟨_,rfl,zbs (fun _=>rfl)⟩,trivial⟩,rfl,Nat.le_of_ble_eq_true rfl⟩⟩⟩),trivial⟩⟩⟩),(fun _ h=>by cases h),trivial⟩⟩⟩),(fun _ h=>by cases h),(fun _ h=>by cases h),trivial⟩⟩⟩),(fun _ _=>⟨_,rfl,rfl,bl 1 ti rfl ti rfl (by decide) (by decide) rfl rfl rfl<|⟨(.msl 1 0 1),[],[(106,.msl 1 0 1)],rfl,rfl,by kernel_rfl,rfl,dtS ⟨(fun _=>pa rfl rfl rfl rfl (slI (a:=v13) (b:=(List.length v12.Code:Int)) ti rfl ti rfl rfl (zfP rfl q21) rfl q21<|⟨rfl,rfl⟩)),(fun _=>pa rfl rfl rfl rfl (mv rfl<|⟨rfl,rfl⟩)),(fun _=>pa rfl rfl rfl rfl (ldI ti rfl (zm q12).2.2 rfl<|⟨rfl,rfl⟩)),(fun _=>pa rfl rfl rfl rfl (fa ti rfl rfl rfl<|⟨rfl,rfl⟩)),(fun _=>pa rfl rfl rfl rfl (nc rfl rfl<|⟨rfl,rfl⟩)),(fun _=>pa rfl rfl rfl rfl (mv rfl<|⟨rfl,rfl⟩)),(fun h=>by cases h),(fun _=>pa rfl rfl rfl rfl (slI (a:=0) (b:=v13) ti rfl ti rfl rfl rfl (zjZ rfl q20) q20<|⟨rfl,rfl⟩)),(fun _=>pa rfl rfl rfl rfl (mv rfl<|⟨rfl,rfl⟩)),(fun _=>pa rfl rfl rfl rfl (ldI ti rfl (zm q12).2.2 rfl<|⟨rfl,rfl⟩)),(fun _=>pa rfl rfl rfl rfl (fa ti rfl rfl rfl<|⟨rfl,rfl⟩)),(fun _=>pa rfl rfl rfl rfl (nc rfl rfl<|⟨rfl,rfl⟩)),(fun _=>pa rfl rfl rfl rfl (mv rfl<|⟨rfl,rfl⟩)),(fun _=>pa rfl rfl rfl rfl (mv rfl<|⟨rfl,rfl⟩)),trivial⟩ (by kernel_rfl) rfl ⟨(fun _ _=>⟨_,rfl,rfl,apN (f:=zi) 2 ti rfl ti rfl rfl (by decide) ti rfl rfl rfl roI (fun _=>rfl) rfl q22<|⟨(.msl 2 0 (List.length v19)),[],[(104,.msl 2 0 (List.length v19))],rfl,rfl,by kernel_rfl,rfl,dtS ⟨(fun _=>pa rfl rfl rfl rfl (slI (a:=v13) (b:=(List.length v12.Code:Int)) ti rfl ti rfl rfl (zfP rfl q21) rfl q21<|⟨rfl,rfl⟩)),(fun _=>pa rfl rfl rfl rfl (mv rfl<|⟨rfl,rfl⟩)),(fun _=>pa rfl rfl rfl rfl (ldI ti rfl (zm q12).2.2 rfl<|⟨rfl,rfl⟩)),(fun _=>pa rfl rfl rfl rfl (fa ti rfl rfl rfl<|⟨rfl,rfl⟩)),(fun _=>pa rfl rfl rfl rfl (nc rfl rfl<|⟨rfl,rfl⟩)),(fun _=>pa rfl rfl rfl rfl (mv rfl<|⟨rfl,rfl⟩)),(fun h=>by cases h),(fun h=>by cases h),(fun _=>pa rfl rfl rfl rfl (mv rfl<|⟨rfl,rfl⟩)),(fun _=>pa rfl rfl rfl rfl (ldI ti rfl (zm q12).2.2 rfl<|⟨rfl,rfl⟩)),(fun _=>pa rfl rfl rfl rfl (fa ti rfl rfl rfl<|⟨rfl,rfl⟩)),(fun _=>pa rfl rfl rfl rfl (nc rfl rfl<|⟨rfl,rfl⟩)),(fun _=>pa rfl rfl rfl rfl (mv rfl<|⟨rfl,rfl⟩)),(fun _=>pa rfl rfl rfl rfl (mv rfl<|⟨rfl,rfl⟩)),trivial⟩ (by kernel_rfl) rfl ⟨(fun h=>by cases h),(fun h=>by cases h),(fun _ _=>⟨_,rfl,rfl,apM 3 ti rfl ti rfl rfl (by decide) ti rfl rfl rfl rfl (roX (f:=zi) (z:=[v5]) rfl rfl) (fun _=>rfl) rfl q23<|⟨(.msl 3 0 (List.length v20)),[],[(107,.msl 3 0 (List.length v20))],rfl,rfl,by kernel_rfl,rfl,dtS ⟨(fun _=>pa rfl rfl rfl rfl (slI (a:=v13) (b:=(List.length v12.Code:Int)) ti rfl ti rfl rfl (zfP rfl q21) rfl q21<|⟨rfl,rfl⟩)),(fun _=>pa rfl rfl rfl rfl (mv rfl<|⟨rfl,rfl⟩)),(fun _=>pa rfl rfl rfl rfl (ldI ti rfl (zm q12).2.2 rfl<|⟨rfl,rfl⟩)),(fun _=>pa rfl rfl rfl rfl (fa ti rfl rfl rfl<|⟨rfl,rfl⟩)),(fun _=>pa rfl rfl rfl rfl (nc rfl rfl<|⟨rfl,rfl⟩)),(fun _=>pa rfl rfl rfl rfl (mv rfl<|⟨rfl,rfl⟩)),(fun h=>by cases h),(fun h=>by cases h),(fun _=>pa rfl rfl rfl rfl (mv rfl<|⟨rfl,rfl⟩)),(fun _=>pa rfl rfl rfl rfl (ldI ti rfl (zm q12).2.2 rfl<|⟨rfl,rfl⟩)),(fun _=>pa rfl rfl rfl rfl (fa ti rfl rfl rfl<|⟨rfl,rfl⟩)),(fun _=>pa rfl rfl rfl rfl (nc rfl rfl<|⟨rfl,rfl⟩)),(fun _=>pa rfl rfl rfl rfl (mv rfl<|⟨rfl,rfl⟩)),(fun _=>pa rfl rfl rfl rfl (mv rfl<|⟨rfl,rfl⟩)),trivial⟩ (by kernel_rfl) rfl ⟨(fun h=>by cases h),(fun h=>by cases h),(fun h=>by cases h),(fun _ _=>⟨_,rfl,rfl,apM 4 ti rfl ti rfl rfl (by decide) ti rfl rfl rfl rfl roI (fun _=>rfl) rfl q24<|⟨(.msl 4 0 (List.length v21)),[19,18],[(116,.ipt 10 (List.map zd v10.Methods) (Int.toNat v11) 7),(115,.ipt 10 (List.map zd v10.Methods) (Int.toNat v11) 0),(114,.msl 4 0 (List.length v21))],rfl,rfl,by kernel_rfl,rfl,dt0 ⟨(fun _=>pa rfl rfl rfl rfl (fa ti rfl rfl rfl<|⟨rfl,rfl⟩)),(fun _=>pa rfl rfl rfl rfl (nc rfl rfl<|⟨rfl,rfl⟩)),(fun h=>by cases h),(fun _=>pa rfl rfl rfl rfl (mv rfl<|⟨rfl,rfl⟩)),(fun _=>pa rfl rfl rfl rfl (ldI ti rfl (zm q12).2.2 rfl<|⟨rfl,rfl⟩)),(fun _=>pa rfl rfl rfl rfl (fa ti rfl rfl rfl<|⟨rfl,rfl⟩)),(fun _=>pa rfl rfl rfl rfl (nc rfl rfl<|⟨rfl,rfl⟩)),(fun _=>pa rfl rfl rfl rfl (mv rfl<|⟨rfl,rfl⟩)),(fun h=>by cases h),(fun h=>by cases h),(fun _=>pa rfl rfl rfl rfl (mv rfl<|⟨rfl,rfl⟩)),(fun _=>pa rfl rfl rfl rfl (ldI ti rfl (zm q12).2.2 rfl<|⟨rfl,rfl⟩)),(fun _=>pa rfl rfl rfl rfl (fa ti rfl rfl rfl<|⟨rfl,rfl⟩)),(fun _=>pa rfl rfl rfl rfl (nc rfl rfl<|⟨rfl,rfl⟩)),(fun _=>pa rfl rfl rfl rfl (mv rfl<|⟨rfl,rfl⟩)),(fun _=>pa rfl rfl rfl rfl (mv rfl<|⟨rfl,rfl⟩)),trivial⟩ (by kernel_rfl) rfl ⟨[.old 4],ce rfl rfl<|cv rfl (.msl rfl)<|ce rfl rfl<|cn,rfl,⟨⟨_,rfl,zbs (fun _=>rfl)⟩,trivial⟩,rfl,Nat.le_of_ble_eq_true rfl⟩⟩⟩),trivial⟩⟩⟩),(fun _ h=>by cases h),trivial⟩⟩⟩),(fun h=>by cases h),(fun _ h=>by cases h),(fun _ h=>by cases h),trivial⟩⟩⟩),(fun _ h=>by cases h),(fun _ h=>by cases h),trivial⟩) ?_
        have hwn:wL zhB v21:=zA9 q24 (zA9 q23 (zA9 q22 zCX (zBf q20 hwc)) (zDJ hx)) (zBf q21 hwc)
        refine ztJ (E:=[(0,.isl 6 (List.map zc v8)),(114,.isl 4 (List.map zi v21)),(116,.ipt 10 (List.map zd v10.Methods) (Int.toNat v11) 7)]) (S:=[]) ⟨[],ce rfl rfl<|cv rfl (zij rfl rfl (fun _=>rfl))<|ce rfl rfl<|cn,rfl,trivial,rfl,Nat.le_of_ble_eq_true rfl⟩ ?_
        exact ziu (env0:=[]) (tl:=0) ti rfl (znJ (zm q12).2.2) rfl rfl rfl rfl rfl (zth rfl (.code hwn)) rfl rfl hW8 (fun _ _ h=>by cases h) rfl fun cs hcs=>⟨cs,hcs,[],ce rfl rfl<|cn,rfl,trivial,rfl,Nat.le_of_ble_eq_true rfl⟩
       ·
        replace h:=bF hc19 h
        refine zdR (ze3 (rl rfl<|u<|eql ti rfl rfl<|u<|asg rfl<|zn ?_))
        refine zf9 rfl (fun hc25=>?_) (fun hc25=>?_)
        ·
         replace h:=bT hc25 h
         obtain ⟨v22,q26,h⟩:=bs h
         obtain ⟨v23,q27,h⟩:=bs h
         obtain ⟨v24,q28,h⟩:=bs h
         obtain ⟨v25,q29,h⟩:=bs h
         refine zro [_,_,_,_,_,_,_,_,_,_,_,_,_,_,_,_,_,_] _ [(0,.isl 6 (List.map zc v8)),(134,.msl 0 0 (List.length v25)),(136,.ipt 10 (List.map zd v10.Methods) (Int.toNat v11) 7)] [some (4,List.map zi v25)] [7,15] [14,13,12,11,10,9,8,6,5,4,3,2,1,0] [(133,.isl 4 (List.map zi v23)),(132,iA (IntKind.i64.wrap (v13+1))),(131,iA v13),(130,.isl 4 (List.map zi v12.Code)),(129,.ipt 10 (List.map zd v10.Methods) (Int.toNat v11) 7),(128,.ipt 10 (List.map zd v10.Methods) (Int.toNat v11) 0),(127,.ipt 10 (List.map zd v10.Methods) (Int.toNat v11) 0),(125,.isl 4 (List.map zi v22)),(124,iA v13),(123,.isl 4 (List.map zi v12.Code)),(122,.ipt 10 (List.map zd v10.Methods) (Int.toNat v11) 7),(121,.ipt 10 (List.map zd v10.Methods) (Int.toNat v11) 0),(120,.ipt 10 (List.map zd v10.Methods) (Int.toNat v11) 0),(119,.ipt 10 (List.map zd v10.Methods) (Int.toNat v11) 0)] 2 rfl (by kernel_rfl) (by kernel_rfl) rfl rfl (by kernel_rfl) (by kernel_rfl) rfl (by kernel_rfl) (dtS ⟨(fun _=>pa rfl rfl rfl rfl (slI (a:=(IntKind.i64.wrap (v13+1))) (b:=(List.length v12.Code:Int)) ti rfl ti rfl rfl (zfP rfl q27) rfl q27<|⟨rfl,rfl⟩)),(fun _=>pa rfl rfl rfl rfl (add ti rfl rfl<|⟨rfl,rfl⟩)),(fun _=>pa rfl rfl rfl rfl (mv rfl<|⟨rfl,rfl⟩)),(fun _=>pa rfl rfl rfl rfl (ldI ti rfl (zm q12).2.2 rfl<|⟨rfl,rfl⟩)),(fun _=>pa rfl rfl rfl rfl (fa ti rfl rfl rfl<|⟨rfl,rfl⟩)),(fun _=>pa rfl rfl rfl rfl (nc rfl rfl<|⟨rfl,rfl⟩)),(fun _=>pa rfl rfl rfl rfl (mv rfl<|⟨rfl,rfl⟩)),(fun _=>pa rfl rfl rfl rfl (slI (a:=0) (b:=v13) ti rfl ti rfl rfl rfl (zjZ rfl q26) q26<|⟨rfl,rfl⟩)),(fun _=>pa rfl rfl rfl rfl (mv rfl<|⟨rfl,rfl⟩)),(fun _=>pa rfl rfl rfl rfl (ldI ti rfl (zm q12).2.2 rfl<|⟨rfl,rfl⟩)),(fun _=>pa rfl rfl rfl rfl (fa ti rfl rfl rfl<|⟨rfl,rfl⟩)),(fun _=>pa rfl rfl rfl rfl (nc rfl rfl<|⟨rfl,rfl⟩)),(fun _=>pa rfl rfl rfl rfl (mv rfl<|⟨rfl,rfl⟩)),(fun _=>pa rfl rfl rfl rfl (mv rfl<|⟨rfl,rfl⟩)),trivial⟩ (by kernel_rfl) rfl ⟨(fun _ _=>⟨_,rfl,rfl,apN (f:=zi) 1 ti rfl ti rfl rfl (by decide) ti rfl rfl rfl roI (fun _=>rfl) rfl q28<|⟨(.msl 1 0 (List.length v24)),[],[(126,.msl 1 0 (List.length v24))],rfl,rfl,by kernel_rfl,rfl,dtS ⟨(fun _=>pa rfl rfl rfl rfl (slI (a:=(IntKind.i64.wrap (v13+1))) (b:=(List.length v12.Code:Int)) ti rfl ti rfl rfl (zfP rfl q27) rfl q27<|⟨rfl,rfl⟩)),(fun _=>pa rfl rfl rfl rfl (add ti rfl rfl<|⟨rfl,rfl⟩)),(fun _=>pa rfl rfl rfl rfl (mv rfl<|⟨rfl,rfl⟩)),(fun _=>pa rfl rfl rfl rfl (ldI ti rfl (zm q12).2.2 rfl<|⟨rfl,rfl⟩)),(fun _=>pa rfl rfl rfl rfl (fa ti rfl rfl rfl<|⟨rfl,rfl⟩)),(fun _=>pa rfl rfl rfl rfl (nc rfl rfl<|⟨rfl,rfl⟩)),(fun _=>pa rfl rfl rfl rfl (mv rfl<|⟨rfl,rfl⟩)),(fun h=>by cases h),(fun _=>pa rfl rfl rfl rfl (mv rfl<|⟨rfl,rfl⟩)),(fun _=>pa rfl rfl rfl rfl (ldI ti rfl (zm q12).2.2 rfl<|⟨rfl,rfl⟩)),(fun _=>pa rfl rfl rfl rfl (fa ti rfl rfl rfl<|⟨rfl,rfl⟩)),(fun _=>pa rfl rfl rfl rfl (nc rfl rfl<|⟨rfl,rfl⟩)),(fun _=>pa rfl rfl rfl rfl (mv rfl<|⟨rfl,rfl⟩)),(fun _=>pa rfl rfl rfl rfl (mv rfl<|⟨rfl,rfl⟩)),trivial⟩ (by kernel_rfl) rfl ⟨(fun h=>by cases h),(fun _ _=>⟨_,rfl,rfl,apM 2 ti rfl ti rfl rfl (by decide) ti rfl rfl rfl rfl roI (fun _=>rfl) rfl q29<|⟨(.msl 2 0 (List.length v25)),[17,16],[(136,.ipt 10 (List.map zd v10.Methods) (Int.toNat v11) 7),(135,.ipt 10 (List.map zd v10.Methods) (Int.toNat v11) 0),(134,.msl 2 0 (List.length v25))],rfl,rfl,by kernel_rfl,rfl,dt0 ⟨(fun _=>pa rfl rfl rfl rfl (fa ti rfl rfl rfl<|⟨rfl,rfl⟩)),(fun _=>pa rfl rfl rfl rfl (nc rfl rfl<|⟨rfl,rfl⟩)),(fun h=>by cases h),(fun _=>pa rfl rfl rfl rfl (add ti rfl rfl<|⟨rfl,rfl⟩)),(fun _=>pa rfl rfl rfl rfl (mv rfl<|⟨rfl,rfl⟩)),(fun _=>pa rfl rfl rfl rfl (ldI ti rfl (zm q12).2.2 rfl<|⟨rfl,rfl⟩)),(fun _=>pa rfl rfl rfl rfl (fa ti rfl rfl rfl<|⟨rfl,rfl⟩)),(fun _=>pa rfl rfl rfl rfl (nc rfl rfl<|⟨rfl,rfl⟩)),(fun _=>pa rfl rfl rfl rfl (mv rfl<|⟨rfl,rfl⟩)),(fun h=>by cases h),(fun _=>pa rfl rfl rfl rfl (mv rfl<|⟨rfl,rfl⟩)),(fun _=>pa rfl rfl rfl rfl (ldI ti rfl (zm q12).2.2 rfl<|⟨rfl,rfl⟩)),(fun _=>pa rfl rfl rfl rfl (fa ti rfl rfl rfl<|⟨rfl,rfl⟩)),(fun _=>pa rfl rfl rfl rfl (nc rfl rfl<|⟨rfl,rfl⟩)),(fun _=>pa rfl rfl rfl rfl (mv rfl<|⟨rfl,rfl⟩)),(fun _=>pa rfl rfl rfl rfl (mv rfl<|⟨rfl,rfl⟩)),trivial⟩ (by kernel_rfl) rfl ⟨[.old 2],ce rfl rfl<|cv rfl (.msl rfl)<|ce rfl rfl<|cn,rfl,⟨⟨_,rfl,zbs (fun _=>rfl)⟩,trivial⟩,rfl,Nat.le_of_ble_eq_true rfl⟩⟩⟩),trivial⟩⟩⟩),(fun _ h=>by cases h),trivial⟩) ?_
         have hwn:wL zhB v25:=zA9 q29 (zA9 q28 zCX (zBf q26 hwc)) (zBf q27 hwc)
         refine ztJ (E:=[(0,.isl 6 (List.map zc v8)),(134,.isl 4 (List.map zi v25)),(136,.ipt 10 (List.map zd v10.Methods) (Int.toNat v11) 7)]) (S:=[]) ⟨[],ce rfl rfl<|cv rfl (zij rfl rfl (fun _=>rfl))<|ce rfl rfl<|cn,rfl,trivial,rfl,Nat.le_of_ble_eq_true rfl⟩ ?_
         exact ziu (env0:=[]) (tl:=0) ti rfl (znJ (zm q12).2.2) rfl rfl rfl rfl rfl (zth rfl (.code hwn)) rfl rfl hW8 (fun _ _ h=>by cases h) rfl fun cs hcs=>⟨cs,hcs,[],ce rfl rfl<|cn,rfl,trivial,rfl,Nat.le_of_ble_eq_true rfl⟩
        ·
         replace h:=bF hc25 h
         refine zdR (ze3 (rl rfl<|u<|eql ti rfl rfl<|u<|asg rfl<|zn ?_))
         refine zf9 rfl (fun hc30=>?_) (fun hc30=>?_)
         ·
          replace h:=bT hc30 h
          refine zBB rfl (zBx (l1:=[_,_,_,_,_,_,_]) (l2:=[_]) (u<|mv rfl<|u<|nc rfl rfl<|u<|fa ti rfl rfl rfl<|u<|ldI ti rfl (zm q12).2.2 rfl<|u<|sub ti rfl rfl<|u<|nc rfl rfl<|u<|fa ti rfl rfl rfl<|zn ?_))
          exact zBw rfl (ziu (env0:=[]) (tl:=0) ti rfl (znJ (zm q12).2.2) rfl rfl rfl rfl rfl (zth rfl (.int zCY)) rfl rfl hW8 (fun _ _ h=>by cases h) rfl fun cs hcs=>zzv ⟨cs,hcs,[],ce rfl rfl<|cn,rfl,trivial,rfl,Nat.le_of_ble_eq_true rfl⟩)
         ·
          replace h:=bF hc30 h
          refine zdR (ze3 (rl rfl<|u<|eql ti rfl rfl<|u<|asg rfl<|zn ?_))
          refine zf9 rfl (fun hc31=>?_) (fun hc31=>?_)
          ·
           replace h:=bT hc31 h
           refine zdR (ze3 (rl rfl<|u<|mv rfl<|u<|nc rfl rfl<|u<|fa ti rfl rfl rfl<|u<|ldI ti rfl (zm q12).2.2 rfl<|u<|lnI ti rfl rfl<|u<|gtr ti rfl rfl<|zn ?_))
           refine zf9 rfl (fun hc32=>?_) (fun hc32=>?_)
           ·
            replace h:=bT hc32 h
            obtain ⟨v26,q33,h⟩:=bs h
            refine zdR (ze3 (rl rfl<|u<|mv rfl<|u<|mv rfl<|u<|nc rfl rfl<|u<|fa ti rfl rfl rfl<|u<|ldI ti rfl (zm q12).2.2 rfl<|u<|lnI ti rfl rfl<|u<|rem ti rfl rfl q33<|u<|asg rfl<|zn ?_))
            obtain ⟨v27,q34,h⟩:=bs h
            obtain ⟨v28,q35,h⟩:=bs h
            obtain ⟨v29,q36,h⟩:=bs h
            obtain ⟨v30,q37,h⟩:=bs h
            refine zro [_,_,_,_,_,_,_,_,_,_,_,_,_,_,_,_,_,_] _ [(0,.isl 6 (List.map zc v8)),(176,.msl 0 0 (List.length v30)),(178,.ipt 10 (List.map zd v10.Methods) (Int.toNat v11) 8)] [some (3,List.map zx v30)] [7,15] [14,13,12,11,10,9,8,6,5,4,3,2,1,0] [(175,.isl 3 (List.map zx v28)),(174,iA (IntKind.i64.wrap (v26+1))),(173,iA v26),(172,.isl 3 (List.map zx v12.Maps)),(171,.ipt 10 (List.map zd v10.Methods) (Int.toNat v11) 8),(170,.ipt 10 (List.map zd v10.Methods) (Int.toNat v11) 0),(169,.ipt 10 (List.map zd v10.Methods) (Int.toNat v11) 0),(167,.isl 3 (List.map zx v27)),(166,iA v26),(165,.isl 3 (List.map zx v12.Maps)),(164,.ipt 10 (List.map zd v10.Methods) (Int.toNat v11) 8),(163,.ipt 10 (List.map zd v10.Methods) (Int.toNat v11) 0),(162,.ipt 10 (List.map zd v10.Methods) (Int.toNat v11) 0),(161,.ipt 10 (List.map zd v10.Methods) (Int.toNat v11) 0)] 2 rfl (by kernel_rfl) (by kernel_rfl) rfl rfl (by kernel_rfl) (by kernel_rfl) rfl (by kernel_rfl) (dtS ⟨(fun _=>pa rfl rfl rfl rfl (slI (a:=(IntKind.i64.wrap (v26+1))) (b:=(List.length v12.Maps:Int)) ti rfl ti rfl rfl (zfP rfl q35) rfl q35<|⟨rfl,rfl⟩)),(fun _=>pa rfl rfl rfl rfl (add ti rfl rfl<|⟨rfl,rfl⟩)),(fun _=>pa rfl rfl rfl rfl (mv rfl<|⟨rfl,rfl⟩)),(fun _=>pa rfl rfl rfl rfl (ldI ti rfl (zm q12).2.2 rfl<|⟨rfl,rfl⟩)),(fun _=>pa rfl rfl rfl rfl (fa ti rfl rfl rfl<|⟨rfl,rfl⟩)),(fun _=>pa rfl rfl rfl rfl (nc rfl rfl<|⟨rfl,rfl⟩)),(fun _=>pa rfl rfl rfl rfl (mv rfl<|⟨rfl,rfl⟩)),(fun _=>pa rfl rfl rfl rfl (slI (a:=0) (b:=v26) ti rfl ti rfl rfl rfl (zjZ rfl q34) q34<|⟨rfl,rfl⟩)),(fun _=>pa rfl rfl rfl rfl (mv rfl<|⟨rfl,rfl⟩)),(fun _=>pa rfl rfl rfl rfl (ldI ti rfl (zm q12).2.2 rfl<|⟨rfl,rfl⟩)),(fun _=>pa rfl rfl rfl rfl (fa ti rfl rfl rfl<|⟨rfl,rfl⟩)),(fun _=>pa rfl rfl rfl rfl (nc rfl rfl<|⟨rfl,rfl⟩)),(fun _=>pa rfl rfl rfl rfl (mv rfl<|⟨rfl,rfl⟩)),(fun _=>pa rfl rfl rfl rfl (mv rfl<|⟨rfl,rfl⟩)),trivial⟩ (by kernel_rfl) rfl ⟨(fun _ _=>⟨_,rfl,rfl,apN (f:=zx) 1 ti rfl ti rfl rfl (by decide) ti rfl rfl rfl roI (fun _=>rfl) rfl q36<|⟨(.msl 1 0 (List.length v29)),[],[(168,.msl 1 0 (List.length v29))],rfl,rfl,by kernel_rfl,rfl,dtS ⟨(fun _=>pa rfl rfl rfl rfl (slI (a:=(IntKind.i64.wrap (v26+1))) (b:=(List.length v12.Maps:Int)) ti rfl ti rfl rfl (zfP rfl q35) rfl q35<|⟨rfl,rfl⟩)),(fun _=>pa rfl rfl rfl rfl (add ti rfl rfl<|⟨rfl,rfl⟩)),(fun _=>pa rfl rfl rfl rfl (mv rfl<|⟨rfl,rfl⟩)),(fun _=>pa rfl rfl rfl rfl (ldI ti rfl (zm q12).2.2 rfl<|⟨rfl,rfl⟩)),(fun _=>pa rfl rfl rfl rfl (fa ti rfl rfl rfl<|⟨rfl,rfl⟩)),(fun _=>pa rfl rfl rfl rfl (nc rfl rfl<|⟨rfl,rfl⟩)),(fun _=>pa rfl rfl rfl rfl (mv rfl<|⟨rfl,rfl⟩)),(fun h=>by cases h),(fun _=>pa rfl rfl rfl rfl (mv rfl<|⟨rfl,rfl⟩)),(fun _=>pa rfl rfl rfl rfl (ldI ti rfl (zm q12).2.2 rfl<|⟨rfl,rfl⟩)),(fun _=>pa rfl rfl rfl rfl (fa ti rfl rfl rfl<|⟨rfl,rfl⟩)),(fun _=>pa rfl rfl rfl rfl (nc rfl rfl<|⟨rfl,rfl⟩)),(fun _=>pa rfl rfl rfl rfl (mv rfl<|⟨rfl,rfl⟩)),(fun _=>pa rfl rfl rfl rfl (mv rfl<|⟨rfl,rfl⟩)),trivial⟩ (by kernel_rfl) rfl ⟨(fun h=>by cases h),(fun _ _=>⟨_,rfl,rfl,apM 2 ti rfl ti rfl rfl (by decide) ti rfl rfl rfl rfl roI (fun _=>rfl) rfl q37<|⟨(.msl 2 0 (List.length v30)),[17,16],[(178,.ipt 10 (List.map zd v10.Methods) (Int.toNat v11) 8),(177,.ipt 10 (List.map zd v10.Methods) (Int.toNat v11) 0),(176,.msl 2 0 (List.length v30))],rfl,rfl,by kernel_rfl,rfl,dt0 ⟨(fun _=>pa rfl rfl rfl rfl (fa ti rfl rfl rfl<|⟨rfl,rfl⟩)),(fun _=>pa rfl rfl rfl rfl (nc rfl rfl<|⟨rfl,rfl⟩)),(fun h=>by cases h),(fun _=>pa rfl rfl rfl rfl (add ti rfl rfl<|⟨rfl,rfl⟩)),(fun _=>pa rfl rfl rfl rfl (mv rfl<|⟨rfl,rfl⟩)),(fun _=>pa rfl rfl rfl rfl (ldI ti rfl (zm q12).2.2 rfl<|⟨rfl,rfl⟩)),(fun _=>pa rfl rfl rfl rfl (fa ti rfl rfl rfl<|⟨rfl,rfl⟩)),(fun _=>pa rfl rfl rfl rfl (nc rfl rfl<|⟨rfl,rfl⟩)),(fun _=>pa rfl rfl rfl rfl (mv rfl<|⟨rfl,rfl⟩)),(fun h=>by cases h),(fun _=>pa rfl rfl rfl rfl (mv rfl<|⟨rfl,rfl⟩)),(fun _=>pa rfl rfl rfl rfl (ldI ti rfl (zm q12).2.2 rfl<|⟨rfl,rfl⟩)),(fun _=>pa rfl rfl rfl rfl (fa ti rfl rfl rfl<|⟨rfl,rfl⟩)),(fun _=>pa rfl rfl rfl rfl (nc rfl rfl<|⟨rfl,rfl⟩)),(fun _=>pa rfl rfl rfl rfl (mv rfl<|⟨rfl,rfl⟩)),(fun _=>pa rfl rfl rfl rfl (mv rfl<|⟨rfl,rfl⟩)),trivial⟩ (by kernel_rfl) rfl ⟨[.old 2],ce rfl rfl<|cv rfl (.msl rfl)<|ce rfl rfl<|cn,rfl,⟨⟨_,rfl,zbs (fun _=>rfl)⟩,trivial⟩,rfl,Nat.le_of_ble_eq_true rfl⟩⟩⟩),trivial⟩⟩⟩),(fun _ h=>by cases h),trivial⟩) ?_
            have hwn:wL zhC v30:=zA9 q37 (zA9 q36 zCX (zBf q34 hwm)) (zBf q35 hwm)
            refine ztJ (E:=[(0,.isl 6 (List.map zc v8)),(176,.isl 3 (List.map zx v30)),(178,.ipt 10 (List.map zd v10.Methods) (Int.toNat v11) 8)]) (S:=[]) ⟨[],ce rfl rfl<|cv rfl (zij rfl rfl (fun _=>rfl))<|ce rfl rfl<|cn,rfl,trivial,rfl,Nat.le_of_ble_eq_true rfl⟩ ?_
            exact ziu (env0:=[]) (tl:=0) ti rfl (znJ (zm q12).2.2) rfl rfl rfl rfl rfl (zth rfl (.maps hwn)) rfl rfl hW8 (fun _ _ h=>by cases h) rfl fun cs hcs=>⟨cs,hcs,[],ce rfl rfl<|cn,rfl,trivial,rfl,Nat.le_of_ble_eq_true rfl⟩
           ·
            replace h:=bF hc32 h
            exact ze3 (ze ⟨v8,hW8,[],ce rfl rfl<|cn,rfl,trivial,rfl,Nat.le_of_ble_eq_true rfl⟩)
          ·
           replace h:=bF hc31 h
           refine zdR (ze3 (rl rfl<|u<|eql ti rfl rfl<|u<|asg rfl<|zn ?_))
           refine zf9 rfl (fun hc38=>?_) (fun hc38=>?_)
           ·
            replace h:=bT hc38 h
            refine zdR (ze3 (rl rfl<|u<|mv rfl<|u<|nc rfl rfl<|u<|fa ti rfl rfl rfl<|u<|ldI ti rfl (zm q12).2.2 rfl<|u<|lnI ti rfl rfl<|u<|gtr ti rfl rfl<|zn ?_))
            refine zf9 rfl (fun hc39=>?_) (fun hc39=>?_)
            ·
             replace h:=bT hc39 h
             obtain ⟨v31,q40,h⟩:=bs h
             refine zdR (ze3 (rl rfl<|u<|mv rfl<|u<|mv rfl<|u<|nc rfl rfl<|u<|fa ti rfl rfl rfl<|u<|ldI ti rfl (zm q12).2.2 rfl<|u<|lnI ti rfl rfl<|u<|rem ti rfl rfl q40<|u<|asg rfl<|zn ?_))
             obtain ⟨v32,q41,h⟩:=bs h
             refine zdR (ze3 (rl rfl<|u<|mv rfl<|u<|nc rfl rfl<|u<|fa ti rfl rfl rfl<|u<|ldI ti rfl (zm q12).2.2 rfl<|u<|mv rfl<|u<|ixI ti rfl ti rfl rfl rfl q41<|u<|fa ti rfl rfl rfl<|u<|ldI ti rfl (zm q41).2.2 rfl<|u<|lnI ti rfl rfl<|u<|gtr ti rfl rfl<|zn ?_))
             refine zf9 rfl (fun hc42=>?_) (fun hc42=>?_)
             ·
              replace h:=bT hc42 h
              obtain ⟨v33,q43,h⟩:=bs h
              obtain ⟨v34,q44,h⟩:=bs h
              obtain ⟨v35,q45,h⟩:=bs h
              obtain ⟨v36,q46,h⟩:=bs h
              refine zro [_,_,_,_,_,_,_,_,_,_,_,_,_,_,_,_,_,_,_,_,_] _ [(0,.isl 6 (List.map zc v8)),(223,sA v6),(224,.ipt 1 (List.map zt v33.Locals) (Int.toNat v35) 0)] [] [] [20,19,18,17,16,15,14,13,12,11,10,9,8,7,6,5,4,3,2,1,0] [(224,.ipt 1 (List.map zt v33.Locals) (Int.toNat v35) 0),(223,sA v6),(222,iA v35),(221,iA (List.length v34.Locals:Int)),(220,.isl 1 (List.map zt v34.Locals)),(219,.ipt 3 (List.map zx v12.Maps) (Int.toNat v31) 1),(218,.ipt 3 (List.map zx v12.Maps) (Int.toNat v31) 0),(217,iA v31),(216,.isl 3 (List.map zx v12.Maps)),(215,.ipt 10 (List.map zd v10.Methods) (Int.toNat v11) 8),(214,.ipt 10 (List.map zd v10.Methods) (Int.toNat v11) 0),(213,.ipt 10 (List.map zd v10.Methods) (Int.toNat v11) 0),(212,iA v3),(211,.isl 1 (List.map zt v33.Locals)),(210,.ipt 3 (List.map zx v12.Maps) (Int.toNat v31) 1),(209,.ipt 3 (List.map zx v12.Maps) (Int.toNat v31) 0),(208,iA v31),(207,.isl 3 (List.map zx v12.Maps)),(206,.ipt 10 (List.map zd v10.Methods) (Int.toNat v11) 8),(205,.ipt 10 (List.map zd v10.Methods) (Int.toNat v11) 0),(204,.ipt 10 (List.map zd v10.Methods) (Int.toNat v11) 0)] 0 rfl (by kernel_rfl) (by kernel_rfl) rfl rfl (by kernel_rfl) (by kernel_rfl) rfl (by kernel_rfl) (dt0 ⟨(fun _=>pa rfl rfl rfl rfl (ixI ti rfl ti rfl rfl rfl q46<|⟨rfl,rfl⟩)),(fun _=>pa rfl rfl rfl rfl (mv rfl<|⟨rfl,rfl⟩)),(fun _=>pa rfl rfl rfl rfl (rem ti rfl rfl q45<|⟨rfl,rfl⟩)),(fun _=>pa rfl rfl rfl rfl (lnI ti rfl rfl<|⟨rfl,rfl⟩)),(fun _=>pa rfl rfl rfl rfl (ldI ti rfl (zm q44).2.2 rfl<|⟨rfl,rfl⟩)),(fun _=>pa rfl rfl rfl rfl (fa ti rfl rfl rfl<|⟨rfl,rfl⟩)),(fun _=>pa rfl rfl rfl rfl (ixI ti rfl ti rfl rfl rfl q44<|⟨rfl,rfl⟩)),(fun _=>pa rfl rfl rfl rfl (mv rfl<|⟨rfl,rfl⟩)),(fun _=>pa rfl rfl rfl rfl (ldI ti rfl (zm q12).2.2 rfl<|⟨rfl,rfl⟩)),(fun _=>pa rfl rfl rfl rfl (fa ti rfl rfl rfl<|⟨rfl,rfl⟩)),(fun _=>pa rfl rfl rfl rfl (nc rfl rfl<|⟨rfl,rfl⟩)),(fun _=>pa rfl rfl rfl rfl (mv rfl<|⟨rfl,rfl⟩)),(fun _=>pa rfl rfl rfl rfl (mv rfl<|⟨rfl,rfl⟩)),(fun _=>pa rfl rfl rfl rfl (ldI ti rfl (zm q43).2.2 rfl<|⟨rfl,rfl⟩)),(fun _=>pa rfl rfl rfl rfl (fa ti rfl rfl rfl<|⟨rfl,rfl⟩)),(fun _=>pa rfl rfl rfl rfl (ixI ti rfl ti rfl rfl rfl q43<|⟨rfl,rfl⟩)),(fun _=>pa rfl rfl rfl rfl (mv rfl<|⟨rfl,rfl⟩)),(fun _=>pa rfl rfl rfl rfl (ldI ti rfl (zm q12).2.2 rfl<|⟨rfl,rfl⟩)),(fun _=>pa rfl rfl rfl rfl (fa ti rfl rfl rfl<|⟨rfl,rfl⟩)),(fun _=>pa rfl rfl rfl rfl (nc rfl rfl<|⟨rfl,rfl⟩)),(fun _=>pa rfl rfl rfl rfl (mv rfl<|⟨rfl,rfl⟩)),trivial⟩ (by kernel_rfl) rfl ⟨[],ce rfl rfl<|ce rfl rfl<|ce rfl rfl<|cn,rfl,trivial,rfl,Nat.le_of_ble_eq_true rfl⟩) ?_
              exact ziu (env0:=[]) (tl:=0) ti rfl (znJ (zm q46).2.2) rfl rfl rfl rfl rfl (zth rfl (.str hs)) rfl rfl hW8 (fun _ _ h=>by cases h) rfl fun cs hcs=>⟨cs,hcs,[],ce rfl rfl<|cn,rfl,trivial,rfl,Nat.le_of_ble_eq_true rfl⟩
             ·
              replace h:=bF hc42 h
              exact ze3 (ze ⟨v8,hW8,[],ce rfl rfl<|cn,rfl,trivial,rfl,Nat.le_of_ble_eq_true rfl⟩)
            ·
             replace h:=bF hc39 h
             exact ze3 (ze ⟨v8,hW8,[],ce rfl rfl<|cn,rfl,trivial,rfl,Nat.le_of_ble_eq_true rfl⟩)
           ·
            replace h:=bF hc38 h
            refine zdR (ze3 (rl rfl<|u<|eql ti rfl rfl<|u<|asg rfl<|zn ?_))
            refine zf9 rfl (fun hc47=>?_) (fun hc47=>?_)
            ·
             replace h:=bT hc47 h
             refine zdR (ze3 (rl rfl<|u<|mv rfl<|u<|nc rfl rfl<|u<|fa ti rfl rfl rfl<|u<|ldI ti rfl (zm q12).2.2 rfl<|u<|lnI ti rfl rfl<|u<|gtr ti rfl rfl<|zn ?_))
             refine zf9 rfl (fun hc48=>?_) (fun hc48=>?_)
             ·
              replace h:=bT hc48 h
              obtain ⟨v37,q49,h⟩:=bs h
              refine zdR (ze3 (rl rfl<|u<|mv rfl<|u<|mv rfl<|u<|nc rfl rfl<|u<|fa ti rfl rfl rfl<|u<|ldI ti rfl (zm q12).2.2 rfl<|u<|lnI ti rfl rfl<|u<|rem ti rfl rfl q49<|u<|asg rfl<|zn ?_))
              obtain ⟨v38,q50,h⟩:=bs h
              exact r36 (zm q12).2.2 q50 hW8 hwm hs (hW2 v8 q3 v10 (List.mem_of_getElem? (zm q9).2.2) v12 (List.mem_of_getElem? (zm q12).2.2) v38 (List.mem_of_getElem? (zm q50).2.2)) rfl rfl rfl rfl rfl rfl rfl (by kernel_rfl) (by kernel_rfl) (by kernel_rfl) (by kernel_rfl) (by kernel_rfl) (by kernel_rfl) (by kernel_rfl) (by kernel_rfl) (by kernel_rfl) (by kernel_rfl) (by kernel_rfl) (fun _ _ _ h=>h) fun cs hcs st'=>⟨cs,hcs,[],ce rfl rfl<|cn,rfl,trivial,rfl,Nat.le_of_ble_eq_true rfl⟩
             ·
              replace h:=bF hc48 h
              exact ze3 (ze ⟨v8,hW8,[],ce rfl rfl<|cn,rfl,trivial,rfl,Nat.le_of_ble_eq_true rfl⟩)
            ·
             replace h:=bF hc47 h
             refine zBB rfl (zBx (l1:=[_,_,_,_]) (l2:=[_]) (u<|mv rfl<|u<|mv rfl<|u<|nc rfl rfl<|u<|fa ti rfl rfl rfl<|zn ?_))
             exact zBw rfl (ziu (env0:=[]) (tl:=0) ti rfl (znJ (zm q12).2.2) rfl rfl rfl rfl rfl (zth rfl (.str hs)) rfl rfl hW8 (fun _ _ h=>by cases h) rfl fun cs hcs=>zzv ⟨cs,hcs,[],ce rfl rfl<|cn,rfl,trivial,rfl,Nat.le_of_ble_eq_true rfl⟩)
     ·
      rintro env st ⟨cs,hcs,hc⟩
      obtain ⟨x,q51,q52⟩:=hall cs hcs
      refine zBy hc (ze3 ?_)
      exact rg rfl<|u<|mv rfl<|u<|sc [] (zsL cs q51) rfl rfl rfl rfl ⟨(rnI rfl),trivial⟩ trivial<|u<|pcs (znC x q52) rfl rfl (.cons (zgK rfl (fun _=>rfl)) .nil) zbF<|u<|asg rfl<|zn<|zD rfl
theorem zB{α:Type}(l:List α)(i:Nat):idx l (i:Int)=l[i]?:=by
 unfold idx
 rw [if_pos (by omega),Int.toNat_natCast]
theorem zhH{α:Type}(l:List α):idx l 0=l[0]?:=zB l 0
theorem zjY{n:Int}(h1:-9223372036854775808≤n)(h2:n≤9223372036854775807):IntKind.i64.wrap n=n:=IntWalk.i64_in n ⟨h1,h2⟩
theorem zaa{i:Nat}(h:i<9223372036854775807):IntKind.i64.wrap ((i:Int)+1)=((i+1:Nat):Int):=by
 rw [zjY (by omega) (by omega)];omega
theorem zrk{α:Type}{l:List α}{a b:Int}(h0:0≤a)(h1:a≤b)(h2:b≤l.length):zhs l a b=some ((l.drop a.toNat).take (b.toNat-a.toNat)):=by
 unfold zhs;rw [if_pos ⟨h0,h1,h2⟩]
theorem zm0{α:Type}{l:List α}{b:Nat}(h:b≤l.length):zhs l 0 (b:Int)=some (l.take b):=by
 rw [zrk (by omega) (by omega) (by omega)];simp
theorem zhg{α:Type}{l:List α}{a:Nat}(h:a≤l.length):zhs l (a:Int) (l.length:Int)=some (l.drop a):=by
 rw [zrk (by omega) (by omega) (by omega)]
 simp only [Int.toNat_natCast]
 rw [List.take_of_length_le (by simp)]
theorem zcE{α:Type}{w:Nat}{l x:List α}(h:(l.length+x.length)*w≤140737488355328)(h2:l.length+x.length≤9223372036854775807):zfY w l x=some (l++x):=by
 unfold zfY;rw [if_pos ⟨h,h2⟩]
theorem zvU{l x:List UInt8}(h:l.length+x.length≤9223372036854775807):zzs l x=some (l++x):=by unfold zzs;rw [if_pos h]
def zop{R U:Type}(u:U):Option R→Sum U R
 |some r=>.inr r
 |none=>.inl u
def ztq{R U:Type}(i:Nat):Option R→Sum Int (Sum U R)
 |some r=>.inr (.inr r)
 |none=>.inl ((i+1:Nat):Int)
theorem zkv{α R U:Type}{body:Int→Option (Sum Int (Sum U R))}{l:List α}{g:α→Option R}{u:U}{k:Nat}
  (hb:∀(i:Nat) x,k≤i→l[i]?=some x→body (i:Int)=some (ztq i (g x)))
  (he:body (l.length:Int)=some (.inr (.inl u))) (hk:k≤l.length):zs body (k:Int)=some (zop u ((l.drop k).findSome? g)):=by
 have key:∀d i,l.length-i=d→k≤i→i≤l.length→zs body (i:Int)=some (zop u ((l.drop i).findSome? g)):=by
  intro d
  induction d with
  |zero =>
   intro i hd hki hi
   have:i=l.length:=by omega
   subst this
   rw [zJ,he,List.drop_length]
   rfl
  |succ d ih =>
   intro i hd hki hi
   have hlt:i<l.length:=by omega
   rw [zJ,hb i l[i] hki (List.getElem?_eq_getElem hlt),List.drop_eq_getElem_cons hlt,List.findSome?_cons]
   cases g l[i] with
   |some r=>rfl
   |none =>
    show zs body ((i+1:Nat):Int)=_
    exact ih (i+1) (by omega) (by omega) (by omega)
 exact key _ k rfl (Nat.le_refl _) hk
theorem zex{α R U:Type}{body:Int→Option (Sum Int (Sum U R))}{l:List α}{g:α→Option R}{u:U}
  (hb:∀(i:Nat) x,l[i]?=some x→body (i:Int)=some (ztq i (g x)))
  (he:body (l.length:Int)=some (.inr (.inl u))):zs body 0=some (zop u (l.findSome? g)):=
 zkv (k:=0) (fun i x _=>hb i x) he (Nat.zero_le _)
theorem zuY{R U:Type}{body:Int→Option (Sum Int (Sum U R))}{n:Nat}{g:Nat→Option R}{u:U}
  (hb:∀i,i<n→body (i:Int)=some (ztq i (g i)))
  (he:body (n:Int)=some (.inr (.inl u))):zs body 0=some (zop u ((List.range n).findSome? g)):=by
 have h:=zex (body:=body) (l:=List.range n) (g:=g) (u:=u) (fun i x hx=>by
  have hi:i<n:=by
   have:=(List.getElem?_eq_some_iff.1 hx).1
   simpa using this
  have hx':x=i:=by
   have:=(List.getElem?_eq_some_iff.1 hx).2
   simpa using this.symm
  subst hx'
  exact hb x hi) (by rw [List.length_range];exact he)
 exact h
theorem zcG{α R:Type}(l:List α)(p:α→Bool)(r:R):l.findSome? (fun x=>cond (p x) (some r) none)=cond (l.any p) (some r) none:=by
 induction l with
 |nil=>rfl
 |cons x l ih =>
  rw [List.findSome?_cons,List.any_cons]
  cases p x with
  |true=>rfl
  |false=>simpa using ih
def zig(n:Int):Nat:=if n<0 then (-2*n-1).toNat else (2*n).toNat
def zC9:Nat→Nat→List UInt8
 | 0,_=>[]
 |k+1,u=>if 127<u then UInt8.ofNat (u % 128+128)::zC9 k (u / 128) else [UInt8.ofNat u]
def put(n:Int):List UInt8:=zC9 10 (zig n)
def okC(x:UInt8):Bool:=zb5 x||zc2 x||zgh x
def zuS(p:UInt8→Bool):List UInt8→Bool
 | []=>false
 |x :: _=>p x
def znp(s:List UInt8):Bool:=s.all okC&&(!(s == [])&&decide ((s.length:Int)≤8))
def zbA(s:List UInt8):Bool:=znp s&&decide (1<(s.length:Int))&&zuS zc2 s
def zoK(s:List UInt8):Bool:=(s == [36,105,110,105,116])||(znp s&&zuS zb5 s)
def zeT:List UInt8→List UInt8
 | []=>[]
 |x ::r=>if x=91 then r else x ::r
def ze5(s:List UInt8):Bool:=(zeT (zeT s) == [73])||zbA (zeT (zeT s))
def zn6(s:List UInt8):Bool:=!(s == [73])&&ze5 s
def zr2(s:List UInt8):Bool:=(s == [86])||ze5 s
abbrev Len(s:List UInt8):Prop:=s.length≤9223372036854775807
theorem zsT{α:Type}(l:List α)(p:α→Bool):l.any (fun x=>!p x)=!l.all p:=by
 induction l with
 |nil=>rfl
 |cons x l ih=>rw [List.any_cons,List.all_cons,ih];cases p x <;> rfl
theorem znz{s:List UInt8}(h:Len s):zkt s=some (znp s):=by
 have hl:zs (fun z=>zgi s z) 0=_:=zex (l:=s) (g:=fun x=>cond (!okC x) (some false) none) (u:=()) (fun i x hx=>by
  have hi:=(List.getElem?_eq_some_iff.1 hx).1
  show zgi s (i:Int)=_
  unfold zgi
  rw [zB,hx,decide_eq_true (by omega),zaa (by unfold Len at h;omega)]
  unfold okC
  cases h1:zb5 x <;> cases h2:zc2 x <;> cases h3:zgh x <;> simp [h1,h2,h3,ztq]) (by
  show zgi s (s.length:Int)=_
  unfold zgi
  rw [decide_eq_false (by omega)]
  rfl)
 unfold zkt
 rw [hl,zcG,zsT]
 unfold znp
 cases s.all okC <;> rfl
theorem zk7(p:UInt8→Bool)(x:UInt8)(r:List UInt8):zuS p (x ::r)=p x:=rfl
theorem zuw{s:List UInt8}(h:znp s=true):∃x r,s=x ::r:=by
 cases s with
 |nil=>exact absurd h (by decide)
 |cons x r=>exact ⟨x,r,rfl⟩
theorem zfA{s:List UInt8}(h:Len s):zfz s=some (zbA s):=by
 unfold zfz
 rw [znz h,zhH]
 unfold zbA
 cases hw:znp s with
 |false=>rfl
 |true =>
  obtain ⟨x,r,rfl⟩:=zuw hw
  simp only [Option.bind_some,Bool.true_and,List.getElem?_cons_zero]
  cases decide (1<((x ::r).length:Int)) <;> rfl
theorem zks{s:List UInt8}(h:Len s):ziX s=some (zoK s):=by
 unfold ziX
 rw [znz h,zhH]
 unfold zoK
 cases s == [36,105,110,105,116] with
 |true=>rfl
 |false =>
  cases hw:znp s with
  |false=>rfl
  |true =>
   obtain ⟨x,r,rfl⟩:=zuw hw
   rfl
theorem zfH(x:UInt8)(r:List UInt8):zeT (x ::r)=if x=91 then r else x ::r:=rfl
theorem zmS(s:List UInt8):(zeT s).length≤s.length:=by
 cases s with
 |nil=>exact Nat.le_refl _
 |cons x r=>rw [zfH];split <;> simp
theorem zxN{s:List UInt8}(h:Len s):zef s [91]=some (zeT s):=by
 unfold zef zcm zcK
 cases s with
 |nil=>rfl
 |cons x r =>
  have e1:decide ((List.length [(91:UInt8)]:Int)≤(List.length (x ::r):Int))=true:=decide_eq_true (by simp only [List.length_cons,List.length_nil];omega)
  have e2:zhs (x ::r) 0 (List.length [(91:UInt8)]:Int)=some [x]:=by
   have:=zm0 (l:=x ::r) (b:=1) (by simp)
   simpa using this
  have e3:zhs (x ::r) (List.length [(91:UInt8)]:Int) (List.length (x ::r):Int)=some r:=by
   have:=zhg (l:=x ::r) (a:=1) (by simp)
   simpa using this
  rw [e1,e2,e3,zfH]
  by_cases hx:x=91
  ·subst hx;rfl
  ·rw [if_neg hx]
   have:([x] == [(91:UInt8)])=false:=by simp [hx]
   simp [this]
theorem zgc{s:List UInt8}(h:Len s):zg8 s=some (ze5 s):=by
 have h1:=zmS s
 have h2:=zmS (zeT s)
 unfold zg8
 rw [zxN h,Option.bind_some,zxN (by unfold Len at *;omega),Option.bind_some,zfA (by unfold Len at *;omega)]
 unfold ze5
 cases zeT (zeT s) == [73] <;> rfl
theorem zjA{s:List UInt8}(h:Len s):zjz s=some (zn6 s):=by
 unfold zjz
 rw [zgc h]
 unfold zn6
 cases s == [73] <;> rfl
theorem zsI{s:List UInt8}(h:Len s):znY s=some (zr2 s):=by
 unfold znY
 rw [zgc h]
 unfold zr2
 cases s == [86] <;> rfl
theorem zoY(x:UInt8):zi9 x=zc2 x:=rfl
theorem zni(x:UInt8):zh8 x=zb5 x:=rfl
theorem zrZ(x:UInt8):zi8 x=zgh x:=rfl
theorem zfD{s:List UInt8}(h:Len s):zfC s=some (zbA s):=by
 unfold zfC
 have hend:zdi s (s.length:Int)=some (.inr (.inl ())):=by
  unfold zdi;rw [decide_eq_false (by omega)];rfl
 cases s with
 |nil=>rw [zJ];rfl
 |cons x r =>
  have hrest:zs (fun z=>zdi (x ::r) z) ((1:Nat):Int)=some (zop () (((x ::r).drop 1).findSome? (fun y=>cond (!okC y) (some false) none))):=
   zkv (k:=1) (g:=fun y=>cond (!okC y) (some false) none) (fun i y hi hy=>by
    have hlt:=(List.getElem?_eq_some_iff.1 hy).1
    show zdi (x ::r) (i:Int)=_
    unfold zdi
    rw [zB,hy,decide_eq_true (by omega),zaa (by unfold Len at h;omega)]
    have e:((i:Int) == (0:Int))=false:=by simp;omega
    rw [e]
    simp only [zoY,zni,zrZ]
    unfold okC
    cases h1:zb5 y <;> cases h2:zc2 y <;> cases h3:zgh y <;> simp [h1,h2,h3,ztq]) hend (by simp)
  have hfirst:zdi (x ::r) 0=some (cond (zc2 x) (.inl 1) (.inr (.inr false))):=by
   unfold zdi
   rw [zhH,decide_eq_true (by simp only [List.length_cons,List.length_nil];omega)]
   simp only [zoY]
   have:IntKind.i64.wrap (0+1)=1:=by decide
   rw [this]
   simp only [List.getElem?_cons_zero,Option.bind_some]
   cases hg:zc2 x <;> rfl
  rw [zJ,hfirst]
  cases hg:zc2 x with
  |false =>
   have:zbA (x ::r)=false:=by unfold zbA;rw [zk7,hg];simp
   rw [this]
   rfl
  |true =>
   show ((zs (fun z=>zdi (x ::r) z) ((1:Nat):Int)).bind _)=_
   rw [hrest,List.drop_one,List.tail_cons,zcG,zsT]
   have:zbA (x ::r)=(r.all okC&&(decide (2≤(List.length (x ::r):Int))&&decide ((List.length (x ::r):Int)≤8))):=by
    unfold zbA znp
    rw [zk7]
    have ho:okC x=true:=by unfold okC;rw [hg];simp
    rw [List.all_cons,ho,hg]
    have e:decide (1<(List.length (x ::r):Int))=decide (2≤(List.length (x ::r):Int)):=by congr 1
    rw [e]
    have e2:((x ::r) == [])=false:=rfl
    rw [e2]
    cases r.all okC <;> cases decide (2≤(List.length (x ::r):Int)) <;> cases decide ((List.length (x ::r):Int)≤8) <;> rfl
   rw [this]
   cases r.all okC <;> rfl
theorem zkA{s:List UInt8}(h:Len s):zi7 s=some (zoK s):=by
 unfold zi7
 have hend:zd8 s (s.length:Int)=some (.inr (.inl ())):=by
  unfold zd8;rw [decide_eq_false (by omega)];rfl
 unfold zoK
 cases s == [36,105,110,105,116] with
 |true=>rfl
 |false =>
 show (zs _ _).bind _=some (znp s&&zuS zb5 s)
 cases s with
 |nil=>rw [zJ];rfl
 |cons x r =>
  have hrest:zs (fun z=>zd8 (x ::r) z) ((1:Nat):Int)=some (zop () (((x ::r).drop 1).findSome? (fun y=>cond (!okC y) (some false) none))):=
   zkv (k:=1) (g:=fun y=>cond (!okC y) (some false) none) (fun i y hi hy=>by
    have hlt:=(List.getElem?_eq_some_iff.1 hy).1
    show zd8 (x ::r) (i:Int)=_
    unfold zd8
    rw [zB,hy,decide_eq_true (by omega),zaa (by unfold Len at h;omega)]
    have e:((i:Int) == (0:Int))=false:=by simp;omega
    rw [e]
    simp only [zoY,zni,zrZ]
    unfold okC
    cases h1:zb5 y <;> cases h2:zc2 y <;> cases h3:zgh y <;> simp [h1,h2,h3,ztq]) hend (by simp)
  have hfirst:zd8 (x ::r) 0=some (cond (zb5 x) (.inl 1) (.inr (.inr false))):=by
   unfold zd8
   rw [zhH,decide_eq_true (by simp only [List.length_cons,List.length_nil];omega)]
   simp only [zni]
   have:IntKind.i64.wrap (0+1)=1:=by decide
   rw [this]
   simp only [List.getElem?_cons_zero,Option.bind_some]
   cases hg:zb5 x <;> rfl
  rw [zJ,hfirst]
  cases hg:zb5 x with
  |false =>
   have:(znp (x ::r)&&zuS zb5 (x ::r))=false:=by rw [zk7,hg];simp
   rw [this]
   rfl
  |true =>
   show ((zs (fun z=>zd8 (x ::r) z) ((1:Nat):Int)).bind _)=_
   rw [hrest,List.drop_one,List.tail_cons,zcG,zsT]
   have:(znp (x ::r)&&zuS zb5 (x ::r))=(r.all okC&&(decide (1≤(List.length (x ::r):Int))&&decide ((List.length (x ::r):Int)≤8))):=by
    unfold znp
    rw [zk7]
    have ho:okC x=true:=by unfold okC;rw [hg];simp
    rw [List.all_cons,ho,hg]
    have e2:((x ::r) == [])=false:=rfl
    have e3:decide (1≤(List.length (x ::r):Int))=true:=decide_eq_true (by simp only [List.length_cons,List.length_nil];omega)
    rw [e2,e3]
    cases r.all okC <;> cases decide ((List.length (x ::r):Int)≤8) <;> rfl
   rw [this]
   cases r.all okC <;> rfl
theorem zeI{s:List UInt8}(h:Len s):zf4 s=some (ze5 s):=by
 have step:∀(t:List UInt8) (i:Int),i<2→zgZ t i=some (match t with | []=>.inr (.inl []) |x ::r=>if x=91 then .inl (r,IntKind.i64.wrap (i+1)) else .inr (.inl (x ::r))):=fun t i hi=>by
  unfold zgZ
  rw [decide_eq_true hi]
  cases t with
  |nil=>rfl
  |cons x r =>
   have e1:decide ((0:Int)<(List.length (x ::r):Int))=true:=decide_eq_true (by simp only [List.length_cons,List.length_nil];omega)
   have e3:zhs (x ::r) 1 (List.length (x ::r):Int)=some r:=by
    have:=zhg (l:=x ::r) (a:=1) (by simp)
    simpa using this
   rw [e1,zhH,e3]
   by_cases hx:x=91
   ·subst hx;rfl
   ·have e:((x.toNat:Int) == (91:Int))=false:=by
     rw [beq_eq_false_iff_ne]
     intro h
     apply hx
     have:x.toNat=(91:UInt8).toNat:=by simp;omega
     exact UInt8.toNat_inj.1 this
    simp [e,if_neg hx]
 have stop:∀t:List UInt8,zgZ t 2=some (.inr (.inl t)):=fun t=>by unfold zgZ;simp
 have hl:zs (fun z:List UInt8×Int=>zgZ z.1 z.2) (s,0)=some (.inl (zeT (zeT s))):=by
  have w1:IntKind.i64.wrap (0+1)=1:=by decide
  have w2:IntKind.i64.wrap (1+1)=2:=by decide
  rw [zJ]
  simp only [step s 0 (by omega)]
  cases s with
  |nil=>rfl
  |cons x r =>
   rw [zfH]
   by_cases hx:x=91
   ·simp only [if_pos hx,Option.bind_some,Sum.elim_inl,w1]
    rw [zJ]
    simp only [step r 1 (by omega)]
    cases r with
    |nil=>rfl
    |cons y q =>
     by_cases hy:y=91
     ·simp only [if_pos hy,Option.bind_some,Sum.elim_inl,w2]
      rw [zJ]
      simp only [stop]
      rw [zfH,if_pos hy]
      rfl
     ·simp only [if_neg hy,Option.bind_some,Sum.elim_inr]
      rw [zfH,if_neg hy]
   ·simp only [if_neg hx,Option.bind_some,Sum.elim_inr]
    rw [zfH,if_neg hx]
 have h1:=zmS s
 have h2:=zmS (zeT s)
 unfold zf4
 rw [hl]
 show zl0 _=_
 unfold zl0 ze5
 rw [zfD (by unfold Len at *;omega)]
 cases zeT (zeT s) == [73] <;> rfl
theorem zs0{s:List UInt8}(h:Len s):zn3 s=some (zn6 s):=by
 unfold zn3
 rw [zeI h]
 unfold zn6
 cases s == [73] <;> rfl
def zCl(v1:Int):Bool:=
 ((((v1 == (1:Int))||(v1 == (3:Int)))||(v1 == (4:Int)))||(zep v1))
def zrG(o:Int)(s:List UInt8):Bool:=cond (zgB o) (zn6 s) (cond (zzH o) (zbA s) (s == []))
def zyD(o:Int)(s:List UInt8):Bool:=cond (zzI o) (zoK s&&!(s == [36,105,110,105,116])) (s == [])
def zkw(x:zw):Bool:=(zjG x.Op&&zjH x.Op x.A)&&zrG x.Op x.C&&zyD x.Op x.M
theorem zu4{o:Int}{s:List UInt8}(h:Len s):zqC o s=some (zrG o s):=by
 unfold zqC zrG
 rw [zjA h,zfA h]
 cases zgB o <;> cases zzH o <;> rfl
theorem zu5{o:Int}{s:List UInt8}(h:Len s):zqD o s=some (zyD o s):=by
 unfold zqD zyD
 rw [zks h]
 cases zzI o <;> rfl
theorem zwU{x:zw}(hC:Len x.C)(hM:Len x.M):zt2 x=some (zkw x):=by
 unfold zt2 zkw
 rw [zu4 hC,zu5 hM]
 cases (zjG x.Op&&zjH x.Op x.A) <;> cases zrG x.Op x.C <;> rfl
theorem zAI(o A:Int):zjH o A=cond (zCl o) (zh9 o A) (A == 0):=by
 have e1:decide (A≤2147483647)=decide (A<2147483648):=by congr 1;apply propext;omega
 have e2:decide (A≤15)=decide (A<16):=by congr 1;apply propext;omega
 have e3:decide (A≤99)=decide (A<100):=by congr 1;apply propext;omega
 unfold zjH zCl zh9 zgl zep zdB
 rw [e1,e2,e3]
 by_cases h1:o=1
 ·subst h1;rfl
 by_cases h3:o=3
 ·subst h3;rfl
 by_cases h4:o=4
 ·subst h4;rfl
 have b1:(o == (1:Int))=false:=beq_eq_false_iff_ne.2 h1
 have b3:(o == (3:Int))=false:=beq_eq_false_iff_ne.2 h3
 have b4:(o == (4:Int))=false:=beq_eq_false_iff_ne.2 h4
 rw [b1,b3,b4]
 cases (decide (20≤o)&&decide (o≤36)) <;> rfl
theorem zw1:∀k:_root_.Fin 62,(ze0 (k.val:Int)).1=zCl (k.val:Int)∧(ze0 (k.val:Int)).2.1=cond (zgB (k.val:Int)) 2 (cond (zzH (k.val:Int)) 1 0)∧(ze0 (k.val:Int)).2.2=zzI (k.val:Int):=by
 decide +kernel
theorem zpr{x:zw}(hC:Len x.C)(hM:Len x.M):zh7 x=some (zkw x):=by
 unfold zh7 zkw zjG zdB
 by_cases hk:1≤x.Op∧x.Op≤61
 ·obtain ⟨k,hkk⟩:∃k:Nat,x.Op=k:=⟨x.Op.toNat,by omega⟩
  obtain ⟨p1,p2,p3⟩:=zw1 ⟨k,by omega⟩
  simp only at p1 p2 p3
  rw [hkk] at hk ⊢
  rw [zAI,p1,p2,p3,decide_eq_false (show ¬(k:Int)<1 by omega),decide_eq_false (show ¬(61:Int)<k by omega),decide_eq_true hk.1,decide_eq_true hk.2,zfD hC,zs0 hC,zkA hM]
  unfold zrG zyD
  cases zCl (k:Int) <;> cases zh9 (k:Int) x.A <;> cases (x.A == 0) <;> cases zgB (k:Int) <;> cases zzH (k:Int) <;> cases zzI (k:Int) <;> cases (x.C == []) <;> cases zbA x.C <;> cases zn6 x.C <;> rfl
 ·have h1:(decide (x.Op<1)||decide (61<x.Op))=true:=by
   rw [Bool.or_eq_true]
   by_cases h:x.Op<1
   ·exact .inl (decide_eq_true h)
   ·exact .inr (decide_eq_true (by omega))
  have h2:(decide (1≤x.Op)&&decide (x.Op≤61))=false:=by
   rw [Bool.and_eq_false_iff]
   by_cases h:1≤x.Op
   ·exact .inr (decide_eq_false (by omega))
   ·exact .inl (decide_eq_false h)
  rw [h1,h2]
  rfl
def ixF{α:Type}(p:α→Bool):Nat→List α→Int
 |_,[]=>-1
 |k,x ::r=>cond (p x) (k:Int) (ixF p (k+1) r)
theorem zgb{α:Type}(p:α→Bool):∀(k:Nat) (l:List α),decide (0≤ixF p k l)=l.any p
 |_,[]=>rfl
 |k,x ::r=>by
  unfold ixF
  rw [List.any_cons]
  cases p x with
  |true=>exact decide_eq_true (show (0:Int)≤(k:Int) by omega)
  |false=>exact zgb p (k+1) r
theorem zbx{α:Type}{body:Int→Option (Sum Int (Sum Unit Int))}{l:List α}{p:α→Bool}(hl:l.length≤9223372036854775807)
  (hb:∀(i:Nat) x,l[i]?=some x→body (i:Int)=cond (p x) (some (.inr (.inr (i:Int)))) (some (.inl (IntKind.i64.wrap ((i:Int)+1)))))
  (he:body (l.length:Int)=some (.inr (.inl ()))):
  (zs body 0).bind (fun o=>zQ o (fun _=>some (-1:Int)) some)=some (ixF p 0 l):=by
 have key:∀(r pre:List α),l=pre++r→(zs body (pre.length:Int)).bind (fun o=>zQ o (fun _=>some (-1:Int)) some)=some (ixF p pre.length r):=by
  intro r
  induction r with
  |nil =>
   intro pre h
   rw [List.append_nil] at h
   subst h
   rw [zJ,he]
   rfl
  |cons x r ih =>
   intro pre h
   have hlen:l.length=pre.length+(r.length+1):=by rw [h];simp
   have hx:l[pre.length]?=some x:=by rw [h];simp
   rw [zJ,hb _ x hx]
   unfold ixF
   cases p x with
   |true=>rfl
   |false =>
    rw [zaa (by omega)]
    have:=ih (pre++[x]) (by rw [h];simp)
    rw [show (pre++[x]).length=pre.length+1 by simp] at this
    exact this
 exact key l [] rfl
def uB{α:Type}(ok:α→Bool)(nm:α→List UInt8):List α→List α→Bool
 |_,[]=>false
 |pre,x ::r=>(!ok x||pre.any (fun y=>nm x == nm y))||uB ok nm (pre++[x]) r
theorem zpb{α:Type}{body:Int→Option (Sum Int (Sum Unit Bool))}{l:List α}{ok:α→Bool}{nm:α→List UInt8}(hl:l.length≤9223372036854775807)
  (hb:∀(i:Nat) x,l[i]?=some x→body (i:Int)=cond (!ok x||(l.take i).any (fun y=>nm x == nm y)) (some (.inr (.inr false))) (some (.inl (IntKind.i64.wrap ((i:Int)+1)))))
  (he:body (l.length:Int)=some (.inr (.inl ()))) {k:Option Bool}:
  (zs body 0).bind (fun o=>zQ o (fun _=>k) some)=cond (uB ok nm [] l) (some false) k:=by
 have key:∀(r pre:List α),l=pre++r→(zs body (pre.length:Int)).bind (fun o=>zQ o (fun _=>k) some)=cond (uB ok nm pre r) (some false) k:=by
  intro r
  induction r with
  |nil =>
   intro pre h
   rw [List.append_nil] at h
   subst h
   rw [zJ,he]
   rfl
  |cons x r ih =>
   intro pre h
   have hlen:l.length=pre.length+(r.length+1):=by rw [h];simp
   have hx:l[pre.length]?=some x:=by rw [h];simp
   have ht:l.take pre.length=pre:=by rw [h];simp
   rw [zJ,hb _ x hx,ht]
   unfold uB
   cases !ok x||pre.any (fun y=>nm x == nm y) with
   |true=>rfl
   |false =>
    rw [zaa (by omega)]
    have:=ih (pre++[x]) (by rw [h];simp)
    rw [show (pre++[x]).length=pre.length+1 by simp] at this
    exact this
 exact key l [] rfl
abbrev zje{α:Type}(l:List α):Prop:=l.length≤9223372036854775807
theorem zfv{α:Type}{l:List α}{i:Nat}{x:α}(h:l[i]?=some x):decide ((i:Int)<(l.length:Int))=true:=
 decide_eq_true (by have:=(List.getElem?_eq_some_iff.1 h).1;omega)
theorem zf1{α:Type}(l:List α):decide ((l.length:Int)<(l.length:Int))=false:=decide_eq_false (by omega)
theorem zyt{l:List zq}(hl:zje l)(n t:List UInt8)(s:Bool):z8 l n t s=some (l.any fun y=>n == y.Name):=by
 unfold z8 zbB
 rw [show ((zs (fun z=>zaC l n t s z) 0).bind fun o=>zQ o (fun b=>zcX) some)=_ from zbx (p:=fun y:zq=>n == y.Name) hl
  (fun i x hx=>by unfold zaC;rw [zfv hx,zB,hx];rfl) (by unfold zaC;rw [zf1];rfl)]
 exact congrArg some (zgb _ 0 l)
theorem zwp{l:List zb}(hl:zje l)(n:List UInt8)(a b c d e f g h i):z6 l n a b c d e f g h i=some (l.any fun y=>n == y.Name):=by
 unfold z6 zbp
 rw [show ((zs (fun z=>zau l n a b c d e f g h i z) 0).bind fun o=>zQ o (fun b=>zcj) some)=_ from zbx (p:=fun y:zb=>n == y.Name) hl
  (fun i x hx=>by unfold zau;rw [zfv hx,zB,hx];rfl) (by unfold zau;rw [zf1];rfl)]
 exact congrArg some (zgb _ 0 l)
theorem zAy{l:List (List UInt8)}(hl:zje l)(n:List UInt8):zah l n=some (l.any fun y=>n == y):=by
 unfold zah zbZ
 rw [show ((zs (fun z=>zaT l n z) 0).bind fun o=>zQ o (fun b=>zdt) some)=_ from zbx (p:=fun y:List UInt8=>n == y) hl
  (fun i x hx=>by unfold zaT;rw [zfv hx,zB,hx];rfl) (by unfold zaT;rw [zf1];rfl)]
 exact congrArg some (zgb _ 0 l)
theorem zol{c:za}(hl:zje c.Methods)(n:List UInt8):zfe c n=some (ixF (fun y=>y.Name == n) 0 c.Methods):=by
 unfold zfe zav
 rw [show ((zs (fun z=>zaf c.Methods n z) 0).bind fun o=>zQ o (fun b=>zbR) some)=_ from zbx (p:=fun y:zb=>y.Name == n) hl
  (fun i x hx=>by unfold zaf;rw [zfv hx,zB,hx];rfl) (by unfold zaf;rw [zf1];rfl)]
 rfl
theorem zpg{c:za}(hl:zje c.Fields)(n:List UInt8):zhX c n=some (ixF (fun y=>y.Name == n) 0 c.Fields):=by
 unfold zhX zaD
 rw [show ((zs (fun z=>zaq c.Fields n z) 0).bind fun o=>zQ o (fun b=>zcd) some)=_ from zbx (p:=fun y:zq=>y.Name == n) hl
  (fun i x hx=>by unfold zaq;rw [zfv hx,zB,hx];rfl) (by unfold zaq;rw [zf1];rfl)]
 rfl
def zlA(f:zq):Bool:=(zoK f.Name&&!(f.Name == [36,105,110,105,116]))&&ze5 f.Type_
theorem zph{f:zq}(h1:Len f.Name)(h2:Len f.Type_):zhZ f=some (zlA f):=by
 unfold zhZ zlA
 rw [zks h1,zgc h2,Option.bind_some]
 cases (zoK f.Name&&!(f.Name == [36,105,110,105,116])) <;> rfl
theorem zvH{l:List zq}(hl:zje l)(h:∀f∈l,Len f.Name∧Len f.Type_)(n:Int):zeG l n=cond (uB zlA (·.Name) [] l) (some false) (some (decide ((l.length:Int)≤n))):=by
 unfold zeG
 refine zpb (ok:=zlA) (nm:=(·.Name)) hl (fun i x hx=>?_) ?_
 ·have hm:=h x (List.mem_of_getElem? hx)
  have hi:=(List.getElem?_eq_some_iff.1 hx).1
  unfold ze1
  rw [zfv hx,zB,hx]
  simp only [Option.bind_some,cond_true]
  rw [zph hm.1 hm.2,Option.bind_some,zm0 (by omega),Option.bind_some,zyt (by unfold zje at *;rw [List.length_take];omega)]
  cases zlA x <;> rfl
 ·unfold ze1
  rw [zf1];rfl
theorem zx5{l:List (List UInt8)}(hl:zje l)(h:∀s∈l,Len s)(n:Int):zfZ l n=cond (uB zbA id [] l) (some false) (some (decide ((l.length:Int)≤n))):=by
 unfold zfZ
 refine zpb (ok:=zbA) (nm:=id) hl (fun i x hx=>?_) ?_
 ·have hm:=h x (List.mem_of_getElem? hx)
  have hi:=(List.getElem?_eq_some_iff.1 hx).1
  unfold zf7
  rw [zfv hx,zB,hx]
  simp only [Option.bind_some,cond_true]
  rw [zfA hm,Option.bind_some,zm0 (by omega),Option.bind_some,zAy (by unfold zje at *;rw [List.length_take];omega)]
  cases zbA x <;> rfl
 ·unfold zf7
  rw [zf1];rfl
def zsh(l:List (List UInt8)):Bool:=!(l.any fun s=>!ze5 s)
theorem zpj{l:List (List UInt8)}(hl:zje l)(h:∀s∈l,Len s):zjn l=some (zsh l):=by
 unfold zjn zbb zcY
 rw [show ((zs (fun z=>zbc l z) 0).bind fun o=>zQ o (fun b=>zee) some)=_ from zbx (p:=fun s=>!ze5 s) hl
  (fun i x hx=>by
   unfold zbc zjo
   rw [zfv hx,zB,hx]
   simp only [Option.bind_some,cond_true]
   rw [zgc (h x (List.mem_of_getElem? hx))]
   rfl) (by unfold zbc;rw [zf1];rfl)]
 rw [Option.bind_some,zgb]
 rfl
def zAA(n:Int)(x:zw):Bool:=(!zkw x)||(zep x.Op&&decide (n≤x.A))
def instrN(c:List zw):Bool:=zo (c.length:Int) 1 100&&(c.getLast?.elim false (fun y=>zh6 y.Op)&&!(c.any (zAA (c.length:Int))))
theorem zkl{m:zb}(hl:zje m.Code)(h:∀x∈m.Code,Len x.C∧Len x.M):zd2 m=some (instrN m.Code):=by
 have hc:zat m.Code (m.Code.length:Int)=some (m.Code.any (zAA (m.Code.length:Int))):=by
  unfold zat zcg
  rw [show ((zs (fun z=>za0 m.Code (m.Code.length:Int) z) 0).bind fun o=>zQ o (fun b=>zdL) some)=_ from zbx (p:=zAA (m.Code.length:Int)) hl
   (fun i x hx=>by
    have hm:=h x (List.mem_of_getElem? hx)
    unfold za0 zfK
    rw [zfv hx,zB,hx]
    simp only [Option.bind_some,cond_true]
    rw [zwU hm.1 hm.2]
    rfl) (by unfold za0;rw [zf1];rfl)]
  exact congrArg some (zgb _ 0 _)
 unfold zd2 instrN
 rw [hc]
 cases hb:zo (m.Code.length:Int) 1 100 with
 |false=>rfl
 |true =>
  have hb':(decide (1≤(m.Code.length:Int))&&decide ((m.Code.length:Int)≤100))=true:=hb
  simp only [Bool.and_eq_true,decide_eq_true_eq] at hb'
  have e:IntKind.i64.wrap ((m.Code.length:Int)-1)=((m.Code.length-1:Nat):Int):=by
   rw [zjY (by omega) (by omega)];omega
  rw [e,zB,←List.getLast?_eq_getElem?]
  cases hg:m.Code.getLast? with
  |none =>
   rw [List.getLast?_eq_none_iff] at hg
   rw [hg] at hb'
   simp at hb'
  |some y =>
   simp only [Option.bind_some,Bool.not_true,cond_false,Option.elim_some,Bool.true_and]
   cases zh6 y.Op <;> rfl
def zpu(n:Int)(y:zan):Bool:=(((decide (y.From<0)||decide (y.To≤y.From))||decide (n<y.To))||!(zo y.At 0 (IntKind.i64.wrap (n-1))))||(!(y.C == [])&&!zbA y.C)
def zmR(m:zb):Bool:=!(m.Traps.any (zpu (m.Code.length:Int)))&&decide ((m.Traps.length:Int)≤6)
theorem zpi{m:zb}(hl:zje m.Traps)(h:∀x∈m.Traps,Len x.C):zjl m=some (zmR m):=by
 unfold zjl zaM zbP
 rw [show ((zs (fun z=>zaN m.Traps m.Name m.Params m.Ret m.Static m.Abstract m.Locals m.Stack m.Code m.Maps m.Traps z) 0).bind fun o=>zQ o (fun b=>zdc) some)=_ from zbx (p:=zpu (m.Code.length:Int)) hl
  (fun i x hx=>by
   have hm:=h x (List.mem_of_getElem? hx)
   unfold zaN zjm zpu
   rw [zfv hx,zB,hx]
   simp only [Option.bind_some,cond_true]
   rw [zfA hm]
   cases (((decide (x.From<0)||decide (x.To≤x.From))||decide ((m.Code.length:Int)<x.To))||!(zo x.At 0 (IntKind.i64.wrap ((m.Code.length:Int)-1)))) with
   |true=>rfl
   |false=>cases (x.C == []) <;> rfl) (by unfold zaN;rw [zf1];rfl)]
 rw [Option.bind_some,zgb]
 rfl
def gB{α:Type}(bad:List α→α→Bool):List α→List α→Bool
 |_,[]=>false
 |pre,x ::r=>bad pre x||gB bad (pre++[x]) r
theorem zk6{α:Type}{body:Int→Option (Sum Int (Sum Unit Bool))}{l:List α}{bad:List α→α→Bool}(hl:l.length≤9223372036854775807)
  (hb:∀(i:Nat) x,l[i]?=some x→body (i:Int)=cond (bad (l.take i) x) (some (.inr (.inr false))) (some (.inl (IntKind.i64.wrap ((i:Int)+1)))))
  (he:body (l.length:Int)=some (.inr (.inl ()))):zs body 0=some (cond (gB bad [] l) (.inr false) (.inl ())):=by
 have key:∀(r pre:List α),l=pre++r→zs body (pre.length:Int)=some (cond (gB bad pre r) (.inr false) (.inl ())):=by
  intro r
  induction r with
  |nil =>
   intro pre h
   rw [List.append_nil] at h
   subst h
   rw [zJ,he]
   rfl
  |cons x r ih =>
   intro pre h
   have hlen:l.length=pre.length+(r.length+1):=by rw [h];simp
   have hx:l[pre.length]?=some x:=by rw [h];simp
   have ht:l.take pre.length=pre:=by rw [h];simp
   rw [zJ,hb _ x hx,ht]
   unfold gB
   cases bad pre x with
   |true=>rfl
   |false =>
    rw [zaa (by omega)]
    have:=ih (pre++[x]) (by rw [h];simp)
    rw [show (pre++[x]).length=pre.length+1 by simp] at this
    exact this
 exact key l [] rfl
theorem zzx{α:Type}(p:α→Bool):∀(pre r:List α),gB (fun _ x=>p x) pre r=r.any p
 |_,[]=>rfl
 |pre,x ::r=>by
  show (p x||gB _ _ r)=_
  rw [zzx p (pre++[x]) r,List.any_cons]
theorem zzg{α:Type}(ok:α→Bool)(nm:α→List UInt8):∀(pre r:List α),uB ok nm pre r=gB (fun pre x=>!ok x||pre.any (fun y=>nm x == nm y)) pre r
 |_,[]=>rfl
 |pre,x ::r=>by
  show (_||uB ok nm (pre++[x]) r)=(_||gB _ (pre++[x]) r)
  rw [zzg ok nm (pre++[x]) r]
theorem ziZ{α:Type}{body:Int→Option (Sum Int (Sum Unit Bool))}{l:List α}{bad:α→Bool}(hl:l.length≤9223372036854775807)
  (hb:∀(i:Nat) x,l[i]?=some x→body (i:Int)=cond (bad x) (some (.inr (.inr false))) (some (.inl (IntKind.i64.wrap ((i:Int)+1)))))
  (he:body (l.length:Int)=some (.inr (.inl ()))):zs body 0=some (cond (l.any bad) (.inr false) (.inl ())):=by
 rw [zk6 (bad:=fun _ x=>bad x) hl hb he,zzx]
def zl9(v:List UInt8):Bool:=(((v == [73])||(v == [78]))||(v == [84]))||zn6 v
theorem zp6{s:List UInt8}(h:Len s):zk4 s=some (zl9 s):=by
 unfold zk4 zl9
 rw [zjA h]
 cases (((s == [73])||(s == [78]))||(s == [84])) <;> rfl
def zho(l:List (List UInt8)):Bool:=!(l.any fun s=>!zl9 s)
theorem ziT{l:List (List UInt8)}(hl:zje l)(h:∀s∈l,Len s):zfQ l=some (zho l):=by
 unfold zfQ zaP zbY
 rw [show ((zs (fun z=>zaS l z) 0).bind fun o=>zQ o (fun b=>zds) some)=_ from zbx (p:=fun s=>!zl9 s) hl
  (fun i x hx=>by
   unfold zaS zht
   rw [zfv hx,zB,hx]
   simp only [Option.bind_some,cond_true]
   rw [zp6 (h x (List.mem_of_getElem? hx))]
   rfl) (by unfold zaS;rw [zf1];rfl)]
 rw [Option.bind_some,zgb]
 rfl
theorem zwq{l:List (List UInt8)}(hl:zje l)(n:List UInt8):zI l n=some (l.any fun y=>n == y):=by
 unfold zI zdS
 rw [show ((zs (fun z=>zbD l n z) 0).bind fun o=>zQ o (fun b=>zeW) some)=_ from zbx (p:=fun y:List UInt8=>n == y) hl
  (fun i x hx=>by unfold zbD;rw [zfv hx,zB,hx];rfl) (by unfold zbD;rw [zf1];rfl)]
 exact congrArg some (zgb _ 0 l)
def zzB(m:zb)(pre:List zU)(x:zU):Bool:=
 ((!(decide (0≤x.At)&&decide (x.At<(m.Code.length:Int))))||(pre.getLast?.elim false (fun y=>decide (x.At≤y.At)))) ||
 (((!((x.Locals.length:Int) == m.Locals))||decide (m.Stack<(x.Stack.length:Int)))||((!zho x.Locals||!zho x.Stack)||x.Stack.any (fun y=>[84] == y)))
def zqu(m:zb):Bool:=!(gB (zzB m) [] m.Maps)&&decide ((m.Maps.length:Int)≤100)
structure zvz(m:zb):Prop where
 len:zje m.Maps
 code:zje m.Code
 all:∀x∈m.Maps,(zje x.Locals∧∀s∈x.Locals,Len s)∧(zje x.Stack∧∀s∈x.Stack,Len s)
theorem zse{α:Type}{l:List α}{i:Nat}(h:i<l.length)(h0:0<i):(l.take i).getLast?=l[i-1]?:=by
 rw [List.getLast?_eq_getElem?,List.getElem?_take_of_lt (by simp;omega)]
 congr 1
 simp;omega
theorem zp4{m:zb}(h:zvz m):zk2 m=some (zqu m):=by
 have j2:∀(i:Nat) (x:zU) (b:Bool),x∈m.Maps→zfw m (i:Int) x b=cond (b||(((!((x.Locals.length:Int) == m.Locals))||decide (m.Stack<(x.Stack.length:Int)))||((!zho x.Locals||!zho x.Stack)||x.Stack.any (fun y=>[84] == y)))) (some (.inr (.inr false))) (some (.inl (IntKind.i64.wrap ((i:Int)+1)))):=fun i x b hx=>by
  obtain ⟨⟨h1,h2⟩,h3,h4⟩:=h.all x hx
  unfold zfw
  rw [ziT h1 h2,ziT h3 h4,zwq h3]
  cases b with
  |true=>rfl
  |false =>
   cases ((!((x.Locals.length:Int) == m.Locals))||decide (m.Stack<(x.Stack.length:Int))) with
   |true=>rfl
   |false =>
    cases zho x.Locals with
    |false=>rfl
    |true=>cases zho x.Stack <;> rfl
 have hl:zs (fun z=>zfx m z) 0=_:=zk6 (bad:=zzB m) h.len (fun i x hx=>by
  have hm:=List.mem_of_getElem? hx
  have hi:=(List.getElem?_eq_some_iff.1 hx).1
  have hlen:=h.len
  have hcode:=h.code
  unfold zje at hlen hcode
  show zfx m (i:Int)=_
  unfold zfx zzB
  rw [zfv hx,zB,hx]
  simp only [Option.bind_some,cond_true]
  have hb:zo x.At 0 (IntKind.i64.wrap ((m.Code.length:Int)-1))=(decide (0≤x.At)&&decide (x.At<(m.Code.length:Int))):=by
   show (decide (0≤x.At)&&decide (x.At≤IntKind.i64.wrap ((m.Code.length:Int)-1)))=_
   rw [zjY (by omega) (by omega)]
   congr 1
   exact decide_eq_decide.2 (by omega)
  rw [hb]
  cases (decide (0≤x.At)&&decide (x.At<(m.Code.length:Int))) with
  |false=>exact j2 i x true hm
  |true =>
   rcases Nat.eq_zero_or_pos i with h0 |h0
   ·subst h0
    exact j2 0 x false hm
   ·rw [decide_eq_true (show (0:Int)<(i:Int) by omega),zse hi h0]
    have e:IntKind.i64.wrap ((i:Int)-1)=((i-1:Nat):Int):=by
     rw [zjY (by omega) (by omega)];omega
    rw [e,zB,List.getElem?_eq_getElem (show i-1<m.Maps.length by omega)]
    exact j2 i x _ hm) (by show zfx m (m.Maps.length:Int)=_;unfold zfx;rw [zf1];rfl)
 unfold zk2 zqu
 rw [hl]
 cases gB (zzB m) [] m.Maps <;> rfl
theorem zy1(v:List UInt8):(cond (!(v == [84])&&!(v == [78])) (!ze5 v) false)=!zl9 v:=by
 by_cases h1:v=[73]
 ·subst h1;decide +kernel
 by_cases h2:v=[78]
 ·subst h2;decide +kernel
 by_cases h3:v=[84]
 ·subst h3;decide +kernel
 unfold zl9 zn6
 rw [beq_eq_false_iff_ne.2 h1,beq_eq_false_iff_ne.2 h2,beq_eq_false_iff_ne.2 h3]
 simp
theorem zy2(v:List UInt8):(cond (!(v == [78])) (!ze5 v) false)=(!zl9 v||([84] == v)):=by
 by_cases h1:v=[73]
 ·subst h1;decide +kernel
 by_cases h2:v=[78]
 ·subst h2;decide +kernel
 by_cases h3:v=[84]
 ·subst h3;decide +kernel
 unfold zl9 zn6
 rw [beq_eq_false_iff_ne.2 h1,beq_eq_false_iff_ne.2 h2,beq_eq_false_iff_ne.2 h3,beq_eq_false_iff_ne.2 (Ne.symm h3)]
 simp
theorem zBm{α:Type}(l:List α)(p q:α→Bool):l.any (fun x=>p x||q x)=(l.any p||l.any q):=by
 induction l with
 |nil=>rfl
 |cons x l ih =>
  simp only [List.any_cons,ih]
  cases p x <;> cases q x <;> simp
theorem zrW{m:zb}(h:zvz m):zmJ m=some (zqu m):=by
 have l7:∀x:zU,x∈m.Maps→zs (fun z=>zfo x z) 0=some (cond (!zho x.Locals) (.inr false) (.inl ())):=fun x hx=>by
  obtain ⟨⟨h1,h2⟩,h3,h4⟩:=h.all x hx
  have:=ziZ (body:=fun z=>zfo x z) (bad:=fun v=>!zl9 v) h1 (fun i v hv=>by
   show zfo x (i:Int)=_
   unfold zfo
   rw [zfv hv,zB,hv]
   simp only [Option.bind_some,cond_true]
   rw [zeI (h2 v (List.mem_of_getElem? hv)),←zy1]
   cases (!(v == [84])&&!(v == [78])) <;> rfl) (by show zfo x (x.Locals.length:Int)=_;unfold zfo;rw [zf1];rfl)
  rw [this]
  unfold zho
  rw [Bool.not_not]
 have l9:∀x:zU,x∈m.Maps→zs (fun z=>zfp x z) 0=some (cond (!zho x.Stack||x.Stack.any (fun y=>[84] == y)) (.inr false) (.inl ())):=fun x hx=>by
  obtain ⟨⟨h1,h2⟩,h3,h4⟩:=h.all x hx
  have:=ziZ (body:=fun z=>zfp x z) (bad:=fun v=>!zl9 v||([84] == v)) h3 (fun i v hv=>by
   show zfp x (i:Int)=_
   unfold zfp
   rw [zfv hv,zB,hv]
   simp only [Option.bind_some,cond_true]
   rw [zeI (h4 v (List.mem_of_getElem? hv)),←zy2]
   cases (!(v == [78])) <;> rfl) (by show zfp x (x.Stack.length:Int)=_;unfold zfp;rw [zf1];rfl)
  rw [this,zBm]
  unfold zho
  rw [Bool.not_not]
 have j6:∀(i:Nat) (x:zU) (b:Bool),x∈m.Maps→zca (i:Int) x b=cond (b||((!zho x.Locals||!zho x.Stack)||x.Stack.any (fun y=>[84] == y))) (some (.inr (.inr false))) (some (.inl (IntKind.i64.wrap ((i:Int)+1)))):=fun i x b hx=>by
  unfold zca
  rw [l7 x hx]
  cases b with
  |true=>rfl
  |false =>
   cases zho x.Locals with
   |false=>rfl
   |true =>
    show zkB (i:Int) x=_
    unfold zkB
    rw [l9 x hx]
    cases zho x.Stack with
    |false=>rfl
    |true=>cases x.Stack.any (fun y=>[84] == y) <;> rfl
 have hl:zs (fun z=>zfE m z) 0=_:=zk6 (bad:=zzB m) h.len (fun i x hx=>by
  have hm:=List.mem_of_getElem? hx
  have hi:=(List.getElem?_eq_some_iff.1 hx).1
  have hlen:=h.len
  have hcode:=h.code
  unfold zje at hlen hcode
  show zfE m (i:Int)=_
  unfold zfE zzB
  rw [zfv hx,zB,hx]
  simp only [Option.bind_some,cond_true]
  by_cases h1:x.At<0
  ·rw [decide_eq_true h1,decide_eq_false (show ¬0≤x.At by omega)]
   exact j6 i x true hm
  rw [decide_eq_false h1,decide_eq_true (show 0≤x.At by omega)]
  by_cases h2:(m.Code.length:Int)≤x.At
  ·rw [decide_eq_true h2,decide_eq_false (show ¬x.At<(m.Code.length:Int) by omega)]
   exact j6 i x true hm
  rw [decide_eq_false h2,decide_eq_true (show x.At<(m.Code.length:Int) by omega)]
  rcases Nat.eq_zero_or_pos i with h0 |h0
  ·subst h0
   show cond (!((x.Locals.length:Int) == m.Locals)) (zca ((0:Nat):Int) x true) (zca ((0:Nat):Int) x (decide (m.Stack<(x.Stack.length:Int))))=_
   cases (!((x.Locals.length:Int) == m.Locals)) with
   |true=>exact j6 0 x true hm
   |false=>exact j6 0 x _ hm
  ·rw [decide_eq_true (show (0:Int)<(i:Int) by omega),zse hi h0]
   have e:IntKind.i64.wrap ((i:Int)-1)=((i-1:Nat):Int):=by
    rw [zjY (by omega) (by omega)];omega
   rw [e,zB,List.getElem?_eq_getElem (show i-1<m.Maps.length by omega)]
   simp only [cond_true,cond_false,Option.bind_some,Option.elim_some]
   cases decide (x.At≤m.Maps[i-1].At) with
   |true=>exact j6 i x true hm
   |false =>
    cases (!((x.Locals.length:Int) == m.Locals)) with
    |true=>exact j6 i x true hm
    |false=>exact j6 i x _ hm) (by show zfE m (m.Maps.length:Int)=_;unfold zfE;rw [zf1];rfl)
 unfold zmJ zqu
 rw [hl]
 by_cases hn:(m.Maps.length:Int)≤100
 ·rw [decide_eq_true hn,decide_eq_false (show ¬100<(m.Maps.length:Int) by omega)]
  cases gB (zzB m) [] m.Maps <;> rfl
 ·rw [decide_eq_false hn,decide_eq_true (show 100<(m.Maps.length:Int) by omega),Bool.and_false]
  rfl
structure zzk(m:zb):Prop where
 code:zje m.Code∧∀x∈m.Code,Len x.C∧Len x.M
 traps:zje m.Traps∧∀x∈m.Traps,Len x.C
theorem zrU{m:zb}(h:zzk m):zmI m=some (instrN m.Code&&zmR m):=by
 have hcl:=h.code.1
 unfold zje at hcl
 have lc:zs (fun z=>zgm m z) 0=some (cond (m.Code.any (zAA (m.Code.length:Int))) (.inr false) (.inl ())):=
  ziZ h.code.1 (fun i x hx=>by
   have hm:=h.code.2 x (List.mem_of_getElem? hx)
   show zgm m (i:Int)=_
   unfold zgm
   rw [zfv hx,zB,hx]
   simp only [Option.bind_some,cond_true]
   rw [zpr hm.1 hm.2]
   rfl) (by show zgm m (m.Code.length:Int)=_;unfold zgm;rw [zf1];rfl)
 have lt:zs (fun z=>zgn m z) 0=some (cond (m.Traps.any (zpu (m.Code.length:Int))) (.inr false) (.inl ())):=
  ziZ h.traps.1 (fun i x hx=>by
   have hm:=h.traps.2 x (List.mem_of_getElem? hx)
   show zgn m (i:Int)=_
   unfold zgn
   rw [zfv hx,zB,hx]
   simp only [Option.bind_some,cond_true]
   rw [zfD hm]
   have hb:(!(zo x.At 0 (IntKind.i64.wrap ((m.Code.length:Int)-1))))=(decide (x.At<0)||decide ((m.Code.length:Int)≤x.At)):=by
    show (!(decide (0≤x.At)&&decide (x.At≤IntKind.i64.wrap ((m.Code.length:Int)-1))))=_
    rw [zjY (by omega) (by omega)]
    by_cases h1:x.At<0
    ·rw [decide_eq_true h1,decide_eq_false (show ¬0≤x.At by omega)];rfl
    ·rw [decide_eq_false h1,decide_eq_true (show 0≤x.At by omega)]
     by_cases h2:(m.Code.length:Int)≤x.At
     ·rw [decide_eq_true h2,decide_eq_false (show ¬x.At≤(m.Code.length:Int)-1 by omega)];rfl
     ·rw [decide_eq_false h2,decide_eq_true (show x.At≤(m.Code.length:Int)-1 by omega)];rfl
   unfold zpu
   rw [hb]
   cases decide (x.From<0) <;> cases decide (x.To≤x.From) <;> cases decide ((m.Code.length:Int)<x.To) <;> cases decide (x.At<0) <;> cases decide ((m.Code.length:Int)≤x.At) <;> cases (x.C == []) <;> rfl) (by show zgn m (m.Traps.length:Int)=_;unfold zgn;rw [zf1];rfl)
 have hn:decide (6<(m.Traps.length:Int))=!decide ((m.Traps.length:Int)≤6):=by
  by_cases h6:(m.Traps.length:Int)≤6
  ·rw [decide_eq_true h6,decide_eq_false (show ¬6<(m.Traps.length:Int) by omega)];rfl
  ·rw [decide_eq_false h6,decide_eq_true (show 6<(m.Traps.length:Int) by omega)];rfl
 have k2:ziz m=some (!m.Traps.any (zpu (m.Code.length:Int))):=by
  unfold ziz
  rw [lt]
  cases m.Traps.any (zpu (m.Code.length:Int)) <;> rfl
 unfold zmI zmR instrN
 rw [lc,hn]
 by_cases h1:(m.Code.length:Int)<1
 ·rw [decide_eq_true h1,show zo (m.Code.length:Int) 1 100=false from by show (decide (1≤(m.Code.length:Int))&&_)=false;rw [decide_eq_false (show ¬1≤(m.Code.length:Int) by omega)];rfl]
  rfl
 by_cases h2:100<(m.Code.length:Int)
 ·rw [decide_eq_true h2,show zo (m.Code.length:Int) 1 100=false from by show (decide (1≤(m.Code.length:Int))&&decide ((m.Code.length:Int)≤100))=false;rw [decide_eq_false (show ¬(m.Code.length:Int)≤100 by omega),Bool.and_false],Bool.or_true]
  rfl
 rw [decide_eq_false h1,decide_eq_false h2,show zo (m.Code.length:Int) 1 100=true from by show (decide (1≤(m.Code.length:Int))&&decide ((m.Code.length:Int)≤100))=true;rw [decide_eq_true (show 1≤(m.Code.length:Int) by omega),decide_eq_true (show (m.Code.length:Int)≤100 by omega)];rfl]
 have e:IntKind.i64.wrap ((m.Code.length:Int)-1)=((m.Code.length-1:Nat):Int):=by
  rw [zjY (by omega) (by omega)];omega
 rw [e,zB,←List.getLast?_eq_getElem?]
 cases hg:m.Code.getLast? with
 |none =>
  rw [List.getLast?_eq_none_iff] at hg
  rw [hg] at h1
  simp at h1
 |some y =>
  simp only [Option.bind_some,Option.elim_some]
  rw [show zhm y.Op=zh6 y.Op from rfl]
  cases zh6 y.Op with
  |false=>rfl
  |true =>
   cases decide ((m.Traps.length:Int)≤6) with
   |false =>
    cases m.Code.any (zAA (m.Code.length:Int)) <;> cases m.Traps.any (zpu (m.Code.length:Int)) <;> rfl
   |true =>
    cases m.Code.any (zAA (m.Code.length:Int)) with
    |true=>rfl
    |false =>
     show ziz m=_
     rw [k2]
     cases m.Traps.any (zpu (m.Code.length:Int)) <;> rfl
structure GIn(m:zb):Prop where
 name:Len m.Name
 params:m.Params.length≤1000000000000∧∀s∈m.Params,Len s
 ret:Len m.Ret
 maps:zvz m
 body:zzk m
 small:m.Code.length≤1000000000000∧m.Maps.length≤1000000000000∧m.Traps.length≤1000000000000
def ze6(m:zb):Bool:=
 ((!((!zoK m.Name)||decide (6<(m.Params.length:Int)))&&zsh m.Params)&&zr2 m.Ret)&&cond m.Abstract (zfg m)
  (!((m.Name == [36,105,110,105,116])&&(((!m.Static)||decide (0<(m.Params.length:Int)))||(!(m.Ret == [86]))))&&(zo m.Locals (zac m) 16&&(zo m.Stack 0 16&&((instrN m.Code&&zmR m)&&zqu m))))
theorem zC7{m:zb}(h:GIn m):zje m.Params:=by have:=h.params.1;unfold zje;omega
theorem znL{m:zb}(h:GIn m):zit m=some (ze6 m):=by
 unfold zit ze6
 rw [zks h.name,Option.bind_some,zpj (zC7 h) h.params.2,zsI h.ret,zkl h.body.code.1 h.body.code.2,zp4 h.maps,zpi h.body.traps.1 h.body.traps.2]
 cases ((!zoK m.Name)||decide (6<(m.Params.length:Int))) with
 |true=>rfl
 |false =>
  cases zsh m.Params with
  |false=>rfl
  |true =>
   cases zr2 m.Ret with
   |false=>rfl
   |true =>
    cases m.Abstract with
    |true=>rfl
    |false =>
     cases ((m.Name == [36,105,110,105,116])&&(((!m.Static)||decide (0<(m.Params.length:Int)))||(!(m.Ret == [86])))) with
     |true=>rfl
     |false =>
      cases zo m.Locals (zac m) 16 with
      |false=>rfl
      |true =>
       cases zo m.Stack 0 16 with
       |false=>rfl
       |true=>cases instrN m.Code <;> cases zqu m <;> cases zmR m <;> rfl
theorem zs1{s:List UInt8}(h:Len s):zn4 s=some (zr2 s):=by
 unfold zn4 zr2
 rw [zeI h]
 cases (s == [86]) <;> rfl
theorem zyg{m:zb}(h:GIn m):zfg m=(((((((!m.Static)&&(!(m.Name == [36,105,110,105,116])))&&(m.Locals == (0:Int)))&&(m.Stack == (0:Int)))&&((m.Code.length:Int) == (0:Int)))&&((m.Maps.length:Int) == (0:Int)))&&((m.Traps.length:Int) == (0:Int))):=by
 obtain ⟨h1,h2,h3⟩:=h.small
 have key:(((m.Code.length:Int)+(m.Maps.length:Int)+(m.Traps.length:Int)) == (0:Int))=((((m.Code.length:Int) == 0)&&((m.Maps.length:Int) == 0))&&((m.Traps.length:Int) == 0)):=by
  by_cases a:(m.Code.length:Int)=0
  ·by_cases b:(m.Maps.length:Int)=0
   ·rw [a,b,Int.zero_add,Int.zero_add];rfl
   ·rw [beq_eq_false_iff_ne.2 (show ((m.Code.length:Int)+m.Maps.length+m.Traps.length)≠0 by omega),beq_eq_false_iff_ne.2 b,Bool.and_false,Bool.false_and]
  ·rw [beq_eq_false_iff_ne.2 (show ((m.Code.length:Int)+m.Maps.length+m.Traps.length)≠0 by omega),beq_eq_false_iff_ne.2 a,Bool.false_and,Bool.false_and]
 unfold zfg
 rw [zjY (n:=(m.Code.length:Int)+(m.Maps.length:Int)) (by omega) (by omega),zjY (by omega) (by omega),key]
 simp only [Bool.and_assoc]
theorem zof(x a b:Int):(decide (x<a)||decide (b<x))=!(zo x a b):=by
 show _=!(decide (a≤x)&&decide (x≤b))
 by_cases h1:x<a
 ·rw [decide_eq_true h1,decide_eq_false (show ¬a≤x by omega)];rfl
 ·rw [decide_eq_false h1,decide_eq_true (show a≤x by omega)]
  by_cases h2:b<x
  ·rw [decide_eq_true h2,decide_eq_false (show ¬x≤b by omega)];rfl
  ·rw [decide_eq_false h2,decide_eq_true (show x≤b by omega)];rfl
theorem znf{m:zb}(h:GIn m):zfV m=some (ze6 m):=by
 have lp:zs (fun z=>zdC m z) 0=some (cond (m.Params.any fun s=>!ze5 s) (.inr false) (.inl ())):=
  ziZ (zC7 h) (fun i x hx=>by
   show zdC m (i:Int)=_
   unfold zdC
   rw [zfv hx,zB,hx]
   simp only [Option.bind_some,cond_true]
   rw [zeI (h.params.2 x (List.mem_of_getElem? hx))]
   rfl) (by show zdC m (m.Params.length:Int)=_;unfold zdC;rw [zf1];rfl)
 have j3:∀a,zeA m a=some (zo m.Locals a 16&&(zo m.Stack 0 16&&((instrN m.Code&&zmR m)&&zqu m))):=fun a=>by
  unfold zeA
  rw [zof,Bool.or_assoc,zof,zrU h.body,zrW h.maps]
  cases zo m.Locals a 16 with
  |false=>rfl
  |true =>
   cases zo m.Stack 0 16 with
   |false=>rfl
   |true=>cases (instrN m.Code&&zmR m) <;> rfl
 have k2:zgY m=some (cond m.Abstract (zfg m)
  (!((m.Name == [36,105,110,105,116])&&(((!m.Static)||decide (0<(m.Params.length:Int)))||(!(m.Ret == [86]))))&&(zo m.Locals (zac m) 16&&(zo m.Stack 0 16&&((instrN m.Code&&zmR m)&&zqu m))))):=by
  unfold zgY zac
  rw [j3,j3,zyg h]
  cases m.Abstract with
  |true=>rfl
  |false =>
   cases ((m.Name == [36,105,110,105,116])&&(((!m.Static)||decide (0<(m.Params.length:Int)))||(!(m.Ret == [86])))) with
   |true=>rfl
   |false=>cases m.Static <;> rfl
 unfold zfV ze6 zsh
 rw [zkA h.name,Option.bind_some,zs1 h.ret,lp]
 cases ((!zoK m.Name)||decide (6<(m.Params.length:Int))) with
 |true=>rfl
 |false =>
  cases zr2 m.Ret with
  |false=>rw [Bool.and_false];rfl
  |true =>
   cases m.Params.any fun s=>!ze5 s with
   |true=>rfl
   |false=>exact k2
theorem zsv{l:List zb}(hl:zje l)(h:∀m∈l,GIn m)(n:Int)(a b:List UInt8)(i:Bool)(c:List (List UInt8))(d:List zq)(e:List zb):
  zda l n a b i c d e=cond (uB (fun m=>(m.Abstract == i)&&ze6 m) (·.Name) [] l) (some false) (some (decide ((l.length:Int)≤n))):=by
 unfold zda
 refine zpb (ok:=fun m=>(m.Abstract == i)&&ze6 m) (nm:=(·.Name)) hl (fun j x hx=>?_) ?_
 ·have hm:=h x (List.mem_of_getElem? hx)
  have hi:=(List.getElem?_eq_some_iff.1 hx).1
  unfold zeH zjj
  rw [zfv hx,zB,hx]
  simp only [Option.bind_some,cond_true]
  rw [znL hm,zm0 (by omega)]
  simp only [Option.bind_some]
  rw [zwp (by unfold zje at *;rw [List.length_take];omega)]
  cases (x.Abstract == i) with
  |false=>rfl
  |true=>cases ze6 x <;> rfl
 ·unfold zeH
  rw [zf1];rfl
structure zzl(c:za):Prop where
 name:Len c.Name
 super:Len c.Super
 impl:zje c.Impl∧∀s∈c.Impl,Len s
 fields:zje c.Fields∧∀f∈c.Fields,Len f.Name∧Len f.Type_
 methods:zje c.Methods∧∀m∈c.Methods,GIn m
def zpN(c:za):Bool:=
 !(c.Interface&&((!(c.Super == [79,98,106,101,99,116]))||decide (0<(c.Fields.length:Int)))) &&
 (((((zbA c.Name&&zbA c.Super)&&(!(uB zbA id [] c.Impl)&&decide ((c.Impl.length:Int)≤4)))&&(!(uB zlA (·.Name) [] c.Fields)&&decide ((c.Fields.length:Int)≤8)))) &&
  (!(uB (fun m=>(m.Abstract == c.Interface)&&ze6 m) (·.Name) [] c.Methods)&&decide ((c.Methods.length:Int)≤8)))
theorem zp2{c:za}(h:zzl c):zml c=some (zpN c):=by
 have e:∀(b d:Bool),cond b (some false) (some d)=some (!b&&d):=fun b d=>by cases b <;> rfl
 unfold zml zpN
 rw [zvH h.fields.1 h.fields.2,zsv h.methods.1 h.methods.2,zfA h.name,zfA h.super,zx5 h.impl.1 h.impl.2,e,e,e]
 cases (c.Interface&&((!(c.Super == [79,98,106,101,99,116]))||decide (0<(c.Fields.length:Int)))) with
 |true=>rfl
 |false =>
  cases zbA c.Name with
  |false=>rfl
  |true=>cases zbA c.Super <;> rfl
theorem zqc{α:Type}(p:α→Bool):∀(l:List α) (k i:Nat) (x:α),l[i]?=some x→p x=true→(ixF p k l == ((k+i:Nat):Int))=!((l.take i).any p)
 | [],k,i,x,h,_=>by simp at h
 |y ::r,k,0,x,h,hp=>by
  have:y=x:=by simpa using h
  subst this
  show (cond (p y) (k:Int) (ixF p (k+1) r) == (k:Int))=true
  rw [hp]
  exact beq_self_eq_true _
 |y ::r,k,i+1,x,h,hp=>by
  have h':r[i]?=some x:=by simpa using h
  show (cond (p y) (k:Int) (ixF p (k+1) r) == ((k+(i+1):Nat):Int))=!(p y||(r.take i).any p)
  cases p y with
  |true=>exact beq_eq_false_iff_ne.2 (show (k:Int)≠((k+(i+1):Nat):Int) by omega)
  |false =>
   have:=zqc p r (k+1) i x h' hp
   rw [show k+1+i=k+(i+1) by omega] at this
   exact this
theorem zmF{c:za}(hl:zje c.Fields)(n:List UInt8):zi5 c n=some (ixF (fun y=>y.Name == n) 0 c.Fields):=by
 unfold zi5
 rw [show ((zs (fun z=>zhM c n z) 0).bind fun o=>zQ o (fun b=>zmG) some)=_ from zbx (p:=fun y:zq=>y.Name == n) hl
  (fun i x hx=>by unfold zhM;rw [zfv hx,zB,hx];rfl) (by unfold zhM;rw [zf1];rfl)]
theorem ziK{c:za}(hl:zje c.Methods)(n:List UInt8):zgd c n=some (ixF (fun y=>y.Name == n) 0 c.Methods):=by
 unfold zgd
 rw [show ((zs (fun z=>zhb c n z) 0).bind fun o=>zQ o (fun b=>zlG) some)=_ from zbx (p:=fun y:zb=>y.Name == n) hl
  (fun i x hx=>by unfold zhb;rw [zfv hx,zB,hx];rfl) (by unfold zhb;rw [zf1];rfl)]
theorem zBp(x y:List UInt8):(x == y)=(y == x):=by
 by_cases h:x=y
 ·rw [h]
 ·rw [beq_eq_false_iff_ne.2 h,beq_eq_false_iff_ne.2 (Ne.symm h)]
theorem zs8{α:Type}(l:List α)(f:α→List UInt8)(n:List UInt8):(l.any fun y=>f y == n)=l.any fun y=>n == f y:=by
 congr 1
 funext y
 exact zBp _ _
theorem znQ{c:za}(h:zzl c):zhN c=some (zpN c):=by
 have himp:=h.impl.1
 unfold zje at himp
 have lf:zs (fun z=>zdX c z) 0=some (cond (uB zlA (·.Name) [] c.Fields) (.inr false) (.inl ())):=by
  rw [zzg]
  refine zk6 h.fields.1 (fun i x hx=>?_) (by show zdX c (c.Fields.length:Int)=_;unfold zdX;rw [zf1];rfl)
  have hm:=h.fields.2 x (List.mem_of_getElem? hx)
  have hfi:=zqc (fun y:zq=>y.Name == x.Name) c.Fields 0 i x hx (beq_self_eq_true _)
  rw [Nat.zero_add,zs8] at hfi
  show zdX c (i:Int)=_
  unfold zdX zlA
  rw [zfv hx,zB,hx]
  simp only [Option.bind_some,cond_true]
  rw [zkA hm.1,zeI hm.2,zmF h.fields.1]
  simp only [Option.bind_some]
  rw [hfi]
  cases zoK x.Name with
  |false=>rfl
  |true =>
   cases (x.Name == [36,105,110,105,116]) with
   |true=>rfl
   |false =>
    cases ze5 x.Type_ with
    |false=>rfl
    |true=>cases (c.Fields.take i).any fun y=>x.Name == y.Name <;> rfl
 have lm:zs (fun z=>zdY c z) 0=some (cond (uB (fun m=>(m.Abstract == c.Interface)&&ze6 m) (·.Name) [] c.Methods) (.inr false) (.inl ())):=by
  rw [zzg]
  refine zk6 h.methods.1 (fun i x hx=>?_) (by show zdY c (c.Methods.length:Int)=_;unfold zdY;rw [zf1];rfl)
  have hm:=h.methods.2 x (List.mem_of_getElem? hx)
  have hfi:=zqc (fun y:zb=>y.Name == x.Name) c.Methods 0 i x hx (beq_self_eq_true _)
  rw [Nat.zero_add,zs8] at hfi
  show zdY c (i:Int)=_
  unfold zdY
  rw [zfv hx,zB,hx]
  simp only [Option.bind_some,cond_true]
  rw [znf hm,ziK h.methods.1]
  simp only [Option.bind_some]
  rw [hfi]
  cases (x.Abstract == c.Interface) with
  |false=>rfl
  |true =>
   cases ze6 x with
   |false=>cases (c.Methods.take i).any fun y=>x.Name == y.Name <;> rfl
   |true=>cases (c.Methods.take i).any fun y=>x.Name == y.Name <;> rfl
 have li:zs (fun z=>zdW c z) 0=some (cond (uB zbA id [] c.Impl) (.inr false) (.inl ())):=by
  rw [zzg]
  refine zk6 h.impl.1 (fun i x hx=>?_) (by show zdW c (c.Impl.length:Int)=_;unfold zdW;rw [zf1];rfl)
  have hm:=h.impl.2 x (List.mem_of_getElem? hx)
  have hi:=(List.getElem?_eq_some_iff.1 hx).1
  have hin:zs (fun z=>zdV c (i:Int) z) 0=some (cond ((c.Impl.take i).any fun y=>y == x) (.inr false) (.inl ())):=by
   have ht:(c.Impl.take i).length=i:=by rw [List.length_take];omega
   refine ziZ (by omega) (fun j y hy=>?_) ?_
   ·have hj:=(List.getElem?_eq_some_iff.1 hy).1
    rw [ht] at hj
    rw [List.getElem?_take_of_lt hj] at hy
    show zdV c (i:Int) (j:Int)=_
    unfold zdV
    rw [decide_eq_true (show (j:Int)<(i:Int) by omega),zB,hy,zB,hx]
    rfl
   ·rw [ht]
    show zdV c (i:Int) (i:Int)=_
    unfold zdV
    rw [decide_eq_false (show ¬(i:Int)<(i:Int) by omega)];rfl
  show zdW c (i:Int)=_
  unfold zdW
  rw [zfv hx,zB,hx]
  simp only [Option.bind_some,cond_true]
  rw [zfD hm,hin,show ((c.Impl.take i).any fun y=>y == x)=(c.Impl.take i).any fun y=>id x == id y from zs8 _ id x]
  cases zbA x with
  |false=>rfl
  |true=>cases (c.Impl.take i).any fun y=>id x == id y <;> rfl
 have hle:∀(n:Nat) (b:Int),decide (b<(n:Int))=!decide ((n:Int)≤b):=fun n b=>by
  by_cases hb:(n:Int)≤b
  ·rw [decide_eq_true hb,decide_eq_false (show ¬b<(n:Int) by omega)];rfl
  ·rw [decide_eq_false hb,decide_eq_true (show b<(n:Int) by omega)];rfl
 unfold zhN zj4 zj5 zpN
 rw [zfD h.name,zfD h.super,li,lf,lm,hle c.Impl.length 4,hle c.Fields.length 8,hle c.Methods.length 8]
 generalize (c.Interface&&((!(c.Super == [79,98,106,101,99,116]))||decide (0<(c.Fields.length:Int))))=B
 generalize uB zbA id [] c.Impl=u1
 generalize uB zlA (·.Name) [] c.Fields=u2
 generalize uB (fun m=>(m.Abstract == c.Interface)&&ze6 m) (·.Name) [] c.Methods=u3
 generalize decide ((c.Impl.length:Int)≤4)=d1
 generalize decide ((c.Fields.length:Int)≤8)=d2
 generalize decide ((c.Methods.length:Int)≤8)=d3
 cases zbA c.Name with
 |false=>cases B <;> rfl
 |true =>
  cases zbA c.Super with
  |false=>cases B <;> rfl
  |true=>cases B <;> cases u1 <;> cases u2 <;> cases u3 <;> cases d1 <;> cases d2 <;> cases d3 <;> rfl
abbrev Tx:=List UInt8
def cl(L:List za)(n:Tx):Option za:=L.find? (fun c=>c.Name == n)
def atN(L:List za)(n:Tx):Int:=ixF (fun c=>c.Name == n) 0 L
def zb7(L:List za)(n:Tx):Bool:=L.any (fun c=>c.Name == n)
def isF(L:List za)(n:Tx):Bool:=match cl L n with |some c=>c.Interface |none=>false
theorem zoz{α:Type}(p:α→Bool):∀(l:List α) (k:Nat),(∃j x,ixF p k l=((k+j:Nat):Int)∧l[j]?=some x∧p x=true∧l.find? p=some x)∨(ixF p k l=-1∧l.find? p=none)
 | [],k=>.inr ⟨rfl,rfl⟩
 |y ::r,k=>by
  unfold ixF
  cases h:p y with
  |true=>exact .inl ⟨0,y,rfl,rfl,h,by simp [List.find?,h]⟩
  |false =>
   rcases zoz p r (k+1) with ⟨j,x,h1,h2,h3,h4⟩ |⟨h1,h2⟩
   ·exact .inl ⟨j+1,x,by show ixF p (k+1) r=_;rw [h1];congr 1;omega,by simpa using h2,h3,by simp [List.find?,h,h4]⟩
   ·exact .inr ⟨h1,by simp [List.find?,h,h2]⟩
theorem zpJ{α:Type}(p:α→Bool):∀(l r:List α) (k:Nat),ixF p k (l++r)=cond (l.any p) (ixF p k l) (ixF p (k+l.length) r)
 | [],r,k=>rfl
 |y ::l,r,k=>by
  show ixF p k (y ::(l++r))=_
  rw [show ixF p k (y ::(l++r))=cond (p y) (k:Int) (ixF p (k+1) (l++r)) from rfl,show ixF p k (y ::l)=cond (p y) (k:Int) (ixF p (k+1) l) from rfl,List.any_cons]
  cases h:p y with
  |true=>rfl
  |false =>
   rw [Bool.false_or,cond_false,cond_false,zpJ p l r (k+1),show k+1+l.length=k+(y ::l).length by simp;omega]
theorem zoe(L:List za)(n:Tx):decide (0≤atN L n)=zb7 L n:=zgb _ 0 L
theorem znu(L:List za)(n:Tx):decide (atN L n<0)=!zb7 L n:=by
 rw [←zoe]
 by_cases h:0≤atN L n
 ·rw [decide_eq_true h,decide_eq_false (by omega)];rfl
 ·rw [decide_eq_false h,decide_eq_true (by omega)];rfl
theorem zms(L:List za)(n:Tx):idx L (atN L n)=cl L n:=by
 unfold atN cl
 rcases zoz (fun c:za=>c.Name == n) L 0 with ⟨j,x,h1,h2,h3,h4⟩ |⟨h1,h2⟩
 ·rw [h1,h4,zB,Nat.zero_add,h2]
 ·rw [h1,h2];rfl
theorem zvY(L:List za)(n:Tx):(cl L n).isSome=zb7 L n:=by
 unfold cl zb7
 rw [Bool.eq_iff_iff,List.any_eq_true]
 exact List.find?_isSome
theorem zbU{L:List za}{n:Tx}{c:za}(h:cl L n=some c):c∈L∧c.Name=n:=by
 unfold cl at h
 exact ⟨List.mem_of_find?_eq_some h,eq_of_beq (List.find?_some (p:=fun c:za=>c.Name == n) h)⟩
theorem zfJ{L:List za}{n:Tx}(h:zb7 L n=true):∃c,cl L n=some c:=by
 rw [←zvY] at h
 exact Option.isSome_iff_exists.1 h
theorem zgf{L:List za}{n:Tx}{c:za}(h:cl L n=some c):zb7 L n=true:=by rw [←zvY,h];rfl
theorem zlQ{L:List za}{n:Tx}(h:cl L n=none):zb7 L n=false:=by rw [←zvY,h];rfl
theorem zhu{L:List za}{n:Tx}:zb7 L n=true↔n∈L.map (·.Name):=by
 unfold zb7
 rw [List.any_eq_true,List.mem_map]
 constructor
 ·rintro ⟨c,h1,h2⟩;exact ⟨c,h1,eq_of_beq h2⟩
 ·rintro ⟨c,h1,h2⟩;exact ⟨c,h1,beq_iff_eq.2 h2⟩
def Nd(L:List za):Prop:=∀(i j:Nat) (c d:za),L[i]?=some c→L[j]?=some d→c.Name=d.Name→i=j
theorem Nd.at{L:List za}(h:Nd L){i:Nat}{c:za}(hi:L[i]?=some c):atN L c.Name=(i:Int):=by
 unfold atN
 rcases zoz (fun d:za=>d.Name == c.Name) L 0 with ⟨j,x,h1,h2,h3,h4⟩ |⟨h1,h2⟩
 ·rw [h1,Nat.zero_add,h j i x c h2 hi (eq_of_beq h3)]
 ·have:=List.find?_eq_none.1 h2 c (List.mem_of_getElem? hi)
  simp at this
theorem Nd.cl{L:List za}(h:Nd L){c:za}(hc:c∈L):cl L c.Name=some c:=by
 obtain ⟨i,hi,e⟩:=List.getElem_of_mem hc
 have hi':L[i]?=some c:=by rw [List.getElem?_eq_getElem hi,e]
 rw [←zms,h.at hi',zB,hi']
theorem Nd.snoc{L:List za}(h:Nd L){c:za}(hc:zb7 L c.Name=false):Nd (L++[c]):=by
 have no:∀(i:Nat) d,L[i]?=some d→d.Name≠c.Name:=fun i d hi e=>by
  have:zb7 L c.Name=true:=zhu.2 (List.mem_map.2 ⟨d,List.mem_of_getElem? hi,e⟩)
  rw [hc] at this;cases this
 have get:∀(i:Nat) d,(L++[c])[i]?=some d→(L[i]?=some d)∨(i=L.length∧d=c):=fun i d hi=>by
  rw [List.getElem?_append] at hi
  split at hi
  ·exact .inl hi
  ·rename_i hlt
   right
   have h1:=(List.getElem?_eq_some_iff.1 hi).1
   simp at h1
   have h2:i=L.length:=by omega
   subst h2
   simp at hi
   exact ⟨rfl,hi.symm⟩
 intro i j d e hi hj hn
 rcases get i d hi with h1 |⟨h1,h1'⟩ <;> rcases get j e hj with h2 |⟨h2,h2'⟩
 ·exact h i j d e h1 h2 hn
 ·subst h2';exact absurd hn (no i d h1)
 ·subst h1';exact absurd hn.symm (no j e h2)
 ·rw [h1,h2]
theorem zyu(L:List za)(c:za)(n:Tx):zb7 (L++[c]) n=(zb7 L n||(c.Name == n)):=by
 unfold zb7;simp
theorem zpM{α:Type}(k k':Tx)(x:α):∀(m:List (Tx×α)),zdI k (zfU k' x m)=if k=k' then some x else zdI k m
 | []=>by
  unfold zfU zdI zdI
  by_cases h:k=k'
  ·rw [if_pos h,decide_eq_true h];rfl
  ·rw [if_neg h,decide_eq_false h];rfl
 |(a,y)::r=>by
  unfold zfU
  by_cases h':k'=a
  ·subst h'
   rw [decide_eq_true rfl]
   show zdI k ((k',x)::r)=_
   unfold zdI
   by_cases h:k=k'
   ·rw [if_pos h,decide_eq_true h];rfl
   ·rw [if_neg h,decide_eq_false h];rfl
  ·rw [decide_eq_false h']
   show zdI k ((a,y)::zfU k' x r)=_
   unfold zdI
   rw [zpM k k' x r]
   by_cases h:k=k'
   ·subst h
    rw [if_pos rfl,decide_eq_false h',if_pos rfl];rfl
   ·rw [if_neg h,if_neg h]
def zcD(L:List za)(m:List (Tx×Int)):Prop:=∀n,zdI n m=cond (zb7 L n) (some (atN L n)) none
theorem zcD.snoc{L:List za}{m:List (Tx×Int)}(h:zcD L m){c:za}(hc:zb7 L c.Name=false):zcD (L++[c]) (zfU c.Name (L.length:Int) m):=by
 intro n
 rw [zpM,zyu,h n]
 unfold atN
 rw [zpJ]
 show _=cond _ (some (cond (zb7 L n) _ _)) none
 by_cases e:n=c.Name
 ·subst e
  rw [if_pos rfl,hc,beq_self_eq_true]
  simp [ixF]
 ·rw [if_neg e,beq_eq_false_iff_ne.2 (Ne.symm e)]
  cases zb7 L n <;> rfl
theorem zcD.has{L:List za}{m:List (Tx×Int)}(h:zcD L m)(n:Tx):(zdI n m).isSome=zb7 L n:=by
 rw [h n];cases zb7 L n <;> rfl
theorem zcD.idx{L:List za}{m:List (Tx×Int)}(h:zcD L m){n:Tx}(hn:zb7 L n=true):idx L ((zdI n m).getD 0)=cl L n:=by
 rw [h n,hn];exact zms L n
inductive Rc(nx:Tx→List Tx):Tx→Tx→Prop
 |one {a b}:b∈nx a→Rc nx a b
 |more {a b c}:b∈nx a→Rc nx b c→Rc nx a c
theorem Rc.snoc{nx:Tx→List Tx}{a b c:Tx}(h:Rc nx a b)(hc:c∈nx b):Rc nx a c:=by
 induction h with
 |one h=>exact .more h (.one hc)
 |more h _ ih=>exact .more h (ih hc)
theorem Rc.into{nx:Tx→List Tx}{F:Tx→Prop}(hF:∀x,F x→∀y∈nx x,F y){a b:Tx}(h:Rc nx a b):(∀y∈nx a,F y)→F b:=by
 induction h with
 |one h=>exact fun ha=>ha _ h
 |more h _ ih=>exact fun ha=>ih (hF _ (ha _ h))
theorem zw3:∀{a b:List Tx},a.Nodup→(∀x∈a,x∈b)→a.length≤b.length
 | [],b,_,_=>by simp
 |x ::r,b,h,hs=>by
  rw [List.nodup_cons] at h
  have hx:=hs x (by simp)
  have h1:=zw3 (a:=r) (b:=b.erase x) h.2 (fun y hy=>(List.mem_erase_of_ne (fun e=>h.1 (by rw [←e];exact hy))).2 (hs y (by simp [hy])))
  have h2:=List.length_erase_of_mem hx
  have h3:=List.length_pos_of_mem hx
  simp only [List.length_cons]
  omega
def push(zW:List Tx):List Tx→List Tx
 | []=>zW
 |s ::r=>push (cond (zW.any fun y=>s == y) zW (zW++[s])) r
theorem zvL{s:Tx}{l:List Tx}:(l.any fun y=>s == y)=true↔s∈l:=by
 rw [List.any_eq_true]
 constructor
 ·rintro ⟨y,h1,h2⟩;rw [eq_of_beq h2];exact h1
 ·intro h;exact ⟨s,h,beq_self_eq_true _⟩
theorem zhL:∀(l zW:List Tx),∃t,push zW l=zW++t∧t.Nodup∧(∀x∈t,x ∉ zW∧x∈l)∧∀x∈l,x∈zW++t
 | [],zW=>⟨[],by simp [push],by simp,fun x h=>(by cases h),fun x h=>(by cases h)⟩
 |s ::r,zW=>by
  unfold push
  cases h:(zW.any fun y=>s == y) with
  |true =>
   obtain ⟨t,h1,h2,h3,h4⟩:=zhL r zW
   refine ⟨t,h1,h2,fun x hx=>⟨(h3 x hx).1,List.mem_cons_of_mem _ (h3 x hx).2⟩,fun x hx=>?_⟩
   rcases List.mem_cons.1 hx with e |e
   ·rw [e];exact List.mem_append_left _ (zvL.1 h)
   ·exact h4 x e
  |false =>
   have hs:s ∉ zW:=fun hm=>by rw [zvL.2 hm] at h;cases h
   obtain ⟨t,h1,h2,h3,h4⟩:=zhL r (zW++[s])
   refine ⟨s ::t,by show push (zW++[s]) r=_;rw [h1];simp,List.nodup_cons.2 ⟨fun hm=>(h3 s hm).1 (by simp),h2⟩,fun x hx=>?_,fun x hx=>?_⟩
   ·rcases List.mem_cons.1 hx with e |e
    ·rw [e];exact ⟨hs,by simp⟩
    ·exact ⟨fun hm=>(h3 x e).1 (List.mem_append_left _ hm),List.mem_cons_of_mem _ (h3 x e).2⟩
   ·rcases List.mem_cons.1 hx with e |e
    ·rw [e];simp
    ·have:=h4 x e
     simpa using this
def bfs(nx:Tx→List Tx):Nat→Nat→List Tx→List Tx
 | 0,_,zW=>zW
 |d+1,i,zW=>match zW[i]? with |none=>zW |some x=>bfs nx d (i+1) (push zW (nx x))
def fin(nx:Tx→List Tx):Nat→Nat→List Tx→Bool
 | 0,i,zW=>decide (zW.length≤i)
 |d+1,i,zW=>match zW[i]? with |none=>true |some x=>fin nx d (i+1) (push zW (nx x))
def Inv(U s0 zW:List Tx):Prop:=∃T,zW=s0++T∧T.Nodup∧(∀x∈T,x∈U) 
theorem Inv.push{U s0 zW l:List Tx}(h:Inv U s0 zW)(hU:∀y∈l,y∈U):Inv U s0 (push zW l):=by
 obtain ⟨T,h1,h2,h3⟩:=h
 obtain ⟨t,k1,k2,k3,k4⟩:=zhL l zW
 refine ⟨T++t,by rw [k1,h1];simp,List.nodup_append.2 ⟨h2,k2,fun a ha b hb e=>(k3 b hb).1 (by rw [h1,←e];exact List.mem_append_right _ ha)⟩,fun x hx=>?_⟩
 rcases List.mem_append.1 hx with e |e
 ·exact h3 x e
 ·exact hU x (k3 x e).2
theorem Inv.len{U s0 zW:List Tx}(h:Inv U s0 zW):zW.length≤s0.length+U.length:=by
 obtain ⟨T,h1,h2,h3⟩:=h
 have:=zw3 h2 h3
 rw [h1,List.length_append];omega
theorem Inv.mem{U s0 zW:List Tx}(h:Inv U s0 zW)(h0:∀x∈s0,x∈U):∀x∈zW,x∈U:=by
 obtain ⟨T,h1,h2,h3⟩:=h
 intro x hx
 rw [h1] at hx
 rcases List.mem_append.1 hx with e |e
 ·exact h0 x e
 ·exact h3 x e
theorem Inv.start{U s0:List Tx}:Inv U s0 s0:=⟨[],by simp,by simp,fun x h=>(by cases h)⟩
theorem zwc{nx:Tx→List Tx}{U s0:List Tx}(hU:∀x y,y∈nx x→y∈U):∀(d i:Nat) (zW:List Tx),Inv U s0 zW→s0.length+U.length≤d+i→fin nx d i zW=true
 | 0,i,zW,h,hd=>by
  have:=h.len
  exact decide_eq_true (by omega)
 |d+1,i,zW,h,hd=>by
  unfold fin
  cases zW[i]? with
  |none=>rfl
  |some x=>exact zwc hU d (i+1) _ (h.push (hU x)) (by omega)
theorem zmj{nx:Tx→List Tx}:∀(d i:Nat) (zW:List Tx),∃t,bfs nx d i zW=zW++t
 | 0,i,zW=>⟨[],by simp [bfs]⟩
 |d+1,i,zW=>by
  unfold bfs
  cases zW[i]? with
  |none=>exact ⟨[],by simp⟩
  |some x =>
   obtain ⟨t,h⟩:=zmj (nx:=nx) d (i+1) (push zW (nx x))
   obtain ⟨u,k,_⟩:=zhL (nx x) zW
   exact ⟨u++t,by show bfs nx d (i+1) _=_;rw [h,k];simp⟩
theorem zvR{nx:Tx→List Tx}{U s0:List Tx}(hU:∀x y,y∈nx x→y∈U):∀(d i:Nat) (zW:List Tx),Inv U s0 zW→Inv U s0 (bfs nx d i zW)
 | 0,i,zW,h=>h
 |d+1,i,zW,h=>by
  unfold bfs
  cases zW[i]? with
  |none=>exact h
  |some x=>exact zvR hU d (i+1) _ (h.push (hU x))
theorem zog{nx:Tx→List Tx}{Q:Tx→Prop}(hQ:∀x,Q x→∀y∈nx x,Q y):∀(d i:Nat) (zW:List Tx),(∀x∈zW,Q x)→∀x∈bfs nx d i zW,Q x
 | 0,i,zW,h=>h
 |d+1,i,zW,h=>by
  unfold bfs
  cases hi:zW[i]? with
  |none=>exact h
  |some x =>
   refine zog hQ d (i+1) _ fun y hy=>?_
   obtain ⟨u,k1,_,k3,_⟩:=zhL (nx x) zW
   rw [k1] at hy
   rcases List.mem_append.1 hy with e |e
   ·exact h y e
   ·exact hQ x (h x (List.mem_of_getElem? hi)) y (k3 y e).2
theorem zmY{nx:Tx→List Tx}:∀(d i:Nat) (zW:List Tx),fin nx d i zW=true→(∀j x,j<i→zW[j]?=some x→∀y∈nx x,y∈zW)→∀x∈bfs nx d i zW,∀y∈nx x,y∈bfs nx d i zW
 | 0,i,zW,hf,h=>fun x hx y hy=>by
  have hl:zW.length≤i:=of_decide_eq_true hf
  obtain ⟨j,hj,e⟩:=List.getElem_of_mem (show x∈zW from hx)
  exact h j x (by omega) (by rw [List.getElem?_eq_getElem hj,e]) y hy
 |d+1,i,zW,hf,h=>by
  unfold fin at hf
  unfold bfs
  cases hi:zW[i]? with
  |none =>
   intro x hx y hy
   have hl:zW.length≤i:=List.getElem?_eq_none_iff.1 hi
   obtain ⟨j,hj,e⟩:=List.getElem_of_mem (show x∈zW from hx)
   exact h j x (by omega) (by rw [List.getElem?_eq_getElem hj,e]) y hy
  |some z =>
   rw [hi] at hf
   obtain ⟨u,k1,_,k3,k4⟩:=zhL (nx z) zW
   have hlt:i<zW.length:=(List.getElem?_eq_some_iff.1 hi).1
   refine zmY d (i+1) _ hf fun j x hj hx y hy=>?_
   rw [k1] at hx ⊢
   rw [List.getElem?_append_left (by omega)] at hx
   by_cases e:j=i
   ·subst e
    rw [hi] at hx
    cases hx
    exact k4 y hy
   ·exact List.mem_append_left _ (h j x (by omega) hx y hy)
theorem zBq{nx:Tx→List Tx}{d:Nat}{a b:Tx}(hf:fin nx d 0 (nx a)=true):b∈bfs nx d 0 (nx a)↔Rc nx a b:=by
 constructor
 ·exact zog (Q:=fun x=>Rc nx a x) (fun x hx y hy=>hx.snoc hy) d 0 _ (fun x hx=>.one hx) b
 ·intro h
  refine h.into (F:=fun x=>x∈bfs nx d 0 (nx a)) (zmY d 0 _ hf (fun j x hj=>by omega)) fun y hy=>?_
  obtain ⟨t,e⟩:=zmj (nx:=nx) d 0 (nx a)
  rw [e];exact List.mem_append_left _ hy
theorem zsj{R:Type}{I:List Tx→Prop}{nx:Tx→List Tx}{stop:Tx→Option R}{body:List Tx×Int→Option (Sum (List Tx×Int) (Sum Unit R))}
  (hb:∀(i:Nat) zW x,I zW→zW[i]?=some x→body (zW,(i:Int))=match stop x with |some r=>some (.inr (.inr r)) |none=>some (.inl (push zW (nx x),((i+1:Nat):Int))))
  (he:∀(i:Nat) zW,I zW→zW.length≤i→body (zW,(i:Int))=some (.inr (.inl ())))
  (hp:∀zW x,I zW→x∈zW→I (push zW (nx x))):∀(d i:Nat) (zW:List Tx),I zW→fin nx d i zW=true →
  zs body (zW,(i:Int))=some (match ((bfs nx d i zW).drop i).findSome? stop with |some r=>(Sum.inr r:Sum Unit R) |none=>Sum.inl ())
 | 0,i,zW,hI,hf=>by
  have hl:zW.length≤i:=of_decide_eq_true hf
  rw [zJ,he i zW hI hl]
  show _=some (match (zW.drop i).findSome? stop with |some r=>(Sum.inr r:Sum Unit R) |none=>Sum.inl ())
  rw [List.drop_eq_nil_of_le hl]
  rfl
 |d+1,i,zW,hI,hf=>by
  unfold fin at hf
  unfold bfs
  cases hi:zW[i]? with
  |none =>
   have hl:zW.length≤i:=List.getElem?_eq_none_iff.1 hi
   rw [zJ,he i zW hI hl]
   show _=some (match (zW.drop i).findSome? stop with |some r=>(Sum.inr r:Sum Unit R) |none=>Sum.inl ())
   rw [List.drop_eq_nil_of_le hl]
   rfl
  |some x =>
   rw [hi] at hf
   obtain ⟨t,ht⟩:=zmj (nx:=nx) d (i+1) (push zW (nx x))
   obtain ⟨u,hu,_⟩:=zhL (nx x) zW
   have hx:(bfs nx d (i+1) (push zW (nx x)))[i]?=some x:=by
    rw [ht,hu,List.append_assoc,List.getElem?_append_left (List.getElem?_eq_some_iff.1 hi).1,hi]
   obtain ⟨hlt,hge⟩:=List.getElem?_eq_some_iff.1 hx
   rw [zJ,hb i zW x hI hi]
   show _=some (match ((bfs nx d (i+1) (push zW (nx x))).drop i).findSome? stop with |some r=>(Sum.inr r:Sum Unit R) |none=>Sum.inl ())
   rw [List.drop_eq_getElem_cons hlt,List.findSome?_cons,hge]
   cases stop x with
   |some r=>rfl
   |none=>exact zsj hb he hp d (i+1) _ (hp _ _ hI (List.mem_of_getElem? hi)) hf
def nxA(L:List za)(n:Tx):List Tx:=match cl L n with |none=>[] |some c=>(c.Super ::c.Impl).filter (fun s=>!(s == []))
def nxI(L:List za)(n:Tx):List Tx:=match cl L n with |none=>[] |some c=>c.Impl
structure zx2(L:List za):Prop where
 nd:Nd L
 noE:zb7 L []=false
 closed:∀c∈L,∀s∈c.Super ::c.Impl,s≠[]→zb7 L s=true
 implE:∀c∈L,[] ∉ c.Impl
structure Wf(L:List za):Prop extends zx2 L where
 acyc:∀n,¬Rc (nxA L) n n
 superF:∀c∈L,isF L c.Super=false
 implF:∀c∈L,∀s∈c.Impl,isF L s=true
theorem zx2.nxA_in{L:List za}(h:zx2 L)(x y:Tx)(hy:y∈nxA L x):y∈L.map (·.Name):=by
 unfold nxA at hy
 split at hy
 ·cases hy
 ·rename_i c hc
  rw [List.mem_filter] at hy
  exact zhu.1 (h.closed c (zbU hc).1 y hy.1 (by have:=hy.2;simpa using this))
theorem zx2.nxI_in{L:List za}(h:zx2 L)(x y:Tx)(hy:y∈nxI L x):y∈L.map (·.Name):=by
 unfold nxI at hy
 split at hy
 ·cases hy
 ·rename_i c hc
  exact zhu.1 (h.closed c (zbU hc).1 y (List.mem_cons_of_mem _ hy) (fun e=>h.implE c (zbU hc).1 (by rw [←e];exact hy)))
def sup(L:List za):Nat→Tx→List Tx
 | 0,_=>[]
 |d+1,n=>match cl L n with |none=>[] |some c=>n ::sup L d c.Super
def zvx(L:List za):Nat→Tx→Bool
 | 0,n=>!zb7 L n
 |d+1,n=>match cl L n with |none=>true |some c=>zvx L d c.Super
theorem zum{L:List za}(h:Wf L):∀(d:Nat) (n:Tx),zvx L d n=false→zb7 L n=true∧∃r,sup L (d+1) n=n ::r∧r.length=d∧(n ::r).Nodup∧(∀x∈r,x∈L.map (·.Name)∧Rc (nxA L) n x)
 | 0,n,hf=>by
  have hn:zb7 L n=true:=by simpa [zvx] using hf
  obtain ⟨c,hc⟩:=zfJ hn
  exact ⟨hn,[],by simp [sup,hc],rfl,by simp,fun x h=>(by cases h)⟩
 |d+1,n,hf=>by
  unfold zvx at hf
  split at hf
  ·cases hf
  ·rename_i c hc
   obtain ⟨h0,r,h1,h2,h3,h4⟩:=zum h d c.Super hf
   have hs:c.Super∈nxA L n:=by
    unfold nxA
    rw [hc]
    refine List.mem_filter.2 ⟨by simp,?_⟩
    have:c.Super≠[]:=fun e=>by rw [e,h.noE] at h0;cases h0
    simpa using this
   have h5:∀x∈c.Super ::r,x∈L.map (·.Name)∧Rc (nxA L) n x:=fun x hx=>by
    rcases List.mem_cons.1 hx with e |e
    ·rw [e];exact ⟨zhu.1 h0,.one hs⟩
    ·exact ⟨(h4 x e).1,.more hs (h4 x e).2⟩
   refine ⟨zgf hc,c.Super ::r,?_,by simp [h2],List.nodup_cons.2 ⟨fun hm=>h.acyc n (h5 n hm).2,h3⟩,h5⟩
   show (match cl L n with |none=>[] |some c=>n ::sup L (d+1) c.Super)=_
   rw [hc]
   show n ::sup L (d+1) c.Super=_
   rw [h1]
theorem zul{L:List za}(h:Wf L)(n:Tx):zvx L L.length n=true:=by
 cases hf:zvx L L.length n with
 |true=>rfl
 |false =>
  obtain ⟨h0,r,h1,h2,h3,h4⟩:=zum h _ n hf
  have:=zw3 h3 (b:=L.map (·.Name)) (fun x hx=>by
   rcases List.mem_cons.1 hx with e |e
   ·rw [e];exact zhu.1 h0
   ·exact (h4 x e).1)
  simp at this
  omega
def zCo:Tx:=[79,98,106,101,99,116]
def zzc:Tx:=[84,104,114,111,119,110]
def gC(n s:Tx):za:=za.mk n s false [] [] []
def giv:List za:=[gC zCo [],gC zzc zCo,gC [78,117,108,108,69,114,114] zzc,gC [82,97,110,103,101,69,114,114] zzc,gC [77,97,116,104,69,114,114] zzc,gC [67,97,115,116,69,114,114] zzc,
 gC [83,105,122,101,69,114,114] zzc,gC [83,116,111,114,101,69,114,114] zzc,gC [73,110,105,116,69,114,114] zzc,gC [67,108,97,115,115,69,114,114] zzc]
theorem zqe:zm4=some giv:=by kernel_rfl
theorem zqM:znh=some giv:=by kernel_rfl
def zrK(k:Nat)(m:List (Tx×Int)):List za→List (Tx×Int)
 | []=>m
 |c ::r=>zrK (k+1) (zfU c.Name (k:Int) m) r
def fresh(pre:List za):List za→Bool
 | []=>true
 |c ::r=>!zb7 pre c.Name&&fresh (pre++[c]) r
theorem ztX:∀(r pre:List za) (m:List (Tx×Int)),zcD pre m→fresh pre r=true→zcD (pre++r) (zrK pre.length m r)
 | [],pre,m,h,_=>by simpa [zrK] using h
 |c ::r,pre,m,h,hf=>by
  simp only [fresh,Bool.and_eq_true,Bool.not_eq_true'] at hf
  have:=ztX r (pre++[c]) _ (h.snoc hf.1) hf.2
  simpa [zrK] using this
theorem ztK:∀(r pre:List za),Nd pre→fresh pre r=true→Nd (pre++r)
 | [],pre,h,_=>by simpa using h
 |c ::r,pre,h,hf=>by
  simp only [fresh,Bool.and_eq_true,Bool.not_eq_true'] at hf
  have:=ztK r (pre++[c]) (h.snoc hf.1) hf.2
  simpa using this
theorem zAt:zs (fun z=>zoy giv z.1 z.2) ([],0)=some (.inl (zrK 0 [] giv)):=by kernel_rfl
theorem zwm:zcD giv (zrK 0 [] giv):=ztX giv [] [] (fun n=>rfl) (by decide +kernel)
theorem zpI:Nd giv:=ztK giv [] (fun i j c d h=>by simp at h) (by decide +kernel)
def lay:List za→List za→Option (List za)
 |L,[]=>some L
 |L,c ::r=>cond (zb7 L c.Name||!zpN c) none (lay (L++[c]) r)
theorem zpL:∀(r L L':List za),Nd L→lay L r=some L'→L'=L++r∧Nd L'∧∀c∈r,zpN c=true
 | [],L,L',h,e=>by
  unfold lay at e
  cases e
  exact ⟨by simp,h,fun c hc=>by cases hc⟩
 |c ::r,L,L',h,e=>by
  unfold lay at e
  cases h1:zb7 L c.Name with
  |true=>rw [h1] at e;cases e
  |false =>
   cases h2:zpN c with
   |false=>rw [h1,h2] at e;cases e
   |true =>
    rw [h1,h2] at e
    obtain ⟨k1,k2,k3⟩:=zpL r (L++[c]) L' (h.snoc h1) e
    refine ⟨by rw [k1];simp,k2,fun d hd=>?_⟩
    rcases List.mem_cons.1 hd with e |e
    ·rw [e];exact h2
    ·exact k3 d e
theorem zC3{w:Nat}{L:List za}{c:za}(h:L.length≤1000)(hw:w≤1000):zfY w L [c]=some (L++[c]):=by
 refine zcE ?_ (by simp;omega)
 have:(L.length+[c].length)*w≤1001*1000:=Nat.mul_le_mul (by simp;omega) hw
 omega
theorem ztR{l:List za}(hl:l.length≤16)(hc:∀c∈l,zzl c):∀(r pre L:List za) (m:List (Tx×Int)),l=pre++r→zcD L m→L.length=10+pre.length →
  (lay L r=none→zs (fun z=>zdH l z.1 z.2.1 z.2.2) (L,m,(pre.length:Int))=some (.inr (none,1))) ∧
  (∀L',lay L r=some L'→∃m',zcD L' m'∧zs (fun z=>zdH l z.1 z.2.1 z.2.2) (L,m,(pre.length:Int))=some (.inl (L',m')))
 | [],pre,L,m,e,hm,hL=>by
  rw [List.append_nil] at e
  subst e
  unfold lay
  refine ⟨fun h=>(by cases h),fun L' h=>?_⟩
  cases h
  refine ⟨m,hm,?_⟩
  rw [zJ]
  show (zdH l L m (l.length:Int)).bind _=_
  unfold zdH
  rw [zf1];rfl
 |c ::r,pre,L,m,e,hm,hL=>by
  have hlen:l.length=pre.length+(r.length+1):=by rw [e];simp
  have hx:l[pre.length]?=some c:=by rw [e];simp
  have hcm:c∈l:=List.mem_of_getElem? hx
  have step:zs (fun z=>zdH l z.1 z.2.1 z.2.2) (L,m,(pre.length:Int))=(cond (zb7 L c.Name||!zpN c) (some (.inr (.inr (none,1)))) (some (.inl (L++[c],zfU c.Name (L.length:Int) m,((pre.length+1:Nat):Int))))).bind (Sum.elim (zs (fun z=>zdH l z.1 z.2.1 z.2.2)) some):=by
   rw [zJ]
   show (zdH l L m (pre.length:Int)).bind _=_
   congr 1
   unfold zdH
   rw [zfv hx,zB,hx]
   simp only [cond_true,Option.bind_some]
   rw [hm.has,zp2 (hc c hcm),zC3 (by omega) (by omega),zaa (by omega)]
   cases zb7 L c.Name <;> cases zpN c <;> rfl
  rw [step]
  unfold lay
  cases h1:(zb7 L c.Name||!zpN c) with
  |true=>exact ⟨fun _=>rfl,fun L' h=>by cases h⟩
  |false =>
   rw [Bool.or_eq_false_iff] at h1
   have:=ztR hl hc r (pre++[c]) (L++[c]) _ (by rw [e];simp) (hm.snoc h1.1) (by simp;omega)
   rw [show (pre++[c]).length=pre.length+1 by simp] at this
   exact this
structure Okc(c:za):Prop where
 name:c.Name≠[]
 impl:c.Impl.length≤4
 implE:∀s∈c.Impl,s≠[]
theorem ziS{s:Tx}(h:zbA s=true):s≠[]:=by
 intro e
 subst e
 unfold zbA at h
 simp at h
theorem zsi{α:Type}{ok:α→Bool}{nm:α→List UInt8}:∀{l pre:List α},uB ok nm pre l=false→∀x∈l,ok x=true
 | [],_,_,x,hx=>by cases hx
 |y ::r,pre,h,x,hx=>by
  unfold uB at h
  simp only [Bool.or_eq_false_iff,Bool.not_eq_false'] at h
  rcases List.mem_cons.1 hx with e |e
  ·rw [e];exact h.1.1
  ·exact zsi h.2 x e
theorem zAK{c:za}(h:zpN c=true):Okc c:=by
 unfold zpN at h
 simp only [Bool.and_eq_true,Bool.not_eq_true',decide_eq_true_eq] at h
 obtain ⟨_,⟨⟨⟨⟨h1,h2⟩,h3,h4⟩,h5⟩,h6⟩⟩:=h
 exact ⟨ziS h1,by omega,fun s hs=>ziS (zsi h3 s hs)⟩
theorem zAv:∀c∈giv,Okc c:=by
 intro c hc
 have h:giv.all (fun c=>!(c.Name == [])&&(c.Impl == []))=true:=by decide +kernel
 have:=List.all_eq_true.1 h c hc
 simp only [Bool.and_eq_true,Bool.not_eq_true',beq_eq_false_iff_ne,beq_iff_eq] at this
 exact ⟨this.1,by rw [this.2];simp,fun s hs=>by rw [this.2] at hs;cases hs⟩
theorem zql{l L:List za}(h:lay giv l=some L):∀c∈L,Okc c:=by
 obtain ⟨h1,h2,h3⟩:=zpL l giv L zpI h
 intro c hc
 rw [h1] at hc
 rcases List.mem_append.1 hc with e |e
 ·exact zAv c e
 ·exact zAK (h3 c e)
theorem zti{c:za}(h:c.Impl.length≤4):zfY 16 [c.Super] c.Impl=some (c.Super ::c.Impl):=zcE (by simp;omega) (by simp;omega)
theorem zjt{c:za}(h:c.Impl.length≤4):zhQ c=some (c.Super ::c.Impl):=by
 unfold zhQ;rw [zti h];rfl
theorem zv1{l:List Tx}{L:List za}{m:List (Tx×Int)}(hm:zcD L m)(hl:l.length≤1000):zai l L m=some (l.any fun s=>!zb7 L s):=by
 unfold zai zb0
 rw [show ((zs (fun z=>zaU l L m z) 0).bind fun o=>zQ o (fun b=>zdu) some)=_ from zbx (l:=l) (p:=fun s=>!zb7 L s) (by omega)
  (fun i x hx=>by unfold zaU zk8 zaY;rw [zfv hx,zB,hx];simp only [cond_true,Option.bind_some];rw [hm.has]) (by unfold zaU;rw [zf1];rfl)]
 exact congrArg some (zgb _ 0 l)
theorem zpH{L:List za}{m:List (Tx×Int)}(hm:zcD L m){n:Tx}(hn:zb7 L n=true):zcA L m n=cl L n:=by
 unfold zcA
 rw [hm.idx hn]
 cases cl L n <;> rfl
theorem zv2{l:List Tx}{L:List za}{m:List (Tx×Int)}(hm:zcD L m)(hl:l.length≤1000)(hh:∀s∈l,zb7 L s=true):zaj l L m=some (l.any fun s=>!isF L s):=by
 unfold zaj zb1
 rw [show ((zs (fun z=>zaV l L m z) 0).bind fun o=>zQ o (fun b=>zdv) some)=_ from zbx (l:=l) (p:=fun s=>!isF L s) (by omega)
  (fun i x hx=>by
   obtain ⟨c,hc⟩:=zfJ (hh x (List.mem_of_getElem? hx))
   unfold zaV zhv isF
   rw [zfv hx,zB,hx];simp only [cond_true,Option.bind_some];rw [zpH hm (zgf hc),hc];rfl) (by unfold zaV;rw [zf1];rfl)]
 exact congrArg some (zgb _ 0 l)
def cyc(L:List za)(n:Tx):Bool:=@decide (Rc (nxA L) n n) (Classical.propDecidable _)
theorem zqa{L:List za}{n:Tx}:cyc L n=true↔Rc (nxA L) n n:=by unfold cyc;exact @decide_eq_true_iff _ (Classical.propDecidable _)
def zsn(L:List za)(c:za):Bool:=isF L c.Super||(c.Impl.any (fun s=>!isF L s)||cyc L c.Name)
theorem zoT{R:Type}{body:List Tx×Int→Option (Sum (List Tx×Int) (Sum (List Tx) R))}{l:List Tx}{p:Tx→Bool}(hl:l.length≤100)
  (hb:∀(i:Nat) x zW,zW.length≤1000→l[i]?=some x→body (zW,(i:Int))=some (.inl (cond (p x&&!(zW.any fun y=>x == y)) (zW++[x]) zW,IntKind.i64.wrap ((i:Int)+1))))
  (he:∀zW,body (zW,(l.length:Int))=some (.inr (.inl zW))):∀(r pre zW:List Tx),l=pre++r→zW.length+r.length≤1000→zs body (zW,(pre.length:Int))=some (.inl (push zW (r.filter p)))
 | [],pre,zW,e,hs=>by
  rw [List.append_nil] at e
  subst e
  rw [zJ,he];rfl
 |x ::r,pre,zW,e,hs=>by
  have hlen:l.length=pre.length+(r.length+1):=by rw [e];simp
  have hx:l[pre.length]?=some x:=by rw [e];simp
  simp only [List.length_cons] at hs
  rw [zJ,hb _ x zW (by omega) hx,zaa (by omega)]
  have ih:=fun s h=>zoT hl hb he r (pre++[x]) s (by rw [e];simp) h
  rw [show (pre++[x]).length=pre.length+1 by simp] at ih
  cases h1:p x with
  |false =>
   rw [List.filter_cons_of_neg (by rw [h1];exact Bool.false_ne_true)]
   exact ih zW (by omega)
  |true =>
   rw [List.filter_cons_of_pos h1]
   unfold push
   cases h2:(zW.any fun y=>x == y) with
   |true=>exact ih zW (by omega)
   |false=>exact ih (zW++[x]) (by simp;omega)
theorem znX{l:List Tx}(hl:l.length≤1000)(n:Tx):zI l n=some (l.any fun y=>n == y):=zwq (by unfold zje;omega) n
theorem zwe{l zW:List Tx}(hl:l.length≤100)(hs:zW.length+l.length≤1000):zs (fun z=>zdA l z.1 z.2) (zW,0)=some (.inl (push zW (l.filter (fun s=>!(s == []))))):=by
 refine zoT (l:=l) (p:=fun s=>!(s == [])) hl (fun i x s h hx=>?_) (fun s=>?_) l [] zW rfl hs
 ·show zdA l s (i:Int)=_
  unfold zdA zfy
  rw [zfv hx,zB,hx]
  simp only [cond_true,Option.bind_some]
  rw [znX h,zcE (w:=16) (l:=s) (x:=[x]) (by simp;omega) (by simp;omega)]
  cases (x == []) <;> cases (s.any fun y=>x == y) <;> rfl
 ·show zdA l s (l.length:Int)=_
  unfold zdA
  rw [zf1];rfl
theorem zoM{L:List za}{n:Tx}{c:za}(h:cl L n=some c):nxA L n=(c.Super ::c.Impl).filter (fun s=>!(s == [])):=by unfold nxA;rw [h]
theorem zzF{L:List za}(hL:∀c∈L,Okc c)(n:Tx):(nxA L n).length≤5:=by
 unfold nxA
 split
 ·simp
 ·rename_i c hc
  have:=(hL c (zbU hc).1).impl
  exact Nat.le_trans (List.length_filter_le _ _) (by simp;omega)
theorem zyQ(l zW:List Tx):(push zW l).length≤zW.length+l.length:=by
 induction l generalizing zW with
 |nil=>simp [push]
 |cons x r ih =>
  unfold push
  cases (zW.any fun y=>x == y) with
  |true=>have:=ih zW;simp only [cond_true,List.length_cons];omega
  |false=>have:=ih (zW++[x]);simp only [cond_false,List.length_cons];simp at this;omega
theorem zAn{L:List za}{m:List (Tx×Int)}(hm:zcD L m)(h:zx2 L)(hO:∀c∈L,Okc c)(hlen:L.length≤100){c:za}(hc:c∈L)(hs:c.Super≠[]):zeZ L m c=some (!zsn L c):=by
 have hcs:=h.closed c hc
 have hsup:zb7 L c.Super=true:=hcs c.Super (by simp) hs
 obtain ⟨x,hx⟩:=zfJ hsup
 have himp:∀s∈c.Impl,zb7 L s=true:=fun s hm=>hcs s (by simp [hm]) ((hO c hc).implE s hm)
 have hi4:=(hO c hc).impl
 have e0:(c.Super ::c.Impl)=nxA L c.Name:=by
  rw [zoM (h.nd.cl hc),List.filter_eq_self.2]
  intro s hsm
  rcases List.mem_cons.1 hsm with e |e
  ·rw [e];simpa using hs
  ·simpa using (hO c hc).implE s e
 unfold zeZ
 rw [zpH hm hsup,hx,zv2 hm (by omega) himp,zjt hi4]
 simp only [Option.bind_some]
 have eF:isF L c.Super=x.Interface:=by unfold isF;rw [hx]
 unfold zsn
 rw [eF]
 cases x.Interface with
 |true=>rfl
 |false =>
  cases c.Impl.any (fun s=>!isF L s) with
  |true=>rfl
  |false =>
   have hfin:fin (nxA L) (5+L.length) 0 (nxA L c.Name)=true:=zwc (U:=L.map (·.Name)) (s0:=nxA L c.Name) h.nxA_in _ _ _ .start (by have:=zzF hO c.Name;simp;omega)
   have hw:=zsj (R:=Bool) (I:=fun s=>Inv (List.map (fun c:za=>c.Name) L) (nxA L c.Name) s) (nx:=nxA L) (stop:=fun y=>cond (y == c.Name) (some false) none) (body:=fun z=>zcl L m c z.1 z.2)
    (fun i zW y hI hy=>by
     have hsl:=hI.len
     have h5:=zzF hO c.Name
     have hym:zb7 L y=true:=zhu.2 (hI.mem (fun z hz=>h.nxA_in _ z hz) y (List.mem_of_getElem? hy))
     obtain ⟨d,hd⟩:=zfJ hym
     have hd4:=(hO d (zbU hd).1).impl
     have hpl:=zyQ (nxA L y) zW
     simp only [List.length_map] at hsl
     show zcl L m c zW (i:Int)=_
     unfold zcl ziV
     rw [zfv hy,zB,hy]
     simp only [cond_true,Option.bind_some]
     have hilt:=(List.getElem?_eq_some_iff.1 hy).1
     rw [zpH hm hym,hd]
     simp only [Option.bind_some]
     rw [zjt hd4]
     simp only [Option.bind_some]
     rw [zwe (by simp;omega) (by simp;omega),←zoM hd,zaa (by omega)]
     cases y == c.Name <;> rfl)
    (fun i zW hI hle=>by
     show zcl L m c zW (i:Int)=_
     unfold zcl
     rw [decide_eq_false (by omega)];rfl)
    (fun zW y hI hy=>hI.push (h.nxA_in y)) (5+L.length) 0 (nxA L c.Name) .start hfin
   rw [e0]
   rw [show zs (fun z=>zcl L m c z.1 z.2) (nxA L c.Name,0)=_ from hw,List.drop_zero,zcG]
   have:(bfs (nxA L) (5+L.length) 0 (nxA L c.Name)).any (fun y=>y == c.Name)=cyc L c.Name:=by
    rw [Bool.eq_iff_iff,zqa,←zBq hfin,List.any_eq_true]
    constructor
    ·rintro ⟨y,h1,h2⟩;obtain rfl:=eq_of_beq h2;exact h1
    ·intro h1;exact ⟨_,h1,beq_self_eq_true _⟩
   rw [this]
   cases cyc L c.Name <;> rfl
def onB(inn:List Bool)(n:Nat):Bool:=inn.getD n false
def zoL(L:List za)(inn:List Bool)(s:Tx):Bool:=zb7 L s&&!onB inn (atN L s).toNat
def mk1(L:List za)(inn:List Bool)(s:Tx):List Bool:=cond (zoL L inn s) (inn.set (atN L s).toNat true) inn
def mkS(L:List za):List Bool→List Tx→List Bool
 |inn,[]=>inn
 |inn,s ::r=>mkS L (mk1 L inn s) r
theorem zsy{L:List za}{s:Tx}(h:zb7 L s=true):0≤atN L s∧(atN L s).toNat<L.length:=by
 unfold zb7 at h
 unfold atN
 rcases zoz (fun c:za=>c.Name == s) L 0 with ⟨j,x,h1,h2,h3,h4⟩ |⟨h1,h2⟩
 ·have:=(List.getElem?_eq_some_iff.1 h2).1
  rw [h1]
  omega
 ·rw [List.any_eq_true] at h
  obtain ⟨c,k1,k2⟩:=h
  have:=List.find?_eq_none.1 h2 c k1
  exact absurd k2 this
theorem zqx(L:List za)(inn:List Bool)(s:Tx):(mk1 L inn s).length=inn.length:=by
 unfold mk1
 cases zoL L inn s <;> simp
theorem zlY(L:List za):∀(l:List Tx) (inn:List Bool),(mkS L inn l).length=inn.length
 | [],inn=>rfl
 |s ::r,inn=>by unfold mkS;rw [zlY L r,zqx]
theorem zzG{inn:List Bool}{n k:Nat}(h:n<inn.length):onB (inn.set n true) k=(onB inn k||Nat.beq k n):=by
 unfold onB
 rw [List.getD_eq_getElem?_getD,List.getD_eq_getElem?_getD,List.getElem?_set]
 by_cases e:n=k
 ·subst e
  simp [h]
 ·rw [if_neg e]
  have:Nat.beq k n=false:=by
   cases hb:Nat.beq k n with
   |false=>rfl
   |true=>exact absurd (Nat.eq_of_beq_eq_true hb).symm e
  rw [this,Bool.or_false]
theorem zBJ{L:List za}{inn:List Bool}(hl:inn.length=L.length)(s:Tx)(k:Nat):onB (mk1 L inn s) k=(onB inn k||(zb7 L s&&Nat.beq k (atN L s).toNat)):=by
 unfold mk1 zoL
 cases h:zb7 L s with
 |false=>simp
 |true =>
  cases h2:onB inn (atN L s).toNat with
  |false =>
   simp only [Bool.not_false,Bool.and_self,cond_true,Bool.true_and]
   exact zzG (by rw [hl];exact (zsy h).2)
  |true =>
   simp only [Bool.not_true,Bool.and_false,cond_false,Bool.true_and]
   cases h3:Nat.beq k (atN L s).toNat with
   |false=>simp
   |true=>rw [Nat.eq_of_beq_eq_true h3,h2];rfl
theorem ztW{L:List za}:∀(l:List Tx) (inn:List Bool),inn.length=L.length→∀k,onB (mkS L inn l) k=(onB inn k||l.any (fun s=>zb7 L s&&Nat.beq k (atN L s).toNat))
 | [],inn,hl,k=>by simp [mkS]
 |s ::r,inn,hl,k=>by
  unfold mkS
  rw [ztW r _ (by rw [zqx];exact hl),zBJ hl,List.any_cons,Bool.or_assoc]
theorem zrJ{L:List za}:∀(l:List Tx) (inn:List Bool),l.any (zoL L inn)=false→mkS L inn l=inn
 | [],inn,_=>rfl
 |s ::r,inn,h=>by
  rw [List.any_cons,Bool.or_eq_false_iff] at h
  unfold mkS
  have:mk1 L inn s=inn:=by unfold mk1;rw [h.1];rfl
  rw [this,zrJ r inn h.2]
theorem zm8{R:Type}{L:List za}{l:List Tx}{body:List Bool×Bool×Int→Option (Sum (List Bool×Bool×Int) (Sum (List Bool×Bool) R))}(hl:l.length≤1000)
  (hb:∀(j:Nat) s inn more,inn.length=L.length→l[j]?=some s→body (inn,more,(j:Int))=some (.inl (mk1 L inn s,more||zoL L inn s,IntKind.i64.wrap ((j:Int)+1))))
  (he:∀inn more,body (inn,more,(l.length:Int))=some (.inr (.inl (inn,more)))):
  ∀(r pre:List Tx) (inn:List Bool) (more:Bool),l=pre++r→inn.length=L.length→zs body (inn,more,(pre.length:Int))=some (.inl (mkS L inn r,more||r.any (zoL L inn)))
 | [],pre,inn,more,e,hi=>by
  rw [List.append_nil] at e
  subst e
  rw [zJ,he]
  show some _=some _
  simp [mkS]
 |s ::r,pre,inn,more,e,hi=>by
  have hlen:l.length=pre.length+(r.length+1):=by rw [e];simp
  have hx:l[pre.length]?=some s:=by rw [e];simp
  rw [zJ,hb _ s inn more hi hx,zaa (by omega)]
  have ih:=fun i m h=>zm8 hl hb he r (pre++[s]) i m (by rw [e];simp) h
  rw [show (pre++[s]).length=pre.length+1 by simp] at ih
  show zs body (mk1 L inn s,more||zoL L inn s,((pre.length+1:Nat):Int))=_
  rw [ih _ _ (by rw [zqx];exact hi),List.any_cons,show mkS L inn (s ::r)=mkS L (mk1 L inn s) r from rfl]
  cases h:zoL L inn s with
  |true=>simp
  |false =>
   have:mk1 L inn s=inn:=by unfold mk1;rw [h];rfl
   rw [this];simp
def zhK(L:List za)(nx:za→List Tx)(act:Nat→Bool):List Bool→Nat→List za→List Bool
 |inn,_,[]=>inn
 |inn,k,c ::r=>zhK L nx act (cond (onB inn k||act k) (mkS L inn (nx c)) inn) (k+1) r
def zlp(L:List za)(nx:za→List Tx)(act:Nat→Bool):List Bool→Nat→List za→Bool
 |_,_,[]=>false
 |inn,k,c ::r=>cond (onB inn k||act k) ((nx c).any (zoL L inn)) false||zlp L nx act (cond (onB inn k||act k) (mkS L inn (nx c)) inn) (k+1) r
section
variable {L : List za} {nx : za → List Tx} {act : Nat → Bool}
theorem zqE:∀(r:List za) (k:Nat) (inn:List Bool),(zhK L nx act inn k r).length=inn.length
 | [],k,inn=>rfl
 |c ::r,k,inn=>by
  unfold zhK
  rw [zqE r]
  cases onB inn k||act k
  ·rfl
  ·exact zlY L _ _
theorem zxv{inn:List Bool}(hl:inn.length=L.length)(b:Bool)(l:List Tx)(n:Nat)(h:onB inn n=true):onB (cond b (mkS L inn l) inn) n=true:=by
 cases b with
 |false=>exact h
 |true=>show onB (mkS L inn l) n=true;rw [ztW l inn hl,h];rfl
theorem zoQ:∀(r:List za) (k:Nat) (inn:List Bool),inn.length=L.length→∀n,onB inn n=true→onB (zhK L nx act inn k r) n=true
 | [],k,inn,hl,n,h=>h
 |c ::r,k,inn,hl,n,h=>by
  unfold zhK
  refine zoQ r (k+1) _ ?_ n (zxv hl _ _ n h)
  cases onB inn k||act k
  ·exact hl
  ·exact (zlY L _ _).trans hl
theorem zle:∀(r:List za) (k:Nat) (inn:List Bool),zlp L nx act inn k r=false→zhK L nx act inn k r=inn∧∀(j:Nat) c,r[j]?=some c→(onB inn (k+j)||act (k+j))=true→(nx c).any (zoL L inn)=false
 | [],k,inn,_=>⟨rfl,fun j c h=>by simp at h⟩
 |c ::r,k,inn,h=>by
  unfold zlp at h
  unfold zhK
  rw [Bool.or_eq_false_iff] at h
  have e:cond (onB inn k||act k) (mkS L inn (nx c)) inn=inn:=by
   cases hb:onB inn k||act k with
   |false=>rfl
   |true=>rw [hb] at h;exact zrJ _ _ h.1
  rw [e] at h ⊢
  obtain ⟨h1,h2⟩:=zle r (k+1) inn h.2
  refine ⟨h1,fun j d hj hb=>?_⟩
  cases j with
  |zero =>
   have:c=d:=by simpa using hj
   subst this
   rw [Nat.add_zero] at hb
   rw [hb] at h
   exact h.1
  |succ j=>exact h2 j d (by simpa using hj) (by rw [show k+1+j=k+(j+1) by omega];exact hb)
theorem zt6:∀(r:List za) (k:Nat) (inn:List Bool),inn.length=L.length→∀(j:Nat) c,r[j]?=some c→(onB inn (k+j)||act (k+j))=true→∀s∈nx c,zb7 L s=true→onB (zhK L nx act inn k r) (atN L s).toNat=true
 | [],k,inn,hl,j,c,h,_=>by simp at h
 |d ::r,k,inn,hl,j,c,hj,hb=>by
  intro s hs hh
  unfold zhK
  have hl2:(cond (onB inn k||act k) (mkS L inn (nx d)) inn).length=L.length:=by
   cases onB inn k||act k
   ·exact hl
   ·exact (zlY L _ _).trans hl
  cases j with
  |zero =>
   have:d=c:=by simpa using hj
   subst this
   rw [Nat.add_zero] at hb
   refine zoQ r (k+1) _ hl2 _ ?_
   rw [hb]
   show onB (mkS L inn (nx d)) _=true
   rw [ztW _ _ hl,Bool.or_eq_true]
   right
   rw [List.any_eq_true]
   exact ⟨s,hs,by rw [hh,Bool.true_and];exact Nat.beq_refl _⟩
  |succ j =>
   refine zt6 r (k+1) _ hl2 j c (by simpa using hj) ?_ s hs hh
   rw [show k+1+j=k+(j+1) by omega]
   rw [Bool.or_eq_true] at hb ⊢
   rcases hb with hb |hb
   ·exact .inl (zxv hl _ _ _ hb)
   ·exact .inr hb
theorem znc{Q:Nat→Prop}:∀(r:List za) (k:Nat) (inn:List Bool),inn.length=L.length→(∀(j:Nat) c,r[j]?=some c→(Q (k+j)∨act (k+j)=true)→∀s∈nx c,zb7 L s=true→Q (atN L s).toNat) →
  (∀n,onB inn n=true→Q n)→∀n,onB (zhK L nx act inn k r) n=true→Q n
 | [],k,inn,hl,hQ,h=>h
 |c ::r,k,inn,hl,hQ,h=>by
  unfold zhK
  refine znc r (k+1) _ ?_ (fun j d hj hor=>?_) (fun n hn=>?_)
  ·cases onB inn k||act k
   ·exact hl
   ·exact (zlY L _ _).trans hl
  ·rw [show k+1+j=k+(j+1) by omega] at hor
   exact hQ (j+1) d (by simpa using hj) hor
  ·cases hb:onB inn k||act k with
   |false=>rw [hb] at hn;exact h n hn
   |true =>
    rw [hb] at hn
    have hn:onB (mkS L inn (nx c)) n=true:=hn
    rw [ztW _ _ hl,Bool.or_eq_true] at hn
    rcases hn with hn |hn
    ·exact h n hn
    ·rw [List.any_eq_true] at hn
     obtain ⟨s,hs,hs2⟩:=hn
     rw [Bool.and_eq_true] at hs2
     rw [Nat.eq_of_beq_eq_true hs2.2]
     refine hQ 0 c rfl ?_ s hs hs2.1
     rw [Nat.add_zero]
     rw [Bool.or_eq_true] at hb
     exact hb.imp (h k) id
def cnt(inn:List Bool):Nat:=inn.count true
theorem zv0:∀(inn:List Bool) (n:Nat),n<inn.length→onB inn n=false→cnt (inn.set n true)=cnt inn+1
 | [],n,h,_=>by simp at h
 |b ::r,0,h,hb=>by
  have:b=false:=by simpa [onB] using hb
  subst this
  simp [cnt]
 |b ::r,n+1,h,hb=>by
  have:=zv0 r n (by simpa using h) (by simpa [onB] using hb)
  unfold cnt at this ⊢
  rw [List.set_cons_succ,List.count_cons,List.count_cons,this]
  omega
theorem zAd{inn:List Bool}(hl:inn.length=L.length)(s:Tx):cnt (mk1 L inn s)=cnt inn+cond (zoL L inn s) 1 0:=by
 unfold mk1
 cases h:zoL L inn s with
 |false=>rfl
 |true =>
  unfold zoL at h
  rw [Bool.and_eq_true,Bool.not_eq_true'] at h
  exact zv0 inn _ (by rw [hl];exact (zsy h.1).2) h.2
theorem zvZ:∀(l:List Tx) (inn:List Bool),inn.length=L.length→cnt inn+cond (l.any (zoL L inn)) 1 0≤cnt (mkS L inn l)
 | [],inn,hl=>by simp [mkS]
 |s ::r,inn,hl=>by
  have ih:=zvZ r (mk1 L inn s) (by rw [zqx];exact hl)
  have h1:=zAd hl s
  unfold mkS
  rw [List.any_cons]
  cases h:zoL L inn s with
  |true=>rw [h] at h1;simp only [cond_true] at h1;simp only [Bool.true_or,cond_true];omega
  |false =>
   have e:mk1 L inn s=inn:=by unfold mk1;rw [h];rfl
   rw [e] at ih ⊢
   simpa using ih
theorem ztw:∀(r:List za) (k:Nat) (inn:List Bool),inn.length=L.length→cnt inn+cond (zlp L nx act inn k r) 1 0≤cnt (zhK L nx act inn k r)
 | [],k,inn,hl=>by simp [zhK,zlp]
 |c ::r,k,inn,hl=>by
  unfold zhK zlp
  have hl2:(cond (onB inn k||act k) (mkS L inn (nx c)) inn).length=L.length:=by
   cases onB inn k||act k
   ·exact hl
   ·exact (zlY L _ _).trans hl
  have ih:=ztw r (k+1) _ hl2
  have h1:cnt inn+cond (cond (onB inn k||act k) ((nx c).any (zoL L inn)) false) 1 0≤cnt (cond (onB inn k||act k) (mkS L inn (nx c)) inn):=by
   cases onB inn k||act k with
   |false=>simp
   |true=>exact zvZ _ _ hl
  generalize cond (onB inn k||act k) ((nx c).any (zoL L inn)) false=x at *
  generalize zlp L nx act (cond (onB inn k||act k) (mkS L inn (nx c)) inn) (k+1) r=y at *
  cases x <;> cases y <;> simp only [Bool.or_false,Bool.or_true,cond_true,cond_false] at*<;> omega
theorem zBt(inn:List Bool):cnt inn≤inn.length:=List.count_le_length
theorem zoP{R X:Type}{st:List Bool→Bool→Int→X}{body:X→Option (Sum X (Sum (List Bool×Bool) R))}(hL:L.length≤1000)
  (hb:∀(k:Nat) c inn more,inn.length=L.length→L[k]?=some c→body (st inn more (k:Int))=some (.inl (cond (onB inn k||act k) (st (mkS L inn (nx c)) (more||(nx c).any (zoL L inn)) ((k+1:Nat):Int)) (st inn more ((k+1:Nat):Int)))))
  (he:∀inn more,body (st inn more (L.length:Int))=some (.inr (.inl (inn,more)))):
  ∀(r pre:List za) (inn:List Bool) (more:Bool),L=pre++r→inn.length=L.length→zs body (st inn more (pre.length:Int))=some (.inl (zhK L nx act inn pre.length r,more||zlp L nx act inn pre.length r))
 | [],pre,inn,more,e,hi=>by
  rw [List.append_nil] at e
  subst e
  rw [zJ,he]
  show some _=some _
  simp [zhK,zlp]
 |c ::r,pre,inn,more,e,hi=>by
  have hx:L[pre.length]?=some c:=by rw [e];simp
  rw [zJ,hb _ c inn more hi hx]
  have ih:=fun i m h=>zoP hL hb he r (pre++[c]) i m (by rw [e];simp) h
  rw [show (pre++[c]).length=pre.length+1 by simp] at ih
  unfold zhK zlp
  cases onB inn pre.length||act pre.length with
  |false =>
   show zs body (st inn more ((pre.length+1:Nat):Int))=_
   rw [ih _ _ hi]
   simp
  |true =>
   show zs body (st (mkS L inn (nx c)) _ ((pre.length+1:Nat):Int))=_
   rw [ih _ _ (by rw [zlY];exact hi),Bool.or_assoc]
   rfl
def zCt(L:List za)(nx:za→List Tx)(act:Nat→Bool)(R:List Bool):Prop:=
 ∀(k:Nat) c,L[k]?=some c→(onB R k||act k)=true→∀s∈nx c,zb7 L s=true→onB R (atN L s).toNat=true
theorem zAW{inn:List Bool}(h:zlp L nx act inn 0 L=false):zCt L nx act inn:=fun k c hk hb s hs hh=>by
 have:=(zle L 0 inn h).2 k c hk (by rw [Nat.zero_add];exact hb)
 rw [List.any_eq_false] at this
 have:=this s hs
 unfold zoL at this
 rw [hh,Bool.true_and,Bool.not_eq_true',Bool.not_eq_false] at this
 exact this
theorem znb{R X:Type}{st:List Bool→Bool→X}{body:X→Option (Sum X (Sum (List Bool) R))}{Q:Nat→Prop}
  (hb:∀inn,inn.length=L.length→body (st inn true)=some (.inl (st (zhK L nx act inn 0 L) (zlp L nx act inn 0 L))))
  (he:∀inn,inn.length=L.length→body (st inn false)=some (.inr (.inl inn)))
  (hQ:∀(j:Nat) c,L[j]?=some c→(Q j∨act j=true)→∀s∈nx c,zb7 L s=true→Q (atN L s).toNat):
  ∀(d:Nat) (inn:List Bool),inn.length=L.length→L.length≤d+cnt inn→(∀n,onB inn n=true→Q n) →
  ∃F,zs body (st inn true)=some (.inl F)∧F.length=L.length∧zCt L nx act F∧(∀n,onB inn n=true→onB F n=true)∧(∀n,onB F n=true→Q n)
 |d,inn,hl,hd,hq=>by
  have hl2:(zhK L nx act inn 0 L).length=L.length:=(zqE L 0 inn).trans hl
  rw [zJ,hb inn hl]
  cases hg:zlp L nx act inn 0 L with
  |false =>
   have e:=(zle L 0 inn hg).1
   refine ⟨inn,?_,hl,zAW hg,fun n h=>h,hq⟩
   show zs body (st _ false)=_
   rw [zJ,he _ hl2,e];rfl
  |true =>
   have hc:=ztw (nx:=nx) (act:=act) L 0 inn hl
   rw [hg] at hc
   simp only [cond_true] at hc
   have hle:=zBt (zhK L nx act inn 0 L)
   have hq2:∀n,onB (zhK L nx act inn 0 L) n=true→Q n:=znc L 0 inn hl (fun j c hj hor=>by rw [Nat.zero_add] at hor;exact hQ j c hj hor) hq
   cases d with
   |zero=>omega
   |succ d =>
    obtain ⟨F,k1,k2,k3,k4,k5⟩:=znb hb he hQ d _ hl2 (by omega) hq2
    exact ⟨F,k1,k2,k3,fun n h=>k4 n (zoQ L 0 inn hl n h),k5⟩
end
def mis(L:List za)(c:za):Bool:=(c.Super ::c.Impl).any (fun s=>!zb7 L s)
def zwI(l:List za):Option (List za)×Int:=
 cond (decide (16<(l.length:Int))) (none,3) (match lay giv l with
  |none=>(none,1)
  |some L=>cond (l.any (mis L)) (none,4) (cond (l.any (zsn L)) (none,1) (some L,0)))
theorem zsJ{l L:List za}(h:lay giv l=some L)(hm:l.any (mis L)=false):zx2 L∧∀c∈l,c.Super≠[]:=by
 obtain ⟨h1,h2,h3⟩:=zpL l giv L zpI h
 have hO:=zql h
 have noE:zb7 L []=false:=by
  cases hh:zb7 L [] with
  |false=>rfl
  |true =>
   obtain ⟨c,hc⟩:=zfJ hh
   exact absurd (zbU hc).2 (hO c (zbU hc).1).name
 have hl:∀c∈l,∀s∈c.Super ::c.Impl,zb7 L s=true:=fun c hc s hs=>by
  have:=List.any_eq_false.1 hm c hc
  unfold mis at this
  rw [Bool.not_eq_true,List.any_eq_false] at this
  simpa using this s hs
 refine ⟨⟨h2,noE,fun c hc s hs hne=>?_,fun c hc hm=>(hO c hc).implE [] hm rfl⟩,fun c hc e=>?_⟩
 ·rw [h1] at hc
  rcases List.mem_append.1 hc with e |e
  ·have hg:giv.all (fun c=>(c.Super ::c.Impl).all (fun s=>s == []||zb7 giv s))=true:=by decide +kernel
   have:=List.all_eq_true.1 (List.all_eq_true.1 hg c e) s hs
   rw [Bool.or_eq_true,beq_iff_eq] at this
   rcases this with e |e
   ·exact absurd e hne
   ·rw [zhu] at e ⊢
    rw [h1,List.map_append]
    exact List.mem_append_left _ e
  ·exact hl c e s hs
 ·have:=hl c hc c.Super (by simp)
  rw [e,noE] at this;cases this
theorem zBL{l L:List za}{m:List (Tx×Int)}(hl:l.length≤16)(hm:zcD L m)(hO:∀c∈l,c.Impl.length≤4):
  zs (fun z=>zgR l L m z) 0=some (zop () (cond (l.any (mis L)) (some (none,4)) none)):=by
 rw [←zcG]
 refine zex (fun i c hc=>?_) ?_
 ·show zgR l L m (i:Int)=_
  have:=hO c (List.mem_of_getElem? hc)
  have hi:=(List.getElem?_eq_some_iff.1 hc).1
  unfold zgR
  rw [zfv hc,zB,hc]
  simp only [cond_true,Option.bind_some]
  rw [zjt this]
  simp only [Option.bind_some]
  rw [zv1 hm (by simp;omega),zaa (by omega)]
  simp only [Option.bind_some]
  show _=some (ztq i (cond (mis L c) _ _))
  unfold mis
  cases ((c.Super ::c.Impl).any fun s=>!zb7 L s) <;> rfl
 ·show zgR l L m (l.length:Int)=_
  unfold zgR
  rw [zf1];rfl
theorem zBM{l L:List za}{m:List (Tx×Int)}(hl:l.length≤16)(hf:∀c∈l,zeZ L m c=some (!zsn L c)):
  zs (fun z=>zgS l L m z) 0=some (zop () (cond (l.any (zsn L)) (some (none,1)) none)):=by
 rw [←zcG]
 refine zex (fun i c hc=>?_) ?_
 ·show zgS l L m (i:Int)=_
  have hi:=(List.getElem?_eq_some_iff.1 hc).1
  unfold zgS
  rw [zfv hc,zB,hc]
  simp only [cond_true,Option.bind_some]
  rw [hf c (List.mem_of_getElem? hc),zaa (by omega)]
  simp only [Option.bind_some]
  cases zsn L c <;> rfl
 ·show zgS l L m (l.length:Int)=_
  unfold zgS
  rw [zf1];rfl
theorem zsG{l:List za}(hc:∀c∈l,zzl c):∃m,(∀L,(zwI l).1=some L→zcD L m)∧zjs l=some ((zwI l).1.map (fun L=>zY.mk L m),(zwI l).2):=by
 unfold zjs zwI
 cases hl:decide (16<(l.length:Int)) with
 |true=>exact ⟨[],fun L h=>(by cases h),rfl⟩
 |false =>
  have hl:=of_decide_eq_false hl
  rw [zqe]
  simp only [cond_false,Option.bind_some]
  rw [zAt]
  simp only [Option.bind_some,zQ]
  have hl16:l.length≤16:=by omega
  obtain ⟨h1,h2⟩:=ztR hl16 hc l [] giv _ rfl zwm rfl
  unfold zov
  cases hy:lay giv l with
  |none =>
   rw [show zs (fun z=>zdH l z.1 z.2.1 z.2.2) (giv,zrK 0 [] giv,0)=_ from h1 hy]
   exact ⟨[],fun L h=>(by cases h),rfl⟩
  |some L =>
   obtain ⟨m,hm,e⟩:=h2 L hy
   rw [show zs (fun z=>zdH l z.1 z.2.1 z.2.2) (giv,zrK 0 [] giv,0)=_ from e]
   obtain ⟨k1,k2,k3⟩:=zpL l giv L zpI hy
   have hO:=zql hy
   have hlL:∀c∈l,c∈L:=fun c hc=>by rw [k1];exact List.mem_append_right _ hc
   have hlen:L.length≤100:=by rw [k1,List.length_append];have:giv.length=10:=rfl;omega
   simp only [Option.bind_some,zQ]
   unfold zow
   rw [zBL hl16 hm (fun c hc=>(hO c (hlL c hc)).impl)]
   cases hmis:l.any (mis L) with
   |true=>exact ⟨[],fun L h=>(by cases h),rfl⟩
   |false =>
    obtain ⟨hL,hS⟩:=zsJ hy hmis
    simp only [cond_false,Option.bind_some,zQ,zop]
    unfold zox
    rw [zBM hl16 (fun c hc=>zAn hm hL hO hlen (hlL c hc) (hS c hc))]
    cases hb:l.any (zsn L) with
    |true=>exact ⟨[],fun L h=>(by cases h),rfl⟩
    |false=>exact ⟨m,fun L' h=>(by cases h;exact hm),rfl⟩
theorem ziO{L:List za}(hl:L.length≤1000)(n:Tx):zae L n=some (atN L n):=by
 unfold zae
 rw [show ((zs (fun z=>zgD L n z) 0).bind fun o=>zQ o (fun b=>zkC) some)=_ from zbx (l:=L) (p:=fun c:za=>c.Name == n) (by omega)
  (fun i x hx=>by unfold zgD;rw [zfv hx,zB,hx];rfl) (by unfold zgD;rw [zf1];rfl)]
 rfl
theorem zwy{l:List za}(hl:l.length≤16)(hc:∀c∈l,zzl c):∀(r pre L:List za),l=pre++r→L.length=10+pre.length →
  zs (fun z=>zeR l z.1 z.2) (L,(pre.length:Int))=some (match lay L r with |none=>.inr (none,1) |some L'=>.inl L')
 | [],pre,L,e,hL=>by
  rw [List.append_nil] at e
  subst e
  rw [zJ]
  show (zeR l L (l.length:Int)).bind _=_
  unfold zeR
  rw [zf1];rfl
 |c ::r,pre,L,e,hL=>by
  have hlen:l.length=pre.length+(r.length+1):=by rw [e];simp
  have hx:l[pre.length]?=some c:=by rw [e];simp
  have hcm:c∈l:=List.mem_of_getElem? hx
  have step:zs (fun z=>zeR l z.1 z.2) (L,(pre.length:Int))=(cond (zb7 L c.Name||!zpN c) (some (.inr (.inr (none,1)))) (some (.inl (L++[c],((pre.length+1:Nat):Int))))).bind (Sum.elim (zs (fun z=>zeR l z.1 z.2)) some):=by
   rw [zJ]
   show (zeR l L (pre.length:Int)).bind _=_
   congr 1
   unfold zeR
   rw [zfv hx,zB,hx]
   simp only [cond_true,Option.bind_some]
   rw [znQ (hc c hcm),ziO (by omega),zC3 (by omega) (by omega),zaa (by omega)]
   simp only [Option.bind_some]
   rw [zoe]
   cases zb7 L c.Name <;> cases zpN c <;> rfl
  rw [step]
  unfold lay
  cases h1:(zb7 L c.Name||!zpN c) with
  |true=>rfl
  |false =>
   have:=zwy hl hc r (pre++[c]) (L++[c]) (by rw [e];simp) (by simp;omega)
   rw [show (pre++[c]).length=pre.length+1 by simp] at this
   exact this
theorem zB0{L:List za}(hL:L.length≤100){c:za}(hi:c.Impl.length≤4):zs (fun z=>zg0 L c z) 0=some (zop () (cond (c.Impl.any (fun s=>!zb7 L s)) (some (none,4)) none)):=by
 rw [←zcG]
 refine zex (fun i s hs=>?_) ?_
 ·show zg0 L c (i:Int)=_
  have hi:=(List.getElem?_eq_some_iff.1 hs).1
  unfold zg0
  rw [zfv hs,zB,hs]
  simp only [cond_true,Option.bind_some]
  rw [ziO (by omega),zaa (by omega)]
  simp only [Option.bind_some]
  rw [znu]
  cases zb7 L s <;> rfl
 ·show zg0 L c (c.Impl.length:Int)=_
  unfold zg0
  rw [zf1];rfl
theorem zB1{L:List za}(hL:L.length≤100)(h1:1≤L.length)(hO:∀c∈L,Okc c):zs (fun z=>zg1 L z) 1=some (zop () (cond ((L.drop 1).any (mis L)) (some (none,4)) none)):=by
 rw [←zcG]
 refine zkv (k:=1) (fun i c _ hc=>?_) ?_ h1
 ·show zg1 L (i:Int)=_
  have hi:=(List.getElem?_eq_some_iff.1 hc).1
  unfold zg1
  rw [zfv hc,zB,hc]
  simp only [cond_true,Option.bind_some]
  rw [ziO (by omega)]
  simp only [Option.bind_some]
  rw [znu,zB0 hL (hO c (List.mem_of_getElem? hc)).impl]
  unfold zoW
  rw [zaa (by omega)]
  show _=some (ztq i (cond (mis L c) _ _))
  unfold mis
  rw [List.any_cons]
  cases zb7 L c.Super <;> cases (c.Impl.any fun s=>!zb7 L s) <;> rfl
 ·show zg1 L (L.length:Int)=_
  unfold zg1
  rw [zf1];rfl
theorem zsq{L:List za}{l:List Tx}(hL:L.length≤100)(hl:l.length≤100){inn:List Bool}(hi:inn.length=L.length)(more:Bool):
  zs (fun z=>zcu L l z.1 z.2.1 z.2.2) (inn,more,0)=some (.inl (mkS L inn l,more||l.any (zoL L inn))):=by
 refine zm8 (l:=l) (by omega) (fun j s inn more hi hs=>?_) (fun inn more=>?_) l [] inn more rfl hi
 ·show zcu L l inn more (j:Int)=_
  unfold zcu zeO
  rw [zfv hs,zB,hs]
  simp only [cond_true,Option.bind_some]
  rw [ziO (by omega)]
  simp only [Option.bind_some]
  rw [zoe]
  unfold mk1 zoL
  cases hh:zb7 L s with
  |false=>simp
  |true =>
   obtain ⟨g1,g2⟩:=zsy hh
   have e:idx inn (atN L s)=some (onB inn (atN L s).toNat):=by
    unfold idx onB
    rw [if_pos g1,List.getD_eq_getElem?_getD,List.getElem?_eq_getElem (by omega)];rfl
   rw [e]
   simp only [cond_true,Option.bind_some,Bool.true_and]
   cases onB inn (atN L s).toNat <;> simp
 ·show zcu L l inn more (l.length:Int)=_
  unfold zcu
  rw [zf1];rfl
theorem zt1{inn:List Bool}{k:Nat}(h:k<inn.length):idx inn (k:Int)=some (onB inn k):=by
 rw [zB,List.getElem?_eq_getElem h]
 unfold onB
 rw [List.getD_eq_getElem?_getD,List.getElem?_eq_getElem h];rfl
abbrev abv(c:za):List Tx:=c.Super ::c.Impl
theorem zpx{L:List za}(hL:L.length≤100)(hO:∀c∈L,Okc c)(v:Nat)(first:Bool){inn:List Bool}(hi:inn.length=L.length)(more:Bool):
  zs (fun z=>zbH L (v:Int) first z.1 z.2.1 z.2.2) (inn,more,0)=some (.inl (zhK L abv (fun k=>first&&Nat.beq k v) inn 0 L,more||zlp L abv (fun k=>first&&Nat.beq k v) inn 0 L)):=by
 refine zoP (st:=fun a b c=>(a,b,c)) (nx:=abv) (act:=fun k=>first&&Nat.beq k v) (by omega) (fun k c inn more hi hc=>?_) (fun inn more=>?_) L [] inn more rfl hi
 ·show zbH L (v:Int) first inn more (k:Int)=_
  have hk:=(List.getElem?_eq_some_iff.1 hc).1
  have h4:=(hO c (List.mem_of_getElem? hc)).impl
  unfold zbH
  rw [zfv hc,zt1 (by omega),zB,hc]
  simp only [cond_true,Option.bind_some]
  rw [zti h4]
  simp only [Option.bind_some]
  rw [zsq hL (by simp;omega) hi]
  unfold zeQ zeP
  rw [zaa (by omega)]
  have e:((k:Int) == (v:Int))=Nat.beq k v:=by
   rw [Bool.eq_iff_iff,beq_iff_eq,Nat.beq_eq];omega
  rw [e]
  cases onB inn k <;> cases first <;> cases Nat.beq k v <;> rfl
 ·show zbH L (v:Int) first inn more (L.length:Int)=_
  unfold zbH
  rw [zf1];rfl
theorem zvB{L:List za}(hL:L.length≤100)(hO:∀c∈L,Okc c)(h:zx2 L){v:Nat}{c0:za}(hv:L[v]?=some c0):zfr L (v:Int)=some (cyc L c0.Name):=by
 have hvl:=(List.getElem?_eq_some_iff.1 hv).1
 let Q:Nat→Prop:=fun n=>∃c,L[n]?=some c∧Rc (nxA L) c0.Name c.Name
 have hnx:∀{c:za},c∈L→∀s∈abv c,zb7 L s=true→s∈nxA L c.Name:=fun {c} hc s hs hh=>by
  rw [zoM (h.nd.cl hc)]
  refine List.mem_filter.2 ⟨hs,?_⟩
  have:s≠[]:=fun e=>by rw [e,h.noE] at hh;cases hh
  simpa using this
 have hat:∀{s:Tx},zb7 L s=true→∃d,L[(atN L s).toNat]?=some d∧d.Name=s:=fun {s} hh=>by
  obtain ⟨d,hd⟩:=zfJ hh
  have e:=zms L s
  rw [hd] at e
  obtain ⟨g1,g2⟩:=zsy hh
  refine ⟨d,?_,(zbU hd).2⟩
  unfold idx at e
  rw [if_pos g1] at e
  exact e
 have hQ:∀(a:Nat→Bool),(∀k,a k=true→k=v)→∀(j:Nat) c,L[j]?=some c→(Q j∨a j=true)→∀s∈abv c,zb7 L s=true→Q (atN L s).toNat:=fun a ha j c hj hor s hs hh=>by
  obtain ⟨d,hd,hd2⟩:=hat hh
  have hsx:=hnx (List.mem_of_getElem? hj) s hs hh
  refine ⟨d,hd,?_⟩
  rw [hd2]
  rcases hor with ⟨c',hc',hr⟩ |hj2
  ·rw [hj] at hc';cases hc'
   exact hr.snoc hsx
  ·have:=ha j hj2
   subst this
   rw [hj] at hv;cases hv
   exact .one hsx
 have body2:∀inn more first,zbI L (v:Int) inn more first=cond more ((zs (fun z=>zbH L (v:Int) first z.1 z.2.1 z.2.2) (inn,false,0)).bind fun o=>zQ o (fun b=>zif b.1 b.2) (fun r=>some (.inr (.inr r)))) (some (.inr (.inl inn))):=fun _ _ _=>rfl
 have hrep:(List.replicate L.length false).length=L.length:=by simp
 have hoff:∀n,onB (List.replicate L.length false) n=false:=fun n=>by
  unfold onB
  rw [List.getD_eq_getElem?_getD,List.getElem?_replicate]
  split <;> rfl
 have hF:∃F,zs (fun z=>zbI L (v:Int) z.1 z.2.1 z.2.2) (List.replicate L.length false,true,true)=some (.inl F)∧F.length=L.length∧zCt L abv (fun _=>false) F∧(∀s∈abv c0,zb7 L s=true→onB F (atN L s).toNat=true)∧(∀n,onB F n=true→Q n):=by
  let inn1:=zhK L abv (fun k=>true&&Nat.beq k v) (List.replicate L.length false) 0 L
  have hl1:inn1.length=L.length:=(zqE L 0 _).trans hrep
  have hq1:∀n,onB inn1 n=true→Q n:=znc L 0 _ hrep (fun j c hj hor=>by
   rw [Nat.zero_add] at hor
   exact hQ (fun k=>true&&Nat.beq k v) (fun k hk=>by simpa using hk) j c hj hor) (fun n hn=>by rw [hoff] at hn;cases hn)
  have ha1:∀s∈abv c0,zb7 L s=true→onB inn1 (atN L s).toNat=true:=zt6 L 0 _ hrep v c0 hv (by simp)
  rw [zJ]
  show ∃F,(zbI L (v:Int) (List.replicate L.length false) true true).bind _=_∧_
  rw [body2,zpx hL hO v true hrep false]
  cases hg:zlp L abv (fun k=>true&&Nat.beq k v) (List.replicate L.length false) 0 L with
  |false =>
   refine ⟨inn1,?_,hl1,?_,ha1,hq1⟩
   ·show zs (fun z=>zbI L (v:Int) z.1 z.2.1 z.2.2) (inn1,false,false)=_
    rw [zJ]
    rfl
   ·have e:inn1=List.replicate L.length false:=(zle L 0 _ hg).1
    rw [e]
    intro k c hk hb
    rw [hoff] at hb
    cases hb
  |true =>
   obtain ⟨F,k1,k2,k3,k4,k5⟩:=znb (L:=L) (nx:=abv) (act:=fun k=>false&&Nat.beq k v) (R:=Bool) (st:=fun a b=>(a,b,false)) (body:=fun z=>zbI L (v:Int) z.1 z.2.1 z.2.2) (Q:=Q)
    (fun inn hi=>by
     show zbI L (v:Int) inn true false=_
     rw [body2,zpx hL hO v false hi false]
     rfl) (fun inn hi=>rfl) (hQ _ (fun k hk=>by simp at hk)) L.length inn1 hl1 (by omega) hq1
   refine ⟨F,k1,k2,fun k c hk hb=>k3 k c hk (by simpa using hb),fun s hs hh=>k4 _ (ha1 s hs hh),k5⟩
 obtain ⟨F,f1,f2,f3,f4,f5⟩:=hF
 unfold zfr
 rw [show mkP 1 (L.length:Int)=some L.length by unfold mkP;rw [if_pos (by omega),Int.toNat_natCast]]
 simp only [Option.bind_some]
 rw [f1]
 show (idx F (v:Int)).bind _=_
 rw [zt1 (by omega)]
 show some (onB F v)=_
 congr 1
 rw [Bool.eq_iff_iff,zqa]
 constructor
 ·intro hb
  obtain ⟨c,hc,hr⟩:=f5 v hb
  rw [hv] at hc;cases hc
  exact hr
 ·intro hr
  have key:∀x,Rc (nxA L) c0.Name x→onB F (atN L x).toNat=true:=fun x hx=>by
   refine hx.into (F:=fun y=>onB F (atN L y).toNat=true∧zb7 L y=true) (fun y hy z hz=>?_) (fun y hy=>?_) |>.1
   ·have hz2:zb7 L z=true:=zhu.2 (h.nxA_in y z hz)
    obtain ⟨d,hd,hd2⟩:=hat hy.2
    refine ⟨f3 _ d hd (by rw [hy.1];rfl) z ?_ hz2,hz2⟩
    rw [←hd2,zoM (h.nd.cl (List.mem_of_getElem? hd))] at hz
    exact (List.mem_filter.1 hz).1
   ·have hy2:zb7 L y=true:=zhu.2 (h.nxA_in _ y hy)
    refine ⟨f4 y ?_ hy2,hy2⟩
    rw [zoM (h.nd.cl (List.mem_of_getElem? hv))] at hy
    exact (List.mem_filter.1 hy).1
  have:=key _ hr
  rw [h.nd.at hv,Int.toNat_natCast] at this
  exact this
theorem zvX{L l:List za}(h:L=giv++l){n:Tx}{c:za}(hc:cl giv n=some c):cl L n=some c:=by
 rw [h]
 unfold cl at hc ⊢
 rw [List.find?_append,hc];rfl
theorem zBs{L l:List za}(h:L=giv++l){n:Tx}(hn:zb7 giv n=true):cl L n=cl giv n:=by
 obtain ⟨c,hc⟩:=zfJ hn
 rw [hc,zvX h hc]
theorem zAz{L l:List za}(h:L=giv++l){n:Tx}(hn:zb7 giv n=true):zb7 L n=true:=by
 obtain ⟨c,hc⟩:=zfJ hn
 exact zgf (zvX h hc)
theorem zys:giv.all (fun c=>(nxA giv c.Name).all (fun s=>decide (atN giv s<atN giv c.Name)&&zb7 giv s))=true:=by decide +kernel
theorem zBD{L l:List za}(h:L=giv++l){a b:Tx}(hr:Rc (nxA L) a b):zb7 giv a=true→atN giv b<atN giv a∧zb7 giv b=true:=by
 have one:∀{a b:Tx},b∈nxA L a→zb7 giv a=true→atN giv b<atN giv a∧zb7 giv b=true:=fun {a b} hb ha=>by
  have e:nxA L a=nxA giv a:=by unfold nxA;rw [zBs h ha]
  rw [e] at hb
  obtain ⟨c,hc⟩:=zfJ ha
  have h1:=List.all_eq_true.1 zys c (zbU hc).1
  rw [(zbU hc).2] at h1
  have h2:=List.all_eq_true.1 h1 b hb
  rw [Bool.and_eq_true,decide_eq_true_eq] at h2
  exact h2
 induction hr with
 |one hb=>exact one hb
 |more hb _ ih =>
  intro ha
  have h1:=one hb ha
  have h2:=ih h1.2
  exact ⟨by omega,h2.2⟩
theorem zAr{L l:List za}(h:L=giv++l){c:za}(hc:c∈giv):cyc L c.Name=false:=by
 cases hh:cyc L c.Name with
 |false=>rfl
 |true =>
  have:=(zBD h (zqa.1 hh) (zgf (zpI.cl hc))).1
  omega
theorem zwl:giv.all (fun c=>(c.Impl == [])&&!c.Interface&&(c.Super == []||zb7 giv c.Super))=true:=by decide +kernel
theorem zrp:(giv.drop 1).all (fun c=>!(c.Super == []))=true:=by decide +kernel
theorem zAq{c:za}(hc:c∈giv):c.Impl=[]∧c.Interface=false∧(c.Super=[]∨zb7 giv c.Super=true):=by
 have:=List.all_eq_true.1 zwl c hc
 simp only [Bool.and_eq_true,beq_iff_eq,Bool.not_eq_true',Bool.or_eq_true] at this
 exact ⟨this.1.1,this.1.2,this.2⟩
theorem zAs{L l:List za}(h:L=giv++l){n:Tx}(hn:zb7 giv n=true):isF L n=false:=by
 obtain ⟨c,hc⟩:=zfJ hn
 unfold isF
 rw [zvX h hc]
 exact (zAq (zbU hc).1).2.1
theorem zwj{L l:List za}(h:L=giv++l)(hE:zb7 L []=false){c:za}(hc:c∈giv):zsn L c=false:=by
 obtain ⟨h1,h2,h3⟩:=zAq hc
 unfold zsn
 rw [zAr h hc,h1]
 rcases h3 with e |e
 ·rw [e]
  have:isF L []=false:=by
   unfold isF
   cases hcl:cl L [] with
   |none=>rfl
   |some d=>rw [zgf hcl] at hE;cases hE
  rw [this];rfl
 ·rw [zAs h e];rfl
theorem zAu{L l:List za}(h:L=giv++l){c:za}(hc:c∈giv.drop 1):mis L c=false:=by
 obtain ⟨h1,h2,h3⟩:=zAq (List.mem_of_mem_drop hc)
 have hs:=List.all_eq_true.1 zrp c hc
 unfold mis
 rw [h1,List.any_cons,List.any_nil,Bool.or_false]
 rcases h3 with e |e
 ·rw [e] at hs;cases hs
 ·rw [zAz h e];rfl
theorem ztz{L l:List za}(h:L=giv++l){p:za→Bool}(hp:∀c∈giv.drop 1,p c=false):(L.drop 1).any p=l.any p:=by
 have e:L.drop 1=giv.drop 1++l:=by rw [h];rfl
 rw [e,List.any_append,List.any_eq_false.2 (fun c hc=>by rw [hp c hc];exact Bool.false_ne_true),Bool.false_or]
theorem zlS{L:List za}{n:Tx}{c:za}(h:cl L n=some c):idx L (atN L n)=some c:=by rw [zms,h]
theorem zxd{L:List za}(hL:L.length≤100){c:za}(hi:c.Impl.length≤4)(hh:∀s∈c.Impl,zb7 L s=true)(b:Bool):
  zs (fun z=>zea L c z.1 z.2) (b,0)=some (.inl (b||c.Impl.any (fun s=>!isF L s))):=by
 have key:∀(r pre:List Tx) (b:Bool),c.Impl=pre++r→zs (fun z=>zea L c z.1 z.2) (b,(pre.length:Int))=some (.inl (b||r.any (fun s=>!isF L s))):=by
  intro r
  induction r with
  |nil =>
   intro pre b e
   rw [List.append_nil] at e
   rw [zJ]
   show (zea L c b (pre.length:Int)).bind _=_
   unfold zea
   rw [←e,zf1]
   simp
  |cons s r ih =>
   intro pre b e
   have hlen:c.Impl.length=pre.length+(r.length+1):=by rw [e];simp
   have hx:c.Impl[pre.length]?=some s:=by rw [e];simp
   obtain ⟨d,hd⟩:=zfJ (hh s (List.mem_of_getElem? hx))
   have step:zea L c b (pre.length:Int)=some (.inl (b||!isF L s,((pre.length+1:Nat):Int))):=by
    unfold zea
    rw [zfv hx,zB,hx]
    simp only [cond_true,Option.bind_some]
    rw [ziO (by omega)]
    simp only [Option.bind_some]
    rw [zlS hd,zaa (by omega)]
    unfold isF
    rw [hd]
    cases b <;> rfl
   rw [zJ]
   show (zea L c b (pre.length:Int)).bind _=_
   rw [step]
   show zs (fun z=>zea L c z.1 z.2) (b||!isF L s,((pre.length+1:Nat):Int))=_
   have:=ih (pre++[s]) (b||!isF L s) (by rw [e];simp)
   rw [show (pre++[s]).length=pre.length+1 by simp] at this
   rw [this,List.any_cons,Bool.or_assoc]
 exact key c.Impl [] b rfl
theorem zAR{L:List za}(hL:L.length≤100)(h1:1≤L.length)(hO:∀c∈L,Okc c)(h:zx2 L)(hS:∀c∈L.drop 1,c.Super≠[]):
  zs (fun z=>zgo L z) 1=some (zop () (cond ((L.drop 1).any (zsn L)) (some (none,1)) none)):=by
 rw [←zcG]
 refine zkv (k:=1) (fun i c hk hc=>?_) ?_ h1
 ·show zgo L (i:Int)=_
  have hcm:=List.mem_of_getElem? hc
  have hi:=(List.getElem?_eq_some_iff.1 hc).1
  have hcd:c∈L.drop 1:=List.mem_of_getElem? (i:=i-1) (by rw [List.getElem?_drop,show 1+(i-1)=i by omega,hc])
  obtain ⟨x,hx⟩:=zfJ (h.closed c hcm c.Super (by simp) (hS c hcd))
  have himp:∀s∈c.Impl,zb7 L s=true:=fun s hs=>h.closed c hcm s (by simp [hs]) ((hO c hcm).implE s hs)
  unfold zgo
  rw [zfv hc,zB,hc]
  simp only [cond_true,Option.bind_some]
  rw [ziO (by omega)]
  simp only [Option.bind_some]
  rw [zlS hx]
  simp only [Option.bind_some]
  rw [zvB hL hO h hc]
  simp only [Option.bind_some]
  unfold ziC
  rw [zxd hL (hO c hcm).impl himp,zxd hL (hO c hcm).impl himp]
  simp only [Option.bind_some,zQ]
  unfold znG
  rw [zaa (by omega)]
  show _=some (ztq i (cond (zsn L c) _ _))
  unfold zsn
  rw [show isF L c.Super=x.Interface by unfold isF;rw [hx]]
  cases x.Interface <;> cases (c.Impl.any fun s=>!isF L s) <;> cases cyc L c.Name <;> rfl
 ·show zgo L (L.length:Int)=_
  unfold zgo
  rw [zf1];rfl
theorem zuI{L l:List za}(h:L=giv++l)(hS:∀c∈l,c.Super≠[]):∀c∈L.drop 1,c.Super≠[]:=by
 have e:L.drop 1=giv.drop 1++l:=by rw [h];rfl
 intro c hc
 rw [e] at hc
 rcases List.mem_append.1 hc with e |e
 ·have:=List.all_eq_true.1 zrp c e
  intro e2
  rw [e2] at this;cases this
 ·exact hS c e
theorem zs2{l:List za}(hc:∀c∈l,zzl c):zn5 l=some ((zwI l).1.map zT.mk,(zwI l).2):=by
 unfold zn5 zwI
 cases hl:decide (16<(l.length:Int)) with
 |true=>rfl
 |false =>
  have hl:=of_decide_eq_false hl
  rw [zqM]
  simp only [cond_false,Option.bind_some]
  have hl16:l.length≤16:=by omega
  rw [show zs (fun z=>zeR l z.1 z.2) (giv,0)=_ from zwy hl16 hc l [] giv rfl rfl]
  cases hy:lay giv l with
  |none=>rfl
  |some L =>
   obtain ⟨k1,k2,k3⟩:=zpL l giv L zpI hy
   have hO:=zql hy
   have hlen:L.length≤100:=by rw [k1,List.length_append];have:giv.length=10:=rfl;omega
   have hpos:1≤L.length:=by rw [k1,List.length_append];have:giv.length=10:=rfl;omega
   simp only [Option.bind_some,zQ]
   unfold zoV
   rw [zB1 hlen hpos hO,ztz k1 (fun c hc=>zAu k1 hc)]
   cases hmis:l.any (mis L) with
   |true=>rfl
   |false =>
    obtain ⟨hL,hS⟩:=zsJ hy hmis
    simp only [cond_false,Option.bind_some,zQ,zop]
    unfold zoX
    rw [zAR hlen hpos hO hL (zuI k1 hS),ztz k1 (fun c hc=>zwj k1 hL.noE (List.mem_of_mem_drop hc))]
    cases hb:l.any (zsn L) with
    |true=>rfl
    |false=>rfl
structure zeD(l L:List za):Prop extends Wf L where
 app:L=giv++l
 few:l.length≤16
 okc:∀c∈L,Okc c
 may:∀c∈l,zpN c=true
theorem zeD.len{l L:List za}(h:zeD l L):L.length≤26:=by
 rw [h.app,List.length_append];have:giv.length=10:=rfl;have:=h.few;omega
theorem zwJ{l L:List za}(h:(zwI l).1=some L):zeD l L∧(zwI l).2=0:=by
 unfold zwI at h ⊢
 cases hl:decide (16<(l.length:Int)) with
 |true=>rw [hl] at h;cases h
 |false =>
  rw [hl] at h
  have hl:=of_decide_eq_false hl
  simp only [cond_false] at h ⊢
  cases hy:lay giv l with
  |none=>rw [hy] at h;cases h
  |some L' =>
   rw [hy] at h
   simp only at h ⊢
   cases hmis:l.any (mis L') with
   |true=>rw [hmis] at h;cases h
   |false =>
    cases hb:l.any (zsn L') with
    |true=>rw [hmis,hb] at h;cases h
    |false =>
     rw [hmis,hb] at h
     have e:L'=L:=by
      have h:some L'=some L:=h
      cases h;rfl
     subst e
     obtain ⟨hL,hS⟩:=zsJ hy hmis
     obtain ⟨k1,k2,k3⟩:=zpL l giv L' zpI hy
     have bad:∀c∈L',zsn L' c=false:=fun c hc=>by
      rw [k1] at hc
      rcases List.mem_append.1 hc with e |e
      ·exact zwj k1 hL.noE e
      ·simpa using List.any_eq_false.1 hb c e
     have bad':∀c∈L',isF L' c.Super=false∧(c.Impl.any (fun s=>!isF L' s)=false∧cyc L' c.Name=false):=fun c hc=>by
      have:=bad c hc
      unfold zsn at this
      rw [Bool.or_eq_false_iff,Bool.or_eq_false_iff] at this
      exact this
     refine ⟨⟨⟨hL,fun n hr=>?_,fun c hc=>(bad' c hc).1,fun c hc s hs=>?_⟩,k1,by omega,zql hy,k3⟩,rfl⟩
     ·cases hn:cl L' n with
      |none =>
       have:nxA L' n=[]:=by unfold nxA;rw [hn]
       cases hr with
       |one h=>rw [this] at h;cases h
       |more h _=>rw [this] at h;cases h
      |some c =>
       have h1:=(bad' c (zbU hn).1).2.2
       rw [(zbU hn).2] at h1
       rw [zqa.2 hr] at h1;cases h1
     ·have:=List.any_eq_false.1 (bad' c hc).2.1 s hs
      simpa using this
section
variable {l L : List za} {m : List (Tx × Int)}
theorem zo4(h:zeD l L)(hm:zcD L m):∀(d:Nat) (n:Tx) (acc:List Tx),zvx L d n=true→acc.length+d≤200→zs (fun z=>za7 L m z.1 z.2) (n,acc)=some (.inl (acc++sup L d n))
 | 0,n,acc,hf,hd=>by
  rw [zJ]
  show (za7 L m n acc).bind _=_
  unfold za7 zaY
  rw [hm.has]
  have:zb7 L n=false:=by simpa [zvx] using hf
  rw [this]
  simp [sup]
 |d+1,n,acc,hf,hd=>by
  rw [zJ]
  show (za7 L m n acc).bind _=_
  unfold za7 zaY
  rw [hm.has]
  unfold zvx at hf
  unfold sup
  cases hc:cl L n with
  |none=>rw [zlQ hc];simp
  |some c =>
   rw [hc] at hf
   rw [zgf hc,zpH hm (zgf hc),hc,zcE (by simp;omega) (by simp;omega)]
   show zs (fun z=>za7 L m z.1 z.2) (c.Super,acc++[n])=_
   rw [zo4 h hm d c.Super (acc++[n]) hf (by simp;omega)]
   simp
def zfW(L:List za)(n:Tx):List Tx:=sup L L.length n
theorem zkU(h:zeD l L)(hm:zcD L m)(n:Tx):zbg L m n=some (zfW L n):=by
 unfold zbg
 rw [zo4 h hm L.length n [] (zul h.toWf n) (by have:=h.len;simp;omega)]
 rfl
theorem zkN(h:zeD l L):∀(d:Nat) (n:Tx) (acc:List Tx),zvx L d n=true→acc.length+d≤200→zs (fun z=>za8 L z.1 z.2) (acc,atN L n)=some (.inl (acc++sup L d n))
 | 0,n,acc,hf,hd=>by
  rw [zJ]
  show (za8 L acc (atN L n)).bind _=_
  unfold za8
  have:zb7 L n=false:=by simpa [zvx] using hf
  rw [zoe,this]
  simp [sup]
 |d+1,n,acc,hf,hd=>by
  rw [zJ]
  show (za8 L acc (atN L n)).bind _=_
  unfold za8
  rw [zoe]
  unfold zvx at hf
  unfold sup
  cases hc:cl L n with
  |none=>rw [zlQ hc];simp
  |some c =>
   rw [hc] at hf
   have:=h.len
   rw [zgf hc,zlS hc]
   simp only [cond_true,Option.bind_some]
   rw [ziO (by omega),zcE (by simp;omega) (by simp;omega),(zbU hc).2]
   show zs (fun z=>za8 L z.1 z.2) (acc++[n],atN L c.Super)=_
   rw [zkN h d c.Super (acc++[n]) hf (by simp;omega)]
   simp
theorem zgF(h:zeD l L)(n:Tx):zbh L n=some (zfW L n):=by
 have:=h.len
 unfold zbh
 rw [ziO (by omega)]
 simp only [Option.bind_some]
 rw [zkN h L.length n [] (zul h.toWf n) (by simp;omega)]
 rfl
theorem zxz:∀(d:Nat) (n:Tx),(sup L d n).length≤d
 | 0,n=>by simp [sup]
 |d+1,n=>by
  unfold sup
  cases cl L n with
  |none=>simp
  |some c=>have:=zxz d c.Super;simpa using this
theorem zf6(h:zeD l L)(n:Tx):(zfW L n).length≤26:=Nat.le_trans (zxz _ n) h.len
theorem zxA(h:zeD l L):∀d,sup L d []=[]
 | 0=>rfl
 |d+1=>by
  unfold sup
  cases hE:cl L [] with
  |none=>rfl
  |some c=>have:=zgf hE;rw [h.noE] at this;cases this
theorem zjR(h:zeD l L):∀(d:Nat) (n x:Tx),x∈sup L d n→zb7 L x=true∧(x=n∨Rc (nxA L) n x)∧(x=n∨∃c∈L,x=c.Super)
 | 0,n,x,hx=>by simp [sup] at hx
 |d+1,n,x,hx=>by
  unfold sup at hx
  cases hc:cl L n with
  |none=>rw [hc] at hx;cases hx
  |some c =>
   rw [hc] at hx
   rcases List.mem_cons.1 hx with e |e
   ·subst e;exact ⟨zgf hc,.inl rfl,.inl rfl⟩
   ·obtain ⟨h1,h2,h3⟩:=zjR h d c.Super x e
    have hne:c.Super≠[]:=fun e2=>by rw [e2,zxA h] at e;cases e
    have h6:c.Super∈nxA L n:=by rw [zoM hc];exact List.mem_filter.2 ⟨by simp,by simpa using hne⟩
    refine ⟨h1,.inr ?_,.inr ?_⟩
    ·rcases h2 with e2 |e2
     ·rw [e2];exact .one h6
     ·exact .more h6 e2
    ·rcases h3 with e2 |e2
     ·exact ⟨c,(zbU hc).1,e2⟩
     ·exact e2
theorem zsd(h:zeD l L):∀(d:Nat) (n:Tx),(sup L d n).Nodup
 | 0,n=>by simp [sup]
 |d+1,n=>by
  unfold sup
  cases hc:cl L n with
  |none=>simp
  |some c =>
   refine List.nodup_cons.2 ⟨fun hm=>?_,zsd h d c.Super⟩
   have hne:c.Super≠[]:=fun e2=>by rw [e2,zxA h] at hm;cases hm
   have h6:c.Super∈nxA L n:=by rw [zoM hc];exact List.mem_filter.2 ⟨by simp,by simpa using hne⟩
   obtain ⟨_,h2,_⟩:=zjR h d c.Super n hm
   rcases h2 with e2 |e2
   ·exact h.acyc n (.one (by rw [←e2] at h6;exact h6))
   ·exact h.acyc n (.more h6 e2)
theorem zxx(h:zeD l L){n x:Tx}(hx:x∈zfW L n):x∈L.map (·.Name):=zhu.1 (zjR h _ n x hx).1
theorem zxy{n:Tx}(hn:zb7 L n=true):n∈zfW L n:=by
 unfold zfW
 obtain ⟨c,hc⟩:=zfJ hn
 have:L≠[]:=fun e=>by rw [e] at hn;cases hn
 cases hL:L.length with
 |zero=>exact absurd (List.eq_nil_of_length_eq_zero hL) this
 |succ d=>unfold sup;rw [hc];simp
theorem zkT{n:Tx}(hn:zb7 L n=false):zfW L n=[]:=by
 unfold zfW
 cases L.length with
 |zero=>rfl
 |succ d =>
  unfold sup
  cases hc:cl L n with
  |none=>rfl
  |some c=>rw [zgf hc] at hn;cases hn
end
theorem zqm:∀(a b:List UInt8),Op.bytesLess a b=true↔a<b
 |a,[]=>by
  have e:Op.bytesLess a []=false:=by cases a <;> rfl
  rw [e]
  constructor
  ·intro h;cases h
  ·intro h;exact absurd h (List.not_lt_nil a)
 | [],b ::y=>by
  constructor
  ·intro _;exact List.nil_lt_cons b y
  ·intro _;rfl
 |a ::x,b ::y=>by
  rw [List.cons_lt_cons_iff,←zqm x y]
  show (decide (a<b)||(a == b&&Op.bytesLess x y))=true↔_
  rw [Bool.or_eq_true,decide_eq_true_eq,Bool.and_eq_true,beq_iff_eq]
theorem zrs:∀(s:Tx) (l:List Tx),ztO s l=l.takeWhile (fun x=>Op.bytesLess x s)++s ::l.dropWhile (fun x=>Op.bytesLess x s)
 |s,[]=>rfl
 |s,x ::r=>by
  unfold ztO
  rw [List.takeWhile_cons,List.dropWhile_cons]
  by_cases h:s≤x
  ·rw [if_pos h]
   have:¬(Op.bytesLess x s=true):=fun h2=>absurd ((zqm x s).1 h2) (List.not_lt.2 h)
   rw [if_neg this,if_neg this];rfl
  ·rw [if_neg h]
   have:Op.bytesLess x s=true:=(zqm x s).2 (List.not_le.1 h)
   rw [if_pos this,if_pos this,zrs s r];rfl
theorem zkM{s:Tx}{l:List Tx}(hl:l.length≤1000):∀(r pre:List Tx),l=pre++r→zs (fun z=>zdp l s z) (pre.length:Int)=some (.inl ((pre.length+(r.takeWhile (fun x=>Op.bytesLess x s)).length:Nat):Int))
 | [],pre,e=>by
  rw [List.append_nil] at e
  rw [zJ]
  show (zdp l s (pre.length:Int)).bind _=_
  unfold zdp
  rw [←e,zf1];rfl
 |x ::r,pre,e=>by
  have hlen:l.length=pre.length+(r.length+1):=by rw [e];simp
  have hx:l[pre.length]?=some x:=by rw [e];simp
  rw [zJ]
  show (zdp l s (pre.length:Int)).bind _=_
  unfold zdp
  rw [zfv hx,zB,hx,List.takeWhile_cons,zaa (by omega)]
  cases hb:Op.bytesLess x s with
  |false=>simp [hb]
  |true =>
   simp only [cond_true,Option.bind_some,hb,if_true]
   show zs (fun z=>zdp l s z) ((pre.length+1:Nat):Int)=_
   have:=zkM (s:=s) hl r (pre++[x]) (by rw [e];simp)
   rw [show (pre++[x]).length=pre.length+1 by simp] at this
   rw [this,List.length_cons]
   congr 2
   omega
theorem zxD{α:Type}(p:α→Bool):∀(l:List α),l.take (l.takeWhile p).length=l.takeWhile p∧l.drop (l.takeWhile p).length=l.dropWhile p∧(l.takeWhile p).length≤l.length
 | []=>by simp
 |x ::r=>by
  rw [List.takeWhile_cons,List.dropWhile_cons]
  cases p x with
  |false=>simp
  |true =>
   obtain ⟨h1,h2,h3⟩:=zxD p r
   simp [h1,h2,h3]
theorem zqS{s:Tx}{l:List Tx}(hl:l.length≤900):zjO l s=some (ztO s l):=by
 unfold zjO
 obtain ⟨h1,h2,h3⟩:=zxD (fun x=>Op.bytesLess x s) l
 rw [show zs (fun z=>zdp l s z) 0=_ from zkM (by omega) l [] rfl]
 simp only [Option.bind_some,zQ,List.length_nil,Nat.zero_add]
 unfold zlI
 rw [zm0 h3,h1]
 simp only [Option.bind_some]
 rw [zcE (w:=16) (l:=[]) (by simp;omega) (by simp;omega)]
 simp only [Option.bind_some,List.nil_append]
 rw [zhg h3,h2]
 simp only [Option.bind_some]
 rw [zcE (w:=16) (x:=[s]) (by simp;omega) (by simp;omega)]
 simp only [Option.bind_some]
 have h4:(l.dropWhile (fun x=>Op.bytesLess x s)).length≤l.length:=by rw [←h2,List.length_drop];omega
 rw [zcE (w:=16) (by simp;omega) (by simp;omega),zrs]
 simp
theorem zlO:∀{l:List Tx} (a:Tx),l.Nodup→l.count a=if a∈l then 1 else 0
 | [],a,_=>by simp
 |x ::r,a,h=>by
  rw [List.nodup_cons] at h
  rw [List.count_cons,zlO a h.2]
  by_cases e:x=a
  ·subst e
   simp [h.1]
  ·have:a≠x:=fun e2=>e e2.symm
   simp [e,this]
theorem zu6{a b:List Tx}(ha:a.Nodup)(hb:b.Nodup)(h:∀x,x∈a↔x∈b):a.Perm b:=by
 rw [List.perm_iff_count]
 intro x
 rw [zlO x ha,zlO x hb]
 by_cases hx:x∈a
 ·rw [if_pos hx,if_pos ((h x).1 hx)]
 ·rw [if_neg hx,if_neg (fun hb=>hx ((h x).2 hb))]
theorem zxm{a b:List Tx}(ha:a.Pairwise (·≤·))(hb:b.Pairwise (·≤·))(h:a.Perm b):a=b:=
 List.Perm.eq_of_pairwise (fun a b _ _ h1 h2=>List.le_antisymm h1 h2) ha hb h
theorem zrj{nx:Tx→List Tx}:∀(d i:Nat) (zW:List Tx),zW.Nodup→(bfs nx d i zW).Nodup
 | 0,i,zW,h=>h
 |d+1,i,zW,h=>by
  unfold bfs
  cases zW[i]? with
  |none=>exact h
  |some x =>
   refine zrj d (i+1) _ ?_
   obtain ⟨t,k1,k2,k3,k4⟩:=zhL (nx x) zW
   rw [k1]
   exact List.nodup_append.2 ⟨h,k2,fun a ha b hb e=>(k3 b hb).1 (by rw [←e];exact ha)⟩
theorem zot{R:Type}{I:List Tx→Prop}{nx:Tx→List Tx}{p:Tx→Bool}{body:List Tx×List Tx×Int→Option (Sum (List Tx×List Tx×Int) (Sum (List Tx) R))}
  (hb:∀(i:Nat) acc zW x,I zW→acc.length≤i→zW[i]?=some x→body (acc,zW,(i:Int))=some (.inl (cond (p x) (acc++[x]) acc,push zW (nx x),((i+1:Nat):Int))))
  (he:∀(i:Nat) acc zW,I zW→zW.length≤i→body (acc,zW,(i:Int))=some (.inr (.inl acc)))
  (hp:∀zW x,I zW→x∈zW→I (push zW (nx x))):∀(d i:Nat) (acc zW:List Tx),I zW→acc.length≤i→fin nx d i zW=true →
  zs body (acc,zW,(i:Int))=some (.inl (acc++((bfs nx d i zW).drop i).filter p))
 | 0,i,acc,zW,hI,ha,hf=>by
  have hl:zW.length≤i:=of_decide_eq_true hf
  rw [zJ,he i acc zW hI hl]
  show some (Sum.inl acc:Sum (List Tx) R)=some (Sum.inl (acc++((zW.drop i).filter p)))
  rw [List.drop_eq_nil_of_le hl]
  simp
 |d+1,i,acc,zW,hI,ha,hf=>by
  unfold fin at hf
  unfold bfs
  cases hi:zW[i]? with
  |none =>
   have hl:zW.length≤i:=List.getElem?_eq_none_iff.1 hi
   rw [zJ,he i acc zW hI hl]
   show some (Sum.inl acc:Sum (List Tx) R)=some (Sum.inl (acc++((zW.drop i).filter p)))
   rw [List.drop_eq_nil_of_le hl]
   simp
  |some x =>
   rw [hi] at hf
   obtain ⟨t,ht⟩:=zmj (nx:=nx) d (i+1) (push zW (nx x))
   obtain ⟨u,hu,_⟩:=zhL (nx x) zW
   have hx:(bfs nx d (i+1) (push zW (nx x)))[i]?=some x:=by
    rw [ht,hu,List.append_assoc,List.getElem?_append_left (List.getElem?_eq_some_iff.1 hi).1,hi]
   obtain ⟨hlt,hge⟩:=List.getElem?_eq_some_iff.1 hx
   have ih:=fun a ha=>zot hb he hp d (i+1) a _ (hp _ _ hI (List.mem_of_getElem? hi)) ha hf
   rw [zJ,hb i acc zW x hI ha hi]
   show zs body (cond (p x) (acc++[x]) acc,push zW (nx x),((i+1:Nat):Int))=some (.inl (acc++((bfs nx d (i+1) (push zW (nx x))).drop i).filter p))
   rw [ih _ (by cases p x <;> simp <;> omega),List.drop_eq_getElem_cons hlt,hge]
   cases hpx:p x with
   |true=>rw [List.filter_cons_of_pos hpx];simp
   |false=>rw [List.filter_cons_of_neg (by rw [hpx];exact Bool.false_ne_true)];rfl
def zkf(L:List za)(n:Tx):List Tx:=bfs (nxI L) 100 0 (zfW L n)
def zeE(L:List za)(n:Tx):List Tx:=zny ((zkf L n).filter (isF L))
section
variable {l L : List za} {m : List (Tx × Int)}
theorem zup(h:zeD l L)(n:Tx):fin (nxI L) 100 0 (zfW L n)=true:=
 zwc (U:=List.map (fun c:za=>c.Name) L) (s0:=zfW L n) h.nxI_in _ _ _ .start (by have:=zf6 h n;have:=h.len;simp;omega)
theorem zuq(h:zeD l L)(n:Tx):Inv (List.map (fun c:za=>c.Name) L) (zfW L n) (zkf L n):=zvR h.nxI_in _ _ _ .start
theorem zur(h:zeD l L)(n:Tx):(zkf L n).length≤52:=by
 have h1:=(zuq h n).len
 have h2:=zf6 h n
 have h3:=h.len
 simp only [List.length_map] at h1
 omega
theorem zqX(h:zeD l L){n x:Tx}(hx:x∈zkf L n):zb7 L x=true:=zhu.2 ((zuq h n).mem (fun y hy=>zxx h hy) x hx)
theorem zwM{n:Tx}{c:za}(hc:cl L n=some c):nxI L n=c.Impl:=by unfold nxI;rw [hc]
theorem zuM{R:Type}{body:List Tx×Int→Option (Sum (List Tx×Int) (Sum (List Tx) R))}{l:List Tx}(hl:l.length≤100)
  (hb:∀(i:Nat) x zW,zW.length≤1000→l[i]?=some x→body (zW,(i:Int))=some (.inl (cond (!(zW.any fun y=>x == y)) (zW++[x]) zW,IntKind.i64.wrap ((i:Int)+1))))
  (he:∀zW,body (zW,(l.length:Int))=some (.inr (.inl zW))) (zW:List Tx) (hs:zW.length≤800):zs body (zW,0)=some (.inl (push zW l)):=by
 have:=zoT (p:=fun _=>true) hl (fun i x s h hx=>by rw [hb i x s h hx];rfl) he l [] zW rfl (by omega)
 rw [List.filter_eq_self.2 (fun _ _=>rfl)] at this
 exact this
theorem zrl(h:zeD l L)(hm:zcD L m)(n:Tx):zd3 L m n=some (zeE L n):=by
 unfold zd3 zaY
 rw [hm.has]
 cases hn:zb7 L n with
 |false =>
  unfold zeE zkf
  rw [zkT hn]
  rfl
 |true =>
  rw [zkU h hm]
  simp only [Bool.not_true,cond_false,Option.bind_some]
  have h26:=h.len
  have hs26:=zf6 h n
  have hl:=zot (R:=List Tx) (I:=fun s=>Inv (List.map (fun c:za=>c.Name) L) (zfW L n) s) (nx:=nxI L) (p:=isF L) (body:=fun z=>za6 L m z.1 z.2.1 z.2.2)
   (fun i acc zW x hI ha hx=>by
    have hsl:=hI.len
    simp only [List.length_map] at hsl
    have hxm:zb7 L x=true:=zhu.2 (hI.mem (fun y hy=>zxx h hy) x (List.mem_of_getElem? hx))
    obtain ⟨c,hc⟩:=zfJ hxm
    have h4:=(h.okc c (zbU hc).1).impl
    have hilt:=(List.getElem?_eq_some_iff.1 hx).1
    have hp:∀acc',zcH zW (i:Int) c acc'=some (.inl (acc',push zW c.Impl,((i+1:Nat):Int))):=fun acc'=>by
     unfold zcH
     rw [zuM (l:=c.Impl) (by omega) (fun j y s hs hy=>by
      show zcI c s (j:Int)=_
      unfold zcI zd4
      rw [zfv hy,zB,hy]
      simp only [cond_true,Option.bind_some]
      rw [znX hs,zcE (w:=16) (l:=s) (x:=[y]) (by simp;omega) (by simp;omega)]
      cases (s.any fun z=>y == z) <;> rfl) (fun s=>by
      show zcI c s (c.Impl.length:Int)=_
      unfold zcI
      rw [zf1];rfl) zW (by omega)]
     simp only [Option.bind_some,zQ]
     unfold zgL
     rw [zaa (by omega)]
    show za6 L m acc zW (i:Int)=_
    unfold za6
    rw [zfv hx,zB,hx]
    simp only [cond_true,Option.bind_some]
    rw [zpH hm hxm,hc]
    simp only [Option.bind_some]
    rw [hp,zcE (w:=16) (l:=acc) (x:=[c.Name]) (by simp;omega) (by simp;omega)]
    simp only [Option.bind_some]
    rw [hp,zwM hc,(zbU hc).2]
    have e:isF L x=c.Interface:=by unfold isF;rw [hc]
    rw [e]
    cases c.Interface <;> rfl)
   (fun i acc zW hI hle=>by
    show za6 L m acc zW (i:Int)=_
    unfold za6
    rw [decide_eq_false (by omega)];rfl)
   (fun zW y hI hy=>hI.push (h.nxI_in y)) 100 0 [] (zfW L n) .start (by simp) (zup h n)
  rw [show zs (fun z=>za6 L m z.1 z.2.1 z.2.2) ([],zfW L n,0)=_ from hl]
  simp only [Option.bind_some,zQ,List.drop_zero,List.nil_append]
  unfold zgM zvi
  have h1:((bfs (nxI L) 100 0 (zfW L n)).filter (isF L)).length≤52:=Nat.le_trans (List.length_filter_le _ _) (zur h n)
  rw [if_pos (by omega)]
  rfl
theorem zrn(n:Tx):(zeE L n).Pairwise (·≤·):=zjx _
theorem zrm{n x:Tx}:x∈zeE L n↔x∈zkf L n∧isF L x=true:=by
 unfold zeE
 rw [(zga _).mem_iff,List.mem_filter]
theorem zvp(h:zeD l L)(n:Tx):(zkf L n).Nodup:=zrj _ _ _ (zsd h _ n)
theorem zqY{n x:Tx}(hx:x∈zfW L n):x∈zkf L n:=by
 obtain ⟨t,e⟩:=zmj (nx:=nxI L) 100 0 (zfW L n)
 unfold zkf
 rw [e];exact List.mem_append_left _ hx
theorem zo8(h:zeD l L){n x y:Tx}(hx:x∈zkf L n)(hy:y∈nxI L x):y∈zkf L n:=
 zmY 100 0 _ (zup h n) (fun j x hj=>by omega) x hx y hy
end
theorem zlh{l:List Tx}(hl:l.length≤1000)(n:Tx):ziD l n=some (l.any fun y=>y == n):=by
 unfold ziD
 rw [show zs (fun z=>zg2 l n z) 0=some (zop () (cond (l.any fun y=>y == n) (some true) none)) from by
  rw [←zcG]
  refine zex (fun i x hx=>?_) ?_
  ·show zg2 l n (i:Int)=_
   have hi:=(List.getElem?_eq_some_iff.1 hx).1
   unfold zg2
   rw [zfv hx,zB,hx,zaa (by omega)]
   simp only [cond_true,Option.bind_some]
   cases x == n <;> rfl
  ·show zg2 l n (l.length:Int)=_
   unfold zg2
   rw [zf1];rfl]
 cases (l.any fun y=>y == n) <;> rfl
section
variable {l L : List za}
def zx4(L:List za)(n:Tx)(k:Nat):Bool:=match L[k]? with |some c=>(zfW L n).any (fun y=>y == c.Name) |none=>false
theorem zsB(h:zeD l L){c:za}(hc:c∈L){inn:List Bool}(hi:inn.length=L.length)(more:Bool):
  zs (fun z=>zcp L c z.1 z.2.1 z.2.2) (inn,more,0)=some (.inl (mkS L inn c.Impl,more||c.Impl.any (zoL L inn))):=by
 have h26:=h.len
 have h4:=(h.okc c hc).impl
 refine zm8 (l:=c.Impl) (by omega) (fun j s inn more hi hs=>?_) (fun inn more=>?_) c.Impl [] inn more rfl hi
 ·show zcp L c inn more (j:Int)=_
  have hsm:=List.mem_of_getElem? hs
  have hh:zb7 L s=true:=h.closed c hc s (List.mem_cons_of_mem _ hsm) ((h.okc c hc).implE s hsm)
  unfold zcp zeJ
  rw [zfv hs,zB,hs]
  simp only [cond_true,Option.bind_some]
  rw [ziO (by omega)]
  simp only [Option.bind_some]
  unfold mk1 zoL
  obtain ⟨g1,g2⟩:=zsy hh
  have e:idx inn (atN L s)=some (onB inn (atN L s).toNat):=by
   unfold idx onB
   rw [if_pos g1,List.getD_eq_getElem?_getD,List.getElem?_eq_getElem (by omega)];rfl
  rw [e,hh]
  simp only [Option.bind_some,Bool.true_and]
  cases onB inn (atN L s).toNat <;> simp
 ·show zcp L c inn more (c.Impl.length:Int)=_
  unfold zcp
  rw [zf1];rfl
theorem zuL(h:zeD l L)(n:Tx){inn:List Bool}(hi:inn.length=L.length)(more:Bool):
  zs (fun z=>zcq L (zfW L n) z.1 z.2.1 z.2.2) (inn,more,0)=some (.inl (zhK L (·.Impl) (zx4 L n) inn 0 L,more||zlp L (·.Impl) (zx4 L n) inn 0 L)):=by
 have h26:=h.len
 have hs26:=zf6 h n
 refine zoP (st:=fun a b c=>(a,b,c)) (nx:=(·.Impl)) (act:=zx4 L n) (by omega) (fun k c inn more hi hc=>?_) (fun inn more=>?_) L [] inn more rfl hi
 ·show zcq L (zfW L n) inn more (k:Int)=_
  have hk:=(List.getElem?_eq_some_iff.1 hc).1
  have e:zx4 L n k=(zfW L n).any (fun y=>y == c.Name):=by unfold zx4;rw [hc]
  unfold zcq
  rw [zfv hc,zt1 (by omega),zB,hc]
  simp only [cond_true,Option.bind_some]
  rw [zlh (by omega),zsB h (List.mem_of_getElem? hc) hi,e]
  unfold zeM zeK
  rw [zaa (by omega)]
  cases onB inn k <;> cases ((zfW L n).any (fun y=>y == c.Name)) <;> rfl
 ·show zcq L (zfW L n) inn more (L.length:Int)=_
  unfold zcq
  rw [zf1];rfl
def zh5(F:List Bool):Nat→List za→List Tx
 |_,[]=>[]
 |k,c ::r=>cond (onB F k) (c.Name ::zh5 F (k+1) r) (zh5 F (k+1) r)
theorem zlZ{F:List Bool}:∀(r:List za) (k:Nat) (x:Tx),x∈zh5 F k r↔∃(j:Nat) (c:za),r[j]?=some c∧onB F (k+j)=true∧c.Name=x
 | [],k,x=>by
  constructor
  ·intro h;cases h
  ·rintro ⟨j,c,h,_⟩;simp at h
 |c ::r,k,x=>by
  have ih:=zlZ (F:=F) r (k+1) x
  have back:(∃(j:Nat) (d:za),r[j]?=some d∧onB F (k+1+j)=true∧d.Name=x)↔∃(j:Nat) (d:za),0<j∧(c ::r)[j]?=some d∧onB F (k+j)=true∧d.Name=x:=by
   constructor
   ·rintro ⟨j,d,h1,h2,h3⟩
    exact ⟨j+1,d,by omega,by simpa using h1,by rw [show k+(j+1)=k+1+j by omega];exact h2,h3⟩
   ·rintro ⟨j,d,h0,h1,h2,h3⟩
    cases j with
    |zero=>omega
    |succ j=>exact ⟨j,d,by simpa using h1,by rw [show k+1+j=k+(j+1) by omega];exact h2,h3⟩
  unfold zh5
  cases hb:onB F k with
  |true =>
   rw [cond_true,List.mem_cons,ih,back]
   constructor
   ·rintro (e |⟨j,d,_,h1⟩)
    ·exact ⟨0,c,rfl,hb,e.symm⟩
    ·exact ⟨j,d,h1⟩
   ·rintro ⟨j,d,h1,h2,h3⟩
    cases j with
    |zero=>left;have e:c=d:=(by simpa using h1);rw [e];exact h3.symm
    |succ j=>exact .inr ⟨j+1,d,by omega,h1,h2,h3⟩
  |false =>
   rw [cond_false,ih,back]
   constructor
   ·rintro ⟨j,d,_,h1⟩;exact ⟨j,d,h1⟩
   ·rintro ⟨j,d,h1,h2,h3⟩
    cases j with
    |zero=>rw [Nat.add_zero,hb] at h2;cases h2
    |succ j=>exact ⟨j+1,d,by omega,h1,h2,h3⟩
theorem zmz{F:List Bool}:∀(r pre:List za),Nd (pre++r)→(zh5 F pre.length r).Nodup
 | [],pre,h=>by simp [zh5]
 |c ::r,pre,h=>by
  have ih:=zmz (F:=F) r (pre++[c]) (by simpa using h)
  rw [show (pre++[c]).length=pre.length+1 by simp] at ih
  unfold zh5
  cases onB F pre.length with
  |false=>exact ih
  |true =>
   refine List.nodup_cons.2 ⟨fun hm=>?_,ih⟩
   obtain ⟨j,d,h1,_,h3⟩:=(zlZ r _ _).1 hm
   have:=h pre.length (pre.length+(j+1)) c d (by simp) (by rw [List.getElem?_append_right (by omega),show pre.length+(j+1)-pre.length=j+1 by omega];simpa using h1) h3.symm
   omega
def zpT(acc:List Tx):List Tx→List Tx
 | []=>acc
 |x ::r=>zpT (ztO x acc) r
theorem zo3:∀(r acc:List Tx),(zpT acc r).Perm (acc++r)
 | [],acc=>by simp [zpT]
 |x ::r,acc=>(zo3 r (ztO x acc)).trans (by
  refine ((zkr x acc).append_right r).trans ?_
  exact (List.perm_middle (l₁:=acc) (l₂:=r) (a:=x)).symm)
theorem zmM:∀(r acc:List Tx),acc.Pairwise (·≤·)→(zpT acc r).Pairwise (·≤·)
 | [],acc,h=>h
 |x ::r,acc,h=>zmM r _ (zlT x h)
theorem zyv(x:Tx)(l:List Tx):(ztO x l).length=l.length+1:=by rw [(zkr x l).length_eq];rfl
theorem znw{F:List Bool}(hl:L.length≤100)(hF:F.length=L.length):∀(r pre:List za) (acc:List Tx),L=pre++r→acc.length≤pre.length →
  zs (fun z=>zaZ L F z.1 z.2) (acc,(pre.length:Int))=some (.inl (zpT acc (zh5 F pre.length r)))
 | [],pre,acc,e,ha=>by
  rw [List.append_nil] at e
  rw [zJ]
  show (zaZ L F acc (pre.length:Int)).bind _=_
  unfold zaZ
  rw [←e,zf1];rfl
 |c ::r,pre,acc,e,ha=>by
  have hlen:L.length=pre.length+(r.length+1):=by rw [e];simp
  have hx:L[pre.length]?=some c:=by rw [e];simp
  have ih:=fun a ha=>znw hl hF r (pre++[c]) a (by rw [e];simp) ha
  rw [show (pre++[c]).length=pre.length+1 by simp] at ih
  rw [zJ]
  show (zaZ L F acc (pre.length:Int)).bind _=_
  unfold zaZ
  rw [zfv hx,zt1 (by omega),zB,hx]
  simp only [cond_true,Option.bind_some]
  rw [zqS (by omega)]
  unfold zeL zh5
  rw [zaa (by omega)]
  cases onB F pre.length with
  |false =>
   show zs (fun z=>zaZ L F z.1 z.2) (acc,((pre.length+1:Nat):Int))=_
   exact ih acc (by omega)
  |true =>
   show zs (fun z=>zaZ L F z.1 z.2) (ztO c.Name acc,((pre.length+1:Nat):Int))=_
   exact ih _ (by rw [zyv];omega)
theorem ztr(h:zeD l L){s:Tx}(hh:zb7 L s=true):∃d,L[(atN L s).toNat]?=some d∧d.Name=s:=by
 obtain ⟨d,hd⟩:=zfJ hh
 have e:=zms L s
 rw [hd] at e
 obtain ⟨g1,g2⟩:=zsy hh
 refine ⟨d,?_,(zbU hd).2⟩
 unfold idx at e
 rw [if_pos g1] at e
 exact e
theorem ztG(h:zeD l L){n:Tx}(hn:zb7 L n=true){inn:List Bool}(hi:inn.length=L.length)
  (h0:∀k,onB inn k=true↔(isF L n=true∧k=(atN L n).toNat)):zd9 L n inn=some (zeE L n):=by
 have h26:=h.len
 let Q:Nat→Prop:=fun k=>∃c,L[k]?=some c∧c.Name∈zkf L n∧c.Interface=true
 have isF_of:∀{k:Nat} {c:za},L[k]?=some c→isF L c.Name=c.Interface:=fun {k c} hk=>by
  unfold isF;rw [h.nd.cl (List.mem_of_getElem? hk)]
 have hq0:∀k,onB inn k=true→Q k:=fun k hk=>by
  obtain ⟨h1,h2⟩:=(h0 k).1 hk
  obtain ⟨d,hd,hd2⟩:=ztr h hn
  refine ⟨d,by rw [h2];exact hd,by rw [hd2];exact zqY (zxy hn),?_⟩
  rw [←isF_of hd,hd2];exact h1
 have hQ:∀(j:Nat) c,L[j]?=some c→(Q j∨zx4 L n j=true)→∀s∈c.Impl,zb7 L s=true→Q (atN L s).toNat:=fun j c hj hor s hs hh=>by
  have hcT:c.Name∈zkf L n:=by
   rcases hor with ⟨c',hc',hm,_⟩ |ha
   ·rw [hj] at hc';cases hc';exact hm
   ·unfold zx4 at ha
    rw [hj] at ha
    have ha:(zfW L n).any (fun y=>y == c.Name)=true:=ha
    rw [List.any_eq_true] at ha
    obtain ⟨y,hy,e⟩:=ha
    rw [←eq_of_beq e];exact zqY hy
  obtain ⟨d,hd,hd2⟩:=ztr h hh
  refine ⟨d,hd,?_,?_⟩
  ·rw [hd2]
   exact zo8 h hcT (by rw [zwM (h.nd.cl (List.mem_of_getElem? hj))];exact hs)
  ·rw [←isF_of hd,hd2];exact h.implF c (List.mem_of_getElem? hj) s hs
 obtain ⟨F,k1,k2,k3,k4,k5⟩:=znb (L:=L) (nx:=(·.Impl)) (act:=zx4 L n) (R:=List Tx) (st:=fun a b=>(a,b)) (body:=fun z=>zeN L (zfW L n) z.1 z.2) (Q:=Q)
  (fun inn hi=>by
   show zeN L (zfW L n) inn true=_
   unfold zeN
   rw [zuL h n hi false]
   rfl) (fun inn hi=>rfl) hQ L.length inn hi (by omega) hq0
 unfold zd9
 rw [zgF h]
 simp only [Option.bind_some]
 rw [k1]
 simp only [Option.bind_some,zQ]
 unfold zib
 rw [show zs (fun z=>zaZ L F z.1 z.2) ([],0)=_ from znw (by omega) k2 L [] [] rfl (by simp)]
 simp only [Option.bind_some,zQ]
 show some (zpT [] (zh5 F 0 L))=_
 congr 1
 refine zxm (zmM _ _ (by simp)) (zrn n) ((zo3 _ _).trans ?_)
 rw [List.nil_append]
 refine (zu6 (zmz (F:=F) L [] h.nd) ((zvp h n).filter (isF L)) fun x=>?_).trans (zga _).symm
 show x∈zh5 F 0 L↔_
 rw [zlZ,List.mem_filter]
 constructor
 ·rintro ⟨j,c,h1,h2,h3⟩
  rw [Nat.zero_add] at h2
  obtain ⟨c',hc',hm,hI⟩:=k5 j h2
  rw [h1] at hc';cases hc'
  rw [←h3]
  exact ⟨hm,by rw [isF_of h1];exact hI⟩
 ·rintro ⟨hx,hxF⟩
  have key:∀y∈zkf L n,y∈zkf L n∧(y∈zfW L n∨onB F (atN L y).toNat=true):=by
   refine zog (Q:=fun y=>y∈zkf L n∧(y∈zfW L n∨onB F (atN L y).toNat=true)) (fun y hy z hz=>?_) 100 0 _ (fun y hy=>⟨zqY hy,.inl hy⟩)
   refine ⟨zo8 h hy.1 hz,.inr ?_⟩
   have hyh:=zqX h hy.1
   obtain ⟨d,hd,hd2⟩:=ztr h hyh
   have hzh:=zqX h (zo8 h hy.1 hz)
   rw [←hd2,zwM (h.nd.cl (List.mem_of_getElem? hd))] at hz
   refine k3 _ d hd ?_ z hz hzh
   rw [Bool.or_eq_true]
   rcases hy.2 with h1 |h1
   ·right
    unfold zx4
    rw [hd]
    show (zfW L n).any (fun w=>w == d.Name)=true
    rw [hd2,List.any_eq_true]
    exact ⟨y,h1,beq_self_eq_true _⟩
   ·exact .inl h1
  have hxh:=zqX h hx
  obtain ⟨d,hd,hd2⟩:=ztr h hxh
  refine ⟨(atN L x).toNat,d,hd,?_,hd2⟩
  rw [Nat.zero_add]
  rcases (key x hx).2 with h1 |h1
  ·rcases (zjR h _ n x h1).2.2 with e |⟨c,hc,e⟩
   ·subst e
    exact k4 _ ((h0 _).2 ⟨hxF,rfl⟩)
   ·rw [e,h.superF c hc] at hxF;cases hxF
  ·exact h1
theorem znH(h:zeD l L)(n:Tx):zfq L n=some (zeE L n):=by
 have h26:=h.len
 unfold zfq
 rw [show mkP 1 (L.length:Int)=some L.length by unfold mkP;rw [if_pos (by omega),Int.toNat_natCast],ziO (by omega)]
 simp only [Option.bind_some]
 rw [znu]
 have hrep:(List.replicate L.length false).length=L.length:=by simp
 have hoff:∀n,onB (List.replicate L.length false) n=false:=fun n=>by
  unfold onB
  rw [List.getD_eq_getElem?_getD,List.getElem?_replicate]
  split <;> rfl
 cases hn:zb7 L n with
 |false =>
  unfold zeE zkf
  rw [zkT hn]
  rfl
 |true =>
  obtain ⟨c,hc⟩:=zfJ hn
  obtain ⟨g1,g2⟩:=zsy hn
  have eF:isF L n=c.Interface:=by unfold isF;rw [hc]
  rw [zlS hc]
  simp only [Bool.not_true,cond_false,Option.bind_some]
  cases hI:c.Interface with
  |false =>
   simp only [cond_false]
   refine ztG h hn hrep fun k=>?_
   rw [hoff,eF,hI]
   simp
  |true =>
   have e:idx (List.replicate L.length false) (atN L n)=some false:=by
    unfold idx
    rw [if_pos g1,List.getElem?_replicate,if_pos g2]
   rw [e]
   simp only [cond_true,Option.bind_some]
   refine ztG h hn (by simp) fun k=>?_
   rw [zzG (by rw [hrep];exact g2),hoff,Bool.false_or,eF,hI,Nat.beq_eq]
   simp
end
def brk:Tx→Bool
 | []=>false
 |x :: _=>x == 91
def ess(s:Tx):Tx:=zeT (zeT s)
theorem zlk{s:Tx}(h:brk s=false):zeT s=s:=by
 cases s with
 |nil=>rfl
 |cons x r =>
  rw [zfH,if_neg]
  intro e
  subst e
  cases h
theorem zjS{s:Tx}(h:brk s=true):zeT s=s.drop 1∧s=91 ::s.drop 1:=by
 cases s with
 |nil=>cases h
 |cons x r =>
  have:x=91:=by simpa [brk] using h
  subst this
  exact ⟨rfl,rfl⟩
theorem ziR{s:Tx}(h:zbA s=true):brk s=false:=by
 cases s with
 |nil=>rfl
 |cons x r =>
  cases hb:(x == 91) with
  |false=>exact hb
  |true =>
   have:x=91:=by simpa using hb
   subst this
   unfold zbA at h
   rw [Bool.and_eq_true] at h
   have h2:zc2 91=true:=h.2
   exact absurd h2 (by decide +kernel)
theorem zye{s:Tx}(h:zbA s=true):(s == [73])=false:=by
 cases hb:(s == [73]) with
 |false=>rfl
 |true =>
  have:s=[73]:=by simpa using hb
  subst this
  unfold zbA at h
  simp at h
theorem zmZ{s:Tx}(h:zbA s=true):ze5 s=true:=by
 unfold ze5
 rw [zlk (ziR h),zlk (ziR h),h,Bool.or_true]
theorem zAk{s:Tx}(h:ze5 s=true):brk (ess s)=false:=by
 unfold ze5 at h
 rw [Bool.or_eq_true] at h
 rcases h with h |h
 ·unfold ess;rw [eq_of_beq h];rfl
 ·exact ziR h
theorem zn0{s:Tx}(h:ze5 s=true)(hb:brk s=true):ze5 (s.drop 1)=true∧ess (s.drop 1)=ess s:=by
 obtain ⟨h1,h2⟩:=zjS hb
 have h3:=zAk h
 have e:zeT (zeT (s.drop 1))=zeT (zeT s):=by
  rw [h1]
  exact zlk (show brk (zeT (s.drop 1))=false from by rw [←h1];exact h3)
 exact ⟨by unfold ze5 at h ⊢;rw [e];exact h,e⟩
theorem zoq{s:Tx}(hb:brk s=false):ess s=s:=by unfold ess;rw [zlk hb,zlk hb]
theorem zwk:giv.all (fun c=>zbA c.Name)=true:=by decide +kernel
def zxF(L:List za)(t:Tx):Bool:=(ess t == [73])||zb7 L (ess t)
def thN(L:List za)(t:Tx):Bool:=ze5 t&&zxF L t
section
variable {l L : List za} {m : List (Tx × Int)}
theorem zi2(h:zeD l L){n:Tx}(hn:zb7 L n=true):zbA n=true:=by
 obtain ⟨c,hc⟩:=zfJ hn
 obtain ⟨h1,h2⟩:=zbU hc
 rw [←h2]
 rw [h.app] at h1
 rcases List.mem_append.1 h1 with e |e
 ·exact List.all_eq_true.1 zwk c e
 ·have:=h.may c e
  unfold zpN at this
  simp only [Bool.and_eq_true] at this
  exact this.2.1.1.1.1
def zgJ(s:Tx):Tx×Bool:=cond (ze5 s&&brk s) (s.drop 1,true) ([],false)
theorem zgg{s:Tx}(h:Len s):zfR s=some (zgJ s):=by
 unfold zfR zgJ
 rw [zgc h]
 cases hm:ze5 s with
 |false=>rfl
 |true =>
  cases s with
  |nil =>
   exfalso
   unfold ze5 at hm
   rw [show zeT (zeT [])=[] from rfl] at hm
   simp at hm
   exact ziS hm rfl
  |cons x r =>
   simp only [Option.bind_some,Bool.not_true,cond_false,Bool.true_and]
   rw [zhH]
   have e:((x.toNat:Int) == (91:Int))=(x == 91):=by
    rw [Bool.eq_iff_iff,beq_iff_eq,beq_iff_eq]
    constructor
    ·intro h;exact UInt8.toNat_inj.1 (by simpa using (Int.ofNat_inj.1 h))
    ·intro h;rw [h];rfl
   simp only [List.getElem?_cons_zero,Option.bind_some,e]
   rw [show (1:Int)=((1:Nat):Int) from rfl,zhg (by simp)]
   show cond (!(x == 91)) _ _=some (cond (x == 91) _ _)
   cases x == 91 <;> rfl
theorem zpU{s:Tx}:∀(d:Nat) (t:Tx),t.length≤d→Len t→zs (fun z=>zcJ z.1 z.2.1 z.2.2) (t,(zgJ t).1,(zgJ t).2)=some (.inl (cond (ze5 t) (ess t) t))
 |d,t,hd,hl=>by
  rw [zJ]
  show (zcJ t (zgJ t).1 (zgJ t).2).bind _=_
  unfold zcJ
  cases hm:ze5 t with
  |false =>
   have:zgJ t=([],false):=by unfold zgJ;rw [hm];rfl
   rw [this];rfl
  |true =>
   cases hb:brk t with
   |false =>
    have:zgJ t=([],false):=by unfold zgJ;rw [hm,hb];rfl
    rw [this,zoq hb];rfl
   |true =>
    have:zgJ t=(t.drop 1,true):=by unfold zgJ;rw [hm,hb];rfl
    obtain ⟨k1,k2⟩:=zn0 hm hb
    have hlen:(t.drop 1).length=t.length-1:=by simp
    have hpos:0<t.length:=by rw [(zjS hb).2];simp
    have hl2:Len (t.drop 1):=by unfold Len at *;omega
    rw [this]
    show ((zfR (t.drop 1)).bind _).bind _=_
    rw [zgg hl2]
    show zs (fun z=>zcJ z.1 z.2.1 z.2.2) (t.drop 1,(zgJ (t.drop 1)).1,(zgJ (t.drop 1)).2)=_
    cases d with
    |zero=>omega
    |succ d =>
     rw [zpU (s:=s) d (t.drop 1) (by omega) hl2,k1,k2];rfl
theorem zun(h:zeD l L)(hm:zcD L m){t:Tx}(hl:Len t):zd5 L m t=some (thN L t):=by
 unfold zd5
 rw [zgg hl]
 simp only [Option.bind_some]
 rw [zpU (s:=t) t.length t (Nat.le_refl _) hl]
 simp only [Option.bind_some,zQ]
 unfold zhl zaY
 rw [hm.has]
 unfold thN zxF
 cases hmay:ze5 t with
 |true=>rfl
 |false =>
  simp only [cond_false,Bool.false_and]
  congr 1
  rw [Bool.or_eq_false_iff]
  constructor
  ·cases hI:(t == [73]) with
   |false=>rfl
   |true =>
    have:t=[73]:=by simpa using hI
    rw [this] at hmay
    exact absurd hmay (by decide +kernel)
  ·cases hh:zb7 L t with
   |false=>rfl
   |true=>rw [zmZ (zi2 h hh)] at hmay;cases hmay
theorem zri:∀(t:Tx) (k:Nat),t.length+k≤1000→zs (fun z=>zgp z.1 z.2) (t,(k:Int))=some (.inl (t.dropWhile (· == 91),((k+(t.takeWhile (· == 91)).length:Nat):Int)))
 | [],k,hk=>by
  rw [zJ];rfl
 |x ::r,k,hk=>by
  simp only [List.length_cons] at hk
  rw [zJ]
  show (zgp (x ::r) (k:Int)).bind _=_
  unfold zgp
  have e:((x.toNat:Int) == (91:Int))=(x == 91):=by
   rw [Bool.eq_iff_iff,beq_iff_eq,beq_iff_eq]
   constructor
   ·intro h;exact UInt8.toNat_inj.1 (by simpa using (Int.ofNat_inj.1 h))
   ·intro h;rw [h];rfl
  rw [decide_eq_true (show (0:Int)<((x ::r).length:Int) by simp only [List.length_cons];omega),zhH]
  simp only [cond_true,List.getElem?_cons_zero,Option.bind_some,e]
  rw [show (1:Int)=((1:Nat):Int) from rfl,zhg (by simp),List.dropWhile_cons,List.takeWhile_cons]
  cases hx:(x == 91) with
  |false=>simp
  |true =>
   simp only [cond_true,Option.bind_some,if_true,List.drop_one,List.tail_cons]
   rw [show ((1:Nat):Int)=1 from rfl,zaa (by omega)]
   show zs (fun z=>zgp z.1 z.2) (r,((k+1:Nat):Int))=_
   rw [zri r (k+1) (by omega)]
   simp only [List.length_cons]
   congr 3
   omega
theorem zz9{t:Tx}(h:t.length≤900):zih t=some (t.dropWhile (· == 91),((t.takeWhile (· == 91)).length:Int)):=by
 unfold zih
 rw [show zs (fun z=>zgp z.1 z.2) (t,0)=_ from zri t 0 (by omega)]
 simp only [Option.bind_some,zQ,Nat.zero_add]
 rfl
theorem ztC{t:Tx}(h:brk t=false):t.dropWhile (· == 91)=t∧t.takeWhile (· == 91)=[]:=by
 cases t with
 |nil=>exact ⟨rfl,rfl⟩
 |cons x r =>
  have:(x == 91)=false:=h
  simp [List.dropWhile_cons,List.takeWhile_cons,this]
theorem ztA{t:Tx}(h:brk t=true):t.dropWhile (· == 91)=(t.drop 1).dropWhile (· == 91)∧(t.takeWhile (· == 91)).length=((t.drop 1).takeWhile (· == 91)).length+1:=by
 cases t with
 |nil=>cases h
 |cons x r =>
  have:(x == 91)=true:=h
  simp [List.dropWhile_cons,List.takeWhile_cons,this]
theorem ztB:∀(d:Nat) (t:Tx),t.length≤d→ze5 t=true→t.dropWhile (· == 91)=ess t
 |d,t,hd,hm=>by
  cases hb:brk t with
  |false=>rw [(ztC hb).1,zoq hb]
  |true =>
   obtain ⟨k1,k2⟩:=zn0 hm hb
   have hlen:(t.drop 1).length=t.length-1:=by simp
   have hpos:0<t.length:=by rw [(zjS hb).2];simp
   cases d with
   |zero=>omega
   |succ d=>rw [(ztA hb).1,ztB d (t.drop 1) (by omega) k1,k2]
theorem zp0{t:Tx}(h:t.length≤900)(hm:ze5 t=true):∃k:Nat,zih t=some (ess t,(k:Int))∧(((k:Int) == 0)=!brk t):=by
 refine ⟨_,by rw [zz9 h,ztB _ t (Nat.le_refl _) hm],?_⟩
 cases hb:brk t with
 |false=>rw [(ztC hb).2];rfl
 |true=>rw [(ztA hb).2];exact beq_eq_false_iff_ne.2 (by omega)
theorem zdq(h:zeD l L){t:Tx}(hl:t.length≤900):zV L t=some (thN L t):=by
 have h26:=h.len
 unfold zV
 rw [zeI (by unfold Len;omega)]
 unfold thN
 cases hm:ze5 t with
 |false=>rfl
 |true =>
  obtain ⟨k,hk,_⟩:=zp0 hl hm
  rw [hk]
  simp only [Option.bind_some,Bool.not_true,cond_false]
  rw [ziO (by omega)]
  simp only [Option.bind_some]
  rw [zoe]
  unfold zxF
  cases (ess t == [73]) <;> rfl
end
def ztd(L:List za):Tx→Tx→Bool
 | [],b=>thN L []&&(thN L b&&(([]:Tx) == b))
 |x ::r,b=>thN L (x ::r)&&(thN L b&&(((x ::r) == b)||cond (x == 91) (cond (brk b) ((!(r == [73]))&&((!(b.drop 1 == [73]))&&ztd L r (b.drop 1))) (b == zCo)) ((zfW L (x ::r)).any (fun y=>b == y)||(zeE L (x ::r)).any (fun y=>b == y))))
theorem zte(L:List za)(a b:Tx):ztd L a b=(thN L a&&(thN L b&&((a == b)||cond (brk a) (cond (brk b) ((!(a.drop 1 == [73]))&&((!(b.drop 1 == [73]))&&ztd L (a.drop 1) (b.drop 1))) (b == zCo)) ((zfW L a).any (fun y=>b == y)||(zeE L a).any (fun y=>b == y))))):=by
 cases a with
 |nil =>
  have:thN L []=false:=by
   unfold thN
   have:ze5 []=false:=by
    cases h:ze5 [] with
    |false=>rfl
    |true =>
     unfold ze5 at h
     rw [show zeT (zeT [])=[] from rfl] at h
     simp at h
     exact absurd rfl (ziS h)
   rw [this];rfl
  rw [this]
  show (thN L []&&_)=_
  rw [this];rfl
 |cons x r=>rfl
section
variable {l L : List za} {m : List (Tx × Int)}
theorem zon{l:List Tx}(hl:l.length≤1000)(n:Tx):zI l n=some (l.any fun y=>n == y):=znX hl n
theorem zmp(h:zeD l L)(n:Tx):(zeE L n).length≤52:=by
 unfold zeE
 rw [(zga _).length_eq]
 exact Nat.le_trans (List.length_filter_le _ _) (zur h n)
theorem zxE{t:Tx}(h:thN L t=true):ze5 t=true:=by
 unfold thN at h;rw [Bool.and_eq_true] at h;exact h.1
theorem zv8{t:Tx}(h:thN L t=true):zgJ t=cond (brk t) (t.drop 1,true) ([],false):=by
 unfold zgJ
 rw [zxE h,Bool.true_and]
theorem zzb(h:zeD l L)(hm:zcD L m){v0:(List za)×(List (Tx×Int))×Tx×Tx→Option Bool}{a b:Tx}(ha:Len a)(hb:Len b)
  (hv:brk a=true→brk b=true→v0 (L,m,a.drop 1,b.drop 1)=some (ztd L (a.drop 1) (b.drop 1))):zbt v0 L m a b=some (ztd L a b):=by
 have h1:=zf6 h a
 have h2:=zmp h a
 unfold zbt
 rw [zun h hm ha,zun h hm hb,zte]
 cases ta:thN L a with
 |false=>rfl
 |true =>
  cases tb:thN L b with
  |false=>rfl
  |true =>
   simp only [Option.bind_some,Bool.not_true,cond_false,Bool.true_and]
   rw [zgg ha,zgg hb,zv8 ta,zv8 tb]
   simp only [Option.bind_some]
   cases hab:(a == b) with
   |true=>rfl
   |false =>
    cases ba:brk a with
    |true =>
     cases bb:brk b with
     |true =>
      simp only [cond_true,cond_false,Bool.and_self,Bool.false_or]
      rw [hv ba bb]
      cases (a.drop 1 == [73]) <;> cases (b.drop 1 == [73]) <;> rfl
     |false=>rfl
    |false =>
     simp only [cond_true,cond_false,Bool.false_and,Bool.false_or]
     rw [zkU h hm,zrl h hm]
     simp only [Option.bind_some]
     rw [zon (by omega),zon (by omega)]
     simp only [Option.bind_some]
     cases ((zfW L a).any fun y=>b == y) <;> rfl
theorem zzQ(h:zeD l L)(hm:zcD L m):∀(d k:Nat) (a b:Tx),a.length≤d→d<k→Len a→Len b→zyS (fun v0 z=>zbt v0 z.1 z.2.1 z.2.2.1 z.2.2.2) k (L,m,a,b)=some (ztd L a b)
 |d,0,a,b,hd,hk,ha,hb=>by omega
 |d,k+1,a,b,hd,hk,ha,hb=>by
  show zbt (zyS (fun v0 z=>zbt v0 z.1 z.2.1 z.2.2.1 z.2.2.2) k) L m a b=_
  refine zzb h hm ha hb fun b1 b2=>?_
  have hlen:(a.drop 1).length=a.length-1:=by simp
  have hlen2:(b.drop 1).length=b.length-1:=by simp
  have hpos:0<a.length:=by rw [(zjS b1).2];simp
  cases d with
  |zero=>omega
  |succ d=>exact zzQ h hm d k _ _ (by omega) (by omega) (by unfold Len at *;omega) (by unfold Len at *;omega)
theorem znm(h:zeD l L)(hm:zcD L m){a b:Tx}(ha:a.length≤25)(hb:Len b):zbC L m a b=some (ztd L a b):=by
 unfold zbC zAP
 rw [zzQ h hm 25 30 a b ha (by omega) (by unfold Len;omega) hb]
theorem ztm(l:List Tx)(n:Tx):(l.any fun y=>y == n)=l.any fun y=>n == y:=by
 congr 1
 funext y
 exact zBp _ _
theorem zmi{T:List Tx}(h:zeD l L)(hT:∀x∈T,zb7 L x=true){b:Tx}(hb:zbA b=false):(T.any fun y=>b == y)=false:=by
 rw [List.any_eq_false]
 intro y hy e
 have:=zi2 h (hT y hy)
 rw [←eq_of_beq e,hb] at this
 cases this
theorem zmo(h:zeD l L){n x:Tx}(hx:x∈zeE L n):zb7 L x=true:=zqX h (zrm.1 hx).1
theorem zsA{n:Tx}(hn:zb7 L n=false):zeE L n=[]:=by
 unfold zeE zkf
 rw [zkT hn];rfl
theorem zlu{b:Tx}(hb:brk b=true):zbA b=false:=by
 cases h:zbA b with
 |false=>rfl
 |true=>rw [ziR h] at hb;cases hb
theorem zok:zbA [73]=false:=by
 cases h:zbA [73] with
 |false=>rfl
 |true=>exact absurd (zye h) (by simp)
theorem zvf(h:zeD l L){v0:(List za)×Tx×Tx→Option Bool}{a b:Tx}(ha:a.length≤800)(hb:b.length≤800)
  (hv:brk a=true→brk b=true→v0 (L,a.drop 1,b.drop 1)=some (ztd L (a.drop 1) (b.drop 1))):zbu v0 L a b=some (ztd L a b):=by
 unfold zbu
 rw [zdq h (by omega),zdq h (by omega),zte]
 cases ta:thN L a with
 |false=>rfl
 |true =>
  cases tb:thN L b with
  |false=>rfl
  |true =>
   simp only [Option.bind_some,Bool.not_true,cond_false,Bool.true_and]
   obtain ⟨k1,e1,f1⟩:=zp0 (t:=a) (by omega) (zxE ta)
   obtain ⟨k2,e2,f2⟩:=zp0 (t:=b) (by omega) (zxE tb)
   rw [e1,e2]
   simp only [Option.bind_some]
   cases hab:(a == b) with
   |true=>rfl
   |false =>
    rw [f1,f2]
    simp only [cond_false,Bool.false_or]
    cases ba:brk a with
    |true =>
     cases bb:brk b with
     |true =>
      simp only [cond_true,cond_false,Bool.not_true,Bool.and_self,Bool.false_and]
      rw [show (1:Int)=((1:Nat):Int) from rfl,zhg (by rw [(zjS ba).2];simp),zhg (by rw [(zjS bb).2];simp)]
      simp only [Option.bind_some]
      rw [hv ba bb]
      cases (a.drop 1 == [73]) <;> cases (b.drop 1 == [73]) <;> rfl
     |false =>
      simp only [cond_true,cond_false,Bool.not_true,Bool.not_false,Bool.false_and]
      rw [zoq bb];rfl
    |false =>
     cases bb:brk b with
     |true =>
      simp only [cond_true,cond_false,Bool.not_true,Bool.not_false,Bool.and_false]
      rw [zmi (T:=zfW L a) h (fun x hx=>(zjR h _ a x hx).1) (zlu bb),zmi (T:=zeE L a) h (fun x hx=>zmo h hx) (zlu bb)];rfl
     |false =>
      simp only [cond_true,cond_false,Bool.not_false,Bool.and_self]
      rw [zoq ba,zoq bb]
      have h1:=zf6 h a
      have h2:=zmp h a
      cases hI:(a == [73]) with
      |true =>
       have e:a=[73]:=by simpa using hI
       have hn:zb7 L a=false:=by
        cases hh:zb7 L a with
        |false=>rfl
        |true=>have:=zi2 h hh;rw [e,zok] at this;cases this
       rw [zkT hn,zsA hn];rfl
      |false =>
       cases hI2:(b == [73]) with
       |true =>
        have e:b=[73]:=by simpa using hI2
        have hc:zbA b=false:=by rw [e];exact zok
        rw [zmi (T:=zfW L a) h (fun x hx=>(zjR h _ a x hx).1) hc,zmi (T:=zeE L a) h (fun x hx=>zmo h hx) hc];rfl
       |false =>
        simp only [Bool.not_false,Bool.and_self,cond_true]
        rw [zgF h,znH h]
        simp only [Option.bind_some]
        rw [zlh (by omega),zlh (by omega),ztm,ztm]
        simp only [Option.bind_some]
        cases ((zfW L a).any fun y=>b == y) <;> rfl
theorem zud(h:zeD l L):∀(d k:Nat) (a b:Tx),a.length≤d→d<k→a.length≤800→b.length≤800→zyS (fun v0 z=>zbu v0 z.1 z.2.1 z.2.2) k (L,a,b)=some (ztd L a b)
 |d,0,a,b,hd,hk,ha,hb=>by omega
 |d,k+1,a,b,hd,hk,ha,hb=>by
  show zbu (zyS (fun v0 z=>zbu v0 z.1 z.2.1 z.2.2) k) L a b=_
  refine zvf h ha hb fun b1 b2=>?_
  have hlen:(a.drop 1).length=a.length-1:=by simp
  have hlen2:(b.drop 1).length=b.length-1:=by simp
  have hpos:0<a.length:=by rw [(zjS b1).2];simp
  cases d with
  |zero=>omega
  |succ d=>exact zud h d k _ _ (by omega) (by omega) (by omega) (by omega)
theorem zpQ(h:zeD l L){a b:Tx}(ha:a.length≤25)(hb:b.length≤800):zeV L a b=some (ztd L a b):=by
 unfold zeV zAP
 rw [zud h 25 30 a b ha (by omega) (by omega) hb]
end
abbrev I64(n:Int):Prop:=-9223372036854775808≤n∧n≤9223372036854775807
abbrev FS(s:List UInt8):Prop:=s.length≤10000
structure FL{α:Type}(Q:α→Prop)(l:List α):Prop where
 len:l.length≤10000
 all:∀x∈l,Q x
structure zBg(f:zq):Prop where
 name:FS f.Name
 type:FS f.Type_
structure zDg(x:zw):Prop where
 op:I64 x.Op
 a:I64 x.A
 c:FS x.C
 m:FS x.M
structure zDh(x:zU):Prop where
 pl:I64 x.At
 locals:FL FS x.Locals
 stack:FL FS x.Stack
structure zCr(x:zan):Prop where
 lo:I64 x.From
 hi:I64 x.To
 pl:I64 x.At
 c:FS x.C
structure zBh(m:zb):Prop where
 name:FS m.Name
 params:FL FS m.Params
 ret:FS m.Ret
 locals:I64 m.Locals
 stack:I64 m.Stack
 code:FL zDg m.Code
 maps:FL zDh m.Maps
 traps:FL zCr m.Traps
structure zme(c:za):Prop where
 name:FS c.Name
 super:FS c.Super
 impl:FL FS c.Impl
 fields:FL zBg c.Fields
 methods:FL zBh c.Methods
theorem FL.le{α:Type}{Q:α→Prop}{l:List α}(h:FL Q l):zje l:=by have:=h.len;unfold zje;omega
theorem FS.le{s:List UInt8}(h:FS s):Len s:=by unfold FS at h;unfold Len;omega
theorem zme.cg{c:za}(h:zme c):zzl c where
 name:=h.name.le
 super:=h.super.le
 impl:=⟨h.impl.le,fun s hs=>(h.impl.all s hs).le⟩
 fields:=⟨h.fields.le,fun f hf=>⟨(h.fields.all f hf).name.le,(h.fields.all f hf).type.le⟩⟩
 methods:=⟨h.methods.le,fun m hm=>by
  have g:=h.methods.all m hm
  have g1:=g.params.len
  have g2:=g.code.len
  have g3:=g.maps.len
  have g4:=g.traps.len
  exact ⟨g.name.le,⟨by omega,fun s hs=>(g.params.all s hs).le⟩,g.ret.le,
   ⟨g.maps.le,g.code.le,fun x hx=>⟨⟨(g.maps.all x hx).locals.le,fun s hs=>((g.maps.all x hx).locals.all s hs).le⟩,(g.maps.all x hx).stack.le,fun s hs=>((g.maps.all x hx).stack.all s hs).le⟩⟩,
   ⟨⟨g.code.le,fun x hx=>⟨(g.code.all x hx).c.le,(g.code.all x hx).m.le⟩⟩,⟨g.traps.le,fun x hx=>(g.traps.all x hx).c.le⟩⟩,⟨by omega,by omega,by omega⟩⟩⟩
theorem zek{s:List UInt8}{n:Nat}:zbN s (n:Int)=some (s.take n):=by
 unfold zbN
 by_cases h:n<s.length
 ·rw [decide_eq_true (show (n:Int)<(s.length:Int) by omega),zm0 (by omega)];rfl
 ·rw [decide_eq_false (show ¬(n:Int)<(s.length:Int) by omega),List.take_of_length_le (by omega)];rfl
theorem zim{α β R:Type}{body:List β×Int→Option (Sum (List β×Int) (Sum (List β) R))}{l:List α}{n:Nat}{f:α→β}(hn:n≤1000)
  (hb:∀acc (i:Nat) x,l[i]?=some x→i<n→acc.length=i→body (acc,(i:Int))=some (.inl (acc++[f x],IntKind.i64.wrap ((i:Int)+1))))
  (he:∀acc (i:Nat),(decide ((i:Int)<(l.length:Int))&&decide ((i:Int)<(n:Int)))=false→body (acc,(i:Int))=some (.inr (.inl acc))):zs body ([],0)=some (.inl ((l.take n).map f)):=by
 have key:∀d i,(l.take n).length-i=d→i≤(l.take n).length→zs body (((l.take n).take i).map f,(i:Int))=some (.inl ((l.take n).map f)):=by
  intro d
  induction d with
  |zero =>
   intro i hd hi
   have e:i=(l.take n).length:=by omega
   rw [zJ,he _ i (by
    rw [List.length_take] at e
    rw [Bool.and_eq_false_iff]
    rcases Nat.le_total n l.length with h |h
    ·exact .inr (decide_eq_false (by omega))
    ·exact .inl (decide_eq_false (by omega))),e,List.take_length]
   rfl
  |succ d ih =>
   intro i hd hi
   have hlt:i<(l.take n).length:=by omega
   have h2:i<n∧i<l.length:=by rw [List.length_take] at hlt;omega
   have hx:l[i]?=some l[i]:=List.getElem?_eq_getElem h2.2
   rw [zJ,hb _ i l[i] hx h2.1 (by rw [List.length_map,List.length_take];omega),zaa (by omega)]
   have:=ih (i+1) (by omega) (by omega)
   rw [List.take_add_one,List.getElem?_take_of_lt h2.1,hx] at this
   simp only [Option.toList_some,List.map_append,List.map_cons,List.map_nil] at this
   exact this
 exact key _ 0 rfl (Nat.zero_le _)
theorem more{α:Type}{l:List α}{n i:Nat}{x:α}(h:l[i]?=some x)(hi:i<n):(decide ((i:Int)<(l.length:Int))&&decide ((i:Int)<(n:Int)))=true:=by
 rw [zfv h,decide_eq_true (by omega)];rfl
def zC4(f:zq):zq:=zq.mk (f.Name.take 10) (f.Type_.take 12) f.Static
def zCd(x:zw):zw:=zw.mk x.Op x.A (x.C.take 14) (x.M.take 12)
def zv5(n:Nat)(l:List (List UInt8)):List (List UInt8):=(l.take n).map (·.take 12)
def ztx(x:zU):zU:=zU.mk x.At (zv5 20 x.Locals) (zv5 20 x.Stack)
def zC5(x:zan):zan:=zan.mk x.From x.To x.At (x.C.take 10)
def zAf(m:zb):zb:=zb.mk (m.Name.take 10) (zv5 8 m.Params) (m.Ret.take 12) m.Static m.Abstract m.Locals m.Stack ((m.Code.take 104).map zCd) ((m.Maps.take 104).map ztx) ((m.Traps.take 8).map zC5)
def zyf(c:za):za:=za.mk (c.Name.take 10) (c.Super.take 10) c.Interface (zv5 6 c.Impl) ((c.Fields.take 10).map zC4) ((c.Methods.take 10).map zAf)
theorem zhI{l:List (List UInt8)}{n:Nat}(hn:n≤100):zc3 l (n:Int)=some (zv5 n l):=by
 unfold zc3
 rw [show zs (fun z=>zd6 l (n:Int) z.1 z.2) ([],0)=some (.inl (zv5 n l)) from zim (by omega) (fun acc i x hx hi ha=>by
  show zd6 l (n:Int) acc (i:Int)=_
  unfold zd6
  rw [more hx hi,zB,hx]
  simp only [Option.bind_some,cond_true]
  rw [show zbN x 12=_ from zek (n:=12),Option.bind_some,zcE (by simp;omega) (by simp;omega)];rfl) (fun acc i h=>by
  show zd6 l (n:Int) acc (i:Int)=_
  unfold zd6
  rw [h];rfl)]
 rfl
theorem zsK(x:zw):zmu x=some (zCd x):=by
 unfold zmu
 rw [show zbN x.C 14=_ from zek (n:=14),show zbN x.M 12=_ from zek (n:=12)];rfl
theorem zpl(m:zb):zgT m=some (zAf m):=by
 unfold zgT
 rw [show zbN m.Name 10=_ from zek (n:=10),show zbN m.Ret 12=_ from zek (n:=12),show zc3 m.Params 8=_ from zhI (n:=8) (by decide)]
 simp only [Option.bind_some]
 rw [show zs (fun z=>zdm m z.1 z.2) ([],0)=some (.inl ((m.Code.take 104).map zCd)) from zim (by decide) (fun acc i x hx hi ha=>by
  show zdm m acc (i:Int)=_
  unfold zdm
  rw [show (decide ((i:Int)<(m.Code.length:Int))&&decide ((i:Int)<104))=true from more hx hi,zB,hx]
  simp only [Option.bind_some,cond_true]
  rw [zsK,Option.bind_some,zcE (by simp;omega) (by simp;omega)];rfl) (fun acc i h=>by
  show zdm m acc (i:Int)=_
  unfold zdm
  rw [show (decide ((i:Int)<(m.Code.length:Int))&&decide ((i:Int)<104))=false from h];rfl)]
 simp only [Option.bind_some]
 show zfS m _ _ _ _=_
 unfold zfS
 rw [show zs (fun z=>zdn m z.1 z.2) ([],0)=some (.inl ((m.Maps.take 104).map ztx)) from zim (by decide) (fun acc i x hx hi ha=>by
  show zdn m acc (i:Int)=_
  unfold zdn
  rw [show (decide ((i:Int)<(m.Maps.length:Int))&&decide ((i:Int)<104))=true from more hx hi,zB,hx]
  simp only [Option.bind_some,cond_true]
  rw [show zc3 x.Locals 20=_ from zhI (n:=20) (by decide),show zc3 x.Stack 20=_ from zhI (n:=20) (by decide)]
  simp only [Option.bind_some]
  rw [zcE (by simp;omega) (by simp;omega)];rfl) (fun acc i h=>by
  show zdn m acc (i:Int)=_
  unfold zdn
  rw [show (decide ((i:Int)<(m.Maps.length:Int))&&decide ((i:Int)<104))=false from h];rfl)]
 simp only [Option.bind_some]
 show zfT m _ _ _ _ _=_
 unfold zfT
 rw [show zs (fun z=>zdo m z.1 z.2) ([],0)=some (.inl ((m.Traps.take 8).map zC5)) from zim (by decide) (fun acc i x hx hi ha=>by
  show zdo m acc (i:Int)=_
  unfold zdo
  rw [show (decide ((i:Int)<(m.Traps.length:Int))&&decide ((i:Int)<8))=true from more hx hi,zB,hx]
  simp only [Option.bind_some,cond_true]
  rw [show zbN x.C 10=_ from zek (n:=10),Option.bind_some,zcE (by simp;omega) (by simp;omega)];rfl) (fun acc i h=>by
  show zdo m acc (i:Int)=_
  unfold zdo
  rw [show (decide ((i:Int)<(m.Traps.length:Int))&&decide ((i:Int)<8))=false from h];rfl)]
 rfl
theorem zsM(c:za):zlc c=some ((zyf c).Name,(zyf c).Super,(zyf c).Impl,(zyf c).Fields,(zyf c).Methods):=by
 unfold zlc
 rw [show zbN c.Name 10=_ from zek (n:=10),show zbN c.Super 10=_ from zek (n:=10),show zc3 c.Impl 6=_ from zhI (n:=6) (by decide)]
 simp only [Option.bind_some]
 rw [show zs (fun z=>zfl c z.1 z.2) ([],0)=some (.inl ((c.Fields.take 10).map zC4)) from zim (by decide) (fun acc i x hx hi ha=>by
  show zfl c acc (i:Int)=_
  unfold zfl
  rw [show (decide ((i:Int)<(c.Fields.length:Int))&&decide ((i:Int)<10))=true from more hx hi,zB,hx]
  simp only [Option.bind_some,cond_true]
  rw [show zbN x.Name 10=_ from zek (n:=10),show zbN x.Type_ 12=_ from zek (n:=12)]
  simp only [Option.bind_some]
  rw [zcE (by simp;omega) (by simp;omega)];rfl) (fun acc i h=>by
  show zfl c acc (i:Int)=_
  unfold zfl
  rw [show (decide ((i:Int)<(c.Fields.length:Int))&&decide ((i:Int)<10))=false from h];rfl)]
 simp only [Option.bind_some]
 show zh4 c _ _ _ _=_
 unfold zh4
 rw [show zs (fun z=>zfm c z.1 z.2) ([],0)=some (.inl ((c.Methods.take 10).map zAf)) from zim (by decide) (fun acc i x hx hi ha=>by
  show zfm c acc (i:Int)=_
  unfold zfm
  rw [show (decide ((i:Int)<(c.Methods.length:Int))&&decide ((i:Int)<10))=true from more hx hi,zB,hx]
  simp only [Option.bind_some,cond_true]
  rw [zpl,Option.bind_some,zcE (by simp;omega) (by simp;omega)];rfl) (fun acc i h=>by
  show zfm c acc (i:Int)=_
  unfold zfm
  rw [show (decide ((i:Int)<(c.Methods.length:Int))&&decide ((i:Int)<10))=false from h];rfl)]
 rfl
theorem zrr{n:Int}(h:wI .i64 n):I64 n:=by
 have h:(Lit.int .i64 n).wf=true:=h
 unfold Lit.wf at h
 simp [IntKind.min,IntKind.max,IntKind.bits,IntKind.signed] at h
 exact ⟨by omega,by omega⟩
theorem FS.take(s:List UInt8){n:Nat}(hn:n≤100):FS (s.take n):=by unfold FS;rw [List.length_take];omega
theorem zp9{l:List (List UInt8)}{n:Nat}(hn:n≤100):FL FS (zv5 n l):=by
 refine ⟨by unfold zv5;rw [List.length_map,List.length_take];omega,fun x hx=>?_⟩
 obtain ⟨y,_,rfl⟩:=List.mem_map.1 hx
 exact FS.take y (by decide)
theorem zoo{α:Type}{Q:α→Prop}{l:List α}{f:α→α}{n:Nat}(hn:n≤200)(h:∀x∈l,Q (f x)):FL Q ((l.take n).map f):=by
 refine ⟨by rw [List.length_map,List.length_take];omega,fun x hx=>?_⟩
 obtain ⟨y,hy,rfl⟩:=List.mem_map.1 hx
 exact h y (List.mem_of_mem_take hy)
theorem zAg{m:zb}(h:zg5 m):zBh (zAf m):=by
 obtain ⟨_,_,_,_,_,h1,h2,h3,h4,h5⟩:=h
 exact ⟨FS.take _ (by decide),zp9 (by decide),FS.take _ (by decide),zrr h1,zrr h2,
  zoo (by decide) fun x hx=>⟨zrr (h3.2 x hx).1,zrr (h3.2 x hx).2.1,FS.take _ (by decide),FS.take _ (by decide)⟩,
  zoo (by decide) fun x hx=>⟨zrr (h4.2 x hx).1,zp9 (by decide),zp9 (by decide)⟩,
  zoo (by decide) fun x hx=>⟨zrr (h5.2 x hx).1,zrr (h5.2 x hx).2.1,zrr (h5.2 x hx).2.2.1,FS.take _ (by decide)⟩⟩
theorem zAe{c:za}(h:zbl c):zme (zyf c):=by
 obtain ⟨_,_,_,_,_,h1⟩:=h
 exact ⟨FS.take _ (by decide),FS.take _ (by decide),zp9 (by decide),zoo (by decide) fun x hx=>⟨FS.take _ (by decide),FS.take _ (by decide)⟩,zoo (by decide) fun x hx=>zAg (h1.2 x hx)⟩
def zBb(l:List za):List za:=(l.take 18).map zyf
theorem zh3(l:List za):zg9 l=some (zBb l):=by
 unfold zg9
 rw [show zs (fun z=>zfk l z.1 z.2) ([],0)=some (.inl (zBb l)) from zim (by decide) (fun acc i x hx hi ha=>by
  show zfk l acc (i:Int)=_
  unfold zfk
  rw [show (decide ((i:Int)<(l.length:Int))&&decide ((i:Int)<18))=true from more hx hi,zB,hx]
  simp only [Option.bind_some,cond_true]
  rw [zsM,Option.bind_some,zcE (by simp;omega) (by simp;omega)];rfl) (fun acc i h=>by
  show zfk l acc (i:Int)=_
  unfold zfk
  rw [show (decide ((i:Int)<(l.length:Int))&&decide ((i:Int)<18))=false from h];rfl)]
 rfl
structure zBk(c:za):Prop where
 fc:zme c
 name:c.Name.length≤10
 super:c.Super.length≤10
 impl:∀s∈c.Impl,s.length≤12
theorem zuH{c:za}(h:zbl c):zBk (zyf c):=by
 refine ⟨zAe h,?_,?_,fun s hs=>?_⟩
 ·show (c.Name.take 10).length≤10;rw [List.length_take];omega
 ·show (c.Super.take 10).length≤10;rw [List.length_take];omega
 ·obtain ⟨y,_,rfl⟩:=List.mem_map.1 (show s∈(c.Impl.take 6).map (·.take 12) from hs)
  rw [List.length_take];omega
theorem zpz{l:List za}(h:∀c∈l,zbl c):∀c∈zBb l,zBk c:=fun c hc=>by
 obtain ⟨d,hd,rfl⟩:=List.mem_map.1 hc
 exact zuH (h d (List.mem_of_mem_take hd))
theorem zx6{α R:Type}{body:Int→Option (Sum Int (Sum Unit R))}{l:List α}
  (hb:∀(i:Nat) x,l[i]?=some x→body (i:Int)=some (.inl ((i+1:Nat):Int)))
  (he:body (l.length:Int)=some (.inr (.inl ()))):zs body 0=some (.inl ()):=by
 have:=zex (body:=body) (l:=l) (g:=fun _=>none) (u:=()) (fun i x hx=>hb i x hx) he
 rw [this]
 have:l.findSome? (fun _=>(none:Option R))=none:=by
  induction l with
  |nil=>rfl
  |cons x l ih=>simp
 rw [this];rfl
section
variable {l L : List za} {m : List (Tx × Int)}
end
section
variable {l L : List za} {m : List (Tx × Int)}
theorem zBC:∀c∈giv,zme c:=by
 intro c hc
 have hg:giv.all (fun c=>decide (c.Name.length≤10)&&decide (c.Super.length≤10)&&(c.Impl == [])&&decide (c.Fields.length=0)&&decide (c.Methods.length=0))=true:=by decide +kernel
 have:=List.all_eq_true.1 hg c hc
 simp only [Bool.and_eq_true,decide_eq_true_eq,beq_iff_eq] at this
 obtain ⟨⟨⟨⟨h1,h2⟩,h3⟩,h4⟩,h5⟩:=this
 refine ⟨by unfold FS;omega,by unfold FS;omega,⟨by rw [h3];simp,fun s hs=>by rw [h3] at hs;cases hs⟩,⟨by omega,fun s hs=>?_⟩,⟨by omega,fun s hs=>?_⟩⟩
 ·rw [List.eq_nil_of_length_eq_zero h4] at hs;cases hs
 ·rw [List.eq_nil_of_length_eq_zero h5] at hs;cases hs
theorem zAF(h:zeD l L)(hs:∀c∈l,zme c):∀c∈L,zme c:=by
 intro c hc
 rw [h.app] at hc
 rcases List.mem_append.1 hc with e |e
 ·exact zBC c e
 ·exact hs c e
def zC:za:=za.mk [] [] false [] [] []
theorem ztu(hm:zcD L m)(n:Tx):zao L m n=some (match cl L n with |some c=>(c,true) |none=>(zC,false)):=by
 show cond (!(zaY L m n)) (some (zC,false)) ((zcA L m n).bind fun v4=>some (v4,true))=_
 unfold zaY
 rw [hm.has]
 cases hc:cl L n with
 |none=>rw [zlQ hc];rfl
 |some c=>rw [zgf hc,zpH hm (zgf hc),hc];rfl
end
section
variable {l L : List za} {m : List (Tx × Int)}
theorem Rc.trans{nx:Tx→List Tx}{a b c:Tx}(h:Rc nx a b)(k:Rc nx b c):Rc nx a c:=by
 induction h with
 |one h=>exact .more h k
 |more h _ ih=>exact .more h (ih k)
end

end
end Go.Proofs.YthmnlfenkhmmhaaGreat
