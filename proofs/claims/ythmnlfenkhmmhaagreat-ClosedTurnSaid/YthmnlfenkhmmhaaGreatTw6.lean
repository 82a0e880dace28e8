/- ClosedTurn: for every input the law returns true, and each argument reads as it read before. No further condition. Part 6 of 8. -/
import Derived.Test.YthmnlfenkhmmhaaGreatTw5
namespace Go.Proofs.YthmnlfenkhmmhaaGreat
noncomputable section
open List (length map)
open IntKind (i64)
open Go.Proofs.Tryz
set_option linter.unusedSimpArgs false
set_option linter.unusedVariables false
set_option linter.unusedSectionVars false
set_option maxRecDepth 100000
set_option maxHeartbeats 4000000
variable [Flo]
def II(a:XW):Option (XW):=
  (Zl a.C 12).bind λb=>(Zl a.M 12).bind λc=>some (XW.mk b c)
theorem zu9(a:XW){r:XW}(h:II a=some r):Xm prog 37 [.agg (Uj a)] (.agg (Uj r)):=by
 refine zi func37 y kz y y ?_;unfold II at h;refine rg y<|u<|bx 0 2 y y y y<|u<|al 1 ti y<|zo ?_;obtain ⟨b,d,h⟩:=bs h;obtain ⟨c,e,h⟩:=bs h;refine rdA [(2,.mpt 0 0 0)] [some (2,[[sA b,sA c]])] [7] [6,5,4,3,2,1,0] [(9,.agg [sA b,sA c]),(8,sA c),(7,sA a.M),(6,.mpt 0 0 1),(5,sA b),(4,sA a.C),(3,.mpt 0 0 0)] 1 (X5 ⟨(pb y (bd ti y y y w)),(pb y (pc (ZY a.M 12 e) y y y w)),pe,pe,(pb y (pc (ZY a.C 12 d) y y y w)),pe,pe,t⟩ ⟨(λ_ _=>⟨_,y,y,sto ti y y y<|⟨.any,[],[],y,y,kz,t,Hp (zl [1])⟩⟩),t⟩) ?_;refine zy ?_;cases h;exact ⟨_,y,Xb []⟩
def zE(d:(List za))(e:XW)(a:T0):Option (Bool):=
  (Gh d).bind λb=>(Ou b (XW.mk e.C a)).bind λc=>some c
def zhK(v:List za)(x:XW)(m:Int)(f:Int)(n:Int)(B:T0):Option (Bool):=
  (zl5).bind λC=>cond (!C) (some false) ((Gh v).bind λb=>(II x).bind λa=>(Zl B 10).bind λl=>cond ((((length b:Int) == 0)||(decide (m<0)))||(decide (f<0))) (some true) ((Z7 m (length b:Int)).bind λo=>(idx b o).bind λd=>cond (decide (0<(length d.Methods:Int))) ((Z7 f (length d.Methods:Int)).bind λi=>(idx d.Methods i).bind λc=>(Z7 n 9).bind λj=>(Z7 (i64.wrap (j+9)) 9).bind λe=>cond (e == 0) (zE b a a.M) (cond (e == 1) (zE b a a.M) (cond (e == 2) (cond (decide (0<(length d.Fields:Int))) ((Z7 f (length d.Fields:Int)).bind λp=>(idx d.Fields p).bind λD=>zE b a a.M) (zE b a a.M)) (cond (e == 3) (zE b a a.M) (cond (e == 4) (cond (decide (0<(length c.Code:Int))) ((Z7 f (length c.Code:Int)).bind λq=>(idx c.Code q).bind λE=>zE b a a.M) (zE b a a.M)) (cond (e == 5) (cond (decide (0<(length c.Code:Int))) ((Z7 f (length c.Code:Int)).bind λs=>(idx c.Code s).bind λF=>zE b a a.M) (zE b a a.M)) (cond (e == 6) (cond (decide (0<(length c.Traps:Int))) ((idx c.Traps 0).bind λG=>zE b a a.M) (zE b a a.M)) (cond (e == 7) (zE b a a.M) (zE b a l))))))))) ((Z7 n 9).bind λi=>(Z7 (i64.wrap (i+9)) 9).bind λc=>cond (c == 0) (zE b a a.M) (cond (c == 1) (zE b a a.M) (cond (c == 2) (cond (decide (0<(length d.Fields:Int))) ((Z7 f (length d.Fields:Int)).bind λj=>(idx d.Fields j).bind λe=>zE b a a.M) (zE b a a.M)) (cond (c == 3) (zE b a a.M) (cond (c == 4) (zE b a a.M) (cond (c == 5) (zE b a a.M) (cond (c == 6) (zE b a a.M) (cond (c == 7) (zE b a a.M) (zE b a l)))))))))))
theorem zoR(Z:List za)(v2:XW)(v3:Int)(H:Int)(v5:Int)(v6:T0)(h:zhK Z v2 v3 H v5 v6=some true)(hW1:∀f,Gh Z=some f->wL Ui f)(hW2:∀f,Gh Z=some f->∀c∈f,c.Impl.length≤1000000)(hsC:∀n,Zl v6 10=some n->wS n)
    (hall:∀cs e,wL Ui cs->∃x,Gh cs=some x/\Ou x e=some true):E9 prog 7 [cL Z,.agg (Uj v2),iA v3,iA H,iA v5,sA v6]:=by
 refine zCd func7 y y λwS G=>?_;unfold zhK at h;refine XN (Xy (rl y<|u<|bx 0 2 y y y y<|u<|asg y<|zo ?_));obtain ⟨v7,q1,h⟩:=bs h;refine XN (Xy (rl y<|u<|pc (zot q1) y y y<|u<|asg y<|zo ?_));refine XN ?_;refine XN (Xy (rl y<|u<|mv y<|u<|nt y<|zo ?_));refine Zf y (λhc2=>?_) (λhc2=>?_)
 ·
  replace h:=bT hc2 h;cases sm h
 ·
  replace h:=bF hc2 h;refine Xy (zd ?_);obtain ⟨f,q3,h⟩:=bs h;obtain ⟨i,q4,h⟩:=bs h;obtain ⟨n,q5,h⟩:=bs h;have hW8:=hW1 f q3;have hs10:=hsC n q5;refine XN (Xy (XA [(0,.fr (cL f)),(2,iA v3),(3,iA H),(4,iA v5),(5,sA n),(7,.mpt 0 0 0)] [some (2,[(Uj i)])] [7] [6,5,4,3,2,1,0] [(0,.fr (cL f)),(24,sA n),(23,sA v6),(22,.agg (Uj i)),(21,.agg (Uj v2)),(20,.fr (cL f)),(19,cL Z)] 1 (X5 ⟨pe,(pb y (pc (ZY v6 10 q5) y y y w)),pe,(pb y (pc (zu9 v2 q4) y y y w)),pe,(pb y (pc (zvb Z q3) y y y w)),pe,t⟩ ⟨(λ_ _=>⟨_,y,y,sto ti y y y<|⟨.any,[8],[(5,sA n)],y,y,kz,t,ZC ⟨pe,pe,(pb y (pc (ZY v6 10 q5) y y y w)),pe,pe,pe,pe,pe,t⟩ (zl [0])⟩⟩),t⟩) ?_));refine zCr (d:=0) (av:=cL f) (env0:=[(2,iA v3),(3,iA H),(4,iA v5),(5,sA n),(7,.mpt 0 0 0)]) y (UR ⟨y,y,y,y,y,t⟩) y y ?_;refine XN ?_;refine XN (Xy (rl y<|u<|mv y<|u<|lnI ti y y<|u<|eql ti y y<|u<|mv y<|ZK (j:=3) 2 y y y y y gpn (λhb6=>g y hb6<|mv y<|g y hb6<|lss ti y y<|zo (egO [29,30] 2 hb6 y y y y)) orT<|u<|mv y<|ZK (j:=7) 2 y y y y y gpn (λhb7=>g y hb7<|mv y<|g y hb7<|lss ti y y<|zo (egO [33,34] 2 hb7 y y y y)) orT<|zo ?_));refine Zf y (λhc8=>?_) (λhc8=>?_)
  ·
   replace h:=bT hc8 h;exact Xy (rg y<|u<|asg y<|zo<|zy y)
  ·
   replace h:=bF hc8 h;refine Xy (zd ?_);obtain ⟨l,q9,h⟩:=bs h;obtain ⟨a,m,h⟩:=bs h;refine XN (Xy (rl y<|u<|mv y<|u<|mv y<|u<|mv y<|u<|lnI ti y y<|u<|rem ti y y q9<|u<|ixI ti y ti y y y m<|u<|asg y<|zo ?_));refine XN (Xy (rl y<|u<|asg y<|zo ?_));refine XN ?_;refine XN (Xy (rl y<|u<|mv y<|u<|nc y y<|u<|fa ti y y y<|u<|ldI ti y (zz m).2.2 y<|u<|lnI ti y y<|u<|gtr ti y y<|zo ?_));refine Zf y (λJ=>?_) (λJ=>?_)
   ·
    replace h:=bT J h;obtain ⟨o,q12,h⟩:=bs h;obtain ⟨p,q,h⟩:=bs h;refine Xy (XA [(0,cL f),(3,iA H),(4,iA v5),(5,sA n),(7,.mpt 0 0 0),(14,.ipt 6 (map zf f) (Int.toNat l) 0),(15,.ipt 10 (map zc a.Methods) (Int.toNat o) 0)] [some (2,[(Uj i)])] [] [12,11,10,9,8,7,6,5,4,3,2,1,0] [(15,.ipt 10 (map zc a.Methods) (Int.toNat o) 0),(59,.ipt 10 (map zc a.Methods) (Int.toNat o) 0),(58,iA o),(57,iA (length a.Methods:Int)),(56,.isl 10 (map zc a.Methods)),(55,.ipt 6 (map zf f) (Int.toNat l) 5),(54,.ipt 6 (map zf f) (Int.toNat l) 0),(53,.ipt 6 (map zf f) (Int.toNat l) 0),(52,iA H),(51,.isl 10 (map zc a.Methods)),(50,.ipt 6 (map zf f) (Int.toNat l) 5),(49,.ipt 6 (map zf f) (Int.toNat l) 0),(48,.ipt 6 (map zf f) (Int.toNat l) 0)] 0 (ZC ⟨pe,(pb y (ixI ti y ti y y y q w)),(pb y (rem ti y y q12 w)),(pb y (lnI ti y y w)),(pb y (ldI ti y (zz m).2.2 y w)),pe,pe,pe,pe,(pb y (ldI ti y (zz m).2.2 y w)),pe,pe,pe,t⟩ (zl [0])) ?_);refine zAi (λenv st=>∃(cs:List za) (z:T0),wL Ui cs/\Can 0 [(0,cL cs),(7,.mpt 0 0 0)] [some (2,[[sA i.C,sA z]])] env st) ?_ ?_
    ·
     obtain ⟨I,q14,h⟩:=bs h;obtain ⟨v16,q15,h⟩:=bs h;refine XN (Xy (rl y<|u<|mv y<|u<|rem ti y y q14<|u<|add ti y y<|u<|rem ti y y q15<|zo ?_));refine zxt ?_;refine XN (Xy (rl y<|u<|eql ti y y<|u<|asg y<|zo ?_));refine Zf y (λv=>?_) (λv=>?_)
     ·
      replace h:=bT v h;refine Dp y (G0 (l1:=[_,_,_,_]) (l2:=[_]) (u<|mv y<|u<|mv y<|u<|nc y y<|u<|fa ti y y y<|zo ?_));exact G1 y (Gi (env0:=[(7,.mpt 0 0 0)]) (tl:=0) ti y (K9 (zz m).2.2) y y y y y (K1 y (.str hs10)) y y hW8 (UR ⟨y,t⟩) y λcs hcs=>Dy ⟨cs,i.M,hcs,zl [0]⟩)
     ·
      replace h:=bF v h;refine XN (Xy (rl y<|u<|eql ti y y<|u<|asg y<|zo ?_));refine Zf y (λB=>?_) (λB=>?_)
      ·
       replace h:=bT B h;refine Dp y (G0 (l1:=[_,_,_,_,_,_,_]) (l2:=[_,_,_,_]) (u<|mv y<|u<|mv y<|u<|nc y y<|u<|fa ti y y y<|u<|ldI ti y (zz m).2.2 y<|u<|mv y<|u<|bl 1 ti y ti y (by decide) (by decide) y y y<|zo ?_));have hI:=hW2 f q3 a (Qc (zz m).2.2);refine G1 y (zDL (b:=1) (t0:=0) (t3:=74) (s:=n) (env0:=[(7,.mpt 0 0 0)]) (k) ti y ti y (by show (a.Impl.length+1)*16≤_;omega) (by omega) y y y (hW8.2 a (Qc (zz m).2.2)).2.2.2.1 hs10 y y (reL IQ hW8) y (reP IQ hW8) (UR ⟨y,t⟩) y λxs' y3 y0 g1 g2 g3=>?_);obtain ⟨c3,rfl,l3,w3⟩:=g2;obtain ⟨c0,rfl,_,w0⟩:=g3;have hcc:c3[Int.toNat l]?=some (c3[Int.toNat l]'(by rw [l3];exact (zz m).2.1)):=Qe _;refine G0 (l1:=[_,_]) (l2:=[_]) (u<|nc y y<|u<|fa ti y y y<|zo ?_);exact G1 y (Gi (env0:=[(7,.mpt 0 0 0)]) (tl:=0) ti y (K9 hcc) y y y y y (K1 y (.impl g1)) y y w0 (UR ⟨y,t⟩) y λcs hcs=>Dy ⟨cs,i.M,hcs,zl [0]⟩)
      ·
       replace h:=bF B h;refine XN (Xy (rl y<|u<|eql ti y y<|u<|asg y<|zo ?_));refine Zf y (λK=>?_) (λK=>?_)
       ·
        replace h:=bT K h;refine XN (Xy (rl y<|u<|mv y<|u<|nc y y<|u<|fa ti y y y<|u<|ldI ti y (zz m).2.2 y<|u<|lnI ti y y<|u<|gtr ti y y<|zo ?_));refine Zf y (λL=>?_) (λL=>?_)
        ·
         replace h:=bT L h;obtain ⟨W,q20,h⟩:=bs h;obtain ⟨v18,q21,h⟩:=bs h;refine zxu [_,_,_,_,_,_,_,_,_,_,_,_,_,_] _ [(0,cL f),(7,.mpt 0 0 0),(103,sA n),(105,.ipt 3 (map zv a.Fields) (Int.toNat W) 1)] [some (2,[(Uj i)])] [] [13,12,11,10,9,8,7,6,5,4,3,2,1,0] [(105,.ipt 3 (map zv a.Fields) (Int.toNat W) 1),(104,.ipt 3 (map zv a.Fields) (Int.toNat W) 0),(103,sA n),(102,iA W),(101,iA (length a.Fields:Int)),(100,.isl 3 (map zv a.Fields)),(99,.ipt 6 (map zf f) (Int.toNat l) 4),(98,.ipt 6 (map zf f) (Int.toNat l) 0),(97,.ipt 6 (map zf f) (Int.toNat l) 0),(96,iA H),(95,.isl 3 (map zv a.Fields)),(94,.ipt 6 (map zf f) (Int.toNat l) 4),(93,.ipt 6 (map zf f) (Int.toNat l) 0),(92,.ipt 6 (map zf f) (Int.toNat l) 0)] 0 y kz kz y y kz kz y kz (ZC ⟨pe,(pb y (ixI ti y ti y y y q21 w)),pe,(pb y (rem ti y y q20 w)),(pb y (lnI ti y y w)),(pb y (ldI ti y (zz m).2.2 y w)),pe,pe,pe,pe,(pb y (ldI ti y (zz m).2.2 y w)),pe,pe,pe,t⟩ (zl [0])) ?_;exact Gi (env0:=[(7,.mpt 0 0 0)]) (tl:=0) ti y (K9 (zz q21).2.2) y y y y y (K1 y (.str hs10)) y y hW8 (UR ⟨y,t⟩) y λcs hcs=>⟨cs,i.M,hcs,zl [0]⟩
        ·
         replace h:=bF L h;exact Xy (zd ⟨f,i.M,hW8,zl [0]⟩)
       ·
        replace h:=bF K h;refine XN (Xy (rl y<|u<|eql ti y y<|u<|asg y<|zo ?_));refine Zf y (λD=>?_) (λD=>?_)
        ·
         replace h:=bT D h;refine XN (Xy (rl y<|u<|mv y<|u<|nep ti y y y y y y<|zo ?_));refine Zf y (λ_=>?_) (λhx=>by cases hx);refine Dp y (G0 (l1:=[_,_,_,_]) (l2:=[_]) (u<|mv y<|u<|mv y<|u<|nc y y<|u<|fa ti y y y<|zo ?_));exact G1 y (Gi (env0:=[(7,.mpt 0 0 0)]) (tl:=0) ti y (K9 (zz q).2.2) y y y y y (K1 y (.str hs10)) y y hW8 (UR ⟨y,t⟩) y λcs hcs=>Dy ⟨cs,i.M,hcs,zl [0]⟩)
        ·
         replace h:=bF D h;refine XN (Xy (rl y<|u<|eql ti y y<|u<|asg y<|zo ?_));refine Zf y (λE=>?_) (λE=>?_)
         ·
          replace h:=bT E h;refine XN (Xy (rl y<|u<|mv y<|u<|nep ti y y y y y y<|u<|mv y<|g y y<|mv y<|g y y<|nc y y<|g y y<|fa ti y y y<|g y y<|ldI ti y (zz q).2.2 y<|g y y<|lnI ti y y<|g y y<|gtr ti y y<|u<|pk (b:=true) y y<|zo ?_));refine Zf y (λF=>?_) (λF=>?_)
          ·
           replace h:=bT F h;obtain ⟨X,q25,h⟩:=bs h;obtain ⟨v20,q26,h⟩:=bs h;refine zxu [_,_,_,_,_,_,_,_,_,_,_,_,_,_] _ [(0,cL f),(7,.mpt 0 0 0),(137,sA n),(139,.ipt 4 (map zn p.Code) (Int.toNat X) 2)] [some (2,[(Uj i)])] [] [13,12,11,10,9,8,7,6,5,4,3,2,1,0] [(139,.ipt 4 (map zn p.Code) (Int.toNat X) 2),(138,.ipt 4 (map zn p.Code) (Int.toNat X) 0),(137,sA n),(136,iA X),(135,iA (length p.Code:Int)),(134,.isl 4 (map zn p.Code)),(133,.ipt 10 (map zc a.Methods) (Int.toNat o) 7),(132,.ipt 10 (map zc a.Methods) (Int.toNat o) 0),(131,.ipt 10 (map zc a.Methods) (Int.toNat o) 0),(130,iA H),(129,.isl 4 (map zn p.Code)),(128,.ipt 10 (map zc a.Methods) (Int.toNat o) 7),(127,.ipt 10 (map zc a.Methods) (Int.toNat o) 0),(126,.ipt 10 (map zc a.Methods) (Int.toNat o) 0)] 0 y kz kz y y kz kz y kz (ZC ⟨pe,(pb y (ixI ti y ti y y y q26 w)),pe,(pb y (rem ti y y q25 w)),(pb y (lnI ti y y w)),(pb y (ldI ti y (zz q).2.2 y w)),pe,pe,pe,pe,(pb y (ldI ti y (zz q).2.2 y w)),pe,pe,pe,t⟩ (zl [0])) ?_;exact Gi (env0:=[(7,.mpt 0 0 0)]) (tl:=0) ti y (K9 (zz q26).2.2) y y y y y (K1 y (.str hs10)) y y hW8 (UR ⟨y,t⟩) y λcs hcs=>⟨cs,i.M,hcs,zl [0]⟩
          ·
           replace h:=bF F h;exact Xy (zd ⟨f,i.M,hW8,zl [0]⟩)
         ·
          replace h:=bF E h;refine XN (Xy (rl y<|u<|eql ti y y<|u<|asg y<|zo ?_));refine Zf y (λN=>?_) (λN=>?_)
          ·
           replace h:=bT N h;refine XN (Xy (rl y<|u<|mv y<|u<|nep ti y y y y y y<|u<|mv y<|g y y<|mv y<|g y y<|nc y y<|g y y<|fa ti y y y<|g y y<|ldI ti y (zz q).2.2 y<|g y y<|lnI ti y y<|g y y<|gtr ti y y<|u<|pk (b:=true) y y<|zo ?_));refine Zf y (λO=>?_) (λO=>?_)
           ·
            replace h:=bT O h;obtain ⟨Y,q29,h⟩:=bs h;obtain ⟨v22,q30,h⟩:=bs h;refine zxu [_,_,_,_,_,_,_,_,_,_,_,_,_,_] _ [(0,cL f),(7,.mpt 0 0 0),(163,sA n),(165,.ipt 4 (map zn p.Code) (Int.toNat Y) 3)] [some (2,[(Uj i)])] [] [13,12,11,10,9,8,7,6,5,4,3,2,1,0] [(165,.ipt 4 (map zn p.Code) (Int.toNat Y) 3),(164,.ipt 4 (map zn p.Code) (Int.toNat Y) 0),(163,sA n),(162,iA Y),(161,iA (length p.Code:Int)),(160,.isl 4 (map zn p.Code)),(159,.ipt 10 (map zc a.Methods) (Int.toNat o) 7),(158,.ipt 10 (map zc a.Methods) (Int.toNat o) 0),(157,.ipt 10 (map zc a.Methods) (Int.toNat o) 0),(156,iA H),(155,.isl 4 (map zn p.Code)),(154,.ipt 10 (map zc a.Methods) (Int.toNat o) 7),(153,.ipt 10 (map zc a.Methods) (Int.toNat o) 0),(152,.ipt 10 (map zc a.Methods) (Int.toNat o) 0)] 0 y kz kz y y kz kz y kz (ZC ⟨pe,(pb y (ixI ti y ti y y y q30 w)),pe,(pb y (rem ti y y q29 w)),(pb y (lnI ti y y w)),(pb y (ldI ti y (zz q).2.2 y w)),pe,pe,pe,pe,(pb y (ldI ti y (zz q).2.2 y w)),pe,pe,pe,t⟩ (zl [0])) ?_;exact Gi (env0:=[(7,.mpt 0 0 0)]) (tl:=0) ti y (K9 (zz q30).2.2) y y y y y (K1 y (.str hs10)) y y hW8 (UR ⟨y,t⟩) y λcs hcs=>⟨cs,i.M,hcs,zl [0]⟩
           ·
            replace h:=bF O h;exact Xy (zd ⟨f,i.M,hW8,zl [0]⟩)
          ·
           replace h:=bF N h;refine XN (Xy (rl y<|u<|eql ti y y<|u<|asg y<|zo ?_));refine Zf y (λP=>?_) (λP=>?_)
           ·
            replace h:=bT P h;refine XN (Xy (rl y<|u<|mv y<|u<|nep ti y y y y y y<|u<|mv y<|g y y<|mv y<|g y y<|nc y y<|g y y<|fa ti y y y<|g y y<|ldI ti y (zz q).2.2 y<|g y y<|lnI ti y y<|g y y<|gtr ti y y<|u<|pk (b:=true) y y<|zo ?_));refine Zf y (λQ=>?_) (λQ=>?_)
            ·
             replace h:=bT Q h;obtain ⟨v23,q33,h⟩:=bs h;refine Dp y (G0 (l1:=[_,_,_,_,_,_,_]) (l2:=[_]) (u<|mv y<|u<|nc y y<|u<|fa ti y y y<|u<|ldI ti y (zz q).2.2 y<|u<|mv y<|u<|ixI ti y ti y y y q33<|u<|fa ti y y y<|zo ?_));exact G1 y (Gi (env0:=[(7,.mpt 0 0 0)]) (tl:=0) ti y (K9 (zz q33).2.2) y y y y y (K1 y (.str hs10)) y y hW8 (UR ⟨y,t⟩) y λcs hcs=>Dy ⟨cs,i.M,hcs,zl [0]⟩)
            ·
             replace h:=bF Q h;exact Xy (zd ⟨f,i.M,hW8,zl [0]⟩)
           ·
            replace h:=bF P h;refine XN (Xy (rl y<|u<|eql ti y y<|u<|asg y<|zo ?_));refine Zf y (λR=>?_) (λR=>?_)
            ·
             replace h:=bT R h;refine Dp y (G0 (l1:=[_,_,_,_]) (l2:=[_]) (u<|mv y<|u<|mv y<|u<|nc y y<|u<|fa ti y y y<|zo ?_));exact G1 y (Gi (env0:=[(7,.mpt 0 0 0)]) (tl:=0) ti y (K9 (zz m).2.2) y y y y y (K1 y (.str hs10)) y y hW8 (UR ⟨y,t⟩) y λcs hcs=>Dy ⟨cs,i.M,hcs,zl [0]⟩)
            ·
             replace h:=bF R h;exact Xy (rl y<|u<|mv y<|u<|fa ti y y y<|u<|sto ti y y y<|zo ⟨f,n,hW8,zl [0]⟩)
    ·
     rintro env st ⟨cs,z,hcs,hc⟩;obtain ⟨x,q1_,q2_⟩:=hall cs (XW.mk i.C z) hcs;refine zDM hc (Xy ?_);exact rdA [(12,bA true)] [] [] [4,3,2,1,0] [(12,bA true),(194,bA true),(193,.agg [sA i.C,sA z]),(192,cL x),(191,cL cs)] 0 (ZC ⟨pe,(pb y (pc (zl6 x (XW.mk i.C z) q2_) y y y w)),pe,(pb y (pc (zqK cs q1_) y y y w)),pe,t⟩ (zl [])) (zy y)
   ·
    replace h:=bF J h;refine Xy (zd ?_);refine zAi (λenv st=>∃(cs:List za) (z:T0),wL Ui cs/\Can 0 [(0,cL cs),(7,.mpt 0 0 0)] [some (2,[[sA i.C,sA z]])] env st) ?_ ?_
    ·
     obtain ⟨o,q12,h⟩:=bs h;obtain ⟨p,q,h⟩:=bs h;refine XN (Xy (rl y<|u<|mv y<|u<|rem ti y y q12<|u<|add ti y y<|u<|rem ti y y q<|zo ?_));refine zxt ?_;refine XN (Xy (rl y<|u<|eql ti y y<|u<|asg y<|zo ?_));refine Zf y (λS=>?_) (λS=>?_)
     ·
      replace h:=bT S h;refine Dp y (G0 (l1:=[_,_,_,_]) (l2:=[_]) (u<|mv y<|u<|mv y<|u<|nc y y<|u<|fa ti y y y<|zo ?_));exact G1 y (Gi (env0:=[(7,.mpt 0 0 0)]) (tl:=0) ti y (K9 (zz m).2.2) y y y y y (K1 y (.str hs10)) y y hW8 (UR ⟨y,t⟩) y λcs hcs=>Dy ⟨cs,i.M,hcs,zl [0]⟩)
     ·
      replace h:=bF S h;refine XN (Xy (rl y<|u<|eql ti y y<|u<|asg y<|zo ?_));refine Zf y (λT=>?_) (λT=>?_)
      ·
       replace h:=bT T h;refine Dp y (G0 (l1:=[_,_,_,_,_,_,_]) (l2:=[_,_,_,_]) (u<|mv y<|u<|mv y<|u<|nc y y<|u<|fa ti y y y<|u<|ldI ti y (zz m).2.2 y<|u<|mv y<|u<|bl 1 ti y ti y (by decide) (by decide) y y y<|zo ?_));have hI:=hW2 f q3 a (Qc (zz m).2.2);refine G1 y (zDL (b:=1) (t0:=0) (t3:=74) (s:=n) (env0:=[(7,.mpt 0 0 0)]) (k) ti y ti y (by show (a.Impl.length+1)*16≤_;omega) (by omega) y y y (hW8.2 a (Qc (zz m).2.2)).2.2.2.1 hs10 y y (reL IQ hW8) y (reP IQ hW8) (UR ⟨y,t⟩) y λxs' y3 y0 g1 g2 g3=>?_);obtain ⟨c3,rfl,l3,w3⟩:=g2;obtain ⟨c0,rfl,_,w0⟩:=g3;have hcc:c3[Int.toNat l]?=some (c3[Int.toNat l]'(by rw [l3];exact (zz m).2.1)):=Qe _;refine G0 (l1:=[_,_]) (l2:=[_]) (u<|nc y y<|u<|fa ti y y y<|zo ?_);exact G1 y (Gi (env0:=[(7,.mpt 0 0 0)]) (tl:=0) ti y (K9 hcc) y y y y y (K1 y (.impl g1)) y y w0 (UR ⟨y,t⟩) y λcs hcs=>Dy ⟨cs,i.M,hcs,zl [0]⟩)
      ·
       replace h:=bF T h;refine XN (Xy (rl y<|u<|eql ti y y<|u<|asg y<|zo ?_));refine Zf y (λv=>?_) (λv=>?_)
       ·
        replace h:=bT v h;refine XN (Xy (rl y<|u<|mv y<|u<|nc y y<|u<|fa ti y y y<|u<|ldI ti y (zz m).2.2 y<|u<|lnI ti y y<|u<|gtr ti y y<|zo ?_));refine Zf y (λB=>?_) (λB=>?_)
        ·
         replace h:=bT B h;obtain ⟨I,q18,h⟩:=bs h;obtain ⟨v16,q19,h⟩:=bs h;refine zxu [_,_,_,_,_,_,_,_,_,_,_,_,_,_] _ [(0,cL f),(7,.mpt 0 0 0),(103,sA n),(105,.ipt 3 (map zv a.Fields) (Int.toNat I) 1)] [some (2,[(Uj i)])] [] [13,12,11,10,9,8,7,6,5,4,3,2,1,0] [(105,.ipt 3 (map zv a.Fields) (Int.toNat I) 1),(104,.ipt 3 (map zv a.Fields) (Int.toNat I) 0),(103,sA n),(102,iA I),(101,iA (length a.Fields:Int)),(100,.isl 3 (map zv a.Fields)),(99,.ipt 6 (map zf f) (Int.toNat l) 4),(98,.ipt 6 (map zf f) (Int.toNat l) 0),(97,.ipt 6 (map zf f) (Int.toNat l) 0),(96,iA H),(95,.isl 3 (map zv a.Fields)),(94,.ipt 6 (map zf f) (Int.toNat l) 4),(93,.ipt 6 (map zf f) (Int.toNat l) 0),(92,.ipt 6 (map zf f) (Int.toNat l) 0)] 0 y kz kz y y kz kz y kz (ZC ⟨pe,(pb y (ixI ti y ti y y y q19 w)),pe,(pb y (rem ti y y q18 w)),(pb y (lnI ti y y w)),(pb y (ldI ti y (zz m).2.2 y w)),pe,pe,pe,pe,(pb y (ldI ti y (zz m).2.2 y w)),pe,pe,pe,t⟩ (zl [0])) ?_;exact Gi (env0:=[(7,.mpt 0 0 0)]) (tl:=0) ti y (K9 (zz q19).2.2) y y y y y (K1 y (.str hs10)) y y hW8 (UR ⟨y,t⟩) y λcs hcs=>⟨cs,i.M,hcs,zl [0]⟩
        ·
         replace h:=bF B h;exact Xy (zd ⟨f,i.M,hW8,zl [0]⟩)
       ·
        replace h:=bF v h;refine XN (Xy (rl y<|u<|eql ti y y<|u<|asg y<|zo ?_));refine Zf y (λU=>?_) (λU=>?_)
        ·
         replace h:=bT U h;refine XN (Xy (rl y<|u<|mv y<|u<|nep ti y y y y y y<|zo ?_));refine Zf y (λhx=>by cases hx) (λ_=>?_);exact Xy (zd ⟨f,i.M,hW8,zl [0]⟩)
        ·
         replace h:=bF U h;refine XN (Xy (rl y<|u<|eql ti y y<|u<|asg y<|zo ?_));refine Zf y (λV=>?_) (λV=>?_)
         ·
          replace h:=bT V h;refine XN (Xy (rl y<|u<|mv y<|u<|nep ti y y y y y y<|u<|mv y<|skF y<|skF y<|skF y<|skF y<|skF y<|skF y<|u<|pk (b:=false) y y<|zo ?_));refine Zf y (λhx=>by cases hx) (λ_=>?_);exact Xy (zd ⟨f,i.M,hW8,zl [0]⟩)
         ·
          replace h:=bF V h;refine XN (Xy (rl y<|u<|eql ti y y<|u<|asg y<|zo ?_));refine Zf y (λD=>?_) (λD=>?_)
          ·
           replace h:=bT D h;refine XN (Xy (rl y<|u<|mv y<|u<|nep ti y y y y y y<|u<|mv y<|skF y<|skF y<|skF y<|skF y<|skF y<|skF y<|u<|pk (b:=false) y y<|zo ?_));refine Zf y (λhx=>by cases hx) (λ_=>?_);exact Xy (zd ⟨f,i.M,hW8,zl [0]⟩)
          ·
           replace h:=bF D h;refine XN (Xy (rl y<|u<|eql ti y y<|u<|asg y<|zo ?_));refine Zf y (λE=>?_) (λE=>?_)
           ·
            replace h:=bT E h;refine XN (Xy (rl y<|u<|mv y<|u<|nep ti y y y y y y<|u<|mv y<|skF y<|skF y<|skF y<|skF y<|skF y<|skF y<|u<|pk (b:=false) y y<|zo ?_));refine Zf y (λhx=>by cases hx) (λ_=>?_);exact Xy (zd ⟨f,i.M,hW8,zl [0]⟩)
           ·
            replace h:=bF E h;refine XN (Xy (rl y<|u<|eql ti y y<|u<|asg y<|zo ?_));refine Zf y (λF=>?_) (λF=>?_)
            ·
             replace h:=bT F h;refine Dp y (G0 (l1:=[_,_,_,_]) (l2:=[_]) (u<|mv y<|u<|mv y<|u<|nc y y<|u<|fa ti y y y<|zo ?_));exact G1 y (Gi (env0:=[(7,.mpt 0 0 0)]) (tl:=0) ti y (K9 (zz m).2.2) y y y y y (K1 y (.str hs10)) y y hW8 (UR ⟨y,t⟩) y λcs hcs=>Dy ⟨cs,i.M,hcs,zl [0]⟩)
            ·
             replace h:=bF F h;exact Xy (rl y<|u<|mv y<|u<|fa ti y y y<|u<|sto ti y y y<|zo ⟨f,n,hW8,zl [0]⟩)
    ·
     rintro env st ⟨cs,z,hcs,hc⟩;obtain ⟨x,q1_,q2_⟩:=hall cs (XW.mk i.C z) hcs;refine zDM hc (Xy ?_);exact rdA [(12,bA true)] [] [] [4,3,2,1,0] [(12,bA true),(194,bA true),(193,.agg [sA i.C,sA z]),(192,cL x),(191,cL cs)] 0 (ZC ⟨pe,(pb y (pc (zl6 x (XW.mk i.C z) q2_) y y y w)),pe,(pb y (pc (zqK cs q1_) y y y w)),pe,t⟩ (zl [])) (zy y)
theorem zt{α:Type}(l:List α)(i:Nat):idx l (i:Int)=l[i]?:=by
 unfold idx;rw [if_pos (by omega),JF]
theorem HM{α:Type}(l:List α):idx l 0=l[0]?:=zt l 0
theorem ZZ{n:Int}(h1:-9223372036854775808≤n)(h2:n≤9223372036854775807):i64.wrap n=n:=IntWalk.i64_in n ⟨h1,h2⟩
theorem zP{i:Nat}(h:i<9223372036854775807):i64.wrap ((i:Int)+1)=((i+1:Nat):Int):=by
 rw [ZZ (by omega) (by omega)];omega
theorem zuV{α:Type}{l:List α}{a b:Int}(h0:0≤a)(h1:a≤b)(h2:b≤l.length):XJ l a b=some ((l.drop a.toNat).take (b.toNat-a.toNat)):=by
 unfold XJ;rw [if_pos ⟨h0,h1,h2⟩]
theorem Ob{α:Type}{l:List α}{b:Nat}(h:b≤l.length):XJ l 0 (b:Int)=some (l.take b):=by
 rw [zuV (by omega) (by omega) (by omega)];simp
theorem Hd{α:Type}{l:List α}{a:Nat}(h:a≤l.length):XJ l (a:Int) (l.length:Int)=some (l.drop a):=by
 rw [zuV (by omega) (by omega) (by omega)];simp only [JF];rw [JB (by simp)]
theorem Zk{α:Type}{w:Nat}{l x:List α}(h:(l.length+x.length)*w≤140737488355328)(h2:l.length+x.length≤9223372036854775807):Xx w l x=some (l++x):=by
 unfold Xx;rw [if_pos ⟨h,h2⟩]
theorem zzQ{l x:List UInt8}(h:l.length+x.length≤9223372036854775807):Wo l x=some (l++x):=by unfold Wo;rw [if_pos h]
def XC{R U:Type}(u:U):Option R->Sum U R
 |some r=>.inr r
 |none=>.inl u
def UF{R U:Type}(i:Nat):Option R->Sum Int (Sum U R)
 |some r=>.inr (.inr r)
 |none=>.inl ((i+1:Nat):Int)
theorem IH{α R U:Type}{body:Int->Option (Sum Int (Sum U R))}{l:List α}{g:α->Option R}{u:U}{k:Nat}
  (hb:∀(i:Nat) x,k≤i->l[i]?=some x->body (i:Int)=some (UF i (g x)))
  (he:body (l.length:Int)=some (.inr (.inl u))) (hk:k≤l.length):zp body (k:Int)=some (XC u ((l.drop k).findSome? g)):=by
 have key:∀d i,l.length-i=d->k≤i->i≤l.length->zp body (i:Int)=some (XC u ((l.drop i).findSome? g)):=by
  intro d
  induction d with
  |zero =>
   intro i hd hki hi
   have:i=l.length:=by omega
   subst this;rw [zK,he,List.drop_length];rfl
  |succ d ih =>
   intro i hd hki hi
   have hlt:i<l.length:=by omega
   rw [zK,hb i l[i] hki (Qe hlt),JK hlt,Q5]
   cases g l[i] with
   |some r=>rfl
   |none =>
    show zp body ((i+1:Nat):Int)=_;exact ih (i+1) (by omega) (by omega) (by omega)
 exact key _ k rfl (Qk _) hk
theorem Zd{α R U:Type}{body:Int->Option (Sum Int (Sum U R))}{l:List α}{g:α->Option R}{u:U}
  (hb:∀(i:Nat) x,l[i]?=some x->body (i:Int)=some (UF i (g x)))
  (he:body (l.length:Int)=some (.inr (.inl u))):zp body 0=some (XC u (l.findSome? g)):=
 IH (k:=0) (λi x _=>hb i x) he (QW _)
theorem zqd{R U:Type}{body:Int->Option (Sum Int (Sum U R))}{n:Nat}{g:Nat->Option R}{u:U}
  (hb:∀i,i<n->body (i:Int)=some (UF i (g i)))
  (he:body (n:Int)=some (.inr (.inl u))):zp body 0=some (XC u ((List.range n).findSome? g)):=by
 have h:=Zd (body:=body) (l:=List.range n) (g:=g) (u:=u) (λi x hx=>by
  have hi:i<n:=by
   have:=(Qb.1 hx).1;simpa using this
  have hx':x=i:=by
   have:=(Qb.1 hx).2;simpa using this.symm
  subst hx'
  exact hb x hi) (by rw [List.length_range];exact he)
 exact h
theorem z7{α R:Type}(l:List α)(p:α->Bool)(r:R):l.findSome? (λx=>cond (p x) (some r) none)=cond (l.any p) (some r) none:=by
 induction l with
 |nil=>rfl
 |cons x l ih =>
  rw [Q5,Q3]
  cases p x with
  |true=>rfl
  |false=>simpa using ih
def zig(n:Int):Nat:=if n<0 then (-2*n-1).toNat else (2*n).toNat
def zHx:Nat->Nat->List UInt8
 | 0,_=>[]
 |k+1,u=>if 127<u then UInt8.ofNat (u % 128+128)::zHx k (u / 128) else [UInt8.ofNat u]
def put(n:Int):List UInt8:=zHx 10 (zig n)
def okC(x:UInt8):Bool:=UO x||Ko x||DO x
def BL(p:UInt8->Bool):List UInt8->Bool
 | []=>false
 |x :: _=>p x
def KB(s:List UInt8):Bool:=s.all okC&&(!(s == [])&&decide ((s.length:Int)≤8))
def XF(s:List UInt8):Bool:=KB s&&decide (1<(s.length:Int))&&BL Ko s
def Gx(s:List UInt8):Bool:=(s == [36,105,110,105,116])||(KB s&&BL UO s)
def XQ:List UInt8->List UInt8
 | []=>[]
 |x ::r=>if x=91 then r else x ::r
def Xs(s:List UInt8):Bool:=(XQ (XQ s) == [73])||XF (XQ (XQ s))
def Zv(s:List UInt8):Bool:=!(s == [73])&&Xs s
def ZT(s:List UInt8):Bool:=(s == [86])||Xs s
abbrev Len(s:List UInt8):Prop:=s.length≤9223372036854775807
theorem zwy{α:Type}(l:List α)(p:α->Bool):l.any (λx=>!p x)=!l.all p:=by
 induction l with
 |nil=>rfl
 |cons x l ih=>rw [Q3,J2,ih];cases p x <;> rfl
theorem zqJ{s:List UInt8}(h:Len s):IJ s=some (KB s):=by
 have hl:zp (λz=>OX s z) 0=_:=Zd (l:=s) (g:=λx=>cond (!okC x) (some false) none) (u:=()) (λi x hx=>by
  have hi:=(Qb.1 hx).1;show OX s (i:Int)=_;unfold OX;rw [zt,hx,decide_eq_true (by omega),zP (by unfold Len at h;omega)];unfold okC
  cases h1:UO x <;> cases h2:Ko x <;> cases h3:DO x <;> simp [h1,h2,h3,UF]) (by
  show OX s (s.length:Int)=_;unfold OX;rw [decide_eq_false (by omega)]
  rfl)
 unfold IJ;rw [hl,z7,zwy];unfold KB;cases s.all okC <;> rfl
theorem znZ(p:UInt8->Bool)(x:UInt8)(r:List UInt8):BL p (x ::r)=p x:=rfl
theorem zyi{s:List UInt8}(h:KB s=true):∃x r,s=x ::r:=by
 cases s with
 |nil=>exact absurd h (by decide)
 |cons x r=>exact ⟨x,r,rfl⟩
theorem OR{s:List UInt8}(h:Len s):HQ s=some (XF s):=by
 unfold HQ;rw [zqJ h,HM];unfold XF
 cases hw:KB s with
 |false=>rfl
 |true =>
  obtain ⟨x,r,rfl⟩:=zyi hw;simp only [Qa,QC,Q7];cases decide (1<((x ::r).length:Int)) <;> rfl
theorem znl{s:List UInt8}(h:Len s):Oj s=some (Gx s):=by
 unfold Oj;rw [zqJ h,HM];unfold Gx
 cases s == [36,105,110,105,116] with
 |true=>rfl
 |false =>
  cases hw:KB s with
  |false=>rfl
  |true =>
   obtain ⟨x,r,rfl⟩:=zyi hw;rfl
theorem HO(x:UInt8)(r:List UInt8):XQ (x ::r)=if x=91 then r else x ::r:=rfl
theorem zpW(s:List UInt8):(XQ s).length≤s.length:=by
 cases s with
 |nil=>exact Qk _
 |cons x r=>rw [HO];split <;> simp
theorem zBK{s:List UInt8}(h:Len s):zfF s [91]=some (XQ s):=by
 unfold zfF zdm zdT
 cases s with
 |nil=>rfl
 |cons x r =>
  have e1:decide ((List.length [(91:UInt8)]:Int)≤(List.length (x ::r):Int))=true:=decide_eq_true (by simp only [Qu,Je];omega)
  have e2:XJ (x ::r) 0 (List.length [(91:UInt8)]:Int)=some [x]:=by
   have:=Ob (l:=x ::r) (b:=1) (by simp);simpa using this
  have e3:XJ (x ::r) (List.length [(91:UInt8)]:Int) (List.length (x ::r):Int)=some r:=by
   have:=Hd (l:=x ::r) (a:=1) (by simp);simpa using this
  rw [e1,e2,e3,HO];by_cases hx:x=91
  .subst hx;rfl
  .rw [if_neg hx]
   have:([x] == [(91:UInt8)])=false:=by simp [hx]
   simp [this]
theorem W4{s:List UInt8}(h:Len s):G9 s=some (Xs s):=by
 have h1:=zpW s;have h2:=zpW (XQ s);unfold G9;rw [zBK h,Qa,zBK (by unfold Len at *;omega),Qa,OR (by unfold Len at *;omega)];unfold Xs;cases XQ (XQ s) == [73] <;> rfl
theorem zl4{s:List UInt8}(h:Len s):WT s=some (Zv s):=by
 unfold WT;rw [W4 h];unfold Zv;cases s == [73] <;> rfl
theorem zwm{s:List UInt8}(h:Len s):zq8 s=some (ZT s):=by
 unfold zq8;rw [W4 h];unfold ZT;cases s == [86] <;> rfl
theorem zse(x:UInt8):IT x=Ko x:=rfl
theorem zqo(x:UInt8):IW x=UO x:=rfl
theorem zvF(x:UInt8):IU x=DO x:=rfl
theorem OP{s:List UInt8}(h:Len s):HP s=some (XF s):=by
 unfold HP
 have hend:HY s (s.length:Int)=some (.inr (.inl ())):=by
  unfold HY;rw [decide_eq_false (by omega)];rfl
 cases s with
 |nil=>rw [zK];rfl
 |cons x r =>
  have hrest:zp (λz=>HY (x ::r) z) ((1:Nat):Int)=some (XC () (((x ::r).drop 1).findSome? (λy=>cond (!okC y) (some false) none))):=
   IH (k:=1) (g:=λy=>cond (!okC y) (some false) none) (λi y hi hy=>by
    have hlt:=(Qb.1 hy).1;show HY (x ::r) (i:Int)=_;unfold HY;rw [zt,hy,decide_eq_true (by omega),zP (by unfold Len at h;omega)]
    have e:((i:Int) == (0:Int))=false:=by simp;omega
    rw [e];simp only [zse,zqo,zvF];unfold okC
    cases h1:UO y <;> cases h2:Ko y <;> cases h3:DO y <;> simp [h1,h2,h3,UF]) hend (by simp)
  have hfirst:HY (x ::r) 0=some (cond (Ko x) (.inl 1) (.inr (.inr false))):=by
   unfold HY;rw [HM,decide_eq_true (by simp only [Qu,Je];omega)];simp only [zse]
   have:i64.wrap (0+1)=1:=by decide
   rw [this];simp only [Q7,Qa];cases hg:Ko x <;> rfl
  rw [zK,hfirst]
  cases hg:Ko x with
  |false =>
   have:XF (x ::r)=false:=by unfold XF;rw [znZ,hg];simp
   rw [this];rfl
  |true =>
   show ((zp (λz=>HY (x ::r) z) ((1:Nat):Int)).bind _)=_;rw [hrest,List.drop_one,List.tail_cons,z7,zwy]
   have:XF (x ::r)=(r.all okC&&(decide (2≤(List.length (x ::r):Int))&&decide ((List.length (x ::r):Int)≤8))):=by
    unfold XF KB;rw [znZ]
    have ho:okC x=true:=by unfold okC;rw [hg];simp
    rw [J2,ho,hg]
    have e:decide (1<(List.length (x ::r):Int))=decide (2≤(List.length (x ::r):Int)):=by congr 1
    rw [e];have e2:((x ::r) == [])=false:=rfl;rw [e2];cases r.all okC <;> cases decide (2≤(List.length (x ::r):Int)) <;> cases decide ((List.length (x ::r):Int)≤8) <;> rfl
   rw [this];cases r.all okC <;> rfl
theorem znx{s:List UInt8}(h:Len s):Os s=some (Gx s):=by
 unfold Os
 have hend:HV s (s.length:Int)=some (.inr (.inl ())):=by
  unfold HV;rw [decide_eq_false (by omega)];rfl
 unfold Gx
 cases s == [36,105,110,105,116] with
 |true=>rfl
 |false =>
 show (zp _ _).bind _=some (KB s&&BL UO s)
 cases s with
 |nil=>rw [zK];rfl
 |cons x r =>
  have hrest:zp (λz=>HV (x ::r) z) ((1:Nat):Int)=some (XC () (((x ::r).drop 1).findSome? (λy=>cond (!okC y) (some false) none))):=
   IH (k:=1) (g:=λy=>cond (!okC y) (some false) none) (λi y hi hy=>by
    have hlt:=(Qb.1 hy).1;show HV (x ::r) (i:Int)=_;unfold HV;rw [zt,hy,decide_eq_true (by omega),zP (by unfold Len at h;omega)]
    have e:((i:Int) == (0:Int))=false:=by simp;omega
    rw [e];simp only [zse,zqo,zvF];unfold okC
    cases h1:UO y <;> cases h2:Ko y <;> cases h3:DO y <;> simp [h1,h2,h3,UF]) hend (by simp)
  have hfirst:HV (x ::r) 0=some (cond (UO x) (.inl 1) (.inr (.inr false))):=by
   unfold HV;rw [HM,decide_eq_true (by simp only [Qu,Je];omega)];simp only [zqo]
   have:i64.wrap (0+1)=1:=by decide
   rw [this];simp only [Q7,Qa];cases hg:UO x <;> rfl
  rw [zK,hfirst]
  cases hg:UO x with
  |false =>
   have:(KB (x ::r)&&BL UO (x ::r))=false:=by rw [znZ,hg];simp
   rw [this];rfl
  |true =>
   show ((zp (λz=>HV (x ::r) z) ((1:Nat):Int)).bind _)=_;rw [hrest,List.drop_one,List.tail_cons,z7,zwy]
   have:(KB (x ::r)&&BL UO (x ::r))=(r.all okC&&(decide (1≤(List.length (x ::r):Int))&&decide ((List.length (x ::r):Int)≤8))):=by
    unfold KB;rw [znZ]
    have ho:okC x=true:=by unfold okC;rw [hg];simp
    rw [J2,ho,hg];have e2:((x ::r) == [])=false:=rfl;have e3:decide (1≤(List.length (x ::r):Int))=true:=decide_eq_true (by simp only [Qu,Je];omega);rw [e2,e3];cases r.all okC <;> cases decide ((List.length (x ::r):Int)≤8) <;> rfl
   rw [this];cases r.all okC <;> rfl
theorem HS{s:List UInt8}(h:Len s):Gd s=some (Xs s):=by
 have step:∀(t:List UInt8) (i:Int),i<2->OG t i=some (match t with | []=>.inr (.inl []) |x ::r=>if x=91 then .inl (r,i64.wrap (i+1)) else .inr (.inl (x ::r))):=λt i hi=>by
  unfold OG;rw [decide_eq_true hi]
  cases t with
  |nil=>rfl
  |cons x r =>
   have e1:decide ((0:Int)<(List.length (x ::r):Int))=true:=decide_eq_true (by simp only [Qu,Je];omega)
   have e3:XJ (x ::r) 1 (List.length (x ::r):Int)=some r:=by
    have:=Hd (l:=x ::r) (a:=1) (by simp);simpa using this
   rw [e1,HM,e3];by_cases hx:x=91
   .subst hx;rfl
   .have e:((x.toNat:Int) == (91:Int))=false:=by
     rw [beq_eq_false_iff_ne];intro h;apply hx
     have:x.toNat=(91:UInt8).toNat:=by simp;omega
     exact J9.1 this
    simp [e,if_neg hx]
 have stop:∀t:List UInt8,OG t 2=some (.inr (.inl t)):=λt=>by unfold OG;simp
 have hl:zp (λz:List UInt8×Int=>OG z.1 z.2) (s,0)=some (.inl (XQ (XQ s))):=by
  have w1:i64.wrap (0+1)=1:=by decide
  have w2:i64.wrap (1+1)=2:=by decide
  rw [zK];simp only [step s 0 (by omega)]
  cases s with
  |nil=>rfl
  |cons x r =>
   rw [HO];by_cases hx:x=91
   .simp only [if_pos hx,Qa,JV,w1];rw [zK];simp only [step r 1 (by omega)]
    cases r with
    |nil=>rfl
    |cons y q =>
     by_cases hy:y=91
     .simp only [if_pos hy,Qa,JV,w2];rw [zK];simp only [stop];rw [HO,if_pos hy];rfl
     .simp only [if_neg hy,Qa,Sum.elim_inr];rw [HO,if_neg hy]
   .simp only [if_neg hx,Qa,Sum.elim_inr];rw [HO,if_neg hx]
 have h1:=zpW s;have h2:=zpW (XQ s);unfold Gd;rw [hl];show zoX _=_;unfold zoX Xs;rw [OP (by unfold Len at *;omega)];cases XQ (XQ s) == [73] <;> rfl
theorem zwG{s:List UInt8}(h:Len s):zrd s=some (Zv s):=by
 unfold zrd;rw [HS h];unfold Zv;cases s == [73] <;> rfl
def zGK(v1:Int):Bool:=
 ((((v1 == (1:Int))||(v1 == (3:Int)))||(v1 == (4:Int)))||(UN v1))
def Hw(o:Int)(s:List UInt8):Bool:=cond (Gg o) (Zv s) (cond (Dc o) (XF s) (s == []))
def zCL(o:Int)(s:List UInt8):Bool:=cond (Wk o) (Gx s&&!(s == [36,105,110,105,116])) (s == [])
def UJ(x:zr):Bool:=(WR x.Op&&HF x.Op x.A)&&Hw x.Op x.C&&zCL x.Op x.M
theorem zyV{o:Int}{s:List UInt8}(h:Len s):zt7 o s=some (Hw o s):=by
 unfold zt7 Hw;rw [zl4 h,OR h];cases Gg o <;> cases Dc o <;> rfl
theorem zyW{o:Int}{s:List UInt8}(h:Len s):zt8 o s=some (zCL o s):=by
 unfold zt8 zCL;rw [znl h];cases Wk o <;> rfl
theorem zAR{x:zr}(hC:Len x.C)(hM:Len x.M):zxQ x=some (UJ x):=by
 unfold zxQ UJ;rw [zyV hC,zyW hM];cases (WR x.Op&&HF x.Op x.A) <;> cases Hw x.Op x.C <;> rfl
theorem zE3(o A:Int):HF o A=cond (zGK o) (IV o A) (A == 0):=by
 have e1:decide (A≤2147483647)=decide (A<2147483648):=by congr 1;apply propext;omega
 have e2:decide (A≤15)=decide (A<16):=by congr 1;apply propext;omega
 have e3:decide (A≤99)=decide (A<100):=by congr 1;apply propext;omega
 unfold HF zGK IV DL UN KL;rw [e1,e2,e3];by_cases h1:o=1
 .subst h1;rfl
 by_cases h3:o=3
 .subst h3;rfl
 by_cases h4:o=4
 .subst h4;rfl
 have b1:(o == (1:Int))=false:=beq_eq_false_iff_ne.2 h1;have b3:(o == (3:Int))=false:=beq_eq_false_iff_ne.2 h3;have b4:(o == (4:Int))=false:=beq_eq_false_iff_ne.2 h4;rw [b1,b3,b4];cases (decide (20≤o)&&decide (o≤36)) <;> rfl
theorem zA0:∀k:_root_.Fin 62,(He (k.val:Int)).1=zGK (k.val:Int)/\(He (k.val:Int)).2.1=cond (Gg (k.val:Int)) 2 (cond (Dc (k.val:Int)) 1 0)/\(He (k.val:Int)).2.2=Wk (k.val:Int):=by
 decide +kernel
theorem zsQ{x:zr}(hC:Len x.C)(hM:Len x.M):IX x=some (UJ x):=by
 unfold IX UJ WR KL;by_cases hk:1≤x.Op/\x.Op≤61
 .obtain ⟨k,hkk⟩:∃k:Nat,x.Op=k:=⟨x.Op.toNat,by omega⟩;obtain ⟨p1,p2,p3⟩:=zA0 ⟨k,by omega⟩;simp only at p1 p2 p3;rw [hkk] at hk ⊢;rw [zE3,p1,p2,p3,decide_eq_false (show ¬(k:Int)<1 by omega),decide_eq_false (show ¬(61:Int)<k by omega),decide_eq_true hk.1,decide_eq_true hk.2,OP hC,zwG hC,znx hM];unfold Hw zCL;cases zGK (k:Int) <;> cases IV (k:Int) x.A <;> cases (x.A == 0) <;> cases Gg (k:Int) <;> cases Dc (k:Int) <;> cases Wk (k:Int) <;> cases (x.C == []) <;> cases XF x.C <;> cases Zv x.C <;> rfl
 .have h1:(decide (x.Op<1)||decide (61<x.Op))=true:=by
   rw [Qp];by_cases h:x.Op<1
   .exact .inl (decide_eq_true h)
   .exact .inr (decide_eq_true (by omega))
  have h2:(decide (1≤x.Op)&&decide (x.Op≤61))=false:=by
   rw [JE];by_cases h:1≤x.Op
   .exact .inr (decide_eq_false (by omega))
   .exact .inl (decide_eq_false h)
  rw [h1,h2];rfl
def ixF{α:Type}(p:α->Bool):Nat->List α->Int
 |_,[]=>-1
 |k,x ::r=>cond (p x) (k:Int) (ixF p (k+1) r)
theorem ZB{α:Type}(p:α->Bool):∀(k:Nat) (l:List α),decide (0≤ixF p k l)=l.any p
 |_,[]=>rfl
 |k,x ::r=>by
  unfold ixF;rw [Q3]
  cases p x with
  |true=>exact decide_eq_true (show (0:Int)≤(k:Int) by omega)
  |false=>exact ZB p (k+1) r
theorem Zq{α:Type}{body:Int->Option (Sum Int (Sum Unit Int))}{l:List α}{p:α->Bool}(hl:l.length≤9223372036854775807)
  (hb:∀(i:Nat) x,l[i]?=some x->body (i:Int)=cond (p x) (some (.inr (.inr (i:Int)))) (some (.inl (i64.wrap ((i:Int)+1)))))
  (he:body (l.length:Int)=some (.inr (.inl ()))):
  (zp body 0).bind (λo=>zH o (λ_=>some (-1:Int)) some)=some (ixF p 0 l):=by
 have key:∀(r pre:List α),l=pre++r->(zp body (pre.length:Int)).bind (λo=>zH o (λ_=>some (-1:Int)) some)=some (ixF p pre.length r):=by
  intro r
  induction r with
  |nil =>
   intro pre h;rw [Qx] at h;subst h;rw [zK,he];rfl
  |cons x r ih =>
   intro pre h
   have hlen:l.length=pre.length+(r.length+1):=by rw [h];simp
   have hx:l[pre.length]?=some x:=by rw [h];simp
   rw [zK,hb _ x hx];unfold ixF
   cases p x with
   |true=>rfl
   |false =>
    rw [zP (by omega)];have:=ih (pre++[x]) (by rw [h];simp);rw [show (pre++[x]).length=pre.length+1 by simp] at this;exact this
 exact key l [] rfl
def uB{α:Type}(ok:α->Bool)(nm:α->List UInt8):List α->List α->Bool
 |_,[]=>false
 |pre,x ::r=>(!ok x||pre.any (λy=>nm x == nm y))||uB ok nm (pre++[x]) r
theorem zst{α:Type}{body:Int->Option (Sum Int (Sum Unit Bool))}{l:List α}{ok:α->Bool}{nm:α->List UInt8}(hl:l.length≤9223372036854775807)
  (hb:∀(i:Nat) x,l[i]?=some x->body (i:Int)=cond (!ok x||(l.take i).any (λy=>nm x == nm y)) (some (.inr (.inr false))) (some (.inl (i64.wrap ((i:Int)+1)))))
  (he:body (l.length:Int)=some (.inr (.inl ()))) {k:Option Bool}:
  (zp body 0).bind (λo=>zH o (λ_=>k) some)=cond (uB ok nm [] l) (some false) k:=by
 have key:∀(r pre:List α),l=pre++r->(zp body (pre.length:Int)).bind (λo=>zH o (λ_=>k) some)=cond (uB ok nm pre r) (some false) k:=by
  intro r
  induction r with
  |nil =>
   intro pre h;rw [Qx] at h;subst h;rw [zK,he];rfl
  |cons x r ih =>
   intro pre h
   have hlen:l.length=pre.length+(r.length+1):=by rw [h];simp
   have hx:l[pre.length]?=some x:=by rw [h];simp
   have ht:l.take pre.length=pre:=by rw [h];simp
   rw [zK,hb _ x hx,ht];unfold uB
   cases !ok x||pre.any (λy=>nm x == nm y) with
   |true=>rfl
   |false =>
    rw [zP (by omega)];have:=ih (pre++[x]) (by rw [h];simp);rw [show (pre++[x]).length=pre.length+1 by simp] at this;exact this
 exact key l [] rfl
abbrev XI{α:Type}(l:List α):Prop:=l.length≤9223372036854775807
theorem Xn{α:Type}{l:List α}{i:Nat}{x:α}(h:l[i]?=some x):decide ((i:Int)<(l.length:Int))=true:=
 decide_eq_true (by have:=(Qb.1 h).1;omega)
theorem Xo{α:Type}(l:List α):decide ((l.length:Int)<(l.length:Int))=false:=decide_eq_false (by omega)
theorem zCz{l:List zj}(hl:XI l)(n t:List UInt8)(s:Bool):zao l n t s=some (l.any λy=>n == y.Name):=by
 unfold zao zcj
 rw [show ((zp (λz=>zaX l n t s z) 0).bind λo=>zH o (λb=>zd7) some)=_ from Zq (p:=λy:zj=>n == y.Name) hl
  (λi x hx=>by unfold zaX;rw [Xn hx,zt,hx];rfl) (by unfold zaX;rw [Xo];rfl)]
 exact congrArg some (ZB _ 0 l)
theorem zAq{l:List zb}(hl:XI l)(n:List UInt8)(a b c d e f g h i):zak l n a b c d e f g h i=some (l.any λy=>n == y.Name):=by
 unfold zak zb1
 rw [show ((zp (λz=>zaO l n a b c d e f g h i z) 0).bind λo=>zH o (λb=>zdg) some)=_ from Zq (p:=λy:zb=>n == y.Name) hl
  (λi x hx=>by unfold zaO;rw [Xn hx,zt,hx];rfl) (by unfold zaO;rw [Xo];rfl)]
 exact congrArg some (ZB _ 0 l)
theorem zET{l:List (List UInt8)}(hl:XI l)(n:List UInt8):zay l n=some (l.any λy=>n == y):=by
 unfold zay zcR
 rw [show ((zp (λz=>zbi l n z) 0).bind λo=>zH o (λb=>zeK) some)=_ from Zq (p:=λy:List UInt8=>n == y) hl
  (λi x hx=>by unfold zbi;rw [Xn hx,zt,hx];rfl) (by unfold zbi;rw [Xo];rfl)]
 exact congrArg some (ZB _ 0 l)
theorem zrq{c:za}(hl:XI c.Methods)(n:List UInt8):HW c n=some (ixF (λy=>y.Name == n) 0 c.Methods):=by
 unfold HW zaP
 rw [show ((zp (λz=>zar c.Methods n z) 0).bind λo=>zH o (λb=>zcB) some)=_ from Zq (p:=λy:zb=>y.Name == n) hl
  (λi x hx=>by unfold zar;rw [Xn hx,zt,hx];rfl) (by unfold zar;rw [Xo];rfl)]
 rfl
theorem zsz{c:za}(hl:XI c.Fields)(n:List UInt8):zj4 c n=some (ixF (λy=>y.Name == n) 0 c.Fields):=by
 unfold zj4 zaY
 rw [show ((zp (λz=>zaF c.Fields n z) 0).bind λo=>zH o (λb=>zc6) some)=_ from Zq (p:=λy:zj=>y.Name == n) hl
  (λi x hx=>by unfold zaF;rw [Xn hx,zt,hx];rfl) (by unfold zaF;rw [Xo];rfl)]
 rfl
def K3(f:zj):Bool:=(Gx f.Name&&!(f.Name == [36,105,110,105,116]))&&Xs f.Type_
theorem zsA{f:zj}(h1:Len f.Name)(h2:Len f.Type_):zj6 f=some (K3 f):=by
 unfold zj6 K3;rw [znl h1,W4 h2,Qa];cases (Gx f.Name&&!(f.Name == [36,105,110,105,116])) <;> rfl
theorem zzD{l:List zj}(hl:XI l)(h:∀f∈l,Len f.Name/\Len f.Type_)(n:Int):zgi l n=cond (uB K3 (·.Name) [] l) (some false) (some (decide ((l.length:Int)≤n))):=by
 unfold zgi;refine zst (ok:=K3) (nm:=(·.Name)) hl (λi x hx=>?_) ?_
 .have hm:=h x (Qc hx);have hi:=(Qb.1 hx).1;unfold zgL;rw [Xn hx,zt,hx];simp only [Qa,cond_true];rw [zsA hm.1 hm.2,Qa,Ob (by omega),Qa,zCz (by unfold XI at *;rw [QH];omega)];cases K3 x <;> rfl
 .unfold zgL;rw [Xo];rfl
theorem zB5{l:List (List UInt8)}(hl:XI l)(h:∀s∈l,Len s)(n:Int):zhF l n=cond (uB XF id [] l) (some false) (some (decide ((l.length:Int)≤n))):=by
 unfold zhF;refine zst (ok:=XF) (nm:=id) hl (λi x hx=>?_) ?_
 .have hm:=h x (Qc hx);have hi:=(Qb.1 hx).1;unfold zhR;rw [Xn hx,zt,hx];simp only [Qa,cond_true];rw [OR hm,Qa,Ob (by omega),Qa,zET (by unfold XI at *;rw [QH];omega)];cases XF x <;> rfl
 .unfold zhR;rw [Xo];rfl
def If(l:List (List UInt8)):Bool:=!(l.any λs=>!Xs s)
theorem zsC{l:List (List UInt8)}(hl:XI l)(h:∀s∈l,Len s):zlR l=some (If l):=by
 unfold zlR zbM zd8
 rw [show ((zp (λz=>zbN l z) 0).bind λo=>zH o (λb=>zfE) some)=_ from Zq (p:=λs=>!Xs s) hl
  (λi x hx=>by
   unfold zbN zlS;rw [Xn hx,zt,hx];simp only [Qa,cond_true];rw [W4 (h x (Qc hx))]
   rfl) (by unfold zbN;rw [Xo];rfl)]
 rw [Qa,ZB];rfl
def BC(n:Int)(x:zr):Bool:=(!UJ x)||(UN x.Op&&decide (n≤x.A))
def instrN(c:List zr):Bool:=zu (c.length:Int) 1 100&&(c.getLast?.elim false (λy=>GC y.Op)&&!(c.any (BC (c.length:Int))))
theorem zm7{m:zb}(hl:XI m.Code)(h:∀x∈m.Code,Len x.C/\Len x.M):zfn m=some (instrN m.Code):=by
 have hc:zaL m.Code (m.Code.length:Int)=some (m.Code.any (BC (m.Code.length:Int))):=by
  unfold zaL zdc
  rw [show ((zp (λz=>zbs m.Code (m.Code.length:Int) z) 0).bind λo=>zH o (λb=>ze1) some)=_ from Zq (p:=BC (m.Code.length:Int)) hl
   (λi x hx=>by
    have hm:=h x (Qc hx);unfold zbs zhs;rw [Xn hx,zt,hx];simp only [Qa,cond_true];rw [zAR hm.1 hm.2]
    rfl) (by unfold zbs;rw [Xo];rfl)]
  exact congrArg some (ZB _ 0 _)
 unfold zfn instrN;rw [hc]
 cases hb:zu (m.Code.length:Int) 1 100 with
 |false=>rfl
 |true =>
  have hb':(decide (1≤(m.Code.length:Int))&&decide ((m.Code.length:Int)≤100))=true:=hb;simp only [Qd,decide_eq_true_eq] at hb'
  have e:i64.wrap ((m.Code.length:Int)-1)=((m.Code.length-1:Nat):Int):=by
   rw [ZZ (by omega) (by omega)];omega
  rw [e,zt,<-Ju]
  cases hg:m.Code.getLast? with
  |none =>
   rw [Yl] at hg;rw [hg] at hb';simp at hb'
  |some y =>
   simp only [Qa,Qt,cond_false,Yv,QC];cases GC y.Op <;> rfl
def GV(n:Int)(y:zT):Bool:=(((decide (y.From<0)||decide (y.To≤y.From))||decide (n<y.To))||!(zu y.At 0 (i64.wrap (n-1))))||(!(y.C == [])&&!XF y.C)
def HC(m:zb):Bool:=!(m.Traps.any (GV (m.Code.length:Int)))&&decide ((m.Traps.length:Int)≤6)
theorem zsB{m:zb}(hl:XI m.Traps)(h:∀x∈m.Traps,Len x.C):zlP m=some (HC m):=by
 unfold zlP za9 zcy
 rw [show ((zp (λz=>zba m.Traps m.Name m.Params m.Ret m.Static m.Abstract m.Locals m.Stack m.Code m.Maps m.Traps z) 0).bind λo=>zH o (λb=>zet) some)=_ from Zq (p:=GV (m.Code.length:Int)) hl
  (λi x hx=>by
   have hm:=h x (Qc hx);unfold zba zlQ GV;rw [Xn hx,zt,hx];simp only [Qa,cond_true];rw [OR hm]
   cases (((decide (x.From<0)||decide (x.To≤x.From))||decide ((m.Code.length:Int)<x.To))||!(zu x.At 0 (i64.wrap ((m.Code.length:Int)-1)))) with
   |true=>rfl
   |false=>cases (x.C == []) <;> rfl) (by unfold zba;rw [Xo];rfl)]
 rw [Qa,ZB];rfl
def gB{α:Type}(bad:List α->α->Bool):List α->List α->Bool
 |_,[]=>false
 |pre,x ::r=>bad pre x||gB bad (pre++[x]) r
theorem Oe{α:Type}{body:Int->Option (Sum Int (Sum Unit Bool))}{l:List α}{bad:List α->α->Bool}(hl:l.length≤9223372036854775807)
  (hb:∀(i:Nat) x,l[i]?=some x->body (i:Int)=cond (bad (l.take i) x) (some (.inr (.inr false))) (some (.inl (i64.wrap ((i:Int)+1)))))
  (he:body (l.length:Int)=some (.inr (.inl ()))):zp body 0=some (cond (gB bad [] l) (.inr false) (.inl ())):=by
 have key:∀(r pre:List α),l=pre++r->zp body (pre.length:Int)=some (cond (gB bad pre r) (.inr false) (.inl ())):=by
  intro r
  induction r with
  |nil =>
   intro pre h;rw [Qx] at h;subst h;rw [zK,he];rfl
  |cons x r ih =>
   intro pre h
   have hlen:l.length=pre.length+(r.length+1):=by rw [h];simp
   have hx:l[pre.length]?=some x:=by rw [h];simp
   have ht:l.take pre.length=pre:=by rw [h];simp
   rw [zK,hb _ x hx,ht];unfold gB
   cases bad pre x with
   |true=>rfl
   |false =>
    rw [zP (by omega)];have:=ih (pre++[x]) (by rw [h];simp);rw [show (pre++[x]).length=pre.length+1 by simp] at this;exact this
 exact key l [] rfl
theorem zDO{α:Type}(p:α->Bool):∀(pre r:List α),gB (λ_ x=>p x) pre r=r.any p
 |_,[]=>rfl
 |pre,x ::r=>by
  show (p x||gB _ _ r)=_;rw [zDO p (pre++[x]) r,Q3]
theorem zDw{α:Type}(ok:α->Bool)(nm:α->List UInt8):∀(pre r:List α),uB ok nm pre r=gB (λpre x=>!ok x||pre.any (λy=>nm x == nm y)) pre r
 |_,[]=>rfl
 |pre,x ::r=>by
  show (_||uB ok nm (pre++[x]) r)=(_||gB _ (pre++[x]) r);rw [zDw ok nm (pre++[x]) r]
theorem Oi{α:Type}{body:Int->Option (Sum Int (Sum Unit Bool))}{l:List α}{bad:α->Bool}(hl:l.length≤9223372036854775807)
  (hb:∀(i:Nat) x,l[i]?=some x->body (i:Int)=cond (bad x) (some (.inr (.inr false))) (some (.inl (i64.wrap ((i:Int)+1)))))
  (he:body (l.length:Int)=some (.inr (.inl ()))):zp body 0=some (cond (l.any bad) (.inr false) (.inl ())):=by
 rw [Oe (bad:=λ_ x=>bad x) hl hb he,zDO]
def UU(v:List UInt8):Bool:=(((v == [73])||(v == [78]))||(v == [84]))||Zv v
theorem ztz{s:List UInt8}(h:Len s):znV s=some (UU s):=by
 unfold znV UU;rw [zl4 h]
 cases (((s == [73])||(s == [78]))||(s == [84])) <;> rfl
def Uw(l:List (List UInt8)):Bool:=!(l.any λs=>!UU s)
theorem zlk{l:List (List UInt8)}(hl:XI l)(h:∀s∈l,Len s):zhw l=some (Uw l):=by
 unfold zhw zbd zcQ
 rw [show ((zp (λz=>zbh l z) 0).bind λo=>zH o (λb=>zeJ) some)=_ from Zq (p:=λs=>!UU s) hl
  (λi x hx=>by
   unfold zbh zjt;rw [Xn hx,zt,hx];simp only [Qa,cond_true];rw [ztz (h x (Qc hx))]
   rfl) (by unfold zbh;rw [Xo];rfl)]
 rw [Qa,ZB];rfl
theorem zAr{l:List (List UInt8)}(hl:XI l)(n:List UInt8):zR l n=some (l.any λy=>n == y):=by
 unfold zR zfa
 rw [show ((zp (λz=>zcn l n z) 0).bind λo=>zH o (λb=>zgF) some)=_ from Zq (p:=λy:List UInt8=>n == y) hl
  (λi x hx=>by unfold zcn;rw [Xn hx,zt,hx];rfl) (by unfold zcn;rw [Xo];rfl)]
 exact congrArg some (ZB _ 0 l)
def Wn(m:zb)(pre:List zS)(x:zS):Bool:=
 ((!(decide (0≤x.At)&&decide (x.At<(m.Code.length:Int))))||(pre.getLast?.elim false (λy=>decide (x.At≤y.At)))) ||
 (((!((x.Locals.length:Int) == m.Locals))||decide (m.Stack<(x.Stack.length:Int)))||((!Uw x.Locals||!Uw x.Stack)||x.Stack.any (λy=>[84] == y)))
def Hx(m:zb):Bool:=!(gB (Wn m) [] m.Maps)&&decide ((m.Maps.length:Int)≤100)
structure zzu(m:zb):Prop where
 len:XI m.Maps
 code:XI m.Code
 all:∀x∈m.Maps,(XI x.Locals/\∀s∈x.Locals,Len s)/\(XI x.Stack/\∀s∈x.Stack,Len s)
theorem zvS{α:Type}{l:List α}{i:Nat}(h:i<l.length)(h0:0<i):(l.take i).getLast?=l[i-1]?:=by
 rw [Ju,JO (by simp;omega)];congr 1;simp;omega
theorem ztx{m:zb}(h:zzu m):znT m=some (Hx m):=by
 have j2:∀(i:Nat) (x:zS) (b:Bool),x∈m.Maps->OT m (i:Int) x b=cond (b||(((!((x.Locals.length:Int) == m.Locals))||decide (m.Stack<(x.Stack.length:Int)))||((!Uw x.Locals||!Uw x.Stack)||x.Stack.any (λy=>[84] == y)))) (some (.inr (.inr false))) (some (.inl (i64.wrap ((i:Int)+1)))):=λi x b hx=>by
  obtain ⟨⟨h1,h2⟩,h3,h4⟩:=h.all x hx;unfold OT;rw [zlk h1 h2,zlk h3 h4,zAr h3]
  cases b with
  |true=>rfl
  |false =>
   cases ((!((x.Locals.length:Int) == m.Locals))||decide (m.Stack<(x.Stack.length:Int))) with
   |true=>rfl
   |false =>
    cases Uw x.Locals with
    |false=>rfl
    |true=>cases Uw x.Stack <;> rfl
 have hl:zp (λz=>OS m z) 0=_:=Oe (bad:=Wn m) h.len (λi x hx=>by
  have hm:=Qc hx;have hi:=(Qb.1 hx).1;have hlen:=h.len;have hcode:=h.code;unfold XI at hlen hcode;show OS m (i:Int)=_;unfold OS Wn;rw [Xn hx,zt,hx];simp only [Qa,cond_true]
  have hb:zu x.At 0 (i64.wrap ((m.Code.length:Int)-1))=(decide (0≤x.At)&&decide (x.At<(m.Code.length:Int))):=by
   show (decide (0≤x.At)&&decide (x.At≤i64.wrap ((m.Code.length:Int)-1)))=_;rw [ZZ (by omega) (by omega)];congr 1;exact decide_eq_decide.2 (by omega)
  rw [hb]
  cases (decide (0≤x.At)&&decide (x.At<(m.Code.length:Int))) with
  |false=>exact j2 i x true hm
  |true =>
   rcases Q8 i with h0 |h0
   .subst h0;exact j2 0 x false hm
   .rw [decide_eq_true (show (0:Int)<(i:Int) by omega),zvS hi h0]
    have e:i64.wrap ((i:Int)-1)=((i-1:Nat):Int):=by
     rw [ZZ (by omega) (by omega)];omega
    rw [e,zt,Qe (show i-1<m.Maps.length by omega)]
    exact j2 i x _ hm) (by show OS m (m.Maps.length:Int)=_;unfold OS;rw [Xo];rfl)
 unfold znT Hx;rw [hl];cases gB (Wn m) [] m.Maps <;> rfl
theorem zDi(v:List UInt8):(cond (!(v == [84])&&!(v == [78])) (!Xs v) false)=!UU v:=by
 by_cases h1:v=[73]
 .subst h1;decide +kernel
 by_cases h2:v=[78]
 .subst h2;decide +kernel
 by_cases h3:v=[84]
 .subst h3;decide +kernel
 unfold UU Zv;rw [beq_eq_false_iff_ne.2 h1,beq_eq_false_iff_ne.2 h2,beq_eq_false_iff_ne.2 h3];simp
theorem zDj(v:List UInt8):(cond (!(v == [78])) (!Xs v) false)=(!UU v||([84] == v)):=by
 by_cases h1:v=[73]
 .subst h1;decide +kernel
 by_cases h2:v=[78]
 .subst h2;decide +kernel
 by_cases h3:v=[84]
 .subst h3;decide +kernel
 unfold UU Zv;rw [beq_eq_false_iff_ne.2 h1,beq_eq_false_iff_ne.2 h2,beq_eq_false_iff_ne.2 h3,beq_eq_false_iff_ne.2 (Ne.symm h3)];simp
theorem zFJ{α:Type}(l:List α)(p q:α->Bool):l.any (λx=>p x||q x)=(l.any p||l.any q):=by
 induction l with
 |nil=>rfl
 |cons x l ih =>
  simp only [Q3,ih];cases p x <;> cases q x <;> simp
theorem zvB{m:zb}(h:zzu m):zpK m=some (Hx m):=by
 have l7:∀x:zS,x∈m.Maps->zp (λz=>W8 x z) 0=some (cond (!Uw x.Locals) (.inr false) (.inl ())):=λx hx=>by
  obtain ⟨⟨h1,h2⟩,h3,h4⟩:=h.all x hx
  have:=Oi (body:=λz=>W8 x z) (bad:=λv=>!UU v) h1 (λi v hv=>by
   show W8 x (i:Int)=_;unfold W8;rw [Xn hv,zt,hv];simp only [Qa,cond_true];rw [HS (h2 v (Qc hv)),<-zDi]
   cases (!(v == [84])&&!(v == [78])) <;> rfl) (by show W8 x (x.Locals.length:Int)=_;unfold W8;rw [Xo];rfl)
  rw [this];unfold Uw;rw [Bool.not_not]
 have l9:∀x:zS,x∈m.Maps->zp (λz=>W7 x z) 0=some (cond (!Uw x.Stack||x.Stack.any (λy=>[84] == y)) (.inr false) (.inl ())):=λx hx=>by
  obtain ⟨⟨h1,h2⟩,h3,h4⟩:=h.all x hx
  have:=Oi (body:=λz=>W7 x z) (bad:=λv=>!UU v||([84] == v)) h3 (λi v hv=>by
   show W7 x (i:Int)=_;unfold W7;rw [Xn hv,zt,hv];simp only [Qa,cond_true];rw [HS (h4 v (Qc hv)),<-zDj]
   cases (!(v == [78])) <;> rfl) (by show W7 x (x.Stack.length:Int)=_;unfold W7;rw [Xo];rfl)
  rw [this,zFJ];unfold Uw;rw [Bool.not_not]
 have j6:∀(i:Nat) (x:zS) (b:Bool),x∈m.Maps->Gl (i:Int) x b=cond (b||((!Uw x.Locals||!Uw x.Stack)||x.Stack.any (λy=>[84] == y))) (some (.inr (.inr false))) (some (.inl (i64.wrap ((i:Int)+1)))):=λi x b hx=>by
  unfold Gl;rw [l7 x hx]
  cases b with
  |true=>rfl
  |false =>
   cases Uw x.Locals with
   |false=>rfl
   |true =>
    show zny (i:Int) x=_;unfold zny;rw [l9 x hx]
    cases Uw x.Stack with
    |false=>rfl
    |true=>cases x.Stack.any (λy=>[84] == y) <;> rfl
 have hl:zp (λz=>OO m z) 0=_:=Oe (bad:=Wn m) h.len (λi x hx=>by
  have hm:=Qc hx;have hi:=(Qb.1 hx).1;have hlen:=h.len;have hcode:=h.code;unfold XI at hlen hcode;show OO m (i:Int)=_;unfold OO Wn;rw [Xn hx,zt,hx];simp only [Qa,cond_true];by_cases h1:x.At<0
  .rw [decide_eq_true h1,decide_eq_false (show ¬0≤x.At by omega)];exact j6 i x true hm
  rw [decide_eq_false h1,decide_eq_true (show 0≤x.At by omega)];by_cases h2:(m.Code.length:Int)≤x.At
  .rw [decide_eq_true h2,decide_eq_false (show ¬x.At<(m.Code.length:Int) by omega)];exact j6 i x true hm
  rw [decide_eq_false h2,decide_eq_true (show x.At<(m.Code.length:Int) by omega)]
  rcases Q8 i with h0 |h0
  .subst h0;show cond (!((x.Locals.length:Int) == m.Locals)) (Gl ((0:Nat):Int) x true) (Gl ((0:Nat):Int) x (decide (m.Stack<(x.Stack.length:Int))))=_
   cases (!((x.Locals.length:Int) == m.Locals)) with
   |true=>exact j6 0 x true hm
   |false=>exact j6 0 x _ hm
  .rw [decide_eq_true (show (0:Int)<(i:Int) by omega),zvS hi h0]
   have e:i64.wrap ((i:Int)-1)=((i-1:Nat):Int):=by
    rw [ZZ (by omega) (by omega)];omega
   rw [e,zt,Qe (show i-1<m.Maps.length by omega)];simp only [cond_true,cond_false,Qa,Yv]
   cases decide (x.At≤m.Maps[i-1].At) with
   |true=>exact j6 i x true hm
   |false =>
    cases (!((x.Locals.length:Int) == m.Locals)) with
    |true=>exact j6 i x true hm
    |false=>exact j6 i x _ hm) (by show OO m (m.Maps.length:Int)=_;unfold OO;rw [Xo];rfl)
 unfold zpK Hx;rw [hl];by_cases hn:(m.Maps.length:Int)≤100
 .rw [decide_eq_true hn,decide_eq_false (show ¬100<(m.Maps.length:Int) by omega)];cases gB (Wn m) [] m.Maps <;> rfl
 .rw [decide_eq_false hn,decide_eq_true (show 100<(m.Maps.length:Int) by omega),Jt];rfl
structure zDB(m:zb):Prop where
 code:XI m.Code/\∀x∈m.Code,Len x.C/\Len x.M
 traps:XI m.Traps/\∀x∈m.Traps,Len x.C
theorem zvz{m:zb}(h:zDB m):zpJ m=some (instrN m.Code&&HC m):=by
 have hcl:=h.code.1;unfold XI at hcl
 have lc:zp (λz=>OV m z) 0=some (cond (m.Code.any (BC (m.Code.length:Int))) (.inr false) (.inl ())):=
  Oi h.code.1 (λi x hx=>by
   have hm:=h.code.2 x (Qc hx);show OV m (i:Int)=_;unfold OV;rw [Xn hx,zt,hx];simp only [Qa,cond_true];rw [zsQ hm.1 hm.2]
   rfl) (by show OV m (m.Code.length:Int)=_;unfold OV;rw [Xo];rfl)
 have lt:zp (λz=>OU m z) 0=some (cond (m.Traps.any (GV (m.Code.length:Int))) (.inr false) (.inl ())):=
  Oi h.traps.1 (λi x hx=>by
   have hm:=h.traps.2 x (Qc hx);show OU m (i:Int)=_;unfold OU;rw [Xn hx,zt,hx];simp only [Qa,cond_true];rw [OP hm]
   have hb:(!(zu x.At 0 (i64.wrap ((m.Code.length:Int)-1))))=(decide (x.At<0)||decide ((m.Code.length:Int)≤x.At)):=by
    show (!(decide (0≤x.At)&&decide (x.At≤i64.wrap ((m.Code.length:Int)-1))))=_;rw [ZZ (by omega) (by omega)];by_cases h1:x.At<0
    .rw [decide_eq_true h1,decide_eq_false (show ¬0≤x.At by omega)];rfl
    .rw [decide_eq_false h1,decide_eq_true (show 0≤x.At by omega)];by_cases h2:(m.Code.length:Int)≤x.At
     .rw [decide_eq_true h2,decide_eq_false (show ¬x.At≤(m.Code.length:Int)-1 by omega)];rfl
     .rw [decide_eq_false h2,decide_eq_true (show x.At≤(m.Code.length:Int)-1 by omega)];rfl
   unfold GV;rw [hb]
   cases decide (x.From<0) <;> cases decide (x.To≤x.From) <;> cases decide ((m.Code.length:Int)<x.To) <;> cases decide (x.At<0) <;> cases decide ((m.Code.length:Int)≤x.At) <;> cases (x.C == []) <;> rfl) (by show OU m (m.Traps.length:Int)=_;unfold OU;rw [Xo];rfl)
 have hn:decide (6<(m.Traps.length:Int))=!decide ((m.Traps.length:Int)≤6):=by
  by_cases h6:(m.Traps.length:Int)≤6
  .rw [decide_eq_true h6,decide_eq_false (show ¬6<(m.Traps.length:Int) by omega)];rfl
  .rw [decide_eq_false h6,decide_eq_true (show 6<(m.Traps.length:Int) by omega)];rfl
 have k2:zkX m=some (!m.Traps.any (GV (m.Code.length:Int))):=by
  unfold zkX;rw [lt];cases m.Traps.any (GV (m.Code.length:Int)) <;> rfl
 unfold zpJ HC instrN;rw [lc,hn];by_cases h1:(m.Code.length:Int)<1
 .rw [decide_eq_true h1,show zu (m.Code.length:Int) 1 100=false from by show (decide (1≤(m.Code.length:Int))&&_)=false;rw [decide_eq_false (show ¬1≤(m.Code.length:Int) by omega)];rfl];rfl
 by_cases h2:100<(m.Code.length:Int)
 .rw [decide_eq_true h2,show zu (m.Code.length:Int) 1 100=false from by show (decide (1≤(m.Code.length:Int))&&decide ((m.Code.length:Int)≤100))=false;rw [decide_eq_false (show ¬(m.Code.length:Int)≤100 by omega),Jt],Jw];rfl
 rw [decide_eq_false h1,decide_eq_false h2,show zu (m.Code.length:Int) 1 100=true from by show (decide (1≤(m.Code.length:Int))&&decide ((m.Code.length:Int)≤100))=true;rw [decide_eq_true (show 1≤(m.Code.length:Int) by omega),decide_eq_true (show (m.Code.length:Int)≤100 by omega)];rfl]
 have e:i64.wrap ((m.Code.length:Int)-1)=((m.Code.length-1:Nat):Int):=by
  rw [ZZ (by omega) (by omega)];omega
 rw [e,zt,<-Ju]
 cases hg:m.Code.getLast? with
 |none =>
  rw [Yl] at hg;rw [hg] at h1;simp at h1
 |some y =>
  simp only [Qa,Yv];rw [show HN y.Op=GC y.Op from rfl]
  cases GC y.Op with
  |false=>rfl
  |true =>
   cases decide ((m.Traps.length:Int)≤6) with
   |false =>
    cases m.Code.any (BC (m.Code.length:Int)) <;> cases m.Traps.any (GV (m.Code.length:Int)) <;> rfl
   |true =>
    cases m.Code.any (BC (m.Code.length:Int)) with
    |true=>rfl
    |false =>
     show zkX m=_;rw [k2];cases m.Traps.any (GV (m.Code.length:Int)) <;> rfl
structure GIn(m:zb):Prop where
 name:Len m.Name
 params:m.Params.length≤1000000000000/\∀s∈m.Params,Len s
 ret:Len m.Ret
 maps:zzu m
 body:zDB m
 small:m.Code.length≤1000000000000/\m.Maps.length≤1000000000000/\m.Traps.length≤1000000000000
def ZQ(m:zb):Bool:=
 ((!((!Gx m.Name)||decide (6<(m.Params.length:Int)))&&If m.Params)&&ZT m.Ret)&&cond m.Abstract (HT m)
  (!((m.Name == [36,105,110,105,116])&&(((!m.Static)||decide (0<(m.Params.length:Int)))||(!(m.Ret == [86]))))&&(zu m.Locals (Zh m) 16&&(zu m.Stack 0 16&&((instrN m.Code&&HC m)&&Hx m))))
theorem zHv{m:zb}(h:GIn m):XI m.Params:=by have:=h.params.1;unfold XI;omega
theorem zqS{m:zb}(h:GIn m):zkO m=some (ZQ m):=by
 unfold zkO ZQ;rw [znl h.name,Qa,zsC (zHv h) h.params.2,zwm h.ret,zm7 h.body.code.1 h.body.code.2,ztx h.maps,zsB h.body.traps.1 h.body.traps.2]
 cases ((!Gx m.Name)||decide (6<(m.Params.length:Int))) with
 |true=>rfl
 |false =>
  cases If m.Params with
  |false=>rfl
  |true =>
   cases ZT m.Ret with
   |false=>rfl
   |true =>
    cases m.Abstract with
    |true=>rfl
    |false =>
     cases ((m.Name == [36,105,110,105,116])&&(((!m.Static)||decide (0<(m.Params.length:Int)))||(!(m.Ret == [86])))) with
     |true=>rfl
     |false =>
      cases zu m.Locals (Zh m) 16 with
      |false=>rfl
      |true =>
       cases zu m.Stack 0 16 with
       |false=>rfl
       |true=>cases instrN m.Code <;> cases Hx m <;> cases HC m <;> rfl
theorem zwH{s:List UInt8}(h:Len s):zre s=some (ZT s):=by
 unfold zre ZT;rw [HS h];cases (s == [86]) <;> rfl
theorem zCj{m:zb}(h:GIn m):HT m=(((((((!m.Static)&&(!(m.Name == [36,105,110,105,116])))&&(m.Locals == (0:Int)))&&(m.Stack == (0:Int)))&&((m.Code.length:Int) == (0:Int)))&&((m.Maps.length:Int) == (0:Int)))&&((m.Traps.length:Int) == (0:Int))):=by
 obtain ⟨h1,h2,h3⟩:=h.small
 have key:(((m.Code.length:Int)+(m.Maps.length:Int)+(m.Traps.length:Int)) == (0:Int))=((((m.Code.length:Int) == 0)&&((m.Maps.length:Int) == 0))&&((m.Traps.length:Int) == 0)):=by
  by_cases a:(m.Code.length:Int)=0
  .by_cases b:(m.Maps.length:Int)=0
   .rw [a,b,Int.zero_add,Int.zero_add];rfl
   .rw [beq_eq_false_iff_ne.2 (show ((m.Code.length:Int)+m.Maps.length+m.Traps.length)≠0 by omega),beq_eq_false_iff_ne.2 b,Jt,Jn]
  .rw [beq_eq_false_iff_ne.2 (show ((m.Code.length:Int)+m.Maps.length+m.Traps.length)≠0 by omega),beq_eq_false_iff_ne.2 a,Jn,Jn]
 unfold HT;rw [ZZ (n:=(m.Code.length:Int)+(m.Maps.length:Int)) (by omega) (by omega),ZZ (by omega) (by omega),key];simp only [Bool.and_assoc]
theorem zrl(x a b:Int):(decide (x<a)||decide (b<x))=!(zu x a b):=by
 show _=!(decide (a≤x)&&decide (x≤b));by_cases h1:x<a
 .rw [decide_eq_true h1,decide_eq_false (show ¬a≤x by omega)];rfl
 .rw [decide_eq_false h1,decide_eq_true (show a≤x by omega)];by_cases h2:b<x
  .rw [decide_eq_true h2,decide_eq_false (show ¬x≤b by omega)];rfl
  .rw [decide_eq_false h2,decide_eq_true (show x≤b by omega)];rfl
theorem zql{m:zb}(h:GIn m):zhD m=some (ZQ m):=by
 have lp:zp (λz=>Ex m z) 0=some (cond (m.Params.any λs=>!Xs s) (.inr false) (.inl ())):=
  Oi (zHv h) (λi x hx=>by
   show Ex m (i:Int)=_;unfold Ex;rw [Xn hx,zt,hx];simp only [Qa,cond_true];rw [HS (h.params.2 x (Qc hx))]
   rfl) (by show Ex m (m.Params.length:Int)=_;unfold Ex;rw [Xo];rfl)
 have j3:∀a,zf9 m a=some (zu m.Locals a 16&&(zu m.Stack 0 16&&((instrN m.Code&&HC m)&&Hx m))):=λa=>by
  unfold zf9;rw [zrl,J3,zrl,zvz h.body,zvB h.maps]
  cases zu m.Locals a 16 with
  |false=>rfl
  |true =>
   cases zu m.Stack 0 16 with
   |false=>rfl
   |true=>cases (instrN m.Code&&HC m) <;> rfl
 have k2:ziU m=some (cond m.Abstract (HT m)
  (!((m.Name == [36,105,110,105,116])&&(((!m.Static)||decide (0<(m.Params.length:Int)))||(!(m.Ret == [86]))))&&(zu m.Locals (Zh m) 16&&(zu m.Stack 0 16&&((instrN m.Code&&HC m)&&Hx m))))):=by
  unfold ziU Zh;rw [j3,j3,zCj h]
  cases m.Abstract with
  |true=>rfl
  |false =>
   cases ((m.Name == [36,105,110,105,116])&&(((!m.Static)||decide (0<(m.Params.length:Int)))||(!(m.Ret == [86])))) with
   |true=>rfl
   |false=>cases m.Static <;> rfl
 unfold zhD ZQ If;rw [znx h.name,Qa,zwH h.ret,lp]
 cases ((!Gx m.Name)||decide (6<(m.Params.length:Int))) with
 |true=>rfl
 |false =>
  cases ZT m.Ret with
  |false=>rw [Jt];rfl
  |true =>
   cases m.Params.any λs=>!Xs s with
   |true=>rfl
   |false=>exact k2
theorem zv8{l:List zb}(hl:XI l)(h:∀m∈l,GIn m)(n:Int)(a b:List UInt8)(i:Bool)(c:List (List UInt8))(d:List zj)(e:List zb):
  zer l n a b i c d e=cond (uB (λm=>(m.Abstract == i)&&ZQ m) (·.Name) [] l) (some false) (some (decide ((l.length:Int)≤n))):=by
 unfold zer;refine zst (ok:=λm=>(m.Abstract == i)&&ZQ m) (nm:=(·.Name)) hl (λj x hx=>?_) ?_
 .have hm:=h x (Qc hx);have hi:=(Qb.1 hx).1;unfold zgj zlN;rw [Xn hx,zt,hx];simp only [Qa,cond_true];rw [zqS hm,Ob (by omega)];simp only [Qa];rw [zAq (by unfold XI at *;rw [QH];omega)]
  cases (x.Abstract == i) with
  |false=>rfl
  |true=>cases ZQ x <;> rfl
 .unfold zgj;rw [Xo];rfl
structure Di(c:za):Prop where
 name:Len c.Name
 super:Len c.Super
 impl:XI c.Impl/\∀s∈c.Impl,Len s
 fields:XI c.Fields/\∀f∈c.Fields,Len f.Name/\Len f.Type_
 methods:XI c.Methods/\∀m∈c.Methods,GIn m
def ZH(c:za):Bool:=
 !(c.Interface&&((!(c.Super == [79,98,106,101,99,116]))||decide (0<(c.Fields.length:Int)))) &&
 (((((XF c.Name&&XF c.Super)&&(!(uB XF id [] c.Impl)&&decide ((c.Impl.length:Int)≤4)))&&(!(uB K3 (·.Name) [] c.Fields)&&decide ((c.Fields.length:Int)≤8)))) &&
  (!(uB (λm=>(m.Abstract == c.Interface)&&ZQ m) (·.Name) [] c.Methods)&&decide ((c.Methods.length:Int)≤8)))
theorem ztw{c:za}(h:Di c):zpl c=some (ZH c):=by
 have e:∀(b d:Bool),cond b (some false) (some d)=some (!b&&d):=λb d=>by cases b <;> rfl
 unfold zpl ZH;rw [zzD h.fields.1 h.fields.2,zv8 h.methods.1 h.methods.2,OR h.name,OR h.super,zB5 h.impl.1 h.impl.2,e,e,e]
 cases (c.Interface&&((!(c.Super == [79,98,106,101,99,116]))||decide (0<(c.Fields.length:Int)))) with
 |true=>rfl
 |false =>
  cases XF c.Name with
  |false=>rfl
  |true=>cases XF c.Super <;> rfl
theorem ztF{α:Type}(p:α->Bool):∀(l:List α) (k i:Nat) (x:α),l[i]?=some x->p x=true->(ixF p k l == ((k+i:Nat):Int))=!((l.take i).any p)
 | [],k,i,x,h,_=>by simp at h
 |y ::r,k,0,x,h,hp=>by
  have:y=x:=by simpa using h
  subst this;show (cond (p y) (k:Int) (ixF p (k+1) r) == (k:Int))=true;rw [hp];exact beq_self_eq_true _
 |y ::r,k,i+1,x,h,hp=>by
  have h':r[i]?=some x:=by simpa using h
  show (cond (p y) (k:Int) (ixF p (k+1) r) == ((k+(i+1):Nat):Int))=!(p y||(r.take i).any p)
  cases p y with
  |true=>exact beq_eq_false_iff_ne.2 (show (k:Int)≠((k+(i+1):Nat):Int) by omega)
  |false =>
   have:=ztF p r (k+1) i x h' hp;rw [show k+1+i=k+(i+1) by omega] at this;exact this
theorem zpG{c:za}(hl:XI c.Fields)(n:List UInt8):IP c n=some (ixF (λy=>y.Name == n) 0 c.Fields):=by
 unfold IP
 rw [show ((zp (λz=>zjQ c n z) 0).bind λo=>zH o (λb=>zpH) some)=_ from Zq (p:=λy:zj=>y.Name == n) hl
  (λi x hx=>by unfold zjQ;rw [Xn hx,zt,hx];rfl) (by unfold zjQ;rw [Xo];rfl)]
theorem Ba{c:za}(hl:XI c.Methods)(n:List UInt8):Gj c n=some (ixF (λy=>y.Name == n) 0 c.Methods):=by
 unfold Gj
 rw [show ((zp (λz=>zi7 c n z) 0).bind λo=>zH o (λb=>zoz) some)=_ from Zq (p:=λy:zb=>y.Name == n) hl
  (λi x hx=>by unfold zi7;rw [Xn hx,zt,hx];rfl) (by unfold zi7;rw [Xo];rfl)]
theorem zFL(x y:List UInt8):(x == y)=(y == x):=by
 by_cases h:x=y
 .rw [h]
 .rw [beq_eq_false_iff_ne.2 h,beq_eq_false_iff_ne.2 (Ne.symm h)]
theorem zwO{α:Type}(l:List α)(f:α->List UInt8)(n:List UInt8):(l.any λy=>f y == n)=l.any λy=>n == f y:=by
 congr 1;funext y;exact zFL _ _
theorem zqZ{c:za}(h:Di c):zjR c=some (ZH c):=by
 have himp:=h.impl.1;unfold XI at himp
 have lf:zp (λz=>O6 c z) 0=some (cond (uB K3 (·.Name) [] c.Fields) (.inr false) (.inl ())):=by
  rw [zDw];refine Oe h.fields.1 (λi x hx=>?_) (by show O6 c (c.Fields.length:Int)=_;unfold O6;rw [Xo];rfl);have hm:=h.fields.2 x (Qc hx);have hfi:=ztF (λy:zj=>y.Name == x.Name) c.Fields 0 i x hx (beq_self_eq_true _);rw [QM,zwO] at hfi;show O6 c (i:Int)=_;unfold O6 K3;rw [Xn hx,zt,hx];simp only [Qa,cond_true];rw [znx hm.1,HS hm.2,zpG h.fields.1];simp only [Qa];rw [hfi]
  cases Gx x.Name with
  |false=>rfl
  |true =>
   cases (x.Name == [36,105,110,105,116]) with
   |true=>rfl
   |false =>
    cases Xs x.Type_ with
    |false=>rfl
    |true=>cases (c.Fields.take i).any λy=>x.Name == y.Name <;> rfl
 have lm:zp (λz=>O5 c z) 0=some (cond (uB (λm=>(m.Abstract == c.Interface)&&ZQ m) (·.Name) [] c.Methods) (.inr false) (.inl ())):=by
  rw [zDw];refine Oe h.methods.1 (λi x hx=>?_) (by show O5 c (c.Methods.length:Int)=_;unfold O5;rw [Xo];rfl);have hm:=h.methods.2 x (Qc hx);have hfi:=ztF (λy:zb=>y.Name == x.Name) c.Methods 0 i x hx (beq_self_eq_true _);rw [QM,zwO] at hfi;show O5 c (i:Int)=_;unfold O5;rw [Xn hx,zt,hx];simp only [Qa,cond_true];rw [zql hm,Ba h.methods.1];simp only [Qa];rw [hfi]
  cases (x.Abstract == c.Interface) with
  |false=>rfl
  |true =>
   cases ZQ x with
   |false=>cases (c.Methods.take i).any λy=>x.Name == y.Name <;> rfl
   |true=>cases (c.Methods.take i).any λy=>x.Name == y.Name <;> rfl
 have li:zp (λz=>O7 c z) 0=some (cond (uB XF id [] c.Impl) (.inr false) (.inl ())):=by
  rw [zDw];refine Oe h.impl.1 (λi x hx=>?_) (by show O7 c (c.Impl.length:Int)=_;unfold O7;rw [Xo];rfl);have hm:=h.impl.2 x (Qc hx);have hi:=(Qb.1 hx).1
  have hin:zp (λz=>O8 c (i:Int) z) 0=some (cond ((c.Impl.take i).any λy=>y == x) (.inr false) (.inl ())):=by
   have ht:(c.Impl.take i).length=i:=by rw [QH];omega
   refine Oi (by omega) (λj y hy=>?_) ?_
   .have hj:=(Qb.1 hy).1;rw [ht] at hj;rw [JO hj] at hy;show O8 c (i:Int) (j:Int)=_;unfold O8;rw [decide_eq_true (show (j:Int)<(i:Int) by omega),zt,hy,zt,hx];rfl
   .rw [ht];show O8 c (i:Int) (i:Int)=_;unfold O8;rw [decide_eq_false (show ¬(i:Int)<(i:Int) by omega)];rfl
  show O7 c (i:Int)=_;unfold O7;rw [Xn hx,zt,hx];simp only [Qa,cond_true];rw [OP hm,hin,show ((c.Impl.take i).any λy=>y == x)=(c.Impl.take i).any λy=>id x == id y from zwO _ id x]
  cases XF x with
  |false=>rfl
  |true=>cases (c.Impl.take i).any λy=>id x == id y <;> rfl
 have hle:∀(n:Nat) (b:Int),decide (b<(n:Int))=!decide ((n:Int)≤b):=λn b=>by
  by_cases hb:(n:Int)≤b
  .rw [decide_eq_true hb,decide_eq_false (show ¬b<(n:Int) by omega)];rfl
  .rw [decide_eq_false hb,decide_eq_true (show b<(n:Int) by omega)];rfl
 unfold zjR zmE zmF ZH;rw [OP h.name,OP h.super,li,lf,lm,hle c.Impl.length 4,hle c.Fields.length 8,hle c.Methods.length 8]
 generalize (c.Interface&&((!(c.Super == [79,98,106,101,99,116]))||decide (0<(c.Fields.length:Int))))=B
 generalize uB XF id [] c.Impl=u1;generalize uB K3 (·.Name) [] c.Fields=u2;generalize uB (λm=>(m.Abstract == c.Interface)&&ZQ m) (·.Name) [] c.Methods=u3;generalize decide ((c.Impl.length:Int)≤4)=d1;generalize decide ((c.Fields.length:Int)≤8)=d2;generalize decide ((c.Methods.length:Int)≤8)=d3
 cases XF c.Name with
 |false=>cases B <;> rfl
 |true =>
  cases XF c.Super with
  |false=>cases B <;> rfl
  |true=>cases B <;> cases u1 <;> cases u2 <;> cases u3 <;> cases d1 <;> cases d2 <;> cases d3 <;> rfl
abbrev Tx:=List UInt8
def cl(L:List za)(n:Tx):Option za:=L.find? (λc=>c.Name == n)
def atN(L:List za)(n:Tx):Int:=ixF (λc=>c.Name == n) 0 L
def Xh(L:List za)(n:Tx):Bool:=L.any (λc=>c.Name == n)
def isF(L:List za)(n:Tx):Bool:=match cl L n with |some c=>c.Interface |none=>false
theorem Iq{α:Type}(p:α->Bool):∀(l:List α) (k:Nat),(∃j x,ixF p k l=((k+j:Nat):Int)/\l[j]?=some x/\p x=true/\l.find? p=some x)∨(ixF p k l=-1/\l.find? p=none)
 | [],k=>.inr ⟨rfl,rfl⟩
 |y ::r,k=>by
  unfold ixF
  cases h:p y with
  |true=>exact .inl ⟨0,y,rfl,rfl,h,by simp [List.find?,h]⟩
  |false =>
   rcases Iq p r (k+1) with ⟨j,x,h1,h2,h3,h4⟩ |⟨h1,h2⟩
   .exact .inl ⟨j+1,x,by show ixF p (k+1) r=_;rw [h1];congr 1;omega,by simpa using h2,h3,by simp [List.find?,h,h4]⟩
   .exact .inr ⟨h1,by simp [List.find?,h,h2]⟩
theorem zta{α:Type}(p:α->Bool):∀(l r:List α) (k:Nat),ixF p k (l++r)=cond (l.any p) (ixF p k l) (ixF p (k+l.length) r)
 | [],r,k=>rfl
 |y ::l,r,k=>by
  show ixF p k (y ::(l++r))=_;rw [show ixF p k (y ::(l++r))=cond (p y) (k:Int) (ixF p (k+1) (l++r)) from rfl,show ixF p k (y ::l)=cond (p y) (k:Int) (ixF p (k+1) l) from rfl,Q3]
  cases h:p y with
  |true=>rfl
  |false =>
   rw [QX,cond_false,cond_false,zta p l r (k+1),show k+1+l.length=k+(y ::l).length by simp;omega]
theorem WB(L:List za)(n:Tx):decide (0≤atN L n)=Xh L n:=ZB _ 0 L
theorem G4(L:List za)(n:Tx):decide (atN L n<0)=!Xh L n:=by
 rw [<-WB];by_cases h:0≤atN L n
 .rw [decide_eq_true h,decide_eq_false (by omega)];rfl
 .rw [decide_eq_false h,decide_eq_true (by omega)];rfl
theorem UW(L:List za)(n:Tx):idx L (atN L n)=cl L n:=by
 unfold atN cl
 rcases Iq (λc:za=>c.Name == n) L 0 with ⟨j,x,h1,h2,h3,h4⟩ |⟨h1,h2⟩
 .rw [h1,h4,zt,QM,h2]
 .rw [h1,h2];rfl
theorem zzV(L:List za)(n:Tx):(cl L n).isSome=Xh L n:=by
 unfold cl Xh;rw [QT,Qy];exact List.find?_isSome
theorem XU{L:List za}{n:Tx}{c:za}(h:cl L n=some c):c∈L/\c.Name=n:=by
 unfold cl at h;exact ⟨QK h,eq_of_beq (List.find?_some (p:=λc:za=>c.Name == n) h)⟩
theorem Zc{L:List za}{n:Tx}(h:Xh L n=true):∃c,cl L n=some c:=by
 rw [<-zzV] at h;exact Option.isSome_iff_exists.1 h
theorem ZG{L:List za}{n:Tx}{c:za}(h:cl L n=some c):Xh L n=true:=by rw [<-zzV,h];rfl
theorem HG{L:List za}{n:Tx}(h:cl L n=none):Xh L n=false:=by rw [<-zzV,h];rfl
theorem Gc{L:List za}{n:Tx}:Xh L n=true↔n∈L.map (·.Name):=by
 unfold Xh;rw [Qy,QQ];constructor
 .rintro ⟨c,h1,h2⟩;exact ⟨c,h1,eq_of_beq h2⟩
 .rintro ⟨c,h1,h2⟩;exact ⟨c,h1,beq_iff_eq.2 h2⟩
def Nd(L:List za):Prop:=∀(i j:Nat) (c d:za),L[i]?=some c->L[j]?=some d->c.Name=d.Name->i=j
theorem Nd.at{L:List za}(h:Nd L){i:Nat}{c:za}(hi:L[i]?=some c):atN L c.Name=(i:Int):=by
 unfold atN
 rcases Iq (λd:za=>d.Name == c.Name) L 0 with ⟨j,x,h1,h2,h3,h4⟩ |⟨h1,h2⟩
 .rw [h1,QM,h j i x c h2 hi (eq_of_beq h3)]
 .have:=Yh.1 h2 c (Qc hi);simp at this
theorem Nd.cl{L:List za}(h:Nd L){c:za}(hc:c∈L):cl L c.Name=some c:=by
 obtain ⟨i,hi,e⟩:=JM hc
 have hi':L[i]?=some c:=by rw [Qe hi,e]
 rw [<-UW,h.at hi',zt,hi']
theorem Nd.snoc{L:List za}(h:Nd L){c:za}(hc:Xh L c.Name=false):Nd (L++[c]):=by
 have no:∀(i:Nat) d,L[i]?=some d->d.Name≠c.Name:=λi d hi e=>by
  have:Xh L c.Name=true:=Gc.2 (QQ.2 ⟨d,Qc hi,e⟩);rw [hc] at this;cases this
 have get:∀(i:Nat) d,(L++[c])[i]?=some d->(L[i]?=some d)∨(i=L.length/\d=c):=λi d hi=>by
  rw [List.getElem?_append] at hi;split at hi
  .exact .inl hi
  .rename_i hlt;right;have h1:=(Qb.1 hi).1;simp at h1
   have h2:i=L.length:=by omega
   subst h2;simp at hi;exact ⟨rfl,hi.symm⟩
 intro i j d e hi hj hn
 rcases get i d hi with h1 |⟨h1,h1'⟩ <;> rcases get j e hj with h2 |⟨h2,h2'⟩
 .exact h i j d e h1 h2 hn
 .subst h2';exact absurd hn (no i d h1)
 .subst h1';exact absurd hn.symm (no j e h2)
 .rw [h1,h2]
theorem zCA(L:List za)(c:za)(n:Tx):Xh (L++[c]) n=(Xh L n||(c.Name == n)):=by
 unfold Xh;simp
theorem ztd{α:Type}(k k':Tx)(x:α):∀(m:List (Tx×α)),Za k (ZM k' x m)=if k=k' then some x else Za k m
 | []=>by
  unfold ZM Za Za;by_cases h:k=k'
  .rw [if_pos h,decide_eq_true h];rfl
  .rw [if_neg h,decide_eq_false h];rfl
 |(a,y)::r=>by
  unfold ZM;by_cases h':k'=a
  .subst h';rw [decide_eq_true rfl];show Za k ((k',x)::r)=_;unfold Za;by_cases h:k=k'
   .rw [if_pos h,decide_eq_true h];rfl
   .rw [if_neg h,decide_eq_false h];rfl
  .rw [decide_eq_false h'];show Za k ((a,y)::ZM k' x r)=_;unfold Za;rw [ztd k k' x r];by_cases h:k=k'
   .subst h;rw [if_pos rfl,decide_eq_false h',if_pos rfl];rfl
   .rw [if_neg h,if_neg h]
def Xu(L:List za)(m:List (Tx×Int)):Prop:=∀n,Za n m=cond (Xh L n) (some (atN L n)) none
theorem Xu.snoc{L:List za}{m:List (Tx×Int)}(h:Xu L m){c:za}(hc:Xh L c.Name=false):Xu (L++[c]) (ZM c.Name (L.length:Int) m):=by
 intro n;rw [ztd,zCA,h n];unfold atN;rw [zta];show _=cond _ (some (cond (Xh L n) _ _)) none;by_cases e:n=c.Name
 .subst e;rw [if_pos rfl,hc,beq_self_eq_true];simp [ixF]
 .rw [if_neg e,beq_eq_false_iff_ne.2 (Ne.symm e)];cases Xh L n <;> rfl
theorem Xu.has{L:List za}{m:List (Tx×Int)}(h:Xu L m)(n:Tx):(Za n m).isSome=Xh L n:=by
 rw [h n];cases Xh L n <;> rfl
theorem Xu.idx{L:List za}{m:List (Tx×Int)}(h:Xu L m){n:Tx}(hn:Xh L n=true):idx L ((Za n m).getD 0)=cl L n:=by
 rw [h n,hn];exact UW L n
inductive Rc(nx:Tx->List Tx):Tx->Tx->Prop
 |one {a b}:b∈nx a->Rc nx a b
 |more {a b c}:b∈nx a->Rc nx b c->Rc nx a c
theorem Rc.snoc{nx:Tx->List Tx}{a b c:Tx}(h:Rc nx a b)(hc:c∈nx b):Rc nx a c:=by
 induction h with
 |one h=>exact .more h (.one hc)
 |more h _ ih=>exact .more h (ih hc)
theorem Rc.into{nx:Tx->List Tx}{F:Tx->Prop}(hF:∀x,F x->∀y∈nx x,F y){a b:Tx}(h:Rc nx a b):(∀y∈nx a,F y)->F b:=by
 induction h with
 |one h=>exact λha=>ha _ h
 |more h _ ih=>exact λha=>ih (hF _ (ha _ h))
theorem zA2:∀{a b:List Tx},a.Nodup->(∀x∈a,x∈b)->a.length≤b.length
 | [],b,_,_=>by simp
 |x ::r,b,h,hs=>by
  rw [Jp] at h;have hx:=hs x (by simp);have h1:=zA2 (a:=r) (b:=b.erase x) h.2 (λy hy=>(List.mem_erase_of_ne (λe=>h.1 (by rw [<-e];exact hy))).2 (hs y (by simp [hy])));have h2:=List.length_erase_of_mem hx;have h3:=List.length_pos_of_mem hx;simp only [Qu];omega
def push(Xc:List Tx):List Tx->List Tx
 | []=>Xc
 |s ::r=>push (cond (Xc.any λy=>s == y) Xc (Xc++[s])) r
theorem zzH{s:Tx}{l:List Tx}:(l.any λy=>s == y)=true↔s∈l:=by
 rw [Qy];constructor
 .rintro ⟨y,h1,h2⟩;rw [eq_of_beq h2];exact h1
 .intro h;exact ⟨s,h,beq_self_eq_true _⟩
theorem HK:∀(l Xc:List Tx),∃t,push Xc l=Xc++t/\t.Nodup/\(∀x∈t,x ∉ Xc/\x∈l)/\∀x∈l,x∈Xc++t
 | [],Xc=>⟨[],by simp [push],by simp,λx h=>(by cases h),λx h=>(by cases h)⟩
 |s ::r,Xc=>by
  unfold push
  cases h:(Xc.any λy=>s == y) with
  |true =>
   obtain ⟨t,h1,h2,h3,h4⟩:=HK r Xc;refine ⟨t,h1,h2,λx hx=>⟨(h3 x hx).1,Jm _ (h3 x hx).2⟩,λx hx=>?_⟩
   rcases Qr.1 hx with e |e
   .rw [e];exact Jo _ (zzH.1 h)
   .exact h4 x e
  |false =>
   have hs:s ∉ Xc:=λhm=>by rw [zzH.2 hm] at h;cases h
   obtain ⟨t,h1,h2,h3,h4⟩:=HK r (Xc++[s]);refine ⟨s ::t,by show push (Xc++[s]) r=_;rw [h1];simp,Jp.2 ⟨λhm=>(h3 s hm).1 (by simp),h2⟩,λx hx=>?_,λx hx=>?_⟩
   .rcases Qr.1 hx with e |e
    .rw [e];exact ⟨hs,by simp⟩
    .exact ⟨λhm=>(h3 x e).1 (Jo _ hm),Jm _ (h3 x e).2⟩
   .rcases Qr.1 hx with e |e
    .rw [e];simp
    .have:=h4 x e;simpa using this
def bfs(nx:Tx->List Tx):Nat->Nat->List Tx->List Tx
 | 0,_,Xc=>Xc
 |d+1,i,Xc=>match Xc[i]? with |none=>Xc |some x=>bfs nx d (i+1) (push Xc (nx x))
def fin(nx:Tx->List Tx):Nat->Nat->List Tx->Bool
 | 0,i,Xc=>decide (Xc.length≤i)
 |d+1,i,Xc=>match Xc[i]? with |none=>true |some x=>fin nx d (i+1) (push Xc (nx x))
def Inv(U s0 Xc:List Tx):Prop:=∃T,Xc=s0++T/\T.Nodup/\(∀x∈T,x∈U) 
theorem Inv.push{U s0 Xc l:List Tx}(h:Inv U s0 Xc)(hU:∀y∈l,y∈U):Inv U s0 (push Xc l):=by
 obtain ⟨T,h1,h2,h3⟩:=h;obtain ⟨t,k1,k2,k3,k4⟩:=HK l Xc;refine ⟨T++t,by rw [k1,h1];simp,List.nodup_append.2 ⟨h2,k2,λa ha b hb e=>(k3 b hb).1 (by rw [h1,<-e];exact List.mem_append_right _ ha)⟩,λx hx=>?_⟩
 rcases Qq.1 hx with e |e
 .exact h3 x e
 .exact hU x (k3 x e).2
theorem Inv.len{U s0 Xc:List Tx}(h:Inv U s0 Xc):Xc.length≤s0.length+U.length:=by
 obtain ⟨T,h1,h2,h3⟩:=h;have:=zA2 h2 h3;rw [h1,QA];omega
theorem Inv.mem{U s0 Xc:List Tx}(h:Inv U s0 Xc)(h0:∀x∈s0,x∈U):∀x∈Xc,x∈U:=by
 obtain ⟨T,h1,h2,h3⟩:=h;intro x hx;rw [h1] at hx
 rcases Qq.1 hx with e |e
 .exact h0 x e
 .exact h3 x e
theorem Inv.start{U s0:List Tx}:Inv U s0 s0:=⟨[],by simp,by simp,λx h=>(by cases h)⟩
theorem zAc{nx:Tx->List Tx}{U s0:List Tx}(hU:∀x y,y∈nx x->y∈U):∀(d i:Nat) (Xc:List Tx),Inv U s0 Xc->s0.length+U.length≤d+i->fin nx d i Xc=true
 | 0,i,Xc,h,hd=>by
  have:=h.len;exact decide_eq_true (by omega)
 |d+1,i,Xc,h,hd=>by
  unfold fin
  cases Xc[i]? with
  |none=>rfl
  |some x=>exact zAc hU d (i+1) _ (h.push (hU x)) (by omega)
theorem IB{nx:Tx->List Tx}:∀(d i:Nat) (Xc:List Tx),∃t,bfs nx d i Xc=Xc++t
 | 0,i,Xc=>⟨[],by simp [bfs]⟩
 |d+1,i,Xc=>by
  unfold bfs
  cases Xc[i]? with
  |none=>exact ⟨[],by simp⟩
  |some x =>
   obtain ⟨t,h⟩:=IB (nx:=nx) d (i+1) (push Xc (nx x));obtain ⟨u,k,_⟩:=HK (nx x) Xc;exact ⟨u++t,by show bfs nx d (i+1) _=_;rw [h,k];simp⟩
theorem zzN{nx:Tx->List Tx}{U s0:List Tx}(hU:∀x y,y∈nx x->y∈U):∀(d i:Nat) (Xc:List Tx),Inv U s0 Xc->Inv U s0 (bfs nx d i Xc)
 | 0,i,Xc,h=>h
 |d+1,i,Xc,h=>by
  unfold bfs
  cases Xc[i]? with
  |none=>exact h
  |some x=>exact zzN hU d (i+1) _ (h.push (hU x))
theorem zrm{nx:Tx->List Tx}{Q:Tx->Prop}(hQ:∀x,Q x->∀y∈nx x,Q y):∀(d i:Nat) (Xc:List Tx),(∀x∈Xc,Q x)->∀x∈bfs nx d i Xc,Q x
 | 0,i,Xc,h=>h
 |d+1,i,Xc,h=>by
  unfold bfs
  cases hi:Xc[i]? with
  |none=>exact h
  |some x =>
   refine zrm hQ d (i+1) _ λy hy=>?_;obtain ⟨u,k1,_,k3,_⟩:=HK (nx x) Xc;rw [k1] at hy
   rcases Qq.1 hy with e |e
   .exact h y e
   .exact hQ x (h x (Qc hi)) y (k3 y e).2
theorem zp2{nx:Tx->List Tx}:∀(d i:Nat) (Xc:List Tx),fin nx d i Xc=true->(∀j x,j<i->Xc[j]?=some x->∀y∈nx x,y∈Xc)->∀x∈bfs nx d i Xc,∀y∈nx x,y∈bfs nx d i Xc
 | 0,i,Xc,hf,h=>λx hx y hy=>by
  have hl:Xc.length≤i:=of_decide_eq_true hf;obtain ⟨j,hj,e⟩:=JM (show x∈Xc from hx);exact h j x (by omega) (by rw [Qe hj,e]) y hy
 |d+1,i,Xc,hf,h=>by
  unfold fin at hf;unfold bfs
  cases hi:Xc[i]? with
  |none =>
   intro x hx y hy;have hl:Xc.length≤i:=JL.1 hi;obtain ⟨j,hj,e⟩:=JM (show x∈Xc from hx);exact h j x (by omega) (by rw [Qe hj,e]) y hy
  |some z =>
   rw [hi] at hf;obtain ⟨u,k1,_,k3,k4⟩:=HK (nx z) Xc;have hlt:i<Xc.length:=(Qb.1 hi).1;refine zp2 d (i+1) _ hf λj x hj hx y hy=>?_;rw [k1] at hx ⊢;rw [Qm (by omega)] at hx;by_cases e:j=i
   .subst e;rw [hi] at hx;cases hx;exact k4 y hy
   .exact Jo _ (h j x (by omega) hx y hy)
theorem zFM{nx:Tx->List Tx}{d:Nat}{a b:Tx}(hf:fin nx d 0 (nx a)=true):b∈bfs nx d 0 (nx a)↔Rc nx a b:=by
 constructor
 .exact zrm (Q:=λx=>Rc nx a x) (λx hx y hy=>hx.snoc hy) d 0 _ (λx hx=>.one hx) b
 .intro h;refine h.into (F:=λx=>x∈bfs nx d 0 (nx a)) (zp2 d 0 _ hf (λj x hj=>by omega)) λy hy=>?_;obtain ⟨t,e⟩:=IB (nx:=nx) d 0 (nx a);rw [e];exact Jo _ hy
theorem zvX{R:Type}{I:List Tx->Prop}{nx:Tx->List Tx}{stop:Tx->Option R}{body:List Tx×Int->Option (Sum (List Tx×Int) (Sum Unit R))}
  (hb:∀(i:Nat) Xc x,I Xc->Xc[i]?=some x->body (Xc,(i:Int))=match stop x with |some r=>some (.inr (.inr r)) |none=>some (.inl (push Xc (nx x),((i+1:Nat):Int))))
  (he:∀(i:Nat) Xc,I Xc->Xc.length≤i->body (Xc,(i:Int))=some (.inr (.inl ())))
  (hp:∀Xc x,I Xc->x∈Xc->I (push Xc (nx x))):∀(d i:Nat) (Xc:List Tx),I Xc->fin nx d i Xc=true ->
  zp body (Xc,(i:Int))=some (match ((bfs nx d i Xc).drop i).findSome? stop with |some r=>(Sum.inr r:Sum Unit R) |none=>Sum.inl ())
 | 0,i,Xc,hI,hf=>by
  have hl:Xc.length≤i:=of_decide_eq_true hf;rw [zK,he i Xc hI hl]
  show _=some (match (Xc.drop i).findSome? stop with |some r=>(Sum.inr r:Sum Unit R) |none=>Sum.inl ())
  rw [JC hl];rfl
 |d+1,i,Xc,hI,hf=>by
  unfold fin at hf;unfold bfs
  cases hi:Xc[i]? with
  |none =>
   have hl:Xc.length≤i:=JL.1 hi;rw [zK,he i Xc hI hl]
   show _=some (match (Xc.drop i).findSome? stop with |some r=>(Sum.inr r:Sum Unit R) |none=>Sum.inl ())
   rw [JC hl];rfl
  |some x =>
   rw [hi] at hf;obtain ⟨t,ht⟩:=IB (nx:=nx) d (i+1) (push Xc (nx x));obtain ⟨u,hu,_⟩:=HK (nx x) Xc
   have hx:(bfs nx d (i+1) (push Xc (nx x)))[i]?=some x:=by
    rw [ht,hu,Jv,Qm (Qb.1 hi).1,hi]
   obtain ⟨hlt,hge⟩:=Qb.1 hx;rw [zK,hb i Xc x hI hi]
   show _=some (match ((bfs nx d (i+1) (push Xc (nx x))).drop i).findSome? stop with |some r=>(Sum.inr r:Sum Unit R) |none=>Sum.inl ())
   rw [JK hlt,Q5,hge]
   cases stop x with
   |some r=>rfl
   |none=>exact zvX hb he hp d (i+1) _ (hp _ _ hI (Qc hi)) hf
def nxA(L:List za)(n:Tx):List Tx:=match cl L n with |none=>[] |some c=>(c.Super ::c.Impl).filter (λs=>!(s == []))
def nxI(L:List za)(n:Tx):List Tx:=match cl L n with |none=>[] |some c=>c.Impl
structure Dl(L:List za):Prop where
 nd:Nd L
 noE:Xh L []=false
 closed:∀c∈L,∀s∈c.Super ::c.Impl,s≠[]->Xh L s=true
 implE:∀c∈L,[] ∉ c.Impl
structure Wf(L:List za):Prop extends Dl L where
 acyc:∀n,¬Rc (nxA L) n n
 superF:∀c∈L,isF L c.Super=false
 implF:∀c∈L,∀s∈c.Impl,isF L s=true
theorem Dl.nxA_in{L:List za}(h:Dl L)(x y:Tx)(hy:y∈nxA L x):y∈L.map (·.Name):=by
 unfold nxA at hy;split at hy
 .cases hy
 .rename_i c hc;rw [Jj] at hy;exact Gc.1 (h.closed c (XU hc).1 y hy.1 (by have:=hy.2;simpa using this))
theorem Dl.nxI_in{L:List za}(h:Dl L)(x y:Tx)(hy:y∈nxI L x):y∈L.map (·.Name):=by
 unfold nxI at hy;split at hy
 .cases hy
 .rename_i c hc;exact Gc.1 (h.closed c (XU hc).1 y (Jm _ hy) (λe=>h.implE c (XU hc).1 (by rw [<-e];exact hy)))
def sup(L:List za):Nat->Tx->List Tx
 | 0,_=>[]
 |d+1,n=>match cl L n with |none=>[] |some c=>n ::sup L d c.Super
def KP(L:List za):Nat->Tx->Bool
 | 0,n=>!Xh L n
 |d+1,n=>match cl L n with |none=>true |some c=>KP L d c.Super
theorem zx8{L:List za}(h:Wf L):∀(d:Nat) (n:Tx),KP L d n=false->Xh L n=true/\∃r,sup L (d+1) n=n ::r/\r.length=d/\(n ::r).Nodup/\(∀x∈r,x∈L.map (·.Name)/\Rc (nxA L) n x)
 | 0,n,hf=>by
  have hn:Xh L n=true:=by simpa [KP] using hf
  obtain ⟨c,hc⟩:=Zc hn;exact ⟨hn,[],by simp [sup,hc],rfl,by simp,λx h=>(by cases h)⟩
 |d+1,n,hf=>by
  unfold KP at hf;split at hf
  .cases hf
  .rename_i c hc;obtain ⟨h0,r,h1,h2,h3,h4⟩:=zx8 h d c.Super hf
   have hs:c.Super∈nxA L n:=by
    unfold nxA;rw [hc];refine Jj.2 ⟨by simp,?_⟩
    have:c.Super≠[]:=λe=>by rw [e,h.noE] at h0;cases h0
    simpa using this
   have h5:∀x∈c.Super ::r,x∈L.map (·.Name)/\Rc (nxA L) n x:=λx hx=>by
    rcases Qr.1 hx with e |e
    .rw [e];exact ⟨Gc.1 h0,.one hs⟩
    .exact ⟨(h4 x e).1,.more hs (h4 x e).2⟩
   refine ⟨ZG hc,c.Super ::r,?_,by simp [h2],Jp.2 ⟨λhm=>h.acyc n (h5 n hm).2,h3⟩,h5⟩
   show (match cl L n with |none=>[] |some c=>n ::sup L (d+1) c.Super)=_
   rw [hc];show n ::sup L (d+1) c.Super=_;rw [h1]
theorem zx7{L:List za}(h:Wf L)(n:Tx):KP L L.length n=true:=by
 cases hf:KP L L.length n with
 |true=>rfl
 |false =>
  obtain ⟨h0,r,h1,h2,h3,h4⟩:=zx8 h _ n hf
  have:=zA2 h3 (b:=L.map (·.Name)) (λx hx=>by
   rcases Qr.1 hx with e |e
   .rw [e];exact Gc.1 h0
   .exact (h4 x e).1)
  simp at this;omega
def KO:Tx:=[79,98,106,101,99,116]
def H9:Tx:=[84,104,114,111,119,110]
def gC(n s:Tx):za:=za.mk n s false [] [] []
def giv:List za:=[gC KO [],gC H9 KO,gC [78,117,108,108,69,114,114] H9,gC [82,97,110,103,101,69,114,114] H9,gC [77,97,116,104,69,114,114] H9,gC [67,97,115,116,69,114,114] H9,
 gC [83,105,122,101,69,114,114] H9,gC [83,116,111,114,101,69,114,114] H9,gC [73,110,105,116,69,114,114] H9,gC [67,108,97,115,115,69,114,114] H9]
theorem ztH:zqa=some giv:=by kernel_rfl
theorem zuj:zqn=some giv:=by kernel_rfl
def Dn(k:Nat)(m:List (Tx×Int)):List za->List (Tx×Int)
 | []=>m
 |c ::r=>Dn (k+1) (ZM c.Name (k:Int) m) r
def fresh(pre:List za):List za->Bool
 | []=>true
 |c ::r=>!Xh pre c.Name&&fresh (pre++[c]) r
theorem zxJ:∀(r pre:List za) (m:List (Tx×Int)),Xu pre m->fresh pre r=true->Xu (pre++r) (Dn pre.length m r)
 | [],pre,m,h,_=>by simpa [Dn] using h
 |c ::r,pre,m,h,hf=>by
  simp only [fresh,Qd,Qn] at hf;have:=zxJ r (pre++[c]) _ (h.snoc hf.1) hf.2;simpa [Dn] using this
theorem zxs:∀(r pre:List za),Nd pre->fresh pre r=true->Nd (pre++r)
 | [],pre,h,_=>by simpa using h
 |c ::r,pre,h,hf=>by
  simp only [fresh,Qd,Qn] at hf;have:=zxs r (pre++[c]) (h.snoc hf.1) hf.2;simpa using this
theorem zEN:zp (λz=>zrH giv z.1 z.2) ([],0)=some (.inl (Dn 0 [] giv)):=by kernel_rfl
theorem zAn:Xu giv (Dn 0 [] giv):=zxJ giv [] [] (λn=>rfl) (by decide +kernel)
theorem B3:Nd giv:=zxs giv [] (λi j c d h=>by simp at h) (by decide +kernel)
def lay:List za->List za->Option (List za)
 |L,[]=>some L
 |L,c ::r=>cond (Xh L c.Name||!ZH c) none (lay (L++[c]) r)
theorem BW:∀(r L L':List za),Nd L->lay L r=some L'->L'=L++r/\Nd L'/\∀c∈r,ZH c=true
 | [],L,L',h,e=>by
  unfold lay at e;cases e;exact ⟨by simp,h,λc hc=>by cases hc⟩
 |c ::r,L,L',h,e=>by
  unfold lay at e
  cases h1:Xh L c.Name with
  |true=>rw [h1] at e;cases e
  |false =>
   cases h2:ZH c with
   |false=>rw [h1,h2] at e;cases e
   |true =>
    rw [h1,h2] at e;obtain ⟨k1,k2,k3⟩:=BW r (L++[c]) L' (h.snoc h1) e;refine ⟨by rw [k1];simp,k2,λd hd=>?_⟩
    rcases Qr.1 hd with e |e
    .rw [e];exact h2
    .exact k3 d e
theorem zHp{w:Nat}{L:List za}{c:za}(h:L.length≤1000)(hw:w≤1000):Xx w L [c]=some (L++[c]):=by
 refine Zk ?_ (by simp;omega);have:(L.length+[c].length)*w≤1001*1000:=Nat.mul_le_mul (by simp;omega) hw;omega
theorem zxC{l:List za}(hl:l.length≤16)(hc:∀c∈l,Di c):∀(r pre L:List za) (m:List (Tx×Int)),l=pre++r->Xu L m->L.length=10+pre.length ->
  (lay L r=none->zp (λz=>GM l z.1 z.2.1 z.2.2) (L,m,(pre.length:Int))=some (.inr (none,1))) /\
  (∀L',lay L r=some L'->∃m',Xu L' m'/\zp (λz=>GM l z.1 z.2.1 z.2.2) (L,m,(pre.length:Int))=some (.inl (L',m')))
 | [],pre,L,m,e,hm,hL=>by
  rw [Qx] at e;subst e;unfold lay;refine ⟨λh=>(by cases h),λL' h=>?_⟩;cases h;refine ⟨m,hm,?_⟩;rw [zK];show (GM l L m (l.length:Int)).bind _=_;unfold GM;rw [Xo];rfl
 |c ::r,pre,L,m,e,hm,hL=>by
  have hlen:l.length=pre.length+(r.length+1):=by rw [e];simp
  have hx:l[pre.length]?=some c:=by rw [e];simp
  have hcm:c∈l:=Qc hx
  have step:zp (λz=>GM l z.1 z.2.1 z.2.2) (L,m,(pre.length:Int))=(cond (Xh L c.Name||!ZH c) (some (.inr (.inr (none,1)))) (some (.inl (L++[c],ZM c.Name (L.length:Int) m,((pre.length+1:Nat):Int))))).bind (Sum.elim (zp (λz=>GM l z.1 z.2.1 z.2.2)) some):=by
   rw [zK];show (GM l L m (pre.length:Int)).bind _=_;congr 1;unfold GM;rw [Xn hx,zt,hx];simp only [cond_true,Qa];rw [hm.has,ztw (hc c hcm),zHp (by omega) (by omega),zP (by omega)];cases Xh L c.Name <;> cases ZH c <;> rfl
  rw [step];unfold lay
  cases h1:(Xh L c.Name||!ZH c) with
  |true=>exact ⟨λ_=>rfl,λL' h=>by cases h⟩
  |false =>
   rw [Qo] at h1;have:=zxC hl hc r (pre++[c]) (L++[c]) _ (by rw [e];simp) (hm.snoc h1.1) (by simp;omega);rw [show (pre++[c]).length=pre.length+1 by simp] at this;exact this
structure Okc(c:za):Prop where
 name:c.Name≠[]
 impl:c.Impl.length≤4
 implE:∀s∈c.Impl,s≠[]
theorem On{s:Tx}(h:XF s=true):s≠[]:=by
 intro e;subst e;unfold XF at h;simp at h
theorem BS{α:Type}{ok:α->Bool}{nm:α->List UInt8}:∀{l pre:List α},uB ok nm pre l=false->∀x∈l,ok x=true
 | [],_,_,x,hx=>by cases hx
 |y ::r,pre,h,x,hx=>by
  unfold uB at h;simp only [Qo,Q9] at h
  rcases Qr.1 hx with e |e
  .rw [e];exact h.1.1
  .exact BS h.2 x e
theorem zE5{c:za}(h:ZH c=true):Okc c:=by
 unfold ZH at h;simp only [Qd,Qn,decide_eq_true_eq] at h;obtain ⟨_,⟨⟨⟨⟨h1,h2⟩,h3,h4⟩,h5⟩,h6⟩⟩:=h;exact ⟨On h1,by omega,λs hs=>On (BS h3 s hs)⟩
theorem zEP:∀c∈giv,Okc c:=by
 intro c hc
 have h:giv.all (λc=>!(c.Name == [])&&(c.Impl == []))=true:=by decide +kernel
 have:=Ql.1 h c hc;simp only [Qd,Qn,beq_eq_false_iff_ne,beq_iff_eq] at this;exact ⟨this.1,by rw [this.2];simp,λs hs=>by rw [this.2] at hs;cases hs⟩
theorem ztO{l L:List za}(h:lay giv l=some L):∀c∈L,Okc c:=by
 obtain ⟨h1,h2,h3⟩:=BW l giv L B3 h;intro c hc;rw [h1] at hc
 rcases Qq.1 hc with e |e
 .exact zEP c e
 .exact zE5 (h3 c e)
theorem zwZ{c:za}(h:c.Impl.length≤4):Xx 16 [c.Super] c.Impl=some (c.Super ::c.Impl):=Zk (by simp;omega) (by simp;omega)
theorem zlX{c:za}(h:c.Impl.length≤4):Ow c=some (c.Super ::c.Impl):=by
 unfold Ow;rw [zwZ h];rfl
theorem zzY{l:List Tx}{L:List za}{m:List (Tx×Int)}(hm:Xu L m)(hl:l.length≤1000):zaz l L m=some (l.any λs=>!Xh L s):=by
 unfold zaz zcS
 rw [show ((zp (λz=>zbj l L m z) 0).bind λo=>zH o (λb=>zeL) some)=_ from Zq (l:=l) (p:=λs=>!Xh L s) (by omega)
  (λi x hx=>by unfold zbj zn0 U7;rw [Xn hx,zt,hx];simp only [cond_true,Qa];rw [hm.has]) (by unfold zbj;rw [Xo];rfl)]
 exact congrArg some (ZB _ 0 l)
theorem B4{L:List za}{m:List (Tx×Int)}(hm:Xu L m){n:Tx}(hn:Xh L n=true):Hg L m n=cl L n:=by
 unfold Hg;rw [hm.idx hn];cases cl L n <;> rfl
theorem zzZ{l:List Tx}{L:List za}{m:List (Tx×Int)}(hm:Xu L m)(hl:l.length≤1000)(hh:∀s∈l,Xh L s=true):zaA l L m=some (l.any λs=>!isF L s):=by
 unfold zaA zcT
 rw [show ((zp (λz=>zbk l L m z) 0).bind λo=>zH o (λb=>zeM) some)=_ from Zq (l:=l) (p:=λs=>!isF L s) (by omega)
  (λi x hx=>by
   obtain ⟨c,hc⟩:=Zc (hh x (Qc hx));unfold zbk zjx isF
   rw [Xn hx,zt,hx];simp only [cond_true,Qa];rw [B4 hm (ZG hc),hc];rfl) (by unfold zbk;rw [Xo];rfl)]
 exact congrArg some (ZB _ 0 l)
def cyc(L:List za)(n:Tx):Bool:=@decide (Rc (nxA L) n n) (Classical.propDecidable _)
theorem ztD{L:List za}{n:Tx}:cyc L n=true↔Rc (nxA L) n n:=by unfold cyc;exact @decide_eq_true_iff _ (Classical.propDecidable _)
def Uo(L:List za)(c:za):Bool:=isF L c.Super||(c.Impl.any (λs=>!isF L s)||cyc L c.Name)
theorem zr5{R:Type}{body:List Tx×Int->Option (Sum (List Tx×Int) (Sum (List Tx) R))}{l:List Tx}{p:Tx->Bool}(hl:l.length≤100)
  (hb:∀(i:Nat) x Xc,Xc.length≤1000->l[i]?=some x->body (Xc,(i:Int))=some (.inl (cond (p x&&!(Xc.any λy=>x == y)) (Xc++[x]) Xc,i64.wrap ((i:Int)+1))))
  (he:∀Xc,body (Xc,(l.length:Int))=some (.inr (.inl Xc))):∀(r pre Xc:List Tx),l=pre++r->Xc.length+r.length≤1000->zp body (Xc,(pre.length:Int))=some (.inl (push Xc (r.filter p)))
 | [],pre,Xc,e,hs=>by
  rw [Qx] at e;subst e;rw [zK,he];rfl
 |x ::r,pre,Xc,e,hs=>by
  have hlen:l.length=pre.length+(r.length+1):=by rw [e];simp
  have hx:l[pre.length]?=some x:=by rw [e];simp
  simp only [Qu] at hs;rw [zK,hb _ x Xc (by omega) hx,zP (by omega)];have ih:=λs h=>zr5 hl hb he r (pre++[x]) s (by rw [e];simp) h;rw [show (pre++[x]).length=pre.length+1 by simp] at ih
  cases h1:p x with
  |false =>
   rw [Yw (by rw [h1];exact Yi)];exact ih Xc (by omega)
  |true =>
   rw [Yx h1];unfold push
   cases h2:(Xc.any λy=>x == y) with
   |true=>exact ih Xc (by omega)
   |false=>exact ih (Xc++[x]) (by simp;omega)
theorem zq7{l:List Tx}(hl:l.length≤1000)(n:Tx):zR l n=some (l.any λy=>n == y):=zAr (by unfold XI;omega) n
theorem zAe{l Xc:List Tx}(hl:l.length≤100)(hs:Xc.length+l.length≤1000):zp (λz=>Ey l z.1 z.2) (Xc,0)=some (.inl (push Xc (l.filter (λs=>!(s == []))))):=by
 refine zr5 (l:=l) (p:=λs=>!(s == [])) hl (λi x s h hx=>?_) (λs=>?_) l [] Xc rfl hs
 .show Ey l s (i:Int)=_;unfold Ey zhg;rw [Xn hx,zt,hx];simp only [cond_true,Qa];rw [zq7 h,Zk (w:=16) (l:=s) (x:=[x]) (by simp;omega) (by simp;omega)];cases (x == []) <;> cases (s.any λy=>x == y) <;> rfl
 .show Ey l s (l.length:Int)=_;unfold Ey;rw [Xo];rfl
theorem WD{L:List za}{n:Tx}{c:za}(h:cl L n=some c):nxA L n=(c.Super ::c.Impl).filter (λs=>!(s == [])):=by unfold nxA;rw [h]
theorem zDW{L:List za}(hL:∀c∈L,Okc c)(n:Tx):(nxA L n).length≤5:=by
 unfold nxA;split
 .simp
 .rename_i c hc;have:=(hL c (XU hc).1).impl;exact QD (JY _ _) (by simp;omega)
theorem zC2(l Xc:List Tx):(push Xc l).length≤Xc.length+l.length:=by
 induction l generalizing Xc with
 |nil=>simp [push]
 |cons x r ih =>
  unfold push
  cases (Xc.any λy=>x == y) with
  |true=>have:=ih Xc;simp only [cond_true,Qu];omega
  |false=>have:=ih (Xc++[x]);simp only [cond_false,Qu];simp at this;omega
theorem zEJ{L:List za}{m:List (Tx×Int)}(hm:Xu L m)(h:Dl L)(hO:∀c∈L,Okc c)(hlen:L.length≤100){c:za}(hc:c∈L)(hs:c.Super≠[]):O2 L m c=some (!Uo L c):=by
 have hcs:=h.closed c hc;have hsup:Xh L c.Super=true:=hcs c.Super (by simp) hs;obtain ⟨x,hx⟩:=Zc hsup;have himp:∀s∈c.Impl,Xh L s=true:=λs hm=>hcs s (by simp [hm]) ((hO c hc).implE s hm);have hi4:=(hO c hc).impl
 have e0:(c.Super ::c.Impl)=nxA L c.Name:=by
  rw [WD (h.nd.cl hc),List.filter_eq_self.2];intro s hsm
  rcases Qr.1 hsm with e |e
  .rw [e];simpa using hs
  .simpa using (hO c hc).implE s e
 unfold O2;rw [B4 hm hsup,hx,zzZ hm (by omega) himp,zlX hi4];simp only [Qa]
 have eF:isF L c.Super=x.Interface:=by unfold isF;rw [hx]
 unfold Uo;rw [eF]
 cases x.Interface with
 |true=>rfl
 |false =>
  cases c.Impl.any (λs=>!isF L s) with
  |true=>rfl
  |false =>
   have hfin:fin (nxA L) (5+L.length) 0 (nxA L c.Name)=true:=zAc (U:=L.map (·.Name)) (s0:=nxA L c.Name) h.nxA_in _ _ _ .start (by have:=zDW hO c.Name;simp;omega)
   have hw:=zvX (R:=Bool) (I:=λs=>Inv (List.map (λc:za=>c.Name) L) (nxA L c.Name) s) (nx:=nxA L) (stop:=λy=>cond (y == c.Name) (some false) none) (body:=λz=>Bd L m c z.1 z.2)
    (λi Xc y hI hy=>by
     have hsl:=hI.len;have h5:=zDW hO c.Name;have hym:Xh L y=true:=Gc.2 (hI.mem (λz hz=>h.nxA_in _ z hz) y (Qc hy));obtain ⟨d,hd⟩:=Zc hym;have hd4:=(hO d (XU hd).1).impl;have hpl:=zC2 (nxA L y) Xc;simp only [Ja] at hsl;show Bd L m c Xc (i:Int)=_;unfold Bd zlo;rw [Xn hy,zt,hy];simp only [cond_true,Qa];have hilt:=(Qb.1 hy).1;rw [B4 hm hym,hd];simp only [Qa];rw [zlX hd4];simp only [Qa];rw [zAe (by simp;omega) (by simp;omega),<-WD hd,zP (by omega)]
     cases y == c.Name <;> rfl)
    (λi Xc hI hle=>by
     show Bd L m c Xc (i:Int)=_;unfold Bd
     rw [decide_eq_false (by omega)];rfl)
    (λzag y hI hy=>hI.push (h.nxA_in y)) (5+L.length) 0 (nxA L c.Name) .start hfin
   rw [e0];rw [show zp (λz=>Bd L m c z.1 z.2) (nxA L c.Name,0)=_ from hw,Ye,z7]
   have:(bfs (nxA L) (5+L.length) 0 (nxA L c.Name)).any (λy=>y == c.Name)=cyc L c.Name:=by
    rw [QT,ztD,<-zFM hfin,Qy];constructor
    .rintro ⟨y,h1,h2⟩;obtain rfl:=eq_of_beq h2;exact h1
    .intro h1;exact ⟨_,h1,beq_self_eq_true _⟩
   rw [this];cases cyc L c.Name <;> rfl
def onB(inn:List Bool)(n:Nat):Bool:=inn.getD n false
def ZE(L:List za)(inn:List Bool)(s:Tx):Bool:=Xh L s&&!onB inn (atN L s).toNat
def mk1(L:List za)(inn:List Bool)(s:Tx):List Bool:=cond (ZE L inn s) (inn.set (atN L s).toNat true) inn
def mkS(L:List za):List Bool->List Tx->List Bool
 |inn,[]=>inn
 |inn,s ::r=>mkS L (mk1 L inn s) r
theorem Wu{L:List za}{s:Tx}(h:Xh L s=true):0≤atN L s/\(atN L s).toNat<L.length:=by
 unfold Xh at h;unfold atN
 rcases Iq (λc:za=>c.Name == s) L 0 with ⟨j,x,h1,h2,h3,h4⟩ |⟨h1,h2⟩
 .have:=(Qb.1 h2).1;rw [h1];omega
 .rw [Qy] at h;obtain ⟨c,k1,k2⟩:=h;have:=Yh.1 h2 c k1;exact absurd k2 this
theorem zt2(L:List za)(inn:List Bool)(s:Tx):(mk1 L inn s).length=inn.length:=by
 unfold mk1;cases ZE L inn s <;> simp
theorem WJ(L:List za):∀(l:List Tx) (inn:List Bool),(mkS L inn l).length=inn.length
 | [],inn=>rfl
 |s ::r,inn=>by unfold mkS;rw [WJ L r,zt2]
theorem zDX{inn:List Bool}{n k:Nat}(h:n<inn.length):onB (inn.set n true) k=(onB inn k||Nat.beq k n):=by
 unfold onB;rw [Qi,Qi,List.getElem?_set];by_cases e:n=k
 .subst e;simp [h]
 .rw [if_neg e]
  have:Nat.beq k n=false:=by
   cases hb:Nat.beq k n with
   |false=>rfl
   |true=>exact absurd (Qj hb).symm e
  rw [this,Q0]
theorem zF7{L:List za}{inn:List Bool}(hl:inn.length=L.length)(s:Tx)(k:Nat):onB (mk1 L inn s) k=(onB inn k||(Xh L s&&Nat.beq k (atN L s).toNat)):=by
 unfold mk1 ZE
 cases h:Xh L s with
 |false=>simp
 |true =>
  cases h2:onB inn (atN L s).toNat with
  |false =>
   simp only [QL,JP,cond_true,QC];exact zDX (by rw [hl];exact (Wu h).2)
  |true =>
   simp only [Qt,Jt,cond_false,QC]
   cases h3:Nat.beq k (atN L s).toNat with
   |false=>simp
   |true=>rw [Qj h3,h2];rfl
theorem zxI{L:List za}:∀(l:List Tx) (inn:List Bool),inn.length=L.length->∀k,onB (mkS L inn l) k=(onB inn k||l.any (λs=>Xh L s&&Nat.beq k (atN L s).toNat))
 | [],inn,hl,k=>by simp [mkS]
 |s ::r,inn,hl,k=>by
  unfold mkS;rw [zxI r _ (by rw [zt2];exact hl),zF7 hl,Q3,J3]
theorem zvk{L:List za}:∀(l:List Tx) (inn:List Bool),l.any (ZE L inn)=false->mkS L inn l=inn
 | [],inn,_=>rfl
 |s ::r,inn,h=>by
  rw [Q3,Qo] at h;unfold mkS
  have:mk1 L inn s=inn:=by unfold mk1;rw [h.1];rfl
  rw [this,zvk r inn h.2]
theorem zqe{R:Type}{L:List za}{l:List Tx}{body:List Bool×Bool×Int->Option (Sum (List Bool×Bool×Int) (Sum (List Bool×Bool) R))}(hl:l.length≤1000)
  (hb:∀(j:Nat) s inn more,inn.length=L.length->l[j]?=some s->body (inn,more,(j:Int))=some (.inl (mk1 L inn s,more||ZE L inn s,i64.wrap ((j:Int)+1))))
  (he:∀inn more,body (inn,more,(l.length:Int))=some (.inr (.inl (inn,more)))):
  ∀(r pre:List Tx) (inn:List Bool) (more:Bool),l=pre++r->inn.length=L.length->zp body (inn,more,(pre.length:Int))=some (.inl (mkS L inn r,more||r.any (ZE L inn)))
 | [],pre,inn,more,e,hi=>by
  rw [Qx] at e;subst e;rw [zK,he];show some _=some _;simp [mkS]
 |s ::r,pre,inn,more,e,hi=>by
  have hlen:l.length=pre.length+(r.length+1):=by rw [e];simp
  have hx:l[pre.length]?=some s:=by rw [e];simp
  rw [zK,hb _ s inn more hi hx,zP (by omega)];have ih:=λi m h=>zqe hl hb he r (pre++[s]) i m (by rw [e];simp) h;rw [show (pre++[s]).length=pre.length+1 by simp] at ih;show zp body (mk1 L inn s,more||ZE L inn s,((pre.length+1:Nat):Int))=_;rw [ih _ _ (by rw [zt2];exact hi),Q3,show mkS L inn (s ::r)=mkS L (mk1 L inn s) r from rfl]
  cases h:ZE L inn s with
  |true=>simp
  |false =>
   have:mk1 L inn s=inn:=by unfold mk1;rw [h];rfl
   rw [this];simp
def Zx(L:List za)(nx:za->List Tx)(act:Nat->Bool):List Bool->Nat->List za->List Bool
 |inn,_,[]=>inn
 |inn,k,c ::r=>Zx L nx act (cond (onB inn k||act k) (mkS L inn (nx c)) inn) (k+1) r
def UG(L:List za)(nx:za->List Tx)(act:Nat->Bool):List Bool->Nat->List za->Bool
 |_,_,[]=>false
 |inn,k,c ::r=>cond (onB inn k||act k) ((nx c).any (ZE L inn)) false||UG L nx act (cond (onB inn k||act k) (mkS L inn (nx c)) inn) (k+1) r
section
variable {L : List za} {nx : za -> List Tx} {act : Nat -> Bool}
theorem zt9:∀(r:List za) (k:Nat) (inn:List Bool),(Zx L nx act inn k r).length=inn.length
 | [],k,inn=>rfl
 |c ::r,k,inn=>by
  unfold Zx;rw [zt9 r]
  cases onB inn k||act k
  .rfl
  .exact WJ L _ _
theorem zBu{inn:List Bool}(hl:inn.length=L.length)(b:Bool)(l:List Tx)(n:Nat)(h:onB inn n=true):onB (cond b (mkS L inn l) inn) n=true:=by
 cases b with
 |false=>exact h
 |true=>show onB (mkS L inn l) n=true;rw [zxI l inn hl,h];rfl
theorem zr2:∀(r:List za) (k:Nat) (inn:List Bool),inn.length=L.length->∀n,onB inn n=true->onB (Zx L nx act inn k r) n=true
 | [],k,inn,hl,n,h=>h
 |c ::r,k,inn,hl,n,h=>by
  unfold Zx;refine zr2 r (k+1) _ ?_ n (zBu hl _ _ n h)
  cases onB inn k||act k
  .exact hl
  .exact (WJ L _ _).trans hl
theorem zn4:∀(r:List za) (k:Nat) (inn:List Bool),UG L nx act inn k r=false->Zx L nx act inn k r=inn/\∀(j:Nat) c,r[j]?=some c->(onB inn (k+j)||act (k+j))=true->(nx c).any (ZE L inn)=false
 | [],k,inn,_=>⟨rfl,λj c h=>by simp at h⟩
 |c ::r,k,inn,h=>by
  unfold UG at h;unfold Zx;rw [Qo] at h
  have e:cond (onB inn k||act k) (mkS L inn (nx c)) inn=inn:=by
   cases hb:onB inn k||act k with
   |false=>rfl
   |true=>rw [hb] at h;exact zvk _ _ h.1
  rw [e] at h ⊢;obtain ⟨h1,h2⟩:=zn4 r (k+1) inn h.2;refine ⟨h1,λj d hj hb=>?_⟩
  cases j with
  |zero =>
   have:c=d:=by simpa using hj
   subst this;rw [Q6] at hb;rw [hb] at h;exact h.1
  |succ j=>exact h2 j d (by simpa using hj) (by rw [show k+1+j=k+(j+1) by omega];exact hb)
theorem zxU:∀(r:List za) (k:Nat) (inn:List Bool),inn.length=L.length->∀(j:Nat) c,r[j]?=some c->(onB inn (k+j)||act (k+j))=true->∀s∈nx c,Xh L s=true->onB (Zx L nx act inn k r) (atN L s).toNat=true
 | [],k,inn,hl,j,c,h,_=>by simp at h
 |d ::r,k,inn,hl,j,c,hj,hb=>by
  intro s hs hh;unfold Zx
  have hl2:(cond (onB inn k||act k) (mkS L inn (nx d)) inn).length=L.length:=by
   cases onB inn k||act k
   .exact hl
   .exact (WJ L _ _).trans hl
  cases j with
  |zero =>
   have:d=c:=by simpa using hj
   subst this;rw [Q6] at hb;refine zr2 r (k+1) _ hl2 _ ?_;rw [hb];show onB (mkS L inn (nx d)) _=true;rw [zxI _ _ hl,Qp];right;rw [Qy];exact ⟨s,hs,by rw [hh,QC];exact Nat.beq_refl _⟩
  |succ j =>
   refine zxU r (k+1) _ hl2 j c (by simpa using hj) ?_ s hs hh;rw [show k+1+j=k+(j+1) by omega];rw [Qp] at hb ⊢
   rcases hb with hb |hb
   .exact .inl (zBu hl _ _ _ hb)
   .exact .inr hb
theorem zqi{Q:Nat->Prop}:∀(r:List za) (k:Nat) (inn:List Bool),inn.length=L.length->(∀(j:Nat) c,r[j]?=some c->(Q (k+j)∨act (k+j)=true)->∀s∈nx c,Xh L s=true->Q (atN L s).toNat) ->
  (∀n,onB inn n=true->Q n)->∀n,onB (Zx L nx act inn k r) n=true->Q n
 | [],k,inn,hl,hQ,h=>h
 |c ::r,k,inn,hl,hQ,h=>by
  unfold Zx;refine zqi r (k+1) _ ?_ (λj d hj hor=>?_) (λn hn=>?_)
  .cases onB inn k||act k
   .exact hl
   .exact (WJ L _ _).trans hl
  .rw [show k+1+j=k+(j+1) by omega] at hor;exact hQ (j+1) d (by simpa using hj) hor
  .cases hb:onB inn k||act k with
   |false=>rw [hb] at hn;exact h n hn
   |true =>
    rw [hb] at hn;have hn:onB (mkS L inn (nx c)) n=true:=hn;rw [zxI _ _ hl,Qp] at hn
    rcases hn with hn |hn
    .exact h n hn
    .rw [Qy] at hn;obtain ⟨s,hs,hs2⟩:=hn;rw [Qd] at hs2;rw [Qj hs2.2];refine hQ 0 c rfl ?_ s hs hs2.1;rw [Q6];rw [Qp] at hb;exact hb.imp (h k) id
def cnt(inn:List Bool):Nat:=inn.count true
theorem zzX:∀(inn:List Bool) (n:Nat),n<inn.length->onB inn n=false->cnt (inn.set n true)=cnt inn+1
 | [],n,h,_=>by simp at h
 |b ::r,0,h,hb=>by
  have:b=false:=by simpa [onB] using hb
  subst this;simp [cnt]
 |b ::r,n+1,h,hb=>by
  have:=zzX r n (by simpa using h) (by simpa [onB] using hb);unfold cnt at this ⊢;rw [List.set_cons_succ,List.count_cons,List.count_cons,this];omega
theorem zEA{inn:List Bool}(hl:inn.length=L.length)(s:Tx):cnt (mk1 L inn s)=cnt inn+cond (ZE L inn s) 1 0:=by
 unfold mk1
 cases h:ZE L inn s with
 |false=>rfl
 |true =>
  unfold ZE at h;rw [Qd,Qn] at h;exact zzX inn _ (by rw [hl];exact (Wu h.1).2) h.2
theorem zzW:∀(l:List Tx) (inn:List Bool),inn.length=L.length->cnt inn+cond (l.any (ZE L inn)) 1 0≤cnt (mkS L inn l)
 | [],inn,hl=>by simp [mkS]
 |s ::r,inn,hl=>by
  have ih:=zzW r (mk1 L inn s) (by rw [zt2];exact hl);have h1:=zEA hl s;unfold mkS;rw [Q3]
  cases h:ZE L inn s with
  |true=>rw [h] at h1;simp only [cond_true] at h1;simp only [Bool.true_or,cond_true];omega
  |false =>
   have e:mk1 L inn s=inn:=by unfold mk1;rw [h];rfl
   rw [e] at ih ⊢;simpa using ih
theorem zxd:∀(r:List za) (k:Nat) (inn:List Bool),inn.length=L.length->cnt inn+cond (UG L nx act inn k r) 1 0≤cnt (Zx L nx act inn k r)
 | [],k,inn,hl=>by simp [Zx,UG]
 |c ::r,k,inn,hl=>by
  unfold Zx UG
  have hl2:(cond (onB inn k||act k) (mkS L inn (nx c)) inn).length=L.length:=by
   cases onB inn k||act k
   .exact hl
   .exact (WJ L _ _).trans hl
  have ih:=zxd r (k+1) _ hl2
  have h1:cnt inn+cond (cond (onB inn k||act k) ((nx c).any (ZE L inn)) false) 1 0≤cnt (cond (onB inn k||act k) (mkS L inn (nx c)) inn):=by
   cases onB inn k||act k with
   |false=>simp
   |true=>exact zzW _ _ hl
  generalize cond (onB inn k||act k) ((nx c).any (ZE L inn)) false=x at *
  generalize UG L nx act (cond (onB inn k||act k) (mkS L inn (nx c)) inn) (k+1) r=y at *
  cases x <;> cases y <;> simp only [Q0,Jw,cond_true,cond_false] at*<;> omega
theorem zFR(inn:List Bool):cnt inn≤inn.length:=List.count_le_length
theorem zr1{R X:Type}{st:List Bool->Bool->Int->X}{body:X->Option (Sum X (Sum (List Bool×Bool) R))}(hL:L.length≤1000)
  (hb:∀(k:Nat) c inn more,inn.length=L.length->L[k]?=some c->body (st inn more (k:Int))=some (.inl (cond (onB inn k||act k) (st (mkS L inn (nx c)) (more||(nx c).any (ZE L inn)) ((k+1:Nat):Int)) (st inn more ((k+1:Nat):Int)))))
  (he:∀inn more,body (st inn more (L.length:Int))=some (.inr (.inl (inn,more)))):
  ∀(r pre:List za) (inn:List Bool) (more:Bool),L=pre++r->inn.length=L.length->zp body (st inn more (pre.length:Int))=some (.inl (Zx L nx act inn pre.length r,more||UG L nx act inn pre.length r))
 | [],pre,inn,more,e,hi=>by
  rw [Qx] at e;subst e;rw [zK,he];show some _=some _;simp [Zx,UG]
 |c ::r,pre,inn,more,e,hi=>by
  have hx:L[pre.length]?=some c:=by rw [e];simp
  rw [zK,hb _ c inn more hi hx];have ih:=λi m h=>zr1 hL hb he r (pre++[c]) i m (by rw [e];simp) h;rw [show (pre++[c]).length=pre.length+1 by simp] at ih;unfold Zx UG
  cases onB inn pre.length||act pre.length with
  |false =>
   show zp body (st inn more ((pre.length+1:Nat):Int))=_;rw [ih _ _ hi];simp
  |true =>
   show zp body (st (mkS L inn (nx c)) _ ((pre.length+1:Nat):Int))=_;rw [ih _ _ (by rw [WJ];exact hi),J3];rfl
def zGS(L:List za)(nx:za->List Tx)(act:Nat->Bool)(R:List Bool):Prop:=
 ∀(k:Nat) c,L[k]?=some c->(onB R k||act k)=true->∀s∈nx c,Xh L s=true->onB R (atN L s).toNat=true
theorem zFn{inn:List Bool}(h:UG L nx act inn 0 L=false):zGS L nx act inn:=λk c hk hb s hs hh=>by
 have:=(zn4 L 0 inn h).2 k c hk (by rw [QM];exact hb);rw [QB] at this;have:=this s hs;unfold ZE at this;rw [hh,QC,Qn,Bool.not_eq_false] at this;exact this
theorem zqh{R X:Type}{st:List Bool->Bool->X}{body:X->Option (Sum X (Sum (List Bool) R))}{Q:Nat->Prop}
  (hb:∀inn,inn.length=L.length->body (st inn true)=some (.inl (st (Zx L nx act inn 0 L) (UG L nx act inn 0 L))))
  (he:∀inn,inn.length=L.length->body (st inn false)=some (.inr (.inl inn)))
  (hQ:∀(j:Nat) c,L[j]?=some c->(Q j∨act j=true)->∀s∈nx c,Xh L s=true->Q (atN L s).toNat):
  ∀(d:Nat) (inn:List Bool),inn.length=L.length->L.length≤d+cnt inn->(∀n,onB inn n=true->Q n) ->
  ∃F,zp body (st inn true)=some (.inl F)/\F.length=L.length/\zGS L nx act F/\(∀n,onB inn n=true->onB F n=true)/\(∀n,onB F n=true->Q n)
 |d,inn,hl,hd,hq=>by
  have hl2:(Zx L nx act inn 0 L).length=L.length:=(zt9 L 0 inn).trans hl;rw [zK,hb inn hl]
  cases hg:UG L nx act inn 0 L with
  |false =>
   have e:=(zn4 L 0 inn hg).1;refine ⟨inn,?_,hl,zFn hg,λn h=>h,hq⟩;show zp body (st _ false)=_;rw [zK,he _ hl2,e];rfl
  |true =>
   have hc:=zxd (nx:=nx) (act:=act) L 0 inn hl;rw [hg] at hc;simp only [cond_true] at hc;have hle:=zFR (Zx L nx act inn 0 L);have hq2:∀n,onB (Zx L nx act inn 0 L) n=true->Q n:=zqi L 0 inn hl (λj c hj hor=>by rw [QM] at hor;exact hQ j c hj hor) hq
   cases d with
   |zero=>omega
   |succ d =>
    obtain ⟨F,k1,k2,k3,k4,k5⟩:=zqh hb he hQ d _ hl2 (by omega) hq2;exact ⟨F,k1,k2,k3,λn h=>k4 n (zr2 L 0 inn hl n h),k5⟩
end
def mis(L:List za)(c:za):Bool:=(c.Super ::c.Impl).any (λs=>!Xh L s)
def Z4(l:List za):Option (List za)×Int:=
 cond (decide (16<(l.length:Int))) (none,3) (match lay giv l with
  |none=>(none,1)
  |some L=>cond (l.any (mis L)) (none,4) (cond (l.any (Uo L)) (none,1) (some L,0)))
theorem zwn{l L:List za}(h:lay giv l=some L)(hm:l.any (mis L)=false):Dl L/\∀c∈l,c.Super≠[]:=by
 obtain ⟨h1,h2,h3⟩:=BW l giv L B3 h;have hO:=ztO h
 have noE:Xh L []=false:=by
  cases hh:Xh L [] with
  |false=>rfl
  |true =>
   obtain ⟨c,hc⟩:=Zc hh;exact absurd (XU hc).2 (hO c (XU hc).1).name
 have hl:∀c∈l,∀s∈c.Super ::c.Impl,Xh L s=true:=λc hc s hs=>by
  have:=QB.1 hm c hc;unfold mis at this;rw [Yy,QB] at this;simpa using this s hs
 refine ⟨⟨h2,noE,λc hc s hs hne=>?_,λc hc hm=>(hO c hc).implE [] hm rfl⟩,λc hc e=>?_⟩
 .rw [h1] at hc
  rcases Qq.1 hc with e |e
  .have hg:giv.all (λc=>(c.Super ::c.Impl).all (λs=>s == []||Xh giv s))=true:=by decide +kernel
   have:=Ql.1 (Ql.1 hg c e) s hs;rw [Qp,beq_iff_eq] at this
   rcases this with e |e
   .exact absurd e hne
   .rw [Gc] at e ⊢;rw [h1,J8];exact Jo _ e
  .exact hl c e s hs
 .have:=hl c hc c.Super (by simp);rw [e,noE] at this;cases this
theorem zF9{l L:List za}{m:List (Tx×Int)}(hl:l.length≤16)(hm:Xu L m)(hO:∀c∈l,c.Impl.length≤4):
  zp (λz=>OJ l L m z) 0=some (XC () (cond (l.any (mis L)) (some (none,4)) none)):=by
 rw [<-z7];refine Zd (λi c hc=>?_) ?_
 .show OJ l L m (i:Int)=_;have:=hO c (Qc hc);have hi:=(Qb.1 hc).1;unfold OJ;rw [Xn hc,zt,hc];simp only [cond_true,Qa];rw [zlX this];simp only [Qa];rw [zzY hm (by simp;omega),zP (by omega)];simp only [Qa];show _=some (UF i (cond (mis L c) _ _));unfold mis;cases ((c.Super ::c.Impl).any λs=>!Xh L s) <;> rfl
 .show OJ l L m (l.length:Int)=_;unfold OJ;rw [Xo];rfl
theorem zGa{l L:List za}{m:List (Tx×Int)}(hl:l.length≤16)(hf:∀c∈l,O2 L m c=some (!Uo L c)):
  zp (λz=>OI l L m z) 0=some (XC () (cond (l.any (Uo L)) (some (none,1)) none)):=by
 rw [<-z7];refine Zd (λi c hc=>?_) ?_
 .show OI l L m (i:Int)=_;have hi:=(Qb.1 hc).1;unfold OI;rw [Xn hc,zt,hc];simp only [cond_true,Qa];rw [hf c (Qc hc),zP (by omega)];simp only [Qa];cases Uo L c <;> rfl
 .show OI l L m (l.length:Int)=_;unfold OI;rw [Xo];rfl
theorem zrD{l:List za}(hc:∀c∈l,Di c):∃m,(∀L,(Z4 l).1=some L->Xu L m)/\DH l=some ((Z4 l).1.map (λL=>zJ.mk L m),(Z4 l).2):=by
 unfold DH Z4
 cases hl:decide (16<(l.length:Int)) with
 |true=>exact ⟨[],λL h=>(by cases h),rfl⟩
 |false =>
  have hl:=of_decide_eq_false hl;rw [ztH];simp only [cond_false,Qa];rw [zEN];simp only [Qa,zH]
  have hl16:l.length≤16:=by omega
  obtain ⟨h1,h2⟩:=zxC hl16 hc l [] giv _ rfl zAn rfl;unfold zrE
  cases hy:lay giv l with
  |none =>
   rw [show zp (λz=>GM l z.1 z.2.1 z.2.2) (giv,Dn 0 [] giv,0)=_ from h1 hy];exact ⟨[],λL h=>(by cases h),rfl⟩
  |some L =>
   obtain ⟨m,hm,e⟩:=h2 L hy;rw [show zp (λz=>GM l z.1 z.2.1 z.2.2) (giv,Dn 0 [] giv,0)=_ from e];obtain ⟨k1,k2,k3⟩:=BW l giv L B3 hy;have hO:=ztO hy
   have hlL:∀c∈l,c∈L:=λc hc=>by rw [k1];exact List.mem_append_right _ hc
   have hlen:L.length≤100:=by rw [k1,QA];have:giv.length=10:=rfl;omega
   simp only [Qa,zH];unfold zrF;rw [zF9 hl16 hm (λc hc=>(hO c (hlL c hc)).impl)]
   cases hmis:l.any (mis L) with
   |true=>exact ⟨[],λL h=>(by cases h),rfl⟩
   |false =>
    obtain ⟨hL,hS⟩:=zwn hy hmis;simp only [cond_false,Qa,zH,XC];unfold zrG;rw [zGa hl16 (λc hc=>zEJ hm hL hO hlen (hlL c hc) (hS c hc))]
    cases hb:l.any (Uo L) with
    |true=>exact ⟨[],λL h=>(by cases h),rfl⟩
    |false=>exact ⟨m,λL' h=>(by cases h;exact hm),rfl⟩
theorem Zj{L:List za}(hl:L.length≤1000)(n:Tx):zX L n=some (atN L n):=by
 unfold zX
 rw [show ((zp (λz=>zis L n z) 0).bind λo=>zH o (λb=>znz) some)=_ from Zq (l:=L) (p:=λc:za=>c.Name == n) (by omega)
  (λi x hx=>by unfold zis;rw [Xn hx,zt,hx];rfl) (by unfold zis;rw [Xo];rfl)]
 rfl
theorem zAw{l:List za}(hl:l.length≤16)(hc:∀c∈l,Di c):∀(r pre L:List za),l=pre++r->L.length=10+pre.length ->
  zp (λz=>HR l z.1 z.2) (L,(pre.length:Int))=some (match lay L r with |none=>.inr (none,1) |some L'=>.inl L')
 | [],pre,L,e,hL=>by
  rw [Qx] at e;subst e;rw [zK];show (HR l L (l.length:Int)).bind _=_;unfold HR;rw [Xo];rfl
 |c ::r,pre,L,e,hL=>by
  have hlen:l.length=pre.length+(r.length+1):=by rw [e];simp
  have hx:l[pre.length]?=some c:=by rw [e];simp
  have hcm:c∈l:=Qc hx
  have step:zp (λz=>HR l z.1 z.2) (L,(pre.length:Int))=(cond (Xh L c.Name||!ZH c) (some (.inr (.inr (none,1)))) (some (.inl (L++[c],((pre.length+1:Nat):Int))))).bind (Sum.elim (zp (λz=>HR l z.1 z.2)) some):=by
   rw [zK];show (HR l L (pre.length:Int)).bind _=_;congr 1;unfold HR;rw [Xn hx,zt,hx];simp only [cond_true,Qa];rw [zqZ (hc c hcm),Zj (by omega),zHp (by omega) (by omega),zP (by omega)];simp only [Qa];rw [WB];cases Xh L c.Name <;> cases ZH c <;> rfl
  rw [step];unfold lay
  cases h1:(Xh L c.Name||!ZH c) with
  |true=>rfl
  |false =>
   have:=zAw hl hc r (pre++[c]) (L++[c]) (by rw [e];simp) (by simp;omega);rw [show (pre++[c]).length=pre.length+1 by simp] at this;exact this
theorem zGq{L:List za}(hL:L.length≤100){c:za}(hi:c.Impl.length≤4):zp (λz=>OF L c z) 0=some (XC () (cond (c.Impl.any (λs=>!Xh L s)) (some (none,4)) none)):=by
 rw [<-z7];refine Zd (λi s hs=>?_) ?_
 .show OF L c (i:Int)=_;have hi:=(Qb.1 hs).1;unfold OF;rw [Xn hs,zt,hs];simp only [cond_true,Qa];rw [Zj (by omega),zP (by omega)];simp only [Qa];rw [G4];cases Xh L s <;> rfl
 .show OF L c (c.Impl.length:Int)=_;unfold OF;rw [Xo];rfl
theorem zGr{L:List za}(hL:L.length≤100)(h1:1≤L.length)(hO:∀c∈L,Okc c):zp (λz=>OE L z) 1=some (XC () (cond ((L.drop 1).any (mis L)) (some (none,4)) none)):=by
 rw [<-z7];refine IH (k:=1) (λi c _ hc=>?_) ?_ h1
 .show OE L (i:Int)=_;have hi:=(Qb.1 hc).1;unfold OE;rw [Xn hc,zt,hc];simp only [cond_true,Qa];rw [Zj (by omega)];simp only [Qa];rw [G4,zGq hL (hO c (Qc hc)).impl];unfold zsa;rw [zP (by omega)];show _=some (UF i (cond (mis L c) _ _));unfold mis;rw [Q3];cases Xh L c.Super <;> cases (c.Impl.any λs=>!Xh L s) <;> rfl
 .show OE L (L.length:Int)=_;unfold OE;rw [Xo];rfl
theorem zv3{L:List za}{l:List Tx}(hL:L.length≤100)(hl:l.length≤100){inn:List Bool}(hi:inn.length=L.length)(more:Bool):
  zp (λz=>EB L l z.1 z.2.1 z.2.2) (inn,more,0)=some (.inl (mkS L inn l,more||l.any (ZE L inn))):=by
 refine zqe (l:=l) (by omega) (λj s inn more hi hs=>?_) (λinn more=>?_) l [] inn more rfl hi
 .show EB L l inn more (j:Int)=_;unfold EB zgt;rw [Xn hs,zt,hs];simp only [cond_true,Qa];rw [Zj (by omega)];simp only [Qa];rw [WB];unfold mk1 ZE
  cases hh:Xh L s with
  |false=>simp
  |true =>
   obtain ⟨g1,g2⟩:=Wu hh
   have e:idx inn (atN L s)=some (onB inn (atN L s).toNat):=by
    unfold idx onB;rw [if_pos g1,Qi,Qe (by omega)];rfl
   rw [e];simp only [cond_true,Qa,QC];cases onB inn (atN L s).toNat <;> simp
 .show EB L l inn more (l.length:Int)=_;unfold EB;rw [Xo];rfl
theorem zxP{inn:List Bool}{k:Nat}(h:k<inn.length):idx inn (k:Int)=some (onB inn k):=by
 rw [zt,Qe h];unfold onB;rw [Qi,Qe h];rfl
abbrev abv(c:za):List Tx:=c.Super ::c.Impl
theorem zsX{L:List za}(hL:L.length≤100)(hO:∀c∈L,Okc c)(v:Nat)(first:Bool){inn:List Bool}(hi:inn.length=L.length)(more:Bool):
  zp (λz=>Bi L (v:Int) first z.1 z.2.1 z.2.2) (inn,more,0)=some (.inl (Zx L abv (λk=>first&&Nat.beq k v) inn 0 L,more||UG L abv (λk=>first&&Nat.beq k v) inn 0 L)):=by
 refine zr1 (st:=λa b c=>(a,b,c)) (nx:=abv) (act:=λk=>first&&Nat.beq k v) (by omega) (λk c inn more hi hc=>?_) (λinn more=>?_) L [] inn more rfl hi
 .show Bi L (v:Int) first inn more (k:Int)=_
  have hk:=(Qb.1 hc).1;have h4:=(hO c (Qc hc)).impl;unfold Bi;rw [Xn hc,zxP (by omega),zt,hc];simp only [cond_true,Qa];rw [zwZ h4];simp only [Qa];rw [zv3 hL (by simp;omega) hi];unfold zgv zgu;rw [zP (by omega)]
  have e:((k:Int) == (v:Int))=Nat.beq k v:=by
   rw [QT,beq_iff_eq,Nat.beq_eq];omega
  rw [e]
  cases onB inn k <;> cases first <;> cases Nat.beq k v <;> rfl
 .show Bi L (v:Int) first inn more (L.length:Int)=_
  unfold Bi;rw [Xo];rfl
theorem zzw{L:List za}(hL:L.length≤100)(hO:∀c∈L,Okc c)(h:Dl L){v:Nat}{c0:za}(hv:L[v]?=some c0):zha L (v:Int)=some (cyc L c0.Name):=by
 have hvl:=(Qb.1 hv).1
 let Q:Nat->Prop:=λn=>∃c,L[n]?=some c/\Rc (nxA L) c0.Name c.Name
 have hnx:∀{c:za},c∈L->∀s∈abv c,Xh L s=true->s∈nxA L c.Name:=λ{c} hc s hs hh=>by
  rw [WD (h.nd.cl hc)];refine Jj.2 ⟨hs,?_⟩
  have:s≠[]:=λe=>by rw [e,h.noE] at hh;cases hh
  simpa using this
 have hat:∀{s:Tx},Xh L s=true->∃d,L[(atN L s).toNat]?=some d/\d.Name=s:=λ{s} hh=>by
  obtain ⟨d,hd⟩:=Zc hh;have e:=UW L s;rw [hd] at e;obtain ⟨g1,g2⟩:=Wu hh;refine ⟨d,?_,(XU hd).2⟩;unfold idx at e;rw [if_pos g1] at e;exact e
 have hQ:∀(a:Nat->Bool),(∀k,a k=true->k=v)->∀(j:Nat) c,L[j]?=some c->(Q j∨a j=true)->∀s∈abv c,Xh L s=true->Q (atN L s).toNat:=λa ha j c hj hor s hs hh=>by
  obtain ⟨d,hd,hd2⟩:=hat hh;have hsx:=hnx (Qc hj) s hs hh;refine ⟨d,hd,?_⟩;rw [hd2]
  rcases hor with ⟨c',hc',hr⟩ |hj2
  .rw [hj] at hc';cases hc';exact hr.snoc hsx
  .have:=ha j hj2;subst this;rw [hj] at hv;cases hv;exact .one hsx
 have body2:∀inn more first,Bh L (v:Int) inn more first=cond more ((zp (λz=>Bi L (v:Int) first z.1 z.2.1 z.2.2) (inn,false,0)).bind λo=>zH o (λb=>zks b.1 b.2) (λr=>some (.inr (.inr r)))) (some (.inr (.inl inn))):=λ_ _ _=>rfl
 have hrep:(List.replicate L.length false).length=L.length:=by simp
 have hoff:∀n,onB (List.replicate L.length false) n=false:=λn=>by
  unfold onB;rw [Qi,JT];split <;> rfl
 have hF:∃F,zp (λz=>Bh L (v:Int) z.1 z.2.1 z.2.2) (List.replicate L.length false,true,true)=some (.inl F)/\F.length=L.length/\zGS L abv (λ_=>false) F/\(∀s∈abv c0,Xh L s=true->onB F (atN L s).toNat=true)/\(∀n,onB F n=true->Q n):=by
  let inn1:=Zx L abv (λk=>true&&Nat.beq k v) (List.replicate L.length false) 0 L
  have hl1:inn1.length=L.length:=(zt9 L 0 _).trans hrep
  have hq1:∀n,onB inn1 n=true->Q n:=zqi L 0 _ hrep (λj c hj hor=>by
   rw [QM] at hor
   exact hQ (λk=>true&&Nat.beq k v) (λk hk=>by simpa using hk) j c hj hor) (λn hn=>by rw [hoff] at hn;cases hn)
  have ha1:∀s∈abv c0,Xh L s=true->onB inn1 (atN L s).toNat=true:=zxU L 0 _ hrep v c0 hv (by simp);rw [zK];show ∃F,(Bh L (v:Int) (List.replicate L.length false) true true).bind _=_/\_;rw [body2,zsX hL hO v true hrep false]
  cases hg:UG L abv (λk=>true&&Nat.beq k v) (List.replicate L.length false) 0 L with
  |false =>
   refine ⟨inn1,?_,hl1,?_,ha1,hq1⟩
   .show zp (λz=>Bh L (v:Int) z.1 z.2.1 z.2.2) (inn1,false,false)=_;rw [zK];rfl
   .have e:inn1=List.replicate L.length false:=(zn4 L 0 _ hg).1;rw [e];intro k c hk hb;rw [hoff] at hb;cases hb
  |true =>
   obtain ⟨F,k1,k2,k3,k4,k5⟩:=zqh (L:=L) (nx:=abv) (act:=λk=>false&&Nat.beq k v) (R:=Bool) (st:=λa b=>(a,b,false)) (body:=λz=>Bh L (v:Int) z.1 z.2.1 z.2.2) (Q:=Q)
    (λinn hi=>by
     show Bh L (v:Int) inn true false=_;rw [body2,zsX hL hO v false hi false]
     rfl) (λinn hi=>rfl) (hQ _ (λk hk=>by simp at hk)) L.length inn1 hl1 (by omega) hq1
   refine ⟨F,k1,k2,λk c hk hb=>k3 k c hk (by simpa using hb),λs hs hh=>k4 _ (ha1 s hs hh),k5⟩
 obtain ⟨F,f1,f2,f3,f4,f5⟩:=hF;unfold zha;rw [show mkP 1 (L.length:Int)=some L.length by unfold mkP;rw [if_pos (by omega),JF]];simp only [Qa];rw [f1];show (idx F (v:Int)).bind _=_;rw [zxP (by omega)];show some (onB F v)=_;congr 1;rw [QT,ztD];constructor
 .intro hb;obtain ⟨c,hc,hr⟩:=f5 v hb;rw [hv] at hc;cases hc;exact hr
 .intro hr
  have key:∀x,Rc (nxA L) c0.Name x->onB F (atN L x).toNat=true:=λx hx=>by
   refine hx.into (F:=λy=>onB F (atN L y).toNat=true/\Xh L y=true) (λy hy z hz=>?_) (λy hy=>?_) |>.1
   .have hz2:Xh L z=true:=Gc.2 (h.nxA_in y z hz);obtain ⟨d,hd,hd2⟩:=hat hy.2;refine ⟨f3 _ d hd (by rw [hy.1];rfl) z ?_ hz2,hz2⟩;rw [<-hd2,WD (h.nd.cl (Qc hd))] at hz;exact (Jj.1 hz).1
   .have hy2:Xh L y=true:=Gc.2 (h.nxA_in _ y hy);refine ⟨f4 y ?_ hy2,hy2⟩;rw [WD (h.nd.cl (Qc hv))] at hy;exact (Jj.1 hy).1
  have:=key _ hr;rw [h.nd.at hv,JF] at this;exact this
theorem Ii{L l:List za}(h:L=giv++l){n:Tx}{c:za}(hc:cl giv n=some c):cl L n=some c:=by
 rw [h];unfold cl at hc ⊢;rw [List.find?_append,hc];rfl
theorem zFP{L l:List za}(h:L=giv++l){n:Tx}(hn:Xh giv n=true):cl L n=cl giv n:=by
 obtain ⟨c,hc⟩:=Zc hn;rw [hc,Ii h hc]
theorem zEV{L l:List za}(h:L=giv++l){n:Tx}(hn:Xh giv n=true):Xh L n=true:=by
 obtain ⟨c,hc⟩:=Zc hn;exact ZG (Ii h hc)
theorem zCw:giv.all (λc=>(nxA giv c.Name).all (λs=>decide (atN giv s<atN giv c.Name)&&Xh giv s))=true:=by decide +kernel
theorem zFX{L l:List za}(h:L=giv++l){a b:Tx}(hr:Rc (nxA L) a b):Xh giv a=true->atN giv b<atN giv a/\Xh giv b=true:=by
 have one:∀{a b:Tx},b∈nxA L a->Xh giv a=true->atN giv b<atN giv a/\Xh giv b=true:=λ{a b} hb ha=>by
  have e:nxA L a=nxA giv a:=by unfold nxA;rw [zFP h ha]
  rw [e] at hb;obtain ⟨c,hc⟩:=Zc ha;have h1:=Ql.1 zCw c (XU hc).1;rw [(XU hc).2] at h1;have h2:=Ql.1 h1 b hb;rw [Qd,decide_eq_true_eq] at h2;exact h2
 induction hr with
 |one hb=>exact one hb
 |more hb _ ih =>
  intro ha;have h1:=one hb ha;have h2:=ih h1.2;exact ⟨by omega,h2.2⟩
theorem zEL{L l:List za}(h:L=giv++l){c:za}(hc:c∈giv):cyc L c.Name=false:=by
 cases hh:cyc L c.Name with
 |false=>rfl
 |true =>
  have:=(zFX h (ztD.1 hh) (ZG (B3.cl hc))).1;omega
theorem zAm:giv.all (λc=>(c.Impl == [])&&!c.Interface&&(c.Super == []||Xh giv c.Super))=true:=by decide +kernel
theorem zuZ:(giv.drop 1).all (λc=>!(c.Super == []))=true:=by decide +kernel
theorem zCv{c:za}(hc:c∈giv):c.Impl=[]/\c.Interface=false/\(c.Super=[]∨Xh giv c.Super=true):=by
 have:=Ql.1 zAm c hc;simp only [Qd,beq_iff_eq,Qn,Qp] at this;exact ⟨this.1.1,this.1.2,this.2⟩
theorem zEM{L l:List za}(h:L=giv++l){n:Tx}(hn:Xh giv n=true):isF L n=false:=by
 obtain ⟨c,hc⟩:=Zc hn;unfold isF;rw [Ii h hc];exact (zCv (XU hc).1).2.1
theorem zAk{L l:List za}(h:L=giv++l)(hE:Xh L []=false){c:za}(hc:c∈giv):Uo L c=false:=by
 obtain ⟨h1,h2,h3⟩:=zCv hc;unfold Uo;rw [zEL h hc,h1]
 rcases h3 with e |e
 .rw [e]
  have:isF L []=false:=by
   unfold isF
   cases hcl:cl L [] with
   |none=>rfl
   |some d=>rw [ZG hcl] at hE;cases hE
  rw [this];rfl
 .rw [zEM h e];rfl
theorem zEO{L l:List za}(h:L=giv++l){c:za}(hc:c∈giv.drop 1):mis L c=false:=by
 obtain ⟨h1,h2,h3⟩:=zCv (J5 hc);have hs:=Ql.1 zuZ c hc;unfold mis;rw [h1,Q3,List.any_nil,Q0]
 rcases h3 with e |e
 .rw [e] at hs;cases hs
 .rw [zEV h e];rfl
theorem zxf{L l:List za}(h:L=giv++l){p:za->Bool}(hp:∀c∈giv.drop 1,p c=false):(L.drop 1).any p=l.any p:=by
 have e:L.drop 1=giv.drop 1++l:=by rw [h];rfl
 rw [e,List.any_append,QB.2 (λc hc=>by rw [hp c hc];exact Yi),QX]
theorem DE{L:List za}{n:Tx}{c:za}(h:cl L n=some c):idx L (atN L n)=some c:=by rw [UW,h]
theorem zBb{L:List za}(hL:L.length≤100){c:za}(hi:c.Impl.length≤4)(hh:∀s∈c.Impl,Xh L s=true)(b:Bool):
  zp (λz=>HU L c z.1 z.2) (b,0)=some (.inl (b||c.Impl.any (λs=>!isF L s))):=by
 have key:∀(r pre:List Tx) (b:Bool),c.Impl=pre++r->zp (λz=>HU L c z.1 z.2) (b,(pre.length:Int))=some (.inl (b||r.any (λs=>!isF L s))):=by
  intro r
  induction r with
  |nil =>
   intro pre b e;rw [Qx] at e;rw [zK];show (HU L c b (pre.length:Int)).bind _=_;unfold HU;rw [<-e,Xo];simp
  |cons s r ih =>
   intro pre b e
   have hlen:c.Impl.length=pre.length+(r.length+1):=by rw [e];simp
   have hx:c.Impl[pre.length]?=some s:=by rw [e];simp
   obtain ⟨d,hd⟩:=Zc (hh s (Qc hx))
   have step:HU L c b (pre.length:Int)=some (.inl (b||!isF L s,((pre.length+1:Nat):Int))):=by
    unfold HU;rw [Xn hx,zt,hx];simp only [cond_true,Qa];rw [Zj (by omega)];simp only [Qa];rw [DE hd,zP (by omega)];unfold isF;rw [hd];cases b <;> rfl
   rw [zK];show (HU L c b (pre.length:Int)).bind _=_;rw [step];show zp (λz=>HU L c z.1 z.2) (b||!isF L s,((pre.length+1:Nat):Int))=_;have:=ih (pre++[s]) (b||!isF L s) (by rw [e];simp);rw [show (pre++[s]).length=pre.length+1 by simp] at this;rw [this,Q3,J3]
 exact key c.Impl [] b rfl
theorem zFe{L:List za}(hL:L.length≤100)(h1:1≤L.length)(hO:∀c∈L,Okc c)(h:Dl L)(hS:∀c∈L.drop 1,c.Super≠[]):
  zp (λz=>OC L z) 1=some (XC () (cond ((L.drop 1).any (Uo L)) (some (none,1)) none)):=by
 rw [<-z7];refine IH (k:=1) (λi c hk hc=>?_) ?_ h1
 .show OC L (i:Int)=_;have hcm:=Qc hc;have hi:=(Qb.1 hc).1;have hcd:c∈L.drop 1:=Qc (i:=i-1) (by rw [Jz,show 1+(i-1)=i by omega,hc]);obtain ⟨x,hx⟩:=Zc (h.closed c hcm c.Super (by simp) (hS c hcd));have himp:∀s∈c.Impl,Xh L s=true:=λs hs=>h.closed c hcm s (by simp [hs]) ((hO c hcm).implE s hs);unfold OC;rw [Xn hc,zt,hc];simp only [cond_true,Qa];rw [Zj (by omega)];simp only [Qa];rw [DE hx];simp only [Qa];rw [zzw hL hO h hc];simp only [Qa];unfold zk2;rw [zBb hL (hO c hcm).impl himp,zBb hL (hO c hcm).impl himp];simp only [Qa,zH];unfold zqN;rw [zP (by omega)];show _=some (UF i (cond (Uo L c) _ _));unfold Uo;rw [show isF L c.Super=x.Interface by unfold isF;rw [hx]];cases x.Interface <;> cases (c.Impl.any λs=>!isF L s) <;> cases cyc L c.Name <;> rfl
 .show OC L (L.length:Int)=_;unfold OC;rw [Xo];rfl
theorem zyv{L l:List za}(h:L=giv++l)(hS:∀c∈l,c.Super≠[]):∀c∈L.drop 1,c.Super≠[]:=by
 have e:L.drop 1=giv.drop 1++l:=by rw [h];rfl
 intro c hc;rw [e] at hc
 rcases Qq.1 hc with e |e
 .have:=Ql.1 zuZ c e;intro e2;rw [e2] at this;cases this
 .exact hS c e
theorem zr8{l:List za}(hc:∀c∈l,Di c):IC l=some ((Z4 l).1.map zB.mk,(Z4 l).2):=by
 unfold IC Z4
 cases hl:decide (16<(l.length:Int)) with
 |true=>rfl
 |false =>
  have hl:=of_decide_eq_false hl;rw [zuj];simp only [cond_false,Qa]
  have hl16:l.length≤16:=by omega
  rw [show zp (λz=>HR l z.1 z.2) (giv,0)=_ from zAw hl16 hc l [] giv rfl rfl]
  cases hy:lay giv l with
  |none=>rfl
  |some L =>
   obtain ⟨k1,k2,k3⟩:=BW l giv L B3 hy;have hO:=ztO hy
   have hlen:L.length≤100:=by rw [k1,QA];have:giv.length=10:=rfl;omega
   have hpos:1≤L.length:=by rw [k1,QA];have:giv.length=10:=rfl;omega
   simp only [Qa,zH];unfold zr9;rw [zGr hlen hpos hO,zxf k1 (λc hc=>zEO k1 hc)]
   cases hmis:l.any (mis L) with
   |true=>rfl
   |false =>
    obtain ⟨hL,hS⟩:=zwn hy hmis;simp only [cond_false,Qa,zH,XC];unfold zsb;rw [zFe hlen hpos hO hL (zyv k1 hS),zxf k1 (λc hc=>zAk k1 hL.noE (J5 hc))]
    cases hb:l.any (Uo L) with
    |true=>rfl
    |false=>rfl
structure Xi(l L:List za):Prop extends Wf L where
 app:L=giv++l
 few:l.length≤16
 okc:∀c∈L,Okc c
 may:∀c∈l,ZH c=true
theorem Xi.len{l L:List za}(h:Xi l L):L.length≤26:=by
 rw [h.app,QA];have:giv.length=10:=rfl;have:=h.few;omega
theorem zvn{l L:List za}(h:(Z4 l).1=some L):Xi l L/\(Z4 l).2=0:=by
 unfold Z4 at h ⊢
 cases hl:decide (16<(l.length:Int)) with
 |true=>rw [hl] at h;cases h
 |false =>
  rw [hl] at h;have hl:=of_decide_eq_false hl;simp only [cond_false] at h ⊢
  cases hy:lay giv l with
  |none=>rw [hy] at h;cases h
  |some L' =>
   rw [hy] at h;simp only at h ⊢
   cases hmis:l.any (mis L') with
   |true=>rw [hmis] at h;cases h
   |false =>
    cases hb:l.any (Uo L') with
    |true=>rw [hmis,hb] at h;cases h
    |false =>
     rw [hmis,hb] at h
     have e:L'=L:=by
      have h:some L'=some L:=h;cases h;rfl
     subst e;obtain ⟨hL,hS⟩:=zwn hy hmis;obtain ⟨k1,k2,k3⟩:=BW l giv L' B3 hy
     have bad:∀c∈L',Uo L' c=false:=λc hc=>by
      rw [k1] at hc
      rcases Qq.1 hc with e |e
      .exact zAk k1 hL.noE e
      .simpa using QB.1 hb c e
     have bad':∀c∈L',isF L' c.Super=false/\(c.Impl.any (λs=>!isF L' s)=false/\cyc L' c.Name=false):=λc hc=>by
      have:=bad c hc;unfold Uo at this;rw [Qo,Qo] at this;exact this
     refine ⟨⟨⟨hL,λn hr=>?_,λc hc=>(bad' c hc).1,λc hc s hs=>?_⟩,k1,by omega,ztO hy,k3⟩,rfl⟩
     .cases hn:cl L' n with
      |none =>
       have:nxA L' n=[]:=by unfold nxA;rw [hn]
       cases hr with
       |one h=>rw [this] at h;cases h
       |more h _=>rw [this] at h;cases h
      |some c =>
       have h1:=(bad' c (XU hn).1).2.2;rw [(XU hn).2] at h1;rw [ztD.2 hr] at h1;cases h1
     .have:=QB.1 (bad' c hc).2.1 s hs;simpa using this
theorem zAG{l:List za}(h:(Z4 l).1=none):(Z4 l).2≠0:=by
 unfold Z4 at h ⊢
 cases hl:decide (16<(l.length:Int)) with
 |true=>simp
 |false =>
  rw [hl] at h;simp only [cond_false] at h ⊢
  cases hy:lay giv l with
  |none=>simp
  |some L' =>
   rw [hy] at h;simp only at h ⊢
   cases hmis:l.any (mis L') with
   |true=>simp
   |false =>
    cases hb:l.any (Uo L') with
    |true=>simp
    |false=>rw [hmis,hb] at h;simp at h
section
variable {l L : List za} {m : List (Tx × Int)}
theorem zsm(h:Xi l L)(hm:Xu L m):∀(d:Nat) (n:Tx) (acc:List Tx),KP L d n=true->acc.length+d≤200->zp (λz=>Bu L m z.1 z.2) (n,acc)=some (.inl (acc++sup L d n))
 | 0,n,acc,hf,hd=>by
  rw [zK];show (Bu L m n acc).bind _=_;unfold Bu U7;rw [hm.has]
  have:Xh L n=false:=by simpa [KP] using hf
  rw [this];simp [sup]
 |d+1,n,acc,hf,hd=>by
  rw [zK];show (Bu L m n acc).bind _=_;unfold Bu U7;rw [hm.has];unfold KP at hf;unfold sup
  cases hc:cl L n with
  |none=>rw [HG hc];simp
  |some c =>
   rw [hc] at hf;rw [ZG hc,B4 hm (ZG hc),hc,Zk (by simp;omega) (by simp;omega)];show zp (λz=>Bu L m z.1 z.2) (c.Super,acc++[n])=_;rw [zsm h hm d c.Super (acc++[n]) hf (by simp;omega)];simp
def Xq(L:List za)(n:Tx):List Tx:=sup L L.length n
theorem WW(h:Xi l L)(hm:Xu L m)(n:Tx):GP L m n=some (Xq L n):=by
 unfold GP;rw [zsm h hm L.length n [] (zx7 h.toWf n) (by have:=h.len;simp;omega)];rfl
theorem znJ(h:Xi l L):∀(d:Nat) (n:Tx) (acc:List Tx),KP L d n=true->acc.length+d≤200->zp (λz=>Bt L z.1 z.2) (acc,atN L n)=some (.inl (acc++sup L d n))
 | 0,n,acc,hf,hd=>by
  rw [zK];show (Bt L acc (atN L n)).bind _=_;unfold Bt
  have:Xh L n=false:=by simpa [KP] using hf
  rw [WB,this];simp [sup]
 |d+1,n,acc,hf,hd=>by
  rw [zK];show (Bt L acc (atN L n)).bind _=_;unfold Bt;rw [WB];unfold KP at hf;unfold sup
  cases hc:cl L n with
  |none=>rw [HG hc];simp
  |some c =>
   rw [hc] at hf;have:=h.len;rw [ZG hc,DE hc];simp only [cond_true,Qa];rw [Zj (by omega),Zk (by simp;omega) (by simp;omega),(XU hc).2];show zp (λz=>Bt L z.1 z.2) (acc++[n],atN L c.Super)=_;rw [znJ h d c.Super (acc++[n]) hf (by simp;omega)];simp
theorem W6(h:Xi l L)(n:Tx):GO L n=some (Xq L n):=by
 have:=h.len;unfold GO;rw [Zj (by omega)];simp only [Qa];rw [znJ h L.length n [] (zx7 h.toWf n) (by simp;omega)];rfl
theorem zBy:∀(d:Nat) (n:Tx),(sup L d n).length≤d
 | 0,n=>by simp [sup]
 |d+1,n=>by
  unfold sup
  cases cl L n with
  |none=>simp
  |some c=>have:=zBy d c.Super;simpa using this
theorem UM(h:Xi l L)(n:Tx):(Xq L n).length≤26:=QD (zBy _ n) h.len
theorem zwW(h:Xi l L):∀d,sup L d []=[]
 | 0=>rfl
 |d+1=>by
  unfold sup
  cases hE:cl L [] with
  |none=>rfl
  |some c=>have:=ZG hE;rw [h.noE] at this;cases this
theorem G6(h:Xi l L):∀(d:Nat) (n x:Tx),x∈sup L d n->Xh L x=true/\(x=n∨Rc (nxA L) n x)/\(x=n∨∃c∈L,x=c.Super)
 | 0,n,x,hx=>by simp [sup] at hx
 |d+1,n,x,hx=>by
  unfold sup at hx
  cases hc:cl L n with
  |none=>rw [hc] at hx;cases hx
  |some c =>
   rw [hc] at hx
   rcases Qr.1 hx with e |e
   .subst e;exact ⟨ZG hc,.inl rfl,.inl rfl⟩
   .obtain ⟨h1,h2,h3⟩:=G6 h d c.Super x e
    have hne:c.Super≠[]:=λe2=>by rw [e2,zwW h] at e;cases e
    have h6:c.Super∈nxA L n:=by rw [WD hc];exact Jj.2 ⟨by simp,by simpa using hne⟩
    refine ⟨h1,.inr ?_,.inr ?_⟩
    .rcases h2 with e2 |e2
     .rw [e2];exact .one h6
     .exact .more h6 e2
    .rcases h3 with e2 |e2
     .exact ⟨c,(XU hc).1,e2⟩
     .exact e2
theorem zvR(h:Xi l L):∀(d:Nat) (n:Tx),(sup L d n).Nodup
 | 0,n=>by simp [sup]
 |d+1,n=>by
  unfold sup
  cases hc:cl L n with
  |none=>simp
  |some c =>
   refine Jp.2 ⟨λhm=>?_,zvR h d c.Super⟩
   have hne:c.Super≠[]:=λe2=>by rw [e2,zwW h] at hm;cases hm
   have h6:c.Super∈nxA L n:=by rw [WD hc];exact Jj.2 ⟨by simp,by simpa using hne⟩
   obtain ⟨_,h2,_⟩:=G6 h d c.Super n hm
   rcases h2 with e2 |e2
   .exact h.acyc n (.one (by rw [<-e2] at h6;exact h6))
   .exact h.acyc n (.more h6 e2)
theorem zBw(h:Xi l L){n x:Tx}(hx:x∈Xq L n):x∈L.map (·.Name):=Gc.1 (G6 h _ n x hx).1
theorem zBx{n:Tx}(hn:Xh L n=true):n∈Xq L n:=by
 unfold Xq;obtain ⟨c,hc⟩:=Zc hn
 have:L≠[]:=λe=>by rw [e] at hn;cases hn
 cases hL:L.length with
 |zero=>exact absurd (Qf hL) this
 |succ d=>unfold sup;rw [hc];simp
theorem WX{n:Tx}(hn:Xh L n=false):Xq L n=[]:=by
 unfold Xq
 cases L.length with
 |zero=>rfl
 |succ d =>
  unfold sup
  cases hc:cl L n with
  |none=>rfl
  |some c=>rw [ZG hc] at hn;cases hn
end
theorem ztP:∀(a b:List UInt8),Op.bytesLess a b=true↔a<b
 |a,[]=>by
  have e:Op.bytesLess a []=false:=by cases a <;> rfl
  rw [e];constructor
  .intro h;cases h
  .intro h;exact absurd h (List.not_lt_nil a)
 | [],b ::y=>by
  constructor
  .intro _;exact List.nil_lt_cons b y
  .intro _;rfl
 |a ::x,b ::y=>by
  rw [List.cons_lt_cons_iff,<-ztP x y];show (decide (a<b)||(a == b&&Op.bytesLess x y))=true↔_;rw [Qp,decide_eq_true_eq,Qd,beq_iff_eq]
theorem zu2:∀(s:Tx) (l:List Tx),U9 s l=l.takeWhile (λx=>Op.bytesLess x s)++s ::l.dropWhile (λx=>Op.bytesLess x s)
 |s,[]=>rfl
 |s,x ::r=>by
  unfold U9;rw [Jr,Jx];by_cases h:s≤x
  .rw [if_pos h];have:¬(Op.bytesLess x s=true):=λh2=>absurd ((ztP x s).1 h2) (List.not_lt.2 h);rw [if_neg this,if_neg this];rfl
  .rw [if_neg h];have:Op.bytesLess x s=true:=(ztP x s).2 (List.not_le.1 h);rw [if_pos this,if_pos this,zu2 s r];rfl
theorem znI{s:Tx}{l:List Tx}(hl:l.length≤1000):∀(r pre:List Tx),l=pre++r->zp (λz=>D0 l s z) (pre.length:Int)=some (.inl ((pre.length+(r.takeWhile (λx=>Op.bytesLess x s)).length:Nat):Int))
 | [],pre,e=>by
  rw [Qx] at e;rw [zK];show (D0 l s (pre.length:Int)).bind _=_;unfold D0;rw [<-e,Xo];rfl
 |x ::r,pre,e=>by
  have hlen:l.length=pre.length+(r.length+1):=by rw [e];simp
  have hx:l[pre.length]?=some x:=by rw [e];simp
  rw [zK];show (D0 l s (pre.length:Int)).bind _=_;unfold D0;rw [Xn hx,zt,hx,Jr,zP (by omega)]
  cases hb:Op.bytesLess x s with
  |false=>simp [hb]
  |true =>
   simp only [cond_true,Qa,hb,if_true];show zp (λz=>D0 l s z) ((pre.length+1:Nat):Int)=_;have:=znI (s:=s) hl r (pre++[x]) (by rw [e];simp);rw [show (pre++[x]).length=pre.length+1 by simp] at this;rw [this,Qu];congr 2;omega
theorem zBC{α:Type}(p:α->Bool):∀(l:List α),l.take (l.takeWhile p).length=l.takeWhile p/\l.drop (l.takeWhile p).length=l.dropWhile p/\(l.takeWhile p).length≤l.length
 | []=>by simp
 |x ::r=>by
  rw [Jr,Jx]
  cases p x with
  |false=>simp
  |true =>
   obtain ⟨h1,h2,h3⟩:=zBC p r;simp [h1,h2,h3]
theorem zuo{s:Tx}{l:List Tx}(hl:l.length≤900):zmk l s=some (U9 s l):=by
 unfold zmk;obtain ⟨h1,h2,h3⟩:=zBC (λx=>Op.bytesLess x s) l;rw [show zp (λz=>D0 l s z) 0=_ from znI (by omega) l [] rfl];simp only [Qa,zH,Je,QM];unfold zoB;rw [Ob h3,h1];simp only [Qa];rw [Zk (w:=16) (l:=[]) (by simp;omega) (by simp;omega)];simp only [Qa,JR];rw [Hd h3,h2];simp only [Qa];rw [Zk (w:=16) (x:=[s]) (by simp;omega) (by simp;omega)];simp only [Qa]
 have h4:(l.dropWhile (λx=>Op.bytesLess x s)).length≤l.length:=by rw [<-h2,List.length_drop];omega
 rw [Zk (w:=16) (by simp;omega) (by simp;omega),zu2];simp
theorem zoJ:∀{l:List Tx} (a:Tx),l.Nodup->l.count a=if a∈l then 1 else 0
 | [],a,_=>by simp
 |x ::r,a,h=>by
  rw [Jp] at h;rw [List.count_cons,zoJ a h.2];by_cases e:x=a
  .subst e;simp [h.1]
  .have:a≠x:=λe2=>e e2.symm;simp [e,this]
theorem zyX{a b:List Tx}(ha:a.Nodup)(hb:b.Nodup)(h:∀x,x∈a↔x∈b):a.Perm b:=by
 rw [List.perm_iff_count];intro x;rw [zoJ x ha,zoJ x hb];by_cases hx:x∈a
 .rw [if_pos hx,if_pos ((h x).1 hx)]
 .rw [if_neg hx,if_neg (λhb=>hx ((h x).2 hb))]
theorem zBl{a b:List Tx}(ha:a.Pairwise (·≤·))(hb:b.Pairwise (·≤·))(h:a.Perm b):a=b:=
 Ys (λa b _ _ h1 h2=>List.le_antisymm h1 h2) ha hb h
theorem zuT{nx:Tx->List Tx}:∀(d i:Nat) (Xc:List Tx),Xc.Nodup->(bfs nx d i Xc).Nodup
 | 0,i,Xc,h=>h
 |d+1,i,Xc,h=>by
  unfold bfs
  cases Xc[i]? with
  |none=>exact h
  |some x =>
   refine zuT d (i+1) _ ?_;obtain ⟨t,k1,k2,k3,k4⟩:=HK (nx x) Xc;rw [k1];exact List.nodup_append.2 ⟨h,k2,λa ha b hb e=>(k3 b hb).1 (by rw [<-e];exact ha)⟩
theorem zrA{R:Type}{I:List Tx->Prop}{nx:Tx->List Tx}{p:Tx->Bool}{body:List Tx×List Tx×Int->Option (Sum (List Tx×List Tx×Int) (Sum (List Tx) R))}
  (hb:∀(i:Nat) acc Xc x,I Xc->acc.length≤i->Xc[i]?=some x->body (acc,Xc,(i:Int))=some (.inl (cond (p x) (acc++[x]) acc,push Xc (nx x),((i+1:Nat):Int))))
  (he:∀(i:Nat) acc Xc,I Xc->Xc.length≤i->body (acc,Xc,(i:Int))=some (.inr (.inl acc)))
  (hp:∀Xc x,I Xc->x∈Xc->I (push Xc (nx x))):∀(d i:Nat) (acc Xc:List Tx),I Xc->acc.length≤i->fin nx d i Xc=true ->
  zp body (acc,Xc,(i:Int))=some (.inl (acc++((bfs nx d i Xc).drop i).filter p))
 | 0,i,acc,Xc,hI,ha,hf=>by
  have hl:Xc.length≤i:=of_decide_eq_true hf;rw [zK,he i acc Xc hI hl];show some (Sum.inl acc:Sum (List Tx) R)=some (Sum.inl (acc++((Xc.drop i).filter p)));rw [JC hl];simp
 |d+1,i,acc,Xc,hI,ha,hf=>by
  unfold fin at hf;unfold bfs
  cases hi:Xc[i]? with
  |none =>
   have hl:Xc.length≤i:=JL.1 hi;rw [zK,he i acc Xc hI hl];show some (Sum.inl acc:Sum (List Tx) R)=some (Sum.inl (acc++((Xc.drop i).filter p)));rw [JC hl];simp
  |some x =>
   rw [hi] at hf;obtain ⟨t,ht⟩:=IB (nx:=nx) d (i+1) (push Xc (nx x));obtain ⟨u,hu,_⟩:=HK (nx x) Xc
   have hx:(bfs nx d (i+1) (push Xc (nx x)))[i]?=some x:=by
    rw [ht,hu,Jv,Qm (Qb.1 hi).1,hi]
   obtain ⟨hlt,hge⟩:=Qb.1 hx;have ih:=λa ha=>zrA hb he hp d (i+1) a _ (hp _ _ hI (Qc hi)) ha hf;rw [zK,hb i acc Xc x hI ha hi];show zp body (cond (p x) (acc++[x]) acc,push Xc (nx x),((i+1:Nat):Int))=some (.inl (acc++((bfs nx d (i+1) (push Xc (nx x))).drop i).filter p));rw [ih _ (by cases p x <;> simp <;> omega),JK hlt,hge]
   cases hpx:p x with
   |true=>rw [Yx hpx];simp
   |false=>rw [Yw (by rw [hpx];exact Yi)];rfl
def Z8(L:List za)(n:Tx):List Tx:=bfs (nxI L) 100 0 (Xq L n)
def XH(L:List za)(n:Tx):List Tx:=Dx ((Z8 L n).filter (isF L))
section
variable {l L : List za} {m : List (Tx × Int)}
theorem zyc(h:Xi l L)(n:Tx):fin (nxI L) 100 0 (Xq L n)=true:=
 zAc (U:=List.map (λc:za=>c.Name) L) (s0:=Xq L n) h.nxI_in _ _ _ .start (by have:=UM h n;have:=h.len;simp;omega)
theorem zyd(h:Xi l L)(n:Tx):Inv (List.map (λc:za=>c.Name) L) (Xq L n) (Z8 L n):=zzN h.nxI_in _ _ _ .start
theorem zye(h:Xi l L)(n:Tx):(Z8 L n).length≤52:=by
 have h1:=(zyd h n).len;have h2:=UM h n;have h3:=h.len;simp only [Ja] at h1;omega
theorem zus(h:Xi l L){n x:Tx}(hx:x∈Z8 L n):Xh L x=true:=Gc.2 ((zyd h n).mem (λy hy=>zBw h hy) x hx)
theorem zAJ{n:Tx}{c:za}(hc:cl L n=some c):nxI L n=c.Impl:=by unfold nxI;rw [hc]
theorem zyz{R:Type}{body:List Tx×Int->Option (Sum (List Tx×Int) (Sum (List Tx) R))}{l:List Tx}(hl:l.length≤100)
  (hb:∀(i:Nat) x Xc,Xc.length≤1000->l[i]?=some x->body (Xc,(i:Int))=some (.inl (cond (!(Xc.any λy=>x == y)) (Xc++[x]) Xc,i64.wrap ((i:Int)+1))))
  (he:∀Xc,body (Xc,(l.length:Int))=some (.inr (.inl Xc))) (Xc:List Tx) (hs:Xc.length≤800):zp body (Xc,0)=some (.inl (push Xc l)):=by
 have:=zr5 (p:=λ_=>true) hl (λi x s h hx=>by rw [hb i x s h hx];rfl) he l [] Xc rfl (by omega);rw [List.filter_eq_self.2 (λ_ _=>rfl)] at this;exact this
theorem zrx(h:Xi l L)(hm:Xu L m)(n:Tx):Et L m n=some (XH L n):=by
 unfold Et U7;rw [hm.has]
 cases hn:Xh L n with
 |false =>
  unfold XH Z8;rw [WX hn];rfl
 |true =>
  rw [WW h hm];simp only [Qt,cond_false,Qa];have h26:=h.len;have hs26:=UM h n
  have hl:=zrA (R:=List Tx) (I:=λs=>Inv (List.map (λc:za=>c.Name) L) (Xq L n) s) (nx:=nxI L) (p:=isF L) (body:=λz=>Bv L m z.1 z.2.1 z.2.2)
   (λi acc Xc x hI ha hx=>by
    have hsl:=hI.len;simp only [Ja] at hsl;have hxm:Xh L x=true:=Gc.2 (hI.mem (λy hy=>zBw h hy) x (Qc hx));obtain ⟨c,hc⟩:=Zc hxm;have h4:=(h.okc c (XU hc).1).impl;have hilt:=(Qb.1 hx).1
    have hp:∀acc',zdQ Xc (i:Int) c acc'=some (.inl (acc',push Xc c.Impl,((i+1:Nat):Int))):=λacc'=>by
     unfold zdQ
     rw [zyz (l:=c.Impl) (by omega) (λj y s hs hy=>by
      show zdR c s (j:Int)=_;unfold zdR zfp;rw [Xn hy,zt,hy];simp only [cond_true,Qa];rw [zq7 hs,Zk (w:=16) (l:=s) (x:=[y]) (by simp;omega) (by simp;omega)]
      cases (s.any λz=>y == z) <;> rfl) (λs=>by
      show zdR c s (c.Impl.length:Int)=_;unfold zdR
      rw [Xo];rfl) Xc (by omega)]
     simp only [Qa,zH];unfold ziF;rw [zP (by omega)]
    show Bv L m acc Xc (i:Int)=_;unfold Bv;rw [Xn hx,zt,hx];simp only [cond_true,Qa];rw [B4 hm hxm,hc];simp only [Qa];rw [hp,Zk (w:=16) (l:=acc) (x:=[c.Name]) (by simp;omega) (by simp;omega)];simp only [Qa];rw [hp,zAJ hc,(XU hc).2]
    have e:isF L x=c.Interface:=by unfold isF;rw [hc]
    rw [e]
    cases c.Interface <;> rfl)
   (λi acc Xc hI hle=>by
    show Bv L m acc Xc (i:Int)=_;unfold Bv
    rw [decide_eq_false (by omega)];rfl)
   (λzag y hI hy=>hI.push (h.nxI_in y)) 100 0 [] (Xq L n) .start (by simp) (zyc h n)
  rw [show zp (λz=>Bv L m z.1 z.2.1 z.2.2) ([],Xq L n,0)=_ from hl];simp only [Qa,zH,Ye,JR];unfold ziG BF;have h1:((bfs (nxI L) 100 0 (Xq L n)).filter (isF L)).length≤52:=QD (JY _ _) (zye h n);rw [if_pos (by omega)];rfl
theorem zuX(n:Tx):(XH L n).Pairwise (·≤·):=zl1 _
theorem zuW{n x:Tx}:x∈XH L n↔x∈Z8 L n/\isF L x=true:=by
 unfold XH;rw [(W5 _).mem_iff,Jj]
theorem zzi(h:Xi l L)(n:Tx):(Z8 L n).Nodup:=zuT _ _ _ (zvR h _ n)
theorem zut{n x:Tx}(hx:x∈Xq L n):x∈Z8 L n:=by
 obtain ⟨t,e⟩:=IB (nx:=nxI L) 100 0 (Xq L n);unfold Z8;rw [e];exact Jo _ hx
theorem zsq(h:Xi l L){n x y:Tx}(hx:x∈Z8 L n)(hy:y∈nxI L x):y∈Z8 L n:=
 zp2 100 0 _ (zyc h n) (λj x hj=>by omega) x hx y hy
end
theorem zn8{l:List Tx}(hl:l.length≤1000)(n:Tx):DJ l n=some (l.any λy=>y == n):=by
 unfold DJ
 rw [show zp (λz=>OD l n z) 0=some (XC () (cond (l.any λy=>y == n) (some true) none)) from by
  rw [<-z7];refine Zd (λi x hx=>?_) ?_
  .show OD l n (i:Int)=_;have hi:=(Qb.1 hx).1;unfold OD;rw [Xn hx,zt,hx,zP (by omega)];simp only [cond_true,Qa];cases x == n <;> rfl
  .show OD l n (l.length:Int)=_;unfold OD
   rw [Xo];rfl]
 cases (l.any λy=>y == n) <;> rfl
section
variable {l L : List za}
def Dj(L:List za)(n:Tx)(k:Nat):Bool:=match L[k]? with |some c=>(Xq L n).any (λy=>y == c.Name) |none=>false
theorem zwf(h:Xi l L){c:za}(hc:c∈L){inn:List Bool}(hi:inn.length=L.length)(more:Bool):
  zp (λz=>EI L c z.1 z.2.1 z.2.2) (inn,more,0)=some (.inl (mkS L inn c.Impl,more||c.Impl.any (ZE L inn))):=by
 have h26:=h.len;have h4:=(h.okc c hc).impl;refine zqe (l:=c.Impl) (by omega) (λj s inn more hi hs=>?_) (λinn more=>?_) c.Impl [] inn more rfl hi
 .show EI L c inn more (j:Int)=_;have hsm:=Qc hs;have hh:Xh L s=true:=h.closed c hc s (Jm _ hsm) ((h.okc c hc).implE s hsm);unfold EI zgm;rw [Xn hs,zt,hs];simp only [cond_true,Qa];rw [Zj (by omega)];simp only [Qa];unfold mk1 ZE;obtain ⟨g1,g2⟩:=Wu hh
  have e:idx inn (atN L s)=some (onB inn (atN L s).toNat):=by
   unfold idx onB;rw [if_pos g1,Qi,Qe (by omega)];rfl
  rw [e,hh];simp only [Qa,QC];cases onB inn (atN L s).toNat <;> simp
 .show EI L c inn more (c.Impl.length:Int)=_;unfold EI;rw [Xo];rfl
theorem zyy(h:Xi l L)(n:Tx){inn:List Bool}(hi:inn.length=L.length)(more:Bool):
  zp (λz=>EH L (Xq L n) z.1 z.2.1 z.2.2) (inn,more,0)=some (.inl (Zx L (·.Impl) (Dj L n) inn 0 L,more||UG L (·.Impl) (Dj L n) inn 0 L)):=by
 have h26:=h.len;have hs26:=UM h n;refine zr1 (st:=λa b c=>(a,b,c)) (nx:=(·.Impl)) (act:=Dj L n) (by omega) (λk c inn more hi hc=>?_) (λinn more=>?_) L [] inn more rfl hi
 .show EH L (Xq L n) inn more (k:Int)=_;have hk:=(Qb.1 hc).1
  have e:Dj L n k=(Xq L n).any (λy=>y == c.Name):=by unfold Dj;rw [hc]
  unfold EH;rw [Xn hc,zxP (by omega),zt,hc];simp only [cond_true,Qa];rw [zn8 (by omega),zwf h (Qc hc) hi,e];unfold zgp zgn;rw [zP (by omega)];cases onB inn k <;> cases ((Xq L n).any (λy=>y == c.Name)) <;> rfl
 .show EH L (Xq L n) inn more (L.length:Int)=_;unfold EH;rw [Xo];rfl
def GD(F:List Bool):Nat->List za->List Tx
 |_,[]=>[]
 |k,c ::r=>cond (onB F k) (c.Name ::GD F (k+1) r) (GD F (k+1) r)
theorem zoW{F:List Bool}:∀(r:List za) (k:Nat) (x:Tx),x∈GD F k r↔∃(j:Nat) (c:za),r[j]?=some c/\onB F (k+j)=true/\c.Name=x
 | [],k,x=>by
  constructor
  .intro h;cases h
  .rintro ⟨j,c,h,_⟩;simp at h
 |c ::r,k,x=>by
  have ih:=zoW (F:=F) r (k+1) x
  have back:(∃(j:Nat) (d:za),r[j]?=some d/\onB F (k+1+j)=true/\d.Name=x)↔∃(j:Nat) (d:za),0<j/\(c ::r)[j]?=some d/\onB F (k+j)=true/\d.Name=x:=by
   constructor
   .rintro ⟨j,d,h1,h2,h3⟩;exact ⟨j+1,d,by omega,by simpa using h1,by rw [show k+(j+1)=k+1+j by omega];exact h2,h3⟩
   .rintro ⟨j,d,h0,h1,h2,h3⟩
    cases j with
    |zero=>omega
    |succ j=>exact ⟨j,d,by simpa using h1,by rw [show k+1+j=k+(j+1) by omega];exact h2,h3⟩
  unfold GD
  cases hb:onB F k with
  |true =>
   rw [cond_true,Qr,ih,back];constructor
   .rintro (e |⟨j,d,_,h1⟩)
    .exact ⟨0,c,rfl,hb,e.symm⟩
    .exact ⟨j,d,h1⟩
   .rintro ⟨j,d,h1,h2,h3⟩
    cases j with
    |zero=>left;have e:c=d:=(by simpa using h1);rw [e];exact h3.symm
    |succ j=>exact .inr ⟨j+1,d,by omega,h1,h2,h3⟩
  |false =>
   rw [cond_false,ih,back];constructor
   .rintro ⟨j,d,_,h1⟩;exact ⟨j,d,h1⟩
   .rintro ⟨j,d,h1,h2,h3⟩
    cases j with
    |zero=>rw [Q6,hb] at h2;cases h2
    |succ j=>exact ⟨j+1,d,by omega,h1,h2,h3⟩
theorem zpA{F:List Bool}:∀(r pre:List za),Nd (pre++r)->(GD F pre.length r).Nodup
 | [],pre,h=>by simp [GD]
 |c ::r,pre,h=>by
  have ih:=zpA (F:=F) r (pre++[c]) (by simpa using h);rw [show (pre++[c]).length=pre.length+1 by simp] at ih;unfold GD
  cases onB F pre.length with
  |false=>exact ih
  |true =>
   refine Jp.2 ⟨λhm=>?_,ih⟩;obtain ⟨j,d,h1,_,h3⟩:=(zoW r _ _).1 hm;have:=h pre.length (pre.length+(j+1)) c d (by simp) (by rw [Qs (by omega),show pre.length+(j+1)-pre.length=j+1 by omega];simpa using h1) h3.symm;omega
def BU(acc:List Tx):List Tx->List Tx
 | []=>acc
 |x ::r=>BU (U9 x acc) r
theorem zsl:∀(r acc:List Tx),(BU acc r).Perm (acc++r)
 | [],acc=>by simp [BU]
 |x ::r,acc=>(zsl r (U9 x acc)).trans (by
  refine ((IK x acc).append_right r).trans ?_
  exact (List.perm_middle (l₁:=acc) (l₂:=r) (a:=x)).symm)
theorem zpQ:∀(r acc:List Tx),acc.Pairwise (·≤·)->(BU acc r).Pairwise (·≤·)
 | [],acc,h=>h
 |x ::r,acc,h=>zpQ r _ (zoO x h)
theorem zCB(x:Tx)(l:List Tx):(U9 x l).length=l.length+1:=by rw [(IK x l).length_eq];rfl
theorem zqC{F:List Bool}(hl:L.length≤100)(hF:F.length=L.length):∀(r pre:List za) (acc:List Tx),L=pre++r->acc.length≤pre.length ->
  zp (λz=>H2 L F z.1 z.2) (acc,(pre.length:Int))=some (.inl (BU acc (GD F pre.length r)))
 | [],pre,acc,e,ha=>by
  rw [Qx] at e;rw [zK];show (H2 L F acc (pre.length:Int)).bind _=_;unfold H2;rw [<-e,Xo];rfl
 |c ::r,pre,acc,e,ha=>by
  have hlen:L.length=pre.length+(r.length+1):=by rw [e];simp
  have hx:L[pre.length]?=some c:=by rw [e];simp
  have ih:=λa ha=>zqC hl hF r (pre++[c]) a (by rw [e];simp) ha;rw [show (pre++[c]).length=pre.length+1 by simp] at ih;rw [zK];show (H2 L F acc (pre.length:Int)).bind _=_;unfold H2;rw [Xn hx,zxP (by omega),zt,hx];simp only [cond_true,Qa];rw [zuo (by omega)];unfold zgo GD;rw [zP (by omega)]
  cases onB F pre.length with
  |false =>
   show zp (λz=>H2 L F z.1 z.2) (acc,((pre.length+1:Nat):Int))=_;exact ih acc (by omega)
  |true =>
   show zp (λz=>H2 L F z.1 z.2) (U9 c.Name acc,((pre.length+1:Nat):Int))=_;exact ih _ (by rw [zCB];omega)
theorem zw8(h:Xi l L){s:Tx}(hh:Xh L s=true):∃d,L[(atN L s).toNat]?=some d/\d.Name=s:=by
 obtain ⟨d,hd⟩:=Zc hh;have e:=UW L s;rw [hd] at e;obtain ⟨g1,g2⟩:=Wu hh;refine ⟨d,?_,(XU hd).2⟩;unfold idx at e;rw [if_pos g1] at e;exact e
theorem zxm(h:Xi l L){n:Tx}(hn:Xh L n=true){inn:List Bool}(hi:inn.length=L.length)
  (h0:∀k,onB inn k=true↔(isF L n=true/\k=(atN L n).toNat)):zfw L n inn=some (XH L n):=by
 have h26:=h.len
 let Q:Nat->Prop:=λk=>∃c,L[k]?=some c/\c.Name∈Z8 L n/\c.Interface=true
 have isF_of:∀{k:Nat} {c:za},L[k]?=some c->isF L c.Name=c.Interface:=λ{k c} hk=>by
  unfold isF;rw [h.nd.cl (Qc hk)]
 have hq0:∀k,onB inn k=true->Q k:=λk hk=>by
  obtain ⟨h1,h2⟩:=(h0 k).1 hk;obtain ⟨d,hd,hd2⟩:=zw8 h hn;refine ⟨d,by rw [h2];exact hd,by rw [hd2];exact zut (zBx hn),?_⟩;rw [<-isF_of hd,hd2];exact h1
 have hQ:∀(j:Nat) c,L[j]?=some c->(Q j∨Dj L n j=true)->∀s∈c.Impl,Xh L s=true->Q (atN L s).toNat:=λj c hj hor s hs hh=>by
  have hcT:c.Name∈Z8 L n:=by
   rcases hor with ⟨c',hc',hm,_⟩ |ha
   .rw [hj] at hc';cases hc';exact hm
   .unfold Dj at ha;rw [hj] at ha;have ha:(Xq L n).any (λy=>y == c.Name)=true:=ha;rw [Qy] at ha;obtain ⟨y,hy,e⟩:=ha;rw [<-eq_of_beq e];exact zut hy
  obtain ⟨d,hd,hd2⟩:=zw8 h hh;refine ⟨d,hd,?_,?_⟩
  .rw [hd2];exact zsq h hcT (by rw [zAJ (h.nd.cl (Qc hj))];exact hs)
  .rw [<-isF_of hd,hd2];exact h.implF c (Qc hj) s hs
 obtain ⟨F,k1,k2,k3,k4,k5⟩:=zqh (L:=L) (nx:=(·.Impl)) (act:=Dj L n) (R:=List Tx) (st:=λa b=>(a,b)) (body:=λz=>zgq L (Xq L n) z.1 z.2) (Q:=Q)
  (λinn hi=>by
   show zgq L (Xq L n) inn true=_;unfold zgq;rw [zyy h n hi false]
   rfl) (λinn hi=>rfl) hQ L.length inn hi (by omega) hq0
 unfold zfw;rw [W6 h];simp only [Qa];rw [k1];simp only [Qa,zH];unfold zko;rw [show zp (λz=>H2 L F z.1 z.2) ([],0)=_ from zqC (by omega) k2 L [] [] rfl (by simp)];simp only [Qa,zH];show some (BU [] (GD F 0 L))=_;congr 1;refine zBl (zpQ _ _ (by simp)) (zuX n) ((zsl _ _).trans ?_);rw [JR];refine (zyX (zpA (F:=F) L [] h.nd) ((zzi h n).filter (isF L)) λx=>?_).trans (W5 _).symm;show x∈GD F 0 L↔_;rw [zoW,Jj];constructor
 .rintro ⟨j,c,h1,h2,h3⟩;rw [QM] at h2;obtain ⟨c',hc',hm,hI⟩:=k5 j h2;rw [h1] at hc';cases hc';rw [<-h3];exact ⟨hm,by rw [isF_of h1];exact hI⟩
 .rintro ⟨hx,hxF⟩
  have key:∀y∈Z8 L n,y∈Z8 L n/\(y∈Xq L n∨onB F (atN L y).toNat=true):=by
   refine zrm (Q:=λy=>y∈Z8 L n/\(y∈Xq L n∨onB F (atN L y).toNat=true)) (λy hy z hz=>?_) 100 0 _ (λy hy=>⟨zut hy,.inl hy⟩);refine ⟨zsq h hy.1 hz,.inr ?_⟩;have hyh:=zus h hy.1;obtain ⟨d,hd,hd2⟩:=zw8 h hyh;have hzh:=zus h (zsq h hy.1 hz);rw [<-hd2,zAJ (h.nd.cl (Qc hd))] at hz;refine k3 _ d hd ?_ z hz hzh;rw [Qp]
   rcases hy.2 with h1 |h1
   .right;unfold Dj;rw [hd];show (Xq L n).any (λw=>w == d.Name)=true;rw [hd2,Qy];exact ⟨y,h1,beq_self_eq_true _⟩
   .exact .inl h1
  have hxh:=zus h hx;obtain ⟨d,hd,hd2⟩:=zw8 h hxh;refine ⟨(atN L x).toNat,d,hd,?_,hd2⟩;rw [QM]
  rcases (key x hx).2 with h1 |h1
  .rcases (G6 h _ n x h1).2.2 with e |⟨c,hc,e⟩
   .subst e;exact k4 _ ((h0 _).2 ⟨hxF,rfl⟩)
   .rw [e,h.superF c hc] at hxF;cases hxF
  .exact h1
theorem znH(h:Xi l L)(n:Tx):O0 L n=some (XH L n):=by
 have h26:=h.len;unfold O0;rw [show mkP 1 (L.length:Int)=some L.length by unfold mkP;rw [if_pos (by omega),JF],Zj (by omega)];simp only [Qa];rw [G4]
 have hrep:(List.replicate L.length false).length=L.length:=by simp
 have hoff:∀n,onB (List.replicate L.length false) n=false:=λn=>by
  unfold onB;rw [Qi,JT];split <;> rfl
 cases hn:Xh L n with
 |false =>
  unfold XH Z8;rw [WX hn];rfl
 |true =>
  obtain ⟨c,hc⟩:=Zc hn;obtain ⟨g1,g2⟩:=Wu hn
  have eF:isF L n=c.Interface:=by unfold isF;rw [hc]
  rw [DE hc];simp only [Qt,cond_false,Qa]
  cases hI:c.Interface with
  |false =>
   simp only [cond_false];refine zxm h hn hrep λk=>?_;rw [hoff,eF,hI];simp
  |true =>
   have e:idx (List.replicate L.length false) (atN L n)=some false:=by
    unfold idx;rw [if_pos g1,JT,if_pos g2]
   rw [e];simp only [cond_true,Qa];refine zxm h hn (by simp) λk=>?_;rw [zDX (by rw [hrep];exact g2),hoff,QX,eF,hI,Nat.beq_eq];simp
end
def brk:Tx->Bool
 | []=>false
 |x :: _=>x == 91
def ess(s:Tx):Tx:=XQ (XQ s)
theorem Od{s:Tx}(h:brk s=false):XQ s=s:=by
 cases s with
 |nil=>rfl
 |cons x r =>
  rw [HO,if_neg];intro e;subst e;cases h
theorem WN{s:Tx}(h:brk s=true):XQ s=s.drop 1/\s=91 ::s.drop 1:=by
 cases s with
 |nil=>cases h
 |cons x r =>
  have:x=91:=by simpa [brk] using h
  subst this;exact ⟨rfl,rfl⟩
theorem Ox{s:Tx}(h:XF s=true):brk s=false:=by
 cases s with
 |nil=>rfl
 |cons x r =>
  cases hb:(x == 91) with
  |false=>exact hb
  |true =>
   have:x=91:=by simpa using hb
   subst this;unfold XF at h;rw [Qd] at h;have h2:Ko 91=true:=h.2;exact absurd h2 (by decide +kernel)
theorem zCh{s:Tx}(h:XF s=true):(s == [73])=false:=by
 cases hb:(s == [73]) with
 |false=>rfl
 |true =>
  have:s=[73]:=by simpa using hb
  subst this;unfold XF at h;simp at h
theorem W3{s:Tx}(h:XF s=true):Xs s=true:=by
 unfold Xs;rw [Od (Ox h),Od (Ox h),h,Jw]
theorem zEG{s:Tx}(h:Xs s=true):brk (ess s)=false:=by
 unfold Xs at h;rw [Qp] at h
 rcases h with h |h
 .unfold ess;rw [eq_of_beq h];rfl
 .exact Ox h
theorem zra{s:Tx}(h:Xs s=true)(hb:brk s=true):Xs (s.drop 1)=true/\ess (s.drop 1)=ess s:=by
 obtain ⟨h1,h2⟩:=WN hb;have h3:=zEG h
 have e:XQ (XQ (s.drop 1))=XQ (XQ s):=by
  rw [h1];exact Od (show brk (XQ (s.drop 1))=false from by rw [<-h1];exact h3)
 exact ⟨by unfold Xs at h ⊢;rw [e];exact h,e⟩
theorem Oa{s:Tx}(hb:brk s=false):ess s=s:=by unfold ess;rw [Od hb,Od hb]
theorem zAl:giv.all (λc=>XF c.Name)=true:=by decide +kernel
def zx9(L:List za)(t:Tx):Bool:=(ess t == [73])||Xh L (ess t)
def thN(L:List za)(t:Tx):Bool:=Xs t&&zx9 L t
section
variable {l L : List za} {m : List (Tx × Int)}
theorem IR(h:Xi l L){n:Tx}(hn:Xh L n=true):XF n=true:=by
 obtain ⟨c,hc⟩:=Zc hn;obtain ⟨h1,h2⟩:=XU hc;rw [<-h2];rw [h.app] at h1
 rcases Qq.1 h1 with e |e
 .exact Ql.1 zAl c e
 .have:=h.may c e;unfold ZH at this;simp only [Qd] at this;exact this.2.1.1.1.1
def Zi(s:Tx):Tx×Bool:=cond (Xs s&&brk s) (s.drop 1,true) ([],false)
theorem OY{s:Tx}(h:Len s):Hc s=some (Zi s):=by
 unfold Hc Zi;rw [W4 h]
 cases hm:Xs s with
 |false=>rfl
 |true =>
  cases s with
  |nil =>
   exfalso;unfold Xs at hm;rw [show XQ (XQ [])=[] from rfl] at hm;simp at hm;exact On hm rfl
  |cons x r =>
   simp only [Qa,Qt,cond_false,QC];rw [HM]
   have e:((x.toNat:Int) == (91:Int))=(x == 91):=by
    rw [QT,beq_iff_eq,beq_iff_eq];constructor
    .intro h;exact J9.1 (by simpa using (Int.ofNat_inj.1 h))
    .intro h;rw [h];rfl
   simp only [Q7,Qa,e];rw [show (1:Int)=((1:Nat):Int) from rfl,Hd (by simp)];show cond (!(x == 91)) _ _=some (cond (x == 91) _ _);cases x == 91 <;> rfl
theorem ztl{s:Tx}:∀(d:Nat) (t:Tx),t.length≤d->Len t->zp (λz=>zdS z.1 z.2.1 z.2.2) (t,(Zi t).1,(Zi t).2)=some (.inl (cond (Xs t) (ess t) t))
 |d,t,hd,hl=>by
  rw [zK];show (zdS t (Zi t).1 (Zi t).2).bind _=_;unfold zdS
  cases hm:Xs t with
  |false =>
   have:Zi t=([],false):=by unfold Zi;rw [hm];rfl
   rw [this];rfl
  |true =>
   cases hb:brk t with
   |false =>
    have:Zi t=([],false):=by unfold Zi;rw [hm,hb];rfl
    rw [this,Oa hb];rfl
   |true =>
    have:Zi t=(t.drop 1,true):=by unfold Zi;rw [hm,hb];rfl
    obtain ⟨k1,k2⟩:=zra hm hb
    have hlen:(t.drop 1).length=t.length-1:=by simp
    have hpos:0<t.length:=by rw [(WN hb).2];simp
    have hl2:Len (t.drop 1):=by unfold Len at *;omega
    rw [this];show ((Hc (t.drop 1)).bind _).bind _=_;rw [OY hl2];show zp (λz=>zdS z.1 z.2.1 z.2.2) (t.drop 1,(Zi (t.drop 1)).1,(Zi (t.drop 1)).2)=_
    cases d with
    |zero=>omega
    |succ d =>
     rw [ztl (s:=s) d (t.drop 1) (by omega) hl2,k1,k2];rfl
theorem zya(h:Xi l L)(hm:Xu L m){t:Tx}(hl:Len t):zfr L m t=some (thN L t):=by
 unfold zfr;rw [OY hl];simp only [Qa];rw [ztl (s:=t) t.length t (Qk _) hl];simp only [Qa,zH];unfold zjh U7;rw [hm.has];unfold thN zx9
 cases hmay:Xs t with
 |true=>rfl
 |false =>
  simp only [cond_false,Jn];congr 1;rw [Qo];constructor
  .cases hI:(t == [73]) with
   |false=>rfl
   |true =>
    have:t=[73]:=by simpa using hI
    rw [this] at hmay;exact absurd hmay (by decide +kernel)
  .cases hh:Xh L t with
   |false=>rfl
   |true=>rw [W3 (IR h hh)] at hmay;cases hmay
theorem zuS:∀(t:Tx) (k:Nat),t.length+k≤1000->zp (λz=>OB z.1 z.2) (t,(k:Int))=some (.inl (t.dropWhile (· == 91),((k+(t.takeWhile (· == 91)).length:Nat):Int)))
 | [],k,hk=>by
  rw [zK];rfl
 |x ::r,k,hk=>by
  simp only [Qu] at hk;rw [zK];show (OB (x ::r) (k:Int)).bind _=_;unfold OB
  have e:((x.toNat:Int) == (91:Int))=(x == 91):=by
   rw [QT,beq_iff_eq,beq_iff_eq];constructor
   .intro h;exact J9.1 (by simpa using (Int.ofNat_inj.1 h))
   .intro h;rw [h];rfl
  rw [decide_eq_true (show (0:Int)<((x ::r).length:Int) by simp only [Qu];omega),HM];simp only [cond_true,Q7,Qa,e];rw [show (1:Int)=((1:Nat):Int) from rfl,Hd (by simp),Jx,Jr]
  cases hx:(x == 91) with
  |false=>simp
  |true =>
   simp only [cond_true,Qa,if_true,List.drop_one,List.tail_cons];rw [show ((1:Nat):Int)=1 from rfl,zP (by omega)];show zp (λz=>OB z.1 z.2) (r,((k+1:Nat):Int))=_;rw [zuS r (k+1) (by omega)];simp only [Qu];congr 3;omega
theorem zEs{t:Tx}(h:t.length≤900):WU t=some (t.dropWhile (· == 91),((t.takeWhile (· == 91)).length:Int)):=by
 unfold WU;rw [show zp (λz=>OB z.1 z.2) (t,0)=_ from zuS t 0 (by omega)];simp only [Qa,zH,QM];rfl
theorem zxi{t:Tx}(h:brk t=false):t.dropWhile (· == 91)=t/\t.takeWhile (· == 91)=[]:=by
 cases t with
 |nil=>exact ⟨rfl,rfl⟩
 |cons x r =>
  have:(x == 91)=false:=h;simp [Jx,Jr,this]
theorem zxg{t:Tx}(h:brk t=true):t.dropWhile (· == 91)=(t.drop 1).dropWhile (· == 91)/\(t.takeWhile (· == 91)).length=((t.drop 1).takeWhile (· == 91)).length+1:=by
 cases t with
 |nil=>cases h
 |cons x r =>
  have:(x == 91)=true:=h;simp [Jx,Jr,this]
theorem zxh:∀(d:Nat) (t:Tx),t.length≤d->Xs t=true->t.dropWhile (· == 91)=ess t
 |d,t,hd,hm=>by
  cases hb:brk t with
  |false=>rw [(zxi hb).1,Oa hb]
  |true =>
   obtain ⟨k1,k2⟩:=zra hm hb
   have hlen:(t.drop 1).length=t.length-1:=by simp
   have hpos:0<t.length:=by rw [(WN hb).2];simp
   cases d with
   |zero=>omega
   |succ d=>rw [(zxg hb).1,zxh d (t.drop 1) (by omega) k1,k2]
theorem ztu{t:Tx}(h:t.length≤900)(hm:Xs t=true):∃k:Nat,WU t=some (ess t,(k:Int))/\(((k:Int) == 0)=!brk t):=by
 refine ⟨_,by rw [zEs h,zxh _ t (Qk _) hm],?_⟩
 cases hb:brk t with
 |false=>rw [(zxi hb).2];rfl
 |true=>rw [(zxg hb).2];exact beq_eq_false_iff_ne.2 (by omega)
theorem Kp(h:Xi l L){t:Tx}(hl:t.length≤900):zO L t=some (thN L t):=by
 have h26:=h.len;unfold zO;rw [HS (by unfold Len;omega)];unfold thN
 cases hm:Xs t with
 |false=>rfl
 |true =>
  obtain ⟨k,hk,_⟩:=ztu hl hm;rw [hk];simp only [Qa,Qt,cond_false];rw [Zj (by omega)];simp only [Qa];rw [WB];unfold zx9;cases (ess t == [73]) <;> rfl
end
def UQ(L:List za):Tx->Tx->Bool
 | [],b=>thN L []&&(thN L b&&(([]:Tx) == b))
 |x ::r,b=>thN L (x ::r)&&(thN L b&&(((x ::r) == b)||cond (x == 91) (cond (brk b) ((!(r == [73]))&&((!(b.drop 1 == [73]))&&UQ L r (b.drop 1))) (b == KO)) ((Xq L (x ::r)).any (λy=>b == y)||(XH L (x ::r)).any (λy=>b == y))))
theorem zwV(L:List za)(a b:Tx):UQ L a b=(thN L a&&(thN L b&&((a == b)||cond (brk a) (cond (brk b) ((!(a.drop 1 == [73]))&&((!(b.drop 1 == [73]))&&UQ L (a.drop 1) (b.drop 1))) (b == KO)) ((Xq L a).any (λy=>b == y)||(XH L a).any (λy=>b == y))))):=by
 cases a with
 |nil =>
  have:thN L []=false:=by
   unfold thN
   have:Xs []=false:=by
    cases h:Xs [] with
    |false=>rfl
    |true =>
     unfold Xs at h;rw [show XQ (XQ [])=[] from rfl] at h;simp at h;exact absurd rfl (On h)
   rw [this];rfl
  rw [this];show (thN L []&&_)=_;rw [this];rfl
 |cons x r=>rfl
section
variable {l L : List za} {m : List (Tx × Int)}
theorem zru{l:List Tx}(hl:l.length≤1000)(n:Tx):zR l n=some (l.any λy=>n == y):=zq7 hl n
theorem Ol(h:Xi l L)(n:Tx):(XH L n).length≤52:=by
 unfold XH;rw [(W5 _).length_eq];exact QD (JY _ _) (zye h n)
theorem zBD{t:Tx}(h:thN L t=true):Xs t=true:=by
 unfold thN at h;rw [Qd] at h;exact h.1
theorem zz5{t:Tx}(h:thN L t=true):Zi t=cond (brk t) (t.drop 1,true) ([],false):=by
 unfold Zi;rw [zBD h,QC]
theorem zDs(h:Xi l L)(hm:Xu L m){v0:(List za)×(List (Tx×Int))×Tx×Tx->Option Bool}{a b:Tx}(ha:Len a)(hb:Len b)
  (hv:brk a=true->brk b=true->v0 (L,m,a.drop 1,b.drop 1)=some (UQ L (a.drop 1) (b.drop 1))):Wg v0 L m a b=some (UQ L a b):=by
 have h1:=UM h a;have h2:=Ol h a;unfold Wg;rw [zya h hm ha,zya h hm hb,zwV]
 cases ta:thN L a with
 |false=>rfl
 |true =>
  cases tb:thN L b with
  |false=>rfl
  |true =>
   simp only [Qa,Qt,cond_false,QC];rw [OY ha,OY hb,zz5 ta,zz5 tb];simp only [Qa]
   cases hab:(a == b) with
   |true=>rfl
   |false =>
    cases ba:brk a with
    |true =>
     cases bb:brk b with
     |true =>
      simp only [cond_true,cond_false,JP,QX];rw [hv ba bb];cases (a.drop 1 == [73]) <;> cases (b.drop 1 == [73]) <;> rfl
     |false=>rfl
    |false =>
     simp only [cond_true,cond_false,Jn,QX];rw [WW h hm,zrx h hm];simp only [Qa];rw [zru (by omega),zru (by omega)];simp only [Qa];cases ((Xq L a).any λy=>b == y) <;> rfl
theorem zD5(h:Xi l L)(hm:Xu L m):∀(d k:Nat) (a b:Tx),a.length≤d->d<k->Len a->Len b->Df (λv0 z=>Wg v0 z.1 z.2.1 z.2.2.1 z.2.2.2) k (L,m,a,b)=some (UQ L a b)
 |d,0,a,b,hd,hk,ha,hb=>by omega
 |d,k+1,a,b,hd,hk,ha,hb=>by
  show Wg (Df (λv0 z=>Wg v0 z.1 z.2.1 z.2.2.1 z.2.2.2) k) L m a b=_;refine zDs h hm ha hb λb1 b2=>?_
  have hlen:(a.drop 1).length=a.length-1:=by simp
  have hlen2:(b.drop 1).length=b.length-1:=by simp
  have hpos:0<a.length:=by rw [(WN b1).2];simp
  cases d with
  |zero=>omega
  |succ d=>exact zD5 h hm d k _ _ (by omega) (by omega) (by unfold Len at *;omega) (by unfold Len at *;omega)
theorem B8(h:Xi l L)(hm:Xu L m){a b:Tx}(ha:a.length≤25)(hb:Len b):H1 L m a b=some (UQ L a b):=by
 unfold H1 Bx;rw [zD5 h hm 25 30 a b ha (by omega) (by unfold Len;omega) hb]
theorem zw4(l:List Tx)(n:Tx):(l.any λy=>y == n)=l.any λy=>n == y:=by
 congr 1;funext y;exact zFL _ _
theorem zpi{T:List Tx}(h:Xi l L)(hT:∀x∈T,Xh L x=true){b:Tx}(hb:XF b=false):(T.any λy=>b == y)=false:=by
 rw [QB];intro y hy e;have:=IR h (hT y hy);rw [<-eq_of_beq e,hb] at this;cases this
theorem Om(h:Xi l L){n x:Tx}(hx:x∈XH L n):Xh L x=true:=zus h (zuW.1 hx).1
theorem zwe{n:Tx}(hn:Xh L n=false):XH L n=[]:=by
 unfold XH Z8;rw [WX hn];rfl
theorem zol{b:Tx}(hb:brk b=true):XF b=false:=by
 cases h:XF b with
 |false=>rfl
 |true=>rw [Ox h] at hb;cases hb
theorem zoG:XF [73]=false:=by
 cases h:XF [73] with
 |false=>rfl
 |true=>exact absurd (zCh h) (by simp)
theorem zy7(h:Xi l L){v0:(List za)×Tx×Tx->Option Bool}{a b:Tx}(ha:a.length≤800)(hb:b.length≤800)
  (hv:brk a=true->brk b=true->v0 (L,a.drop 1,b.drop 1)=some (UQ L (a.drop 1) (b.drop 1))):We v0 L a b=some (UQ L a b):=by
 unfold We;rw [Kp h (by omega),Kp h (by omega),zwV]
 cases ta:thN L a with
 |false=>rfl
 |true =>
  cases tb:thN L b with
  |false=>rfl
  |true =>
   simp only [Qa,Qt,cond_false,QC];obtain ⟨k1,e1,f1⟩:=ztu (t:=a) (by omega) (zBD ta);obtain ⟨k2,e2,f2⟩:=ztu (t:=b) (by omega) (zBD tb);rw [e1,e2];simp only [Qa]
   cases hab:(a == b) with
   |true=>rfl
   |false =>
    rw [f1,f2];simp only [cond_false,QX]
    cases ba:brk a with
    |true =>
     cases bb:brk b with
     |true =>
      simp only [cond_true,cond_false,Qt,JP,Jn];rw [show (1:Int)=((1:Nat):Int) from rfl,Hd (by rw [(WN ba).2];simp),Hd (by rw [(WN bb).2];simp)];simp only [Qa];rw [hv ba bb];cases (a.drop 1 == [73]) <;> cases (b.drop 1 == [73]) <;> rfl
     |false =>
      simp only [cond_true,cond_false,Qt,QL,Jn];rw [Oa bb];rfl
    |false =>
     cases bb:brk b with
     |true =>
      simp only [cond_true,cond_false,Qt,QL,Jt];rw [zpi (T:=Xq L a) h (λx hx=>(G6 h _ a x hx).1) (zol bb),zpi (T:=XH L a) h (λx hx=>Om h hx) (zol bb)];rfl
     |false =>
      simp only [cond_true,cond_false,QL,JP];rw [Oa ba,Oa bb];have h1:=UM h a;have h2:=Ol h a
      cases hI:(a == [73]) with
      |true =>
       have e:a=[73]:=by simpa using hI
       have hn:Xh L a=false:=by
        cases hh:Xh L a with
        |false=>rfl
        |true=>have:=IR h hh;rw [e,zoG] at this;cases this
       rw [WX hn,zwe hn];rfl
      |false =>
       cases hI2:(b == [73]) with
       |true =>
        have e:b=[73]:=by simpa using hI2
        have hc:XF b=false:=by rw [e];exact zoG
        rw [zpi (T:=Xq L a) h (λx hx=>(G6 h _ a x hx).1) hc,zpi (T:=XH L a) h (λx hx=>Om h hx) hc];rfl
       |false =>
        simp only [QL,JP,cond_true];rw [W6 h,znH h];simp only [Qa];rw [zn8 (by omega),zn8 (by omega),zw4,zw4];simp only [Qa];cases ((Xq L a).any λy=>b == y) <;> rfl
theorem zx0(h:Xi l L):∀(d k:Nat) (a b:Tx),a.length≤d->d<k->a.length≤800->b.length≤800->Df (λv0 z=>We v0 z.1 z.2.1 z.2.2) k (L,a,b)=some (UQ L a b)
 |d,0,a,b,hd,hk,ha,hb=>by omega
 |d,k+1,a,b,hd,hk,ha,hb=>by
  show We (Df (λv0 z=>We v0 z.1 z.2.1 z.2.2) k) L a b=_;refine zy7 h ha hb λb1 b2=>?_
  have hlen:(a.drop 1).length=a.length-1:=by simp
  have hlen2:(b.drop 1).length=b.length-1:=by simp
  have hpos:0<a.length:=by rw [(WN b1).2];simp
  cases d with
  |zero=>omega
  |succ d=>exact zx0 h d k _ _ (by omega) (by omega) (by omega) (by omega)
theorem ztf(h:Xi l L){a b:Tx}(ha:a.length≤25)(hb:b.length≤800):zgD L a b=some (UQ L a b):=by
 unfold zgD Bx;rw [zx0 h 25 30 a b ha (by omega) (by omega) hb]
end
abbrev I64(n:Int):Prop:=-9223372036854775808≤n/\n≤9223372036854775807
abbrev FS(s:List UInt8):Prop:=s.length≤10000
structure FL{α:Type}(Q:α->Prop)(l:List α):Prop where
 len:l.length≤10000
 all:∀x∈l,Q x
structure zFE(f:zj):Prop where
 name:FS f.Name
 type:FS f.Type_
structure zHE(x:zr):Prop where
 op:I64 x.Op
 a:I64 x.A
 c:FS x.C
 m:FS x.M
structure zHF(x:zS):Prop where
 pl:I64 x.At
 locals:FL FS x.Locals
 stack:FL FS x.Stack
structure zGQ(x:zT):Prop where
 lo:I64 x.From
 hi:I64 x.To
 pl:I64 x.At
 c:FS x.C
structure zEc(m:zb):Prop where
 name:FS m.Name
 params:FL FS m.Params
 ret:FS m.Ret
 locals:I64 m.Locals
 stack:I64 m.Stack
 code:FL zHE m.Code
 maps:FL zHF m.Maps
 traps:FL zGQ m.Traps
structure GB(c:za):Prop where
 name:FS c.Name
 super:FS c.Super
 impl:FL FS c.Impl
 fields:FL zFE c.Fields
 methods:FL zEc c.Methods
theorem FL.le{α:Type}{Q:α->Prop}{l:List α}(h:FL Q l):XI l:=by have:=h.len;unfold XI;omega
theorem FS.le{s:List UInt8}(h:FS s):Len s:=by unfold FS at h;unfold Len;omega
theorem GB.cg{c:za}(h:GB c):Di c where
 name:=h.name.le
 super:=h.super.le
 impl:=⟨h.impl.le,λs hs=>(h.impl.all s hs).le⟩
 fields:=⟨h.fields.le,λf hf=>⟨(h.fields.all f hf).name.le,(h.fields.all f hf).type.le⟩⟩
 methods:=⟨h.methods.le,λm hm=>by
  have g:=h.methods.all m hm;have g1:=g.params.len;have g2:=g.code.len;have g3:=g.maps.len;have g4:=g.traps.len
  exact ⟨g.name.le,⟨by omega,λs hs=>(g.params.all s hs).le⟩,g.ret.le,
   ⟨g.maps.le,g.code.le,λx hx=>⟨⟨(g.maps.all x hx).locals.le,λs hs=>((g.maps.all x hx).locals.all s hs).le⟩,(g.maps.all x hx).stack.le,λs hs=>((g.maps.all x hx).stack.all s hs).le⟩⟩,
   ⟨⟨g.code.le,λx hx=>⟨(g.code.all x hx).c.le,(g.code.all x hx).m.le⟩⟩,⟨g.traps.le,λx hx=>(g.traps.all x hx).c.le⟩⟩,⟨by omega,by omega,by omega⟩⟩⟩
theorem Kr{s:List UInt8}{n:Nat}:Zl s (n:Int)=some (s.take n):=by
 unfold Zl;by_cases h:n<s.length
 .rw [decide_eq_true (show (n:Int)<(s.length:Int) by omega),Ob (by omega)];rfl
 .rw [decide_eq_false (show ¬(n:Int)<(s.length:Int) by omega),JB (by omega)];rfl
theorem WV{α β R:Type}{body:List β×Int->Option (Sum (List β×Int) (Sum (List β) R))}{l:List α}{n:Nat}{f:α->β}(hn:n≤1000)
  (hb:∀acc (i:Nat) x,l[i]?=some x->i<n->acc.length=i->body (acc,(i:Int))=some (.inl (acc++[f x],i64.wrap ((i:Int)+1))))
  (he:∀acc (i:Nat),(decide ((i:Int)<(l.length:Int))&&decide ((i:Int)<(n:Int)))=false->body (acc,(i:Int))=some (.inr (.inl acc))):zp body ([],0)=some (.inl ((l.take n).map f)):=by
 have key:∀d i,(l.take n).length-i=d->i≤(l.take n).length->zp body (((l.take n).take i).map f,(i:Int))=some (.inl ((l.take n).map f)):=by
  intro d
  induction d with
  |zero =>
   intro i hd hi
   have e:i=(l.take n).length:=by omega
   rw [zK,he _ i (by
    rw [QH] at e;rw [JE]
    rcases Nat.le_total n l.length with h |h
    .exact .inr (decide_eq_false (by omega))
    .exact .inl (decide_eq_false (by omega))),e,Yz]
   rfl
  |succ d ih =>
   intro i hd hi
   have hlt:i<(l.take n).length:=by omega
   have h2:i<n/\i<l.length:=by rw [QH] at hlt;omega
   have hx:l[i]?=some l[i]:=Qe h2.2;rw [zK,hb _ i l[i] hx h2.1 (by rw [Ja,QH];omega),zP (by omega)];have:=ih (i+1) (by omega) (by omega);rw [Yp,JO h2.1,hx] at this;simp only [Option.toList_some,J8,Yq,List.map_nil] at this;exact this
 exact key _ 0 rfl (QW _)
theorem more{α:Type}{l:List α}{n i:Nat}{x:α}(h:l[i]?=some x)(hi:i<n):(decide ((i:Int)<(l.length:Int))&&decide ((i:Int)<(n:Int)))=true:=by
 rw [Xn h,decide_eq_true (by omega)];rfl
def zHs(f:zj):zj:=zj.mk (f.Name.take 10) (f.Type_.take 12) f.Static
def zGW(x:zr):zr:=zr.mk x.Op x.A (x.C.take 14) (x.M.take 12)
def Gs(n:Nat)(l:List (List UInt8)):List (List UInt8):=(l.take n).map (·.take 12)
def zDJ(x:zS):zS:=zS.mk x.At (Gs 20 x.Locals) (Gs 20 x.Stack)
def zHt(x:zT):zT:=zT.mk x.From x.To x.At (x.C.take 10)
def zFS(m:zb):zb:=zb.mk (m.Name.take 10) (Gs 8 m.Params) (m.Ret.take 12) m.Static m.Abstract m.Locals m.Stack ((m.Code.take 104).map zGW) ((m.Maps.take 104).map zDJ) ((m.Traps.take 8).map zHt)
def Db(c:za):za:=za.mk (c.Name.take 10) (c.Super.take 10) c.Interface (Gs 6 c.Impl) ((c.Fields.take 10).map zHs) ((c.Methods.take 10).map zFS)
theorem zjM{l:List (List UInt8)}{n:Nat}(hn:n≤100):Kn l (n:Int)=some (Gs n l):=by
 unfold Kn
 rw [show zp (λz=>DW l (n:Int) z.1 z.2) ([],0)=some (.inl (Gs n l)) from WV (by omega) (λacc i x hx hi ha=>by
  show DW l (n:Int) acc (i:Int)=_;unfold DW;rw [more hx hi,zt,hx];simp only [Qa,cond_true]
  rw [show Zl x 12=_ from Kr (n:=12),Qa,Zk (by simp;omega) (by simp;omega)];rfl) (λacc i h=>by
  show DW l (n:Int) acc (i:Int)=_;unfold DW
  rw [h];rfl)]
 rfl
theorem zwo(x:zr):Ix x=some (zGW x):=by
 unfold Ix;rw [show Zl x.C 14=_ from Kr (n:=14),show Zl x.M 12=_ from Kr (n:=12)];rfl
theorem zsJ(m:zb):OH m=some (zFS m):=by
 unfold OH;rw [show Zl m.Name 10=_ from Kr (n:=10),show Zl m.Ret 12=_ from Kr (n:=12),show Kn m.Params 8=_ from zjM (n:=8) (by decide)];simp only [Qa]
 rw [show zp (λz=>D3 m z.1 z.2) ([],0)=some (.inl ((m.Code.take 104).map zGW)) from WV (by decide) (λacc i x hx hi ha=>by
  show D3 m acc (i:Int)=_;unfold D3;rw [show (decide ((i:Int)<(m.Code.length:Int))&&decide ((i:Int)<104))=true from more hx hi,zt,hx];simp only [Qa,cond_true]
  rw [zwo,Qa,Zk (by simp;omega) (by simp;omega)];rfl) (λacc i h=>by
  show D3 m acc (i:Int)=_;unfold D3
  rw [show (decide ((i:Int)<(m.Code.length:Int))&&decide ((i:Int)<104))=false from h];rfl)]
 simp only [Qa];show zhz m _ _ _ _=_;unfold zhz
 rw [show zp (λz=>D2 m z.1 z.2) ([],0)=some (.inl ((m.Maps.take 104).map zDJ)) from WV (by decide) (λacc i x hx hi ha=>by
  show D2 m acc (i:Int)=_;unfold D2;rw [show (decide ((i:Int)<(m.Maps.length:Int))&&decide ((i:Int)<104))=true from more hx hi,zt,hx];simp only [Qa,cond_true];rw [show Kn x.Locals 20=_ from zjM (n:=20) (by decide),show Kn x.Stack 20=_ from zjM (n:=20) (by decide)];simp only [Qa]
  rw [Zk (by simp;omega) (by simp;omega)];rfl) (λacc i h=>by
  show D2 m acc (i:Int)=_;unfold D2
  rw [show (decide ((i:Int)<(m.Maps.length:Int))&&decide ((i:Int)<104))=false from h];rfl)]
 simp only [Qa];show zhA m _ _ _ _ _=_;unfold zhA
 rw [show zp (λz=>D1 m z.1 z.2) ([],0)=some (.inl ((m.Traps.take 8).map zHt)) from WV (by decide) (λacc i x hx hi ha=>by
  show D1 m acc (i:Int)=_;unfold D1;rw [show (decide ((i:Int)<(m.Traps.length:Int))&&decide ((i:Int)<8))=true from more hx hi,zt,hx];simp only [Qa,cond_true]
  rw [show Zl x.C 10=_ from Kr (n:=10),Qa,Zk (by simp;omega) (by simp;omega)];rfl) (λacc i h=>by
  show D1 m acc (i:Int)=_;unfold D1
  rw [show (decide ((i:Int)<(m.Traps.length:Int))&&decide ((i:Int)<8))=false from h];rfl)]
 rfl
theorem zwq(c:za):Oh c=some ((Db c).Name,(Db c).Super,(Db c).Impl,(Db c).Fields,(Db c).Methods):=by
 unfold Oh;rw [show Zl c.Name 10=_ from Kr (n:=10),show Zl c.Super 10=_ from Kr (n:=10),show Kn c.Impl 6=_ from zjM (n:=6) (by decide)];simp only [Qa]
 rw [show zp (λz=>DS c z.1 z.2) ([],0)=some (.inl ((c.Fields.take 10).map zHs)) from WV (by decide) (λacc i x hx hi ha=>by
  show DS c acc (i:Int)=_;unfold DS;rw [show (decide ((i:Int)<(c.Fields.length:Int))&&decide ((i:Int)<10))=true from more hx hi,zt,hx];simp only [Qa,cond_true];rw [show Zl x.Name 10=_ from Kr (n:=10),show Zl x.Type_ 12=_ from Kr (n:=12)];simp only [Qa]
  rw [Zk (by simp;omega) (by simp;omega)];rfl) (λacc i h=>by
  show DS c acc (i:Int)=_;unfold DS
  rw [show (decide ((i:Int)<(c.Fields.length:Int))&&decide ((i:Int)<10))=false from h];rfl)]
 simp only [Qa];show I0 c _ _ _ _=_;unfold I0
 rw [show zp (λz=>DR c z.1 z.2) ([],0)=some (.inl ((c.Methods.take 10).map zFS)) from WV (by decide) (λacc i x hx hi ha=>by
  show DR c acc (i:Int)=_;unfold DR;rw [show (decide ((i:Int)<(c.Methods.length:Int))&&decide ((i:Int)<10))=true from more hx hi,zt,hx];simp only [Qa,cond_true]
  rw [zsJ,Qa,Zk (by simp;omega) (by simp;omega)];rfl) (λacc i h=>by
  show DR c acc (i:Int)=_;unfold DR
  rw [show (decide ((i:Int)<(c.Methods.length:Int))&&decide ((i:Int)<10))=false from h];rfl)]
 rfl
theorem Ds{n:Int}(h:wI .i64 n):I64 n:=by
 have h:(Lit.int .i64 n).wf=true:=h;unfold Lit.wf at h;simp [IntKind.min,IntKind.max,IntKind.bits,IntKind.signed] at h;exact ⟨by omega,by omega⟩
theorem FS.take(s:List UInt8){n:Nat}(hn:n≤100):FS (s.take n):=by unfold FS;rw [QH];omega
theorem ztC{l:List (List UInt8)}{n:Nat}(hn:n≤100):FL FS (Gs n l):=by
 refine ⟨by unfold Gs;rw [Ja,QH];omega,λx hx=>?_⟩;obtain ⟨y,_,rfl⟩:=QQ.1 hx;exact FS.take y (by decide)
theorem In{α:Type}{Q:α->Prop}{l:List α}{f:α->α}{n:Nat}(hn:n≤200)(h:∀x∈l,Q (f x)):FL Q ((l.take n).map f):=by
 refine ⟨by rw [Ja,QH];omega,λx hx=>?_⟩;obtain ⟨y,hy,rfl⟩:=QQ.1 hx;exact h y (JG hy)
theorem zEC{m:zb}(h:Oy m):zEc (zFS m):=by
 obtain ⟨_,_,_,_,_,h1,h2,h3,h4,h5⟩:=h
 exact ⟨FS.take _ (by decide),ztC (by decide),FS.take _ (by decide),Ds h1,Ds h2,
  In (by decide) λx hx=>⟨Ds (h3.2 x hx).1,Ds (h3.2 x hx).2.1,FS.take _ (by decide),FS.take _ (by decide)⟩,
  In (by decide) λx hx=>⟨Ds (h4.2 x hx).1,ztC (by decide),ztC (by decide)⟩,
  In (by decide) λx hx=>⟨Ds (h5.2 x hx).1,Ds (h5.2 x hx).2.1,Ds (h5.2 x hx).2.2.1,FS.take _ (by decide)⟩⟩
theorem zEB{c:za}(h:Ui c):GB (Db c):=by
 obtain ⟨_,_,_,_,_,h1⟩:=h;exact ⟨FS.take _ (by decide),FS.take _ (by decide),ztC (by decide),In (by decide) λx hx=>⟨FS.take _ (by decide),FS.take _ (by decide)⟩,In (by decide) λx hx=>zEC (h1.2 x hx)⟩
def zFH(l:List za):List za:=(l.take 18).map Db
theorem I1(l:List za):Gh l=some (zFH l):=by
 unfold Gh
 rw [show zp (λz=>DU l z.1 z.2) ([],0)=some (.inl (zFH l)) from WV (by decide) (λacc i x hx hi ha=>by
  show DU l acc (i:Int)=_;unfold DU;rw [show (decide ((i:Int)<(l.length:Int))&&decide ((i:Int)<18))=true from more hx hi,zt,hx];simp only [Qa,cond_true]
  rw [zwq,Qa,Zk (by simp;omega) (by simp;omega)];rfl) (λacc i h=>by
  show DU l acc (i:Int)=_;unfold DU
  rw [show (decide ((i:Int)<(l.length:Int))&&decide ((i:Int)<18))=false from h];rfl)]
 rfl
structure zFG(c:za):Prop where
 fc:GB c
 name:c.Name.length≤10
 super:c.Super.length≤10
 impl:∀s∈c.Impl,s.length≤12
theorem zyu{c:za}(h:Ui c):zFG (Db c):=by
 refine ⟨zEB h,?_,?_,λs hs=>?_⟩
 .show (c.Name.take 10).length≤10;rw [QH];omega
 .show (c.Super.take 10).length≤10;rw [QH];omega
 .obtain ⟨y,_,rfl⟩:=QQ.1 (show s∈(c.Impl.take 6).map (·.take 12) from hs);rw [QH];omega
theorem zsZ{l:List za}(h:∀c∈l,Ui c):∀c∈zFH l,zFG c:=λc hc=>by
 obtain ⟨d,hd,rfl⟩:=QQ.1 hc;exact zyu (h d (JG hd))
section
variable {l L : List za} {m : List (Tx × Int)}
theorem zFW:∀c∈giv,GB c:=by
 intro c hc
 have hg:giv.all (λc=>decide (c.Name.length≤10)&&decide (c.Super.length≤10)&&(c.Impl == [])&&decide (c.Fields.length=0)&&decide (c.Methods.length=0))=true:=by decide +kernel
 have:=Ql.1 hg c hc;simp only [Qd,decide_eq_true_eq,beq_iff_eq] at this;obtain ⟨⟨⟨⟨h1,h2⟩,h3⟩,h4⟩,h5⟩:=this;refine ⟨by unfold FS;omega,by unfold FS;omega,⟨by rw [h3];simp,λs hs=>by rw [h3] at hs;cases hs⟩,⟨by omega,λs hs=>?_⟩,⟨by omega,λs hs=>?_⟩⟩
 .rw [Qf h4] at hs;cases hs
 .rw [Qf h5] at hs;cases hs
theorem zAA(h:Xi l L)(hs:∀c∈l,GB c):∀c∈L,GB c:=by
 intro c hc;rw [h.app] at hc
 rcases Qq.1 hc with e |e
 .exact zFW c e
 .exact hs c e
def zC:za:=za.mk [] [] false [] [] []
theorem zxb(hm:Xu L m)(n:Tx):zQ L m n=some (match cl L n with |some c=>(c,true) |none=>(zC,false)):=by
 show cond (!(U7 L m n)) (some (zC,false)) ((Hg L m n).bind λv4=>some (v4,true))=_;unfold U7;rw [hm.has]
 cases hc:cl L n with
 |none=>rw [HG hc];rfl
 |some c=>rw [ZG hc,B4 hm (ZG hc),hc];rfl
end
theorem zvM{body:Int->Option (Sum Int (Sum Unit Bool))}{a b:List (List UInt8)}(hl:a.length≤1000000)(hn:a.length=b.length)
  (hb:∀(i:Nat) x y,a[i]?=some x->b[i]?=some y->body (i:Int)=cond (!(x == y)) (some (.inr (.inr false))) (some (.inl (i64.wrap ((i:Int)+1)))))
  (he:body (a.length:Int)=some (.inr (.inl ()))):zp body 0=some (cond (a == b) (.inl ()) (.inr false)):=by
 have key:∀(r s pre pre':List (List UInt8)),pre.length=pre'.length->a=pre++r->b=pre'++s->zp body (pre.length:Int)=some (cond (r == s) (.inl ()) (.inr false)):=by
  intro r
  induction r with
  |nil =>
   intro s pre pre' hp h1 h2
   have:s=[]:=by
    have:a.length=pre.length:=by rw [h1];simp
    have:b.length=pre'.length+s.length:=by rw [h2];simp
    exact Qf (by omega)
   subst this;rw [Qx] at h1;subst h1;rw [zK,he];rfl
  |cons x r ih =>
   intro s pre pre' hp h1 h2
   have hlen:a.length=pre.length+(r.length+1):=by rw [h1];simp
   have hlen2:b.length=pre'.length+s.length:=by rw [h2];simp
   cases s with
   |nil=>simp at hlen2;omega
   |cons y s =>
    have hx:a[pre.length]?=some x:=by rw [h1];simp
    have hy:b[pre.length]?=some y:=by rw [h2,hp];simp
    rw [zK,hb _ x y hx hy];rw [show ((x ::r) == (y ::s))=((x == y)&&(r == s)) from rfl]
    cases x == y with
    |false=>rfl
    |true =>
     rw [zP (by omega)];have:=ih s (pre++[x]) (pre'++[y]) (by simp [hp]) (by rw [h1];simp) (by rw [h2];simp);rw [show (pre++[x]).length=pre.length+1 by simp] at this;exact this
 exact key a b [] [] rfl rfl rfl
theorem zFY{α:Type}{l:List α}{i:Nat}{x:α}(h:l[i]?=some x):decide ((i:Int)<(l.length:Int))=true:=
 decide_eq_true (by have:=(Qb.1 h).1;omega)
theorem zGi{α:Type}{l:List α}:decide ((l.length:Int)<(l.length:Int))=false:=decide_eq_false (by omega)
theorem zDU{a b:List (List UInt8)}(h:a.length≠b.length):(a == b)=false:=by
 refine beq_eq_false_iff_ne.2 λe=>h (by rw [e])
theorem zsk{a b:List (List UInt8)}(h:a.length≤1000000):zdd a b=some (a == b):=by
 unfold zdd;by_cases hl:a.length=b.length
 .have e:((a.length:Int) == (b.length:Int))=true:=by rw [hl];exact beq_self_eq_true _
  rw [e,show zp (λz=>zcm a b z) 0=_ from zvM h hl (λi x y hx hy=>by
   unfold zcm
   rw [zFY hx,zt,hx,zt,hy];rfl) (by unfold zcm;rw [zGi];rfl)]
  cases a == b <;> rfl
 .have e:((a.length:Int) == (b.length:Int))=false:=beq_eq_false_iff_ne.2 (by omega);rw [e,zDU hl];rfl
theorem zqY{a b:List (List UInt8)}(h:a.length≤1000000):zkW a b=some (a == b):=by
 unfold zkW;by_cases hl:a.length=b.length
 .have e:((a.length:Int) == (b.length:Int))=true:=by rw [hl];exact beq_self_eq_true _
  rw [e,show zp (λz=>ziq a b z) 0=_ from zvM h hl (λi x y hx hy=>by
   unfold ziq
   rw [zFY hx,zt,hx,zt,hy];rfl) (by unfold ziq;rw [zGi];rfl)]
  cases a == b <;> rfl
 .have e:((a.length:Int) == (b.length:Int))=false:=beq_eq_false_iff_ne.2 (by omega);rw [e,zDU hl];rfl
theorem G8{α:Type}(p:α->Bool)(l:List α):idx l (ixF p 0 l)=l.find? p:=by
 rcases Iq p l 0 with ⟨j,x,h1,h2,h3,h4⟩ |⟨h1,h2⟩
 .rw [h1,h4,zt,QM,h2]
 .rw [h1,h2];rfl
theorem HL{α:Type}(p:α->Bool)(l:List α):decide (0≤ixF p 0 l)=(l.find? p).isSome:=by
 rw [ZB,QT,Qy,List.find?_isSome]
theorem zqE{α β:Type}{f g:α->Option β}:∀{l:List α},(∀x∈l,f x=g x)->l.findSome? f=l.findSome? g
 | [],_=>rfl
 |x ::l,h=>by
  rw [Q5,Q5,h x (by simp),zqE λy hy=>h y (by simp [hy])]
def zF:zj:=zj.mk [] [] false
def zM:zb:=zb.mk [] [] [] false false 0 0 [] [] []
abbrev FR:=List UInt8×zj×Bool
abbrev MR:=List UInt8×zb×Bool
def Hn(L:List za)(n s:Tx):Option FR:=match cl L s with |some x=>(match x.Fields.find? (λy=>y.Name == n) with |some f=>some (s,f,true) |none=>none) |none=>none
def X3(L:List za)(may:zb->Bool)(n s:Tx):Option MR:=match cl L s with |some x=>(match x.Methods.find? (λy=>y.Name == n) with |some f=>cond (may f) (some (s,f,true)) none |none=>none) |none=>none
theorem DN{R:Type}(o:Option R)(z:R):(some (XC () o):Option (Sum Unit R)).bind (λo=>zH o (λ_=>some z) some)=some (o.getD z):=by cases o <;> rfl
section
variable {l L : List za} {m : List (Tx × Int)}
theorem KJ(hm:Xu L m)(n:Tx):zQ L m n=some (match cl L n with |some c=>(c,true) |none=>(zC,false)):=zxb hm n
def XE(L:List za):Prop:=∀c∈L,XI c.Fields/\XI c.Methods
theorem zAx(h:∀c∈L,GB c):XE L:=λc hc=>⟨(h c hc).fields.le,(h c hc).methods.le⟩
theorem zxn(h:Xi l L)(hm:Xu L m)(hL:XE L)(c n:Tx):zin L m c n=some (((Xq L c).findSome? (Hn L n)).getD ([],zF,false)):=by
 have h26:=UM h c;unfold zin;rw [WW h hm];simp only [Qa]
 rw [show zp (λz=>O9 L m n (Xq L c) z) 0=some (XC () ((Xq L c).findSome? (Hn L n))) from Zd (λi s hs=>by
  have hi:=(Qb.1 hs).1;obtain ⟨x,hx⟩:=Zc (G6 h _ c s (Qc hs)).1;show O9 L m n (Xq L c) (i:Int)=_;unfold O9;rw [Xn hs,zt,hs];simp only [cond_true,Qa];rw [KJ hm,hx];simp only [Qa];rw [zsz (hL x (XU hx).1).1];simp only [Qa];rw [HL,G8,zP (by omega)];unfold Hn;rw [hx]
  show _=some (UF i (match x.Fields.find? (λy=>y.Name == n) with |some f=>some (s,f,true) |none=>none))
  cases x.Fields.find? (λy=>y.Name == n) <;> rfl) (by
  show O9 L m n (Xq L c) ((Xq L c).length:Int)=_;unfold O9
  rw [Xo];rfl)]
 exact DN _ _
theorem zqO(h:Xi l L)(hL:XE L)(c n:Tx):zg9 L c n=some (((Xq L c).findSome? (Hn L n)).getD ([],zF,false)):=by
 have h26:=UM h c;have hl:=h.len;unfold zg9;rw [W6 h];simp only [Qa]
 rw [show zp (λz=>Es L n (Xq L c) z) 0=some (XC () ((Xq L c).findSome? (Hn L n))) from Zd (λi s hs=>by
  have hi:=(Qb.1 hs).1;obtain ⟨x,hx⟩:=Zc (G6 h _ c s (Qc hs)).1;show Es L n (Xq L c) (i:Int)=_;unfold Es;rw [Xn hs,zt,hs];simp only [cond_true,Qa];rw [Zj (by omega)];simp only [Qa];rw [DE hx];simp only [Qa];rw [zpG (hL x (XU hx).1).1];simp only [Qa];rw [HL,G8,zP (by omega)];unfold Hn;rw [hx]
  show _=some (UF i (match x.Fields.find? (λy=>y.Name == n) with |some f=>some (s,f,true) |none=>none))
  cases x.Fields.find? (λy=>y.Name == n) <;> rfl) (by
  show Es L n (Xq L c) ((Xq L c).length:Int)=_;unfold Es
  rw [Xo];rfl)]
 exact DN _ _
theorem zt0(h:Xi l L)(hm:Xu L m)(hL:XE L){may:zb->Bool}{T:List Tx}(hT:T.length≤1000)(n:Tx){body:Int->Option (Sum Int (Sum Unit MR))}
  (hT2:∀s∈T,Xh L s=true)
  (hb:∀(i:Nat) s x,T[i]?=some s->cl L s=some x->body (i:Int)=((HW x n).bind λv15=>(cond (decide (0≤v15)) ((idx x.Methods v15).bind λv16=>some (may v16)) (some false)).bind λv17=>cond v17 ((idx x.Methods v15).bind λv18=>some (.inr (.inr (s,v18,true)))) (some (.inl (i64.wrap ((i:Int)+1))))))
  (he:body (T.length:Int)=some (.inr (.inl ()))):zp body 0=some (XC () (T.findSome? (X3 L may n))):=by
 refine Zd (λi s hs=>?_) he;have hi:=(Qb.1 hs).1;obtain ⟨x,hx⟩:=Zc (hT2 s (Qc hs));rw [hb i s x hs hx,zrq (hL x (XU hx).1).2];simp only [Qa];rw [HL,G8,zP (by omega)];unfold X3;rw [hx]
 show _=some (UF i (match x.Methods.find? (λy=>y.Name == n) with |some f=>cond (may f) (some (s,f,true)) none |none=>none))
 cases x.Methods.find? (λy=>y.Name == n) with
 |none=>rfl
 |some f =>
  simp only [JD,cond_true,Qa];cases may f <;> rfl
theorem zCm(h:Xi l L)(hm:Xu L m)(hL:XE L){T:List Tx}(hT:T.length≤1000)(hT2:∀s∈T,Xh L s=true)(n:Tx):I5 L m T n=some ((T.findSome? (X3 L UB n)).getD ([],zM,false)):=by
 unfold I5
 rw [show zp (λz=>Eh L m T n z) 0=some (XC () (T.findSome? (X3 L UB n))) from zt0 h hm hL hT n hT2 (λi s x hs hx=>by
  show Eh L m T n (i:Int)=_;unfold Eh;rw [Xn hs,zt,hs];simp only [cond_true,Qa]
  rw [KJ hm,hx];rfl) (by
  show Eh L m T n (T.length:Int)=_;unfold Eh
  rw [Xo];rfl)]
 exact DN _ _
theorem zCn(h:Xi l L)(hm:Xu L m)(hL:XE L){T:List Tx}(hT:T.length≤1000)(hT2:∀s∈T,Xh L s=true)(n:Tx):zkV L m T n=some ((T.findSome? (X3 L Hf n)).getD ([],zM,false)):=by
 unfold zkV
 rw [show zp (λz=>Eg L m T n z) 0=some (XC () (T.findSome? (X3 L Hf n))) from zt0 h hm hL hT n hT2 (λi s x hs hx=>by
  show Eg L m T n (i:Int)=_;unfold Eg;rw [Xn hs,zt,hs];simp only [cond_true,Qa]
  rw [KJ hm,hx];rfl) (by
  show Eg L m T n (T.length:Int)=_;unfold Eg
  rw [Xo];rfl)]
 exact DN _ _
theorem zCl(h:Xi l L)(hm:Xu L m)(hL:XE L){T:List Tx}(hT:T.length≤1000)(hT2:∀s∈T,Xh L s=true)(n:Tx):zkU L m T n=some ((T.findSome? (X3 L Ks n)).getD ([],zM,false)):=by
 unfold zkU
 rw [show zp (λz=>Ei L m T n z) 0=some (XC () (T.findSome? (X3 L Ks n))) from zt0 h hm hL hT n hT2 (λi s x hs hx=>by
  show Ei L m T n (i:Int)=_;unfold Ei;rw [Xn hs,zt,hs];simp only [cond_true,Qa]
  rw [KJ hm,hx];rfl) (by
  show Ei L m T n (T.length:Int)=_;unfold Ei
  rw [Xo];rfl)]
 exact DN _ _
theorem Oq(h:Xi l L)(c:Tx):∀s∈Xq L c,Xh L s=true:=λs hs=>(G6 h _ c s hs).1
theorem zpx(h:Xi l L)(hm:Xu L m)(hL:XE L)(c n:Tx):O1 L m c n=some (((Xq L c).findSome? (X3 L UB n)).getD ([],zM,false)):=by
 have h26:=UM h c;unfold O1;rw [WW h hm];simp only [Qa];rw [zCm h hm hL (by omega) (Oq h c)];rfl
theorem zmm(h:Xi l L)(hL:XE L)(c n:Tx):O4 L c n=some (((Xq L c).findSome? (X3 L UB n)).getD ([],zM,false)):=by
 have h26:=UM h c;have hl:=h.len;unfold O4;rw [W6 h];simp only [Qa]
 rw [show zp (λz=>EE L n (Xq L c) z) 0=some (XC () ((Xq L c).findSome? (X3 L UB n))) from Zd (λi s hs=>by
  have hi:=(Qb.1 hs).1;obtain ⟨x,hx⟩:=Zc (Oq h c s (Qc hs));show EE L n (Xq L c) (i:Int)=_;unfold EE;rw [Xn hs,zt,hs];simp only [cond_true,Qa];rw [Zj (by omega)];simp only [Qa];rw [DE hx];simp only [Qa];rw [Ba (hL x (XU hx).1).2];simp only [Qa];rw [HL,G8,zP (by omega)];unfold X3;rw [hx]
  show _=some (UF i (match x.Methods.find? (λy=>y.Name == n) with |some f=>cond (UB f) (some (s,f,true)) none |none=>none))
  cases hf:x.Methods.find? (λy=>y.Name == n) with
  |none=>rfl
  |some f =>
   have e:f.Name=n:=by have:=List.find?_some hf;simpa using this
   simp only [UB,JD,QC,Qa,e]
   cases (n == [36,105,110,105,116]) <;> rfl) (by
  show EE L n (Xq L c) ((Xq L c).length:Int)=_;unfold EE
  rw [Xo];rfl)]
 exact DN _ _
def KE(L:List za)(c n:Tx):MR:=cond (isF L c) (((c ::XH L c).findSome? (X3 L Hf n)).getD ([],zM,false)) ([],zM,false)
theorem zwl{c:Tx}(h:isF L c=true):Xh L c=true:=by
 unfold isF at h
 cases hc:cl L c with
 |none=>rw [hc] at h;cases h
 |some x=>exact ZG hc
theorem zz9(h:Xi l L)(hm:Xu L m)(hL:XE L)(c n:Tx):I6 L m c n=some (KE L c n):=by
 have h52:=Ol h c;unfold I6 KE;rw [KJ hm]
 have e:isF L c=(match cl L c with |some c=>(c,true) |none=>(zC,false)).1.Interface:=by
  unfold isF;cases cl L c <;> rfl
 cases hF:isF L c with
 |false =>
  rw [hF] at e;simp only [Qa];rw [<-e];rfl
 |true =>
  rw [hF] at e;simp only [Qa];rw [<-e];simp only [Qt,cond_false];rw [zrx h hm];simp only [Qa];rw [Zk (by simp;omega) (by simp;omega)];simp only [Qa]
  rw [zCn h hm hL (by simp;omega) (λs hs=>by
   rcases Qr.1 (show s∈c ::XH L c from hs) with e |e
   .rw [e];exact zwl hF
   .exact Om h e)]
  rfl
theorem zsd(h:Xi l L)(hL:XE L)(c n:Tx):zhE L c n=some (KE L c n):=by
 have h52:=Ol h c;have hl:=h.len;unfold zhE KE;rw [Zj (by omega)];simp only [Qa];rw [G4,UW]
 have e:(cond (!Xh L c) (some true) ((cl L c).bind λv5=>some (!v5.Interface)))=some (!isF L c):=by
  unfold isF
  cases hc:cl L c with
  |none=>rw [HG hc];rfl
  |some x=>rw [ZG hc];rfl
 rw [e];simp only [Qa]
 cases hF:isF L c with
 |false=>rfl
 |true =>
  simp only [Qt,cond_false,cond_true];rw [znH h];simp only [Qa];rw [Zk (by simp;omega) (by simp;omega)];simp only [Qa]
  rw [show zp (λz=>Ew L n ([c]++XH L c) z) 0=some (XC () ((c ::XH L c).findSome? (X3 L Hf n))) from Zd (l:=c ::XH L c) (λi s hs=>by
   have hi:=(Qb.1 hs).1;simp only [Qu] at hi
   have hsh:Xh L s=true:=by
    rcases Qr.1 (Qc hs) with e |e
    .rw [e];exact zwl hF
    .exact Om h e
   obtain ⟨x,hx⟩:=Zc hsh;show Ew L n (c ::XH L c) (i:Int)=_;unfold Ew;rw [Xn hs,zt,hs];simp only [cond_true,Qa];rw [Zj (by omega)];simp only [Qa];rw [DE hx];simp only [Qa];rw [Ba (hL x (XU hx).1).2];simp only [Qa];rw [HL,G8,zP (by omega)];unfold X3 Hf;rw [hx]
   show _=some (UF i (match x.Methods.find? (λy=>y.Name == n) with |some f=>cond true (some (s,f,true)) none |none=>none))
   cases x.Methods.find? (λy=>y.Name == n) <;> rfl) (by
   show Ew L n (c ::XH L c) ((c ::XH L c).length:Int)=_;unfold Ew
   rw [Xo];rfl)]
  exact DN _ _
theorem zoE(h:Xi l L){x:za}(hx:x∈L){f:zb}(hf:f∈x.Methods):f.Abstract=x.Interface:=by
 rw [h.app] at hx
 rcases Qq.1 hx with e |e
 .have hg:giv.all (λc=>decide (c.Methods.length=0))=true:=by decide +kernel
  have:=of_decide_eq_true (Ql.1 hg x e);rw [Qf this] at hf;cases hf
 .have:=h.may x e;unfold ZH at this;simp only [Qd,Qn,decide_eq_true_eq] at this;have h2:=BS this.2.2.1 f hf;rw [Qd,beq_iff_eq] at h2;exact h2.1
def chG(L:List za)(n s:Tx):Option (List UInt8×Bool):=match cl L s with |some x=>(match x.Methods.find? (λy=>y.Name == n) with |some f=>cond (!f.Static) (some (s,true)) none |none=>none) |none=>none
theorem zzU(h:Xi l L)(hm:Xu L m)(hL:XE L)(c n:Tx):zhB L m c n=some ((((Xq L c).findSome? (X3 L Ks n)).getD ([],zM,false)).1,(((Xq L c).findSome? (X3 L Ks n)).getD ([],zM,false)).2.2):=by
 have h26:=UM h c;unfold zhB;rw [WW h hm];simp only [Qa];rw [zCl h hm hL (by omega) (Oq h c)];rfl
theorem zqF{α β γ:Type}{f:α->Option β}{g:β->γ}:∀{l:List α},(l.findSome? f).map g=l.findSome? (λx=>(f x).map g)
 | []=>rfl
 |x ::l=>by
  rw [Q5,Q5]
  cases f x with
  |some y=>rfl
  |none=>exact zqF
theorem zpp{α β:Type}{f:α->Option β}:∀{l:List α},(∀x∈l,f x=none)->l.findSome? f=none
 | [],_=>rfl
 |x ::l,h=>by
  rw [Q5,h x (by simp)];exact zpp λy hy=>h y (by simp [hy])
theorem zCR(h:Xi l L)(may:zb->Bool)(n:Tx):X3 L may n KO=none:=by
 have e:cl L KO=some (gC KO []):=Ii h.app rfl;unfold X3;rw [e];rfl
theorem zFs(h:Xi l L){c s:Tx}(hs:s∈Xq L c)(hF:isF L c=false):isF L s=false:=by
 rcases (G6 h _ c s hs).2.2 with e |⟨x,hx,e⟩
 .rw [e];exact hF
 .rw [e];exact h.superF x hx
theorem zDt(h:Xi l L){c s:Tx}(hs:s∈Xq L c)(hF:isF L c=true):s=c∨s=KO:=by
 unfold Xq at hs;have hn:=zwl hF
 cases hd:L.length with
 |zero=>rw [hd] at hs;simp [sup] at hs
 |succ d =>
  rw [hd] at hs;unfold sup at hs;obtain ⟨x,hx⟩:=Zc hn;rw [hx] at hs
  rcases Qr.1 hs with e |e
  .exact .inl e
  .right
   have hI:x.Interface=true:=by unfold isF at hF;rw [hx] at hF;exact hF
   have hxS:x.Super=KO:=by
    have hxm:=(XU hx).1;rw [h.app] at hxm
    rcases Qq.1 hxm with e |e
    .rw [(zCv e).2.1] at hI;cases hI
    .have:=h.may x e;unfold ZH at this;rw [hI] at this;simp only [Qd,Qn,QC,Qo,Q9] at this;exact eq_of_beq this.1.1
   rw [hxS] at e
   cases d with
   |zero=>simp [sup] at e
   |succ d =>
    unfold sup at e;have eo:cl L KO=some (gC KO []):=Ii h.app rfl;rw [eo] at e
    rcases Qr.1 e with e |e
    .exact e
    .rw [show (gC KO []).Super=[] from rfl,zwW h] at e;cases e
def chN(L:List za)(c n:Tx):List UInt8×Bool:=cond (Xh L c&&!isF L c) (((Xq L c).findSome? (chG L n)).getD ([],false)) ([],false)
theorem zCg(h:Xi l L)(hm:Xu L m)(hL:XE L)(c n:Tx):zhB L m c n=some (chN L c n):=by
 rw [zzU h hm hL];congr 1;unfold chN
 cases hn:Xh L c with
 |false=>rw [WX hn];rfl
 |true =>
  cases hF:isF L c with
  |true =>
   rw [zpp (λs hs=>?_)]
   .rfl
   .rcases zDt h hs hF with e |e
    .subst e;obtain ⟨x,hx⟩:=Zc hn
     have hI:x.Interface=true:=by unfold isF at hF;rw [hx] at hF;exact hF
     unfold X3;rw [hx]
     show (match x.Methods.find? (λy=>y.Name == n) with |some f=>cond (Ks f) (some (s,f,true)) none |none=>none)=none
     cases hf:x.Methods.find? (λy=>y.Name == n) with
     |none=>rfl
     |some f =>
      have:=zoE h (XU hx).1 (QK hf);simp only [Ks,this,hI,Qt,Jt,cond_false]
    .rw [e];exact zCR h _ _
  |false =>
   simp only [QL,JP,cond_true]
   have e:(Xq L c).findSome? (chG L n)=((Xq L c).findSome? (X3 L Ks n)).map (λz:MR=>(z.1,z.2.2)):=by
    rw [zqF];refine zqE λs hs=>?_;obtain ⟨x,hx⟩:=Zc (Oq h c s hs)
    have hI:x.Interface=false:=by
     have:=zFs h hs hF;unfold isF at this;rw [hx] at this;exact this
    unfold chG X3;rw [hx]
    show (match x.Methods.find? (λy=>y.Name == n) with |some f=>cond (!f.Static) (some (s,true)) none |none=>none)=Option.map _ (match x.Methods.find? (λy=>y.Name == n) with |some f=>cond (Ks f) (some (s,f,true)) none |none=>none)
    cases hf:x.Methods.find? (λy=>y.Name == n) with
    |none=>rfl
    |some f =>
     have:=zoE h (XU hx).1 (QK hf);simp only [Ks,this,hI,QL,Bool.and_true];cases f.Static <;> rfl
   rw [e];cases (Xq L c).findSome? (X3 L Ks n) <;> rfl
theorem zvE(h:Xi l L)(hL:XE L)(c n:Tx):zhQ L c n=some (chN L c n):=by
 have h26:=UM h c;have hl:=h.len;unfold zhQ chN;rw [Zj (by omega)];simp only [Qa];rw [G4,UW]
 have e:(cond (!Xh L c) (some true) ((cl L c).bind λv5=>some v5.Interface))=some (!(Xh L c&&!isF L c)):=by
  unfold isF
  cases hc:cl L c with
  |none=>rw [HG hc];rfl
  |some x=>rw [ZG hc];simp
 rw [e];simp only [Qa]
 cases hB:(Xh L c&&!isF L c) with
 |false=>rfl
 |true =>
  simp only [Qt,cond_false,cond_true];rw [W6 h];simp only [Qa]
  rw [show zp (λz=>EJ L n (Xq L c) z) 0=some (XC () ((Xq L c).findSome? (chG L n))) from Zd (λi s hs=>by
   have hi:=(Qb.1 hs).1;obtain ⟨x,hx⟩:=Zc (Oq h c s (Qc hs));show EJ L n (Xq L c) (i:Int)=_;unfold EJ;rw [Xn hs,zt,hs];simp only [cond_true,Qa];rw [Zj (by omega)];simp only [Qa];rw [DE hx];simp only [Qa];rw [Ba (hL x (XU hx).1).2];simp only [Qa];rw [HL,G8,zP (by omega)];unfold chG;rw [hx]
   show _=some (UF i (match x.Methods.find? (λy=>y.Name == n) with |some f=>cond (!f.Static) (some (s,true)) none |none=>none))
   cases x.Methods.find? (λy=>y.Name == n) with
   |none=>rfl
   |some f =>
    simp only [JD,cond_true,Qa]
    cases f.Static <;> rfl) (by
   show EJ L n (Xq L c) ((Xq L c).length:Int)=_;unfold EJ
   rw [Xo];rfl)]
  exact DN _ _
end
section
variable {l L : List za} {m : List (Tx × Int)}
theorem Rc.trans{nx:Tx->List Tx}{a b c:Tx}(h:Rc nx a b)(k:Rc nx b c):Rc nx a c:=by
 induction h with
 |one h=>exact .more h k
 |more h _ ih=>exact .more h (ih k)
end
section
variable {l L : List za} {m : List (Tx × Int)}
def ZS(L:List za)(t:Tx):Bool:=((t == [78])||(t == [84]))||thN L t
def GS(L:List za)(t:Tx):Bool:=!(t == [73])&&thN L t
def X4(L:List za)(a b:Tx):Bool:=
 (ZS L a&&ZS L b)&&cond ((b == [84])||(a == b)) true (cond (a == [78]) (GS L b) ((GS L a&&GS L b)&&(isF L b||UQ L a b)))
theorem zrf(t:Tx):UQ L t t=thN L t:=by
 rw [zwV];simp
theorem zE0:Xs [78]=false:=by decide +kernel
theorem zE1:Xs [84]=false:=by decide +kernel
theorem zHB:thN L [78]=false:=by unfold thN;rw [zE0];rfl
theorem zH5:thN L [84]=false:=by unfold thN;rw [zE1];rfl
theorem WH(h:Xi l L)(hm:Xu L m){t:Tx}(ht:t.length≤25):HZ L m t=some (ZS L t):=by
 unfold HZ ZS;rw [B8 h hm ht (by unfold Len;omega),zrf]
 cases ((t == [78])||(t == [84])) <;> rfl
theorem zBa(h:Xi l L)(hm:Xu L m){t:Tx}(ht:t.length≤25):Oz L m t=some (GS L t):=by
 unfold Oz GS;rw [B8 h hm ht (by unfold Len;omega),zrf];cases (t == [73]) <;> rfl
theorem zu3(b:Tx):isF L b=(match cl L b with |some c=>(c,true) |none=>(zC,false)).1.Interface:=by
 unfold isF;cases cl L b <;> rfl
theorem zq6(h:Xi l L)(hm:Xu L m){a b:Tx}(ha:a.length≤25)(hb:b.length≤25):DZ L m a b=some (X4 L a b):=by
 unfold DZ X4;rw [WH h hm ha,WH h hm hb,zBa h hm ha,zBa h hm hb,B8 h hm ha (by unfold Len;omega)]
 have e:zQ L m b=some (match cl L b with |some c=>(c,true) |none=>(zC,false)):=zxb hm b
 rw [e];simp only [Qa];rw [<-zu3]
 cases ZS L a <;> cases ZS L b <;> cases ((b == [84])||(a == b)) <;> cases (a == [78]) <;> cases GS L a <;> cases GS L b <;> cases isF L b <;> rfl
theorem Ga{a b:Tx}(h:a≠b):(a == b)=false:=beq_eq_false_iff_ne.2 h
theorem zAd(a b:Tx):X4 L a b=cond (b == [84]) (((a == [84])||(a == [78]))||thN L a) (cond (a == [78]) ((b == [78])||(!(b == [73])&&thN L b)) (cond (a == b) (thN L a)
  (cond (((a == [73])||(b == [73]))||!thN L a) false (cond (!thN L b) false (isF L b||UQ L a b))))):=by
 unfold X4;by_cases hbT:b=[84]
 .subst hbT;unfold ZS;cases (a == [84]) <;> cases (a == [78]) <;> cases thN L a <;> simp
 .rw [Ga hbT];by_cases haN:a=[78]
  .subst haN;by_cases hbN:b=[78]
   .subst hbN;unfold ZS;simp
   .have e:(([78]:Tx) == b)=false:=Ga (Ne.symm hbN);unfold ZS GS;rw [e,Ga hbN,Ga hbT,zHB];cases (b == [73]) <;> cases thN L b <;> simp
  .rw [Ga haN];by_cases hab:a=b
   .subst hab;unfold ZS;rw [Ga haN,Ga hbT];cases thN L a <;> simp
   .rw [Ga hab];by_cases haT:a=[84]
    .subst haT;unfold GS;rw [zH5];simp
    .by_cases hbN:b=[78]
     .subst hbN;unfold GS;rw [zHB];simp
     .unfold ZS GS;rw [Ga haN,Ga haT,Ga hbN,Ga hbT];cases (a == [73]) <;> cases (b == [73]) <;> cases thN L a <;> cases thN L b <;> simp
theorem OA(h:Xi l L){a b:Tx}(ha:a.length≤25)(hb:b.length≤25):H3 L a b=some (X4 L a b):=by
 have h26:=h.len;rw [zAd];unfold H3;rw [Kp h (by omega),Kp h (by omega),Zj (by omega),ztf h ha (by omega)];simp only [Qa]
 have e:(cond (decide (0≤atN L b)) ((idx L (atN L b)).bind λv15=>some v15.Interface) (some false))=some (isF L b):=by
  rw [WB,UW];unfold isF
  cases hc:cl L b with
  |none=>rw [HG hc];rfl
  |some c=>rw [ZG hc];rfl
 rw [e];simp only [Qa];cases (b == [84]) <;> cases (a == [84]) <;> cases (a == [78]) <;> cases (b == [78]) <;> cases (a == [73]) <;> cases (b == [73]) <;> cases (a == b) <;> cases thN L a <;> cases thN L b <;> cases isF L b <;> rfl
end

end
end Go.Proofs.YthmnlfenkhmmhaaGreat
