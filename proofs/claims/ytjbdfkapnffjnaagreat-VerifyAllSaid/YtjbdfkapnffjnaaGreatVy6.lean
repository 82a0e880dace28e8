/- VerifyAll: for every input the law returns true, and each argument reads as it read before. No further condition. Part 6 of 8. -/
import Derived.Test.YtjbdfkapnffjnaaGreatVy5
namespace Go.Proofs.YtjbdfkapnffjnaaGreat
noncomputable section
open List (length map)
set_option linter.unusedSimpArgs false
set_option linter.unusedVariables false
set_option maxRecDepth 100000
set_option maxHeartbeats 4000000
def zaS(v1:List zb)(v2:T0)(v3:zd)(v4:T1)(v5:T1)(v6:Bool)(v7:zH):Option (T1×Bool):=
  cond (v7.Op == (49:Int)) ((zS v1 v2 v3 v4 v5 v6 ([[73]])).bind fun v8=>(zO v1 v2 v3 v4 v8.1 v8.2 [91,73]).bind fun v9=>some (v9.1,v9.2)) (cond (v7.Op == (50:Int)) ((zj3 v7.C).bind fun v10=>(cond (!(v10 == [])) ((z1 v1 v10).bind fun v11=>some v11) (some false)).bind fun v12=>(zS v1 v2 v3 v4 v5 (v6||(!v12)) ([[73]])).bind fun v13=>(zO v1 v2 v3 v4 v13.1 v13.2 v10).bind fun v14=>some (v14.1,v14.2)) (cond (v7.Op == (51:Int)) ((zav v1 v2 v3 v4 v5 v6).bind fun v15=>(cond (v15.1 == [78]) (some true) ((cond (decide (1<(length v15.1:Int))) ((idx v15.1 0).bind fun v16=>some ((v16.toNat:Int) == (91:Int))) (some false)).bind fun v17=>some v17)).bind fun v18=>(zO v1 v2 v3 v4 v15.2.1 (v15.2.2||(!v18)) [73]).bind fun v19=>some (v19.1,v19.2)) (cond (v7.Op == (52:Int)) ((zS v1 v2 v3 v4 v5 v6 ([[91,73],[73]])).bind fun v20=>(zO v1 v2 v3 v4 v20.1 v20.2 [73]).bind fun v21=>some (v21.1,v21.2)) (cond (v7.Op == (53:Int)) ((zS v1 v2 v3 v4 v5 v6 ([[91,73],[73],[73]])).bind fun v22=>some (v22.1,v22.2)) (cond (v7.Op == (54:Int)) ((zS v1 v2 v3 v4 v5 v6 ([[73]])).bind fun v23=>(zdQ v1 v2 v3 v4 v23.1 v23.2).bind fun v24=>(zO v1 v2 v3 v4 v24.2.1 v24.2.2 v24.1).bind fun v25=>some (v25.1,v25.2)) (cond (v7.Op == (55:Int)) ((zbJ v1 v2 v3 v4 v5 v6).bind fun v26=>(zS v1 v2 v3 v4 v26.2.1 v26.2.2 ([[73]])).bind fun v27=>(zdQ v1 v2 v3 v4 v27.1 v27.2).bind fun v28=>some (v28.2.1,v28.2.2)) (some (v5,v6))))))))
theorem zk3(v1:List zb)(v2:T0)(v3:zd)(v4:T1)(v5:T1)(v6:Bool)(v7:zH){r:T1×Bool}(h:zaS v1 v2 v3 v4 v5 v6 v7=some r):SC Tryz.prog 208 [.mpt 0 0 0,.agg (zv v7)] [.one 15 (rK v1 v2 v3 (.isl 1 (map zf v4)) (.isl 1 (map zf v5)) (bA v6))] (.tup []) [.one 15 (rK v1 v2 v3 (.isl 1 (map zf v4)) (.isl 1 (map zf r.1)) (bA r.2))]:=by
 refine ⟨⟨t,t⟩,zW Tryz.func208 y kz y ?_⟩
 unfold zaS at h
 refine rg y<|u<|bx 1 4 y y y y<|za ?_
 refine rg y<|u<|fa ti y y y<|u<|ld ti y y<|za ?_
 refine zr ?_
 refine rg y<|u<|eql ti y y<|u<|asg y<|za ?_
 refine ze y (fun hc1=>?_) (fun hc1=>?_)
 ·
  replace h:=bT hc1 h
  obtain ⟨v8,q2,h⟩:=bs h
  refine rg y<|u<|mv y<|u<|bl 2 ti y ti y (by decide) (by decide) y y y<|zx (env0:=[(0,.mpt 0 0 0),(10,.mpt 0 0 0),(11,.isl 1 (map zf ([[73]])))]) (st0:=[some (15,[(rK v1 v2 v3 (.isl 1 (map zf v4)) (.isl 1 (map zf v5)) (bA v6))])]) (zo [.old 0])<|u<|sx [0] (zZ v1 v2 v3 v4 v5 v6 ([[73]]) q2)<|zx (env0:=[(0,.mpt 0 0 0)]) (st0:=[some (15,[(rK v1 v2 v3 (.isl 1 (map zf v4)) (.isl 1 (map zf v8.1)) (bA v8.2))])]) (zo [.old 0])<|za ?_
  obtain ⟨v9,q3,h⟩:=bs h
  refine rl y<|u<|mv y<|u<|sx [0] (zN v1 v2 v3 v4 v8.1 v8.2 [91,73] q3)<|zx (env0:=[]) (st0:=[some (15,[(rK v1 v2 v3 (.isl 1 (map zf v4)) (.isl 1 (map zf v9.1)) (bA v9.2))])]) (zo [.old 0])<|za ?_
  obtain rfl:=sm h
  exact ⟨_,y,zy [.old 0]⟩
 ·
  replace h:=bF hc1 h
  refine rg y<|u<|eql ti y y<|u<|asg y<|za ?_
  refine ze y (fun hc4=>?_) (fun hc4=>?_)
  ·
   replace h:=bT hc4 h
   obtain ⟨v10,q5,h⟩:=bs h
   refine rg y<|u<|fa ti y y y<|u<|ld ti y y<|u<|pc (zrr v7.C q5) y y y<|u<|asg y<|za ?_
   obtain ⟨v12,q8,h⟩:=bs h
   refine rg y<|u<|mv y<|u<|mv y<|u<|sne ti y y<|u<|mv y<|z7 (x:=v12) (j:=3) 6 y y y y y gpn (fun hb6=>by replace q8:=bT hb6 q8;obtain ⟨v11,q7,q8⟩:=bs q8;obtain rfl:=sm q8;exact g y hb6<|mv y<|g y hb6<|nc y y<|g y hb6<|fa ti y y y<|g y hb6<|ld ti y y<|g y hb6<|mv y<|g y hb6<|pc (zab v1 v10 q7) y y y<|za (eg [24,25,26,27,28,29] 6 y y y y)) (fun hb=>(sm (bF hb q8)).symm)<|u<|sx [0] (zp v1 v2 v3 v4 v5 v6 v12 y)<|zx (env0:=[(0,.mpt 0 0 0),(4,sA v10)]) (st0:=[some (15,[(rK v1 v2 v3 (.isl 1 (map zf v4)) (.isl 1 (map zf v5)) (bA (v6||(!v12))))])]) (zo [.old 0])<|za ?_
   obtain ⟨v13,q9,h⟩:=bs h
   refine rg y<|u<|mv y<|u<|bl 1 ti y ti y (by decide) (by decide) y y y<|zx (env0:=[(0,.mpt 0 0 0),(4,sA v10),(32,.mpt 0 0 0),(33,.isl 1 (map zf ([[73]])))]) (st0:=[some (15,[(rK v1 v2 v3 (.isl 1 (map zf v4)) (.isl 1 (map zf v5)) (bA (v6||(!v12))))])]) (zo [.old 0])<|u<|sx [0] (zZ v1 v2 v3 v4 v5 (v6||(!v12)) ([[73]]) q9)<|zx (env0:=[(0,.mpt 0 0 0),(4,sA v10)]) (st0:=[some (15,[(rK v1 v2 v3 (.isl 1 (map zf v4)) (.isl 1 (map zf v13.1)) (bA v13.2))])]) (zo [.old 0])<|za ?_
   obtain ⟨v14,q10,h⟩:=bs h
   refine rl y<|u<|mv y<|u<|mv y<|u<|sx [0] (zN v1 v2 v3 v4 v13.1 v13.2 v10 q10)<|zx (env0:=[]) (st0:=[some (15,[(rK v1 v2 v3 (.isl 1 (map zf v4)) (.isl 1 (map zf v14.1)) (bA v14.2))])]) (zo [.old 0])<|za ?_
   obtain rfl:=sm h
   exact ⟨_,y,zy [.old 0]⟩
  ·
   replace h:=bF hc4 h
   refine rg y<|u<|eql ti y y<|u<|asg y<|za ?_
   refine ze y (fun hc11=>?_) (fun hc11=>?_)
   ·
    replace h:=bT hc11 h
    obtain ⟨v15,q12,h⟩:=bs h
    refine rg y<|u<|mv y<|u<|sx [0] (zaW v1 v2 v3 v4 v5 v6 q12)<|zx (env0:=[(0,.mpt 0 0 0),(41,sA v15.1)]) (st0:=[some (15,[(rK v1 v2 v3 (.isl 1 (map zf v4)) (.isl 1 (map zf v15.2.1)) (bA v15.2.2))])]) (zo [.old 0])<|u<|asg y<|za ?_
    obtain ⟨v18,q17,h⟩:=bs h
    refine rg y<|u<|mv y<|u<|mv y<|u<|seq ti y y<|u<|mv y<|zdj (x:=v18) (j:=3) 8 y y y y y gpn (fun hb13=>by replace q17:=bF hb13 q17;obtain ⟨v17,q16,q17⟩:=bs q17;obtain rfl:=sm q17;exact g y hb13<|mv y<|g y hb13<|lnS ti y y<|g y hb13<|gtr ti y y<|g y hb13<|mv y<|z7 (x:=v17) (j:=7) 3 y y y y y (gps y y hb13) (fun hb14=>by replace q16:=bT hb14 q16;obtain ⟨v16,q15,q16⟩:=bs q16;obtain rfl:=sm q16;exact g y hb14<|mv y<|g y hb14<|ixS ti y y y q15<|g y hb14<|eql ti y y<|za (eg [50,51,52] 3 y y y y)) (fun hb=>(sm (bF hb q16)).symm)<|za (eg [46,47,48,49,50,51,52,53] 5 y y y y)) (fun hb=>(sm (bT hb q17)).symm)<|u<|sx [0] (zp v1 v2 v3 v4 v15.2.1 v15.2.2 v18 y)<|zx (env0:=[(0,.mpt 0 0 0)]) (st0:=[some (15,[(rK v1 v2 v3 (.isl 1 (map zf v4)) (.isl 1 (map zf v15.2.1)) (bA (v15.2.2||(!v18))))])]) (zo [.old 0])<|za ?_
    obtain ⟨v19,q18,h⟩:=bs h
    refine rl y<|u<|mv y<|u<|sx [0] (zN v1 v2 v3 v4 v15.2.1 (v15.2.2||(!v18)) [73] q18)<|zx (env0:=[]) (st0:=[some (15,[(rK v1 v2 v3 (.isl 1 (map zf v4)) (.isl 1 (map zf v19.1)) (bA v19.2))])]) (zo [.old 0])<|za ?_
    obtain rfl:=sm h
    exact ⟨_,y,zy [.old 0]⟩
   ·
    replace h:=bF hc11 h
    refine rg y<|u<|eql ti y y<|u<|asg y<|za ?_
    refine ze y (fun hc19=>?_) (fun hc19=>?_)
    ·
     replace h:=bT hc19 h
     obtain ⟨v20,q20,h⟩:=bs h
     refine rg y<|u<|mv y<|u<|bl 2 ti y ti y (by decide) (by decide) y y y<|zx (env0:=[(0,.mpt 0 0 0),(60,.mpt 0 0 0),(61,.isl 1 (map zf ([[91,73],[73]])))]) (st0:=[some (15,[(rK v1 v2 v3 (.isl 1 (map zf v4)) (.isl 1 (map zf v5)) (bA v6))])]) (zo [.old 0])<|u<|sx [0] (zZ v1 v2 v3 v4 v5 v6 ([[91,73],[73]]) q20)<|zx (env0:=[(0,.mpt 0 0 0)]) (st0:=[some (15,[(rK v1 v2 v3 (.isl 1 (map zf v4)) (.isl 1 (map zf v20.1)) (bA v20.2))])]) (zo [.old 0])<|za ?_
     obtain ⟨v21,q21,h⟩:=bs h
     refine rl y<|u<|mv y<|u<|sx [0] (zN v1 v2 v3 v4 v20.1 v20.2 [73] q21)<|zx (env0:=[]) (st0:=[some (15,[(rK v1 v2 v3 (.isl 1 (map zf v4)) (.isl 1 (map zf v21.1)) (bA v21.2))])]) (zo [.old 0])<|za ?_
     obtain rfl:=sm h
     exact ⟨_,y,zy [.old 0]⟩
    ·
     replace h:=bF hc19 h
     refine rg y<|u<|eql ti y y<|u<|asg y<|za ?_
     refine ze y (fun hc22=>?_) (fun hc22=>?_)
     ·
      replace h:=bT hc22 h
      obtain ⟨v22,q23,h⟩:=bs h
      refine rl y<|u<|mv y<|u<|bl 2 ti y ti y (by decide) (by decide) y y y<|zx (env0:=[(67,.mpt 0 0 0),(68,.isl 1 (map zf ([[91,73],[73],[73]])))]) (st0:=[some (15,[(rK v1 v2 v3 (.isl 1 (map zf v4)) (.isl 1 (map zf v5)) (bA v6))])]) (zo [.old 0])<|u<|sx [0] (zZ v1 v2 v3 v4 v5 v6 ([[91,73],[73],[73]]) q23)<|zx (env0:=[]) (st0:=[some (15,[(rK v1 v2 v3 (.isl 1 (map zf v4)) (.isl 1 (map zf v22.1)) (bA v22.2))])]) (zo [.old 0])<|za ?_
      obtain rfl:=sm h
      exact ⟨_,y,zy [.old 0]⟩
     ·
      replace h:=bF hc22 h
      refine rg y<|u<|eql ti y y<|u<|asg y<|za ?_
      refine ze y (fun hc24=>?_) (fun hc24=>?_)
      ·
       replace h:=bT hc24 h
       obtain ⟨v23,q25,h⟩:=bs h
       refine rg y<|u<|mv y<|u<|bl 2 ti y ti y (by decide) (by decide) y y y<|zx (env0:=[(0,.mpt 0 0 0),(72,.mpt 0 0 0),(73,.isl 1 (map zf ([[73]])))]) (st0:=[some (15,[(rK v1 v2 v3 (.isl 1 (map zf v4)) (.isl 1 (map zf v5)) (bA v6))])]) (zo [.old 0])<|u<|sx [0] (zZ v1 v2 v3 v4 v5 v6 ([[73]]) q25)<|zx (env0:=[(0,.mpt 0 0 0)]) (st0:=[some (15,[(rK v1 v2 v3 (.isl 1 (map zf v4)) (.isl 1 (map zf v23.1)) (bA v23.2))])]) (zo [.old 0])<|za ?_
       obtain ⟨v24,q26,h⟩:=bs h
       obtain ⟨v25,q27,h⟩:=bs h
       refine rl y<|u<|mv y<|u<|mv y<|u<|sx [0] (zif v1 v2 v3 v4 v23.1 v23.2 q26)<|zx (env0:=[(75,.mpt 0 0 0),(77,sA v24.1)]) (st0:=[some (15,[(rK v1 v2 v3 (.isl 1 (map zf v4)) (.isl 1 (map zf v24.2.1)) (bA v24.2.2))])]) (zo [.old 0])<|u<|sx [0] (zN v1 v2 v3 v4 v24.2.1 v24.2.2 v24.1 q27)<|zx (env0:=[]) (st0:=[some (15,[(rK v1 v2 v3 (.isl 1 (map zf v4)) (.isl 1 (map zf v25.1)) (bA v25.2))])]) (zo [.old 0])<|za ?_
       obtain rfl:=sm h
       exact ⟨_,y,zy [.old 0]⟩
      ·
       replace h:=bF hc24 h
       refine rg y<|u<|eql ti y y<|u<|asg y<|za ?_
       refine ze y (fun hc28=>?_) (fun hc28=>?_)
       ·
        replace h:=bT hc28 h
        obtain ⟨v26,q29,h⟩:=bs h
        refine rg y<|u<|mv y<|u<|sx [0] (zcE v1 v2 v3 v4 v5 v6 q29)<|zx (env0:=[(0,.mpt 0 0 0)]) (st0:=[some (15,[(rK v1 v2 v3 (.isl 1 (map zf v4)) (.isl 1 (map zf v26.2.1)) (bA v26.2.2))])]) (zo [.old 0])<|za ?_
        obtain ⟨v27,q30,h⟩:=bs h
        refine rg y<|u<|mv y<|u<|bl 1 ti y ti y (by decide) (by decide) y y y<|zx (env0:=[(0,.mpt 0 0 0),(83,.mpt 0 0 0),(84,.isl 1 (map zf ([[73]])))]) (st0:=[some (15,[(rK v1 v2 v3 (.isl 1 (map zf v4)) (.isl 1 (map zf v26.2.1)) (bA v26.2.2))])]) (zo [.old 0])<|u<|sx [0] (zZ v1 v2 v3 v4 v26.2.1 v26.2.2 ([[73]]) q30)<|zx (env0:=[(0,.mpt 0 0 0)]) (st0:=[some (15,[(rK v1 v2 v3 (.isl 1 (map zf v4)) (.isl 1 (map zf v27.1)) (bA v27.2))])]) (zo [.old 0])<|za ?_
        obtain ⟨v28,q31,h⟩:=bs h
        refine rl y<|u<|mv y<|u<|sx [0] (zif v1 v2 v3 v4 v27.1 v27.2 q31)<|zx (env0:=[]) (st0:=[some (15,[(rK v1 v2 v3 (.isl 1 (map zf v4)) (.isl 1 (map zf v28.2.1)) (bA v28.2.2))])]) (zo [.old 0])<|za ?_
        obtain rfl:=sm h
        exact ⟨_,y,zy [.old 0]⟩
       ·
        replace h:=bF hc28 h
        refine zg ?_
        obtain rfl:=sm h
        exact ⟨_,y,zy [.old 0]⟩
def zbc(v1:List zb)(v2:T0)(v3:zd)(v4:T1)(v5:T1)(v7:zH)(v11:Bool):Option (T1×T1×Bool):=
  cond (!v11) ((idx v4 v7.A).bind fun v12=>(zO v1 v2 v3 v4 v5 v11 v12).bind fun v13=>some (v4,v13.1,v13.2)) (some (v4,v5,v11))
def zcb(v1:List zb)(v2:T0)(v3:zd)(v4:T1)(v5:T1)(v6:Bool)(v37:Bool):Option (T1×T1×Bool):=
  cond v37 ((zS v1 v2 v3 v4 v5 v6 ([[73]])).bind fun v38=>some (v4,v38.1,v38.2)) (some (v4,v5,v6))
def zQ(v1:List zb)(v2:T0)(v3:zd)(v4:T1)(v5:T1)(v6:Bool)(v7:zH):Option (T1×T1×Bool):=
  cond (v7.Op == (1:Int)) ((zO v1 v2 v3 v4 v5 v6 [73]).bind fun v8=>some (v4,v8.1,v8.2)) (cond (v7.Op == (2:Int)) ((zO v1 v2 v3 v4 v5 v6 [78]).bind fun v9=>some (v4,v9.1,v9.2)) (cond (v7.Op == (3:Int)) (cond (decide (v7.A<(length v4:Int))) ((idx v4 (if (IntKind.i64.wrap ((length v4:Int)-1))<v7.A then (IntKind.i64.wrap ((length v4:Int)-1)) else v7.A)).bind fun v10=>zbc v1 v2 v3 v4 v5 v7 (v6||(!(!(v10 == [84]))))) (zbc v1 v2 v3 v4 v5 v7 (v6||(!false)))) (cond (v7.Op == (4:Int)) ((zav v1 v2 v3 v4 v5 v6).bind fun v14=>cond (!(v14.2.2||(!(decide (v7.A<(length v4:Int)))))) ((zec (zhM.mk v4 v14.2.1)).bind fun v15=>(idx v15.1 v7.A).bind fun v16=>some ((List.set v15.1 (Int.toNat v7.A) v14.1),v15.2,(v14.2.2||(!(decide (v7.A<(length v4:Int))))))) (some (v4,v14.2.1,(v14.2.2||(!(decide (v7.A<(length v4:Int)))))))) (cond (v7.Op == (5:Int)) ((zav v1 v2 v3 v4 v5 v6).bind fun v17=>some (v4,v17.2.1,v17.2.2)) (cond (v7.Op == (6:Int)) ((zav v1 v2 v3 v4 v5 v6).bind fun v18=>(zO v1 v2 v3 v4 v18.2.1 v18.2.2 v18.1).bind fun v19=>(zO v1 v2 v3 v4 v19.1 v19.2 v18.1).bind fun v20=>some (v4,v20.1,v20.2)) (cond (v7.Op == (7:Int)) ((zav v1 v2 v3 v4 v5 v6).bind fun v21=>(zav v1 v2 v3 v4 v21.2.1 v21.2.2).bind fun v22=>(zO v1 v2 v3 v4 v22.2.1 v22.2.2 v21.1).bind fun v23=>(zO v1 v2 v3 v4 v23.1 v23.2 v22.1).bind fun v24=>some (v4,v24.1,v24.2)) (cond (v7.Op == (46:Int)) (some (v4,v5,(v6||(!(v3.Ret == [86]))))) (cond (v7.Op == (47:Int)) ((zS v1 v2 v3 v4 v5 v6 ([[73]])).bind fun v25=>some (v4,v25.1,(v25.2||(!(v3.Ret == [73]))))) (cond (v7.Op == (48:Int)) ((zbJ v1 v2 v3 v4 v5 v6).bind fun v26=>cond (!(v3.Ret == [86])) (cond (!(v3.Ret == [73])) ((zbM v1 v26.1 v3.Ret).bind fun v27=>some (v4,v26.2.1,(v26.2.2||(!v27)))) (some (v4,v26.2.1,(v26.2.2||(!false))))) (some (v4,v26.2.1,(v26.2.2||(!false))))) (cond (v7.Op == (56:Int)) ((zbJ v1 v2 v3 v4 v5 v6).bind fun v28=>(z1 v1 v7.C).bind fun v29=>(zO v1 v2 v3 v4 v28.2.1 (v28.2.2||(!v29)) v7.C).bind fun v30=>some (v4,v30.1,v30.2)) (cond (v7.Op == (57:Int)) ((zbJ v1 v2 v3 v4 v5 v6).bind fun v31=>(z1 v1 v7.C).bind fun v32=>(zO v1 v2 v3 v4 v31.2.1 (v31.2.2||(!v32)) [73]).bind fun v33=>some (v4,v33.1,v33.2)) (cond (v7.Op == (58:Int)) ((zav v1 v2 v3 v4 v5 v6).bind fun v34=>(zbM v1 v34.1 [84,104,114,111,119,110]).bind fun v35=>some (v4,v34.2.1,(v34.2.2||(!v35)))) (cond (v7.Op == (59:Int)) ((zO v1 v2 v3 v4 v5 v6 [73]).bind fun v36=>some (v4,v36.1,v36.2)) (cond (v7.Op == (60:Int)) (zcb v1 v2 v3 v4 v5 v6 (v7.Op == (60:Int))) (zcb v1 v2 v3 v4 v5 v6 (v7.Op == (61:Int)))))))))))))))))
theorem zld(v1:List zb)(v2:T0)(v3:zd)(v4:T1)(v5:T1)(v6:Bool)(v7:zH){r:T1×T1×Bool}(h:zQ v1 v2 v3 v4 v5 v6 v7=some r):SC Tryz.prog 209 [.mpt 0 0 0,.agg (zv v7)] [.one 15 (rK v1 v2 v3 (.isl 1 (map zf v4)) (.isl 1 (map zf v5)) (bA v6))] (.tup []) [.one 15 (rK v1 v2 v3 (.isl 1 (map zf r.1)) (.isl 1 (map zf r.2.1)) (bA r.2.2))]:=by
 refine ⟨⟨t,t⟩,zW Tryz.func209 y kz y ?_⟩
 unfold zQ at h
 refine rg y<|u<|bx 1 4 y y y y<|za ?_
 refine rg y<|u<|fa ti y y y<|u<|ld ti y y<|za ?_
 refine zr ?_
 refine rg y<|u<|eql ti y y<|u<|asg y<|za ?_
 refine ze y (fun hc1=>?_) (fun hc1=>?_)
 ·
  replace h:=bT hc1 h
  obtain ⟨v8,q2,h⟩:=bs h
  refine rl y<|u<|mv y<|u<|sx [0] (zN v1 v2 v3 v4 v5 v6 [73] q2)<|zx (env0:=[]) (st0:=[some (15,[(rK v1 v2 v3 (.isl 1 (map zf v4)) (.isl 1 (map zf v8.1)) (bA v8.2))])]) (zo [.old 0])<|za ?_
  obtain rfl:=sm h
  exact ⟨_,y,zy [.old 0]⟩
 ·
  replace h:=bF hc1 h
  refine rg y<|u<|eql ti y y<|u<|asg y<|za ?_
  refine ze y (fun hc3=>?_) (fun hc3=>?_)
  ·
   replace h:=bT hc3 h
   obtain ⟨v9,q4,h⟩:=bs h
   refine rl y<|u<|mv y<|u<|sx [0] (zN v1 v2 v3 v4 v5 v6 [78] q4)<|zx (env0:=[]) (st0:=[some (15,[(rK v1 v2 v3 (.isl 1 (map zf v4)) (.isl 1 (map zf v9.1)) (bA v9.2))])]) (zo [.old 0])<|za ?_
   obtain rfl:=sm h
   exact ⟨_,y,zy [.old 0]⟩
  ·
   replace h:=bF hc3 h
   refine rg y<|u<|eql ti y y<|u<|asg y<|za ?_
   refine ze y (fun hc5=>?_) (fun hc5=>?_)
   ·
    replace h:=bT hc5 h
    refine za6 (X:=Bool) (fun z=>[(0,.mpt 0 0 0),(3,.mpt 1 0 0)]) (fun z=>[some (15,[(rK v1 v2 v3 (.isl 1 (map zf v4)) (.isl 1 (map zf v5)) (bA z))]),some (4,[(zv v7)])]) (fun z=>zbc v1 v2 v3 v4 v5 v7 z=some r) ?_ ?_
    ·
     rcases bb (decide (v7.A<(length v4:Int))) with hb6 |hb6
     ·
      replace h:=bT hb6 h
      obtain ⟨v10,q7,h⟩:=bs h
      exact zae [30] [29,28,27,26,25,24,23,22,21,20,19,18,17,16,15,14,13,12,11,10,9,8,7,6,5,4,3,2,1,0] [(50,bA (!(v10 == [84]))),(49,bA (!(v10 == [84]))),(48,sA v10),(47,.ipt 1 (map zf v4) (Int.toNat (if (IntKind.i64.wrap ((length v4:Int)-1))<v7.A then (IntKind.i64.wrap ((length v4:Int)-1)) else v7.A)) 0),(46,iA (if (IntKind.i64.wrap ((length v4:Int)-1))<v7.A then (IntKind.i64.wrap ((length v4:Int)-1)) else v7.A)),(45,iA (IntKind.i64.wrap ((length v4:Int)-1))),(44,iA (length v4:Int)),(43,.isl 1 (map zf v4)),(42,.mpt 0 0 12),(41,.mpt 0 0 12),(40,.mpt 0 0 0),(39,.mpt 0 0 0),(38,iA v7.A),(37,.mpt 1 0 1),(36,.isl 1 (map zf v4)),(35,.mpt 0 0 12),(34,.mpt 0 0 12),(33,.mpt 0 0 0),(32,.mpt 0 0 0),(31,bA (decide (v7.A<(length v4:Int)))),(30,bA (decide (v7.A<(length v4:Int)))),(29,iA (length v4:Int)),(28,.isl 1 (map zf v4)),(27,.mpt 0 0 12),(26,.mpt 0 0 12),(25,.mpt 0 0 0),(24,.mpt 0 0 0),(23,iA v7.A),(22,.mpt 1 0 1),(21,.mpt 0 0 0)] 1 kz kz y kz (zem ⟨pe,pe,(fun _=>pag (b:=(decide (v7.A<(length v4:Int)))) y y y y hb6 y (ldI ti y (zl q7).2.2 y<|w)),(fun _=>pag (b:=(decide (v7.A<(length v4:Int)))) y y y y hb6 y (ixI ti y ti y y y q7<|w)),(fun _=>pag (b:=(decide (v7.A<(length v4:Int)))) y y y y hb6 y (mnI y y<|w)),(fun _=>pag (b:=(decide (v7.A<(length v4:Int)))) y y y y hb6 y (sub ti y y<|w)),(fun _=>pag (b:=(decide (v7.A<(length v4:Int)))) y y y y hb6 y (lnI ti y y<|w)),pe,pe,pe,pe,pe,pe,pe,pe,pe,pe,pe,pe,pe,pe,(pb y (lnI ti y y w)),pe,pe,pe,pe,pe,pe,pe,pe,t⟩ ⟨(fun _ _=>⟨_,y,y,sc [0] (args:=[.mpt 0 0 0,bA (!(v10 == [84]))]) (zp v1 v2 v3 v4 v5 v6 (!(v10 == [84])) y) y y y y ⟨(.mpt y),(rnI y),t⟩ ⟨⟨_,y,(zr7 y)⟩,t⟩<|⟨(.tup []),[],[(51,.tup [])],y,y,kz,y,zht ⟨pe,pe,(fun _=>pag (b:=(decide (v7.A<(length v4:Int)))) y y y y hb6 y (ldI ti y (zl q7).2.2 y<|w)),(fun _=>pag (b:=(decide (v7.A<(length v4:Int)))) y y y y hb6 y (ixI ti y ti y y y q7<|w)),(fun _=>pag (b:=(decide (v7.A<(length v4:Int)))) y y y y hb6 y (mnI y y<|w)),(fun _=>pag (b:=(decide (v7.A<(length v4:Int)))) y y y y hb6 y (sub ti y y<|w)),(fun _=>pag (b:=(decide (v7.A<(length v4:Int)))) y y y y hb6 y (lnI ti y y<|w)),pe,pe,pe,pe,pe,pe,pe,pe,pe,pe,pe,pe,pe,pe,(pb y (lnI ti y y w)),pe,pe,pe,pe,pe,pe,pe,pe,t⟩ ⟨(v6||(!(!(v10 == [84])))),h,zo [.old 0,.old 1]⟩⟩⟩),t⟩)
     ·
      replace h:=bF hb6 h
      exact zae [30] [29,28,27,26,25,24,23,22,21,20,19,18,17,16,15,14,13,12,11,10,9,8,7,6,5,4,3,2,1,0] [(50,bA false),(49,.lit undef),(48,.lit undef),(47,.lit undef),(46,.lit undef),(45,.lit undef),(44,.lit undef),(43,.lit undef),(42,.lit undef),(41,.lit undef),(40,.lit undef),(39,.lit undef),(38,.lit undef),(37,.lit undef),(36,.lit undef),(35,.lit undef),(34,.lit undef),(33,.lit undef),(32,.lit undef),(31,bA (decide (v7.A<(length v4:Int)))),(30,bA (decide (v7.A<(length v4:Int)))),(29,iA (length v4:Int)),(28,.isl 1 (map zf v4)),(27,.mpt 0 0 12),(26,.mpt 0 0 12),(25,.mpt 0 0 0),(24,.mpt 0 0 0),(23,iA v7.A),(22,.mpt 1 0 1),(21,.mpt 0 0 0)] 1 kz kz y kz (zem ⟨pe,pe,pe,pe,pe,pe,pe,pe,pe,pe,pe,pe,pe,pe,pe,pe,pe,pe,pe,pe,pe,(pb y (lnI ti y y w)),pe,pe,pe,pe,pe,pe,pe,pe,t⟩ ⟨(fun _ _=>⟨_,y,y,sc [0] (args:=[.mpt 0 0 0,bA false]) (zp v1 v2 v3 v4 v5 v6 false y) y y y y ⟨(.mpt y),(rnI y),t⟩ ⟨⟨_,y,(zr7 y)⟩,t⟩<|⟨(.tup []),[],[(51,.tup [])],y,y,kz,y,zht ⟨pe,pe,pe,pe,pe,pe,pe,pe,pe,pe,pe,pe,pe,pe,pe,pe,pe,pe,pe,pe,pe,(pb y (lnI ti y y w)),pe,pe,pe,pe,pe,pe,pe,pe,t⟩ ⟨(v6||(!false)),h,zo [.old 0,.old 1]⟩⟩⟩),t⟩)
    ·
     rintro v11 h
     replace h:zbc v1 v2 v3 v4 v5 v7 v11=some r:=h
     unfold zbc at h
     refine rg y<|u<|mv y<|u<|nc y y<|u<|fa ti y y y<|u<|ld ti y y<|u<|nt y<|za ?_
     refine ze y (fun hc8=>?_) (fun hc8=>?_)
     ·
      replace h:=bT hc8 h
      obtain ⟨v12,q9,h⟩:=bs h
      obtain ⟨v13,q10,h⟩:=bs h
      refine zjq [] [some (15,[(rK v1 v2 v3 (.isl 1 (map zf v4)) (.isl 1 (map zf v13.1)) (bA v13.2))])] [10] [9,8,7,6,5,4,3,2,1,0] [(66,sA v12),(65,.ipt 1 (map zf v4) (Int.toNat v7.A) 0),(64,iA v7.A),(63,.mpt 1 0 1),(62,.isl 1 (map zf v4)),(61,.mpt 0 0 12),(60,.mpt 0 0 12),(59,.mpt 0 0 0),(58,.mpt 0 0 0),(57,.mpt 0 0 0)] 1 (zem ⟨(pb y (ldI ti y (zl q9).2.2 y w)),(pb y (ixI ti y ti y y y q9 w)),pe,pe,pe,pe,pe,pe,pe,pe,t⟩ ⟨(fun _ _=>⟨_,y,y,sx [0] (zN v1 v2 v3 v4 v5 v11 v12 q10)<|⟨(.tup []),[],[(67,.tup [])],y,y,kz,y,zht ⟨pe,(pb y (ixI ti y ti y y y q9 w)),pe,pe,pe,pe,pe,pe,pe,pe,t⟩ (zo [.old 0])⟩⟩),t⟩) ?_
      obtain rfl:=sm h
      exact ⟨_,y,zy [.old 0]⟩
     ·
      replace h:=bF hc8 h
      refine zg ?_
      obtain rfl:=sm h
      exact ⟨_,y,zy [.old 0]⟩
   ·
    replace h:=bF hc5 h
    refine rg y<|u<|eql ti y y<|u<|asg y<|za ?_
    refine ze y (fun hc11=>?_) (fun hc11=>?_)
    ·
     replace h:=bT hc11 h
     obtain ⟨v14,q12,h⟩:=bs h
     refine rg y<|u<|mv y<|u<|sx [0] (zaW v1 v2 v3 v4 v5 v6 q12)<|zx (env0:=[(0,.mpt 0 0 0),(3,.mpt 1 0 0),(71,sA v14.1)]) (st0:=[some (15,[(rK v1 v2 v3 (.isl 1 (map zf v4)) (.isl 1 (map zf v14.2.1)) (bA v14.2.2))]),some (4,[(zv v7)])]) (zo [.old 0,.old 1])<|u<|asg y<|za ?_
     refine rdA [(0,.mpt 0 0 0),(3,.mpt 1 0 0),(4,sA v14.1)] [some (15,[(rK v1 v2 v3 (.isl 1 (map zf v4)) (.isl 1 (map zf v14.2.1)) (bA (v14.2.2||(!(decide (v7.A<(length v4:Int)))))))]),some (4,[(zv v7)])] [10] [9,8,7,6,5,4,3,2,1,0] [(81,bA (decide (v7.A<(length v4:Int)))),(80,iA (length v4:Int)),(79,.isl 1 (map zf v4)),(78,.mpt 0 0 12),(77,.mpt 0 0 12),(76,.mpt 0 0 0),(75,.mpt 0 0 0),(74,iA v7.A),(73,.mpt 1 0 1),(72,.mpt 0 0 0)] 1 (zem ⟨pe,(pb y (lnI ti y y w)),pe,pe,pe,pe,pe,pe,pe,pe,t⟩ ⟨(fun _ _=>⟨_,y,y,sx [0] (zp v1 v2 v3 v4 v14.2.1 v14.2.2 (decide (v7.A<(length v4:Int))) y)<|⟨(.tup []),[],[(82,.tup [])],y,y,kz,y,zht ⟨pe,(pb y (lnI ti y y w)),pe,pe,pe,pe,pe,pe,pe,pe,t⟩ (zo [.old 0,.old 1])⟩⟩),t⟩) ?_
     refine rg y<|u<|mv y<|u<|nc y y<|u<|fa ti y y y<|u<|ld ti y y<|u<|nt y<|za ?_
     refine ze y (fun hc13=>?_) (fun hc13=>?_)
     ·
      replace h:=bT hc13 h
      obtain ⟨v15,q14,h⟩:=bs h
      refine rg y<|u<|mv y<|u<|mv y<|u<|nc y y<|u<|fa ti y y y<|u<|ld ti y y<|u<|sx [] (zjs (zhM.mk v4 v14.2.1) q14)<|zx (env0:=[(0,.mpt 0 0 0),(3,.mpt 1 0 0),(4,sA v14.1),(88,.mpt 0 0 0),(93,.agg [.msl 2 0 (length v15.1),.msl 3 0 (length v15.2)])]) (st0:=[some (15,[(rK v1 v2 v3 (.isl 1 (map zf v4)) (.isl 1 (map zf v14.2.1)) (bA (v14.2.2||(!(decide (v7.A<(length v4:Int)))))))]),some (4,[(zv v7)]),some (1,map zf v15.1),some (1,map zf v15.2)]) (zo [.old 0,.old 1,.old 2,.old 3])<|u<|nc y y<|u<|fa ti y y y<|u<|sto ti y y y<|za ?_
      obtain ⟨v16,q15,h⟩:=bs h
      refine zjq [] [some (15,[(rK v1 v2 v3 (.isl 1 (map zf (List.set v15.1 (Int.toNat v7.A) v14.1))) (.isl 1 (map zf v15.2)) (bA (v14.2.2||(!(decide (v7.A<(length v4:Int)))))))])] [9] [8,7,6,5,4,3,2,1,0] [(104,.mpt 2 (Int.toNat v7.A) 0),(103,sA v14.1),(102,iA v7.A),(101,.mpt 1 0 1),(100,.msl 2 0 (length v15.1)),(99,.mpt 0 0 12),(98,.mpt 0 0 12),(97,.mpt 0 0 0),(96,.mpt 0 0 0)] 1 (zem ⟨(pb y (ixM ti y ti y y y y q15 w)),pe,pe,pe,pe,pe,pe,pe,pe,t⟩ ⟨(fun _ _=>⟨_,y,y,zBR (c':=v14.1) ti y y (zl q15).2.2 y y y y y<|⟨.any,[],[],y,y,kz,t,zhW ⟨[.old 0],cn,y,⟨⟨_,y,ziB (zAp y (by exact ⟨zAm (by simp) y y (fun _=>y),zn9 y y (fun _=>y),ci y,t⟩))⟩,t⟩,y,k⟩⟩⟩),t⟩) ?_
      obtain rfl:=sm h
      exact ⟨_,y,zy [.old 0]⟩
     ·
      replace h:=bF hc13 h
      refine zg ?_
      obtain rfl:=sm h
      exact ⟨_,y,zy [.old 0]⟩
    ·
     replace h:=bF hc11 h
     refine rg y<|u<|eql ti y y<|u<|asg y<|za ?_
     refine ze y (fun hc16=>?_) (fun hc16=>?_)
     ·
      replace h:=bT hc16 h
      obtain ⟨v17,q17,h⟩:=bs h
      refine rl y<|u<|mv y<|u<|sx [0] (zaW v1 v2 v3 v4 v5 v6 q17)<|zx (env0:=[]) (st0:=[some (15,[(rK v1 v2 v3 (.isl 1 (map zf v4)) (.isl 1 (map zf v17.2.1)) (bA v17.2.2))])]) (zo [.old 0])<|za ?_
      obtain rfl:=sm h
      exact ⟨_,y,zy [.old 0]⟩
     ·
      replace h:=bF hc16 h
      refine rg y<|u<|eql ti y y<|u<|asg y<|za ?_
      refine ze y (fun hc18=>?_) (fun hc18=>?_)
      ·
       replace h:=bT hc18 h
       obtain ⟨v18,q19,h⟩:=bs h
       refine rg y<|u<|mv y<|u<|sx [0] (zaW v1 v2 v3 v4 v5 v6 q19)<|zx (env0:=[(0,.mpt 0 0 0),(112,sA v18.1)]) (st0:=[some (15,[(rK v1 v2 v3 (.isl 1 (map zf v4)) (.isl 1 (map zf v18.2.1)) (bA v18.2.2))])]) (zo [.old 0])<|u<|asg y<|za ?_
       obtain ⟨v19,q20,h⟩:=bs h
       refine rg y<|u<|mv y<|u<|mv y<|u<|sx [0] (zN v1 v2 v3 v4 v18.2.1 v18.2.2 v18.1 q20)<|zx (env0:=[(0,.mpt 0 0 0),(5,sA v18.1)]) (st0:=[some (15,[(rK v1 v2 v3 (.isl 1 (map zf v4)) (.isl 1 (map zf v19.1)) (bA v19.2))])]) (zo [.old 0])<|za ?_
       obtain ⟨v20,q21,h⟩:=bs h
       refine rl y<|u<|mv y<|u<|mv y<|u<|sx [0] (zN v1 v2 v3 v4 v19.1 v19.2 v18.1 q21)<|zx (env0:=[]) (st0:=[some (15,[(rK v1 v2 v3 (.isl 1 (map zf v4)) (.isl 1 (map zf v20.1)) (bA v20.2))])]) (zo [.old 0])<|za ?_
       obtain rfl:=sm h
       exact ⟨_,y,zy [.old 0]⟩
      ·
       replace h:=bF hc18 h
       refine rg y<|u<|eql ti y y<|u<|asg y<|za ?_
       refine ze y (fun hc22=>?_) (fun hc22=>?_)
       ·
        replace h:=bT hc22 h
        obtain ⟨v21,q23,h⟩:=bs h
        obtain ⟨v22,q24,h⟩:=bs h
        refine rg y<|u<|mv y<|u<|sx [0] (zaW v1 v2 v3 v4 v5 v6 q23)<|zx (env0:=[(0,.mpt 0 0 0),(122,sA v21.1)]) (st0:=[some (15,[(rK v1 v2 v3 (.isl 1 (map zf v4)) (.isl 1 (map zf v21.2.1)) (bA v21.2.2))])]) (zo [.old 0])<|u<|mv y<|u<|sx [0] (zaW v1 v2 v3 v4 v21.2.1 v21.2.2 q24)<|zx (env0:=[(0,.mpt 0 0 0),(122,sA v21.1),(124,sA v22.1)]) (st0:=[some (15,[(rK v1 v2 v3 (.isl 1 (map zf v4)) (.isl 1 (map zf v22.2.1)) (bA v22.2.2))])]) (zo [.old 0])<|u<|asg y<|u<|asg y<|za ?_
        obtain ⟨v23,q25,h⟩:=bs h
        refine rg y<|u<|mv y<|u<|mv y<|u<|sx [0] (zN v1 v2 v3 v4 v22.2.1 v22.2.2 v21.1 q25)<|zx (env0:=[(0,.mpt 0 0 0),(7,sA v22.1)]) (st0:=[some (15,[(rK v1 v2 v3 (.isl 1 (map zf v4)) (.isl 1 (map zf v23.1)) (bA v23.2))])]) (zo [.old 0])<|za ?_
        obtain ⟨v24,q26,h⟩:=bs h
        refine rl y<|u<|mv y<|u<|mv y<|u<|sx [0] (zN v1 v2 v3 v4 v23.1 v23.2 v22.1 q26)<|zx (env0:=[]) (st0:=[some (15,[(rK v1 v2 v3 (.isl 1 (map zf v4)) (.isl 1 (map zf v24.1)) (bA v24.2))])]) (zo [.old 0])<|za ?_
        obtain rfl:=sm h
        exact ⟨_,y,zy [.old 0]⟩
       ·
        replace h:=bF hc22 h
        refine rg y<|u<|eql ti y y<|u<|asg y<|za ?_
        refine ze y (fun hc27=>?_) (fun hc27=>?_)
        ·
         replace h:=bT hc27 h
         refine rl y<|u<|mv y<|u<|mv y<|u<|nc y y<|u<|fa ti y y y<|u<|fa ti y y y<|u<|ld ti y y<|u<|seq ti y y<|u<|sx [0] (zp v1 v2 v3 v4 v5 v6 (v3.Ret == [86]) y)<|zx (env0:=[]) (st0:=[some (15,[(rK v1 v2 v3 (.isl 1 (map zf v4)) (.isl 1 (map zf v5)) (bA (v6||(!(v3.Ret == [86])))))])]) (zo [.old 0])<|za ?_
         obtain rfl:=sm h
         exact ⟨_,y,zy [.old 0]⟩
        ·
         replace h:=bF hc27 h
         refine rg y<|u<|eql ti y y<|u<|asg y<|za ?_
         refine ze y (fun hc28=>?_) (fun hc28=>?_)
         ·
          replace h:=bT hc28 h
          obtain ⟨v25,q29,h⟩:=bs h
          refine rg y<|u<|mv y<|u<|bl 2 ti y ti y (by decide) (by decide) y y y<|zx (env0:=[(0,.mpt 0 0 0),(143,.mpt 0 0 0),(144,.isl 1 (map zf ([[73]])))]) (st0:=[some (15,[(rK v1 v2 v3 (.isl 1 (map zf v4)) (.isl 1 (map zf v5)) (bA v6))])]) (zo [.old 0])<|u<|sx [0] (zZ v1 v2 v3 v4 v5 v6 ([[73]]) q29)<|zx (env0:=[(0,.mpt 0 0 0)]) (st0:=[some (15,[(rK v1 v2 v3 (.isl 1 (map zf v4)) (.isl 1 (map zf v25.1)) (bA v25.2))])]) (zo [.old 0])<|za ?_
          refine rl y<|u<|mv y<|u<|mv y<|u<|nc y y<|u<|fa ti y y y<|u<|fa ti y y y<|u<|ld ti y y<|u<|seq ti y y<|u<|sx [0] (zp v1 v2 v3 v4 v25.1 v25.2 (v3.Ret == [73]) y)<|zx (env0:=[]) (st0:=[some (15,[(rK v1 v2 v3 (.isl 1 (map zf v4)) (.isl 1 (map zf v25.1)) (bA (v25.2||(!(v3.Ret == [73])))))])]) (zo [.old 0])<|za ?_
          obtain rfl:=sm h
          exact ⟨_,y,zy [.old 0]⟩
         ·
          replace h:=bF hc28 h
          refine rg y<|u<|eql ti y y<|u<|asg y<|za ?_
          refine ze y (fun hc30=>?_) (fun hc30=>?_)
          ·
           replace h:=bT hc30 h
           obtain ⟨v26,q31,h⟩:=bs h
           refine rg y<|u<|mv y<|u<|sx [0] (zcE v1 v2 v3 v4 v5 v6 q31)<|zx (env0:=[(0,.mpt 0 0 0),(157,sA v26.1)]) (st0:=[some (15,[(rK v1 v2 v3 (.isl 1 (map zf v4)) (.isl 1 (map zf v26.2.1)) (bA v26.2.2))])]) (zo [.old 0])<|u<|asg y<|za ?_
           rcases bb (!(v3.Ret == [86])) with hb32 |hb32
           ·
            replace h:=bT hb32 h
            rcases bb (!(v3.Ret == [73])) with hb33 |hb33
            ·
             replace h:=bT hb33 h
             obtain ⟨v27,q34,h⟩:=bs h
             refine zjq [] [some (15,[(rK v1 v2 v3 (.isl 1 (map zf v4)) (.isl 1 (map zf v26.2.1)) (bA (v26.2.2||(!v27))))])] [28] [27,26,25,24,23,22,21,20,19,18,17,16,15,14,13,12,11,10,9,8,7,6,5,4,3,2,1,0] [(185,bA v27),(184,bA v27),(183,sA v3.Ret),(182,.mpt 0 0 4),(181,.mpt 0 0 2),(180,.mpt 0 0 0),(179,.mpt 0 0 0),(178,sA v26.1),(177,.ipt 1 [[.isl 6 (map zc v1)]] 0 0),(176,.mpt 0 0 0),(175,.mpt 0 0 0),(174,.mpt 0 0 0),(173,bA (!(v3.Ret == [73]))),(172,bA (!(v3.Ret == [73]))),(171,bA (!(v3.Ret == [73]))),(170,sA v3.Ret),(169,.mpt 0 0 4),(168,.mpt 0 0 2),(167,.mpt 0 0 0),(166,.mpt 0 0 0),(165,bA (!(v3.Ret == [86]))),(164,bA (!(v3.Ret == [86]))),(163,sA v3.Ret),(162,.mpt 0 0 4),(161,.mpt 0 0 2),(160,.mpt 0 0 0),(159,.mpt 0 0 0),(158,.mpt 0 0 0)] 1 (zem ⟨pe,(fun _=>pag (b:=(!(v3.Ret == [73]))) y y y y hb33 y (pc (zc4 v1 v26.1 v3.Ret q34) y y y<|w)),pe,pe,pe,pe,pe,pe,pe,pe,pe,pe,pe,pe,pe,pe,pe,pe,pe,pe,pe,pe,pe,pe,pe,pe,pe,pe,t⟩ ⟨(fun _ _=>⟨_,y,y,sc [0] (args:=[.mpt 0 0 0,bA v27]) (zp v1 v2 v3 v4 v26.2.1 v26.2.2 v27 y) y y y y ⟨(.mpt y),(rnI y),t⟩ ⟨⟨_,y,(zr7 y)⟩,t⟩<|⟨(.tup []),[],[(186,.tup [])],y,y,kz,y,zhW (zo [.old 0])⟩⟩),t⟩) ?_
             obtain rfl:=sm h
             exact ⟨_,y,zy [.old 0]⟩
            ·
             replace h:=bF hb33 h
             refine zjq [] [some (15,[(rK v1 v2 v3 (.isl 1 (map zf v4)) (.isl 1 (map zf v26.2.1)) (bA (v26.2.2||(!false))))])] [28] [27,26,25,24,23,22,21,20,19,18,17,16,15,14,13,12,11,10,9,8,7,6,5,4,3,2,1,0] [(185,bA false),(184,.lit undef),(183,.lit undef),(182,.lit undef),(181,.lit undef),(180,.lit undef),(179,.lit undef),(178,.lit undef),(177,.lit undef),(176,.lit undef),(175,.lit undef),(174,.lit undef),(173,bA (!(v3.Ret == [73]))),(172,bA (!(v3.Ret == [73]))),(171,bA (!(v3.Ret == [73]))),(170,sA v3.Ret),(169,.mpt 0 0 4),(168,.mpt 0 0 2),(167,.mpt 0 0 0),(166,.mpt 0 0 0),(165,bA (!(v3.Ret == [86]))),(164,bA (!(v3.Ret == [86]))),(163,sA v3.Ret),(162,.mpt 0 0 4),(161,.mpt 0 0 2),(160,.mpt 0 0 0),(159,.mpt 0 0 0),(158,.mpt 0 0 0)] 1 (zma ⟨(fun _ _=>⟨_,y,y,sc [0] (args:=[.mpt 0 0 0,bA false]) (zp v1 v2 v3 v4 v26.2.1 v26.2.2 false y) y y y y ⟨(.mpt y),(rnI y),t⟩ ⟨⟨_,y,(zr7 y)⟩,t⟩<|⟨(.tup []),[],[(186,.tup [])],y,y,kz,y,zhW (zo [.old 0])⟩⟩),t⟩) ?_
             obtain rfl:=sm h
             exact ⟨_,y,zy [.old 0]⟩
           ·
            replace h:=bF hb32 h
            refine zjq [] [some (15,[(rK v1 v2 v3 (.isl 1 (map zf v4)) (.isl 1 (map zf v26.2.1)) (bA (v26.2.2||(!false))))])] [28] [27,26,25,24,23,22,21,20,19,18,17,16,15,14,13,12,11,10,9,8,7,6,5,4,3,2,1,0] [(185,bA false),(184,.lit undef),(183,.lit undef),(182,.lit undef),(181,.lit undef),(180,.lit undef),(179,.lit undef),(178,.lit undef),(177,.lit undef),(176,.lit undef),(175,.lit undef),(174,.lit undef),(173,bA false),(172,bA false),(171,.lit undef),(170,.lit undef),(169,.lit undef),(168,.lit undef),(167,.lit undef),(166,.lit undef),(165,bA (!(v3.Ret == [86]))),(164,bA (!(v3.Ret == [86]))),(163,sA v3.Ret),(162,.mpt 0 0 4),(161,.mpt 0 0 2),(160,.mpt 0 0 0),(159,.mpt 0 0 0),(158,.mpt 0 0 0)] 1 (zma ⟨(fun _ _=>⟨_,y,y,sc [0] (args:=[.mpt 0 0 0,bA false]) (zp v1 v2 v3 v4 v26.2.1 v26.2.2 false y) y y y y ⟨(.mpt y),(rnI y),t⟩ ⟨⟨_,y,(zr7 y)⟩,t⟩<|⟨(.tup []),[],[(186,.tup [])],y,y,kz,y,zhW (zo [.old 0])⟩⟩),t⟩) ?_
            obtain rfl:=sm h
            exact ⟨_,y,zy [.old 0]⟩
          ·
           replace h:=bF hc30 h
           refine rg y<|u<|eql ti y y<|u<|asg y<|za ?_
           refine ze y (fun hc35=>?_) (fun hc35=>?_)
           ·
            replace h:=bT hc35 h
            obtain ⟨v28,q36,h⟩:=bs h
            refine rg y<|u<|mv y<|u<|sx [0] (zcE v1 v2 v3 v4 v5 v6 q36)<|zx (env0:=[(0,.mpt 0 0 0),(3,.mpt 1 0 0)]) (st0:=[some (15,[(rK v1 v2 v3 (.isl 1 (map zf v4)) (.isl 1 (map zf v28.2.1)) (bA v28.2.2))]),some (4,[(zv v7)])]) (zo [.old 0,.old 1])<|za ?_
            obtain ⟨v29,q37,h⟩:=bs h
            refine rdA [(0,.mpt 0 0 0),(3,.mpt 1 0 0)] [some (15,[(rK v1 v2 v3 (.isl 1 (map zf v4)) (.isl 1 (map zf v28.2.1)) (bA (v28.2.2||(!v29))))]),some (4,[(zv v7)])] [8] [7,6,5,4,3,2,1,0] [(198,bA v29),(197,sA v7.C),(196,.mpt 1 0 2),(195,.ipt 1 [[.isl 6 (map zc v1)]] 0 0),(194,.mpt 0 0 0),(193,.mpt 0 0 0),(192,.mpt 0 0 0),(191,.mpt 0 0 0)] 1 (zem ⟨(pb y (pc (zab v1 v7.C q37) y y y w)),pe,pe,pe,pe,pe,pe,pe,t⟩ ⟨(fun _ _=>⟨_,y,y,sx [0] (zp v1 v2 v3 v4 v28.2.1 v28.2.2 v29 y)<|⟨(.tup []),[],[(199,.tup [])],y,y,kz,y,zhW (zo [.old 0,.old 1])⟩⟩),t⟩) ?_
            obtain ⟨v30,q38,h⟩:=bs h
            refine rl y<|u<|mv y<|u<|fa ti y y y<|u<|ld ti y y<|u<|sx [0] (zN v1 v2 v3 v4 v28.2.1 (v28.2.2||(!v29)) v7.C q38)<|zx (env0:=[]) (st0:=[some (15,[(rK v1 v2 v3 (.isl 1 (map zf v4)) (.isl 1 (map zf v30.1)) (bA v30.2))])]) (zo [.old 0])<|za ?_
            obtain rfl:=sm h
            exact ⟨_,y,zy [.old 0]⟩
           ·
            replace h:=bF hc35 h
            refine rg y<|u<|eql ti y y<|u<|asg y<|za ?_
            refine ze y (fun hc39=>?_) (fun hc39=>?_)
            ·
             replace h:=bT hc39 h
             obtain ⟨v31,q40,h⟩:=bs h
             refine rg y<|u<|mv y<|u<|sx [0] (zcE v1 v2 v3 v4 v5 v6 q40)<|zx (env0:=[(0,.mpt 0 0 0),(3,.mpt 1 0 0)]) (st0:=[some (15,[(rK v1 v2 v3 (.isl 1 (map zf v4)) (.isl 1 (map zf v31.2.1)) (bA v31.2.2))]),some (4,[(zv v7)])]) (zo [.old 0,.old 1])<|za ?_
             obtain ⟨v32,q41,h⟩:=bs h
             refine rdA [(0,.mpt 0 0 0)] [some (15,[(rK v1 v2 v3 (.isl 1 (map zf v4)) (.isl 1 (map zf v31.2.1)) (bA (v31.2.2||(!v32))))])] [8] [7,6,5,4,3,2,1,0] [(215,bA v32),(214,sA v7.C),(213,.mpt 1 0 2),(212,.ipt 1 [[.isl 6 (map zc v1)]] 0 0),(211,.mpt 0 0 0),(210,.mpt 0 0 0),(209,.mpt 0 0 0),(208,.mpt 0 0 0)] 1 (zem ⟨(pb y (pc (zab v1 v7.C q41) y y y w)),pe,pe,pe,pe,pe,pe,pe,t⟩ ⟨(fun _ _=>⟨_,y,y,sx [0] (zp v1 v2 v3 v4 v31.2.1 v31.2.2 v32 y)<|⟨(.tup []),[],[(216,.tup [])],y,y,kz,y,zhW (zo [.old 0])⟩⟩),t⟩) ?_
             obtain ⟨v33,q42,h⟩:=bs h
             refine rl y<|u<|mv y<|u<|sx [0] (zN v1 v2 v3 v4 v31.2.1 (v31.2.2||(!v32)) [73] q42)<|zx (env0:=[]) (st0:=[some (15,[(rK v1 v2 v3 (.isl 1 (map zf v4)) (.isl 1 (map zf v33.1)) (bA v33.2))])]) (zo [.old 0])<|za ?_
             obtain rfl:=sm h
             exact ⟨_,y,zy [.old 0]⟩
            ·
             replace h:=bF hc39 h
             refine rg y<|u<|eql ti y y<|u<|asg y<|za ?_
             refine ze y (fun hc43=>?_) (fun hc43=>?_)
             ·
              replace h:=bT hc43 h
              obtain ⟨v34,q44,h⟩:=bs h
              obtain ⟨v35,q45,h⟩:=bs h
              refine zjq [] [some (15,[(rK v1 v2 v3 (.isl 1 (map zf v4)) (.isl 1 (map zf v34.2.1)) (bA (v34.2.2||(!v35))))])] [6,8] [5,4,3,2,1,0] [(226,.mpt 0 0 0),(225,.ipt 1 [[.isl 6 (map zc v1)]] 0 0),(224,.mpt 0 0 0),(223,.mpt 0 0 0),(222,.mpt 0 0 0),(221,.mpt 0 0 0)] 2 (zma ⟨(fun _ _=>⟨_,y,y,sx [0] (zaW v1 v2 v3 v4 v5 v6 q44)<|⟨(sA v34.1),[7],[(228,bA v35),(227,sA v34.1)],y,y,kz,y,zem ⟨(pb y (pc (zc4 v1 v34.1 [84,104,114,111,119,110] q45) y y y w)),pe,pe,pe,pe,pe,pe,t⟩ ⟨nv,(fun _ _=>⟨_,y,y,sx [0] (zp v1 v2 v3 v4 v34.2.1 v34.2.2 v35 y)<|⟨(.tup []),[],[(229,.tup [])],y,y,kz,y,zhW (zo [.old 0])⟩⟩),t⟩⟩⟩),nw,t⟩) ?_
              obtain rfl:=sm h
              exact ⟨_,y,zy [.old 0]⟩
             ·
              replace h:=bF hc43 h
              refine rg y<|u<|eql ti y y<|u<|asg y<|za ?_
              refine ze y (fun hc46=>?_) (fun hc46=>?_)
              ·
               replace h:=bT hc46 h
               obtain ⟨v36,q47,h⟩:=bs h
               refine rl y<|u<|mv y<|u<|sx [0] (zN v1 v2 v3 v4 v5 v6 [73] q47)<|zx (env0:=[]) (st0:=[some (15,[(rK v1 v2 v3 (.isl 1 (map zf v4)) (.isl 1 (map zf v36.1)) (bA v36.2))])]) (zo [.old 0])<|za ?_
               obtain rfl:=sm h
               exact ⟨_,y,zy [.old 0]⟩
              ·
               replace h:=bF hc46 h
               refine za6 (X:=Bool) (fun z=>[(0,.mpt 0 0 0),(234,bA z)]) (fun z=>[some (15,[(rK v1 v2 v3 (.isl 1 (map zf v4)) (.isl 1 (map zf v5)) (bA v6))])]) (fun z=>zcb v1 v2 v3 v4 v5 v6 z=some r) ?_ ?_
               ·
                refine rg y<|u<|eql ti y y<|u<|asg y<|za ?_
                refine ze y (fun hc48=>?_) (fun hc48=>?_)
                ·
                 replace h:=bT hc48 h
                 refine zg ?_
                 exact ⟨(v7.Op == (60:Int)),h,zo [.old 0]⟩
                ·
                 replace h:=bF hc48 h
                 exact rl y<|u<|eql ti y y<|u<|asg y<|za (⟨(v7.Op == (61:Int)),h,zo [.old 0]⟩)
               ·
                rintro v37 h
                replace h:zcb v1 v2 v3 v4 v5 v6 v37=some r:=h
                unfold zcb at h
                refine ze y (fun hc49=>?_) (fun hc49=>?_)
                ·
                 replace h:=bT hc49 h
                 obtain ⟨v38,q50,h⟩:=bs h
                 refine rl y<|u<|mv y<|u<|bl 1 ti y ti y (by decide) (by decide) y y y<|zx (env0:=[(237,.mpt 0 0 0),(238,.isl 1 (map zf ([[73]])))]) (st0:=[some (15,[(rK v1 v2 v3 (.isl 1 (map zf v4)) (.isl 1 (map zf v5)) (bA v6))])]) (zo [.old 0])<|u<|sx [0] (zZ v1 v2 v3 v4 v5 v6 ([[73]]) q50)<|zx (env0:=[]) (st0:=[some (15,[(rK v1 v2 v3 (.isl 1 (map zf v4)) (.isl 1 (map zf v38.1)) (bA v38.2))])]) (zo [.old 0])<|za ?_
                 obtain rfl:=sm h
                 exact ⟨_,y,zy [.old 0]⟩
                ·
                 replace h:=bF hc49 h
                 refine zg ?_
                 obtain rfl:=sm h
                 exact ⟨_,y,zy [.old 0]⟩
def zce(v1:List zb)(v2:T0)(v3:zd)(v4:T1)(v10:T1)(v11:Bool):Option (T1×T1×Bool):=
  (zO v1 v2 v3 v4 v10 v11 [73]).bind fun v12=>some (v4,v12.1,v12.2)
def zm(v1:List zb)(v2:T0)(v3:zd)(v4:T1)(v5:T1)(v6:Bool)(v7:zH):Option (T1×T1×Bool):=
  cond ((decide (8≤v7.Op))&&(decide (v7.Op≤19))) ((zS v1 v2 v3 v4 v5 v6 ([[73]])).bind fun v8=>cond (!(v7.Op == (13:Int))) ((zS v1 v2 v3 v4 v8.1 v8.2 ([[73]])).bind fun v9=>zce v1 v2 v3 v4 v9.1 v9.2) (zce v1 v2 v3 v4 v8.1 v8.2)) (cond ((decide (21≤v7.Op))&&(decide (v7.Op≤36))) ((zcP v1 v2 v3 v4 v5 v6 v7).bind fun v13=>some (v4,v13.1,v13.2)) (cond (v7.Op == (20:Int)) ((zdt v1 v2 v3 v4 v5 v6 v7.A v4 v5).bind fun v14=>some (v4,v5,v14)) (cond ((decide (37≤v7.Op))&&(decide (v7.Op≤41))) ((zcs v1 v2 v3 v4 v5 v6 v7).bind fun v15=>some (v4,v15.1,v15.2)) (cond ((decide (42≤v7.Op))&&(decide (v7.Op≤45))) ((zdl v1 v2 v3 v4 v5 v6 v7).bind fun v16=>some (v4,v16.1,v16.2)) (cond ((decide (49≤v7.Op))&&(decide (v7.Op≤55))) ((zaS v1 v2 v3 v4 v5 v6 v7).bind fun v17=>some (v4,v17.1,v17.2)) ((zQ v1 v2 v3 v4 v5 v6 v7).bind fun v18=>some (v18.1,v18.2.1,v18.2.2)))))))
theorem zlM(v1:List zb)(v2:T0)(v3:zd)(v4:T1)(v5:T1)(v6:Bool)(v7:zH){r:T1×T1×Bool}(h:zm v1 v2 v3 v4 v5 v6 v7=some r):SC Tryz.prog 131 [.mpt 0 0 0,.agg (zv v7)] [.one 15 (rK v1 v2 v3 (.isl 1 (map zf v4)) (.isl 1 (map zf v5)) (bA v6))] (.tup []) [.one 15 (rK v1 v2 v3 (.isl 1 (map zf r.1)) (.isl 1 (map zf r.2.1)) (bA r.2.2))]:=by
 refine ⟨⟨t,t⟩,zW Tryz.func131 y kz y ?_⟩
 unfold zm at h
 refine rg y<|u<|bx 1 4 y y y y<|za ?_
 refine zr ?_
 refine rg y<|u<|fa ti y y y<|u<|ld ti y y<|u<|geq ti y y<|u<|mv y<|z7 (j:=3) 3 y y y y y gpn (fun hb1=>g y hb1<|fa ti y y y<|g y hb1<|ld ti y y<|g y hb1<|leq ti y y<|za (egA [12,13,14] 3 hb1 y y y y)) ze2<|u<|asg y<|za ?_
 refine ze y (fun hc2=>?_) (fun hc2=>?_)
 ·
  replace h:=bT hc2 h
  obtain ⟨v8,q3,h⟩:=bs h
  refine rg y<|u<|mv y<|u<|bl 2 ti y ti y (by decide) (by decide) y y y<|zx (env0:=[(0,.mpt 0 0 0),(3,.mpt 1 0 0),(16,.mpt 0 0 0),(17,.isl 1 (map zf ([[73]])))]) (st0:=[some (15,[(rK v1 v2 v3 (.isl 1 (map zf v4)) (.isl 1 (map zf v5)) (bA v6))]),some (4,[(zv v7)])]) (zo [.old 0,.old 1])<|u<|sx [0] (zZ v1 v2 v3 v4 v5 v6 ([[73]]) q3)<|zx (env0:=[(0,.mpt 0 0 0),(3,.mpt 1 0 0)]) (st0:=[some (15,[(rK v1 v2 v3 (.isl 1 (map zf v4)) (.isl 1 (map zf v8.1)) (bA v8.2))]),some (4,[(zv v7)])]) (zo [.old 0,.old 1])<|za ?_
  refine za6 (X:=T1×Bool) (fun z=>[(0,.mpt 0 0 0)]) (fun z=>[some (15,[(rK v1 v2 v3 (.isl 1 (map zf v4)) (.isl 1 (map zf z.1)) (bA z.2))])]) (fun z=>zce v1 v2 v3 v4 z.1 z.2=some r) ?_ ?_
  ·
   refine rg y<|u<|fa ti y y y<|u<|ld ti y y<|u<|neq ti y y<|za ?_
   refine ze y (fun hc4=>?_) (fun hc4=>?_)
   ·
    replace h:=bT hc4 h
    obtain ⟨v9,q5,h⟩:=bs h
    exact rl y<|u<|mv y<|u<|bl 2 ti y ti y (by decide) (by decide) y y y<|zx (env0:=[(0,.mpt 0 0 0),(22,.mpt 0 0 0),(23,.isl 1 (map zf ([[73]])))]) (st0:=[some (15,[(rK v1 v2 v3 (.isl 1 (map zf v4)) (.isl 1 (map zf v8.1)) (bA v8.2))])]) (zo [.old 0])<|u<|sx [0] (zZ v1 v2 v3 v4 v8.1 v8.2 ([[73]]) q5)<|zx (env0:=[(0,.mpt 0 0 0)]) (st0:=[some (15,[(rK v1 v2 v3 (.isl 1 (map zf v4)) (.isl 1 (map zf v9.1)) (bA v9.2))])]) (zo [.old 0])<|za (⟨⟨v9.1,v9.2⟩,h,zo [.old 0]⟩)
   ·
    replace h:=bF hc4 h
    refine zg ?_
    exact ⟨⟨v8.1,v8.2⟩,h,zo [.old 0]⟩
  ·
   rintro ⟨v10,v11⟩ h
   replace h:zce v1 v2 v3 v4 v10 v11=some r:=h
   unfold zce at h
   obtain ⟨v12,q6,h⟩:=bs h
   refine rl y<|u<|mv y<|u<|sx [0] (zN v1 v2 v3 v4 v10 v11 [73] q6)<|zx (env0:=[]) (st0:=[some (15,[(rK v1 v2 v3 (.isl 1 (map zf v4)) (.isl 1 (map zf v12.1)) (bA v12.2))])]) (zo [.old 0])<|za ?_
   obtain rfl:=sm h
   exact ⟨_,y,zy [.old 0]⟩
 ·
  replace h:=bF hc2 h
  refine rg y<|u<|fa ti y y y<|u<|ld ti y y<|u<|geq ti y y<|u<|mv y<|z7 (j:=3) 3 y y y y y gpn (fun hb7=>g y hb7<|fa ti y y y<|g y hb7<|ld ti y y<|g y hb7<|leq ti y y<|za (egA [32,33,34] 3 hb7 y y y y)) ze2<|u<|asg y<|za ?_
  refine ze y (fun hc8=>?_) (fun hc8=>?_)
  ·
   replace h:=bT hc8 h
   obtain ⟨v13,q9,h⟩:=bs h
   refine rl y<|u<|mv y<|u<|ld ti y y<|u<|sx [0] (zl7 v1 v2 v3 v4 v5 v6 v7 q9)<|zx (env0:=[]) (st0:=[some (15,[(rK v1 v2 v3 (.isl 1 (map zf v4)) (.isl 1 (map zf v13.1)) (bA v13.2))])]) (zo [.old 0])<|za ?_
   obtain rfl:=sm h
   exact ⟨_,y,zy [.old 0]⟩
  ·
   replace h:=bF hc8 h
   refine rg y<|u<|fa ti y y y<|u<|ld ti y y<|u<|eql ti y y<|u<|asg y<|za ?_
   refine ze y (fun hc10=>?_) (fun hc10=>?_)
   ·
    replace h:=bT hc10 h
    obtain ⟨v14,q11,h⟩:=bs h
    refine zjq [] [some (15,[(rK v1 v2 v3 (.isl 1 (map zf v4)) (.isl 1 (map zf v5)) (bA v14))])] [13] [12,11,10,9,8,7,6,5,4,3,2,1,0] [(55,.isl 1 (map zf v5)),(54,.mpt 0 0 13),(53,.mpt 0 0 12),(52,.mpt 0 0 0),(51,.mpt 0 0 0),(50,.isl 1 (map zf v4)),(49,.mpt 0 0 12),(48,.mpt 0 0 12),(47,.mpt 0 0 0),(46,.mpt 0 0 0),(45,iA v7.A),(44,.mpt 1 0 1),(43,.mpt 0 0 0)] 1 (zma ⟨(fun _ _=>⟨_,y,y,sx [0] (zgE v1 v2 v3 v4 v5 v6 v7.A v4 v5 q11)<|⟨(.tup []),[],[(56,.tup [])],y,y,kz,y,zhW (zo [.old 0])⟩⟩),t⟩) ?_
    obtain rfl:=sm h
    exact ⟨_,y,zy [.old 0]⟩
   ·
    replace h:=bF hc10 h
    refine rg y<|u<|fa ti y y y<|u<|ld ti y y<|u<|geq ti y y<|u<|mv y<|z7 (j:=3) 3 y y y y y gpn (fun hb12=>g y hb12<|fa ti y y y<|g y hb12<|ld ti y y<|g y hb12<|leq ti y y<|za (egA [62,63,64] 3 hb12 y y y y)) ze2<|u<|asg y<|za ?_
    refine ze y (fun hc13=>?_) (fun hc13=>?_)
    ·
     replace h:=bT hc13 h
     obtain ⟨v15,q14,h⟩:=bs h
     refine rl y<|u<|mv y<|u<|ld ti y y<|u<|sx [0] (zlB v1 v2 v3 v4 v5 v6 v7 q14)<|zx (env0:=[]) (st0:=[some (15,[(rK v1 v2 v3 (.isl 1 (map zf v4)) (.isl 1 (map zf v15.1)) (bA v15.2))])]) (zo [.old 0])<|za ?_
     obtain rfl:=sm h
     exact ⟨_,y,zy [.old 0]⟩
    ·
     replace h:=bF hc13 h
     refine rg y<|u<|fa ti y y y<|u<|ld ti y y<|u<|geq ti y y<|u<|mv y<|z7 (j:=3) 3 y y y y y gpn (fun hb15=>g y hb15<|fa ti y y y<|g y hb15<|ld ti y y<|g y hb15<|leq ti y y<|za (egA [74,75,76] 3 hb15 y y y y)) ze2<|u<|asg y<|za ?_
     refine ze y (fun hc16=>?_) (fun hc16=>?_)
     ·
      replace h:=bT hc16 h
      obtain ⟨v16,q17,h⟩:=bs h
      refine rl y<|u<|mv y<|u<|ld ti y y<|u<|sx [0] (zl6 v1 v2 v3 v4 v5 v6 v7 q17)<|zx (env0:=[]) (st0:=[some (15,[(rK v1 v2 v3 (.isl 1 (map zf v4)) (.isl 1 (map zf v16.1)) (bA v16.2))])]) (zo [.old 0])<|za ?_
      obtain rfl:=sm h
      exact ⟨_,y,zy [.old 0]⟩
     ·
      replace h:=bF hc16 h
      refine rg y<|u<|fa ti y y y<|u<|ld ti y y<|u<|geq ti y y<|u<|mv y<|z7 (j:=3) 3 y y y y y gpn (fun hb18=>g y hb18<|fa ti y y y<|g y hb18<|ld ti y y<|g y hb18<|leq ti y y<|za (egA [86,87,88] 3 hb18 y y y y)) ze2<|u<|asg y<|za ?_
      refine ze y (fun hc19=>?_) (fun hc19=>?_)
      ·
       replace h:=bT hc19 h
       obtain ⟨v17,q20,h⟩:=bs h
       refine rl y<|u<|mv y<|u<|ld ti y y<|u<|sx [0] (zk3 v1 v2 v3 v4 v5 v6 v7 q20)<|zx (env0:=[]) (st0:=[some (15,[(rK v1 v2 v3 (.isl 1 (map zf v4)) (.isl 1 (map zf v17.1)) (bA v17.2))])]) (zo [.old 0])<|za ?_
       obtain rfl:=sm h
       exact ⟨_,y,zy [.old 0]⟩
      ·
       replace h:=bF hc19 h
       obtain ⟨v18,q21,h⟩:=bs h
       refine rl y<|u<|mv y<|u<|ld ti y y<|u<|sx [0] (zld v1 v2 v3 v4 v5 v6 v7 q21)<|zx (env0:=[]) (st0:=[some (15,[(rK v1 v2 v3 (.isl 1 (map zf v18.1)) (.isl 1 (map zf v18.2.1)) (bA v18.2.2))])]) (zo [.old 0])<|za ?_
       obtain rfl:=sm h
       exact ⟨_,y,zy [.old 0]⟩
def zeI(v102:T1)(v103:T1)(v104:Bool)(v105:Bool):Option (Bool):=
  some ((!v104)&&(!v105))
def zcn(v2:T0)(v4:zR)(v12:zd)(v90:Bool)(v91:Int)(v92:zas×Bool)(v94:Bool)(v96:T1)(v97:T1):Option (Sum (T1×T1×Bool×Bool×Int) (Sum (T1×T1×Bool×Bool) (Bool))):=
  (zcq v4.L v2 v12 v96 v97 (v94||(!(v92.2||v90))) v91).bind fun v98=>(idx v12.Code v91).bind fun v99=>(zm v4.L v2 v12 v96 v97 v98 v99).bind fun v100=>(idx v12.Code v91).bind fun v101=>some (.inl (v100.1,v100.2.1,v100.2.2,(!(zhQ v101.Op)),(IntKind.i64.wrap (v91+1))))
def zbO(v2:T0)(v4:zR)(v12:zd)(v87:T1)(v88:T1)(v90:Bool)(v91:Int)(v92:zas×Bool)(v94:Bool):Option (Sum (T1×T1×Bool×Bool×Int) (Sum (T1×T1×Bool×Bool) (Bool))):=
  cond v92.2 ((zec (zhM.mk v92.1.Locals v92.1.Stack)).bind fun v95=>zcn v2 v4 v12 v90 v91 v92 v94 v95.1 v95.2) (zcn v2 v4 v12 v90 v91 v92 v94 v87 v88)
def zau(v2:T0)(v4:zR)(v12:zd)(v87:T1)(v88:T1)(v89:Bool)(v90:Bool)(v91:Int):Option (Sum (T1×T1×Bool×Bool×Int) (Sum (T1×T1×Bool×Bool) (Bool))):=
  cond ((decide (v91<(length v12.Code:Int)))&&(!v89)) ((zcY v4.L v2 v12 v87 v88 v89 v91).bind fun v92=>cond (v92.2&&v90) ((zdt v4.L v2 v12 v87 v88 v89 v91 v87 v88).bind fun v93=>zbO v2 v4 v12 v87 v88 v90 v91 v92 v93) (zbO v2 v4 v12 v87 v88 v90 v91 v92 v89)) (some (.inr (.inl (v87,v88,v89,v90))))
def zfi(v2:T0)(v4:zR)(v12:zd)(v68:Bool):Option (Bool):=
  (cond (v12.Ret == [86]) (some true) ((z1 v4.L v12.Ret).bind fun v69=>some v69)).bind fun v70=>(zeu v4.L v2 v12 [] [] (v68||(!v70))).bind fun v71=>(zu (fun z=>zau v2 v4 v12 z.1 z.2.1 z.2.2.1 z.2.2.2.1 z.2.2.2.2) (v71,[],(v68||(!v70)),true,0)).bind fun o=>zU o (fun b=>zeI b.1 b.2.1 b.2.2.1 b.2.2.2) some
def zcg(v4:zR)(v12:zd)(v64:Bool)(v65:Int):Option (Sum (Bool×Int) (Sum (Bool) (Bool))):=
  cond (decide (v65<(length v12.Params:Int))) ((idx v12.Params v65).bind fun v66=>(z1 v4.L v66).bind fun v67=>some (.inl ((v64||(!v67)),(IntKind.i64.wrap (v65+1))))) (some (.inr (.inl v64)))
def zed(v2:T0)(v4:zR)(v12:zd)(v59:Bool):Option (Bool):=
  (zu (fun z=>zcg v4 v12 z.1 z.2) (v59,0)).bind fun o=>zU o (fun b=>zfi v2 v4 v12 b) some
def zg4(v37:Int)(v58:Bool):Option (Sum (Bool×Int) (Sum (Bool) (Bool))):=
  some (.inl (v58,(IntKind.i64.wrap (v37+1))))
def zb7(v4:zR)(v41:T1)(v50:Bool)(v51:Int):Option (Sum (Bool×Int) (Sum (Bool) (Bool))):=
  cond (decide (v51<((length v41):Int))) ((idx v41 v51).bind fun v52=>(cond (v52 == [84]) (some true) ((idx v41 v51).bind fun v53=>some (v53 == [78]))).bind fun v54=>(cond v54 (some true) ((idx v41 v51).bind fun v55=>(z1 v4.L v55).bind fun v56=>some v56)).bind fun v57=>some (.inl ((v50||(!v57)),(IntKind.i64.wrap (v51+1))))) (some (.inr (.inl v50)))
def zbz(v4:zR)(v12:zd)(v36:Bool)(v37:Int):Option (Sum (Bool×Int) (Sum (Bool) (Bool))):=
  cond (decide (v37<(length v12.Maps:Int))) ((idx v12.Maps v37).bind fun v38=>(idx v12.Maps v37).bind fun v39=>(zis 16 ([]:T1) v38.Locals).bind fun v40=>(zis 16 v40 v39.Stack).bind fun v41=>(zu (fun z=>zb7 v4 v41 z.1 z.2) (v36,0)).bind fun o=>zU o (fun b=>zg4 v37 b) (fun r=>some (.inr (.inr r)))) (some (.inr (.inl v36)))
def zfs(v1:Option zR)(v2:T0)(v3:Int):Option (Bool):=
  zzC v1 (none) (fun v4=>(zaD v4.L v2).bind fun v5=>(cond ((decide (v5<0))||(decide (v3<0))) (some true) ((idx v4.L v5).bind fun v6=>some (decide ((length v6.Methods:Int)≤v3)))).bind fun v7=>(cond v7 (some true) ((idx v4.L v5).bind fun v8=>(idx v8.Methods v3).bind fun v9=>some v9.Abstract)).bind fun v10=>cond v10 (some false) ((idx v4.L v5).bind fun v11=>(idx v11.Methods v3).bind fun v12=>(zu (fun z=>zbz v4 v12 z.1 z.2) (false,0)).bind fun o=>zU o (fun b=>zed v2 v4 v12 b) some))
theorem zmp(v1:Option zR)(v2:T0)(v3:Int){r:Bool}(h:zfs v1 v2 v3=some r):zI Tryz.prog 77 [zk4 1 zfq v1,sA v2,iA v3] (bA r):=by
 refine zq Tryz.func77 y kz y y ?_
 unfold zfs at h
 rcases v1 with _ |v4
 ·
  replace h:=oeN h
  cases h
 ·
  replace h:=oeS h
  refine rg y<|u<|asg y<|za ?_
  obtain ⟨v5,q1,h⟩:=bs h
  refine rg y<|u<|mv y<|u<|mv y<|u<|pc (zV v4.L v2 q1) y y y<|u<|asg y<|za ?_
  refine zi ?_
  obtain ⟨v7,q5,h⟩:=bs h
  obtain ⟨v10,q9,h⟩:=bs h
  refine rg y<|u<|mv y<|u<|lss ti y y<|u<|mv y<|zdj (j:=2) 2 y y y y y gpn (fun hb2=>g y hb2<|mv y<|g y hb2<|lss ti y y<|za (egO [23,24] 2 hb2 y y y y)) orT<|u<|mv y<|zdj (x:=v7) (j:=6) 11 y y y y y gpn (fun hb3=>by replace q5:=bF hb3 q5;obtain ⟨v6,q4,q5⟩:=bs q5;obtain rfl:=sm q5;exact g y hb3<|mv y<|g y hb3<|mv y<|g y hb3<|nc y y<|g y hb3<|fa ti y y y<|g y hb3<|ld ti y y<|g y hb3<|mv y<|g y hb3<|ixI ti y ti y y y q4<|g y hb3<|fa ti y y y<|g y hb3<|ldI ti y (zl q4).2.2 y<|g y hb3<|lnI ti y y<|g y hb3<|geq ti y y<|za (eg [27,28,29,30,31,32,33,34,35,36,37] 11 y y y y)) (fun hb=>(sm (bT hb q5)).symm)<|u<|mv y<|zdj (x:=v10) (j:=19) 12 y y y y y gpn (fun hb6=>by replace q9:=bF hb6 q9;obtain ⟨v8,q7,q9⟩:=bs q9;obtain ⟨v9,q8,q9⟩:=bs q9;obtain rfl:=sm q9;exact g y hb6<|mv y<|g y hb6<|nc y y<|g y hb6<|fa ti y y y<|g y hb6<|ld ti y y<|g y hb6<|mv y<|g y hb6<|ixI ti y ti y y y q7<|g y hb6<|fa ti y y y<|g y hb6<|ldI ti y (zl q7).2.2 y<|g y hb6<|mv y<|g y hb6<|ixI ti y ti y y y q8<|g y hb6<|fa ti y y y<|g y hb6<|ldI ti y (zl q8).2.2 y<|za (eg [40,41,42,43,44,45,46,47,48,49,50,51] 12 y y y y)) (fun hb=>(sm (bT hb q9)).symm)<|za ?_
  refine ze y (fun hc10=>?_) (fun hc10=>?_)
  ·
   replace h:=bT hc10 h
   refine rg y<|u<|asg y<|za ?_
   refine zj ?_
   obtain rfl:=sm h
   exact ⟨_,y,zy []⟩
  ·
   replace h:=bF hc10 h
   refine zg ?_
   obtain ⟨v11,q11,h⟩:=bs h
   obtain ⟨v12,q12,h⟩:=bs h
   refine rg y<|u<|mv y<|u<|mv y<|u<|mv y<|u<|nc y y<|u<|fa ti y y y<|u<|ld ti y y<|u<|mv y<|u<|ixI ti y ti y y y q11<|u<|fa ti y y y<|u<|ldI ti y (zl q11).2.2 y<|u<|mv y<|u<|ixI ti y ti y y y q12<|u<|ldI ti y (zl q12).2.2 y<|u<|bd ti y y y<|u<|bx 0 15 y y y y<|u<|asg y<|za ?_
   refine zi ?_
   refine rg y<|u<|asg y<|za ?_
   obtain ⟨o,ho,h⟩:=bs h
   refine zX (X:=Bool×Int) (B:=Bool) (R:=Bool) (fun z=>[(0,.ipt 1 [[.isl 6 (map zc v4.L)]] 0 0),(8,.mpt 0 0 0),(9,iA z.2)]) (fun z=>[some (15,[(rK v4.L v2 v12 (.lit (.slice none 0 0)) (.lit (.slice none 0 0)) (bA z.1))])]) (fun b=>[(0,.ipt 1 [[.isl 6 (map zc v4.L)]] 0 0),(8,.mpt 0 0 0)]) (fun b=>[some (15,[(rK v4.L v2 v12 (.lit (.slice none 0 0)) (.lit (.slice none 0 0)) (bA b))])]) (fun r env st=>zaN Tryz.prog Tryz.f77 0 (bA r) [] env st) ho (zo [.old 0]) ?_ ?_ ?_
   ·
    rintro ⟨v36,v37⟩ r h
    replace h:zbz v4 v12 v36 v37=some r:=h
    unfold zbz at h
    refine zi ?_
    refine rg y<|u<|mv y<|u<|mv y<|u<|nc y y<|u<|fa ti y y y<|u<|fa ti y y y<|u<|ld ti y y<|u<|lnI ti y y<|u<|lss ti y y<|za ?_
    refine ze y (fun hc36=>?_) (fun hc36=>?_)
    ·
     replace h:=bT hc36 h
     refine zg ?_
     refine zi ?_
     refine zr ?_
     obtain ⟨v38,q37,h⟩:=bs h
     obtain ⟨v39,q38,h⟩:=bs h
     obtain ⟨v40,q39,h⟩:=bs h
     obtain ⟨v41,q40,h⟩:=bs h
     refine rdA [(0,.ipt 1 [[.isl 6 (map zc v4.L)]] 0 0),(8,.mpt 0 0 0),(9,iA v37),(10,.msl 1 0 (length v41))] [some (15,[(rK v4.L v2 v12 (.lit (.slice none 0 0)) (.lit (.slice none 0 0)) (bA v36))]),some (1,map zf v41)] [9,19] [18,17,16,15,14,13,12,11,10,8,7,6,5,4,3,2,1,0] [(96,.isl 1 (map zf v39.Stack)),(95,.ipt 3 (map zP v12.Maps) (Int.toNat v37) 2),(94,.ipt 3 (map zP v12.Maps) (Int.toNat v37) 0),(93,iA v37),(92,.isl 3 (map zP v12.Maps)),(91,.mpt 0 0 10),(90,.mpt 0 0 2),(89,.mpt 0 0 0),(88,.mpt 0 0 0),(86,.isl 1 (map zf v38.Locals)),(85,.ipt 3 (map zP v12.Maps) (Int.toNat v37) 1),(84,.ipt 3 (map zP v12.Maps) (Int.toNat v37) 0),(83,iA v37),(82,.isl 3 (map zP v12.Maps)),(81,.mpt 0 0 10),(80,.mpt 0 0 2),(79,.mpt 0 0 0),(78,.mpt 0 0 0)] 2 (zem ⟨(pb y (ldI ti y (zl q38).2.2 y w)),pe,(pb y (ixI ti y ti y y y q38 w)),pe,pe,pe,pe,pe,pe,(pb y (ldI ti y (zl q37).2.2 y w)),pe,(pb y (ixI ti y ti y y y q37 w)),pe,pe,pe,pe,pe,pe,t⟩ ⟨(fun _ _=>⟨_,y,y,apN (f:=zf) 1 ti y ti y y (by decide) ti y y y roI (fun _=>y) y q39<|⟨(.msl 1 0 (length v40)),[],[(87,.msl 1 0 (length v40))],y,y,kz,y,zem ⟨(pb y (ldI ti y (zl q38).2.2 y w)),pe,(pb y (ixI ti y ti y y y q38 w)),pe,pe,pe,pe,pe,pe,pe,pe,(pb y (ixI ti y ti y y y q37 w)),pe,pe,pe,pe,pe,pe,t⟩ ⟨nv,(fun _ _=>⟨_,y,y,apM 2 ti y ti y y (by decide) ti y y y y roI (fun _=>y) y q40<|⟨(.msl 2 0 (length v41)),[20],[(10,.msl 2 0 (length v41)),(97,.msl 2 0 (length v41))],y,y,kz,y,zht ⟨pe,pe,pe,(pb y (ixI ti y ti y y y q38 w)),pe,pe,pe,pe,pe,pe,pe,pe,(pb y (ixI ti y ti y y y q37 w)),pe,pe,pe,pe,pe,pe,t⟩ (zo [.old 0,.old 2])⟩⟩),t⟩⟩⟩),nw,t⟩) ?_
     refine rg y<|u<|asg y<|za ?_
     obtain ⟨o,ho,h⟩:=bs h
     refine zX (X:=Bool×Int) (B:=Bool) (R:=Bool) (fun z=>[(0,.ipt 1 [[.isl 6 (map zc v4.L)]] 0 0),(8,.mpt 0 0 0),(9,iA v37),(10,.msl 1 0 (length v41)),(11,iA z.2)]) (fun z=>[some (15,[(rK v4.L v2 v12 (.lit (.slice none 0 0)) (.lit (.slice none 0 0)) (bA z.1))]),some (1,map zf v41)]) (fun b=>[(0,.ipt 1 [[.isl 6 (map zc v4.L)]] 0 0),(8,.mpt 0 0 0),(9,iA v37)]) (fun b=>[some (15,[(rK v4.L v2 v12 (.lit (.slice none 0 0)) (.lit (.slice none 0 0)) (bA b))])]) (fun r env st=>zaN Tryz.prog Tryz.f77 0 (bA r) [] env st) ho (zo [.old 0,.old 1]) ?_ ?_ ?_
     ·
      rintro ⟨v50,v51⟩ r h
      replace h:zb7 v4 v41 v50 v51=some r:=h
      unfold zb7 at h
      refine zi ?_
      refine rg y<|u<|mv y<|u<|mv y<|u<|lnM ti y y y<|u<|lss ti y y<|za ?_
      refine ze y (fun hc50=>?_) (fun hc50=>?_)
      ·
       replace h:=bT hc50 h
       refine zg ?_
       refine zi ?_
       refine zr ?_
       obtain ⟨v52,q51,h⟩:=bs h
       obtain ⟨v54,q54,h⟩:=bs h
       obtain ⟨v57,q58,h⟩:=bs h
       refine rl y<|u<|mv y<|u<|mv y<|u<|mv y<|u<|ixM ti y ti y y y y q51<|u<|ldM ti y y (zl q51).2.2 y<|u<|seq ti y y<|u<|mv y<|zdj (x:=v54) (j:=6) 5 y y y y y gpn (fun hb52=>by replace q54:=bF hb52 q54;obtain ⟨v53,q53,q54⟩:=bs q54;obtain rfl:=sm q54;exact g y hb52<|mv y<|g y hb52<|mv y<|g y hb52<|ixM ti y ti y y y y q53<|g y hb52<|ldM ti y y (zl q53).2.2 y<|g y hb52<|seq ti y y<|za (eg [111,112,113,114,115] 5 y y y y)) (fun hb=>(sm (bT hb q54)).symm)<|u<|mv y<|zdj (x:=v57) (j:=13) 6 y y y y y gpn (fun hb55=>by replace q58:=bF hb55 q58;obtain ⟨v55,q56,q58⟩:=bs q58;obtain ⟨v56,q57,q58⟩:=bs q58;obtain rfl:=sm q58;exact g y hb55<|mv y<|g y hb55<|mv y<|g y hb55<|mv y<|g y hb55<|ixM ti y ti y y y y q56<|g y hb55<|ldM ti y y (zl q56).2.2 y<|g y hb55<|pc (zab v4.L v55 q57) y y y<|za (eg [118,119,120,121,122,123] 6 y y y y)) (fun hb=>(sm (bT hb q58)).symm)<|u<|sx [0] (zgD v4.L v2 v12 v50 v57 y)<|zx (env0:=[(0,.ipt 1 [[.isl 6 (map zc v4.L)]] 0 0),(8,.mpt 0 0 0),(9,iA v37),(10,.msl 1 0 (length v41)),(11,iA v51)]) (st0:=[some (15,[(rK v4.L v2 v12 (.lit (.slice none 0 0)) (.lit (.slice none 0 0)) (bA (v50||(!v57))))]),some (1,map zf v41)]) (zo [.old 0,.old 1])<|za ?_
       refine rl y<|u<|mv y<|u<|add ti y y<|u<|asg y<|za ?_
       obtain rfl:=sm h
       exact ⟨_,y,zo [.old 0,.old 1]⟩
      ·
       replace h:=bF hc50 h
       refine zD ?_
       obtain rfl:=sm h
       exact ⟨y,_,y,zo [.old 0]⟩
     ·
      rintro v58 rfl
      replace h:zg4 v37 v58=some r:=h
      unfold zg4 at h
      refine zw ?_
      refine rl y<|u<|mv y<|u<|add ti y y<|u<|asg y<|za ?_
      obtain rfl:=sm h
      exact ⟨_,y,zo [.old 0]⟩
     ·
      rintro r' rfl env st hp
      obtain rfl:=sm h
      exact ⟨_,y,hp⟩
    ·
     replace h:=bF hc36 h
     refine zD ?_
     obtain rfl:=sm h
     exact ⟨y,_,y,zo [.old 0]⟩
   ·
    rintro v59 rfl
    replace h:zed v2 v4 v12 v59=some r:=h
    unfold zed at h
    refine zw ?_
    refine zi ?_
    refine rg y<|u<|asg y<|za ?_
    obtain ⟨o,ho,h⟩:=bs h
    refine zX (X:=Bool×Int) (B:=Bool) (R:=Bool) (fun z=>[(0,.ipt 1 [[.isl 6 (map zc v4.L)]] 0 0),(8,.mpt 0 0 0),(12,iA z.2)]) (fun z=>[some (15,[(rK v4.L v2 v12 (.lit (.slice none 0 0)) (.lit (.slice none 0 0)) (bA z.1))])]) (fun b=>[(0,.ipt 1 [[.isl 6 (map zc v4.L)]] 0 0),(8,.mpt 0 0 0)]) (fun b=>[some (15,[(rK v4.L v2 v12 (.lit (.slice none 0 0)) (.lit (.slice none 0 0)) (bA b))])]) (fun r env st=>zaN Tryz.prog Tryz.f77 0 (bA r) [] env st) ho (zo [.old 0]) ?_ ?_ ?_
    ·
     rintro ⟨v64,v65⟩ r h
     replace h:zcg v4 v12 v64 v65=some r:=h
     unfold zcg at h
     refine zi ?_
     refine rg y<|u<|mv y<|u<|mv y<|u<|nc y y<|u<|fa ti y y y<|u<|fa ti y y y<|u<|ld ti y y<|u<|lnI ti y y<|u<|lss ti y y<|za ?_
     refine ze y (fun hc62=>?_) (fun hc62=>?_)
     ·
      replace h:=bT hc62 h
      refine zg ?_
      refine zi ?_
      refine zr ?_
      obtain ⟨v66,q63,h⟩:=bs h
      obtain ⟨v67,q64,h⟩:=bs h
      refine rl y<|u<|mv y<|u<|mv y<|u<|mv y<|u<|nc y y<|u<|fa ti y y y<|u<|fa ti y y y<|u<|ld ti y y<|u<|mv y<|u<|ixI ti y ti y y y q63<|u<|ldI ti y (zl q63).2.2 y<|u<|pc (zab v4.L v66 q64) y y y<|u<|sx [0] (zgD v4.L v2 v12 v64 v67 y)<|zx (env0:=[(0,.ipt 1 [[.isl 6 (map zc v4.L)]] 0 0),(8,.mpt 0 0 0),(12,iA v65)]) (st0:=[some (15,[(rK v4.L v2 v12 (.lit (.slice none 0 0)) (.lit (.slice none 0 0)) (bA (v64||(!v67))))])]) (zo [.old 0])<|za ?_
      refine rl y<|u<|mv y<|u<|add ti y y<|u<|asg y<|za ?_
      obtain rfl:=sm h
      exact ⟨_,y,zo [.old 0]⟩
     ·
      replace h:=bF hc62 h
      refine zD ?_
      obtain rfl:=sm h
      exact ⟨y,_,y,zo [.old 0]⟩
    ·
     rintro v68 rfl
     replace h:zfi v2 v4 v12 v68=some r:=h
     unfold zfi at h
     refine zw ?_
     obtain ⟨v70,q67,h⟩:=bs h
     refine rg y<|u<|mv y<|u<|mv y<|u<|nc y y<|u<|fa ti y y y<|u<|fa ti y y y<|u<|ld ti y y<|u<|seq ti y y<|u<|mv y<|zdj (x:=v70) (j:=7) 7 y y y y y gpn (fun hb65=>by replace q67:=bF hb65 q67;obtain ⟨v69,q66,q67⟩:=bs q67;obtain rfl:=sm q67;exact g y hb65<|mv y<|g y hb65<|mv y<|g y hb65<|nc y y<|g y hb65<|fa ti y y y<|g y hb65<|fa ti y y y<|g y hb65<|ld ti y y<|g y hb65<|pc (zab v4.L v12.Ret q66) y y y<|za (eg [156,157,158,159,160,161,162] 7 y y y y)) (fun hb=>(sm (bT hb q67)).symm)<|u<|sx [0] (zgD v4.L v2 v12 v68 v70 y)<|zx (env0:=[(8,.mpt 0 0 0)]) (st0:=[some (15,[(rK v4.L v2 v12 (.lit (.slice none 0 0)) (.lit (.slice none 0 0)) (bA (v68||(!v70))))])]) (zo [.old 0])<|za ?_
     obtain ⟨v71,q68,h⟩:=bs h
     refine rg y<|u<|mv y<|ph 1<|ph 1<|u<|sc [0,1,2] (zls v4.L v2 v12 [] [] (v68||(!v70)) q68) y y y y ⟨(.mpt y),t⟩ ⟨⟨_,y,(zvW y ⟨(.nil0 y),(.nil0 y),(rnI y),t⟩)⟩,⟨y,mkI (fun _=>y)⟩,⟨y,mkI (fun _=>y)⟩,t⟩<|za ?_
     refine rg y<|u<|asg y<|za ?_
     refine zi ?_
     refine rg y<|u<|asg y<|za ?_
     obtain ⟨o,ho,h⟩:=bs h
     refine zX (X:=T1×T1×Bool×Bool×Int) (B:=T1×T1×Bool×Bool) (R:=Bool) (fun z=>[(8,.mpt 0 0 0),(13,bA z.2.2.2.1),(14,iA z.2.2.2.2)]) (fun z=>[some (15,[(rK v4.L v2 v12 (.isl 1 (map zf z.1)) (.isl 1 (map zf z.2.1)) (bA z.2.2.1))])]) (fun b=>[(8,.mpt 0 0 0),(13,bA b.2.2.2)]) (fun b=>[some (15,[(rK v4.L v2 v12 (.isl 1 (map zf b.1)) (.isl 1 (map zf b.2.1)) (bA b.2.2.1))])]) (fun r env st=>zaN Tryz.prog Tryz.f77 0 (bA r) [] env st) ho (zo [.old 0]) ?_ ?_ ?_
     ·
      rintro ⟨v87,v88,v89,v90,v91⟩ r h
      replace h:zau v2 v4 v12 v87 v88 v89 v90 v91=some r:=h
      unfold zau at h
      refine zi ?_
      refine rg y<|u<|mv y<|u<|mv y<|u<|nc y y<|u<|fa ti y y y<|u<|fa ti y y y<|u<|ld ti y y<|u<|lnI ti y y<|u<|lss ti y y<|u<|mv y<|z7 (j:=8) 5 y y y y y gpn (fun hb82=>g y hb82<|mv y<|g y hb82<|nc y y<|g y hb82<|fa ti y y y<|g y hb82<|ld ti y y<|g y hb82<|nt y<|za (egA [176,177,178,179,180] 5 hb82 y y y y)) ze2<|za ?_
      refine ze y (fun hc83=>?_) (fun hc83=>?_)
      ·
       replace h:=bT hc83 h
       refine zg ?_
       refine zi ?_
       refine zr ?_
       obtain ⟨v92,q84,h⟩:=bs h
       refine rg y<|u<|mv y<|u<|mv y<|u<|sx [0] (zgh v4.L v2 v12 v87 v88 v89 v91 q84)<|zx (env0:=[(8,.mpt 0 0 0),(13,bA v90),(14,iA v91),(187,.tup [.agg (zP v92.1),bA v92.2])]) (st0:=[some (15,[(rK v4.L v2 v12 (.isl 1 (map zf v87)) (.isl 1 (map zf v88)) (bA v89))])]) (zo [.old 0])<|u<|mv y<|u<|ex y y<|u<|ex y y<|u<|al 1 ti y<|u<|sto ti y y y<|u<|asg y<|za ?_
       refine za6 (X:=Bool) (fun z=>[(8,.mpt 0 0 0),(13,bA v90),(14,iA v91),(15,.mpt 1 0 0),(16,bA v92.2)]) (fun z=>[some (15,[(rK v4.L v2 v12 (.isl 1 (map zf v87)) (.isl 1 (map zf v88)) (bA z))]),some (3,[(zP v92.1)])]) (fun z=>zbO v2 v4 v12 v87 v88 v90 v91 v92 z=some r) ?_ ?_
       ·
        refine rg y<|u<|mv y<|u<|mv y<|z7 (j:=1) 1 y y y y y gpn (fun hb85=>g y hb85<|mv y<|za (egA [192] 1 hb85 y y y y)) ze2<|za ?_
        refine ze y (fun hc86=>?_) (fun hc86=>?_)
        ·
         replace h:=bT hc86 h
         obtain ⟨v93,q87,h⟩:=bs h
         refine zjq [(8,.mpt 0 0 0),(13,bA v90),(14,iA v91),(15,.mpt 1 0 0),(16,bA v92.2)] [some (15,[(rK v4.L v2 v12 (.isl 1 (map zf v87)) (.isl 1 (map zf v88)) (bA v93))]),some (3,[(zP v92.1)])] [12] [11,10,9,8,7,6,5,4,3,2,1,0] [(205,.isl 1 (map zf v88)),(204,.mpt 0 0 13),(203,.mpt 0 0 12),(202,.mpt 0 0 0),(201,.mpt 0 0 0),(200,.isl 1 (map zf v87)),(199,.mpt 0 0 12),(198,.mpt 0 0 12),(197,.mpt 0 0 0),(196,.mpt 0 0 0),(195,iA v91),(194,.mpt 0 0 0)] 1 (zma ⟨(fun _ _=>⟨_,y,y,sx [0] (zgE v4.L v2 v12 v87 v88 v89 v91 v87 v88 q87)<|⟨(.tup []),[],[(206,.tup [])],y,y,kz,y,zhW (zo [.old 0,.old 1])⟩⟩),t⟩) ?_
         exact ⟨v93,h,zo [.old 0,.old 1]⟩
        ·
         replace h:=bF hc86 h
         refine zg ?_
         exact ⟨v89,h,zo [.old 0,.old 1]⟩
       ·
        rintro v94 h
        replace h:zbO v2 v4 v12 v87 v88 v90 v91 v92 v94=some r:=h
        unfold zbO at h
        refine rg y<|u<|mv y<|u<|mv y<|u<|mv y<|zdj (j:=2) 1 y y y y y gpn (fun hb88=>g y hb88<|mv y<|za (egO [210] 1 hb88 y y y y)) orT<|u<|sx [0] (zp v4.L v2 v12 v87 v88 v94 (v92.2||v90) y)<|zx (env0:=[(8,.mpt 0 0 0),(14,iA v91),(15,.mpt 1 0 0),(16,bA v92.2)]) (st0:=[some (15,[(rK v4.L v2 v12 (.isl 1 (map zf v87)) (.isl 1 (map zf v88)) (bA (v94||(!(v92.2||v90)))))]),some (3,[(zP v92.1)])]) (zo [.old 0,.old 1])<|za ?_
        refine za6 (X:=T1×T1) (fun z=>[(8,.mpt 0 0 0),(14,iA v91)]) (fun z=>[some (15,[(rK v4.L v2 v12 (.isl 1 (map zf z.1)) (.isl 1 (map zf z.2)) (bA (v94||(!(v92.2||v90)))))])]) (fun z=>zcn v2 v4 v12 v90 v91 v92 v94 z.1 z.2=some r) ?_ ?_
        ·
         refine rg y<|u<|mv y<|za ?_
         refine ze y (fun hc89=>?_) (fun hc89=>?_)
         ·
          replace h:=bT hc89 h
          obtain ⟨v95,q90,h⟩:=bs h
          exact rl y<|u<|mv y<|u<|fa ti y y y<|u<|ld ti y y<|u<|fa ti y y y<|u<|ld ti y y<|u<|bd ti y y y<|u<|sx [] (zjs (zhM.mk v92.1.Locals v92.1.Stack) q90)<|zx (env0:=[(8,.mpt 0 0 0),(14,iA v91),(214,.mpt 0 0 0),(220,.agg [.msl 1 0 (length v95.1),.msl 2 0 (length v95.2)])]) (st0:=[some (15,[(rK v4.L v2 v12 (.isl 1 (map zf v87)) (.isl 1 (map zf v88)) (bA (v94||(!(v92.2||v90)))))]),some (1,map zf v95.1),some (1,map zf v95.2)]) (zo [.old 0,.old 2,.old 3])<|u<|nc y y<|u<|fa ti y y y<|u<|sto ti y y y<|za (⟨⟨v95.1,v95.2⟩,h,zo [.old 0]⟩)
         ·
          replace h:=bF hc89 h
          refine zg ?_
          exact ⟨⟨v87,v88⟩,h,zo [.old 0]⟩
        ·
         rintro ⟨v96,v97⟩ h
         replace h:zcn v2 v4 v12 v90 v91 v92 v94 v96 v97=some r:=h
         unfold zcn at h
         obtain ⟨v98,q91,h⟩:=bs h
         refine rg y<|u<|mv y<|u<|mv y<|u<|sx [0] (zlR v4.L v2 v12 v96 v97 (v94||(!(v92.2||v90))) v91 q91)<|zx (env0:=[(8,.mpt 0 0 0),(14,iA v91)]) (st0:=[some (15,[(rK v4.L v2 v12 (.isl 1 (map zf v96)) (.isl 1 (map zf v97)) (bA v98))])]) (zo [.old 0])<|za ?_
         obtain ⟨v99,q92,h⟩:=bs h
         obtain ⟨v100,q93,h⟩:=bs h
         refine rg y<|u<|mv y<|u<|mv y<|u<|nc y y<|u<|fa ti y y y<|u<|fa ti y y y<|u<|ld ti y y<|u<|mv y<|u<|ixI ti y ti y y y q92<|u<|ldI ti y (zl q92).2.2 y<|u<|sx [0] (zlM v4.L v2 v12 v96 v97 v98 v99 q93)<|zx (env0:=[(8,.mpt 0 0 0),(14,iA v91)]) (st0:=[some (15,[(rK v4.L v2 v12 (.isl 1 (map zf v100.1)) (.isl 1 (map zf v100.2.1)) (bA v100.2.2))])]) (zo [.old 0])<|za ?_
         obtain ⟨v101,q94,h⟩:=bs h
         refine rl y<|u<|mv y<|u<|nc y y<|u<|fa ti y y y<|u<|fa ti y y y<|u<|ld ti y y<|u<|mv y<|u<|ixI ti y ti y y y q94<|u<|fa ti y y y<|u<|ldI ti y (zl q94).2.2 y<|u<|pc (zn8 v101.Op y) y y y<|u<|nt y<|u<|asg y<|za ?_
         refine rl y<|u<|mv y<|u<|add ti y y<|u<|asg y<|za ?_
         obtain rfl:=sm h
         exact ⟨_,y,zo [.old 0]⟩
      ·
       replace h:=bF hc83 h
       refine zD ?_
       obtain rfl:=sm h
       exact ⟨y,_,y,zo [.old 0]⟩
     ·
      rintro ⟨v102,v103,v104,v105⟩ rfl
      replace h:zeI v102 v103 v104 v105=some r:=h
      unfold zeI at h
      refine zw ?_
      refine rg y<|u<|mv y<|u<|nc y y<|u<|fa ti y y y<|u<|ld ti y y<|u<|nt y<|u<|mv y<|z7 (j:=5) 2 y y y y y gpn (fun hb95=>g y hb95<|mv y<|g y hb95<|nt y<|za (egA [253,254] 2 hb95 y y y y)) ze2<|u<|asg y<|za ?_
      refine zj ?_
      obtain rfl:=sm h
      exact ⟨_,y,zy []⟩
     ·
      rintro r' rfl env st hp
      obtain rfl:=sm h
      exact hp
    ·
     rintro r' rfl env st hp
     obtain rfl:=sm h
     exact hp
   ·
    rintro r' rfl env st hp
    obtain rfl:=sm h
    exact hp
def zlE:Option (Bool):=
  some true
def zjm(v17:Int):Option (Sum (Int) (Sum (Unit) (Bool))):=
  some (.inl (IntKind.i64.wrap (v17+1)))
def zeD(v1:List zb)(v2:(Option zac)×Int)(v3:(Option zR)×Int)(v17:Int)(v24:Int):Option (Sum (Int) (Sum (Unit) (Bool))):=
  (idx v1 v17).bind fun v25=>cond (decide (v24≤(length v25.Methods:Int))) ((idx v1 v17).bind fun v26=>(zcV v2.1 v26.Name v24).bind fun v27=>(idx v1 v17).bind fun v28=>(zfs v3.1 v28.Name v24).bind fun v29=>cond (!(v27 == v29)) (some (.inr (.inr false))) (some (.inl (IntKind.i64.wrap (v24+1))))) (some (.inr (.inl ())))
def zeZ(v1:List zb)(v2:(Option zac)×Int)(v3:(Option zR)×Int)(v17:Int):Option (Sum (Int) (Sum (Unit) (Bool))):=
  cond (decide (v17<(length v1:Int))) ((zu (fun z=>zeD v1 v2 v3 v17 z) (-1)).bind fun o=>zU o (fun b=>zjm v17) (fun r=>some (.inr (.inr r)))) (some (.inr (.inl ())))
def zk5(v1:List zb):Option (Bool):=
  (zkg v1).bind fun v2=>(znu v1).bind fun v3=>cond ((!(v2.2 == (0:Int)))||(Option.isNone v3.1)) (some (Option.isNone v3.1)) ((zu (fun z=>zeZ v1 v2 v3 z) 0).bind fun o=>zU o (fun b=>zlE) some)
theorem zrW(v1:List zb){r:Bool}(h:zk5 v1=some r):zI Tryz.prog 38 [.isl 6 (map zc v1)] (bA r):=by
 refine zq Tryz.func38 y kz y y ?_
 unfold zk5 at h
 refine rg y<|u<|asg y<|za ?_
 obtain ⟨v2,q1,h⟩:=bs h
 refine rg y<|u<|mv y<|u<|pc (zmw v1 q1) y y y<|u<|mv y<|u<|ex y y<|u<|ex y y<|u<|asg y<|u<|asg y<|za ?_
 obtain ⟨v3,q2,h⟩:=bs h
 refine rg y<|u<|mv y<|u<|pc (ztH v1 q2) y y y<|u<|mv y<|u<|ex y y<|u<|ex y y<|u<|asg y<|u<|asg y<|za ?_
 refine zi ?_
 refine rg y<|u<|mv y<|u<|neq ti y y<|u<|mv y<|zdj (j:=2) 2 y y y y y gpn (fun hb3=>g y hb3<|mv y<|g y hb3<|zCa ti y y y<|za (egO [22,23] 2 hb3 y y y y)) orT<|za ?_
 refine ze y (fun hc4=>?_) (fun hc4=>?_)
 ·
  replace h:=bT hc4 h
  refine rg y<|u<|mv y<|u<|zCa ti y y y<|u<|asg y<|za ?_
  refine zj ?_
  obtain rfl:=sm h
  exact ⟨_,y,zy []⟩
 ·
  replace h:=bF hc4 h
  refine zg ?_
  refine zi ?_
  refine rg y<|u<|asg y<|za ?_
  obtain ⟨o,ho,h⟩:=bs h
  refine zX (X:=Int) (B:=Unit) (R:=Bool) (fun z=>[(0,.isl 6 (map zc v1)),(3,zk4 2 zeR v2.1),(5,zk4 1 zfq v3.1),(7,iA z)]) (fun z=>[]) (fun b=>[]) (fun b=>[]) (fun r env st=>zaN Tryz.prog Tryz.f38 0 (bA r) [] env st) ho (zo []) ?_ ?_ ?_
  ·
   rintro v17 r h
   replace h:zeZ v1 v2 v3 v17=some r:=h
   unfold zeZ at h
   refine zi ?_
   refine rg y<|u<|mv y<|u<|mv y<|u<|lnI ti y y<|u<|lss ti y y<|za ?_
   refine ze y (fun hc20=>?_) (fun hc20=>?_)
   ·
    replace h:=bT hc20 h
    refine zg ?_
    refine zi ?_
    refine zr ?_
    refine rg y<|u<|asg y<|za ?_
    obtain ⟨o,ho,h⟩:=bs h
    refine zX (X:=Int) (B:=Unit) (R:=Bool) (fun z=>[(0,.isl 6 (map zc v1)),(3,zk4 2 zeR v2.1),(5,zk4 1 zfq v3.1),(7,iA v17),(8,iA z)]) (fun z=>[]) (fun b=>[(0,.isl 6 (map zc v1)),(3,zk4 2 zeR v2.1),(5,zk4 1 zfq v3.1),(7,iA v17)]) (fun b=>[]) (fun r env st=>zaN Tryz.prog Tryz.f38 0 (bA r) [] env st) ho (zo []) ?_ ?_ ?_
    ·
     rintro v24 r h
     replace h:zeD v1 v2 v3 v17 v24=some r:=h
     unfold zeD at h
     refine zi ?_
     obtain ⟨v25,q28,h⟩:=bs h
     refine rg y<|u<|mv y<|u<|mv y<|u<|mv y<|u<|ixI ti y ti y y y q28<|u<|fa ti y y y<|u<|ldI ti y (zl q28).2.2 y<|u<|lnI ti y y<|u<|leq ti y y<|za ?_
     refine ze y (fun hc29=>?_) (fun hc29=>?_)
     ·
      replace h:=bT hc29 h
      refine zg ?_
      refine zi ?_
      refine zr ?_
      obtain ⟨v26,q30,h⟩:=bs h
      obtain ⟨v27,q31,h⟩:=bs h
      obtain ⟨v28,q32,h⟩:=bs h
      obtain ⟨v29,q33,h⟩:=bs h
      refine rdA [(0,.isl 6 (map zc v1)),(3,zk4 2 zeR v2.1),(5,zk4 1 zfq v3.1),(7,iA v17),(8,iA v24),(59,bA (!(v27 == v29)))] [] [] [16,15,14,13,12,11,10,9,8,7,6,5,4,3,2,1,0] [(59,bA (!(v27 == v29))),(58,bA v29),(57,iA v24),(56,sA v28.Name),(55,.ipt 6 (map zc v1) (Int.toNat v17) 0),(54,.ipt 6 (map zc v1) (Int.toNat v17) 0),(53,iA v17),(52,.isl 6 (map zc v1)),(51,zk4 1 zfq v3.1),(50,bA v27),(49,iA v24),(48,sA v26.Name),(47,.ipt 6 (map zc v1) (Int.toNat v17) 0),(46,.ipt 6 (map zc v1) (Int.toNat v17) 0),(45,iA v17),(44,.isl 6 (map zc v1)),(43,zk4 2 zeR v2.1)] 0 (zht ⟨(pb y (bne ti y y y w)),(pb y (pc (zmp v3.1 v28.Name v24 q33) y y (zyg (zuA (fun _=>y)) (y)) w)),pe,(pb y (ldI ti y (zl q32).2.2 y w)),pe,(pb y (ixI ti y ti y y y q32 w)),pe,pe,pe,(pb y (pc (zdS v2.1 v26.Name v24 q31) y y (zyg (zuA (fun _=>y)) (y)) w)),pe,(pb y (ldI ti y (zl q30).2.2 y w)),pe,(pb y (ixI ti y ti y y y q30 w)),pe,pe,pe,t⟩ (zo [])) ?_
      refine ze y (fun hc34=>?_) (fun hc34=>?_)
      ·
       replace h:=bT hc34 h
       refine rg y<|u<|asg y<|za ?_
       refine zj ?_
       obtain rfl:=sm h
       exact ⟨_,y,_,y,zy []⟩
      ·
       replace h:=bF hc34 h
       refine zg ?_
       refine rl y<|u<|mv y<|u<|add ti y y<|u<|asg y<|za ?_
       obtain rfl:=sm h
       exact ⟨_,y,zo []⟩
     ·
      replace h:=bF hc29 h
      refine zD ?_
      obtain rfl:=sm h
      exact ⟨y,_,y,zo []⟩
    ·
     rintro ⟨⟩ rfl
     replace h:zjm v17=some r:=h
     unfold zjm at h
     refine zw ?_
     refine rl y<|u<|mv y<|u<|add ti y y<|u<|asg y<|za ?_
     obtain rfl:=sm h
     exact ⟨_,y,zo []⟩
    ·
     rintro r' rfl env st hp
     obtain rfl:=sm h
     exact ⟨_,y,hp⟩
   ·
    replace h:=bF hc20 h
    refine zD ?_
    obtain rfl:=sm h
    exact ⟨y,_,y,zo []⟩
  ·
   rintro ⟨⟩ rfl
   replace h:zlE=some r:=h
   unfold zlE at h
   refine zw ?_
   refine rg y<|u<|asg y<|za ?_
   refine zj ?_
   obtain rfl:=sm h
   exact ⟨_,y,zy []⟩
  ·
   rintro r' rfl env st hp
   obtain rfl:=sm h
   exact hp
def zhR(v1:List zb):Option (Bool):=
  (zkc).bind fun v2=>cond (!v2) (some false) ((zmY v1).bind fun v3=>(zk5 v3).bind fun v4=>some v4)
theorem znz(v1:List zb){r:Bool}(h:zhR v1=some r):zI Tryz.prog 6 [.isl 6 (map zc v1)] (bA r):=by
 refine zq Tryz.func6 y kz y y ?_
 unfold zhR at h
 refine rg y<|u<|asg y<|za ?_
 obtain ⟨v2,q1,h⟩:=bs h
 refine rg y<|u<|pc (zp8 q1) y y y<|u<|asg y<|za ?_
 refine zi ?_
 refine rg y<|u<|mv y<|u<|nt y<|za ?_
 refine ze y (fun hc2=>?_) (fun hc2=>?_)
 ·
  replace h:=bT hc2 h
  refine rg y<|u<|asg y<|za ?_
  refine zj ?_
  obtain rfl:=sm h
  exact ⟨_,y,zy []⟩
 ·
  replace h:=bF hc2 h
  refine zg ?_
  obtain ⟨v3,q3,h⟩:=bs h
  obtain ⟨v4,q4,h⟩:=bs h
  refine rg y<|u<|mv y<|u<|sx [] (ztc v1 q3)<|zx (env0:=[(8,.msl 0 0 (length v3))]) (st0:=[some (6,map zc v3)]) (zo [.old 0])<|u<|pcs (zrW v3 q4) y y (.cons (zhU y (fun _=>y)) .nil) zcD<|u<|asg y<|za ?_
  refine zj ?_
  obtain rfl:=sm h
  exact ⟨_,y,zy []⟩
theorem zB{α:Type}(l:List α)(i:Nat):idx l (i:Int)=l[i]?:=by
 unfold idx
 rw [if_pos (by omega),Int.toNat_natCast]
theorem ziG{α:Type}(l:List α):idx l 0=l[0]?:=zB l 0
theorem zkZ{n:Int}(h1:-9223372036854775808≤n)(h2:n≤9223372036854775807):IntKind.i64.wrap n=n:=IntWalk.i64_in n ⟨h1,h2⟩
theorem zay{i:Nat}(h:i<9223372036854775807):IntKind.i64.wrap ((i:Int)+1)=((i+1:Nat):Int):=by
 rw [zkZ (by omega) (by omega)];omega
theorem zsQ{α:Type}{l:List α}{a b:Int}(h0:0≤a)(h1:a≤b)(h2:b≤l.length):zj6 l a b=some ((l.drop a.toNat).take (b.toNat-a.toNat)):=by
 unfold zj6;rw [if_pos ⟨h0,h1,h2⟩]
theorem znS{α:Type}{l:List α}{b:Nat}(h:b≤l.length):zj6 l 0 (b:Int)=some (l.take b):=by
 rw [zsQ (by omega) (by omega) (by omega)];simp
theorem zir{α:Type}{l:List α}{a:Nat}(h:a≤l.length):zj6 l (a:Int) (l.length:Int)=some (l.drop a):=by
 rw [zsQ (by omega) (by omega) (by omega)]
 simp only [Int.toNat_natCast]
 rw [List.take_of_length_le (by simp)]
theorem zdw{α:Type}{w:Nat}{l x:List α}(h:(l.length+x.length)*w≤140737488355328)(h2:l.length+x.length≤9223372036854775807):zis w l x=some (l++x):=by
 unfold zis;rw [if_pos ⟨h,h2⟩]
theorem zv9{l x:List UInt8}(h:l.length+x.length≤9223372036854775807):zzM l x=some (l++x):=by unfold zzM;rw [if_pos h]
def zpo{R U:Type}(u:U):Option R→Sum U R
 |some r=>.inr r
 |none=>.inl u
def zuc{R U:Type}(i:Nat):Option R→Sum Int (Sum U R)
 |some r=>.inr (.inr r)
 |none=>.inl ((i+1:Nat):Int)
theorem zlQ{α R U:Type}{body:Int→Option (Sum Int (Sum U R))}{l:List α}{g:α→Option R}{u:U}{k:Nat}
  (hb:∀(i:Nat) x,k≤i→l[i]?=some x→body (i:Int)=some (zuc i (g x)))
  (he:body (l.length:Int)=some (.inr (.inl u))) (hk:k≤l.length):zu body (k:Int)=some (zpo u ((l.drop k).findSome? g)):=by
 have key:∀d i,l.length-i=d→k≤i→i≤l.length→zu body (i:Int)=some (zpo u ((l.drop i).findSome? g)):=by
  intro d
  induction d with
  |zero =>
   intro i hd hki hi
   have:i=l.length:=by omega
   subst this
   rw [zL,he,List.drop_length]
   rfl
  |succ d ih =>
   intro i hd hki hi
   have hlt:i<l.length:=by omega
   rw [zL,hb i l[i] hki (List.getElem?_eq_getElem hlt),List.drop_eq_getElem_cons hlt,List.findSome?_cons]
   cases g l[i] with
   |some r=>rfl
   |none =>
    show zu body ((i+1:Nat):Int)=_
    exact ih (i+1) (by omega) (by omega) (by omega)
 exact key _ k rfl (Nat.le_refl _) hk
theorem zeO{α R U:Type}{body:Int→Option (Sum Int (Sum U R))}{l:List α}{g:α→Option R}{u:U}
  (hb:∀(i:Nat) x,l[i]?=some x→body (i:Int)=some (zuc i (g x)))
  (he:body (l.length:Int)=some (.inr (.inl u))):zu body 0=some (zpo u (l.findSome? g)):=
 zlQ (k:=0) (fun i x _=>hb i x) he (Nat.zero_le _)
theorem zvm{R U:Type}{body:Int→Option (Sum Int (Sum U R))}{n:Nat}{g:Nat→Option R}{u:U}
  (hb:∀i,i<n→body (i:Int)=some (zuc i (g i)))
  (he:body (n:Int)=some (.inr (.inl u))):zu body 0=some (zpo u ((List.range n).findSome? g)):=by
 have h:=zeO (body:=body) (l:=List.range n) (g:=g) (u:=u) (fun i x hx=>by
  have hi:i<n:=by
   have:=(List.getElem?_eq_some_iff.1 hx).1
   simpa using this
  have hx':x=i:=by
   have:=(List.getElem?_eq_some_iff.1 hx).2
   simpa using this.symm
  subst hx'
  exact hb x hi) (by rw [List.length_range];exact he)
 exact h
theorem zdI{α R:Type}(l:List α)(p:α→Bool)(r:R):l.findSome? (fun x=>cond (p x) (some r) none)=cond (l.any p) (some r) none:=by
 induction l with
 |nil=>rfl
 |cons x l ih =>
  rw [List.findSome?_cons,List.any_cons]
  cases p x with
  |true=>rfl
  |false=>simpa using ih
def zig(n:Int):Nat:=if n<0 then (-2*n-1).toNat else (2*n).toNat
def zCw:Nat→Nat→List UInt8
 | 0,_=>[]
 |k+1,u=>if 127<u then UInt8.ofNat (u % 128+128)::zCw k (u / 128) else [UInt8.ofNat u]
def put(n:Int):List UInt8:=zCw 10 (zig n)
def okC(x:UInt8):Bool:=zc6 x||zdO x||zho x
def zu6(p:UInt8→Bool):List UInt8→Bool
 | []=>false
 |x :: _=>p x
def zn2(s:List UInt8):Bool:=s.all okC&&(!(s == [])&&decide ((s.length:Int)≤8))
def zcx(s:List UInt8):Bool:=zn2 s&&decide (1<(s.length:Int))&&zu6 zdO s
def zo1(s:List UInt8):Bool:=(s == [36,105,110,105,116])||(zn2 s&&zu6 zc6 s)
def zfa:List UInt8→List UInt8
 | []=>[]
 |x ::r=>if x=91 then r else x ::r
def zfH(s:List UInt8):Bool:=(zfa (zfa s) == [73])||zcx (zfa (zfa s))
def zoH(s:List UInt8):Bool:=!(s == [73])&&zfH s
def zsS(s:List UInt8):Bool:=(s == [86])||zfH s
abbrev Len(s:List UInt8):Prop:=s.length≤9223372036854775807
theorem ztp{α:Type}(l:List α)(p:α→Bool):l.any (fun x=>!p x)=!l.all p:=by
 induction l with
 |nil=>rfl
 |cons x l ih=>rw [List.any_cons,List.all_cons,ih];cases p x <;> rfl
theorem zop{s:List UInt8}(h:Len s):zjE s=some (zn2 s):=by
 have hl:zu (fun z=>ze1 s z) 0=_:=zeO (l:=s) (g:=fun x=>cond (!okC x) (some false) none) (u:=()) (fun i x hx=>by
  have hi:=(List.getElem?_eq_some_iff.1 hx).1
  show ze1 s (i:Int)=_
  unfold ze1
  rw [zB,hx,decide_eq_true (by omega),zay (by unfold Len at h;omega)]
  unfold okC
  cases h1:zc6 x <;> cases h2:zdO x <;> cases h3:zho x <;> simp [h1,h2,h3,zuc]) (by
  show ze1 s (s.length:Int)=_
  unfold ze1
  rw [decide_eq_false (by omega)]
  rfl)
 unfold zjE
 rw [hl,zdI,ztp]
 unfold zn2
 cases s.all okC <;> rfl
theorem zlV(p:UInt8→Bool)(x:UInt8)(r:List UInt8):zu6 p (x ::r)=p x:=rfl
theorem zuU{s:List UInt8}(h:zn2 s=true):∃x r,s=x ::r:=by
 cases s with
 |nil=>exact absurd h (by decide)
 |cons x r=>exact ⟨x,r,rfl⟩
theorem zgm{s:List UInt8}(h:Len s):zfw s=some (zcx s):=by
 unfold zfw
 rw [zop h,ziG]
 unfold zcx
 cases hw:zn2 s with
 |false=>rfl
 |true =>
  obtain ⟨x,r,rfl⟩:=zuU hw
  simp only [Option.bind_some,Bool.true_and,List.getElem?_cons_zero]
  cases decide (1<((x ::r).length:Int)) <;> rfl
theorem zlf{s:List UInt8}(h:Len s):ziU s=some (zo1 s):=by
 unfold ziU
 rw [zop h,ziG]
 unfold zo1
 cases s == [36,105,110,105,116] with
 |true=>rfl
 |false =>
  cases hw:zn2 s with
  |false=>rfl
  |true =>
   obtain ⟨x,r,rfl⟩:=zuU hw
   rfl
theorem zgt(x:UInt8)(r:List UInt8):zfa (x ::r)=if x=91 then r else x ::r:=rfl
theorem zne(s:List UInt8):(zfa s).length≤s.length:=by
 cases s with
 |nil=>exact Nat.le_refl _
 |cons x r=>rw [zgt];split <;> simp
theorem zwF{s:List UInt8}(h:Len s):zdP s [91]=some (zfa s):=by
 unfold zdP zck zco
 cases s with
 |nil=>rfl
 |cons x r =>
  have e1:decide ((List.length [(91:UInt8)]:Int)≤(List.length (x ::r):Int))=true:=decide_eq_true (by simp only [List.length_cons,List.length_nil];omega)
  have e2:zj6 (x ::r) 0 (List.length [(91:UInt8)]:Int)=some [x]:=by
   have:=znS (l:=x ::r) (b:=1) (by simp)
   simpa using this
  have e3:zj6 (x ::r) (List.length [(91:UInt8)]:Int) (List.length (x ::r):Int)=some r:=by
   have:=zir (l:=x ::r) (a:=1) (by simp)
   simpa using this
  rw [e1,e2,e3,zgt]
  by_cases hx:x=91
  ·subst hx;rfl
  ·rw [if_neg hx]
   have:([x] == [(91:UInt8)])=false:=by simp [hx]
   simp [this]
theorem zg7{s:List UInt8}(h:Len s):zhL s=some (zfH s):=by
 have h1:=zne s
 have h2:=zne (zfa s)
 unfold zhL
 rw [zwF h,Option.bind_some,zwF (by unfold Len at *;omega),Option.bind_some,zgm (by unfold Len at *;omega)]
 unfold zfH
 cases zfa (zfa s) == [73] <;> rfl
theorem zkt{s:List UInt8}(h:Len s):zjl s=some (zoH s):=by
 unfold zjl
 rw [zg7 h]
 unfold zoH
 cases s == [73] <;> rfl
theorem ztA{s:List UInt8}(h:Len s):zny s=some (zsS s):=by
 unfold zny
 rw [zg7 h]
 unfold zsS
 cases s == [86] <;> rfl
theorem zoR(x:UInt8):zjD x=zdO x:=rfl
theorem znE(x:UInt8):zja x=zc6 x:=rfl
theorem zrQ(x:UInt8):zjC x=zho x:=rfl
theorem zgk{s:List UInt8}(h:Len s):zfv s=some (zcx s):=by
 unfold zfv
 have hend:zcX s (s.length:Int)=some (.inr (.inl ())):=by
  unfold zcX;rw [decide_eq_false (by omega)];rfl
 cases s with
 |nil=>rw [zL];rfl
 |cons x r =>
  have hrest:zu (fun z=>zcX (x ::r) z) ((1:Nat):Int)=some (zpo () (((x ::r).drop 1).findSome? (fun y=>cond (!okC y) (some false) none))):=
   zlQ (k:=1) (g:=fun y=>cond (!okC y) (some false) none) (fun i y hi hy=>by
    have hlt:=(List.getElem?_eq_some_iff.1 hy).1
    show zcX (x ::r) (i:Int)=_
    unfold zcX
    rw [zB,hy,decide_eq_true (by omega),zay (by unfold Len at h;omega)]
    have e:((i:Int) == (0:Int))=false:=by simp;omega
    rw [e]
    simp only [zoR,znE,zrQ]
    unfold okC
    cases h1:zc6 y <;> cases h2:zdO y <;> cases h3:zho y <;> simp [h1,h2,h3,zuc]) hend (by simp)
  have hfirst:zcX (x ::r) 0=some (cond (zdO x) (.inl 1) (.inr (.inr false))):=by
   unfold zcX
   rw [ziG,decide_eq_true (by simp only [List.length_cons,List.length_nil];omega)]
   simp only [zoR]
   have:IntKind.i64.wrap (0+1)=1:=by decide
   rw [this]
   simp only [List.getElem?_cons_zero,Option.bind_some]
   cases hg:zdO x <;> rfl
  rw [zL,hfirst]
  cases hg:zdO x with
  |false =>
   have:zcx (x ::r)=false:=by unfold zcx;rw [zlV,hg];simp
   rw [this]
   rfl
  |true =>
   show ((zu (fun z=>zcX (x ::r) z) ((1:Nat):Int)).bind _)=_
   rw [hrest,List.drop_one,List.tail_cons,zdI,ztp]
   have:zcx (x ::r)=(r.all okC&&(decide (2≤(List.length (x ::r):Int))&&decide ((List.length (x ::r):Int)≤8))):=by
    unfold zcx zn2
    rw [zlV]
    have ho:okC x=true:=by unfold okC;rw [hg];simp
    rw [List.all_cons,ho,hg]
    have e:decide (1<(List.length (x ::r):Int))=decide (2≤(List.length (x ::r):Int)):=by congr 1
    rw [e]
    have e2:((x ::r) == [])=false:=rfl
    rw [e2]
    cases r.all okC <;> cases decide (2≤(List.length (x ::r):Int)) <;> cases decide ((List.length (x ::r):Int)≤8) <;> rfl
   rw [this]
   cases r.all okC <;> rfl
theorem zlb{s:List UInt8}(h:Len s):zjf s=some (zo1 s):=by
 unfold zjf
 have hend:zdD s (s.length:Int)=some (.inr (.inl ())):=by
  unfold zdD;rw [decide_eq_false (by omega)];rfl
 unfold zo1
 cases s == [36,105,110,105,116] with
 |true=>rfl
 |false =>
 show (zu _ _).bind _=some (zn2 s&&zu6 zc6 s)
 cases s with
 |nil=>rw [zL];rfl
 |cons x r =>
  have hrest:zu (fun z=>zdD (x ::r) z) ((1:Nat):Int)=some (zpo () (((x ::r).drop 1).findSome? (fun y=>cond (!okC y) (some false) none))):=
   zlQ (k:=1) (g:=fun y=>cond (!okC y) (some false) none) (fun i y hi hy=>by
    have hlt:=(List.getElem?_eq_some_iff.1 hy).1
    show zdD (x ::r) (i:Int)=_
    unfold zdD
    rw [zB,hy,decide_eq_true (by omega),zay (by unfold Len at h;omega)]
    have e:((i:Int) == (0:Int))=false:=by simp;omega
    rw [e]
    simp only [zoR,znE,zrQ]
    unfold okC
    cases h1:zc6 y <;> cases h2:zdO y <;> cases h3:zho y <;> simp [h1,h2,h3,zuc]) hend (by simp)
  have hfirst:zdD (x ::r) 0=some (cond (zc6 x) (.inl 1) (.inr (.inr false))):=by
   unfold zdD
   rw [ziG,decide_eq_true (by simp only [List.length_cons,List.length_nil];omega)]
   simp only [znE]
   have:IntKind.i64.wrap (0+1)=1:=by decide
   rw [this]
   simp only [List.getElem?_cons_zero,Option.bind_some]
   cases hg:zc6 x <;> rfl
  rw [zL,hfirst]
  cases hg:zc6 x with
  |false =>
   have:(zn2 (x ::r)&&zu6 zc6 (x ::r))=false:=by rw [zlV,hg];simp
   rw [this]
   rfl
  |true =>
   show ((zu (fun z=>zdD (x ::r) z) ((1:Nat):Int)).bind _)=_
   rw [hrest,List.drop_one,List.tail_cons,zdI,ztp]
   have:(zn2 (x ::r)&&zu6 zc6 (x ::r))=(r.all okC&&(decide (1≤(List.length (x ::r):Int))&&decide ((List.length (x ::r):Int)≤8))):=by
    unfold zn2
    rw [zlV]
    have ho:okC x=true:=by unfold okC;rw [hg];simp
    rw [List.all_cons,ho,hg]
    have e2:((x ::r) == [])=false:=rfl
    have e3:decide (1≤(List.length (x ::r):Int))=true:=decide_eq_true (by simp only [List.length_cons,List.length_nil];omega)
    rw [e2,e3]
    cases r.all okC <;> cases decide ((List.length (x ::r):Int)≤8) <;> rfl
   rw [this]
   cases r.all okC <;> rfl
theorem ze8{s:List UInt8}(h:Len s):zgn s=some (zfH s):=by
 have step:∀(t:List UInt8) (i:Int),i<2→zgb t i=some (match t with | []=>.inr (.inl []) |x ::r=>if x=91 then .inl (r,IntKind.i64.wrap (i+1)) else .inr (.inl (x ::r))):=fun t i hi=>by
  unfold zgb
  rw [decide_eq_true hi]
  cases t with
  |nil=>rfl
  |cons x r =>
   have e1:decide ((0:Int)<(List.length (x ::r):Int))=true:=decide_eq_true (by simp only [List.length_cons,List.length_nil];omega)
   have e3:zj6 (x ::r) 1 (List.length (x ::r):Int)=some r:=by
    have:=zir (l:=x ::r) (a:=1) (by simp)
    simpa using this
   rw [e1,ziG,e3]
   by_cases hx:x=91
   ·subst hx;rfl
   ·have e:((x.toNat:Int) == (91:Int))=false:=by
     rw [beq_eq_false_iff_ne]
     intro h
     apply hx
     have:x.toNat=(91:UInt8).toNat:=by simp;omega
     exact UInt8.toNat_inj.1 this
    simp [e,if_neg hx]
 have stop:∀t:List UInt8,zgb t 2=some (.inr (.inl t)):=fun t=>by unfold zgb;simp
 have hl:zu (fun z:List UInt8×Int=>zgb z.1 z.2) (s,0)=some (.inl (zfa (zfa s))):=by
  have w1:IntKind.i64.wrap (0+1)=1:=by decide
  have w2:IntKind.i64.wrap (1+1)=2:=by decide
  rw [zL]
  simp only [step s 0 (by omega)]
  cases s with
  |nil=>rfl
  |cons x r =>
   rw [zgt]
   by_cases hx:x=91
   ·simp only [if_pos hx,Option.bind_some,Sum.elim_inl,w1]
    rw [zL]
    simp only [step r 1 (by omega)]
    cases r with
    |nil=>rfl
    |cons y q =>
     by_cases hy:y=91
     ·simp only [if_pos hy,Option.bind_some,Sum.elim_inl,w2]
      rw [zL]
      simp only [stop]
      rw [zgt,if_pos hy]
      rfl
     ·simp only [if_neg hy,Option.bind_some,Sum.elim_inr]
      rw [zgt,if_neg hy]
   ·simp only [if_neg hx,Option.bind_some,Sum.elim_inr]
    rw [zgt,if_neg hx]
 have h1:=zne s
 have h2:=zne (zfa s)
 unfold zgn
 rw [hl]
 show ziX _=_
 unfold ziX zfH
 rw [zgk (by unfold Len at *;omega)]
 cases zfa (zfa s) == [73] <;> rfl
theorem ztF{s:List UInt8}(h:Len s):znj s=some (zoH s):=by
 unfold znj
 rw [ze8 h]
 unfold zoH
 cases s == [73] <;> rfl
def zBY(v1:Int):Bool:=
 ((((v1 == (1:Int))||(v1 == (3:Int)))||(v1 == (4:Int)))||(zeK v1))
def zsw(o:Int)(s:List UInt8):Bool:=cond (zhG o) (zoH s) (cond (zz2 o) (zcx s) (s == []))
def zy5(o:Int)(s:List UInt8):Bool:=cond (zzw o) (zo1 s&&!(s == [36,105,110,105,116])) (s == [])
def zla(x:zH):Bool:=(zke x.Op&&zjy x.Op x.A)&&zsw x.Op x.C&&zy5 x.Op x.M
theorem zvn{o:Int}{s:List UInt8}(h:Len s):zpJ o s=some (zsw o s):=by
 unfold zpJ zsw
 rw [zkt h,zgm h]
 cases zhG o <;> cases zz2 o <;> rfl
theorem zvv{o:Int}{s:List UInt8}(h:Len s):zo8 o s=some (zy5 o s):=by
 unfold zo8 zy5
 rw [zlf h]
 cases zzw o <;> rfl
theorem zwK{x:zH}(hC:Len x.C)(hM:Len x.M):zr9 x=some (zla x):=by
 unfold zr9 zla
 rw [zvn hC,zvv hM]
 cases (zke x.Op&&zjy x.Op x.A) <;> cases zsw x.Op x.C <;> rfl
theorem zAk(o A:Int):zjy o A=cond (zBY o) (zh2 o A) (A == 0):=by
 have e1:decide (A≤2147483647)=decide (A<2147483648):=by congr 1;apply propext;omega
 have e2:decide (A≤15)=decide (A<16):=by congr 1;apply propext;omega
 have e3:decide (A≤99)=decide (A<100):=by congr 1;apply propext;omega
 unfold zjy zBY zh2 zhZ zeK zd8
 rw [e1,e2,e3]
 by_cases h1:o=1
 ·subst h1;rfl
 by_cases h3:o=3
 ·subst h3;rfl
 by_cases h4:o=4
 ·subst h4;rfl
 have b1:(o == (1:Int))=false:=beq_eq_false_iff_ne.2 h1
 have b3:(o == (3:Int))=false:=beq_eq_false_iff_ne.2 h3
 have b4:(o == (4:Int))=false:=beq_eq_false_iff_ne.2 h4
 rw [b1,b3,b4]
 cases (decide (20≤o)&&decide (o≤36)) <;> rfl
theorem zxE:∀k:_root_.Fin 62,(zeU (k.val:Int)).1=zBY (k.val:Int)∧(zeU (k.val:Int)).2.1=cond (zhG (k.val:Int)) 2 (cond (zz2 (k.val:Int)) 1 0)∧(zeU (k.val:Int)).2.2=zzw (k.val:Int):=by
 decide +kernel
theorem zpU{x:zH}(hC:Len x.C)(hM:Len x.M):zi5 x=some (zla x):=by
 unfold zi5 zla zke zd8
 by_cases hk:1≤x.Op∧x.Op≤61
 ·obtain ⟨k,hkk⟩:∃k:Nat,x.Op=k:=⟨x.Op.toNat,by omega⟩
  obtain ⟨p1,p2,p3⟩:=zxE ⟨k,by omega⟩
  simp only at p1 p2 p3
  rw [hkk] at hk ⊢
  rw [zAk,p1,p2,p3,decide_eq_false (show ¬(k:Int)<1 by omega),decide_eq_false (show ¬(61:Int)<k by omega),decide_eq_true hk.1,decide_eq_true hk.2,zgk hC,ztF hC,zlb hM]
  unfold zsw zy5
  cases zBY (k:Int) <;> cases zh2 (k:Int) x.A <;> cases (x.A == 0) <;> cases zhG (k:Int) <;> cases zz2 (k:Int) <;> cases zzw (k:Int) <;> cases (x.C == []) <;> cases zcx x.C <;> cases zoH x.C <;> rfl
 ·have h1:(decide (x.Op<1)||decide (61<x.Op))=true:=by
   rw [Bool.or_eq_true]
   by_cases h:x.Op<1
   ·exact .inl (decide_eq_true h)
   ·exact .inr (decide_eq_true (by omega))
  have h2:(decide (1≤x.Op)&&decide (x.Op≤61))=false:=by
   rw [Bool.and_eq_false_iff]
   by_cases h:1≤x.Op
   ·exact .inr (decide_eq_false (by omega))
   ·exact .inl (decide_eq_false h)
  rw [h1,h2]
  rfl
def ixF{α:Type}(p:α→Bool):Nat→List α→Int
 |_,[]=>-1
 |k,x ::r=>cond (p x) (k:Int) (ixF p (k+1) r)
theorem zg3{α:Type}(p:α→Bool):∀(k:Nat) (l:List α),decide (0≤ixF p k l)=l.any p
 |_,[]=>rfl
 |k,x ::r=>by
  unfold ixF
  rw [List.any_cons]
  cases p x with
  |true=>exact decide_eq_true (show (0:Int)≤(k:Int) by omega)
  |false=>exact zg3 p (k+1) r
theorem zcv{α:Type}{body:Int→Option (Sum Int (Sum Unit Int))}{l:List α}{p:α→Bool}(hl:l.length≤9223372036854775807)
  (hb:∀(i:Nat) x,l[i]?=some x→body (i:Int)=cond (p x) (some (.inr (.inr (i:Int)))) (some (.inl (IntKind.i64.wrap ((i:Int)+1)))))
  (he:body (l.length:Int)=some (.inr (.inl ()))):
  (zu body 0).bind (fun o=>zU o (fun _=>some (-1:Int)) some)=some (ixF p 0 l):=by
 have key:∀(r pre:List α),l=pre++r→(zu body (pre.length:Int)).bind (fun o=>zU o (fun _=>some (-1:Int)) some)=some (ixF p pre.length r):=by
  intro r
  induction r with
  |nil =>
   intro pre h
   rw [List.append_nil] at h
   subst h
   rw [zL,he]
   rfl
  |cons x r ih =>
   intro pre h
   have hlen:l.length=pre.length+(r.length+1):=by rw [h];simp
   have hx:l[pre.length]?=some x:=by rw [h];simp
   rw [zL,hb _ x hx]
   unfold ixF
   cases p x with
   |true=>rfl
   |false =>
    rw [zay (by omega)]
    have:=ih (pre++[x]) (by rw [h];simp)
    rw [show (pre++[x]).length=pre.length+1 by simp] at this
    exact this
 exact key l [] rfl
def uB{α:Type}(ok:α→Bool)(nm:α→List UInt8):List α→List α→Bool
 |_,[]=>false
 |pre,x ::r=>(!ok x||pre.any (fun y=>nm x == nm y))||uB ok nm (pre++[x]) r
theorem zoS{α:Type}{body:Int→Option (Sum Int (Sum Unit Bool))}{l:List α}{ok:α→Bool}{nm:α→List UInt8}(hl:l.length≤9223372036854775807)
  (hb:∀(i:Nat) x,l[i]?=some x→body (i:Int)=cond (!ok x||(l.take i).any (fun y=>nm x == nm y)) (some (.inr (.inr false))) (some (.inl (IntKind.i64.wrap ((i:Int)+1)))))
  (he:body (l.length:Int)=some (.inr (.inl ()))) {k:Option Bool}:
  (zu body 0).bind (fun o=>zU o (fun _=>k) some)=cond (uB ok nm [] l) (some false) k:=by
 have key:∀(r pre:List α),l=pre++r→(zu body (pre.length:Int)).bind (fun o=>zU o (fun _=>k) some)=cond (uB ok nm pre r) (some false) k:=by
  intro r
  induction r with
  |nil =>
   intro pre h
   rw [List.append_nil] at h
   subst h
   rw [zL,he]
   rfl
  |cons x r ih =>
   intro pre h
   have hlen:l.length=pre.length+(r.length+1):=by rw [h];simp
   have hx:l[pre.length]?=some x:=by rw [h];simp
   have ht:l.take pre.length=pre:=by rw [h];simp
   rw [zL,hb _ x hx,ht]
   unfold uB
   cases !ok x||pre.any (fun y=>nm x == nm y) with
   |true=>rfl
   |false =>
    rw [zay (by omega)]
    have:=ih (pre++[x]) (by rw [h];simp)
    rw [show (pre++[x]).length=pre.length+1 by simp] at this
    exact this
 exact key l [] rfl
abbrev zj5{α:Type}(l:List α):Prop:=l.length≤9223372036854775807
theorem zgj{α:Type}{l:List α}{i:Nat}{x:α}(h:l[i]?=some x):decide ((i:Int)<(l.length:Int))=true:=
 decide_eq_true (by have:=(List.getElem?_eq_some_iff.1 h).1;omega)
theorem zgY{α:Type}(l:List α):decide ((l.length:Int)<(l.length:Int))=false:=decide_eq_false (by omega)
theorem zzs{l:List zt}(hl:zj5 l)(n t:List UInt8)(s:Bool):zaw l n t s=some (l.any fun y=>n == y.Name):=by
 unfold zaw zbl
 rw [show ((zu (fun z=>zaa l n t s z) 0).bind fun o=>zU o (fun b=>za8) some)=_ from zcv (p:=fun y:zt=>n == y.Name) hl
  (fun i x hx=>by unfold zaa;rw [zgj hx,zB,hx];rfl) (by unfold zaa;rw [zgY];rfl)]
 exact congrArg some (zg3 _ 0 l)
theorem zx9{l:List zd}(hl:zj5 l)(n:List UInt8)(a b c d e f g h i):zao l n a b c d e f g h i=some (l.any fun y=>n == y.Name):=by
 unfold zao zbf
 rw [show ((zu (fun z=>z2 l n a b c d e f g h i z) 0).bind fun o=>zU o (fun b=>zaZ) some)=_ from zcv (p:=fun y:zd=>n == y.Name) hl
  (fun i x hx=>by unfold z2;rw [zgj hx,zB,hx];rfl) (by unfold z2;rw [zgY];rfl)]
 exact congrArg some (zg3 _ 0 l)
theorem zAT{l:List (List UInt8)}(hl:zj5 l)(n:List UInt8):zaM l n=some (l.any fun y=>n == y):=by
 unfold zaM zbS
 rw [show ((zu (fun z=>zaj l n z) 0).bind fun o=>zU o (fun b=>zbn) some)=_ from zcv (p:=fun y:List UInt8=>n == y) hl
  (fun i x hx=>by unfold zaj;rw [zgj hx,zB,hx];rfl) (by unfold zaj;rw [zgY];rfl)]
 exact congrArg some (zg3 _ 0 l)
theorem zpA{c:zb}(hl:zj5 c.Methods)(n:List UInt8):zfW c n=some (ixF (fun y=>y.Name == n) 0 c.Methods):=by
 unfold zfW za2
 rw [show ((zu (fun z=>zT c.Methods n z) 0).bind fun o=>zU o (fun b=>zaE) some)=_ from zcv (p:=fun y:zd=>y.Name == n) hl
  (fun i x hx=>by unfold zT;rw [zgj hx,zB,hx];rfl) (by unfold zT;rw [zgY];rfl)]
 rfl
theorem zpR{c:zb}(hl:zj5 c.Fields)(n:List UInt8):zjb c n=some (ixF (fun y=>y.Name == n) 0 c.Fields):=by
 unfold zjb za9
 rw [show ((zu (fun z=>zY c.Fields n z) 0).bind fun o=>zU o (fun b=>zaR) some)=_ from zcv (p:=fun y:zt=>y.Name == n) hl
  (fun i x hx=>by unfold zY;rw [zgj hx,zB,hx];rfl) (by unfold zY;rw [zgY];rfl)]
 rfl
def zmb(f:zt):Bool:=(zo1 f.Name&&!(f.Name == [36,105,110,105,116]))&&zfH f.Type_
theorem zqg{f:zt}(h1:Len f.Name)(h2:Len f.Type_):zjd f=some (zmb f):=by
 unfold zjd zmb
 rw [zlf h1,zg7 h2,Option.bind_some]
 cases (zo1 f.Name&&!(f.Name == [36,105,110,105,116])) <;> rfl
theorem zwJ{l:List zt}(hl:zj5 l)(h:∀f∈l,Len f.Name∧Len f.Type_)(n:Int):zd9 l n=cond (uB zmb (·.Name) [] l) (some false) (some (decide ((l.length:Int)≤n))):=by
 unfold zd9
 refine zoS (ok:=zmb) (nm:=(·.Name)) hl (fun i x hx=>?_) ?_
 ·have hm:=h x (List.mem_of_getElem? hx)
  have hi:=(List.getElem?_eq_some_iff.1 hx).1
  unfold zdh
  rw [zgj hx,zB,hx]
  simp only [Option.bind_some,cond_true]
  rw [zqg hm.1 hm.2,Option.bind_some,znS (by omega),Option.bind_some,zzs (by unfold zj5 at *;rw [List.length_take];omega)]
  cases zmb x <;> rfl
 ·unfold zdh
  rw [zgY];rfl
theorem zyo{l:List (List UInt8)}(hl:zj5 l)(h:∀s∈l,Len s)(n:Int):zfl l n=cond (uB zcx id [] l) (some false) (some (decide ((l.length:Int)≤n))):=by
 unfold zfl
 refine zoS (ok:=zcx) (nm:=id) hl (fun i x hx=>?_) ?_
 ·have hm:=h x (List.mem_of_getElem? hx)
  have hi:=(List.getElem?_eq_some_iff.1 hx).1
  unfold zea
  rw [zgj hx,zB,hx]
  simp only [Option.bind_some,cond_true]
  rw [zgm hm,Option.bind_some,znS (by omega),Option.bind_some,zAT (by unfold zj5 at *;rw [List.length_take];omega)]
  cases zcx x <;> rfl
 ·unfold zea
  rw [zgY];rfl
def zr8(l:List (List UInt8)):Bool:=!(l.any fun s=>!zfH s)
theorem zpP{l:List (List UInt8)}(hl:zj5 l)(h:∀s∈l,Len s):zi7 l=some (zr8 l):=by
 unfold zi7 zbV zct
 rw [show ((zu (fun z=>zaA l z) 0).bind fun o=>zU o (fun b=>zbT) some)=_ from zcv (p:=fun s=>!zfH s) hl
  (fun i x hx=>by
   unfold zaA ziF
   rw [zgj hx,zB,hx]
   simp only [Option.bind_some,cond_true]
   rw [zg7 (h x (List.mem_of_getElem? hx))]
   rfl) (by unfold zaA;rw [zgY];rfl)]
 rw [Option.bind_some,zg3]
 rfl
def zAv(n:Int)(x:zH):Bool:=(!zla x)||(zeK x.Op&&decide (n≤x.A))
def instrN(c:List zH):Bool:=zn (c.length:Int) 1 100&&(c.getLast?.elim false (fun y=>ziy y.Op)&&!(c.any (zAv (c.length:Int))))
theorem zlJ{m:zd}(hl:zj5 m.Code)(h:∀x∈m.Code,Len x.C∧Len x.M):zep m=some (instrN m.Code):=by
 have hc:zaV m.Code (m.Code.length:Int)=some (m.Code.any (zAv (m.Code.length:Int))):=by
  unfold zaV zb4
  rw [show ((zu (fun z=>zar m.Code (m.Code.length:Int) z) 0).bind fun o=>zU o (fun b=>zbF) some)=_ from zcv (p:=zAv (m.Code.length:Int)) hl
   (fun i x hx=>by
    have hm:=h x (List.mem_of_getElem? hx)
    unfold zar zeJ
    rw [zgj hx,zB,hx]
    simp only [Option.bind_some,cond_true]
    rw [zwK hm.1 hm.2]
    rfl) (by unfold zar;rw [zgY];rfl)]
  exact congrArg some (zg3 _ 0 _)
 unfold zep instrN
 rw [hc]
 cases hb:zn (m.Code.length:Int) 1 100 with
 |false=>rfl
 |true =>
  have hb':(decide (1≤(m.Code.length:Int))&&decide ((m.Code.length:Int)≤100))=true:=hb
  simp only [Bool.and_eq_true,decide_eq_true_eq] at hb'
  have e:IntKind.i64.wrap ((m.Code.length:Int)-1)=((m.Code.length-1:Nat):Int):=by
   rw [zkZ (by omega) (by omega)];omega
  rw [e,zB,←List.getLast?_eq_getElem?]
  cases hg:m.Code.getLast? with
  |none =>
   rw [List.getLast?_eq_none_iff] at hg
   rw [hg] at hb'
   simp at hb'
  |some y =>
   simp only [Option.bind_some,Bool.not_true,cond_false,Option.elim_some,Bool.true_and]
   cases ziy y.Op <;> rfl
def zpY(n:Int)(y:zbe):Bool:=(((decide (y.From<0)||decide (y.To≤y.From))||decide (n<y.To))||!(zn y.At 0 (IntKind.i64.wrap (n-1))))||(!(y.C == [])&&!zcx y.C)
def zmV(m:zd):Bool:=!(m.Traps.any (zpY (m.Code.length:Int)))&&decide ((m.Traps.length:Int)≤6)
theorem zpX{m:zd}(hl:zj5 m.Traps)(h:∀x∈m.Traps,Len x.C):zi4 m=some (zmV m):=by
 unfold zi4 zbi zbK
 rw [show ((zu (fun z=>zag m.Traps m.Name m.Params m.Ret m.Static m.Abstract m.Locals m.Stack m.Code m.Maps m.Traps z) 0).bind fun o=>zU o (fun b=>zbh) some)=_ from zcv (p:=zpY (m.Code.length:Int)) hl
  (fun i x hx=>by
   have hm:=h x (List.mem_of_getElem? hx)
   unfold zag ziK zpY
   rw [zgj hx,zB,hx]
   simp only [Option.bind_some,cond_true]
   rw [zgm hm]
   cases (((decide (x.From<0)||decide (x.To≤x.From))||decide ((m.Code.length:Int)<x.To))||!(zn x.At 0 (IntKind.i64.wrap ((m.Code.length:Int)-1)))) with
   |true=>rfl
   |false=>cases (x.C == []) <;> rfl) (by unfold zag;rw [zgY];rfl)]
 rw [Option.bind_some,zg3]
 rfl
def gB{α:Type}(bad:List α→α→Bool):List α→List α→Bool
 |_,[]=>false
 |pre,x ::r=>bad pre x||gB bad (pre++[x]) r
theorem zl3{α:Type}{body:Int→Option (Sum Int (Sum Unit Bool))}{l:List α}{bad:List α→α→Bool}(hl:l.length≤9223372036854775807)
  (hb:∀(i:Nat) x,l[i]?=some x→body (i:Int)=cond (bad (l.take i) x) (some (.inr (.inr false))) (some (.inl (IntKind.i64.wrap ((i:Int)+1)))))
  (he:body (l.length:Int)=some (.inr (.inl ()))):zu body 0=some (cond (gB bad [] l) (.inr false) (.inl ())):=by
 have key:∀(r pre:List α),l=pre++r→zu body (pre.length:Int)=some (cond (gB bad pre r) (.inr false) (.inl ())):=by
  intro r
  induction r with
  |nil =>
   intro pre h
   rw [List.append_nil] at h
   subst h
   rw [zL,he]
   rfl
  |cons x r ih =>
   intro pre h
   have hlen:l.length=pre.length+(r.length+1):=by rw [h];simp
   have hx:l[pre.length]?=some x:=by rw [h];simp
   have ht:l.take pre.length=pre:=by rw [h];simp
   rw [zL,hb _ x hx,ht]
   unfold gB
   cases bad pre x with
   |true=>rfl
   |false =>
    rw [zay (by omega)]
    have:=ih (pre++[x]) (by rw [h];simp)
    rw [show (pre++[x]).length=pre.length+1 by simp] at this
    exact this
 exact key l [] rfl
theorem zzZ{α:Type}(p:α→Bool):∀(pre r:List α),gB (fun _ x=>p x) pre r=r.any p
 |_,[]=>rfl
 |pre,x ::r=>by
  show (p x||gB _ _ r)=_
  rw [zzZ p (pre++[x]) r,List.any_cons]
theorem zzg{α:Type}(ok:α→Bool)(nm:α→List UInt8):∀(pre r:List α),uB ok nm pre r=gB (fun pre x=>!ok x||pre.any (fun y=>nm x == nm y)) pre r
 |_,[]=>rfl
 |pre,x ::r=>by
  show (_||uB ok nm (pre++[x]) r)=(_||gB _ (pre++[x]) r)
  rw [zzg ok nm (pre++[x]) r]
theorem zjU{α:Type}{body:Int→Option (Sum Int (Sum Unit Bool))}{l:List α}{bad:α→Bool}(hl:l.length≤9223372036854775807)
  (hb:∀(i:Nat) x,l[i]?=some x→body (i:Int)=cond (bad x) (some (.inr (.inr false))) (some (.inl (IntKind.i64.wrap ((i:Int)+1)))))
  (he:body (l.length:Int)=some (.inr (.inl ()))):zu body 0=some (cond (l.any bad) (.inr false) (.inl ())):=by
 rw [zl3 (bad:=fun _ x=>bad x) hl hb he,zzZ]
def zmE(v:List UInt8):Bool:=(((v == [73])||(v == [78]))||(v == [84]))||zoH v
theorem zq2{s:List UInt8}(h:Len s):zjV s=some (zmE s):=by
 unfold zjV zmE
 rw [zkt h]
 cases (((s == [73])||(s == [78]))||(s == [84])) <;> rfl
def zik(l:List (List UInt8)):Bool:=!(l.any fun s=>!zmE s)
theorem zjR{l:List (List UInt8)}(hl:zj5 l)(h:∀s∈l,Len s):zfz l=some (zik l):=by
 unfold zfz zbp zbR
 rw [show ((zu (fun z=>zai l z) 0).bind fun o=>zU o (fun b=>zbs) some)=_ from zcv (p:=fun s=>!zmE s) hl
  (fun i x hx=>by
   unfold zai zgV
   rw [zgj hx,zB,hx]
   simp only [Option.bind_some,cond_true]
   rw [zq2 (h x (List.mem_of_getElem? hx))]
   rfl) (by unfold zai;rw [zgY];rfl)]
 rw [Option.bind_some,zg3]
 rfl
theorem zxk{l:List (List UInt8)}(hl:zj5 l)(n:List UInt8):zK l n=some (l.any fun y=>n == y):=by
 unfold zK zdf
 rw [show ((zu (fun z=>za7 l n z) 0).bind fun o=>zU o (fun b=>zcA) some)=_ from zcv (p:=fun y:List UInt8=>n == y) hl
  (fun i x hx=>by unfold za7;rw [zgj hx,zB,hx];rfl) (by unfold za7;rw [zgY];rfl)]
 exact congrArg some (zg3 _ 0 l)
def zzE(m:zd)(pre:List zas)(x:zas):Bool:=
 ((!(decide (0≤x.At)&&decide (x.At<(m.Code.length:Int))))||(pre.getLast?.elim false (fun y=>decide (x.At≤y.At)))) ||
 (((!((x.Locals.length:Int) == m.Locals))||decide (m.Stack<(x.Stack.length:Int)))||((!zik x.Locals||!zik x.Stack)||x.Stack.any (fun y=>[84] == y)))
def zq6(m:zd):Bool:=!(gB (zzE m) [] m.Maps)&&decide ((m.Maps.length:Int)≤100)
structure zxF(m:zd):Prop where
 len:zj5 m.Maps
 code:zj5 m.Code
 all:∀x∈m.Maps,(zj5 x.Locals∧∀s∈x.Locals,Len s)∧(zj5 x.Stack∧∀s∈x.Stack,Len s)
theorem zr3{α:Type}{l:List α}{i:Nat}(h:i<l.length)(h0:0<i):(l.take i).getLast?=l[i-1]?:=by
 rw [List.getLast?_eq_getElem?,List.getElem?_take_of_lt (by simp;omega)]
 congr 1
 simp;omega
theorem zqU{m:zd}(h:zxF m):zjO m=some (zq6 m):=by
 have j2:∀(i:Nat) (x:zas) (b:Bool),x∈m.Maps→zeA m (i:Int) x b=cond (b||(((!((x.Locals.length:Int) == m.Locals))||decide (m.Stack<(x.Stack.length:Int)))||((!zik x.Locals||!zik x.Stack)||x.Stack.any (fun y=>[84] == y)))) (some (.inr (.inr false))) (some (.inl (IntKind.i64.wrap ((i:Int)+1)))):=fun i x b hx=>by
  obtain ⟨⟨h1,h2⟩,h3,h4⟩:=h.all x hx
  unfold zeA
  rw [zjR h1 h2,zjR h3 h4,zxk h3]
  cases b with
  |true=>rfl
  |false =>
   cases ((!((x.Locals.length:Int) == m.Locals))||decide (m.Stack<(x.Stack.length:Int))) with
   |true=>rfl
   |false =>
    cases zik x.Locals with
    |false=>rfl
    |true=>cases zik x.Stack <;> rfl
 have hl:zu (fun z=>zev m z) 0=_:=zl3 (bad:=zzE m) h.len (fun i x hx=>by
  have hm:=List.mem_of_getElem? hx
  have hi:=(List.getElem?_eq_some_iff.1 hx).1
  have hlen:=h.len
  have hcode:=h.code
  unfold zj5 at hlen hcode
  show zev m (i:Int)=_
  unfold zev zzE
  rw [zgj hx,zB,hx]
  simp only [Option.bind_some,cond_true]
  have hb:zn x.At 0 (IntKind.i64.wrap ((m.Code.length:Int)-1))=(decide (0≤x.At)&&decide (x.At<(m.Code.length:Int))):=by
   show (decide (0≤x.At)&&decide (x.At≤IntKind.i64.wrap ((m.Code.length:Int)-1)))=_
   rw [zkZ (by omega) (by omega)]
   congr 1
   exact decide_eq_decide.2 (by omega)
  rw [hb]
  cases (decide (0≤x.At)&&decide (x.At<(m.Code.length:Int))) with
  |false=>exact j2 i x true hm
  |true =>
   rcases Nat.eq_zero_or_pos i with h0 |h0
   ·subst h0
    exact j2 0 x false hm
   ·rw [decide_eq_true (show (0:Int)<(i:Int) by omega),zr3 hi h0]
    have e:IntKind.i64.wrap ((i:Int)-1)=((i-1:Nat):Int):=by
     rw [zkZ (by omega) (by omega)];omega
    rw [e,zB,List.getElem?_eq_getElem (show i-1<m.Maps.length by omega)]
    exact j2 i x _ hm) (by show zev m (m.Maps.length:Int)=_;unfold zev;rw [zgY];rfl)
 unfold zjO zq6
 rw [hl]
 cases gB (zzE m) [] m.Maps <;> rfl
theorem zyr(v:List UInt8):(cond (!(v == [84])&&!(v == [78])) (!zfH v) false)=!zmE v:=by
 by_cases h1:v=[73]
 ·subst h1;decide +kernel
 by_cases h2:v=[78]
 ·subst h2;decide +kernel
 by_cases h3:v=[84]
 ·subst h3;decide +kernel
 unfold zmE zoH
 rw [beq_eq_false_iff_ne.2 h1,beq_eq_false_iff_ne.2 h2,beq_eq_false_iff_ne.2 h3]
 simp
theorem zyw(v:List UInt8):(cond (!(v == [78])) (!zfH v) false)=(!zmE v||([84] == v)):=by
 by_cases h1:v=[73]
 ·subst h1;decide +kernel
 by_cases h2:v=[78]
 ·subst h2;decide +kernel
 by_cases h3:v=[84]
 ·subst h3;decide +kernel
 unfold zmE zoH
 rw [beq_eq_false_iff_ne.2 h1,beq_eq_false_iff_ne.2 h2,beq_eq_false_iff_ne.2 h3,beq_eq_false_iff_ne.2 (Ne.symm h3)]
 simp
theorem zBw{α:Type}(l:List α)(p q:α→Bool):l.any (fun x=>p x||q x)=(l.any p||l.any q):=by
 induction l with
 |nil=>rfl
 |cons x l ih =>
  simp only [List.any_cons,ih]
  cases p x <;> cases q x <;> simp
theorem zrS{m:zd}(h:zxF m):zle m=some (zq6 m):=by
 have l7:∀x:zas,x∈m.Maps→zu (fun z=>zeC x z) 0=some (cond (!zik x.Locals) (.inr false) (.inl ())):=fun x hx=>by
  obtain ⟨⟨h1,h2⟩,h3,h4⟩:=h.all x hx
  have:=zjU (body:=fun z=>zeC x z) (bad:=fun v=>!zmE v) h1 (fun i v hv=>by
   show zeC x (i:Int)=_
   unfold zeC
   rw [zgj hv,zB,hv]
   simp only [Option.bind_some,cond_true]
   rw [ze8 (h2 v (List.mem_of_getElem? hv)),←zyr]
   cases (!(v == [84])&&!(v == [78])) <;> rfl) (by show zeC x (x.Locals.length:Int)=_;unfold zeC;rw [zgY];rfl)
  rw [this]
  unfold zik
  rw [Bool.not_not]
 have l9:∀x:zas,x∈m.Maps→zu (fun z=>zeo x z) 0=some (cond (!zik x.Stack||x.Stack.any (fun y=>[84] == y)) (.inr false) (.inl ())):=fun x hx=>by
  obtain ⟨⟨h1,h2⟩,h3,h4⟩:=h.all x hx
  have:=zjU (body:=fun z=>zeo x z) (bad:=fun v=>!zmE v||([84] == v)) h3 (fun i v hv=>by
   show zeo x (i:Int)=_
   unfold zeo
   rw [zgj hv,zB,hv]
   simp only [Option.bind_some,cond_true]
   rw [ze8 (h4 v (List.mem_of_getElem? hv)),←zyw]
   cases (!(v == [78])) <;> rfl) (by show zeo x (x.Stack.length:Int)=_;unfold zeo;rw [zgY];rfl)
  rw [this,zBw]
  unfold zik
  rw [Bool.not_not]
 have j6:∀(i:Nat) (x:zas) (b:Bool),x∈m.Maps→zcr (i:Int) x b=cond (b||((!zik x.Locals||!zik x.Stack)||x.Stack.any (fun y=>[84] == y))) (some (.inr (.inr false))) (some (.inl (IntKind.i64.wrap ((i:Int)+1)))):=fun i x b hx=>by
  unfold zcr
  rw [l7 x hx]
  cases b with
  |true=>rfl
  |false =>
   cases zik x.Locals with
   |false=>rfl
   |true =>
    show zih (i:Int) x=_
    unfold zih
    rw [l9 x hx]
    cases zik x.Stack with
    |false=>rfl
    |true=>cases x.Stack.any (fun y=>[84] == y) <;> rfl
 have hl:zu (fun z=>zey m z) 0=_:=zl3 (bad:=zzE m) h.len (fun i x hx=>by
  have hm:=List.mem_of_getElem? hx
  have hi:=(List.getElem?_eq_some_iff.1 hx).1
  have hlen:=h.len
  have hcode:=h.code
  unfold zj5 at hlen hcode
  show zey m (i:Int)=_
  unfold zey zzE
  rw [zgj hx,zB,hx]
  simp only [Option.bind_some,cond_true]
  by_cases h1:x.At<0
  ·rw [decide_eq_true h1,decide_eq_false (show ¬0≤x.At by omega)]
   exact j6 i x true hm
  rw [decide_eq_false h1,decide_eq_true (show 0≤x.At by omega)]
  by_cases h2:(m.Code.length:Int)≤x.At
  ·rw [decide_eq_true h2,decide_eq_false (show ¬x.At<(m.Code.length:Int) by omega)]
   exact j6 i x true hm
  rw [decide_eq_false h2,decide_eq_true (show x.At<(m.Code.length:Int) by omega)]
  rcases Nat.eq_zero_or_pos i with h0 |h0
  ·subst h0
   show cond (!((x.Locals.length:Int) == m.Locals)) (zcr ((0:Nat):Int) x true) (zcr ((0:Nat):Int) x (decide (m.Stack<(x.Stack.length:Int))))=_
   cases (!((x.Locals.length:Int) == m.Locals)) with
   |true=>exact j6 0 x true hm
   |false=>exact j6 0 x _ hm
  ·rw [decide_eq_true (show (0:Int)<(i:Int) by omega),zr3 hi h0]
   have e:IntKind.i64.wrap ((i:Int)-1)=((i-1:Nat):Int):=by
    rw [zkZ (by omega) (by omega)];omega
   rw [e,zB,List.getElem?_eq_getElem (show i-1<m.Maps.length by omega)]
   simp only [cond_true,cond_false,Option.bind_some,Option.elim_some]
   cases decide (x.At≤m.Maps[i-1].At) with
   |true=>exact j6 i x true hm
   |false =>
    cases (!((x.Locals.length:Int) == m.Locals)) with
    |true=>exact j6 i x true hm
    |false=>exact j6 i x _ hm) (by show zey m (m.Maps.length:Int)=_;unfold zey;rw [zgY];rfl)
 unfold zle zq6
 rw [hl]
 by_cases hn:(m.Maps.length:Int)≤100
 ·rw [decide_eq_true hn,decide_eq_false (show ¬100<(m.Maps.length:Int) by omega)]
  cases gB (zzE m) [] m.Maps <;> rfl
 ·rw [decide_eq_false hn,decide_eq_true (show 100<(m.Maps.length:Int) by omega),Bool.and_false]
  rfl
structure zzD(m:zd):Prop where
 code:zj5 m.Code∧∀x∈m.Code,Len x.C∧Len x.M
 traps:zj5 m.Traps∧∀x∈m.Traps,Len x.C
theorem zr5{m:zd}(h:zzD m):zlu m=some (instrN m.Code&&zmV m):=by
 have hcl:=h.code.1
 unfold zj5 at hcl
 have lc:zu (fun z=>ze3 m z) 0=some (cond (m.Code.any (zAv (m.Code.length:Int))) (.inr false) (.inl ())):=
  zjU h.code.1 (fun i x hx=>by
   have hm:=h.code.2 x (List.mem_of_getElem? hx)
   show ze3 m (i:Int)=_
   unfold ze3
   rw [zgj hx,zB,hx]
   simp only [Option.bind_some,cond_true]
   rw [zpU hm.1 hm.2]
   rfl) (by show ze3 m (m.Code.length:Int)=_;unfold ze3;rw [zgY];rfl)
 have lt:zu (fun z=>ze6 m z) 0=some (cond (m.Traps.any (zpY (m.Code.length:Int))) (.inr false) (.inl ())):=
  zjU h.traps.1 (fun i x hx=>by
   have hm:=h.traps.2 x (List.mem_of_getElem? hx)
   show ze6 m (i:Int)=_
   unfold ze6
   rw [zgj hx,zB,hx]
   simp only [Option.bind_some,cond_true]
   rw [zgk hm]
   have hb:(!(zn x.At 0 (IntKind.i64.wrap ((m.Code.length:Int)-1))))=(decide (x.At<0)||decide ((m.Code.length:Int)≤x.At)):=by
    show (!(decide (0≤x.At)&&decide (x.At≤IntKind.i64.wrap ((m.Code.length:Int)-1))))=_
    rw [zkZ (by omega) (by omega)]
    by_cases h1:x.At<0
    ·rw [decide_eq_true h1,decide_eq_false (show ¬0≤x.At by omega)];rfl
    ·rw [decide_eq_false h1,decide_eq_true (show 0≤x.At by omega)]
     by_cases h2:(m.Code.length:Int)≤x.At
     ·rw [decide_eq_true h2,decide_eq_false (show ¬x.At≤(m.Code.length:Int)-1 by omega)];rfl
     ·rw [decide_eq_false h2,decide_eq_true (show x.At≤(m.Code.length:Int)-1 by omega)];rfl
   unfold zpY
   rw [hb]
   cases decide (x.From<0) <;> cases decide (x.To≤x.From) <;> cases decide ((m.Code.length:Int)<x.To) <;> cases decide (x.At<0) <;> cases decide ((m.Code.length:Int)≤x.At) <;> cases (x.C == []) <;> rfl) (by show ze6 m (m.Traps.length:Int)=_;unfold ze6;rw [zgY];rfl)
 have hn:decide (6<(m.Traps.length:Int))=!decide ((m.Traps.length:Int)≤6):=by
  by_cases h6:(m.Traps.length:Int)≤6
  ·rw [decide_eq_true h6,decide_eq_false (show ¬6<(m.Traps.length:Int) by omega)];rfl
  ·rw [decide_eq_false h6,decide_eq_true (show 6<(m.Traps.length:Int) by omega)];rfl
 have k2:zhj m=some (!m.Traps.any (zpY (m.Code.length:Int))):=by
  unfold zhj
  rw [lt]
  cases m.Traps.any (zpY (m.Code.length:Int)) <;> rfl
 unfold zlu zmV instrN
 rw [lc,hn]
 by_cases h1:(m.Code.length:Int)<1
 ·rw [decide_eq_true h1,show zn (m.Code.length:Int) 1 100=false from by show (decide (1≤(m.Code.length:Int))&&_)=false;rw [decide_eq_false (show ¬1≤(m.Code.length:Int) by omega)];rfl]
  rfl
 by_cases h2:100<(m.Code.length:Int)
 ·rw [decide_eq_true h2,show zn (m.Code.length:Int) 1 100=false from by show (decide (1≤(m.Code.length:Int))&&decide ((m.Code.length:Int)≤100))=false;rw [decide_eq_false (show ¬(m.Code.length:Int)≤100 by omega),Bool.and_false],Bool.or_true]
  rfl
 rw [decide_eq_false h1,decide_eq_false h2,show zn (m.Code.length:Int) 1 100=true from by show (decide (1≤(m.Code.length:Int))&&decide ((m.Code.length:Int)≤100))=true;rw [decide_eq_true (show 1≤(m.Code.length:Int) by omega),decide_eq_true (show (m.Code.length:Int)≤100 by omega)];rfl]
 have e:IntKind.i64.wrap ((m.Code.length:Int)-1)=((m.Code.length-1:Nat):Int):=by
  rw [zkZ (by omega) (by omega)];omega
 rw [e,zB,←List.getLast?_eq_getElem?]
 cases hg:m.Code.getLast? with
 |none =>
  rw [List.getLast?_eq_none_iff] at hg
  rw [hg] at h1
  simp at h1
 |some y =>
  simp only [Option.bind_some,Option.elim_some]
  rw [show zhQ y.Op=ziy y.Op from rfl]
  cases ziy y.Op with
  |false=>rfl
  |true =>
   cases decide ((m.Traps.length:Int)≤6) with
   |false =>
    cases m.Code.any (zAv (m.Code.length:Int)) <;> cases m.Traps.any (zpY (m.Code.length:Int)) <;> rfl
   |true =>
    cases m.Code.any (zAv (m.Code.length:Int)) with
    |true=>rfl
    |false =>
     show zhj m=_
     rw [k2]
     cases m.Traps.any (zpY (m.Code.length:Int)) <;> rfl
structure GIn(m:zd):Prop where
 name:Len m.Name
 params:m.Params.length≤1000000000000∧∀s∈m.Params,Len s
 ret:Len m.Ret
 maps:zxF m
 body:zzD m
 small:m.Code.length≤1000000000000∧m.Maps.length≤1000000000000∧m.Traps.length≤1000000000000
def zfI(m:zd):Bool:=
 ((!((!zo1 m.Name)||decide (6<(m.Params.length:Int)))&&zr8 m.Params)&&zsS m.Ret)&&cond m.Abstract (zgg m)
  (!((m.Name == [36,105,110,105,116])&&(((!m.Static)||decide (0<(m.Params.length:Int)))||(!(m.Ret == [86]))))&&(zn m.Locals (z8 m) 16&&(zn m.Stack 0 16&&((instrN m.Code&&zmV m)&&zq6 m))))
theorem zCz{m:zd}(h:GIn m):zj5 m.Params:=by have:=h.params.1;unfold zj5;omega
theorem zos{m:zd}(h:GIn m):zim m=some (zfI m):=by
 unfold zim zfI
 rw [zlf h.name,Option.bind_some,zpP (zCz h) h.params.2,ztA h.ret,zlJ h.body.code.1 h.body.code.2,zqU h.maps,zpX h.body.traps.1 h.body.traps.2]
 cases ((!zo1 m.Name)||decide (6<(m.Params.length:Int))) with
 |true=>rfl
 |false =>
  cases zr8 m.Params with
  |false=>rfl
  |true =>
   cases zsS m.Ret with
   |false=>rfl
   |true =>
    cases m.Abstract with
    |true=>rfl
    |false =>
     cases ((m.Name == [36,105,110,105,116])&&(((!m.Static)||decide (0<(m.Params.length:Int)))||(!(m.Ret == [86])))) with
     |true=>rfl
     |false =>
      cases zn m.Locals (z8 m) 16 with
      |false=>rfl
      |true =>
       cases zn m.Stack 0 16 with
       |false=>rfl
       |true=>cases instrN m.Code <;> cases zq6 m <;> cases zmV m <;> rfl
theorem ztw{s:List UInt8}(h:Len s):zna s=some (zsS s):=by
 unfold zna zsS
 rw [ze8 h]
 cases (s == [86]) <;> rfl
theorem zy1{m:zd}(h:GIn m):zgg m=(((((((!m.Static)&&(!(m.Name == [36,105,110,105,116])))&&(m.Locals == (0:Int)))&&(m.Stack == (0:Int)))&&((m.Code.length:Int) == (0:Int)))&&((m.Maps.length:Int) == (0:Int)))&&((m.Traps.length:Int) == (0:Int))):=by
 obtain ⟨h1,h2,h3⟩:=h.small
 have key:(((m.Code.length:Int)+(m.Maps.length:Int)+(m.Traps.length:Int)) == (0:Int))=((((m.Code.length:Int) == 0)&&((m.Maps.length:Int) == 0))&&((m.Traps.length:Int) == 0)):=by
  by_cases a:(m.Code.length:Int)=0
  ·by_cases b:(m.Maps.length:Int)=0
   ·rw [a,b,Int.zero_add,Int.zero_add];rfl
   ·rw [beq_eq_false_iff_ne.2 (show ((m.Code.length:Int)+m.Maps.length+m.Traps.length)≠0 by omega),beq_eq_false_iff_ne.2 b,Bool.and_false,Bool.false_and]
  ·rw [beq_eq_false_iff_ne.2 (show ((m.Code.length:Int)+m.Maps.length+m.Traps.length)≠0 by omega),beq_eq_false_iff_ne.2 a,Bool.false_and,Bool.false_and]
 unfold zgg
 rw [zkZ (n:=(m.Code.length:Int)+(m.Maps.length:Int)) (by omega) (by omega),zkZ (by omega) (by omega),key]
 simp only [Bool.and_assoc]
theorem zpM(x a b:Int):(decide (x<a)||decide (b<x))=!(zn x a b):=by
 show _=!(decide (a≤x)&&decide (x≤b))
 by_cases h1:x<a
 ·rw [decide_eq_true h1,decide_eq_false (show ¬a≤x by omega)];rfl
 ·rw [decide_eq_false h1,decide_eq_true (show a≤x by omega)]
  by_cases h2:b<x
  ·rw [decide_eq_true h2,decide_eq_false (show ¬x≤b by omega)];rfl
  ·rw [decide_eq_false h2,decide_eq_true (show x≤b by omega)];rfl
theorem znO{m:zd}(h:GIn m):zgJ m=some (zfI m):=by
 have lp:zu (fun z=>zcO m z) 0=some (cond (m.Params.any fun s=>!zfH s) (.inr false) (.inl ())):=
  zjU (zCz h) (fun i x hx=>by
   show zcO m (i:Int)=_
   unfold zcO
   rw [zgj hx,zB,hx]
   simp only [Option.bind_some,cond_true]
   rw [ze8 (h.params.2 x (List.mem_of_getElem? hx))]
   rfl) (by show zcO m (m.Params.length:Int)=_;unfold zcO;rw [zgY];rfl)
 have j3:∀a,zdr m a=some (zn m.Locals a 16&&(zn m.Stack 0 16&&((instrN m.Code&&zmV m)&&zq6 m))):=fun a=>by
  unfold zdr
  rw [zpM,Bool.or_assoc,zpM,zr5 h.body,zrS h.maps]
  cases zn m.Locals a 16 with
  |false=>rfl
  |true =>
   cases zn m.Stack 0 16 with
   |false=>rfl
   |true=>cases (instrN m.Code&&zmV m) <;> rfl
 have k2:zeP m=some (cond m.Abstract (zgg m)
  (!((m.Name == [36,105,110,105,116])&&(((!m.Static)||decide (0<(m.Params.length:Int)))||(!(m.Ret == [86]))))&&(zn m.Locals (z8 m) 16&&(zn m.Stack 0 16&&((instrN m.Code&&zmV m)&&zq6 m))))):=by
  unfold zeP z8
  rw [j3,j3,zy1 h]
  cases m.Abstract with
  |true=>rfl
  |false =>
   cases ((m.Name == [36,105,110,105,116])&&(((!m.Static)||decide (0<(m.Params.length:Int)))||(!(m.Ret == [86])))) with
   |true=>rfl
   |false=>cases m.Static <;> rfl
 unfold zgJ zfI zr8
 rw [zlb h.name,Option.bind_some,ztw h.ret,lp]
 cases ((!zo1 m.Name)||decide (6<(m.Params.length:Int))) with
 |true=>rfl
 |false =>
  cases zsS m.Ret with
  |false=>rw [Bool.and_false];rfl
  |true =>
   cases m.Params.any fun s=>!zfH s with
   |true=>rfl
   |false=>exact k2
theorem ztk{l:List zd}(hl:zj5 l)(h:∀m∈l,GIn m)(n:Int)(a b:List UInt8)(i:Bool)(c:List (List UInt8))(d:List zt)(e:List zd):
  zdY l n a b i c d e=cond (uB (fun m=>(m.Abstract == i)&&zfI m) (·.Name) [] l) (some false) (some (decide ((l.length:Int)≤n))):=by
 unfold zdY
 refine zoS (ok:=fun m=>(m.Abstract == i)&&zfI m) (nm:=(·.Name)) hl (fun j x hx=>?_) ?_
 ·have hm:=h x (List.mem_of_getElem? hx)
  have hi:=(List.getElem?_eq_some_iff.1 hx).1
  unfold zcT zkj
  rw [zgj hx,zB,hx]
  simp only [Option.bind_some,cond_true]
  rw [zos hm,znS (by omega)]
  simp only [Option.bind_some]
  rw [zx9 (by unfold zj5 at *;rw [List.length_take];omega)]
  cases (x.Abstract == i) with
  |false=>rfl
  |true=>cases zfI x <;> rfl
 ·unfold zcT
  rw [zgY];rfl
structure zzJ(c:zb):Prop where
 name:Len c.Name
 super:Len c.Super
 impl:zj5 c.Impl∧∀s∈c.Impl,Len s
 fields:zj5 c.Fields∧∀f∈c.Fields,Len f.Name∧Len f.Type_
 methods:zj5 c.Methods∧∀m∈c.Methods,GIn m
def zqx(c:zb):Bool:=
 !(c.Interface&&((!(c.Super == [79,98,106,101,99,116]))||decide (0<(c.Fields.length:Int)))) &&
 (((((zcx c.Name&&zcx c.Super)&&(!(uB zcx id [] c.Impl)&&decide ((c.Impl.length:Int)≤4)))&&(!(uB zmb (·.Name) [] c.Fields)&&decide ((c.Fields.length:Int)≤8)))) &&
  (!(uB (fun m=>(m.Abstract == c.Interface)&&zfI m) (·.Name) [] c.Methods)&&decide ((c.Methods.length:Int)≤8)))
theorem zrE{c:zb}(h:zzJ c):zlc c=some (zqx c):=by
 have e:∀(b d:Bool),cond b (some false) (some d)=some (!b&&d):=fun b d=>by cases b <;> rfl
 unfold zlc zqx
 rw [zwJ h.fields.1 h.fields.2,ztk h.methods.1 h.methods.2,zgm h.name,zgm h.super,zyo h.impl.1 h.impl.2,e,e,e]
 cases (c.Interface&&((!(c.Super == [79,98,106,101,99,116]))||decide (0<(c.Fields.length:Int)))) with
 |true=>rfl
 |false =>
  cases zcx c.Name with
  |false=>rfl
  |true=>cases zcx c.Super <;> rfl
theorem zrp{α:Type}(p:α→Bool):∀(l:List α) (k i:Nat) (x:α),l[i]?=some x→p x=true→(ixF p k l == ((k+i:Nat):Int))=!((l.take i).any p)
 | [],k,i,x,h,_=>by simp at h
 |y ::r,k,0,x,h,hp=>by
  have:y=x:=by simpa using h
  subst this
  show (cond (p y) (k:Int) (ixF p (k+1) r) == (k:Int))=true
  rw [hp]
  exact beq_self_eq_true _
 |y ::r,k,i+1,x,h,hp=>by
  have h':r[i]?=some x:=by simpa using h
  show (cond (p y) (k:Int) (ixF p (k+1) r) == ((k+(i+1):Nat):Int))=!(p y||(r.take i).any p)
  cases p y with
  |true=>exact beq_eq_false_iff_ne.2 (show (k:Int)≠((k+(i+1):Nat):Int) by omega)
  |false =>
   have:=zrp p r (k+1) i x h' hp
   rw [show k+1+i=k+(i+1) by omega] at this
   exact this
theorem zmZ{c:zb}(hl:zj5 c.Fields)(n:List UInt8):ziN c n=some (ixF (fun y=>y.Name == n) 0 c.Fields):=by
 unfold ziN
 rw [show ((zu (fun z=>zgr c n z) 0).bind fun o=>zU o (fun b=>ziE) some)=_ from zcv (p:=fun y:zt=>y.Name == n) hl
  (fun i x hx=>by unfold zgr;rw [zgj hx,zB,hx];rfl) (by unfold zgr;rw [zgY];rfl)]
theorem zju{c:zb}(hl:zj5 c.Methods)(n:List UInt8):zg6 c n=some (ixF (fun y=>y.Name == n) 0 c.Methods):=by
 unfold zg6
 rw [show ((zu (fun z=>zfy c n z) 0).bind fun o=>zU o (fun b=>zic) some)=_ from zcv (p:=fun y:zd=>y.Name == n) hl
  (fun i x hx=>by unfold zfy;rw [zgj hx,zB,hx];rfl) (by unfold zfy;rw [zgY];rfl)]
theorem zBA(x y:List UInt8):(x == y)=(y == x):=by
 by_cases h:x=y
 ·rw [h]
 ·rw [beq_eq_false_iff_ne.2 h,beq_eq_false_iff_ne.2 (Ne.symm h)]
theorem ztj{α:Type}(l:List α)(f:α→List UInt8)(n:List UInt8):(l.any fun y=>f y == n)=l.any fun y=>n == f y:=by
 congr 1
 funext y
 exact zBA _ _
theorem zow{c:zb}(h:zzJ c):zhx c=some (zqx c):=by
 have himp:=h.impl.1
 unfold zj5 at himp
 have lf:zu (fun z=>zda c z) 0=some (cond (uB zmb (·.Name) [] c.Fields) (.inr false) (.inl ())):=by
  rw [zzg]
  refine zl3 h.fields.1 (fun i x hx=>?_) (by show zda c (c.Fields.length:Int)=_;unfold zda;rw [zgY];rfl)
  have hm:=h.fields.2 x (List.mem_of_getElem? hx)
  have hfi:=zrp (fun y:zt=>y.Name == x.Name) c.Fields 0 i x hx (beq_self_eq_true _)
  rw [Nat.zero_add,ztj] at hfi
  show zda c (i:Int)=_
  unfold zda zmb
  rw [zgj hx,zB,hx]
  simp only [Option.bind_some,cond_true]
  rw [zlb hm.1,ze8 hm.2,zmZ h.fields.1]
  simp only [Option.bind_some]
  rw [hfi]
  cases zo1 x.Name with
  |false=>rfl
  |true =>
   cases (x.Name == [36,105,110,105,116]) with
   |true=>rfl
   |false =>
    cases zfH x.Type_ with
    |false=>rfl
    |true=>cases (c.Fields.take i).any fun y=>x.Name == y.Name <;> rfl
 have lm:zu (fun z=>zc9 c z) 0=some (cond (uB (fun m=>(m.Abstract == c.Interface)&&zfI m) (·.Name) [] c.Methods) (.inr false) (.inl ())):=by
  rw [zzg]
  refine zl3 h.methods.1 (fun i x hx=>?_) (by show zc9 c (c.Methods.length:Int)=_;unfold zc9;rw [zgY];rfl)
  have hm:=h.methods.2 x (List.mem_of_getElem? hx)
  have hfi:=zrp (fun y:zd=>y.Name == x.Name) c.Methods 0 i x hx (beq_self_eq_true _)
  rw [Nat.zero_add,ztj] at hfi
  show zc9 c (i:Int)=_
  unfold zc9
  rw [zgj hx,zB,hx]
  simp only [Option.bind_some,cond_true]
  rw [znO hm,zju h.methods.1]
  simp only [Option.bind_some]
  rw [hfi]
  cases (x.Abstract == c.Interface) with
  |false=>rfl
  |true =>
   cases zfI x with
   |false=>cases (c.Methods.take i).any fun y=>x.Name == y.Name <;> rfl
   |true=>cases (c.Methods.take i).any fun y=>x.Name == y.Name <;> rfl
 have li:zu (fun z=>zde c z) 0=some (cond (uB zcx id [] c.Impl) (.inr false) (.inl ())):=by
  rw [zzg]
  refine zl3 h.impl.1 (fun i x hx=>?_) (by show zde c (c.Impl.length:Int)=_;unfold zde;rw [zgY];rfl)
  have hm:=h.impl.2 x (List.mem_of_getElem? hx)
  have hi:=(List.getElem?_eq_some_iff.1 hx).1
  have hin:zu (fun z=>zdd c (i:Int) z) 0=some (cond ((c.Impl.take i).any fun y=>y == x) (.inr false) (.inl ())):=by
   have ht:(c.Impl.take i).length=i:=by rw [List.length_take];omega
   refine zjU (by omega) (fun j y hy=>?_) ?_
   ·have hj:=(List.getElem?_eq_some_iff.1 hy).1
    rw [ht] at hj
    rw [List.getElem?_take_of_lt hj] at hy
    show zdd c (i:Int) (j:Int)=_
    unfold zdd
    rw [decide_eq_true (show (j:Int)<(i:Int) by omega),zB,hy,zB,hx]
    rfl
   ·rw [ht]
    show zdd c (i:Int) (i:Int)=_
    unfold zdd
    rw [decide_eq_false (show ¬(i:Int)<(i:Int) by omega)];rfl
  show zde c (i:Int)=_
  unfold zde
  rw [zgj hx,zB,hx]
  simp only [Option.bind_some,cond_true]
  rw [zgk hm,hin,show ((c.Impl.take i).any fun y=>y == x)=(c.Impl.take i).any fun y=>id x == id y from ztj _ id x]
  cases zcx x with
  |false=>rfl
  |true=>cases (c.Impl.take i).any fun y=>id x == id y <;> rfl
 have hle:∀(n:Nat) (b:Int),decide (b<(n:Int))=!decide ((n:Int)≤b):=fun n b=>by
  by_cases hb:(n:Int)≤b
  ·rw [decide_eq_true hb,decide_eq_false (show ¬b<(n:Int) by omega)];rfl
  ·rw [decide_eq_false hb,decide_eq_true (show b<(n:Int) by omega)];rfl
 unfold zhx zgW zg0 zqx
 rw [zgk h.name,zgk h.super,li,lf,lm,hle c.Impl.length 4,hle c.Fields.length 8,hle c.Methods.length 8]
 generalize (c.Interface&&((!(c.Super == [79,98,106,101,99,116]))||decide (0<(c.Fields.length:Int))))=B
 generalize uB zcx id [] c.Impl=u1
 generalize uB zmb (·.Name) [] c.Fields=u2
 generalize uB (fun m=>(m.Abstract == c.Interface)&&zfI m) (·.Name) [] c.Methods=u3
 generalize decide ((c.Impl.length:Int)≤4)=d1
 generalize decide ((c.Fields.length:Int)≤8)=d2
 generalize decide ((c.Methods.length:Int)≤8)=d3
 cases zcx c.Name with
 |false=>cases B <;> rfl
 |true =>
  cases zcx c.Super with
  |false=>cases B <;> rfl
  |true=>cases B <;> cases u1 <;> cases u2 <;> cases u3 <;> cases d1 <;> cases d2 <;> cases d3 <;> rfl
abbrev Tx:=List UInt8
def cl(L:List zb)(n:Tx):Option zb:=L.find? (fun c=>c.Name == n)
def atN(L:List zb)(n:Tx):Int:=ixF (fun c=>c.Name == n) 0 L
def zc7(L:List zb)(n:Tx):Bool:=L.any (fun c=>c.Name == n)
def isF(L:List zb)(n:Tx):Bool:=match cl L n with |some c=>c.Interface |none=>false
theorem zoX{α:Type}(p:α→Bool):∀(l:List α) (k:Nat),(∃j x,ixF p k l=((k+j:Nat):Int)∧l[j]?=some x∧p x=true∧l.find? p=some x)∨(ixF p k l=-1∧l.find? p=none)
 | [],k=>.inr ⟨rfl,rfl⟩
 |y ::r,k=>by
  unfold ixF
  cases h:p y with
  |true=>exact .inl ⟨0,y,rfl,rfl,h,by simp [List.find?,h]⟩
  |false =>
   rcases zoX p r (k+1) with ⟨j,x,h1,h2,h3,h4⟩ |⟨h1,h2⟩
   ·exact .inl ⟨j+1,x,by show ixF p (k+1) r=_;rw [h1];congr 1;omega,by simpa using h2,h3,by simp [List.find?,h,h4]⟩
   ·exact .inr ⟨h1,by simp [List.find?,h,h2]⟩
theorem zqj{α:Type}(p:α→Bool):∀(l r:List α) (k:Nat),ixF p k (l++r)=cond (l.any p) (ixF p k l) (ixF p (k+l.length) r)
 | [],r,k=>rfl
 |y ::l,r,k=>by
  show ixF p k (y ::(l++r))=_
  rw [show ixF p k (y ::(l++r))=cond (p y) (k:Int) (ixF p (k+1) (l++r)) from rfl,show ixF p k (y ::l)=cond (p y) (k:Int) (ixF p (k+1) l) from rfl,List.any_cons]
  cases h:p y with
  |true=>rfl
  |false =>
   rw [Bool.false_or,cond_false,cond_false,zqj p l r (k+1),show k+1+l.length=k+(y ::l).length by simp;omega]
theorem zo2(L:List zb)(n:Tx):decide (0≤atN L n)=zc7 L n:=zg3 _ 0 L
theorem zoj(L:List zb)(n:Tx):decide (atN L n<0)=!zc7 L n:=by
 rw [←zo2]
 by_cases h:0≤atN L n
 ·rw [decide_eq_true h,decide_eq_false (by omega)];rfl
 ·rw [decide_eq_false h,decide_eq_true (by omega)];rfl
theorem zmW(L:List zb)(n:Tx):idx L (atN L n)=cl L n:=by
 unfold atN cl
 rcases zoX (fun c:zb=>c.Name == n) L 0 with ⟨j,x,h1,h2,h3,h4⟩ |⟨h1,h2⟩
 ·rw [h1,h4,zB,Nat.zero_add,h2]
 ·rw [h1,h2];rfl
theorem zv4(L:List zb)(n:Tx):(cl L n).isSome=zc7 L n:=by
 unfold cl zc7
 rw [Bool.eq_iff_iff,List.any_eq_true]
 exact List.find?_isSome
theorem zcU{L:List zb}{n:Tx}{c:zb}(h:cl L n=some c):c∈L∧c.Name=n:=by
 unfold cl at h
 exact ⟨List.mem_of_find?_eq_some h,eq_of_beq (List.find?_some (p:=fun c:zb=>c.Name == n) h)⟩
theorem zgz{L:List zb}{n:Tx}(h:zc7 L n=true):∃c,cl L n=some c:=by
 rw [←zv4] at h
 exact Option.isSome_iff_exists.1 h
theorem zhl{L:List zb}{n:Tx}{c:zb}(h:cl L n=some c):zc7 L n=true:=by rw [←zv4,h];rfl
theorem zmG{L:List zb}{n:Tx}(h:cl L n=none):zc7 L n=false:=by rw [←zv4,h];rfl
theorem ziu{L:List zb}{n:Tx}:zc7 L n=true↔n∈L.map (·.Name):=by
 unfold zc7
 rw [List.any_eq_true,List.mem_map]
 constructor
 ·rintro ⟨c,h1,h2⟩;exact ⟨c,h1,eq_of_beq h2⟩
 ·rintro ⟨c,h1,h2⟩;exact ⟨c,h1,beq_iff_eq.2 h2⟩
def Nd(L:List zb):Prop:=∀(i j:Nat) (c d:zb),L[i]?=some c→L[j]?=some d→c.Name=d.Name→i=j
theorem Nd.at{L:List zb}(h:Nd L){i:Nat}{c:zb}(hi:L[i]?=some c):atN L c.Name=(i:Int):=by
 unfold atN
 rcases zoX (fun d:zb=>d.Name == c.Name) L 0 with ⟨j,x,h1,h2,h3,h4⟩ |⟨h1,h2⟩
 ·rw [h1,Nat.zero_add,h j i x c h2 hi (eq_of_beq h3)]
 ·have:=List.find?_eq_none.1 h2 c (List.mem_of_getElem? hi)
  simp at this
theorem Nd.cl{L:List zb}(h:Nd L){c:zb}(hc:c∈L):cl L c.Name=some c:=by
 obtain ⟨i,hi,e⟩:=List.getElem_of_mem hc
 have hi':L[i]?=some c:=by rw [List.getElem?_eq_getElem hi,e]
 rw [←zmW,h.at hi',zB,hi']
theorem Nd.snoc{L:List zb}(h:Nd L){c:zb}(hc:zc7 L c.Name=false):Nd (L++[c]):=by
 have no:∀(i:Nat) d,L[i]?=some d→d.Name≠c.Name:=fun i d hi e=>by
  have:zc7 L c.Name=true:=ziu.2 (List.mem_map.2 ⟨d,List.mem_of_getElem? hi,e⟩)
  rw [hc] at this;cases this
 have get:∀(i:Nat) d,(L++[c])[i]?=some d→(L[i]?=some d)∨(i=L.length∧d=c):=fun i d hi=>by
  rw [List.getElem?_append] at hi
  split at hi
  ·exact .inl hi
  ·rename_i hlt
   right
   have h1:=(List.getElem?_eq_some_iff.1 hi).1
   simp at h1
   have h2:i=L.length:=by omega
   subst h2
   simp at hi
   exact ⟨rfl,hi.symm⟩
 intro i j d e hi hj hn
 rcases get i d hi with h1 |⟨h1,h1'⟩ <;> rcases get j e hj with h2 |⟨h2,h2'⟩
 ·exact h i j d e h1 h2 hn
 ·subst h2';exact absurd hn (no i d h1)
 ·subst h1';exact absurd hn.symm (no j e h2)
 ·rw [h1,h2]
theorem zy8(L:List zb)(c:zb)(n:Tx):zc7 (L++[c]) n=(zc7 L n||(c.Name == n)):=by
 unfold zc7;simp
theorem zqq{α:Type}(k k':Tx)(x:α):∀(m:List (Tx×α)),zcC k (zgG k' x m)=if k=k' then some x else zcC k m
 | []=>by
  unfold zgG zcC zcC
  by_cases h:k=k'
  ·rw [if_pos h,decide_eq_true h];rfl
  ·rw [if_neg h,decide_eq_false h];rfl
 |(a,y)::r=>by
  unfold zgG
  by_cases h':k'=a
  ·subst h'
   rw [decide_eq_true rfl]
   show zcC k ((k',x)::r)=_
   unfold zcC
   by_cases h:k=k'
   ·rw [if_pos h,decide_eq_true h];rfl
   ·rw [if_neg h,decide_eq_false h];rfl
  ·rw [decide_eq_false h']
   show zcC k ((a,y)::zgG k' x r)=_
   unfold zcC
   rw [zqq k k' x r]
   by_cases h:k=k'
   ·subst h
    rw [if_pos rfl,decide_eq_false h',if_pos rfl];rfl
   ·rw [if_neg h,if_neg h]
def zdG(L:List zb)(m:List (Tx×Int)):Prop:=∀n,zcC n m=cond (zc7 L n) (some (atN L n)) none
theorem zdG.snoc{L:List zb}{m:List (Tx×Int)}(h:zdG L m){c:zb}(hc:zc7 L c.Name=false):zdG (L++[c]) (zgG c.Name (L.length:Int) m):=by
 intro n
 rw [zqq,zy8,h n]
 unfold atN
 rw [zqj]
 show _=cond _ (some (cond (zc7 L n) _ _)) none
 by_cases e:n=c.Name
 ·subst e
  rw [if_pos rfl,hc,beq_self_eq_true]
  simp [ixF]
 ·rw [if_neg e,beq_eq_false_iff_ne.2 (Ne.symm e)]
  cases zc7 L n <;> rfl
theorem zdG.has{L:List zb}{m:List (Tx×Int)}(h:zdG L m)(n:Tx):(zcC n m).isSome=zc7 L n:=by
 rw [h n];cases zc7 L n <;> rfl
theorem zdG.idx{L:List zb}{m:List (Tx×Int)}(h:zdG L m){n:Tx}(hn:zc7 L n=true):idx L ((zcC n m).getD 0)=cl L n:=by
 rw [h n,hn];exact zmW L n
inductive Rc(nx:Tx→List Tx):Tx→Tx→Prop
 |one {a b}:b∈nx a→Rc nx a b
 |more {a b c}:b∈nx a→Rc nx b c→Rc nx a c
theorem Rc.snoc{nx:Tx→List Tx}{a b c:Tx}(h:Rc nx a b)(hc:c∈nx b):Rc nx a c:=by
 induction h with
 |one h=>exact .more h (.one hc)
 |more h _ ih=>exact .more h (ih hc)
theorem Rc.into{nx:Tx→List Tx}{F:Tx→Prop}(hF:∀x,F x→∀y∈nx x,F y){a b:Tx}(h:Rc nx a b):(∀y∈nx a,F y)→F b:=by
 induction h with
 |one h=>exact fun ha=>ha _ h
 |more h _ ih=>exact fun ha=>ih (hF _ (ha _ h))
theorem zwa:∀{a b:List Tx},a.Nodup→(∀x∈a,x∈b)→a.length≤b.length
 | [],b,_,_=>by simp
 |x ::r,b,h,hs=>by
  rw [List.nodup_cons] at h
  have hx:=hs x (by simp)
  have h1:=zwa (a:=r) (b:=b.erase x) h.2 (fun y hy=>(List.mem_erase_of_ne (fun e=>h.1 (by rw [←e];exact hy))).2 (hs y (by simp [hy])))
  have h2:=List.length_erase_of_mem hx
  have h3:=List.length_pos_of_mem hx
  simp only [List.length_cons]
  omega
def push(zad:List Tx):List Tx→List Tx
 | []=>zad
 |s ::r=>push (cond (zad.any fun y=>s == y) zad (zad++[s])) r
theorem zxm{s:Tx}{l:List Tx}:(l.any fun y=>s == y)=true↔s∈l:=by
 rw [List.any_eq_true]
 constructor
 ·rintro ⟨y,h1,h2⟩;rw [eq_of_beq h2];exact h1
 ·intro h;exact ⟨s,h,beq_self_eq_true _⟩
theorem ziD:∀(l zad:List Tx),∃t,push zad l=zad++t∧t.Nodup∧(∀x∈t,x ∉ zad∧x∈l)∧∀x∈l,x∈zad++t
 | [],zad=>⟨[],by simp [push],by simp,fun x h=>(by cases h),fun x h=>(by cases h)⟩
 |s ::r,zad=>by
  unfold push
  cases h:(zad.any fun y=>s == y) with
  |true =>
   obtain ⟨t,h1,h2,h3,h4⟩:=ziD r zad
   refine ⟨t,h1,h2,fun x hx=>⟨(h3 x hx).1,List.mem_cons_of_mem _ (h3 x hx).2⟩,fun x hx=>?_⟩
   rcases List.mem_cons.1 hx with e |e
   ·rw [e];exact List.mem_append_left _ (zxm.1 h)
   ·exact h4 x e
  |false =>
   have hs:s ∉ zad:=fun hm=>by rw [zxm.2 hm] at h;cases h
   obtain ⟨t,h1,h2,h3,h4⟩:=ziD r (zad++[s])
   refine ⟨s ::t,by show push (zad++[s]) r=_;rw [h1];simp,List.nodup_cons.2 ⟨fun hm=>(h3 s hm).1 (by simp),h2⟩,fun x hx=>?_,fun x hx=>?_⟩
   ·rcases List.mem_cons.1 hx with e |e
    ·rw [e];exact ⟨hs,by simp⟩
    ·exact ⟨fun hm=>(h3 x e).1 (List.mem_append_left _ hm),List.mem_cons_of_mem _ (h3 x e).2⟩
   ·rcases List.mem_cons.1 hx with e |e
    ·rw [e];simp
    ·have:=h4 x e
     simpa using this
def bfs(nx:Tx→List Tx):Nat→Nat→List Tx→List Tx
 | 0,_,zad=>zad
 |d+1,i,zad=>match zad[i]? with |none=>zad |some x=>bfs nx d (i+1) (push zad (nx x))
def fin(nx:Tx→List Tx):Nat→Nat→List Tx→Bool
 | 0,i,zad=>decide (zad.length≤i)
 |d+1,i,zad=>match zad[i]? with |none=>true |some x=>fin nx d (i+1) (push zad (nx x))
def Inv(U s0 zad:List Tx):Prop:=∃T,zad=s0++T∧T.Nodup∧(∀x∈T,x∈U) 
theorem Inv.push{U s0 zad l:List Tx}(h:Inv U s0 zad)(hU:∀y∈l,y∈U):Inv U s0 (push zad l):=by
 obtain ⟨T,h1,h2,h3⟩:=h
 obtain ⟨t,k1,k2,k3,k4⟩:=ziD l zad
 refine ⟨T++t,by rw [k1,h1];simp,List.nodup_append.2 ⟨h2,k2,fun a ha b hb e=>(k3 b hb).1 (by rw [h1,←e];exact List.mem_append_right _ ha)⟩,fun x hx=>?_⟩
 rcases List.mem_append.1 hx with e |e
 ·exact h3 x e
 ·exact hU x (k3 x e).2
theorem Inv.len{U s0 zad:List Tx}(h:Inv U s0 zad):zad.length≤s0.length+U.length:=by
 obtain ⟨T,h1,h2,h3⟩:=h
 have:=zwa h2 h3
 rw [h1,List.length_append];omega
theorem Inv.mem{U s0 zad:List Tx}(h:Inv U s0 zad)(h0:∀x∈s0,x∈U):∀x∈zad,x∈U:=by
 obtain ⟨T,h1,h2,h3⟩:=h
 intro x hx
 rw [h1] at hx
 rcases List.mem_append.1 hx with e |e
 ·exact h0 x e
 ·exact h3 x e
theorem Inv.start{U s0:List Tx}:Inv U s0 s0:=⟨[],by simp,by simp,fun x h=>(by cases h)⟩
theorem zxc{nx:Tx→List Tx}{U s0:List Tx}(hU:∀x y,y∈nx x→y∈U):∀(d i:Nat) (zad:List Tx),Inv U s0 zad→s0.length+U.length≤d+i→fin nx d i zad=true
 | 0,i,zad,h,hd=>by
  have:=h.len
  exact decide_eq_true (by omega)
 |d+1,i,zad,h,hd=>by
  unfold fin
  cases zad[i]? with
  |none=>rfl
  |some x=>exact zxc hU d (i+1) _ (h.push (hU x)) (by omega)
theorem zmU{nx:Tx→List Tx}:∀(d i:Nat) (zad:List Tx),∃t,bfs nx d i zad=zad++t
 | 0,i,zad=>⟨[],by simp [bfs]⟩
 |d+1,i,zad=>by
  unfold bfs
  cases zad[i]? with
  |none=>exact ⟨[],by simp⟩
  |some x =>
   obtain ⟨t,h⟩:=zmU (nx:=nx) d (i+1) (push zad (nx x))
   obtain ⟨u,k,_⟩:=ziD (nx x) zad
   exact ⟨u++t,by show bfs nx d (i+1) _=_;rw [h,k];simp⟩
theorem zwd{nx:Tx→List Tx}{U s0:List Tx}(hU:∀x y,y∈nx x→y∈U):∀(d i:Nat) (zad:List Tx),Inv U s0 zad→Inv U s0 (bfs nx d i zad)
 | 0,i,zad,h=>h
 |d+1,i,zad,h=>by
  unfold bfs
  cases zad[i]? with
  |none=>exact h
  |some x=>exact zwd hU d (i+1) _ (h.push (hU x))
theorem zpq{nx:Tx→List Tx}{Q:Tx→Prop}(hQ:∀x,Q x→∀y∈nx x,Q y):∀(d i:Nat) (zad:List Tx),(∀x∈zad,Q x)→∀x∈bfs nx d i zad,Q x
 | 0,i,zad,h=>h
 |d+1,i,zad,h=>by
  unfold bfs
  cases hi:zad[i]? with
  |none=>exact h
  |some x =>
   refine zpq hQ d (i+1) _ fun y hy=>?_
   obtain ⟨u,k1,_,k3,_⟩:=ziD (nx x) zad
   rw [k1] at hy
   rcases List.mem_append.1 hy with e |e
   ·exact h y e
   ·exact hQ x (h x (List.mem_of_getElem? hi)) y (k3 y e).2
theorem znH{nx:Tx→List Tx}:∀(d i:Nat) (zad:List Tx),fin nx d i zad=true→(∀j x,j<i→zad[j]?=some x→∀y∈nx x,y∈zad)→∀x∈bfs nx d i zad,∀y∈nx x,y∈bfs nx d i zad
 | 0,i,zad,hf,h=>fun x hx y hy=>by
  have hl:zad.length≤i:=of_decide_eq_true hf
  obtain ⟨j,hj,e⟩:=List.getElem_of_mem (show x∈zad from hx)
  exact h j x (by omega) (by rw [List.getElem?_eq_getElem hj,e]) y hy
 |d+1,i,zad,hf,h=>by
  unfold fin at hf
  unfold bfs
  cases hi:zad[i]? with
  |none =>
   intro x hx y hy
   have hl:zad.length≤i:=List.getElem?_eq_none_iff.1 hi
   obtain ⟨j,hj,e⟩:=List.getElem_of_mem (show x∈zad from hx)
   exact h j x (by omega) (by rw [List.getElem?_eq_getElem hj,e]) y hy
  |some z =>
   rw [hi] at hf
   obtain ⟨u,k1,_,k3,k4⟩:=ziD (nx z) zad
   have hlt:i<zad.length:=(List.getElem?_eq_some_iff.1 hi).1
   refine znH d (i+1) _ hf fun j x hj hx y hy=>?_
   rw [k1] at hx ⊢
   rw [List.getElem?_append_left (by omega)] at hx
   by_cases e:j=i
   ·subst e
    rw [hi] at hx
    cases hx
    exact k4 y hy
   ·exact List.mem_append_left _ (h j x (by omega) hx y hy)
theorem zBm{nx:Tx→List Tx}{d:Nat}{a b:Tx}(hf:fin nx d 0 (nx a)=true):b∈bfs nx d 0 (nx a)↔Rc nx a b:=by
 constructor
 ·exact zpq (Q:=fun x=>Rc nx a x) (fun x hx y hy=>hx.snoc hy) d 0 _ (fun x hx=>.one hx) b
 ·intro h
  refine h.into (F:=fun x=>x∈bfs nx d 0 (nx a)) (znH d 0 _ hf (fun j x hj=>by omega)) fun y hy=>?_
  obtain ⟨t,e⟩:=zmU (nx:=nx) d 0 (nx a)
  rw [e];exact List.mem_append_left _ hy
theorem zsm{R:Type}{I:List Tx→Prop}{nx:Tx→List Tx}{stop:Tx→Option R}{body:List Tx×Int→Option (Sum (List Tx×Int) (Sum Unit R))}
  (hb:∀(i:Nat) zad x,I zad→zad[i]?=some x→body (zad,(i:Int))=match stop x with |some r=>some (.inr (.inr r)) |none=>some (.inl (push zad (nx x),((i+1:Nat):Int))))
  (he:∀(i:Nat) zad,I zad→zad.length≤i→body (zad,(i:Int))=some (.inr (.inl ())))
  (hp:∀zad x,I zad→x∈zad→I (push zad (nx x))):∀(d i:Nat) (zad:List Tx),I zad→fin nx d i zad=true →
  zu body (zad,(i:Int))=some (match ((bfs nx d i zad).drop i).findSome? stop with |some r=>(Sum.inr r:Sum Unit R) |none=>Sum.inl ())
 | 0,i,zad,hI,hf=>by
  have hl:zad.length≤i:=of_decide_eq_true hf
  rw [zL,he i zad hI hl]
  show _=some (match (zad.drop i).findSome? stop with |some r=>(Sum.inr r:Sum Unit R) |none=>Sum.inl ())
  rw [List.drop_eq_nil_of_le hl]
  rfl
 |d+1,i,zad,hI,hf=>by
  unfold fin at hf
  unfold bfs
  cases hi:zad[i]? with
  |none =>
   have hl:zad.length≤i:=List.getElem?_eq_none_iff.1 hi
   rw [zL,he i zad hI hl]
   show _=some (match (zad.drop i).findSome? stop with |some r=>(Sum.inr r:Sum Unit R) |none=>Sum.inl ())
   rw [List.drop_eq_nil_of_le hl]
   rfl
  |some x =>
   rw [hi] at hf
   obtain ⟨t,ht⟩:=zmU (nx:=nx) d (i+1) (push zad (nx x))
   obtain ⟨u,hu,_⟩:=ziD (nx x) zad
   have hx:(bfs nx d (i+1) (push zad (nx x)))[i]?=some x:=by
    rw [ht,hu,List.append_assoc,List.getElem?_append_left (List.getElem?_eq_some_iff.1 hi).1,hi]
   obtain ⟨hlt,hge⟩:=List.getElem?_eq_some_iff.1 hx
   rw [zL,hb i zad x hI hi]
   show _=some (match ((bfs nx d (i+1) (push zad (nx x))).drop i).findSome? stop with |some r=>(Sum.inr r:Sum Unit R) |none=>Sum.inl ())
   rw [List.drop_eq_getElem_cons hlt,List.findSome?_cons,hge]
   cases stop x with
   |some r=>rfl
   |none=>exact zsm hb he hp d (i+1) _ (hp _ _ hI (List.mem_of_getElem? hi)) hf
def nxA(L:List zb)(n:Tx):List Tx:=match cl L n with |none=>[] |some c=>(c.Super ::c.Impl).filter (fun s=>!(s == []))
def nxI(L:List zb)(n:Tx):List Tx:=match cl L n with |none=>[] |some c=>c.Impl
structure zyG(L:List zb):Prop where
 nd:Nd L
 noE:zc7 L []=false
 closed:∀c∈L,∀s∈c.Super ::c.Impl,s≠[]→zc7 L s=true
 implE:∀c∈L,[] ∉ c.Impl
structure Wf(L:List zb):Prop extends zyG L where
 acyc:∀n,¬Rc (nxA L) n n
 superF:∀c∈L,isF L c.Super=false
 implF:∀c∈L,∀s∈c.Impl,isF L s=true
theorem zyG.nxA_in{L:List zb}(h:zyG L)(x y:Tx)(hy:y∈nxA L x):y∈L.map (·.Name):=by
 unfold nxA at hy
 split at hy
 ·cases hy
 ·rename_i c hc
  rw [List.mem_filter] at hy
  exact ziu.1 (h.closed c (zcU hc).1 y hy.1 (by have:=hy.2;simpa using this))
theorem zyG.nxI_in{L:List zb}(h:zyG L)(x y:Tx)(hy:y∈nxI L x):y∈L.map (·.Name):=by
 unfold nxI at hy
 split at hy
 ·cases hy
 ·rename_i c hc
  exact ziu.1 (h.closed c (zcU hc).1 y (List.mem_cons_of_mem _ hy) (fun e=>h.implE c (zcU hc).1 (by rw [←e];exact hy)))
def sup(L:List zb):Nat→Tx→List Tx
 | 0,_=>[]
 |d+1,n=>match cl L n with |none=>[] |some c=>n ::sup L d c.Super
def zvV(L:List zb):Nat→Tx→Bool
 | 0,n=>!zc7 L n
 |d+1,n=>match cl L n with |none=>true |some c=>zvV L d c.Super
theorem ztY{L:List zb}(h:Wf L):∀(d:Nat) (n:Tx),zvV L d n=false→zc7 L n=true∧∃r,sup L (d+1) n=n ::r∧r.length=d∧(n ::r).Nodup∧(∀x∈r,x∈L.map (·.Name)∧Rc (nxA L) n x)
 | 0,n,hf=>by
  have hn:zc7 L n=true:=by simpa [zvV] using hf
  obtain ⟨c,hc⟩:=zgz hn
  exact ⟨hn,[],by simp [sup,hc],rfl,by simp,fun x h=>(by cases h)⟩
 |d+1,n,hf=>by
  unfold zvV at hf
  split at hf
  ·cases hf
  ·rename_i c hc
   obtain ⟨h0,r,h1,h2,h3,h4⟩:=ztY h d c.Super hf
   have hs:c.Super∈nxA L n:=by
    unfold nxA
    rw [hc]
    refine List.mem_filter.2 ⟨by simp,?_⟩
    have:c.Super≠[]:=fun e=>by rw [e,h.noE] at h0;cases h0
    simpa using this
   have h5:∀x∈c.Super ::r,x∈L.map (·.Name)∧Rc (nxA L) n x:=fun x hx=>by
    rcases List.mem_cons.1 hx with e |e
    ·rw [e];exact ⟨ziu.1 h0,.one hs⟩
    ·exact ⟨(h4 x e).1,.more hs (h4 x e).2⟩
   refine ⟨zhl hc,c.Super ::r,?_,by simp [h2],List.nodup_cons.2 ⟨fun hm=>h.acyc n (h5 n hm).2,h3⟩,h5⟩
   show (match cl L n with |none=>[] |some c=>n ::sup L (d+1) c.Super)=_
   rw [hc]
   show n ::sup L (d+1) c.Super=_
   rw [h1]
theorem zuW{L:List zb}(h:Wf L)(n:Tx):zvV L L.length n=true:=by
 cases hf:zvV L L.length n with
 |true=>rfl
 |false =>
  obtain ⟨h0,r,h1,h2,h3,h4⟩:=ztY h _ n hf
  have:=zwa h3 (b:=L.map (·.Name)) (fun x hx=>by
   rcases List.mem_cons.1 hx with e |e
   ·rw [e];exact ziu.1 h0
   ·exact (h4 x e).1)
  simp at this
  omega
def zB2:Tx:=[79,98,106,101,99,116]
def zyi:Tx:=[84,104,114,111,119,110]
def gC(n s:Tx):zb:=zb.mk n s false [] [] []
def giv:List zb:=[gC zB2 [],gC zyi zB2,gC [78,117,108,108,69,114,114] zyi,gC [82,97,110,103,101,69,114,114] zyi,gC [77,97,116,104,69,114,114] zyi,gC [67,97,115,116,69,114,114] zyi,
 gC [83,105,122,101,69,114,114] zyi,gC [83,116,111,114,101,69,114,114] zyi,gC [73,110,105,116,69,114,114] zyi,gC [67,108,97,115,115,69,114,114] zyi]
theorem zqT:zlX=some giv:=by kernel_rfl
theorem zqQ:zlT=some giv:=by kernel_rfl
def zsE(k:Nat)(m:List (Tx×Int)):List zb→List (Tx×Int)
 | []=>m
 |c ::r=>zsE (k+1) (zgG c.Name (k:Int) m) r
def fresh(pre:List zb):List zb→Bool
 | []=>true
 |c ::r=>!zc7 pre c.Name&&fresh (pre++[c]) r
theorem zuJ:∀(r pre:List zb) (m:List (Tx×Int)),zdG pre m→fresh pre r=true→zdG (pre++r) (zsE pre.length m r)
 | [],pre,m,h,_=>by simpa [zsE] using h
 |c ::r,pre,m,h,hf=>by
  simp only [fresh,Bool.and_eq_true,Bool.not_eq_true'] at hf
  have:=zuJ r (pre++[c]) _ (h.snoc hf.1) hf.2
  simpa [zsE] using this
theorem zuQ:∀(r pre:List zb),Nd pre→fresh pre r=true→Nd (pre++r)
 | [],pre,h,_=>by simpa using h
 |c ::r,pre,h,hf=>by
  simp only [fresh,Bool.and_eq_true,Bool.not_eq_true'] at hf
  have:=zuQ r (pre++[c]) (h.snoc hf.1) hf.2
  simpa using this
theorem zAH:zu (fun z=>zky giv z.1 z.2) ([],0)=some (.inl (zsE 0 [] giv)):=by kernel_rfl
theorem zxV:zdG giv (zsE 0 [] giv):=zuJ giv [] [] (fun n=>rfl) (by decide +kernel)
theorem zqo:Nd giv:=zuQ giv [] (fun i j c d h=>by simp at h) (by decide +kernel)
def lay:List zb→List zb→Option (List zb)
 |L,[]=>some L
 |L,c ::r=>cond (zc7 L c.Name||!zqx c) none (lay (L++[c]) r)
theorem zqB:∀(r L L':List zb),Nd L→lay L r=some L'→L'=L++r∧Nd L'∧∀c∈r,zqx c=true
 | [],L,L',h,e=>by
  unfold lay at e
  cases e
  exact ⟨by simp,h,fun c hc=>by cases hc⟩
 |c ::r,L,L',h,e=>by
  unfold lay at e
  cases h1:zc7 L c.Name with
  |true=>rw [h1] at e;cases e
  |false =>
   cases h2:zqx c with
   |false=>rw [h1,h2] at e;cases e
   |true =>
    rw [h1,h2] at e
    obtain ⟨k1,k2,k3⟩:=zqB r (L++[c]) L' (h.snoc h1) e
    refine ⟨by rw [k1];simp,k2,fun d hd=>?_⟩
    rcases List.mem_cons.1 hd with e |e
    ·rw [e];exact h2
    ·exact k3 d e
theorem zCy{w:Nat}{L:List zb}{c:zb}(h:L.length≤1000)(hw:w≤1000):zis w L [c]=some (L++[c]):=by
 refine zdw ?_ (by simp;omega)
 have:(L.length+[c].length)*w≤1001*1000:=Nat.mul_le_mul (by simp;omega) hw
 omega
theorem zun{l:List zb}(hl:l.length≤16)(hc:∀c∈l,zzJ c):∀(r pre L:List zb) (m:List (Tx×Int)),l=pre++r→zdG L m→L.length=10+pre.length →
  (lay L r=none→zu (fun z=>zdp l z.1 z.2.1 z.2.2) (L,m,(pre.length:Int))=some (.inr (none,1))) ∧
  (∀L',lay L r=some L'→∃m',zdG L' m'∧zu (fun z=>zdp l z.1 z.2.1 z.2.2) (L,m,(pre.length:Int))=some (.inl (L',m')))
 | [],pre,L,m,e,hm,hL=>by
  rw [List.append_nil] at e
  subst e
  unfold lay
  refine ⟨fun h=>(by cases h),fun L' h=>?_⟩
  cases h
  refine ⟨m,hm,?_⟩
  rw [zL]
  show (zdp l L m (l.length:Int)).bind _=_
  unfold zdp
  rw [zgY];rfl
 |c ::r,pre,L,m,e,hm,hL=>by
  have hlen:l.length=pre.length+(r.length+1):=by rw [e];simp
  have hx:l[pre.length]?=some c:=by rw [e];simp
  have hcm:c∈l:=List.mem_of_getElem? hx
  have step:zu (fun z=>zdp l z.1 z.2.1 z.2.2) (L,m,(pre.length:Int))=(cond (zc7 L c.Name||!zqx c) (some (.inr (.inr (none,1)))) (some (.inl (L++[c],zgG c.Name (L.length:Int) m,((pre.length+1:Nat):Int))))).bind (Sum.elim (zu (fun z=>zdp l z.1 z.2.1 z.2.2)) some):=by
   rw [zL]
   show (zdp l L m (pre.length:Int)).bind _=_
   congr 1
   unfold zdp
   rw [zgj hx,zB,hx]
   simp only [cond_true,Option.bind_some]
   rw [hm.has,zrE (hc c hcm),zCy (by omega) (by omega),zay (by omega)]
   cases zc7 L c.Name <;> cases zqx c <;> rfl
  rw [step]
  unfold lay
  cases h1:(zc7 L c.Name||!zqx c) with
  |true=>exact ⟨fun _=>rfl,fun L' h=>by cases h⟩
  |false =>
   rw [Bool.or_eq_false_iff] at h1
   have:=zun hl hc r (pre++[c]) (L++[c]) _ (by rw [e];simp) (hm.snoc h1.1) (by simp;omega)
   rw [show (pre++[c]).length=pre.length+1 by simp] at this
   exact this
structure Okc(c:zb):Prop where
 name:c.Name≠[]
 impl:c.Impl.length≤4
 implE:∀s∈c.Impl,s≠[]
theorem zjT{s:Tx}(h:zcx s=true):s≠[]:=by
 intro e
 subst e
 unfold zcx at h
 simp at h
theorem zsu{α:Type}{ok:α→Bool}{nm:α→List UInt8}:∀{l pre:List α},uB ok nm pre l=false→∀x∈l,ok x=true
 | [],_,_,x,hx=>by cases hx
 |y ::r,pre,h,x,hx=>by
  unfold uB at h
  simp only [Bool.or_eq_false_iff,Bool.not_eq_false'] at h
  rcases List.mem_cons.1 hx with e |e
  ·rw [e];exact h.1.1
  ·exact zsu h.2 x e
theorem zAu{c:zb}(h:zqx c=true):Okc c:=by
 unfold zqx at h
 simp only [Bool.and_eq_true,Bool.not_eq_true',decide_eq_true_eq] at h
 obtain ⟨_,⟨⟨⟨⟨h1,h2⟩,h3,h4⟩,h5⟩,h6⟩⟩:=h
 exact ⟨zjT h1,by omega,fun s hs=>zjT (zsu h3 s hs)⟩
theorem zA7:∀c∈giv,Okc c:=by
 intro c hc
 have h:giv.all (fun c=>!(c.Name == [])&&(c.Impl == []))=true:=by decide +kernel
 have:=List.all_eq_true.1 h c hc
 simp only [Bool.and_eq_true,Bool.not_eq_true',beq_eq_false_iff_ne,beq_iff_eq] at this
 exact ⟨this.1,by rw [this.2];simp,fun s hs=>by rw [this.2] at hs;cases hs⟩
theorem zri{l L:List zb}(h:lay giv l=some L):∀c∈L,Okc c:=by
 obtain ⟨h1,h2,h3⟩:=zqB l giv L zqo h
 intro c hc
 rw [h1] at hc
 rcases List.mem_append.1 hc with e |e
 ·exact zA7 c e
 ·exact zAu (h3 c e)
theorem zuB{c:zb}(h:c.Impl.length≤4):zis 16 [c.Super] c.Impl=some (c.Super ::c.Impl):=zdw (by simp;omega) (by simp;omega)
theorem zkI{c:zb}(h:c.Impl.length≤4):zh5 c=some (c.Super ::c.Impl):=by
 unfold zh5;rw [zuB h];rfl
theorem zxz{l:List Tx}{L:List zb}{m:List (Tx×Int)}(hm:zdG L m)(hl:l.length≤1000):zaI l L m=some (l.any fun s=>!zc7 L s):=by
 unfold zaI zbZ
 rw [show ((zu (fun z=>zan l L m z) 0).bind fun o=>zU o (fun b=>zbk) some)=_ from zcv (l:=l) (p:=fun s=>!zc7 L s) (by omega)
  (fun i x hx=>by unfold zan zlY zbQ;rw [zgj hx,zB,hx];simp only [cond_true,Option.bind_some];rw [hm.has]) (by unfold zan;rw [zgY];rfl)]
 exact congrArg some (zg3 _ 0 l)
theorem zqG{L:List zb}{m:List (Tx×Int)}(hm:zdG L m){n:Tx}(hn:zc7 L n=true):zc0 L m n=cl L n:=by
 unfold zc0
 rw [hm.idx hn]
 cases cl L n <;> rfl
theorem zxY{l:List Tx}{L:List zb}{m:List (Tx×Int)}(hm:zdG L m)(hl:l.length≤1000)(hh:∀s∈l,zc7 L s=true):zaJ l L m=some (l.any fun s=>!isF L s):=by
 unfold zaJ zbW
 rw [show ((zu (fun z=>zal l L m z) 0).bind fun o=>zU o (fun b=>zbq) some)=_ from zcv (l:=l) (p:=fun s=>!isF L s) (by omega)
  (fun i x hx=>by
   obtain ⟨c,hc⟩:=zgz (hh x (List.mem_of_getElem? hx))
   unfold zal zgZ isF
   rw [zgj hx,zB,hx];simp only [cond_true,Option.bind_some];rw [zqG hm (zhl hc),hc];rfl) (by unfold zal;rw [zgY];rfl)]
 exact congrArg some (zg3 _ 0 l)
def cyc(L:List zb)(n:Tx):Bool:=@decide (Rc (nxA L) n n) (Classical.propDecidable _)
theorem zru{L:List zb}{n:Tx}:cyc L n=true↔Rc (nxA L) n n:=by unfold cyc;exact @decide_eq_true_iff _ (Classical.propDecidable _)
def zsU(L:List zb)(c:zb):Bool:=isF L c.Super||(c.Impl.any (fun s=>!isF L s)||cyc L c.Name)
theorem zps{R:Type}{body:List Tx×Int→Option (Sum (List Tx×Int) (Sum (List Tx) R))}{l:List Tx}{p:Tx→Bool}(hl:l.length≤100)
  (hb:∀(i:Nat) x zad,zad.length≤1000→l[i]?=some x→body (zad,(i:Int))=some (.inl (cond (p x&&!(zad.any fun y=>x == y)) (zad++[x]) zad,IntKind.i64.wrap ((i:Int)+1))))
  (he:∀zad,body (zad,(l.length:Int))=some (.inr (.inl zad))):∀(r pre zad:List Tx),l=pre++r→zad.length+r.length≤1000→zu body (zad,(pre.length:Int))=some (.inl (push zad (r.filter p)))
 | [],pre,zad,e,hs=>by
  rw [List.append_nil] at e
  subst e
  rw [zL,he];rfl
 |x ::r,pre,zad,e,hs=>by
  have hlen:l.length=pre.length+(r.length+1):=by rw [e];simp
  have hx:l[pre.length]?=some x:=by rw [e];simp
  simp only [List.length_cons] at hs
  rw [zL,hb _ x zad (by omega) hx,zay (by omega)]
  have ih:=fun s h=>zps hl hb he r (pre++[x]) s (by rw [e];simp) h
  rw [show (pre++[x]).length=pre.length+1 by simp] at ih
  cases h1:p x with
  |false =>
   rw [List.filter_cons_of_neg (by rw [h1];exact Bool.false_ne_true)]
   exact ih zad (by omega)
  |true =>
   rw [List.filter_cons_of_pos h1]
   unfold push
   cases h2:(zad.any fun y=>x == y) with
   |true=>exact ih zad (by omega)
   |false=>exact ih (zad++[x]) (by simp;omega)
theorem zoN{l:List Tx}(hl:l.length≤1000)(n:Tx):zK l n=some (l.any fun y=>n == y):=zxk (by unfold zj5;omega) n
theorem zwe{l zad:List Tx}(hl:l.length≤100)(hs:zad.length+l.length≤1000):zu (fun z=>zcL l z.1 z.2) (zad,0)=some (.inl (push zad (l.filter (fun s=>!(s == []))))):=by
 refine zps (l:=l) (p:=fun s=>!(s == [])) hl (fun i x s h hx=>?_) (fun s=>?_) l [] zad rfl hs
 ·show zcL l s (i:Int)=_
  unfold zcL zd7
  rw [zgj hx,zB,hx]
  simp only [cond_true,Option.bind_some]
  rw [zoN h,zdw (w:=16) (l:=s) (x:=[x]) (by simp;omega) (by simp;omega)]
  cases (x == []) <;> cases (s.any fun y=>x == y) <;> rfl
 ·show zcL l s (l.length:Int)=_
  unfold zcL
  rw [zgY];rfl
theorem zpu{L:List zb}{n:Tx}{c:zb}(h:cl L n=some c):nxA L n=(c.Super ::c.Impl).filter (fun s=>!(s == [])):=by unfold nxA;rw [h]
theorem zzG{L:List zb}(hL:∀c∈L,Okc c)(n:Tx):(nxA L n).length≤5:=by
 unfold nxA
 split
 ·simp
 ·rename_i c hc
  have:=(hL c (zcU hc).1).impl
  exact Nat.le_trans (List.length_filter_le _ _) (by simp;omega)
theorem zyQ(l zad:List Tx):(push zad l).length≤zad.length+l.length:=by
 induction l generalizing zad with
 |nil=>simp [push]
 |cons x r ih =>
  unfold push
  cases (zad.any fun y=>x == y) with
  |true=>have:=ih zad;simp only [cond_true,List.length_cons];omega
  |false=>have:=ih (zad++[x]);simp only [cond_false,List.length_cons];simp at this;omega
theorem zAZ{L:List zb}{m:List (Tx×Int)}(hm:zdG L m)(h:zyG L)(hO:∀c∈L,Okc c)(hlen:L.length≤100){c:zb}(hc:c∈L)(hs:c.Super≠[]):zfx L m c=some (!zsU L c):=by
 have hcs:=h.closed c hc
 have hsup:zc7 L c.Super=true:=hcs c.Super (by simp) hs
 obtain ⟨x,hx⟩:=zgz hsup
 have himp:∀s∈c.Impl,zc7 L s=true:=fun s hm=>hcs s (by simp [hm]) ((hO c hc).implE s hm)
 have hi4:=(hO c hc).impl
 have e0:(c.Super ::c.Impl)=nxA L c.Name:=by
  rw [zpu (h.nd.cl hc),List.filter_eq_self.2]
  intro s hsm
  rcases List.mem_cons.1 hsm with e |e
  ·rw [e];simpa using hs
  ·simpa using (hO c hc).implE s e
 unfold zfx
 rw [zqG hm hsup,hx,zxY hm (by omega) himp,zkI hi4]
 simp only [Option.bind_some]
 have eF:isF L c.Super=x.Interface:=by unfold isF;rw [hx]
 unfold zsU
 rw [eF]
 cases x.Interface with
 |true=>rfl
 |false =>
  cases c.Impl.any (fun s=>!isF L s) with
  |true=>rfl
  |false =>
   have hfin:fin (nxA L) (5+L.length) 0 (nxA L c.Name)=true:=zxc (U:=L.map (·.Name)) (s0:=nxA L c.Name) h.nxA_in _ _ _ .start (by have:=zzG hO c.Name;simp;omega)
   have hw:=zsm (R:=Bool) (I:=fun s=>Inv (List.map (fun c:zb=>c.Name) L) (nxA L c.Name) s) (nx:=nxA L) (stop:=fun y=>cond (y == c.Name) (some false) none) (body:=fun z=>zcl L m c z.1 z.2)
    (fun i zad y hI hy=>by
     have hsl:=hI.len
     have h5:=zzG hO c.Name
     have hym:zc7 L y=true:=ziu.2 (hI.mem (fun z hz=>h.nxA_in _ z hz) y (List.mem_of_getElem? hy))
     obtain ⟨d,hd⟩:=zgz hym
     have hd4:=(hO d (zcU hd).1).impl
     have hpl:=zyQ (nxA L y) zad
     simp only [List.length_map] at hsl
     show zcl L m c zad (i:Int)=_
     unfold zcl zgx
     rw [zgj hy,zB,hy]
     simp only [cond_true,Option.bind_some]
     have hilt:=(List.getElem?_eq_some_iff.1 hy).1
     rw [zqG hm hym,hd]
     simp only [Option.bind_some]
     rw [zkI hd4]
     simp only [Option.bind_some]
     rw [zwe (by simp;omega) (by simp;omega),←zpu hd,zay (by omega)]
     cases y == c.Name <;> rfl)
    (fun i zad hI hle=>by
     show zcl L m c zad (i:Int)=_
     unfold zcl
     rw [decide_eq_false (by omega)];rfl)
    (fun zad y hI hy=>hI.push (h.nxA_in y)) (5+L.length) 0 (nxA L c.Name) .start hfin
   rw [e0]
   rw [show zu (fun z=>zcl L m c z.1 z.2) (nxA L c.Name,0)=_ from hw,List.drop_zero,zdI]
   have:(bfs (nxA L) (5+L.length) 0 (nxA L c.Name)).any (fun y=>y == c.Name)=cyc L c.Name:=by
    rw [Bool.eq_iff_iff,zru,←zBm hfin,List.any_eq_true]
    constructor
    ·rintro ⟨y,h1,h2⟩;obtain rfl:=eq_of_beq h2;exact h1
    ·intro h1;exact ⟨_,h1,beq_self_eq_true _⟩
   rw [this]
   cases cyc L c.Name <;> rfl
def onB(inn:List Bool)(n:Nat):Bool:=inn.getD n false
def zpF(L:List zb)(inn:List Bool)(s:Tx):Bool:=zc7 L s&&!onB inn (atN L s).toNat
def mk1(L:List zb)(inn:List Bool)(s:Tx):List Bool:=cond (zpF L inn s) (inn.set (atN L s).toNat true) inn
def mkS(L:List zb):List Bool→List Tx→List Bool
 |inn,[]=>inn
 |inn,s ::r=>mkS L (mk1 L inn s) r
theorem zs0{L:List zb}{s:Tx}(h:zc7 L s=true):0≤atN L s∧(atN L s).toNat<L.length:=by
 unfold zc7 at h
 unfold atN
 rcases zoX (fun c:zb=>c.Name == s) L 0 with ⟨j,x,h1,h2,h3,h4⟩ |⟨h1,h2⟩
 ·have:=(List.getElem?_eq_some_iff.1 h2).1
  rw [h1]
  omega
 ·rw [List.any_eq_true] at h
  obtain ⟨c,k1,k2⟩:=h
  have:=List.find?_eq_none.1 h2 c k1
  exact absurd k2 this
theorem zq3(L:List zb)(inn:List Bool)(s:Tx):(mk1 L inn s).length=inn.length:=by
 unfold mk1
 cases zpF L inn s <;> simp
theorem zmy(L:List zb):∀(l:List Tx) (inn:List Bool),(mkS L inn l).length=inn.length
 | [],inn=>rfl
 |s ::r,inn=>by unfold mkS;rw [zmy L r,zq3]
theorem zzU{inn:List Bool}{n k:Nat}(h:n<inn.length):onB (inn.set n true) k=(onB inn k||Nat.beq k n):=by
 unfold onB
 rw [List.getD_eq_getElem?_getD,List.getD_eq_getElem?_getD,List.getElem?_set]
 by_cases e:n=k
 ·subst e
  simp [h]
 ·rw [if_neg e]
  have:Nat.beq k n=false:=by
   cases hb:Nat.beq k n with
   |false=>rfl
   |true=>exact absurd (Nat.eq_of_beq_eq_true hb).symm e
  rw [this,Bool.or_false]
theorem zBi{L:List zb}{inn:List Bool}(hl:inn.length=L.length)(s:Tx)(k:Nat):onB (mk1 L inn s) k=(onB inn k||(zc7 L s&&Nat.beq k (atN L s).toNat)):=by
 unfold mk1 zpF
 cases h:zc7 L s with
 |false=>simp
 |true =>
  cases h2:onB inn (atN L s).toNat with
  |false =>
   simp only [Bool.not_false,Bool.and_self,cond_true,Bool.true_and]
   exact zzU (by rw [hl];exact (zs0 h).2)
  |true =>
   simp only [Bool.not_true,Bool.and_false,cond_false,Bool.true_and]
   cases h3:Nat.beq k (atN L s).toNat with
   |false=>simp
   |true=>rw [Nat.eq_of_beq_eq_true h3,h2];rfl
theorem zt3{L:List zb}:∀(l:List Tx) (inn:List Bool),inn.length=L.length→∀k,onB (mkS L inn l) k=(onB inn k||l.any (fun s=>zc7 L s&&Nat.beq k (atN L s).toNat))
 | [],inn,hl,k=>by simp [mkS]
 |s ::r,inn,hl,k=>by
  unfold mkS
  rw [zt3 r _ (by rw [zq3];exact hl),zBi hl,List.any_cons,Bool.or_assoc]
theorem zrK{L:List zb}:∀(l:List Tx) (inn:List Bool),l.any (zpF L inn)=false→mkS L inn l=inn
 | [],inn,_=>rfl
 |s ::r,inn,h=>by
  rw [List.any_cons,Bool.or_eq_false_iff] at h
  unfold mkS
  have:mk1 L inn s=inn:=by unfold mk1;rw [h.1];rfl
  rw [this,zrK r inn h.2]
theorem znM{R:Type}{L:List zb}{l:List Tx}{body:List Bool×Bool×Int→Option (Sum (List Bool×Bool×Int) (Sum (List Bool×Bool) R))}(hl:l.length≤1000)
  (hb:∀(j:Nat) s inn more,inn.length=L.length→l[j]?=some s→body (inn,more,(j:Int))=some (.inl (mk1 L inn s,more||zpF L inn s,IntKind.i64.wrap ((j:Int)+1))))
  (he:∀inn more,body (inn,more,(l.length:Int))=some (.inr (.inl (inn,more)))):
  ∀(r pre:List Tx) (inn:List Bool) (more:Bool),l=pre++r→inn.length=L.length→zu body (inn,more,(pre.length:Int))=some (.inl (mkS L inn r,more||r.any (zpF L inn)))
 | [],pre,inn,more,e,hi=>by
  rw [List.append_nil] at e
  subst e
  rw [zL,he]
  show some _=some _
  simp [mkS]
 |s ::r,pre,inn,more,e,hi=>by
  have hlen:l.length=pre.length+(r.length+1):=by rw [e];simp
  have hx:l[pre.length]?=some s:=by rw [e];simp
  rw [zL,hb _ s inn more hi hx,zay (by omega)]
  have ih:=fun i m h=>znM hl hb he r (pre++[s]) i m (by rw [e];simp) h
  rw [show (pre++[s]).length=pre.length+1 by simp] at ih
  show zu body (mk1 L inn s,more||zpF L inn s,((pre.length+1:Nat):Int))=_
  rw [ih _ _ (by rw [zq3];exact hi),List.any_cons,show mkS L inn (s ::r)=mkS L (mk1 L inn s) r from rfl]
  cases h:zpF L inn s with
  |true=>simp
  |false =>
   have:mk1 L inn s=inn:=by unfold mk1;rw [h];rfl
   rw [this];simp
def ziM(L:List zb)(nx:zb→List Tx)(act:Nat→Bool):List Bool→Nat→List zb→List Bool
 |inn,_,[]=>inn
 |inn,k,c ::r=>ziM L nx act (cond (onB inn k||act k) (mkS L inn (nx c)) inn) (k+1) r
def zl5(L:List zb)(nx:zb→List Tx)(act:Nat→Bool):List Bool→Nat→List zb→Bool
 |_,_,[]=>false
 |inn,k,c ::r=>cond (onB inn k||act k) ((nx c).any (zpF L inn)) false||zl5 L nx act (cond (onB inn k||act k) (mkS L inn (nx c)) inn) (k+1) r
section
variable {L : List zb} {nx : zb → List Tx} {act : Nat → Bool}
theorem zqP:∀(r:List zb) (k:Nat) (inn:List Bool),(ziM L nx act inn k r).length=inn.length
 | [],k,inn=>rfl
 |c ::r,k,inn=>by
  unfold ziM
  rw [zqP r]
  cases onB inn k||act k
  ·rfl
  ·exact zmy L _ _
theorem zxf{inn:List Bool}(hl:inn.length=L.length)(b:Bool)(l:List Tx)(n:Nat)(h:onB inn n=true):onB (cond b (mkS L inn l) inn) n=true:=by
 cases b with
 |false=>exact h
 |true=>show onB (mkS L inn l) n=true;rw [zt3 l inn hl,h];rfl
theorem zpd:∀(r:List zb) (k:Nat) (inn:List Bool),inn.length=L.length→∀n,onB inn n=true→onB (ziM L nx act inn k r) n=true
 | [],k,inn,hl,n,h=>h
 |c ::r,k,inn,hl,n,h=>by
  unfold ziM
  refine zpd r (k+1) _ ?_ n (zxf hl _ _ n h)
  cases onB inn k||act k
  ·exact hl
  ·exact (zmy L _ _).trans hl
theorem zl4:∀(r:List zb) (k:Nat) (inn:List Bool),zl5 L nx act inn k r=false→ziM L nx act inn k r=inn∧∀(j:Nat) c,r[j]?=some c→(onB inn (k+j)||act (k+j))=true→(nx c).any (zpF L inn)=false
 | [],k,inn,_=>⟨rfl,fun j c h=>by simp at h⟩
 |c ::r,k,inn,h=>by
  unfold zl5 at h
  unfold ziM
  rw [Bool.or_eq_false_iff] at h
  have e:cond (onB inn k||act k) (mkS L inn (nx c)) inn=inn:=by
   cases hb:onB inn k||act k with
   |false=>rfl
   |true=>rw [hb] at h;exact zrK _ _ h.1
  rw [e] at h ⊢
  obtain ⟨h1,h2⟩:=zl4 r (k+1) inn h.2
  refine ⟨h1,fun j d hj hb=>?_⟩
  cases j with
  |zero =>
   have:c=d:=by simpa using hj
   subst this
   rw [Nat.add_zero] at hb
   rw [hb] at h
   exact h.1
  |succ j=>exact h2 j d (by simpa using hj) (by rw [show k+1+j=k+(j+1) by omega];exact hb)
theorem zt5:∀(r:List zb) (k:Nat) (inn:List Bool),inn.length=L.length→∀(j:Nat) c,r[j]?=some c→(onB inn (k+j)||act (k+j))=true→∀s∈nx c,zc7 L s=true→onB (ziM L nx act inn k r) (atN L s).toNat=true
 | [],k,inn,hl,j,c,h,_=>by simp at h
 |d ::r,k,inn,hl,j,c,hj,hb=>by
  intro s hs hh
  unfold ziM
  have hl2:(cond (onB inn k||act k) (mkS L inn (nx d)) inn).length=L.length:=by
   cases onB inn k||act k
   ·exact hl
   ·exact (zmy L _ _).trans hl
  cases j with
  |zero =>
   have:d=c:=by simpa using hj
   subst this
   rw [Nat.add_zero] at hb
   refine zpd r (k+1) _ hl2 _ ?_
   rw [hb]
   show onB (mkS L inn (nx d)) _=true
   rw [zt3 _ _ hl,Bool.or_eq_true]
   right
   rw [List.any_eq_true]
   exact ⟨s,hs,by rw [hh,Bool.true_and];exact Nat.beq_refl _⟩
  |succ j =>
   refine zt5 r (k+1) _ hl2 j c (by simpa using hj) ?_ s hs hh
   rw [show k+1+j=k+(j+1) by omega]
   rw [Bool.or_eq_true] at hb ⊢
   rcases hb with hb |hb
   ·exact .inl (zxf hl _ _ _ hb)
   ·exact .inr hb
theorem zn3{Q:Nat→Prop}:∀(r:List zb) (k:Nat) (inn:List Bool),inn.length=L.length→(∀(j:Nat) c,r[j]?=some c→(Q (k+j)∨act (k+j)=true)→∀s∈nx c,zc7 L s=true→Q (atN L s).toNat) →
  (∀n,onB inn n=true→Q n)→∀n,onB (ziM L nx act inn k r) n=true→Q n
 | [],k,inn,hl,hQ,h=>h
 |c ::r,k,inn,hl,hQ,h=>by
  unfold ziM
  refine zn3 r (k+1) _ ?_ (fun j d hj hor=>?_) (fun n hn=>?_)
  ·cases onB inn k||act k
   ·exact hl
   ·exact (zmy L _ _).trans hl
  ·rw [show k+1+j=k+(j+1) by omega] at hor
   exact hQ (j+1) d (by simpa using hj) hor
  ·cases hb:onB inn k||act k with
   |false=>rw [hb] at hn;exact h n hn
   |true =>
    rw [hb] at hn
    have hn:onB (mkS L inn (nx c)) n=true:=hn
    rw [zt3 _ _ hl,Bool.or_eq_true] at hn
    rcases hn with hn |hn
    ·exact h n hn
    ·rw [List.any_eq_true] at hn
     obtain ⟨s,hs,hs2⟩:=hn
     rw [Bool.and_eq_true] at hs2
     rw [Nat.eq_of_beq_eq_true hs2.2]
     refine hQ 0 c rfl ?_ s hs hs2.1
     rw [Nat.add_zero]
     rw [Bool.or_eq_true] at hb
     exact hb.imp (h k) id
def cnt(inn:List Bool):Nat:=inn.count true
theorem zxu:∀(inn:List Bool) (n:Nat),n<inn.length→onB inn n=false→cnt (inn.set n true)=cnt inn+1
 | [],n,h,_=>by simp at h
 |b ::r,0,h,hb=>by
  have:b=false:=by simpa [onB] using hb
  subst this
  simp [cnt]
 |b ::r,n+1,h,hb=>by
  have:=zxu r n (by simpa using h) (by simpa [onB] using hb)
  unfold cnt at this ⊢
  rw [List.set_cons_succ,List.count_cons,List.count_cons,this]
  omega
theorem zA2{inn:List Bool}(hl:inn.length=L.length)(s:Tx):cnt (mk1 L inn s)=cnt inn+cond (zpF L inn s) 1 0:=by
 unfold mk1
 cases h:zpF L inn s with
 |false=>rfl
 |true =>
  unfold zpF at h
  rw [Bool.and_eq_true,Bool.not_eq_true'] at h
  exact zxu inn _ (by rw [hl];exact (zs0 h.1).2) h.2
theorem zw1:∀(l:List Tx) (inn:List Bool),inn.length=L.length→cnt inn+cond (l.any (zpF L inn)) 1 0≤cnt (mkS L inn l)
 | [],inn,hl=>by simp [mkS]
 |s ::r,inn,hl=>by
  have ih:=zw1 r (mk1 L inn s) (by rw [zq3];exact hl)
  have h1:=zA2 hl s
  unfold mkS
  rw [List.any_cons]
  cases h:zpF L inn s with
  |true=>rw [h] at h1;simp only [cond_true] at h1;simp only [Bool.true_or,cond_true];omega
  |false =>
   have e:mk1 L inn s=inn:=by unfold mk1;rw [h];rfl
   rw [e] at ih ⊢
   simpa using ih
theorem zuh:∀(r:List zb) (k:Nat) (inn:List Bool),inn.length=L.length→cnt inn+cond (zl5 L nx act inn k r) 1 0≤cnt (ziM L nx act inn k r)
 | [],k,inn,hl=>by simp [ziM,zl5]
 |c ::r,k,inn,hl=>by
  unfold ziM zl5
  have hl2:(cond (onB inn k||act k) (mkS L inn (nx c)) inn).length=L.length:=by
   cases onB inn k||act k
   ·exact hl
   ·exact (zmy L _ _).trans hl
  have ih:=zuh r (k+1) _ hl2
  have h1:cnt inn+cond (cond (onB inn k||act k) ((nx c).any (zpF L inn)) false) 1 0≤cnt (cond (onB inn k||act k) (mkS L inn (nx c)) inn):=by
   cases onB inn k||act k with
   |false=>simp
   |true=>exact zw1 _ _ hl
  generalize cond (onB inn k||act k) ((nx c).any (zpF L inn)) false=x at *
  generalize zl5 L nx act (cond (onB inn k||act k) (mkS L inn (nx c)) inn) (k+1) r=y at *
  cases x <;> cases y <;> simp only [Bool.or_false,Bool.or_true,cond_true,cond_false] at*<;> omega
theorem zBE(inn:List Bool):cnt inn≤inn.length:=List.count_le_length
theorem zpG{R X:Type}{st:List Bool→Bool→Int→X}{body:X→Option (Sum X (Sum (List Bool×Bool) R))}(hL:L.length≤1000)
  (hb:∀(k:Nat) c inn more,inn.length=L.length→L[k]?=some c→body (st inn more (k:Int))=some (.inl (cond (onB inn k||act k) (st (mkS L inn (nx c)) (more||(nx c).any (zpF L inn)) ((k+1:Nat):Int)) (st inn more ((k+1:Nat):Int)))))
  (he:∀inn more,body (st inn more (L.length:Int))=some (.inr (.inl (inn,more)))):
  ∀(r pre:List zb) (inn:List Bool) (more:Bool),L=pre++r→inn.length=L.length→zu body (st inn more (pre.length:Int))=some (.inl (ziM L nx act inn pre.length r,more||zl5 L nx act inn pre.length r))
 | [],pre,inn,more,e,hi=>by
  rw [List.append_nil] at e
  subst e
  rw [zL,he]
  show some _=some _
  simp [ziM,zl5]
 |c ::r,pre,inn,more,e,hi=>by
  have hx:L[pre.length]?=some c:=by rw [e];simp
  rw [zL,hb _ c inn more hi hx]
  have ih:=fun i m h=>zpG hL hb he r (pre++[c]) i m (by rw [e];simp) h
  rw [show (pre++[c]).length=pre.length+1 by simp] at ih
  unfold ziM zl5
  cases onB inn pre.length||act pre.length with
  |false =>
   show zu body (st inn more ((pre.length+1:Nat):Int))=_
   rw [ih _ _ hi]
   simp
  |true =>
   show zu body (st (mkS L inn (nx c)) _ ((pre.length+1:Nat):Int))=_
   rw [ih _ _ (by rw [zmy];exact hi),Bool.or_assoc]
   rfl
def zB8(L:List zb)(nx:zb→List Tx)(act:Nat→Bool)(R:List Bool):Prop:=
 ∀(k:Nat) c,L[k]?=some c→(onB R k||act k)=true→∀s∈nx c,zc7 L s=true→onB R (atN L s).toNat=true
theorem zAb{inn:List Bool}(h:zl5 L nx act inn 0 L=false):zB8 L nx act inn:=fun k c hk hb s hs hh=>by
 have:=(zl4 L 0 inn h).2 k c hk (by rw [Nat.zero_add];exact hb)
 rw [List.any_eq_false] at this
 have:=this s hs
 unfold zpF at this
 rw [hh,Bool.true_and,Bool.not_eq_true',Bool.not_eq_false] at this
 exact this
theorem znJ{R X:Type}{st:List Bool→Bool→X}{body:X→Option (Sum X (Sum (List Bool) R))}{Q:Nat→Prop}
  (hb:∀inn,inn.length=L.length→body (st inn true)=some (.inl (st (ziM L nx act inn 0 L) (zl5 L nx act inn 0 L))))
  (he:∀inn,inn.length=L.length→body (st inn false)=some (.inr (.inl inn)))
  (hQ:∀(j:Nat) c,L[j]?=some c→(Q j∨act j=true)→∀s∈nx c,zc7 L s=true→Q (atN L s).toNat):
  ∀(d:Nat) (inn:List Bool),inn.length=L.length→L.length≤d+cnt inn→(∀n,onB inn n=true→Q n) →
  ∃F,zu body (st inn true)=some (.inl F)∧F.length=L.length∧zB8 L nx act F∧(∀n,onB inn n=true→onB F n=true)∧(∀n,onB F n=true→Q n)
 |d,inn,hl,hd,hq=>by
  have hl2:(ziM L nx act inn 0 L).length=L.length:=(zqP L 0 inn).trans hl
  rw [zL,hb inn hl]
  cases hg:zl5 L nx act inn 0 L with
  |false =>
   have e:=(zl4 L 0 inn hg).1
   refine ⟨inn,?_,hl,zAb hg,fun n h=>h,hq⟩
   show zu body (st _ false)=_
   rw [zL,he _ hl2,e];rfl
  |true =>
   have hc:=zuh (nx:=nx) (act:=act) L 0 inn hl
   rw [hg] at hc
   simp only [cond_true] at hc
   have hle:=zBE (ziM L nx act inn 0 L)
   have hq2:∀n,onB (ziM L nx act inn 0 L) n=true→Q n:=zn3 L 0 inn hl (fun j c hj hor=>by rw [Nat.zero_add] at hor;exact hQ j c hj hor) hq
   cases d with
   |zero=>omega
   |succ d =>
    obtain ⟨F,k1,k2,k3,k4,k5⟩:=znJ hb he hQ d _ hl2 (by omega) hq2
    exact ⟨F,k1,k2,k3,fun n h=>k4 n (zpd L 0 inn hl n h),k5⟩
end
def mis(L:List zb)(c:zb):Bool:=(c.Super ::c.Impl).any (fun s=>!zc7 L s)
def zwZ(l:List zb):Option (List zb)×Int:=
 cond (decide (16<(l.length:Int))) (none,3) (match lay giv l with
  |none=>(none,1)
  |some L=>cond (l.any (mis L)) (none,4) (cond (l.any (zsU L)) (none,1) (some L,0)))
theorem ztQ{l L:List zb}(h:lay giv l=some L)(hm:l.any (mis L)=false):zyG L∧∀c∈l,c.Super≠[]:=by
 obtain ⟨h1,h2,h3⟩:=zqB l giv L zqo h
 have hO:=zri h
 have noE:zc7 L []=false:=by
  cases hh:zc7 L [] with
  |false=>rfl
  |true =>
   obtain ⟨c,hc⟩:=zgz hh
   exact absurd (zcU hc).2 (hO c (zcU hc).1).name
 have hl:∀c∈l,∀s∈c.Super ::c.Impl,zc7 L s=true:=fun c hc s hs=>by
  have:=List.any_eq_false.1 hm c hc
  unfold mis at this
  rw [Bool.not_eq_true,List.any_eq_false] at this
  simpa using this s hs
 refine ⟨⟨h2,noE,fun c hc s hs hne=>?_,fun c hc hm=>(hO c hc).implE [] hm rfl⟩,fun c hc e=>?_⟩
 ·rw [h1] at hc
  rcases List.mem_append.1 hc with e |e
  ·have hg:giv.all (fun c=>(c.Super ::c.Impl).all (fun s=>s == []||zc7 giv s))=true:=by decide +kernel
   have:=List.all_eq_true.1 (List.all_eq_true.1 hg c e) s hs
   rw [Bool.or_eq_true,beq_iff_eq] at this
   rcases this with e |e
   ·exact absurd e hne
   ·rw [ziu] at e ⊢
    rw [h1,List.map_append]
    exact List.mem_append_left _ e
  ·exact hl c e s hs
 ·have:=hl c hc c.Super (by simp)
  rw [e,noE] at this;cases this
theorem zBG{l L:List zb}{m:List (Tx×Int)}(hl:l.length≤16)(hm:zdG L m)(hO:∀c∈l,c.Impl.length≤4):
  zu (fun z=>zf4 l L m z) 0=some (zpo () (cond (l.any (mis L)) (some (none,4)) none)):=by
 rw [←zdI]
 refine zeO (fun i c hc=>?_) ?_
 ·show zf4 l L m (i:Int)=_
  have:=hO c (List.mem_of_getElem? hc)
  have hi:=(List.getElem?_eq_some_iff.1 hc).1
  unfold zf4
  rw [zgj hc,zB,hc]
  simp only [cond_true,Option.bind_some]
  rw [zkI this]
  simp only [Option.bind_some]
  rw [zxz hm (by simp;omega),zay (by omega)]
  simp only [Option.bind_some]
  show _=some (zuc i (cond (mis L c) _ _))
  unfold mis
  cases ((c.Super ::c.Impl).any fun s=>!zc7 L s) <;> rfl
 ·show zf4 l L m (l.length:Int)=_
  unfold zf4
  rw [zgY];rfl
theorem zBS{l L:List zb}{m:List (Tx×Int)}(hl:l.length≤16)(hf:∀c∈l,zfx L m c=some (!zsU L c)):
  zu (fun z=>zfZ l L m z) 0=some (zpo () (cond (l.any (zsU L)) (some (none,1)) none)):=by
 rw [←zdI]
 refine zeO (fun i c hc=>?_) ?_
 ·show zfZ l L m (i:Int)=_
  have hi:=(List.getElem?_eq_some_iff.1 hc).1
  unfold zfZ
  rw [zgj hc,zB,hc]
  simp only [cond_true,Option.bind_some]
  rw [hf c (List.mem_of_getElem? hc),zay (by omega)]
  simp only [Option.bind_some]
  cases zsU L c <;> rfl
 ·show zfZ l L m (l.length:Int)=_
  unfold zfZ
  rw [zgY];rfl
theorem zs5{l:List zb}(hc:∀c∈l,zzJ c):∃m,(∀L,(zwZ l).1=some L→zdG L m)∧zkg l=some ((zwZ l).1.map (fun L=>zac.mk L m),(zwZ l).2):=by
 unfold zkg zwZ
 cases hl:decide (16<(l.length:Int)) with
 |true=>exact ⟨[],fun L h=>(by cases h),rfl⟩
 |false =>
  have hl:=of_decide_eq_false hl
  rw [zqT]
  simp only [cond_false,Option.bind_some]
  rw [zAH]
  simp only [Option.bind_some,zU]
  have hl16:l.length≤16:=by omega
  obtain ⟨h1,h2⟩:=zun hl16 hc l [] giv _ rfl zxV rfl
  unfold zkb
  cases hy:lay giv l with
  |none =>
   rw [show zu (fun z=>zdp l z.1 z.2.1 z.2.2) (giv,zsE 0 [] giv,0)=_ from h1 hy]
   exact ⟨[],fun L h=>(by cases h),rfl⟩
  |some L =>
   obtain ⟨m,hm,e⟩:=h2 L hy
   rw [show zu (fun z=>zdp l z.1 z.2.1 z.2.2) (giv,zsE 0 [] giv,0)=_ from e]
   obtain ⟨k1,k2,k3⟩:=zqB l giv L zqo hy
   have hO:=zri hy
   have hlL:∀c∈l,c∈L:=fun c hc=>by rw [k1];exact List.mem_append_right _ hc
   have hlen:L.length≤100:=by rw [k1,List.length_append];have:giv.length=10:=rfl;omega
   simp only [Option.bind_some,zU]
   unfold zkF
   rw [zBG hl16 hm (fun c hc=>(hO c (hlL c hc)).impl)]
   cases hmis:l.any (mis L) with
   |true=>exact ⟨[],fun L h=>(by cases h),rfl⟩
   |false =>
    obtain ⟨hL,hS⟩:=ztQ hy hmis
    simp only [cond_false,Option.bind_some,zU,zpo]
    unfold zks
    rw [zBS hl16 (fun c hc=>zAZ hm hL hO hlen (hlL c hc) (hS c hc))]
    cases hb:l.any (zsU L) with
    |true=>exact ⟨[],fun L h=>(by cases h),rfl⟩
    |false=>exact ⟨m,fun L' h=>(by cases h;exact hm),rfl⟩
theorem zjQ{L:List zb}(hl:L.length≤1000)(n:Tx):zaD L n=some (atN L n):=by
 unfold zaD
 rw [show ((zu (fun z=>zeL L n z) 0).bind fun o=>zU o (fun b=>zhC) some)=_ from zcv (l:=L) (p:=fun c:zb=>c.Name == n) (by omega)
  (fun i x hx=>by unfold zeL;rw [zgj hx,zB,hx];rfl) (by unfold zeL;rw [zgY];rfl)]
 rfl
theorem zxo{l:List zb}(hl:l.length≤16)(hc:∀c∈l,zzJ c):∀(r pre L:List zb),l=pre++r→L.length=10+pre.length →
  zu (fun z=>zeb l z.1 z.2) (L,(pre.length:Int))=some (match lay L r with |none=>.inr (none,1) |some L'=>.inl L')
 | [],pre,L,e,hL=>by
  rw [List.append_nil] at e
  subst e
  rw [zL]
  show (zeb l L (l.length:Int)).bind _=_
  unfold zeb
  rw [zgY];rfl
 |c ::r,pre,L,e,hL=>by
  have hlen:l.length=pre.length+(r.length+1):=by rw [e];simp
  have hx:l[pre.length]?=some c:=by rw [e];simp
  have hcm:c∈l:=List.mem_of_getElem? hx
  have step:zu (fun z=>zeb l z.1 z.2) (L,(pre.length:Int))=(cond (zc7 L c.Name||!zqx c) (some (.inr (.inr (none,1)))) (some (.inl (L++[c],((pre.length+1:Nat):Int))))).bind (Sum.elim (zu (fun z=>zeb l z.1 z.2)) some):=by
   rw [zL]
   show (zeb l L (pre.length:Int)).bind _=_
   congr 1
   unfold zeb
   rw [zgj hx,zB,hx]
   simp only [cond_true,Option.bind_some]
   rw [zow (hc c hcm),zjQ (by omega),zCy (by omega) (by omega),zay (by omega)]
   simp only [Option.bind_some]
   rw [zo2]
   cases zc7 L c.Name <;> cases zqx c <;> rfl
  rw [step]
  unfold lay
  cases h1:(zc7 L c.Name||!zqx c) with
  |true=>rfl
  |false =>
   have:=zxo hl hc r (pre++[c]) (L++[c]) (by rw [e];simp) (by simp;omega)
   rw [show (pre++[c]).length=pre.length+1 by simp] at this
   exact this
theorem zBI{L:List zb}(hL:L.length≤100){c:zb}(hi:c.Impl.length≤4):zu (fun z=>zf7 L c z) 0=some (zpo () (cond (c.Impl.any (fun s=>!zc7 L s)) (some (none,4)) none)):=by
 rw [←zdI]
 refine zeO (fun i s hs=>?_) ?_
 ·show zf7 L c (i:Int)=_
  have hi:=(List.getElem?_eq_some_iff.1 hs).1
  unfold zf7
  rw [zgj hs,zB,hs]
  simp only [cond_true,Option.bind_some]
  rw [zjQ (by omega),zay (by omega)]
  simp only [Option.bind_some]
  rw [zoj]
  cases zc7 L s <;> rfl
 ·show zf7 L c (c.Impl.length:Int)=_
  unfold zf7
  rw [zgY];rfl
theorem zBD{L:List zb}(hL:L.length≤100)(h1:1≤L.length)(hO:∀c∈L,Okc c):zu (fun z=>zfS L z) 1=some (zpo () (cond ((L.drop 1).any (mis L)) (some (none,4)) none)):=by
 rw [←zdI]
 refine zlQ (k:=1) (fun i c _ hc=>?_) ?_ h1
 ·show zfS L (i:Int)=_
  have hi:=(List.getElem?_eq_some_iff.1 hc).1
  unfold zfS
  rw [zgj hc,zB,hc]
  simp only [cond_true,Option.bind_some]
  rw [zjQ (by omega)]
  simp only [Option.bind_some]
  rw [zoj,zBI hL (hO c (List.mem_of_getElem? hc)).impl]
  unfold zkM
  rw [zay (by omega)]
  show _=some (zuc i (cond (mis L c) _ _))
  unfold mis
  rw [List.any_cons]
  cases zc7 L c.Super <;> cases (c.Impl.any fun s=>!zc7 L s) <;> rfl
 ·show zfS L (L.length:Int)=_
  unfold zfS
  rw [zgY];rfl
theorem zs4{L:List zb}{l:List Tx}(hL:L.length≤100)(hl:l.length≤100){inn:List Bool}(hi:inn.length=L.length)(more:Bool):
  zu (fun z=>zcd L l z.1 z.2.1 z.2.2) (inn,more,0)=some (.inl (mkS L inn l,more||l.any (zpF L inn))):=by
 refine znM (l:=l) (by omega) (fun j s inn more hi hs=>?_) (fun inn more=>?_) l [] inn more rfl hi
 ·show zcd L l inn more (j:Int)=_
  unfold zcd zdu
  rw [zgj hs,zB,hs]
  simp only [cond_true,Option.bind_some]
  rw [zjQ (by omega)]
  simp only [Option.bind_some]
  rw [zo2]
  unfold mk1 zpF
  cases hh:zc7 L s with
  |false=>simp
  |true =>
   obtain ⟨g1,g2⟩:=zs0 hh
   have e:idx inn (atN L s)=some (onB inn (atN L s).toNat):=by
    unfold idx onB
    rw [if_pos g1,List.getD_eq_getElem?_getD,List.getElem?_eq_getElem (by omega)];rfl
   rw [e]
   simp only [cond_true,Option.bind_some,Bool.true_and]
   cases onB inn (atN L s).toNat <;> simp
 ·show zcd L l inn more (l.length:Int)=_
  unfold zcd
  rw [zgY];rfl
theorem ztT{inn:List Bool}{k:Nat}(h:k<inn.length):idx inn (k:Int)=some (onB inn k):=by
 rw [zB,List.getElem?_eq_getElem h]
 unfold onB
 rw [List.getD_eq_getElem?_getD,List.getElem?_eq_getElem h];rfl
abbrev abv(c:zb):List Tx:=c.Super ::c.Impl
theorem zqm{L:List zb}(hL:L.length≤100)(hO:∀c∈L,Okc c)(v:Nat)(first:Bool){inn:List Bool}(hi:inn.length=L.length)(more:Bool):
  zu (fun z=>zbD L (v:Int) first z.1 z.2.1 z.2.2) (inn,more,0)=some (.inl (ziM L abv (fun k=>first&&Nat.beq k v) inn 0 L,more||zl5 L abv (fun k=>first&&Nat.beq k v) inn 0 L)):=by
 refine zpG (st:=fun a b c=>(a,b,c)) (nx:=abv) (act:=fun k=>first&&Nat.beq k v) (by omega) (fun k c inn more hi hc=>?_) (fun inn more=>?_) L [] inn more rfl hi
 ·show zbD L (v:Int) first inn more (k:Int)=_
  have hk:=(List.getElem?_eq_some_iff.1 hc).1
  have h4:=(hO c (List.mem_of_getElem? hc)).impl
  unfold zbD
  rw [zgj hc,ztT (by omega),zB,hc]
  simp only [cond_true,Option.bind_some]
  rw [zuB h4]
  simp only [Option.bind_some]
  rw [zs4 hL (by simp;omega) hi]
  unfold ze9 zdo
  rw [zay (by omega)]
  have e:((k:Int) == (v:Int))=Nat.beq k v:=by
   rw [Bool.eq_iff_iff,beq_iff_eq,Nat.beq_eq];omega
  rw [e]
  cases onB inn k <;> cases first <;> cases Nat.beq k v <;> rfl
 ·show zbD L (v:Int) first inn more (L.length:Int)=_
  unfold zbD
  rw [zgY];rfl
theorem zxQ{L:List zb}(hL:L.length≤100)(hO:∀c∈L,Okc c)(h:zyG L){v:Nat}{c0:zb}(hv:L[v]?=some c0):zfQ L (v:Int)=some (cyc L c0.Name):=by
 have hvl:=(List.getElem?_eq_some_iff.1 hv).1
 let Q:Nat→Prop:=fun n=>∃c,L[n]?=some c∧Rc (nxA L) c0.Name c.Name
 have hnx:∀{c:zb},c∈L→∀s∈abv c,zc7 L s=true→s∈nxA L c.Name:=fun {c} hc s hs hh=>by
  rw [zpu (h.nd.cl hc)]
  refine List.mem_filter.2 ⟨hs,?_⟩
  have:s≠[]:=fun e=>by rw [e,h.noE] at hh;cases hh
  simpa using this
 have hat:∀{s:Tx},zc7 L s=true→∃d,L[(atN L s).toNat]?=some d∧d.Name=s:=fun {s} hh=>by
  obtain ⟨d,hd⟩:=zgz hh
  have e:=zmW L s
  rw [hd] at e
  obtain ⟨g1,g2⟩:=zs0 hh
  refine ⟨d,?_,(zcU hd).2⟩
  unfold idx at e
  rw [if_pos g1] at e
  exact e
 have hQ:∀(a:Nat→Bool),(∀k,a k=true→k=v)→∀(j:Nat) c,L[j]?=some c→(Q j∨a j=true)→∀s∈abv c,zc7 L s=true→Q (atN L s).toNat:=fun a ha j c hj hor s hs hh=>by
  obtain ⟨d,hd,hd2⟩:=hat hh
  have hsx:=hnx (List.mem_of_getElem? hj) s hs hh
  refine ⟨d,hd,?_⟩
  rw [hd2]
  rcases hor with ⟨c',hc',hr⟩ |hj2
  ·rw [hj] at hc';cases hc'
   exact hr.snoc hsx
  ·have:=ha j hj2
   subst this
   rw [hj] at hv;cases hv
   exact .one hsx
 have body2:∀inn more first,zbG L (v:Int) inn more first=cond more ((zu (fun z=>zbD L (v:Int) first z.1 z.2.1 z.2.2) (inn,false,0)).bind fun o=>zU o (fun b=>zfd b.1 b.2) (fun r=>some (.inr (.inr r)))) (some (.inr (.inl inn))):=fun _ _ _=>rfl
 have hrep:(List.replicate L.length false).length=L.length:=by simp
 have hoff:∀n,onB (List.replicate L.length false) n=false:=fun n=>by
  unfold onB
  rw [List.getD_eq_getElem?_getD,List.getElem?_replicate]
  split <;> rfl
 have hF:∃F,zu (fun z=>zbG L (v:Int) z.1 z.2.1 z.2.2) (List.replicate L.length false,true,true)=some (.inl F)∧F.length=L.length∧zB8 L abv (fun _=>false) F∧(∀s∈abv c0,zc7 L s=true→onB F (atN L s).toNat=true)∧(∀n,onB F n=true→Q n):=by
  let inn1:=ziM L abv (fun k=>true&&Nat.beq k v) (List.replicate L.length false) 0 L
  have hl1:inn1.length=L.length:=(zqP L 0 _).trans hrep
  have hq1:∀n,onB inn1 n=true→Q n:=zn3 L 0 _ hrep (fun j c hj hor=>by
   rw [Nat.zero_add] at hor
   exact hQ (fun k=>true&&Nat.beq k v) (fun k hk=>by simpa using hk) j c hj hor) (fun n hn=>by rw [hoff] at hn;cases hn)
  have ha1:∀s∈abv c0,zc7 L s=true→onB inn1 (atN L s).toNat=true:=zt5 L 0 _ hrep v c0 hv (by simp)
  rw [zL]
  show ∃F,(zbG L (v:Int) (List.replicate L.length false) true true).bind _=_∧_
  rw [body2,zqm hL hO v true hrep false]
  cases hg:zl5 L abv (fun k=>true&&Nat.beq k v) (List.replicate L.length false) 0 L with
  |false =>
   refine ⟨inn1,?_,hl1,?_,ha1,hq1⟩
   ·show zu (fun z=>zbG L (v:Int) z.1 z.2.1 z.2.2) (inn1,false,false)=_
    rw [zL]
    rfl
   ·have e:inn1=List.replicate L.length false:=(zl4 L 0 _ hg).1
    rw [e]
    intro k c hk hb
    rw [hoff] at hb
    cases hb
  |true =>
   obtain ⟨F,k1,k2,k3,k4,k5⟩:=znJ (L:=L) (nx:=abv) (act:=fun k=>false&&Nat.beq k v) (R:=Bool) (st:=fun a b=>(a,b,false)) (body:=fun z=>zbG L (v:Int) z.1 z.2.1 z.2.2) (Q:=Q)
    (fun inn hi=>by
     show zbG L (v:Int) inn true false=_
     rw [body2,zqm hL hO v false hi false]
     rfl) (fun inn hi=>rfl) (hQ _ (fun k hk=>by simp at hk)) L.length inn1 hl1 (by omega) hq1
   refine ⟨F,k1,k2,fun k c hk hb=>k3 k c hk (by simpa using hb),fun s hs hh=>k4 _ (ha1 s hs hh),k5⟩
 obtain ⟨F,f1,f2,f3,f4,f5⟩:=hF
 unfold zfQ
 rw [show mkP 1 (L.length:Int)=some L.length by unfold mkP;rw [if_pos (by omega),Int.toNat_natCast]]
 simp only [Option.bind_some]
 rw [f1]
 show (idx F (v:Int)).bind _=_
 rw [ztT (by omega)]
 show some (onB F v)=_
 congr 1
 rw [Bool.eq_iff_iff,zru]
 constructor
 ·intro hb
  obtain ⟨c,hc,hr⟩:=f5 v hb
  rw [hv] at hc;cases hc
  exact hr
 ·intro hr
  have key:∀x,Rc (nxA L) c0.Name x→onB F (atN L x).toNat=true:=fun x hx=>by
   refine hx.into (F:=fun y=>onB F (atN L y).toNat=true∧zc7 L y=true) (fun y hy z hz=>?_) (fun y hy=>?_) |>.1
   ·have hz2:zc7 L z=true:=ziu.2 (h.nxA_in y z hz)
    obtain ⟨d,hd,hd2⟩:=hat hy.2
    refine ⟨f3 _ d hd (by rw [hy.1];rfl) z ?_ hz2,hz2⟩
    rw [←hd2,zpu (h.nd.cl (List.mem_of_getElem? hd))] at hz
    exact (List.mem_filter.1 hz).1
   ·have hy2:zc7 L y=true:=ziu.2 (h.nxA_in _ y hy)
    refine ⟨f4 y ?_ hy2,hy2⟩
    rw [zpu (h.nd.cl (List.mem_of_getElem? hv))] at hy
    exact (List.mem_filter.1 hy).1
  have:=key _ hr
  rw [h.nd.at hv,Int.toNat_natCast] at this
  exact this
theorem zx0{L l:List zb}(h:L=giv++l){n:Tx}{c:zb}(hc:cl giv n=some c):cl L n=some c:=by
 rw [h]
 unfold cl at hc ⊢
 rw [List.find?_append,hc];rfl
theorem zBP{L l:List zb}(h:L=giv++l){n:Tx}(hn:zc7 giv n=true):cl L n=cl giv n:=by
 obtain ⟨c,hc⟩:=zgz hn
 rw [hc,zx0 h hc]
theorem zAQ{L l:List zb}(h:L=giv++l){n:Tx}(hn:zc7 giv n=true):zc7 L n=true:=by
 obtain ⟨c,hc⟩:=zgz hn
 exact zhl (zx0 h hc)
theorem zzk:giv.all (fun c=>(nxA giv c.Name).all (fun s=>decide (atN giv s<atN giv c.Name)&&zc7 giv s))=true:=by decide +kernel
theorem zBN{L l:List zb}(h:L=giv++l){a b:Tx}(hr:Rc (nxA L) a b):zc7 giv a=true→atN giv b<atN giv a∧zc7 giv b=true:=by
 have one:∀{a b:Tx},b∈nxA L a→zc7 giv a=true→atN giv b<atN giv a∧zc7 giv b=true:=fun {a b} hb ha=>by
  have e:nxA L a=nxA giv a:=by unfold nxA;rw [zBP h ha]
  rw [e] at hb
  obtain ⟨c,hc⟩:=zgz ha
  have h1:=List.all_eq_true.1 zzk c (zcU hc).1
  rw [(zcU hc).2] at h1
  have h2:=List.all_eq_true.1 h1 b hb
  rw [Bool.and_eq_true,decide_eq_true_eq] at h2
  exact h2
 induction hr with
 |one hb=>exact one hb
 |more hb _ ih =>
  intro ha
  have h1:=one hb ha
  have h2:=ih h1.2
  exact ⟨by omega,h2.2⟩
theorem zA5{L l:List zb}(h:L=giv++l){c:zb}(hc:c∈giv):cyc L c.Name=false:=by
 cases hh:cyc L c.Name with
 |false=>rfl
 |true =>
  have:=(zBN h (zru.1 hh) (zhl (zqo.cl hc))).1
  omega
theorem zwU:giv.all (fun c=>(c.Impl == [])&&!c.Interface&&(c.Super == []||zc7 giv c.Super))=true:=by decide +kernel
theorem zrT:(giv.drop 1).all (fun c=>!(c.Super == []))=true:=by decide +kernel
theorem zA6{c:zb}(hc:c∈giv):c.Impl=[]∧c.Interface=false∧(c.Super=[]∨zc7 giv c.Super=true):=by
 have:=List.all_eq_true.1 zwU c hc
 simp only [Bool.and_eq_true,beq_iff_eq,Bool.not_eq_true',Bool.or_eq_true] at this
 exact ⟨this.1.1,this.1.2,this.2⟩
theorem zAr{L l:List zb}(h:L=giv++l){n:Tx}(hn:zc7 giv n=true):isF L n=false:=by
 obtain ⟨c,hc⟩:=zgz hn
 unfold isF
 rw [zx0 h hc]
 exact (zA6 (zcU hc).1).2.1
theorem zv0{L l:List zb}(h:L=giv++l)(hE:zc7 L []=false){c:zb}(hc:c∈giv):zsU L c=false:=by
 obtain ⟨h1,h2,h3⟩:=zA6 hc
 unfold zsU
 rw [zA5 h hc,h1]
 rcases h3 with e |e
 ·rw [e]
  have:isF L []=false:=by
   unfold isF
   cases hcl:cl L [] with
   |none=>rfl
   |some d=>rw [zhl hcl] at hE;cases hE
  rw [this];rfl
 ·rw [zAr h e];rfl
theorem zAU{L l:List zb}(h:L=giv++l){c:zb}(hc:c∈giv.drop 1):mis L c=false:=by
 obtain ⟨h1,h2,h3⟩:=zA6 (List.mem_of_mem_drop hc)
 have hs:=List.all_eq_true.1 zrT c hc
 unfold mis
 rw [h1,List.any_cons,List.any_nil,Bool.or_false]
 rcases h3 with e |e
 ·rw [e] at hs;cases hs
 ·rw [zAQ h e];rfl
theorem zug{L l:List zb}(h:L=giv++l){p:zb→Bool}(hp:∀c∈giv.drop 1,p c=false):(L.drop 1).any p=l.any p:=by
 have e:L.drop 1=giv.drop 1++l:=by rw [h];rfl
 rw [e,List.any_append,List.any_eq_false.2 (fun c hc=>by rw [hp c hc];exact Bool.false_ne_true),Bool.false_or]
theorem zmv{L:List zb}{n:Tx}{c:zb}(h:cl L n=some c):idx L (atN L n)=some c:=by rw [zmW,h]
theorem zwy{L:List zb}(hL:L.length≤100){c:zb}(hi:c.Impl.length≤4)(hh:∀s∈c.Impl,zc7 L s=true)(b:Bool):
  zu (fun z=>zdC L c z.1 z.2) (b,0)=some (.inl (b||c.Impl.any (fun s=>!isF L s))):=by
 have key:∀(r pre:List Tx) (b:Bool),c.Impl=pre++r→zu (fun z=>zdC L c z.1 z.2) (b,(pre.length:Int))=some (.inl (b||r.any (fun s=>!isF L s))):=by
  intro r
  induction r with
  |nil =>
   intro pre b e
   rw [List.append_nil] at e
   rw [zL]
   show (zdC L c b (pre.length:Int)).bind _=_
   unfold zdC
   rw [←e,zgY]
   simp
  |cons s r ih =>
   intro pre b e
   have hlen:c.Impl.length=pre.length+(r.length+1):=by rw [e];simp
   have hx:c.Impl[pre.length]?=some s:=by rw [e];simp
   obtain ⟨d,hd⟩:=zgz (hh s (List.mem_of_getElem? hx))
   have step:zdC L c b (pre.length:Int)=some (.inl (b||!isF L s,((pre.length+1:Nat):Int))):=by
    unfold zdC
    rw [zgj hx,zB,hx]
    simp only [cond_true,Option.bind_some]
    rw [zjQ (by omega)]
    simp only [Option.bind_some]
    rw [zmv hd,zay (by omega)]
    unfold isF
    rw [hd]
    cases b <;> rfl
   rw [zL]
   show (zdC L c b (pre.length:Int)).bind _=_
   rw [step]
   show zu (fun z=>zdC L c z.1 z.2) (b||!isF L s,((pre.length+1:Nat):Int))=_
   have:=ih (pre++[s]) (b||!isF L s) (by rw [e];simp)
   rw [show (pre++[s]).length=pre.length+1 by simp] at this
   rw [this,List.any_cons,Bool.or_assoc]
 exact key c.Impl [] b rfl
theorem zz9{L:List zb}(hL:L.length≤100)(h1:1≤L.length)(hO:∀c∈L,Okc c)(h:zyG L)(hS:∀c∈L.drop 1,c.Super≠[]):
  zu (fun z=>ze5 L z) 1=some (zpo () (cond ((L.drop 1).any (zsU L)) (some (none,1)) none)):=by
 rw [←zdI]
 refine zlQ (k:=1) (fun i c hk hc=>?_) ?_ h1
 ·show ze5 L (i:Int)=_
  have hcm:=List.mem_of_getElem? hc
  have hi:=(List.getElem?_eq_some_iff.1 hc).1
  have hcd:c∈L.drop 1:=List.mem_of_getElem? (i:=i-1) (by rw [List.getElem?_drop,show 1+(i-1)=i by omega,hc])
  obtain ⟨x,hx⟩:=zgz (h.closed c hcm c.Super (by simp) (hS c hcd))
  have himp:∀s∈c.Impl,zc7 L s=true:=fun s hs=>h.closed c hcm s (by simp [hs]) ((hO c hcm).implE s hs)
  unfold ze5
  rw [zgj hc,zB,hc]
  simp only [cond_true,Option.bind_some]
  rw [zjQ (by omega)]
  simp only [Option.bind_some]
  rw [zmv hx]
  simp only [Option.bind_some]
  rw [zxQ hL hO h hc]
  simp only [Option.bind_some]
  unfold zhq
  rw [zwy hL (hO c hcm).impl himp,zwy hL (hO c hcm).impl himp]
  simp only [Option.bind_some,zU]
  unfold zjh
  rw [zay (by omega)]
  show _=some (zuc i (cond (zsU L c) _ _))
  unfold zsU
  rw [show isF L c.Super=x.Interface by unfold isF;rw [hx]]
  cases x.Interface <;> cases (c.Impl.any fun s=>!isF L s) <;> cases cyc L c.Name <;> rfl
 ·show ze5 L (L.length:Int)=_
  unfold ze5
  rw [zgY];rfl
theorem zvg{L l:List zb}(h:L=giv++l)(hS:∀c∈l,c.Super≠[]):∀c∈L.drop 1,c.Super≠[]:=by
 have e:L.drop 1=giv.drop 1++l:=by rw [h];rfl
 intro c hc
 rw [e] at hc
 rcases List.mem_append.1 hc with e |e
 ·have:=List.all_eq_true.1 zrT c e
  intro e2
  rw [e2] at this;cases this
 ·exact hS c e
theorem ztC{l:List zb}(hc:∀c∈l,zzJ c):znu l=some ((zwZ l).1.map zR.mk,(zwZ l).2):=by
 unfold znu zwZ
 cases hl:decide (16<(l.length:Int)) with
 |true=>rfl
 |false =>
  have hl:=of_decide_eq_false hl
  rw [zqQ]
  simp only [cond_false,Option.bind_some]
  have hl16:l.length≤16:=by omega
  rw [show zu (fun z=>zeb l z.1 z.2) (giv,0)=_ from zxo hl16 hc l [] giv rfl rfl]
  cases hy:lay giv l with
  |none=>rfl
  |some L =>
   obtain ⟨k1,k2,k3⟩:=zqB l giv L zqo hy
   have hO:=zri hy
   have hlen:L.length≤100:=by rw [k1,List.length_append];have:giv.length=10:=rfl;omega
   have hpos:1≤L.length:=by rw [k1,List.length_append];have:giv.length=10:=rfl;omega
   simp only [Option.bind_some,zU]
   unfold zkJ
   rw [zBD hlen hpos hO,zug k1 (fun c hc=>zAU k1 hc)]
   cases hmis:l.any (mis L) with
   |true=>rfl
   |false =>
    obtain ⟨hL,hS⟩:=ztQ hy hmis
    simp only [cond_false,Option.bind_some,zU,zpo]
    unfold zkE
    rw [zz9 hlen hpos hO hL (zvg k1 hS),zug k1 (fun c hc=>zv0 k1 hL.noE (List.mem_of_mem_drop hc))]
    cases hb:l.any (zsU L) with
    |true=>rfl
    |false=>rfl
structure zeW(l L:List zb):Prop extends Wf L where
 app:L=giv++l
 few:l.length≤16
 okc:∀c∈L,Okc c
 may:∀c∈l,zqx c=true
theorem zeW.len{l L:List zb}(h:zeW l L):L.length≤26:=by
 rw [h.app,List.length_append];have:giv.length=10:=rfl;have:=h.few;omega
theorem zx2{l L:List zb}(h:(zwZ l).1=some L):zeW l L∧(zwZ l).2=0:=by
 unfold zwZ at h ⊢
 cases hl:decide (16<(l.length:Int)) with
 |true=>rw [hl] at h;cases h
 |false =>
  rw [hl] at h
  have hl:=of_decide_eq_false hl
  simp only [cond_false] at h ⊢
  cases hy:lay giv l with
  |none=>rw [hy] at h;cases h
  |some L' =>
   rw [hy] at h
   simp only at h ⊢
   cases hmis:l.any (mis L') with
   |true=>rw [hmis] at h;cases h
   |false =>
    cases hb:l.any (zsU L') with
    |true=>rw [hmis,hb] at h;cases h
    |false =>
     rw [hmis,hb] at h
     have e:L'=L:=by
      have h:some L'=some L:=h
      cases h;rfl
     subst e
     obtain ⟨hL,hS⟩:=ztQ hy hmis
     obtain ⟨k1,k2,k3⟩:=zqB l giv L' zqo hy
     have bad:∀c∈L',zsU L' c=false:=fun c hc=>by
      rw [k1] at hc
      rcases List.mem_append.1 hc with e |e
      ·exact zv0 k1 hL.noE e
      ·simpa using List.any_eq_false.1 hb c e
     have bad':∀c∈L',isF L' c.Super=false∧(c.Impl.any (fun s=>!isF L' s)=false∧cyc L' c.Name=false):=fun c hc=>by
      have:=bad c hc
      unfold zsU at this
      rw [Bool.or_eq_false_iff,Bool.or_eq_false_iff] at this
      exact this
     refine ⟨⟨⟨hL,fun n hr=>?_,fun c hc=>(bad' c hc).1,fun c hc s hs=>?_⟩,k1,by omega,zri hy,k3⟩,rfl⟩
     ·cases hn:cl L' n with
      |none =>
       have:nxA L' n=[]:=by unfold nxA;rw [hn]
       cases hr with
       |one h=>rw [this] at h;cases h
       |more h _=>rw [this] at h;cases h
      |some c =>
       have h1:=(bad' c (zcU hn).1).2.2
       rw [(zcU hn).2] at h1
       rw [zru.2 hr] at h1;cases h1
     ·have:=List.any_eq_false.1 (bad' c hc).2.1 s hs
      simpa using this
section
variable {l L : List zb} {m : List (Tx × Int)}
theorem zpD(h:zeW l L)(hm:zdG L m):∀(d:Nat) (n:Tx) (acc:List Tx),zvV L d n=true→acc.length+d≤200→zu (fun z=>za1 L m z.1 z.2) (n,acc)=some (.inl (acc++sup L d n))
 | 0,n,acc,hf,hd=>by
  rw [zL]
  show (za1 L m n acc).bind _=_
  unfold za1 zbQ
  rw [hm.has]
  have:zc7 L n=false:=by simpa [zvV] using hf
  rw [this]
  simp [sup]
 |d+1,n,acc,hf,hd=>by
  rw [zL]
  show (za1 L m n acc).bind _=_
  unfold za1 zbQ
  rw [hm.has]
  unfold zvV at hf
  unfold sup
  cases hc:cl L n with
  |none=>rw [zmG hc];simp
  |some c =>
   rw [hc] at hf
   rw [zhl hc,zqG hm (zhl hc),hc,zdw (by simp;omega) (by simp;omega)]
   show zu (fun z=>za1 L m z.1 z.2) (c.Super,acc++[n])=_
   rw [zpD h hm d c.Super (acc++[n]) hf (by simp;omega)]
   simp
def zgP(L:List zb)(n:Tx):List Tx:=sup L L.length n
theorem zlD(h:zeW l L)(hm:zdG L m)(n:Tx):zbH L m n=some (zgP L n):=by
 unfold zbH
 rw [zpD h hm L.length n [] (zuW h.toWf n) (by have:=h.len;simp;omega)]
 rfl
theorem zlK(h:zeW l L):∀(d:Nat) (n:Tx) (acc:List Tx),zvV L d n=true→acc.length+d≤200→zu (fun z=>zaX L z.1 z.2) (acc,atN L n)=some (.inl (acc++sup L d n))
 | 0,n,acc,hf,hd=>by
  rw [zL]
  show (zaX L acc (atN L n)).bind _=_
  unfold zaX
  have:zc7 L n=false:=by simpa [zvV] using hf
  rw [zo2,this]
  simp [sup]
 |d+1,n,acc,hf,hd=>by
  rw [zL]
  show (zaX L acc (atN L n)).bind _=_
  unfold zaX
  rw [zo2]
  unfold zvV at hf
  unfold sup
  cases hc:cl L n with
  |none=>rw [zmG hc];simp
  |some c =>
   rw [hc] at hf
   have:=h.len
   rw [zhl hc,zmv hc]
   simp only [cond_true,Option.bind_some]
   rw [zjQ (by omega),zdw (by simp;omega) (by simp;omega),(zcU hc).2]
   show zu (fun z=>zaX L z.1 z.2) (acc++[n],atN L c.Super)=_
   rw [zlK h d c.Super (acc++[n]) hf (by simp;omega)]
   simp
theorem zhE(h:zeW l L)(n:Tx):zby L n=some (zgP L n):=by
 have:=h.len
 unfold zby
 rw [zjQ (by omega)]
 simp only [Option.bind_some]
 rw [zlK h L.length n [] (zuW h.toWf n) (by simp;omega)]
 rfl
theorem zwE:∀(d:Nat) (n:Tx),(sup L d n).length≤d
 | 0,n=>by simp [sup]
 |d+1,n=>by
  unfold sup
  cases cl L n with
  |none=>simp
  |some c=>have:=zwE d c.Super;simpa using this
theorem zg2(h:zeW l L)(n:Tx):(zgP L n).length≤26:=Nat.le_trans (zwE _ n) h.len
theorem zwt(h:zeW l L):∀d,sup L d []=[]
 | 0=>rfl
 |d+1=>by
  unfold sup
  cases hE:cl L [] with
  |none=>rfl
  |some c=>have:=zhl hE;rw [h.noE] at this;cases this
theorem zj9(h:zeW l L):∀(d:Nat) (n x:Tx),x∈sup L d n→zc7 L x=true∧(x=n∨Rc (nxA L) n x)∧(x=n∨∃c∈L,x=c.Super)
 | 0,n,x,hx=>by simp [sup] at hx
 |d+1,n,x,hx=>by
  unfold sup at hx
  cases hc:cl L n with
  |none=>rw [hc] at hx;cases hx
  |some c =>
   rw [hc] at hx
   rcases List.mem_cons.1 hx with e |e
   ·subst e;exact ⟨zhl hc,.inl rfl,.inl rfl⟩
   ·obtain ⟨h1,h2,h3⟩:=zj9 h d c.Super x e
    have hne:c.Super≠[]:=fun e2=>by rw [e2,zwt h] at e;cases e
    have h6:c.Super∈nxA L n:=by rw [zpu hc];exact List.mem_filter.2 ⟨by simp,by simpa using hne⟩
    refine ⟨h1,.inr ?_,.inr ?_⟩
    ·rcases h2 with e2 |e2
     ·rw [e2];exact .one h6
     ·exact .more h6 e2
    ·rcases h3 with e2 |e2
     ·exact ⟨c,(zcU hc).1,e2⟩
     ·exact e2
theorem zsz(h:zeW l L):∀(d:Nat) (n:Tx),(sup L d n).Nodup
 | 0,n=>by simp [sup]
 |d+1,n=>by
  unfold sup
  cases hc:cl L n with
  |none=>simp
  |some c =>
   refine List.nodup_cons.2 ⟨fun hm=>?_,zsz h d c.Super⟩
   have hne:c.Super≠[]:=fun e2=>by rw [e2,zwt h] at hm;cases hm
   have h6:c.Super∈nxA L n:=by rw [zpu hc];exact List.mem_filter.2 ⟨by simp,by simpa using hne⟩
   obtain ⟨_,h2,_⟩:=zj9 h d c.Super n hm
   rcases h2 with e2 |e2
   ·exact h.acyc n (.one (by rw [←e2] at h6;exact h6))
   ·exact h.acyc n (.more h6 e2)
theorem zxt(h:zeW l L){n x:Tx}(hx:x∈zgP L n):x∈L.map (·.Name):=ziu.1 (zj9 h _ n x hx).1
theorem zxe{n:Tx}(hn:zc7 L n=true):n∈zgP L n:=by
 unfold zgP
 obtain ⟨c,hc⟩:=zgz hn
 have:L≠[]:=fun e=>by rw [e] at hn;cases hn
 cases hL:L.length with
 |zero=>exact absurd (List.eq_nil_of_length_eq_zero hL) this
 |succ d=>unfold sup;rw [hc];simp
theorem zlr{n:Tx}(hn:zc7 L n=false):zgP L n=[]:=by
 unfold zgP
 cases L.length with
 |zero=>rfl
 |succ d =>
  unfold sup
  cases hc:cl L n with
  |none=>rfl
  |some c=>rw [zhl hc] at hn;cases hn
end
theorem zqS:∀(a b:List UInt8),Op.bytesLess a b=true↔a<b
 |a,[]=>by
  have e:Op.bytesLess a []=false:=by cases a <;> rfl
  rw [e]
  constructor
  ·intro h;cases h
  ·intro h;exact absurd h (List.not_lt_nil a)
 | [],b ::y=>by
  constructor
  ·intro _;exact List.nil_lt_cons b y
  ·intro _;rfl
 |a ::x,b ::y=>by
  rw [List.cons_lt_cons_iff,←zqS x y]
  show (decide (a<b)||(a == b&&Op.bytesLess x y))=true↔_
  rw [Bool.or_eq_true,decide_eq_true_eq,Bool.and_eq_true,beq_iff_eq]
theorem zsF:∀(s:Tx) (l:List Tx),zuI s l=l.takeWhile (fun x=>Op.bytesLess x s)++s ::l.dropWhile (fun x=>Op.bytesLess x s)
 |s,[]=>rfl
 |s,x ::r=>by
  unfold zuI
  rw [List.takeWhile_cons,List.dropWhile_cons]
  by_cases h:s≤x
  ·rw [if_pos h]
   have:¬(Op.bytesLess x s=true):=fun h2=>absurd ((zqS x s).1 h2) (List.not_lt.2 h)
   rw [if_neg this,if_neg this];rfl
  ·rw [if_neg h]
   have:Op.bytesLess x s=true:=(zqS x s).2 (List.not_le.1 h)
   rw [if_pos this,if_pos this,zsF s r];rfl
theorem zlO{s:Tx}{l:List Tx}(hl:l.length≤1000):∀(r pre:List Tx),l=pre++r→zu (fun z=>zcS l s z) (pre.length:Int)=some (.inl ((pre.length+(r.takeWhile (fun x=>Op.bytesLess x s)).length:Nat):Int))
 | [],pre,e=>by
  rw [List.append_nil] at e
  rw [zL]
  show (zcS l s (pre.length:Int)).bind _=_
  unfold zcS
  rw [←e,zgY];rfl
 |x ::r,pre,e=>by
  have hlen:l.length=pre.length+(r.length+1):=by rw [e];simp
  have hx:l[pre.length]?=some x:=by rw [e];simp
  rw [zL]
  show (zcS l s (pre.length:Int)).bind _=_
  unfold zcS
  rw [zgj hx,zB,hx,List.takeWhile_cons,zay (by omega)]
  cases hb:Op.bytesLess x s with
  |false=>simp [hb]
  |true =>
   simp only [cond_true,Option.bind_some,hb,if_true]
   show zu (fun z=>zcS l s z) ((pre.length+1:Nat):Int)=_
   have:=zlO (s:=s) hl r (pre++[x]) (by rw [e];simp)
   rw [show (pre++[x]).length=pre.length+1 by simp] at this
   rw [this,List.length_cons]
   congr 2
   omega
theorem zwD{α:Type}(p:α→Bool):∀(l:List α),l.take (l.takeWhile p).length=l.takeWhile p∧l.drop (l.takeWhile p).length=l.dropWhile p∧(l.takeWhile p).length≤l.length
 | []=>by simp
 |x ::r=>by
  rw [List.takeWhile_cons,List.dropWhile_cons]
  cases p x with
  |false=>simp
  |true =>
   obtain ⟨h1,h2,h3⟩:=zwD p r
   simp [h1,h2,h3]
theorem zqW{s:Tx}{l:List Tx}(hl:l.length≤900):zi0 l s=some (zuI s l):=by
 unfold zi0
 obtain ⟨h1,h2,h3⟩:=zwD (fun x=>Op.bytesLess x s) l
 rw [show zu (fun z=>zcS l s z) 0=_ from zlO (by omega) l [] rfl]
 simp only [Option.bind_some,zU,List.length_nil,Nat.zero_add]
 unfold zib
 rw [znS h3,h1]
 simp only [Option.bind_some]
 rw [zdw (w:=16) (l:=[]) (by simp;omega) (by simp;omega)]
 simp only [Option.bind_some,List.nil_append]
 rw [zir h3,h2]
 simp only [Option.bind_some]
 rw [zdw (w:=16) (x:=[s]) (by simp;omega) (by simp;omega)]
 simp only [Option.bind_some]
 have h4:(l.dropWhile (fun x=>Op.bytesLess x s)).length≤l.length:=by rw [←h2,List.length_drop];omega
 rw [zdw (w:=16) (by simp;omega) (by simp;omega),zsF]
 simp
theorem zmJ:∀{l:List Tx} (a:Tx),l.Nodup→l.count a=if a∈l then 1 else 0
 | [],a,_=>by simp
 |x ::r,a,h=>by
  rw [List.nodup_cons] at h
  rw [List.count_cons,zmJ a h.2]
  by_cases e:x=a
  ·subst e
   simp [h.1]
  ·have:a≠x:=fun e2=>e e2.symm
   simp [e,this]
theorem zvN{a b:List Tx}(ha:a.Nodup)(hb:b.Nodup)(h:∀x,x∈a↔x∈b):a.Perm b:=by
 rw [List.perm_iff_count]
 intro x
 rw [zmJ x ha,zmJ x hb]
 by_cases hx:x∈a
 ·rw [if_pos hx,if_pos ((h x).1 hx)]
 ·rw [if_neg hx,if_neg (fun hb=>hx ((h x).2 hb))]
theorem zxs{a b:List Tx}(ha:a.Pairwise (·≤·))(hb:b.Pairwise (·≤·))(h:a.Perm b):a=b:=
 List.Perm.eq_of_pairwise (fun a b _ _ h1 h2=>List.le_antisymm h1 h2) ha hb h
theorem zsA{nx:Tx→List Tx}:∀(d i:Nat) (zad:List Tx),zad.Nodup→(bfs nx d i zad).Nodup
 | 0,i,zad,h=>h
 |d+1,i,zad,h=>by
  unfold bfs
  cases zad[i]? with
  |none=>exact h
  |some x =>
   refine zsA d (i+1) _ ?_
   obtain ⟨t,k1,k2,k3,k4⟩:=ziD (nx x) zad
   rw [k1]
   exact List.nodup_append.2 ⟨h,k2,fun a ha b hb e=>(k3 b hb).1 (by rw [←e];exact ha)⟩
theorem zpl{R:Type}{I:List Tx→Prop}{nx:Tx→List Tx}{p:Tx→Bool}{body:List Tx×List Tx×Int→Option (Sum (List Tx×List Tx×Int) (Sum (List Tx) R))}
  (hb:∀(i:Nat) acc zad x,I zad→acc.length≤i→zad[i]?=some x→body (acc,zad,(i:Int))=some (.inl (cond (p x) (acc++[x]) acc,push zad (nx x),((i+1:Nat):Int))))
  (he:∀(i:Nat) acc zad,I zad→zad.length≤i→body (acc,zad,(i:Int))=some (.inr (.inl acc)))
  (hp:∀zad x,I zad→x∈zad→I (push zad (nx x))):∀(d i:Nat) (acc zad:List Tx),I zad→acc.length≤i→fin nx d i zad=true →
  zu body (acc,zad,(i:Int))=some (.inl (acc++((bfs nx d i zad).drop i).filter p))
 | 0,i,acc,zad,hI,ha,hf=>by
  have hl:zad.length≤i:=of_decide_eq_true hf
  rw [zL,he i acc zad hI hl]
  show some (Sum.inl acc:Sum (List Tx) R)=some (Sum.inl (acc++((zad.drop i).filter p)))
  rw [List.drop_eq_nil_of_le hl]
  simp
 |d+1,i,acc,zad,hI,ha,hf=>by
  unfold fin at hf
  unfold bfs
  cases hi:zad[i]? with
  |none =>
   have hl:zad.length≤i:=List.getElem?_eq_none_iff.1 hi
   rw [zL,he i acc zad hI hl]
   show some (Sum.inl acc:Sum (List Tx) R)=some (Sum.inl (acc++((zad.drop i).filter p)))
   rw [List.drop_eq_nil_of_le hl]
   simp
  |some x =>
   rw [hi] at hf
   obtain ⟨t,ht⟩:=zmU (nx:=nx) d (i+1) (push zad (nx x))
   obtain ⟨u,hu,_⟩:=ziD (nx x) zad
   have hx:(bfs nx d (i+1) (push zad (nx x)))[i]?=some x:=by
    rw [ht,hu,List.append_assoc,List.getElem?_append_left (List.getElem?_eq_some_iff.1 hi).1,hi]
   obtain ⟨hlt,hge⟩:=List.getElem?_eq_some_iff.1 hx
   have ih:=fun a ha=>zpl hb he hp d (i+1) a _ (hp _ _ hI (List.mem_of_getElem? hi)) ha hf
   rw [zL,hb i acc zad x hI ha hi]
   show zu body (cond (p x) (acc++[x]) acc,push zad (nx x),((i+1:Nat):Int))=some (.inl (acc++((bfs nx d (i+1) (push zad (nx x))).drop i).filter p))
   rw [ih _ (by cases p x <;> simp <;> omega),List.drop_eq_getElem_cons hlt,hge]
   cases hpx:p x with
   |true=>rw [List.filter_cons_of_pos hpx];simp
   |false=>rw [List.filter_cons_of_neg (by rw [hpx];exact Bool.false_ne_true)];rfl
def zkY(L:List zb)(n:Tx):List Tx:=bfs (nxI L) 100 0 (zgP L n)
def ze4(L:List zb)(n:Tx):List Tx:=zob ((zkY L n).filter (isF L))
section
variable {l L : List zb} {m : List (Tx × Int)}
theorem zuH(h:zeW l L)(n:Tx):fin (nxI L) 100 0 (zgP L n)=true:=
 zxc (U:=List.map (fun c:zb=>c.Name) L) (s0:=zgP L n) h.nxI_in _ _ _ .start (by have:=zg2 h n;have:=h.len;simp;omega)
theorem zue(h:zeW l L)(n:Tx):Inv (List.map (fun c:zb=>c.Name) L) (zgP L n) (zkY L n):=zwd h.nxI_in _ _ _ .start
theorem zuP(h:zeW l L)(n:Tx):(zkY L n).length≤52:=by
 have h1:=(zue h n).len
 have h2:=zg2 h n
 have h3:=h.len
 simp only [List.length_map] at h1
 omega
theorem zqO(h:zeW l L){n x:Tx}(hx:x∈zkY L n):zc7 L x=true:=ziu.2 ((zue h n).mem (fun y hy=>zxt h hy) x hx)
theorem zxX{n:Tx}{c:zb}(hc:cl L n=some c):nxI L n=c.Impl:=by unfold nxI;rw [hc]
theorem zvO{R:Type}{body:List Tx×Int→Option (Sum (List Tx×Int) (Sum (List Tx) R))}{l:List Tx}(hl:l.length≤100)
  (hb:∀(i:Nat) x zad,zad.length≤1000→l[i]?=some x→body (zad,(i:Int))=some (.inl (cond (!(zad.any fun y=>x == y)) (zad++[x]) zad,IntKind.i64.wrap ((i:Int)+1))))
  (he:∀zad,body (zad,(l.length:Int))=some (.inr (.inl zad))) (zad:List Tx) (hs:zad.length≤800):zu body (zad,0)=some (.inl (push zad l)):=by
 have:=zps (p:=fun _=>true) hl (fun i x s h hx=>by rw [hb i x s h hx];rfl) he l [] zad rfl (by omega)
 rw [List.filter_eq_self.2 (fun _ _=>rfl)] at this
 exact this
theorem zrU(h:zeW l L)(hm:zdG L m)(n:Tx):zdN L m n=some (ze4 L n):=by
 unfold zdN zbQ
 rw [hm.has]
 cases hn:zc7 L n with
 |false =>
  unfold ze4 zkY
  rw [zlr hn]
  rfl
 |true =>
  rw [zlD h hm]
  simp only [Bool.not_true,cond_false,Option.bind_some]
  have h26:=h.len
  have hs26:=zg2 h n
  have hl:=zpl (R:=List Tx) (I:=fun s=>Inv (List.map (fun c:zb=>c.Name) L) (zgP L n) s) (nx:=nxI L) (p:=isF L) (body:=fun z=>zaY L m z.1 z.2.1 z.2.2)
   (fun i acc zad x hI ha hx=>by
    have hsl:=hI.len
    simp only [List.length_map] at hsl
    have hxm:zc7 L x=true:=ziu.2 (hI.mem (fun y hy=>zxt h hy) x (List.mem_of_getElem? hx))
    obtain ⟨c,hc⟩:=zgz hxm
    have h4:=(h.okc c (zcU hc).1).impl
    have hilt:=(List.getElem?_eq_some_iff.1 hx).1
    have hp:∀acc',zb8 zad (i:Int) c acc'=some (.inl (acc',push zad c.Impl,((i+1:Nat):Int))):=fun acc'=>by
     unfold zb8
     rw [zvO (l:=c.Impl) (by omega) (fun j y s hs hy=>by
      show zb9 c s (j:Int)=_
      unfold zb9 zcJ
      rw [zgj hy,zB,hy]
      simp only [cond_true,Option.bind_some]
      rw [zoN hs,zdw (w:=16) (l:=s) (x:=[y]) (by simp;omega) (by simp;omega)]
      cases (s.any fun z=>y == z) <;> rfl) (fun s=>by
      show zb9 c s (c.Impl.length:Int)=_
      unfold zb9
      rw [zgY];rfl) zad (by omega)]
     simp only [Option.bind_some,zU]
     unfold zef
     rw [zay (by omega)]
    show zaY L m acc zad (i:Int)=_
    unfold zaY
    rw [zgj hx,zB,hx]
    simp only [cond_true,Option.bind_some]
    rw [zqG hm hxm,hc]
    simp only [Option.bind_some]
    rw [hp,zdw (w:=16) (l:=acc) (x:=[c.Name]) (by simp;omega) (by simp;omega)]
    simp only [Option.bind_some]
    rw [hp,zxX hc,(zcU hc).2]
    have e:isF L x=c.Interface:=by unfold isF;rw [hc]
    rw [e]
    cases c.Interface <;> rfl)
   (fun i acc zad hI hle=>by
    show zaY L m acc zad (i:Int)=_
    unfold zaY
    rw [decide_eq_false (by omega)];rfl)
   (fun zad y hI hy=>hI.push (h.nxI_in y)) 100 0 [] (zgP L n) .start (by simp) (zuH h n)
  rw [show zu (fun z=>zaY L m z.1 z.2.1 z.2.2) ([],zgP L n,0)=_ from hl]
  simp only [Option.bind_some,zU,List.drop_zero,List.nil_append]
  unfold zee zvh
  have h1:((bfs (nxI L) 100 0 (zgP L n)).filter (isF L)).length≤52:=Nat.le_trans (List.length_filter_le _ _) (zuP h n)
  rw [if_pos (by omega)]
  rfl
theorem zrP(n:Tx):(ze4 L n).Pairwise (·≤·):=zkH _
theorem zsT{n x:Tx}:x∈ze4 L n↔x∈zkY L n∧isF L x=true:=by
 unfold ze4
 rw [(zg8 _).mem_iff,List.mem_filter]
theorem zvt(h:zeW l L)(n:Tx):(zkY L n).Nodup:=zsA _ _ _ (zsz h _ n)
theorem zrG{n x:Tx}(hx:x∈zgP L n):x∈zkY L n:=by
 obtain ⟨t,e⟩:=zmU (nx:=nxI L) 100 0 (zgP L n)
 unfold zkY
 rw [e];exact List.mem_append_left _ hx
theorem zoY(h:zeW l L){n x y:Tx}(hx:x∈zkY L n)(hy:y∈nxI L x):y∈zkY L n:=
 znH 100 0 _ (zuH h n) (fun j x hj=>by omega) x hx y hy
end
theorem zl2{l:List Tx}(hl:l.length≤1000)(n:Tx):zjo l n=some (l.any fun y=>y == n):=by
 unfold zjo
 rw [show zu (fun z=>zfT l n z) 0=some (zpo () (cond (l.any fun y=>y == n) (some true) none)) from by
  rw [←zdI]
  refine zeO (fun i x hx=>?_) ?_
  ·show zfT l n (i:Int)=_
   have hi:=(List.getElem?_eq_some_iff.1 hx).1
   unfold zfT
   rw [zgj hx,zB,hx,zay (by omega)]
   simp only [cond_true,Option.bind_some]
   cases x == n <;> rfl
  ·show zfT l n (l.length:Int)=_
   unfold zfT
   rw [zgY];rfl]
 cases (l.any fun y=>y == n) <;> rfl
section
variable {l L : List zb}
def zyD(L:List zb)(n:Tx)(k:Nat):Bool:=match L[k]? with |some c=>(zgP L n).any (fun y=>y == c.Name) |none=>false
theorem ztn(h:zeW l L){c:zb}(hc:c∈L){inn:List Bool}(hi:inn.length=L.length)(more:Bool):
  zu (fun z=>zch L c z.1 z.2.1 z.2.2) (inn,more,0)=some (.inl (mkS L inn c.Impl,more||c.Impl.any (zpF L inn))):=by
 have h26:=h.len
 have h4:=(h.okc c hc).impl
 refine znM (l:=c.Impl) (by omega) (fun j s inn more hi hs=>?_) (fun inn more=>?_) c.Impl [] inn more rfl hi
 ·show zch L c inn more (j:Int)=_
  have hsm:=List.mem_of_getElem? hs
  have hh:zc7 L s=true:=h.closed c hc s (List.mem_cons_of_mem _ hsm) ((h.okc c hc).implE s hsm)
  unfold zch zdn
  rw [zgj hs,zB,hs]
  simp only [cond_true,Option.bind_some]
  rw [zjQ (by omega)]
  simp only [Option.bind_some]
  unfold mk1 zpF
  obtain ⟨g1,g2⟩:=zs0 hh
  have e:idx inn (atN L s)=some (onB inn (atN L s).toNat):=by
   unfold idx onB
   rw [if_pos g1,List.getD_eq_getElem?_getD,List.getElem?_eq_getElem (by omega)];rfl
  rw [e,hh]
  simp only [Option.bind_some,Bool.true_and]
  cases onB inn (atN L s).toNat <;> simp
 ·show zch L c inn more (c.Impl.length:Int)=_
  unfold zch
  rw [zgY];rfl
theorem zvz(h:zeW l L)(n:Tx){inn:List Bool}(hi:inn.length=L.length)(more:Bool):
  zu (fun z=>zb5 L (zgP L n) z.1 z.2.1 z.2.2) (inn,more,0)=some (.inl (ziM L (·.Impl) (zyD L n) inn 0 L,more||zl5 L (·.Impl) (zyD L n) inn 0 L)):=by
 have h26:=h.len
 have hs26:=zg2 h n
 refine zpG (st:=fun a b c=>(a,b,c)) (nx:=(·.Impl)) (act:=zyD L n) (by omega) (fun k c inn more hi hc=>?_) (fun inn more=>?_) L [] inn more rfl hi
 ·show zb5 L (zgP L n) inn more (k:Int)=_
  have hk:=(List.getElem?_eq_some_iff.1 hc).1
  have e:zyD L n k=(zgP L n).any (fun y=>y == c.Name):=by unfold zyD;rw [hc]
  unfold zb5
  rw [zgj hc,ztT (by omega),zB,hc]
  simp only [cond_true,Option.bind_some]
  rw [zl2 (by omega),ztn h (List.mem_of_getElem? hc) hi,e]
  unfold zff zdk
  rw [zay (by omega)]
  cases onB inn k <;> cases ((zgP L n).any (fun y=>y == c.Name)) <;> rfl
 ·show zb5 L (zgP L n) inn more (L.length:Int)=_
  unfold zb5
  rw [zgY];rfl
def zjc(F:List Bool):Nat→List zb→List Tx
 |_,[]=>[]
 |k,c ::r=>cond (onB F k) (c.Name ::zjc F (k+1) r) (zjc F (k+1) r)
theorem zmK{F:List Bool}:∀(r:List zb) (k:Nat) (x:Tx),x∈zjc F k r↔∃(j:Nat) (c:zb),r[j]?=some c∧onB F (k+j)=true∧c.Name=x
 | [],k,x=>by
  constructor
  ·intro h;cases h
  ·rintro ⟨j,c,h,_⟩;simp at h
 |c ::r,k,x=>by
  have ih:=zmK (F:=F) r (k+1) x
  have back:(∃(j:Nat) (d:zb),r[j]?=some d∧onB F (k+1+j)=true∧d.Name=x)↔∃(j:Nat) (d:zb),0<j∧(c ::r)[j]?=some d∧onB F (k+j)=true∧d.Name=x:=by
   constructor
   ·rintro ⟨j,d,h1,h2,h3⟩
    exact ⟨j+1,d,by omega,by simpa using h1,by rw [show k+(j+1)=k+1+j by omega];exact h2,h3⟩
   ·rintro ⟨j,d,h0,h1,h2,h3⟩
    cases j with
    |zero=>omega
    |succ j=>exact ⟨j,d,by simpa using h1,by rw [show k+1+j=k+(j+1) by omega];exact h2,h3⟩
  unfold zjc
  cases hb:onB F k with
  |true =>
   rw [cond_true,List.mem_cons,ih,back]
   constructor
   ·rintro (e |⟨j,d,_,h1⟩)
    ·exact ⟨0,c,rfl,hb,e.symm⟩
    ·exact ⟨j,d,h1⟩
   ·rintro ⟨j,d,h1,h2,h3⟩
    cases j with
    |zero=>left;have e:c=d:=(by simpa using h1);rw [e];exact h3.symm
    |succ j=>exact .inr ⟨j+1,d,by omega,h1,h2,h3⟩
  |false =>
   rw [cond_false,ih,back]
   constructor
   ·rintro ⟨j,d,_,h1⟩;exact ⟨j,d,h1⟩
   ·rintro ⟨j,d,h1,h2,h3⟩
    cases j with
    |zero=>rw [Nat.add_zero,hb] at h2;cases h2
    |succ j=>exact ⟨j+1,d,by omega,h1,h2,h3⟩
theorem znA{F:List Bool}:∀(r pre:List zb),Nd (pre++r)→(zjc F pre.length r).Nodup
 | [],pre,h=>by simp [zjc]
 |c ::r,pre,h=>by
  have ih:=znA (F:=F) r (pre++[c]) (by simpa using h)
  rw [show (pre++[c]).length=pre.length+1 by simp] at ih
  unfold zjc
  cases onB F pre.length with
  |false=>exact ih
  |true =>
   refine List.nodup_cons.2 ⟨fun hm=>?_,ih⟩
   obtain ⟨j,d,h1,_,h3⟩:=(zmK r _ _).1 hm
   have:=h pre.length (pre.length+(j+1)) c d (by simp) (by rw [List.getElem?_append_right (by omega),show pre.length+(j+1)-pre.length=j+1 by omega];simpa using h1) h3.symm
   omega
def zql(acc:List Tx):List Tx→List Tx
 | []=>acc
 |x ::r=>zql (zuI x acc) r
theorem zpk:∀(r acc:List Tx),(zql acc r).Perm (acc++r)
 | [],acc=>by simp [zql]
 |x ::r,acc=>(zpk r (zuI x acc)).trans (by
  refine ((zlt x acc).append_right r).trans ?_
  exact (List.perm_middle (l₁:=acc) (l₂:=r) (a:=x)).symm)
theorem zm9:∀(r acc:List Tx),acc.Pairwise (·≤·)→(zql acc r).Pairwise (·≤·)
 | [],acc,h=>h
 |x ::r,acc,h=>zm9 r _ (zmI x h)
theorem zzm(x:Tx)(l:List Tx):(zuI x l).length=l.length+1:=by rw [(zlt x l).length_eq];rfl
theorem zor{F:List Bool}(hl:L.length≤100)(hF:F.length=L.length):∀(r pre:List zb) (acc:List Tx),L=pre++r→acc.length≤pre.length →
  zu (fun z=>zaU L F z.1 z.2) (acc,(pre.length:Int))=some (.inl (zql acc (zjc F pre.length r)))
 | [],pre,acc,e,ha=>by
  rw [List.append_nil] at e
  rw [zL]
  show (zaU L F acc (pre.length:Int)).bind _=_
  unfold zaU
  rw [←e,zgY];rfl
 |c ::r,pre,acc,e,ha=>by
  have hlen:L.length=pre.length+(r.length+1):=by rw [e];simp
  have hx:L[pre.length]?=some c:=by rw [e];simp
  have ih:=fun a ha=>zor hl hF r (pre++[c]) a (by rw [e];simp) ha
  rw [show (pre++[c]).length=pre.length+1 by simp] at ih
  rw [zL]
  show (zaU L F acc (pre.length:Int)).bind _=_
  unfold zaU
  rw [zgj hx,ztT (by omega),zB,hx]
  simp only [cond_true,Option.bind_some]
  rw [zqW (by omega)]
  unfold zdm zjc
  rw [zay (by omega)]
  cases onB F pre.length with
  |false =>
   show zu (fun z=>zaU L F z.1 z.2) (acc,((pre.length+1:Nat):Int))=_
   exact ih acc (by omega)
  |true =>
   show zu (fun z=>zaU L F z.1 z.2) (zuI c.Name acc,((pre.length+1:Nat):Int))=_
   exact ih _ (by rw [zzm];omega)
theorem ztR(h:zeW l L){s:Tx}(hh:zc7 L s=true):∃d,L[(atN L s).toNat]?=some d∧d.Name=s:=by
 obtain ⟨d,hd⟩:=zgz hh
 have e:=zmW L s
 rw [hd] at e
 obtain ⟨g1,g2⟩:=zs0 hh
 refine ⟨d,?_,(zcU hd).2⟩
 unfold idx at e
 rw [if_pos g1] at e
 exact e
theorem zub(h:zeW l L){n:Tx}(hn:zc7 L n=true){inn:List Bool}(hi:inn.length=L.length)
  (h0:∀k,onB inn k=true↔(isF L n=true∧k=(atN L n).toNat)):zcW L n inn=some (ze4 L n):=by
 have h26:=h.len
 let Q:Nat→Prop:=fun k=>∃c,L[k]?=some c∧c.Name∈zkY L n∧c.Interface=true
 have isF_of:∀{k:Nat} {c:zb},L[k]?=some c→isF L c.Name=c.Interface:=fun {k c} hk=>by
  unfold isF;rw [h.nd.cl (List.mem_of_getElem? hk)]
 have hq0:∀k,onB inn k=true→Q k:=fun k hk=>by
  obtain ⟨h1,h2⟩:=(h0 k).1 hk
  obtain ⟨d,hd,hd2⟩:=ztR h hn
  refine ⟨d,by rw [h2];exact hd,by rw [hd2];exact zrG (zxe hn),?_⟩
  rw [←isF_of hd,hd2];exact h1
 have hQ:∀(j:Nat) c,L[j]?=some c→(Q j∨zyD L n j=true)→∀s∈c.Impl,zc7 L s=true→Q (atN L s).toNat:=fun j c hj hor s hs hh=>by
  have hcT:c.Name∈zkY L n:=by
   rcases hor with ⟨c',hc',hm,_⟩ |ha
   ·rw [hj] at hc';cases hc';exact hm
   ·unfold zyD at ha
    rw [hj] at ha
    have ha:(zgP L n).any (fun y=>y == c.Name)=true:=ha
    rw [List.any_eq_true] at ha
    obtain ⟨y,hy,e⟩:=ha
    rw [←eq_of_beq e];exact zrG hy
  obtain ⟨d,hd,hd2⟩:=ztR h hh
  refine ⟨d,hd,?_,?_⟩
  ·rw [hd2]
   exact zoY h hcT (by rw [zxX (h.nd.cl (List.mem_of_getElem? hj))];exact hs)
  ·rw [←isF_of hd,hd2];exact h.implF c (List.mem_of_getElem? hj) s hs
 obtain ⟨F,k1,k2,k3,k4,k5⟩:=znJ (L:=L) (nx:=(·.Impl)) (act:=zyD L n) (R:=List Tx) (st:=fun a b=>(a,b)) (body:=fun z=>zdq L (zgP L n) z.1 z.2) (Q:=Q)
  (fun inn hi=>by
   show zdq L (zgP L n) inn true=_
   unfold zdq
   rw [zvz h n hi false]
   rfl) (fun inn hi=>rfl) hQ L.length inn hi (by omega) hq0
 unfold zcW
 rw [zhE h]
 simp only [Option.bind_some]
 rw [k1]
 simp only [Option.bind_some,zU]
 unfold zfc
 rw [show zu (fun z=>zaU L F z.1 z.2) ([],0)=_ from zor (by omega) k2 L [] [] rfl (by simp)]
 simp only [Option.bind_some,zU]
 show some (zql [] (zjc F 0 L))=_
 congr 1
 refine zxs (zm9 _ _ (by simp)) (zrP n) ((zpk _ _).trans ?_)
 rw [List.nil_append]
 refine (zvN (znA (F:=F) L [] h.nd) ((zvt h n).filter (isF L)) fun x=>?_).trans (zg8 _).symm
 show x∈zjc F 0 L↔_
 rw [zmK,List.mem_filter]
 constructor
 ·rintro ⟨j,c,h1,h2,h3⟩
  rw [Nat.zero_add] at h2
  obtain ⟨c',hc',hm,hI⟩:=k5 j h2
  rw [h1] at hc';cases hc'
  rw [←h3]
  exact ⟨hm,by rw [isF_of h1];exact hI⟩
 ·rintro ⟨hx,hxF⟩
  have key:∀y∈zkY L n,y∈zkY L n∧(y∈zgP L n∨onB F (atN L y).toNat=true):=by
   refine zpq (Q:=fun y=>y∈zkY L n∧(y∈zgP L n∨onB F (atN L y).toNat=true)) (fun y hy z hz=>?_) 100 0 _ (fun y hy=>⟨zrG hy,.inl hy⟩)
   refine ⟨zoY h hy.1 hz,.inr ?_⟩
   have hyh:=zqO h hy.1
   obtain ⟨d,hd,hd2⟩:=ztR h hyh
   have hzh:=zqO h (zoY h hy.1 hz)
   rw [←hd2,zxX (h.nd.cl (List.mem_of_getElem? hd))] at hz
   refine k3 _ d hd ?_ z hz hzh
   rw [Bool.or_eq_true]
   rcases hy.2 with h1 |h1
   ·right
    unfold zyD
    rw [hd]
    show (zgP L n).any (fun w=>w == d.Name)=true
    rw [hd2,List.any_eq_true]
    exact ⟨y,h1,beq_self_eq_true _⟩
   ·exact .inl h1
  have hxh:=zqO h hx
  obtain ⟨d,hd,hd2⟩:=ztR h hxh
  refine ⟨(atN L x).toNat,d,hd,?_,hd2⟩
  rw [Nat.zero_add]
  rcases (key x hx).2 with h1 |h1
  ·rcases (zj9 h _ n x h1).2.2 with e |⟨c,hc,e⟩
   ·subst e
    exact k4 _ ((h0 _).2 ⟨hxF,rfl⟩)
   ·rw [e,h.superF c hc] at hxF;cases hxF
  ·exact h1
theorem zom(h:zeW l L)(n:Tx):zeQ L n=some (ze4 L n):=by
 have h26:=h.len
 unfold zeQ
 rw [show mkP 1 (L.length:Int)=some L.length by unfold mkP;rw [if_pos (by omega),Int.toNat_natCast],zjQ (by omega)]
 simp only [Option.bind_some]
 rw [zoj]
 have hrep:(List.replicate L.length false).length=L.length:=by simp
 have hoff:∀n,onB (List.replicate L.length false) n=false:=fun n=>by
  unfold onB
  rw [List.getD_eq_getElem?_getD,List.getElem?_replicate]
  split <;> rfl
 cases hn:zc7 L n with
 |false =>
  unfold ze4 zkY
  rw [zlr hn]
  rfl
 |true =>
  obtain ⟨c,hc⟩:=zgz hn
  obtain ⟨g1,g2⟩:=zs0 hn
  have eF:isF L n=c.Interface:=by unfold isF;rw [hc]
  rw [zmv hc]
  simp only [Bool.not_true,cond_false,Option.bind_some]
  cases hI:c.Interface with
  |false =>
   simp only [cond_false]
   refine zub h hn hrep fun k=>?_
   rw [hoff,eF,hI]
   simp
  |true =>
   have e:idx (List.replicate L.length false) (atN L n)=some false:=by
    unfold idx
    rw [if_pos g1,List.getElem?_replicate,if_pos g2]
   rw [e]
   simp only [cond_true,Option.bind_some]
   refine zub h hn (by simp) fun k=>?_
   rw [zzU (by rw [hrep];exact g2),hoff,Bool.false_or,eF,hI,Nat.beq_eq]
   simp
end
def brk:Tx→Bool
 | []=>false
 |x :: _=>x == 91
def ess(s:Tx):Tx:=zfa (zfa s)
theorem zl1{s:Tx}(h:brk s=false):zfa s=s:=by
 cases s with
 |nil=>rfl
 |cons x r =>
  rw [zgt,if_neg]
  intro e
  subst e
  cases h
theorem zkG{s:Tx}(h:brk s=true):zfa s=s.drop 1∧s=91 ::s.drop 1:=by
 cases s with
 |nil=>cases h
 |cons x r =>
  have:x=91:=by simpa [brk] using h
  subst this
  exact ⟨rfl,rfl⟩
theorem zjI{s:Tx}(h:zcx s=true):brk s=false:=by
 cases s with
 |nil=>rfl
 |cons x r =>
  cases hb:(x == 91) with
  |false=>exact hb
  |true =>
   have:x=91:=by simpa using hb
   subst this
   unfold zcx at h
   rw [Bool.and_eq_true] at h
   have h2:zdO 91=true:=h.2
   exact absurd h2 (by decide +kernel)
theorem zzi{s:Tx}(h:zcx s=true):(s == [73])=false:=by
 cases hb:(s == [73]) with
 |false=>rfl
 |true =>
  have:s=[73]:=by simpa using hb
  subst this
  unfold zcx at h
  simp at h
theorem znU{s:Tx}(h:zcx s=true):zfH s=true:=by
 unfold zfH
 rw [zl1 (zjI h),zl1 (zjI h),h,Bool.or_true]
theorem zAX{s:Tx}(h:zfH s=true):brk (ess s)=false:=by
 unfold zfH at h
 rw [Bool.or_eq_true] at h
 rcases h with h |h
 ·unfold ess;rw [eq_of_beq h];rfl
 ·exact zjI h
theorem zoL{s:Tx}(h:zfH s=true)(hb:brk s=true):zfH (s.drop 1)=true∧ess (s.drop 1)=ess s:=by
 obtain ⟨h1,h2⟩:=zkG hb
 have h3:=zAX h
 have e:zfa (zfa (s.drop 1))=zfa (zfa s):=by
  rw [h1]
  exact zl1 (show brk (zfa (s.drop 1))=false from by rw [←h1];exact h3)
 exact ⟨by unfold zfH at h ⊢;rw [e];exact h,e⟩
theorem zpc{s:Tx}(hb:brk s=false):ess s=s:=by unfold ess;rw [zl1 hb,zl1 hb]
theorem zwX:giv.all (fun c=>zcx c.Name)=true:=by decide +kernel
def zx1(L:List zb)(t:Tx):Bool:=(ess t == [73])||zc7 L (ess t)
def thN(L:List zb)(t:Tx):Bool:=zfH t&&zx1 L t
section
variable {l L : List zb} {m : List (Tx × Int)}
theorem zjP(h:zeW l L){n:Tx}(hn:zc7 L n=true):zcx n=true:=by
 obtain ⟨c,hc⟩:=zgz hn
 obtain ⟨h1,h2⟩:=zcU hc
 rw [←h2]
 rw [h.app] at h1
 rcases List.mem_append.1 h1 with e |e
 ·exact List.all_eq_true.1 zwX c e
 ·have:=h.may c e
  unfold zqx at this
  simp only [Bool.and_eq_true] at this
  exact this.2.1.1.1.1
def zhT(s:Tx):Tx×Bool:=cond (zfH s&&brk s) (s.drop 1,true) ([],false)
theorem zhk{s:Tx}(h:Len s):zf2 s=some (zhT s):=by
 unfold zf2 zhT
 rw [zg7 h]
 cases hm:zfH s with
 |false=>rfl
 |true =>
  cases s with
  |nil =>
   exfalso
   unfold zfH at hm
   rw [show zfa (zfa [])=[] from rfl] at hm
   simp at hm
   exact zjT hm rfl
  |cons x r =>
   simp only [Option.bind_some,Bool.not_true,cond_false,Bool.true_and]
   rw [ziG]
   have e:((x.toNat:Int) == (91:Int))=(x == 91):=by
    rw [Bool.eq_iff_iff,beq_iff_eq,beq_iff_eq]
    constructor
    ·intro h;exact UInt8.toNat_inj.1 (by simpa using (Int.ofNat_inj.1 h))
    ·intro h;rw [h];rfl
   simp only [List.getElem?_cons_zero,Option.bind_some,e]
   rw [show (1:Int)=((1:Nat):Int) from rfl,zir (by simp)]
   show cond (!(x == 91)) _ _=some (cond (x == 91) _ _)
   cases x == 91 <;> rfl
theorem zqs{s:Tx}:∀(d:Nat) (t:Tx),t.length≤d→Len t→zu (fun z=>zcj z.1 z.2.1 z.2.2) (t,(zhT t).1,(zhT t).2)=some (.inl (cond (zfH t) (ess t) t))
 |d,t,hd,hl=>by
  rw [zL]
  show (zcj t (zhT t).1 (zhT t).2).bind _=_
  unfold zcj
  cases hm:zfH t with
  |false =>
   have:zhT t=([],false):=by unfold zhT;rw [hm];rfl
   rw [this];rfl
  |true =>
   cases hb:brk t with
   |false =>
    have:zhT t=([],false):=by unfold zhT;rw [hm,hb];rfl
    rw [this,zpc hb];rfl
   |true =>
    have:zhT t=(t.drop 1,true):=by unfold zhT;rw [hm,hb];rfl
    obtain ⟨k1,k2⟩:=zoL hm hb
    have hlen:(t.drop 1).length=t.length-1:=by simp
    have hpos:0<t.length:=by rw [(zkG hb).2];simp
    have hl2:Len (t.drop 1):=by unfold Len at *;omega
    rw [this]
    show ((zf2 (t.drop 1)).bind _).bind _=_
    rw [zhk hl2]
    show zu (fun z=>zcj z.1 z.2.1 z.2.2) (t.drop 1,(zhT (t.drop 1)).1,(zhT (t.drop 1)).2)=_
    cases d with
    |zero=>omega
    |succ d =>
     rw [zqs (s:=s) d (t.drop 1) (by omega) hl2,k1,k2];rfl
theorem zuw(h:zeW l L)(hm:zdG L m){t:Tx}(hl:Len t):zdL L m t=some (thN L t):=by
 unfold zdL
 rw [zhk hl]
 simp only [Option.bind_some]
 rw [zqs (s:=t) t.length t (Nat.le_refl _) hl]
 simp only [Option.bind_some,zU]
 unfold zeB zbQ
 rw [hm.has]
 unfold thN zx1
 cases hmay:zfH t with
 |true=>rfl
 |false =>
  simp only [cond_false,Bool.false_and]
  congr 1
  rw [Bool.or_eq_false_iff]
  constructor
  ·cases hI:(t == [73]) with
   |false=>rfl
   |true =>
    have:t=[73]:=by simpa using hI
    rw [this] at hmay
    exact absurd hmay (by decide +kernel)
  ·cases hh:zc7 L t with
   |false=>rfl
   |true=>rw [znU (zjP h hh)] at hmay;cases hmay
theorem zsK:∀(t:Tx) (k:Nat),t.length+k≤1000→zu (fun z=>ze0 z.1 z.2) (t,(k:Int))=some (.inl (t.dropWhile (· == 91),((k+(t.takeWhile (· == 91)).length:Nat):Int)))
 | [],k,hk=>by
  rw [zL];rfl
 |x ::r,k,hk=>by
  simp only [List.length_cons] at hk
  rw [zL]
  show (ze0 (x ::r) (k:Int)).bind _=_
  unfold ze0
  have e:((x.toNat:Int) == (91:Int))=(x == 91):=by
   rw [Bool.eq_iff_iff,beq_iff_eq,beq_iff_eq]
   constructor
   ·intro h;exact UInt8.toNat_inj.1 (by simpa using (Int.ofNat_inj.1 h))
   ·intro h;rw [h];rfl
  rw [decide_eq_true (show (0:Int)<((x ::r).length:Int) by simp only [List.length_cons];omega),ziG]
  simp only [cond_true,List.getElem?_cons_zero,Option.bind_some,e]
  rw [show (1:Int)=((1:Nat):Int) from rfl,zir (by simp),List.dropWhile_cons,List.takeWhile_cons]
  cases hx:(x == 91) with
  |false=>simp
  |true =>
   simp only [cond_true,Option.bind_some,if_true,List.drop_one,List.tail_cons]
   rw [show ((1:Nat):Int)=1 from rfl,zay (by omega)]
   show zu (fun z=>ze0 z.1 z.2) (r,((k+1:Nat):Int))=_
   rw [zsK r (k+1) (by omega)]
   simp only [List.length_cons]
   congr 3
   omega
theorem zAN{t:Tx}(h:t.length≤900):ziq t=some (t.dropWhile (· == 91),((t.takeWhile (· == 91)).length:Int)):=by
 unfold ziq
 rw [show zu (fun z=>ze0 z.1 z.2) (t,0)=_ from zsK t 0 (by omega)]
 simp only [Option.bind_some,zU,Nat.zero_add]
 rfl
theorem zuz{t:Tx}(h:brk t=false):t.dropWhile (· == 91)=t∧t.takeWhile (· == 91)=[]:=by
 cases t with
 |nil=>exact ⟨rfl,rfl⟩
 |cons x r =>
  have:(x == 91)=false:=h
  simp [List.dropWhile_cons,List.takeWhile_cons,this]
theorem zuk{t:Tx}(h:brk t=true):t.dropWhile (· == 91)=(t.drop 1).dropWhile (· == 91)∧(t.takeWhile (· == 91)).length=((t.drop 1).takeWhile (· == 91)).length+1:=by
 cases t with
 |nil=>cases h
 |cons x r =>
  have:(x == 91)=true:=h
  simp [List.dropWhile_cons,List.takeWhile_cons,this]
theorem zul:∀(d:Nat) (t:Tx),t.length≤d→zfH t=true→t.dropWhile (· == 91)=ess t
 |d,t,hd,hm=>by
  cases hb:brk t with
  |false=>rw [(zuz hb).1,zpc hb]
  |true =>
   obtain ⟨k1,k2⟩:=zoL hm hb
   have hlen:(t.drop 1).length=t.length-1:=by simp
   have hpos:0<t.length:=by rw [(zkG hb).2];simp
   cases d with
   |zero=>omega
   |succ d=>rw [(zuk hb).1,zul d (t.drop 1) (by omega) k1,k2]
theorem zq9{t:Tx}(h:t.length≤900)(hm:zfH t=true):∃k:Nat,ziq t=some (ess t,(k:Int))∧(((k:Int) == 0)=!brk t):=by
 refine ⟨_,by rw [zAN h,zul _ t (Nat.le_refl _) hm],?_⟩
 cases hb:brk t with
 |false=>rw [(zuz hb).2];rfl
 |true=>rw [(zuk hb).2];exact beq_eq_false_iff_ne.2 (by omega)
theorem zd5(h:zeW l L){t:Tx}(hl:t.length≤900):z1 L t=some (thN L t):=by
 have h26:=h.len
 unfold z1
 rw [ze8 (by unfold Len;omega)]
 unfold thN
 cases hm:zfH t with
 |false=>rfl
 |true =>
  obtain ⟨k,hk,_⟩:=zq9 hl hm
  rw [hk]
  simp only [Option.bind_some,Bool.not_true,cond_false]
  rw [zjQ (by omega)]
  simp only [Option.bind_some]
  rw [zo2]
  unfold zx1
  cases (ess t == [73]) <;> rfl
end

end
end Go.Proofs.YtjbdfkapnffjnaaGreat
