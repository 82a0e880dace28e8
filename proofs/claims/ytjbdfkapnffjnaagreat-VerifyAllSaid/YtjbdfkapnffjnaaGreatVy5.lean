/- VerifyAll: for every input the law returns true, and each argument reads as it read before. No further condition. Part 5 of 8. -/
import Derived.Test.YtjbdfkapnffjnaaGreatVy4
namespace Go.Proofs.YtjbdfkapnffjnaaGreat
noncomputable section
open List (length map)
set_option linter.unusedSimpArgs false
set_option linter.unusedVariables false
set_option maxRecDepth 100000
set_option maxHeartbeats 4000000
def zbP(v1:List zb)(v2:T2)(v3:T0)(v4:zd)(v5:T1)(v6:T1)(v7:Bool):Option (T0×T1×Bool):=
  (zaf v1 v2 v3 v4 v5 v6 v7).bind fun v8=>(cond (v8.1 == [78]) (some true) ((zjl v8.1).bind fun v9=>some v9)).bind fun v10=>some (v8.1,v8.2.1,(v8.2.2||(!v10)))
theorem zdy(v1:List zb)(v2:T2)(v3:T0)(v4:zd)(v5:T1)(v6:T1)(v7:Bool){r:T0×T1×Bool}(h:zbP v1 v2 v3 v4 v5 v6 v7=some r):SC Tryz.prog 143 [.mpt 0 0 0] [.one 15 (vK v1 v2 v3 v4 (.msl 1 0 (length v5)) (.msl 2 0 (length v6)) (bA v7)),.many 1 (map zf v5),.many 1 (map zf v6)] (sA r.1) [.one 15 (vK v1 v2 v3 v4 (.msl 1 0 (length v5)) (.msl 2 0 (length r.2.1)) (bA r.2.2)),.many 1 (map zf v5),.many 1 (map zf r.2.1)]:=by
 refine ⟨⟨t,zhS (sz:=1) (fun _=>y),zhS (sz:=1) (fun _=>y),t⟩,zW Tryz.func143 y kz y ?_⟩
 unfold zbP at h
 refine rg y<|u<|asg y<|za ?_
 obtain ⟨v8,q1,h⟩:=bs h
 refine rg y<|u<|mv y<|u<|sx [0,1,2] (zaL v1 v2 v3 v4 v5 v6 v7 q1)<|zx (env0:=[(0,.mpt 0 0 0),(5,sA v8.1)]) (st0:=[some (15,[(vK v1 v2 v3 v4 (.msl 1 0 (length v5)) (.msl 2 0 (length v8.2.1)) (bA v8.2.2))]),some (1,map zf v5),some (1,map zf v8.2.1)]) (zo [.old 0,.old 1,.old 2])<|u<|asg y<|za ?_
 obtain ⟨v10,q4,h⟩:=bs h
 refine rg y<|u<|mv y<|u<|mv y<|u<|seq ti y y<|u<|mv y<|zdj (x:=v10) (j:=3) 2 y y y y y gpn (fun hb2=>by replace q4:=bF hb2 q4;obtain ⟨v9,q3,q4⟩:=bs q4;obtain rfl:=sm q4;exact g y hb2<|mv y<|g y hb2<|pc (zkd v8.1 q3) y y y<|za (eg [10,11] 2 y y y y)) (fun hb=>(sm (bT hb q4)).symm)<|u<|sx [0,1,2] (zs v1 v2 v3 v4 v5 v8.2.1 v8.2.2 v10 y)<|zx (env0:=[(3,sA v8.1)]) (st0:=[some (15,[(vK v1 v2 v3 v4 (.msl 1 0 (length v5)) (.msl 2 0 (length v8.2.1)) (bA (v8.2.2||(!v10))))]),some (1,map zf v5),some (1,map zf v8.2.1)]) (zo [.old 0,.old 1,.old 2])<|za ?_
 refine rg y<|u<|mv y<|u<|asg y<|za ?_
 refine zj ?_
 obtain rfl:=sm h
 exact ⟨_,y,zy [.old 0,.old 1,.old 2]⟩
def ziw:Option (T0×zt×Bool):=
  some ([],(zt.mk [] [] false),false)
def zc8(v1:List zb)(v2:T2)(v4:T0)(v5:T1)(v11:Int):Option (Sum (Int) (Sum (Unit) (T0×zt×Bool))):=
  cond (decide (v11<((length v5):Int))) ((idx v5 v11).bind fun v12=>(zaP v1 v2 v12).bind fun v13=>(zjb v13.1 v4).bind fun v14=>cond (decide (0≤v14)) ((idx v13.1.Fields v14).bind fun v15=>some (.inr (.inr (v12,v15,true)))) (some (.inl (IntKind.i64.wrap (v11+1))))) (some (.inr (.inl ())))
def zhz(v1:List zb)(v2:T2)(v3:T0)(v4:T0):Option (T0×zt×Bool):=
  (zbH v1 v2 v3).bind fun v5=>(zu (fun z=>zc8 v1 v2 v4 v5 z) 0).bind fun o=>zU o (fun b=>ziw) some
theorem zkU(v1:List zb)(v2:T2)(v3:T0)(v4:T0){r:T0×zt×Bool}(h:zhz v1 v2 v3 v4=some r):zI Tryz.prog 162 [.ipt 2 [[.isl 6 (map zc v1),.imp (map (rKV (fun x=>iA x)) v2)]] 0 0,sA v3,sA v4] (.tup [sA r.1,.agg (zJ r.2.1),bA r.2.2]):=by
 refine zq Tryz.func162 y kz y y ?_
 unfold zhz at h
 refine rg y<|u<|asg y<|u<|al 0 ti y<|u<|asg y<|za ?_
 refine zi ?_
 obtain ⟨v5,q1,h⟩:=bs h
 refine rg y<|u<|mv y<|u<|mv y<|u<|sx [] (zdi v1 v2 v3 q1)<|zx (env0:=[(0,.ipt 2 [[.isl 6 (map zc v1),.imp (map (rKV (fun x=>iA x)) v2)]] 0 0),(2,sA v4),(7,.mpt 0 0 0),(16,.msl 1 0 (length v5))]) (st0:=[some (3,[[sA [],sA [],bA false]]),some (1,map zf v5)]) (zo [.old 0,.old 1])<|u<|lnM ti y y y<|u<|mv y<|za ?_
 obtain ⟨o,ho,h⟩:=bs h
 refine zX (X:=Int) (B:=Unit) (R:=T0×zt×Bool) (fun z=>[(0,.ipt 2 [[.isl 6 (map zc v1),.imp (map (rKV (fun x=>iA x)) v2)]] 0 0),(2,sA v4),(7,.mpt 0 0 0),(16,.msl 1 0 (length v5)),(17,iA ((length v5):Int)),(18,iA z)]) (fun z=>[some (3,[[sA [],sA [],bA false]]),some (1,map zf v5)]) (fun b=>[(7,.mpt 0 0 0)]) (fun b=>[some (3,[[sA [],sA [],bA false]])]) (fun r env st=>zaN Tryz.prog Tryz.f162 0 (.tup [sA r.1,.agg (zJ r.2.1),bA r.2.2]) [] env st) ho (zo [.old 0,.old 1]) ?_ ?_ ?_
 ·
  rintro v11 r h
  replace h:zc8 v1 v2 v4 v5 v11=some r:=h
  unfold zc8 at h
  refine rg y<|u<|lss ti y y<|za ?_
  refine zi ?_
  refine ze y (fun hc8=>?_) (fun hc8=>?_)
  ·
   replace h:=bT hc8 h
   refine zg ?_
   refine zi ?_
   refine zr ?_
   obtain ⟨v12,q9,h⟩:=bs h
   refine rg y<|u<|ixM ti y ti y y y y q9<|u<|ldM ti y y (zl q9).2.2 y<|u<|asg y<|za ?_
   obtain ⟨v13,q10,h⟩:=bs h
   refine rg y<|u<|mv y<|u<|mv y<|u<|pc (zbw v1 v2 v12 q10) y y y<|u<|mv y<|u<|ex y y<|u<|ex y y<|u<|al 2 ti y<|u<|sto ti y y y<|u<|asg y<|za ?_
   obtain ⟨v14,q11,h⟩:=bs h
   refine rg y<|u<|ld ti y y<|u<|mv y<|u<|pc (zqd v13.1 v4 q11) y y y<|u<|asg y<|za ?_
   refine rg y<|u<|mv y<|u<|geq ti y y<|za ?_
   refine ze y (fun hc12=>?_) (fun hc12=>?_)
   ·
    replace h:=bT hc12 h
    obtain ⟨v15,q13,h⟩:=bs h
    refine rdA [(6,sA v12),(7,.mpt 0 0 0),(8,bA true)] [some (3,[(zJ v15)])] [7] [6,5,4,3,2,1,0] [(6,sA v12),(38,.agg (zJ v15)),(37,.ipt 3 (map zJ v13.1.Fields) (Int.toNat v14) 0),(36,iA v14),(35,.isl 3 (map zJ v13.1.Fields)),(34,.mpt 2 0 4),(33,sA v12)] 1 (zem ⟨pe,(pb y (ldI ti y (zl q13).2.2 y w)),(pb y (ixI ti y ti y y y q13 w)),pe,pe,pe,pe,t⟩ ⟨(fun _ _=>⟨_,y,y,sto ti y y y<|⟨.any,[8],[(8,bA true)],y,y,kz,t,zhW (zo [.old 0])⟩⟩),t⟩) ?_
    refine zj ?_
    obtain rfl:=sm h
    exact ⟨_,y,_,y,zy []⟩
   ·
    replace h:=bF hc12 h
    refine zg ?_
    refine rl y<|u<|add ti y y<|u<|mv y<|za ?_
    obtain rfl:=sm h
    exact ⟨_,y,zo [.old 0,.old 1]⟩
  ·
   replace h:=bF hc8 h
   refine zD ?_
   obtain rfl:=sm h
   exact ⟨y,_,y,zo [.old 0]⟩
 ·
  rintro ⟨⟩ rfl
  replace h:ziw=some r:=h
  unfold ziw at h
  refine zw ?_
  refine rg y<|u<|bd ti y y y<|u<|asg y<|u<|sto ti y y y<|u<|asg y<|za ?_
  refine zj ?_
  obtain rfl:=sm h
  exact ⟨_,y,zy []⟩
 ·
  rintro r' rfl env st hp
  obtain rfl:=sm h
  exact hp
def zc3(v1:List zb)(v2:T2)(v3:T0)(v4:zd)(v5:T1)(v6:T1)(v7:Bool)(v8:zH):Option (T1×Bool):=
  cond (v8.Op == (37:Int)) ((zaP v1 v2 v8.C).bind fun v9=>(zA v1 v2 v3 v4 v5 v6 (v7||(!(v9.2&&(!v9.1.Interface)))) v8.C).bind fun v10=>some (v10,(v7||(!(v9.2&&(!v9.1.Interface)))))) ((zhz v1 v2 v8.C v8.M).bind fun v11=>cond (v8.Op == (38:Int)) ((zE v1 v2 v3 v4 v5 v6 (v7||(!(v11.2.2&&(v11.2.1.Static == ((v8.Op == (40:Int))||(v8.Op == (41:Int))))))) [v8.C]).bind fun v12=>(zA v1 v2 v3 v4 v5 v12.1 v12.2 v11.2.1.Type_).bind fun v13=>some (v13,v12.2)) (cond (v8.Op == (39:Int)) ((zE v1 v2 v3 v4 v5 v6 (v7||(!(v11.2.2&&(v11.2.1.Static == ((v8.Op == (40:Int))||(v8.Op == (41:Int))))))) [v8.C,v11.2.1.Type_]).bind fun v14=>some (v14.1,v14.2)) (cond (v8.Op == (40:Int)) ((zA v1 v2 v3 v4 v5 v6 (v7||(!(v11.2.2&&(v11.2.1.Static == ((v8.Op == (40:Int))||(v8.Op == (41:Int))))))) v11.2.1.Type_).bind fun v15=>some (v15,(v7||(!(v11.2.2&&(v11.2.1.Static == ((v8.Op == (40:Int))||(v8.Op == (41:Int))))))))) ((zE v1 v2 v3 v4 v5 v6 (v7||(!(v11.2.2&&(v11.2.1.Static == ((v8.Op == (40:Int))||(v8.Op == (41:Int))))))) [v11.2.1.Type_]).bind fun v16=>some (v16.1,v16.2)))))
theorem zkp(v1:List zb)(v2:T2)(v3:T0)(v4:zd)(v5:T1)(v6:T1)(v7:Bool)(v8:zH){r:T1×Bool}(h:zc3 v1 v2 v3 v4 v5 v6 v7 v8=some r):SC Tryz.prog 144 [.mpt 0 0 0,.agg (zv v8)] [.one 15 (vK v1 v2 v3 v4 (.msl 1 0 (length v5)) (.msl 2 0 (length v6)) (bA v7)),.many 1 (map zf v5),.many 1 (map zf v6)] (.tup []) [.one 15 (vK v1 v2 v3 v4 (.msl 1 0 (length v5)) (.msl 3 0 (length r.1)) (bA r.2)),.many 1 (map zf v5),.no,.many 1 (map zf r.1)]:=by
 refine ⟨⟨t,zhS (sz:=1) (fun _=>y),t,zhS (sz:=1) (fun _=>y),t⟩,zW Tryz.func144 y kz y ?_⟩
 unfold zc3 at h
 refine rg y<|u<|bx 3 4 y y y y<|za ?_
 refine zi ?_
 refine rg y<|u<|fa ti y y y<|u<|ld ti y y<|u<|eql ti y y<|za ?_
 refine ze y (fun hc1=>?_) (fun hc1=>?_)
 ·
  replace h:=bT hc1 h
  obtain ⟨v9,q2,h⟩:=bs h
  refine rdA [(0,.mpt 0 0 0),(3,.mpt 3 0 0),(4,.mpt 4 0 0),(5,bA v9.2)] [some (15,[(vK v1 v2 v3 v4 (.msl 1 0 (length v5)) (.msl 2 0 (length v6)) (bA v7))]),some (1,map zf v5),some (1,map zf v6),some (4,[(zv v8)]),some (6,[(zc v9.1)])] [10,11] [9,8,7,6,5,4,3,2,1,0] [(21,bA v9.2),(20,.agg (zc v9.1)),(12,.tup [.agg (zc v9.1),bA v9.2]),(19,.tup [.agg (zc v9.1),bA v9.2]),(18,sA v8.C),(17,.mpt 3 0 2),(16,.ipt 2 [[.isl 6 (map zc v1),.imp (map (rKV (fun x=>iA x)) v2)]] 0 0),(15,.mpt 0 0 0),(14,.mpt 0 0 0),(13,.mpt 0 0 0)] 2 (zem ⟨pe,pe,pe,(pb y (pc (zbw v1 v2 v8.C q2) y y y w)),pe,pe,pe,pe,pe,pe,t⟩ ⟨(fun _ _=>⟨_,y,y,al 4 ti y<|⟨(.mpt 4 0 0),[],[(4,.mpt 4 0 0)],y,y,kz,y,zem ⟨pe,pe,pe,(pb y (pc (zbw v1 v2 v8.C q2) y y y w)),pe,pe,pe,pe,pe,pe,t⟩ ⟨nv,(fun _ _=>⟨_,y,y,sto ti y y y<|⟨.any,[12],[(5,bA v9.2)],y,y,kz,t,zhW (zo [.old 0,.old 1,.old 2,.old 3,.old 4])⟩⟩),t⟩⟩⟩),nw,t⟩) ?_
  refine rg y<|u<|mv y<|u<|mv y<|u<|mv y<|z7 (j:=2) 3 y y y y y gpn (fun hb3=>g y hb3<|fa ti y y y<|g y hb3<|ld ti y y<|g y hb3<|nt y<|za (egA [25,26,27] 3 hb3 y y y y)) ze2<|u<|sx [0,1,2] (zs v1 v2 v3 v4 v5 v6 v7 (v9.2&&(!v9.1.Interface)) y)<|zx (env0:=[(0,.mpt 0 0 0),(3,.mpt 3 0 0)]) (st0:=[some (15,[(vK v1 v2 v3 v4 (.msl 1 0 (length v5)) (.msl 2 0 (length v6)) (bA (v7||(!(v9.2&&(!v9.1.Interface))))))]),some (1,map zf v5),some (1,map zf v6),some (4,[(zv v8)])]) (zo [.old 0,.old 1,.old 2,.old 3])<|za ?_
  obtain ⟨v10,q4,h⟩:=bs h
  refine rg y<|u<|mv y<|u<|fa ti y y y<|u<|ld ti y y<|u<|sx [0,1,2] (zz v1 v2 v3 v4 v5 v6 (v7||(!(v9.2&&(!v9.1.Interface)))) v8.C q4)<|zx (env0:=[]) (st0:=[some (15,[(vK v1 v2 v3 v4 (.msl 1 0 (length v5)) (.msl 3 0 (length v10)) (bA (v7||(!(v9.2&&(!v9.1.Interface))))))]),some (1,map zf v5),none,some (1,map zf v10)]) (zo [.old 0,.old 1,.dead,.old 4])<|za ?_
  refine zj ?_
  obtain rfl:=sm h
  exact ⟨_,y,zy [.old 0,.old 1,.dead,.old 3]⟩
 ·
  replace h:=bF hc1 h
  refine zg ?_
  obtain ⟨v11,q5,h⟩:=bs h
  refine rdA [(0,.mpt 0 0 0),(3,.mpt 3 0 0),(7,.mpt 4 0 0),(8,bA v11.2.2)] [some (15,[(vK v1 v2 v3 v4 (.msl 1 0 (length v5)) (.msl 2 0 (length v6)) (bA v7))]),some (1,map zf v5),some (1,map zf v6),some (4,[(zv v8)]),some (3,[(zJ v11.2.1)])] [13,15] [12,11,10,9,8,7,6,5,4,3,2,1,0] [(46,bA v11.2.2),(45,.agg (zJ v11.2.1)),(44,sA v11.1),(34,.tup [sA v11.1,.agg (zJ v11.2.1),bA v11.2.2]),(43,.tup [sA v11.1,.agg (zJ v11.2.1),bA v11.2.2]),(42,sA v8.M),(41,.mpt 3 0 3),(40,sA v8.C),(39,.mpt 3 0 2),(38,.ipt 2 [[.isl 6 (map zc v1),.imp (map (rKV (fun x=>iA x)) v2)]] 0 0),(37,.mpt 0 0 0),(36,.mpt 0 0 0),(35,.mpt 0 0 0)] 2 (zem ⟨pe,pe,pe,pe,(pb y (pc (zkU v1 v2 v8.C v8.M q5) y y y w)),pe,pe,pe,pe,pe,pe,pe,pe,t⟩ ⟨(fun _ _=>⟨_,y,y,al 4 ti y<|⟨(.mpt 4 0 0),[14],[(6,sA v11.1),(7,.mpt 4 0 0)],y,y,kz,y,zem ⟨pe,pe,pe,pe,pe,(pb y (pc (zkU v1 v2 v8.C v8.M q5) y y y w)),pe,pe,pe,pe,pe,pe,pe,pe,t⟩ ⟨nv,(fun _ _=>⟨_,y,y,sto ti y y y<|⟨.any,[16],[(8,bA v11.2.2)],y,y,kz,t,zhW (zo [.old 0,.old 1,.old 2,.old 3,.old 4])⟩⟩),t⟩⟩⟩),nw,t⟩) ?_
  refine rg y<|u<|mv y<|u<|mv y<|u<|mv y<|z7 (j:=2) 11 y y y y y gpn (fun hb6=>g y hb6<|fa ti y y y<|g y hb6<|ld ti y y<|g y hb6<|fa ti y y y<|g y hb6<|ld ti y y<|g y hb6<|eql ti y y<|g y hb6<|mv y<|zdj (j:=8) 3 y y y y y (gps y y hb6) (fun hb7=>g y hb7<|fa ti y y y<|g y hb7<|ld ti y y<|g y hb7<|eql ti y y<|za (egO [56,57,58] 3 hb7 y y y y)) orT<|g y hb6<|beq ti y y y<|za (egA [50,51,52,53,54,55,56,57,58,59,60] 8 hb6 y y y y)) ze2<|u<|sx [0,1,2] (zs v1 v2 v3 v4 v5 v6 v7 (v11.2.2&&(v11.2.1.Static == ((v8.Op == (40:Int))||(v8.Op == (41:Int))))) y)<|zx (env0:=[(0,.mpt 0 0 0),(3,.mpt 3 0 0),(7,.mpt 4 0 0)]) (st0:=[some (15,[(vK v1 v2 v3 v4 (.msl 1 0 (length v5)) (.msl 2 0 (length v6)) (bA (v7||(!(v11.2.2&&(v11.2.1.Static == ((v8.Op == (40:Int))||(v8.Op == (41:Int)))))))))]),some (1,map zf v5),some (1,map zf v6),some (4,[(zv v8)]),some (3,[(zJ v11.2.1)])]) (zo [.old 0,.old 1,.old 2,.old 3,.old 4])<|za ?_
  refine rg y<|u<|fa ti y y y<|u<|ld ti y y<|za ?_
  refine zr ?_
  refine rg y<|u<|eql ti y y<|u<|asg y<|za ?_
  refine ze y (fun hc8=>?_) (fun hc8=>?_)
  ·
   replace h:=bT hc8 h
   obtain ⟨v12,q9,h⟩:=bs h
   refine rg y<|u<|mv y<|u<|fa ti y y y<|u<|ld ti y y<|u<|bl 5 ti y ti y (by decide) (by decide) y y y<|zx (env0:=[(0,.mpt 0 0 0),(7,.mpt 3 0 0),(72,.mpt 0 0 0),(75,.isl 1 (map zf [v8.C]))]) (st0:=[some (15,[(vK v1 v2 v3 v4 (.msl 1 0 (length v5)) (.msl 2 0 (length v6)) (bA (v7||(!(v11.2.2&&(v11.2.1.Static == ((v8.Op == (40:Int))||(v8.Op == (41:Int)))))))))]),some (1,map zf v5),some (1,map zf v6),some (3,[(zJ v11.2.1)])]) (zo [.old 0,.old 1,.old 2,.old 4])<|u<|sx [0,1,2] (zG v1 v2 v3 v4 v5 v6 (v7||(!(v11.2.2&&(v11.2.1.Static == ((v8.Op == (40:Int))||(v8.Op == (41:Int))))))) [v8.C] q9)<|zx (env0:=[(0,.mpt 0 0 0),(7,.mpt 3 0 0)]) (st0:=[some (15,[(vK v1 v2 v3 v4 (.msl 1 0 (length v5)) (.msl 2 0 (length v12.1)) (bA v12.2))]),some (1,map zf v5),some (1,map zf v12.1),some (3,[(zJ v11.2.1)])]) (zo [.old 0,.old 1,.old 2,.old 3])<|za ?_
   obtain ⟨v13,q10,h⟩:=bs h
   refine rl y<|u<|mv y<|u<|fa ti y y y<|u<|ld ti y y<|u<|sx [0,1,2] (zz v1 v2 v3 v4 v5 v12.1 v12.2 v11.2.1.Type_ q10)<|zx (env0:=[]) (st0:=[some (15,[(vK v1 v2 v3 v4 (.msl 1 0 (length v5)) (.msl 3 0 (length v13)) (bA v12.2))]),some (1,map zf v5),none,some (1,map zf v13)]) (zo [.old 0,.old 1,.dead,.old 4])<|za ?_
   obtain rfl:=sm h
   exact ⟨_,y,zy [.old 0,.old 1,.dead,.old 3]⟩
  ·
   replace h:=bF hc8 h
   refine rg y<|u<|eql ti y y<|u<|asg y<|za ?_
   refine ze y (fun hc11=>?_) (fun hc11=>?_)
   ·
    replace h:=bT hc11 h
    obtain ⟨v14,q12,h⟩:=bs h
    refine rl y<|u<|mv y<|u<|fa ti y y y<|u<|ld ti y y<|u<|fa ti y y y<|u<|ld ti y y<|u<|bl 5 ti y ti y (by decide) (by decide) y y y<|zx (env0:=[(83,.mpt 0 0 0),(88,.isl 1 (map zf [v8.C,v11.2.1.Type_]))]) (st0:=[some (15,[(vK v1 v2 v3 v4 (.msl 1 0 (length v5)) (.msl 2 0 (length v6)) (bA (v7||(!(v11.2.2&&(v11.2.1.Static == ((v8.Op == (40:Int))||(v8.Op == (41:Int)))))))))]),some (1,map zf v5),some (1,map zf v6)]) (zo [.old 0,.old 1,.old 2])<|u<|sx [0,1,2] (zG v1 v2 v3 v4 v5 v6 (v7||(!(v11.2.2&&(v11.2.1.Static == ((v8.Op == (40:Int))||(v8.Op == (41:Int))))))) [v8.C,v11.2.1.Type_] q12)<|zx (env0:=[]) (st0:=[some (15,[(vK v1 v2 v3 v4 (.msl 1 0 (length v5)) (.msl 2 0 (length v14.1)) (bA v14.2))]),some (1,map zf v5),some (1,map zf v14.1)]) (zo [.old 0,.old 1,.old 2])<|za ?_
    obtain rfl:=sm h
    exact ⟨_,y,zy [.old 0,.old 1,.dead,.old 2]⟩
   ·
    replace h:=bF hc11 h
    refine rg y<|u<|eql ti y y<|u<|asg y<|za ?_
    refine ze y (fun hc13=>?_) (fun hc13=>?_)
    ·
     replace h:=bT hc13 h
     obtain ⟨v15,q14,h⟩:=bs h
     refine rl y<|u<|mv y<|u<|fa ti y y y<|u<|ld ti y y<|u<|sx [0,1,2] (zz v1 v2 v3 v4 v5 v6 (v7||(!(v11.2.2&&(v11.2.1.Static == ((v8.Op == (40:Int))||(v8.Op == (41:Int))))))) v11.2.1.Type_ q14)<|zx (env0:=[]) (st0:=[some (15,[(vK v1 v2 v3 v4 (.msl 1 0 (length v5)) (.msl 3 0 (length v15)) (bA (v7||(!(v11.2.2&&(v11.2.1.Static == ((v8.Op == (40:Int))||(v8.Op == (41:Int)))))))))]),some (1,map zf v5),none,some (1,map zf v15)]) (zo [.old 0,.old 1,.dead,.old 5])<|za ?_
     obtain rfl:=sm h
     exact ⟨_,y,zy [.old 0,.old 1,.dead,.old 3]⟩
    ·
     replace h:=bF hc13 h
     obtain ⟨v16,q15,h⟩:=bs h
     refine rl y<|u<|mv y<|u<|fa ti y y y<|u<|ld ti y y<|u<|bl 5 ti y ti y (by decide) (by decide) y y y<|zx (env0:=[(65,.mpt 0 0 0),(68,.isl 1 (map zf [v11.2.1.Type_]))]) (st0:=[some (15,[(vK v1 v2 v3 v4 (.msl 1 0 (length v5)) (.msl 2 0 (length v6)) (bA (v7||(!(v11.2.2&&(v11.2.1.Static == ((v8.Op == (40:Int))||(v8.Op == (41:Int)))))))))]),some (1,map zf v5),some (1,map zf v6)]) (zo [.old 0,.old 1,.old 2])<|u<|sx [0,1,2] (zG v1 v2 v3 v4 v5 v6 (v7||(!(v11.2.2&&(v11.2.1.Static == ((v8.Op == (40:Int))||(v8.Op == (41:Int))))))) [v11.2.1.Type_] q15)<|zx (env0:=[]) (st0:=[some (15,[(vK v1 v2 v3 v4 (.msl 1 0 (length v5)) (.msl 2 0 (length v16.1)) (bA v16.2))]),some (1,map zf v5),some (1,map zf v16.1)]) (zo [.old 0,.old 1,.old 2])<|za ?_
     obtain rfl:=sm h
     exact ⟨_,y,zy [.old 0,.old 1,.dead,.old 2]⟩
def zcy(v1:zd):Bool:=
  (!(v1.Name == [36,105,110,105,116]))
theorem zoz(v1:zd){r:Bool}(h:zcy v1=r):zI Tryz.prog 161 [.agg (zh v1)] (bA r):=by
 refine zq Tryz.func161 y kz y y ?_
 unfold zcy at h
 refine rg y<|u<|bx 0 10 y y y y<|u<|asg y<|za ?_
 refine rg y<|u<|fa ti y y y<|u<|ld ti y y<|u<|sne ti y y<|u<|asg y<|za ?_
 refine zj ?_
 obtain rfl:=h
 exact ⟨_,y,zy []⟩
def zi1:Option (T0×zd×Bool):=
  some ([],(zd.mk [] [] [] false false 0 0 [] [] []),false)
def zdJ(v1:List zb)(v2:T2)(v3:T1)(v4:T0)(v12:Int):Option (Sum (Int) (Sum (Unit) (T0×zd×Bool))):=
  cond (decide (v12<(length v3:Int))) ((idx v3 v12).bind fun v13=>(zaP v1 v2 v13).bind fun v14=>(zfW v14.1 v4).bind fun v15=>(cond (decide (0≤v15)) ((idx v14.1.Methods v15).bind fun v16=>some (zcy v16)) (some false)).bind fun v17=>cond v17 ((idx v14.1.Methods v15).bind fun v18=>some (.inr (.inr (v13,v18,true)))) (some (.inl (IntKind.i64.wrap (v12+1))))) (some (.inr (.inl ())))
def zie(v1:List zb)(v2:T2)(v3:T1)(v4:T0):Option (T0×zd×Bool):=
  (zu (fun z=>zdJ v1 v2 v3 v4 z) 0).bind fun o=>zU o (fun b=>zi1) some
theorem zoV(v1:List zb)(v2:T2)(v3:T1)(v4:T0){r:T0×zd×Bool}(h:zie v1 v2 v3 v4=some r):zI Tryz.prog 160 [.ipt 2 [[.isl 6 (map zc v1),.imp (map (rKV (fun x=>iA x)) v2)]] 0 0,.isl 1 (map zf v3),sA v4,.fn (.func 161) [] []] (.tup [sA r.1,.agg (zh r.2.1),bA r.2.2]):=by
 refine zq Tryz.func160 y kz y y ?_
 unfold zie at h
 refine rg y<|u<|asg y<|u<|al 0 ti y<|u<|asg y<|za ?_
 refine zi ?_
 refine rg y<|u<|mv y<|u<|lnI ti y y<|u<|mv y<|za ?_
 obtain ⟨o,ho,h⟩:=bs h
 refine zX (X:=Int) (B:=Unit) (R:=T0×zd×Bool) (fun z=>[(0,.ipt 2 [[.isl 6 (map zc v1),.imp (map (rKV (fun x=>iA x)) v2)]] 0 0),(2,sA v4),(3,.fn (.func 161) [] []),(9,.mpt 0 0 0),(16,.isl 1 (map zf v3)),(17,iA (length v3:Int)),(18,iA z)]) (fun z=>[some (10,[[sA [],.lit (.slice none 0 0),sA [],bA false,bA false,iA 0,iA 0,.lit (.slice none 0 0),.lit (.slice none 0 0),.lit (.slice none 0 0)]])]) (fun b=>[(9,.mpt 0 0 0)]) (fun b=>[some (10,[[sA [],.lit (.slice none 0 0),sA [],bA false,bA false,iA 0,iA 0,.lit (.slice none 0 0),.lit (.slice none 0 0),.lit (.slice none 0 0)]])]) (fun r env st=>zaN Tryz.prog Tryz.f160 0 (.tup [sA r.1,.agg (zh r.2.1),bA r.2.2]) [] env st) ho (zo [.old 0]) ?_ ?_ ?_
 ·
  rintro v12 r h
  replace h:zdJ v1 v2 v3 v4 v12=some r:=h
  unfold zdJ at h
  refine rg y<|u<|lss ti y y<|za ?_
  refine zi ?_
  refine ze y (fun hc10=>?_) (fun hc10=>?_)
  ·
   replace h:=bT hc10 h
   refine zg ?_
   refine zi ?_
   refine zr ?_
   obtain ⟨v13,q11,h⟩:=bs h
   refine rg y<|u<|ixI ti y ti y y y q11<|u<|ldI ti y (zl q11).2.2 y<|u<|asg y<|za ?_
   obtain ⟨v14,q12,h⟩:=bs h
   refine rg y<|u<|mv y<|u<|mv y<|u<|pc (zbw v1 v2 v13 q12) y y y<|u<|mv y<|u<|ex y y<|u<|ex y y<|u<|al 1 ti y<|u<|sto ti y y y<|u<|asg y<|za ?_
   obtain ⟨v15,q13,h⟩:=bs h
   refine rg y<|u<|ld ti y y<|u<|mv y<|u<|pc (zlx v14.1 v4 q13) y y y<|u<|asg y<|za ?_
   obtain ⟨v17,q16,h⟩:=bs h
   refine rg y<|u<|mv y<|u<|geq ti y y<|u<|mv y<|z7 (x:=v17) (j:=2) 7 y y y y y gpn (fun hb14=>by replace q16:=bT hb14 q16;obtain ⟨v16,q15,q16⟩:=bs q16;obtain rfl:=sm q16;exact g y hb14<|mv y<|g y hb14<|fa ti y y y<|g y hb14<|ld ti y y<|g y hb14<|mv y<|g y hb14<|ixI ti y ti y y y q15<|g y hb14<|ldI ti y (zl q15).2.2 y<|g y hb14<|pc (zoz v16 y) y y y<|za (eg [34,35,36,37,38,39,40] 7 y y y y)) (fun hb=>(sm (bF hb q16)).symm)<|za ?_
   refine ze y (fun hc17=>?_) (fun hc17=>?_)
   ·
    replace h:=bT hc17 h
    obtain ⟨v18,q18,h⟩:=bs h
    refine rdA [(8,sA v13),(9,.mpt 0 0 0),(10,bA true)] [some (10,[(zh v18)])] [7] [6,5,4,3,2,1,0] [(8,sA v13),(47,.agg (zh v18)),(46,.ipt 10 (map zh v14.1.Methods) (Int.toNat v15) 0),(45,iA v15),(44,.isl 10 (map zh v14.1.Methods)),(43,.mpt 1 0 5),(42,sA v13)] 1 (zem ⟨pe,(pb y (ldI ti y (zl q18).2.2 y w)),(pb y (ixI ti y ti y y y q18 w)),pe,pe,pe,pe,t⟩ ⟨(fun _ _=>⟨_,y,y,sto ti y y y<|⟨.any,[8],[(10,bA true)],y,y,kz,t,zhW (zo [.old 0])⟩⟩),t⟩) ?_
    refine zj ?_
    obtain rfl:=sm h
    exact ⟨_,y,_,y,zy []⟩
   ·
    replace h:=bF hc17 h
    refine zg ?_
    refine rl y<|u<|add ti y y<|u<|mv y<|za ?_
    obtain rfl:=sm h
    exact ⟨_,y,zo [.old 0]⟩
  ·
   replace h:=bF hc10 h
   refine zD ?_
   obtain rfl:=sm h
   exact ⟨y,_,y,zo [.old 0]⟩
 ·
  rintro ⟨⟩ rfl
  replace h:zi1=some r:=h
  unfold zi1 at h
  refine zw ?_
  refine rg y<|u<|bd ti y y y<|u<|asg y<|u<|sto ti y y y<|u<|asg y<|za ?_
  refine zj ?_
  obtain rfl:=sm h
  exact ⟨_,y,zy []⟩
 ·
  rintro r' rfl env st hp
  obtain rfl:=sm h
  exact hp
def zgK(v1:List zb)(v2:T2)(v3:T0)(v4:T0):Option (T0×zd×Bool):=
  (zbH v1 v2 v3).bind fun v5=>(zie v1 v2 v5 v4).bind fun v6=>some (v6.1,v6.2.1,v6.2.2)
theorem zj2(v1:List zb)(v2:T2)(v3:T0)(v4:T0){r:T0×zd×Bool}(h:zgK v1 v2 v3 v4=some r):zI Tryz.prog 95 [.ipt 2 [[.isl 6 (map zc v1),.imp (map (rKV (fun x=>iA x)) v2)]] 0 0,sA v3,sA v4] (.tup [sA r.1,.agg (zh r.2.1),bA r.2.2]):=by
 refine zq Tryz.func95 y kz y y ?_
 unfold zgK at h
 refine rg y<|u<|asg y<|u<|al 0 ti y<|u<|asg y<|za ?_
 obtain ⟨v5,q1,h⟩:=bs h
 obtain ⟨v6,q2,h⟩:=bs h
 refine rg y<|u<|mv y<|u<|mv y<|u<|mv y<|u<|sx [] (zdi v1 v2 v3 q1)<|zx (env0:=[(2,sA v4),(7,.mpt 0 0 0),(9,.ipt 2 [[.isl 6 (map zc v1),.imp (map (rKV (fun x=>iA x)) v2)]] 0 0),(12,.msl 1 0 (length v5))]) (st0:=[some (10,[[sA [],.lit (.slice none 0 0),sA [],bA false,bA false,iA 0,iA 0,.lit (.slice none 0 0),.lit (.slice none 0 0),.lit (.slice none 0 0)]]),some (1,map zf v5)]) (zo [.old 0,.old 1])<|u<|mv y<|zx (env0:=[(7,.mpt 0 0 0),(9,.ipt 2 [[.isl 6 (map zc v1),.imp (map (rKV (fun x=>iA x)) v2)]] 0 0),(12,.isl 1 (map zf v5)),(13,sA v4)]) (st0:=[some (10,[[sA [],.lit (.slice none 0 0),sA [],bA false,bA false,iA 0,iA 0,.lit (.slice none 0 0),.lit (.slice none 0 0),.lit (.slice none 0 0)]])]) (zo [.old 0])<|u<|pc (zoV v1 v2 v5 v4 q2) y y y<|u<|ex y y<|u<|ex y y<|u<|ex y y<|u<|asg y<|u<|sto ti y y y<|u<|asg y<|za ?_
 refine zj ?_
 obtain rfl:=sm h
 exact ⟨_,y,zy []⟩
def ze7(v1:zd):Bool:=
  true
theorem zqa(v1:zd){r:Bool}(h:ze7 v1=r):zI Tryz.prog 234 [.agg (zh v1)] (bA r):=by
 refine zq Tryz.func234 y kz y y ?_
 unfold ze7 at h
 refine rg y<|u<|bx 0 10 y y y y<|u<|asg y<|za ?_
 refine rg y<|u<|asg y<|za ?_
 refine zj ?_
 obtain rfl:=h
 exact ⟨_,y,zy []⟩
def zi2:Option (T0×zd×Bool):=
  some ([],(zd.mk [] [] [] false false 0 0 [] [] []),false)
def zdB(v1:List zb)(v2:T2)(v3:T1)(v4:T0)(v12:Int):Option (Sum (Int) (Sum (Unit) (T0×zd×Bool))):=
  cond (decide (v12<(length v3:Int))) ((idx v3 v12).bind fun v13=>(zaP v1 v2 v13).bind fun v14=>(zfW v14.1 v4).bind fun v15=>(cond (decide (0≤v15)) ((idx v14.1.Methods v15).bind fun v16=>some (ze7 v16)) (some false)).bind fun v17=>cond v17 ((idx v14.1.Methods v15).bind fun v18=>some (.inr (.inr (v13,v18,true)))) (some (.inl (IntKind.i64.wrap (v12+1))))) (some (.inr (.inl ())))
def zii(v1:List zb)(v2:T2)(v3:T1)(v4:T0):Option (T0×zd×Bool):=
  (zu (fun z=>zdB v1 v2 v3 v4 z) 0).bind fun o=>zU o (fun b=>zi2) some
theorem zpe(v1:List zb)(v2:T2)(v3:T1)(v4:T0){r:T0×zd×Bool}(h:zii v1 v2 v3 v4=some r):zI Tryz.prog 160 [.ipt 2 [[.isl 6 (map zc v1),.imp (map (rKV (fun x=>iA x)) v2)]] 0 0,.isl 1 (map zf v3),sA v4,.fn (.func 234) [] []] (.tup [sA r.1,.agg (zh r.2.1),bA r.2.2]):=by
 refine zq Tryz.func160 y kz y y ?_
 unfold zii at h
 refine rg y<|u<|asg y<|u<|al 0 ti y<|u<|asg y<|za ?_
 refine zi ?_
 refine rg y<|u<|mv y<|u<|lnI ti y y<|u<|mv y<|za ?_
 obtain ⟨o,ho,h⟩:=bs h
 refine zX (X:=Int) (B:=Unit) (R:=T0×zd×Bool) (fun z=>[(0,.ipt 2 [[.isl 6 (map zc v1),.imp (map (rKV (fun x=>iA x)) v2)]] 0 0),(2,sA v4),(3,.fn (.func 234) [] []),(9,.mpt 0 0 0),(16,.isl 1 (map zf v3)),(17,iA (length v3:Int)),(18,iA z)]) (fun z=>[some (10,[[sA [],.lit (.slice none 0 0),sA [],bA false,bA false,iA 0,iA 0,.lit (.slice none 0 0),.lit (.slice none 0 0),.lit (.slice none 0 0)]])]) (fun b=>[(9,.mpt 0 0 0)]) (fun b=>[some (10,[[sA [],.lit (.slice none 0 0),sA [],bA false,bA false,iA 0,iA 0,.lit (.slice none 0 0),.lit (.slice none 0 0),.lit (.slice none 0 0)]])]) (fun r env st=>zaN Tryz.prog Tryz.f160 0 (.tup [sA r.1,.agg (zh r.2.1),bA r.2.2]) [] env st) ho (zo [.old 0]) ?_ ?_ ?_
 ·
  rintro v12 r h
  replace h:zdB v1 v2 v3 v4 v12=some r:=h
  unfold zdB at h
  refine rg y<|u<|lss ti y y<|za ?_
  refine zi ?_
  refine ze y (fun hc10=>?_) (fun hc10=>?_)
  ·
   replace h:=bT hc10 h
   refine zg ?_
   refine zi ?_
   refine zr ?_
   obtain ⟨v13,q11,h⟩:=bs h
   refine rg y<|u<|ixI ti y ti y y y q11<|u<|ldI ti y (zl q11).2.2 y<|u<|asg y<|za ?_
   obtain ⟨v14,q12,h⟩:=bs h
   refine rg y<|u<|mv y<|u<|mv y<|u<|pc (zbw v1 v2 v13 q12) y y y<|u<|mv y<|u<|ex y y<|u<|ex y y<|u<|al 1 ti y<|u<|sto ti y y y<|u<|asg y<|za ?_
   obtain ⟨v15,q13,h⟩:=bs h
   refine rg y<|u<|ld ti y y<|u<|mv y<|u<|pc (zlx v14.1 v4 q13) y y y<|u<|asg y<|za ?_
   obtain ⟨v17,q16,h⟩:=bs h
   refine rg y<|u<|mv y<|u<|geq ti y y<|u<|mv y<|z7 (x:=v17) (j:=2) 7 y y y y y gpn (fun hb14=>by replace q16:=bT hb14 q16;obtain ⟨v16,q15,q16⟩:=bs q16;obtain rfl:=sm q16;exact g y hb14<|mv y<|g y hb14<|fa ti y y y<|g y hb14<|ld ti y y<|g y hb14<|mv y<|g y hb14<|ixI ti y ti y y y q15<|g y hb14<|ldI ti y (zl q15).2.2 y<|g y hb14<|pc (zqa v16 y) y y y<|za (eg [34,35,36,37,38,39,40] 7 y y y y)) (fun hb=>(sm (bF hb q16)).symm)<|za ?_
   refine ze y (fun hc17=>?_) (fun hc17=>?_)
   ·
    replace h:=bT hc17 h
    obtain ⟨v18,q18,h⟩:=bs h
    refine rdA [(8,sA v13),(9,.mpt 0 0 0),(10,bA true)] [some (10,[(zh v18)])] [7] [6,5,4,3,2,1,0] [(8,sA v13),(47,.agg (zh v18)),(46,.ipt 10 (map zh v14.1.Methods) (Int.toNat v15) 0),(45,iA v15),(44,.isl 10 (map zh v14.1.Methods)),(43,.mpt 1 0 5),(42,sA v13)] 1 (zem ⟨pe,(pb y (ldI ti y (zl q18).2.2 y w)),(pb y (ixI ti y ti y y y q18 w)),pe,pe,pe,pe,t⟩ ⟨(fun _ _=>⟨_,y,y,sto ti y y y<|⟨.any,[8],[(10,bA true)],y,y,kz,t,zhW (zo [.old 0])⟩⟩),t⟩) ?_
    refine zj ?_
    obtain rfl:=sm h
    exact ⟨_,y,_,y,zy []⟩
   ·
    replace h:=bF hc17 h
    refine zg ?_
    refine rl y<|u<|add ti y y<|u<|mv y<|za ?_
    obtain rfl:=sm h
    exact ⟨_,y,zo [.old 0]⟩
  ·
   replace h:=bF hc10 h
   refine zD ?_
   obtain rfl:=sm h
   exact ⟨y,_,y,zo [.old 0]⟩
 ·
  rintro ⟨⟩ rfl
  replace h:zi2=some r:=h
  unfold zi2 at h
  refine zw ?_
  refine rg y<|u<|bd ti y y y<|u<|asg y<|u<|sto ti y y y<|u<|asg y<|za ?_
  refine zj ?_
  obtain rfl:=sm h
  exact ⟨_,y,zy []⟩
 ·
  rintro r' rfl env st hp
  obtain rfl:=sm h
  exact hp
def zid(v1:List zb)(v2:T2)(v3:T0)(v4:T0):Option (T0×zd×Bool):=
  (zaP v1 v2 v3).bind fun v5=>cond (!v5.1.Interface) (some ([],(zd.mk [] [] [] false false 0 0 [] [] []),false)) ((zdN v1 v2 v3).bind fun v6=>(zis 16 [v3] v6).bind fun v7=>(zii v1 v2 v7 v4).bind fun v8=>some (v8.1,v8.2.1,v8.2.2))
theorem zpv(v1:List zb)(v2:T2)(v3:T0)(v4:T0){r:T0×zd×Bool}(h:zid v1 v2 v3 v4=some r):zI Tryz.prog 163 [.ipt 2 [[.isl 6 (map zc v1),.imp (map (rKV (fun x=>iA x)) v2)]] 0 0,sA v3,sA v4] (.tup [sA r.1,.agg (zh r.2.1),bA r.2.2]):=by
 refine zq Tryz.func163 y kz y y ?_
 unfold zid at h
 refine rg y<|u<|asg y<|u<|al 0 ti y<|u<|asg y<|za ?_
 obtain ⟨v5,q1,h⟩:=bs h
 refine rg y<|u<|mv y<|u<|mv y<|u<|pc (zbw v1 v2 v3 q1) y y y<|u<|mv y<|u<|ex y y<|u<|ex y y<|u<|al 1 ti y<|u<|sto ti y y y<|u<|asg y<|za ?_
 refine zi ?_
 refine rg y<|u<|fa ti y y y<|u<|ld ti y y<|u<|nt y<|za ?_
 refine ze y (fun hc2=>?_) (fun hc2=>?_)
 ·
  replace h:=bT hc2 h
  refine rg y<|u<|bd ti y y y<|u<|asg y<|u<|sto ti y y y<|u<|asg y<|za ?_
  refine zj ?_
  obtain rfl:=sm h
  exact ⟨_,y,zy []⟩
 ·
  replace h:=bF hc2 h
  refine zg ?_
  obtain ⟨v6,q3,h⟩:=bs h
  obtain ⟨v7,q4,h⟩:=bs h
  obtain ⟨v8,q5,h⟩:=bs h
  refine rg y<|u<|mv y<|u<|mv y<|u<|bl 2 ti y ti y (by decide) (by decide) y y y<|u<|mv y<|u<|mv y<|u<|sx [] (zil v1 v2 v3 q3)<|u<|apM (l:=[v3]) (f:=zf) 4 ti y ti y y (by decide) ti y y y y (roM y) (fun _=>y) y q4<|u<|mv y<|zx (env0:=[(7,.mpt 0 0 0),(21,.ipt 2 [[.isl 6 (map zc v1),.imp (map (rKV (fun x=>iA x)) v2)]] 0 0),(27,.isl 1 (map zf v7)),(28,sA v4)]) (st0:=[some (10,[[sA [],.lit (.slice none 0 0),sA [],bA false,bA false,iA 0,iA 0,.lit (.slice none 0 0),.lit (.slice none 0 0),.lit (.slice none 0 0)]])]) (zo [.old 0])<|u<|pc (zpe v1 v2 v7 v4 q5) y y y<|u<|ex y y<|u<|ex y y<|u<|ex y y<|u<|asg y<|u<|sto ti y y y<|u<|asg y<|za ?_
  refine zj ?_
  obtain rfl:=sm h
  exact ⟨_,y,zy []⟩
def zaC(v1:List zb)(v2:T2)(v3:T0)(v4:zd)(v5:T1)(v12:zd)(v22:T1)(v23:Bool):Option (T1×Bool):=
  cond (!(v12.Ret == [86])) ((zA v1 v2 v3 v4 v5 v22 v23 v12.Ret).bind fun v24=>some (v24,v23)) (some (v22,v23))
def za3(v1:List zb)(v2:T2)(v3:T0)(v4:zd)(v5:T1)(v8:zH)(v11:T0)(v12:zd)(v14:T1×Bool)(v15:Bool):Option (T1×Bool):=
  cond v15 ((zE v1 v2 v3 v4 v5 v14.1 v14.2 [v8.C]).bind fun v16=>zaC v1 v2 v3 v4 v5 v12 v16.1 v16.2) (cond (v8.Op == (44:Int)) ((zaf v1 v2 v3 v4 v5 v14.1 v14.2).bind fun v17=>(zer v1 v2 v17.1 v8.C).bind fun v18=>cond v18 ((zer v1 v2 v17.1 v3).bind fun v19=>cond v19 ((zbH v1 v2 v3).bind fun v20=>(zK v20 v11).bind fun v21=>zaC v1 v2 v3 v4 v5 v12 v17.2.1 (v17.2.2||(!v21))) (zaC v1 v2 v3 v4 v5 v12 v17.2.1 (v17.2.2||(!false)))) (zaC v1 v2 v3 v4 v5 v12 v17.2.1 (v17.2.2||(!false)))) (zaC v1 v2 v3 v4 v5 v12 v14.1 v14.2))
def zbg(v1:List zb)(v2:T2)(v3:T0)(v4:zd)(v5:T1)(v6:T1)(v7:Bool)(v8:zH)(v11:T0)(v12:zd)(v13:Bool):Option (T1×Bool):=
  (zE v1 v2 v3 v4 v5 v6 (v7||(!(v13&&(v12.Static == (v8.Op == (42:Int)))))) v12.Params).bind fun v14=>cond (v8.Op == (43:Int)) (za3 v1 v2 v3 v4 v5 v8 v11 v12 v14 (v8.Op == (43:Int))) (za3 v1 v2 v3 v4 v5 v8 v11 v12 v14 (v8.Op == (45:Int)))
def zcH(v1:List zb)(v2:T2)(v3:T0)(v4:zd)(v5:T1)(v6:T1)(v7:Bool)(v8:zH):Option (T1×Bool):=
  (zgK v1 v2 v8.C v8.M).bind fun v9=>cond (v8.Op == (45:Int)) ((zid v1 v2 v8.C v8.M).bind fun v10=>zbg v1 v2 v3 v4 v5 v6 v7 v8 v10.1 v10.2.1 v10.2.2) (zbg v1 v2 v3 v4 v5 v6 v7 v8 v9.1 v9.2.1 (v9.2.2&&(!v9.2.1.Abstract)))
theorem zk0(v1:List zb)(v2:T2)(v3:T0)(v4:zd)(v5:T1)(v6:T1)(v7:Bool)(v8:zH){r:T1×Bool}(h:zcH v1 v2 v3 v4 v5 v6 v7 v8=some r):SC Tryz.prog 145 [.mpt 0 0 0,.agg (zv v8)] [.one 15 (vK v1 v2 v3 v4 (.msl 1 0 (length v5)) (.msl 2 0 (length v6)) (bA v7)),.many 1 (map zf v5),.many 1 (map zf v6)] (.tup []) [.one 15 (vK v1 v2 v3 v4 (.msl 1 0 (length v5)) (.msl 3 0 (length r.1)) (bA r.2)),.many 1 (map zf v5),.no,.many 1 (map zf r.1)]:=by
 refine ⟨⟨t,zhS (sz:=1) (fun _=>y),t,zhS (sz:=1) (fun _=>y),t⟩,zW Tryz.func145 y kz y ?_⟩
 unfold zcH at h
 refine rg y<|u<|bx 3 4 y y y y<|za ?_
 obtain ⟨v9,q1,h⟩:=bs h
 refine rdA [(0,.mpt 0 0 0),(3,.mpt 3 0 0),(4,sA v9.1),(5,.mpt 4 0 0),(6,bA v9.2.2)] [some (15,[(vK v1 v2 v3 v4 (.msl 1 0 (length v5)) (.msl 2 0 (length v6)) (bA v7))]),some (1,map zf v5),some (1,map zf v6),some (4,[(zv v8)]),some (10,[(zh v9.2.1)])] [13,15] [12,11,10,9,8,7,6,5,4,3,2,1,0] [(20,bA v9.2.2),(19,.agg (zh v9.2.1)),(18,sA v9.1),(8,.tup [sA v9.1,.agg (zh v9.2.1),bA v9.2.2]),(17,.tup [sA v9.1,.agg (zh v9.2.1),bA v9.2.2]),(16,sA v8.M),(15,.mpt 3 0 3),(14,sA v8.C),(13,.mpt 3 0 2),(12,.ipt 2 [[.isl 6 (map zc v1),.imp (map (rKV (fun x=>iA x)) v2)]] 0 0),(11,.mpt 0 0 0),(10,.mpt 0 0 0),(9,.mpt 0 0 0)] 2 (zem ⟨pe,pe,pe,pe,(pb y (pc (zj2 v1 v2 v8.C v8.M q1) y y y w)),pe,pe,pe,pe,pe,pe,pe,pe,t⟩ ⟨(fun _ _=>⟨_,y,y,al 4 ti y<|⟨(.mpt 4 0 0),[14],[(4,sA v9.1),(5,.mpt 4 0 0)],y,y,kz,y,zem ⟨pe,pe,pe,pe,pe,(pb y (pc (zj2 v1 v2 v8.C v8.M q1) y y y w)),pe,pe,pe,pe,pe,pe,pe,pe,t⟩ ⟨nv,(fun _ _=>⟨_,y,y,sto ti y y y<|⟨.any,[16],[(6,bA v9.2.2)],y,y,kz,t,zhW (zo [.old 0,.old 1,.old 2,.old 3,.old 4])⟩⟩),t⟩⟩⟩),nw,t⟩) ?_
 refine rg y<|u<|mv y<|u<|mv y<|z7 (j:=1) 3 y y y y y gpn (fun hb2=>g y hb2<|fa ti y y y<|g y hb2<|ld ti y y<|g y hb2<|nt y<|za (egA [23,24,25] 3 hb2 y y y y)) ze2<|u<|asg y<|za ?_
 refine za6 (X:=T0×zd×Bool) (fun z=>[(0,.mpt 0 0 0),(3,.mpt 3 0 0),(4,sA z.1),(5,.mpt 4 0 0),(6,bA z.2.2)]) (fun z=>[some (15,[(vK v1 v2 v3 v4 (.msl 1 0 (length v5)) (.msl 2 0 (length v6)) (bA v7))]),some (1,map zf v5),some (1,map zf v6),some (4,[(zv v8)]),some (10,[(zh z.2.1)])]) (fun z=>zbg v1 v2 v3 v4 v5 v6 v7 v8 z.1 z.2.1 z.2.2=some r) ?_ ?_
 ·
  refine rg y<|u<|fa ti y y y<|u<|ld ti y y<|u<|eql ti y y<|za ?_
  refine ze y (fun hc3=>?_) (fun hc3=>?_)
  ·
   replace h:=bT hc3 h
   obtain ⟨v10,q4,h⟩:=bs h
   refine zjq [(0,.mpt 0 0 0),(3,.mpt 3 0 0),(4,sA v10.1),(5,.mpt 4 0 0),(6,bA v10.2.2)] [some (15,[(vK v1 v2 v3 v4 (.msl 1 0 (length v5)) (.msl 2 0 (length v6)) (bA v7))]),some (1,map zf v5),some (1,map zf v6),some (4,[(zv v8)]),some (10,[(zh v10.2.1)])] [14] [13,12,11,10,9,8,7,6,5,4,3,2,1,0] [(4,sA v10.1),(42,bA v10.2.2),(41,.agg (zh v10.2.1)),(40,sA v10.1),(30,.tup [sA v10.1,.agg (zh v10.2.1),bA v10.2.2]),(39,.tup [sA v10.1,.agg (zh v10.2.1),bA v10.2.2]),(38,sA v8.M),(37,.mpt 3 0 3),(36,sA v8.C),(35,.mpt 3 0 2),(34,.ipt 2 [[.isl 6 (map zc v1),.imp (map (rKV (fun x=>iA x)) v2)]] 0 0),(33,.mpt 0 0 0),(32,.mpt 0 0 0),(31,.mpt 0 0 0)] 1 (zem ⟨pe,pe,pe,pe,pe,(pb y (pc (zpv v1 v2 v8.C v8.M q4) y y y w)),pe,pe,pe,pe,pe,pe,pe,pe,t⟩ ⟨(fun _ _=>⟨_,y,y,sto ti y y y<|⟨.any,[15],[(6,bA v10.2.2)],y,y,kz,t,zhW (zo [.old 0,.old 1,.old 2,.old 3,.old 4])⟩⟩),t⟩) ?_
   exact ⟨⟨v10.1,v10.2.1,v10.2.2⟩,h,zo [.old 0,.old 1,.old 2,.old 3,.old 4]⟩
  ·
   replace h:=bF hc3 h
   refine zg ?_
   exact ⟨⟨v9.1,v9.2.1,(v9.2.2&&(!v9.2.1.Abstract))⟩,h,zo [.old 0,.old 1,.old 2,.old 3,.old 4]⟩
 ·
  rintro ⟨v11,v12,v13⟩ h
  replace h:zbg v1 v2 v3 v4 v5 v6 v7 v8 v11 v12 v13=some r:=h
  unfold zbg at h
  refine rg y<|u<|mv y<|u<|mv y<|u<|mv y<|z7 (j:=2) 6 y y y y y gpn (fun hb5=>g y hb5<|fa ti y y y<|g y hb5<|ld ti y y<|g y hb5<|fa ti y y y<|g y hb5<|ld ti y y<|g y hb5<|eql ti y y<|g y hb5<|beq ti y y y<|za (egA [46,47,48,49,50,51] 6 hb5 y y y y)) ze2<|u<|sx [0,1,2] (zs v1 v2 v3 v4 v5 v6 v7 (v13&&(v12.Static == (v8.Op == (42:Int)))) y)<|zx (env0:=[(0,.mpt 0 0 0),(3,.mpt 3 0 0),(4,sA v11),(5,.mpt 4 0 0)]) (st0:=[some (15,[(vK v1 v2 v3 v4 (.msl 1 0 (length v5)) (.msl 2 0 (length v6)) (bA (v7||(!(v13&&(v12.Static == (v8.Op == (42:Int))))))))]),some (1,map zf v5),some (1,map zf v6),some (4,[(zv v8)]),some (10,[(zh v12)])]) (zo [.old 0,.old 1,.old 2,.old 3,.old 4])<|za ?_
  obtain ⟨v14,q6,h⟩:=bs h
  refine rg y<|u<|mv y<|u<|fa ti y y y<|u<|ld ti y y<|u<|sx [0,1,2] (zG v1 v2 v3 v4 v5 v6 (v7||(!(v13&&(v12.Static == (v8.Op == (42:Int)))))) v12.Params q6)<|zx (env0:=[(0,.mpt 0 0 0),(3,.mpt 3 0 0),(4,sA v11),(5,.mpt 4 0 0)]) (st0:=[some (15,[(vK v1 v2 v3 v4 (.msl 1 0 (length v5)) (.msl 2 0 (length v14.1)) (bA v14.2))]),some (1,map zf v5),some (1,map zf v14.1),some (4,[(zv v8)]),some (10,[(zh v12)])]) (zo [.old 0,.old 1,.old 2,.old 3,.old 4])<|za ?_
  refine za6 (X:=T1×Bool) (fun z=>[(0,.mpt 0 0 0),(5,.mpt 3 0 0)]) (fun z=>[some (15,[(vK v1 v2 v3 v4 (.msl 1 0 (length v5)) (.msl 2 0 (length z.1)) (bA z.2))]),some (1,map zf v5),some (1,map zf z.1),some (10,[(zh v12)])]) (fun z=>zaC v1 v2 v3 v4 v5 v12 z.1 z.2=some r) ?_ ?_
  ·
   refine rg y<|u<|fa ti y y y<|u<|ld ti y y<|za ?_
   refine zr ?_
   refine za6 (X:=Bool) (fun z=>[(0,.mpt 0 0 0),(3,.mpt 3 0 0),(4,sA v11),(5,.mpt 4 0 0),(59,iA v8.Op),(60,bA z)]) (fun z=>[some (15,[(vK v1 v2 v3 v4 (.msl 1 0 (length v5)) (.msl 2 0 (length v14.1)) (bA v14.2))]),some (1,map zf v5),some (1,map zf v14.1),some (4,[(zv v8)]),some (10,[(zh v12)])]) (fun z=>za3 v1 v2 v3 v4 v5 v8 v11 v12 v14 z=some r) ?_ ?_
   ·
    refine rg y<|u<|eql ti y y<|u<|asg y<|za ?_
    refine ze y (fun hc7=>?_) (fun hc7=>?_)
    ·
     replace h:=bT hc7 h
     refine zg ?_
     exact ⟨(v8.Op == (43:Int)),h,zo [.old 0,.old 1,.old 2,.old 3,.old 4]⟩
    ·
     replace h:=bF hc7 h
     exact rl y<|u<|eql ti y y<|u<|asg y<|za (⟨(v8.Op == (45:Int)),h,zo [.old 0,.old 1,.old 2,.old 3,.old 4]⟩)
   ·
    rintro v15 h
    replace h:za3 v1 v2 v3 v4 v5 v8 v11 v12 v14 v15=some r:=h
    unfold za3 at h
    refine ze y (fun hc8=>?_) (fun hc8=>?_)
    ·
     replace h:=bT hc8 h
     obtain ⟨v16,q9,h⟩:=bs h
     exact rl y<|u<|mv y<|u<|fa ti y y y<|u<|ld ti y y<|u<|bl 5 ti y ti y (by decide) (by decide) y y y<|zx (env0:=[(0,.mpt 0 0 0),(5,.mpt 3 0 0),(63,.mpt 0 0 0),(66,.isl 1 (map zf [v8.C]))]) (st0:=[some (15,[(vK v1 v2 v3 v4 (.msl 1 0 (length v5)) (.msl 2 0 (length v14.1)) (bA v14.2))]),some (1,map zf v5),some (1,map zf v14.1),some (10,[(zh v12)])]) (zo [.old 0,.old 1,.old 2,.old 4])<|u<|sx [0,1,2] (zG v1 v2 v3 v4 v5 v14.1 v14.2 [v8.C] q9)<|zx (env0:=[(0,.mpt 0 0 0),(5,.mpt 3 0 0)]) (st0:=[some (15,[(vK v1 v2 v3 v4 (.msl 1 0 (length v5)) (.msl 2 0 (length v16.1)) (bA v16.2))]),some (1,map zf v5),some (1,map zf v16.1),some (10,[(zh v12)])]) (zo [.old 0,.old 1,.old 2,.old 3])<|za (⟨⟨v16.1,v16.2⟩,h,zo [.old 0,.old 1,.old 2,.old 3]⟩)
    ·
     replace h:=bF hc8 h
     refine rg y<|u<|eql ti y y<|u<|asg y<|za ?_
     refine ze y (fun hc10=>?_) (fun hc10=>?_)
     ·
      replace h:=bT hc10 h
      obtain ⟨v17,q11,h⟩:=bs h
      refine rg y<|u<|mv y<|u<|sx [0,1,2] (zaL v1 v2 v3 v4 v5 v14.1 v14.2 q11)<|zx (env0:=[(0,.mpt 0 0 0),(3,.mpt 3 0 0),(4,sA v11),(5,.mpt 4 0 0),(71,sA v17.1)]) (st0:=[some (15,[(vK v1 v2 v3 v4 (.msl 1 0 (length v5)) (.msl 2 0 (length v17.2.1)) (bA v17.2.2))]),some (1,map zf v5),some (1,map zf v17.2.1),some (4,[(zv v8)]),some (10,[(zh v12)])]) (zo [.old 0,.old 1,.old 2,.old 3,.old 4])<|u<|asg y<|za ?_
      obtain ⟨v18,q12,h⟩:=bs h
      rcases bb v18 with hb13 |hb13
      ·
       replace h:=bT hb13 h
       obtain ⟨v19,q14,h⟩:=bs h
       rcases bb v19 with hb15 |hb15
       ·
        replace h:=bT hb15 h
        obtain ⟨v20,q16,h⟩:=bs h
        obtain ⟨v21,q17,h⟩:=bs h
        refine zjq [(0,.mpt 0 0 0),(5,.mpt 3 0 0)] [some (15,[(vK v1 v2 v3 v4 (.msl 1 0 (length v5)) (.msl 2 0 (length v17.2.1)) (bA (v17.2.2||(!v21))))]),some (1,map zf v5),some (1,map zf v17.2.1),some (10,[(zh v12)])] [30,34] [31,29,28,27,26,25,24,23,22,21,20,19,18,17,16,15,14,13,12,11,10,9,8,7,6,5,4,3,2,1,0] [(103,sA v11),(101,sA v3),(100,.mpt 0 0 1),(99,.mpt 0 0 0),(98,.mpt 0 0 0),(97,.ipt 2 [[.isl 6 (map zc v1),.imp (map (rKV (fun x=>iA x)) v2)]] 0 0),(96,.mpt 0 0 0),(95,.mpt 0 0 0),(94,.mpt 0 0 0),(93,bA v19),(92,bA v19),(91,bA v19),(90,sA v3),(89,.mpt 0 0 1),(88,.mpt 0 0 0),(87,.mpt 0 0 0),(86,sA v17.1),(85,.ipt 2 [[.isl 6 (map zc v1),.imp (map (rKV (fun x=>iA x)) v2)]] 0 0),(84,.mpt 0 0 0),(83,.mpt 0 0 0),(82,.mpt 0 0 0),(81,bA v18),(80,bA v18),(79,sA v8.C),(78,.mpt 3 0 2),(77,sA v17.1),(76,.ipt 2 [[.isl 6 (map zc v1),.imp (map (rKV (fun x=>iA x)) v2)]] 0 0),(75,.mpt 0 0 0),(74,.mpt 0 0 0),(73,.mpt 0 0 0),(72,.mpt 0 0 0)] 2 (zem ⟨pe,pe,pe,pe,pe,pe,pe,pe,pe,pe,pe,(fun _=>pag (b:=v18) y y y y hb13 y (pc (zaQ v1 v2 v17.1 v3 q14) y y y<|w)),pe,pe,pe,pe,pe,pe,pe,pe,pe,pe,(pb y (pc (zaQ v1 v2 v17.1 v8.C q12) y y y w)),pe,pe,pe,pe,pe,pe,pe,pe,t⟩ ⟨(fun _ _=>⟨_,y,cg (b:=v19) y hb15,sx [] (zdi v1 v2 v3 q16)<|⟨(.msl 5 0 (length v20)),[33,32],[(105,bA v21),(104,bA v21),(102,.msl 5 0 (length v20))],y,y,kz,y,zem ⟨pe,(fun _=>pag (b:=v19) y y y y hb15 y (pcs (zaH v20 v11 q17) y y (.cons (zhU y (fun _=>y)) (.cons (si y) .nil)) zcD<|w)),pe,pe,pe,pe,pe,pe,pe,pe,pe,pe,pe,(fun _=>pag (b:=v18) y y y y hb13 y (pc (zaQ v1 v2 v17.1 v3 q14) y y y<|w)),pe,pe,pe,pe,pe,pe,pe,pe,pe,pe,(pb y (pc (zaQ v1 v2 v17.1 v8.C q12) y y y w)),pe,pe,pe,pe,pe,pe,pe,pe,t⟩ ⟨nv,(fun _ _=>⟨_,y,y,sc [0,1,2] (args:=[.mpt 0 0 0,bA v21]) (zs v1 v2 v3 v4 v5 v17.2.1 v17.2.2 v21 y) y y y y ⟨(.mpt y),(rnI y),t⟩ ⟨⟨_,y,(zvW y ⟨(.msl y),(.msl y),(rnI y),t⟩)⟩,⟨y,mkI (fun _=>y)⟩,⟨y,mkI (fun _=>y)⟩,t⟩<|⟨(.tup []),[],[(106,.tup [])],y,y,kz,y,zht ⟨pe,pe,pe,pe,pe,pe,pe,pe,pe,pe,pe,pe,pe,(fun _=>pag (b:=v18) y y y y hb13 y (pc (zaQ v1 v2 v17.1 v3 q14) y y y<|w)),pe,pe,pe,pe,pe,pe,pe,pe,pe,pe,(pb y (pc (zaQ v1 v2 v17.1 v8.C q12) y y y w)),pe,pe,pe,pe,pe,pe,pe,pe,t⟩ (zo [.old 0,.old 1,.old 2,.old 4])⟩⟩),t⟩⟩⟩),nw,t⟩) ?_
        exact ⟨⟨v17.2.1,(v17.2.2||(!v21))⟩,h,zo [.old 0,.old 1,.old 2,.old 3]⟩
       ·
        replace h:=bF hb15 h
        refine zjq [(0,.mpt 0 0 0),(5,.mpt 3 0 0)] [some (15,[(vK v1 v2 v3 v4 (.msl 1 0 (length v5)) (.msl 2 0 (length v17.2.1)) (bA (v17.2.2||(!false))))]),some (1,map zf v5),some (1,map zf v17.2.1),some (10,[(zh v12)])] [34] [33,32,31,30,29,28,27,26,25,24,23,22,21,20,19,18,17,16,15,14,13,12,11,10,9,8,7,6,5,4,3,2,1,0] [(105,bA false),(104,.lit undef),(103,.lit undef),(102,.lit undef),(101,.lit undef),(100,.lit undef),(99,.lit undef),(98,.lit undef),(97,.lit undef),(96,.lit undef),(95,.lit undef),(94,.lit undef),(93,bA v19),(92,bA v19),(91,bA v19),(90,sA v3),(89,.mpt 0 0 1),(88,.mpt 0 0 0),(87,.mpt 0 0 0),(86,sA v17.1),(85,.ipt 2 [[.isl 6 (map zc v1),.imp (map (rKV (fun x=>iA x)) v2)]] 0 0),(84,.mpt 0 0 0),(83,.mpt 0 0 0),(82,.mpt 0 0 0),(81,bA v18),(80,bA v18),(79,sA v8.C),(78,.mpt 3 0 2),(77,sA v17.1),(76,.ipt 2 [[.isl 6 (map zc v1),.imp (map (rKV (fun x=>iA x)) v2)]] 0 0),(75,.mpt 0 0 0),(74,.mpt 0 0 0),(73,.mpt 0 0 0),(72,.mpt 0 0 0)] 1 (zem ⟨pe,pe,pe,pe,pe,pe,pe,pe,pe,pe,pe,pe,pe,pe,(fun _=>pag (b:=v18) y y y y hb13 y (pc (zaQ v1 v2 v17.1 v3 q14) y y y<|w)),pe,pe,pe,pe,pe,pe,pe,pe,pe,pe,(pb y (pc (zaQ v1 v2 v17.1 v8.C q12) y y y w)),pe,pe,pe,pe,pe,pe,pe,pe,t⟩ ⟨(fun _ _=>⟨_,y,y,sc [0,1,2] (args:=[.mpt 0 0 0,bA false]) (zs v1 v2 v3 v4 v5 v17.2.1 v17.2.2 false y) y y y y ⟨(.mpt y),(rnI y),t⟩ ⟨⟨_,y,(zvW y ⟨(.msl y),(.msl y),(rnI y),t⟩)⟩,⟨y,mkI (fun _=>y)⟩,⟨y,mkI (fun _=>y)⟩,t⟩<|⟨(.tup []),[],[(106,.tup [])],y,y,kz,y,zht ⟨pe,pe,pe,pe,pe,pe,pe,pe,pe,pe,pe,pe,pe,pe,(fun _=>pag (b:=v18) y y y y hb13 y (pc (zaQ v1 v2 v17.1 v3 q14) y y y<|w)),pe,pe,pe,pe,pe,pe,pe,pe,pe,pe,(pb y (pc (zaQ v1 v2 v17.1 v8.C q12) y y y w)),pe,pe,pe,pe,pe,pe,pe,pe,t⟩ (zo [.old 0,.old 1,.old 2,.old 4])⟩⟩),t⟩) ?_
        exact ⟨⟨v17.2.1,(v17.2.2||(!false))⟩,h,zo [.old 0,.old 1,.old 2,.old 3]⟩
      ·
       replace h:=bF hb13 h
       refine zjq [(0,.mpt 0 0 0),(5,.mpt 3 0 0)] [some (15,[(vK v1 v2 v3 v4 (.msl 1 0 (length v5)) (.msl 2 0 (length v17.2.1)) (bA (v17.2.2||(!false))))]),some (1,map zf v5),some (1,map zf v17.2.1),some (10,[(zh v12)])] [34] [33,32,31,30,29,28,27,26,25,24,23,22,21,20,19,18,17,16,15,14,13,12,11,10,9,8,7,6,5,4,3,2,1,0] [(105,bA false),(104,.lit undef),(103,.lit undef),(102,.lit undef),(101,.lit undef),(100,.lit undef),(99,.lit undef),(98,.lit undef),(97,.lit undef),(96,.lit undef),(95,.lit undef),(94,.lit undef),(93,bA false),(92,bA false),(91,.lit undef),(90,.lit undef),(89,.lit undef),(88,.lit undef),(87,.lit undef),(86,.lit undef),(85,.lit undef),(84,.lit undef),(83,.lit undef),(82,.lit undef),(81,bA v18),(80,bA v18),(79,sA v8.C),(78,.mpt 3 0 2),(77,sA v17.1),(76,.ipt 2 [[.isl 6 (map zc v1),.imp (map (rKV (fun x=>iA x)) v2)]] 0 0),(75,.mpt 0 0 0),(74,.mpt 0 0 0),(73,.mpt 0 0 0),(72,.mpt 0 0 0)] 1 (zem ⟨pe,pe,pe,pe,pe,pe,pe,pe,pe,pe,pe,pe,pe,pe,pe,pe,pe,pe,pe,pe,pe,pe,pe,pe,pe,(pb y (pc (zaQ v1 v2 v17.1 v8.C q12) y y y w)),pe,pe,pe,pe,pe,pe,pe,pe,t⟩ ⟨(fun _ _=>⟨_,y,y,sc [0,1,2] (args:=[.mpt 0 0 0,bA false]) (zs v1 v2 v3 v4 v5 v17.2.1 v17.2.2 false y) y y y y ⟨(.mpt y),(rnI y),t⟩ ⟨⟨_,y,(zvW y ⟨(.msl y),(.msl y),(rnI y),t⟩)⟩,⟨y,mkI (fun _=>y)⟩,⟨y,mkI (fun _=>y)⟩,t⟩<|⟨(.tup []),[],[(106,.tup [])],y,y,kz,y,zht ⟨pe,pe,pe,pe,pe,pe,pe,pe,pe,pe,pe,pe,pe,pe,pe,pe,pe,pe,pe,pe,pe,pe,pe,pe,pe,(pb y (pc (zaQ v1 v2 v17.1 v8.C q12) y y y w)),pe,pe,pe,pe,pe,pe,pe,pe,t⟩ (zo [.old 0,.old 1,.old 2,.old 4])⟩⟩),t⟩) ?_
       exact ⟨⟨v17.2.1,(v17.2.2||(!false))⟩,h,zo [.old 0,.old 1,.old 2,.old 3]⟩
     ·
      replace h:=bF hc10 h
      refine zg ?_
      exact ⟨⟨v14.1,v14.2⟩,h,zo [.old 0,.old 1,.old 2,.old 4]⟩
  ·
   rintro ⟨v22,v23⟩ h
   replace h:zaC v1 v2 v3 v4 v5 v12 v22 v23=some r:=h
   unfold zaC at h
   refine rg y<|u<|fa ti y y y<|u<|ld ti y y<|u<|sne ti y y<|za ?_
   refine ze y (fun hc18=>?_) (fun hc18=>?_)
   ·
    replace h:=bT hc18 h
    obtain ⟨v24,q19,h⟩:=bs h
    refine rl y<|u<|mv y<|u<|fa ti y y y<|u<|ld ti y y<|u<|sx [0,1,2] (zz v1 v2 v3 v4 v5 v22 v23 v12.Ret q19)<|zx (env0:=[]) (st0:=[some (15,[(vK v1 v2 v3 v4 (.msl 1 0 (length v5)) (.msl 3 0 (length v24)) (bA v23))]),some (1,map zf v5),none,some (1,map zf v24)]) (zo [.old 0,.old 1,.dead,.old 4])<|za ?_
    obtain rfl:=sm h
    exact ⟨_,y,zy [.old 0,.old 1,.dead,.old 3]⟩
   ·
    replace h:=bF hc18 h
    refine zg ?_
    obtain rfl:=sm h
    exact ⟨_,y,zy [.old 0,.old 1,.dead,.old 2]⟩
def zc1(v1:List zb)(v2:T2)(v3:T0)(v4:zd)(v5:T1)(v6:T1)(v7:Bool)(v8:Int):Option (T1×Bool):=
  cond (v8 == (46:Int)) (some (v6,(v7||(!(v4.Ret == [86]))))) (cond (v8 == (47:Int)) ((zE v1 v2 v3 v4 v5 v6 (v7||(!(v4.Ret == [73]))) ([[73]])).bind fun v9=>some (v9.1,v9.2)) ((zjl v4.Ret).bind fun v10=>(zE v1 v2 v3 v4 v5 v6 (v7||(!v10)) [v4.Ret]).bind fun v11=>some (v11.1,v11.2)))
theorem zlp(v1:List zb)(v2:T2)(v3:T0)(v4:zd)(v5:T1)(v6:T1)(v7:Bool)(v8:Int){r:T1×Bool}(h:zc1 v1 v2 v3 v4 v5 v6 v7 v8=some r):SC Tryz.prog 146 [.mpt 0 0 0,iA v8] [.one 15 (vK v1 v2 v3 v4 (.msl 1 0 (length v5)) (.msl 2 0 (length v6)) (bA v7)),.many 1 (map zf v5),.many 1 (map zf v6)] (.tup []) [.one 15 (vK v1 v2 v3 v4 (.msl 1 0 (length v5)) (.msl 2 0 (length r.1)) (bA r.2)),.many 1 (map zf v5),.many 1 (map zf r.1)]:=by
 refine ⟨⟨t,zhS (sz:=1) (fun _=>y),zhS (sz:=1) (fun _=>y),t⟩,zW Tryz.func146 y kz y ?_⟩
 unfold zc1 at h
 refine zr ?_
 refine rg y<|u<|mv y<|u<|eql ti y y<|u<|asg y<|za ?_
 refine ze y (fun hc1=>?_) (fun hc1=>?_)
 ·
  replace h:=bT hc1 h
  refine rl y<|u<|mv y<|u<|mv y<|u<|nc y y<|u<|fa ti y y y<|u<|fa ti y y y<|u<|ld ti y y<|u<|seq ti y y<|u<|sx [0,1,2] (zs v1 v2 v3 v4 v5 v6 v7 (v4.Ret == [86]) y)<|zx (env0:=[]) (st0:=[some (15,[(vK v1 v2 v3 v4 (.msl 1 0 (length v5)) (.msl 2 0 (length v6)) (bA (v7||(!(v4.Ret == [86])))))]),some (1,map zf v5),some (1,map zf v6)]) (zo [.old 0,.old 1,.old 2])<|za ?_
  obtain rfl:=sm h
  exact ⟨_,y,zy [.old 0,.old 1,.old 2]⟩
 ·
  replace h:=bF hc1 h
  refine rg y<|u<|mv y<|u<|eql ti y y<|u<|asg y<|za ?_
  refine ze y (fun hc2=>?_) (fun hc2=>?_)
  ·
   replace h:=bT hc2 h
   refine rg y<|u<|mv y<|u<|mv y<|u<|nc y y<|u<|fa ti y y y<|u<|fa ti y y y<|u<|ld ti y y<|u<|seq ti y y<|u<|sx [0,1,2] (zs v1 v2 v3 v4 v5 v6 v7 (v4.Ret == [73]) y)<|zx (env0:=[(0,.mpt 0 0 0)]) (st0:=[some (15,[(vK v1 v2 v3 v4 (.msl 1 0 (length v5)) (.msl 2 0 (length v6)) (bA (v7||(!(v4.Ret == [73])))))]),some (1,map zf v5),some (1,map zf v6)]) (zo [.old 0,.old 1,.old 2])<|za ?_
   obtain ⟨v9,q3,h⟩:=bs h
   refine rl y<|u<|mv y<|u<|bl 3 ti y ti y (by decide) (by decide) y y y<|zx (env0:=[(42,.mpt 0 0 0),(43,.isl 1 (map zf ([[73]])))]) (st0:=[some (15,[(vK v1 v2 v3 v4 (.msl 1 0 (length v5)) (.msl 2 0 (length v6)) (bA (v7||(!(v4.Ret == [73])))))]),some (1,map zf v5),some (1,map zf v6)]) (zo [.old 0,.old 1,.old 2])<|u<|sx [0,1,2] (zG v1 v2 v3 v4 v5 v6 (v7||(!(v4.Ret == [73]))) ([[73]]) q3)<|zx (env0:=[]) (st0:=[some (15,[(vK v1 v2 v3 v4 (.msl 1 0 (length v5)) (.msl 2 0 (length v9.1)) (bA v9.2))]),some (1,map zf v5),some (1,map zf v9.1)]) (zo [.old 0,.old 1,.old 2])<|za ?_
   obtain rfl:=sm h
   exact ⟨_,y,zy [.old 0,.old 1,.old 2]⟩
  ·
   replace h:=bF hc2 h
   obtain ⟨v10,q4,h⟩:=bs h
   refine rg y<|u<|mv y<|u<|mv y<|u<|nc y y<|u<|fa ti y y y<|u<|fa ti y y y<|u<|ld ti y y<|u<|pc (zkd v4.Ret q4) y y y<|u<|sx [0,1,2] (zs v1 v2 v3 v4 v5 v6 v7 v10 y)<|zx (env0:=[(0,.mpt 0 0 0)]) (st0:=[some (15,[(vK v1 v2 v3 v4 (.msl 1 0 (length v5)) (.msl 2 0 (length v6)) (bA (v7||(!v10))))]),some (1,map zf v5),some (1,map zf v6)]) (zo [.old 0,.old 1,.old 2])<|za ?_
   obtain ⟨v11,q5,h⟩:=bs h
   refine rl y<|u<|mv y<|u<|mv y<|u<|nc y y<|u<|fa ti y y y<|u<|fa ti y y y<|u<|ld ti y y<|u<|bl 3 ti y ti y (by decide) (by decide) y y y<|zx (env0:=[(12,.mpt 0 0 0),(18,.isl 1 (map zf [v4.Ret]))]) (st0:=[some (15,[(vK v1 v2 v3 v4 (.msl 1 0 (length v5)) (.msl 2 0 (length v6)) (bA (v7||(!v10))))]),some (1,map zf v5),some (1,map zf v6)]) (zo [.old 0,.old 1,.old 2])<|u<|sx [0,1,2] (zG v1 v2 v3 v4 v5 v6 (v7||(!v10)) [v4.Ret] q5)<|zx (env0:=[]) (st0:=[some (15,[(vK v1 v2 v3 v4 (.msl 1 0 (length v5)) (.msl 2 0 (length v11.1)) (bA v11.2))]),some (1,map zf v5),some (1,map zf v11.1)]) (zo [.old 0,.old 1,.old 2])<|za ?_
   obtain rfl:=sm h
   exact ⟨_,y,zy [.old 0,.old 1,.old 2]⟩
def zjF(v1:T0):Option (T0):=
  (zhL v1).bind fun v2=>(cond (!v2) (some true) ((zzM [91] v1).bind fun v3=>(zhL v3).bind fun v4=>some (!v4))).bind fun v5=>cond v5 (some []) ((zzM [91] v1).bind fun v6=>some v6)
theorem zra(v1:T0){r:T0}(h:zjF v1=some r):zI Tryz.prog 214 [sA v1] (sA r):=by
 refine zq Tryz.func214 y kz y y ?_
 unfold zjF at h
 refine rg y<|u<|asg y<|za ?_
 refine zi ?_
 obtain ⟨v2,q1,h⟩:=bs h
 obtain ⟨v5,q5,h⟩:=bs h
 refine rg y<|u<|mv y<|u<|pc (zha v1 q1) y y y<|u<|nt y<|u<|mv y<|zdj (x:=v5) (j:=3) 4 y y y y y gpn (fun hb2=>by replace q5:=bF hb2 q5;obtain ⟨v3,q3,q5⟩:=bs q5;obtain ⟨v4,q4,q5⟩:=bs q5;obtain rfl:=sm q5;exact g y hb2<|mv y<|g y hb2<|zBX ti y y q3<|g y hb2<|pc (zha v3 q4) y y y<|g y hb2<|nt y<|za (eg [7,8,9,10] 4 y y y y)) (fun hb=>(sm (bT hb q5)).symm)<|za ?_
 refine ze y (fun hc6=>?_) (fun hc6=>?_)
 ·
  replace h:=bT hc6 h
  refine rg y<|u<|asg y<|za ?_
  refine zj ?_
  obtain rfl:=sm h
  exact ⟨_,y,zy []⟩
 ·
  replace h:=bF hc6 h
  refine zg ?_
  obtain ⟨v6,q7,h⟩:=bs h
  refine rg y<|u<|mv y<|u<|zBX ti y y q7<|u<|asg y<|za ?_
  refine zj ?_
  obtain rfl:=sm h
  exact ⟨_,y,zy []⟩
def zc2(v1:List zb)(v2:T2)(v3:T0)(v4:zd)(v5:T1)(v6:T1)(v7:Bool):Option (T0×T1×Bool):=
  (zaf v1 v2 v3 v4 v5 v6 v7).bind fun v8=>(zf2 v8.1).bind fun v9=>cond (v8.1 == [78]) (some (v8.1,v8.2.1,(v8.2.2||(!((v8.1 == [78])||(v9.2&&(!(v9.1 == [73])))))))) (some (v9.1,v8.2.1,(v8.2.2||(!((v8.1 == [78])||(v9.2&&(!(v9.1 == [73]))))))))
theorem zhN(v1:List zb)(v2:T2)(v3:T0)(v4:zd)(v5:T1)(v6:T1)(v7:Bool){r:T0×T1×Bool}(h:zc2 v1 v2 v3 v4 v5 v6 v7=some r):SC Tryz.prog 215 [.mpt 0 0 0] [.one 15 (vK v1 v2 v3 v4 (.msl 1 0 (length v5)) (.msl 2 0 (length v6)) (bA v7)),.many 1 (map zf v5),.many 1 (map zf v6)] (sA r.1) [.one 15 (vK v1 v2 v3 v4 (.msl 1 0 (length v5)) (.msl 2 0 (length r.2.1)) (bA r.2.2)),.many 1 (map zf v5),.many 1 (map zf r.2.1)]:=by
 refine ⟨⟨t,zhS (sz:=1) (fun _=>y),zhS (sz:=1) (fun _=>y),t⟩,zW Tryz.func215 y kz y ?_⟩
 unfold zc2 at h
 refine rg y<|u<|asg y<|za ?_
 obtain ⟨v8,q1,h⟩:=bs h
 refine rg y<|u<|mv y<|u<|sx [0,1,2] (zaL v1 v2 v3 v4 v5 v6 v7 q1)<|zx (env0:=[(0,.mpt 0 0 0),(7,sA v8.1)]) (st0:=[some (15,[(vK v1 v2 v3 v4 (.msl 1 0 (length v5)) (.msl 2 0 (length v8.2.1)) (bA v8.2.2))]),some (1,map zf v5),some (1,map zf v8.2.1)]) (zo [.old 0,.old 1,.old 2])<|u<|asg y<|za ?_
 obtain ⟨v9,q2,h⟩:=bs h
 refine rg y<|u<|mv y<|u<|pc (zhm v8.1 q2) y y y<|u<|mv y<|u<|ex y y<|u<|ex y y<|u<|asg y<|u<|asg y<|za ?_
 refine rg y<|u<|mv y<|u<|mv y<|u<|seq ti y y<|u<|mv y<|zdj (j:=3) 5 y y y y y gpn (fun hb3=>g y hb3<|mv y<|g y hb3<|mv y<|z7 (j:=5) 2 y y y y y (gps y y hb3) (fun hb4=>g y hb4<|mv y<|g y hb4<|sne ti y y<|za (egA [19,20] 2 hb4 y y y y)) ze2<|za (egO [17,18,19,20,21] 3 hb3 y y y y)) orT<|u<|sx [0,1,2] (zs v1 v2 v3 v4 v5 v8.2.1 v8.2.2 ((v8.1 == [78])||(v9.2&&(!(v9.1 == [73])))) y)<|zx (env0:=[(3,sA v8.1),(4,sA v9.1)]) (st0:=[some (15,[(vK v1 v2 v3 v4 (.msl 1 0 (length v5)) (.msl 2 0 (length v8.2.1)) (bA (v8.2.2||(!((v8.1 == [78])||(v9.2&&(!(v9.1 == [73]))))))))]),some (1,map zf v5),some (1,map zf v8.2.1)]) (zo [.old 0,.old 1,.old 2])<|za ?_
 refine zi ?_
 refine rg y<|u<|mv y<|u<|seq ti y y<|za ?_
 refine ze y (fun hc5=>?_) (fun hc5=>?_)
 ·
  replace h:=bT hc5 h
  refine rg y<|u<|mv y<|u<|asg y<|za ?_
  refine zj ?_
  obtain rfl:=sm h
  exact ⟨_,y,zy [.old 0,.old 1,.old 2]⟩
 ·
  replace h:=bF hc5 h
  refine zg ?_
  refine rg y<|u<|mv y<|u<|asg y<|za ?_
  refine zj ?_
  obtain rfl:=sm h
  exact ⟨_,y,zy [.old 0,.old 1,.old 2]⟩
def zax(v1:List zb)(v2:T2)(v3:T0)(v4:zd)(v5:T1)(v6:T1)(v7:Bool)(v8:zH):Option (T1×Bool):=
  cond (v8.Op == (49:Int)) ((zE v1 v2 v3 v4 v5 v6 v7 ([[73]])).bind fun v9=>(zA v1 v2 v3 v4 v5 v9.1 v9.2 [91,73]).bind fun v10=>some (v10,v9.2)) (cond (v8.Op == (50:Int)) ((zjF v8.C).bind fun v11=>(cond (!(v11 == [])) ((zdv v1 v2 v11).bind fun v12=>some v12) (some false)).bind fun v13=>(zE v1 v2 v3 v4 v5 v6 (v7||(!v13)) ([[73]])).bind fun v14=>(zA v1 v2 v3 v4 v5 v14.1 v14.2 v11).bind fun v15=>some (v15,v14.2)) (cond (v8.Op == (51:Int)) ((zaf v1 v2 v3 v4 v5 v6 v7).bind fun v16=>(zf2 v16.1).bind fun v17=>(zA v1 v2 v3 v4 v5 v16.2.1 (v16.2.2||(!(v17.2||(v16.1 == [78])))) [73]).bind fun v18=>some (v18,(v16.2.2||(!(v17.2||(v16.1 == [78])))))) (cond (v8.Op == (52:Int)) ((zE v1 v2 v3 v4 v5 v6 v7 ([[91,73],[73]])).bind fun v19=>(zA v1 v2 v3 v4 v5 v19.1 v19.2 [73]).bind fun v20=>some (v20,v19.2)) (cond (v8.Op == (53:Int)) ((zE v1 v2 v3 v4 v5 v6 v7 ([[91,73],[73],[73]])).bind fun v21=>some (v21.1,v21.2)) (cond (v8.Op == (54:Int)) ((zE v1 v2 v3 v4 v5 v6 v7 ([[73]])).bind fun v22=>(zc2 v1 v2 v3 v4 v5 v22.1 v22.2).bind fun v23=>(zA v1 v2 v3 v4 v5 v23.2.1 v23.2.2 v23.1).bind fun v24=>some (v24,v23.2.2)) ((zbP v1 v2 v3 v4 v5 v6 v7).bind fun v25=>(zE v1 v2 v3 v4 v5 v25.2.1 v25.2.2 ([[73]])).bind fun v26=>(zc2 v1 v2 v3 v4 v5 v26.1 v26.2).bind fun v27=>some (v27.2.1,v27.2.2)))))))
theorem zjW(v1:List zb)(v2:T2)(v3:T0)(v4:zd)(v5:T1)(v6:T1)(v7:Bool)(v8:zH){r:T1×Bool}(h:zax v1 v2 v3 v4 v5 v6 v7 v8=some r):SC Tryz.prog 147 [.mpt 0 0 0,.agg (zv v8)] [.one 15 (vK v1 v2 v3 v4 (.msl 1 0 (length v5)) (.msl 2 0 (length v6)) (bA v7)),.many 1 (map zf v5),.many 1 (map zf v6)] (.tup []) [.one 15 (vK v1 v2 v3 v4 (.msl 1 0 (length v5)) (.msl 3 0 (length r.1)) (bA r.2)),.many 1 (map zf v5),.no,.many 1 (map zf r.1)]:=by
 refine ⟨⟨t,zhS (sz:=1) (fun _=>y),t,zhS (sz:=1) (fun _=>y),t⟩,zW Tryz.func147 y kz y ?_⟩
 unfold zax at h
 refine rg y<|u<|bx 3 4 y y y y<|za ?_
 refine rg y<|u<|fa ti y y y<|u<|ld ti y y<|za ?_
 refine zr ?_
 refine rg y<|u<|eql ti y y<|u<|asg y<|za ?_
 refine ze y (fun hc1=>?_) (fun hc1=>?_)
 ·
  replace h:=bT hc1 h
  obtain ⟨v9,q2,h⟩:=bs h
  refine rg y<|u<|mv y<|u<|bl 4 ti y ti y (by decide) (by decide) y y y<|zx (env0:=[(0,.mpt 0 0 0),(19,.mpt 0 0 0),(20,.isl 1 (map zf ([[73]])))]) (st0:=[some (15,[(vK v1 v2 v3 v4 (.msl 1 0 (length v5)) (.msl 2 0 (length v6)) (bA v7))]),some (1,map zf v5),some (1,map zf v6)]) (zo [.old 0,.old 1,.old 2])<|u<|sx [0,1,2] (zG v1 v2 v3 v4 v5 v6 v7 ([[73]]) q2)<|zx (env0:=[(0,.mpt 0 0 0)]) (st0:=[some (15,[(vK v1 v2 v3 v4 (.msl 1 0 (length v5)) (.msl 2 0 (length v9.1)) (bA v9.2))]),some (1,map zf v5),some (1,map zf v9.1)]) (zo [.old 0,.old 1,.old 2])<|za ?_
  obtain ⟨v10,q3,h⟩:=bs h
  refine rl y<|u<|mv y<|u<|sx [0,1,2] (zz v1 v2 v3 v4 v5 v9.1 v9.2 [91,73] q3)<|zx (env0:=[]) (st0:=[some (15,[(vK v1 v2 v3 v4 (.msl 1 0 (length v5)) (.msl 3 0 (length v10)) (bA v9.2))]),some (1,map zf v5),none,some (1,map zf v10)]) (zo [.old 0,.old 1,.dead,.old 3])<|za ?_
  obtain rfl:=sm h
  exact ⟨_,y,zy [.old 0,.old 1,.dead,.old 3]⟩
 ·
  replace h:=bF hc1 h
  refine rg y<|u<|eql ti y y<|u<|asg y<|za ?_
  refine ze y (fun hc4=>?_) (fun hc4=>?_)
  ·
   replace h:=bT hc4 h
   obtain ⟨v11,q5,h⟩:=bs h
   refine rg y<|u<|fa ti y y y<|u<|ld ti y y<|u<|pc (zra v8.C q5) y y y<|u<|asg y<|za ?_
   obtain ⟨v13,q8,h⟩:=bs h
   refine rg y<|u<|mv y<|u<|mv y<|u<|sne ti y y<|u<|mv y<|z7 (x:=v13) (j:=3) 6 y y y y y gpn (fun hb6=>by replace q8:=bT hb6 q8;obtain ⟨v12,q7,q8⟩:=bs q8;obtain rfl:=sm q8;exact g y hb6<|mv y<|g y hb6<|nc y y<|g y hb6<|fa ti y y y<|g y hb6<|ld ti y y<|g y hb6<|mv y<|g y hb6<|pc (zeS v1 v2 v11 q7) y y y<|za (eg [33,34,35,36,37,38] 6 y y y y)) (fun hb=>(sm (bF hb q8)).symm)<|u<|sx [0,1,2] (zs v1 v2 v3 v4 v5 v6 v7 v13 y)<|zx (env0:=[(0,.mpt 0 0 0),(4,sA v11)]) (st0:=[some (15,[(vK v1 v2 v3 v4 (.msl 1 0 (length v5)) (.msl 2 0 (length v6)) (bA (v7||(!v13))))]),some (1,map zf v5),some (1,map zf v6)]) (zo [.old 0,.old 1,.old 2])<|za ?_
   obtain ⟨v14,q9,h⟩:=bs h
   refine rg y<|u<|mv y<|u<|bl 3 ti y ti y (by decide) (by decide) y y y<|zx (env0:=[(0,.mpt 0 0 0),(4,sA v11),(41,.mpt 0 0 0),(42,.isl 1 (map zf ([[73]])))]) (st0:=[some (15,[(vK v1 v2 v3 v4 (.msl 1 0 (length v5)) (.msl 2 0 (length v6)) (bA (v7||(!v13))))]),some (1,map zf v5),some (1,map zf v6)]) (zo [.old 0,.old 1,.old 2])<|u<|sx [0,1,2] (zG v1 v2 v3 v4 v5 v6 (v7||(!v13)) ([[73]]) q9)<|zx (env0:=[(0,.mpt 0 0 0),(4,sA v11)]) (st0:=[some (15,[(vK v1 v2 v3 v4 (.msl 1 0 (length v5)) (.msl 2 0 (length v14.1)) (bA v14.2))]),some (1,map zf v5),some (1,map zf v14.1)]) (zo [.old 0,.old 1,.old 2])<|za ?_
   obtain ⟨v15,q10,h⟩:=bs h
   refine rl y<|u<|mv y<|u<|mv y<|u<|sx [0,1,2] (zz v1 v2 v3 v4 v5 v14.1 v14.2 v11 q10)<|zx (env0:=[]) (st0:=[some (15,[(vK v1 v2 v3 v4 (.msl 1 0 (length v5)) (.msl 3 0 (length v15)) (bA v14.2))]),some (1,map zf v5),none,some (1,map zf v15)]) (zo [.old 0,.old 1,.dead,.old 3])<|za ?_
   obtain rfl:=sm h
   exact ⟨_,y,zy [.old 0,.old 1,.dead,.old 3]⟩
  ·
   replace h:=bF hc4 h
   refine rg y<|u<|eql ti y y<|u<|asg y<|za ?_
   refine ze y (fun hc11=>?_) (fun hc11=>?_)
   ·
    replace h:=bT hc11 h
    obtain ⟨v16,q12,h⟩:=bs h
    refine rg y<|u<|mv y<|u<|sx [0,1,2] (zaL v1 v2 v3 v4 v5 v6 v7 q12)<|zx (env0:=[(0,.mpt 0 0 0),(50,sA v16.1)]) (st0:=[some (15,[(vK v1 v2 v3 v4 (.msl 1 0 (length v5)) (.msl 2 0 (length v16.2.1)) (bA v16.2.2))]),some (1,map zf v5),some (1,map zf v16.2.1)]) (zo [.old 0,.old 1,.old 2])<|u<|asg y<|za ?_
    obtain ⟨v17,q13,h⟩:=bs h
    refine rg y<|u<|mv y<|u<|pc (zhm v16.1 q13) y y y<|u<|mv y<|u<|ex y y<|u<|ex y y<|u<|asg y<|u<|asg y<|za ?_
    refine rg y<|u<|mv y<|u<|mv y<|u<|mv y<|zdj (j:=2) 2 y y y y y gpn (fun hb14=>g y hb14<|mv y<|g y hb14<|seq ti y y<|za (egO [59,60] 2 hb14 y y y y)) orT<|u<|sx [0,1,2] (zs v1 v2 v3 v4 v5 v16.2.1 v16.2.2 (v17.2||(v16.1 == [78])) y)<|zx (env0:=[(0,.mpt 0 0 0)]) (st0:=[some (15,[(vK v1 v2 v3 v4 (.msl 1 0 (length v5)) (.msl 2 0 (length v16.2.1)) (bA (v16.2.2||(!(v17.2||(v16.1 == [78]))))))]),some (1,map zf v5),some (1,map zf v16.2.1)]) (zo [.old 0,.old 1,.old 2])<|za ?_
    obtain ⟨v18,q15,h⟩:=bs h
    refine rl y<|u<|mv y<|u<|sx [0,1,2] (zz v1 v2 v3 v4 v5 v16.2.1 (v16.2.2||(!(v17.2||(v16.1 == [78])))) [73] q15)<|zx (env0:=[]) (st0:=[some (15,[(vK v1 v2 v3 v4 (.msl 1 0 (length v5)) (.msl 3 0 (length v18)) (bA (v16.2.2||(!(v17.2||(v16.1 == [78]))))))]),some (1,map zf v5),none,some (1,map zf v18)]) (zo [.old 0,.old 1,.dead,.old 3])<|za ?_
    obtain rfl:=sm h
    exact ⟨_,y,zy [.old 0,.old 1,.dead,.old 3]⟩
   ·
    replace h:=bF hc11 h
    refine rg y<|u<|eql ti y y<|u<|asg y<|za ?_
    refine ze y (fun hc16=>?_) (fun hc16=>?_)
    ·
     replace h:=bT hc16 h
     obtain ⟨v19,q17,h⟩:=bs h
     refine rg y<|u<|mv y<|u<|bl 4 ti y ti y (by decide) (by decide) y y y<|zx (env0:=[(0,.mpt 0 0 0),(67,.mpt 0 0 0),(68,.isl 1 (map zf ([[91,73],[73]])))]) (st0:=[some (15,[(vK v1 v2 v3 v4 (.msl 1 0 (length v5)) (.msl 2 0 (length v6)) (bA v7))]),some (1,map zf v5),some (1,map zf v6)]) (zo [.old 0,.old 1,.old 2])<|u<|sx [0,1,2] (zG v1 v2 v3 v4 v5 v6 v7 ([[91,73],[73]]) q17)<|zx (env0:=[(0,.mpt 0 0 0)]) (st0:=[some (15,[(vK v1 v2 v3 v4 (.msl 1 0 (length v5)) (.msl 2 0 (length v19.1)) (bA v19.2))]),some (1,map zf v5),some (1,map zf v19.1)]) (zo [.old 0,.old 1,.old 2])<|za ?_
     obtain ⟨v20,q18,h⟩:=bs h
     refine rl y<|u<|mv y<|u<|sx [0,1,2] (zz v1 v2 v3 v4 v5 v19.1 v19.2 [73] q18)<|zx (env0:=[]) (st0:=[some (15,[(vK v1 v2 v3 v4 (.msl 1 0 (length v5)) (.msl 3 0 (length v20)) (bA v19.2))]),some (1,map zf v5),none,some (1,map zf v20)]) (zo [.old 0,.old 1,.dead,.old 3])<|za ?_
     obtain rfl:=sm h
     exact ⟨_,y,zy [.old 0,.old 1,.dead,.old 3]⟩
    ·
     replace h:=bF hc16 h
     refine rg y<|u<|eql ti y y<|u<|asg y<|za ?_
     refine ze y (fun hc19=>?_) (fun hc19=>?_)
     ·
      replace h:=bT hc19 h
      obtain ⟨v21,q20,h⟩:=bs h
      refine rl y<|u<|mv y<|u<|bl 4 ti y ti y (by decide) (by decide) y y y<|zx (env0:=[(74,.mpt 0 0 0),(75,.isl 1 (map zf ([[91,73],[73],[73]])))]) (st0:=[some (15,[(vK v1 v2 v3 v4 (.msl 1 0 (length v5)) (.msl 2 0 (length v6)) (bA v7))]),some (1,map zf v5),some (1,map zf v6)]) (zo [.old 0,.old 1,.old 2])<|u<|sx [0,1,2] (zG v1 v2 v3 v4 v5 v6 v7 ([[91,73],[73],[73]]) q20)<|zx (env0:=[]) (st0:=[some (15,[(vK v1 v2 v3 v4 (.msl 1 0 (length v5)) (.msl 2 0 (length v21.1)) (bA v21.2))]),some (1,map zf v5),some (1,map zf v21.1)]) (zo [.old 0,.old 1,.old 2])<|za ?_
      obtain rfl:=sm h
      exact ⟨_,y,zy [.old 0,.old 1,.dead,.old 2]⟩
     ·
      replace h:=bF hc19 h
      refine rg y<|u<|eql ti y y<|u<|asg y<|za ?_
      refine ze y (fun hc21=>?_) (fun hc21=>?_)
      ·
       replace h:=bT hc21 h
       obtain ⟨v22,q22,h⟩:=bs h
       refine rg y<|u<|mv y<|u<|bl 4 ti y ti y (by decide) (by decide) y y y<|zx (env0:=[(0,.mpt 0 0 0),(79,.mpt 0 0 0),(80,.isl 1 (map zf ([[73]])))]) (st0:=[some (15,[(vK v1 v2 v3 v4 (.msl 1 0 (length v5)) (.msl 2 0 (length v6)) (bA v7))]),some (1,map zf v5),some (1,map zf v6)]) (zo [.old 0,.old 1,.old 2])<|u<|sx [0,1,2] (zG v1 v2 v3 v4 v5 v6 v7 ([[73]]) q22)<|zx (env0:=[(0,.mpt 0 0 0)]) (st0:=[some (15,[(vK v1 v2 v3 v4 (.msl 1 0 (length v5)) (.msl 2 0 (length v22.1)) (bA v22.2))]),some (1,map zf v5),some (1,map zf v22.1)]) (zo [.old 0,.old 1,.old 2])<|za ?_
       obtain ⟨v23,q23,h⟩:=bs h
       obtain ⟨v24,q24,h⟩:=bs h
       refine rl y<|u<|mv y<|u<|mv y<|u<|sx [0,1,2] (zhN v1 v2 v3 v4 v5 v22.1 v22.2 q23)<|zx (env0:=[(82,.mpt 0 0 0),(84,sA v23.1)]) (st0:=[some (15,[(vK v1 v2 v3 v4 (.msl 1 0 (length v5)) (.msl 2 0 (length v23.2.1)) (bA v23.2.2))]),some (1,map zf v5),some (1,map zf v23.2.1)]) (zo [.old 0,.old 1,.old 2])<|u<|sx [0,1,2] (zz v1 v2 v3 v4 v5 v23.2.1 v23.2.2 v23.1 q24)<|zx (env0:=[]) (st0:=[some (15,[(vK v1 v2 v3 v4 (.msl 1 0 (length v5)) (.msl 3 0 (length v24)) (bA v23.2.2))]),some (1,map zf v5),none,some (1,map zf v24)]) (zo [.old 0,.old 1,.dead,.old 3])<|za ?_
       obtain rfl:=sm h
       exact ⟨_,y,zy [.old 0,.old 1,.dead,.old 3]⟩
      ·
       replace h:=bF hc21 h
       obtain ⟨v25,q25,h⟩:=bs h
       refine rg y<|u<|mv y<|u<|sx [0,1,2] (zdy v1 v2 v3 v4 v5 v6 v7 q25)<|zx (env0:=[(0,.mpt 0 0 0)]) (st0:=[some (15,[(vK v1 v2 v3 v4 (.msl 1 0 (length v5)) (.msl 2 0 (length v25.2.1)) (bA v25.2.2))]),some (1,map zf v5),some (1,map zf v25.2.1)]) (zo [.old 0,.old 1,.old 2])<|za ?_
       obtain ⟨v26,q26,h⟩:=bs h
       refine rg y<|u<|mv y<|u<|bl 3 ti y ti y (by decide) (by decide) y y y<|zx (env0:=[(0,.mpt 0 0 0),(12,.mpt 0 0 0),(13,.isl 1 (map zf ([[73]])))]) (st0:=[some (15,[(vK v1 v2 v3 v4 (.msl 1 0 (length v5)) (.msl 2 0 (length v25.2.1)) (bA v25.2.2))]),some (1,map zf v5),some (1,map zf v25.2.1)]) (zo [.old 0,.old 1,.old 2])<|u<|sx [0,1,2] (zG v1 v2 v3 v4 v5 v25.2.1 v25.2.2 ([[73]]) q26)<|zx (env0:=[(0,.mpt 0 0 0)]) (st0:=[some (15,[(vK v1 v2 v3 v4 (.msl 1 0 (length v5)) (.msl 2 0 (length v26.1)) (bA v26.2))]),some (1,map zf v5),some (1,map zf v26.1)]) (zo [.old 0,.old 1,.old 2])<|za ?_
       obtain ⟨v27,q27,h⟩:=bs h
       refine rl y<|u<|mv y<|u<|sx [0,1,2] (zhN v1 v2 v3 v4 v5 v26.1 v26.2 q27)<|zx (env0:=[]) (st0:=[some (15,[(vK v1 v2 v3 v4 (.msl 1 0 (length v5)) (.msl 2 0 (length v27.2.1)) (bA v27.2.2))]),some (1,map zf v5),some (1,map zf v27.2.1)]) (zo [.old 0,.old 1,.old 2])<|za ?_
       obtain rfl:=sm h
       exact ⟨_,y,zy [.old 0,.old 1,.dead,.old 2]⟩
def zaB(v1:List zb)(v2:T2)(v3:T0)(v4:zd)(v5:T1)(v6:T1)(v7:Bool)(v8:zH)(v9:Bool):Option (T1×Bool):=
  cond v9 ((zbP v1 v2 v3 v4 v5 v6 v7).bind fun v10=>(zdv v1 v2 v8.C).bind fun v11=>cond (v8.Op == (56:Int)) ((zA v1 v2 v3 v4 v5 v10.2.1 (v10.2.2||(!v11)) v8.C).bind fun v12=>some (v12,(v10.2.2||(!v11)))) ((zA v1 v2 v3 v4 v5 v10.2.1 (v10.2.2||(!v11)) [73]).bind fun v13=>some (v13,(v10.2.2||(!v11))))) (cond (v8.Op == (58:Int)) ((zE v1 v2 v3 v4 v5 v6 v7 ([[84,104,114,111,119,110]])).bind fun v14=>some (v14.1,v14.2)) (cond (v8.Op == (59:Int)) ((zA v1 v2 v3 v4 v5 v6 v7 [73]).bind fun v15=>some (v15,v7)) ((zE v1 v2 v3 v4 v5 v6 v7 ([[73]])).bind fun v16=>some (v16.1,v16.2))))
def zbC(v1:List zb)(v2:T2)(v3:T0)(v4:zd)(v5:T1)(v6:T1)(v7:Bool)(v8:zH):Option (T1×Bool):=
  cond (v8.Op == (56:Int)) (zaB v1 v2 v3 v4 v5 v6 v7 v8 (v8.Op == (56:Int))) (zaB v1 v2 v3 v4 v5 v6 v7 v8 (v8.Op == (57:Int)))
theorem zkW(v1:List zb)(v2:T2)(v3:T0)(v4:zd)(v5:T1)(v6:T1)(v7:Bool)(v8:zH){r:T1×Bool}(h:zbC v1 v2 v3 v4 v5 v6 v7 v8=some r):SC Tryz.prog 148 [.mpt 0 0 0,.agg (zv v8)] [.one 15 (vK v1 v2 v3 v4 (.msl 1 0 (length v5)) (.msl 2 0 (length v6)) (bA v7)),.many 1 (map zf v5),.many 1 (map zf v6)] (.tup []) [.one 15 (vK v1 v2 v3 v4 (.msl 1 0 (length v5)) (.msl 3 0 (length r.1)) (bA r.2)),.many 1 (map zf v5),.no,.many 1 (map zf r.1)]:=by
 refine ⟨⟨t,zhS (sz:=1) (fun _=>y),t,zhS (sz:=1) (fun _=>y),t⟩,zW Tryz.func148 y kz y ?_⟩
 unfold zbC at h
 refine rg y<|u<|bx 3 4 y y y y<|za ?_
 refine rg y<|u<|fa ti y y y<|u<|ld ti y y<|za ?_
 refine zr ?_
 refine za6 (X:=Bool) (fun z=>[(0,.mpt 0 0 0),(3,.mpt 3 0 0),(5,iA v8.Op),(9,bA z)]) (fun z=>[some (15,[(vK v1 v2 v3 v4 (.msl 1 0 (length v5)) (.msl 2 0 (length v6)) (bA v7))]),some (1,map zf v5),some (1,map zf v6),some (4,[(zv v8)])]) (fun z=>zaB v1 v2 v3 v4 v5 v6 v7 v8 z=some r) ?_ ?_
 ·
  refine rg y<|u<|eql ti y y<|u<|asg y<|za ?_
  refine ze y (fun hc1=>?_) (fun hc1=>?_)
  ·
   replace h:=bT hc1 h
   refine zg ?_
   exact ⟨(v8.Op == (56:Int)),h,zo [.old 0,.old 1,.old 2,.old 3]⟩
  ·
   replace h:=bF hc1 h
   exact rl y<|u<|eql ti y y<|u<|asg y<|za (⟨(v8.Op == (57:Int)),h,zo [.old 0,.old 1,.old 2,.old 3]⟩)
 ·
  rintro v9 h
  replace h:zaB v1 v2 v3 v4 v5 v6 v7 v8 v9=some r:=h
  unfold zaB at h
  refine ze y (fun hc2=>?_) (fun hc2=>?_)
  ·
   replace h:=bT hc2 h
   obtain ⟨v10,q3,h⟩:=bs h
   refine rg y<|u<|mv y<|u<|sx [0,1,2] (zdy v1 v2 v3 v4 v5 v6 v7 q3)<|zx (env0:=[(0,.mpt 0 0 0),(3,.mpt 3 0 0)]) (st0:=[some (15,[(vK v1 v2 v3 v4 (.msl 1 0 (length v5)) (.msl 2 0 (length v10.2.1)) (bA v10.2.2))]),some (1,map zf v5),some (1,map zf v10.2.1),some (4,[(zv v8)])]) (zo [.old 0,.old 1,.old 2,.old 3])<|za ?_
   obtain ⟨v11,q4,h⟩:=bs h
   refine rdA [(0,.mpt 0 0 0),(3,.mpt 3 0 0)] [some (15,[(vK v1 v2 v3 v4 (.msl 1 0 (length v5)) (.msl 2 0 (length v10.2.1)) (bA (v10.2.2||(!v11))))]),some (1,map zf v5),some (1,map zf v10.2.1),some (4,[(zv v8)])] [8] [7,6,5,4,3,2,1,0] [(21,bA v11),(20,sA v8.C),(19,.mpt 3 0 2),(18,.ipt 2 [[.isl 6 (map zc v1),.imp (map (rKV (fun x=>iA x)) v2)]] 0 0),(17,.mpt 0 0 0),(16,.mpt 0 0 0),(15,.mpt 0 0 0),(14,.mpt 0 0 0)] 1 (zem ⟨(pb y (pc (zeS v1 v2 v8.C q4) y y y w)),pe,pe,pe,pe,pe,pe,pe,t⟩ ⟨(fun _ _=>⟨_,y,y,sx [0,1,2] (zs v1 v2 v3 v4 v5 v10.2.1 v10.2.2 v11 y)<|⟨(.tup []),[],[(22,.tup [])],y,y,kz,y,zhW (zo [.old 0,.old 1,.old 2,.old 3])⟩⟩),t⟩) ?_
   refine rg y<|u<|fa ti y y y<|u<|ld ti y y<|u<|eql ti y y<|za ?_
   refine ze y (fun hc5=>?_) (fun hc5=>?_)
   ·
    replace h:=bT hc5 h
    obtain ⟨v12,q6,h⟩:=bs h
    refine rl y<|u<|mv y<|u<|fa ti y y y<|u<|ld ti y y<|u<|sx [0,1,2] (zz v1 v2 v3 v4 v5 v10.2.1 (v10.2.2||(!v11)) v8.C q6)<|zx (env0:=[]) (st0:=[some (15,[(vK v1 v2 v3 v4 (.msl 1 0 (length v5)) (.msl 3 0 (length v12)) (bA (v10.2.2||(!v11))))]),some (1,map zf v5),none,some (1,map zf v12)]) (zo [.old 0,.old 1,.dead,.old 4])<|za ?_
    obtain rfl:=sm h
    exact ⟨_,y,zy [.old 0,.old 1,.dead,.old 3]⟩
   ·
    replace h:=bF hc5 h
    obtain ⟨v13,q7,h⟩:=bs h
    refine rl y<|u<|mv y<|u<|sx [0,1,2] (zz v1 v2 v3 v4 v5 v10.2.1 (v10.2.2||(!v11)) [73] q7)<|zx (env0:=[]) (st0:=[some (15,[(vK v1 v2 v3 v4 (.msl 1 0 (length v5)) (.msl 3 0 (length v13)) (bA (v10.2.2||(!v11))))]),some (1,map zf v5),none,some (1,map zf v13)]) (zo [.old 0,.old 1,.dead,.old 4])<|za ?_
    obtain rfl:=sm h
    exact ⟨_,y,zy [.old 0,.old 1,.dead,.old 3]⟩
  ·
   replace h:=bF hc2 h
   refine rg y<|u<|eql ti y y<|u<|asg y<|za ?_
   refine ze y (fun hc8=>?_) (fun hc8=>?_)
   ·
    replace h:=bT hc8 h
    obtain ⟨v14,q9,h⟩:=bs h
    refine rl y<|u<|mv y<|u<|bl 4 ti y ti y (by decide) (by decide) y y y<|zx (env0:=[(34,.mpt 0 0 0),(35,.isl 1 (map zf ([[84,104,114,111,119,110]])))]) (st0:=[some (15,[(vK v1 v2 v3 v4 (.msl 1 0 (length v5)) (.msl 2 0 (length v6)) (bA v7))]),some (1,map zf v5),some (1,map zf v6)]) (zo [.old 0,.old 1,.old 2])<|u<|sx [0,1,2] (zG v1 v2 v3 v4 v5 v6 v7 ([[84,104,114,111,119,110]]) q9)<|zx (env0:=[]) (st0:=[some (15,[(vK v1 v2 v3 v4 (.msl 1 0 (length v5)) (.msl 2 0 (length v14.1)) (bA v14.2))]),some (1,map zf v5),some (1,map zf v14.1)]) (zo [.old 0,.old 1,.old 2])<|za ?_
    obtain rfl:=sm h
    exact ⟨_,y,zy [.old 0,.old 1,.dead,.old 2]⟩
   ·
    replace h:=bF hc8 h
    refine rg y<|u<|eql ti y y<|u<|asg y<|za ?_
    refine ze y (fun hc10=>?_) (fun hc10=>?_)
    ·
     replace h:=bT hc10 h
     obtain ⟨v15,q11,h⟩:=bs h
     refine rl y<|u<|mv y<|u<|sx [0,1,2] (zz v1 v2 v3 v4 v5 v6 v7 [73] q11)<|zx (env0:=[]) (st0:=[some (15,[(vK v1 v2 v3 v4 (.msl 1 0 (length v5)) (.msl 3 0 (length v15)) (bA v7))]),some (1,map zf v5),none,some (1,map zf v15)]) (zo [.old 0,.old 1,.dead,.old 4])<|za ?_
     obtain rfl:=sm h
     exact ⟨_,y,zy [.old 0,.old 1,.dead,.old 3]⟩
    ·
     replace h:=bF hc10 h
     obtain ⟨v16,q12,h⟩:=bs h
     refine rl y<|u<|mv y<|u<|bl 4 ti y ti y (by decide) (by decide) y y y<|zx (env0:=[(6,.mpt 0 0 0),(7,.isl 1 (map zf ([[73]])))]) (st0:=[some (15,[(vK v1 v2 v3 v4 (.msl 1 0 (length v5)) (.msl 2 0 (length v6)) (bA v7))]),some (1,map zf v5),some (1,map zf v6)]) (zo [.old 0,.old 1,.old 2])<|u<|sx [0,1,2] (zG v1 v2 v3 v4 v5 v6 v7 ([[73]]) q12)<|zx (env0:=[]) (st0:=[some (15,[(vK v1 v2 v3 v4 (.msl 1 0 (length v5)) (.msl 2 0 (length v16.1)) (bA v16.2))]),some (1,map zf v5),some (1,map zf v16.1)]) (zo [.old 0,.old 1,.old 2])<|za ?_
     obtain rfl:=sm h
     exact ⟨_,y,zy [.old 0,.old 1,.dead,.old 2]⟩
def zk(v1:List zb)(v2:T2)(v3:T0)(v4:zd)(v5:T1)(v6:T1)(v7:Bool)(v8:zH):Option (T1×T1×Bool):=
  cond (zaK v8.Op 1 7) ((zaT v1 v2 v3 v4 v5 v6 v7 v8).bind fun v9=>some (v9.1,v9.2.1,v9.2.2)) (cond (v8.Op == (13:Int)) ((zE v1 v2 v3 v4 v5 v6 v7 ([[73]])).bind fun v10=>(zA v1 v2 v3 v4 v5 v10.1 v10.2 [73]).bind fun v11=>some (v5,v11,v10.2)) (cond (zaK v8.Op 8 19) ((zE v1 v2 v3 v4 v5 v6 v7 ([[73],[73]])).bind fun v12=>(zA v1 v2 v3 v4 v5 v12.1 v12.2 [73]).bind fun v13=>some (v5,v13,v12.2)) (cond (v8.Op == (20:Int)) (some (v5,v6,v7)) (cond (zaK v8.Op 21 26) ((zE v1 v2 v3 v4 v5 v6 v7 ([[73]])).bind fun v14=>some (v5,v14.1,v14.2)) (cond (zaK v8.Op 27 32) ((zE v1 v2 v3 v4 v5 v6 v7 ([[73],[73]])).bind fun v15=>some (v5,v15.1,v15.2)) (cond (zaK v8.Op 33 34) ((zbP v1 v2 v3 v4 v5 v6 v7).bind fun v16=>some (v5,v16.2.1,v16.2.2)) (cond (zaK v8.Op 35 36) ((zbP v1 v2 v3 v4 v5 v6 v7).bind fun v17=>(zbP v1 v2 v3 v4 v5 v17.2.1 v17.2.2).bind fun v18=>some (v5,v18.2.1,v18.2.2)) (cond ((v8.Op == (37:Int))||(zaK v8.Op 38 41)) ((zc3 v1 v2 v3 v4 v5 v6 v7 v8).bind fun v19=>some (v5,v19.1,v19.2)) (cond (zaK v8.Op 42 45) ((zcH v1 v2 v3 v4 v5 v6 v7 v8).bind fun v20=>some (v5,v20.1,v20.2)) (cond (zaK v8.Op 46 48) ((zc1 v1 v2 v3 v4 v5 v6 v7 v8.Op).bind fun v21=>some (v5,v21.1,v21.2)) (cond (zaK v8.Op 49 55) ((zax v1 v2 v3 v4 v5 v6 v7 v8).bind fun v22=>some (v5,v22.1,v22.2)) ((zbC v1 v2 v3 v4 v5 v6 v7 v8).bind fun v23=>some (v5,v23.1,v23.2)))))))))))))
theorem zlP(v1:List zb)(v2:T2)(v3:T0)(v4:zd)(v5:T1)(v6:T1)(v7:Bool)(v8:zH){r:T1×T1×Bool}(h:zk v1 v2 v3 v4 v5 v6 v7 v8=some r):SC Tryz.prog 86 [.mpt 0 0 0,.agg (zv v8)] [.one 15 (vK v1 v2 v3 v4 (.msl 1 0 (length v5)) (.msl 2 0 (length v6)) (bA v7)),.many 1 (map zf v5),.many 1 (map zf v6)] (.tup []) [.one 15 (vK v1 v2 v3 v4 (.msl 3 0 (length r.1)) (.msl 4 0 (length r.2.1)) (bA r.2.2)),.no,.no,.many 1 (map zf r.1),.many 1 (map zf r.2.1)]:=by
 refine ⟨⟨t,t,t,zhS (sz:=1) (fun _=>y),zhS (sz:=1) (fun _=>y),t⟩,zW Tryz.func86 y kz y ?_⟩
 unfold zk at h
 refine rg y<|u<|bx 3 4 y y y y<|za ?_
 refine rg y<|u<|fa ti y y y<|u<|ld ti y y<|u<|asg y<|za ?_
 refine zr ?_
 refine rg y<|u<|mv y<|u<|pc (zbN v8.Op 1 7 y) y y y<|u<|asg y<|za ?_
 refine ze y (fun hc1=>?_) (fun hc1=>?_)
 ·
  replace h:=bT hc1 h
  obtain ⟨v9,q2,h⟩:=bs h
  refine rl y<|u<|mv y<|u<|ld ti y y<|u<|sx [0,1,2] (zk2 v1 v2 v3 v4 v5 v6 v7 v8 q2)<|zx (env0:=[]) (st0:=[some (15,[(vK v1 v2 v3 v4 (.msl 3 0 (length v9.1)) (.msl 4 0 (length v9.2.1)) (bA v9.2.2))]),none,none,some (1,map zf v9.1),some (1,map zf v9.2.1)]) (zo [.old 0,.dead,.dead,.old 4,.old 5])<|za ?_
  obtain rfl:=sm h
  exact ⟨_,y,zy [.old 0,.dead,.dead,.old 3,.old 4]⟩
 ·
  replace h:=bF hc1 h
  refine rg y<|u<|mv y<|u<|eql ti y y<|u<|asg y<|za ?_
  refine ze y (fun hc3=>?_) (fun hc3=>?_)
  ·
   replace h:=bT hc3 h
   obtain ⟨v10,q4,h⟩:=bs h
   refine rg y<|u<|mv y<|u<|bl 4 ti y ti y (by decide) (by decide) y y y<|zx (env0:=[(0,.mpt 0 0 0),(19,.mpt 0 0 0),(20,.isl 1 (map zf ([[73]])))]) (st0:=[some (15,[(vK v1 v2 v3 v4 (.msl 1 0 (length v5)) (.msl 2 0 (length v6)) (bA v7))]),some (1,map zf v5),some (1,map zf v6)]) (zo [.old 0,.old 1,.old 2])<|u<|sx [0,1,2] (zG v1 v2 v3 v4 v5 v6 v7 ([[73]]) q4)<|zx (env0:=[(0,.mpt 0 0 0)]) (st0:=[some (15,[(vK v1 v2 v3 v4 (.msl 1 0 (length v5)) (.msl 2 0 (length v10.1)) (bA v10.2))]),some (1,map zf v5),some (1,map zf v10.1)]) (zo [.old 0,.old 1,.old 2])<|za ?_
   obtain ⟨v11,q5,h⟩:=bs h
   refine rl y<|u<|mv y<|u<|sx [0,1,2] (zz v1 v2 v3 v4 v5 v10.1 v10.2 [73] q5)<|zx (env0:=[]) (st0:=[some (15,[(vK v1 v2 v3 v4 (.msl 1 0 (length v5)) (.msl 3 0 (length v11)) (bA v10.2))]),some (1,map zf v5),none,some (1,map zf v11)]) (zo [.old 0,.old 1,.dead,.old 3])<|za ?_
   obtain rfl:=sm h
   exact ⟨_,y,zy [.old 0,.dead,.dead,.old 1,.old 3]⟩
  ·
   replace h:=bF hc3 h
   refine rg y<|u<|mv y<|u<|pc (zbN v8.Op 8 19 y) y y y<|u<|asg y<|za ?_
   refine ze y (fun hc6=>?_) (fun hc6=>?_)
   ·
    replace h:=bT hc6 h
    obtain ⟨v12,q7,h⟩:=bs h
    refine rg y<|u<|mv y<|u<|bl 4 ti y ti y (by decide) (by decide) y y y<|zx (env0:=[(0,.mpt 0 0 0),(27,.mpt 0 0 0),(28,.isl 1 (map zf ([[73],[73]])))]) (st0:=[some (15,[(vK v1 v2 v3 v4 (.msl 1 0 (length v5)) (.msl 2 0 (length v6)) (bA v7))]),some (1,map zf v5),some (1,map zf v6)]) (zo [.old 0,.old 1,.old 2])<|u<|sx [0,1,2] (zG v1 v2 v3 v4 v5 v6 v7 ([[73],[73]]) q7)<|zx (env0:=[(0,.mpt 0 0 0)]) (st0:=[some (15,[(vK v1 v2 v3 v4 (.msl 1 0 (length v5)) (.msl 2 0 (length v12.1)) (bA v12.2))]),some (1,map zf v5),some (1,map zf v12.1)]) (zo [.old 0,.old 1,.old 2])<|za ?_
    obtain ⟨v13,q8,h⟩:=bs h
    refine rl y<|u<|mv y<|u<|sx [0,1,2] (zz v1 v2 v3 v4 v5 v12.1 v12.2 [73] q8)<|zx (env0:=[]) (st0:=[some (15,[(vK v1 v2 v3 v4 (.msl 1 0 (length v5)) (.msl 3 0 (length v13)) (bA v12.2))]),some (1,map zf v5),none,some (1,map zf v13)]) (zo [.old 0,.old 1,.dead,.old 3])<|za ?_
    obtain rfl:=sm h
    exact ⟨_,y,zy [.old 0,.dead,.dead,.old 1,.old 3]⟩
   ·
    replace h:=bF hc6 h
    refine rg y<|u<|mv y<|u<|eql ti y y<|u<|asg y<|za ?_
    refine ze y (fun hc9=>?_) (fun hc9=>?_)
    ·
     replace h:=bT hc9 h
     refine zg ?_
     obtain rfl:=sm h
     exact ⟨_,y,zy [.old 0,.dead,.dead,.old 1,.old 2]⟩
    ·
     replace h:=bF hc9 h
     refine rg y<|u<|mv y<|u<|pc (zbN v8.Op 21 26 y) y y y<|u<|asg y<|za ?_
     refine ze y (fun hc10=>?_) (fun hc10=>?_)
     ·
      replace h:=bT hc10 h
      obtain ⟨v14,q11,h⟩:=bs h
      refine rl y<|u<|mv y<|u<|bl 4 ti y ti y (by decide) (by decide) y y y<|zx (env0:=[(38,.mpt 0 0 0),(39,.isl 1 (map zf ([[73]])))]) (st0:=[some (15,[(vK v1 v2 v3 v4 (.msl 1 0 (length v5)) (.msl 2 0 (length v6)) (bA v7))]),some (1,map zf v5),some (1,map zf v6)]) (zo [.old 0,.old 1,.old 2])<|u<|sx [0,1,2] (zG v1 v2 v3 v4 v5 v6 v7 ([[73]]) q11)<|zx (env0:=[]) (st0:=[some (15,[(vK v1 v2 v3 v4 (.msl 1 0 (length v5)) (.msl 2 0 (length v14.1)) (bA v14.2))]),some (1,map zf v5),some (1,map zf v14.1)]) (zo [.old 0,.old 1,.old 2])<|za ?_
      obtain rfl:=sm h
      exact ⟨_,y,zy [.old 0,.dead,.dead,.old 1,.old 2]⟩
     ·
      replace h:=bF hc10 h
      refine rg y<|u<|mv y<|u<|pc (zbN v8.Op 27 32 y) y y y<|u<|asg y<|za ?_
      refine ze y (fun hc12=>?_) (fun hc12=>?_)
      ·
       replace h:=bT hc12 h
       obtain ⟨v15,q13,h⟩:=bs h
       refine rl y<|u<|mv y<|u<|bl 4 ti y ti y (by decide) (by decide) y y y<|zx (env0:=[(44,.mpt 0 0 0),(45,.isl 1 (map zf ([[73],[73]])))]) (st0:=[some (15,[(vK v1 v2 v3 v4 (.msl 1 0 (length v5)) (.msl 2 0 (length v6)) (bA v7))]),some (1,map zf v5),some (1,map zf v6)]) (zo [.old 0,.old 1,.old 2])<|u<|sx [0,1,2] (zG v1 v2 v3 v4 v5 v6 v7 ([[73],[73]]) q13)<|zx (env0:=[]) (st0:=[some (15,[(vK v1 v2 v3 v4 (.msl 1 0 (length v5)) (.msl 2 0 (length v15.1)) (bA v15.2))]),some (1,map zf v5),some (1,map zf v15.1)]) (zo [.old 0,.old 1,.old 2])<|za ?_
       obtain rfl:=sm h
       exact ⟨_,y,zy [.old 0,.dead,.dead,.old 1,.old 2]⟩
      ·
       replace h:=bF hc12 h
       refine rg y<|u<|mv y<|u<|pc (zbN v8.Op 33 34 y) y y y<|u<|asg y<|za ?_
       refine ze y (fun hc14=>?_) (fun hc14=>?_)
       ·
        replace h:=bT hc14 h
        obtain ⟨v16,q15,h⟩:=bs h
        refine rl y<|u<|mv y<|u<|sx [0,1,2] (zdy v1 v2 v3 v4 v5 v6 v7 q15)<|zx (env0:=[]) (st0:=[some (15,[(vK v1 v2 v3 v4 (.msl 1 0 (length v5)) (.msl 2 0 (length v16.2.1)) (bA v16.2.2))]),some (1,map zf v5),some (1,map zf v16.2.1)]) (zo [.old 0,.old 1,.old 2])<|za ?_
        obtain rfl:=sm h
        exact ⟨_,y,zy [.old 0,.dead,.dead,.old 1,.old 2]⟩
       ·
        replace h:=bF hc14 h
        refine rg y<|u<|mv y<|u<|pc (zbN v8.Op 35 36 y) y y y<|u<|asg y<|za ?_
        refine ze y (fun hc16=>?_) (fun hc16=>?_)
        ·
         replace h:=bT hc16 h
         obtain ⟨v17,q17,h⟩:=bs h
         refine rg y<|u<|mv y<|u<|sx [0,1,2] (zdy v1 v2 v3 v4 v5 v6 v7 q17)<|zx (env0:=[(0,.mpt 0 0 0)]) (st0:=[some (15,[(vK v1 v2 v3 v4 (.msl 1 0 (length v5)) (.msl 2 0 (length v17.2.1)) (bA v17.2.2))]),some (1,map zf v5),some (1,map zf v17.2.1)]) (zo [.old 0,.old 1,.old 2])<|za ?_
         obtain ⟨v18,q18,h⟩:=bs h
         refine rl y<|u<|mv y<|u<|sx [0,1,2] (zdy v1 v2 v3 v4 v5 v17.2.1 v17.2.2 q18)<|zx (env0:=[]) (st0:=[some (15,[(vK v1 v2 v3 v4 (.msl 1 0 (length v5)) (.msl 2 0 (length v18.2.1)) (bA v18.2.2))]),some (1,map zf v5),some (1,map zf v18.2.1)]) (zo [.old 0,.old 1,.old 2])<|za ?_
         obtain rfl:=sm h
         exact ⟨_,y,zy [.old 0,.dead,.dead,.old 1,.old 2]⟩
        ·
         replace h:=bF hc16 h
         refine rg y<|u<|mv y<|u<|eql ti y y<|u<|mv y<|zdj (j:=2) 2 y y y y y gpn (fun hb19=>g y hb19<|mv y<|g y hb19<|pc (zbN v8.Op 38 41 y) y y y<|za (egO [63,64] 2 hb19 y y y y)) orT<|u<|asg y<|za ?_
         refine ze y (fun hc20=>?_) (fun hc20=>?_)
         ·
          replace h:=bT hc20 h
          obtain ⟨v19,q21,h⟩:=bs h
          refine rl y<|u<|mv y<|u<|ld ti y y<|u<|sx [0,1,2] (zkp v1 v2 v3 v4 v5 v6 v7 v8 q21)<|zx (env0:=[]) (st0:=[some (15,[(vK v1 v2 v3 v4 (.msl 1 0 (length v5)) (.msl 3 0 (length v19.1)) (bA v19.2))]),some (1,map zf v5),none,some (1,map zf v19.1)]) (zo [.old 0,.old 1,.dead,.old 4])<|za ?_
          obtain rfl:=sm h
          exact ⟨_,y,zy [.old 0,.dead,.dead,.old 1,.old 3]⟩
         ·
          replace h:=bF hc20 h
          refine rg y<|u<|mv y<|u<|pc (zbN v8.Op 42 45 y) y y y<|u<|asg y<|za ?_
          refine ze y (fun hc22=>?_) (fun hc22=>?_)
          ·
           replace h:=bT hc22 h
           obtain ⟨v20,q23,h⟩:=bs h
           refine rl y<|u<|mv y<|u<|ld ti y y<|u<|sx [0,1,2] (zk0 v1 v2 v3 v4 v5 v6 v7 v8 q23)<|zx (env0:=[]) (st0:=[some (15,[(vK v1 v2 v3 v4 (.msl 1 0 (length v5)) (.msl 3 0 (length v20.1)) (bA v20.2))]),some (1,map zf v5),none,some (1,map zf v20.1)]) (zo [.old 0,.old 1,.dead,.old 4])<|za ?_
           obtain rfl:=sm h
           exact ⟨_,y,zy [.old 0,.dead,.dead,.old 1,.old 3]⟩
          ·
           replace h:=bF hc22 h
           refine rg y<|u<|mv y<|u<|pc (zbN v8.Op 46 48 y) y y y<|u<|asg y<|za ?_
           refine ze y (fun hc24=>?_) (fun hc24=>?_)
           ·
            replace h:=bT hc24 h
            obtain ⟨v21,q25,h⟩:=bs h
            refine rl y<|u<|mv y<|u<|mv y<|u<|sx [0,1,2] (zlp v1 v2 v3 v4 v5 v6 v7 v8.Op q25)<|zx (env0:=[]) (st0:=[some (15,[(vK v1 v2 v3 v4 (.msl 1 0 (length v5)) (.msl 2 0 (length v21.1)) (bA v21.2))]),some (1,map zf v5),some (1,map zf v21.1)]) (zo [.old 0,.old 1,.old 2])<|za ?_
            obtain rfl:=sm h
            exact ⟨_,y,zy [.old 0,.dead,.dead,.old 1,.old 2]⟩
           ·
            replace h:=bF hc24 h
            refine rg y<|u<|mv y<|u<|pc (zbN v8.Op 49 55 y) y y y<|u<|asg y<|za ?_
            refine ze y (fun hc26=>?_) (fun hc26=>?_)
            ·
             replace h:=bT hc26 h
             obtain ⟨v22,q27,h⟩:=bs h
             refine rl y<|u<|mv y<|u<|ld ti y y<|u<|sx [0,1,2] (zjW v1 v2 v3 v4 v5 v6 v7 v8 q27)<|zx (env0:=[]) (st0:=[some (15,[(vK v1 v2 v3 v4 (.msl 1 0 (length v5)) (.msl 3 0 (length v22.1)) (bA v22.2))]),some (1,map zf v5),none,some (1,map zf v22.1)]) (zo [.old 0,.old 1,.dead,.old 4])<|za ?_
             obtain rfl:=sm h
             exact ⟨_,y,zy [.old 0,.dead,.dead,.old 1,.old 3]⟩
            ·
             replace h:=bF hc26 h
             obtain ⟨v23,q28,h⟩:=bs h
             refine rl y<|u<|mv y<|u<|ld ti y y<|u<|sx [0,1,2] (zkW v1 v2 v3 v4 v5 v6 v7 v8 q28)<|zx (env0:=[]) (st0:=[some (15,[(vK v1 v2 v3 v4 (.msl 1 0 (length v5)) (.msl 3 0 (length v23.1)) (bA v23.2))]),some (1,map zf v5),none,some (1,map zf v23.1)]) (zo [.old 0,.old 1,.dead,.old 4])<|za ?_
             obtain rfl:=sm h
             exact ⟨_,y,zy [.old 0,.dead,.dead,.old 1,.old 3]⟩
def zgu(v55:T1)(v56:T1)(v57:Bool):Option (Bool):=
  some (!v57)
def zdb(v8:zd)(v48:Int)(v49:zH)(v52:T1×T1×Bool)(v54:Bool):Option (Sum (T1×T1×Bool×Bool×Int) (Sum (T1×T1×Bool) (Bool))):=
  some (.inl (v52.1,v52.2.1,(v54||(!(decide (((length v52.2.1):Int)≤v8.Stack)))),(!(ziy v49.Op)),(IntKind.i64.wrap (v48+1))))
def zat(v2:T0)(v4:zac)(v8:zd)(v44:T1)(v45:T1)(v46:Bool)(v47:Bool)(v48:Int):Option (Sum (T1×T1×Bool×Bool×Int) (Sum (T1×T1×Bool) (Bool))):=
  cond (decide (v48<(length v8.Code:Int))) ((idx v8.Code v48).bind fun v49=>(zdW v4.l v4.at_ v2 v8 v44 v45 v46 v48 v47).bind fun v50=>cond v50.2.2 (some (.inr (.inr false))) ((zc5 v4.l v4.at_ v2 v8 v50.1 v50.2.1 v50.2.2 v48).bind fun v51=>(zk v4.l v4.at_ v2 v8 v50.1 v50.2.1 v51 v49).bind fun v52=>cond (zeK v49.Op) ((zcF v4.l v4.at_ v2 v8 v52.1 v52.2.1 v52.2.2 v49.A).bind fun v53=>zdb v8 v48 v49 v52 v53) (zdb v8 v48 v49 v52 v52.2.2))) (some (.inr (.inl (v44,v45,v46))))
def ziv(v2:T0)(v4:zac)(v8:zd)(v23:Bool)(v24:Bool)(v32:T1):Option (Bool):=
  (zu (fun z=>zat v2 v4 v8 z.1 z.2.1 z.2.2.1 z.2.2.2.1 z.2.2.2.2) (v32,[],(v23||(!v24)),true,0)).bind fun o=>zU o (fun b=>zgu b.1 b.2.1 b.2.2) some
def zfu(v8:zd)(v30:T1):Option (Sum (T1) (Sum (T1) (Bool))):=
  cond (decide (((length v30):Int)<v8.Locals)) ((zis 16 v30 ([[84]])).bind fun v31=>some (.inl v31)) (some (.inr (.inl v30)))
def zdR(v2:T0)(v4:zac)(v8:zd)(v23:Bool)(v24:Bool)(v26:T1):Option (Bool):=
  (zis 16 v26 v8.Params).bind fun v27=>(zu (fun z=>zfu v8 z) v27).bind fun o=>zU o (fun b=>ziv v2 v4 v8 v23 v24 b) some
def zdU(v2:T0)(v4:zac)(v8:zd)(v23:Bool):Option (Bool):=
  (zhF v8.Params v4.l v4.at_).bind fun v24=>cond (!v8.Static) ((zis 16 ([]:T1) [v2]).bind fun v25=>zdR v2 v4 v8 v23 v24 v25) (zdR v2 v4 v8 v23 v24 [])
def zfr(v2:T0)(v4:zac)(v8:zd)(v21:Bool):Option (Bool):=
  cond (v8.Ret == [86]) (zdU v2 v4 v8 (v21||(!true))) ((zcB v4.l v4.at_ v8.Ret v8.Ret).bind fun v22=>zdU v2 v4 v8 (v21||(!v22)))
def zcz(v4:zac)(v8:zd)(v15:Bool)(v16:Int):Option (Sum (Bool×Int) (Sum (Bool) (Bool))):=
  cond (decide (v16<(length v8.Maps:Int))) ((idx v8.Maps v16).bind fun v17=>(ziO v17.Locals v4.l v4.at_).bind fun v18=>(cond v18 ((ziO v17.Stack v4.l v4.at_).bind fun v19=>some v19) (some false)).bind fun v20=>some (.inl ((v15||(!v20)),(IntKind.i64.wrap (v16+1))))) (some (.inr (.inl v15)))
def zcV(v1:Option zac)(v2:T0)(v3:Int):Option (Bool):=
  zzC v1 (none) (fun v4=>(zaP v4.l v4.at_ v2).bind fun v5=>(cond (((!v5.2)||(decide (v3<0)))||(decide ((length v5.1.Methods:Int)≤v3))) (some true) ((idx v5.1.Methods v3).bind fun v6=>some v6.Abstract)).bind fun v7=>cond v7 (some false) ((idx v5.1.Methods v3).bind fun v8=>(zu (fun z=>zcz v4 v8 z.1 z.2) (false,0)).bind fun o=>zU o (fun b=>zfr v2 v4 v8 b) some))
theorem zdS(v1:Option zac)(v2:T0)(v3:Int){r:Bool}(h:zcV v1 v2 v3=some r):zI Tryz.prog 40 [zk4 2 zeR v1,sA v2,iA v3] (bA r):=by
 refine zq Tryz.func40 y kz y y ?_
 unfold zcV at h
 rcases v1 with _ |v4
 ·
  replace h:=oeN h
  cases h
 ·
  replace h:=oeS h
  refine rg y<|u<|bx 0 1 y y y y<|u<|asg y<|za ?_
  obtain ⟨v5,q1,h⟩:=bs h
  refine rg y<|u<|ld ti y y<|u<|mv y<|u<|pc (zbw v4.l v4.at_ v2 q1) y y y<|u<|mv y<|u<|ex y y<|u<|ex y y<|u<|al 1 ti y<|u<|sto ti y y y<|u<|asg y<|za ?_
  refine zi ?_
  obtain ⟨v7,q6,h⟩:=bs h
  refine rg y<|u<|mv y<|u<|nt y<|u<|mv y<|zdj (j:=2) 2 y y y y y gpn (fun hb2=>g y hb2<|mv y<|g y hb2<|lss ti y y<|za (egO [25,26] 2 hb2 y y y y)) orT<|u<|mv y<|zdj (j:=6) 5 y y y y y gpn (fun hb3=>g y hb3<|mv y<|g y hb3<|fa ti y y y<|g y hb3<|ld ti y y<|g y hb3<|lnI ti y y<|g y hb3<|geq ti y y<|za (egO [29,30,31,32,33] 5 hb3 y y y y)) orT<|u<|mv y<|zdj (x:=v7) (j:=13) 6 y y y y y gpn (fun hb4=>by replace q6:=bF hb4 q6;obtain ⟨v6,q5,q6⟩:=bs q6;obtain rfl:=sm q6;exact g y hb4<|fa ti y y y<|g y hb4<|ld ti y y<|g y hb4<|mv y<|g y hb4<|ixI ti y ti y y y q5<|g y hb4<|fa ti y y y<|g y hb4<|ldI ti y (zl q5).2.2 y<|za (eg [36,37,38,39,40,41] 6 y y y y)) (fun hb=>(sm (bT hb q6)).symm)<|za ?_
  refine ze y (fun hc7=>?_) (fun hc7=>?_)
  ·
   replace h:=bT hc7 h
   refine rg y<|u<|asg y<|za ?_
   refine zj ?_
   obtain rfl:=sm h
   exact ⟨_,y,zy []⟩
  ·
   replace h:=bF hc7 h
   refine zg ?_
   obtain ⟨v8,q8,h⟩:=bs h
   refine rdA [(1,sA v2),(3,.mpt 0 0 0),(9,.mpt 1 0 0)] [some (1,[[.ipt 2 [[.isl 6 (map zc v4.l),.imp (map (rKV (fun x=>iA x)) v4.at_)]] 0 0]]),some (15,[(vK v4.l v4.at_ v2 v8 (.lit (.slice none 0 0)) (.lit (.slice none 0 0)) (bA false))])] [8] [7,6,5,4,3,2,1,0] [(50,.agg [.ipt 2 [[.isl 6 (map zc v4.l),.imp (map (rKV (fun x=>iA x)) v4.at_)]] 0 0,sA v2,sA v8.Name,.isl 1 (map zf v8.Params),sA v8.Ret,bA v8.Static,bA v8.Abstract,iA v8.Locals,iA v8.Stack,.isl 4 (map zv v8.Code),.isl 3 (map zP v8.Maps),.isl 4 (map zbL v8.Traps),.lit (.slice none 0 0),.lit (.slice none 0 0),bA false]),(49,.agg (zh v8)),(48,.ipt 10 (map zh v5.1.Methods) (Int.toNat v3) 0),(47,iA v3),(46,.isl 10 (map zh v5.1.Methods)),(45,.mpt 1 0 5),(44,sA v2),(43,.ipt 2 [[.isl 6 (map zc v4.l),.imp (map (rKV (fun x=>iA x)) v4.at_)]] 0 0)] 1 (zem ⟨(pb y (bd ti y y y w)),(pb y (ldI ti y (zl q8).2.2 y w)),(pb y (ixI ti y ti y y y q8 w)),pe,pe,pe,pe,pe,t⟩ ⟨(fun _ _=>⟨_,y,y,bx 2 15 y y y y<|⟨(.mpt 2 0 0),[9],[(9,.mpt 2 0 0),(51,.mpt 2 0 0)],y,y,kz,y,zht ⟨pe,pe,(pb y (ldI ti y (zl q8).2.2 y w)),(pb y (ixI ti y ti y y y q8 w)),pe,pe,pe,pe,pe,t⟩ (zo [.old 0,.old 2])⟩⟩),t⟩) ?_
   refine zi ?_
   refine rg y<|u<|mv y<|u<|nc y y<|u<|fa ti y y y<|u<|fa ti y y y<|u<|ld ti y y<|u<|lnI ti y y<|u<|mv y<|za ?_
   obtain ⟨o,ho,h⟩:=bs h
   refine zX (X:=Bool×Int) (B:=Bool) (R:=Bool) (fun z=>[(1,sA v2),(3,.mpt 0 0 0),(9,.mpt 1 0 0),(56,.isl 3 (map zP v8.Maps)),(57,iA (length v8.Maps:Int)),(58,iA z.2)]) (fun z=>[some (1,[[.ipt 2 [[.isl 6 (map zc v4.l),.imp (map (rKV (fun x=>iA x)) v4.at_)]] 0 0]]),some (15,[(vK v4.l v4.at_ v2 v8 (.msl 2 0 0) (.msl 3 0 0) (bA z.1))]),some (1,map zf []),some (1,map zf [])]) (fun b=>[(1,sA v2),(3,.mpt 0 0 0),(9,.mpt 1 0 0)]) (fun b=>[some (1,[[.ipt 2 [[.isl 6 (map zc v4.l),.imp (map (rKV (fun x=>iA x)) v4.at_)]] 0 0]]),some (15,[(vK v4.l v4.at_ v2 v8 (.msl 2 0 0) (.msl 3 0 0) (bA b))]),some (1,map zf []),some (1,map zf [])]) (fun r env st=>zaN Tryz.prog Tryz.f40 0 (bA r) [] env st) ho ⟨[.old 0,.old 1,.fresh 1,.fresh 1],ce y y<|cv y (.mpt y)<|cv y (.mpt y)<|ce y y<|ce y y<|ce y y<|cn,y,⟨⟨_,y,ziB ⟨ci y,t⟩⟩,⟨_,y,ziB (zAp y (by exact ⟨.nilown y,.nilown y,ci y,t⟩))⟩,w,w,t⟩,y,k⟩ ?_ ?_ ?_
   ·
    rintro ⟨v15,v16⟩ r h
    replace h:zcz v4 v8 v15 v16=some r:=h
    unfold zcz at h
    refine rg y<|u<|lss ti y y<|za ?_
    refine zi ?_
    refine ze y (fun hc15=>?_) (fun hc15=>?_)
    ·
     replace h:=bT hc15 h
     refine zg ?_
     refine zi ?_
     refine zr ?_
     obtain ⟨v17,q16,h⟩:=bs h
     refine rg y<|u<|ixI ti y ti y y y q16<|u<|ldI ti y (zl q16).2.2 y<|u<|al 4 ti y<|u<|sto ti y y y<|za ?_
     refine rg y<|u<|mf y y<|u<|asg y<|za ?_
     obtain ⟨v18,q17,h⟩:=bs h
     obtain ⟨v20,q20,h⟩:=bs h
     refine rl y<|u<|mv y<|u<|fa ti y y y<|u<|ld ti y y<|u<|mv y<|u<|pcs (zmR v17.Locals v4.l v4.at_ q17) y y (.cons (si y) (.cons (zhX t ⟨(zcR y ⟨(si y),t⟩),t⟩) .nil)) zcD<|u<|mv y<|z7 (x:=v20) (j:=5) 4 y y y y y gpn (fun hb18=>by replace q20:=bT hb18 q20;obtain ⟨v19,q19,q20⟩:=bs q20;obtain rfl:=sm q20;exact g y hb18<|fa ti y y y<|g y hb18<|ld ti y y<|g y hb18<|mv y<|g y hb18<|pcs (zmR v17.Stack v4.l v4.at_ q19) y y (.cons (si y) (.cons (zhX t ⟨(zcR y ⟨(si y),t⟩),t⟩) .nil)) zcD<|za (eg [69,70,71,72] 4 y y y y)) (fun hb=>(sm (bF hb q20)).symm)<|u<|sx [1,2,3] (zs v4.l v4.at_ v2 v8 [] [] v15 v20 y)<|zx (env0:=[(1,sA v2),(3,.mpt 0 0 0),(9,.mpt 1 0 0),(56,.isl 3 (map zP v8.Maps)),(57,iA (length v8.Maps:Int)),(58,iA v16)]) (st0:=[some (1,[[.ipt 2 [[.isl 6 (map zc v4.l),.imp (map (rKV (fun x=>iA x)) v4.at_)]] 0 0]]),some (15,[(vK v4.l v4.at_ v2 v8 (.msl 2 0 0) (.msl 3 0 0) (bA (v15||(!v20))))]),some (1,map zf []),some (1,map zf [])]) (zo [.old 0,.old 1,.old 2,.old 3])<|za ?_
     refine rl y<|u<|add ti y y<|u<|mv y<|za ?_
     obtain rfl:=sm h
     exact ⟨_,y,zo [.old 0,.old 1,.old 2,.old 3]⟩
    ·
     replace h:=bF hc15 h
     refine zD ?_
     obtain rfl:=sm h
     exact ⟨y,_,y,zo [.old 0,.old 1,.old 2,.old 3]⟩
   ·
    rintro v21 rfl
    replace h:zfr v2 v4 v8 v21=some r:=h
    unfold zfr at h
    refine zw ?_
    refine za6 (X:=Bool) (fun z=>[(1,sA v2),(3,.mpt 0 0 0),(9,.mpt 1 0 0)]) (fun z=>[some (1,[[.ipt 2 [[.isl 6 (map zc v4.l),.imp (map (rKV (fun x=>iA x)) v4.at_)]] 0 0]]),some (15,[(vK v4.l v4.at_ v2 v8 (.msl 2 0 0) (.msl 3 0 0) (bA z))]),some (1,map zf []),some (1,map zf [])]) (fun z=>zdU v2 v4 v8 z=some r) ?_ ?_
    ·
     rcases bb (v8.Ret == [86]) with hb21 |hb21
     ·
      replace h:=bT hb21 h
      exact zae [21] [20,19,18,17,16,15,14,13,12,11,10,9,8,7,6,5,4,3,2,1,0] [(96,bA true),(95,.lit undef),(94,.lit undef),(93,.lit undef),(92,.lit undef),(91,.lit undef),(90,.lit undef),(89,.lit undef),(88,.lit undef),(87,.lit undef),(86,.lit undef),(85,.lit undef),(84,.lit undef),(83,bA (v8.Ret == [86])),(82,bA (v8.Ret == [86])),(81,sA v8.Ret),(80,.mpt 1 0 4),(79,.mpt 1 0 2),(78,.mpt 1 0 0),(77,.mpt 1 0 0),(76,.mpt 1 0 0)] 1 kz kz y kz (zma ⟨(fun _ _=>⟨_,y,y,sc [1,2,3] (args:=[.mpt 1 0 0,bA true]) (zs v4.l v4.at_ v2 v8 [] [] v21 true y) y y y y ⟨(.mpt y),(rnI y),t⟩ ⟨⟨_,y,(zvW y ⟨(.msl y),(.msl y),(rnI y),t⟩)⟩,⟨y,mkI (fun _=>y)⟩,⟨y,mkI (fun _=>y)⟩,t⟩<|⟨(.tup []),[],[(97,.tup [])],y,y,kz,y,zhW ⟨(v21||(!true)),h,zo [.old 0,.old 1,.old 2,.old 3]⟩⟩⟩),t⟩)
     ·
      replace h:=bF hb21 h
      obtain ⟨v22,q22,h⟩:=bs h
      exact zae [21] [20,19,18,17,16,15,14,13,12,11,10,9,8,7,6,5,4,3,2,1,0] [(96,bA v22),(95,bA v22),(94,sA v8.Ret),(93,.mpt 1 0 4),(92,.mpt 1 0 2),(91,.mpt 1 0 0),(90,.mpt 1 0 0),(89,sA v8.Ret),(88,.mpt 1 0 4),(87,.mpt 1 0 2),(86,.mpt 1 0 0),(85,.mpt 1 0 0),(84,.ipt 2 [[.isl 6 (map zc v4.l),.imp (map (rKV (fun x=>iA x)) v4.at_)]] 0 0),(83,bA (v8.Ret == [86])),(82,bA (v8.Ret == [86])),(81,sA v8.Ret),(80,.mpt 1 0 4),(79,.mpt 1 0 2),(78,.mpt 1 0 0),(77,.mpt 1 0 0),(76,.mpt 1 0 0)] 1 kz kz y kz (zem ⟨pe,(fun _=>pag (b:=(v8.Ret == [86])) y y y y hb21 y (pc (zds v4.l v4.at_ v8.Ret v8.Ret q22) y y y<|w)),pe,pe,pe,pe,pe,pe,pe,pe,pe,pe,pe,pe,pe,pe,pe,pe,pe,pe,pe,t⟩ ⟨(fun _ _=>⟨_,y,y,sc [1,2,3] (args:=[.mpt 1 0 0,bA v22]) (zs v4.l v4.at_ v2 v8 [] [] v21 v22 y) y y y y ⟨(.mpt y),(rnI y),t⟩ ⟨⟨_,y,(zvW y ⟨(.msl y),(.msl y),(rnI y),t⟩)⟩,⟨y,mkI (fun _=>y)⟩,⟨y,mkI (fun _=>y)⟩,t⟩<|⟨(.tup []),[],[(97,.tup [])],y,y,kz,y,zhW ⟨(v21||(!v22)),h,zo [.old 0,.old 1,.old 2,.old 3]⟩⟩⟩),t⟩)
    ·
     rintro v23 h
     replace h:zdU v2 v4 v8 v23=some r:=h
     unfold zdU at h
     obtain ⟨v24,q23,h⟩:=bs h
     refine rg y<|u<|mv y<|u<|mv y<|u<|nc y y<|u<|fa ti y y y<|u<|fa ti y y y<|u<|ld ti y y<|u<|mf y y<|u<|pcs (zoC v8.Params v4.l v4.at_ q23) y y (.cons (si y) (.cons (zhX t ⟨(zcR y ⟨(si y),t⟩),t⟩) .nil)) zcD<|u<|sx [1,2,3] (zs v4.l v4.at_ v2 v8 [] [] v23 v24 y)<|zx (env0:=[(1,sA v2),(9,.mpt 0 0 0)]) (st0:=[some (15,[(vK v4.l v4.at_ v2 v8 (.msl 1 0 0) (.msl 2 0 0) (bA (v23||(!v24))))]),some (1,map zf []),some (1,map zf [])]) (zo [.old 1,.old 2,.old 3])<|za ?_
     refine za6 (X:=T1) (fun z=>[(9,.mpt 0 0 0)]) (fun z=>[some (15,[(vK v4.l v4.at_ v2 v8 (.msl 1 0 (length z)) (.msl 2 0 0) (bA (v23||(!v24))))]),some (1,map zf z),some (1,map zf [])]) (fun z=>zdR v2 v4 v8 v23 v24 z=some r) ?_ ?_
     ·
      refine rg y<|u<|mv y<|u<|nc y y<|u<|fa ti y y y<|u<|fa ti y y y<|u<|ld ti y y<|u<|nt y<|za ?_
      refine ze y (fun hc24=>?_) (fun hc24=>?_)
      ·
       replace h:=bT hc24 h
       obtain ⟨v25,q25,h⟩:=bs h
       exact rl y<|u<|mv y<|u<|mv y<|u<|nc y y<|u<|fa ti y y y<|u<|ld ti y y<|u<|mv y<|u<|bl 3 ti y ti y (by decide) (by decide) y y y<|u<|apM 4 ti y ti y y (by decide) ti y y y y (roX (f:=zf) (z:=[v2]) y y) (fun _=>y) y q25<|u<|nc y y<|u<|fa ti y y y<|u<|sto ti y y y<|za (⟨v25,h,zo [.old 0,.old 4,.old 2]⟩)
      ·
       replace h:=bF hc24 h
       refine zg ?_
       exact ⟨[],h,zo [.old 0,.old 1,.old 2]⟩
     ·
      rintro v26 h
      replace h:zdR v2 v4 v8 v23 v24 v26=some r:=h
      unfold zdR at h
      obtain ⟨v27,q26,h⟩:=bs h
      refine rdA [(9,.mpt 0 0 0)] [some (15,[(vK v4.l v4.at_ v2 v8 (.msl 1 0 (length v27)) (.msl 2 0 0) (bA (v23||(!v24))))]),some (1,map zf v27),some (1,map zf [])] [10,13] [9,8,7,6,5,4,3,2,1,0] [(132,.isl 1 (map zf v8.Params)),(131,.mpt 0 0 3),(130,.mpt 0 0 2),(129,.mpt 0 0 0),(128,.mpt 0 0 0),(127,.msl 1 0 (length v26)),(126,.mpt 0 0 12),(125,.mpt 0 0 0),(124,.mpt 0 0 0),(123,.mpt 0 0 0)] 2 (zma ⟨(fun _ _=>⟨_,y,y,apM 3 ti y ti y y (by decide) ti y y y y roI (fun _=>y) y q26<|⟨(.msl 3 0 (length v27)),[12,11],[(135,.mpt 0 0 12),(134,.mpt 0 0 0),(133,.msl 3 0 (length v27))],y,y,kz,y,zma ⟨nv,(fun _ _=>⟨_,y,y,sto ti y y y<|⟨.any,[],[],y,y,kz,t,zhW (zo [.old 0,.old 3,.old 2])⟩⟩),t⟩⟩⟩),nw,t⟩) ?_
      obtain ⟨o,ho,h⟩:=bs h
      refine zyM (X:=T1) (B:=T1) (R:=Bool) (fun z=>[(9,.mpt 0 0 0)]) (fun z=>[some (15,[(vK v4.l v4.at_ v2 v8 (.msl 1 0 (length z)) (.msl 2 0 0) (bA (v23||(!v24))))]),some (1,map zf z),some (1,map zf [])]) (fun b=>[(9,.mpt 0 0 0)]) (fun b=>[some (15,[(vK v4.l v4.at_ v2 v8 (.msl 1 0 (length b)) (.msl 2 0 0) (bA (v23||(!v24))))]),some (1,map zf b),some (1,map zf [])]) (fun r env st=>zaN Tryz.prog Tryz.f40 0 (bA r) [] env st) ho (zo [.old 0,.old 1,.old 2]) ?_ ?_ ?_
      ·
       rintro v30 r h
       replace h:zfu v8 v30=some r:=h
       unfold zfu at h
       refine zi ?_
       refine rdA [(9,.mpt 0 0 0),(146,bA (decide (((length v30):Int)<v8.Locals)))] [some (15,[(vK v4.l v4.at_ v2 v8 (.msl 1 0 (length v30)) (.msl 2 0 0) (bA (v23||(!v24))))]),some (1,map zf v30),some (1,map zf [])] [] [10,9,8,7,6,5,4,3,2,1,0] [(146,bA (decide (((length v30):Int)<v8.Locals))),(145,iA v8.Locals),(144,.mpt 0 0 7),(143,.mpt 0 0 2),(142,.mpt 0 0 0),(141,.mpt 0 0 0),(140,iA ((length v30):Int)),(139,.msl 1 0 (length v30)),(138,.mpt 0 0 12),(137,.mpt 0 0 0),(136,.mpt 0 0 0)] 0 (zht ⟨pe,pe,pe,pe,pe,pe,(pb y (lnM ti y y y w)),pe,pe,pe,pe,t⟩ (zo [.old 0,.old 1,.old 2])) ?_
       refine ze y (fun hc29=>?_) (fun hc29=>?_)
       ·
        replace h:=bT hc29 h
        refine zg ?_
        refine zr ?_
        obtain ⟨v31,q30,h⟩:=bs h
        refine rl y<|u<|mv y<|u<|mv y<|u<|nc y y<|u<|fa ti y y y<|u<|ld ti y y<|u<|bl 3 ti y ti y (by decide) (by decide) y y y<|u<|apM 4 ti y ti y y (by decide) ti y y y y (roX (f:=zf) (z:=[[84]]) y y) (fun _=>y) y q30<|u<|nc y y<|u<|fa ti y y y<|u<|sto ti y y y<|za ?_
        obtain rfl:=sm h
        exact ⟨_,y,zo [.old 0,.old 4,.old 2]⟩
       ·
        replace h:=bF hc29 h
        refine zD ?_
        obtain rfl:=sm h
        exact ⟨y,_,y,zo [.old 0,.old 1,.old 2]⟩
      ·
       rintro v32 rfl
       replace h:ziv v2 v4 v8 v23 v24 v32=some r:=h
       unfold ziv at h
       refine rg y<|u<|asg y<|za ?_
       refine zi ?_
       refine rg y<|u<|mv y<|u<|nc y y<|u<|fa ti y y y<|u<|fa ti y y y<|u<|ld ti y y<|u<|lnI ti y y<|u<|mv y<|za ?_
       obtain ⟨o,ho,h⟩:=bs h
       refine zX (X:=T1×T1×Bool×Bool×Int) (B:=T1×T1×Bool) (R:=Bool) (fun z=>[(9,.mpt 0 0 0),(13,bA z.2.2.2.1),(160,.isl 4 (map zv v8.Code)),(161,iA (length v8.Code:Int)),(162,iA z.2.2.2.2)]) (fun z=>[some (15,[(vK v4.l v4.at_ v2 v8 (.msl 1 0 (length z.1)) (.msl 2 0 (length z.2.1)) (bA z.2.2.1))]),some (1,map zf z.1),some (1,map zf z.2.1)]) (fun b=>[(9,.mpt 0 0 0)]) (fun b=>[some (15,[(vK v4.l v4.at_ v2 v8 (.msl 1 0 (length b.1)) (.msl 2 0 (length b.2.1)) (bA b.2.2))]),some (1,map zf b.1),some (1,map zf b.2.1)]) (fun r env st=>zaN Tryz.prog Tryz.f40 0 (bA r) [] env st) ho (zo [.old 0,.old 1,.old 2]) ?_ ?_ ?_
       ·
        rintro ⟨v44,v45,v46,v47,v48⟩ r h
        replace h:zat v2 v4 v8 v44 v45 v46 v47 v48=some r:=h
        unfold zat at h
        refine rg y<|u<|lss ti y y<|za ?_
        refine zi ?_
        refine ze y (fun hc39=>?_) (fun hc39=>?_)
        ·
         replace h:=bT hc39 h
         refine zg ?_
         refine zi ?_
         refine zr ?_
         obtain ⟨v49,q40,h⟩:=bs h
         refine rg y<|u<|mv y<|u<|ixI ti y ti y y y q40<|u<|ldI ti y (zl q40).2.2 y<|u<|al 3 ti y<|u<|asg y<|u<|sto ti y y y<|za ?_
         obtain ⟨v50,q41,h⟩:=bs h
         refine rg y<|u<|mv y<|u<|mv y<|u<|mv y<|u<|sx [0,1,2] (zkP v4.l v4.at_ v2 v8 v44 v45 v46 v48 v47 q41)<|zx (env0:=[(9,.mpt 0 0 0),(14,iA v48),(15,.mpt 3 0 0),(160,.isl 4 (map zv v8.Code)),(161,iA (length v8.Code:Int)),(162,iA v48)]) (st0:=[some (15,[(vK v4.l v4.at_ v2 v8 (.msl 1 0 (length v50.1)) (.msl 2 0 (length v50.2.1)) (bA v50.2.2))]),some (1,map zf v50.1),some (1,map zf v50.2.1),some (4,[(zv v49)])]) (zo [.old 0,.old 4,.old 5,.old 3])<|za ?_
         refine zi ?_
         refine rg y<|u<|mv y<|u<|nc y y<|u<|fa ti y y y<|u<|ld ti y y<|za ?_
         refine ze y (fun hc42=>?_) (fun hc42=>?_)
         ·
          replace h:=bT hc42 h
          refine rg y<|u<|asg y<|za ?_
          refine zj ?_
          obtain rfl:=sm h
          exact ⟨_,y,_,y,zy []⟩
         ·
          replace h:=bF hc42 h
          refine zg ?_
          obtain ⟨v51,q43,h⟩:=bs h
          refine rg y<|u<|mv y<|u<|mv y<|u<|sx [0,1,2] (zkx v4.l v4.at_ v2 v8 v50.1 v50.2.1 v50.2.2 v48 q43)<|zx (env0:=[(9,.mpt 0 0 0),(15,.mpt 3 0 0),(160,.isl 4 (map zv v8.Code)),(161,iA (length v8.Code:Int)),(162,iA v48)]) (st0:=[some (15,[(vK v4.l v4.at_ v2 v8 (.msl 1 0 (length v50.1)) (.msl 2 0 (length v50.2.1)) (bA v51))]),some (1,map zf v50.1),some (1,map zf v50.2.1),some (4,[(zv v49)])]) (zo [.old 0,.old 1,.old 2,.old 3])<|za ?_
          obtain ⟨v52,q44,h⟩:=bs h
          refine rg y<|u<|mv y<|u<|ld ti y y<|u<|sx [0,1,2] (zlP v4.l v4.at_ v2 v8 v50.1 v50.2.1 v51 v49 q44)<|zx (env0:=[(9,.mpt 0 0 0),(15,.mpt 3 0 0),(160,.isl 4 (map zv v8.Code)),(161,iA (length v8.Code:Int)),(162,iA v48)]) (st0:=[some (15,[(vK v4.l v4.at_ v2 v8 (.msl 1 0 (length v52.1)) (.msl 2 0 (length v52.2.1)) (bA v52.2.2))]),some (1,map zf v52.1),some (1,map zf v52.2.1),some (4,[(zv v49)])]) (zo [.old 0,.old 4,.old 5,.old 3])<|za ?_
          refine za6 (X:=Bool) (fun z=>[(9,.mpt 0 0 0),(15,.mpt 3 0 0),(160,.isl 4 (map zv v8.Code)),(161,iA (length v8.Code:Int)),(162,iA v48)]) (fun z=>[some (15,[(vK v4.l v4.at_ v2 v8 (.msl 1 0 (length v52.1)) (.msl 2 0 (length v52.2.1)) (bA z))]),some (1,map zf v52.1),some (1,map zf v52.2.1),some (4,[(zv v49)])]) (fun z=>zdb v8 v48 v49 v52 z=some r) ?_ ?_
          ·
           refine rg y<|u<|fa ti y y y<|u<|ld ti y y<|u<|pc (zmq v49.Op y) y y y<|za ?_
           refine ze y (fun hc45=>?_) (fun hc45=>?_)
           ·
            replace h:=bT hc45 h
            obtain ⟨v53,q46,h⟩:=bs h
            refine zjq [(9,.mpt 0 0 0),(15,.mpt 3 0 0),(160,.isl 4 (map zv v8.Code)),(161,iA (length v8.Code:Int)),(162,iA v48)] [some (15,[(vK v4.l v4.at_ v2 v8 (.msl 1 0 (length v52.1)) (.msl 2 0 (length v52.2.1)) (bA v53))]),some (1,map zf v52.1),some (1,map zf v52.2.1),some (4,[(zv v49)])] [7] [6,5,4,3,2,1,0] [(190,.msl 2 0 (length v52.2.1)),(189,.mpt 0 0 13),(188,.mpt 0 0 0),(187,.mpt 0 0 0),(186,iA v49.A),(185,.mpt 3 0 1),(184,.mpt 0 0 0)] 1 (zma ⟨(fun _ _=>⟨_,y,y,sx [0,1,2] (zhV v4.l v4.at_ v2 v8 v52.1 v52.2.1 v52.2.2 v49.A q46)<|⟨(.tup []),[],[(191,.tup [])],y,y,kz,y,zhW (zo [.old 0,.old 1,.old 2,.old 3])⟩⟩),t⟩) ?_
            exact ⟨v53,h,zo [.old 0,.old 1,.old 2,.old 3]⟩
           ·
            replace h:=bF hc45 h
            refine zg ?_
            exact ⟨v52.2.2,h,zo [.old 0,.old 1,.old 2,.old 3]⟩
          ·
           rintro v54 h
           replace h:zdb v8 v48 v49 v52 v54=some r:=h
           unfold zdb at h
           refine rdA [(9,.mpt 0 0 0),(15,.mpt 3 0 0),(160,.isl 4 (map zv v8.Code)),(161,iA (length v8.Code:Int)),(162,iA v48)] [some (15,[(vK v4.l v4.at_ v2 v8 (.msl 1 0 (length v52.1)) (.msl 2 0 (length v52.2.1)) (bA (v54||(!(decide (((length v52.2.1):Int)≤v8.Stack))))))]),some (1,map zf v52.1),some (1,map zf v52.2.1),some (4,[(zv v49)])] [12] [11,10,9,8,7,6,5,4,3,2,1,0] [(203,bA (decide (((length v52.2.1):Int)≤v8.Stack))),(202,iA v8.Stack),(201,.mpt 0 0 8),(200,.mpt 0 0 2),(199,.mpt 0 0 0),(198,.mpt 0 0 0),(197,iA ((length v52.2.1):Int)),(196,.msl 2 0 (length v52.2.1)),(195,.mpt 0 0 13),(194,.mpt 0 0 0),(193,.mpt 0 0 0),(192,.mpt 0 0 0)] 1 (zem ⟨pe,pe,pe,pe,pe,pe,(pb y (lnM ti y y y w)),pe,pe,pe,pe,pe,t⟩ ⟨(fun _ _=>⟨_,y,y,sx [0,1,2] (zs v4.l v4.at_ v2 v8 v52.1 v52.2.1 v54 (decide (((length v52.2.1):Int)≤v8.Stack)) y)<|⟨(.tup []),[],[(204,.tup [])],y,y,kz,y,zht ⟨pe,pe,pe,pe,pe,pe,(pb y (lnM ti y y y w)),pe,pe,pe,pe,pe,t⟩ (zo [.old 0,.old 1,.old 2,.old 3])⟩⟩),t⟩) ?_
           refine rl y<|u<|fa ti y y y<|u<|ld ti y y<|u<|pc (zqr v49.Op y) y y y<|u<|nt y<|u<|asg y<|za ?_
           refine rl y<|u<|add ti y y<|u<|mv y<|za ?_
           obtain rfl:=sm h
           exact ⟨_,y,zo [.old 0,.old 1,.old 2]⟩
        ·
         replace h:=bF hc39 h
         refine zD ?_
         obtain rfl:=sm h
         exact ⟨y,_,y,zo [.old 0,.old 1,.old 2]⟩
       ·
        rintro ⟨v55,v56,v57⟩ rfl
        replace h:zgu v55 v56 v57=some r:=h
        unfold zgu at h
        refine zw ?_
        refine rg y<|u<|mv y<|u<|nc y y<|u<|fa ti y y y<|u<|ld ti y y<|u<|nt y<|u<|asg y<|za ?_
        refine zj ?_
        obtain rfl:=sm h
        exact ⟨_,y,zy []⟩
       ·
        rintro r' rfl env st hp
        obtain rfl:=sm h
        exact hp
      ·
       rintro r' rfl env st hp
       obtain rfl:=sm h
       exact hp
   ·
    rintro r' rfl env st hp
    obtain rfl:=sm h
    exact hp
def zkc:Option (Bool):=
  (zkg ([(zb.mk [70,97,99,101] [79,98,106,101,99,116] true [] [] ([(zd.mk [102] [] [73] false true 0 0 [] [] [])])),(zb.mk [65,97] [79,98,106,101,99,116] false ([[70,97,99,101]]) ([(zt.mk [120] [73] false),(zt.mk [115] [73] true)]) ([(zd.mk [102] [] [73] false false 1 1 ([(zH.mk 1 5 [] []),(zH.mk 47 0 [] [])]) [] [])])),(zb.mk [66,98] [65,97] false [] ([(zt.mk [121] [91,65,97] false)]) ([(zd.mk [109,97,105,110] [] [86] true false 0 0 ([(zH.mk 46 0 [] [])]) [] [])]))])).bind fun v1=>(zkg ([(zb.mk [70,97,99,101] [79,98,106,101,99,116] true [] [] ([(zd.mk [102] [] [73] false true 0 0 [] [] [])])),(zb.mk [65,97] [79,98,106,101,99,116] false ([[70,97,99,101]]) ([(zt.mk [120] [73] false),(zt.mk [115] [73] true)]) ([(zd.mk [102] [] [73] false false 1 1 ([(zH.mk 2 0 [] []),(zH.mk 47 0 [] [])]) [] [])])),(zb.mk [66,98] [65,97] false [] ([(zt.mk [121] [91,65,97] false)]) ([(zd.mk [109,97,105,110] [] [86] true false 0 0 ([(zH.mk 46 0 [] [])]) [] [])]))])).bind fun v2=>cond ((!(v1.2 == (0:Int)))||(!(v2.2 == (0:Int)))) (some false) ((cond (zn6) ((zcV v1.1 [65,97] 0).bind fun v3=>some v3) (some false)).bind fun v4=>(cond v4 ((zcV v1.1 [66,98] 0).bind fun v5=>some v5) (some false)).bind fun v6=>(cond v6 ((zcV v2.1 [65,97] 0).bind fun v7=>some (!v7)) (some false)).bind fun v8=>(cond v8 ((zcV v1.1 [70,97,99,101] 0).bind fun v9=>some (!v9)) (some false)).bind fun v10=>(cond v10 ((zcV v1.1 [65,97] 1).bind fun v11=>some (!v11)) (some false)).bind fun v12=>(cond v12 ((zcV v1.1 [90,122] 0).bind fun v13=>some (!v13)) (some false)).bind fun v14=>some v14)
theorem zp8{r:Bool}(h:zkc=some r):zI Tryz.prog 37 [] (bA r):=by
 refine zq Tryz.func37 y kz y y ?_
 unfold zkc at h
 refine rg y<|u<|asg y<|za ?_
 obtain ⟨v1,q1,h⟩:=bs h
 refine rg y<|u<|sx [] (zoQ y)<|zx (env0:=[(7,.msl 0 0 3)]) (st0:=[some (6,[[sA [70,97,99,101],sA [79,98,106,101,99,116],bA true,.lit (.slice none 0 0),.lit (.slice none 0 0),.msl 1 0 1],[sA [65,97],sA [79,98,106,101,99,116],bA false,.msl 2 0 1,.msl 3 0 2,.msl 4 0 1],[sA [66,98],sA [65,97],bA false,.lit (.slice none 0 0),.msl 6 0 1,.msl 7 0 1]]),some (10,[[sA [102],.lit (.slice none 0 0),sA [73],bA false,bA true,iA 0,iA 0,.lit (.slice none 0 0),.lit (.slice none 0 0),.lit (.slice none 0 0)]]),some (1,[[sA [70,97,99,101]]]),some (3,[[sA [120],sA [73],bA false],[sA [115],sA [73],bA true]]),some (10,[[sA [102],.lit (.slice none 0 0),sA [73],bA false,bA false,iA 1,iA 1,.msl 5 0 2,.lit (.slice none 0 0),.lit (.slice none 0 0)]]),some (4,[[iA 1,iA 5,sA [],sA []],[iA 47,iA 0,sA [],sA []]]),some (3,[[sA [121],sA [91,65,97],bA false]]),some (10,[[sA [109,97,105,110],.lit (.slice none 0 0),sA [86],bA true,bA false,iA 0,iA 0,.msl 8 0 1,.lit (.slice none 0 0),.lit (.slice none 0 0)]]),some (4,[[iA 46,iA 0,sA [],sA []]])]) (zo [.old 0,.old 1,.old 2,.old 3,.old 4,.old 5,.old 6,.old 7,.old 8])<|zx (env0:=[(7,.isl 6 (map zc ([(zb.mk [70,97,99,101] [79,98,106,101,99,116] true [] [] ([(zd.mk [102] [] [73] false true 0 0 [] [] [])])),(zb.mk [65,97] [79,98,106,101,99,116] false ([[70,97,99,101]]) ([(zt.mk [120] [73] false),(zt.mk [115] [73] true)]) ([(zd.mk [102] [] [73] false false 1 1 ([(zH.mk 1 5 [] []),(zH.mk 47 0 [] [])]) [] [])])),(zb.mk [66,98] [65,97] false [] ([(zt.mk [121] [91,65,97] false)]) ([(zd.mk [109,97,105,110] [] [86] true false 0 0 ([(zH.mk 46 0 [] [])]) [] [])]))])))]) (st0:=[]) (zo [])<|u<|pc (zmw ([(zb.mk [70,97,99,101] [79,98,106,101,99,116] true [] [] ([(zd.mk [102] [] [73] false true 0 0 [] [] [])])),(zb.mk [65,97] [79,98,106,101,99,116] false ([[70,97,99,101]]) ([(zt.mk [120] [73] false),(zt.mk [115] [73] true)]) ([(zd.mk [102] [] [73] false false 1 1 ([(zH.mk 1 5 [] []),(zH.mk 47 0 [] [])]) [] [])])),(zb.mk [66,98] [65,97] false [] ([(zt.mk [121] [91,65,97] false)]) ([(zd.mk [109,97,105,110] [] [86] true false 0 0 ([(zH.mk 46 0 [] [])]) [] [])]))]) q1) y y y<|u<|mv y<|u<|ex y y<|u<|ex y y<|u<|asg y<|u<|asg y<|za ?_
 refine rg y<|u<|sx [] (zoQ y)<|zx (env0:=[(1,zk4 2 zeR v1.1),(2,iA v1.2),(11,.msl 0 0 3)]) (st0:=[some (6,[[sA [70,97,99,101],sA [79,98,106,101,99,116],bA true,.lit (.slice none 0 0),.lit (.slice none 0 0),.msl 1 0 1],[sA [65,97],sA [79,98,106,101,99,116],bA false,.msl 2 0 1,.msl 3 0 2,.msl 4 0 1],[sA [66,98],sA [65,97],bA false,.lit (.slice none 0 0),.msl 6 0 1,.msl 7 0 1]]),some (10,[[sA [102],.lit (.slice none 0 0),sA [73],bA false,bA true,iA 0,iA 0,.lit (.slice none 0 0),.lit (.slice none 0 0),.lit (.slice none 0 0)]]),some (1,[[sA [70,97,99,101]]]),some (3,[[sA [120],sA [73],bA false],[sA [115],sA [73],bA true]]),some (10,[[sA [102],.lit (.slice none 0 0),sA [73],bA false,bA false,iA 1,iA 1,.msl 5 0 2,.lit (.slice none 0 0),.lit (.slice none 0 0)]]),some (4,[[iA 1,iA 5,sA [],sA []],[iA 47,iA 0,sA [],sA []]]),some (3,[[sA [121],sA [91,65,97],bA false]]),some (10,[[sA [109,97,105,110],.lit (.slice none 0 0),sA [86],bA true,bA false,iA 0,iA 0,.msl 8 0 1,.lit (.slice none 0 0),.lit (.slice none 0 0)]]),some (4,[[iA 46,iA 0,sA [],sA []]])]) (zo [.old 0,.old 1,.old 2,.old 3,.old 4,.old 5,.old 6,.old 7,.old 8])<|u<|asg y<|za ?_
 refine rg y<|u<|mv y<|u<|ixX ti y ti y y y<|u<|fa ti y y y<|u<|ld ti y y<|u<|ixX ti y ti y y y<|u<|fa ti y y y<|u<|ld ti y y<|u<|bd ti y y y<|u<|ixX ti y ti y y y<|u<|sto ti y y y<|za ?_
 obtain ⟨v2,q2,h⟩:=bs h
 refine rg y<|u<|mv y<|zx (env0:=[(1,zk4 2 zeR v1.1),(2,iA v1.2),(22,.isl 6 (map zc ([(zb.mk [70,97,99,101] [79,98,106,101,99,116] true [] [] ([(zd.mk [102] [] [73] false true 0 0 [] [] [])])),(zb.mk [65,97] [79,98,106,101,99,116] false ([[70,97,99,101]]) ([(zt.mk [120] [73] false),(zt.mk [115] [73] true)]) ([(zd.mk [102] [] [73] false false 1 1 ([(zH.mk 2 0 [] []),(zH.mk 47 0 [] [])]) [] [])])),(zb.mk [66,98] [65,97] false [] ([(zt.mk [121] [91,65,97] false)]) ([(zd.mk [109,97,105,110] [] [86] true false 0 0 ([(zH.mk 46 0 [] [])]) [] [])]))])))]) (st0:=[]) (zo [])<|u<|pc (zmw ([(zb.mk [70,97,99,101] [79,98,106,101,99,116] true [] [] ([(zd.mk [102] [] [73] false true 0 0 [] [] [])])),(zb.mk [65,97] [79,98,106,101,99,116] false ([[70,97,99,101]]) ([(zt.mk [120] [73] false),(zt.mk [115] [73] true)]) ([(zd.mk [102] [] [73] false false 1 1 ([(zH.mk 2 0 [] []),(zH.mk 47 0 [] [])]) [] [])])),(zb.mk [66,98] [65,97] false [] ([(zt.mk [121] [91,65,97] false)]) ([(zd.mk [109,97,105,110] [] [86] true false 0 0 ([(zH.mk 46 0 [] [])]) [] [])]))]) q2) y y y<|u<|mv y<|u<|ex y y<|u<|ex y y<|u<|asg y<|u<|asg y<|za ?_
 refine zi ?_
 refine rg y<|u<|mv y<|u<|neq ti y y<|u<|mv y<|zdj (j:=2) 2 y y y y y gpn (fun hb3=>g y hb3<|mv y<|g y hb3<|neq ti y y<|za (egO [29,30] 2 hb3 y y y y)) orT<|za ?_
 refine ze y (fun hc4=>?_) (fun hc4=>?_)
 ·
  replace h:=bT hc4 h
  refine rg y<|u<|asg y<|za ?_
  refine zj ?_
  obtain rfl:=sm h
  exact ⟨_,y,zy []⟩
 ·
  replace h:=bF hc4 h
  refine zg ?_
  obtain ⟨v4,q7,h⟩:=bs h
  obtain ⟨v6,q10,h⟩:=bs h
  obtain ⟨v8,q13,h⟩:=bs h
  obtain ⟨v10,q16,h⟩:=bs h
  obtain ⟨v12,q19,h⟩:=bs h
  obtain ⟨v14,q22,h⟩:=bs h
  refine rg y<|u<|pc (zqX y) y y y<|u<|mv y<|z7 (x:=v4) (j:=1) 2 y y y y y gpn (fun hb5=>by replace q7:=bT hb5 q7;obtain ⟨v3,q6,q7⟩:=bs q7;obtain rfl:=sm q7;exact g y hb5<|mv y<|g y hb5<|pc (zdS v1.1 [65,97] 0 q6) y y (zyg (zuA (fun _=>y)) (y))<|za (eg [34,35] 2 y y y y)) (fun hb=>(sm (bF hb q7)).symm)<|u<|mv y<|z7 (x:=v6) (j:=5) 2 y y y y y gpn (fun hb8=>by replace q10:=bT hb8 q10;obtain ⟨v5,q9,q10⟩:=bs q10;obtain rfl:=sm q10;exact g y hb8<|mv y<|g y hb8<|pc (zdS v1.1 [66,98] 0 q9) y y (zyg (zuA (fun _=>y)) (y))<|za (eg [38,39] 2 y y y y)) (fun hb=>(sm (bF hb q10)).symm)<|u<|mv y<|z7 (x:=v8) (j:=9) 3 y y y y y gpn (fun hb11=>by replace q13:=bT hb11 q13;obtain ⟨v7,q12,q13⟩:=bs q13;obtain rfl:=sm q13;exact g y hb11<|mv y<|g y hb11<|pc (zdS v2.1 [65,97] 0 q12) y y (zyg (zuA (fun _=>y)) (y))<|g y hb11<|nt y<|za (eg [42,43,44] 3 y y y y)) (fun hb=>(sm (bF hb q13)).symm)<|u<|mv y<|z7 (x:=v10) (j:=14) 3 y y y y y gpn (fun hb14=>by replace q16:=bT hb14 q16;obtain ⟨v9,q15,q16⟩:=bs q16;obtain rfl:=sm q16;exact g y hb14<|mv y<|g y hb14<|pc (zdS v1.1 [70,97,99,101] 0 q15) y y (zyg (zuA (fun _=>y)) (y))<|g y hb14<|nt y<|za (eg [47,48,49] 3 y y y y)) (fun hb=>(sm (bF hb q16)).symm)<|u<|mv y<|z7 (x:=v12) (j:=19) 3 y y y y y gpn (fun hb17=>by replace q19:=bT hb17 q19;obtain ⟨v11,q18,q19⟩:=bs q19;obtain rfl:=sm q19;exact g y hb17<|mv y<|g y hb17<|pc (zdS v1.1 [65,97] 1 q18) y y (zyg (zuA (fun _=>y)) (y))<|g y hb17<|nt y<|za (eg [52,53,54] 3 y y y y)) (fun hb=>(sm (bF hb q19)).symm)<|u<|mv y<|z7 (x:=v14) (j:=24) 3 y y y y y gpn (fun hb20=>by replace q22:=bT hb20 q22;obtain ⟨v13,q21,q22⟩:=bs q22;obtain rfl:=sm q22;exact g y hb20<|mv y<|g y hb20<|pc (zdS v1.1 [90,122] 0 q21) y y (zyg (zuA (fun _=>y)) (y))<|g y hb20<|nt y<|za (eg [57,58,59] 3 y y y y)) (fun hb=>(sm (bF hb q22)).symm)<|u<|asg y<|za ?_
  refine zj ?_
  obtain rfl:=sm h
  exact ⟨_,y,zy []⟩
def rK(h0:List zb)(c:T0)(m:zd)(x0:AV)(x1:AV)(x2:AV):List AV:=[.ipt 1 [[.isl 6 (map zc h0)]] 0 0,sA c,sA m.Name,.isl 1 (map zf m.Params),sA m.Ret,bA m.Static,bA m.Abstract,iA m.Locals,iA m.Stack,.isl 4 (map zv m.Code),.isl 3 (map zP m.Maps),.isl 4 (map zbL m.Traps),x0,x1,x2]
structure zhM where
  locals:T1
  stack:T1
def zvo(x:zhM):List AV:=[.isl 1 (map zf x.locals),.isl 1 (map zf x.stack)]
def zlL(v12:T0)(v13:Int):Option (T0×Int):=
  some (v12,v13)
def ze0(v7:T0)(v8:Int):Option (Sum (T0×Int) (Sum (T0×Int) (T0×Int))):=
  (cond (decide (0<(length v7:Int))) ((idx v7 0).bind fun v9=>some ((v9.toNat:Int) == (91:Int))) (some false)).bind fun v10=>cond v10 ((zj6 v7 1 (length v7:Int)).bind fun v11=>some (.inl (v11,(IntKind.i64.wrap (v8+1))))) (some (.inr (.inl (v7,v8))))
def ziq(v1:T0):Option (T0×Int):=
  (zu (fun z=>ze0 z.1 z.2) (v1,0)).bind fun o=>zU o (fun b=>zlL b.1 b.2) some
theorem zk9(v1:T0){r:T0×Int}(h:ziq v1=some r):zI Tryz.prog 200 [sA v1] (.tup [sA r.1,iA r.2]):=by
 refine zq Tryz.func200 y kz y y ?_
 unfold ziq at h
 refine rg y<|u<|asg y<|u<|asg y<|za ?_
 refine rg y<|u<|asg y<|za ?_
 obtain ⟨o,ho,h⟩:=bs h
 refine zyM (X:=T0×Int) (B:=T0×Int) (R:=T0×Int) (fun z=>[(0,sA z.1),(4,iA z.2)]) (fun z=>[]) (fun b=>[(0,sA b.1),(4,iA b.2)]) (fun b=>[]) (fun r env st=>zaN Tryz.prog Tryz.f200 0 (.tup [sA r.1,iA r.2]) [] env st) ho (zo []) ?_ ?_ ?_
 ·
  rintro ⟨v7,v8⟩ r h
  replace h:ze0 v7 v8=some r:=h
  unfold ze0 at h
  refine zi ?_
  obtain ⟨v10,q8,h⟩:=bs h
  refine rg y<|u<|mv y<|u<|lnS ti y y<|u<|gtr ti y y<|u<|mv y<|z7 (x:=v10) (j:=3) 3 y y y y y gpn (fun hb6=>by replace q8:=bT hb6 q8;obtain ⟨v9,q7,q8⟩:=bs q8;obtain rfl:=sm q8;exact g y hb6<|mv y<|g y hb6<|ixS ti y y y q7<|g y hb6<|eql ti y y<|za (eg [9,10,11] 3 y y y y)) (fun hb=>(sm (bF hb q8)).symm)<|za ?_
  refine ze y (fun hc9=>?_) (fun hc9=>?_)
  ·
   replace h:=bT hc9 h
   refine zg ?_
   refine zr ?_
   obtain ⟨v11,q10,h⟩:=bs h
   refine rg y<|u<|mv y<|u<|slS (a:=1) (b:=(length v7:Int)) ti y y (zml y q10) y q10<|u<|asg y<|za ?_
   refine rl y<|u<|mv y<|u<|add ti y y<|u<|asg y<|za ?_
   obtain rfl:=sm h
   exact ⟨_,y,zo []⟩
  ·
   replace h:=bF hc9 h
   refine zD ?_
   obtain rfl:=sm h
   exact ⟨y,_,y,zo []⟩
 ·
  rintro ⟨v12,v13⟩ rfl
  replace h:zlL v12 v13=some r:=h
  unfold zlL at h
  refine rg y<|u<|mv y<|u<|mv y<|u<|asg y<|u<|asg y<|za ?_
  refine zj ?_
  obtain rfl:=sm h
  exact ⟨_,y,zy []⟩
 ·
  rintro r' rfl env st hp
  obtain rfl:=sm h
  exact hp
def z1(v1:List zb)(v2:T0):Option (Bool):=
  (zgn v2).bind fun v3=>cond (!v3) (some false) ((ziq v2).bind fun v4=>(cond (v4.1 == [73]) (some true) ((zaD v1 v4.1).bind fun v5=>some (decide (0≤v5)))).bind fun v6=>some v6)
theorem zab(v1:List zb)(v2:T0){r:Bool}(h:z1 v1 v2=some r):zI Tryz.prog 125 [.ipt 1 [[.isl 6 (map zc v1)]] 0 0,sA v2] (bA r):=by
 refine zq Tryz.func125 y kz y y ?_
 unfold z1 at h
 refine rg y<|u<|asg y<|za ?_
 refine zi ?_
 obtain ⟨v3,q1,h⟩:=bs h
 refine rg y<|u<|mv y<|u<|pc (zfh v2 q1) y y y<|u<|nt y<|za ?_
 refine ze y (fun hc2=>?_) (fun hc2=>?_)
 ·
  replace h:=bT hc2 h
  refine rg y<|u<|asg y<|za ?_
  refine zj ?_
  obtain rfl:=sm h
  exact ⟨_,y,zy []⟩
 ·
  replace h:=bF hc2 h
  refine zg ?_
  obtain ⟨v4,q3,h⟩:=bs h
  refine rg y<|u<|mv y<|u<|pc (zk9 v2 q3) y y y<|u<|mv y<|u<|ex y y<|u<|ex y y<|u<|asg y<|u<|asg y<|za ?_
  obtain ⟨v6,q6,h⟩:=bs h
  refine rg y<|u<|mv y<|u<|seq ti y y<|u<|mv y<|zdj (x:=v6) (j:=2) 4 y y y y y gpn (fun hb4=>by replace q6:=bF hb4 q6;obtain ⟨v5,q5,q6⟩:=bs q6;obtain rfl:=sm q6;exact g y hb4<|mv y<|g y hb4<|mv y<|g y hb4<|pc (zV v1 v4.1 q5) y y y<|g y hb4<|geq ti y y<|za (eg [18,19,20,21] 4 y y y y)) (fun hb=>(sm (bT hb q6)).symm)<|u<|asg y<|za ?_
  refine zj ?_
  obtain rfl:=sm h
  exact ⟨_,y,zy []⟩
def zj1(v1:List zb)(v2:T0)(v3:zd)(v4:Bool)(v5:Bool):Unit:=
  ()
theorem zgD(v1:List zb)(v2:T0)(v3:zd)(v4:Bool)(v5:Bool){r:Unit}(h:zj1 v1 v2 v3 v4 v5=r):SC Tryz.prog 124 [.mpt 0 0 0,bA v5] [.one 15 (rK v1 v2 v3 (.lit (.slice none 0 0)) (.lit (.slice none 0 0)) (bA v4))] (.tup []) [.one 15 (rK v1 v2 v3 (.lit (.slice none 0 0)) (.lit (.slice none 0 0)) (bA (v4||(!v5))))]:=by
 refine ⟨⟨t,t⟩,zW Tryz.func124 y kz y ?_⟩
 unfold zj1 at h
 refine rl y<|u<|mv y<|u<|mv y<|u<|nc y y<|u<|fa ti y y y<|u<|ld ti y y<|u<|mv y<|zdj (j:=5) 2 y y y y y gpn (fun hb1=>g y hb1<|mv y<|g y hb1<|nt y<|za (egO [10,11] 2 hb1 y y y y)) orT<|u<|nc y y<|u<|fa ti y y y<|u<|sto ti y y y<|za ?_
 obtain rfl:=h
 exact ⟨_,y,zy [.old 0]⟩
def zf0(v14:T1):Option (T1):=
  some v14
def zdz(v3:zd)(v12:T1):Option (Sum (T1) (Sum (T1) (T1))):=
  cond (decide (((length v12):Int)<v3.Locals)) ((zis 16 v12 ([[84]])).bind fun v13=>some (.inl v13)) (some (.inr (.inl v12)))
def zci(v3:zd)(v8:T1):Option (T1):=
  (zis 16 v8 v3.Params).bind fun v9=>(zu (fun z=>zdz v3 z) v9).bind fun o=>zU o (fun b=>zf0 b) some
def zeu(v1:List zb)(v2:T0)(v3:zd)(v4:T1)(v5:T1)(v6:Bool):Option (T1):=
  cond (!v3.Static) ((zis 16 v4 [v2]).bind fun v7=>zci v3 v7) (zci v3 v4)
theorem zls(v1:List zb)(v2:T0)(v3:zd)(v4:T1)(v5:T1)(v6:Bool){r:T1}(h:zeu v1 v2 v3 v4 v5 v6=some r):SC Tryz.prog 126 [.mpt 0 0 0] [.one 15 (rK v1 v2 v3 (.msl 1 0 (length v4)) (.msl 2 0 (length v5)) (bA v6)),.many 1 (map zf v4),.many 1 (map zf v5)] (.tup []) [.one 15 (rK v1 v2 v3 (.msl 3 0 (length r)) (.msl 2 0 (length v5)) (bA v6)),.no,.many 1 (map zf v5),.many 1 (map zf r)]:=by
 refine ⟨⟨t,t,zhS (sz:=1) (fun _=>y),zhS (sz:=1) (fun _=>y),t⟩,zW Tryz.func126 y kz y ?_⟩
 unfold zeu at h
 refine za6 (X:=T1) (fun z=>[(0,.mpt 0 0 0)]) (fun z=>[some (15,[(rK v1 v2 v3 (.msl 3 0 (length z)) (.msl 2 0 (length v5)) (bA v6))]),none,some (1,map zf v5),some (1,map zf z)]) (fun z=>zci v3 z=some r) ?_ ?_
 ·
  refine rg y<|u<|mv y<|u<|nc y y<|u<|fa ti y y y<|u<|fa ti y y y<|u<|ld ti y y<|u<|nt y<|za ?_
  refine ze y (fun hc1=>?_) (fun hc1=>?_)
  ·
   replace h:=bT hc1 h
   obtain ⟨v7,q2,h⟩:=bs h
   refine zjq [(0,.mpt 0 0 0)] [some (15,[(rK v1 v2 v3 (.msl 3 0 (length v7)) (.msl 2 0 (length v5)) (bA v6))]),none,some (1,map zf v5),some (1,map zf v7)] [10,11,15] [9,8,7,6,5,4,3,2,1,0] [(17,sA v2),(16,.mpt 0 0 1),(15,.mpt 0 0 0),(14,.mpt 0 0 0),(13,.msl 1 0 (length v4)),(12,.mpt 0 0 12),(11,.mpt 0 0 12),(10,.mpt 0 0 0),(9,.mpt 0 0 0),(8,.mpt 0 0 0)] 3 (zma ⟨(fun _ _=>⟨_,y,y,bl 3 ti y ti y (by decide) (by decide) y y y<|⟨(.msl 3 0 1),[],[(18,.msl 3 0 1)],y,y,kz,y,zma ⟨nv,(fun _ _=>⟨_,y,y,apM 4 ti y ti y y (by decide) ti y y y y (roX (f:=zf) (z:=[v2]) y y) (fun _=>y) y q2<|⟨(.msl 4 0 (length v7)),[14,13,12],[(22,.mpt 0 0 12),(21,.mpt 0 0 12),(20,.mpt 0 0 0),(19,.msl 4 0 (length v7))],y,y,kz,y,zma ⟨nv,nv,(fun _ _=>⟨_,y,y,sto ti y y y<|⟨.any,[],[],y,y,kz,t,zhW (zo [.old 0,.dead,.old 2,.old 4])⟩⟩),t⟩⟩⟩),nw,t⟩⟩⟩),nw,nw,t⟩) ?_
   exact ⟨v7,h,zo [.old 0,.dead,.old 2,.old 3]⟩
  ·
   replace h:=bF hc1 h
   refine zg ?_
   exact ⟨v4,h,zo [.old 0,.dead,.old 2,.old 1]⟩
 ·
  rintro v8 h
  replace h:zci v3 v8=some r:=h
  unfold zci at h
  obtain ⟨v9,q3,h⟩:=bs h
  refine rdA [(0,.mpt 0 0 0)] [some (15,[(rK v1 v2 v3 (.msl 3 0 (length v9)) (.msl 2 0 (length v5)) (bA v6))]),none,some (1,map zf v5),some (1,map zf v9)] [11,15] [10,9,8,7,6,5,4,3,2,1,0] [(33,.isl 1 (map zf v3.Params)),(32,.mpt 0 0 3),(31,.mpt 0 0 2),(30,.mpt 0 0 0),(29,.mpt 0 0 0),(28,.msl 3 0 (length v8)),(27,.mpt 0 0 12),(26,.mpt 0 0 12),(25,.mpt 0 0 0),(24,.mpt 0 0 0),(23,.mpt 0 0 0)] 2 (zma ⟨(fun _ _=>⟨_,y,y,apM 4 ti y ti y y (by decide) ti y y y y roI (fun _=>y) y q3<|⟨(.msl 4 0 (length v9)),[14,13,12],[(37,.mpt 0 0 12),(36,.mpt 0 0 12),(35,.mpt 0 0 0),(34,.msl 4 0 (length v9))],y,y,kz,y,zma ⟨nv,(fun _ _=>⟨_,y,y,sto ti y y y<|⟨.any,[],[],y,y,kz,t,zhW (zo [.old 0,.dead,.old 2,.old 4])⟩⟩),t⟩⟩⟩),nw,t⟩) ?_
  obtain ⟨o,ho,h⟩:=bs h
  refine zX (X:=T1) (B:=T1) (R:=T1) (fun z=>[(0,.mpt 0 0 0)]) (fun z=>[some (15,[(rK v1 v2 v3 (.msl 3 0 (length z)) (.msl 2 0 (length v5)) (bA v6))]),none,some (1,map zf v5),some (1,map zf z)]) (fun b=>[]) (fun b=>[some (15,[(rK v1 v2 v3 (.msl 3 0 (length b)) (.msl 2 0 (length v5)) (bA v6))]),none,some (1,map zf v5),some (1,map zf b)]) (fun r env st=>zaN Tryz.prog Tryz.f126 3 (.tup []) [some (15,[(rK v1 v2 v3 (.msl 3 0 (length r)) (.msl 2 0 (length v5)) (bA v6))]),none,some (1,map zf v5),some (1,map zf r)] env st) ho (zo [.old 0,.dead,.old 2,.old 3]) ?_ ?_ ?_
  ·
   rintro v12 r h
   replace h:zdz v3 v12=some r:=h
   unfold zdz at h
   refine zi ?_
   refine rdA [(0,.mpt 0 0 0),(49,bA (decide (((length v12):Int)<v3.Locals)))] [some (15,[(rK v1 v2 v3 (.msl 3 0 (length v12)) (.msl 2 0 (length v5)) (bA v6))]),none,some (1,map zf v5),some (1,map zf v12)] [] [11,10,9,8,7,6,5,4,3,2,1,0] [(49,bA (decide (((length v12):Int)<v3.Locals))),(48,iA v3.Locals),(47,.mpt 0 0 7),(46,.mpt 0 0 2),(45,.mpt 0 0 0),(44,.mpt 0 0 0),(43,iA ((length v12):Int)),(42,.msl 3 0 (length v12)),(41,.mpt 0 0 12),(40,.mpt 0 0 12),(39,.mpt 0 0 0),(38,.mpt 0 0 0)] 0 (zht ⟨pe,pe,pe,pe,pe,pe,(pb y (lnM ti y y y w)),pe,pe,pe,pe,pe,t⟩ (zo [.old 0,.dead,.old 2,.old 3])) ?_
   refine ze y (fun hc6=>?_) (fun hc6=>?_)
   ·
    replace h:=bT hc6 h
    refine zg ?_
    refine zr ?_
    obtain ⟨v13,q7,h⟩:=bs h
    refine rl y<|u<|mv y<|u<|mv y<|u<|nc y y<|u<|fa ti y y y<|u<|fa ti y y y<|u<|ld ti y y<|u<|bl 4 ti y ti y (by decide) (by decide) y y y<|u<|apM 5 ti y ti y y (by decide) ti y y y y (roX (f:=zf) (z:=[[84]]) y y) (fun _=>y) y q7<|u<|nc y y<|u<|fa ti y y y<|u<|fa ti y y y<|u<|sto ti y y y<|za ?_
    obtain rfl:=sm h
    exact ⟨_,y,zo [.old 0,.dead,.old 2,.old 5]⟩
   ·
    replace h:=bF hc6 h
    refine zD ?_
    obtain rfl:=sm h
    exact ⟨y,_,y,zo [.old 0,.dead,.old 2,.old 3]⟩
  ·
   rintro v14 rfl
   replace h:zf0 v14=some r:=h
   unfold zf0 at h
   refine zw ?_
   obtain rfl:=sm h
   exact ⟨_,y,zy [.old 0,.dead,.old 2,.old 3]⟩
  ·
   rintro r' rfl env st hp
   obtain rfl:=sm h
   exact hp
def zfV:Option (zas×Bool):=
  some ((zas.mk 0 [] []),false)
def zbv(v3:zd)(v7:Int)(v11:Int):Option (Sum (Int) (Sum (Unit) (zas×Bool))):=
  cond (decide (v11<(length v3.Maps:Int))) ((idx v3.Maps v11).bind fun v12=>cond (v12.At == v7) ((idx v3.Maps v11).bind fun v13=>some (.inr (.inr (v13,true)))) (some (.inl (IntKind.i64.wrap (v11+1))))) (some (.inr (.inl ())))
def zcY(v1:List zb)(v2:T0)(v3:zd)(v4:T1)(v5:T1)(v6:Bool)(v7:Int):Option (zas×Bool):=
  (zu (fun z=>zbv v3 v7 z) 0).bind fun o=>zU o (fun b=>zfV) some
theorem zgh(v1:List zb)(v2:T0)(v3:zd)(v4:T1)(v5:T1)(v6:Bool)(v7:Int){r:zas×Bool}(h:zcY v1 v2 v3 v4 v5 v6 v7=some r):SC Tryz.prog 127 [.mpt 0 0 0,iA v7] [.one 15 (rK v1 v2 v3 (.isl 1 (map zf v4)) (.isl 1 (map zf v5)) (bA v6))] (.tup [.agg (zP r.1),bA r.2]) [.one 15 (rK v1 v2 v3 (.isl 1 (map zf v4)) (.isl 1 (map zf v5)) (bA v6))]:=by
 refine ⟨⟨t,t⟩,zW Tryz.func127 y kz y ?_⟩
 unfold zcY at h
 refine rg y<|u<|al 1 ti y<|u<|asg y<|za ?_
 refine zi ?_
 refine rg y<|u<|asg y<|za ?_
 obtain ⟨o,ho,h⟩:=bs h
 refine zX (X:=Int) (B:=Unit) (R:=zas×Bool) (fun z=>[(0,.mpt 0 0 0),(1,iA v7),(4,.mpt 1 0 0),(6,iA z)]) (fun z=>[some (15,[(rK v1 v2 v3 (.isl 1 (map zf v4)) (.isl 1 (map zf v5)) (bA v6))]),some (3,[[iA 0,.lit (.slice none 0 0),.lit (.slice none 0 0)]])]) (fun b=>[(4,.mpt 1 0 0)]) (fun b=>[some (15,[(rK v1 v2 v3 (.isl 1 (map zf v4)) (.isl 1 (map zf v5)) (bA v6))]),some (3,[[iA 0,.lit (.slice none 0 0),.lit (.slice none 0 0)]])]) (fun r env st=>zaN Tryz.prog Tryz.f127 1 (.tup [.agg (zP r.1),bA r.2]) [some (15,[(rK v1 v2 v3 (.isl 1 (map zf v4)) (.isl 1 (map zf v5)) (bA v6))])] env st) ho (zo [.old 0,.old 1]) ?_ ?_ ?_
 ·
  rintro v11 r h
  replace h:zbv v3 v7 v11=some r:=h
  unfold zbv at h
  refine zi ?_
  refine rg y<|u<|mv y<|u<|mv y<|u<|nc y y<|u<|fa ti y y y<|u<|fa ti y y y<|u<|ld ti y y<|u<|lnI ti y y<|u<|lss ti y y<|za ?_
  refine ze y (fun hc5=>?_) (fun hc5=>?_)
  ·
   replace h:=bT hc5 h
   refine zg ?_
   refine zi ?_
   refine zr ?_
   obtain ⟨v12,q6,h⟩:=bs h
   refine rg y<|u<|mv y<|u<|nc y y<|u<|fa ti y y y<|u<|fa ti y y y<|u<|ld ti y y<|u<|mv y<|u<|ixI ti y ti y y y q6<|u<|fa ti y y y<|u<|ldI ti y (zl q6).2.2 y<|u<|mv y<|u<|eql ti y y<|za ?_
   refine ze y (fun hc7=>?_) (fun hc7=>?_)
   ·
    replace h:=bT hc7 h
    obtain ⟨v13,q8,h⟩:=bs h
    refine rg y<|u<|mv y<|u<|nc y y<|u<|fa ti y y y<|u<|fa ti y y y<|u<|ld ti y y<|u<|mv y<|u<|ixI ti y ti y y y q8<|u<|ldI ti y (zl q8).2.2 y<|u<|sto ti y y y<|u<|asg y<|za ?_
    refine zj ?_
    obtain rfl:=sm h
    exact ⟨_,y,_,y,zy [.old 0]⟩
   ·
    replace h:=bF hc7 h
    refine zg ?_
    refine rl y<|u<|mv y<|u<|add ti y y<|u<|asg y<|za ?_
    obtain rfl:=sm h
    exact ⟨_,y,zo [.old 0,.old 1]⟩
  ·
   replace h:=bF hc5 h
   refine zD ?_
   obtain rfl:=sm h
   exact ⟨y,_,y,zo [.old 0,.old 1]⟩
 ·
  rintro ⟨⟩ rfl
  replace h:zfV=some r:=h
  unfold zfV at h
  refine zw ?_
  refine rg y<|u<|bd ti y y y<|u<|sto ti y y y<|u<|asg y<|za ?_
  refine zj ?_
  obtain rfl:=sm h
  exact ⟨_,y,zy [.old 0]⟩
 ·
  rintro r' rfl env st hp
  obtain rfl:=sm h
  exact hp
def zfE(v16:T1):Option (T1):=
  some v16
def zaX(v1:List zb)(v10:T1)(v11:Int):Option (Sum (T1×Int) (Sum (T1) (T1))):=
  cond (decide (0≤v11)) ((idx v1 v11).bind fun v12=>(zis 16 v10 [v12.Name]).bind fun v13=>(idx v1 v11).bind fun v14=>(zaD v1 v14.Super).bind fun v15=>some (.inl (v13,v15))) (some (.inr (.inl v10)))
def zby(v1:List zb)(v2:T0):Option (T1):=
  (zaD v1 v2).bind fun v3=>(zu (fun z=>zaX v1 z.1 z.2) ([],v3)).bind fun o=>zU o (fun b=>zfE b) some
theorem zcu(v1:List zb)(v2:T0){r:T1}(h:zby v1 v2=some r):SC Tryz.prog 121 [.ipt 1 [[.isl 6 (map zc v1)]] 0 0,sA v2] [] (.msl 0 0 (length r)) [.many 1 (map zf r)]:=by
 refine ⟨⟨zhS (sz:=1) (fun _=>y),t⟩,zW Tryz.func121 y kz y ?_⟩
 unfold zby at h
 refine rg y<|u<|asg y<|za ?_
 refine rg y<|u<|asg y<|za ?_
 refine zi ?_
 obtain ⟨v3,q1,h⟩:=bs h
 refine rg y<|u<|mv y<|u<|mv y<|u<|pc (zV v1 v2 q1) y y y<|u<|asg y<|za ?_
 obtain ⟨o,ho,h⟩:=bs h
 refine zX (X:=T1×Int) (B:=T1) (R:=T1) (fun z=>[(0,.ipt 1 [[.isl 6 (map zc v1)]] 0 0),(5,.msl 0 0 (length z.1)),(6,iA z.2)]) (fun z=>[some (1,map zf z.1)]) (fun b=>[(5,.msl 0 0 (length b))]) (fun b=>[some (1,map zf b)]) (fun r env st=>zaN Tryz.prog Tryz.f121 0 (.msl 0 0 (length r)) [some (1,map zf r)] env st) ho ⟨[.fresh 1],ce y y<|cv y (.nilown y)<|ce y y<|cn,y,⟨w,t⟩,y,k⟩ ?_ ?_ ?_
 ·
  rintro ⟨v10,v11⟩ r h
  replace h:zaX v1 v10 v11=some r:=h
  unfold zaX at h
  refine zi ?_
  refine rg y<|u<|mv y<|u<|geq ti y y<|za ?_
  refine ze y (fun hc7=>?_) (fun hc7=>?_)
  ·
   replace h:=bT hc7 h
   refine zg ?_
   refine zi ?_
   refine zr ?_
   obtain ⟨v12,q8,h⟩:=bs h
   obtain ⟨v13,q9,h⟩:=bs h
   refine rl y<|u<|mv y<|u<|mv y<|u<|nc y y<|u<|fa ti y y y<|u<|ld ti y y<|u<|mv y<|u<|ixI ti y ti y y y q8<|u<|fa ti y y y<|u<|ldI ti y (zl q8).2.2 y<|u<|bl 1 ti y ti y (by decide) (by decide) y y y<|u<|apM 2 ti y ti y y (by decide) ti y y y y (roX (f:=zf) (z:=[v12.Name]) y y) (fun _=>y) y q9<|u<|asg y<|za ?_
   obtain ⟨v14,q10,h⟩:=bs h
   obtain ⟨v15,q11,h⟩:=bs h
   refine rl y<|u<|mv y<|u<|mv y<|u<|nc y y<|u<|fa ti y y y<|u<|ld ti y y<|u<|mv y<|u<|ixI ti y ti y y y q10<|u<|fa ti y y y<|u<|ldI ti y (zl q10).2.2 y<|u<|pc (zV v1 v14.Super q11) y y y<|u<|asg y<|za ?_
   obtain rfl:=sm h
   exact ⟨_,y,zo [.old 2]⟩
  ·
   replace h:=bF hc7 h
   refine zD ?_
   obtain rfl:=sm h
   exact ⟨y,_,y,zo [.old 0]⟩
 ·
  rintro v16 rfl
  replace h:zfE v16=some r:=h
  unfold zfE at h
  refine zw ?_
  refine rg y<|u<|mv y<|u<|asg y<|za ?_
  refine zj ?_
  obtain rfl:=sm h
  exact ⟨_,y,zy [.old 0]⟩
 ·
  rintro r' rfl env st hp
  obtain rfl:=sm h
  exact hp
def zmo:Option (Bool):=
  some false
def zfT(v1:T1)(v2:T0)(v5:Int):Option (Sum (Int) (Sum (Unit) (Bool))):=
  cond (decide (v5<(length v1:Int))) ((idx v1 v5).bind fun v6=>cond (v6 == v2) (some (.inr (.inr true))) (some (.inl (IntKind.i64.wrap (v5+1))))) (some (.inr (.inl ())))
def zjo(v1:T1)(v2:T0):Option (Bool):=
  (zu (fun z=>zfT v1 v2 z) 0).bind fun o=>zU o (fun b=>zmo) some
theorem zhg(v1:T1)(v2:T0){r:Bool}(h:zjo v1 v2=some r):zI Tryz.prog 254 [.isl 1 (map zf v1),sA v2] (bA r):=by
 refine zq Tryz.func254 y kz y y ?_
 unfold zjo at h
 refine rg y<|u<|asg y<|za ?_
 refine zi ?_
 refine rg y<|u<|asg y<|za ?_
 obtain ⟨o,ho,h⟩:=bs h
 refine zX (X:=Int) (B:=Unit) (R:=Bool) (fun z=>[(0,.isl 1 (map zf v1)),(1,sA v2),(5,iA z)]) (fun z=>[]) (fun b=>[]) (fun b=>[]) (fun r env st=>zaN Tryz.prog Tryz.f254 0 (bA r) [] env st) ho (zo []) ?_ ?_ ?_
 ·
  rintro v5 r h
  replace h:zfT v1 v2 v5=some r:=h
  unfold zfT at h
  refine zi ?_
  refine rg y<|u<|mv y<|u<|mv y<|u<|lnI ti y y<|u<|lss ti y y<|za ?_
  refine ze y (fun hc4=>?_) (fun hc4=>?_)
  ·
   replace h:=bT hc4 h
   refine zg ?_
   refine zi ?_
   refine zr ?_
   obtain ⟨v6,q5,h⟩:=bs h
   refine rg y<|u<|mv y<|u<|mv y<|u<|ixI ti y ti y y y q5<|u<|ldI ti y (zl q5).2.2 y<|u<|mv y<|u<|seq ti y y<|za ?_
   refine ze y (fun hc6=>?_) (fun hc6=>?_)
   ·
    replace h:=bT hc6 h
    refine rg y<|u<|asg y<|za ?_
    refine zj ?_
    obtain rfl:=sm h
    exact ⟨_,y,_,y,zy []⟩
   ·
    replace h:=bF hc6 h
    refine zg ?_
    refine rl y<|u<|mv y<|u<|add ti y y<|u<|asg y<|za ?_
    obtain rfl:=sm h
    exact ⟨_,y,zo []⟩
  ·
   replace h:=bF hc4 h
   refine zD ?_
   obtain rfl:=sm h
   exact ⟨y,_,y,zo []⟩
 ·
  rintro ⟨⟩ rfl
  replace h:zmo=some r:=h
  unfold zmo at h
  refine zw ?_
  refine rg y<|u<|asg y<|za ?_
  refine zj ?_
  obtain rfl:=sm h
  exact ⟨_,y,zy []⟩
 ·
  rintro r' rfl env st hp
  obtain rfl:=sm h
  exact hp
def zib(v1:T1)(v2:T0)(v9:Int):Option (T1):=
  (zj6 v1 0 v9).bind fun v10=>(zis 16 ([]:T1) v10).bind fun v11=>(zj6 v1 v9 (length v1:Int)).bind fun v12=>(zis 16 v11 [v2]).bind fun v13=>(zis 16 v13 v12).bind fun v14=>some v14
def zcS(v1:T1)(v2:T0)(v6:Int):Option (Sum (Int) (Sum (Int) (T1))):=
  (cond (decide (v6<(length v1:Int))) ((idx v1 v6).bind fun v7=>some (Op.bytesLess v7 v2)) (some false)).bind fun v8=>cond v8 (some (.inl (IntKind.i64.wrap (v6+1)))) (some (.inr (.inl v6)))
def zi0(v1:T1)(v2:T0):Option (T1):=
  (zu (fun z=>zcS v1 v2 z) 0).bind fun o=>zU o (fun b=>zib v1 v2 b) some
theorem zqe(v1:T1)(v2:T0){r:T1}(h:zi0 v1 v2=some r):SC Tryz.prog 266 [.isl 1 (map zf v1),sA v2] [] (.msl 0 0 (length r)) [.many 1 (map zf r)]:=by
 refine ⟨⟨zhS (sz:=1) (fun _=>y),t⟩,zW Tryz.func266 y kz y ?_⟩
 unfold zi0 at h
 refine rg y<|u<|asg y<|za ?_
 refine rg y<|u<|asg y<|za ?_
 obtain ⟨o,ho,h⟩:=bs h
 refine zyM (X:=Int) (B:=Int) (R:=T1) (fun z=>[(0,.isl 1 (map zf v1)),(1,sA v2),(5,iA z)]) (fun z=>[]) (fun b=>[(0,.isl 1 (map zf v1)),(1,sA v2),(5,iA b)]) (fun b=>[]) (fun r env st=>zaN Tryz.prog Tryz.f266 0 (.msl 0 0 (length r)) [some (1,map zf r)] env st) ho (zo []) ?_ ?_ ?_
 ·
  rintro v6 r h
  replace h:zcS v1 v2 v6=some r:=h
  unfold zcS at h
  refine zi ?_
  obtain ⟨v8,q7,h⟩:=bs h
  refine rg y<|u<|mv y<|u<|mv y<|u<|lnI ti y y<|u<|lss ti y y<|u<|mv y<|z7 (x:=v8) (j:=4) 6 y y y y y gpn (fun hb5=>by replace q7:=bT hb5 q7;obtain ⟨v7,q6,q7⟩:=bs q7;obtain rfl:=sm q7;exact g y hb5<|mv y<|g y hb5<|mv y<|g y hb5<|ixI ti y ti y y y q6<|g y hb5<|ldI ti y (zl q6).2.2 y<|g y hb5<|mv y<|g y hb5<|slt ti y y<|za (eg [12,13,14,15,16,17] 6 y y y y)) (fun hb=>(sm (bF hb q7)).symm)<|za ?_
  refine ze y (fun hc8=>?_) (fun hc8=>?_)
  ·
   replace h:=bT hc8 h
   refine zg ?_
   refine zr ?_
   refine rl y<|u<|mv y<|u<|add ti y y<|u<|asg y<|za ?_
   obtain rfl:=sm h
   exact ⟨_,y,zo []⟩
  ·
   replace h:=bF hc8 h
   refine zD ?_
   obtain rfl:=sm h
   exact ⟨y,_,y,zo []⟩
 ·
  rintro v9 rfl
  replace h:zib v1 v2 v9=some r:=h
  unfold zib at h
  obtain ⟨v10,q9,h⟩:=bs h
  obtain ⟨v11,q10,h⟩:=bs h
  refine rg y<|u<|mv y<|u<|mv y<|u<|slI (a:=0) (b:=v9) ti y ti y y y (zon y q9) q9<|u<|apN (f:=zf) 0 ti y ti y y (by decide) ti y y y roI (fun _=>y) y q10<|u<|asg y<|za ?_
  obtain ⟨v12,q11,h⟩:=bs h
  obtain ⟨v13,q12,h⟩:=bs h
  obtain ⟨v14,q13,h⟩:=bs h
  refine rdA [(4,.msl 0 0 (length v14))] [some (1,map zf v14)] [2,3,7] [6,5,4,1,0] [(31,.isl 1 (map zf v12)),(30,iA v9),(29,.isl 1 (map zf v1)),(26,sA v2),(25,.msl 0 0 (length v11))] 3 (zem ⟨(pb y (slI (a:=v9) (b:=(length v1:Int)) ti y ti y y (zml y q11) y q11 w)),pe,pe,pe,pe,t⟩ ⟨(fun _ _=>⟨_,y,y,bl 1 ti y ti y (by decide) (by decide) y y y<|⟨(.msl 1 0 1),[],[(27,.msl 1 0 1)],y,y,kz,y,zem ⟨(pb y (slI (a:=v9) (b:=(length v1:Int)) ti y ti y y (zml y q11) y q11 w)),pe,pe,pe,pe,t⟩ ⟨nv,(fun _ _=>⟨_,y,y,apM 2 ti y ti y y (by decide) ti y y y y (roX (f:=zf) (z:=[v2]) y y) (fun _=>y) y q12<|⟨(.msl 2 0 (length v13)),[],[(28,.msl 2 0 (length v13))],y,y,kz,y,zem ⟨(pb y (slI (a:=v9) (b:=(length v1:Int)) ti y ti y y (zml y q11) y q11 w)),pe,pe,pe,pe,t⟩ ⟨nv,nv,(fun _ _=>⟨_,y,y,apM 3 ti y ti y y (by decide) ti y y y y roI (fun _=>y) y q13<|⟨(.msl 3 0 (length v14)),[8],[(4,.msl 3 0 (length v14)),(32,.msl 3 0 (length v14))],y,y,kz,y,zhW (zo [.old 3])⟩⟩),t⟩⟩⟩),nw,t⟩⟩⟩),nw,nw,t⟩) ?_
  refine zj ?_
  obtain rfl:=sm h
  exact ⟨_,y,zy [.old 0]⟩
 ·
  rintro r' rfl env st hp
  obtain rfl:=sm h
  exact hp
def zhe(v146:T1):Option (T1):=
  some v146
def zdm(v141:Int)(v145:T1):Option (Sum (T1×Int) (Sum (T1) (T1))):=
  some (.inl (v145,(IntKind.i64.wrap (v141+1))))
def zaU(v1:List zb)(v133:List Bool)(v140:T1)(v141:Int):Option (Sum (T1×Int) (Sum (T1) (T1))):=
  cond (decide (v141<(length v1:Int))) ((idx v133 v141).bind fun v142=>cond v142 ((idx v1 v141).bind fun v143=>(zi0 v140 v143.Name).bind fun v144=>zdm v141 v144) (zdm v141 v140)) (some (.inr (.inl v140)))
def zfc(v1:List zb)(v133:List Bool):Option (T1):=
  (zu (fun z=>zaU v1 v133 z.1 z.2) ([],0)).bind fun o=>zU o (fun b=>zhe b) some
def zhb(v131:List Bool)(v132:Bool):Option (Sum ((List Bool)×Bool) (Sum ((List Bool)) (T1))):=
  some (.inl (v131,v132))
def zdk(v104:Int)(v129:List Bool)(v130:Bool):Option (Sum ((List Bool)×Bool×Int) (Sum ((List Bool)×Bool) (T1))):=
  some (.inl (v129,v130,(IntKind.i64.wrap (v104+1))))
def zff(v104:Int)(v127:List Bool)(v128:Bool):Option (Sum ((List Bool)×Bool×Int) (Sum ((List Bool)×Bool) (T1))):=
  zdk v104 v127 v128
def zdn(v120:Int)(v125:List Bool)(v126:Bool):Option (Sum ((List Bool)×Bool×Int) (Sum ((List Bool)×Bool) (T1))):=
  some (.inl (v125,v126,(IntKind.i64.wrap (v120+1))))
def zch(v1:List zb)(v105:zb)(v118:List Bool)(v119:Bool)(v120:Int):Option (Sum ((List Bool)×Bool×Int) (Sum ((List Bool)×Bool) (T1))):=
  cond (decide (v120<(length v105.Impl:Int))) ((idx v105.Impl v120).bind fun v121=>(zaD v1 v121).bind fun v122=>(idx v118 v122).bind fun v123=>cond (!v123) ((idx v118 v122).bind fun v124=>zdn v120 (List.set v118 (Int.toNat v122) true) true) (zdn v120 v118 v119)) (some (.inr (.inl (v118,v119))))
def zb5(v1:List zb)(v8:T1)(v102:List Bool)(v103:Bool)(v104:Int):Option (Sum ((List Bool)×Bool×Int) (Sum ((List Bool)×Bool) (T1))):=
  cond (decide (v104<(length v1:Int))) ((idx v1 v104).bind fun v105=>(idx v102 v104).bind fun v106=>(cond (!v106) ((zjo v8 v105.Name).bind fun v107=>some (!v107)) (some false)).bind fun v108=>cond v108 (zdk v104 v102 v103) ((zu (fun z=>zch v1 v105 z.1 z.2.1 z.2.2) (v102,v103,0)).bind fun o=>zU o (fun b=>zff v104 b.1 b.2) (fun r=>some (.inr (.inr r))))) (some (.inr (.inl (v102,v103))))
def zdq(v1:List zb)(v8:T1)(v71:List Bool)(v72:Bool):Option (Sum ((List Bool)×Bool) (Sum ((List Bool)) (T1))):=
  cond v72 ((zu (fun z=>zb5 v1 v8 z.1 z.2.1 z.2.2) (v71,false,0)).bind fun o=>zU o (fun b=>zhb b.1 b.2) (fun r=>some (.inr (.inr r)))) (some (.inr (.inl v71)))
def zcW(v1:List zb)(v2:T0)(v7:List Bool):Option (T1):=
  (zby v1 v2).bind fun v8=>(zu (fun z=>zdq v1 v8 z.1 z.2) (v7,true)).bind fun o=>zU o (fun b=>zfc v1 b) some
def zeQ(v1:List zb)(v2:T0):Option (T1):=
  (mkP 1 (length v1:Int)).bind fun v3=>(zaD v1 v2).bind fun v4=>cond (decide (v4<0)) (some []) ((idx v1 v4).bind fun v5=>cond v5.Interface ((idx (List.replicate v3 false) v4).bind fun v6=>zcW v1 v2 (List.set (List.replicate v3 false) (Int.toNat v4) true)) (zcW v1 v2 (List.replicate v3 false)))
theorem zjt(v1:List zb)(v2:T0){r:T1}(h:zeQ v1 v2=some r):SC Tryz.prog 230 [.ipt 1 [[.isl 6 (map zc v1)]] 0 0,sA v2] [] (.msl 0 0 (length r)) [.many 1 (map zf r)]:=by
 refine ⟨⟨zhS (sz:=1) (fun _=>y),t⟩,zW Tryz.func230 y kz y ?_⟩
 unfold zeQ at h
 refine rg y<|u<|asg y<|za ?_
 obtain ⟨v3,q1,h⟩:=bs h
 refine rg y<|u<|mv y<|u<|nc y y<|u<|fa ti y y y<|u<|ld ti y y<|u<|lnI ti y y<|u<|mks (f:=rB) (z:=false) 0 ti y ti y y y y y y q1<|u<|asg y<|za ?_
 obtain ⟨v4,q2,h⟩:=bs h
 refine rg y<|u<|mv y<|u<|mv y<|u<|pc (zV v1 v2 q2) y y y<|u<|asg y<|za ?_
 refine zi ?_
 refine rg y<|u<|mv y<|u<|lss ti y y<|za ?_
 refine ze y (fun hc3=>?_) (fun hc3=>?_)
 ·
  replace h:=bT hc3 h
  refine rg y<|u<|asg y<|za ?_
  refine zj ?_
  obtain rfl:=sm h
  exact ⟨_,y,[.fresh 1],.nilown y,y,⟨w,t⟩,y,k⟩
 ·
  replace h:=bF hc3 h
  refine zg ?_
  refine za6 (X:=(List Bool)) (fun z=>[(0,.ipt 1 [[.isl 6 (map zc v1)]] 0 0),(1,sA v2),(5,.msl 0 0 (length z))]) (fun z=>[some (1,map rB z)]) (fun z=>zcW v1 v2 z=some r) ?_ ?_
  ·
   obtain ⟨v5,q4,h⟩:=bs h
   refine rg y<|u<|mv y<|u<|nc y y<|u<|fa ti y y y<|u<|ld ti y y<|u<|mv y<|u<|ixI ti y ti y y y q4<|u<|fa ti y y y<|u<|ldI ti y (zl q4).2.2 y<|za ?_
   refine ze y (fun hc5=>?_) (fun hc5=>?_)
   ·
    replace h:=bT hc5 h
    obtain ⟨v6,q6,h⟩:=bs h
    exact rl y<|u<|mv y<|u<|mv y<|u<|ixM ti y ti y y y y q6<|u<|zBR (c':=true) ti y y (zl q6).2.2 y y y y y<|za (⟨(List.set (List.replicate v3 false) (Int.toNat v4) true),h,[.old 0],ce y y<|ce y y<|cv y (zBK (by simp) y)<|cn,y,⟨⟨_,y,zjN (fun _=>y)⟩,t⟩,y,k⟩)
   ·
    replace h:=bF hc5 h
    refine zg ?_
    exact ⟨(List.replicate v3 false),h,zo [.old 0]⟩
  ·
   rintro v7 h
   replace h:zcW v1 v2 v7=some r:=h
   unfold zcW at h
   obtain ⟨v8,q7,h⟩:=bs h
   refine rg y<|u<|mv y<|u<|mv y<|u<|sx [] (zcu v1 v2 q7)<|zx (env0:=[(0,.ipt 1 [[.isl 6 (map zc v1)]] 0 0),(5,.msl 0 0 (length v7)),(39,.msl 1 0 (length v8))]) (st0:=[some (1,map rB v7),some (1,map zf v8)]) (zo [.old 0,.old 1])<|u<|asg y<|za ?_
   refine zi ?_
   refine rg y<|u<|asg y<|za ?_
   obtain ⟨o,ho,h⟩:=bs h
   refine zX (X:=(List Bool)×Bool) (B:=(List Bool)) (R:=T1) (fun z=>[(0,.ipt 1 [[.isl 6 (map zc v1)]] 0 0),(5,.msl 0 0 (length z.1)),(7,.msl 1 0 (length v8)),(8,bA z.2)]) (fun z=>[some (1,map rB z.1),some (1,map zf v8)]) (fun b=>[(0,.ipt 1 [[.isl 6 (map zc v1)]] 0 0),(5,.msl 0 0 (length b))]) (fun b=>[some (1,map rB b)]) (fun r env st=>zaN Tryz.prog Tryz.f230 0 (.msl 0 0 (length r)) [some (1,map zf r)] env st) ho (zo [.old 0,.old 1]) ?_ ?_ ?_
   ·
    rintro ⟨v71,v72⟩ r h
    replace h:zdq v1 v8 v71 v72=some r:=h
    unfold zdq at h
    refine zi ?_
    refine rg y<|u<|mv y<|za ?_
    refine ze y (fun hc46=>?_) (fun hc46=>?_)
    ·
     replace h:=bT hc46 h
     refine zg ?_
     refine zr ?_
     refine rg y<|u<|asg y<|za ?_
     refine rg y<|u<|asg y<|za ?_
     obtain ⟨o,ho,h⟩:=bs h
     refine zX (X:=(List Bool)×Bool×Int) (B:=(List Bool)×Bool) (R:=T1) (fun z=>[(0,.ipt 1 [[.isl 6 (map zc v1)]] 0 0),(5,.msl 0 0 (length z.1)),(7,.msl 1 0 (length v8)),(8,bA z.2.1),(9,iA z.2.2)]) (fun z=>[some (1,map rB z.1),some (1,map zf v8)]) (fun b=>[(0,.ipt 1 [[.isl 6 (map zc v1)]] 0 0),(5,.msl 0 0 (length b.1)),(7,.msl 1 0 (length v8)),(8,bA b.2)]) (fun b=>[some (1,map rB b.1),some (1,map zf v8)]) (fun r env st=>zaN Tryz.prog Tryz.f230 0 (.msl 0 0 (length r)) [some (1,map zf r)] env st) ho (zo [.old 0,.old 1]) ?_ ?_ ?_
     ·
      rintro ⟨v102,v103,v104⟩ r h
      replace h:zb5 v1 v8 v102 v103 v104=some r:=h
      unfold zb5 at h
      refine zi ?_
      refine rg y<|u<|mv y<|u<|mv y<|u<|nc y y<|u<|fa ti y y y<|u<|ld ti y y<|u<|lnI ti y y<|u<|lss ti y y<|za ?_
      refine ze y (fun hc66=>?_) (fun hc66=>?_)
      ·
       replace h:=bT hc66 h
       refine zg ?_
       refine za6 (X:=(List Bool)×Bool) (fun z=>[(0,.ipt 1 [[.isl 6 (map zc v1)]] 0 0),(5,.msl 0 0 (length z.1)),(7,.msl 1 0 (length v8)),(8,bA z.2),(9,iA v104)]) (fun z=>[some (1,map rB z.1),some (1,map zf v8)]) (fun z=>zdk v104 z.1 z.2=some r) ?_ ?_
       ·
        refine zr ?_
        obtain ⟨v105,q67,h⟩:=bs h
        refine rg y<|u<|mv y<|u<|nc y y<|u<|fa ti y y y<|u<|ld ti y y<|u<|mv y<|u<|ixI ti y ti y y y q67<|u<|ldI ti y (zl q67).2.2 y<|u<|al 2 ti y<|u<|sto ti y y y<|za ?_
        refine zi ?_
        obtain ⟨v106,q68,h⟩:=bs h
        obtain ⟨v108,q71,h⟩:=bs h
        refine rg y<|u<|mv y<|u<|mv y<|u<|ixM ti y ti y y y y q68<|u<|ldM ti y y (zl q68).2.2 y<|u<|nt y<|u<|mv y<|z7 (x:=v108) (j:=5) 5 y y y y y gpn (fun hb69=>by replace q71:=bT hb69 q71;obtain ⟨v107,q70,q71⟩:=bs q71;obtain rfl:=sm q71;exact g y hb69<|mv y<|g y hb69<|fa ti y y y<|g y hb69<|ld ti y y<|g y hb69<|pcs (zhg v8 v105.Name q70) y y (.cons (zhU y (fun _=>y)) (.cons (si y) .nil)) zcD<|g y hb69<|nt y<|za (eg [63,64,65,66,67] 5 y y y y)) (fun hb=>(sm (bF hb q71)).symm)<|za ?_
        refine ze y (fun hc72=>?_) (fun hc72=>?_)
        ·
         replace h:=bT hc72 h
         refine zD ?_
         exact ⟨⟨v102,v103⟩,h,zo [.old 0,.old 1]⟩
        ·
         replace h:=bF hc72 h
         refine zg ?_
         refine rg y<|u<|asg y<|za ?_
         obtain ⟨o,ho,h⟩:=bs h
         refine zX (X:=(List Bool)×Bool×Int) (B:=(List Bool)×Bool) (R:=T1) (fun z=>[(0,.ipt 1 [[.isl 6 (map zc v1)]] 0 0),(5,.msl 0 0 (length z.1)),(7,.msl 1 0 (length v8)),(8,bA z.2.1),(9,iA v104),(10,.mpt 2 0 0),(11,iA z.2.2)]) (fun z=>[some (1,map rB z.1),some (1,map zf v8),some (6,[(zc v105)])]) (fun b=>[(0,.ipt 1 [[.isl 6 (map zc v1)]] 0 0),(5,.msl 0 0 (length b.1)),(7,.msl 1 0 (length v8)),(8,bA b.2),(9,iA v104)]) (fun b=>[some (1,map rB b.1),some (1,map zf v8)]) (fun r env st=>zaN Tryz.prog Tryz.f230 0 (.msl 0 0 (length r)) [some (1,map zf r)] env st) ho (zo [.old 0,.old 1,.old 2]) ?_ ?_ ?_
         ·
          rintro ⟨v118,v119,v120⟩ r h
          replace h:zch v1 v105 v118 v119 v120=some r:=h
          unfold zch at h
          refine zi ?_
          refine rg y<|u<|mv y<|u<|fa ti y y y<|u<|ld ti y y<|u<|lnI ti y y<|u<|lss ti y y<|za ?_
          refine ze y (fun hc79=>?_) (fun hc79=>?_)
          ·
           replace h:=bT hc79 h
           refine zg ?_
           refine za6 (X:=(List Bool)×Bool) (fun z=>[(0,.ipt 1 [[.isl 6 (map zc v1)]] 0 0),(5,.msl 0 0 (length z.1)),(7,.msl 1 0 (length v8)),(8,bA z.2),(9,iA v104),(10,.mpt 2 0 0),(11,iA v120)]) (fun z=>[some (1,map rB z.1),some (1,map zf v8),some (6,[(zc v105)])]) (fun z=>zdn v120 z.1 z.2=some r) ?_ ?_
           ·
            refine zr ?_
            obtain ⟨v121,q80,h⟩:=bs h
            obtain ⟨v122,q81,h⟩:=bs h
            refine rg y<|u<|mv y<|u<|fa ti y y y<|u<|ld ti y y<|u<|mv y<|u<|ixI ti y ti y y y q80<|u<|ldI ti y (zl q80).2.2 y<|u<|pc (zV v1 v121 q81) y y y<|u<|asg y<|za ?_
            obtain ⟨v123,q82,h⟩:=bs h
            refine rg y<|u<|mv y<|u<|mv y<|u<|ixM ti y ti y y y y q82<|u<|ldM ti y y (zl q82).2.2 y<|u<|nt y<|za ?_
            refine ze y (fun hc83=>?_) (fun hc83=>?_)
            ·
             replace h:=bT hc83 h
             obtain ⟨v124,q84,h⟩:=bs h
             exact rl y<|u<|mv y<|u<|mv y<|u<|ixM ti y ti y y y y q84<|u<|zBR (c':=true) ti y y (zl q84).2.2 y y y y y<|u<|asg y<|za (⟨⟨(List.set v118 (Int.toNat v122) true),true⟩,h,[.old 0,.old 1,.old 2],ce y y<|cv y (zBK (by simp) y)<|cv y (.msl y)<|ce y y<|ce y y<|cv y (.mpt y)<|ce y y<|cn,y,⟨⟨_,y,zjN (fun _=>y)⟩,⟨_,y,zjN (fun _=>y)⟩,⟨_,y,ziB (ciL y)⟩,t⟩,y,k⟩)
            ·
             replace h:=bF hc83 h
             refine zg ?_
             exact ⟨⟨v118,v119⟩,h,zo [.old 0,.old 1,.old 2]⟩
           ·
            rintro ⟨v125,v126⟩ h
            replace h:zdn v120 v125 v126=some r:=h
            unfold zdn at h
            refine rl y<|u<|mv y<|u<|add ti y y<|u<|asg y<|za ?_
            obtain rfl:=sm h
            exact ⟨_,y,zo [.old 0,.old 1,.old 2]⟩
          ·
           replace h:=bF hc79 h
           refine zD ?_
           obtain rfl:=sm h
           exact ⟨y,_,y,zo [.old 0,.old 1]⟩
         ·
          rintro ⟨v127,v128⟩ rfl
          replace h:zff v104 v127 v128=some r:=h
          unfold zff at h
          refine zw ?_
          exact ⟨⟨v127,v128⟩,h,zo [.old 0,.old 1]⟩
         ·
          rintro r' rfl env st hp
          obtain rfl:=sm h
          exact ⟨_,y,hp⟩
       ·
        rintro ⟨v129,v130⟩ h
        replace h:zdk v104 v129 v130=some r:=h
        unfold zdk at h
        refine rl y<|u<|mv y<|u<|add ti y y<|u<|asg y<|za ?_
        obtain rfl:=sm h
        exact ⟨_,y,zo [.old 0,.old 1]⟩
      ·
       replace h:=bF hc66 h
       refine zD ?_
       obtain rfl:=sm h
       exact ⟨y,_,y,zo [.old 0,.old 1]⟩
     ·
      rintro ⟨v131,v132⟩ rfl
      replace h:zhb v131 v132=some r:=h
      unfold zhb at h
      refine zw ?_
      obtain rfl:=sm h
      exact ⟨_,y,zo [.old 0,.old 1]⟩
     ·
      rintro r' rfl env st hp
      obtain rfl:=sm h
      exact ⟨_,y,hp⟩
    ·
     replace h:=bF hc46 h
     refine zD ?_
     obtain rfl:=sm h
     exact ⟨y,_,y,zo [.old 0]⟩
   ·
    rintro v133 rfl
    replace h:zfc v1 v133=some r:=h
    unfold zfc at h
    refine zw ?_
    refine rg y<|u<|asg y<|za ?_
    refine zi ?_
    refine rg y<|u<|asg y<|za ?_
    obtain ⟨o,ho,h⟩:=bs h
    refine zX (X:=T1×Int) (B:=T1) (R:=T1) (fun z=>[(0,.ipt 1 [[.isl 6 (map zc v1)]] 0 0),(5,.msl 0 0 (length v133)),(13,.msl 1 0 (length z.1)),(14,iA z.2)]) (fun z=>[some (1,map rB v133),some (1,map zf z.1)]) (fun b=>[(13,.msl 0 0 (length b))]) (fun b=>[some (1,map zf b)]) (fun r env st=>zaN Tryz.prog Tryz.f230 0 (.msl 0 0 (length r)) [some (1,map zf r)] env st) ho ⟨[.old 0,.fresh 1],ce y y<|cv y (.msl y)<|cv y (.nilown y)<|ce y y<|cn,y,⟨⟨_,y,zjN (fun _=>y)⟩,w,t⟩,y,k⟩ ?_ ?_ ?_
    ·
     rintro ⟨v140,v141⟩ r h
     replace h:zaU v1 v133 v140 v141=some r:=h
     unfold zaU at h
     refine zi ?_
     refine rg y<|u<|mv y<|u<|mv y<|u<|nc y y<|u<|fa ti y y y<|u<|ld ti y y<|u<|lnI ti y y<|u<|lss ti y y<|za ?_
     refine ze y (fun hc90=>?_) (fun hc90=>?_)
     ·
      replace h:=bT hc90 h
      refine zg ?_
      refine za6 (X:=T1) (fun z=>[(0,.ipt 1 [[.isl 6 (map zc v1)]] 0 0),(5,.msl 0 0 (length v133)),(13,.msl 1 0 (length z)),(14,iA v141)]) (fun z=>[some (1,map rB v133),some (1,map zf z)]) (fun z=>zdm v141 z=some r) ?_ ?_
      ·
       refine zr ?_
       obtain ⟨v142,q91,h⟩:=bs h
       refine rg y<|u<|mv y<|u<|mv y<|u<|ixM ti y ti y y y y q91<|u<|ldM ti y y (zl q91).2.2 y<|za ?_
       refine ze y (fun hc92=>?_) (fun hc92=>?_)
       ·
        replace h:=bT hc92 h
        obtain ⟨v143,q93,h⟩:=bs h
        obtain ⟨v144,q94,h⟩:=bs h
        exact rl y<|u<|mv y<|u<|mv y<|u<|nc y y<|u<|fa ti y y y<|u<|ld ti y y<|u<|mv y<|u<|ixI ti y ti y y y q93<|u<|fa ti y y y<|u<|ldI ti y (zl q93).2.2 y<|zx (env0:=[(0,.ipt 1 [[.isl 6 (map zc v1)]] 0 0),(5,.msl 0 0 (length v133)),(14,iA v141),(104,.isl 1 (map zf v140)),(112,sA v143.Name)]) (st0:=[some (1,map rB v133)]) (zo [.old 0])<|u<|sx [] (zqe v140 v143.Name q94)<|zx (env0:=[(0,.ipt 1 [[.isl 6 (map zc v1)]] 0 0),(5,.msl 0 0 (length v133)),(14,iA v141),(113,.msl 1 0 (length v144))]) (st0:=[some (1,map rB v133),some (1,map zf v144)]) (zo [.old 0,.old 1])<|u<|asg y<|za (⟨v144,h,zo [.old 0,.old 1]⟩)
       ·
        replace h:=bF hc92 h
        refine zg ?_
        exact ⟨v140,h,zo [.old 0,.old 1]⟩
      ·
       rintro v145 h
       replace h:zdm v141 v145=some r:=h
       unfold zdm at h
       refine rl y<|u<|mv y<|u<|add ti y y<|u<|asg y<|za ?_
       obtain rfl:=sm h
       exact ⟨_,y,zo [.old 0,.old 1]⟩
     ·
      replace h:=bF hc90 h
      refine zD ?_
      obtain rfl:=sm h
      exact ⟨y,_,y,zo [.old 1]⟩
    ·
     rintro v146 rfl
     replace h:zhe v146=some r:=h
     unfold zhe at h
     refine zw ?_
     refine rg y<|u<|mv y<|u<|asg y<|za ?_
     refine zj ?_
     obtain rfl:=sm h
     exact ⟨_,y,zy [.old 0]⟩
    ·
     rintro r' rfl env st hp
     obtain rfl:=sm h
     exact hp
   ·
    rintro r' rfl env st hp
    obtain rfl:=sm h
    exact hp
def zb1(v0:((List zb)×T0×T0→Option Bool))(v1:List zb)(v2:T0)(v3:T0):Option (Bool):=
  (z1 v1 v2).bind fun v4=>(cond (!v4) (some true) ((z1 v1 v3).bind fun v5=>some (!v5))).bind fun v6=>cond v6 (some false) (cond (v2 == v3) (some true) ((ziq v2).bind fun v7=>(ziq v3).bind fun v8=>cond ((v7.2 == (0:Int))&&(v8.2 == (0:Int))) ((cond ((!(v7.1 == [73]))&&(!(v8.1 == [73]))) ((zby v1 v7.1).bind fun v9=>(zjo v9 v8.1).bind fun v10=>(cond v10 (some true) ((zeQ v1 v7.1).bind fun v11=>(zjo v11 v8.1).bind fun v12=>some v12)).bind fun v13=>some v13) (some false)).bind fun v14=>some v14) (cond (v8.2 == (0:Int)) (some (v8.1 == [79,98,106,101,99,116])) (cond (v7.2 == (0:Int)) (some false) ((zj6 v2 1 (length v2:Int)).bind fun v15=>(zj6 v3 1 (length v3:Int)).bind fun v16=>(cond ((!(v15 == [73]))&&(!(v16 == [73]))) ((v0 (v1,v15,v16)).bind fun v17=>some v17) (some false)).bind fun v18=>some v18)))))
theorem zlw(v0:((List zb)×T0×T0→Option Bool))(hrec:∀z r,v0 z=some r→zI Tryz.prog 202 [.ipt 1 [[.isl 6 (map zc z.1)]] 0 0,sA z.2.1,sA z.2.2] (bA r))(v1:List zb)(v2:T0)(v3:T0){r:Bool}(h:zb1 v0 v1 v2 v3=some r):zI Tryz.prog 202 [.ipt 1 [[.isl 6 (map zc v1)]] 0 0,sA v2,sA v3] (bA r):=by
 refine zq Tryz.func202 y kz y y ?_
 unfold zb1 at h
 refine rg y<|u<|asg y<|za ?_
 refine zi ?_
 obtain ⟨v4,q1,h⟩:=bs h
 obtain ⟨v6,q4,h⟩:=bs h
 refine rg y<|u<|mv y<|u<|mv y<|u<|pc (zab v1 v2 q1) y y y<|u<|nt y<|u<|mv y<|zdj (x:=v6) (j:=4) 4 y y y y y gpn (fun hb2=>by replace q4:=bF hb2 q4;obtain ⟨v5,q3,q4⟩:=bs q4;obtain rfl:=sm q4;exact g y hb2<|mv y<|g y hb2<|mv y<|g y hb2<|pc (zab v1 v3 q3) y y y<|g y hb2<|nt y<|za (eg [18,19,20,21] 4 y y y y)) (fun hb=>(sm (bT hb q4)).symm)<|za ?_
 refine ze y (fun hc5=>?_) (fun hc5=>?_)
 ·
  replace h:=bT hc5 h
  refine rg y<|u<|asg y<|za ?_
  refine zj ?_
  obtain rfl:=sm h
  exact ⟨_,y,zy []⟩
 ·
  replace h:=bF hc5 h
  refine zg ?_
  refine zi ?_
  refine rg y<|u<|mv y<|u<|mv y<|u<|seq ti y y<|za ?_
  refine ze y (fun hc6=>?_) (fun hc6=>?_)
  ·
   replace h:=bT hc6 h
   refine rg y<|u<|asg y<|za ?_
   refine zj ?_
   obtain rfl:=sm h
   exact ⟨_,y,zy []⟩
  ·
   replace h:=bF hc6 h
   refine zg ?_
   obtain ⟨v7,q7,h⟩:=bs h
   refine rg y<|u<|mv y<|u<|pc (zk9 v2 q7) y y y<|u<|mv y<|u<|ex y y<|u<|ex y y<|u<|asg y<|u<|asg y<|za ?_
   obtain ⟨v8,q8,h⟩:=bs h
   refine rg y<|u<|mv y<|u<|pc (zk9 v3 q8) y y y<|u<|mv y<|u<|ex y y<|u<|ex y y<|u<|asg y<|u<|asg y<|za ?_
   refine zi ?_
   refine zr ?_
   refine rg y<|u<|mv y<|u<|eql ti y y<|u<|mv y<|z7 (j:=2) 2 y y y y y gpn (fun hb9=>g y hb9<|mv y<|g y hb9<|eql ti y y<|za (egA [40,41] 2 hb9 y y y y)) ze2<|u<|asg y<|za ?_
   refine ze y (fun hc10=>?_) (fun hc10=>?_)
   ·
    replace h:=bT hc10 h
    obtain ⟨v14,q19,h⟩:=bs h
    refine rg y<|u<|mv y<|u<|sne ti y y<|u<|mv y<|z7 (j:=2) 2 y y y y y gpn (fun hb11=>g y hb11<|mv y<|g y hb11<|sne ti y y<|za (egA [46,47] 2 hb11 y y y y)) ze2<|u<|mv y<|zBo (x:=v14) (j:=6) 12 2 y y y y y gpn (fun hb12=>by replace q19:=bT hb12 q19;obtain ⟨v9,q13,q19⟩:=bs q19;obtain ⟨v10,q14,q19⟩:=bs q19;obtain ⟨v13,q18,q19⟩:=bs q19;obtain rfl:=sm q19;exact g y hb12<|mv y<|g y hb12<|mv y<|g y hb12<|sx [] (zcu v1 v7.1 q13)<|g y hb12<|mv y<|g y hb12<|pcs (zhg v9 v8.1 q14) y y (.cons (zhU y (fun _=>y)) (.cons (si y) .nil)) zcD<|g y hb12<|mv y<|zBp (x:=v13) (j:=12) 5 1 y y y y y (gps y y hb12) (fun hb15=>by replace q18:=bF hb15 q18;obtain ⟨v11,q16,q18⟩:=bs q18;obtain ⟨v12,q17,q18⟩:=bs q18;obtain rfl:=sm q18;exact g y hb15<|mv y<|g y hb15<|mv y<|g y hb15<|sx [] (zjt v1 v7.1 q16)<|g y hb15<|mv y<|g y hb15<|pcs (zhg v11 v8.1 q17) y y (.cons (zhU y (fun _=>y)) (.cons (si y) .nil)) zcD<|za (xg [56,57,58,59,60] 5 y y y y y y)) (fun hb=>(sm (bT hb q18)).symm)<|za (xg [50,51,52,53,54,55,56,57,58,59,60,61] 7 y y y y y y)) (fun hb=>(sm (bF hb q19)).symm)<|u<|asg y<|za ?_
    refine zj ?_
    obtain rfl:=sm h
    exact ⟨_,y,zy []⟩
   ·
    replace h:=bF hc10 h
    refine rg y<|u<|mv y<|u<|eql ti y y<|u<|asg y<|za ?_
    refine ze y (fun hc20=>?_) (fun hc20=>?_)
    ·
     replace h:=bT hc20 h
     refine rg y<|u<|mv y<|u<|seq ti y y<|u<|asg y<|za ?_
     refine zj ?_
     obtain rfl:=sm h
     exact ⟨_,y,zy []⟩
    ·
     replace h:=bF hc20 h
     refine rg y<|u<|mv y<|u<|eql ti y y<|u<|asg y<|za ?_
     refine ze y (fun hc21=>?_) (fun hc21=>?_)
     ·
      replace h:=bT hc21 h
      refine rg y<|u<|asg y<|za ?_
      refine zj ?_
      obtain rfl:=sm h
      exact ⟨_,y,zy []⟩
     ·
      replace h:=bF hc21 h
      refine zg ?_
      obtain ⟨v15,q22,h⟩:=bs h
      obtain ⟨v16,q23,h⟩:=bs h
      refine rdA [(0,.ipt 1 [[.isl 6 (map zc v1)]] 0 0),(11,sA v15),(12,sA v16)] [] [] [5,4,3,2,1,0] [(12,sA v16),(11,sA v15),(74,sA v16),(73,sA v3),(72,sA v15),(71,sA v2)] 0 (zht ⟨pe,pe,(pb y (slS (a:=1) (b:=(length v3:Int)) ti y y (zml y q23) y q23 w)),pe,(pb y (slS (a:=1) (b:=(length v2:Int)) ti y y (zml y q22) y q22 w)),pe,t⟩ (zo [])) ?_
      obtain ⟨v18,q27,h⟩:=bs h
      refine rg y<|u<|mv y<|u<|sne ti y y<|u<|mv y<|z7 (j:=2) 2 y y y y y gpn (fun hb24=>g y hb24<|mv y<|g y hb24<|sne ti y y<|za (egA [78,79] 2 hb24 y y y y)) ze2<|u<|mv y<|z7 (x:=v18) (j:=6) 4 y y y y y gpn (fun hb25=>by replace q27:=bT hb25 q27;obtain ⟨v17,q26,q27⟩:=bs q27;obtain rfl:=sm q27;exact g y hb25<|mv y<|g y hb25<|mv y<|g y hb25<|mv y<|g y hb25<|pc (hrec (v1,v15,v16) _ q26) y y y<|za (eg [82,83,84,85] 4 y y y y)) (fun hb=>(sm (bF hb q27)).symm)<|u<|asg y<|za ?_
      refine zj ?_
      obtain rfl:=sm h
      exact ⟨_,y,zy []⟩
def zfn(v1:List zb)(v2:T0)(v3:T0):Option Bool:=
  zAy (fun v0 z=>zb1 v0 z.1 z.2.1 z.2.2) (v1,v2,v3)
theorem ziT(v1:List zb)(v2:T0)(v3:T0){r:Bool}(h:zfn v1 v2 v3=some r):zI Tryz.prog 202 [.ipt 1 [[.isl 6 (map zc v1)]] 0 0,sA v2,sA v3] (bA r):=
  zwQ (F:=(fun v0 z=>zb1 v0 z.1 z.2.1 z.2.2)) (Q:=fun z r=>zI Tryz.prog 202 [.ipt 1 [[.isl 6 (map zc z.1)]] 0 0,sA z.2.1,sA z.2.2] (bA r)) (fun v0 hv z r h=>zlw v0 hv z.1 z.2.1 z.2.2 h) h
def zbM(v1:List zb)(v2:T0)(v3:T0):Option (Bool):=
  cond (v3 == [84]) ((cond ((v2 == [84])||(v2 == [78])) (some true) ((z1 v1 v2).bind fun v4=>some v4)).bind fun v5=>some v5) (cond (v2 == [78]) ((cond (v3 == [78]) (some true) ((cond (!(v3 == [73])) ((z1 v1 v3).bind fun v6=>some v6) (some false)).bind fun v7=>some v7)).bind fun v8=>some v8) (cond (v2 == v3) ((z1 v1 v2).bind fun v9=>some v9) ((cond ((v2 == [73])||(v3 == [73])) (some true) ((z1 v1 v2).bind fun v10=>some (!v10))).bind fun v11=>(cond v11 (some true) ((z1 v1 v3).bind fun v12=>some (!v12))).bind fun v13=>cond v13 (some false) ((zaD v1 v3).bind fun v14=>(cond (decide (0≤v14)) ((idx v1 v14).bind fun v15=>some v15.Interface) (some false)).bind fun v16=>cond v16 (some true) ((zfn v1 v2 v3).bind fun v17=>some v17)))))
theorem zc4(v1:List zb)(v2:T0)(v3:T0){r:Bool}(h:zbM v1 v2 v3=some r):zI Tryz.prog 253 [.ipt 1 [[.isl 6 (map zc v1)]] 0 0,sA v2,sA v3] (bA r):=by
 refine zq Tryz.func253 y kz y y ?_
 unfold zbM at h
 refine rg y<|u<|asg y<|za ?_
 refine zi ?_
 refine zr ?_
 refine rg y<|u<|mv y<|u<|seq ti y y<|u<|asg y<|za ?_
 refine ze y (fun hc1=>?_) (fun hc1=>?_)
 ·
  replace h:=bT hc1 h
  obtain ⟨v5,q5,h⟩:=bs h
  refine rg y<|u<|mv y<|u<|seq ti y y<|u<|mv y<|zdj (j:=2) 2 y y y y y gpn (fun hb2=>g y hb2<|mv y<|g y hb2<|seq ti y y<|za (egO [14,15] 2 hb2 y y y y)) orT<|u<|mv y<|zdj (x:=v5) (j:=6) 3 y y y y y gpn (fun hb3=>by replace q5:=bF hb3 q5;obtain ⟨v4,q4,q5⟩:=bs q5;obtain rfl:=sm q5;exact g y hb3<|mv y<|g y hb3<|mv y<|g y hb3<|pc (zab v1 v2 q4) y y y<|za (eg [18,19,20] 3 y y y y)) (fun hb=>(sm (bT hb q5)).symm)<|u<|asg y<|za ?_
  refine zj ?_
  obtain rfl:=sm h
  exact ⟨_,y,zy []⟩
 ·
  replace h:=bF hc1 h
  refine rg y<|u<|mv y<|u<|seq ti y y<|u<|asg y<|za ?_
  refine ze y (fun hc6=>?_) (fun hc6=>?_)
  ·
   replace h:=bT hc6 h
   obtain ⟨v8,q11,h⟩:=bs h
   refine rg y<|u<|mv y<|u<|seq ti y y<|u<|mv y<|zdj (x:=v8) (j:=2) 7 y y y y y gpn (fun hb7=>by replace q11:=bF hb7 q11;obtain ⟨v7,q10,q11⟩:=bs q11;obtain rfl:=sm q11;exact g y hb7<|mv y<|g y hb7<|sne ti y y<|g y hb7<|mv y<|z7 (x:=v7) (j:=5) 3 y y y y y (gps y y hb7) (fun hb8=>by replace q10:=bT hb8 q10;obtain ⟨v6,q9,q10⟩:=bs q10;obtain rfl:=sm q10;exact g y hb8<|mv y<|g y hb8<|mv y<|g y hb8<|pc (zab v1 v3 q9) y y y<|za (eg [31,32,33] 3 y y y y)) (fun hb=>(sm (bF hb q10)).symm)<|za (eg [28,29,30,31,32,33,34] 4 y y y y)) (fun hb=>(sm (bT hb q11)).symm)<|u<|asg y<|za ?_
   refine zj ?_
   obtain rfl:=sm h
   exact ⟨_,y,zy []⟩
  ·
   replace h:=bF hc6 h
   refine rg y<|u<|mv y<|u<|mv y<|u<|seq ti y y<|u<|asg y<|za ?_
   refine ze y (fun hc12=>?_) (fun hc12=>?_)
   ·
    replace h:=bT hc12 h
    obtain ⟨v9,q13,h⟩:=bs h
    refine rg y<|u<|mv y<|u<|mv y<|u<|pc (zab v1 v2 q13) y y y<|u<|asg y<|za ?_
    refine zj ?_
    obtain rfl:=sm h
    exact ⟨_,y,zy []⟩
   ·
    replace h:=bF hc12 h
    obtain ⟨v11,q17,h⟩:=bs h
    obtain ⟨v13,q20,h⟩:=bs h
    refine rg y<|u<|mv y<|u<|seq ti y y<|u<|mv y<|zdj (j:=2) 2 y y y y y gpn (fun hb14=>g y hb14<|mv y<|g y hb14<|seq ti y y<|za (egO [47,48] 2 hb14 y y y y)) orT<|u<|mv y<|zdj (x:=v11) (j:=6) 4 y y y y y gpn (fun hb15=>by replace q17:=bF hb15 q17;obtain ⟨v10,q16,q17⟩:=bs q17;obtain rfl:=sm q17;exact g y hb15<|mv y<|g y hb15<|mv y<|g y hb15<|pc (zab v1 v2 q16) y y y<|g y hb15<|nt y<|za (eg [51,52,53,54] 4 y y y y)) (fun hb=>(sm (bT hb q17)).symm)<|u<|mv y<|zdj (x:=v13) (j:=12) 4 y y y y y gpn (fun hb18=>by replace q20:=bF hb18 q20;obtain ⟨v12,q19,q20⟩:=bs q20;obtain rfl:=sm q20;exact g y hb18<|mv y<|g y hb18<|mv y<|g y hb18<|pc (zab v1 v3 q19) y y y<|g y hb18<|nt y<|za (eg [57,58,59,60] 4 y y y y)) (fun hb=>(sm (bT hb q20)).symm)<|u<|asg y<|za ?_
    refine ze y (fun hc21=>?_) (fun hc21=>?_)
    ·
     replace h:=bT hc21 h
     refine rg y<|u<|asg y<|za ?_
     refine zj ?_
     obtain rfl:=sm h
     exact ⟨_,y,zy []⟩
    ·
     replace h:=bF hc21 h
     refine zg ?_
     refine zi ?_
     obtain ⟨v14,q22,h⟩:=bs h
     refine rg y<|u<|mv y<|u<|mv y<|u<|pc (zV v1 v3 q22) y y y<|u<|asg y<|za ?_
     obtain ⟨v16,q25,h⟩:=bs h
     refine rg y<|u<|mv y<|u<|geq ti y y<|u<|mv y<|z7 (x:=v16) (j:=2) 8 y y y y y gpn (fun hb23=>by replace q25:=bT hb23 q25;obtain ⟨v15,q24,q25⟩:=bs q25;obtain rfl:=sm q25;exact g y hb23<|mv y<|g y hb23<|nc y y<|g y hb23<|fa ti y y y<|g y hb23<|ld ti y y<|g y hb23<|mv y<|g y hb23<|ixI ti y ti y y y q24<|g y hb23<|fa ti y y y<|g y hb23<|ldI ti y (zl q24).2.2 y<|za (eg [68,69,70,71,72,73,74,75] 8 y y y y)) (fun hb=>(sm (bF hb q25)).symm)<|za ?_
     refine ze y (fun hc26=>?_) (fun hc26=>?_)
     ·
      replace h:=bT hc26 h
      refine rg y<|u<|asg y<|za ?_
      refine zj ?_
      obtain rfl:=sm h
      exact ⟨_,y,zy []⟩
     ·
      replace h:=bF hc26 h
      refine zg ?_
      obtain ⟨v17,q27,h⟩:=bs h
      refine rg y<|u<|mv y<|u<|mv y<|u<|mv y<|u<|pc (ziT v1 v2 v3 q27) y y y<|u<|asg y<|za ?_
      refine zj ?_
      obtain rfl:=sm h
      exact ⟨_,y,zy []⟩
def zg9:Option (Bool):=
  some true
def zcf(v1:List zb)(v2:T1)(v3:T1)(v8:Int):Option (Sum (Int) (Sum (Unit) (Bool))):=
  cond (decide (v8<(length v2:Int))) ((idx v2 v8).bind fun v9=>(idx v3 v8).bind fun v10=>(zbM v1 v9 v10).bind fun v11=>cond (!v11) (some (.inr (.inr false))) (some (.inl (IntKind.i64.wrap (v8+1))))) (some (.inr (.inl ())))
def zdc(v1:List zb)(v2:T1)(v3:T1):Option (Bool):=
  cond (!((length v2:Int) == (length v3:Int))) (some false) ((zu (fun z=>zcf v1 v2 v3 z) 0).bind fun o=>zU o (fun b=>zg9) some)
theorem zbd(v1:List zb)(v2:T1)(v3:T1){r:Bool}(h:zdc v1 v2 v3=some r):zI Tryz.prog 201 [.ipt 1 [[.isl 6 (map zc v1)]] 0 0,.isl 1 (map zf v2),.isl 1 (map zf v3)] (bA r):=by
 refine zq Tryz.func201 y kz y y ?_
 unfold zdc at h
 refine rg y<|u<|asg y<|za ?_
 refine zi ?_
 refine rg y<|u<|mv y<|u<|lnI ti y y<|u<|mv y<|u<|lnI ti y y<|u<|neq ti y y<|za ?_
 refine ze y (fun hc1=>?_) (fun hc1=>?_)
 ·
  replace h:=bT hc1 h
  refine rg y<|u<|asg y<|za ?_
  refine zj ?_
  obtain rfl:=sm h
  exact ⟨_,y,zy []⟩
 ·
  replace h:=bF hc1 h
  refine zg ?_
  refine zi ?_
  refine rg y<|u<|asg y<|za ?_
  obtain ⟨o,ho,h⟩:=bs h
  refine zX (X:=Int) (B:=Unit) (R:=Bool) (fun z=>[(0,.ipt 1 [[.isl 6 (map zc v1)]] 0 0),(1,.isl 1 (map zf v2)),(2,.isl 1 (map zf v3)),(7,iA z)]) (fun z=>[]) (fun b=>[]) (fun b=>[]) (fun r env st=>zaN Tryz.prog Tryz.f201 0 (bA r) [] env st) ho (zo []) ?_ ?_ ?_
  ·
   rintro v8 r h
   replace h:zcf v1 v2 v3 v8=some r:=h
   unfold zcf at h
   refine zi ?_
   refine rg y<|u<|mv y<|u<|mv y<|u<|lnI ti y y<|u<|lss ti y y<|za ?_
   refine ze y (fun hc7=>?_) (fun hc7=>?_)
   ·
    replace h:=bT hc7 h
    refine zg ?_
    refine zi ?_
    refine zr ?_
    obtain ⟨v9,q8,h⟩:=bs h
    obtain ⟨v10,q9,h⟩:=bs h
    obtain ⟨v11,q10,h⟩:=bs h
    refine rdA [(0,.ipt 1 [[.isl 6 (map zc v1)]] 0 0),(1,.isl 1 (map zf v2)),(2,.isl 1 (map zf v3)),(7,iA v8),(29,bA (!v11))] [] [] [10,9,8,7,6,5,4,3,2,1,0] [(29,bA (!v11)),(28,bA v11),(27,sA v10),(26,.ipt 1 (map zf v3) (Int.toNat v8) 0),(25,iA v8),(24,.isl 1 (map zf v3)),(23,sA v9),(22,.ipt 1 (map zf v2) (Int.toNat v8) 0),(21,iA v8),(20,.isl 1 (map zf v2)),(19,.ipt 1 [[.isl 6 (map zc v1)]] 0 0)] 0 (zht ⟨pe,(pb y (pc (zc4 v1 v9 v10 q10) y y y w)),(pb y (ldI ti y (zl q9).2.2 y w)),(pb y (ixI ti y ti y y y q9 w)),pe,pe,(pb y (ldI ti y (zl q8).2.2 y w)),(pb y (ixI ti y ti y y y q8 w)),pe,pe,pe,t⟩ (zo [])) ?_
    refine ze y (fun hc11=>?_) (fun hc11=>?_)
    ·
     replace h:=bT hc11 h
     refine rg y<|u<|asg y<|za ?_
     refine zj ?_
     obtain rfl:=sm h
     exact ⟨_,y,_,y,zy []⟩
    ·
     replace h:=bF hc11 h
     refine zg ?_
     refine rl y<|u<|mv y<|u<|add ti y y<|u<|asg y<|za ?_
     obtain rfl:=sm h
     exact ⟨_,y,zo []⟩
   ·
    replace h:=bF hc7 h
    refine zD ?_
    obtain rfl:=sm h
    exact ⟨y,_,y,zo []⟩
  ·
   rintro ⟨⟩ rfl
   replace h:zg9=some r:=h
   unfold zg9 at h
   refine zw ?_
   refine rg y<|u<|asg y<|za ?_
   refine zj ?_
   obtain rfl:=sm h
   exact ⟨_,y,zy []⟩
  ·
   rintro r' rfl env st hp
   obtain rfl:=sm h
   exact hp
def ziz(v1:List zb)(v2:T0)(v3:zd)(v4:T1)(v5:T1)(v6:Bool)(v7:Bool):Unit:=
  ()
theorem zp(v1:List zb)(v2:T0)(v3:zd)(v4:T1)(v5:T1)(v6:Bool)(v7:Bool){r:Unit}(h:ziz v1 v2 v3 v4 v5 v6 v7=r):SC Tryz.prog 124 [.mpt 0 0 0,bA v7] [.one 15 (rK v1 v2 v3 (.isl 1 (map zf v4)) (.isl 1 (map zf v5)) (bA v6))] (.tup []) [.one 15 (rK v1 v2 v3 (.isl 1 (map zf v4)) (.isl 1 (map zf v5)) (bA (v6||(!v7))))]:=by
 refine ⟨⟨t,t⟩,zW Tryz.func124 y kz y ?_⟩
 unfold ziz at h
 refine rl y<|u<|mv y<|u<|mv y<|u<|nc y y<|u<|fa ti y y y<|u<|ld ti y y<|u<|mv y<|zdj (j:=5) 2 y y y y y gpn (fun hb1=>g y hb1<|mv y<|g y hb1<|nt y<|za (egO [10,11] 2 hb1 y y y y)) orT<|u<|nc y y<|u<|fa ti y y y<|u<|sto ti y y y<|za ?_
 obtain rfl:=h
 exact ⟨_,y,zy [.old 0]⟩
def zdt(v1:List zb)(v2:T0)(v3:zd)(v4:T1)(v5:T1)(v6:Bool)(v7:Int)(v8:T1)(v9:T1):Option (Bool):=
  (zcY v1 v2 v3 v4 v5 v6 v7).bind fun v10=>cond v10.2 ((zdc v1 v8 v10.1.Locals).bind fun v11=>cond v11 ((zdc v1 v9 v10.1.Stack).bind fun v12=>some (v6||(!v12))) (some (v6||(!false)))) (some (v6||(!false)))
theorem zgE(v1:List zb)(v2:T0)(v3:zd)(v4:T1)(v5:T1)(v6:Bool)(v7:Int)(v8:T1)(v9:T1){r:Bool}(h:zdt v1 v2 v3 v4 v5 v6 v7 v8 v9=some r):SC Tryz.prog 128 [.mpt 0 0 0,iA v7,.isl 1 (map zf v8),.isl 1 (map zf v9)] [.one 15 (rK v1 v2 v3 (.isl 1 (map zf v4)) (.isl 1 (map zf v5)) (bA v6))] (.tup []) [.one 15 (rK v1 v2 v3 (.isl 1 (map zf v4)) (.isl 1 (map zf v5)) (bA r))]:=by
 refine ⟨⟨t,t⟩,zW Tryz.func128 y kz y ?_⟩
 unfold zdt at h
 obtain ⟨v10,q1,h⟩:=bs h
 refine rg y<|u<|mv y<|u<|mv y<|u<|sx [0] (zgh v1 v2 v3 v4 v5 v6 v7 q1)<|zx (env0:=[(0,.mpt 0 0 0),(2,.isl 1 (map zf v8)),(3,.isl 1 (map zf v9)),(13,.tup [.agg (zP v10.1),bA v10.2])]) (st0:=[some (15,[(rK v1 v2 v3 (.isl 1 (map zf v4)) (.isl 1 (map zf v5)) (bA v6))])]) (zo [.old 0])<|u<|mv y<|u<|ex y y<|u<|ex y y<|u<|al 1 ti y<|u<|sto ti y y y<|u<|asg y<|za ?_
 rcases bb v10.2 with hb2 |hb2
 ·
  replace h:=bT hb2 h
  obtain ⟨v11,q3,h⟩:=bs h
  rcases bb v11 with hb4 |hb4
  ·
   replace h:=bT hb4 h
   obtain ⟨v12,q5,h⟩:=bs h
   refine zjq [] [some (15,[(rK v1 v2 v3 (.isl 1 (map zf v4)) (.isl 1 (map zf v5)) (bA (v6||(!v12))))])] [22] [21,20,19,18,17,16,15,14,13,12,11,10,9,8,7,6,5,4,3,2,1,0] [(37,bA v12),(36,bA v12),(35,.isl 1 (map zf v10.1.Stack)),(34,.mpt 1 0 2),(33,.isl 1 (map zf v9)),(32,.ipt 1 [[.isl 6 (map zc v1)]] 0 0),(31,.mpt 0 0 0),(30,.mpt 0 0 0),(29,.mpt 0 0 0),(28,bA v11),(27,bA v11),(26,bA v11),(25,.isl 1 (map zf v10.1.Locals)),(24,.mpt 1 0 1),(23,.isl 1 (map zf v8)),(22,.ipt 1 [[.isl 6 (map zc v1)]] 0 0),(21,.mpt 0 0 0),(20,.mpt 0 0 0),(19,.mpt 0 0 0),(18,bA v10.2),(17,bA v10.2),(16,.mpt 0 0 0)] 1 (zem ⟨pe,(fun _=>pag (b:=v11) y y y y hb4 y (pc (zbd v1 v9 v10.1.Stack q5) y y y<|w)),pe,pe,pe,pe,pe,pe,pe,pe,pe,(fun _=>pag (b:=v10.2) y y y y hb2 y (pc (zbd v1 v8 v10.1.Locals q3) y y y<|w)),pe,pe,pe,pe,pe,pe,pe,pe,pe,pe,t⟩ ⟨(fun _ _=>⟨_,y,y,sc [0] (args:=[.mpt 0 0 0,bA v12]) (zp v1 v2 v3 v4 v5 v6 v12 y) y y y y ⟨(.mpt y),(rnI y),t⟩ ⟨⟨_,y,(zr7 y)⟩,t⟩<|⟨(.tup []),[],[(38,.tup [])],y,y,kz,y,zht ⟨pe,pe,pe,pe,pe,pe,pe,pe,pe,pe,pe,(fun _=>pag (b:=v10.2) y y y y hb2 y (pc (zbd v1 v8 v10.1.Locals q3) y y y<|w)),pe,pe,pe,pe,pe,pe,pe,pe,pe,pe,t⟩ (zo [.old 0])⟩⟩),t⟩) ?_
   obtain rfl:=sm h
   exact ⟨_,y,zy [.old 0]⟩
  ·
   replace h:=bF hb4 h
   refine zjq [] [some (15,[(rK v1 v2 v3 (.isl 1 (map zf v4)) (.isl 1 (map zf v5)) (bA (v6||(!false))))])] [22] [21,20,19,18,17,16,15,14,13,12,11,10,9,8,7,6,5,4,3,2,1,0] [(37,bA false),(36,.lit undef),(35,.lit undef),(34,.lit undef),(33,.lit undef),(32,.lit undef),(31,.lit undef),(30,.lit undef),(29,.lit undef),(28,bA v11),(27,bA v11),(26,bA v11),(25,.isl 1 (map zf v10.1.Locals)),(24,.mpt 1 0 1),(23,.isl 1 (map zf v8)),(22,.ipt 1 [[.isl 6 (map zc v1)]] 0 0),(21,.mpt 0 0 0),(20,.mpt 0 0 0),(19,.mpt 0 0 0),(18,bA v10.2),(17,bA v10.2),(16,.mpt 0 0 0)] 1 (zem ⟨pe,pe,pe,pe,pe,pe,pe,pe,pe,pe,pe,(fun _=>pag (b:=v10.2) y y y y hb2 y (pc (zbd v1 v8 v10.1.Locals q3) y y y<|w)),pe,pe,pe,pe,pe,pe,pe,pe,pe,pe,t⟩ ⟨(fun _ _=>⟨_,y,y,sc [0] (args:=[.mpt 0 0 0,bA false]) (zp v1 v2 v3 v4 v5 v6 false y) y y y y ⟨(.mpt y),(rnI y),t⟩ ⟨⟨_,y,(zr7 y)⟩,t⟩<|⟨(.tup []),[],[(38,.tup [])],y,y,kz,y,zht ⟨pe,pe,pe,pe,pe,pe,pe,pe,pe,pe,pe,(fun _=>pag (b:=v10.2) y y y y hb2 y (pc (zbd v1 v8 v10.1.Locals q3) y y y<|w)),pe,pe,pe,pe,pe,pe,pe,pe,pe,pe,t⟩ (zo [.old 0])⟩⟩),t⟩) ?_
   obtain rfl:=sm h
   exact ⟨_,y,zy [.old 0]⟩
 ·
  replace h:=bF hb2 h
  refine zjq [] [some (15,[(rK v1 v2 v3 (.isl 1 (map zf v4)) (.isl 1 (map zf v5)) (bA (v6||(!false))))])] [22] [21,20,19,18,17,16,15,14,13,12,11,10,9,8,7,6,5,4,3,2,1,0] [(37,bA false),(36,.lit undef),(35,.lit undef),(34,.lit undef),(33,.lit undef),(32,.lit undef),(31,.lit undef),(30,.lit undef),(29,.lit undef),(28,bA false),(27,bA false),(26,.lit undef),(25,.lit undef),(24,.lit undef),(23,.lit undef),(22,.lit undef),(21,.lit undef),(20,.lit undef),(19,.lit undef),(18,bA v10.2),(17,bA v10.2),(16,.mpt 0 0 0)] 1 (zma ⟨(fun _ _=>⟨_,y,y,sc [0] (args:=[.mpt 0 0 0,bA false]) (zp v1 v2 v3 v4 v5 v6 false y) y y y y ⟨(.mpt y),(rnI y),t⟩ ⟨⟨_,y,(zr7 y)⟩,t⟩<|⟨(.tup []),[],[(38,.tup [])],y,y,kz,y,zhW (zo [.old 0])⟩⟩),t⟩) ?_
  obtain rfl:=sm h
  exact ⟨_,y,zy [.old 0]⟩
def zec(v1:zhM):Option (T1×T1):=
  (zis 16 ([]:T1) v1.locals).bind fun v2=>(zis 16 ([]:T1) v1.stack).bind fun v3=>some (v2,v3)
theorem zjs(v1:zhM){r:T1×T1}(h:zec v1=some r):SC Tryz.prog 129 [.agg (zvo v1)] [] (.agg [.msl 0 0 (length r.1),.msl 1 0 (length r.2)]) [.many 1 (map zf r.1),.many 1 (map zf r.2)]:=by
 refine ⟨⟨zhS (sz:=1) (fun _=>y),zhS (sz:=1) (fun _=>y),t⟩,zW Tryz.func129 y kz y ?_⟩
 unfold zec at h
 refine rg y<|u<|bx 0 2 y y y y<|u<|al 1 ti y<|za ?_
 obtain ⟨v2,q1,h⟩:=bs h
 obtain ⟨v3,q2,h⟩:=bs h
 refine rdA [(2,.mpt 0 0 0)] [some (2,[[.msl 1 0 (length v2),.msl 2 0 (length v3)]]),some (1,map zf v2),some (1,map zf v3)] [2,5,7] [4,3,1,0] [(7,.isl 1 (map zf v1.stack)),(6,.mpt 0 0 1),(4,.isl 1 (map zf v1.locals)),(3,.mpt 0 0 0)] 3 (zma ⟨(fun _ _=>⟨_,y,y,apN (f:=zf) 2 ti y ti y y (by decide) ti y y y roI (fun _=>y) y q1<|⟨(.msl 2 0 (length v2)),[],[(5,.msl 2 0 (length v2))],y,y,kz,y,zma ⟨nv,(fun _ _=>⟨_,y,y,apN (f:=zf) 3 ti y ti y y (by decide) ti y y y roI (fun _=>y) y q2<|⟨(.msl 3 0 (length v3)),[6],[(9,.agg [.msl 2 0 (length v2),.msl 3 0 (length v3)]),(8,.msl 3 0 (length v3))],y,y,kz,y,zem ⟨(pb y (bd ti y y y w)),pe,pe,pe,pe,t⟩ ⟨nv,nv,(fun _ _=>⟨_,y,y,sto ti y y y<|⟨.any,[],[],y,y,kz,t,zhW (zo [.old 1,.old 2,.old 3])⟩⟩),t⟩⟩⟩),nw,t⟩⟩⟩),nw,nw,t⟩) ?_
 refine zj ?_
 obtain rfl:=sm h
 exact ⟨_,y,zy [.old 1,.old 2]⟩
def zdX(v1:List zb)(v2:T0)(v3:zd)(v4:T1)(v5:T1)(v6:Bool)(v7:Int)(v8:T1)(v9:T1):Option (Bool):=
  (zcY v1 v2 v3 v4 v5 v6 v7).bind fun v10=>cond v10.2 ((zdc v1 v8 v10.1.Locals).bind fun v11=>cond v11 ((zdc v1 v9 v10.1.Stack).bind fun v12=>some (v6||(!v12))) (some (v6||(!false)))) (some (v6||(!false)))
theorem zkm(v1:List zb)(v2:T0)(v3:zd)(v4:T1)(v5:T1)(v6:Bool)(v7:Int)(v8:T1)(v9:T1){r:Bool}(h:zdX v1 v2 v3 v4 v5 v6 v7 v8 v9=some r):SC Tryz.prog 128 [.mpt 0 0 0,iA v7,.isl 1 (map zf v8),.msl 1 0 (length v9)] [.one 15 (rK v1 v2 v3 (.isl 1 (map zf v4)) (.isl 1 (map zf v5)) (bA v6)),.many 1 (map zf v9)] (.tup []) [.one 15 (rK v1 v2 v3 (.isl 1 (map zf v4)) (.isl 1 (map zf v5)) (bA r)),.many 1 (map zf v9)]:=by
 refine ⟨⟨t,zhS (sz:=1) (fun _=>y),t⟩,zW Tryz.func128 y kz y ?_⟩
 unfold zdX at h
 obtain ⟨v10,q1,h⟩:=bs h
 refine rg y<|u<|mv y<|u<|mv y<|u<|sx [0] (zgh v1 v2 v3 v4 v5 v6 v7 q1)<|zx (env0:=[(0,.mpt 0 0 0),(2,.isl 1 (map zf v8)),(3,.msl 1 0 (length v9)),(13,.tup [.agg (zP v10.1),bA v10.2])]) (st0:=[some (15,[(rK v1 v2 v3 (.isl 1 (map zf v4)) (.isl 1 (map zf v5)) (bA v6))]),some (1,map zf v9)]) (zo [.old 0,.old 1])<|u<|mv y<|u<|ex y y<|u<|ex y y<|u<|al 2 ti y<|u<|sto ti y y y<|u<|asg y<|za ?_
 rcases bb v10.2 with hb2 |hb2
 ·
  replace h:=bT hb2 h
  obtain ⟨v11,q3,h⟩:=bs h
  rcases bb v11 with hb4 |hb4
  ·
   replace h:=bT hb4 h
   obtain ⟨v12,q5,h⟩:=bs h
   refine zjq [] [some (15,[(rK v1 v2 v3 (.isl 1 (map zf v4)) (.isl 1 (map zf v5)) (bA (v6||(!v12))))]),some (1,map zf v9)] [22] [21,20,19,18,17,16,15,14,13,12,11,10,9,8,7,6,5,4,3,2,1,0] [(37,bA v12),(36,bA v12),(35,.isl 1 (map zf v10.1.Stack)),(34,.mpt 2 0 2),(33,.msl 1 0 (length v9)),(32,.ipt 1 [[.isl 6 (map zc v1)]] 0 0),(31,.mpt 0 0 0),(30,.mpt 0 0 0),(29,.mpt 0 0 0),(28,bA v11),(27,bA v11),(26,bA v11),(25,.isl 1 (map zf v10.1.Locals)),(24,.mpt 2 0 1),(23,.isl 1 (map zf v8)),(22,.ipt 1 [[.isl 6 (map zc v1)]] 0 0),(21,.mpt 0 0 0),(20,.mpt 0 0 0),(19,.mpt 0 0 0),(18,bA v10.2),(17,bA v10.2),(16,.mpt 0 0 0)] 1 (zem ⟨pe,(fun _=>pag (b:=v11) y y y y hb4 y (pcs (zbd v1 v9 v10.1.Stack q5) y y (.cons (si y) (.cons (zhU y (fun _=>y)) (.cons (si y) .nil))) zcD<|w)),pe,pe,pe,pe,pe,pe,pe,pe,pe,(fun _=>pag (b:=v10.2) y y y y hb2 y (pc (zbd v1 v8 v10.1.Locals q3) y y y<|w)),pe,pe,pe,pe,pe,pe,pe,pe,pe,pe,t⟩ ⟨(fun _ _=>⟨_,y,y,sc [0] (args:=[.mpt 0 0 0,bA v12]) (zp v1 v2 v3 v4 v5 v6 v12 y) y y y y ⟨(.mpt y),(rnI y),t⟩ ⟨⟨_,y,(zr7 y)⟩,t⟩<|⟨(.tup []),[],[(38,.tup [])],y,y,kz,y,zht ⟨pe,pe,pe,pe,pe,pe,pe,pe,pe,pe,pe,(fun _=>pag (b:=v10.2) y y y y hb2 y (pc (zbd v1 v8 v10.1.Locals q3) y y y<|w)),pe,pe,pe,pe,pe,pe,pe,pe,pe,pe,t⟩ (zo [.old 0,.old 1])⟩⟩),t⟩) ?_
   obtain rfl:=sm h
   exact ⟨_,y,zy [.old 0,.old 1]⟩
  ·
   replace h:=bF hb4 h
   refine zjq [] [some (15,[(rK v1 v2 v3 (.isl 1 (map zf v4)) (.isl 1 (map zf v5)) (bA (v6||(!false))))]),some (1,map zf v9)] [22] [21,20,19,18,17,16,15,14,13,12,11,10,9,8,7,6,5,4,3,2,1,0] [(37,bA false),(36,.lit undef),(35,.lit undef),(34,.lit undef),(33,.lit undef),(32,.lit undef),(31,.lit undef),(30,.lit undef),(29,.lit undef),(28,bA v11),(27,bA v11),(26,bA v11),(25,.isl 1 (map zf v10.1.Locals)),(24,.mpt 2 0 1),(23,.isl 1 (map zf v8)),(22,.ipt 1 [[.isl 6 (map zc v1)]] 0 0),(21,.mpt 0 0 0),(20,.mpt 0 0 0),(19,.mpt 0 0 0),(18,bA v10.2),(17,bA v10.2),(16,.mpt 0 0 0)] 1 (zem ⟨pe,pe,pe,pe,pe,pe,pe,pe,pe,pe,pe,(fun _=>pag (b:=v10.2) y y y y hb2 y (pc (zbd v1 v8 v10.1.Locals q3) y y y<|w)),pe,pe,pe,pe,pe,pe,pe,pe,pe,pe,t⟩ ⟨(fun _ _=>⟨_,y,y,sc [0] (args:=[.mpt 0 0 0,bA false]) (zp v1 v2 v3 v4 v5 v6 false y) y y y y ⟨(.mpt y),(rnI y),t⟩ ⟨⟨_,y,(zr7 y)⟩,t⟩<|⟨(.tup []),[],[(38,.tup [])],y,y,kz,y,zht ⟨pe,pe,pe,pe,pe,pe,pe,pe,pe,pe,pe,(fun _=>pag (b:=v10.2) y y y y hb2 y (pc (zbd v1 v8 v10.1.Locals q3) y y y<|w)),pe,pe,pe,pe,pe,pe,pe,pe,pe,pe,t⟩ (zo [.old 0,.old 1])⟩⟩),t⟩) ?_
   obtain rfl:=sm h
   exact ⟨_,y,zy [.old 0,.old 1]⟩
 ·
  replace h:=bF hb2 h
  refine zjq [] [some (15,[(rK v1 v2 v3 (.isl 1 (map zf v4)) (.isl 1 (map zf v5)) (bA (v6||(!false))))]),some (1,map zf v9)] [22] [21,20,19,18,17,16,15,14,13,12,11,10,9,8,7,6,5,4,3,2,1,0] [(37,bA false),(36,.lit undef),(35,.lit undef),(34,.lit undef),(33,.lit undef),(32,.lit undef),(31,.lit undef),(30,.lit undef),(29,.lit undef),(28,bA false),(27,bA false),(26,.lit undef),(25,.lit undef),(24,.lit undef),(23,.lit undef),(22,.lit undef),(21,.lit undef),(20,.lit undef),(19,.lit undef),(18,bA v10.2),(17,bA v10.2),(16,.mpt 0 0 0)] 1 (zma ⟨(fun _ _=>⟨_,y,y,sc [0] (args:=[.mpt 0 0 0,bA false]) (zp v1 v2 v3 v4 v5 v6 false y) y y y y ⟨(.mpt y),(rnI y),t⟩ ⟨⟨_,y,(zr7 y)⟩,t⟩<|⟨(.tup []),[],[(38,.tup [])],y,y,kz,y,zhW (zo [.old 0,.old 1])⟩⟩),t⟩) ?_
  obtain rfl:=sm h
  exact ⟨_,y,zy [.old 0,.old 1]⟩
def zf3(v22:Bool):Option (Bool):=
  some v22
def zcN(v16:Int)(v21:Bool):Option (Sum (Bool×Int) (Sum (Bool) (Bool))):=
  some (.inl (v21,(IntKind.i64.wrap (v16+1))))
def zcc(v1:List zb)(v2:T0)(v3:zd)(v4:T1)(v5:T1)(v7:Int)(v15:Bool)(v16:Int)(v17:zbe)(v18:T0):Option (Sum (Bool×Int) (Sum (Bool) (Bool))):=
  (zfn v1 v18 [84,104,114,111,119,110]).bind fun v19=>cond ((decide (v17.From≤v7))&&(decide (v7<v17.To))) ((zdX v1 v2 v3 v4 v5 (v15||(!v19)) v17.At v4 [v18]).bind fun v20=>zcN v16 v20) (zcN v16 (v15||(!v19)))
def zbx(v1:List zb)(v2:T0)(v3:zd)(v4:T1)(v5:T1)(v7:Int)(v15:Bool)(v16:Int):Option (Sum (Bool×Int) (Sum (Bool) (Bool))):=
  cond (decide (v16<(length v3.Traps:Int))) ((idx v3.Traps v16).bind fun v17=>cond (v17.C == []) (zcc v1 v2 v3 v4 v5 v7 v15 v16 v17 [84,104,114,111,119,110]) (zcc v1 v2 v3 v4 v5 v7 v15 v16 v17 v17.C)) (some (.inr (.inl v15)))
def zcq(v1:List zb)(v2:T0)(v3:zd)(v4:T1)(v5:T1)(v6:Bool)(v7:Int):Option (Bool):=
  (zu (fun z=>zbx v1 v2 v3 v4 v5 v7 z.1 z.2) (v6,0)).bind fun o=>zU o (fun b=>zf3 b) some
theorem zlR(v1:List zb)(v2:T0)(v3:zd)(v4:T1)(v5:T1)(v6:Bool)(v7:Int){r:Bool}(h:zcq v1 v2 v3 v4 v5 v6 v7=some r):SC Tryz.prog 130 [.mpt 0 0 0,iA v7] [.one 15 (rK v1 v2 v3 (.isl 1 (map zf v4)) (.isl 1 (map zf v5)) (bA v6))] (.tup []) [.one 15 (rK v1 v2 v3 (.isl 1 (map zf v4)) (.isl 1 (map zf v5)) (bA r))]:=by
 refine ⟨⟨t,t⟩,zW Tryz.func130 y kz y ?_⟩
 unfold zcq at h
 refine rg y<|u<|asg y<|za ?_
 obtain ⟨o,ho,h⟩:=bs h
 refine zX (X:=Bool×Int) (B:=Bool) (R:=Bool) (fun z=>[(0,.mpt 0 0 0),(1,iA v7),(4,iA z.2)]) (fun z=>[some (15,[(rK v1 v2 v3 (.isl 1 (map zf v4)) (.isl 1 (map zf v5)) (bA z.1))])]) (fun b=>[]) (fun b=>[some (15,[(rK v1 v2 v3 (.isl 1 (map zf v4)) (.isl 1 (map zf v5)) (bA b))])]) (fun r env st=>zaN Tryz.prog Tryz.f130 1 (.tup []) [some (15,[(rK v1 v2 v3 (.isl 1 (map zf v4)) (.isl 1 (map zf v5)) (bA r))])] env st) ho (zo [.old 0]) ?_ ?_ ?_
 ·
  rintro ⟨v15,v16⟩ r h
  replace h:zbx v1 v2 v3 v4 v5 v7 v15 v16=some r:=h
  unfold zbx at h
  refine zi ?_
  refine rg y<|u<|mv y<|u<|mv y<|u<|nc y y<|u<|fa ti y y y<|u<|fa ti y y y<|u<|ld ti y y<|u<|lnI ti y y<|u<|lss ti y y<|za ?_
  refine ze y (fun hc8=>?_) (fun hc8=>?_)
  ·
   replace h:=bT hc8 h
   refine zg ?_
   refine za6 (X:=Bool) (fun z=>[(0,.mpt 0 0 0),(1,iA v7),(4,iA v16)]) (fun z=>[some (15,[(rK v1 v2 v3 (.isl 1 (map zf v4)) (.isl 1 (map zf v5)) (bA z))])]) (fun z=>zcN v16 z=some r) ?_ ?_
   ·
    refine zr ?_
    obtain ⟨v17,q9,h⟩:=bs h
    refine rg y<|u<|mv y<|u<|nc y y<|u<|fa ti y y y<|u<|fa ti y y y<|u<|ld ti y y<|u<|mv y<|u<|ixI ti y ti y y y q9<|u<|ldI ti y (zl q9).2.2 y<|u<|al 1 ti y<|u<|sto ti y y y<|za ?_
    refine rg y<|u<|fa ti y y y<|u<|ld ti y y<|u<|asg y<|za ?_
    refine za6 (X:=T0) (fun z=>[(0,.mpt 0 0 0),(1,iA v7),(4,iA v16),(5,.mpt 1 0 0),(6,sA z)]) (fun z=>[some (15,[(rK v1 v2 v3 (.isl 1 (map zf v4)) (.isl 1 (map zf v5)) (bA v15))]),some (4,[(zbL v17)])]) (fun z=>zcc v1 v2 v3 v4 v5 v7 v15 v16 v17 z=some r) ?_ ?_
    ·
     refine rg y<|u<|mv y<|u<|seq ti y y<|za ?_
     refine ze y (fun hc10=>?_) (fun hc10=>?_)
     ·
      replace h:=bT hc10 h
      exact rl y<|u<|asg y<|za (⟨[84,104,114,111,119,110],h,zo [.old 0,.old 1]⟩)
     ·
      replace h:=bF hc10 h
      refine zg ?_
      exact ⟨v17.C,h,zo [.old 0,.old 1]⟩
    ·
     rintro v18 h
     replace h:zcc v1 v2 v3 v4 v5 v7 v15 v16 v17 v18=some r:=h
     unfold zcc at h
     obtain ⟨v19,q11,h⟩:=bs h
     refine rg y<|u<|mv y<|u<|mv y<|u<|nc y y<|u<|fa ti y y y<|u<|ld ti y y<|u<|mv y<|u<|pc (ziT v1 v18 [84,104,114,111,119,110] q11) y y y<|u<|sx [0] (zp v1 v2 v3 v4 v5 v15 v19 y)<|zx (env0:=[(0,.mpt 0 0 0),(1,iA v7),(4,iA v16),(5,.mpt 1 0 0),(6,sA v18)]) (st0:=[some (15,[(rK v1 v2 v3 (.isl 1 (map zf v4)) (.isl 1 (map zf v5)) (bA (v15||(!v19))))]),some (4,[(zbL v17)])]) (zo [.old 0,.old 1])<|za ?_
     refine rg y<|u<|fa ti y y y<|u<|ld ti y y<|u<|mv y<|u<|leq ti y y<|u<|mv y<|z7 (j:=4) 4 y y y y y gpn (fun hb12=>g y hb12<|mv y<|g y hb12<|fa ti y y y<|g y hb12<|ld ti y y<|g y hb12<|lss ti y y<|za (egA [42,43,44,45] 4 hb12 y y y y)) ze2<|za ?_
     refine ze y (fun hc13=>?_) (fun hc13=>?_)
     ·
      replace h:=bT hc13 h
      obtain ⟨v20,q14,h⟩:=bs h
      refine zjq [(0,.mpt 0 0 0),(1,iA v7),(4,iA v16)] [some (15,[(rK v1 v2 v3 (.isl 1 (map zf v4)) (.isl 1 (map zf v5)) (bA v20))])] [9,10] [8,7,6,5,4,3,2,1,0] [(55,sA v18),(54,.isl 1 (map zf v4)),(53,.mpt 0 0 12),(52,.mpt 0 0 12),(51,.mpt 0 0 0),(50,.mpt 0 0 0),(49,iA v17.At),(48,.mpt 1 0 2),(47,.mpt 0 0 0)] 2 (zma ⟨(fun _ _=>⟨_,y,y,bl 2 ti y ti y (by decide) (by decide) y y y<|⟨(.msl 2 0 1),[],[(56,.msl 2 0 1)],y,y,kz,y,zma ⟨nv,(fun _ _=>⟨_,y,y,sx [0,2] (zkm v1 v2 v3 v4 v5 (v15||(!v19)) v17.At v4 [v18] q14)<|⟨(.tup []),[],[(57,.tup [])],y,y,kz,y,zhW (zo [.old 0])⟩⟩),t⟩⟩⟩),nw,t⟩) ?_
      exact ⟨v20,h,zo [.old 0]⟩
     ·
      replace h:=bF hc13 h
      refine zg ?_
      exact ⟨(v15||(!v19)),h,zo [.old 0]⟩
   ·
    rintro v21 h
    replace h:zcN v16 v21=some r:=h
    unfold zcN at h
    refine rl y<|u<|mv y<|u<|add ti y y<|u<|asg y<|za ?_
    obtain rfl:=sm h
    exact ⟨_,y,zo [.old 0]⟩
  ·
   replace h:=bF hc8 h
   refine zD ?_
   obtain rfl:=sm h
   exact ⟨y,_,y,zo [.old 0]⟩
 ·
  rintro v22 rfl
  replace h:zf3 v22=some r:=h
  unfold zf3 at h
  refine zw ?_
  obtain rfl:=sm h
  exact ⟨_,y,zy [.old 0]⟩
 ·
  rintro r' rfl env st hp
  obtain rfl:=sm h
  exact hp
def zav(v1:List zb)(v2:T0)(v3:zd)(v4:T1)(v5:T1)(v6:Bool):Option (T0×T1×Bool):=
  cond ((length v5:Int) == (0:Int)) (some ([78],v5,true)) ((idx v5 (IntKind.i64.wrap ((length v5:Int)-1))).bind fun v7=>(zj6 v5 0 (IntKind.i64.wrap ((length v5:Int)-1))).bind fun v8=>some (v7,v8,v6))
theorem zaW(v1:List zb)(v2:T0)(v3:zd)(v4:T1)(v5:T1)(v6:Bool){r:T0×T1×Bool}(h:zav v1 v2 v3 v4 v5 v6=some r):SC Tryz.prog 255 [.mpt 0 0 0] [.one 15 (rK v1 v2 v3 (.isl 1 (map zf v4)) (.isl 1 (map zf v5)) (bA v6))] (sA r.1) [.one 15 (rK v1 v2 v3 (.isl 1 (map zf v4)) (.isl 1 (map zf r.2.1)) (bA r.2.2))]:=by
 refine ⟨⟨t,t⟩,zW Tryz.func255 y kz y ?_⟩
 unfold zav at h
 refine rg y<|u<|asg y<|za ?_
 refine rg y<|u<|mv y<|u<|nc y y<|u<|fa ti y y y<|u<|fa ti y y y<|u<|ld ti y y<|u<|lnI ti y y<|u<|asg y<|za ?_
 refine zi ?_
 refine rg y<|u<|mv y<|u<|eql ti y y<|za ?_
 refine ze y (fun hc1=>?_) (fun hc1=>?_)
 ·
  replace h:=bT hc1 h
  refine rg y<|u<|mv y<|u<|nc y y<|u<|fa ti y y y<|u<|sto ti y y y<|za ?_
  refine rg y<|u<|asg y<|za ?_
  refine zj ?_
  obtain rfl:=sm h
  exact ⟨_,y,zy [.old 0]⟩
 ·
  replace h:=bF hc1 h
  refine zg ?_
  obtain ⟨v7,q2,h⟩:=bs h
  refine rg y<|u<|mv y<|u<|nc y y<|u<|fa ti y y y<|u<|fa ti y y y<|u<|ld ti y y<|u<|mv y<|u<|sub ti y y<|u<|ixI ti y ti y y y q2<|u<|ldI ti y (zl q2).2.2 y<|u<|asg y<|za ?_
  obtain ⟨v8,q3,h⟩:=bs h
  refine rg y<|u<|mv y<|u<|mv y<|u<|nc y y<|u<|fa ti y y y<|u<|fa ti y y y<|u<|ld ti y y<|u<|mv y<|u<|sub ti y y<|u<|slI (a:=0) (b:=(IntKind.i64.wrap ((length v5:Int)-1))) ti y ti y y y (zon y q3) q3<|u<|nc y y<|u<|fa ti y y y<|u<|fa ti y y y<|u<|sto ti y y y<|za ?_
  refine rg y<|u<|mv y<|u<|asg y<|za ?_
  refine zj ?_
  obtain rfl:=sm h
  exact ⟨_,y,zy [.old 0]⟩
def zgA(v20:T1)(v21:Bool):Option (T1×Bool):=
  some (v20,v21)
def zaF(v1:List zb)(v2:T0)(v3:zd)(v4:T1)(v7:T1)(v14:T1)(v15:Bool)(v16:Int):Option (Sum (T1×Bool×Int) (Sum (T1×Bool) (T1×Bool))):=
  cond (decide (0≤v16)) ((idx v7 v16).bind fun v17=>(zav v1 v2 v3 v4 v14 v15).bind fun v18=>(zbM v1 v18.1 v17).bind fun v19=>some (.inl (v18.2.1,(v18.2.2||(!v19)),(IntKind.i64.wrap (v16-1))))) (some (.inr (.inl (v14,v15))))
def zS(v1:List zb)(v2:T0)(v3:zd)(v4:T1)(v5:T1)(v6:Bool)(v7:T1):Option (T1×Bool):=
  (zu (fun z=>zaF v1 v2 v3 v4 v7 z.1 z.2.1 z.2.2) (v5,v6,(IntKind.i64.wrap ((length v7:Int)-1)))).bind fun o=>zU o (fun b=>zgA b.1 b.2) some
theorem zZ(v1:List zb)(v2:T0)(v3:zd)(v4:T1)(v5:T1)(v6:Bool)(v7:T1){r:T1×Bool}(h:zS v1 v2 v3 v4 v5 v6 v7=some r):SC Tryz.prog 203 [.mpt 0 0 0,.isl 1 (map zf v7)] [.one 15 (rK v1 v2 v3 (.isl 1 (map zf v4)) (.isl 1 (map zf v5)) (bA v6))] (.tup []) [.one 15 (rK v1 v2 v3 (.isl 1 (map zf v4)) (.isl 1 (map zf r.1)) (bA r.2))]:=by
 refine ⟨⟨t,t⟩,zW Tryz.func203 y kz y ?_⟩
 unfold zS at h
 refine rg y<|u<|mv y<|u<|lnI ti y y<|u<|sub ti y y<|u<|asg y<|za ?_
 obtain ⟨o,ho,h⟩:=bs h
 refine zX (X:=T1×Bool×Int) (B:=T1×Bool) (R:=T1×Bool) (fun z=>[(0,.mpt 0 0 0),(1,.isl 1 (map zf v7)),(4,iA z.2.2)]) (fun z=>[some (15,[(rK v1 v2 v3 (.isl 1 (map zf v4)) (.isl 1 (map zf z.1)) (bA z.2.1))])]) (fun b=>[]) (fun b=>[some (15,[(rK v1 v2 v3 (.isl 1 (map zf v4)) (.isl 1 (map zf b.1)) (bA b.2))])]) (fun r env st=>zaN Tryz.prog Tryz.f203 1 (.tup []) [some (15,[(rK v1 v2 v3 (.isl 1 (map zf v4)) (.isl 1 (map zf r.1)) (bA r.2))])] env st) ho (zo [.old 0]) ?_ ?_ ?_
 ·
  rintro ⟨v14,v15,v16⟩ r h
  replace h:zaF v1 v2 v3 v4 v7 v14 v15 v16=some r:=h
  unfold zaF at h
  refine zi ?_
  refine rg y<|u<|mv y<|u<|geq ti y y<|za ?_
  refine ze y (fun hc5=>?_) (fun hc5=>?_)
  ·
   replace h:=bT hc5 h
   refine zg ?_
   refine zi ?_
   refine zr ?_
   obtain ⟨v17,q6,h⟩:=bs h
   obtain ⟨v18,q7,h⟩:=bs h
   obtain ⟨v19,q8,h⟩:=bs h
   refine zjq [(0,.mpt 0 0 0),(1,.isl 1 (map zf v7)),(4,iA v16)] [some (15,[(rK v1 v2 v3 (.isl 1 (map zf v4)) (.isl 1 (map zf v18.2.1)) (bA (v18.2.2||(!v19))))])] [6,12] [10,9,8,7,5,4,3,2,1,0] [(22,sA v17),(21,.ipt 1 (map zf v7) (Int.toNat v16) 0),(20,iA v16),(19,.isl 1 (map zf v7)),(17,.mpt 0 0 0),(16,.ipt 1 [[.isl 6 (map zc v1)]] 0 0),(15,.mpt 0 0 0),(14,.mpt 0 0 0),(13,.mpt 0 0 0),(12,.mpt 0 0 0)] 2 (zem ⟨(pb y (ldI ti y (zl q6).2.2 y w)),(pb y (ixI ti y ti y y y q6 w)),pe,pe,pe,pe,pe,pe,pe,pe,t⟩ ⟨(fun _ _=>⟨_,y,y,sx [0] (zaW v1 v2 v3 v4 v14 v15 q7)<|⟨(sA v18.1),[11],[(23,bA v19),(18,sA v18.1)],y,y,kz,y,zem ⟨(pb y (pc (zc4 v1 v18.1 v17 q8) y y y w)),(pb y (ldI ti y (zl q6).2.2 y w)),(pb y (ixI ti y ti y y y q6 w)),pe,pe,pe,pe,pe,pe,pe,pe,t⟩ ⟨nv,(fun _ _=>⟨_,y,y,sx [0] (zp v1 v2 v3 v4 v18.2.1 v18.2.2 v19 y)<|⟨(.tup []),[],[(24,.tup [])],y,y,kz,y,zht ⟨pe,(pb y (ldI ti y (zl q6).2.2 y w)),(pb y (ixI ti y ti y y y q6 w)),pe,pe,pe,pe,pe,pe,pe,pe,t⟩ (zo [.old 0])⟩⟩),t⟩⟩⟩),nw,t⟩) ?_
   refine rl y<|u<|mv y<|u<|sub ti y y<|u<|asg y<|za ?_
   obtain rfl:=sm h
   exact ⟨_,y,zo [.old 0]⟩
  ·
   replace h:=bF hc5 h
   refine zD ?_
   obtain rfl:=sm h
   exact ⟨y,_,y,zo [.old 0]⟩
 ·
  rintro ⟨v20,v21⟩ rfl
  replace h:zgA v20 v21=some r:=h
  unfold zgA at h
  refine zw ?_
  obtain rfl:=sm h
  exact ⟨_,y,zy [.old 0]⟩
 ·
  rintro r' rfl env st hp
  obtain rfl:=sm h
  exact hp
def zO(v1:List zb)(v2:T0)(v3:zd)(v4:T1)(v5:T1)(v6:Bool)(v7:T0):Option (T1×Bool):=
  (zis 16 ([]:T1) v5).bind fun v8=>(zis 16 v8 [v7]).bind fun v9=>some (v9,(v6||(!(decide ((length v9:Int)≤v3.Stack)))))
theorem zN(v1:List zb)(v2:T0)(v3:zd)(v4:T1)(v5:T1)(v6:Bool)(v7:T0){r:T1×Bool}(h:zO v1 v2 v3 v4 v5 v6 v7=some r):SC Tryz.prog 204 [.mpt 0 0 0,sA v7] [.one 15 (rK v1 v2 v3 (.isl 1 (map zf v4)) (.isl 1 (map zf v5)) (bA v6))] (.tup []) [.one 15 (rK v1 v2 v3 (.isl 1 (map zf v4)) (.isl 1 (map zf r.1)) (bA r.2))]:=by
 refine ⟨⟨t,t⟩,zW Tryz.func204 y kz y ?_⟩
 unfold zO at h
 obtain ⟨v8,q1,h⟩:=bs h
 obtain ⟨v9,q2,h⟩:=bs h
 refine rg y<|u<|mv y<|u<|mv y<|u<|nc y y<|u<|fa ti y y y<|u<|fa ti y y y<|u<|ld ti y y<|u<|apN (f:=zf) 1 ti y ti y y (by decide) ti y y y roI (fun _=>y) y q1<|u<|mv y<|u<|bl 2 ti y ti y (by decide) (by decide) y y y<|u<|apM 3 ti y ti y y (by decide) ti y y y y (roX (f:=zf) (z:=[v7]) y y) (fun _=>y) y q2<|u<|nc y y<|u<|fa ti y y y<|u<|fa ti y y y<|u<|sto ti y y y<|za ?_
 refine zpn (env0:=[(0,.mpt 0 0 0)]) (st0:=[some (15,[(rK v1 v2 v3 (.isl 1 (map zf v4)) (.isl 1 (map zf v9)) (bA v6))])]) (zo [.old 0]) ?_
 refine zjq [] [some (15,[(rK v1 v2 v3 (.isl 1 (map zf v4)) (.isl 1 (map zf v9)) (bA (v6||(!(decide ((length v9:Int)≤v3.Stack))))))])] [13] [12,11,10,9,8,7,6,5,4,3,2,1,0] [(29,bA (decide ((length v9:Int)≤v3.Stack))),(28,iA v3.Stack),(27,.mpt 0 0 8),(26,.mpt 0 0 2),(25,.mpt 0 0 0),(24,.mpt 0 0 0),(23,iA (length v9:Int)),(22,.isl 1 (map zf v9)),(21,.mpt 0 0 13),(20,.mpt 0 0 12),(19,.mpt 0 0 0),(18,.mpt 0 0 0),(17,.mpt 0 0 0)] 1 (zem ⟨pe,pe,pe,pe,pe,pe,(pb y (lnI ti y y w)),pe,pe,pe,pe,pe,pe,t⟩ ⟨(fun _ _=>⟨_,y,y,sx [0] (zp v1 v2 v3 v4 v9 v6 (decide ((length v9:Int)≤v3.Stack)) y)<|⟨(.tup []),[],[(30,.tup [])],y,y,kz,y,zht ⟨pe,pe,pe,pe,pe,pe,(pb y (lnI ti y y w)),pe,pe,pe,pe,pe,pe,t⟩ (zo [.old 0])⟩⟩),t⟩) ?_
 obtain rfl:=sm h
 exact ⟨_,y,zy [.old 0]⟩
def zbJ(v1:List zb)(v2:T0)(v3:zd)(v4:T1)(v5:T1)(v6:Bool):Option (T0×T1×Bool):=
  (zav v1 v2 v3 v4 v5 v6).bind fun v7=>some (v7.1,v7.2.1,(v7.2.2||(!(!(v7.1 == [73])))))
theorem zcE(v1:List zb)(v2:T0)(v3:zd)(v4:T1)(v5:T1)(v6:Bool){r:T0×T1×Bool}(h:zbJ v1 v2 v3 v4 v5 v6=some r):SC Tryz.prog 256 [.mpt 0 0 0] [.one 15 (rK v1 v2 v3 (.isl 1 (map zf v4)) (.isl 1 (map zf v5)) (bA v6))] (sA r.1) [.one 15 (rK v1 v2 v3 (.isl 1 (map zf v4)) (.isl 1 (map zf r.2.1)) (bA r.2.2))]:=by
 refine ⟨⟨t,t⟩,zW Tryz.func256 y kz y ?_⟩
 unfold zbJ at h
 refine rg y<|u<|asg y<|za ?_
 obtain ⟨v7,q1,h⟩:=bs h
 refine rg y<|u<|mv y<|u<|sx [0] (zaW v1 v2 v3 v4 v5 v6 q1)<|zx (env0:=[(0,.mpt 0 0 0),(5,sA v7.1)]) (st0:=[some (15,[(rK v1 v2 v3 (.isl 1 (map zf v4)) (.isl 1 (map zf v7.2.1)) (bA v7.2.2))])]) (zo [.old 0])<|u<|asg y<|za ?_
 refine rg y<|u<|mv y<|u<|mv y<|u<|sne ti y y<|u<|sx [0] (zp v1 v2 v3 v4 v7.2.1 v7.2.2 (!(v7.1 == [73])) y)<|zx (env0:=[(3,sA v7.1)]) (st0:=[some (15,[(rK v1 v2 v3 (.isl 1 (map zf v4)) (.isl 1 (map zf v7.2.1)) (bA (v7.2.2||(!(!(v7.1 == [73]))))))])]) (zo [.old 0])<|za ?_
 refine rg y<|u<|mv y<|u<|asg y<|za ?_
 refine zj ?_
 obtain rfl:=sm h
 exact ⟨_,y,zy [.old 0]⟩
def za5(v1:List zb)(v2:T0)(v3:zd)(v4:T1)(v7:zH)(v13:T1)(v14:Bool):Option (T1×Bool):=
  (zdt v1 v2 v3 v4 v13 v14 v7.A v4 v13).bind fun v15=>some (v13,v15)
def zcP(v1:List zb)(v2:T0)(v3:zd)(v4:T1)(v5:T1)(v6:Bool)(v7:zH):Option (T1×Bool):=
  cond (decide (v7.Op≤26)) ((zS v1 v2 v3 v4 v5 v6 ([[73]])).bind fun v8=>za5 v1 v2 v3 v4 v7 v8.1 v8.2) (cond (decide (v7.Op≤32)) ((zS v1 v2 v3 v4 v5 v6 ([[73],[73]])).bind fun v9=>za5 v1 v2 v3 v4 v7 v9.1 v9.2) (cond (decide (v7.Op≤34)) ((zbJ v1 v2 v3 v4 v5 v6).bind fun v10=>za5 v1 v2 v3 v4 v7 v10.2.1 v10.2.2) ((zbJ v1 v2 v3 v4 v5 v6).bind fun v11=>(zbJ v1 v2 v3 v4 v11.2.1 v11.2.2).bind fun v12=>za5 v1 v2 v3 v4 v7 v12.2.1 v12.2.2)))
theorem zl7(v1:List zb)(v2:T0)(v3:zd)(v4:T1)(v5:T1)(v6:Bool)(v7:zH){r:T1×Bool}(h:zcP v1 v2 v3 v4 v5 v6 v7=some r):SC Tryz.prog 205 [.mpt 0 0 0,.agg (zv v7)] [.one 15 (rK v1 v2 v3 (.isl 1 (map zf v4)) (.isl 1 (map zf v5)) (bA v6))] (.tup []) [.one 15 (rK v1 v2 v3 (.isl 1 (map zf v4)) (.isl 1 (map zf r.1)) (bA r.2))]:=by
 refine ⟨⟨t,t⟩,zW Tryz.func205 y kz y ?_⟩
 unfold zcP at h
 refine rg y<|u<|bx 1 4 y y y y<|za ?_
 refine za6 (X:=T1×Bool) (fun z=>[(0,.mpt 0 0 0),(3,.mpt 1 0 0)]) (fun z=>[some (15,[(rK v1 v2 v3 (.isl 1 (map zf v4)) (.isl 1 (map zf z.1)) (bA z.2))]),some (4,[(zv v7)])]) (fun z=>za5 v1 v2 v3 v4 v7 z.1 z.2=some r) ?_ ?_
 ·
  refine zr ?_
  refine rg y<|u<|fa ti y y y<|u<|ld ti y y<|u<|leq ti y y<|u<|asg y<|za ?_
  refine ze y (fun hc1=>?_) (fun hc1=>?_)
  ·
   replace h:=bT hc1 h
   obtain ⟨v8,q2,h⟩:=bs h
   exact rl y<|u<|mv y<|u<|bl 2 ti y ti y (by decide) (by decide) y y y<|zx (env0:=[(0,.mpt 0 0 0),(3,.mpt 1 0 0),(12,.mpt 0 0 0),(13,.isl 1 (map zf ([[73]])))]) (st0:=[some (15,[(rK v1 v2 v3 (.isl 1 (map zf v4)) (.isl 1 (map zf v5)) (bA v6))]),some (4,[(zv v7)])]) (zo [.old 0,.old 1])<|u<|sx [0] (zZ v1 v2 v3 v4 v5 v6 ([[73]]) q2)<|zx (env0:=[(0,.mpt 0 0 0),(3,.mpt 1 0 0)]) (st0:=[some (15,[(rK v1 v2 v3 (.isl 1 (map zf v4)) (.isl 1 (map zf v8.1)) (bA v8.2))]),some (4,[(zv v7)])]) (zo [.old 0,.old 1])<|za (⟨⟨v8.1,v8.2⟩,h,zo [.old 0,.old 1]⟩)
  ·
   replace h:=bF hc1 h
   refine rg y<|u<|fa ti y y y<|u<|ld ti y y<|u<|leq ti y y<|u<|asg y<|za ?_
   refine ze y (fun hc3=>?_) (fun hc3=>?_)
   ·
    replace h:=bT hc3 h
    obtain ⟨v9,q4,h⟩:=bs h
    exact rl y<|u<|mv y<|u<|bl 2 ti y ti y (by decide) (by decide) y y y<|zx (env0:=[(0,.mpt 0 0 0),(3,.mpt 1 0 0),(19,.mpt 0 0 0),(20,.isl 1 (map zf ([[73],[73]])))]) (st0:=[some (15,[(rK v1 v2 v3 (.isl 1 (map zf v4)) (.isl 1 (map zf v5)) (bA v6))]),some (4,[(zv v7)])]) (zo [.old 0,.old 1])<|u<|sx [0] (zZ v1 v2 v3 v4 v5 v6 ([[73],[73]]) q4)<|zx (env0:=[(0,.mpt 0 0 0),(3,.mpt 1 0 0)]) (st0:=[some (15,[(rK v1 v2 v3 (.isl 1 (map zf v4)) (.isl 1 (map zf v9.1)) (bA v9.2))]),some (4,[(zv v7)])]) (zo [.old 0,.old 1])<|za (⟨⟨v9.1,v9.2⟩,h,zo [.old 0,.old 1]⟩)
   ·
    replace h:=bF hc3 h
    refine rg y<|u<|fa ti y y y<|u<|ld ti y y<|u<|leq ti y y<|u<|asg y<|za ?_
    refine ze y (fun hc5=>?_) (fun hc5=>?_)
    ·
     replace h:=bT hc5 h
     obtain ⟨v10,q6,h⟩:=bs h
     exact rl y<|u<|mv y<|u<|sx [0] (zcE v1 v2 v3 v4 v5 v6 q6)<|zx (env0:=[(0,.mpt 0 0 0),(3,.mpt 1 0 0)]) (st0:=[some (15,[(rK v1 v2 v3 (.isl 1 (map zf v4)) (.isl 1 (map zf v10.2.1)) (bA v10.2.2))]),some (4,[(zv v7)])]) (zo [.old 0,.old 1])<|za (⟨⟨v10.2.1,v10.2.2⟩,h,zo [.old 0,.old 1]⟩)
    ·
     replace h:=bF hc5 h
     obtain ⟨v11,q7,h⟩:=bs h
     refine rg y<|u<|mv y<|u<|sx [0] (zcE v1 v2 v3 v4 v5 v6 q7)<|zx (env0:=[(0,.mpt 0 0 0),(3,.mpt 1 0 0)]) (st0:=[some (15,[(rK v1 v2 v3 (.isl 1 (map zf v4)) (.isl 1 (map zf v11.2.1)) (bA v11.2.2))]),some (4,[(zv v7)])]) (zo [.old 0,.old 1])<|za ?_
     obtain ⟨v12,q8,h⟩:=bs h
     exact rl y<|u<|mv y<|u<|sx [0] (zcE v1 v2 v3 v4 v11.2.1 v11.2.2 q8)<|zx (env0:=[(0,.mpt 0 0 0),(3,.mpt 1 0 0)]) (st0:=[some (15,[(rK v1 v2 v3 (.isl 1 (map zf v4)) (.isl 1 (map zf v12.2.1)) (bA v12.2.2))]),some (4,[(zv v7)])]) (zo [.old 0,.old 1])<|za (⟨⟨v12.2.1,v12.2.2⟩,h,zo [.old 0,.old 1]⟩)
 ·
  rintro ⟨v13,v14⟩ h
  replace h:za5 v1 v2 v3 v4 v7 v13 v14=some r:=h
  unfold za5 at h
  obtain ⟨v15,q9,h⟩:=bs h
  refine zjq [] [some (15,[(rK v1 v2 v3 (.isl 1 (map zf v4)) (.isl 1 (map zf v13)) (bA v15))])] [13] [12,11,10,9,8,7,6,5,4,3,2,1,0] [(40,.isl 1 (map zf v13)),(39,.mpt 0 0 13),(38,.mpt 0 0 12),(37,.mpt 0 0 0),(36,.mpt 0 0 0),(35,.isl 1 (map zf v4)),(34,.mpt 0 0 12),(33,.mpt 0 0 12),(32,.mpt 0 0 0),(31,.mpt 0 0 0),(30,iA v7.A),(29,.mpt 1 0 1),(28,.mpt 0 0 0)] 1 (zma ⟨(fun _ _=>⟨_,y,y,sx [0] (zgE v1 v2 v3 v4 v13 v14 v7.A v4 v13 q9)<|⟨(.tup []),[],[(41,.tup [])],y,y,kz,y,zhW (zo [.old 0])⟩⟩),t⟩) ?_
  obtain rfl:=sm h
  exact ⟨_,y,zy [.old 0]⟩
def zhI:Option (T0×zt×Bool):=
  some ([],(zt.mk [] [] false),false)
def zcp(v1:List zb)(v3:T0)(v4:T1)(v12:Int):Option (Sum (Int) (Sum (Unit) (T0×zt×Bool))):=
  cond (decide (v12<((length v4):Int))) ((idx v4 v12).bind fun v13=>(zaD v1 v13).bind fun v14=>(idx v1 v14).bind fun v15=>(ziN v15 v3).bind fun v16=>cond (decide (0≤v16)) ((idx v4 v12).bind fun v17=>(idx v15.Fields v16).bind fun v18=>some (.inr (.inr (v17,v18,true)))) (some (.inl (IntKind.i64.wrap (v12+1))))) (some (.inr (.inl ())))
def zfX(v1:List zb)(v2:T0)(v3:T0):Option (T0×zt×Bool):=
  (zby v1 v2).bind fun v4=>(zu (fun z=>zcp v1 v3 v4 z) 0).bind fun o=>zU o (fun b=>zhI) some
theorem zjr(v1:List zb)(v2:T0)(v3:T0){r:T0×zt×Bool}(h:zfX v1 v2 v3=some r):zI Tryz.prog 257 [.ipt 1 [[.isl 6 (map zc v1)]] 0 0,sA v2,sA v3] (.tup [sA r.1,.agg (zJ r.2.1),bA r.2.2]):=by
 refine zq Tryz.func257 y kz y y ?_
 unfold zfX at h
 refine rg y<|u<|asg y<|u<|al 0 ti y<|u<|asg y<|za ?_
 obtain ⟨v4,q1,h⟩:=bs h
 refine rg y<|u<|mv y<|u<|mv y<|u<|sx [] (zcu v1 v2 q1)<|zx (env0:=[(0,.ipt 1 [[.isl 6 (map zc v1)]] 0 0),(2,sA v3),(7,.mpt 0 0 0),(15,.msl 1 0 (length v4))]) (st0:=[some (3,[[sA [],sA [],bA false]]),some (1,map zf v4)]) (zo [.old 0,.old 1])<|u<|asg y<|za ?_
 refine zi ?_
 refine rg y<|u<|asg y<|za ?_
 obtain ⟨o,ho,h⟩:=bs h
 refine zX (X:=Int) (B:=Unit) (R:=T0×zt×Bool) (fun z=>[(0,.ipt 1 [[.isl 6 (map zc v1)]] 0 0),(2,sA v3),(7,.mpt 0 0 0),(9,.msl 1 0 (length v4)),(10,iA z)]) (fun z=>[some (3,[[sA [],sA [],bA false]]),some (1,map zf v4)]) (fun b=>[(7,.mpt 0 0 0)]) (fun b=>[some (3,[[sA [],sA [],bA false]])]) (fun r env st=>zaN Tryz.prog Tryz.f257 0 (.tup [sA r.1,.agg (zJ r.2.1),bA r.2.2]) [] env st) ho (zo [.old 0,.old 1]) ?_ ?_ ?_
 ·
  rintro v12 r h
  replace h:zcp v1 v3 v4 v12=some r:=h
  unfold zcp at h
  refine zi ?_
  refine rg y<|u<|mv y<|u<|mv y<|u<|lnM ti y y y<|u<|lss ti y y<|za ?_
  refine ze y (fun hc10=>?_) (fun hc10=>?_)
  ·
   replace h:=bT hc10 h
   refine zg ?_
   refine zi ?_
   refine zr ?_
   obtain ⟨v13,q11,h⟩:=bs h
   obtain ⟨v14,q12,h⟩:=bs h
   obtain ⟨v15,q13,h⟩:=bs h
   refine rdA [(0,.ipt 1 [[.isl 6 (map zc v1)]] 0 0),(2,sA v3),(7,.mpt 0 0 0),(9,.msl 1 0 (length v4)),(10,iA v12),(11,.mpt 2 0 0)] [some (3,[[sA [],sA [],bA false]]),some (1,map zf v4),some (6,[(zc v15)])] [12,13] [11,10,9,8,7,6,5,4,3,2,1,0] [(33,.agg (zc v15)),(32,.ipt 6 (map zc v1) (Int.toNat v14) 0),(31,iA v14),(30,sA v13),(29,.mpt 1 (Int.toNat v12) 0),(28,iA v12),(27,.msl 1 0 (length v4)),(26,.ipt 1 [[.isl 6 (map zc v1)]] 0 0),(25,.isl 6 (map zc v1)),(24,.ipt 1 [[.isl 6 (map zc v1)]] 0 0),(23,.ipt 1 [[.isl 6 (map zc v1)]] 0 0),(22,.ipt 1 [[.isl 6 (map zc v1)]] 0 0)] 2 (zem ⟨(pb y (ldI ti y (zl q13).2.2 y w)),(pb y (ixI ti y ti y y y q13 w)),(pb y (pc (zV v1 v13 q12) y y y w)),(pb y (ldM ti y y (zl q11).2.2 y w)),(pb y (ixM ti y ti y y y y q11 w)),pe,pe,pe,pe,pe,pe,pe,t⟩ ⟨(fun _ _=>⟨_,y,y,al 2 ti y<|⟨(.mpt 2 0 0),[],[(11,.mpt 2 0 0)],y,y,kz,y,zem ⟨(pb y (ldI ti y (zl q13).2.2 y w)),(pb y (ixI ti y ti y y y q13 w)),(pb y (pc (zV v1 v13 q12) y y y w)),(pb y (ldM ti y y (zl q11).2.2 y w)),(pb y (ixM ti y ti y y y y q11 w)),pe,pe,pe,pe,pe,pe,pe,t⟩ ⟨nv,(fun _ _=>⟨_,y,y,sto ti y y y<|⟨.any,[],[],y,y,kz,t,zhW (zo [.old 0,.old 1,.old 2])⟩⟩),t⟩⟩⟩),nw,t⟩) ?_
   obtain ⟨v16,q14,h⟩:=bs h
   refine rg y<|u<|ld ti y y<|u<|mv y<|u<|pc (zm2 v15 v3 q14) y y y<|u<|asg y<|za ?_
   refine rg y<|u<|mv y<|u<|geq ti y y<|za ?_
   refine ze y (fun hc15=>?_) (fun hc15=>?_)
   ·
    replace h:=bT hc15 h
    obtain ⟨v17,q16,h⟩:=bs h
    obtain ⟨v18,q17,h⟩:=bs h
    refine rdA [(6,sA v17),(7,.mpt 0 0 0),(8,bA true)] [some (3,[(zJ v18)])] [10] [9,8,7,6,5,4,3,2,1,0] [(6,sA v17),(47,.agg (zJ v18)),(46,.ipt 3 (map zJ v15.Fields) (Int.toNat v16) 0),(45,iA v16),(44,.isl 3 (map zJ v15.Fields)),(43,.mpt 2 0 4),(42,sA v17),(41,.mpt 1 (Int.toNat v12) 0),(40,iA v12),(39,.msl 1 0 (length v4))] 1 (zem ⟨pe,(pb y (ldI ti y (zl q17).2.2 y w)),(pb y (ixI ti y ti y y y q17 w)),pe,pe,pe,(pb y (ldM ti y y (zl q16).2.2 y w)),(pb y (ixM ti y ti y y y y q16 w)),pe,pe,t⟩ ⟨(fun _ _=>⟨_,y,y,sto ti y y y<|⟨.any,[11],[(8,bA true)],y,y,kz,t,zhW (zo [.old 0])⟩⟩),t⟩) ?_
    refine zj ?_
    obtain rfl:=sm h
    exact ⟨_,y,_,y,zy []⟩
   ·
    replace h:=bF hc15 h
    refine zg ?_
    refine rl y<|u<|mv y<|u<|add ti y y<|u<|asg y<|za ?_
    obtain rfl:=sm h
    exact ⟨_,y,zo [.old 0,.old 1]⟩
  ·
   replace h:=bF hc10 h
   refine zD ?_
   obtain rfl:=sm h
   exact ⟨y,_,y,zo [.old 0]⟩
 ·
  rintro ⟨⟩ rfl
  replace h:zhI=some r:=h
  unfold zhI at h
  refine zw ?_
  refine rg y<|u<|bd ti y y y<|u<|asg y<|u<|sto ti y y y<|u<|asg y<|za ?_
  refine zj ?_
  obtain rfl:=sm h
  exact ⟨_,y,zy []⟩
 ·
  rintro r' rfl env st hp
  obtain rfl:=sm h
  exact hp
def zba(v1:List zb)(v2:T0)(v3:zd)(v4:T1)(v7:zH)(v11:T0×zt×Bool)(v16:T1)(v17:Bool):Option (T1×Bool):=
  cond ((v7.Op == (38:Int))||(v7.Op == (40:Int))) ((zO v1 v2 v3 v4 v16 v17 v11.2.1.Type_).bind fun v18=>some (v18.1,v18.2)) (some (v16,v17))
def zaz(v1:List zb)(v2:T0)(v3:zd)(v4:T1)(v7:zH)(v11:T0×zt×Bool)(v13:T1)(v14:Bool):Option (T1×Bool):=
  cond ((v7.Op == (38:Int))||(v7.Op == (39:Int))) ((zS v1 v2 v3 v4 v13 v14 [v7.C]).bind fun v15=>zba v1 v2 v3 v4 v7 v11 v15.1 v15.2) (zba v1 v2 v3 v4 v7 v11 v13 v14)
def zcs(v1:List zb)(v2:T0)(v3:zd)(v4:T1)(v5:T1)(v6:Bool)(v7:zH):Option (T1×Bool):=
  (zaD v1 v7.C).bind fun v8=>cond (decide (v8<0)) (some (v5,true)) (cond (v7.Op == (37:Int)) ((idx v1 v8).bind fun v9=>(zO v1 v2 v3 v4 v5 (v6||(!(!v9.Interface))) v7.C).bind fun v10=>some (v10.1,v10.2)) ((zfX v1 v7.C v7.M).bind fun v11=>cond (v6||(!(v11.2.2&&(v11.2.1.Static == ((v7.Op == (40:Int))||(v7.Op == (41:Int))))))) (some (v5,(v6||(!(v11.2.2&&(v11.2.1.Static == ((v7.Op == (40:Int))||(v7.Op == (41:Int))))))))) (cond ((v7.Op == (39:Int))||(v7.Op == (41:Int))) ((zS v1 v2 v3 v4 v5 (v6||(!(v11.2.2&&(v11.2.1.Static == ((v7.Op == (40:Int))||(v7.Op == (41:Int))))))) [v11.2.1.Type_]).bind fun v12=>zaz v1 v2 v3 v4 v7 v11 v12.1 v12.2) (zaz v1 v2 v3 v4 v7 v11 v5 (v6||(!(v11.2.2&&(v11.2.1.Static == ((v7.Op == (40:Int))||(v7.Op == (41:Int)))))))))))
theorem zlB(v1:List zb)(v2:T0)(v3:zd)(v4:T1)(v5:T1)(v6:Bool)(v7:zH){r:T1×Bool}(h:zcs v1 v2 v3 v4 v5 v6 v7=some r):SC Tryz.prog 206 [.mpt 0 0 0,.agg (zv v7)] [.one 15 (rK v1 v2 v3 (.isl 1 (map zf v4)) (.isl 1 (map zf v5)) (bA v6))] (.tup []) [.one 15 (rK v1 v2 v3 (.isl 1 (map zf v4)) (.isl 1 (map zf r.1)) (bA r.2))]:=by
 refine ⟨⟨t,t⟩,zW Tryz.func206 y kz y ?_⟩
 unfold zcs at h
 refine rg y<|u<|bx 1 4 y y y y<|za ?_
 obtain ⟨v8,q1,h⟩:=bs h
 refine rdA [(0,.mpt 0 0 0),(3,.mpt 1 0 0),(4,iA v8)] [some (15,[(rK v1 v2 v3 (.isl 1 (map zf v4)) (.isl 1 (map zf v5)) (bA v6))]),some (4,[(zv v7)])] [] [7,6,5,4,3,2,1,0] [(4,iA v8),(14,iA v8),(13,sA v7.C),(12,.mpt 1 0 2),(11,.ipt 1 [[.isl 6 (map zc v1)]] 0 0),(10,.mpt 0 0 0),(9,.mpt 0 0 0),(8,.mpt 0 0 0)] 0 (zht ⟨pe,(pb y (pc (zV v1 v7.C q1) y y y w)),pe,pe,pe,pe,pe,pe,t⟩ (zo [.old 0,.old 1])) ?_
 refine zi ?_
 refine rg y<|u<|mv y<|u<|lss ti y y<|za ?_
 refine ze y (fun hc2=>?_) (fun hc2=>?_)
 ·
  replace h:=bT hc2 h
  refine rg y<|u<|mv y<|u<|nc y y<|u<|fa ti y y y<|u<|sto ti y y y<|za ?_
  refine zj ?_
  obtain rfl:=sm h
  exact ⟨_,y,zy [.old 0]⟩
 ·
  replace h:=bF hc2 h
  refine zg ?_
  refine zi ?_
  refine rg y<|u<|fa ti y y y<|u<|ld ti y y<|u<|eql ti y y<|za ?_
  refine ze y (fun hc3=>?_) (fun hc3=>?_)
  ·
   replace h:=bT hc3 h
   obtain ⟨v9,q4,h⟩:=bs h
   refine rg y<|u<|mv y<|u<|mv y<|u<|nc y y<|u<|fa ti y y y<|u<|ld ti y y<|u<|nc y y<|u<|fa ti y y y<|u<|ld ti y y<|u<|mv y<|u<|ixI ti y ti y y y q4<|u<|fa ti y y y<|u<|ldI ti y (zl q4).2.2 y<|u<|nt y<|u<|sx [0] (zp v1 v2 v3 v4 v5 v6 (!v9.Interface) y)<|zx (env0:=[(0,.mpt 0 0 0),(3,.mpt 1 0 0)]) (st0:=[some (15,[(rK v1 v2 v3 (.isl 1 (map zf v4)) (.isl 1 (map zf v5)) (bA (v6||(!(!v9.Interface)))))]),some (4,[(zv v7)])]) (zo [.old 0,.old 1])<|za ?_
   obtain ⟨v10,q5,h⟩:=bs h
   refine rg y<|u<|mv y<|u<|fa ti y y y<|u<|ld ti y y<|u<|sx [0] (zN v1 v2 v3 v4 v5 (v6||(!(!v9.Interface))) v7.C q5)<|zx (env0:=[]) (st0:=[some (15,[(rK v1 v2 v3 (.isl 1 (map zf v4)) (.isl 1 (map zf v10.1)) (bA v10.2))])]) (zo [.old 0])<|za ?_
   refine zj ?_
   obtain rfl:=sm h
   exact ⟨_,y,zy [.old 0]⟩
  ·
   replace h:=bF hc3 h
   refine zg ?_
   obtain ⟨v11,q6,h⟩:=bs h
   refine rdA [(0,.mpt 0 0 0),(3,.mpt 1 0 0),(6,.mpt 2 0 0),(7,bA v11.2.2)] [some (15,[(rK v1 v2 v3 (.isl 1 (map zf v4)) (.isl 1 (map zf v5)) (bA v6))]),some (4,[(zv v7)]),some (3,[(zJ v11.2.1)])] [13,15] [12,11,10,9,8,7,6,5,4,3,2,1,0] [(53,bA v11.2.2),(52,.agg (zJ v11.2.1)),(51,sA v11.1),(41,.tup [sA v11.1,.agg (zJ v11.2.1),bA v11.2.2]),(50,.tup [sA v11.1,.agg (zJ v11.2.1),bA v11.2.2]),(49,sA v7.M),(48,.mpt 1 0 3),(47,sA v7.C),(46,.mpt 1 0 2),(45,.ipt 1 [[.isl 6 (map zc v1)]] 0 0),(44,.mpt 0 0 0),(43,.mpt 0 0 0),(42,.mpt 0 0 0)] 2 (zem ⟨pe,pe,pe,pe,(pb y (pc (zjr v1 v7.C v7.M q6) y y y w)),pe,pe,pe,pe,pe,pe,pe,pe,t⟩ ⟨(fun _ _=>⟨_,y,y,al 2 ti y<|⟨(.mpt 2 0 0),[14],[(5,sA v11.1),(6,.mpt 2 0 0)],y,y,kz,y,zem ⟨pe,pe,pe,pe,pe,(pb y (pc (zjr v1 v7.C v7.M q6) y y y w)),pe,pe,pe,pe,pe,pe,pe,pe,t⟩ ⟨nv,(fun _ _=>⟨_,y,y,sto ti y y y<|⟨.any,[16],[(7,bA v11.2.2)],y,y,kz,t,zhW (zo [.old 0,.old 1,.old 2])⟩⟩),t⟩⟩⟩),nw,t⟩) ?_
   refine rg y<|u<|mv y<|u<|mv y<|u<|mv y<|z7 (j:=2) 11 y y y y y gpn (fun hb7=>g y hb7<|fa ti y y y<|g y hb7<|ld ti y y<|g y hb7<|fa ti y y y<|g y hb7<|ld ti y y<|g y hb7<|eql ti y y<|g y hb7<|mv y<|zdj (j:=8) 3 y y y y y (gps y y hb7) (fun hb8=>g y hb8<|fa ti y y y<|g y hb8<|ld ti y y<|g y hb8<|eql ti y y<|za (egO [63,64,65] 3 hb8 y y y y)) orT<|g y hb7<|beq ti y y y<|za (egA [57,58,59,60,61,62,63,64,65,66,67] 8 hb7 y y y y)) ze2<|u<|sx [0] (zp v1 v2 v3 v4 v5 v6 (v11.2.2&&(v11.2.1.Static == ((v7.Op == (40:Int))||(v7.Op == (41:Int))))) y)<|zx (env0:=[(0,.mpt 0 0 0),(3,.mpt 1 0 0),(6,.mpt 2 0 0)]) (st0:=[some (15,[(rK v1 v2 v3 (.isl 1 (map zf v4)) (.isl 1 (map zf v5)) (bA (v6||(!(v11.2.2&&(v11.2.1.Static == ((v7.Op == (40:Int))||(v7.Op == (41:Int)))))))))]),some (4,[(zv v7)]),some (3,[(zJ v11.2.1)])]) (zo [.old 0,.old 1,.old 2])<|za ?_
   refine zi ?_
   refine rg y<|u<|mv y<|u<|nc y y<|u<|fa ti y y y<|u<|ld ti y y<|za ?_
   refine ze y (fun hc9=>?_) (fun hc9=>?_)
   ·
    replace h:=bT hc9 h
    refine zj ?_
    obtain rfl:=sm h
    exact ⟨_,y,zy [.old 0]⟩
   ·
    replace h:=bF hc9 h
    refine zg ?_
    refine za6 (X:=T1×Bool) (fun z=>[(0,.mpt 0 0 0),(3,.mpt 1 0 0),(6,.mpt 2 0 0)]) (fun z=>[some (15,[(rK v1 v2 v3 (.isl 1 (map zf v4)) (.isl 1 (map zf z.1)) (bA z.2))]),some (4,[(zv v7)]),some (3,[(zJ v11.2.1)])]) (fun z=>zaz v1 v2 v3 v4 v7 v11 z.1 z.2=some r) ?_ ?_
    ·
     refine rg y<|u<|fa ti y y y<|u<|ld ti y y<|u<|eql ti y y<|u<|mv y<|zdj (j:=3) 3 y y y y y gpn (fun hb10=>g y hb10<|fa ti y y y<|g y hb10<|ld ti y y<|g y hb10<|eql ti y y<|za (egO [78,79,80] 3 hb10 y y y y)) orT<|za ?_
     refine ze y (fun hc11=>?_) (fun hc11=>?_)
     ·
      replace h:=bT hc11 h
      obtain ⟨v12,q12,h⟩:=bs h
      exact rl y<|u<|mv y<|u<|fa ti y y y<|u<|ld ti y y<|u<|bl 3 ti y ti y (by decide) (by decide) y y y<|zx (env0:=[(0,.mpt 0 0 0),(3,.mpt 1 0 0),(6,.mpt 2 0 0),(82,.mpt 0 0 0),(85,.isl 1 (map zf [v11.2.1.Type_]))]) (st0:=[some (15,[(rK v1 v2 v3 (.isl 1 (map zf v4)) (.isl 1 (map zf v5)) (bA (v6||(!(v11.2.2&&(v11.2.1.Static == ((v7.Op == (40:Int))||(v7.Op == (41:Int)))))))))]),some (4,[(zv v7)]),some (3,[(zJ v11.2.1)])]) (zo [.old 0,.old 1,.old 2])<|u<|sx [0] (zZ v1 v2 v3 v4 v5 (v6||(!(v11.2.2&&(v11.2.1.Static == ((v7.Op == (40:Int))||(v7.Op == (41:Int))))))) [v11.2.1.Type_] q12)<|zx (env0:=[(0,.mpt 0 0 0),(3,.mpt 1 0 0),(6,.mpt 2 0 0)]) (st0:=[some (15,[(rK v1 v2 v3 (.isl 1 (map zf v4)) (.isl 1 (map zf v12.1)) (bA v12.2))]),some (4,[(zv v7)]),some (3,[(zJ v11.2.1)])]) (zo [.old 0,.old 1,.old 2])<|za (⟨⟨v12.1,v12.2⟩,h,zo [.old 0,.old 1,.old 2]⟩)
     ·
      replace h:=bF hc11 h
      refine zg ?_
      exact ⟨⟨v5,(v6||(!(v11.2.2&&(v11.2.1.Static == ((v7.Op == (40:Int))||(v7.Op == (41:Int)))))))⟩,h,zo [.old 0,.old 1,.old 2]⟩
    ·
     rintro ⟨v13,v14⟩ h
     replace h:zaz v1 v2 v3 v4 v7 v11 v13 v14=some r:=h
     unfold zaz at h
     refine za6 (X:=T1×Bool) (fun z=>[(0,.mpt 0 0 0),(3,.mpt 1 0 0),(6,.mpt 2 0 0)]) (fun z=>[some (15,[(rK v1 v2 v3 (.isl 1 (map zf v4)) (.isl 1 (map zf z.1)) (bA z.2))]),some (4,[(zv v7)]),some (3,[(zJ v11.2.1)])]) (fun z=>zba v1 v2 v3 v4 v7 v11 z.1 z.2=some r) ?_ ?_
     ·
      refine rg y<|u<|fa ti y y y<|u<|ld ti y y<|u<|eql ti y y<|u<|mv y<|zdj (j:=3) 3 y y y y y gpn (fun hb13=>g y hb13<|fa ti y y y<|g y hb13<|ld ti y y<|g y hb13<|eql ti y y<|za (egO [91,92,93] 3 hb13 y y y y)) orT<|za ?_
      refine ze y (fun hc14=>?_) (fun hc14=>?_)
      ·
       replace h:=bT hc14 h
       obtain ⟨v15,q15,h⟩:=bs h
       exact rl y<|u<|mv y<|u<|fa ti y y y<|u<|ld ti y y<|u<|bl 3 ti y ti y (by decide) (by decide) y y y<|zx (env0:=[(0,.mpt 0 0 0),(3,.mpt 1 0 0),(6,.mpt 2 0 0),(95,.mpt 0 0 0),(98,.isl 1 (map zf [v7.C]))]) (st0:=[some (15,[(rK v1 v2 v3 (.isl 1 (map zf v4)) (.isl 1 (map zf v13)) (bA v14))]),some (4,[(zv v7)]),some (3,[(zJ v11.2.1)])]) (zo [.old 0,.old 1,.old 2])<|u<|sx [0] (zZ v1 v2 v3 v4 v13 v14 [v7.C] q15)<|zx (env0:=[(0,.mpt 0 0 0),(3,.mpt 1 0 0),(6,.mpt 2 0 0)]) (st0:=[some (15,[(rK v1 v2 v3 (.isl 1 (map zf v4)) (.isl 1 (map zf v15.1)) (bA v15.2))]),some (4,[(zv v7)]),some (3,[(zJ v11.2.1)])]) (zo [.old 0,.old 1,.old 2])<|za (⟨⟨v15.1,v15.2⟩,h,zo [.old 0,.old 1,.old 2]⟩)
      ·
       replace h:=bF hc14 h
       refine zg ?_
       exact ⟨⟨v13,v14⟩,h,zo [.old 0,.old 1,.old 2]⟩
     ·
      rintro ⟨v16,v17⟩ h
      replace h:zba v1 v2 v3 v4 v7 v11 v16 v17=some r:=h
      unfold zba at h
      refine rg y<|u<|fa ti y y y<|u<|ld ti y y<|u<|eql ti y y<|u<|mv y<|zdj (j:=3) 3 y y y y y gpn (fun hb16=>g y hb16<|fa ti y y y<|g y hb16<|ld ti y y<|g y hb16<|eql ti y y<|za (egO [104,105,106] 3 hb16 y y y y)) orT<|za ?_
      refine ze y (fun hc17=>?_) (fun hc17=>?_)
      ·
       replace h:=bT hc17 h
       obtain ⟨v18,q18,h⟩:=bs h
       refine rl y<|u<|mv y<|u<|fa ti y y y<|u<|ld ti y y<|u<|sx [0] (zN v1 v2 v3 v4 v16 v17 v11.2.1.Type_ q18)<|zx (env0:=[]) (st0:=[some (15,[(rK v1 v2 v3 (.isl 1 (map zf v4)) (.isl 1 (map zf v18.1)) (bA v18.2))])]) (zo [.old 0])<|za ?_
       obtain rfl:=sm h
       exact ⟨_,y,zy [.old 0]⟩
      ·
       replace h:=bF hc17 h
       refine zg ?_
       obtain rfl:=sm h
       exact ⟨_,y,zy [.old 0]⟩
def zh7:Option (T0×zd×Bool):=
  some ([],(zd.mk [] [] [] false false 0 0 [] [] []),false)
def zcI(v1:List zb)(v3:T0)(v8:T1)(v16:Int):Option (Sum (Int) (Sum (Unit) (T0×zd×Bool))):=
  cond (decide (v16<((length v8):Int))) ((idx v8 v16).bind fun v17=>(zaD v1 v17).bind fun v18=>(idx v1 v18).bind fun v19=>(zg6 v19 v3).bind fun v20=>cond (decide (0≤v20)) ((idx v8 v16).bind fun v21=>(idx v19.Methods v20).bind fun v22=>some (.inr (.inr (v21,v22,true)))) (some (.inl (IntKind.i64.wrap (v16+1))))) (some (.inr (.inl ())))
def zgL(v1:List zb)(v2:T0)(v3:T0):Option (T0×zd×Bool):=
  (zaD v1 v2).bind fun v4=>(cond (decide (v4<0)) (some true) ((idx v1 v4).bind fun v5=>some (!v5.Interface))).bind fun v6=>cond v6 (some ([],(zd.mk [] [] [] false false 0 0 [] [] []),false)) ((zeQ v1 v2).bind fun v7=>(zis 16 [v2] v7).bind fun v8=>(zu (fun z=>zcI v1 v3 v8 z) 0).bind fun o=>zU o (fun b=>zh7) some)
theorem znY(v1:List zb)(v2:T0)(v3:T0){r:T0×zd×Bool}(h:zgL v1 v2 v3=some r):zI Tryz.prog 258 [.ipt 1 [[.isl 6 (map zc v1)]] 0 0,sA v2,sA v3] (.tup [sA r.1,.agg (zh r.2.1),bA r.2.2]):=by
 refine zq Tryz.func258 y kz y y ?_
 unfold zgL at h
 refine rg y<|u<|asg y<|u<|al 0 ti y<|u<|asg y<|za ?_
 obtain ⟨v4,q1,h⟩:=bs h
 refine rg y<|u<|mv y<|u<|mv y<|u<|pc (zV v1 v2 q1) y y y<|u<|asg y<|za ?_
 refine zi ?_
 obtain ⟨v6,q4,h⟩:=bs h
 refine rg y<|u<|mv y<|u<|lss ti y y<|u<|mv y<|zdj (x:=v6) (j:=2) 9 y y y y y gpn (fun hb2=>by replace q4:=bF hb2 q4;obtain ⟨v5,q3,q4⟩:=bs q4;obtain rfl:=sm q4;exact g y hb2<|mv y<|g y hb2<|nc y y<|g y hb2<|fa ti y y y<|g y hb2<|ld ti y y<|g y hb2<|mv y<|g y hb2<|ixI ti y ti y y y q3<|g y hb2<|fa ti y y y<|g y hb2<|ldI ti y (zl q3).2.2 y<|g y hb2<|nt y<|za (eg [20,21,22,23,24,25,26,27,28] 9 y y y y)) (fun hb=>(sm (bT hb q4)).symm)<|za ?_
 refine ze y (fun hc5=>?_) (fun hc5=>?_)
 ·
  replace h:=bT hc5 h
  refine rg y<|u<|bd ti y y y<|u<|asg y<|u<|sto ti y y y<|u<|asg y<|za ?_
  refine zj ?_
  obtain rfl:=sm h
  exact ⟨_,y,zy []⟩
 ·
  replace h:=bF hc5 h
  refine zg ?_
  obtain ⟨v7,q6,h⟩:=bs h
  obtain ⟨v8,q7,h⟩:=bs h
  refine rg y<|u<|mv y<|u<|bl 1 ti y ti y (by decide) (by decide) y y y<|u<|mv y<|u<|mv y<|u<|sx [] (zjt v1 v2 q6)<|u<|apM (l:=[v2]) (f:=zf) 3 ti y ti y y (by decide) ti y y y y (roM y) (fun _=>y) y q7<|u<|asg y<|za ?_
  refine zi ?_
  refine rg y<|u<|asg y<|za ?_
  obtain ⟨o,ho,h⟩:=bs h
  refine zX (X:=Int) (B:=Unit) (R:=T0×zd×Bool) (fun z=>[(0,.ipt 1 [[.isl 6 (map zc v1)]] 0 0),(2,sA v3),(7,.mpt 0 0 0),(10,.msl 1 0 (length v8)),(11,iA z)]) (fun z=>[some (10,[[sA [],.lit (.slice none 0 0),sA [],bA false,bA false,iA 0,iA 0,.lit (.slice none 0 0),.lit (.slice none 0 0),.lit (.slice none 0 0)]]),some (1,map zf v8)]) (fun b=>[(7,.mpt 0 0 0)]) (fun b=>[some (10,[[sA [],.lit (.slice none 0 0),sA [],bA false,bA false,iA 0,iA 0,.lit (.slice none 0 0),.lit (.slice none 0 0),.lit (.slice none 0 0)]])]) (fun r env st=>zaN Tryz.prog Tryz.f258 0 (.tup [sA r.1,.agg (zh r.2.1),bA r.2.2]) [] env st) ho (zo [.old 0,.old 3]) ?_ ?_ ?_
  ·
   rintro v16 r h
   replace h:zcI v1 v3 v8 v16=some r:=h
   unfold zcI at h
   refine zi ?_
   refine rg y<|u<|mv y<|u<|mv y<|u<|lnM ti y y y<|u<|lss ti y y<|za ?_
   refine ze y (fun hc16=>?_) (fun hc16=>?_)
   ·
    replace h:=bT hc16 h
    refine zg ?_
    refine zi ?_
    refine zr ?_
    obtain ⟨v17,q17,h⟩:=bs h
    obtain ⟨v18,q18,h⟩:=bs h
    obtain ⟨v19,q19,h⟩:=bs h
    refine rdA [(0,.ipt 1 [[.isl 6 (map zc v1)]] 0 0),(2,sA v3),(7,.mpt 0 0 0),(10,.msl 1 0 (length v8)),(11,iA v16),(12,.mpt 2 0 0)] [some (10,[[sA [],.lit (.slice none 0 0),sA [],bA false,bA false,iA 0,iA 0,.lit (.slice none 0 0),.lit (.slice none 0 0),.lit (.slice none 0 0)]]),some (1,map zf v8),some (6,[(zc v19)])] [12,13] [11,10,9,8,7,6,5,4,3,2,1,0] [(54,.agg (zc v19)),(53,.ipt 6 (map zc v1) (Int.toNat v18) 0),(52,iA v18),(51,sA v17),(50,.mpt 1 (Int.toNat v16) 0),(49,iA v16),(48,.msl 1 0 (length v8)),(47,.ipt 1 [[.isl 6 (map zc v1)]] 0 0),(46,.isl 6 (map zc v1)),(45,.ipt 1 [[.isl 6 (map zc v1)]] 0 0),(44,.ipt 1 [[.isl 6 (map zc v1)]] 0 0),(43,.ipt 1 [[.isl 6 (map zc v1)]] 0 0)] 2 (zem ⟨(pb y (ldI ti y (zl q19).2.2 y w)),(pb y (ixI ti y ti y y y q19 w)),(pb y (pc (zV v1 v17 q18) y y y w)),(pb y (ldM ti y y (zl q17).2.2 y w)),(pb y (ixM ti y ti y y y y q17 w)),pe,pe,pe,pe,pe,pe,pe,t⟩ ⟨(fun _ _=>⟨_,y,y,al 2 ti y<|⟨(.mpt 2 0 0),[],[(12,.mpt 2 0 0)],y,y,kz,y,zem ⟨(pb y (ldI ti y (zl q19).2.2 y w)),(pb y (ixI ti y ti y y y q19 w)),(pb y (pc (zV v1 v17 q18) y y y w)),(pb y (ldM ti y y (zl q17).2.2 y w)),(pb y (ixM ti y ti y y y y q17 w)),pe,pe,pe,pe,pe,pe,pe,t⟩ ⟨nv,(fun _ _=>⟨_,y,y,sto ti y y y<|⟨.any,[],[],y,y,kz,t,zhW (zo [.old 0,.old 1,.old 2])⟩⟩),t⟩⟩⟩),nw,t⟩) ?_
    obtain ⟨v20,q20,h⟩:=bs h
    refine rg y<|u<|ld ti y y<|u<|mv y<|u<|pc (zjw v19 v3 q20) y y y<|u<|asg y<|za ?_
    refine rg y<|u<|mv y<|u<|geq ti y y<|za ?_
    refine ze y (fun hc21=>?_) (fun hc21=>?_)
    ·
     replace h:=bT hc21 h
     obtain ⟨v21,q22,h⟩:=bs h
     obtain ⟨v22,q23,h⟩:=bs h
     refine rdA [(6,sA v21),(7,.mpt 0 0 0),(8,bA true)] [some (10,[(zh v22)])] [10] [9,8,7,6,5,4,3,2,1,0] [(6,sA v21),(68,.agg (zh v22)),(67,.ipt 10 (map zh v19.Methods) (Int.toNat v20) 0),(66,iA v20),(65,.isl 10 (map zh v19.Methods)),(64,.mpt 2 0 5),(63,sA v21),(62,.mpt 1 (Int.toNat v16) 0),(61,iA v16),(60,.msl 1 0 (length v8))] 1 (zem ⟨pe,(pb y (ldI ti y (zl q23).2.2 y w)),(pb y (ixI ti y ti y y y q23 w)),pe,pe,pe,(pb y (ldM ti y y (zl q22).2.2 y w)),(pb y (ixM ti y ti y y y y q22 w)),pe,pe,t⟩ ⟨(fun _ _=>⟨_,y,y,sto ti y y y<|⟨.any,[11],[(8,bA true)],y,y,kz,t,zhW (zo [.old 0])⟩⟩),t⟩) ?_
     refine zj ?_
     obtain rfl:=sm h
     exact ⟨_,y,_,y,zy []⟩
    ·
     replace h:=bF hc21 h
     refine zg ?_
     refine rl y<|u<|mv y<|u<|add ti y y<|u<|asg y<|za ?_
     obtain rfl:=sm h
     exact ⟨_,y,zo [.old 0,.old 1]⟩
   ·
    replace h:=bF hc16 h
    refine zD ?_
    obtain rfl:=sm h
    exact ⟨y,_,y,zo [.old 0]⟩
  ·
   rintro ⟨⟩ rfl
   replace h:zh7=some r:=h
   unfold zh7 at h
   refine zw ?_
   refine rg y<|u<|bd ti y y y<|u<|asg y<|u<|sto ti y y y<|u<|asg y<|za ?_
   refine zj ?_
   obtain rfl:=sm h
   exact ⟨_,y,zy []⟩
  ·
   rintro r' rfl env st hp
   obtain rfl:=sm h
   exact hp
def zhc:Option (T0×zd×Bool):=
  some ([],(zd.mk [] [] [] false false 0 0 [] [] []),false)
def zca(v1:List zb)(v3:T0)(v4:T1)(v12:Int):Option (Sum (Int) (Sum (Unit) (T0×zd×Bool))):=
  cond (decide (v12<((length v4):Int))) ((idx v4 v12).bind fun v13=>(zaD v1 v13).bind fun v14=>(idx v1 v14).bind fun v15=>(zg6 v15 v3).bind fun v16=>cond ((decide (0≤v16))&&(!(v3 == [36,105,110,105,116]))) ((idx v4 v12).bind fun v17=>(idx v15.Methods v16).bind fun v18=>some (.inr (.inr (v17,v18,true)))) (some (.inl (IntKind.i64.wrap (v12+1))))) (some (.inr (.inl ())))
def zft(v1:List zb)(v2:T0)(v3:T0):Option (T0×zd×Bool):=
  (zby v1 v2).bind fun v4=>(zu (fun z=>zca v1 v3 v4 z) 0).bind fun o=>zU o (fun b=>zhc) some
theorem zmr(v1:List zb)(v2:T0)(v3:T0){r:T0×zd×Bool}(h:zft v1 v2 v3=some r):zI Tryz.prog 157 [.ipt 1 [[.isl 6 (map zc v1)]] 0 0,sA v2,sA v3] (.tup [sA r.1,.agg (zh r.2.1),bA r.2.2]):=by
 refine zq Tryz.func157 y kz y y ?_
 unfold zft at h
 refine rg y<|u<|asg y<|u<|al 0 ti y<|u<|asg y<|za ?_
 obtain ⟨v4,q1,h⟩:=bs h
 refine rg y<|u<|mv y<|u<|mv y<|u<|sx [] (zcu v1 v2 q1)<|zx (env0:=[(0,.ipt 1 [[.isl 6 (map zc v1)]] 0 0),(2,sA v3),(7,.mpt 0 0 0),(15,.msl 1 0 (length v4))]) (st0:=[some (10,[[sA [],.lit (.slice none 0 0),sA [],bA false,bA false,iA 0,iA 0,.lit (.slice none 0 0),.lit (.slice none 0 0),.lit (.slice none 0 0)]]),some (1,map zf v4)]) (zo [.old 0,.old 1])<|u<|asg y<|za ?_
 refine zi ?_
 refine rg y<|u<|asg y<|za ?_
 obtain ⟨o,ho,h⟩:=bs h
 refine zX (X:=Int) (B:=Unit) (R:=T0×zd×Bool) (fun z=>[(0,.ipt 1 [[.isl 6 (map zc v1)]] 0 0),(2,sA v3),(7,.mpt 0 0 0),(9,.msl 1 0 (length v4)),(10,iA z)]) (fun z=>[some (10,[[sA [],.lit (.slice none 0 0),sA [],bA false,bA false,iA 0,iA 0,.lit (.slice none 0 0),.lit (.slice none 0 0),.lit (.slice none 0 0)]]),some (1,map zf v4)]) (fun b=>[(7,.mpt 0 0 0)]) (fun b=>[some (10,[[sA [],.lit (.slice none 0 0),sA [],bA false,bA false,iA 0,iA 0,.lit (.slice none 0 0),.lit (.slice none 0 0),.lit (.slice none 0 0)]])]) (fun r env st=>zaN Tryz.prog Tryz.f157 0 (.tup [sA r.1,.agg (zh r.2.1),bA r.2.2]) [] env st) ho (zo [.old 0,.old 1]) ?_ ?_ ?_
 ·
  rintro v12 r h
  replace h:zca v1 v3 v4 v12=some r:=h
  unfold zca at h
  refine zi ?_
  refine rg y<|u<|mv y<|u<|mv y<|u<|lnM ti y y y<|u<|lss ti y y<|za ?_
  refine ze y (fun hc11=>?_) (fun hc11=>?_)
  ·
   replace h:=bT hc11 h
   refine zg ?_
   refine zi ?_
   refine zr ?_
   obtain ⟨v13,q12,h⟩:=bs h
   obtain ⟨v14,q13,h⟩:=bs h
   obtain ⟨v15,q14,h⟩:=bs h
   refine rdA [(0,.ipt 1 [[.isl 6 (map zc v1)]] 0 0),(2,sA v3),(7,.mpt 0 0 0),(9,.msl 1 0 (length v4)),(10,iA v12),(11,.mpt 2 0 0)] [some (10,[[sA [],.lit (.slice none 0 0),sA [],bA false,bA false,iA 0,iA 0,.lit (.slice none 0 0),.lit (.slice none 0 0),.lit (.slice none 0 0)]]),some (1,map zf v4),some (6,[(zc v15)])] [12,13] [11,10,9,8,7,6,5,4,3,2,1,0] [(33,.agg (zc v15)),(32,.ipt 6 (map zc v1) (Int.toNat v14) 0),(31,iA v14),(30,sA v13),(29,.mpt 1 (Int.toNat v12) 0),(28,iA v12),(27,.msl 1 0 (length v4)),(26,.ipt 1 [[.isl 6 (map zc v1)]] 0 0),(25,.isl 6 (map zc v1)),(24,.ipt 1 [[.isl 6 (map zc v1)]] 0 0),(23,.ipt 1 [[.isl 6 (map zc v1)]] 0 0),(22,.ipt 1 [[.isl 6 (map zc v1)]] 0 0)] 2 (zem ⟨(pb y (ldI ti y (zl q14).2.2 y w)),(pb y (ixI ti y ti y y y q14 w)),(pb y (pc (zV v1 v13 q13) y y y w)),(pb y (ldM ti y y (zl q12).2.2 y w)),(pb y (ixM ti y ti y y y y q12 w)),pe,pe,pe,pe,pe,pe,pe,t⟩ ⟨(fun _ _=>⟨_,y,y,al 2 ti y<|⟨(.mpt 2 0 0),[],[(11,.mpt 2 0 0)],y,y,kz,y,zem ⟨(pb y (ldI ti y (zl q14).2.2 y w)),(pb y (ixI ti y ti y y y q14 w)),(pb y (pc (zV v1 v13 q13) y y y w)),(pb y (ldM ti y y (zl q12).2.2 y w)),(pb y (ixM ti y ti y y y y q12 w)),pe,pe,pe,pe,pe,pe,pe,t⟩ ⟨nv,(fun _ _=>⟨_,y,y,sto ti y y y<|⟨.any,[],[],y,y,kz,t,zhW (zo [.old 0,.old 1,.old 2])⟩⟩),t⟩⟩⟩),nw,t⟩) ?_
   obtain ⟨v16,q15,h⟩:=bs h
   refine rg y<|u<|ld ti y y<|u<|mv y<|u<|pc (zjw v15 v3 q15) y y y<|u<|asg y<|za ?_
   refine rg y<|u<|mv y<|u<|geq ti y y<|u<|mv y<|z7 (j:=2) 2 y y y y y gpn (fun hb16=>g y hb16<|mv y<|g y hb16<|sne ti y y<|za (egA [40,41] 2 hb16 y y y y)) ze2<|za ?_
   refine ze y (fun hc17=>?_) (fun hc17=>?_)
   ·
    replace h:=bT hc17 h
    obtain ⟨v17,q18,h⟩:=bs h
    obtain ⟨v18,q19,h⟩:=bs h
    refine rdA [(6,sA v17),(7,.mpt 0 0 0),(8,bA true)] [some (10,[(zh v18)])] [10] [9,8,7,6,5,4,3,2,1,0] [(6,sA v17),(51,.agg (zh v18)),(50,.ipt 10 (map zh v15.Methods) (Int.toNat v16) 0),(49,iA v16),(48,.isl 10 (map zh v15.Methods)),(47,.mpt 2 0 5),(46,sA v17),(45,.mpt 1 (Int.toNat v12) 0),(44,iA v12),(43,.msl 1 0 (length v4))] 1 (zem ⟨pe,(pb y (ldI ti y (zl q19).2.2 y w)),(pb y (ixI ti y ti y y y q19 w)),pe,pe,pe,(pb y (ldM ti y y (zl q18).2.2 y w)),(pb y (ixM ti y ti y y y y q18 w)),pe,pe,t⟩ ⟨(fun _ _=>⟨_,y,y,sto ti y y y<|⟨.any,[11],[(8,bA true)],y,y,kz,t,zhW (zo [.old 0])⟩⟩),t⟩) ?_
    refine zj ?_
    obtain rfl:=sm h
    exact ⟨_,y,_,y,zy []⟩
   ·
    replace h:=bF hc17 h
    refine zg ?_
    refine rl y<|u<|mv y<|u<|add ti y y<|u<|asg y<|za ?_
    obtain rfl:=sm h
    exact ⟨_,y,zo [.old 0,.old 1]⟩
  ·
   replace h:=bF hc11 h
   refine zD ?_
   obtain rfl:=sm h
   exact ⟨y,_,y,zo [.old 0]⟩
 ·
  rintro ⟨⟩ rfl
  replace h:zhc=some r:=h
  unfold zhc at h
  refine zw ?_
  refine rg y<|u<|bd ti y y y<|u<|asg y<|u<|sto ti y y y<|u<|asg y<|za ?_
  refine zj ?_
  obtain rfl:=sm h
  exact ⟨_,y,zy []⟩
 ·
  rintro r' rfl env st hp
  obtain rfl:=sm h
  exact hp
def za4(v1:List zb)(v2:T0)(v3:zd)(v4:T1)(v10:zd)(v19:T1)(v20:Bool):Option (T1×Bool):=
  cond (!(v10.Ret == [86])) ((zO v1 v2 v3 v4 v19 v20 v10.Ret).bind fun v21=>some (v21.1,v21.2)) (some (v19,v20))
def zaG(v1:List zb)(v2:T0)(v3:zd)(v4:T1)(v5:T1)(v6:Bool)(v7:zH)(v10:zd)(v11:T0)(v12:Bool):Option (T1×Bool):=
  cond (v6||(!v12)) (some (v5,(v6||(!v12)))) ((zS v1 v2 v3 v4 v5 (v6||(!v12)) v10.Params).bind fun v13=>cond (!(v7.Op == (42:Int))) ((zav v1 v2 v3 v4 v13.1 v13.2).bind fun v14=>(zbM v1 v14.1 v7.C).bind fun v15=>cond (v7.Op == (44:Int)) ((zby v1 v2).bind fun v16=>(zjo v16 v11).bind fun v17=>cond v17 ((zbM v1 v14.1 v2).bind fun v18=>za4 v1 v2 v3 v4 v10 v14.2.1 ((v14.2.2||(!v15))||(!v18))) (za4 v1 v2 v3 v4 v10 v14.2.1 ((v14.2.2||(!v15))||(!false)))) (za4 v1 v2 v3 v4 v10 v14.2.1 (v14.2.2||(!v15)))) (za4 v1 v2 v3 v4 v10 v13.1 v13.2))
def zdl(v1:List zb)(v2:T0)(v3:zd)(v4:T1)(v5:T1)(v6:Bool)(v7:zH):Option (T1×Bool):=
  cond (v7.Op == (45:Int)) ((zgL v1 v7.C v7.M).bind fun v8=>zaG v1 v2 v3 v4 v5 v6 v7 v8.2.1 v8.1 v8.2.2) ((zft v1 v7.C v7.M).bind fun v9=>zaG v1 v2 v3 v4 v5 v6 v7 v9.2.1 v9.1 ((v9.2.2&&(v9.2.1.Static == (v7.Op == (42:Int))))&&(!v9.2.1.Abstract)))
theorem zl6(v1:List zb)(v2:T0)(v3:zd)(v4:T1)(v5:T1)(v6:Bool)(v7:zH){r:T1×Bool}(h:zdl v1 v2 v3 v4 v5 v6 v7=some r):SC Tryz.prog 207 [.mpt 0 0 0,.agg (zv v7)] [.one 15 (rK v1 v2 v3 (.isl 1 (map zf v4)) (.isl 1 (map zf v5)) (bA v6))] (.tup []) [.one 15 (rK v1 v2 v3 (.isl 1 (map zf v4)) (.isl 1 (map zf r.1)) (bA r.2))]:=by
 refine ⟨⟨t,t⟩,zW Tryz.func207 y kz y ?_⟩
 unfold zdl at h
 refine rg y<|u<|bx 1 4 y y y y<|za ?_
 refine rg y<|u<|al 2 ti y<|za ?_
 refine rg y<|u<|asg y<|u<|asg y<|za ?_
 refine za6 (X:=zd×T0×Bool) (fun z=>[(0,.mpt 0 0 0),(3,.mpt 1 0 0),(4,.mpt 2 0 0),(5,sA z.2.1),(6,bA z.2.2)]) (fun z=>[some (15,[(rK v1 v2 v3 (.isl 1 (map zf v4)) (.isl 1 (map zf v5)) (bA v6))]),some (4,[(zv v7)]),some (10,[(zh z.1)])]) (fun z=>zaG v1 v2 v3 v4 v5 v6 v7 z.1 z.2.1 z.2.2=some r) ?_ ?_
 ·
  refine rg y<|u<|fa ti y y y<|u<|ld ti y y<|u<|eql ti y y<|za ?_
  refine ze y (fun hc1=>?_) (fun hc1=>?_)
  ·
   replace h:=bT hc1 h
   obtain ⟨v8,q2,h⟩:=bs h
   refine zjq [(0,.mpt 0 0 0),(3,.mpt 1 0 0),(4,.mpt 2 0 0),(5,sA v8.1),(6,bA v8.2.2)] [some (15,[(rK v1 v2 v3 (.isl 1 (map zf v4)) (.isl 1 (map zf v5)) (bA v6))]),some (4,[(zv v7)]),some (10,[(zh v8.2.1)])] [14] [13,12,11,10,9,8,7,6,5,4,3,2,1,0] [(5,sA v8.1),(23,bA v8.2.2),(22,.agg (zh v8.2.1)),(21,sA v8.1),(11,.tup [sA v8.1,.agg (zh v8.2.1),bA v8.2.2]),(20,.tup [sA v8.1,.agg (zh v8.2.1),bA v8.2.2]),(19,sA v7.M),(18,.mpt 1 0 3),(17,sA v7.C),(16,.mpt 1 0 2),(15,.ipt 1 [[.isl 6 (map zc v1)]] 0 0),(14,.mpt 0 0 0),(13,.mpt 0 0 0),(12,.mpt 0 0 0)] 1 (zem ⟨pe,pe,pe,pe,pe,(pb y (pc (znY v1 v7.C v7.M q2) y y y w)),pe,pe,pe,pe,pe,pe,pe,pe,t⟩ ⟨(fun _ _=>⟨_,y,y,sto ti y y y<|⟨.any,[15],[(6,bA v8.2.2)],y,y,kz,t,zhW (zo [.old 0,.old 1,.old 2])⟩⟩),t⟩) ?_
   exact ⟨⟨v8.2.1,v8.1,v8.2.2⟩,h,zo [.old 0,.old 1,.old 2]⟩
  ·
   replace h:=bF hc1 h
   obtain ⟨v9,q3,h⟩:=bs h
   refine rdA [(0,.mpt 0 0 0),(3,.mpt 1 0 0),(4,.mpt 2 0 0),(5,sA v9.1),(6,bA v9.2.2)] [some (15,[(rK v1 v2 v3 (.isl 1 (map zf v4)) (.isl 1 (map zf v5)) (bA v6))]),some (4,[(zv v7)]),some (10,[(zh v9.2.1)])] [14] [13,12,11,10,9,8,7,6,5,4,3,2,1,0] [(5,sA v9.1),(36,bA v9.2.2),(35,.agg (zh v9.2.1)),(34,sA v9.1),(24,.tup [sA v9.1,.agg (zh v9.2.1),bA v9.2.2]),(33,.tup [sA v9.1,.agg (zh v9.2.1),bA v9.2.2]),(32,sA v7.M),(31,.mpt 1 0 3),(30,sA v7.C),(29,.mpt 1 0 2),(28,.ipt 1 [[.isl 6 (map zc v1)]] 0 0),(27,.mpt 0 0 0),(26,.mpt 0 0 0),(25,.mpt 0 0 0)] 1 (zem ⟨pe,pe,pe,pe,pe,(pb y (pc (zmr v1 v7.C v7.M q3) y y y w)),pe,pe,pe,pe,pe,pe,pe,pe,t⟩ ⟨(fun _ _=>⟨_,y,y,sto ti y y y<|⟨.any,[15],[(6,bA v9.2.2)],y,y,kz,t,zhW (zo [.old 0,.old 1,.old 2])⟩⟩),t⟩) ?_
   exact rl y<|u<|mv y<|u<|mv y<|z7 (j:=1) 6 y y y y y gpn (fun hb4=>g y hb4<|fa ti y y y<|g y hb4<|ld ti y y<|g y hb4<|fa ti y y y<|g y hb4<|ld ti y y<|g y hb4<|eql ti y y<|g y hb4<|beq ti y y y<|za (egA [39,40,41,42,43,44] 6 hb4 y y y y)) ze2<|u<|mv y<|z7 (j:=9) 3 y y y y y gpn (fun hb5=>g y hb5<|fa ti y y y<|g y hb5<|ld ti y y<|g y hb5<|nt y<|za (egA [47,48,49] 3 hb5 y y y y)) ze2<|u<|asg y<|za (⟨⟨v9.2.1,v9.1,((v9.2.2&&(v9.2.1.Static == (v7.Op == (42:Int))))&&(!v9.2.1.Abstract))⟩,h,zo [.old 0,.old 1,.old 2]⟩)
 ·
  rintro ⟨v10,v11,v12⟩ h
  replace h:zaG v1 v2 v3 v4 v5 v6 v7 v10 v11 v12=some r:=h
  unfold zaG at h
  refine rg y<|u<|mv y<|u<|mv y<|u<|sx [0] (zp v1 v2 v3 v4 v5 v6 v12 y)<|zx (env0:=[(0,.mpt 0 0 0),(3,.mpt 1 0 0),(4,.mpt 2 0 0),(5,sA v11)]) (st0:=[some (15,[(rK v1 v2 v3 (.isl 1 (map zf v4)) (.isl 1 (map zf v5)) (bA (v6||(!v12))))]),some (4,[(zv v7)]),some (10,[(zh v10)])]) (zo [.old 0,.old 1,.old 2])<|za ?_
  refine zi ?_
  refine rg y<|u<|mv y<|u<|nc y y<|u<|fa ti y y y<|u<|ld ti y y<|za ?_
  refine ze y (fun hc6=>?_) (fun hc6=>?_)
  ·
   replace h:=bT hc6 h
   refine zj ?_
   obtain rfl:=sm h
   exact ⟨_,y,zy [.old 0]⟩
  ·
   replace h:=bF hc6 h
   refine zg ?_
   obtain ⟨v13,q7,h⟩:=bs h
   refine rg y<|u<|mv y<|u<|fa ti y y y<|u<|ld ti y y<|u<|sx [0] (zZ v1 v2 v3 v4 v5 (v6||(!v12)) v10.Params q7)<|zx (env0:=[(0,.mpt 0 0 0),(3,.mpt 1 0 0),(4,.mpt 2 0 0),(5,sA v11)]) (st0:=[some (15,[(rK v1 v2 v3 (.isl 1 (map zf v4)) (.isl 1 (map zf v13.1)) (bA v13.2))]),some (4,[(zv v7)]),some (10,[(zh v10)])]) (zo [.old 0,.old 1,.old 2])<|za ?_
   refine za6 (X:=T1×Bool) (fun z=>[(0,.mpt 0 0 0),(4,.mpt 1 0 0)]) (fun z=>[some (15,[(rK v1 v2 v3 (.isl 1 (map zf v4)) (.isl 1 (map zf z.1)) (bA z.2))]),some (10,[(zh v10)])]) (fun z=>za4 v1 v2 v3 v4 v10 z.1 z.2=some r) ?_ ?_
   ·
    refine rg y<|u<|fa ti y y y<|u<|ld ti y y<|u<|neq ti y y<|za ?_
    refine ze y (fun hc8=>?_) (fun hc8=>?_)
    ·
     replace h:=bT hc8 h
     obtain ⟨v14,q9,h⟩:=bs h
     refine rg y<|u<|mv y<|u<|sx [0] (zaW v1 v2 v3 v4 v13.1 v13.2 q9)<|zx (env0:=[(0,.mpt 0 0 0),(3,.mpt 1 0 0),(4,.mpt 2 0 0),(5,sA v11),(66,sA v14.1)]) (st0:=[some (15,[(rK v1 v2 v3 (.isl 1 (map zf v4)) (.isl 1 (map zf v14.2.1)) (bA v14.2.2))]),some (4,[(zv v7)]),some (10,[(zh v10)])]) (zo [.old 0,.old 1,.old 2])<|u<|asg y<|za ?_
     obtain ⟨v15,q10,h⟩:=bs h
     refine rdA [(0,.mpt 0 0 0),(3,.mpt 1 0 0),(4,.mpt 2 0 0),(5,sA v11),(7,sA v14.1)] [some (15,[(rK v1 v2 v3 (.isl 1 (map zf v4)) (.isl 1 (map zf v14.2.1)) (bA (v14.2.2||(!v15))))]),some (4,[(zv v7)]),some (10,[(zh v10)])] [9] [8,7,6,5,4,3,2,1,0] [(75,bA v15),(74,sA v7.C),(73,.mpt 1 0 2),(72,sA v14.1),(71,.ipt 1 [[.isl 6 (map zc v1)]] 0 0),(70,.mpt 0 0 0),(69,.mpt 0 0 0),(68,.mpt 0 0 0),(67,.mpt 0 0 0)] 1 (zem ⟨(pb y (pc (zc4 v1 v14.1 v7.C q10) y y y w)),pe,pe,pe,pe,pe,pe,pe,pe,t⟩ ⟨(fun _ _=>⟨_,y,y,sx [0] (zp v1 v2 v3 v4 v14.2.1 v14.2.2 v15 y)<|⟨(.tup []),[],[(76,.tup [])],y,y,kz,y,zhW (zo [.old 0,.old 1,.old 2])⟩⟩),t⟩) ?_
     refine rg y<|u<|fa ti y y y<|u<|ld ti y y<|u<|eql ti y y<|za ?_
     refine ze y (fun hc11=>?_) (fun hc11=>?_)
     ·
      replace h:=bT hc11 h
      obtain ⟨v16,q12,h⟩:=bs h
      obtain ⟨v17,q13,h⟩:=bs h
      rcases bb v17 with hb14 |hb14
      ·
       replace h:=bT hb14 h
       obtain ⟨v18,q15,h⟩:=bs h
       refine zjq [(0,.mpt 0 0 0),(4,.mpt 1 0 0)] [some (15,[(rK v1 v2 v3 (.isl 1 (map zf v4)) (.isl 1 (map zf v14.2.1)) (bA ((v14.2.2||(!v15))||(!v18))))]),some (10,[(zh v10)])] [9,24] [10,8,7,6,5,4,3,2,1,0] [(90,sA v11),(88,sA v2),(87,.mpt 0 0 1),(86,.mpt 0 0 0),(85,.mpt 0 0 0),(84,.ipt 1 [[.isl 6 (map zc v1)]] 0 0),(83,.mpt 0 0 0),(82,.mpt 0 0 0),(81,.mpt 0 0 0),(80,.mpt 0 0 0)] 2 (zma ⟨(fun _ _=>⟨_,y,y,sx [] (zcu v1 v2 q12)<|⟨(.msl 3 0 (length v16)),[23,22,21,20,19,18,17,16,15,14,13,12,11],[(103,bA v18),(102,bA v18),(101,sA v2),(100,.mpt 0 0 1),(99,.mpt 0 0 0),(98,.mpt 0 0 0),(97,sA v14.1),(96,.ipt 1 [[.isl 6 (map zc v1)]] 0 0),(95,.mpt 0 0 0),(94,.mpt 0 0 0),(93,.mpt 0 0 0),(92,bA v17),(91,bA v17),(89,.msl 3 0 (length v16))],y,y,kz,y,zem ⟨pe,(fun _=>pag (b:=v17) y y y y hb14 y (pc (zc4 v1 v14.1 v2 q15) y y y<|w)),pe,pe,pe,pe,pe,pe,pe,pe,pe,pe,(pb y (pcs (zhg v16 v11 q13) y y (.cons (zhU y (fun _=>y)) (.cons (si y) .nil)) zcD w)),pe,pe,pe,pe,pe,pe,pe,pe,pe,pe,t⟩ ⟨nv,(fun _ _=>⟨_,y,y,sc [0] (args:=[.mpt 0 0 0,bA v18]) (zp v1 v2 v3 v4 v14.2.1 (v14.2.2||(!v15)) v18 y) y y y y ⟨(.mpt y),(rnI y),t⟩ ⟨⟨_,y,(zr7 y)⟩,t⟩<|⟨(.tup []),[],[(104,.tup [])],y,y,kz,y,zht ⟨pe,pe,pe,pe,pe,pe,pe,pe,pe,pe,pe,pe,(pb y (pcs (zhg v16 v11 q13) y y (.cons (zhU y (fun _=>y)) (.cons (si y) .nil)) zcD w)),pe,pe,pe,pe,pe,pe,pe,pe,pe,pe,t⟩ (zo [.old 0,.old 2])⟩⟩),t⟩⟩⟩),nw,t⟩) ?_
       exact ⟨⟨v14.2.1,((v14.2.2||(!v15))||(!v18))⟩,h,zo [.old 0,.old 1]⟩
      ·
       replace h:=bF hb14 h
       refine zjq [(0,.mpt 0 0 0),(4,.mpt 1 0 0)] [some (15,[(rK v1 v2 v3 (.isl 1 (map zf v4)) (.isl 1 (map zf v14.2.1)) (bA ((v14.2.2||(!v15))||(!false))))]),some (10,[(zh v10)])] [9,24] [10,8,7,6,5,4,3,2,1,0] [(90,sA v11),(88,sA v2),(87,.mpt 0 0 1),(86,.mpt 0 0 0),(85,.mpt 0 0 0),(84,.ipt 1 [[.isl 6 (map zc v1)]] 0 0),(83,.mpt 0 0 0),(82,.mpt 0 0 0),(81,.mpt 0 0 0),(80,.mpt 0 0 0)] 2 (zma ⟨(fun _ _=>⟨_,y,y,sx [] (zcu v1 v2 q12)<|⟨(.msl 3 0 (length v16)),[23,22,21,20,19,18,17,16,15,14,13,12,11],[(103,bA false),(102,.lit undef),(101,.lit undef),(100,.lit undef),(99,.lit undef),(98,.lit undef),(97,.lit undef),(96,.lit undef),(95,.lit undef),(94,.lit undef),(93,.lit undef),(92,bA v17),(91,bA v17),(89,.msl 3 0 (length v16))],y,y,kz,y,zem ⟨pe,pe,pe,pe,pe,pe,pe,pe,pe,pe,pe,pe,(pb y (pcs (zhg v16 v11 q13) y y (.cons (zhU y (fun _=>y)) (.cons (si y) .nil)) zcD w)),pe,pe,pe,pe,pe,pe,pe,pe,pe,pe,t⟩ ⟨nv,(fun _ _=>⟨_,y,y,sc [0] (args:=[.mpt 0 0 0,bA false]) (zp v1 v2 v3 v4 v14.2.1 (v14.2.2||(!v15)) false y) y y y y ⟨(.mpt y),(rnI y),t⟩ ⟨⟨_,y,(zr7 y)⟩,t⟩<|⟨(.tup []),[],[(104,.tup [])],y,y,kz,y,zht ⟨pe,pe,pe,pe,pe,pe,pe,pe,pe,pe,pe,pe,(pb y (pcs (zhg v16 v11 q13) y y (.cons (zhU y (fun _=>y)) (.cons (si y) .nil)) zcD w)),pe,pe,pe,pe,pe,pe,pe,pe,pe,pe,t⟩ (zo [.old 0,.old 2])⟩⟩),t⟩⟩⟩),nw,t⟩) ?_
       exact ⟨⟨v14.2.1,((v14.2.2||(!v15))||(!false))⟩,h,zo [.old 0,.old 1]⟩
     ·
      replace h:=bF hc11 h
      refine zg ?_
      exact ⟨⟨v14.2.1,(v14.2.2||(!v15))⟩,h,zo [.old 0,.old 2]⟩
    ·
     replace h:=bF hc8 h
     refine zg ?_
     exact ⟨⟨v13.1,v13.2⟩,h,zo [.old 0,.old 2]⟩
   ·
    rintro ⟨v19,v20⟩ h
    replace h:za4 v1 v2 v3 v4 v10 v19 v20=some r:=h
    unfold za4 at h
    refine rg y<|u<|fa ti y y y<|u<|ld ti y y<|u<|sne ti y y<|za ?_
    refine ze y (fun hc16=>?_) (fun hc16=>?_)
    ·
     replace h:=bT hc16 h
     obtain ⟨v21,q17,h⟩:=bs h
     refine rl y<|u<|mv y<|u<|fa ti y y y<|u<|ld ti y y<|u<|sx [0] (zN v1 v2 v3 v4 v19 v20 v10.Ret q17)<|zx (env0:=[]) (st0:=[some (15,[(rK v1 v2 v3 (.isl 1 (map zf v4)) (.isl 1 (map zf v21.1)) (bA v21.2))])]) (zo [.old 0])<|za ?_
     obtain rfl:=sm h
     exact ⟨_,y,zy [.old 0]⟩
    ·
     replace h:=bF hc16 h
     refine zg ?_
     obtain rfl:=sm h
     exact ⟨_,y,zy [.old 0]⟩
def zj3(v1:T0):Option (T0):=
  (zzM [91] v1).bind fun v2=>(zgn v2).bind fun v3=>cond (!v3) (some []) ((zzM [91] v1).bind fun v4=>some v4)
theorem zrr(v1:T0){r:T0}(h:zj3 v1=some r):zI Tryz.prog 259 [sA v1] (sA r):=by
 refine zq Tryz.func259 y kz y y ?_
 unfold zj3 at h
 refine rg y<|u<|asg y<|za ?_
 refine zi ?_
 obtain ⟨v2,q1,h⟩:=bs h
 obtain ⟨v3,q2,h⟩:=bs h
 refine rg y<|u<|mv y<|u<|zBX ti y y q1<|u<|pc (zfh v2 q2) y y y<|u<|nt y<|za ?_
 refine ze y (fun hc3=>?_) (fun hc3=>?_)
 ·
  replace h:=bT hc3 h
  refine rg y<|u<|asg y<|za ?_
  refine zj ?_
  obtain rfl:=sm h
  exact ⟨_,y,zy []⟩
 ·
  replace h:=bF hc3 h
  refine zg ?_
  obtain ⟨v4,q4,h⟩:=bs h
  refine rg y<|u<|mv y<|u<|zBX ti y y q4<|u<|asg y<|za ?_
  refine zj ?_
  obtain rfl:=sm h
  exact ⟨_,y,zy []⟩
def zli(v1:T0):Option (T0×Bool):=
  (zgn v1).bind fun v2=>(cond (!v2) (some true) ((idx v1 0).bind fun v3=>some (!((v3.toNat:Int) == (91:Int))))).bind fun v4=>cond v4 (some ([],false)) ((zj6 v1 1 (length v1:Int)).bind fun v5=>some (v5,true))
theorem zsL(v1:T0){r:T0×Bool}(h:zli v1=some r):zI Tryz.prog 279 [sA v1] (.tup [sA r.1,bA r.2]):=by
 refine zq Tryz.func279 y kz y y ?_
 unfold zli at h
 refine rg y<|u<|asg y<|u<|asg y<|za ?_
 refine zi ?_
 obtain ⟨v2,q1,h⟩:=bs h
 obtain ⟨v4,q4,h⟩:=bs h
 refine rg y<|u<|mv y<|u<|pc (zfh v1 q1) y y y<|u<|nt y<|u<|mv y<|zdj (x:=v4) (j:=3) 3 y y y y y gpn (fun hb2=>by replace q4:=bF hb2 q4;obtain ⟨v3,q3,q4⟩:=bs q4;obtain rfl:=sm q4;exact g y hb2<|mv y<|g y hb2<|ixS ti y y y q3<|g y hb2<|neq ti y y<|za (eg [8,9,10] 3 y y y y)) (fun hb=>(sm (bT hb q4)).symm)<|za ?_
 refine ze y (fun hc5=>?_) (fun hc5=>?_)
 ·
  replace h:=bT hc5 h
  refine rg y<|u<|asg y<|u<|asg y<|za ?_
  refine zj ?_
  obtain rfl:=sm h
  exact ⟨_,y,zy []⟩
 ·
  replace h:=bF hc5 h
  refine zg ?_
  obtain ⟨v5,q6,h⟩:=bs h
  refine rg y<|u<|mv y<|u<|slS (a:=1) (b:=(length v1:Int)) ti y y (zml y q6) y q6<|u<|asg y<|u<|asg y<|za ?_
  refine zj ?_
  obtain rfl:=sm h
  exact ⟨_,y,zy []⟩
def zdQ(v1:List zb)(v2:T0)(v3:zd)(v4:T1)(v5:T1)(v6:Bool):Option (T0×T1×Bool):=
  (zav v1 v2 v3 v4 v5 v6).bind fun v7=>cond (v7.1 == [78]) (some ([78],v7.2.1,v7.2.2)) ((zli v7.1).bind fun v8=>some (v8.1,v7.2.1,(v7.2.2||(!(v8.2&&(!(v8.1 == [73])))))))
theorem zif(v1:List zb)(v2:T0)(v3:zd)(v4:T1)(v5:T1)(v6:Bool){r:T0×T1×Bool}(h:zdQ v1 v2 v3 v4 v5 v6=some r):SC Tryz.prog 260 [.mpt 0 0 0] [.one 15 (rK v1 v2 v3 (.isl 1 (map zf v4)) (.isl 1 (map zf v5)) (bA v6))] (sA r.1) [.one 15 (rK v1 v2 v3 (.isl 1 (map zf v4)) (.isl 1 (map zf r.2.1)) (bA r.2.2))]:=by
 refine ⟨⟨t,t⟩,zW Tryz.func260 y kz y ?_⟩
 unfold zdQ at h
 refine rg y<|u<|asg y<|za ?_
 obtain ⟨v7,q1,h⟩:=bs h
 refine rg y<|u<|mv y<|u<|sx [0] (zaW v1 v2 v3 v4 v5 v6 q1)<|zx (env0:=[(0,.mpt 0 0 0),(7,sA v7.1)]) (st0:=[some (15,[(rK v1 v2 v3 (.isl 1 (map zf v4)) (.isl 1 (map zf v7.2.1)) (bA v7.2.2))])]) (zo [.old 0])<|u<|asg y<|za ?_
 refine zi ?_
 refine rg y<|u<|mv y<|u<|seq ti y y<|za ?_
 refine ze y (fun hc2=>?_) (fun hc2=>?_)
 ·
  replace h:=bT hc2 h
  refine rg y<|u<|asg y<|za ?_
  refine zj ?_
  obtain rfl:=sm h
  exact ⟨_,y,zy [.old 0]⟩
 ·
  replace h:=bF hc2 h
  refine zg ?_
  obtain ⟨v8,q3,h⟩:=bs h
  refine rg y<|u<|mv y<|u<|pc (zsL v7.1 q3) y y y<|u<|mv y<|u<|ex y y<|u<|ex y y<|u<|asg y<|u<|asg y<|za ?_
  refine rg y<|u<|mv y<|u<|mv y<|u<|mv y<|z7 (j:=2) 2 y y y y y gpn (fun hb4=>g y hb4<|mv y<|g y hb4<|sne ti y y<|za (egA [18,19] 2 hb4 y y y y)) ze2<|u<|sx [0] (zp v1 v2 v3 v4 v7.2.1 v7.2.2 (v8.2&&(!(v8.1 == [73]))) y)<|zx (env0:=[(4,sA v8.1)]) (st0:=[some (15,[(rK v1 v2 v3 (.isl 1 (map zf v4)) (.isl 1 (map zf v7.2.1)) (bA (v7.2.2||(!(v8.2&&(!(v8.1 == [73])))))))])]) (zo [.old 0])<|za ?_
  refine rg y<|u<|mv y<|u<|asg y<|za ?_
  refine zj ?_
  obtain rfl:=sm h
  exact ⟨_,y,zy [.old 0]⟩

end
end Go.Proofs.YtjbdfkapnffjnaaGreat
