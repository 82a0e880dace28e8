/- LayoutOver: for every input the law returns true, and each argument reads as it read before. No further condition. Part 7 of 8. -/
import Derived.Test.YthmnlfenkhmmhaaGreatSv6
namespace Go.Proofs.YthmnlfenkhmmhaaGreat
set_option linter.unusedSimpArgs false
set_option linter.unusedVariables false
set_option maxRecDepth 100000
set_option maxHeartbeats 4000000
noncomputable def zdV (v24:List (List UInt8)):Option ((List (List UInt8))) :=
  some v24
noncomputable def zdW (v16:List (List UInt8)) (v17:List UInt8) (v18:List UInt8) (v19:Bool):Option (Sum ((List (List UInt8))×(List UInt8)×(List UInt8)×Bool) (Sum ((List (List UInt8))) ((List (List UInt8))))) :=
  (cond v19 ((zC v16 v17).bind fun v20=>some (!v20)) (some false)).bind fun v21=>cond v21 ((zjq 16 v16 [v17]).bind fun v22=>(zeW v18).bind fun v23=>some (.inl (v22,v18,v23.1,v23.2))) (some (.inr (.inl v16)))
noncomputable def zcO (v1:List zc) (v2:List (List UInt8×Int)) (v3:List (List UInt8)) (v4:List (List UInt8)) (v5:List (List UInt8)) (v6:List UInt8):Option ((List (List UInt8))) :=
  (zeW v6).bind fun v7=>(zab (fun z=>zdW z.1 z.2.1 z.2.2.1 z.2.2.2) (v3,v6,v7.1,v7.2)).bind fun o=>zaJ o (fun b=>zdV b) some
theorem zdX (v1:List zc) (v2:List (List UInt8×Int)) (v3:List (List UInt8)) (v4:List (List UInt8)) (v5:List (List UInt8)) (v6:List UInt8) {r:(List (List UInt8))} (h:zcO v1 v2 v3 v4 v5 v6=some r):SC Tryz.prog 126 [.mpt 0 0 0,sA v6] [.one 4 [.ipt 2 [[.isl 6 (List.map zb v1),.imp (List.map (rKV (fun x=>iA x)) v2)]] 0 0,.msl 1 0 (List.length v3),.msl 2 0 (List.length v4),.msl 3 0 (List.length v5)],.many 1 (List.map zi v3),.many 1 (List.map zi v4),.many 1 (List.map zi v5)] (.tup []) [.one 4 [.ipt 2 [[.isl 6 (List.map zb v1),.imp (List.map (rKV (fun x=>iA x)) v2)]] 0 0,.msl 4 0 (List.length r),.msl 2 0 (List.length v4),.msl 3 0 (List.length v5)],.no,.many 1 (List.map zi v4),.many 1 (List.map zi v5),.many 1 (List.map zi r)]:=by
 refine ⟨⟨trivial,trivial,zeU (sz:=1) (fun _=>rfl),zeU (sz:=1) (fun _=>rfl),zeU (sz:=1) (fun _=>rfl),trivial⟩,zad Tryz.func126 rfl (by kernel_rfl) rfl ?_⟩
 unfold zcO at h
 obtain ⟨v7,q1,h⟩:=bs h
 refine rg rfl<|u<|mv rfl<|u<|pc (zdo v6 q1) rfl rfl rfl<|u<|mv rfl<|u<|ex rfl rfl<|u<|ex rfl rfl<|u<|asg rfl<|u<|asg rfl<|za ?_
 obtain ⟨o,ho,h⟩:=bs h
 refine zT (X:=(List (List UInt8))×(List UInt8)×(List UInt8)×Bool) (B:=(List (List UInt8))) (R:=(List (List UInt8))) (fun z=>[(0,.mpt 0 0 0),(1,sA z.2.1),(4,sA z.2.2.1),(5,bA z.2.2.2)]) (fun z=>[some (4,[[.ipt 2 [[.isl 6 (List.map zb v1),.imp (List.map (rKV (fun x=>iA x)) v2)]] 0 0,.msl 4 0 (List.length z.1),.msl 2 0 (List.length v4),.msl 3 0 (List.length v5)]]),none,some (1,List.map zi v4),some (1,List.map zi v5),some (1,List.map zi z.1)]) (fun b=>[]) (fun b=>[some (4,[[.ipt 2 [[.isl 6 (List.map zb v1),.imp (List.map (rKV (fun x=>iA x)) v2)]] 0 0,.msl 4 0 (List.length b),.msl 2 0 (List.length v4),.msl 3 0 (List.length v5)]]),none,some (1,List.map zi v4),some (1,List.map zi v5),some (1,List.map zi b)]) (fun r env st=>zaC Tryz.prog Tryz.f126 4 (.tup []) [some (4,[[.ipt 2 [[.isl 6 (List.map zb v1),.imp (List.map (rKV (fun x=>iA x)) v2)]] 0 0,.msl 4 0 (List.length r),.msl 2 0 (List.length v4),.msl 3 0 (List.length v5)]]),none,some (1,List.map zi v4),some (1,List.map zi v5),some (1,List.map zi r)] env st) ho ⟨[.old 0,.dead,.old 2,.old 3,.old 1],cv rfl (.mpt rfl)<|ce rfl rfl<|ce rfl rfl<|ce rfl rfl<|cn,rfl,⟨⟨_,rfl,zg ⟨ci rfl,.msl rfl,.msl rfl,.msl rfl,trivial⟩⟩,⟨_,rfl,zd (fun _=>rfl)⟩,⟨_,rfl,zd (fun _=>rfl)⟩,⟨_,rfl,zd (fun _=>rfl)⟩,trivial⟩,rfl,Nat.le_of_ble_eq_true rfl⟩ ?_ ?_ ?_
 ·
  rintro ⟨v16,v17,v18,v19⟩ r h
  replace h:zdW v16 v17 v18 v19=some r:=h
  unfold zdW at h
  refine zl ?_
  obtain ⟨v21,q10,h⟩:=bs h
  refine rg rfl<|u<|mv rfl<|u<|mv rfl<|za7 (x:=v21) (j:=1) 7 rfl rfl rfl rfl rfl gpn (fun hb8=>by replace q10:=bT hb8 q10; obtain ⟨v20,q9,q10⟩:=bs q10; obtain rfl:=sm q10; exact g rfl hb8<|mv rfl<|g rfl hb8<|nc rfl rfl<|g rfl hb8<|fa zkB rfl rfl rfl<|g rfl hb8<|ld zM rfl rfl<|g rfl hb8<|mv rfl<|g rfl hb8<|pcs (zI v16 v17 q9) rfl rfl (.cons (zi5 rfl (fun _=>rfl)) (.cons (si rfl) .nil)) zcq<|g rfl hb8<|nt rfl<|za (eg [13,14,15,16,17,18,19] 7 rfl rfl rfl rfl)) (fun hb=>(sm (bF hb q10)).symm)<|za ?_
  refine zh rfl (fun hc11=>?_) (fun hc11=>?_)
  ·
   replace h:=bT hc11 h
   refine zk ?_
   refine zl ?_
   refine zq ?_
   obtain ⟨v22,q12,h⟩:=bs h
   refine rg rfl<|u<|mv rfl<|u<|mv rfl<|u<|nc rfl rfl<|u<|fa zkB rfl rfl rfl<|u<|ld zM rfl rfl<|u<|mv rfl<|u<|bl 5 zM rfl ti9 rfl (by decide) (by decide) rfl rfl rfl<|u<|apM 6 zM rfl ti9 rfl rfl (by decide) zM rfl rfl rfl rfl (roX (f:=zi) (z:=[v17]) rfl rfl) (fun _=>rfl) rfl q12<|u<|nc rfl rfl<|u<|fa zkB rfl rfl rfl<|u<|sto zM rfl rfl rfl<|za ?_
   refine rl rfl<|u<|mv rfl<|u<|asg rfl<|za ?_
   obtain ⟨v23,q13,h⟩:=bs h
   refine rl rfl<|u<|mv rfl<|u<|pc (zdo v18 q13) rfl rfl rfl<|u<|mv rfl<|u<|ex rfl rfl<|u<|ex rfl rfl<|u<|asg rfl<|u<|asg rfl<|za ?_
   obtain rfl:=sm h
   exact ⟨_,rfl,[.old 0,.dead,.old 2,.old 3,.old 6],cv rfl (.mpt rfl)<|ce rfl rfl<|ce rfl rfl<|ce rfl rfl<|cn,rfl,⟨⟨_,rfl,zg ⟨ci rfl,.msl rfl,.msl rfl,.msl rfl,trivial⟩⟩,⟨_,rfl,zd (fun _=>rfl)⟩,⟨_,rfl,zd (fun _=>rfl)⟩,⟨_,rfl,zd (fun _=>rfl)⟩,trivial⟩,rfl,Nat.le_of_ble_eq_true rfl⟩
  ·
   replace h:=bF hc11 h
   refine zz ?_
   obtain rfl:=sm h
   exact ⟨rfl,_,rfl,[.old 0,.dead,.old 2,.old 3,.old 4],cn,rfl,⟨⟨_,rfl,zg ⟨ci rfl,.msl rfl,.msl rfl,.msl rfl,trivial⟩⟩,⟨_,rfl,zd (fun _=>rfl)⟩,⟨_,rfl,zd (fun _=>rfl)⟩,⟨_,rfl,zd (fun _=>rfl)⟩,trivial⟩,rfl,Nat.le_of_ble_eq_true rfl⟩
 ·
  rintro v24 rfl
  replace h:zdV v24=some r:=h
  unfold zdV at h
  refine zv ?_
  obtain rfl:=sm h
  exact ⟨_,rfl,[.old 0,.dead,.old 2,.old 3,.old 4],z8 trivial,rfl,⟨⟨_,rfl,zg ⟨ci rfl,.msl rfl,.msl rfl,.msl rfl,trivial⟩⟩,⟨_,rfl,zd (fun _=>rfl)⟩,⟨_,rfl,zd (fun _=>rfl)⟩,⟨_,rfl,zd (fun _=>rfl)⟩,trivial⟩,rfl,Nat.le_of_ble_eq_true rfl⟩
 ·
  rintro r' rfl env st hp
  obtain rfl:=sm h
  exact hp
noncomputable def zcF (v1:List zc) (v2:List (List UInt8×Int)) (v3:List (List UInt8)) (v4:List (List UInt8)) (v5:List (List UInt8)) (v6:zA) (v9:Bool):Option ((List (List UInt8))) :=
  cond v9 ((zcO v1 v2 v3 v4 v5 v6.C).bind fun v10=>some v10) (some v3)
noncomputable def zfW (v1:List zc) (v2:List (List UInt8×Int)) (v3:List (List UInt8)) (v4:List (List UInt8)) (v5:List (List UInt8)) (v6:zA):Option ((List (List UInt8))) :=
  cond (v6.Op == (50:Int)) ((zje v6.C).bind fun v7=>(zcO v1 v2 v3 v4 v5 v7).bind fun v8=>some v8) (cond (v6.Op == (56:Int)) (zcF v1 v2 v3 v4 v5 v6 (v6.Op == (56:Int))) (zcF v1 v2 v3 v4 v5 v6 (v6.Op == (57:Int))))
theorem zjr (v1:List zc) (v2:List (List UInt8×Int)) (v3:List (List UInt8)) (v4:List (List UInt8)) (v5:List (List UInt8)) (v6:zA) {r:(List (List UInt8))} (h:zfW v1 v2 v3 v4 v5 v6=some r):SC Tryz.prog 127 [.mpt 0 0 0,.agg (zw v6)] [.one 4 [.ipt 2 [[.isl 6 (List.map zb v1),.imp (List.map (rKV (fun x=>iA x)) v2)]] 0 0,.msl 1 0 (List.length v3),.msl 2 0 (List.length v4),.msl 3 0 (List.length v5)],.many 1 (List.map zi v3),.many 1 (List.map zi v4),.many 1 (List.map zi v5)] (.tup []) [.one 4 [.ipt 2 [[.isl 6 (List.map zb v1),.imp (List.map (rKV (fun x=>iA x)) v2)]] 0 0,.msl 4 0 (List.length r),.msl 2 0 (List.length v4),.msl 3 0 (List.length v5)],.no,.many 1 (List.map zi v4),.many 1 (List.map zi v5),.many 1 (List.map zi r)]:=by
 refine ⟨⟨trivial,trivial,zeU (sz:=1) (fun _=>rfl),zeU (sz:=1) (fun _=>rfl),zeU (sz:=1) (fun _=>rfl),trivial⟩,zad Tryz.func127 rfl (by kernel_rfl) rfl ?_⟩
 unfold zfW at h
 refine rg rfl<|u<|bx 4 4 rfl rfl rfl rfl<|za ?_
 refine rg rfl<|u<|fa zcI rfl rfl rfl<|u<|ld ti3 rfl rfl<|za ?_
 refine zq ?_
 refine rg rfl<|u<|eql ti3 rfl rfl<|u<|asg rfl<|za ?_
 refine zh rfl (fun hc1=>?_) (fun hc1=>?_)
 ·
  replace h:=bT hc1 h
  obtain ⟨v7,q2,h⟩:=bs h
  obtain ⟨v8,q3,h⟩:=bs h
  refine rl rfl<|u<|mv rfl<|u<|fa zcI rfl rfl rfl<|u<|ld ti9 rfl rfl<|u<|pc (zkk v6.C q2) rfl rfl rfl<|u<|sc [0,1,2,3] (zdX v1 v2 v3 v4 v5 v7 q3) rfl rfl rfl rfl ⟨(.mpt rfl),(rnI rfl),trivial⟩ ⟨⟨_,rfl,⟨(rnI rfl),(.msl rfl),(.msl rfl),(.msl rfl),trivial⟩⟩,⟨rfl,mkI (fun _=>rfl)⟩,⟨rfl,mkI (fun _=>rfl)⟩,⟨rfl,mkI (fun _=>rfl)⟩,trivial⟩<|zB (env0:=[]) (st0:=[some (4,[[.ipt 2 [[.isl 6 (List.map zb v1),.imp (List.map (rKV (fun x=>iA x)) v2)]] 0 0,.msl 4 0 (List.length v8),.msl 2 0 (List.length v4),.msl 3 0 (List.length v5)]]),none,some (1,List.map zi v4),some (1,List.map zi v5),some (1,List.map zi v8)]) ⟨[.old 0,.dead,.old 2,.old 3,.old 5],cn,rfl,⟨⟨_,rfl,zg ⟨ci rfl,.msl rfl,.msl rfl,.msl rfl,trivial⟩⟩,⟨_,rfl,zd (fun _=>rfl)⟩,⟨_,rfl,zd (fun _=>rfl)⟩,⟨_,rfl,zd (fun _=>rfl)⟩,trivial⟩,rfl,Nat.le_of_ble_eq_true rfl⟩<|za ?_
  obtain rfl:=sm h
  exact ⟨_,rfl,[.old 0,.dead,.old 2,.old 3,.old 4],z8 trivial,rfl,⟨⟨_,rfl,zg ⟨ci rfl,.msl rfl,.msl rfl,.msl rfl,trivial⟩⟩,⟨_,rfl,zd (fun _=>rfl)⟩,⟨_,rfl,zd (fun _=>rfl)⟩,⟨_,rfl,zd (fun _=>rfl)⟩,trivial⟩,rfl,Nat.le_of_ble_eq_true rfl⟩
 ·
  replace h:=bF hc1 h
  refine zcD (X:=Bool) (fun z=>[(0,.mpt 0 0 0),(3,.mpt 4 0 0),(13,bA z)]) (fun z=>[some (4,[[.ipt 2 [[.isl 6 (List.map zb v1),.imp (List.map (rKV (fun x=>iA x)) v2)]] 0 0,.msl 1 0 (List.length v3),.msl 2 0 (List.length v4),.msl 3 0 (List.length v5)]]),some (1,List.map zi v3),some (1,List.map zi v4),some (1,List.map zi v5),some (4,[(zw v6)])]) (fun z=>zcF v1 v2 v3 v4 v5 v6 z=some r) ?_ ?_
  ·
   refine rg rfl<|u<|eql ti3 rfl rfl<|u<|asg rfl<|za ?_
   refine zh rfl (fun hc4=>?_) (fun hc4=>?_)
   ·
    replace h:=bT hc4 h
    refine zk ?_
    exact ⟨(v6.Op == (56:Int)),h,[.old 0,.old 1,.old 2,.old 3,.old 4],cv rfl (.mpt rfl)<|cv rfl (.mpt rfl)<|ce rfl rfl<|cn,rfl,⟨⟨_,rfl,zg ⟨ci rfl,.msl rfl,.msl rfl,.msl rfl,trivial⟩⟩,⟨_,rfl,zd (fun _=>rfl)⟩,⟨_,rfl,zd (fun _=>rfl)⟩,⟨_,rfl,zd (fun _=>rfl)⟩,⟨_,rfl,zg (ciL rfl)⟩,trivial⟩,rfl,Nat.le_of_ble_eq_true rfl⟩
   ·
    replace h:=bF hc4 h
    exact rl rfl<|u<|eql ti3 rfl rfl<|u<|asg rfl<|za (⟨(v6.Op == (57:Int)),h,[.old 0,.old 1,.old 2,.old 3,.old 4],cv rfl (.mpt rfl)<|cv rfl (.mpt rfl)<|ce rfl rfl<|cn,rfl,⟨⟨_,rfl,zg ⟨ci rfl,.msl rfl,.msl rfl,.msl rfl,trivial⟩⟩,⟨_,rfl,zd (fun _=>rfl)⟩,⟨_,rfl,zd (fun _=>rfl)⟩,⟨_,rfl,zd (fun _=>rfl)⟩,⟨_,rfl,zg (ciL rfl)⟩,trivial⟩,rfl,Nat.le_of_ble_eq_true rfl⟩)
  ·
   rintro v9 h
   replace h:zcF v1 v2 v3 v4 v5 v6 v9=some r:=h
   unfold zcF at h
   refine zh rfl (fun hc5=>?_) (fun hc5=>?_)
   ·
    replace h:=bT hc5 h
    obtain ⟨v10,q6,h⟩:=bs h
    refine rl rfl<|u<|mv rfl<|u<|fa zcI rfl rfl rfl<|u<|ld ti9 rfl rfl<|u<|sc [0,1,2,3] (zdX v1 v2 v3 v4 v5 v6.C q6) rfl rfl rfl rfl ⟨(.mpt rfl),(rnI rfl),trivial⟩ ⟨⟨_,rfl,⟨(rnI rfl),(.msl rfl),(.msl rfl),(.msl rfl),trivial⟩⟩,⟨rfl,mkI (fun _=>rfl)⟩,⟨rfl,mkI (fun _=>rfl)⟩,⟨rfl,mkI (fun _=>rfl)⟩,trivial⟩<|zB (env0:=[]) (st0:=[some (4,[[.ipt 2 [[.isl 6 (List.map zb v1),.imp (List.map (rKV (fun x=>iA x)) v2)]] 0 0,.msl 4 0 (List.length v10),.msl 2 0 (List.length v4),.msl 3 0 (List.length v5)]]),none,some (1,List.map zi v4),some (1,List.map zi v5),some (1,List.map zi v10)]) ⟨[.old 0,.dead,.old 2,.old 3,.old 5],cn,rfl,⟨⟨_,rfl,zg ⟨ci rfl,.msl rfl,.msl rfl,.msl rfl,trivial⟩⟩,⟨_,rfl,zd (fun _=>rfl)⟩,⟨_,rfl,zd (fun _=>rfl)⟩,⟨_,rfl,zd (fun _=>rfl)⟩,trivial⟩,rfl,Nat.le_of_ble_eq_true rfl⟩<|za ?_
    obtain rfl:=sm h
    exact ⟨_,rfl,[.old 0,.dead,.old 2,.old 3,.old 4],z8 trivial,rfl,⟨⟨_,rfl,zg ⟨ci rfl,.msl rfl,.msl rfl,.msl rfl,trivial⟩⟩,⟨_,rfl,zd (fun _=>rfl)⟩,⟨_,rfl,zd (fun _=>rfl)⟩,⟨_,rfl,zd (fun _=>rfl)⟩,trivial⟩,rfl,Nat.le_of_ble_eq_true rfl⟩
   ·
    replace h:=bF hc5 h
    refine zk ?_
    obtain rfl:=sm h
    exact ⟨_,rfl,[.old 0,.dead,.old 2,.old 3,.old 1],z8 trivial,rfl,⟨⟨_,rfl,zg ⟨ci rfl,.msl rfl,.msl rfl,.msl rfl,trivial⟩⟩,⟨_,rfl,zd (fun _=>rfl)⟩,⟨_,rfl,zd (fun _=>rfl)⟩,⟨_,rfl,zd (fun _=>rfl)⟩,trivial⟩,rfl,Nat.le_of_ble_eq_true rfl⟩
noncomputable def zhy (v2:zK) (v130:List (List UInt8)) (v131:List (List UInt8)) (v132:List (List UInt8)):Option ((List zc)×(List (List UInt8×Int))×(List (List UInt8))×(List (List UInt8))×(List (List UInt8))) :=
  some (v2.l,v2.at_,v130,v131,v132)
noncomputable def zhx (v71:Int) (v95:List (List UInt8)) (v128:List (List UInt8)) (v129:List (List UInt8)):Option (Sum ((List (List UInt8))×(List (List UInt8))×(List (List UInt8))×Int) (Sum ((List (List UInt8))×(List (List UInt8))×(List (List UInt8))) ((List zc)×(List (List UInt8×Int))×(List (List UInt8))×(List (List UInt8))×(List (List UInt8))))) :=
  some (.inl (v128,v129,v95,(IntKind.i64.wrap (v71+1))))
noncomputable def zhw (v114:Int) (v118:List (List UInt8)) (v127:List (List UInt8)):Option (Sum ((List (List UInt8))×(List (List UInt8))×Int) (Sum ((List (List UInt8))×(List (List UInt8))) ((List zc)×(List (List UInt8×Int))×(List (List UInt8))×(List (List UInt8))×(List (List UInt8))))) :=
  some (.inl (v127,v118,(IntKind.i64.wrap (v114+1))))
noncomputable def zhA (v2:zK) (v95:List (List UInt8)) (v115:ze) (v118:List (List UInt8)) (v123:List (List UInt8)) (v124:Int):Option (Sum ((List (List UInt8))×Int) (Sum ((List (List UInt8))) ((List zc)×(List (List UInt8×Int))×(List (List UInt8))×(List (List UInt8))×(List (List UInt8))))) :=
  cond (decide (v124 < (List.length v115.Code:Int))) ((idx v115.Code v124).bind fun v125=>(zfW v2.l v2.at_ v123 v118 v95 v125).bind fun v126=>some (.inl (v126,(IntKind.i64.wrap (v124+1))))) (some (.inr (.inl v123)))
noncomputable def zhB (v2:zK) (v72:List UInt8) (v73:zc×Bool) (v95:List (List UInt8)) (v112:List (List UInt8)) (v113:List (List UInt8)) (v114:Int):Option (Sum ((List (List UInt8))×(List (List UInt8))×Int) (Sum ((List (List UInt8))×(List (List UInt8))) ((List zc)×(List (List UInt8×Int))×(List (List UInt8))×(List (List UInt8))×(List (List UInt8))))) :=
  cond (decide (v114 < (List.length v73.1.Methods:Int))) ((idx v73.1.Methods v114).bind fun v115=>(zsW v72 [46]).bind fun v116=>(zsW v116 v115.Name).bind fun v117=>(zjq 16 v113 [v117]).bind fun v118=>(zab (fun z=>zhA v2 v95 v115 v118 z.1 z.2) (v112,0)).bind fun o=>zaJ o (fun b=>zhw v114 v118 b) (fun r=>some (.inr (.inr r)))) (some (.inr (.inl (v112,v113))))
noncomputable def zhv (v2:zK) (v69:List (List UInt8)) (v71:Int) (v72:List UInt8) (v73:zc×Bool) (v94:List (List UInt8)) (v95:List (List UInt8)):Option (Sum ((List (List UInt8))×(List (List UInt8))×(List (List UInt8))×Int) (Sum ((List (List UInt8))×(List (List UInt8))×(List (List UInt8))) ((List zc)×(List (List UInt8×Int))×(List (List UInt8))×(List (List UInt8))×(List (List UInt8))))) :=
  (zab (fun z=>zhB v2 v72 v73 v95 z.1 z.2.1 z.2.2) (v94,v69,0)).bind fun o=>zaJ o (fun b=>zhx v71 v95 b.1 b.2) (fun r=>some (.inr (.inr r)))
noncomputable def zeX (v86:Int) (v92:List (List UInt8)) (v93:List (List UInt8)):Option (Sum ((List (List UInt8))×(List (List UInt8))×Int) (Sum ((List (List UInt8))×(List (List UInt8))) ((List zc)×(List (List UInt8×Int))×(List (List UInt8))×(List (List UInt8))×(List (List UInt8))))) :=
  some (.inl (v92,v93,(IntKind.i64.wrap (v86+1))))
noncomputable def zhz (v2:zK) (v69:List (List UInt8)) (v72:List UInt8) (v73:zc×Bool) (v84:List (List UInt8)) (v85:List (List UInt8)) (v86:Int):Option (Sum ((List (List UInt8))×(List (List UInt8))×Int) (Sum ((List (List UInt8))×(List (List UInt8))) ((List zc)×(List (List UInt8×Int))×(List (List UInt8))×(List (List UInt8))×(List (List UInt8))))) :=
  cond (decide (v86 < (List.length v73.1.Fields:Int))) ((idx v73.1.Fields v86).bind fun v87=>(zcO v2.l v2.at_ v84 v69 v85 v87.Type_).bind fun v88=>cond v87.Static ((zsW v72 [46]).bind fun v89=>(zsW v89 v87.Name).bind fun v90=>(zjq 16 v85 [v90]).bind fun v91=>zeX v86 v88 v91) (zeX v86 v88 v85)) (some (.inr (.inl (v84,v85))))
noncomputable def zhC (v2:zK) (v5:(List (List UInt8))) (v68:List (List UInt8)) (v69:List (List UInt8)) (v70:List (List UInt8)) (v71:Int):Option (Sum ((List (List UInt8))×(List (List UInt8))×(List (List UInt8))×Int) (Sum ((List (List UInt8))×(List (List UInt8))×(List (List UInt8))) ((List zc)×(List (List UInt8×Int))×(List (List UInt8))×(List (List UInt8))×(List (List UInt8))))) :=
  cond (decide (v71 < ((List.length v5):Int))) ((idx v5 v71).bind fun v72=>(zE v2.l v2.at_ v72).bind fun v73=>(zab (fun z=>zhz v2 v69 v72 v73 z.1 z.2.1 z.2.2) (v68,v70,0)).bind fun o=>zaJ o (fun b=>zhv v2 v69 v71 v72 v73 b.1 b.2) (fun r=>some (.inr (.inr r)))) (some (.inr (.inl (v68,v69,v70))))
noncomputable def zk3 (v1:Option zK):Option ((List zc)×(List (List UInt8×Int))×(List (List UInt8))×(List (List UInt8))×(List (List UInt8))) :=
  zst v1 (none) (fun v2=>(zcu v2.l v2.at_).bind fun v3=>(zjq 16 v3 ([[91,73]])).bind fun v4=>(zcu v2.l v2.at_).bind fun v5=>(zab (fun z=>zhC v2 v5 z.1 z.2.1 z.2.2.1 z.2.2.2) (v4,[],[],0)).bind fun o=>zaJ o (fun b=>zhy v2 b.1 b.2.1 b.2.2) some)
theorem znu (v1:Option zK) {r:(List zc)×(List (List UInt8×Int))×(List (List UInt8))×(List (List UInt8))×(List (List UInt8))} (h:zk3 v1=some r):SC Tryz.prog 44 [zk8 2 zcG v1] [] (.mpt 0 0 0) [.one 4 [.ipt 2 [[.isl 6 (List.map zb r.1),.imp (List.map (rKV (fun x=>iA x)) r.2.1)]] 0 0,.msl 1 0 (List.length r.2.2.1),.msl 2 0 (List.length r.2.2.2.1),.msl 3 0 (List.length r.2.2.2.2)],.many 1 (List.map zi r.2.2.1),.many 1 (List.map zi r.2.2.2.1),.many 1 (List.map zi r.2.2.2.2)]:=by
 refine ⟨⟨trivial,zeU (sz:=1) (fun _=>rfl),zeU (sz:=1) (fun _=>rfl),zeU (sz:=1) (fun _=>rfl),trivial⟩,zad Tryz.func44 rfl (by kernel_rfl) rfl ?_⟩
 unfold zk3 at h
 rcases v1 with _ | v2
 ·
  replace h:=oeN h
  cases h
 ·
  replace h:=oeS h
  refine rg rfl<|u<|asg rfl<|za ?_
  obtain ⟨v3,q1,h⟩:=bs h
  obtain ⟨v4,q2,h⟩:=bs h
  refine rg rfl<|u<|mv rfl<|u<|mv rfl<|u<|sc [] (zcY v2.l v2.at_ q1) rfl rfl rfl rfl ⟨(rnI rfl),trivial⟩ trivial<|zB (env0:=[(0,.ipt 2 [[.isl 6 (List.map zb v2.l),.imp (List.map (rKV (fun x=>iA x)) v2.at_)]] 0 0),(14,.ipt 2 [[.isl 6 (List.map zb v2.l),.imp (List.map (rKV (fun x=>iA x)) v2.at_)]] 0 0),(16,.msl 0 0 (List.length v3))]) (st0:=[some (1,List.map zi v3)]) ⟨[.old 0],ce rfl rfl<|ce rfl rfl<|cv rfl (.msl rfl)<|cn,rfl,⟨⟨_,rfl,zd (fun _=>rfl)⟩,trivial⟩,rfl,Nat.le_of_ble_eq_true rfl⟩<|u<|bl 1 zM rfl ti9 rfl (by decide) (by decide) rfl rfl rfl<|u<|apM 2 zM rfl ti9 rfl rfl (by decide) zM rfl rfl rfl rfl (roX (f:=zi) (z:=[[91,73]]) rfl rfl) (fun _=>rfl) rfl q2<|u<|bd zkB rfl rfl rfl<|u<|bx 3 4 rfl rfl rfl rfl<|u<|asg rfl<|za ?_
  refine zl ?_
  obtain ⟨v5,q3,h⟩:=bs h
  refine rg rfl<|u<|mv rfl<|u<|sc [] (zcY v2.l v2.at_ q3) rfl rfl rfl rfl ⟨(rnI rfl),trivial⟩ trivial<|zB (env0:=[(0,.ipt 2 [[.isl 6 (List.map zb v2.l),.imp (List.map (rKV (fun x=>iA x)) v2.at_)]] 0 0),(3,.mpt 0 0 0),(22,.msl 2 0 (List.length v5))]) (st0:=[some (4,[[.ipt 2 [[.isl 6 (List.map zb v2.l),.imp (List.map (rKV (fun x=>iA x)) v2.at_)]] 0 0,.msl 1 0 (List.length v4),.lit (.slice none 0 0),.lit (.slice none 0 0)]]),some (1,List.map zi v4),some (1,List.map zi v5)]) ⟨[.old 3,.old 2,.old 4],ce rfl rfl<|cv rfl (.mpt rfl)<|cv rfl (.msl rfl)<|cn,rfl,⟨⟨_,rfl,zg ⟨ci rfl,.msl rfl,ci rfl,ci rfl,trivial⟩⟩,⟨_,rfl,zd (fun _=>rfl)⟩,⟨_,rfl,zd (fun _=>rfl)⟩,trivial⟩,rfl,Nat.le_of_ble_eq_true rfl⟩<|u<|lnM zM rfl rfl rfl<|u<|mv rfl<|za ?_
  obtain ⟨o,ho,h⟩:=bs h
  refine zT (X:=(List (List UInt8))×(List (List UInt8))×(List (List UInt8))×Int) (B:=(List (List UInt8))×(List (List UInt8))×(List (List UInt8))) (R:=(List zc)×(List (List UInt8×Int))×(List (List UInt8))×(List (List UInt8))×(List (List UInt8))) (fun z=>[(0,.ipt 2 [[.isl 6 (List.map zb v2.l),.imp (List.map (rKV (fun x=>iA x)) v2.at_)]] 0 0),(3,.mpt 0 0 0),(22,.msl 4 0 (List.length v5)),(23,iA ((List.length v5):Int)),(24,iA z.2.2.2)]) (fun z=>[some (4,[[.ipt 2 [[.isl 6 (List.map zb v2.l),.imp (List.map (rKV (fun x=>iA x)) v2.at_)]] 0 0,.msl 1 0 (List.length z.1),.msl 2 0 (List.length z.2.1),.msl 3 0 (List.length z.2.2.1)]]),some (1,List.map zi z.1),some (1,List.map zi z.2.1),some (1,List.map zi z.2.2.1),some (1,List.map zi v5)]) (fun b=>[(3,.mpt 0 0 0)]) (fun b=>[some (4,[[.ipt 2 [[.isl 6 (List.map zb v2.l),.imp (List.map (rKV (fun x=>iA x)) v2.at_)]] 0 0,.msl 1 0 (List.length b.1),.msl 2 0 (List.length b.2.1),.msl 3 0 (List.length b.2.2)]]),some (1,List.map zi b.1),some (1,List.map zi b.2.1),some (1,List.map zi b.2.2)]) (fun r env st=>zaC Tryz.prog Tryz.f44 0 (.mpt 0 0 0) [some (4,[[.ipt 2 [[.isl 6 (List.map zb r.1),.imp (List.map (rKV (fun x=>iA x)) r.2.1)]] 0 0,.msl 1 0 (List.length r.2.2.1),.msl 2 0 (List.length r.2.2.2.1),.msl 3 0 (List.length r.2.2.2.2)]]),some (1,List.map zi r.2.2.1),some (1,List.map zi r.2.2.2.1),some (1,List.map zi r.2.2.2.2)] env st) ho ⟨[.old 0,.old 1,.fresh 1,.fresh 1,.old 2],ce rfl rfl<|cv rfl (.mpt rfl)<|cv rfl (.msl rfl)<|ce rfl rfl<|ce rfl rfl<|cn,rfl,⟨⟨_,rfl,zg ⟨ci rfl,.msl rfl,.nilown rfl,.nilown rfl,trivial⟩⟩,⟨_,rfl,zd (fun _=>rfl)⟩,⟨rfl,rfl⟩,⟨rfl,rfl⟩,⟨_,rfl,zd (fun _=>rfl)⟩,trivial⟩,rfl,Nat.le_of_ble_eq_true rfl⟩ ?_ ?_ ?_
  ·
   rintro ⟨v68,v69,v70,v71⟩ r h
   replace h:zhC v2 v5 v68 v69 v70 v71=some r:=h
   unfold zhC at h
   refine rg rfl<|u<|lss ti3 rfl rfl<|za ?_
   refine zl ?_
   refine zh rfl (fun hc43=>?_) (fun hc43=>?_)
   ·
    replace h:=bT hc43 h
    refine zk ?_
    refine zl ?_
    refine zq ?_
    obtain ⟨v72,q44,h⟩:=bs h
    refine rg rfl<|u<|ixM zM rfl ti9 rfl rfl rfl rfl q44<|u<|ldM ti9 rfl rfl (zp q44).2.2 rfl<|u<|asg rfl<|za ?_
    obtain ⟨v73,q45,h⟩:=bs h
    refine rg rfl<|u<|mv rfl<|u<|mv rfl<|u<|pc (zy v2.l v2.at_ v72 q45) rfl rfl rfl<|u<|mv rfl<|u<|ex rfl rfl<|u<|ex rfl rfl<|u<|al 5 zaf rfl<|u<|sto zaf rfl rfl rfl<|u<|asg rfl<|za ?_
    refine zl ?_
    refine rg rfl<|u<|fa zaf rfl rfl rfl<|u<|ld zm0 rfl rfl<|u<|lnI zm0 rfl rfl<|u<|mv rfl<|za ?_
    obtain ⟨o,ho,h⟩:=bs h
    refine zT (X:=(List (List UInt8))×(List (List UInt8))×Int) (B:=(List (List UInt8))×(List (List UInt8))) (R:=(List zc)×(List (List UInt8×Int))×(List (List UInt8))×(List (List UInt8))×(List (List UInt8))) (fun z=>[(0,.ipt 2 [[.isl 6 (List.map zb v2.l),.imp (List.map (rKV (fun x=>iA x)) v2.at_)]] 0 0),(3,.mpt 0 0 0),(5,sA v72),(6,.mpt 4 0 0),(22,.msl 5 0 (List.length v5)),(23,iA ((List.length v5):Int)),(24,iA v71),(35,.isl 3 (List.map zH v73.1.Fields)),(36,iA (List.length v73.1.Fields:Int)),(37,iA z.2.2)]) (fun z=>[some (4,[[.ipt 2 [[.isl 6 (List.map zb v2.l),.imp (List.map (rKV (fun x=>iA x)) v2.at_)]] 0 0,.msl 1 0 (List.length z.1),.msl 2 0 (List.length v69),.msl 3 0 (List.length z.2.1)]]),some (1,List.map zi z.1),some (1,List.map zi v69),some (1,List.map zi z.2.1),some (6,[(zb v73.1)]),some (1,List.map zi v5)]) (fun b=>[(0,.ipt 2 [[.isl 6 (List.map zb v2.l),.imp (List.map (rKV (fun x=>iA x)) v2.at_)]] 0 0),(3,.mpt 0 0 0),(5,sA v72),(6,.mpt 4 0 0),(22,.msl 5 0 (List.length v5)),(23,iA ((List.length v5):Int)),(24,iA v71)]) (fun b=>[some (4,[[.ipt 2 [[.isl 6 (List.map zb v2.l),.imp (List.map (rKV (fun x=>iA x)) v2.at_)]] 0 0,.msl 1 0 (List.length b.1),.msl 2 0 (List.length v69),.msl 3 0 (List.length b.2)]]),some (1,List.map zi b.1),some (1,List.map zi v69),some (1,List.map zi b.2),some (6,[(zb v73.1)]),some (1,List.map zi v5)]) (fun r env st=>zaC Tryz.prog Tryz.f44 0 (.mpt 0 0 0) [some (4,[[.ipt 2 [[.isl 6 (List.map zb r.1),.imp (List.map (rKV (fun x=>iA x)) r.2.1)]] 0 0,.msl 1 0 (List.length r.2.2.1),.msl 2 0 (List.length r.2.2.2.1),.msl 3 0 (List.length r.2.2.2.2)]]),some (1,List.map zi r.2.2.1),some (1,List.map zi r.2.2.2.1),some (1,List.map zi r.2.2.2.2)] env st) ho ⟨[.old 0,.old 1,.old 2,.old 3,.old 5,.old 4],ce rfl rfl<|cv rfl (.mpt rfl)<|ce rfl rfl<|cv rfl (.mpt rfl)<|cv rfl (.msl rfl)<|ce rfl rfl<|ce rfl rfl<|ce rfl rfl<|ce rfl rfl<|ce rfl rfl<|cn,rfl,⟨⟨_,rfl,zg ⟨ci rfl,.msl rfl,.msl rfl,.msl rfl,trivial⟩⟩,⟨_,rfl,zd (fun _=>rfl)⟩,⟨_,rfl,zd (fun _=>rfl)⟩,⟨_,rfl,zd (fun _=>rfl)⟩,⟨_,rfl,zg (ciL rfl)⟩,⟨_,rfl,zd (fun _=>rfl)⟩,trivial⟩,rfl,Nat.le_of_ble_eq_true rfl⟩ ?_ ?_ ?_
    ·
     rintro ⟨v84,v85,v86⟩ r h
     replace h:zhz v2 v69 v72 v73 v84 v85 v86=some r:=h
     unfold zhz at h
     refine rg rfl<|u<|lss ti3 rfl rfl<|za ?_
     refine zl ?_
     refine zh rfl (fun hc53=>?_) (fun hc53=>?_)
     ·
      replace h:=bT hc53 h
      refine zk ?_
      refine zcD (X:=(List (List UInt8))×(List (List UInt8))) (fun z=>[(0,.ipt 2 [[.isl 6 (List.map zb v2.l),.imp (List.map (rKV (fun x=>iA x)) v2.at_)]] 0 0),(3,.mpt 0 0 0),(5,sA v72),(6,.mpt 4 0 0),(22,.msl 5 0 (List.length v5)),(23,iA ((List.length v5):Int)),(24,iA v71),(35,.isl 3 (List.map zH v73.1.Fields)),(36,iA (List.length v73.1.Fields:Int)),(37,iA v86)]) (fun z=>[some (4,[[.ipt 2 [[.isl 6 (List.map zb v2.l),.imp (List.map (rKV (fun x=>iA x)) v2.at_)]] 0 0,.msl 1 0 (List.length z.1),.msl 2 0 (List.length v69),.msl 3 0 (List.length z.2)]]),some (1,List.map zi z.1),some (1,List.map zi v69),some (1,List.map zi z.2),some (6,[(zb v73.1)]),some (1,List.map zi v5)]) (fun z=>zeX v86 z.1 z.2=some r) ?_ ?_
      ·
       refine zq ?_
       obtain ⟨v87,q54,h⟩:=bs h
       refine rg rfl<|u<|ixI zm0 rfl zhG rfl rfl rfl q54<|u<|ldI zhG rfl (zp q54).2.2 rfl<|u<|al 6 zhG rfl<|u<|sto zhG rfl rfl rfl<|za ?_
       obtain ⟨v88,q55,h⟩:=bs h
       refine rg rfl<|u<|mv rfl<|u<|fa zhG rfl rfl rfl<|u<|ld ti9 rfl rfl<|u<|sc [0,1,2,3] (zdX v2.l v2.at_ v84 v69 v85 v87.Type_ q55) rfl rfl rfl rfl ⟨(.mpt rfl),(rnI rfl),trivial⟩ ⟨⟨_,rfl,⟨(rnI rfl),(.msl rfl),(.msl rfl),(.msl rfl),trivial⟩⟩,⟨rfl,mkI (fun _=>rfl)⟩,⟨rfl,mkI (fun _=>rfl)⟩,⟨rfl,mkI (fun _=>rfl)⟩,trivial⟩<|zB (env0:=[(0,.ipt 2 [[.isl 6 (List.map zb v2.l),.imp (List.map (rKV (fun x=>iA x)) v2.at_)]] 0 0),(3,.mpt 0 0 0),(5,sA v72),(6,.mpt 4 0 0),(9,.mpt 5 0 0),(22,.msl 6 0 (List.length v5)),(23,iA ((List.length v5):Int)),(24,iA v71),(35,.isl 3 (List.map zH v73.1.Fields)),(36,iA (List.length v73.1.Fields:Int)),(37,iA v86)]) (st0:=[some (4,[[.ipt 2 [[.isl 6 (List.map zb v2.l),.imp (List.map (rKV (fun x=>iA x)) v2.at_)]] 0 0,.msl 1 0 (List.length v88),.msl 2 0 (List.length v69),.msl 3 0 (List.length v85)]]),some (1,List.map zi v88),some (1,List.map zi v69),some (1,List.map zi v85),some (6,[(zb v73.1)]),some (3,[(zH v87)]),some (1,List.map zi v5)]) ⟨[.old 0,.old 7,.old 2,.old 3,.old 4,.old 6,.old 5],ce rfl rfl<|cv rfl (.mpt rfl)<|ce rfl rfl<|cv rfl (.mpt rfl)<|cv rfl (.mpt rfl)<|cv rfl (.msl rfl)<|ce rfl rfl<|ce rfl rfl<|ce rfl rfl<|ce rfl rfl<|ce rfl rfl<|cn,rfl,⟨⟨_,rfl,zg ⟨ci rfl,.msl rfl,.msl rfl,.msl rfl,trivial⟩⟩,⟨_,rfl,zd (fun _=>rfl)⟩,⟨_,rfl,zd (fun _=>rfl)⟩,⟨_,rfl,zd (fun _=>rfl)⟩,⟨_,rfl,zg (ciL rfl)⟩,⟨_,rfl,zg (ciL rfl)⟩,⟨_,rfl,zd (fun _=>rfl)⟩,trivial⟩,rfl,Nat.le_of_ble_eq_true rfl⟩<|za ?_
       refine rg rfl<|u<|fa zhG rfl rfl rfl<|u<|ld ti4 rfl rfl<|za ?_
       refine zh rfl (fun hc56=>?_) (fun hc56=>?_)
       ·
        replace h:=bT hc56 h
        obtain ⟨v89,q57,h⟩:=bs h
        obtain ⟨v90,q58,h⟩:=bs h
        obtain ⟨v91,q59,h⟩:=bs h
        refine rdL [(0,.ipt 2 [[.isl 6 (List.map zb v2.l),.imp (List.map (rKV (fun x=>iA x)) v2.at_)]] 0 0),(3,.mpt 0 0 0),(5,sA v72),(6,.mpt 4 0 0),(22,.msl 5 0 (List.length v5)),(23,iA ((List.length v5):Int)),(24,iA v71),(35,.isl 3 (List.map zH v73.1.Fields)),(36,iA (List.length v73.1.Fields:Int)),(37,iA v86)] [some (4,[[.ipt 2 [[.isl 6 (List.map zb v2.l),.imp (List.map (rKV (fun x=>iA x)) v2.at_)]] 0 0,.msl 1 0 (List.length v88),.msl 2 0 (List.length v69),.msl 3 0 (List.length v91)]]),some (1,List.map zi v88),some (1,List.map zi v69),some (1,List.map zi v91),some (6,[(zb v73.1)]),some (1,List.map zi v5)] [10,11,14] [9,8,7,6,5,4,3,2,1,0] [(56,sA v90),(55,sA v87.Name),(54,.mpt 5 0 0),(53,sA v89),(52,sA v72),(51,.msl 3 0 (List.length v85)),(50,.mpt 0 0 3),(49,.mpt 0 0 0),(48,.mpt 0 0 0),(47,.mpt 0 0 0)] 3 (by kernel_rfl) (by kernel_rfl) rfl (by kernel_rfl) (dtS ⟨(fun _=>pa rfl rfl rfl rfl (zr3 ti9 rfl rfl q58<|⟨rfl,rfl⟩)),(fun _=>pa rfl rfl rfl rfl (ld ti9 rfl rfl<|⟨rfl,rfl⟩)),(fun _=>pa rfl rfl rfl rfl (fa zhG rfl rfl rfl<|⟨rfl,rfl⟩)),(fun _=>pa rfl rfl rfl rfl (zr3 ti9 rfl rfl q57<|⟨rfl,rfl⟩)),(fun _=>pa rfl rfl rfl rfl (mv rfl<|⟨rfl,rfl⟩)),(fun _=>pa rfl rfl rfl rfl (ld zM rfl rfl<|⟨rfl,rfl⟩)),(fun _=>pa rfl rfl rfl rfl (fa zkB rfl rfl rfl<|⟨rfl,rfl⟩)),(fun _=>pa rfl rfl rfl rfl (nc rfl rfl<|⟨rfl,rfl⟩)),(fun _=>pa rfl rfl rfl rfl (mv rfl<|⟨rfl,rfl⟩)),(fun _=>pa rfl rfl rfl rfl (mv rfl<|⟨rfl,rfl⟩)),trivial⟩ (by kernel_rfl) rfl ⟨(fun _ _=>⟨_,rfl,rfl,bl 7 zM rfl ti9 rfl (by decide) (by decide) rfl rfl rfl<|⟨(.msl 7 0 1),[],[(57,.msl 7 0 1)],rfl,rfl,by kernel_rfl,rfl,dtS ⟨(fun h=>by cases h),(fun _=>pa rfl rfl rfl rfl (ld ti9 rfl rfl<|⟨rfl,rfl⟩)),(fun _=>pa rfl rfl rfl rfl (fa zhG rfl rfl rfl<|⟨rfl,rfl⟩)),(fun _=>pa rfl rfl rfl rfl (zr3 ti9 rfl rfl q57<|⟨rfl,rfl⟩)),(fun _=>pa rfl rfl rfl rfl (mv rfl<|⟨rfl,rfl⟩)),(fun _=>pa rfl rfl rfl rfl (ld zM rfl rfl<|⟨rfl,rfl⟩)),(fun _=>pa rfl rfl rfl rfl (fa zkB rfl rfl rfl<|⟨rfl,rfl⟩)),(fun _=>pa rfl rfl rfl rfl (nc rfl rfl<|⟨rfl,rfl⟩)),(fun _=>pa rfl rfl rfl rfl (mv rfl<|⟨rfl,rfl⟩)),(fun _=>pa rfl rfl rfl rfl (mv rfl<|⟨rfl,rfl⟩)),trivial⟩ (by kernel_rfl) rfl ⟨(fun h=>by cases h),(fun _ _=>⟨_,rfl,rfl,apM 8 zM rfl ti9 rfl rfl (by decide) zM rfl rfl rfl rfl (roX (f:=zi) (z:=[v90]) rfl rfl) (fun _=>rfl) rfl q59<|⟨(.msl 8 0 (List.length v91)),[13,12],[(60,.mpt 0 0 3),(59,.mpt 0 0 0),(58,.msl 8 0 (List.length v91))],rfl,rfl,by kernel_rfl,rfl,dtS ⟨(fun _=>pa rfl rfl rfl rfl (fa zkB rfl rfl rfl<|⟨rfl,rfl⟩)),(fun _=>pa rfl rfl rfl rfl (nc rfl rfl<|⟨rfl,rfl⟩)),(fun h=>by cases h),(fun _=>pa rfl rfl rfl rfl (ld ti9 rfl rfl<|⟨rfl,rfl⟩)),(fun _=>pa rfl rfl rfl rfl (fa zhG rfl rfl rfl<|⟨rfl,rfl⟩)),(fun _=>pa rfl rfl rfl rfl (zr3 ti9 rfl rfl q57<|⟨rfl,rfl⟩)),(fun _=>pa rfl rfl rfl rfl (mv rfl<|⟨rfl,rfl⟩)),(fun h=>by cases h),(fun _=>pa rfl rfl rfl rfl (fa zkB rfl rfl rfl<|⟨rfl,rfl⟩)),(fun _=>pa rfl rfl rfl rfl (nc rfl rfl<|⟨rfl,rfl⟩)),(fun _=>pa rfl rfl rfl rfl (mv rfl<|⟨rfl,rfl⟩)),(fun _=>pa rfl rfl rfl rfl (mv rfl<|⟨rfl,rfl⟩)),trivial⟩ (by kernel_rfl) rfl ⟨(fun h=>by cases h),(fun h=>by cases h),(fun _ _=>⟨_,rfl,rfl,sto zM rfl rfl rfl<|⟨.any,[],[],rfl,rfl,by kernel_rfl,trivial,dt0 ⟨(fun h=>by cases h),(fun _=>pa rfl rfl rfl rfl (nc rfl rfl<|⟨rfl,rfl⟩)),(fun h=>by cases h),(fun h=>by cases h),(fun h=>by cases h),(fun h=>by cases h),(fun h=>by cases h),(fun h=>by cases h),(fun h=>by cases h),(fun h=>by cases h),(fun h=>by cases h),(fun h=>by cases h),trivial⟩ (by kernel_rfl) rfl ⟨[.old 0,.old 1,.old 2,.old 8,.old 4,.old 6],ce rfl rfl<|cv rfl (.mpt rfl)<|ce rfl rfl<|cv rfl (.mpt rfl)<|cv rfl (.msl rfl)<|ce rfl rfl<|ce rfl rfl<|ce rfl rfl<|ce rfl rfl<|ce rfl rfl<|cn,rfl,⟨⟨_,rfl,zg ⟨ci rfl,.msl rfl,.msl rfl,.msl rfl,trivial⟩⟩,⟨_,rfl,zd (fun _=>rfl)⟩,⟨_,rfl,zd (fun _=>rfl)⟩,⟨_,rfl,zd (fun _=>rfl)⟩,⟨_,rfl,zg (ciL rfl)⟩,⟨_,rfl,zd (fun _=>rfl)⟩,trivial⟩,rfl,Nat.le_of_ble_eq_true rfl⟩⟩⟩),trivial⟩⟩⟩),(fun _ h=>by cases h),trivial⟩⟩⟩),(fun _ h=>by cases h),(fun _ h=>by cases h),trivial⟩) ?_
        exact ⟨⟨v88,v91⟩,h,[.old 0,.old 1,.old 2,.old 3,.old 4,.old 5],ce rfl rfl<|cv rfl (.mpt rfl)<|ce rfl rfl<|cv rfl (.mpt rfl)<|cv rfl (.msl rfl)<|ce rfl rfl<|ce rfl rfl<|ce rfl rfl<|ce rfl rfl<|ce rfl rfl<|cn,rfl,⟨⟨_,rfl,zg ⟨ci rfl,.msl rfl,.msl rfl,.msl rfl,trivial⟩⟩,⟨_,rfl,zd (fun _=>rfl)⟩,⟨_,rfl,zd (fun _=>rfl)⟩,⟨_,rfl,zd (fun _=>rfl)⟩,⟨_,rfl,zg (ciL rfl)⟩,⟨_,rfl,zd (fun _=>rfl)⟩,trivial⟩,rfl,Nat.le_of_ble_eq_true rfl⟩
       ·
        replace h:=bF hc56 h
        refine zk ?_
        exact ⟨⟨v88,v85⟩,h,[.old 0,.old 1,.old 2,.old 3,.old 4,.old 6],ce rfl rfl<|cv rfl (.mpt rfl)<|ce rfl rfl<|cv rfl (.mpt rfl)<|cv rfl (.msl rfl)<|ce rfl rfl<|ce rfl rfl<|ce rfl rfl<|ce rfl rfl<|ce rfl rfl<|cn,rfl,⟨⟨_,rfl,zg ⟨ci rfl,.msl rfl,.msl rfl,.msl rfl,trivial⟩⟩,⟨_,rfl,zd (fun _=>rfl)⟩,⟨_,rfl,zd (fun _=>rfl)⟩,⟨_,rfl,zd (fun _=>rfl)⟩,⟨_,rfl,zg (ciL rfl)⟩,⟨_,rfl,zd (fun _=>rfl)⟩,trivial⟩,rfl,Nat.le_of_ble_eq_true rfl⟩
      ·
       rintro ⟨v92,v93⟩ h
       replace h:zeX v86 v92 v93=some r:=h
       unfold zeX at h
       refine rl rfl<|u<|add ti3 rfl rfl<|u<|mv rfl<|za ?_
       obtain rfl:=sm h
       exact ⟨_,rfl,[.old 0,.old 1,.old 2,.old 3,.old 4,.old 5],ce rfl rfl<|cv rfl (.mpt rfl)<|ce rfl rfl<|cv rfl (.mpt rfl)<|cv rfl (.msl rfl)<|ce rfl rfl<|ce rfl rfl<|ce rfl rfl<|ce rfl rfl<|ce rfl rfl<|cn,rfl,⟨⟨_,rfl,zg ⟨ci rfl,.msl rfl,.msl rfl,.msl rfl,trivial⟩⟩,⟨_,rfl,zd (fun _=>rfl)⟩,⟨_,rfl,zd (fun _=>rfl)⟩,⟨_,rfl,zd (fun _=>rfl)⟩,⟨_,rfl,zg (ciL rfl)⟩,⟨_,rfl,zd (fun _=>rfl)⟩,trivial⟩,rfl,Nat.le_of_ble_eq_true rfl⟩
     ·
      replace h:=bF hc53 h
      refine zz ?_
      obtain rfl:=sm h
      exact ⟨rfl,_,rfl,[.old 0,.old 1,.old 2,.old 3,.old 4,.old 5],ce rfl rfl<|cv rfl (.mpt rfl)<|ce rfl rfl<|cv rfl (.mpt rfl)<|cv rfl (.msl rfl)<|ce rfl rfl<|ce rfl rfl<|cn,rfl,⟨⟨_,rfl,zg ⟨ci rfl,.msl rfl,.msl rfl,.msl rfl,trivial⟩⟩,⟨_,rfl,zd (fun _=>rfl)⟩,⟨_,rfl,zd (fun _=>rfl)⟩,⟨_,rfl,zd (fun _=>rfl)⟩,⟨_,rfl,zg (ciL rfl)⟩,⟨_,rfl,zd (fun _=>rfl)⟩,trivial⟩,rfl,Nat.le_of_ble_eq_true rfl⟩
    ·
     rintro ⟨v94,v95⟩ rfl
     replace h:zhv v2 v69 v71 v72 v73 v94 v95=some r:=h
     unfold zhv at h
     refine zv ?_
     refine rg rfl<|u<|fa zaf rfl rfl rfl<|u<|ld zc7 rfl rfl<|u<|lnI zc7 rfl rfl<|u<|mv rfl<|za ?_
     obtain ⟨o,ho,h⟩:=bs h
     refine zT (X:=(List (List UInt8))×(List (List UInt8))×Int) (B:=(List (List UInt8))×(List (List UInt8))) (R:=(List zc)×(List (List UInt8×Int))×(List (List UInt8))×(List (List UInt8))×(List (List UInt8))) (fun z=>[(0,.ipt 2 [[.isl 6 (List.map zb v2.l),.imp (List.map (rKV (fun x=>iA x)) v2.at_)]] 0 0),(3,.mpt 0 0 0),(5,sA v72),(22,.msl 4 0 (List.length v5)),(23,iA ((List.length v5):Int)),(24,iA v71),(63,.isl 10 (List.map zf v73.1.Methods)),(64,iA (List.length v73.1.Methods:Int)),(65,iA z.2.2)]) (fun z=>[some (4,[[.ipt 2 [[.isl 6 (List.map zb v2.l),.imp (List.map (rKV (fun x=>iA x)) v2.at_)]] 0 0,.msl 1 0 (List.length z.1),.msl 2 0 (List.length z.2.1),.msl 3 0 (List.length v95)]]),some (1,List.map zi z.1),some (1,List.map zi z.2.1),some (1,List.map zi v95),some (1,List.map zi v5)]) (fun b=>[(0,.ipt 2 [[.isl 6 (List.map zb v2.l),.imp (List.map (rKV (fun x=>iA x)) v2.at_)]] 0 0),(3,.mpt 0 0 0),(22,.msl 4 0 (List.length v5)),(23,iA ((List.length v5):Int)),(24,iA v71)]) (fun b=>[some (4,[[.ipt 2 [[.isl 6 (List.map zb v2.l),.imp (List.map (rKV (fun x=>iA x)) v2.at_)]] 0 0,.msl 1 0 (List.length b.1),.msl 2 0 (List.length b.2),.msl 3 0 (List.length v95)]]),some (1,List.map zi b.1),some (1,List.map zi b.2),some (1,List.map zi v95),some (1,List.map zi v5)]) (fun r env st=>zaC Tryz.prog Tryz.f44 0 (.mpt 0 0 0) [some (4,[[.ipt 2 [[.isl 6 (List.map zb r.1),.imp (List.map (rKV (fun x=>iA x)) r.2.1)]] 0 0,.msl 1 0 (List.length r.2.2.1),.msl 2 0 (List.length r.2.2.2.1),.msl 3 0 (List.length r.2.2.2.2)]]),some (1,List.map zi r.2.2.1),some (1,List.map zi r.2.2.2.1),some (1,List.map zi r.2.2.2.2)] env st) ho ⟨[.old 0,.old 1,.old 2,.old 3,.old 5],ce rfl rfl<|cv rfl (.mpt rfl)<|ce rfl rfl<|cv rfl (.msl rfl)<|ce rfl rfl<|ce rfl rfl<|ce rfl rfl<|ce rfl rfl<|ce rfl rfl<|cn,rfl,⟨⟨_,rfl,zg ⟨ci rfl,.msl rfl,.msl rfl,.msl rfl,trivial⟩⟩,⟨_,rfl,zd (fun _=>rfl)⟩,⟨_,rfl,zd (fun _=>rfl)⟩,⟨_,rfl,zd (fun _=>rfl)⟩,⟨_,rfl,zd (fun _=>rfl)⟩,trivial⟩,rfl,Nat.le_of_ble_eq_true rfl⟩ ?_ ?_ ?_
     ·
      rintro ⟨v112,v113,v114⟩ r h
      replace h:zhB v2 v72 v73 v95 v112 v113 v114=some r:=h
      unfold zhB at h
      refine rg rfl<|u<|lss ti3 rfl rfl<|za ?_
      refine zl ?_
      refine zh rfl (fun hc71=>?_) (fun hc71=>?_)
      ·
       replace h:=bT hc71 h
       refine zk ?_
       refine zl ?_
       refine zq ?_
       obtain ⟨v115,q72,h⟩:=bs h
       refine rg rfl<|u<|ixI zc7 rfl zN rfl rfl rfl q72<|u<|ldI zN rfl (zp q72).2.2 rfl<|u<|al 5 zN rfl<|u<|sto zN rfl rfl rfl<|za ?_
       obtain ⟨v116,q73,h⟩:=bs h
       obtain ⟨v117,q74,h⟩:=bs h
       obtain ⟨v118,q75,h⟩:=bs h
       refine rd [(0,.ipt 2 [[.isl 6 (List.map zb v2.l),.imp (List.map (rKV (fun x=>iA x)) v2.at_)]] 0 0),(3,.mpt 0 0 0),(5,sA v72),(11,.mpt 4 0 0),(22,.msl 5 0 (List.length v5)),(23,iA ((List.length v5):Int)),(24,iA v71),(63,.isl 10 (List.map zf v73.1.Methods)),(64,iA (List.length v73.1.Methods:Int)),(65,iA v114)] [some (4,[[.ipt 2 [[.isl 6 (List.map zb v2.l),.imp (List.map (rKV (fun x=>iA x)) v2.at_)]] 0 0,.msl 1 0 (List.length v112),.msl 2 0 (List.length v118),.msl 3 0 (List.length v95)]]),some (1,List.map zi v112),some (1,List.map zi v118),some (1,List.map zi v95),some (10,[(zf v115)]),some (1,List.map zi v5)] [10,11,14] [9,8,7,6,5,4,3,2,1,0] [(78,sA v117),(77,sA v115.Name),(76,.mpt 5 0 0),(75,sA v116),(74,sA v72),(73,.msl 2 0 (List.length v113)),(72,.mpt 0 0 2),(71,.mpt 0 0 0),(70,.mpt 0 0 0),(69,.mpt 0 0 0)] 3 (by kernel_rfl) (by kernel_rfl) rfl (by kernel_rfl) (dtS ⟨(fun _=>pa rfl rfl rfl rfl (zr3 ti9 rfl rfl q74<|⟨rfl,rfl⟩)),(fun _=>pa rfl rfl rfl rfl (ld ti9 rfl rfl<|⟨rfl,rfl⟩)),(fun _=>pa rfl rfl rfl rfl (fa zN rfl rfl rfl<|⟨rfl,rfl⟩)),(fun _=>pa rfl rfl rfl rfl (zr3 ti9 rfl rfl q73<|⟨rfl,rfl⟩)),(fun _=>pa rfl rfl rfl rfl (mv rfl<|⟨rfl,rfl⟩)),(fun _=>pa rfl rfl rfl rfl (ld zM rfl rfl<|⟨rfl,rfl⟩)),(fun _=>pa rfl rfl rfl rfl (fa zkB rfl rfl rfl<|⟨rfl,rfl⟩)),(fun _=>pa rfl rfl rfl rfl (nc rfl rfl<|⟨rfl,rfl⟩)),(fun _=>pa rfl rfl rfl rfl (mv rfl<|⟨rfl,rfl⟩)),(fun _=>pa rfl rfl rfl rfl (mv rfl<|⟨rfl,rfl⟩)),trivial⟩ (by kernel_rfl) rfl ⟨(fun _ _=>⟨_,rfl,rfl,bl 6 zM rfl ti9 rfl (by decide) (by decide) rfl rfl rfl<|⟨(.msl 6 0 1),[],[(79,.msl 6 0 1)],rfl,rfl,by kernel_rfl,rfl,dtS ⟨(fun h=>by cases h),(fun _=>pa rfl rfl rfl rfl (ld ti9 rfl rfl<|⟨rfl,rfl⟩)),(fun _=>pa rfl rfl rfl rfl (fa zN rfl rfl rfl<|⟨rfl,rfl⟩)),(fun _=>pa rfl rfl rfl rfl (zr3 ti9 rfl rfl q73<|⟨rfl,rfl⟩)),(fun _=>pa rfl rfl rfl rfl (mv rfl<|⟨rfl,rfl⟩)),(fun _=>pa rfl rfl rfl rfl (ld zM rfl rfl<|⟨rfl,rfl⟩)),(fun _=>pa rfl rfl rfl rfl (fa zkB rfl rfl rfl<|⟨rfl,rfl⟩)),(fun _=>pa rfl rfl rfl rfl (nc rfl rfl<|⟨rfl,rfl⟩)),(fun _=>pa rfl rfl rfl rfl (mv rfl<|⟨rfl,rfl⟩)),(fun _=>pa rfl rfl rfl rfl (mv rfl<|⟨rfl,rfl⟩)),trivial⟩ (by kernel_rfl) rfl ⟨(fun h=>by cases h),(fun _ _=>⟨_,rfl,rfl,apM 7 zM rfl ti9 rfl rfl (by decide) zM rfl rfl rfl rfl (roX (f:=zi) (z:=[v117]) rfl rfl) (fun _=>rfl) rfl q75<|⟨(.msl 7 0 (List.length v118)),[13,12],[(82,.mpt 0 0 2),(81,.mpt 0 0 0),(80,.msl 7 0 (List.length v118))],rfl,rfl,by kernel_rfl,rfl,dtS ⟨(fun _=>pa rfl rfl rfl rfl (fa zkB rfl rfl rfl<|⟨rfl,rfl⟩)),(fun _=>pa rfl rfl rfl rfl (nc rfl rfl<|⟨rfl,rfl⟩)),(fun h=>by cases h),(fun _=>pa rfl rfl rfl rfl (ld ti9 rfl rfl<|⟨rfl,rfl⟩)),(fun _=>pa rfl rfl rfl rfl (fa zN rfl rfl rfl<|⟨rfl,rfl⟩)),(fun _=>pa rfl rfl rfl rfl (zr3 ti9 rfl rfl q73<|⟨rfl,rfl⟩)),(fun _=>pa rfl rfl rfl rfl (mv rfl<|⟨rfl,rfl⟩)),(fun h=>by cases h),(fun _=>pa rfl rfl rfl rfl (fa zkB rfl rfl rfl<|⟨rfl,rfl⟩)),(fun _=>pa rfl rfl rfl rfl (nc rfl rfl<|⟨rfl,rfl⟩)),(fun _=>pa rfl rfl rfl rfl (mv rfl<|⟨rfl,rfl⟩)),(fun _=>pa rfl rfl rfl rfl (mv rfl<|⟨rfl,rfl⟩)),trivial⟩ (by kernel_rfl) rfl ⟨(fun h=>by cases h),(fun h=>by cases h),(fun _ _=>⟨_,rfl,rfl,sto zM rfl rfl rfl<|⟨.any,[],[],rfl,rfl,by kernel_rfl,trivial,dt0 ⟨(fun h=>by cases h),(fun _=>pa rfl rfl rfl rfl (nc rfl rfl<|⟨rfl,rfl⟩)),(fun h=>by cases h),(fun h=>by cases h),(fun h=>by cases h),(fun h=>by cases h),(fun h=>by cases h),(fun h=>by cases h),(fun h=>by cases h),(fun h=>by cases h),(fun h=>by cases h),(fun h=>by cases h),trivial⟩ (by kernel_rfl) rfl ⟨[.old 0,.old 1,.old 7,.old 3,.old 5,.old 4],ce rfl rfl<|cv rfl (.mpt rfl)<|ce rfl rfl<|cv rfl (.mpt rfl)<|cv rfl (.msl rfl)<|ce rfl rfl<|ce rfl rfl<|ce rfl rfl<|ce rfl rfl<|ce rfl rfl<|cn,rfl,⟨⟨_,rfl,zg ⟨ci rfl,.msl rfl,.msl rfl,.msl rfl,trivial⟩⟩,⟨_,rfl,zd (fun _=>rfl)⟩,⟨_,rfl,zd (fun _=>rfl)⟩,⟨_,rfl,zd (fun _=>rfl)⟩,⟨_,rfl,zg (ciL rfl)⟩,⟨_,rfl,zd (fun _=>rfl)⟩,trivial⟩,rfl,Nat.le_of_ble_eq_true rfl⟩⟩⟩),trivial⟩⟩⟩),(fun _ h=>by cases h),trivial⟩⟩⟩),(fun _ h=>by cases h),(fun _ h=>by cases h),trivial⟩) ?_
       refine rg rfl<|u<|fa zN rfl rfl rfl<|u<|ld zj7 rfl rfl<|u<|lnI zj7 rfl rfl<|u<|mv rfl<|za ?_
       obtain ⟨o,ho,h⟩:=bs h
       refine zT (X:=(List (List UInt8))×Int) (B:=(List (List UInt8))) (R:=(List zc)×(List (List UInt8×Int))×(List (List UInt8))×(List (List UInt8))×(List (List UInt8))) (fun z=>[(0,.ipt 2 [[.isl 6 (List.map zb v2.l),.imp (List.map (rKV (fun x=>iA x)) v2.at_)]] 0 0),(3,.mpt 0 0 0),(5,sA v72),(22,.msl 4 0 (List.length v5)),(23,iA ((List.length v5):Int)),(24,iA v71),(63,.isl 10 (List.map zf v73.1.Methods)),(64,iA (List.length v73.1.Methods:Int)),(65,iA v114),(84,.isl 4 (List.map zw v115.Code)),(85,iA (List.length v115.Code:Int)),(86,iA z.2)]) (fun z=>[some (4,[[.ipt 2 [[.isl 6 (List.map zb v2.l),.imp (List.map (rKV (fun x=>iA x)) v2.at_)]] 0 0,.msl 1 0 (List.length z.1),.msl 2 0 (List.length v118),.msl 3 0 (List.length v95)]]),some (1,List.map zi z.1),some (1,List.map zi v118),some (1,List.map zi v95),some (1,List.map zi v5)]) (fun b=>[(0,.ipt 2 [[.isl 6 (List.map zb v2.l),.imp (List.map (rKV (fun x=>iA x)) v2.at_)]] 0 0),(3,.mpt 0 0 0),(5,sA v72),(22,.msl 4 0 (List.length v5)),(23,iA ((List.length v5):Int)),(24,iA v71),(63,.isl 10 (List.map zf v73.1.Methods)),(64,iA (List.length v73.1.Methods:Int)),(65,iA v114)]) (fun b=>[some (4,[[.ipt 2 [[.isl 6 (List.map zb v2.l),.imp (List.map (rKV (fun x=>iA x)) v2.at_)]] 0 0,.msl 1 0 (List.length b),.msl 2 0 (List.length v118),.msl 3 0 (List.length v95)]]),some (1,List.map zi b),some (1,List.map zi v118),some (1,List.map zi v95),some (1,List.map zi v5)]) (fun r env st=>zaC Tryz.prog Tryz.f44 0 (.mpt 0 0 0) [some (4,[[.ipt 2 [[.isl 6 (List.map zb r.1),.imp (List.map (rKV (fun x=>iA x)) r.2.1)]] 0 0,.msl 1 0 (List.length r.2.2.1),.msl 2 0 (List.length r.2.2.2.1),.msl 3 0 (List.length r.2.2.2.2)]]),some (1,List.map zi r.2.2.1),some (1,List.map zi r.2.2.2.1),some (1,List.map zi r.2.2.2.2)] env st) ho ⟨[.old 0,.old 1,.old 2,.old 3,.old 5],ce rfl rfl<|cv rfl (.mpt rfl)<|ce rfl rfl<|cv rfl (.msl rfl)<|ce rfl rfl<|ce rfl rfl<|ce rfl rfl<|ce rfl rfl<|ce rfl rfl<|ce rfl rfl<|ce rfl rfl<|ce rfl rfl<|cn,rfl,⟨⟨_,rfl,zg ⟨ci rfl,.msl rfl,.msl rfl,.msl rfl,trivial⟩⟩,⟨_,rfl,zd (fun _=>rfl)⟩,⟨_,rfl,zd (fun _=>rfl)⟩,⟨_,rfl,zd (fun _=>rfl)⟩,⟨_,rfl,zd (fun _=>rfl)⟩,trivial⟩,rfl,Nat.le_of_ble_eq_true rfl⟩ ?_ ?_ ?_
       ·
        rintro ⟨v123,v124⟩ r h
        replace h:zhA v2 v95 v115 v118 v123 v124=some r:=h
        unfold zhA at h
        refine rg rfl<|u<|lss ti3 rfl rfl<|za ?_
        refine zl ?_
        refine zh rfl (fun hc79=>?_) (fun hc79=>?_)
        ·
         replace h:=bT hc79 h
         refine zk ?_
         refine zl ?_
         refine zq ?_
         obtain ⟨v125,q80,h⟩:=bs h
         refine rg rfl<|u<|ixI zj7 rfl zcI rfl rfl rfl q80<|u<|ldI zcI rfl (zp q80).2.2 rfl<|u<|al 5 zcI rfl<|u<|sto zcI rfl rfl rfl<|za ?_
         obtain ⟨v126,q81,h⟩:=bs h
         refine rl rfl<|u<|mv rfl<|u<|ld zcI rfl rfl<|u<|sc [0,1,2,3] (zjr v2.l v2.at_ v123 v118 v95 v125 q81) rfl rfl rfl rfl ⟨(.mpt rfl),(rnI rfl),trivial⟩ ⟨⟨_,rfl,⟨(rnI rfl),(.msl rfl),(.msl rfl),(.msl rfl),trivial⟩⟩,⟨rfl,mkI (fun _=>rfl)⟩,⟨rfl,mkI (fun _=>rfl)⟩,⟨rfl,mkI (fun _=>rfl)⟩,trivial⟩<|zB (env0:=[(0,.ipt 2 [[.isl 6 (List.map zb v2.l),.imp (List.map (rKV (fun x=>iA x)) v2.at_)]] 0 0),(3,.mpt 0 0 0),(5,sA v72),(22,.msl 4 0 (List.length v5)),(23,iA ((List.length v5):Int)),(24,iA v71),(63,.isl 10 (List.map zf v73.1.Methods)),(64,iA (List.length v73.1.Methods:Int)),(65,iA v114),(84,.isl 4 (List.map zw v115.Code)),(85,iA (List.length v115.Code:Int)),(86,iA v124)]) (st0:=[some (4,[[.ipt 2 [[.isl 6 (List.map zb v2.l),.imp (List.map (rKV (fun x=>iA x)) v2.at_)]] 0 0,.msl 1 0 (List.length v126),.msl 2 0 (List.length v118),.msl 3 0 (List.length v95)]]),some (1,List.map zi v126),some (1,List.map zi v118),some (1,List.map zi v95),some (1,List.map zi v5)]) ⟨[.old 0,.old 6,.old 2,.old 3,.old 4],ce rfl rfl<|cv rfl (.mpt rfl)<|ce rfl rfl<|cv rfl (.msl rfl)<|ce rfl rfl<|ce rfl rfl<|ce rfl rfl<|ce rfl rfl<|ce rfl rfl<|ce rfl rfl<|ce rfl rfl<|ce rfl rfl<|cn,rfl,⟨⟨_,rfl,zg ⟨ci rfl,.msl rfl,.msl rfl,.msl rfl,trivial⟩⟩,⟨_,rfl,zd (fun _=>rfl)⟩,⟨_,rfl,zd (fun _=>rfl)⟩,⟨_,rfl,zd (fun _=>rfl)⟩,⟨_,rfl,zd (fun _=>rfl)⟩,trivial⟩,rfl,Nat.le_of_ble_eq_true rfl⟩<|za ?_
         refine rl rfl<|u<|add ti3 rfl rfl<|u<|mv rfl<|za ?_
         obtain rfl:=sm h
         exact ⟨_,rfl,[.old 0,.old 1,.old 2,.old 3,.old 4],ce rfl rfl<|cv rfl (.mpt rfl)<|ce rfl rfl<|cv rfl (.msl rfl)<|ce rfl rfl<|ce rfl rfl<|ce rfl rfl<|ce rfl rfl<|ce rfl rfl<|ce rfl rfl<|ce rfl rfl<|ce rfl rfl<|cn,rfl,⟨⟨_,rfl,zg ⟨ci rfl,.msl rfl,.msl rfl,.msl rfl,trivial⟩⟩,⟨_,rfl,zd (fun _=>rfl)⟩,⟨_,rfl,zd (fun _=>rfl)⟩,⟨_,rfl,zd (fun _=>rfl)⟩,⟨_,rfl,zd (fun _=>rfl)⟩,trivial⟩,rfl,Nat.le_of_ble_eq_true rfl⟩
        ·
         replace h:=bF hc79 h
         refine zz ?_
         obtain rfl:=sm h
         exact ⟨rfl,_,rfl,[.old 0,.old 1,.old 2,.old 3,.old 4],ce rfl rfl<|cv rfl (.mpt rfl)<|ce rfl rfl<|cv rfl (.msl rfl)<|ce rfl rfl<|ce rfl rfl<|ce rfl rfl<|ce rfl rfl<|ce rfl rfl<|cn,rfl,⟨⟨_,rfl,zg ⟨ci rfl,.msl rfl,.msl rfl,.msl rfl,trivial⟩⟩,⟨_,rfl,zd (fun _=>rfl)⟩,⟨_,rfl,zd (fun _=>rfl)⟩,⟨_,rfl,zd (fun _=>rfl)⟩,⟨_,rfl,zd (fun _=>rfl)⟩,trivial⟩,rfl,Nat.le_of_ble_eq_true rfl⟩
       ·
        rintro v127 rfl
        replace h:zhw v114 v118 v127=some r:=h
        unfold zhw at h
        refine zv ?_
        refine rl rfl<|u<|add ti3 rfl rfl<|u<|mv rfl<|za ?_
        obtain rfl:=sm h
        exact ⟨_,rfl,[.old 0,.old 1,.old 2,.old 3,.old 4],ce rfl rfl<|cv rfl (.mpt rfl)<|ce rfl rfl<|cv rfl (.msl rfl)<|ce rfl rfl<|ce rfl rfl<|ce rfl rfl<|ce rfl rfl<|ce rfl rfl<|cn,rfl,⟨⟨_,rfl,zg ⟨ci rfl,.msl rfl,.msl rfl,.msl rfl,trivial⟩⟩,⟨_,rfl,zd (fun _=>rfl)⟩,⟨_,rfl,zd (fun _=>rfl)⟩,⟨_,rfl,zd (fun _=>rfl)⟩,⟨_,rfl,zd (fun _=>rfl)⟩,trivial⟩,rfl,Nat.le_of_ble_eq_true rfl⟩
       ·
        rintro r' rfl env st hp
        obtain rfl:=sm h
        exact ⟨_,rfl,hp⟩
      ·
       replace h:=bF hc71 h
       refine zz ?_
       obtain rfl:=sm h
       exact ⟨rfl,_,rfl,[.old 0,.old 1,.old 2,.old 3,.old 4],ce rfl rfl<|cv rfl (.mpt rfl)<|cv rfl (.msl rfl)<|ce rfl rfl<|ce rfl rfl<|cn,rfl,⟨⟨_,rfl,zg ⟨ci rfl,.msl rfl,.msl rfl,.msl rfl,trivial⟩⟩,⟨_,rfl,zd (fun _=>rfl)⟩,⟨_,rfl,zd (fun _=>rfl)⟩,⟨_,rfl,zd (fun _=>rfl)⟩,⟨_,rfl,zd (fun _=>rfl)⟩,trivial⟩,rfl,Nat.le_of_ble_eq_true rfl⟩
     ·
      rintro ⟨v128,v129⟩ rfl
      replace h:zhx v71 v95 v128 v129=some r:=h
      unfold zhx at h
      refine zv ?_
      refine rl rfl<|u<|add ti3 rfl rfl<|u<|mv rfl<|za ?_
      obtain rfl:=sm h
      exact ⟨_,rfl,[.old 0,.old 1,.old 2,.old 3,.old 4],ce rfl rfl<|cv rfl (.mpt rfl)<|cv rfl (.msl rfl)<|ce rfl rfl<|ce rfl rfl<|cn,rfl,⟨⟨_,rfl,zg ⟨ci rfl,.msl rfl,.msl rfl,.msl rfl,trivial⟩⟩,⟨_,rfl,zd (fun _=>rfl)⟩,⟨_,rfl,zd (fun _=>rfl)⟩,⟨_,rfl,zd (fun _=>rfl)⟩,⟨_,rfl,zd (fun _=>rfl)⟩,trivial⟩,rfl,Nat.le_of_ble_eq_true rfl⟩
     ·
      rintro r' rfl env st hp
      obtain rfl:=sm h
      exact ⟨_,rfl,hp⟩
    ·
     rintro r' rfl env st hp
     obtain rfl:=sm h
     exact ⟨_,rfl,hp⟩
   ·
    replace h:=bF hc43 h
    refine zz ?_
    obtain rfl:=sm h
    exact ⟨rfl,_,rfl,[.old 0,.old 1,.old 2,.old 3],cv rfl (.mpt rfl)<|cn,rfl,⟨⟨_,rfl,zg ⟨ci rfl,.msl rfl,.msl rfl,.msl rfl,trivial⟩⟩,⟨_,rfl,zd (fun _=>rfl)⟩,⟨_,rfl,zd (fun _=>rfl)⟩,⟨_,rfl,zd (fun _=>rfl)⟩,trivial⟩,rfl,Nat.le_of_ble_eq_true rfl⟩
  ·
   rintro ⟨v130,v131,v132⟩ rfl
   replace h:zhy v2 v130 v131 v132=some r:=h
   unfold zhy at h
   refine zv ?_
   refine rg rfl<|u<|mv rfl<|u<|asg rfl<|za ?_
   refine zj ?_
   obtain rfl:=sm h
   exact ⟨_,rfl,[.old 0,.old 1,.old 2,.old 3],.mpt rfl,rfl,⟨⟨_,rfl,zg ⟨ci rfl,.msl rfl,.msl rfl,.msl rfl,trivial⟩⟩,⟨_,rfl,zd (fun _=>rfl)⟩,⟨_,rfl,zd (fun _=>rfl)⟩,⟨_,rfl,zd (fun _=>rfl)⟩,trivial⟩,rfl,Nat.le_of_ble_eq_true rfl⟩
  ·
   rintro r' rfl env st hp
   obtain rfl:=sm h
   exact hp
noncomputable def zbc (v16:List (List UInt8)):Option ((List (List UInt8))) :=
  some v16
noncomputable def zaj (v9:List (List UInt8)) (v10:Int) (v11:Int):Option (Sum ((List (List UInt8))×Int×Int) (Sum ((List (List UInt8))) ((List (List UInt8))))) :=
  cond (decide (v10 < v11)) ((idx v9 v11).bind fun v12=>(idx v9 v10).bind fun v13=>(idx v9 v10).bind fun v14=>(idx (List.set v9 (Int.toNat v10) v12) v11).bind fun v15=>some (.inl ((List.set (List.set v9 (Int.toNat v10) v12) (Int.toNat v11) v13),(IntKind.i64.wrap (v10+1)),(IntKind.i64.wrap (v11 - 1))))) (some (.inr (.inl v9)))
noncomputable def zaT (v1:List (List UInt8)):Option ((List (List UInt8))) :=
  (zab (fun z=>zaj z.1 z.2.1 z.2.2) (v1,0,(IntKind.i64.wrap (((List.length v1):Int) - 1)))).bind fun o=>zaJ o (fun b=>zbc b) some
theorem zf1 (v1:List (List UInt8)) {r:(List (List UInt8))} (h:zaT v1=some r):SC Tryz.prog 224 [.msl 0 0 (List.length v1)] [.many 1 (List.map zi v1)] (.tup []) [.many 1 (List.map zi r)]:=by
 refine ⟨⟨zeU (sz:=1) (fun _=>rfl),trivial⟩,zad Tryz.func224 rfl (by kernel_rfl) rfl ?_⟩
 unfold zaT at h
 refine rg rfl<|u<|mv rfl<|u<|lnM zM rfl rfl rfl<|u<|sub ti3 rfl rfl<|u<|asg rfl<|u<|asg rfl<|za ?_
 obtain ⟨o,ho,h⟩:=bs h
 refine zT (X:=(List (List UInt8))×Int×Int) (B:=(List (List UInt8))) (R:=(List (List UInt8))) (fun z=>[(0,.msl 0 0 (List.length z.1)),(2,iA z.2.1),(3,iA z.2.2)]) (fun z=>[some (1,List.map zi z.1)]) (fun b=>[]) (fun b=>[some (1,List.map zi b)]) (fun r env st=>zaC Tryz.prog Tryz.f224 1 (.tup []) [some (1,List.map zi r)] env st) ho ⟨[.old 0],cv rfl (.msl rfl)<|ce rfl rfl<|ce rfl rfl<|cn,rfl,⟨⟨_,rfl,zd (fun _=>rfl)⟩,trivial⟩,rfl,Nat.le_of_ble_eq_true rfl⟩ ?_ ?_ ?_
 ·
  rintro ⟨v9,v10,v11⟩ r h
  replace h:zaj v9 v10 v11=some r:=h
  unfold zaj at h
  refine zl ?_
  refine rg rfl<|u<|mv rfl<|u<|mv rfl<|u<|lss ti3 rfl rfl<|za ?_
  refine zh rfl (fun hc6=>?_) (fun hc6=>?_)
  ·
   replace h:=bT hc6 h
   refine zk ?_
   refine zl ?_
   refine zq ?_
   obtain ⟨v12,q7,h⟩:=bs h
   obtain ⟨v13,q8,h⟩:=bs h
   obtain ⟨v14,q9,h⟩:=bs h
   obtain ⟨v15,q10,h⟩:=bs h
   refine rdL [(0,.msl 0 0 (List.length (List.set (List.set v9 (Int.toNat v10) v12) (Int.toNat v11) v13))),(2,iA v10),(3,iA v11)] [some (1,List.map zi (List.set (List.set v9 (Int.toNat v10) v12) (Int.toNat v11) v13))] [13,15] [12,11,10,9,8,7,6,5,4,3,2,1,0] [(26,.mpt 0 (Int.toNat v10) 0),(25,sA v13),(24,.mpt 0 (Int.toNat v10) 0),(23,iA v10),(22,.msl 0 0 (List.length v9)),(21,sA v12),(20,.mpt 0 (Int.toNat v11) 0),(19,iA v11),(18,.msl 0 0 (List.length v9)),(17,iA v11),(16,.msl 0 0 (List.length v9)),(15,iA v10),(14,.msl 0 0 (List.length v9))] 2 (by kernel_rfl) (by kernel_rfl) rfl (by kernel_rfl) (dtS ⟨(fun _=>pa rfl rfl rfl rfl (ixM zM rfl ti9 rfl rfl rfl rfl q9<|⟨rfl,rfl⟩)),(fun _=>pa rfl rfl rfl rfl (ldM ti9 rfl rfl (zp q8).2.2 rfl<|⟨rfl,rfl⟩)),(fun _=>pa rfl rfl rfl rfl (ixM zM rfl ti9 rfl rfl rfl rfl q8<|⟨rfl,rfl⟩)),(fun _=>pa rfl rfl rfl rfl (mv rfl<|⟨rfl,rfl⟩)),(fun _=>pa rfl rfl rfl rfl (mv rfl<|⟨rfl,rfl⟩)),(fun _=>pa rfl rfl rfl rfl (ldM ti9 rfl rfl (zp q7).2.2 rfl<|⟨rfl,rfl⟩)),(fun _=>pa rfl rfl rfl rfl (ixM zM rfl ti9 rfl rfl rfl rfl q7<|⟨rfl,rfl⟩)),(fun _=>pa rfl rfl rfl rfl (mv rfl<|⟨rfl,rfl⟩)),(fun _=>pa rfl rfl rfl rfl (mv rfl<|⟨rfl,rfl⟩)),(fun _=>pa rfl rfl rfl rfl (mv rfl<|⟨rfl,rfl⟩)),(fun _=>pa rfl rfl rfl rfl (mv rfl<|⟨rfl,rfl⟩)),(fun _=>pa rfl rfl rfl rfl (mv rfl<|⟨rfl,rfl⟩)),(fun _=>pa rfl rfl rfl rfl (mv rfl<|⟨rfl,rfl⟩)),trivial⟩ (by kernel_rfl) rfl ⟨(fun _ _=>⟨_,rfl,rfl,zv0 (c':=v12) ti9 rfl rfl (zp q9).2.2 rfl rfl rfl rfl rfl<|⟨.any,[14],[(27,.mpt 0 (Int.toNat v11) 0)],rfl,rfl,by kernel_rfl,trivial,dtS ⟨(fun _=>pa rfl rfl rfl rfl (zwc (by simp) zM rfl ti9 rfl rfl rfl rfl q10<|⟨rfl,rfl⟩)),(fun h=>by cases h),(fun h=>by cases h),(fun _=>pa rfl rfl rfl rfl (zwc (by simp) zM rfl ti9 rfl rfl rfl rfl (ztN q8)<|⟨rfl,rfl⟩)),(fun _=>pa rfl rfl rfl rfl (mv rfl<|⟨rfl,rfl⟩)),(fun _=>pa rfl rfl rfl rfl (mv rfl<|⟨rfl,rfl⟩)),(fun h=>by cases h),(fun h=>by cases h),(fun h=>by cases h),(fun h=>by cases h),(fun _=>pa rfl rfl rfl rfl (mv rfl<|⟨rfl,rfl⟩)),(fun _=>pa rfl rfl rfl rfl (mv rfl<|⟨rfl,rfl⟩)),(fun h=>by cases h),(fun h=>by cases h),trivial⟩ (by kernel_rfl) rfl ⟨(fun h=>by cases h),(fun _ _=>⟨_,rfl,rfl,zv0 (c':=v13) ti9 rfl rfl (zp q10).2.2 rfl rfl rfl rfl rfl<|⟨.any,[],[],rfl,rfl,by kernel_rfl,trivial,dt0 ⟨(fun h=>by cases h),(fun h=>by cases h),(fun h=>by cases h),(fun h=>by cases h),(fun h=>by cases h),(fun h=>by cases h),(fun h=>by cases h),(fun h=>by cases h),(fun h=>by cases h),(fun h=>by cases h),(fun h=>by cases h),(fun h=>by cases h),(fun h=>by cases h),(fun h=>by cases h),trivial⟩ (by kernel_rfl) rfl ⟨[.old 0],cv rfl (zvo (by simp) rfl)<|ce rfl rfl<|ce rfl rfl<|cn,rfl,⟨⟨_,rfl,zd (fun _=>rfl)⟩,trivial⟩,rfl,Nat.le_of_ble_eq_true rfl⟩⟩⟩),trivial⟩⟩⟩),(fun _ h=>by cases h),trivial⟩) ?_
   refine rl rfl<|u<|mv rfl<|u<|add ti3 rfl rfl<|u<|mv rfl<|u<|sub ti3 rfl rfl<|u<|asg rfl<|u<|asg rfl<|za ?_
   obtain rfl:=sm h
   exact ⟨_,rfl,[.old 0],cv rfl (.msl rfl)<|ce rfl rfl<|ce rfl rfl<|cn,rfl,⟨⟨_,rfl,zd (fun _=>rfl)⟩,trivial⟩,rfl,Nat.le_of_ble_eq_true rfl⟩
  ·
   replace h:=bF hc6 h
   refine zz ?_
   obtain rfl:=sm h
   exact ⟨rfl,_,rfl,[.old 0],cn,rfl,⟨⟨_,rfl,zd (fun _=>rfl)⟩,trivial⟩,rfl,Nat.le_of_ble_eq_true rfl⟩
 ·
  rintro v16 rfl
  replace h:zbc v16=some r:=h
  unfold zbc at h
  refine zv ?_
  obtain rfl:=sm h
  exact ⟨_,rfl,[.old 0],z8 trivial,rfl,⟨⟨_,rfl,zd (fun _=>rfl)⟩,trivial⟩,rfl,Nat.le_of_ble_eq_true rfl⟩
 ·
  rintro r' rfl env st hp
  obtain rfl:=sm h
  exact hp
theorem zmW {X Y:Type} {body:X→Option (Sum X Y)} {p:X→Prop} {q:Y→Prop} (h1:∀ x y,p x→body x=some (.inl y)→p y) (h2:∀ x y,p x→body x=some (.inr y)→q y):∀ {n:Nat} {x:X} {y:Y},p x→zhc body n x=some y→q y
  | 0,_,_,_,h=>by cases h
  | n+1,x,y,hp,h=>by
    unfold zhc at h
    split at h
    · rename_i x' hx; exact zmW h1 h2 (h1 x x' hp hx) h
    · rename_i z hx; cases h; exact h2 x _ hp hx
    · cases h
theorem zrB {l r:List (List UInt8)} (h:zaT l=some r):r.length=l.length:=by
  unfold zaT at h
  obtain ⟨o,ho,h⟩:=bs h
  obtain ⟨n,ho⟩:=zji ho
  have:=zmW (p:=fun z=>z.1.length=l.length) (q:=fun o=>∀ r',zaJ o (fun b=>zbc b) some=some r'→r'.length=l.length) (fun z y hp hb=>?_) (fun z y hp hb r' hr=>?_) (by exact rfl) ho r h
  · exact this
  · unfold zaj at hb
    cases hc:decide (z.2.1 < z.2.2) with
    | false=>rw [hc] at hb; cases hb
    | true =>
      rw [hc] at hb
      obtain ⟨_,_,hb⟩:=bs hb
      obtain ⟨_,_,hb⟩:=bs hb
      obtain ⟨_,_,hb⟩:=bs hb
      obtain ⟨_,_,hb⟩:=bs hb
      cases hb
      simpa using hp
  · unfold zaj at hb
    cases hc:decide (z.2.1 < z.2.2) with
    | true =>
      rw [hc] at hb
      obtain ⟨_,_,hb⟩:=bs hb
      obtain ⟨_,_,hb⟩:=bs hb
      obtain ⟨_,_,hb⟩:=bs hb
      obtain ⟨_,_,hb⟩:=bs hb
      cases hb
    | false =>
      rw [hc] at hb
      cases hb
      cases hr
      exact hp
noncomputable def zel (v19:List zc):Option ((List zc)) :=
  some v19
noncomputable def zem (v1:List zc) (v2:List (List UInt8×Int)) (v8:(List (List UInt8))) (v14:List zc) (v15:Int):Option (Sum ((List zc)×Int) (Sum ((List zc)) ((List zc)))) :=
  cond (decide (v15 < ((List.length v8):Int))) ((idx v8 v15).bind fun v16=>(zE v1 v2 v16).bind fun v17=>(zjq 112 v14 [v17.1]).bind fun v18=>some (.inl (v18,(IntKind.i64.wrap (v15+1))))) (some (.inr (.inl v14)))
noncomputable def zfJ (v1:List zc) (v2:List (List UInt8×Int)) (v3:List (List UInt8)) (v4:List (List UInt8)) (v5:List (List UInt8)) (v6:List UInt8):Option ((List zc)) :=
  (z6 v1 v2 v6).bind fun v7=>(zaT v7).bind fun v8=>(zab (fun z=>zem v1 v2 v8 z.1 z.2) ([],0)).bind fun o=>zaJ o (fun b=>zel b) some
theorem ziV (v1:List zc) (v2:List (List UInt8×Int)) (v3:List (List UInt8)) (v4:List (List UInt8)) (v5:List (List UInt8)) (v6:List UInt8) {r:(List zc)} (h:zfJ v1 v2 v3 v4 v5 v6=some r):SC Tryz.prog 135 [.mpt 0 0 0,sA v6] [.one 4 [.ipt 2 [[.isl 6 (List.map zb v1),.imp (List.map (rKV (fun x=>iA x)) v2)]] 0 0,.msl 1 0 (List.length v3),.msl 2 0 (List.length v4),.msl 3 0 (List.length v5)],.many 1 (List.map zi v3),.many 1 (List.map zi v4),.many 1 (List.map zi v5)] (.msl 4 0 (List.length r)) [.one 4 [.ipt 2 [[.isl 6 (List.map zb v1),.imp (List.map (rKV (fun x=>iA x)) v2)]] 0 0,.msl 1 0 (List.length v3),.msl 2 0 (List.length v4),.msl 3 0 (List.length v5)],.many 1 (List.map zi v3),.many 1 (List.map zi v4),.many 1 (List.map zi v5),.many 6 (List.map zb r)]:=by
 refine ⟨⟨trivial,zeU (sz:=1) (fun _=>rfl),zeU (sz:=1) (fun _=>rfl),zeU (sz:=1) (fun _=>rfl),zeU (sz:=6) (fun _=>rfl),trivial⟩,zad Tryz.func135 rfl (by kernel_rfl) rfl ?_⟩
 unfold zfJ at h
 refine rg rfl<|u<|asg rfl<|za ?_
 refine zl ?_
 refine rg rfl<|u<|mv rfl<|u<|eqp zwS rfl rfl rfl rfl rfl rfl<|za ?_
 refine zh rfl (fun hx=>by cases hx) (fun _=>?_)
 refine zk ?_
 refine rg rfl<|u<|asg rfl<|za ?_
 obtain ⟨v7,q1,h⟩:=bs h
 refine rg rfl<|u<|mv rfl<|u<|nc rfl rfl<|u<|fa zkB rfl rfl rfl<|u<|ld zez rfl rfl<|u<|mv rfl<|u<|sc [] (z7 v1 v2 v6 q1) rfl rfl rfl rfl ⟨(rnI rfl),(rnI rfl),trivial⟩ trivial<|zB (env0:=[(0,.mpt 0 0 0),(5,.lit (.slice none 0 0)),(18,.msl 4 0 (List.length v7))]) (st0:=[some (4,[[.ipt 2 [[.isl 6 (List.map zb v1),.imp (List.map (rKV (fun x=>iA x)) v2)]] 0 0,.msl 1 0 (List.length v3),.msl 2 0 (List.length v4),.msl 3 0 (List.length v5)]]),some (1,List.map zi v3),some (1,List.map zi v4),some (1,List.map zi v5),some (1,List.map zi v7)]) ⟨[.old 0,.old 1,.old 2,.old 3,.old 4],cv rfl (.mpt rfl)<|ce rfl rfl<|cv rfl (.msl rfl)<|cn,rfl,⟨⟨_,rfl,zg ⟨ci rfl,.msl rfl,.msl rfl,.msl rfl,trivial⟩⟩,⟨_,rfl,zd (fun _=>rfl)⟩,⟨_,rfl,zd (fun _=>rfl)⟩,⟨_,rfl,zd (fun _=>rfl)⟩,⟨_,rfl,zd (fun _=>rfl)⟩,trivial⟩,rfl,Nat.le_of_ble_eq_true rfl⟩<|u<|asg rfl<|za ?_
 obtain ⟨v8,q2,h⟩:=bs h
 refine rg rfl<|u<|mv rfl<|u<|sc [4] (zf1 v7 q2) rfl rfl rfl rfl ⟨(.msl rfl),trivial⟩ ⟨⟨rfl,mkI (fun _=>rfl)⟩,trivial⟩<|zB (env0:=[(0,.mpt 0 0 0),(5,.lit (.slice none 0 0)),(6,.msl 4 0 (List.length v8))]) (st0:=[some (4,[[.ipt 2 [[.isl 6 (List.map zb v1),.imp (List.map (rKV (fun x=>iA x)) v2)]] 0 0,.msl 1 0 (List.length v3),.msl 2 0 (List.length v4),.msl 3 0 (List.length v5)]]),some (1,List.map zi v3),some (1,List.map zi v4),some (1,List.map zi v5),some (1,List.map zi v8)]) ⟨[.old 0,.old 1,.old 2,.old 3,.old 4],cv rfl (.mpt rfl)<|ce rfl rfl<|cv rfl (zvo (by first | exact zrB q2 | exact (zrB q2).symm) rfl)<|cn,rfl,⟨⟨_,rfl,zg ⟨ci rfl,.msl rfl,.msl rfl,.msl rfl,trivial⟩⟩,⟨_,rfl,zd (fun _=>rfl)⟩,⟨_,rfl,zd (fun _=>rfl)⟩,⟨_,rfl,zd (fun _=>rfl)⟩,⟨_,rfl,zd (fun _=>rfl)⟩,trivial⟩,rfl,Nat.le_of_ble_eq_true rfl⟩<|za ?_
 refine zl ?_
 refine rg rfl<|u<|mv rfl<|u<|lnM zM rfl rfl rfl<|u<|mv rfl<|za ?_
 obtain ⟨o,ho,h⟩:=bs h
 refine zT (X:=(List zc)×Int) (B:=(List zc)) (R:=(List zc)) (fun z=>[(0,.mpt 0 0 0),(5,.msl 4 0 (List.length z.1)),(21,.msl 5 0 (List.length v8)),(22,iA ((List.length v8):Int)),(23,iA z.2)]) (fun z=>[some (4,[[.ipt 2 [[.isl 6 (List.map zb v1),.imp (List.map (rKV (fun x=>iA x)) v2)]] 0 0,.msl 1 0 (List.length v3),.msl 2 0 (List.length v4),.msl 3 0 (List.length v5)]]),some (1,List.map zi v3),some (1,List.map zi v4),some (1,List.map zi v5),some (6,List.map zb z.1),some (1,List.map zi v8)]) (fun b=>[(5,.msl 4 0 (List.length b))]) (fun b=>[some (4,[[.ipt 2 [[.isl 6 (List.map zb v1),.imp (List.map (rKV (fun x=>iA x)) v2)]] 0 0,.msl 1 0 (List.length v3),.msl 2 0 (List.length v4),.msl 3 0 (List.length v5)]]),some (1,List.map zi v3),some (1,List.map zi v4),some (1,List.map zi v5),some (6,List.map zb b)]) (fun r env st=>zaC Tryz.prog Tryz.f135 4 (.msl 4 0 (List.length r)) [some (4,[[.ipt 2 [[.isl 6 (List.map zb v1),.imp (List.map (rKV (fun x=>iA x)) v2)]] 0 0,.msl 1 0 (List.length v3),.msl 2 0 (List.length v4),.msl 3 0 (List.length v5)]]),some (1,List.map zi v3),some (1,List.map zi v4),some (1,List.map zi v5),some (6,List.map zb r)] env st) ho ⟨[.old 0,.old 1,.old 2,.old 3,.fresh 6,.old 4],cv rfl (.mpt rfl)<|cv rfl (.nilown rfl)<|cv rfl (.msl rfl)<|ce rfl rfl<|ce rfl rfl<|cn,rfl,⟨⟨_,rfl,zg ⟨ci rfl,.msl rfl,.msl rfl,.msl rfl,trivial⟩⟩,⟨_,rfl,zd (fun _=>rfl)⟩,⟨_,rfl,zd (fun _=>rfl)⟩,⟨_,rfl,zd (fun _=>rfl)⟩,⟨rfl,rfl⟩,⟨_,rfl,zd (fun _=>rfl)⟩,trivial⟩,rfl,Nat.le_of_ble_eq_true rfl⟩ ?_ ?_ ?_
 ·
  rintro ⟨v14,v15⟩ r h
  replace h:zem v1 v2 v8 v14 v15=some r:=h
  unfold zem at h
  refine rg rfl<|u<|lss ti3 rfl rfl<|za ?_
  refine zl ?_
  refine zh rfl (fun hc7=>?_) (fun hc7=>?_)
  ·
   replace h:=bT hc7 h
   refine zk ?_
   refine zl ?_
   refine zq ?_
   obtain ⟨v16,q8,h⟩:=bs h
   refine rg rfl<|u<|ixM zM rfl ti9 rfl rfl rfl rfl q8<|u<|ldM ti9 rfl rfl (zp q8).2.2 rfl<|u<|asg rfl<|za ?_
   obtain ⟨v17,q9,h⟩:=bs h
   refine rg rfl<|u<|mv rfl<|u<|nc rfl rfl<|u<|fa zkB rfl rfl rfl<|u<|ld zez rfl rfl<|u<|mv rfl<|u<|pc (zy v1 v2 v16 q9) rfl rfl rfl<|u<|mv rfl<|u<|ex rfl rfl<|u<|ex rfl rfl<|u<|al 6 zaf rfl<|u<|sto zaf rfl rfl rfl<|u<|asg rfl<|za ?_
   obtain ⟨v18,q10,h⟩:=bs h
   refine rl rfl<|u<|mv rfl<|u<|ld zaf rfl rfl<|u<|bl 7 zjl rfl zaf rfl (by decide) (by decide) rfl rfl rfl<|u<|apM 8 zjl rfl zaf rfl rfl (by decide) zjl rfl rfl rfl rfl (roX (f:=zb) (z:=[v17.1]) rfl rfl) (fun _=>rfl) rfl q10<|u<|asg rfl<|za ?_
   refine rl rfl<|u<|add ti3 rfl rfl<|u<|mv rfl<|za ?_
   obtain rfl:=sm h
   exact ⟨_,rfl,[.old 0,.old 1,.old 2,.old 3,.old 8,.old 5],cv rfl (.mpt rfl)<|cv rfl (.msl rfl)<|cv rfl (.msl rfl)<|ce rfl rfl<|ce rfl rfl<|cn,rfl,⟨⟨_,rfl,zg ⟨ci rfl,.msl rfl,.msl rfl,.msl rfl,trivial⟩⟩,⟨_,rfl,zd (fun _=>rfl)⟩,⟨_,rfl,zd (fun _=>rfl)⟩,⟨_,rfl,zd (fun _=>rfl)⟩,⟨_,rfl,zd (fun _=>rfl)⟩,⟨_,rfl,zd (fun _=>rfl)⟩,trivial⟩,rfl,Nat.le_of_ble_eq_true rfl⟩
  ·
   replace h:=bF hc7 h
   refine zz ?_
   obtain rfl:=sm h
   exact ⟨rfl,_,rfl,[.old 0,.old 1,.old 2,.old 3,.old 4],cv rfl (.msl rfl)<|cn,rfl,⟨⟨_,rfl,zg ⟨ci rfl,.msl rfl,.msl rfl,.msl rfl,trivial⟩⟩,⟨_,rfl,zd (fun _=>rfl)⟩,⟨_,rfl,zd (fun _=>rfl)⟩,⟨_,rfl,zd (fun _=>rfl)⟩,⟨_,rfl,zd (fun _=>rfl)⟩,trivial⟩,rfl,Nat.le_of_ble_eq_true rfl⟩
 ·
  rintro v19 rfl
  replace h:zel v19=some r:=h
  unfold zel at h
  refine zv ?_
  refine rg rfl<|u<|mv rfl<|u<|asg rfl<|za ?_
  refine zj ?_
  obtain rfl:=sm h
  exact ⟨_,rfl,[.old 0,.old 1,.old 2,.old 3,.old 4],.msl rfl,rfl,⟨⟨_,rfl,zg ⟨ci rfl,.msl rfl,.msl rfl,.msl rfl,trivial⟩⟩,⟨_,rfl,zd (fun _=>rfl)⟩,⟨_,rfl,zd (fun _=>rfl)⟩,⟨_,rfl,zd (fun _=>rfl)⟩,⟨_,rfl,zd (fun _=>rfl)⟩,trivial⟩,rfl,Nat.le_of_ble_eq_true rfl⟩
 ·
  rintro r' rfl env st hp
  obtain rfl:=sm h
  exact hp
noncomputable def zdv (v44:List (List UInt8)):Option ((List (List UInt8))) :=
  some v44
noncomputable def zdS (v27:Int) (v43:List (List UInt8)):Option (Sum ((List (List UInt8))×Int) (Sum ((List (List UInt8))) ((List (List UInt8))))) :=
  some (.inl (v43,(IntKind.i64.wrap (v27+1))))
noncomputable def zb9 (v37:Int) (v42:List (List UInt8)):Option (Sum ((List (List UInt8))×Int) (Sum ((List (List UInt8))) ((List (List UInt8))))) :=
  some (.inl (v42,(IntKind.i64.wrap (v37+1))))
noncomputable def zdT (v28:zc) (v36:List (List UInt8)) (v37:Int):Option (Sum ((List (List UInt8))×Int) (Sum ((List (List UInt8))) ((List (List UInt8))))) :=
  cond (decide (v37 < (List.length v28.Methods:Int))) ((idx v28.Methods v37).bind fun v38=>(cond ((!v38.Static)&&(!v38.Abstract)) ((zC v36 v38.Name).bind fun v39=>some (!v39)) (some false)).bind fun v40=>cond v40 ((zjq 16 v36 [v38.Name]).bind fun v41=>zb9 v37 v41) (zb9 v37 v36)) (some (.inr (.inl v36)))
noncomputable def zdU (v7:(List zc)) (v26:List (List UInt8)) (v27:Int):Option (Sum ((List (List UInt8))×Int) (Sum ((List (List UInt8))) ((List (List UInt8))))) :=
  cond (decide (v27 < ((List.length v7):Int))) ((idx v7 v27).bind fun v28=>(zab (fun z=>zdT v28 z.1 z.2) (v26,0)).bind fun o=>zaJ o (fun b=>zdS v27 b) (fun r=>some (.inr (.inr r)))) (some (.inr (.inl v26)))
noncomputable def zdu (v1:List zc) (v2:List (List UInt8×Int)) (v3:List (List UInt8)) (v4:List (List UInt8)) (v5:List (List UInt8)) (v6:List UInt8):Option ((List (List UInt8))) :=
  (zfJ v1 v2 v3 v4 v5 v6).bind fun v7=>(zab (fun z=>zdU v7 z.1 z.2) ([],0)).bind fun o=>zaJ o (fun b=>zdv b) some
theorem zfQ (v1:List zc) (v2:List (List UInt8×Int)) (v3:List (List UInt8)) (v4:List (List UInt8)) (v5:List (List UInt8)) (v6:List UInt8) {r:(List (List UInt8))} (h:zdu v1 v2 v3 v4 v5 v6=some r):SC Tryz.prog 61 [.mpt 0 0 0,sA v6] [.one 4 [.ipt 2 [[.isl 6 (List.map zb v1),.imp (List.map (rKV (fun x=>iA x)) v2)]] 0 0,.msl 1 0 (List.length v3),.msl 2 0 (List.length v4),.msl 3 0 (List.length v5)],.many 1 (List.map zi v3),.many 1 (List.map zi v4),.many 1 (List.map zi v5)] (.msl 4 0 (List.length r)) [.one 4 [.ipt 2 [[.isl 6 (List.map zb v1),.imp (List.map (rKV (fun x=>iA x)) v2)]] 0 0,.msl 1 0 (List.length v3),.msl 2 0 (List.length v4),.msl 3 0 (List.length v5)],.many 1 (List.map zi v3),.many 1 (List.map zi v4),.many 1 (List.map zi v5),.many 1 (List.map zi r)]:=by
 refine ⟨⟨trivial,zeU (sz:=1) (fun _=>rfl),zeU (sz:=1) (fun _=>rfl),zeU (sz:=1) (fun _=>rfl),zeU (sz:=1) (fun _=>rfl),trivial⟩,zad Tryz.func61 rfl (by kernel_rfl) rfl ?_⟩
 unfold zdu at h
 refine rg rfl<|u<|asg rfl<|za ?_
 refine rg rfl<|u<|asg rfl<|za ?_
 refine zl ?_
 obtain ⟨v7,q1,h⟩:=bs h
 refine rg rfl<|u<|mv rfl<|u<|mv rfl<|u<|sc [0,1,2,3] (ziV v1 v2 v3 v4 v5 v6 q1) rfl rfl rfl rfl ⟨(.mpt rfl),(rnI rfl),trivial⟩ ⟨⟨_,rfl,⟨(rnI rfl),(.msl rfl),(.msl rfl),(.msl rfl),trivial⟩⟩,⟨rfl,mkI (fun _=>rfl)⟩,⟨rfl,mkI (fun _=>rfl)⟩,⟨rfl,mkI (fun _=>rfl)⟩,trivial⟩<|zB (env0:=[(5,.lit (.slice none 0 0)),(12,.msl 4 0 (List.length v7))]) (st0:=[some (4,[[.ipt 2 [[.isl 6 (List.map zb v1),.imp (List.map (rKV (fun x=>iA x)) v2)]] 0 0,.msl 1 0 (List.length v3),.msl 2 0 (List.length v4),.msl 3 0 (List.length v5)]]),some (1,List.map zi v3),some (1,List.map zi v4),some (1,List.map zi v5),some (6,List.map zb v7)]) ⟨[.old 0,.old 1,.old 2,.old 3,.old 4],ce rfl rfl<|cv rfl (.msl rfl)<|cn,rfl,⟨⟨_,rfl,zg ⟨ci rfl,.msl rfl,.msl rfl,.msl rfl,trivial⟩⟩,⟨_,rfl,zd (fun _=>rfl)⟩,⟨_,rfl,zd (fun _=>rfl)⟩,⟨_,rfl,zd (fun _=>rfl)⟩,⟨_,rfl,zd (fun _=>rfl)⟩,trivial⟩,rfl,Nat.le_of_ble_eq_true rfl⟩<|u<|lnM zjl rfl rfl rfl<|u<|mv rfl<|za ?_
 obtain ⟨o,ho,h⟩:=bs h
 refine zT (X:=(List (List UInt8))×Int) (B:=(List (List UInt8))) (R:=(List (List UInt8))) (fun z=>[(5,.msl 4 0 (List.length z.1)),(12,.msl 5 0 (List.length v7)),(13,iA ((List.length v7):Int)),(14,iA z.2)]) (fun z=>[some (4,[[.ipt 2 [[.isl 6 (List.map zb v1),.imp (List.map (rKV (fun x=>iA x)) v2)]] 0 0,.msl 1 0 (List.length v3),.msl 2 0 (List.length v4),.msl 3 0 (List.length v5)]]),some (1,List.map zi v3),some (1,List.map zi v4),some (1,List.map zi v5),some (1,List.map zi z.1),some (6,List.map zb v7)]) (fun b=>[(5,.msl 4 0 (List.length b))]) (fun b=>[some (4,[[.ipt 2 [[.isl 6 (List.map zb v1),.imp (List.map (rKV (fun x=>iA x)) v2)]] 0 0,.msl 1 0 (List.length v3),.msl 2 0 (List.length v4),.msl 3 0 (List.length v5)]]),some (1,List.map zi v3),some (1,List.map zi v4),some (1,List.map zi v5),some (1,List.map zi b)]) (fun r env st=>zaC Tryz.prog Tryz.f61 4 (.msl 4 0 (List.length r)) [some (4,[[.ipt 2 [[.isl 6 (List.map zb v1),.imp (List.map (rKV (fun x=>iA x)) v2)]] 0 0,.msl 1 0 (List.length v3),.msl 2 0 (List.length v4),.msl 3 0 (List.length v5)]]),some (1,List.map zi v3),some (1,List.map zi v4),some (1,List.map zi v5),some (1,List.map zi r)] env st) ho ⟨[.old 0,.old 1,.old 2,.old 3,.fresh 1,.old 4],cv rfl (.nilown rfl)<|cv rfl (.msl rfl)<|ce rfl rfl<|ce rfl rfl<|cn,rfl,⟨⟨_,rfl,zg ⟨ci rfl,.msl rfl,.msl rfl,.msl rfl,trivial⟩⟩,⟨_,rfl,zd (fun _=>rfl)⟩,⟨_,rfl,zd (fun _=>rfl)⟩,⟨_,rfl,zd (fun _=>rfl)⟩,⟨rfl,rfl⟩,⟨_,rfl,zd (fun _=>rfl)⟩,trivial⟩,rfl,Nat.le_of_ble_eq_true rfl⟩ ?_ ?_ ?_
 ·
  rintro ⟨v26,v27⟩ r h
  replace h:zdU v7 v26 v27=some r:=h
  unfold zdU at h
  refine rg rfl<|u<|lss ti3 rfl rfl<|za ?_
  refine zl ?_
  refine zh rfl (fun hc20=>?_) (fun hc20=>?_)
  ·
   replace h:=bT hc20 h
   refine zk ?_
   refine zl ?_
   refine zq ?_
   obtain ⟨v28,q21,h⟩:=bs h
   refine rg rfl<|u<|ixM zjl rfl zaf rfl rfl rfl rfl q21<|u<|ldM zaf rfl rfl (zp q21).2.2 rfl<|u<|al 6 zaf rfl<|u<|sto zaf rfl rfl rfl<|za ?_
   refine rg rfl<|u<|fa zaf rfl rfl rfl<|u<|ld zc7 rfl rfl<|u<|lnI zc7 rfl rfl<|u<|mv rfl<|za ?_
   obtain ⟨o,ho,h⟩:=bs h
   refine zT (X:=(List (List UInt8))×Int) (B:=(List (List UInt8))) (R:=(List (List UInt8))) (fun z=>[(5,.msl 4 0 (List.length z.1)),(12,.msl 5 0 (List.length v7)),(13,iA ((List.length v7):Int)),(14,iA v27),(19,.isl 10 (List.map zf v28.Methods)),(20,iA (List.length v28.Methods:Int)),(21,iA z.2)]) (fun z=>[some (4,[[.ipt 2 [[.isl 6 (List.map zb v1),.imp (List.map (rKV (fun x=>iA x)) v2)]] 0 0,.msl 1 0 (List.length v3),.msl 2 0 (List.length v4),.msl 3 0 (List.length v5)]]),some (1,List.map zi v3),some (1,List.map zi v4),some (1,List.map zi v5),some (1,List.map zi z.1),some (6,List.map zb v7)]) (fun b=>[(5,.msl 4 0 (List.length b)),(12,.msl 5 0 (List.length v7)),(13,iA ((List.length v7):Int)),(14,iA v27)]) (fun b=>[some (4,[[.ipt 2 [[.isl 6 (List.map zb v1),.imp (List.map (rKV (fun x=>iA x)) v2)]] 0 0,.msl 1 0 (List.length v3),.msl 2 0 (List.length v4),.msl 3 0 (List.length v5)]]),some (1,List.map zi v3),some (1,List.map zi v4),some (1,List.map zi v5),some (1,List.map zi b),some (6,List.map zb v7)]) (fun r env st=>zaC Tryz.prog Tryz.f61 4 (.msl 4 0 (List.length r)) [some (4,[[.ipt 2 [[.isl 6 (List.map zb v1),.imp (List.map (rKV (fun x=>iA x)) v2)]] 0 0,.msl 1 0 (List.length v3),.msl 2 0 (List.length v4),.msl 3 0 (List.length v5)]]),some (1,List.map zi v3),some (1,List.map zi v4),some (1,List.map zi v5),some (1,List.map zi r)] env st) ho ⟨[.old 0,.old 1,.old 2,.old 3,.old 4,.old 5],cv rfl (.msl rfl)<|cv rfl (.msl rfl)<|ce rfl rfl<|ce rfl rfl<|ce rfl rfl<|ce rfl rfl<|ce rfl rfl<|cn,rfl,⟨⟨_,rfl,zg ⟨ci rfl,.msl rfl,.msl rfl,.msl rfl,trivial⟩⟩,⟨_,rfl,zd (fun _=>rfl)⟩,⟨_,rfl,zd (fun _=>rfl)⟩,⟨_,rfl,zd (fun _=>rfl)⟩,⟨_,rfl,zd (fun _=>rfl)⟩,⟨_,rfl,zd (fun _=>rfl)⟩,trivial⟩,rfl,Nat.le_of_ble_eq_true rfl⟩ ?_ ?_ ?_
   ·
    rintro ⟨v36,v37⟩ r h
    replace h:zdT v28 v36 v37=some r:=h
    unfold zdT at h
    refine rg rfl<|u<|lss ti3 rfl rfl<|za ?_
    refine zl ?_
    refine zh rfl (fun hc30=>?_) (fun hc30=>?_)
    ·
     replace h:=bT hc30 h
     refine zk ?_
     refine zcD (X:=(List (List UInt8))) (fun z=>[(5,.msl 4 0 (List.length z)),(12,.msl 5 0 (List.length v7)),(13,iA ((List.length v7):Int)),(14,iA v27),(19,.isl 10 (List.map zf v28.Methods)),(20,iA (List.length v28.Methods:Int)),(21,iA v37)]) (fun z=>[some (4,[[.ipt 2 [[.isl 6 (List.map zb v1),.imp (List.map (rKV (fun x=>iA x)) v2)]] 0 0,.msl 1 0 (List.length v3),.msl 2 0 (List.length v4),.msl 3 0 (List.length v5)]]),some (1,List.map zi v3),some (1,List.map zi v4),some (1,List.map zi v5),some (1,List.map zi z),some (6,List.map zb v7)]) (fun z=>zb9 v37 z=some r) ?_ ?_
     ·
      refine zq ?_
      obtain ⟨v38,q31,h⟩:=bs h
      refine rg rfl<|u<|ixI zc7 rfl zN rfl rfl rfl q31<|u<|ldI zN rfl (zp q31).2.2 rfl<|u<|al 6 zN rfl<|u<|sto zN rfl rfl rfl<|za ?_
      obtain ⟨v40,q35,h⟩:=bs h
      refine rg rfl<|u<|fa zN rfl rfl rfl<|u<|ld ti4 rfl rfl<|u<|nt rfl<|u<|mv rfl<|za7 (j:=3) 3 rfl rfl rfl rfl rfl gpn (fun hb32=>g rfl hb32<|fa zN rfl rfl rfl<|g rfl hb32<|ld ti4 rfl rfl<|g rfl hb32<|nt rfl<|za (egA [29,30,31] 3 hb32 rfl rfl rfl rfl)) ziy<|u<|mv rfl<|za7 (x:=v40) (j:=8) 5 rfl rfl rfl rfl rfl gpn (fun hb33=>by replace q35:=bT hb33 q35; obtain ⟨v39,q34,q35⟩:=bs q35; obtain rfl:=sm q35; exact g rfl hb33<|mv rfl<|g rfl hb33<|fa zN rfl rfl rfl<|g rfl hb33<|ld ti9 rfl rfl<|g rfl hb33<|pcs (zI v36 v38.Name q34) rfl rfl (.cons (zi5 rfl (fun _=>rfl)) (.cons (si rfl) .nil)) zcq<|g rfl hb33<|nt rfl<|za (eg [34,35,36,37,38] 5 rfl rfl rfl rfl)) (fun hb=>(sm (bF hb q35)).symm)<|za ?_
      refine zh rfl (fun hc36=>?_) (fun hc36=>?_)
      ·
       replace h:=bT hc36 h
       obtain ⟨v41,q37,h⟩:=bs h
       exact rl rfl<|u<|mv rfl<|u<|fa zN rfl rfl rfl<|u<|ld ti9 rfl rfl<|u<|bl 7 zM rfl ti9 rfl (by decide) (by decide) rfl rfl rfl<|u<|apM 8 zM rfl ti9 rfl rfl (by decide) zM rfl rfl rfl rfl (roX (f:=zi) (z:=[v38.Name]) rfl rfl) (fun _=>rfl) rfl q37<|u<|asg rfl<|za (⟨v41,h,[.old 0,.old 1,.old 2,.old 3,.old 8,.old 5],cv rfl (.msl rfl)<|cv rfl (.msl rfl)<|ce rfl rfl<|ce rfl rfl<|ce rfl rfl<|ce rfl rfl<|ce rfl rfl<|cn,rfl,⟨⟨_,rfl,zg ⟨ci rfl,.msl rfl,.msl rfl,.msl rfl,trivial⟩⟩,⟨_,rfl,zd (fun _=>rfl)⟩,⟨_,rfl,zd (fun _=>rfl)⟩,⟨_,rfl,zd (fun _=>rfl)⟩,⟨_,rfl,zd (fun _=>rfl)⟩,⟨_,rfl,zd (fun _=>rfl)⟩,trivial⟩,rfl,Nat.le_of_ble_eq_true rfl⟩)
      ·
       replace h:=bF hc36 h
       refine zk ?_
       exact ⟨v36,h,[.old 0,.old 1,.old 2,.old 3,.old 4,.old 5],cv rfl (.msl rfl)<|cv rfl (.msl rfl)<|ce rfl rfl<|ce rfl rfl<|ce rfl rfl<|ce rfl rfl<|ce rfl rfl<|cn,rfl,⟨⟨_,rfl,zg ⟨ci rfl,.msl rfl,.msl rfl,.msl rfl,trivial⟩⟩,⟨_,rfl,zd (fun _=>rfl)⟩,⟨_,rfl,zd (fun _=>rfl)⟩,⟨_,rfl,zd (fun _=>rfl)⟩,⟨_,rfl,zd (fun _=>rfl)⟩,⟨_,rfl,zd (fun _=>rfl)⟩,trivial⟩,rfl,Nat.le_of_ble_eq_true rfl⟩
     ·
      rintro v42 h
      replace h:zb9 v37 v42=some r:=h
      unfold zb9 at h
      refine rl rfl<|u<|add ti3 rfl rfl<|u<|mv rfl<|za ?_
      obtain rfl:=sm h
      exact ⟨_,rfl,[.old 0,.old 1,.old 2,.old 3,.old 4,.old 5],cv rfl (.msl rfl)<|cv rfl (.msl rfl)<|ce rfl rfl<|ce rfl rfl<|ce rfl rfl<|ce rfl rfl<|ce rfl rfl<|cn,rfl,⟨⟨_,rfl,zg ⟨ci rfl,.msl rfl,.msl rfl,.msl rfl,trivial⟩⟩,⟨_,rfl,zd (fun _=>rfl)⟩,⟨_,rfl,zd (fun _=>rfl)⟩,⟨_,rfl,zd (fun _=>rfl)⟩,⟨_,rfl,zd (fun _=>rfl)⟩,⟨_,rfl,zd (fun _=>rfl)⟩,trivial⟩,rfl,Nat.le_of_ble_eq_true rfl⟩
    ·
     replace h:=bF hc30 h
     refine zz ?_
     obtain rfl:=sm h
     exact ⟨rfl,_,rfl,[.old 0,.old 1,.old 2,.old 3,.old 4,.old 5],cv rfl (.msl rfl)<|cv rfl (.msl rfl)<|ce rfl rfl<|ce rfl rfl<|cn,rfl,⟨⟨_,rfl,zg ⟨ci rfl,.msl rfl,.msl rfl,.msl rfl,trivial⟩⟩,⟨_,rfl,zd (fun _=>rfl)⟩,⟨_,rfl,zd (fun _=>rfl)⟩,⟨_,rfl,zd (fun _=>rfl)⟩,⟨_,rfl,zd (fun _=>rfl)⟩,⟨_,rfl,zd (fun _=>rfl)⟩,trivial⟩,rfl,Nat.le_of_ble_eq_true rfl⟩
   ·
    rintro v43 rfl
    replace h:zdS v27 v43=some r:=h
    unfold zdS at h
    refine zv ?_
    refine rl rfl<|u<|add ti3 rfl rfl<|u<|mv rfl<|za ?_
    obtain rfl:=sm h
    exact ⟨_,rfl,[.old 0,.old 1,.old 2,.old 3,.old 4,.old 5],cv rfl (.msl rfl)<|cv rfl (.msl rfl)<|ce rfl rfl<|ce rfl rfl<|cn,rfl,⟨⟨_,rfl,zg ⟨ci rfl,.msl rfl,.msl rfl,.msl rfl,trivial⟩⟩,⟨_,rfl,zd (fun _=>rfl)⟩,⟨_,rfl,zd (fun _=>rfl)⟩,⟨_,rfl,zd (fun _=>rfl)⟩,⟨_,rfl,zd (fun _=>rfl)⟩,⟨_,rfl,zd (fun _=>rfl)⟩,trivial⟩,rfl,Nat.le_of_ble_eq_true rfl⟩
   ·
    rintro r' rfl env st hp
    obtain rfl:=sm h
    exact ⟨_,rfl,hp⟩
  ·
   replace h:=bF hc20 h
   refine zz ?_
   obtain rfl:=sm h
   exact ⟨rfl,_,rfl,[.old 0,.old 1,.old 2,.old 3,.old 4],cv rfl (.msl rfl)<|cn,rfl,⟨⟨_,rfl,zg ⟨ci rfl,.msl rfl,.msl rfl,.msl rfl,trivial⟩⟩,⟨_,rfl,zd (fun _=>rfl)⟩,⟨_,rfl,zd (fun _=>rfl)⟩,⟨_,rfl,zd (fun _=>rfl)⟩,⟨_,rfl,zd (fun _=>rfl)⟩,trivial⟩,rfl,Nat.le_of_ble_eq_true rfl⟩
 ·
  rintro v44 rfl
  replace h:zdv v44=some r:=h
  unfold zdv at h
  refine zv ?_
  refine rg rfl<|u<|mv rfl<|u<|asg rfl<|za ?_
  refine zj ?_
  obtain rfl:=sm h
  exact ⟨_,rfl,[.old 0,.old 1,.old 2,.old 3,.old 4],.msl rfl,rfl,⟨⟨_,rfl,zg ⟨ci rfl,.msl rfl,.msl rfl,.msl rfl,trivial⟩⟩,⟨_,rfl,zd (fun _=>rfl)⟩,⟨_,rfl,zd (fun _=>rfl)⟩,⟨_,rfl,zd (fun _=>rfl)⟩,⟨_,rfl,zd (fun _=>rfl)⟩,trivial⟩,rfl,Nat.le_of_ble_eq_true rfl⟩
 ·
  rintro r' rfl env st hp
  obtain rfl:=sm h
  exact hp
end Go.Proofs.YthmnlfenkhmmhaaGreat
namespace Go.Proofs.YthmnlfenkhmmhaaGreat
set_option linter.unusedSimpArgs false
set_option linter.unusedVariables false
set_option maxRecDepth 100000
set_option maxHeartbeats 4000000
noncomputable def zbR (v1:List zc) (v2:List (List UInt8×Int)) (v3:List (List UInt8)) (v4:List (List UInt8)) (v5:List (List UInt8)) (v6:List UInt8) (v7:List UInt8):Option (Int) :=
  (zdu v1 v2 v3 v4 v5 v6).bind fun v8=>(zb8 v8 v7).bind fun v9=>some v9
theorem zco (v1:List zc) (v2:List (List UInt8×Int)) (v3:List (List UInt8)) (v4:List (List UInt8)) (v5:List (List UInt8)) (v6:List UInt8) (v7:List UInt8) {r:Int} (h:zbR v1 v2 v3 v4 v5 v6 v7=some r):SC Tryz.prog 58 [.mpt 0 0 0,sA v6,sA v7] [.one 4 [.ipt 2 [[.isl 6 (List.map zb v1),.imp (List.map (rKV (fun x=>iA x)) v2)]] 0 0,.msl 1 0 (List.length v3),.msl 2 0 (List.length v4),.msl 3 0 (List.length v5)],.many 1 (List.map zi v3),.many 1 (List.map zi v4),.many 1 (List.map zi v5)] (iA r) [.one 4 [.ipt 2 [[.isl 6 (List.map zb v1),.imp (List.map (rKV (fun x=>iA x)) v2)]] 0 0,.msl 1 0 (List.length v3),.msl 2 0 (List.length v4),.msl 3 0 (List.length v5)],.many 1 (List.map zi v3),.many 1 (List.map zi v4),.many 1 (List.map zi v5)]:=by
 refine ⟨⟨trivial,zeU (sz:=1) (fun _=>rfl),zeU (sz:=1) (fun _=>rfl),zeU (sz:=1) (fun _=>rfl),trivial⟩,zad Tryz.func58 rfl (by kernel_rfl) rfl ?_⟩
 unfold zbR at h
 refine rg rfl<|u<|asg rfl<|za ?_
 obtain ⟨v8,q1,h⟩:=bs h
 obtain ⟨v9,q2,h⟩:=bs h
 refine rg rfl<|u<|mv rfl<|u<|mv rfl<|u<|sc [0,1,2,3] (zfQ v1 v2 v3 v4 v5 v6 q1) rfl rfl rfl rfl ⟨(.mpt rfl),(rnI rfl),trivial⟩ ⟨⟨_,rfl,⟨(rnI rfl),(.msl rfl),(.msl rfl),(.msl rfl),trivial⟩⟩,⟨rfl,mkI (fun _=>rfl)⟩,⟨rfl,mkI (fun _=>rfl)⟩,⟨rfl,mkI (fun _=>rfl)⟩,trivial⟩<|zB (env0:=[(2,sA v7),(9,.msl 4 0 (List.length v8))]) (st0:=[some (4,[[.ipt 2 [[.isl 6 (List.map zb v1),.imp (List.map (rKV (fun x=>iA x)) v2)]] 0 0,.msl 1 0 (List.length v3),.msl 2 0 (List.length v4),.msl 3 0 (List.length v5)]]),some (1,List.map zi v3),some (1,List.map zi v4),some (1,List.map zi v5),some (1,List.map zi v8)]) ⟨[.old 0,.old 1,.old 2,.old 3,.old 4],ce rfl rfl<|cv rfl (.msl rfl)<|cn,rfl,⟨⟨_,rfl,zg ⟨ci rfl,.msl rfl,.msl rfl,.msl rfl,trivial⟩⟩,⟨_,rfl,zd (fun _=>rfl)⟩,⟨_,rfl,zd (fun _=>rfl)⟩,⟨_,rfl,zd (fun _=>rfl)⟩,⟨_,rfl,zd (fun _=>rfl)⟩,trivial⟩,rfl,Nat.le_of_ble_eq_true rfl⟩<|u<|mv rfl<|u<|pcs (zdF v8 v7 q2) rfl rfl (.cons (zi5 rfl (fun _=>rfl)) (.cons (si rfl) .nil)) zcq<|u<|asg rfl<|za ?_
 refine zj ?_
 obtain rfl:=sm h
 exact ⟨_,rfl,[.old 0,.old 1,.old 2,.old 3],ci rfl,rfl,⟨⟨_,rfl,zg ⟨ci rfl,.msl rfl,.msl rfl,.msl rfl,trivial⟩⟩,⟨_,rfl,zd (fun _=>rfl)⟩,⟨_,rfl,zd (fun _=>rfl)⟩,⟨_,rfl,zd (fun _=>rfl)⟩,trivial⟩,rfl,Nat.le_of_ble_eq_true rfl⟩
noncomputable def zfl (v1:Int) (v33:(List zc)×(List (List UInt8×Int))×(List (List UInt8))×(List (List UInt8))×(List (List UInt8))):Option (Bool) :=
  (zbR v33.1 v33.2.1 v33.2.2.1 v33.2.2.2.1 v33.2.2.2.2 [66,98] [111,119,110]).bind fun v42=>(cond (v42 == v1) ((zbR v33.1 v33.2.1 v33.2.2.1 v33.2.2.2.1 v33.2.2.2.2 [65,97] [111,119,110]).bind fun v43=>some (v43 == ((-1):Int))) (some false)).bind fun v44=>(cond v44 ((zdu v33.1 v33.2.1 v33.2.2.1 v33.2.2.2.1 v33.2.2.2.2 [66,98]).bind fun v45=>some (((List.length v45):Int) == (IntKind.i64.wrap (v1+1)))) (some false)).bind fun v46=>(cond v46 ((zbR v33.1 v33.2.1 v33.2.2.1 v33.2.2.2.1 v33.2.2.2.2 [66,98] [109,97,105,110]).bind fun v47=>some (v47 == ((-1):Int))) (some false)).bind fun v48=>some v48
noncomputable def zfn (v1:Int) (v33:(List zc)×(List (List UInt8×Int))×(List (List UInt8))×(List (List UInt8))×(List (List UInt8))) (v38:Int):Option (Sum (Int) (Sum (Unit) (Bool))) :=
  cond (decide (v38 < v1)) ((zbR v33.1 v33.2.1 v33.2.2.1 v33.2.2.2.1 v33.2.2.2.2 [65,97] [(109:UInt8),(tU8 (IntKind.i64.wrap (48+v38)))]).bind fun v39=>(cond (!(v39 == v38)) (some true) ((zbR v33.1 v33.2.1 v33.2.2.1 v33.2.2.2.1 v33.2.2.2.2 [66,98] [(109:UInt8),(tU8 (IntKind.i64.wrap (48+v38)))]).bind fun v40=>some (!(v40 == v38)))).bind fun v41=>cond v41 (some (.inr (.inr false))) (some (.inl (IntKind.i64.wrap (v38+1))))) (some (.inr (.inl ())))
noncomputable def zfk (v1:Int) (v11:List ze) (v30:List ze):Option (Bool) :=
  (zjq 152 v11 ([(ze.mk [109,97,105,110] [] [86] true false 0 0 ([(zA.mk 46 0 [] [])]) [] [])])).bind fun v31=>(ziG ([(zc.mk [66,98] [65,97] false [] [] v30),(zc.mk [65,97] [79,98,106,101,99,116] false [] [] v31)]) (zj8.mk [65,97] [109,97,105,110])).bind fun v32=>cond (!(v32.2 == (0:Int))) (some false) ((zk3 v32.1).bind fun v33=>(zab (fun z=>zfn v1 v33 z) 0).bind fun o=>zaJ o (fun b=>zfl v1 v33) some)
noncomputable def zbH (v24:Int) (v28:List ze) (v29:List UInt8):Option (Sum ((List ze)×(List UInt8)×Int) (Sum ((List ze)) (Bool))) :=
  some (.inl (v28,v29,(IntKind.i64.wrap (v24 - 1))))
noncomputable def zaY (v2:List Bool) (v22:List ze) (v23:List UInt8) (v24:Int):Option (Sum ((List ze)×(List UInt8)×Int) (Sum ((List ze)) (Bool))) :=
  cond (decide (0≤v24)) ((cond (decide (v24 < (List.length v2:Int))) ((idx v2 v24).bind fun v25=>some v25) (some false)).bind fun v26=>cond v26 ((zjq 152 v22 ([(ze.mk [(109:UInt8),(tU8 (IntKind.i64.wrap (48+v24)))] [] [86] false false 1 0 ([(zA.mk 46 0 [] [])]) [] [])])).bind fun v27=>zbH v24 v27 [(109:UInt8),(tU8 (IntKind.i64.wrap (48+v24)))]) (zbH v24 v22 v23)) (some (.inr (.inl v22)))
noncomputable def zci (v1:Int) (v2:List Bool) (v11:List ze) (v12:List UInt8):Option (Bool) :=
  (zjq 152 ([]:List ze) ([(ze.mk [111,119,110] [] [86] false false 1 0 ([(zA.mk 46 0 [] [])]) [] [])])).bind fun v13=>(zab (fun z=>zaY v2 z.1 z.2.1 z.2.2) (v13,[111,119,110],(IntKind.i64.wrap (v1 - 1)))).bind fun o=>zaJ o (fun b=>zfk v1 v11 b) some
noncomputable def zfm (v1:Int) (v7:List ze) (v8:List UInt8) (v9:Int):Option (Sum ((List ze)×(List UInt8)×Int) (Sum ((List ze)×(List UInt8)) (Bool))) :=
  cond (decide (v9 < v1)) ((zjq 152 v7 ([(ze.mk [(109:UInt8),(tU8 (IntKind.i64.wrap (48+v9)))] [] [86] false false 1 0 ([(zA.mk 46 0 [] [])]) [] [])])).bind fun v10=>some (.inl (v10,[(109:UInt8),(tU8 (IntKind.i64.wrap (48+v9)))],(IntKind.i64.wrap (v9+1))))) (some (.inr (.inl (v7,v8))))
noncomputable def zbG (v1:Int) (v2:List Bool):Option (Bool) :=
  cond (!true) (some false) (cond ((decide (v1 < 1))||(decide (6 < v1))) (some true) ((zab (fun z=>zfm v1 z.1 z.2.1 z.2.2) ([],[],0)).bind fun o=>zaJ o (fun b=>zci v1 v2 b.1 b.2) some))
theorem zj0 (v1:Int) (v2:List Bool) {r:Bool} (h:zbG v1 v2=some r):zu Tryz.prog 11 [iA v1,.isl 1 (List.map rB v2)] (bA r):=by
 refine zn Tryz.func11 rfl (by kernel_rfl) rfl rfl ?_
 unfold zbG at h
 refine rg rfl<|u<|asg rfl<|za ?_
 refine rg rfl<|u<|pc (zmF rfl) rfl rfl rfl<|u<|asg rfl<|za ?_
 refine zl ?_
 refine rg rfl<|u<|mv rfl<|u<|nt rfl<|za ?_
 refine zh rfl (fun hc1=>?_) (fun hc1=>?_)
 ·
  replace h:=bT hc1 h
  refine rg rfl<|u<|asg rfl<|za ?_
  refine zj ?_
  obtain rfl:=sm h
  exact ⟨_,rfl,[],ci rfl,rfl,trivial,rfl,Nat.le_of_ble_eq_true rfl⟩
 ·
  replace h:=bF hc1 h
  refine zk ?_
  refine zl ?_
  refine rg rfl<|u<|mv rfl<|u<|lss ti3 rfl rfl<|u<|mv rfl<|zfo (j:=2) 2 rfl rfl rfl rfl rfl gpn (fun hb2=>g rfl hb2<|mv rfl<|g rfl hb2<|gtr ti3 rfl rfl<|za (egO [22,23] 2 hb2 rfl rfl rfl rfl)) orT<|za ?_
  refine zh rfl (fun hc3=>?_) (fun hc3=>?_)
  ·
   replace h:=bT hc3 h
   refine rg rfl<|u<|asg rfl<|za ?_
   refine zj ?_
   obtain rfl:=sm h
   exact ⟨_,rfl,[],ci rfl,rfl,trivial,rfl,Nat.le_of_ble_eq_true rfl⟩
  ·
   replace h:=bF hc3 h
   refine zk ?_
   refine rg rfl<|u<|bd zaf rfl rfl rfl<|u<|al 0 zaf rfl<|u<|sto zaf rfl rfl rfl<|za ?_
   refine rg rfl<|u<|bd zaf rfl rfl rfl<|u<|al 1 zaf rfl<|u<|sto zaf rfl rfl rfl<|za ?_
   refine rg rfl<|u<|bd zcI rfl rfl rfl<|u<|bl 2 zj7 rfl zcI rfl (by decide) (by decide) rfl rfl rfl<|u<|bd zN rfl rfl rfl<|u<|al 3 zN rfl<|u<|sto zN rfl rfl rfl<|za ?_
   refine zl ?_
   refine rg rfl<|u<|asg rfl<|za ?_
   obtain ⟨o,ho,h⟩:=bs h
   refine zT (X:=(List ze)×(List UInt8)×Int) (B:=(List ze)×(List UInt8)) (R:=Bool) (fun z=>[(0,iA v1),(1,.isl 1 (List.map rB v2)),(6,.mpt 0 0 0),(7,.mpt 2 0 0),(8,.mpt 3 0 0),(9,iA z.2.2)]) (fun z=>[some (6,[[sA [65,97],sA [79,98,106,101,99,116],bA false,.lit (.slice none 0 0),.lit (.slice none 0 0),.msl 1 0 (List.length z.1)]]),some (10,List.map zf z.1),some (6,[[sA [66,98],sA [65,97],bA false,.lit (.slice none 0 0),.lit (.slice none 0 0),.lit (.slice none 0 0)]]),some (10,[[sA z.2.1,.lit (.slice none 0 0),sA [86],bA false,bA false,iA 1,iA 0,.isl 4 (List.map zw ([(zA.mk 46 0 [] [])])),.lit (.slice none 0 0),.lit (.slice none 0 0)]])]) (fun b=>[(0,iA v1),(1,.isl 1 (List.map rB v2)),(6,.mpt 0 0 0),(7,.mpt 2 0 0),(8,.mpt 3 0 0)]) (fun b=>[some (6,[[sA [65,97],sA [79,98,106,101,99,116],bA false,.lit (.slice none 0 0),.lit (.slice none 0 0),.msl 1 0 (List.length b.1)]]),some (10,List.map zf b.1),some (6,[[sA [66,98],sA [65,97],bA false,.lit (.slice none 0 0),.lit (.slice none 0 0),.lit (.slice none 0 0)]]),some (10,[[sA b.2,.lit (.slice none 0 0),sA [86],bA false,bA false,iA 1,iA 0,.isl 4 (List.map zw ([(zA.mk 46 0 [] [])])),.lit (.slice none 0 0),.lit (.slice none 0 0)]])]) (fun r env st=>zaC Tryz.prog Tryz.f11 0 (bA r) [] env st) ho ⟨[.old 0,.fresh 10,.old 1,.old 3],ce rfl rfl<|ce rfl rfl<|cv rfl (.mpt rfl)<|cv rfl (.mpt rfl)<|cv rfl (.mpt rfl)<|ce rfl rfl<|cn,rfl,⟨⟨_,rfl,zg ⟨ci rfl,ci rfl,ci rfl,ci rfl,ci rfl,.nilown rfl,trivial⟩⟩,⟨rfl,rfl⟩,⟨_,rfl,zg (ciL rfl)⟩,⟨_,rfl,zg ⟨ci rfl,ci rfl,ci rfl,ci rfl,ci rfl,ci rfl,ci rfl,zc1 rfl rfl ⟨⟨⟨ci rfl,ci rfl,ci rfl,ci rfl,trivial⟩,rfl⟩,trivial⟩,ci rfl,ci rfl,trivial⟩⟩,trivial⟩,rfl,Nat.le_of_ble_eq_true rfl⟩ ?_ ?_ ?_
   ·
    rintro ⟨v7,v8,v9⟩ r h
    replace h:zfm v1 v7 v8 v9=some r:=h
    unfold zfm at h
    refine zl ?_
    refine rg rfl<|u<|mv rfl<|u<|mv rfl<|u<|lss ti3 rfl rfl<|za ?_
    refine zh rfl (fun hc6=>?_) (fun hc6=>?_)
    ·
     replace h:=bT hc6 h
     refine zk ?_
     refine zl ?_
     refine zq ?_
     refine rg rfl<|u<|mv rfl<|u<|add ti3 rfl rfl<|u<|cv8 ti3 ti5 rfl rfl rfl<|u<|bl 4 zur rfl ti5 rfl (by decide) (by decide) rfl rfl rfl<|u<|cvt (l:=[(109:UInt8),(tU8 (IntKind.i64.wrap (48+v9)))]) zur ti9 rfl rfl ti5 rfl rfl (fun _ h=>by cases h) (roX (f:=zag) (z:=[(109:UInt8),(tU8 (IntKind.i64.wrap (48+v9)))]) rfl rfl)<|u<|fa zN rfl rfl rfl<|u<|sto ti9 rfl rfl rfl<|za ?_
     obtain ⟨v10,q7,h⟩:=bs h
     refine rl rfl<|u<|fa zaf rfl rfl rfl<|u<|ld zc7 rfl rfl<|u<|ld zN rfl rfl<|u<|bl 5 zc7 rfl zN rfl (by decide) (by decide) rfl rfl rfl<|zB (env0:=[(0,iA v1),(1,.isl 1 (List.map rB v2)),(6,.mpt 0 0 0),(7,.mpt 2 0 0),(8,.mpt 3 0 0),(9,iA v9),(42,.msl 1 0 (List.length v7)),(44,.msl 4 0 (List.length ([(ze.mk [(109:UInt8),(tU8 (IntKind.i64.wrap (48+v9)))] [] [86] false false 1 0 ([(zA.mk 46 0 [] [])]) [] [])])))]) (st0:=[some (6,[[sA [65,97],sA [79,98,106,101,99,116],bA false,.lit (.slice none 0 0),.lit (.slice none 0 0),.msl 1 0 (List.length v7)]]),some (10,List.map zf v7),some (6,[[sA [66,98],sA [65,97],bA false,.lit (.slice none 0 0),.lit (.slice none 0 0),.lit (.slice none 0 0)]]),some (10,[[sA [(109:UInt8),(tU8 (IntKind.i64.wrap (48+v9)))],.lit (.slice none 0 0),sA [86],bA false,bA false,iA 1,iA 0,.isl 4 (List.map zw ([(zA.mk 46 0 [] [])])),.lit (.slice none 0 0),.lit (.slice none 0 0)]]),some (10,List.map zf ([(ze.mk [(109:UInt8),(tU8 (IntKind.i64.wrap (48+v9)))] [] [86] false false 1 0 ([(zA.mk 46 0 [] [])]) [] [])]))]) ⟨[.old 0,.old 1,.old 2,.old 3,.old 5],ce rfl rfl<|ce rfl rfl<|cv rfl (.mpt rfl)<|cv rfl (.mpt rfl)<|cv rfl (.mpt rfl)<|ce rfl rfl<|cv rfl (.msl rfl)<|cv rfl (.msl rfl)<|cn,rfl,⟨⟨_,rfl,zg ⟨ci rfl,ci rfl,ci rfl,ci rfl,ci rfl,.msl rfl,trivial⟩⟩,⟨_,rfl,zd (fun _=>rfl)⟩,⟨_,rfl,zg (ciL rfl)⟩,⟨_,rfl,zg (ciL rfl)⟩,⟨_,rfl,zkt ⟨⟨(ci rfl),(.nil),(ci rfl),(ci rfl),(ci rfl),(ci rfl),(ci rfl),(ci rfl),(.nil),(.nil),trivial⟩,trivial⟩⟩,trivial⟩,rfl,Nat.le_of_ble_eq_true rfl⟩<|u<|apM 5 zc7 rfl zN rfl rfl (by decide) zc7 rfl rfl rfl rfl (roM rfl) (fun _=>rfl) rfl q7<|u<|fa zaf rfl rfl rfl<|u<|sto zc7 rfl rfl rfl<|za ?_
     refine rl rfl<|u<|mv rfl<|u<|add ti3 rfl rfl<|u<|asg rfl<|za ?_
     obtain rfl:=sm h
     exact ⟨_,rfl,[.old 0,.old 5,.old 2,.old 3],ce rfl rfl<|ce rfl rfl<|cv rfl (.mpt rfl)<|cv rfl (.mpt rfl)<|cv rfl (.mpt rfl)<|ce rfl rfl<|cn,rfl,⟨⟨_,rfl,zg ⟨ci rfl,ci rfl,ci rfl,ci rfl,ci rfl,.msl rfl,trivial⟩⟩,⟨_,rfl,zd (fun _=>rfl)⟩,⟨_,rfl,zg (ciL rfl)⟩,⟨_,rfl,zg (ciL rfl)⟩,trivial⟩,rfl,Nat.le_of_ble_eq_true rfl⟩
    ·
     replace h:=bF hc6 h
     refine zz ?_
     obtain rfl:=sm h
     exact ⟨rfl,_,rfl,[.old 0,.old 1,.old 2,.old 3],ce rfl rfl<|ce rfl rfl<|cv rfl (.mpt rfl)<|cv rfl (.mpt rfl)<|cv rfl (.mpt rfl)<|cn,rfl,⟨⟨_,rfl,zg ⟨ci rfl,ci rfl,ci rfl,ci rfl,ci rfl,.msl rfl,trivial⟩⟩,⟨_,rfl,zd (fun _=>rfl)⟩,⟨_,rfl,zg (ciL rfl)⟩,⟨_,rfl,zg (ciL rfl)⟩,trivial⟩,rfl,Nat.le_of_ble_eq_true rfl⟩
   ·
    rintro ⟨v11,v12⟩ rfl
    replace h:zci v1 v2 v11 v12=some r:=h
    unfold zci at h
    refine zv ?_
    refine rg rfl<|u<|fa zN rfl rfl rfl<|u<|sto ti9 rfl rfl rfl<|za ?_
    obtain ⟨v13,q8,h⟩:=bs h
    refine rg rfl<|u<|fa zaf rfl rfl rfl<|u<|ld zc7 rfl rfl<|u<|ld zN rfl rfl<|u<|bl 4 zc7 rfl zN rfl (by decide) (by decide) rfl rfl rfl<|zB (env0:=[(0,iA v1),(1,.isl 1 (List.map rB v2)),(6,.mpt 0 0 0),(7,.mpt 2 0 0),(8,.mpt 3 0 0),(49,.lit (.slice none 0 0)),(51,.msl 4 0 (List.length ([(ze.mk [111,119,110] [] [86] false false 1 0 ([(zA.mk 46 0 [] [])]) [] [])])))]) (st0:=[some (6,[[sA [65,97],sA [79,98,106,101,99,116],bA false,.lit (.slice none 0 0),.lit (.slice none 0 0),.msl 1 0 (List.length v11)]]),some (10,List.map zf v11),some (6,[[sA [66,98],sA [65,97],bA false,.lit (.slice none 0 0),.lit (.slice none 0 0),.lit (.slice none 0 0)]]),some (10,[[sA [111,119,110],.lit (.slice none 0 0),sA [86],bA false,bA false,iA 1,iA 0,.isl 4 (List.map zw ([(zA.mk 46 0 [] [])])),.lit (.slice none 0 0),.lit (.slice none 0 0)]]),some (10,List.map zf ([(ze.mk [111,119,110] [] [86] false false 1 0 ([(zA.mk 46 0 [] [])]) [] [])]))]) ⟨[.old 0,.old 1,.old 2,.old 3,.old 4],ce rfl rfl<|ce rfl rfl<|cv rfl (.mpt rfl)<|cv rfl (.mpt rfl)<|cv rfl (.mpt rfl)<|ce rfl rfl<|cv rfl (.msl rfl)<|cn,rfl,⟨⟨_,rfl,zg ⟨ci rfl,ci rfl,ci rfl,ci rfl,ci rfl,.msl rfl,trivial⟩⟩,⟨_,rfl,zd (fun _=>rfl)⟩,⟨_,rfl,zg (ciL rfl)⟩,⟨_,rfl,zg (ciL rfl)⟩,⟨_,rfl,zkt ⟨⟨(ci rfl),(.nil),(ci rfl),(ci rfl),(ci rfl),(ci rfl),(ci rfl),(ci rfl),(.nil),(.nil),trivial⟩,trivial⟩⟩,trivial⟩,rfl,Nat.le_of_ble_eq_true rfl⟩<|u<|apN (f:=zf) 5 zc7 rfl zN rfl rfl (by decide) zc7 rfl rfl rfl (roM rfl) (fun _=>rfl) rfl q8<|u<|fa zaf rfl rfl rfl<|u<|sto zc7 rfl rfl rfl<|za ?_
    refine zl ?_
    refine rg rfl<|u<|mv rfl<|u<|sub ti3 rfl rfl<|u<|asg rfl<|za ?_
    obtain ⟨o,ho,h⟩:=bs h
    refine zT (X:=(List ze)×(List UInt8)×Int) (B:=(List ze)) (R:=Bool) (fun z=>[(0,iA v1),(1,.isl 1 (List.map rB v2)),(6,.mpt 0 0 0),(7,.mpt 2 0 0),(8,.mpt 4 0 0),(10,iA z.2.2)]) (fun z=>[some (6,[[sA [65,97],sA [79,98,106,101,99,116],bA false,.lit (.slice none 0 0),.lit (.slice none 0 0),.msl 1 0 (List.length v11)]]),some (10,List.map zf v11),some (6,[[sA [66,98],sA [65,97],bA false,.lit (.slice none 0 0),.lit (.slice none 0 0),.msl 3 0 (List.length z.1)]]),some (10,List.map zf z.1),some (10,[[sA z.2.1,.lit (.slice none 0 0),sA [86],bA false,bA false,iA 1,iA 0,.isl 4 (List.map zw ([(zA.mk 46 0 [] [])])),.lit (.slice none 0 0),.lit (.slice none 0 0)]])]) (fun b=>[(0,iA v1),(6,.mpt 0 0 0),(7,.mpt 2 0 0)]) (fun b=>[some (6,[[sA [65,97],sA [79,98,106,101,99,116],bA false,.lit (.slice none 0 0),.lit (.slice none 0 0),.msl 1 0 (List.length v11)]]),some (10,List.map zf v11),some (6,[[sA [66,98],sA [65,97],bA false,.lit (.slice none 0 0),.lit (.slice none 0 0),.msl 3 0 (List.length b)]]),some (10,List.map zf b)]) (fun r env st=>zaC Tryz.prog Tryz.f11 0 (bA r) [] env st) ho ⟨[.old 0,.old 1,.old 2,.old 5,.old 3],ce rfl rfl<|ce rfl rfl<|cv rfl (.mpt rfl)<|cv rfl (.mpt rfl)<|cv rfl (.mpt rfl)<|ce rfl rfl<|cn,rfl,⟨⟨_,rfl,zg ⟨ci rfl,ci rfl,ci rfl,ci rfl,ci rfl,.msl rfl,trivial⟩⟩,⟨_,rfl,zd (fun _=>rfl)⟩,⟨_,rfl,zg ⟨ci rfl,ci rfl,ci rfl,ci rfl,ci rfl,.msl rfl,trivial⟩⟩,⟨_,rfl,zd (fun _=>rfl)⟩,⟨_,rfl,zg (ciL rfl)⟩,trivial⟩,rfl,Nat.le_of_ble_eq_true rfl⟩ ?_ ?_ ?_
    ·
     rintro ⟨v22,v23,v24⟩ r h
     replace h:zaY v2 v22 v23 v24=some r:=h
     unfold zaY at h
     refine zl ?_
     refine rg rfl<|u<|mv rfl<|u<|geq ti3 rfl rfl<|za ?_
     refine zh rfl (fun hc15=>?_) (fun hc15=>?_)
     ·
      replace h:=bT hc15 h
      refine zk ?_
      refine zcD (X:=(List ze)×(List UInt8)) (fun z=>[(0,iA v1),(1,.isl 1 (List.map rB v2)),(6,.mpt 0 0 0),(7,.mpt 2 0 0),(8,.mpt 4 0 0),(10,iA v24)]) (fun z=>[some (6,[[sA [65,97],sA [79,98,106,101,99,116],bA false,.lit (.slice none 0 0),.lit (.slice none 0 0),.msl 1 0 (List.length v11)]]),some (10,List.map zf v11),some (6,[[sA [66,98],sA [65,97],bA false,.lit (.slice none 0 0),.lit (.slice none 0 0),.msl 3 0 (List.length z.1)]]),some (10,List.map zf z.1),some (10,[[sA z.2,.lit (.slice none 0 0),sA [86],bA false,bA false,iA 1,iA 0,.isl 4 (List.map zw ([(zA.mk 46 0 [] [])])),.lit (.slice none 0 0),.lit (.slice none 0 0)]])]) (fun z=>zbH v24 z.1 z.2=some r) ?_ ?_
      ·
       refine zq ?_
       obtain ⟨v26,q18,h⟩:=bs h
       refine rg rfl<|u<|mv rfl<|u<|mv rfl<|u<|lnI zvd rfl rfl<|u<|lss ti3 rfl rfl<|u<|mv rfl<|za7 (x:=v26) (j:=4) 4 rfl rfl rfl rfl rfl gpn (fun hb16=>by replace q18:=bT hb16 q18; obtain ⟨v25,q17,q18⟩:=bs q18; obtain rfl:=sm q18; exact g rfl hb16<|mv rfl<|g rfl hb16<|mv rfl<|g rfl hb16<|ixI zvd rfl ti4 rfl rfl rfl q17<|g rfl hb16<|ldI ti4 rfl (zp q17).2.2 rfl<|za (eg [65,66,67,68] 4 rfl rfl rfl rfl)) (fun hb=>(sm (bF hb q18)).symm)<|za ?_
       refine zh rfl (fun hc19=>?_) (fun hc19=>?_)
       ·
        replace h:=bT hc19 h
        refine rg rfl<|u<|mv rfl<|u<|add ti3 rfl rfl<|u<|cv8 ti3 ti5 rfl rfl rfl<|u<|bl 5 zur rfl ti5 rfl (by decide) (by decide) rfl rfl rfl<|u<|cvt (l:=[(109:UInt8),(tU8 (IntKind.i64.wrap (48+v24)))]) zur ti9 rfl rfl ti5 rfl rfl (fun _ h=>by cases h) (roX (f:=zag) (z:=[(109:UInt8),(tU8 (IntKind.i64.wrap (48+v24)))]) rfl rfl)<|u<|fa zN rfl rfl rfl<|u<|sto ti9 rfl rfl rfl<|za ?_
        obtain ⟨v27,q20,h⟩:=bs h
        exact rl rfl<|u<|fa zaf rfl rfl rfl<|u<|ld zc7 rfl rfl<|u<|ld zN rfl rfl<|u<|bl 6 zc7 rfl zN rfl (by decide) (by decide) rfl rfl rfl<|zB (env0:=[(0,iA v1),(1,.isl 1 (List.map rB v2)),(6,.mpt 0 0 0),(7,.mpt 2 0 0),(8,.mpt 4 0 0),(10,iA v24),(77,.msl 3 0 (List.length v22)),(79,.msl 5 0 (List.length ([(ze.mk [(109:UInt8),(tU8 (IntKind.i64.wrap (48+v24)))] [] [86] false false 1 0 ([(zA.mk 46 0 [] [])]) [] [])])))]) (st0:=[some (6,[[sA [65,97],sA [79,98,106,101,99,116],bA false,.lit (.slice none 0 0),.lit (.slice none 0 0),.msl 1 0 (List.length v11)]]),some (10,List.map zf v11),some (6,[[sA [66,98],sA [65,97],bA false,.lit (.slice none 0 0),.lit (.slice none 0 0),.msl 3 0 (List.length v22)]]),some (10,List.map zf v22),some (10,[[sA [(109:UInt8),(tU8 (IntKind.i64.wrap (48+v24)))],.lit (.slice none 0 0),sA [86],bA false,bA false,iA 1,iA 0,.isl 4 (List.map zw ([(zA.mk 46 0 [] [])])),.lit (.slice none 0 0),.lit (.slice none 0 0)]]),some (10,List.map zf ([(ze.mk [(109:UInt8),(tU8 (IntKind.i64.wrap (48+v24)))] [] [86] false false 1 0 ([(zA.mk 46 0 [] [])]) [] [])]))]) ⟨[.old 0,.old 1,.old 2,.old 3,.old 4,.old 6],ce rfl rfl<|ce rfl rfl<|cv rfl (.mpt rfl)<|cv rfl (.mpt rfl)<|cv rfl (.mpt rfl)<|ce rfl rfl<|cv rfl (.msl rfl)<|cv rfl (.msl rfl)<|cn,rfl,⟨⟨_,rfl,zg ⟨ci rfl,ci rfl,ci rfl,ci rfl,ci rfl,.msl rfl,trivial⟩⟩,⟨_,rfl,zd (fun _=>rfl)⟩,⟨_,rfl,zg ⟨ci rfl,ci rfl,ci rfl,ci rfl,ci rfl,.msl rfl,trivial⟩⟩,⟨_,rfl,zd (fun _=>rfl)⟩,⟨_,rfl,zg (ciL rfl)⟩,⟨_,rfl,zkt ⟨⟨(ci rfl),(.nil),(ci rfl),(ci rfl),(ci rfl),(ci rfl),(ci rfl),(ci rfl),(.nil),(.nil),trivial⟩,trivial⟩⟩,trivial⟩,rfl,Nat.le_of_ble_eq_true rfl⟩<|u<|apM 6 zc7 rfl zN rfl rfl (by decide) zc7 rfl rfl rfl rfl (roM rfl) (fun _=>rfl) rfl q20<|u<|fa zaf rfl rfl rfl<|u<|sto zc7 rfl rfl rfl<|za (⟨⟨v27,[(109:UInt8),(tU8 (IntKind.i64.wrap (48+v24)))]⟩,h,[.old 0,.old 1,.old 2,.old 6,.old 4],ce rfl rfl<|ce rfl rfl<|cv rfl (.mpt rfl)<|cv rfl (.mpt rfl)<|cv rfl (.mpt rfl)<|ce rfl rfl<|cn,rfl,⟨⟨_,rfl,zg ⟨ci rfl,ci rfl,ci rfl,ci rfl,ci rfl,.msl rfl,trivial⟩⟩,⟨_,rfl,zd (fun _=>rfl)⟩,⟨_,rfl,zg ⟨ci rfl,ci rfl,ci rfl,ci rfl,ci rfl,.msl rfl,trivial⟩⟩,⟨_,rfl,zd (fun _=>rfl)⟩,⟨_,rfl,zg (ciL rfl)⟩,trivial⟩,rfl,Nat.le_of_ble_eq_true rfl⟩)
       ·
        replace h:=bF hc19 h
        refine zk ?_
        exact ⟨⟨v22,v23⟩,h,[.old 0,.old 1,.old 2,.old 3,.old 4],ce rfl rfl<|ce rfl rfl<|cv rfl (.mpt rfl)<|cv rfl (.mpt rfl)<|cv rfl (.mpt rfl)<|ce rfl rfl<|cn,rfl,⟨⟨_,rfl,zg ⟨ci rfl,ci rfl,ci rfl,ci rfl,ci rfl,.msl rfl,trivial⟩⟩,⟨_,rfl,zd (fun _=>rfl)⟩,⟨_,rfl,zg ⟨ci rfl,ci rfl,ci rfl,ci rfl,ci rfl,.msl rfl,trivial⟩⟩,⟨_,rfl,zd (fun _=>rfl)⟩,⟨_,rfl,zg (ciL rfl)⟩,trivial⟩,rfl,Nat.le_of_ble_eq_true rfl⟩
      ·
       rintro ⟨v28,v29⟩ h
       replace h:zbH v24 v28 v29=some r:=h
       unfold zbH at h
       refine rl rfl<|u<|mv rfl<|u<|sub ti3 rfl rfl<|u<|asg rfl<|za ?_
       obtain rfl:=sm h
       exact ⟨_,rfl,[.old 0,.old 1,.old 2,.old 3,.old 4],ce rfl rfl<|ce rfl rfl<|cv rfl (.mpt rfl)<|cv rfl (.mpt rfl)<|cv rfl (.mpt rfl)<|ce rfl rfl<|cn,rfl,⟨⟨_,rfl,zg ⟨ci rfl,ci rfl,ci rfl,ci rfl,ci rfl,.msl rfl,trivial⟩⟩,⟨_,rfl,zd (fun _=>rfl)⟩,⟨_,rfl,zg ⟨ci rfl,ci rfl,ci rfl,ci rfl,ci rfl,.msl rfl,trivial⟩⟩,⟨_,rfl,zd (fun _=>rfl)⟩,⟨_,rfl,zg (ciL rfl)⟩,trivial⟩,rfl,Nat.le_of_ble_eq_true rfl⟩
     ·
      replace h:=bF hc15 h
      refine zz ?_
      obtain rfl:=sm h
      exact ⟨rfl,_,rfl,[.old 0,.old 1,.old 2,.old 3],ce rfl rfl<|cv rfl (.mpt rfl)<|cv rfl (.mpt rfl)<|cn,rfl,⟨⟨_,rfl,zg ⟨ci rfl,ci rfl,ci rfl,ci rfl,ci rfl,.msl rfl,trivial⟩⟩,⟨_,rfl,zd (fun _=>rfl)⟩,⟨_,rfl,zg ⟨ci rfl,ci rfl,ci rfl,ci rfl,ci rfl,.msl rfl,trivial⟩⟩,⟨_,rfl,zd (fun _=>rfl)⟩,trivial⟩,rfl,Nat.le_of_ble_eq_true rfl⟩
    ·
     rintro v30 rfl
     replace h:zfk v1 v11 v30=some r:=h
     unfold zfk at h
     refine zv ?_
     obtain ⟨v31,q21,h⟩:=bs h
     refine rg rfl<|u<|fa zaf rfl rfl rfl<|u<|ld zc7 rfl rfl<|u<|bd zcI rfl rfl rfl<|u<|bl 4 zj7 rfl zcI rfl (by decide) (by decide) rfl rfl rfl<|u<|bd zN rfl rfl rfl<|u<|bl 5 zc7 rfl zN rfl (by decide) (by decide) rfl rfl rfl<|zB (env0:=[(0,iA v1),(6,.mpt 0 0 0),(7,.mpt 2 0 0),(83,.msl 1 0 (List.length v11)),(87,.msl 4 0 (List.length ([(ze.mk [109,97,105,110] [] [86] true false 0 0 ([(zA.mk 46 0 [] [])]) [] [])])))]) (st0:=[some (6,[[sA [65,97],sA [79,98,106,101,99,116],bA false,.lit (.slice none 0 0),.lit (.slice none 0 0),.msl 1 0 (List.length v11)]]),some (10,List.map zf v11),some (6,[[sA [66,98],sA [65,97],bA false,.lit (.slice none 0 0),.lit (.slice none 0 0),.msl 3 0 (List.length v30)]]),some (10,List.map zf v30),some (10,List.map zf ([(ze.mk [109,97,105,110] [] [86] true false 0 0 ([(zA.mk 46 0 [] [])]) [] [])]))]) ⟨[.old 0,.old 1,.old 2,.old 3,.old 5],ce rfl rfl<|cv rfl (.mpt rfl)<|cv rfl (.mpt rfl)<|cv rfl (.msl rfl)<|cv rfl (.msl rfl)<|cn,rfl,⟨⟨_,rfl,zg ⟨ci rfl,ci rfl,ci rfl,ci rfl,ci rfl,.msl rfl,trivial⟩⟩,⟨_,rfl,zd (fun _=>rfl)⟩,⟨_,rfl,zg ⟨ci rfl,ci rfl,ci rfl,ci rfl,ci rfl,.msl rfl,trivial⟩⟩,⟨_,rfl,zd (fun _=>rfl)⟩,⟨_,rfl,zkt ⟨⟨(ci rfl),(.nil),(ci rfl),(ci rfl),(ci rfl),(ci rfl),(ci rfl),(zc1 rfl rfl ⟨⟨⟨ci rfl,ci rfl,ci rfl,ci rfl,trivial⟩,rfl⟩,trivial⟩),(.nil),(.nil),trivial⟩,trivial⟩⟩,trivial⟩,rfl,Nat.le_of_ble_eq_true rfl⟩<|u<|apM 5 zc7 rfl zN rfl rfl (by decide) zc7 rfl rfl rfl rfl (roM rfl) (fun _=>rfl) rfl q21<|u<|fa zaf rfl rfl rfl<|u<|sto zc7 rfl rfl rfl<|za ?_
     obtain ⟨v32,q22,h⟩:=bs h
     refine rg rfl<|u<|ld zaf rfl rfl<|u<|ld zaf rfl rfl<|u<|bl 6 zjl rfl zaf rfl (by decide) (by decide) rfl rfl rfl<|u<|bd zv5 rfl rfl rfl<|zB (env0:=[(0,iA v1),(93,.isl 6 (List.map zb ([(zc.mk [66,98] [65,97] false [] [] v30),(zc.mk [65,97] [79,98,106,101,99,116] false [] [] v31)]))),(94,.agg [sA [65,97],sA [109,97,105,110]])]) (st0:=[]) ⟨[],ce rfl rfl<|cv rfl (zc1 rfl rfl ⟨⟨⟨ci rfl,ci rfl,ci rfl,.nil,.nil,zjy rfl rfl (fun _=>rfl),trivial⟩,rfl⟩,⟨⟨ci rfl,ci rfl,ci rfl,.nil,.nil,zjy rfl rfl (fun _=>rfl),trivial⟩,rfl⟩,trivial⟩)<|ce rfl rfl<|cn,rfl,trivial,rfl,Nat.le_of_ble_eq_true rfl⟩<|u<|pc (zl3 ([(zc.mk [66,98] [65,97] false [] [] v30),(zc.mk [65,97] [79,98,106,101,99,116] false [] [] v31)]) (zj8.mk [65,97] [109,97,105,110]) q22) rfl rfl rfl<|u<|mv rfl<|u<|ex rfl rfl<|u<|ex rfl rfl<|u<|asg rfl<|u<|asg rfl<|za ?_
     refine zl ?_
     refine rg rfl<|u<|mv rfl<|u<|neq zv4 rfl rfl<|za ?_
     refine zh rfl (fun hc23=>?_) (fun hc23=>?_)
     ·
      replace h:=bT hc23 h
      refine rg rfl<|u<|asg rfl<|za ?_
      refine zj ?_
      obtain rfl:=sm h
      exact ⟨_,rfl,[],ci rfl,rfl,trivial,rfl,Nat.le_of_ble_eq_true rfl⟩
     ·
      replace h:=bF hc23 h
      refine zk ?_
      obtain ⟨v33,q24,h⟩:=bs h
      refine rg rfl<|u<|mv rfl<|u<|sc [] (znu v32.1 q24) rfl rfl rfl rfl ⟨(rnI (znq (fun _=>rfl))),trivial⟩ trivial<|zB (env0:=[(0,iA v1),(101,.mpt 0 0 0)]) (st0:=[some (4,[[.ipt 2 [[.isl 6 (List.map zb v33.1),.imp (List.map (rKV (fun x=>iA x)) v33.2.1)]] 0 0,.msl 1 0 (List.length v33.2.2.1),.msl 2 0 (List.length v33.2.2.2.1),.msl 3 0 (List.length v33.2.2.2.2)]]),some (1,List.map zi v33.2.2.1),some (1,List.map zi v33.2.2.2.1),some (1,List.map zi v33.2.2.2.2)]) ⟨[.old 0,.old 1,.old 2,.old 3],ce rfl rfl<|cv rfl (.mpt rfl)<|cn,rfl,⟨⟨_,rfl,zg ⟨ci rfl,.msl rfl,.msl rfl,.msl rfl,trivial⟩⟩,⟨_,rfl,zd (fun _=>rfl)⟩,⟨_,rfl,zd (fun _=>rfl)⟩,⟨_,rfl,zd (fun _=>rfl)⟩,trivial⟩,rfl,Nat.le_of_ble_eq_true rfl⟩<|u<|asg rfl<|za ?_
      refine zl ?_
      refine rg rfl<|u<|asg rfl<|za ?_
      obtain ⟨o,ho,h⟩:=bs h
      refine zT (X:=Int) (B:=Unit) (R:=Bool) (fun z=>[(0,iA v1),(13,.mpt 0 0 0),(14,iA z)]) (fun z=>[some (4,[[.ipt 2 [[.isl 6 (List.map zb v33.1),.imp (List.map (rKV (fun x=>iA x)) v33.2.1)]] 0 0,.msl 1 0 (List.length v33.2.2.1),.msl 2 0 (List.length v33.2.2.2.1),.msl 3 0 (List.length v33.2.2.2.2)]]),some (1,List.map zi v33.2.2.1),some (1,List.map zi v33.2.2.2.1),some (1,List.map zi v33.2.2.2.2)]) (fun b=>[(0,iA v1),(13,.mpt 0 0 0)]) (fun b=>[some (4,[[.ipt 2 [[.isl 6 (List.map zb v33.1),.imp (List.map (rKV (fun x=>iA x)) v33.2.1)]] 0 0,.msl 1 0 (List.length v33.2.2.1),.msl 2 0 (List.length v33.2.2.2.1),.msl 3 0 (List.length v33.2.2.2.2)]]),some (1,List.map zi v33.2.2.1),some (1,List.map zi v33.2.2.2.1),some (1,List.map zi v33.2.2.2.2)]) (fun r env st=>zaC Tryz.prog Tryz.f11 0 (bA r) [] env st) ho ⟨[.old 0,.old 1,.old 2,.old 3],ce rfl rfl<|cv rfl (.mpt rfl)<|ce rfl rfl<|cn,rfl,⟨⟨_,rfl,zg ⟨ci rfl,.msl rfl,.msl rfl,.msl rfl,trivial⟩⟩,⟨_,rfl,zd (fun _=>rfl)⟩,⟨_,rfl,zd (fun _=>rfl)⟩,⟨_,rfl,zd (fun _=>rfl)⟩,trivial⟩,rfl,Nat.le_of_ble_eq_true rfl⟩ ?_ ?_ ?_
      ·
       rintro v38 r h
       replace h:zfn v1 v33 v38=some r:=h
       unfold zfn at h
       refine zl ?_
       refine rg rfl<|u<|mv rfl<|u<|mv rfl<|u<|lss ti3 rfl rfl<|za ?_
       refine zh rfl (fun hc31=>?_) (fun hc31=>?_)
       ·
        replace h:=bT hc31 h
        refine zk ?_
        refine zl ?_
        refine zq ?_
        refine rg rfl<|u<|mv rfl<|u<|add ti3 rfl rfl<|u<|cv8 ti3 ti5 rfl rfl rfl<|u<|bl 4 zur rfl ti5 rfl (by decide) (by decide) rfl rfl rfl<|u<|cvt (l:=[(109:UInt8),(tU8 (IntKind.i64.wrap (48+v38)))]) zur ti9 rfl rfl ti5 rfl rfl (fun _ h=>by cases h) (roX (f:=zag) (z:=[(109:UInt8),(tU8 (IntKind.i64.wrap (48+v38)))]) rfl rfl)<|u<|asg rfl<|za ?_
        obtain ⟨v39,q32,h⟩:=bs h
        obtain ⟨v41,q35,h⟩:=bs h
        refine rg rfl<|u<|mv rfl<|u<|mv rfl<|u<|sc [0,1,2,3] (zco v33.1 v33.2.1 v33.2.2.1 v33.2.2.2.1 v33.2.2.2.2 [65,97] [(109:UInt8),(tU8 (IntKind.i64.wrap (48+v38)))] q32) rfl rfl rfl rfl ⟨(.mpt rfl),(rnI rfl),(rnI rfl),trivial⟩ ⟨⟨_,rfl,⟨(rnI rfl),(.msl rfl),(.msl rfl),(.msl rfl),trivial⟩⟩,⟨rfl,mkI (fun _=>rfl)⟩,⟨rfl,mkI (fun _=>rfl)⟩,⟨rfl,mkI (fun _=>rfl)⟩,trivial⟩<|zB (env0:=[(0,iA v1),(13,.mpt 0 0 0),(14,iA v38),(15,sA [(109:UInt8),(tU8 (IntKind.i64.wrap (48+v38)))]),(114,iA v39)]) (st0:=[some (4,[[.ipt 2 [[.isl 6 (List.map zb v33.1),.imp (List.map (rKV (fun x=>iA x)) v33.2.1)]] 0 0,.msl 1 0 (List.length v33.2.2.1),.msl 2 0 (List.length v33.2.2.2.1),.msl 3 0 (List.length v33.2.2.2.2)]]),some (1,List.map zi v33.2.2.1),some (1,List.map zi v33.2.2.2.1),some (1,List.map zi v33.2.2.2.2)]) ⟨[.old 0,.old 1,.old 2,.old 3],ce rfl rfl<|cv rfl (.mpt rfl)<|ce rfl rfl<|ce rfl rfl<|ce rfl rfl<|cn,rfl,⟨⟨_,rfl,zg ⟨ci rfl,.msl rfl,.msl rfl,.msl rfl,trivial⟩⟩,⟨_,rfl,zd (fun _=>rfl)⟩,⟨_,rfl,zd (fun _=>rfl)⟩,⟨_,rfl,zd (fun _=>rfl)⟩,trivial⟩,rfl,Nat.le_of_ble_eq_true rfl⟩<|u<|mv rfl<|u<|neq ti3 rfl rfl<|u<|mv rfl<|zfo (x:=v41) (j:=5) 5 rfl rfl rfl rfl rfl gpn (fun hb33=>by replace q35:=bF hb33 q35; obtain ⟨v40,q34,q35⟩:=bs q35; obtain rfl:=sm q35; exact g rfl hb33<|mv rfl<|g rfl hb33<|mv rfl<|g rfl hb33<|sc [0,1,2,3] (zco v33.1 v33.2.1 v33.2.2.1 v33.2.2.2.1 v33.2.2.2.2 [66,98] [(109:UInt8),(tU8 (IntKind.i64.wrap (48+v38)))] q34) rfl rfl rfl rfl ⟨(.mpt rfl),(rnI rfl),(rnI rfl),trivial⟩ ⟨⟨_,rfl,⟨(rnI rfl),(.msl rfl),(.msl rfl),(.msl rfl),trivial⟩⟩,⟨rfl,mkI (fun _=>rfl)⟩,⟨rfl,mkI (fun _=>rfl)⟩,⟨rfl,mkI (fun _=>rfl)⟩,trivial⟩<|g rfl hb33<|mv rfl<|g rfl hb33<|neq ti3 rfl rfl<|za (eg [118,119,120,121,122] 5 rfl rfl rfl rfl)) (fun hb=>(sm (bT hb q35)).symm)<|za ?_
        refine zh rfl (fun hc36=>?_) (fun hc36=>?_)
        ·
         replace h:=bT hc36 h
         refine rg rfl<|u<|asg rfl<|za ?_
         refine zj ?_
         obtain rfl:=sm h
         exact ⟨_,rfl,_,rfl,[],ci rfl,rfl,trivial,rfl,Nat.le_of_ble_eq_true rfl⟩
        ·
         replace h:=bF hc36 h
         refine zk ?_
         refine rl rfl<|u<|mv rfl<|u<|add ti3 rfl rfl<|u<|asg rfl<|za ?_
         obtain rfl:=sm h
         exact ⟨_,rfl,[.old 0,.old 1,.old 2,.old 3],ce rfl rfl<|cv rfl (.mpt rfl)<|ce rfl rfl<|cn,rfl,⟨⟨_,rfl,zg ⟨ci rfl,.msl rfl,.msl rfl,.msl rfl,trivial⟩⟩,⟨_,rfl,zd (fun _=>rfl)⟩,⟨_,rfl,zd (fun _=>rfl)⟩,⟨_,rfl,zd (fun _=>rfl)⟩,trivial⟩,rfl,Nat.le_of_ble_eq_true rfl⟩
       ·
        replace h:=bF hc31 h
        refine zz ?_
        obtain rfl:=sm h
        exact ⟨rfl,_,rfl,[.old 0,.old 1,.old 2,.old 3],ce rfl rfl<|cv rfl (.mpt rfl)<|cn,rfl,⟨⟨_,rfl,zg ⟨ci rfl,.msl rfl,.msl rfl,.msl rfl,trivial⟩⟩,⟨_,rfl,zd (fun _=>rfl)⟩,⟨_,rfl,zd (fun _=>rfl)⟩,⟨_,rfl,zd (fun _=>rfl)⟩,trivial⟩,rfl,Nat.le_of_ble_eq_true rfl⟩
      ·
       rintro ⟨⟩ rfl
       replace h:zfl v1 v33=some r:=h
       unfold zfl at h
       refine zv ?_
       obtain ⟨v42,q37,h⟩:=bs h
       obtain ⟨v44,q40,h⟩:=bs h
       obtain ⟨v46,q43,h⟩:=bs h
       obtain ⟨v48,q46,h⟩:=bs h
       refine rg rfl<|u<|mv rfl<|u<|sc [0,1,2,3] (zco v33.1 v33.2.1 v33.2.2.1 v33.2.2.2.1 v33.2.2.2.2 [66,98] [111,119,110] q37) rfl rfl rfl rfl ⟨(.mpt rfl),(rnI rfl),(rnI rfl),trivial⟩ ⟨⟨_,rfl,⟨(rnI rfl),(.msl rfl),(.msl rfl),(.msl rfl),trivial⟩⟩,⟨rfl,mkI (fun _=>rfl)⟩,⟨rfl,mkI (fun _=>rfl)⟩,⟨rfl,mkI (fun _=>rfl)⟩,trivial⟩<|zB (env0:=[(0,iA v1),(13,.mpt 0 0 0),(125,iA v42)]) (st0:=[some (4,[[.ipt 2 [[.isl 6 (List.map zb v33.1),.imp (List.map (rKV (fun x=>iA x)) v33.2.1)]] 0 0,.msl 1 0 (List.length v33.2.2.1),.msl 2 0 (List.length v33.2.2.2.1),.msl 3 0 (List.length v33.2.2.2.2)]]),some (1,List.map zi v33.2.2.1),some (1,List.map zi v33.2.2.2.1),some (1,List.map zi v33.2.2.2.2)]) ⟨[.old 0,.old 1,.old 2,.old 3],ce rfl rfl<|cv rfl (.mpt rfl)<|ce rfl rfl<|cn,rfl,⟨⟨_,rfl,zg ⟨ci rfl,.msl rfl,.msl rfl,.msl rfl,trivial⟩⟩,⟨_,rfl,zd (fun _=>rfl)⟩,⟨_,rfl,zd (fun _=>rfl)⟩,⟨_,rfl,zd (fun _=>rfl)⟩,trivial⟩,rfl,Nat.le_of_ble_eq_true rfl⟩<|u<|mv rfl<|u<|eql ti3 rfl rfl<|u<|mv rfl<|za7 (x:=v44) (j:=4) 3 rfl rfl rfl rfl rfl gpn (fun hb38=>by replace q40:=bT hb38 q40; obtain ⟨v43,q39,q40⟩:=bs q40; obtain rfl:=sm q40; exact g rfl hb38<|mv rfl<|g rfl hb38<|sc [0,1,2,3] (zco v33.1 v33.2.1 v33.2.2.1 v33.2.2.2.1 v33.2.2.2.2 [65,97] [111,119,110] q39) rfl rfl rfl rfl ⟨(.mpt rfl),(rnI rfl),(rnI rfl),trivial⟩ ⟨⟨_,rfl,⟨(rnI rfl),(.msl rfl),(.msl rfl),(.msl rfl),trivial⟩⟩,⟨rfl,mkI (fun _=>rfl)⟩,⟨rfl,mkI (fun _=>rfl)⟩,⟨rfl,mkI (fun _=>rfl)⟩,trivial⟩<|g rfl hb38<|eql ti3 rfl rfl<|za (eg [129,130,131] 3 rfl rfl rfl rfl)) (fun hb=>(sm (bF hb q40)).symm)<|u<|mv rfl<|zu5 (x:=v46) (j:=9) 6 1 rfl rfl rfl rfl rfl gpn (fun hb41=>by replace q43:=bT hb41 q43; obtain ⟨v45,q42,q43⟩:=bs q43; obtain rfl:=sm q43; exact g rfl hb41<|mv rfl<|g rfl hb41<|sc [0,1,2,3] (zfQ v33.1 v33.2.1 v33.2.2.1 v33.2.2.2.1 v33.2.2.2.2 [66,98] q42) rfl rfl rfl rfl ⟨(.mpt rfl),(rnI rfl),trivial⟩ ⟨⟨_,rfl,⟨(rnI rfl),(.msl rfl),(.msl rfl),(.msl rfl),trivial⟩⟩,⟨rfl,mkI (fun _=>rfl)⟩,⟨rfl,mkI (fun _=>rfl)⟩,⟨rfl,mkI (fun _=>rfl)⟩,trivial⟩<|g rfl hb41<|lnM zM rfl rfl rfl<|g rfl hb41<|mv rfl<|g rfl hb41<|add ti3 rfl rfl<|g rfl hb41<|eql ti3 rfl rfl<|za (xg [134,135,136,137,138,139] 6 rfl rfl rfl rfl rfl rfl)) (fun hb=>(sm (bF hb q43)).symm)<|u<|mv rfl<|za7 (x:=v48) (j:=17) 3 rfl rfl rfl rfl rfl gpn (fun hb44=>by replace q46:=bT hb44 q46; obtain ⟨v47,q45,q46⟩:=bs q46; obtain rfl:=sm q46; exact g rfl hb44<|mv rfl<|g rfl hb44<|sc [0,1,2,3] (zco v33.1 v33.2.1 v33.2.2.1 v33.2.2.2.1 v33.2.2.2.2 [66,98] [109,97,105,110] q45) rfl rfl rfl rfl ⟨(.mpt rfl),(rnI rfl),(rnI rfl),trivial⟩ ⟨⟨_,rfl,⟨(rnI rfl),(.msl rfl),(.msl rfl),(.msl rfl),trivial⟩⟩,⟨rfl,mkI (fun _=>rfl)⟩,⟨rfl,mkI (fun _=>rfl)⟩,⟨rfl,mkI (fun _=>rfl)⟩,trivial⟩<|g rfl hb44<|eql ti3 rfl rfl<|za (eg [142,143,144] 3 rfl rfl rfl rfl)) (fun hb=>(sm (bF hb q46)).symm)<|u<|asg rfl<|za ?_
       refine zj ?_
       obtain rfl:=sm h
       exact ⟨_,rfl,[],ci rfl,rfl,trivial,rfl,Nat.le_of_ble_eq_true rfl⟩
      ·
       rintro r' rfl env st hp
       obtain rfl:=sm h
       exact hp
    ·
     rintro r' rfl env st hp
     obtain rfl:=sm h
     exact hp
   ·
    rintro r' rfl env st hp
    obtain rfl:=sm h
    exact hp
end Go.Proofs.YthmnlfenkhmmhaaGreat
namespace Go.Proofs.YthmnlfenkhmmhaaGreat
set_option linter.unusedSimpArgs false
set_option linter.unusedVariables false
theorem ztM {α:Type} (l:List α) (i:Nat):idx l (i:Int)=l[i]?:=by
  unfold idx
  rw [if_pos (by omega),Int.toNat_natCast]
theorem zvh {n:Int} (h1:-9223372036854775808≤n) (h2:n≤9223372036854775807):IntKind.i64.wrap n=n:=IntWalk.i64_in n ⟨h1,h2⟩
end Go.Proofs.YthmnlfenkhmmhaaGreat
namespace Go.Proofs.YthmnlfenkhmmhaaGreat
set_option linter.unusedSimpArgs false
set_option linter.unusedVariables false
def zwm (o:Option Bool):Bool:=match o with | some true=>true | _=>false
theorem zui {o:Option Bool} (h:zwm o=true):o=some true:=by
  cases o with
  | none=>cases h
  | some b =>
    cases b with
    | false=>cases h
    | true=>rfl
def zoR (l:List Bool) (k:Nat):Bool:=(l[k]?).getD false
def znb (m:Nat) (l:List Bool):List Bool:=(List.range m).map (zoR l)
theorem zqD (l:List Bool) {m k:Nat} (h:k < m):zoR (znb m l) k=zoR l k:=by
  unfold znb
  show (((List.range m).map (zoR l))[k]?).getD false=_
  rw [List.getElem?_map,List.getElem?_range h]
  rfl
theorem zqC (l:List Bool) (k:Nat):(cond (decide ((k:Int) < (List.length l:Int))) ((idx l (k:Int)).bind fun x=>some x) (some false))=some (zoR l k):=by
  rw [ztM]
  unfold zoR
  by_cases h:k < l.length
  · rw [decide_eq_true (by omega),List.getElem?_eq_getElem h]; rfl
  · rw [decide_eq_false (by omega),List.getElem?_eq_none (by omega:l.length≤k)]; rfl
theorem ztU (l:List Bool) {m:Nat} (hm:m≤6):∀ (d:Nat),d≤m→∀ (x:List ze) (y:List UInt8),zab (fun z=>zaY l z.1 z.2.1 z.2.2) (x,y,(d:Int) - 1)=zab (fun z=>zaY (znb m l) z.1 z.2.1 z.2.2) (x,y,(d:Int) - 1):=by
  intro d
  induction d with
  | zero=>intro hd x y; rw [zlH,zlH]; rfl
  | succ d ih =>
    intro hd x y
    have e:((d+1:Nat):Int) - 1=(d:Int):=by omega
    have hw:IntKind.i64.wrap ((d:Int) - 1)=(d:Int) - 1:=zvh (by omega) (by omega)
    rw [e,zlH,zlH]
    show (zaY l x y (d:Int)).bind _=(zaY (znb m l) x y (d:Int)).bind _
    unfold zaY
    rw [zqC,zqC,zqD l (by omega),decide_eq_true (by omega:(0:Int)≤(d:Int))]
    simp only [cond_true,Option.bind_some]
    cases zoR l d with
    | false =>
      simp only [cond_false,zbH,Option.bind_some,hw]
      exact ih (by omega) _ _
    | true =>
      simp only [cond_true]
      cases zjq 152 x ([(ze.mk [(109:UInt8),(tU8 (IntKind.i64.wrap (48+(d:Int))))] [] [86] false false 1 0 ([(zA.mk 46 0 [] [])]) [] [])]) with
      | none=>rfl
      | some r =>
        simp only [Option.bind_some,zbH,hw]
        exact ih (by omega) _ _
theorem zvL (l:List Bool) {m:Nat} (h1:1≤m) (hm:m≤6) (a:List ze) (b:List UInt8):zci (m:Int) l a b=zci (m:Int) (znb m l) a b:=by
  unfold zci
  cases zjq 152 ([]:List ze) ([(ze.mk [111,119,110] [] [86] false false 1 0 ([(zA.mk 46 0 [] [])]) [] [])]) with
  | none=>rfl
  | some r =>
    simp only [Option.bind_some]
    rw [show IntKind.i64.wrap ((m:Int) - 1)=(m:Int) - 1 from zvh (by omega) (by omega),ztU l hm m (Nat.le_refl _)]
theorem ztT (l:List Bool) {m:Nat} (h1:1≤m) (hm:m≤6):zbG (m:Int) l=zbG (m:Int) (znb m l):=by
  unfold zbG
  simp only [zvL l h1 hm]
def ztm:Nat→List (List Bool)
  | 0=>[[]]
  | n+1=>(ztm n).map (false :: ·)++(ztm n).map (true :: ·)
theorem zm8:∀ (l:List Bool),l∈ztm l.length
  | []=>by simp [ztm]
  | false :: l=>by simp [ztm,zm8 l]
  | true :: l=>by simp [ztm,zm8 l]
noncomputable def loR (m:Int) (p:List Bool) (n:Nat):Bool:=(ztm n).all fun l=>zwm (zbG m (p++l))
theorem zwz:loR 1 [] 1=true:=by kernel_rfl
theorem zwA:loR 2 [] 2=true:=by kernel_rfl
theorem zwB:loR 3 [] 3=true:=by kernel_rfl
theorem zwC:loR 4 [] 4=true:=by kernel_rfl
theorem zvJ:loR 5 [false] 4=true:=by kernel_rfl
theorem zvK:loR 5 [true] 4=true:=by kernel_rfl
theorem zuK:loR 6 [false,false] 4=true:=by kernel_rfl
theorem zuL:loR 6 [false,true] 4=true:=by kernel_rfl
theorem zuM:loR 6 [true,false] 4=true:=by kernel_rfl
theorem zuN:loR 6 [true,true] 4=true:=by kernel_rfl
theorem zhE {m:Int} {p:List Bool} {n:Nat} (h:loR m p n=true) {l:List Bool} (hl:l.length=n):zbG m (p++l)=some true:=by
  subst hl
  exact zui (List.all_eq_true.1 h l (zm8 l))
theorem zqE (m:Nat) (l:List Bool):(znb m l).length=m:=by simp [znb]
theorem zjZ (n:Int) (l:List Bool):zbG n l=some true:=by
  by_cases h:n < 1∨6 < n
  · unfold zbG
    have:((decide (n < 1))||(decide (6 < n)))=true:=by
      rcases h with h | h
      · rw [decide_eq_true h]; rfl
      · rw [decide_eq_true h,Bool.or_true]
    rw [this]
    rfl
  · obtain ⟨m,rfl⟩:∃ m:Nat,n=(m:Int):=⟨n.toNat,by omega⟩
    rw [ztT l (by omega) (by omega)]
    have hl:=zqE m l
    have hm:m=1∨m=2∨m=3∨m=4∨m=5∨m=6:=by omega
    generalize znb m l=q at hl
    rcases hm with rfl | rfl | rfl | rfl | rfl | rfl
    · exact zhE zwz hl
    · exact zhE zwA hl
    · exact zhE zwB hl
    · exact zhE zwC hl
    · match q,hl with
      | false :: q,hl=>exact zhE zvJ (by simpa using hl)
      | true :: q,hl=>exact zhE zvK (by simpa using hl)
    · match q,hl with
      | false :: false :: q,hl=>exact zhE zuK (by simpa using hl)
      | false :: true :: q,hl=>exact zhE zuL (by simpa using hl)
      | true :: false :: q,hl=>exact zhE zuM (by simpa using hl)
      | true :: true :: q,hl=>exact zhE zuN (by simpa using hl)
theorem zme (n:Int) (l:List Bool) (_:wI .i64 n) (_:wL wT l):zu Tryz.prog 11 [iA n,.isl 1 (List.map rB l)] (bA true):=zj0 n l (zjZ n l)
end Go.Proofs.YthmnlfenkhmmhaaGreat
