/- LayoutBelow: for every input the law returns true, and each argument reads as it read before. No further condition. Part 5 of 7. -/
import Derived.Test.YthmnlfenkhmmhaaGreatTb4
namespace Go.Proofs.YthmnlfenkhmmhaaGreat
noncomputable section
open List (length map)
set_option linter.unusedSimpArgs false
set_option linter.unusedVariables false
set_option maxRecDepth 100000
set_option maxHeartbeats 4000000
structure zek where
 L:List za
 E:zaM
 In:List Int
 Fuel:Int
def zhU(x:zek):List AV:=[.isl 6 (List.map zc x.L),sA x.E.C,sA x.E.M,.isl 1 (List.map (rI .i32) x.In),iA x.Fuel]
def zk3(v24:List (List UInt8)):Option ((List (List UInt8))):=
 some v24
def zev(v16:List (List UInt8))(v17:List UInt8)(v18:List UInt8)(v19:Bool):Option (Sum ((List (List UInt8))×(List UInt8)×(List UInt8)×Bool) (Sum ((List (List UInt8))) ((List (List UInt8))))):=
 (cond v19 ((zx v16 v17).bind fun v20=>some (!v20)) (some false)).bind fun v21=>cond v21 ((zgT 16 v16 [v17]).bind fun v22=>(zfH v18).bind fun v23=>some (.inl (v22,v18,v23.1,v23.2))) (some (.inr (.inl v16)))
def zc7(v1:List za)(v2:List (List UInt8×Int))(v3:List (List UInt8))(v4:List (List UInt8))(v5:List (List UInt8))(v6:List UInt8):Option ((List (List UInt8))):=
 (zfH v6).bind fun v7=>(zm (fun z=>zev z.1 z.2.1 z.2.2.1 z.2.2.2) (v3,v6,v7.1,v7.2)).bind fun o=>zI o (fun b=>zk3 b) some
theorem zf0(v1:List za)(v2:List (List UInt8×Int))(v3:List (List UInt8))(v4:List (List UInt8))(v5:List (List UInt8))(v6:List UInt8){r:(List (List UInt8))}(h:zc7 v1 v2 v3 v4 v5 v6=some r):SC Tryz.prog 126 [.mpt 0 0 0,sA v6] [.one 4 [.ipt 2 [[.isl 6 (List.map zc v1),.imp (List.map (rKV (fun x=>iA x)) v2)]] 0 0,.msl 1 0 (List.length v3),.msl 2 0 (List.length v4),.msl 3 0 (List.length v5)],.many 1 (List.map zn v3),.many 1 (List.map zn v4),.many 1 (List.map zn v5)] (.tup []) [.one 4 [.ipt 2 [[.isl 6 (List.map zc v1),.imp (List.map (rKV (fun x=>iA x)) v2)]] 0 0,.msl 4 0 (List.length r),.msl 2 0 (List.length v4),.msl 3 0 (List.length v5)],.no,.many 1 (List.map zn v4),.many 1 (List.map zn v5),.many 1 (List.map zn r)]:=by
 refine ⟨⟨trivial,trivial,zg0 (sz:=1) (fun _=>rfl),zg0 (sz:=1) (fun _=>rfl),zg0 (sz:=1) (fun _=>rfl),trivial⟩,zai Tryz.func126 rfl (by kernel_rfl) rfl ?_⟩
 obtain ⟨v7,q1,h⟩:=bs h
 refine A ?_
 obtain ⟨o,ho,h⟩:=bs h
 refine lpB ho (fun z=>[(0,.mpt 0 0 0),(1,sA z.2.1),(4,sA z.2.2.1),(5,bA z.2.2.2)]) (fun z=>[some (4,[[.ipt 2 [[.isl 6 (List.map zc v1),.imp (List.map (rKV (fun x=>iA x)) v2)]] 0 0,.msl 4 0 (List.length z.1),.msl 2 0 (List.length v4),.msl 3 0 (List.length v5)]]),none,some (1,List.map zn v4),some (1,List.map zn v5),some (1,List.map zn z.1)]) (fun b=>[]) (fun b=>[some (4,[[.ipt 2 [[.isl 6 (List.map zc v1),.imp (List.map (rKV (fun x=>iA x)) v2)]] 0 0,.msl 4 0 (List.length b),.msl 2 0 (List.length v4),.msl 3 0 (List.length v5)]]),none,some (1,List.map zn v4),some (1,List.map zn v5),some (1,List.map zn b)]) (fun r env st=>zq9 Tryz.prog Tryz.f126 4 (.tup []) [some (4,[[.ipt 2 [[.isl 6 (List.map zc v1),.imp (List.map (rKV (fun x=>iA x)) v2)]] 0 0,.msl 4 0 (List.length r),.msl 2 0 (List.length v4),.msl 3 0 (List.length v5)]]),none,some (1,List.map zn v4),some (1,List.map zn v5),some (1,List.map zn r)] env st) (zcs [.old 0,.dead,.old 2,.old 3,.old 1]) ?_ ?_
 ·rintro ⟨v16,v17,v18,v19⟩ r h
  refine zh ?_
  obtain ⟨v21,q10,h⟩:=bs h
  refine A ?_
  refine zik (x:=v21) (j:=1) 7 rfl rfl rfl rfl rfl gpn (fun hb8=>by replace q10:=bT hb8 q10;obtain ⟨v20,q9,q10⟩:=bs q10;obtain rfl:=sm q10;exact g rfl hb8<|mv rfl<|g rfl hb8<|nc rfl rfl<|g rfl hb8<|fa ti rfl rfl rfl<|g rfl hb8<|ld ti rfl rfl<|g rfl hb8<|mv rfl<|g rfl hb8<|pcs (zW v16 v17 q9) rfl rfl (.cons (zgN rfl (fun _=>rfl)) (.cons (si rfl) .nil)) zbQ<|g rfl hb8<|nt rfl<|zJ (eg [13,14,15,16,17,18,19] 7 rfl rfl rfl rfl)) (fun hb=>(sm (bF hb q10)).symm)<|zJ ?_
  refine zeh h rfl (fun hc11 h=>?_) fun hc11 h=>?_
  ·refine zf<|zh<|zp ?_
   obtain ⟨v22,q12,h⟩:=bs h
   refine A ?_
   refine u<|apM 6 ti rfl ti rfl rfl (by decide) ti rfl rfl rfl rfl (roX (f:=zn) (z:=[v17]) rfl rfl) (fun _=>rfl) rfl q12<|A ?_
   refine A ?_
   obtain ⟨v23,q13,h⟩:=bs h
   refine A ?_
   obtain rfl:=sm h
   exact ⟨_,rfl,[.old 0,.dead,.old 2,.old 3,.old 6],cv rfl (.mpt rfl)<|ce rfl rfl<|ce rfl rfl<|ce rfl rfl<|cn,rfl,⟨⟨_,rfl,zbV ⟨ci rfl,.msl rfl,.msl rfl,.msl rfl,trivial⟩⟩,⟨_,rfl,zP (fun _=>rfl)⟩,⟨_,rfl,zP (fun _=>rfl)⟩,⟨_,rfl,zP (fun _=>rfl)⟩,trivial⟩,rfl,Nat.le_of_ble_eq_true rfl⟩
  ·refine zG ?_
   obtain rfl:=sm h
   exact ⟨rfl,_,rfl,[.old 0,.dead,.old 2,.old 3,.old 4],cn,rfl,⟨⟨_,rfl,zbV ⟨ci rfl,.msl rfl,.msl rfl,.msl rfl,trivial⟩⟩,⟨_,rfl,zP (fun _=>rfl)⟩,⟨_,rfl,zP (fun _=>rfl)⟩,⟨_,rfl,zP (fun _=>rfl)⟩,trivial⟩,rfl,Nat.le_of_ble_eq_true rfl⟩
 ·rintro v24 rfl
  refine zv ?_
  obtain rfl:=sm h
  exact ⟨_,rfl,[.old 0,.dead,.old 2,.old 3,.old 4],znk trivial,rfl,⟨⟨_,rfl,zbV ⟨ci rfl,.msl rfl,.msl rfl,.msl rfl,trivial⟩⟩,⟨_,rfl,zP (fun _=>rfl)⟩,⟨_,rfl,zP (fun _=>rfl)⟩,⟨_,rfl,zP (fun _=>rfl)⟩,trivial⟩,rfl,Nat.le_of_ble_eq_true rfl⟩
def ze7(v1:List za)(v2:List (List UInt8×Int))(v3:List (List UInt8))(v4:List (List UInt8))(v5:List (List UInt8))(v6:zl)(v9:Bool):Option ((List (List UInt8))):=
 cond v9 ((zc7 v1 v2 v3 v4 v5 v6.C).bind fun v10=>some v10) (some v3)
def zgA(v1:List za)(v2:List (List UInt8×Int))(v3:List (List UInt8))(v4:List (List UInt8))(v5:List (List UInt8))(v6:zl):Option ((List (List UInt8))):=
 cond (v6.Op == (50:Int)) ((zjV v6.C).bind fun v7=>(zc7 v1 v2 v3 v4 v5 v7).bind fun v8=>some v8) (cond (v6.Op == (56:Int)) (ze7 v1 v2 v3 v4 v5 v6 (v6.Op == (56:Int))) (ze7 v1 v2 v3 v4 v5 v6 (v6.Op == (57:Int))))
theorem zmh(v1:List za)(v2:List (List UInt8×Int))(v3:List (List UInt8))(v4:List (List UInt8))(v5:List (List UInt8))(v6:zl){r:(List (List UInt8))}(h:zgA v1 v2 v3 v4 v5 v6=some r):SC Tryz.prog 127 [.mpt 0 0 0,.agg (zA v6)] [.one 4 [.ipt 2 [[.isl 6 (List.map zc v1),.imp (List.map (rKV (fun x=>iA x)) v2)]] 0 0,.msl 1 0 (List.length v3),.msl 2 0 (List.length v4),.msl 3 0 (List.length v5)],.many 1 (List.map zn v3),.many 1 (List.map zn v4),.many 1 (List.map zn v5)] (.tup []) [.one 4 [.ipt 2 [[.isl 6 (List.map zc v1),.imp (List.map (rKV (fun x=>iA x)) v2)]] 0 0,.msl 4 0 (List.length r),.msl 2 0 (List.length v4),.msl 3 0 (List.length v5)],.no,.many 1 (List.map zn v4),.many 1 (List.map zn v5),.many 1 (List.map zn r)]:=by
 refine ⟨⟨trivial,trivial,zg0 (sz:=1) (fun _=>rfl),zg0 (sz:=1) (fun _=>rfl),zg0 (sz:=1) (fun _=>rfl),trivial⟩,zai Tryz.func127 rfl (by kernel_rfl) rfl ?_⟩
 refine A ?_
 refine A ?_
 refine zp<|A ?_
 refine zeh h rfl (fun hc1 h=>?_) fun hc1 h=>?_
 ·obtain ⟨v7,q2,v8,q3,h⟩:=bs2 h
  refine A ?_
  refine u<|sc [0,1,2,3] (zf0 v1 v2 v3 v4 v5 v7 q3) rfl rfl rfl rfl ⟨(.mpt rfl),(rnI rfl),trivial⟩ ⟨⟨_,rfl,⟨(rnI rfl),(.msl rfl),(.msl rfl),(.msl rfl),trivial⟩⟩,⟨rfl,mkI (fun _=>rfl)⟩,⟨rfl,mkI (fun _=>rfl)⟩,⟨rfl,mkI (fun _=>rfl)⟩,trivial⟩<|zL (env0:=[]) (st0:=[some (4,[[.ipt 2 [[.isl 6 (List.map zc v1),.imp (List.map (rKV (fun x=>iA x)) v2)]] 0 0,.msl 4 0 (List.length v8),.msl 2 0 (List.length v4),.msl 3 0 (List.length v5)]]),none,some (1,List.map zn v4),some (1,List.map zn v5),some (1,List.map zn v8)]) ⟨[.old 0,.dead,.old 2,.old 3,.old 5],cn,rfl,⟨⟨_,rfl,zbV ⟨ci rfl,.msl rfl,.msl rfl,.msl rfl,trivial⟩⟩,⟨_,rfl,zP (fun _=>rfl)⟩,⟨_,rfl,zP (fun _=>rfl)⟩,⟨_,rfl,zP (fun _=>rfl)⟩,trivial⟩,rfl,Nat.le_of_ble_eq_true rfl⟩<|zJ ?_
  obtain rfl:=sm h
  exact ⟨_,rfl,[.old 0,.dead,.old 2,.old 3,.old 4],znk trivial,rfl,⟨⟨_,rfl,zbV ⟨ci rfl,.msl rfl,.msl rfl,.msl rfl,trivial⟩⟩,⟨_,rfl,zP (fun _=>rfl)⟩,⟨_,rfl,zP (fun _=>rfl)⟩,⟨_,rfl,zP (fun _=>rfl)⟩,trivial⟩,rfl,Nat.le_of_ble_eq_true rfl⟩
 ·refine zcX (X:=Bool) (fun z=>[(0,.mpt 0 0 0),(3,.mpt 4 0 0),(13,bA z)]) (fun z=>[some (4,[[.ipt 2 [[.isl 6 (List.map zc v1),.imp (List.map (rKV (fun x=>iA x)) v2)]] 0 0,.msl 1 0 (List.length v3),.msl 2 0 (List.length v4),.msl 3 0 (List.length v5)]]),some (1,List.map zn v3),some (1,List.map zn v4),some (1,List.map zn v5),some (4,[(zA v6)])]) (fun z=>ze7 v1 v2 v3 v4 v5 v6 z=some r) ?_ ?_
  ·refine A ?_
   refine zeh h rfl (fun hc4 h=>?_) fun hc4 h=>?_
   ·refine zf ?_
    exact ⟨(v6.Op == (56:Int)),h,[.old 0,.old 1,.old 2,.old 3,.old 4],cv rfl (.mpt rfl)<|cv rfl (.mpt rfl)<|ce rfl rfl<|cn,rfl,⟨⟨_,rfl,zbV ⟨ci rfl,.msl rfl,.msl rfl,.msl rfl,trivial⟩⟩,⟨_,rfl,zP (fun _=>rfl)⟩,⟨_,rfl,zP (fun _=>rfl)⟩,⟨_,rfl,zP (fun _=>rfl)⟩,⟨_,rfl,zbV (ciL rfl)⟩,trivial⟩,rfl,Nat.le_of_ble_eq_true rfl⟩
   ·refine A ?_
    exact (⟨(v6.Op == (57:Int)),h,[.old 0,.old 1,.old 2,.old 3,.old 4],cv rfl (.mpt rfl)<|cv rfl (.mpt rfl)<|ce rfl rfl<|cn,rfl,⟨⟨_,rfl,zbV ⟨ci rfl,.msl rfl,.msl rfl,.msl rfl,trivial⟩⟩,⟨_,rfl,zP (fun _=>rfl)⟩,⟨_,rfl,zP (fun _=>rfl)⟩,⟨_,rfl,zP (fun _=>rfl)⟩,⟨_,rfl,zbV (ciL rfl)⟩,trivial⟩,rfl,Nat.le_of_ble_eq_true rfl⟩)
  ·rintro v9 h
   refine zeh h rfl (fun hc5 h=>?_) fun hc5 h=>?_
   ·obtain ⟨v10,q6,h⟩:=bs h
    refine A ?_
    refine u<|sc [0,1,2,3] (zf0 v1 v2 v3 v4 v5 v6.C q6) rfl rfl rfl rfl ⟨(.mpt rfl),(rnI rfl),trivial⟩ ⟨⟨_,rfl,⟨(rnI rfl),(.msl rfl),(.msl rfl),(.msl rfl),trivial⟩⟩,⟨rfl,mkI (fun _=>rfl)⟩,⟨rfl,mkI (fun _=>rfl)⟩,⟨rfl,mkI (fun _=>rfl)⟩,trivial⟩<|zL (env0:=[]) (st0:=[some (4,[[.ipt 2 [[.isl 6 (List.map zc v1),.imp (List.map (rKV (fun x=>iA x)) v2)]] 0 0,.msl 4 0 (List.length v10),.msl 2 0 (List.length v4),.msl 3 0 (List.length v5)]]),none,some (1,List.map zn v4),some (1,List.map zn v5),some (1,List.map zn v10)]) ⟨[.old 0,.dead,.old 2,.old 3,.old 5],cn,rfl,⟨⟨_,rfl,zbV ⟨ci rfl,.msl rfl,.msl rfl,.msl rfl,trivial⟩⟩,⟨_,rfl,zP (fun _=>rfl)⟩,⟨_,rfl,zP (fun _=>rfl)⟩,⟨_,rfl,zP (fun _=>rfl)⟩,trivial⟩,rfl,Nat.le_of_ble_eq_true rfl⟩<|zJ ?_
    obtain rfl:=sm h
    exact ⟨_,rfl,[.old 0,.dead,.old 2,.old 3,.old 4],znk trivial,rfl,⟨⟨_,rfl,zbV ⟨ci rfl,.msl rfl,.msl rfl,.msl rfl,trivial⟩⟩,⟨_,rfl,zP (fun _=>rfl)⟩,⟨_,rfl,zP (fun _=>rfl)⟩,⟨_,rfl,zP (fun _=>rfl)⟩,trivial⟩,rfl,Nat.le_of_ble_eq_true rfl⟩
   ·refine zf ?_
    obtain rfl:=sm h
    exact ⟨_,rfl,[.old 0,.dead,.old 2,.old 3,.old 1],znk trivial,rfl,⟨⟨_,rfl,zbV ⟨ci rfl,.msl rfl,.msl rfl,.msl rfl,trivial⟩⟩,⟨_,rfl,zP (fun _=>rfl)⟩,⟨_,rfl,zP (fun _=>rfl)⟩,⟨_,rfl,zP (fun _=>rfl)⟩,trivial⟩,rfl,Nat.le_of_ble_eq_true rfl⟩
def zqq(v2:zr)(v130:List (List UInt8))(v131:List (List UInt8))(v132:List (List UInt8)):Option ((List za)×(List (List UInt8×Int))×(List (List UInt8))×(List (List UInt8))×(List (List UInt8))):=
 some (v2.l,v2.at_,v130,v131,v132)
def zqp(v71:Int)(v95:List (List UInt8))(v128:List (List UInt8))(v129:List (List UInt8)):Option (Sum ((List (List UInt8))×(List (List UInt8))×(List (List UInt8))×Int) (Sum ((List (List UInt8))×(List (List UInt8))×(List (List UInt8))) ((List za)×(List (List UInt8×Int))×(List (List UInt8))×(List (List UInt8))×(List (List UInt8))))):=
 some (.inl (v128,v129,v95,(IntKind.i64.wrap (v71+1))))
def zqo(v114:Int)(v118:List (List UInt8))(v127:List (List UInt8)):Option (Sum ((List (List UInt8))×(List (List UInt8))×Int) (Sum ((List (List UInt8))×(List (List UInt8))) ((List za)×(List (List UInt8×Int))×(List (List UInt8))×(List (List UInt8))×(List (List UInt8))))):=
 some (.inl (v127,v118,(IntKind.i64.wrap (v114+1))))
def zd2(v2:zr)(v95:List (List UInt8))(v115:zb)(v118:List (List UInt8))(v123:List (List UInt8))(v124:Int):Option (Sum ((List (List UInt8))×Int) (Sum ((List (List UInt8))) ((List za)×(List (List UInt8×Int))×(List (List UInt8))×(List (List UInt8))×(List (List UInt8))))):=
 cond (decide (v124<(List.length v115.Code:Int))) ((idx v115.Code v124).bind fun v125=>(zgA v2.l v2.at_ v123 v118 v95 v125).bind fun v126=>some (.inl (v126,(IntKind.i64.wrap (v124+1))))) (some (.inr (.inl v123)))
def zd3(v2:zr)(v72:List UInt8)(v73:za×Bool)(v95:List (List UInt8))(v112:List (List UInt8))(v113:List (List UInt8))(v114:Int):Option (Sum ((List (List UInt8))×(List (List UInt8))×Int) (Sum ((List (List UInt8))×(List (List UInt8))) ((List za)×(List (List UInt8×Int))×(List (List UInt8))×(List (List UInt8))×(List (List UInt8))))):=
 cond (decide (v114<(List.length v73.1.Methods:Int))) ((idx v73.1.Methods v114).bind fun v115=>(zqF v72 [46]).bind fun v116=>(zqF v116 v115.Name).bind fun v117=>(zgT 16 v113 [v117]).bind fun v118=>(zm (fun z=>zd2 v2 v95 v115 v118 z.1 z.2) (v112,0)).bind fun o=>zI o (fun b=>zqo v114 v118 b) (fun r=>some (.inr (.inr r)))) (some (.inr (.inl (v112,v113))))
def zmw(v2:zr)(v69:List (List UInt8))(v71:Int)(v72:List UInt8)(v73:za×Bool)(v94:List (List UInt8))(v95:List (List UInt8)):Option (Sum ((List (List UInt8))×(List (List UInt8))×(List (List UInt8))×Int) (Sum ((List (List UInt8))×(List (List UInt8))×(List (List UInt8))) ((List za)×(List (List UInt8×Int))×(List (List UInt8))×(List (List UInt8))×(List (List UInt8))))):=
 (zm (fun z=>zd3 v2 v72 v73 v95 z.1 z.2.1 z.2.2) (v94,v69,0)).bind fun o=>zI o (fun b=>zqp v71 v95 b.1 b.2) (fun r=>some (.inr (.inr r)))
def zh5(v86:Int)(v92:List (List UInt8))(v93:List (List UInt8)):Option (Sum ((List (List UInt8))×(List (List UInt8))×Int) (Sum ((List (List UInt8))×(List (List UInt8))) ((List za)×(List (List UInt8×Int))×(List (List UInt8))×(List (List UInt8))×(List (List UInt8))))):=
 some (.inl (v92,v93,(IntKind.i64.wrap (v86+1))))
def zd1(v2:zr)(v69:List (List UInt8))(v72:List UInt8)(v73:za×Bool)(v84:List (List UInt8))(v85:List (List UInt8))(v86:Int):Option (Sum ((List (List UInt8))×(List (List UInt8))×Int) (Sum ((List (List UInt8))×(List (List UInt8))) ((List za)×(List (List UInt8×Int))×(List (List UInt8))×(List (List UInt8))×(List (List UInt8))))):=
 cond (decide (v86<(List.length v73.1.Fields:Int))) ((idx v73.1.Fields v86).bind fun v87=>(zc7 v2.l v2.at_ v84 v69 v85 v87.Type_).bind fun v88=>cond v87.Static ((zqF v72 [46]).bind fun v89=>(zqF v89 v87.Name).bind fun v90=>(zgT 16 v85 [v90]).bind fun v91=>zh5 v86 v88 v91) (zh5 v86 v88 v85)) (some (.inr (.inl (v84,v85))))
def ze0(v2:zr)(v5:(List (List UInt8)))(v68:List (List UInt8))(v69:List (List UInt8))(v70:List (List UInt8))(v71:Int):Option (Sum ((List (List UInt8))×(List (List UInt8))×(List (List UInt8))×Int) (Sum ((List (List UInt8))×(List (List UInt8))×(List (List UInt8))) ((List za)×(List (List UInt8×Int))×(List (List UInt8))×(List (List UInt8))×(List (List UInt8))))):=
 cond (decide (v71<((List.length v5):Int))) ((idx v5 v71).bind fun v72=>(zz v2.l v2.at_ v72).bind fun v73=>(zm (fun z=>zd1 v2 v69 v72 v73 z.1 z.2.1 z.2.2) (v68,v70,0)).bind fun o=>zI o (fun b=>zmw v2 v69 v71 v72 v73 b.1 b.2) (fun r=>some (.inr (.inr r)))) (some (.inr (.inl (v68,v69,v70))))
def ziS(v1:Option zr):Option ((List za)×(List (List UInt8×Int))×(List (List UInt8))×(List (List UInt8))×(List (List UInt8))):=
 zwx v1 (none) (fun v2=>(zcE v2.l v2.at_).bind fun v3=>(zgT 16 v3 ([[91,73]])).bind fun v4=>(zcE v2.l v2.at_).bind fun v5=>(zm (fun z=>ze0 v2 v5 z.1 z.2.1 z.2.2.1 z.2.2.2) (v4,[],[],0)).bind fun o=>zI o (fun b=>zqq v2 b.1 b.2.1 b.2.2) some)
theorem znH(v1:Option zr){r:(List za)×(List (List UInt8×Int))×(List (List UInt8))×(List (List UInt8))×(List (List UInt8))}(h:ziS v1=some r):SC Tryz.prog 44 [zkD 2 zaZ v1] [] (.mpt 0 0 0) [.one 4 [.ipt 2 [[.isl 6 (List.map zc r.1),.imp (List.map (rKV (fun x=>iA x)) r.2.1)]] 0 0,.msl 1 0 (List.length r.2.2.1),.msl 2 0 (List.length r.2.2.2.1),.msl 3 0 (List.length r.2.2.2.2)],.many 1 (List.map zn r.2.2.1),.many 1 (List.map zn r.2.2.2.1),.many 1 (List.map zn r.2.2.2.2)]:=by
 refine ⟨⟨trivial,zg0 (sz:=1) (fun _=>rfl),zg0 (sz:=1) (fun _=>rfl),zg0 (sz:=1) (fun _=>rfl),trivial⟩,zai Tryz.func44 rfl (by kernel_rfl) rfl ?_⟩
 unfold ziS at h
 rcases v1 with _ |v2
 ·replace h:=oeN h
  cases h
 ·replace h:=oeS h
  refine A ?_
  obtain ⟨v3,q1,v4,q2,h⟩:=bs2 h
  refine A ?_
  refine u<|sc [] (zeL v2.l v2.at_ q1) rfl rfl rfl rfl ⟨(rnI rfl),trivial⟩ trivial<|zL (env0:=[(0,.ipt 2 [[.isl 6 (List.map zc v2.l),.imp (List.map (rKV (fun x=>iA x)) v2.at_)]] 0 0),(14,.ipt 2 [[.isl 6 (List.map zc v2.l),.imp (List.map (rKV (fun x=>iA x)) v2.at_)]] 0 0),(16,.msl 0 0 (List.length v3))]) (st0:=[some (1,List.map zn v3)]) ⟨[.old 0],ce rfl rfl<|ce rfl rfl<|cv rfl (.msl rfl)<|cn,rfl,⟨⟨_,rfl,zP (fun _=>rfl)⟩,trivial⟩,rfl,Nat.le_of_ble_eq_true rfl⟩<|A ?_
  refine u<|apM 2 ti rfl ti rfl rfl (by decide) ti rfl rfl rfl rfl (roX (f:=zn) (z:=[[91,73]]) rfl rfl) (fun _=>rfl) rfl q2<|A ?_
  refine zh ?_
  obtain ⟨v5,q3,h⟩:=bs h
  refine rg rfl<|u<|mv rfl<|u<|sc [] (zeL v2.l v2.at_ q3) rfl rfl rfl rfl ⟨(rnI rfl),trivial⟩ trivial<|zL (env0:=[(0,.ipt 2 [[.isl 6 (List.map zc v2.l),.imp (List.map (rKV (fun x=>iA x)) v2.at_)]] 0 0),(3,.mpt 0 0 0),(22,.msl 2 0 (List.length v5))]) (st0:=[some (4,[[.ipt 2 [[.isl 6 (List.map zc v2.l),.imp (List.map (rKV (fun x=>iA x)) v2.at_)]] 0 0,.msl 1 0 (List.length v4),.lit (.slice none 0 0),.lit (.slice none 0 0)]]),some (1,List.map zn v4),some (1,List.map zn v5)]) ⟨[.old 3,.old 2,.old 4],ce rfl rfl<|cv rfl (.mpt rfl)<|cv rfl (.msl rfl)<|cn,rfl,⟨⟨_,rfl,zbV ⟨ci rfl,.msl rfl,ci rfl,ci rfl,trivial⟩⟩,⟨_,rfl,zP (fun _=>rfl)⟩,⟨_,rfl,zP (fun _=>rfl)⟩,trivial⟩,rfl,Nat.le_of_ble_eq_true rfl⟩<|A ?_
  obtain ⟨o,ho,h⟩:=bs h
  refine lpB ho (fun z=>[(0,.ipt 2 [[.isl 6 (List.map zc v2.l),.imp (List.map (rKV (fun x=>iA x)) v2.at_)]] 0 0),(3,.mpt 0 0 0),(22,.msl 4 0 (List.length v5)),(23,iA ((List.length v5):Int)),(24,iA z.2.2.2)]) (fun z=>[some (4,[[.ipt 2 [[.isl 6 (List.map zc v2.l),.imp (List.map (rKV (fun x=>iA x)) v2.at_)]] 0 0,.msl 1 0 (List.length z.1),.msl 2 0 (List.length z.2.1),.msl 3 0 (List.length z.2.2.1)]]),some (1,List.map zn z.1),some (1,List.map zn z.2.1),some (1,List.map zn z.2.2.1),some (1,List.map zn v5)]) (fun b=>[(3,.mpt 0 0 0)]) (fun b=>[some (4,[[.ipt 2 [[.isl 6 (List.map zc v2.l),.imp (List.map (rKV (fun x=>iA x)) v2.at_)]] 0 0,.msl 1 0 (List.length b.1),.msl 2 0 (List.length b.2.1),.msl 3 0 (List.length b.2.2)]]),some (1,List.map zn b.1),some (1,List.map zn b.2.1),some (1,List.map zn b.2.2)]) (pF Tryz.f44 (fun r=>.mpt 0 0 0) fun r=>[some (4,[[.ipt 2 [[.isl 6 (List.map zc r.1),.imp (List.map (rKV (fun x=>iA x)) r.2.1)]] 0 0,.msl 1 0 (List.length r.2.2.1),.msl 2 0 (List.length r.2.2.2.1),.msl 3 0 (List.length r.2.2.2.2)]]),some (1,List.map zn r.2.2.1),some (1,List.map zn r.2.2.2.1),some (1,List.map zn r.2.2.2.2)]) ⟨[.old 0,.old 1,.fresh 1,.fresh 1,.old 2],ce rfl rfl<|cv rfl (.mpt rfl)<|cv rfl (.msl rfl)<|ce rfl rfl<|ce rfl rfl<|cn,rfl,⟨⟨_,rfl,zbV ⟨ci rfl,.msl rfl,.nilown rfl,.nilown rfl,trivial⟩⟩,⟨_,rfl,zP (fun _=>rfl)⟩,⟨rfl,rfl⟩,⟨rfl,rfl⟩,⟨_,rfl,zP (fun _=>rfl)⟩,trivial⟩,rfl,Nat.le_of_ble_eq_true rfl⟩ ?_ ?_
  ·rintro ⟨v68,v69,v70,v71⟩ r h
   refine A ?_
   refine zh ?_
   refine zeh h rfl (fun hc43 h=>?_) fun hc43 h=>?_
   ·refine zf<|zh<|zp ?_
    obtain ⟨v72,q44,h⟩:=bs h
    refine A ?_
    obtain ⟨v73,q45,h⟩:=bs h
    refine A ?_
    refine zh<|A ?_
    obtain ⟨o,ho,h⟩:=bs h
    refine lpS ho (fun z=>[(0,.ipt 2 [[.isl 6 (List.map zc v2.l),.imp (List.map (rKV (fun x=>iA x)) v2.at_)]] 0 0),(3,.mpt 0 0 0),(5,sA v72),(6,.mpt 4 0 0),(22,.msl 5 0 (List.length v5)),(23,iA ((List.length v5):Int)),(24,iA v71),(35,.isl 3 (List.map zD v73.1.Fields)),(36,iA (List.length v73.1.Fields:Int)),(37,iA z.2.2)]) (fun z=>[some (4,[[.ipt 2 [[.isl 6 (List.map zc v2.l),.imp (List.map (rKV (fun x=>iA x)) v2.at_)]] 0 0,.msl 1 0 (List.length z.1),.msl 2 0 (List.length v69),.msl 3 0 (List.length z.2.1)]]),some (1,List.map zn z.1),some (1,List.map zn v69),some (1,List.map zn z.2.1),some (6,[(zc v73.1)]),some (1,List.map zn v5)]) (fun b=>[(0,.ipt 2 [[.isl 6 (List.map zc v2.l),.imp (List.map (rKV (fun x=>iA x)) v2.at_)]] 0 0),(3,.mpt 0 0 0),(5,sA v72),(6,.mpt 4 0 0),(22,.msl 5 0 (List.length v5)),(23,iA ((List.length v5):Int)),(24,iA v71)]) (fun b=>[some (4,[[.ipt 2 [[.isl 6 (List.map zc v2.l),.imp (List.map (rKV (fun x=>iA x)) v2.at_)]] 0 0,.msl 1 0 (List.length b.1),.msl 2 0 (List.length v69),.msl 3 0 (List.length b.2)]]),some (1,List.map zn b.1),some (1,List.map zn v69),some (1,List.map zn b.2),some (6,[(zc v73.1)]),some (1,List.map zn v5)]) (pF Tryz.f44 (fun r=>.mpt 0 0 0) fun r=>[some (4,[[.ipt 2 [[.isl 6 (List.map zc r.1),.imp (List.map (rKV (fun x=>iA x)) r.2.1)]] 0 0,.msl 1 0 (List.length r.2.2.1),.msl 2 0 (List.length r.2.2.2.1),.msl 3 0 (List.length r.2.2.2.2)]]),some (1,List.map zn r.2.2.1),some (1,List.map zn r.2.2.2.1),some (1,List.map zn r.2.2.2.2)]) (zcs [.old 0,.old 1,.old 2,.old 3,.old 5,.old 4]) ?_ ?_ ?_
    ·rintro ⟨v84,v85,v86⟩ r h
     refine A ?_
     refine zh ?_
     refine zeh h rfl (fun hc53 h=>?_) fun hc53 h=>?_
     ·refine zf ?_
      refine zcX (X:=(List (List UInt8))×(List (List UInt8))) (fun z=>[(0,.ipt 2 [[.isl 6 (List.map zc v2.l),.imp (List.map (rKV (fun x=>iA x)) v2.at_)]] 0 0),(3,.mpt 0 0 0),(5,sA v72),(6,.mpt 4 0 0),(22,.msl 5 0 (List.length v5)),(23,iA ((List.length v5):Int)),(24,iA v71),(35,.isl 3 (List.map zD v73.1.Fields)),(36,iA (List.length v73.1.Fields:Int)),(37,iA v86)]) (fun z=>[some (4,[[.ipt 2 [[.isl 6 (List.map zc v2.l),.imp (List.map (rKV (fun x=>iA x)) v2.at_)]] 0 0,.msl 1 0 (List.length z.1),.msl 2 0 (List.length v69),.msl 3 0 (List.length z.2)]]),some (1,List.map zn z.1),some (1,List.map zn v69),some (1,List.map zn z.2),some (6,[(zc v73.1)]),some (1,List.map zn v5)]) (fun z=>zh5 v86 z.1 z.2=some r) ?_ ?_
      ·refine zp ?_
       obtain ⟨v87,q54,h⟩:=bs h
       refine A ?_
       obtain ⟨v88,q55,h⟩:=bs h
       refine A ?_
       refine u<|sc [0,1,2,3] (zf0 v2.l v2.at_ v84 v69 v85 v87.Type_ q55) rfl rfl rfl rfl ⟨(.mpt rfl),(rnI rfl),trivial⟩ ⟨⟨_,rfl,⟨(rnI rfl),(.msl rfl),(.msl rfl),(.msl rfl),trivial⟩⟩,⟨rfl,mkI (fun _=>rfl)⟩,⟨rfl,mkI (fun _=>rfl)⟩,⟨rfl,mkI (fun _=>rfl)⟩,trivial⟩<|zL (env0:=[(0,.ipt 2 [[.isl 6 (List.map zc v2.l),.imp (List.map (rKV (fun x=>iA x)) v2.at_)]] 0 0),(3,.mpt 0 0 0),(5,sA v72),(6,.mpt 4 0 0),(9,.mpt 5 0 0),(22,.msl 6 0 (List.length v5)),(23,iA ((List.length v5):Int)),(24,iA v71),(35,.isl 3 (List.map zD v73.1.Fields)),(36,iA (List.length v73.1.Fields:Int)),(37,iA v86)]) (st0:=[some (4,[[.ipt 2 [[.isl 6 (List.map zc v2.l),.imp (List.map (rKV (fun x=>iA x)) v2.at_)]] 0 0,.msl 1 0 (List.length v88),.msl 2 0 (List.length v69),.msl 3 0 (List.length v85)]]),some (1,List.map zn v88),some (1,List.map zn v69),some (1,List.map zn v85),some (6,[(zc v73.1)]),some (3,[(zD v87)]),some (1,List.map zn v5)]) ⟨[.old 0,.old 7,.old 2,.old 3,.old 4,.old 6,.old 5],ce rfl rfl<|cv rfl (.mpt rfl)<|ce rfl rfl<|cv rfl (.mpt rfl)<|cv rfl (.mpt rfl)<|cv rfl (.msl rfl)<|ce rfl rfl<|ce rfl rfl<|ce rfl rfl<|ce rfl rfl<|ce rfl rfl<|cn,rfl,⟨⟨_,rfl,zbV ⟨ci rfl,.msl rfl,.msl rfl,.msl rfl,trivial⟩⟩,⟨_,rfl,zP (fun _=>rfl)⟩,⟨_,rfl,zP (fun _=>rfl)⟩,⟨_,rfl,zP (fun _=>rfl)⟩,⟨_,rfl,zbV (ciL rfl)⟩,⟨_,rfl,zbV (ciL rfl)⟩,⟨_,rfl,zP (fun _=>rfl)⟩,trivial⟩,rfl,Nat.le_of_ble_eq_true rfl⟩<|zJ ?_
       refine A ?_
       refine zeh h rfl (fun hc56 h=>?_) fun hc56 h=>?_
       ·obtain ⟨v89,q57,v90,q58,v91,q59,h⟩:=bs3 h
        refine zqW [(0,.ipt 2 [[.isl 6 (List.map zc v2.l),.imp (List.map (rKV (fun x=>iA x)) v2.at_)]] 0 0),(3,.mpt 0 0 0),(5,sA v72),(6,.mpt 4 0 0),(22,.msl 5 0 (List.length v5)),(23,iA ((List.length v5):Int)),(24,iA v71),(35,.isl 3 (List.map zD v73.1.Fields)),(36,iA (List.length v73.1.Fields:Int)),(37,iA v86)] [some (4,[[.ipt 2 [[.isl 6 (List.map zc v2.l),.imp (List.map (rKV (fun x=>iA x)) v2.at_)]] 0 0,.msl 1 0 (List.length v88),.msl 2 0 (List.length v69),.msl 3 0 (List.length v91)]]),some (1,List.map zn v88),some (1,List.map zn v69),some (1,List.map zn v91),some (6,[(zc v73.1)]),some (1,List.map zn v5)] [10,11,14] [0,1,2,3,4,5,6,7,8,9] [(56,_),(55,_),(54,_),(53,_),(52,_),(51,_),(50,_),(49,_),(48,_),(47,_)] 3 (zgE (z:=by exact ⟨(fun _ _=>⟨_,rfl,rfl,bl 7 ti rfl ti rfl (by decide) (by decide) rfl rfl rfl<|⟨(.msl 7 0 1),[],[(57,_)],rfl,rfl,rfl,rfl,zgE (z:=by exact ⟨nv,(fun _ _=>⟨_,rfl,rfl,apM 8 ti rfl ti rfl rfl (by decide) ti rfl rfl rfl rfl (roX (f:=zn) (z:=[v90]) rfl rfl) (fun _=>rfl) rfl q59<|⟨(.msl 8 0 (List.length v91)),[12,13],[(60,_),(59,_),(58,_)],rfl,rfl,rfl,rfl,zgE (z:=by exact ⟨nv,nv,(fun _ _=>⟨_,rfl,rfl,sto ti rfl rfl rfl<|⟨.any,[],[],rfl,rfl,rfl,trivial,zhx (z:=zcs [.old 0,.old 1,.old 2,.old 8,.old 4,.old 6])⟩⟩),trivial⟩)⟩⟩),nw,trivial⟩)⟩⟩),nw,nw,trivial⟩)) ?_
        exact ⟨⟨v88,v91⟩,h,[.old 0,.old 1,.old 2,.old 3,.old 4,.old 5],ce rfl rfl<|cv rfl (.mpt rfl)<|ce rfl rfl<|cv rfl (.mpt rfl)<|cv rfl (.msl rfl)<|ce rfl rfl<|ce rfl rfl<|ce rfl rfl<|ce rfl rfl<|ce rfl rfl<|cn,rfl,⟨⟨_,rfl,zbV ⟨ci rfl,.msl rfl,.msl rfl,.msl rfl,trivial⟩⟩,⟨_,rfl,zP (fun _=>rfl)⟩,⟨_,rfl,zP (fun _=>rfl)⟩,⟨_,rfl,zP (fun _=>rfl)⟩,⟨_,rfl,zbV (ciL rfl)⟩,⟨_,rfl,zP (fun _=>rfl)⟩,trivial⟩,rfl,Nat.le_of_ble_eq_true rfl⟩
       ·refine zf ?_
        exact ⟨⟨v88,v85⟩,h,[.old 0,.old 1,.old 2,.old 3,.old 4,.old 6],ce rfl rfl<|cv rfl (.mpt rfl)<|ce rfl rfl<|cv rfl (.mpt rfl)<|cv rfl (.msl rfl)<|ce rfl rfl<|ce rfl rfl<|ce rfl rfl<|ce rfl rfl<|ce rfl rfl<|cn,rfl,⟨⟨_,rfl,zbV ⟨ci rfl,.msl rfl,.msl rfl,.msl rfl,trivial⟩⟩,⟨_,rfl,zP (fun _=>rfl)⟩,⟨_,rfl,zP (fun _=>rfl)⟩,⟨_,rfl,zP (fun _=>rfl)⟩,⟨_,rfl,zbV (ciL rfl)⟩,⟨_,rfl,zP (fun _=>rfl)⟩,trivial⟩,rfl,Nat.le_of_ble_eq_true rfl⟩
      ·rintro ⟨v92,v93⟩ h
       refine A ?_
       obtain rfl:=sm h
       exact ⟨_,rfl,[.old 0,.old 1,.old 2,.old 3,.old 4,.old 5],ce rfl rfl<|cv rfl (.mpt rfl)<|ce rfl rfl<|cv rfl (.mpt rfl)<|cv rfl (.msl rfl)<|ce rfl rfl<|ce rfl rfl<|ce rfl rfl<|ce rfl rfl<|ce rfl rfl<|cn,rfl,⟨⟨_,rfl,zbV ⟨ci rfl,.msl rfl,.msl rfl,.msl rfl,trivial⟩⟩,⟨_,rfl,zP (fun _=>rfl)⟩,⟨_,rfl,zP (fun _=>rfl)⟩,⟨_,rfl,zP (fun _=>rfl)⟩,⟨_,rfl,zbV (ciL rfl)⟩,⟨_,rfl,zP (fun _=>rfl)⟩,trivial⟩,rfl,Nat.le_of_ble_eq_true rfl⟩
     ·refine zG ?_
      obtain rfl:=sm h
      exact ⟨rfl,_,rfl,[.old 0,.old 1,.old 2,.old 3,.old 4,.old 5],ce rfl rfl<|cv rfl (.mpt rfl)<|ce rfl rfl<|cv rfl (.mpt rfl)<|cv rfl (.msl rfl)<|ce rfl rfl<|ce rfl rfl<|cn,rfl,⟨⟨_,rfl,zbV ⟨ci rfl,.msl rfl,.msl rfl,.msl rfl,trivial⟩⟩,⟨_,rfl,zP (fun _=>rfl)⟩,⟨_,rfl,zP (fun _=>rfl)⟩,⟨_,rfl,zP (fun _=>rfl)⟩,⟨_,rfl,zbV (ciL rfl)⟩,⟨_,rfl,zP (fun _=>rfl)⟩,trivial⟩,rfl,Nat.le_of_ble_eq_true rfl⟩
    ·rintro ⟨v94,v95⟩ rfl
     refine zv<|A ?_
     obtain ⟨o,ho,h⟩:=bs h
     refine lpS ho (fun z=>[(0,.ipt 2 [[.isl 6 (List.map zc v2.l),.imp (List.map (rKV (fun x=>iA x)) v2.at_)]] 0 0),(3,.mpt 0 0 0),(5,sA v72),(22,.msl 4 0 (List.length v5)),(23,iA ((List.length v5):Int)),(24,iA v71),(63,.isl 10 (List.map zd v73.1.Methods)),(64,iA (List.length v73.1.Methods:Int)),(65,iA z.2.2)]) (fun z=>[some (4,[[.ipt 2 [[.isl 6 (List.map zc v2.l),.imp (List.map (rKV (fun x=>iA x)) v2.at_)]] 0 0,.msl 1 0 (List.length z.1),.msl 2 0 (List.length z.2.1),.msl 3 0 (List.length v95)]]),some (1,List.map zn z.1),some (1,List.map zn z.2.1),some (1,List.map zn v95),some (1,List.map zn v5)]) (fun b=>[(0,.ipt 2 [[.isl 6 (List.map zc v2.l),.imp (List.map (rKV (fun x=>iA x)) v2.at_)]] 0 0),(3,.mpt 0 0 0),(22,.msl 4 0 (List.length v5)),(23,iA ((List.length v5):Int)),(24,iA v71)]) (fun b=>[some (4,[[.ipt 2 [[.isl 6 (List.map zc v2.l),.imp (List.map (rKV (fun x=>iA x)) v2.at_)]] 0 0,.msl 1 0 (List.length b.1),.msl 2 0 (List.length b.2),.msl 3 0 (List.length v95)]]),some (1,List.map zn b.1),some (1,List.map zn b.2),some (1,List.map zn v95),some (1,List.map zn v5)]) (pF Tryz.f44 (fun r=>.mpt 0 0 0) fun r=>[some (4,[[.ipt 2 [[.isl 6 (List.map zc r.1),.imp (List.map (rKV (fun x=>iA x)) r.2.1)]] 0 0,.msl 1 0 (List.length r.2.2.1),.msl 2 0 (List.length r.2.2.2.1),.msl 3 0 (List.length r.2.2.2.2)]]),some (1,List.map zn r.2.2.1),some (1,List.map zn r.2.2.2.1),some (1,List.map zn r.2.2.2.2)]) (zcs [.old 0,.old 1,.old 2,.old 3,.old 5]) ?_ ?_ ?_
     ·rintro ⟨v112,v113,v114⟩ r h
      refine A ?_
      refine zh ?_
      refine zeh h rfl (fun hc71 h=>?_) fun hc71 h=>?_
      ·refine zf<|zh<|zp ?_
       obtain ⟨v115,q72,h⟩:=bs h
       refine A ?_
       obtain ⟨v116,q73,v117,q74,v118,q75,h⟩:=bs3 h
       refine rdA [(0,.ipt 2 [[.isl 6 (List.map zc v2.l),.imp (List.map (rKV (fun x=>iA x)) v2.at_)]] 0 0),(3,.mpt 0 0 0),(5,sA v72),(11,.mpt 4 0 0),(22,.msl 5 0 (List.length v5)),(23,iA ((List.length v5):Int)),(24,iA v71),(63,.isl 10 (List.map zd v73.1.Methods)),(64,iA (List.length v73.1.Methods:Int)),(65,iA v114)] [some (4,[[.ipt 2 [[.isl 6 (List.map zc v2.l),.imp (List.map (rKV (fun x=>iA x)) v2.at_)]] 0 0,.msl 1 0 (List.length v112),.msl 2 0 (List.length v118),.msl 3 0 (List.length v95)]]),some (1,List.map zn v112),some (1,List.map zn v118),some (1,List.map zn v95),some (10,[(zd v115)]),some (1,List.map zn v5)] [10,11,14] [0,1,2,3,4,5,6,7,8,9] [(78,_),(77,_),(76,_),(75,_),(74,_),(73,_),(72,_),(71,_),(70,_),(69,_)] 3 (zgE (z:=by exact ⟨(fun _ _=>⟨_,rfl,rfl,bl 6 ti rfl ti rfl (by decide) (by decide) rfl rfl rfl<|⟨(.msl 6 0 1),[],[(79,_)],rfl,rfl,rfl,rfl,zgE (z:=by exact ⟨nv,(fun _ _=>⟨_,rfl,rfl,apM 7 ti rfl ti rfl rfl (by decide) ti rfl rfl rfl rfl (roX (f:=zn) (z:=[v117]) rfl rfl) (fun _=>rfl) rfl q75<|⟨(.msl 7 0 (List.length v118)),[12,13],[(82,_),(81,_),(80,_)],rfl,rfl,rfl,rfl,zgE (z:=by exact ⟨nv,nv,(fun _ _=>⟨_,rfl,rfl,sto ti rfl rfl rfl<|⟨.any,[],[],rfl,rfl,rfl,trivial,zhx (z:=zcs [.old 0,.old 1,.old 7,.old 3,.old 5,.old 4])⟩⟩),trivial⟩)⟩⟩),nw,trivial⟩)⟩⟩),nw,nw,trivial⟩)) ?_
       refine A ?_
       obtain ⟨o,ho,h⟩:=bs h
       refine lpS ho (fun z=>[(0,.ipt 2 [[.isl 6 (List.map zc v2.l),.imp (List.map (rKV (fun x=>iA x)) v2.at_)]] 0 0),(3,.mpt 0 0 0),(5,sA v72),(22,.msl 4 0 (List.length v5)),(23,iA ((List.length v5):Int)),(24,iA v71),(63,.isl 10 (List.map zd v73.1.Methods)),(64,iA (List.length v73.1.Methods:Int)),(65,iA v114),(84,.isl 4 (List.map zA v115.Code)),(85,iA (List.length v115.Code:Int)),(86,iA z.2)]) (fun z=>[some (4,[[.ipt 2 [[.isl 6 (List.map zc v2.l),.imp (List.map (rKV (fun x=>iA x)) v2.at_)]] 0 0,.msl 1 0 (List.length z.1),.msl 2 0 (List.length v118),.msl 3 0 (List.length v95)]]),some (1,List.map zn z.1),some (1,List.map zn v118),some (1,List.map zn v95),some (1,List.map zn v5)]) (fun b=>[(0,.ipt 2 [[.isl 6 (List.map zc v2.l),.imp (List.map (rKV (fun x=>iA x)) v2.at_)]] 0 0),(3,.mpt 0 0 0),(5,sA v72),(22,.msl 4 0 (List.length v5)),(23,iA ((List.length v5):Int)),(24,iA v71),(63,.isl 10 (List.map zd v73.1.Methods)),(64,iA (List.length v73.1.Methods:Int)),(65,iA v114)]) (fun b=>[some (4,[[.ipt 2 [[.isl 6 (List.map zc v2.l),.imp (List.map (rKV (fun x=>iA x)) v2.at_)]] 0 0,.msl 1 0 (List.length b),.msl 2 0 (List.length v118),.msl 3 0 (List.length v95)]]),some (1,List.map zn b),some (1,List.map zn v118),some (1,List.map zn v95),some (1,List.map zn v5)]) (pF Tryz.f44 (fun r=>.mpt 0 0 0) fun r=>[some (4,[[.ipt 2 [[.isl 6 (List.map zc r.1),.imp (List.map (rKV (fun x=>iA x)) r.2.1)]] 0 0,.msl 1 0 (List.length r.2.2.1),.msl 2 0 (List.length r.2.2.2.1),.msl 3 0 (List.length r.2.2.2.2)]]),some (1,List.map zn r.2.2.1),some (1,List.map zn r.2.2.2.1),some (1,List.map zn r.2.2.2.2)]) (zcs [.old 0,.old 1,.old 2,.old 3,.old 5]) ?_ ?_ ?_
       ·rintro ⟨v123,v124⟩ r h
        refine A ?_
        refine zh ?_
        refine zeh h rfl (fun hc79 h=>?_) fun hc79 h=>?_
        ·refine zf<|zh<|zp ?_
         obtain ⟨v125,q80,h⟩:=bs h
         refine A ?_
         obtain ⟨v126,q81,h⟩:=bs h
         refine A ?_
         refine u<|sc [0,1,2,3] (zmh v2.l v2.at_ v123 v118 v95 v125 q81) rfl rfl rfl rfl ⟨(.mpt rfl),(rnI rfl),trivial⟩ ⟨⟨_,rfl,⟨(rnI rfl),(.msl rfl),(.msl rfl),(.msl rfl),trivial⟩⟩,⟨rfl,mkI (fun _=>rfl)⟩,⟨rfl,mkI (fun _=>rfl)⟩,⟨rfl,mkI (fun _=>rfl)⟩,trivial⟩<|zL (env0:=[(0,.ipt 2 [[.isl 6 (List.map zc v2.l),.imp (List.map (rKV (fun x=>iA x)) v2.at_)]] 0 0),(3,.mpt 0 0 0),(5,sA v72),(22,.msl 4 0 (List.length v5)),(23,iA ((List.length v5):Int)),(24,iA v71),(63,.isl 10 (List.map zd v73.1.Methods)),(64,iA (List.length v73.1.Methods:Int)),(65,iA v114),(84,.isl 4 (List.map zA v115.Code)),(85,iA (List.length v115.Code:Int)),(86,iA v124)]) (st0:=[some (4,[[.ipt 2 [[.isl 6 (List.map zc v2.l),.imp (List.map (rKV (fun x=>iA x)) v2.at_)]] 0 0,.msl 1 0 (List.length v126),.msl 2 0 (List.length v118),.msl 3 0 (List.length v95)]]),some (1,List.map zn v126),some (1,List.map zn v118),some (1,List.map zn v95),some (1,List.map zn v5)]) ⟨[.old 0,.old 6,.old 2,.old 3,.old 4],ce rfl rfl<|cv rfl (.mpt rfl)<|ce rfl rfl<|cv rfl (.msl rfl)<|ce rfl rfl<|ce rfl rfl<|ce rfl rfl<|ce rfl rfl<|ce rfl rfl<|ce rfl rfl<|ce rfl rfl<|ce rfl rfl<|cn,rfl,⟨⟨_,rfl,zbV ⟨ci rfl,.msl rfl,.msl rfl,.msl rfl,trivial⟩⟩,⟨_,rfl,zP (fun _=>rfl)⟩,⟨_,rfl,zP (fun _=>rfl)⟩,⟨_,rfl,zP (fun _=>rfl)⟩,⟨_,rfl,zP (fun _=>rfl)⟩,trivial⟩,rfl,Nat.le_of_ble_eq_true rfl⟩<|zJ ?_
         refine A ?_
         obtain rfl:=sm h
         exact ⟨_,rfl,[.old 0,.old 1,.old 2,.old 3,.old 4],ce rfl rfl<|cv rfl (.mpt rfl)<|ce rfl rfl<|cv rfl (.msl rfl)<|ce rfl rfl<|ce rfl rfl<|ce rfl rfl<|ce rfl rfl<|ce rfl rfl<|ce rfl rfl<|ce rfl rfl<|ce rfl rfl<|cn,rfl,⟨⟨_,rfl,zbV ⟨ci rfl,.msl rfl,.msl rfl,.msl rfl,trivial⟩⟩,⟨_,rfl,zP (fun _=>rfl)⟩,⟨_,rfl,zP (fun _=>rfl)⟩,⟨_,rfl,zP (fun _=>rfl)⟩,⟨_,rfl,zP (fun _=>rfl)⟩,trivial⟩,rfl,Nat.le_of_ble_eq_true rfl⟩
        ·refine zG ?_
         obtain rfl:=sm h
         exact ⟨rfl,_,rfl,[.old 0,.old 1,.old 2,.old 3,.old 4],ce rfl rfl<|cv rfl (.mpt rfl)<|ce rfl rfl<|cv rfl (.msl rfl)<|ce rfl rfl<|ce rfl rfl<|ce rfl rfl<|ce rfl rfl<|ce rfl rfl<|cn,rfl,⟨⟨_,rfl,zbV ⟨ci rfl,.msl rfl,.msl rfl,.msl rfl,trivial⟩⟩,⟨_,rfl,zP (fun _=>rfl)⟩,⟨_,rfl,zP (fun _=>rfl)⟩,⟨_,rfl,zP (fun _=>rfl)⟩,⟨_,rfl,zP (fun _=>rfl)⟩,trivial⟩,rfl,Nat.le_of_ble_eq_true rfl⟩
       ·rintro v127 rfl
        refine zv<|A ?_
        obtain rfl:=sm h
        exact ⟨_,rfl,[.old 0,.old 1,.old 2,.old 3,.old 4],ce rfl rfl<|cv rfl (.mpt rfl)<|ce rfl rfl<|cv rfl (.msl rfl)<|ce rfl rfl<|ce rfl rfl<|ce rfl rfl<|ce rfl rfl<|ce rfl rfl<|cn,rfl,⟨⟨_,rfl,zbV ⟨ci rfl,.msl rfl,.msl rfl,.msl rfl,trivial⟩⟩,⟨_,rfl,zP (fun _=>rfl)⟩,⟨_,rfl,zP (fun _=>rfl)⟩,⟨_,rfl,zP (fun _=>rfl)⟩,⟨_,rfl,zP (fun _=>rfl)⟩,trivial⟩,rfl,Nat.le_of_ble_eq_true rfl⟩
       ·rintro r' rfl env st hp
        obtain rfl:=sm h
        exact ⟨_,rfl,hp⟩
      ·refine zG ?_
       obtain rfl:=sm h
       exact ⟨rfl,_,rfl,[.old 0,.old 1,.old 2,.old 3,.old 4],ce rfl rfl<|cv rfl (.mpt rfl)<|cv rfl (.msl rfl)<|ce rfl rfl<|ce rfl rfl<|cn,rfl,⟨⟨_,rfl,zbV ⟨ci rfl,.msl rfl,.msl rfl,.msl rfl,trivial⟩⟩,⟨_,rfl,zP (fun _=>rfl)⟩,⟨_,rfl,zP (fun _=>rfl)⟩,⟨_,rfl,zP (fun _=>rfl)⟩,⟨_,rfl,zP (fun _=>rfl)⟩,trivial⟩,rfl,Nat.le_of_ble_eq_true rfl⟩
     ·rintro ⟨v128,v129⟩ rfl
      refine zv<|A ?_
      obtain rfl:=sm h
      exact ⟨_,rfl,[.old 0,.old 1,.old 2,.old 3,.old 4],ce rfl rfl<|cv rfl (.mpt rfl)<|cv rfl (.msl rfl)<|ce rfl rfl<|ce rfl rfl<|cn,rfl,⟨⟨_,rfl,zbV ⟨ci rfl,.msl rfl,.msl rfl,.msl rfl,trivial⟩⟩,⟨_,rfl,zP (fun _=>rfl)⟩,⟨_,rfl,zP (fun _=>rfl)⟩,⟨_,rfl,zP (fun _=>rfl)⟩,⟨_,rfl,zP (fun _=>rfl)⟩,trivial⟩,rfl,Nat.le_of_ble_eq_true rfl⟩
     ·rintro r' rfl env st hp
      obtain rfl:=sm h
      exact ⟨_,rfl,hp⟩
    ·rintro r' rfl env st hp
     obtain rfl:=sm h
     exact ⟨_,rfl,hp⟩
   ·refine zG ?_
    obtain rfl:=sm h
    exact ⟨rfl,_,rfl,[.old 0,.old 1,.old 2,.old 3],cv rfl (.mpt rfl)<|cn,rfl,⟨⟨_,rfl,zbV ⟨ci rfl,.msl rfl,.msl rfl,.msl rfl,trivial⟩⟩,⟨_,rfl,zP (fun _=>rfl)⟩,⟨_,rfl,zP (fun _=>rfl)⟩,⟨_,rfl,zP (fun _=>rfl)⟩,trivial⟩,rfl,Nat.le_of_ble_eq_true rfl⟩
  ·rintro ⟨v130,v131,v132⟩ rfl
   refine zv<|A ?_
   exact RT4
def zm2:Option (Bool):=
 (zm3).bind fun v1=>some v1
theorem zmv{r:Bool}(h:zm2=some r):zaj Tryz.prog 123 [] (bA r):=by
 refine zj Tryz.func123 rfl (by kernel_rfl) rfl rfl<|A ?_
 obtain ⟨v1,q1,h⟩:=bs h
 refine A ?_
 exact RT0
instance:PF Tryz.prog 123 [] (zm2) bA:=⟨fun _=>zmv ⟩
def zg5(v1:List za)(v2:List (List UInt8×Int))(v3:List (List UInt8))(v4:List (List UInt8))(v5:List (List UInt8)):Option ((List (List UInt8))):=
 (zkT v3).bind fun v6=>some v6
theorem zhC(v1:List za)(v2:List (List UInt8×Int))(v3:List (List UInt8))(v4:List (List UInt8))(v5:List (List UInt8)){r:(List (List UInt8))}(h:zg5 v1 v2 v3 v4 v5=some r):SC Tryz.prog 49 [.ipt 4 [[.ipt 2 [[.isl 6 (List.map zc v1),.imp (List.map (rKV (fun x=>iA x)) v2)]] 0 0,.isl 1 (List.map zn v3),.isl 1 (List.map zn v4),.isl 1 (List.map zn v5)]] 0 0] [] (.msl 0 0 (List.length r)) [.many 1 (List.map zn r)]:=by
 refine ⟨⟨zg0 (sz:=1) (fun _=>rfl),trivial⟩,zai Tryz.func49 rfl (by kernel_rfl) rfl ?_⟩
 refine A ?_
 refine zh<|A ?_
 refine zhY rfl (fun hx=>by cases hx) (fun _=>?_)
 refine zf ?_
 obtain ⟨v6,q1,h⟩:=bs h
 refine A ?_
 refine u<|sc [] (zjR v3 q1) rfl rfl rfl rfl ⟨(rnI rfl),trivial⟩ trivial<|zL (env0:=[(9,.msl 0 0 (List.length v6))]) (st0:=[some (1,List.map zn v6)]) ⟨[.old 0],cv rfl (.msl rfl)<|cn,rfl,⟨⟨_,rfl,zP (fun _=>rfl)⟩,trivial⟩,rfl,Nat.le_of_ble_eq_true rfl⟩<|A ?_
 exact RT1
def zf6(v1:List za)(v2:List (List UInt8×Int))(v3:List (List UInt8))(v4:List (List UInt8))(v5:List (List UInt8))(v6:List UInt8):Option (Int):=
 (zg5 v1 v2 v3 v4 v5).bind fun v7=>(zad v7 v6).bind fun v8=>some v8
theorem zgl(v1:List za)(v2:List (List UInt8×Int))(v3:List (List UInt8))(v4:List (List UInt8))(v5:List (List UInt8))(v6:List UInt8){r:Int}(h:zf6 v1 v2 v3 v4 v5 v6=some r):zaj Tryz.prog 52 [.ipt 4 [[.ipt 2 [[.isl 6 (List.map zc v1),.imp (List.map (rKV (fun x=>iA x)) v2)]] 0 0,.isl 1 (List.map zn v3),.isl 1 (List.map zn v4),.isl 1 (List.map zn v5)]] 0 0,sA v6] (iA r):=by
 refine zj Tryz.func52 rfl (by kernel_rfl) rfl rfl<|A ?_
 obtain ⟨v7,q1,v8,q2,h⟩:=bs2 h
 refine rg rfl<|u<|mv rfl<|u<|sc [] (zhC v1 v2 v3 v4 v5 q1) rfl rfl rfl rfl ⟨(rnI rfl),trivial⟩ trivial<|zL (env0:=[(1,sA v6),(6,.msl 0 0 (List.length v7))]) (st0:=[some (1,List.map zn v7)]) ⟨[.old 0],ce rfl rfl<|cv rfl (.msl rfl)<|cn,rfl,⟨⟨_,rfl,zP (fun _=>rfl)⟩,trivial⟩,rfl,Nat.le_of_ble_eq_true rfl⟩<|u<|mv rfl<|u<|pcs (zaL v7 v6 q2) rfl rfl (.cons (zgN rfl (fun _=>rfl)) (.cons (si rfl) .nil)) zbQ<|A ?_
 exact RT0
instance (v1:List za)(v2:List (List UInt8×Int))(v3:List (List UInt8))(v4:List (List UInt8))(v5:List (List UInt8))(v6:List UInt8):PF Tryz.prog 52 [.ipt 4 [[.ipt 2 [[.isl 6 (List.map zc v1),.imp (List.map (rKV (fun x=>iA x)) v2)]] 0 0,.isl 1 (List.map zn v3),.isl 1 (List.map zn v4),.isl 1 (List.map zn v5)]] 0 0,sA v6] (zf6 v1 v2 v3 v4 v5 v6) iA:=⟨fun _=>zgl v1 v2 v3 v4 v5 v6⟩
def zgj(v1:List za)(v2:List (List UInt8×Int))(v3:List (List UInt8))(v4:List (List UInt8))(v5:List (List UInt8)):Option ((List (List UInt8))):=
 (zkT v4).bind fun v6=>some v6
theorem zhb(v1:List za)(v2:List (List UInt8×Int))(v3:List (List UInt8))(v4:List (List UInt8))(v5:List (List UInt8)){r:(List (List UInt8))}(h:zgj v1 v2 v3 v4 v5=some r):SC Tryz.prog 50 [.ipt 4 [[.ipt 2 [[.isl 6 (List.map zc v1),.imp (List.map (rKV (fun x=>iA x)) v2)]] 0 0,.isl 1 (List.map zn v3),.isl 1 (List.map zn v4),.isl 1 (List.map zn v5)]] 0 0] [] (.msl 0 0 (List.length r)) [.many 1 (List.map zn r)]:=by
 refine ⟨⟨zg0 (sz:=1) (fun _=>rfl),trivial⟩,zai Tryz.func50 rfl (by kernel_rfl) rfl ?_⟩
 refine A ?_
 refine zh<|A ?_
 refine zhY rfl (fun hx=>by cases hx) (fun _=>?_)
 refine zf ?_
 obtain ⟨v6,q1,h⟩:=bs h
 refine A ?_
 refine u<|sc [] (zjR v4 q1) rfl rfl rfl rfl ⟨(rnI rfl),trivial⟩ trivial<|zL (env0:=[(9,.msl 0 0 (List.length v6))]) (st0:=[some (1,List.map zn v6)]) ⟨[.old 0],cv rfl (.msl rfl)<|cn,rfl,⟨⟨_,rfl,zP (fun _=>rfl)⟩,trivial⟩,rfl,Nat.le_of_ble_eq_true rfl⟩<|A ?_
 exact RT1
def zgI(v1:List za)(v2:List (List UInt8×Int))(v3:List (List UInt8))(v4:List (List UInt8))(v5:List (List UInt8))(v6:List UInt8)(v7:List UInt8):Option (Int):=
 (zgj v1 v2 v3 v4 v5).bind fun v8=>(zqF v6 [46]).bind fun v9=>(zqF v9 v7).bind fun v10=>(zad v8 v10).bind fun v11=>some v11
theorem zhm(v1:List za)(v2:List (List UInt8×Int))(v3:List (List UInt8))(v4:List (List UInt8))(v5:List (List UInt8))(v6:List UInt8)(v7:List UInt8){r:Int}(h:zgI v1 v2 v3 v4 v5 v6 v7=some r):zaj Tryz.prog 55 [.ipt 4 [[.ipt 2 [[.isl 6 (List.map zc v1),.imp (List.map (rKV (fun x=>iA x)) v2)]] 0 0,.isl 1 (List.map zn v3),.isl 1 (List.map zn v4),.isl 1 (List.map zn v5)]] 0 0,sA v6,sA v7] (iA r):=by
 refine zj Tryz.func55 rfl (by kernel_rfl) rfl rfl<|A ?_
 obtain ⟨v8,q1,v9,q2,v10,q3,v11,q4,h⟩:=bs4 h
 refine rg rfl<|u<|mv rfl<|u<|sc [] (zhb v1 v2 v3 v4 v5 q1) rfl rfl rfl rfl ⟨(rnI rfl),trivial⟩ trivial<|zL (env0:=[(1,sA v6),(2,sA v7),(8,.msl 0 0 (List.length v8))]) (st0:=[some (1,List.map zn v8)]) ⟨[.old 0],ce rfl rfl<|ce rfl rfl<|cv rfl (.msl rfl)<|cn,rfl,⟨⟨_,rfl,zP (fun _=>rfl)⟩,trivial⟩,rfl,Nat.le_of_ble_eq_true rfl⟩<|A ?_
 refine u<|pcs (zaL v8 v10 q4) rfl rfl (.cons (zgN rfl (fun _=>rfl)) (.cons (si rfl) .nil)) zbQ<|A ?_
 exact RT0
instance (v1:List za)(v2:List (List UInt8×Int))(v3:List (List UInt8))(v4:List (List UInt8))(v5:List (List UInt8))(v6:List UInt8)(v7:List UInt8):PF Tryz.prog 55 [.ipt 4 [[.ipt 2 [[.isl 6 (List.map zc v1),.imp (List.map (rKV (fun x=>iA x)) v2)]] 0 0,.isl 1 (List.map zn v3),.isl 1 (List.map zn v4),.isl 1 (List.map zn v5)]] 0 0,sA v6,sA v7] (zgI v1 v2 v3 v4 v5 v6 v7) iA:=⟨fun _=>zhm v1 v2 v3 v4 v5 v6 v7⟩
def zie(v1:List za)(v2:List (List UInt8×Int))(v3:List (List UInt8))(v4:List (List UInt8))(v5:List (List UInt8)):Option ((List (List UInt8))):=
 (zkT v5).bind fun v6=>some v6
theorem zjZ(v1:List za)(v2:List (List UInt8×Int))(v3:List (List UInt8))(v4:List (List UInt8))(v5:List (List UInt8)){r:(List (List UInt8))}(h:zie v1 v2 v3 v4 v5=some r):SC Tryz.prog 51 [.ipt 4 [[.ipt 2 [[.isl 6 (List.map zc v1),.imp (List.map (rKV (fun x=>iA x)) v2)]] 0 0,.isl 1 (List.map zn v3),.isl 1 (List.map zn v4),.isl 1 (List.map zn v5)]] 0 0] [] (.msl 0 0 (List.length r)) [.many 1 (List.map zn r)]:=by
 refine ⟨⟨zg0 (sz:=1) (fun _=>rfl),trivial⟩,zai Tryz.func51 rfl (by kernel_rfl) rfl ?_⟩
 refine A ?_
 refine zh<|A ?_
 refine zhY rfl (fun hx=>by cases hx) (fun _=>?_)
 refine zf ?_
 obtain ⟨v6,q1,h⟩:=bs h
 refine A ?_
 refine u<|sc [] (zjR v5 q1) rfl rfl rfl rfl ⟨(rnI rfl),trivial⟩ trivial<|zL (env0:=[(9,.msl 0 0 (List.length v6))]) (st0:=[some (1,List.map zn v6)]) ⟨[.old 0],cv rfl (.msl rfl)<|cn,rfl,⟨⟨_,rfl,zP (fun _=>rfl)⟩,trivial⟩,rfl,Nat.le_of_ble_eq_true rfl⟩<|A ?_
 exact RT1
def zgJ(v1:List za)(v2:List (List UInt8×Int))(v3:List (List UInt8))(v4:List (List UInt8))(v5:List (List UInt8))(v6:List UInt8)(v7:List UInt8):Option (Int):=
 (zie v1 v2 v3 v4 v5).bind fun v8=>(zqF v6 [46]).bind fun v9=>(zqF v9 v7).bind fun v10=>(zad v8 v10).bind fun v11=>some v11
theorem zhn(v1:List za)(v2:List (List UInt8×Int))(v3:List (List UInt8))(v4:List (List UInt8))(v5:List (List UInt8))(v6:List UInt8)(v7:List UInt8){r:Int}(h:zgJ v1 v2 v3 v4 v5 v6 v7=some r):zaj Tryz.prog 62 [.ipt 4 [[.ipt 2 [[.isl 6 (List.map zc v1),.imp (List.map (rKV (fun x=>iA x)) v2)]] 0 0,.isl 1 (List.map zn v3),.isl 1 (List.map zn v4),.isl 1 (List.map zn v5)]] 0 0,sA v6,sA v7] (iA r):=by
 refine zj Tryz.func62 rfl (by kernel_rfl) rfl rfl<|A ?_
 obtain ⟨v8,q1,v9,q2,v10,q3,v11,q4,h⟩:=bs4 h
 refine rg rfl<|u<|mv rfl<|u<|sc [] (zjZ v1 v2 v3 v4 v5 q1) rfl rfl rfl rfl ⟨(rnI rfl),trivial⟩ trivial<|zL (env0:=[(1,sA v6),(2,sA v7),(8,.msl 0 0 (List.length v8))]) (st0:=[some (1,List.map zn v8)]) ⟨[.old 0],ce rfl rfl<|ce rfl rfl<|cv rfl (.msl rfl)<|cn,rfl,⟨⟨_,rfl,zP (fun _=>rfl)⟩,trivial⟩,rfl,Nat.le_of_ble_eq_true rfl⟩<|A ?_
 refine u<|pcs (zaL v8 v10 q4) rfl rfl (.cons (zgN rfl (fun _=>rfl)) (.cons (si rfl) .nil)) zbQ<|A ?_
 exact RT0
instance (v1:List za)(v2:List (List UInt8×Int))(v3:List (List UInt8))(v4:List (List UInt8))(v5:List (List UInt8))(v6:List UInt8)(v7:List UInt8):PF Tryz.prog 62 [.ipt 4 [[.ipt 2 [[.isl 6 (List.map zc v1),.imp (List.map (rKV (fun x=>iA x)) v2)]] 0 0,.isl 1 (List.map zn v3),.isl 1 (List.map zn v4),.isl 1 (List.map zn v5)]] 0 0,sA v6,sA v7] (zgJ v1 v2 v3 v4 v5 v6 v7) iA:=⟨fun _=>zhn v1 v2 v3 v4 v5 v6 v7⟩
def zfu(v16:List (List UInt8)):Option ((List (List UInt8))):=
 some v16
def zag(v9:List (List UInt8))(v10:Int)(v11:Int):Option (Sum ((List (List UInt8))×Int×Int) (Sum ((List (List UInt8))) ((List (List UInt8))))):=
 cond (decide (v10<v11)) ((idx v9 v11).bind fun v12=>(idx v9 v10).bind fun v13=>(idx v9 v10).bind fun v14=>(idx (List.set v9 (Int.toNat v10) v12) v11).bind fun v15=>some (.inl ((List.set (List.set v9 (Int.toNat v10) v12) (Int.toNat v11) v13),(IntKind.i64.wrap (v10+1)),(IntKind.i64.wrap (v11-1))))) (some (.inr (.inl v9)))
def zbE(v1:List (List UInt8)):Option ((List (List UInt8))):=
 (zm (fun z=>zag z.1 z.2.1 z.2.2) (v1,0,(IntKind.i64.wrap (((List.length v1):Int)-1)))).bind fun o=>zI o (fun b=>zfu b) some
theorem zhX(v1:List (List UInt8)){r:(List (List UInt8))}(h:zbE v1=some r):SC Tryz.prog 224 [.msl 0 0 (List.length v1)] [.many 1 (List.map zn v1)] (.tup []) [.many 1 (List.map zn r)]:=by
 refine ⟨⟨zg0 (sz:=1) (fun _=>rfl),trivial⟩,zai Tryz.func224 rfl (by kernel_rfl) rfl ?_⟩
 refine A ?_
 obtain ⟨o,ho,h⟩:=bs h
 refine lpB ho (fun z=>[(0,.msl 0 0 (List.length z.1)),(2,iA z.2.1),(3,iA z.2.2)]) (fun z=>[some (1,List.map zn z.1)]) (fun b=>[]) (fun b=>[some (1,List.map zn b)]) (fun r env st=>zq9 Tryz.prog Tryz.f224 1 (.tup []) [some (1,List.map zn r)] env st) (zcs [.old 0]) ?_ ?_
 ·rintro ⟨v9,v10,v11⟩ r h
  refine zh<|A ?_
  refine zeh h rfl (fun hc6 h=>?_) fun hc6 h=>?_
  ·refine zf<|zh<|zp ?_
   obtain ⟨v12,q7,v13,q8,v14,q9,v15,q10,h⟩:=bs4 h
   refine rdL [(0,.msl 0 0 (List.length (List.set (List.set v9 (Int.toNat v10) v12) (Int.toNat v11) v13))),(2,iA v10),(3,iA v11)] [some (1,List.map zn (List.set (List.set v9 (Int.toNat v10) v12) (Int.toNat v11) v13))] [13,15] [12,11,10,9,8,7,6,5,4,3,2,1,0] [(26,.mpt 0 (Int.toNat v10) 0),(25,sA v13),(24,.mpt 0 (Int.toNat v10) 0),(23,iA v10),(22,.msl 0 0 (List.length v9)),(21,sA v12),(20,.mpt 0 (Int.toNat v11) 0),(19,iA v11),(18,.msl 0 0 (List.length v9)),(17,iA v11),(16,.msl 0 0 (List.length v9)),(15,iA v10),(14,.msl 0 0 (List.length v9))] 2 (by kernel_rfl) (by kernel_rfl) rfl (by kernel_rfl) (dtS ⟨(fun _=>pa rfl rfl rfl rfl (ixM ti rfl ti rfl rfl rfl rfl q9<|⟨rfl,rfl⟩)),(fun _=>pa rfl rfl rfl rfl (ldM ti rfl rfl (zbI q8).2.2 rfl<|⟨rfl,rfl⟩)),(fun _=>pa rfl rfl rfl rfl (ixM ti rfl ti rfl rfl rfl rfl q8<|⟨rfl,rfl⟩)),(fun _=>pa rfl rfl rfl rfl (mv rfl<|⟨rfl,rfl⟩)),(fun _=>pa rfl rfl rfl rfl (mv rfl<|⟨rfl,rfl⟩)),(fun _=>pa rfl rfl rfl rfl (ldM ti rfl rfl (zbI q7).2.2 rfl<|⟨rfl,rfl⟩)),(fun _=>pa rfl rfl rfl rfl (ixM ti rfl ti rfl rfl rfl rfl q7<|⟨rfl,rfl⟩)),(fun _=>pa rfl rfl rfl rfl (mv rfl<|⟨rfl,rfl⟩)),(fun _=>pa rfl rfl rfl rfl (mv rfl<|⟨rfl,rfl⟩)),(fun _=>pa rfl rfl rfl rfl (mv rfl<|⟨rfl,rfl⟩)),(fun _=>pa rfl rfl rfl rfl (mv rfl<|⟨rfl,rfl⟩)),(fun _=>pa rfl rfl rfl rfl (mv rfl<|⟨rfl,rfl⟩)),(fun _=>pa rfl rfl rfl rfl (mv rfl<|⟨rfl,rfl⟩)),trivial⟩ (by kernel_rfl) rfl ⟨(fun _ _=>⟨_,rfl,rfl,zEp (c':=v12) ti rfl rfl (zbI q9).2.2 rfl rfl rfl rfl rfl<|⟨.any,[14],[(27,.mpt 0 (Int.toNat v11) 0)],rfl,rfl,by kernel_rfl,trivial,dtS ⟨(fun _=>pa rfl rfl rfl rfl (zEC (by simp) ti rfl ti rfl rfl rfl rfl q10<|⟨rfl,rfl⟩)),(fun h=>by cases h),(fun h=>by cases h),(fun _=>pa rfl rfl rfl rfl (zEC (by simp) ti rfl ti rfl rfl rfl rfl (zCm q8)<|⟨rfl,rfl⟩)),(fun _=>pa rfl rfl rfl rfl (mv rfl<|⟨rfl,rfl⟩)),(fun _=>pa rfl rfl rfl rfl (mv rfl<|⟨rfl,rfl⟩)),(fun h=>by cases h),(fun h=>by cases h),(fun h=>by cases h),(fun h=>by cases h),(fun _=>pa rfl rfl rfl rfl (mv rfl<|⟨rfl,rfl⟩)),(fun _=>pa rfl rfl rfl rfl (mv rfl<|⟨rfl,rfl⟩)),(fun h=>by cases h),(fun h=>by cases h),trivial⟩ (by kernel_rfl) rfl ⟨(fun h=>by cases h),(fun _ _=>⟨_,rfl,rfl,zEp (c':=v13) ti rfl rfl (zbI q10).2.2 rfl rfl rfl rfl rfl<|⟨.any,[],[],rfl,rfl,by kernel_rfl,trivial,dt0 ⟨(fun h=>by cases h),(fun h=>by cases h),(fun h=>by cases h),(fun h=>by cases h),(fun h=>by cases h),(fun h=>by cases h),(fun h=>by cases h),(fun h=>by cases h),(fun h=>by cases h),(fun h=>by cases h),(fun h=>by cases h),(fun h=>by cases h),(fun h=>by cases h),(fun h=>by cases h),trivial⟩ (by kernel_rfl) rfl ⟨[.old 0],cv rfl (zDQ (by simp) rfl)<|ce rfl rfl<|ce rfl rfl<|cn,rfl,⟨⟨_,rfl,zP (fun _=>rfl)⟩,trivial⟩,rfl,Nat.le_of_ble_eq_true rfl⟩⟩⟩),trivial⟩⟩⟩),(fun _ h=>by cases h),trivial⟩) ?_
   refine A ?_
   obtain rfl:=sm h
   exact ⟨_,rfl,[.old 0],cv rfl (.msl rfl)<|ce rfl rfl<|ce rfl rfl<|cn,rfl,⟨⟨_,rfl,zP (fun _=>rfl)⟩,trivial⟩,rfl,Nat.le_of_ble_eq_true rfl⟩
  ·refine zG ?_
   obtain rfl:=sm h
   exact ⟨rfl,_,rfl,[.old 0],cn,rfl,⟨⟨_,rfl,zP (fun _=>rfl)⟩,trivial⟩,rfl,Nat.le_of_ble_eq_true rfl⟩
 ·rintro v16 rfl
  refine zv ?_
  obtain rfl:=sm h
  exact ⟨_,rfl,[.old 0],znk trivial,rfl,⟨⟨_,rfl,zP (fun _=>rfl)⟩,trivial⟩,rfl,Nat.le_of_ble_eq_true rfl⟩
theorem zqO{X Y:Type}{body:X→Option (Sum X Y)}{p:X→Prop}{q:Y→Prop}(h1:∀x y,p x→body x=some (.inl y)→p y)(h2:∀x y,p x→body x=some (.inr y)→q y):∀{n:Nat} {x:X} {y:Y},p x→zjk body n x=some y→q y
 | 0,_,_,_,h=>by cases h
 |n+1,x,y,hp,h=>by
  unfold zjk at h
  split at h
  ·rename_i x' hx;exact zqO h1 h2 (h1 x x' hp hx) h
  ·rename_i z hx;cases h;exact h2 x _ hp hx
  ·cases h
theorem zyK{l r:List (List UInt8)}(h:zbE l=some r):r.length=l.length:=by
 obtain ⟨o,ho,h⟩:=bs h
 obtain ⟨n,ho⟩:=zl3 ho
 have:=zqO (p:=fun z=>z.1.length=l.length) (q:=fun o=>∀r',zI o (fun b=>zfu b) some=some r'→r'.length=l.length) (fun z y hp hb=>?_) (fun z y hp hb r' hr=>?_) (by exact rfl) ho r h
 ·exact this
 ·unfold zag at hb
  cases hc:decide (z.2.1<z.2.2) with
  |false=>rw [hc] at hb;cases hb
  |true =>
   rw [hc] at hb
   obtain ⟨_,_,hb⟩:=bs hb
   obtain ⟨_,_,hb⟩:=bs hb
   obtain ⟨_,_,hb⟩:=bs hb
   obtain ⟨_,_,hb⟩:=bs hb
   cases hb
   simpa using hp
 ·unfold zag at hb
  cases hc:decide (z.2.1<z.2.2) with
  |true =>
   rw [hc] at hb
   obtain ⟨_,_,hb⟩:=bs hb
   obtain ⟨_,_,hb⟩:=bs hb
   obtain ⟨_,_,hb⟩:=bs hb
   obtain ⟨_,_,hb⟩:=bs hb
   cases hb
  |false =>
   rw [hc] at hb
   cases hb
   cases hr
   exact hp
def zlz(v19:List za):Option ((List za)):=
 some v19
def zbL(v1:List za)(v2:List (List UInt8×Int))(v8:(List (List UInt8)))(v14:List za)(v15:Int):Option (Sum ((List za)×Int) (Sum ((List za)) ((List za)))):=
 cond (decide (v15<((List.length v8):Int))) ((idx v8 v15).bind fun v16=>(zz v1 v2 v16).bind fun v17=>(zgT 112 v14 [v17.1]).bind fun v18=>some (.inl (v18,(IntKind.i64.wrap (v15+1))))) (some (.inr (.inl v14)))
def zeN(v1:List za)(v2:List (List UInt8×Int))(v3:List (List UInt8))(v4:List (List UInt8))(v5:List (List UInt8))(v6:List UInt8):Option ((List za)):=
 (zak v1 v2 v6).bind fun v7=>(zbE v7).bind fun v8=>(zm (fun z=>zbL v1 v2 v8 z.1 z.2) ([],0)).bind fun o=>zI o (fun b=>zlz b) some
theorem zih(v1:List za)(v2:List (List UInt8×Int))(v3:List (List UInt8))(v4:List (List UInt8))(v5:List (List UInt8))(v6:List UInt8){r:(List za)}(h:zeN v1 v2 v3 v4 v5 v6=some r):SC Tryz.prog 135 [.ipt 4 [[.ipt 2 [[.isl 6 (List.map zc v1),.imp (List.map (rKV (fun x=>iA x)) v2)]] 0 0,.isl 1 (List.map zn v3),.isl 1 (List.map zn v4),.isl 1 (List.map zn v5)]] 0 0,sA v6] [] (.msl 0 0 (List.length r)) [.many 6 (List.map zc r)]:=by
 refine ⟨⟨zg0 (sz:=6) (fun _=>rfl),trivial⟩,zai Tryz.func135 rfl (by kernel_rfl) rfl ?_⟩
 refine A ?_
 refine zh<|A ?_
 refine zhY rfl (fun hx=>by cases hx) (fun _=>?_)
 refine zf<|A ?_
 obtain ⟨v7,q1,h⟩:=bs h
 refine A ?_
 refine u<|sc [] (zaE v1 v2 v6 q1) rfl rfl rfl rfl ⟨(rnI rfl),(rnI rfl),trivial⟩ trivial<|zL (env0:=[(0,.ipt 4 [[.ipt 2 [[.isl 6 (List.map zc v1),.imp (List.map (rKV (fun x=>iA x)) v2)]] 0 0,.isl 1 (List.map zn v3),.isl 1 (List.map zn v4),.isl 1 (List.map zn v5)]] 0 0),(5,.lit (.slice none 0 0)),(18,.msl 0 0 (List.length v7))]) (st0:=[some (1,List.map zn v7)]) ⟨[.old 0],ce rfl rfl<|ce rfl rfl<|cv rfl (.msl rfl)<|cn,rfl,⟨⟨_,rfl,zP (fun _=>rfl)⟩,trivial⟩,rfl,Nat.le_of_ble_eq_true rfl⟩<|A ?_
 obtain ⟨v8,q2,h⟩:=bs h
 refine rg rfl<|u<|mv rfl<|u<|sc [0] (zhX v7 q2) rfl rfl rfl rfl ⟨(.msl rfl),trivial⟩ ⟨⟨rfl,mkI (fun _=>rfl)⟩,trivial⟩<|zL (env0:=[(0,.ipt 4 [[.ipt 2 [[.isl 6 (List.map zc v1),.imp (List.map (rKV (fun x=>iA x)) v2)]] 0 0,.isl 1 (List.map zn v3),.isl 1 (List.map zn v4),.isl 1 (List.map zn v5)]] 0 0),(5,.lit (.slice none 0 0)),(6,.msl 0 0 (List.length v8))]) (st0:=[some (1,List.map zn v8)]) ⟨[.old 0],ce rfl rfl<|ce rfl rfl<|cv rfl (zDQ (by first |exact zyK q2 |exact (zyK q2).symm) rfl)<|cn,rfl,⟨⟨_,rfl,zP (fun _=>rfl)⟩,trivial⟩,rfl,Nat.le_of_ble_eq_true rfl⟩<|zJ ?_
 refine zh<|A ?_
 obtain ⟨o,ho,h⟩:=bs h
 refine lpB ho (fun z=>[(0,.ipt 4 [[.ipt 2 [[.isl 6 (List.map zc v1),.imp (List.map (rKV (fun x=>iA x)) v2)]] 0 0,.isl 1 (List.map zn v3),.isl 1 (List.map zn v4),.isl 1 (List.map zn v5)]] 0 0),(5,.msl 0 0 (List.length z.1)),(21,.msl 1 0 (List.length v8)),(22,iA ((List.length v8):Int)),(23,iA z.2)]) (fun z=>[some (6,List.map zc z.1),some (1,List.map zn v8)]) (fun b=>[(5,.msl 0 0 (List.length b))]) (fun b=>[some (6,List.map zc b)]) (pF Tryz.f135 (fun r=>.msl 0 0 (List.length r)) fun r=>[some (6,List.map zc r)]) ⟨[.fresh 6,.old 0],ce rfl rfl<|cv rfl (.nilown rfl)<|cv rfl (.msl rfl)<|ce rfl rfl<|ce rfl rfl<|cn,rfl,⟨⟨rfl,rfl⟩,⟨_,rfl,zP (fun _=>rfl)⟩,trivial⟩,rfl,Nat.le_of_ble_eq_true rfl⟩ ?_ ?_
 ·rintro ⟨v14,v15⟩ r h
  refine A ?_
  refine zh ?_
  refine zeh h rfl (fun hc7 h=>?_) fun hc7 h=>?_
  ·refine zf<|zh<|zp ?_
   obtain ⟨v16,q8,h⟩:=bs h
   refine A ?_
   obtain ⟨v17,q9,h⟩:=bs h
   refine A ?_
   obtain ⟨v18,q10,h⟩:=bs h
   refine A ?_
   refine u<|apM 4 ti rfl ti rfl rfl (by decide) ti rfl rfl rfl rfl (roX (f:=zc) (z:=[v17.1]) rfl rfl) (fun _=>rfl) rfl q10<|A ?_
   refine A ?_
   obtain rfl:=sm h
   exact ⟨_,rfl,[.old 4,.old 1],ce rfl rfl<|cv rfl (.msl rfl)<|cv rfl (.msl rfl)<|ce rfl rfl<|ce rfl rfl<|cn,rfl,⟨⟨_,rfl,zP (fun _=>rfl)⟩,⟨_,rfl,zP (fun _=>rfl)⟩,trivial⟩,rfl,Nat.le_of_ble_eq_true rfl⟩
  ·refine zG ?_
   obtain rfl:=sm h
   exact ⟨rfl,_,rfl,[.old 0],cv rfl (.msl rfl)<|cn,rfl,⟨⟨_,rfl,zP (fun _=>rfl)⟩,trivial⟩,rfl,Nat.le_of_ble_eq_true rfl⟩
 ·rintro v19 rfl
  refine zv<|A ?_
  exact RT1
def zkz(v44:List (List UInt8)):Option ((List (List UInt8))):=
 some v44
def zk2(v27:Int)(v43:List (List UInt8)):Option (Sum ((List (List UInt8))×Int) (Sum ((List (List UInt8))) ((List (List UInt8))))):=
 some (.inl (v43,(IntKind.i64.wrap (v27+1))))
def zeu(v37:Int)(v42:List (List UInt8)):Option (Sum ((List (List UInt8))×Int) (Sum ((List (List UInt8))) ((List (List UInt8))))):=
 some (.inl (v42,(IntKind.i64.wrap (v37+1))))
def zbr(v28:za)(v36:List (List UInt8))(v37:Int):Option (Sum ((List (List UInt8))×Int) (Sum ((List (List UInt8))) ((List (List UInt8))))):=
 cond (decide (v37<(List.length v28.Fields:Int))) ((idx v28.Fields v37).bind fun v38=>cond (!v38.Static) ((zqF v28.Name [46]).bind fun v39=>(zqF v39 v38.Name).bind fun v40=>(zgT 16 v36 [v40]).bind fun v41=>zeu v37 v41) (zeu v37 v36)) (some (.inr (.inl v36)))
def zbs(v7:(List za))(v26:List (List UInt8))(v27:Int):Option (Sum ((List (List UInt8))×Int) (Sum ((List (List UInt8))) ((List (List UInt8))))):=
 cond (decide (v27<((List.length v7):Int))) ((idx v7 v27).bind fun v28=>(zm (fun z=>zbr v28 z.1 z.2) (v26,0)).bind fun o=>zI o (fun b=>zk2 v27 b) (fun r=>some (.inr (.inr r)))) (some (.inr (.inl v26)))
def zcg(v1:List za)(v2:List (List UInt8×Int))(v3:List (List UInt8))(v4:List (List UInt8))(v5:List (List UInt8))(v6:List UInt8):Option ((List (List UInt8))):=
 (zeN v1 v2 v3 v4 v5 v6).bind fun v7=>(zm (fun z=>zbs v7 z.1 z.2) ([],0)).bind fun o=>zI o (fun b=>zkz b) some
theorem zb3(v1:List za)(v2:List (List UInt8×Int))(v3:List (List UInt8))(v4:List (List UInt8))(v5:List (List UInt8))(v6:List UInt8){r:(List (List UInt8))}(h:zcg v1 v2 v3 v4 v5 v6=some r):SC Tryz.prog 59 [.ipt 4 [[.ipt 2 [[.isl 6 (List.map zc v1),.imp (List.map (rKV (fun x=>iA x)) v2)]] 0 0,.isl 1 (List.map zn v3),.isl 1 (List.map zn v4),.isl 1 (List.map zn v5)]] 0 0,sA v6] [] (.msl 0 0 (List.length r)) [.many 1 (List.map zn r)]:=by
 refine ⟨⟨zg0 (sz:=1) (fun _=>rfl),trivial⟩,zai Tryz.func59 rfl (by kernel_rfl) rfl ?_⟩
 refine A ?_
 refine A ?_
 refine zh ?_
 obtain ⟨v7,q1,h⟩:=bs h
 refine A ?_
 refine u<|sc [] (zih v1 v2 v3 v4 v5 v6 q1) rfl rfl rfl rfl ⟨(rnI rfl),(rnI rfl),trivial⟩ trivial<|zL (env0:=[(5,.lit (.slice none 0 0)),(12,.msl 0 0 (List.length v7))]) (st0:=[some (6,List.map zc v7)]) ⟨[.old 0],ce rfl rfl<|cv rfl (.msl rfl)<|cn,rfl,⟨⟨_,rfl,zP (fun _=>rfl)⟩,trivial⟩,rfl,Nat.le_of_ble_eq_true rfl⟩<|A ?_
 obtain ⟨o,ho,h⟩:=bs h
 refine lpB ho (fun z=>[(5,.msl 0 0 (List.length z.1)),(12,.msl 1 0 (List.length v7)),(13,iA ((List.length v7):Int)),(14,iA z.2)]) (fun z=>[some (1,List.map zn z.1),some (6,List.map zc v7)]) (fun b=>[(5,.msl 0 0 (List.length b))]) (fun b=>[some (1,List.map zn b)]) (pF Tryz.f59 (fun r=>.msl 0 0 (List.length r)) fun r=>[some (1,List.map zn r)]) ⟨[.fresh 1,.old 0],cv rfl (.nilown rfl)<|cv rfl (.msl rfl)<|ce rfl rfl<|ce rfl rfl<|cn,rfl,⟨⟨rfl,rfl⟩,⟨_,rfl,zP (fun _=>rfl)⟩,trivial⟩,rfl,Nat.le_of_ble_eq_true rfl⟩ ?_ ?_
 ·rintro ⟨v26,v27⟩ r h
  refine A ?_
  refine zh ?_
  refine zeh h rfl (fun hc16 h=>?_) fun hc16 h=>?_
  ·refine zf<|zh<|zp ?_
   obtain ⟨v28,q17,h⟩:=bs h
   refine A ?_
   refine A ?_
   obtain ⟨o,ho,h⟩:=bs h
   refine lpS ho (fun z=>[(5,.msl 0 0 (List.length z.1)),(7,.mpt 1 0 0),(12,.msl 2 0 (List.length v7)),(13,iA ((List.length v7):Int)),(14,iA v27),(19,.isl 3 (List.map zD v28.Fields)),(20,iA (List.length v28.Fields:Int)),(21,iA z.2)]) (fun z=>[some (1,List.map zn z.1),some (6,[(zc v28)]),some (6,List.map zc v7)]) (fun b=>[(5,.msl 0 0 (List.length b)),(12,.msl 1 0 (List.length v7)),(13,iA ((List.length v7):Int)),(14,iA v27)]) (fun b=>[some (1,List.map zn b),some (6,List.map zc v7)]) (pF Tryz.f59 (fun r=>.msl 0 0 (List.length r)) fun r=>[some (1,List.map zn r)]) (zcs [.old 0,.old 2,.old 1]) ?_ ?_ ?_
   ·rintro ⟨v36,v37⟩ r h
    refine A ?_
    refine zh ?_
    refine zeh h rfl (fun hc24 h=>?_) fun hc24 h=>?_
    ·refine zf ?_
     refine zcX (X:=(List (List UInt8))) (fun z=>[(5,.msl 0 0 (List.length z)),(7,.mpt 1 0 0),(12,.msl 2 0 (List.length v7)),(13,iA ((List.length v7):Int)),(14,iA v27),(19,.isl 3 (List.map zD v28.Fields)),(20,iA (List.length v28.Fields:Int)),(21,iA v37)]) (fun z=>[some (1,List.map zn z),some (6,[(zc v28)]),some (6,List.map zc v7)]) (fun z=>zeu v37 z=some r) ?_ ?_
     ·refine zp ?_
      obtain ⟨v38,q25,h⟩:=bs h
      refine A ?_
      refine A ?_
      refine zeh h rfl (fun hc26 h=>?_) fun hc26 h=>?_
      ·obtain ⟨v39,q27,v40,q28,v41,q29,h⟩:=bs3 h
       refine A ?_
       refine u<|apM 5 ti rfl ti rfl rfl (by decide) ti rfl rfl rfl rfl (roX (f:=zn) (z:=[v40]) rfl rfl) (fun _=>rfl) rfl q29<|A ?_
       exact (⟨v41,h,[.old 5,.old 1,.old 2],cv rfl (.msl rfl)<|cv rfl (.mpt rfl)<|cv rfl (.msl rfl)<|ce rfl rfl<|ce rfl rfl<|ce rfl rfl<|ce rfl rfl<|ce rfl rfl<|cn,rfl,⟨⟨_,rfl,zP (fun _=>rfl)⟩,⟨_,rfl,zbV (ciL rfl)⟩,⟨_,rfl,zP (fun _=>rfl)⟩,trivial⟩,rfl,Nat.le_of_ble_eq_true rfl⟩)
      ·refine zf ?_
       exact ⟨v36,h,[.old 0,.old 1,.old 2],cv rfl (.msl rfl)<|cv rfl (.mpt rfl)<|cv rfl (.msl rfl)<|ce rfl rfl<|ce rfl rfl<|ce rfl rfl<|ce rfl rfl<|ce rfl rfl<|cn,rfl,⟨⟨_,rfl,zP (fun _=>rfl)⟩,⟨_,rfl,zbV (ciL rfl)⟩,⟨_,rfl,zP (fun _=>rfl)⟩,trivial⟩,rfl,Nat.le_of_ble_eq_true rfl⟩
     ·rintro v42 h
      refine A ?_
      obtain rfl:=sm h
      exact ⟨_,rfl,[.old 0,.old 1,.old 2],cv rfl (.msl rfl)<|cv rfl (.mpt rfl)<|cv rfl (.msl rfl)<|ce rfl rfl<|ce rfl rfl<|ce rfl rfl<|ce rfl rfl<|ce rfl rfl<|cn,rfl,⟨⟨_,rfl,zP (fun _=>rfl)⟩,⟨_,rfl,zbV (ciL rfl)⟩,⟨_,rfl,zP (fun _=>rfl)⟩,trivial⟩,rfl,Nat.le_of_ble_eq_true rfl⟩
    ·refine zG ?_
     obtain rfl:=sm h
     exact ⟨rfl,_,rfl,[.old 0,.old 2],cv rfl (.msl rfl)<|cv rfl (.msl rfl)<|ce rfl rfl<|ce rfl rfl<|cn,rfl,⟨⟨_,rfl,zP (fun _=>rfl)⟩,⟨_,rfl,zP (fun _=>rfl)⟩,trivial⟩,rfl,Nat.le_of_ble_eq_true rfl⟩
   ·rintro v43 rfl
    refine zv<|A ?_
    obtain rfl:=sm h
    exact ⟨_,rfl,[.old 0,.old 1],cv rfl (.msl rfl)<|cv rfl (.msl rfl)<|ce rfl rfl<|ce rfl rfl<|cn,rfl,⟨⟨_,rfl,zP (fun _=>rfl)⟩,⟨_,rfl,zP (fun _=>rfl)⟩,trivial⟩,rfl,Nat.le_of_ble_eq_true rfl⟩
   ·rintro r' rfl env st hp
    obtain rfl:=sm h
    exact ⟨_,rfl,hp⟩
  ·refine zG ?_
   obtain rfl:=sm h
   exact ⟨rfl,_,rfl,[.old 0],cv rfl (.msl rfl)<|cn,rfl,⟨⟨_,rfl,zP (fun _=>rfl)⟩,trivial⟩,rfl,Nat.le_of_ble_eq_true rfl⟩
 ·rintro v44 rfl
  refine zv<|A ?_
  exact RT1
def zho(v1:List za)(v2:List (List UInt8×Int))(v3:List (List UInt8))(v4:List (List UInt8))(v5:List (List UInt8))(v6:List UInt8)(v7:List UInt8):Option (Int):=
 (zgB v1 v2 v6 v7).bind fun v8=>(zcg v1 v2 v3 v4 v5 v6).bind fun v9=>(zqF v8.1 [46]).bind fun v10=>(zqF v10 v7).bind fun v11=>(zad v9 v11).bind fun v12=>some v12
theorem zif(v1:List za)(v2:List (List UInt8×Int))(v3:List (List UInt8))(v4:List (List UInt8))(v5:List (List UInt8))(v6:List UInt8)(v7:List UInt8){r:Int}(h:zho v1 v2 v3 v4 v5 v6 v7=some r):zaj Tryz.prog 57 [.ipt 4 [[.ipt 2 [[.isl 6 (List.map zc v1),.imp (List.map (rKV (fun x=>iA x)) v2)]] 0 0,.isl 1 (List.map zn v3),.isl 1 (List.map zn v4),.isl 1 (List.map zn v5)]] 0 0,sA v6,sA v7] (iA r):=by
 refine zj Tryz.func57 rfl (by kernel_rfl) rfl rfl<|A ?_
 refine zh<|A ?_
 refine zhY rfl (fun hx=>by cases hx) (fun _=>?_)
 refine zf ?_
 obtain ⟨v8,q1,h⟩:=bs h
 refine A ?_
 obtain ⟨v9,q2,v10,q3,v11,q4,v12,q5,h⟩:=bs4 h
 refine A ?_
 refine u<|sc [] (zb3 v1 v2 v3 v4 v5 v6 q2) rfl rfl rfl rfl ⟨(rnI rfl),(rnI rfl),trivial⟩ trivial<|zL (env0:=[(2,sA v7),(7,sA v8.1),(25,.msl 0 0 (List.length v9))]) (st0:=[some (1,List.map zn v9)]) ⟨[.old 1],ce rfl rfl<|ce rfl rfl<|cv rfl (.msl rfl)<|cn,rfl,⟨⟨_,rfl,zP (fun _=>rfl)⟩,trivial⟩,rfl,Nat.le_of_ble_eq_true rfl⟩<|A ?_
 refine u<|pcs (zaL v9 v11 q5) rfl rfl (.cons (zgN rfl (fun _=>rfl)) (.cons (si rfl) .nil)) zbQ<|A ?_
 exact RT0
instance (v1:List za)(v2:List (List UInt8×Int))(v3:List (List UInt8))(v4:List (List UInt8))(v5:List (List UInt8))(v6:List UInt8)(v7:List UInt8):PF Tryz.prog 57 [.ipt 4 [[.ipt 2 [[.isl 6 (List.map zc v1),.imp (List.map (rKV (fun x=>iA x)) v2)]] 0 0,.isl 1 (List.map zn v3),.isl 1 (List.map zn v4),.isl 1 (List.map zn v5)]] 0 0,sA v6,sA v7] (zho v1 v2 v3 v4 v5 v6 v7) iA:=⟨fun _=>zif v1 v2 v3 v4 v5 v6 v7⟩
def zky(v44:List (List UInt8)):Option ((List (List UInt8))):=
 some v44
def zk1(v27:Int)(v43:List (List UInt8)):Option (Sum ((List (List UInt8))×Int) (Sum ((List (List UInt8))) ((List (List UInt8))))):=
 some (.inl (v43,(IntKind.i64.wrap (v27+1))))
def zet(v37:Int)(v42:List (List UInt8)):Option (Sum ((List (List UInt8))×Int) (Sum ((List (List UInt8))) ((List (List UInt8))))):=
 some (.inl (v42,(IntKind.i64.wrap (v37+1))))
def zbp(v28:za)(v36:List (List UInt8))(v37:Int):Option (Sum ((List (List UInt8))×Int) (Sum ((List (List UInt8))) ((List (List UInt8))))):=
 cond (decide (v37<(List.length v28.Methods:Int))) ((idx v28.Methods v37).bind fun v38=>(cond ((!v38.Static)&&(!v38.Abstract)) ((zx v36 v38.Name).bind fun v39=>some (!v39)) (some false)).bind fun v40=>cond v40 ((zgT 16 v36 [v38.Name]).bind fun v41=>zet v37 v41) (zet v37 v36)) (some (.inr (.inl v36)))
def zbq(v7:(List za))(v26:List (List UInt8))(v27:Int):Option (Sum ((List (List UInt8))×Int) (Sum ((List (List UInt8))) ((List (List UInt8))))):=
 cond (decide (v27<((List.length v7):Int))) ((idx v7 v27).bind fun v28=>(zm (fun z=>zbp v28 z.1 z.2) (v26,0)).bind fun o=>zI o (fun b=>zk1 v27 b) (fun r=>some (.inr (.inr r)))) (some (.inr (.inl v26)))
def zc6(v1:List za)(v2:List (List UInt8×Int))(v3:List (List UInt8))(v4:List (List UInt8))(v5:List (List UInt8))(v6:List UInt8):Option ((List (List UInt8))):=
 (zeN v1 v2 v3 v4 v5 v6).bind fun v7=>(zm (fun z=>zbq v7 z.1 z.2) ([],0)).bind fun o=>zI o (fun b=>zky b) some
theorem zfZ(v1:List za)(v2:List (List UInt8×Int))(v3:List (List UInt8))(v4:List (List UInt8))(v5:List (List UInt8))(v6:List UInt8){r:(List (List UInt8))}(h:zc6 v1 v2 v3 v4 v5 v6=some r):SC Tryz.prog 61 [.ipt 4 [[.ipt 2 [[.isl 6 (List.map zc v1),.imp (List.map (rKV (fun x=>iA x)) v2)]] 0 0,.isl 1 (List.map zn v3),.isl 1 (List.map zn v4),.isl 1 (List.map zn v5)]] 0 0,sA v6] [] (.msl 0 0 (List.length r)) [.many 1 (List.map zn r)]:=by
 refine ⟨⟨zg0 (sz:=1) (fun _=>rfl),trivial⟩,zai Tryz.func61 rfl (by kernel_rfl) rfl ?_⟩
 refine A ?_
 refine A ?_
 refine zh ?_
 obtain ⟨v7,q1,h⟩:=bs h
 refine A ?_
 refine u<|sc [] (zih v1 v2 v3 v4 v5 v6 q1) rfl rfl rfl rfl ⟨(rnI rfl),(rnI rfl),trivial⟩ trivial<|zL (env0:=[(5,.lit (.slice none 0 0)),(12,.msl 0 0 (List.length v7))]) (st0:=[some (6,List.map zc v7)]) ⟨[.old 0],ce rfl rfl<|cv rfl (.msl rfl)<|cn,rfl,⟨⟨_,rfl,zP (fun _=>rfl)⟩,trivial⟩,rfl,Nat.le_of_ble_eq_true rfl⟩<|A ?_
 obtain ⟨o,ho,h⟩:=bs h
 refine lpB ho (fun z=>[(5,.msl 0 0 (List.length z.1)),(12,.msl 1 0 (List.length v7)),(13,iA ((List.length v7):Int)),(14,iA z.2)]) (fun z=>[some (1,List.map zn z.1),some (6,List.map zc v7)]) (fun b=>[(5,.msl 0 0 (List.length b))]) (fun b=>[some (1,List.map zn b)]) (pF Tryz.f61 (fun r=>.msl 0 0 (List.length r)) fun r=>[some (1,List.map zn r)]) ⟨[.fresh 1,.old 0],cv rfl (.nilown rfl)<|cv rfl (.msl rfl)<|ce rfl rfl<|ce rfl rfl<|cn,rfl,⟨⟨rfl,rfl⟩,⟨_,rfl,zP (fun _=>rfl)⟩,trivial⟩,rfl,Nat.le_of_ble_eq_true rfl⟩ ?_ ?_
 ·rintro ⟨v26,v27⟩ r h
  refine A ?_
  refine zh ?_
  refine zeh h rfl (fun hc20 h=>?_) fun hc20 h=>?_
  ·refine zf<|zh<|zp ?_
   obtain ⟨v28,q21,h⟩:=bs h
   refine A ?_
   refine A ?_
   obtain ⟨o,ho,h⟩:=bs h
   refine lpS ho (fun z=>[(5,.msl 0 0 (List.length z.1)),(12,.msl 1 0 (List.length v7)),(13,iA ((List.length v7):Int)),(14,iA v27),(19,.isl 10 (List.map zd v28.Methods)),(20,iA (List.length v28.Methods:Int)),(21,iA z.2)]) (fun z=>[some (1,List.map zn z.1),some (6,List.map zc v7)]) (fun b=>[(5,.msl 0 0 (List.length b)),(12,.msl 1 0 (List.length v7)),(13,iA ((List.length v7):Int)),(14,iA v27)]) (fun b=>[some (1,List.map zn b),some (6,List.map zc v7)]) (pF Tryz.f61 (fun r=>.msl 0 0 (List.length r)) fun r=>[some (1,List.map zn r)]) (zcs [.old 0,.old 1]) ?_ ?_ ?_
   ·rintro ⟨v36,v37⟩ r h
    refine A ?_
    refine zh ?_
    refine zeh h rfl (fun hc30 h=>?_) fun hc30 h=>?_
    ·refine zf ?_
     refine zcX (X:=(List (List UInt8))) (fun z=>[(5,.msl 0 0 (List.length z)),(12,.msl 1 0 (List.length v7)),(13,iA ((List.length v7):Int)),(14,iA v27),(19,.isl 10 (List.map zd v28.Methods)),(20,iA (List.length v28.Methods:Int)),(21,iA v37)]) (fun z=>[some (1,List.map zn z),some (6,List.map zc v7)]) (fun z=>zet v37 z=some r) ?_ ?_
     ·refine zp ?_
      obtain ⟨v38,q31,h⟩:=bs h
      refine A ?_
      obtain ⟨v40,q35,h⟩:=bs h
      refine A ?_
      refine zik (x:=v40) (j:=8) 5 rfl rfl rfl rfl rfl gpn (fun hb33=>by replace q35:=bT hb33 q35;obtain ⟨v39,q34,q35⟩:=bs q35;obtain rfl:=sm q35;exact g rfl hb33<|mv rfl<|g rfl hb33<|fa ti rfl rfl rfl<|g rfl hb33<|ld ti rfl rfl<|g rfl hb33<|pcs (zW v36 v38.Name q34) rfl rfl (.cons (zgN rfl (fun _=>rfl)) (.cons (si rfl) .nil)) zbQ<|g rfl hb33<|nt rfl<|zJ (eg [34,35,36,37,38] 5 rfl rfl rfl rfl)) (fun hb=>(sm (bF hb q35)).symm)<|zJ ?_
      refine zeh h rfl (fun hc36 h=>?_) fun hc36 h=>?_
      ·obtain ⟨v41,q37,h⟩:=bs h
       refine A ?_
       refine u<|apM 4 ti rfl ti rfl rfl (by decide) ti rfl rfl rfl rfl (roX (f:=zn) (z:=[v38.Name]) rfl rfl) (fun _=>rfl) rfl q37<|A ?_
       exact (⟨v41,h,[.old 4,.old 1],cv rfl (.msl rfl)<|cv rfl (.msl rfl)<|ce rfl rfl<|ce rfl rfl<|ce rfl rfl<|ce rfl rfl<|ce rfl rfl<|cn,rfl,⟨⟨_,rfl,zP (fun _=>rfl)⟩,⟨_,rfl,zP (fun _=>rfl)⟩,trivial⟩,rfl,Nat.le_of_ble_eq_true rfl⟩)
      ·refine zf ?_
       exact ⟨v36,h,[.old 0,.old 1],cv rfl (.msl rfl)<|cv rfl (.msl rfl)<|ce rfl rfl<|ce rfl rfl<|ce rfl rfl<|ce rfl rfl<|ce rfl rfl<|cn,rfl,⟨⟨_,rfl,zP (fun _=>rfl)⟩,⟨_,rfl,zP (fun _=>rfl)⟩,trivial⟩,rfl,Nat.le_of_ble_eq_true rfl⟩
     ·rintro v42 h
      refine A ?_
      obtain rfl:=sm h
      exact ⟨_,rfl,[.old 0,.old 1],cv rfl (.msl rfl)<|cv rfl (.msl rfl)<|ce rfl rfl<|ce rfl rfl<|ce rfl rfl<|ce rfl rfl<|ce rfl rfl<|cn,rfl,⟨⟨_,rfl,zP (fun _=>rfl)⟩,⟨_,rfl,zP (fun _=>rfl)⟩,trivial⟩,rfl,Nat.le_of_ble_eq_true rfl⟩
    ·refine zG ?_
     obtain rfl:=sm h
     exact ⟨rfl,_,rfl,[.old 0,.old 1],cv rfl (.msl rfl)<|cv rfl (.msl rfl)<|ce rfl rfl<|ce rfl rfl<|cn,rfl,⟨⟨_,rfl,zP (fun _=>rfl)⟩,⟨_,rfl,zP (fun _=>rfl)⟩,trivial⟩,rfl,Nat.le_of_ble_eq_true rfl⟩
   ·rintro v43 rfl
    refine zv<|A ?_
    obtain rfl:=sm h
    exact ⟨_,rfl,[.old 0,.old 1],cv rfl (.msl rfl)<|cv rfl (.msl rfl)<|ce rfl rfl<|ce rfl rfl<|cn,rfl,⟨⟨_,rfl,zP (fun _=>rfl)⟩,⟨_,rfl,zP (fun _=>rfl)⟩,trivial⟩,rfl,Nat.le_of_ble_eq_true rfl⟩
   ·rintro r' rfl env st hp
    obtain rfl:=sm h
    exact ⟨_,rfl,hp⟩
  ·refine zG ?_
   obtain rfl:=sm h
   exact ⟨rfl,_,rfl,[.old 0],cv rfl (.msl rfl)<|cn,rfl,⟨⟨_,rfl,zP (fun _=>rfl)⟩,trivial⟩,rfl,Nat.le_of_ble_eq_true rfl⟩
 ·rintro v44 rfl
  refine zv<|A ?_
  exact RT1
def zf5(v1:List za)(v2:List (List UInt8×Int))(v3:List (List UInt8))(v4:List (List UInt8))(v5:List (List UInt8))(v6:List UInt8)(v7:List UInt8):Option (Int):=
 (zc6 v1 v2 v3 v4 v5 v6).bind fun v8=>(zad v8 v7).bind fun v9=>some v9
theorem zgk(v1:List za)(v2:List (List UInt8×Int))(v3:List (List UInt8))(v4:List (List UInt8))(v5:List (List UInt8))(v6:List UInt8)(v7:List UInt8){r:Int}(h:zf5 v1 v2 v3 v4 v5 v6 v7=some r):zaj Tryz.prog 58 [.ipt 4 [[.ipt 2 [[.isl 6 (List.map zc v1),.imp (List.map (rKV (fun x=>iA x)) v2)]] 0 0,.isl 1 (List.map zn v3),.isl 1 (List.map zn v4),.isl 1 (List.map zn v5)]] 0 0,sA v6,sA v7] (iA r):=by
 refine zj Tryz.func58 rfl (by kernel_rfl) rfl rfl<|A ?_
 obtain ⟨v8,q1,v9,q2,h⟩:=bs2 h
 refine A ?_
 refine u<|sc [] (zfZ v1 v2 v3 v4 v5 v6 q1) rfl rfl rfl rfl ⟨(rnI rfl),(rnI rfl),trivial⟩ trivial<|zL (env0:=[(2,sA v7),(9,.msl 0 0 (List.length v8))]) (st0:=[some (1,List.map zn v8)]) ⟨[.old 0],ce rfl rfl<|cv rfl (.msl rfl)<|cn,rfl,⟨⟨_,rfl,zP (fun _=>rfl)⟩,trivial⟩,rfl,Nat.le_of_ble_eq_true rfl⟩<|u<|mv rfl<|u<|pcs (zaL v8 v7 q2) rfl rfl (.cons (zgN rfl (fun _=>rfl)) (.cons (si rfl) .nil)) zbQ<|A ?_
 exact RT0
instance (v1:List za)(v2:List (List UInt8×Int))(v3:List (List UInt8))(v4:List (List UInt8))(v5:List (List UInt8))(v6:List UInt8)(v7:List UInt8):PF Tryz.prog 58 [.ipt 4 [[.ipt 2 [[.isl 6 (List.map zc v1),.imp (List.map (rKV (fun x=>iA x)) v2)]] 0 0,.isl 1 (List.map zn v3),.isl 1 (List.map zn v4),.isl 1 (List.map zn v5)]] 0 0,sA v6,sA v7] (zf5 v1 v2 v3 v4 v5 v6 v7) iA:=⟨fun _=>zgk v1 v2 v3 v4 v5 v6 v7⟩
def zkw:Option (Bool):=
 (zeI ([(za.mk [70,97,99,101] [79,98,106,101,99,116] true [] [] ([(zb.mk [102] [] [73] false true 0 0 [] [] [])])),(za.mk [65,97] [79,98,106,101,99,116] false ([[70,97,99,101]]) ([(zi.mk [120] [73] false),(zi.mk [115] [73] true)]) ([(zb.mk [102] [] [73] false false 1 1 ([(zl.mk 1 5 [] []),(zl.mk 47 0 [] [])]) [] [])])),(za.mk [66,98] [65,97] false [] ([(zi.mk [121] [91,65,97] false)]) ([(zb.mk [109,97,105,110] [] [86] true false 0 0 ([(zl.mk 46 0 [] [])]) [] [])]))]) (zaM.mk [66,98] [109,97,105,110])).bind fun v1=>cond (!(v1.2 == (0:Int))) (some false) ((ziS v1.1).bind fun v2=>(zm2).bind fun v3=>cond v3 ((zg5 v2.1 v2.2.1 v2.2.2.1 v2.2.2.2.1 v2.2.2.2.2).bind fun v4=>cond (((List.length v4):Int) == (15:Int)) ((zf6 v2.1 v2.2.1 v2.2.2.1 v2.2.2.2.1 v2.2.2.2.2 [91,65,97]).bind fun v6=>cond (v6 == (14:Int)) ((zf6 v2.1 v2.2.1 v2.2.2.1 v2.2.2.2.1 v2.2.2.2.2 [90,122]).bind fun v8=>cond (v8 == ((-1):Int)) ((zgj v2.1 v2.2.1 v2.2.2.1 v2.2.2.2.1 v2.2.2.2.2).bind fun v10=>(zhc v10 ([[70,97,99,101,46,102],[65,97,46,102],[66,98,46,109,97,105,110]])).bind fun v11=>cond v11 ((zgI v2.1 v2.2.1 v2.2.2.1 v2.2.2.2.1 v2.2.2.2.2 [66,98] [102]).bind fun v12=>cond (v12 == ((-1):Int)) ((zgJ v2.1 v2.2.1 v2.2.2.1 v2.2.2.2.1 v2.2.2.2.2 [65,97] [115]).bind fun v14=>cond (v14 == (0:Int)) ((zcg v2.1 v2.2.1 v2.2.2.1 v2.2.2.2.1 v2.2.2.2.2 [66,98]).bind fun v16=>(zhc v16 ([[65,97,46,120],[66,98,46,121]])).bind fun v17=>cond v17 ((zho v2.1 v2.2.1 v2.2.2.1 v2.2.2.2.1 v2.2.2.2.2 [66,98] [121]).bind fun v18=>cond (v18 == (1:Int)) ((zf5 v2.1 v2.2.1 v2.2.2.1 v2.2.2.2.1 v2.2.2.2.2 [66,98] [102]).bind fun v20=>cond (v20 == (0:Int)) ((zf5 v2.1 v2.2.1 v2.2.2.1 v2.2.2.2.1 v2.2.2.2.2 [66,98] [109,97,105,110]).bind fun v22=>some (v22 == ((-1):Int))) (some false)) (some false)) (some false)) (some false)) (some false)) (some false)) (some false)) (some false)) (some false)) (some false))
theorem zqh{r:Bool}(h:zkw=some r):zaj Tryz.prog 40 [] (bA r):=by
 refine zj Tryz.func40 rfl (by kernel_rfl) rfl rfl<|A ?_
 obtain ⟨v1,q1,h⟩:=bs h
 refine rg rfl<|u<|sc [] (zhN rfl) rfl rfl rfl rfl trivial trivial<|u<|bd ti rfl rfl rfl<|zL (env0:=[(5,.isl 6 (List.map zc ([(za.mk [70,97,99,101] [79,98,106,101,99,116] true [] [] ([(zb.mk [102] [] [73] false true 0 0 [] [] [])])),(za.mk [65,97] [79,98,106,101,99,116] false ([[70,97,99,101]]) ([(zi.mk [120] [73] false),(zi.mk [115] [73] true)]) ([(zb.mk [102] [] [73] false false 1 1 ([(zl.mk 1 5 [] []),(zl.mk 47 0 [] [])]) [] [])])),(za.mk [66,98] [65,97] false [] ([(zi.mk [121] [91,65,97] false)]) ([(zb.mk [109,97,105,110] [] [86] true false 0 0 ([(zl.mk 46 0 [] [])]) [] [])]))]))),(6,.agg [sA [66,98],sA [109,97,105,110]])]) (st0:=[]) ⟨[],cv rfl (zgq rfl rfl ⟨⟨⟨ci rfl,ci rfl,ci rfl,.nil,.nil,zgq rfl rfl ⟨⟨⟨ci rfl,.nil,ci rfl,ci rfl,ci rfl,ci rfl,ci rfl,.nil,.nil,.nil,trivial⟩,rfl⟩,trivial⟩,trivial⟩,rfl⟩,⟨⟨ci rfl,ci rfl,ci rfl,zgq rfl rfl ⟨⟨⟨ci rfl,trivial⟩,rfl⟩,trivial⟩,zgq rfl rfl ⟨⟨⟨ci rfl,ci rfl,ci rfl,trivial⟩,rfl⟩,⟨⟨ci rfl,ci rfl,ci rfl,trivial⟩,rfl⟩,trivial⟩,zgq rfl rfl ⟨⟨⟨ci rfl,.nil,ci rfl,ci rfl,ci rfl,ci rfl,ci rfl,zgq rfl rfl ⟨⟨⟨ci rfl,ci rfl,ci rfl,ci rfl,trivial⟩,rfl⟩,⟨⟨ci rfl,ci rfl,ci rfl,ci rfl,trivial⟩,rfl⟩,trivial⟩,.nil,.nil,trivial⟩,rfl⟩,trivial⟩,trivial⟩,rfl⟩,⟨⟨ci rfl,ci rfl,ci rfl,.nil,zgq rfl rfl ⟨⟨⟨ci rfl,ci rfl,ci rfl,trivial⟩,rfl⟩,trivial⟩,zgq rfl rfl ⟨⟨⟨ci rfl,.nil,ci rfl,ci rfl,ci rfl,ci rfl,ci rfl,zgq rfl rfl ⟨⟨⟨ci rfl,ci rfl,ci rfl,ci rfl,trivial⟩,rfl⟩,trivial⟩,.nil,.nil,trivial⟩,rfl⟩,trivial⟩,trivial⟩,rfl⟩,trivial⟩)<|ce rfl rfl<|cn,rfl,trivial,rfl,Nat.le_of_ble_eq_true rfl⟩<|u<|pc (zff ([(za.mk [70,97,99,101] [79,98,106,101,99,116] true [] [] ([(zb.mk [102] [] [73] false true 0 0 [] [] [])])),(za.mk [65,97] [79,98,106,101,99,116] false ([[70,97,99,101]]) ([(zi.mk [120] [73] false),(zi.mk [115] [73] true)]) ([(zb.mk [102] [] [73] false false 1 1 ([(zl.mk 1 5 [] []),(zl.mk 47 0 [] [])]) [] [])])),(za.mk [66,98] [65,97] false [] ([(zi.mk [121] [91,65,97] false)]) ([(zb.mk [109,97,105,110] [] [86] true false 0 0 ([(zl.mk 46 0 [] [])]) [] [])]))]) (zaM.mk [66,98] [109,97,105,110]) q1) rfl rfl rfl<|A ?_
 refine zh<|A ?_
 refine zeh h rfl (fun hc2 h=>?_) fun hc2 h=>?_
 ·refine A ?_
  exact RT0
 ·refine zf ?_
  obtain ⟨v2,q3,h⟩:=bs h
  refine rg rfl<|u<|mv rfl<|u<|sc [] (znH v1.1 q3) rfl rfl rfl rfl ⟨(rnI (zp6 (fun _=>rfl))),trivial⟩ trivial<|A ?_
  obtain ⟨v3,q4,h⟩:=bs h
  refine rg rfl<|u<|pc (zmv q4) rfl rfl rfl<|u<|mv rfl<|?_
  rcases v3 with _ |_
  ·replace h:=bF rfl h
   refine zo (ze (b:=false) rfl)<|zo (ze (b:=false) rfl)<|zo (ze (b:=false) rfl)<|zo (ze (b:=false) rfl)<|u<|pk (b:=false) rfl rfl<|u<|mv rfl<|zo (ze (b:=false) rfl)<|zo (ze (b:=false) rfl)<|zo (ze (b:=false) rfl)<|u<|pk (b:=false) rfl rfl<|u<|mv rfl<|zo (ze (b:=false) rfl)<|zo (ze (b:=false) rfl)<|zo (ze (b:=false) rfl)<|u<|pk (b:=false) rfl rfl<|u<|mv rfl<|zo (ze (b:=false) rfl)<|zo (ze (b:=false) rfl)<|zo (ze (b:=false) rfl)<|zo (ze (b:=false) rfl)<|u<|pk (b:=false) rfl rfl<|u<|mv rfl<|zo (ze (b:=false) rfl)<|zo (ze (b:=false) rfl)<|zo (ze (b:=false) rfl)<|u<|pk (b:=false) rfl rfl<|u<|mv rfl<|zo (ze (b:=false) rfl)<|zo (ze (b:=false) rfl)<|zo (ze (b:=false) rfl)<|u<|pk (b:=false) rfl rfl<|u<|mv rfl<|zo (ze (b:=false) rfl)<|zo (ze (b:=false) rfl)<|zo (ze (b:=false) rfl)<|zo (ze (b:=false) rfl)<|u<|pk (b:=false) rfl rfl<|u<|mv rfl<|zo (ze (b:=false) rfl)<|zo (ze (b:=false) rfl)<|zo (ze (b:=false) rfl)<|u<|pk (b:=false) rfl rfl<|u<|mv rfl<|zo (ze (b:=false) rfl)<|zo (ze (b:=false) rfl)<|zo (ze (b:=false) rfl)<|u<|pk (b:=false) rfl rfl<|u<|mv rfl<|zo (ze (b:=false) rfl)<|zo (ze (b:=false) rfl)<|zo (ze (b:=false) rfl)<|u<|pk (b:=false) rfl rfl<|u<|asg rfl<|zJ ?_
   exact RT0
  ·replace h:=bT rfl h
   obtain ⟨v4,q5,h⟩:=bs h
   refine g rfl rfl<|mv rfl<|zL (env0:=[(3,.ipt 4 [[.ipt 2 [[.isl 6 (List.map zc v2.1),.imp (List.map (rKV (fun x=>iA x)) v2.2.1)]] 0 0,.isl 1 (List.map zn v2.2.2.1),.isl 1 (List.map zn v2.2.2.2.1),.isl 1 (List.map zn v2.2.2.2.2)]] 0 0),(15,bA true),(16,.ipt 4 [[.ipt 2 [[.isl 6 (List.map zc v2.1),.imp (List.map (rKV (fun x=>iA x)) v2.2.1)]] 0 0,.isl 1 (List.map zn v2.2.2.1),.isl 1 (List.map zn v2.2.2.2.1),.isl 1 (List.map zn v2.2.2.2.2)]] 0 0)]) (st0:=[]) ⟨[],cv rfl (zEo rfl rfl ⟨(ci rfl),(zhD rfl rfl (fun _=>rfl)),(zhD rfl rfl (fun _=>rfl)),(zhD rfl rfl (fun _=>rfl)),trivial⟩ rfl)<|ce rfl rfl<|cv rfl (zEo rfl rfl ⟨(ci rfl),(zhD rfl rfl (fun _=>rfl)),(zhD rfl rfl (fun _=>rfl)),(zhD rfl rfl (fun _=>rfl)),trivial⟩ rfl)<|cn,rfl,trivial,rfl,Nat.le_of_ble_eq_true rfl⟩<|g rfl rfl<|sc [] (zhC v2.1 v2.2.1 v2.2.2.1 v2.2.2.2.1 v2.2.2.2.2 q5) rfl rfl rfl rfl ⟨(rnI rfl),trivial⟩ trivial<|g rfl rfl<|lnM ti rfl rfl rfl<|g rfl rfl<|eql ti rfl rfl<|u<|pk (b:=true) rfl rfl<|u<|mv rfl<|?_
   generalize (((List.length v4):Int) == (15:Int))=v5 at h ⊢
   rcases v5 with _ |_
   ·replace h:=bF rfl h
    refine zo (ze (b:=false) rfl)<|zo (ze (b:=false) rfl)<|zo (ze (b:=false) rfl)<|u<|pk (b:=false) rfl rfl<|u<|mv rfl<|zo (ze (b:=false) rfl)<|zo (ze (b:=false) rfl)<|zo (ze (b:=false) rfl)<|u<|pk (b:=false) rfl rfl<|u<|mv rfl<|zo (ze (b:=false) rfl)<|zo (ze (b:=false) rfl)<|zo (ze (b:=false) rfl)<|zo (ze (b:=false) rfl)<|u<|pk (b:=false) rfl rfl<|u<|mv rfl<|zo (ze (b:=false) rfl)<|zo (ze (b:=false) rfl)<|zo (ze (b:=false) rfl)<|u<|pk (b:=false) rfl rfl<|u<|mv rfl<|zo (ze (b:=false) rfl)<|zo (ze (b:=false) rfl)<|zo (ze (b:=false) rfl)<|u<|pk (b:=false) rfl rfl<|u<|mv rfl<|zo (ze (b:=false) rfl)<|zo (ze (b:=false) rfl)<|zo (ze (b:=false) rfl)<|zo (ze (b:=false) rfl)<|u<|pk (b:=false) rfl rfl<|u<|mv rfl<|zo (ze (b:=false) rfl)<|zo (ze (b:=false) rfl)<|zo (ze (b:=false) rfl)<|u<|pk (b:=false) rfl rfl<|u<|mv rfl<|zo (ze (b:=false) rfl)<|zo (ze (b:=false) rfl)<|zo (ze (b:=false) rfl)<|u<|pk (b:=false) rfl rfl<|u<|mv rfl<|zo (ze (b:=false) rfl)<|zo (ze (b:=false) rfl)<|zo (ze (b:=false) rfl)<|u<|pk (b:=false) rfl rfl<|u<|asg rfl<|zJ ?_
    exact RT0
   ·replace h:=bT rfl h
    obtain ⟨v6,q6,h⟩:=bs h
    refine g rfl rfl<|mv rfl<|g rfl rfl<|pc (zgl v2.1 v2.2.1 v2.2.2.1 v2.2.2.2.1 v2.2.2.2.2 [91,65,97] q6) rfl rfl rfl<|g rfl rfl<|eql ti rfl rfl<|u<|pk (b:=true) rfl rfl<|u<|mv rfl<|?_
    generalize (v6 == (14:Int))=v7 at h ⊢
    rcases v7 with _ |_
    ·replace h:=bF rfl h
     refine zo (ze (b:=false) rfl)<|zo (ze (b:=false) rfl)<|zo (ze (b:=false) rfl)<|u<|pk (b:=false) rfl rfl<|u<|mv rfl<|zo (ze (b:=false) rfl)<|zo (ze (b:=false) rfl)<|zo (ze (b:=false) rfl)<|zo (ze (b:=false) rfl)<|u<|pk (b:=false) rfl rfl<|u<|mv rfl<|zo (ze (b:=false) rfl)<|zo (ze (b:=false) rfl)<|zo (ze (b:=false) rfl)<|u<|pk (b:=false) rfl rfl<|u<|mv rfl<|zo (ze (b:=false) rfl)<|zo (ze (b:=false) rfl)<|zo (ze (b:=false) rfl)<|u<|pk (b:=false) rfl rfl<|u<|mv rfl<|zo (ze (b:=false) rfl)<|zo (ze (b:=false) rfl)<|zo (ze (b:=false) rfl)<|zo (ze (b:=false) rfl)<|u<|pk (b:=false) rfl rfl<|u<|mv rfl<|zo (ze (b:=false) rfl)<|zo (ze (b:=false) rfl)<|zo (ze (b:=false) rfl)<|u<|pk (b:=false) rfl rfl<|u<|mv rfl<|zo (ze (b:=false) rfl)<|zo (ze (b:=false) rfl)<|zo (ze (b:=false) rfl)<|u<|pk (b:=false) rfl rfl<|u<|mv rfl<|zo (ze (b:=false) rfl)<|zo (ze (b:=false) rfl)<|zo (ze (b:=false) rfl)<|u<|pk (b:=false) rfl rfl<|u<|asg rfl<|zJ ?_
     exact RT0
    ·replace h:=bT rfl h
     obtain ⟨v8,q7,h⟩:=bs h
     refine g rfl rfl<|mv rfl<|g rfl rfl<|pc (zgl v2.1 v2.2.1 v2.2.2.1 v2.2.2.2.1 v2.2.2.2.2 [90,122] q7) rfl rfl rfl<|g rfl rfl<|eql ti rfl rfl<|u<|pk (b:=true) rfl rfl<|u<|mv rfl<|?_
     generalize (v8 == ((-1):Int))=v9 at h ⊢
     rcases v9 with _ |_
     ·replace h:=bF rfl h
      refine zo (ze (b:=false) rfl)<|zo (ze (b:=false) rfl)<|zo (ze (b:=false) rfl)<|zo (ze (b:=false) rfl)<|u<|pk (b:=false) rfl rfl<|u<|mv rfl<|zo (ze (b:=false) rfl)<|zo (ze (b:=false) rfl)<|zo (ze (b:=false) rfl)<|u<|pk (b:=false) rfl rfl<|u<|mv rfl<|zo (ze (b:=false) rfl)<|zo (ze (b:=false) rfl)<|zo (ze (b:=false) rfl)<|u<|pk (b:=false) rfl rfl<|u<|mv rfl<|zo (ze (b:=false) rfl)<|zo (ze (b:=false) rfl)<|zo (ze (b:=false) rfl)<|zo (ze (b:=false) rfl)<|u<|pk (b:=false) rfl rfl<|u<|mv rfl<|zo (ze (b:=false) rfl)<|zo (ze (b:=false) rfl)<|zo (ze (b:=false) rfl)<|u<|pk (b:=false) rfl rfl<|u<|mv rfl<|zo (ze (b:=false) rfl)<|zo (ze (b:=false) rfl)<|zo (ze (b:=false) rfl)<|u<|pk (b:=false) rfl rfl<|u<|mv rfl<|zo (ze (b:=false) rfl)<|zo (ze (b:=false) rfl)<|zo (ze (b:=false) rfl)<|u<|pk (b:=false) rfl rfl<|u<|asg rfl<|zJ ?_
      exact RT0
     ·replace h:=bT rfl h
      obtain ⟨v10,q8,v11,q9,h⟩:=bs2 h
      refine g rfl rfl<|mv rfl<|g rfl rfl<|sc [] (zhb v2.1 v2.2.1 v2.2.2.1 v2.2.2.2.1 v2.2.2.2.2 q8) rfl rfl rfl rfl ⟨(rnI rfl),trivial⟩ trivial<|g rfl rfl<|bl 2 ti rfl ti rfl (by decide) (by decide) rfl rfl rfl<|g rfl rfl<|pcs (zi6 v10 ([[70,97,99,101,46,102],[65,97,46,102],[66,98,46,109,97,105,110]]) q9) rfl rfl (.cons (zgN rfl (fun _=>rfl)) (.cons (zDG rfl ⟨⟨(si rfl),trivial⟩,⟨(si rfl),trivial⟩,⟨(si rfl),trivial⟩,trivial⟩) .nil)) zbQ<|u<|pk (b:=true) rfl rfl<|u<|mv rfl<|?_
      rcases v11 with _ |_
      ·replace h:=bF rfl h
       refine zo (ze (b:=false) rfl)<|zo (ze (b:=false) rfl)<|zo (ze (b:=false) rfl)<|u<|pk (b:=false) rfl rfl<|u<|mv rfl<|zo (ze (b:=false) rfl)<|zo (ze (b:=false) rfl)<|zo (ze (b:=false) rfl)<|u<|pk (b:=false) rfl rfl<|u<|mv rfl<|zo (ze (b:=false) rfl)<|zo (ze (b:=false) rfl)<|zo (ze (b:=false) rfl)<|zo (ze (b:=false) rfl)<|u<|pk (b:=false) rfl rfl<|u<|mv rfl<|zo (ze (b:=false) rfl)<|zo (ze (b:=false) rfl)<|zo (ze (b:=false) rfl)<|u<|pk (b:=false) rfl rfl<|u<|mv rfl<|zo (ze (b:=false) rfl)<|zo (ze (b:=false) rfl)<|zo (ze (b:=false) rfl)<|u<|pk (b:=false) rfl rfl<|u<|mv rfl<|zo (ze (b:=false) rfl)<|zo (ze (b:=false) rfl)<|zo (ze (b:=false) rfl)<|u<|pk (b:=false) rfl rfl<|u<|asg rfl<|zJ ?_
       exact RT0
      ·replace h:=bT rfl h
       obtain ⟨v12,q10,h⟩:=bs h
       refine g rfl rfl<|mv rfl<|g rfl rfl<|pc (zhm v2.1 v2.2.1 v2.2.2.1 v2.2.2.2.1 v2.2.2.2.2 [66,98] [102] q10) rfl rfl rfl<|g rfl rfl<|eql ti rfl rfl<|u<|pk (b:=true) rfl rfl<|u<|mv rfl<|?_
       generalize (v12 == ((-1):Int))=v13 at h ⊢
       rcases v13 with _ |_
       ·replace h:=bF rfl h
        refine zo (ze (b:=false) rfl)<|zo (ze (b:=false) rfl)<|zo (ze (b:=false) rfl)<|u<|pk (b:=false) rfl rfl<|u<|mv rfl<|zo (ze (b:=false) rfl)<|zo (ze (b:=false) rfl)<|zo (ze (b:=false) rfl)<|zo (ze (b:=false) rfl)<|u<|pk (b:=false) rfl rfl<|u<|mv rfl<|zo (ze (b:=false) rfl)<|zo (ze (b:=false) rfl)<|zo (ze (b:=false) rfl)<|u<|pk (b:=false) rfl rfl<|u<|mv rfl<|zo (ze (b:=false) rfl)<|zo (ze (b:=false) rfl)<|zo (ze (b:=false) rfl)<|u<|pk (b:=false) rfl rfl<|u<|mv rfl<|zo (ze (b:=false) rfl)<|zo (ze (b:=false) rfl)<|zo (ze (b:=false) rfl)<|u<|pk (b:=false) rfl rfl<|u<|asg rfl<|zJ ?_
        exact RT0
       ·replace h:=bT rfl h
        obtain ⟨v14,q11,h⟩:=bs h
        refine g rfl rfl<|mv rfl<|g rfl rfl<|pc (zhn v2.1 v2.2.1 v2.2.2.1 v2.2.2.2.1 v2.2.2.2.2 [65,97] [115] q11) rfl rfl rfl<|g rfl rfl<|eql ti rfl rfl<|u<|pk (b:=true) rfl rfl<|u<|mv rfl<|?_
        generalize (v14 == (0:Int))=v15 at h ⊢
        rcases v15 with _ |_
        ·replace h:=bF rfl h
         refine zo (ze (b:=false) rfl)<|zo (ze (b:=false) rfl)<|zo (ze (b:=false) rfl)<|zo (ze (b:=false) rfl)<|u<|pk (b:=false) rfl rfl<|u<|mv rfl<|zo (ze (b:=false) rfl)<|zo (ze (b:=false) rfl)<|zo (ze (b:=false) rfl)<|u<|pk (b:=false) rfl rfl<|u<|mv rfl<|zo (ze (b:=false) rfl)<|zo (ze (b:=false) rfl)<|zo (ze (b:=false) rfl)<|u<|pk (b:=false) rfl rfl<|u<|mv rfl<|zo (ze (b:=false) rfl)<|zo (ze (b:=false) rfl)<|zo (ze (b:=false) rfl)<|u<|pk (b:=false) rfl rfl<|u<|asg rfl<|zJ ?_
         exact RT0
        ·replace h:=bT rfl h
         obtain ⟨v16,q12,v17,q13,h⟩:=bs2 h
         refine g rfl rfl<|mv rfl<|g rfl rfl<|sc [] (zb3 v2.1 v2.2.1 v2.2.2.1 v2.2.2.2.1 v2.2.2.2.2 [66,98] q12) rfl rfl rfl rfl ⟨(rnI rfl),(rnI rfl),trivial⟩ trivial<|g rfl rfl<|bl 4 ti rfl ti rfl (by decide) (by decide) rfl rfl rfl<|g rfl rfl<|pcs (zi6 v16 ([[65,97,46,120],[66,98,46,121]]) q13) rfl rfl (.cons (zgN rfl (fun _=>rfl)) (.cons (zDG rfl ⟨⟨(si rfl),trivial⟩,⟨(si rfl),trivial⟩,trivial⟩) .nil)) zbQ<|u<|pk (b:=true) rfl rfl<|u<|mv rfl<|?_
         rcases v17 with _ |_
         ·replace h:=bF rfl h
          refine zo (ze (b:=false) rfl)<|zo (ze (b:=false) rfl)<|zo (ze (b:=false) rfl)<|u<|pk (b:=false) rfl rfl<|u<|mv rfl<|zo (ze (b:=false) rfl)<|zo (ze (b:=false) rfl)<|zo (ze (b:=false) rfl)<|u<|pk (b:=false) rfl rfl<|u<|mv rfl<|zo (ze (b:=false) rfl)<|zo (ze (b:=false) rfl)<|zo (ze (b:=false) rfl)<|u<|pk (b:=false) rfl rfl<|u<|asg rfl<|zJ ?_
          exact RT0
         ·replace h:=bT rfl h
          obtain ⟨v18,q14,h⟩:=bs h
          refine g rfl rfl<|mv rfl<|g rfl rfl<|pc (zif v2.1 v2.2.1 v2.2.2.1 v2.2.2.2.1 v2.2.2.2.2 [66,98] [121] q14) rfl rfl rfl<|g rfl rfl<|eql ti rfl rfl<|u<|pk (b:=true) rfl rfl<|u<|mv rfl<|?_
          generalize (v18 == (1:Int))=v19 at h ⊢
          rcases v19 with _ |_
          ·replace h:=bF rfl h
           refine zo (ze (b:=false) rfl)<|zo (ze (b:=false) rfl)<|zo (ze (b:=false) rfl)<|u<|pk (b:=false) rfl rfl<|u<|mv rfl<|zo (ze (b:=false) rfl)<|zo (ze (b:=false) rfl)<|zo (ze (b:=false) rfl)<|u<|pk (b:=false) rfl rfl<|u<|asg rfl<|zJ ?_
           exact RT0
          ·replace h:=bT rfl h
           obtain ⟨v20,q15,h⟩:=bs h
           refine g rfl rfl<|mv rfl<|g rfl rfl<|pc (zgk v2.1 v2.2.1 v2.2.2.1 v2.2.2.2.1 v2.2.2.2.2 [66,98] [102] q15) rfl rfl rfl<|g rfl rfl<|eql ti rfl rfl<|u<|pk (b:=true) rfl rfl<|u<|mv rfl<|?_
           generalize (v20 == (0:Int))=v21 at h ⊢
           rcases v21 with _ |_
           ·replace h:=bF rfl h
            refine zo (ze (b:=false) rfl)<|zo (ze (b:=false) rfl)<|zo (ze (b:=false) rfl)<|u<|pk (b:=false) rfl rfl<|u<|asg rfl<|zJ ?_
            exact RT0
           ·replace h:=bT rfl h
            obtain ⟨v22,q16,h⟩:=bs h
            refine g rfl rfl<|mv rfl<|g rfl rfl<|pc (zgk v2.1 v2.2.1 v2.2.2.1 v2.2.2.2.1 v2.2.2.2.2 [66,98] [109,97,105,110] q16) rfl rfl rfl<|g rfl rfl<|eql ti rfl rfl<|u<|pk (b:=true) rfl rfl<|u<|asg rfl<|zJ ?_
            exact RT0
instance:PF Tryz.prog 40 [] (zkw) bA:=⟨fun _=>zqh ⟩
def zjX(v1:zaM):Option (zaM):=
 (zcc v1.C 12).bind fun v2=>(zcc v1.M 12).bind fun v3=>some (zaM.mk v2 v3)
theorem zoG(v1:zaM){r:zaM}(h:zjX v1=some r):zaj Tryz.prog 37 [.agg (zfK v1)] (.agg (zfK r)):=by
 refine zj Tryz.func37 rfl (by kernel_rfl) rfl rfl ?_
 unfold zjX at h
 refine A ?_
 obtain ⟨v2,q1,h⟩:=bs h
 obtain ⟨v3,q2,h⟩:=bs h
 refine rdA [(2,.mpt 0 0 0)] [some (2,[[sA v2,sA v3]])] [7] [0,1,2,3,4,5,6] [(9,_),(8,_),(7,_),(6,_),(5,_),(4,_),(3,_)] 1 (zgE (z:=by exact ⟨(fun _ _=>⟨_,rfl,rfl,sto ti rfl rfl rfl<|⟨.any,[],[],rfl,rfl,rfl,trivial,zhx (z:=zcs [.old 1])⟩⟩),trivial⟩)) ?_
 exact RT0
instance (v1:zaM):PF Tryz.prog 37 [.agg (zfK v1)] (zjX v1) (fun r=>(.agg (zfK r))):=⟨fun _=>zoG v1⟩
def zjY(v1:zek):Option (zek):=
 (zjs v1.In 0 (if 30<(List.length v1.In:Int) then 30 else (List.length v1.In:Int))).bind fun v2=>(zgT 4 ([]:List Int) v2).bind fun v3=>(zDE v1.Fuel 600).bind fun v4=>(zDE (IntKind.i64.wrap (v4+600)) 600).bind fun v5=>(zoZ v1.L).bind fun v6=>(zjX v1.E).bind fun v7=>some (zek.mk v6 v7 v3 v5)
theorem zoH(v1:zek){r:zek}(h:zjY v1=some r):zaj Tryz.prog 41 [.agg (zhU v1)] (.agg (zhU r)):=by
 refine zj Tryz.func41 rfl (by kernel_rfl) rfl rfl ?_
 unfold zjY at h
 refine A ?_
 obtain ⟨v2,q1,h⟩:=bs h
 obtain ⟨v3,q2,h⟩:=bs h
 refine A ?_
 refine u<|mnI rfl rfl<|u<|slI (a:=0) (b:=(if 30<(List.length v1.In:Int) then 30 else (List.length v1.In:Int))) ti rfl ti rfl rfl rfl (zox rfl q1) q1<|u<|apN (f:=(rI .i32)) 2 ti rfl ti rfl rfl (by decide) ti rfl rfl rfl roI (fun _=>rfl) rfl q2<|A ?_
 obtain ⟨v4,q3,h⟩:=bs h
 obtain ⟨v5,q4,h⟩:=bs h
 obtain ⟨v6,q5,h⟩:=bs h
 obtain ⟨v7,q6,h⟩:=bs h
 refine rd [(2,.mpt 0 0 0)] [some (5,[[.msl 1 0 (List.length v6),sA v7.C,sA v7.M,.msl 2 0 (List.length v3),iA v5]]),some (6,List.map zc v6),some (1,List.map (rI .i32) v3)] [2,13] [11,10,9,8,7,6,4,3,1,0] [(23,iA v5),(22,iA (IntKind.i64.wrap (v4+600))),(21,iA v4),(20,iA v1.Fuel),(19,.mpt 0 0 4),(18,.msl 2 0 (List.length v3)),(16,.agg (zfK v1.E)),(15,.mpt 0 0 1),(13,.isl 6 (List.map zc v1.L)),(12,.mpt 0 0 0)] 2 (by kernel_rfl) (by kernel_rfl) rfl (by kernel_rfl) (dtS ⟨(fun _=>pa rfl rfl rfl rfl (rem ti rfl rfl q4<|⟨rfl,rfl⟩)),(fun _=>pa rfl rfl rfl rfl (add ti rfl rfl<|⟨rfl,rfl⟩)),(fun _=>pa rfl rfl rfl rfl (rem ti rfl rfl q3<|⟨rfl,rfl⟩)),(fun _=>pa rfl rfl rfl rfl (ld ti rfl rfl<|⟨rfl,rfl⟩)),(fun _=>pa rfl rfl rfl rfl (fa ti rfl rfl rfl<|⟨rfl,rfl⟩)),(fun _=>pa rfl rfl rfl rfl (mv rfl<|⟨rfl,rfl⟩)),(fun _=>pa rfl rfl rfl rfl (ld ti rfl rfl<|⟨rfl,rfl⟩)),(fun _=>pa rfl rfl rfl rfl (fa ti rfl rfl rfl<|⟨rfl,rfl⟩)),(fun _=>pa rfl rfl rfl rfl (ld ti rfl rfl<|⟨rfl,rfl⟩)),(fun _=>pa rfl rfl rfl rfl (fa ti rfl rfl rfl<|⟨rfl,rfl⟩)),trivial⟩ (by kernel_rfl) rfl ⟨(fun _ _=>⟨_,rfl,rfl,sc [] (ztZ v1.L q5) rfl rfl rfl rfl ⟨(rnI rfl),trivial⟩ trivial<|⟨(.msl 3 0 (List.length v6)),[12,5],[(24,.agg [.msl 3 0 (List.length v6),sA v7.C,sA v7.M,.msl 2 0 (List.length v3),iA v5]),(17,.agg (zfK v7)),(14,.msl 3 0 (List.length v6))],rfl,rfl,by kernel_rfl,rfl,dtS ⟨(fun _=>pa rfl rfl rfl rfl (bd ti rfl rfl rfl<|⟨rfl,rfl⟩)),(fun _=>pa rfl rfl rfl rfl (pc (zoG v1.E q6) rfl rfl rfl<|⟨rfl,rfl⟩)),(fun _=>pa rfl rfl rfl rfl (rem ti rfl rfl q4<|⟨rfl,rfl⟩)),(fun _=>pa rfl rfl rfl rfl (add ti rfl rfl<|⟨rfl,rfl⟩)),(fun _=>pa rfl rfl rfl rfl (rem ti rfl rfl q3<|⟨rfl,rfl⟩)),(fun _=>pa rfl rfl rfl rfl (ld ti rfl rfl<|⟨rfl,rfl⟩)),(fun _=>pa rfl rfl rfl rfl (fa ti rfl rfl rfl<|⟨rfl,rfl⟩)),(fun _=>pa rfl rfl rfl rfl (mv rfl<|⟨rfl,rfl⟩)),(fun _=>pa rfl rfl rfl rfl (ld ti rfl rfl<|⟨rfl,rfl⟩)),(fun _=>pa rfl rfl rfl rfl (fa ti rfl rfl rfl<|⟨rfl,rfl⟩)),(fun h=>by cases h),(fun _=>pa rfl rfl rfl rfl (fa ti rfl rfl rfl<|⟨rfl,rfl⟩)),trivial⟩ (by kernel_rfl) rfl ⟨(fun h=>by cases h),(fun _ _=>⟨_,rfl,rfl,sto ti rfl rfl rfl<|⟨.any,[],[],rfl,rfl,by kernel_rfl,trivial,dt0 ⟨(fun h=>by cases h),(fun h=>by cases h),(fun h=>by cases h),(fun h=>by cases h),(fun h=>by cases h),(fun h=>by cases h),(fun h=>by cases h),(fun h=>by cases h),(fun h=>by cases h),(fun h=>by cases h),(fun h=>by cases h),(fun h=>by cases h),trivial⟩ (by kernel_rfl) rfl ⟨[.old 1,.old 3,.old 2],cv rfl (.mpt rfl)<|cn,rfl,⟨⟨_,rfl,zbV ⟨.msl rfl,ci rfl,ci rfl,.msl rfl,ci rfl,trivial⟩⟩,⟨_,rfl,zP (fun _=>rfl)⟩,⟨_,rfl,zP (fun _=>rfl)⟩,trivial⟩,rfl,Nat.le_of_ble_eq_true rfl⟩⟩⟩),trivial⟩⟩⟩),(fun _ h=>by cases h),trivial⟩) ?_
 exact RT0
instance (v1:zek):PF Tryz.prog 41 [.agg (zhU v1)] (zjY v1) (fun r=>(.agg (zhU r))):=⟨fun _=>zoH v1⟩
def zhJ(v1:List (List UInt8))(v2:List (List UInt8)):Option (Bool):=
 (cond (decide ((List.length v1:Int)≤(List.length v2:Int))) ((zjs v2 0 (if (List.length v2:Int)<(List.length v1:Int) then (List.length v2:Int) else (List.length v1:Int))).bind fun v3=>(zhc v1 v3).bind fun v4=>some v4) (some false)).bind fun v5=>some v5
theorem zfP(v1:List (List UInt8))(v2:List (List UInt8)){r:Bool}(h:zhJ v1 v2=some r):zaj Tryz.prog 60 [.isl 1 (List.map zn v1),.isl 1 (List.map zn v2)] (bA r):=by
 refine zj Tryz.func60 rfl (by kernel_rfl) rfl rfl<|A ?_
 obtain ⟨v5,q4,h⟩:=bs h
 refine A ?_
 refine zik (x:=v5) (j:=5) 9 rfl rfl rfl rfl rfl gpn (fun hb1=>by replace q4:=bT hb1 q4;obtain ⟨v3,q2,q4⟩:=bs q4;obtain ⟨v4,q3,q4⟩:=bs q4;obtain rfl:=sm q4;exact g rfl hb1<|mv rfl<|g rfl hb1<|mv rfl<|g rfl hb1<|mv rfl<|g rfl hb1<|lnI ti rfl rfl<|g rfl hb1<|mv rfl<|g rfl hb1<|lnI ti rfl rfl<|g rfl hb1<|mnI rfl rfl<|g rfl hb1<|slI (a:=0) (b:=(if (List.length v2:Int)<(List.length v1:Int) then (List.length v2:Int) else (List.length v1:Int))) ti rfl ti rfl rfl rfl (zox rfl q2) q2<|g rfl hb1<|pc (zi6 v1 v3 q3) rfl rfl rfl<|zJ (eg [11,12,13,14,15,16,17,18,19] 9 rfl rfl rfl rfl)) (fun hb=>(sm (bF hb q4)).symm)<|A ?_
 exact RT0
instance (v1:List (List UInt8))(v2:List (List UInt8)):PF Tryz.prog 60 [.isl 1 (List.map zn v1),.isl 1 (List.map zn v2)] (zhJ v1 v2) bA:=⟨fun _=>zfP v1 v2⟩
def zmg:Option (Bool):=
 some true
def ze6(v16:Int):Option (Sum (Int) (Sum (Unit) (Bool))):=
 some (.inl (IntKind.i64.wrap (v16+1)))
def ze5(v16:Int)(v24:Bool):Option (Sum (Int) (Sum (Unit) (Bool))):=
 cond v24 (some (.inr (.inr false))) (ze6 v16)
def zcP(v4:zek)(v6:(List za)×(List (List UInt8×Int))×(List (List UInt8))×(List (List UInt8))×(List (List UInt8)))(v16:Int):Option (Sum (Int) (Sum (Unit) (Bool))):=
 cond (decide (v16<(List.length v4.L:Int))) ((idx v4.L v16).bind fun v17=>cond v17.Interface (ze6 v16) ((zcg v6.1 v6.2.1 v6.2.2.1 v6.2.2.2.1 v6.2.2.2.2 v17.Super).bind fun v18=>(zcg v6.1 v6.2.1 v6.2.2.1 v6.2.2.2.1 v6.2.2.2.2 v17.Name).bind fun v19=>(zhJ v18 v19).bind fun v20=>cond (!v20) (ze5 v16 true) ((zc6 v6.1 v6.2.1 v6.2.2.1 v6.2.2.2.1 v6.2.2.2.2 v17.Super).bind fun v21=>(zc6 v6.1 v6.2.1 v6.2.2.1 v6.2.2.2.1 v6.2.2.2.2 v17.Name).bind fun v22=>(zhJ v21 v22).bind fun v23=>ze5 v16 (!v23)))) (some (.inr (.inl ())))
def zgx(v1:List za)(v2:zaM):Option (Bool):=
 (zkw).bind fun v3=>cond (!v3) (some false) ((zjY (zek.mk v1 v2 [] 0)).bind fun v4=>(zeI v4.L v4.E).bind fun v5=>cond (!(v5.2 == (0:Int))) (some true) ((ziS v5.1).bind fun v6=>(zm (fun z=>zcP v4 v6 z) 0).bind fun o=>zI o (fun b=>zmg) some))
theorem ziG(v1:List za)(v2:zaM){r:Bool}(h:zgx v1 v2=some r):zaj Tryz.prog 9 [.isl 6 (List.map zc v1),.agg (zfK v2)] (bA r):=by
 refine zj Tryz.func9 rfl (by kernel_rfl) rfl rfl<|A ?_
 obtain ⟨v3,q1,h⟩:=bs h
 refine A ?_
 refine zh<|A ?_
 refine zeh h rfl (fun hc2 h=>?_) fun hc2 h=>?_
 ·refine A ?_
  exact RT0
 ·refine zf ?_
  obtain ⟨v4,q3,h⟩:=bs h
  refine A ?_
  refine u<|pcn (zoH (zek.mk v1 v2 [] 0) q3) rfl rfl ⟨(nlA ⟨(nlI rfl),(nlI rfl),(nlI rfl),(nlN),(nlI rfl),trivial⟩),trivial⟩<|A ?_
  obtain ⟨v5,q4,h⟩:=bs h
  refine rg rfl<|u<|fa ti rfl rfl rfl<|u<|ld ti rfl rfl<|u<|fa ti rfl rfl rfl<|u<|ld ti rfl rfl<|u<|pc (zff v4.L v4.E q4) rfl rfl rfl<|u<|mv rfl<|u<|ex rfl rfl<|u<|ex rfl rfl<|u<|asg rfl<|u<|asg rfl<|zJ ?_
  refine zh ?_
  refine rg rfl<|u<|mv rfl<|u<|neq ti rfl rfl<|zJ ?_
  refine zeh h rfl (fun hc5 h=>?_) fun hc5 h=>?_
  ·refine A ?_
   exact RT0
  ·refine zf ?_
   obtain ⟨v6,q6,h⟩:=bs h
   refine rg rfl<|u<|mv rfl<|u<|sc [] (znH v5.1 q6) rfl rfl rfl rfl ⟨(rnI (zp6 (fun _=>rfl))),trivial⟩ trivial<|A ?_
   refine zh<|A ?_
   obtain ⟨o,ho,h⟩:=bs h
   refine lpB ho (fun z=>[(6,.mpt 0 0 0),(9,.ipt 4 [[.ipt 2 [[.isl 6 (List.map zc v6.1),.imp (List.map (rKV (fun x=>iA x)) v6.2.1)]] 0 0,.isl 1 (List.map zn v6.2.2.1),.isl 1 (List.map zn v6.2.2.2.1),.isl 1 (List.map zn v6.2.2.2.2)]] 0 0),(10,iA z)]) (fun z=>[some (5,[(zhU v4)])]) (fun b=>[]) (fun b=>[]) (pG Tryz.f9 bA) ⟨[.old 1],cv rfl (.mpt rfl)<|cv rfl (zEo rfl rfl ⟨(ci rfl),(zhD rfl rfl (fun _=>rfl)),(zhD rfl rfl (fun _=>rfl)),(zhD rfl rfl (fun _=>rfl)),trivial⟩ rfl)<|ce rfl rfl<|cn,rfl,⟨⟨_,rfl,zbV (ciL rfl)⟩,trivial⟩,rfl,Nat.le_of_ble_eq_true rfl⟩ ?_ ?_
   ·rintro v16 r h
    refine zh<|A ?_
    refine zeh h rfl (fun hc18 h=>?_) fun hc18 h=>?_
    ·refine zf ?_
     refine zcX (X:=Unit) (fun z=>[(6,.mpt 0 0 0),(9,.ipt 4 [[.ipt 2 [[.isl 6 (List.map zc v6.1),.imp (List.map (rKV (fun x=>iA x)) v6.2.1)]] 0 0,.isl 1 (List.map zn v6.2.2.1),.isl 1 (List.map zn v6.2.2.2.1),.isl 1 (List.map zn v6.2.2.2.2)]] 0 0),(10,iA v16)]) (fun z=>[some (5,[(zhU v4)])]) (fun z=>ze6 v16=some r) ?_ ?_
     ·refine zp ?_
      obtain ⟨v17,q19,h⟩:=bs h
      refine A ?_
      refine zh<|A ?_
      refine zeh h rfl (fun hc20 h=>?_) fun hc20 h=>?_
      ·refine zG ?_
       exact ⟨(),h,[.old 0],cv rfl (.mpt rfl)<|ce rfl rfl<|ce rfl rfl<|cn,rfl,⟨⟨_,rfl,zbV (ciL rfl)⟩,trivial⟩,rfl,Nat.le_of_ble_eq_true rfl⟩
      ·refine zf ?_
       refine zcX (X:=Bool) (fun z=>[(6,.mpt 0 0 0),(9,.ipt 4 [[.ipt 2 [[.isl 6 (List.map zc v6.1),.imp (List.map (rKV (fun x=>iA x)) v6.2.1)]] 0 0,.isl 1 (List.map zn v6.2.2.1),.isl 1 (List.map zn v6.2.2.2.1),.isl 1 (List.map zn v6.2.2.2.2)]] 0 0),(10,iA v16),(66,bA z)]) (fun z=>[some (5,[(zhU v4)])]) (fun z=>ze5 v16 z=some r) ?_ ?_
       ·obtain ⟨v18,q21,v19,q22,v20,q23,h⟩:=bs3 h
        rcases bb (!v20) with hb24 |hb24
        ·replace h:=bT hb24 h
         exact rdQ [3,7] [0,1,2,4,5,6] [(51,_),(50,_),(49,_),(47,_),(46,_),(45,_)] 2 (zgE (z:=by exact ⟨(fun _ _=>⟨_,rfl,rfl,sc [] (zb3 v6.1 v6.2.1 v6.2.2.1 v6.2.2.2.1 v6.2.2.2.2 v17.Super q21) rfl rfl rfl rfl ⟨(rnI rfl),(rnI rfl),trivial⟩ trivial<|⟨(.msl 2 0 (List.length v18)),[],[(48,_)],rfl,rfl,rfl,rfl,zgE (z:=by exact ⟨nv,(fun _ _=>⟨_,rfl,rfl,sc [] (zb3 v6.1 v6.2.1 v6.2.2.1 v6.2.2.2.1 v6.2.2.2.2 v17.Name q22) rfl rfl rfl rfl ⟨(rnI rfl),(rnI rfl),trivial⟩ trivial<|⟨(.msl 3 0 (List.length v19)),[8,9,10,11,12,13,14,15,16,17,18,19,20,21],[(66,_),(65,_),(64,_),(63,_),(62,_),(61,_),(60,_),(59,_),(58,_),(57,_),(56,_),(55,_),(54,_),(53,_),(52,_)],rfl,rfl,rfl,rfl,zhx ⟨(by exact pb rfl (pcs (zfP v18 v19 q23) rfl rfl (.cons (zgN rfl (fun _=>rfl)) (.cons (zgN rfl (fun _=>rfl)) .nil)) zbQ<|⟨rfl,rfl⟩)),peC,peC,peC,peC,peC,peC,peC,peC,peC,peC,peC,peC,peC,peC,peC,peC,peC,peC,peC,trivial⟩ (by exact ⟨true,h,zcs [.old 0]⟩)⟩⟩),trivial⟩)⟩⟩),nw,trivial⟩))
        ·replace h:=bF hb24 h
         obtain ⟨v21,q25,v22,q26,v23,q27,h⟩:=bs3 h
         exact rdQ [3,7,14,18] [0,1,2,4,5,6] [(51,_),(50,_),(49,_),(47,_),(46,_),(45,_)] 4 (zgE (z:=by exact ⟨(fun _ _=>⟨_,rfl,rfl,sc [] (zb3 v6.1 v6.2.1 v6.2.2.1 v6.2.2.2.1 v6.2.2.2.2 v17.Super q21) rfl rfl rfl rfl ⟨(rnI rfl),(rnI rfl),trivial⟩ trivial<|⟨(.msl 2 0 (List.length v18)),[],[(48,_)],rfl,rfl,rfl,rfl,zgE (z:=by exact ⟨nv,(fun _ _=>⟨_,rfl,rfl,sc [] (zb3 v6.1 v6.2.1 v6.2.2.1 v6.2.2.2.1 v6.2.2.2.2 v17.Name q22) rfl rfl rfl rfl ⟨(rnI rfl),(rnI rfl),trivial⟩ trivial<|⟨(.msl 3 0 (List.length v19)),[8,9,10,11,12,13,15,16,17],[(62,_),(61,_),(60,_),(58,_),(57,_),(56,_),(55,_),(54,_),(53,_),(52,_)],rfl,rfl,rfl,rfl,zgE ⟨(by exact pb rfl (pcs (zfP v18 v19 q23) rfl rfl (.cons (zgN rfl (fun _=>rfl)) (.cons (zgN rfl (fun _=>rfl)) .nil)) zbQ<|⟨rfl,rfl⟩)),peC,peC,peC,peC,peC,peC,peC,peC,peC,peC,peC,peC,peC,peC,trivial⟩ (by exact ⟨nv,nv,(fun _ _=>⟨_,rfl,cg (b:=(!v20)) rfl hb24,sc [] (zfZ v6.1 v6.2.1 v6.2.2.1 v6.2.2.2.1 v6.2.2.2.2 v17.Super q25) rfl rfl rfl rfl ⟨(rnI rfl),(rnI rfl),trivial⟩ trivial<|⟨(.msl 4 0 (List.length v21)),[],[(59,_)],rfl,rfl,rfl,rfl,zgE ⟨(by exact pb rfl (pcs (zfP v18 v19 q23) rfl rfl (.cons (zgN rfl (fun _=>rfl)) (.cons (zgN rfl (fun _=>rfl)) .nil)) zbQ<|⟨rfl,rfl⟩)),peC,peC,peC,peC,peC,peC,peC,peC,peC,peC,peC,peC,peC,peC,trivial⟩ (by exact ⟨nv,nv,nv,(fun _ _=>⟨_,rfl,cg (b:=(!v20)) rfl hb24,sc [] (zfZ v6.1 v6.2.1 v6.2.2.1 v6.2.2.2.1 v6.2.2.2.2 v17.Name q26) rfl rfl rfl rfl ⟨(rnI rfl),(rnI rfl),trivial⟩ trivial<|⟨(.msl 5 0 (List.length v22)),[19,20,21],[(66,_),(65,_),(64,_),(63,_)],rfl,rfl,rfl,rfl,zhx ⟨(by exact fun _=>pag (b:=(!v20)) rfl rfl rfl rfl hb24 rfl (pcs (zfP v21 v22 q27) rfl rfl (.cons (zgN rfl (fun _=>rfl)) (.cons (zgN rfl (fun _=>rfl)) .nil)) zbQ<|⟨rfl,rfl⟩)),peC,peC,(by exact pb rfl (pcs (zfP v18 v19 q23) rfl rfl (.cons (zgN rfl (fun _=>rfl)) (.cons (zgN rfl (fun _=>rfl)) .nil)) zbQ<|⟨rfl,rfl⟩)),peC,peC,peC,peC,peC,peC,peC,peC,peC,peC,peC,peC,peC,peC,trivial⟩ (by exact ⟨(!v23),h,zcs [.old 0]⟩)⟩⟩),trivial⟩)⟩⟩),nw,trivial⟩)⟩⟩),nw,nw,trivial⟩)⟩⟩),nw,nw,nw,trivial⟩))
       ·rintro v24 h
        refine zeh h rfl (fun hc28 h=>?_) fun hc28 h=>?_
        ·refine A ?_
         refine zK ?_
         obtain rfl:=sm h
         exact ⟨_,rfl,_,rfl,[],ci rfl,rfl,trivial,rfl,Nat.le_of_ble_eq_true rfl⟩
        ·refine zf ?_
         exact ⟨(),h,[.old 0],cv rfl (.mpt rfl)<|ce rfl rfl<|ce rfl rfl<|cn,rfl,⟨⟨_,rfl,zbV (ciL rfl)⟩,trivial⟩,rfl,Nat.le_of_ble_eq_true rfl⟩
     ·rintro ⟨⟩ h
      refine A ?_
      obtain rfl:=sm h
      exact ⟨_,rfl,[.old 0],cv rfl (.mpt rfl)<|ce rfl rfl<|ce rfl rfl<|cn,rfl,⟨⟨_,rfl,zbV (ciL rfl)⟩,trivial⟩,rfl,Nat.le_of_ble_eq_true rfl⟩
    ·refine zG ?_
     obtain rfl:=sm h
     exact ⟨rfl,_,rfl,[],cn,rfl,trivial,rfl,Nat.le_of_ble_eq_true rfl⟩
   ·rintro ⟨⟩ rfl
    refine zv<|A ?_
    exact RT0
instance (v1:List za)(v2:zaM):PF Tryz.prog 9 [.isl 6 (List.map zc v1),.agg (zfK v2)] (zgx v1 v2) bA:=⟨fun _=>ziG v1 v2⟩
theorem zs{α:Type}(l:List α)(i:Nat):idx l (i:Int)=l[i]?:=by
 unfold idx
 rw [if_pos (by omega),Int.toNat_natCast]
theorem zjv{α:Type}(l:List α):idx l 0=l[0]?:=zs l 0
theorem zmj{n:Int}(h1:-9223372036854775808≤n)(h2:n≤9223372036854775807):IntKind.i64.wrap n=n:=IntWalk.i64_in n ⟨h1,h2⟩
theorem zQ{i:Nat}(h:i<9223372036854775807):IntKind.i64.wrap ((i:Int)+1)=((i+1:Nat):Int):=by
 rw [zmj (by omega) (by omega)];omega
theorem zsA{α:Type}{l:List α}{a b:Int}(h0:0≤a)(h1:a≤b)(h2:b≤l.length):zjs l a b=some ((l.drop a.toNat).take (b.toNat-a.toNat)):=by
 unfold zjs;rw [if_pos ⟨h0,h1,h2⟩]
theorem zmP{α:Type}{l:List α}{b:Nat}(h:b≤l.length):zjs l 0 (b:Int)=some (l.take b):=by
 rw [zsA (by omega) (by omega) (by omega)];simp
theorem zhk{α:Type}{l:List α}{a:Nat}(h:a≤l.length):zjs l (a:Int) (l.length:Int)=some (l.drop a):=by
 rw [zsA (by omega) (by omega) (by omega)]
 simp only [Int.toNat_natCast]
 rw [List.take_of_length_le (by simp)]
theorem zbF{α:Type}{w:Nat}{l x:List α}(h:(l.length+x.length)*w≤140737488355328)(h2:l.length+x.length≤9223372036854775807):zgT w l x=some (l++x):=by
 unfold zgT;rw [if_pos ⟨h,h2⟩]
theorem zli{l x:List UInt8}(h:l.length+x.length≤9223372036854775807):zqF l x=some (l++x):=by unfold zqF;rw [if_pos h]
def zoz{R U:Type}(u:U):Option R→Sum U R
 |some r=>.inr r
 |none=>.inl u
def zxh{R U:Type}(i:Nat):Option R→Sum Int (Sum U R)
 |some r=>.inr (.inr r)
 |none=>.inl ((i+1:Nat):Int)
theorem zsT{α R U:Type}{body:Int→Option (Sum Int (Sum U R))}{l:List α}{g:α→Option R}{u:U}{k:Nat}
  (hb:∀(i:Nat) x,k≤i→l[i]?=some x→body (i:Int)=some (zxh i (g x)))
  (he:body (l.length:Int)=some (.inr (.inl u))) (hk:k≤l.length):zm body (k:Int)=some (zoz u ((l.drop k).findSome? g)):=by
 have key:∀d i,l.length-i=d→k≤i→i≤l.length→zm body (i:Int)=some (zoz u ((l.drop i).findSome? g)):=by
  intro d
  induction d with
  |zero =>
   intro i hd hki hi
   have:i=l.length:=by omega
   subst this
   rw [zE,he,List.drop_length]
   rfl
  |succ d ih =>
   intro i hd hki hi
   have hlt:i<l.length:=by omega
   rw [zE,hb i l[i] hki (List.getElem?_eq_getElem hlt),List.drop_eq_getElem_cons hlt,List.findSome?_cons]
   cases g l[i] with
   |some r=>rfl
   |none =>
    show zm body ((i+1:Nat):Int)=_
    exact ih (i+1) (by omega) (by omega) (by omega)
 exact key _ k rfl (Nat.le_refl _) hk
theorem zdN{α R U:Type}{body:Int→Option (Sum Int (Sum U R))}{l:List α}{g:α→Option R}{u:U}
  (hb:∀(i:Nat) x,l[i]?=some x→body (i:Int)=some (zxh i (g x)))
  (he:body (l.length:Int)=some (.inr (.inl u))):zm body 0=some (zoz u (l.findSome? g)):=
 zsT (k:=0) (fun i x _=>hb i x) he (Nat.zero_le _)
theorem zqP{R U:Type}{body:Int→Option (Sum Int (Sum U R))}{n:Nat}{g:Nat→Option R}{u:U}
  (hb:∀i,i<n→body (i:Int)=some (zxh i (g i)))
  (he:body (n:Int)=some (.inr (.inl u))):zm body 0=some (zoz u ((List.range n).findSome? g)):=by
 have h:=zdN (body:=body) (l:=List.range n) (g:=g) (u:=u) (fun i x hx=>by
  have hi:i<n:=by
   have:=(List.getElem?_eq_some_iff.1 hx).1
   simpa using this
  have hx':x=i:=by
   have:=(List.getElem?_eq_some_iff.1 hx).2
   simpa using this.symm
  subst hx'
  exact hb x hi) (by rw [List.length_range];exact he)
 exact h
theorem zck{α R:Type}(l:List α)(p:α→Bool)(r:R):l.findSome? (fun x=>cond (p x) (some r) none)=cond (l.any p) (some r) none:=by
 induction l with
 |nil=>rfl
 |cons x l ih =>
  rw [List.findSome?_cons,List.any_cons]
  cases p x with
  |true=>rfl
  |false=>simpa using ih
def zig(n:Int):Nat:=if n<0 then (-2*n-1).toNat else (2*n).toNat
def zEE:Nat→Nat→List UInt8
 | 0,_=>[]
 |k+1,u=>if 127<u then UInt8.ofNat (u % 128+128)::zEE k (u / 128) else [UInt8.ofNat u]
def put(n:Int):List UInt8:=zEE 10 (zig n)
def okC(x:UInt8):Bool:=zgw x||zef x||zhI x
def zCl(p:UInt8→Bool):List UInt8→Bool
 | []=>false
 |x :: _=>p x
def zsf(s:List UInt8):Bool:=s.all okC&&(!(s == [])&&decide ((s.length:Int)≤8))
def zcQ(s:List UInt8):Bool:=zsf s&&decide (1<(s.length:Int))&&zCl zef s
def zt9(s:List UInt8):Bool:=(s == [36,105,110,105,116])||(zsf s&&zCl zgw s)
def zfE:List UInt8→List UInt8
 | []=>[]
 |x ::r=>if x=91 then r else x ::r
def zfU(s:List UInt8):Bool:=(zfE (zfE s) == [73])||zcQ (zfE (zfE s))
def zr2(s:List UInt8):Bool:=!(s == [73])&&zfU s
def zuk(s:List UInt8):Bool:=(s == [86])||zfU s
abbrev Len(s:List UInt8):Prop:=s.length≤9223372036854775807
theorem zyj{α:Type}(l:List α)(p:α→Bool):l.any (fun x=>!p x)=!l.all p:=by
 induction l with
 |nil=>rfl
 |cons x l ih=>rw [List.any_cons,List.all_cons,ih];cases p x <;> rfl
theorem zoF{s:List UInt8}(h:Len s):zly s=some (zsf s):=by
 have hl:zm (fun z=>zha s z) 0=_:=zdN (l:=s) (g:=fun x=>cond (!okC x) (some false) none) (u:=()) (fun i x hx=>by
  have hi:=(List.getElem?_eq_some_iff.1 hx).1
  show zha s (i:Int)=_
  unfold zha
  rw [zs,hx,decide_eq_true (by omega),zQ (by unfold Len at h;omega)]
  unfold okC
  cases h1:zgw x <;> cases h2:zef x <;> cases h3:zhI x <;> simp [h1,h2,h3,zxh]) (by
  show zha s (s.length:Int)=_
  unfold zha
  rw [decide_eq_false (by omega)]
  rfl)
 unfold zly
 rw [hl,zck,zyj]
 unfold zsf
 cases s.all okC <;> rfl
theorem zqK(p:UInt8→Bool)(x:UInt8)(r:List UInt8):zCl p (x ::r)=p x:=rfl
theorem zvO{s:List UInt8}(h:zsf s=true):∃x r,s=x ::r:=by
 cases s with
 |nil=>exact absurd h (by decide)
 |cons x r=>exact ⟨x,r,rfl⟩
theorem zgv{s:List UInt8}(h:Len s):zgu s=some (zcQ s):=by
 unfold zgu
 rw [zoF h,zjv]
 unfold zcQ
 cases hw:zsf s with
 |false=>rfl
 |true =>
  obtain ⟨x,r,rfl⟩:=zvO hw
  simp only [Option.bind_some,Bool.true_and,List.getElem?_cons_zero]
  cases decide (1<((x ::r).length:Int)) <;> rfl
theorem zlx{s:List UInt8}(h:Len s):zjW s=some (zt9 s):=by
 unfold zjW
 rw [zoF h,zjv]
 unfold zt9
 cases s == [36,105,110,105,116] with
 |true=>rfl
 |false =>
  cases hw:zsf s with
  |false=>rfl
  |true =>
   obtain ⟨x,r,rfl⟩:=zvO hw
   rfl
theorem zgD(x:UInt8)(r:List UInt8):zfE (x ::r)=if x=91 then r else x ::r:=rfl
theorem zn0(s:List UInt8):(zfE s).length≤s.length:=by
 cases s with
 |nil=>exact Nat.le_refl _
 |cons x r=>rw [zgD];split <;> simp
theorem zzl{s:List UInt8}(h:Len s):zeV s [91]=some (zfE s):=by
 unfold zeV zc5 zdp
 cases s with
 |nil=>rfl
 |cons x r =>
  have e1:decide ((List.length [(91:UInt8)]:Int)≤(List.length (x ::r):Int))=true:=decide_eq_true (by simp only [List.length_cons,List.length_nil];omega)
  have e2:zjs (x ::r) 0 (List.length [(91:UInt8)]:Int)=some [x]:=by
   have:=zmP (l:=x ::r) (b:=1) (by simp)
   simpa using this
  have e3:zjs (x ::r) (List.length [(91:UInt8)]:Int) (List.length (x ::r):Int)=some r:=by
   have:=zhk (l:=x ::r) (a:=1) (by simp)
   simpa using this
  rw [e1,e2,e3,zgD]
  by_cases hx:x=91
  ·subst hx;rfl
  ·rw [if_neg hx]
   have:([x] == [(91:UInt8)])=false:=by simp [hx]
   simp [this]
theorem zg4{s:List UInt8}(h:Len s):zh4 s=some (zfU s):=by
 have h1:=zn0 s
 have h2:=zn0 (zfE s)
 unfold zh4
 rw [zzl h,Option.bind_some,zzl (by unfold Len at *;omega),Option.bind_some,zgv (by unfold Len at *;omega)]
 unfold zfU
 cases zfE (zfE s) == [73] <;> rfl
theorem zkv{s:List UInt8}(h:Len s):zku s=some (zr2 s):=by
 unfold zku
 rw [zg4 h]
 unfold zr2
 cases s == [73] <;> rfl
theorem ztV{s:List UInt8}(h:Len s):zoX s=some (zuk s):=by
 unfold zoX
 rw [zg4 h]
 unfold zuk
 cases s == [86] <;> rfl
theorem zti(x:UInt8):zl8 x=zef x:=rfl
theorem zwF(x:UInt8):zkG x=zgw x:=rfl
theorem zyJ(x:UInt8):zl7 x=zhI x:=rfl
theorem zrY{s:List UInt8}(h:Len s):zl5 s=some (zcQ s):=by
 unfold zl5
 have hend:zdV s (s.length:Int)=some (.inr (.inl ())):=by
  unfold zdV;rw [decide_eq_false (by omega)];rfl
 cases s with
 |nil=>rw [zE];rfl
 |cons x r =>
  have hrest:zm (fun z=>zdV (x ::r) z) ((1:Nat):Int)=some (zoz () (((x ::r).drop 1).findSome? (fun y=>cond (!okC y) (some false) none))):=
   zsT (k:=1) (g:=fun y=>cond (!okC y) (some false) none) (fun i y hi hy=>by
    have hlt:=(List.getElem?_eq_some_iff.1 hy).1
    show zdV (x ::r) (i:Int)=_
    unfold zdV
    rw [zs,hy,decide_eq_true (by omega),zQ (by unfold Len at h;omega)]
    have e:((i:Int) == (0:Int))=false:=by simp;omega
    rw [e]
    simp only [zti,zwF,zyJ]
    unfold okC
    cases h1:zgw y <;> cases h2:zef y <;> cases h3:zhI y <;> simp [h1,h2,h3,zxh]) hend (by simp)
  have hfirst:zdV (x ::r) 0=some (cond (zef x) (.inl 1) (.inr (.inr false))):=by
   unfold zdV
   rw [zjv,decide_eq_true (by simp only [List.length_cons,List.length_nil];omega)]
   simp only [zti]
   have:IntKind.i64.wrap (0+1)=1:=by decide
   rw [this]
   simp only [List.getElem?_cons_zero,Option.bind_some]
   cases hg:zef x <;> rfl
  rw [zE,hfirst]
  cases hg:zef x with
  |false =>
   have:zcQ (x ::r)=false:=by unfold zcQ;rw [zqK,hg];simp
   rw [this]
   rfl
  |true =>
   show ((zm (fun z=>zdV (x ::r) z) ((1:Nat):Int)).bind _)=_
   rw [hrest,List.drop_one,List.tail_cons,zck,zyj]
   have:zcQ (x ::r)=(r.all okC&&(decide (2≤(List.length (x ::r):Int))&&decide ((List.length (x ::r):Int)≤8))):=by
    unfold zcQ zsf
    rw [zqK]
    have ho:okC x=true:=by unfold okC;rw [hg];simp
    rw [List.all_cons,ho,hg]
    have e:decide (1<(List.length (x ::r):Int))=decide (2≤(List.length (x ::r):Int)):=by congr 1
    rw [e]
    have e2:((x ::r) == [])=false:=rfl
    rw [e2]
    cases r.all okC <;> cases decide (2≤(List.length (x ::r):Int)) <;> cases decide ((List.length (x ::r):Int)≤8) <;> rfl
   rw [this]
   cases r.all okC <;> rfl
theorem zm9{s:List UInt8}(h:Len s):zl6 s=some (zfU s):=by
 have step:∀(t:List UInt8) (i:Int),i<2→zhV t i=some (match t with | []=>.inr (.inl []) |x ::r=>if x=91 then .inl (r,IntKind.i64.wrap (i+1)) else .inr (.inl (x ::r))):=fun t i hi=>by
  unfold zhV
  rw [decide_eq_true hi]
  cases t with
  |nil=>rfl
  |cons x r =>
   have e1:decide ((0:Int)<(List.length (x ::r):Int))=true:=decide_eq_true (by simp only [List.length_cons,List.length_nil];omega)
   have e3:zjs (x ::r) 1 (List.length (x ::r):Int)=some r:=by
    have:=zhk (l:=x ::r) (a:=1) (by simp)
    simpa using this
   rw [e1,zjv,e3]
   by_cases hx:x=91
   ·subst hx;rfl
   ·have e:((x.toNat:Int) == (91:Int))=false:=by
     rw [beq_eq_false_iff_ne]
     intro h
     apply hx
     have:x.toNat=(91:UInt8).toNat:=by simp;omega
     exact UInt8.toNat_inj.1 this
    simp [e,if_neg hx]
 have stop:∀t:List UInt8,zhV t 2=some (.inr (.inl t)):=fun t=>by unfold zhV;simp
 have hl:zm (fun z:List UInt8×Int=>zhV z.1 z.2) (s,0)=some (.inl (zfE (zfE s))):=by
  have w1:IntKind.i64.wrap (0+1)=1:=by decide
  have w2:IntKind.i64.wrap (1+1)=2:=by decide
  rw [zE]
  simp only [step s 0 (by omega)]
  cases s with
  |nil=>rfl
  |cons x r =>
   rw [zgD]
   by_cases hx:x=91
   ·simp only [if_pos hx,Option.bind_some,Sum.elim_inl,w1]
    rw [zE]
    simp only [step r 1 (by omega)]
    cases r with
    |nil=>rfl
    |cons y q =>
     by_cases hy:y=91
     ·simp only [if_pos hy,Option.bind_some,Sum.elim_inl,w2]
      rw [zE]
      simp only [stop]
      rw [zgD,if_pos hy]
      rfl
     ·simp only [if_neg hy,Option.bind_some,Sum.elim_inr]
      rw [zgD,if_neg hy]
   ·simp only [if_neg hx,Option.bind_some,Sum.elim_inr]
    rw [zgD,if_neg hx]
 have h1:=zn0 s
 have h2:=zn0 (zfE s)
 unfold zl6
 rw [hl]
 show zna _=_
 unfold zna zfU
 rw [zrY (by unfold Len at *;omega)]
 cases zfE (zfE s) == [73] <;> rfl
def zt5(o:Int)(s:List UInt8):Bool:=cond (ziM o) (zr2 s) (cond (zCW o) (zcQ s) (s == []))
def zCu(o:Int)(s:List UInt8):Bool:=cond (zCX o) (zt9 s&&!(s == [36,105,110,105,116])) (s == [])
def zmz(x:zl):Bool:=(zl4 x.Op&&zm8 x.Op x.A)&&zt5 x.Op x.C&&zCu x.Op x.M
theorem zwv{o:Int}{s:List UInt8}(h:Len s):zrT o s=some (zt5 o s):=by
 unfold zrT zt5
 rw [zkv h,zgv h]
 cases ziM o <;> cases zCW o <;> rfl
theorem zww{o:Int}{s:List UInt8}(h:Len s):zrU o s=some (zCu o s):=by
 unfold zrU zCu
 rw [zlx h]
 cases zCX o <;> rfl
theorem zys{x:zl}(hC:Len x.C)(hM:Len x.M):zvi x=some (zmz x):=by
 unfold zvi zmz
 rw [zwv hC,zww hM]
 cases (zl4 x.Op&&zm8 x.Op x.A) <;> cases zt5 x.Op x.C <;> rfl
def ixF{α:Type}(p:α→Bool):Nat→List α→Int
 |_,[]=>-1
 |k,x ::r=>cond (p x) (k:Int) (ixF p (k+1) r)
theorem zdT{α:Type}(p:α→Bool):∀(k:Nat) (l:List α),decide (0≤ixF p k l)=l.any p
 |_,[]=>rfl
 |k,x ::r=>by
  unfold ixF
  rw [List.any_cons]
  cases p x with
  |true=>exact decide_eq_true (show (0:Int)≤(k:Int) by omega)
  |false=>exact zdT p (k+1) r
theorem zay{α:Type}{body:Int→Option (Sum Int (Sum Unit Int))}{l:List α}{p:α→Bool}(hl:l.length≤9223372036854775807)
  (hb:∀(i:Nat) x,l[i]?=some x→body (i:Int)=cond (p x) (some (.inr (.inr (i:Int)))) (some (.inl (IntKind.i64.wrap ((i:Int)+1)))))
  (he:body (l.length:Int)=some (.inr (.inl ()))):
  (zm body 0).bind (fun o=>zI o (fun _=>some (-1:Int)) some)=some (ixF p 0 l):=by
 have key:∀(r pre:List α),l=pre++r→(zm body (pre.length:Int)).bind (fun o=>zI o (fun _=>some (-1:Int)) some)=some (ixF p pre.length r):=by
  intro r
  induction r with
  |nil =>
   intro pre h
   rw [List.append_nil] at h
   subst h
   rw [zE,he]
   rfl
  |cons x r ih =>
   intro pre h
   have hlen:l.length=pre.length+(r.length+1):=by rw [h];simp
   have hx:l[pre.length]?=some x:=by rw [h];simp
   rw [zE,hb _ x hx]
   unfold ixF
   cases p x with
   |true=>rfl
   |false =>
    rw [zQ (by omega)]
    have:=ih (pre++[x]) (by rw [h];simp)
    rw [show (pre++[x]).length=pre.length+1 by simp] at this
    exact this
 exact key l [] rfl
def uB{α:Type}(ok:α→Bool)(nm:α→List UInt8):List α→List α→Bool
 |_,[]=>false
 |pre,x ::r=>(!ok x||pre.any (fun y=>nm x == nm y))||uB ok nm (pre++[x]) r
theorem zp4{α:Type}{body:Int→Option (Sum Int (Sum Unit Bool))}{l:List α}{ok:α→Bool}{nm:α→List UInt8}(hl:l.length≤9223372036854775807)
  (hb:∀(i:Nat) x,l[i]?=some x→body (i:Int)=cond (!ok x||(l.take i).any (fun y=>nm x == nm y)) (some (.inr (.inr false))) (some (.inl (IntKind.i64.wrap ((i:Int)+1)))))
  (he:body (l.length:Int)=some (.inr (.inl ()))) {k:Option Bool}:
  (zm body 0).bind (fun o=>zI o (fun _=>k) some)=cond (uB ok nm [] l) (some false) k:=by
 have key:∀(r pre:List α),l=pre++r→(zm body (pre.length:Int)).bind (fun o=>zI o (fun _=>k) some)=cond (uB ok nm pre r) (some false) k:=by
  intro r
  induction r with
  |nil =>
   intro pre h
   rw [List.append_nil] at h
   subst h
   rw [zE,he]
   rfl
  |cons x r ih =>
   intro pre h
   have hlen:l.length=pre.length+(r.length+1):=by rw [h];simp
   have hx:l[pre.length]?=some x:=by rw [h];simp
   have ht:l.take pre.length=pre:=by rw [h];simp
   rw [zE,hb _ x hx,ht]
   unfold uB
   cases !ok x||pre.any (fun y=>nm x == nm y) with
   |true=>rfl
   |false =>
    rw [zQ (by omega)]
    have:=ih (pre++[x]) (by rw [h];simp)
    rw [show (pre++[x]).length=pre.length+1 by simp] at this
    exact this
 exact key l [] rfl
def eqL{α:Type}(e:α→α→Bool):List α→List α→Bool
 | [],[]=>true
 |x ::a,y ::b=>e x y&&eqL e a b
 |_,_=>false
theorem zxF{α:Type}(e:α→α→Bool):∀(a b:List α),a.length≠b.length→eqL e a b=false
 | [],[],h=>absurd rfl h
 | [],_ :: _,_=>rfl
 |_ :: _,[],_=>rfl
 |x ::a,y ::b,h=>by
  show (e x y&&eqL e a b)=false
  rw [zxF e a b (fun hh=>h (by simp [hh])),Bool.and_false]
theorem zv6{α:Type}{body:Int→Option (Sum Int (Sum Unit Bool))}{a b:List α}{e:α→α→Bool}(hl:a.length≤9223372036854775807)
  (hb:∀(i:Nat) x y,a[i]?=some x→b[i]?=some y→body (i:Int)=cond (!e x y) (some (.inr (.inr false))) (some (.inl (IntKind.i64.wrap ((i:Int)+1)))))
  (he:body (a.length:Int)=some (.inr (.inl ()))):
  cond (!((a.length:Int) == (b.length:Int))) (some false) ((zm body 0).bind (fun o=>zI o (fun _=>some true) some))=some (eqL e a b):=by
 by_cases hn:a.length=b.length
 ·have key:∀(r s pre pre':List α),pre.length=pre'.length→a=pre++r→b=pre'++s→(zm body (pre.length:Int)).bind (fun o=>zI o (fun _=>some true) some)=some (eqL e r s):=by
   intro r
   induction r with
   |nil =>
    intro s pre pre' hp h1 h2
    have:s=[]:=by
     have:a.length=pre.length:=by rw [h1];simp
     have:b.length=pre'.length+s.length:=by rw [h2];simp
     exact List.eq_nil_of_length_eq_zero (by omega)
    subst this
    rw [List.append_nil] at h1
    subst h1
    rw [zE,he]
    rfl
   |cons x r ih =>
    intro s pre pre' hp h1 h2
    have hlen:a.length=pre.length+(r.length+1):=by rw [h1];simp
    have hlen2:b.length=pre'.length+s.length:=by rw [h2];simp
    cases s with
    |nil=>simp at hlen2;omega
    |cons y s =>
     have hx:a[pre.length]?=some x:=by rw [h1];simp
     have hy:b[pre.length]?=some y:=by rw [h2,hp];simp
     rw [zE,hb _ x y hx hy]
     show _=some (e x y&&eqL e r s)
     cases e x y with
     |false=>rfl
     |true =>
      rw [zQ (by omega)]
      have:=ih s (pre++[x]) (pre'++[y]) (by simp [hp]) (by rw [h1];simp) (by rw [h2];simp)
      rw [show (pre++[x]).length=pre.length+1 by simp] at this
      exact this
  rw [show ((a.length:Int) == (b.length:Int))=true from beq_iff_eq.2 (by omega)]
  exact key a b [] [] rfl rfl rfl
 ·rw [zxF e a b hn,show ((a.length:Int) == (b.length:Int))=false from beq_eq_false_iff_ne.2 (by omega)]
  rfl
abbrev zjL{α:Type}(l:List α):Prop:=l.length≤9223372036854775807
theorem zfk{α:Type}{l:List α}{i:Nat}{x:α}(h:l[i]?=some x):decide ((i:Int)<(l.length:Int))=true:=
 decide_eq_true (by have:=(List.getElem?_eq_some_iff.1 h).1;omega)
theorem zfJ{α:Type}(l:List α):decide ((l.length:Int)<(l.length:Int))=false:=decide_eq_false (by omega)
theorem zz7{l:List zi}(hl:zjL l)(n t:List UInt8)(s:Bool):zah l n t s=some (l.any fun y=>n == y.Name):=by
 unfold zah zca
 rw [show ((zm (fun z=>zaN l n t s z) 0).bind fun o=>zI o (fun b=>zdx) some)=_ from zay (p:=fun y:zi=>n == y.Name) hl
  (fun i x hx=>by unfold zaN;rw [zfk hx,zs,hx];rfl) (by unfold zaN;rw [zfJ];rfl)]
 exact congrArg some (zdT _ 0 l)
theorem zxV{l:List zb}(hl:zjL l)(n:List UInt8)(a b c d e f g h i):zae l n a b c d e f g h i=some (l.any fun y=>n == y.Name):=by
 unfold zae zbS
 rw [show ((zm (fun z=>zaF l n a b c d e f g h i z) 0).bind fun o=>zI o (fun b=>zc0) some)=_ from zay (p:=fun y:zb=>n == y.Name) hl
  (fun i x hx=>by unfold zaF;rw [zfk hx,zs,hx];rfl) (by unfold zaF;rw [zfJ];rfl)]
 exact congrArg some (zdT _ 0 l)
theorem zCj{l:List (List UInt8)}(hl:zjL l)(n:List UInt8):zar l n=some (l.any fun y=>n == y):=by
 unfold zar zcI
 rw [show ((zm (fun z=>za5 l n z) 0).bind fun o=>zI o (fun b=>zd8) some)=_ from zay (p:=fun y:List UInt8=>n == y) hl
  (fun i x hx=>by unfold za5;rw [zfk hx,zs,hx];rfl) (by unfold za5;rw [zfJ];rfl)]
 exact congrArg some (zdT _ 0 l)
theorem zpg{c:za}(hl:zjL c.Methods)(n:List UInt8):zeG c n=some (ixF (fun y=>y.Name == n) 0 c.Methods):=by
 unfold zeG zaG
 rw [show ((zm (fun z=>zal c.Methods n z) 0).bind fun o=>zI o (fun b=>zcv) some)=_ from zay (p:=fun y:zb=>y.Name == n) hl
  (fun i x hx=>by unfold zal;rw [zfk hx,zs,hx];rfl) (by unfold zal;rw [zfJ];rfl)]
 rfl
theorem zp9{c:za}(hl:zjL c.Fields)(n:List UInt8):ziV c n=some (ixF (fun y=>y.Name == n) 0 c.Fields):=by
 unfold ziV zaO
 rw [show ((zm (fun z=>zaA c.Fields n z) 0).bind fun o=>zI o (fun b=>zcS) some)=_ from zay (p:=fun y:zi=>y.Name == n) hl
  (fun i x hx=>by unfold zaA;rw [zfk hx,zs,hx];rfl) (by unfold zaA;rw [zfJ];rfl)]
 rfl
def zny(f:zi):Bool:=(zt9 f.Name&&!(f.Name == [36,105,110,105,116]))&&zfU f.Type_
theorem zqa{f:zi}(h1:Len f.Name)(h2:Len f.Type_):ziX f=some (zny f):=by
 unfold ziX zny
 rw [zlx h1,zg4 h2,Option.bind_some]
 cases (zt9 f.Name&&!(f.Name == [36,105,110,105,116])) <;> rfl
theorem zw9{l:List zi}(hl:zjL l)(h:∀f∈l,Len f.Name∧Len f.Type_)(n:Int):zfz l n=cond (uB zny (·.Name) [] l) (some false) (some (decide ((l.length:Int)≤n))):=by
 unfold zfz
 refine zp4 (ok:=zny) (nm:=(·.Name)) hl (fun i x hx=>?_) ?_
 ·have hm:=h x (List.mem_of_getElem? hx)
  have hi:=(List.getElem?_eq_some_iff.1 hx).1
  unfold zfW
  rw [zfk hx,zs,hx]
  simp only [Option.bind_some,cond_true]
  rw [zqa hm.1 hm.2,Option.bind_some,zmP (by omega),Option.bind_some,zz7 (by unfold zjL at *;rw [List.length_take];omega)]
  cases zny x <;> rfl
 ·unfold zfW
  rw [zfJ];rfl
theorem zzJ{l:List (List UInt8)}(hl:zjL l)(h:∀s∈l,Len s)(n:Int):zgU l n=cond (uB zcQ id [] l) (some false) (some (decide ((l.length:Int)≤n))):=by
 unfold zgU
 refine zp4 (ok:=zcQ) (nm:=id) hl (fun i x hx=>?_) ?_
 ·have hm:=h x (List.mem_of_getElem? hx)
  have hi:=(List.getElem?_eq_some_iff.1 hx).1
  unfold zg1
  rw [zfk hx,zs,hx]
  simp only [Option.bind_some,cond_true]
  rw [zgv hm,Option.bind_some,zmP (by omega),Option.bind_some,zCj (by unfold zjL at *;rw [List.length_take];omega)]
  cases zcQ x <;> rfl
 ·unfold zg1
  rw [zfJ];rfl
def zvK(l:List (List UInt8)):Bool:=!(l.any fun s=>!zfU s)
theorem zqc{l:List (List UInt8)}(hl:zjL l)(h:∀s∈l,Len s):zkl l=some (zvK l):=by
 unfold zkl zbC zdy
 rw [show ((zm (fun z=>zbD l z) 0).bind fun o=>zI o (fun b=>zeU) some)=_ from zay (p:=fun s=>!zfU s) hl
  (fun i x hx=>by
   unfold zbD zkm
   rw [zfk hx,zs,hx]
   simp only [Option.bind_some,cond_true]
   rw [zg4 (h x (List.mem_of_getElem? hx))]
   rfl) (by unfold zbD;rw [zfJ];rfl)]
 rw [Option.bind_some,zdT]
 rfl
def zDM(n:Int)(x:zl):Bool:=(!zmz x)||(zf7 x.Op&&decide (n≤x.A))
def instrN(c:List zl):Bool:=zt (c.length:Int) 1 100&&(c.getLast?.elim false (fun y=>zkC y.Op)&&!(c.any (zDM (c.length:Int))))
theorem zlj{m:zb}(hl:zjL m.Code)(h:∀x∈m.Code,Len x.C∧Len x.M):zeH m=some (instrN m.Code):=by
 have hc:zaD m.Code (m.Code.length:Int)=some (m.Code.any (zDM (m.Code.length:Int))):=by
  unfold zaD zcW
  rw [show ((zm (fun z=>zbh m.Code (m.Code.length:Int) z) 0).bind fun o=>zI o (fun b=>zep) some)=_ from zay (p:=zDM (m.Code.length:Int)) hl
   (fun i x hx=>by
    have hm:=h x (List.mem_of_getElem? hx)
    unfold zbh zgG
    rw [zfk hx,zs,hx]
    simp only [Option.bind_some,cond_true]
    rw [zys hm.1 hm.2]
    rfl) (by unfold zbh;rw [zfJ];rfl)]
  exact congrArg some (zdT _ 0 _)
 unfold zeH instrN
 rw [hc]
 cases hb:zt (m.Code.length:Int) 1 100 with
 |false=>rfl
 |true =>
  have hb':(decide (1≤(m.Code.length:Int))&&decide ((m.Code.length:Int)≤100))=true:=hb
  simp only [Bool.and_eq_true,decide_eq_true_eq] at hb'
  have e:IntKind.i64.wrap ((m.Code.length:Int)-1)=((m.Code.length-1:Nat):Int):=by
   rw [zmj (by omega) (by omega)];omega
  rw [e,zs,←List.getLast?_eq_getElem?]
  cases hg:m.Code.getLast? with
  |none =>
   rw [List.getLast?_eq_none_iff] at hg
   rw [hg] at hb'
   simp at hb'
  |some y =>
   simp only [Option.bind_some,Bool.not_true,cond_false,Option.elim_some,Bool.true_and]
   cases zkC y.Op <;> rfl
def zAT(n:Int)(y:zN):Bool:=(((decide (y.From<0)||decide (y.To≤y.From))||decide (n<y.To))||!(zt y.At 0 (IntKind.i64.wrap (n-1))))||(!(y.C == [])&&!zcQ y.C)
def zvH(m:zb):Bool:=!(m.Traps.any (zAT (m.Code.length:Int)))&&decide ((m.Traps.length:Int)≤6)
theorem zqb{m:zb}(hl:zjL m.Traps)(h:∀x∈m.Traps,Len x.C):zkj m=some (zvH m):=by
 unfold zkj zaW zct
 rw [show ((zm (fun z=>zaX m.Traps m.Name m.Params m.Ret m.Static m.Abstract m.Locals m.Stack m.Code m.Maps m.Traps z) 0).bind fun o=>zI o (fun b=>zdP) some)=_ from zay (p:=zAT (m.Code.length:Int)) hl
  (fun i x hx=>by
   have hm:=h x (List.mem_of_getElem? hx)
   unfold zaX zkk zAT
   rw [zfk hx,zs,hx]
   simp only [Option.bind_some,cond_true]
   rw [zgv hm]
   cases (((decide (x.From<0)||decide (x.To≤x.From))||decide ((m.Code.length:Int)<x.To))||!(zt x.At 0 (IntKind.i64.wrap ((m.Code.length:Int)-1)))) with
   |true=>rfl
   |false=>cases (x.C == []) <;> rfl) (by unfold zaX;rw [zfJ];rfl)]
 rw [Option.bind_some,zdT]
 rfl
def gB{α:Type}(bad:List α→α→Bool):List α→List α→Bool
 |_,[]=>false
 |pre,x ::r=>bad pre x||gB bad (pre++[x]) r
theorem zu3{α:Type}{body:Int→Option (Sum Int (Sum Unit Bool))}{l:List α}{bad:List α→α→Bool}(hl:l.length≤9223372036854775807)
  (hb:∀(i:Nat) x,l[i]?=some x→body (i:Int)=cond (bad (l.take i) x) (some (.inr (.inr false))) (some (.inl (IntKind.i64.wrap ((i:Int)+1)))))
  (he:body (l.length:Int)=some (.inr (.inl ()))):zm body 0=some (cond (gB bad [] l) (.inr false) (.inl ())):=by
 have key:∀(r pre:List α),l=pre++r→zm body (pre.length:Int)=some (cond (gB bad pre r) (.inr false) (.inl ())):=by
  intro r
  induction r with
  |nil =>
   intro pre h
   rw [List.append_nil] at h
   subst h
   rw [zE,he]
   rfl
  |cons x r ih =>
   intro pre h
   have hlen:l.length=pre.length+(r.length+1):=by rw [h];simp
   have hx:l[pre.length]?=some x:=by rw [h];simp
   have ht:l.take pre.length=pre:=by rw [h];simp
   rw [zE,hb _ x hx,ht]
   unfold gB
   cases bad pre x with
   |true=>rfl
   |false =>
    rw [zQ (by omega)]
    have:=ih (pre++[x]) (by rw [h];simp)
    rw [show (pre++[x]).length=pre.length+1 by simp] at this
    exact this
 exact key l [] rfl
theorem zBe{α:Type}(p:α→Bool):∀(pre r:List α),gB (fun _ x=>p x) pre r=r.any p
 |_,[]=>rfl
 |pre,x ::r=>by
  show (p x||gB _ _ r)=_
  rw [zBe p (pre++[x]) r,List.any_cons]
theorem zx4{α:Type}{body:Int→Option (Sum Int (Sum Unit Bool))}{l:List α}{bad:α→Bool}(hl:l.length≤9223372036854775807)
  (hb:∀(i:Nat) x,l[i]?=some x→body (i:Int)=cond (bad x) (some (.inr (.inr false))) (some (.inl (IntKind.i64.wrap ((i:Int)+1)))))
  (he:body (l.length:Int)=some (.inr (.inl ()))):zm body 0=some (cond (l.any bad) (.inr false) (.inl ())):=by
 rw [zu3 (bad:=fun _ x=>bad x) hl hb he,zBe]
def zr8(v:List UInt8):Bool:=(((v == [73])||(v == [78]))||(v == [84]))||zr2 v
theorem zrm{s:List UInt8}(h:Len s):zlX s=some (zr8 s):=by
 unfold zlX zr8
 rw [zkv h]
 cases (((s == [73])||(s == [78]))||(s == [84])) <;> rfl
def znU(l:List (List UInt8)):Bool:=!(l.any fun s=>!zr8 s)
theorem zjQ{l:List (List UInt8)}(hl:zjL l)(h:∀s∈l,Len s):zgO l=some (znU l):=by
 unfold zgO za0 zcH
 rw [show ((zm (fun z=>za4 l z) 0).bind fun o=>zI o (fun b=>zd7) some)=_ from zay (p:=fun s=>!zr8 s) hl
  (fun i x hx=>by
   unfold za4 zip
   rw [zfk hx,zs,hx]
   simp only [Option.bind_some,cond_true]
   rw [zrm (h x (List.mem_of_getElem? hx))]
   rfl) (by unfold za4;rw [zfJ];rfl)]
 rw [Option.bind_some,zdT]
 rfl
theorem zrs{l:List (List UInt8)}(hl:zjL l)(n:List UInt8):zx l n=some (l.any fun y=>n == y):=by
 unfold zx zad
 rw [show ((zm (fun z=>zcf l n z) 0).bind fun o=>zI o (fun b=>zfL) some)=_ from zay (p:=fun y:List UInt8=>n == y) hl
  (fun i x hx=>by unfold zcf;rw [zfk hx,zs,hx];rfl) (by unfold zcf;rw [zfJ];rfl)]
 exact congrArg some (zdT _ 0 l)
def zDj(m:zb)(pre:List zT)(x:zT):Bool:=
 ((!(decide (0≤x.At)&&decide (x.At<(m.Code.length:Int))))||(pre.getLast?.elim false (fun y=>decide (x.At≤y.At)))) ||
 (((!((x.Locals.length:Int) == m.Locals))||decide (m.Stack<(x.Stack.length:Int)))||((!znU x.Locals||!znU x.Stack)||x.Stack.any (fun y=>[84] == y)))
def zx8(m:zb):Bool:=!(gB (zDj m) [] m.Maps)&&decide ((m.Maps.length:Int)≤100)
structure zA2(m:zb):Prop where
 len:zjL m.Maps
 code:zjL m.Code
 all:∀x∈m.Maps,(zjL x.Locals∧∀s∈x.Locals,Len s)∧(zjL x.Stack∧∀s∈x.Stack,Len s)
theorem zzb{α:Type}{l:List α}{i:Nat}(h:i<l.length)(h0:0<i):(l.take i).getLast?=l[i-1]?:=by
 rw [List.getLast?_eq_getElem?,List.getElem?_take_of_lt (by simp;omega)]
 congr 1
 simp;omega
theorem zrk{m:zb}(h:zA2 m):zlV m=some (zx8 m):=by
 have j2:∀(i:Nat) (x:zT) (b:Bool),x∈m.Maps→zgr m (i:Int) x b=cond (b||(((!((x.Locals.length:Int) == m.Locals))||decide (m.Stack<(x.Stack.length:Int)))||((!znU x.Locals||!znU x.Stack)||x.Stack.any (fun y=>[84] == y)))) (some (.inr (.inr false))) (some (.inl (IntKind.i64.wrap ((i:Int)+1)))):=fun i x b hx=>by
  obtain ⟨⟨h1,h2⟩,h3,h4⟩:=h.all x hx
  unfold zgr
  rw [zjQ h1 h2,zjQ h3 h4,zrs h3]
  cases b with
  |true=>rfl
  |false =>
   cases ((!((x.Locals.length:Int) == m.Locals))||decide (m.Stack<(x.Stack.length:Int))) with
   |true=>rfl
   |false =>
    cases znU x.Locals with
    |false=>rfl
    |true=>cases znU x.Stack <;> rfl
 have hl:zm (fun z=>zgs m z) 0=_:=zu3 (bad:=zDj m) h.len (fun i x hx=>by
  have hm:=List.mem_of_getElem? hx
  have hi:=(List.getElem?_eq_some_iff.1 hx).1
  have hlen:=h.len
  have hcode:=h.code
  unfold zjL at hlen hcode
  show zgs m (i:Int)=_
  unfold zgs zDj
  rw [zfk hx,zs,hx]
  simp only [Option.bind_some,cond_true]
  have hb:zt x.At 0 (IntKind.i64.wrap ((m.Code.length:Int)-1))=(decide (0≤x.At)&&decide (x.At<(m.Code.length:Int))):=by
   show (decide (0≤x.At)&&decide (x.At≤IntKind.i64.wrap ((m.Code.length:Int)-1)))=_
   rw [zmj (by omega) (by omega)]
   congr 1
   exact decide_eq_decide.2 (by omega)
  rw [hb]
  cases (decide (0≤x.At)&&decide (x.At<(m.Code.length:Int))) with
  |false=>exact j2 i x true hm
  |true =>
   rcases Nat.eq_zero_or_pos i with h0 |h0
   ·subst h0
    exact j2 0 x false hm
   ·rw [decide_eq_true (show (0:Int)<(i:Int) by omega),zzb hi h0]
    have e:IntKind.i64.wrap ((i:Int)-1)=((i-1:Nat):Int):=by
     rw [zmj (by omega) (by omega)];omega
    rw [e,zs,List.getElem?_eq_getElem (show i-1<m.Maps.length by omega)]
    exact j2 i x _ hm) (by show zgs m (m.Maps.length:Int)=_;unfold zgs;rw [zfJ];rfl)
 unfold zlV zx8
 rw [hl]
 cases gB (zDj m) [] m.Maps <;> rfl
structure zCZ(m:zb):Prop where
 code:zjL m.Code∧∀x∈m.Code,Len x.C∧Len x.M
 traps:zjL m.Traps∧∀x∈m.Traps,Len x.C
structure GIn(m:zb):Prop where
 name:Len m.Name
 params:m.Params.length≤1000000000000∧∀s∈m.Params,Len s
 ret:Len m.Ret
 maps:zA2 m
 body:zCZ m
 small:m.Code.length≤1000000000000∧m.Maps.length≤1000000000000∧m.Traps.length≤1000000000000
def zgK(m:zb):Bool:=
 ((!((!zt9 m.Name)||decide (6<(m.Params.length:Int)))&&zvK m.Params)&&zuk m.Ret)&&cond m.Abstract (zhF m)
  (!((m.Name == [36,105,110,105,116])&&(((!m.Static)||decide (0<(m.Params.length:Int)))||(!(m.Ret == [86]))))&&(zt m.Locals (zax m) 16&&(zt m.Stack 0 16&&((instrN m.Code&&zvH m)&&zx8 m))))
theorem zES{m:zb}(h:GIn m):zjL m.Params:=by have:=h.params.1;unfold zjL;omega
theorem zoM{m:zb}(h:GIn m):zjp m=some (zgK m):=by
 unfold zjp zgK
 rw [zlx h.name,Option.bind_some,zqc (zES h) h.params.2,ztV h.ret,zlj h.body.code.1 h.body.code.2,zrk h.maps,zqb h.body.traps.1 h.body.traps.2]
 cases ((!zt9 m.Name)||decide (6<(m.Params.length:Int))) with
 |true=>rfl
 |false =>
  cases zvK m.Params with
  |false=>rfl
  |true =>
   cases zuk m.Ret with
   |false=>rfl
   |true =>
    cases m.Abstract with
    |true=>rfl
    |false =>
     cases ((m.Name == [36,105,110,105,116])&&(((!m.Static)||decide (0<(m.Params.length:Int)))||(!(m.Ret == [86])))) with
     |true=>rfl
     |false =>
      cases zt m.Locals (zax m) 16 with
      |false=>rfl
      |true =>
       cases zt m.Stack 0 16 with
       |false=>rfl
       |true=>cases instrN m.Code <;> cases zx8 m <;> cases zvH m <;> rfl
theorem ztF{l:List zb}(hl:zjL l)(h:∀m∈l,GIn m)(n:Int)(a b:List UInt8)(i:Bool)(c:List (List UInt8))(d:List zi)(e:List zb):
  zdM l n a b i c d e=cond (uB (fun m=>(m.Abstract == i)&&zgK m) (·.Name) [] l) (some false) (some (decide ((l.length:Int)≤n))):=by
 unfold zdM
 refine zp4 (ok:=fun m=>(m.Abstract == i)&&zgK m) (nm:=(·.Name)) hl (fun j x hx=>?_) ?_
 ·have hm:=h x (List.mem_of_getElem? hx)
  have hi:=(List.getElem?_eq_some_iff.1 hx).1
  unfold zfA zkh
  rw [zfk hx,zs,hx]
  simp only [Option.bind_some,cond_true]
  rw [zoM hm,zmP (by omega)]
  simp only [Option.bind_some]
  rw [zxV (by unfold zjL at *;rw [List.length_take];omega)]
  cases (x.Abstract == i) with
  |false=>rfl
  |true=>cases zgK x <;> rfl
 ·unfold zfA
  rw [zfJ];rfl
structure zC0(c:za):Prop where
 name:Len c.Name
 super:Len c.Super
 impl:zjL c.Impl∧∀s∈c.Impl,Len s
 fields:zjL c.Fields∧∀f∈c.Fields,Len f.Name∧Len f.Type_
 methods:zjL c.Methods∧∀m∈c.Methods,GIn m
def zsX(c:za):Bool:=
 !(c.Interface&&((!(c.Super == [79,98,106,101,99,116]))||decide (0<(c.Fields.length:Int)))) &&
 (((((zcQ c.Name&&zcQ c.Super)&&(!(uB zcQ id [] c.Impl)&&decide ((c.Impl.length:Int)≤4)))&&(!(uB zny (·.Name) [] c.Fields)&&decide ((c.Fields.length:Int)≤8)))) &&
  (!(uB (fun m=>(m.Abstract == c.Interface)&&zgK m) (·.Name) [] c.Methods)&&decide ((c.Methods.length:Int)≤8)))
theorem zrj{c:za}(h:zC0 c):znu c=some (zsX c):=by
 have e:∀(b d:Bool),cond b (some false) (some d)=some (!b&&d):=fun b d=>by cases b <;> rfl
 unfold znu zsX
 rw [zw9 h.fields.1 h.fields.2,ztF h.methods.1 h.methods.2,zgv h.name,zgv h.super,zzJ h.impl.1 h.impl.2,e,e,e]
 cases (c.Interface&&((!(c.Super == [79,98,106,101,99,116]))||decide (0<(c.Fields.length:Int)))) with
 |true=>rfl
 |false =>
  cases zcQ c.Name with
  |false=>rfl
  |true=>cases zcQ c.Super <;> rfl
theorem zr0{c:za}(hl:zjL c.Fields)(n:List UInt8):zom c n=some (ixF (fun y=>y.Name == n) 0 c.Fields):=by
 unfold zom
 rw [show ((zm (fun z=>ziO c n z) 0).bind fun o=>zI o (fun b=>znQ) some)=_ from zay (p:=fun y:zi=>y.Name == n) hl
  (fun i x hx=>by unfold ziO;rw [zfk hx,zs,hx];rfl) (by unfold ziO;rw [zfJ];rfl)]
theorem zmC{c:za}(hl:zjL c.Methods)(n:List UInt8):zkF c n=some (ixF (fun y=>y.Name == n) 0 c.Methods):=by
 unfold zkF
 rw [show ((zm (fun z=>zh6 c n z) 0).bind fun o=>zI o (fun b=>zmD) some)=_ from zay (p:=fun y:zb=>y.Name == n) hl
  (fun i x hx=>by unfold zh6;rw [zfk hx,zs,hx];rfl) (by unfold zh6;rw [zfJ];rfl)]
theorem zD1(x y:List UInt8):(x == y)=(y == x):=by
 by_cases h:x=y
 ·rw [h]
 ·rw [beq_eq_false_iff_ne.2 h,beq_eq_false_iff_ne.2 (Ne.symm h)]
theorem zyS{body:Int→Option (Sum Int (Sum Unit Bool))}{a b:List (List UInt8)}(hl:a.length≤1000000)(hn:a.length=b.length)
  (hb:∀(i:Nat) x y,a[i]?=some x→b[i]?=some y→body (i:Int)=cond (!(x == y)) (some (.inr (.inr false))) (some (.inl (IntKind.i64.wrap ((i:Int)+1)))))
  (he:body (a.length:Int)=some (.inr (.inl ()))):zm body 0=some (cond (a == b) (.inl ()) (.inr false)):=by
 have key:∀(r s pre pre':List (List UInt8)),pre.length=pre'.length→a=pre++r→b=pre'++s→zm body (pre.length:Int)=some (cond (r == s) (.inl ()) (.inr false)):=by
  intro r
  induction r with
  |nil =>
   intro s pre pre' hp h1 h2
   have:s=[]:=by
    have:a.length=pre.length:=by rw [h1];simp
    have:b.length=pre'.length+s.length:=by rw [h2];simp
    exact List.eq_nil_of_length_eq_zero (by omega)
   subst this
   rw [List.append_nil] at h1
   subst h1
   rw [zE,he]
   rfl
  |cons x r ih =>
   intro s pre pre' hp h1 h2
   have hlen:a.length=pre.length+(r.length+1):=by rw [h1];simp
   have hlen2:b.length=pre'.length+s.length:=by rw [h2];simp
   cases s with
   |nil=>simp at hlen2;omega
   |cons y s =>
    have hx:a[pre.length]?=some x:=by rw [h1];simp
    have hy:b[pre.length]?=some y:=by rw [h2,hp];simp
    rw [zE,hb _ x y hx hy]
    rw [show ((x ::r) == (y ::s))=((x == y)&&(r == s)) from rfl]
    cases x == y with
    |false=>rfl
    |true =>
     rw [zQ (by omega)]
     have:=ih s (pre++[x]) (pre'++[y]) (by simp [hp]) (by rw [h1];simp) (by rw [h2];simp)
     rw [show (pre++[x]).length=pre.length+1 by simp] at this
     exact this
 exact key a b [] [] rfl rfl rfl
theorem zD8{α:Type}{l:List α}{i:Nat}{x:α}(h:l[i]?=some x):decide ((i:Int)<(l.length:Int))=true:=
 decide_eq_true (by have:=(List.getElem?_eq_some_iff.1 h).1;omega)
theorem zEe{α:Type}{l:List α}:decide ((l.length:Int)<(l.length:Int))=false:=decide_eq_false (by omega)
theorem zDp{a b:List (List UInt8)}(h:a.length≠b.length):(a == b)=false:=by
 refine beq_eq_false_iff_ne.2 fun e=>h (by rw [e])
theorem zpW{a b:List (List UInt8)}(h:a.length≤1000000):zcY a b=some (a == b):=by
 unfold zcY
 by_cases hl:a.length=b.length
 ·have e:((a.length:Int) == (b.length:Int))=true:=by rw [hl];exact beq_self_eq_true _
  rw [e,show zm (fun z=>zce a b z) 0=_ from zyS h hl (fun i x y hx hy=>by
   unfold zce
   rw [zD8 hx,zs,hx,zs,hy];rfl) (by unfold zce;rw [zEe];rfl)]
  cases a == b <;> rfl
 ·have e:((a.length:Int) == (b.length:Int))=false:=beq_eq_false_iff_ne.2 (by omega)
  rw [e,zDp hl];rfl
abbrev Tx:=List UInt8
def cl(L:List za)(n:Tx):Option za:=L.find? (fun c=>c.Name == n)
def atN(L:List za)(n:Tx):Int:=ixF (fun c=>c.Name == n) 0 L
def zdL(L:List za)(n:Tx):Bool:=L.any (fun c=>c.Name == n)
def isF(L:List za)(n:Tx):Bool:=match cl L n with |some c=>c.Interface |none=>false
theorem zpy{α:Type}(p:α→Bool):∀(l:List α) (k:Nat),(∃j x,ixF p k l=((k+j:Nat):Int)∧l[j]?=some x∧p x=true∧l.find? p=some x)∨(ixF p k l=-1∧l.find? p=none)
 | [],k=>.inr ⟨rfl,rfl⟩
 |y ::r,k=>by
  unfold ixF
  cases h:p y with
  |true=>exact .inl ⟨0,y,rfl,rfl,h,by simp [List.find?,h]⟩
  |false =>
   rcases zpy p r (k+1) with ⟨j,x,h1,h2,h3,h4⟩ |⟨h1,h2⟩
   ·exact .inl ⟨j+1,x,by show ixF p (k+1) r=_;rw [h1];congr 1;omega,by simpa using h2,h3,by simp [List.find?,h,h4]⟩
   ·exact .inr ⟨h1,by simp [List.find?,h,h2]⟩
theorem zqL{α:Type}(p:α→Bool):∀(l r:List α) (k:Nat),ixF p k (l++r)=cond (l.any p) (ixF p k l) (ixF p (k+l.length) r)
 | [],r,k=>rfl
 |y ::l,r,k=>by
  show ixF p k (y ::(l++r))=_
  rw [show ixF p k (y ::(l++r))=cond (p y) (k:Int) (ixF p (k+1) (l++r)) from rfl,show ixF p k (y ::l)=cond (p y) (k:Int) (ixF p (k+1) l) from rfl,List.any_cons]
  cases h:p y with
  |true=>rfl
  |false =>
   rw [Bool.false_or,cond_false,cond_false,zqL p l r (k+1),show k+1+l.length=k+(y ::l).length by simp;omega]
theorem zsx(L:List za)(n:Tx):decide (0≤atN L n)=zdL L n:=zdT _ 0 L
theorem zqE(L:List za)(n:Tx):decide (atN L n<0)=!zdL L n:=by
 rw [←zsx]
 by_cases h:0≤atN L n
 ·rw [decide_eq_true h,decide_eq_false (by omega)];rfl
 ·rw [decide_eq_false h,decide_eq_true (by omega)];rfl
theorem zoD(L:List za)(n:Tx):idx L (atN L n)=cl L n:=by
 unfold atN cl
 rcases zpy (fun c:za=>c.Name == n) L 0 with ⟨j,x,h1,h2,h3,h4⟩ |⟨h1,h2⟩
 ·rw [h1,h4,zs,Nat.zero_add,h2]
 ·rw [h1,h2];rfl
theorem zxr(L:List za)(n:Tx):(cl L n).isSome=zdL L n:=by
 unfold cl zdL
 rw [Bool.eq_iff_iff,List.any_eq_true]
 exact List.find?_isSome
theorem zbR{L:List za}{n:Tx}{c:za}(h:cl L n=some c):c∈L∧c.Name=n:=by
 unfold cl at h
 exact ⟨List.mem_of_find?_eq_some h,eq_of_beq (List.find?_some (p:=fun c:za=>c.Name == n) h)⟩
theorem zf4{L:List za}{n:Tx}(h:zdL L n=true):∃c,cl L n=some c:=by
 rw [←zxr] at h
 exact Option.isSome_iff_exists.1 h
theorem zgP{L:List za}{n:Tx}{c:za}(h:cl L n=some c):zdL L n=true:=by rw [←zxr,h];rfl
theorem zmU{L:List za}{n:Tx}(h:cl L n=none):zdL L n=false:=by rw [←zxr,h];rfl
theorem zjF{L:List za}{n:Tx}:zdL L n=true↔n∈L.map (·.Name):=by
 unfold zdL
 rw [List.any_eq_true,List.mem_map]
 constructor
 ·rintro ⟨c,h1,h2⟩;exact ⟨c,h1,eq_of_beq h2⟩
 ·rintro ⟨c,h1,h2⟩;exact ⟨c,h1,beq_iff_eq.2 h2⟩
def Nd(L:List za):Prop:=∀(i j:Nat) (c d:za),L[i]?=some c→L[j]?=some d→c.Name=d.Name→i=j
theorem Nd.at{L:List za}(h:Nd L){i:Nat}{c:za}(hi:L[i]?=some c):atN L c.Name=(i:Int):=by
 unfold atN
 rcases zpy (fun d:za=>d.Name == c.Name) L 0 with ⟨j,x,h1,h2,h3,h4⟩ |⟨h1,h2⟩
 ·rw [h1,Nat.zero_add,h j i x c h2 hi (eq_of_beq h3)]
 ·have:=List.find?_eq_none.1 h2 c (List.mem_of_getElem? hi)
  simp at this
theorem Nd.cl{L:List za}(h:Nd L){c:za}(hc:c∈L):cl L c.Name=some c:=by
 obtain ⟨i,hi,e⟩:=List.getElem_of_mem hc
 have hi':L[i]?=some c:=by rw [List.getElem?_eq_getElem hi,e]
 rw [←zoD,h.at hi',zs,hi']
theorem Nd.snoc{L:List za}(h:Nd L){c:za}(hc:zdL L c.Name=false):Nd (L++[c]):=by
 have no:∀(i:Nat) d,L[i]?=some d→d.Name≠c.Name:=fun i d hi e=>by
  have:zdL L c.Name=true:=zjF.2 (List.mem_map.2 ⟨d,List.mem_of_getElem? hi,e⟩)
  rw [hc] at this;cases this
 have get:∀(i:Nat) d,(L++[c])[i]?=some d→(L[i]?=some d)∨(i=L.length∧d=c):=fun i d hi=>by
  rw [List.getElem?_append] at hi
  split at hi
  ·exact .inl hi
  ·rename_i hlt
   right
   have h1:=(List.getElem?_eq_some_iff.1 hi).1
   simp at h1
   have h2:i=L.length:=by omega
   subst h2
   simp at hi
   exact ⟨rfl,hi.symm⟩
 intro i j d e hi hj hn
 rcases get i d hi with h1 |⟨h1,h1'⟩ <;> rcases get j e hj with h2 |⟨h2,h2'⟩
 ·exact h i j d e h1 h2 hn
 ·subst h2';exact absurd hn (no i d h1)
 ·subst h1';exact absurd hn.symm (no j e h2)
 ·rw [h1,h2]
theorem zz8(L:List za)(c:za)(n:Tx):zdL (L++[c]) n=(zdL L n||(c.Name == n)):=by
 unfold zdL;simp
theorem zqQ{α:Type}(k k':Tx)(x:α):∀(m:List (Tx×α)),zeo k (zgS k' x m)=if k=k' then some x else zeo k m
 | []=>by
  unfold zgS zeo zeo
  by_cases h:k=k'
  ·rw [if_pos h,decide_eq_true h];rfl
  ·rw [if_neg h,decide_eq_false h];rfl
 |(a,y)::r=>by
  unfold zgS
  by_cases h':k'=a
  ·subst h'
   rw [decide_eq_true rfl]
   show zeo k ((k',x)::r)=_
   unfold zeo
   by_cases h:k=k'
   ·rw [if_pos h,decide_eq_true h];rfl
   ·rw [if_neg h,decide_eq_false h];rfl
  ·rw [decide_eq_false h']
   show zeo k ((a,y)::zgS k' x r)=_
   unfold zeo
   rw [zqQ k k' x r]
   by_cases h:k=k'
   ·subst h
    rw [if_pos rfl,decide_eq_false h',if_pos rfl];rfl
   ·rw [if_neg h,if_neg h]
def zbc(L:List za)(m:List (Tx×Int)):Prop:=∀n,zeo n m=cond (zdL L n) (some (atN L n)) none
theorem zbc.snoc{L:List za}{m:List (Tx×Int)}(h:zbc L m){c:za}(hc:zdL L c.Name=false):zbc (L++[c]) (zgS c.Name (L.length:Int) m):=by
 intro n
 rw [zqQ,zz8,h n]
 unfold atN
 rw [zqL]
 show _=cond _ (some (cond (zdL L n) _ _)) none
 by_cases e:n=c.Name
 ·subst e
  rw [if_pos rfl,hc,beq_self_eq_true]
  simp [ixF]
 ·rw [if_neg e,beq_eq_false_iff_ne.2 (Ne.symm e)]
  cases zdL L n <;> rfl
theorem zbc.has{L:List za}{m:List (Tx×Int)}(h:zbc L m)(n:Tx):(zeo n m).isSome=zdL L n:=by
 rw [h n];cases zdL L n <;> rfl
theorem zbc.idx{L:List za}{m:List (Tx×Int)}(h:zbc L m){n:Tx}(hn:zdL L n=true):idx L ((zeo n m).getD 0)=cl L n:=by
 rw [h n,hn];exact zoD L n
inductive Rc(nx:Tx→List Tx):Tx→Tx→Prop
 |one {a b}:b∈nx a→Rc nx a b
 |more {a b c}:b∈nx a→Rc nx b c→Rc nx a c
theorem Rc.snoc{nx:Tx→List Tx}{a b c:Tx}(h:Rc nx a b)(hc:c∈nx b):Rc nx a c:=by
 induction h with
 |one h=>exact .more h (.one hc)
 |more h _ ih=>exact .more h (ih hc)
theorem Rc.into{nx:Tx→List Tx}{F:Tx→Prop}(hF:∀x,F x→∀y∈nx x,F y){a b:Tx}(h:Rc nx a b):(∀y∈nx a,F y)→F b:=by
 induction h with
 |one h=>exact fun ha=>ha _ h
 |more h _ ih=>exact fun ha=>ih (hF _ (ha _ h))
theorem zyB:∀{a b:List Tx},a.Nodup→(∀x∈a,x∈b)→a.length≤b.length
 | [],b,_,_=>by simp
 |x ::r,b,h,hs=>by
  rw [List.nodup_cons] at h
  have hx:=hs x (by simp)
  have h1:=zyB (a:=r) (b:=b.erase x) h.2 (fun y hy=>(List.mem_erase_of_ne (fun e=>h.1 (by rw [←e];exact hy))).2 (hs y (by simp [hy])))
  have h2:=List.length_erase_of_mem hx
  have h3:=List.length_pos_of_mem hx
  simp only [List.length_cons]
  omega
def push(z8:List Tx):List Tx→List Tx
 | []=>z8
 |s ::r=>push (cond (z8.any fun y=>s == y) z8 (z8++[s])) r
theorem zxd{s:Tx}{l:List Tx}:(l.any fun y=>s == y)=true↔s∈l:=by
 rw [List.any_eq_true]
 constructor
 ·rintro ⟨y,h1,h2⟩;rw [eq_of_beq h2];exact h1
 ·intro h;exact ⟨s,h,beq_self_eq_true _⟩
theorem ziN:∀(l z8:List Tx),∃t,push z8 l=z8++t∧t.Nodup∧(∀x∈t,x ∉ z8∧x∈l)∧∀x∈l,x∈z8++t
 | [],z8=>⟨[],by simp [push],by simp,fun x h=>(by cases h),fun x h=>(by cases h)⟩
 |s ::r,z8=>by
  unfold push
  cases h:(z8.any fun y=>s == y) with
  |true =>
   obtain ⟨t,h1,h2,h3,h4⟩:=ziN r z8
   refine ⟨t,h1,h2,fun x hx=>⟨(h3 x hx).1,List.mem_cons_of_mem _ (h3 x hx).2⟩,fun x hx=>?_⟩
   rcases List.mem_cons.1 hx with e |e
   ·rw [e];exact List.mem_append_left _ (zxd.1 h)
   ·exact h4 x e
  |false =>
   have hs:s ∉ z8:=fun hm=>by rw [zxd.2 hm] at h;cases h
   obtain ⟨t,h1,h2,h3,h4⟩:=ziN r (z8++[s])
   refine ⟨s ::t,by show push (z8++[s]) r=_;rw [h1];simp,List.nodup_cons.2 ⟨fun hm=>(h3 s hm).1 (by simp),h2⟩,fun x hx=>?_,fun x hx=>?_⟩
   ·rcases List.mem_cons.1 hx with e |e
    ·rw [e];exact ⟨hs,by simp⟩
    ·exact ⟨fun hm=>(h3 x e).1 (List.mem_append_left _ hm),List.mem_cons_of_mem _ (h3 x e).2⟩
   ·rcases List.mem_cons.1 hx with e |e
    ·rw [e];simp
    ·have:=h4 x e
     simpa using this
def bfs(nx:Tx→List Tx):Nat→Nat→List Tx→List Tx
 | 0,_,z8=>z8
 |d+1,i,z8=>match z8[i]? with |none=>z8 |some x=>bfs nx d (i+1) (push z8 (nx x))
def fin(nx:Tx→List Tx):Nat→Nat→List Tx→Bool
 | 0,i,z8=>decide (z8.length≤i)
 |d+1,i,z8=>match z8[i]? with |none=>true |some x=>fin nx d (i+1) (push z8 (nx x))
def Inv(U s0 z8:List Tx):Prop:=∃T,z8=s0++T∧T.Nodup∧(∀x∈T,x∈U) 
theorem Inv.push{U s0 z8 l:List Tx}(h:Inv U s0 z8)(hU:∀y∈l,y∈U):Inv U s0 (push z8 l):=by
 obtain ⟨T,h1,h2,h3⟩:=h
 obtain ⟨t,k1,k2,k3,k4⟩:=ziN l z8
 refine ⟨T++t,by rw [k1,h1];simp,List.nodup_append.2 ⟨h2,k2,fun a ha b hb e=>(k3 b hb).1 (by rw [h1,←e];exact List.mem_append_right _ ha)⟩,fun x hx=>?_⟩
 rcases List.mem_append.1 hx with e |e
 ·exact h3 x e
 ·exact hU x (k3 x e).2
theorem Inv.len{U s0 z8:List Tx}(h:Inv U s0 z8):z8.length≤s0.length+U.length:=by
 obtain ⟨T,h1,h2,h3⟩:=h
 have:=zyB h2 h3
 rw [h1,List.length_append];omega
theorem Inv.mem{U s0 z8:List Tx}(h:Inv U s0 z8)(h0:∀x∈s0,x∈U):∀x∈z8,x∈U:=by
 obtain ⟨T,h1,h2,h3⟩:=h
 intro x hx
 rw [h1] at hx
 rcases List.mem_append.1 hx with e |e
 ·exact h0 x e
 ·exact h3 x e
theorem Inv.start{U s0:List Tx}:Inv U s0 s0:=⟨[],by simp,by simp,fun x h=>(by cases h)⟩
theorem zxJ{nx:Tx→List Tx}{U s0:List Tx}(hU:∀x y,y∈nx x→y∈U):∀(d i:Nat) (z8:List Tx),Inv U s0 z8→s0.length+U.length≤d+i→fin nx d i z8=true
 | 0,i,z8,h,hd=>by
  have:=h.len
  exact decide_eq_true (by omega)
 |d+1,i,z8,h,hd=>by
  unfold fin
  cases z8[i]? with
  |none=>rfl
  |some x=>exact zxJ hU d (i+1) _ (h.push (hU x)) (by omega)
theorem znt{nx:Tx→List Tx}:∀(d i:Nat) (z8:List Tx),∃t,bfs nx d i z8=z8++t
 | 0,i,z8=>⟨[],by simp [bfs]⟩
 |d+1,i,z8=>by
  unfold bfs
  cases z8[i]? with
  |none=>exact ⟨[],by simp⟩
  |some x =>
   obtain ⟨t,h⟩:=znt (nx:=nx) d (i+1) (push z8 (nx x))
   obtain ⟨u,k,_⟩:=ziN (nx x) z8
   exact ⟨u++t,by show bfs nx d (i+1) _=_;rw [h,k];simp⟩
theorem zxl{nx:Tx→List Tx}{U s0:List Tx}(hU:∀x y,y∈nx x→y∈U):∀(d i:Nat) (z8:List Tx),Inv U s0 z8→Inv U s0 (bfs nx d i z8)
 | 0,i,z8,h=>h
 |d+1,i,z8,h=>by
  unfold bfs
  cases z8[i]? with
  |none=>exact h
  |some x=>exact zxl hU d (i+1) _ (h.push (hU x))
theorem zpa{nx:Tx→List Tx}{Q:Tx→Prop}(hQ:∀x,Q x→∀y∈nx x,Q y):∀(d i:Nat) (z8:List Tx),(∀x∈z8,Q x)→∀x∈bfs nx d i z8,Q x
 | 0,i,z8,h=>h
 |d+1,i,z8,h=>by
  unfold bfs
  cases hi:z8[i]? with
  |none=>exact h
  |some x =>
   refine zpa hQ d (i+1) _ fun y hy=>?_
   obtain ⟨u,k1,_,k3,_⟩:=ziN (nx x) z8
   rw [k1] at hy
   rcases List.mem_append.1 hy with e |e
   ·exact h y e
   ·exact hQ x (h x (List.mem_of_getElem? hi)) y (k3 y e).2
theorem zn7{nx:Tx→List Tx}:∀(d i:Nat) (z8:List Tx),fin nx d i z8=true→(∀j x,j<i→z8[j]?=some x→∀y∈nx x,y∈z8)→∀x∈bfs nx d i z8,∀y∈nx x,y∈bfs nx d i z8
 | 0,i,z8,hf,h=>fun x hx y hy=>by
  have hl:z8.length≤i:=of_decide_eq_true hf
  obtain ⟨j,hj,e⟩:=List.getElem_of_mem (show x∈z8 from hx)
  exact h j x (by omega) (by rw [List.getElem?_eq_getElem hj,e]) y hy
 |d+1,i,z8,hf,h=>by
  unfold fin at hf
  unfold bfs
  cases hi:z8[i]? with
  |none =>
   intro x hx y hy
   have hl:z8.length≤i:=List.getElem?_eq_none_iff.1 hi
   obtain ⟨j,hj,e⟩:=List.getElem_of_mem (show x∈z8 from hx)
   exact h j x (by omega) (by rw [List.getElem?_eq_getElem hj,e]) y hy
  |some z =>
   rw [hi] at hf
   obtain ⟨u,k1,_,k3,k4⟩:=ziN (nx z) z8
   have hlt:i<z8.length:=(List.getElem?_eq_some_iff.1 hi).1
   refine zn7 d (i+1) _ hf fun j x hj hx y hy=>?_
   rw [k1] at hx ⊢
   rw [List.getElem?_append_left (by omega)] at hx
   by_cases e:j=i
   ·subst e
    rw [hi] at hx
    cases hx
    exact k4 y hy
   ·exact List.mem_append_left _ (h j x (by omega) hx y hy)
theorem zC8{nx:Tx→List Tx}{d:Nat}{a b:Tx}(hf:fin nx d 0 (nx a)=true):b∈bfs nx d 0 (nx a)↔Rc nx a b:=by
 constructor
 ·exact zpa (Q:=fun x=>Rc nx a x) (fun x hx y hy=>hx.snoc hy) d 0 _ (fun x hx=>.one hx) b
 ·intro h
  refine h.into (F:=fun x=>x∈bfs nx d 0 (nx a)) (zn7 d 0 _ hf (fun j x hj=>by omega)) fun y hy=>?_
  obtain ⟨t,e⟩:=znt (nx:=nx) d 0 (nx a)
  rw [e];exact List.mem_append_left _ hy
theorem ztv{R:Type}{I:List Tx→Prop}{nx:Tx→List Tx}{stop:Tx→Option R}{body:List Tx×Int→Option (Sum (List Tx×Int) (Sum Unit R))}
  (hb:∀(i:Nat) z8 x,I z8→z8[i]?=some x→body (z8,(i:Int))=match stop x with |some r=>some (.inr (.inr r)) |none=>some (.inl (push z8 (nx x),((i+1:Nat):Int))))
  (he:∀(i:Nat) z8,I z8→z8.length≤i→body (z8,(i:Int))=some (.inr (.inl ())))
  (hp:∀z8 x,I z8→x∈z8→I (push z8 (nx x))):∀(d i:Nat) (z8:List Tx),I z8→fin nx d i z8=true →
  zm body (z8,(i:Int))=some (match ((bfs nx d i z8).drop i).findSome? stop with |some r=>(Sum.inr r:Sum Unit R) |none=>Sum.inl ())
 | 0,i,z8,hI,hf=>by
  have hl:z8.length≤i:=of_decide_eq_true hf
  rw [zE,he i z8 hI hl]
  show _=some (match (z8.drop i).findSome? stop with |some r=>(Sum.inr r:Sum Unit R) |none=>Sum.inl ())
  rw [List.drop_eq_nil_of_le hl]
  rfl
 |d+1,i,z8,hI,hf=>by
  unfold fin at hf
  unfold bfs
  cases hi:z8[i]? with
  |none =>
   have hl:z8.length≤i:=List.getElem?_eq_none_iff.1 hi
   rw [zE,he i z8 hI hl]
   show _=some (match (z8.drop i).findSome? stop with |some r=>(Sum.inr r:Sum Unit R) |none=>Sum.inl ())
   rw [List.drop_eq_nil_of_le hl]
   rfl
  |some x =>
   rw [hi] at hf
   obtain ⟨t,ht⟩:=znt (nx:=nx) d (i+1) (push z8 (nx x))
   obtain ⟨u,hu,_⟩:=ziN (nx x) z8
   have hx:(bfs nx d (i+1) (push z8 (nx x)))[i]?=some x:=by
    rw [ht,hu,List.append_assoc,List.getElem?_append_left (List.getElem?_eq_some_iff.1 hi).1,hi]
   obtain ⟨hlt,hge⟩:=List.getElem?_eq_some_iff.1 hx
   rw [zE,hb i z8 x hI hi]
   show _=some (match ((bfs nx d (i+1) (push z8 (nx x))).drop i).findSome? stop with |some r=>(Sum.inr r:Sum Unit R) |none=>Sum.inl ())
   rw [List.drop_eq_getElem_cons hlt,List.findSome?_cons,hge]
   cases stop x with
   |some r=>rfl
   |none=>exact ztv hb he hp d (i+1) _ (hp _ _ hI (List.mem_of_getElem? hi)) hf
def nxA(L:List za)(n:Tx):List Tx:=match cl L n with |none=>[] |some c=>(c.Super ::c.Impl).filter (fun s=>!(s == []))
def nxI(L:List za)(n:Tx):List Tx:=match cl L n with |none=>[] |some c=>c.Impl
structure zBB(L:List za):Prop where
 nd:Nd L
 noE:zdL L []=false
 closed:∀c∈L,∀s∈c.Super ::c.Impl,s≠[]→zdL L s=true
 implE:∀c∈L,[] ∉ c.Impl
structure Wf(L:List za):Prop extends zBB L where
 acyc:∀n,¬Rc (nxA L) n n
 superF:∀c∈L,isF L c.Super=false
 implF:∀c∈L,∀s∈c.Impl,isF L s=true
theorem zBB.nxA_in{L:List za}(h:zBB L)(x y:Tx)(hy:y∈nxA L x):y∈L.map (·.Name):=by
 unfold nxA at hy
 split at hy
 ·cases hy
 ·rename_i c hc
  rw [List.mem_filter] at hy
  exact zjF.1 (h.closed c (zbR hc).1 y hy.1 (by have:=hy.2;simpa using this))
theorem zBB.nxI_in{L:List za}(h:zBB L)(x y:Tx)(hy:y∈nxI L x):y∈L.map (·.Name):=by
 unfold nxI at hy
 split at hy
 ·cases hy
 ·rename_i c hc
  exact zjF.1 (h.closed c (zbR hc).1 y (List.mem_cons_of_mem _ hy) (fun e=>h.implE c (zbR hc).1 (by rw [←e];exact hy)))
def sup(L:List za):Nat→Tx→List Tx
 | 0,_=>[]
 |d+1,n=>match cl L n with |none=>[] |some c=>n ::sup L d c.Super
def zty(L:List za):Nat→Tx→Bool
 | 0,n=>!zdL L n
 |d+1,n=>match cl L n with |none=>true |some c=>zty L d c.Super
theorem zvz{L:List za}(h:Wf L):∀(d:Nat) (n:Tx),zty L d n=false→zdL L n=true∧∃r,sup L (d+1) n=n ::r∧r.length=d∧(n ::r).Nodup∧(∀x∈r,x∈L.map (·.Name)∧Rc (nxA L) n x)
 | 0,n,hf=>by
  have hn:zdL L n=true:=by simpa [zty] using hf
  obtain ⟨c,hc⟩:=zf4 hn
  exact ⟨hn,[],by simp [sup,hc],rfl,by simp,fun x h=>(by cases h)⟩
 |d+1,n,hf=>by
  unfold zty at hf
  split at hf
  ·cases hf
  ·rename_i c hc
   obtain ⟨h0,r,h1,h2,h3,h4⟩:=zvz h d c.Super hf
   have hs:c.Super∈nxA L n:=by
    unfold nxA
    rw [hc]
    refine List.mem_filter.2 ⟨by simp,?_⟩
    have:c.Super≠[]:=fun e=>by rw [e,h.noE] at h0;cases h0
    simpa using this
   have h5:∀x∈c.Super ::r,x∈L.map (·.Name)∧Rc (nxA L) n x:=fun x hx=>by
    rcases List.mem_cons.1 hx with e |e
    ·rw [e];exact ⟨zjF.1 h0,.one hs⟩
    ·exact ⟨(h4 x e).1,.more hs (h4 x e).2⟩
   refine ⟨zgP hc,c.Super ::r,?_,by simp [h2],List.nodup_cons.2 ⟨fun hm=>h.acyc n (h5 n hm).2,h3⟩,h5⟩
   show (match cl L n with |none=>[] |some c=>n ::sup L (d+1) c.Super)=_
   rw [hc]
   show n ::sup L (d+1) c.Super=_
   rw [h1]
theorem zr9{L:List za}(h:Wf L)(n:Tx):zty L L.length n=true:=by
 cases hf:zty L L.length n with
 |true=>rfl
 |false =>
  obtain ⟨h0,r,h1,h2,h3,h4⟩:=zvz h _ n hf
  have:=zyB h3 (b:=L.map (·.Name)) (fun x hx=>by
   rcases List.mem_cons.1 hx with e |e
   ·rw [e];exact zjF.1 h0
   ·exact (h4 x e).1)
  simp at this
  omega
def zwY:Tx:=[79,98,106,101,99,116]
def zAR:Tx:=[84,104,114,111,119,110]
def gC(n s:Tx):za:=za.mk n s false [] [] []
def giv:List za:=[gC zwY [],gC zAR zwY,gC [78,117,108,108,69,114,114] zAR,gC [82,97,110,103,101,69,114,114] zAR,gC [77,97,116,104,69,114,114] zAR,gC [67,97,115,116,69,114,114] zAR,
 gC [83,105,122,101,69,114,114] zAR,gC [83,116,111,114,101,69,114,114] zAR,gC [73,110,105,116,69,114,114] zAR,gC [67,108,97,115,115,69,114,114] zAR]
theorem zru:zod=some giv:=by kernel_rfl
def zs2(k:Nat)(m:List (Tx×Int)):List za→List (Tx×Int)
 | []=>m
 |c ::r=>zs2 (k+1) (zgS c.Name (k:Int) m) r
def fresh(pre:List za):List za→Bool
 | []=>true
 |c ::r=>!zdL pre c.Name&&fresh (pre++[c]) r
theorem zvd:∀(r pre:List za) (m:List (Tx×Int)),zbc pre m→fresh pre r=true→zbc (pre++r) (zs2 pre.length m r)
 | [],pre,m,h,_=>by simpa [zs2] using h
 |c ::r,pre,m,h,hf=>by
  simp only [fresh,Bool.and_eq_true,Bool.not_eq_true'] at hf
  have:=zvd r (pre++[c]) _ (h.snoc hf.1) hf.2
  simpa [zs2] using this
theorem zu1:∀(r pre:List za),Nd pre→fresh pre r=true→Nd (pre++r)
 | [],pre,h,_=>by simpa using h
 |c ::r,pre,h,hf=>by
  simp only [fresh,Bool.and_eq_true,Bool.not_eq_true'] at hf
  have:=zu1 r (pre++[c]) (h.snoc hf.1) hf.2
  simpa using this
theorem zCe:zm (fun z=>zpv giv z.1 z.2) ([],0)=some (.inl (zs2 0 [] giv)):=by kernel_rfl
theorem zxS:zbc giv (zs2 0 [] giv):=zvd giv [] [] (fun n=>rfl) (by decide +kernel)
theorem zsG:Nd giv:=zu1 giv [] (fun i j c d h=>by simp at h) (by decide +kernel)
def lay:List za→List za→Option (List za)
 |L,[]=>some L
 |L,c ::r=>cond (zdL L c.Name||!zsX c) none (lay (L++[c]) r)
theorem zsP:∀(r L L':List za),Nd L→lay L r=some L'→L'=L++r∧Nd L'∧∀c∈r,zsX c=true
 | [],L,L',h,e=>by
  unfold lay at e
  cases e
  exact ⟨by simp,h,fun c hc=>by cases hc⟩
 |c ::r,L,L',h,e=>by
  unfold lay at e
  cases h1:zdL L c.Name with
  |true=>rw [h1] at e;cases e
  |false =>
   cases h2:zsX c with
   |false=>rw [h1,h2] at e;cases e
   |true =>
    rw [h1,h2] at e
    obtain ⟨k1,k2,k3⟩:=zsP r (L++[c]) L' (h.snoc h1) e
    refine ⟨by rw [k1];simp,k2,fun d hd=>?_⟩
    rcases List.mem_cons.1 hd with e |e
    ·rw [e];exact h2
    ·exact k3 d e
theorem zEO{w:Nat}{L:List za}{c:za}(h:L.length≤1000)(hw:w≤1000):zgT w L [c]=some (L++[c]):=by
 refine zbF ?_ (by simp;omega)
 have:(L.length+[c].length)*w≤1001*1000:=Nat.mul_le_mul (by simp;omega) hw
 omega
theorem zu9{l:List za}(hl:l.length≤16)(hc:∀c∈l,zC0 c):∀(r pre L:List za) (m:List (Tx×Int)),l=pre++r→zbc L m→L.length=10+pre.length →
  (lay L r=none→zm (fun z=>zen l z.1 z.2.1 z.2.2) (L,m,(pre.length:Int))=some (.inr (none,1))) ∧
  (∀L',lay L r=some L'→∃m',zbc L' m'∧zm (fun z=>zen l z.1 z.2.1 z.2.2) (L,m,(pre.length:Int))=some (.inl (L',m')))
 | [],pre,L,m,e,hm,hL=>by
  rw [List.append_nil] at e
  subst e
  unfold lay
  refine ⟨fun h=>(by cases h),fun L' h=>?_⟩
  cases h
  refine ⟨m,hm,?_⟩
  rw [zE]
  show (zen l L m (l.length:Int)).bind _=_
  unfold zen
  rw [zfJ];rfl
 |c ::r,pre,L,m,e,hm,hL=>by
  have hlen:l.length=pre.length+(r.length+1):=by rw [e];simp
  have hx:l[pre.length]?=some c:=by rw [e];simp
  have hcm:c∈l:=List.mem_of_getElem? hx
  have step:zm (fun z=>zen l z.1 z.2.1 z.2.2) (L,m,(pre.length:Int))=(cond (zdL L c.Name||!zsX c) (some (.inr (.inr (none,1)))) (some (.inl (L++[c],zgS c.Name (L.length:Int) m,((pre.length+1:Nat):Int))))).bind (Sum.elim (zm (fun z=>zen l z.1 z.2.1 z.2.2)) some):=by
   rw [zE]
   show (zen l L m (pre.length:Int)).bind _=_
   congr 1
   unfold zen
   rw [zfk hx,zs,hx]
   simp only [cond_true,Option.bind_some]
   rw [hm.has,zrj (hc c hcm),zEO (by omega) (by omega),zQ (by omega)]
   cases zdL L c.Name <;> cases zsX c <;> rfl
  rw [step]
  unfold lay
  cases h1:(zdL L c.Name||!zsX c) with
  |true=>exact ⟨fun _=>rfl,fun L' h=>by cases h⟩
  |false =>
   rw [Bool.or_eq_false_iff] at h1
   have:=zu9 hl hc r (pre++[c]) (L++[c]) _ (by rw [e];simp) (hm.snoc h1.1) (by simp;omega)
   rw [show (pre++[c]).length=pre.length+1 by simp] at this
   exact this
structure Okc(c:za):Prop where
 name:c.Name≠[]
 impl:c.Impl.length≤4
 implE:∀s∈c.Impl,s≠[]
theorem zjP{s:Tx}(h:zcQ s=true):s≠[]:=by
 intro e
 subst e
 unfold zcQ at h
 simp at h
theorem zq7{α:Type}{ok:α→Bool}{nm:α→List UInt8}:∀{l pre:List α},uB ok nm pre l=false→∀x∈l,ok x=true
 | [],_,_,x,hx=>by cases hx
 |y ::r,pre,h,x,hx=>by
  unfold uB at h
  simp only [Bool.or_eq_false_iff,Bool.not_eq_false'] at h
  rcases List.mem_cons.1 hx with e |e
  ·rw [e];exact h.1.1
  ·exact zq7 h.2 x e
theorem zCw{c:za}(h:zsX c=true):Okc c:=by
 unfold zsX at h
 simp only [Bool.and_eq_true,Bool.not_eq_true',decide_eq_true_eq] at h
 obtain ⟨_,⟨⟨⟨⟨h1,h2⟩,h3,h4⟩,h5⟩,h6⟩⟩:=h
 exact ⟨zjP h1,by omega,fun s hs=>zjP (zq7 h3 s hs)⟩
theorem zCf:∀c∈giv,Okc c:=by
 intro c hc
 have h:giv.all (fun c=>!(c.Name == [])&&(c.Impl == []))=true:=by decide +kernel
 have:=List.all_eq_true.1 h c hc
 simp only [Bool.and_eq_true,Bool.not_eq_true',beq_eq_false_iff_ne,beq_iff_eq] at this
 exact ⟨this.1,by rw [this.2];simp,fun s hs=>by rw [this.2] at hs;cases hs⟩
theorem zt4{l L:List za}(h:lay giv l=some L):∀c∈L,Okc c:=by
 obtain ⟨h1,h2,h3⟩:=zsP l giv L zsG h
 intro c hc
 rw [h1] at hc
 rcases List.mem_append.1 hc with e |e
 ·exact zCf c e
 ·exact zCw (h3 c e)
theorem zzG{c:za}(h:c.Impl.length≤4):zgT 16 [c.Super] c.Impl=some (c.Super ::c.Impl):=zbF (by simp;omega) (by simp;omega)
theorem zkq{c:za}(h:c.Impl.length≤4):ziR c=some (c.Super ::c.Impl):=by
 unfold ziR;rw [zzG h];rfl
theorem zxu{l:List Tx}{L:List za}{m:List (Tx×Int)}(hm:zbc L m)(hl:l.length≤1000):zas l L m=some (l.any fun s=>!zdL L s):=by
 unfold zas zcJ
 rw [show ((zm (fun z=>za6 l L m z) 0).bind fun o=>zI o (fun b=>zd9) some)=_ from zay (l:=l) (p:=fun s=>!zdL L s) (by omega)
  (fun i x hx=>by unfold za6 zlZ zbd;rw [zfk hx,zs,hx];simp only [cond_true,Option.bind_some];rw [hm.has]) (by unfold za6;rw [zfJ];rfl)]
 exact congrArg some (zdT _ 0 l)
theorem zqJ{L:List za}{m:List (Tx×Int)}(hm:zbc L m){n:Tx}(hn:zdL L n=true):zdk L m n=cl L n:=by
 unfold zdk
 rw [hm.idx hn]
 cases cl L n <;> rfl
theorem zxv{l:List Tx}{L:List za}{m:List (Tx×Int)}(hm:zbc L m)(hl:l.length≤1000)(hh:∀s∈l,zdL L s=true):zat l L m=some (l.any fun s=>!isF L s):=by
 unfold zat zcK
 rw [show ((zm (fun z=>za7 l L m z) 0).bind fun o=>zI o (fun b=>zea) some)=_ from zay (l:=l) (p:=fun s=>!isF L s) (by omega)
  (fun i x hx=>by
   obtain ⟨c,hc⟩:=zf4 (hh x (List.mem_of_getElem? hx))
   unfold za7 ziu isF
   rw [zfk hx,zs,hx];simp only [cond_true,Option.bind_some];rw [zqJ hm (zgP hc),hc];rfl) (by unfold za7;rw [zfJ];rfl)]
 exact congrArg some (zdT _ 0 l)
def cyc(L:List za)(n:Tx):Bool:=@decide (Rc (nxA L) n n) (Classical.propDecidable _)
theorem ztJ{L:List za}{n:Tx}:cyc L n=true↔Rc (nxA L) n n:=by unfold cyc;exact @decide_eq_true_iff _ (Classical.propDecidable _)
def zvY(L:List za)(c:za):Bool:=isF L c.Super||(c.Impl.any (fun s=>!isF L s)||cyc L c.Name)
theorem zpP{R:Type}{body:List Tx×Int→Option (Sum (List Tx×Int) (Sum (List Tx) R))}{l:List Tx}{p:Tx→Bool}(hl:l.length≤100)
  (hb:∀(i:Nat) x z8,z8.length≤1000→l[i]?=some x→body (z8,(i:Int))=some (.inl (cond (p x&&!(z8.any fun y=>x == y)) (z8++[x]) z8,IntKind.i64.wrap ((i:Int)+1))))
  (he:∀z8,body (z8,(l.length:Int))=some (.inr (.inl z8))):∀(r pre z8:List Tx),l=pre++r→z8.length+r.length≤1000→zm body (z8,(pre.length:Int))=some (.inl (push z8 (r.filter p)))
 | [],pre,z8,e,hs=>by
  rw [List.append_nil] at e
  subst e
  rw [zE,he];rfl
 |x ::r,pre,z8,e,hs=>by
  have hlen:l.length=pre.length+(r.length+1):=by rw [e];simp
  have hx:l[pre.length]?=some x:=by rw [e];simp
  simp only [List.length_cons] at hs
  rw [zE,hb _ x z8 (by omega) hx,zQ (by omega)]
  have ih:=fun s h=>zpP hl hb he r (pre++[x]) s (by rw [e];simp) h
  rw [show (pre++[x]).length=pre.length+1 by simp] at ih
  cases h1:p x with
  |false =>
   rw [List.filter_cons_of_neg (by rw [h1];exact Bool.false_ne_true)]
   exact ih z8 (by omega)
  |true =>
   rw [List.filter_cons_of_pos h1]
   unfold push
   cases h2:(z8.any fun y=>x == y) with
   |true=>exact ih z8 (by omega)
   |false=>exact ih (z8++[x]) (by simp;omega)
theorem zoW{l:List Tx}(hl:l.length≤1000)(n:Tx):zx l n=some (l.any fun y=>n == y):=zrs (by unfold zjL;omega) n
theorem zxL{l z8:List Tx}(hl:l.length≤100)(hs:z8.length+l.length≤1000):zm (fun z=>zee l z.1 z.2) (z8,0)=some (.inl (push z8 (l.filter (fun s=>!(s == []))))):=by
 refine zpP (l:=l) (p:=fun s=>!(s == [])) hl (fun i x s h hx=>?_) (fun s=>?_) l [] z8 rfl hs
 ·show zee l s (i:Int)=_
  unfold zee zgt
  rw [zfk hx,zs,hx]
  simp only [cond_true,Option.bind_some]
  rw [zoW h,zbF (w:=16) (l:=s) (x:=[x]) (by simp;omega) (by simp;omega)]
  cases (x == []) <;> cases (s.any fun y=>x == y) <;> rfl
 ·show zee l s (l.length:Int)=_
  unfold zee
  rw [zfJ];rfl
theorem zvf{L:List za}{n:Tx}{c:za}(h:cl L n=some c):nxA L n=(c.Super ::c.Impl).filter (fun s=>!(s == [])):=by unfold nxA;rw [h]
theorem zBm{L:List za}(hL:∀c∈L,Okc c)(n:Tx):(nxA L n).length≤5:=by
 unfold nxA
 split
 ·simp
 ·rename_i c hc
  have:=(hL c (zbR hc).1).impl
  exact Nat.le_trans (List.length_filter_le _ _) (by simp;omega)
theorem zAv(l z8:List Tx):(push z8 l).length≤z8.length+l.length:=by
 induction l generalizing z8 with
 |nil=>simp [push]
 |cons x r ih =>
  unfold push
  cases (z8.any fun y=>x == y) with
  |true=>have:=ih z8;simp only [cond_true,List.length_cons];omega
  |false=>have:=ih (z8++[x]);simp only [cond_false,List.length_cons];simp at this;omega
theorem zB9{L:List za}{m:List (Tx×Int)}(hm:zbc L m)(h:zBB L)(hO:∀c∈L,Okc c)(hlen:L.length≤100){c:za}(hc:c∈L)(hs:c.Super≠[]):zfO L m c=some (!zvY L c):=by
 have hcs:=h.closed c hc
 have hsup:zdL L c.Super=true:=hcs c.Super (by simp) hs
 obtain ⟨x,hx⟩:=zf4 hsup
 have himp:∀s∈c.Impl,zdL L s=true:=fun s hm=>hcs s (by simp [hm]) ((hO c hc).implE s hm)
 have hi4:=(hO c hc).impl
 have e0:(c.Super ::c.Impl)=nxA L c.Name:=by
  rw [zvf (h.nd.cl hc),List.filter_eq_self.2]
  intro s hsm
  rcases List.mem_cons.1 hsm with e |e
  ·rw [e];simpa using hs
  ·simpa using (hO c hc).implE s e
 unfold zfO
 rw [zqJ hm hsup,hx,zxv hm (by omega) himp,zkq hi4]
 simp only [Option.bind_some]
 have eF:isF L c.Super=x.Interface:=by unfold isF;rw [hx]
 unfold zvY
 rw [eF]
 cases x.Interface with
 |true=>rfl
 |false =>
  cases c.Impl.any (fun s=>!isF L s) with
  |true=>rfl
  |false =>
   have hfin:fin (nxA L) (5+L.length) 0 (nxA L c.Name)=true:=zxJ (U:=L.map (·.Name)) (s0:=nxA L c.Name) h.nxA_in _ _ _ .start (by have:=zBm hO c.Name;simp;omega)
   have hw:=ztv (R:=Bool) (I:=fun s=>Inv (List.map (fun c:za=>c.Name) L) (nxA L c.Name) s) (nx:=nxA L) (stop:=fun y=>cond (y == c.Name) (some false) none) (body:=fun z=>zc4 L m c z.1 z.2)
    (fun i z8 y hI hy=>by
     have hsl:=hI.len
     have h5:=zBm hO c.Name
     have hym:zdL L y=true:=zjF.2 (hI.mem (fun z hz=>h.nxA_in _ z hz) y (List.mem_of_getElem? hy))
     obtain ⟨d,hd⟩:=zf4 hym
     have hd4:=(hO d (zbR hd).1).impl
     have hpl:=zAv (nxA L y) z8
     simp only [List.length_map] at hsl
     show zc4 L m c z8 (i:Int)=_
     unfold zc4 zjS
     rw [zfk hy,zs,hy]
     simp only [cond_true,Option.bind_some]
     have hilt:=(List.getElem?_eq_some_iff.1 hy).1
     rw [zqJ hm hym,hd]
     simp only [Option.bind_some]
     rw [zkq hd4]
     simp only [Option.bind_some]
     rw [zxL (by simp;omega) (by simp;omega),←zvf hd,zQ (by omega)]
     cases y == c.Name <;> rfl)
    (fun i z8 hI hle=>by
     show zc4 L m c z8 (i:Int)=_
     unfold zc4
     rw [decide_eq_false (by omega)];rfl)
    (fun z8 y hI hy=>hI.push (h.nxA_in y)) (5+L.length) 0 (nxA L c.Name) .start hfin
   rw [e0]
   rw [show zm (fun z=>zc4 L m c z.1 z.2) (nxA L c.Name,0)=_ from hw,List.drop_zero,zck]
   have:(bfs (nxA L) (5+L.length) 0 (nxA L c.Name)).any (fun y=>y == c.Name)=cyc L c.Name:=by
    rw [Bool.eq_iff_iff,ztJ,←zC8 hfin,List.any_eq_true]
    constructor
    ·rintro ⟨y,h1,h2⟩;obtain rfl:=eq_of_beq h2;exact h1
    ·intro h1;exact ⟨_,h1,beq_self_eq_true _⟩
   rw [this]
   cases cyc L c.Name <;> rfl
def onB(inn:List Bool)(n:Nat):Bool:=inn.getD n false
def zqs(L:List za)(inn:List Bool)(s:Tx):Bool:=zdL L s&&!onB inn (atN L s).toNat
def mk1(L:List za)(inn:List Bool)(s:Tx):List Bool:=cond (zqs L inn s) (inn.set (atN L s).toNat true) inn
def mkS(L:List za):List Bool→List Tx→List Bool
 |inn,[]=>inn
 |inn,s ::r=>mkS L (mk1 L inn s) r
theorem zxj{L:List za}{s:Tx}(h:zdL L s=true):0≤atN L s∧(atN L s).toNat<L.length:=by
 unfold zdL at h
 unfold atN
 rcases zpy (fun c:za=>c.Name == s) L 0 with ⟨j,x,h1,h2,h3,h4⟩ |⟨h1,h2⟩
 ·have:=(List.getElem?_eq_some_iff.1 h2).1
  rw [h1]
  omega
 ·rw [List.any_eq_true] at h
  obtain ⟨c,k1,k2⟩:=h
  have:=List.find?_eq_none.1 h2 c k1
  exact absurd k2 this
theorem zrN(L:List za)(inn:List Bool)(s:Tx):(mk1 L inn s).length=inn.length:=by
 unfold mk1
 cases zqs L inn s <;> simp
theorem zog(L:List za):∀(l:List Tx) (inn:List Bool),(mkS L inn l).length=inn.length
 | [],inn=>rfl
 |s ::r,inn=>by unfold mkS;rw [zog L r,zrN]
theorem zBo{inn:List Bool}{n k:Nat}(h:n<inn.length):onB (inn.set n true) k=(onB inn k||Nat.beq k n):=by
 unfold onB
 rw [List.getD_eq_getElem?_getD,List.getD_eq_getElem?_getD,List.getElem?_set]
 by_cases e:n=k
 ·subst e
  simp [h]
 ·rw [if_neg e]
  have:Nat.beq k n=false:=by
   cases hb:Nat.beq k n with
   |false=>rfl
   |true=>exact absurd (Nat.eq_of_beq_eq_true hb).symm e
  rw [this,Bool.or_false]
theorem zDn{L:List za}{inn:List Bool}(hl:inn.length=L.length)(s:Tx)(k:Nat):onB (mk1 L inn s) k=(onB inn k||(zdL L s&&Nat.beq k (atN L s).toNat)):=by
 unfold mk1 zqs
 cases h:zdL L s with
 |false=>simp
 |true =>
  cases h2:onB inn (atN L s).toNat with
  |false =>
   simp only [Bool.not_false,Bool.and_self,cond_true,Bool.true_and]
   exact zBo (by rw [hl];exact (zxj h).2)
  |true =>
   simp only [Bool.not_true,Bool.and_false,cond_false,Bool.true_and]
   cases h3:Nat.beq k (atN L s).toNat with
   |false=>simp
   |true=>rw [Nat.eq_of_beq_eq_true h3,h2];rfl
theorem zya{L:List za}:∀(l:List Tx) (inn:List Bool),inn.length=L.length→∀k,onB (mkS L inn l) k=(onB inn k||l.any (fun s=>zdL L s&&Nat.beq k (atN L s).toNat))
 | [],inn,hl,k=>by simp [mkS]
 |s ::r,inn,hl,k=>by
  unfold mkS
  rw [zya r _ (by rw [zrN];exact hl),zDn hl,List.any_cons,Bool.or_assoc]
theorem zs1{L:List za}:∀(l:List Tx) (inn:List Bool),l.any (zqs L inn)=false→mkS L inn l=inn
 | [],inn,_=>rfl
 |s ::r,inn,h=>by
  rw [List.any_cons,Bool.or_eq_false_iff] at h
  unfold mkS
  have:mk1 L inn s=inn:=by unfold mk1;rw [h.1];rfl
  rw [this,zs1 r inn h.2]
theorem zqS{R:Type}{L:List za}{l:List Tx}{body:List Bool×Bool×Int→Option (Sum (List Bool×Bool×Int) (Sum (List Bool×Bool) R))}(hl:l.length≤1000)
  (hb:∀(j:Nat) s inn more,inn.length=L.length→l[j]?=some s→body (inn,more,(j:Int))=some (.inl (mk1 L inn s,more||zqs L inn s,IntKind.i64.wrap ((j:Int)+1))))
  (he:∀inn more,body (inn,more,(l.length:Int))=some (.inr (.inl (inn,more)))):
  ∀(r pre:List Tx) (inn:List Bool) (more:Bool),l=pre++r→inn.length=L.length→zm body (inn,more,(pre.length:Int))=some (.inl (mkS L inn r,more||r.any (zqs L inn)))
 | [],pre,inn,more,e,hi=>by
  rw [List.append_nil] at e
  subst e
  rw [zE,he]
  show some _=some _
  simp [mkS]
 |s ::r,pre,inn,more,e,hi=>by
  have hlen:l.length=pre.length+(r.length+1):=by rw [e];simp
  have hx:l[pre.length]?=some s:=by rw [e];simp
  rw [zE,hb _ s inn more hi hx,zQ (by omega)]
  have ih:=fun i m h=>zqS hl hb he r (pre++[s]) i m (by rw [e];simp) h
  rw [show (pre++[s]).length=pre.length+1 by simp] at ih
  show zm body (mk1 L inn s,more||zqs L inn s,((pre.length+1:Nat):Int))=_
  rw [ih _ _ (by rw [zrN];exact hi),List.any_cons,show mkS L inn (s ::r)=mkS L (mk1 L inn s) r from rfl]
  cases h:zqs L inn s with
  |true=>simp
  |false =>
   have:mk1 L inn s=inn:=by unfold mk1;rw [h];rfl
   rw [this];simp
def zj3(L:List za)(nx:za→List Tx)(act:Nat→Bool):List Bool→Nat→List za→List Bool
 |inn,_,[]=>inn
 |inn,k,c ::r=>zj3 L nx act (cond (onB inn k||act k) (mkS L inn (nx c)) inn) (k+1) r
def znN(L:List za)(nx:za→List Tx)(act:Nat→Bool):List Bool→Nat→List za→Bool
 |_,_,[]=>false
 |inn,k,c ::r=>cond (onB inn k||act k) ((nx c).any (zqs L inn)) false||znN L nx act (cond (onB inn k||act k) (mkS L inn (nx c)) inn) (k+1) r
section
variable {L : List za} {nx : za → List Tx} {act : Nat → Bool}
theorem zvm:∀(r:List za) (k:Nat) (inn:List Bool),(zj3 L nx act inn k r).length=inn.length
 | [],k,inn=>rfl
 |c ::r,k,inn=>by
  unfold zj3
  rw [zvm r]
  cases onB inn k||act k
  ·rfl
  ·exact zog L _ _
theorem zCK{inn:List Bool}(hl:inn.length=L.length)(b:Bool)(l:List Tx)(n:Nat)(h:onB inn n=true):onB (cond b (mkS L inn l) inn) n=true:=by
 cases b with
 |false=>exact h
 |true=>show onB (mkS L inn l) n=true;rw [zya l inn hl,h];rfl
theorem zta:∀(r:List za) (k:Nat) (inn:List Bool),inn.length=L.length→∀n,onB inn n=true→onB (zj3 L nx act inn k r) n=true
 | [],k,inn,hl,n,h=>h
 |c ::r,k,inn,hl,n,h=>by
  unfold zj3
  refine zta r (k+1) _ ?_ n (zCK hl _ _ n h)
  cases onB inn k||act k
  ·exact hl
  ·exact (zog L _ _).trans hl
theorem zoj:∀(r:List za) (k:Nat) (inn:List Bool),znN L nx act inn k r=false→zj3 L nx act inn k r=inn∧∀(j:Nat) c,r[j]?=some c→(onB inn (k+j)||act (k+j))=true→(nx c).any (zqs L inn)=false
 | [],k,inn,_=>⟨rfl,fun j c h=>by simp at h⟩
 |c ::r,k,inn,h=>by
  unfold znN at h
  unfold zj3
  rw [Bool.or_eq_false_iff] at h
  have e:cond (onB inn k||act k) (mkS L inn (nx c)) inn=inn:=by
   cases hb:onB inn k||act k with
   |false=>rfl
   |true=>rw [hb] at h;exact zs1 _ _ h.1
  rw [e] at h ⊢
  obtain ⟨h1,h2⟩:=zoj r (k+1) inn h.2
  refine ⟨h1,fun j d hj hb=>?_⟩
  cases j with
  |zero =>
   have:c=d:=by simpa using hj
   subst this
   rw [Nat.add_zero] at hb
   rw [hb] at h
   exact h.1
  |succ j=>exact h2 j d (by simpa using hj) (by rw [show k+1+j=k+(j+1) by omega];exact hb)
theorem zqU{Q:Nat→Prop}:∀(r:List za) (k:Nat) (inn:List Bool),inn.length=L.length→(∀(j:Nat) c,r[j]?=some c→(Q (k+j)∨act (k+j)=true)→∀s∈nx c,zdL L s=true→Q (atN L s).toNat) →
  (∀n,onB inn n=true→Q n)→∀n,onB (zj3 L nx act inn k r) n=true→Q n
 | [],k,inn,hl,hQ,h=>h
 |c ::r,k,inn,hl,hQ,h=>by
  unfold zj3
  refine zqU r (k+1) _ ?_ (fun j d hj hor=>?_) (fun n hn=>?_)
  ·cases onB inn k||act k
   ·exact hl
   ·exact (zog L _ _).trans hl
  ·rw [show k+1+j=k+(j+1) by omega] at hor
   exact hQ (j+1) d (by simpa using hj) hor
  ·cases hb:onB inn k||act k with
   |false=>rw [hb] at hn;exact h n hn
   |true =>
    rw [hb] at hn
    have hn:onB (mkS L inn (nx c)) n=true:=hn
    rw [zya _ _ hl,Bool.or_eq_true] at hn
    rcases hn with hn |hn
    ·exact h n hn
    ·rw [List.any_eq_true] at hn
     obtain ⟨s,hs,hs2⟩:=hn
     rw [Bool.and_eq_true] at hs2
     rw [Nat.eq_of_beq_eq_true hs2.2]
     refine hQ 0 c rfl ?_ s hs hs2.1
     rw [Nat.add_zero]
     rw [Bool.or_eq_true] at hb
     exact hb.imp (h k) id
def cnt(inn:List Bool):Nat:=inn.count true
theorem zxt:∀(inn:List Bool) (n:Nat),n<inn.length→onB inn n=false→cnt (inn.set n true)=cnt inn+1
 | [],n,h,_=>by simp at h
 |b ::r,0,h,hb=>by
  have:b=false:=by simpa [onB] using hb
  subst this
  simp [cnt]
 |b ::r,n+1,h,hb=>by
  have:=zxt r n (by simpa using h) (by simpa [onB] using hb)
  unfold cnt at this ⊢
  rw [List.set_cons_succ,List.count_cons,List.count_cons,this]
  omega
theorem zBY{inn:List Bool}(hl:inn.length=L.length)(s:Tx):cnt (mk1 L inn s)=cnt inn+cond (zqs L inn s) 1 0:=by
 unfold mk1
 cases h:zqs L inn s with
 |false=>rfl
 |true =>
  unfold zqs at h
  rw [Bool.and_eq_true,Bool.not_eq_true'] at h
  exact zxt inn _ (by rw [hl];exact (zxj h.1).2) h.2
theorem zxs:∀(l:List Tx) (inn:List Bool),inn.length=L.length→cnt inn+cond (l.any (zqs L inn)) 1 0≤cnt (mkS L inn l)
 | [],inn,hl=>by simp [mkS]
 |s ::r,inn,hl=>by
  have ih:=zxs r (mk1 L inn s) (by rw [zrN];exact hl)
  have h1:=zBY hl s
  unfold mkS
  rw [List.any_cons]
  cases h:zqs L inn s with
  |true=>rw [h] at h1;simp only [cond_true] at h1;simp only [Bool.true_or,cond_true];omega
  |false =>
   have e:mk1 L inn s=inn:=by unfold mk1;rw [h];rfl
   rw [e] at ih ⊢
   simpa using ih
theorem zuN:∀(r:List za) (k:Nat) (inn:List Bool),inn.length=L.length→cnt inn+cond (znN L nx act inn k r) 1 0≤cnt (zj3 L nx act inn k r)
 | [],k,inn,hl=>by simp [zj3,znN]
 |c ::r,k,inn,hl=>by
  unfold zj3 znN
  have hl2:(cond (onB inn k||act k) (mkS L inn (nx c)) inn).length=L.length:=by
   cases onB inn k||act k
   ·exact hl
   ·exact (zog L _ _).trans hl
  have ih:=zuN r (k+1) _ hl2
  have h1:cnt inn+cond (cond (onB inn k||act k) ((nx c).any (zqs L inn)) false) 1 0≤cnt (cond (onB inn k||act k) (mkS L inn (nx c)) inn):=by
   cases onB inn k||act k with
   |false=>simp
   |true=>exact zxs _ _ hl
  generalize cond (onB inn k||act k) ((nx c).any (zqs L inn)) false=x at *
  generalize znN L nx act (cond (onB inn k||act k) (mkS L inn (nx c)) inn) (k+1) r=y at *
  cases x <;> cases y <;> simp only [Bool.or_false,Bool.or_true,cond_true,cond_false] at*<;> omega
theorem zDd(inn:List Bool):cnt inn≤inn.length:=List.count_le_length
theorem zs9{R X:Type}{st:List Bool→Bool→Int→X}{body:X→Option (Sum X (Sum (List Bool×Bool) R))}(hL:L.length≤1000)
  (hb:∀(k:Nat) c inn more,inn.length=L.length→L[k]?=some c→body (st inn more (k:Int))=some (.inl (cond (onB inn k||act k) (st (mkS L inn (nx c)) (more||(nx c).any (zqs L inn)) ((k+1:Nat):Int)) (st inn more ((k+1:Nat):Int)))))
  (he:∀inn more,body (st inn more (L.length:Int))=some (.inr (.inl (inn,more)))):
  ∀(r pre:List za) (inn:List Bool) (more:Bool),L=pre++r→inn.length=L.length→zm body (st inn more (pre.length:Int))=some (.inl (zj3 L nx act inn pre.length r,more||znN L nx act inn pre.length r))
 | [],pre,inn,more,e,hi=>by
  rw [List.append_nil] at e
  subst e
  rw [zE,he]
  show some _=some _
  simp [zj3,znN]
 |c ::r,pre,inn,more,e,hi=>by
  have hx:L[pre.length]?=some c:=by rw [e];simp
  rw [zE,hb _ c inn more hi hx]
  have ih:=fun i m h=>zs9 hL hb he r (pre++[c]) i m (by rw [e];simp) h
  rw [show (pre++[c]).length=pre.length+1 by simp] at ih
  unfold zj3 znN
  cases onB inn pre.length||act pre.length with
  |false =>
   show zm body (st inn more ((pre.length+1:Nat):Int))=_
   rw [ih _ _ hi]
   simp
  |true =>
   show zm body (st (mkS L inn (nx c)) _ ((pre.length+1:Nat):Int))=_
   rw [ih _ _ (by rw [zog];exact hi),Bool.or_assoc]
   rfl
def zEw(L:List za)(nx:za→List Tx)(act:Nat→Bool)(R:List Bool):Prop:=
 ∀(k:Nat) c,L[k]?=some c→(onB R k||act k)=true→∀s∈nx c,zdL L s=true→onB R (atN L s).toNat=true
theorem zCG{inn:List Bool}(h:znN L nx act inn 0 L=false):zEw L nx act inn:=fun k c hk hb s hs hh=>by
 have:=(zoj L 0 inn h).2 k c hk (by rw [Nat.zero_add];exact hb)
 rw [List.any_eq_false] at this
 have:=this s hs
 unfold zqs at this
 rw [hh,Bool.true_and,Bool.not_eq_true',Bool.not_eq_false] at this
 exact this
theorem zqT{R X:Type}{st:List Bool→Bool→X}{body:X→Option (Sum X (Sum (List Bool) R))}{Q:Nat→Prop}
  (hb:∀inn,inn.length=L.length→body (st inn true)=some (.inl (st (zj3 L nx act inn 0 L) (znN L nx act inn 0 L))))
  (he:∀inn,inn.length=L.length→body (st inn false)=some (.inr (.inl inn)))
  (hQ:∀(j:Nat) c,L[j]?=some c→(Q j∨act j=true)→∀s∈nx c,zdL L s=true→Q (atN L s).toNat):
  ∀(d:Nat) (inn:List Bool),inn.length=L.length→L.length≤d+cnt inn→(∀n,onB inn n=true→Q n) →
  ∃F,zm body (st inn true)=some (.inl F)∧F.length=L.length∧zEw L nx act F∧(∀n,onB inn n=true→onB F n=true)∧(∀n,onB F n=true→Q n)
 |d,inn,hl,hd,hq=>by
  have hl2:(zj3 L nx act inn 0 L).length=L.length:=(zvm L 0 inn).trans hl
  rw [zE,hb inn hl]
  cases hg:znN L nx act inn 0 L with
  |false =>
   have e:=(zoj L 0 inn hg).1
   refine ⟨inn,?_,hl,zCG hg,fun n h=>h,hq⟩
   show zm body (st _ false)=_
   rw [zE,he _ hl2,e];rfl
  |true =>
   have hc:=zuN (nx:=nx) (act:=act) L 0 inn hl
   rw [hg] at hc
   simp only [cond_true] at hc
   have hle:=zDd (zj3 L nx act inn 0 L)
   have hq2:∀n,onB (zj3 L nx act inn 0 L) n=true→Q n:=zqU L 0 inn hl (fun j c hj hor=>by rw [Nat.zero_add] at hor;exact hQ j c hj hor) hq
   cases d with
   |zero=>omega
   |succ d =>
    obtain ⟨F,k1,k2,k3,k4,k5⟩:=zqT hb he hQ d _ hl2 (by omega) hq2
    exact ⟨F,k1,k2,k3,fun n h=>k4 n (zta L 0 inn hl n h),k5⟩
end
def mis(L:List za)(c:za):Bool:=(c.Super ::c.Impl).any (fun s=>!zdL L s)
def zwp(l:List za):Option (List za)×Int:=
 cond (decide (16<(l.length:Int))) (none,3) (match lay giv l with
  |none=>(none,1)
  |some L=>cond (l.any (mis L)) (none,4) (cond (l.any (zvY L)) (none,1) (some L,0)))
theorem zx2{l L:List za}(h:lay giv l=some L)(hm:l.any (mis L)=false):zBB L∧∀c∈l,c.Super≠[]:=by
 obtain ⟨h1,h2,h3⟩:=zsP l giv L zsG h
 have hO:=zt4 h
 have noE:zdL L []=false:=by
  cases hh:zdL L [] with
  |false=>rfl
  |true =>
   obtain ⟨c,hc⟩:=zf4 hh
   exact absurd (zbR hc).2 (hO c (zbR hc).1).name
 have hl:∀c∈l,∀s∈c.Super ::c.Impl,zdL L s=true:=fun c hc s hs=>by
  have:=List.any_eq_false.1 hm c hc
  unfold mis at this
  rw [Bool.not_eq_true,List.any_eq_false] at this
  simpa using this s hs
 refine ⟨⟨h2,noE,fun c hc s hs hne=>?_,fun c hc hm=>(hO c hc).implE [] hm rfl⟩,fun c hc e=>?_⟩
 ·rw [h1] at hc
  rcases List.mem_append.1 hc with e |e
  ·have hg:giv.all (fun c=>(c.Super ::c.Impl).all (fun s=>s == []||zdL giv s))=true:=by decide +kernel
   have:=List.all_eq_true.1 (List.all_eq_true.1 hg c e) s hs
   rw [Bool.or_eq_true,beq_iff_eq] at this
   rcases this with e |e
   ·exact absurd e hne
   ·rw [zjF] at e ⊢
    rw [h1,List.map_append]
    exact List.mem_append_left _ e
  ·exact hl c e s hs
 ·have:=hl c hc c.Super (by simp)
  rw [e,noE] at this;cases this
theorem zDq{l L:List za}{m:List (Tx×Int)}(hl:l.length≤16)(hm:zbc L m)(hO:∀c∈l,c.Impl.length≤4):
  zm (fun z=>zhG l L m z) 0=some (zoz () (cond (l.any (mis L)) (some (none,4)) none)):=by
 rw [←zck]
 refine zdN (fun i c hc=>?_) ?_
 ·show zhG l L m (i:Int)=_
  have:=hO c (List.mem_of_getElem? hc)
  have hi:=(List.getElem?_eq_some_iff.1 hc).1
  unfold zhG
  rw [zfk hc,zs,hc]
  simp only [cond_true,Option.bind_some]
  rw [zkq this]
  simp only [Option.bind_some]
  rw [zxu hm (by simp;omega),zQ (by omega)]
  simp only [Option.bind_some]
  show _=some (zxh i (cond (mis L c) _ _))
  unfold mis
  cases ((c.Super ::c.Impl).any fun s=>!zdL L s) <;> rfl
 ·show zhG l L m (l.length:Int)=_
  unfold zhG
  rw [zfJ];rfl
theorem zDr{l L:List za}{m:List (Tx×Int)}(hl:l.length≤16)(hf:∀c∈l,zfO L m c=some (!zvY L c)):
  zm (fun z=>zhH l L m z) 0=some (zoz () (cond (l.any (zvY L)) (some (none,1)) none)):=by
 rw [←zck]
 refine zdN (fun i c hc=>?_) ?_
 ·show zhH l L m (i:Int)=_
  have hi:=(List.getElem?_eq_some_iff.1 hc).1
  unfold zhH
  rw [zfk hc,zs,hc]
  simp only [cond_true,Option.bind_some]
  rw [hf c (List.mem_of_getElem? hc),zQ (by omega)]
  simp only [Option.bind_some]
  cases zvY L c <;> rfl
 ·show zhH l L m (l.length:Int)=_
  unfold zhH
  rw [zfJ];rfl
theorem ztR{l:List za}(hc:∀c∈l,zC0 c):∃m,(∀L,(zwp l).1=some L→zbc L m)∧zkp l=some ((zwp l).1.map (fun L=>zr.mk L m),(zwp l).2):=by
 unfold zkp zwp
 cases hl:decide (16<(l.length:Int)) with
 |true=>exact ⟨[],fun L h=>(by cases h),rfl⟩
 |false =>
  have hl:=of_decide_eq_false hl
  rw [zru]
  simp only [cond_false,Option.bind_some]
  rw [zCe]
  simp only [Option.bind_some,zI]
  have hl16:l.length≤16:=by omega
  obtain ⟨h1,h2⟩:=zu9 hl16 hc l [] giv _ rfl zxS rfl
  unfold zps
  cases hy:lay giv l with
  |none =>
   rw [show zm (fun z=>zen l z.1 z.2.1 z.2.2) (giv,zs2 0 [] giv,0)=_ from h1 hy]
   exact ⟨[],fun L h=>(by cases h),rfl⟩
  |some L =>
   obtain ⟨m,hm,e⟩:=h2 L hy
   rw [show zm (fun z=>zen l z.1 z.2.1 z.2.2) (giv,zs2 0 [] giv,0)=_ from e]
   obtain ⟨k1,k2,k3⟩:=zsP l giv L zsG hy
   have hO:=zt4 hy
   have hlL:∀c∈l,c∈L:=fun c hc=>by rw [k1];exact List.mem_append_right _ hc
   have hlen:L.length≤100:=by rw [k1,List.length_append];have:giv.length=10:=rfl;omega
   simp only [Option.bind_some,zI]
   unfold zpt
   rw [zDq hl16 hm (fun c hc=>(hO c (hlL c hc)).impl)]
   cases hmis:l.any (mis L) with
   |true=>exact ⟨[],fun L h=>(by cases h),rfl⟩
   |false =>
    obtain ⟨hL,hS⟩:=zx2 hy hmis
    simp only [cond_false,Option.bind_some,zI,zoz]
    unfold zpu
    rw [zDr hl16 (fun c hc=>zB9 hm hL hO hlen (hlL c hc) (hS c hc))]
    cases hb:l.any (zvY L) with
    |true=>exact ⟨[],fun L h=>(by cases h),rfl⟩
    |false=>exact ⟨m,fun L' h=>(by cases h;exact hm),rfl⟩
theorem zns{L:List za}(hl:L.length≤1000)(n:Tx):zbM L n=some (atN L n):=by
 unfold zbM
 rw [show ((zm (fun z=>zhq L n z) 0).bind fun o=>zI o (fun b=>zlH) some)=_ from zay (l:=L) (p:=fun c:za=>c.Name == n) (by omega)
  (fun i x hx=>by unfold zhq;rw [zfk hx,zs,hx];rfl) (by unfold zhq;rw [zfJ];rfl)]
 rfl
theorem zBn{inn:List Bool}{k:Nat}(h:k<inn.length):idx inn (k:Int)=some (onB inn k):=by
 rw [zs,List.getElem?_eq_getElem h]
 unfold onB
 rw [List.getD_eq_getElem?_getD,List.getElem?_eq_getElem h];rfl
theorem zuK{L l:List za}(h:L=giv++l){n:Tx}{c:za}(hc:cl giv n=some c):cl L n=some c:=by
 rw [h]
 unfold cl at hc ⊢
 rw [List.find?_append,hc];rfl
theorem zDb{L l:List za}(h:L=giv++l){n:Tx}(hn:zdL giv n=true):cl L n=cl giv n:=by
 obtain ⟨c,hc⟩:=zf4 hn
 rw [hc,zuK h hc]
theorem zz6:giv.all (fun c=>(nxA giv c.Name).all (fun s=>decide (atN giv s<atN giv c.Name)&&zdL giv s))=true:=by decide +kernel
theorem zDg{L l:List za}(h:L=giv++l){a b:Tx}(hr:Rc (nxA L) a b):zdL giv a=true→atN giv b<atN giv a∧zdL giv b=true:=by
 have one:∀{a b:Tx},b∈nxA L a→zdL giv a=true→atN giv b<atN giv a∧zdL giv b=true:=fun {a b} hb ha=>by
  have e:nxA L a=nxA giv a:=by unfold nxA;rw [zDb h ha]
  rw [e] at hb
  obtain ⟨c,hc⟩:=zf4 ha
  have h1:=List.all_eq_true.1 zz6 c (zbR hc).1
  rw [(zbR hc).2] at h1
  have h2:=List.all_eq_true.1 h1 b hb
  rw [Bool.and_eq_true,decide_eq_true_eq] at h2
  exact h2
 induction hr with
 |one hb=>exact one hb
 |more hb _ ih =>
  intro ha
  have h1:=one hb ha
  have h2:=ih h1.2
  exact ⟨by omega,h2.2⟩
theorem zCc{L l:List za}(h:L=giv++l){c:za}(hc:c∈giv):cyc L c.Name=false:=by
 cases hh:cyc L c.Name with
 |false=>rfl
 |true =>
  have:=(zDg h (ztJ.1 hh) (zgP (zsG.cl hc))).1
  omega
theorem zxR:giv.all (fun c=>(c.Impl == [])&&!c.Interface&&(c.Super == []||zdL giv c.Super))=true:=by decide +kernel
theorem zCb{c:za}(hc:c∈giv):c.Impl=[]∧c.Interface=false∧(c.Super=[]∨zdL giv c.Super=true):=by
 have:=List.all_eq_true.1 zxR c hc
 simp only [Bool.and_eq_true,beq_iff_eq,Bool.not_eq_true',Bool.or_eq_true] at this
 exact ⟨this.1.1,this.1.2,this.2⟩
theorem zCd{L l:List za}(h:L=giv++l){n:Tx}(hn:zdL giv n=true):isF L n=false:=by
 obtain ⟨c,hc⟩:=zf4 hn
 unfold isF
 rw [zuK h hc]
 exact (zCb (zbR hc).1).2.1
theorem zCa{L l:List za}(h:L=giv++l)(hE:zdL L []=false){c:za}(hc:c∈giv):zvY L c=false:=by
 obtain ⟨h1,h2,h3⟩:=zCb hc
 unfold zvY
 rw [zCc h hc,h1]
 rcases h3 with e |e
 ·rw [e]
  have:isF L []=false:=by
   unfold isF
   cases hcl:cl L [] with
   |none=>rfl
   |some d=>rw [zgP hcl] at hE;cases hE
  rw [this];rfl
 ·rw [zCd h e];rfl
theorem zpw{L:List za}{n:Tx}{c:za}(h:cl L n=some c):idx L (atN L n)=some c:=by rw [zoD,h]
structure zcC(l L:List za):Prop extends Wf L where
 app:L=giv++l
 few:l.length≤16
 okc:∀c∈L,Okc c
 may:∀c∈l,zsX c=true
theorem zcC.len{l L:List za}(h:zcC l L):L.length≤26:=by
 rw [h.app,List.length_append];have:giv.length=10:=rfl;have:=h.few;omega
theorem zyg{l L:List za}(h:(zwp l).1=some L):zcC l L∧(zwp l).2=0:=by
 unfold zwp at h ⊢
 cases hl:decide (16<(l.length:Int)) with
 |true=>rw [hl] at h;cases h
 |false =>
  rw [hl] at h
  have hl:=of_decide_eq_false hl
  simp only [cond_false] at h ⊢
  cases hy:lay giv l with
  |none=>rw [hy] at h;cases h
  |some L' =>
   rw [hy] at h
   simp only at h ⊢
   cases hmis:l.any (mis L') with
   |true=>rw [hmis] at h;cases h
   |false =>
    cases hb:l.any (zvY L') with
    |true=>rw [hmis,hb] at h;cases h
    |false =>
     rw [hmis,hb] at h
     have e:L'=L:=by
      have h:some L'=some L:=h
      cases h;rfl
     subst e
     obtain ⟨hL,hS⟩:=zx2 hy hmis
     obtain ⟨k1,k2,k3⟩:=zsP l giv L' zsG hy
     have bad:∀c∈L',zvY L' c=false:=fun c hc=>by
      rw [k1] at hc
      rcases List.mem_append.1 hc with e |e
      ·exact zCa k1 hL.noE e
      ·simpa using List.any_eq_false.1 hb c e
     have bad':∀c∈L',isF L' c.Super=false∧(c.Impl.any (fun s=>!isF L' s)=false∧cyc L' c.Name=false):=fun c hc=>by
      have:=bad c hc
      unfold zvY at this
      rw [Bool.or_eq_false_iff,Bool.or_eq_false_iff] at this
      exact this
     refine ⟨⟨⟨hL,fun n hr=>?_,fun c hc=>(bad' c hc).1,fun c hc s hs=>?_⟩,k1,by omega,zt4 hy,k3⟩,rfl⟩
     ·cases hn:cl L' n with
      |none =>
       have:nxA L' n=[]:=by unfold nxA;rw [hn]
       cases hr with
       |one h=>rw [this] at h;cases h
       |more h _=>rw [this] at h;cases h
      |some c =>
       have h1:=(bad' c (zbR hn).1).2.2
       rw [(zbR hn).2] at h1
       rw [ztJ.2 hr] at h1;cases h1
     ·have:=List.any_eq_false.1 (bad' c hc).2.1 s hs
      simpa using this
theorem zyh{l:List za}(h:(zwp l).1=none):(zwp l).2≠0:=by
 unfold zwp at h ⊢
 cases hl:decide (16<(l.length:Int)) with
 |true=>simp
 |false =>
  rw [hl] at h
  simp only [cond_false] at h ⊢
  cases hy:lay giv l with
  |none=>simp
  |some L' =>
   rw [hy] at h
   simp only at h ⊢
   cases hmis:l.any (mis L') with
   |true=>simp
   |false =>
    cases hb:l.any (zvY L') with
    |true=>simp
    |false=>rw [hmis,hb] at h;simp at h
section
variable {l L : List za} {m : List (Tx × Int)}
theorem zpY(h:zcC l L)(hm:zbc L m):∀(d:Nat) (n:Tx) (acc:List Tx),zty L d n=true→acc.length+d≤200→zm (fun z=>zbo L m z.1 z.2) (n,acc)=some (.inl (acc++sup L d n))
 | 0,n,acc,hf,hd=>by
  rw [zE]
  show (zbo L m n acc).bind _=_
  unfold zbo zbd
  rw [hm.has]
  have:zdL L n=false:=by simpa [zty] using hf
  rw [this]
  simp [sup]
 |d+1,n,acc,hf,hd=>by
  rw [zE]
  show (zbo L m n acc).bind _=_
  unfold zbo zbd
  rw [hm.has]
  unfold zty at hf
  unfold sup
  cases hc:cl L n with
  |none=>rw [zmU hc];simp
  |some c =>
   rw [hc] at hf
   rw [zgP hc,zqJ hm (zgP hc),hc,zbF (by simp;omega) (by simp;omega)]
   show zm (fun z=>zbo L m z.1 z.2) (c.Super,acc++[n])=_
   rw [zpY h hm d c.Super (acc++[n]) hf (by simp;omega)]
   simp
def zdW(L:List za)(n:Tx):List Tx:=sup L L.length n
theorem zim(h:zcC l L)(hm:zbc L m)(n:Tx):zak L m n=some (zdW L n):=by
 unfold zak
 rw [zpY h hm L.length n [] (zr9 h.toWf n) (by have:=h.len;simp;omega)]
 rfl
theorem zlM(h:zcC l L):∀(d:Nat) (n:Tx) (acc:List Tx),zty L d n=true→acc.length+d≤200→zm (fun z=>zbt L z.1 z.2) (acc,atN L n)=some (.inl (acc++sup L d n))
 | 0,n,acc,hf,hd=>by
  rw [zE]
  show (zbt L acc (atN L n)).bind _=_
  unfold zbt
  have:zdL L n=false:=by simpa [zty] using hf
  rw [zsx,this]
  simp [sup]
 |d+1,n,acc,hf,hd=>by
  rw [zE]
  show (zbt L acc (atN L n)).bind _=_
  unfold zbt
  rw [zsx]
  unfold zty at hf
  unfold sup
  cases hc:cl L n with
  |none=>rw [zmU hc];simp
  |some c =>
   rw [hc] at hf
   have:=h.len
   rw [zgP hc,zpw hc]
   simp only [cond_true,Option.bind_some]
   rw [zns (by omega),zbF (by simp;omega) (by simp;omega),(zbR hc).2]
   show zm (fun z=>zbt L z.1 z.2) (acc++[n],atN L c.Super)=_
   rw [zlM h d c.Super (acc++[n]) hf (by simp;omega)]
   simp
theorem zhu(h:zcC l L)(n:Tx):zch L n=some (zdW L n):=by
 have:=h.len
 unfold zch
 rw [zns (by omega)]
 simp only [Option.bind_some]
 rw [zlM h L.length n [] (zr9 h.toWf n) (by simp;omega)]
 rfl
theorem zy8:∀(d:Nat) (n:Tx),(sup L d n).length≤d
 | 0,n=>by simp [sup]
 |d+1,n=>by
  unfold sup
  cases cl L n with
  |none=>simp
  |some c=>have:=zy8 d c.Super;simpa using this
theorem ze9(h:zcC l L)(n:Tx):(zdW L n).length≤26:=Nat.le_trans (zy8 _ n) h.len
theorem zuv(h:zcC l L):∀d,sup L d []=[]
 | 0=>rfl
 |d+1=>by
  unfold sup
  cases hE:cl L [] with
  |none=>rfl
  |some c=>have:=zgP hE;rw [h.noE] at this;cases this
theorem ziz(h:zcC l L):∀(d:Nat) (n x:Tx),x∈sup L d n→zdL L x=true∧(x=n∨Rc (nxA L) n x)∧(x=n∨∃c∈L,x=c.Super)
 | 0,n,x,hx=>by simp [sup] at hx
 |d+1,n,x,hx=>by
  unfold sup at hx
  cases hc:cl L n with
  |none=>rw [hc] at hx;cases hx
  |some c =>
   rw [hc] at hx
   rcases List.mem_cons.1 hx with e |e
   ·subst e;exact ⟨zgP hc,.inl rfl,.inl rfl⟩
   ·obtain ⟨h1,h2,h3⟩:=ziz h d c.Super x e
    have hne:c.Super≠[]:=fun e2=>by rw [e2,zuv h] at e;cases e
    have h6:c.Super∈nxA L n:=by rw [zvf hc];exact List.mem_filter.2 ⟨by simp,by simpa using hne⟩
    refine ⟨h1,.inr ?_,.inr ?_⟩
    ·rcases h2 with e2 |e2
     ·rw [e2];exact .one h6
     ·exact .more h6 e2
    ·rcases h3 with e2 |e2
     ·exact ⟨c,(zbR hc).1,e2⟩
     ·exact e2
theorem ztr(h:zcC l L):∀(d:Nat) (n:Tx),(sup L d n).Nodup
 | 0,n=>by simp [sup]
 |d+1,n=>by
  unfold sup
  cases hc:cl L n with
  |none=>simp
  |some c =>
   refine List.nodup_cons.2 ⟨fun hm=>?_,ztr h d c.Super⟩
   have hne:c.Super≠[]:=fun e2=>by rw [e2,zuv h] at hm;cases hm
   have h6:c.Super∈nxA L n:=by rw [zvf hc];exact List.mem_filter.2 ⟨by simp,by simpa using hne⟩
   obtain ⟨_,h2,_⟩:=ziz h d c.Super n hm
   rcases h2 with e2 |e2
   ·exact h.acyc n (.one (by rw [←e2] at h6;exact h6))
   ·exact h.acyc n (.more h6 e2)
theorem zy6(h:zcC l L){n x:Tx}(hx:x∈zdW L n):x∈L.map (·.Name):=zjF.1 (ziz h _ n x hx).1
theorem zy7{n:Tx}(hn:zdL L n=true):n∈zdW L n:=by
 unfold zdW
 obtain ⟨c,hc⟩:=zf4 hn
 have:L≠[]:=fun e=>by rw [e] at hn;cases hn
 cases hL:L.length with
 |zero=>exact absurd (List.eq_nil_of_length_eq_zero hL) this
 |succ d=>unfold sup;rw [hc];simp
theorem zj8{n:Tx}(hn:zdL L n=false):zdW L n=[]:=by
 unfold zdW
 cases L.length with
 |zero=>rfl
 |succ d =>
  unfold sup
  cases hc:cl L n with
  |none=>rfl
  |some c=>rw [zgP hc] at hn;cases hn
end
theorem zrD:∀(a b:List UInt8),Op.bytesLess a b=true↔a<b
 |a,[]=>by
  have e:Op.bytesLess a []=false:=by cases a <;> rfl
  rw [e]
  constructor
  ·intro h;cases h
  ·intro h;exact absurd h (List.not_lt_nil a)
 | [],b ::y=>by
  constructor
  ·intro _;exact List.nil_lt_cons b y
  ·intro _;rfl
 |a ::x,b ::y=>by
  rw [List.cons_lt_cons_iff,←zrD x y]
  show (decide (a<b)||(a == b&&Op.bytesLess x y))=true↔_
  rw [Bool.or_eq_true,decide_eq_true_eq,Bool.and_eq_true,beq_iff_eq]
theorem zsJ:∀(s:Tx) (l:List Tx),zu6 s l=l.takeWhile (fun x=>Op.bytesLess x s)++s ::l.dropWhile (fun x=>Op.bytesLess x s)
 |s,[]=>rfl
 |s,x ::r=>by
  unfold zu6
  rw [List.takeWhile_cons,List.dropWhile_cons]
  by_cases h:s≤x
  ·rw [if_pos h]
   have:¬(Op.bytesLess x s=true):=fun h2=>absurd ((zrD x s).1 h2) (List.not_lt.2 h)
   rw [if_neg this,if_neg this];rfl
  ·rw [if_neg h]
   have:Op.bytesLess x s=true:=(zrD x s).2 (List.not_le.1 h)
   rw [if_pos this,if_pos this,zsJ s r];rfl
theorem zlL{s:Tx}{l:List Tx}(hl:l.length≤1000):∀(r pre:List Tx),l=pre++r→zm (fun z=>zd4 l s z) (pre.length:Int)=some (.inl ((pre.length+(r.takeWhile (fun x=>Op.bytesLess x s)).length:Nat):Int))
 | [],pre,e=>by
  rw [List.append_nil] at e
  rw [zE]
  show (zd4 l s (pre.length:Int)).bind _=_
  unfold zd4
  rw [←e,zfJ];rfl
 |x ::r,pre,e=>by
  have hlen:l.length=pre.length+(r.length+1):=by rw [e];simp
  have hx:l[pre.length]?=some x:=by rw [e];simp
  rw [zE]
  show (zd4 l s (pre.length:Int)).bind _=_
  unfold zd4
  rw [zfk hx,zs,hx,List.takeWhile_cons,zQ (by omega)]
  cases hb:Op.bytesLess x s with
  |false=>simp [hb]
  |true =>
   simp only [cond_true,Option.bind_some,hb,if_true]
   show zm (fun z=>zd4 l s z) ((pre.length+1:Nat):Int)=_
   have:=zlL (s:=s) hl r (pre++[x]) (by rw [e];simp)
   rw [show (pre++[x]).length=pre.length+1 by simp] at this
   rw [this,List.length_cons]
   congr 2
   omega
theorem zzc{α:Type}(p:α→Bool):∀(l:List α),l.take (l.takeWhile p).length=l.takeWhile p∧l.drop (l.takeWhile p).length=l.dropWhile p∧(l.takeWhile p).length≤l.length
 | []=>by simp
 |x ::r=>by
  rw [List.takeWhile_cons,List.dropWhile_cons]
  cases p x with
  |false=>simp
  |true =>
   obtain ⟨h1,h2,h3⟩:=zzc p r
   simp [h1,h2,h3]
theorem zr4{s:Tx}{l:List Tx}(hl:l.length≤900):znh l s=some (zu6 s l):=by
 unfold znh
 obtain ⟨h1,h2,h3⟩:=zzc (fun x=>Op.bytesLess x s) l
 rw [show zm (fun z=>zd4 l s z) 0=_ from zlL (by omega) l [] rfl]
 simp only [Option.bind_some,zI,List.length_nil,Nat.zero_add]
 unfold zmE
 rw [zmP h3,h1]
 simp only [Option.bind_some]
 rw [zbF (w:=16) (l:=[]) (by simp;omega) (by simp;omega)]
 simp only [Option.bind_some,List.nil_append]
 rw [zhk h3,h2]
 simp only [Option.bind_some]
 rw [zbF (w:=16) (x:=[s]) (by simp;omega) (by simp;omega)]
 simp only [Option.bind_some]
 have h4:(l.dropWhile (fun x=>Op.bytesLess x s)).length≤l.length:=by rw [←h2,List.length_drop];omega
 rw [zbF (w:=16) (by simp;omega) (by simp;omega),zsJ]
 simp
theorem zmO:∀{l:List Tx} (a:Tx),l.Nodup→l.count a=if a∈l then 1 else 0
 | [],a,_=>by simp
 |x ::r,a,h=>by
  rw [List.nodup_cons] at h
  rw [List.count_cons,zmO a h.2]
  by_cases e:x=a
  ·subst e
   simp [h.1]
  ·have:a≠x:=fun e2=>e e2.symm
   simp [e,this]
theorem zwy{a b:List Tx}(ha:a.Nodup)(hb:b.Nodup)(h:∀x,x∈a↔x∈b):a.Perm b:=by
 rw [List.perm_iff_count]
 intro x
 rw [zmO x ha,zmO x hb]
 by_cases hx:x∈a
 ·rw [if_pos hx,if_pos ((h x).1 hx)]
 ·rw [if_neg hx,if_neg (fun hb=>hx ((h x).2 hb))]
theorem zyV{a b:List Tx}(ha:a.Pairwise (·≤·))(hb:b.Pairwise (·≤·))(h:a.Perm b):a=b:=
 List.Perm.eq_of_pairwise (fun a b _ _ h1 h2=>List.le_antisymm h1 h2) ha hb h
theorem zsz{nx:Tx→List Tx}:∀(d i:Nat) (z8:List Tx),z8.Nodup→(bfs nx d i z8).Nodup
 | 0,i,z8,h=>h
 |d+1,i,z8,h=>by
  unfold bfs
  cases z8[i]? with
  |none=>exact h
  |some x =>
   refine zsz d (i+1) _ ?_
   obtain ⟨t,k1,k2,k3,k4⟩:=ziN (nx x) z8
   rw [k1]
   exact List.nodup_append.2 ⟨h,k2,fun a ha b hb e=>(k3 b hb).1 (by rw [←e];exact ha)⟩
theorem zpp{R:Type}{I:List Tx→Prop}{nx:Tx→List Tx}{p:Tx→Bool}{body:List Tx×List Tx×Int→Option (Sum (List Tx×List Tx×Int) (Sum (List Tx) R))}
  (hb:∀(i:Nat) acc z8 x,I z8→acc.length≤i→z8[i]?=some x→body (acc,z8,(i:Int))=some (.inl (cond (p x) (acc++[x]) acc,push z8 (nx x),((i+1:Nat):Int))))
  (he:∀(i:Nat) acc z8,I z8→z8.length≤i→body (acc,z8,(i:Int))=some (.inr (.inl acc)))
  (hp:∀z8 x,I z8→x∈z8→I (push z8 (nx x))):∀(d i:Nat) (acc z8:List Tx),I z8→acc.length≤i→fin nx d i z8=true →
  zm body (acc,z8,(i:Int))=some (.inl (acc++((bfs nx d i z8).drop i).filter p))
 | 0,i,acc,z8,hI,ha,hf=>by
  have hl:z8.length≤i:=of_decide_eq_true hf
  rw [zE,he i acc z8 hI hl]
  show some (Sum.inl acc:Sum (List Tx) R)=some (Sum.inl (acc++((z8.drop i).filter p)))
  rw [List.drop_eq_nil_of_le hl]
  simp
 |d+1,i,acc,z8,hI,ha,hf=>by
  unfold fin at hf
  unfold bfs
  cases hi:z8[i]? with
  |none =>
   have hl:z8.length≤i:=List.getElem?_eq_none_iff.1 hi
   rw [zE,he i acc z8 hI hl]
   show some (Sum.inl acc:Sum (List Tx) R)=some (Sum.inl (acc++((z8.drop i).filter p)))
   rw [List.drop_eq_nil_of_le hl]
   simp
  |some x =>
   rw [hi] at hf
   obtain ⟨t,ht⟩:=znt (nx:=nx) d (i+1) (push z8 (nx x))
   obtain ⟨u,hu,_⟩:=ziN (nx x) z8
   have hx:(bfs nx d (i+1) (push z8 (nx x)))[i]?=some x:=by
    rw [ht,hu,List.append_assoc,List.getElem?_append_left (List.getElem?_eq_some_iff.1 hi).1,hi]
   obtain ⟨hlt,hge⟩:=List.getElem?_eq_some_iff.1 hx
   have ih:=fun a ha=>zpp hb he hp d (i+1) a _ (hp _ _ hI (List.mem_of_getElem? hi)) ha hf
   rw [zE,hb i acc z8 x hI ha hi]
   show zm body (cond (p x) (acc++[x]) acc,push z8 (nx x),((i+1:Nat):Int))=some (.inl (acc++((bfs nx d (i+1) (push z8 (nx x))).drop i).filter p))
   rw [ih _ (by cases p x <;> simp <;> omega),List.drop_eq_getElem_cons hlt,hge]
   cases hpx:p x with
   |true=>rw [List.filter_cons_of_pos hpx];simp
   |false=>rw [List.filter_cons_of_neg (by rw [hpx];exact Bool.false_ne_true)];rfl
def zlc(L:List za)(n:Tx):List Tx:=bfs (nxI L) 100 0 (zdW L n)
def zeJ(L:List za)(n:Tx):List Tx:=zoE ((zlc L n).filter (isF L))
section
variable {l L : List za} {m : List (Tx × Int)}
theorem zvD(h:zcC l L)(n:Tx):fin (nxI L) 100 0 (zdW L n)=true:=
 zxJ (U:=List.map (fun c:za=>c.Name) L) (s0:=zdW L n) h.nxI_in _ _ _ .start (by have:=ze9 h n;have:=h.len;simp;omega)
theorem zvE(h:zcC l L)(n:Tx):Inv (List.map (fun c:za=>c.Name) L) (zdW L n) (zlc L n):=zxl h.nxI_in _ _ _ .start
theorem zvF(h:zcC l L)(n:Tx):(zlc L n).length≤52:=by
 have h1:=(zvE h n).len
 have h2:=ze9 h n
 have h3:=h.len
 simp only [List.length_map] at h1
 omega
theorem zsc(h:zcC l L){n x:Tx}(hx:x∈zlc L n):zdL L x=true:=zjF.2 ((zvE h n).mem (fun y hy=>zy6 h hy) x hx)
theorem zyk{n:Tx}{c:za}(hc:cl L n=some c):nxI L n=c.Impl:=by unfold nxI;rw [hc]
theorem zv8{R:Type}{body:List Tx×Int→Option (Sum (List Tx×Int) (Sum (List Tx) R))}{l:List Tx}(hl:l.length≤100)
  (hb:∀(i:Nat) x z8,z8.length≤1000→l[i]?=some x→body (z8,(i:Int))=some (.inl (cond (!(z8.any fun y=>x == y)) (z8++[x]) z8,IntKind.i64.wrap ((i:Int)+1))))
  (he:∀z8,body (z8,(l.length:Int))=some (.inr (.inl z8))) (z8:List Tx) (hs:z8.length≤800):zm body (z8,0)=some (.inl (push z8 l)):=by
 have:=zpP (p:=fun _=>true) hl (fun i x s h hx=>by rw [hb i x s h hx];rfl) he l [] z8 rfl (by omega)
 rw [List.filter_eq_self.2 (fun _ _=>rfl)] at this
 exact this
theorem zpl(h:zcC l L)(hm:zbc L m)(n:Tx):zdB L m n=some (zeJ L n):=by
 unfold zdB zbd
 rw [hm.has]
 cases hn:zdL L n with
 |false =>
  unfold zeJ zlc
  rw [zj8 hn]
  rfl
 |true =>
  rw [zim h hm]
  simp only [Bool.not_true,cond_false,Option.bind_some]
  have h26:=h.len
  have hs26:=ze9 h n
  have hl:=zpp (R:=List Tx) (I:=fun s=>Inv (List.map (fun c:za=>c.Name) L) (zdW L n) s) (nx:=nxI L) (p:=isF L) (body:=fun z=>zbn L m z.1 z.2.1 z.2.2)
   (fun i acc z8 x hI ha hx=>by
    have hsl:=hI.len
    simp only [List.length_map] at hsl
    have hxm:zdL L x=true:=zjF.2 (hI.mem (fun y hy=>zy6 h hy) x (List.mem_of_getElem? hx))
    obtain ⟨c,hc⟩:=zf4 hxm
    have h4:=(h.okc c (zbR hc).1).impl
    have hilt:=(List.getElem?_eq_some_iff.1 hx).1
    have hp:∀acc',zdm z8 (i:Int) c acc'=some (.inl (acc',push z8 c.Impl,((i+1:Nat):Int))):=fun acc'=>by
     unfold zdm
     rw [zv8 (l:=c.Impl) (by omega) (fun j y s hs hy=>by
      show zdn c s (j:Int)=_
      unfold zdn zeK
      rw [zfk hy,zs,hy]
      simp only [cond_true,Option.bind_some]
      rw [zoW hs,zbF (w:=16) (l:=s) (x:=[y]) (by simp;omega) (by simp;omega)]
      cases (s.any fun z=>y == z) <;> rfl) (fun s=>by
      show zdn c s (c.Impl.length:Int)=_
      unfold zdn
      rw [zfJ];rfl) z8 (by omega)]
     simp only [Option.bind_some,zI]
     unfold zhA
     rw [zQ (by omega)]
    show zbn L m acc z8 (i:Int)=_
    unfold zbn
    rw [zfk hx,zs,hx]
    simp only [cond_true,Option.bind_some]
    rw [zqJ hm hxm,hc]
    simp only [Option.bind_some]
    rw [hp,zbF (w:=16) (l:=acc) (x:=[c.Name]) (by simp;omega) (by simp;omega)]
    simp only [Option.bind_some]
    rw [hp,zyk hc,(zbR hc).2]
    have e:isF L x=c.Interface:=by unfold isF;rw [hc]
    rw [e]
    cases c.Interface <;> rfl)
   (fun i acc z8 hI hle=>by
    show zbn L m acc z8 (i:Int)=_
    unfold zbn
    rw [decide_eq_false (by omega)];rfl)
   (fun z8 y hI hy=>hI.push (h.nxI_in y)) 100 0 [] (zdW L n) .start (by simp) (zvD h n)
  rw [show zm (fun z=>zbn L m z.1 z.2.1 z.2.2) ([],zdW L n,0)=_ from hl]
  simp only [Option.bind_some,zI,List.drop_zero,List.nil_append]
  unfold zhB zwL
  have h1:((bfs (nxI L) 100 0 (zdW L n)).filter (isF L)).length≤52:=Nat.le_trans (List.length_filter_le _ _) (zvF h n)
  rw [if_pos (by omega)]
  rfl
theorem zsF(n:Tx):(zeJ L n).Pairwise (·≤·):=zkt _
theorem zsE{n x:Tx}:x∈zeJ L n↔x∈zlc L n∧isF L x=true:=by
 unfold zeJ
 rw [(zg3 _).mem_iff,List.mem_filter]
theorem zwT(h:zcC l L)(n:Tx):(zlc L n).Nodup:=zsz _ _ _ (ztr h _ n)
theorem zsd{n x:Tx}(hx:x∈zdW L n):x∈zlc L n:=by
 obtain ⟨t,e⟩:=znt (nx:=nxI L) 100 0 (zdW L n)
 unfold zlc
 rw [e];exact List.mem_append_left _ hx
theorem zp1(h:zcC l L){n x y:Tx}(hx:x∈zlc L n)(hy:y∈nxI L x):y∈zlc L n:=
 zn7 100 0 _ (zvD h n) (fun j x hj=>by omega) x hx y hy
end
theorem zmb{l:List Tx}(hl:l.length≤1000)(n:Tx):zl9 l n=some (l.any fun y=>y == n):=by
 unfold zl9
 rw [show zm (fun z=>zhW l n z) 0=some (zoz () (cond (l.any fun y=>y == n) (some true) none)) from by
  rw [←zck]
  refine zdN (fun i x hx=>?_) ?_
  ·show zhW l n (i:Int)=_
   have hi:=(List.getElem?_eq_some_iff.1 hx).1
   unfold zhW
   rw [zfk hx,zs,hx,zQ (by omega)]
   simp only [cond_true,Option.bind_some]
   cases x == n <;> rfl
  ·show zhW l n (l.length:Int)=_
   unfold zhW
   rw [zfJ];rfl]
 cases (l.any fun y=>y == n) <;> rfl
section
variable {l L : List za}
def zzH(L:List za)(n:Tx)(k:Nat):Bool:=match L[k]? with |some c=>(zdW L n).any (fun y=>y == c.Name) |none=>false
theorem ztM(h:zcC l L){c:za}(hc:c∈L){inn:List Bool}(hi:inn.length=L.length)(more:Bool):
  zm (fun z=>zc9 L c z.1 z.2.1 z.2.2) (inn,more,0)=some (.inl (mkS L inn c.Impl,more||c.Impl.any (zqs L inn))):=by
 have h26:=h.len
 have h4:=(h.okc c hc).impl
 refine zqS (l:=c.Impl) (by omega) (fun j s inn more hi hs=>?_) (fun inn more=>?_) c.Impl [] inn more rfl hi
 ·show zc9 L c inn more (j:Int)=_
  have hsm:=List.mem_of_getElem? hs
  have hh:zdL L s=true:=h.closed c hc s (List.mem_cons_of_mem _ hsm) ((h.okc c hc).implE s hsm)
  unfold zc9 zg6
  rw [zfk hs,zs,hs]
  simp only [cond_true,Option.bind_some]
  rw [zns (by omega)]
  simp only [Option.bind_some]
  unfold mk1 zqs
  obtain ⟨g1,g2⟩:=zxj hh
  have e:idx inn (atN L s)=some (onB inn (atN L s).toNat):=by
   unfold idx onB
   rw [if_pos g1,List.getD_eq_getElem?_getD,List.getElem?_eq_getElem (by omega)];rfl
  rw [e,hh]
  simp only [Option.bind_some,Bool.true_and]
  cases onB inn (atN L s).toNat <;> simp
 ·show zc9 L c inn more (c.Impl.length:Int)=_
  unfold zc9
  rw [zfJ];rfl
theorem zv7(h:zcC l L)(n:Tx){inn:List Bool}(hi:inn.length=L.length)(more:Bool):
  zm (fun z=>zda L (zdW L n) z.1 z.2.1 z.2.2) (inn,more,0)=some (.inl (zj3 L (·.Impl) (zzH L n) inn 0 L,more||znN L (·.Impl) (zzH L n) inn 0 L)):=by
 have h26:=h.len
 have hs26:=ze9 h n
 refine zs9 (st:=fun a b c=>(a,b,c)) (nx:=(·.Impl)) (act:=zzH L n) (by omega) (fun k c inn more hi hc=>?_) (fun inn more=>?_) L [] inn more rfl hi
 ·show zda L (zdW L n) inn more (k:Int)=_
  have hk:=(List.getElem?_eq_some_iff.1 hc).1
  have e:zzH L n k=(zdW L n).any (fun y=>y == c.Name):=by unfold zzH;rw [hc]
  unfold zda
  rw [zfk hc,zBn (by omega),zs,hc]
  simp only [cond_true,Option.bind_some]
  rw [zmb (by omega),ztM h (List.mem_of_getElem? hc) hi,e]
  unfold zi7 zg7
  rw [zQ (by omega)]
  cases onB inn k <;> cases ((zdW L n).any (fun y=>y == c.Name)) <;> rfl
 ·show zda L (zdW L n) inn more (L.length:Int)=_
  unfold zda
  rw [zfJ];rfl
def zi4(F:List Bool):Nat→List za→List Tx
 |_,[]=>[]
 |k,c ::r=>cond (onB F k) (c.Name ::zi4 F (k+1) r) (zi4 F (k+1) r)
theorem zm7{F:List Bool}:∀(r:List za) (k:Nat) (x:Tx),x∈zi4 F k r↔∃(j:Nat) (c:za),r[j]?=some c∧onB F (k+j)=true∧c.Name=x
 | [],k,x=>by
  constructor
  ·intro h;cases h
  ·rintro ⟨j,c,h,_⟩;simp at h
 |c ::r,k,x=>by
  have ih:=zm7 (F:=F) r (k+1) x
  have back:(∃(j:Nat) (d:za),r[j]?=some d∧onB F (k+1+j)=true∧d.Name=x)↔∃(j:Nat) (d:za),0<j∧(c ::r)[j]?=some d∧onB F (k+j)=true∧d.Name=x:=by
   constructor
   ·rintro ⟨j,d,h1,h2,h3⟩
    exact ⟨j+1,d,by omega,by simpa using h1,by rw [show k+(j+1)=k+1+j by omega];exact h2,h3⟩
   ·rintro ⟨j,d,h0,h1,h2,h3⟩
    cases j with
    |zero=>omega
    |succ j=>exact ⟨j,d,by simpa using h1,by rw [show k+1+j=k+(j+1) by omega];exact h2,h3⟩
  unfold zi4
  cases hb:onB F k with
  |true =>
   rw [cond_true,List.mem_cons,ih,back]
   constructor
   ·rintro (e |⟨j,d,_,h1⟩)
    ·exact ⟨0,c,rfl,hb,e.symm⟩
    ·exact ⟨j,d,h1⟩
   ·rintro ⟨j,d,h1,h2,h3⟩
    cases j with
    |zero=>left;have e:c=d:=(by simpa using h1);rw [e];exact h3.symm
    |succ j=>exact .inr ⟨j+1,d,by omega,h1,h2,h3⟩
  |false =>
   rw [cond_false,ih,back]
   constructor
   ·rintro ⟨j,d,_,h1⟩;exact ⟨j,d,h1⟩
   ·rintro ⟨j,d,h1,h2,h3⟩
    cases j with
    |zero=>rw [Nat.add_zero,hb] at h2;cases h2
    |succ j=>exact ⟨j+1,d,by omega,h1,h2,h3⟩
theorem znK{F:List Bool}:∀(r pre:List za),Nd (pre++r)→(zi4 F pre.length r).Nodup
 | [],pre,h=>by simp [zi4]
 |c ::r,pre,h=>by
  have ih:=znK (F:=F) r (pre++[c]) (by simpa using h)
  rw [show (pre++[c]).length=pre.length+1 by simp] at ih
  unfold zi4
  cases onB F pre.length with
  |false=>exact ih
  |true =>
   refine List.nodup_cons.2 ⟨fun hm=>?_,ih⟩
   obtain ⟨j,d,h1,_,h3⟩:=(zm7 r _ _).1 hm
   have:=h pre.length (pre.length+(j+1)) c d (by simp) (by rw [List.getElem?_append_right (by omega),show pre.length+(j+1)-pre.length=j+1 by omega];simpa using h1) h3.symm
   omega
def zq2(acc:List Tx):List Tx→List Tx
 | []=>acc
 |x ::r=>zq2 (zu6 x acc) r
theorem zpX:∀(r acc:List Tx),(zq2 acc r).Perm (acc++r)
 | [],acc=>by simp [zq2]
 |x ::r,acc=>(zpX r (zu6 x acc)).trans (by
  refine ((zlw x acc).append_right r).trans ?_
  exact (List.perm_middle (l₁:=acc) (l₂:=r) (a:=x)).symm)
theorem znV:∀(r acc:List Tx),acc.Pairwise (·≤·)→(zq2 acc r).Pairwise (·≤·)
 | [],acc,h=>h
 |x ::r,acc,h=>znV r _ (zmY x h)
theorem zAa(x:Tx)(l:List Tx):(zu6 x l).length=l.length+1:=by rw [(zlw x l).length_eq];rfl
theorem zoy{F:List Bool}(hl:L.length≤100)(hF:F.length=L.length):∀(r pre:List za) (acc:List Tx),L=pre++r→acc.length≤pre.length →
  zm (fun z=>zbf L F z.1 z.2) (acc,(pre.length:Int))=some (.inl (zq2 acc (zi4 F pre.length r)))
 | [],pre,acc,e,ha=>by
  rw [List.append_nil] at e
  rw [zE]
  show (zbf L F acc (pre.length:Int)).bind _=_
  unfold zbf
  rw [←e,zfJ];rfl
 |c ::r,pre,acc,e,ha=>by
  have hlen:L.length=pre.length+(r.length+1):=by rw [e];simp
  have hx:L[pre.length]?=some c:=by rw [e];simp
  have ih:=fun a ha=>zoy hl hF r (pre++[c]) a (by rw [e];simp) ha
  rw [show (pre++[c]).length=pre.length+1 by simp] at ih
  rw [zE]
  show (zbf L F acc (pre.length:Int)).bind _=_
  unfold zbf
  rw [zfk hx,zBn (by omega),zs,hx]
  simp only [cond_true,Option.bind_some]
  rw [zr4 (by omega)]
  unfold zg8 zi4
  rw [zQ (by omega)]
  cases onB F pre.length with
  |false =>
   show zm (fun z=>zbf L F z.1 z.2) (acc,((pre.length+1:Nat):Int))=_
   exact ih acc (by omega)
  |true =>
   show zm (fun z=>zbf L F z.1 z.2) (zu6 c.Name acc,((pre.length+1:Nat):Int))=_
   exact ih _ (by rw [zAa];omega)
theorem zuG(h:zcC l L){s:Tx}(hh:zdL L s=true):∃d,L[(atN L s).toNat]?=some d∧d.Name=s:=by
 obtain ⟨d,hd⟩:=zf4 hh
 have e:=zoD L s
 rw [hd] at e
 obtain ⟨g1,g2⟩:=zxj hh
 refine ⟨d,?_,(zbR hd).2⟩
 unfold idx at e
 rw [if_pos g1] at e
 exact e
theorem zuV(h:zcC l L){n:Tx}(hn:zdL L n=true){inn:List Bool}(hi:inn.length=L.length)
  (h0:∀k,onB inn k=true↔(isF L n=true∧k=(atN L n).toNat)):zf8 L n inn=some (zeJ L n):=by
 have h26:=h.len
 let Q:Nat→Prop:=fun k=>∃c,L[k]?=some c∧c.Name∈zlc L n∧c.Interface=true
 have isF_of:∀{k:Nat} {c:za},L[k]?=some c→isF L c.Name=c.Interface:=fun {k c} hk=>by
  unfold isF;rw [h.nd.cl (List.mem_of_getElem? hk)]
 have hq0:∀k,onB inn k=true→Q k:=fun k hk=>by
  obtain ⟨h1,h2⟩:=(h0 k).1 hk
  obtain ⟨d,hd,hd2⟩:=zuG h hn
  refine ⟨d,by rw [h2];exact hd,by rw [hd2];exact zsd (zy7 hn),?_⟩
  rw [←isF_of hd,hd2];exact h1
 have hQ:∀(j:Nat) c,L[j]?=some c→(Q j∨zzH L n j=true)→∀s∈c.Impl,zdL L s=true→Q (atN L s).toNat:=fun j c hj hor s hs hh=>by
  have hcT:c.Name∈zlc L n:=by
   rcases hor with ⟨c',hc',hm,_⟩ |ha
   ·rw [hj] at hc';cases hc';exact hm
   ·unfold zzH at ha
    rw [hj] at ha
    have ha:(zdW L n).any (fun y=>y == c.Name)=true:=ha
    rw [List.any_eq_true] at ha
    obtain ⟨y,hy,e⟩:=ha
    rw [←eq_of_beq e];exact zsd hy
  obtain ⟨d,hd,hd2⟩:=zuG h hh
  refine ⟨d,hd,?_,?_⟩
  ·rw [hd2]
   exact zp1 h hcT (by rw [zyk (h.nd.cl (List.mem_of_getElem? hj))];exact hs)
  ·rw [←isF_of hd,hd2];exact h.implF c (List.mem_of_getElem? hj) s hs
 obtain ⟨F,k1,k2,k3,k4,k5⟩:=zqT (L:=L) (nx:=(·.Impl)) (act:=zzH L n) (R:=List Tx) (st:=fun a b=>(a,b)) (body:=fun z=>zfC L (zdW L n) z.1 z.2) (Q:=Q)
  (fun inn hi=>by
   show zfC L (zdW L n) inn true=_
   unfold zfC
   rw [zv7 h n hi false]
   rfl) (fun inn hi=>rfl) hQ L.length inn hi (by omega) hq0
 unfold zf8
 rw [zhu h]
 simp only [Option.bind_some]
 rw [k1]
 simp only [Option.bind_some,zI]
 unfold zi8
 rw [show zm (fun z=>zbf L F z.1 z.2) ([],0)=_ from zoy (by omega) k2 L [] [] rfl (by simp)]
 simp only [Option.bind_some,zI]
 show some (zq2 [] (zi4 F 0 L))=_
 congr 1
 refine zyV (znV _ _ (by simp)) (zsF n) ((zpX _ _).trans ?_)
 rw [List.nil_append]
 refine (zwy (znK (F:=F) L [] h.nd) ((zwT h n).filter (isF L)) fun x=>?_).trans (zg3 _).symm
 show x∈zi4 F 0 L↔_
 rw [zm7,List.mem_filter]
 constructor
 ·rintro ⟨j,c,h1,h2,h3⟩
  rw [Nat.zero_add] at h2
  obtain ⟨c',hc',hm,hI⟩:=k5 j h2
  rw [h1] at hc';cases hc'
  rw [←h3]
  exact ⟨hm,by rw [isF_of h1];exact hI⟩
 ·rintro ⟨hx,hxF⟩
  have key:∀y∈zlc L n,y∈zlc L n∧(y∈zdW L n∨onB F (atN L y).toNat=true):=by
   refine zpa (Q:=fun y=>y∈zlc L n∧(y∈zdW L n∨onB F (atN L y).toNat=true)) (fun y hy z hz=>?_) 100 0 _ (fun y hy=>⟨zsd hy,.inl hy⟩)
   refine ⟨zp1 h hy.1 hz,.inr ?_⟩
   have hyh:=zsc h hy.1
   obtain ⟨d,hd,hd2⟩:=zuG h hyh
   have hzh:=zsc h (zp1 h hy.1 hz)
   rw [←hd2,zyk (h.nd.cl (List.mem_of_getElem? hd))] at hz
   refine k3 _ d hd ?_ z hz hzh
   rw [Bool.or_eq_true]
   rcases hy.2 with h1 |h1
   ·right
    unfold zzH
    rw [hd]
    show (zdW L n).any (fun w=>w == d.Name)=true
    rw [hd2,List.any_eq_true]
    exact ⟨y,h1,beq_self_eq_true _⟩
   ·exact .inl h1
  have hxh:=zsc h hx
  obtain ⟨d,hd,hd2⟩:=zuG h hxh
  refine ⟨(atN L x).toNat,d,hd,?_,hd2⟩
  rw [Nat.zero_add]
  rcases (key x hx).2 with h1 |h1
  ·rcases (ziz h _ n x h1).2.2 with e |⟨c,hc,e⟩
   ·subst e
    exact k4 _ ((h0 _).2 ⟨hxF,rfl⟩)
   ·rw [e,h.superF c hc] at hxF;cases hxF
  ·exact h1
theorem zoJ(h:zcC l L)(n:Tx):zhr L n=some (zeJ L n):=by
 have h26:=h.len
 unfold zhr
 rw [show mkP 1 (L.length:Int)=some L.length by unfold mkP;rw [if_pos (by omega),Int.toNat_natCast],zns (by omega)]
 simp only [Option.bind_some]
 rw [zqE]
 have hrep:(List.replicate L.length false).length=L.length:=by simp
 have hoff:∀n,onB (List.replicate L.length false) n=false:=fun n=>by
  unfold onB
  rw [List.getD_eq_getElem?_getD,List.getElem?_replicate]
  split <;> rfl
 cases hn:zdL L n with
 |false =>
  unfold zeJ zlc
  rw [zj8 hn]
  rfl
 |true =>
  obtain ⟨c,hc⟩:=zf4 hn
  obtain ⟨g1,g2⟩:=zxj hn
  have eF:isF L n=c.Interface:=by unfold isF;rw [hc]
  rw [zpw hc]
  simp only [Bool.not_true,cond_false,Option.bind_some]
  cases hI:c.Interface with
  |false =>
   simp only [cond_false]
   refine zuV h hn hrep fun k=>?_
   rw [hoff,eF,hI]
   simp
  |true =>
   have e:idx (List.replicate L.length false) (atN L n)=some false:=by
    unfold idx
    rw [if_pos g1,List.getElem?_replicate,if_pos g2]
   rw [e]
   simp only [cond_true,Option.bind_some]
   refine zuV h hn (by simp) fun k=>?_
   rw [zBo (by rw [hrep];exact g2),hoff,Bool.false_or,eF,hI,Nat.beq_eq]
   simp
end

end
end Go.Proofs.YthmnlfenkhmmhaaGreat
