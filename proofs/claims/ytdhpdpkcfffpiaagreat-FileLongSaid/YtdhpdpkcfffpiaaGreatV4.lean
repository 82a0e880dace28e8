/- FileLong: for every input the law returns true, and each argument reads as it read before. No further condition. Part 4 of 7. -/
import Derived.Test.YtdhpdpkcfffpiaaGreatV3
namespace Go.Proofs.YtdhpdpkcfffpiaaGreat
noncomputable section
set_option linter.unusedSimpArgs false
set_option linter.unusedVariables false
set_option maxRecDepth 100000
set_option maxHeartbeats 4000000
def file_writer_num (v1 : List (List UInt8)) (v2 : List UInt8) (v3 : Int) : Option ((List UInt8)) :=
  (num_Put v2 v3).bind fun v4=>some v4
theorem file_writer_num_ok (v1 : List (List UInt8)) (v2 : List UInt8) (v3 : Int) {r : (List UInt8)} (h : file_writer_num v1 v2 v3 = some r) : SC Tryz.prog 110 [.mpt 0 0 0,iA v3] [.one 2 [.msl 1 0 (List.length v1),.msl 2 0 (List.length v2)],.many 1 (List.map rStr v1),.many 1 (List.map byteRow v2)] (.tup []) [.one 2 [.msl 1 0 (List.length v1),.msl 3 0 (List.length r)],.many 1 (List.map rStr v1),.no,.many 1 (List.map byteRow r)]:=by
 refine ⟨⟨j5,sbOk (sz:=1) (fun _=>j0),j5,sbOk (sz:=1) (fun _=>j0),j5⟩,scall_fn Tryz.func110 j0 (by kernel_rfl) j0 ?_⟩
 unfold file_writer_num at h
 obtain ⟨v4,q1,h⟩:=bs h
 refine rl j0<|u<|mv j0<|u<|mv j0<|u<|nc j0 j0<|u<|fa ti71 j0 j0 j0<|u<|ld ti43 j0 j0<|u<|mv j0<|u<|sc [2] (num_Put_ok v2 v3 q1) j0 j0 j0 j0 ⟨(.msl j0),(rnI j0),j5⟩ ⟨⟨j0,mkI (fun _=>j0)⟩,j5⟩<|u<|nc j0 j0<|u<|fa ti71 j0 j0 j0<|u<|sto ti43 j0 j0 j0<|r_nil ?_
 obtain rfl:=sm h
 exact ⟨_,j0,[.old 0,.old 1,.dead,.old 3],rsTup j5,j0,⟨⟨_,j0,rsOne ⟨.msl j0,.msl j0,j5⟩⟩,⟨_,j0,rsMap (fun _=>j0)⟩,⟨_,j0,rsMap (fun _=>j0)⟩,j5⟩,j0,j1⟩
def file_writer_text_j1 (v2 : List UInt8) (v6 : List (List UInt8)) (v7 : Int) : Option ((List (List UInt8)) × (List UInt8)) :=
  (file_writer_num v6 v2 v7).bind fun v8=>some (v6,v8)
def file_writer_text (v1 : List (List UInt8)) (v2 : List UInt8) (v3 : List UInt8) : Option ((List (List UInt8)) × (List UInt8)) :=
  (slices_Index_string_string v1 v3).bind fun v4=>cond (decide (v4 < 0)) ((appP 16 v1 [v3]).bind fun v5=>file_writer_text_j1 v2 v5 ((List.length v1) : Int)) (file_writer_text_j1 v2 v1 v4)
theorem file_writer_text_ok (v1 : List (List UInt8)) (v2 : List UInt8) (v3 : List UInt8) {r : (List (List UInt8)) × (List UInt8)} (h : file_writer_text v1 v2 v3 = some r) : SC Tryz.prog 47 [.mpt 0 0 0,sA v3] [.one 2 [.msl 1 0 (List.length v1),.msl 2 0 (List.length v2)],.many 1 (List.map rStr v1),.many 1 (List.map byteRow v2)] (.tup []) [.one 2 [.msl 3 0 (List.length r.1),.msl 4 0 (List.length r.2)],.no,.no,.many 1 (List.map rStr r.1),.many 1 (List.map byteRow r.2)]:=by
 refine ⟨⟨j5,j5,j5,sbOk (sz:=1) (fun _=>j0),sbOk (sz:=1) (fun _=>j0),j5⟩,scall_fn Tryz.func47 j0 (by kernel_rfl) j0 ?_⟩
 unfold file_writer_text at h
 obtain ⟨v4,q1,h⟩:=bs h
 refine rg j0<|u<|mv j0<|u<|nc j0 j0<|u<|fa ti71 j0 j0 j0<|u<|ld ti24 j0 j0<|u<|mv j0<|u<|pcs (slices_Index_string_string_ok v1 v3 q1) j0 j0 (.cons (sealM j0 (fun _=>j0)) (.cons (si j0) .nil)) plainB<|u<|asg j0<|r_nil ?_
 refine sw_meet (X:=(List (List UInt8)) × Int) (fun z=>[(0,.mpt 0 0 0),(4,iA z.2)]) (fun z=>[some (2,[[.msl 3 0 (List.length z.1),.msl 2 0 (List.length v2)]]),none,some (1,List.map byteRow v2),some (1,List.map rStr z.1)]) (fun z=>file_writer_text_j1 v2 z.1 z.2 = some r) ?_ ?_
 ·
  refine rg j0<|u<|mv j0<|u<|lss ti3 j0 j0<|r_nil ?_
  refine sw_cond j0 (fun hc2=>?_) (fun hc2=>?_)
  ·
   replace h:=bT hc2 h
   refine rg j0<|u<|mv j0<|u<|nc j0 j0<|u<|fa ti71 j0 j0 j0<|u<|ld ti24 j0 j0<|u<|lnM ti24 j0 j0 j0<|u<|asg j0<|r_nil ?_
   obtain ⟨v5,q3,h⟩:=bs h
   exact rl j0<|u<|mv j0<|u<|mv j0<|u<|nc j0 j0<|u<|fa ti71 j0 j0 j0<|u<|ld ti24 j0 j0<|u<|mv j0<|u<|bl 3 ti24 j0 ti9 j0 (by decide) (by decide) j0 j0 j0<|u<|apM 4 ti24 j0 ti9 j0 j0 (by decide) ti24 j0 j0 j0 j0 (roX (f:=rStr) (z:=[v3]) j0 j0) (fun _=>j0) j0 q3<|u<|nc j0 j0<|u<|fa ti71 j0 j0 j0<|u<|sto ti24 j0 j0 j0<|r_nil (⟨⟨v5,((List.length v1) : Int)⟩,h,[.old 0,.dead,.old 2,.old 4],cv j0 (.mpt j0)<|ce j0 j0<|cn,j0,⟨⟨_,j0,rsOne ⟨.msl j0,.msl j0,j5⟩⟩,⟨_,j0,rsMap (fun _=>j0)⟩,⟨_,j0,rsMap (fun _=>j0)⟩,j5⟩,j0,j1⟩)
  ·
   replace h:=bF hc2 h
   refine sw_skip ?_
   exact ⟨⟨v1,v4⟩,h,[.old 0,.dead,.old 2,.old 1],cv j0 (.mpt j0)<|ce j0 j0<|cn,j0,⟨⟨_,j0,rsOne ⟨.msl j0,.msl j0,j5⟩⟩,⟨_,j0,rsMap (fun _=>j0)⟩,⟨_,j0,rsMap (fun _=>j0)⟩,j5⟩,j0,j1⟩
 ·
  rintro ⟨v6,v7⟩ h
  replace h : file_writer_text_j1 v2 v6 v7 = some r:=h
  unfold file_writer_text_j1 at h
  obtain ⟨v8,q4,h⟩:=bs h
  refine rl j0<|u<|mv j0<|u<|mv j0<|u<|sc [0,3,2] (file_writer_num_ok v6 v2 v7 q4) j0 j0 j0 j0 ⟨(.mpt j0),(rnI j0),j5⟩ ⟨⟨_,j0,⟨(.msl j0),(.msl j0),j5⟩⟩,⟨j0,mkI (fun _=>j0)⟩,⟨j0,mkI (fun _=>j0)⟩,j5⟩<|r_can (env0:=[]) (st0:=[some (2,[[.msl 3 0 (List.length v6),.msl 4 0 (List.length v8)]]),none,none,some (1,List.map rStr v6),some (1,List.map byteRow v8)]) ⟨[.old 0,.dead,.dead,.old 3,.old 4],cn,j0,⟨⟨_,j0,rsOne ⟨.msl j0,.msl j0,j5⟩⟩,⟨_,j0,rsMap (fun _=>j0)⟩,⟨_,j0,rsMap (fun _=>j0)⟩,j5⟩,j0,j1⟩<|r_nil ?_
  obtain rfl:=sm h
  exact ⟨_,j0,[.old 0,.dead,.dead,.old 3,.old 4],rsTup j5,j0,⟨⟨_,j0,rsOne ⟨.msl j0,.msl j0,j5⟩⟩,⟨_,j0,rsMap (fun _=>j0)⟩,⟨_,j0,rsMap (fun _=>j0)⟩,j5⟩,j0,j1⟩
def file_writer_truth (v1 : List (List UInt8)) (v2 : List UInt8) (v3 : Bool) : Option ((List UInt8)) :=
  cond v3 ((file_writer_num v1 v2 1).bind fun v4=>some v4) ((file_writer_num v1 v2 0).bind fun v5=>some v5)
theorem file_writer_truth_ok (v1 : List (List UInt8)) (v2 : List UInt8) (v3 : Bool) {r : (List UInt8)} (h : file_writer_truth v1 v2 v3 = some r) : SC Tryz.prog 48 [.mpt 0 0 0,bA v3] [.one 2 [.msl 1 0 (List.length v1),.msl 2 0 (List.length v2)],.many 1 (List.map rStr v1),.many 1 (List.map byteRow v2)] (.tup []) [.one 2 [.msl 1 0 (List.length v1),.msl 3 0 (List.length r)],.many 1 (List.map rStr v1),.no,.many 1 (List.map byteRow r)]:=by
 refine ⟨⟨j5,sbOk (sz:=1) (fun _=>j0),j5,sbOk (sz:=1) (fun _=>j0),j5⟩,scall_fn Tryz.func48 j0 (by kernel_rfl) j0 ?_⟩
 unfold file_writer_truth at h
 refine rg j0<|u<|mv j0<|r_nil ?_
 refine sw_cond j0 (fun hc1=>?_) (fun hc1=>?_)
 ·
  replace h:=bT hc1 h
  obtain ⟨v4,q2,h⟩:=bs h
  refine rl j0<|u<|mv j0<|u<|sc [0,1,2] (file_writer_num_ok v1 v2 1 q2) j0 j0 j0 j0 ⟨(.mpt j0),(rnI j0),j5⟩ ⟨⟨_,j0,⟨(.msl j0),(.msl j0),j5⟩⟩,⟨j0,mkI (fun _=>j0)⟩,⟨j0,mkI (fun _=>j0)⟩,j5⟩<|r_can (env0:=[]) (st0:=[some (2,[[.msl 1 0 (List.length v1),.msl 3 0 (List.length v4)]]),some (1,List.map rStr v1),none,some (1,List.map byteRow v4)]) ⟨[.old 0,.old 1,.dead,.old 3],cn,j0,⟨⟨_,j0,rsOne ⟨.msl j0,.msl j0,j5⟩⟩,⟨_,j0,rsMap (fun _=>j0)⟩,⟨_,j0,rsMap (fun _=>j0)⟩,j5⟩,j0,j1⟩<|r_nil ?_
  obtain rfl:=sm h
  exact ⟨_,j0,[.old 0,.old 1,.dead,.old 3],rsTup j5,j0,⟨⟨_,j0,rsOne ⟨.msl j0,.msl j0,j5⟩⟩,⟨_,j0,rsMap (fun _=>j0)⟩,⟨_,j0,rsMap (fun _=>j0)⟩,j5⟩,j0,j1⟩
 ·
  replace h:=bF hc1 h
  obtain ⟨v5,q3,h⟩:=bs h
  refine rl j0<|u<|mv j0<|u<|sc [0,1,2] (file_writer_num_ok v1 v2 0 q3) j0 j0 j0 j0 ⟨(.mpt j0),(rnI j0),j5⟩ ⟨⟨_,j0,⟨(.msl j0),(.msl j0),j5⟩⟩,⟨j0,mkI (fun _=>j0)⟩,⟨j0,mkI (fun _=>j0)⟩,j5⟩<|r_can (env0:=[]) (st0:=[some (2,[[.msl 1 0 (List.length v1),.msl 3 0 (List.length v5)]]),some (1,List.map rStr v1),none,some (1,List.map byteRow v5)]) ⟨[.old 0,.old 1,.dead,.old 3],cn,j0,⟨⟨_,j0,rsOne ⟨.msl j0,.msl j0,j5⟩⟩,⟨_,j0,rsMap (fun _=>j0)⟩,⟨_,j0,rsMap (fun _=>j0)⟩,j5⟩,j0,j1⟩<|r_nil ?_
  obtain rfl:=sm h
  exact ⟨_,j0,[.old 0,.old 1,.dead,.old 3],rsTup j5,j0,⟨⟨_,j0,rsOne ⟨.msl j0,.msl j0,j5⟩⟩,⟨_,j0,rsMap (fun _=>j0)⟩,⟨_,j0,rsMap (fun _=>j0)⟩,j5⟩,j0,j1⟩
def file_list_string_k2 (v15 : List (List UInt8)) (v16 : List UInt8) : Option ((List (List UInt8)) × (List UInt8)) :=
  some (v15,v16)
def file_list_string_l1 (v3 : List (List UInt8)) (v10 : List (List UInt8)) (v11 : List UInt8) (v12 : Int) : Option (Sum ((List (List UInt8)) × (List UInt8) × Int) (Sum ((List (List UInt8)) × (List UInt8)) ((List (List UInt8)) × (List UInt8)))) :=
  cond (decide (v12 < (List.length v3 : Int))) ((idx v3 v12).bind fun v13=>(file_writer_text v10 v11 v13).bind fun v14=>some (.inl (v14.1,v14.2,(IntKind.i64.wrap (v12 + 1))))) (some (.inr (.inl (v10,v11))))
def file_list_string (v1 : List (List UInt8)) (v2 : List UInt8) (v3 : List (List UInt8)) : Option ((List (List UInt8)) × (List UInt8)) :=
  (file_writer_num v1 v2 (List.length v3 : Int)).bind fun v4=>(loopP (fun z=>file_list_string_l1 v3 z.1 z.2.1 z.2.2) (v1,v4,0)).bind fun o=>leave o (fun b=>file_list_string_k2 b.1 b.2) some
theorem file_list_string_ok (v1 : List (List UInt8)) (v2 : List UInt8) (v3 : List (List UInt8)) {r : (List (List UInt8)) × (List UInt8)} (h : file_list_string v1 v2 v3 = some r) : SC Tryz.prog 49 [.mpt 0 0 0,.isl 1 (List.map rStr v3),.fn (.func 47) [.mpt 0 0 0] []] [.one 2 [.msl 1 0 (List.length v1),.msl 2 0 (List.length v2)],.many 1 (List.map rStr v1),.many 1 (List.map byteRow v2)] (.tup []) [.one 2 [.msl 3 0 (List.length r.1),.msl 4 0 (List.length r.2)],.no,.no,.many 1 (List.map rStr r.1),.many 1 (List.map byteRow r.2)]:=by
 refine ⟨⟨j5,j5,j5,sbOk (sz:=1) (fun _=>j0),sbOk (sz:=1) (fun _=>j0),j5⟩,scall_fn Tryz.func49 j0 (by kernel_rfl) j0 ?_⟩
 unfold file_list_string at h
 obtain ⟨v4,q1,h⟩:=bs h
 refine rg j0<|u<|mv j0<|u<|mv j0<|u<|lnI ti24 j0 j0<|u<|sc [0,1,2] (file_writer_num_ok v1 v2 (List.length v3 : Int) q1) j0 j0 j0 j0 ⟨(.mpt j0),(rnI j0),j5⟩ ⟨⟨_,j0,⟨(.msl j0),(.msl j0),j5⟩⟩,⟨j0,mkI (fun _=>j0)⟩,⟨j0,mkI (fun _=>j0)⟩,j5⟩<|r_can (env0:=[(1,.isl 1 (List.map rStr v3)),(2,.fn (.func 47) [.mpt 0 0 0] [])]) (st0:=[some (2,[[.msl 1 0 (List.length v1),.msl 3 0 (List.length v4)]]),some (1,List.map rStr v1),none,some (1,List.map byteRow v4)]) ⟨[.old 0,.old 1,.dead,.old 3],ce j0 j0<|cv j0 (rsFn ⟨(.mpt j0),j5⟩ j5)<|cn,j0,⟨⟨_,j0,rsOne ⟨.msl j0,.msl j0,j5⟩⟩,⟨_,j0,rsMap (fun _=>j0)⟩,⟨_,j0,rsMap (fun _=>j0)⟩,j5⟩,j0,j1⟩<|r_nil ?_
 refine rg j0<|u<|mv j0<|u<|lnI ti24 j0 j0<|u<|mv j0<|r_nil ?_
 obtain ⟨o,ho,h⟩:=bs h
 refine sw_lpl (X:=(List (List UInt8)) × (List UInt8) × Int) (B:=(List (List UInt8)) × (List UInt8)) (R:=(List (List UInt8)) × (List UInt8)) (fun z=>[(2,.fn (.func 47) [.mpt 0 0 0] []),(12,.isl 1 (List.map rStr v3)),(13,iA (List.length v3 : Int)),(14,iA z.2.2)]) (fun z=>[some (2,[[.msl 3 0 (List.length z.1),.msl 4 0 (List.length z.2.1)]]),none,none,some (1,List.map rStr z.1),some (1,List.map byteRow z.2.1)]) (fun b=>[]) (fun b=>[some (2,[[.msl 3 0 (List.length b.1),.msl 4 0 (List.length b.2)]]),none,none,some (1,List.map rStr b.1),some (1,List.map byteRow b.2)]) (fun r env st=>PostF Tryz.prog Tryz.f49 3 (.tup []) [some (2,[[.msl 3 0 (List.length r.1),.msl 4 0 (List.length r.2)]]),none,none,some (1,List.map rStr r.1),some (1,List.map byteRow r.2)] env st) ho ⟨[.old 0,.dead,.dead,.old 1,.old 3],cv j0 (rsFn ⟨(.mpt j0),j5⟩ j5)<|ce j0 j0<|ce j0 j0<|ce j0 j0<|cn,j0,⟨⟨_,j0,rsOne ⟨.msl j0,.msl j0,j5⟩⟩,⟨_,j0,rsMap (fun _=>j0)⟩,⟨_,j0,rsMap (fun _=>j0)⟩,j5⟩,j0,j1⟩ ?_ ?_ ?_
 ·
  rintro ⟨v10,v11,v12⟩ r h
  replace h : file_list_string_l1 v3 v10 v11 v12 = some r:=h
  unfold file_list_string_l1 at h
  refine rg j0<|u<|lss ti3 j0 j0<|r_nil ?_
  refine sw_seq ?_
  refine sw_cond j0 (fun hc5=>?_) (fun hc5=>?_)
  ·
   replace h:=bT hc5 h
   refine sw_skip ?_
   refine sw_seq ?_
   refine sw_block ?_
   obtain ⟨v13,q6,h⟩:=bs h
   refine rg j0<|u<|ixI ti24 j0 ti9 j0 j0 j0 q6<|u<|ldI ti9 j0 (idx_some q6).2.2 j0<|u<|asg j0<|r_nil ?_
   obtain ⟨v14,q7,h⟩:=bs h
   refine rl j0<|u<|mv j0<|u<|mv j0<|u<|sc [0,3,4] (file_writer_text_ok v10 v11 v13 q7) j0 j0 j0 j0 ⟨(.mpt j0),(rnI j0),j5⟩ ⟨⟨_,j0,⟨(.msl j0),(.msl j0),j5⟩⟩,⟨j0,mkI (fun _=>j0)⟩,⟨j0,mkI (fun _=>j0)⟩,j5⟩<|r_can (env0:=[(2,.fn (.func 47) [.mpt 0 0 0] []),(12,.isl 1 (List.map rStr v3)),(13,iA (List.length v3 : Int)),(14,iA v12)]) (st0:=[some (2,[[.msl 3 0 (List.length v14.1),.msl 4 0 (List.length v14.2)]]),none,none,some (1,List.map rStr v14.1),some (1,List.map byteRow v14.2)]) ⟨[.old 0,.dead,.dead,.old 5,.old 6],cv j0 (rsFn ⟨(.mpt j0),j5⟩ j5)<|ce j0 j0<|ce j0 j0<|ce j0 j0<|cn,j0,⟨⟨_,j0,rsOne ⟨.msl j0,.msl j0,j5⟩⟩,⟨_,j0,rsMap (fun _=>j0)⟩,⟨_,j0,rsMap (fun _=>j0)⟩,j5⟩,j0,j1⟩<|r_nil ?_
   refine rl j0<|u<|add ti3 j0 j0<|u<|mv j0<|r_nil ?_
   obtain rfl:=sm h
   exact ⟨_,j0,[.old 0,.dead,.dead,.old 3,.old 4],cv j0 (rsFn ⟨(.mpt j0),j5⟩ j5)<|ce j0 j0<|ce j0 j0<|ce j0 j0<|cn,j0,⟨⟨_,j0,rsOne ⟨.msl j0,.msl j0,j5⟩⟩,⟨_,j0,rsMap (fun _=>j0)⟩,⟨_,j0,rsMap (fun _=>j0)⟩,j5⟩,j0,j1⟩
  ·
   replace h:=bF hc5 h
   refine sw_exit ?_
   obtain rfl:=sm h
   exact ⟨j0,_,j0,[.old 0,.dead,.dead,.old 3,.old 4],cn,j0,⟨⟨_,j0,rsOne ⟨.msl j0,.msl j0,j5⟩⟩,⟨_,j0,rsMap (fun _=>j0)⟩,⟨_,j0,rsMap (fun _=>j0)⟩,j5⟩,j0,j1⟩
 ·
  rintro ⟨v15,v16⟩ rfl
  replace h : file_list_string_k2 v15 v16 = some r:=h
  unfold file_list_string_k2 at h
  refine ow_intro ?_
  obtain rfl:=sm h
  exact ⟨_,j0,[.old 0,.dead,.dead,.old 3,.old 4],rsTup j5,j0,⟨⟨_,j0,rsOne ⟨.msl j0,.msl j0,j5⟩⟩,⟨_,j0,rsMap (fun _=>j0)⟩,⟨_,j0,rsMap (fun _=>j0)⟩,j5⟩,j0,j1⟩
 ·
  rintro r' rfl env st hp
  obtain rfl:=sm h
  exact hp
def file_writer_field (v1 : List (List UInt8)) (v2 : List UInt8) (v3 : ApiField) : Option ((List (List UInt8)) × (List UInt8)) :=
  (file_writer_text v1 v2 v3.Name).bind fun v4=>(file_writer_text v4.1 v4.2 v3.Type_).bind fun v5=>(file_writer_truth v5.1 v5.2 v3.Static).bind fun v6=>some (v5.1,v6)
theorem file_writer_field_ok (v1 : List (List UInt8)) (v2 : List UInt8) (v3 : ApiField) {r : (List (List UInt8)) × (List UInt8)} (h : file_writer_field v1 v2 v3 = some r) : SC Tryz.prog 51 [.mpt 0 0 0,.agg [sA v3.Name,sA v3.Type_,bA v3.Static]] [.one 2 [.msl 1 0 (List.length v1),.msl 2 0 (List.length v2)],.many 1 (List.map rStr v1),.many 1 (List.map byteRow v2)] (.tup []) [.one 2 [.msl 3 0 (List.length r.1),.msl 4 0 (List.length r.2)],.no,.no,.many 1 (List.map rStr r.1),.many 1 (List.map byteRow r.2)]:=by
 refine ⟨⟨j5,j5,j5,sbOk (sz:=1) (fun _=>j0),sbOk (sz:=1) (fun _=>j0),j5⟩,scall_fn Tryz.func51 j0 (by kernel_rfl) j0 ?_⟩
 unfold file_writer_field at h
 refine rg j0<|u<|bx 3 3 j0 j0 j0 j0<|r_nil ?_
 obtain ⟨v4,q1,h⟩:=bs h
 refine rg j0<|u<|mv j0<|u<|fa ti53 j0 j0 j0<|u<|ld ti9 j0 j0<|u<|sc [0,1,2] (file_writer_text_ok v1 v2 v3.Name q1) j0 j0 j0 j0 ⟨(.mpt j0),(rnI j0),j5⟩ ⟨⟨_,j0,⟨(.msl j0),(.msl j0),j5⟩⟩,⟨j0,mkI (fun _=>j0)⟩,⟨j0,mkI (fun _=>j0)⟩,j5⟩<|r_can (env0:=[(0,.mpt 0 0 0),(3,.mpt 5 0 0)]) (st0:=[some (2,[[.msl 3 0 (List.length v4.1),.msl 4 0 (List.length v4.2)]]),none,none,some (1,List.map rStr v4.1),some (1,List.map byteRow v4.2),some (3,[[sA v3.Name,sA v3.Type_,bA v3.Static]])]) ⟨[.old 0,.dead,.dead,.old 4,.old 5,.old 3],cv j0 (.mpt j0)<|cv j0 (.mpt j0)<|cn,j0,⟨⟨_,j0,rsOne ⟨.msl j0,.msl j0,j5⟩⟩,⟨_,j0,rsMap (fun _=>j0)⟩,⟨_,j0,rsMap (fun _=>j0)⟩,⟨_,j0,rsOne ⟨ci j0,ci j0,ci j0,j5⟩⟩,j5⟩,j0,j1⟩<|r_nil ?_
 obtain ⟨v5,q2,h⟩:=bs h
 refine rg j0<|u<|mv j0<|u<|fa ti53 j0 j0 j0<|u<|ld ti9 j0 j0<|u<|sc [0,3,4] (file_writer_text_ok v4.1 v4.2 v3.Type_ q2) j0 j0 j0 j0 ⟨(.mpt j0),(rnI j0),j5⟩ ⟨⟨_,j0,⟨(.msl j0),(.msl j0),j5⟩⟩,⟨j0,mkI (fun _=>j0)⟩,⟨j0,mkI (fun _=>j0)⟩,j5⟩<|r_can (env0:=[(0,.mpt 0 0 0),(3,.mpt 5 0 0)]) (st0:=[some (2,[[.msl 3 0 (List.length v5.1),.msl 4 0 (List.length v5.2)]]),none,none,some (1,List.map rStr v5.1),some (1,List.map byteRow v5.2),some (3,[[sA v3.Name,sA v3.Type_,bA v3.Static]])]) ⟨[.old 0,.dead,.dead,.old 6,.old 7,.old 5],cv j0 (.mpt j0)<|cv j0 (.mpt j0)<|cn,j0,⟨⟨_,j0,rsOne ⟨.msl j0,.msl j0,j5⟩⟩,⟨_,j0,rsMap (fun _=>j0)⟩,⟨_,j0,rsMap (fun _=>j0)⟩,⟨_,j0,rsOne ⟨ci j0,ci j0,ci j0,j5⟩⟩,j5⟩,j0,j1⟩<|r_nil ?_
 obtain ⟨v6,q3,h⟩:=bs h
 refine rl j0<|u<|mv j0<|u<|fa ti53 j0 j0 j0<|u<|ld ti4 j0 j0<|u<|sc [0,3,4] (file_writer_truth_ok v5.1 v5.2 v3.Static q3) j0 j0 j0 j0 ⟨(.mpt j0),(rnI j0),j5⟩ ⟨⟨_,j0,⟨(.msl j0),(.msl j0),j5⟩⟩,⟨j0,mkI (fun _=>j0)⟩,⟨j0,mkI (fun _=>j0)⟩,j5⟩<|r_can (env0:=[]) (st0:=[some (2,[[.msl 3 0 (List.length v5.1),.msl 4 0 (List.length v6)]]),none,none,some (1,List.map rStr v5.1),some (1,List.map byteRow v6)]) ⟨[.old 0,.dead,.dead,.old 3,.old 6],cn,j0,⟨⟨_,j0,rsOne ⟨.msl j0,.msl j0,j5⟩⟩,⟨_,j0,rsMap (fun _=>j0)⟩,⟨_,j0,rsMap (fun _=>j0)⟩,j5⟩,j0,j1⟩<|r_nil ?_
 obtain rfl:=sm h
 exact ⟨_,j0,[.old 0,.dead,.dead,.old 3,.old 4],rsTup j5,j0,⟨⟨_,j0,rsOne ⟨.msl j0,.msl j0,j5⟩⟩,⟨_,j0,rsMap (fun _=>j0)⟩,⟨_,j0,rsMap (fun _=>j0)⟩,j5⟩,j0,j1⟩
def file_list_api_Field_k2 (v15 : List (List UInt8)) (v16 : List UInt8) : Option ((List (List UInt8)) × (List UInt8)) :=
  some (v15,v16)
def file_list_api_Field_l1 (v3 : List ApiField) (v10 : List (List UInt8)) (v11 : List UInt8) (v12 : Int) : Option (Sum ((List (List UInt8)) × (List UInt8) × Int) (Sum ((List (List UInt8)) × (List UInt8)) ((List (List UInt8)) × (List UInt8)))) :=
  cond (decide (v12 < (List.length v3 : Int))) ((idx v3 v12).bind fun v13=>(file_writer_field v10 v11 v13).bind fun v14=>some (.inl (v14.1,v14.2,(IntKind.i64.wrap (v12 + 1))))) (some (.inr (.inl (v10,v11))))
def file_list_api_Field (v1 : List (List UInt8)) (v2 : List UInt8) (v3 : List ApiField) : Option ((List (List UInt8)) × (List UInt8)) :=
  (file_writer_num v1 v2 (List.length v3 : Int)).bind fun v4=>(loopP (fun z=>file_list_api_Field_l1 v3 z.1 z.2.1 z.2.2) (v1,v4,0)).bind fun o=>leave o (fun b=>file_list_api_Field_k2 b.1 b.2) some
theorem file_list_api_Field_ok (v1 : List (List UInt8)) (v2 : List UInt8) (v3 : List ApiField) {r : (List (List UInt8)) × (List UInt8)} (h : file_list_api_Field v1 v2 v3 = some r) : SC Tryz.prog 50 [.mpt 0 0 0,.isl 3 (List.map rApiField v3),.fn (.func 51) [.mpt 0 0 0] []] [.one 2 [.msl 1 0 (List.length v1),.msl 2 0 (List.length v2)],.many 1 (List.map rStr v1),.many 1 (List.map byteRow v2)] (.tup []) [.one 2 [.msl 3 0 (List.length r.1),.msl 4 0 (List.length r.2)],.no,.no,.many 1 (List.map rStr r.1),.many 1 (List.map byteRow r.2)]:=by
 refine ⟨⟨j5,j5,j5,sbOk (sz:=1) (fun _=>j0),sbOk (sz:=1) (fun _=>j0),j5⟩,scall_fn Tryz.func50 j0 (by kernel_rfl) j0 ?_⟩
 unfold file_list_api_Field at h
 obtain ⟨v4,q1,h⟩:=bs h
 refine rg j0<|u<|mv j0<|u<|mv j0<|u<|lnI ti25 j0 j0<|u<|sc [0,1,2] (file_writer_num_ok v1 v2 (List.length v3 : Int) q1) j0 j0 j0 j0 ⟨(.mpt j0),(rnI j0),j5⟩ ⟨⟨_,j0,⟨(.msl j0),(.msl j0),j5⟩⟩,⟨j0,mkI (fun _=>j0)⟩,⟨j0,mkI (fun _=>j0)⟩,j5⟩<|r_can (env0:=[(1,.isl 3 (List.map rApiField v3)),(2,.fn (.func 51) [.mpt 0 0 0] [])]) (st0:=[some (2,[[.msl 1 0 (List.length v1),.msl 3 0 (List.length v4)]]),some (1,List.map rStr v1),none,some (1,List.map byteRow v4)]) ⟨[.old 0,.old 1,.dead,.old 3],ce j0 j0<|cv j0 (rsFn ⟨(.mpt j0),j5⟩ j5)<|cn,j0,⟨⟨_,j0,rsOne ⟨.msl j0,.msl j0,j5⟩⟩,⟨_,j0,rsMap (fun _=>j0)⟩,⟨_,j0,rsMap (fun _=>j0)⟩,j5⟩,j0,j1⟩<|r_nil ?_
 refine rg j0<|u<|mv j0<|u<|lnI ti25 j0 j0<|u<|mv j0<|r_nil ?_
 obtain ⟨o,ho,h⟩:=bs h
 refine sw_lpl (X:=(List (List UInt8)) × (List UInt8) × Int) (B:=(List (List UInt8)) × (List UInt8)) (R:=(List (List UInt8)) × (List UInt8)) (fun z=>[(2,.fn (.func 51) [.mpt 0 0 0] []),(12,.isl 3 (List.map rApiField v3)),(13,iA (List.length v3 : Int)),(14,iA z.2.2)]) (fun z=>[some (2,[[.msl 3 0 (List.length z.1),.msl 4 0 (List.length z.2.1)]]),none,none,some (1,List.map rStr z.1),some (1,List.map byteRow z.2.1)]) (fun b=>[]) (fun b=>[some (2,[[.msl 3 0 (List.length b.1),.msl 4 0 (List.length b.2)]]),none,none,some (1,List.map rStr b.1),some (1,List.map byteRow b.2)]) (fun r env st=>PostF Tryz.prog Tryz.f50 3 (.tup []) [some (2,[[.msl 3 0 (List.length r.1),.msl 4 0 (List.length r.2)]]),none,none,some (1,List.map rStr r.1),some (1,List.map byteRow r.2)] env st) ho ⟨[.old 0,.dead,.dead,.old 1,.old 3],cv j0 (rsFn ⟨(.mpt j0),j5⟩ j5)<|ce j0 j0<|ce j0 j0<|ce j0 j0<|cn,j0,⟨⟨_,j0,rsOne ⟨.msl j0,.msl j0,j5⟩⟩,⟨_,j0,rsMap (fun _=>j0)⟩,⟨_,j0,rsMap (fun _=>j0)⟩,j5⟩,j0,j1⟩ ?_ ?_ ?_
 ·
  rintro ⟨v10,v11,v12⟩ r h
  replace h : file_list_api_Field_l1 v3 v10 v11 v12 = some r:=h
  unfold file_list_api_Field_l1 at h
  refine rg j0<|u<|lss ti3 j0 j0<|r_nil ?_
  refine sw_seq ?_
  refine sw_cond j0 (fun hc5=>?_) (fun hc5=>?_)
  ·
   replace h:=bT hc5 h
   refine sw_skip ?_
   refine sw_seq ?_
   refine sw_block ?_
   obtain ⟨v13,q6,h⟩:=bs h
   refine rg j0<|u<|ixI ti25 j0 ti53 j0 j0 j0 q6<|u<|ldI ti53 j0 (idx_some q6).2.2 j0<|u<|al 5 ti53 j0<|u<|sto ti53 j0 j0 j0<|r_nil ?_
   obtain ⟨v14,q7,h⟩:=bs h
   refine rl j0<|u<|mv j0<|u<|ld ti53 j0 j0<|u<|sc [0,3,4] (file_writer_field_ok v10 v11 v13 q7) j0 j0 j0 j0 ⟨(.mpt j0),(rnI j0),j5⟩ ⟨⟨_,j0,⟨(.msl j0),(.msl j0),j5⟩⟩,⟨j0,mkI (fun _=>j0)⟩,⟨j0,mkI (fun _=>j0)⟩,j5⟩<|r_can (env0:=[(2,.fn (.func 51) [.mpt 0 0 0] []),(12,.isl 3 (List.map rApiField v3)),(13,iA (List.length v3 : Int)),(14,iA v12)]) (st0:=[some (2,[[.msl 3 0 (List.length v14.1),.msl 4 0 (List.length v14.2)]]),none,none,some (1,List.map rStr v14.1),some (1,List.map byteRow v14.2)]) ⟨[.old 0,.dead,.dead,.old 6,.old 7],cv j0 (rsFn ⟨(.mpt j0),j5⟩ j5)<|ce j0 j0<|ce j0 j0<|ce j0 j0<|cn,j0,⟨⟨_,j0,rsOne ⟨.msl j0,.msl j0,j5⟩⟩,⟨_,j0,rsMap (fun _=>j0)⟩,⟨_,j0,rsMap (fun _=>j0)⟩,j5⟩,j0,j1⟩<|r_nil ?_
   refine rl j0<|u<|add ti3 j0 j0<|u<|mv j0<|r_nil ?_
   obtain rfl:=sm h
   exact ⟨_,j0,[.old 0,.dead,.dead,.old 3,.old 4],cv j0 (rsFn ⟨(.mpt j0),j5⟩ j5)<|ce j0 j0<|ce j0 j0<|ce j0 j0<|cn,j0,⟨⟨_,j0,rsOne ⟨.msl j0,.msl j0,j5⟩⟩,⟨_,j0,rsMap (fun _=>j0)⟩,⟨_,j0,rsMap (fun _=>j0)⟩,j5⟩,j0,j1⟩
  ·
   replace h:=bF hc5 h
   refine sw_exit ?_
   obtain rfl:=sm h
   exact ⟨j0,_,j0,[.old 0,.dead,.dead,.old 3,.old 4],cn,j0,⟨⟨_,j0,rsOne ⟨.msl j0,.msl j0,j5⟩⟩,⟨_,j0,rsMap (fun _=>j0)⟩,⟨_,j0,rsMap (fun _=>j0)⟩,j5⟩,j0,j1⟩
 ·
  rintro ⟨v15,v16⟩ rfl
  replace h : file_list_api_Field_k2 v15 v16 = some r:=h
  unfold file_list_api_Field_k2 at h
  refine ow_intro ?_
  obtain rfl:=sm h
  exact ⟨_,j0,[.old 0,.dead,.dead,.old 3,.old 4],rsTup j5,j0,⟨⟨_,j0,rsOne ⟨.msl j0,.msl j0,j5⟩⟩,⟨_,j0,rsMap (fun _=>j0)⟩,⟨_,j0,rsMap (fun _=>j0)⟩,j5⟩,j0,j1⟩
 ·
  rintro r' rfl env st hp
  obtain rfl:=sm h
  exact hp
def file_writer_ins (v1 : List (List UInt8)) (v2 : List UInt8) (v3 : ApiIns) : Option ((List (List UInt8)) × (List UInt8)) :=
  (file_writer_num v1 v2 v3.Op).bind fun v4=>(file_writer_num v1 v4 v3.A).bind fun v5=>(file_writer_text v1 v5 v3.C).bind fun v6=>(file_writer_text v6.1 v6.2 v3.M).bind fun v7=>some (v7.1,v7.2)
theorem file_writer_ins_ok (v1 : List (List UInt8)) (v2 : List UInt8) (v3 : ApiIns) {r : (List (List UInt8)) × (List UInt8)} (h : file_writer_ins v1 v2 v3 = some r) : SC Tryz.prog 112 [.mpt 0 0 0,.agg [iA v3.Op,iA v3.A,sA v3.C,sA v3.M]] [.one 2 [.msl 1 0 (List.length v1),.msl 2 0 (List.length v2)],.many 1 (List.map rStr v1),.many 1 (List.map byteRow v2)] (.tup []) [.one 2 [.msl 3 0 (List.length r.1),.msl 4 0 (List.length r.2)],.no,.no,.many 1 (List.map rStr r.1),.many 1 (List.map byteRow r.2)]:=by
 refine ⟨⟨j5,j5,j5,sbOk (sz:=1) (fun _=>j0),sbOk (sz:=1) (fun _=>j0),j5⟩,scall_fn Tryz.func112 j0 (by kernel_rfl) j0 ?_⟩
 unfold file_writer_ins at h
 refine rg j0<|u<|bx 3 4 j0 j0 j0 j0<|r_nil ?_
 obtain ⟨v4,q1,h⟩:=bs h
 refine rg j0<|u<|mv j0<|u<|fa ti37 j0 j0 j0<|u<|ld ti3 j0 j0<|u<|sc [0,1,2] (file_writer_num_ok v1 v2 v3.Op q1) j0 j0 j0 j0 ⟨(.mpt j0),(rnI j0),j5⟩ ⟨⟨_,j0,⟨(.msl j0),(.msl j0),j5⟩⟩,⟨j0,mkI (fun _=>j0)⟩,⟨j0,mkI (fun _=>j0)⟩,j5⟩<|r_can (env0:=[(0,.mpt 0 0 0),(3,.mpt 4 0 0)]) (st0:=[some (2,[[.msl 1 0 (List.length v1),.msl 3 0 (List.length v4)]]),some (1,List.map rStr v1),none,some (1,List.map byteRow v4),some (4,[[iA v3.Op,iA v3.A,sA v3.C,sA v3.M]])]) ⟨[.old 0,.old 1,.dead,.old 4,.old 3],cv j0 (.mpt j0)<|cv j0 (.mpt j0)<|cn,j0,⟨⟨_,j0,rsOne ⟨.msl j0,.msl j0,j5⟩⟩,⟨_,j0,rsMap (fun _=>j0)⟩,⟨_,j0,rsMap (fun _=>j0)⟩,⟨_,j0,rsOne ⟨ci j0,ci j0,ci j0,ci j0,j5⟩⟩,j5⟩,j0,j1⟩<|r_nil ?_
 obtain ⟨v5,q2,h⟩:=bs h
 refine rg j0<|u<|mv j0<|u<|fa ti37 j0 j0 j0<|u<|ld ti3 j0 j0<|u<|sc [0,1,3] (file_writer_num_ok v1 v4 v3.A q2) j0 j0 j0 j0 ⟨(.mpt j0),(rnI j0),j5⟩ ⟨⟨_,j0,⟨(.msl j0),(.msl j0),j5⟩⟩,⟨j0,mkI (fun _=>j0)⟩,⟨j0,mkI (fun _=>j0)⟩,j5⟩<|r_can (env0:=[(0,.mpt 0 0 0),(3,.mpt 4 0 0)]) (st0:=[some (2,[[.msl 1 0 (List.length v1),.msl 3 0 (List.length v5)]]),some (1,List.map rStr v1),none,some (1,List.map byteRow v5),some (4,[[iA v3.Op,iA v3.A,sA v3.C,sA v3.M]])]) ⟨[.old 0,.old 1,.dead,.old 5,.old 4],cv j0 (.mpt j0)<|cv j0 (.mpt j0)<|cn,j0,⟨⟨_,j0,rsOne ⟨.msl j0,.msl j0,j5⟩⟩,⟨_,j0,rsMap (fun _=>j0)⟩,⟨_,j0,rsMap (fun _=>j0)⟩,⟨_,j0,rsOne ⟨ci j0,ci j0,ci j0,ci j0,j5⟩⟩,j5⟩,j0,j1⟩<|r_nil ?_
 obtain ⟨v6,q3,h⟩:=bs h
 refine rg j0<|u<|mv j0<|u<|fa ti37 j0 j0 j0<|u<|ld ti9 j0 j0<|u<|sc [0,1,3] (file_writer_text_ok v1 v5 v3.C q3) j0 j0 j0 j0 ⟨(.mpt j0),(rnI j0),j5⟩ ⟨⟨_,j0,⟨(.msl j0),(.msl j0),j5⟩⟩,⟨j0,mkI (fun _=>j0)⟩,⟨j0,mkI (fun _=>j0)⟩,j5⟩<|r_can (env0:=[(0,.mpt 0 0 0),(3,.mpt 5 0 0)]) (st0:=[some (2,[[.msl 3 0 (List.length v6.1),.msl 4 0 (List.length v6.2)]]),none,none,some (1,List.map rStr v6.1),some (1,List.map byteRow v6.2),some (4,[[iA v3.Op,iA v3.A,sA v3.C,sA v3.M]])]) ⟨[.old 0,.dead,.dead,.old 5,.old 6,.old 4],cv j0 (.mpt j0)<|cv j0 (.mpt j0)<|cn,j0,⟨⟨_,j0,rsOne ⟨.msl j0,.msl j0,j5⟩⟩,⟨_,j0,rsMap (fun _=>j0)⟩,⟨_,j0,rsMap (fun _=>j0)⟩,⟨_,j0,rsOne ⟨ci j0,ci j0,ci j0,ci j0,j5⟩⟩,j5⟩,j0,j1⟩<|r_nil ?_
 obtain ⟨v7,q4,h⟩:=bs h
 refine rl j0<|u<|mv j0<|u<|fa ti37 j0 j0 j0<|u<|ld ti9 j0 j0<|u<|sc [0,3,4] (file_writer_text_ok v6.1 v6.2 v3.M q4) j0 j0 j0 j0 ⟨(.mpt j0),(rnI j0),j5⟩ ⟨⟨_,j0,⟨(.msl j0),(.msl j0),j5⟩⟩,⟨j0,mkI (fun _=>j0)⟩,⟨j0,mkI (fun _=>j0)⟩,j5⟩<|r_can (env0:=[]) (st0:=[some (2,[[.msl 3 0 (List.length v7.1),.msl 4 0 (List.length v7.2)]]),none,none,some (1,List.map rStr v7.1),some (1,List.map byteRow v7.2)]) ⟨[.old 0,.dead,.dead,.old 6,.old 7],cn,j0,⟨⟨_,j0,rsOne ⟨.msl j0,.msl j0,j5⟩⟩,⟨_,j0,rsMap (fun _=>j0)⟩,⟨_,j0,rsMap (fun _=>j0)⟩,j5⟩,j0,j1⟩<|r_nil ?_
 obtain rfl:=sm h
 exact ⟨_,j0,[.old 0,.dead,.dead,.old 3,.old 4],rsTup j5,j0,⟨⟨_,j0,rsOne ⟨.msl j0,.msl j0,j5⟩⟩,⟨_,j0,rsMap (fun _=>j0)⟩,⟨_,j0,rsMap (fun _=>j0)⟩,j5⟩,j0,j1⟩
def file_list_api_Ins_k2 (v15 : List (List UInt8)) (v16 : List UInt8) : Option ((List (List UInt8)) × (List UInt8)) :=
  some (v15,v16)
def file_list_api_Ins_l1 (v3 : List ApiIns) (v10 : List (List UInt8)) (v11 : List UInt8) (v12 : Int) : Option (Sum ((List (List UInt8)) × (List UInt8) × Int) (Sum ((List (List UInt8)) × (List UInt8)) ((List (List UInt8)) × (List UInt8)))) :=
  cond (decide (v12 < (List.length v3 : Int))) ((idx v3 v12).bind fun v13=>(file_writer_ins v10 v11 v13).bind fun v14=>some (.inl (v14.1,v14.2,(IntKind.i64.wrap (v12 + 1))))) (some (.inr (.inl (v10,v11))))
def file_list_api_Ins (v1 : List (List UInt8)) (v2 : List UInt8) (v3 : List ApiIns) : Option ((List (List UInt8)) × (List UInt8)) :=
  (file_writer_num v1 v2 (List.length v3 : Int)).bind fun v4=>(loopP (fun z=>file_list_api_Ins_l1 v3 z.1 z.2.1 z.2.2) (v1,v4,0)).bind fun o=>leave o (fun b=>file_list_api_Ins_k2 b.1 b.2) some
theorem file_list_api_Ins_ok (v1 : List (List UInt8)) (v2 : List UInt8) (v3 : List ApiIns) {r : (List (List UInt8)) × (List UInt8)} (h : file_list_api_Ins v1 v2 v3 = some r) : SC Tryz.prog 111 [.mpt 0 0 0,.isl 4 (List.map rApiIns v3),.fn (.func 112) [.mpt 0 0 0] []] [.one 2 [.msl 1 0 (List.length v1),.msl 2 0 (List.length v2)],.many 1 (List.map rStr v1),.many 1 (List.map byteRow v2)] (.tup []) [.one 2 [.msl 3 0 (List.length r.1),.msl 4 0 (List.length r.2)],.no,.no,.many 1 (List.map rStr r.1),.many 1 (List.map byteRow r.2)]:=by
 refine ⟨⟨j5,j5,j5,sbOk (sz:=1) (fun _=>j0),sbOk (sz:=1) (fun _=>j0),j5⟩,scall_fn Tryz.func111 j0 (by kernel_rfl) j0 ?_⟩
 unfold file_list_api_Ins at h
 obtain ⟨v4,q1,h⟩:=bs h
 refine rg j0<|u<|mv j0<|u<|mv j0<|u<|lnI ti31 j0 j0<|u<|sc [0,1,2] (file_writer_num_ok v1 v2 (List.length v3 : Int) q1) j0 j0 j0 j0 ⟨(.mpt j0),(rnI j0),j5⟩ ⟨⟨_,j0,⟨(.msl j0),(.msl j0),j5⟩⟩,⟨j0,mkI (fun _=>j0)⟩,⟨j0,mkI (fun _=>j0)⟩,j5⟩<|r_can (env0:=[(1,.isl 4 (List.map rApiIns v3)),(2,.fn (.func 112) [.mpt 0 0 0] [])]) (st0:=[some (2,[[.msl 1 0 (List.length v1),.msl 3 0 (List.length v4)]]),some (1,List.map rStr v1),none,some (1,List.map byteRow v4)]) ⟨[.old 0,.old 1,.dead,.old 3],ce j0 j0<|cv j0 (rsFn ⟨(.mpt j0),j5⟩ j5)<|cn,j0,⟨⟨_,j0,rsOne ⟨.msl j0,.msl j0,j5⟩⟩,⟨_,j0,rsMap (fun _=>j0)⟩,⟨_,j0,rsMap (fun _=>j0)⟩,j5⟩,j0,j1⟩<|r_nil ?_
 refine rg j0<|u<|mv j0<|u<|lnI ti31 j0 j0<|u<|mv j0<|r_nil ?_
 obtain ⟨o,ho,h⟩:=bs h
 refine sw_lpl (X:=(List (List UInt8)) × (List UInt8) × Int) (B:=(List (List UInt8)) × (List UInt8)) (R:=(List (List UInt8)) × (List UInt8)) (fun z=>[(2,.fn (.func 112) [.mpt 0 0 0] []),(12,.isl 4 (List.map rApiIns v3)),(13,iA (List.length v3 : Int)),(14,iA z.2.2)]) (fun z=>[some (2,[[.msl 3 0 (List.length z.1),.msl 4 0 (List.length z.2.1)]]),none,none,some (1,List.map rStr z.1),some (1,List.map byteRow z.2.1)]) (fun b=>[]) (fun b=>[some (2,[[.msl 3 0 (List.length b.1),.msl 4 0 (List.length b.2)]]),none,none,some (1,List.map rStr b.1),some (1,List.map byteRow b.2)]) (fun r env st=>PostF Tryz.prog Tryz.f111 3 (.tup []) [some (2,[[.msl 3 0 (List.length r.1),.msl 4 0 (List.length r.2)]]),none,none,some (1,List.map rStr r.1),some (1,List.map byteRow r.2)] env st) ho ⟨[.old 0,.dead,.dead,.old 1,.old 3],cv j0 (rsFn ⟨(.mpt j0),j5⟩ j5)<|ce j0 j0<|ce j0 j0<|ce j0 j0<|cn,j0,⟨⟨_,j0,rsOne ⟨.msl j0,.msl j0,j5⟩⟩,⟨_,j0,rsMap (fun _=>j0)⟩,⟨_,j0,rsMap (fun _=>j0)⟩,j5⟩,j0,j1⟩ ?_ ?_ ?_
 ·
  rintro ⟨v10,v11,v12⟩ r h
  replace h : file_list_api_Ins_l1 v3 v10 v11 v12 = some r:=h
  unfold file_list_api_Ins_l1 at h
  refine rg j0<|u<|lss ti3 j0 j0<|r_nil ?_
  refine sw_seq ?_
  refine sw_cond j0 (fun hc5=>?_) (fun hc5=>?_)
  ·
   replace h:=bT hc5 h
   refine sw_skip ?_
   refine sw_seq ?_
   refine sw_block ?_
   obtain ⟨v13,q6,h⟩:=bs h
   refine rg j0<|u<|ixI ti31 j0 ti37 j0 j0 j0 q6<|u<|ldI ti37 j0 (idx_some q6).2.2 j0<|u<|al 5 ti37 j0<|u<|sto ti37 j0 j0 j0<|r_nil ?_
   obtain ⟨v14,q7,h⟩:=bs h
   refine rl j0<|u<|mv j0<|u<|ld ti37 j0 j0<|u<|sc [0,3,4] (file_writer_ins_ok v10 v11 v13 q7) j0 j0 j0 j0 ⟨(.mpt j0),(rnI j0),j5⟩ ⟨⟨_,j0,⟨(.msl j0),(.msl j0),j5⟩⟩,⟨j0,mkI (fun _=>j0)⟩,⟨j0,mkI (fun _=>j0)⟩,j5⟩<|r_can (env0:=[(2,.fn (.func 112) [.mpt 0 0 0] []),(12,.isl 4 (List.map rApiIns v3)),(13,iA (List.length v3 : Int)),(14,iA v12)]) (st0:=[some (2,[[.msl 3 0 (List.length v14.1),.msl 4 0 (List.length v14.2)]]),none,none,some (1,List.map rStr v14.1),some (1,List.map byteRow v14.2)]) ⟨[.old 0,.dead,.dead,.old 6,.old 7],cv j0 (rsFn ⟨(.mpt j0),j5⟩ j5)<|ce j0 j0<|ce j0 j0<|ce j0 j0<|cn,j0,⟨⟨_,j0,rsOne ⟨.msl j0,.msl j0,j5⟩⟩,⟨_,j0,rsMap (fun _=>j0)⟩,⟨_,j0,rsMap (fun _=>j0)⟩,j5⟩,j0,j1⟩<|r_nil ?_
   refine rl j0<|u<|add ti3 j0 j0<|u<|mv j0<|r_nil ?_
   obtain rfl:=sm h
   exact ⟨_,j0,[.old 0,.dead,.dead,.old 3,.old 4],cv j0 (rsFn ⟨(.mpt j0),j5⟩ j5)<|ce j0 j0<|ce j0 j0<|ce j0 j0<|cn,j0,⟨⟨_,j0,rsOne ⟨.msl j0,.msl j0,j5⟩⟩,⟨_,j0,rsMap (fun _=>j0)⟩,⟨_,j0,rsMap (fun _=>j0)⟩,j5⟩,j0,j1⟩
  ·
   replace h:=bF hc5 h
   refine sw_exit ?_
   obtain rfl:=sm h
   exact ⟨j0,_,j0,[.old 0,.dead,.dead,.old 3,.old 4],cn,j0,⟨⟨_,j0,rsOne ⟨.msl j0,.msl j0,j5⟩⟩,⟨_,j0,rsMap (fun _=>j0)⟩,⟨_,j0,rsMap (fun _=>j0)⟩,j5⟩,j0,j1⟩
 ·
  rintro ⟨v15,v16⟩ rfl
  replace h : file_list_api_Ins_k2 v15 v16 = some r:=h
  unfold file_list_api_Ins_k2 at h
  refine ow_intro ?_
  obtain rfl:=sm h
  exact ⟨_,j0,[.old 0,.dead,.dead,.old 3,.old 4],rsTup j5,j0,⟨⟨_,j0,rsOne ⟨.msl j0,.msl j0,j5⟩⟩,⟨_,j0,rsMap (fun _=>j0)⟩,⟨_,j0,rsMap (fun _=>j0)⟩,j5⟩,j0,j1⟩
 ·
  rintro r' rfl env st hp
  obtain rfl:=sm h
  exact hp
def file_writer_place (v1 : List (List UInt8)) (v2 : List UInt8) (v3 : ApiMap) : Option ((List (List UInt8)) × (List UInt8)) :=
  (file_writer_num v1 v2 v3.At).bind fun v4=>(file_list_string v1 v4 v3.Locals).bind fun v5=>(file_list_string v5.1 v5.2 v3.Stack).bind fun v6=>some (v6.1,v6.2)
theorem file_writer_place_ok (v1 : List (List UInt8)) (v2 : List UInt8) (v3 : ApiMap) {r : (List (List UInt8)) × (List UInt8)} (h : file_writer_place v1 v2 v3 = some r) : SC Tryz.prog 114 [.mpt 0 0 0,.agg [iA v3.At,.isl 1 (List.map rStr v3.Locals),.isl 1 (List.map rStr v3.Stack)]] [.one 2 [.msl 1 0 (List.length v1),.msl 2 0 (List.length v2)],.many 1 (List.map rStr v1),.many 1 (List.map byteRow v2)] (.tup []) [.one 2 [.msl 3 0 (List.length r.1),.msl 4 0 (List.length r.2)],.no,.no,.many 1 (List.map rStr r.1),.many 1 (List.map byteRow r.2)]:=by
 refine ⟨⟨j5,j5,j5,sbOk (sz:=1) (fun _=>j0),sbOk (sz:=1) (fun _=>j0),j5⟩,scall_fn Tryz.func114 j0 (by kernel_rfl) j0 ?_⟩
 unfold file_writer_place at h
 refine rg j0<|u<|bx 3 3 j0 j0 j0 j0<|r_nil ?_
 obtain ⟨v4,q1,h⟩:=bs h
 refine rg j0<|u<|mv j0<|u<|fa ti39 j0 j0 j0<|u<|ld ti3 j0 j0<|u<|sc [0,1,2] (file_writer_num_ok v1 v2 v3.At q1) j0 j0 j0 j0 ⟨(.mpt j0),(rnI j0),j5⟩ ⟨⟨_,j0,⟨(.msl j0),(.msl j0),j5⟩⟩,⟨j0,mkI (fun _=>j0)⟩,⟨j0,mkI (fun _=>j0)⟩,j5⟩<|r_can (env0:=[(0,.mpt 0 0 0),(3,.mpt 4 0 0)]) (st0:=[some (2,[[.msl 1 0 (List.length v1),.msl 3 0 (List.length v4)]]),some (1,List.map rStr v1),none,some (1,List.map byteRow v4),some (3,[[iA v3.At,.isl 1 (List.map rStr v3.Locals),.isl 1 (List.map rStr v3.Stack)]])]) ⟨[.old 0,.old 1,.dead,.old 4,.old 3],cv j0 (.mpt j0)<|cv j0 (.mpt j0)<|cn,j0,⟨⟨_,j0,rsOne ⟨.msl j0,.msl j0,j5⟩⟩,⟨_,j0,rsMap (fun _=>j0)⟩,⟨_,j0,rsMap (fun _=>j0)⟩,⟨_,j0,rsOne ⟨ci j0,ci j0,ci j0,j5⟩⟩,j5⟩,j0,j1⟩<|r_nil ?_
 obtain ⟨v5,q2,h⟩:=bs h
 refine rg j0<|u<|mv j0<|u<|fa ti39 j0 j0 j0<|u<|ld ti24 j0 j0<|u<|mv j0<|u<|mf j0 j0<|u<|sc [0,1,3] (file_list_string_ok v1 v4 v3.Locals q2) j0 j0 j0 j0 ⟨(.mpt j0),(rnI j0),(rnFn ⟨(.mpt j0),j5⟩ j5),j5⟩ ⟨⟨_,j0,⟨(.msl j0),(.msl j0),j5⟩⟩,⟨j0,mkI (fun _=>j0)⟩,⟨j0,mkI (fun _=>j0)⟩,j5⟩<|r_can (env0:=[(0,.mpt 0 0 0),(3,.mpt 5 0 0)]) (st0:=[some (2,[[.msl 3 0 (List.length v5.1),.msl 4 0 (List.length v5.2)]]),none,none,some (1,List.map rStr v5.1),some (1,List.map byteRow v5.2),some (3,[[iA v3.At,.isl 1 (List.map rStr v3.Locals),.isl 1 (List.map rStr v3.Stack)]])]) ⟨[.old 0,.dead,.dead,.old 5,.old 6,.old 4],cv j0 (.mpt j0)<|cv j0 (.mpt j0)<|cn,j0,⟨⟨_,j0,rsOne ⟨.msl j0,.msl j0,j5⟩⟩,⟨_,j0,rsMap (fun _=>j0)⟩,⟨_,j0,rsMap (fun _=>j0)⟩,⟨_,j0,rsOne ⟨ci j0,ci j0,ci j0,j5⟩⟩,j5⟩,j0,j1⟩<|r_nil ?_
 obtain ⟨v6,q3,h⟩:=bs h
 refine rl j0<|u<|mv j0<|u<|fa ti39 j0 j0 j0<|u<|ld ti24 j0 j0<|u<|mv j0<|u<|mf j0 j0<|u<|sc [0,3,4] (file_list_string_ok v5.1 v5.2 v3.Stack q3) j0 j0 j0 j0 ⟨(.mpt j0),(rnI j0),(rnFn ⟨(.mpt j0),j5⟩ j5),j5⟩ ⟨⟨_,j0,⟨(.msl j0),(.msl j0),j5⟩⟩,⟨j0,mkI (fun _=>j0)⟩,⟨j0,mkI (fun _=>j0)⟩,j5⟩<|r_can (env0:=[]) (st0:=[some (2,[[.msl 3 0 (List.length v6.1),.msl 4 0 (List.length v6.2)]]),none,none,some (1,List.map rStr v6.1),some (1,List.map byteRow v6.2)]) ⟨[.old 0,.dead,.dead,.old 6,.old 7],cn,j0,⟨⟨_,j0,rsOne ⟨.msl j0,.msl j0,j5⟩⟩,⟨_,j0,rsMap (fun _=>j0)⟩,⟨_,j0,rsMap (fun _=>j0)⟩,j5⟩,j0,j1⟩<|r_nil ?_
 obtain rfl:=sm h
 exact ⟨_,j0,[.old 0,.dead,.dead,.old 3,.old 4],rsTup j5,j0,⟨⟨_,j0,rsOne ⟨.msl j0,.msl j0,j5⟩⟩,⟨_,j0,rsMap (fun _=>j0)⟩,⟨_,j0,rsMap (fun _=>j0)⟩,j5⟩,j0,j1⟩
def file_list_api_Map_k2 (v15 : List (List UInt8)) (v16 : List UInt8) : Option ((List (List UInt8)) × (List UInt8)) :=
  some (v15,v16)
def file_list_api_Map_l1 (v3 : List ApiMap) (v10 : List (List UInt8)) (v11 : List UInt8) (v12 : Int) : Option (Sum ((List (List UInt8)) × (List UInt8) × Int) (Sum ((List (List UInt8)) × (List UInt8)) ((List (List UInt8)) × (List UInt8)))) :=
  cond (decide (v12 < (List.length v3 : Int))) ((idx v3 v12).bind fun v13=>(file_writer_place v10 v11 v13).bind fun v14=>some (.inl (v14.1,v14.2,(IntKind.i64.wrap (v12 + 1))))) (some (.inr (.inl (v10,v11))))
def file_list_api_Map (v1 : List (List UInt8)) (v2 : List UInt8) (v3 : List ApiMap) : Option ((List (List UInt8)) × (List UInt8)) :=
  (file_writer_num v1 v2 (List.length v3 : Int)).bind fun v4=>(loopP (fun z=>file_list_api_Map_l1 v3 z.1 z.2.1 z.2.2) (v1,v4,0)).bind fun o=>leave o (fun b=>file_list_api_Map_k2 b.1 b.2) some
theorem file_list_api_Map_ok (v1 : List (List UInt8)) (v2 : List UInt8) (v3 : List ApiMap) {r : (List (List UInt8)) × (List UInt8)} (h : file_list_api_Map v1 v2 v3 = some r) : SC Tryz.prog 113 [.mpt 0 0 0,.isl 3 (List.map rApiMap v3),.fn (.func 114) [.mpt 0 0 0] []] [.one 2 [.msl 1 0 (List.length v1),.msl 2 0 (List.length v2)],.many 1 (List.map rStr v1),.many 1 (List.map byteRow v2)] (.tup []) [.one 2 [.msl 3 0 (List.length r.1),.msl 4 0 (List.length r.2)],.no,.no,.many 1 (List.map rStr r.1),.many 1 (List.map byteRow r.2)]:=by
 refine ⟨⟨j5,j5,j5,sbOk (sz:=1) (fun _=>j0),sbOk (sz:=1) (fun _=>j0),j5⟩,scall_fn Tryz.func113 j0 (by kernel_rfl) j0 ?_⟩
 unfold file_list_api_Map at h
 obtain ⟨v4,q1,h⟩:=bs h
 refine rg j0<|u<|mv j0<|u<|mv j0<|u<|lnI ti32 j0 j0<|u<|sc [0,1,2] (file_writer_num_ok v1 v2 (List.length v3 : Int) q1) j0 j0 j0 j0 ⟨(.mpt j0),(rnI j0),j5⟩ ⟨⟨_,j0,⟨(.msl j0),(.msl j0),j5⟩⟩,⟨j0,mkI (fun _=>j0)⟩,⟨j0,mkI (fun _=>j0)⟩,j5⟩<|r_can (env0:=[(1,.isl 3 (List.map rApiMap v3)),(2,.fn (.func 114) [.mpt 0 0 0] [])]) (st0:=[some (2,[[.msl 1 0 (List.length v1),.msl 3 0 (List.length v4)]]),some (1,List.map rStr v1),none,some (1,List.map byteRow v4)]) ⟨[.old 0,.old 1,.dead,.old 3],ce j0 j0<|cv j0 (rsFn ⟨(.mpt j0),j5⟩ j5)<|cn,j0,⟨⟨_,j0,rsOne ⟨.msl j0,.msl j0,j5⟩⟩,⟨_,j0,rsMap (fun _=>j0)⟩,⟨_,j0,rsMap (fun _=>j0)⟩,j5⟩,j0,j1⟩<|r_nil ?_
 refine rg j0<|u<|mv j0<|u<|lnI ti32 j0 j0<|u<|mv j0<|r_nil ?_
 obtain ⟨o,ho,h⟩:=bs h
 refine sw_lpl (X:=(List (List UInt8)) × (List UInt8) × Int) (B:=(List (List UInt8)) × (List UInt8)) (R:=(List (List UInt8)) × (List UInt8)) (fun z=>[(2,.fn (.func 114) [.mpt 0 0 0] []),(12,.isl 3 (List.map rApiMap v3)),(13,iA (List.length v3 : Int)),(14,iA z.2.2)]) (fun z=>[some (2,[[.msl 3 0 (List.length z.1),.msl 4 0 (List.length z.2.1)]]),none,none,some (1,List.map rStr z.1),some (1,List.map byteRow z.2.1)]) (fun b=>[]) (fun b=>[some (2,[[.msl 3 0 (List.length b.1),.msl 4 0 (List.length b.2)]]),none,none,some (1,List.map rStr b.1),some (1,List.map byteRow b.2)]) (fun r env st=>PostF Tryz.prog Tryz.f113 3 (.tup []) [some (2,[[.msl 3 0 (List.length r.1),.msl 4 0 (List.length r.2)]]),none,none,some (1,List.map rStr r.1),some (1,List.map byteRow r.2)] env st) ho ⟨[.old 0,.dead,.dead,.old 1,.old 3],cv j0 (rsFn ⟨(.mpt j0),j5⟩ j5)<|ce j0 j0<|ce j0 j0<|ce j0 j0<|cn,j0,⟨⟨_,j0,rsOne ⟨.msl j0,.msl j0,j5⟩⟩,⟨_,j0,rsMap (fun _=>j0)⟩,⟨_,j0,rsMap (fun _=>j0)⟩,j5⟩,j0,j1⟩ ?_ ?_ ?_
 ·
  rintro ⟨v10,v11,v12⟩ r h
  replace h : file_list_api_Map_l1 v3 v10 v11 v12 = some r:=h
  unfold file_list_api_Map_l1 at h
  refine rg j0<|u<|lss ti3 j0 j0<|r_nil ?_
  refine sw_seq ?_
  refine sw_cond j0 (fun hc5=>?_) (fun hc5=>?_)
  ·
   replace h:=bT hc5 h
   refine sw_skip ?_
   refine sw_seq ?_
   refine sw_block ?_
   obtain ⟨v13,q6,h⟩:=bs h
   refine rg j0<|u<|ixI ti32 j0 ti39 j0 j0 j0 q6<|u<|ldI ti39 j0 (idx_some q6).2.2 j0<|u<|al 5 ti39 j0<|u<|sto ti39 j0 j0 j0<|r_nil ?_
   obtain ⟨v14,q7,h⟩:=bs h
   refine rl j0<|u<|mv j0<|u<|ld ti39 j0 j0<|u<|sc [0,3,4] (file_writer_place_ok v10 v11 v13 q7) j0 j0 j0 j0 ⟨(.mpt j0),(rnI j0),j5⟩ ⟨⟨_,j0,⟨(.msl j0),(.msl j0),j5⟩⟩,⟨j0,mkI (fun _=>j0)⟩,⟨j0,mkI (fun _=>j0)⟩,j5⟩<|r_can (env0:=[(2,.fn (.func 114) [.mpt 0 0 0] []),(12,.isl 3 (List.map rApiMap v3)),(13,iA (List.length v3 : Int)),(14,iA v12)]) (st0:=[some (2,[[.msl 3 0 (List.length v14.1),.msl 4 0 (List.length v14.2)]]),none,none,some (1,List.map rStr v14.1),some (1,List.map byteRow v14.2)]) ⟨[.old 0,.dead,.dead,.old 6,.old 7],cv j0 (rsFn ⟨(.mpt j0),j5⟩ j5)<|ce j0 j0<|ce j0 j0<|ce j0 j0<|cn,j0,⟨⟨_,j0,rsOne ⟨.msl j0,.msl j0,j5⟩⟩,⟨_,j0,rsMap (fun _=>j0)⟩,⟨_,j0,rsMap (fun _=>j0)⟩,j5⟩,j0,j1⟩<|r_nil ?_
   refine rl j0<|u<|add ti3 j0 j0<|u<|mv j0<|r_nil ?_
   obtain rfl:=sm h
   exact ⟨_,j0,[.old 0,.dead,.dead,.old 3,.old 4],cv j0 (rsFn ⟨(.mpt j0),j5⟩ j5)<|ce j0 j0<|ce j0 j0<|ce j0 j0<|cn,j0,⟨⟨_,j0,rsOne ⟨.msl j0,.msl j0,j5⟩⟩,⟨_,j0,rsMap (fun _=>j0)⟩,⟨_,j0,rsMap (fun _=>j0)⟩,j5⟩,j0,j1⟩
  ·
   replace h:=bF hc5 h
   refine sw_exit ?_
   obtain rfl:=sm h
   exact ⟨j0,_,j0,[.old 0,.dead,.dead,.old 3,.old 4],cn,j0,⟨⟨_,j0,rsOne ⟨.msl j0,.msl j0,j5⟩⟩,⟨_,j0,rsMap (fun _=>j0)⟩,⟨_,j0,rsMap (fun _=>j0)⟩,j5⟩,j0,j1⟩
 ·
  rintro ⟨v15,v16⟩ rfl
  replace h : file_list_api_Map_k2 v15 v16 = some r:=h
  unfold file_list_api_Map_k2 at h
  refine ow_intro ?_
  obtain rfl:=sm h
  exact ⟨_,j0,[.old 0,.dead,.dead,.old 3,.old 4],rsTup j5,j0,⟨⟨_,j0,rsOne ⟨.msl j0,.msl j0,j5⟩⟩,⟨_,j0,rsMap (fun _=>j0)⟩,⟨_,j0,rsMap (fun _=>j0)⟩,j5⟩,j0,j1⟩
 ·
  rintro r' rfl env st hp
  obtain rfl:=sm h
  exact hp
def file_writer_trap (v1 : List (List UInt8)) (v2 : List UInt8) (v3 : ApiTrap) : Option ((List (List UInt8)) × (List UInt8)) :=
  (file_writer_num v1 v2 v3.From).bind fun v4=>(file_writer_num v1 v4 v3.To).bind fun v5=>(file_writer_num v1 v5 v3.At).bind fun v6=>(file_writer_text v1 v6 v3.C).bind fun v7=>some (v7.1,v7.2)
theorem file_writer_trap_ok (v1 : List (List UInt8)) (v2 : List UInt8) (v3 : ApiTrap) {r : (List (List UInt8)) × (List UInt8)} (h : file_writer_trap v1 v2 v3 = some r) : SC Tryz.prog 116 [.mpt 0 0 0,.agg [iA v3.From,iA v3.To,iA v3.At,sA v3.C]] [.one 2 [.msl 1 0 (List.length v1),.msl 2 0 (List.length v2)],.many 1 (List.map rStr v1),.many 1 (List.map byteRow v2)] (.tup []) [.one 2 [.msl 3 0 (List.length r.1),.msl 4 0 (List.length r.2)],.no,.no,.many 1 (List.map rStr r.1),.many 1 (List.map byteRow r.2)]:=by
 refine ⟨⟨j5,j5,j5,sbOk (sz:=1) (fun _=>j0),sbOk (sz:=1) (fun _=>j0),j5⟩,scall_fn Tryz.func116 j0 (by kernel_rfl) j0 ?_⟩
 unfold file_writer_trap at h
 refine rg j0<|u<|bx 3 4 j0 j0 j0 j0<|r_nil ?_
 obtain ⟨v4,q1,h⟩:=bs h
 refine rg j0<|u<|mv j0<|u<|fa ti113 j0 j0 j0<|u<|ld ti3 j0 j0<|u<|sc [0,1,2] (file_writer_num_ok v1 v2 v3.From q1) j0 j0 j0 j0 ⟨(.mpt j0),(rnI j0),j5⟩ ⟨⟨_,j0,⟨(.msl j0),(.msl j0),j5⟩⟩,⟨j0,mkI (fun _=>j0)⟩,⟨j0,mkI (fun _=>j0)⟩,j5⟩<|r_can (env0:=[(0,.mpt 0 0 0),(3,.mpt 4 0 0)]) (st0:=[some (2,[[.msl 1 0 (List.length v1),.msl 3 0 (List.length v4)]]),some (1,List.map rStr v1),none,some (1,List.map byteRow v4),some (4,[[iA v3.From,iA v3.To,iA v3.At,sA v3.C]])]) ⟨[.old 0,.old 1,.dead,.old 4,.old 3],cv j0 (.mpt j0)<|cv j0 (.mpt j0)<|cn,j0,⟨⟨_,j0,rsOne ⟨.msl j0,.msl j0,j5⟩⟩,⟨_,j0,rsMap (fun _=>j0)⟩,⟨_,j0,rsMap (fun _=>j0)⟩,⟨_,j0,rsOne ⟨ci j0,ci j0,ci j0,ci j0,j5⟩⟩,j5⟩,j0,j1⟩<|r_nil ?_
 obtain ⟨v5,q2,h⟩:=bs h
 refine rg j0<|u<|mv j0<|u<|fa ti113 j0 j0 j0<|u<|ld ti3 j0 j0<|u<|sc [0,1,3] (file_writer_num_ok v1 v4 v3.To q2) j0 j0 j0 j0 ⟨(.mpt j0),(rnI j0),j5⟩ ⟨⟨_,j0,⟨(.msl j0),(.msl j0),j5⟩⟩,⟨j0,mkI (fun _=>j0)⟩,⟨j0,mkI (fun _=>j0)⟩,j5⟩<|r_can (env0:=[(0,.mpt 0 0 0),(3,.mpt 4 0 0)]) (st0:=[some (2,[[.msl 1 0 (List.length v1),.msl 3 0 (List.length v5)]]),some (1,List.map rStr v1),none,some (1,List.map byteRow v5),some (4,[[iA v3.From,iA v3.To,iA v3.At,sA v3.C]])]) ⟨[.old 0,.old 1,.dead,.old 5,.old 4],cv j0 (.mpt j0)<|cv j0 (.mpt j0)<|cn,j0,⟨⟨_,j0,rsOne ⟨.msl j0,.msl j0,j5⟩⟩,⟨_,j0,rsMap (fun _=>j0)⟩,⟨_,j0,rsMap (fun _=>j0)⟩,⟨_,j0,rsOne ⟨ci j0,ci j0,ci j0,ci j0,j5⟩⟩,j5⟩,j0,j1⟩<|r_nil ?_
 obtain ⟨v6,q3,h⟩:=bs h
 refine rg j0<|u<|mv j0<|u<|fa ti113 j0 j0 j0<|u<|ld ti3 j0 j0<|u<|sc [0,1,3] (file_writer_num_ok v1 v5 v3.At q3) j0 j0 j0 j0 ⟨(.mpt j0),(rnI j0),j5⟩ ⟨⟨_,j0,⟨(.msl j0),(.msl j0),j5⟩⟩,⟨j0,mkI (fun _=>j0)⟩,⟨j0,mkI (fun _=>j0)⟩,j5⟩<|r_can (env0:=[(0,.mpt 0 0 0),(3,.mpt 4 0 0)]) (st0:=[some (2,[[.msl 1 0 (List.length v1),.msl 3 0 (List.length v6)]]),some (1,List.map rStr v1),none,some (1,List.map byteRow v6),some (4,[[iA v3.From,iA v3.To,iA v3.At,sA v3.C]])]) ⟨[.old 0,.old 1,.dead,.old 5,.old 4],cv j0 (.mpt j0)<|cv j0 (.mpt j0)<|cn,j0,⟨⟨_,j0,rsOne ⟨.msl j0,.msl j0,j5⟩⟩,⟨_,j0,rsMap (fun _=>j0)⟩,⟨_,j0,rsMap (fun _=>j0)⟩,⟨_,j0,rsOne ⟨ci j0,ci j0,ci j0,ci j0,j5⟩⟩,j5⟩,j0,j1⟩<|r_nil ?_
 obtain ⟨v7,q4,h⟩:=bs h
 refine rl j0<|u<|mv j0<|u<|fa ti113 j0 j0 j0<|u<|ld ti9 j0 j0<|u<|sc [0,1,3] (file_writer_text_ok v1 v6 v3.C q4) j0 j0 j0 j0 ⟨(.mpt j0),(rnI j0),j5⟩ ⟨⟨_,j0,⟨(.msl j0),(.msl j0),j5⟩⟩,⟨j0,mkI (fun _=>j0)⟩,⟨j0,mkI (fun _=>j0)⟩,j5⟩<|r_can (env0:=[]) (st0:=[some (2,[[.msl 3 0 (List.length v7.1),.msl 4 0 (List.length v7.2)]]),none,none,some (1,List.map rStr v7.1),some (1,List.map byteRow v7.2)]) ⟨[.old 0,.dead,.dead,.old 5,.old 6],cn,j0,⟨⟨_,j0,rsOne ⟨.msl j0,.msl j0,j5⟩⟩,⟨_,j0,rsMap (fun _=>j0)⟩,⟨_,j0,rsMap (fun _=>j0)⟩,j5⟩,j0,j1⟩<|r_nil ?_
 obtain rfl:=sm h
 exact ⟨_,j0,[.old 0,.dead,.dead,.old 3,.old 4],rsTup j5,j0,⟨⟨_,j0,rsOne ⟨.msl j0,.msl j0,j5⟩⟩,⟨_,j0,rsMap (fun _=>j0)⟩,⟨_,j0,rsMap (fun _=>j0)⟩,j5⟩,j0,j1⟩
def file_list_api_Trap_k2 (v15 : List (List UInt8)) (v16 : List UInt8) : Option ((List (List UInt8)) × (List UInt8)) :=
  some (v15,v16)
def file_list_api_Trap_l1 (v3 : List ApiTrap) (v10 : List (List UInt8)) (v11 : List UInt8) (v12 : Int) : Option (Sum ((List (List UInt8)) × (List UInt8) × Int) (Sum ((List (List UInt8)) × (List UInt8)) ((List (List UInt8)) × (List UInt8)))) :=
  cond (decide (v12 < (List.length v3 : Int))) ((idx v3 v12).bind fun v13=>(file_writer_trap v10 v11 v13).bind fun v14=>some (.inl (v14.1,v14.2,(IntKind.i64.wrap (v12 + 1))))) (some (.inr (.inl (v10,v11))))
def file_list_api_Trap (v1 : List (List UInt8)) (v2 : List UInt8) (v3 : List ApiTrap) : Option ((List (List UInt8)) × (List UInt8)) :=
  (file_writer_num v1 v2 (List.length v3 : Int)).bind fun v4=>(loopP (fun z=>file_list_api_Trap_l1 v3 z.1 z.2.1 z.2.2) (v1,v4,0)).bind fun o=>leave o (fun b=>file_list_api_Trap_k2 b.1 b.2) some
theorem file_list_api_Trap_ok (v1 : List (List UInt8)) (v2 : List UInt8) (v3 : List ApiTrap) {r : (List (List UInt8)) × (List UInt8)} (h : file_list_api_Trap v1 v2 v3 = some r) : SC Tryz.prog 115 [.mpt 0 0 0,.isl 4 (List.map rApiTrap v3),.fn (.func 116) [.mpt 0 0 0] []] [.one 2 [.msl 1 0 (List.length v1),.msl 2 0 (List.length v2)],.many 1 (List.map rStr v1),.many 1 (List.map byteRow v2)] (.tup []) [.one 2 [.msl 3 0 (List.length r.1),.msl 4 0 (List.length r.2)],.no,.no,.many 1 (List.map rStr r.1),.many 1 (List.map byteRow r.2)]:=by
 refine ⟨⟨j5,j5,j5,sbOk (sz:=1) (fun _=>j0),sbOk (sz:=1) (fun _=>j0),j5⟩,scall_fn Tryz.func115 j0 (by kernel_rfl) j0 ?_⟩
 unfold file_list_api_Trap at h
 obtain ⟨v4,q1,h⟩:=bs h
 refine rg j0<|u<|mv j0<|u<|mv j0<|u<|lnI ti33 j0 j0<|u<|sc [0,1,2] (file_writer_num_ok v1 v2 (List.length v3 : Int) q1) j0 j0 j0 j0 ⟨(.mpt j0),(rnI j0),j5⟩ ⟨⟨_,j0,⟨(.msl j0),(.msl j0),j5⟩⟩,⟨j0,mkI (fun _=>j0)⟩,⟨j0,mkI (fun _=>j0)⟩,j5⟩<|r_can (env0:=[(1,.isl 4 (List.map rApiTrap v3)),(2,.fn (.func 116) [.mpt 0 0 0] [])]) (st0:=[some (2,[[.msl 1 0 (List.length v1),.msl 3 0 (List.length v4)]]),some (1,List.map rStr v1),none,some (1,List.map byteRow v4)]) ⟨[.old 0,.old 1,.dead,.old 3],ce j0 j0<|cv j0 (rsFn ⟨(.mpt j0),j5⟩ j5)<|cn,j0,⟨⟨_,j0,rsOne ⟨.msl j0,.msl j0,j5⟩⟩,⟨_,j0,rsMap (fun _=>j0)⟩,⟨_,j0,rsMap (fun _=>j0)⟩,j5⟩,j0,j1⟩<|r_nil ?_
 refine rg j0<|u<|mv j0<|u<|lnI ti33 j0 j0<|u<|mv j0<|r_nil ?_
 obtain ⟨o,ho,h⟩:=bs h
 refine sw_lpl (X:=(List (List UInt8)) × (List UInt8) × Int) (B:=(List (List UInt8)) × (List UInt8)) (R:=(List (List UInt8)) × (List UInt8)) (fun z=>[(2,.fn (.func 116) [.mpt 0 0 0] []),(12,.isl 4 (List.map rApiTrap v3)),(13,iA (List.length v3 : Int)),(14,iA z.2.2)]) (fun z=>[some (2,[[.msl 3 0 (List.length z.1),.msl 4 0 (List.length z.2.1)]]),none,none,some (1,List.map rStr z.1),some (1,List.map byteRow z.2.1)]) (fun b=>[]) (fun b=>[some (2,[[.msl 3 0 (List.length b.1),.msl 4 0 (List.length b.2)]]),none,none,some (1,List.map rStr b.1),some (1,List.map byteRow b.2)]) (fun r env st=>PostF Tryz.prog Tryz.f115 3 (.tup []) [some (2,[[.msl 3 0 (List.length r.1),.msl 4 0 (List.length r.2)]]),none,none,some (1,List.map rStr r.1),some (1,List.map byteRow r.2)] env st) ho ⟨[.old 0,.dead,.dead,.old 1,.old 3],cv j0 (rsFn ⟨(.mpt j0),j5⟩ j5)<|ce j0 j0<|ce j0 j0<|ce j0 j0<|cn,j0,⟨⟨_,j0,rsOne ⟨.msl j0,.msl j0,j5⟩⟩,⟨_,j0,rsMap (fun _=>j0)⟩,⟨_,j0,rsMap (fun _=>j0)⟩,j5⟩,j0,j1⟩ ?_ ?_ ?_
 ·
  rintro ⟨v10,v11,v12⟩ r h
  replace h : file_list_api_Trap_l1 v3 v10 v11 v12 = some r:=h
  unfold file_list_api_Trap_l1 at h
  refine rg j0<|u<|lss ti3 j0 j0<|r_nil ?_
  refine sw_seq ?_
  refine sw_cond j0 (fun hc5=>?_) (fun hc5=>?_)
  ·
   replace h:=bT hc5 h
   refine sw_skip ?_
   refine sw_seq ?_
   refine sw_block ?_
   obtain ⟨v13,q6,h⟩:=bs h
   refine rg j0<|u<|ixI ti33 j0 ti113 j0 j0 j0 q6<|u<|ldI ti113 j0 (idx_some q6).2.2 j0<|u<|al 5 ti113 j0<|u<|sto ti113 j0 j0 j0<|r_nil ?_
   obtain ⟨v14,q7,h⟩:=bs h
   refine rl j0<|u<|mv j0<|u<|ld ti113 j0 j0<|u<|sc [0,3,4] (file_writer_trap_ok v10 v11 v13 q7) j0 j0 j0 j0 ⟨(.mpt j0),(rnI j0),j5⟩ ⟨⟨_,j0,⟨(.msl j0),(.msl j0),j5⟩⟩,⟨j0,mkI (fun _=>j0)⟩,⟨j0,mkI (fun _=>j0)⟩,j5⟩<|r_can (env0:=[(2,.fn (.func 116) [.mpt 0 0 0] []),(12,.isl 4 (List.map rApiTrap v3)),(13,iA (List.length v3 : Int)),(14,iA v12)]) (st0:=[some (2,[[.msl 3 0 (List.length v14.1),.msl 4 0 (List.length v14.2)]]),none,none,some (1,List.map rStr v14.1),some (1,List.map byteRow v14.2)]) ⟨[.old 0,.dead,.dead,.old 6,.old 7],cv j0 (rsFn ⟨(.mpt j0),j5⟩ j5)<|ce j0 j0<|ce j0 j0<|ce j0 j0<|cn,j0,⟨⟨_,j0,rsOne ⟨.msl j0,.msl j0,j5⟩⟩,⟨_,j0,rsMap (fun _=>j0)⟩,⟨_,j0,rsMap (fun _=>j0)⟩,j5⟩,j0,j1⟩<|r_nil ?_
   refine rl j0<|u<|add ti3 j0 j0<|u<|mv j0<|r_nil ?_
   obtain rfl:=sm h
   exact ⟨_,j0,[.old 0,.dead,.dead,.old 3,.old 4],cv j0 (rsFn ⟨(.mpt j0),j5⟩ j5)<|ce j0 j0<|ce j0 j0<|ce j0 j0<|cn,j0,⟨⟨_,j0,rsOne ⟨.msl j0,.msl j0,j5⟩⟩,⟨_,j0,rsMap (fun _=>j0)⟩,⟨_,j0,rsMap (fun _=>j0)⟩,j5⟩,j0,j1⟩
  ·
   replace h:=bF hc5 h
   refine sw_exit ?_
   obtain rfl:=sm h
   exact ⟨j0,_,j0,[.old 0,.dead,.dead,.old 3,.old 4],cn,j0,⟨⟨_,j0,rsOne ⟨.msl j0,.msl j0,j5⟩⟩,⟨_,j0,rsMap (fun _=>j0)⟩,⟨_,j0,rsMap (fun _=>j0)⟩,j5⟩,j0,j1⟩
 ·
  rintro ⟨v15,v16⟩ rfl
  replace h : file_list_api_Trap_k2 v15 v16 = some r:=h
  unfold file_list_api_Trap_k2 at h
  refine ow_intro ?_
  obtain rfl:=sm h
  exact ⟨_,j0,[.old 0,.dead,.dead,.old 3,.old 4],rsTup j5,j0,⟨⟨_,j0,rsOne ⟨.msl j0,.msl j0,j5⟩⟩,⟨_,j0,rsMap (fun _=>j0)⟩,⟨_,j0,rsMap (fun _=>j0)⟩,j5⟩,j0,j1⟩
 ·
  rintro r' rfl env st hp
  obtain rfl:=sm h
  exact hp
def file_writer_method (v1 : List (List UInt8)) (v2 : List UInt8) (v3 : ApiMethod) : Option ((List (List UInt8)) × (List UInt8)) :=
  (file_writer_text v1 v2 v3.Name).bind fun v4=>(file_list_string v4.1 v4.2 v3.Params).bind fun v5=>(file_writer_text v5.1 v5.2 v3.Ret).bind fun v6=>(file_writer_truth v6.1 v6.2 v3.Static).bind fun v7=>(file_writer_truth v6.1 v7 v3.Abstract).bind fun v8=>(file_writer_num v6.1 v8 v3.Locals).bind fun v9=>(file_writer_num v6.1 v9 v3.Stack).bind fun v10=>(file_list_api_Ins v6.1 v10 v3.Code).bind fun v11=>(file_list_api_Map v11.1 v11.2 v3.Maps).bind fun v12=>(file_list_api_Trap v12.1 v12.2 v3.Traps).bind fun v13=>some (v13.1,v13.2)
theorem file_writer_method_ok (v1 : List (List UInt8)) (v2 : List UInt8) (v3 : ApiMethod) {r : (List (List UInt8)) × (List UInt8)} (h : file_writer_method v1 v2 v3 = some r) : SC Tryz.prog 53 [.mpt 0 0 0,.agg [sA v3.Name,.isl 1 (List.map rStr v3.Params),sA v3.Ret,bA v3.Static,bA v3.Abstract,iA v3.Locals,iA v3.Stack,.isl 4 (List.map rApiIns v3.Code),.isl 3 (List.map rApiMap v3.Maps),.isl 4 (List.map rApiTrap v3.Traps)]] [.one 2 [.msl 1 0 (List.length v1),.msl 2 0 (List.length v2)],.many 1 (List.map rStr v1),.many 1 (List.map byteRow v2)] (.tup []) [.one 2 [.msl 3 0 (List.length r.1),.msl 4 0 (List.length r.2)],.no,.no,.many 1 (List.map rStr r.1),.many 1 (List.map byteRow r.2)]:=by
 refine ⟨⟨j5,j5,j5,sbOk (sz:=1) (fun _=>j0),sbOk (sz:=1) (fun _=>j0),j5⟩,scall_fn Tryz.func53 j0 (by kernel_rfl) j0 ?_⟩
 unfold file_writer_method at h
 refine rg j0<|u<|bx 3 10 j0 j0 j0 j0<|r_nil ?_
 obtain ⟨v4,q1,h⟩:=bs h
 refine rg j0<|u<|mv j0<|u<|fa ti35 j0 j0 j0<|u<|ld ti9 j0 j0<|u<|sc [0,1,2] (file_writer_text_ok v1 v2 v3.Name q1) j0 j0 j0 j0 ⟨(.mpt j0),(rnI j0),j5⟩ ⟨⟨_,j0,⟨(.msl j0),(.msl j0),j5⟩⟩,⟨j0,mkI (fun _=>j0)⟩,⟨j0,mkI (fun _=>j0)⟩,j5⟩<|r_can (env0:=[(0,.mpt 0 0 0),(3,.mpt 5 0 0)]) (st0:=[some (2,[[.msl 3 0 (List.length v4.1),.msl 4 0 (List.length v4.2)]]),none,none,some (1,List.map rStr v4.1),some (1,List.map byteRow v4.2),some (10,[[sA v3.Name,.isl 1 (List.map rStr v3.Params),sA v3.Ret,bA v3.Static,bA v3.Abstract,iA v3.Locals,iA v3.Stack,.isl 4 (List.map rApiIns v3.Code),.isl 3 (List.map rApiMap v3.Maps),.isl 4 (List.map rApiTrap v3.Traps)]])]) ⟨[.old 0,.dead,.dead,.old 4,.old 5,.old 3],cv j0 (.mpt j0)<|cv j0 (.mpt j0)<|cn,j0,⟨⟨_,j0,rsOne ⟨.msl j0,.msl j0,j5⟩⟩,⟨_,j0,rsMap (fun _=>j0)⟩,⟨_,j0,rsMap (fun _=>j0)⟩,⟨_,j0,rsOne ⟨ci j0,ci j0,ci j0,ci j0,ci j0,ci j0,ci j0,ci j0,ci j0,ci j0,j5⟩⟩,j5⟩,j0,j1⟩<|r_nil ?_
 obtain ⟨v5,q2,h⟩:=bs h
 refine rg j0<|u<|mv j0<|u<|fa ti35 j0 j0 j0<|u<|ld ti24 j0 j0<|u<|mv j0<|u<|mf j0 j0<|u<|sc [0,3,4] (file_list_string_ok v4.1 v4.2 v3.Params q2) j0 j0 j0 j0 ⟨(.mpt j0),(rnI j0),(rnFn ⟨(.mpt j0),j5⟩ j5),j5⟩ ⟨⟨_,j0,⟨(.msl j0),(.msl j0),j5⟩⟩,⟨j0,mkI (fun _=>j0)⟩,⟨j0,mkI (fun _=>j0)⟩,j5⟩<|r_can (env0:=[(0,.mpt 0 0 0),(3,.mpt 5 0 0)]) (st0:=[some (2,[[.msl 3 0 (List.length v5.1),.msl 4 0 (List.length v5.2)]]),none,none,some (1,List.map rStr v5.1),some (1,List.map byteRow v5.2),some (10,[[sA v3.Name,.isl 1 (List.map rStr v3.Params),sA v3.Ret,bA v3.Static,bA v3.Abstract,iA v3.Locals,iA v3.Stack,.isl 4 (List.map rApiIns v3.Code),.isl 3 (List.map rApiMap v3.Maps),.isl 4 (List.map rApiTrap v3.Traps)]])]) ⟨[.old 0,.dead,.dead,.old 6,.old 7,.old 5],cv j0 (.mpt j0)<|cv j0 (.mpt j0)<|cn,j0,⟨⟨_,j0,rsOne ⟨.msl j0,.msl j0,j5⟩⟩,⟨_,j0,rsMap (fun _=>j0)⟩,⟨_,j0,rsMap (fun _=>j0)⟩,⟨_,j0,rsOne ⟨ci j0,ci j0,ci j0,ci j0,ci j0,ci j0,ci j0,ci j0,ci j0,ci j0,j5⟩⟩,j5⟩,j0,j1⟩<|r_nil ?_
 obtain ⟨v6,q3,h⟩:=bs h
 refine rg j0<|u<|mv j0<|u<|fa ti35 j0 j0 j0<|u<|ld ti9 j0 j0<|u<|sc [0,3,4] (file_writer_text_ok v5.1 v5.2 v3.Ret q3) j0 j0 j0 j0 ⟨(.mpt j0),(rnI j0),j5⟩ ⟨⟨_,j0,⟨(.msl j0),(.msl j0),j5⟩⟩,⟨j0,mkI (fun _=>j0)⟩,⟨j0,mkI (fun _=>j0)⟩,j5⟩<|r_can (env0:=[(0,.mpt 0 0 0),(3,.mpt 5 0 0)]) (st0:=[some (2,[[.msl 3 0 (List.length v6.1),.msl 4 0 (List.length v6.2)]]),none,none,some (1,List.map rStr v6.1),some (1,List.map byteRow v6.2),some (10,[[sA v3.Name,.isl 1 (List.map rStr v3.Params),sA v3.Ret,bA v3.Static,bA v3.Abstract,iA v3.Locals,iA v3.Stack,.isl 4 (List.map rApiIns v3.Code),.isl 3 (List.map rApiMap v3.Maps),.isl 4 (List.map rApiTrap v3.Traps)]])]) ⟨[.old 0,.dead,.dead,.old 6,.old 7,.old 5],cv j0 (.mpt j0)<|cv j0 (.mpt j0)<|cn,j0,⟨⟨_,j0,rsOne ⟨.msl j0,.msl j0,j5⟩⟩,⟨_,j0,rsMap (fun _=>j0)⟩,⟨_,j0,rsMap (fun _=>j0)⟩,⟨_,j0,rsOne ⟨ci j0,ci j0,ci j0,ci j0,ci j0,ci j0,ci j0,ci j0,ci j0,ci j0,j5⟩⟩,j5⟩,j0,j1⟩<|r_nil ?_
 obtain ⟨v7,q4,h⟩:=bs h
 refine rg j0<|u<|mv j0<|u<|fa ti35 j0 j0 j0<|u<|ld ti4 j0 j0<|u<|sc [0,3,4] (file_writer_truth_ok v6.1 v6.2 v3.Static q4) j0 j0 j0 j0 ⟨(.mpt j0),(rnI j0),j5⟩ ⟨⟨_,j0,⟨(.msl j0),(.msl j0),j5⟩⟩,⟨j0,mkI (fun _=>j0)⟩,⟨j0,mkI (fun _=>j0)⟩,j5⟩<|r_can (env0:=[(0,.mpt 0 0 0),(3,.mpt 5 0 0)]) (st0:=[some (2,[[.msl 3 0 (List.length v6.1),.msl 4 0 (List.length v7)]]),none,none,some (1,List.map rStr v6.1),some (1,List.map byteRow v7),some (10,[[sA v3.Name,.isl 1 (List.map rStr v3.Params),sA v3.Ret,bA v3.Static,bA v3.Abstract,iA v3.Locals,iA v3.Stack,.isl 4 (List.map rApiIns v3.Code),.isl 3 (List.map rApiMap v3.Maps),.isl 4 (List.map rApiTrap v3.Traps)]])]) ⟨[.old 0,.dead,.dead,.old 3,.old 6,.old 5],cv j0 (.mpt j0)<|cv j0 (.mpt j0)<|cn,j0,⟨⟨_,j0,rsOne ⟨.msl j0,.msl j0,j5⟩⟩,⟨_,j0,rsMap (fun _=>j0)⟩,⟨_,j0,rsMap (fun _=>j0)⟩,⟨_,j0,rsOne ⟨ci j0,ci j0,ci j0,ci j0,ci j0,ci j0,ci j0,ci j0,ci j0,ci j0,j5⟩⟩,j5⟩,j0,j1⟩<|r_nil ?_
 obtain ⟨v8,q5,h⟩:=bs h
 refine rg j0<|u<|mv j0<|u<|fa ti35 j0 j0 j0<|u<|ld ti4 j0 j0<|u<|sc [0,3,4] (file_writer_truth_ok v6.1 v7 v3.Abstract q5) j0 j0 j0 j0 ⟨(.mpt j0),(rnI j0),j5⟩ ⟨⟨_,j0,⟨(.msl j0),(.msl j0),j5⟩⟩,⟨j0,mkI (fun _=>j0)⟩,⟨j0,mkI (fun _=>j0)⟩,j5⟩<|r_can (env0:=[(0,.mpt 0 0 0),(3,.mpt 5 0 0)]) (st0:=[some (2,[[.msl 3 0 (List.length v6.1),.msl 4 0 (List.length v8)]]),none,none,some (1,List.map rStr v6.1),some (1,List.map byteRow v8),some (10,[[sA v3.Name,.isl 1 (List.map rStr v3.Params),sA v3.Ret,bA v3.Static,bA v3.Abstract,iA v3.Locals,iA v3.Stack,.isl 4 (List.map rApiIns v3.Code),.isl 3 (List.map rApiMap v3.Maps),.isl 4 (List.map rApiTrap v3.Traps)]])]) ⟨[.old 0,.dead,.dead,.old 3,.old 6,.old 5],cv j0 (.mpt j0)<|cv j0 (.mpt j0)<|cn,j0,⟨⟨_,j0,rsOne ⟨.msl j0,.msl j0,j5⟩⟩,⟨_,j0,rsMap (fun _=>j0)⟩,⟨_,j0,rsMap (fun _=>j0)⟩,⟨_,j0,rsOne ⟨ci j0,ci j0,ci j0,ci j0,ci j0,ci j0,ci j0,ci j0,ci j0,ci j0,j5⟩⟩,j5⟩,j0,j1⟩<|r_nil ?_
 obtain ⟨v9,q6,h⟩:=bs h
 refine rg j0<|u<|mv j0<|u<|fa ti35 j0 j0 j0<|u<|ld ti3 j0 j0<|u<|sc [0,3,4] (file_writer_num_ok v6.1 v8 v3.Locals q6) j0 j0 j0 j0 ⟨(.mpt j0),(rnI j0),j5⟩ ⟨⟨_,j0,⟨(.msl j0),(.msl j0),j5⟩⟩,⟨j0,mkI (fun _=>j0)⟩,⟨j0,mkI (fun _=>j0)⟩,j5⟩<|r_can (env0:=[(0,.mpt 0 0 0),(3,.mpt 5 0 0)]) (st0:=[some (2,[[.msl 3 0 (List.length v6.1),.msl 4 0 (List.length v9)]]),none,none,some (1,List.map rStr v6.1),some (1,List.map byteRow v9),some (10,[[sA v3.Name,.isl 1 (List.map rStr v3.Params),sA v3.Ret,bA v3.Static,bA v3.Abstract,iA v3.Locals,iA v3.Stack,.isl 4 (List.map rApiIns v3.Code),.isl 3 (List.map rApiMap v3.Maps),.isl 4 (List.map rApiTrap v3.Traps)]])]) ⟨[.old 0,.dead,.dead,.old 3,.old 6,.old 5],cv j0 (.mpt j0)<|cv j0 (.mpt j0)<|cn,j0,⟨⟨_,j0,rsOne ⟨.msl j0,.msl j0,j5⟩⟩,⟨_,j0,rsMap (fun _=>j0)⟩,⟨_,j0,rsMap (fun _=>j0)⟩,⟨_,j0,rsOne ⟨ci j0,ci j0,ci j0,ci j0,ci j0,ci j0,ci j0,ci j0,ci j0,ci j0,j5⟩⟩,j5⟩,j0,j1⟩<|r_nil ?_
 obtain ⟨v10,q7,h⟩:=bs h
 refine rg j0<|u<|mv j0<|u<|fa ti35 j0 j0 j0<|u<|ld ti3 j0 j0<|u<|sc [0,3,4] (file_writer_num_ok v6.1 v9 v3.Stack q7) j0 j0 j0 j0 ⟨(.mpt j0),(rnI j0),j5⟩ ⟨⟨_,j0,⟨(.msl j0),(.msl j0),j5⟩⟩,⟨j0,mkI (fun _=>j0)⟩,⟨j0,mkI (fun _=>j0)⟩,j5⟩<|r_can (env0:=[(0,.mpt 0 0 0),(3,.mpt 5 0 0)]) (st0:=[some (2,[[.msl 3 0 (List.length v6.1),.msl 4 0 (List.length v10)]]),none,none,some (1,List.map rStr v6.1),some (1,List.map byteRow v10),some (10,[[sA v3.Name,.isl 1 (List.map rStr v3.Params),sA v3.Ret,bA v3.Static,bA v3.Abstract,iA v3.Locals,iA v3.Stack,.isl 4 (List.map rApiIns v3.Code),.isl 3 (List.map rApiMap v3.Maps),.isl 4 (List.map rApiTrap v3.Traps)]])]) ⟨[.old 0,.dead,.dead,.old 3,.old 6,.old 5],cv j0 (.mpt j0)<|cv j0 (.mpt j0)<|cn,j0,⟨⟨_,j0,rsOne ⟨.msl j0,.msl j0,j5⟩⟩,⟨_,j0,rsMap (fun _=>j0)⟩,⟨_,j0,rsMap (fun _=>j0)⟩,⟨_,j0,rsOne ⟨ci j0,ci j0,ci j0,ci j0,ci j0,ci j0,ci j0,ci j0,ci j0,ci j0,j5⟩⟩,j5⟩,j0,j1⟩<|r_nil ?_
 obtain ⟨v11,q8,h⟩:=bs h
 refine rg j0<|u<|mv j0<|u<|fa ti35 j0 j0 j0<|u<|ld ti31 j0 j0<|u<|mv j0<|u<|mf j0 j0<|u<|sc [0,3,4] (file_list_api_Ins_ok v6.1 v10 v3.Code q8) j0 j0 j0 j0 ⟨(.mpt j0),(rnI j0),(rnFn ⟨(.mpt j0),j5⟩ j5),j5⟩ ⟨⟨_,j0,⟨(.msl j0),(.msl j0),j5⟩⟩,⟨j0,mkI (fun _=>j0)⟩,⟨j0,mkI (fun _=>j0)⟩,j5⟩<|r_can (env0:=[(0,.mpt 0 0 0),(3,.mpt 5 0 0)]) (st0:=[some (2,[[.msl 3 0 (List.length v11.1),.msl 4 0 (List.length v11.2)]]),none,none,some (1,List.map rStr v11.1),some (1,List.map byteRow v11.2),some (10,[[sA v3.Name,.isl 1 (List.map rStr v3.Params),sA v3.Ret,bA v3.Static,bA v3.Abstract,iA v3.Locals,iA v3.Stack,.isl 4 (List.map rApiIns v3.Code),.isl 3 (List.map rApiMap v3.Maps),.isl 4 (List.map rApiTrap v3.Traps)]])]) ⟨[.old 0,.dead,.dead,.old 6,.old 7,.old 5],cv j0 (.mpt j0)<|cv j0 (.mpt j0)<|cn,j0,⟨⟨_,j0,rsOne ⟨.msl j0,.msl j0,j5⟩⟩,⟨_,j0,rsMap (fun _=>j0)⟩,⟨_,j0,rsMap (fun _=>j0)⟩,⟨_,j0,rsOne ⟨ci j0,ci j0,ci j0,ci j0,ci j0,ci j0,ci j0,ci j0,ci j0,ci j0,j5⟩⟩,j5⟩,j0,j1⟩<|r_nil ?_
 obtain ⟨v12,q9,h⟩:=bs h
 refine rg j0<|u<|mv j0<|u<|fa ti35 j0 j0 j0<|u<|ld ti32 j0 j0<|u<|mv j0<|u<|mf j0 j0<|u<|sc [0,3,4] (file_list_api_Map_ok v11.1 v11.2 v3.Maps q9) j0 j0 j0 j0 ⟨(.mpt j0),(rnI j0),(rnFn ⟨(.mpt j0),j5⟩ j5),j5⟩ ⟨⟨_,j0,⟨(.msl j0),(.msl j0),j5⟩⟩,⟨j0,mkI (fun _=>j0)⟩,⟨j0,mkI (fun _=>j0)⟩,j5⟩<|r_can (env0:=[(0,.mpt 0 0 0),(3,.mpt 5 0 0)]) (st0:=[some (2,[[.msl 3 0 (List.length v12.1),.msl 4 0 (List.length v12.2)]]),none,none,some (1,List.map rStr v12.1),some (1,List.map byteRow v12.2),some (10,[[sA v3.Name,.isl 1 (List.map rStr v3.Params),sA v3.Ret,bA v3.Static,bA v3.Abstract,iA v3.Locals,iA v3.Stack,.isl 4 (List.map rApiIns v3.Code),.isl 3 (List.map rApiMap v3.Maps),.isl 4 (List.map rApiTrap v3.Traps)]])]) ⟨[.old 0,.dead,.dead,.old 6,.old 7,.old 5],cv j0 (.mpt j0)<|cv j0 (.mpt j0)<|cn,j0,⟨⟨_,j0,rsOne ⟨.msl j0,.msl j0,j5⟩⟩,⟨_,j0,rsMap (fun _=>j0)⟩,⟨_,j0,rsMap (fun _=>j0)⟩,⟨_,j0,rsOne ⟨ci j0,ci j0,ci j0,ci j0,ci j0,ci j0,ci j0,ci j0,ci j0,ci j0,j5⟩⟩,j5⟩,j0,j1⟩<|r_nil ?_
 obtain ⟨v13,q10,h⟩:=bs h
 refine rl j0<|u<|mv j0<|u<|fa ti35 j0 j0 j0<|u<|ld ti33 j0 j0<|u<|mv j0<|u<|mf j0 j0<|u<|sc [0,3,4] (file_list_api_Trap_ok v12.1 v12.2 v3.Traps q10) j0 j0 j0 j0 ⟨(.mpt j0),(rnI j0),(rnFn ⟨(.mpt j0),j5⟩ j5),j5⟩ ⟨⟨_,j0,⟨(.msl j0),(.msl j0),j5⟩⟩,⟨j0,mkI (fun _=>j0)⟩,⟨j0,mkI (fun _=>j0)⟩,j5⟩<|r_can (env0:=[]) (st0:=[some (2,[[.msl 3 0 (List.length v13.1),.msl 4 0 (List.length v13.2)]]),none,none,some (1,List.map rStr v13.1),some (1,List.map byteRow v13.2)]) ⟨[.old 0,.dead,.dead,.old 6,.old 7],cn,j0,⟨⟨_,j0,rsOne ⟨.msl j0,.msl j0,j5⟩⟩,⟨_,j0,rsMap (fun _=>j0)⟩,⟨_,j0,rsMap (fun _=>j0)⟩,j5⟩,j0,j1⟩<|r_nil ?_
 obtain rfl:=sm h
 exact ⟨_,j0,[.old 0,.dead,.dead,.old 3,.old 4],rsTup j5,j0,⟨⟨_,j0,rsOne ⟨.msl j0,.msl j0,j5⟩⟩,⟨_,j0,rsMap (fun _=>j0)⟩,⟨_,j0,rsMap (fun _=>j0)⟩,j5⟩,j0,j1⟩
def file_list_api_Method_k2 (v15 : List (List UInt8)) (v16 : List UInt8) : Option ((List (List UInt8)) × (List UInt8)) :=
  some (v15,v16)
def file_list_api_Method_l1 (v3 : List ApiMethod) (v10 : List (List UInt8)) (v11 : List UInt8) (v12 : Int) : Option (Sum ((List (List UInt8)) × (List UInt8) × Int) (Sum ((List (List UInt8)) × (List UInt8)) ((List (List UInt8)) × (List UInt8)))) :=
  cond (decide (v12 < (List.length v3 : Int))) ((idx v3 v12).bind fun v13=>(file_writer_method v10 v11 v13).bind fun v14=>some (.inl (v14.1,v14.2,(IntKind.i64.wrap (v12 + 1))))) (some (.inr (.inl (v10,v11))))
def file_list_api_Method (v1 : List (List UInt8)) (v2 : List UInt8) (v3 : List ApiMethod) : Option ((List (List UInt8)) × (List UInt8)) :=
  (file_writer_num v1 v2 (List.length v3 : Int)).bind fun v4=>(loopP (fun z=>file_list_api_Method_l1 v3 z.1 z.2.1 z.2.2) (v1,v4,0)).bind fun o=>leave o (fun b=>file_list_api_Method_k2 b.1 b.2) some
theorem file_list_api_Method_ok (v1 : List (List UInt8)) (v2 : List UInt8) (v3 : List ApiMethod) {r : (List (List UInt8)) × (List UInt8)} (h : file_list_api_Method v1 v2 v3 = some r) : SC Tryz.prog 52 [.mpt 0 0 0,.isl 10 (List.map rApiMethod v3),.fn (.func 53) [.mpt 0 0 0] []] [.one 2 [.msl 1 0 (List.length v1),.msl 2 0 (List.length v2)],.many 1 (List.map rStr v1),.many 1 (List.map byteRow v2)] (.tup []) [.one 2 [.msl 3 0 (List.length r.1),.msl 4 0 (List.length r.2)],.no,.no,.many 1 (List.map rStr r.1),.many 1 (List.map byteRow r.2)]:=by
 refine ⟨⟨j5,j5,j5,sbOk (sz:=1) (fun _=>j0),sbOk (sz:=1) (fun _=>j0),j5⟩,scall_fn Tryz.func52 j0 (by kernel_rfl) j0 ?_⟩
 unfold file_list_api_Method at h
 obtain ⟨v4,q1,h⟩:=bs h
 refine rg j0<|u<|mv j0<|u<|mv j0<|u<|lnI ti26 j0 j0<|u<|sc [0,1,2] (file_writer_num_ok v1 v2 (List.length v3 : Int) q1) j0 j0 j0 j0 ⟨(.mpt j0),(rnI j0),j5⟩ ⟨⟨_,j0,⟨(.msl j0),(.msl j0),j5⟩⟩,⟨j0,mkI (fun _=>j0)⟩,⟨j0,mkI (fun _=>j0)⟩,j5⟩<|r_can (env0:=[(1,.isl 10 (List.map rApiMethod v3)),(2,.fn (.func 53) [.mpt 0 0 0] [])]) (st0:=[some (2,[[.msl 1 0 (List.length v1),.msl 3 0 (List.length v4)]]),some (1,List.map rStr v1),none,some (1,List.map byteRow v4)]) ⟨[.old 0,.old 1,.dead,.old 3],ce j0 j0<|cv j0 (rsFn ⟨(.mpt j0),j5⟩ j5)<|cn,j0,⟨⟨_,j0,rsOne ⟨.msl j0,.msl j0,j5⟩⟩,⟨_,j0,rsMap (fun _=>j0)⟩,⟨_,j0,rsMap (fun _=>j0)⟩,j5⟩,j0,j1⟩<|r_nil ?_
 refine rg j0<|u<|mv j0<|u<|lnI ti26 j0 j0<|u<|mv j0<|r_nil ?_
 obtain ⟨o,ho,h⟩:=bs h
 refine sw_lpl (X:=(List (List UInt8)) × (List UInt8) × Int) (B:=(List (List UInt8)) × (List UInt8)) (R:=(List (List UInt8)) × (List UInt8)) (fun z=>[(2,.fn (.func 53) [.mpt 0 0 0] []),(12,.isl 10 (List.map rApiMethod v3)),(13,iA (List.length v3 : Int)),(14,iA z.2.2)]) (fun z=>[some (2,[[.msl 3 0 (List.length z.1),.msl 4 0 (List.length z.2.1)]]),none,none,some (1,List.map rStr z.1),some (1,List.map byteRow z.2.1)]) (fun b=>[]) (fun b=>[some (2,[[.msl 3 0 (List.length b.1),.msl 4 0 (List.length b.2)]]),none,none,some (1,List.map rStr b.1),some (1,List.map byteRow b.2)]) (fun r env st=>PostF Tryz.prog Tryz.f52 3 (.tup []) [some (2,[[.msl 3 0 (List.length r.1),.msl 4 0 (List.length r.2)]]),none,none,some (1,List.map rStr r.1),some (1,List.map byteRow r.2)] env st) ho ⟨[.old 0,.dead,.dead,.old 1,.old 3],cv j0 (rsFn ⟨(.mpt j0),j5⟩ j5)<|ce j0 j0<|ce j0 j0<|ce j0 j0<|cn,j0,⟨⟨_,j0,rsOne ⟨.msl j0,.msl j0,j5⟩⟩,⟨_,j0,rsMap (fun _=>j0)⟩,⟨_,j0,rsMap (fun _=>j0)⟩,j5⟩,j0,j1⟩ ?_ ?_ ?_
 ·
  rintro ⟨v10,v11,v12⟩ r h
  replace h : file_list_api_Method_l1 v3 v10 v11 v12 = some r:=h
  unfold file_list_api_Method_l1 at h
  refine rg j0<|u<|lss ti3 j0 j0<|r_nil ?_
  refine sw_seq ?_
  refine sw_cond j0 (fun hc5=>?_) (fun hc5=>?_)
  ·
   replace h:=bT hc5 h
   refine sw_skip ?_
   refine sw_seq ?_
   refine sw_block ?_
   obtain ⟨v13,q6,h⟩:=bs h
   refine rg j0<|u<|ixI ti26 j0 ti35 j0 j0 j0 q6<|u<|ldI ti35 j0 (idx_some q6).2.2 j0<|u<|al 5 ti35 j0<|u<|sto ti35 j0 j0 j0<|r_nil ?_
   obtain ⟨v14,q7,h⟩:=bs h
   refine rl j0<|u<|mv j0<|u<|ld ti35 j0 j0<|u<|sc [0,3,4] (file_writer_method_ok v10 v11 v13 q7) j0 j0 j0 j0 ⟨(.mpt j0),(rnI j0),j5⟩ ⟨⟨_,j0,⟨(.msl j0),(.msl j0),j5⟩⟩,⟨j0,mkI (fun _=>j0)⟩,⟨j0,mkI (fun _=>j0)⟩,j5⟩<|r_can (env0:=[(2,.fn (.func 53) [.mpt 0 0 0] []),(12,.isl 10 (List.map rApiMethod v3)),(13,iA (List.length v3 : Int)),(14,iA v12)]) (st0:=[some (2,[[.msl 3 0 (List.length v14.1),.msl 4 0 (List.length v14.2)]]),none,none,some (1,List.map rStr v14.1),some (1,List.map byteRow v14.2)]) ⟨[.old 0,.dead,.dead,.old 6,.old 7],cv j0 (rsFn ⟨(.mpt j0),j5⟩ j5)<|ce j0 j0<|ce j0 j0<|ce j0 j0<|cn,j0,⟨⟨_,j0,rsOne ⟨.msl j0,.msl j0,j5⟩⟩,⟨_,j0,rsMap (fun _=>j0)⟩,⟨_,j0,rsMap (fun _=>j0)⟩,j5⟩,j0,j1⟩<|r_nil ?_
   refine rl j0<|u<|add ti3 j0 j0<|u<|mv j0<|r_nil ?_
   obtain rfl:=sm h
   exact ⟨_,j0,[.old 0,.dead,.dead,.old 3,.old 4],cv j0 (rsFn ⟨(.mpt j0),j5⟩ j5)<|ce j0 j0<|ce j0 j0<|ce j0 j0<|cn,j0,⟨⟨_,j0,rsOne ⟨.msl j0,.msl j0,j5⟩⟩,⟨_,j0,rsMap (fun _=>j0)⟩,⟨_,j0,rsMap (fun _=>j0)⟩,j5⟩,j0,j1⟩
  ·
   replace h:=bF hc5 h
   refine sw_exit ?_
   obtain rfl:=sm h
   exact ⟨j0,_,j0,[.old 0,.dead,.dead,.old 3,.old 4],cn,j0,⟨⟨_,j0,rsOne ⟨.msl j0,.msl j0,j5⟩⟩,⟨_,j0,rsMap (fun _=>j0)⟩,⟨_,j0,rsMap (fun _=>j0)⟩,j5⟩,j0,j1⟩
 ·
  rintro ⟨v15,v16⟩ rfl
  replace h : file_list_api_Method_k2 v15 v16 = some r:=h
  unfold file_list_api_Method_k2 at h
  refine ow_intro ?_
  obtain rfl:=sm h
  exact ⟨_,j0,[.old 0,.dead,.dead,.old 3,.old 4],rsTup j5,j0,⟨⟨_,j0,rsOne ⟨.msl j0,.msl j0,j5⟩⟩,⟨_,j0,rsMap (fun _=>j0)⟩,⟨_,j0,rsMap (fun _=>j0)⟩,j5⟩,j0,j1⟩
 ·
  rintro r' rfl env st hp
  obtain rfl:=sm h
  exact hp
def file_Encode_k2 (v8 : (List (List UInt8)) × (List UInt8)) (v18 : List UInt8) : Option ((List UInt8)) :=
  (appP 1 v18 v8.2).bind fun v19=>cond (decide (6000 < ((List.length v19) : Int))) (some []) (some v19)
def file_Encode_l1 (v8 : (List (List UInt8)) × (List UInt8)) (v14 : List UInt8) (v15 : Int) : Option (Sum ((List UInt8) × Int) (Sum ((List UInt8)) ((List UInt8)))) :=
  cond (decide (v15 < ((List.length v8.1) : Int))) ((idx v8.1 v15).bind fun v16=>(num_PutText v14 v16).bind fun v17=>some (.inl (v17,(IntKind.i64.wrap (v15 + 1))))) (some (.inr (.inl v14)))
def file_Encode (v1 : ApiClass) : Option ((List UInt8)) :=
  (class_May v1).bind fun v2=>cond (!v2) (some []) ((file_writer_text [] [] v1.Name).bind fun v3=>(file_writer_text v3.1 v3.2 v1.Super).bind fun v4=>(file_writer_truth v4.1 v4.2 v1.Interface).bind fun v5=>(file_list_string v4.1 v5 v1.Impl).bind fun v6=>(file_list_api_Field v6.1 v6.2 v1.Fields).bind fun v7=>(file_list_api_Method v7.1 v7.2 v1.Methods).bind fun v8=>(num_Put [(74 : UInt8),(65 : UInt8),(86 : UInt8),(65 : UInt8)] ((List.length v8.1) : Int)).bind fun v9=>(loopP (fun z=>file_Encode_l1 v8 z.1 z.2) (v9,0)).bind fun o=>leave o (fun b=>file_Encode_k2 v8 b) some)
theorem file_Encode_ok (v1 : ApiClass) {r : (List UInt8)} (h : file_Encode v1 = some r) : SC Tryz.prog 15 [.agg [sA v1.Name,sA v1.Super,bA v1.Interface,.isl 1 (List.map rStr v1.Impl),.isl 3 (List.map rApiField v1.Fields),.isl 10 (List.map rApiMethod v1.Methods)]] [] (.msl 0 0 (List.length r)) [.many 1 (List.map byteRow r)]:=by
 refine ⟨⟨sbOk (sz:=1) (fun _=>j0),j5⟩,scall_fn Tryz.func15 j0 (by kernel_rfl) j0 ?_⟩
 unfold file_Encode at h
 refine rg j0<|u<|bx 0 6 j0 j0 j0 j0<|u<|asg j0<|r_nil ?_
 refine sw_seq ?_
 obtain ⟨v2,q1,h⟩:=bs h
 refine rg j0<|u<|ld ti28 j0 j0<|u<|pc (class_May_ok v1 q1) j0 j0 j0<|u<|nt j0<|r_nil ?_
 refine sw_cond j0 (fun hc2=>?_) (fun hc2=>?_)
 ·
  replace h:=bT hc2 h
  refine rg j0<|u<|asg j0<|r_nil ?_
  refine sw_ret ?_
  obtain rfl:=sm h
  exact ⟨_,j0,[.fresh 1],.nilown j0,j0,⟨j4,j5⟩,j0,j1⟩
 ·
  replace h:=bF hc2 h
  refine sw_skip ?_
  refine rg j0<|u<|bd ti71 j0 j0 j0<|u<|bx 1 2 j0 j0 j0 j0<|u<|asg j0<|r_nil ?_
  obtain ⟨v3,q3,h⟩:=bs h
  refine rg j0<|u<|mv j0<|u<|fa ti28 j0 j0 j0<|u<|ld ti9 j0 j0<|ph 1<|ph 1<|u<|sc [1,2,3] (file_writer_text_ok [] [] v1.Name q3) j0 j0 j0 j0 ⟨(.mpt j0),(rnI j0),j5⟩ ⟨⟨_,j0,⟨(.nil0 j0),(.nil0 j0),j5⟩⟩,⟨j0,mkI (fun _=>j0)⟩,⟨j0,mkI (fun _=>j0)⟩,j5⟩<|r_can (env0:=[(1,.mpt 0 0 0),(3,.mpt 1 0 0)]) (st0:=[some (6,[[sA v1.Name,sA v1.Super,bA v1.Interface,.isl 1 (List.map rStr v1.Impl),.isl 3 (List.map rApiField v1.Fields),.isl 10 (List.map rApiMethod v1.Methods)]]),some (2,[[.msl 2 0 (List.length v3.1),.msl 3 0 (List.length v3.2)]]),some (1,List.map rStr v3.1),some (1,List.map byteRow v3.2)]) ⟨[.old 0,.old 1,.old 4,.old 5],cv j0 (.mpt j0)<|cv j0 (.mpt j0)<|cn,j0,⟨⟨_,j0,rsOne ⟨ci j0,ci j0,ci j0,ci j0,ci j0,ci j0,j5⟩⟩,⟨_,j0,rsOne ⟨.msl j0,.msl j0,j5⟩⟩,⟨_,j0,rsMap (fun _=>j0)⟩,⟨_,j0,rsMap (fun _=>j0)⟩,j5⟩,j0,j1⟩<|r_nil ?_
  obtain ⟨v4,q4,h⟩:=bs h
  refine rg j0<|u<|mv j0<|u<|fa ti28 j0 j0 j0<|u<|ld ti9 j0 j0<|u<|sc [1,2,3] (file_writer_text_ok v3.1 v3.2 v1.Super q4) j0 j0 j0 j0 ⟨(.mpt j0),(rnI j0),j5⟩ ⟨⟨_,j0,⟨(.msl j0),(.msl j0),j5⟩⟩,⟨j0,mkI (fun _=>j0)⟩,⟨j0,mkI (fun _=>j0)⟩,j5⟩<|r_can (env0:=[(1,.mpt 0 0 0),(3,.mpt 1 0 0)]) (st0:=[some (6,[[sA v1.Name,sA v1.Super,bA v1.Interface,.isl 1 (List.map rStr v1.Impl),.isl 3 (List.map rApiField v1.Fields),.isl 10 (List.map rApiMethod v1.Methods)]]),some (2,[[.msl 2 0 (List.length v4.1),.msl 3 0 (List.length v4.2)]]),some (1,List.map rStr v4.1),some (1,List.map byteRow v4.2)]) ⟨[.old 0,.old 1,.old 4,.old 5],cv j0 (.mpt j0)<|cv j0 (.mpt j0)<|cn,j0,⟨⟨_,j0,rsOne ⟨ci j0,ci j0,ci j0,ci j0,ci j0,ci j0,j5⟩⟩,⟨_,j0,rsOne ⟨.msl j0,.msl j0,j5⟩⟩,⟨_,j0,rsMap (fun _=>j0)⟩,⟨_,j0,rsMap (fun _=>j0)⟩,j5⟩,j0,j1⟩<|r_nil ?_
  obtain ⟨v5,q5,h⟩:=bs h
  refine rg j0<|u<|mv j0<|u<|fa ti28 j0 j0 j0<|u<|ld ti4 j0 j0<|u<|sc [1,2,3] (file_writer_truth_ok v4.1 v4.2 v1.Interface q5) j0 j0 j0 j0 ⟨(.mpt j0),(rnI j0),j5⟩ ⟨⟨_,j0,⟨(.msl j0),(.msl j0),j5⟩⟩,⟨j0,mkI (fun _=>j0)⟩,⟨j0,mkI (fun _=>j0)⟩,j5⟩<|r_can (env0:=[(1,.mpt 0 0 0),(3,.mpt 1 0 0)]) (st0:=[some (6,[[sA v1.Name,sA v1.Super,bA v1.Interface,.isl 1 (List.map rStr v1.Impl),.isl 3 (List.map rApiField v1.Fields),.isl 10 (List.map rApiMethod v1.Methods)]]),some (2,[[.msl 2 0 (List.length v4.1),.msl 3 0 (List.length v5)]]),some (1,List.map rStr v4.1),some (1,List.map byteRow v5)]) ⟨[.old 0,.old 1,.old 2,.old 4],cv j0 (.mpt j0)<|cv j0 (.mpt j0)<|cn,j0,⟨⟨_,j0,rsOne ⟨ci j0,ci j0,ci j0,ci j0,ci j0,ci j0,j5⟩⟩,⟨_,j0,rsOne ⟨.msl j0,.msl j0,j5⟩⟩,⟨_,j0,rsMap (fun _=>j0)⟩,⟨_,j0,rsMap (fun _=>j0)⟩,j5⟩,j0,j1⟩<|r_nil ?_
  obtain ⟨v6,q6,h⟩:=bs h
  refine rg j0<|u<|mv j0<|u<|fa ti28 j0 j0 j0<|u<|ld ti24 j0 j0<|u<|mv j0<|u<|mf j0 j0<|u<|sc [1,2,3] (file_list_string_ok v4.1 v5 v1.Impl q6) j0 j0 j0 j0 ⟨(.mpt j0),(rnI j0),(rnFn ⟨(.mpt j0),j5⟩ j5),j5⟩ ⟨⟨_,j0,⟨(.msl j0),(.msl j0),j5⟩⟩,⟨j0,mkI (fun _=>j0)⟩,⟨j0,mkI (fun _=>j0)⟩,j5⟩<|r_can (env0:=[(1,.mpt 0 0 0),(3,.mpt 1 0 0)]) (st0:=[some (6,[[sA v1.Name,sA v1.Super,bA v1.Interface,.isl 1 (List.map rStr v1.Impl),.isl 3 (List.map rApiField v1.Fields),.isl 10 (List.map rApiMethod v1.Methods)]]),some (2,[[.msl 2 0 (List.length v6.1),.msl 3 0 (List.length v6.2)]]),some (1,List.map rStr v6.1),some (1,List.map byteRow v6.2)]) ⟨[.old 0,.old 1,.old 4,.old 5],cv j0 (.mpt j0)<|cv j0 (.mpt j0)<|cn,j0,⟨⟨_,j0,rsOne ⟨ci j0,ci j0,ci j0,ci j0,ci j0,ci j0,j5⟩⟩,⟨_,j0,rsOne ⟨.msl j0,.msl j0,j5⟩⟩,⟨_,j0,rsMap (fun _=>j0)⟩,⟨_,j0,rsMap (fun _=>j0)⟩,j5⟩,j0,j1⟩<|r_nil ?_
  obtain ⟨v7,q7,h⟩:=bs h
  refine rg j0<|u<|mv j0<|u<|fa ti28 j0 j0 j0<|u<|ld ti25 j0 j0<|u<|mv j0<|u<|mf j0 j0<|u<|sc [1,2,3] (file_list_api_Field_ok v6.1 v6.2 v1.Fields q7) j0 j0 j0 j0 ⟨(.mpt j0),(rnI j0),(rnFn ⟨(.mpt j0),j5⟩ j5),j5⟩ ⟨⟨_,j0,⟨(.msl j0),(.msl j0),j5⟩⟩,⟨j0,mkI (fun _=>j0)⟩,⟨j0,mkI (fun _=>j0)⟩,j5⟩<|r_can (env0:=[(1,.mpt 0 0 0),(3,.mpt 1 0 0)]) (st0:=[some (6,[[sA v1.Name,sA v1.Super,bA v1.Interface,.isl 1 (List.map rStr v1.Impl),.isl 3 (List.map rApiField v1.Fields),.isl 10 (List.map rApiMethod v1.Methods)]]),some (2,[[.msl 2 0 (List.length v7.1),.msl 3 0 (List.length v7.2)]]),some (1,List.map rStr v7.1),some (1,List.map byteRow v7.2)]) ⟨[.old 0,.old 1,.old 4,.old 5],cv j0 (.mpt j0)<|cv j0 (.mpt j0)<|cn,j0,⟨⟨_,j0,rsOne ⟨ci j0,ci j0,ci j0,ci j0,ci j0,ci j0,j5⟩⟩,⟨_,j0,rsOne ⟨.msl j0,.msl j0,j5⟩⟩,⟨_,j0,rsMap (fun _=>j0)⟩,⟨_,j0,rsMap (fun _=>j0)⟩,j5⟩,j0,j1⟩<|r_nil ?_
  obtain ⟨v8,q8,h⟩:=bs h
  refine rg j0<|u<|mv j0<|u<|fa ti28 j0 j0 j0<|u<|ld ti26 j0 j0<|u<|mv j0<|u<|mf j0 j0<|u<|sc [1,2,3] (file_list_api_Method_ok v7.1 v7.2 v1.Methods q8) j0 j0 j0 j0 ⟨(.mpt j0),(rnI j0),(rnFn ⟨(.mpt j0),j5⟩ j5),j5⟩ ⟨⟨_,j0,⟨(.msl j0),(.msl j0),j5⟩⟩,⟨j0,mkI (fun _=>j0)⟩,⟨j0,mkI (fun _=>j0)⟩,j5⟩<|r_can (env0:=[(3,.mpt 0 0 0)]) (st0:=[some (2,[[.msl 1 0 (List.length v8.1),.msl 2 0 (List.length v8.2)]]),some (1,List.map rStr v8.1),some (1,List.map byteRow v8.2)]) ⟨[.old 1,.old 4,.old 5],cv j0 (.mpt j0)<|cn,j0,⟨⟨_,j0,rsOne ⟨.msl j0,.msl j0,j5⟩⟩,⟨_,j0,rsMap (fun _=>j0)⟩,⟨_,j0,rsMap (fun _=>j0)⟩,j5⟩,j0,j1⟩<|r_nil ?_
  obtain ⟨v9,q9,h⟩:=bs h
  refine rg j0<|u<|bl 3 ti43 j0 ti5 j0 (by decide) (by decide) j0 j0 j0<|u<|cvl ti43 j0 ti5 j0 j0 j0 j0<|u<|mv j0<|u<|nc j0 j0<|u<|fa ti71 j0 j0 j0<|u<|ld ti24 j0 j0<|u<|lnM ti24 j0 j0 j0<|u<|sc [3] (num_Put_ok [(74 : UInt8),(65 : UInt8),(86 : UInt8),(65 : UInt8)] ((List.length v8.1) : Int) q9) j0 j0 j0 j0 ⟨(.msl j0),(rnI j0),j5⟩ ⟨⟨j0,mkI (fun _=>j0)⟩,j5⟩<|r_can (env0:=[(3,.mpt 0 0 0),(49,.msl 3 0 (List.length v9))]) (st0:=[some (2,[[.msl 1 0 (List.length v8.1),.msl 2 0 (List.length v8.2)]]),some (1,List.map rStr v8.1),some (1,List.map byteRow v8.2),some (1,List.map byteRow v9)]) ⟨[.old 0,.old 1,.old 2,.old 4],cv j0 (.mpt j0)<|cv j0 (.msl j0)<|cn,j0,⟨⟨_,j0,rsOne ⟨.msl j0,.msl j0,j5⟩⟩,⟨_,j0,rsMap (fun _=>j0)⟩,⟨_,j0,rsMap (fun _=>j0)⟩,⟨_,j0,rsMap (fun _=>j0)⟩,j5⟩,j0,j1⟩<|u<|asg j0<|r_nil ?_
  refine sw_seq ?_
  refine rg j0<|u<|mv j0<|u<|nc j0 j0<|u<|fa ti71 j0 j0 j0<|u<|ld ti24 j0 j0<|u<|lnM ti24 j0 j0 j0<|u<|mv j0<|r_nil ?_
  obtain ⟨o,ho,h⟩:=bs h
  refine sw_lpl (X:=(List UInt8) × Int) (B:=(List UInt8)) (R:=(List UInt8)) (fun z=>[(3,.mpt 0 0 0),(4,.msl 3 0 (List.length z.1)),(53,.msl 1 0 (List.length v8.1)),(54,iA ((List.length v8.1) : Int)),(55,iA z.2)]) (fun z=>[some (2,[[.msl 1 0 (List.length v8.1),.msl 2 0 (List.length v8.2)]]),some (1,List.map rStr v8.1),some (1,List.map byteRow v8.2),some (1,List.map byteRow z.1)]) (fun b=>[(3,.mpt 0 0 0),(4,.msl 3 0 (List.length b))]) (fun b=>[some (2,[[.msl 1 0 (List.length v8.1),.msl 2 0 (List.length v8.2)]]),some (1,List.map rStr v8.1),some (1,List.map byteRow v8.2),some (1,List.map byteRow b)]) (fun r env st=>PostF Tryz.prog Tryz.f15 0 (.msl 0 0 (List.length r)) [some (1,List.map byteRow r)] env st) ho ⟨[.old 0,.old 1,.old 2,.old 3],cv j0 (.mpt j0)<|cv j0 (.msl j0)<|cv j0 (.msl j0)<|ce j0 j0<|ce j0 j0<|cn,j0,⟨⟨_,j0,rsOne ⟨.msl j0,.msl j0,j5⟩⟩,⟨_,j0,rsMap (fun _=>j0)⟩,⟨_,j0,rsMap (fun _=>j0)⟩,⟨_,j0,rsMap (fun _=>j0)⟩,j5⟩,j0,j1⟩ ?_ ?_ ?_
  ·
   rintro ⟨v14,v15⟩ r h
   replace h : file_Encode_l1 v8 v14 v15 = some r:=h
   unfold file_Encode_l1 at h
   refine rg j0<|u<|lss ti3 j0 j0<|r_nil ?_
   refine sw_seq ?_
   refine sw_cond j0 (fun hc13=>?_) (fun hc13=>?_)
   ·
    replace h:=bT hc13 h
    refine sw_skip ?_
    refine sw_seq ?_
    refine sw_block ?_
    obtain ⟨v16,q14,h⟩:=bs h
    refine rg j0<|u<|ixM ti24 j0 ti9 j0 j0 j0 j0 q14<|u<|ldM ti9 j0 j0 (idx_some q14).2.2 j0<|u<|asg j0<|r_nil ?_
    obtain ⟨v17,q15,h⟩:=bs h
    refine rl j0<|u<|mv j0<|u<|mv j0<|u<|sc [3] (num_PutText_ok v14 v16 q15) j0 j0 j0 j0 ⟨(.msl j0),(rnI j0),j5⟩ ⟨⟨j0,mkI (fun _=>j0)⟩,j5⟩<|r_can (env0:=[(3,.mpt 0 0 0),(53,.msl 1 0 (List.length v8.1)),(54,iA ((List.length v8.1) : Int)),(55,iA v15),(61,.msl 3 0 (List.length v17))]) (st0:=[some (2,[[.msl 1 0 (List.length v8.1),.msl 2 0 (List.length v8.2)]]),some (1,List.map rStr v8.1),some (1,List.map byteRow v8.2),some (1,List.map byteRow v17)]) ⟨[.old 0,.old 1,.old 2,.old 4],cv j0 (.mpt j0)<|cv j0 (.msl j0)<|ce j0 j0<|ce j0 j0<|cv j0 (.msl j0)<|cn,j0,⟨⟨_,j0,rsOne ⟨.msl j0,.msl j0,j5⟩⟩,⟨_,j0,rsMap (fun _=>j0)⟩,⟨_,j0,rsMap (fun _=>j0)⟩,⟨_,j0,rsMap (fun _=>j0)⟩,j5⟩,j0,j1⟩<|u<|asg j0<|r_nil ?_
    refine rl j0<|u<|add ti3 j0 j0<|u<|mv j0<|r_nil ?_
    obtain rfl:=sm h
    exact ⟨_,j0,[.old 0,.old 1,.old 2,.old 3],cv j0 (.mpt j0)<|cv j0 (.msl j0)<|cv j0 (.msl j0)<|ce j0 j0<|ce j0 j0<|cn,j0,⟨⟨_,j0,rsOne ⟨.msl j0,.msl j0,j5⟩⟩,⟨_,j0,rsMap (fun _=>j0)⟩,⟨_,j0,rsMap (fun _=>j0)⟩,⟨_,j0,rsMap (fun _=>j0)⟩,j5⟩,j0,j1⟩
   ·
    replace h:=bF hc13 h
    refine sw_exit ?_
    obtain rfl:=sm h
    exact ⟨j0,_,j0,[.old 0,.old 1,.old 2,.old 3],cv j0 (.mpt j0)<|cv j0 (.msl j0)<|cn,j0,⟨⟨_,j0,rsOne ⟨.msl j0,.msl j0,j5⟩⟩,⟨_,j0,rsMap (fun _=>j0)⟩,⟨_,j0,rsMap (fun _=>j0)⟩,⟨_,j0,rsMap (fun _=>j0)⟩,j5⟩,j0,j1⟩
  ·
   rintro v18 rfl
   replace h : file_Encode_k2 v8 v18 = some r:=h
   unfold file_Encode_k2 at h
   refine ow_intro ?_
   refine sw_seq ?_
   obtain ⟨v19,q16,h⟩:=bs h
   refine rg j0<|u<|mv j0<|u<|mv j0<|u<|nc j0 j0<|u<|fa ti71 j0 j0 j0<|u<|ld ti43 j0 j0<|u<|apM 4 ti43 j0 ti5 j0 j0 (by decide) ti43 j0 j0 j0 j0 (roM j0) (fun _=>j0) j0 q16<|u<|asg j0<|r_nil ?_
   refine rg j0<|u<|mv j0<|u<|lnM ti43 j0 j0 j0<|u<|gtr ti3 j0 j0<|r_nil ?_
   refine sw_cond j0 (fun hc17=>?_) (fun hc17=>?_)
   ·
    replace h:=bT hc17 h
    refine rg j0<|u<|asg j0<|r_nil ?_
    refine sw_ret ?_
    obtain rfl:=sm h
    exact ⟨_,j0,[.fresh 1],.nilown j0,j0,⟨j4,j5⟩,j0,j1⟩
   ·
    replace h:=bF hc17 h
    refine sw_skip ?_
    refine rg j0<|u<|mv j0<|u<|asg j0<|r_nil ?_
    refine sw_ret ?_
    obtain rfl:=sm h
    exact ⟨_,j0,[.old 4],.msl j0,j0,⟨⟨_,j0,rsMap (fun _=>j0)⟩,j5⟩,j0,j1⟩
  ·
   rintro r' rfl env st hp
   obtain rfl:=sm h
   exact hp
def ref3_writer_num (v1 : List (List UInt8)) (v2 : List UInt8) (v3 : Int) : Option ((List UInt8)) :=
  (ref1_Put v3).bind fun v4=>(appP 1 v2 v4).bind fun v5=>some v5
theorem ref3_writer_num_ok (v1 : List (List UInt8)) (v2 : List UInt8) (v3 : Int) {r : (List UInt8)} (h : ref3_writer_num v1 v2 v3 = some r) : SC Tryz.prog 59 [.mpt 0 0 0,iA v3] [.one 2 [.msl 1 0 (List.length v1),.msl 2 0 (List.length v2)],.many 1 (List.map rStr v1),.many 1 (List.map byteRow v2)] (.tup []) [.one 2 [.msl 1 0 (List.length v1),.msl 3 0 (List.length r)],.many 1 (List.map rStr v1),.no,.many 1 (List.map byteRow r)]:=by
 refine ⟨⟨j5,sbOk (sz:=1) (fun _=>j0),j5,sbOk (sz:=1) (fun _=>j0),j5⟩,scall_fn Tryz.func59 j0 (by kernel_rfl) j0 ?_⟩
 unfold ref3_writer_num at h
 obtain ⟨v4,q1,h⟩:=bs h
 obtain ⟨v5,q2,h⟩:=bs h
 refine rdL [] [some (2,[[.msl 1 0 (List.length v1),.msl 3 0 (List.length v5)]]),some (1,List.map rStr v1),none,some (1,List.map byteRow v5)] [6,7,10] [5,4,3,2,1,0] [(9,iA v3),(8,.msl 2 0 (List.length v2)),(7,.mpt 0 0 1),(6,.mpt 0 0 0),(5,.mpt 0 0 0),(4,.mpt 0 0 0)] 3 (by kernel_rfl) (by kernel_rfl) j0 (by kernel_rfl) (dtS ⟨(fun _=>pa j0 j0 j0 j0 (mv j0<|j4)),(fun _=>pa j0 j0 j0 j0 (ld ti43 j0 j0<|j4)),(fun _=>pa j0 j0 j0 j0 (fa ti83 j0 j0 j0<|j4)),(fun _=>pa j0 j0 j0 j0 (nc j0 j0<|j4)),(fun _=>pa j0 j0 j0 j0 (mv j0<|j4)),(fun _=>pa j0 j0 j0 j0 (mv j0<|j4)),j5⟩ (by kernel_rfl) j0 ⟨(fun _ _=>⟨_,j0,j0,sc [] (ref1_Put_ok v3 q1) j0 j0 j0 j0 ⟨(rnI j0),j5⟩ j5<|⟨(.msl 3 0 (List.length v4)),[],[(10,.msl 3 0 (List.length v4))],j0,j0,by kernel_rfl,j0,dtS ⟨(fun h=>by cases h),(fun _=>pa j0 j0 j0 j0 (ld ti43 j0 j0<|j4)),(fun _=>pa j0 j0 j0 j0 (fa ti83 j0 j0 j0<|j4)),(fun _=>pa j0 j0 j0 j0 (nc j0 j0<|j4)),(fun _=>pa j0 j0 j0 j0 (mv j0<|j4)),(fun _=>pa j0 j0 j0 j0 (mv j0<|j4)),j5⟩ (by kernel_rfl) j0 ⟨(fun h=>by cases h),(fun _ _=>⟨_,j0,j0,apM 4 ti43 j0 ti5 j0 j0 (by decide) ti43 j0 j0 j0 j0 (roM j0) (fun _=>j0) j0 q2<|⟨(.msl 4 0 (List.length v5)),[9,8],[(13,.mpt 0 0 1),(12,.mpt 0 0 0),(11,.msl 4 0 (List.length v5))],j0,j0,by kernel_rfl,j0,dtS ⟨(fun _=>pa j0 j0 j0 j0 (fa ti83 j0 j0 j0<|j4)),(fun _=>pa j0 j0 j0 j0 (nc j0 j0<|j4)),(fun h=>by cases h),(fun h=>by cases h),(fun _=>pa j0 j0 j0 j0 (fa ti83 j0 j0 j0<|j4)),(fun _=>pa j0 j0 j0 j0 (nc j0 j0<|j4)),(fun _=>pa j0 j0 j0 j0 (mv j0<|j4)),(fun _=>pa j0 j0 j0 j0 (mv j0<|j4)),j5⟩ (by kernel_rfl) j0 ⟨(fun h=>by cases h),(fun h=>by cases h),(fun _ _=>⟨_,j0,j0,sto ti43 j0 j0 j0<|⟨.any,[],[],j0,j0,by kernel_rfl,j5,dt0 ⟨(fun h=>by cases h),(fun _=>pa j0 j0 j0 j0 (nc j0 j0<|j4)),(fun h=>by cases h),(fun h=>by cases h),(fun h=>by cases h),(fun h=>by cases h),(fun h=>by cases h),(fun h=>by cases h),j5⟩ (by kernel_rfl) j0 ⟨[.old 0,.old 1,.dead,.old 4],cn,j0,⟨⟨_,j0,rsOne ⟨.msl j0,.msl j0,j5⟩⟩,⟨_,j0,rsMap (fun _=>j0)⟩,⟨_,j0,rsMap (fun _=>j0)⟩,j5⟩,j0,j1⟩⟩⟩),j5⟩⟩⟩),(fun _ h=>by cases h),j5⟩⟩⟩),(fun _ h=>by cases h),(fun _ h=>by cases h),j5⟩) ?_
 obtain rfl:=sm h
 exact ⟨_,j0,[.old 0,.old 1,.dead,.old 3],rsTup j5,j0,⟨⟨_,j0,rsOne ⟨.msl j0,.msl j0,j5⟩⟩,⟨_,j0,rsMap (fun _=>j0)⟩,⟨_,j0,rsMap (fun _=>j0)⟩,j5⟩,j0,j1⟩
def ref3_writer_text_j3 (v2 : List UInt8) (v10 : Int) (v12 : List (List UInt8)) : Option ((List (List UInt8)) × (List UInt8)) :=
  (ref3_writer_num v12 v2 v10).bind fun v13=>some (v12,v13)
def ref3_writer_text_k2 (v1 : List (List UInt8)) (v2 : List UInt8) (v3 : List UInt8) (v10 : Int) : Option ((List (List UInt8)) × (List UInt8)) :=
  cond (v10 == ((List.length v1) : Int)) ((appP 16 v1 [v3]).bind fun v11=>ref3_writer_text_j3 v2 v10 v11) (ref3_writer_text_j3 v2 v10 v1)
def ref3_writer_text_l1 (v1 : List (List UInt8)) (v3 : List UInt8) (v7 : Int) : Option (Sum (Int) (Sum (Int) ((List (List UInt8)) × (List UInt8)))) :=
  (cond (decide (v7 < ((List.length v1) : Int))) ((idx v1 v7).bind fun v8=>some (!(v8 == v3))) (some false)).bind fun v9=>cond v9 (some (.inl (IntKind.i64.wrap (v7 + 1)))) (some (.inr (.inl v7)))
def ref3_writer_text (v1 : List (List UInt8)) (v2 : List UInt8) (v3 : List UInt8) : Option ((List (List UInt8)) × (List UInt8)) :=
  (loopP (fun z=>ref3_writer_text_l1 v1 v3 z) 0).bind fun o=>leave o (fun b=>ref3_writer_text_k2 v1 v2 v3 b) some
theorem ref3_writer_text_ok (v1 : List (List UInt8)) (v2 : List UInt8) (v3 : List UInt8) {r : (List (List UInt8)) × (List UInt8)} (h : ref3_writer_text v1 v2 v3 = some r) : SC Tryz.prog 56 [.mpt 0 0 0,sA v3] [.one 2 [.msl 1 0 (List.length v1),.msl 2 0 (List.length v2)],.many 1 (List.map rStr v1),.many 1 (List.map byteRow v2)] (.tup []) [.one 2 [.msl 3 0 (List.length r.1),.msl 4 0 (List.length r.2)],.no,.no,.many 1 (List.map rStr r.1),.many 1 (List.map byteRow r.2)]:=by
 refine ⟨⟨j5,j5,j5,sbOk (sz:=1) (fun _=>j0),sbOk (sz:=1) (fun _=>j0),j5⟩,scall_fn Tryz.func56 j0 (by kernel_rfl) j0 ?_⟩
 unfold ref3_writer_text at h
 refine rg j0<|u<|asg j0<|r_nil ?_
 obtain ⟨o,ho,h⟩:=bs h
 refine sw_lp (X:=Int) (B:=Int) (R:=(List (List UInt8)) × (List UInt8)) (fun z=>[(0,.mpt 0 0 0),(1,sA v3),(4,iA z)]) (fun z=>[some (2,[[.msl 1 0 (List.length v1),.msl 2 0 (List.length v2)]]),some (1,List.map rStr v1),some (1,List.map byteRow v2)]) (fun b=>[(0,.mpt 0 0 0),(1,sA v3),(4,iA b)]) (fun b=>[some (2,[[.msl 1 0 (List.length v1),.msl 2 0 (List.length v2)]]),some (1,List.map rStr v1),some (1,List.map byteRow v2)]) (fun r env st=>PostF Tryz.prog Tryz.f56 3 (.tup []) [some (2,[[.msl 3 0 (List.length r.1),.msl 4 0 (List.length r.2)]]),none,none,some (1,List.map rStr r.1),some (1,List.map byteRow r.2)] env st) ho ⟨[.old 0,.old 1,.old 2],cv j0 (.mpt j0)<|ce j0 j0<|ce j0 j0<|cn,j0,⟨⟨_,j0,rsOne ⟨.msl j0,.msl j0,j5⟩⟩,⟨_,j0,rsMap (fun _=>j0)⟩,⟨_,j0,rsMap (fun _=>j0)⟩,j5⟩,j0,j1⟩ ?_ ?_ ?_
 ·
  rintro v7 r h
  replace h : ref3_writer_text_l1 v1 v3 v7 = some r:=h
  unfold ref3_writer_text_l1 at h
  refine sw_seq ?_
  obtain ⟨v9,q7,h⟩:=bs h
  refine rg j0<|u<|mv j0<|u<|mv j0<|u<|nc j0 j0<|u<|fa ti83 j0 j0 j0<|u<|ld ti24 j0 j0<|u<|lnM ti24 j0 j0 j0<|u<|lss ti3 j0 j0<|u<|mv j0<|r_and (x:=v9) (j:=7) 9 j0 j0 j0 j0 j0 gpn (fun hb5=>by replace q7:=bT hb5 q7; obtain ⟨v8,q6,q7⟩:=bs q7; obtain rfl:=sm q7; exact g j0 hb5<|mv j0<|g j0 hb5<|nc j0 j0<|g j0 hb5<|fa ti83 j0 j0 j0<|g j0 hb5<|ld ti24 j0 j0<|g j0 hb5<|mv j0<|g j0 hb5<|ixM ti24 j0 ti9 j0 j0 j0 j0 q6<|g j0 hb5<|ldM ti9 j0 j0 (idx_some q6).2.2 j0<|g j0 hb5<|mv j0<|g j0 hb5<|sne ti9 j0 j0<|r_nil (eg [13,14,15,16,17,18,19,20,21] 9 j0 j0 j0 j0)) (fun hb=>(sm (bF hb q7)).symm)<|r_nil ?_
  refine sw_cond j0 (fun hc8=>?_) (fun hc8=>?_)
  ·
   replace h:=bT hc8 h
   refine sw_skip ?_
   refine sw_block ?_
   refine rl j0<|u<|mv j0<|u<|add ti3 j0 j0<|u<|asg j0<|r_nil ?_
   obtain rfl:=sm h
   exact ⟨_,j0,[.old 0,.old 1,.old 2],cv j0 (.mpt j0)<|ce j0 j0<|ce j0 j0<|cn,j0,⟨⟨_,j0,rsOne ⟨.msl j0,.msl j0,j5⟩⟩,⟨_,j0,rsMap (fun _=>j0)⟩,⟨_,j0,rsMap (fun _=>j0)⟩,j5⟩,j0,j1⟩
  ·
   replace h:=bF hc8 h
   refine sw_exit ?_
   obtain rfl:=sm h
   exact ⟨j0,_,j0,[.old 0,.old 1,.old 2],cv j0 (.mpt j0)<|ce j0 j0<|ce j0 j0<|cn,j0,⟨⟨_,j0,rsOne ⟨.msl j0,.msl j0,j5⟩⟩,⟨_,j0,rsMap (fun _=>j0)⟩,⟨_,j0,rsMap (fun _=>j0)⟩,j5⟩,j0,j1⟩
 ·
  rintro v10 rfl
  replace h : ref3_writer_text_k2 v1 v2 v3 v10 = some r:=h
  unfold ref3_writer_text_k2 at h
  refine sw_meet (X:=(List (List UInt8))) (fun z=>[(0,.mpt 0 0 0),(4,iA v10)]) (fun z=>[some (2,[[.msl 3 0 (List.length z),.msl 2 0 (List.length v2)]]),none,some (1,List.map byteRow v2),some (1,List.map rStr z)]) (fun z=>ref3_writer_text_j3 v2 v10 z = some r) ?_ ?_
  ·
   refine rg j0<|u<|mv j0<|u<|mv j0<|u<|nc j0 j0<|u<|fa ti83 j0 j0 j0<|u<|ld ti24 j0 j0<|u<|lnM ti24 j0 j0 j0<|u<|eql ti3 j0 j0<|r_nil ?_
   refine sw_cond j0 (fun hc9=>?_) (fun hc9=>?_)
   ·
    replace h:=bT hc9 h
    obtain ⟨v11,q10,h⟩:=bs h
    exact rl j0<|u<|mv j0<|u<|mv j0<|u<|nc j0 j0<|u<|fa ti83 j0 j0 j0<|u<|ld ti24 j0 j0<|u<|mv j0<|u<|bl 3 ti24 j0 ti9 j0 (by decide) (by decide) j0 j0 j0<|u<|apM 4 ti24 j0 ti9 j0 j0 (by decide) ti24 j0 j0 j0 j0 (roX (f:=rStr) (z:=[v3]) j0 j0) (fun _=>j0) j0 q10<|u<|nc j0 j0<|u<|fa ti83 j0 j0 j0<|u<|sto ti24 j0 j0 j0<|r_nil (⟨v11,h,[.old 0,.dead,.old 2,.old 4],cv j0 (.mpt j0)<|ce j0 j0<|cn,j0,⟨⟨_,j0,rsOne ⟨.msl j0,.msl j0,j5⟩⟩,⟨_,j0,rsMap (fun _=>j0)⟩,⟨_,j0,rsMap (fun _=>j0)⟩,j5⟩,j0,j1⟩)
   ·
    replace h:=bF hc9 h
    refine sw_skip ?_
    exact ⟨v1,h,[.old 0,.dead,.old 2,.old 1],cv j0 (.mpt j0)<|ce j0 j0<|cn,j0,⟨⟨_,j0,rsOne ⟨.msl j0,.msl j0,j5⟩⟩,⟨_,j0,rsMap (fun _=>j0)⟩,⟨_,j0,rsMap (fun _=>j0)⟩,j5⟩,j0,j1⟩
  ·
   rintro v12 h
   replace h : ref3_writer_text_j3 v2 v10 v12 = some r:=h
   unfold ref3_writer_text_j3 at h
   obtain ⟨v13,q11,h⟩:=bs h
   refine rl j0<|u<|mv j0<|u<|mv j0<|u<|sc [0,3,2] (ref3_writer_num_ok v12 v2 v10 q11) j0 j0 j0 j0 ⟨(.mpt j0),(rnI j0),j5⟩ ⟨⟨_,j0,⟨(.msl j0),(.msl j0),j5⟩⟩,⟨j0,mkI (fun _=>j0)⟩,⟨j0,mkI (fun _=>j0)⟩,j5⟩<|r_can (env0:=[]) (st0:=[some (2,[[.msl 3 0 (List.length v12),.msl 4 0 (List.length v13)]]),none,none,some (1,List.map rStr v12),some (1,List.map byteRow v13)]) ⟨[.old 0,.dead,.dead,.old 3,.old 4],cn,j0,⟨⟨_,j0,rsOne ⟨.msl j0,.msl j0,j5⟩⟩,⟨_,j0,rsMap (fun _=>j0)⟩,⟨_,j0,rsMap (fun _=>j0)⟩,j5⟩,j0,j1⟩<|r_nil ?_
   obtain rfl:=sm h
   exact ⟨_,j0,[.old 0,.dead,.dead,.old 3,.old 4],rsTup j5,j0,⟨⟨_,j0,rsOne ⟨.msl j0,.msl j0,j5⟩⟩,⟨_,j0,rsMap (fun _=>j0)⟩,⟨_,j0,rsMap (fun _=>j0)⟩,j5⟩,j0,j1⟩
 ·
  rintro r' rfl env st hp
  obtain rfl:=sm h
  exact hp
def ref3_writer_truth (v1 : List (List UInt8)) (v2 : List UInt8) (v3 : Bool) : Option ((List UInt8)) :=
  cond v3 ((ref3_writer_num v1 v2 1).bind fun v4=>some v4) ((ref3_writer_num v1 v2 0).bind fun v5=>some v5)
theorem ref3_writer_truth_ok (v1 : List (List UInt8)) (v2 : List UInt8) (v3 : Bool) {r : (List UInt8)} (h : ref3_writer_truth v1 v2 v3 = some r) : SC Tryz.prog 57 [.mpt 0 0 0,bA v3] [.one 2 [.msl 1 0 (List.length v1),.msl 2 0 (List.length v2)],.many 1 (List.map rStr v1),.many 1 (List.map byteRow v2)] (.tup []) [.one 2 [.msl 1 0 (List.length v1),.msl 3 0 (List.length r)],.many 1 (List.map rStr v1),.no,.many 1 (List.map byteRow r)]:=by
 refine ⟨⟨j5,sbOk (sz:=1) (fun _=>j0),j5,sbOk (sz:=1) (fun _=>j0),j5⟩,scall_fn Tryz.func57 j0 (by kernel_rfl) j0 ?_⟩
 unfold ref3_writer_truth at h
 refine rg j0<|u<|mv j0<|r_nil ?_
 refine sw_cond j0 (fun hc1=>?_) (fun hc1=>?_)
 ·
  replace h:=bT hc1 h
  obtain ⟨v4,q2,h⟩:=bs h
  refine rl j0<|u<|mv j0<|u<|sc [0,1,2] (ref3_writer_num_ok v1 v2 1 q2) j0 j0 j0 j0 ⟨(.mpt j0),(rnI j0),j5⟩ ⟨⟨_,j0,⟨(.msl j0),(.msl j0),j5⟩⟩,⟨j0,mkI (fun _=>j0)⟩,⟨j0,mkI (fun _=>j0)⟩,j5⟩<|r_can (env0:=[]) (st0:=[some (2,[[.msl 1 0 (List.length v1),.msl 3 0 (List.length v4)]]),some (1,List.map rStr v1),none,some (1,List.map byteRow v4)]) ⟨[.old 0,.old 1,.dead,.old 3],cn,j0,⟨⟨_,j0,rsOne ⟨.msl j0,.msl j0,j5⟩⟩,⟨_,j0,rsMap (fun _=>j0)⟩,⟨_,j0,rsMap (fun _=>j0)⟩,j5⟩,j0,j1⟩<|r_nil ?_
  obtain rfl:=sm h
  exact ⟨_,j0,[.old 0,.old 1,.dead,.old 3],rsTup j5,j0,⟨⟨_,j0,rsOne ⟨.msl j0,.msl j0,j5⟩⟩,⟨_,j0,rsMap (fun _=>j0)⟩,⟨_,j0,rsMap (fun _=>j0)⟩,j5⟩,j0,j1⟩
 ·
  replace h:=bF hc1 h
  obtain ⟨v5,q3,h⟩:=bs h
  refine rl j0<|u<|mv j0<|u<|sc [0,1,2] (ref3_writer_num_ok v1 v2 0 q3) j0 j0 j0 j0 ⟨(.mpt j0),(rnI j0),j5⟩ ⟨⟨_,j0,⟨(.msl j0),(.msl j0),j5⟩⟩,⟨j0,mkI (fun _=>j0)⟩,⟨j0,mkI (fun _=>j0)⟩,j5⟩<|r_can (env0:=[]) (st0:=[some (2,[[.msl 1 0 (List.length v1),.msl 3 0 (List.length v5)]]),some (1,List.map rStr v1),none,some (1,List.map byteRow v5)]) ⟨[.old 0,.old 1,.dead,.old 3],cn,j0,⟨⟨_,j0,rsOne ⟨.msl j0,.msl j0,j5⟩⟩,⟨_,j0,rsMap (fun _=>j0)⟩,⟨_,j0,rsMap (fun _=>j0)⟩,j5⟩,j0,j1⟩<|r_nil ?_
  obtain rfl:=sm h
  exact ⟨_,j0,[.old 0,.old 1,.dead,.old 3],rsTup j5,j0,⟨⟨_,j0,rsOne ⟨.msl j0,.msl j0,j5⟩⟩,⟨_,j0,rsMap (fun _=>j0)⟩,⟨_,j0,rsMap (fun _=>j0)⟩,j5⟩,j0,j1⟩
def ref3_writer_texts_k2 (v15 : List (List UInt8)) (v16 : List UInt8) : Option ((List (List UInt8)) × (List UInt8)) :=
  some (v15,v16)
def ref3_writer_texts_l1 (v3 : List (List UInt8)) (v10 : List (List UInt8)) (v11 : List UInt8) (v12 : Int) : Option (Sum ((List (List UInt8)) × (List UInt8) × Int) (Sum ((List (List UInt8)) × (List UInt8)) ((List (List UInt8)) × (List UInt8)))) :=
  cond (decide (v12 < (List.length v3 : Int))) ((idx v3 v12).bind fun v13=>(ref3_writer_text v10 v11 v13).bind fun v14=>some (.inl (v14.1,v14.2,(IntKind.i64.wrap (v12 + 1))))) (some (.inr (.inl (v10,v11))))
def ref3_writer_texts (v1 : List (List UInt8)) (v2 : List UInt8) (v3 : List (List UInt8)) : Option ((List (List UInt8)) × (List UInt8)) :=
  (ref3_writer_num v1 v2 (List.length v3 : Int)).bind fun v4=>(loopP (fun z=>ref3_writer_texts_l1 v3 z.1 z.2.1 z.2.2) (v1,v4,0)).bind fun o=>leave o (fun b=>ref3_writer_texts_k2 b.1 b.2) some
theorem ref3_writer_texts_ok (v1 : List (List UInt8)) (v2 : List UInt8) (v3 : List (List UInt8)) {r : (List (List UInt8)) × (List UInt8)} (h : ref3_writer_texts v1 v2 v3 = some r) : SC Tryz.prog 58 [.mpt 0 0 0,.isl 1 (List.map rStr v3)] [.one 2 [.msl 1 0 (List.length v1),.msl 2 0 (List.length v2)],.many 1 (List.map rStr v1),.many 1 (List.map byteRow v2)] (.tup []) [.one 2 [.msl 3 0 (List.length r.1),.msl 4 0 (List.length r.2)],.no,.no,.many 1 (List.map rStr r.1),.many 1 (List.map byteRow r.2)]:=by
 refine ⟨⟨j5,j5,j5,sbOk (sz:=1) (fun _=>j0),sbOk (sz:=1) (fun _=>j0),j5⟩,scall_fn Tryz.func58 j0 (by kernel_rfl) j0 ?_⟩
 unfold ref3_writer_texts at h
 obtain ⟨v4,q1,h⟩:=bs h
 refine rg j0<|u<|mv j0<|u<|mv j0<|u<|lnI ti24 j0 j0<|u<|sc [0,1,2] (ref3_writer_num_ok v1 v2 (List.length v3 : Int) q1) j0 j0 j0 j0 ⟨(.mpt j0),(rnI j0),j5⟩ ⟨⟨_,j0,⟨(.msl j0),(.msl j0),j5⟩⟩,⟨j0,mkI (fun _=>j0)⟩,⟨j0,mkI (fun _=>j0)⟩,j5⟩<|r_can (env0:=[(0,.mpt 0 0 0),(1,.isl 1 (List.map rStr v3))]) (st0:=[some (2,[[.msl 1 0 (List.length v1),.msl 3 0 (List.length v4)]]),some (1,List.map rStr v1),none,some (1,List.map byteRow v4)]) ⟨[.old 0,.old 1,.dead,.old 3],cv j0 (.mpt j0)<|ce j0 j0<|cn,j0,⟨⟨_,j0,rsOne ⟨.msl j0,.msl j0,j5⟩⟩,⟨_,j0,rsMap (fun _=>j0)⟩,⟨_,j0,rsMap (fun _=>j0)⟩,j5⟩,j0,j1⟩<|r_nil ?_
 refine rg j0<|u<|asg j0<|r_nil ?_
 obtain ⟨o,ho,h⟩:=bs h
 refine sw_lpl (X:=(List (List UInt8)) × (List UInt8) × Int) (B:=(List (List UInt8)) × (List UInt8)) (R:=(List (List UInt8)) × (List UInt8)) (fun z=>[(0,.mpt 0 0 0),(1,.isl 1 (List.map rStr v3)),(4,iA z.2.2)]) (fun z=>[some (2,[[.msl 3 0 (List.length z.1),.msl 4 0 (List.length z.2.1)]]),none,none,some (1,List.map rStr z.1),some (1,List.map byteRow z.2.1)]) (fun b=>[]) (fun b=>[some (2,[[.msl 3 0 (List.length b.1),.msl 4 0 (List.length b.2)]]),none,none,some (1,List.map rStr b.1),some (1,List.map byteRow b.2)]) (fun r env st=>PostF Tryz.prog Tryz.f58 3 (.tup []) [some (2,[[.msl 3 0 (List.length r.1),.msl 4 0 (List.length r.2)]]),none,none,some (1,List.map rStr r.1),some (1,List.map byteRow r.2)] env st) ho ⟨[.old 0,.dead,.dead,.old 1,.old 3],cv j0 (.mpt j0)<|ce j0 j0<|ce j0 j0<|cn,j0,⟨⟨_,j0,rsOne ⟨.msl j0,.msl j0,j5⟩⟩,⟨_,j0,rsMap (fun _=>j0)⟩,⟨_,j0,rsMap (fun _=>j0)⟩,j5⟩,j0,j1⟩ ?_ ?_ ?_
 ·
  rintro ⟨v10,v11,v12⟩ r h
  replace h : ref3_writer_texts_l1 v3 v10 v11 v12 = some r:=h
  unfold ref3_writer_texts_l1 at h
  refine sw_seq ?_
  refine rg j0<|u<|mv j0<|u<|mv j0<|u<|lnI ti24 j0 j0<|u<|lss ti3 j0 j0<|r_nil ?_
  refine sw_cond j0 (fun hc5=>?_) (fun hc5=>?_)
  ·
   replace h:=bT hc5 h
   refine sw_skip ?_
   refine sw_seq ?_
   refine sw_block ?_
   obtain ⟨v13,q6,h⟩:=bs h
   obtain ⟨v14,q7,h⟩:=bs h
   refine rl j0<|u<|mv j0<|u<|mv j0<|u<|mv j0<|u<|ixI ti24 j0 ti9 j0 j0 j0 q6<|u<|ldI ti9 j0 (idx_some q6).2.2 j0<|u<|sc [0,3,4] (ref3_writer_text_ok v10 v11 v13 q7) j0 j0 j0 j0 ⟨(.mpt j0),(rnI j0),j5⟩ ⟨⟨_,j0,⟨(.msl j0),(.msl j0),j5⟩⟩,⟨j0,mkI (fun _=>j0)⟩,⟨j0,mkI (fun _=>j0)⟩,j5⟩<|r_can (env0:=[(0,.mpt 0 0 0),(1,.isl 1 (List.map rStr v3)),(4,iA v12)]) (st0:=[some (2,[[.msl 3 0 (List.length v14.1),.msl 4 0 (List.length v14.2)]]),none,none,some (1,List.map rStr v14.1),some (1,List.map byteRow v14.2)]) ⟨[.old 0,.dead,.dead,.old 5,.old 6],cv j0 (.mpt j0)<|ce j0 j0<|ce j0 j0<|cn,j0,⟨⟨_,j0,rsOne ⟨.msl j0,.msl j0,j5⟩⟩,⟨_,j0,rsMap (fun _=>j0)⟩,⟨_,j0,rsMap (fun _=>j0)⟩,j5⟩,j0,j1⟩<|r_nil ?_
   refine rl j0<|u<|mv j0<|u<|add ti3 j0 j0<|u<|asg j0<|r_nil ?_
   obtain rfl:=sm h
   exact ⟨_,j0,[.old 0,.dead,.dead,.old 3,.old 4],cv j0 (.mpt j0)<|ce j0 j0<|ce j0 j0<|cn,j0,⟨⟨_,j0,rsOne ⟨.msl j0,.msl j0,j5⟩⟩,⟨_,j0,rsMap (fun _=>j0)⟩,⟨_,j0,rsMap (fun _=>j0)⟩,j5⟩,j0,j1⟩
  ·
   replace h:=bF hc5 h
   refine sw_exit ?_
   obtain rfl:=sm h
   exact ⟨j0,_,j0,[.old 0,.dead,.dead,.old 3,.old 4],cn,j0,⟨⟨_,j0,rsOne ⟨.msl j0,.msl j0,j5⟩⟩,⟨_,j0,rsMap (fun _=>j0)⟩,⟨_,j0,rsMap (fun _=>j0)⟩,j5⟩,j0,j1⟩
 ·
  rintro ⟨v15,v16⟩ rfl
  replace h : ref3_writer_texts_k2 v15 v16 = some r:=h
  unfold ref3_writer_texts_k2 at h
  refine ow_intro ?_
  obtain rfl:=sm h
  exact ⟨_,j0,[.old 0,.dead,.dead,.old 3,.old 4],rsTup j5,j0,⟨⟨_,j0,rsOne ⟨.msl j0,.msl j0,j5⟩⟩,⟨_,j0,rsMap (fun _=>j0)⟩,⟨_,j0,rsMap (fun _=>j0)⟩,j5⟩,j0,j1⟩
 ·
  rintro r' rfl env st hp
  obtain rfl:=sm h
  exact hp
def ref3_writer_method_k6 (v74 : List (List UInt8)) (v75 : List UInt8) : Option ((List (List UInt8)) × (List UInt8)) :=
  some (v74,v75)
def ref3_writer_method_l5 (v3 : ApiMethod) (v66 : List (List UInt8)) (v67 : List UInt8) (v68 : Int) : Option (Sum ((List (List UInt8)) × (List UInt8) × Int) (Sum ((List (List UInt8)) × (List UInt8)) ((List (List UInt8)) × (List UInt8)))) :=
  cond (decide (v68 < (List.length v3.Traps : Int))) ((idx v3.Traps v68).bind fun v69=>(ref3_writer_num v66 v67 v69.From).bind fun v70=>(ref3_writer_num v66 v70 v69.To).bind fun v71=>(ref3_writer_num v66 v71 v69.At).bind fun v72=>(ref3_writer_text v66 v72 v69.C).bind fun v73=>some (.inl (v73.1,v73.2,(IntKind.i64.wrap (v68 + 1))))) (some (.inr (.inl (v66,v67))))
def ref3_writer_method_k4 (v3 : ApiMethod) (v55 : List (List UInt8)) (v56 : List UInt8) : Option ((List (List UInt8)) × (List UInt8)) :=
  (ref3_writer_num v55 v56 (List.length v3.Traps : Int)).bind fun v57=>(loopP (fun z=>ref3_writer_method_l5 v3 z.1 z.2.1 z.2.2) (v55,v57,0)).bind fun o=>leave o (fun b=>ref3_writer_method_k6 b.1 b.2) some
def ref3_writer_method_l3 (v3 : ApiMethod) (v46 : List (List UInt8)) (v47 : List UInt8) (v48 : Int) : Option (Sum ((List (List UInt8)) × (List UInt8) × Int) (Sum ((List (List UInt8)) × (List UInt8)) ((List (List UInt8)) × (List UInt8)))) :=
  cond (decide (v48 < (List.length v3.Maps : Int))) ((idx v3.Maps v48).bind fun v49=>(ref3_writer_num v46 v47 v49.At).bind fun v50=>(idx v3.Maps v48).bind fun v51=>(ref3_writer_texts v46 v50 v51.Locals).bind fun v52=>(idx v3.Maps v48).bind fun v53=>(ref3_writer_texts v52.1 v52.2 v53.Stack).bind fun v54=>some (.inl (v54.1,v54.2,(IntKind.i64.wrap (v48 + 1))))) (some (.inr (.inl (v46,v47))))
def ref3_writer_method_k2 (v3 : ApiMethod) (v34 : List (List UInt8)) (v35 : List UInt8) : Option ((List (List UInt8)) × (List UInt8)) :=
  (ref3_writer_num v34 v35 (List.length v3.Maps : Int)).bind fun v36=>(loopP (fun z=>ref3_writer_method_l3 v3 z.1 z.2.1 z.2.2) (v34,v36,0)).bind fun o=>leave o (fun b=>ref3_writer_method_k4 v3 b.1 b.2) some
def ref3_writer_method_l1 (v3 : ApiMethod) (v23 : List (List UInt8)) (v24 : List UInt8) (v25 : Int) : Option (Sum ((List (List UInt8)) × (List UInt8) × Int) (Sum ((List (List UInt8)) × (List UInt8)) ((List (List UInt8)) × (List UInt8)))) :=
  cond (decide (v25 < (List.length v3.Code : Int))) ((idx v3.Code v25).bind fun v26=>(ref3_writer_num v23 v24 v26.Op).bind fun v27=>(idx v3.Code v25).bind fun v28=>(ref3_writer_num v23 v27 v28.A).bind fun v29=>(idx v3.Code v25).bind fun v30=>(ref3_writer_text v23 v29 v30.C).bind fun v31=>(idx v3.Code v25).bind fun v32=>(ref3_writer_text v31.1 v31.2 v32.M).bind fun v33=>some (.inl (v33.1,v33.2,(IntKind.i64.wrap (v25 + 1))))) (some (.inr (.inl (v23,v24))))
def ref3_writer_method (v1 : List (List UInt8)) (v2 : List UInt8) (v3 : ApiMethod) : Option ((List (List UInt8)) × (List UInt8)) :=
  (ref3_writer_text v1 v2 v3.Name).bind fun v4=>(ref3_writer_texts v4.1 v4.2 v3.Params).bind fun v5=>(ref3_writer_text v5.1 v5.2 v3.Ret).bind fun v6=>(ref3_writer_truth v6.1 v6.2 v3.Static).bind fun v7=>(ref3_writer_truth v6.1 v7 v3.Abstract).bind fun v8=>(ref3_writer_num v6.1 v8 v3.Locals).bind fun v9=>(ref3_writer_num v6.1 v9 v3.Stack).bind fun v10=>(ref3_writer_num v6.1 v10 (List.length v3.Code : Int)).bind fun v11=>(loopP (fun z=>ref3_writer_method_l1 v3 z.1 z.2.1 z.2.2) (v6.1,v11,0)).bind fun o=>leave o (fun b=>ref3_writer_method_k2 v3 b.1 b.2) some
theorem ref3_writer_method_ok (v1 : List (List UInt8)) (v2 : List UInt8) (v3 : ApiMethod) {r : (List (List UInt8)) × (List UInt8)} (h : ref3_writer_method v1 v2 v3 = some r) : SC Tryz.prog 60 [.mpt 0 0 0,.agg [sA v3.Name,.isl 1 (List.map rStr v3.Params),sA v3.Ret,bA v3.Static,bA v3.Abstract,iA v3.Locals,iA v3.Stack,.isl 4 (List.map rApiIns v3.Code),.isl 3 (List.map rApiMap v3.Maps),.isl 4 (List.map rApiTrap v3.Traps)]] [.one 2 [.msl 1 0 (List.length v1),.msl 2 0 (List.length v2)],.many 1 (List.map rStr v1),.many 1 (List.map byteRow v2)] (.tup []) [.one 2 [.msl 3 0 (List.length r.1),.msl 4 0 (List.length r.2)],.no,.no,.many 1 (List.map rStr r.1),.many 1 (List.map byteRow r.2)]:=by
 refine ⟨⟨j5,j5,j5,sbOk (sz:=1) (fun _=>j0),sbOk (sz:=1) (fun _=>j0),j5⟩,scall_fn Tryz.func60 j0 (by kernel_rfl) j0 ?_⟩
 unfold ref3_writer_method at h
 refine rg j0<|u<|bx 3 10 j0 j0 j0 j0<|r_nil ?_
 obtain ⟨v4,q1,h⟩:=bs h
 refine rg j0<|u<|mv j0<|u<|fa ti35 j0 j0 j0<|u<|ld ti9 j0 j0<|u<|sc [0,1,2] (ref3_writer_text_ok v1 v2 v3.Name q1) j0 j0 j0 j0 ⟨(.mpt j0),(rnI j0),j5⟩ ⟨⟨_,j0,⟨(.msl j0),(.msl j0),j5⟩⟩,⟨j0,mkI (fun _=>j0)⟩,⟨j0,mkI (fun _=>j0)⟩,j5⟩<|r_can (env0:=[(0,.mpt 0 0 0),(3,.mpt 5 0 0)]) (st0:=[some (2,[[.msl 3 0 (List.length v4.1),.msl 4 0 (List.length v4.2)]]),none,none,some (1,List.map rStr v4.1),some (1,List.map byteRow v4.2),some (10,[[sA v3.Name,.isl 1 (List.map rStr v3.Params),sA v3.Ret,bA v3.Static,bA v3.Abstract,iA v3.Locals,iA v3.Stack,.isl 4 (List.map rApiIns v3.Code),.isl 3 (List.map rApiMap v3.Maps),.isl 4 (List.map rApiTrap v3.Traps)]])]) ⟨[.old 0,.dead,.dead,.old 4,.old 5,.old 3],cv j0 (.mpt j0)<|cv j0 (.mpt j0)<|cn,j0,⟨⟨_,j0,rsOne ⟨.msl j0,.msl j0,j5⟩⟩,⟨_,j0,rsMap (fun _=>j0)⟩,⟨_,j0,rsMap (fun _=>j0)⟩,⟨_,j0,rsOne ⟨ci j0,ci j0,ci j0,ci j0,ci j0,ci j0,ci j0,ci j0,ci j0,ci j0,j5⟩⟩,j5⟩,j0,j1⟩<|r_nil ?_
 obtain ⟨v5,q2,h⟩:=bs h
 refine rg j0<|u<|mv j0<|u<|fa ti35 j0 j0 j0<|u<|ld ti24 j0 j0<|u<|sc [0,3,4] (ref3_writer_texts_ok v4.1 v4.2 v3.Params q2) j0 j0 j0 j0 ⟨(.mpt j0),(rnI j0),j5⟩ ⟨⟨_,j0,⟨(.msl j0),(.msl j0),j5⟩⟩,⟨j0,mkI (fun _=>j0)⟩,⟨j0,mkI (fun _=>j0)⟩,j5⟩<|r_can (env0:=[(0,.mpt 0 0 0),(3,.mpt 5 0 0)]) (st0:=[some (2,[[.msl 3 0 (List.length v5.1),.msl 4 0 (List.length v5.2)]]),none,none,some (1,List.map rStr v5.1),some (1,List.map byteRow v5.2),some (10,[[sA v3.Name,.isl 1 (List.map rStr v3.Params),sA v3.Ret,bA v3.Static,bA v3.Abstract,iA v3.Locals,iA v3.Stack,.isl 4 (List.map rApiIns v3.Code),.isl 3 (List.map rApiMap v3.Maps),.isl 4 (List.map rApiTrap v3.Traps)]])]) ⟨[.old 0,.dead,.dead,.old 6,.old 7,.old 5],cv j0 (.mpt j0)<|cv j0 (.mpt j0)<|cn,j0,⟨⟨_,j0,rsOne ⟨.msl j0,.msl j0,j5⟩⟩,⟨_,j0,rsMap (fun _=>j0)⟩,⟨_,j0,rsMap (fun _=>j0)⟩,⟨_,j0,rsOne ⟨ci j0,ci j0,ci j0,ci j0,ci j0,ci j0,ci j0,ci j0,ci j0,ci j0,j5⟩⟩,j5⟩,j0,j1⟩<|r_nil ?_
 obtain ⟨v6,q3,h⟩:=bs h
 refine rg j0<|u<|mv j0<|u<|fa ti35 j0 j0 j0<|u<|ld ti9 j0 j0<|u<|sc [0,3,4] (ref3_writer_text_ok v5.1 v5.2 v3.Ret q3) j0 j0 j0 j0 ⟨(.mpt j0),(rnI j0),j5⟩ ⟨⟨_,j0,⟨(.msl j0),(.msl j0),j5⟩⟩,⟨j0,mkI (fun _=>j0)⟩,⟨j0,mkI (fun _=>j0)⟩,j5⟩<|r_can (env0:=[(0,.mpt 0 0 0),(3,.mpt 5 0 0)]) (st0:=[some (2,[[.msl 3 0 (List.length v6.1),.msl 4 0 (List.length v6.2)]]),none,none,some (1,List.map rStr v6.1),some (1,List.map byteRow v6.2),some (10,[[sA v3.Name,.isl 1 (List.map rStr v3.Params),sA v3.Ret,bA v3.Static,bA v3.Abstract,iA v3.Locals,iA v3.Stack,.isl 4 (List.map rApiIns v3.Code),.isl 3 (List.map rApiMap v3.Maps),.isl 4 (List.map rApiTrap v3.Traps)]])]) ⟨[.old 0,.dead,.dead,.old 6,.old 7,.old 5],cv j0 (.mpt j0)<|cv j0 (.mpt j0)<|cn,j0,⟨⟨_,j0,rsOne ⟨.msl j0,.msl j0,j5⟩⟩,⟨_,j0,rsMap (fun _=>j0)⟩,⟨_,j0,rsMap (fun _=>j0)⟩,⟨_,j0,rsOne ⟨ci j0,ci j0,ci j0,ci j0,ci j0,ci j0,ci j0,ci j0,ci j0,ci j0,j5⟩⟩,j5⟩,j0,j1⟩<|r_nil ?_
 obtain ⟨v7,q4,h⟩:=bs h
 refine rg j0<|u<|mv j0<|u<|fa ti35 j0 j0 j0<|u<|ld ti4 j0 j0<|u<|sc [0,3,4] (ref3_writer_truth_ok v6.1 v6.2 v3.Static q4) j0 j0 j0 j0 ⟨(.mpt j0),(rnI j0),j5⟩ ⟨⟨_,j0,⟨(.msl j0),(.msl j0),j5⟩⟩,⟨j0,mkI (fun _=>j0)⟩,⟨j0,mkI (fun _=>j0)⟩,j5⟩<|r_can (env0:=[(0,.mpt 0 0 0),(3,.mpt 5 0 0)]) (st0:=[some (2,[[.msl 3 0 (List.length v6.1),.msl 4 0 (List.length v7)]]),none,none,some (1,List.map rStr v6.1),some (1,List.map byteRow v7),some (10,[[sA v3.Name,.isl 1 (List.map rStr v3.Params),sA v3.Ret,bA v3.Static,bA v3.Abstract,iA v3.Locals,iA v3.Stack,.isl 4 (List.map rApiIns v3.Code),.isl 3 (List.map rApiMap v3.Maps),.isl 4 (List.map rApiTrap v3.Traps)]])]) ⟨[.old 0,.dead,.dead,.old 3,.old 6,.old 5],cv j0 (.mpt j0)<|cv j0 (.mpt j0)<|cn,j0,⟨⟨_,j0,rsOne ⟨.msl j0,.msl j0,j5⟩⟩,⟨_,j0,rsMap (fun _=>j0)⟩,⟨_,j0,rsMap (fun _=>j0)⟩,⟨_,j0,rsOne ⟨ci j0,ci j0,ci j0,ci j0,ci j0,ci j0,ci j0,ci j0,ci j0,ci j0,j5⟩⟩,j5⟩,j0,j1⟩<|r_nil ?_
 obtain ⟨v8,q5,h⟩:=bs h
 refine rg j0<|u<|mv j0<|u<|fa ti35 j0 j0 j0<|u<|ld ti4 j0 j0<|u<|sc [0,3,4] (ref3_writer_truth_ok v6.1 v7 v3.Abstract q5) j0 j0 j0 j0 ⟨(.mpt j0),(rnI j0),j5⟩ ⟨⟨_,j0,⟨(.msl j0),(.msl j0),j5⟩⟩,⟨j0,mkI (fun _=>j0)⟩,⟨j0,mkI (fun _=>j0)⟩,j5⟩<|r_can (env0:=[(0,.mpt 0 0 0),(3,.mpt 5 0 0)]) (st0:=[some (2,[[.msl 3 0 (List.length v6.1),.msl 4 0 (List.length v8)]]),none,none,some (1,List.map rStr v6.1),some (1,List.map byteRow v8),some (10,[[sA v3.Name,.isl 1 (List.map rStr v3.Params),sA v3.Ret,bA v3.Static,bA v3.Abstract,iA v3.Locals,iA v3.Stack,.isl 4 (List.map rApiIns v3.Code),.isl 3 (List.map rApiMap v3.Maps),.isl 4 (List.map rApiTrap v3.Traps)]])]) ⟨[.old 0,.dead,.dead,.old 3,.old 6,.old 5],cv j0 (.mpt j0)<|cv j0 (.mpt j0)<|cn,j0,⟨⟨_,j0,rsOne ⟨.msl j0,.msl j0,j5⟩⟩,⟨_,j0,rsMap (fun _=>j0)⟩,⟨_,j0,rsMap (fun _=>j0)⟩,⟨_,j0,rsOne ⟨ci j0,ci j0,ci j0,ci j0,ci j0,ci j0,ci j0,ci j0,ci j0,ci j0,j5⟩⟩,j5⟩,j0,j1⟩<|r_nil ?_
 obtain ⟨v9,q6,h⟩:=bs h
 refine rg j0<|u<|mv j0<|u<|fa ti35 j0 j0 j0<|u<|ld ti3 j0 j0<|u<|sc [0,3,4] (ref3_writer_num_ok v6.1 v8 v3.Locals q6) j0 j0 j0 j0 ⟨(.mpt j0),(rnI j0),j5⟩ ⟨⟨_,j0,⟨(.msl j0),(.msl j0),j5⟩⟩,⟨j0,mkI (fun _=>j0)⟩,⟨j0,mkI (fun _=>j0)⟩,j5⟩<|r_can (env0:=[(0,.mpt 0 0 0),(3,.mpt 5 0 0)]) (st0:=[some (2,[[.msl 3 0 (List.length v6.1),.msl 4 0 (List.length v9)]]),none,none,some (1,List.map rStr v6.1),some (1,List.map byteRow v9),some (10,[[sA v3.Name,.isl 1 (List.map rStr v3.Params),sA v3.Ret,bA v3.Static,bA v3.Abstract,iA v3.Locals,iA v3.Stack,.isl 4 (List.map rApiIns v3.Code),.isl 3 (List.map rApiMap v3.Maps),.isl 4 (List.map rApiTrap v3.Traps)]])]) ⟨[.old 0,.dead,.dead,.old 3,.old 6,.old 5],cv j0 (.mpt j0)<|cv j0 (.mpt j0)<|cn,j0,⟨⟨_,j0,rsOne ⟨.msl j0,.msl j0,j5⟩⟩,⟨_,j0,rsMap (fun _=>j0)⟩,⟨_,j0,rsMap (fun _=>j0)⟩,⟨_,j0,rsOne ⟨ci j0,ci j0,ci j0,ci j0,ci j0,ci j0,ci j0,ci j0,ci j0,ci j0,j5⟩⟩,j5⟩,j0,j1⟩<|r_nil ?_
 obtain ⟨v10,q7,h⟩:=bs h
 refine rg j0<|u<|mv j0<|u<|fa ti35 j0 j0 j0<|u<|ld ti3 j0 j0<|u<|sc [0,3,4] (ref3_writer_num_ok v6.1 v9 v3.Stack q7) j0 j0 j0 j0 ⟨(.mpt j0),(rnI j0),j5⟩ ⟨⟨_,j0,⟨(.msl j0),(.msl j0),j5⟩⟩,⟨j0,mkI (fun _=>j0)⟩,⟨j0,mkI (fun _=>j0)⟩,j5⟩<|r_can (env0:=[(0,.mpt 0 0 0),(3,.mpt 5 0 0)]) (st0:=[some (2,[[.msl 3 0 (List.length v6.1),.msl 4 0 (List.length v10)]]),none,none,some (1,List.map rStr v6.1),some (1,List.map byteRow v10),some (10,[[sA v3.Name,.isl 1 (List.map rStr v3.Params),sA v3.Ret,bA v3.Static,bA v3.Abstract,iA v3.Locals,iA v3.Stack,.isl 4 (List.map rApiIns v3.Code),.isl 3 (List.map rApiMap v3.Maps),.isl 4 (List.map rApiTrap v3.Traps)]])]) ⟨[.old 0,.dead,.dead,.old 3,.old 6,.old 5],cv j0 (.mpt j0)<|cv j0 (.mpt j0)<|cn,j0,⟨⟨_,j0,rsOne ⟨.msl j0,.msl j0,j5⟩⟩,⟨_,j0,rsMap (fun _=>j0)⟩,⟨_,j0,rsMap (fun _=>j0)⟩,⟨_,j0,rsOne ⟨ci j0,ci j0,ci j0,ci j0,ci j0,ci j0,ci j0,ci j0,ci j0,ci j0,j5⟩⟩,j5⟩,j0,j1⟩<|r_nil ?_
 obtain ⟨v11,q8,h⟩:=bs h
 refine rg j0<|u<|mv j0<|u<|fa ti35 j0 j0 j0<|u<|ld ti31 j0 j0<|u<|lnI ti31 j0 j0<|u<|sc [0,3,4] (ref3_writer_num_ok v6.1 v10 (List.length v3.Code : Int) q8) j0 j0 j0 j0 ⟨(.mpt j0),(rnI j0),j5⟩ ⟨⟨_,j0,⟨(.msl j0),(.msl j0),j5⟩⟩,⟨j0,mkI (fun _=>j0)⟩,⟨j0,mkI (fun _=>j0)⟩,j5⟩<|r_can (env0:=[(0,.mpt 0 0 0),(3,.mpt 5 0 0)]) (st0:=[some (2,[[.msl 3 0 (List.length v6.1),.msl 4 0 (List.length v11)]]),none,none,some (1,List.map rStr v6.1),some (1,List.map byteRow v11),some (10,[[sA v3.Name,.isl 1 (List.map rStr v3.Params),sA v3.Ret,bA v3.Static,bA v3.Abstract,iA v3.Locals,iA v3.Stack,.isl 4 (List.map rApiIns v3.Code),.isl 3 (List.map rApiMap v3.Maps),.isl 4 (List.map rApiTrap v3.Traps)]])]) ⟨[.old 0,.dead,.dead,.old 3,.old 6,.old 5],cv j0 (.mpt j0)<|cv j0 (.mpt j0)<|cn,j0,⟨⟨_,j0,rsOne ⟨.msl j0,.msl j0,j5⟩⟩,⟨_,j0,rsMap (fun _=>j0)⟩,⟨_,j0,rsMap (fun _=>j0)⟩,⟨_,j0,rsOne ⟨ci j0,ci j0,ci j0,ci j0,ci j0,ci j0,ci j0,ci j0,ci j0,ci j0,j5⟩⟩,j5⟩,j0,j1⟩<|r_nil ?_
 refine sw_seq ?_
 refine rg j0<|u<|asg j0<|r_nil ?_
 obtain ⟨o,ho,h⟩:=bs h
 refine sw_lpl (X:=(List (List UInt8)) × (List UInt8) × Int) (B:=(List (List UInt8)) × (List UInt8)) (R:=(List (List UInt8)) × (List UInt8)) (fun z=>[(0,.mpt 0 0 0),(3,.mpt 5 0 0),(4,iA z.2.2)]) (fun z=>[some (2,[[.msl 3 0 (List.length z.1),.msl 4 0 (List.length z.2.1)]]),none,none,some (1,List.map rStr z.1),some (1,List.map byteRow z.2.1),some (10,[[sA v3.Name,.isl 1 (List.map rStr v3.Params),sA v3.Ret,bA v3.Static,bA v3.Abstract,iA v3.Locals,iA v3.Stack,.isl 4 (List.map rApiIns v3.Code),.isl 3 (List.map rApiMap v3.Maps),.isl 4 (List.map rApiTrap v3.Traps)]])]) (fun b=>[(0,.mpt 0 0 0),(3,.mpt 5 0 0)]) (fun b=>[some (2,[[.msl 3 0 (List.length b.1),.msl 4 0 (List.length b.2)]]),none,none,some (1,List.map rStr b.1),some (1,List.map byteRow b.2),some (10,[[sA v3.Name,.isl 1 (List.map rStr v3.Params),sA v3.Ret,bA v3.Static,bA v3.Abstract,iA v3.Locals,iA v3.Stack,.isl 4 (List.map rApiIns v3.Code),.isl 3 (List.map rApiMap v3.Maps),.isl 4 (List.map rApiTrap v3.Traps)]])]) (fun r env st=>PostF Tryz.prog Tryz.f60 3 (.tup []) [some (2,[[.msl 3 0 (List.length r.1),.msl 4 0 (List.length r.2)]]),none,none,some (1,List.map rStr r.1),some (1,List.map byteRow r.2)] env st) ho ⟨[.old 0,.dead,.dead,.old 3,.old 4,.old 5],cv j0 (.mpt j0)<|cv j0 (.mpt j0)<|ce j0 j0<|cn,j0,⟨⟨_,j0,rsOne ⟨.msl j0,.msl j0,j5⟩⟩,⟨_,j0,rsMap (fun _=>j0)⟩,⟨_,j0,rsMap (fun _=>j0)⟩,⟨_,j0,rsOne ⟨ci j0,ci j0,ci j0,ci j0,ci j0,ci j0,ci j0,ci j0,ci j0,ci j0,j5⟩⟩,j5⟩,j0,j1⟩ ?_ ?_ ?_
 ·
  rintro ⟨v23,v24,v25⟩ r h
  replace h : ref3_writer_method_l1 v3 v23 v24 v25 = some r:=h
  unfold ref3_writer_method_l1 at h
  refine sw_seq ?_
  refine rg j0<|u<|mv j0<|u<|fa ti35 j0 j0 j0<|u<|ld ti31 j0 j0<|u<|lnI ti31 j0 j0<|u<|lss ti3 j0 j0<|r_nil ?_
  refine sw_cond j0 (fun hc18=>?_) (fun hc18=>?_)
  ·
   replace h:=bT hc18 h
   refine sw_skip ?_
   refine sw_seq ?_
   refine sw_block ?_
   obtain ⟨v26,q19,h⟩:=bs h
   obtain ⟨v27,q20,h⟩:=bs h
   refine rg j0<|u<|mv j0<|u<|fa ti35 j0 j0 j0<|u<|ld ti31 j0 j0<|u<|mv j0<|u<|ixI ti31 j0 ti37 j0 j0 j0 q19<|u<|fa ti37 j0 j0 j0<|u<|ldI ti3 j0 (idx_some q19).2.2 j0<|u<|sc [0,3,4] (ref3_writer_num_ok v23 v24 v26.Op q20) j0 j0 j0 j0 ⟨(.mpt j0),(rnI j0),j5⟩ ⟨⟨_,j0,⟨(.msl j0),(.msl j0),j5⟩⟩,⟨j0,mkI (fun _=>j0)⟩,⟨j0,mkI (fun _=>j0)⟩,j5⟩<|r_can (env0:=[(0,.mpt 0 0 0),(3,.mpt 5 0 0),(4,iA v25)]) (st0:=[some (2,[[.msl 3 0 (List.length v23),.msl 4 0 (List.length v27)]]),none,none,some (1,List.map rStr v23),some (1,List.map byteRow v27),some (10,[[sA v3.Name,.isl 1 (List.map rStr v3.Params),sA v3.Ret,bA v3.Static,bA v3.Abstract,iA v3.Locals,iA v3.Stack,.isl 4 (List.map rApiIns v3.Code),.isl 3 (List.map rApiMap v3.Maps),.isl 4 (List.map rApiTrap v3.Traps)]])]) ⟨[.old 0,.dead,.dead,.old 3,.old 6,.old 5],cv j0 (.mpt j0)<|cv j0 (.mpt j0)<|ce j0 j0<|cn,j0,⟨⟨_,j0,rsOne ⟨.msl j0,.msl j0,j5⟩⟩,⟨_,j0,rsMap (fun _=>j0)⟩,⟨_,j0,rsMap (fun _=>j0)⟩,⟨_,j0,rsOne ⟨ci j0,ci j0,ci j0,ci j0,ci j0,ci j0,ci j0,ci j0,ci j0,ci j0,j5⟩⟩,j5⟩,j0,j1⟩<|r_nil ?_
   obtain ⟨v28,q21,h⟩:=bs h
   obtain ⟨v29,q22,h⟩:=bs h
   refine rg j0<|u<|mv j0<|u<|fa ti35 j0 j0 j0<|u<|ld ti31 j0 j0<|u<|mv j0<|u<|ixI ti31 j0 ti37 j0 j0 j0 q21<|u<|fa ti37 j0 j0 j0<|u<|ldI ti3 j0 (idx_some q21).2.2 j0<|u<|sc [0,3,4] (ref3_writer_num_ok v23 v27 v28.A q22) j0 j0 j0 j0 ⟨(.mpt j0),(rnI j0),j5⟩ ⟨⟨_,j0,⟨(.msl j0),(.msl j0),j5⟩⟩,⟨j0,mkI (fun _=>j0)⟩,⟨j0,mkI (fun _=>j0)⟩,j5⟩<|r_can (env0:=[(0,.mpt 0 0 0),(3,.mpt 5 0 0),(4,iA v25)]) (st0:=[some (2,[[.msl 3 0 (List.length v23),.msl 4 0 (List.length v29)]]),none,none,some (1,List.map rStr v23),some (1,List.map byteRow v29),some (10,[[sA v3.Name,.isl 1 (List.map rStr v3.Params),sA v3.Ret,bA v3.Static,bA v3.Abstract,iA v3.Locals,iA v3.Stack,.isl 4 (List.map rApiIns v3.Code),.isl 3 (List.map rApiMap v3.Maps),.isl 4 (List.map rApiTrap v3.Traps)]])]) ⟨[.old 0,.dead,.dead,.old 3,.old 6,.old 5],cv j0 (.mpt j0)<|cv j0 (.mpt j0)<|ce j0 j0<|cn,j0,⟨⟨_,j0,rsOne ⟨.msl j0,.msl j0,j5⟩⟩,⟨_,j0,rsMap (fun _=>j0)⟩,⟨_,j0,rsMap (fun _=>j0)⟩,⟨_,j0,rsOne ⟨ci j0,ci j0,ci j0,ci j0,ci j0,ci j0,ci j0,ci j0,ci j0,ci j0,j5⟩⟩,j5⟩,j0,j1⟩<|r_nil ?_
   obtain ⟨v30,q23,h⟩:=bs h
   obtain ⟨v31,q24,h⟩:=bs h
   refine rg j0<|u<|mv j0<|u<|fa ti35 j0 j0 j0<|u<|ld ti31 j0 j0<|u<|mv j0<|u<|ixI ti31 j0 ti37 j0 j0 j0 q23<|u<|fa ti37 j0 j0 j0<|u<|ldI ti9 j0 (idx_some q23).2.2 j0<|u<|sc [0,3,4] (ref3_writer_text_ok v23 v29 v30.C q24) j0 j0 j0 j0 ⟨(.mpt j0),(rnI j0),j5⟩ ⟨⟨_,j0,⟨(.msl j0),(.msl j0),j5⟩⟩,⟨j0,mkI (fun _=>j0)⟩,⟨j0,mkI (fun _=>j0)⟩,j5⟩<|r_can (env0:=[(0,.mpt 0 0 0),(3,.mpt 5 0 0),(4,iA v25)]) (st0:=[some (2,[[.msl 3 0 (List.length v31.1),.msl 4 0 (List.length v31.2)]]),none,none,some (1,List.map rStr v31.1),some (1,List.map byteRow v31.2),some (10,[[sA v3.Name,.isl 1 (List.map rStr v3.Params),sA v3.Ret,bA v3.Static,bA v3.Abstract,iA v3.Locals,iA v3.Stack,.isl 4 (List.map rApiIns v3.Code),.isl 3 (List.map rApiMap v3.Maps),.isl 4 (List.map rApiTrap v3.Traps)]])]) ⟨[.old 0,.dead,.dead,.old 6,.old 7,.old 5],cv j0 (.mpt j0)<|cv j0 (.mpt j0)<|ce j0 j0<|cn,j0,⟨⟨_,j0,rsOne ⟨.msl j0,.msl j0,j5⟩⟩,⟨_,j0,rsMap (fun _=>j0)⟩,⟨_,j0,rsMap (fun _=>j0)⟩,⟨_,j0,rsOne ⟨ci j0,ci j0,ci j0,ci j0,ci j0,ci j0,ci j0,ci j0,ci j0,ci j0,j5⟩⟩,j5⟩,j0,j1⟩<|r_nil ?_
   obtain ⟨v32,q25,h⟩:=bs h
   obtain ⟨v33,q26,h⟩:=bs h
   refine rl j0<|u<|mv j0<|u<|fa ti35 j0 j0 j0<|u<|ld ti31 j0 j0<|u<|mv j0<|u<|ixI ti31 j0 ti37 j0 j0 j0 q25<|u<|fa ti37 j0 j0 j0<|u<|ldI ti9 j0 (idx_some q25).2.2 j0<|u<|sc [0,3,4] (ref3_writer_text_ok v31.1 v31.2 v32.M q26) j0 j0 j0 j0 ⟨(.mpt j0),(rnI j0),j5⟩ ⟨⟨_,j0,⟨(.msl j0),(.msl j0),j5⟩⟩,⟨j0,mkI (fun _=>j0)⟩,⟨j0,mkI (fun _=>j0)⟩,j5⟩<|r_can (env0:=[(0,.mpt 0 0 0),(3,.mpt 5 0 0),(4,iA v25)]) (st0:=[some (2,[[.msl 3 0 (List.length v33.1),.msl 4 0 (List.length v33.2)]]),none,none,some (1,List.map rStr v33.1),some (1,List.map byteRow v33.2),some (10,[[sA v3.Name,.isl 1 (List.map rStr v3.Params),sA v3.Ret,bA v3.Static,bA v3.Abstract,iA v3.Locals,iA v3.Stack,.isl 4 (List.map rApiIns v3.Code),.isl 3 (List.map rApiMap v3.Maps),.isl 4 (List.map rApiTrap v3.Traps)]])]) ⟨[.old 0,.dead,.dead,.old 6,.old 7,.old 5],cv j0 (.mpt j0)<|cv j0 (.mpt j0)<|ce j0 j0<|cn,j0,⟨⟨_,j0,rsOne ⟨.msl j0,.msl j0,j5⟩⟩,⟨_,j0,rsMap (fun _=>j0)⟩,⟨_,j0,rsMap (fun _=>j0)⟩,⟨_,j0,rsOne ⟨ci j0,ci j0,ci j0,ci j0,ci j0,ci j0,ci j0,ci j0,ci j0,ci j0,j5⟩⟩,j5⟩,j0,j1⟩<|r_nil ?_
   refine rl j0<|u<|mv j0<|u<|add ti3 j0 j0<|u<|asg j0<|r_nil ?_
   obtain rfl:=sm h
   exact ⟨_,j0,[.old 0,.dead,.dead,.old 3,.old 4,.old 5],cv j0 (.mpt j0)<|cv j0 (.mpt j0)<|ce j0 j0<|cn,j0,⟨⟨_,j0,rsOne ⟨.msl j0,.msl j0,j5⟩⟩,⟨_,j0,rsMap (fun _=>j0)⟩,⟨_,j0,rsMap (fun _=>j0)⟩,⟨_,j0,rsOne ⟨ci j0,ci j0,ci j0,ci j0,ci j0,ci j0,ci j0,ci j0,ci j0,ci j0,j5⟩⟩,j5⟩,j0,j1⟩
  ·
   replace h:=bF hc18 h
   refine sw_exit ?_
   obtain rfl:=sm h
   exact ⟨j0,_,j0,[.old 0,.dead,.dead,.old 3,.old 4,.old 5],cv j0 (.mpt j0)<|cv j0 (.mpt j0)<|cn,j0,⟨⟨_,j0,rsOne ⟨.msl j0,.msl j0,j5⟩⟩,⟨_,j0,rsMap (fun _=>j0)⟩,⟨_,j0,rsMap (fun _=>j0)⟩,⟨_,j0,rsOne ⟨ci j0,ci j0,ci j0,ci j0,ci j0,ci j0,ci j0,ci j0,ci j0,ci j0,j5⟩⟩,j5⟩,j0,j1⟩
 ·
  rintro ⟨v34,v35⟩ rfl
  replace h : ref3_writer_method_k2 v3 v34 v35 = some r:=h
  unfold ref3_writer_method_k2 at h
  refine ow_intro ?_
  obtain ⟨v36,q27,h⟩:=bs h
  refine rg j0<|u<|mv j0<|u<|fa ti35 j0 j0 j0<|u<|ld ti32 j0 j0<|u<|lnI ti32 j0 j0<|u<|sc [0,3,4] (ref3_writer_num_ok v34 v35 (List.length v3.Maps : Int) q27) j0 j0 j0 j0 ⟨(.mpt j0),(rnI j0),j5⟩ ⟨⟨_,j0,⟨(.msl j0),(.msl j0),j5⟩⟩,⟨j0,mkI (fun _=>j0)⟩,⟨j0,mkI (fun _=>j0)⟩,j5⟩<|r_can (env0:=[(0,.mpt 0 0 0),(3,.mpt 5 0 0)]) (st0:=[some (2,[[.msl 3 0 (List.length v34),.msl 4 0 (List.length v36)]]),none,none,some (1,List.map rStr v34),some (1,List.map byteRow v36),some (10,[[sA v3.Name,.isl 1 (List.map rStr v3.Params),sA v3.Ret,bA v3.Static,bA v3.Abstract,iA v3.Locals,iA v3.Stack,.isl 4 (List.map rApiIns v3.Code),.isl 3 (List.map rApiMap v3.Maps),.isl 4 (List.map rApiTrap v3.Traps)]])]) ⟨[.old 0,.dead,.dead,.old 3,.old 6,.old 5],cv j0 (.mpt j0)<|cv j0 (.mpt j0)<|cn,j0,⟨⟨_,j0,rsOne ⟨.msl j0,.msl j0,j5⟩⟩,⟨_,j0,rsMap (fun _=>j0)⟩,⟨_,j0,rsMap (fun _=>j0)⟩,⟨_,j0,rsOne ⟨ci j0,ci j0,ci j0,ci j0,ci j0,ci j0,ci j0,ci j0,ci j0,ci j0,j5⟩⟩,j5⟩,j0,j1⟩<|r_nil ?_
  refine sw_seq ?_
  refine rg j0<|u<|asg j0<|r_nil ?_
  obtain ⟨o,ho,h⟩:=bs h
  refine sw_lpl (X:=(List (List UInt8)) × (List UInt8) × Int) (B:=(List (List UInt8)) × (List UInt8)) (R:=(List (List UInt8)) × (List UInt8)) (fun z=>[(0,.mpt 0 0 0),(3,.mpt 5 0 0),(5,iA z.2.2)]) (fun z=>[some (2,[[.msl 3 0 (List.length z.1),.msl 4 0 (List.length z.2.1)]]),none,none,some (1,List.map rStr z.1),some (1,List.map byteRow z.2.1),some (10,[[sA v3.Name,.isl 1 (List.map rStr v3.Params),sA v3.Ret,bA v3.Static,bA v3.Abstract,iA v3.Locals,iA v3.Stack,.isl 4 (List.map rApiIns v3.Code),.isl 3 (List.map rApiMap v3.Maps),.isl 4 (List.map rApiTrap v3.Traps)]])]) (fun b=>[(0,.mpt 0 0 0),(3,.mpt 5 0 0)]) (fun b=>[some (2,[[.msl 3 0 (List.length b.1),.msl 4 0 (List.length b.2)]]),none,none,some (1,List.map rStr b.1),some (1,List.map byteRow b.2),some (10,[[sA v3.Name,.isl 1 (List.map rStr v3.Params),sA v3.Ret,bA v3.Static,bA v3.Abstract,iA v3.Locals,iA v3.Stack,.isl 4 (List.map rApiIns v3.Code),.isl 3 (List.map rApiMap v3.Maps),.isl 4 (List.map rApiTrap v3.Traps)]])]) (fun r env st=>PostF Tryz.prog Tryz.f60 3 (.tup []) [some (2,[[.msl 3 0 (List.length r.1),.msl 4 0 (List.length r.2)]]),none,none,some (1,List.map rStr r.1),some (1,List.map byteRow r.2)] env st) ho ⟨[.old 0,.dead,.dead,.old 3,.old 4,.old 5],cv j0 (.mpt j0)<|cv j0 (.mpt j0)<|ce j0 j0<|cn,j0,⟨⟨_,j0,rsOne ⟨.msl j0,.msl j0,j5⟩⟩,⟨_,j0,rsMap (fun _=>j0)⟩,⟨_,j0,rsMap (fun _=>j0)⟩,⟨_,j0,rsOne ⟨ci j0,ci j0,ci j0,ci j0,ci j0,ci j0,ci j0,ci j0,ci j0,ci j0,j5⟩⟩,j5⟩,j0,j1⟩ ?_ ?_ ?_
  ·
   rintro ⟨v46,v47,v48⟩ r h
   replace h : ref3_writer_method_l3 v3 v46 v47 v48 = some r:=h
   unfold ref3_writer_method_l3 at h
   refine sw_seq ?_
   refine rg j0<|u<|mv j0<|u<|fa ti35 j0 j0 j0<|u<|ld ti32 j0 j0<|u<|lnI ti32 j0 j0<|u<|lss ti3 j0 j0<|r_nil ?_
   refine sw_cond j0 (fun hc35=>?_) (fun hc35=>?_)
   ·
    replace h:=bT hc35 h
    refine sw_skip ?_
    refine sw_seq ?_
    refine sw_block ?_
    obtain ⟨v49,q36,h⟩:=bs h
    obtain ⟨v50,q37,h⟩:=bs h
    refine rg j0<|u<|mv j0<|u<|fa ti35 j0 j0 j0<|u<|ld ti32 j0 j0<|u<|mv j0<|u<|ixI ti32 j0 ti39 j0 j0 j0 q36<|u<|fa ti39 j0 j0 j0<|u<|ldI ti3 j0 (idx_some q36).2.2 j0<|u<|sc [0,3,4] (ref3_writer_num_ok v46 v47 v49.At q37) j0 j0 j0 j0 ⟨(.mpt j0),(rnI j0),j5⟩ ⟨⟨_,j0,⟨(.msl j0),(.msl j0),j5⟩⟩,⟨j0,mkI (fun _=>j0)⟩,⟨j0,mkI (fun _=>j0)⟩,j5⟩<|r_can (env0:=[(0,.mpt 0 0 0),(3,.mpt 5 0 0),(5,iA v48)]) (st0:=[some (2,[[.msl 3 0 (List.length v46),.msl 4 0 (List.length v50)]]),none,none,some (1,List.map rStr v46),some (1,List.map byteRow v50),some (10,[[sA v3.Name,.isl 1 (List.map rStr v3.Params),sA v3.Ret,bA v3.Static,bA v3.Abstract,iA v3.Locals,iA v3.Stack,.isl 4 (List.map rApiIns v3.Code),.isl 3 (List.map rApiMap v3.Maps),.isl 4 (List.map rApiTrap v3.Traps)]])]) ⟨[.old 0,.dead,.dead,.old 3,.old 6,.old 5],cv j0 (.mpt j0)<|cv j0 (.mpt j0)<|ce j0 j0<|cn,j0,⟨⟨_,j0,rsOne ⟨.msl j0,.msl j0,j5⟩⟩,⟨_,j0,rsMap (fun _=>j0)⟩,⟨_,j0,rsMap (fun _=>j0)⟩,⟨_,j0,rsOne ⟨ci j0,ci j0,ci j0,ci j0,ci j0,ci j0,ci j0,ci j0,ci j0,ci j0,j5⟩⟩,j5⟩,j0,j1⟩<|r_nil ?_
    obtain ⟨v51,q38,h⟩:=bs h
    obtain ⟨v52,q39,h⟩:=bs h
    refine rg j0<|u<|mv j0<|u<|fa ti35 j0 j0 j0<|u<|ld ti32 j0 j0<|u<|mv j0<|u<|ixI ti32 j0 ti39 j0 j0 j0 q38<|u<|fa ti39 j0 j0 j0<|u<|ldI ti24 j0 (idx_some q38).2.2 j0<|u<|sc [0,3,4] (ref3_writer_texts_ok v46 v50 v51.Locals q39) j0 j0 j0 j0 ⟨(.mpt j0),(rnI j0),j5⟩ ⟨⟨_,j0,⟨(.msl j0),(.msl j0),j5⟩⟩,⟨j0,mkI (fun _=>j0)⟩,⟨j0,mkI (fun _=>j0)⟩,j5⟩<|r_can (env0:=[(0,.mpt 0 0 0),(3,.mpt 5 0 0),(5,iA v48)]) (st0:=[some (2,[[.msl 3 0 (List.length v52.1),.msl 4 0 (List.length v52.2)]]),none,none,some (1,List.map rStr v52.1),some (1,List.map byteRow v52.2),some (10,[[sA v3.Name,.isl 1 (List.map rStr v3.Params),sA v3.Ret,bA v3.Static,bA v3.Abstract,iA v3.Locals,iA v3.Stack,.isl 4 (List.map rApiIns v3.Code),.isl 3 (List.map rApiMap v3.Maps),.isl 4 (List.map rApiTrap v3.Traps)]])]) ⟨[.old 0,.dead,.dead,.old 6,.old 7,.old 5],cv j0 (.mpt j0)<|cv j0 (.mpt j0)<|ce j0 j0<|cn,j0,⟨⟨_,j0,rsOne ⟨.msl j0,.msl j0,j5⟩⟩,⟨_,j0,rsMap (fun _=>j0)⟩,⟨_,j0,rsMap (fun _=>j0)⟩,⟨_,j0,rsOne ⟨ci j0,ci j0,ci j0,ci j0,ci j0,ci j0,ci j0,ci j0,ci j0,ci j0,j5⟩⟩,j5⟩,j0,j1⟩<|r_nil ?_
    obtain ⟨v53,q40,h⟩:=bs h
    obtain ⟨v54,q41,h⟩:=bs h
    refine rl j0<|u<|mv j0<|u<|fa ti35 j0 j0 j0<|u<|ld ti32 j0 j0<|u<|mv j0<|u<|ixI ti32 j0 ti39 j0 j0 j0 q40<|u<|fa ti39 j0 j0 j0<|u<|ldI ti24 j0 (idx_some q40).2.2 j0<|u<|sc [0,3,4] (ref3_writer_texts_ok v52.1 v52.2 v53.Stack q41) j0 j0 j0 j0 ⟨(.mpt j0),(rnI j0),j5⟩ ⟨⟨_,j0,⟨(.msl j0),(.msl j0),j5⟩⟩,⟨j0,mkI (fun _=>j0)⟩,⟨j0,mkI (fun _=>j0)⟩,j5⟩<|r_can (env0:=[(0,.mpt 0 0 0),(3,.mpt 5 0 0),(5,iA v48)]) (st0:=[some (2,[[.msl 3 0 (List.length v54.1),.msl 4 0 (List.length v54.2)]]),none,none,some (1,List.map rStr v54.1),some (1,List.map byteRow v54.2),some (10,[[sA v3.Name,.isl 1 (List.map rStr v3.Params),sA v3.Ret,bA v3.Static,bA v3.Abstract,iA v3.Locals,iA v3.Stack,.isl 4 (List.map rApiIns v3.Code),.isl 3 (List.map rApiMap v3.Maps),.isl 4 (List.map rApiTrap v3.Traps)]])]) ⟨[.old 0,.dead,.dead,.old 6,.old 7,.old 5],cv j0 (.mpt j0)<|cv j0 (.mpt j0)<|ce j0 j0<|cn,j0,⟨⟨_,j0,rsOne ⟨.msl j0,.msl j0,j5⟩⟩,⟨_,j0,rsMap (fun _=>j0)⟩,⟨_,j0,rsMap (fun _=>j0)⟩,⟨_,j0,rsOne ⟨ci j0,ci j0,ci j0,ci j0,ci j0,ci j0,ci j0,ci j0,ci j0,ci j0,j5⟩⟩,j5⟩,j0,j1⟩<|r_nil ?_
    refine rl j0<|u<|mv j0<|u<|add ti3 j0 j0<|u<|asg j0<|r_nil ?_
    obtain rfl:=sm h
    exact ⟨_,j0,[.old 0,.dead,.dead,.old 3,.old 4,.old 5],cv j0 (.mpt j0)<|cv j0 (.mpt j0)<|ce j0 j0<|cn,j0,⟨⟨_,j0,rsOne ⟨.msl j0,.msl j0,j5⟩⟩,⟨_,j0,rsMap (fun _=>j0)⟩,⟨_,j0,rsMap (fun _=>j0)⟩,⟨_,j0,rsOne ⟨ci j0,ci j0,ci j0,ci j0,ci j0,ci j0,ci j0,ci j0,ci j0,ci j0,j5⟩⟩,j5⟩,j0,j1⟩
   ·
    replace h:=bF hc35 h
    refine sw_exit ?_
    obtain rfl:=sm h
    exact ⟨j0,_,j0,[.old 0,.dead,.dead,.old 3,.old 4,.old 5],cv j0 (.mpt j0)<|cv j0 (.mpt j0)<|cn,j0,⟨⟨_,j0,rsOne ⟨.msl j0,.msl j0,j5⟩⟩,⟨_,j0,rsMap (fun _=>j0)⟩,⟨_,j0,rsMap (fun _=>j0)⟩,⟨_,j0,rsOne ⟨ci j0,ci j0,ci j0,ci j0,ci j0,ci j0,ci j0,ci j0,ci j0,ci j0,j5⟩⟩,j5⟩,j0,j1⟩
  ·
   rintro ⟨v55,v56⟩ rfl
   replace h : ref3_writer_method_k4 v3 v55 v56 = some r:=h
   unfold ref3_writer_method_k4 at h
   refine ow_intro ?_
   obtain ⟨v57,q42,h⟩:=bs h
   refine rg j0<|u<|mv j0<|u<|fa ti35 j0 j0 j0<|u<|ld ti33 j0 j0<|u<|lnI ti33 j0 j0<|u<|sc [0,3,4] (ref3_writer_num_ok v55 v56 (List.length v3.Traps : Int) q42) j0 j0 j0 j0 ⟨(.mpt j0),(rnI j0),j5⟩ ⟨⟨_,j0,⟨(.msl j0),(.msl j0),j5⟩⟩,⟨j0,mkI (fun _=>j0)⟩,⟨j0,mkI (fun _=>j0)⟩,j5⟩<|r_can (env0:=[(0,.mpt 0 0 0),(3,.mpt 5 0 0)]) (st0:=[some (2,[[.msl 3 0 (List.length v55),.msl 4 0 (List.length v57)]]),none,none,some (1,List.map rStr v55),some (1,List.map byteRow v57),some (10,[[sA v3.Name,.isl 1 (List.map rStr v3.Params),sA v3.Ret,bA v3.Static,bA v3.Abstract,iA v3.Locals,iA v3.Stack,.isl 4 (List.map rApiIns v3.Code),.isl 3 (List.map rApiMap v3.Maps),.isl 4 (List.map rApiTrap v3.Traps)]])]) ⟨[.old 0,.dead,.dead,.old 3,.old 6,.old 5],cv j0 (.mpt j0)<|cv j0 (.mpt j0)<|cn,j0,⟨⟨_,j0,rsOne ⟨.msl j0,.msl j0,j5⟩⟩,⟨_,j0,rsMap (fun _=>j0)⟩,⟨_,j0,rsMap (fun _=>j0)⟩,⟨_,j0,rsOne ⟨ci j0,ci j0,ci j0,ci j0,ci j0,ci j0,ci j0,ci j0,ci j0,ci j0,j5⟩⟩,j5⟩,j0,j1⟩<|r_nil ?_
   refine rg j0<|u<|asg j0<|r_nil ?_
   obtain ⟨o,ho,h⟩:=bs h
   refine sw_lpl (X:=(List (List UInt8)) × (List UInt8) × Int) (B:=(List (List UInt8)) × (List UInt8)) (R:=(List (List UInt8)) × (List UInt8)) (fun z=>[(0,.mpt 0 0 0),(3,.mpt 5 0 0),(6,iA z.2.2)]) (fun z=>[some (2,[[.msl 3 0 (List.length z.1),.msl 4 0 (List.length z.2.1)]]),none,none,some (1,List.map rStr z.1),some (1,List.map byteRow z.2.1),some (10,[[sA v3.Name,.isl 1 (List.map rStr v3.Params),sA v3.Ret,bA v3.Static,bA v3.Abstract,iA v3.Locals,iA v3.Stack,.isl 4 (List.map rApiIns v3.Code),.isl 3 (List.map rApiMap v3.Maps),.isl 4 (List.map rApiTrap v3.Traps)]])]) (fun b=>[]) (fun b=>[some (2,[[.msl 3 0 (List.length b.1),.msl 4 0 (List.length b.2)]]),none,none,some (1,List.map rStr b.1),some (1,List.map byteRow b.2)]) (fun r env st=>PostF Tryz.prog Tryz.f60 3 (.tup []) [some (2,[[.msl 3 0 (List.length r.1),.msl 4 0 (List.length r.2)]]),none,none,some (1,List.map rStr r.1),some (1,List.map byteRow r.2)] env st) ho ⟨[.old 0,.dead,.dead,.old 3,.old 4,.old 5],cv j0 (.mpt j0)<|cv j0 (.mpt j0)<|ce j0 j0<|cn,j0,⟨⟨_,j0,rsOne ⟨.msl j0,.msl j0,j5⟩⟩,⟨_,j0,rsMap (fun _=>j0)⟩,⟨_,j0,rsMap (fun _=>j0)⟩,⟨_,j0,rsOne ⟨ci j0,ci j0,ci j0,ci j0,ci j0,ci j0,ci j0,ci j0,ci j0,ci j0,j5⟩⟩,j5⟩,j0,j1⟩ ?_ ?_ ?_
   ·
    rintro ⟨v66,v67,v68⟩ r h
    replace h : ref3_writer_method_l5 v3 v66 v67 v68 = some r:=h
    unfold ref3_writer_method_l5 at h
    refine sw_seq ?_
    refine rg j0<|u<|mv j0<|u<|fa ti35 j0 j0 j0<|u<|ld ti33 j0 j0<|u<|lnI ti33 j0 j0<|u<|lss ti3 j0 j0<|r_nil ?_
    refine sw_cond j0 (fun hc49=>?_) (fun hc49=>?_)
    ·
     replace h:=bT hc49 h
     refine sw_skip ?_
     refine sw_seq ?_
     refine sw_block ?_
     obtain ⟨v69,q50,h⟩:=bs h
     refine rg j0<|u<|fa ti35 j0 j0 j0<|u<|ld ti33 j0 j0<|u<|mv j0<|u<|ixI ti33 j0 ti113 j0 j0 j0 q50<|u<|ldI ti113 j0 (idx_some q50).2.2 j0<|u<|al 6 ti113 j0<|u<|sto ti113 j0 j0 j0<|r_nil ?_
     obtain ⟨v70,q51,h⟩:=bs h
     refine rg j0<|u<|mv j0<|u<|fa ti113 j0 j0 j0<|u<|ld ti3 j0 j0<|u<|sc [0,3,4] (ref3_writer_num_ok v66 v67 v69.From q51) j0 j0 j0 j0 ⟨(.mpt j0),(rnI j0),j5⟩ ⟨⟨_,j0,⟨(.msl j0),(.msl j0),j5⟩⟩,⟨j0,mkI (fun _=>j0)⟩,⟨j0,mkI (fun _=>j0)⟩,j5⟩<|r_can (env0:=[(0,.mpt 0 0 0),(3,.mpt 5 0 0),(6,iA v68),(7,.mpt 6 0 0)]) (st0:=[some (2,[[.msl 3 0 (List.length v66),.msl 4 0 (List.length v70)]]),none,none,some (1,List.map rStr v66),some (1,List.map byteRow v70),some (10,[[sA v3.Name,.isl 1 (List.map rStr v3.Params),sA v3.Ret,bA v3.Static,bA v3.Abstract,iA v3.Locals,iA v3.Stack,.isl 4 (List.map rApiIns v3.Code),.isl 3 (List.map rApiMap v3.Maps),.isl 4 (List.map rApiTrap v3.Traps)]]),some (4,[[iA v69.From,iA v69.To,iA v69.At,sA v69.C]])]) ⟨[.old 0,.dead,.dead,.old 3,.old 7,.old 5,.old 6],cv j0 (.mpt j0)<|cv j0 (.mpt j0)<|ce j0 j0<|cv j0 (.mpt j0)<|cn,j0,⟨⟨_,j0,rsOne ⟨.msl j0,.msl j0,j5⟩⟩,⟨_,j0,rsMap (fun _=>j0)⟩,⟨_,j0,rsMap (fun _=>j0)⟩,⟨_,j0,rsOne ⟨ci j0,ci j0,ci j0,ci j0,ci j0,ci j0,ci j0,ci j0,ci j0,ci j0,j5⟩⟩,⟨_,j0,rsOne ⟨ci j0,ci j0,ci j0,ci j0,j5⟩⟩,j5⟩,j0,j1⟩<|r_nil ?_
     obtain ⟨v71,q52,h⟩:=bs h
     refine rg j0<|u<|mv j0<|u<|fa ti113 j0 j0 j0<|u<|ld ti3 j0 j0<|u<|sc [0,3,4] (ref3_writer_num_ok v66 v70 v69.To q52) j0 j0 j0 j0 ⟨(.mpt j0),(rnI j0),j5⟩ ⟨⟨_,j0,⟨(.msl j0),(.msl j0),j5⟩⟩,⟨j0,mkI (fun _=>j0)⟩,⟨j0,mkI (fun _=>j0)⟩,j5⟩<|r_can (env0:=[(0,.mpt 0 0 0),(3,.mpt 5 0 0),(6,iA v68),(7,.mpt 6 0 0)]) (st0:=[some (2,[[.msl 3 0 (List.length v66),.msl 4 0 (List.length v71)]]),none,none,some (1,List.map rStr v66),some (1,List.map byteRow v71),some (10,[[sA v3.Name,.isl 1 (List.map rStr v3.Params),sA v3.Ret,bA v3.Static,bA v3.Abstract,iA v3.Locals,iA v3.Stack,.isl 4 (List.map rApiIns v3.Code),.isl 3 (List.map rApiMap v3.Maps),.isl 4 (List.map rApiTrap v3.Traps)]]),some (4,[[iA v69.From,iA v69.To,iA v69.At,sA v69.C]])]) ⟨[.old 0,.dead,.dead,.old 3,.old 7,.old 5,.old 6],cv j0 (.mpt j0)<|cv j0 (.mpt j0)<|ce j0 j0<|cv j0 (.mpt j0)<|cn,j0,⟨⟨_,j0,rsOne ⟨.msl j0,.msl j0,j5⟩⟩,⟨_,j0,rsMap (fun _=>j0)⟩,⟨_,j0,rsMap (fun _=>j0)⟩,⟨_,j0,rsOne ⟨ci j0,ci j0,ci j0,ci j0,ci j0,ci j0,ci j0,ci j0,ci j0,ci j0,j5⟩⟩,⟨_,j0,rsOne ⟨ci j0,ci j0,ci j0,ci j0,j5⟩⟩,j5⟩,j0,j1⟩<|r_nil ?_
     obtain ⟨v72,q53,h⟩:=bs h
     refine rg j0<|u<|mv j0<|u<|fa ti113 j0 j0 j0<|u<|ld ti3 j0 j0<|u<|sc [0,3,4] (ref3_writer_num_ok v66 v71 v69.At q53) j0 j0 j0 j0 ⟨(.mpt j0),(rnI j0),j5⟩ ⟨⟨_,j0,⟨(.msl j0),(.msl j0),j5⟩⟩,⟨j0,mkI (fun _=>j0)⟩,⟨j0,mkI (fun _=>j0)⟩,j5⟩<|r_can (env0:=[(0,.mpt 0 0 0),(3,.mpt 5 0 0),(6,iA v68),(7,.mpt 6 0 0)]) (st0:=[some (2,[[.msl 3 0 (List.length v66),.msl 4 0 (List.length v72)]]),none,none,some (1,List.map rStr v66),some (1,List.map byteRow v72),some (10,[[sA v3.Name,.isl 1 (List.map rStr v3.Params),sA v3.Ret,bA v3.Static,bA v3.Abstract,iA v3.Locals,iA v3.Stack,.isl 4 (List.map rApiIns v3.Code),.isl 3 (List.map rApiMap v3.Maps),.isl 4 (List.map rApiTrap v3.Traps)]]),some (4,[[iA v69.From,iA v69.To,iA v69.At,sA v69.C]])]) ⟨[.old 0,.dead,.dead,.old 3,.old 7,.old 5,.old 6],cv j0 (.mpt j0)<|cv j0 (.mpt j0)<|ce j0 j0<|cv j0 (.mpt j0)<|cn,j0,⟨⟨_,j0,rsOne ⟨.msl j0,.msl j0,j5⟩⟩,⟨_,j0,rsMap (fun _=>j0)⟩,⟨_,j0,rsMap (fun _=>j0)⟩,⟨_,j0,rsOne ⟨ci j0,ci j0,ci j0,ci j0,ci j0,ci j0,ci j0,ci j0,ci j0,ci j0,j5⟩⟩,⟨_,j0,rsOne ⟨ci j0,ci j0,ci j0,ci j0,j5⟩⟩,j5⟩,j0,j1⟩<|r_nil ?_
     obtain ⟨v73,q54,h⟩:=bs h
     refine rl j0<|u<|mv j0<|u<|fa ti113 j0 j0 j0<|u<|ld ti9 j0 j0<|u<|sc [0,3,4] (ref3_writer_text_ok v66 v72 v69.C q54) j0 j0 j0 j0 ⟨(.mpt j0),(rnI j0),j5⟩ ⟨⟨_,j0,⟨(.msl j0),(.msl j0),j5⟩⟩,⟨j0,mkI (fun _=>j0)⟩,⟨j0,mkI (fun _=>j0)⟩,j5⟩<|r_can (env0:=[(0,.mpt 0 0 0),(3,.mpt 5 0 0),(6,iA v68)]) (st0:=[some (2,[[.msl 3 0 (List.length v73.1),.msl 4 0 (List.length v73.2)]]),none,none,some (1,List.map rStr v73.1),some (1,List.map byteRow v73.2),some (10,[[sA v3.Name,.isl 1 (List.map rStr v3.Params),sA v3.Ret,bA v3.Static,bA v3.Abstract,iA v3.Locals,iA v3.Stack,.isl 4 (List.map rApiIns v3.Code),.isl 3 (List.map rApiMap v3.Maps),.isl 4 (List.map rApiTrap v3.Traps)]])]) ⟨[.old 0,.dead,.dead,.old 7,.old 8,.old 5],cv j0 (.mpt j0)<|cv j0 (.mpt j0)<|ce j0 j0<|cn,j0,⟨⟨_,j0,rsOne ⟨.msl j0,.msl j0,j5⟩⟩,⟨_,j0,rsMap (fun _=>j0)⟩,⟨_,j0,rsMap (fun _=>j0)⟩,⟨_,j0,rsOne ⟨ci j0,ci j0,ci j0,ci j0,ci j0,ci j0,ci j0,ci j0,ci j0,ci j0,j5⟩⟩,j5⟩,j0,j1⟩<|r_nil ?_
     refine rl j0<|u<|mv j0<|u<|add ti3 j0 j0<|u<|asg j0<|r_nil ?_
     obtain rfl:=sm h
     exact ⟨_,j0,[.old 0,.dead,.dead,.old 3,.old 4,.old 5],cv j0 (.mpt j0)<|cv j0 (.mpt j0)<|ce j0 j0<|cn,j0,⟨⟨_,j0,rsOne ⟨.msl j0,.msl j0,j5⟩⟩,⟨_,j0,rsMap (fun _=>j0)⟩,⟨_,j0,rsMap (fun _=>j0)⟩,⟨_,j0,rsOne ⟨ci j0,ci j0,ci j0,ci j0,ci j0,ci j0,ci j0,ci j0,ci j0,ci j0,j5⟩⟩,j5⟩,j0,j1⟩
    ·
     replace h:=bF hc49 h
     refine sw_exit ?_
     obtain rfl:=sm h
     exact ⟨j0,_,j0,[.old 0,.dead,.dead,.old 3,.old 4],cn,j0,⟨⟨_,j0,rsOne ⟨.msl j0,.msl j0,j5⟩⟩,⟨_,j0,rsMap (fun _=>j0)⟩,⟨_,j0,rsMap (fun _=>j0)⟩,j5⟩,j0,j1⟩
   ·
    rintro ⟨v74,v75⟩ rfl
    replace h : ref3_writer_method_k6 v74 v75 = some r:=h
    unfold ref3_writer_method_k6 at h
    refine ow_intro ?_
    obtain rfl:=sm h
    exact ⟨_,j0,[.old 0,.dead,.dead,.old 3,.old 4],rsTup j5,j0,⟨⟨_,j0,rsOne ⟨.msl j0,.msl j0,j5⟩⟩,⟨_,j0,rsMap (fun _=>j0)⟩,⟨_,j0,rsMap (fun _=>j0)⟩,j5⟩,j0,j1⟩
   ·
    rintro r' rfl env st hp
    obtain rfl:=sm h
    exact hp
  ·
   rintro r' rfl env st hp
   obtain rfl:=sm h
   exact hp
 ·
  rintro r' rfl env st hp
  obtain rfl:=sm h
  exact hp
def ref3_Bytes_k6 (v39 : List UInt8) (v52 : List UInt8) : Option ((List UInt8)) :=
  (appP 1 v52 v39).bind fun v53=>some v53
def ref3_Bytes_l5 (v38 : List (List UInt8)) (v47 : List UInt8) (v48 : Int) : Option (Sum ((List UInt8) × Int) (Sum ((List UInt8)) ((List UInt8)))) :=
  cond (decide (v48 < ((List.length v38) : Int))) ((idx v38 v48).bind fun v49=>(ref1_PutText v49).bind fun v50=>(appP 1 v47 v50).bind fun v51=>some (.inl (v51,(IntKind.i64.wrap (v48 + 1))))) (some (.inr (.inl v47)))
def ref3_Bytes_k4 (v38 : List (List UInt8)) (v39 : List UInt8) : Option ((List UInt8)) :=
  (ref1_Put ((List.length v38) : Int)).bind fun v40=>(appP 1 [(74 : UInt8),(65 : UInt8),(86 : UInt8),(65 : UInt8)] v40).bind fun v41=>(loopP (fun z=>ref3_Bytes_l5 v38 z.1 z.2) (v41,0)).bind fun o=>leave o (fun b=>ref3_Bytes_k6 v39 b) some
def ref3_Bytes_l3 (v1 : ApiClass) (v33 : List (List UInt8)) (v34 : List UInt8) (v35 : Int) : Option (Sum ((List (List UInt8)) × (List UInt8) × Int) (Sum ((List (List UInt8)) × (List UInt8)) ((List UInt8)))) :=
  cond (decide (v35 < (List.length v1.Methods : Int))) ((idx v1.Methods v35).bind fun v36=>(ref3_writer_method v33 v34 v36).bind fun v37=>some (.inl (v37.1,v37.2,(IntKind.i64.wrap (v35 + 1))))) (some (.inr (.inl (v33,v34))))
def ref3_Bytes_k2 (v1 : ApiClass) (v25 : List (List UInt8)) (v26 : List UInt8) : Option ((List UInt8)) :=
  (ref3_writer_num v25 v26 (List.length v1.Methods : Int)).bind fun v27=>(loopP (fun z=>ref3_Bytes_l3 v1 z.1 z.2.1 z.2.2) (v25,v27,0)).bind fun o=>leave o (fun b=>ref3_Bytes_k4 b.1 b.2) some
def ref3_Bytes_l1 (v1 : ApiClass) (v16 : List (List UInt8)) (v17 : List UInt8) (v18 : Int) : Option (Sum ((List (List UInt8)) × (List UInt8) × Int) (Sum ((List (List UInt8)) × (List UInt8)) ((List UInt8)))) :=
  cond (decide (v18 < (List.length v1.Fields : Int))) ((idx v1.Fields v18).bind fun v19=>(ref3_writer_text v16 v17 v19.Name).bind fun v20=>(idx v1.Fields v18).bind fun v21=>(ref3_writer_text v20.1 v20.2 v21.Type_).bind fun v22=>(idx v1.Fields v18).bind fun v23=>(ref3_writer_truth v22.1 v22.2 v23.Static).bind fun v24=>some (.inl (v22.1,v24,(IntKind.i64.wrap (v18 + 1))))) (some (.inr (.inl (v16,v17))))
def ref3_Bytes (v1 : ApiClass) : Option ((List UInt8)) :=
  (ref3_writer_text [] [] v1.Name).bind fun v2=>(ref3_writer_text v2.1 v2.2 v1.Super).bind fun v3=>(ref3_writer_truth v3.1 v3.2 v1.Interface).bind fun v4=>(ref3_writer_texts v3.1 v4 v1.Impl).bind fun v5=>(ref3_writer_num v5.1 v5.2 (List.length v1.Fields : Int)).bind fun v6=>(loopP (fun z=>ref3_Bytes_l1 v1 z.1 z.2.1 z.2.2) (v5.1,v6,0)).bind fun o=>leave o (fun b=>ref3_Bytes_k2 v1 b.1 b.2) some
theorem ref3_Bytes_ok (v1 : ApiClass) {r : (List UInt8)} (h : ref3_Bytes v1 = some r) : SC Tryz.prog 16 [.agg [sA v1.Name,sA v1.Super,bA v1.Interface,.isl 1 (List.map rStr v1.Impl),.isl 3 (List.map rApiField v1.Fields),.isl 10 (List.map rApiMethod v1.Methods)]] [] (.msl 0 0 (List.length r)) [.many 1 (List.map byteRow r)]:=by
 refine ⟨⟨sbOk (sz:=1) (fun _=>j0),j5⟩,scall_fn Tryz.func16 j0 (by kernel_rfl) j0 ?_⟩
 unfold ref3_Bytes at h
 refine rg j0<|u<|bx 0 6 j0 j0 j0 j0<|u<|asg j0<|r_nil ?_
 refine rg j0<|u<|bd ti83 j0 j0 j0<|u<|bx 1 2 j0 j0 j0 j0<|u<|asg j0<|r_nil ?_
 obtain ⟨v2,q1,h⟩:=bs h
 refine rg j0<|u<|mv j0<|u<|fa ti28 j0 j0 j0<|u<|ld ti9 j0 j0<|ph 1<|ph 1<|u<|sc [1,2,3] (ref3_writer_text_ok [] [] v1.Name q1) j0 j0 j0 j0 ⟨(.mpt j0),(rnI j0),j5⟩ ⟨⟨_,j0,⟨(.nil0 j0),(.nil0 j0),j5⟩⟩,⟨j0,mkI (fun _=>j0)⟩,⟨j0,mkI (fun _=>j0)⟩,j5⟩<|r_can (env0:=[(1,.mpt 0 0 0),(3,.mpt 1 0 0)]) (st0:=[some (6,[[sA v1.Name,sA v1.Super,bA v1.Interface,.isl 1 (List.map rStr v1.Impl),.isl 3 (List.map rApiField v1.Fields),.isl 10 (List.map rApiMethod v1.Methods)]]),some (2,[[.msl 2 0 (List.length v2.1),.msl 3 0 (List.length v2.2)]]),some (1,List.map rStr v2.1),some (1,List.map byteRow v2.2)]) ⟨[.old 0,.old 1,.old 4,.old 5],cv j0 (.mpt j0)<|cv j0 (.mpt j0)<|cn,j0,⟨⟨_,j0,rsOne ⟨ci j0,ci j0,ci j0,ci j0,ci j0,ci j0,j5⟩⟩,⟨_,j0,rsOne ⟨.msl j0,.msl j0,j5⟩⟩,⟨_,j0,rsMap (fun _=>j0)⟩,⟨_,j0,rsMap (fun _=>j0)⟩,j5⟩,j0,j1⟩<|r_nil ?_
 obtain ⟨v3,q2,h⟩:=bs h
 refine rg j0<|u<|mv j0<|u<|fa ti28 j0 j0 j0<|u<|ld ti9 j0 j0<|u<|sc [1,2,3] (ref3_writer_text_ok v2.1 v2.2 v1.Super q2) j0 j0 j0 j0 ⟨(.mpt j0),(rnI j0),j5⟩ ⟨⟨_,j0,⟨(.msl j0),(.msl j0),j5⟩⟩,⟨j0,mkI (fun _=>j0)⟩,⟨j0,mkI (fun _=>j0)⟩,j5⟩<|r_can (env0:=[(1,.mpt 0 0 0),(3,.mpt 1 0 0)]) (st0:=[some (6,[[sA v1.Name,sA v1.Super,bA v1.Interface,.isl 1 (List.map rStr v1.Impl),.isl 3 (List.map rApiField v1.Fields),.isl 10 (List.map rApiMethod v1.Methods)]]),some (2,[[.msl 2 0 (List.length v3.1),.msl 3 0 (List.length v3.2)]]),some (1,List.map rStr v3.1),some (1,List.map byteRow v3.2)]) ⟨[.old 0,.old 1,.old 4,.old 5],cv j0 (.mpt j0)<|cv j0 (.mpt j0)<|cn,j0,⟨⟨_,j0,rsOne ⟨ci j0,ci j0,ci j0,ci j0,ci j0,ci j0,j5⟩⟩,⟨_,j0,rsOne ⟨.msl j0,.msl j0,j5⟩⟩,⟨_,j0,rsMap (fun _=>j0)⟩,⟨_,j0,rsMap (fun _=>j0)⟩,j5⟩,j0,j1⟩<|r_nil ?_
 obtain ⟨v4,q3,h⟩:=bs h
 refine rg j0<|u<|mv j0<|u<|fa ti28 j0 j0 j0<|u<|ld ti4 j0 j0<|u<|sc [1,2,3] (ref3_writer_truth_ok v3.1 v3.2 v1.Interface q3) j0 j0 j0 j0 ⟨(.mpt j0),(rnI j0),j5⟩ ⟨⟨_,j0,⟨(.msl j0),(.msl j0),j5⟩⟩,⟨j0,mkI (fun _=>j0)⟩,⟨j0,mkI (fun _=>j0)⟩,j5⟩<|r_can (env0:=[(1,.mpt 0 0 0),(3,.mpt 1 0 0)]) (st0:=[some (6,[[sA v1.Name,sA v1.Super,bA v1.Interface,.isl 1 (List.map rStr v1.Impl),.isl 3 (List.map rApiField v1.Fields),.isl 10 (List.map rApiMethod v1.Methods)]]),some (2,[[.msl 2 0 (List.length v3.1),.msl 3 0 (List.length v4)]]),some (1,List.map rStr v3.1),some (1,List.map byteRow v4)]) ⟨[.old 0,.old 1,.old 2,.old 4],cv j0 (.mpt j0)<|cv j0 (.mpt j0)<|cn,j0,⟨⟨_,j0,rsOne ⟨ci j0,ci j0,ci j0,ci j0,ci j0,ci j0,j5⟩⟩,⟨_,j0,rsOne ⟨.msl j0,.msl j0,j5⟩⟩,⟨_,j0,rsMap (fun _=>j0)⟩,⟨_,j0,rsMap (fun _=>j0)⟩,j5⟩,j0,j1⟩<|r_nil ?_
 obtain ⟨v5,q4,h⟩:=bs h
 refine rg j0<|u<|mv j0<|u<|fa ti28 j0 j0 j0<|u<|ld ti24 j0 j0<|u<|sc [1,2,3] (ref3_writer_texts_ok v3.1 v4 v1.Impl q4) j0 j0 j0 j0 ⟨(.mpt j0),(rnI j0),j5⟩ ⟨⟨_,j0,⟨(.msl j0),(.msl j0),j5⟩⟩,⟨j0,mkI (fun _=>j0)⟩,⟨j0,mkI (fun _=>j0)⟩,j5⟩<|r_can (env0:=[(1,.mpt 0 0 0),(3,.mpt 1 0 0)]) (st0:=[some (6,[[sA v1.Name,sA v1.Super,bA v1.Interface,.isl 1 (List.map rStr v1.Impl),.isl 3 (List.map rApiField v1.Fields),.isl 10 (List.map rApiMethod v1.Methods)]]),some (2,[[.msl 2 0 (List.length v5.1),.msl 3 0 (List.length v5.2)]]),some (1,List.map rStr v5.1),some (1,List.map byteRow v5.2)]) ⟨[.old 0,.old 1,.old 4,.old 5],cv j0 (.mpt j0)<|cv j0 (.mpt j0)<|cn,j0,⟨⟨_,j0,rsOne ⟨ci j0,ci j0,ci j0,ci j0,ci j0,ci j0,j5⟩⟩,⟨_,j0,rsOne ⟨.msl j0,.msl j0,j5⟩⟩,⟨_,j0,rsMap (fun _=>j0)⟩,⟨_,j0,rsMap (fun _=>j0)⟩,j5⟩,j0,j1⟩<|r_nil ?_
 obtain ⟨v6,q5,h⟩:=bs h
 refine rg j0<|u<|mv j0<|u<|fa ti28 j0 j0 j0<|u<|ld ti25 j0 j0<|u<|lnI ti25 j0 j0<|u<|sc [1,2,3] (ref3_writer_num_ok v5.1 v5.2 (List.length v1.Fields : Int) q5) j0 j0 j0 j0 ⟨(.mpt j0),(rnI j0),j5⟩ ⟨⟨_,j0,⟨(.msl j0),(.msl j0),j5⟩⟩,⟨j0,mkI (fun _=>j0)⟩,⟨j0,mkI (fun _=>j0)⟩,j5⟩<|r_can (env0:=[(1,.mpt 0 0 0),(3,.mpt 1 0 0)]) (st0:=[some (6,[[sA v1.Name,sA v1.Super,bA v1.Interface,.isl 1 (List.map rStr v1.Impl),.isl 3 (List.map rApiField v1.Fields),.isl 10 (List.map rApiMethod v1.Methods)]]),some (2,[[.msl 2 0 (List.length v5.1),.msl 3 0 (List.length v6)]]),some (1,List.map rStr v5.1),some (1,List.map byteRow v6)]) ⟨[.old 0,.old 1,.old 2,.old 4],cv j0 (.mpt j0)<|cv j0 (.mpt j0)<|cn,j0,⟨⟨_,j0,rsOne ⟨ci j0,ci j0,ci j0,ci j0,ci j0,ci j0,j5⟩⟩,⟨_,j0,rsOne ⟨.msl j0,.msl j0,j5⟩⟩,⟨_,j0,rsMap (fun _=>j0)⟩,⟨_,j0,rsMap (fun _=>j0)⟩,j5⟩,j0,j1⟩<|r_nil ?_
 refine sw_seq ?_
 refine rg j0<|u<|asg j0<|r_nil ?_
 obtain ⟨o,ho,h⟩:=bs h
 refine sw_lpl (X:=(List (List UInt8)) × (List UInt8) × Int) (B:=(List (List UInt8)) × (List UInt8)) (R:=(List UInt8)) (fun z=>[(1,.mpt 0 0 0),(3,.mpt 1 0 0),(4,iA z.2.2)]) (fun z=>[some (6,[[sA v1.Name,sA v1.Super,bA v1.Interface,.isl 1 (List.map rStr v1.Impl),.isl 3 (List.map rApiField v1.Fields),.isl 10 (List.map rApiMethod v1.Methods)]]),some (2,[[.msl 2 0 (List.length z.1),.msl 3 0 (List.length z.2.1)]]),some (1,List.map rStr z.1),some (1,List.map byteRow z.2.1)]) (fun b=>[(1,.mpt 0 0 0),(3,.mpt 1 0 0)]) (fun b=>[some (6,[[sA v1.Name,sA v1.Super,bA v1.Interface,.isl 1 (List.map rStr v1.Impl),.isl 3 (List.map rApiField v1.Fields),.isl 10 (List.map rApiMethod v1.Methods)]]),some (2,[[.msl 2 0 (List.length b.1),.msl 3 0 (List.length b.2)]]),some (1,List.map rStr b.1),some (1,List.map byteRow b.2)]) (fun r env st=>PostF Tryz.prog Tryz.f16 0 (.msl 0 0 (List.length r)) [some (1,List.map byteRow r)] env st) ho ⟨[.old 0,.old 1,.old 2,.old 3],cv j0 (.mpt j0)<|cv j0 (.mpt j0)<|ce j0 j0<|cn,j0,⟨⟨_,j0,rsOne ⟨ci j0,ci j0,ci j0,ci j0,ci j0,ci j0,j5⟩⟩,⟨_,j0,rsOne ⟨.msl j0,.msl j0,j5⟩⟩,⟨_,j0,rsMap (fun _=>j0)⟩,⟨_,j0,rsMap (fun _=>j0)⟩,j5⟩,j0,j1⟩ ?_ ?_ ?_
 ·
  rintro ⟨v16,v17,v18⟩ r h
  replace h : ref3_Bytes_l1 v1 v16 v17 v18 = some r:=h
  unfold ref3_Bytes_l1 at h
  refine sw_seq ?_
  refine rg j0<|u<|mv j0<|u<|fa ti28 j0 j0 j0<|u<|ld ti25 j0 j0<|u<|lnI ti25 j0 j0<|u<|lss ti3 j0 j0<|r_nil ?_
  refine sw_cond j0 (fun hc13=>?_) (fun hc13=>?_)
  ·
   replace h:=bT hc13 h
   refine sw_skip ?_
   refine sw_seq ?_
   refine sw_block ?_
   obtain ⟨v19,q14,h⟩:=bs h
   obtain ⟨v20,q15,h⟩:=bs h
   refine rg j0<|u<|mv j0<|u<|fa ti28 j0 j0 j0<|u<|ld ti25 j0 j0<|u<|mv j0<|u<|ixI ti25 j0 ti53 j0 j0 j0 q14<|u<|fa ti53 j0 j0 j0<|u<|ldI ti9 j0 (idx_some q14).2.2 j0<|u<|sc [1,2,3] (ref3_writer_text_ok v16 v17 v19.Name q15) j0 j0 j0 j0 ⟨(.mpt j0),(rnI j0),j5⟩ ⟨⟨_,j0,⟨(.msl j0),(.msl j0),j5⟩⟩,⟨j0,mkI (fun _=>j0)⟩,⟨j0,mkI (fun _=>j0)⟩,j5⟩<|r_can (env0:=[(1,.mpt 0 0 0),(3,.mpt 1 0 0),(4,iA v18)]) (st0:=[some (6,[[sA v1.Name,sA v1.Super,bA v1.Interface,.isl 1 (List.map rStr v1.Impl),.isl 3 (List.map rApiField v1.Fields),.isl 10 (List.map rApiMethod v1.Methods)]]),some (2,[[.msl 2 0 (List.length v20.1),.msl 3 0 (List.length v20.2)]]),some (1,List.map rStr v20.1),some (1,List.map byteRow v20.2)]) ⟨[.old 0,.old 1,.old 4,.old 5],cv j0 (.mpt j0)<|cv j0 (.mpt j0)<|ce j0 j0<|cn,j0,⟨⟨_,j0,rsOne ⟨ci j0,ci j0,ci j0,ci j0,ci j0,ci j0,j5⟩⟩,⟨_,j0,rsOne ⟨.msl j0,.msl j0,j5⟩⟩,⟨_,j0,rsMap (fun _=>j0)⟩,⟨_,j0,rsMap (fun _=>j0)⟩,j5⟩,j0,j1⟩<|r_nil ?_
   obtain ⟨v21,q16,h⟩:=bs h
   obtain ⟨v22,q17,h⟩:=bs h
   refine rg j0<|u<|mv j0<|u<|fa ti28 j0 j0 j0<|u<|ld ti25 j0 j0<|u<|mv j0<|u<|ixI ti25 j0 ti53 j0 j0 j0 q16<|u<|fa ti53 j0 j0 j0<|u<|ldI ti9 j0 (idx_some q16).2.2 j0<|u<|sc [1,2,3] (ref3_writer_text_ok v20.1 v20.2 v21.Type_ q17) j0 j0 j0 j0 ⟨(.mpt j0),(rnI j0),j5⟩ ⟨⟨_,j0,⟨(.msl j0),(.msl j0),j5⟩⟩,⟨j0,mkI (fun _=>j0)⟩,⟨j0,mkI (fun _=>j0)⟩,j5⟩<|r_can (env0:=[(1,.mpt 0 0 0),(3,.mpt 1 0 0),(4,iA v18)]) (st0:=[some (6,[[sA v1.Name,sA v1.Super,bA v1.Interface,.isl 1 (List.map rStr v1.Impl),.isl 3 (List.map rApiField v1.Fields),.isl 10 (List.map rApiMethod v1.Methods)]]),some (2,[[.msl 2 0 (List.length v22.1),.msl 3 0 (List.length v22.2)]]),some (1,List.map rStr v22.1),some (1,List.map byteRow v22.2)]) ⟨[.old 0,.old 1,.old 4,.old 5],cv j0 (.mpt j0)<|cv j0 (.mpt j0)<|ce j0 j0<|cn,j0,⟨⟨_,j0,rsOne ⟨ci j0,ci j0,ci j0,ci j0,ci j0,ci j0,j5⟩⟩,⟨_,j0,rsOne ⟨.msl j0,.msl j0,j5⟩⟩,⟨_,j0,rsMap (fun _=>j0)⟩,⟨_,j0,rsMap (fun _=>j0)⟩,j5⟩,j0,j1⟩<|r_nil ?_
   obtain ⟨v23,q18,h⟩:=bs h
   obtain ⟨v24,q19,h⟩:=bs h
   refine rl j0<|u<|mv j0<|u<|fa ti28 j0 j0 j0<|u<|ld ti25 j0 j0<|u<|mv j0<|u<|ixI ti25 j0 ti53 j0 j0 j0 q18<|u<|fa ti53 j0 j0 j0<|u<|ldI ti4 j0 (idx_some q18).2.2 j0<|u<|sc [1,2,3] (ref3_writer_truth_ok v22.1 v22.2 v23.Static q19) j0 j0 j0 j0 ⟨(.mpt j0),(rnI j0),j5⟩ ⟨⟨_,j0,⟨(.msl j0),(.msl j0),j5⟩⟩,⟨j0,mkI (fun _=>j0)⟩,⟨j0,mkI (fun _=>j0)⟩,j5⟩<|r_can (env0:=[(1,.mpt 0 0 0),(3,.mpt 1 0 0),(4,iA v18)]) (st0:=[some (6,[[sA v1.Name,sA v1.Super,bA v1.Interface,.isl 1 (List.map rStr v1.Impl),.isl 3 (List.map rApiField v1.Fields),.isl 10 (List.map rApiMethod v1.Methods)]]),some (2,[[.msl 2 0 (List.length v22.1),.msl 3 0 (List.length v24)]]),some (1,List.map rStr v22.1),some (1,List.map byteRow v24)]) ⟨[.old 0,.old 1,.old 2,.old 4],cv j0 (.mpt j0)<|cv j0 (.mpt j0)<|ce j0 j0<|cn,j0,⟨⟨_,j0,rsOne ⟨ci j0,ci j0,ci j0,ci j0,ci j0,ci j0,j5⟩⟩,⟨_,j0,rsOne ⟨.msl j0,.msl j0,j5⟩⟩,⟨_,j0,rsMap (fun _=>j0)⟩,⟨_,j0,rsMap (fun _=>j0)⟩,j5⟩,j0,j1⟩<|r_nil ?_
   refine rl j0<|u<|mv j0<|u<|add ti3 j0 j0<|u<|asg j0<|r_nil ?_
   obtain rfl:=sm h
   exact ⟨_,j0,[.old 0,.old 1,.old 2,.old 3],cv j0 (.mpt j0)<|cv j0 (.mpt j0)<|ce j0 j0<|cn,j0,⟨⟨_,j0,rsOne ⟨ci j0,ci j0,ci j0,ci j0,ci j0,ci j0,j5⟩⟩,⟨_,j0,rsOne ⟨.msl j0,.msl j0,j5⟩⟩,⟨_,j0,rsMap (fun _=>j0)⟩,⟨_,j0,rsMap (fun _=>j0)⟩,j5⟩,j0,j1⟩
  ·
   replace h:=bF hc13 h
   refine sw_exit ?_
   obtain rfl:=sm h
   exact ⟨j0,_,j0,[.old 0,.old 1,.old 2,.old 3],cv j0 (.mpt j0)<|cv j0 (.mpt j0)<|cn,j0,⟨⟨_,j0,rsOne ⟨ci j0,ci j0,ci j0,ci j0,ci j0,ci j0,j5⟩⟩,⟨_,j0,rsOne ⟨.msl j0,.msl j0,j5⟩⟩,⟨_,j0,rsMap (fun _=>j0)⟩,⟨_,j0,rsMap (fun _=>j0)⟩,j5⟩,j0,j1⟩
 ·
  rintro ⟨v25,v26⟩ rfl
  replace h : ref3_Bytes_k2 v1 v25 v26 = some r:=h
  unfold ref3_Bytes_k2 at h
  refine ow_intro ?_
  obtain ⟨v27,q20,h⟩:=bs h
  refine rg j0<|u<|mv j0<|u<|fa ti28 j0 j0 j0<|u<|ld ti26 j0 j0<|u<|lnI ti26 j0 j0<|u<|sc [1,2,3] (ref3_writer_num_ok v25 v26 (List.length v1.Methods : Int) q20) j0 j0 j0 j0 ⟨(.mpt j0),(rnI j0),j5⟩ ⟨⟨_,j0,⟨(.msl j0),(.msl j0),j5⟩⟩,⟨j0,mkI (fun _=>j0)⟩,⟨j0,mkI (fun _=>j0)⟩,j5⟩<|r_can (env0:=[(1,.mpt 0 0 0),(3,.mpt 1 0 0)]) (st0:=[some (6,[[sA v1.Name,sA v1.Super,bA v1.Interface,.isl 1 (List.map rStr v1.Impl),.isl 3 (List.map rApiField v1.Fields),.isl 10 (List.map rApiMethod v1.Methods)]]),some (2,[[.msl 2 0 (List.length v25),.msl 3 0 (List.length v27)]]),some (1,List.map rStr v25),some (1,List.map byteRow v27)]) ⟨[.old 0,.old 1,.old 2,.old 4],cv j0 (.mpt j0)<|cv j0 (.mpt j0)<|cn,j0,⟨⟨_,j0,rsOne ⟨ci j0,ci j0,ci j0,ci j0,ci j0,ci j0,j5⟩⟩,⟨_,j0,rsOne ⟨.msl j0,.msl j0,j5⟩⟩,⟨_,j0,rsMap (fun _=>j0)⟩,⟨_,j0,rsMap (fun _=>j0)⟩,j5⟩,j0,j1⟩<|r_nil ?_
  refine sw_seq ?_
  refine rg j0<|u<|asg j0<|r_nil ?_
  obtain ⟨o,ho,h⟩:=bs h
  refine sw_lpl (X:=(List (List UInt8)) × (List UInt8) × Int) (B:=(List (List UInt8)) × (List UInt8)) (R:=(List UInt8)) (fun z=>[(1,.mpt 0 0 0),(3,.mpt 1 0 0),(5,iA z.2.2)]) (fun z=>[some (6,[[sA v1.Name,sA v1.Super,bA v1.Interface,.isl 1 (List.map rStr v1.Impl),.isl 3 (List.map rApiField v1.Fields),.isl 10 (List.map rApiMethod v1.Methods)]]),some (2,[[.msl 2 0 (List.length z.1),.msl 3 0 (List.length z.2.1)]]),some (1,List.map rStr z.1),some (1,List.map byteRow z.2.1)]) (fun b=>[(3,.mpt 0 0 0)]) (fun b=>[some (2,[[.msl 1 0 (List.length b.1),.msl 2 0 (List.length b.2)]]),some (1,List.map rStr b.1),some (1,List.map byteRow b.2)]) (fun r env st=>PostF Tryz.prog Tryz.f16 0 (.msl 0 0 (List.length r)) [some (1,List.map byteRow r)] env st) ho ⟨[.old 0,.old 1,.old 2,.old 3],cv j0 (.mpt j0)<|cv j0 (.mpt j0)<|ce j0 j0<|cn,j0,⟨⟨_,j0,rsOne ⟨ci j0,ci j0,ci j0,ci j0,ci j0,ci j0,j5⟩⟩,⟨_,j0,rsOne ⟨.msl j0,.msl j0,j5⟩⟩,⟨_,j0,rsMap (fun _=>j0)⟩,⟨_,j0,rsMap (fun _=>j0)⟩,j5⟩,j0,j1⟩ ?_ ?_ ?_
  ·
   rintro ⟨v33,v34,v35⟩ r h
   replace h : ref3_Bytes_l3 v1 v33 v34 v35 = some r:=h
   unfold ref3_Bytes_l3 at h
   refine sw_seq ?_
   refine rg j0<|u<|mv j0<|u<|fa ti28 j0 j0 j0<|u<|ld ti26 j0 j0<|u<|lnI ti26 j0 j0<|u<|lss ti3 j0 j0<|r_nil ?_
   refine sw_cond j0 (fun hc24=>?_) (fun hc24=>?_)
   ·
    replace h:=bT hc24 h
    refine sw_skip ?_
    refine sw_seq ?_
    refine sw_block ?_
    obtain ⟨v36,q25,h⟩:=bs h
    obtain ⟨v37,q26,h⟩:=bs h
    refine rl j0<|u<|mv j0<|u<|fa ti28 j0 j0 j0<|u<|ld ti26 j0 j0<|u<|mv j0<|u<|ixI ti26 j0 ti35 j0 j0 j0 q25<|u<|ldI ti35 j0 (idx_some q25).2.2 j0<|u<|sc [1,2,3] (ref3_writer_method_ok v33 v34 v36 q26) j0 j0 j0 j0 ⟨(.mpt j0),(rnI j0),j5⟩ ⟨⟨_,j0,⟨(.msl j0),(.msl j0),j5⟩⟩,⟨j0,mkI (fun _=>j0)⟩,⟨j0,mkI (fun _=>j0)⟩,j5⟩<|r_can (env0:=[(1,.mpt 0 0 0),(3,.mpt 1 0 0),(5,iA v35)]) (st0:=[some (6,[[sA v1.Name,sA v1.Super,bA v1.Interface,.isl 1 (List.map rStr v1.Impl),.isl 3 (List.map rApiField v1.Fields),.isl 10 (List.map rApiMethod v1.Methods)]]),some (2,[[.msl 2 0 (List.length v37.1),.msl 3 0 (List.length v37.2)]]),some (1,List.map rStr v37.1),some (1,List.map byteRow v37.2)]) ⟨[.old 0,.old 1,.old 4,.old 5],cv j0 (.mpt j0)<|cv j0 (.mpt j0)<|ce j0 j0<|cn,j0,⟨⟨_,j0,rsOne ⟨ci j0,ci j0,ci j0,ci j0,ci j0,ci j0,j5⟩⟩,⟨_,j0,rsOne ⟨.msl j0,.msl j0,j5⟩⟩,⟨_,j0,rsMap (fun _=>j0)⟩,⟨_,j0,rsMap (fun _=>j0)⟩,j5⟩,j0,j1⟩<|r_nil ?_
    refine rl j0<|u<|mv j0<|u<|add ti3 j0 j0<|u<|asg j0<|r_nil ?_
    obtain rfl:=sm h
    exact ⟨_,j0,[.old 0,.old 1,.old 2,.old 3],cv j0 (.mpt j0)<|cv j0 (.mpt j0)<|ce j0 j0<|cn,j0,⟨⟨_,j0,rsOne ⟨ci j0,ci j0,ci j0,ci j0,ci j0,ci j0,j5⟩⟩,⟨_,j0,rsOne ⟨.msl j0,.msl j0,j5⟩⟩,⟨_,j0,rsMap (fun _=>j0)⟩,⟨_,j0,rsMap (fun _=>j0)⟩,j5⟩,j0,j1⟩
   ·
    replace h:=bF hc24 h
    refine sw_exit ?_
    obtain rfl:=sm h
    exact ⟨j0,_,j0,[.old 1,.old 2,.old 3],cv j0 (.mpt j0)<|cn,j0,⟨⟨_,j0,rsOne ⟨.msl j0,.msl j0,j5⟩⟩,⟨_,j0,rsMap (fun _=>j0)⟩,⟨_,j0,rsMap (fun _=>j0)⟩,j5⟩,j0,j1⟩
  ·
   rintro ⟨v38,v39⟩ rfl
   replace h : ref3_Bytes_k4 v38 v39 = some r:=h
   unfold ref3_Bytes_k4 at h
   refine ow_intro ?_
   obtain ⟨v40,q27,h⟩:=bs h
   obtain ⟨v41,q28,h⟩:=bs h
   refine rg j0<|u<|bl 3 ti43 j0 ti5 j0 (by decide) (by decide) j0 j0 j0<|u<|cvl ti43 j0 ti5 j0 j0 j0 j0<|u<|mv j0<|u<|nc j0 j0<|u<|fa ti83 j0 j0 j0<|u<|ld ti24 j0 j0<|u<|lnM ti24 j0 j0 j0<|u<|sc [] (ref1_Put_ok ((List.length v38) : Int) q27) j0 j0 j0 j0 ⟨(rnI j0),j5⟩ j5<|u<|apM (l:=[(74 : UInt8),(65 : UInt8),(86 : UInt8),(65 : UInt8)]) (f:=byteRow) 5 ti43 j0 ti5 j0 j0 (by decide) ti43 j0 j0 j0 j0 (roM j0) (fun _=>j0) j0 q28<|u<|asg j0<|r_nil ?_
   refine sw_seq ?_
   refine rg j0<|u<|asg j0<|r_nil ?_
   obtain ⟨o,ho,h⟩:=bs h
   refine sw_lpl (X:=(List UInt8) × Int) (B:=(List UInt8)) (R:=(List UInt8)) (fun z=>[(3,.mpt 0 0 0),(6,.msl 3 0 (List.length z.1)),(7,iA z.2)]) (fun z=>[some (2,[[.msl 1 0 (List.length v38),.msl 2 0 (List.length v39)]]),some (1,List.map rStr v38),some (1,List.map byteRow v39),some (1,List.map byteRow z.1)]) (fun b=>[(3,.mpt 0 0 0),(6,.msl 3 0 (List.length b))]) (fun b=>[some (2,[[.msl 1 0 (List.length v38),.msl 2 0 (List.length v39)]]),some (1,List.map rStr v38),some (1,List.map byteRow v39),some (1,List.map byteRow b)]) (fun r env st=>PostF Tryz.prog Tryz.f16 0 (.msl 0 0 (List.length r)) [some (1,List.map byteRow r)] env st) ho ⟨[.old 0,.old 1,.old 2,.old 5],cv j0 (.mpt j0)<|cv j0 (.msl j0)<|ce j0 j0<|cn,j0,⟨⟨_,j0,rsOne ⟨.msl j0,.msl j0,j5⟩⟩,⟨_,j0,rsMap (fun _=>j0)⟩,⟨_,j0,rsMap (fun _=>j0)⟩,⟨_,j0,rsMap (fun _=>j0)⟩,j5⟩,j0,j1⟩ ?_ ?_ ?_
   ·
    rintro ⟨v47,v48⟩ r h
    replace h : ref3_Bytes_l5 v38 v47 v48 = some r:=h
    unfold ref3_Bytes_l5 at h
    refine sw_seq ?_
    refine rg j0<|u<|mv j0<|u<|mv j0<|u<|nc j0 j0<|u<|fa ti83 j0 j0 j0<|u<|ld ti24 j0 j0<|u<|lnM ti24 j0 j0 j0<|u<|lss ti3 j0 j0<|r_nil ?_
    refine sw_cond j0 (fun hc33=>?_) (fun hc33=>?_)
    ·
     replace h:=bT hc33 h
     refine sw_skip ?_
     refine sw_seq ?_
     refine sw_block ?_
     obtain ⟨v49,q34,h⟩:=bs h
     obtain ⟨v50,q35,h⟩:=bs h
     obtain ⟨v51,q36,h⟩:=bs h
     refine rl j0<|u<|mv j0<|u<|mv j0<|u<|nc j0 j0<|u<|fa ti83 j0 j0 j0<|u<|ld ti24 j0 j0<|u<|mv j0<|u<|ixM ti24 j0 ti9 j0 j0 j0 j0 q34<|u<|ldM ti9 j0 j0 (idx_some q34).2.2 j0<|u<|sc [] (ref1_PutText_ok v49 q35) j0 j0 j0 j0 ⟨(rnI j0),j5⟩ j5<|r_can (env0:=[(3,.mpt 0 0 0),(7,iA v48),(99,.msl 3 0 (List.length v47)),(107,.msl 4 0 (List.length v50))]) (st0:=[some (2,[[.msl 1 0 (List.length v38),.msl 2 0 (List.length v39)]]),some (1,List.map rStr v38),some (1,List.map byteRow v39),some (1,List.map byteRow v47),some (1,List.map byteRow v50)]) ⟨[.old 0,.old 1,.old 2,.old 3,.old 4],cv j0 (.mpt j0)<|ce j0 j0<|cv j0 (.msl j0)<|cv j0 (.msl j0)<|cn,j0,⟨⟨_,j0,rsOne ⟨.msl j0,.msl j0,j5⟩⟩,⟨_,j0,rsMap (fun _=>j0)⟩,⟨_,j0,rsMap (fun _=>j0)⟩,⟨_,j0,rsMap (fun _=>j0)⟩,⟨_,j0,rsMap (fun _=>j0)⟩,j5⟩,j0,j1⟩<|u<|apM 5 ti43 j0 ti5 j0 j0 (by decide) ti43 j0 j0 j0 j0 (roM j0) (fun _=>j0) j0 q36<|u<|asg j0<|r_nil ?_
     refine rl j0<|u<|mv j0<|u<|add ti3 j0 j0<|u<|asg j0<|r_nil ?_
     obtain rfl:=sm h
     exact ⟨_,j0,[.old 0,.old 1,.old 2,.old 5],cv j0 (.mpt j0)<|cv j0 (.msl j0)<|ce j0 j0<|cn,j0,⟨⟨_,j0,rsOne ⟨.msl j0,.msl j0,j5⟩⟩,⟨_,j0,rsMap (fun _=>j0)⟩,⟨_,j0,rsMap (fun _=>j0)⟩,⟨_,j0,rsMap (fun _=>j0)⟩,j5⟩,j0,j1⟩
    ·
     replace h:=bF hc33 h
     refine sw_exit ?_
     obtain rfl:=sm h
     exact ⟨j0,_,j0,[.old 0,.old 1,.old 2,.old 3],cv j0 (.mpt j0)<|cv j0 (.msl j0)<|cn,j0,⟨⟨_,j0,rsOne ⟨.msl j0,.msl j0,j5⟩⟩,⟨_,j0,rsMap (fun _=>j0)⟩,⟨_,j0,rsMap (fun _=>j0)⟩,⟨_,j0,rsMap (fun _=>j0)⟩,j5⟩,j0,j1⟩
   ·
    rintro v52 rfl
    replace h : ref3_Bytes_k6 v39 v52 = some r:=h
    unfold ref3_Bytes_k6 at h
    refine ow_intro ?_
    obtain ⟨v53,q37,h⟩:=bs h
    refine rg j0<|u<|mv j0<|u<|mv j0<|u<|nc j0 j0<|u<|fa ti83 j0 j0 j0<|u<|ld ti43 j0 j0<|u<|apM 4 ti43 j0 ti5 j0 j0 (by decide) ti43 j0 j0 j0 j0 (roM j0) (fun _=>j0) j0 q37<|u<|asg j0<|r_nil ?_
    refine sw_ret ?_
    obtain rfl:=sm h
    exact ⟨_,j0,[.old 4],.msl j0,j0,⟨⟨_,j0,rsMap (fun _=>j0)⟩,j5⟩,j0,j1⟩
   ·
    rintro r' rfl env st hp
    obtain rfl:=sm h
    exact hp
  ·
   rintro r' rfl env st hp
   obtain rfl:=sm h
   exact hp
 ·
  rintro r' rfl env st hp
  obtain rfl:=sm h
  exact hp
end
end Go.Proofs.YtdhpdpkcfffpiaaGreat
namespace Go.Proofs.YtdhpdpkcfffpiaaGreat
noncomputable section
set_option linter.unusedSimpArgs false
set_option linter.unusedVariables false
set_option maxRecDepth 100000
set_option maxHeartbeats 4000000
def strings_HasPrefix (v1 : List UInt8) (v2 : List UInt8) : Option (Bool) :=
  (internal_stringslite_HasPrefix v1 v2).bind fun v3=>some v3
theorem strings_HasPrefix_ok (v1 : List UInt8) (v2 : List UInt8) {r : Bool} (h : strings_HasPrefix v1 v2 = some r) : PureC Tryz.prog 63 [sA v1,sA v2] (bA r):=by
 refine pure_fn Tryz.func63 j0 (by kernel_rfl) j0 j0 ?_
 unfold strings_HasPrefix at h
 refine rg j0<|u<|asg j0<|r_nil ?_
 obtain ⟨v3,q1,h⟩:=bs h
 refine rg j0<|u<|mv j0<|u<|mv j0<|u<|pc (internal_stringslite_HasPrefix_ok v1 v2 q1) j0 j0 j0<|u<|asg j0<|r_nil ?_
 refine sw_ret ?_
 obtain rfl:=sm h
 exact ⟨_,j0,[],ci j0,j0,j5,j0,j1⟩
def file_reader_skip (v1 : List (List UInt8)) (v2 : List UInt8) (v3 : Bool) (v4 : Int) (v5 : Int) : Option ((List UInt8)) :=
  cond (!(v3 || (!(v5 == (0 : Int))))) ((cutP v2 v4 (List.length v2 : Int)).bind fun v6=>some v6) (some v2)
theorem file_reader_skip_ok (v1 : List (List UInt8)) (v2 : List UInt8) (v3 : Bool) (v4 : Int) (v5 : Int) {r : (List UInt8)} (h : file_reader_skip v1 v2 v3 v4 v5 = some r) : SC Tryz.prog 120 [.mpt 0 0 0,iA v4,iA v5] [.one 3 [.msl 1 0 (List.length v1),.isl 1 (List.map byteRow v2),bA v3],.many 1 (List.map rStr v1)] (.tup []) [.one 3 [.msl 1 0 (List.length v1),.isl 1 (List.map byteRow r),bA (v3 || (!(v5 == (0 : Int))))],.many 1 (List.map rStr v1)]:=by
 refine ⟨⟨j5,sbOk (sz:=1) (fun _=>j0),j5⟩,scall_fn Tryz.func120 j0 (by kernel_rfl) j0 ?_⟩
 unfold file_reader_skip at h
 refine rg j0<|u<|mv j0<|u<|mv j0<|u<|nc j0 j0<|u<|fa ti91 j0 j0 j0<|u<|ld ti4 j0 j0<|u<|mv j0<|r_or (j:=5) 2 j0 j0 j0 j0 j0 gpn (fun hb1=>g j0 hb1<|mv j0<|g j0 hb1<|neq ti45 j0 j0<|r_nil (egO [12,13] 2 hb1 j0 j0 j0 j0)) orT<|u<|nc j0 j0<|u<|fa ti91 j0 j0 j0<|u<|sto ti4 j0 j0 j0<|r_nil ?_
 refine rg j0<|u<|mv j0<|u<|nc j0 j0<|u<|fa ti91 j0 j0 j0<|u<|ld ti4 j0 j0<|u<|nt j0<|r_nil ?_
 refine sw_cond j0 (fun hc2=>?_) (fun hc2=>?_)
 ·
  replace h:=bT hc2 h
  obtain ⟨v6,q3,h⟩:=bs h
  refine rl j0<|u<|mv j0<|u<|mv j0<|u<|nc j0 j0<|u<|fa ti91 j0 j0 j0<|u<|ld ti43 j0 j0<|u<|mv j0<|u<|slI (a:=v4) (b:=(List.length v2 : Int)) ti43 j0 ti5 j0 j0 (bnd_lo j0 q3) j0 q3<|u<|nc j0 j0<|u<|fa ti91 j0 j0 j0<|u<|sto ti43 j0 j0 j0<|r_nil ?_
  obtain rfl:=sm h
  exact ⟨_,j0,[.old 0,.old 1],rsTup j5,j0,⟨⟨_,j0,rsOne ⟨.msl j0,ci j0,ci j0,j5⟩⟩,⟨_,j0,rsMap (fun _=>j0)⟩,j5⟩,j0,j1⟩
 ·
  replace h:=bF hc2 h
  refine sw_skip ?_
  obtain rfl:=sm h
  exact ⟨_,j0,[.old 0,.old 1],rsTup j5,j0,⟨⟨_,j0,rsOne ⟨.msl j0,ci j0,ci j0,j5⟩⟩,⟨_,j0,rsMap (fun _=>j0)⟩,j5⟩,j0,j1⟩
def file_reader_num (v1 : List (List UInt8)) (v2 : List UInt8) (v3 : Bool) : Option (Int × (List UInt8) × Bool) :=
  (num_Get v2).bind fun v4=>(file_reader_skip v1 v2 v3 v4.2.1 v4.2.2).bind fun v5=>cond (v3 || (!(v4.2.2 == (0 : Int)))) (some (0,v5,(v3 || (!(v4.2.2 == (0 : Int)))))) (some (v4.1,v5,(v3 || (!(v4.2.2 == (0 : Int))))))
theorem file_reader_num_ok (v1 : List (List UInt8)) (v2 : List UInt8) (v3 : Bool) {r : Int × (List UInt8) × Bool} (h : file_reader_num v1 v2 v3 = some r) : SC Tryz.prog 118 [.mpt 0 0 0] [.one 3 [.msl 1 0 (List.length v1),.isl 1 (List.map byteRow v2),bA v3],.many 1 (List.map rStr v1)] (iA r.1) [.one 3 [.msl 1 0 (List.length v1),.isl 1 (List.map byteRow r.2.1),bA r.2.2],.many 1 (List.map rStr v1)]:=by
 refine ⟨⟨j5,sbOk (sz:=1) (fun _=>j0),j5⟩,scall_fn Tryz.func118 j0 (by kernel_rfl) j0 ?_⟩
 unfold file_reader_num at h
 refine rg j0<|u<|asg j0<|r_nil ?_
 obtain ⟨v4,q1,h⟩:=bs h
 refine rg j0<|u<|mv j0<|u<|nc j0 j0<|u<|fa ti91 j0 j0 j0<|u<|ld ti43 j0 j0<|u<|pc (num_Get_ok v2 q1) j0 j0 j0<|u<|mv j0<|u<|ex j0 j0<|u<|ex j0 j0<|u<|ex j0 j0<|u<|asg j0<|u<|asg j0<|u<|asg j0<|r_nil ?_
 refine sw_seq ?_
 obtain ⟨v5,q2,h⟩:=bs h
 refine rg j0<|u<|mv j0<|u<|mv j0<|u<|mv j0<|u<|sc [0,1] (file_reader_skip_ok v1 v2 v3 v4.2.1 v4.2.2 q2) j0 j0 j0 j0 ⟨(.mpt j0),(rnI j0),(rnI j0),j5⟩ ⟨⟨_,j0,⟨(.msl j0),(rnI j0),(rnI j0),j5⟩⟩,⟨j0,mkI (fun _=>j0)⟩,j5⟩<|r_can (env0:=[(0,.mpt 0 0 0),(3,iA v4.1)]) (st0:=[some (3,[[.msl 1 0 (List.length v1),.isl 1 (List.map byteRow v5),bA (v3 || (!(v4.2.2 == (0 : Int))))]]),some (1,List.map rStr v1)]) ⟨[.old 0,.old 1],cv j0 (.mpt j0)<|ce j0 j0<|cn,j0,⟨⟨_,j0,rsOne ⟨.msl j0,ci j0,ci j0,j5⟩⟩,⟨_,j0,rsMap (fun _=>j0)⟩,j5⟩,j0,j1⟩<|r_nil ?_
 refine rg j0<|u<|mv j0<|u<|nc j0 j0<|u<|fa ti91 j0 j0 j0<|u<|ld ti4 j0 j0<|r_nil ?_
 refine sw_cond j0 (fun hc3=>?_) (fun hc3=>?_)
 ·
  replace h:=bT hc3 h
  refine rg j0<|u<|asg j0<|r_nil ?_
  refine sw_ret ?_
  obtain rfl:=sm h
  exact ⟨_,j0,[.old 0,.old 1],ci j0,j0,⟨⟨_,j0,rsOne ⟨.msl j0,ci j0,ci j0,j5⟩⟩,⟨_,j0,rsMap (fun _=>j0)⟩,j5⟩,j0,j1⟩
 ·
  replace h:=bF hc3 h
  refine sw_skip ?_
  refine rg j0<|u<|mv j0<|u<|asg j0<|r_nil ?_
  refine sw_ret ?_
  obtain rfl:=sm h
  exact ⟨_,j0,[.old 0,.old 1],ci j0,j0,⟨⟨_,j0,rsOne ⟨.msl j0,ci j0,ci j0,j5⟩⟩,⟨_,j0,rsMap (fun _=>j0)⟩,j5⟩,j0,j1⟩
def file_reader_own (v1 : List (List UInt8)) (v2 : List UInt8) (v3 : Bool) : Option ((List UInt8) × (List UInt8) × Bool) :=
  (num_GetText v2).bind fun v4=>(file_reader_skip v1 v2 v3 v4.2.1 v4.2.2).bind fun v5=>some (v4.1,v5,(v3 || (!(v4.2.2 == (0 : Int)))))
theorem file_reader_own_ok (v1 : List (List UInt8)) (v2 : List UInt8) (v3 : Bool) {r : (List UInt8) × (List UInt8) × Bool} (h : file_reader_own v1 v2 v3 = some r) : SC Tryz.prog 65 [.mpt 0 0 0] [.one 3 [.msl 1 0 (List.length v1),.isl 1 (List.map byteRow v2),bA v3],.many 1 (List.map rStr v1)] (sA r.1) [.one 3 [.msl 1 0 (List.length v1),.isl 1 (List.map byteRow r.2.1),bA r.2.2],.many 1 (List.map rStr v1)]:=by
 refine ⟨⟨j5,sbOk (sz:=1) (fun _=>j0),j5⟩,scall_fn Tryz.func65 j0 (by kernel_rfl) j0 ?_⟩
 unfold file_reader_own at h
 refine rg j0<|u<|asg j0<|r_nil ?_
 obtain ⟨v4,q1,h⟩:=bs h
 refine rg j0<|u<|mv j0<|u<|nc j0 j0<|u<|fa ti91 j0 j0 j0<|u<|ld ti43 j0 j0<|u<|pc (num_GetText_ok v2 q1) j0 j0 j0<|u<|mv j0<|u<|ex j0 j0<|u<|ex j0 j0<|u<|ex j0 j0<|u<|asg j0<|u<|asg j0<|u<|asg j0<|r_nil ?_
 obtain ⟨v5,q2,h⟩:=bs h
 refine rg j0<|u<|mv j0<|u<|mv j0<|u<|mv j0<|u<|sc [0,1] (file_reader_skip_ok v1 v2 v3 v4.2.1 v4.2.2 q2) j0 j0 j0 j0 ⟨(.mpt j0),(rnI j0),(rnI j0),j5⟩ ⟨⟨_,j0,⟨(.msl j0),(rnI j0),(rnI j0),j5⟩⟩,⟨j0,mkI (fun _=>j0)⟩,j5⟩<|r_can (env0:=[(3,sA v4.1)]) (st0:=[some (3,[[.msl 1 0 (List.length v1),.isl 1 (List.map byteRow v5),bA (v3 || (!(v4.2.2 == (0 : Int))))]]),some (1,List.map rStr v1)]) ⟨[.old 0,.old 1],ce j0 j0<|cn,j0,⟨⟨_,j0,rsOne ⟨.msl j0,ci j0,ci j0,j5⟩⟩,⟨_,j0,rsMap (fun _=>j0)⟩,j5⟩,j0,j1⟩<|r_nil ?_
 refine rg j0<|u<|mv j0<|u<|asg j0<|r_nil ?_
 refine sw_ret ?_
 obtain rfl:=sm h
 exact ⟨_,j0,[.old 0,.old 1],ci j0,j0,⟨⟨_,j0,rsOne ⟨.msl j0,ci j0,ci j0,j5⟩⟩,⟨_,j0,rsMap (fun _=>j0)⟩,j5⟩,j0,j1⟩
def file_read_string_k2 (v17 : List (List UInt8)) (v18 : List UInt8) (v19 : Bool) : Option ((List (List UInt8)) × (List UInt8) × Bool) :=
  some (v17,v18,v19)
def file_read_string_l1 (v1 : List (List UInt8)) (v11 : List UInt8) (v12 : Bool) (v13 : List (List UInt8)) (v14 : Int) : Option (Sum ((List UInt8) × Bool × (List (List UInt8)) × Int) (Sum ((List (List UInt8)) × (List UInt8) × Bool) ((List (List UInt8)) × (List UInt8) × Bool))) :=
  cond ((decide (0 < v14)) && (!v12)) ((file_reader_own v1 v11 v12).bind fun v15=>(appP 16 v13 [v15.1]).bind fun v16=>some (.inl (v15.2.1,v15.2.2,v16,(IntKind.i64.wrap (v14 - 1))))) (some (.inr (.inl (v13,v11,v12))))
def file_read_string (v1 : List (List UInt8)) (v2 : List UInt8) (v3 : Bool) : Option ((List (List UInt8)) × (List UInt8) × Bool) :=
  (file_reader_num v1 v2 v3).bind fun v4=>(loopP (fun z=>file_read_string_l1 v1 z.1 z.2.1 z.2.2.1 z.2.2.2) (v4.2.1,v4.2.2,[],v4.1)).bind fun o=>leave o (fun b=>file_read_string_k2 b.1 b.2.1 b.2.2) some
theorem file_read_string_ok (v1 : List (List UInt8)) (v2 : List UInt8) (v3 : Bool) {r : (List (List UInt8)) × (List UInt8) × Bool} (h : file_read_string v1 v2 v3 = some r) : SC Tryz.prog 64 [.mpt 0 0 0,.fn (.func 65) [.mpt 0 0 0] []] [.one 3 [.msl 1 0 (List.length v1),.isl 1 (List.map byteRow v2),bA v3],.many 1 (List.map rStr v1)] (.msl 2 0 (List.length r.1)) [.one 3 [.msl 1 0 (List.length v1),.isl 1 (List.map byteRow r.2.1),bA r.2.2],.many 1 (List.map rStr v1),.many 1 (List.map rStr r.1)]:=by
 refine ⟨⟨j5,sbOk (sz:=1) (fun _=>j0),sbOk (sz:=1) (fun _=>j0),j5⟩,scall_fn Tryz.func64 j0 (by kernel_rfl) j0 ?_⟩
 unfold file_read_string at h
 refine rg j0<|u<|asg j0<|r_nil ?_
 refine rg j0<|u<|asg j0<|r_nil ?_
 refine sw_seq ?_
 obtain ⟨v4,q1,h⟩:=bs h
 refine rg j0<|u<|mv j0<|u<|sc [0,1] (file_reader_num_ok v1 v2 v3 q1) j0 j0 j0 j0 ⟨(.mpt j0),j5⟩ ⟨⟨_,j0,⟨(.msl j0),(rnI j0),(rnI j0),j5⟩⟩,⟨j0,mkI (fun _=>j0)⟩,j5⟩<|r_can (env0:=[(0,.mpt 0 0 0),(1,.fn (.func 65) [.mpt 0 0 0] []),(5,.lit (.slice none 0 0)),(8,iA v4.1)]) (st0:=[some (3,[[.msl 1 0 (List.length v1),.isl 1 (List.map byteRow v4.2.1),bA v4.2.2]]),some (1,List.map rStr v1)]) ⟨[.old 0,.old 1],cv j0 (.mpt j0)<|cv j0 (rsFn ⟨(.mpt j0),j5⟩ j5)<|ce j0 j0<|ce j0 j0<|cn,j0,⟨⟨_,j0,rsOne ⟨.msl j0,ci j0,ci j0,j5⟩⟩,⟨_,j0,rsMap (fun _=>j0)⟩,j5⟩,j0,j1⟩<|u<|asg j0<|r_nil ?_
 obtain ⟨o,ho,h⟩:=bs h
 refine sw_lpl (X:=(List UInt8) × Bool × (List (List UInt8)) × Int) (B:=(List (List UInt8)) × (List UInt8) × Bool) (R:=(List (List UInt8)) × (List UInt8) × Bool) (fun z=>[(0,.mpt 0 0 0),(1,.fn (.func 65) [.mpt 0 0 0] []),(5,.msl 2 0 (List.length z.2.2.1)),(6,iA z.2.2.2)]) (fun z=>[some (3,[[.msl 1 0 (List.length v1),.isl 1 (List.map byteRow z.1),bA z.2.1]]),some (1,List.map rStr v1),some (1,List.map rStr z.2.2.1)]) (fun b=>[(5,.msl 2 0 (List.length b.1))]) (fun b=>[some (3,[[.msl 1 0 (List.length v1),.isl 1 (List.map byteRow b.2.1),bA b.2.2]]),some (1,List.map rStr v1),some (1,List.map rStr b.1)]) (fun r env st=>PostF Tryz.prog Tryz.f64 2 (.msl 2 0 (List.length r.1)) [some (3,[[.msl 1 0 (List.length v1),.isl 1 (List.map byteRow r.2.1),bA r.2.2]]),some (1,List.map rStr v1),some (1,List.map rStr r.1)] env st) ho ⟨[.old 0,.old 1,.fresh 1],cv j0 (.mpt j0)<|cv j0 (rsFn ⟨(.mpt j0),j5⟩ j5)<|cv j0 (.nilown j0)<|ce j0 j0<|cn,j0,⟨⟨_,j0,rsOne ⟨.msl j0,ci j0,ci j0,j5⟩⟩,⟨_,j0,rsMap (fun _=>j0)⟩,j4,j5⟩,j0,j1⟩ ?_ ?_ ?_
 ·
  rintro ⟨v11,v12,v13,v14⟩ r h
  replace h : file_read_string_l1 v1 v11 v12 v13 v14 = some r:=h
  unfold file_read_string_l1 at h
  refine sw_seq ?_
  refine rg j0<|u<|mv j0<|u<|gtr ti3 j0 j0<|u<|mv j0<|r_and (j:=2) 5 j0 j0 j0 j0 j0 gpn (fun hb6=>g j0 hb6<|mv j0<|g j0 hb6<|nc j0 j0<|g j0 hb6<|fa ti91 j0 j0 j0<|g j0 hb6<|ld ti4 j0 j0<|g j0 hb6<|nt j0<|r_nil (egA [12,13,14,15,16] 5 hb6 j0 j0 j0 j0)) andF<|r_nil ?_
  refine sw_cond j0 (fun hc7=>?_) (fun hc7=>?_)
  ·
   replace h:=bT hc7 h
   refine sw_skip ?_
   refine sw_seq ?_
   refine sw_block ?_
   obtain ⟨v15,q8,h⟩:=bs h
   obtain ⟨v16,q9,h⟩:=bs h
   refine rl j0<|u<|mv j0<|u<|mv j0<|u<|sc [0,1] (file_reader_own_ok v1 v11 v12 q8) j0 j0 j0 j0 ⟨(.mpt j0),j5⟩ ⟨⟨_,j0,⟨(.msl j0),(rnI j0),(rnI j0),j5⟩⟩,⟨j0,mkI (fun _=>j0)⟩,j5⟩<|r_can (env0:=[(0,.mpt 0 0 0),(1,.fn (.func 65) [.mpt 0 0 0] []),(6,iA v14),(20,.msl 2 0 (List.length v13)),(22,sA v15.1)]) (st0:=[some (3,[[.msl 1 0 (List.length v1),.isl 1 (List.map byteRow v15.2.1),bA v15.2.2]]),some (1,List.map rStr v1),some (1,List.map rStr v13)]) ⟨[.old 0,.old 1,.old 2],cv j0 (.mpt j0)<|cv j0 (rsFn ⟨(.mpt j0),j5⟩ j5)<|ce j0 j0<|cv j0 (.msl j0)<|ce j0 j0<|cn,j0,⟨⟨_,j0,rsOne ⟨.msl j0,ci j0,ci j0,j5⟩⟩,⟨_,j0,rsMap (fun _=>j0)⟩,⟨_,j0,rsMap (fun _=>j0)⟩,j5⟩,j0,j1⟩<|u<|bl 3 ti24 j0 ti9 j0 (by decide) (by decide) j0 j0 j0<|u<|apM 4 ti24 j0 ti9 j0 j0 (by decide) ti24 j0 j0 j0 j0 (roX (f:=rStr) (z:=[v15.1]) j0 j0) (fun _=>j0) j0 q9<|u<|asg j0<|r_nil ?_
   refine rl j0<|u<|mv j0<|u<|sub ti3 j0 j0<|u<|asg j0<|r_nil ?_
   obtain rfl:=sm h
   exact ⟨_,j0,[.old 0,.old 1,.old 4],cv j0 (.mpt j0)<|cv j0 (rsFn ⟨(.mpt j0),j5⟩ j5)<|cv j0 (.msl j0)<|ce j0 j0<|cn,j0,⟨⟨_,j0,rsOne ⟨.msl j0,ci j0,ci j0,j5⟩⟩,⟨_,j0,rsMap (fun _=>j0)⟩,⟨_,j0,rsMap (fun _=>j0)⟩,j5⟩,j0,j1⟩
  ·
   replace h:=bF hc7 h
   refine sw_exit ?_
   obtain rfl:=sm h
   exact ⟨j0,_,j0,[.old 0,.old 1,.old 2],cv j0 (.msl j0)<|cn,j0,⟨⟨_,j0,rsOne ⟨.msl j0,ci j0,ci j0,j5⟩⟩,⟨_,j0,rsMap (fun _=>j0)⟩,⟨_,j0,rsMap (fun _=>j0)⟩,j5⟩,j0,j1⟩
 ·
  rintro ⟨v17,v18,v19⟩ rfl
  replace h : file_read_string_k2 v17 v18 v19 = some r:=h
  unfold file_read_string_k2 at h
  refine ow_intro ?_
  refine rg j0<|u<|mv j0<|u<|asg j0<|r_nil ?_
  refine sw_ret ?_
  obtain rfl:=sm h
  exact ⟨_,j0,[.old 0,.old 1,.old 2],.msl j0,j0,⟨⟨_,j0,rsOne ⟨.msl j0,ci j0,ci j0,j5⟩⟩,⟨_,j0,rsMap (fun _=>j0)⟩,⟨_,j0,rsMap (fun _=>j0)⟩,j5⟩,j0,j1⟩
 ·
  rintro r' rfl env st hp
  obtain rfl:=sm h
  exact hp
def file_reader_text (v1 : List (List UInt8)) (v2 : List UInt8) (v3 : Bool) : Option ((List UInt8) × (List UInt8) × Bool) :=
  (file_reader_num v1 v2 v3).bind fun v4=>cond ((v4.2.2 || (decide (v4.1 < 0))) || (decide (((List.length v1) : Int) ≤ v4.1))) (some ([],v4.2.1,true)) ((idx v1 v4.1).bind fun v5=>some (v5,v4.2.1,v4.2.2))
theorem file_reader_text_ok (v1 : List (List UInt8)) (v2 : List UInt8) (v3 : Bool) {r : (List UInt8) × (List UInt8) × Bool} (h : file_reader_text v1 v2 v3 = some r) : SC Tryz.prog 66 [.mpt 0 0 0] [.one 3 [.msl 1 0 (List.length v1),.isl 1 (List.map byteRow v2),bA v3],.many 1 (List.map rStr v1)] (sA r.1) [.one 3 [.msl 1 0 (List.length v1),.isl 1 (List.map byteRow r.2.1),bA r.2.2],.many 1 (List.map rStr v1)]:=by
 refine ⟨⟨j5,sbOk (sz:=1) (fun _=>j0),j5⟩,scall_fn Tryz.func66 j0 (by kernel_rfl) j0 ?_⟩
 unfold file_reader_text at h
 refine rg j0<|u<|asg j0<|r_nil ?_
 obtain ⟨v4,q1,h⟩:=bs h
 refine rg j0<|u<|mv j0<|u<|sc [0,1] (file_reader_num_ok v1 v2 v3 q1) j0 j0 j0 j0 ⟨(.mpt j0),j5⟩ ⟨⟨_,j0,⟨(.msl j0),(rnI j0),(rnI j0),j5⟩⟩,⟨j0,mkI (fun _=>j0)⟩,j5⟩<|r_can (env0:=[(0,.mpt 0 0 0),(5,iA v4.1)]) (st0:=[some (3,[[.msl 1 0 (List.length v1),.isl 1 (List.map byteRow v4.2.1),bA v4.2.2]]),some (1,List.map rStr v1)]) ⟨[.old 0,.old 1],cv j0 (.mpt j0)<|ce j0 j0<|cn,j0,⟨⟨_,j0,rsOne ⟨.msl j0,ci j0,ci j0,j5⟩⟩,⟨_,j0,rsMap (fun _=>j0)⟩,j5⟩,j0,j1⟩<|u<|asg j0<|r_nil ?_
 refine sw_seq ?_
 refine rg j0<|u<|mv j0<|u<|nc j0 j0<|u<|fa ti91 j0 j0 j0<|u<|ld ti4 j0 j0<|u<|mv j0<|r_or (j:=4) 2 j0 j0 j0 j0 j0 gpn (fun hb2=>g j0 hb2<|mv j0<|g j0 hb2<|lss ti3 j0 j0<|r_nil (egO [11,12] 2 hb2 j0 j0 j0 j0)) orT<|u<|mv j0<|r_or (j:=8) 7 j0 j0 j0 j0 j0 gpn (fun hb3=>g j0 hb3<|mv j0<|g j0 hb3<|mv j0<|g j0 hb3<|nc j0 j0<|g j0 hb3<|fa ti91 j0 j0 j0<|g j0 hb3<|ld ti24 j0 j0<|g j0 hb3<|lnM ti24 j0 j0 j0<|g j0 hb3<|geq ti3 j0 j0<|r_nil (egO [15,16,17,18,19,20,21] 7 hb3 j0 j0 j0 j0)) orT<|r_nil ?_
 refine sw_cond j0 (fun hc4=>?_) (fun hc4=>?_)
 ·
  replace h:=bT hc4 h
  refine rg j0<|u<|mv j0<|u<|nc j0 j0<|u<|fa ti91 j0 j0 j0<|u<|sto ti4 j0 j0 j0<|r_nil ?_
  refine rg j0<|u<|asg j0<|r_nil ?_
  refine sw_ret ?_
  obtain rfl:=sm h
  exact ⟨_,j0,[.old 0,.old 1],ci j0,j0,⟨⟨_,j0,rsOne ⟨.msl j0,ci j0,ci j0,j5⟩⟩,⟨_,j0,rsMap (fun _=>j0)⟩,j5⟩,j0,j1⟩
 ·
  replace h:=bF hc4 h
  refine sw_skip ?_
  obtain ⟨v5,q5,h⟩:=bs h
  refine rg j0<|u<|mv j0<|u<|nc j0 j0<|u<|fa ti91 j0 j0 j0<|u<|ld ti24 j0 j0<|u<|mv j0<|u<|ixM ti24 j0 ti9 j0 j0 j0 j0 q5<|u<|ldM ti9 j0 j0 (idx_some q5).2.2 j0<|u<|asg j0<|r_nil ?_
  refine sw_ret ?_
  obtain rfl:=sm h
  exact ⟨_,j0,[.old 0,.old 1],ci j0,j0,⟨⟨_,j0,rsOne ⟨.msl j0,ci j0,ci j0,j5⟩⟩,⟨_,j0,rsMap (fun _=>j0)⟩,j5⟩,j0,j1⟩
def file_reader_truth (v1 : List (List UInt8)) (v2 : List UInt8) (v3 : Bool) : Option (Bool × (List UInt8) × Bool) :=
  (file_reader_num v1 v2 v3).bind fun v4=>some ((!(v4.1 == (0 : Int))),v4.2.1,v4.2.2)
theorem file_reader_truth_ok (v1 : List (List UInt8)) (v2 : List UInt8) (v3 : Bool) {r : Bool × (List UInt8) × Bool} (h : file_reader_truth v1 v2 v3 = some r) : SC Tryz.prog 67 [.mpt 0 0 0] [.one 3 [.msl 1 0 (List.length v1),.isl 1 (List.map byteRow v2),bA v3],.many 1 (List.map rStr v1)] (bA r.1) [.one 3 [.msl 1 0 (List.length v1),.isl 1 (List.map byteRow r.2.1),bA r.2.2],.many 1 (List.map rStr v1)]:=by
 refine ⟨⟨j5,sbOk (sz:=1) (fun _=>j0),j5⟩,scall_fn Tryz.func67 j0 (by kernel_rfl) j0 ?_⟩
 unfold file_reader_truth at h
 refine rg j0<|u<|asg j0<|r_nil ?_
 obtain ⟨v4,q1,h⟩:=bs h
 refine rg j0<|u<|mv j0<|u<|sc [0,1] (file_reader_num_ok v1 v2 v3 q1) j0 j0 j0 j0 ⟨(.mpt j0),j5⟩ ⟨⟨_,j0,⟨(.msl j0),(rnI j0),(rnI j0),j5⟩⟩,⟨j0,mkI (fun _=>j0)⟩,j5⟩<|r_can (env0:=[(4,iA v4.1)]) (st0:=[some (3,[[.msl 1 0 (List.length v1),.isl 1 (List.map byteRow v4.2.1),bA v4.2.2]]),some (1,List.map rStr v1)]) ⟨[.old 0,.old 1],ce j0 j0<|cn,j0,⟨⟨_,j0,rsOne ⟨.msl j0,ci j0,ci j0,j5⟩⟩,⟨_,j0,rsMap (fun _=>j0)⟩,j5⟩,j0,j1⟩<|u<|neq ti3 j0 j0<|u<|asg j0<|r_nil ?_
 refine sw_ret ?_
 obtain rfl:=sm h
 exact ⟨_,j0,[.old 0,.old 1],ci j0,j0,⟨⟨_,j0,rsOne ⟨.msl j0,ci j0,ci j0,j5⟩⟩,⟨_,j0,rsMap (fun _=>j0)⟩,j5⟩,j0,j1⟩
def file_read_string_s2_k2 (v17 : List (List UInt8)) (v18 : List UInt8) (v19 : Bool) : Option ((List (List UInt8)) × (List UInt8) × Bool) :=
  some (v17,v18,v19)
def file_read_string_s2_l1 (v1 : List (List UInt8)) (v11 : List UInt8) (v12 : Bool) (v13 : List (List UInt8)) (v14 : Int) : Option (Sum ((List UInt8) × Bool × (List (List UInt8)) × Int) (Sum ((List (List UInt8)) × (List UInt8) × Bool) ((List (List UInt8)) × (List UInt8) × Bool))) :=
  cond ((decide (0 < v14)) && (!v12)) ((file_reader_text v1 v11 v12).bind fun v15=>(appP 16 v13 [v15.1]).bind fun v16=>some (.inl (v15.2.1,v15.2.2,v16,(IntKind.i64.wrap (v14 - 1))))) (some (.inr (.inl (v13,v11,v12))))
def file_read_string_s2 (v1 : List (List UInt8)) (v2 : List UInt8) (v3 : Bool) : Option ((List (List UInt8)) × (List UInt8) × Bool) :=
  (file_reader_num v1 v2 v3).bind fun v4=>(loopP (fun z=>file_read_string_s2_l1 v1 z.1 z.2.1 z.2.2.1 z.2.2.2) (v4.2.1,v4.2.2,[],v4.1)).bind fun o=>leave o (fun b=>file_read_string_s2_k2 b.1 b.2.1 b.2.2) some
theorem file_read_string_s2_ok (v1 : List (List UInt8)) (v2 : List UInt8) (v3 : Bool) {r : (List (List UInt8)) × (List UInt8) × Bool} (h : file_read_string_s2 v1 v2 v3 = some r) : SC Tryz.prog 64 [.mpt 0 0 0,.fn (.func 66) [.mpt 0 0 0] []] [.one 3 [.msl 1 0 (List.length v1),.isl 1 (List.map byteRow v2),bA v3],.many 1 (List.map rStr v1)] (.msl 2 0 (List.length r.1)) [.one 3 [.msl 1 0 (List.length v1),.isl 1 (List.map byteRow r.2.1),bA r.2.2],.many 1 (List.map rStr v1),.many 1 (List.map rStr r.1)]:=by
 refine ⟨⟨j5,sbOk (sz:=1) (fun _=>j0),sbOk (sz:=1) (fun _=>j0),j5⟩,scall_fn Tryz.func64 j0 (by kernel_rfl) j0 ?_⟩
 unfold file_read_string_s2 at h
 refine rg j0<|u<|asg j0<|r_nil ?_
 refine rg j0<|u<|asg j0<|r_nil ?_
 refine sw_seq ?_
 obtain ⟨v4,q1,h⟩:=bs h
 refine rg j0<|u<|mv j0<|u<|sc [0,1] (file_reader_num_ok v1 v2 v3 q1) j0 j0 j0 j0 ⟨(.mpt j0),j5⟩ ⟨⟨_,j0,⟨(.msl j0),(rnI j0),(rnI j0),j5⟩⟩,⟨j0,mkI (fun _=>j0)⟩,j5⟩<|r_can (env0:=[(0,.mpt 0 0 0),(1,.fn (.func 66) [.mpt 0 0 0] []),(5,.lit (.slice none 0 0)),(8,iA v4.1)]) (st0:=[some (3,[[.msl 1 0 (List.length v1),.isl 1 (List.map byteRow v4.2.1),bA v4.2.2]]),some (1,List.map rStr v1)]) ⟨[.old 0,.old 1],cv j0 (.mpt j0)<|cv j0 (rsFn ⟨(.mpt j0),j5⟩ j5)<|ce j0 j0<|ce j0 j0<|cn,j0,⟨⟨_,j0,rsOne ⟨.msl j0,ci j0,ci j0,j5⟩⟩,⟨_,j0,rsMap (fun _=>j0)⟩,j5⟩,j0,j1⟩<|u<|asg j0<|r_nil ?_
 obtain ⟨o,ho,h⟩:=bs h
 refine sw_lpl (X:=(List UInt8) × Bool × (List (List UInt8)) × Int) (B:=(List (List UInt8)) × (List UInt8) × Bool) (R:=(List (List UInt8)) × (List UInt8) × Bool) (fun z=>[(0,.mpt 0 0 0),(1,.fn (.func 66) [.mpt 0 0 0] []),(5,.msl 2 0 (List.length z.2.2.1)),(6,iA z.2.2.2)]) (fun z=>[some (3,[[.msl 1 0 (List.length v1),.isl 1 (List.map byteRow z.1),bA z.2.1]]),some (1,List.map rStr v1),some (1,List.map rStr z.2.2.1)]) (fun b=>[(5,.msl 2 0 (List.length b.1))]) (fun b=>[some (3,[[.msl 1 0 (List.length v1),.isl 1 (List.map byteRow b.2.1),bA b.2.2]]),some (1,List.map rStr v1),some (1,List.map rStr b.1)]) (fun r env st=>PostF Tryz.prog Tryz.f64 2 (.msl 2 0 (List.length r.1)) [some (3,[[.msl 1 0 (List.length v1),.isl 1 (List.map byteRow r.2.1),bA r.2.2]]),some (1,List.map rStr v1),some (1,List.map rStr r.1)] env st) ho ⟨[.old 0,.old 1,.fresh 1],cv j0 (.mpt j0)<|cv j0 (rsFn ⟨(.mpt j0),j5⟩ j5)<|cv j0 (.nilown j0)<|ce j0 j0<|cn,j0,⟨⟨_,j0,rsOne ⟨.msl j0,ci j0,ci j0,j5⟩⟩,⟨_,j0,rsMap (fun _=>j0)⟩,j4,j5⟩,j0,j1⟩ ?_ ?_ ?_
 ·
  rintro ⟨v11,v12,v13,v14⟩ r h
  replace h : file_read_string_s2_l1 v1 v11 v12 v13 v14 = some r:=h
  unfold file_read_string_s2_l1 at h
  refine sw_seq ?_
  refine rg j0<|u<|mv j0<|u<|gtr ti3 j0 j0<|u<|mv j0<|r_and (j:=2) 5 j0 j0 j0 j0 j0 gpn (fun hb6=>g j0 hb6<|mv j0<|g j0 hb6<|nc j0 j0<|g j0 hb6<|fa ti91 j0 j0 j0<|g j0 hb6<|ld ti4 j0 j0<|g j0 hb6<|nt j0<|r_nil (egA [12,13,14,15,16] 5 hb6 j0 j0 j0 j0)) andF<|r_nil ?_
  refine sw_cond j0 (fun hc7=>?_) (fun hc7=>?_)
  ·
   replace h:=bT hc7 h
   refine sw_skip ?_
   refine sw_seq ?_
   refine sw_block ?_
   obtain ⟨v15,q8,h⟩:=bs h
   obtain ⟨v16,q9,h⟩:=bs h
   refine rl j0<|u<|mv j0<|u<|mv j0<|u<|sc [0,1] (file_reader_text_ok v1 v11 v12 q8) j0 j0 j0 j0 ⟨(.mpt j0),j5⟩ ⟨⟨_,j0,⟨(.msl j0),(rnI j0),(rnI j0),j5⟩⟩,⟨j0,mkI (fun _=>j0)⟩,j5⟩<|r_can (env0:=[(0,.mpt 0 0 0),(1,.fn (.func 66) [.mpt 0 0 0] []),(6,iA v14),(20,.msl 2 0 (List.length v13)),(22,sA v15.1)]) (st0:=[some (3,[[.msl 1 0 (List.length v1),.isl 1 (List.map byteRow v15.2.1),bA v15.2.2]]),some (1,List.map rStr v1),some (1,List.map rStr v13)]) ⟨[.old 0,.old 1,.old 2],cv j0 (.mpt j0)<|cv j0 (rsFn ⟨(.mpt j0),j5⟩ j5)<|ce j0 j0<|cv j0 (.msl j0)<|ce j0 j0<|cn,j0,⟨⟨_,j0,rsOne ⟨.msl j0,ci j0,ci j0,j5⟩⟩,⟨_,j0,rsMap (fun _=>j0)⟩,⟨_,j0,rsMap (fun _=>j0)⟩,j5⟩,j0,j1⟩<|u<|bl 3 ti24 j0 ti9 j0 (by decide) (by decide) j0 j0 j0<|u<|apM 4 ti24 j0 ti9 j0 j0 (by decide) ti24 j0 j0 j0 j0 (roX (f:=rStr) (z:=[v15.1]) j0 j0) (fun _=>j0) j0 q9<|u<|asg j0<|r_nil ?_
   refine rl j0<|u<|mv j0<|u<|sub ti3 j0 j0<|u<|asg j0<|r_nil ?_
   obtain rfl:=sm h
   exact ⟨_,j0,[.old 0,.old 1,.old 4],cv j0 (.mpt j0)<|cv j0 (rsFn ⟨(.mpt j0),j5⟩ j5)<|cv j0 (.msl j0)<|ce j0 j0<|cn,j0,⟨⟨_,j0,rsOne ⟨.msl j0,ci j0,ci j0,j5⟩⟩,⟨_,j0,rsMap (fun _=>j0)⟩,⟨_,j0,rsMap (fun _=>j0)⟩,j5⟩,j0,j1⟩
  ·
   replace h:=bF hc7 h
   refine sw_exit ?_
   obtain rfl:=sm h
   exact ⟨j0,_,j0,[.old 0,.old 1,.old 2],cv j0 (.msl j0)<|cn,j0,⟨⟨_,j0,rsOne ⟨.msl j0,ci j0,ci j0,j5⟩⟩,⟨_,j0,rsMap (fun _=>j0)⟩,⟨_,j0,rsMap (fun _=>j0)⟩,j5⟩,j0,j1⟩
 ·
  rintro ⟨v17,v18,v19⟩ rfl
  replace h : file_read_string_s2_k2 v17 v18 v19 = some r:=h
  unfold file_read_string_s2_k2 at h
  refine ow_intro ?_
  refine rg j0<|u<|mv j0<|u<|asg j0<|r_nil ?_
  refine sw_ret ?_
  obtain rfl:=sm h
  exact ⟨_,j0,[.old 0,.old 1,.old 2],.msl j0,j0,⟨⟨_,j0,rsOne ⟨.msl j0,ci j0,ci j0,j5⟩⟩,⟨_,j0,rsMap (fun _=>j0)⟩,⟨_,j0,rsMap (fun _=>j0)⟩,j5⟩,j0,j1⟩
 ·
  rintro r' rfl env st hp
  obtain rfl:=sm h
  exact hp
def file_reader_field (v1 : List (List UInt8)) (v2 : List UInt8) (v3 : Bool) : Option (ApiField × (List UInt8) × Bool) :=
  (file_reader_text v1 v2 v3).bind fun v4=>(file_reader_text v1 v4.2.1 v4.2.2).bind fun v5=>(file_reader_truth v1 v5.2.1 v5.2.2).bind fun v6=>some ((ApiField.mk v4.1 v5.1 v6.1),v6.2.1,v6.2.2)
theorem file_reader_field_ok (v1 : List (List UInt8)) (v2 : List UInt8) (v3 : Bool) {r : ApiField × (List UInt8) × Bool} (h : file_reader_field v1 v2 v3 = some r) : SC Tryz.prog 69 [.mpt 0 0 0] [.one 3 [.msl 1 0 (List.length v1),.isl 1 (List.map byteRow v2),bA v3],.many 1 (List.map rStr v1)] (.agg [sA r.1.Name,sA r.1.Type_,bA r.1.Static]) [.one 3 [.msl 1 0 (List.length v1),.isl 1 (List.map byteRow r.2.1),bA r.2.2],.many 1 (List.map rStr v1)]:=by
 refine ⟨⟨j5,sbOk (sz:=1) (fun _=>j0),j5⟩,scall_fn Tryz.func69 j0 (by kernel_rfl) j0 ?_⟩
 unfold file_reader_field at h
 refine rg j0<|u<|al 2 ti53 j0<|r_nil ?_
 obtain ⟨v4,q1,h⟩:=bs h
 obtain ⟨v5,q2,h⟩:=bs h
 obtain ⟨v6,q3,h⟩:=bs h
 refine rg j0<|u<|mv j0<|u<|sc [0,1] (file_reader_text_ok v1 v2 v3 q1) j0 j0 j0 j0 ⟨(.mpt j0),j5⟩ ⟨⟨_,j0,⟨(.msl j0),(rnI j0),(rnI j0),j5⟩⟩,⟨j0,mkI (fun _=>j0)⟩,j5⟩<|r_can (env0:=[(0,.mpt 0 0 0),(2,.mpt 2 0 0),(4,sA v4.1)]) (st0:=[some (3,[[.msl 1 0 (List.length v1),.isl 1 (List.map byteRow v4.2.1),bA v4.2.2]]),some (1,List.map rStr v1),some (3,[[sA [],sA [],bA false]])]) ⟨[.old 0,.old 1,.old 2],cv j0 (.mpt j0)<|cv j0 (.mpt j0)<|ce j0 j0<|cn,j0,⟨⟨_,j0,rsOne ⟨.msl j0,ci j0,ci j0,j5⟩⟩,⟨_,j0,rsMap (fun _=>j0)⟩,⟨_,j0,rsOne ⟨ci j0,ci j0,ci j0,j5⟩⟩,j5⟩,j0,j1⟩<|u<|mv j0<|u<|sc [0,1] (file_reader_text_ok v1 v4.2.1 v4.2.2 q2) j0 j0 j0 j0 ⟨(.mpt j0),j5⟩ ⟨⟨_,j0,⟨(.msl j0),(rnI j0),(rnI j0),j5⟩⟩,⟨j0,mkI (fun _=>j0)⟩,j5⟩<|r_can (env0:=[(0,.mpt 0 0 0),(2,.mpt 2 0 0),(4,sA v4.1),(6,sA v5.1)]) (st0:=[some (3,[[.msl 1 0 (List.length v1),.isl 1 (List.map byteRow v5.2.1),bA v5.2.2]]),some (1,List.map rStr v1),some (3,[[sA [],sA [],bA false]])]) ⟨[.old 0,.old 1,.old 2],cv j0 (.mpt j0)<|cv j0 (.mpt j0)<|ce j0 j0<|ce j0 j0<|cn,j0,⟨⟨_,j0,rsOne ⟨.msl j0,ci j0,ci j0,j5⟩⟩,⟨_,j0,rsMap (fun _=>j0)⟩,⟨_,j0,rsOne ⟨ci j0,ci j0,ci j0,j5⟩⟩,j5⟩,j0,j1⟩<|u<|mv j0<|u<|sc [0,1] (file_reader_truth_ok v1 v5.2.1 v5.2.2 q3) j0 j0 j0 j0 ⟨(.mpt j0),j5⟩ ⟨⟨_,j0,⟨(.msl j0),(rnI j0),(rnI j0),j5⟩⟩,⟨j0,mkI (fun _=>j0)⟩,j5⟩<|r_can (env0:=[(2,.mpt 2 0 0),(4,sA v4.1),(6,sA v5.1),(8,bA v6.1)]) (st0:=[some (3,[[.msl 1 0 (List.length v1),.isl 1 (List.map byteRow v6.2.1),bA v6.2.2]]),some (1,List.map rStr v1),some (3,[[sA [],sA [],bA false]])]) ⟨[.old 0,.old 1,.old 2],cv j0 (.mpt j0)<|ce j0 j0<|ce j0 j0<|ce j0 j0<|cn,j0,⟨⟨_,j0,rsOne ⟨.msl j0,ci j0,ci j0,j5⟩⟩,⟨_,j0,rsMap (fun _=>j0)⟩,⟨_,j0,rsOne ⟨ci j0,ci j0,ci j0,j5⟩⟩,j5⟩,j0,j1⟩<|u<|bd ti53 j0 j0 j0<|u<|sto ti53 j0 j0 j0<|r_nil ?_
 refine sw_ret ?_
 obtain rfl:=sm h
 exact ⟨_,j0,[.old 0,.old 1],ci j0,j0,⟨⟨_,j0,rsOne ⟨.msl j0,ci j0,ci j0,j5⟩⟩,⟨_,j0,rsMap (fun _=>j0)⟩,j5⟩,j0,j1⟩
def file_read_api_Field_k2 (v17 : List ApiField) (v18 : List UInt8) (v19 : Bool) : Option ((List ApiField) × (List UInt8) × Bool) :=
  some (v17,v18,v19)
def file_read_api_Field_l1 (v1 : List (List UInt8)) (v11 : List UInt8) (v12 : Bool) (v13 : List ApiField) (v14 : Int) : Option (Sum ((List UInt8) × Bool × (List ApiField) × Int) (Sum ((List ApiField) × (List UInt8) × Bool) ((List ApiField) × (List UInt8) × Bool))) :=
  cond ((decide (0 < v14)) && (!v12)) ((file_reader_field v1 v11 v12).bind fun v15=>(appP 40 v13 [v15.1]).bind fun v16=>some (.inl (v15.2.1,v15.2.2,v16,(IntKind.i64.wrap (v14 - 1))))) (some (.inr (.inl (v13,v11,v12))))
def file_read_api_Field (v1 : List (List UInt8)) (v2 : List UInt8) (v3 : Bool) : Option ((List ApiField) × (List UInt8) × Bool) :=
  (file_reader_num v1 v2 v3).bind fun v4=>(loopP (fun z=>file_read_api_Field_l1 v1 z.1 z.2.1 z.2.2.1 z.2.2.2) (v4.2.1,v4.2.2,[],v4.1)).bind fun o=>leave o (fun b=>file_read_api_Field_k2 b.1 b.2.1 b.2.2) some
theorem file_read_api_Field_ok (v1 : List (List UInt8)) (v2 : List UInt8) (v3 : Bool) {r : (List ApiField) × (List UInt8) × Bool} (h : file_read_api_Field v1 v2 v3 = some r) : SC Tryz.prog 68 [.mpt 0 0 0,.fn (.func 69) [.mpt 0 0 0] []] [.one 3 [.msl 1 0 (List.length v1),.isl 1 (List.map byteRow v2),bA v3],.many 1 (List.map rStr v1)] (.msl 2 0 (List.length r.1)) [.one 3 [.msl 1 0 (List.length v1),.isl 1 (List.map byteRow r.2.1),bA r.2.2],.many 1 (List.map rStr v1),.many 3 (List.map rApiField r.1)]:=by
 refine ⟨⟨j5,sbOk (sz:=1) (fun _=>j0),sbOk (sz:=3) (fun _=>j0),j5⟩,scall_fn Tryz.func68 j0 (by kernel_rfl) j0 ?_⟩
 unfold file_read_api_Field at h
 refine rg j0<|u<|asg j0<|r_nil ?_
 refine rg j0<|u<|asg j0<|r_nil ?_
 refine sw_seq ?_
 obtain ⟨v4,q1,h⟩:=bs h
 refine rg j0<|u<|mv j0<|u<|sc [0,1] (file_reader_num_ok v1 v2 v3 q1) j0 j0 j0 j0 ⟨(.mpt j0),j5⟩ ⟨⟨_,j0,⟨(.msl j0),(rnI j0),(rnI j0),j5⟩⟩,⟨j0,mkI (fun _=>j0)⟩,j5⟩<|r_can (env0:=[(0,.mpt 0 0 0),(1,.fn (.func 69) [.mpt 0 0 0] []),(5,.lit (.slice none 0 0)),(8,iA v4.1)]) (st0:=[some (3,[[.msl 1 0 (List.length v1),.isl 1 (List.map byteRow v4.2.1),bA v4.2.2]]),some (1,List.map rStr v1)]) ⟨[.old 0,.old 1],cv j0 (.mpt j0)<|cv j0 (rsFn ⟨(.mpt j0),j5⟩ j5)<|ce j0 j0<|ce j0 j0<|cn,j0,⟨⟨_,j0,rsOne ⟨.msl j0,ci j0,ci j0,j5⟩⟩,⟨_,j0,rsMap (fun _=>j0)⟩,j5⟩,j0,j1⟩<|u<|asg j0<|r_nil ?_
 obtain ⟨o,ho,h⟩:=bs h
 refine sw_lpl (X:=(List UInt8) × Bool × (List ApiField) × Int) (B:=(List ApiField) × (List UInt8) × Bool) (R:=(List ApiField) × (List UInt8) × Bool) (fun z=>[(0,.mpt 0 0 0),(1,.fn (.func 69) [.mpt 0 0 0] []),(5,.msl 2 0 (List.length z.2.2.1)),(6,iA z.2.2.2)]) (fun z=>[some (3,[[.msl 1 0 (List.length v1),.isl 1 (List.map byteRow z.1),bA z.2.1]]),some (1,List.map rStr v1),some (3,List.map rApiField z.2.2.1)]) (fun b=>[(5,.msl 2 0 (List.length b.1))]) (fun b=>[some (3,[[.msl 1 0 (List.length v1),.isl 1 (List.map byteRow b.2.1),bA b.2.2]]),some (1,List.map rStr v1),some (3,List.map rApiField b.1)]) (fun r env st=>PostF Tryz.prog Tryz.f68 2 (.msl 2 0 (List.length r.1)) [some (3,[[.msl 1 0 (List.length v1),.isl 1 (List.map byteRow r.2.1),bA r.2.2]]),some (1,List.map rStr v1),some (3,List.map rApiField r.1)] env st) ho ⟨[.old 0,.old 1,.fresh 3],cv j0 (.mpt j0)<|cv j0 (rsFn ⟨(.mpt j0),j5⟩ j5)<|cv j0 (.nilown j0)<|ce j0 j0<|cn,j0,⟨⟨_,j0,rsOne ⟨.msl j0,ci j0,ci j0,j5⟩⟩,⟨_,j0,rsMap (fun _=>j0)⟩,j4,j5⟩,j0,j1⟩ ?_ ?_ ?_
 ·
  rintro ⟨v11,v12,v13,v14⟩ r h
  replace h : file_read_api_Field_l1 v1 v11 v12 v13 v14 = some r:=h
  unfold file_read_api_Field_l1 at h
  refine sw_seq ?_
  refine rg j0<|u<|mv j0<|u<|gtr ti3 j0 j0<|u<|mv j0<|r_and (j:=2) 5 j0 j0 j0 j0 j0 gpn (fun hb6=>g j0 hb6<|mv j0<|g j0 hb6<|nc j0 j0<|g j0 hb6<|fa ti91 j0 j0 j0<|g j0 hb6<|ld ti4 j0 j0<|g j0 hb6<|nt j0<|r_nil (egA [12,13,14,15,16] 5 hb6 j0 j0 j0 j0)) andF<|r_nil ?_
  refine sw_cond j0 (fun hc7=>?_) (fun hc7=>?_)
  ·
   replace h:=bT hc7 h
   refine sw_skip ?_
   refine sw_seq ?_
   refine sw_block ?_
   obtain ⟨v15,q8,h⟩:=bs h
   obtain ⟨v16,q9,h⟩:=bs h
   refine rl j0<|u<|mv j0<|u<|mv j0<|u<|sc [0,1] (file_reader_field_ok v1 v11 v12 q8) j0 j0 j0 j0 ⟨(.mpt j0),j5⟩ ⟨⟨_,j0,⟨(.msl j0),(rnI j0),(rnI j0),j5⟩⟩,⟨j0,mkI (fun _=>j0)⟩,j5⟩<|r_can (env0:=[(0,.mpt 0 0 0),(1,.fn (.func 69) [.mpt 0 0 0] []),(6,iA v14),(20,.msl 2 0 (List.length v13)),(22,.agg [sA v15.1.Name,sA v15.1.Type_,bA v15.1.Static])]) (st0:=[some (3,[[.msl 1 0 (List.length v1),.isl 1 (List.map byteRow v15.2.1),bA v15.2.2]]),some (1,List.map rStr v1),some (3,List.map rApiField v13)]) ⟨[.old 0,.old 1,.old 2],cv j0 (.mpt j0)<|cv j0 (rsFn ⟨(.mpt j0),j5⟩ j5)<|ce j0 j0<|cv j0 (.msl j0)<|ce j0 j0<|cn,j0,⟨⟨_,j0,rsOne ⟨.msl j0,ci j0,ci j0,j5⟩⟩,⟨_,j0,rsMap (fun _=>j0)⟩,⟨_,j0,rsMap (fun _=>j0)⟩,j5⟩,j0,j1⟩<|u<|bl 3 ti25 j0 ti53 j0 (by decide) (by decide) j0 j0 j0<|u<|apM 4 ti25 j0 ti53 j0 j0 (by decide) ti25 j0 j0 j0 j0 (roX (f:=rApiField) (z:=[v15.1]) j0 j0) (fun _=>j0) j0 q9<|u<|asg j0<|r_nil ?_
   refine rl j0<|u<|mv j0<|u<|sub ti3 j0 j0<|u<|asg j0<|r_nil ?_
   obtain rfl:=sm h
   exact ⟨_,j0,[.old 0,.old 1,.old 4],cv j0 (.mpt j0)<|cv j0 (rsFn ⟨(.mpt j0),j5⟩ j5)<|cv j0 (.msl j0)<|ce j0 j0<|cn,j0,⟨⟨_,j0,rsOne ⟨.msl j0,ci j0,ci j0,j5⟩⟩,⟨_,j0,rsMap (fun _=>j0)⟩,⟨_,j0,rsMap (fun _=>j0)⟩,j5⟩,j0,j1⟩
  ·
   replace h:=bF hc7 h
   refine sw_exit ?_
   obtain rfl:=sm h
   exact ⟨j0,_,j0,[.old 0,.old 1,.old 2],cv j0 (.msl j0)<|cn,j0,⟨⟨_,j0,rsOne ⟨.msl j0,ci j0,ci j0,j5⟩⟩,⟨_,j0,rsMap (fun _=>j0)⟩,⟨_,j0,rsMap (fun _=>j0)⟩,j5⟩,j0,j1⟩
 ·
  rintro ⟨v17,v18,v19⟩ rfl
  replace h : file_read_api_Field_k2 v17 v18 v19 = some r:=h
  unfold file_read_api_Field_k2 at h
  refine ow_intro ?_
  refine rg j0<|u<|mv j0<|u<|asg j0<|r_nil ?_
  refine sw_ret ?_
  obtain rfl:=sm h
  exact ⟨_,j0,[.old 0,.old 1,.old 2],.msl j0,j0,⟨⟨_,j0,rsOne ⟨.msl j0,ci j0,ci j0,j5⟩⟩,⟨_,j0,rsMap (fun _=>j0)⟩,⟨_,j0,rsMap (fun _=>j0)⟩,j5⟩,j0,j1⟩
 ·
  rintro r' rfl env st hp
  obtain rfl:=sm h
  exact hp
def file_reader_ins (v1 : List (List UInt8)) (v2 : List UInt8) (v3 : Bool) : Option (ApiIns × (List UInt8) × Bool) :=
  (file_reader_num v1 v2 v3).bind fun v4=>(file_reader_num v1 v4.2.1 v4.2.2).bind fun v5=>(file_reader_text v1 v5.2.1 v5.2.2).bind fun v6=>(file_reader_text v1 v6.2.1 v6.2.2).bind fun v7=>some ((ApiIns.mk v4.1 v5.1 v6.1 v7.1),v7.2.1,v7.2.2)
theorem file_reader_ins_ok (v1 : List (List UInt8)) (v2 : List UInt8) (v3 : Bool) {r : ApiIns × (List UInt8) × Bool} (h : file_reader_ins v1 v2 v3 = some r) : SC Tryz.prog 122 [.mpt 0 0 0] [.one 3 [.msl 1 0 (List.length v1),.isl 1 (List.map byteRow v2),bA v3],.many 1 (List.map rStr v1)] (.agg [iA r.1.Op,iA r.1.A,sA r.1.C,sA r.1.M]) [.one 3 [.msl 1 0 (List.length v1),.isl 1 (List.map byteRow r.2.1),bA r.2.2],.many 1 (List.map rStr v1)]:=by
 refine ⟨⟨j5,sbOk (sz:=1) (fun _=>j0),j5⟩,scall_fn Tryz.func122 j0 (by kernel_rfl) j0 ?_⟩
 unfold file_reader_ins at h
 refine rg j0<|u<|al 2 ti37 j0<|r_nil ?_
 obtain ⟨v4,q1,h⟩:=bs h
 obtain ⟨v5,q2,h⟩:=bs h
 obtain ⟨v6,q3,h⟩:=bs h
 obtain ⟨v7,q4,h⟩:=bs h
 refine rg j0<|u<|mv j0<|u<|sc [0,1] (file_reader_num_ok v1 v2 v3 q1) j0 j0 j0 j0 ⟨(.mpt j0),j5⟩ ⟨⟨_,j0,⟨(.msl j0),(rnI j0),(rnI j0),j5⟩⟩,⟨j0,mkI (fun _=>j0)⟩,j5⟩<|r_can (env0:=[(0,.mpt 0 0 0),(2,.mpt 2 0 0),(4,iA v4.1)]) (st0:=[some (3,[[.msl 1 0 (List.length v1),.isl 1 (List.map byteRow v4.2.1),bA v4.2.2]]),some (1,List.map rStr v1),some (4,[[iA 0,iA 0,sA [],sA []]])]) ⟨[.old 0,.old 1,.old 2],cv j0 (.mpt j0)<|cv j0 (.mpt j0)<|ce j0 j0<|cn,j0,⟨⟨_,j0,rsOne ⟨.msl j0,ci j0,ci j0,j5⟩⟩,⟨_,j0,rsMap (fun _=>j0)⟩,⟨_,j0,rsOne ⟨ci j0,ci j0,ci j0,ci j0,j5⟩⟩,j5⟩,j0,j1⟩<|u<|mv j0<|u<|sc [0,1] (file_reader_num_ok v1 v4.2.1 v4.2.2 q2) j0 j0 j0 j0 ⟨(.mpt j0),j5⟩ ⟨⟨_,j0,⟨(.msl j0),(rnI j0),(rnI j0),j5⟩⟩,⟨j0,mkI (fun _=>j0)⟩,j5⟩<|r_can (env0:=[(0,.mpt 0 0 0),(2,.mpt 2 0 0),(4,iA v4.1),(6,iA v5.1)]) (st0:=[some (3,[[.msl 1 0 (List.length v1),.isl 1 (List.map byteRow v5.2.1),bA v5.2.2]]),some (1,List.map rStr v1),some (4,[[iA 0,iA 0,sA [],sA []]])]) ⟨[.old 0,.old 1,.old 2],cv j0 (.mpt j0)<|cv j0 (.mpt j0)<|ce j0 j0<|ce j0 j0<|cn,j0,⟨⟨_,j0,rsOne ⟨.msl j0,ci j0,ci j0,j5⟩⟩,⟨_,j0,rsMap (fun _=>j0)⟩,⟨_,j0,rsOne ⟨ci j0,ci j0,ci j0,ci j0,j5⟩⟩,j5⟩,j0,j1⟩<|u<|mv j0<|u<|sc [0,1] (file_reader_text_ok v1 v5.2.1 v5.2.2 q3) j0 j0 j0 j0 ⟨(.mpt j0),j5⟩ ⟨⟨_,j0,⟨(.msl j0),(rnI j0),(rnI j0),j5⟩⟩,⟨j0,mkI (fun _=>j0)⟩,j5⟩<|r_can (env0:=[(0,.mpt 0 0 0),(2,.mpt 2 0 0),(4,iA v4.1),(6,iA v5.1),(8,sA v6.1)]) (st0:=[some (3,[[.msl 1 0 (List.length v1),.isl 1 (List.map byteRow v6.2.1),bA v6.2.2]]),some (1,List.map rStr v1),some (4,[[iA 0,iA 0,sA [],sA []]])]) ⟨[.old 0,.old 1,.old 2],cv j0 (.mpt j0)<|cv j0 (.mpt j0)<|ce j0 j0<|ce j0 j0<|ce j0 j0<|cn,j0,⟨⟨_,j0,rsOne ⟨.msl j0,ci j0,ci j0,j5⟩⟩,⟨_,j0,rsMap (fun _=>j0)⟩,⟨_,j0,rsOne ⟨ci j0,ci j0,ci j0,ci j0,j5⟩⟩,j5⟩,j0,j1⟩<|u<|mv j0<|u<|sc [0,1] (file_reader_text_ok v1 v6.2.1 v6.2.2 q4) j0 j0 j0 j0 ⟨(.mpt j0),j5⟩ ⟨⟨_,j0,⟨(.msl j0),(rnI j0),(rnI j0),j5⟩⟩,⟨j0,mkI (fun _=>j0)⟩,j5⟩<|r_can (env0:=[(2,.mpt 2 0 0),(4,iA v4.1),(6,iA v5.1),(8,sA v6.1),(10,sA v7.1)]) (st0:=[some (3,[[.msl 1 0 (List.length v1),.isl 1 (List.map byteRow v7.2.1),bA v7.2.2]]),some (1,List.map rStr v1),some (4,[[iA 0,iA 0,sA [],sA []]])]) ⟨[.old 0,.old 1,.old 2],cv j0 (.mpt j0)<|ce j0 j0<|ce j0 j0<|ce j0 j0<|ce j0 j0<|cn,j0,⟨⟨_,j0,rsOne ⟨.msl j0,ci j0,ci j0,j5⟩⟩,⟨_,j0,rsMap (fun _=>j0)⟩,⟨_,j0,rsOne ⟨ci j0,ci j0,ci j0,ci j0,j5⟩⟩,j5⟩,j0,j1⟩<|u<|bd ti37 j0 j0 j0<|u<|sto ti37 j0 j0 j0<|r_nil ?_
 refine sw_ret ?_
 obtain rfl:=sm h
 exact ⟨_,j0,[.old 0,.old 1],ci j0,j0,⟨⟨_,j0,rsOne ⟨.msl j0,ci j0,ci j0,j5⟩⟩,⟨_,j0,rsMap (fun _=>j0)⟩,j5⟩,j0,j1⟩
def file_read_api_Ins_k2 (v17 : List ApiIns) (v18 : List UInt8) (v19 : Bool) : Option ((List ApiIns) × (List UInt8) × Bool) :=
  some (v17,v18,v19)
def file_read_api_Ins_l1 (v1 : List (List UInt8)) (v11 : List UInt8) (v12 : Bool) (v13 : List ApiIns) (v14 : Int) : Option (Sum ((List UInt8) × Bool × (List ApiIns) × Int) (Sum ((List ApiIns) × (List UInt8) × Bool) ((List ApiIns) × (List UInt8) × Bool))) :=
  cond ((decide (0 < v14)) && (!v12)) ((file_reader_ins v1 v11 v12).bind fun v15=>(appP 48 v13 [v15.1]).bind fun v16=>some (.inl (v15.2.1,v15.2.2,v16,(IntKind.i64.wrap (v14 - 1))))) (some (.inr (.inl (v13,v11,v12))))
def file_read_api_Ins (v1 : List (List UInt8)) (v2 : List UInt8) (v3 : Bool) : Option ((List ApiIns) × (List UInt8) × Bool) :=
  (file_reader_num v1 v2 v3).bind fun v4=>(loopP (fun z=>file_read_api_Ins_l1 v1 z.1 z.2.1 z.2.2.1 z.2.2.2) (v4.2.1,v4.2.2,[],v4.1)).bind fun o=>leave o (fun b=>file_read_api_Ins_k2 b.1 b.2.1 b.2.2) some
theorem file_read_api_Ins_ok (v1 : List (List UInt8)) (v2 : List UInt8) (v3 : Bool) {r : (List ApiIns) × (List UInt8) × Bool} (h : file_read_api_Ins v1 v2 v3 = some r) : SC Tryz.prog 121 [.mpt 0 0 0,.fn (.func 122) [.mpt 0 0 0] []] [.one 3 [.msl 1 0 (List.length v1),.isl 1 (List.map byteRow v2),bA v3],.many 1 (List.map rStr v1)] (.msl 2 0 (List.length r.1)) [.one 3 [.msl 1 0 (List.length v1),.isl 1 (List.map byteRow r.2.1),bA r.2.2],.many 1 (List.map rStr v1),.many 4 (List.map rApiIns r.1)]:=by
 refine ⟨⟨j5,sbOk (sz:=1) (fun _=>j0),sbOk (sz:=4) (fun _=>j0),j5⟩,scall_fn Tryz.func121 j0 (by kernel_rfl) j0 ?_⟩
 unfold file_read_api_Ins at h
 refine rg j0<|u<|asg j0<|r_nil ?_
 refine rg j0<|u<|asg j0<|r_nil ?_
 refine sw_seq ?_
 obtain ⟨v4,q1,h⟩:=bs h
 refine rg j0<|u<|mv j0<|u<|sc [0,1] (file_reader_num_ok v1 v2 v3 q1) j0 j0 j0 j0 ⟨(.mpt j0),j5⟩ ⟨⟨_,j0,⟨(.msl j0),(rnI j0),(rnI j0),j5⟩⟩,⟨j0,mkI (fun _=>j0)⟩,j5⟩<|r_can (env0:=[(0,.mpt 0 0 0),(1,.fn (.func 122) [.mpt 0 0 0] []),(5,.lit (.slice none 0 0)),(8,iA v4.1)]) (st0:=[some (3,[[.msl 1 0 (List.length v1),.isl 1 (List.map byteRow v4.2.1),bA v4.2.2]]),some (1,List.map rStr v1)]) ⟨[.old 0,.old 1],cv j0 (.mpt j0)<|cv j0 (rsFn ⟨(.mpt j0),j5⟩ j5)<|ce j0 j0<|ce j0 j0<|cn,j0,⟨⟨_,j0,rsOne ⟨.msl j0,ci j0,ci j0,j5⟩⟩,⟨_,j0,rsMap (fun _=>j0)⟩,j5⟩,j0,j1⟩<|u<|asg j0<|r_nil ?_
 obtain ⟨o,ho,h⟩:=bs h
 refine sw_lpl (X:=(List UInt8) × Bool × (List ApiIns) × Int) (B:=(List ApiIns) × (List UInt8) × Bool) (R:=(List ApiIns) × (List UInt8) × Bool) (fun z=>[(0,.mpt 0 0 0),(1,.fn (.func 122) [.mpt 0 0 0] []),(5,.msl 2 0 (List.length z.2.2.1)),(6,iA z.2.2.2)]) (fun z=>[some (3,[[.msl 1 0 (List.length v1),.isl 1 (List.map byteRow z.1),bA z.2.1]]),some (1,List.map rStr v1),some (4,List.map rApiIns z.2.2.1)]) (fun b=>[(5,.msl 2 0 (List.length b.1))]) (fun b=>[some (3,[[.msl 1 0 (List.length v1),.isl 1 (List.map byteRow b.2.1),bA b.2.2]]),some (1,List.map rStr v1),some (4,List.map rApiIns b.1)]) (fun r env st=>PostF Tryz.prog Tryz.f121 2 (.msl 2 0 (List.length r.1)) [some (3,[[.msl 1 0 (List.length v1),.isl 1 (List.map byteRow r.2.1),bA r.2.2]]),some (1,List.map rStr v1),some (4,List.map rApiIns r.1)] env st) ho ⟨[.old 0,.old 1,.fresh 4],cv j0 (.mpt j0)<|cv j0 (rsFn ⟨(.mpt j0),j5⟩ j5)<|cv j0 (.nilown j0)<|ce j0 j0<|cn,j0,⟨⟨_,j0,rsOne ⟨.msl j0,ci j0,ci j0,j5⟩⟩,⟨_,j0,rsMap (fun _=>j0)⟩,j4,j5⟩,j0,j1⟩ ?_ ?_ ?_
 ·
  rintro ⟨v11,v12,v13,v14⟩ r h
  replace h : file_read_api_Ins_l1 v1 v11 v12 v13 v14 = some r:=h
  unfold file_read_api_Ins_l1 at h
  refine sw_seq ?_
  refine rg j0<|u<|mv j0<|u<|gtr ti3 j0 j0<|u<|mv j0<|r_and (j:=2) 5 j0 j0 j0 j0 j0 gpn (fun hb6=>g j0 hb6<|mv j0<|g j0 hb6<|nc j0 j0<|g j0 hb6<|fa ti91 j0 j0 j0<|g j0 hb6<|ld ti4 j0 j0<|g j0 hb6<|nt j0<|r_nil (egA [12,13,14,15,16] 5 hb6 j0 j0 j0 j0)) andF<|r_nil ?_
  refine sw_cond j0 (fun hc7=>?_) (fun hc7=>?_)
  ·
   replace h:=bT hc7 h
   refine sw_skip ?_
   refine sw_seq ?_
   refine sw_block ?_
   obtain ⟨v15,q8,h⟩:=bs h
   obtain ⟨v16,q9,h⟩:=bs h
   refine rl j0<|u<|mv j0<|u<|mv j0<|u<|sc [0,1] (file_reader_ins_ok v1 v11 v12 q8) j0 j0 j0 j0 ⟨(.mpt j0),j5⟩ ⟨⟨_,j0,⟨(.msl j0),(rnI j0),(rnI j0),j5⟩⟩,⟨j0,mkI (fun _=>j0)⟩,j5⟩<|r_can (env0:=[(0,.mpt 0 0 0),(1,.fn (.func 122) [.mpt 0 0 0] []),(6,iA v14),(20,.msl 2 0 (List.length v13)),(22,.agg [iA v15.1.Op,iA v15.1.A,sA v15.1.C,sA v15.1.M])]) (st0:=[some (3,[[.msl 1 0 (List.length v1),.isl 1 (List.map byteRow v15.2.1),bA v15.2.2]]),some (1,List.map rStr v1),some (4,List.map rApiIns v13)]) ⟨[.old 0,.old 1,.old 2],cv j0 (.mpt j0)<|cv j0 (rsFn ⟨(.mpt j0),j5⟩ j5)<|ce j0 j0<|cv j0 (.msl j0)<|ce j0 j0<|cn,j0,⟨⟨_,j0,rsOne ⟨.msl j0,ci j0,ci j0,j5⟩⟩,⟨_,j0,rsMap (fun _=>j0)⟩,⟨_,j0,rsMap (fun _=>j0)⟩,j5⟩,j0,j1⟩<|u<|bl 3 ti31 j0 ti37 j0 (by decide) (by decide) j0 j0 j0<|u<|apM 4 ti31 j0 ti37 j0 j0 (by decide) ti31 j0 j0 j0 j0 (roX (f:=rApiIns) (z:=[v15.1]) j0 j0) (fun _=>j0) j0 q9<|u<|asg j0<|r_nil ?_
   refine rl j0<|u<|mv j0<|u<|sub ti3 j0 j0<|u<|asg j0<|r_nil ?_
   obtain rfl:=sm h
   exact ⟨_,j0,[.old 0,.old 1,.old 4],cv j0 (.mpt j0)<|cv j0 (rsFn ⟨(.mpt j0),j5⟩ j5)<|cv j0 (.msl j0)<|ce j0 j0<|cn,j0,⟨⟨_,j0,rsOne ⟨.msl j0,ci j0,ci j0,j5⟩⟩,⟨_,j0,rsMap (fun _=>j0)⟩,⟨_,j0,rsMap (fun _=>j0)⟩,j5⟩,j0,j1⟩
  ·
   replace h:=bF hc7 h
   refine sw_exit ?_
   obtain rfl:=sm h
   exact ⟨j0,_,j0,[.old 0,.old 1,.old 2],cv j0 (.msl j0)<|cn,j0,⟨⟨_,j0,rsOne ⟨.msl j0,ci j0,ci j0,j5⟩⟩,⟨_,j0,rsMap (fun _=>j0)⟩,⟨_,j0,rsMap (fun _=>j0)⟩,j5⟩,j0,j1⟩
 ·
  rintro ⟨v17,v18,v19⟩ rfl
  replace h : file_read_api_Ins_k2 v17 v18 v19 = some r:=h
  unfold file_read_api_Ins_k2 at h
  refine ow_intro ?_
  refine rg j0<|u<|mv j0<|u<|asg j0<|r_nil ?_
  refine sw_ret ?_
  obtain rfl:=sm h
  exact ⟨_,j0,[.old 0,.old 1,.old 2],.msl j0,j0,⟨⟨_,j0,rsOne ⟨.msl j0,ci j0,ci j0,j5⟩⟩,⟨_,j0,rsMap (fun _=>j0)⟩,⟨_,j0,rsMap (fun _=>j0)⟩,j5⟩,j0,j1⟩
 ·
  rintro r' rfl env st hp
  obtain rfl:=sm h
  exact hp
def file_reader_place (v1 : List (List UInt8)) (v2 : List UInt8) (v3 : Bool) : Option (ApiMap × (List UInt8) × Bool) :=
  (file_reader_num v1 v2 v3).bind fun v4=>(file_read_string_s2 v1 v4.2.1 v4.2.2).bind fun v5=>(file_read_string_s2 v1 v5.2.1 v5.2.2).bind fun v6=>some ((ApiMap.mk v4.1 v5.1 v6.1),v6.2.1,v6.2.2)
theorem file_reader_place_ok (v1 : List (List UInt8)) (v2 : List UInt8) (v3 : Bool) {r : ApiMap × (List UInt8) × Bool} (h : file_reader_place v1 v2 v3 = some r) : SC Tryz.prog 124 [.mpt 0 0 0] [.one 3 [.msl 1 0 (List.length v1),.isl 1 (List.map byteRow v2),bA v3],.many 1 (List.map rStr v1)] (.agg [iA r.1.At,.isl 1 (List.map rStr r.1.Locals),.isl 1 (List.map rStr r.1.Stack)]) [.one 3 [.msl 1 0 (List.length v1),.isl 1 (List.map byteRow r.2.1),bA r.2.2],.many 1 (List.map rStr v1)]:=by
 refine ⟨⟨j5,sbOk (sz:=1) (fun _=>j0),j5⟩,scall_fn Tryz.func124 j0 (by kernel_rfl) j0 ?_⟩
 unfold file_reader_place at h
 refine rg j0<|u<|al 2 ti39 j0<|r_nil ?_
 obtain ⟨v4,q1,h⟩:=bs h
 obtain ⟨v5,q2,h⟩:=bs h
 obtain ⟨v6,q3,h⟩:=bs h
 refine rg j0<|u<|mv j0<|u<|sc [0,1] (file_reader_num_ok v1 v2 v3 q1) j0 j0 j0 j0 ⟨(.mpt j0),j5⟩ ⟨⟨_,j0,⟨(.msl j0),(rnI j0),(rnI j0),j5⟩⟩,⟨j0,mkI (fun _=>j0)⟩,j5⟩<|r_can (env0:=[(0,.mpt 0 0 0),(2,.mpt 2 0 0),(4,iA v4.1)]) (st0:=[some (3,[[.msl 1 0 (List.length v1),.isl 1 (List.map byteRow v4.2.1),bA v4.2.2]]),some (1,List.map rStr v1),some (3,[[iA 0,.lit (.slice none 0 0),.lit (.slice none 0 0)]])]) ⟨[.old 0,.old 1,.old 2],cv j0 (.mpt j0)<|cv j0 (.mpt j0)<|ce j0 j0<|cn,j0,⟨⟨_,j0,rsOne ⟨.msl j0,ci j0,ci j0,j5⟩⟩,⟨_,j0,rsMap (fun _=>j0)⟩,⟨_,j0,rsOne ⟨ci j0,ci j0,ci j0,j5⟩⟩,j5⟩,j0,j1⟩<|u<|mv j0<|u<|mv j0<|u<|mf j0 j0<|u<|sc [0,1] (file_read_string_s2_ok v1 v4.2.1 v4.2.2 q2) j0 j0 j0 j0 ⟨(.mpt j0),(rnFn ⟨(.mpt j0),j5⟩ j5),j5⟩ ⟨⟨_,j0,⟨(.msl j0),(rnI j0),(rnI j0),j5⟩⟩,⟨j0,mkI (fun _=>j0)⟩,j5⟩<|r_can (env0:=[(0,.mpt 0 0 0),(2,.mpt 2 0 0),(4,iA v4.1),(8,.msl 3 0 (List.length v5.1))]) (st0:=[some (3,[[.msl 1 0 (List.length v1),.isl 1 (List.map byteRow v5.2.1),bA v5.2.2]]),some (1,List.map rStr v1),some (3,[[iA 0,.lit (.slice none 0 0),.lit (.slice none 0 0)]]),some (1,List.map rStr v5.1)]) ⟨[.old 0,.old 1,.old 2,.old 3],cv j0 (.mpt j0)<|cv j0 (.mpt j0)<|ce j0 j0<|cv j0 (.msl j0)<|cn,j0,⟨⟨_,j0,rsOne ⟨.msl j0,ci j0,ci j0,j5⟩⟩,⟨_,j0,rsMap (fun _=>j0)⟩,⟨_,j0,rsOne ⟨ci j0,ci j0,ci j0,j5⟩⟩,⟨_,j0,rsMap (fun _=>j0)⟩,j5⟩,j0,j1⟩<|u<|mv j0<|u<|mv j0<|u<|mf j0 j0<|u<|sc [0,1] (file_read_string_s2_ok v1 v5.2.1 v5.2.2 q3) j0 j0 j0 j0 ⟨(.mpt j0),(rnFn ⟨(.mpt j0),j5⟩ j5),j5⟩ ⟨⟨_,j0,⟨(.msl j0),(rnI j0),(rnI j0),j5⟩⟩,⟨j0,mkI (fun _=>j0)⟩,j5⟩<|r_can (env0:=[(2,.mpt 2 0 0),(4,iA v4.1),(8,.msl 3 0 (List.length v5.1)),(12,.msl 4 0 (List.length v6.1))]) (st0:=[some (3,[[.msl 1 0 (List.length v1),.isl 1 (List.map byteRow v6.2.1),bA v6.2.2]]),some (1,List.map rStr v1),some (3,[[iA 0,.lit (.slice none 0 0),.lit (.slice none 0 0)]]),some (1,List.map rStr v5.1),some (1,List.map rStr v6.1)]) ⟨[.old 0,.old 1,.old 2,.old 3,.old 4],cv j0 (.mpt j0)<|ce j0 j0<|cv j0 (.msl j0)<|cv j0 (.msl j0)<|cn,j0,⟨⟨_,j0,rsOne ⟨.msl j0,ci j0,ci j0,j5⟩⟩,⟨_,j0,rsMap (fun _=>j0)⟩,⟨_,j0,rsOne ⟨ci j0,ci j0,ci j0,j5⟩⟩,⟨_,j0,rsMap (fun _=>j0)⟩,⟨_,j0,rsMap (fun _=>j0)⟩,j5⟩,j0,j1⟩<|u<|bd ti39 j0 j0 j0<|u<|sto ti39 j0 j0 j0<|r_nil ?_
 refine sw_ret ?_
 obtain rfl:=sm h
 exact ⟨_,j0,[.old 0,.old 1],rsAgg ⟨(ci j0),(rsSeal j0 j0 (fun _=>j0)),(rsSeal j0 j0 (fun _=>j0)),j5⟩,j0,⟨⟨_,j0,rsOne ⟨.msl j0,ci j0,ci j0,j5⟩⟩,⟨_,j0,rsMap (fun _=>j0)⟩,j5⟩,j0,j1⟩
def file_read_api_Map_k2 (v17 : List ApiMap) (v18 : List UInt8) (v19 : Bool) : Option ((List ApiMap) × (List UInt8) × Bool) :=
  some (v17,v18,v19)
def file_read_api_Map_l1 (v1 : List (List UInt8)) (v11 : List UInt8) (v12 : Bool) (v13 : List ApiMap) (v14 : Int) : Option (Sum ((List UInt8) × Bool × (List ApiMap) × Int) (Sum ((List ApiMap) × (List UInt8) × Bool) ((List ApiMap) × (List UInt8) × Bool))) :=
  cond ((decide (0 < v14)) && (!v12)) ((file_reader_place v1 v11 v12).bind fun v15=>(appP 56 v13 [v15.1]).bind fun v16=>some (.inl (v15.2.1,v15.2.2,v16,(IntKind.i64.wrap (v14 - 1))))) (some (.inr (.inl (v13,v11,v12))))
def file_read_api_Map (v1 : List (List UInt8)) (v2 : List UInt8) (v3 : Bool) : Option ((List ApiMap) × (List UInt8) × Bool) :=
  (file_reader_num v1 v2 v3).bind fun v4=>(loopP (fun z=>file_read_api_Map_l1 v1 z.1 z.2.1 z.2.2.1 z.2.2.2) (v4.2.1,v4.2.2,[],v4.1)).bind fun o=>leave o (fun b=>file_read_api_Map_k2 b.1 b.2.1 b.2.2) some
theorem file_read_api_Map_ok (v1 : List (List UInt8)) (v2 : List UInt8) (v3 : Bool) {r : (List ApiMap) × (List UInt8) × Bool} (h : file_read_api_Map v1 v2 v3 = some r) : SC Tryz.prog 123 [.mpt 0 0 0,.fn (.func 124) [.mpt 0 0 0] []] [.one 3 [.msl 1 0 (List.length v1),.isl 1 (List.map byteRow v2),bA v3],.many 1 (List.map rStr v1)] (.msl 2 0 (List.length r.1)) [.one 3 [.msl 1 0 (List.length v1),.isl 1 (List.map byteRow r.2.1),bA r.2.2],.many 1 (List.map rStr v1),.many 3 (List.map rApiMap r.1)]:=by
 refine ⟨⟨j5,sbOk (sz:=1) (fun _=>j0),sbOk (sz:=3) (fun _=>j0),j5⟩,scall_fn Tryz.func123 j0 (by kernel_rfl) j0 ?_⟩
 unfold file_read_api_Map at h
 refine rg j0<|u<|asg j0<|r_nil ?_
 refine rg j0<|u<|asg j0<|r_nil ?_
 refine sw_seq ?_
 obtain ⟨v4,q1,h⟩:=bs h
 refine rg j0<|u<|mv j0<|u<|sc [0,1] (file_reader_num_ok v1 v2 v3 q1) j0 j0 j0 j0 ⟨(.mpt j0),j5⟩ ⟨⟨_,j0,⟨(.msl j0),(rnI j0),(rnI j0),j5⟩⟩,⟨j0,mkI (fun _=>j0)⟩,j5⟩<|r_can (env0:=[(0,.mpt 0 0 0),(1,.fn (.func 124) [.mpt 0 0 0] []),(5,.lit (.slice none 0 0)),(8,iA v4.1)]) (st0:=[some (3,[[.msl 1 0 (List.length v1),.isl 1 (List.map byteRow v4.2.1),bA v4.2.2]]),some (1,List.map rStr v1)]) ⟨[.old 0,.old 1],cv j0 (.mpt j0)<|cv j0 (rsFn ⟨(.mpt j0),j5⟩ j5)<|ce j0 j0<|ce j0 j0<|cn,j0,⟨⟨_,j0,rsOne ⟨.msl j0,ci j0,ci j0,j5⟩⟩,⟨_,j0,rsMap (fun _=>j0)⟩,j5⟩,j0,j1⟩<|u<|asg j0<|r_nil ?_
 obtain ⟨o,ho,h⟩:=bs h
 refine sw_lpl (X:=(List UInt8) × Bool × (List ApiMap) × Int) (B:=(List ApiMap) × (List UInt8) × Bool) (R:=(List ApiMap) × (List UInt8) × Bool) (fun z=>[(0,.mpt 0 0 0),(1,.fn (.func 124) [.mpt 0 0 0] []),(5,.msl 2 0 (List.length z.2.2.1)),(6,iA z.2.2.2)]) (fun z=>[some (3,[[.msl 1 0 (List.length v1),.isl 1 (List.map byteRow z.1),bA z.2.1]]),some (1,List.map rStr v1),some (3,List.map rApiMap z.2.2.1)]) (fun b=>[(5,.msl 2 0 (List.length b.1))]) (fun b=>[some (3,[[.msl 1 0 (List.length v1),.isl 1 (List.map byteRow b.2.1),bA b.2.2]]),some (1,List.map rStr v1),some (3,List.map rApiMap b.1)]) (fun r env st=>PostF Tryz.prog Tryz.f123 2 (.msl 2 0 (List.length r.1)) [some (3,[[.msl 1 0 (List.length v1),.isl 1 (List.map byteRow r.2.1),bA r.2.2]]),some (1,List.map rStr v1),some (3,List.map rApiMap r.1)] env st) ho ⟨[.old 0,.old 1,.fresh 3],cv j0 (.mpt j0)<|cv j0 (rsFn ⟨(.mpt j0),j5⟩ j5)<|cv j0 (.nilown j0)<|ce j0 j0<|cn,j0,⟨⟨_,j0,rsOne ⟨.msl j0,ci j0,ci j0,j5⟩⟩,⟨_,j0,rsMap (fun _=>j0)⟩,j4,j5⟩,j0,j1⟩ ?_ ?_ ?_
 ·
  rintro ⟨v11,v12,v13,v14⟩ r h
  replace h : file_read_api_Map_l1 v1 v11 v12 v13 v14 = some r:=h
  unfold file_read_api_Map_l1 at h
  refine sw_seq ?_
  refine rg j0<|u<|mv j0<|u<|gtr ti3 j0 j0<|u<|mv j0<|r_and (j:=2) 5 j0 j0 j0 j0 j0 gpn (fun hb6=>g j0 hb6<|mv j0<|g j0 hb6<|nc j0 j0<|g j0 hb6<|fa ti91 j0 j0 j0<|g j0 hb6<|ld ti4 j0 j0<|g j0 hb6<|nt j0<|r_nil (egA [12,13,14,15,16] 5 hb6 j0 j0 j0 j0)) andF<|r_nil ?_
  refine sw_cond j0 (fun hc7=>?_) (fun hc7=>?_)
  ·
   replace h:=bT hc7 h
   refine sw_skip ?_
   refine sw_seq ?_
   refine sw_block ?_
   obtain ⟨v15,q8,h⟩:=bs h
   obtain ⟨v16,q9,h⟩:=bs h
   refine rl j0<|u<|mv j0<|u<|mv j0<|u<|sc [0,1] (file_reader_place_ok v1 v11 v12 q8) j0 j0 j0 j0 ⟨(.mpt j0),j5⟩ ⟨⟨_,j0,⟨(.msl j0),(rnI j0),(rnI j0),j5⟩⟩,⟨j0,mkI (fun _=>j0)⟩,j5⟩<|r_can (env0:=[(0,.mpt 0 0 0),(1,.fn (.func 124) [.mpt 0 0 0] []),(6,iA v14),(20,.msl 2 0 (List.length v13)),(22,.agg [iA v15.1.At,.isl 1 (List.map rStr v15.1.Locals),.isl 1 (List.map rStr v15.1.Stack)])]) (st0:=[some (3,[[.msl 1 0 (List.length v1),.isl 1 (List.map byteRow v15.2.1),bA v15.2.2]]),some (1,List.map rStr v1),some (3,List.map rApiMap v13)]) ⟨[.old 0,.old 1,.old 2],cv j0 (.mpt j0)<|cv j0 (rsFn ⟨(.mpt j0),j5⟩ j5)<|ce j0 j0<|cv j0 (.msl j0)<|ce j0 j0<|cn,j0,⟨⟨_,j0,rsOne ⟨.msl j0,ci j0,ci j0,j5⟩⟩,⟨_,j0,rsMap (fun _=>j0)⟩,⟨_,j0,rsMap (fun _=>j0)⟩,j5⟩,j0,j1⟩<|u<|bl 3 ti32 j0 ti39 j0 (by decide) (by decide) j0 j0 j0<|u<|apM 4 ti32 j0 ti39 j0 j0 (by decide) ti32 j0 j0 j0 j0 (roX (f:=rApiMap) (z:=[v15.1]) j0 j0) (fun _=>j0) j0 q9<|u<|asg j0<|r_nil ?_
   refine rl j0<|u<|mv j0<|u<|sub ti3 j0 j0<|u<|asg j0<|r_nil ?_
   obtain rfl:=sm h
   exact ⟨_,j0,[.old 0,.old 1,.old 4],cv j0 (.mpt j0)<|cv j0 (rsFn ⟨(.mpt j0),j5⟩ j5)<|cv j0 (.msl j0)<|ce j0 j0<|cn,j0,⟨⟨_,j0,rsOne ⟨.msl j0,ci j0,ci j0,j5⟩⟩,⟨_,j0,rsMap (fun _=>j0)⟩,⟨_,j0,rsMap (fun _=>j0)⟩,j5⟩,j0,j1⟩
  ·
   replace h:=bF hc7 h
   refine sw_exit ?_
   obtain rfl:=sm h
   exact ⟨j0,_,j0,[.old 0,.old 1,.old 2],cv j0 (.msl j0)<|cn,j0,⟨⟨_,j0,rsOne ⟨.msl j0,ci j0,ci j0,j5⟩⟩,⟨_,j0,rsMap (fun _=>j0)⟩,⟨_,j0,rsMap (fun _=>j0)⟩,j5⟩,j0,j1⟩
 ·
  rintro ⟨v17,v18,v19⟩ rfl
  replace h : file_read_api_Map_k2 v17 v18 v19 = some r:=h
  unfold file_read_api_Map_k2 at h
  refine ow_intro ?_
  refine rg j0<|u<|mv j0<|u<|asg j0<|r_nil ?_
  refine sw_ret ?_
  obtain rfl:=sm h
  exact ⟨_,j0,[.old 0,.old 1,.old 2],.msl j0,j0,⟨⟨_,j0,rsOne ⟨.msl j0,ci j0,ci j0,j5⟩⟩,⟨_,j0,rsMap (fun _=>j0)⟩,⟨_,j0,rsMap (fun _=>j0)⟩,j5⟩,j0,j1⟩
 ·
  rintro r' rfl env st hp
  obtain rfl:=sm h
  exact hp
def file_reader_trap (v1 : List (List UInt8)) (v2 : List UInt8) (v3 : Bool) : Option (ApiTrap × (List UInt8) × Bool) :=
  (file_reader_num v1 v2 v3).bind fun v4=>(file_reader_num v1 v4.2.1 v4.2.2).bind fun v5=>(file_reader_num v1 v5.2.1 v5.2.2).bind fun v6=>(file_reader_text v1 v6.2.1 v6.2.2).bind fun v7=>some ((ApiTrap.mk v4.1 v5.1 v6.1 v7.1),v7.2.1,v7.2.2)
theorem file_reader_trap_ok (v1 : List (List UInt8)) (v2 : List UInt8) (v3 : Bool) {r : ApiTrap × (List UInt8) × Bool} (h : file_reader_trap v1 v2 v3 = some r) : SC Tryz.prog 126 [.mpt 0 0 0] [.one 3 [.msl 1 0 (List.length v1),.isl 1 (List.map byteRow v2),bA v3],.many 1 (List.map rStr v1)] (.agg [iA r.1.From,iA r.1.To,iA r.1.At,sA r.1.C]) [.one 3 [.msl 1 0 (List.length v1),.isl 1 (List.map byteRow r.2.1),bA r.2.2],.many 1 (List.map rStr v1)]:=by
 refine ⟨⟨j5,sbOk (sz:=1) (fun _=>j0),j5⟩,scall_fn Tryz.func126 j0 (by kernel_rfl) j0 ?_⟩
 unfold file_reader_trap at h
 refine rg j0<|u<|al 2 ti113 j0<|r_nil ?_
 obtain ⟨v4,q1,h⟩:=bs h
 obtain ⟨v5,q2,h⟩:=bs h
 obtain ⟨v6,q3,h⟩:=bs h
 obtain ⟨v7,q4,h⟩:=bs h
 refine rg j0<|u<|mv j0<|u<|sc [0,1] (file_reader_num_ok v1 v2 v3 q1) j0 j0 j0 j0 ⟨(.mpt j0),j5⟩ ⟨⟨_,j0,⟨(.msl j0),(rnI j0),(rnI j0),j5⟩⟩,⟨j0,mkI (fun _=>j0)⟩,j5⟩<|r_can (env0:=[(0,.mpt 0 0 0),(2,.mpt 2 0 0),(4,iA v4.1)]) (st0:=[some (3,[[.msl 1 0 (List.length v1),.isl 1 (List.map byteRow v4.2.1),bA v4.2.2]]),some (1,List.map rStr v1),some (4,[[iA 0,iA 0,iA 0,sA []]])]) ⟨[.old 0,.old 1,.old 2],cv j0 (.mpt j0)<|cv j0 (.mpt j0)<|ce j0 j0<|cn,j0,⟨⟨_,j0,rsOne ⟨.msl j0,ci j0,ci j0,j5⟩⟩,⟨_,j0,rsMap (fun _=>j0)⟩,⟨_,j0,rsOne ⟨ci j0,ci j0,ci j0,ci j0,j5⟩⟩,j5⟩,j0,j1⟩<|u<|mv j0<|u<|sc [0,1] (file_reader_num_ok v1 v4.2.1 v4.2.2 q2) j0 j0 j0 j0 ⟨(.mpt j0),j5⟩ ⟨⟨_,j0,⟨(.msl j0),(rnI j0),(rnI j0),j5⟩⟩,⟨j0,mkI (fun _=>j0)⟩,j5⟩<|r_can (env0:=[(0,.mpt 0 0 0),(2,.mpt 2 0 0),(4,iA v4.1),(6,iA v5.1)]) (st0:=[some (3,[[.msl 1 0 (List.length v1),.isl 1 (List.map byteRow v5.2.1),bA v5.2.2]]),some (1,List.map rStr v1),some (4,[[iA 0,iA 0,iA 0,sA []]])]) ⟨[.old 0,.old 1,.old 2],cv j0 (.mpt j0)<|cv j0 (.mpt j0)<|ce j0 j0<|ce j0 j0<|cn,j0,⟨⟨_,j0,rsOne ⟨.msl j0,ci j0,ci j0,j5⟩⟩,⟨_,j0,rsMap (fun _=>j0)⟩,⟨_,j0,rsOne ⟨ci j0,ci j0,ci j0,ci j0,j5⟩⟩,j5⟩,j0,j1⟩<|u<|mv j0<|u<|sc [0,1] (file_reader_num_ok v1 v5.2.1 v5.2.2 q3) j0 j0 j0 j0 ⟨(.mpt j0),j5⟩ ⟨⟨_,j0,⟨(.msl j0),(rnI j0),(rnI j0),j5⟩⟩,⟨j0,mkI (fun _=>j0)⟩,j5⟩<|r_can (env0:=[(0,.mpt 0 0 0),(2,.mpt 2 0 0),(4,iA v4.1),(6,iA v5.1),(8,iA v6.1)]) (st0:=[some (3,[[.msl 1 0 (List.length v1),.isl 1 (List.map byteRow v6.2.1),bA v6.2.2]]),some (1,List.map rStr v1),some (4,[[iA 0,iA 0,iA 0,sA []]])]) ⟨[.old 0,.old 1,.old 2],cv j0 (.mpt j0)<|cv j0 (.mpt j0)<|ce j0 j0<|ce j0 j0<|ce j0 j0<|cn,j0,⟨⟨_,j0,rsOne ⟨.msl j0,ci j0,ci j0,j5⟩⟩,⟨_,j0,rsMap (fun _=>j0)⟩,⟨_,j0,rsOne ⟨ci j0,ci j0,ci j0,ci j0,j5⟩⟩,j5⟩,j0,j1⟩<|u<|mv j0<|u<|sc [0,1] (file_reader_text_ok v1 v6.2.1 v6.2.2 q4) j0 j0 j0 j0 ⟨(.mpt j0),j5⟩ ⟨⟨_,j0,⟨(.msl j0),(rnI j0),(rnI j0),j5⟩⟩,⟨j0,mkI (fun _=>j0)⟩,j5⟩<|r_can (env0:=[(2,.mpt 2 0 0),(4,iA v4.1),(6,iA v5.1),(8,iA v6.1),(10,sA v7.1)]) (st0:=[some (3,[[.msl 1 0 (List.length v1),.isl 1 (List.map byteRow v7.2.1),bA v7.2.2]]),some (1,List.map rStr v1),some (4,[[iA 0,iA 0,iA 0,sA []]])]) ⟨[.old 0,.old 1,.old 2],cv j0 (.mpt j0)<|ce j0 j0<|ce j0 j0<|ce j0 j0<|ce j0 j0<|cn,j0,⟨⟨_,j0,rsOne ⟨.msl j0,ci j0,ci j0,j5⟩⟩,⟨_,j0,rsMap (fun _=>j0)⟩,⟨_,j0,rsOne ⟨ci j0,ci j0,ci j0,ci j0,j5⟩⟩,j5⟩,j0,j1⟩<|u<|bd ti113 j0 j0 j0<|u<|sto ti113 j0 j0 j0<|r_nil ?_
 refine sw_ret ?_
 obtain rfl:=sm h
 exact ⟨_,j0,[.old 0,.old 1],ci j0,j0,⟨⟨_,j0,rsOne ⟨.msl j0,ci j0,ci j0,j5⟩⟩,⟨_,j0,rsMap (fun _=>j0)⟩,j5⟩,j0,j1⟩
def file_read_api_Trap_k2 (v17 : List ApiTrap) (v18 : List UInt8) (v19 : Bool) : Option ((List ApiTrap) × (List UInt8) × Bool) :=
  some (v17,v18,v19)
def file_read_api_Trap_l1 (v1 : List (List UInt8)) (v11 : List UInt8) (v12 : Bool) (v13 : List ApiTrap) (v14 : Int) : Option (Sum ((List UInt8) × Bool × (List ApiTrap) × Int) (Sum ((List ApiTrap) × (List UInt8) × Bool) ((List ApiTrap) × (List UInt8) × Bool))) :=
  cond ((decide (0 < v14)) && (!v12)) ((file_reader_trap v1 v11 v12).bind fun v15=>(appP 40 v13 [v15.1]).bind fun v16=>some (.inl (v15.2.1,v15.2.2,v16,(IntKind.i64.wrap (v14 - 1))))) (some (.inr (.inl (v13,v11,v12))))
def file_read_api_Trap (v1 : List (List UInt8)) (v2 : List UInt8) (v3 : Bool) : Option ((List ApiTrap) × (List UInt8) × Bool) :=
  (file_reader_num v1 v2 v3).bind fun v4=>(loopP (fun z=>file_read_api_Trap_l1 v1 z.1 z.2.1 z.2.2.1 z.2.2.2) (v4.2.1,v4.2.2,[],v4.1)).bind fun o=>leave o (fun b=>file_read_api_Trap_k2 b.1 b.2.1 b.2.2) some
theorem file_read_api_Trap_ok (v1 : List (List UInt8)) (v2 : List UInt8) (v3 : Bool) {r : (List ApiTrap) × (List UInt8) × Bool} (h : file_read_api_Trap v1 v2 v3 = some r) : SC Tryz.prog 125 [.mpt 0 0 0,.fn (.func 126) [.mpt 0 0 0] []] [.one 3 [.msl 1 0 (List.length v1),.isl 1 (List.map byteRow v2),bA v3],.many 1 (List.map rStr v1)] (.msl 2 0 (List.length r.1)) [.one 3 [.msl 1 0 (List.length v1),.isl 1 (List.map byteRow r.2.1),bA r.2.2],.many 1 (List.map rStr v1),.many 4 (List.map rApiTrap r.1)]:=by
 refine ⟨⟨j5,sbOk (sz:=1) (fun _=>j0),sbOk (sz:=4) (fun _=>j0),j5⟩,scall_fn Tryz.func125 j0 (by kernel_rfl) j0 ?_⟩
 unfold file_read_api_Trap at h
 refine rg j0<|u<|asg j0<|r_nil ?_
 refine rg j0<|u<|asg j0<|r_nil ?_
 refine sw_seq ?_
 obtain ⟨v4,q1,h⟩:=bs h
 refine rg j0<|u<|mv j0<|u<|sc [0,1] (file_reader_num_ok v1 v2 v3 q1) j0 j0 j0 j0 ⟨(.mpt j0),j5⟩ ⟨⟨_,j0,⟨(.msl j0),(rnI j0),(rnI j0),j5⟩⟩,⟨j0,mkI (fun _=>j0)⟩,j5⟩<|r_can (env0:=[(0,.mpt 0 0 0),(1,.fn (.func 126) [.mpt 0 0 0] []),(5,.lit (.slice none 0 0)),(8,iA v4.1)]) (st0:=[some (3,[[.msl 1 0 (List.length v1),.isl 1 (List.map byteRow v4.2.1),bA v4.2.2]]),some (1,List.map rStr v1)]) ⟨[.old 0,.old 1],cv j0 (.mpt j0)<|cv j0 (rsFn ⟨(.mpt j0),j5⟩ j5)<|ce j0 j0<|ce j0 j0<|cn,j0,⟨⟨_,j0,rsOne ⟨.msl j0,ci j0,ci j0,j5⟩⟩,⟨_,j0,rsMap (fun _=>j0)⟩,j5⟩,j0,j1⟩<|u<|asg j0<|r_nil ?_
 obtain ⟨o,ho,h⟩:=bs h
 refine sw_lpl (X:=(List UInt8) × Bool × (List ApiTrap) × Int) (B:=(List ApiTrap) × (List UInt8) × Bool) (R:=(List ApiTrap) × (List UInt8) × Bool) (fun z=>[(0,.mpt 0 0 0),(1,.fn (.func 126) [.mpt 0 0 0] []),(5,.msl 2 0 (List.length z.2.2.1)),(6,iA z.2.2.2)]) (fun z=>[some (3,[[.msl 1 0 (List.length v1),.isl 1 (List.map byteRow z.1),bA z.2.1]]),some (1,List.map rStr v1),some (4,List.map rApiTrap z.2.2.1)]) (fun b=>[(5,.msl 2 0 (List.length b.1))]) (fun b=>[some (3,[[.msl 1 0 (List.length v1),.isl 1 (List.map byteRow b.2.1),bA b.2.2]]),some (1,List.map rStr v1),some (4,List.map rApiTrap b.1)]) (fun r env st=>PostF Tryz.prog Tryz.f125 2 (.msl 2 0 (List.length r.1)) [some (3,[[.msl 1 0 (List.length v1),.isl 1 (List.map byteRow r.2.1),bA r.2.2]]),some (1,List.map rStr v1),some (4,List.map rApiTrap r.1)] env st) ho ⟨[.old 0,.old 1,.fresh 4],cv j0 (.mpt j0)<|cv j0 (rsFn ⟨(.mpt j0),j5⟩ j5)<|cv j0 (.nilown j0)<|ce j0 j0<|cn,j0,⟨⟨_,j0,rsOne ⟨.msl j0,ci j0,ci j0,j5⟩⟩,⟨_,j0,rsMap (fun _=>j0)⟩,j4,j5⟩,j0,j1⟩ ?_ ?_ ?_
 ·
  rintro ⟨v11,v12,v13,v14⟩ r h
  replace h : file_read_api_Trap_l1 v1 v11 v12 v13 v14 = some r:=h
  unfold file_read_api_Trap_l1 at h
  refine sw_seq ?_
  refine rg j0<|u<|mv j0<|u<|gtr ti3 j0 j0<|u<|mv j0<|r_and (j:=2) 5 j0 j0 j0 j0 j0 gpn (fun hb6=>g j0 hb6<|mv j0<|g j0 hb6<|nc j0 j0<|g j0 hb6<|fa ti91 j0 j0 j0<|g j0 hb6<|ld ti4 j0 j0<|g j0 hb6<|nt j0<|r_nil (egA [12,13,14,15,16] 5 hb6 j0 j0 j0 j0)) andF<|r_nil ?_
  refine sw_cond j0 (fun hc7=>?_) (fun hc7=>?_)
  ·
   replace h:=bT hc7 h
   refine sw_skip ?_
   refine sw_seq ?_
   refine sw_block ?_
   obtain ⟨v15,q8,h⟩:=bs h
   obtain ⟨v16,q9,h⟩:=bs h
   refine rl j0<|u<|mv j0<|u<|mv j0<|u<|sc [0,1] (file_reader_trap_ok v1 v11 v12 q8) j0 j0 j0 j0 ⟨(.mpt j0),j5⟩ ⟨⟨_,j0,⟨(.msl j0),(rnI j0),(rnI j0),j5⟩⟩,⟨j0,mkI (fun _=>j0)⟩,j5⟩<|r_can (env0:=[(0,.mpt 0 0 0),(1,.fn (.func 126) [.mpt 0 0 0] []),(6,iA v14),(20,.msl 2 0 (List.length v13)),(22,.agg [iA v15.1.From,iA v15.1.To,iA v15.1.At,sA v15.1.C])]) (st0:=[some (3,[[.msl 1 0 (List.length v1),.isl 1 (List.map byteRow v15.2.1),bA v15.2.2]]),some (1,List.map rStr v1),some (4,List.map rApiTrap v13)]) ⟨[.old 0,.old 1,.old 2],cv j0 (.mpt j0)<|cv j0 (rsFn ⟨(.mpt j0),j5⟩ j5)<|ce j0 j0<|cv j0 (.msl j0)<|ce j0 j0<|cn,j0,⟨⟨_,j0,rsOne ⟨.msl j0,ci j0,ci j0,j5⟩⟩,⟨_,j0,rsMap (fun _=>j0)⟩,⟨_,j0,rsMap (fun _=>j0)⟩,j5⟩,j0,j1⟩<|u<|bl 3 ti33 j0 ti113 j0 (by decide) (by decide) j0 j0 j0<|u<|apM 4 ti33 j0 ti113 j0 j0 (by decide) ti33 j0 j0 j0 j0 (roX (f:=rApiTrap) (z:=[v15.1]) j0 j0) (fun _=>j0) j0 q9<|u<|asg j0<|r_nil ?_
   refine rl j0<|u<|mv j0<|u<|sub ti3 j0 j0<|u<|asg j0<|r_nil ?_
   obtain rfl:=sm h
   exact ⟨_,j0,[.old 0,.old 1,.old 4],cv j0 (.mpt j0)<|cv j0 (rsFn ⟨(.mpt j0),j5⟩ j5)<|cv j0 (.msl j0)<|ce j0 j0<|cn,j0,⟨⟨_,j0,rsOne ⟨.msl j0,ci j0,ci j0,j5⟩⟩,⟨_,j0,rsMap (fun _=>j0)⟩,⟨_,j0,rsMap (fun _=>j0)⟩,j5⟩,j0,j1⟩
  ·
   replace h:=bF hc7 h
   refine sw_exit ?_
   obtain rfl:=sm h
   exact ⟨j0,_,j0,[.old 0,.old 1,.old 2],cv j0 (.msl j0)<|cn,j0,⟨⟨_,j0,rsOne ⟨.msl j0,ci j0,ci j0,j5⟩⟩,⟨_,j0,rsMap (fun _=>j0)⟩,⟨_,j0,rsMap (fun _=>j0)⟩,j5⟩,j0,j1⟩
 ·
  rintro ⟨v17,v18,v19⟩ rfl
  replace h : file_read_api_Trap_k2 v17 v18 v19 = some r:=h
  unfold file_read_api_Trap_k2 at h
  refine ow_intro ?_
  refine rg j0<|u<|mv j0<|u<|asg j0<|r_nil ?_
  refine sw_ret ?_
  obtain rfl:=sm h
  exact ⟨_,j0,[.old 0,.old 1,.old 2],.msl j0,j0,⟨⟨_,j0,rsOne ⟨.msl j0,ci j0,ci j0,j5⟩⟩,⟨_,j0,rsMap (fun _=>j0)⟩,⟨_,j0,rsMap (fun _=>j0)⟩,j5⟩,j0,j1⟩
 ·
  rintro r' rfl env st hp
  obtain rfl:=sm h
  exact hp
def file_reader_method (v1 : List (List UInt8)) (v2 : List UInt8) (v3 : Bool) : Option (ApiMethod × (List UInt8) × Bool) :=
  (file_reader_text v1 v2 v3).bind fun v4=>(file_read_string_s2 v1 v4.2.1 v4.2.2).bind fun v5=>(file_reader_text v1 v5.2.1 v5.2.2).bind fun v6=>(file_reader_truth v1 v6.2.1 v6.2.2).bind fun v7=>(file_reader_truth v1 v7.2.1 v7.2.2).bind fun v8=>(file_reader_num v1 v8.2.1 v8.2.2).bind fun v9=>(file_reader_num v1 v9.2.1 v9.2.2).bind fun v10=>(file_read_api_Ins v1 v10.2.1 v10.2.2).bind fun v11=>(file_read_api_Map v1 v11.2.1 v11.2.2).bind fun v12=>(file_read_api_Trap v1 v12.2.1 v12.2.2).bind fun v13=>some ((ApiMethod.mk v4.1 v5.1 v6.1 v7.1 v8.1 v9.1 v10.1 v11.1 v12.1 v13.1),v13.2.1,v13.2.2)
theorem file_reader_method_ok (v1 : List (List UInt8)) (v2 : List UInt8) (v3 : Bool) {r : ApiMethod × (List UInt8) × Bool} (h : file_reader_method v1 v2 v3 = some r) : SC Tryz.prog 71 [.mpt 0 0 0] [.one 3 [.msl 1 0 (List.length v1),.isl 1 (List.map byteRow v2),bA v3],.many 1 (List.map rStr v1)] (.agg [sA r.1.Name,.isl 1 (List.map rStr r.1.Params),sA r.1.Ret,bA r.1.Static,bA r.1.Abstract,iA r.1.Locals,iA r.1.Stack,.isl 4 (List.map rApiIns r.1.Code),.isl 3 (List.map rApiMap r.1.Maps),.isl 4 (List.map rApiTrap r.1.Traps)]) [.one 3 [.msl 1 0 (List.length v1),.isl 1 (List.map byteRow r.2.1),bA r.2.2],.many 1 (List.map rStr v1)]:=by
 refine ⟨⟨j5,sbOk (sz:=1) (fun _=>j0),j5⟩,scall_fn Tryz.func71 j0 (by kernel_rfl) j0 ?_⟩
 unfold file_reader_method at h
 refine rg j0<|u<|al 2 ti35 j0<|r_nil ?_
 obtain ⟨v4,q1,h⟩:=bs h
 obtain ⟨v5,q2,h⟩:=bs h
 obtain ⟨v6,q3,h⟩:=bs h
 obtain ⟨v7,q4,h⟩:=bs h
 obtain ⟨v8,q5,h⟩:=bs h
 refine rg j0<|u<|mv j0<|u<|sc [0,1] (file_reader_text_ok v1 v2 v3 q1) j0 j0 j0 j0 ⟨(.mpt j0),j5⟩ ⟨⟨_,j0,⟨(.msl j0),(rnI j0),(rnI j0),j5⟩⟩,⟨j0,mkI (fun _=>j0)⟩,j5⟩<|r_can (env0:=[(0,.mpt 0 0 0),(2,.mpt 2 0 0),(5,sA v4.1)]) (st0:=[some (3,[[.msl 1 0 (List.length v1),.isl 1 (List.map byteRow v4.2.1),bA v4.2.2]]),some (1,List.map rStr v1),some (10,[[sA [],.lit (.slice none 0 0),sA [],bA false,bA false,iA 0,iA 0,.lit (.slice none 0 0),.lit (.slice none 0 0),.lit (.slice none 0 0)]])]) ⟨[.old 0,.old 1,.old 2],cv j0 (.mpt j0)<|cv j0 (.mpt j0)<|ce j0 j0<|cn,j0,⟨⟨_,j0,rsOne ⟨.msl j0,ci j0,ci j0,j5⟩⟩,⟨_,j0,rsMap (fun _=>j0)⟩,⟨_,j0,rsOne ⟨ci j0,ci j0,ci j0,ci j0,ci j0,ci j0,ci j0,ci j0,ci j0,ci j0,j5⟩⟩,j5⟩,j0,j1⟩<|u<|mv j0<|u<|mv j0<|u<|mf j0 j0<|u<|sc [0,1] (file_read_string_s2_ok v1 v4.2.1 v4.2.2 q2) j0 j0 j0 j0 ⟨(.mpt j0),(rnFn ⟨(.mpt j0),j5⟩ j5),j5⟩ ⟨⟨_,j0,⟨(.msl j0),(rnI j0),(rnI j0),j5⟩⟩,⟨j0,mkI (fun _=>j0)⟩,j5⟩<|r_can (env0:=[(0,.mpt 0 0 0),(2,.mpt 2 0 0),(5,sA v4.1),(9,.msl 3 0 (List.length v5.1))]) (st0:=[some (3,[[.msl 1 0 (List.length v1),.isl 1 (List.map byteRow v5.2.1),bA v5.2.2]]),some (1,List.map rStr v1),some (10,[[sA [],.lit (.slice none 0 0),sA [],bA false,bA false,iA 0,iA 0,.lit (.slice none 0 0),.lit (.slice none 0 0),.lit (.slice none 0 0)]]),some (1,List.map rStr v5.1)]) ⟨[.old 0,.old 1,.old 2,.old 3],cv j0 (.mpt j0)<|cv j0 (.mpt j0)<|ce j0 j0<|cv j0 (.msl j0)<|cn,j0,⟨⟨_,j0,rsOne ⟨.msl j0,ci j0,ci j0,j5⟩⟩,⟨_,j0,rsMap (fun _=>j0)⟩,⟨_,j0,rsOne ⟨ci j0,ci j0,ci j0,ci j0,ci j0,ci j0,ci j0,ci j0,ci j0,ci j0,j5⟩⟩,⟨_,j0,rsMap (fun _=>j0)⟩,j5⟩,j0,j1⟩<|u<|mv j0<|u<|sc [0,1] (file_reader_text_ok v1 v5.2.1 v5.2.2 q3) j0 j0 j0 j0 ⟨(.mpt j0),j5⟩ ⟨⟨_,j0,⟨(.msl j0),(rnI j0),(rnI j0),j5⟩⟩,⟨j0,mkI (fun _=>j0)⟩,j5⟩<|r_can (env0:=[(0,.mpt 0 0 0),(2,.mpt 2 0 0),(5,sA v4.1),(9,.msl 3 0 (List.length v5.1)),(11,sA v6.1)]) (st0:=[some (3,[[.msl 1 0 (List.length v1),.isl 1 (List.map byteRow v6.2.1),bA v6.2.2]]),some (1,List.map rStr v1),some (10,[[sA [],.lit (.slice none 0 0),sA [],bA false,bA false,iA 0,iA 0,.lit (.slice none 0 0),.lit (.slice none 0 0),.lit (.slice none 0 0)]]),some (1,List.map rStr v5.1)]) ⟨[.old 0,.old 1,.old 2,.old 3],cv j0 (.mpt j0)<|cv j0 (.mpt j0)<|ce j0 j0<|cv j0 (.msl j0)<|ce j0 j0<|cn,j0,⟨⟨_,j0,rsOne ⟨.msl j0,ci j0,ci j0,j5⟩⟩,⟨_,j0,rsMap (fun _=>j0)⟩,⟨_,j0,rsOne ⟨ci j0,ci j0,ci j0,ci j0,ci j0,ci j0,ci j0,ci j0,ci j0,ci j0,j5⟩⟩,⟨_,j0,rsMap (fun _=>j0)⟩,j5⟩,j0,j1⟩<|u<|mv j0<|u<|sc [0,1] (file_reader_truth_ok v1 v6.2.1 v6.2.2 q4) j0 j0 j0 j0 ⟨(.mpt j0),j5⟩ ⟨⟨_,j0,⟨(.msl j0),(rnI j0),(rnI j0),j5⟩⟩,⟨j0,mkI (fun _=>j0)⟩,j5⟩<|r_can (env0:=[(0,.mpt 0 0 0),(2,.mpt 2 0 0),(5,sA v4.1),(9,.msl 3 0 (List.length v5.1)),(11,sA v6.1),(13,bA v7.1)]) (st0:=[some (3,[[.msl 1 0 (List.length v1),.isl 1 (List.map byteRow v7.2.1),bA v7.2.2]]),some (1,List.map rStr v1),some (10,[[sA [],.lit (.slice none 0 0),sA [],bA false,bA false,iA 0,iA 0,.lit (.slice none 0 0),.lit (.slice none 0 0),.lit (.slice none 0 0)]]),some (1,List.map rStr v5.1)]) ⟨[.old 0,.old 1,.old 2,.old 3],cv j0 (.mpt j0)<|cv j0 (.mpt j0)<|ce j0 j0<|cv j0 (.msl j0)<|ce j0 j0<|ce j0 j0<|cn,j0,⟨⟨_,j0,rsOne ⟨.msl j0,ci j0,ci j0,j5⟩⟩,⟨_,j0,rsMap (fun _=>j0)⟩,⟨_,j0,rsOne ⟨ci j0,ci j0,ci j0,ci j0,ci j0,ci j0,ci j0,ci j0,ci j0,ci j0,j5⟩⟩,⟨_,j0,rsMap (fun _=>j0)⟩,j5⟩,j0,j1⟩<|u<|mv j0<|u<|sc [0,1] (file_reader_truth_ok v1 v7.2.1 v7.2.2 q5) j0 j0 j0 j0 ⟨(.mpt j0),j5⟩ ⟨⟨_,j0,⟨(.msl j0),(rnI j0),(rnI j0),j5⟩⟩,⟨j0,mkI (fun _=>j0)⟩,j5⟩<|r_can (env0:=[(0,.mpt 0 0 0),(2,.mpt 2 0 0),(5,sA v4.1),(9,.msl 3 0 (List.length v5.1)),(11,sA v6.1),(13,bA v7.1),(15,bA v8.1)]) (st0:=[some (3,[[.msl 1 0 (List.length v1),.isl 1 (List.map byteRow v8.2.1),bA v8.2.2]]),some (1,List.map rStr v1),some (10,[[sA [],.lit (.slice none 0 0),sA [],bA false,bA false,iA 0,iA 0,.lit (.slice none 0 0),.lit (.slice none 0 0),.lit (.slice none 0 0)]]),some (1,List.map rStr v5.1)]) ⟨[.old 0,.old 1,.old 2,.old 3],cv j0 (.mpt j0)<|cv j0 (.mpt j0)<|ce j0 j0<|cv j0 (.msl j0)<|ce j0 j0<|ce j0 j0<|ce j0 j0<|cn,j0,⟨⟨_,j0,rsOne ⟨.msl j0,ci j0,ci j0,j5⟩⟩,⟨_,j0,rsMap (fun _=>j0)⟩,⟨_,j0,rsOne ⟨ci j0,ci j0,ci j0,ci j0,ci j0,ci j0,ci j0,ci j0,ci j0,ci j0,j5⟩⟩,⟨_,j0,rsMap (fun _=>j0)⟩,j5⟩,j0,j1⟩<|u<|bd ti35 j0 j0 j0<|u<|al 4 ti35 j0<|u<|sto ti35 j0 j0 j0<|r_nil ?_
 obtain ⟨v9,q6,h⟩:=bs h
 obtain ⟨v10,q7,h⟩:=bs h
 refine rg j0<|u<|mv j0<|u<|sc [0,1] (file_reader_num_ok v1 v8.2.1 v8.2.2 q6) j0 j0 j0 j0 ⟨(.mpt j0),j5⟩ ⟨⟨_,j0,⟨(.msl j0),(rnI j0),(rnI j0),j5⟩⟩,⟨j0,mkI (fun _=>j0)⟩,j5⟩<|r_can (env0:=[(0,.mpt 0 0 0),(2,.mpt 2 0 0),(3,.mpt 3 0 0),(18,iA v9.1)]) (st0:=[some (3,[[.msl 1 0 (List.length v1),.isl 1 (List.map byteRow v9.2.1),bA v9.2.2]]),some (1,List.map rStr v1),some (10,[[sA [],.lit (.slice none 0 0),sA [],bA false,bA false,iA 0,iA 0,.lit (.slice none 0 0),.lit (.slice none 0 0),.lit (.slice none 0 0)]]),some (10,[[sA v4.1,.msl 4 0 (List.length v5.1),sA v6.1,bA v7.1,bA v8.1,iA 0,iA 0,.lit (.slice none 0 0),.lit (.slice none 0 0),.lit (.slice none 0 0)]]),some (1,List.map rStr v5.1)]) ⟨[.old 0,.old 1,.old 2,.old 4,.old 3],cv j0 (.mpt j0)<|cv j0 (.mpt j0)<|cv j0 (.mpt j0)<|ce j0 j0<|cn,j0,⟨⟨_,j0,rsOne ⟨.msl j0,ci j0,ci j0,j5⟩⟩,⟨_,j0,rsMap (fun _=>j0)⟩,⟨_,j0,rsOne ⟨ci j0,ci j0,ci j0,ci j0,ci j0,ci j0,ci j0,ci j0,ci j0,ci j0,j5⟩⟩,⟨_,j0,rsOne ⟨ci j0,.msl j0,ci j0,ci j0,ci j0,ci j0,ci j0,ci j0,ci j0,ci j0,j5⟩⟩,⟨_,j0,rsMap (fun _=>j0)⟩,j5⟩,j0,j1⟩<|u<|mv j0<|u<|sc [0,1] (file_reader_num_ok v1 v9.2.1 v9.2.2 q7) j0 j0 j0 j0 ⟨(.mpt j0),j5⟩ ⟨⟨_,j0,⟨(.msl j0),(rnI j0),(rnI j0),j5⟩⟩,⟨j0,mkI (fun _=>j0)⟩,j5⟩<|r_can (env0:=[(0,.mpt 0 0 0),(2,.mpt 2 0 0),(3,.mpt 3 0 0),(18,iA v9.1),(20,iA v10.1)]) (st0:=[some (3,[[.msl 1 0 (List.length v1),.isl 1 (List.map byteRow v10.2.1),bA v10.2.2]]),some (1,List.map rStr v1),some (10,[[sA [],.lit (.slice none 0 0),sA [],bA false,bA false,iA 0,iA 0,.lit (.slice none 0 0),.lit (.slice none 0 0),.lit (.slice none 0 0)]]),some (10,[[sA v4.1,.msl 4 0 (List.length v5.1),sA v6.1,bA v7.1,bA v8.1,iA 0,iA 0,.lit (.slice none 0 0),.lit (.slice none 0 0),.lit (.slice none 0 0)]]),some (1,List.map rStr v5.1)]) ⟨[.old 0,.old 1,.old 2,.old 3,.old 4],cv j0 (.mpt j0)<|cv j0 (.mpt j0)<|cv j0 (.mpt j0)<|ce j0 j0<|ce j0 j0<|cn,j0,⟨⟨_,j0,rsOne ⟨.msl j0,ci j0,ci j0,j5⟩⟩,⟨_,j0,rsMap (fun _=>j0)⟩,⟨_,j0,rsOne ⟨ci j0,ci j0,ci j0,ci j0,ci j0,ci j0,ci j0,ci j0,ci j0,ci j0,j5⟩⟩,⟨_,j0,rsOne ⟨ci j0,.msl j0,ci j0,ci j0,ci j0,ci j0,ci j0,ci j0,ci j0,ci j0,j5⟩⟩,⟨_,j0,rsMap (fun _=>j0)⟩,j5⟩,j0,j1⟩<|u<|fa ti35 j0 j0 j0<|u<|sto ti3 j0 j0 j0<|u<|fa ti35 j0 j0 j0<|u<|sto ti3 j0 j0 j0<|r_nil ?_
 obtain ⟨v11,q8,h⟩:=bs h
 obtain ⟨v12,q9,h⟩:=bs h
 obtain ⟨v13,q10,h⟩:=bs h
 refine rg j0<|u<|mv j0<|u<|mv j0<|u<|mf j0 j0<|u<|sc [0,1] (file_read_api_Ins_ok v1 v10.2.1 v10.2.2 q8) j0 j0 j0 j0 ⟨(.mpt j0),(rnFn ⟨(.mpt j0),j5⟩ j5),j5⟩ ⟨⟨_,j0,⟨(.msl j0),(rnI j0),(rnI j0),j5⟩⟩,⟨j0,mkI (fun _=>j0)⟩,j5⟩<|r_can (env0:=[(0,.mpt 0 0 0),(2,.mpt 2 0 0),(3,.mpt 3 0 0),(26,.msl 5 0 (List.length v11.1))]) (st0:=[some (3,[[.msl 1 0 (List.length v1),.isl 1 (List.map byteRow v11.2.1),bA v11.2.2]]),some (1,List.map rStr v1),some (10,[[sA [],.lit (.slice none 0 0),sA [],bA false,bA false,iA 0,iA 0,.lit (.slice none 0 0),.lit (.slice none 0 0),.lit (.slice none 0 0)]]),some (10,[[sA v4.1,.msl 4 0 (List.length v5.1),sA v6.1,bA v7.1,bA v8.1,iA v9.1,iA v10.1,.lit (.slice none 0 0),.lit (.slice none 0 0),.lit (.slice none 0 0)]]),some (1,List.map rStr v5.1),some (4,List.map rApiIns v11.1)]) ⟨[.old 0,.old 1,.old 2,.old 3,.old 4,.old 5],cv j0 (.mpt j0)<|cv j0 (.mpt j0)<|cv j0 (.mpt j0)<|cv j0 (.msl j0)<|cn,j0,⟨⟨_,j0,rsOne ⟨.msl j0,ci j0,ci j0,j5⟩⟩,⟨_,j0,rsMap (fun _=>j0)⟩,⟨_,j0,rsOne ⟨ci j0,ci j0,ci j0,ci j0,ci j0,ci j0,ci j0,ci j0,ci j0,ci j0,j5⟩⟩,⟨_,j0,rsOne ⟨ci j0,.msl j0,ci j0,ci j0,ci j0,ci j0,ci j0,ci j0,ci j0,ci j0,j5⟩⟩,⟨_,j0,rsMap (fun _=>j0)⟩,⟨_,j0,rsMap (fun _=>j0)⟩,j5⟩,j0,j1⟩<|u<|mv j0<|u<|mv j0<|u<|mf j0 j0<|u<|sc [0,1] (file_read_api_Map_ok v1 v11.2.1 v11.2.2 q9) j0 j0 j0 j0 ⟨(.mpt j0),(rnFn ⟨(.mpt j0),j5⟩ j5),j5⟩ ⟨⟨_,j0,⟨(.msl j0),(rnI j0),(rnI j0),j5⟩⟩,⟨j0,mkI (fun _=>j0)⟩,j5⟩<|r_can (env0:=[(0,.mpt 0 0 0),(2,.mpt 2 0 0),(3,.mpt 3 0 0),(26,.msl 5 0 (List.length v11.1)),(30,.msl 6 0 (List.length v12.1))]) (st0:=[some (3,[[.msl 1 0 (List.length v1),.isl 1 (List.map byteRow v12.2.1),bA v12.2.2]]),some (1,List.map rStr v1),some (10,[[sA [],.lit (.slice none 0 0),sA [],bA false,bA false,iA 0,iA 0,.lit (.slice none 0 0),.lit (.slice none 0 0),.lit (.slice none 0 0)]]),some (10,[[sA v4.1,.msl 4 0 (List.length v5.1),sA v6.1,bA v7.1,bA v8.1,iA v9.1,iA v10.1,.lit (.slice none 0 0),.lit (.slice none 0 0),.lit (.slice none 0 0)]]),some (1,List.map rStr v5.1),some (4,List.map rApiIns v11.1),some (3,List.map rApiMap v12.1)]) ⟨[.old 0,.old 1,.old 2,.old 3,.old 4,.old 5,.old 6],cv j0 (.mpt j0)<|cv j0 (.mpt j0)<|cv j0 (.mpt j0)<|cv j0 (.msl j0)<|cv j0 (.msl j0)<|cn,j0,⟨⟨_,j0,rsOne ⟨.msl j0,ci j0,ci j0,j5⟩⟩,⟨_,j0,rsMap (fun _=>j0)⟩,⟨_,j0,rsOne ⟨ci j0,ci j0,ci j0,ci j0,ci j0,ci j0,ci j0,ci j0,ci j0,ci j0,j5⟩⟩,⟨_,j0,rsOne ⟨ci j0,.msl j0,ci j0,ci j0,ci j0,ci j0,ci j0,ci j0,ci j0,ci j0,j5⟩⟩,⟨_,j0,rsMap (fun _=>j0)⟩,⟨_,j0,rsMap (fun _=>j0)⟩,⟨_,j0,rsMap (fun _=>j0)⟩,j5⟩,j0,j1⟩<|u<|mv j0<|u<|mv j0<|u<|mf j0 j0<|u<|sc [0,1] (file_read_api_Trap_ok v1 v12.2.1 v12.2.2 q10) j0 j0 j0 j0 ⟨(.mpt j0),(rnFn ⟨(.mpt j0),j5⟩ j5),j5⟩ ⟨⟨_,j0,⟨(.msl j0),(rnI j0),(rnI j0),j5⟩⟩,⟨j0,mkI (fun _=>j0)⟩,j5⟩<|r_can (env0:=[(2,.mpt 2 0 0),(3,.mpt 3 0 0),(26,.msl 5 0 (List.length v11.1)),(30,.msl 6 0 (List.length v12.1)),(34,.msl 7 0 (List.length v13.1))]) (st0:=[some (3,[[.msl 1 0 (List.length v1),.isl 1 (List.map byteRow v13.2.1),bA v13.2.2]]),some (1,List.map rStr v1),some (10,[[sA [],.lit (.slice none 0 0),sA [],bA false,bA false,iA 0,iA 0,.lit (.slice none 0 0),.lit (.slice none 0 0),.lit (.slice none 0 0)]]),some (10,[[sA v4.1,.msl 4 0 (List.length v5.1),sA v6.1,bA v7.1,bA v8.1,iA v9.1,iA v10.1,.lit (.slice none 0 0),.lit (.slice none 0 0),.lit (.slice none 0 0)]]),some (1,List.map rStr v5.1),some (4,List.map rApiIns v11.1),some (3,List.map rApiMap v12.1),some (4,List.map rApiTrap v13.1)]) ⟨[.old 0,.old 1,.old 2,.old 3,.old 4,.old 5,.old 6,.old 7],cv j0 (.mpt j0)<|cv j0 (.mpt j0)<|cv j0 (.msl j0)<|cv j0 (.msl j0)<|cv j0 (.msl j0)<|cn,j0,⟨⟨_,j0,rsOne ⟨.msl j0,ci j0,ci j0,j5⟩⟩,⟨_,j0,rsMap (fun _=>j0)⟩,⟨_,j0,rsOne ⟨ci j0,ci j0,ci j0,ci j0,ci j0,ci j0,ci j0,ci j0,ci j0,ci j0,j5⟩⟩,⟨_,j0,rsOne ⟨ci j0,.msl j0,ci j0,ci j0,ci j0,ci j0,ci j0,ci j0,ci j0,ci j0,j5⟩⟩,⟨_,j0,rsMap (fun _=>j0)⟩,⟨_,j0,rsMap (fun _=>j0)⟩,⟨_,j0,rsMap (fun _=>j0)⟩,⟨_,j0,rsMap (fun _=>j0)⟩,j5⟩,j0,j1⟩<|u<|fa ti35 j0 j0 j0<|u<|sto ti31 j0 j0 j0<|u<|fa ti35 j0 j0 j0<|u<|sto ti32 j0 j0 j0<|u<|fa ti35 j0 j0 j0<|u<|sto ti33 j0 j0 j0<|r_nil ?_
 refine rg j0<|u<|ld ti35 j0 j0<|u<|sto ti35 j0 j0 j0<|r_nil ?_
 refine sw_ret ?_
 obtain rfl:=sm h
 exact ⟨_,j0,[.old 0,.old 1],rsAgg ⟨(ci j0),(rsSeal j0 j0 (fun _=>j0)),(ci j0),(ci j0),(ci j0),(ci j0),(ci j0),(rsSeal j0 j0 (fun _=>j0)),(rsSeal j0 j0 (fun _=>j0)),(rsSeal j0 j0 (fun _=>j0)),j5⟩,j0,⟨⟨_,j0,rsOne ⟨.msl j0,ci j0,ci j0,j5⟩⟩,⟨_,j0,rsMap (fun _=>j0)⟩,j5⟩,j0,j1⟩
def file_read_api_Method_k2 (v17 : List ApiMethod) (v18 : List UInt8) (v19 : Bool) : Option ((List ApiMethod) × (List UInt8) × Bool) :=
  some (v17,v18,v19)
def file_read_api_Method_l1 (v1 : List (List UInt8)) (v11 : List UInt8) (v12 : Bool) (v13 : List ApiMethod) (v14 : Int) : Option (Sum ((List UInt8) × Bool × (List ApiMethod) × Int) (Sum ((List ApiMethod) × (List UInt8) × Bool) ((List ApiMethod) × (List UInt8) × Bool))) :=
  cond ((decide (0 < v14)) && (!v12)) ((file_reader_method v1 v11 v12).bind fun v15=>(appP 152 v13 [v15.1]).bind fun v16=>some (.inl (v15.2.1,v15.2.2,v16,(IntKind.i64.wrap (v14 - 1))))) (some (.inr (.inl (v13,v11,v12))))
def file_read_api_Method (v1 : List (List UInt8)) (v2 : List UInt8) (v3 : Bool) : Option ((List ApiMethod) × (List UInt8) × Bool) :=
  (file_reader_num v1 v2 v3).bind fun v4=>(loopP (fun z=>file_read_api_Method_l1 v1 z.1 z.2.1 z.2.2.1 z.2.2.2) (v4.2.1,v4.2.2,[],v4.1)).bind fun o=>leave o (fun b=>file_read_api_Method_k2 b.1 b.2.1 b.2.2) some
theorem file_read_api_Method_ok (v1 : List (List UInt8)) (v2 : List UInt8) (v3 : Bool) {r : (List ApiMethod) × (List UInt8) × Bool} (h : file_read_api_Method v1 v2 v3 = some r) : SC Tryz.prog 70 [.mpt 0 0 0,.fn (.func 71) [.mpt 0 0 0] []] [.one 3 [.msl 1 0 (List.length v1),.isl 1 (List.map byteRow v2),bA v3],.many 1 (List.map rStr v1)] (.msl 2 0 (List.length r.1)) [.one 3 [.msl 1 0 (List.length v1),.isl 1 (List.map byteRow r.2.1),bA r.2.2],.many 1 (List.map rStr v1),.many 10 (List.map rApiMethod r.1)]:=by
 refine ⟨⟨j5,sbOk (sz:=1) (fun _=>j0),sbOk (sz:=10) (fun _=>j0),j5⟩,scall_fn Tryz.func70 j0 (by kernel_rfl) j0 ?_⟩
 unfold file_read_api_Method at h
 refine rg j0<|u<|asg j0<|r_nil ?_
 refine rg j0<|u<|asg j0<|r_nil ?_
 refine sw_seq ?_
 obtain ⟨v4,q1,h⟩:=bs h
 refine rg j0<|u<|mv j0<|u<|sc [0,1] (file_reader_num_ok v1 v2 v3 q1) j0 j0 j0 j0 ⟨(.mpt j0),j5⟩ ⟨⟨_,j0,⟨(.msl j0),(rnI j0),(rnI j0),j5⟩⟩,⟨j0,mkI (fun _=>j0)⟩,j5⟩<|r_can (env0:=[(0,.mpt 0 0 0),(1,.fn (.func 71) [.mpt 0 0 0] []),(5,.lit (.slice none 0 0)),(8,iA v4.1)]) (st0:=[some (3,[[.msl 1 0 (List.length v1),.isl 1 (List.map byteRow v4.2.1),bA v4.2.2]]),some (1,List.map rStr v1)]) ⟨[.old 0,.old 1],cv j0 (.mpt j0)<|cv j0 (rsFn ⟨(.mpt j0),j5⟩ j5)<|ce j0 j0<|ce j0 j0<|cn,j0,⟨⟨_,j0,rsOne ⟨.msl j0,ci j0,ci j0,j5⟩⟩,⟨_,j0,rsMap (fun _=>j0)⟩,j5⟩,j0,j1⟩<|u<|asg j0<|r_nil ?_
 obtain ⟨o,ho,h⟩:=bs h
 refine sw_lpl (X:=(List UInt8) × Bool × (List ApiMethod) × Int) (B:=(List ApiMethod) × (List UInt8) × Bool) (R:=(List ApiMethod) × (List UInt8) × Bool) (fun z=>[(0,.mpt 0 0 0),(1,.fn (.func 71) [.mpt 0 0 0] []),(5,.msl 2 0 (List.length z.2.2.1)),(6,iA z.2.2.2)]) (fun z=>[some (3,[[.msl 1 0 (List.length v1),.isl 1 (List.map byteRow z.1),bA z.2.1]]),some (1,List.map rStr v1),some (10,List.map rApiMethod z.2.2.1)]) (fun b=>[(5,.msl 2 0 (List.length b.1))]) (fun b=>[some (3,[[.msl 1 0 (List.length v1),.isl 1 (List.map byteRow b.2.1),bA b.2.2]]),some (1,List.map rStr v1),some (10,List.map rApiMethod b.1)]) (fun r env st=>PostF Tryz.prog Tryz.f70 2 (.msl 2 0 (List.length r.1)) [some (3,[[.msl 1 0 (List.length v1),.isl 1 (List.map byteRow r.2.1),bA r.2.2]]),some (1,List.map rStr v1),some (10,List.map rApiMethod r.1)] env st) ho ⟨[.old 0,.old 1,.fresh 10],cv j0 (.mpt j0)<|cv j0 (rsFn ⟨(.mpt j0),j5⟩ j5)<|cv j0 (.nilown j0)<|ce j0 j0<|cn,j0,⟨⟨_,j0,rsOne ⟨.msl j0,ci j0,ci j0,j5⟩⟩,⟨_,j0,rsMap (fun _=>j0)⟩,j4,j5⟩,j0,j1⟩ ?_ ?_ ?_
 ·
  rintro ⟨v11,v12,v13,v14⟩ r h
  replace h : file_read_api_Method_l1 v1 v11 v12 v13 v14 = some r:=h
  unfold file_read_api_Method_l1 at h
  refine sw_seq ?_
  refine rg j0<|u<|mv j0<|u<|gtr ti3 j0 j0<|u<|mv j0<|r_and (j:=2) 5 j0 j0 j0 j0 j0 gpn (fun hb6=>g j0 hb6<|mv j0<|g j0 hb6<|nc j0 j0<|g j0 hb6<|fa ti91 j0 j0 j0<|g j0 hb6<|ld ti4 j0 j0<|g j0 hb6<|nt j0<|r_nil (egA [12,13,14,15,16] 5 hb6 j0 j0 j0 j0)) andF<|r_nil ?_
  refine sw_cond j0 (fun hc7=>?_) (fun hc7=>?_)
  ·
   replace h:=bT hc7 h
   refine sw_skip ?_
   refine sw_seq ?_
   refine sw_block ?_
   obtain ⟨v15,q8,h⟩:=bs h
   obtain ⟨v16,q9,h⟩:=bs h
   refine rl j0<|u<|mv j0<|u<|mv j0<|u<|sc [0,1] (file_reader_method_ok v1 v11 v12 q8) j0 j0 j0 j0 ⟨(.mpt j0),j5⟩ ⟨⟨_,j0,⟨(.msl j0),(rnI j0),(rnI j0),j5⟩⟩,⟨j0,mkI (fun _=>j0)⟩,j5⟩<|r_can (env0:=[(0,.mpt 0 0 0),(1,.fn (.func 71) [.mpt 0 0 0] []),(6,iA v14),(20,.msl 2 0 (List.length v13)),(22,.agg [sA v15.1.Name,.isl 1 (List.map rStr v15.1.Params),sA v15.1.Ret,bA v15.1.Static,bA v15.1.Abstract,iA v15.1.Locals,iA v15.1.Stack,.isl 4 (List.map rApiIns v15.1.Code),.isl 3 (List.map rApiMap v15.1.Maps),.isl 4 (List.map rApiTrap v15.1.Traps)])]) (st0:=[some (3,[[.msl 1 0 (List.length v1),.isl 1 (List.map byteRow v15.2.1),bA v15.2.2]]),some (1,List.map rStr v1),some (10,List.map rApiMethod v13)]) ⟨[.old 0,.old 1,.old 2],cv j0 (.mpt j0)<|cv j0 (rsFn ⟨(.mpt j0),j5⟩ j5)<|ce j0 j0<|cv j0 (.msl j0)<|ce j0 j0<|cn,j0,⟨⟨_,j0,rsOne ⟨.msl j0,ci j0,ci j0,j5⟩⟩,⟨_,j0,rsMap (fun _=>j0)⟩,⟨_,j0,rsMap (fun _=>j0)⟩,j5⟩,j0,j1⟩<|u<|bl 3 ti26 j0 ti35 j0 (by decide) (by decide) j0 j0 j0<|u<|apM 4 ti26 j0 ti35 j0 j0 (by decide) ti26 j0 j0 j0 j0 (roX (f:=rApiMethod) (z:=[v15.1]) j0 j0) (fun _=>j0) j0 q9<|u<|asg j0<|r_nil ?_
   refine rl j0<|u<|mv j0<|u<|sub ti3 j0 j0<|u<|asg j0<|r_nil ?_
   obtain rfl:=sm h
   exact ⟨_,j0,[.old 0,.old 1,.old 4],cv j0 (.mpt j0)<|cv j0 (rsFn ⟨(.mpt j0),j5⟩ j5)<|cv j0 (.msl j0)<|ce j0 j0<|cn,j0,⟨⟨_,j0,rsOne ⟨.msl j0,ci j0,ci j0,j5⟩⟩,⟨_,j0,rsMap (fun _=>j0)⟩,⟨_,j0,rsMap (fun _=>j0)⟩,j5⟩,j0,j1⟩
  ·
   replace h:=bF hc7 h
   refine sw_exit ?_
   obtain rfl:=sm h
   exact ⟨j0,_,j0,[.old 0,.old 1,.old 2],cv j0 (.msl j0)<|cn,j0,⟨⟨_,j0,rsOne ⟨.msl j0,ci j0,ci j0,j5⟩⟩,⟨_,j0,rsMap (fun _=>j0)⟩,⟨_,j0,rsMap (fun _=>j0)⟩,j5⟩,j0,j1⟩
 ·
  rintro ⟨v17,v18,v19⟩ rfl
  replace h : file_read_api_Method_k2 v17 v18 v19 = some r:=h
  unfold file_read_api_Method_k2 at h
  refine ow_intro ?_
  refine rg j0<|u<|mv j0<|u<|asg j0<|r_nil ?_
  refine sw_ret ?_
  obtain rfl:=sm h
  exact ⟨_,j0,[.old 0,.old 1,.old 2],.msl j0,j0,⟨⟨_,j0,rsOne ⟨.msl j0,ci j0,ci j0,j5⟩⟩,⟨_,j0,rsMap (fun _=>j0)⟩,⟨_,j0,rsMap (fun _=>j0)⟩,j5⟩,j0,j1⟩
 ·
  rintro r' rfl env st hp
  obtain rfl:=sm h
  exact hp
def file_EncodeO_k2 (v8 : (List (List UInt8)) × (List UInt8)) (v18 : List UInt8) : Option ((Option (List UInt8))) :=
  (appP 1 v18 v8.2).bind fun v19=>cond (decide (6000 < ((List.length v19) : Int))) (some none) (some (some v19))
def file_EncodeO_l1 (v8 : (List (List UInt8)) × (List UInt8)) (v14 : List UInt8) (v15 : Int) : Option (Sum ((List UInt8) × Int) (Sum ((List UInt8)) ((Option (List UInt8))))) :=
  cond (decide (v15 < ((List.length v8.1) : Int))) ((idx v8.1 v15).bind fun v16=>(num_PutText v14 v16).bind fun v17=>some (.inl (v17,(IntKind.i64.wrap (v15 + 1))))) (some (.inr (.inl v14)))
def file_EncodeO (v1 : ApiClass) : Option ((Option (List UInt8))) :=
  (class_May v1).bind fun v2=>cond (!v2) (some none) ((file_writer_text [] [] v1.Name).bind fun v3=>(file_writer_text v3.1 v3.2 v1.Super).bind fun v4=>(file_writer_truth v4.1 v4.2 v1.Interface).bind fun v5=>(file_list_string v4.1 v5 v1.Impl).bind fun v6=>(file_list_api_Field v6.1 v6.2 v1.Fields).bind fun v7=>(file_list_api_Method v7.1 v7.2 v1.Methods).bind fun v8=>(num_Put [(74 : UInt8),(65 : UInt8),(86 : UInt8),(65 : UInt8)] ((List.length v8.1) : Int)).bind fun v9=>(loopP (fun z=>file_EncodeO_l1 v8 z.1 z.2) (v9,0)).bind fun o=>leave o (fun b=>file_EncodeO_k2 v8 b) some)
theorem file_EncodeO_ok (v1 : ApiClass) {r : Option (List UInt8)} (h : file_EncodeO v1 = some r) : SC Tryz.prog 15 [.agg [sA v1.Name,sA v1.Super,bA v1.Interface,.isl 1 (List.map rStr v1.Impl),.isl 3 (List.map rApiField v1.Fields),.isl 10 (List.map rApiMethod v1.Methods)]] [] (optR r) (optB r):=by
 refine ⟨optOk r,scall_fn Tryz.func15 j0 (by kernel_rfl) j0 ?_⟩
 unfold file_EncodeO at h
 refine rg j0<|u<|bx 0 6 j0 j0 j0 j0<|u<|asg j0<|r_nil ?_
 refine sw_seq ?_
 obtain ⟨v2,q1,h⟩:=bs h
 refine rg j0<|u<|ld ti28 j0 j0<|u<|pc (class_May_ok v1 q1) j0 j0 j0<|u<|nt j0<|r_nil ?_
 refine sw_cond j0 (fun hc2=>?_) (fun hc2=>?_)
 ·
  replace h:=bT hc2 h
  refine rg j0<|u<|asg j0<|r_nil ?_
  refine sw_ret ?_
  obtain rfl:=sm h
  exact ⟨_,j0,[],ci j0,j0,j5,j0,j1⟩
 ·
  replace h:=bF hc2 h
  refine sw_skip ?_
  refine rg j0<|u<|bd ti71 j0 j0 j0<|u<|bx 1 2 j0 j0 j0 j0<|u<|asg j0<|r_nil ?_
  obtain ⟨v3,q3,h⟩:=bs h
  refine rg j0<|u<|mv j0<|u<|fa ti28 j0 j0 j0<|u<|ld ti9 j0 j0<|ph 1<|ph 1<|u<|sc [1,2,3] (file_writer_text_ok [] [] v1.Name q3) j0 j0 j0 j0 ⟨(.mpt j0),(rnI j0),j5⟩ ⟨⟨_,j0,⟨(.nil0 j0),(.nil0 j0),j5⟩⟩,⟨j0,mkI (fun _=>j0)⟩,⟨j0,mkI (fun _=>j0)⟩,j5⟩<|r_can (env0:=[(1,.mpt 0 0 0),(3,.mpt 1 0 0)]) (st0:=[some (6,[[sA v1.Name,sA v1.Super,bA v1.Interface,.isl 1 (List.map rStr v1.Impl),.isl 3 (List.map rApiField v1.Fields),.isl 10 (List.map rApiMethod v1.Methods)]]),some (2,[[.msl 2 0 (List.length v3.1),.msl 3 0 (List.length v3.2)]]),some (1,List.map rStr v3.1),some (1,List.map byteRow v3.2)]) ⟨[.old 0,.old 1,.old 4,.old 5],cv j0 (.mpt j0)<|cv j0 (.mpt j0)<|cn,j0,⟨⟨_,j0,rsOne ⟨ci j0,ci j0,ci j0,ci j0,ci j0,ci j0,j5⟩⟩,⟨_,j0,rsOne ⟨.msl j0,.msl j0,j5⟩⟩,⟨_,j0,rsMap (fun _=>j0)⟩,⟨_,j0,rsMap (fun _=>j0)⟩,j5⟩,j0,j1⟩<|r_nil ?_
  obtain ⟨v4,q4,h⟩:=bs h
  refine rg j0<|u<|mv j0<|u<|fa ti28 j0 j0 j0<|u<|ld ti9 j0 j0<|u<|sc [1,2,3] (file_writer_text_ok v3.1 v3.2 v1.Super q4) j0 j0 j0 j0 ⟨(.mpt j0),(rnI j0),j5⟩ ⟨⟨_,j0,⟨(.msl j0),(.msl j0),j5⟩⟩,⟨j0,mkI (fun _=>j0)⟩,⟨j0,mkI (fun _=>j0)⟩,j5⟩<|r_can (env0:=[(1,.mpt 0 0 0),(3,.mpt 1 0 0)]) (st0:=[some (6,[[sA v1.Name,sA v1.Super,bA v1.Interface,.isl 1 (List.map rStr v1.Impl),.isl 3 (List.map rApiField v1.Fields),.isl 10 (List.map rApiMethod v1.Methods)]]),some (2,[[.msl 2 0 (List.length v4.1),.msl 3 0 (List.length v4.2)]]),some (1,List.map rStr v4.1),some (1,List.map byteRow v4.2)]) ⟨[.old 0,.old 1,.old 4,.old 5],cv j0 (.mpt j0)<|cv j0 (.mpt j0)<|cn,j0,⟨⟨_,j0,rsOne ⟨ci j0,ci j0,ci j0,ci j0,ci j0,ci j0,j5⟩⟩,⟨_,j0,rsOne ⟨.msl j0,.msl j0,j5⟩⟩,⟨_,j0,rsMap (fun _=>j0)⟩,⟨_,j0,rsMap (fun _=>j0)⟩,j5⟩,j0,j1⟩<|r_nil ?_
  obtain ⟨v5,q5,h⟩:=bs h
  refine rg j0<|u<|mv j0<|u<|fa ti28 j0 j0 j0<|u<|ld ti4 j0 j0<|u<|sc [1,2,3] (file_writer_truth_ok v4.1 v4.2 v1.Interface q5) j0 j0 j0 j0 ⟨(.mpt j0),(rnI j0),j5⟩ ⟨⟨_,j0,⟨(.msl j0),(.msl j0),j5⟩⟩,⟨j0,mkI (fun _=>j0)⟩,⟨j0,mkI (fun _=>j0)⟩,j5⟩<|r_can (env0:=[(1,.mpt 0 0 0),(3,.mpt 1 0 0)]) (st0:=[some (6,[[sA v1.Name,sA v1.Super,bA v1.Interface,.isl 1 (List.map rStr v1.Impl),.isl 3 (List.map rApiField v1.Fields),.isl 10 (List.map rApiMethod v1.Methods)]]),some (2,[[.msl 2 0 (List.length v4.1),.msl 3 0 (List.length v5)]]),some (1,List.map rStr v4.1),some (1,List.map byteRow v5)]) ⟨[.old 0,.old 1,.old 2,.old 4],cv j0 (.mpt j0)<|cv j0 (.mpt j0)<|cn,j0,⟨⟨_,j0,rsOne ⟨ci j0,ci j0,ci j0,ci j0,ci j0,ci j0,j5⟩⟩,⟨_,j0,rsOne ⟨.msl j0,.msl j0,j5⟩⟩,⟨_,j0,rsMap (fun _=>j0)⟩,⟨_,j0,rsMap (fun _=>j0)⟩,j5⟩,j0,j1⟩<|r_nil ?_
  obtain ⟨v6,q6,h⟩:=bs h
  refine rg j0<|u<|mv j0<|u<|fa ti28 j0 j0 j0<|u<|ld ti24 j0 j0<|u<|mv j0<|u<|mf j0 j0<|u<|sc [1,2,3] (file_list_string_ok v4.1 v5 v1.Impl q6) j0 j0 j0 j0 ⟨(.mpt j0),(rnI j0),(rnFn ⟨(.mpt j0),j5⟩ j5),j5⟩ ⟨⟨_,j0,⟨(.msl j0),(.msl j0),j5⟩⟩,⟨j0,mkI (fun _=>j0)⟩,⟨j0,mkI (fun _=>j0)⟩,j5⟩<|r_can (env0:=[(1,.mpt 0 0 0),(3,.mpt 1 0 0)]) (st0:=[some (6,[[sA v1.Name,sA v1.Super,bA v1.Interface,.isl 1 (List.map rStr v1.Impl),.isl 3 (List.map rApiField v1.Fields),.isl 10 (List.map rApiMethod v1.Methods)]]),some (2,[[.msl 2 0 (List.length v6.1),.msl 3 0 (List.length v6.2)]]),some (1,List.map rStr v6.1),some (1,List.map byteRow v6.2)]) ⟨[.old 0,.old 1,.old 4,.old 5],cv j0 (.mpt j0)<|cv j0 (.mpt j0)<|cn,j0,⟨⟨_,j0,rsOne ⟨ci j0,ci j0,ci j0,ci j0,ci j0,ci j0,j5⟩⟩,⟨_,j0,rsOne ⟨.msl j0,.msl j0,j5⟩⟩,⟨_,j0,rsMap (fun _=>j0)⟩,⟨_,j0,rsMap (fun _=>j0)⟩,j5⟩,j0,j1⟩<|r_nil ?_
  obtain ⟨v7,q7,h⟩:=bs h
  refine rg j0<|u<|mv j0<|u<|fa ti28 j0 j0 j0<|u<|ld ti25 j0 j0<|u<|mv j0<|u<|mf j0 j0<|u<|sc [1,2,3] (file_list_api_Field_ok v6.1 v6.2 v1.Fields q7) j0 j0 j0 j0 ⟨(.mpt j0),(rnI j0),(rnFn ⟨(.mpt j0),j5⟩ j5),j5⟩ ⟨⟨_,j0,⟨(.msl j0),(.msl j0),j5⟩⟩,⟨j0,mkI (fun _=>j0)⟩,⟨j0,mkI (fun _=>j0)⟩,j5⟩<|r_can (env0:=[(1,.mpt 0 0 0),(3,.mpt 1 0 0)]) (st0:=[some (6,[[sA v1.Name,sA v1.Super,bA v1.Interface,.isl 1 (List.map rStr v1.Impl),.isl 3 (List.map rApiField v1.Fields),.isl 10 (List.map rApiMethod v1.Methods)]]),some (2,[[.msl 2 0 (List.length v7.1),.msl 3 0 (List.length v7.2)]]),some (1,List.map rStr v7.1),some (1,List.map byteRow v7.2)]) ⟨[.old 0,.old 1,.old 4,.old 5],cv j0 (.mpt j0)<|cv j0 (.mpt j0)<|cn,j0,⟨⟨_,j0,rsOne ⟨ci j0,ci j0,ci j0,ci j0,ci j0,ci j0,j5⟩⟩,⟨_,j0,rsOne ⟨.msl j0,.msl j0,j5⟩⟩,⟨_,j0,rsMap (fun _=>j0)⟩,⟨_,j0,rsMap (fun _=>j0)⟩,j5⟩,j0,j1⟩<|r_nil ?_
  obtain ⟨v8,q8,h⟩:=bs h
  refine rg j0<|u<|mv j0<|u<|fa ti28 j0 j0 j0<|u<|ld ti26 j0 j0<|u<|mv j0<|u<|mf j0 j0<|u<|sc [1,2,3] (file_list_api_Method_ok v7.1 v7.2 v1.Methods q8) j0 j0 j0 j0 ⟨(.mpt j0),(rnI j0),(rnFn ⟨(.mpt j0),j5⟩ j5),j5⟩ ⟨⟨_,j0,⟨(.msl j0),(.msl j0),j5⟩⟩,⟨j0,mkI (fun _=>j0)⟩,⟨j0,mkI (fun _=>j0)⟩,j5⟩<|r_can (env0:=[(3,.mpt 0 0 0)]) (st0:=[some (2,[[.msl 1 0 (List.length v8.1),.msl 2 0 (List.length v8.2)]]),some (1,List.map rStr v8.1),some (1,List.map byteRow v8.2)]) ⟨[.old 1,.old 4,.old 5],cv j0 (.mpt j0)<|cn,j0,⟨⟨_,j0,rsOne ⟨.msl j0,.msl j0,j5⟩⟩,⟨_,j0,rsMap (fun _=>j0)⟩,⟨_,j0,rsMap (fun _=>j0)⟩,j5⟩,j0,j1⟩<|r_nil ?_
  obtain ⟨v9,q9,h⟩:=bs h
  refine rg j0<|u<|bl 3 ti43 j0 ti5 j0 (by decide) (by decide) j0 j0 j0<|u<|cvl ti43 j0 ti5 j0 j0 j0 j0<|u<|mv j0<|u<|nc j0 j0<|u<|fa ti71 j0 j0 j0<|u<|ld ti24 j0 j0<|u<|lnM ti24 j0 j0 j0<|u<|sc [3] (num_Put_ok [(74 : UInt8),(65 : UInt8),(86 : UInt8),(65 : UInt8)] ((List.length v8.1) : Int) q9) j0 j0 j0 j0 ⟨(.msl j0),(rnI j0),j5⟩ ⟨⟨j0,mkI (fun _=>j0)⟩,j5⟩<|r_can (env0:=[(3,.mpt 0 0 0),(49,.msl 3 0 (List.length v9))]) (st0:=[some (2,[[.msl 1 0 (List.length v8.1),.msl 2 0 (List.length v8.2)]]),some (1,List.map rStr v8.1),some (1,List.map byteRow v8.2),some (1,List.map byteRow v9)]) ⟨[.old 0,.old 1,.old 2,.old 4],cv j0 (.mpt j0)<|cv j0 (.msl j0)<|cn,j0,⟨⟨_,j0,rsOne ⟨.msl j0,.msl j0,j5⟩⟩,⟨_,j0,rsMap (fun _=>j0)⟩,⟨_,j0,rsMap (fun _=>j0)⟩,⟨_,j0,rsMap (fun _=>j0)⟩,j5⟩,j0,j1⟩<|u<|asg j0<|r_nil ?_
  refine sw_seq ?_
  refine rg j0<|u<|mv j0<|u<|nc j0 j0<|u<|fa ti71 j0 j0 j0<|u<|ld ti24 j0 j0<|u<|lnM ti24 j0 j0 j0<|u<|mv j0<|r_nil ?_
  obtain ⟨o,ho,h⟩:=bs h
  refine sw_lpl (X:=(List UInt8) × Int) (B:=(List UInt8)) (R:=(Option (List UInt8))) (fun z=>[(3,.mpt 0 0 0),(4,.msl 3 0 (List.length z.1)),(53,.msl 1 0 (List.length v8.1)),(54,iA ((List.length v8.1) : Int)),(55,iA z.2)]) (fun z=>[some (2,[[.msl 1 0 (List.length v8.1),.msl 2 0 (List.length v8.2)]]),some (1,List.map rStr v8.1),some (1,List.map byteRow v8.2),some (1,List.map byteRow z.1)]) (fun b=>[(3,.mpt 0 0 0),(4,.msl 3 0 (List.length b))]) (fun b=>[some (2,[[.msl 1 0 (List.length v8.1),.msl 2 0 (List.length v8.2)]]),some (1,List.map rStr v8.1),some (1,List.map byteRow v8.2),some (1,List.map byteRow b)]) (fun r env st=>PostF Tryz.prog Tryz.f15 0 (optR r) (SBs (optB r)) env st) ho ⟨[.old 0,.old 1,.old 2,.old 3],cv j0 (.mpt j0)<|cv j0 (.msl j0)<|cv j0 (.msl j0)<|ce j0 j0<|ce j0 j0<|cn,j0,⟨⟨_,j0,rsOne ⟨.msl j0,.msl j0,j5⟩⟩,⟨_,j0,rsMap (fun _=>j0)⟩,⟨_,j0,rsMap (fun _=>j0)⟩,⟨_,j0,rsMap (fun _=>j0)⟩,j5⟩,j0,j1⟩ ?_ ?_ ?_
  ·
   rintro ⟨v14,v15⟩ r h
   replace h : file_EncodeO_l1 v8 v14 v15 = some r:=h
   unfold file_EncodeO_l1 at h
   refine rg j0<|u<|lss ti3 j0 j0<|r_nil ?_
   refine sw_seq ?_
   refine sw_cond j0 (fun hc13=>?_) (fun hc13=>?_)
   ·
    replace h:=bT hc13 h
    refine sw_skip ?_
    refine sw_seq ?_
    refine sw_block ?_
    obtain ⟨v16,q14,h⟩:=bs h
    refine rg j0<|u<|ixM ti24 j0 ti9 j0 j0 j0 j0 q14<|u<|ldM ti9 j0 j0 (idx_some q14).2.2 j0<|u<|asg j0<|r_nil ?_
    obtain ⟨v17,q15,h⟩:=bs h
    refine rl j0<|u<|mv j0<|u<|mv j0<|u<|sc [3] (num_PutText_ok v14 v16 q15) j0 j0 j0 j0 ⟨(.msl j0),(rnI j0),j5⟩ ⟨⟨j0,mkI (fun _=>j0)⟩,j5⟩<|r_can (env0:=[(3,.mpt 0 0 0),(53,.msl 1 0 (List.length v8.1)),(54,iA ((List.length v8.1) : Int)),(55,iA v15),(61,.msl 3 0 (List.length v17))]) (st0:=[some (2,[[.msl 1 0 (List.length v8.1),.msl 2 0 (List.length v8.2)]]),some (1,List.map rStr v8.1),some (1,List.map byteRow v8.2),some (1,List.map byteRow v17)]) ⟨[.old 0,.old 1,.old 2,.old 4],cv j0 (.mpt j0)<|cv j0 (.msl j0)<|ce j0 j0<|ce j0 j0<|cv j0 (.msl j0)<|cn,j0,⟨⟨_,j0,rsOne ⟨.msl j0,.msl j0,j5⟩⟩,⟨_,j0,rsMap (fun _=>j0)⟩,⟨_,j0,rsMap (fun _=>j0)⟩,⟨_,j0,rsMap (fun _=>j0)⟩,j5⟩,j0,j1⟩<|u<|asg j0<|r_nil ?_
    refine rl j0<|u<|add ti3 j0 j0<|u<|mv j0<|r_nil ?_
    obtain rfl:=sm h
    exact ⟨_,j0,[.old 0,.old 1,.old 2,.old 3],cv j0 (.mpt j0)<|cv j0 (.msl j0)<|cv j0 (.msl j0)<|ce j0 j0<|ce j0 j0<|cn,j0,⟨⟨_,j0,rsOne ⟨.msl j0,.msl j0,j5⟩⟩,⟨_,j0,rsMap (fun _=>j0)⟩,⟨_,j0,rsMap (fun _=>j0)⟩,⟨_,j0,rsMap (fun _=>j0)⟩,j5⟩,j0,j1⟩
   ·
    replace h:=bF hc13 h
    refine sw_exit ?_
    obtain rfl:=sm h
    exact ⟨j0,_,j0,[.old 0,.old 1,.old 2,.old 3],cv j0 (.mpt j0)<|cv j0 (.msl j0)<|cn,j0,⟨⟨_,j0,rsOne ⟨.msl j0,.msl j0,j5⟩⟩,⟨_,j0,rsMap (fun _=>j0)⟩,⟨_,j0,rsMap (fun _=>j0)⟩,⟨_,j0,rsMap (fun _=>j0)⟩,j5⟩,j0,j1⟩
  ·
   rintro v18 rfl
   replace h : file_EncodeO_k2 v8 v18 = some r:=h
   unfold file_EncodeO_k2 at h
   refine ow_intro ?_
   refine sw_seq ?_
   obtain ⟨v19,q16,h⟩:=bs h
   refine rg j0<|u<|mv j0<|u<|mv j0<|u<|nc j0 j0<|u<|fa ti71 j0 j0 j0<|u<|ld ti43 j0 j0<|u<|apM 4 ti43 j0 ti5 j0 j0 (by decide) ti43 j0 j0 j0 j0 (roM j0) (fun _=>j0) j0 q16<|u<|asg j0<|r_nil ?_
   refine rg j0<|u<|mv j0<|u<|lnM ti43 j0 j0 j0<|u<|gtr ti3 j0 j0<|r_nil ?_
   refine sw_cond j0 (fun hc17=>?_) (fun hc17=>?_)
   ·
    replace h:=bT hc17 h
    refine rg j0<|u<|asg j0<|r_nil ?_
    refine sw_ret ?_
    obtain rfl:=sm h
    exact ⟨_,j0,[],ci j0,j0,j5,j0,j1⟩
   ·
    replace h:=bF hc17 h
    refine sw_skip ?_
    refine rg j0<|u<|mv j0<|u<|asg j0<|r_nil ?_
    refine sw_ret ?_
    obtain rfl:=sm h
    exact ⟨_,j0,[.old 4],.msl j0,j0,⟨⟨_,j0,rsMap (fun _=>j0)⟩,j5⟩,j0,j1⟩
  ·
   rintro r' rfl env st hp
   obtain rfl:=sm h
   exact hp
theorem file_EncodeO_okN (v1 : ApiClass) (h : file_EncodeO v1 = some none) : SC Tryz.prog 15 [.agg [sA v1.Name,sA v1.Super,bA v1.Interface,.isl 1 (List.map rStr v1.Impl),.isl 3 (List.map rApiField v1.Fields),.isl 10 (List.map rApiMethod v1.Methods)]] [] (.lit (.slice none 0 0)) []:=file_EncodeO_ok v1 h
theorem file_EncodeO_okS (v1 : ApiClass) {l : List UInt8} (h : file_EncodeO v1 = some (some l)) : SC Tryz.prog 15 [.agg [sA v1.Name,sA v1.Super,bA v1.Interface,.isl 1 (List.map rStr v1.Impl),.isl 3 (List.map rApiField v1.Fields),.isl 10 (List.map rApiMethod v1.Methods)]] [] (.msl 0 0 (List.length l)) [.many 1 (List.map byteRow l)]:=file_EncodeO_ok v1 h
def bytes_Equal (v1 : List UInt8) (v2 : List UInt8) : Bool :=
  (v1 == v2)
theorem bytes_Equal_ok (v1 : List UInt8) (v2 : List UInt8) {r : Bool} (h : bytes_Equal v1 v2 = r) : PureC Tryz.prog 72 [.isl 1 (List.map byteRow v1),.isl 1 (List.map byteRow v2)] (bA r):=by
 refine pure_fn Tryz.func72 j0 (by kernel_rfl) j0 j0 ?_
 unfold bytes_Equal at h
 refine rg j0<|u<|asg j0<|r_nil ?_
 refine rg j0<|u<|mv j0<|u<|cvt (l:=v1) ti43 ti9 j0 j0 ti5 j0 j0 (fun _ h=>by cases h) roI<|u<|mv j0<|u<|cvt (l:=v2) ti43 ti9 j0 j0 ti5 j0 j0 (fun _ h=>by cases h) roI<|u<|seq ti9 j0 j0<|u<|asg j0<|r_nil ?_
 refine sw_ret ?_
 obtain rfl:=h
 exact ⟨_,j0,[],ci j0,j0,j5,j0,j1⟩
def file_Decode (v1 : List UInt8) : Option (ApiClass × Int) :=
  cond (decide (6000 < (List.length v1 : Int))) (some ((ApiClass.mk [] [] false [] [] []),3)) ((strings_HasPrefix v1 [74,65,86,65]).bind fun v2=>cond (!v2) (some ((ApiClass.mk [] [] false [] [] []),1)) ((cutP v1 4 (List.length v1 : Int)).bind fun v3=>(file_read_string [] v3 false).bind fun v4=>(file_reader_text v4.1 v4.2.1 v4.2.2).bind fun v5=>(file_reader_text v4.1 v5.2.1 v5.2.2).bind fun v6=>(file_reader_truth v4.1 v6.2.1 v6.2.2).bind fun v7=>(file_read_string_s2 v4.1 v7.2.1 v7.2.2).bind fun v8=>(file_read_api_Field v4.1 v8.2.1 v8.2.2).bind fun v9=>(file_read_api_Method v4.1 v9.2.1 v9.2.2).bind fun v10=>(file_EncodeO (ApiClass.mk v5.1 v6.1 v7.1 v8.1 v9.1 v10.1)).bind fun v11=>optC v11 (cond ((v10.2.2 || true) || (!(bytes_Equal [] v1))) (some ((ApiClass.mk [] [] false [] [] []),1)) (some ((ApiClass.mk v5.1 v6.1 v7.1 v8.1 v9.1 v10.1),0))) (fun v12=>(cond v10.2.2 (some true) ((idx v12 0).bind fun v13=>some false)).bind fun v14=>cond (v14 || (!(bytes_Equal v12 v1))) (some ((ApiClass.mk [] [] false [] [] []),1)) (some ((ApiClass.mk v5.1 v6.1 v7.1 v8.1 v9.1 v10.1),0)))))
theorem file_Decode_ok (v1 : List UInt8) {r : ApiClass × Int} (h : file_Decode v1 = some r) : PureC Tryz.prog 17 [.isl 1 (List.map byteRow v1)] (.tup [.agg [sA r.1.Name,sA r.1.Super,bA r.1.Interface,.isl 1 (List.map rStr r.1.Impl),.isl 3 (List.map rApiField r.1.Fields),.isl 10 (List.map rApiMethod r.1.Methods)],iA r.2]):=by
 refine pure_fn Tryz.func17 j0 (by kernel_rfl) j0 j0 ?_
 unfold file_Decode at h
 refine rg j0<|u<|al 0 ti28 j0<|u<|asg j0<|r_nil ?_
 refine sw_seq ?_
 refine rg j0<|u<|mv j0<|u<|lnI ti43 j0 j0<|u<|gtr ti3 j0 j0<|r_nil ?_
 refine sw_cond j0 (fun hc1=>?_) (fun hc1=>?_)
 ·
  replace h:=bT hc1 h
  refine rg j0<|u<|bd ti28 j0 j0 j0<|u<|sto ti28 j0 j0 j0<|u<|asg j0<|r_nil ?_
  refine sw_ret ?_
  obtain rfl:=sm h
  exact ⟨_,j0,[],rsTup ⟨(rsAgg ⟨(ci j0),(ci j0),(ci j0),(.nil),(.nil),(.nil),j5⟩),(ci j0),j5⟩,j0,j5,j0,j1⟩
 ·
  replace h:=bF hc1 h
  refine sw_skip ?_
  refine sw_seq ?_
  obtain ⟨v2,q2,h⟩:=bs h
  refine rg j0<|u<|mv j0<|u<|cvt (l:=v1) ti43 ti9 j0 j0 ti5 j0 j0 (fun _ h=>by cases h) roI<|u<|pc (strings_HasPrefix_ok v1 [74,65,86,65] q2) j0 j0 j0<|u<|nt j0<|r_nil ?_
  refine sw_cond j0 (fun hc3=>?_) (fun hc3=>?_)
  ·
   replace h:=bT hc3 h
   refine rg j0<|u<|bd ti28 j0 j0 j0<|u<|sto ti28 j0 j0 j0<|u<|asg j0<|r_nil ?_
   refine sw_ret ?_
   obtain rfl:=sm h
   exact ⟨_,j0,[],rsTup ⟨(rsAgg ⟨(ci j0),(ci j0),(ci j0),(.nil),(.nil),(.nil),j5⟩),(ci j0),j5⟩,j0,j5,j0,j1⟩
  ·
   replace h:=bF hc3 h
   refine sw_skip ?_
   obtain ⟨v3,q4,h⟩:=bs h
   refine rg j0<|u<|mv j0<|u<|slI (a:=4) (b:=(List.length v1 : Int)) ti43 j0 ti5 j0 j0 (bnd_lo j0 q4) j0 q4<|u<|bd ti91 j0 j0 j0<|u<|bx 1 3 j0 j0 j0 j0<|u<|asg j0<|r_nil ?_
   obtain ⟨v4,q5,h⟩:=bs h
   refine rg j0<|u<|mv j0<|u<|mv j0<|u<|mv j0<|u<|mf j0 j0<|ph 1<|u<|sc [1,2] (file_read_string_ok [] v3 false q5) j0 j0 j0 j0 ⟨(.mpt j0),(rnFn ⟨(.mpt j0),j5⟩ j5),j5⟩ ⟨⟨_,j0,⟨(.nil0 j0),(rnI j0),(rnI j0),j5⟩⟩,⟨j0,mkI (fun _=>j0)⟩,j5⟩<|r_can (env0:=[(0,.isl 1 (List.map byteRow v1)),(2,.mpt 0 0 0),(4,.mpt 1 0 0),(20,.mpt 1 0 0),(24,.msl 3 0 (List.length v4.1))]) (st0:=[some (6,[[sA [],sA [],bA false,.lit (.slice none 0 0),.lit (.slice none 0 0),.lit (.slice none 0 0)]]),some (3,[[.msl 2 0 (List.length []),.isl 1 (List.map byteRow v4.2.1),bA v4.2.2]]),some (1,List.map rStr []),some (1,List.map rStr v4.1)]) ⟨[.old 0,.old 1,.old 2,.old 3],ce j0 j0<|cv j0 (.mpt j0)<|cv j0 (.mpt j0)<|cv j0 (.mpt j0)<|cv j0 (.msl j0)<|cn,j0,⟨⟨_,j0,rsOne ⟨ci j0,ci j0,ci j0,ci j0,ci j0,ci j0,j5⟩⟩,⟨_,j0,rsOne ⟨.msl j0,ci j0,ci j0,j5⟩⟩,⟨_,j0,rsMap (fun _=>j0)⟩,⟨_,j0,rsMap (fun _=>j0)⟩,j5⟩,j0,j1⟩<|u<|nc j0 j0<|u<|fa ti91 j0 j0 j0<|u<|sto ti24 j0 j0 j0<|r_nil ?_
   obtain ⟨v5,q6,h⟩:=bs h
   obtain ⟨v6,q7,h⟩:=bs h
   obtain ⟨v7,q8,h⟩:=bs h
   obtain ⟨v8,q9,h⟩:=bs h
   refine rg j0<|u<|mv j0<|u<|sc [1,3] (file_reader_text_ok v4.1 v4.2.1 v4.2.2 q6) j0 j0 j0 j0 ⟨(.mpt j0),j5⟩ ⟨⟨_,j0,⟨(.msl j0),(rnI j0),(rnI j0),j5⟩⟩,⟨j0,mkI (fun _=>j0)⟩,j5⟩<|r_can (env0:=[(0,.isl 1 (List.map byteRow v1)),(2,.mpt 0 0 0),(4,.mpt 1 0 0),(28,sA v5.1)]) (st0:=[some (6,[[sA [],sA [],bA false,.lit (.slice none 0 0),.lit (.slice none 0 0),.lit (.slice none 0 0)]]),some (3,[[.msl 2 0 (List.length v4.1),.isl 1 (List.map byteRow v5.2.1),bA v5.2.2]]),some (1,List.map rStr v4.1)]) ⟨[.old 0,.old 1,.old 3],ce j0 j0<|cv j0 (.mpt j0)<|cv j0 (.mpt j0)<|ce j0 j0<|cn,j0,⟨⟨_,j0,rsOne ⟨ci j0,ci j0,ci j0,ci j0,ci j0,ci j0,j5⟩⟩,⟨_,j0,rsOne ⟨.msl j0,ci j0,ci j0,j5⟩⟩,⟨_,j0,rsMap (fun _=>j0)⟩,j5⟩,j0,j1⟩<|u<|mv j0<|u<|sc [1,2] (file_reader_text_ok v4.1 v5.2.1 v5.2.2 q7) j0 j0 j0 j0 ⟨(.mpt j0),j5⟩ ⟨⟨_,j0,⟨(.msl j0),(rnI j0),(rnI j0),j5⟩⟩,⟨j0,mkI (fun _=>j0)⟩,j5⟩<|r_can (env0:=[(0,.isl 1 (List.map byteRow v1)),(2,.mpt 0 0 0),(4,.mpt 1 0 0),(28,sA v5.1),(30,sA v6.1)]) (st0:=[some (6,[[sA [],sA [],bA false,.lit (.slice none 0 0),.lit (.slice none 0 0),.lit (.slice none 0 0)]]),some (3,[[.msl 2 0 (List.length v4.1),.isl 1 (List.map byteRow v6.2.1),bA v6.2.2]]),some (1,List.map rStr v4.1)]) ⟨[.old 0,.old 1,.old 2],ce j0 j0<|cv j0 (.mpt j0)<|cv j0 (.mpt j0)<|ce j0 j0<|ce j0 j0<|cn,j0,⟨⟨_,j0,rsOne ⟨ci j0,ci j0,ci j0,ci j0,ci j0,ci j0,j5⟩⟩,⟨_,j0,rsOne ⟨.msl j0,ci j0,ci j0,j5⟩⟩,⟨_,j0,rsMap (fun _=>j0)⟩,j5⟩,j0,j1⟩<|u<|mv j0<|u<|sc [1,2] (file_reader_truth_ok v4.1 v6.2.1 v6.2.2 q8) j0 j0 j0 j0 ⟨(.mpt j0),j5⟩ ⟨⟨_,j0,⟨(.msl j0),(rnI j0),(rnI j0),j5⟩⟩,⟨j0,mkI (fun _=>j0)⟩,j5⟩<|r_can (env0:=[(0,.isl 1 (List.map byteRow v1)),(2,.mpt 0 0 0),(4,.mpt 1 0 0),(28,sA v5.1),(30,sA v6.1),(32,bA v7.1)]) (st0:=[some (6,[[sA [],sA [],bA false,.lit (.slice none 0 0),.lit (.slice none 0 0),.lit (.slice none 0 0)]]),some (3,[[.msl 2 0 (List.length v4.1),.isl 1 (List.map byteRow v7.2.1),bA v7.2.2]]),some (1,List.map rStr v4.1)]) ⟨[.old 0,.old 1,.old 2],ce j0 j0<|cv j0 (.mpt j0)<|cv j0 (.mpt j0)<|ce j0 j0<|ce j0 j0<|ce j0 j0<|cn,j0,⟨⟨_,j0,rsOne ⟨ci j0,ci j0,ci j0,ci j0,ci j0,ci j0,j5⟩⟩,⟨_,j0,rsOne ⟨.msl j0,ci j0,ci j0,j5⟩⟩,⟨_,j0,rsMap (fun _=>j0)⟩,j5⟩,j0,j1⟩<|u<|mv j0<|u<|mv j0<|u<|mf j0 j0<|u<|sc [1,2] (file_read_string_s2_ok v4.1 v7.2.1 v7.2.2 q9) j0 j0 j0 j0 ⟨(.mpt j0),(rnFn ⟨(.mpt j0),j5⟩ j5),j5⟩ ⟨⟨_,j0,⟨(.msl j0),(rnI j0),(rnI j0),j5⟩⟩,⟨j0,mkI (fun _=>j0)⟩,j5⟩<|r_can (env0:=[(0,.isl 1 (List.map byteRow v1)),(2,.mpt 0 0 0),(4,.mpt 1 0 0),(28,sA v5.1),(30,sA v6.1),(32,bA v7.1),(36,.msl 3 0 (List.length v8.1))]) (st0:=[some (6,[[sA [],sA [],bA false,.lit (.slice none 0 0),.lit (.slice none 0 0),.lit (.slice none 0 0)]]),some (3,[[.msl 2 0 (List.length v4.1),.isl 1 (List.map byteRow v8.2.1),bA v8.2.2]]),some (1,List.map rStr v4.1),some (1,List.map rStr v8.1)]) ⟨[.old 0,.old 1,.old 2,.old 3],ce j0 j0<|cv j0 (.mpt j0)<|cv j0 (.mpt j0)<|ce j0 j0<|ce j0 j0<|ce j0 j0<|cv j0 (.msl j0)<|cn,j0,⟨⟨_,j0,rsOne ⟨ci j0,ci j0,ci j0,ci j0,ci j0,ci j0,j5⟩⟩,⟨_,j0,rsOne ⟨.msl j0,ci j0,ci j0,j5⟩⟩,⟨_,j0,rsMap (fun _=>j0)⟩,⟨_,j0,rsMap (fun _=>j0)⟩,j5⟩,j0,j1⟩<|u<|bd ti28 j0 j0 j0<|u<|al 4 ti28 j0<|u<|sto ti28 j0 j0 j0<|r_nil ?_
   obtain ⟨v9,q10,h⟩:=bs h
   obtain ⟨v10,q11,h⟩:=bs h
   refine rg j0<|u<|mv j0<|u<|mv j0<|u<|mf j0 j0<|u<|sc [1,2] (file_read_api_Field_ok v4.1 v8.2.1 v8.2.2 q10) j0 j0 j0 j0 ⟨(.mpt j0),(rnFn ⟨(.mpt j0),j5⟩ j5),j5⟩ ⟨⟨_,j0,⟨(.msl j0),(rnI j0),(rnI j0),j5⟩⟩,⟨j0,mkI (fun _=>j0)⟩,j5⟩<|r_can (env0:=[(0,.isl 1 (List.map byteRow v1)),(2,.mpt 0 0 0),(4,.mpt 1 0 0),(5,.mpt 3 0 0),(41,.msl 5 0 (List.length v9.1))]) (st0:=[some (6,[[sA [],sA [],bA false,.lit (.slice none 0 0),.lit (.slice none 0 0),.lit (.slice none 0 0)]]),some (3,[[.msl 2 0 (List.length v4.1),.isl 1 (List.map byteRow v9.2.1),bA v9.2.2]]),some (1,List.map rStr v4.1),some (6,[[sA v5.1,sA v6.1,bA v7.1,.msl 4 0 (List.length v8.1),.lit (.slice none 0 0),.lit (.slice none 0 0)]]),some (1,List.map rStr v8.1),some (3,List.map rApiField v9.1)]) ⟨[.old 0,.old 1,.old 2,.old 4,.old 3,.old 5],ce j0 j0<|cv j0 (.mpt j0)<|cv j0 (.mpt j0)<|cv j0 (.mpt j0)<|cv j0 (.msl j0)<|cn,j0,⟨⟨_,j0,rsOne ⟨ci j0,ci j0,ci j0,ci j0,ci j0,ci j0,j5⟩⟩,⟨_,j0,rsOne ⟨.msl j0,ci j0,ci j0,j5⟩⟩,⟨_,j0,rsMap (fun _=>j0)⟩,⟨_,j0,rsOne ⟨ci j0,ci j0,ci j0,.msl j0,ci j0,ci j0,j5⟩⟩,⟨_,j0,rsMap (fun _=>j0)⟩,⟨_,j0,rsMap (fun _=>j0)⟩,j5⟩,j0,j1⟩<|u<|mv j0<|u<|mv j0<|u<|mf j0 j0<|u<|sc [1,2] (file_read_api_Method_ok v4.1 v9.2.1 v9.2.2 q11) j0 j0 j0 j0 ⟨(.mpt j0),(rnFn ⟨(.mpt j0),j5⟩ j5),j5⟩ ⟨⟨_,j0,⟨(.msl j0),(rnI j0),(rnI j0),j5⟩⟩,⟨j0,mkI (fun _=>j0)⟩,j5⟩<|r_can (env0:=[(0,.isl 1 (List.map byteRow v1)),(2,.mpt 0 0 0),(4,.mpt 1 0 0),(5,.mpt 3 0 0),(41,.msl 5 0 (List.length v9.1)),(45,.msl 6 0 (List.length v10.1))]) (st0:=[some (6,[[sA [],sA [],bA false,.lit (.slice none 0 0),.lit (.slice none 0 0),.lit (.slice none 0 0)]]),some (3,[[.msl 2 0 (List.length v4.1),.isl 1 (List.map byteRow v10.2.1),bA v10.2.2]]),some (1,List.map rStr v4.1),some (6,[[sA v5.1,sA v6.1,bA v7.1,.msl 4 0 (List.length v8.1),.lit (.slice none 0 0),.lit (.slice none 0 0)]]),some (1,List.map rStr v8.1),some (3,List.map rApiField v9.1),some (10,List.map rApiMethod v10.1)]) ⟨[.old 0,.old 1,.old 2,.old 3,.old 4,.old 5,.old 6],ce j0 j0<|cv j0 (.mpt j0)<|cv j0 (.mpt j0)<|cv j0 (.mpt j0)<|cv j0 (.msl j0)<|cv j0 (.msl j0)<|cn,j0,⟨⟨_,j0,rsOne ⟨ci j0,ci j0,ci j0,ci j0,ci j0,ci j0,j5⟩⟩,⟨_,j0,rsOne ⟨.msl j0,ci j0,ci j0,j5⟩⟩,⟨_,j0,rsMap (fun _=>j0)⟩,⟨_,j0,rsOne ⟨ci j0,ci j0,ci j0,.msl j0,ci j0,ci j0,j5⟩⟩,⟨_,j0,rsMap (fun _=>j0)⟩,⟨_,j0,rsMap (fun _=>j0)⟩,⟨_,j0,rsMap (fun _=>j0)⟩,j5⟩,j0,j1⟩<|u<|fa ti28 j0 j0 j0<|u<|sto ti25 j0 j0 j0<|u<|fa ti28 j0 j0 j0<|u<|sto ti26 j0 j0 j0<|r_nil ?_
   refine sw_seq ?_
   refine rg j0<|u<|ld ti28 j0 j0<|r_can (env0:=[(0,.isl 1 (List.map byteRow v1)),(2,.mpt 0 0 0),(4,.mpt 1 0 0),(5,.mpt 3 0 0),(48,.agg [sA v5.1,sA v6.1,bA v7.1,.isl 1 (List.map rStr v8.1),.isl 3 (List.map rApiField v9.1),.isl 10 (List.map rApiMethod v10.1)])]) (st0:=[some (6,[[sA [],sA [],bA false,.lit (.slice none 0 0),.lit (.slice none 0 0),.lit (.slice none 0 0)]]),some (3,[[.msl 2 0 (List.length v4.1),.isl 1 (List.map byteRow v10.2.1),bA v10.2.2]]),some (1,List.map rStr v4.1),some (6,[[sA v5.1,sA v6.1,bA v7.1,.isl 1 (List.map rStr v8.1),.isl 3 (List.map rApiField v9.1),.isl 10 (List.map rApiMethod v10.1)]])]) ⟨[.old 0,.old 1,.old 2,.old 3],ce j0 j0<|cv j0 (.mpt j0)<|cv j0 (.mpt j0)<|cv j0 (.mpt j0)<|cv j0 (rsAgg ⟨(ci j0),(ci j0),(ci j0),(rsSeal j0 j0 (fun _=>j0)),(rsSeal j0 j0 (fun _=>j0)),(rsSeal j0 j0 (fun _=>j0)),j5⟩)<|cn,j0,⟨⟨_,j0,rsOne ⟨ci j0,ci j0,ci j0,ci j0,ci j0,ci j0,j5⟩⟩,⟨_,j0,rsOne ⟨.msl j0,ci j0,ci j0,j5⟩⟩,⟨_,j0,rsMap (fun _=>j0)⟩,⟨_,j0,rsOne ⟨ci j0,ci j0,ci j0,rsSeal j0 j0 (fun _=>j0),rsSeal j0 j0 (fun _=>j0),rsSeal j0 j0 (fun _=>j0),j5⟩⟩,j5⟩,j0,j1⟩<|u<|?_
   obtain ⟨v11,q12,h⟩:=bs h
   rcases v11 with _ | v12
   ·
    replace h:=ocN h
    refine sc [] (file_EncodeO_okN (ApiClass.mk v5.1 v6.1 v7.1 v8.1 v9.1 v10.1) q12) j0 j0 j0 j0 ⟨(rnI j0),j5⟩ j5<|u<|asg j0<|r_nil ?_
    refine rg j0<|u<|mv j0<|u<|nc j0 j0<|u<|fa ti91 j0 j0 j0<|u<|ld ti4 j0 j0<|u<|mv j0<|r_or (j:=4) 2 j0 j0 j0 j0 j0 gpn (fun hb13=>g j0 hb13<|mv j0<|g j0 hb13<|eqnn ti43 j0 j0 j0<|r_nil (egO [55,56] 2 hb13 j0 j0 j0 j0)) orT<|u<|mv j0<|r_or (j:=8) 4 j0 j0 j0 j0 j0 gpn (fun hb14=>g j0 hb14<|mv j0<|g j0 hb14<|mv j0<|g j0 hb14<|pcs (bytes_Equal_ok [] v1 j0) j0 j0 (.cons (.nil) (.cons (si j0) .nil)) plainB<|g j0 hb14<|nt j0<|r_nil (egO [59,60,61,62] 4 hb14 j0 j0 j0 j0)) orT<|r_nil ?_
    refine sw_cond j0 (fun hc15=>?_) (fun hc15=>?_)
    ·
     replace h:=bT hc15 h
     refine rg j0<|u<|bd ti28 j0 j0 j0<|u<|sto ti28 j0 j0 j0<|u<|asg j0<|r_nil ?_
     refine sw_ret ?_
     obtain rfl:=sm h
     exact ⟨_,j0,[],rsTup ⟨(rsAgg ⟨(ci j0),(ci j0),(ci j0),(.nil),(.nil),(.nil),j5⟩),(ci j0),j5⟩,j0,j5,j0,j1⟩
    ·
     replace h:=bF hc15 h
     refine sw_skip ?_
     refine rg j0<|u<|ld ti28 j0 j0<|u<|sto ti28 j0 j0 j0<|u<|asg j0<|r_nil ?_
     refine sw_ret ?_
     obtain rfl:=sm h
     exact ⟨_,j0,[],rsTup ⟨(ci j0),(ci j0),j5⟩,j0,j5,j0,j1⟩
   ·
    replace h:=ocS h
    refine sc [] (file_EncodeO_okS (ApiClass.mk v5.1 v6.1 v7.1 v8.1 v9.1 v10.1) q12) j0 j0 j0 j0 ⟨(rnI j0),j5⟩ j5<|u<|asg j0<|r_nil ?_
    obtain ⟨v14,q18,h⟩:=bs h
    refine rg j0<|u<|mv j0<|u<|nc j0 j0<|u<|fa ti91 j0 j0 j0<|u<|ld ti4 j0 j0<|u<|mv j0<|r_or (x:=v14) (j:=4) 2 j0 j0 j0 j0 j0 gpn (fun hb16=>by replace q18:=bF hb16 q18; obtain ⟨v13,q17,q18⟩:=bs q18; obtain rfl:=sm q18; exact g j0 hb16<|mv j0<|g j0 hb16<|eqnm ti43 j0 j0 j0 j0 (Nat.lt_of_le_of_lt (Nat.zero_le _) (idx_some q17).2.1)<|r_nil (eg [55,56] 2 j0 j0 j0 j0)) (fun hb=>(sm (bT hb q18)).symm)<|u<|mv j0<|r_or (j:=8) 4 j0 j0 j0 j0 j0 gpn (fun hb19=>g j0 hb19<|mv j0<|g j0 hb19<|mv j0<|g j0 hb19<|pcs (bytes_Equal_ok v12 v1 j0) j0 j0 (.cons (sealM j0 (fun _=>j0)) (.cons (si j0) .nil)) plainB<|g j0 hb19<|nt j0<|r_nil (egO [59,60,61,62] 4 hb19 j0 j0 j0 j0)) orT<|r_nil ?_
    refine sw_cond j0 (fun hc20=>?_) (fun hc20=>?_)
    ·
     replace h:=bT hc20 h
     refine rg j0<|u<|bd ti28 j0 j0 j0<|u<|sto ti28 j0 j0 j0<|u<|asg j0<|r_nil ?_
     refine sw_ret ?_
     obtain rfl:=sm h
     exact ⟨_,j0,[],rsTup ⟨(rsAgg ⟨(ci j0),(ci j0),(ci j0),(.nil),(.nil),(.nil),j5⟩),(ci j0),j5⟩,j0,j5,j0,j1⟩
    ·
     replace h:=bF hc20 h
     refine sw_skip ?_
     refine rg j0<|u<|ld ti28 j0 j0<|u<|sto ti28 j0 j0 j0<|u<|asg j0<|r_nil ?_
     refine sw_ret ?_
     obtain rfl:=sm h
     exact ⟨_,j0,[],rsTup ⟨(ci j0),(ci j0),j5⟩,j0,j5,j0,j1⟩
end
end Go.Proofs.YtdhpdpkcfffpiaaGreat
