/- FileSame: for every input the law returns true, and each argument reads as it read before. No further condition. Part 4 of 7. -/
import Derived.Test.YthmnlfenkhmmhaaGreatTg3
namespace Go.Proofs.YthmnlfenkhmmhaaGreat
noncomputable section
set_option linter.unusedSimpArgs false
set_option linter.unusedVariables false
set_option maxRecDepth 100000
set_option maxHeartbeats 4000000
def file_writer_num (v1 : List (List UInt8)) (v2 : List UInt8) (v3 : Int) : Option ((List UInt8)) :=
  (num_Put v2 v3).bind fun v4=>some v4
theorem file_writer_num_ok (v1 : List (List UInt8)) (v2 : List UInt8) (v3 : Int) {r : (List UInt8)} (h : file_writer_num v1 v2 v3 = some r) : SC Tryz.prog 161 [.mpt 0 0 0,iA v3] [.one 2 [.msl 1 0 (List.length v1),.msl 2 0 (List.length v2)],.many 1 (List.map rStr v1),.many 1 (List.map byteRow v2)] (.tup []) [.one 2 [.msl 1 0 (List.length v1),.msl 3 0 (List.length r)],.many 1 (List.map rStr v1),.no,.many 1 (List.map byteRow r)]:=by
 refine ⟨⟨j5,sbOk (sz:=1) (fun _=>j0),j5,sbOk (sz:=1) (fun _=>j0),j5⟩,scall_fn Tryz.func161 j0 (by kernel_rfl) j0 ?_⟩
 unfold file_writer_num at h
 obtain ⟨v4,q1,h⟩:=bs h
 refine rl j0<|u<|mv j0<|u<|mv j0<|u<|nc j0 j0<|u<|fa ti129 j0 j0 j0<|u<|ld ti29 j0 j0<|u<|mv j0<|u<|sc [2] (num_Put_ok v2 v3 q1) j0 j0 j0 j0 ⟨(.msl j0),(rnI j0),j5⟩ ⟨⟨j0,mkI (fun _=>j0)⟩,j5⟩<|u<|nc j0 j0<|u<|fa ti129 j0 j0 j0<|u<|sto ti29 j0 j0 j0<|r_nil ?_
 obtain rfl:=sm h
 exact ⟨_,j0,[.old 0,.old 1,.dead,.old 3],rsTup j5,j0,⟨⟨_,j0,rsOne ⟨.msl j0,.msl j0,j5⟩⟩,⟨_,j0,rsMap (fun _=>j0)⟩,⟨_,j0,rsMap (fun _=>j0)⟩,j5⟩,j0,j1⟩
def file_writer_text_j1 (v2 : List UInt8) (v6 : List (List UInt8)) (v7 : Int) : Option ((List (List UInt8)) × (List UInt8)) :=
  (file_writer_num v6 v2 v7).bind fun v8=>some (v6,v8)
def file_writer_text (v1 : List (List UInt8)) (v2 : List UInt8) (v3 : List UInt8) : Option ((List (List UInt8)) × (List UInt8)) :=
  (slices_Index_string_string v1 v3).bind fun v4=>cond (decide (v4 < 0)) ((appP 16 v1 [v3]).bind fun v5=>file_writer_text_j1 v2 v5 ((List.length v1) : Int)) (file_writer_text_j1 v2 v1 v4)
theorem file_writer_text_ok (v1 : List (List UInt8)) (v2 : List UInt8) (v3 : List UInt8) {r : (List (List UInt8)) × (List UInt8)} (h : file_writer_text v1 v2 v3 = some r) : SC Tryz.prog 73 [.mpt 0 0 0,sA v3] [.one 2 [.msl 1 0 (List.length v1),.msl 2 0 (List.length v2)],.many 1 (List.map rStr v1),.many 1 (List.map byteRow v2)] (.tup []) [.one 2 [.msl 3 0 (List.length r.1),.msl 4 0 (List.length r.2)],.no,.no,.many 1 (List.map rStr r.1),.many 1 (List.map byteRow r.2)]:=by
 refine ⟨⟨j5,j5,j5,sbOk (sz:=1) (fun _=>j0),sbOk (sz:=1) (fun _=>j0),j5⟩,scall_fn Tryz.func73 j0 (by kernel_rfl) j0 ?_⟩
 unfold file_writer_text at h
 obtain ⟨v4,q1,h⟩:=bs h
 refine rg j0<|u<|mv j0<|u<|nc j0 j0<|u<|fa ti129 j0 j0 j0<|u<|ld ti22 j0 j0<|u<|mv j0<|u<|pcs (slices_Index_string_string_ok v1 v3 q1) j0 j0 (.cons (sealM j0 (fun _=>j0)) (.cons (si j0) .nil)) plainB<|u<|asg j0<|r_nil ?_
 refine sw_meet (X:=(List (List UInt8)) × Int) (fun z=>[(0,.mpt 0 0 0),(4,iA z.2)]) (fun z=>[some (2,[[.msl 3 0 (List.length z.1),.msl 2 0 (List.length v2)]]),none,some (1,List.map byteRow v2),some (1,List.map rStr z.1)]) (fun z=>file_writer_text_j1 v2 z.1 z.2 = some r) ?_ ?_
 ·
  refine rg j0<|u<|mv j0<|u<|lss ti3 j0 j0<|r_nil ?_
  refine sw_cond j0 (fun hc2=>?_) (fun hc2=>?_)
  ·
   replace h:=bT hc2 h
   refine rg j0<|u<|mv j0<|u<|nc j0 j0<|u<|fa ti129 j0 j0 j0<|u<|ld ti22 j0 j0<|u<|lnM ti22 j0 j0 j0<|u<|asg j0<|r_nil ?_
   obtain ⟨v5,q3,h⟩:=bs h
   exact rl j0<|u<|mv j0<|u<|mv j0<|u<|nc j0 j0<|u<|fa ti129 j0 j0 j0<|u<|ld ti22 j0 j0<|u<|mv j0<|u<|bl 3 ti22 j0 ti9 j0 (by decide) (by decide) j0 j0 j0<|u<|apM 4 ti22 j0 ti9 j0 j0 (by decide) ti22 j0 j0 j0 j0 (roX (f:=rStr) (z:=[v3]) j0 j0) (fun _=>j0) j0 q3<|u<|nc j0 j0<|u<|fa ti129 j0 j0 j0<|u<|sto ti22 j0 j0 j0<|r_nil (⟨⟨v5,((List.length v1) : Int)⟩,h,[.old 0,.dead,.old 2,.old 4],cv j0 (.mpt j0)<|ce j0 j0<|cn,j0,⟨⟨_,j0,rsOne ⟨.msl j0,.msl j0,j5⟩⟩,⟨_,j0,rsMap (fun _=>j0)⟩,⟨_,j0,rsMap (fun _=>j0)⟩,j5⟩,j0,j1⟩)
  ·
   replace h:=bF hc2 h
   refine sw_skip ?_
   exact ⟨⟨v1,v4⟩,h,[.old 0,.dead,.old 2,.old 1],cv j0 (.mpt j0)<|ce j0 j0<|cn,j0,⟨⟨_,j0,rsOne ⟨.msl j0,.msl j0,j5⟩⟩,⟨_,j0,rsMap (fun _=>j0)⟩,⟨_,j0,rsMap (fun _=>j0)⟩,j5⟩,j0,j1⟩
 ·
  rintro ⟨v6,v7⟩ h
  replace h : file_writer_text_j1 v2 v6 v7 = some r:=h
  unfold file_writer_text_j1 at h
  obtain ⟨v8,q4,h⟩:=bs h
  refine rl j0<|u<|mv j0<|u<|mv j0<|u<|sc [0,3,2] (file_writer_num_ok v6 v2 v7 q4) j0 j0 j0 j0 ⟨(.mpt j0),(rnI j0),j5⟩ ⟨⟨_,j0,⟨(.msl j0),(.msl j0),j5⟩⟩,⟨j0,mkI (fun _=>j0)⟩,⟨j0,mkI (fun _=>j0)⟩,j5⟩<|r_can (env0:=[]) (st0:=[some (2,[[.msl 3 0 (List.length v6),.msl 4 0 (List.length v8)]]),none,none,some (1,List.map rStr v6),some (1,List.map byteRow v8)]) ⟨[.old 0,.dead,.dead,.old 3,.old 4],cn,j0,⟨⟨_,j0,rsOne ⟨.msl j0,.msl j0,j5⟩⟩,⟨_,j0,rsMap (fun _=>j0)⟩,⟨_,j0,rsMap (fun _=>j0)⟩,j5⟩,j0,j1⟩<|r_nil ?_
  obtain rfl:=sm h
  exact ⟨_,j0,[.old 0,.dead,.dead,.old 3,.old 4],rsTup j5,j0,⟨⟨_,j0,rsOne ⟨.msl j0,.msl j0,j5⟩⟩,⟨_,j0,rsMap (fun _=>j0)⟩,⟨_,j0,rsMap (fun _=>j0)⟩,j5⟩,j0,j1⟩
def file_writer_truth (v1 : List (List UInt8)) (v2 : List UInt8) (v3 : Bool) : Option ((List UInt8)) :=
  cond v3 ((file_writer_num v1 v2 1).bind fun v4=>some v4) ((file_writer_num v1 v2 0).bind fun v5=>some v5)
theorem file_writer_truth_ok (v1 : List (List UInt8)) (v2 : List UInt8) (v3 : Bool) {r : (List UInt8)} (h : file_writer_truth v1 v2 v3 = some r) : SC Tryz.prog 74 [.mpt 0 0 0,bA v3] [.one 2 [.msl 1 0 (List.length v1),.msl 2 0 (List.length v2)],.many 1 (List.map rStr v1),.many 1 (List.map byteRow v2)] (.tup []) [.one 2 [.msl 1 0 (List.length v1),.msl 3 0 (List.length r)],.many 1 (List.map rStr v1),.no,.many 1 (List.map byteRow r)]:=by
 refine ⟨⟨j5,sbOk (sz:=1) (fun _=>j0),j5,sbOk (sz:=1) (fun _=>j0),j5⟩,scall_fn Tryz.func74 j0 (by kernel_rfl) j0 ?_⟩
 unfold file_writer_truth at h
 refine rg j0<|u<|mv j0<|r_nil ?_
 refine sw_cond j0 (fun hc1=>?_) (fun hc1=>?_)
 ·
  replace h:=bT hc1 h
  obtain ⟨v4,q2,h⟩:=bs h
  refine rl j0<|u<|mv j0<|u<|sc [0,1,2] (file_writer_num_ok v1 v2 1 q2) j0 j0 j0 j0 ⟨(.mpt j0),(rnI j0),j5⟩ ⟨⟨_,j0,⟨(.msl j0),(.msl j0),j5⟩⟩,⟨j0,mkI (fun _=>j0)⟩,⟨j0,mkI (fun _=>j0)⟩,j5⟩<|r_can (env0:=[]) (st0:=[some (2,[[.msl 1 0 (List.length v1),.msl 3 0 (List.length v4)]]),some (1,List.map rStr v1),none,some (1,List.map byteRow v4)]) ⟨[.old 0,.old 1,.dead,.old 3],cn,j0,⟨⟨_,j0,rsOne ⟨.msl j0,.msl j0,j5⟩⟩,⟨_,j0,rsMap (fun _=>j0)⟩,⟨_,j0,rsMap (fun _=>j0)⟩,j5⟩,j0,j1⟩<|r_nil ?_
  obtain rfl:=sm h
  exact ⟨_,j0,[.old 0,.old 1,.dead,.old 3],rsTup j5,j0,⟨⟨_,j0,rsOne ⟨.msl j0,.msl j0,j5⟩⟩,⟨_,j0,rsMap (fun _=>j0)⟩,⟨_,j0,rsMap (fun _=>j0)⟩,j5⟩,j0,j1⟩
 ·
  replace h:=bF hc1 h
  obtain ⟨v5,q3,h⟩:=bs h
  refine rl j0<|u<|mv j0<|u<|sc [0,1,2] (file_writer_num_ok v1 v2 0 q3) j0 j0 j0 j0 ⟨(.mpt j0),(rnI j0),j5⟩ ⟨⟨_,j0,⟨(.msl j0),(.msl j0),j5⟩⟩,⟨j0,mkI (fun _=>j0)⟩,⟨j0,mkI (fun _=>j0)⟩,j5⟩<|r_can (env0:=[]) (st0:=[some (2,[[.msl 1 0 (List.length v1),.msl 3 0 (List.length v5)]]),some (1,List.map rStr v1),none,some (1,List.map byteRow v5)]) ⟨[.old 0,.old 1,.dead,.old 3],cn,j0,⟨⟨_,j0,rsOne ⟨.msl j0,.msl j0,j5⟩⟩,⟨_,j0,rsMap (fun _=>j0)⟩,⟨_,j0,rsMap (fun _=>j0)⟩,j5⟩,j0,j1⟩<|r_nil ?_
  obtain rfl:=sm h
  exact ⟨_,j0,[.old 0,.old 1,.dead,.old 3],rsTup j5,j0,⟨⟨_,j0,rsOne ⟨.msl j0,.msl j0,j5⟩⟩,⟨_,j0,rsMap (fun _=>j0)⟩,⟨_,j0,rsMap (fun _=>j0)⟩,j5⟩,j0,j1⟩
def file_list_string_k2 (v15 : List (List UInt8)) (v16 : List UInt8) : Option ((List (List UInt8)) × (List UInt8)) :=
  some (v15,v16)
def file_list_string_l1 (v3 : List (List UInt8)) (v10 : List (List UInt8)) (v11 : List UInt8) (v12 : Int) : Option (Sum ((List (List UInt8)) × (List UInt8) × Int) (Sum ((List (List UInt8)) × (List UInt8)) ((List (List UInt8)) × (List UInt8)))) :=
  cond (decide (v12 < (List.length v3 : Int))) ((idx v3 v12).bind fun v13=>(file_writer_text v10 v11 v13).bind fun v14=>some (.inl (v14.1,v14.2,(IntKind.i64.wrap (v12 + 1))))) (some (.inr (.inl (v10,v11))))
def file_list_string (v1 : List (List UInt8)) (v2 : List UInt8) (v3 : List (List UInt8)) : Option ((List (List UInt8)) × (List UInt8)) :=
  (file_writer_num v1 v2 (List.length v3 : Int)).bind fun v4=>(loopP (fun z=>file_list_string_l1 v3 z.1 z.2.1 z.2.2) (v1,v4,0)).bind fun o=>leave o (fun b=>file_list_string_k2 b.1 b.2) some
theorem file_list_string_ok (v1 : List (List UInt8)) (v2 : List UInt8) (v3 : List (List UInt8)) {r : (List (List UInt8)) × (List UInt8)} (h : file_list_string v1 v2 v3 = some r) : SC Tryz.prog 75 [.mpt 0 0 0,.isl 1 (List.map rStr v3),.fn (.func 73) [.mpt 0 0 0] []] [.one 2 [.msl 1 0 (List.length v1),.msl 2 0 (List.length v2)],.many 1 (List.map rStr v1),.many 1 (List.map byteRow v2)] (.tup []) [.one 2 [.msl 3 0 (List.length r.1),.msl 4 0 (List.length r.2)],.no,.no,.many 1 (List.map rStr r.1),.many 1 (List.map byteRow r.2)]:=by
 refine ⟨⟨j5,j5,j5,sbOk (sz:=1) (fun _=>j0),sbOk (sz:=1) (fun _=>j0),j5⟩,scall_fn Tryz.func75 j0 (by kernel_rfl) j0 ?_⟩
 unfold file_list_string at h
 obtain ⟨v4,q1,h⟩:=bs h
 refine rg j0<|u<|mv j0<|u<|mv j0<|u<|lnI ti22 j0 j0<|u<|sc [0,1,2] (file_writer_num_ok v1 v2 (List.length v3 : Int) q1) j0 j0 j0 j0 ⟨(.mpt j0),(rnI j0),j5⟩ ⟨⟨_,j0,⟨(.msl j0),(.msl j0),j5⟩⟩,⟨j0,mkI (fun _=>j0)⟩,⟨j0,mkI (fun _=>j0)⟩,j5⟩<|r_can (env0:=[(1,.isl 1 (List.map rStr v3)),(2,.fn (.func 73) [.mpt 0 0 0] [])]) (st0:=[some (2,[[.msl 1 0 (List.length v1),.msl 3 0 (List.length v4)]]),some (1,List.map rStr v1),none,some (1,List.map byteRow v4)]) ⟨[.old 0,.old 1,.dead,.old 3],ce j0 j0<|cv j0 (rsFn ⟨(.mpt j0),j5⟩ j5)<|cn,j0,⟨⟨_,j0,rsOne ⟨.msl j0,.msl j0,j5⟩⟩,⟨_,j0,rsMap (fun _=>j0)⟩,⟨_,j0,rsMap (fun _=>j0)⟩,j5⟩,j0,j1⟩<|r_nil ?_
 refine rg j0<|u<|mv j0<|u<|lnI ti22 j0 j0<|u<|mv j0<|r_nil ?_
 obtain ⟨o,ho,h⟩:=bs h
 refine sw_lpl (X:=(List (List UInt8)) × (List UInt8) × Int) (B:=(List (List UInt8)) × (List UInt8)) (R:=(List (List UInt8)) × (List UInt8)) (fun z=>[(2,.fn (.func 73) [.mpt 0 0 0] []),(12,.isl 1 (List.map rStr v3)),(13,iA (List.length v3 : Int)),(14,iA z.2.2)]) (fun z=>[some (2,[[.msl 3 0 (List.length z.1),.msl 4 0 (List.length z.2.1)]]),none,none,some (1,List.map rStr z.1),some (1,List.map byteRow z.2.1)]) (fun b=>[]) (fun b=>[some (2,[[.msl 3 0 (List.length b.1),.msl 4 0 (List.length b.2)]]),none,none,some (1,List.map rStr b.1),some (1,List.map byteRow b.2)]) (fun r env st=>PostF Tryz.prog Tryz.f75 3 (.tup []) [some (2,[[.msl 3 0 (List.length r.1),.msl 4 0 (List.length r.2)]]),none,none,some (1,List.map rStr r.1),some (1,List.map byteRow r.2)] env st) ho ⟨[.old 0,.dead,.dead,.old 1,.old 3],cv j0 (rsFn ⟨(.mpt j0),j5⟩ j5)<|ce j0 j0<|ce j0 j0<|ce j0 j0<|cn,j0,⟨⟨_,j0,rsOne ⟨.msl j0,.msl j0,j5⟩⟩,⟨_,j0,rsMap (fun _=>j0)⟩,⟨_,j0,rsMap (fun _=>j0)⟩,j5⟩,j0,j1⟩ ?_ ?_ ?_
 ·
  rintro ⟨v10,v11,v12⟩ r h
  replace h : file_list_string_l1 v3 v10 v11 v12 = some r:=h
  unfold file_list_string_l1 at h
  refine rg j0<|u<|lss ti3 j0 j0<|r_nil ?_
  refine sw_seq ?_
  refine sw_cond j0 (fun hc5=>?_) (fun hc5=>?_)
  ·
   replace h:=bT hc5 h
   refine sw_skip ?_
   refine sw_seq ?_
   refine sw_block ?_
   obtain ⟨v13,q6,h⟩:=bs h
   refine rg j0<|u<|ixI ti22 j0 ti9 j0 j0 j0 q6<|u<|ldI ti9 j0 (idx_some q6).2.2 j0<|u<|asg j0<|r_nil ?_
   obtain ⟨v14,q7,h⟩:=bs h
   refine rl j0<|u<|mv j0<|u<|mv j0<|u<|sc [0,3,4] (file_writer_text_ok v10 v11 v13 q7) j0 j0 j0 j0 ⟨(.mpt j0),(rnI j0),j5⟩ ⟨⟨_,j0,⟨(.msl j0),(.msl j0),j5⟩⟩,⟨j0,mkI (fun _=>j0)⟩,⟨j0,mkI (fun _=>j0)⟩,j5⟩<|r_can (env0:=[(2,.fn (.func 73) [.mpt 0 0 0] []),(12,.isl 1 (List.map rStr v3)),(13,iA (List.length v3 : Int)),(14,iA v12)]) (st0:=[some (2,[[.msl 3 0 (List.length v14.1),.msl 4 0 (List.length v14.2)]]),none,none,some (1,List.map rStr v14.1),some (1,List.map byteRow v14.2)]) ⟨[.old 0,.dead,.dead,.old 5,.old 6],cv j0 (rsFn ⟨(.mpt j0),j5⟩ j5)<|ce j0 j0<|ce j0 j0<|ce j0 j0<|cn,j0,⟨⟨_,j0,rsOne ⟨.msl j0,.msl j0,j5⟩⟩,⟨_,j0,rsMap (fun _=>j0)⟩,⟨_,j0,rsMap (fun _=>j0)⟩,j5⟩,j0,j1⟩<|r_nil ?_
   refine rl j0<|u<|add ti3 j0 j0<|u<|mv j0<|r_nil ?_
   obtain rfl:=sm h
   exact ⟨_,j0,[.old 0,.dead,.dead,.old 3,.old 4],cv j0 (rsFn ⟨(.mpt j0),j5⟩ j5)<|ce j0 j0<|ce j0 j0<|ce j0 j0<|cn,j0,⟨⟨_,j0,rsOne ⟨.msl j0,.msl j0,j5⟩⟩,⟨_,j0,rsMap (fun _=>j0)⟩,⟨_,j0,rsMap (fun _=>j0)⟩,j5⟩,j0,j1⟩
  ·
   replace h:=bF hc5 h
   refine sw_exit ?_
   obtain rfl:=sm h
   exact ⟨j0,_,j0,[.old 0,.dead,.dead,.old 3,.old 4],cn,j0,⟨⟨_,j0,rsOne ⟨.msl j0,.msl j0,j5⟩⟩,⟨_,j0,rsMap (fun _=>j0)⟩,⟨_,j0,rsMap (fun _=>j0)⟩,j5⟩,j0,j1⟩
 ·
  rintro ⟨v15,v16⟩ rfl
  replace h : file_list_string_k2 v15 v16 = some r:=h
  unfold file_list_string_k2 at h
  refine ow_intro ?_
  obtain rfl:=sm h
  exact ⟨_,j0,[.old 0,.dead,.dead,.old 3,.old 4],rsTup j5,j0,⟨⟨_,j0,rsOne ⟨.msl j0,.msl j0,j5⟩⟩,⟨_,j0,rsMap (fun _=>j0)⟩,⟨_,j0,rsMap (fun _=>j0)⟩,j5⟩,j0,j1⟩
 ·
  rintro r' rfl env st hp
  obtain rfl:=sm h
  exact hp
def file_writer_field (v1 : List (List UInt8)) (v2 : List UInt8) (v3 : ApiField) : Option ((List (List UInt8)) × (List UInt8)) :=
  (file_writer_text v1 v2 v3.Name).bind fun v4=>(file_writer_text v4.1 v4.2 v3.Type_).bind fun v5=>(file_writer_truth v5.1 v5.2 v3.Static).bind fun v6=>some (v5.1,v6)
theorem file_writer_field_ok (v1 : List (List UInt8)) (v2 : List UInt8) (v3 : ApiField) {r : (List (List UInt8)) × (List UInt8)} (h : file_writer_field v1 v2 v3 = some r) : SC Tryz.prog 77 [.mpt 0 0 0,.agg [sA v3.Name,sA v3.Type_,bA v3.Static]] [.one 2 [.msl 1 0 (List.length v1),.msl 2 0 (List.length v2)],.many 1 (List.map rStr v1),.many 1 (List.map byteRow v2)] (.tup []) [.one 2 [.msl 3 0 (List.length r.1),.msl 4 0 (List.length r.2)],.no,.no,.many 1 (List.map rStr r.1),.many 1 (List.map byteRow r.2)]:=by
 refine ⟨⟨j5,j5,j5,sbOk (sz:=1) (fun _=>j0),sbOk (sz:=1) (fun _=>j0),j5⟩,scall_fn Tryz.func77 j0 (by kernel_rfl) j0 ?_⟩
 unfold file_writer_field at h
 refine rg j0<|u<|bx 3 3 j0 j0 j0 j0<|r_nil ?_
 obtain ⟨v4,q1,h⟩:=bs h
 refine rg j0<|u<|mv j0<|u<|fa ti42 j0 j0 j0<|u<|ld ti9 j0 j0<|u<|sc [0,1,2] (file_writer_text_ok v1 v2 v3.Name q1) j0 j0 j0 j0 ⟨(.mpt j0),(rnI j0),j5⟩ ⟨⟨_,j0,⟨(.msl j0),(.msl j0),j5⟩⟩,⟨j0,mkI (fun _=>j0)⟩,⟨j0,mkI (fun _=>j0)⟩,j5⟩<|r_can (env0:=[(0,.mpt 0 0 0),(3,.mpt 5 0 0)]) (st0:=[some (2,[[.msl 3 0 (List.length v4.1),.msl 4 0 (List.length v4.2)]]),none,none,some (1,List.map rStr v4.1),some (1,List.map byteRow v4.2),some (3,[[sA v3.Name,sA v3.Type_,bA v3.Static]])]) ⟨[.old 0,.dead,.dead,.old 4,.old 5,.old 3],cv j0 (.mpt j0)<|cv j0 (.mpt j0)<|cn,j0,⟨⟨_,j0,rsOne ⟨.msl j0,.msl j0,j5⟩⟩,⟨_,j0,rsMap (fun _=>j0)⟩,⟨_,j0,rsMap (fun _=>j0)⟩,⟨_,j0,rsOne ⟨ci j0,ci j0,ci j0,j5⟩⟩,j5⟩,j0,j1⟩<|r_nil ?_
 obtain ⟨v5,q2,h⟩:=bs h
 refine rg j0<|u<|mv j0<|u<|fa ti42 j0 j0 j0<|u<|ld ti9 j0 j0<|u<|sc [0,3,4] (file_writer_text_ok v4.1 v4.2 v3.Type_ q2) j0 j0 j0 j0 ⟨(.mpt j0),(rnI j0),j5⟩ ⟨⟨_,j0,⟨(.msl j0),(.msl j0),j5⟩⟩,⟨j0,mkI (fun _=>j0)⟩,⟨j0,mkI (fun _=>j0)⟩,j5⟩<|r_can (env0:=[(0,.mpt 0 0 0),(3,.mpt 5 0 0)]) (st0:=[some (2,[[.msl 3 0 (List.length v5.1),.msl 4 0 (List.length v5.2)]]),none,none,some (1,List.map rStr v5.1),some (1,List.map byteRow v5.2),some (3,[[sA v3.Name,sA v3.Type_,bA v3.Static]])]) ⟨[.old 0,.dead,.dead,.old 6,.old 7,.old 5],cv j0 (.mpt j0)<|cv j0 (.mpt j0)<|cn,j0,⟨⟨_,j0,rsOne ⟨.msl j0,.msl j0,j5⟩⟩,⟨_,j0,rsMap (fun _=>j0)⟩,⟨_,j0,rsMap (fun _=>j0)⟩,⟨_,j0,rsOne ⟨ci j0,ci j0,ci j0,j5⟩⟩,j5⟩,j0,j1⟩<|r_nil ?_
 obtain ⟨v6,q3,h⟩:=bs h
 refine rl j0<|u<|mv j0<|u<|fa ti42 j0 j0 j0<|u<|ld ti4 j0 j0<|u<|sc [0,3,4] (file_writer_truth_ok v5.1 v5.2 v3.Static q3) j0 j0 j0 j0 ⟨(.mpt j0),(rnI j0),j5⟩ ⟨⟨_,j0,⟨(.msl j0),(.msl j0),j5⟩⟩,⟨j0,mkI (fun _=>j0)⟩,⟨j0,mkI (fun _=>j0)⟩,j5⟩<|r_can (env0:=[]) (st0:=[some (2,[[.msl 3 0 (List.length v5.1),.msl 4 0 (List.length v6)]]),none,none,some (1,List.map rStr v5.1),some (1,List.map byteRow v6)]) ⟨[.old 0,.dead,.dead,.old 3,.old 6],cn,j0,⟨⟨_,j0,rsOne ⟨.msl j0,.msl j0,j5⟩⟩,⟨_,j0,rsMap (fun _=>j0)⟩,⟨_,j0,rsMap (fun _=>j0)⟩,j5⟩,j0,j1⟩<|r_nil ?_
 obtain rfl:=sm h
 exact ⟨_,j0,[.old 0,.dead,.dead,.old 3,.old 4],rsTup j5,j0,⟨⟨_,j0,rsOne ⟨.msl j0,.msl j0,j5⟩⟩,⟨_,j0,rsMap (fun _=>j0)⟩,⟨_,j0,rsMap (fun _=>j0)⟩,j5⟩,j0,j1⟩
def file_list_api_Field_k2 (v15 : List (List UInt8)) (v16 : List UInt8) : Option ((List (List UInt8)) × (List UInt8)) :=
  some (v15,v16)
def file_list_api_Field_l1 (v3 : List ApiField) (v10 : List (List UInt8)) (v11 : List UInt8) (v12 : Int) : Option (Sum ((List (List UInt8)) × (List UInt8) × Int) (Sum ((List (List UInt8)) × (List UInt8)) ((List (List UInt8)) × (List UInt8)))) :=
  cond (decide (v12 < (List.length v3 : Int))) ((idx v3 v12).bind fun v13=>(file_writer_field v10 v11 v13).bind fun v14=>some (.inl (v14.1,v14.2,(IntKind.i64.wrap (v12 + 1))))) (some (.inr (.inl (v10,v11))))
def file_list_api_Field (v1 : List (List UInt8)) (v2 : List UInt8) (v3 : List ApiField) : Option ((List (List UInt8)) × (List UInt8)) :=
  (file_writer_num v1 v2 (List.length v3 : Int)).bind fun v4=>(loopP (fun z=>file_list_api_Field_l1 v3 z.1 z.2.1 z.2.2) (v1,v4,0)).bind fun o=>leave o (fun b=>file_list_api_Field_k2 b.1 b.2) some
theorem file_list_api_Field_ok (v1 : List (List UInt8)) (v2 : List UInt8) (v3 : List ApiField) {r : (List (List UInt8)) × (List UInt8)} (h : file_list_api_Field v1 v2 v3 = some r) : SC Tryz.prog 76 [.mpt 0 0 0,.isl 3 (List.map rApiField v3),.fn (.func 77) [.mpt 0 0 0] []] [.one 2 [.msl 1 0 (List.length v1),.msl 2 0 (List.length v2)],.many 1 (List.map rStr v1),.many 1 (List.map byteRow v2)] (.tup []) [.one 2 [.msl 3 0 (List.length r.1),.msl 4 0 (List.length r.2)],.no,.no,.many 1 (List.map rStr r.1),.many 1 (List.map byteRow r.2)]:=by
 refine ⟨⟨j5,j5,j5,sbOk (sz:=1) (fun _=>j0),sbOk (sz:=1) (fun _=>j0),j5⟩,scall_fn Tryz.func76 j0 (by kernel_rfl) j0 ?_⟩
 unfold file_list_api_Field at h
 obtain ⟨v4,q1,h⟩:=bs h
 refine rg j0<|u<|mv j0<|u<|mv j0<|u<|lnI ti23 j0 j0<|u<|sc [0,1,2] (file_writer_num_ok v1 v2 (List.length v3 : Int) q1) j0 j0 j0 j0 ⟨(.mpt j0),(rnI j0),j5⟩ ⟨⟨_,j0,⟨(.msl j0),(.msl j0),j5⟩⟩,⟨j0,mkI (fun _=>j0)⟩,⟨j0,mkI (fun _=>j0)⟩,j5⟩<|r_can (env0:=[(1,.isl 3 (List.map rApiField v3)),(2,.fn (.func 77) [.mpt 0 0 0] [])]) (st0:=[some (2,[[.msl 1 0 (List.length v1),.msl 3 0 (List.length v4)]]),some (1,List.map rStr v1),none,some (1,List.map byteRow v4)]) ⟨[.old 0,.old 1,.dead,.old 3],ce j0 j0<|cv j0 (rsFn ⟨(.mpt j0),j5⟩ j5)<|cn,j0,⟨⟨_,j0,rsOne ⟨.msl j0,.msl j0,j5⟩⟩,⟨_,j0,rsMap (fun _=>j0)⟩,⟨_,j0,rsMap (fun _=>j0)⟩,j5⟩,j0,j1⟩<|r_nil ?_
 refine rg j0<|u<|mv j0<|u<|lnI ti23 j0 j0<|u<|mv j0<|r_nil ?_
 obtain ⟨o,ho,h⟩:=bs h
 refine sw_lpl (X:=(List (List UInt8)) × (List UInt8) × Int) (B:=(List (List UInt8)) × (List UInt8)) (R:=(List (List UInt8)) × (List UInt8)) (fun z=>[(2,.fn (.func 77) [.mpt 0 0 0] []),(12,.isl 3 (List.map rApiField v3)),(13,iA (List.length v3 : Int)),(14,iA z.2.2)]) (fun z=>[some (2,[[.msl 3 0 (List.length z.1),.msl 4 0 (List.length z.2.1)]]),none,none,some (1,List.map rStr z.1),some (1,List.map byteRow z.2.1)]) (fun b=>[]) (fun b=>[some (2,[[.msl 3 0 (List.length b.1),.msl 4 0 (List.length b.2)]]),none,none,some (1,List.map rStr b.1),some (1,List.map byteRow b.2)]) (fun r env st=>PostF Tryz.prog Tryz.f76 3 (.tup []) [some (2,[[.msl 3 0 (List.length r.1),.msl 4 0 (List.length r.2)]]),none,none,some (1,List.map rStr r.1),some (1,List.map byteRow r.2)] env st) ho ⟨[.old 0,.dead,.dead,.old 1,.old 3],cv j0 (rsFn ⟨(.mpt j0),j5⟩ j5)<|ce j0 j0<|ce j0 j0<|ce j0 j0<|cn,j0,⟨⟨_,j0,rsOne ⟨.msl j0,.msl j0,j5⟩⟩,⟨_,j0,rsMap (fun _=>j0)⟩,⟨_,j0,rsMap (fun _=>j0)⟩,j5⟩,j0,j1⟩ ?_ ?_ ?_
 ·
  rintro ⟨v10,v11,v12⟩ r h
  replace h : file_list_api_Field_l1 v3 v10 v11 v12 = some r:=h
  unfold file_list_api_Field_l1 at h
  refine rg j0<|u<|lss ti3 j0 j0<|r_nil ?_
  refine sw_seq ?_
  refine sw_cond j0 (fun hc5=>?_) (fun hc5=>?_)
  ·
   replace h:=bT hc5 h
   refine sw_skip ?_
   refine sw_seq ?_
   refine sw_block ?_
   obtain ⟨v13,q6,h⟩:=bs h
   refine rg j0<|u<|ixI ti23 j0 ti42 j0 j0 j0 q6<|u<|ldI ti42 j0 (idx_some q6).2.2 j0<|u<|al 5 ti42 j0<|u<|sto ti42 j0 j0 j0<|r_nil ?_
   obtain ⟨v14,q7,h⟩:=bs h
   refine rl j0<|u<|mv j0<|u<|ld ti42 j0 j0<|u<|sc [0,3,4] (file_writer_field_ok v10 v11 v13 q7) j0 j0 j0 j0 ⟨(.mpt j0),(rnI j0),j5⟩ ⟨⟨_,j0,⟨(.msl j0),(.msl j0),j5⟩⟩,⟨j0,mkI (fun _=>j0)⟩,⟨j0,mkI (fun _=>j0)⟩,j5⟩<|r_can (env0:=[(2,.fn (.func 77) [.mpt 0 0 0] []),(12,.isl 3 (List.map rApiField v3)),(13,iA (List.length v3 : Int)),(14,iA v12)]) (st0:=[some (2,[[.msl 3 0 (List.length v14.1),.msl 4 0 (List.length v14.2)]]),none,none,some (1,List.map rStr v14.1),some (1,List.map byteRow v14.2)]) ⟨[.old 0,.dead,.dead,.old 6,.old 7],cv j0 (rsFn ⟨(.mpt j0),j5⟩ j5)<|ce j0 j0<|ce j0 j0<|ce j0 j0<|cn,j0,⟨⟨_,j0,rsOne ⟨.msl j0,.msl j0,j5⟩⟩,⟨_,j0,rsMap (fun _=>j0)⟩,⟨_,j0,rsMap (fun _=>j0)⟩,j5⟩,j0,j1⟩<|r_nil ?_
   refine rl j0<|u<|add ti3 j0 j0<|u<|mv j0<|r_nil ?_
   obtain rfl:=sm h
   exact ⟨_,j0,[.old 0,.dead,.dead,.old 3,.old 4],cv j0 (rsFn ⟨(.mpt j0),j5⟩ j5)<|ce j0 j0<|ce j0 j0<|ce j0 j0<|cn,j0,⟨⟨_,j0,rsOne ⟨.msl j0,.msl j0,j5⟩⟩,⟨_,j0,rsMap (fun _=>j0)⟩,⟨_,j0,rsMap (fun _=>j0)⟩,j5⟩,j0,j1⟩
  ·
   replace h:=bF hc5 h
   refine sw_exit ?_
   obtain rfl:=sm h
   exact ⟨j0,_,j0,[.old 0,.dead,.dead,.old 3,.old 4],cn,j0,⟨⟨_,j0,rsOne ⟨.msl j0,.msl j0,j5⟩⟩,⟨_,j0,rsMap (fun _=>j0)⟩,⟨_,j0,rsMap (fun _=>j0)⟩,j5⟩,j0,j1⟩
 ·
  rintro ⟨v15,v16⟩ rfl
  replace h : file_list_api_Field_k2 v15 v16 = some r:=h
  unfold file_list_api_Field_k2 at h
  refine ow_intro ?_
  obtain rfl:=sm h
  exact ⟨_,j0,[.old 0,.dead,.dead,.old 3,.old 4],rsTup j5,j0,⟨⟨_,j0,rsOne ⟨.msl j0,.msl j0,j5⟩⟩,⟨_,j0,rsMap (fun _=>j0)⟩,⟨_,j0,rsMap (fun _=>j0)⟩,j5⟩,j0,j1⟩
 ·
  rintro r' rfl env st hp
  obtain rfl:=sm h
  exact hp
def file_writer_ins (v1 : List (List UInt8)) (v2 : List UInt8) (v3 : ApiIns) : Option ((List (List UInt8)) × (List UInt8)) :=
  (file_writer_num v1 v2 v3.Op).bind fun v4=>(file_writer_num v1 v4 v3.A).bind fun v5=>(file_writer_text v1 v5 v3.C).bind fun v6=>(file_writer_text v6.1 v6.2 v3.M).bind fun v7=>some (v7.1,v7.2)
theorem file_writer_ins_ok (v1 : List (List UInt8)) (v2 : List UInt8) (v3 : ApiIns) {r : (List (List UInt8)) × (List UInt8)} (h : file_writer_ins v1 v2 v3 = some r) : SC Tryz.prog 163 [.mpt 0 0 0,.agg [iA v3.Op,iA v3.A,sA v3.C,sA v3.M]] [.one 2 [.msl 1 0 (List.length v1),.msl 2 0 (List.length v2)],.many 1 (List.map rStr v1),.many 1 (List.map byteRow v2)] (.tup []) [.one 2 [.msl 3 0 (List.length r.1),.msl 4 0 (List.length r.2)],.no,.no,.many 1 (List.map rStr r.1),.many 1 (List.map byteRow r.2)]:=by
 refine ⟨⟨j5,j5,j5,sbOk (sz:=1) (fun _=>j0),sbOk (sz:=1) (fun _=>j0),j5⟩,scall_fn Tryz.func163 j0 (by kernel_rfl) j0 ?_⟩
 unfold file_writer_ins at h
 refine rg j0<|u<|bx 3 4 j0 j0 j0 j0<|r_nil ?_
 obtain ⟨v4,q1,h⟩:=bs h
 refine rg j0<|u<|mv j0<|u<|fa ti40 j0 j0 j0<|u<|ld ti3 j0 j0<|u<|sc [0,1,2] (file_writer_num_ok v1 v2 v3.Op q1) j0 j0 j0 j0 ⟨(.mpt j0),(rnI j0),j5⟩ ⟨⟨_,j0,⟨(.msl j0),(.msl j0),j5⟩⟩,⟨j0,mkI (fun _=>j0)⟩,⟨j0,mkI (fun _=>j0)⟩,j5⟩<|r_can (env0:=[(0,.mpt 0 0 0),(3,.mpt 4 0 0)]) (st0:=[some (2,[[.msl 1 0 (List.length v1),.msl 3 0 (List.length v4)]]),some (1,List.map rStr v1),none,some (1,List.map byteRow v4),some (4,[[iA v3.Op,iA v3.A,sA v3.C,sA v3.M]])]) ⟨[.old 0,.old 1,.dead,.old 4,.old 3],cv j0 (.mpt j0)<|cv j0 (.mpt j0)<|cn,j0,⟨⟨_,j0,rsOne ⟨.msl j0,.msl j0,j5⟩⟩,⟨_,j0,rsMap (fun _=>j0)⟩,⟨_,j0,rsMap (fun _=>j0)⟩,⟨_,j0,rsOne ⟨ci j0,ci j0,ci j0,ci j0,j5⟩⟩,j5⟩,j0,j1⟩<|r_nil ?_
 obtain ⟨v5,q2,h⟩:=bs h
 refine rg j0<|u<|mv j0<|u<|fa ti40 j0 j0 j0<|u<|ld ti3 j0 j0<|u<|sc [0,1,3] (file_writer_num_ok v1 v4 v3.A q2) j0 j0 j0 j0 ⟨(.mpt j0),(rnI j0),j5⟩ ⟨⟨_,j0,⟨(.msl j0),(.msl j0),j5⟩⟩,⟨j0,mkI (fun _=>j0)⟩,⟨j0,mkI (fun _=>j0)⟩,j5⟩<|r_can (env0:=[(0,.mpt 0 0 0),(3,.mpt 4 0 0)]) (st0:=[some (2,[[.msl 1 0 (List.length v1),.msl 3 0 (List.length v5)]]),some (1,List.map rStr v1),none,some (1,List.map byteRow v5),some (4,[[iA v3.Op,iA v3.A,sA v3.C,sA v3.M]])]) ⟨[.old 0,.old 1,.dead,.old 5,.old 4],cv j0 (.mpt j0)<|cv j0 (.mpt j0)<|cn,j0,⟨⟨_,j0,rsOne ⟨.msl j0,.msl j0,j5⟩⟩,⟨_,j0,rsMap (fun _=>j0)⟩,⟨_,j0,rsMap (fun _=>j0)⟩,⟨_,j0,rsOne ⟨ci j0,ci j0,ci j0,ci j0,j5⟩⟩,j5⟩,j0,j1⟩<|r_nil ?_
 obtain ⟨v6,q3,h⟩:=bs h
 refine rg j0<|u<|mv j0<|u<|fa ti40 j0 j0 j0<|u<|ld ti9 j0 j0<|u<|sc [0,1,3] (file_writer_text_ok v1 v5 v3.C q3) j0 j0 j0 j0 ⟨(.mpt j0),(rnI j0),j5⟩ ⟨⟨_,j0,⟨(.msl j0),(.msl j0),j5⟩⟩,⟨j0,mkI (fun _=>j0)⟩,⟨j0,mkI (fun _=>j0)⟩,j5⟩<|r_can (env0:=[(0,.mpt 0 0 0),(3,.mpt 5 0 0)]) (st0:=[some (2,[[.msl 3 0 (List.length v6.1),.msl 4 0 (List.length v6.2)]]),none,none,some (1,List.map rStr v6.1),some (1,List.map byteRow v6.2),some (4,[[iA v3.Op,iA v3.A,sA v3.C,sA v3.M]])]) ⟨[.old 0,.dead,.dead,.old 5,.old 6,.old 4],cv j0 (.mpt j0)<|cv j0 (.mpt j0)<|cn,j0,⟨⟨_,j0,rsOne ⟨.msl j0,.msl j0,j5⟩⟩,⟨_,j0,rsMap (fun _=>j0)⟩,⟨_,j0,rsMap (fun _=>j0)⟩,⟨_,j0,rsOne ⟨ci j0,ci j0,ci j0,ci j0,j5⟩⟩,j5⟩,j0,j1⟩<|r_nil ?_
 obtain ⟨v7,q4,h⟩:=bs h
 refine rl j0<|u<|mv j0<|u<|fa ti40 j0 j0 j0<|u<|ld ti9 j0 j0<|u<|sc [0,3,4] (file_writer_text_ok v6.1 v6.2 v3.M q4) j0 j0 j0 j0 ⟨(.mpt j0),(rnI j0),j5⟩ ⟨⟨_,j0,⟨(.msl j0),(.msl j0),j5⟩⟩,⟨j0,mkI (fun _=>j0)⟩,⟨j0,mkI (fun _=>j0)⟩,j5⟩<|r_can (env0:=[]) (st0:=[some (2,[[.msl 3 0 (List.length v7.1),.msl 4 0 (List.length v7.2)]]),none,none,some (1,List.map rStr v7.1),some (1,List.map byteRow v7.2)]) ⟨[.old 0,.dead,.dead,.old 6,.old 7],cn,j0,⟨⟨_,j0,rsOne ⟨.msl j0,.msl j0,j5⟩⟩,⟨_,j0,rsMap (fun _=>j0)⟩,⟨_,j0,rsMap (fun _=>j0)⟩,j5⟩,j0,j1⟩<|r_nil ?_
 obtain rfl:=sm h
 exact ⟨_,j0,[.old 0,.dead,.dead,.old 3,.old 4],rsTup j5,j0,⟨⟨_,j0,rsOne ⟨.msl j0,.msl j0,j5⟩⟩,⟨_,j0,rsMap (fun _=>j0)⟩,⟨_,j0,rsMap (fun _=>j0)⟩,j5⟩,j0,j1⟩
def file_list_api_Ins_k2 (v15 : List (List UInt8)) (v16 : List UInt8) : Option ((List (List UInt8)) × (List UInt8)) :=
  some (v15,v16)
def file_list_api_Ins_l1 (v3 : List ApiIns) (v10 : List (List UInt8)) (v11 : List UInt8) (v12 : Int) : Option (Sum ((List (List UInt8)) × (List UInt8) × Int) (Sum ((List (List UInt8)) × (List UInt8)) ((List (List UInt8)) × (List UInt8)))) :=
  cond (decide (v12 < (List.length v3 : Int))) ((idx v3 v12).bind fun v13=>(file_writer_ins v10 v11 v13).bind fun v14=>some (.inl (v14.1,v14.2,(IntKind.i64.wrap (v12 + 1))))) (some (.inr (.inl (v10,v11))))
def file_list_api_Ins (v1 : List (List UInt8)) (v2 : List UInt8) (v3 : List ApiIns) : Option ((List (List UInt8)) × (List UInt8)) :=
  (file_writer_num v1 v2 (List.length v3 : Int)).bind fun v4=>(loopP (fun z=>file_list_api_Ins_l1 v3 z.1 z.2.1 z.2.2) (v1,v4,0)).bind fun o=>leave o (fun b=>file_list_api_Ins_k2 b.1 b.2) some
theorem file_list_api_Ins_ok (v1 : List (List UInt8)) (v2 : List UInt8) (v3 : List ApiIns) {r : (List (List UInt8)) × (List UInt8)} (h : file_list_api_Ins v1 v2 v3 = some r) : SC Tryz.prog 162 [.mpt 0 0 0,.isl 4 (List.map rApiIns v3),.fn (.func 163) [.mpt 0 0 0] []] [.one 2 [.msl 1 0 (List.length v1),.msl 2 0 (List.length v2)],.many 1 (List.map rStr v1),.many 1 (List.map byteRow v2)] (.tup []) [.one 2 [.msl 3 0 (List.length r.1),.msl 4 0 (List.length r.2)],.no,.no,.many 1 (List.map rStr r.1),.many 1 (List.map byteRow r.2)]:=by
 refine ⟨⟨j5,j5,j5,sbOk (sz:=1) (fun _=>j0),sbOk (sz:=1) (fun _=>j0),j5⟩,scall_fn Tryz.func162 j0 (by kernel_rfl) j0 ?_⟩
 unfold file_list_api_Ins at h
 obtain ⟨v4,q1,h⟩:=bs h
 refine rg j0<|u<|mv j0<|u<|mv j0<|u<|lnI ti34 j0 j0<|u<|sc [0,1,2] (file_writer_num_ok v1 v2 (List.length v3 : Int) q1) j0 j0 j0 j0 ⟨(.mpt j0),(rnI j0),j5⟩ ⟨⟨_,j0,⟨(.msl j0),(.msl j0),j5⟩⟩,⟨j0,mkI (fun _=>j0)⟩,⟨j0,mkI (fun _=>j0)⟩,j5⟩<|r_can (env0:=[(1,.isl 4 (List.map rApiIns v3)),(2,.fn (.func 163) [.mpt 0 0 0] [])]) (st0:=[some (2,[[.msl 1 0 (List.length v1),.msl 3 0 (List.length v4)]]),some (1,List.map rStr v1),none,some (1,List.map byteRow v4)]) ⟨[.old 0,.old 1,.dead,.old 3],ce j0 j0<|cv j0 (rsFn ⟨(.mpt j0),j5⟩ j5)<|cn,j0,⟨⟨_,j0,rsOne ⟨.msl j0,.msl j0,j5⟩⟩,⟨_,j0,rsMap (fun _=>j0)⟩,⟨_,j0,rsMap (fun _=>j0)⟩,j5⟩,j0,j1⟩<|r_nil ?_
 refine rg j0<|u<|mv j0<|u<|lnI ti34 j0 j0<|u<|mv j0<|r_nil ?_
 obtain ⟨o,ho,h⟩:=bs h
 refine sw_lpl (X:=(List (List UInt8)) × (List UInt8) × Int) (B:=(List (List UInt8)) × (List UInt8)) (R:=(List (List UInt8)) × (List UInt8)) (fun z=>[(2,.fn (.func 163) [.mpt 0 0 0] []),(12,.isl 4 (List.map rApiIns v3)),(13,iA (List.length v3 : Int)),(14,iA z.2.2)]) (fun z=>[some (2,[[.msl 3 0 (List.length z.1),.msl 4 0 (List.length z.2.1)]]),none,none,some (1,List.map rStr z.1),some (1,List.map byteRow z.2.1)]) (fun b=>[]) (fun b=>[some (2,[[.msl 3 0 (List.length b.1),.msl 4 0 (List.length b.2)]]),none,none,some (1,List.map rStr b.1),some (1,List.map byteRow b.2)]) (fun r env st=>PostF Tryz.prog Tryz.f162 3 (.tup []) [some (2,[[.msl 3 0 (List.length r.1),.msl 4 0 (List.length r.2)]]),none,none,some (1,List.map rStr r.1),some (1,List.map byteRow r.2)] env st) ho ⟨[.old 0,.dead,.dead,.old 1,.old 3],cv j0 (rsFn ⟨(.mpt j0),j5⟩ j5)<|ce j0 j0<|ce j0 j0<|ce j0 j0<|cn,j0,⟨⟨_,j0,rsOne ⟨.msl j0,.msl j0,j5⟩⟩,⟨_,j0,rsMap (fun _=>j0)⟩,⟨_,j0,rsMap (fun _=>j0)⟩,j5⟩,j0,j1⟩ ?_ ?_ ?_
 ·
  rintro ⟨v10,v11,v12⟩ r h
  replace h : file_list_api_Ins_l1 v3 v10 v11 v12 = some r:=h
  unfold file_list_api_Ins_l1 at h
  refine rg j0<|u<|lss ti3 j0 j0<|r_nil ?_
  refine sw_seq ?_
  refine sw_cond j0 (fun hc5=>?_) (fun hc5=>?_)
  ·
   replace h:=bT hc5 h
   refine sw_skip ?_
   refine sw_seq ?_
   refine sw_block ?_
   obtain ⟨v13,q6,h⟩:=bs h
   refine rg j0<|u<|ixI ti34 j0 ti40 j0 j0 j0 q6<|u<|ldI ti40 j0 (idx_some q6).2.2 j0<|u<|al 5 ti40 j0<|u<|sto ti40 j0 j0 j0<|r_nil ?_
   obtain ⟨v14,q7,h⟩:=bs h
   refine rl j0<|u<|mv j0<|u<|ld ti40 j0 j0<|u<|sc [0,3,4] (file_writer_ins_ok v10 v11 v13 q7) j0 j0 j0 j0 ⟨(.mpt j0),(rnI j0),j5⟩ ⟨⟨_,j0,⟨(.msl j0),(.msl j0),j5⟩⟩,⟨j0,mkI (fun _=>j0)⟩,⟨j0,mkI (fun _=>j0)⟩,j5⟩<|r_can (env0:=[(2,.fn (.func 163) [.mpt 0 0 0] []),(12,.isl 4 (List.map rApiIns v3)),(13,iA (List.length v3 : Int)),(14,iA v12)]) (st0:=[some (2,[[.msl 3 0 (List.length v14.1),.msl 4 0 (List.length v14.2)]]),none,none,some (1,List.map rStr v14.1),some (1,List.map byteRow v14.2)]) ⟨[.old 0,.dead,.dead,.old 6,.old 7],cv j0 (rsFn ⟨(.mpt j0),j5⟩ j5)<|ce j0 j0<|ce j0 j0<|ce j0 j0<|cn,j0,⟨⟨_,j0,rsOne ⟨.msl j0,.msl j0,j5⟩⟩,⟨_,j0,rsMap (fun _=>j0)⟩,⟨_,j0,rsMap (fun _=>j0)⟩,j5⟩,j0,j1⟩<|r_nil ?_
   refine rl j0<|u<|add ti3 j0 j0<|u<|mv j0<|r_nil ?_
   obtain rfl:=sm h
   exact ⟨_,j0,[.old 0,.dead,.dead,.old 3,.old 4],cv j0 (rsFn ⟨(.mpt j0),j5⟩ j5)<|ce j0 j0<|ce j0 j0<|ce j0 j0<|cn,j0,⟨⟨_,j0,rsOne ⟨.msl j0,.msl j0,j5⟩⟩,⟨_,j0,rsMap (fun _=>j0)⟩,⟨_,j0,rsMap (fun _=>j0)⟩,j5⟩,j0,j1⟩
  ·
   replace h:=bF hc5 h
   refine sw_exit ?_
   obtain rfl:=sm h
   exact ⟨j0,_,j0,[.old 0,.dead,.dead,.old 3,.old 4],cn,j0,⟨⟨_,j0,rsOne ⟨.msl j0,.msl j0,j5⟩⟩,⟨_,j0,rsMap (fun _=>j0)⟩,⟨_,j0,rsMap (fun _=>j0)⟩,j5⟩,j0,j1⟩
 ·
  rintro ⟨v15,v16⟩ rfl
  replace h : file_list_api_Ins_k2 v15 v16 = some r:=h
  unfold file_list_api_Ins_k2 at h
  refine ow_intro ?_
  obtain rfl:=sm h
  exact ⟨_,j0,[.old 0,.dead,.dead,.old 3,.old 4],rsTup j5,j0,⟨⟨_,j0,rsOne ⟨.msl j0,.msl j0,j5⟩⟩,⟨_,j0,rsMap (fun _=>j0)⟩,⟨_,j0,rsMap (fun _=>j0)⟩,j5⟩,j0,j1⟩
 ·
  rintro r' rfl env st hp
  obtain rfl:=sm h
  exact hp
def file_writer_place (v1 : List (List UInt8)) (v2 : List UInt8) (v3 : ApiMap) : Option ((List (List UInt8)) × (List UInt8)) :=
  (file_writer_num v1 v2 v3.At).bind fun v4=>(file_list_string v1 v4 v3.Locals).bind fun v5=>(file_list_string v5.1 v5.2 v3.Stack).bind fun v6=>some (v6.1,v6.2)
theorem file_writer_place_ok (v1 : List (List UInt8)) (v2 : List UInt8) (v3 : ApiMap) {r : (List (List UInt8)) × (List UInt8)} (h : file_writer_place v1 v2 v3 = some r) : SC Tryz.prog 165 [.mpt 0 0 0,.agg [iA v3.At,.isl 1 (List.map rStr v3.Locals),.isl 1 (List.map rStr v3.Stack)]] [.one 2 [.msl 1 0 (List.length v1),.msl 2 0 (List.length v2)],.many 1 (List.map rStr v1),.many 1 (List.map byteRow v2)] (.tup []) [.one 2 [.msl 3 0 (List.length r.1),.msl 4 0 (List.length r.2)],.no,.no,.many 1 (List.map rStr r.1),.many 1 (List.map byteRow r.2)]:=by
 refine ⟨⟨j5,j5,j5,sbOk (sz:=1) (fun _=>j0),sbOk (sz:=1) (fun _=>j0),j5⟩,scall_fn Tryz.func165 j0 (by kernel_rfl) j0 ?_⟩
 unfold file_writer_place at h
 refine rg j0<|u<|bx 3 3 j0 j0 j0 j0<|r_nil ?_
 obtain ⟨v4,q1,h⟩:=bs h
 refine rg j0<|u<|mv j0<|u<|fa ti80 j0 j0 j0<|u<|ld ti3 j0 j0<|u<|sc [0,1,2] (file_writer_num_ok v1 v2 v3.At q1) j0 j0 j0 j0 ⟨(.mpt j0),(rnI j0),j5⟩ ⟨⟨_,j0,⟨(.msl j0),(.msl j0),j5⟩⟩,⟨j0,mkI (fun _=>j0)⟩,⟨j0,mkI (fun _=>j0)⟩,j5⟩<|r_can (env0:=[(0,.mpt 0 0 0),(3,.mpt 4 0 0)]) (st0:=[some (2,[[.msl 1 0 (List.length v1),.msl 3 0 (List.length v4)]]),some (1,List.map rStr v1),none,some (1,List.map byteRow v4),some (3,[[iA v3.At,.isl 1 (List.map rStr v3.Locals),.isl 1 (List.map rStr v3.Stack)]])]) ⟨[.old 0,.old 1,.dead,.old 4,.old 3],cv j0 (.mpt j0)<|cv j0 (.mpt j0)<|cn,j0,⟨⟨_,j0,rsOne ⟨.msl j0,.msl j0,j5⟩⟩,⟨_,j0,rsMap (fun _=>j0)⟩,⟨_,j0,rsMap (fun _=>j0)⟩,⟨_,j0,rsOne ⟨ci j0,ci j0,ci j0,j5⟩⟩,j5⟩,j0,j1⟩<|r_nil ?_
 obtain ⟨v5,q2,h⟩:=bs h
 refine rg j0<|u<|mv j0<|u<|fa ti80 j0 j0 j0<|u<|ld ti22 j0 j0<|u<|mv j0<|u<|mf j0 j0<|u<|sc [0,1,3] (file_list_string_ok v1 v4 v3.Locals q2) j0 j0 j0 j0 ⟨(.mpt j0),(rnI j0),(rnFn ⟨(.mpt j0),j5⟩ j5),j5⟩ ⟨⟨_,j0,⟨(.msl j0),(.msl j0),j5⟩⟩,⟨j0,mkI (fun _=>j0)⟩,⟨j0,mkI (fun _=>j0)⟩,j5⟩<|r_can (env0:=[(0,.mpt 0 0 0),(3,.mpt 5 0 0)]) (st0:=[some (2,[[.msl 3 0 (List.length v5.1),.msl 4 0 (List.length v5.2)]]),none,none,some (1,List.map rStr v5.1),some (1,List.map byteRow v5.2),some (3,[[iA v3.At,.isl 1 (List.map rStr v3.Locals),.isl 1 (List.map rStr v3.Stack)]])]) ⟨[.old 0,.dead,.dead,.old 5,.old 6,.old 4],cv j0 (.mpt j0)<|cv j0 (.mpt j0)<|cn,j0,⟨⟨_,j0,rsOne ⟨.msl j0,.msl j0,j5⟩⟩,⟨_,j0,rsMap (fun _=>j0)⟩,⟨_,j0,rsMap (fun _=>j0)⟩,⟨_,j0,rsOne ⟨ci j0,ci j0,ci j0,j5⟩⟩,j5⟩,j0,j1⟩<|r_nil ?_
 obtain ⟨v6,q3,h⟩:=bs h
 refine rl j0<|u<|mv j0<|u<|fa ti80 j0 j0 j0<|u<|ld ti22 j0 j0<|u<|mv j0<|u<|mf j0 j0<|u<|sc [0,3,4] (file_list_string_ok v5.1 v5.2 v3.Stack q3) j0 j0 j0 j0 ⟨(.mpt j0),(rnI j0),(rnFn ⟨(.mpt j0),j5⟩ j5),j5⟩ ⟨⟨_,j0,⟨(.msl j0),(.msl j0),j5⟩⟩,⟨j0,mkI (fun _=>j0)⟩,⟨j0,mkI (fun _=>j0)⟩,j5⟩<|r_can (env0:=[]) (st0:=[some (2,[[.msl 3 0 (List.length v6.1),.msl 4 0 (List.length v6.2)]]),none,none,some (1,List.map rStr v6.1),some (1,List.map byteRow v6.2)]) ⟨[.old 0,.dead,.dead,.old 6,.old 7],cn,j0,⟨⟨_,j0,rsOne ⟨.msl j0,.msl j0,j5⟩⟩,⟨_,j0,rsMap (fun _=>j0)⟩,⟨_,j0,rsMap (fun _=>j0)⟩,j5⟩,j0,j1⟩<|r_nil ?_
 obtain rfl:=sm h
 exact ⟨_,j0,[.old 0,.dead,.dead,.old 3,.old 4],rsTup j5,j0,⟨⟨_,j0,rsOne ⟨.msl j0,.msl j0,j5⟩⟩,⟨_,j0,rsMap (fun _=>j0)⟩,⟨_,j0,rsMap (fun _=>j0)⟩,j5⟩,j0,j1⟩
def file_list_api_Map_k2 (v15 : List (List UInt8)) (v16 : List UInt8) : Option ((List (List UInt8)) × (List UInt8)) :=
  some (v15,v16)
def file_list_api_Map_l1 (v3 : List ApiMap) (v10 : List (List UInt8)) (v11 : List UInt8) (v12 : Int) : Option (Sum ((List (List UInt8)) × (List UInt8) × Int) (Sum ((List (List UInt8)) × (List UInt8)) ((List (List UInt8)) × (List UInt8)))) :=
  cond (decide (v12 < (List.length v3 : Int))) ((idx v3 v12).bind fun v13=>(file_writer_place v10 v11 v13).bind fun v14=>some (.inl (v14.1,v14.2,(IntKind.i64.wrap (v12 + 1))))) (some (.inr (.inl (v10,v11))))
def file_list_api_Map (v1 : List (List UInt8)) (v2 : List UInt8) (v3 : List ApiMap) : Option ((List (List UInt8)) × (List UInt8)) :=
  (file_writer_num v1 v2 (List.length v3 : Int)).bind fun v4=>(loopP (fun z=>file_list_api_Map_l1 v3 z.1 z.2.1 z.2.2) (v1,v4,0)).bind fun o=>leave o (fun b=>file_list_api_Map_k2 b.1 b.2) some
theorem file_list_api_Map_ok (v1 : List (List UInt8)) (v2 : List UInt8) (v3 : List ApiMap) {r : (List (List UInt8)) × (List UInt8)} (h : file_list_api_Map v1 v2 v3 = some r) : SC Tryz.prog 164 [.mpt 0 0 0,.isl 3 (List.map rApiMap v3),.fn (.func 165) [.mpt 0 0 0] []] [.one 2 [.msl 1 0 (List.length v1),.msl 2 0 (List.length v2)],.many 1 (List.map rStr v1),.many 1 (List.map byteRow v2)] (.tup []) [.one 2 [.msl 3 0 (List.length r.1),.msl 4 0 (List.length r.2)],.no,.no,.many 1 (List.map rStr r.1),.many 1 (List.map byteRow r.2)]:=by
 refine ⟨⟨j5,j5,j5,sbOk (sz:=1) (fun _=>j0),sbOk (sz:=1) (fun _=>j0),j5⟩,scall_fn Tryz.func164 j0 (by kernel_rfl) j0 ?_⟩
 unfold file_list_api_Map at h
 obtain ⟨v4,q1,h⟩:=bs h
 refine rg j0<|u<|mv j0<|u<|mv j0<|u<|lnI ti35 j0 j0<|u<|sc [0,1,2] (file_writer_num_ok v1 v2 (List.length v3 : Int) q1) j0 j0 j0 j0 ⟨(.mpt j0),(rnI j0),j5⟩ ⟨⟨_,j0,⟨(.msl j0),(.msl j0),j5⟩⟩,⟨j0,mkI (fun _=>j0)⟩,⟨j0,mkI (fun _=>j0)⟩,j5⟩<|r_can (env0:=[(1,.isl 3 (List.map rApiMap v3)),(2,.fn (.func 165) [.mpt 0 0 0] [])]) (st0:=[some (2,[[.msl 1 0 (List.length v1),.msl 3 0 (List.length v4)]]),some (1,List.map rStr v1),none,some (1,List.map byteRow v4)]) ⟨[.old 0,.old 1,.dead,.old 3],ce j0 j0<|cv j0 (rsFn ⟨(.mpt j0),j5⟩ j5)<|cn,j0,⟨⟨_,j0,rsOne ⟨.msl j0,.msl j0,j5⟩⟩,⟨_,j0,rsMap (fun _=>j0)⟩,⟨_,j0,rsMap (fun _=>j0)⟩,j5⟩,j0,j1⟩<|r_nil ?_
 refine rg j0<|u<|mv j0<|u<|lnI ti35 j0 j0<|u<|mv j0<|r_nil ?_
 obtain ⟨o,ho,h⟩:=bs h
 refine sw_lpl (X:=(List (List UInt8)) × (List UInt8) × Int) (B:=(List (List UInt8)) × (List UInt8)) (R:=(List (List UInt8)) × (List UInt8)) (fun z=>[(2,.fn (.func 165) [.mpt 0 0 0] []),(12,.isl 3 (List.map rApiMap v3)),(13,iA (List.length v3 : Int)),(14,iA z.2.2)]) (fun z=>[some (2,[[.msl 3 0 (List.length z.1),.msl 4 0 (List.length z.2.1)]]),none,none,some (1,List.map rStr z.1),some (1,List.map byteRow z.2.1)]) (fun b=>[]) (fun b=>[some (2,[[.msl 3 0 (List.length b.1),.msl 4 0 (List.length b.2)]]),none,none,some (1,List.map rStr b.1),some (1,List.map byteRow b.2)]) (fun r env st=>PostF Tryz.prog Tryz.f164 3 (.tup []) [some (2,[[.msl 3 0 (List.length r.1),.msl 4 0 (List.length r.2)]]),none,none,some (1,List.map rStr r.1),some (1,List.map byteRow r.2)] env st) ho ⟨[.old 0,.dead,.dead,.old 1,.old 3],cv j0 (rsFn ⟨(.mpt j0),j5⟩ j5)<|ce j0 j0<|ce j0 j0<|ce j0 j0<|cn,j0,⟨⟨_,j0,rsOne ⟨.msl j0,.msl j0,j5⟩⟩,⟨_,j0,rsMap (fun _=>j0)⟩,⟨_,j0,rsMap (fun _=>j0)⟩,j5⟩,j0,j1⟩ ?_ ?_ ?_
 ·
  rintro ⟨v10,v11,v12⟩ r h
  replace h : file_list_api_Map_l1 v3 v10 v11 v12 = some r:=h
  unfold file_list_api_Map_l1 at h
  refine rg j0<|u<|lss ti3 j0 j0<|r_nil ?_
  refine sw_seq ?_
  refine sw_cond j0 (fun hc5=>?_) (fun hc5=>?_)
  ·
   replace h:=bT hc5 h
   refine sw_skip ?_
   refine sw_seq ?_
   refine sw_block ?_
   obtain ⟨v13,q6,h⟩:=bs h
   refine rg j0<|u<|ixI ti35 j0 ti80 j0 j0 j0 q6<|u<|ldI ti80 j0 (idx_some q6).2.2 j0<|u<|al 5 ti80 j0<|u<|sto ti80 j0 j0 j0<|r_nil ?_
   obtain ⟨v14,q7,h⟩:=bs h
   refine rl j0<|u<|mv j0<|u<|ld ti80 j0 j0<|u<|sc [0,3,4] (file_writer_place_ok v10 v11 v13 q7) j0 j0 j0 j0 ⟨(.mpt j0),(rnI j0),j5⟩ ⟨⟨_,j0,⟨(.msl j0),(.msl j0),j5⟩⟩,⟨j0,mkI (fun _=>j0)⟩,⟨j0,mkI (fun _=>j0)⟩,j5⟩<|r_can (env0:=[(2,.fn (.func 165) [.mpt 0 0 0] []),(12,.isl 3 (List.map rApiMap v3)),(13,iA (List.length v3 : Int)),(14,iA v12)]) (st0:=[some (2,[[.msl 3 0 (List.length v14.1),.msl 4 0 (List.length v14.2)]]),none,none,some (1,List.map rStr v14.1),some (1,List.map byteRow v14.2)]) ⟨[.old 0,.dead,.dead,.old 6,.old 7],cv j0 (rsFn ⟨(.mpt j0),j5⟩ j5)<|ce j0 j0<|ce j0 j0<|ce j0 j0<|cn,j0,⟨⟨_,j0,rsOne ⟨.msl j0,.msl j0,j5⟩⟩,⟨_,j0,rsMap (fun _=>j0)⟩,⟨_,j0,rsMap (fun _=>j0)⟩,j5⟩,j0,j1⟩<|r_nil ?_
   refine rl j0<|u<|add ti3 j0 j0<|u<|mv j0<|r_nil ?_
   obtain rfl:=sm h
   exact ⟨_,j0,[.old 0,.dead,.dead,.old 3,.old 4],cv j0 (rsFn ⟨(.mpt j0),j5⟩ j5)<|ce j0 j0<|ce j0 j0<|ce j0 j0<|cn,j0,⟨⟨_,j0,rsOne ⟨.msl j0,.msl j0,j5⟩⟩,⟨_,j0,rsMap (fun _=>j0)⟩,⟨_,j0,rsMap (fun _=>j0)⟩,j5⟩,j0,j1⟩
  ·
   replace h:=bF hc5 h
   refine sw_exit ?_
   obtain rfl:=sm h
   exact ⟨j0,_,j0,[.old 0,.dead,.dead,.old 3,.old 4],cn,j0,⟨⟨_,j0,rsOne ⟨.msl j0,.msl j0,j5⟩⟩,⟨_,j0,rsMap (fun _=>j0)⟩,⟨_,j0,rsMap (fun _=>j0)⟩,j5⟩,j0,j1⟩
 ·
  rintro ⟨v15,v16⟩ rfl
  replace h : file_list_api_Map_k2 v15 v16 = some r:=h
  unfold file_list_api_Map_k2 at h
  refine ow_intro ?_
  obtain rfl:=sm h
  exact ⟨_,j0,[.old 0,.dead,.dead,.old 3,.old 4],rsTup j5,j0,⟨⟨_,j0,rsOne ⟨.msl j0,.msl j0,j5⟩⟩,⟨_,j0,rsMap (fun _=>j0)⟩,⟨_,j0,rsMap (fun _=>j0)⟩,j5⟩,j0,j1⟩
 ·
  rintro r' rfl env st hp
  obtain rfl:=sm h
  exact hp
def file_writer_trap (v1 : List (List UInt8)) (v2 : List UInt8) (v3 : ApiTrap) : Option ((List (List UInt8)) × (List UInt8)) :=
  (file_writer_num v1 v2 v3.From).bind fun v4=>(file_writer_num v1 v4 v3.To).bind fun v5=>(file_writer_num v1 v5 v3.At).bind fun v6=>(file_writer_text v1 v6 v3.C).bind fun v7=>some (v7.1,v7.2)
theorem file_writer_trap_ok (v1 : List (List UInt8)) (v2 : List UInt8) (v3 : ApiTrap) {r : (List (List UInt8)) × (List UInt8)} (h : file_writer_trap v1 v2 v3 = some r) : SC Tryz.prog 167 [.mpt 0 0 0,.agg [iA v3.From,iA v3.To,iA v3.At,sA v3.C]] [.one 2 [.msl 1 0 (List.length v1),.msl 2 0 (List.length v2)],.many 1 (List.map rStr v1),.many 1 (List.map byteRow v2)] (.tup []) [.one 2 [.msl 3 0 (List.length r.1),.msl 4 0 (List.length r.2)],.no,.no,.many 1 (List.map rStr r.1),.many 1 (List.map byteRow r.2)]:=by
 refine ⟨⟨j5,j5,j5,sbOk (sz:=1) (fun _=>j0),sbOk (sz:=1) (fun _=>j0),j5⟩,scall_fn Tryz.func167 j0 (by kernel_rfl) j0 ?_⟩
 unfold file_writer_trap at h
 refine rg j0<|u<|bx 3 4 j0 j0 j0 j0<|r_nil ?_
 obtain ⟨v4,q1,h⟩:=bs h
 refine rg j0<|u<|mv j0<|u<|fa ti88 j0 j0 j0<|u<|ld ti3 j0 j0<|u<|sc [0,1,2] (file_writer_num_ok v1 v2 v3.From q1) j0 j0 j0 j0 ⟨(.mpt j0),(rnI j0),j5⟩ ⟨⟨_,j0,⟨(.msl j0),(.msl j0),j5⟩⟩,⟨j0,mkI (fun _=>j0)⟩,⟨j0,mkI (fun _=>j0)⟩,j5⟩<|r_can (env0:=[(0,.mpt 0 0 0),(3,.mpt 4 0 0)]) (st0:=[some (2,[[.msl 1 0 (List.length v1),.msl 3 0 (List.length v4)]]),some (1,List.map rStr v1),none,some (1,List.map byteRow v4),some (4,[[iA v3.From,iA v3.To,iA v3.At,sA v3.C]])]) ⟨[.old 0,.old 1,.dead,.old 4,.old 3],cv j0 (.mpt j0)<|cv j0 (.mpt j0)<|cn,j0,⟨⟨_,j0,rsOne ⟨.msl j0,.msl j0,j5⟩⟩,⟨_,j0,rsMap (fun _=>j0)⟩,⟨_,j0,rsMap (fun _=>j0)⟩,⟨_,j0,rsOne ⟨ci j0,ci j0,ci j0,ci j0,j5⟩⟩,j5⟩,j0,j1⟩<|r_nil ?_
 obtain ⟨v5,q2,h⟩:=bs h
 refine rg j0<|u<|mv j0<|u<|fa ti88 j0 j0 j0<|u<|ld ti3 j0 j0<|u<|sc [0,1,3] (file_writer_num_ok v1 v4 v3.To q2) j0 j0 j0 j0 ⟨(.mpt j0),(rnI j0),j5⟩ ⟨⟨_,j0,⟨(.msl j0),(.msl j0),j5⟩⟩,⟨j0,mkI (fun _=>j0)⟩,⟨j0,mkI (fun _=>j0)⟩,j5⟩<|r_can (env0:=[(0,.mpt 0 0 0),(3,.mpt 4 0 0)]) (st0:=[some (2,[[.msl 1 0 (List.length v1),.msl 3 0 (List.length v5)]]),some (1,List.map rStr v1),none,some (1,List.map byteRow v5),some (4,[[iA v3.From,iA v3.To,iA v3.At,sA v3.C]])]) ⟨[.old 0,.old 1,.dead,.old 5,.old 4],cv j0 (.mpt j0)<|cv j0 (.mpt j0)<|cn,j0,⟨⟨_,j0,rsOne ⟨.msl j0,.msl j0,j5⟩⟩,⟨_,j0,rsMap (fun _=>j0)⟩,⟨_,j0,rsMap (fun _=>j0)⟩,⟨_,j0,rsOne ⟨ci j0,ci j0,ci j0,ci j0,j5⟩⟩,j5⟩,j0,j1⟩<|r_nil ?_
 obtain ⟨v6,q3,h⟩:=bs h
 refine rg j0<|u<|mv j0<|u<|fa ti88 j0 j0 j0<|u<|ld ti3 j0 j0<|u<|sc [0,1,3] (file_writer_num_ok v1 v5 v3.At q3) j0 j0 j0 j0 ⟨(.mpt j0),(rnI j0),j5⟩ ⟨⟨_,j0,⟨(.msl j0),(.msl j0),j5⟩⟩,⟨j0,mkI (fun _=>j0)⟩,⟨j0,mkI (fun _=>j0)⟩,j5⟩<|r_can (env0:=[(0,.mpt 0 0 0),(3,.mpt 4 0 0)]) (st0:=[some (2,[[.msl 1 0 (List.length v1),.msl 3 0 (List.length v6)]]),some (1,List.map rStr v1),none,some (1,List.map byteRow v6),some (4,[[iA v3.From,iA v3.To,iA v3.At,sA v3.C]])]) ⟨[.old 0,.old 1,.dead,.old 5,.old 4],cv j0 (.mpt j0)<|cv j0 (.mpt j0)<|cn,j0,⟨⟨_,j0,rsOne ⟨.msl j0,.msl j0,j5⟩⟩,⟨_,j0,rsMap (fun _=>j0)⟩,⟨_,j0,rsMap (fun _=>j0)⟩,⟨_,j0,rsOne ⟨ci j0,ci j0,ci j0,ci j0,j5⟩⟩,j5⟩,j0,j1⟩<|r_nil ?_
 obtain ⟨v7,q4,h⟩:=bs h
 refine rl j0<|u<|mv j0<|u<|fa ti88 j0 j0 j0<|u<|ld ti9 j0 j0<|u<|sc [0,1,3] (file_writer_text_ok v1 v6 v3.C q4) j0 j0 j0 j0 ⟨(.mpt j0),(rnI j0),j5⟩ ⟨⟨_,j0,⟨(.msl j0),(.msl j0),j5⟩⟩,⟨j0,mkI (fun _=>j0)⟩,⟨j0,mkI (fun _=>j0)⟩,j5⟩<|r_can (env0:=[]) (st0:=[some (2,[[.msl 3 0 (List.length v7.1),.msl 4 0 (List.length v7.2)]]),none,none,some (1,List.map rStr v7.1),some (1,List.map byteRow v7.2)]) ⟨[.old 0,.dead,.dead,.old 5,.old 6],cn,j0,⟨⟨_,j0,rsOne ⟨.msl j0,.msl j0,j5⟩⟩,⟨_,j0,rsMap (fun _=>j0)⟩,⟨_,j0,rsMap (fun _=>j0)⟩,j5⟩,j0,j1⟩<|r_nil ?_
 obtain rfl:=sm h
 exact ⟨_,j0,[.old 0,.dead,.dead,.old 3,.old 4],rsTup j5,j0,⟨⟨_,j0,rsOne ⟨.msl j0,.msl j0,j5⟩⟩,⟨_,j0,rsMap (fun _=>j0)⟩,⟨_,j0,rsMap (fun _=>j0)⟩,j5⟩,j0,j1⟩
def file_list_api_Trap_k2 (v15 : List (List UInt8)) (v16 : List UInt8) : Option ((List (List UInt8)) × (List UInt8)) :=
  some (v15,v16)
def file_list_api_Trap_l1 (v3 : List ApiTrap) (v10 : List (List UInt8)) (v11 : List UInt8) (v12 : Int) : Option (Sum ((List (List UInt8)) × (List UInt8) × Int) (Sum ((List (List UInt8)) × (List UInt8)) ((List (List UInt8)) × (List UInt8)))) :=
  cond (decide (v12 < (List.length v3 : Int))) ((idx v3 v12).bind fun v13=>(file_writer_trap v10 v11 v13).bind fun v14=>some (.inl (v14.1,v14.2,(IntKind.i64.wrap (v12 + 1))))) (some (.inr (.inl (v10,v11))))
def file_list_api_Trap (v1 : List (List UInt8)) (v2 : List UInt8) (v3 : List ApiTrap) : Option ((List (List UInt8)) × (List UInt8)) :=
  (file_writer_num v1 v2 (List.length v3 : Int)).bind fun v4=>(loopP (fun z=>file_list_api_Trap_l1 v3 z.1 z.2.1 z.2.2) (v1,v4,0)).bind fun o=>leave o (fun b=>file_list_api_Trap_k2 b.1 b.2) some
theorem file_list_api_Trap_ok (v1 : List (List UInt8)) (v2 : List UInt8) (v3 : List ApiTrap) {r : (List (List UInt8)) × (List UInt8)} (h : file_list_api_Trap v1 v2 v3 = some r) : SC Tryz.prog 166 [.mpt 0 0 0,.isl 4 (List.map rApiTrap v3),.fn (.func 167) [.mpt 0 0 0] []] [.one 2 [.msl 1 0 (List.length v1),.msl 2 0 (List.length v2)],.many 1 (List.map rStr v1),.many 1 (List.map byteRow v2)] (.tup []) [.one 2 [.msl 3 0 (List.length r.1),.msl 4 0 (List.length r.2)],.no,.no,.many 1 (List.map rStr r.1),.many 1 (List.map byteRow r.2)]:=by
 refine ⟨⟨j5,j5,j5,sbOk (sz:=1) (fun _=>j0),sbOk (sz:=1) (fun _=>j0),j5⟩,scall_fn Tryz.func166 j0 (by kernel_rfl) j0 ?_⟩
 unfold file_list_api_Trap at h
 obtain ⟨v4,q1,h⟩:=bs h
 refine rg j0<|u<|mv j0<|u<|mv j0<|u<|lnI ti36 j0 j0<|u<|sc [0,1,2] (file_writer_num_ok v1 v2 (List.length v3 : Int) q1) j0 j0 j0 j0 ⟨(.mpt j0),(rnI j0),j5⟩ ⟨⟨_,j0,⟨(.msl j0),(.msl j0),j5⟩⟩,⟨j0,mkI (fun _=>j0)⟩,⟨j0,mkI (fun _=>j0)⟩,j5⟩<|r_can (env0:=[(1,.isl 4 (List.map rApiTrap v3)),(2,.fn (.func 167) [.mpt 0 0 0] [])]) (st0:=[some (2,[[.msl 1 0 (List.length v1),.msl 3 0 (List.length v4)]]),some (1,List.map rStr v1),none,some (1,List.map byteRow v4)]) ⟨[.old 0,.old 1,.dead,.old 3],ce j0 j0<|cv j0 (rsFn ⟨(.mpt j0),j5⟩ j5)<|cn,j0,⟨⟨_,j0,rsOne ⟨.msl j0,.msl j0,j5⟩⟩,⟨_,j0,rsMap (fun _=>j0)⟩,⟨_,j0,rsMap (fun _=>j0)⟩,j5⟩,j0,j1⟩<|r_nil ?_
 refine rg j0<|u<|mv j0<|u<|lnI ti36 j0 j0<|u<|mv j0<|r_nil ?_
 obtain ⟨o,ho,h⟩:=bs h
 refine sw_lpl (X:=(List (List UInt8)) × (List UInt8) × Int) (B:=(List (List UInt8)) × (List UInt8)) (R:=(List (List UInt8)) × (List UInt8)) (fun z=>[(2,.fn (.func 167) [.mpt 0 0 0] []),(12,.isl 4 (List.map rApiTrap v3)),(13,iA (List.length v3 : Int)),(14,iA z.2.2)]) (fun z=>[some (2,[[.msl 3 0 (List.length z.1),.msl 4 0 (List.length z.2.1)]]),none,none,some (1,List.map rStr z.1),some (1,List.map byteRow z.2.1)]) (fun b=>[]) (fun b=>[some (2,[[.msl 3 0 (List.length b.1),.msl 4 0 (List.length b.2)]]),none,none,some (1,List.map rStr b.1),some (1,List.map byteRow b.2)]) (fun r env st=>PostF Tryz.prog Tryz.f166 3 (.tup []) [some (2,[[.msl 3 0 (List.length r.1),.msl 4 0 (List.length r.2)]]),none,none,some (1,List.map rStr r.1),some (1,List.map byteRow r.2)] env st) ho ⟨[.old 0,.dead,.dead,.old 1,.old 3],cv j0 (rsFn ⟨(.mpt j0),j5⟩ j5)<|ce j0 j0<|ce j0 j0<|ce j0 j0<|cn,j0,⟨⟨_,j0,rsOne ⟨.msl j0,.msl j0,j5⟩⟩,⟨_,j0,rsMap (fun _=>j0)⟩,⟨_,j0,rsMap (fun _=>j0)⟩,j5⟩,j0,j1⟩ ?_ ?_ ?_
 ·
  rintro ⟨v10,v11,v12⟩ r h
  replace h : file_list_api_Trap_l1 v3 v10 v11 v12 = some r:=h
  unfold file_list_api_Trap_l1 at h
  refine rg j0<|u<|lss ti3 j0 j0<|r_nil ?_
  refine sw_seq ?_
  refine sw_cond j0 (fun hc5=>?_) (fun hc5=>?_)
  ·
   replace h:=bT hc5 h
   refine sw_skip ?_
   refine sw_seq ?_
   refine sw_block ?_
   obtain ⟨v13,q6,h⟩:=bs h
   refine rg j0<|u<|ixI ti36 j0 ti88 j0 j0 j0 q6<|u<|ldI ti88 j0 (idx_some q6).2.2 j0<|u<|al 5 ti88 j0<|u<|sto ti88 j0 j0 j0<|r_nil ?_
   obtain ⟨v14,q7,h⟩:=bs h
   refine rl j0<|u<|mv j0<|u<|ld ti88 j0 j0<|u<|sc [0,3,4] (file_writer_trap_ok v10 v11 v13 q7) j0 j0 j0 j0 ⟨(.mpt j0),(rnI j0),j5⟩ ⟨⟨_,j0,⟨(.msl j0),(.msl j0),j5⟩⟩,⟨j0,mkI (fun _=>j0)⟩,⟨j0,mkI (fun _=>j0)⟩,j5⟩<|r_can (env0:=[(2,.fn (.func 167) [.mpt 0 0 0] []),(12,.isl 4 (List.map rApiTrap v3)),(13,iA (List.length v3 : Int)),(14,iA v12)]) (st0:=[some (2,[[.msl 3 0 (List.length v14.1),.msl 4 0 (List.length v14.2)]]),none,none,some (1,List.map rStr v14.1),some (1,List.map byteRow v14.2)]) ⟨[.old 0,.dead,.dead,.old 6,.old 7],cv j0 (rsFn ⟨(.mpt j0),j5⟩ j5)<|ce j0 j0<|ce j0 j0<|ce j0 j0<|cn,j0,⟨⟨_,j0,rsOne ⟨.msl j0,.msl j0,j5⟩⟩,⟨_,j0,rsMap (fun _=>j0)⟩,⟨_,j0,rsMap (fun _=>j0)⟩,j5⟩,j0,j1⟩<|r_nil ?_
   refine rl j0<|u<|add ti3 j0 j0<|u<|mv j0<|r_nil ?_
   obtain rfl:=sm h
   exact ⟨_,j0,[.old 0,.dead,.dead,.old 3,.old 4],cv j0 (rsFn ⟨(.mpt j0),j5⟩ j5)<|ce j0 j0<|ce j0 j0<|ce j0 j0<|cn,j0,⟨⟨_,j0,rsOne ⟨.msl j0,.msl j0,j5⟩⟩,⟨_,j0,rsMap (fun _=>j0)⟩,⟨_,j0,rsMap (fun _=>j0)⟩,j5⟩,j0,j1⟩
  ·
   replace h:=bF hc5 h
   refine sw_exit ?_
   obtain rfl:=sm h
   exact ⟨j0,_,j0,[.old 0,.dead,.dead,.old 3,.old 4],cn,j0,⟨⟨_,j0,rsOne ⟨.msl j0,.msl j0,j5⟩⟩,⟨_,j0,rsMap (fun _=>j0)⟩,⟨_,j0,rsMap (fun _=>j0)⟩,j5⟩,j0,j1⟩
 ·
  rintro ⟨v15,v16⟩ rfl
  replace h : file_list_api_Trap_k2 v15 v16 = some r:=h
  unfold file_list_api_Trap_k2 at h
  refine ow_intro ?_
  obtain rfl:=sm h
  exact ⟨_,j0,[.old 0,.dead,.dead,.old 3,.old 4],rsTup j5,j0,⟨⟨_,j0,rsOne ⟨.msl j0,.msl j0,j5⟩⟩,⟨_,j0,rsMap (fun _=>j0)⟩,⟨_,j0,rsMap (fun _=>j0)⟩,j5⟩,j0,j1⟩
 ·
  rintro r' rfl env st hp
  obtain rfl:=sm h
  exact hp
def file_writer_method (v1 : List (List UInt8)) (v2 : List UInt8) (v3 : ApiMethod) : Option ((List (List UInt8)) × (List UInt8)) :=
  (file_writer_text v1 v2 v3.Name).bind fun v4=>(file_list_string v4.1 v4.2 v3.Params).bind fun v5=>(file_writer_text v5.1 v5.2 v3.Ret).bind fun v6=>(file_writer_truth v6.1 v6.2 v3.Static).bind fun v7=>(file_writer_truth v6.1 v7 v3.Abstract).bind fun v8=>(file_writer_num v6.1 v8 v3.Locals).bind fun v9=>(file_writer_num v6.1 v9 v3.Stack).bind fun v10=>(file_list_api_Ins v6.1 v10 v3.Code).bind fun v11=>(file_list_api_Map v11.1 v11.2 v3.Maps).bind fun v12=>(file_list_api_Trap v12.1 v12.2 v3.Traps).bind fun v13=>some (v13.1,v13.2)
theorem file_writer_method_ok (v1 : List (List UInt8)) (v2 : List UInt8) (v3 : ApiMethod) {r : (List (List UInt8)) × (List UInt8)} (h : file_writer_method v1 v2 v3 = some r) : SC Tryz.prog 79 [.mpt 0 0 0,.agg [sA v3.Name,.isl 1 (List.map rStr v3.Params),sA v3.Ret,bA v3.Static,bA v3.Abstract,iA v3.Locals,iA v3.Stack,.isl 4 (List.map rApiIns v3.Code),.isl 3 (List.map rApiMap v3.Maps),.isl 4 (List.map rApiTrap v3.Traps)]] [.one 2 [.msl 1 0 (List.length v1),.msl 2 0 (List.length v2)],.many 1 (List.map rStr v1),.many 1 (List.map byteRow v2)] (.tup []) [.one 2 [.msl 3 0 (List.length r.1),.msl 4 0 (List.length r.2)],.no,.no,.many 1 (List.map rStr r.1),.many 1 (List.map byteRow r.2)]:=by
 refine ⟨⟨j5,j5,j5,sbOk (sz:=1) (fun _=>j0),sbOk (sz:=1) (fun _=>j0),j5⟩,scall_fn Tryz.func79 j0 (by kernel_rfl) j0 ?_⟩
 unfold file_writer_method at h
 refine rg j0<|u<|bx 3 10 j0 j0 j0 j0<|r_nil ?_
 obtain ⟨v4,q1,h⟩:=bs h
 refine rg j0<|u<|mv j0<|u<|fa ti38 j0 j0 j0<|u<|ld ti9 j0 j0<|u<|sc [0,1,2] (file_writer_text_ok v1 v2 v3.Name q1) j0 j0 j0 j0 ⟨(.mpt j0),(rnI j0),j5⟩ ⟨⟨_,j0,⟨(.msl j0),(.msl j0),j5⟩⟩,⟨j0,mkI (fun _=>j0)⟩,⟨j0,mkI (fun _=>j0)⟩,j5⟩<|r_can (env0:=[(0,.mpt 0 0 0),(3,.mpt 5 0 0)]) (st0:=[some (2,[[.msl 3 0 (List.length v4.1),.msl 4 0 (List.length v4.2)]]),none,none,some (1,List.map rStr v4.1),some (1,List.map byteRow v4.2),some (10,[[sA v3.Name,.isl 1 (List.map rStr v3.Params),sA v3.Ret,bA v3.Static,bA v3.Abstract,iA v3.Locals,iA v3.Stack,.isl 4 (List.map rApiIns v3.Code),.isl 3 (List.map rApiMap v3.Maps),.isl 4 (List.map rApiTrap v3.Traps)]])]) ⟨[.old 0,.dead,.dead,.old 4,.old 5,.old 3],cv j0 (.mpt j0)<|cv j0 (.mpt j0)<|cn,j0,⟨⟨_,j0,rsOne ⟨.msl j0,.msl j0,j5⟩⟩,⟨_,j0,rsMap (fun _=>j0)⟩,⟨_,j0,rsMap (fun _=>j0)⟩,⟨_,j0,rsOne ⟨ci j0,ci j0,ci j0,ci j0,ci j0,ci j0,ci j0,ci j0,ci j0,ci j0,j5⟩⟩,j5⟩,j0,j1⟩<|r_nil ?_
 obtain ⟨v5,q2,h⟩:=bs h
 refine rg j0<|u<|mv j0<|u<|fa ti38 j0 j0 j0<|u<|ld ti22 j0 j0<|u<|mv j0<|u<|mf j0 j0<|u<|sc [0,3,4] (file_list_string_ok v4.1 v4.2 v3.Params q2) j0 j0 j0 j0 ⟨(.mpt j0),(rnI j0),(rnFn ⟨(.mpt j0),j5⟩ j5),j5⟩ ⟨⟨_,j0,⟨(.msl j0),(.msl j0),j5⟩⟩,⟨j0,mkI (fun _=>j0)⟩,⟨j0,mkI (fun _=>j0)⟩,j5⟩<|r_can (env0:=[(0,.mpt 0 0 0),(3,.mpt 5 0 0)]) (st0:=[some (2,[[.msl 3 0 (List.length v5.1),.msl 4 0 (List.length v5.2)]]),none,none,some (1,List.map rStr v5.1),some (1,List.map byteRow v5.2),some (10,[[sA v3.Name,.isl 1 (List.map rStr v3.Params),sA v3.Ret,bA v3.Static,bA v3.Abstract,iA v3.Locals,iA v3.Stack,.isl 4 (List.map rApiIns v3.Code),.isl 3 (List.map rApiMap v3.Maps),.isl 4 (List.map rApiTrap v3.Traps)]])]) ⟨[.old 0,.dead,.dead,.old 6,.old 7,.old 5],cv j0 (.mpt j0)<|cv j0 (.mpt j0)<|cn,j0,⟨⟨_,j0,rsOne ⟨.msl j0,.msl j0,j5⟩⟩,⟨_,j0,rsMap (fun _=>j0)⟩,⟨_,j0,rsMap (fun _=>j0)⟩,⟨_,j0,rsOne ⟨ci j0,ci j0,ci j0,ci j0,ci j0,ci j0,ci j0,ci j0,ci j0,ci j0,j5⟩⟩,j5⟩,j0,j1⟩<|r_nil ?_
 obtain ⟨v6,q3,h⟩:=bs h
 refine rg j0<|u<|mv j0<|u<|fa ti38 j0 j0 j0<|u<|ld ti9 j0 j0<|u<|sc [0,3,4] (file_writer_text_ok v5.1 v5.2 v3.Ret q3) j0 j0 j0 j0 ⟨(.mpt j0),(rnI j0),j5⟩ ⟨⟨_,j0,⟨(.msl j0),(.msl j0),j5⟩⟩,⟨j0,mkI (fun _=>j0)⟩,⟨j0,mkI (fun _=>j0)⟩,j5⟩<|r_can (env0:=[(0,.mpt 0 0 0),(3,.mpt 5 0 0)]) (st0:=[some (2,[[.msl 3 0 (List.length v6.1),.msl 4 0 (List.length v6.2)]]),none,none,some (1,List.map rStr v6.1),some (1,List.map byteRow v6.2),some (10,[[sA v3.Name,.isl 1 (List.map rStr v3.Params),sA v3.Ret,bA v3.Static,bA v3.Abstract,iA v3.Locals,iA v3.Stack,.isl 4 (List.map rApiIns v3.Code),.isl 3 (List.map rApiMap v3.Maps),.isl 4 (List.map rApiTrap v3.Traps)]])]) ⟨[.old 0,.dead,.dead,.old 6,.old 7,.old 5],cv j0 (.mpt j0)<|cv j0 (.mpt j0)<|cn,j0,⟨⟨_,j0,rsOne ⟨.msl j0,.msl j0,j5⟩⟩,⟨_,j0,rsMap (fun _=>j0)⟩,⟨_,j0,rsMap (fun _=>j0)⟩,⟨_,j0,rsOne ⟨ci j0,ci j0,ci j0,ci j0,ci j0,ci j0,ci j0,ci j0,ci j0,ci j0,j5⟩⟩,j5⟩,j0,j1⟩<|r_nil ?_
 obtain ⟨v7,q4,h⟩:=bs h
 refine rg j0<|u<|mv j0<|u<|fa ti38 j0 j0 j0<|u<|ld ti4 j0 j0<|u<|sc [0,3,4] (file_writer_truth_ok v6.1 v6.2 v3.Static q4) j0 j0 j0 j0 ⟨(.mpt j0),(rnI j0),j5⟩ ⟨⟨_,j0,⟨(.msl j0),(.msl j0),j5⟩⟩,⟨j0,mkI (fun _=>j0)⟩,⟨j0,mkI (fun _=>j0)⟩,j5⟩<|r_can (env0:=[(0,.mpt 0 0 0),(3,.mpt 5 0 0)]) (st0:=[some (2,[[.msl 3 0 (List.length v6.1),.msl 4 0 (List.length v7)]]),none,none,some (1,List.map rStr v6.1),some (1,List.map byteRow v7),some (10,[[sA v3.Name,.isl 1 (List.map rStr v3.Params),sA v3.Ret,bA v3.Static,bA v3.Abstract,iA v3.Locals,iA v3.Stack,.isl 4 (List.map rApiIns v3.Code),.isl 3 (List.map rApiMap v3.Maps),.isl 4 (List.map rApiTrap v3.Traps)]])]) ⟨[.old 0,.dead,.dead,.old 3,.old 6,.old 5],cv j0 (.mpt j0)<|cv j0 (.mpt j0)<|cn,j0,⟨⟨_,j0,rsOne ⟨.msl j0,.msl j0,j5⟩⟩,⟨_,j0,rsMap (fun _=>j0)⟩,⟨_,j0,rsMap (fun _=>j0)⟩,⟨_,j0,rsOne ⟨ci j0,ci j0,ci j0,ci j0,ci j0,ci j0,ci j0,ci j0,ci j0,ci j0,j5⟩⟩,j5⟩,j0,j1⟩<|r_nil ?_
 obtain ⟨v8,q5,h⟩:=bs h
 refine rg j0<|u<|mv j0<|u<|fa ti38 j0 j0 j0<|u<|ld ti4 j0 j0<|u<|sc [0,3,4] (file_writer_truth_ok v6.1 v7 v3.Abstract q5) j0 j0 j0 j0 ⟨(.mpt j0),(rnI j0),j5⟩ ⟨⟨_,j0,⟨(.msl j0),(.msl j0),j5⟩⟩,⟨j0,mkI (fun _=>j0)⟩,⟨j0,mkI (fun _=>j0)⟩,j5⟩<|r_can (env0:=[(0,.mpt 0 0 0),(3,.mpt 5 0 0)]) (st0:=[some (2,[[.msl 3 0 (List.length v6.1),.msl 4 0 (List.length v8)]]),none,none,some (1,List.map rStr v6.1),some (1,List.map byteRow v8),some (10,[[sA v3.Name,.isl 1 (List.map rStr v3.Params),sA v3.Ret,bA v3.Static,bA v3.Abstract,iA v3.Locals,iA v3.Stack,.isl 4 (List.map rApiIns v3.Code),.isl 3 (List.map rApiMap v3.Maps),.isl 4 (List.map rApiTrap v3.Traps)]])]) ⟨[.old 0,.dead,.dead,.old 3,.old 6,.old 5],cv j0 (.mpt j0)<|cv j0 (.mpt j0)<|cn,j0,⟨⟨_,j0,rsOne ⟨.msl j0,.msl j0,j5⟩⟩,⟨_,j0,rsMap (fun _=>j0)⟩,⟨_,j0,rsMap (fun _=>j0)⟩,⟨_,j0,rsOne ⟨ci j0,ci j0,ci j0,ci j0,ci j0,ci j0,ci j0,ci j0,ci j0,ci j0,j5⟩⟩,j5⟩,j0,j1⟩<|r_nil ?_
 obtain ⟨v9,q6,h⟩:=bs h
 refine rg j0<|u<|mv j0<|u<|fa ti38 j0 j0 j0<|u<|ld ti3 j0 j0<|u<|sc [0,3,4] (file_writer_num_ok v6.1 v8 v3.Locals q6) j0 j0 j0 j0 ⟨(.mpt j0),(rnI j0),j5⟩ ⟨⟨_,j0,⟨(.msl j0),(.msl j0),j5⟩⟩,⟨j0,mkI (fun _=>j0)⟩,⟨j0,mkI (fun _=>j0)⟩,j5⟩<|r_can (env0:=[(0,.mpt 0 0 0),(3,.mpt 5 0 0)]) (st0:=[some (2,[[.msl 3 0 (List.length v6.1),.msl 4 0 (List.length v9)]]),none,none,some (1,List.map rStr v6.1),some (1,List.map byteRow v9),some (10,[[sA v3.Name,.isl 1 (List.map rStr v3.Params),sA v3.Ret,bA v3.Static,bA v3.Abstract,iA v3.Locals,iA v3.Stack,.isl 4 (List.map rApiIns v3.Code),.isl 3 (List.map rApiMap v3.Maps),.isl 4 (List.map rApiTrap v3.Traps)]])]) ⟨[.old 0,.dead,.dead,.old 3,.old 6,.old 5],cv j0 (.mpt j0)<|cv j0 (.mpt j0)<|cn,j0,⟨⟨_,j0,rsOne ⟨.msl j0,.msl j0,j5⟩⟩,⟨_,j0,rsMap (fun _=>j0)⟩,⟨_,j0,rsMap (fun _=>j0)⟩,⟨_,j0,rsOne ⟨ci j0,ci j0,ci j0,ci j0,ci j0,ci j0,ci j0,ci j0,ci j0,ci j0,j5⟩⟩,j5⟩,j0,j1⟩<|r_nil ?_
 obtain ⟨v10,q7,h⟩:=bs h
 refine rg j0<|u<|mv j0<|u<|fa ti38 j0 j0 j0<|u<|ld ti3 j0 j0<|u<|sc [0,3,4] (file_writer_num_ok v6.1 v9 v3.Stack q7) j0 j0 j0 j0 ⟨(.mpt j0),(rnI j0),j5⟩ ⟨⟨_,j0,⟨(.msl j0),(.msl j0),j5⟩⟩,⟨j0,mkI (fun _=>j0)⟩,⟨j0,mkI (fun _=>j0)⟩,j5⟩<|r_can (env0:=[(0,.mpt 0 0 0),(3,.mpt 5 0 0)]) (st0:=[some (2,[[.msl 3 0 (List.length v6.1),.msl 4 0 (List.length v10)]]),none,none,some (1,List.map rStr v6.1),some (1,List.map byteRow v10),some (10,[[sA v3.Name,.isl 1 (List.map rStr v3.Params),sA v3.Ret,bA v3.Static,bA v3.Abstract,iA v3.Locals,iA v3.Stack,.isl 4 (List.map rApiIns v3.Code),.isl 3 (List.map rApiMap v3.Maps),.isl 4 (List.map rApiTrap v3.Traps)]])]) ⟨[.old 0,.dead,.dead,.old 3,.old 6,.old 5],cv j0 (.mpt j0)<|cv j0 (.mpt j0)<|cn,j0,⟨⟨_,j0,rsOne ⟨.msl j0,.msl j0,j5⟩⟩,⟨_,j0,rsMap (fun _=>j0)⟩,⟨_,j0,rsMap (fun _=>j0)⟩,⟨_,j0,rsOne ⟨ci j0,ci j0,ci j0,ci j0,ci j0,ci j0,ci j0,ci j0,ci j0,ci j0,j5⟩⟩,j5⟩,j0,j1⟩<|r_nil ?_
 obtain ⟨v11,q8,h⟩:=bs h
 refine rg j0<|u<|mv j0<|u<|fa ti38 j0 j0 j0<|u<|ld ti34 j0 j0<|u<|mv j0<|u<|mf j0 j0<|u<|sc [0,3,4] (file_list_api_Ins_ok v6.1 v10 v3.Code q8) j0 j0 j0 j0 ⟨(.mpt j0),(rnI j0),(rnFn ⟨(.mpt j0),j5⟩ j5),j5⟩ ⟨⟨_,j0,⟨(.msl j0),(.msl j0),j5⟩⟩,⟨j0,mkI (fun _=>j0)⟩,⟨j0,mkI (fun _=>j0)⟩,j5⟩<|r_can (env0:=[(0,.mpt 0 0 0),(3,.mpt 5 0 0)]) (st0:=[some (2,[[.msl 3 0 (List.length v11.1),.msl 4 0 (List.length v11.2)]]),none,none,some (1,List.map rStr v11.1),some (1,List.map byteRow v11.2),some (10,[[sA v3.Name,.isl 1 (List.map rStr v3.Params),sA v3.Ret,bA v3.Static,bA v3.Abstract,iA v3.Locals,iA v3.Stack,.isl 4 (List.map rApiIns v3.Code),.isl 3 (List.map rApiMap v3.Maps),.isl 4 (List.map rApiTrap v3.Traps)]])]) ⟨[.old 0,.dead,.dead,.old 6,.old 7,.old 5],cv j0 (.mpt j0)<|cv j0 (.mpt j0)<|cn,j0,⟨⟨_,j0,rsOne ⟨.msl j0,.msl j0,j5⟩⟩,⟨_,j0,rsMap (fun _=>j0)⟩,⟨_,j0,rsMap (fun _=>j0)⟩,⟨_,j0,rsOne ⟨ci j0,ci j0,ci j0,ci j0,ci j0,ci j0,ci j0,ci j0,ci j0,ci j0,j5⟩⟩,j5⟩,j0,j1⟩<|r_nil ?_
 obtain ⟨v12,q9,h⟩:=bs h
 refine rg j0<|u<|mv j0<|u<|fa ti38 j0 j0 j0<|u<|ld ti35 j0 j0<|u<|mv j0<|u<|mf j0 j0<|u<|sc [0,3,4] (file_list_api_Map_ok v11.1 v11.2 v3.Maps q9) j0 j0 j0 j0 ⟨(.mpt j0),(rnI j0),(rnFn ⟨(.mpt j0),j5⟩ j5),j5⟩ ⟨⟨_,j0,⟨(.msl j0),(.msl j0),j5⟩⟩,⟨j0,mkI (fun _=>j0)⟩,⟨j0,mkI (fun _=>j0)⟩,j5⟩<|r_can (env0:=[(0,.mpt 0 0 0),(3,.mpt 5 0 0)]) (st0:=[some (2,[[.msl 3 0 (List.length v12.1),.msl 4 0 (List.length v12.2)]]),none,none,some (1,List.map rStr v12.1),some (1,List.map byteRow v12.2),some (10,[[sA v3.Name,.isl 1 (List.map rStr v3.Params),sA v3.Ret,bA v3.Static,bA v3.Abstract,iA v3.Locals,iA v3.Stack,.isl 4 (List.map rApiIns v3.Code),.isl 3 (List.map rApiMap v3.Maps),.isl 4 (List.map rApiTrap v3.Traps)]])]) ⟨[.old 0,.dead,.dead,.old 6,.old 7,.old 5],cv j0 (.mpt j0)<|cv j0 (.mpt j0)<|cn,j0,⟨⟨_,j0,rsOne ⟨.msl j0,.msl j0,j5⟩⟩,⟨_,j0,rsMap (fun _=>j0)⟩,⟨_,j0,rsMap (fun _=>j0)⟩,⟨_,j0,rsOne ⟨ci j0,ci j0,ci j0,ci j0,ci j0,ci j0,ci j0,ci j0,ci j0,ci j0,j5⟩⟩,j5⟩,j0,j1⟩<|r_nil ?_
 obtain ⟨v13,q10,h⟩:=bs h
 refine rl j0<|u<|mv j0<|u<|fa ti38 j0 j0 j0<|u<|ld ti36 j0 j0<|u<|mv j0<|u<|mf j0 j0<|u<|sc [0,3,4] (file_list_api_Trap_ok v12.1 v12.2 v3.Traps q10) j0 j0 j0 j0 ⟨(.mpt j0),(rnI j0),(rnFn ⟨(.mpt j0),j5⟩ j5),j5⟩ ⟨⟨_,j0,⟨(.msl j0),(.msl j0),j5⟩⟩,⟨j0,mkI (fun _=>j0)⟩,⟨j0,mkI (fun _=>j0)⟩,j5⟩<|r_can (env0:=[]) (st0:=[some (2,[[.msl 3 0 (List.length v13.1),.msl 4 0 (List.length v13.2)]]),none,none,some (1,List.map rStr v13.1),some (1,List.map byteRow v13.2)]) ⟨[.old 0,.dead,.dead,.old 6,.old 7],cn,j0,⟨⟨_,j0,rsOne ⟨.msl j0,.msl j0,j5⟩⟩,⟨_,j0,rsMap (fun _=>j0)⟩,⟨_,j0,rsMap (fun _=>j0)⟩,j5⟩,j0,j1⟩<|r_nil ?_
 obtain rfl:=sm h
 exact ⟨_,j0,[.old 0,.dead,.dead,.old 3,.old 4],rsTup j5,j0,⟨⟨_,j0,rsOne ⟨.msl j0,.msl j0,j5⟩⟩,⟨_,j0,rsMap (fun _=>j0)⟩,⟨_,j0,rsMap (fun _=>j0)⟩,j5⟩,j0,j1⟩
def file_list_api_Method_k2 (v15 : List (List UInt8)) (v16 : List UInt8) : Option ((List (List UInt8)) × (List UInt8)) :=
  some (v15,v16)
def file_list_api_Method_l1 (v3 : List ApiMethod) (v10 : List (List UInt8)) (v11 : List UInt8) (v12 : Int) : Option (Sum ((List (List UInt8)) × (List UInt8) × Int) (Sum ((List (List UInt8)) × (List UInt8)) ((List (List UInt8)) × (List UInt8)))) :=
  cond (decide (v12 < (List.length v3 : Int))) ((idx v3 v12).bind fun v13=>(file_writer_method v10 v11 v13).bind fun v14=>some (.inl (v14.1,v14.2,(IntKind.i64.wrap (v12 + 1))))) (some (.inr (.inl (v10,v11))))
def file_list_api_Method (v1 : List (List UInt8)) (v2 : List UInt8) (v3 : List ApiMethod) : Option ((List (List UInt8)) × (List UInt8)) :=
  (file_writer_num v1 v2 (List.length v3 : Int)).bind fun v4=>(loopP (fun z=>file_list_api_Method_l1 v3 z.1 z.2.1 z.2.2) (v1,v4,0)).bind fun o=>leave o (fun b=>file_list_api_Method_k2 b.1 b.2) some
theorem file_list_api_Method_ok (v1 : List (List UInt8)) (v2 : List UInt8) (v3 : List ApiMethod) {r : (List (List UInt8)) × (List UInt8)} (h : file_list_api_Method v1 v2 v3 = some r) : SC Tryz.prog 78 [.mpt 0 0 0,.isl 10 (List.map rApiMethod v3),.fn (.func 79) [.mpt 0 0 0] []] [.one 2 [.msl 1 0 (List.length v1),.msl 2 0 (List.length v2)],.many 1 (List.map rStr v1),.many 1 (List.map byteRow v2)] (.tup []) [.one 2 [.msl 3 0 (List.length r.1),.msl 4 0 (List.length r.2)],.no,.no,.many 1 (List.map rStr r.1),.many 1 (List.map byteRow r.2)]:=by
 refine ⟨⟨j5,j5,j5,sbOk (sz:=1) (fun _=>j0),sbOk (sz:=1) (fun _=>j0),j5⟩,scall_fn Tryz.func78 j0 (by kernel_rfl) j0 ?_⟩
 unfold file_list_api_Method at h
 obtain ⟨v4,q1,h⟩:=bs h
 refine rg j0<|u<|mv j0<|u<|mv j0<|u<|lnI ti24 j0 j0<|u<|sc [0,1,2] (file_writer_num_ok v1 v2 (List.length v3 : Int) q1) j0 j0 j0 j0 ⟨(.mpt j0),(rnI j0),j5⟩ ⟨⟨_,j0,⟨(.msl j0),(.msl j0),j5⟩⟩,⟨j0,mkI (fun _=>j0)⟩,⟨j0,mkI (fun _=>j0)⟩,j5⟩<|r_can (env0:=[(1,.isl 10 (List.map rApiMethod v3)),(2,.fn (.func 79) [.mpt 0 0 0] [])]) (st0:=[some (2,[[.msl 1 0 (List.length v1),.msl 3 0 (List.length v4)]]),some (1,List.map rStr v1),none,some (1,List.map byteRow v4)]) ⟨[.old 0,.old 1,.dead,.old 3],ce j0 j0<|cv j0 (rsFn ⟨(.mpt j0),j5⟩ j5)<|cn,j0,⟨⟨_,j0,rsOne ⟨.msl j0,.msl j0,j5⟩⟩,⟨_,j0,rsMap (fun _=>j0)⟩,⟨_,j0,rsMap (fun _=>j0)⟩,j5⟩,j0,j1⟩<|r_nil ?_
 refine rg j0<|u<|mv j0<|u<|lnI ti24 j0 j0<|u<|mv j0<|r_nil ?_
 obtain ⟨o,ho,h⟩:=bs h
 refine sw_lpl (X:=(List (List UInt8)) × (List UInt8) × Int) (B:=(List (List UInt8)) × (List UInt8)) (R:=(List (List UInt8)) × (List UInt8)) (fun z=>[(2,.fn (.func 79) [.mpt 0 0 0] []),(12,.isl 10 (List.map rApiMethod v3)),(13,iA (List.length v3 : Int)),(14,iA z.2.2)]) (fun z=>[some (2,[[.msl 3 0 (List.length z.1),.msl 4 0 (List.length z.2.1)]]),none,none,some (1,List.map rStr z.1),some (1,List.map byteRow z.2.1)]) (fun b=>[]) (fun b=>[some (2,[[.msl 3 0 (List.length b.1),.msl 4 0 (List.length b.2)]]),none,none,some (1,List.map rStr b.1),some (1,List.map byteRow b.2)]) (fun r env st=>PostF Tryz.prog Tryz.f78 3 (.tup []) [some (2,[[.msl 3 0 (List.length r.1),.msl 4 0 (List.length r.2)]]),none,none,some (1,List.map rStr r.1),some (1,List.map byteRow r.2)] env st) ho ⟨[.old 0,.dead,.dead,.old 1,.old 3],cv j0 (rsFn ⟨(.mpt j0),j5⟩ j5)<|ce j0 j0<|ce j0 j0<|ce j0 j0<|cn,j0,⟨⟨_,j0,rsOne ⟨.msl j0,.msl j0,j5⟩⟩,⟨_,j0,rsMap (fun _=>j0)⟩,⟨_,j0,rsMap (fun _=>j0)⟩,j5⟩,j0,j1⟩ ?_ ?_ ?_
 ·
  rintro ⟨v10,v11,v12⟩ r h
  replace h : file_list_api_Method_l1 v3 v10 v11 v12 = some r:=h
  unfold file_list_api_Method_l1 at h
  refine rg j0<|u<|lss ti3 j0 j0<|r_nil ?_
  refine sw_seq ?_
  refine sw_cond j0 (fun hc5=>?_) (fun hc5=>?_)
  ·
   replace h:=bT hc5 h
   refine sw_skip ?_
   refine sw_seq ?_
   refine sw_block ?_
   obtain ⟨v13,q6,h⟩:=bs h
   refine rg j0<|u<|ixI ti24 j0 ti38 j0 j0 j0 q6<|u<|ldI ti38 j0 (idx_some q6).2.2 j0<|u<|al 5 ti38 j0<|u<|sto ti38 j0 j0 j0<|r_nil ?_
   obtain ⟨v14,q7,h⟩:=bs h
   refine rl j0<|u<|mv j0<|u<|ld ti38 j0 j0<|u<|sc [0,3,4] (file_writer_method_ok v10 v11 v13 q7) j0 j0 j0 j0 ⟨(.mpt j0),(rnI j0),j5⟩ ⟨⟨_,j0,⟨(.msl j0),(.msl j0),j5⟩⟩,⟨j0,mkI (fun _=>j0)⟩,⟨j0,mkI (fun _=>j0)⟩,j5⟩<|r_can (env0:=[(2,.fn (.func 79) [.mpt 0 0 0] []),(12,.isl 10 (List.map rApiMethod v3)),(13,iA (List.length v3 : Int)),(14,iA v12)]) (st0:=[some (2,[[.msl 3 0 (List.length v14.1),.msl 4 0 (List.length v14.2)]]),none,none,some (1,List.map rStr v14.1),some (1,List.map byteRow v14.2)]) ⟨[.old 0,.dead,.dead,.old 6,.old 7],cv j0 (rsFn ⟨(.mpt j0),j5⟩ j5)<|ce j0 j0<|ce j0 j0<|ce j0 j0<|cn,j0,⟨⟨_,j0,rsOne ⟨.msl j0,.msl j0,j5⟩⟩,⟨_,j0,rsMap (fun _=>j0)⟩,⟨_,j0,rsMap (fun _=>j0)⟩,j5⟩,j0,j1⟩<|r_nil ?_
   refine rl j0<|u<|add ti3 j0 j0<|u<|mv j0<|r_nil ?_
   obtain rfl:=sm h
   exact ⟨_,j0,[.old 0,.dead,.dead,.old 3,.old 4],cv j0 (rsFn ⟨(.mpt j0),j5⟩ j5)<|ce j0 j0<|ce j0 j0<|ce j0 j0<|cn,j0,⟨⟨_,j0,rsOne ⟨.msl j0,.msl j0,j5⟩⟩,⟨_,j0,rsMap (fun _=>j0)⟩,⟨_,j0,rsMap (fun _=>j0)⟩,j5⟩,j0,j1⟩
  ·
   replace h:=bF hc5 h
   refine sw_exit ?_
   obtain rfl:=sm h
   exact ⟨j0,_,j0,[.old 0,.dead,.dead,.old 3,.old 4],cn,j0,⟨⟨_,j0,rsOne ⟨.msl j0,.msl j0,j5⟩⟩,⟨_,j0,rsMap (fun _=>j0)⟩,⟨_,j0,rsMap (fun _=>j0)⟩,j5⟩,j0,j1⟩
 ·
  rintro ⟨v15,v16⟩ rfl
  replace h : file_list_api_Method_k2 v15 v16 = some r:=h
  unfold file_list_api_Method_k2 at h
  refine ow_intro ?_
  obtain rfl:=sm h
  exact ⟨_,j0,[.old 0,.dead,.dead,.old 3,.old 4],rsTup j5,j0,⟨⟨_,j0,rsOne ⟨.msl j0,.msl j0,j5⟩⟩,⟨_,j0,rsMap (fun _=>j0)⟩,⟨_,j0,rsMap (fun _=>j0)⟩,j5⟩,j0,j1⟩
 ·
  rintro r' rfl env st hp
  obtain rfl:=sm h
  exact hp
def file_Encode_k2 (v8 : (List (List UInt8)) × (List UInt8)) (v18 : List UInt8) : Option ((List UInt8)) :=
  (appP 1 v18 v8.2).bind fun v19=>cond (decide (6000 < ((List.length v19) : Int))) (some []) (some v19)
def file_Encode_l1 (v8 : (List (List UInt8)) × (List UInt8)) (v14 : List UInt8) (v15 : Int) : Option (Sum ((List UInt8) × Int) (Sum ((List UInt8)) ((List UInt8)))) :=
  cond (decide (v15 < ((List.length v8.1) : Int))) ((idx v8.1 v15).bind fun v16=>(num_PutText v14 v16).bind fun v17=>some (.inl (v17,(IntKind.i64.wrap (v15 + 1))))) (some (.inr (.inl v14)))
def file_Encode (v1 : ApiClass) : Option ((List UInt8)) :=
  (class_May v1).bind fun v2=>cond (!v2) (some []) ((file_writer_text [] [] v1.Name).bind fun v3=>(file_writer_text v3.1 v3.2 v1.Super).bind fun v4=>(file_writer_truth v4.1 v4.2 v1.Interface).bind fun v5=>(file_list_string v4.1 v5 v1.Impl).bind fun v6=>(file_list_api_Field v6.1 v6.2 v1.Fields).bind fun v7=>(file_list_api_Method v7.1 v7.2 v1.Methods).bind fun v8=>(num_Put [(74 : UInt8),(65 : UInt8),(86 : UInt8),(65 : UInt8)] ((List.length v8.1) : Int)).bind fun v9=>(loopP (fun z=>file_Encode_l1 v8 z.1 z.2) (v9,0)).bind fun o=>leave o (fun b=>file_Encode_k2 v8 b) some)
theorem file_Encode_ok (v1 : ApiClass) {r : (List UInt8)} (h : file_Encode v1 = some r) : SC Tryz.prog 17 [.agg [sA v1.Name,sA v1.Super,bA v1.Interface,.isl 1 (List.map rStr v1.Impl),.isl 3 (List.map rApiField v1.Fields),.isl 10 (List.map rApiMethod v1.Methods)]] [] (.msl 0 0 (List.length r)) [.many 1 (List.map byteRow r)]:=by
 refine ⟨⟨sbOk (sz:=1) (fun _=>j0),j5⟩,scall_fn Tryz.func17 j0 (by kernel_rfl) j0 ?_⟩
 unfold file_Encode at h
 refine rg j0<|u<|bx 0 6 j0 j0 j0 j0<|u<|asg j0<|r_nil ?_
 refine sw_seq ?_
 obtain ⟨v2,q1,h⟩:=bs h
 refine rg j0<|u<|ld ti26 j0 j0<|u<|pc (class_May_ok v1 q1) j0 j0 j0<|u<|nt j0<|r_nil ?_
 refine sw_cond j0 (fun hc2=>?_) (fun hc2=>?_)
 ·
  replace h:=bT hc2 h
  refine rg j0<|u<|asg j0<|r_nil ?_
  refine sw_ret ?_
  obtain rfl:=sm h
  exact ⟨_,j0,[.fresh 1],.nilown j0,j0,⟨j4,j5⟩,j0,j1⟩
 ·
  replace h:=bF hc2 h
  refine sw_skip ?_
  refine rg j0<|u<|bd ti129 j0 j0 j0<|u<|bx 1 2 j0 j0 j0 j0<|u<|asg j0<|r_nil ?_
  obtain ⟨v3,q3,h⟩:=bs h
  refine rg j0<|u<|mv j0<|u<|fa ti26 j0 j0 j0<|u<|ld ti9 j0 j0<|ph 1<|ph 1<|u<|sc [1,2,3] (file_writer_text_ok [] [] v1.Name q3) j0 j0 j0 j0 ⟨(.mpt j0),(rnI j0),j5⟩ ⟨⟨_,j0,⟨(.nil0 j0),(.nil0 j0),j5⟩⟩,⟨j0,mkI (fun _=>j0)⟩,⟨j0,mkI (fun _=>j0)⟩,j5⟩<|r_can (env0:=[(1,.mpt 0 0 0),(3,.mpt 1 0 0)]) (st0:=[some (6,[[sA v1.Name,sA v1.Super,bA v1.Interface,.isl 1 (List.map rStr v1.Impl),.isl 3 (List.map rApiField v1.Fields),.isl 10 (List.map rApiMethod v1.Methods)]]),some (2,[[.msl 2 0 (List.length v3.1),.msl 3 0 (List.length v3.2)]]),some (1,List.map rStr v3.1),some (1,List.map byteRow v3.2)]) ⟨[.old 0,.old 1,.old 4,.old 5],cv j0 (.mpt j0)<|cv j0 (.mpt j0)<|cn,j0,⟨⟨_,j0,rsOne ⟨ci j0,ci j0,ci j0,ci j0,ci j0,ci j0,j5⟩⟩,⟨_,j0,rsOne ⟨.msl j0,.msl j0,j5⟩⟩,⟨_,j0,rsMap (fun _=>j0)⟩,⟨_,j0,rsMap (fun _=>j0)⟩,j5⟩,j0,j1⟩<|r_nil ?_
  obtain ⟨v4,q4,h⟩:=bs h
  refine rg j0<|u<|mv j0<|u<|fa ti26 j0 j0 j0<|u<|ld ti9 j0 j0<|u<|sc [1,2,3] (file_writer_text_ok v3.1 v3.2 v1.Super q4) j0 j0 j0 j0 ⟨(.mpt j0),(rnI j0),j5⟩ ⟨⟨_,j0,⟨(.msl j0),(.msl j0),j5⟩⟩,⟨j0,mkI (fun _=>j0)⟩,⟨j0,mkI (fun _=>j0)⟩,j5⟩<|r_can (env0:=[(1,.mpt 0 0 0),(3,.mpt 1 0 0)]) (st0:=[some (6,[[sA v1.Name,sA v1.Super,bA v1.Interface,.isl 1 (List.map rStr v1.Impl),.isl 3 (List.map rApiField v1.Fields),.isl 10 (List.map rApiMethod v1.Methods)]]),some (2,[[.msl 2 0 (List.length v4.1),.msl 3 0 (List.length v4.2)]]),some (1,List.map rStr v4.1),some (1,List.map byteRow v4.2)]) ⟨[.old 0,.old 1,.old 4,.old 5],cv j0 (.mpt j0)<|cv j0 (.mpt j0)<|cn,j0,⟨⟨_,j0,rsOne ⟨ci j0,ci j0,ci j0,ci j0,ci j0,ci j0,j5⟩⟩,⟨_,j0,rsOne ⟨.msl j0,.msl j0,j5⟩⟩,⟨_,j0,rsMap (fun _=>j0)⟩,⟨_,j0,rsMap (fun _=>j0)⟩,j5⟩,j0,j1⟩<|r_nil ?_
  obtain ⟨v5,q5,h⟩:=bs h
  refine rg j0<|u<|mv j0<|u<|fa ti26 j0 j0 j0<|u<|ld ti4 j0 j0<|u<|sc [1,2,3] (file_writer_truth_ok v4.1 v4.2 v1.Interface q5) j0 j0 j0 j0 ⟨(.mpt j0),(rnI j0),j5⟩ ⟨⟨_,j0,⟨(.msl j0),(.msl j0),j5⟩⟩,⟨j0,mkI (fun _=>j0)⟩,⟨j0,mkI (fun _=>j0)⟩,j5⟩<|r_can (env0:=[(1,.mpt 0 0 0),(3,.mpt 1 0 0)]) (st0:=[some (6,[[sA v1.Name,sA v1.Super,bA v1.Interface,.isl 1 (List.map rStr v1.Impl),.isl 3 (List.map rApiField v1.Fields),.isl 10 (List.map rApiMethod v1.Methods)]]),some (2,[[.msl 2 0 (List.length v4.1),.msl 3 0 (List.length v5)]]),some (1,List.map rStr v4.1),some (1,List.map byteRow v5)]) ⟨[.old 0,.old 1,.old 2,.old 4],cv j0 (.mpt j0)<|cv j0 (.mpt j0)<|cn,j0,⟨⟨_,j0,rsOne ⟨ci j0,ci j0,ci j0,ci j0,ci j0,ci j0,j5⟩⟩,⟨_,j0,rsOne ⟨.msl j0,.msl j0,j5⟩⟩,⟨_,j0,rsMap (fun _=>j0)⟩,⟨_,j0,rsMap (fun _=>j0)⟩,j5⟩,j0,j1⟩<|r_nil ?_
  obtain ⟨v6,q6,h⟩:=bs h
  refine rg j0<|u<|mv j0<|u<|fa ti26 j0 j0 j0<|u<|ld ti22 j0 j0<|u<|mv j0<|u<|mf j0 j0<|u<|sc [1,2,3] (file_list_string_ok v4.1 v5 v1.Impl q6) j0 j0 j0 j0 ⟨(.mpt j0),(rnI j0),(rnFn ⟨(.mpt j0),j5⟩ j5),j5⟩ ⟨⟨_,j0,⟨(.msl j0),(.msl j0),j5⟩⟩,⟨j0,mkI (fun _=>j0)⟩,⟨j0,mkI (fun _=>j0)⟩,j5⟩<|r_can (env0:=[(1,.mpt 0 0 0),(3,.mpt 1 0 0)]) (st0:=[some (6,[[sA v1.Name,sA v1.Super,bA v1.Interface,.isl 1 (List.map rStr v1.Impl),.isl 3 (List.map rApiField v1.Fields),.isl 10 (List.map rApiMethod v1.Methods)]]),some (2,[[.msl 2 0 (List.length v6.1),.msl 3 0 (List.length v6.2)]]),some (1,List.map rStr v6.1),some (1,List.map byteRow v6.2)]) ⟨[.old 0,.old 1,.old 4,.old 5],cv j0 (.mpt j0)<|cv j0 (.mpt j0)<|cn,j0,⟨⟨_,j0,rsOne ⟨ci j0,ci j0,ci j0,ci j0,ci j0,ci j0,j5⟩⟩,⟨_,j0,rsOne ⟨.msl j0,.msl j0,j5⟩⟩,⟨_,j0,rsMap (fun _=>j0)⟩,⟨_,j0,rsMap (fun _=>j0)⟩,j5⟩,j0,j1⟩<|r_nil ?_
  obtain ⟨v7,q7,h⟩:=bs h
  refine rg j0<|u<|mv j0<|u<|fa ti26 j0 j0 j0<|u<|ld ti23 j0 j0<|u<|mv j0<|u<|mf j0 j0<|u<|sc [1,2,3] (file_list_api_Field_ok v6.1 v6.2 v1.Fields q7) j0 j0 j0 j0 ⟨(.mpt j0),(rnI j0),(rnFn ⟨(.mpt j0),j5⟩ j5),j5⟩ ⟨⟨_,j0,⟨(.msl j0),(.msl j0),j5⟩⟩,⟨j0,mkI (fun _=>j0)⟩,⟨j0,mkI (fun _=>j0)⟩,j5⟩<|r_can (env0:=[(1,.mpt 0 0 0),(3,.mpt 1 0 0)]) (st0:=[some (6,[[sA v1.Name,sA v1.Super,bA v1.Interface,.isl 1 (List.map rStr v1.Impl),.isl 3 (List.map rApiField v1.Fields),.isl 10 (List.map rApiMethod v1.Methods)]]),some (2,[[.msl 2 0 (List.length v7.1),.msl 3 0 (List.length v7.2)]]),some (1,List.map rStr v7.1),some (1,List.map byteRow v7.2)]) ⟨[.old 0,.old 1,.old 4,.old 5],cv j0 (.mpt j0)<|cv j0 (.mpt j0)<|cn,j0,⟨⟨_,j0,rsOne ⟨ci j0,ci j0,ci j0,ci j0,ci j0,ci j0,j5⟩⟩,⟨_,j0,rsOne ⟨.msl j0,.msl j0,j5⟩⟩,⟨_,j0,rsMap (fun _=>j0)⟩,⟨_,j0,rsMap (fun _=>j0)⟩,j5⟩,j0,j1⟩<|r_nil ?_
  obtain ⟨v8,q8,h⟩:=bs h
  refine rg j0<|u<|mv j0<|u<|fa ti26 j0 j0 j0<|u<|ld ti24 j0 j0<|u<|mv j0<|u<|mf j0 j0<|u<|sc [1,2,3] (file_list_api_Method_ok v7.1 v7.2 v1.Methods q8) j0 j0 j0 j0 ⟨(.mpt j0),(rnI j0),(rnFn ⟨(.mpt j0),j5⟩ j5),j5⟩ ⟨⟨_,j0,⟨(.msl j0),(.msl j0),j5⟩⟩,⟨j0,mkI (fun _=>j0)⟩,⟨j0,mkI (fun _=>j0)⟩,j5⟩<|r_can (env0:=[(3,.mpt 0 0 0)]) (st0:=[some (2,[[.msl 1 0 (List.length v8.1),.msl 2 0 (List.length v8.2)]]),some (1,List.map rStr v8.1),some (1,List.map byteRow v8.2)]) ⟨[.old 1,.old 4,.old 5],cv j0 (.mpt j0)<|cn,j0,⟨⟨_,j0,rsOne ⟨.msl j0,.msl j0,j5⟩⟩,⟨_,j0,rsMap (fun _=>j0)⟩,⟨_,j0,rsMap (fun _=>j0)⟩,j5⟩,j0,j1⟩<|r_nil ?_
  obtain ⟨v9,q9,h⟩:=bs h
  refine rg j0<|u<|bl 3 ti29 j0 ti5 j0 (by decide) (by decide) j0 j0 j0<|u<|cvl ti29 j0 ti5 j0 j0 j0 j0<|u<|mv j0<|u<|nc j0 j0<|u<|fa ti129 j0 j0 j0<|u<|ld ti22 j0 j0<|u<|lnM ti22 j0 j0 j0<|u<|sc [3] (num_Put_ok [(74 : UInt8),(65 : UInt8),(86 : UInt8),(65 : UInt8)] ((List.length v8.1) : Int) q9) j0 j0 j0 j0 ⟨(.msl j0),(rnI j0),j5⟩ ⟨⟨j0,mkI (fun _=>j0)⟩,j5⟩<|r_can (env0:=[(3,.mpt 0 0 0),(49,.msl 3 0 (List.length v9))]) (st0:=[some (2,[[.msl 1 0 (List.length v8.1),.msl 2 0 (List.length v8.2)]]),some (1,List.map rStr v8.1),some (1,List.map byteRow v8.2),some (1,List.map byteRow v9)]) ⟨[.old 0,.old 1,.old 2,.old 4],cv j0 (.mpt j0)<|cv j0 (.msl j0)<|cn,j0,⟨⟨_,j0,rsOne ⟨.msl j0,.msl j0,j5⟩⟩,⟨_,j0,rsMap (fun _=>j0)⟩,⟨_,j0,rsMap (fun _=>j0)⟩,⟨_,j0,rsMap (fun _=>j0)⟩,j5⟩,j0,j1⟩<|u<|asg j0<|r_nil ?_
  refine sw_seq ?_
  refine rg j0<|u<|mv j0<|u<|nc j0 j0<|u<|fa ti129 j0 j0 j0<|u<|ld ti22 j0 j0<|u<|lnM ti22 j0 j0 j0<|u<|mv j0<|r_nil ?_
  obtain ⟨o,ho,h⟩:=bs h
  refine sw_lpl (X:=(List UInt8) × Int) (B:=(List UInt8)) (R:=(List UInt8)) (fun z=>[(3,.mpt 0 0 0),(4,.msl 3 0 (List.length z.1)),(53,.msl 1 0 (List.length v8.1)),(54,iA ((List.length v8.1) : Int)),(55,iA z.2)]) (fun z=>[some (2,[[.msl 1 0 (List.length v8.1),.msl 2 0 (List.length v8.2)]]),some (1,List.map rStr v8.1),some (1,List.map byteRow v8.2),some (1,List.map byteRow z.1)]) (fun b=>[(3,.mpt 0 0 0),(4,.msl 3 0 (List.length b))]) (fun b=>[some (2,[[.msl 1 0 (List.length v8.1),.msl 2 0 (List.length v8.2)]]),some (1,List.map rStr v8.1),some (1,List.map byteRow v8.2),some (1,List.map byteRow b)]) (fun r env st=>PostF Tryz.prog Tryz.f17 0 (.msl 0 0 (List.length r)) [some (1,List.map byteRow r)] env st) ho ⟨[.old 0,.old 1,.old 2,.old 3],cv j0 (.mpt j0)<|cv j0 (.msl j0)<|cv j0 (.msl j0)<|ce j0 j0<|ce j0 j0<|cn,j0,⟨⟨_,j0,rsOne ⟨.msl j0,.msl j0,j5⟩⟩,⟨_,j0,rsMap (fun _=>j0)⟩,⟨_,j0,rsMap (fun _=>j0)⟩,⟨_,j0,rsMap (fun _=>j0)⟩,j5⟩,j0,j1⟩ ?_ ?_ ?_
  ·
   rintro ⟨v14,v15⟩ r h
   replace h : file_Encode_l1 v8 v14 v15 = some r:=h
   unfold file_Encode_l1 at h
   refine rg j0<|u<|lss ti3 j0 j0<|r_nil ?_
   refine sw_seq ?_
   refine sw_cond j0 (fun hc13=>?_) (fun hc13=>?_)
   ·
    replace h:=bT hc13 h
    refine sw_skip ?_
    refine sw_seq ?_
    refine sw_block ?_
    obtain ⟨v16,q14,h⟩:=bs h
    refine rg j0<|u<|ixM ti22 j0 ti9 j0 j0 j0 j0 q14<|u<|ldM ti9 j0 j0 (idx_some q14).2.2 j0<|u<|asg j0<|r_nil ?_
    obtain ⟨v17,q15,h⟩:=bs h
    refine rl j0<|u<|mv j0<|u<|mv j0<|u<|sc [3] (num_PutText_ok v14 v16 q15) j0 j0 j0 j0 ⟨(.msl j0),(rnI j0),j5⟩ ⟨⟨j0,mkI (fun _=>j0)⟩,j5⟩<|r_can (env0:=[(3,.mpt 0 0 0),(53,.msl 1 0 (List.length v8.1)),(54,iA ((List.length v8.1) : Int)),(55,iA v15),(61,.msl 3 0 (List.length v17))]) (st0:=[some (2,[[.msl 1 0 (List.length v8.1),.msl 2 0 (List.length v8.2)]]),some (1,List.map rStr v8.1),some (1,List.map byteRow v8.2),some (1,List.map byteRow v17)]) ⟨[.old 0,.old 1,.old 2,.old 4],cv j0 (.mpt j0)<|cv j0 (.msl j0)<|ce j0 j0<|ce j0 j0<|cv j0 (.msl j0)<|cn,j0,⟨⟨_,j0,rsOne ⟨.msl j0,.msl j0,j5⟩⟩,⟨_,j0,rsMap (fun _=>j0)⟩,⟨_,j0,rsMap (fun _=>j0)⟩,⟨_,j0,rsMap (fun _=>j0)⟩,j5⟩,j0,j1⟩<|u<|asg j0<|r_nil ?_
    refine rl j0<|u<|add ti3 j0 j0<|u<|mv j0<|r_nil ?_
    obtain rfl:=sm h
    exact ⟨_,j0,[.old 0,.old 1,.old 2,.old 3],cv j0 (.mpt j0)<|cv j0 (.msl j0)<|cv j0 (.msl j0)<|ce j0 j0<|ce j0 j0<|cn,j0,⟨⟨_,j0,rsOne ⟨.msl j0,.msl j0,j5⟩⟩,⟨_,j0,rsMap (fun _=>j0)⟩,⟨_,j0,rsMap (fun _=>j0)⟩,⟨_,j0,rsMap (fun _=>j0)⟩,j5⟩,j0,j1⟩
   ·
    replace h:=bF hc13 h
    refine sw_exit ?_
    obtain rfl:=sm h
    exact ⟨j0,_,j0,[.old 0,.old 1,.old 2,.old 3],cv j0 (.mpt j0)<|cv j0 (.msl j0)<|cn,j0,⟨⟨_,j0,rsOne ⟨.msl j0,.msl j0,j5⟩⟩,⟨_,j0,rsMap (fun _=>j0)⟩,⟨_,j0,rsMap (fun _=>j0)⟩,⟨_,j0,rsMap (fun _=>j0)⟩,j5⟩,j0,j1⟩
  ·
   rintro v18 rfl
   replace h : file_Encode_k2 v8 v18 = some r:=h
   unfold file_Encode_k2 at h
   refine ow_intro ?_
   refine sw_seq ?_
   obtain ⟨v19,q16,h⟩:=bs h
   refine rg j0<|u<|mv j0<|u<|mv j0<|u<|nc j0 j0<|u<|fa ti129 j0 j0 j0<|u<|ld ti29 j0 j0<|u<|apM 4 ti29 j0 ti5 j0 j0 (by decide) ti29 j0 j0 j0 j0 (roM j0) (fun _=>j0) j0 q16<|u<|asg j0<|r_nil ?_
   refine rg j0<|u<|mv j0<|u<|lnM ti29 j0 j0 j0<|u<|gtr ti3 j0 j0<|r_nil ?_
   refine sw_cond j0 (fun hc17=>?_) (fun hc17=>?_)
   ·
    replace h:=bT hc17 h
    refine rg j0<|u<|asg j0<|r_nil ?_
    refine sw_ret ?_
    obtain rfl:=sm h
    exact ⟨_,j0,[.fresh 1],.nilown j0,j0,⟨j4,j5⟩,j0,j1⟩
   ·
    replace h:=bF hc17 h
    refine sw_skip ?_
    refine rg j0<|u<|mv j0<|u<|asg j0<|r_nil ?_
    refine sw_ret ?_
    obtain rfl:=sm h
    exact ⟨_,j0,[.old 4],.msl j0,j0,⟨⟨_,j0,rsMap (fun _=>j0)⟩,j5⟩,j0,j1⟩
  ·
   rintro r' rfl env st hp
   obtain rfl:=sm h
   exact hp
end
end Go.Proofs.YthmnlfenkhmmhaaGreat
namespace Go.Proofs.YthmnlfenkhmmhaaGreat
noncomputable section
set_option linter.unusedSimpArgs false
set_option linter.unusedVariables false
set_option maxRecDepth 100000
set_option maxHeartbeats 4000000
def strings_HasPrefix (v1 : List UInt8) (v2 : List UInt8) : Option (Bool) :=
  (internal_stringslite_HasPrefix v1 v2).bind fun v3=>some v3
theorem strings_HasPrefix_ok (v1 : List UInt8) (v2 : List UInt8) {r : Bool} (h : strings_HasPrefix v1 v2 = some r) : PureC Tryz.prog 82 [sA v1,sA v2] (bA r):=by
 refine pure_fn Tryz.func82 j0 (by kernel_rfl) j0 j0 ?_
 unfold strings_HasPrefix at h
 refine rg j0<|u<|asg j0<|r_nil ?_
 obtain ⟨v3,q1,h⟩:=bs h
 refine rg j0<|u<|mv j0<|u<|mv j0<|u<|pc (internal_stringslite_HasPrefix_ok v1 v2 q1) j0 j0 j0<|u<|asg j0<|r_nil ?_
 refine sw_ret ?_
 obtain rfl:=sm h
 exact ⟨_,j0,[],ci j0,j0,j5,j0,j1⟩
def file_reader_skip (v1 : List (List UInt8)) (v2 : List UInt8) (v3 : Bool) (v4 : Int) (v5 : Int) : Option ((List UInt8)) :=
  cond (!(v3 || (!(v5 == (0 : Int))))) ((cutP v2 v4 (List.length v2 : Int)).bind fun v6=>some v6) (some v2)
theorem file_reader_skip_ok (v1 : List (List UInt8)) (v2 : List UInt8) (v3 : Bool) (v4 : Int) (v5 : Int) {r : (List UInt8)} (h : file_reader_skip v1 v2 v3 v4 v5 = some r) : SC Tryz.prog 171 [.mpt 0 0 0,iA v4,iA v5] [.one 3 [.msl 1 0 (List.length v1),.isl 1 (List.map byteRow v2),bA v3],.many 1 (List.map rStr v1)] (.tup []) [.one 3 [.msl 1 0 (List.length v1),.isl 1 (List.map byteRow r),bA (v3 || (!(v5 == (0 : Int))))],.many 1 (List.map rStr v1)]:=by
 refine ⟨⟨j5,sbOk (sz:=1) (fun _=>j0),j5⟩,scall_fn Tryz.func171 j0 (by kernel_rfl) j0 ?_⟩
 unfold file_reader_skip at h
 refine rg j0<|u<|mv j0<|u<|mv j0<|u<|nc j0 j0<|u<|fa ti142 j0 j0 j0<|u<|ld ti4 j0 j0<|u<|mv j0<|r_or (j:=5) 2 j0 j0 j0 j0 j0 gpn (fun hb1=>g j0 hb1<|mv j0<|g j0 hb1<|neq ti31 j0 j0<|r_nil (egO [12,13] 2 hb1 j0 j0 j0 j0)) orT<|u<|nc j0 j0<|u<|fa ti142 j0 j0 j0<|u<|sto ti4 j0 j0 j0<|r_nil ?_
 refine rg j0<|u<|mv j0<|u<|nc j0 j0<|u<|fa ti142 j0 j0 j0<|u<|ld ti4 j0 j0<|u<|nt j0<|r_nil ?_
 refine sw_cond j0 (fun hc2=>?_) (fun hc2=>?_)
 ·
  replace h:=bT hc2 h
  obtain ⟨v6,q3,h⟩:=bs h
  refine rl j0<|u<|mv j0<|u<|mv j0<|u<|nc j0 j0<|u<|fa ti142 j0 j0 j0<|u<|ld ti29 j0 j0<|u<|mv j0<|u<|slI (a:=v4) (b:=(List.length v2 : Int)) ti29 j0 ti5 j0 j0 (bnd_lo j0 q3) j0 q3<|u<|nc j0 j0<|u<|fa ti142 j0 j0 j0<|u<|sto ti29 j0 j0 j0<|r_nil ?_
  obtain rfl:=sm h
  exact ⟨_,j0,[.old 0,.old 1],rsTup j5,j0,⟨⟨_,j0,rsOne ⟨.msl j0,ci j0,ci j0,j5⟩⟩,⟨_,j0,rsMap (fun _=>j0)⟩,j5⟩,j0,j1⟩
 ·
  replace h:=bF hc2 h
  refine sw_skip ?_
  obtain rfl:=sm h
  exact ⟨_,j0,[.old 0,.old 1],rsTup j5,j0,⟨⟨_,j0,rsOne ⟨.msl j0,ci j0,ci j0,j5⟩⟩,⟨_,j0,rsMap (fun _=>j0)⟩,j5⟩,j0,j1⟩
def file_reader_num (v1 : List (List UInt8)) (v2 : List UInt8) (v3 : Bool) : Option (Int × (List UInt8) × Bool) :=
  (num_Get v2).bind fun v4=>(file_reader_skip v1 v2 v3 v4.2.1 v4.2.2).bind fun v5=>cond (v3 || (!(v4.2.2 == (0 : Int)))) (some (0,v5,(v3 || (!(v4.2.2 == (0 : Int)))))) (some (v4.1,v5,(v3 || (!(v4.2.2 == (0 : Int))))))
theorem file_reader_num_ok (v1 : List (List UInt8)) (v2 : List UInt8) (v3 : Bool) {r : Int × (List UInt8) × Bool} (h : file_reader_num v1 v2 v3 = some r) : SC Tryz.prog 169 [.mpt 0 0 0] [.one 3 [.msl 1 0 (List.length v1),.isl 1 (List.map byteRow v2),bA v3],.many 1 (List.map rStr v1)] (iA r.1) [.one 3 [.msl 1 0 (List.length v1),.isl 1 (List.map byteRow r.2.1),bA r.2.2],.many 1 (List.map rStr v1)]:=by
 refine ⟨⟨j5,sbOk (sz:=1) (fun _=>j0),j5⟩,scall_fn Tryz.func169 j0 (by kernel_rfl) j0 ?_⟩
 unfold file_reader_num at h
 refine rg j0<|u<|asg j0<|r_nil ?_
 obtain ⟨v4,q1,h⟩:=bs h
 refine rg j0<|u<|mv j0<|u<|nc j0 j0<|u<|fa ti142 j0 j0 j0<|u<|ld ti29 j0 j0<|u<|pc (num_Get_ok v2 q1) j0 j0 j0<|u<|mv j0<|u<|ex j0 j0<|u<|ex j0 j0<|u<|ex j0 j0<|u<|asg j0<|u<|asg j0<|u<|asg j0<|r_nil ?_
 refine sw_seq ?_
 obtain ⟨v5,q2,h⟩:=bs h
 refine rg j0<|u<|mv j0<|u<|mv j0<|u<|mv j0<|u<|sc [0,1] (file_reader_skip_ok v1 v2 v3 v4.2.1 v4.2.2 q2) j0 j0 j0 j0 ⟨(.mpt j0),(rnI j0),(rnI j0),j5⟩ ⟨⟨_,j0,⟨(.msl j0),(rnI j0),(rnI j0),j5⟩⟩,⟨j0,mkI (fun _=>j0)⟩,j5⟩<|r_can (env0:=[(0,.mpt 0 0 0),(3,iA v4.1)]) (st0:=[some (3,[[.msl 1 0 (List.length v1),.isl 1 (List.map byteRow v5),bA (v3 || (!(v4.2.2 == (0 : Int))))]]),some (1,List.map rStr v1)]) ⟨[.old 0,.old 1],cv j0 (.mpt j0)<|ce j0 j0<|cn,j0,⟨⟨_,j0,rsOne ⟨.msl j0,ci j0,ci j0,j5⟩⟩,⟨_,j0,rsMap (fun _=>j0)⟩,j5⟩,j0,j1⟩<|r_nil ?_
 refine rg j0<|u<|mv j0<|u<|nc j0 j0<|u<|fa ti142 j0 j0 j0<|u<|ld ti4 j0 j0<|r_nil ?_
 refine sw_cond j0 (fun hc3=>?_) (fun hc3=>?_)
 ·
  replace h:=bT hc3 h
  refine rg j0<|u<|asg j0<|r_nil ?_
  refine sw_ret ?_
  obtain rfl:=sm h
  exact ⟨_,j0,[.old 0,.old 1],ci j0,j0,⟨⟨_,j0,rsOne ⟨.msl j0,ci j0,ci j0,j5⟩⟩,⟨_,j0,rsMap (fun _=>j0)⟩,j5⟩,j0,j1⟩
 ·
  replace h:=bF hc3 h
  refine sw_skip ?_
  refine rg j0<|u<|mv j0<|u<|asg j0<|r_nil ?_
  refine sw_ret ?_
  obtain rfl:=sm h
  exact ⟨_,j0,[.old 0,.old 1],ci j0,j0,⟨⟨_,j0,rsOne ⟨.msl j0,ci j0,ci j0,j5⟩⟩,⟨_,j0,rsMap (fun _=>j0)⟩,j5⟩,j0,j1⟩
def file_reader_own (v1 : List (List UInt8)) (v2 : List UInt8) (v3 : Bool) : Option ((List UInt8) × (List UInt8) × Bool) :=
  (num_GetText v2).bind fun v4=>(file_reader_skip v1 v2 v3 v4.2.1 v4.2.2).bind fun v5=>some (v4.1,v5,(v3 || (!(v4.2.2 == (0 : Int)))))
theorem file_reader_own_ok (v1 : List (List UInt8)) (v2 : List UInt8) (v3 : Bool) {r : (List UInt8) × (List UInt8) × Bool} (h : file_reader_own v1 v2 v3 = some r) : SC Tryz.prog 84 [.mpt 0 0 0] [.one 3 [.msl 1 0 (List.length v1),.isl 1 (List.map byteRow v2),bA v3],.many 1 (List.map rStr v1)] (sA r.1) [.one 3 [.msl 1 0 (List.length v1),.isl 1 (List.map byteRow r.2.1),bA r.2.2],.many 1 (List.map rStr v1)]:=by
 refine ⟨⟨j5,sbOk (sz:=1) (fun _=>j0),j5⟩,scall_fn Tryz.func84 j0 (by kernel_rfl) j0 ?_⟩
 unfold file_reader_own at h
 refine rg j0<|u<|asg j0<|r_nil ?_
 obtain ⟨v4,q1,h⟩:=bs h
 refine rg j0<|u<|mv j0<|u<|nc j0 j0<|u<|fa ti142 j0 j0 j0<|u<|ld ti29 j0 j0<|u<|pc (num_GetText_ok v2 q1) j0 j0 j0<|u<|mv j0<|u<|ex j0 j0<|u<|ex j0 j0<|u<|ex j0 j0<|u<|asg j0<|u<|asg j0<|u<|asg j0<|r_nil ?_
 obtain ⟨v5,q2,h⟩:=bs h
 refine rg j0<|u<|mv j0<|u<|mv j0<|u<|mv j0<|u<|sc [0,1] (file_reader_skip_ok v1 v2 v3 v4.2.1 v4.2.2 q2) j0 j0 j0 j0 ⟨(.mpt j0),(rnI j0),(rnI j0),j5⟩ ⟨⟨_,j0,⟨(.msl j0),(rnI j0),(rnI j0),j5⟩⟩,⟨j0,mkI (fun _=>j0)⟩,j5⟩<|r_can (env0:=[(3,sA v4.1)]) (st0:=[some (3,[[.msl 1 0 (List.length v1),.isl 1 (List.map byteRow v5),bA (v3 || (!(v4.2.2 == (0 : Int))))]]),some (1,List.map rStr v1)]) ⟨[.old 0,.old 1],ce j0 j0<|cn,j0,⟨⟨_,j0,rsOne ⟨.msl j0,ci j0,ci j0,j5⟩⟩,⟨_,j0,rsMap (fun _=>j0)⟩,j5⟩,j0,j1⟩<|r_nil ?_
 refine rg j0<|u<|mv j0<|u<|asg j0<|r_nil ?_
 refine sw_ret ?_
 obtain rfl:=sm h
 exact ⟨_,j0,[.old 0,.old 1],ci j0,j0,⟨⟨_,j0,rsOne ⟨.msl j0,ci j0,ci j0,j5⟩⟩,⟨_,j0,rsMap (fun _=>j0)⟩,j5⟩,j0,j1⟩
def file_read_string_k2 (v17 : List (List UInt8)) (v18 : List UInt8) (v19 : Bool) : Option ((List (List UInt8)) × (List UInt8) × Bool) :=
  some (v17,v18,v19)
def file_read_string_l1 (v1 : List (List UInt8)) (v11 : List UInt8) (v12 : Bool) (v13 : List (List UInt8)) (v14 : Int) : Option (Sum ((List UInt8) × Bool × (List (List UInt8)) × Int) (Sum ((List (List UInt8)) × (List UInt8) × Bool) ((List (List UInt8)) × (List UInt8) × Bool))) :=
  cond ((decide (0 < v14)) && (!v12)) ((file_reader_own v1 v11 v12).bind fun v15=>(appP 16 v13 [v15.1]).bind fun v16=>some (.inl (v15.2.1,v15.2.2,v16,(IntKind.i64.wrap (v14 - 1))))) (some (.inr (.inl (v13,v11,v12))))
def file_read_string (v1 : List (List UInt8)) (v2 : List UInt8) (v3 : Bool) : Option ((List (List UInt8)) × (List UInt8) × Bool) :=
  (file_reader_num v1 v2 v3).bind fun v4=>(loopP (fun z=>file_read_string_l1 v1 z.1 z.2.1 z.2.2.1 z.2.2.2) (v4.2.1,v4.2.2,[],v4.1)).bind fun o=>leave o (fun b=>file_read_string_k2 b.1 b.2.1 b.2.2) some
theorem file_read_string_ok (v1 : List (List UInt8)) (v2 : List UInt8) (v3 : Bool) {r : (List (List UInt8)) × (List UInt8) × Bool} (h : file_read_string v1 v2 v3 = some r) : SC Tryz.prog 83 [.mpt 0 0 0,.fn (.func 84) [.mpt 0 0 0] []] [.one 3 [.msl 1 0 (List.length v1),.isl 1 (List.map byteRow v2),bA v3],.many 1 (List.map rStr v1)] (.msl 2 0 (List.length r.1)) [.one 3 [.msl 1 0 (List.length v1),.isl 1 (List.map byteRow r.2.1),bA r.2.2],.many 1 (List.map rStr v1),.many 1 (List.map rStr r.1)]:=by
 refine ⟨⟨j5,sbOk (sz:=1) (fun _=>j0),sbOk (sz:=1) (fun _=>j0),j5⟩,scall_fn Tryz.func83 j0 (by kernel_rfl) j0 ?_⟩
 unfold file_read_string at h
 refine rg j0<|u<|asg j0<|r_nil ?_
 refine rg j0<|u<|asg j0<|r_nil ?_
 refine sw_seq ?_
 obtain ⟨v4,q1,h⟩:=bs h
 refine rg j0<|u<|mv j0<|u<|sc [0,1] (file_reader_num_ok v1 v2 v3 q1) j0 j0 j0 j0 ⟨(.mpt j0),j5⟩ ⟨⟨_,j0,⟨(.msl j0),(rnI j0),(rnI j0),j5⟩⟩,⟨j0,mkI (fun _=>j0)⟩,j5⟩<|r_can (env0:=[(0,.mpt 0 0 0),(1,.fn (.func 84) [.mpt 0 0 0] []),(5,.lit (.slice none 0 0)),(8,iA v4.1)]) (st0:=[some (3,[[.msl 1 0 (List.length v1),.isl 1 (List.map byteRow v4.2.1),bA v4.2.2]]),some (1,List.map rStr v1)]) ⟨[.old 0,.old 1],cv j0 (.mpt j0)<|cv j0 (rsFn ⟨(.mpt j0),j5⟩ j5)<|ce j0 j0<|ce j0 j0<|cn,j0,⟨⟨_,j0,rsOne ⟨.msl j0,ci j0,ci j0,j5⟩⟩,⟨_,j0,rsMap (fun _=>j0)⟩,j5⟩,j0,j1⟩<|u<|asg j0<|r_nil ?_
 obtain ⟨o,ho,h⟩:=bs h
 refine sw_lpl (X:=(List UInt8) × Bool × (List (List UInt8)) × Int) (B:=(List (List UInt8)) × (List UInt8) × Bool) (R:=(List (List UInt8)) × (List UInt8) × Bool) (fun z=>[(0,.mpt 0 0 0),(1,.fn (.func 84) [.mpt 0 0 0] []),(5,.msl 2 0 (List.length z.2.2.1)),(6,iA z.2.2.2)]) (fun z=>[some (3,[[.msl 1 0 (List.length v1),.isl 1 (List.map byteRow z.1),bA z.2.1]]),some (1,List.map rStr v1),some (1,List.map rStr z.2.2.1)]) (fun b=>[(5,.msl 2 0 (List.length b.1))]) (fun b=>[some (3,[[.msl 1 0 (List.length v1),.isl 1 (List.map byteRow b.2.1),bA b.2.2]]),some (1,List.map rStr v1),some (1,List.map rStr b.1)]) (fun r env st=>PostF Tryz.prog Tryz.f83 2 (.msl 2 0 (List.length r.1)) [some (3,[[.msl 1 0 (List.length v1),.isl 1 (List.map byteRow r.2.1),bA r.2.2]]),some (1,List.map rStr v1),some (1,List.map rStr r.1)] env st) ho ⟨[.old 0,.old 1,.fresh 1],cv j0 (.mpt j0)<|cv j0 (rsFn ⟨(.mpt j0),j5⟩ j5)<|cv j0 (.nilown j0)<|ce j0 j0<|cn,j0,⟨⟨_,j0,rsOne ⟨.msl j0,ci j0,ci j0,j5⟩⟩,⟨_,j0,rsMap (fun _=>j0)⟩,j4,j5⟩,j0,j1⟩ ?_ ?_ ?_
 ·
  rintro ⟨v11,v12,v13,v14⟩ r h
  replace h : file_read_string_l1 v1 v11 v12 v13 v14 = some r:=h
  unfold file_read_string_l1 at h
  refine sw_seq ?_
  refine rg j0<|u<|mv j0<|u<|gtr ti3 j0 j0<|u<|mv j0<|r_and (j:=2) 5 j0 j0 j0 j0 j0 gpn (fun hb6=>g j0 hb6<|mv j0<|g j0 hb6<|nc j0 j0<|g j0 hb6<|fa ti142 j0 j0 j0<|g j0 hb6<|ld ti4 j0 j0<|g j0 hb6<|nt j0<|r_nil (egA [12,13,14,15,16] 5 hb6 j0 j0 j0 j0)) andF<|r_nil ?_
  refine sw_cond j0 (fun hc7=>?_) (fun hc7=>?_)
  ·
   replace h:=bT hc7 h
   refine sw_skip ?_
   refine sw_seq ?_
   refine sw_block ?_
   obtain ⟨v15,q8,h⟩:=bs h
   obtain ⟨v16,q9,h⟩:=bs h
   refine rl j0<|u<|mv j0<|u<|mv j0<|u<|sc [0,1] (file_reader_own_ok v1 v11 v12 q8) j0 j0 j0 j0 ⟨(.mpt j0),j5⟩ ⟨⟨_,j0,⟨(.msl j0),(rnI j0),(rnI j0),j5⟩⟩,⟨j0,mkI (fun _=>j0)⟩,j5⟩<|r_can (env0:=[(0,.mpt 0 0 0),(1,.fn (.func 84) [.mpt 0 0 0] []),(6,iA v14),(20,.msl 2 0 (List.length v13)),(22,sA v15.1)]) (st0:=[some (3,[[.msl 1 0 (List.length v1),.isl 1 (List.map byteRow v15.2.1),bA v15.2.2]]),some (1,List.map rStr v1),some (1,List.map rStr v13)]) ⟨[.old 0,.old 1,.old 2],cv j0 (.mpt j0)<|cv j0 (rsFn ⟨(.mpt j0),j5⟩ j5)<|ce j0 j0<|cv j0 (.msl j0)<|ce j0 j0<|cn,j0,⟨⟨_,j0,rsOne ⟨.msl j0,ci j0,ci j0,j5⟩⟩,⟨_,j0,rsMap (fun _=>j0)⟩,⟨_,j0,rsMap (fun _=>j0)⟩,j5⟩,j0,j1⟩<|u<|bl 3 ti22 j0 ti9 j0 (by decide) (by decide) j0 j0 j0<|u<|apM 4 ti22 j0 ti9 j0 j0 (by decide) ti22 j0 j0 j0 j0 (roX (f:=rStr) (z:=[v15.1]) j0 j0) (fun _=>j0) j0 q9<|u<|asg j0<|r_nil ?_
   refine rl j0<|u<|mv j0<|u<|sub ti3 j0 j0<|u<|asg j0<|r_nil ?_
   obtain rfl:=sm h
   exact ⟨_,j0,[.old 0,.old 1,.old 4],cv j0 (.mpt j0)<|cv j0 (rsFn ⟨(.mpt j0),j5⟩ j5)<|cv j0 (.msl j0)<|ce j0 j0<|cn,j0,⟨⟨_,j0,rsOne ⟨.msl j0,ci j0,ci j0,j5⟩⟩,⟨_,j0,rsMap (fun _=>j0)⟩,⟨_,j0,rsMap (fun _=>j0)⟩,j5⟩,j0,j1⟩
  ·
   replace h:=bF hc7 h
   refine sw_exit ?_
   obtain rfl:=sm h
   exact ⟨j0,_,j0,[.old 0,.old 1,.old 2],cv j0 (.msl j0)<|cn,j0,⟨⟨_,j0,rsOne ⟨.msl j0,ci j0,ci j0,j5⟩⟩,⟨_,j0,rsMap (fun _=>j0)⟩,⟨_,j0,rsMap (fun _=>j0)⟩,j5⟩,j0,j1⟩
 ·
  rintro ⟨v17,v18,v19⟩ rfl
  replace h : file_read_string_k2 v17 v18 v19 = some r:=h
  unfold file_read_string_k2 at h
  refine ow_intro ?_
  refine rg j0<|u<|mv j0<|u<|asg j0<|r_nil ?_
  refine sw_ret ?_
  obtain rfl:=sm h
  exact ⟨_,j0,[.old 0,.old 1,.old 2],.msl j0,j0,⟨⟨_,j0,rsOne ⟨.msl j0,ci j0,ci j0,j5⟩⟩,⟨_,j0,rsMap (fun _=>j0)⟩,⟨_,j0,rsMap (fun _=>j0)⟩,j5⟩,j0,j1⟩
 ·
  rintro r' rfl env st hp
  obtain rfl:=sm h
  exact hp
def file_reader_text (v1 : List (List UInt8)) (v2 : List UInt8) (v3 : Bool) : Option ((List UInt8) × (List UInt8) × Bool) :=
  (file_reader_num v1 v2 v3).bind fun v4=>cond ((v4.2.2 || (decide (v4.1 < 0))) || (decide (((List.length v1) : Int) ≤ v4.1))) (some ([],v4.2.1,true)) ((idx v1 v4.1).bind fun v5=>some (v5,v4.2.1,v4.2.2))
theorem file_reader_text_ok (v1 : List (List UInt8)) (v2 : List UInt8) (v3 : Bool) {r : (List UInt8) × (List UInt8) × Bool} (h : file_reader_text v1 v2 v3 = some r) : SC Tryz.prog 85 [.mpt 0 0 0] [.one 3 [.msl 1 0 (List.length v1),.isl 1 (List.map byteRow v2),bA v3],.many 1 (List.map rStr v1)] (sA r.1) [.one 3 [.msl 1 0 (List.length v1),.isl 1 (List.map byteRow r.2.1),bA r.2.2],.many 1 (List.map rStr v1)]:=by
 refine ⟨⟨j5,sbOk (sz:=1) (fun _=>j0),j5⟩,scall_fn Tryz.func85 j0 (by kernel_rfl) j0 ?_⟩
 unfold file_reader_text at h
 refine rg j0<|u<|asg j0<|r_nil ?_
 obtain ⟨v4,q1,h⟩:=bs h
 refine rg j0<|u<|mv j0<|u<|sc [0,1] (file_reader_num_ok v1 v2 v3 q1) j0 j0 j0 j0 ⟨(.mpt j0),j5⟩ ⟨⟨_,j0,⟨(.msl j0),(rnI j0),(rnI j0),j5⟩⟩,⟨j0,mkI (fun _=>j0)⟩,j5⟩<|r_can (env0:=[(0,.mpt 0 0 0),(5,iA v4.1)]) (st0:=[some (3,[[.msl 1 0 (List.length v1),.isl 1 (List.map byteRow v4.2.1),bA v4.2.2]]),some (1,List.map rStr v1)]) ⟨[.old 0,.old 1],cv j0 (.mpt j0)<|ce j0 j0<|cn,j0,⟨⟨_,j0,rsOne ⟨.msl j0,ci j0,ci j0,j5⟩⟩,⟨_,j0,rsMap (fun _=>j0)⟩,j5⟩,j0,j1⟩<|u<|asg j0<|r_nil ?_
 refine sw_seq ?_
 refine rg j0<|u<|mv j0<|u<|nc j0 j0<|u<|fa ti142 j0 j0 j0<|u<|ld ti4 j0 j0<|u<|mv j0<|r_or (j:=4) 2 j0 j0 j0 j0 j0 gpn (fun hb2=>g j0 hb2<|mv j0<|g j0 hb2<|lss ti3 j0 j0<|r_nil (egO [11,12] 2 hb2 j0 j0 j0 j0)) orT<|u<|mv j0<|r_or (j:=8) 7 j0 j0 j0 j0 j0 gpn (fun hb3=>g j0 hb3<|mv j0<|g j0 hb3<|mv j0<|g j0 hb3<|nc j0 j0<|g j0 hb3<|fa ti142 j0 j0 j0<|g j0 hb3<|ld ti22 j0 j0<|g j0 hb3<|lnM ti22 j0 j0 j0<|g j0 hb3<|geq ti3 j0 j0<|r_nil (egO [15,16,17,18,19,20,21] 7 hb3 j0 j0 j0 j0)) orT<|r_nil ?_
 refine sw_cond j0 (fun hc4=>?_) (fun hc4=>?_)
 ·
  replace h:=bT hc4 h
  refine rg j0<|u<|mv j0<|u<|nc j0 j0<|u<|fa ti142 j0 j0 j0<|u<|sto ti4 j0 j0 j0<|r_nil ?_
  refine rg j0<|u<|asg j0<|r_nil ?_
  refine sw_ret ?_
  obtain rfl:=sm h
  exact ⟨_,j0,[.old 0,.old 1],ci j0,j0,⟨⟨_,j0,rsOne ⟨.msl j0,ci j0,ci j0,j5⟩⟩,⟨_,j0,rsMap (fun _=>j0)⟩,j5⟩,j0,j1⟩
 ·
  replace h:=bF hc4 h
  refine sw_skip ?_
  obtain ⟨v5,q5,h⟩:=bs h
  refine rg j0<|u<|mv j0<|u<|nc j0 j0<|u<|fa ti142 j0 j0 j0<|u<|ld ti22 j0 j0<|u<|mv j0<|u<|ixM ti22 j0 ti9 j0 j0 j0 j0 q5<|u<|ldM ti9 j0 j0 (idx_some q5).2.2 j0<|u<|asg j0<|r_nil ?_
  refine sw_ret ?_
  obtain rfl:=sm h
  exact ⟨_,j0,[.old 0,.old 1],ci j0,j0,⟨⟨_,j0,rsOne ⟨.msl j0,ci j0,ci j0,j5⟩⟩,⟨_,j0,rsMap (fun _=>j0)⟩,j5⟩,j0,j1⟩
def file_reader_truth (v1 : List (List UInt8)) (v2 : List UInt8) (v3 : Bool) : Option (Bool × (List UInt8) × Bool) :=
  (file_reader_num v1 v2 v3).bind fun v4=>some ((!(v4.1 == (0 : Int))),v4.2.1,v4.2.2)
theorem file_reader_truth_ok (v1 : List (List UInt8)) (v2 : List UInt8) (v3 : Bool) {r : Bool × (List UInt8) × Bool} (h : file_reader_truth v1 v2 v3 = some r) : SC Tryz.prog 86 [.mpt 0 0 0] [.one 3 [.msl 1 0 (List.length v1),.isl 1 (List.map byteRow v2),bA v3],.many 1 (List.map rStr v1)] (bA r.1) [.one 3 [.msl 1 0 (List.length v1),.isl 1 (List.map byteRow r.2.1),bA r.2.2],.many 1 (List.map rStr v1)]:=by
 refine ⟨⟨j5,sbOk (sz:=1) (fun _=>j0),j5⟩,scall_fn Tryz.func86 j0 (by kernel_rfl) j0 ?_⟩
 unfold file_reader_truth at h
 refine rg j0<|u<|asg j0<|r_nil ?_
 obtain ⟨v4,q1,h⟩:=bs h
 refine rg j0<|u<|mv j0<|u<|sc [0,1] (file_reader_num_ok v1 v2 v3 q1) j0 j0 j0 j0 ⟨(.mpt j0),j5⟩ ⟨⟨_,j0,⟨(.msl j0),(rnI j0),(rnI j0),j5⟩⟩,⟨j0,mkI (fun _=>j0)⟩,j5⟩<|r_can (env0:=[(4,iA v4.1)]) (st0:=[some (3,[[.msl 1 0 (List.length v1),.isl 1 (List.map byteRow v4.2.1),bA v4.2.2]]),some (1,List.map rStr v1)]) ⟨[.old 0,.old 1],ce j0 j0<|cn,j0,⟨⟨_,j0,rsOne ⟨.msl j0,ci j0,ci j0,j5⟩⟩,⟨_,j0,rsMap (fun _=>j0)⟩,j5⟩,j0,j1⟩<|u<|neq ti3 j0 j0<|u<|asg j0<|r_nil ?_
 refine sw_ret ?_
 obtain rfl:=sm h
 exact ⟨_,j0,[.old 0,.old 1],ci j0,j0,⟨⟨_,j0,rsOne ⟨.msl j0,ci j0,ci j0,j5⟩⟩,⟨_,j0,rsMap (fun _=>j0)⟩,j5⟩,j0,j1⟩
def file_read_string_s2_k2 (v17 : List (List UInt8)) (v18 : List UInt8) (v19 : Bool) : Option ((List (List UInt8)) × (List UInt8) × Bool) :=
  some (v17,v18,v19)
def file_read_string_s2_l1 (v1 : List (List UInt8)) (v11 : List UInt8) (v12 : Bool) (v13 : List (List UInt8)) (v14 : Int) : Option (Sum ((List UInt8) × Bool × (List (List UInt8)) × Int) (Sum ((List (List UInt8)) × (List UInt8) × Bool) ((List (List UInt8)) × (List UInt8) × Bool))) :=
  cond ((decide (0 < v14)) && (!v12)) ((file_reader_text v1 v11 v12).bind fun v15=>(appP 16 v13 [v15.1]).bind fun v16=>some (.inl (v15.2.1,v15.2.2,v16,(IntKind.i64.wrap (v14 - 1))))) (some (.inr (.inl (v13,v11,v12))))
def file_read_string_s2 (v1 : List (List UInt8)) (v2 : List UInt8) (v3 : Bool) : Option ((List (List UInt8)) × (List UInt8) × Bool) :=
  (file_reader_num v1 v2 v3).bind fun v4=>(loopP (fun z=>file_read_string_s2_l1 v1 z.1 z.2.1 z.2.2.1 z.2.2.2) (v4.2.1,v4.2.2,[],v4.1)).bind fun o=>leave o (fun b=>file_read_string_s2_k2 b.1 b.2.1 b.2.2) some
theorem file_read_string_s2_ok (v1 : List (List UInt8)) (v2 : List UInt8) (v3 : Bool) {r : (List (List UInt8)) × (List UInt8) × Bool} (h : file_read_string_s2 v1 v2 v3 = some r) : SC Tryz.prog 83 [.mpt 0 0 0,.fn (.func 85) [.mpt 0 0 0] []] [.one 3 [.msl 1 0 (List.length v1),.isl 1 (List.map byteRow v2),bA v3],.many 1 (List.map rStr v1)] (.msl 2 0 (List.length r.1)) [.one 3 [.msl 1 0 (List.length v1),.isl 1 (List.map byteRow r.2.1),bA r.2.2],.many 1 (List.map rStr v1),.many 1 (List.map rStr r.1)]:=by
 refine ⟨⟨j5,sbOk (sz:=1) (fun _=>j0),sbOk (sz:=1) (fun _=>j0),j5⟩,scall_fn Tryz.func83 j0 (by kernel_rfl) j0 ?_⟩
 unfold file_read_string_s2 at h
 refine rg j0<|u<|asg j0<|r_nil ?_
 refine rg j0<|u<|asg j0<|r_nil ?_
 refine sw_seq ?_
 obtain ⟨v4,q1,h⟩:=bs h
 refine rg j0<|u<|mv j0<|u<|sc [0,1] (file_reader_num_ok v1 v2 v3 q1) j0 j0 j0 j0 ⟨(.mpt j0),j5⟩ ⟨⟨_,j0,⟨(.msl j0),(rnI j0),(rnI j0),j5⟩⟩,⟨j0,mkI (fun _=>j0)⟩,j5⟩<|r_can (env0:=[(0,.mpt 0 0 0),(1,.fn (.func 85) [.mpt 0 0 0] []),(5,.lit (.slice none 0 0)),(8,iA v4.1)]) (st0:=[some (3,[[.msl 1 0 (List.length v1),.isl 1 (List.map byteRow v4.2.1),bA v4.2.2]]),some (1,List.map rStr v1)]) ⟨[.old 0,.old 1],cv j0 (.mpt j0)<|cv j0 (rsFn ⟨(.mpt j0),j5⟩ j5)<|ce j0 j0<|ce j0 j0<|cn,j0,⟨⟨_,j0,rsOne ⟨.msl j0,ci j0,ci j0,j5⟩⟩,⟨_,j0,rsMap (fun _=>j0)⟩,j5⟩,j0,j1⟩<|u<|asg j0<|r_nil ?_
 obtain ⟨o,ho,h⟩:=bs h
 refine sw_lpl (X:=(List UInt8) × Bool × (List (List UInt8)) × Int) (B:=(List (List UInt8)) × (List UInt8) × Bool) (R:=(List (List UInt8)) × (List UInt8) × Bool) (fun z=>[(0,.mpt 0 0 0),(1,.fn (.func 85) [.mpt 0 0 0] []),(5,.msl 2 0 (List.length z.2.2.1)),(6,iA z.2.2.2)]) (fun z=>[some (3,[[.msl 1 0 (List.length v1),.isl 1 (List.map byteRow z.1),bA z.2.1]]),some (1,List.map rStr v1),some (1,List.map rStr z.2.2.1)]) (fun b=>[(5,.msl 2 0 (List.length b.1))]) (fun b=>[some (3,[[.msl 1 0 (List.length v1),.isl 1 (List.map byteRow b.2.1),bA b.2.2]]),some (1,List.map rStr v1),some (1,List.map rStr b.1)]) (fun r env st=>PostF Tryz.prog Tryz.f83 2 (.msl 2 0 (List.length r.1)) [some (3,[[.msl 1 0 (List.length v1),.isl 1 (List.map byteRow r.2.1),bA r.2.2]]),some (1,List.map rStr v1),some (1,List.map rStr r.1)] env st) ho ⟨[.old 0,.old 1,.fresh 1],cv j0 (.mpt j0)<|cv j0 (rsFn ⟨(.mpt j0),j5⟩ j5)<|cv j0 (.nilown j0)<|ce j0 j0<|cn,j0,⟨⟨_,j0,rsOne ⟨.msl j0,ci j0,ci j0,j5⟩⟩,⟨_,j0,rsMap (fun _=>j0)⟩,j4,j5⟩,j0,j1⟩ ?_ ?_ ?_
 ·
  rintro ⟨v11,v12,v13,v14⟩ r h
  replace h : file_read_string_s2_l1 v1 v11 v12 v13 v14 = some r:=h
  unfold file_read_string_s2_l1 at h
  refine sw_seq ?_
  refine rg j0<|u<|mv j0<|u<|gtr ti3 j0 j0<|u<|mv j0<|r_and (j:=2) 5 j0 j0 j0 j0 j0 gpn (fun hb6=>g j0 hb6<|mv j0<|g j0 hb6<|nc j0 j0<|g j0 hb6<|fa ti142 j0 j0 j0<|g j0 hb6<|ld ti4 j0 j0<|g j0 hb6<|nt j0<|r_nil (egA [12,13,14,15,16] 5 hb6 j0 j0 j0 j0)) andF<|r_nil ?_
  refine sw_cond j0 (fun hc7=>?_) (fun hc7=>?_)
  ·
   replace h:=bT hc7 h
   refine sw_skip ?_
   refine sw_seq ?_
   refine sw_block ?_
   obtain ⟨v15,q8,h⟩:=bs h
   obtain ⟨v16,q9,h⟩:=bs h
   refine rl j0<|u<|mv j0<|u<|mv j0<|u<|sc [0,1] (file_reader_text_ok v1 v11 v12 q8) j0 j0 j0 j0 ⟨(.mpt j0),j5⟩ ⟨⟨_,j0,⟨(.msl j0),(rnI j0),(rnI j0),j5⟩⟩,⟨j0,mkI (fun _=>j0)⟩,j5⟩<|r_can (env0:=[(0,.mpt 0 0 0),(1,.fn (.func 85) [.mpt 0 0 0] []),(6,iA v14),(20,.msl 2 0 (List.length v13)),(22,sA v15.1)]) (st0:=[some (3,[[.msl 1 0 (List.length v1),.isl 1 (List.map byteRow v15.2.1),bA v15.2.2]]),some (1,List.map rStr v1),some (1,List.map rStr v13)]) ⟨[.old 0,.old 1,.old 2],cv j0 (.mpt j0)<|cv j0 (rsFn ⟨(.mpt j0),j5⟩ j5)<|ce j0 j0<|cv j0 (.msl j0)<|ce j0 j0<|cn,j0,⟨⟨_,j0,rsOne ⟨.msl j0,ci j0,ci j0,j5⟩⟩,⟨_,j0,rsMap (fun _=>j0)⟩,⟨_,j0,rsMap (fun _=>j0)⟩,j5⟩,j0,j1⟩<|u<|bl 3 ti22 j0 ti9 j0 (by decide) (by decide) j0 j0 j0<|u<|apM 4 ti22 j0 ti9 j0 j0 (by decide) ti22 j0 j0 j0 j0 (roX (f:=rStr) (z:=[v15.1]) j0 j0) (fun _=>j0) j0 q9<|u<|asg j0<|r_nil ?_
   refine rl j0<|u<|mv j0<|u<|sub ti3 j0 j0<|u<|asg j0<|r_nil ?_
   obtain rfl:=sm h
   exact ⟨_,j0,[.old 0,.old 1,.old 4],cv j0 (.mpt j0)<|cv j0 (rsFn ⟨(.mpt j0),j5⟩ j5)<|cv j0 (.msl j0)<|ce j0 j0<|cn,j0,⟨⟨_,j0,rsOne ⟨.msl j0,ci j0,ci j0,j5⟩⟩,⟨_,j0,rsMap (fun _=>j0)⟩,⟨_,j0,rsMap (fun _=>j0)⟩,j5⟩,j0,j1⟩
  ·
   replace h:=bF hc7 h
   refine sw_exit ?_
   obtain rfl:=sm h
   exact ⟨j0,_,j0,[.old 0,.old 1,.old 2],cv j0 (.msl j0)<|cn,j0,⟨⟨_,j0,rsOne ⟨.msl j0,ci j0,ci j0,j5⟩⟩,⟨_,j0,rsMap (fun _=>j0)⟩,⟨_,j0,rsMap (fun _=>j0)⟩,j5⟩,j0,j1⟩
 ·
  rintro ⟨v17,v18,v19⟩ rfl
  replace h : file_read_string_s2_k2 v17 v18 v19 = some r:=h
  unfold file_read_string_s2_k2 at h
  refine ow_intro ?_
  refine rg j0<|u<|mv j0<|u<|asg j0<|r_nil ?_
  refine sw_ret ?_
  obtain rfl:=sm h
  exact ⟨_,j0,[.old 0,.old 1,.old 2],.msl j0,j0,⟨⟨_,j0,rsOne ⟨.msl j0,ci j0,ci j0,j5⟩⟩,⟨_,j0,rsMap (fun _=>j0)⟩,⟨_,j0,rsMap (fun _=>j0)⟩,j5⟩,j0,j1⟩
 ·
  rintro r' rfl env st hp
  obtain rfl:=sm h
  exact hp
def file_reader_field (v1 : List (List UInt8)) (v2 : List UInt8) (v3 : Bool) : Option (ApiField × (List UInt8) × Bool) :=
  (file_reader_text v1 v2 v3).bind fun v4=>(file_reader_text v1 v4.2.1 v4.2.2).bind fun v5=>(file_reader_truth v1 v5.2.1 v5.2.2).bind fun v6=>some ((ApiField.mk v4.1 v5.1 v6.1),v6.2.1,v6.2.2)
theorem file_reader_field_ok (v1 : List (List UInt8)) (v2 : List UInt8) (v3 : Bool) {r : ApiField × (List UInt8) × Bool} (h : file_reader_field v1 v2 v3 = some r) : SC Tryz.prog 88 [.mpt 0 0 0] [.one 3 [.msl 1 0 (List.length v1),.isl 1 (List.map byteRow v2),bA v3],.many 1 (List.map rStr v1)] (.agg [sA r.1.Name,sA r.1.Type_,bA r.1.Static]) [.one 3 [.msl 1 0 (List.length v1),.isl 1 (List.map byteRow r.2.1),bA r.2.2],.many 1 (List.map rStr v1)]:=by
 refine ⟨⟨j5,sbOk (sz:=1) (fun _=>j0),j5⟩,scall_fn Tryz.func88 j0 (by kernel_rfl) j0 ?_⟩
 unfold file_reader_field at h
 refine rg j0<|u<|al 2 ti42 j0<|r_nil ?_
 obtain ⟨v4,q1,h⟩:=bs h
 obtain ⟨v5,q2,h⟩:=bs h
 obtain ⟨v6,q3,h⟩:=bs h
 refine rg j0<|u<|mv j0<|u<|sc [0,1] (file_reader_text_ok v1 v2 v3 q1) j0 j0 j0 j0 ⟨(.mpt j0),j5⟩ ⟨⟨_,j0,⟨(.msl j0),(rnI j0),(rnI j0),j5⟩⟩,⟨j0,mkI (fun _=>j0)⟩,j5⟩<|r_can (env0:=[(0,.mpt 0 0 0),(2,.mpt 2 0 0),(4,sA v4.1)]) (st0:=[some (3,[[.msl 1 0 (List.length v1),.isl 1 (List.map byteRow v4.2.1),bA v4.2.2]]),some (1,List.map rStr v1),some (3,[[sA [],sA [],bA false]])]) ⟨[.old 0,.old 1,.old 2],cv j0 (.mpt j0)<|cv j0 (.mpt j0)<|ce j0 j0<|cn,j0,⟨⟨_,j0,rsOne ⟨.msl j0,ci j0,ci j0,j5⟩⟩,⟨_,j0,rsMap (fun _=>j0)⟩,⟨_,j0,rsOne ⟨ci j0,ci j0,ci j0,j5⟩⟩,j5⟩,j0,j1⟩<|u<|mv j0<|u<|sc [0,1] (file_reader_text_ok v1 v4.2.1 v4.2.2 q2) j0 j0 j0 j0 ⟨(.mpt j0),j5⟩ ⟨⟨_,j0,⟨(.msl j0),(rnI j0),(rnI j0),j5⟩⟩,⟨j0,mkI (fun _=>j0)⟩,j5⟩<|r_can (env0:=[(0,.mpt 0 0 0),(2,.mpt 2 0 0),(4,sA v4.1),(6,sA v5.1)]) (st0:=[some (3,[[.msl 1 0 (List.length v1),.isl 1 (List.map byteRow v5.2.1),bA v5.2.2]]),some (1,List.map rStr v1),some (3,[[sA [],sA [],bA false]])]) ⟨[.old 0,.old 1,.old 2],cv j0 (.mpt j0)<|cv j0 (.mpt j0)<|ce j0 j0<|ce j0 j0<|cn,j0,⟨⟨_,j0,rsOne ⟨.msl j0,ci j0,ci j0,j5⟩⟩,⟨_,j0,rsMap (fun _=>j0)⟩,⟨_,j0,rsOne ⟨ci j0,ci j0,ci j0,j5⟩⟩,j5⟩,j0,j1⟩<|u<|mv j0<|u<|sc [0,1] (file_reader_truth_ok v1 v5.2.1 v5.2.2 q3) j0 j0 j0 j0 ⟨(.mpt j0),j5⟩ ⟨⟨_,j0,⟨(.msl j0),(rnI j0),(rnI j0),j5⟩⟩,⟨j0,mkI (fun _=>j0)⟩,j5⟩<|r_can (env0:=[(2,.mpt 2 0 0),(4,sA v4.1),(6,sA v5.1),(8,bA v6.1)]) (st0:=[some (3,[[.msl 1 0 (List.length v1),.isl 1 (List.map byteRow v6.2.1),bA v6.2.2]]),some (1,List.map rStr v1),some (3,[[sA [],sA [],bA false]])]) ⟨[.old 0,.old 1,.old 2],cv j0 (.mpt j0)<|ce j0 j0<|ce j0 j0<|ce j0 j0<|cn,j0,⟨⟨_,j0,rsOne ⟨.msl j0,ci j0,ci j0,j5⟩⟩,⟨_,j0,rsMap (fun _=>j0)⟩,⟨_,j0,rsOne ⟨ci j0,ci j0,ci j0,j5⟩⟩,j5⟩,j0,j1⟩<|u<|bd ti42 j0 j0 j0<|u<|sto ti42 j0 j0 j0<|r_nil ?_
 refine sw_ret ?_
 obtain rfl:=sm h
 exact ⟨_,j0,[.old 0,.old 1],ci j0,j0,⟨⟨_,j0,rsOne ⟨.msl j0,ci j0,ci j0,j5⟩⟩,⟨_,j0,rsMap (fun _=>j0)⟩,j5⟩,j0,j1⟩
def file_read_api_Field_k2 (v17 : List ApiField) (v18 : List UInt8) (v19 : Bool) : Option ((List ApiField) × (List UInt8) × Bool) :=
  some (v17,v18,v19)
def file_read_api_Field_l1 (v1 : List (List UInt8)) (v11 : List UInt8) (v12 : Bool) (v13 : List ApiField) (v14 : Int) : Option (Sum ((List UInt8) × Bool × (List ApiField) × Int) (Sum ((List ApiField) × (List UInt8) × Bool) ((List ApiField) × (List UInt8) × Bool))) :=
  cond ((decide (0 < v14)) && (!v12)) ((file_reader_field v1 v11 v12).bind fun v15=>(appP 40 v13 [v15.1]).bind fun v16=>some (.inl (v15.2.1,v15.2.2,v16,(IntKind.i64.wrap (v14 - 1))))) (some (.inr (.inl (v13,v11,v12))))
def file_read_api_Field (v1 : List (List UInt8)) (v2 : List UInt8) (v3 : Bool) : Option ((List ApiField) × (List UInt8) × Bool) :=
  (file_reader_num v1 v2 v3).bind fun v4=>(loopP (fun z=>file_read_api_Field_l1 v1 z.1 z.2.1 z.2.2.1 z.2.2.2) (v4.2.1,v4.2.2,[],v4.1)).bind fun o=>leave o (fun b=>file_read_api_Field_k2 b.1 b.2.1 b.2.2) some
theorem file_read_api_Field_ok (v1 : List (List UInt8)) (v2 : List UInt8) (v3 : Bool) {r : (List ApiField) × (List UInt8) × Bool} (h : file_read_api_Field v1 v2 v3 = some r) : SC Tryz.prog 87 [.mpt 0 0 0,.fn (.func 88) [.mpt 0 0 0] []] [.one 3 [.msl 1 0 (List.length v1),.isl 1 (List.map byteRow v2),bA v3],.many 1 (List.map rStr v1)] (.msl 2 0 (List.length r.1)) [.one 3 [.msl 1 0 (List.length v1),.isl 1 (List.map byteRow r.2.1),bA r.2.2],.many 1 (List.map rStr v1),.many 3 (List.map rApiField r.1)]:=by
 refine ⟨⟨j5,sbOk (sz:=1) (fun _=>j0),sbOk (sz:=3) (fun _=>j0),j5⟩,scall_fn Tryz.func87 j0 (by kernel_rfl) j0 ?_⟩
 unfold file_read_api_Field at h
 refine rg j0<|u<|asg j0<|r_nil ?_
 refine rg j0<|u<|asg j0<|r_nil ?_
 refine sw_seq ?_
 obtain ⟨v4,q1,h⟩:=bs h
 refine rg j0<|u<|mv j0<|u<|sc [0,1] (file_reader_num_ok v1 v2 v3 q1) j0 j0 j0 j0 ⟨(.mpt j0),j5⟩ ⟨⟨_,j0,⟨(.msl j0),(rnI j0),(rnI j0),j5⟩⟩,⟨j0,mkI (fun _=>j0)⟩,j5⟩<|r_can (env0:=[(0,.mpt 0 0 0),(1,.fn (.func 88) [.mpt 0 0 0] []),(5,.lit (.slice none 0 0)),(8,iA v4.1)]) (st0:=[some (3,[[.msl 1 0 (List.length v1),.isl 1 (List.map byteRow v4.2.1),bA v4.2.2]]),some (1,List.map rStr v1)]) ⟨[.old 0,.old 1],cv j0 (.mpt j0)<|cv j0 (rsFn ⟨(.mpt j0),j5⟩ j5)<|ce j0 j0<|ce j0 j0<|cn,j0,⟨⟨_,j0,rsOne ⟨.msl j0,ci j0,ci j0,j5⟩⟩,⟨_,j0,rsMap (fun _=>j0)⟩,j5⟩,j0,j1⟩<|u<|asg j0<|r_nil ?_
 obtain ⟨o,ho,h⟩:=bs h
 refine sw_lpl (X:=(List UInt8) × Bool × (List ApiField) × Int) (B:=(List ApiField) × (List UInt8) × Bool) (R:=(List ApiField) × (List UInt8) × Bool) (fun z=>[(0,.mpt 0 0 0),(1,.fn (.func 88) [.mpt 0 0 0] []),(5,.msl 2 0 (List.length z.2.2.1)),(6,iA z.2.2.2)]) (fun z=>[some (3,[[.msl 1 0 (List.length v1),.isl 1 (List.map byteRow z.1),bA z.2.1]]),some (1,List.map rStr v1),some (3,List.map rApiField z.2.2.1)]) (fun b=>[(5,.msl 2 0 (List.length b.1))]) (fun b=>[some (3,[[.msl 1 0 (List.length v1),.isl 1 (List.map byteRow b.2.1),bA b.2.2]]),some (1,List.map rStr v1),some (3,List.map rApiField b.1)]) (fun r env st=>PostF Tryz.prog Tryz.f87 2 (.msl 2 0 (List.length r.1)) [some (3,[[.msl 1 0 (List.length v1),.isl 1 (List.map byteRow r.2.1),bA r.2.2]]),some (1,List.map rStr v1),some (3,List.map rApiField r.1)] env st) ho ⟨[.old 0,.old 1,.fresh 3],cv j0 (.mpt j0)<|cv j0 (rsFn ⟨(.mpt j0),j5⟩ j5)<|cv j0 (.nilown j0)<|ce j0 j0<|cn,j0,⟨⟨_,j0,rsOne ⟨.msl j0,ci j0,ci j0,j5⟩⟩,⟨_,j0,rsMap (fun _=>j0)⟩,j4,j5⟩,j0,j1⟩ ?_ ?_ ?_
 ·
  rintro ⟨v11,v12,v13,v14⟩ r h
  replace h : file_read_api_Field_l1 v1 v11 v12 v13 v14 = some r:=h
  unfold file_read_api_Field_l1 at h
  refine sw_seq ?_
  refine rg j0<|u<|mv j0<|u<|gtr ti3 j0 j0<|u<|mv j0<|r_and (j:=2) 5 j0 j0 j0 j0 j0 gpn (fun hb6=>g j0 hb6<|mv j0<|g j0 hb6<|nc j0 j0<|g j0 hb6<|fa ti142 j0 j0 j0<|g j0 hb6<|ld ti4 j0 j0<|g j0 hb6<|nt j0<|r_nil (egA [12,13,14,15,16] 5 hb6 j0 j0 j0 j0)) andF<|r_nil ?_
  refine sw_cond j0 (fun hc7=>?_) (fun hc7=>?_)
  ·
   replace h:=bT hc7 h
   refine sw_skip ?_
   refine sw_seq ?_
   refine sw_block ?_
   obtain ⟨v15,q8,h⟩:=bs h
   obtain ⟨v16,q9,h⟩:=bs h
   refine rl j0<|u<|mv j0<|u<|mv j0<|u<|sc [0,1] (file_reader_field_ok v1 v11 v12 q8) j0 j0 j0 j0 ⟨(.mpt j0),j5⟩ ⟨⟨_,j0,⟨(.msl j0),(rnI j0),(rnI j0),j5⟩⟩,⟨j0,mkI (fun _=>j0)⟩,j5⟩<|r_can (env0:=[(0,.mpt 0 0 0),(1,.fn (.func 88) [.mpt 0 0 0] []),(6,iA v14),(20,.msl 2 0 (List.length v13)),(22,.agg [sA v15.1.Name,sA v15.1.Type_,bA v15.1.Static])]) (st0:=[some (3,[[.msl 1 0 (List.length v1),.isl 1 (List.map byteRow v15.2.1),bA v15.2.2]]),some (1,List.map rStr v1),some (3,List.map rApiField v13)]) ⟨[.old 0,.old 1,.old 2],cv j0 (.mpt j0)<|cv j0 (rsFn ⟨(.mpt j0),j5⟩ j5)<|ce j0 j0<|cv j0 (.msl j0)<|ce j0 j0<|cn,j0,⟨⟨_,j0,rsOne ⟨.msl j0,ci j0,ci j0,j5⟩⟩,⟨_,j0,rsMap (fun _=>j0)⟩,⟨_,j0,rsMap (fun _=>j0)⟩,j5⟩,j0,j1⟩<|u<|bl 3 ti23 j0 ti42 j0 (by decide) (by decide) j0 j0 j0<|u<|apM 4 ti23 j0 ti42 j0 j0 (by decide) ti23 j0 j0 j0 j0 (roX (f:=rApiField) (z:=[v15.1]) j0 j0) (fun _=>j0) j0 q9<|u<|asg j0<|r_nil ?_
   refine rl j0<|u<|mv j0<|u<|sub ti3 j0 j0<|u<|asg j0<|r_nil ?_
   obtain rfl:=sm h
   exact ⟨_,j0,[.old 0,.old 1,.old 4],cv j0 (.mpt j0)<|cv j0 (rsFn ⟨(.mpt j0),j5⟩ j5)<|cv j0 (.msl j0)<|ce j0 j0<|cn,j0,⟨⟨_,j0,rsOne ⟨.msl j0,ci j0,ci j0,j5⟩⟩,⟨_,j0,rsMap (fun _=>j0)⟩,⟨_,j0,rsMap (fun _=>j0)⟩,j5⟩,j0,j1⟩
  ·
   replace h:=bF hc7 h
   refine sw_exit ?_
   obtain rfl:=sm h
   exact ⟨j0,_,j0,[.old 0,.old 1,.old 2],cv j0 (.msl j0)<|cn,j0,⟨⟨_,j0,rsOne ⟨.msl j0,ci j0,ci j0,j5⟩⟩,⟨_,j0,rsMap (fun _=>j0)⟩,⟨_,j0,rsMap (fun _=>j0)⟩,j5⟩,j0,j1⟩
 ·
  rintro ⟨v17,v18,v19⟩ rfl
  replace h : file_read_api_Field_k2 v17 v18 v19 = some r:=h
  unfold file_read_api_Field_k2 at h
  refine ow_intro ?_
  refine rg j0<|u<|mv j0<|u<|asg j0<|r_nil ?_
  refine sw_ret ?_
  obtain rfl:=sm h
  exact ⟨_,j0,[.old 0,.old 1,.old 2],.msl j0,j0,⟨⟨_,j0,rsOne ⟨.msl j0,ci j0,ci j0,j5⟩⟩,⟨_,j0,rsMap (fun _=>j0)⟩,⟨_,j0,rsMap (fun _=>j0)⟩,j5⟩,j0,j1⟩
 ·
  rintro r' rfl env st hp
  obtain rfl:=sm h
  exact hp
def file_reader_ins (v1 : List (List UInt8)) (v2 : List UInt8) (v3 : Bool) : Option (ApiIns × (List UInt8) × Bool) :=
  (file_reader_num v1 v2 v3).bind fun v4=>(file_reader_num v1 v4.2.1 v4.2.2).bind fun v5=>(file_reader_text v1 v5.2.1 v5.2.2).bind fun v6=>(file_reader_text v1 v6.2.1 v6.2.2).bind fun v7=>some ((ApiIns.mk v4.1 v5.1 v6.1 v7.1),v7.2.1,v7.2.2)
theorem file_reader_ins_ok (v1 : List (List UInt8)) (v2 : List UInt8) (v3 : Bool) {r : ApiIns × (List UInt8) × Bool} (h : file_reader_ins v1 v2 v3 = some r) : SC Tryz.prog 173 [.mpt 0 0 0] [.one 3 [.msl 1 0 (List.length v1),.isl 1 (List.map byteRow v2),bA v3],.many 1 (List.map rStr v1)] (.agg [iA r.1.Op,iA r.1.A,sA r.1.C,sA r.1.M]) [.one 3 [.msl 1 0 (List.length v1),.isl 1 (List.map byteRow r.2.1),bA r.2.2],.many 1 (List.map rStr v1)]:=by
 refine ⟨⟨j5,sbOk (sz:=1) (fun _=>j0),j5⟩,scall_fn Tryz.func173 j0 (by kernel_rfl) j0 ?_⟩
 unfold file_reader_ins at h
 refine rg j0<|u<|al 2 ti40 j0<|r_nil ?_
 obtain ⟨v4,q1,h⟩:=bs h
 obtain ⟨v5,q2,h⟩:=bs h
 obtain ⟨v6,q3,h⟩:=bs h
 obtain ⟨v7,q4,h⟩:=bs h
 refine rg j0<|u<|mv j0<|u<|sc [0,1] (file_reader_num_ok v1 v2 v3 q1) j0 j0 j0 j0 ⟨(.mpt j0),j5⟩ ⟨⟨_,j0,⟨(.msl j0),(rnI j0),(rnI j0),j5⟩⟩,⟨j0,mkI (fun _=>j0)⟩,j5⟩<|r_can (env0:=[(0,.mpt 0 0 0),(2,.mpt 2 0 0),(4,iA v4.1)]) (st0:=[some (3,[[.msl 1 0 (List.length v1),.isl 1 (List.map byteRow v4.2.1),bA v4.2.2]]),some (1,List.map rStr v1),some (4,[[iA 0,iA 0,sA [],sA []]])]) ⟨[.old 0,.old 1,.old 2],cv j0 (.mpt j0)<|cv j0 (.mpt j0)<|ce j0 j0<|cn,j0,⟨⟨_,j0,rsOne ⟨.msl j0,ci j0,ci j0,j5⟩⟩,⟨_,j0,rsMap (fun _=>j0)⟩,⟨_,j0,rsOne ⟨ci j0,ci j0,ci j0,ci j0,j5⟩⟩,j5⟩,j0,j1⟩<|u<|mv j0<|u<|sc [0,1] (file_reader_num_ok v1 v4.2.1 v4.2.2 q2) j0 j0 j0 j0 ⟨(.mpt j0),j5⟩ ⟨⟨_,j0,⟨(.msl j0),(rnI j0),(rnI j0),j5⟩⟩,⟨j0,mkI (fun _=>j0)⟩,j5⟩<|r_can (env0:=[(0,.mpt 0 0 0),(2,.mpt 2 0 0),(4,iA v4.1),(6,iA v5.1)]) (st0:=[some (3,[[.msl 1 0 (List.length v1),.isl 1 (List.map byteRow v5.2.1),bA v5.2.2]]),some (1,List.map rStr v1),some (4,[[iA 0,iA 0,sA [],sA []]])]) ⟨[.old 0,.old 1,.old 2],cv j0 (.mpt j0)<|cv j0 (.mpt j0)<|ce j0 j0<|ce j0 j0<|cn,j0,⟨⟨_,j0,rsOne ⟨.msl j0,ci j0,ci j0,j5⟩⟩,⟨_,j0,rsMap (fun _=>j0)⟩,⟨_,j0,rsOne ⟨ci j0,ci j0,ci j0,ci j0,j5⟩⟩,j5⟩,j0,j1⟩<|u<|mv j0<|u<|sc [0,1] (file_reader_text_ok v1 v5.2.1 v5.2.2 q3) j0 j0 j0 j0 ⟨(.mpt j0),j5⟩ ⟨⟨_,j0,⟨(.msl j0),(rnI j0),(rnI j0),j5⟩⟩,⟨j0,mkI (fun _=>j0)⟩,j5⟩<|r_can (env0:=[(0,.mpt 0 0 0),(2,.mpt 2 0 0),(4,iA v4.1),(6,iA v5.1),(8,sA v6.1)]) (st0:=[some (3,[[.msl 1 0 (List.length v1),.isl 1 (List.map byteRow v6.2.1),bA v6.2.2]]),some (1,List.map rStr v1),some (4,[[iA 0,iA 0,sA [],sA []]])]) ⟨[.old 0,.old 1,.old 2],cv j0 (.mpt j0)<|cv j0 (.mpt j0)<|ce j0 j0<|ce j0 j0<|ce j0 j0<|cn,j0,⟨⟨_,j0,rsOne ⟨.msl j0,ci j0,ci j0,j5⟩⟩,⟨_,j0,rsMap (fun _=>j0)⟩,⟨_,j0,rsOne ⟨ci j0,ci j0,ci j0,ci j0,j5⟩⟩,j5⟩,j0,j1⟩<|u<|mv j0<|u<|sc [0,1] (file_reader_text_ok v1 v6.2.1 v6.2.2 q4) j0 j0 j0 j0 ⟨(.mpt j0),j5⟩ ⟨⟨_,j0,⟨(.msl j0),(rnI j0),(rnI j0),j5⟩⟩,⟨j0,mkI (fun _=>j0)⟩,j5⟩<|r_can (env0:=[(2,.mpt 2 0 0),(4,iA v4.1),(6,iA v5.1),(8,sA v6.1),(10,sA v7.1)]) (st0:=[some (3,[[.msl 1 0 (List.length v1),.isl 1 (List.map byteRow v7.2.1),bA v7.2.2]]),some (1,List.map rStr v1),some (4,[[iA 0,iA 0,sA [],sA []]])]) ⟨[.old 0,.old 1,.old 2],cv j0 (.mpt j0)<|ce j0 j0<|ce j0 j0<|ce j0 j0<|ce j0 j0<|cn,j0,⟨⟨_,j0,rsOne ⟨.msl j0,ci j0,ci j0,j5⟩⟩,⟨_,j0,rsMap (fun _=>j0)⟩,⟨_,j0,rsOne ⟨ci j0,ci j0,ci j0,ci j0,j5⟩⟩,j5⟩,j0,j1⟩<|u<|bd ti40 j0 j0 j0<|u<|sto ti40 j0 j0 j0<|r_nil ?_
 refine sw_ret ?_
 obtain rfl:=sm h
 exact ⟨_,j0,[.old 0,.old 1],ci j0,j0,⟨⟨_,j0,rsOne ⟨.msl j0,ci j0,ci j0,j5⟩⟩,⟨_,j0,rsMap (fun _=>j0)⟩,j5⟩,j0,j1⟩
def file_read_api_Ins_k2 (v17 : List ApiIns) (v18 : List UInt8) (v19 : Bool) : Option ((List ApiIns) × (List UInt8) × Bool) :=
  some (v17,v18,v19)
def file_read_api_Ins_l1 (v1 : List (List UInt8)) (v11 : List UInt8) (v12 : Bool) (v13 : List ApiIns) (v14 : Int) : Option (Sum ((List UInt8) × Bool × (List ApiIns) × Int) (Sum ((List ApiIns) × (List UInt8) × Bool) ((List ApiIns) × (List UInt8) × Bool))) :=
  cond ((decide (0 < v14)) && (!v12)) ((file_reader_ins v1 v11 v12).bind fun v15=>(appP 48 v13 [v15.1]).bind fun v16=>some (.inl (v15.2.1,v15.2.2,v16,(IntKind.i64.wrap (v14 - 1))))) (some (.inr (.inl (v13,v11,v12))))
def file_read_api_Ins (v1 : List (List UInt8)) (v2 : List UInt8) (v3 : Bool) : Option ((List ApiIns) × (List UInt8) × Bool) :=
  (file_reader_num v1 v2 v3).bind fun v4=>(loopP (fun z=>file_read_api_Ins_l1 v1 z.1 z.2.1 z.2.2.1 z.2.2.2) (v4.2.1,v4.2.2,[],v4.1)).bind fun o=>leave o (fun b=>file_read_api_Ins_k2 b.1 b.2.1 b.2.2) some
theorem file_read_api_Ins_ok (v1 : List (List UInt8)) (v2 : List UInt8) (v3 : Bool) {r : (List ApiIns) × (List UInt8) × Bool} (h : file_read_api_Ins v1 v2 v3 = some r) : SC Tryz.prog 172 [.mpt 0 0 0,.fn (.func 173) [.mpt 0 0 0] []] [.one 3 [.msl 1 0 (List.length v1),.isl 1 (List.map byteRow v2),bA v3],.many 1 (List.map rStr v1)] (.msl 2 0 (List.length r.1)) [.one 3 [.msl 1 0 (List.length v1),.isl 1 (List.map byteRow r.2.1),bA r.2.2],.many 1 (List.map rStr v1),.many 4 (List.map rApiIns r.1)]:=by
 refine ⟨⟨j5,sbOk (sz:=1) (fun _=>j0),sbOk (sz:=4) (fun _=>j0),j5⟩,scall_fn Tryz.func172 j0 (by kernel_rfl) j0 ?_⟩
 unfold file_read_api_Ins at h
 refine rg j0<|u<|asg j0<|r_nil ?_
 refine rg j0<|u<|asg j0<|r_nil ?_
 refine sw_seq ?_
 obtain ⟨v4,q1,h⟩:=bs h
 refine rg j0<|u<|mv j0<|u<|sc [0,1] (file_reader_num_ok v1 v2 v3 q1) j0 j0 j0 j0 ⟨(.mpt j0),j5⟩ ⟨⟨_,j0,⟨(.msl j0),(rnI j0),(rnI j0),j5⟩⟩,⟨j0,mkI (fun _=>j0)⟩,j5⟩<|r_can (env0:=[(0,.mpt 0 0 0),(1,.fn (.func 173) [.mpt 0 0 0] []),(5,.lit (.slice none 0 0)),(8,iA v4.1)]) (st0:=[some (3,[[.msl 1 0 (List.length v1),.isl 1 (List.map byteRow v4.2.1),bA v4.2.2]]),some (1,List.map rStr v1)]) ⟨[.old 0,.old 1],cv j0 (.mpt j0)<|cv j0 (rsFn ⟨(.mpt j0),j5⟩ j5)<|ce j0 j0<|ce j0 j0<|cn,j0,⟨⟨_,j0,rsOne ⟨.msl j0,ci j0,ci j0,j5⟩⟩,⟨_,j0,rsMap (fun _=>j0)⟩,j5⟩,j0,j1⟩<|u<|asg j0<|r_nil ?_
 obtain ⟨o,ho,h⟩:=bs h
 refine sw_lpl (X:=(List UInt8) × Bool × (List ApiIns) × Int) (B:=(List ApiIns) × (List UInt8) × Bool) (R:=(List ApiIns) × (List UInt8) × Bool) (fun z=>[(0,.mpt 0 0 0),(1,.fn (.func 173) [.mpt 0 0 0] []),(5,.msl 2 0 (List.length z.2.2.1)),(6,iA z.2.2.2)]) (fun z=>[some (3,[[.msl 1 0 (List.length v1),.isl 1 (List.map byteRow z.1),bA z.2.1]]),some (1,List.map rStr v1),some (4,List.map rApiIns z.2.2.1)]) (fun b=>[(5,.msl 2 0 (List.length b.1))]) (fun b=>[some (3,[[.msl 1 0 (List.length v1),.isl 1 (List.map byteRow b.2.1),bA b.2.2]]),some (1,List.map rStr v1),some (4,List.map rApiIns b.1)]) (fun r env st=>PostF Tryz.prog Tryz.f172 2 (.msl 2 0 (List.length r.1)) [some (3,[[.msl 1 0 (List.length v1),.isl 1 (List.map byteRow r.2.1),bA r.2.2]]),some (1,List.map rStr v1),some (4,List.map rApiIns r.1)] env st) ho ⟨[.old 0,.old 1,.fresh 4],cv j0 (.mpt j0)<|cv j0 (rsFn ⟨(.mpt j0),j5⟩ j5)<|cv j0 (.nilown j0)<|ce j0 j0<|cn,j0,⟨⟨_,j0,rsOne ⟨.msl j0,ci j0,ci j0,j5⟩⟩,⟨_,j0,rsMap (fun _=>j0)⟩,j4,j5⟩,j0,j1⟩ ?_ ?_ ?_
 ·
  rintro ⟨v11,v12,v13,v14⟩ r h
  replace h : file_read_api_Ins_l1 v1 v11 v12 v13 v14 = some r:=h
  unfold file_read_api_Ins_l1 at h
  refine sw_seq ?_
  refine rg j0<|u<|mv j0<|u<|gtr ti3 j0 j0<|u<|mv j0<|r_and (j:=2) 5 j0 j0 j0 j0 j0 gpn (fun hb6=>g j0 hb6<|mv j0<|g j0 hb6<|nc j0 j0<|g j0 hb6<|fa ti142 j0 j0 j0<|g j0 hb6<|ld ti4 j0 j0<|g j0 hb6<|nt j0<|r_nil (egA [12,13,14,15,16] 5 hb6 j0 j0 j0 j0)) andF<|r_nil ?_
  refine sw_cond j0 (fun hc7=>?_) (fun hc7=>?_)
  ·
   replace h:=bT hc7 h
   refine sw_skip ?_
   refine sw_seq ?_
   refine sw_block ?_
   obtain ⟨v15,q8,h⟩:=bs h
   obtain ⟨v16,q9,h⟩:=bs h
   refine rl j0<|u<|mv j0<|u<|mv j0<|u<|sc [0,1] (file_reader_ins_ok v1 v11 v12 q8) j0 j0 j0 j0 ⟨(.mpt j0),j5⟩ ⟨⟨_,j0,⟨(.msl j0),(rnI j0),(rnI j0),j5⟩⟩,⟨j0,mkI (fun _=>j0)⟩,j5⟩<|r_can (env0:=[(0,.mpt 0 0 0),(1,.fn (.func 173) [.mpt 0 0 0] []),(6,iA v14),(20,.msl 2 0 (List.length v13)),(22,.agg [iA v15.1.Op,iA v15.1.A,sA v15.1.C,sA v15.1.M])]) (st0:=[some (3,[[.msl 1 0 (List.length v1),.isl 1 (List.map byteRow v15.2.1),bA v15.2.2]]),some (1,List.map rStr v1),some (4,List.map rApiIns v13)]) ⟨[.old 0,.old 1,.old 2],cv j0 (.mpt j0)<|cv j0 (rsFn ⟨(.mpt j0),j5⟩ j5)<|ce j0 j0<|cv j0 (.msl j0)<|ce j0 j0<|cn,j0,⟨⟨_,j0,rsOne ⟨.msl j0,ci j0,ci j0,j5⟩⟩,⟨_,j0,rsMap (fun _=>j0)⟩,⟨_,j0,rsMap (fun _=>j0)⟩,j5⟩,j0,j1⟩<|u<|bl 3 ti34 j0 ti40 j0 (by decide) (by decide) j0 j0 j0<|u<|apM 4 ti34 j0 ti40 j0 j0 (by decide) ti34 j0 j0 j0 j0 (roX (f:=rApiIns) (z:=[v15.1]) j0 j0) (fun _=>j0) j0 q9<|u<|asg j0<|r_nil ?_
   refine rl j0<|u<|mv j0<|u<|sub ti3 j0 j0<|u<|asg j0<|r_nil ?_
   obtain rfl:=sm h
   exact ⟨_,j0,[.old 0,.old 1,.old 4],cv j0 (.mpt j0)<|cv j0 (rsFn ⟨(.mpt j0),j5⟩ j5)<|cv j0 (.msl j0)<|ce j0 j0<|cn,j0,⟨⟨_,j0,rsOne ⟨.msl j0,ci j0,ci j0,j5⟩⟩,⟨_,j0,rsMap (fun _=>j0)⟩,⟨_,j0,rsMap (fun _=>j0)⟩,j5⟩,j0,j1⟩
  ·
   replace h:=bF hc7 h
   refine sw_exit ?_
   obtain rfl:=sm h
   exact ⟨j0,_,j0,[.old 0,.old 1,.old 2],cv j0 (.msl j0)<|cn,j0,⟨⟨_,j0,rsOne ⟨.msl j0,ci j0,ci j0,j5⟩⟩,⟨_,j0,rsMap (fun _=>j0)⟩,⟨_,j0,rsMap (fun _=>j0)⟩,j5⟩,j0,j1⟩
 ·
  rintro ⟨v17,v18,v19⟩ rfl
  replace h : file_read_api_Ins_k2 v17 v18 v19 = some r:=h
  unfold file_read_api_Ins_k2 at h
  refine ow_intro ?_
  refine rg j0<|u<|mv j0<|u<|asg j0<|r_nil ?_
  refine sw_ret ?_
  obtain rfl:=sm h
  exact ⟨_,j0,[.old 0,.old 1,.old 2],.msl j0,j0,⟨⟨_,j0,rsOne ⟨.msl j0,ci j0,ci j0,j5⟩⟩,⟨_,j0,rsMap (fun _=>j0)⟩,⟨_,j0,rsMap (fun _=>j0)⟩,j5⟩,j0,j1⟩
 ·
  rintro r' rfl env st hp
  obtain rfl:=sm h
  exact hp
def file_reader_place (v1 : List (List UInt8)) (v2 : List UInt8) (v3 : Bool) : Option (ApiMap × (List UInt8) × Bool) :=
  (file_reader_num v1 v2 v3).bind fun v4=>(file_read_string_s2 v1 v4.2.1 v4.2.2).bind fun v5=>(file_read_string_s2 v1 v5.2.1 v5.2.2).bind fun v6=>some ((ApiMap.mk v4.1 v5.1 v6.1),v6.2.1,v6.2.2)
theorem file_reader_place_ok (v1 : List (List UInt8)) (v2 : List UInt8) (v3 : Bool) {r : ApiMap × (List UInt8) × Bool} (h : file_reader_place v1 v2 v3 = some r) : SC Tryz.prog 175 [.mpt 0 0 0] [.one 3 [.msl 1 0 (List.length v1),.isl 1 (List.map byteRow v2),bA v3],.many 1 (List.map rStr v1)] (.agg [iA r.1.At,.isl 1 (List.map rStr r.1.Locals),.isl 1 (List.map rStr r.1.Stack)]) [.one 3 [.msl 1 0 (List.length v1),.isl 1 (List.map byteRow r.2.1),bA r.2.2],.many 1 (List.map rStr v1)]:=by
 refine ⟨⟨j5,sbOk (sz:=1) (fun _=>j0),j5⟩,scall_fn Tryz.func175 j0 (by kernel_rfl) j0 ?_⟩
 unfold file_reader_place at h
 refine rg j0<|u<|al 2 ti80 j0<|r_nil ?_
 obtain ⟨v4,q1,h⟩:=bs h
 obtain ⟨v5,q2,h⟩:=bs h
 obtain ⟨v6,q3,h⟩:=bs h
 refine rg j0<|u<|mv j0<|u<|sc [0,1] (file_reader_num_ok v1 v2 v3 q1) j0 j0 j0 j0 ⟨(.mpt j0),j5⟩ ⟨⟨_,j0,⟨(.msl j0),(rnI j0),(rnI j0),j5⟩⟩,⟨j0,mkI (fun _=>j0)⟩,j5⟩<|r_can (env0:=[(0,.mpt 0 0 0),(2,.mpt 2 0 0),(4,iA v4.1)]) (st0:=[some (3,[[.msl 1 0 (List.length v1),.isl 1 (List.map byteRow v4.2.1),bA v4.2.2]]),some (1,List.map rStr v1),some (3,[[iA 0,.lit (.slice none 0 0),.lit (.slice none 0 0)]])]) ⟨[.old 0,.old 1,.old 2],cv j0 (.mpt j0)<|cv j0 (.mpt j0)<|ce j0 j0<|cn,j0,⟨⟨_,j0,rsOne ⟨.msl j0,ci j0,ci j0,j5⟩⟩,⟨_,j0,rsMap (fun _=>j0)⟩,⟨_,j0,rsOne ⟨ci j0,ci j0,ci j0,j5⟩⟩,j5⟩,j0,j1⟩<|u<|mv j0<|u<|mv j0<|u<|mf j0 j0<|u<|sc [0,1] (file_read_string_s2_ok v1 v4.2.1 v4.2.2 q2) j0 j0 j0 j0 ⟨(.mpt j0),(rnFn ⟨(.mpt j0),j5⟩ j5),j5⟩ ⟨⟨_,j0,⟨(.msl j0),(rnI j0),(rnI j0),j5⟩⟩,⟨j0,mkI (fun _=>j0)⟩,j5⟩<|r_can (env0:=[(0,.mpt 0 0 0),(2,.mpt 2 0 0),(4,iA v4.1),(8,.msl 3 0 (List.length v5.1))]) (st0:=[some (3,[[.msl 1 0 (List.length v1),.isl 1 (List.map byteRow v5.2.1),bA v5.2.2]]),some (1,List.map rStr v1),some (3,[[iA 0,.lit (.slice none 0 0),.lit (.slice none 0 0)]]),some (1,List.map rStr v5.1)]) ⟨[.old 0,.old 1,.old 2,.old 3],cv j0 (.mpt j0)<|cv j0 (.mpt j0)<|ce j0 j0<|cv j0 (.msl j0)<|cn,j0,⟨⟨_,j0,rsOne ⟨.msl j0,ci j0,ci j0,j5⟩⟩,⟨_,j0,rsMap (fun _=>j0)⟩,⟨_,j0,rsOne ⟨ci j0,ci j0,ci j0,j5⟩⟩,⟨_,j0,rsMap (fun _=>j0)⟩,j5⟩,j0,j1⟩<|u<|mv j0<|u<|mv j0<|u<|mf j0 j0<|u<|sc [0,1] (file_read_string_s2_ok v1 v5.2.1 v5.2.2 q3) j0 j0 j0 j0 ⟨(.mpt j0),(rnFn ⟨(.mpt j0),j5⟩ j5),j5⟩ ⟨⟨_,j0,⟨(.msl j0),(rnI j0),(rnI j0),j5⟩⟩,⟨j0,mkI (fun _=>j0)⟩,j5⟩<|r_can (env0:=[(2,.mpt 2 0 0),(4,iA v4.1),(8,.msl 3 0 (List.length v5.1)),(12,.msl 4 0 (List.length v6.1))]) (st0:=[some (3,[[.msl 1 0 (List.length v1),.isl 1 (List.map byteRow v6.2.1),bA v6.2.2]]),some (1,List.map rStr v1),some (3,[[iA 0,.lit (.slice none 0 0),.lit (.slice none 0 0)]]),some (1,List.map rStr v5.1),some (1,List.map rStr v6.1)]) ⟨[.old 0,.old 1,.old 2,.old 3,.old 4],cv j0 (.mpt j0)<|ce j0 j0<|cv j0 (.msl j0)<|cv j0 (.msl j0)<|cn,j0,⟨⟨_,j0,rsOne ⟨.msl j0,ci j0,ci j0,j5⟩⟩,⟨_,j0,rsMap (fun _=>j0)⟩,⟨_,j0,rsOne ⟨ci j0,ci j0,ci j0,j5⟩⟩,⟨_,j0,rsMap (fun _=>j0)⟩,⟨_,j0,rsMap (fun _=>j0)⟩,j5⟩,j0,j1⟩<|u<|bd ti80 j0 j0 j0<|u<|sto ti80 j0 j0 j0<|r_nil ?_
 refine sw_ret ?_
 obtain rfl:=sm h
 exact ⟨_,j0,[.old 0,.old 1],rsAgg ⟨ci j0,(rsSeal j0 j0 (fun _=>j0)),(rsSeal j0 j0 (fun _=>j0)),j5⟩,j0,⟨⟨_,j0,rsOne ⟨.msl j0,ci j0,ci j0,j5⟩⟩,⟨_,j0,rsMap (fun _=>j0)⟩,j5⟩,j0,j1⟩
def file_read_api_Map_k2 (v17 : List ApiMap) (v18 : List UInt8) (v19 : Bool) : Option ((List ApiMap) × (List UInt8) × Bool) :=
  some (v17,v18,v19)
def file_read_api_Map_l1 (v1 : List (List UInt8)) (v11 : List UInt8) (v12 : Bool) (v13 : List ApiMap) (v14 : Int) : Option (Sum ((List UInt8) × Bool × (List ApiMap) × Int) (Sum ((List ApiMap) × (List UInt8) × Bool) ((List ApiMap) × (List UInt8) × Bool))) :=
  cond ((decide (0 < v14)) && (!v12)) ((file_reader_place v1 v11 v12).bind fun v15=>(appP 56 v13 [v15.1]).bind fun v16=>some (.inl (v15.2.1,v15.2.2,v16,(IntKind.i64.wrap (v14 - 1))))) (some (.inr (.inl (v13,v11,v12))))
def file_read_api_Map (v1 : List (List UInt8)) (v2 : List UInt8) (v3 : Bool) : Option ((List ApiMap) × (List UInt8) × Bool) :=
  (file_reader_num v1 v2 v3).bind fun v4=>(loopP (fun z=>file_read_api_Map_l1 v1 z.1 z.2.1 z.2.2.1 z.2.2.2) (v4.2.1,v4.2.2,[],v4.1)).bind fun o=>leave o (fun b=>file_read_api_Map_k2 b.1 b.2.1 b.2.2) some
theorem file_read_api_Map_ok (v1 : List (List UInt8)) (v2 : List UInt8) (v3 : Bool) {r : (List ApiMap) × (List UInt8) × Bool} (h : file_read_api_Map v1 v2 v3 = some r) : SC Tryz.prog 174 [.mpt 0 0 0,.fn (.func 175) [.mpt 0 0 0] []] [.one 3 [.msl 1 0 (List.length v1),.isl 1 (List.map byteRow v2),bA v3],.many 1 (List.map rStr v1)] (.msl 2 0 (List.length r.1)) [.one 3 [.msl 1 0 (List.length v1),.isl 1 (List.map byteRow r.2.1),bA r.2.2],.many 1 (List.map rStr v1),.many 3 (List.map rApiMap r.1)]:=by
 refine ⟨⟨j5,sbOk (sz:=1) (fun _=>j0),sbOk (sz:=3) (fun _=>j0),j5⟩,scall_fn Tryz.func174 j0 (by kernel_rfl) j0 ?_⟩
 unfold file_read_api_Map at h
 refine rg j0<|u<|asg j0<|r_nil ?_
 refine rg j0<|u<|asg j0<|r_nil ?_
 refine sw_seq ?_
 obtain ⟨v4,q1,h⟩:=bs h
 refine rg j0<|u<|mv j0<|u<|sc [0,1] (file_reader_num_ok v1 v2 v3 q1) j0 j0 j0 j0 ⟨(.mpt j0),j5⟩ ⟨⟨_,j0,⟨(.msl j0),(rnI j0),(rnI j0),j5⟩⟩,⟨j0,mkI (fun _=>j0)⟩,j5⟩<|r_can (env0:=[(0,.mpt 0 0 0),(1,.fn (.func 175) [.mpt 0 0 0] []),(5,.lit (.slice none 0 0)),(8,iA v4.1)]) (st0:=[some (3,[[.msl 1 0 (List.length v1),.isl 1 (List.map byteRow v4.2.1),bA v4.2.2]]),some (1,List.map rStr v1)]) ⟨[.old 0,.old 1],cv j0 (.mpt j0)<|cv j0 (rsFn ⟨(.mpt j0),j5⟩ j5)<|ce j0 j0<|ce j0 j0<|cn,j0,⟨⟨_,j0,rsOne ⟨.msl j0,ci j0,ci j0,j5⟩⟩,⟨_,j0,rsMap (fun _=>j0)⟩,j5⟩,j0,j1⟩<|u<|asg j0<|r_nil ?_
 obtain ⟨o,ho,h⟩:=bs h
 refine sw_lpl (X:=(List UInt8) × Bool × (List ApiMap) × Int) (B:=(List ApiMap) × (List UInt8) × Bool) (R:=(List ApiMap) × (List UInt8) × Bool) (fun z=>[(0,.mpt 0 0 0),(1,.fn (.func 175) [.mpt 0 0 0] []),(5,.msl 2 0 (List.length z.2.2.1)),(6,iA z.2.2.2)]) (fun z=>[some (3,[[.msl 1 0 (List.length v1),.isl 1 (List.map byteRow z.1),bA z.2.1]]),some (1,List.map rStr v1),some (3,List.map rApiMap z.2.2.1)]) (fun b=>[(5,.msl 2 0 (List.length b.1))]) (fun b=>[some (3,[[.msl 1 0 (List.length v1),.isl 1 (List.map byteRow b.2.1),bA b.2.2]]),some (1,List.map rStr v1),some (3,List.map rApiMap b.1)]) (fun r env st=>PostF Tryz.prog Tryz.f174 2 (.msl 2 0 (List.length r.1)) [some (3,[[.msl 1 0 (List.length v1),.isl 1 (List.map byteRow r.2.1),bA r.2.2]]),some (1,List.map rStr v1),some (3,List.map rApiMap r.1)] env st) ho ⟨[.old 0,.old 1,.fresh 3],cv j0 (.mpt j0)<|cv j0 (rsFn ⟨(.mpt j0),j5⟩ j5)<|cv j0 (.nilown j0)<|ce j0 j0<|cn,j0,⟨⟨_,j0,rsOne ⟨.msl j0,ci j0,ci j0,j5⟩⟩,⟨_,j0,rsMap (fun _=>j0)⟩,j4,j5⟩,j0,j1⟩ ?_ ?_ ?_
 ·
  rintro ⟨v11,v12,v13,v14⟩ r h
  replace h : file_read_api_Map_l1 v1 v11 v12 v13 v14 = some r:=h
  unfold file_read_api_Map_l1 at h
  refine sw_seq ?_
  refine rg j0<|u<|mv j0<|u<|gtr ti3 j0 j0<|u<|mv j0<|r_and (j:=2) 5 j0 j0 j0 j0 j0 gpn (fun hb6=>g j0 hb6<|mv j0<|g j0 hb6<|nc j0 j0<|g j0 hb6<|fa ti142 j0 j0 j0<|g j0 hb6<|ld ti4 j0 j0<|g j0 hb6<|nt j0<|r_nil (egA [12,13,14,15,16] 5 hb6 j0 j0 j0 j0)) andF<|r_nil ?_
  refine sw_cond j0 (fun hc7=>?_) (fun hc7=>?_)
  ·
   replace h:=bT hc7 h
   refine sw_skip ?_
   refine sw_seq ?_
   refine sw_block ?_
   obtain ⟨v15,q8,h⟩:=bs h
   obtain ⟨v16,q9,h⟩:=bs h
   refine rl j0<|u<|mv j0<|u<|mv j0<|u<|sc [0,1] (file_reader_place_ok v1 v11 v12 q8) j0 j0 j0 j0 ⟨(.mpt j0),j5⟩ ⟨⟨_,j0,⟨(.msl j0),(rnI j0),(rnI j0),j5⟩⟩,⟨j0,mkI (fun _=>j0)⟩,j5⟩<|r_can (env0:=[(0,.mpt 0 0 0),(1,.fn (.func 175) [.mpt 0 0 0] []),(6,iA v14),(20,.msl 2 0 (List.length v13)),(22,.agg [iA v15.1.At,.isl 1 (List.map rStr v15.1.Locals),.isl 1 (List.map rStr v15.1.Stack)])]) (st0:=[some (3,[[.msl 1 0 (List.length v1),.isl 1 (List.map byteRow v15.2.1),bA v15.2.2]]),some (1,List.map rStr v1),some (3,List.map rApiMap v13)]) ⟨[.old 0,.old 1,.old 2],cv j0 (.mpt j0)<|cv j0 (rsFn ⟨(.mpt j0),j5⟩ j5)<|ce j0 j0<|cv j0 (.msl j0)<|ce j0 j0<|cn,j0,⟨⟨_,j0,rsOne ⟨.msl j0,ci j0,ci j0,j5⟩⟩,⟨_,j0,rsMap (fun _=>j0)⟩,⟨_,j0,rsMap (fun _=>j0)⟩,j5⟩,j0,j1⟩<|u<|bl 3 ti35 j0 ti80 j0 (by decide) (by decide) j0 j0 j0<|u<|apM 4 ti35 j0 ti80 j0 j0 (by decide) ti35 j0 j0 j0 j0 (roX (f:=rApiMap) (z:=[v15.1]) j0 j0) (fun _=>j0) j0 q9<|u<|asg j0<|r_nil ?_
   refine rl j0<|u<|mv j0<|u<|sub ti3 j0 j0<|u<|asg j0<|r_nil ?_
   obtain rfl:=sm h
   exact ⟨_,j0,[.old 0,.old 1,.old 4],cv j0 (.mpt j0)<|cv j0 (rsFn ⟨(.mpt j0),j5⟩ j5)<|cv j0 (.msl j0)<|ce j0 j0<|cn,j0,⟨⟨_,j0,rsOne ⟨.msl j0,ci j0,ci j0,j5⟩⟩,⟨_,j0,rsMap (fun _=>j0)⟩,⟨_,j0,rsMap (fun _=>j0)⟩,j5⟩,j0,j1⟩
  ·
   replace h:=bF hc7 h
   refine sw_exit ?_
   obtain rfl:=sm h
   exact ⟨j0,_,j0,[.old 0,.old 1,.old 2],cv j0 (.msl j0)<|cn,j0,⟨⟨_,j0,rsOne ⟨.msl j0,ci j0,ci j0,j5⟩⟩,⟨_,j0,rsMap (fun _=>j0)⟩,⟨_,j0,rsMap (fun _=>j0)⟩,j5⟩,j0,j1⟩
 ·
  rintro ⟨v17,v18,v19⟩ rfl
  replace h : file_read_api_Map_k2 v17 v18 v19 = some r:=h
  unfold file_read_api_Map_k2 at h
  refine ow_intro ?_
  refine rg j0<|u<|mv j0<|u<|asg j0<|r_nil ?_
  refine sw_ret ?_
  obtain rfl:=sm h
  exact ⟨_,j0,[.old 0,.old 1,.old 2],.msl j0,j0,⟨⟨_,j0,rsOne ⟨.msl j0,ci j0,ci j0,j5⟩⟩,⟨_,j0,rsMap (fun _=>j0)⟩,⟨_,j0,rsMap (fun _=>j0)⟩,j5⟩,j0,j1⟩
 ·
  rintro r' rfl env st hp
  obtain rfl:=sm h
  exact hp
def file_reader_trap (v1 : List (List UInt8)) (v2 : List UInt8) (v3 : Bool) : Option (ApiTrap × (List UInt8) × Bool) :=
  (file_reader_num v1 v2 v3).bind fun v4=>(file_reader_num v1 v4.2.1 v4.2.2).bind fun v5=>(file_reader_num v1 v5.2.1 v5.2.2).bind fun v6=>(file_reader_text v1 v6.2.1 v6.2.2).bind fun v7=>some ((ApiTrap.mk v4.1 v5.1 v6.1 v7.1),v7.2.1,v7.2.2)
theorem file_reader_trap_ok (v1 : List (List UInt8)) (v2 : List UInt8) (v3 : Bool) {r : ApiTrap × (List UInt8) × Bool} (h : file_reader_trap v1 v2 v3 = some r) : SC Tryz.prog 177 [.mpt 0 0 0] [.one 3 [.msl 1 0 (List.length v1),.isl 1 (List.map byteRow v2),bA v3],.many 1 (List.map rStr v1)] (.agg [iA r.1.From,iA r.1.To,iA r.1.At,sA r.1.C]) [.one 3 [.msl 1 0 (List.length v1),.isl 1 (List.map byteRow r.2.1),bA r.2.2],.many 1 (List.map rStr v1)]:=by
 refine ⟨⟨j5,sbOk (sz:=1) (fun _=>j0),j5⟩,scall_fn Tryz.func177 j0 (by kernel_rfl) j0 ?_⟩
 unfold file_reader_trap at h
 refine rg j0<|u<|al 2 ti88 j0<|r_nil ?_
 obtain ⟨v4,q1,h⟩:=bs h
 obtain ⟨v5,q2,h⟩:=bs h
 obtain ⟨v6,q3,h⟩:=bs h
 obtain ⟨v7,q4,h⟩:=bs h
 refine rg j0<|u<|mv j0<|u<|sc [0,1] (file_reader_num_ok v1 v2 v3 q1) j0 j0 j0 j0 ⟨(.mpt j0),j5⟩ ⟨⟨_,j0,⟨(.msl j0),(rnI j0),(rnI j0),j5⟩⟩,⟨j0,mkI (fun _=>j0)⟩,j5⟩<|r_can (env0:=[(0,.mpt 0 0 0),(2,.mpt 2 0 0),(4,iA v4.1)]) (st0:=[some (3,[[.msl 1 0 (List.length v1),.isl 1 (List.map byteRow v4.2.1),bA v4.2.2]]),some (1,List.map rStr v1),some (4,[[iA 0,iA 0,iA 0,sA []]])]) ⟨[.old 0,.old 1,.old 2],cv j0 (.mpt j0)<|cv j0 (.mpt j0)<|ce j0 j0<|cn,j0,⟨⟨_,j0,rsOne ⟨.msl j0,ci j0,ci j0,j5⟩⟩,⟨_,j0,rsMap (fun _=>j0)⟩,⟨_,j0,rsOne ⟨ci j0,ci j0,ci j0,ci j0,j5⟩⟩,j5⟩,j0,j1⟩<|u<|mv j0<|u<|sc [0,1] (file_reader_num_ok v1 v4.2.1 v4.2.2 q2) j0 j0 j0 j0 ⟨(.mpt j0),j5⟩ ⟨⟨_,j0,⟨(.msl j0),(rnI j0),(rnI j0),j5⟩⟩,⟨j0,mkI (fun _=>j0)⟩,j5⟩<|r_can (env0:=[(0,.mpt 0 0 0),(2,.mpt 2 0 0),(4,iA v4.1),(6,iA v5.1)]) (st0:=[some (3,[[.msl 1 0 (List.length v1),.isl 1 (List.map byteRow v5.2.1),bA v5.2.2]]),some (1,List.map rStr v1),some (4,[[iA 0,iA 0,iA 0,sA []]])]) ⟨[.old 0,.old 1,.old 2],cv j0 (.mpt j0)<|cv j0 (.mpt j0)<|ce j0 j0<|ce j0 j0<|cn,j0,⟨⟨_,j0,rsOne ⟨.msl j0,ci j0,ci j0,j5⟩⟩,⟨_,j0,rsMap (fun _=>j0)⟩,⟨_,j0,rsOne ⟨ci j0,ci j0,ci j0,ci j0,j5⟩⟩,j5⟩,j0,j1⟩<|u<|mv j0<|u<|sc [0,1] (file_reader_num_ok v1 v5.2.1 v5.2.2 q3) j0 j0 j0 j0 ⟨(.mpt j0),j5⟩ ⟨⟨_,j0,⟨(.msl j0),(rnI j0),(rnI j0),j5⟩⟩,⟨j0,mkI (fun _=>j0)⟩,j5⟩<|r_can (env0:=[(0,.mpt 0 0 0),(2,.mpt 2 0 0),(4,iA v4.1),(6,iA v5.1),(8,iA v6.1)]) (st0:=[some (3,[[.msl 1 0 (List.length v1),.isl 1 (List.map byteRow v6.2.1),bA v6.2.2]]),some (1,List.map rStr v1),some (4,[[iA 0,iA 0,iA 0,sA []]])]) ⟨[.old 0,.old 1,.old 2],cv j0 (.mpt j0)<|cv j0 (.mpt j0)<|ce j0 j0<|ce j0 j0<|ce j0 j0<|cn,j0,⟨⟨_,j0,rsOne ⟨.msl j0,ci j0,ci j0,j5⟩⟩,⟨_,j0,rsMap (fun _=>j0)⟩,⟨_,j0,rsOne ⟨ci j0,ci j0,ci j0,ci j0,j5⟩⟩,j5⟩,j0,j1⟩<|u<|mv j0<|u<|sc [0,1] (file_reader_text_ok v1 v6.2.1 v6.2.2 q4) j0 j0 j0 j0 ⟨(.mpt j0),j5⟩ ⟨⟨_,j0,⟨(.msl j0),(rnI j0),(rnI j0),j5⟩⟩,⟨j0,mkI (fun _=>j0)⟩,j5⟩<|r_can (env0:=[(2,.mpt 2 0 0),(4,iA v4.1),(6,iA v5.1),(8,iA v6.1),(10,sA v7.1)]) (st0:=[some (3,[[.msl 1 0 (List.length v1),.isl 1 (List.map byteRow v7.2.1),bA v7.2.2]]),some (1,List.map rStr v1),some (4,[[iA 0,iA 0,iA 0,sA []]])]) ⟨[.old 0,.old 1,.old 2],cv j0 (.mpt j0)<|ce j0 j0<|ce j0 j0<|ce j0 j0<|ce j0 j0<|cn,j0,⟨⟨_,j0,rsOne ⟨.msl j0,ci j0,ci j0,j5⟩⟩,⟨_,j0,rsMap (fun _=>j0)⟩,⟨_,j0,rsOne ⟨ci j0,ci j0,ci j0,ci j0,j5⟩⟩,j5⟩,j0,j1⟩<|u<|bd ti88 j0 j0 j0<|u<|sto ti88 j0 j0 j0<|r_nil ?_
 refine sw_ret ?_
 obtain rfl:=sm h
 exact ⟨_,j0,[.old 0,.old 1],ci j0,j0,⟨⟨_,j0,rsOne ⟨.msl j0,ci j0,ci j0,j5⟩⟩,⟨_,j0,rsMap (fun _=>j0)⟩,j5⟩,j0,j1⟩
def file_read_api_Trap_k2 (v17 : List ApiTrap) (v18 : List UInt8) (v19 : Bool) : Option ((List ApiTrap) × (List UInt8) × Bool) :=
  some (v17,v18,v19)
def file_read_api_Trap_l1 (v1 : List (List UInt8)) (v11 : List UInt8) (v12 : Bool) (v13 : List ApiTrap) (v14 : Int) : Option (Sum ((List UInt8) × Bool × (List ApiTrap) × Int) (Sum ((List ApiTrap) × (List UInt8) × Bool) ((List ApiTrap) × (List UInt8) × Bool))) :=
  cond ((decide (0 < v14)) && (!v12)) ((file_reader_trap v1 v11 v12).bind fun v15=>(appP 40 v13 [v15.1]).bind fun v16=>some (.inl (v15.2.1,v15.2.2,v16,(IntKind.i64.wrap (v14 - 1))))) (some (.inr (.inl (v13,v11,v12))))
def file_read_api_Trap (v1 : List (List UInt8)) (v2 : List UInt8) (v3 : Bool) : Option ((List ApiTrap) × (List UInt8) × Bool) :=
  (file_reader_num v1 v2 v3).bind fun v4=>(loopP (fun z=>file_read_api_Trap_l1 v1 z.1 z.2.1 z.2.2.1 z.2.2.2) (v4.2.1,v4.2.2,[],v4.1)).bind fun o=>leave o (fun b=>file_read_api_Trap_k2 b.1 b.2.1 b.2.2) some
theorem file_read_api_Trap_ok (v1 : List (List UInt8)) (v2 : List UInt8) (v3 : Bool) {r : (List ApiTrap) × (List UInt8) × Bool} (h : file_read_api_Trap v1 v2 v3 = some r) : SC Tryz.prog 176 [.mpt 0 0 0,.fn (.func 177) [.mpt 0 0 0] []] [.one 3 [.msl 1 0 (List.length v1),.isl 1 (List.map byteRow v2),bA v3],.many 1 (List.map rStr v1)] (.msl 2 0 (List.length r.1)) [.one 3 [.msl 1 0 (List.length v1),.isl 1 (List.map byteRow r.2.1),bA r.2.2],.many 1 (List.map rStr v1),.many 4 (List.map rApiTrap r.1)]:=by
 refine ⟨⟨j5,sbOk (sz:=1) (fun _=>j0),sbOk (sz:=4) (fun _=>j0),j5⟩,scall_fn Tryz.func176 j0 (by kernel_rfl) j0 ?_⟩
 unfold file_read_api_Trap at h
 refine rg j0<|u<|asg j0<|r_nil ?_
 refine rg j0<|u<|asg j0<|r_nil ?_
 refine sw_seq ?_
 obtain ⟨v4,q1,h⟩:=bs h
 refine rg j0<|u<|mv j0<|u<|sc [0,1] (file_reader_num_ok v1 v2 v3 q1) j0 j0 j0 j0 ⟨(.mpt j0),j5⟩ ⟨⟨_,j0,⟨(.msl j0),(rnI j0),(rnI j0),j5⟩⟩,⟨j0,mkI (fun _=>j0)⟩,j5⟩<|r_can (env0:=[(0,.mpt 0 0 0),(1,.fn (.func 177) [.mpt 0 0 0] []),(5,.lit (.slice none 0 0)),(8,iA v4.1)]) (st0:=[some (3,[[.msl 1 0 (List.length v1),.isl 1 (List.map byteRow v4.2.1),bA v4.2.2]]),some (1,List.map rStr v1)]) ⟨[.old 0,.old 1],cv j0 (.mpt j0)<|cv j0 (rsFn ⟨(.mpt j0),j5⟩ j5)<|ce j0 j0<|ce j0 j0<|cn,j0,⟨⟨_,j0,rsOne ⟨.msl j0,ci j0,ci j0,j5⟩⟩,⟨_,j0,rsMap (fun _=>j0)⟩,j5⟩,j0,j1⟩<|u<|asg j0<|r_nil ?_
 obtain ⟨o,ho,h⟩:=bs h
 refine sw_lpl (X:=(List UInt8) × Bool × (List ApiTrap) × Int) (B:=(List ApiTrap) × (List UInt8) × Bool) (R:=(List ApiTrap) × (List UInt8) × Bool) (fun z=>[(0,.mpt 0 0 0),(1,.fn (.func 177) [.mpt 0 0 0] []),(5,.msl 2 0 (List.length z.2.2.1)),(6,iA z.2.2.2)]) (fun z=>[some (3,[[.msl 1 0 (List.length v1),.isl 1 (List.map byteRow z.1),bA z.2.1]]),some (1,List.map rStr v1),some (4,List.map rApiTrap z.2.2.1)]) (fun b=>[(5,.msl 2 0 (List.length b.1))]) (fun b=>[some (3,[[.msl 1 0 (List.length v1),.isl 1 (List.map byteRow b.2.1),bA b.2.2]]),some (1,List.map rStr v1),some (4,List.map rApiTrap b.1)]) (fun r env st=>PostF Tryz.prog Tryz.f176 2 (.msl 2 0 (List.length r.1)) [some (3,[[.msl 1 0 (List.length v1),.isl 1 (List.map byteRow r.2.1),bA r.2.2]]),some (1,List.map rStr v1),some (4,List.map rApiTrap r.1)] env st) ho ⟨[.old 0,.old 1,.fresh 4],cv j0 (.mpt j0)<|cv j0 (rsFn ⟨(.mpt j0),j5⟩ j5)<|cv j0 (.nilown j0)<|ce j0 j0<|cn,j0,⟨⟨_,j0,rsOne ⟨.msl j0,ci j0,ci j0,j5⟩⟩,⟨_,j0,rsMap (fun _=>j0)⟩,j4,j5⟩,j0,j1⟩ ?_ ?_ ?_
 ·
  rintro ⟨v11,v12,v13,v14⟩ r h
  replace h : file_read_api_Trap_l1 v1 v11 v12 v13 v14 = some r:=h
  unfold file_read_api_Trap_l1 at h
  refine sw_seq ?_
  refine rg j0<|u<|mv j0<|u<|gtr ti3 j0 j0<|u<|mv j0<|r_and (j:=2) 5 j0 j0 j0 j0 j0 gpn (fun hb6=>g j0 hb6<|mv j0<|g j0 hb6<|nc j0 j0<|g j0 hb6<|fa ti142 j0 j0 j0<|g j0 hb6<|ld ti4 j0 j0<|g j0 hb6<|nt j0<|r_nil (egA [12,13,14,15,16] 5 hb6 j0 j0 j0 j0)) andF<|r_nil ?_
  refine sw_cond j0 (fun hc7=>?_) (fun hc7=>?_)
  ·
   replace h:=bT hc7 h
   refine sw_skip ?_
   refine sw_seq ?_
   refine sw_block ?_
   obtain ⟨v15,q8,h⟩:=bs h
   obtain ⟨v16,q9,h⟩:=bs h
   refine rl j0<|u<|mv j0<|u<|mv j0<|u<|sc [0,1] (file_reader_trap_ok v1 v11 v12 q8) j0 j0 j0 j0 ⟨(.mpt j0),j5⟩ ⟨⟨_,j0,⟨(.msl j0),(rnI j0),(rnI j0),j5⟩⟩,⟨j0,mkI (fun _=>j0)⟩,j5⟩<|r_can (env0:=[(0,.mpt 0 0 0),(1,.fn (.func 177) [.mpt 0 0 0] []),(6,iA v14),(20,.msl 2 0 (List.length v13)),(22,.agg [iA v15.1.From,iA v15.1.To,iA v15.1.At,sA v15.1.C])]) (st0:=[some (3,[[.msl 1 0 (List.length v1),.isl 1 (List.map byteRow v15.2.1),bA v15.2.2]]),some (1,List.map rStr v1),some (4,List.map rApiTrap v13)]) ⟨[.old 0,.old 1,.old 2],cv j0 (.mpt j0)<|cv j0 (rsFn ⟨(.mpt j0),j5⟩ j5)<|ce j0 j0<|cv j0 (.msl j0)<|ce j0 j0<|cn,j0,⟨⟨_,j0,rsOne ⟨.msl j0,ci j0,ci j0,j5⟩⟩,⟨_,j0,rsMap (fun _=>j0)⟩,⟨_,j0,rsMap (fun _=>j0)⟩,j5⟩,j0,j1⟩<|u<|bl 3 ti36 j0 ti88 j0 (by decide) (by decide) j0 j0 j0<|u<|apM 4 ti36 j0 ti88 j0 j0 (by decide) ti36 j0 j0 j0 j0 (roX (f:=rApiTrap) (z:=[v15.1]) j0 j0) (fun _=>j0) j0 q9<|u<|asg j0<|r_nil ?_
   refine rl j0<|u<|mv j0<|u<|sub ti3 j0 j0<|u<|asg j0<|r_nil ?_
   obtain rfl:=sm h
   exact ⟨_,j0,[.old 0,.old 1,.old 4],cv j0 (.mpt j0)<|cv j0 (rsFn ⟨(.mpt j0),j5⟩ j5)<|cv j0 (.msl j0)<|ce j0 j0<|cn,j0,⟨⟨_,j0,rsOne ⟨.msl j0,ci j0,ci j0,j5⟩⟩,⟨_,j0,rsMap (fun _=>j0)⟩,⟨_,j0,rsMap (fun _=>j0)⟩,j5⟩,j0,j1⟩
  ·
   replace h:=bF hc7 h
   refine sw_exit ?_
   obtain rfl:=sm h
   exact ⟨j0,_,j0,[.old 0,.old 1,.old 2],cv j0 (.msl j0)<|cn,j0,⟨⟨_,j0,rsOne ⟨.msl j0,ci j0,ci j0,j5⟩⟩,⟨_,j0,rsMap (fun _=>j0)⟩,⟨_,j0,rsMap (fun _=>j0)⟩,j5⟩,j0,j1⟩
 ·
  rintro ⟨v17,v18,v19⟩ rfl
  replace h : file_read_api_Trap_k2 v17 v18 v19 = some r:=h
  unfold file_read_api_Trap_k2 at h
  refine ow_intro ?_
  refine rg j0<|u<|mv j0<|u<|asg j0<|r_nil ?_
  refine sw_ret ?_
  obtain rfl:=sm h
  exact ⟨_,j0,[.old 0,.old 1,.old 2],.msl j0,j0,⟨⟨_,j0,rsOne ⟨.msl j0,ci j0,ci j0,j5⟩⟩,⟨_,j0,rsMap (fun _=>j0)⟩,⟨_,j0,rsMap (fun _=>j0)⟩,j5⟩,j0,j1⟩
 ·
  rintro r' rfl env st hp
  obtain rfl:=sm h
  exact hp
def file_reader_method (v1 : List (List UInt8)) (v2 : List UInt8) (v3 : Bool) : Option (ApiMethod × (List UInt8) × Bool) :=
  (file_reader_text v1 v2 v3).bind fun v4=>(file_read_string_s2 v1 v4.2.1 v4.2.2).bind fun v5=>(file_reader_text v1 v5.2.1 v5.2.2).bind fun v6=>(file_reader_truth v1 v6.2.1 v6.2.2).bind fun v7=>(file_reader_truth v1 v7.2.1 v7.2.2).bind fun v8=>(file_reader_num v1 v8.2.1 v8.2.2).bind fun v9=>(file_reader_num v1 v9.2.1 v9.2.2).bind fun v10=>(file_read_api_Ins v1 v10.2.1 v10.2.2).bind fun v11=>(file_read_api_Map v1 v11.2.1 v11.2.2).bind fun v12=>(file_read_api_Trap v1 v12.2.1 v12.2.2).bind fun v13=>some ((ApiMethod.mk v4.1 v5.1 v6.1 v7.1 v8.1 v9.1 v10.1 v11.1 v12.1 v13.1),v13.2.1,v13.2.2)
theorem file_reader_method_ok (v1 : List (List UInt8)) (v2 : List UInt8) (v3 : Bool) {r : ApiMethod × (List UInt8) × Bool} (h : file_reader_method v1 v2 v3 = some r) : SC Tryz.prog 90 [.mpt 0 0 0] [.one 3 [.msl 1 0 (List.length v1),.isl 1 (List.map byteRow v2),bA v3],.many 1 (List.map rStr v1)] (.agg [sA r.1.Name,.isl 1 (List.map rStr r.1.Params),sA r.1.Ret,bA r.1.Static,bA r.1.Abstract,iA r.1.Locals,iA r.1.Stack,.isl 4 (List.map rApiIns r.1.Code),.isl 3 (List.map rApiMap r.1.Maps),.isl 4 (List.map rApiTrap r.1.Traps)]) [.one 3 [.msl 1 0 (List.length v1),.isl 1 (List.map byteRow r.2.1),bA r.2.2],.many 1 (List.map rStr v1)]:=by
 refine ⟨⟨j5,sbOk (sz:=1) (fun _=>j0),j5⟩,scall_fn Tryz.func90 j0 (by kernel_rfl) j0 ?_⟩
 unfold file_reader_method at h
 refine rg j0<|u<|al 2 ti38 j0<|r_nil ?_
 obtain ⟨v4,q1,h⟩:=bs h
 obtain ⟨v5,q2,h⟩:=bs h
 obtain ⟨v6,q3,h⟩:=bs h
 obtain ⟨v7,q4,h⟩:=bs h
 obtain ⟨v8,q5,h⟩:=bs h
 refine rg j0<|u<|mv j0<|u<|sc [0,1] (file_reader_text_ok v1 v2 v3 q1) j0 j0 j0 j0 ⟨(.mpt j0),j5⟩ ⟨⟨_,j0,⟨(.msl j0),(rnI j0),(rnI j0),j5⟩⟩,⟨j0,mkI (fun _=>j0)⟩,j5⟩<|r_can (env0:=[(0,.mpt 0 0 0),(2,.mpt 2 0 0),(5,sA v4.1)]) (st0:=[some (3,[[.msl 1 0 (List.length v1),.isl 1 (List.map byteRow v4.2.1),bA v4.2.2]]),some (1,List.map rStr v1),some (10,[[sA [],.lit (.slice none 0 0),sA [],bA false,bA false,iA 0,iA 0,.lit (.slice none 0 0),.lit (.slice none 0 0),.lit (.slice none 0 0)]])]) ⟨[.old 0,.old 1,.old 2],cv j0 (.mpt j0)<|cv j0 (.mpt j0)<|ce j0 j0<|cn,j0,⟨⟨_,j0,rsOne ⟨.msl j0,ci j0,ci j0,j5⟩⟩,⟨_,j0,rsMap (fun _=>j0)⟩,⟨_,j0,rsOne ⟨ci j0,ci j0,ci j0,ci j0,ci j0,ci j0,ci j0,ci j0,ci j0,ci j0,j5⟩⟩,j5⟩,j0,j1⟩<|u<|mv j0<|u<|mv j0<|u<|mf j0 j0<|u<|sc [0,1] (file_read_string_s2_ok v1 v4.2.1 v4.2.2 q2) j0 j0 j0 j0 ⟨(.mpt j0),(rnFn ⟨(.mpt j0),j5⟩ j5),j5⟩ ⟨⟨_,j0,⟨(.msl j0),(rnI j0),(rnI j0),j5⟩⟩,⟨j0,mkI (fun _=>j0)⟩,j5⟩<|r_can (env0:=[(0,.mpt 0 0 0),(2,.mpt 2 0 0),(5,sA v4.1),(9,.msl 3 0 (List.length v5.1))]) (st0:=[some (3,[[.msl 1 0 (List.length v1),.isl 1 (List.map byteRow v5.2.1),bA v5.2.2]]),some (1,List.map rStr v1),some (10,[[sA [],.lit (.slice none 0 0),sA [],bA false,bA false,iA 0,iA 0,.lit (.slice none 0 0),.lit (.slice none 0 0),.lit (.slice none 0 0)]]),some (1,List.map rStr v5.1)]) ⟨[.old 0,.old 1,.old 2,.old 3],cv j0 (.mpt j0)<|cv j0 (.mpt j0)<|ce j0 j0<|cv j0 (.msl j0)<|cn,j0,⟨⟨_,j0,rsOne ⟨.msl j0,ci j0,ci j0,j5⟩⟩,⟨_,j0,rsMap (fun _=>j0)⟩,⟨_,j0,rsOne ⟨ci j0,ci j0,ci j0,ci j0,ci j0,ci j0,ci j0,ci j0,ci j0,ci j0,j5⟩⟩,⟨_,j0,rsMap (fun _=>j0)⟩,j5⟩,j0,j1⟩<|u<|mv j0<|u<|sc [0,1] (file_reader_text_ok v1 v5.2.1 v5.2.2 q3) j0 j0 j0 j0 ⟨(.mpt j0),j5⟩ ⟨⟨_,j0,⟨(.msl j0),(rnI j0),(rnI j0),j5⟩⟩,⟨j0,mkI (fun _=>j0)⟩,j5⟩<|r_can (env0:=[(0,.mpt 0 0 0),(2,.mpt 2 0 0),(5,sA v4.1),(9,.msl 3 0 (List.length v5.1)),(11,sA v6.1)]) (st0:=[some (3,[[.msl 1 0 (List.length v1),.isl 1 (List.map byteRow v6.2.1),bA v6.2.2]]),some (1,List.map rStr v1),some (10,[[sA [],.lit (.slice none 0 0),sA [],bA false,bA false,iA 0,iA 0,.lit (.slice none 0 0),.lit (.slice none 0 0),.lit (.slice none 0 0)]]),some (1,List.map rStr v5.1)]) ⟨[.old 0,.old 1,.old 2,.old 3],cv j0 (.mpt j0)<|cv j0 (.mpt j0)<|ce j0 j0<|cv j0 (.msl j0)<|ce j0 j0<|cn,j0,⟨⟨_,j0,rsOne ⟨.msl j0,ci j0,ci j0,j5⟩⟩,⟨_,j0,rsMap (fun _=>j0)⟩,⟨_,j0,rsOne ⟨ci j0,ci j0,ci j0,ci j0,ci j0,ci j0,ci j0,ci j0,ci j0,ci j0,j5⟩⟩,⟨_,j0,rsMap (fun _=>j0)⟩,j5⟩,j0,j1⟩<|u<|mv j0<|u<|sc [0,1] (file_reader_truth_ok v1 v6.2.1 v6.2.2 q4) j0 j0 j0 j0 ⟨(.mpt j0),j5⟩ ⟨⟨_,j0,⟨(.msl j0),(rnI j0),(rnI j0),j5⟩⟩,⟨j0,mkI (fun _=>j0)⟩,j5⟩<|r_can (env0:=[(0,.mpt 0 0 0),(2,.mpt 2 0 0),(5,sA v4.1),(9,.msl 3 0 (List.length v5.1)),(11,sA v6.1),(13,bA v7.1)]) (st0:=[some (3,[[.msl 1 0 (List.length v1),.isl 1 (List.map byteRow v7.2.1),bA v7.2.2]]),some (1,List.map rStr v1),some (10,[[sA [],.lit (.slice none 0 0),sA [],bA false,bA false,iA 0,iA 0,.lit (.slice none 0 0),.lit (.slice none 0 0),.lit (.slice none 0 0)]]),some (1,List.map rStr v5.1)]) ⟨[.old 0,.old 1,.old 2,.old 3],cv j0 (.mpt j0)<|cv j0 (.mpt j0)<|ce j0 j0<|cv j0 (.msl j0)<|ce j0 j0<|ce j0 j0<|cn,j0,⟨⟨_,j0,rsOne ⟨.msl j0,ci j0,ci j0,j5⟩⟩,⟨_,j0,rsMap (fun _=>j0)⟩,⟨_,j0,rsOne ⟨ci j0,ci j0,ci j0,ci j0,ci j0,ci j0,ci j0,ci j0,ci j0,ci j0,j5⟩⟩,⟨_,j0,rsMap (fun _=>j0)⟩,j5⟩,j0,j1⟩<|u<|mv j0<|u<|sc [0,1] (file_reader_truth_ok v1 v7.2.1 v7.2.2 q5) j0 j0 j0 j0 ⟨(.mpt j0),j5⟩ ⟨⟨_,j0,⟨(.msl j0),(rnI j0),(rnI j0),j5⟩⟩,⟨j0,mkI (fun _=>j0)⟩,j5⟩<|r_can (env0:=[(0,.mpt 0 0 0),(2,.mpt 2 0 0),(5,sA v4.1),(9,.msl 3 0 (List.length v5.1)),(11,sA v6.1),(13,bA v7.1),(15,bA v8.1)]) (st0:=[some (3,[[.msl 1 0 (List.length v1),.isl 1 (List.map byteRow v8.2.1),bA v8.2.2]]),some (1,List.map rStr v1),some (10,[[sA [],.lit (.slice none 0 0),sA [],bA false,bA false,iA 0,iA 0,.lit (.slice none 0 0),.lit (.slice none 0 0),.lit (.slice none 0 0)]]),some (1,List.map rStr v5.1)]) ⟨[.old 0,.old 1,.old 2,.old 3],cv j0 (.mpt j0)<|cv j0 (.mpt j0)<|ce j0 j0<|cv j0 (.msl j0)<|ce j0 j0<|ce j0 j0<|ce j0 j0<|cn,j0,⟨⟨_,j0,rsOne ⟨.msl j0,ci j0,ci j0,j5⟩⟩,⟨_,j0,rsMap (fun _=>j0)⟩,⟨_,j0,rsOne ⟨ci j0,ci j0,ci j0,ci j0,ci j0,ci j0,ci j0,ci j0,ci j0,ci j0,j5⟩⟩,⟨_,j0,rsMap (fun _=>j0)⟩,j5⟩,j0,j1⟩<|u<|bd (parts:=[(0,sA v4.1),(1,.msl 3 0 (List.length v5.1)),(2,sA v6.1),(3,bA v7.1),(4,bA v8.1)]) (cs:=[sA v4.1,.msl 3 0 (List.length v5.1),sA v6.1,bA v7.1,bA v8.1,iA 0,iA 0,.lit (.slice none 0 0),.lit (.slice none 0 0),.lit (.slice none 0 0)]) ti38 j0 j0 (by kernel_rfl)<|u<|al 4 ti38 j0<|u<|sto ti38 j0 j0 j0<|r_nil ?_
 obtain ⟨v9,q6,h⟩:=bs h
 obtain ⟨v10,q7,h⟩:=bs h
 refine rg j0<|u<|mv j0<|u<|sc [0,1] (file_reader_num_ok v1 v8.2.1 v8.2.2 q6) j0 j0 j0 j0 ⟨(.mpt j0),j5⟩ ⟨⟨_,j0,⟨(.msl j0),(rnI j0),(rnI j0),j5⟩⟩,⟨j0,mkI (fun _=>j0)⟩,j5⟩<|r_can (env0:=[(0,.mpt 0 0 0),(2,.mpt 2 0 0),(3,.mpt 3 0 0),(18,iA v9.1)]) (st0:=[some (3,[[.msl 1 0 (List.length v1),.isl 1 (List.map byteRow v9.2.1),bA v9.2.2]]),some (1,List.map rStr v1),some (10,[[sA [],.lit (.slice none 0 0),sA [],bA false,bA false,iA 0,iA 0,.lit (.slice none 0 0),.lit (.slice none 0 0),.lit (.slice none 0 0)]]),some (10,[[sA v4.1,.msl 4 0 (List.length v5.1),sA v6.1,bA v7.1,bA v8.1,iA 0,iA 0,.lit (.slice none 0 0),.lit (.slice none 0 0),.lit (.slice none 0 0)]]),some (1,List.map rStr v5.1)]) ⟨[.old 0,.old 1,.old 2,.old 4,.old 3],cv j0 (.mpt j0)<|cv j0 (.mpt j0)<|cv j0 (.mpt j0)<|ce j0 j0<|cn,j0,⟨⟨_,j0,rsOne ⟨.msl j0,ci j0,ci j0,j5⟩⟩,⟨_,j0,rsMap (fun _=>j0)⟩,⟨_,j0,rsOne ⟨ci j0,ci j0,ci j0,ci j0,ci j0,ci j0,ci j0,ci j0,ci j0,ci j0,j5⟩⟩,⟨_,j0,rsOne ⟨ci j0,.msl j0,ci j0,ci j0,ci j0,ci j0,ci j0,ci j0,ci j0,ci j0,j5⟩⟩,⟨_,j0,rsMap (fun _=>j0)⟩,j5⟩,j0,j1⟩<|u<|mv j0<|u<|sc [0,1] (file_reader_num_ok v1 v9.2.1 v9.2.2 q7) j0 j0 j0 j0 ⟨(.mpt j0),j5⟩ ⟨⟨_,j0,⟨(.msl j0),(rnI j0),(rnI j0),j5⟩⟩,⟨j0,mkI (fun _=>j0)⟩,j5⟩<|r_can (env0:=[(0,.mpt 0 0 0),(2,.mpt 2 0 0),(3,.mpt 3 0 0),(18,iA v9.1),(20,iA v10.1)]) (st0:=[some (3,[[.msl 1 0 (List.length v1),.isl 1 (List.map byteRow v10.2.1),bA v10.2.2]]),some (1,List.map rStr v1),some (10,[[sA [],.lit (.slice none 0 0),sA [],bA false,bA false,iA 0,iA 0,.lit (.slice none 0 0),.lit (.slice none 0 0),.lit (.slice none 0 0)]]),some (10,[[sA v4.1,.msl 4 0 (List.length v5.1),sA v6.1,bA v7.1,bA v8.1,iA 0,iA 0,.lit (.slice none 0 0),.lit (.slice none 0 0),.lit (.slice none 0 0)]]),some (1,List.map rStr v5.1)]) ⟨[.old 0,.old 1,.old 2,.old 3,.old 4],cv j0 (.mpt j0)<|cv j0 (.mpt j0)<|cv j0 (.mpt j0)<|ce j0 j0<|ce j0 j0<|cn,j0,⟨⟨_,j0,rsOne ⟨.msl j0,ci j0,ci j0,j5⟩⟩,⟨_,j0,rsMap (fun _=>j0)⟩,⟨_,j0,rsOne ⟨ci j0,ci j0,ci j0,ci j0,ci j0,ci j0,ci j0,ci j0,ci j0,ci j0,j5⟩⟩,⟨_,j0,rsOne ⟨ci j0,.msl j0,ci j0,ci j0,ci j0,ci j0,ci j0,ci j0,ci j0,ci j0,j5⟩⟩,⟨_,j0,rsMap (fun _=>j0)⟩,j5⟩,j0,j1⟩<|u<|fa ti38 j0 j0 j0<|u<|sto ti3 j0 j0 j0<|u<|fa ti38 j0 j0 j0<|u<|sto ti3 j0 j0 j0<|r_nil ?_
 obtain ⟨v11,q8,h⟩:=bs h
 obtain ⟨v12,q9,h⟩:=bs h
 obtain ⟨v13,q10,h⟩:=bs h
 refine rg j0<|u<|mv j0<|u<|mv j0<|u<|mf j0 j0<|u<|sc [0,1] (file_read_api_Ins_ok v1 v10.2.1 v10.2.2 q8) j0 j0 j0 j0 ⟨(.mpt j0),(rnFn ⟨(.mpt j0),j5⟩ j5),j5⟩ ⟨⟨_,j0,⟨(.msl j0),(rnI j0),(rnI j0),j5⟩⟩,⟨j0,mkI (fun _=>j0)⟩,j5⟩<|r_can (env0:=[(0,.mpt 0 0 0),(2,.mpt 2 0 0),(3,.mpt 3 0 0),(26,.msl 5 0 (List.length v11.1))]) (st0:=[some (3,[[.msl 1 0 (List.length v1),.isl 1 (List.map byteRow v11.2.1),bA v11.2.2]]),some (1,List.map rStr v1),some (10,[[sA [],.lit (.slice none 0 0),sA [],bA false,bA false,iA 0,iA 0,.lit (.slice none 0 0),.lit (.slice none 0 0),.lit (.slice none 0 0)]]),some (10,[[sA v4.1,.msl 4 0 (List.length v5.1),sA v6.1,bA v7.1,bA v8.1,iA v9.1,iA v10.1,.lit (.slice none 0 0),.lit (.slice none 0 0),.lit (.slice none 0 0)]]),some (1,List.map rStr v5.1),some (4,List.map rApiIns v11.1)]) ⟨[.old 0,.old 1,.old 2,.old 3,.old 4,.old 5],cv j0 (.mpt j0)<|cv j0 (.mpt j0)<|cv j0 (.mpt j0)<|cv j0 (.msl j0)<|cn,j0,⟨⟨_,j0,rsOne ⟨.msl j0,ci j0,ci j0,j5⟩⟩,⟨_,j0,rsMap (fun _=>j0)⟩,⟨_,j0,rsOne ⟨ci j0,ci j0,ci j0,ci j0,ci j0,ci j0,ci j0,ci j0,ci j0,ci j0,j5⟩⟩,⟨_,j0,rsOne ⟨ci j0,.msl j0,ci j0,ci j0,ci j0,ci j0,ci j0,ci j0,ci j0,ci j0,j5⟩⟩,⟨_,j0,rsMap (fun _=>j0)⟩,⟨_,j0,rsMap (fun _=>j0)⟩,j5⟩,j0,j1⟩<|u<|mv j0<|u<|mv j0<|u<|mf j0 j0<|u<|sc [0,1] (file_read_api_Map_ok v1 v11.2.1 v11.2.2 q9) j0 j0 j0 j0 ⟨(.mpt j0),(rnFn ⟨(.mpt j0),j5⟩ j5),j5⟩ ⟨⟨_,j0,⟨(.msl j0),(rnI j0),(rnI j0),j5⟩⟩,⟨j0,mkI (fun _=>j0)⟩,j5⟩<|r_can (env0:=[(0,.mpt 0 0 0),(2,.mpt 2 0 0),(3,.mpt 3 0 0),(26,.msl 5 0 (List.length v11.1)),(30,.msl 6 0 (List.length v12.1))]) (st0:=[some (3,[[.msl 1 0 (List.length v1),.isl 1 (List.map byteRow v12.2.1),bA v12.2.2]]),some (1,List.map rStr v1),some (10,[[sA [],.lit (.slice none 0 0),sA [],bA false,bA false,iA 0,iA 0,.lit (.slice none 0 0),.lit (.slice none 0 0),.lit (.slice none 0 0)]]),some (10,[[sA v4.1,.msl 4 0 (List.length v5.1),sA v6.1,bA v7.1,bA v8.1,iA v9.1,iA v10.1,.lit (.slice none 0 0),.lit (.slice none 0 0),.lit (.slice none 0 0)]]),some (1,List.map rStr v5.1),some (4,List.map rApiIns v11.1),some (3,List.map rApiMap v12.1)]) ⟨[.old 0,.old 1,.old 2,.old 3,.old 4,.old 5,.old 6],cv j0 (.mpt j0)<|cv j0 (.mpt j0)<|cv j0 (.mpt j0)<|cv j0 (.msl j0)<|cv j0 (.msl j0)<|cn,j0,⟨⟨_,j0,rsOne ⟨.msl j0,ci j0,ci j0,j5⟩⟩,⟨_,j0,rsMap (fun _=>j0)⟩,⟨_,j0,rsOne ⟨ci j0,ci j0,ci j0,ci j0,ci j0,ci j0,ci j0,ci j0,ci j0,ci j0,j5⟩⟩,⟨_,j0,rsOne ⟨ci j0,.msl j0,ci j0,ci j0,ci j0,ci j0,ci j0,ci j0,ci j0,ci j0,j5⟩⟩,⟨_,j0,rsMap (fun _=>j0)⟩,⟨_,j0,rsMap (fun _=>j0)⟩,⟨_,j0,rsMap (fun _=>j0)⟩,j5⟩,j0,j1⟩<|u<|mv j0<|u<|mv j0<|u<|mf j0 j0<|u<|sc [0,1] (file_read_api_Trap_ok v1 v12.2.1 v12.2.2 q10) j0 j0 j0 j0 ⟨(.mpt j0),(rnFn ⟨(.mpt j0),j5⟩ j5),j5⟩ ⟨⟨_,j0,⟨(.msl j0),(rnI j0),(rnI j0),j5⟩⟩,⟨j0,mkI (fun _=>j0)⟩,j5⟩<|r_can (env0:=[(2,.mpt 2 0 0),(3,.mpt 3 0 0),(26,.msl 5 0 (List.length v11.1)),(30,.msl 6 0 (List.length v12.1)),(34,.msl 7 0 (List.length v13.1))]) (st0:=[some (3,[[.msl 1 0 (List.length v1),.isl 1 (List.map byteRow v13.2.1),bA v13.2.2]]),some (1,List.map rStr v1),some (10,[[sA [],.lit (.slice none 0 0),sA [],bA false,bA false,iA 0,iA 0,.lit (.slice none 0 0),.lit (.slice none 0 0),.lit (.slice none 0 0)]]),some (10,[[sA v4.1,.msl 4 0 (List.length v5.1),sA v6.1,bA v7.1,bA v8.1,iA v9.1,iA v10.1,.lit (.slice none 0 0),.lit (.slice none 0 0),.lit (.slice none 0 0)]]),some (1,List.map rStr v5.1),some (4,List.map rApiIns v11.1),some (3,List.map rApiMap v12.1),some (4,List.map rApiTrap v13.1)]) ⟨[.old 0,.old 1,.old 2,.old 3,.old 4,.old 5,.old 6,.old 7],cv j0 (.mpt j0)<|cv j0 (.mpt j0)<|cv j0 (.msl j0)<|cv j0 (.msl j0)<|cv j0 (.msl j0)<|cn,j0,⟨⟨_,j0,rsOne ⟨.msl j0,ci j0,ci j0,j5⟩⟩,⟨_,j0,rsMap (fun _=>j0)⟩,⟨_,j0,rsOne ⟨ci j0,ci j0,ci j0,ci j0,ci j0,ci j0,ci j0,ci j0,ci j0,ci j0,j5⟩⟩,⟨_,j0,rsOne ⟨ci j0,.msl j0,ci j0,ci j0,ci j0,ci j0,ci j0,ci j0,ci j0,ci j0,j5⟩⟩,⟨_,j0,rsMap (fun _=>j0)⟩,⟨_,j0,rsMap (fun _=>j0)⟩,⟨_,j0,rsMap (fun _=>j0)⟩,⟨_,j0,rsMap (fun _=>j0)⟩,j5⟩,j0,j1⟩<|u<|fa ti38 j0 j0 j0<|u<|sto ti34 j0 j0 j0<|u<|fa ti38 j0 j0 j0<|u<|sto ti35 j0 j0 j0<|u<|fa ti38 j0 j0 j0<|u<|sto ti36 j0 j0 j0<|r_nil ?_
 refine rg j0<|u<|ld ti38 j0 j0<|u<|sto ti38 j0 j0 j0<|r_nil ?_
 refine sw_ret ?_
 obtain rfl:=sm h
 exact ⟨_,j0,[.old 0,.old 1],rsAgg ⟨ci j0,(rsSeal j0 j0 (fun _=>j0)),ci j0,ci j0,ci j0,ci j0,ci j0,(rsSeal j0 j0 (fun _=>j0)),(rsSeal j0 j0 (fun _=>j0)),(rsSeal j0 j0 (fun _=>j0)),j5⟩,j0,⟨⟨_,j0,rsOne ⟨.msl j0,ci j0,ci j0,j5⟩⟩,⟨_,j0,rsMap (fun _=>j0)⟩,j5⟩,j0,j1⟩
def file_read_api_Method_k2 (v17 : List ApiMethod) (v18 : List UInt8) (v19 : Bool) : Option ((List ApiMethod) × (List UInt8) × Bool) :=
  some (v17,v18,v19)
def file_read_api_Method_l1 (v1 : List (List UInt8)) (v11 : List UInt8) (v12 : Bool) (v13 : List ApiMethod) (v14 : Int) : Option (Sum ((List UInt8) × Bool × (List ApiMethod) × Int) (Sum ((List ApiMethod) × (List UInt8) × Bool) ((List ApiMethod) × (List UInt8) × Bool))) :=
  cond ((decide (0 < v14)) && (!v12)) ((file_reader_method v1 v11 v12).bind fun v15=>(appP 152 v13 [v15.1]).bind fun v16=>some (.inl (v15.2.1,v15.2.2,v16,(IntKind.i64.wrap (v14 - 1))))) (some (.inr (.inl (v13,v11,v12))))
def file_read_api_Method (v1 : List (List UInt8)) (v2 : List UInt8) (v3 : Bool) : Option ((List ApiMethod) × (List UInt8) × Bool) :=
  (file_reader_num v1 v2 v3).bind fun v4=>(loopP (fun z=>file_read_api_Method_l1 v1 z.1 z.2.1 z.2.2.1 z.2.2.2) (v4.2.1,v4.2.2,[],v4.1)).bind fun o=>leave o (fun b=>file_read_api_Method_k2 b.1 b.2.1 b.2.2) some
theorem file_read_api_Method_ok (v1 : List (List UInt8)) (v2 : List UInt8) (v3 : Bool) {r : (List ApiMethod) × (List UInt8) × Bool} (h : file_read_api_Method v1 v2 v3 = some r) : SC Tryz.prog 89 [.mpt 0 0 0,.fn (.func 90) [.mpt 0 0 0] []] [.one 3 [.msl 1 0 (List.length v1),.isl 1 (List.map byteRow v2),bA v3],.many 1 (List.map rStr v1)] (.msl 2 0 (List.length r.1)) [.one 3 [.msl 1 0 (List.length v1),.isl 1 (List.map byteRow r.2.1),bA r.2.2],.many 1 (List.map rStr v1),.many 10 (List.map rApiMethod r.1)]:=by
 refine ⟨⟨j5,sbOk (sz:=1) (fun _=>j0),sbOk (sz:=10) (fun _=>j0),j5⟩,scall_fn Tryz.func89 j0 (by kernel_rfl) j0 ?_⟩
 unfold file_read_api_Method at h
 refine rg j0<|u<|asg j0<|r_nil ?_
 refine rg j0<|u<|asg j0<|r_nil ?_
 refine sw_seq ?_
 obtain ⟨v4,q1,h⟩:=bs h
 refine rg j0<|u<|mv j0<|u<|sc [0,1] (file_reader_num_ok v1 v2 v3 q1) j0 j0 j0 j0 ⟨(.mpt j0),j5⟩ ⟨⟨_,j0,⟨(.msl j0),(rnI j0),(rnI j0),j5⟩⟩,⟨j0,mkI (fun _=>j0)⟩,j5⟩<|r_can (env0:=[(0,.mpt 0 0 0),(1,.fn (.func 90) [.mpt 0 0 0] []),(5,.lit (.slice none 0 0)),(8,iA v4.1)]) (st0:=[some (3,[[.msl 1 0 (List.length v1),.isl 1 (List.map byteRow v4.2.1),bA v4.2.2]]),some (1,List.map rStr v1)]) ⟨[.old 0,.old 1],cv j0 (.mpt j0)<|cv j0 (rsFn ⟨(.mpt j0),j5⟩ j5)<|ce j0 j0<|ce j0 j0<|cn,j0,⟨⟨_,j0,rsOne ⟨.msl j0,ci j0,ci j0,j5⟩⟩,⟨_,j0,rsMap (fun _=>j0)⟩,j5⟩,j0,j1⟩<|u<|asg j0<|r_nil ?_
 obtain ⟨o,ho,h⟩:=bs h
 refine sw_lpl (X:=(List UInt8) × Bool × (List ApiMethod) × Int) (B:=(List ApiMethod) × (List UInt8) × Bool) (R:=(List ApiMethod) × (List UInt8) × Bool) (fun z=>[(0,.mpt 0 0 0),(1,.fn (.func 90) [.mpt 0 0 0] []),(5,.msl 2 0 (List.length z.2.2.1)),(6,iA z.2.2.2)]) (fun z=>[some (3,[[.msl 1 0 (List.length v1),.isl 1 (List.map byteRow z.1),bA z.2.1]]),some (1,List.map rStr v1),some (10,List.map rApiMethod z.2.2.1)]) (fun b=>[(5,.msl 2 0 (List.length b.1))]) (fun b=>[some (3,[[.msl 1 0 (List.length v1),.isl 1 (List.map byteRow b.2.1),bA b.2.2]]),some (1,List.map rStr v1),some (10,List.map rApiMethod b.1)]) (fun r env st=>PostF Tryz.prog Tryz.f89 2 (.msl 2 0 (List.length r.1)) [some (3,[[.msl 1 0 (List.length v1),.isl 1 (List.map byteRow r.2.1),bA r.2.2]]),some (1,List.map rStr v1),some (10,List.map rApiMethod r.1)] env st) ho ⟨[.old 0,.old 1,.fresh 10],cv j0 (.mpt j0)<|cv j0 (rsFn ⟨(.mpt j0),j5⟩ j5)<|cv j0 (.nilown j0)<|ce j0 j0<|cn,j0,⟨⟨_,j0,rsOne ⟨.msl j0,ci j0,ci j0,j5⟩⟩,⟨_,j0,rsMap (fun _=>j0)⟩,j4,j5⟩,j0,j1⟩ ?_ ?_ ?_
 ·
  rintro ⟨v11,v12,v13,v14⟩ r h
  replace h : file_read_api_Method_l1 v1 v11 v12 v13 v14 = some r:=h
  unfold file_read_api_Method_l1 at h
  refine sw_seq ?_
  refine rg j0<|u<|mv j0<|u<|gtr ti3 j0 j0<|u<|mv j0<|r_and (j:=2) 5 j0 j0 j0 j0 j0 gpn (fun hb6=>g j0 hb6<|mv j0<|g j0 hb6<|nc j0 j0<|g j0 hb6<|fa ti142 j0 j0 j0<|g j0 hb6<|ld ti4 j0 j0<|g j0 hb6<|nt j0<|r_nil (egA [12,13,14,15,16] 5 hb6 j0 j0 j0 j0)) andF<|r_nil ?_
  refine sw_cond j0 (fun hc7=>?_) (fun hc7=>?_)
  ·
   replace h:=bT hc7 h
   refine sw_skip ?_
   refine sw_seq ?_
   refine sw_block ?_
   obtain ⟨v15,q8,h⟩:=bs h
   obtain ⟨v16,q9,h⟩:=bs h
   refine rl j0<|u<|mv j0<|u<|mv j0<|u<|sc [0,1] (file_reader_method_ok v1 v11 v12 q8) j0 j0 j0 j0 ⟨(.mpt j0),j5⟩ ⟨⟨_,j0,⟨(.msl j0),(rnI j0),(rnI j0),j5⟩⟩,⟨j0,mkI (fun _=>j0)⟩,j5⟩<|r_can (env0:=[(0,.mpt 0 0 0),(1,.fn (.func 90) [.mpt 0 0 0] []),(6,iA v14),(20,.msl 2 0 (List.length v13)),(22,.agg [sA v15.1.Name,.isl 1 (List.map rStr v15.1.Params),sA v15.1.Ret,bA v15.1.Static,bA v15.1.Abstract,iA v15.1.Locals,iA v15.1.Stack,.isl 4 (List.map rApiIns v15.1.Code),.isl 3 (List.map rApiMap v15.1.Maps),.isl 4 (List.map rApiTrap v15.1.Traps)])]) (st0:=[some (3,[[.msl 1 0 (List.length v1),.isl 1 (List.map byteRow v15.2.1),bA v15.2.2]]),some (1,List.map rStr v1),some (10,List.map rApiMethod v13)]) ⟨[.old 0,.old 1,.old 2],cv j0 (.mpt j0)<|cv j0 (rsFn ⟨(.mpt j0),j5⟩ j5)<|ce j0 j0<|cv j0 (.msl j0)<|ce j0 j0<|cn,j0,⟨⟨_,j0,rsOne ⟨.msl j0,ci j0,ci j0,j5⟩⟩,⟨_,j0,rsMap (fun _=>j0)⟩,⟨_,j0,rsMap (fun _=>j0)⟩,j5⟩,j0,j1⟩<|u<|bl 3 ti24 j0 ti38 j0 (by decide) (by decide) j0 j0 j0<|u<|apM 4 ti24 j0 ti38 j0 j0 (by decide) ti24 j0 j0 j0 j0 (roX (f:=rApiMethod) (z:=[v15.1]) j0 j0) (fun _=>j0) j0 q9<|u<|asg j0<|r_nil ?_
   refine rl j0<|u<|mv j0<|u<|sub ti3 j0 j0<|u<|asg j0<|r_nil ?_
   obtain rfl:=sm h
   exact ⟨_,j0,[.old 0,.old 1,.old 4],cv j0 (.mpt j0)<|cv j0 (rsFn ⟨(.mpt j0),j5⟩ j5)<|cv j0 (.msl j0)<|ce j0 j0<|cn,j0,⟨⟨_,j0,rsOne ⟨.msl j0,ci j0,ci j0,j5⟩⟩,⟨_,j0,rsMap (fun _=>j0)⟩,⟨_,j0,rsMap (fun _=>j0)⟩,j5⟩,j0,j1⟩
  ·
   replace h:=bF hc7 h
   refine sw_exit ?_
   obtain rfl:=sm h
   exact ⟨j0,_,j0,[.old 0,.old 1,.old 2],cv j0 (.msl j0)<|cn,j0,⟨⟨_,j0,rsOne ⟨.msl j0,ci j0,ci j0,j5⟩⟩,⟨_,j0,rsMap (fun _=>j0)⟩,⟨_,j0,rsMap (fun _=>j0)⟩,j5⟩,j0,j1⟩
 ·
  rintro ⟨v17,v18,v19⟩ rfl
  replace h : file_read_api_Method_k2 v17 v18 v19 = some r:=h
  unfold file_read_api_Method_k2 at h
  refine ow_intro ?_
  refine rg j0<|u<|mv j0<|u<|asg j0<|r_nil ?_
  refine sw_ret ?_
  obtain rfl:=sm h
  exact ⟨_,j0,[.old 0,.old 1,.old 2],.msl j0,j0,⟨⟨_,j0,rsOne ⟨.msl j0,ci j0,ci j0,j5⟩⟩,⟨_,j0,rsMap (fun _=>j0)⟩,⟨_,j0,rsMap (fun _=>j0)⟩,j5⟩,j0,j1⟩
 ·
  rintro r' rfl env st hp
  obtain rfl:=sm h
  exact hp
def file_EncodeO_k2 (v8 : (List (List UInt8)) × (List UInt8)) (v18 : List UInt8) : Option ((Option (List UInt8))) :=
  (appP 1 v18 v8.2).bind fun v19=>cond (decide (6000 < ((List.length v19) : Int))) (some none) (some (some v19))
def file_EncodeO_l1 (v8 : (List (List UInt8)) × (List UInt8)) (v14 : List UInt8) (v15 : Int) : Option (Sum ((List UInt8) × Int) (Sum ((List UInt8)) ((Option (List UInt8))))) :=
  cond (decide (v15 < ((List.length v8.1) : Int))) ((idx v8.1 v15).bind fun v16=>(num_PutText v14 v16).bind fun v17=>some (.inl (v17,(IntKind.i64.wrap (v15 + 1))))) (some (.inr (.inl v14)))
def file_EncodeO (v1 : ApiClass) : Option ((Option (List UInt8))) :=
  (class_May v1).bind fun v2=>cond (!v2) (some none) ((file_writer_text [] [] v1.Name).bind fun v3=>(file_writer_text v3.1 v3.2 v1.Super).bind fun v4=>(file_writer_truth v4.1 v4.2 v1.Interface).bind fun v5=>(file_list_string v4.1 v5 v1.Impl).bind fun v6=>(file_list_api_Field v6.1 v6.2 v1.Fields).bind fun v7=>(file_list_api_Method v7.1 v7.2 v1.Methods).bind fun v8=>(num_Put [(74 : UInt8),(65 : UInt8),(86 : UInt8),(65 : UInt8)] ((List.length v8.1) : Int)).bind fun v9=>(loopP (fun z=>file_EncodeO_l1 v8 z.1 z.2) (v9,0)).bind fun o=>leave o (fun b=>file_EncodeO_k2 v8 b) some)
theorem file_EncodeO_ok (v1 : ApiClass) {r : Option (List UInt8)} (h : file_EncodeO v1 = some r) : SC Tryz.prog 17 [.agg [sA v1.Name,sA v1.Super,bA v1.Interface,.isl 1 (List.map rStr v1.Impl),.isl 3 (List.map rApiField v1.Fields),.isl 10 (List.map rApiMethod v1.Methods)]] [] (optR r) (optB r):=by
 refine ⟨optOk r,scall_fn Tryz.func17 j0 (by kernel_rfl) j0 ?_⟩
 unfold file_EncodeO at h
 refine rg j0<|u<|bx 0 6 j0 j0 j0 j0<|u<|asg j0<|r_nil ?_
 refine sw_seq ?_
 obtain ⟨v2,q1,h⟩:=bs h
 refine rg j0<|u<|ld ti26 j0 j0<|u<|pc (class_May_ok v1 q1) j0 j0 j0<|u<|nt j0<|r_nil ?_
 refine sw_cond j0 (fun hc2=>?_) (fun hc2=>?_)
 ·
  replace h:=bT hc2 h
  refine rg j0<|u<|asg j0<|r_nil ?_
  refine sw_ret ?_
  obtain rfl:=sm h
  exact ⟨_,j0,[],ci j0,j0,j5,j0,j1⟩
 ·
  replace h:=bF hc2 h
  refine sw_skip ?_
  refine rg j0<|u<|bd ti129 j0 j0 j0<|u<|bx 1 2 j0 j0 j0 j0<|u<|asg j0<|r_nil ?_
  obtain ⟨v3,q3,h⟩:=bs h
  refine rg j0<|u<|mv j0<|u<|fa ti26 j0 j0 j0<|u<|ld ti9 j0 j0<|ph 1<|ph 1<|u<|sc [1,2,3] (file_writer_text_ok [] [] v1.Name q3) j0 j0 j0 j0 ⟨(.mpt j0),(rnI j0),j5⟩ ⟨⟨_,j0,⟨(.nil0 j0),(.nil0 j0),j5⟩⟩,⟨j0,mkI (fun _=>j0)⟩,⟨j0,mkI (fun _=>j0)⟩,j5⟩<|r_can (env0:=[(1,.mpt 0 0 0),(3,.mpt 1 0 0)]) (st0:=[some (6,[[sA v1.Name,sA v1.Super,bA v1.Interface,.isl 1 (List.map rStr v1.Impl),.isl 3 (List.map rApiField v1.Fields),.isl 10 (List.map rApiMethod v1.Methods)]]),some (2,[[.msl 2 0 (List.length v3.1),.msl 3 0 (List.length v3.2)]]),some (1,List.map rStr v3.1),some (1,List.map byteRow v3.2)]) ⟨[.old 0,.old 1,.old 4,.old 5],cv j0 (.mpt j0)<|cv j0 (.mpt j0)<|cn,j0,⟨⟨_,j0,rsOne ⟨ci j0,ci j0,ci j0,ci j0,ci j0,ci j0,j5⟩⟩,⟨_,j0,rsOne ⟨.msl j0,.msl j0,j5⟩⟩,⟨_,j0,rsMap (fun _=>j0)⟩,⟨_,j0,rsMap (fun _=>j0)⟩,j5⟩,j0,j1⟩<|r_nil ?_
  obtain ⟨v4,q4,h⟩:=bs h
  refine rg j0<|u<|mv j0<|u<|fa ti26 j0 j0 j0<|u<|ld ti9 j0 j0<|u<|sc [1,2,3] (file_writer_text_ok v3.1 v3.2 v1.Super q4) j0 j0 j0 j0 ⟨(.mpt j0),(rnI j0),j5⟩ ⟨⟨_,j0,⟨(.msl j0),(.msl j0),j5⟩⟩,⟨j0,mkI (fun _=>j0)⟩,⟨j0,mkI (fun _=>j0)⟩,j5⟩<|r_can (env0:=[(1,.mpt 0 0 0),(3,.mpt 1 0 0)]) (st0:=[some (6,[[sA v1.Name,sA v1.Super,bA v1.Interface,.isl 1 (List.map rStr v1.Impl),.isl 3 (List.map rApiField v1.Fields),.isl 10 (List.map rApiMethod v1.Methods)]]),some (2,[[.msl 2 0 (List.length v4.1),.msl 3 0 (List.length v4.2)]]),some (1,List.map rStr v4.1),some (1,List.map byteRow v4.2)]) ⟨[.old 0,.old 1,.old 4,.old 5],cv j0 (.mpt j0)<|cv j0 (.mpt j0)<|cn,j0,⟨⟨_,j0,rsOne ⟨ci j0,ci j0,ci j0,ci j0,ci j0,ci j0,j5⟩⟩,⟨_,j0,rsOne ⟨.msl j0,.msl j0,j5⟩⟩,⟨_,j0,rsMap (fun _=>j0)⟩,⟨_,j0,rsMap (fun _=>j0)⟩,j5⟩,j0,j1⟩<|r_nil ?_
  obtain ⟨v5,q5,h⟩:=bs h
  refine rg j0<|u<|mv j0<|u<|fa ti26 j0 j0 j0<|u<|ld ti4 j0 j0<|u<|sc [1,2,3] (file_writer_truth_ok v4.1 v4.2 v1.Interface q5) j0 j0 j0 j0 ⟨(.mpt j0),(rnI j0),j5⟩ ⟨⟨_,j0,⟨(.msl j0),(.msl j0),j5⟩⟩,⟨j0,mkI (fun _=>j0)⟩,⟨j0,mkI (fun _=>j0)⟩,j5⟩<|r_can (env0:=[(1,.mpt 0 0 0),(3,.mpt 1 0 0)]) (st0:=[some (6,[[sA v1.Name,sA v1.Super,bA v1.Interface,.isl 1 (List.map rStr v1.Impl),.isl 3 (List.map rApiField v1.Fields),.isl 10 (List.map rApiMethod v1.Methods)]]),some (2,[[.msl 2 0 (List.length v4.1),.msl 3 0 (List.length v5)]]),some (1,List.map rStr v4.1),some (1,List.map byteRow v5)]) ⟨[.old 0,.old 1,.old 2,.old 4],cv j0 (.mpt j0)<|cv j0 (.mpt j0)<|cn,j0,⟨⟨_,j0,rsOne ⟨ci j0,ci j0,ci j0,ci j0,ci j0,ci j0,j5⟩⟩,⟨_,j0,rsOne ⟨.msl j0,.msl j0,j5⟩⟩,⟨_,j0,rsMap (fun _=>j0)⟩,⟨_,j0,rsMap (fun _=>j0)⟩,j5⟩,j0,j1⟩<|r_nil ?_
  obtain ⟨v6,q6,h⟩:=bs h
  refine rg j0<|u<|mv j0<|u<|fa ti26 j0 j0 j0<|u<|ld ti22 j0 j0<|u<|mv j0<|u<|mf j0 j0<|u<|sc [1,2,3] (file_list_string_ok v4.1 v5 v1.Impl q6) j0 j0 j0 j0 ⟨(.mpt j0),(rnI j0),(rnFn ⟨(.mpt j0),j5⟩ j5),j5⟩ ⟨⟨_,j0,⟨(.msl j0),(.msl j0),j5⟩⟩,⟨j0,mkI (fun _=>j0)⟩,⟨j0,mkI (fun _=>j0)⟩,j5⟩<|r_can (env0:=[(1,.mpt 0 0 0),(3,.mpt 1 0 0)]) (st0:=[some (6,[[sA v1.Name,sA v1.Super,bA v1.Interface,.isl 1 (List.map rStr v1.Impl),.isl 3 (List.map rApiField v1.Fields),.isl 10 (List.map rApiMethod v1.Methods)]]),some (2,[[.msl 2 0 (List.length v6.1),.msl 3 0 (List.length v6.2)]]),some (1,List.map rStr v6.1),some (1,List.map byteRow v6.2)]) ⟨[.old 0,.old 1,.old 4,.old 5],cv j0 (.mpt j0)<|cv j0 (.mpt j0)<|cn,j0,⟨⟨_,j0,rsOne ⟨ci j0,ci j0,ci j0,ci j0,ci j0,ci j0,j5⟩⟩,⟨_,j0,rsOne ⟨.msl j0,.msl j0,j5⟩⟩,⟨_,j0,rsMap (fun _=>j0)⟩,⟨_,j0,rsMap (fun _=>j0)⟩,j5⟩,j0,j1⟩<|r_nil ?_
  obtain ⟨v7,q7,h⟩:=bs h
  refine rg j0<|u<|mv j0<|u<|fa ti26 j0 j0 j0<|u<|ld ti23 j0 j0<|u<|mv j0<|u<|mf j0 j0<|u<|sc [1,2,3] (file_list_api_Field_ok v6.1 v6.2 v1.Fields q7) j0 j0 j0 j0 ⟨(.mpt j0),(rnI j0),(rnFn ⟨(.mpt j0),j5⟩ j5),j5⟩ ⟨⟨_,j0,⟨(.msl j0),(.msl j0),j5⟩⟩,⟨j0,mkI (fun _=>j0)⟩,⟨j0,mkI (fun _=>j0)⟩,j5⟩<|r_can (env0:=[(1,.mpt 0 0 0),(3,.mpt 1 0 0)]) (st0:=[some (6,[[sA v1.Name,sA v1.Super,bA v1.Interface,.isl 1 (List.map rStr v1.Impl),.isl 3 (List.map rApiField v1.Fields),.isl 10 (List.map rApiMethod v1.Methods)]]),some (2,[[.msl 2 0 (List.length v7.1),.msl 3 0 (List.length v7.2)]]),some (1,List.map rStr v7.1),some (1,List.map byteRow v7.2)]) ⟨[.old 0,.old 1,.old 4,.old 5],cv j0 (.mpt j0)<|cv j0 (.mpt j0)<|cn,j0,⟨⟨_,j0,rsOne ⟨ci j0,ci j0,ci j0,ci j0,ci j0,ci j0,j5⟩⟩,⟨_,j0,rsOne ⟨.msl j0,.msl j0,j5⟩⟩,⟨_,j0,rsMap (fun _=>j0)⟩,⟨_,j0,rsMap (fun _=>j0)⟩,j5⟩,j0,j1⟩<|r_nil ?_
  obtain ⟨v8,q8,h⟩:=bs h
  refine rg j0<|u<|mv j0<|u<|fa ti26 j0 j0 j0<|u<|ld ti24 j0 j0<|u<|mv j0<|u<|mf j0 j0<|u<|sc [1,2,3] (file_list_api_Method_ok v7.1 v7.2 v1.Methods q8) j0 j0 j0 j0 ⟨(.mpt j0),(rnI j0),(rnFn ⟨(.mpt j0),j5⟩ j5),j5⟩ ⟨⟨_,j0,⟨(.msl j0),(.msl j0),j5⟩⟩,⟨j0,mkI (fun _=>j0)⟩,⟨j0,mkI (fun _=>j0)⟩,j5⟩<|r_can (env0:=[(3,.mpt 0 0 0)]) (st0:=[some (2,[[.msl 1 0 (List.length v8.1),.msl 2 0 (List.length v8.2)]]),some (1,List.map rStr v8.1),some (1,List.map byteRow v8.2)]) ⟨[.old 1,.old 4,.old 5],cv j0 (.mpt j0)<|cn,j0,⟨⟨_,j0,rsOne ⟨.msl j0,.msl j0,j5⟩⟩,⟨_,j0,rsMap (fun _=>j0)⟩,⟨_,j0,rsMap (fun _=>j0)⟩,j5⟩,j0,j1⟩<|r_nil ?_
  obtain ⟨v9,q9,h⟩:=bs h
  refine rg j0<|u<|bl 3 ti29 j0 ti5 j0 (by decide) (by decide) j0 j0 j0<|u<|cvl ti29 j0 ti5 j0 j0 j0 j0<|u<|mv j0<|u<|nc j0 j0<|u<|fa ti129 j0 j0 j0<|u<|ld ti22 j0 j0<|u<|lnM ti22 j0 j0 j0<|u<|sc [3] (num_Put_ok [(74 : UInt8),(65 : UInt8),(86 : UInt8),(65 : UInt8)] ((List.length v8.1) : Int) q9) j0 j0 j0 j0 ⟨(.msl j0),(rnI j0),j5⟩ ⟨⟨j0,mkI (fun _=>j0)⟩,j5⟩<|r_can (env0:=[(3,.mpt 0 0 0),(49,.msl 3 0 (List.length v9))]) (st0:=[some (2,[[.msl 1 0 (List.length v8.1),.msl 2 0 (List.length v8.2)]]),some (1,List.map rStr v8.1),some (1,List.map byteRow v8.2),some (1,List.map byteRow v9)]) ⟨[.old 0,.old 1,.old 2,.old 4],cv j0 (.mpt j0)<|cv j0 (.msl j0)<|cn,j0,⟨⟨_,j0,rsOne ⟨.msl j0,.msl j0,j5⟩⟩,⟨_,j0,rsMap (fun _=>j0)⟩,⟨_,j0,rsMap (fun _=>j0)⟩,⟨_,j0,rsMap (fun _=>j0)⟩,j5⟩,j0,j1⟩<|u<|asg j0<|r_nil ?_
  refine sw_seq ?_
  refine rg j0<|u<|mv j0<|u<|nc j0 j0<|u<|fa ti129 j0 j0 j0<|u<|ld ti22 j0 j0<|u<|lnM ti22 j0 j0 j0<|u<|mv j0<|r_nil ?_
  obtain ⟨o,ho,h⟩:=bs h
  refine sw_lpl (X:=(List UInt8) × Int) (B:=(List UInt8)) (R:=(Option (List UInt8))) (fun z=>[(3,.mpt 0 0 0),(4,.msl 3 0 (List.length z.1)),(53,.msl 1 0 (List.length v8.1)),(54,iA ((List.length v8.1) : Int)),(55,iA z.2)]) (fun z=>[some (2,[[.msl 1 0 (List.length v8.1),.msl 2 0 (List.length v8.2)]]),some (1,List.map rStr v8.1),some (1,List.map byteRow v8.2),some (1,List.map byteRow z.1)]) (fun b=>[(3,.mpt 0 0 0),(4,.msl 3 0 (List.length b))]) (fun b=>[some (2,[[.msl 1 0 (List.length v8.1),.msl 2 0 (List.length v8.2)]]),some (1,List.map rStr v8.1),some (1,List.map byteRow v8.2),some (1,List.map byteRow b)]) (fun r env st=>PostF Tryz.prog Tryz.f17 0 (optR r) (SBs (optB r)) env st) ho ⟨[.old 0,.old 1,.old 2,.old 3],cv j0 (.mpt j0)<|cv j0 (.msl j0)<|cv j0 (.msl j0)<|ce j0 j0<|ce j0 j0<|cn,j0,⟨⟨_,j0,rsOne ⟨.msl j0,.msl j0,j5⟩⟩,⟨_,j0,rsMap (fun _=>j0)⟩,⟨_,j0,rsMap (fun _=>j0)⟩,⟨_,j0,rsMap (fun _=>j0)⟩,j5⟩,j0,j1⟩ ?_ ?_ ?_
  ·
   rintro ⟨v14,v15⟩ r h
   replace h : file_EncodeO_l1 v8 v14 v15 = some r:=h
   unfold file_EncodeO_l1 at h
   refine rg j0<|u<|lss ti3 j0 j0<|r_nil ?_
   refine sw_seq ?_
   refine sw_cond j0 (fun hc13=>?_) (fun hc13=>?_)
   ·
    replace h:=bT hc13 h
    refine sw_skip ?_
    refine sw_seq ?_
    refine sw_block ?_
    obtain ⟨v16,q14,h⟩:=bs h
    refine rg j0<|u<|ixM ti22 j0 ti9 j0 j0 j0 j0 q14<|u<|ldM ti9 j0 j0 (idx_some q14).2.2 j0<|u<|asg j0<|r_nil ?_
    obtain ⟨v17,q15,h⟩:=bs h
    refine rl j0<|u<|mv j0<|u<|mv j0<|u<|sc [3] (num_PutText_ok v14 v16 q15) j0 j0 j0 j0 ⟨(.msl j0),(rnI j0),j5⟩ ⟨⟨j0,mkI (fun _=>j0)⟩,j5⟩<|r_can (env0:=[(3,.mpt 0 0 0),(53,.msl 1 0 (List.length v8.1)),(54,iA ((List.length v8.1) : Int)),(55,iA v15),(61,.msl 3 0 (List.length v17))]) (st0:=[some (2,[[.msl 1 0 (List.length v8.1),.msl 2 0 (List.length v8.2)]]),some (1,List.map rStr v8.1),some (1,List.map byteRow v8.2),some (1,List.map byteRow v17)]) ⟨[.old 0,.old 1,.old 2,.old 4],cv j0 (.mpt j0)<|cv j0 (.msl j0)<|ce j0 j0<|ce j0 j0<|cv j0 (.msl j0)<|cn,j0,⟨⟨_,j0,rsOne ⟨.msl j0,.msl j0,j5⟩⟩,⟨_,j0,rsMap (fun _=>j0)⟩,⟨_,j0,rsMap (fun _=>j0)⟩,⟨_,j0,rsMap (fun _=>j0)⟩,j5⟩,j0,j1⟩<|u<|asg j0<|r_nil ?_
    refine rl j0<|u<|add ti3 j0 j0<|u<|mv j0<|r_nil ?_
    obtain rfl:=sm h
    exact ⟨_,j0,[.old 0,.old 1,.old 2,.old 3],cv j0 (.mpt j0)<|cv j0 (.msl j0)<|cv j0 (.msl j0)<|ce j0 j0<|ce j0 j0<|cn,j0,⟨⟨_,j0,rsOne ⟨.msl j0,.msl j0,j5⟩⟩,⟨_,j0,rsMap (fun _=>j0)⟩,⟨_,j0,rsMap (fun _=>j0)⟩,⟨_,j0,rsMap (fun _=>j0)⟩,j5⟩,j0,j1⟩
   ·
    replace h:=bF hc13 h
    refine sw_exit ?_
    obtain rfl:=sm h
    exact ⟨j0,_,j0,[.old 0,.old 1,.old 2,.old 3],cv j0 (.mpt j0)<|cv j0 (.msl j0)<|cn,j0,⟨⟨_,j0,rsOne ⟨.msl j0,.msl j0,j5⟩⟩,⟨_,j0,rsMap (fun _=>j0)⟩,⟨_,j0,rsMap (fun _=>j0)⟩,⟨_,j0,rsMap (fun _=>j0)⟩,j5⟩,j0,j1⟩
  ·
   rintro v18 rfl
   replace h : file_EncodeO_k2 v8 v18 = some r:=h
   unfold file_EncodeO_k2 at h
   refine ow_intro ?_
   refine sw_seq ?_
   obtain ⟨v19,q16,h⟩:=bs h
   refine rg j0<|u<|mv j0<|u<|mv j0<|u<|nc j0 j0<|u<|fa ti129 j0 j0 j0<|u<|ld ti29 j0 j0<|u<|apM 4 ti29 j0 ti5 j0 j0 (by decide) ti29 j0 j0 j0 j0 (roM j0) (fun _=>j0) j0 q16<|u<|asg j0<|r_nil ?_
   refine rg j0<|u<|mv j0<|u<|lnM ti29 j0 j0 j0<|u<|gtr ti3 j0 j0<|r_nil ?_
   refine sw_cond j0 (fun hc17=>?_) (fun hc17=>?_)
   ·
    replace h:=bT hc17 h
    refine rg j0<|u<|asg j0<|r_nil ?_
    refine sw_ret ?_
    obtain rfl:=sm h
    exact ⟨_,j0,[],ci j0,j0,j5,j0,j1⟩
   ·
    replace h:=bF hc17 h
    refine sw_skip ?_
    refine rg j0<|u<|mv j0<|u<|asg j0<|r_nil ?_
    refine sw_ret ?_
    obtain rfl:=sm h
    exact ⟨_,j0,[.old 4],.msl j0,j0,⟨⟨_,j0,rsMap (fun _=>j0)⟩,j5⟩,j0,j1⟩
  ·
   rintro r' rfl env st hp
   obtain rfl:=sm h
   exact hp
theorem file_EncodeO_okN (v1 : ApiClass) (h : file_EncodeO v1 = some none) : SC Tryz.prog 17 [.agg [sA v1.Name,sA v1.Super,bA v1.Interface,.isl 1 (List.map rStr v1.Impl),.isl 3 (List.map rApiField v1.Fields),.isl 10 (List.map rApiMethod v1.Methods)]] [] (.lit (.slice none 0 0)) []:=file_EncodeO_ok v1 h
theorem file_EncodeO_okS (v1 : ApiClass) {l : List UInt8} (h : file_EncodeO v1 = some (some l)) : SC Tryz.prog 17 [.agg [sA v1.Name,sA v1.Super,bA v1.Interface,.isl 1 (List.map rStr v1.Impl),.isl 3 (List.map rApiField v1.Fields),.isl 10 (List.map rApiMethod v1.Methods)]] [] (.msl 0 0 (List.length l)) [.many 1 (List.map byteRow l)]:=file_EncodeO_ok v1 h
def bytes_Equal (v1 : List UInt8) (v2 : List UInt8) : Bool :=
  (v1 == v2)
theorem bytes_Equal_ok (v1 : List UInt8) (v2 : List UInt8) {r : Bool} (h : bytes_Equal v1 v2 = r) : PureC Tryz.prog 91 [.isl 1 (List.map byteRow v1),.isl 1 (List.map byteRow v2)] (bA r):=by
 refine pure_fn Tryz.func91 j0 (by kernel_rfl) j0 j0 ?_
 unfold bytes_Equal at h
 refine rg j0<|u<|asg j0<|r_nil ?_
 refine rg j0<|u<|mv j0<|u<|cvt (l:=v1) ti29 ti9 j0 j0 ti5 j0 j0 (fun _ h=>by cases h) roI<|u<|mv j0<|u<|cvt (l:=v2) ti29 ti9 j0 j0 ti5 j0 j0 (fun _ h=>by cases h) roI<|u<|seq ti9 j0 j0<|u<|asg j0<|r_nil ?_
 refine sw_ret ?_
 obtain rfl:=h
 exact ⟨_,j0,[],ci j0,j0,j5,j0,j1⟩
def file_Decode (v1 : List UInt8) : Option (ApiClass × Int) :=
  cond (decide (6000 < (List.length v1 : Int))) (some ((ApiClass.mk [] [] false [] [] []),3)) ((strings_HasPrefix v1 [74,65,86,65]).bind fun v2=>cond (!v2) (some ((ApiClass.mk [] [] false [] [] []),1)) ((cutP v1 4 (List.length v1 : Int)).bind fun v3=>(file_read_string [] v3 false).bind fun v4=>(file_reader_text v4.1 v4.2.1 v4.2.2).bind fun v5=>(file_reader_text v4.1 v5.2.1 v5.2.2).bind fun v6=>(file_reader_truth v4.1 v6.2.1 v6.2.2).bind fun v7=>(file_read_string_s2 v4.1 v7.2.1 v7.2.2).bind fun v8=>(file_read_api_Field v4.1 v8.2.1 v8.2.2).bind fun v9=>(file_read_api_Method v4.1 v9.2.1 v9.2.2).bind fun v10=>(file_EncodeO (ApiClass.mk v5.1 v6.1 v7.1 v8.1 v9.1 v10.1)).bind fun v11=>optC v11 (cond ((v10.2.2 || true) || (!(bytes_Equal [] v1))) (some ((ApiClass.mk [] [] false [] [] []),1)) (some ((ApiClass.mk v5.1 v6.1 v7.1 v8.1 v9.1 v10.1),0))) (fun v12=>(cond v10.2.2 (some true) ((idx v12 0).bind fun v13=>some false)).bind fun v14=>cond (v14 || (!(bytes_Equal v12 v1))) (some ((ApiClass.mk [] [] false [] [] []),1)) (some ((ApiClass.mk v5.1 v6.1 v7.1 v8.1 v9.1 v10.1),0)))))
theorem file_Decode_ok (v1 : List UInt8) {r : ApiClass × Int} (h : file_Decode v1 = some r) : PureC Tryz.prog 18 [.isl 1 (List.map byteRow v1)] (.tup [.agg [sA r.1.Name,sA r.1.Super,bA r.1.Interface,.isl 1 (List.map rStr r.1.Impl),.isl 3 (List.map rApiField r.1.Fields),.isl 10 (List.map rApiMethod r.1.Methods)],iA r.2]):=by
 refine pure_fn Tryz.func18 j0 (by kernel_rfl) j0 j0 ?_
 unfold file_Decode at h
 refine rg j0<|u<|al 0 ti26 j0<|u<|asg j0<|r_nil ?_
 refine sw_seq ?_
 refine rg j0<|u<|mv j0<|u<|lnI ti29 j0 j0<|u<|gtr ti3 j0 j0<|r_nil ?_
 refine sw_cond j0 (fun hc1=>?_) (fun hc1=>?_)
 ·
  replace h:=bT hc1 h
  refine rg j0<|u<|bd ti26 j0 j0 j0<|u<|sto ti26 j0 j0 j0<|u<|asg j0<|r_nil ?_
  refine sw_ret ?_
  obtain rfl:=sm h
  exact ⟨_,j0,[],rsTup ⟨(rsAgg ⟨ci j0,ci j0,ci j0,(.nil),(.nil),(.nil),j5⟩),(ci j0),j5⟩,j0,j5,j0,j1⟩
 ·
  replace h:=bF hc1 h
  refine sw_skip ?_
  refine sw_seq ?_
  obtain ⟨v2,q2,h⟩:=bs h
  refine rg j0<|u<|mv j0<|u<|cvt (l:=v1) ti29 ti9 j0 j0 ti5 j0 j0 (fun _ h=>by cases h) roI<|u<|pc (strings_HasPrefix_ok v1 [74,65,86,65] q2) j0 j0 j0<|u<|nt j0<|r_nil ?_
  refine sw_cond j0 (fun hc3=>?_) (fun hc3=>?_)
  ·
   replace h:=bT hc3 h
   refine rg j0<|u<|bd ti26 j0 j0 j0<|u<|sto ti26 j0 j0 j0<|u<|asg j0<|r_nil ?_
   refine sw_ret ?_
   obtain rfl:=sm h
   exact ⟨_,j0,[],rsTup ⟨(rsAgg ⟨ci j0,ci j0,ci j0,(.nil),(.nil),(.nil),j5⟩),(ci j0),j5⟩,j0,j5,j0,j1⟩
  ·
   replace h:=bF hc3 h
   refine sw_skip ?_
   obtain ⟨v3,q4,h⟩:=bs h
   refine rg j0<|u<|mv j0<|u<|slI (a:=4) (b:=(List.length v1 : Int)) ti29 j0 ti5 j0 j0 (bnd_lo j0 q4) j0 q4<|u<|bd ti142 j0 j0 j0<|u<|bx 1 3 j0 j0 j0 j0<|u<|asg j0<|r_nil ?_
   obtain ⟨v4,q5,h⟩:=bs h
   refine rg j0<|u<|mv j0<|u<|mv j0<|u<|mv j0<|u<|mf j0 j0<|ph 1<|u<|sc [1,2] (file_read_string_ok [] v3 false q5) j0 j0 j0 j0 ⟨(.mpt j0),(rnFn ⟨(.mpt j0),j5⟩ j5),j5⟩ ⟨⟨_,j0,⟨(.nil0 j0),(rnI j0),(rnI j0),j5⟩⟩,⟨j0,mkI (fun _=>j0)⟩,j5⟩<|r_can (env0:=[(0,.isl 1 (List.map byteRow v1)),(2,.mpt 0 0 0),(4,.mpt 1 0 0),(20,.mpt 1 0 0),(24,.msl 3 0 (List.length v4.1))]) (st0:=[some (6,[[sA [],sA [],bA false,.lit (.slice none 0 0),.lit (.slice none 0 0),.lit (.slice none 0 0)]]),some (3,[[.msl 2 0 0,.isl 1 (List.map byteRow v4.2.1),bA v4.2.2]]),some (1,List.map rStr []),some (1,List.map rStr v4.1)]) ⟨[.old 0,.old 1,.old 2,.old 3],ce j0 j0<|cv j0 (.mpt j0)<|cv j0 (.mpt j0)<|cv j0 (.mpt j0)<|cv j0 (.msl j0)<|cn,j0,⟨⟨_,j0,rsOne ⟨ci j0,ci j0,ci j0,ci j0,ci j0,ci j0,j5⟩⟩,⟨_,j0,rsOne ⟨.msl j0,ci j0,ci j0,j5⟩⟩,⟨_,j0,rsMap (fun _=>j0)⟩,⟨_,j0,rsMap (fun _=>j0)⟩,j5⟩,j0,j1⟩<|u<|nc j0 j0<|u<|fa ti142 j0 j0 j0<|u<|sto ti22 j0 j0 j0<|r_nil ?_
   obtain ⟨v5,q6,h⟩:=bs h
   obtain ⟨v6,q7,h⟩:=bs h
   obtain ⟨v7,q8,h⟩:=bs h
   obtain ⟨v8,q9,h⟩:=bs h
   refine rg j0<|u<|mv j0<|u<|sc [1,3] (file_reader_text_ok v4.1 v4.2.1 v4.2.2 q6) j0 j0 j0 j0 ⟨(.mpt j0),j5⟩ ⟨⟨_,j0,⟨(.msl j0),(rnI j0),(rnI j0),j5⟩⟩,⟨j0,mkI (fun _=>j0)⟩,j5⟩<|r_can (env0:=[(0,.isl 1 (List.map byteRow v1)),(2,.mpt 0 0 0),(4,.mpt 1 0 0),(28,sA v5.1)]) (st0:=[some (6,[[sA [],sA [],bA false,.lit (.slice none 0 0),.lit (.slice none 0 0),.lit (.slice none 0 0)]]),some (3,[[.msl 2 0 (List.length v4.1),.isl 1 (List.map byteRow v5.2.1),bA v5.2.2]]),some (1,List.map rStr v4.1)]) ⟨[.old 0,.old 1,.old 3],ce j0 j0<|cv j0 (.mpt j0)<|cv j0 (.mpt j0)<|ce j0 j0<|cn,j0,⟨⟨_,j0,rsOne ⟨ci j0,ci j0,ci j0,ci j0,ci j0,ci j0,j5⟩⟩,⟨_,j0,rsOne ⟨.msl j0,ci j0,ci j0,j5⟩⟩,⟨_,j0,rsMap (fun _=>j0)⟩,j5⟩,j0,j1⟩<|u<|mv j0<|u<|sc [1,2] (file_reader_text_ok v4.1 v5.2.1 v5.2.2 q7) j0 j0 j0 j0 ⟨(.mpt j0),j5⟩ ⟨⟨_,j0,⟨(.msl j0),(rnI j0),(rnI j0),j5⟩⟩,⟨j0,mkI (fun _=>j0)⟩,j5⟩<|r_can (env0:=[(0,.isl 1 (List.map byteRow v1)),(2,.mpt 0 0 0),(4,.mpt 1 0 0),(28,sA v5.1),(30,sA v6.1)]) (st0:=[some (6,[[sA [],sA [],bA false,.lit (.slice none 0 0),.lit (.slice none 0 0),.lit (.slice none 0 0)]]),some (3,[[.msl 2 0 (List.length v4.1),.isl 1 (List.map byteRow v6.2.1),bA v6.2.2]]),some (1,List.map rStr v4.1)]) ⟨[.old 0,.old 1,.old 2],ce j0 j0<|cv j0 (.mpt j0)<|cv j0 (.mpt j0)<|ce j0 j0<|ce j0 j0<|cn,j0,⟨⟨_,j0,rsOne ⟨ci j0,ci j0,ci j0,ci j0,ci j0,ci j0,j5⟩⟩,⟨_,j0,rsOne ⟨.msl j0,ci j0,ci j0,j5⟩⟩,⟨_,j0,rsMap (fun _=>j0)⟩,j5⟩,j0,j1⟩<|u<|mv j0<|u<|sc [1,2] (file_reader_truth_ok v4.1 v6.2.1 v6.2.2 q8) j0 j0 j0 j0 ⟨(.mpt j0),j5⟩ ⟨⟨_,j0,⟨(.msl j0),(rnI j0),(rnI j0),j5⟩⟩,⟨j0,mkI (fun _=>j0)⟩,j5⟩<|r_can (env0:=[(0,.isl 1 (List.map byteRow v1)),(2,.mpt 0 0 0),(4,.mpt 1 0 0),(28,sA v5.1),(30,sA v6.1),(32,bA v7.1)]) (st0:=[some (6,[[sA [],sA [],bA false,.lit (.slice none 0 0),.lit (.slice none 0 0),.lit (.slice none 0 0)]]),some (3,[[.msl 2 0 (List.length v4.1),.isl 1 (List.map byteRow v7.2.1),bA v7.2.2]]),some (1,List.map rStr v4.1)]) ⟨[.old 0,.old 1,.old 2],ce j0 j0<|cv j0 (.mpt j0)<|cv j0 (.mpt j0)<|ce j0 j0<|ce j0 j0<|ce j0 j0<|cn,j0,⟨⟨_,j0,rsOne ⟨ci j0,ci j0,ci j0,ci j0,ci j0,ci j0,j5⟩⟩,⟨_,j0,rsOne ⟨.msl j0,ci j0,ci j0,j5⟩⟩,⟨_,j0,rsMap (fun _=>j0)⟩,j5⟩,j0,j1⟩<|u<|mv j0<|u<|mv j0<|u<|mf j0 j0<|u<|sc [1,2] (file_read_string_s2_ok v4.1 v7.2.1 v7.2.2 q9) j0 j0 j0 j0 ⟨(.mpt j0),(rnFn ⟨(.mpt j0),j5⟩ j5),j5⟩ ⟨⟨_,j0,⟨(.msl j0),(rnI j0),(rnI j0),j5⟩⟩,⟨j0,mkI (fun _=>j0)⟩,j5⟩<|r_can (env0:=[(0,.isl 1 (List.map byteRow v1)),(2,.mpt 0 0 0),(4,.mpt 1 0 0),(28,sA v5.1),(30,sA v6.1),(32,bA v7.1),(36,.msl 3 0 (List.length v8.1))]) (st0:=[some (6,[[sA [],sA [],bA false,.lit (.slice none 0 0),.lit (.slice none 0 0),.lit (.slice none 0 0)]]),some (3,[[.msl 2 0 (List.length v4.1),.isl 1 (List.map byteRow v8.2.1),bA v8.2.2]]),some (1,List.map rStr v4.1),some (1,List.map rStr v8.1)]) ⟨[.old 0,.old 1,.old 2,.old 3],ce j0 j0<|cv j0 (.mpt j0)<|cv j0 (.mpt j0)<|ce j0 j0<|ce j0 j0<|ce j0 j0<|cv j0 (.msl j0)<|cn,j0,⟨⟨_,j0,rsOne ⟨ci j0,ci j0,ci j0,ci j0,ci j0,ci j0,j5⟩⟩,⟨_,j0,rsOne ⟨.msl j0,ci j0,ci j0,j5⟩⟩,⟨_,j0,rsMap (fun _=>j0)⟩,⟨_,j0,rsMap (fun _=>j0)⟩,j5⟩,j0,j1⟩<|u<|bd ti26 j0 j0 j0<|u<|al 4 ti26 j0<|u<|sto ti26 j0 j0 j0<|r_nil ?_
   obtain ⟨v9,q10,h⟩:=bs h
   obtain ⟨v10,q11,h⟩:=bs h
   refine rg j0<|u<|mv j0<|u<|mv j0<|u<|mf j0 j0<|u<|sc [1,2] (file_read_api_Field_ok v4.1 v8.2.1 v8.2.2 q10) j0 j0 j0 j0 ⟨(.mpt j0),(rnFn ⟨(.mpt j0),j5⟩ j5),j5⟩ ⟨⟨_,j0,⟨(.msl j0),(rnI j0),(rnI j0),j5⟩⟩,⟨j0,mkI (fun _=>j0)⟩,j5⟩<|r_can (env0:=[(0,.isl 1 (List.map byteRow v1)),(2,.mpt 0 0 0),(4,.mpt 1 0 0),(5,.mpt 3 0 0),(41,.msl 5 0 (List.length v9.1))]) (st0:=[some (6,[[sA [],sA [],bA false,.lit (.slice none 0 0),.lit (.slice none 0 0),.lit (.slice none 0 0)]]),some (3,[[.msl 2 0 (List.length v4.1),.isl 1 (List.map byteRow v9.2.1),bA v9.2.2]]),some (1,List.map rStr v4.1),some (6,[[sA v5.1,sA v6.1,bA v7.1,.msl 4 0 (List.length v8.1),.lit (.slice none 0 0),.lit (.slice none 0 0)]]),some (1,List.map rStr v8.1),some (3,List.map rApiField v9.1)]) ⟨[.old 0,.old 1,.old 2,.old 4,.old 3,.old 5],ce j0 j0<|cv j0 (.mpt j0)<|cv j0 (.mpt j0)<|cv j0 (.mpt j0)<|cv j0 (.msl j0)<|cn,j0,⟨⟨_,j0,rsOne ⟨ci j0,ci j0,ci j0,ci j0,ci j0,ci j0,j5⟩⟩,⟨_,j0,rsOne ⟨.msl j0,ci j0,ci j0,j5⟩⟩,⟨_,j0,rsMap (fun _=>j0)⟩,⟨_,j0,rsOne ⟨ci j0,ci j0,ci j0,.msl j0,ci j0,ci j0,j5⟩⟩,⟨_,j0,rsMap (fun _=>j0)⟩,⟨_,j0,rsMap (fun _=>j0)⟩,j5⟩,j0,j1⟩<|u<|mv j0<|u<|mv j0<|u<|mf j0 j0<|u<|sc [1,2] (file_read_api_Method_ok v4.1 v9.2.1 v9.2.2 q11) j0 j0 j0 j0 ⟨(.mpt j0),(rnFn ⟨(.mpt j0),j5⟩ j5),j5⟩ ⟨⟨_,j0,⟨(.msl j0),(rnI j0),(rnI j0),j5⟩⟩,⟨j0,mkI (fun _=>j0)⟩,j5⟩<|r_can (env0:=[(0,.isl 1 (List.map byteRow v1)),(2,.mpt 0 0 0),(4,.mpt 1 0 0),(5,.mpt 3 0 0),(41,.msl 5 0 (List.length v9.1)),(45,.msl 6 0 (List.length v10.1))]) (st0:=[some (6,[[sA [],sA [],bA false,.lit (.slice none 0 0),.lit (.slice none 0 0),.lit (.slice none 0 0)]]),some (3,[[.msl 2 0 (List.length v4.1),.isl 1 (List.map byteRow v10.2.1),bA v10.2.2]]),some (1,List.map rStr v4.1),some (6,[[sA v5.1,sA v6.1,bA v7.1,.msl 4 0 (List.length v8.1),.lit (.slice none 0 0),.lit (.slice none 0 0)]]),some (1,List.map rStr v8.1),some (3,List.map rApiField v9.1),some (10,List.map rApiMethod v10.1)]) ⟨[.old 0,.old 1,.old 2,.old 3,.old 4,.old 5,.old 6],ce j0 j0<|cv j0 (.mpt j0)<|cv j0 (.mpt j0)<|cv j0 (.mpt j0)<|cv j0 (.msl j0)<|cv j0 (.msl j0)<|cn,j0,⟨⟨_,j0,rsOne ⟨ci j0,ci j0,ci j0,ci j0,ci j0,ci j0,j5⟩⟩,⟨_,j0,rsOne ⟨.msl j0,ci j0,ci j0,j5⟩⟩,⟨_,j0,rsMap (fun _=>j0)⟩,⟨_,j0,rsOne ⟨ci j0,ci j0,ci j0,.msl j0,ci j0,ci j0,j5⟩⟩,⟨_,j0,rsMap (fun _=>j0)⟩,⟨_,j0,rsMap (fun _=>j0)⟩,⟨_,j0,rsMap (fun _=>j0)⟩,j5⟩,j0,j1⟩<|u<|fa ti26 j0 j0 j0<|u<|sto ti23 j0 j0 j0<|u<|fa ti26 j0 j0 j0<|u<|sto ti24 j0 j0 j0<|r_nil ?_
   refine sw_seq ?_
   refine rg j0<|u<|ld ti26 j0 j0<|r_can (env0:=[(0,.isl 1 (List.map byteRow v1)),(2,.mpt 0 0 0),(4,.mpt 1 0 0),(5,.mpt 3 0 0),(48,.agg [sA v5.1,sA v6.1,bA v7.1,.isl 1 (List.map rStr v8.1),.isl 3 (List.map rApiField v9.1),.isl 10 (List.map rApiMethod v10.1)])]) (st0:=[some (6,[[sA [],sA [],bA false,.lit (.slice none 0 0),.lit (.slice none 0 0),.lit (.slice none 0 0)]]),some (3,[[.msl 2 0 (List.length v4.1),.isl 1 (List.map byteRow v10.2.1),bA v10.2.2]]),some (1,List.map rStr v4.1),some (6,[[sA v5.1,sA v6.1,bA v7.1,.isl 1 (List.map rStr v8.1),.isl 3 (List.map rApiField v9.1),.isl 10 (List.map rApiMethod v10.1)]])]) ⟨[.old 0,.old 1,.old 2,.old 3],ce j0 j0<|cv j0 (.mpt j0)<|cv j0 (.mpt j0)<|cv j0 (.mpt j0)<|cv j0 (rsAgg ⟨ci j0,ci j0,ci j0,(rsSeal j0 j0 (fun _=>j0)),(rsSeal j0 j0 (fun _=>j0)),(rsSeal j0 j0 (fun _=>j0)),j5⟩)<|cn,j0,⟨⟨_,j0,rsOne ⟨ci j0,ci j0,ci j0,ci j0,ci j0,ci j0,j5⟩⟩,⟨_,j0,rsOne ⟨.msl j0,ci j0,ci j0,j5⟩⟩,⟨_,j0,rsMap (fun _=>j0)⟩,⟨_,j0,rsOne ⟨ci j0,ci j0,ci j0,rsSeal j0 j0 (fun _=>j0),rsSeal j0 j0 (fun _=>j0),rsSeal j0 j0 (fun _=>j0),j5⟩⟩,j5⟩,j0,j1⟩<|u<|?_
   obtain ⟨v11,q12,h⟩:=bs h
   rcases v11 with _ | v12
   ·
    replace h:=ocN h
    refine sc [] (file_EncodeO_okN (ApiClass.mk v5.1 v6.1 v7.1 v8.1 v9.1 v10.1) q12) j0 j0 j0 j0 ⟨(rnI j0),j5⟩ j5<|u<|asg j0<|r_nil ?_
    refine rg j0<|u<|mv j0<|u<|nc j0 j0<|u<|fa ti142 j0 j0 j0<|u<|ld ti4 j0 j0<|u<|mv j0<|r_or (j:=4) 2 j0 j0 j0 j0 j0 gpn (fun hb13=>g j0 hb13<|mv j0<|g j0 hb13<|eqnn ti29 j0 j0 j0<|r_nil (egO [55,56] 2 hb13 j0 j0 j0 j0)) orT<|u<|mv j0<|r_or (j:=8) 4 j0 j0 j0 j0 j0 gpn (fun hb14=>g j0 hb14<|mv j0<|g j0 hb14<|mv j0<|g j0 hb14<|pcs (bytes_Equal_ok [] v1 j0) j0 j0 (.cons (.nil) (.cons (si j0) .nil)) plainB<|g j0 hb14<|nt j0<|r_nil (egO [59,60,61,62] 4 hb14 j0 j0 j0 j0)) orT<|r_nil ?_
    refine sw_cond j0 (fun hc15=>?_) (fun hc15=>?_)
    ·
     replace h:=bT hc15 h
     refine rg j0<|u<|bd ti26 j0 j0 j0<|u<|sto ti26 j0 j0 j0<|u<|asg j0<|r_nil ?_
     refine sw_ret ?_
     obtain rfl:=sm h
     exact ⟨_,j0,[],rsTup ⟨(rsAgg ⟨ci j0,ci j0,ci j0,(.nil),(.nil),(.nil),j5⟩),(ci j0),j5⟩,j0,j5,j0,j1⟩
    ·
     replace h:=bF hc15 h
     refine sw_skip ?_
     refine rg j0<|u<|ld ti26 j0 j0<|u<|sto ti26 j0 j0 j0<|u<|asg j0<|r_nil ?_
     refine sw_ret ?_
     obtain rfl:=sm h
     exact ⟨_,j0,[],rsTup ⟨(ci j0),(ci j0),j5⟩,j0,j5,j0,j1⟩
   ·
    replace h:=ocS h
    refine sc [] (file_EncodeO_okS (ApiClass.mk v5.1 v6.1 v7.1 v8.1 v9.1 v10.1) q12) j0 j0 j0 j0 ⟨(rnI j0),j5⟩ j5<|u<|asg j0<|r_nil ?_
    obtain ⟨v14,q18,h⟩:=bs h
    refine rg j0<|u<|mv j0<|u<|nc j0 j0<|u<|fa ti142 j0 j0 j0<|u<|ld ti4 j0 j0<|u<|mv j0<|r_or (x:=v14) (j:=4) 2 j0 j0 j0 j0 j0 gpn (fun hb16=>by replace q18:=bF hb16 q18; obtain ⟨v13,q17,q18⟩:=bs q18; obtain rfl:=sm q18; exact g j0 hb16<|mv j0<|g j0 hb16<|eqnm ti29 j0 j0 j0 j0 (Nat.lt_of_le_of_lt (Nat.zero_le _) (idx_some q17).2.1)<|r_nil (eg [55,56] 2 j0 j0 j0 j0)) (fun hb=>(sm (bT hb q18)).symm)<|u<|mv j0<|r_or (j:=8) 4 j0 j0 j0 j0 j0 gpn (fun hb19=>g j0 hb19<|mv j0<|g j0 hb19<|mv j0<|g j0 hb19<|pcs (bytes_Equal_ok v12 v1 j0) j0 j0 (.cons (sealM j0 (fun _=>j0)) (.cons (si j0) .nil)) plainB<|g j0 hb19<|nt j0<|r_nil (egO [59,60,61,62] 4 hb19 j0 j0 j0 j0)) orT<|r_nil ?_
    refine sw_cond j0 (fun hc20=>?_) (fun hc20=>?_)
    ·
     replace h:=bT hc20 h
     refine rg j0<|u<|bd ti26 j0 j0 j0<|u<|sto ti26 j0 j0 j0<|u<|asg j0<|r_nil ?_
     refine sw_ret ?_
     obtain rfl:=sm h
     exact ⟨_,j0,[],rsTup ⟨(rsAgg ⟨ci j0,ci j0,ci j0,(.nil),(.nil),(.nil),j5⟩),(ci j0),j5⟩,j0,j5,j0,j1⟩
    ·
     replace h:=bF hc20 h
     refine sw_skip ?_
     refine rg j0<|u<|ld ti26 j0 j0<|u<|sto ti26 j0 j0 j0<|u<|asg j0<|r_nil ?_
     refine sw_ret ?_
     obtain rfl:=sm h
     exact ⟨_,j0,[],rsTup ⟨(ci j0),(ci j0),j5⟩,j0,j5,j0,j1⟩
end
end Go.Proofs.YthmnlfenkhmmhaaGreat
namespace Go.Proofs.YthmnlfenkhmmhaaGreat
noncomputable section
set_option linter.unusedSimpArgs false
set_option linter.unusedVariables false
set_option maxRecDepth 100000
set_option maxHeartbeats 4000000
def ref3_EqTexts_k2 : Option (Bool) :=
  some true
def ref3_EqTexts_l1 (v1 : List (List UInt8)) (v2 : List (List UInt8)) (v6 : Int) : Option (Sum (Int) (Sum (Unit) (Bool))) :=
  cond (decide (v6 < (List.length v1 : Int))) ((idx v1 v6).bind fun v7=>(idx v2 v6).bind fun v8=>cond (!(v7 == v8)) (some (.inr (.inr false))) (some (.inl (IntKind.i64.wrap (v6 + 1))))) (some (.inr (.inl ())))
def ref3_EqTexts (v1 : List (List UInt8)) (v2 : List (List UInt8)) : Option (Bool) :=
  cond (!((List.length v1 : Int) == (List.length v2 : Int))) (some false) ((loopP (fun z=>ref3_EqTexts_l1 v1 v2 z) 0).bind fun o=>leave o (fun b=>ref3_EqTexts_k2) some)
theorem ref3_EqTexts_ok (v1 : List (List UInt8)) (v2 : List (List UInt8)) {r : Bool} (h : ref3_EqTexts v1 v2 = some r) : PureC Tryz.prog 48 [.isl 1 (List.map rStr v1),.isl 1 (List.map rStr v2)] (bA r):=by
 refine pure_fn Tryz.func48 j0 (by kernel_rfl) j0 j0 ?_
 unfold ref3_EqTexts at h
 refine rg j0<|u<|asg j0<|r_nil ?_
 refine sw_seq ?_
 refine rg j0<|u<|mv j0<|u<|lnI ti22 j0 j0<|u<|mv j0<|u<|lnI ti22 j0 j0<|u<|neq ti3 j0 j0<|r_nil ?_
 refine sw_cond j0 (fun hc1=>?_) (fun hc1=>?_)
 ·
  replace h:=bT hc1 h
  refine rg j0<|u<|asg j0<|r_nil ?_
  refine sw_ret ?_
  obtain rfl:=sm h
  exact ⟨_,j0,[],ci j0,j0,j5,j0,j1⟩
 ·
  replace h:=bF hc1 h
  refine sw_skip ?_
  refine sw_seq ?_
  refine rg j0<|u<|asg j0<|r_nil ?_
  obtain ⟨o,ho,h⟩:=bs h
  refine sw_lpl (X:=Int) (B:=Unit) (R:=Bool) (fun z=>[(0,.isl 1 (List.map rStr v1)),(1,.isl 1 (List.map rStr v2)),(5,iA z)]) (fun z=>[]) (fun b=>[]) (fun b=>[]) (fun r env st=>PostF Tryz.prog Tryz.f48 0 (bA r) [] env st) ho ⟨[],ce j0 j0<|ce j0 j0<|ce j0 j0<|cn,j0,j5,j0,j1⟩ ?_ ?_ ?_
  ·
   rintro v6 r h
   replace h : ref3_EqTexts_l1 v1 v2 v6 = some r:=h
   unfold ref3_EqTexts_l1 at h
   refine sw_seq ?_
   refine rg j0<|u<|mv j0<|u<|mv j0<|u<|lnI ti22 j0 j0<|u<|lss ti3 j0 j0<|r_nil ?_
   refine sw_cond j0 (fun hc6=>?_) (fun hc6=>?_)
   ·
    replace h:=bT hc6 h
    refine sw_skip ?_
    refine sw_seq ?_
    refine sw_block ?_
    obtain ⟨v7,q7,h⟩:=bs h
    obtain ⟨v8,q8,h⟩:=bs h
    refine rd [(0,.isl 1 (List.map rStr v1)),(1,.isl 1 (List.map rStr v2)),(5,iA v6),(25,bA (!(v7 == v8)))] [] [] [8,7,6,5,4,3,2,1,0] [(25,bA (!(v7 == v8))),(24,sA v8),(23,.ipt 1 (List.map rStr v2) (Int.toNat v6) 0),(22,iA v6),(21,.isl 1 (List.map rStr v2)),(20,sA v7),(19,.ipt 1 (List.map rStr v1) (Int.toNat v6) 0),(18,iA v6),(17,.isl 1 (List.map rStr v1))] 0 (by kernel_rfl) (by kernel_rfl) j0 (by kernel_rfl) (dt0 ⟨(fun _=>pa j0 j0 j0 j0 (sne ti9 j0 j0<|j4)),(fun _=>pa j0 j0 j0 j0 (ldI ti9 j0 (idx_some q8).2.2 j0<|j4)),(fun _=>pa j0 j0 j0 j0 (ixI ti22 j0 ti9 j0 j0 j0 q8<|j4)),(fun _=>pa j0 j0 j0 j0 (mv j0<|j4)),(fun _=>pa j0 j0 j0 j0 (mv j0<|j4)),(fun _=>pa j0 j0 j0 j0 (ldI ti9 j0 (idx_some q7).2.2 j0<|j4)),(fun _=>pa j0 j0 j0 j0 (ixI ti22 j0 ti9 j0 j0 j0 q7<|j4)),(fun _=>pa j0 j0 j0 j0 (mv j0<|j4)),(fun _=>pa j0 j0 j0 j0 (mv j0<|j4)),j5⟩ (by kernel_rfl) j0 ⟨[],ce j0 j0<|ce j0 j0<|ce j0 j0<|ce j0 j0<|cn,j0,j5,j0,j1⟩) ?_
    refine sw_cond j0 (fun hc9=>?_) (fun hc9=>?_)
    ·
     replace h:=bT hc9 h
     refine rg j0<|u<|asg j0<|r_nil ?_
     refine sw_ret ?_
     obtain rfl:=sm h
     exact ⟨_,j0,_,j0,[],ci j0,j0,j5,j0,j1⟩
    ·
     replace h:=bF hc9 h
     refine sw_skip ?_
     refine rl j0<|u<|mv j0<|u<|add ti3 j0 j0<|u<|asg j0<|r_nil ?_
     obtain rfl:=sm h
     exact ⟨_,j0,[],ce j0 j0<|ce j0 j0<|ce j0 j0<|cn,j0,j5,j0,j1⟩
   ·
    replace h:=bF hc6 h
    refine sw_exit ?_
    obtain rfl:=sm h
    exact ⟨j0,_,j0,[],cn,j0,j5,j0,j1⟩
  ·
   rintro ⟨⟩ rfl
   replace h : ref3_EqTexts_k2 = some r:=h
   unfold ref3_EqTexts_k2 at h
   refine ow_intro ?_
   refine rg j0<|u<|asg j0<|r_nil ?_
   refine sw_ret ?_
   obtain rfl:=sm h
   exact ⟨_,j0,[],ci j0,j0,j5,j0,j1⟩
  ·
   rintro r' rfl env st hp
   obtain rfl:=sm h
   exact hp
def ref3_eqMethod_k6 : Option (Bool) :=
  some true
def ref3_eqMethod_l5 (v1 : ApiMethod) (v2 : ApiMethod) (v28 : Int) : Option (Sum (Int) (Sum (Unit) (Bool))) :=
  cond (decide (v28 < (List.length v1.Traps : Int))) ((idx v1.Traps v28).bind fun v29=>(idx v2.Traps v28).bind fun v30=>cond ((((!(v29.From == v30.From)) || (!(v29.To == v30.To))) || (!(v29.At == v30.At))) || (!(v29.C == v30.C))) (some (.inr (.inr false))) (some (.inl (IntKind.i64.wrap (v28 + 1))))) (some (.inr (.inl ())))
def ref3_eqMethod_k4 (v1 : ApiMethod) (v2 : ApiMethod) : Option (Bool) :=
  (loopP (fun z=>ref3_eqMethod_l5 v1 v2 z) 0).bind fun o=>leave o (fun b=>ref3_eqMethod_k6) some
def ref3_eqMethod_l3 (v1 : ApiMethod) (v2 : ApiMethod) (v18 : Int) : Option (Sum (Int) (Sum (Unit) (Bool))) :=
  cond (decide (v18 < (List.length v1.Maps : Int))) ((idx v1.Maps v18).bind fun v19=>(idx v2.Maps v18).bind fun v20=>(cond (!(v19.At == v20.At)) (some true) ((ref3_EqTexts v19.Locals v20.Locals).bind fun v21=>some (!v21))).bind fun v22=>(cond v22 (some true) ((ref3_EqTexts v19.Stack v20.Stack).bind fun v23=>some (!v23))).bind fun v24=>cond v24 (some (.inr (.inr false))) (some (.inl (IntKind.i64.wrap (v18 + 1))))) (some (.inr (.inl ())))
def ref3_eqMethod_k2 (v1 : ApiMethod) (v2 : ApiMethod) : Option (Bool) :=
  (loopP (fun z=>ref3_eqMethod_l3 v1 v2 z) 0).bind fun o=>leave o (fun b=>ref3_eqMethod_k4 v1 v2) some
def ref3_eqMethod_l1 (v1 : ApiMethod) (v2 : ApiMethod) (v8 : Int) : Option (Sum (Int) (Sum (Unit) (Bool))) :=
  cond (decide (v8 < (List.length v1.Code : Int))) ((idx v1.Code v8).bind fun v9=>(idx v2.Code v8).bind fun v10=>cond (!(ref3_EqIns v9 v10)) (some (.inr (.inr false))) (some (.inl (IntKind.i64.wrap (v8 + 1))))) (some (.inr (.inl ())))
def ref3_eqMethod (v1 : ApiMethod) (v2 : ApiMethod) : Option (Bool) :=
  (cond (!(v1.Name == v2.Name)) (some true) ((ref3_EqTexts v1.Params v2.Params).bind fun v3=>some (!v3))).bind fun v4=>cond ((((((((v4 || (!(v1.Ret == v2.Ret))) || (!(v1.Static == v2.Static))) || (!(v1.Abstract == v2.Abstract))) || (!(v1.Locals == v2.Locals))) || (!(v1.Stack == v2.Stack))) || (!((List.length v1.Code : Int) == (List.length v2.Code : Int)))) || (!((List.length v1.Maps : Int) == (List.length v2.Maps : Int)))) || (!((List.length v1.Traps : Int) == (List.length v2.Traps : Int)))) (some false) ((loopP (fun z=>ref3_eqMethod_l1 v1 v2 z) 0).bind fun o=>leave o (fun b=>ref3_eqMethod_k2 v1 v2) some)
theorem ref3_eqMethod_ok (v1 : ApiMethod) (v2 : ApiMethod) {r : Bool} (h : ref3_eqMethod v1 v2 = some r) : PureC Tryz.prog 92 [.agg [sA v1.Name,.isl 1 (List.map rStr v1.Params),sA v1.Ret,bA v1.Static,bA v1.Abstract,iA v1.Locals,iA v1.Stack,.isl 4 (List.map rApiIns v1.Code),.isl 3 (List.map rApiMap v1.Maps),.isl 4 (List.map rApiTrap v1.Traps)],.agg [sA v2.Name,.isl 1 (List.map rStr v2.Params),sA v2.Ret,bA v2.Static,bA v2.Abstract,iA v2.Locals,iA v2.Stack,.isl 4 (List.map rApiIns v2.Code),.isl 3 (List.map rApiMap v2.Maps),.isl 4 (List.map rApiTrap v2.Traps)]] (bA r):=by
 refine pure_fn Tryz.func92 j0 (by kernel_rfl) j0 j0 ?_
 unfold ref3_eqMethod at h
 refine rg j0<|u<|bx 0 10 j0 j0 j0 j0<|u<|bx 1 10 j0 j0 j0 j0<|u<|asg j0<|r_nil ?_
 refine sw_seq ?_
 obtain ⟨v4,q3,h⟩:=bs h
 refine rg j0<|u<|fa ti38 j0 j0 j0<|u<|ld ti9 j0 j0<|u<|fa ti38 j0 j0 j0<|u<|ld ti9 j0 j0<|u<|sne ti9 j0 j0<|u<|mv j0<|r_or (x:=v4) (j:=5) 6 j0 j0 j0 j0 j0 gpn (fun hb1=>by replace q3:=bF hb1 q3; obtain ⟨v3,q2,q3⟩:=bs q3; obtain rfl:=sm q3; exact g j0 hb1<|fa ti38 j0 j0 j0<|g j0 hb1<|ld ti22 j0 j0<|g j0 hb1<|fa ti38 j0 j0 j0<|g j0 hb1<|ld ti22 j0 j0<|g j0 hb1<|pc (ref3_EqTexts_ok v1.Params v2.Params q2) j0 j0 j0<|g j0 hb1<|nt j0<|r_nil (eg [18,19,20,21,22,23] 6 j0 j0 j0 j0)) (fun hb=>(sm (bT hb q3)).symm)<|u<|mv j0<|r_or (j:=13) 5 j0 j0 j0 j0 j0 gpn (fun hb4=>g j0 hb4<|fa ti38 j0 j0 j0<|g j0 hb4<|ld ti9 j0 j0<|g j0 hb4<|fa ti38 j0 j0 j0<|g j0 hb4<|ld ti9 j0 j0<|g j0 hb4<|sne ti9 j0 j0<|r_nil (egO [26,27,28,29,30] 5 hb4 j0 j0 j0 j0)) orT<|u<|mv j0<|r_or (j:=20) 5 j0 j0 j0 j0 j0 gpn (fun hb5=>g j0 hb5<|fa ti38 j0 j0 j0<|g j0 hb5<|ld ti4 j0 j0<|g j0 hb5<|fa ti38 j0 j0 j0<|g j0 hb5<|ld ti4 j0 j0<|g j0 hb5<|bne ti4 j0 j0 j0<|r_nil (egO [33,34,35,36,37] 5 hb5 j0 j0 j0 j0)) orT<|u<|mv j0<|r_or (j:=27) 5 j0 j0 j0 j0 j0 gpn (fun hb6=>g j0 hb6<|fa ti38 j0 j0 j0<|g j0 hb6<|ld ti4 j0 j0<|g j0 hb6<|fa ti38 j0 j0 j0<|g j0 hb6<|ld ti4 j0 j0<|g j0 hb6<|bne ti4 j0 j0 j0<|r_nil (egO [40,41,42,43,44] 5 hb6 j0 j0 j0 j0)) orT<|u<|mv j0<|r_or (j:=34) 5 j0 j0 j0 j0 j0 gpn (fun hb7=>g j0 hb7<|fa ti38 j0 j0 j0<|g j0 hb7<|ld ti3 j0 j0<|g j0 hb7<|fa ti38 j0 j0 j0<|g j0 hb7<|ld ti3 j0 j0<|g j0 hb7<|neq ti3 j0 j0<|r_nil (egO [47,48,49,50,51] 5 hb7 j0 j0 j0 j0)) orT<|u<|mv j0<|r_or (j:=41) 5 j0 j0 j0 j0 j0 gpn (fun hb8=>g j0 hb8<|fa ti38 j0 j0 j0<|g j0 hb8<|ld ti3 j0 j0<|g j0 hb8<|fa ti38 j0 j0 j0<|g j0 hb8<|ld ti3 j0 j0<|g j0 hb8<|neq ti3 j0 j0<|r_nil (egO [54,55,56,57,58] 5 hb8 j0 j0 j0 j0)) orT<|u<|mv j0<|r_or (j:=48) 7 j0 j0 j0 j0 j0 gpn (fun hb9=>g j0 hb9<|fa ti38 j0 j0 j0<|g j0 hb9<|ld ti34 j0 j0<|g j0 hb9<|lnI ti34 j0 j0<|g j0 hb9<|fa ti38 j0 j0 j0<|g j0 hb9<|ld ti34 j0 j0<|g j0 hb9<|lnI ti34 j0 j0<|g j0 hb9<|neq ti3 j0 j0<|r_nil (egO [61,62,63,64,65,66,67] 7 hb9 j0 j0 j0 j0)) orT<|u<|mv j0<|r_or (j:=57) 7 j0 j0 j0 j0 j0 gpn (fun hb10=>g j0 hb10<|fa ti38 j0 j0 j0<|g j0 hb10<|ld ti35 j0 j0<|g j0 hb10<|lnI ti35 j0 j0<|g j0 hb10<|fa ti38 j0 j0 j0<|g j0 hb10<|ld ti35 j0 j0<|g j0 hb10<|lnI ti35 j0 j0<|g j0 hb10<|neq ti3 j0 j0<|r_nil (egO [70,71,72,73,74,75,76] 7 hb10 j0 j0 j0 j0)) orT<|u<|mv j0<|r_or (j:=66) 7 j0 j0 j0 j0 j0 gpn (fun hb11=>g j0 hb11<|fa ti38 j0 j0 j0<|g j0 hb11<|ld ti36 j0 j0<|g j0 hb11<|lnI ti36 j0 j0<|g j0 hb11<|fa ti38 j0 j0 j0<|g j0 hb11<|ld ti36 j0 j0<|g j0 hb11<|lnI ti36 j0 j0<|g j0 hb11<|neq ti3 j0 j0<|r_nil (egO [79,80,81,82,83,84,85] 7 hb11 j0 j0 j0 j0)) orT<|r_nil ?_
 refine sw_cond j0 (fun hc12=>?_) (fun hc12=>?_)
 ·
  replace h:=bT hc12 h
  refine rg j0<|u<|asg j0<|r_nil ?_
  refine sw_ret ?_
  obtain rfl:=sm h
  exact ⟨_,j0,[],ci j0,j0,j5,j0,j1⟩
 ·
  replace h:=bF hc12 h
  refine sw_skip ?_
  refine sw_seq ?_
  refine rg j0<|u<|asg j0<|r_nil ?_
  obtain ⟨o,ho,h⟩:=bs h
  refine sw_lpl (X:=Int) (B:=Unit) (R:=Bool) (fun z=>[(2,.mpt 0 0 0),(3,.mpt 1 0 0),(5,iA z)]) (fun z=>[some (10,[[sA v1.Name,.isl 1 (List.map rStr v1.Params),sA v1.Ret,bA v1.Static,bA v1.Abstract,iA v1.Locals,iA v1.Stack,.isl 4 (List.map rApiIns v1.Code),.isl 3 (List.map rApiMap v1.Maps),.isl 4 (List.map rApiTrap v1.Traps)]]),some (10,[[sA v2.Name,.isl 1 (List.map rStr v2.Params),sA v2.Ret,bA v2.Static,bA v2.Abstract,iA v2.Locals,iA v2.Stack,.isl 4 (List.map rApiIns v2.Code),.isl 3 (List.map rApiMap v2.Maps),.isl 4 (List.map rApiTrap v2.Traps)]])]) (fun b=>[(2,.mpt 0 0 0),(3,.mpt 1 0 0)]) (fun b=>[some (10,[[sA v1.Name,.isl 1 (List.map rStr v1.Params),sA v1.Ret,bA v1.Static,bA v1.Abstract,iA v1.Locals,iA v1.Stack,.isl 4 (List.map rApiIns v1.Code),.isl 3 (List.map rApiMap v1.Maps),.isl 4 (List.map rApiTrap v1.Traps)]]),some (10,[[sA v2.Name,.isl 1 (List.map rStr v2.Params),sA v2.Ret,bA v2.Static,bA v2.Abstract,iA v2.Locals,iA v2.Stack,.isl 4 (List.map rApiIns v2.Code),.isl 3 (List.map rApiMap v2.Maps),.isl 4 (List.map rApiTrap v2.Traps)]])]) (fun r env st=>PostF Tryz.prog Tryz.f92 0 (bA r) [] env st) ho ⟨[.old 0,.old 1],cv j0 (.mpt j0)<|cv j0 (.mpt j0)<|ce j0 j0<|cn,j0,⟨⟨_,j0,rsOne ⟨ci j0,ci j0,ci j0,ci j0,ci j0,ci j0,ci j0,ci j0,ci j0,ci j0,j5⟩⟩,⟨_,j0,rsOne ⟨ci j0,ci j0,ci j0,ci j0,ci j0,ci j0,ci j0,ci j0,ci j0,ci j0,j5⟩⟩,j5⟩,j0,j1⟩ ?_ ?_ ?_
  ·
   rintro v8 r h
   replace h : ref3_eqMethod_l1 v1 v2 v8 = some r:=h
   unfold ref3_eqMethod_l1 at h
   refine sw_seq ?_
   refine rg j0<|u<|mv j0<|u<|fa ti38 j0 j0 j0<|u<|ld ti34 j0 j0<|u<|lnI ti34 j0 j0<|u<|lss ti3 j0 j0<|r_nil ?_
   refine sw_cond j0 (fun hc17=>?_) (fun hc17=>?_)
   ·
    replace h:=bT hc17 h
    refine sw_skip ?_
    refine sw_seq ?_
    refine sw_block ?_
    obtain ⟨v9,q18,h⟩:=bs h
    obtain ⟨v10,q19,h⟩:=bs h
    refine rd [(2,.mpt 0 0 0),(3,.mpt 1 0 0),(5,iA v8),(105,bA (!(ref3_EqIns v9 v10)))] [some (10,[[sA v1.Name,.isl 1 (List.map rStr v1.Params),sA v1.Ret,bA v1.Static,bA v1.Abstract,iA v1.Locals,iA v1.Stack,.isl 4 (List.map rApiIns v1.Code),.isl 3 (List.map rApiMap v1.Maps),.isl 4 (List.map rApiTrap v1.Traps)]]),some (10,[[sA v2.Name,.isl 1 (List.map rStr v2.Params),sA v2.Ret,bA v2.Static,bA v2.Abstract,iA v2.Locals,iA v2.Stack,.isl 4 (List.map rApiIns v2.Code),.isl 3 (List.map rApiMap v2.Maps),.isl 4 (List.map rApiTrap v2.Traps)]])] [] [11,10,9,8,7,6,5,4,3,2,1,0] [(105,bA (!(ref3_EqIns v9 v10))),(104,bA (ref3_EqIns v9 v10)),(103,.agg [iA v10.Op,iA v10.A,sA v10.C,sA v10.M]),(102,.ipt 4 (List.map rApiIns v2.Code) (Int.toNat v8) 0),(101,iA v8),(100,.isl 4 (List.map rApiIns v2.Code)),(99,.mpt 1 0 7),(98,.agg [iA v9.Op,iA v9.A,sA v9.C,sA v9.M]),(97,.ipt 4 (List.map rApiIns v1.Code) (Int.toNat v8) 0),(96,iA v8),(95,.isl 4 (List.map rApiIns v1.Code)),(94,.mpt 0 0 7)] 0 (by kernel_rfl) (by kernel_rfl) j0 (by kernel_rfl) (dt0 ⟨(fun _=>pa j0 j0 j0 j0 (nt j0<|j4)),(fun _=>pa j0 j0 j0 j0 (pc (ref3_EqIns_ok v9 v10 j0) j0 j0 j0<|j4)),(fun _=>pa j0 j0 j0 j0 (ldI ti40 j0 (idx_some q19).2.2 j0<|j4)),(fun _=>pa j0 j0 j0 j0 (ixI ti34 j0 ti40 j0 j0 j0 q19<|j4)),(fun _=>pa j0 j0 j0 j0 (mv j0<|j4)),(fun _=>pa j0 j0 j0 j0 (ld ti34 j0 j0<|j4)),(fun _=>pa j0 j0 j0 j0 (fa ti38 j0 j0 j0<|j4)),(fun _=>pa j0 j0 j0 j0 (ldI ti40 j0 (idx_some q18).2.2 j0<|j4)),(fun _=>pa j0 j0 j0 j0 (ixI ti34 j0 ti40 j0 j0 j0 q18<|j4)),(fun _=>pa j0 j0 j0 j0 (mv j0<|j4)),(fun _=>pa j0 j0 j0 j0 (ld ti34 j0 j0<|j4)),(fun _=>pa j0 j0 j0 j0 (fa ti38 j0 j0 j0<|j4)),j5⟩ (by kernel_rfl) j0 ⟨[.old 0,.old 1],cv j0 (.mpt j0)<|cv j0 (.mpt j0)<|ce j0 j0<|ce j0 j0<|cn,j0,⟨⟨_,j0,rsOne ⟨ci j0,ci j0,ci j0,ci j0,ci j0,ci j0,ci j0,ci j0,ci j0,ci j0,j5⟩⟩,⟨_,j0,rsOne ⟨ci j0,ci j0,ci j0,ci j0,ci j0,ci j0,ci j0,ci j0,ci j0,ci j0,j5⟩⟩,j5⟩,j0,j1⟩) ?_
    refine sw_cond j0 (fun hc20=>?_) (fun hc20=>?_)
    ·
     replace h:=bT hc20 h
     refine rg j0<|u<|asg j0<|r_nil ?_
     refine sw_ret ?_
     obtain rfl:=sm h
     exact ⟨_,j0,_,j0,[],ci j0,j0,j5,j0,j1⟩
    ·
     replace h:=bF hc20 h
     refine sw_skip ?_
     refine rl j0<|u<|mv j0<|u<|add ti3 j0 j0<|u<|asg j0<|r_nil ?_
     obtain rfl:=sm h
     exact ⟨_,j0,[.old 0,.old 1],cv j0 (.mpt j0)<|cv j0 (.mpt j0)<|ce j0 j0<|cn,j0,⟨⟨_,j0,rsOne ⟨ci j0,ci j0,ci j0,ci j0,ci j0,ci j0,ci j0,ci j0,ci j0,ci j0,j5⟩⟩,⟨_,j0,rsOne ⟨ci j0,ci j0,ci j0,ci j0,ci j0,ci j0,ci j0,ci j0,ci j0,ci j0,j5⟩⟩,j5⟩,j0,j1⟩
   ·
    replace h:=bF hc17 h
    refine sw_exit ?_
    obtain rfl:=sm h
    exact ⟨j0,_,j0,[.old 0,.old 1],cv j0 (.mpt j0)<|cv j0 (.mpt j0)<|cn,j0,⟨⟨_,j0,rsOne ⟨ci j0,ci j0,ci j0,ci j0,ci j0,ci j0,ci j0,ci j0,ci j0,ci j0,j5⟩⟩,⟨_,j0,rsOne ⟨ci j0,ci j0,ci j0,ci j0,ci j0,ci j0,ci j0,ci j0,ci j0,ci j0,j5⟩⟩,j5⟩,j0,j1⟩
  ·
   rintro ⟨⟩ rfl
   replace h : ref3_eqMethod_k2 v1 v2 = some r:=h
   unfold ref3_eqMethod_k2 at h
   refine ow_intro ?_
   refine sw_seq ?_
   refine rg j0<|u<|asg j0<|r_nil ?_
   obtain ⟨o,ho,h⟩:=bs h
   refine sw_lpl (X:=Int) (B:=Unit) (R:=Bool) (fun z=>[(2,.mpt 0 0 0),(3,.mpt 1 0 0),(6,iA z)]) (fun z=>[some (10,[[sA v1.Name,.isl 1 (List.map rStr v1.Params),sA v1.Ret,bA v1.Static,bA v1.Abstract,iA v1.Locals,iA v1.Stack,.isl 4 (List.map rApiIns v1.Code),.isl 3 (List.map rApiMap v1.Maps),.isl 4 (List.map rApiTrap v1.Traps)]]),some (10,[[sA v2.Name,.isl 1 (List.map rStr v2.Params),sA v2.Ret,bA v2.Static,bA v2.Abstract,iA v2.Locals,iA v2.Stack,.isl 4 (List.map rApiIns v2.Code),.isl 3 (List.map rApiMap v2.Maps),.isl 4 (List.map rApiTrap v2.Traps)]])]) (fun b=>[(2,.mpt 0 0 0),(3,.mpt 1 0 0)]) (fun b=>[some (10,[[sA v1.Name,.isl 1 (List.map rStr v1.Params),sA v1.Ret,bA v1.Static,bA v1.Abstract,iA v1.Locals,iA v1.Stack,.isl 4 (List.map rApiIns v1.Code),.isl 3 (List.map rApiMap v1.Maps),.isl 4 (List.map rApiTrap v1.Traps)]]),some (10,[[sA v2.Name,.isl 1 (List.map rStr v2.Params),sA v2.Ret,bA v2.Static,bA v2.Abstract,iA v2.Locals,iA v2.Stack,.isl 4 (List.map rApiIns v2.Code),.isl 3 (List.map rApiMap v2.Maps),.isl 4 (List.map rApiTrap v2.Traps)]])]) (fun r env st=>PostF Tryz.prog Tryz.f92 0 (bA r) [] env st) ho ⟨[.old 0,.old 1],cv j0 (.mpt j0)<|cv j0 (.mpt j0)<|ce j0 j0<|cn,j0,⟨⟨_,j0,rsOne ⟨ci j0,ci j0,ci j0,ci j0,ci j0,ci j0,ci j0,ci j0,ci j0,ci j0,j5⟩⟩,⟨_,j0,rsOne ⟨ci j0,ci j0,ci j0,ci j0,ci j0,ci j0,ci j0,ci j0,ci j0,ci j0,j5⟩⟩,j5⟩,j0,j1⟩ ?_ ?_ ?_
   ·
    rintro v18 r h
    replace h : ref3_eqMethod_l3 v1 v2 v18 = some r:=h
    unfold ref3_eqMethod_l3 at h
    refine sw_seq ?_
    refine rg j0<|u<|mv j0<|u<|fa ti38 j0 j0 j0<|u<|ld ti35 j0 j0<|u<|lnI ti35 j0 j0<|u<|lss ti3 j0 j0<|r_nil ?_
    refine sw_cond j0 (fun hc31=>?_) (fun hc31=>?_)
    ·
     replace h:=bT hc31 h
     refine sw_skip ?_
     refine sw_seq ?_
     refine sw_block ?_
     obtain ⟨v19,q32,h⟩:=bs h
     obtain ⟨v20,q33,h⟩:=bs h
     refine rd [(2,.mpt 0 0 0),(3,.mpt 1 0 0),(6,iA v18),(7,.mpt 2 0 0),(8,.mpt 3 0 0)] [some (10,[[sA v1.Name,.isl 1 (List.map rStr v1.Params),sA v1.Ret,bA v1.Static,bA v1.Abstract,iA v1.Locals,iA v1.Stack,.isl 4 (List.map rApiIns v1.Code),.isl 3 (List.map rApiMap v1.Maps),.isl 4 (List.map rApiTrap v1.Traps)]]),some (10,[[sA v2.Name,.isl 1 (List.map rStr v2.Params),sA v2.Ret,bA v2.Static,bA v2.Abstract,iA v2.Locals,iA v2.Stack,.isl 4 (List.map rApiIns v2.Code),.isl 3 (List.map rApiMap v2.Maps),.isl 4 (List.map rApiTrap v2.Traps)]]),some (3,[[iA v19.At,.isl 1 (List.map rStr v19.Locals),.isl 1 (List.map rStr v19.Stack)]]),some (3,[[iA v20.At,.isl 1 (List.map rStr v20.Locals),.isl 1 (List.map rStr v20.Stack)]])] [10,11,12,13] [9,8,7,6,5,4,3,2,1,0] [(122,.agg [iA v20.At,.isl 1 (List.map rStr v20.Locals),.isl 1 (List.map rStr v20.Stack)]),(121,.ipt 3 (List.map rApiMap v2.Maps) (Int.toNat v18) 0),(120,iA v18),(119,.isl 3 (List.map rApiMap v2.Maps)),(118,.mpt 1 0 8),(117,.agg [iA v19.At,.isl 1 (List.map rStr v19.Locals),.isl 1 (List.map rStr v19.Stack)]),(116,.ipt 3 (List.map rApiMap v1.Maps) (Int.toNat v18) 0),(115,iA v18),(114,.isl 3 (List.map rApiMap v1.Maps)),(113,.mpt 0 0 8)] 4 (by kernel_rfl) (by kernel_rfl) j0 (by kernel_rfl) (dtS ⟨(fun _=>pa j0 j0 j0 j0 (ldI ti80 j0 (idx_some q33).2.2 j0<|j4)),(fun _=>pa j0 j0 j0 j0 (ixI ti35 j0 ti80 j0 j0 j0 q33<|j4)),(fun _=>pa j0 j0 j0 j0 (mv j0<|j4)),(fun _=>pa j0 j0 j0 j0 (ld ti35 j0 j0<|j4)),(fun _=>pa j0 j0 j0 j0 (fa ti38 j0 j0 j0<|j4)),(fun _=>pa j0 j0 j0 j0 (ldI ti80 j0 (idx_some q32).2.2 j0<|j4)),(fun _=>pa j0 j0 j0 j0 (ixI ti35 j0 ti80 j0 j0 j0 q32<|j4)),(fun _=>pa j0 j0 j0 j0 (mv j0<|j4)),(fun _=>pa j0 j0 j0 j0 (ld ti35 j0 j0<|j4)),(fun _=>pa j0 j0 j0 j0 (fa ti38 j0 j0 j0<|j4)),j5⟩ (by kernel_rfl) j0 ⟨(fun _ _=>⟨_,j0,j0,al 2 ti80 j0<|⟨(.mpt 2 0 0),[],[(7,.mpt 2 0 0)],j0,j0,by kernel_rfl,j0,dtS ⟨(fun _=>pa j0 j0 j0 j0 (ldI ti80 j0 (idx_some q33).2.2 j0<|j4)),(fun _=>pa j0 j0 j0 j0 (ixI ti35 j0 ti80 j0 j0 j0 q33<|j4)),(fun _=>pa j0 j0 j0 j0 (mv j0<|j4)),(fun _=>pa j0 j0 j0 j0 (ld ti35 j0 j0<|j4)),(fun _=>pa j0 j0 j0 j0 (fa ti38 j0 j0 j0<|j4)),(fun _=>pa j0 j0 j0 j0 (ldI ti80 j0 (idx_some q32).2.2 j0<|j4)),(fun _=>pa j0 j0 j0 j0 (ixI ti35 j0 ti80 j0 j0 j0 q32<|j4)),(fun _=>pa j0 j0 j0 j0 (mv j0<|j4)),(fun _=>pa j0 j0 j0 j0 (ld ti35 j0 j0<|j4)),(fun _=>pa j0 j0 j0 j0 (fa ti38 j0 j0 j0<|j4)),j5⟩ (by kernel_rfl) j0 ⟨(fun h=>by cases h),(fun _ _=>⟨_,j0,j0,al 3 ti80 j0<|⟨(.mpt 3 0 0),[],[(8,.mpt 3 0 0)],j0,j0,by kernel_rfl,j0,dtS ⟨(fun _=>pa j0 j0 j0 j0 (ldI ti80 j0 (idx_some q33).2.2 j0<|j4)),(fun _=>pa j0 j0 j0 j0 (ixI ti35 j0 ti80 j0 j0 j0 q33<|j4)),(fun _=>pa j0 j0 j0 j0 (mv j0<|j4)),(fun _=>pa j0 j0 j0 j0 (ld ti35 j0 j0<|j4)),(fun _=>pa j0 j0 j0 j0 (fa ti38 j0 j0 j0<|j4)),(fun _=>pa j0 j0 j0 j0 (ldI ti80 j0 (idx_some q32).2.2 j0<|j4)),(fun _=>pa j0 j0 j0 j0 (ixI ti35 j0 ti80 j0 j0 j0 q32<|j4)),(fun _=>pa j0 j0 j0 j0 (mv j0<|j4)),(fun _=>pa j0 j0 j0 j0 (ld ti35 j0 j0<|j4)),(fun _=>pa j0 j0 j0 j0 (fa ti38 j0 j0 j0<|j4)),j5⟩ (by kernel_rfl) j0 ⟨(fun h=>by cases h),(fun h=>by cases h),(fun _ _=>⟨_,j0,j0,sto ti80 j0 j0 j0<|⟨.any,[],[],j0,j0,by kernel_rfl,j5,dtS ⟨(fun _=>pa j0 j0 j0 j0 (ldI ti80 j0 (idx_some q33).2.2 j0<|j4)),(fun _=>pa j0 j0 j0 j0 (ixI ti35 j0 ti80 j0 j0 j0 q33<|j4)),(fun _=>pa j0 j0 j0 j0 (mv j0<|j4)),(fun _=>pa j0 j0 j0 j0 (ld ti35 j0 j0<|j4)),(fun _=>pa j0 j0 j0 j0 (fa ti38 j0 j0 j0<|j4)),(fun h=>by cases h),(fun h=>by cases h),(fun h=>by cases h),(fun h=>by cases h),(fun h=>by cases h),j5⟩ (by kernel_rfl) j0 ⟨(fun h=>by cases h),(fun h=>by cases h),(fun h=>by cases h),(fun _ _=>⟨_,j0,j0,sto ti80 j0 j0 j0<|⟨.any,[],[],j0,j0,by kernel_rfl,j5,dt0 ⟨(fun h=>by cases h),(fun h=>by cases h),(fun h=>by cases h),(fun h=>by cases h),(fun h=>by cases h),(fun h=>by cases h),(fun h=>by cases h),(fun h=>by cases h),(fun h=>by cases h),(fun h=>by cases h),j5⟩ (by kernel_rfl) j0 ⟨[.old 0,.old 1,.old 2,.old 3],cv j0 (.mpt j0)<|cv j0 (.mpt j0)<|ce j0 j0<|cv j0 (.mpt j0)<|cv j0 (.mpt j0)<|cn,j0,⟨⟨_,j0,rsOne ⟨ci j0,ci j0,ci j0,ci j0,ci j0,ci j0,ci j0,ci j0,ci j0,ci j0,j5⟩⟩,⟨_,j0,rsOne ⟨ci j0,ci j0,ci j0,ci j0,ci j0,ci j0,ci j0,ci j0,ci j0,ci j0,j5⟩⟩,⟨_,j0,rsOne ⟨ci j0,ci j0,ci j0,j5⟩⟩,⟨_,j0,rsOne ⟨ci j0,ci j0,ci j0,j5⟩⟩,j5⟩,j0,j1⟩⟩⟩),j5⟩⟩⟩),(fun _ h=>by cases h),j5⟩⟩⟩),(fun _ h=>by cases h),(fun _ h=>by cases h),j5⟩⟩⟩),(fun _ _=>⟨_,j0,j0,al 2 ti80 j0<|⟨(.mpt 2 0 0),[],[(8,.mpt 2 0 0)],j0,j0,by kernel_rfl,j0,dtS ⟨(fun _=>pa j0 j0 j0 j0 (ldI ti80 j0 (idx_some q33).2.2 j0<|j4)),(fun _=>pa j0 j0 j0 j0 (ixI ti35 j0 ti80 j0 j0 j0 q33<|j4)),(fun _=>pa j0 j0 j0 j0 (mv j0<|j4)),(fun _=>pa j0 j0 j0 j0 (ld ti35 j0 j0<|j4)),(fun _=>pa j0 j0 j0 j0 (fa ti38 j0 j0 j0<|j4)),(fun _=>pa j0 j0 j0 j0 (ldI ti80 j0 (idx_some q32).2.2 j0<|j4)),(fun _=>pa j0 j0 j0 j0 (ixI ti35 j0 ti80 j0 j0 j0 q32<|j4)),(fun _=>pa j0 j0 j0 j0 (mv j0<|j4)),(fun _=>pa j0 j0 j0 j0 (ld ti35 j0 j0<|j4)),(fun _=>pa j0 j0 j0 j0 (fa ti38 j0 j0 j0<|j4)),j5⟩ (by kernel_rfl) j0 ⟨(fun _ _=>⟨_,j0,j0,al 3 ti80 j0<|⟨(.mpt 3 0 0),[],[(7,.mpt 3 0 0)],j0,j0,by kernel_rfl,j0,dtS ⟨(fun _=>pa j0 j0 j0 j0 (ldI ti80 j0 (idx_some q33).2.2 j0<|j4)),(fun _=>pa j0 j0 j0 j0 (ixI ti35 j0 ti80 j0 j0 j0 q33<|j4)),(fun _=>pa j0 j0 j0 j0 (mv j0<|j4)),(fun _=>pa j0 j0 j0 j0 (ld ti35 j0 j0<|j4)),(fun _=>pa j0 j0 j0 j0 (fa ti38 j0 j0 j0<|j4)),(fun _=>pa j0 j0 j0 j0 (ldI ti80 j0 (idx_some q32).2.2 j0<|j4)),(fun _=>pa j0 j0 j0 j0 (ixI ti35 j0 ti80 j0 j0 j0 q32<|j4)),(fun _=>pa j0 j0 j0 j0 (mv j0<|j4)),(fun _=>pa j0 j0 j0 j0 (ld ti35 j0 j0<|j4)),(fun _=>pa j0 j0 j0 j0 (fa ti38 j0 j0 j0<|j4)),j5⟩ (by kernel_rfl) j0 ⟨(fun h=>by cases h),(fun h=>by cases h),(fun _ _=>⟨_,j0,j0,sto ti80 j0 j0 j0<|⟨.any,[],[],j0,j0,by kernel_rfl,j5,dtS ⟨(fun _=>pa j0 j0 j0 j0 (ldI ti80 j0 (idx_some q33).2.2 j0<|j4)),(fun _=>pa j0 j0 j0 j0 (ixI ti35 j0 ti80 j0 j0 j0 q33<|j4)),(fun _=>pa j0 j0 j0 j0 (mv j0<|j4)),(fun _=>pa j0 j0 j0 j0 (ld ti35 j0 j0<|j4)),(fun _=>pa j0 j0 j0 j0 (fa ti38 j0 j0 j0<|j4)),(fun h=>by cases h),(fun h=>by cases h),(fun h=>by cases h),(fun h=>by cases h),(fun h=>by cases h),j5⟩ (by kernel_rfl) j0 ⟨(fun h=>by cases h),(fun h=>by cases h),(fun h=>by cases h),(fun _ _=>⟨_,j0,j0,sto ti80 j0 j0 j0<|⟨.any,[],[],j0,j0,by kernel_rfl,j5,dt0 ⟨(fun h=>by cases h),(fun h=>by cases h),(fun h=>by cases h),(fun h=>by cases h),(fun h=>by cases h),(fun h=>by cases h),(fun h=>by cases h),(fun h=>by cases h),(fun h=>by cases h),(fun h=>by cases h),j5⟩ (by kernel_rfl) j0 ⟨[.old 0,.old 1,.old 3,.old 2],cv j0 (.mpt j0)<|cv j0 (.mpt j0)<|ce j0 j0<|cv j0 (.mpt j0)<|cv j0 (.mpt j0)<|cn,j0,⟨⟨_,j0,rsOne ⟨ci j0,ci j0,ci j0,ci j0,ci j0,ci j0,ci j0,ci j0,ci j0,ci j0,j5⟩⟩,⟨_,j0,rsOne ⟨ci j0,ci j0,ci j0,ci j0,ci j0,ci j0,ci j0,ci j0,ci j0,ci j0,j5⟩⟩,⟨_,j0,rsOne ⟨ci j0,ci j0,ci j0,j5⟩⟩,⟨_,j0,rsOne ⟨ci j0,ci j0,ci j0,j5⟩⟩,j5⟩,j0,j1⟩⟩⟩),j5⟩⟩⟩),(fun _ h=>by cases h),j5⟩⟩⟩),(fun h=>by cases h),(fun _ h=>by cases h),(fun _ h=>by cases h),j5⟩⟩⟩),(fun _ h=>by cases h),(fun _ h=>by cases h),j5⟩) ?_
     obtain ⟨v22,q36,h⟩:=bs h
     obtain ⟨v24,q39,h⟩:=bs h
     refine rg j0<|u<|fa ti80 j0 j0 j0<|u<|ld ti3 j0 j0<|u<|fa ti80 j0 j0 j0<|u<|ld ti3 j0 j0<|u<|neq ti3 j0 j0<|u<|mv j0<|r_or (x:=v22) (j:=5) 6 j0 j0 j0 j0 j0 gpn (fun hb34=>by replace q36:=bF hb34 q36; obtain ⟨v21,q35,q36⟩:=bs q36; obtain rfl:=sm q36; exact g j0 hb34<|fa ti80 j0 j0 j0<|g j0 hb34<|ld ti22 j0 j0<|g j0 hb34<|fa ti80 j0 j0 j0<|g j0 hb34<|ld ti22 j0 j0<|g j0 hb34<|pc (ref3_EqTexts_ok v19.Locals v20.Locals q35) j0 j0 j0<|g j0 hb34<|nt j0<|r_nil (eg [129,130,131,132,133,134] 6 j0 j0 j0 j0)) (fun hb=>(sm (bT hb q36)).symm)<|u<|mv j0<|r_or (x:=v24) (j:=13) 6 j0 j0 j0 j0 j0 gpn (fun hb37=>by replace q39:=bF hb37 q39; obtain ⟨v23,q38,q39⟩:=bs q39; obtain rfl:=sm q39; exact g j0 hb37<|fa ti80 j0 j0 j0<|g j0 hb37<|ld ti22 j0 j0<|g j0 hb37<|fa ti80 j0 j0 j0<|g j0 hb37<|ld ti22 j0 j0<|g j0 hb37<|pc (ref3_EqTexts_ok v19.Stack v20.Stack q38) j0 j0 j0<|g j0 hb37<|nt j0<|r_nil (eg [137,138,139,140,141,142] 6 j0 j0 j0 j0)) (fun hb=>(sm (bT hb q39)).symm)<|r_nil ?_
     refine sw_cond j0 (fun hc40=>?_) (fun hc40=>?_)
     ·
      replace h:=bT hc40 h
      refine rg j0<|u<|asg j0<|r_nil ?_
      refine sw_ret ?_
      obtain rfl:=sm h
      exact ⟨_,j0,_,j0,[],ci j0,j0,j5,j0,j1⟩
     ·
      replace h:=bF hc40 h
      refine sw_skip ?_
      refine rl j0<|u<|mv j0<|u<|add ti3 j0 j0<|u<|asg j0<|r_nil ?_
      obtain rfl:=sm h
      exact ⟨_,j0,[.old 0,.old 1],cv j0 (.mpt j0)<|cv j0 (.mpt j0)<|ce j0 j0<|cn,j0,⟨⟨_,j0,rsOne ⟨ci j0,ci j0,ci j0,ci j0,ci j0,ci j0,ci j0,ci j0,ci j0,ci j0,j5⟩⟩,⟨_,j0,rsOne ⟨ci j0,ci j0,ci j0,ci j0,ci j0,ci j0,ci j0,ci j0,ci j0,ci j0,j5⟩⟩,j5⟩,j0,j1⟩
    ·
     replace h:=bF hc31 h
     refine sw_exit ?_
     obtain rfl:=sm h
     exact ⟨j0,_,j0,[.old 0,.old 1],cv j0 (.mpt j0)<|cv j0 (.mpt j0)<|cn,j0,⟨⟨_,j0,rsOne ⟨ci j0,ci j0,ci j0,ci j0,ci j0,ci j0,ci j0,ci j0,ci j0,ci j0,j5⟩⟩,⟨_,j0,rsOne ⟨ci j0,ci j0,ci j0,ci j0,ci j0,ci j0,ci j0,ci j0,ci j0,ci j0,j5⟩⟩,j5⟩,j0,j1⟩
   ·
    rintro ⟨⟩ rfl
    replace h : ref3_eqMethod_k4 v1 v2 = some r:=h
    unfold ref3_eqMethod_k4 at h
    refine ow_intro ?_
    refine sw_seq ?_
    refine rg j0<|u<|asg j0<|r_nil ?_
    obtain ⟨o,ho,h⟩:=bs h
    refine sw_lpl (X:=Int) (B:=Unit) (R:=Bool) (fun z=>[(2,.mpt 0 0 0),(3,.mpt 1 0 0),(9,iA z)]) (fun z=>[some (10,[[sA v1.Name,.isl 1 (List.map rStr v1.Params),sA v1.Ret,bA v1.Static,bA v1.Abstract,iA v1.Locals,iA v1.Stack,.isl 4 (List.map rApiIns v1.Code),.isl 3 (List.map rApiMap v1.Maps),.isl 4 (List.map rApiTrap v1.Traps)]]),some (10,[[sA v2.Name,.isl 1 (List.map rStr v2.Params),sA v2.Ret,bA v2.Static,bA v2.Abstract,iA v2.Locals,iA v2.Stack,.isl 4 (List.map rApiIns v2.Code),.isl 3 (List.map rApiMap v2.Maps),.isl 4 (List.map rApiTrap v2.Traps)]])]) (fun b=>[]) (fun b=>[]) (fun r env st=>PostF Tryz.prog Tryz.f92 0 (bA r) [] env st) ho ⟨[.old 0,.old 1],cv j0 (.mpt j0)<|cv j0 (.mpt j0)<|ce j0 j0<|cn,j0,⟨⟨_,j0,rsOne ⟨ci j0,ci j0,ci j0,ci j0,ci j0,ci j0,ci j0,ci j0,ci j0,ci j0,j5⟩⟩,⟨_,j0,rsOne ⟨ci j0,ci j0,ci j0,ci j0,ci j0,ci j0,ci j0,ci j0,ci j0,ci j0,j5⟩⟩,j5⟩,j0,j1⟩ ?_ ?_ ?_
    ·
     rintro v28 r h
     replace h : ref3_eqMethod_l5 v1 v2 v28 = some r:=h
     unfold ref3_eqMethod_l5 at h
     refine sw_seq ?_
     refine rg j0<|u<|mv j0<|u<|fa ti38 j0 j0 j0<|u<|ld ti36 j0 j0<|u<|lnI ti36 j0 j0<|u<|lss ti3 j0 j0<|r_nil ?_
     refine sw_cond j0 (fun hc48=>?_) (fun hc48=>?_)
     ·
      replace h:=bT hc48 h
      refine sw_skip ?_
      refine sw_seq ?_
      refine sw_block ?_
      obtain ⟨v29,q49,h⟩:=bs h
      obtain ⟨v30,q50,h⟩:=bs h
      refine rd [(2,.mpt 0 0 0),(3,.mpt 1 0 0),(9,iA v28),(10,.mpt 2 0 0),(11,.mpt 3 0 0)] [some (10,[[sA v1.Name,.isl 1 (List.map rStr v1.Params),sA v1.Ret,bA v1.Static,bA v1.Abstract,iA v1.Locals,iA v1.Stack,.isl 4 (List.map rApiIns v1.Code),.isl 3 (List.map rApiMap v1.Maps),.isl 4 (List.map rApiTrap v1.Traps)]]),some (10,[[sA v2.Name,.isl 1 (List.map rStr v2.Params),sA v2.Ret,bA v2.Static,bA v2.Abstract,iA v2.Locals,iA v2.Stack,.isl 4 (List.map rApiIns v2.Code),.isl 3 (List.map rApiMap v2.Maps),.isl 4 (List.map rApiTrap v2.Traps)]]),some (4,[[iA v29.From,iA v29.To,iA v29.At,sA v29.C]]),some (4,[[iA v30.From,iA v30.To,iA v30.At,sA v30.C]])] [10,11,12,13] [9,8,7,6,5,4,3,2,1,0] [(160,.agg [iA v30.From,iA v30.To,iA v30.At,sA v30.C]),(159,.ipt 4 (List.map rApiTrap v2.Traps) (Int.toNat v28) 0),(158,iA v28),(157,.isl 4 (List.map rApiTrap v2.Traps)),(156,.mpt 1 0 9),(155,.agg [iA v29.From,iA v29.To,iA v29.At,sA v29.C]),(154,.ipt 4 (List.map rApiTrap v1.Traps) (Int.toNat v28) 0),(153,iA v28),(152,.isl 4 (List.map rApiTrap v1.Traps)),(151,.mpt 0 0 9)] 4 (by kernel_rfl) (by kernel_rfl) j0 (by kernel_rfl) (dtS ⟨(fun _=>pa j0 j0 j0 j0 (ldI ti88 j0 (idx_some q50).2.2 j0<|j4)),(fun _=>pa j0 j0 j0 j0 (ixI ti36 j0 ti88 j0 j0 j0 q50<|j4)),(fun _=>pa j0 j0 j0 j0 (mv j0<|j4)),(fun _=>pa j0 j0 j0 j0 (ld ti36 j0 j0<|j4)),(fun _=>pa j0 j0 j0 j0 (fa ti38 j0 j0 j0<|j4)),(fun _=>pa j0 j0 j0 j0 (ldI ti88 j0 (idx_some q49).2.2 j0<|j4)),(fun _=>pa j0 j0 j0 j0 (ixI ti36 j0 ti88 j0 j0 j0 q49<|j4)),(fun _=>pa j0 j0 j0 j0 (mv j0<|j4)),(fun _=>pa j0 j0 j0 j0 (ld ti36 j0 j0<|j4)),(fun _=>pa j0 j0 j0 j0 (fa ti38 j0 j0 j0<|j4)),j5⟩ (by kernel_rfl) j0 ⟨(fun _ _=>⟨_,j0,j0,al 2 ti88 j0<|⟨(.mpt 2 0 0),[],[(10,.mpt 2 0 0)],j0,j0,by kernel_rfl,j0,dtS ⟨(fun _=>pa j0 j0 j0 j0 (ldI ti88 j0 (idx_some q50).2.2 j0<|j4)),(fun _=>pa j0 j0 j0 j0 (ixI ti36 j0 ti88 j0 j0 j0 q50<|j4)),(fun _=>pa j0 j0 j0 j0 (mv j0<|j4)),(fun _=>pa j0 j0 j0 j0 (ld ti36 j0 j0<|j4)),(fun _=>pa j0 j0 j0 j0 (fa ti38 j0 j0 j0<|j4)),(fun _=>pa j0 j0 j0 j0 (ldI ti88 j0 (idx_some q49).2.2 j0<|j4)),(fun _=>pa j0 j0 j0 j0 (ixI ti36 j0 ti88 j0 j0 j0 q49<|j4)),(fun _=>pa j0 j0 j0 j0 (mv j0<|j4)),(fun _=>pa j0 j0 j0 j0 (ld ti36 j0 j0<|j4)),(fun _=>pa j0 j0 j0 j0 (fa ti38 j0 j0 j0<|j4)),j5⟩ (by kernel_rfl) j0 ⟨(fun h=>by cases h),(fun _ _=>⟨_,j0,j0,al 3 ti88 j0<|⟨(.mpt 3 0 0),[],[(11,.mpt 3 0 0)],j0,j0,by kernel_rfl,j0,dtS ⟨(fun _=>pa j0 j0 j0 j0 (ldI ti88 j0 (idx_some q50).2.2 j0<|j4)),(fun _=>pa j0 j0 j0 j0 (ixI ti36 j0 ti88 j0 j0 j0 q50<|j4)),(fun _=>pa j0 j0 j0 j0 (mv j0<|j4)),(fun _=>pa j0 j0 j0 j0 (ld ti36 j0 j0<|j4)),(fun _=>pa j0 j0 j0 j0 (fa ti38 j0 j0 j0<|j4)),(fun _=>pa j0 j0 j0 j0 (ldI ti88 j0 (idx_some q49).2.2 j0<|j4)),(fun _=>pa j0 j0 j0 j0 (ixI ti36 j0 ti88 j0 j0 j0 q49<|j4)),(fun _=>pa j0 j0 j0 j0 (mv j0<|j4)),(fun _=>pa j0 j0 j0 j0 (ld ti36 j0 j0<|j4)),(fun _=>pa j0 j0 j0 j0 (fa ti38 j0 j0 j0<|j4)),j5⟩ (by kernel_rfl) j0 ⟨(fun h=>by cases h),(fun h=>by cases h),(fun _ _=>⟨_,j0,j0,sto ti88 j0 j0 j0<|⟨.any,[],[],j0,j0,by kernel_rfl,j5,dtS ⟨(fun _=>pa j0 j0 j0 j0 (ldI ti88 j0 (idx_some q50).2.2 j0<|j4)),(fun _=>pa j0 j0 j0 j0 (ixI ti36 j0 ti88 j0 j0 j0 q50<|j4)),(fun _=>pa j0 j0 j0 j0 (mv j0<|j4)),(fun _=>pa j0 j0 j0 j0 (ld ti36 j0 j0<|j4)),(fun _=>pa j0 j0 j0 j0 (fa ti38 j0 j0 j0<|j4)),(fun h=>by cases h),(fun h=>by cases h),(fun h=>by cases h),(fun h=>by cases h),(fun h=>by cases h),j5⟩ (by kernel_rfl) j0 ⟨(fun h=>by cases h),(fun h=>by cases h),(fun h=>by cases h),(fun _ _=>⟨_,j0,j0,sto ti88 j0 j0 j0<|⟨.any,[],[],j0,j0,by kernel_rfl,j5,dt0 ⟨(fun h=>by cases h),(fun h=>by cases h),(fun h=>by cases h),(fun h=>by cases h),(fun h=>by cases h),(fun h=>by cases h),(fun h=>by cases h),(fun h=>by cases h),(fun h=>by cases h),(fun h=>by cases h),j5⟩ (by kernel_rfl) j0 ⟨[.old 0,.old 1,.old 2,.old 3],cv j0 (.mpt j0)<|cv j0 (.mpt j0)<|ce j0 j0<|cv j0 (.mpt j0)<|cv j0 (.mpt j0)<|cn,j0,⟨⟨_,j0,rsOne ⟨ci j0,ci j0,ci j0,ci j0,ci j0,ci j0,ci j0,ci j0,ci j0,ci j0,j5⟩⟩,⟨_,j0,rsOne ⟨ci j0,ci j0,ci j0,ci j0,ci j0,ci j0,ci j0,ci j0,ci j0,ci j0,j5⟩⟩,⟨_,j0,rsOne ⟨ci j0,ci j0,ci j0,ci j0,j5⟩⟩,⟨_,j0,rsOne ⟨ci j0,ci j0,ci j0,ci j0,j5⟩⟩,j5⟩,j0,j1⟩⟩⟩),j5⟩⟩⟩),(fun _ h=>by cases h),j5⟩⟩⟩),(fun _ h=>by cases h),(fun _ h=>by cases h),j5⟩⟩⟩),(fun _ _=>⟨_,j0,j0,al 2 ti88 j0<|⟨(.mpt 2 0 0),[],[(11,.mpt 2 0 0)],j0,j0,by kernel_rfl,j0,dtS ⟨(fun _=>pa j0 j0 j0 j0 (ldI ti88 j0 (idx_some q50).2.2 j0<|j4)),(fun _=>pa j0 j0 j0 j0 (ixI ti36 j0 ti88 j0 j0 j0 q50<|j4)),(fun _=>pa j0 j0 j0 j0 (mv j0<|j4)),(fun _=>pa j0 j0 j0 j0 (ld ti36 j0 j0<|j4)),(fun _=>pa j0 j0 j0 j0 (fa ti38 j0 j0 j0<|j4)),(fun _=>pa j0 j0 j0 j0 (ldI ti88 j0 (idx_some q49).2.2 j0<|j4)),(fun _=>pa j0 j0 j0 j0 (ixI ti36 j0 ti88 j0 j0 j0 q49<|j4)),(fun _=>pa j0 j0 j0 j0 (mv j0<|j4)),(fun _=>pa j0 j0 j0 j0 (ld ti36 j0 j0<|j4)),(fun _=>pa j0 j0 j0 j0 (fa ti38 j0 j0 j0<|j4)),j5⟩ (by kernel_rfl) j0 ⟨(fun _ _=>⟨_,j0,j0,al 3 ti88 j0<|⟨(.mpt 3 0 0),[],[(10,.mpt 3 0 0)],j0,j0,by kernel_rfl,j0,dtS ⟨(fun _=>pa j0 j0 j0 j0 (ldI ti88 j0 (idx_some q50).2.2 j0<|j4)),(fun _=>pa j0 j0 j0 j0 (ixI ti36 j0 ti88 j0 j0 j0 q50<|j4)),(fun _=>pa j0 j0 j0 j0 (mv j0<|j4)),(fun _=>pa j0 j0 j0 j0 (ld ti36 j0 j0<|j4)),(fun _=>pa j0 j0 j0 j0 (fa ti38 j0 j0 j0<|j4)),(fun _=>pa j0 j0 j0 j0 (ldI ti88 j0 (idx_some q49).2.2 j0<|j4)),(fun _=>pa j0 j0 j0 j0 (ixI ti36 j0 ti88 j0 j0 j0 q49<|j4)),(fun _=>pa j0 j0 j0 j0 (mv j0<|j4)),(fun _=>pa j0 j0 j0 j0 (ld ti36 j0 j0<|j4)),(fun _=>pa j0 j0 j0 j0 (fa ti38 j0 j0 j0<|j4)),j5⟩ (by kernel_rfl) j0 ⟨(fun h=>by cases h),(fun h=>by cases h),(fun _ _=>⟨_,j0,j0,sto ti88 j0 j0 j0<|⟨.any,[],[],j0,j0,by kernel_rfl,j5,dtS ⟨(fun _=>pa j0 j0 j0 j0 (ldI ti88 j0 (idx_some q50).2.2 j0<|j4)),(fun _=>pa j0 j0 j0 j0 (ixI ti36 j0 ti88 j0 j0 j0 q50<|j4)),(fun _=>pa j0 j0 j0 j0 (mv j0<|j4)),(fun _=>pa j0 j0 j0 j0 (ld ti36 j0 j0<|j4)),(fun _=>pa j0 j0 j0 j0 (fa ti38 j0 j0 j0<|j4)),(fun h=>by cases h),(fun h=>by cases h),(fun h=>by cases h),(fun h=>by cases h),(fun h=>by cases h),j5⟩ (by kernel_rfl) j0 ⟨(fun h=>by cases h),(fun h=>by cases h),(fun h=>by cases h),(fun _ _=>⟨_,j0,j0,sto ti88 j0 j0 j0<|⟨.any,[],[],j0,j0,by kernel_rfl,j5,dt0 ⟨(fun h=>by cases h),(fun h=>by cases h),(fun h=>by cases h),(fun h=>by cases h),(fun h=>by cases h),(fun h=>by cases h),(fun h=>by cases h),(fun h=>by cases h),(fun h=>by cases h),(fun h=>by cases h),j5⟩ (by kernel_rfl) j0 ⟨[.old 0,.old 1,.old 3,.old 2],cv j0 (.mpt j0)<|cv j0 (.mpt j0)<|ce j0 j0<|cv j0 (.mpt j0)<|cv j0 (.mpt j0)<|cn,j0,⟨⟨_,j0,rsOne ⟨ci j0,ci j0,ci j0,ci j0,ci j0,ci j0,ci j0,ci j0,ci j0,ci j0,j5⟩⟩,⟨_,j0,rsOne ⟨ci j0,ci j0,ci j0,ci j0,ci j0,ci j0,ci j0,ci j0,ci j0,ci j0,j5⟩⟩,⟨_,j0,rsOne ⟨ci j0,ci j0,ci j0,ci j0,j5⟩⟩,⟨_,j0,rsOne ⟨ci j0,ci j0,ci j0,ci j0,j5⟩⟩,j5⟩,j0,j1⟩⟩⟩),j5⟩⟩⟩),(fun _ h=>by cases h),j5⟩⟩⟩),(fun h=>by cases h),(fun _ h=>by cases h),(fun _ h=>by cases h),j5⟩⟩⟩),(fun _ h=>by cases h),(fun _ h=>by cases h),j5⟩) ?_
      refine rg j0<|u<|fa ti88 j0 j0 j0<|u<|ld ti3 j0 j0<|u<|fa ti88 j0 j0 j0<|u<|ld ti3 j0 j0<|u<|neq ti3 j0 j0<|u<|mv j0<|r_or (j:=5) 5 j0 j0 j0 j0 j0 gpn (fun hb51=>g j0 hb51<|fa ti88 j0 j0 j0<|g j0 hb51<|ld ti3 j0 j0<|g j0 hb51<|fa ti88 j0 j0 j0<|g j0 hb51<|ld ti3 j0 j0<|g j0 hb51<|neq ti3 j0 j0<|r_nil (egO [167,168,169,170,171] 5 hb51 j0 j0 j0 j0)) orT<|u<|mv j0<|r_or (j:=12) 5 j0 j0 j0 j0 j0 gpn (fun hb52=>g j0 hb52<|fa ti88 j0 j0 j0<|g j0 hb52<|ld ti3 j0 j0<|g j0 hb52<|fa ti88 j0 j0 j0<|g j0 hb52<|ld ti3 j0 j0<|g j0 hb52<|neq ti3 j0 j0<|r_nil (egO [174,175,176,177,178] 5 hb52 j0 j0 j0 j0)) orT<|u<|mv j0<|r_or (j:=19) 5 j0 j0 j0 j0 j0 gpn (fun hb53=>g j0 hb53<|fa ti88 j0 j0 j0<|g j0 hb53<|ld ti9 j0 j0<|g j0 hb53<|fa ti88 j0 j0 j0<|g j0 hb53<|ld ti9 j0 j0<|g j0 hb53<|sne ti9 j0 j0<|r_nil (egO [181,182,183,184,185] 5 hb53 j0 j0 j0 j0)) orT<|r_nil ?_
      refine sw_cond j0 (fun hc54=>?_) (fun hc54=>?_)
      ·
       replace h:=bT hc54 h
       refine rg j0<|u<|asg j0<|r_nil ?_
       refine sw_ret ?_
       obtain rfl:=sm h
       exact ⟨_,j0,_,j0,[],ci j0,j0,j5,j0,j1⟩
      ·
       replace h:=bF hc54 h
       refine sw_skip ?_
       refine rl j0<|u<|mv j0<|u<|add ti3 j0 j0<|u<|asg j0<|r_nil ?_
       obtain rfl:=sm h
       exact ⟨_,j0,[.old 0,.old 1],cv j0 (.mpt j0)<|cv j0 (.mpt j0)<|ce j0 j0<|cn,j0,⟨⟨_,j0,rsOne ⟨ci j0,ci j0,ci j0,ci j0,ci j0,ci j0,ci j0,ci j0,ci j0,ci j0,j5⟩⟩,⟨_,j0,rsOne ⟨ci j0,ci j0,ci j0,ci j0,ci j0,ci j0,ci j0,ci j0,ci j0,ci j0,j5⟩⟩,j5⟩,j0,j1⟩
     ·
      replace h:=bF hc48 h
      refine sw_exit ?_
      obtain rfl:=sm h
      exact ⟨j0,_,j0,[],cn,j0,j5,j0,j1⟩
    ·
     rintro ⟨⟩ rfl
     replace h : ref3_eqMethod_k6 = some r:=h
     unfold ref3_eqMethod_k6 at h
     refine ow_intro ?_
     refine rg j0<|u<|asg j0<|r_nil ?_
     refine sw_ret ?_
     obtain rfl:=sm h
     exact ⟨_,j0,[],ci j0,j0,j5,j0,j1⟩
    ·
     rintro r' rfl env st hp
     obtain rfl:=sm h
     exact hp
   ·
    rintro r' rfl env st hp
    obtain rfl:=sm h
    exact hp
  ·
   rintro r' rfl env st hp
   obtain rfl:=sm h
   exact hp
def ref3_EqClass_k4 : Option (Bool) :=
  some true
def ref3_EqClass_l3 (v1 : ApiClass) (v2 : ApiClass) (v15 : Int) : Option (Sum (Int) (Sum (Unit) (Bool))) :=
  cond (decide (v15 < (List.length v1.Methods : Int))) ((idx v1.Methods v15).bind fun v16=>(idx v2.Methods v15).bind fun v17=>(ref3_eqMethod v16 v17).bind fun v18=>cond (!v18) (some (.inr (.inr false))) (some (.inl (IntKind.i64.wrap (v15 + 1))))) (some (.inr (.inl ())))
def ref3_EqClass_k2 (v1 : ApiClass) (v2 : ApiClass) : Option (Bool) :=
  (loopP (fun z=>ref3_EqClass_l3 v1 v2 z) 0).bind fun o=>leave o (fun b=>ref3_EqClass_k4) some
def ref3_EqClass_l1 (v1 : ApiClass) (v2 : ApiClass) (v8 : Int) : Option (Sum (Int) (Sum (Unit) (Bool))) :=
  cond (decide (v8 < (List.length v1.Fields : Int))) ((idx v1.Fields v8).bind fun v9=>(idx v2.Fields v8).bind fun v10=>cond (((!(v9.Name == v10.Name)) || (!(v9.Type_ == v10.Type_))) || (!(v9.Static == v10.Static))) (some (.inr (.inr false))) (some (.inl (IntKind.i64.wrap (v8 + 1))))) (some (.inr (.inl ())))
def ref3_EqClass (v1 : ApiClass) (v2 : ApiClass) : Option (Bool) :=
  (cond (((!(v1.Name == v2.Name)) || (!(v1.Super == v2.Super))) || (!(v1.Interface == v2.Interface))) (some true) ((ref3_EqTexts v1.Impl v2.Impl).bind fun v3=>some (!v3))).bind fun v4=>cond ((v4 || (!((List.length v1.Fields : Int) == (List.length v2.Fields : Int)))) || (!((List.length v1.Methods : Int) == (List.length v2.Methods : Int)))) (some false) ((loopP (fun z=>ref3_EqClass_l1 v1 v2 z) 0).bind fun o=>leave o (fun b=>ref3_EqClass_k2 v1 v2) some)
theorem ref3_EqClass_ok (v1 : ApiClass) (v2 : ApiClass) {r : Bool} (h : ref3_EqClass v1 v2 = some r) : PureC Tryz.prog 19 [.agg [sA v1.Name,sA v1.Super,bA v1.Interface,.isl 1 (List.map rStr v1.Impl),.isl 3 (List.map rApiField v1.Fields),.isl 10 (List.map rApiMethod v1.Methods)],.agg [sA v2.Name,sA v2.Super,bA v2.Interface,.isl 1 (List.map rStr v2.Impl),.isl 3 (List.map rApiField v2.Fields),.isl 10 (List.map rApiMethod v2.Methods)]] (bA r):=by
 refine pure_fn Tryz.func19 j0 (by kernel_rfl) j0 j0 ?_
 unfold ref3_EqClass at h
 refine rg j0<|u<|bx 0 6 j0 j0 j0 j0<|u<|bx 1 6 j0 j0 j0 j0<|u<|asg j0<|r_nil ?_
 refine sw_seq ?_
 obtain ⟨v4,q5,h⟩:=bs h
 refine rg j0<|u<|fa ti26 j0 j0 j0<|u<|ld ti9 j0 j0<|u<|fa ti26 j0 j0 j0<|u<|ld ti9 j0 j0<|u<|sne ti9 j0 j0<|u<|mv j0<|r_or (j:=5) 5 j0 j0 j0 j0 j0 gpn (fun hb1=>g j0 hb1<|fa ti26 j0 j0 j0<|g j0 hb1<|ld ti9 j0 j0<|g j0 hb1<|fa ti26 j0 j0 j0<|g j0 hb1<|ld ti9 j0 j0<|g j0 hb1<|sne ti9 j0 j0<|r_nil (egO [15,16,17,18,19] 5 hb1 j0 j0 j0 j0)) orT<|u<|mv j0<|r_or (j:=12) 5 j0 j0 j0 j0 j0 gpn (fun hb2=>g j0 hb2<|fa ti26 j0 j0 j0<|g j0 hb2<|ld ti4 j0 j0<|g j0 hb2<|fa ti26 j0 j0 j0<|g j0 hb2<|ld ti4 j0 j0<|g j0 hb2<|bne ti4 j0 j0 j0<|r_nil (egO [22,23,24,25,26] 5 hb2 j0 j0 j0 j0)) orT<|u<|mv j0<|r_or (x:=v4) (j:=19) 6 j0 j0 j0 j0 j0 gpn (fun hb3=>by replace q5:=bF hb3 q5; obtain ⟨v3,q4,q5⟩:=bs q5; obtain rfl:=sm q5; exact g j0 hb3<|fa ti26 j0 j0 j0<|g j0 hb3<|ld ti22 j0 j0<|g j0 hb3<|fa ti26 j0 j0 j0<|g j0 hb3<|ld ti22 j0 j0<|g j0 hb3<|pc (ref3_EqTexts_ok v1.Impl v2.Impl q4) j0 j0 j0<|g j0 hb3<|nt j0<|r_nil (eg [29,30,31,32,33,34] 6 j0 j0 j0 j0)) (fun hb=>(sm (bT hb q5)).symm)<|u<|mv j0<|r_or (j:=27) 7 j0 j0 j0 j0 j0 gpn (fun hb6=>g j0 hb6<|fa ti26 j0 j0 j0<|g j0 hb6<|ld ti23 j0 j0<|g j0 hb6<|lnI ti23 j0 j0<|g j0 hb6<|fa ti26 j0 j0 j0<|g j0 hb6<|ld ti23 j0 j0<|g j0 hb6<|lnI ti23 j0 j0<|g j0 hb6<|neq ti3 j0 j0<|r_nil (egO [37,38,39,40,41,42,43] 7 hb6 j0 j0 j0 j0)) orT<|u<|mv j0<|r_or (j:=36) 7 j0 j0 j0 j0 j0 gpn (fun hb7=>g j0 hb7<|fa ti26 j0 j0 j0<|g j0 hb7<|ld ti24 j0 j0<|g j0 hb7<|lnI ti24 j0 j0<|g j0 hb7<|fa ti26 j0 j0 j0<|g j0 hb7<|ld ti24 j0 j0<|g j0 hb7<|lnI ti24 j0 j0<|g j0 hb7<|neq ti3 j0 j0<|r_nil (egO [46,47,48,49,50,51,52] 7 hb7 j0 j0 j0 j0)) orT<|r_nil ?_
 refine sw_cond j0 (fun hc8=>?_) (fun hc8=>?_)
 ·
  replace h:=bT hc8 h
  refine rg j0<|u<|asg j0<|r_nil ?_
  refine sw_ret ?_
  obtain rfl:=sm h
  exact ⟨_,j0,[],ci j0,j0,j5,j0,j1⟩
 ·
  replace h:=bF hc8 h
  refine sw_skip ?_
  refine sw_seq ?_
  refine rg j0<|u<|asg j0<|r_nil ?_
  obtain ⟨o,ho,h⟩:=bs h
  refine sw_lpl (X:=Int) (B:=Unit) (R:=Bool) (fun z=>[(2,.mpt 0 0 0),(3,.mpt 1 0 0),(5,iA z)]) (fun z=>[some (6,[[sA v1.Name,sA v1.Super,bA v1.Interface,.isl 1 (List.map rStr v1.Impl),.isl 3 (List.map rApiField v1.Fields),.isl 10 (List.map rApiMethod v1.Methods)]]),some (6,[[sA v2.Name,sA v2.Super,bA v2.Interface,.isl 1 (List.map rStr v2.Impl),.isl 3 (List.map rApiField v2.Fields),.isl 10 (List.map rApiMethod v2.Methods)]])]) (fun b=>[(2,.mpt 0 0 0),(3,.mpt 1 0 0)]) (fun b=>[some (6,[[sA v1.Name,sA v1.Super,bA v1.Interface,.isl 1 (List.map rStr v1.Impl),.isl 3 (List.map rApiField v1.Fields),.isl 10 (List.map rApiMethod v1.Methods)]]),some (6,[[sA v2.Name,sA v2.Super,bA v2.Interface,.isl 1 (List.map rStr v2.Impl),.isl 3 (List.map rApiField v2.Fields),.isl 10 (List.map rApiMethod v2.Methods)]])]) (fun r env st=>PostF Tryz.prog Tryz.f19 0 (bA r) [] env st) ho ⟨[.old 0,.old 1],cv j0 (.mpt j0)<|cv j0 (.mpt j0)<|ce j0 j0<|cn,j0,⟨⟨_,j0,rsOne ⟨ci j0,ci j0,ci j0,ci j0,ci j0,ci j0,j5⟩⟩,⟨_,j0,rsOne ⟨ci j0,ci j0,ci j0,ci j0,ci j0,ci j0,j5⟩⟩,j5⟩,j0,j1⟩ ?_ ?_ ?_
  ·
   rintro v8 r h
   replace h : ref3_EqClass_l1 v1 v2 v8 = some r:=h
   unfold ref3_EqClass_l1 at h
   refine sw_seq ?_
   refine rg j0<|u<|mv j0<|u<|fa ti26 j0 j0 j0<|u<|ld ti23 j0 j0<|u<|lnI ti23 j0 j0<|u<|lss ti3 j0 j0<|r_nil ?_
   refine sw_cond j0 (fun hc15=>?_) (fun hc15=>?_)
   ·
    replace h:=bT hc15 h
    refine sw_skip ?_
    refine sw_seq ?_
    refine sw_block ?_
    obtain ⟨v9,q16,h⟩:=bs h
    obtain ⟨v10,q17,h⟩:=bs h
    refine rd [(2,.mpt 0 0 0),(3,.mpt 1 0 0),(5,iA v8),(6,.mpt 2 0 0),(7,.mpt 3 0 0)] [some (6,[[sA v1.Name,sA v1.Super,bA v1.Interface,.isl 1 (List.map rStr v1.Impl),.isl 3 (List.map rApiField v1.Fields),.isl 10 (List.map rApiMethod v1.Methods)]]),some (6,[[sA v2.Name,sA v2.Super,bA v2.Interface,.isl 1 (List.map rStr v2.Impl),.isl 3 (List.map rApiField v2.Fields),.isl 10 (List.map rApiMethod v2.Methods)]]),some (3,[[sA v9.Name,sA v9.Type_,bA v9.Static]]),some (3,[[sA v10.Name,sA v10.Type_,bA v10.Static]])] [10,11,12,13] [9,8,7,6,5,4,3,2,1,0] [(70,.agg [sA v10.Name,sA v10.Type_,bA v10.Static]),(69,.ipt 3 (List.map rApiField v2.Fields) (Int.toNat v8) 0),(68,iA v8),(67,.isl 3 (List.map rApiField v2.Fields)),(66,.mpt 1 0 4),(65,.agg [sA v9.Name,sA v9.Type_,bA v9.Static]),(64,.ipt 3 (List.map rApiField v1.Fields) (Int.toNat v8) 0),(63,iA v8),(62,.isl 3 (List.map rApiField v1.Fields)),(61,.mpt 0 0 4)] 4 (by kernel_rfl) (by kernel_rfl) j0 (by kernel_rfl) (dtS ⟨(fun _=>pa j0 j0 j0 j0 (ldI ti42 j0 (idx_some q17).2.2 j0<|j4)),(fun _=>pa j0 j0 j0 j0 (ixI ti23 j0 ti42 j0 j0 j0 q17<|j4)),(fun _=>pa j0 j0 j0 j0 (mv j0<|j4)),(fun _=>pa j0 j0 j0 j0 (ld ti23 j0 j0<|j4)),(fun _=>pa j0 j0 j0 j0 (fa ti26 j0 j0 j0<|j4)),(fun _=>pa j0 j0 j0 j0 (ldI ti42 j0 (idx_some q16).2.2 j0<|j4)),(fun _=>pa j0 j0 j0 j0 (ixI ti23 j0 ti42 j0 j0 j0 q16<|j4)),(fun _=>pa j0 j0 j0 j0 (mv j0<|j4)),(fun _=>pa j0 j0 j0 j0 (ld ti23 j0 j0<|j4)),(fun _=>pa j0 j0 j0 j0 (fa ti26 j0 j0 j0<|j4)),j5⟩ (by kernel_rfl) j0 ⟨(fun _ _=>⟨_,j0,j0,al 2 ti42 j0<|⟨(.mpt 2 0 0),[],[(6,.mpt 2 0 0)],j0,j0,by kernel_rfl,j0,dtS ⟨(fun _=>pa j0 j0 j0 j0 (ldI ti42 j0 (idx_some q17).2.2 j0<|j4)),(fun _=>pa j0 j0 j0 j0 (ixI ti23 j0 ti42 j0 j0 j0 q17<|j4)),(fun _=>pa j0 j0 j0 j0 (mv j0<|j4)),(fun _=>pa j0 j0 j0 j0 (ld ti23 j0 j0<|j4)),(fun _=>pa j0 j0 j0 j0 (fa ti26 j0 j0 j0<|j4)),(fun _=>pa j0 j0 j0 j0 (ldI ti42 j0 (idx_some q16).2.2 j0<|j4)),(fun _=>pa j0 j0 j0 j0 (ixI ti23 j0 ti42 j0 j0 j0 q16<|j4)),(fun _=>pa j0 j0 j0 j0 (mv j0<|j4)),(fun _=>pa j0 j0 j0 j0 (ld ti23 j0 j0<|j4)),(fun _=>pa j0 j0 j0 j0 (fa ti26 j0 j0 j0<|j4)),j5⟩ (by kernel_rfl) j0 ⟨(fun h=>by cases h),(fun _ _=>⟨_,j0,j0,al 3 ti42 j0<|⟨(.mpt 3 0 0),[],[(7,.mpt 3 0 0)],j0,j0,by kernel_rfl,j0,dtS ⟨(fun _=>pa j0 j0 j0 j0 (ldI ti42 j0 (idx_some q17).2.2 j0<|j4)),(fun _=>pa j0 j0 j0 j0 (ixI ti23 j0 ti42 j0 j0 j0 q17<|j4)),(fun _=>pa j0 j0 j0 j0 (mv j0<|j4)),(fun _=>pa j0 j0 j0 j0 (ld ti23 j0 j0<|j4)),(fun _=>pa j0 j0 j0 j0 (fa ti26 j0 j0 j0<|j4)),(fun _=>pa j0 j0 j0 j0 (ldI ti42 j0 (idx_some q16).2.2 j0<|j4)),(fun _=>pa j0 j0 j0 j0 (ixI ti23 j0 ti42 j0 j0 j0 q16<|j4)),(fun _=>pa j0 j0 j0 j0 (mv j0<|j4)),(fun _=>pa j0 j0 j0 j0 (ld ti23 j0 j0<|j4)),(fun _=>pa j0 j0 j0 j0 (fa ti26 j0 j0 j0<|j4)),j5⟩ (by kernel_rfl) j0 ⟨(fun h=>by cases h),(fun h=>by cases h),(fun _ _=>⟨_,j0,j0,sto ti42 j0 j0 j0<|⟨.any,[],[],j0,j0,by kernel_rfl,j5,dtS ⟨(fun _=>pa j0 j0 j0 j0 (ldI ti42 j0 (idx_some q17).2.2 j0<|j4)),(fun _=>pa j0 j0 j0 j0 (ixI ti23 j0 ti42 j0 j0 j0 q17<|j4)),(fun _=>pa j0 j0 j0 j0 (mv j0<|j4)),(fun _=>pa j0 j0 j0 j0 (ld ti23 j0 j0<|j4)),(fun _=>pa j0 j0 j0 j0 (fa ti26 j0 j0 j0<|j4)),(fun h=>by cases h),(fun h=>by cases h),(fun h=>by cases h),(fun h=>by cases h),(fun h=>by cases h),j5⟩ (by kernel_rfl) j0 ⟨(fun h=>by cases h),(fun h=>by cases h),(fun h=>by cases h),(fun _ _=>⟨_,j0,j0,sto ti42 j0 j0 j0<|⟨.any,[],[],j0,j0,by kernel_rfl,j5,dt0 ⟨(fun h=>by cases h),(fun h=>by cases h),(fun h=>by cases h),(fun h=>by cases h),(fun h=>by cases h),(fun h=>by cases h),(fun h=>by cases h),(fun h=>by cases h),(fun h=>by cases h),(fun h=>by cases h),j5⟩ (by kernel_rfl) j0 ⟨[.old 0,.old 1,.old 2,.old 3],cv j0 (.mpt j0)<|cv j0 (.mpt j0)<|ce j0 j0<|cv j0 (.mpt j0)<|cv j0 (.mpt j0)<|cn,j0,⟨⟨_,j0,rsOne ⟨ci j0,ci j0,ci j0,ci j0,ci j0,ci j0,j5⟩⟩,⟨_,j0,rsOne ⟨ci j0,ci j0,ci j0,ci j0,ci j0,ci j0,j5⟩⟩,⟨_,j0,rsOne ⟨ci j0,ci j0,ci j0,j5⟩⟩,⟨_,j0,rsOne ⟨ci j0,ci j0,ci j0,j5⟩⟩,j5⟩,j0,j1⟩⟩⟩),j5⟩⟩⟩),(fun _ h=>by cases h),j5⟩⟩⟩),(fun _ h=>by cases h),(fun _ h=>by cases h),j5⟩⟩⟩),(fun _ _=>⟨_,j0,j0,al 2 ti42 j0<|⟨(.mpt 2 0 0),[],[(7,.mpt 2 0 0)],j0,j0,by kernel_rfl,j0,dtS ⟨(fun _=>pa j0 j0 j0 j0 (ldI ti42 j0 (idx_some q17).2.2 j0<|j4)),(fun _=>pa j0 j0 j0 j0 (ixI ti23 j0 ti42 j0 j0 j0 q17<|j4)),(fun _=>pa j0 j0 j0 j0 (mv j0<|j4)),(fun _=>pa j0 j0 j0 j0 (ld ti23 j0 j0<|j4)),(fun _=>pa j0 j0 j0 j0 (fa ti26 j0 j0 j0<|j4)),(fun _=>pa j0 j0 j0 j0 (ldI ti42 j0 (idx_some q16).2.2 j0<|j4)),(fun _=>pa j0 j0 j0 j0 (ixI ti23 j0 ti42 j0 j0 j0 q16<|j4)),(fun _=>pa j0 j0 j0 j0 (mv j0<|j4)),(fun _=>pa j0 j0 j0 j0 (ld ti23 j0 j0<|j4)),(fun _=>pa j0 j0 j0 j0 (fa ti26 j0 j0 j0<|j4)),j5⟩ (by kernel_rfl) j0 ⟨(fun _ _=>⟨_,j0,j0,al 3 ti42 j0<|⟨(.mpt 3 0 0),[],[(6,.mpt 3 0 0)],j0,j0,by kernel_rfl,j0,dtS ⟨(fun _=>pa j0 j0 j0 j0 (ldI ti42 j0 (idx_some q17).2.2 j0<|j4)),(fun _=>pa j0 j0 j0 j0 (ixI ti23 j0 ti42 j0 j0 j0 q17<|j4)),(fun _=>pa j0 j0 j0 j0 (mv j0<|j4)),(fun _=>pa j0 j0 j0 j0 (ld ti23 j0 j0<|j4)),(fun _=>pa j0 j0 j0 j0 (fa ti26 j0 j0 j0<|j4)),(fun _=>pa j0 j0 j0 j0 (ldI ti42 j0 (idx_some q16).2.2 j0<|j4)),(fun _=>pa j0 j0 j0 j0 (ixI ti23 j0 ti42 j0 j0 j0 q16<|j4)),(fun _=>pa j0 j0 j0 j0 (mv j0<|j4)),(fun _=>pa j0 j0 j0 j0 (ld ti23 j0 j0<|j4)),(fun _=>pa j0 j0 j0 j0 (fa ti26 j0 j0 j0<|j4)),j5⟩ (by kernel_rfl) j0 ⟨(fun h=>by cases h),(fun h=>by cases h),(fun _ _=>⟨_,j0,j0,sto ti42 j0 j0 j0<|⟨.any,[],[],j0,j0,by kernel_rfl,j5,dtS ⟨(fun _=>pa j0 j0 j0 j0 (ldI ti42 j0 (idx_some q17).2.2 j0<|j4)),(fun _=>pa j0 j0 j0 j0 (ixI ti23 j0 ti42 j0 j0 j0 q17<|j4)),(fun _=>pa j0 j0 j0 j0 (mv j0<|j4)),(fun _=>pa j0 j0 j0 j0 (ld ti23 j0 j0<|j4)),(fun _=>pa j0 j0 j0 j0 (fa ti26 j0 j0 j0<|j4)),(fun h=>by cases h),(fun h=>by cases h),(fun h=>by cases h),(fun h=>by cases h),(fun h=>by cases h),j5⟩ (by kernel_rfl) j0 ⟨(fun h=>by cases h),(fun h=>by cases h),(fun h=>by cases h),(fun _ _=>⟨_,j0,j0,sto ti42 j0 j0 j0<|⟨.any,[],[],j0,j0,by kernel_rfl,j5,dt0 ⟨(fun h=>by cases h),(fun h=>by cases h),(fun h=>by cases h),(fun h=>by cases h),(fun h=>by cases h),(fun h=>by cases h),(fun h=>by cases h),(fun h=>by cases h),(fun h=>by cases h),(fun h=>by cases h),j5⟩ (by kernel_rfl) j0 ⟨[.old 0,.old 1,.old 3,.old 2],cv j0 (.mpt j0)<|cv j0 (.mpt j0)<|ce j0 j0<|cv j0 (.mpt j0)<|cv j0 (.mpt j0)<|cn,j0,⟨⟨_,j0,rsOne ⟨ci j0,ci j0,ci j0,ci j0,ci j0,ci j0,j5⟩⟩,⟨_,j0,rsOne ⟨ci j0,ci j0,ci j0,ci j0,ci j0,ci j0,j5⟩⟩,⟨_,j0,rsOne ⟨ci j0,ci j0,ci j0,j5⟩⟩,⟨_,j0,rsOne ⟨ci j0,ci j0,ci j0,j5⟩⟩,j5⟩,j0,j1⟩⟩⟩),j5⟩⟩⟩),(fun _ h=>by cases h),j5⟩⟩⟩),(fun h=>by cases h),(fun _ h=>by cases h),(fun _ h=>by cases h),j5⟩⟩⟩),(fun _ h=>by cases h),(fun _ h=>by cases h),j5⟩) ?_
    refine rg j0<|u<|fa ti42 j0 j0 j0<|u<|ld ti9 j0 j0<|u<|fa ti42 j0 j0 j0<|u<|ld ti9 j0 j0<|u<|sne ti9 j0 j0<|u<|mv j0<|r_or (j:=5) 5 j0 j0 j0 j0 j0 gpn (fun hb18=>g j0 hb18<|fa ti42 j0 j0 j0<|g j0 hb18<|ld ti9 j0 j0<|g j0 hb18<|fa ti42 j0 j0 j0<|g j0 hb18<|ld ti9 j0 j0<|g j0 hb18<|sne ti9 j0 j0<|r_nil (egO [77,78,79,80,81] 5 hb18 j0 j0 j0 j0)) orT<|u<|mv j0<|r_or (j:=12) 5 j0 j0 j0 j0 j0 gpn (fun hb19=>g j0 hb19<|fa ti42 j0 j0 j0<|g j0 hb19<|ld ti4 j0 j0<|g j0 hb19<|fa ti42 j0 j0 j0<|g j0 hb19<|ld ti4 j0 j0<|g j0 hb19<|bne ti4 j0 j0 j0<|r_nil (egO [84,85,86,87,88] 5 hb19 j0 j0 j0 j0)) orT<|r_nil ?_
    refine sw_cond j0 (fun hc20=>?_) (fun hc20=>?_)
    ·
     replace h:=bT hc20 h
     refine rg j0<|u<|asg j0<|r_nil ?_
     refine sw_ret ?_
     obtain rfl:=sm h
     exact ⟨_,j0,_,j0,[],ci j0,j0,j5,j0,j1⟩
    ·
     replace h:=bF hc20 h
     refine sw_skip ?_
     refine rl j0<|u<|mv j0<|u<|add ti3 j0 j0<|u<|asg j0<|r_nil ?_
     obtain rfl:=sm h
     exact ⟨_,j0,[.old 0,.old 1],cv j0 (.mpt j0)<|cv j0 (.mpt j0)<|ce j0 j0<|cn,j0,⟨⟨_,j0,rsOne ⟨ci j0,ci j0,ci j0,ci j0,ci j0,ci j0,j5⟩⟩,⟨_,j0,rsOne ⟨ci j0,ci j0,ci j0,ci j0,ci j0,ci j0,j5⟩⟩,j5⟩,j0,j1⟩
   ·
    replace h:=bF hc15 h
    refine sw_exit ?_
    obtain rfl:=sm h
    exact ⟨j0,_,j0,[.old 0,.old 1],cv j0 (.mpt j0)<|cv j0 (.mpt j0)<|cn,j0,⟨⟨_,j0,rsOne ⟨ci j0,ci j0,ci j0,ci j0,ci j0,ci j0,j5⟩⟩,⟨_,j0,rsOne ⟨ci j0,ci j0,ci j0,ci j0,ci j0,ci j0,j5⟩⟩,j5⟩,j0,j1⟩
  ·
   rintro ⟨⟩ rfl
   replace h : ref3_EqClass_k2 v1 v2 = some r:=h
   unfold ref3_EqClass_k2 at h
   refine ow_intro ?_
   refine sw_seq ?_
   refine rg j0<|u<|asg j0<|r_nil ?_
   obtain ⟨o,ho,h⟩:=bs h
   refine sw_lpl (X:=Int) (B:=Unit) (R:=Bool) (fun z=>[(2,.mpt 0 0 0),(3,.mpt 1 0 0),(8,iA z)]) (fun z=>[some (6,[[sA v1.Name,sA v1.Super,bA v1.Interface,.isl 1 (List.map rStr v1.Impl),.isl 3 (List.map rApiField v1.Fields),.isl 10 (List.map rApiMethod v1.Methods)]]),some (6,[[sA v2.Name,sA v2.Super,bA v2.Interface,.isl 1 (List.map rStr v2.Impl),.isl 3 (List.map rApiField v2.Fields),.isl 10 (List.map rApiMethod v2.Methods)]])]) (fun b=>[]) (fun b=>[]) (fun r env st=>PostF Tryz.prog Tryz.f19 0 (bA r) [] env st) ho ⟨[.old 0,.old 1],cv j0 (.mpt j0)<|cv j0 (.mpt j0)<|ce j0 j0<|cn,j0,⟨⟨_,j0,rsOne ⟨ci j0,ci j0,ci j0,ci j0,ci j0,ci j0,j5⟩⟩,⟨_,j0,rsOne ⟨ci j0,ci j0,ci j0,ci j0,ci j0,ci j0,j5⟩⟩,j5⟩,j0,j1⟩ ?_ ?_ ?_
   ·
    rintro v15 r h
    replace h : ref3_EqClass_l3 v1 v2 v15 = some r:=h
    unfold ref3_EqClass_l3 at h
    refine sw_seq ?_
    refine rg j0<|u<|mv j0<|u<|fa ti26 j0 j0 j0<|u<|ld ti24 j0 j0<|u<|lnI ti24 j0 j0<|u<|lss ti3 j0 j0<|r_nil ?_
    refine sw_cond j0 (fun hc26=>?_) (fun hc26=>?_)
    ·
     replace h:=bT hc26 h
     refine sw_skip ?_
     refine sw_seq ?_
     refine sw_block ?_
     obtain ⟨v16,q27,h⟩:=bs h
     obtain ⟨v17,q28,h⟩:=bs h
     obtain ⟨v18,q29,h⟩:=bs h
     refine rd [(2,.mpt 0 0 0),(3,.mpt 1 0 0),(8,iA v15),(108,bA (!v18))] [some (6,[[sA v1.Name,sA v1.Super,bA v1.Interface,.isl 1 (List.map rStr v1.Impl),.isl 3 (List.map rApiField v1.Fields),.isl 10 (List.map rApiMethod v1.Methods)]]),some (6,[[sA v2.Name,sA v2.Super,bA v2.Interface,.isl 1 (List.map rStr v2.Impl),.isl 3 (List.map rApiField v2.Fields),.isl 10 (List.map rApiMethod v2.Methods)]])] [] [11,10,9,8,7,6,5,4,3,2,1,0] [(108,bA (!v18)),(107,bA v18),(106,.agg [sA v17.Name,.isl 1 (List.map rStr v17.Params),sA v17.Ret,bA v17.Static,bA v17.Abstract,iA v17.Locals,iA v17.Stack,.isl 4 (List.map rApiIns v17.Code),.isl 3 (List.map rApiMap v17.Maps),.isl 4 (List.map rApiTrap v17.Traps)]),(105,.ipt 10 (List.map rApiMethod v2.Methods) (Int.toNat v15) 0),(104,iA v15),(103,.isl 10 (List.map rApiMethod v2.Methods)),(102,.mpt 1 0 5),(101,.agg [sA v16.Name,.isl 1 (List.map rStr v16.Params),sA v16.Ret,bA v16.Static,bA v16.Abstract,iA v16.Locals,iA v16.Stack,.isl 4 (List.map rApiIns v16.Code),.isl 3 (List.map rApiMap v16.Maps),.isl 4 (List.map rApiTrap v16.Traps)]),(100,.ipt 10 (List.map rApiMethod v1.Methods) (Int.toNat v15) 0),(99,iA v15),(98,.isl 10 (List.map rApiMethod v1.Methods)),(97,.mpt 0 0 5)] 0 (by kernel_rfl) (by kernel_rfl) j0 (by kernel_rfl) (dt0 ⟨(fun _=>pa j0 j0 j0 j0 (nt j0<|j4)),(fun _=>pa j0 j0 j0 j0 (pc (ref3_eqMethod_ok v16 v17 q29) j0 j0 j0<|j4)),(fun _=>pa j0 j0 j0 j0 (ldI ti38 j0 (idx_some q28).2.2 j0<|j4)),(fun _=>pa j0 j0 j0 j0 (ixI ti24 j0 ti38 j0 j0 j0 q28<|j4)),(fun _=>pa j0 j0 j0 j0 (mv j0<|j4)),(fun _=>pa j0 j0 j0 j0 (ld ti24 j0 j0<|j4)),(fun _=>pa j0 j0 j0 j0 (fa ti26 j0 j0 j0<|j4)),(fun _=>pa j0 j0 j0 j0 (ldI ti38 j0 (idx_some q27).2.2 j0<|j4)),(fun _=>pa j0 j0 j0 j0 (ixI ti24 j0 ti38 j0 j0 j0 q27<|j4)),(fun _=>pa j0 j0 j0 j0 (mv j0<|j4)),(fun _=>pa j0 j0 j0 j0 (ld ti24 j0 j0<|j4)),(fun _=>pa j0 j0 j0 j0 (fa ti26 j0 j0 j0<|j4)),j5⟩ (by kernel_rfl) j0 ⟨[.old 0,.old 1],cv j0 (.mpt j0)<|cv j0 (.mpt j0)<|ce j0 j0<|ce j0 j0<|cn,j0,⟨⟨_,j0,rsOne ⟨ci j0,ci j0,ci j0,ci j0,ci j0,ci j0,j5⟩⟩,⟨_,j0,rsOne ⟨ci j0,ci j0,ci j0,ci j0,ci j0,ci j0,j5⟩⟩,j5⟩,j0,j1⟩) ?_
     refine sw_cond j0 (fun hc30=>?_) (fun hc30=>?_)
     ·
      replace h:=bT hc30 h
      refine rg j0<|u<|asg j0<|r_nil ?_
      refine sw_ret ?_
      obtain rfl:=sm h
      exact ⟨_,j0,_,j0,[],ci j0,j0,j5,j0,j1⟩
     ·
      replace h:=bF hc30 h
      refine sw_skip ?_
      refine rl j0<|u<|mv j0<|u<|add ti3 j0 j0<|u<|asg j0<|r_nil ?_
      obtain rfl:=sm h
      exact ⟨_,j0,[.old 0,.old 1],cv j0 (.mpt j0)<|cv j0 (.mpt j0)<|ce j0 j0<|cn,j0,⟨⟨_,j0,rsOne ⟨ci j0,ci j0,ci j0,ci j0,ci j0,ci j0,j5⟩⟩,⟨_,j0,rsOne ⟨ci j0,ci j0,ci j0,ci j0,ci j0,ci j0,j5⟩⟩,j5⟩,j0,j1⟩
    ·
     replace h:=bF hc26 h
     refine sw_exit ?_
     obtain rfl:=sm h
     exact ⟨j0,_,j0,[],cn,j0,j5,j0,j1⟩
   ·
    rintro ⟨⟩ rfl
    replace h : ref3_EqClass_k4 = some r:=h
    unfold ref3_EqClass_k4 at h
    refine ow_intro ?_
    refine rg j0<|u<|asg j0<|r_nil ?_
    refine sw_ret ?_
    obtain rfl:=sm h
    exact ⟨_,j0,[],ci j0,j0,j5,j0,j1⟩
   ·
    rintro r' rfl env st hp
    obtain rfl:=sm h
    exact hp
  ·
   rintro r' rfl env st hp
   obtain rfl:=sm h
   exact hp
def law5_Begun : Option (Bool) :=
  (law5_begun).bind fun v1=>some v1
theorem law5_Begun_ok {r : Bool} (h : law5_Begun = some r) : PureC Tryz.prog 69 [] (bA r):=by
 refine pure_fn Tryz.func69 j0 (by kernel_rfl) j0 j0 ?_
 unfold law5_Begun at h
 refine rg j0<|u<|asg j0<|r_nil ?_
 obtain ⟨v1,q1,h⟩:=bs h
 refine rg j0<|u<|pc (law5_begun_ok q1) j0 j0 j0<|u<|asg j0<|r_nil ?_
 refine sw_ret ?_
 obtain rfl:=sm h
 exact ⟨_,j0,[],ci j0,j0,j5,j0,j1⟩
def law6_begun : Option (Bool) :=
  (file_Encode (ApiClass.mk [65,98] [79,98,106,101,99,116] false [] ([(ApiField.mk [120] [73] false)]) ([(ApiMethod.mk [109,97,105,110] [] [86] true false 0 0 ([(ApiIns.mk 46 0 [] [])]) [] [])]))).bind fun v1=>(file_Decode v1).bind fun v2=>(file_Decode []).bind fun v3=>(law5_Begun).bind fun v4=>(cond (v4 && (decide (10 < (List.length v1 : Int)))) ((idx v1 0).bind fun v5=>some ((v5.toNat : Int) == (74 : Int))) (some false)).bind fun v6=>(cond (v6 && (v2.2 == (0 : Int))) ((ref3_EqClass (ApiClass.mk [65,98] [79,98,106,101,99,116] false [] ([(ApiField.mk [120] [73] false)]) ([(ApiMethod.mk [109,97,105,110] [] [86] true false 0 0 ([(ApiIns.mk 46 0 [] [])]) [] [])])) v2.1).bind fun v7=>some v7) (some false)).bind fun v8=>(cond (v8 && (v3.2 == (1 : Int))) ((file_Encode (ApiClass.mk [] [] false [] [] [])).bind fun v9=>some (((List.length v9) : Int) == (0 : Int))) (some false)).bind fun v10=>some v10
theorem law6_begun_ok {r : Bool} (h : law6_begun = some r) : PureC Tryz.prog 15 [] (bA r):=by
 refine pure_fn Tryz.func15 j0 (by kernel_rfl) j0 j0 ?_
 unfold law6_begun at h
 refine rg j0<|u<|asg j0<|r_nil ?_
 refine rg j0<|u<|sc [] (law5_One_ok [65,98] j0) j0 j0 j0 j0 ⟨(rnI j0),j5⟩ j5<|u<|al 3 ti26 j0<|u<|sto ti26 j0 j0 j0<|r_nil ?_
 obtain ⟨v1,q1,h⟩:=bs h
 refine rg j0<|u<|ld ti26 j0 j0<|r_can (env0:=[(1,.mpt 0 0 0),(8,.agg [sA [65,98],sA [79,98,106,101,99,116],bA false,.lit (.slice none 0 0),.isl 3 (List.map rApiField ([(ApiField.mk [120] [73] false)])),.isl 10 (List.map rApiMethod ([(ApiMethod.mk [109,97,105,110] [] [86] true false 0 0 ([(ApiIns.mk 46 0 [] [])]) [] [])]))])]) (st0:=[some (6,[[sA [65,98],sA [79,98,106,101,99,116],bA false,.lit (.slice none 0 0),.isl 3 (List.map rApiField ([(ApiField.mk [120] [73] false)])),.isl 10 (List.map rApiMethod ([(ApiMethod.mk [109,97,105,110] [] [86] true false 0 0 ([(ApiIns.mk 46 0 [] [])]) [] [])]))]])]) ⟨[.old 3],cv j0 (.mpt j0)<|cv j0 (rsAgg ⟨ci j0,ci j0,ci j0,ci j0,(rsSealX j0 j0 ⟨⟨⟨ci j0,ci j0,ci j0,j5⟩,j0⟩,j5⟩),(rsSealX j0 j0 ⟨⟨⟨ci j0,.nil,ci j0,ci j0,ci j0,ci j0,ci j0,rsSealX j0 j0 ⟨⟨⟨ci j0,ci j0,ci j0,ci j0,j5⟩,j0⟩,j5⟩,.nil,.nil,j5⟩,j0⟩,j5⟩),j5⟩)<|cn,j0,⟨⟨_,j0,rsOne ⟨ci j0,ci j0,ci j0,ci j0,rsSealX j0 j0 ⟨⟨⟨ci j0,ci j0,ci j0,j5⟩,j0⟩,j5⟩,rsSealX j0 j0 ⟨⟨⟨ci j0,.nil,ci j0,ci j0,ci j0,ci j0,ci j0,rsSealX j0 j0 ⟨⟨⟨ci j0,ci j0,ci j0,ci j0,j5⟩,j0⟩,j5⟩,.nil,.nil,j5⟩,j0⟩,j5⟩,j5⟩⟩,j5⟩,j0,j1⟩<|u<|sc [] (file_Encode_ok (ApiClass.mk [65,98] [79,98,106,101,99,116] false [] ([(ApiField.mk [120] [73] false)]) ([(ApiMethod.mk [109,97,105,110] [] [86] true false 0 0 ([(ApiIns.mk 46 0 [] [])]) [] [])])) q1) j0 j0 j0 j0 ⟨(rnAgg ⟨(rnI j0),(rnI j0),(rnI j0),(.nilI),(rnI j0),(rnI j0),j5⟩),j5⟩ j5<|r_can (env0:=[(1,.mpt 0 0 0),(9,.msl 1 0 (List.length v1))]) (st0:=[some (6,[[sA [65,98],sA [79,98,106,101,99,116],bA false,.lit (.slice none 0 0),.isl 3 (List.map rApiField ([(ApiField.mk [120] [73] false)])),.isl 10 (List.map rApiMethod ([(ApiMethod.mk [109,97,105,110] [] [86] true false 0 0 ([(ApiIns.mk 46 0 [] [])]) [] [])]))]]),some (1,List.map byteRow v1)]) ⟨[.old 0,.old 1],cv j0 (.mpt j0)<|cv j0 (.msl j0)<|cn,j0,⟨⟨_,j0,rsOne ⟨ci j0,ci j0,ci j0,ci j0,ci j0,ci j0,j5⟩⟩,⟨_,j0,rsMap (fun _=>j0)⟩,j5⟩,j0,j1⟩<|u<|asg j0<|r_nil ?_
 obtain ⟨v2,q2,h⟩:=bs h
 refine rg j0<|u<|mv j0<|r_can (env0:=[(1,.mpt 0 0 0),(2,.isl 1 (List.map byteRow v1)),(11,.isl 1 (List.map byteRow v1))]) (st0:=[some (6,[[sA [65,98],sA [79,98,106,101,99,116],bA false,.lit (.slice none 0 0),.isl 3 (List.map rApiField ([(ApiField.mk [120] [73] false)])),.isl 10 (List.map rApiMethod ([(ApiMethod.mk [109,97,105,110] [] [86] true false 0 0 ([(ApiIns.mk 46 0 [] [])]) [] [])]))]])]) ⟨[.old 0],cv j0 (.mpt j0)<|cv j0 (rsSeal j0 j0 (fun _=>j0))<|cv j0 (rsSeal j0 j0 (fun _=>j0))<|cn,j0,⟨⟨_,j0,rsOne ⟨ci j0,ci j0,ci j0,ci j0,ci j0,ci j0,j5⟩⟩,j5⟩,j0,j1⟩<|u<|pc (file_Decode_ok v1 q2) j0 j0 j0<|u<|mv j0<|u<|ex j0 j0<|u<|ex j0 j0<|u<|al 1 ti26 j0<|u<|sto ti26 j0 j0 j0<|u<|asg j0<|r_nil ?_
 obtain ⟨v3,q3,h⟩:=bs h
 refine rg j0<|u<|pcn (file_Decode_ok [] q3) j0 j0 ⟨(nlN),j5⟩<|u<|mv j0<|u<|ex j0 j0<|u<|ex j0 j0<|u<|al 2 ti26 j0<|u<|sto ti26 j0 j0 j0<|u<|asg j0<|r_nil ?_
 obtain ⟨v4,q4,h⟩:=bs h
 obtain ⟨v6,q8,h⟩:=bs h
 obtain ⟨v8,q12,h⟩:=bs h
 obtain ⟨v10,q16,h⟩:=bs h
 refine rg j0<|u<|pc (law5_Begun_ok q4) j0 j0 j0<|u<|mv j0<|r_and (j:=1) 3 j0 j0 j0 j0 j0 gpn (fun hb5=>g j0 hb5<|mv j0<|g j0 hb5<|lnI ti29 j0 j0<|g j0 hb5<|gtr ti3 j0 j0<|r_nil (egA [21,22,23] 3 hb5 j0 j0 j0 j0)) andF<|u<|mv j0<|r_and (x:=v6) (j:=6) 4 j0 j0 j0 j0 j0 gpn (fun hb6=>by replace q8:=bT hb6 q8; obtain ⟨v5,q7,q8⟩:=bs q8; obtain rfl:=sm q8; exact g j0 hb6<|mv j0<|g j0 hb6<|ixI ti29 j0 ti5 j0 j0 j0 q7<|g j0 hb6<|ldI ti5 j0 (idx_some q7).2.2 j0<|g j0 hb6<|eql ti5 j0 j0<|r_nil (eg [26,27,28,29] 4 j0 j0 j0 j0)) (fun hb=>(sm (bF hb q8)).symm)<|u<|mv j0<|r_and (j:=12) 2 j0 j0 j0 j0 j0 gpn (fun hb9=>g j0 hb9<|mv j0<|g j0 hb9<|eql ti31 j0 j0<|r_nil (egA [32,33] 2 hb9 j0 j0 j0 j0)) andF<|u<|mv j0<|r_and (x:=v8) (j:=16) 3 j0 j0 j0 j0 j0 gpn (fun hb10=>by replace q12:=bT hb10 q12; obtain ⟨v7,q11,q12⟩:=bs q12; obtain rfl:=sm q12; exact g j0 hb10<|ld ti26 j0 j0<|g j0 hb10<|ld ti26 j0 j0<|g j0 hb10<|pcs (ref3_EqClass_ok (ApiClass.mk [65,98] [79,98,106,101,99,116] false [] ([(ApiField.mk [120] [73] false)]) ([(ApiMethod.mk [109,97,105,110] [] [86] true false 0 0 ([(ApiIns.mk 46 0 [] [])]) [] [])])) v2.1 q11) j0 j0 (.cons (sealAgg ⟨(si j0),(si j0),(si j0),(.nil),(si j0),(si j0),j5⟩) (.cons (si j0) .nil)) plainB<|r_nil (eg [36,37,38] 3 j0 j0 j0 j0)) (fun hb=>(sm (bF hb q12)).symm)<|u<|mv j0<|r_and (j:=21) 2 j0 j0 j0 j0 j0 gpn (fun hb13=>g j0 hb13<|mv j0<|g j0 hb13<|eql ti31 j0 j0<|r_nil (egA [41,42] 2 hb13 j0 j0 j0 j0)) andF<|u<|mv j0<|r_andX (x:=v10) (j:=25) 4 1 j0 j0 j0 j0 j0 gpn (fun hb14=>by replace q16:=bT hb14 q16; obtain ⟨v9,q15,q16⟩:=bs q16; obtain rfl:=sm q16; exact g j0 hb14<|bd ti26 j0 j0 j0<|g j0 hb14<|sc [] (file_Encode_ok (ApiClass.mk [] [] false [] [] []) q15) j0 j0 j0 j0 ⟨(rnAgg ⟨(rnI j0),(rnI j0),(rnI j0),(.nilI),(.nilI),(.nilI),j5⟩),j5⟩ j5<|g j0 hb14<|lnM ti29 j0 j0 j0<|g j0 hb14<|eql ti3 j0 j0<|r_nil (xg [45,46,47,48] 4 j0 j0 j0 j0 j0 j0)) (fun hb=>(sm (bF hb q16)).symm)<|u<|asg j0<|r_nil ?_
 refine sw_ret ?_
 obtain rfl:=sm h
 exact ⟨_,j0,[],ci j0,j0,j5,j0,j1⟩
end
end Go.Proofs.YthmnlfenkhmmhaaGreat
