/- LinkAll: for every input the law returns true, and each argument reads as it read before. No further condition. Part 6 of 7. -/
import Derived.Test.YtooagifeniibcaaGreatYe5
namespace Go.Proofs.YtooagifeniibcaaGreat
noncomputable section
set_option linter.unusedSimpArgs false
set_option linter.unusedVariables false
set_option maxRecDepth 100000
set_option maxHeartbeats 4000000
def link_Field_k2 : Option ((List UInt8) × ApiField × Bool) :=
  some ([],(ApiField.mk [] [] false),false)
def link_Field_l1 (v2 : List UInt8) (v3 : (List (List UInt8))) (v9 : Int) : Option (Sum (Int) (Sum (Unit) ((List UInt8) × ApiField × Bool))) :=
  cond (decide (v9 < (List.length v3 : Int))) ((idx v3 v9).bind fun v10=>(hier_Hier_Class_s2 v10).bind fun v11=>(class_Field v11.1 v2).bind fun v12=>cond (decide (0 ≤ v12)) ((idx v11.1.Fields v12).bind fun v13=>some (.inr (.inr (v10,v13,true)))) (some (.inl (IntKind.i64.wrap (v9 + 1))))) (some (.inr (.inl ())))
def link_Field (v1 : List UInt8) (v2 : List UInt8) : Option ((List UInt8) × ApiField × Bool) :=
  (hier_Hier_Supers v1).bind fun v3=>(loopP (fun z=>link_Field_l1 v2 v3 z) 0).bind fun o=>leave o (fun b=>link_Field_k2) some
theorem link_Field_ok (v1 : List UInt8) (v2 : List UInt8) {r : (List UInt8) × ApiField × Bool} (h : link_Field v1 v2 = some r) : PureC Tryz.prog 76 [.lit (.pointer none),sA v1,sA v2] (.tup [sA r.1,.agg [sA r.2.1.Name,sA r.2.1.Type_,bA r.2.1.Static],bA r.2.2]):=by
 refine pure_fn Tryz.func76 j0 (by kernel_rfl) j0 j0 ?_
 unfold link_Field at h
 refine rg j0<|u<|asg j0<|u<|al 0 ti57 j0<|u<|asg j0<|r_nil ?_
 refine sw_seq ?_
 obtain ⟨v3,q1,h⟩:=bs h
 refine rg j0<|u<|mv j0<|u<|mv j0<|u<|pc (hier_Hier_Supers_ok v1 q1) j0 j0 j0<|u<|lnI ti32 j0 j0<|u<|mv j0<|r_nil ?_
 obtain ⟨o,ho,h⟩:=bs h
 refine sw_lpl (X:=Int) (B:=Unit) (R:=(List UInt8) × ApiField × Bool) (fun z=>[(0,.lit (.pointer none)),(2,sA v2),(7,.mpt 0 0 0),(16,.isl 1 (List.map rStr v3)),(17,iA (List.length v3 : Int)),(18,iA z)]) (fun z=>[some (3,[[sA [],sA [],bA false]])]) (fun b=>[(7,.mpt 0 0 0)]) (fun b=>[some (3,[[sA [],sA [],bA false]])]) (fun r env st=>PostF Tryz.prog Tryz.f76 0 (.tup [sA r.1,.agg [sA r.2.1.Name,sA r.2.1.Type_,bA r.2.1.Static],bA r.2.2]) [] env st) ho ⟨[.old 0],ce j0 j0<|ce j0 j0<|cv j0 (.mpt j0)<|ce j0 j0<|ce j0 j0<|ce j0 j0<|cn,j0,⟨⟨_,j0,rsOne ⟨ci j0,ci j0,ci j0,j5⟩⟩,j5⟩,j0,j1⟩ ?_ ?_ ?_
 ·
  rintro v9 r h
  replace h : link_Field_l1 v2 v3 v9 = some r:=h
  unfold link_Field_l1 at h
  refine rg j0<|u<|lss ti3 j0 j0<|r_nil ?_
  refine sw_seq ?_
  refine sw_cond j0 (fun hc8=>?_) (fun hc8=>?_)
  ·
   replace h:=bT hc8 h
   refine sw_skip ?_
   refine sw_seq ?_
   refine sw_block ?_
   obtain ⟨v10,q9,h⟩:=bs h
   refine rg j0<|u<|ixI ti32 j0 ti9 j0 j0 j0 q9<|u<|ldI ti9 j0 (idx_some q9).2.2 j0<|u<|asg j0<|r_nil ?_
   obtain ⟨v11,q10,h⟩:=bs h
   refine rg j0<|u<|mv j0<|u<|mv j0<|u<|pc (hier_Hier_Class_s2_ok v10 q10) j0 j0 j0<|u<|mv j0<|u<|ex j0 j0<|u<|ex j0 j0<|u<|al 1 ti42 j0<|u<|sto ti42 j0 j0 j0<|u<|asg j0<|r_nil ?_
   obtain ⟨v12,q11,h⟩:=bs h
   refine rg j0<|u<|ld ti42 j0 j0<|u<|mv j0<|u<|pc (class_Field_ok v11.1 v2 q11) j0 j0 j0<|u<|asg j0<|r_nil ?_
   refine rg j0<|u<|mv j0<|u<|geq ti3 j0 j0<|r_nil ?_
   refine sw_cond j0 (fun hc12=>?_) (fun hc12=>?_)
   ·
    replace h:=bT hc12 h
    obtain ⟨v13,q13,h⟩:=bs h
    refine rd [(6,sA v10),(7,.mpt 0 0 0),(8,bA true)] [some (3,[[sA v13.Name,sA v13.Type_,bA v13.Static]])] [7] [6,5,4,3,2,1,0] [(6,sA v10),(38,.agg [sA v13.Name,sA v13.Type_,bA v13.Static]),(37,.ipt 3 (List.map rApiField v11.1.Fields) (Int.toNat v12) 0),(36,iA v12),(35,.isl 3 (List.map rApiField v11.1.Fields)),(34,.mpt 1 0 4),(33,sA v10)] 1 (by kernel_rfl) (by kernel_rfl) j0 (by kernel_rfl) (dtS ⟨(fun _=>pa j0 j0 j0 j0 (asg j0<|j4)),(fun _=>pa j0 j0 j0 j0 (ldI ti57 j0 (idx_some q13).2.2 j0<|j4)),(fun _=>pa j0 j0 j0 j0 (ixI ti39 j0 ti57 j0 j0 j0 q13<|j4)),(fun _=>pa j0 j0 j0 j0 (mv j0<|j4)),(fun _=>pa j0 j0 j0 j0 (ld ti39 j0 j0<|j4)),(fun _=>pa j0 j0 j0 j0 (fa ti42 j0 j0 j0<|j4)),(fun _=>pa j0 j0 j0 j0 (mv j0<|j4)),j5⟩ (by kernel_rfl) j0 ⟨(fun _ _=>⟨_,j0,j0,sto ti57 j0 j0 j0<|⟨.any,[8],[(8,bA true)],j0,j0,by kernel_rfl,j5,dt0 ⟨(fun _=>pa j0 j0 j0 j0 (asg j0<|j4)),(fun h=>by cases h),(fun h=>by cases h),(fun h=>by cases h),(fun h=>by cases h),(fun h=>by cases h),(fun h=>by cases h),(fun h=>by cases h),j5⟩ (by kernel_rfl) j0 ⟨[.old 0],ce j0 j0<|cv j0 (.mpt j0)<|ce j0 j0<|cn,j0,⟨⟨_,j0,rsOne ⟨ci j0,ci j0,ci j0,j5⟩⟩,j5⟩,j0,j1⟩⟩⟩),j5⟩) ?_
    refine sw_ret ?_
    obtain rfl:=sm h
    exact ⟨_,j0,_,j0,[],rsTup ⟨(ci j0),(ci j0),(ci j0),j5⟩,j0,j5,j0,j1⟩
   ·
    replace h:=bF hc12 h
    refine sw_skip ?_
    refine rl j0<|u<|add ti3 j0 j0<|u<|mv j0<|r_nil ?_
    obtain rfl:=sm h
    exact ⟨_,j0,[.old 0],ce j0 j0<|ce j0 j0<|cv j0 (.mpt j0)<|ce j0 j0<|ce j0 j0<|ce j0 j0<|cn,j0,⟨⟨_,j0,rsOne ⟨ci j0,ci j0,ci j0,j5⟩⟩,j5⟩,j0,j1⟩
  ·
   replace h:=bF hc8 h
   refine sw_exit ?_
   obtain rfl:=sm h
   exact ⟨j0,_,j0,[.old 0],cv j0 (.mpt j0)<|cn,j0,⟨⟨_,j0,rsOne ⟨ci j0,ci j0,ci j0,j5⟩⟩,j5⟩,j0,j1⟩
 ·
  rintro ⟨⟩ rfl
  replace h : link_Field_k2 = some r:=h
  unfold link_Field_k2 at h
  refine ow_intro ?_
  refine rg j0<|u<|bd ti57 j0 j0 j0<|u<|asg j0<|u<|sto ti57 j0 j0 j0<|u<|asg j0<|r_nil ?_
  refine sw_ret ?_
  obtain rfl:=sm h
  exact ⟨_,j0,[],rsTup ⟨(ci j0),(ci j0),(ci j0),j5⟩,j0,j5,j0,j1⟩
 ·
  rintro r' rfl env st hp
  obtain rfl:=sm h
  exact hp
def ref7_Hier_Field_k2 : Option ((List UInt8) × ApiField × Bool) :=
  some ([],(ApiField.mk [] [] false),false)
def ref7_Hier_Field_l1 (v1 : List ApiClass) (v3 : List UInt8) (v4 : (List (List UInt8))) (v12 : Int) : Option (Sum (Int) (Sum (Unit) ((List UInt8) × ApiField × Bool))) :=
  cond (decide (v12 < ((List.length v4) : Int))) ((idx v4 v12).bind fun v13=>(ref7_Hier_At v1 v13).bind fun v14=>(idx v1 v14).bind fun v15=>(ref3_Field v15 v3).bind fun v16=>cond (decide (0 ≤ v16)) ((idx v4 v12).bind fun v17=>(idx v15.Fields v16).bind fun v18=>some (.inr (.inr (v17,v18,true)))) (some (.inl (IntKind.i64.wrap (v12 + 1))))) (some (.inr (.inl ())))
def ref7_Hier_Field (v1 : List ApiClass) (v2 : List UInt8) (v3 : List UInt8) : Option ((List UInt8) × ApiField × Bool) :=
  (ref7_Hier_Supers_s2 v1 v2).bind fun v4=>(loopP (fun z=>ref7_Hier_Field_l1 v1 v3 v4 z) 0).bind fun o=>leave o (fun b=>ref7_Hier_Field_k2) some
theorem ref7_Hier_Field_ok (v1 : List ApiClass) (v2 : List UInt8) (v3 : List UInt8) {r : (List UInt8) × ApiField × Bool} (h : ref7_Hier_Field v1 v2 v3 = some r) : PureC Tryz.prog 78 [.ipt 1 [[.isl 6 (List.map rApiClass v1)]] 0 0,sA v2,sA v3] (.tup [sA r.1,.agg [sA r.2.1.Name,sA r.2.1.Type_,bA r.2.1.Static],bA r.2.2]):=by
 refine pure_fn Tryz.func78 j0 (by kernel_rfl) j0 j0 ?_
 unfold ref7_Hier_Field at h
 refine rg j0<|u<|asg j0<|u<|al 0 ti57 j0<|u<|asg j0<|r_nil ?_
 obtain ⟨v4,q1,h⟩:=bs h
 refine rg j0<|u<|mv j0<|u<|mv j0<|u<|sc [] (ref7_Hier_Supers_s2_ok v1 v2 q1) j0 j0 j0 j0 ⟨(rnI j0),(rnI j0),j5⟩ j5<|r_can (env0:=[(0,.ipt 1 [[.isl 6 (List.map rApiClass v1)]] 0 0),(2,sA v3),(7,.mpt 0 0 0),(15,.msl 1 0 (List.length v4))]) (st0:=[some (3,[[sA [],sA [],bA false]]),some (1,List.map rStr v4)]) ⟨[.old 0,.old 1],ce j0 j0<|ce j0 j0<|cv j0 (.mpt j0)<|cv j0 (.msl j0)<|cn,j0,⟨⟨_,j0,rsOne ⟨ci j0,ci j0,ci j0,j5⟩⟩,⟨_,j0,rsMap (fun _=>j0)⟩,j5⟩,j0,j1⟩<|u<|asg j0<|r_nil ?_
 refine sw_seq ?_
 refine rg j0<|u<|asg j0<|r_nil ?_
 obtain ⟨o,ho,h⟩:=bs h
 refine sw_lpl (X:=Int) (B:=Unit) (R:=(List UInt8) × ApiField × Bool) (fun z=>[(0,.ipt 1 [[.isl 6 (List.map rApiClass v1)]] 0 0),(2,sA v3),(7,.mpt 0 0 0),(9,.msl 1 0 (List.length v4)),(10,iA z)]) (fun z=>[some (3,[[sA [],sA [],bA false]]),some (1,List.map rStr v4)]) (fun b=>[(7,.mpt 0 0 0)]) (fun b=>[some (3,[[sA [],sA [],bA false]])]) (fun r env st=>PostF Tryz.prog Tryz.f78 0 (.tup [sA r.1,.agg [sA r.2.1.Name,sA r.2.1.Type_,bA r.2.1.Static],bA r.2.2]) [] env st) ho ⟨[.old 0,.old 1],ce j0 j0<|ce j0 j0<|cv j0 (.mpt j0)<|cv j0 (.msl j0)<|ce j0 j0<|cn,j0,⟨⟨_,j0,rsOne ⟨ci j0,ci j0,ci j0,j5⟩⟩,⟨_,j0,rsMap (fun _=>j0)⟩,j5⟩,j0,j1⟩ ?_ ?_ ?_
 ·
  rintro v12 r h
  replace h : ref7_Hier_Field_l1 v1 v3 v4 v12 = some r:=h
  unfold ref7_Hier_Field_l1 at h
  refine sw_seq ?_
  refine rg j0<|u<|mv j0<|u<|mv j0<|u<|lnM ti32 j0 j0 j0<|u<|lss ti3 j0 j0<|r_nil ?_
  refine sw_cond j0 (fun hc10=>?_) (fun hc10=>?_)
  ·
   replace h:=bT hc10 h
   refine sw_skip ?_
   refine sw_seq ?_
   refine sw_block ?_
   obtain ⟨v13,q11,h⟩:=bs h
   obtain ⟨v14,q12,h⟩:=bs h
   obtain ⟨v15,q13,h⟩:=bs h
   refine rd [(0,.ipt 1 [[.isl 6 (List.map rApiClass v1)]] 0 0),(2,sA v3),(7,.mpt 0 0 0),(9,.msl 1 0 (List.length v4)),(10,iA v12),(11,.mpt 2 0 0)] [some (3,[[sA [],sA [],bA false]]),some (1,List.map rStr v4),some (6,[[sA v15.Name,sA v15.Super,bA v15.Interface,.isl 1 (List.map rStr v15.Impl),.isl 3 (List.map rApiField v15.Fields),.isl 10 (List.map rApiMethod v15.Methods)]])] [12,13] [11,10,9,8,7,6,5,4,3,2,1,0] [(33,.agg [sA v15.Name,sA v15.Super,bA v15.Interface,.isl 1 (List.map rStr v15.Impl),.isl 3 (List.map rApiField v15.Fields),.isl 10 (List.map rApiMethod v15.Methods)]),(32,.ipt 6 (List.map rApiClass v1) (Int.toNat v14) 0),(31,iA v14),(30,sA v13),(29,.mpt 1 (Int.toNat v12) 0),(28,iA v12),(27,.msl 1 0 (List.length v4)),(26,.ipt 1 [[.isl 6 (List.map rApiClass v1)]] 0 0),(25,.isl 6 (List.map rApiClass v1)),(24,.ipt 1 [[.isl 6 (List.map rApiClass v1)]] 0 0),(23,.ipt 1 [[.isl 6 (List.map rApiClass v1)]] 0 0),(22,.ipt 1 [[.isl 6 (List.map rApiClass v1)]] 0 0)] 2 (by kernel_rfl) (by kernel_rfl) j0 (by kernel_rfl) (dtS ⟨(fun _=>pa j0 j0 j0 j0 (ldI ti42 j0 (idx_some q13).2.2 j0<|j4)),(fun _=>pa j0 j0 j0 j0 (ixI ti22 j0 ti42 j0 j0 j0 q13<|j4)),(fun _=>pa j0 j0 j0 j0 (pc (ref7_Hier_At_ok v1 v13 q12) j0 j0 j0<|j4)),(fun _=>pa j0 j0 j0 j0 (ldM ti9 j0 j0 (idx_some q11).2.2 j0<|j4)),(fun _=>pa j0 j0 j0 j0 (ixM ti32 j0 ti9 j0 j0 j0 j0 q11<|j4)),(fun _=>pa j0 j0 j0 j0 (mv j0<|j4)),(fun _=>pa j0 j0 j0 j0 (mv j0<|j4)),(fun _=>pa j0 j0 j0 j0 (mv j0<|j4)),(fun _=>pa j0 j0 j0 j0 (ld ti22 j0 j0<|j4)),(fun _=>pa j0 j0 j0 j0 (fa ti51 j0 j0 j0<|j4)),(fun _=>pa j0 j0 j0 j0 (nc j0 j0<|j4)),(fun _=>pa j0 j0 j0 j0 (mv j0<|j4)),j5⟩ (by kernel_rfl) j0 ⟨(fun _ _=>⟨_,j0,j0,al 2 ti42 j0<|⟨(.mpt 2 0 0),[],[(11,.mpt 2 0 0)],j0,j0,by kernel_rfl,j0,dtS ⟨(fun _=>pa j0 j0 j0 j0 (ldI ti42 j0 (idx_some q13).2.2 j0<|j4)),(fun _=>pa j0 j0 j0 j0 (ixI ti22 j0 ti42 j0 j0 j0 q13<|j4)),(fun _=>pa j0 j0 j0 j0 (pc (ref7_Hier_At_ok v1 v13 q12) j0 j0 j0<|j4)),(fun _=>pa j0 j0 j0 j0 (ldM ti9 j0 j0 (idx_some q11).2.2 j0<|j4)),(fun _=>pa j0 j0 j0 j0 (ixM ti32 j0 ti9 j0 j0 j0 j0 q11<|j4)),(fun _=>pa j0 j0 j0 j0 (mv j0<|j4)),(fun _=>pa j0 j0 j0 j0 (mv j0<|j4)),(fun _=>pa j0 j0 j0 j0 (mv j0<|j4)),(fun _=>pa j0 j0 j0 j0 (ld ti22 j0 j0<|j4)),(fun _=>pa j0 j0 j0 j0 (fa ti51 j0 j0 j0<|j4)),(fun _=>pa j0 j0 j0 j0 (nc j0 j0<|j4)),(fun _=>pa j0 j0 j0 j0 (mv j0<|j4)),j5⟩ (by kernel_rfl) j0 ⟨(fun h=>by cases h),(fun _ _=>⟨_,j0,j0,sto ti42 j0 j0 j0<|⟨.any,[],[],j0,j0,by kernel_rfl,j5,dt0 ⟨(fun h=>by cases h),(fun h=>by cases h),(fun h=>by cases h),(fun h=>by cases h),(fun h=>by cases h),(fun h=>by cases h),(fun h=>by cases h),(fun h=>by cases h),(fun h=>by cases h),(fun h=>by cases h),(fun h=>by cases h),(fun h=>by cases h),j5⟩ (by kernel_rfl) j0 ⟨[.old 0,.old 1,.old 2],ce j0 j0<|ce j0 j0<|cv j0 (.mpt j0)<|cv j0 (.msl j0)<|ce j0 j0<|cv j0 (.mpt j0)<|cn,j0,⟨⟨_,j0,rsOne ⟨ci j0,ci j0,ci j0,j5⟩⟩,⟨_,j0,rsMap (fun _=>j0)⟩,⟨_,j0,rsOne ⟨ci j0,ci j0,ci j0,ci j0,ci j0,ci j0,j5⟩⟩,j5⟩,j0,j1⟩⟩⟩),j5⟩⟩⟩),(fun _ h=>by cases h),j5⟩) ?_
   obtain ⟨v16,q14,h⟩:=bs h
   refine rg j0<|u<|ld ti42 j0 j0<|u<|mv j0<|u<|pc (ref3_Field_ok v15 v3 q14) j0 j0 j0<|u<|asg j0<|r_nil ?_
   refine rg j0<|u<|mv j0<|u<|geq ti3 j0 j0<|r_nil ?_
   refine sw_cond j0 (fun hc15=>?_) (fun hc15=>?_)
   ·
    replace h:=bT hc15 h
    obtain ⟨v17,q16,h⟩:=bs h
    obtain ⟨v18,q17,h⟩:=bs h
    refine rd [(6,sA v17),(7,.mpt 0 0 0),(8,bA true)] [some (3,[[sA v18.Name,sA v18.Type_,bA v18.Static]])] [10] [9,8,7,6,5,4,3,2,1,0] [(6,sA v17),(47,.agg [sA v18.Name,sA v18.Type_,bA v18.Static]),(46,.ipt 3 (List.map rApiField v15.Fields) (Int.toNat v16) 0),(45,iA v16),(44,.isl 3 (List.map rApiField v15.Fields)),(43,.mpt 2 0 4),(42,sA v17),(41,.mpt 1 (Int.toNat v12) 0),(40,iA v12),(39,.msl 1 0 (List.length v4))] 1 (by kernel_rfl) (by kernel_rfl) j0 (by kernel_rfl) (dtS ⟨(fun _=>pa j0 j0 j0 j0 (asg j0<|j4)),(fun _=>pa j0 j0 j0 j0 (ldI ti57 j0 (idx_some q17).2.2 j0<|j4)),(fun _=>pa j0 j0 j0 j0 (ixI ti39 j0 ti57 j0 j0 j0 q17<|j4)),(fun _=>pa j0 j0 j0 j0 (mv j0<|j4)),(fun _=>pa j0 j0 j0 j0 (ld ti39 j0 j0<|j4)),(fun _=>pa j0 j0 j0 j0 (fa ti42 j0 j0 j0<|j4)),(fun _=>pa j0 j0 j0 j0 (ldM ti9 j0 j0 (idx_some q16).2.2 j0<|j4)),(fun _=>pa j0 j0 j0 j0 (ixM ti32 j0 ti9 j0 j0 j0 j0 q16<|j4)),(fun _=>pa j0 j0 j0 j0 (mv j0<|j4)),(fun _=>pa j0 j0 j0 j0 (mv j0<|j4)),j5⟩ (by kernel_rfl) j0 ⟨(fun _ _=>⟨_,j0,j0,sto ti57 j0 j0 j0<|⟨.any,[11],[(8,bA true)],j0,j0,by kernel_rfl,j5,dt0 ⟨(fun _=>pa j0 j0 j0 j0 (asg j0<|j4)),(fun h=>by cases h),(fun h=>by cases h),(fun h=>by cases h),(fun h=>by cases h),(fun h=>by cases h),(fun h=>by cases h),(fun h=>by cases h),(fun h=>by cases h),(fun h=>by cases h),(fun h=>by cases h),j5⟩ (by kernel_rfl) j0 ⟨[.old 0],ce j0 j0<|cv j0 (.mpt j0)<|ce j0 j0<|cn,j0,⟨⟨_,j0,rsOne ⟨ci j0,ci j0,ci j0,j5⟩⟩,j5⟩,j0,j1⟩⟩⟩),j5⟩) ?_
    refine sw_ret ?_
    obtain rfl:=sm h
    exact ⟨_,j0,_,j0,[],rsTup ⟨(ci j0),(ci j0),(ci j0),j5⟩,j0,j5,j0,j1⟩
   ·
    replace h:=bF hc15 h
    refine sw_skip ?_
    refine rl j0<|u<|mv j0<|u<|add ti3 j0 j0<|u<|asg j0<|r_nil ?_
    obtain rfl:=sm h
    exact ⟨_,j0,[.old 0,.old 1],ce j0 j0<|ce j0 j0<|cv j0 (.mpt j0)<|cv j0 (.msl j0)<|ce j0 j0<|cn,j0,⟨⟨_,j0,rsOne ⟨ci j0,ci j0,ci j0,j5⟩⟩,⟨_,j0,rsMap (fun _=>j0)⟩,j5⟩,j0,j1⟩
  ·
   replace h:=bF hc10 h
   refine sw_exit ?_
   obtain rfl:=sm h
   exact ⟨j0,_,j0,[.old 0],cv j0 (.mpt j0)<|cn,j0,⟨⟨_,j0,rsOne ⟨ci j0,ci j0,ci j0,j5⟩⟩,j5⟩,j0,j1⟩
 ·
  rintro ⟨⟩ rfl
  replace h : ref7_Hier_Field_k2 = some r:=h
  unfold ref7_Hier_Field_k2 at h
  refine ow_intro ?_
  refine rg j0<|u<|bd ti57 j0 j0 j0<|u<|asg j0<|u<|sto ti57 j0 j0 j0<|u<|asg j0<|r_nil ?_
  refine sw_ret ?_
  obtain rfl:=sm h
  exact ⟨_,j0,[],rsTup ⟨(ci j0),(ci j0),(ci j0),j5⟩,j0,j5,j0,j1⟩
 ·
  rintro r' rfl env st hp
  obtain rfl:=sm h
  exact hp
def link_Method_s2 (v1 : List UInt8) (v2 : List UInt8) : Option ((List UInt8) × ApiMethod × Bool) :=
  (hier_Hier_Supers v1).bind fun v3=>(link_find_s3 v3 v2).bind fun v4=>some (v4.1,v4.2.1,v4.2.2)
theorem link_Method_s2_ok (v1 : List UInt8) (v2 : List UInt8) {r : (List UInt8) × ApiMethod × Bool} (h : link_Method_s2 v1 v2 = some r) : PureC Tryz.prog 42 [.lit (.pointer none),sA v1,sA v2] (.tup [sA r.1,.agg [sA r.2.1.Name,.isl 1 (List.map rStr r.2.1.Params),sA r.2.1.Ret,bA r.2.1.Static,bA r.2.1.Abstract,iA r.2.1.Locals,iA r.2.1.Stack,.isl 4 (List.map rApiIns r.2.1.Code),.isl 3 (List.map rApiMap r.2.1.Maps),.isl 4 (List.map rApiTrap r.2.1.Traps)],bA r.2.2]):=by
 refine pure_fn Tryz.func42 j0 (by kernel_rfl) j0 j0 ?_
 unfold link_Method_s2 at h
 refine rg j0<|u<|asg j0<|u<|al 0 ti62 j0<|u<|asg j0<|r_nil ?_
 obtain ⟨v3,q1,h⟩:=bs h
 obtain ⟨v4,q2,h⟩:=bs h
 refine rg j0<|u<|mv j0<|u<|mv j0<|u<|mv j0<|u<|pc (hier_Hier_Supers_ok v1 q1) j0 j0 j0<|u<|mv j0<|u<|pc (link_find_s3_ok v3 v2 q2) j0 j0 j0<|u<|ex j0 j0<|u<|ex j0 j0<|u<|ex j0 j0<|u<|asg j0<|u<|sto ti62 j0 j0 j0<|u<|asg j0<|r_nil ?_
 refine sw_ret ?_
 obtain rfl:=sm h
 exact ⟨_,j0,[],rsTup ⟨(ci j0),(ci j0),(ci j0),j5⟩,j0,j5,j0,j1⟩
def ref7_Hier_Method_k2 : Option ((List UInt8) × ApiMethod × Bool) :=
  some ([],(ApiMethod.mk [] [] [] false false 0 0 [] [] []),false)
def ref7_Hier_Method_l1 (v1 : List ApiClass) (v3 : List UInt8) (v4 : (List (List UInt8))) (v12 : Int) : Option (Sum (Int) (Sum (Unit) ((List UInt8) × ApiMethod × Bool))) :=
  cond (decide (v12 < ((List.length v4) : Int))) ((idx v4 v12).bind fun v13=>(ref7_Hier_At v1 v13).bind fun v14=>(idx v1 v14).bind fun v15=>(ref3_Method v15 v3).bind fun v16=>cond ((decide (0 ≤ v16)) && (!(v3 == [36,105,110,105,116]))) ((idx v4 v12).bind fun v17=>(idx v15.Methods v16).bind fun v18=>some (.inr (.inr (v17,v18,true)))) (some (.inl (IntKind.i64.wrap (v12 + 1))))) (some (.inr (.inl ())))
def ref7_Hier_Method (v1 : List ApiClass) (v2 : List UInt8) (v3 : List UInt8) : Option ((List UInt8) × ApiMethod × Bool) :=
  (ref7_Hier_Supers_s2 v1 v2).bind fun v4=>(loopP (fun z=>ref7_Hier_Method_l1 v1 v3 v4 z) 0).bind fun o=>leave o (fun b=>ref7_Hier_Method_k2) some
theorem ref7_Hier_Method_ok (v1 : List ApiClass) (v2 : List UInt8) (v3 : List UInt8) {r : (List UInt8) × ApiMethod × Bool} (h : ref7_Hier_Method v1 v2 v3 = some r) : PureC Tryz.prog 79 [.ipt 1 [[.isl 6 (List.map rApiClass v1)]] 0 0,sA v2,sA v3] (.tup [sA r.1,.agg [sA r.2.1.Name,.isl 1 (List.map rStr r.2.1.Params),sA r.2.1.Ret,bA r.2.1.Static,bA r.2.1.Abstract,iA r.2.1.Locals,iA r.2.1.Stack,.isl 4 (List.map rApiIns r.2.1.Code),.isl 3 (List.map rApiMap r.2.1.Maps),.isl 4 (List.map rApiTrap r.2.1.Traps)],bA r.2.2]):=by
 refine pure_fn Tryz.func79 j0 (by kernel_rfl) j0 j0 ?_
 unfold ref7_Hier_Method at h
 refine rg j0<|u<|asg j0<|u<|al 0 ti62 j0<|u<|asg j0<|r_nil ?_
 obtain ⟨v4,q1,h⟩:=bs h
 refine rg j0<|u<|mv j0<|u<|mv j0<|u<|sc [] (ref7_Hier_Supers_s2_ok v1 v2 q1) j0 j0 j0 j0 ⟨(rnI j0),(rnI j0),j5⟩ j5<|r_can (env0:=[(0,.ipt 1 [[.isl 6 (List.map rApiClass v1)]] 0 0),(2,sA v3),(7,.mpt 0 0 0),(15,.msl 1 0 (List.length v4))]) (st0:=[some (10,[[sA [],.lit (.slice none 0 0),sA [],bA false,bA false,iA 0,iA 0,.lit (.slice none 0 0),.lit (.slice none 0 0),.lit (.slice none 0 0)]]),some (1,List.map rStr v4)]) ⟨[.old 0,.old 1],ce j0 j0<|ce j0 j0<|cv j0 (.mpt j0)<|cv j0 (.msl j0)<|cn,j0,⟨⟨_,j0,rsOne ⟨ci j0,ci j0,ci j0,ci j0,ci j0,ci j0,ci j0,ci j0,ci j0,ci j0,j5⟩⟩,⟨_,j0,rsMap (fun _=>j0)⟩,j5⟩,j0,j1⟩<|u<|asg j0<|r_nil ?_
 refine sw_seq ?_
 refine rg j0<|u<|asg j0<|r_nil ?_
 obtain ⟨o,ho,h⟩:=bs h
 refine sw_lpl (X:=Int) (B:=Unit) (R:=(List UInt8) × ApiMethod × Bool) (fun z=>[(0,.ipt 1 [[.isl 6 (List.map rApiClass v1)]] 0 0),(2,sA v3),(7,.mpt 0 0 0),(9,.msl 1 0 (List.length v4)),(10,iA z)]) (fun z=>[some (10,[[sA [],.lit (.slice none 0 0),sA [],bA false,bA false,iA 0,iA 0,.lit (.slice none 0 0),.lit (.slice none 0 0),.lit (.slice none 0 0)]]),some (1,List.map rStr v4)]) (fun b=>[(7,.mpt 0 0 0)]) (fun b=>[some (10,[[sA [],.lit (.slice none 0 0),sA [],bA false,bA false,iA 0,iA 0,.lit (.slice none 0 0),.lit (.slice none 0 0),.lit (.slice none 0 0)]])]) (fun r env st=>PostF Tryz.prog Tryz.f79 0 (.tup [sA r.1,.agg [sA r.2.1.Name,.isl 1 (List.map rStr r.2.1.Params),sA r.2.1.Ret,bA r.2.1.Static,bA r.2.1.Abstract,iA r.2.1.Locals,iA r.2.1.Stack,.isl 4 (List.map rApiIns r.2.1.Code),.isl 3 (List.map rApiMap r.2.1.Maps),.isl 4 (List.map rApiTrap r.2.1.Traps)],bA r.2.2]) [] env st) ho ⟨[.old 0,.old 1],ce j0 j0<|ce j0 j0<|cv j0 (.mpt j0)<|cv j0 (.msl j0)<|ce j0 j0<|cn,j0,⟨⟨_,j0,rsOne ⟨ci j0,ci j0,ci j0,ci j0,ci j0,ci j0,ci j0,ci j0,ci j0,ci j0,j5⟩⟩,⟨_,j0,rsMap (fun _=>j0)⟩,j5⟩,j0,j1⟩ ?_ ?_ ?_
 ·
  rintro v12 r h
  replace h : ref7_Hier_Method_l1 v1 v3 v4 v12 = some r:=h
  unfold ref7_Hier_Method_l1 at h
  refine sw_seq ?_
  refine rg j0<|u<|mv j0<|u<|mv j0<|u<|lnM ti32 j0 j0 j0<|u<|lss ti3 j0 j0<|r_nil ?_
  refine sw_cond j0 (fun hc11=>?_) (fun hc11=>?_)
  ·
   replace h:=bT hc11 h
   refine sw_skip ?_
   refine sw_seq ?_
   refine sw_block ?_
   obtain ⟨v13,q12,h⟩:=bs h
   obtain ⟨v14,q13,h⟩:=bs h
   obtain ⟨v15,q14,h⟩:=bs h
   refine rd [(0,.ipt 1 [[.isl 6 (List.map rApiClass v1)]] 0 0),(2,sA v3),(7,.mpt 0 0 0),(9,.msl 1 0 (List.length v4)),(10,iA v12),(11,.mpt 2 0 0)] [some (10,[[sA [],.lit (.slice none 0 0),sA [],bA false,bA false,iA 0,iA 0,.lit (.slice none 0 0),.lit (.slice none 0 0),.lit (.slice none 0 0)]]),some (1,List.map rStr v4),some (6,[[sA v15.Name,sA v15.Super,bA v15.Interface,.isl 1 (List.map rStr v15.Impl),.isl 3 (List.map rApiField v15.Fields),.isl 10 (List.map rApiMethod v15.Methods)]])] [12,13] [11,10,9,8,7,6,5,4,3,2,1,0] [(33,.agg [sA v15.Name,sA v15.Super,bA v15.Interface,.isl 1 (List.map rStr v15.Impl),.isl 3 (List.map rApiField v15.Fields),.isl 10 (List.map rApiMethod v15.Methods)]),(32,.ipt 6 (List.map rApiClass v1) (Int.toNat v14) 0),(31,iA v14),(30,sA v13),(29,.mpt 1 (Int.toNat v12) 0),(28,iA v12),(27,.msl 1 0 (List.length v4)),(26,.ipt 1 [[.isl 6 (List.map rApiClass v1)]] 0 0),(25,.isl 6 (List.map rApiClass v1)),(24,.ipt 1 [[.isl 6 (List.map rApiClass v1)]] 0 0),(23,.ipt 1 [[.isl 6 (List.map rApiClass v1)]] 0 0),(22,.ipt 1 [[.isl 6 (List.map rApiClass v1)]] 0 0)] 2 (by kernel_rfl) (by kernel_rfl) j0 (by kernel_rfl) (dtS ⟨(fun _=>pa j0 j0 j0 j0 (ldI ti42 j0 (idx_some q14).2.2 j0<|j4)),(fun _=>pa j0 j0 j0 j0 (ixI ti22 j0 ti42 j0 j0 j0 q14<|j4)),(fun _=>pa j0 j0 j0 j0 (pc (ref7_Hier_At_ok v1 v13 q13) j0 j0 j0<|j4)),(fun _=>pa j0 j0 j0 j0 (ldM ti9 j0 j0 (idx_some q12).2.2 j0<|j4)),(fun _=>pa j0 j0 j0 j0 (ixM ti32 j0 ti9 j0 j0 j0 j0 q12<|j4)),(fun _=>pa j0 j0 j0 j0 (mv j0<|j4)),(fun _=>pa j0 j0 j0 j0 (mv j0<|j4)),(fun _=>pa j0 j0 j0 j0 (mv j0<|j4)),(fun _=>pa j0 j0 j0 j0 (ld ti22 j0 j0<|j4)),(fun _=>pa j0 j0 j0 j0 (fa ti51 j0 j0 j0<|j4)),(fun _=>pa j0 j0 j0 j0 (nc j0 j0<|j4)),(fun _=>pa j0 j0 j0 j0 (mv j0<|j4)),j5⟩ (by kernel_rfl) j0 ⟨(fun _ _=>⟨_,j0,j0,al 2 ti42 j0<|⟨(.mpt 2 0 0),[],[(11,.mpt 2 0 0)],j0,j0,by kernel_rfl,j0,dtS ⟨(fun _=>pa j0 j0 j0 j0 (ldI ti42 j0 (idx_some q14).2.2 j0<|j4)),(fun _=>pa j0 j0 j0 j0 (ixI ti22 j0 ti42 j0 j0 j0 q14<|j4)),(fun _=>pa j0 j0 j0 j0 (pc (ref7_Hier_At_ok v1 v13 q13) j0 j0 j0<|j4)),(fun _=>pa j0 j0 j0 j0 (ldM ti9 j0 j0 (idx_some q12).2.2 j0<|j4)),(fun _=>pa j0 j0 j0 j0 (ixM ti32 j0 ti9 j0 j0 j0 j0 q12<|j4)),(fun _=>pa j0 j0 j0 j0 (mv j0<|j4)),(fun _=>pa j0 j0 j0 j0 (mv j0<|j4)),(fun _=>pa j0 j0 j0 j0 (mv j0<|j4)),(fun _=>pa j0 j0 j0 j0 (ld ti22 j0 j0<|j4)),(fun _=>pa j0 j0 j0 j0 (fa ti51 j0 j0 j0<|j4)),(fun _=>pa j0 j0 j0 j0 (nc j0 j0<|j4)),(fun _=>pa j0 j0 j0 j0 (mv j0<|j4)),j5⟩ (by kernel_rfl) j0 ⟨(fun h=>by cases h),(fun _ _=>⟨_,j0,j0,sto ti42 j0 j0 j0<|⟨.any,[],[],j0,j0,by kernel_rfl,j5,dt0 ⟨(fun h=>by cases h),(fun h=>by cases h),(fun h=>by cases h),(fun h=>by cases h),(fun h=>by cases h),(fun h=>by cases h),(fun h=>by cases h),(fun h=>by cases h),(fun h=>by cases h),(fun h=>by cases h),(fun h=>by cases h),(fun h=>by cases h),j5⟩ (by kernel_rfl) j0 ⟨[.old 0,.old 1,.old 2],ce j0 j0<|ce j0 j0<|cv j0 (.mpt j0)<|cv j0 (.msl j0)<|ce j0 j0<|cv j0 (.mpt j0)<|cn,j0,⟨⟨_,j0,rsOne ⟨ci j0,ci j0,ci j0,ci j0,ci j0,ci j0,ci j0,ci j0,ci j0,ci j0,j5⟩⟩,⟨_,j0,rsMap (fun _=>j0)⟩,⟨_,j0,rsOne ⟨ci j0,ci j0,ci j0,ci j0,ci j0,ci j0,j5⟩⟩,j5⟩,j0,j1⟩⟩⟩),j5⟩⟩⟩),(fun _ h=>by cases h),j5⟩) ?_
   obtain ⟨v16,q15,h⟩:=bs h
   refine rg j0<|u<|ld ti42 j0 j0<|u<|mv j0<|u<|pc (ref3_Method_ok v15 v3 q15) j0 j0 j0<|u<|asg j0<|r_nil ?_
   refine rg j0<|u<|mv j0<|u<|geq ti3 j0 j0<|u<|mv j0<|r_and (j:=2) 2 j0 j0 j0 j0 j0 gpn (fun hb16=>g j0 hb16<|mv j0<|g j0 hb16<|sne ti9 j0 j0<|r_nil (egA [40,41] 2 hb16 j0 j0 j0 j0)) andF<|r_nil ?_
   refine sw_cond j0 (fun hc17=>?_) (fun hc17=>?_)
   ·
    replace h:=bT hc17 h
    obtain ⟨v17,q18,h⟩:=bs h
    obtain ⟨v18,q19,h⟩:=bs h
    refine rd [(6,sA v17),(7,.mpt 0 0 0),(8,bA true)] [some (10,[[sA v18.Name,.isl 1 (List.map rStr v18.Params),sA v18.Ret,bA v18.Static,bA v18.Abstract,iA v18.Locals,iA v18.Stack,.isl 4 (List.map rApiIns v18.Code),.isl 3 (List.map rApiMap v18.Maps),.isl 4 (List.map rApiTrap v18.Traps)]])] [10] [9,8,7,6,5,4,3,2,1,0] [(6,sA v17),(51,.agg [sA v18.Name,.isl 1 (List.map rStr v18.Params),sA v18.Ret,bA v18.Static,bA v18.Abstract,iA v18.Locals,iA v18.Stack,.isl 4 (List.map rApiIns v18.Code),.isl 3 (List.map rApiMap v18.Maps),.isl 4 (List.map rApiTrap v18.Traps)]),(50,.ipt 10 (List.map rApiMethod v15.Methods) (Int.toNat v16) 0),(49,iA v16),(48,.isl 10 (List.map rApiMethod v15.Methods)),(47,.mpt 2 0 5),(46,sA v17),(45,.mpt 1 (Int.toNat v12) 0),(44,iA v12),(43,.msl 1 0 (List.length v4))] 1 (by kernel_rfl) (by kernel_rfl) j0 (by kernel_rfl) (dtS ⟨(fun _=>pa j0 j0 j0 j0 (asg j0<|j4)),(fun _=>pa j0 j0 j0 j0 (ldI ti62 j0 (idx_some q19).2.2 j0<|j4)),(fun _=>pa j0 j0 j0 j0 (ixI ti40 j0 ti62 j0 j0 j0 q19<|j4)),(fun _=>pa j0 j0 j0 j0 (mv j0<|j4)),(fun _=>pa j0 j0 j0 j0 (ld ti40 j0 j0<|j4)),(fun _=>pa j0 j0 j0 j0 (fa ti42 j0 j0 j0<|j4)),(fun _=>pa j0 j0 j0 j0 (ldM ti9 j0 j0 (idx_some q18).2.2 j0<|j4)),(fun _=>pa j0 j0 j0 j0 (ixM ti32 j0 ti9 j0 j0 j0 j0 q18<|j4)),(fun _=>pa j0 j0 j0 j0 (mv j0<|j4)),(fun _=>pa j0 j0 j0 j0 (mv j0<|j4)),j5⟩ (by kernel_rfl) j0 ⟨(fun _ _=>⟨_,j0,j0,sto ti62 j0 j0 j0<|⟨.any,[11],[(8,bA true)],j0,j0,by kernel_rfl,j5,dt0 ⟨(fun _=>pa j0 j0 j0 j0 (asg j0<|j4)),(fun h=>by cases h),(fun h=>by cases h),(fun h=>by cases h),(fun h=>by cases h),(fun h=>by cases h),(fun h=>by cases h),(fun h=>by cases h),(fun h=>by cases h),(fun h=>by cases h),(fun h=>by cases h),j5⟩ (by kernel_rfl) j0 ⟨[.old 0],ce j0 j0<|cv j0 (.mpt j0)<|ce j0 j0<|cn,j0,⟨⟨_,j0,rsOne ⟨ci j0,ci j0,ci j0,ci j0,ci j0,ci j0,ci j0,ci j0,ci j0,ci j0,j5⟩⟩,j5⟩,j0,j1⟩⟩⟩),j5⟩) ?_
    refine sw_ret ?_
    obtain rfl:=sm h
    exact ⟨_,j0,_,j0,[],rsTup ⟨(ci j0),(ci j0),(ci j0),j5⟩,j0,j5,j0,j1⟩
   ·
    replace h:=bF hc17 h
    refine sw_skip ?_
    refine rl j0<|u<|mv j0<|u<|add ti3 j0 j0<|u<|asg j0<|r_nil ?_
    obtain rfl:=sm h
    exact ⟨_,j0,[.old 0,.old 1],ce j0 j0<|ce j0 j0<|cv j0 (.mpt j0)<|cv j0 (.msl j0)<|ce j0 j0<|cn,j0,⟨⟨_,j0,rsOne ⟨ci j0,ci j0,ci j0,ci j0,ci j0,ci j0,ci j0,ci j0,ci j0,ci j0,j5⟩⟩,⟨_,j0,rsMap (fun _=>j0)⟩,j5⟩,j0,j1⟩
  ·
   replace h:=bF hc11 h
   refine sw_exit ?_
   obtain rfl:=sm h
   exact ⟨j0,_,j0,[.old 0],cv j0 (.mpt j0)<|cn,j0,⟨⟨_,j0,rsOne ⟨ci j0,ci j0,ci j0,ci j0,ci j0,ci j0,ci j0,ci j0,ci j0,ci j0,j5⟩⟩,j5⟩,j0,j1⟩
 ·
  rintro ⟨⟩ rfl
  replace h : ref7_Hier_Method_k2 = some r:=h
  unfold ref7_Hier_Method_k2 at h
  refine ow_intro ?_
  refine rg j0<|u<|bd ti62 j0 j0 j0<|u<|asg j0<|u<|sto ti62 j0 j0 j0<|u<|asg j0<|r_nil ?_
  refine sw_ret ?_
  obtain rfl:=sm h
  exact ⟨_,j0,[],rsTup ⟨(ci j0),(rsAgg ⟨(ci j0),(.nil),(ci j0),(ci j0),(ci j0),(ci j0),(ci j0),(.nil),(.nil),(.nil),j5⟩),(ci j0),j5⟩,j0,j5,j0,j1⟩
 ·
  rintro r' rfl env st hp
  obtain rfl:=sm h
  exact hp
def link_Face_s2 (v1 : List UInt8) (v2 : List UInt8) : Option ((List UInt8) × ApiMethod × Bool) :=
  (hier_Hier_Class_s2 v1).bind fun v3=>cond (!v3.1.Interface) (some ([],(ApiMethod.mk [] [] [] false false 0 0 [] [] []),false)) ((hier_Hier_Faces_s2 v1).bind fun v4=>(appP 16 [v1] v4).bind fun v5=>(link_find_s5 v5 v2).bind fun v6=>some (v6.1,v6.2.1,v6.2.2))
theorem link_Face_s2_ok (v1 : List UInt8) (v2 : List UInt8) {r : (List UInt8) × ApiMethod × Bool} (h : link_Face_s2 v1 v2 = some r) : PureC Tryz.prog 44 [.lit (.pointer none),sA v1,sA v2] (.tup [sA r.1,.agg [sA r.2.1.Name,.isl 1 (List.map rStr r.2.1.Params),sA r.2.1.Ret,bA r.2.1.Static,bA r.2.1.Abstract,iA r.2.1.Locals,iA r.2.1.Stack,.isl 4 (List.map rApiIns r.2.1.Code),.isl 3 (List.map rApiMap r.2.1.Maps),.isl 4 (List.map rApiTrap r.2.1.Traps)],bA r.2.2]):=by
 refine pure_fn Tryz.func44 j0 (by kernel_rfl) j0 j0 ?_
 unfold link_Face_s2 at h
 refine rg j0<|u<|asg j0<|u<|al 0 ti62 j0<|u<|asg j0<|r_nil ?_
 obtain ⟨v3,q1,h⟩:=bs h
 refine rg j0<|u<|mv j0<|u<|mv j0<|u<|pc (hier_Hier_Class_s2_ok v1 q1) j0 j0 j0<|u<|mv j0<|u<|ex j0 j0<|u<|ex j0 j0<|u<|al 1 ti42 j0<|u<|sto ti42 j0 j0 j0<|u<|asg j0<|r_nil ?_
 refine sw_seq ?_
 refine rg j0<|u<|fa ti42 j0 j0 j0<|u<|ld ti4 j0 j0<|u<|nt j0<|r_nil ?_
 refine sw_cond j0 (fun hc2=>?_) (fun hc2=>?_)
 ·
  replace h:=bT hc2 h
  refine rg j0<|u<|bd ti62 j0 j0 j0<|u<|asg j0<|u<|sto ti62 j0 j0 j0<|u<|asg j0<|r_nil ?_
  refine sw_ret ?_
  obtain rfl:=sm h
  exact ⟨_,j0,[],rsTup ⟨(ci j0),(rsAgg ⟨(ci j0),(.nil),(ci j0),(ci j0),(ci j0),(ci j0),(ci j0),(.nil),(.nil),(.nil),j5⟩),(ci j0),j5⟩,j0,j5,j0,j1⟩
 ·
  replace h:=bF hc2 h
  refine sw_skip ?_
  obtain ⟨v4,q3,h⟩:=bs h
  obtain ⟨v5,q4,h⟩:=bs h
  obtain ⟨v6,q5,h⟩:=bs h
  refine rg j0<|u<|mv j0<|u<|mv j0<|u<|bl 2 ti32 j0 ti9 j0 (by decide) (by decide) j0 j0 j0<|u<|mv j0<|u<|mv j0<|u<|pc (hier_Hier_Faces_s2_ok v1 q3) j0 j0 j0<|u<|apM (l:=[v1]) (f:=rStr) 3 ti32 j0 ti9 j0 j0 (by decide) ti32 j0 j0 j0 j0 roI (fun _=>j0) j0 q4<|u<|mv j0<|r_can (env0:=[(7,.mpt 0 0 0),(21,.lit (.pointer none)),(27,.isl 1 (List.map rStr v5)),(28,sA v2)]) (st0:=[some (10,[[sA [],.lit (.slice none 0 0),sA [],bA false,bA false,iA 0,iA 0,.lit (.slice none 0 0),.lit (.slice none 0 0),.lit (.slice none 0 0)]])]) ⟨[.old 0],cv j0 (.mpt j0)<|ce j0 j0<|cv j0 (rsSeal j0 j0 (fun _=>j0))<|ce j0 j0<|cn,j0,⟨⟨_,j0,rsOne ⟨ci j0,ci j0,ci j0,ci j0,ci j0,ci j0,ci j0,ci j0,ci j0,ci j0,j5⟩⟩,j5⟩,j0,j1⟩<|u<|pc (link_find_s5_ok v5 v2 q5) j0 j0 j0<|u<|ex j0 j0<|u<|ex j0 j0<|u<|ex j0 j0<|u<|asg j0<|u<|sto ti62 j0 j0 j0<|u<|asg j0<|r_nil ?_
  refine sw_ret ?_
  obtain rfl:=sm h
  exact ⟨_,j0,[],rsTup ⟨(ci j0),(ci j0),(ci j0),j5⟩,j0,j5,j0,j1⟩
def ref7_Hier_Face_k2 : Option ((List UInt8) × ApiMethod × Bool) :=
  some ([],(ApiMethod.mk [] [] [] false false 0 0 [] [] []),false)
def ref7_Hier_Face_l1 (v1 : List ApiClass) (v3 : List UInt8) (v8 : List (List UInt8)) (v16 : Int) : Option (Sum (Int) (Sum (Unit) ((List UInt8) × ApiMethod × Bool))) :=
  cond (decide (v16 < ((List.length v8) : Int))) ((idx v8 v16).bind fun v17=>(ref7_Hier_At v1 v17).bind fun v18=>(idx v1 v18).bind fun v19=>(ref3_Method v19 v3).bind fun v20=>cond (decide (0 ≤ v20)) ((idx v8 v16).bind fun v21=>(idx v19.Methods v20).bind fun v22=>some (.inr (.inr (v21,v22,true)))) (some (.inl (IntKind.i64.wrap (v16 + 1))))) (some (.inr (.inl ())))
def ref7_Hier_Face (v1 : List ApiClass) (v2 : List UInt8) (v3 : List UInt8) : Option ((List UInt8) × ApiMethod × Bool) :=
  (ref7_Hier_At v1 v2).bind fun v4=>(cond (decide (v4 < 0)) (some true) ((idx v1 v4).bind fun v5=>some (!v5.Interface))).bind fun v6=>cond v6 (some ([],(ApiMethod.mk [] [] [] false false 0 0 [] [] []),false)) ((ref7_Hier_Faces v1 v2).bind fun v7=>(appP 16 [v2] v7).bind fun v8=>(loopP (fun z=>ref7_Hier_Face_l1 v1 v3 v8 z) 0).bind fun o=>leave o (fun b=>ref7_Hier_Face_k2) some)
theorem ref7_Hier_Face_ok (v1 : List ApiClass) (v2 : List UInt8) (v3 : List UInt8) {r : (List UInt8) × ApiMethod × Bool} (h : ref7_Hier_Face v1 v2 v3 = some r) : PureC Tryz.prog 80 [.ipt 1 [[.isl 6 (List.map rApiClass v1)]] 0 0,sA v2,sA v3] (.tup [sA r.1,.agg [sA r.2.1.Name,.isl 1 (List.map rStr r.2.1.Params),sA r.2.1.Ret,bA r.2.1.Static,bA r.2.1.Abstract,iA r.2.1.Locals,iA r.2.1.Stack,.isl 4 (List.map rApiIns r.2.1.Code),.isl 3 (List.map rApiMap r.2.1.Maps),.isl 4 (List.map rApiTrap r.2.1.Traps)],bA r.2.2]):=by
 refine pure_fn Tryz.func80 j0 (by kernel_rfl) j0 j0 ?_
 unfold ref7_Hier_Face at h
 refine rg j0<|u<|asg j0<|u<|al 0 ti62 j0<|u<|asg j0<|r_nil ?_
 obtain ⟨v4,q1,h⟩:=bs h
 refine rg j0<|u<|mv j0<|u<|mv j0<|u<|pc (ref7_Hier_At_ok v1 v2 q1) j0 j0 j0<|u<|asg j0<|r_nil ?_
 refine sw_seq ?_
 obtain ⟨v6,q4,h⟩:=bs h
 refine rg j0<|u<|mv j0<|u<|lss ti3 j0 j0<|u<|mv j0<|r_or (x:=v6) (j:=2) 9 j0 j0 j0 j0 j0 gpn (fun hb2=>by replace q4:=bF hb2 q4; obtain ⟨v5,q3,q4⟩:=bs q4; obtain rfl:=sm q4; exact g j0 hb2<|mv j0<|g j0 hb2<|nc j0 j0<|g j0 hb2<|fa ti51 j0 j0 j0<|g j0 hb2<|ld ti22 j0 j0<|g j0 hb2<|mv j0<|g j0 hb2<|ixI ti22 j0 ti42 j0 j0 j0 q3<|g j0 hb2<|fa ti42 j0 j0 j0<|g j0 hb2<|ldI ti4 j0 (idx_some q3).2.2 j0<|g j0 hb2<|nt j0<|r_nil (eg [20,21,22,23,24,25,26,27,28] 9 j0 j0 j0 j0)) (fun hb=>(sm (bT hb q4)).symm)<|r_nil ?_
 refine sw_cond j0 (fun hc5=>?_) (fun hc5=>?_)
 ·
  replace h:=bT hc5 h
  refine rg j0<|u<|bd ti62 j0 j0 j0<|u<|asg j0<|u<|sto ti62 j0 j0 j0<|u<|asg j0<|r_nil ?_
  refine sw_ret ?_
  obtain rfl:=sm h
  exact ⟨_,j0,[],rsTup ⟨(ci j0),(rsAgg ⟨(ci j0),(.nil),(ci j0),(ci j0),(ci j0),(ci j0),(ci j0),(.nil),(.nil),(.nil),j5⟩),(ci j0),j5⟩,j0,j5,j0,j1⟩
 ·
  replace h:=bF hc5 h
  refine sw_skip ?_
  obtain ⟨v7,q6,h⟩:=bs h
  obtain ⟨v8,q7,h⟩:=bs h
  refine rg j0<|u<|mv j0<|u<|bl 1 ti32 j0 ti9 j0 (by decide) (by decide) j0 j0 j0<|u<|mv j0<|u<|mv j0<|u<|sc [] (ref7_Hier_Faces_ok v1 v2 q6) j0 j0 j0 j0 ⟨(rnI j0),(rnI j0),j5⟩ j5<|u<|apM (l:=[v2]) (f:=rStr) 3 ti32 j0 ti9 j0 j0 (by decide) ti32 j0 j0 j0 j0 (roM j0) (fun _=>j0) j0 q7<|u<|asg j0<|r_nil ?_
  refine sw_seq ?_
  refine rg j0<|u<|asg j0<|r_nil ?_
  obtain ⟨o,ho,h⟩:=bs h
  refine sw_lpl (X:=Int) (B:=Unit) (R:=(List UInt8) × ApiMethod × Bool) (fun z=>[(0,.ipt 1 [[.isl 6 (List.map rApiClass v1)]] 0 0),(2,sA v3),(7,.mpt 0 0 0),(10,.msl 1 0 (List.length v8)),(11,iA z)]) (fun z=>[some (10,[[sA [],.lit (.slice none 0 0),sA [],bA false,bA false,iA 0,iA 0,.lit (.slice none 0 0),.lit (.slice none 0 0),.lit (.slice none 0 0)]]),some (1,List.map rStr v8)]) (fun b=>[(7,.mpt 0 0 0)]) (fun b=>[some (10,[[sA [],.lit (.slice none 0 0),sA [],bA false,bA false,iA 0,iA 0,.lit (.slice none 0 0),.lit (.slice none 0 0),.lit (.slice none 0 0)]])]) (fun r env st=>PostF Tryz.prog Tryz.f80 0 (.tup [sA r.1,.agg [sA r.2.1.Name,.isl 1 (List.map rStr r.2.1.Params),sA r.2.1.Ret,bA r.2.1.Static,bA r.2.1.Abstract,iA r.2.1.Locals,iA r.2.1.Stack,.isl 4 (List.map rApiIns r.2.1.Code),.isl 3 (List.map rApiMap r.2.1.Maps),.isl 4 (List.map rApiTrap r.2.1.Traps)],bA r.2.2]) [] env st) ho ⟨[.old 0,.old 3],ce j0 j0<|ce j0 j0<|cv j0 (.mpt j0)<|cv j0 (.msl j0)<|ce j0 j0<|cn,j0,⟨⟨_,j0,rsOne ⟨ci j0,ci j0,ci j0,ci j0,ci j0,ci j0,ci j0,ci j0,ci j0,ci j0,j5⟩⟩,⟨_,j0,rsMap (fun _=>j0)⟩,j5⟩,j0,j1⟩ ?_ ?_ ?_
  ·
   rintro v16 r h
   replace h : ref7_Hier_Face_l1 v1 v3 v8 v16 = some r:=h
   unfold ref7_Hier_Face_l1 at h
   refine sw_seq ?_
   refine rg j0<|u<|mv j0<|u<|mv j0<|u<|lnM ti32 j0 j0 j0<|u<|lss ti3 j0 j0<|r_nil ?_
   refine sw_cond j0 (fun hc16=>?_) (fun hc16=>?_)
   ·
    replace h:=bT hc16 h
    refine sw_skip ?_
    refine sw_seq ?_
    refine sw_block ?_
    obtain ⟨v17,q17,h⟩:=bs h
    obtain ⟨v18,q18,h⟩:=bs h
    obtain ⟨v19,q19,h⟩:=bs h
    refine rd [(0,.ipt 1 [[.isl 6 (List.map rApiClass v1)]] 0 0),(2,sA v3),(7,.mpt 0 0 0),(10,.msl 1 0 (List.length v8)),(11,iA v16),(12,.mpt 2 0 0)] [some (10,[[sA [],.lit (.slice none 0 0),sA [],bA false,bA false,iA 0,iA 0,.lit (.slice none 0 0),.lit (.slice none 0 0),.lit (.slice none 0 0)]]),some (1,List.map rStr v8),some (6,[[sA v19.Name,sA v19.Super,bA v19.Interface,.isl 1 (List.map rStr v19.Impl),.isl 3 (List.map rApiField v19.Fields),.isl 10 (List.map rApiMethod v19.Methods)]])] [12,13] [11,10,9,8,7,6,5,4,3,2,1,0] [(54,.agg [sA v19.Name,sA v19.Super,bA v19.Interface,.isl 1 (List.map rStr v19.Impl),.isl 3 (List.map rApiField v19.Fields),.isl 10 (List.map rApiMethod v19.Methods)]),(53,.ipt 6 (List.map rApiClass v1) (Int.toNat v18) 0),(52,iA v18),(51,sA v17),(50,.mpt 1 (Int.toNat v16) 0),(49,iA v16),(48,.msl 1 0 (List.length v8)),(47,.ipt 1 [[.isl 6 (List.map rApiClass v1)]] 0 0),(46,.isl 6 (List.map rApiClass v1)),(45,.ipt 1 [[.isl 6 (List.map rApiClass v1)]] 0 0),(44,.ipt 1 [[.isl 6 (List.map rApiClass v1)]] 0 0),(43,.ipt 1 [[.isl 6 (List.map rApiClass v1)]] 0 0)] 2 (by kernel_rfl) (by kernel_rfl) j0 (by kernel_rfl) (dtS ⟨(fun _=>pa j0 j0 j0 j0 (ldI ti42 j0 (idx_some q19).2.2 j0<|j4)),(fun _=>pa j0 j0 j0 j0 (ixI ti22 j0 ti42 j0 j0 j0 q19<|j4)),(fun _=>pa j0 j0 j0 j0 (pc (ref7_Hier_At_ok v1 v17 q18) j0 j0 j0<|j4)),(fun _=>pa j0 j0 j0 j0 (ldM ti9 j0 j0 (idx_some q17).2.2 j0<|j4)),(fun _=>pa j0 j0 j0 j0 (ixM ti32 j0 ti9 j0 j0 j0 j0 q17<|j4)),(fun _=>pa j0 j0 j0 j0 (mv j0<|j4)),(fun _=>pa j0 j0 j0 j0 (mv j0<|j4)),(fun _=>pa j0 j0 j0 j0 (mv j0<|j4)),(fun _=>pa j0 j0 j0 j0 (ld ti22 j0 j0<|j4)),(fun _=>pa j0 j0 j0 j0 (fa ti51 j0 j0 j0<|j4)),(fun _=>pa j0 j0 j0 j0 (nc j0 j0<|j4)),(fun _=>pa j0 j0 j0 j0 (mv j0<|j4)),j5⟩ (by kernel_rfl) j0 ⟨(fun _ _=>⟨_,j0,j0,al 2 ti42 j0<|⟨(.mpt 2 0 0),[],[(12,.mpt 2 0 0)],j0,j0,by kernel_rfl,j0,dtS ⟨(fun _=>pa j0 j0 j0 j0 (ldI ti42 j0 (idx_some q19).2.2 j0<|j4)),(fun _=>pa j0 j0 j0 j0 (ixI ti22 j0 ti42 j0 j0 j0 q19<|j4)),(fun _=>pa j0 j0 j0 j0 (pc (ref7_Hier_At_ok v1 v17 q18) j0 j0 j0<|j4)),(fun _=>pa j0 j0 j0 j0 (ldM ti9 j0 j0 (idx_some q17).2.2 j0<|j4)),(fun _=>pa j0 j0 j0 j0 (ixM ti32 j0 ti9 j0 j0 j0 j0 q17<|j4)),(fun _=>pa j0 j0 j0 j0 (mv j0<|j4)),(fun _=>pa j0 j0 j0 j0 (mv j0<|j4)),(fun _=>pa j0 j0 j0 j0 (mv j0<|j4)),(fun _=>pa j0 j0 j0 j0 (ld ti22 j0 j0<|j4)),(fun _=>pa j0 j0 j0 j0 (fa ti51 j0 j0 j0<|j4)),(fun _=>pa j0 j0 j0 j0 (nc j0 j0<|j4)),(fun _=>pa j0 j0 j0 j0 (mv j0<|j4)),j5⟩ (by kernel_rfl) j0 ⟨(fun h=>by cases h),(fun _ _=>⟨_,j0,j0,sto ti42 j0 j0 j0<|⟨.any,[],[],j0,j0,by kernel_rfl,j5,dt0 ⟨(fun h=>by cases h),(fun h=>by cases h),(fun h=>by cases h),(fun h=>by cases h),(fun h=>by cases h),(fun h=>by cases h),(fun h=>by cases h),(fun h=>by cases h),(fun h=>by cases h),(fun h=>by cases h),(fun h=>by cases h),(fun h=>by cases h),j5⟩ (by kernel_rfl) j0 ⟨[.old 0,.old 1,.old 2],ce j0 j0<|ce j0 j0<|cv j0 (.mpt j0)<|cv j0 (.msl j0)<|ce j0 j0<|cv j0 (.mpt j0)<|cn,j0,⟨⟨_,j0,rsOne ⟨ci j0,ci j0,ci j0,ci j0,ci j0,ci j0,ci j0,ci j0,ci j0,ci j0,j5⟩⟩,⟨_,j0,rsMap (fun _=>j0)⟩,⟨_,j0,rsOne ⟨ci j0,ci j0,ci j0,ci j0,ci j0,ci j0,j5⟩⟩,j5⟩,j0,j1⟩⟩⟩),j5⟩⟩⟩),(fun _ h=>by cases h),j5⟩) ?_
    obtain ⟨v20,q20,h⟩:=bs h
    refine rg j0<|u<|ld ti42 j0 j0<|u<|mv j0<|u<|pc (ref3_Method_ok v19 v3 q20) j0 j0 j0<|u<|asg j0<|r_nil ?_
    refine rg j0<|u<|mv j0<|u<|geq ti3 j0 j0<|r_nil ?_
    refine sw_cond j0 (fun hc21=>?_) (fun hc21=>?_)
    ·
     replace h:=bT hc21 h
     obtain ⟨v21,q22,h⟩:=bs h
     obtain ⟨v22,q23,h⟩:=bs h
     refine rd [(6,sA v21),(7,.mpt 0 0 0),(8,bA true)] [some (10,[[sA v22.Name,.isl 1 (List.map rStr v22.Params),sA v22.Ret,bA v22.Static,bA v22.Abstract,iA v22.Locals,iA v22.Stack,.isl 4 (List.map rApiIns v22.Code),.isl 3 (List.map rApiMap v22.Maps),.isl 4 (List.map rApiTrap v22.Traps)]])] [10] [9,8,7,6,5,4,3,2,1,0] [(6,sA v21),(68,.agg [sA v22.Name,.isl 1 (List.map rStr v22.Params),sA v22.Ret,bA v22.Static,bA v22.Abstract,iA v22.Locals,iA v22.Stack,.isl 4 (List.map rApiIns v22.Code),.isl 3 (List.map rApiMap v22.Maps),.isl 4 (List.map rApiTrap v22.Traps)]),(67,.ipt 10 (List.map rApiMethod v19.Methods) (Int.toNat v20) 0),(66,iA v20),(65,.isl 10 (List.map rApiMethod v19.Methods)),(64,.mpt 2 0 5),(63,sA v21),(62,.mpt 1 (Int.toNat v16) 0),(61,iA v16),(60,.msl 1 0 (List.length v8))] 1 (by kernel_rfl) (by kernel_rfl) j0 (by kernel_rfl) (dtS ⟨(fun _=>pa j0 j0 j0 j0 (asg j0<|j4)),(fun _=>pa j0 j0 j0 j0 (ldI ti62 j0 (idx_some q23).2.2 j0<|j4)),(fun _=>pa j0 j0 j0 j0 (ixI ti40 j0 ti62 j0 j0 j0 q23<|j4)),(fun _=>pa j0 j0 j0 j0 (mv j0<|j4)),(fun _=>pa j0 j0 j0 j0 (ld ti40 j0 j0<|j4)),(fun _=>pa j0 j0 j0 j0 (fa ti42 j0 j0 j0<|j4)),(fun _=>pa j0 j0 j0 j0 (ldM ti9 j0 j0 (idx_some q22).2.2 j0<|j4)),(fun _=>pa j0 j0 j0 j0 (ixM ti32 j0 ti9 j0 j0 j0 j0 q22<|j4)),(fun _=>pa j0 j0 j0 j0 (mv j0<|j4)),(fun _=>pa j0 j0 j0 j0 (mv j0<|j4)),j5⟩ (by kernel_rfl) j0 ⟨(fun _ _=>⟨_,j0,j0,sto ti62 j0 j0 j0<|⟨.any,[11],[(8,bA true)],j0,j0,by kernel_rfl,j5,dt0 ⟨(fun _=>pa j0 j0 j0 j0 (asg j0<|j4)),(fun h=>by cases h),(fun h=>by cases h),(fun h=>by cases h),(fun h=>by cases h),(fun h=>by cases h),(fun h=>by cases h),(fun h=>by cases h),(fun h=>by cases h),(fun h=>by cases h),(fun h=>by cases h),j5⟩ (by kernel_rfl) j0 ⟨[.old 0],ce j0 j0<|cv j0 (.mpt j0)<|ce j0 j0<|cn,j0,⟨⟨_,j0,rsOne ⟨ci j0,ci j0,ci j0,ci j0,ci j0,ci j0,ci j0,ci j0,ci j0,ci j0,j5⟩⟩,j5⟩,j0,j1⟩⟩⟩),j5⟩) ?_
     refine sw_ret ?_
     obtain rfl:=sm h
     exact ⟨_,j0,_,j0,[],rsTup ⟨(ci j0),(ci j0),(ci j0),j5⟩,j0,j5,j0,j1⟩
    ·
     replace h:=bF hc21 h
     refine sw_skip ?_
     refine rl j0<|u<|mv j0<|u<|add ti3 j0 j0<|u<|asg j0<|r_nil ?_
     obtain rfl:=sm h
     exact ⟨_,j0,[.old 0,.old 1],ce j0 j0<|ce j0 j0<|cv j0 (.mpt j0)<|cv j0 (.msl j0)<|ce j0 j0<|cn,j0,⟨⟨_,j0,rsOne ⟨ci j0,ci j0,ci j0,ci j0,ci j0,ci j0,ci j0,ci j0,ci j0,ci j0,j5⟩⟩,⟨_,j0,rsMap (fun _=>j0)⟩,j5⟩,j0,j1⟩
   ·
    replace h:=bF hc16 h
    refine sw_exit ?_
    obtain rfl:=sm h
    exact ⟨j0,_,j0,[.old 0],cv j0 (.mpt j0)<|cn,j0,⟨⟨_,j0,rsOne ⟨ci j0,ci j0,ci j0,ci j0,ci j0,ci j0,ci j0,ci j0,ci j0,ci j0,j5⟩⟩,j5⟩,j0,j1⟩
  ·
   rintro ⟨⟩ rfl
   replace h : ref7_Hier_Face_k2 = some r:=h
   unfold ref7_Hier_Face_k2 at h
   refine ow_intro ?_
   refine rg j0<|u<|bd ti62 j0 j0 j0<|u<|asg j0<|u<|sto ti62 j0 j0 j0<|u<|asg j0<|r_nil ?_
   refine sw_ret ?_
   obtain rfl:=sm h
   exact ⟨_,j0,[],rsTup ⟨(ci j0),(rsAgg ⟨(ci j0),(.nil),(ci j0),(ci j0),(ci j0),(ci j0),(ci j0),(.nil),(.nil),(.nil),j5⟩),(ci j0),j5⟩,j0,j5,j0,j1⟩
  ·
   rintro r' rfl env st hp
   obtain rfl:=sm h
   exact hp
def link_Chosen_s2 (v1 : List UInt8) (v2 : List UInt8) : Option ((List UInt8) × Bool) :=
  (hier_Hier_Supers v1).bind fun v3=>(link_find v3 v2).bind fun v4=>some (v4.1,v4.2.2)
theorem link_Chosen_s2_ok (v1 : List UInt8) (v2 : List UInt8) {r : (List UInt8) × Bool} (h : link_Chosen_s2 v1 v2 = some r) : PureC Tryz.prog 41 [.lit (.pointer none),sA v1,sA v2] (.tup [sA r.1,bA r.2]):=by
 refine pure_fn Tryz.func41 j0 (by kernel_rfl) j0 j0 ?_
 unfold link_Chosen_s2 at h
 refine rg j0<|u<|asg j0<|u<|asg j0<|r_nil ?_
 obtain ⟨v3,q1,h⟩:=bs h
 obtain ⟨v4,q2,h⟩:=bs h
 refine rg j0<|u<|mv j0<|u<|mv j0<|u<|mv j0<|u<|pc (hier_Hier_Supers_ok v1 q1) j0 j0 j0<|u<|mv j0<|u<|pc (link_find_ok v3 v2 q2) j0 j0 j0<|u<|mv j0<|u<|ex j0 j0<|u<|ex j0 j0<|u<|ex j0 j0<|u<|al 0 ti62 j0<|u<|asg j0<|u<|sto ti62 j0 j0 j0<|u<|asg j0<|r_nil ?_
 refine rg j0<|u<|mv j0<|u<|mv j0<|u<|asg j0<|u<|asg j0<|r_nil ?_
 refine sw_ret ?_
 obtain rfl:=sm h
 exact ⟨_,j0,[],rsTup ⟨(ci j0),(ci j0),j5⟩,j0,j5,j0,j1⟩
def ref7_Hier_Chosen_k2 : Option ((List UInt8) × Bool) :=
  some ([],false)
def ref7_Hier_Chosen_l1 (v1 : List ApiClass) (v3 : List UInt8) (v7 : (List (List UInt8))) (v16 : Int) : Option (Sum (Int) (Sum (Unit) ((List UInt8) × Bool))) :=
  cond (decide (v16 < ((List.length v7) : Int))) ((idx v7 v16).bind fun v17=>(ref7_Hier_At v1 v17).bind fun v18=>(idx v1 v18).bind fun v19=>(ref3_Method v19 v3).bind fun v20=>(cond (decide (0 ≤ v20)) ((idx v19.Methods v20).bind fun v21=>some (!v21.Static)) (some false)).bind fun v22=>cond v22 ((idx v7 v16).bind fun v23=>some (.inr (.inr (v23,true)))) (some (.inl (IntKind.i64.wrap (v16 + 1))))) (some (.inr (.inl ())))
def ref7_Hier_Chosen (v1 : List ApiClass) (v2 : List UInt8) (v3 : List UInt8) : Option ((List UInt8) × Bool) :=
  (ref7_Hier_At v1 v2).bind fun v4=>(cond (decide (v4 < 0)) (some true) ((idx v1 v4).bind fun v5=>some v5.Interface)).bind fun v6=>cond v6 (some ([],false)) ((ref7_Hier_Supers_s2 v1 v2).bind fun v7=>(loopP (fun z=>ref7_Hier_Chosen_l1 v1 v3 v7 z) 0).bind fun o=>leave o (fun b=>ref7_Hier_Chosen_k2) some)
theorem ref7_Hier_Chosen_ok (v1 : List ApiClass) (v2 : List UInt8) (v3 : List UInt8) {r : (List UInt8) × Bool} (h : ref7_Hier_Chosen v1 v2 v3 = some r) : PureC Tryz.prog 81 [.ipt 1 [[.isl 6 (List.map rApiClass v1)]] 0 0,sA v2,sA v3] (.tup [sA r.1,bA r.2]):=by
 refine pure_fn Tryz.func81 j0 (by kernel_rfl) j0 j0 ?_
 unfold ref7_Hier_Chosen at h
 refine rg j0<|u<|asg j0<|u<|asg j0<|r_nil ?_
 obtain ⟨v4,q1,h⟩:=bs h
 refine rg j0<|u<|mv j0<|u<|mv j0<|u<|pc (ref7_Hier_At_ok v1 v2 q1) j0 j0 j0<|u<|asg j0<|r_nil ?_
 refine sw_seq ?_
 obtain ⟨v6,q4,h⟩:=bs h
 refine rg j0<|u<|mv j0<|u<|lss ti3 j0 j0<|u<|mv j0<|r_or (x:=v6) (j:=2) 8 j0 j0 j0 j0 j0 gpn (fun hb2=>by replace q4:=bF hb2 q4; obtain ⟨v5,q3,q4⟩:=bs q4; obtain rfl:=sm q4; exact g j0 hb2<|mv j0<|g j0 hb2<|nc j0 j0<|g j0 hb2<|fa ti51 j0 j0 j0<|g j0 hb2<|ld ti22 j0 j0<|g j0 hb2<|mv j0<|g j0 hb2<|ixI ti22 j0 ti42 j0 j0 j0 q3<|g j0 hb2<|fa ti42 j0 j0 j0<|g j0 hb2<|ldI ti4 j0 (idx_some q3).2.2 j0<|r_nil (eg [19,20,21,22,23,24,25,26] 8 j0 j0 j0 j0)) (fun hb=>(sm (bT hb q4)).symm)<|r_nil ?_
 refine sw_cond j0 (fun hc5=>?_) (fun hc5=>?_)
 ·
  replace h:=bT hc5 h
  refine rg j0<|u<|asg j0<|u<|asg j0<|r_nil ?_
  refine sw_ret ?_
  obtain rfl:=sm h
  exact ⟨_,j0,[],rsTup ⟨(ci j0),(ci j0),j5⟩,j0,j5,j0,j1⟩
 ·
  replace h:=bF hc5 h
  refine sw_skip ?_
  obtain ⟨v7,q6,h⟩:=bs h
  refine rg j0<|u<|mv j0<|u<|mv j0<|u<|sc [] (ref7_Hier_Supers_s2_ok v1 v2 q6) j0 j0 j0 j0 ⟨(rnI j0),(rnI j0),j5⟩ j5<|r_can (env0:=[(0,.ipt 1 [[.isl 6 (List.map rApiClass v1)]] 0 0),(2,sA v3),(30,.msl 0 0 (List.length v7))]) (st0:=[some (1,List.map rStr v7)]) ⟨[.old 0],ce j0 j0<|ce j0 j0<|cv j0 (.msl j0)<|cn,j0,⟨⟨_,j0,rsMap (fun _=>j0)⟩,j5⟩,j0,j1⟩<|u<|asg j0<|r_nil ?_
  refine sw_seq ?_
  refine rg j0<|u<|asg j0<|r_nil ?_
  obtain ⟨o,ho,h⟩:=bs h
  refine sw_lpl (X:=Int) (B:=Unit) (R:=(List UInt8) × Bool) (fun z=>[(0,.ipt 1 [[.isl 6 (List.map rApiClass v1)]] 0 0),(2,sA v3),(9,.msl 0 0 (List.length v7)),(10,iA z)]) (fun z=>[some (1,List.map rStr v7)]) (fun b=>[]) (fun b=>[]) (fun r env st=>PostF Tryz.prog Tryz.f81 0 (.tup [sA r.1,bA r.2]) [] env st) ho ⟨[.old 0],ce j0 j0<|ce j0 j0<|cv j0 (.msl j0)<|ce j0 j0<|cn,j0,⟨⟨_,j0,rsMap (fun _=>j0)⟩,j5⟩,j0,j1⟩ ?_ ?_ ?_
  ·
   rintro v16 r h
   replace h : ref7_Hier_Chosen_l1 v1 v3 v7 v16 = some r:=h
   unfold ref7_Hier_Chosen_l1 at h
   refine sw_seq ?_
   refine rg j0<|u<|mv j0<|u<|mv j0<|u<|lnM ti32 j0 j0 j0<|u<|lss ti3 j0 j0<|r_nil ?_
   refine sw_cond j0 (fun hc17=>?_) (fun hc17=>?_)
   ·
    replace h:=bT hc17 h
    refine sw_skip ?_
    refine sw_seq ?_
    refine sw_block ?_
    obtain ⟨v17,q18,h⟩:=bs h
    obtain ⟨v18,q19,h⟩:=bs h
    obtain ⟨v19,q20,h⟩:=bs h
    refine rd [(0,.ipt 1 [[.isl 6 (List.map rApiClass v1)]] 0 0),(2,sA v3),(9,.msl 0 0 (List.length v7)),(10,iA v16),(11,.mpt 1 0 0)] [some (1,List.map rStr v7),some (6,[[sA v19.Name,sA v19.Super,bA v19.Interface,.isl 1 (List.map rStr v19.Impl),.isl 3 (List.map rApiField v19.Fields),.isl 10 (List.map rApiMethod v19.Methods)]])] [12,13] [11,10,9,8,7,6,5,4,3,2,1,0] [(48,.agg [sA v19.Name,sA v19.Super,bA v19.Interface,.isl 1 (List.map rStr v19.Impl),.isl 3 (List.map rApiField v19.Fields),.isl 10 (List.map rApiMethod v19.Methods)]),(47,.ipt 6 (List.map rApiClass v1) (Int.toNat v18) 0),(46,iA v18),(45,sA v17),(44,.mpt 0 (Int.toNat v16) 0),(43,iA v16),(42,.msl 0 0 (List.length v7)),(41,.ipt 1 [[.isl 6 (List.map rApiClass v1)]] 0 0),(40,.isl 6 (List.map rApiClass v1)),(39,.ipt 1 [[.isl 6 (List.map rApiClass v1)]] 0 0),(38,.ipt 1 [[.isl 6 (List.map rApiClass v1)]] 0 0),(37,.ipt 1 [[.isl 6 (List.map rApiClass v1)]] 0 0)] 2 (by kernel_rfl) (by kernel_rfl) j0 (by kernel_rfl) (dtS ⟨(fun _=>pa j0 j0 j0 j0 (ldI ti42 j0 (idx_some q20).2.2 j0<|j4)),(fun _=>pa j0 j0 j0 j0 (ixI ti22 j0 ti42 j0 j0 j0 q20<|j4)),(fun _=>pa j0 j0 j0 j0 (pc (ref7_Hier_At_ok v1 v17 q19) j0 j0 j0<|j4)),(fun _=>pa j0 j0 j0 j0 (ldM ti9 j0 j0 (idx_some q18).2.2 j0<|j4)),(fun _=>pa j0 j0 j0 j0 (ixM ti32 j0 ti9 j0 j0 j0 j0 q18<|j4)),(fun _=>pa j0 j0 j0 j0 (mv j0<|j4)),(fun _=>pa j0 j0 j0 j0 (mv j0<|j4)),(fun _=>pa j0 j0 j0 j0 (mv j0<|j4)),(fun _=>pa j0 j0 j0 j0 (ld ti22 j0 j0<|j4)),(fun _=>pa j0 j0 j0 j0 (fa ti51 j0 j0 j0<|j4)),(fun _=>pa j0 j0 j0 j0 (nc j0 j0<|j4)),(fun _=>pa j0 j0 j0 j0 (mv j0<|j4)),j5⟩ (by kernel_rfl) j0 ⟨(fun _ _=>⟨_,j0,j0,al 1 ti42 j0<|⟨(.mpt 1 0 0),[],[(11,.mpt 1 0 0)],j0,j0,by kernel_rfl,j0,dtS ⟨(fun _=>pa j0 j0 j0 j0 (ldI ti42 j0 (idx_some q20).2.2 j0<|j4)),(fun _=>pa j0 j0 j0 j0 (ixI ti22 j0 ti42 j0 j0 j0 q20<|j4)),(fun _=>pa j0 j0 j0 j0 (pc (ref7_Hier_At_ok v1 v17 q19) j0 j0 j0<|j4)),(fun _=>pa j0 j0 j0 j0 (ldM ti9 j0 j0 (idx_some q18).2.2 j0<|j4)),(fun _=>pa j0 j0 j0 j0 (ixM ti32 j0 ti9 j0 j0 j0 j0 q18<|j4)),(fun _=>pa j0 j0 j0 j0 (mv j0<|j4)),(fun _=>pa j0 j0 j0 j0 (mv j0<|j4)),(fun _=>pa j0 j0 j0 j0 (mv j0<|j4)),(fun _=>pa j0 j0 j0 j0 (ld ti22 j0 j0<|j4)),(fun _=>pa j0 j0 j0 j0 (fa ti51 j0 j0 j0<|j4)),(fun _=>pa j0 j0 j0 j0 (nc j0 j0<|j4)),(fun _=>pa j0 j0 j0 j0 (mv j0<|j4)),j5⟩ (by kernel_rfl) j0 ⟨(fun h=>by cases h),(fun _ _=>⟨_,j0,j0,sto ti42 j0 j0 j0<|⟨.any,[],[],j0,j0,by kernel_rfl,j5,dt0 ⟨(fun h=>by cases h),(fun h=>by cases h),(fun h=>by cases h),(fun h=>by cases h),(fun h=>by cases h),(fun h=>by cases h),(fun h=>by cases h),(fun h=>by cases h),(fun h=>by cases h),(fun h=>by cases h),(fun h=>by cases h),(fun h=>by cases h),j5⟩ (by kernel_rfl) j0 ⟨[.old 0,.old 1],ce j0 j0<|ce j0 j0<|cv j0 (.msl j0)<|ce j0 j0<|cv j0 (.mpt j0)<|cn,j0,⟨⟨_,j0,rsMap (fun _=>j0)⟩,⟨_,j0,rsOne ⟨ci j0,ci j0,ci j0,ci j0,ci j0,ci j0,j5⟩⟩,j5⟩,j0,j1⟩⟩⟩),j5⟩⟩⟩),(fun _ h=>by cases h),j5⟩) ?_
    obtain ⟨v20,q21,h⟩:=bs h
    refine rg j0<|u<|ld ti42 j0 j0<|u<|mv j0<|u<|pc (ref3_Method_ok v19 v3 q21) j0 j0 j0<|u<|asg j0<|r_nil ?_
    obtain ⟨v22,q24,h⟩:=bs h
    refine rg j0<|u<|mv j0<|u<|geq ti3 j0 j0<|u<|mv j0<|r_and (x:=v22) (j:=2) 7 j0 j0 j0 j0 j0 gpn (fun hb22=>by replace q24:=bT hb22 q24; obtain ⟨v21,q23,q24⟩:=bs q24; obtain rfl:=sm q24; exact g j0 hb22<|fa ti42 j0 j0 j0<|g j0 hb22<|ld ti40 j0 j0<|g j0 hb22<|mv j0<|g j0 hb22<|ixI ti40 j0 ti62 j0 j0 j0 q23<|g j0 hb22<|fa ti62 j0 j0 j0<|g j0 hb22<|ldI ti4 j0 (idx_some q23).2.2 j0<|g j0 hb22<|nt j0<|r_nil (eg [55,56,57,58,59,60,61] 7 j0 j0 j0 j0)) (fun hb=>(sm (bF hb q24)).symm)<|r_nil ?_
    refine sw_cond j0 (fun hc25=>?_) (fun hc25=>?_)
    ·
     replace h:=bT hc25 h
     obtain ⟨v23,q26,h⟩:=bs h
     refine rg j0<|u<|mv j0<|u<|mv j0<|u<|ixM ti32 j0 ti9 j0 j0 j0 j0 q26<|u<|ldM ti9 j0 j0 (idx_some q26).2.2 j0<|u<|asg j0<|u<|asg j0<|r_nil ?_
     refine sw_ret ?_
     obtain rfl:=sm h
     exact ⟨_,j0,_,j0,[],rsTup ⟨(ci j0),(ci j0),j5⟩,j0,j5,j0,j1⟩
    ·
     replace h:=bF hc25 h
     refine sw_skip ?_
     refine rl j0<|u<|mv j0<|u<|add ti3 j0 j0<|u<|asg j0<|r_nil ?_
     obtain rfl:=sm h
     exact ⟨_,j0,[.old 0],ce j0 j0<|ce j0 j0<|cv j0 (.msl j0)<|ce j0 j0<|cn,j0,⟨⟨_,j0,rsMap (fun _=>j0)⟩,j5⟩,j0,j1⟩
   ·
    replace h:=bF hc17 h
    refine sw_exit ?_
    obtain rfl:=sm h
    exact ⟨j0,_,j0,[],cn,j0,j5,j0,j1⟩
  ·
   rintro ⟨⟩ rfl
   replace h : ref7_Hier_Chosen_k2 = some r:=h
   unfold ref7_Hier_Chosen_k2 at h
   refine ow_intro ?_
   refine rg j0<|u<|asg j0<|u<|asg j0<|r_nil ?_
   refine sw_ret ?_
   obtain rfl:=sm h
   exact ⟨_,j0,[],rsTup ⟨(ci j0),(ci j0),j5⟩,j0,j5,j0,j1⟩
  ·
   rintro r' rfl env st hp
   obtain rfl:=sm h
   exact hp
def link_Field_s2_k2 : Option ((List UInt8) × ApiField × Bool) :=
  some ([],(ApiField.mk [] [] false),false)
def link_Field_s2_l1 (v1 : List ApiClass) (v2 : List (List UInt8 × Int)) (v4 : List UInt8) (v5 : (List (List UInt8))) (v11 : Int) : Option (Sum (Int) (Sum (Unit) ((List UInt8) × ApiField × Bool))) :=
  cond (decide (v11 < ((List.length v5) : Int))) ((idx v5 v11).bind fun v12=>(hier_Hier_Class_s3 v1 v2 v12).bind fun v13=>(class_Field v13.1 v4).bind fun v14=>cond (decide (0 ≤ v14)) ((idx v13.1.Fields v14).bind fun v15=>some (.inr (.inr (v12,v15,true)))) (some (.inl (IntKind.i64.wrap (v11 + 1))))) (some (.inr (.inl ())))
def link_Field_s2 (v1 : List ApiClass) (v2 : List (List UInt8 × Int)) (v3 : List UInt8) (v4 : List UInt8) : Option ((List UInt8) × ApiField × Bool) :=
  (hier_Hier_Supers_s2 v1 v2 v3).bind fun v5=>(loopP (fun z=>link_Field_s2_l1 v1 v2 v4 v5 z) 0).bind fun o=>leave o (fun b=>link_Field_s2_k2) some
theorem link_Field_s2_ok (v1 : List ApiClass) (v2 : List (List UInt8 × Int)) (v3 : List UInt8) (v4 : List UInt8) {r : (List UInt8) × ApiField × Bool} (h : link_Field_s2 v1 v2 v3 v4 = some r) : PureC Tryz.prog 76 [.ipt 2 [[.isl 6 (List.map rApiClass v1),.imp (List.map (rKV (fun x=>iA x)) v2)]] 0 0,sA v3,sA v4] (.tup [sA r.1,.agg [sA r.2.1.Name,sA r.2.1.Type_,bA r.2.1.Static],bA r.2.2]):=by
 refine pure_fn Tryz.func76 j0 (by kernel_rfl) j0 j0 ?_
 unfold link_Field_s2 at h
 refine rg j0<|u<|asg j0<|u<|al 0 ti57 j0<|u<|asg j0<|r_nil ?_
 refine sw_seq ?_
 obtain ⟨v5,q1,h⟩:=bs h
 refine rg j0<|u<|mv j0<|u<|mv j0<|u<|sc [] (hier_Hier_Supers_s2_ok v1 v2 v3 q1) j0 j0 j0 j0 ⟨(rnI j0),(rnI j0),j5⟩ j5<|r_can (env0:=[(0,.ipt 2 [[.isl 6 (List.map rApiClass v1),.imp (List.map (rKV (fun x=>iA x)) v2)]] 0 0),(2,sA v4),(7,.mpt 0 0 0),(16,.msl 1 0 (List.length v5))]) (st0:=[some (3,[[sA [],sA [],bA false]]),some (1,List.map rStr v5)]) ⟨[.old 0,.old 1],ce j0 j0<|ce j0 j0<|cv j0 (.mpt j0)<|cv j0 (.msl j0)<|cn,j0,⟨⟨_,j0,rsOne ⟨ci j0,ci j0,ci j0,j5⟩⟩,⟨_,j0,rsMap (fun _=>j0)⟩,j5⟩,j0,j1⟩<|u<|lnM ti32 j0 j0 j0<|u<|mv j0<|r_nil ?_
 obtain ⟨o,ho,h⟩:=bs h
 refine sw_lpl (X:=Int) (B:=Unit) (R:=(List UInt8) × ApiField × Bool) (fun z=>[(0,.ipt 2 [[.isl 6 (List.map rApiClass v1),.imp (List.map (rKV (fun x=>iA x)) v2)]] 0 0),(2,sA v4),(7,.mpt 0 0 0),(16,.msl 1 0 (List.length v5)),(17,iA ((List.length v5) : Int)),(18,iA z)]) (fun z=>[some (3,[[sA [],sA [],bA false]]),some (1,List.map rStr v5)]) (fun b=>[(7,.mpt 0 0 0)]) (fun b=>[some (3,[[sA [],sA [],bA false]])]) (fun r env st=>PostF Tryz.prog Tryz.f76 0 (.tup [sA r.1,.agg [sA r.2.1.Name,sA r.2.1.Type_,bA r.2.1.Static],bA r.2.2]) [] env st) ho ⟨[.old 0,.old 1],ce j0 j0<|ce j0 j0<|cv j0 (.mpt j0)<|cv j0 (.msl j0)<|ce j0 j0<|ce j0 j0<|cn,j0,⟨⟨_,j0,rsOne ⟨ci j0,ci j0,ci j0,j5⟩⟩,⟨_,j0,rsMap (fun _=>j0)⟩,j5⟩,j0,j1⟩ ?_ ?_ ?_
 ·
  rintro v11 r h
  replace h : link_Field_s2_l1 v1 v2 v4 v5 v11 = some r:=h
  unfold link_Field_s2_l1 at h
  refine rg j0<|u<|lss ti3 j0 j0<|r_nil ?_
  refine sw_seq ?_
  refine sw_cond j0 (fun hc8=>?_) (fun hc8=>?_)
  ·
   replace h:=bT hc8 h
   refine sw_skip ?_
   refine sw_seq ?_
   refine sw_block ?_
   obtain ⟨v12,q9,h⟩:=bs h
   refine rg j0<|u<|ixM ti32 j0 ti9 j0 j0 j0 j0 q9<|u<|ldM ti9 j0 j0 (idx_some q9).2.2 j0<|u<|asg j0<|r_nil ?_
   obtain ⟨v13,q10,h⟩:=bs h
   refine rg j0<|u<|mv j0<|u<|mv j0<|u<|pc (hier_Hier_Class_s3_ok v1 v2 v12 q10) j0 j0 j0<|u<|mv j0<|u<|ex j0 j0<|u<|ex j0 j0<|u<|al 2 ti42 j0<|u<|sto ti42 j0 j0 j0<|u<|asg j0<|r_nil ?_
   obtain ⟨v14,q11,h⟩:=bs h
   refine rg j0<|u<|ld ti42 j0 j0<|u<|mv j0<|u<|pc (class_Field_ok v13.1 v4 q11) j0 j0 j0<|u<|asg j0<|r_nil ?_
   refine rg j0<|u<|mv j0<|u<|geq ti3 j0 j0<|r_nil ?_
   refine sw_cond j0 (fun hc12=>?_) (fun hc12=>?_)
   ·
    replace h:=bT hc12 h
    obtain ⟨v15,q13,h⟩:=bs h
    refine rd [(6,sA v12),(7,.mpt 0 0 0),(8,bA true)] [some (3,[[sA v15.Name,sA v15.Type_,bA v15.Static]])] [7] [6,5,4,3,2,1,0] [(6,sA v12),(38,.agg [sA v15.Name,sA v15.Type_,bA v15.Static]),(37,.ipt 3 (List.map rApiField v13.1.Fields) (Int.toNat v14) 0),(36,iA v14),(35,.isl 3 (List.map rApiField v13.1.Fields)),(34,.mpt 2 0 4),(33,sA v12)] 1 (by kernel_rfl) (by kernel_rfl) j0 (by kernel_rfl) (dtS ⟨(fun _=>pa j0 j0 j0 j0 (asg j0<|j4)),(fun _=>pa j0 j0 j0 j0 (ldI ti57 j0 (idx_some q13).2.2 j0<|j4)),(fun _=>pa j0 j0 j0 j0 (ixI ti39 j0 ti57 j0 j0 j0 q13<|j4)),(fun _=>pa j0 j0 j0 j0 (mv j0<|j4)),(fun _=>pa j0 j0 j0 j0 (ld ti39 j0 j0<|j4)),(fun _=>pa j0 j0 j0 j0 (fa ti42 j0 j0 j0<|j4)),(fun _=>pa j0 j0 j0 j0 (mv j0<|j4)),j5⟩ (by kernel_rfl) j0 ⟨(fun _ _=>⟨_,j0,j0,sto ti57 j0 j0 j0<|⟨.any,[8],[(8,bA true)],j0,j0,by kernel_rfl,j5,dt0 ⟨(fun _=>pa j0 j0 j0 j0 (asg j0<|j4)),(fun h=>by cases h),(fun h=>by cases h),(fun h=>by cases h),(fun h=>by cases h),(fun h=>by cases h),(fun h=>by cases h),(fun h=>by cases h),j5⟩ (by kernel_rfl) j0 ⟨[.old 0],ce j0 j0<|cv j0 (.mpt j0)<|ce j0 j0<|cn,j0,⟨⟨_,j0,rsOne ⟨ci j0,ci j0,ci j0,j5⟩⟩,j5⟩,j0,j1⟩⟩⟩),j5⟩) ?_
    refine sw_ret ?_
    obtain rfl:=sm h
    exact ⟨_,j0,_,j0,[],rsTup ⟨(ci j0),(ci j0),(ci j0),j5⟩,j0,j5,j0,j1⟩
   ·
    replace h:=bF hc12 h
    refine sw_skip ?_
    refine rl j0<|u<|add ti3 j0 j0<|u<|mv j0<|r_nil ?_
    obtain rfl:=sm h
    exact ⟨_,j0,[.old 0,.old 1],ce j0 j0<|ce j0 j0<|cv j0 (.mpt j0)<|cv j0 (.msl j0)<|ce j0 j0<|ce j0 j0<|cn,j0,⟨⟨_,j0,rsOne ⟨ci j0,ci j0,ci j0,j5⟩⟩,⟨_,j0,rsMap (fun _=>j0)⟩,j5⟩,j0,j1⟩
  ·
   replace h:=bF hc8 h
   refine sw_exit ?_
   obtain rfl:=sm h
   exact ⟨j0,_,j0,[.old 0],cv j0 (.mpt j0)<|cn,j0,⟨⟨_,j0,rsOne ⟨ci j0,ci j0,ci j0,j5⟩⟩,j5⟩,j0,j1⟩
 ·
  rintro ⟨⟩ rfl
  replace h : link_Field_s2_k2 = some r:=h
  unfold link_Field_s2_k2 at h
  refine ow_intro ?_
  refine rg j0<|u<|bd ti57 j0 j0 j0<|u<|asg j0<|u<|sto ti57 j0 j0 j0<|u<|asg j0<|r_nil ?_
  refine sw_ret ?_
  obtain rfl:=sm h
  exact ⟨_,j0,[],rsTup ⟨(ci j0),(ci j0),(ci j0),j5⟩,j0,j5,j0,j1⟩
 ·
  rintro r' rfl env st hp
  obtain rfl:=sm h
  exact hp
def link_Method_s3 (v1 : List ApiClass) (v2 : List (List UInt8 × Int)) (v3 : List UInt8) (v4 : List UInt8) : Option ((List UInt8) × ApiMethod × Bool) :=
  (hier_Hier_Supers_s2 v1 v2 v3).bind fun v5=>(link_find_s4 v1 v2 v5 v4).bind fun v6=>some (v6.1,v6.2.1,v6.2.2)
theorem link_Method_s3_ok (v1 : List ApiClass) (v2 : List (List UInt8 × Int)) (v3 : List UInt8) (v4 : List UInt8) {r : (List UInt8) × ApiMethod × Bool} (h : link_Method_s3 v1 v2 v3 v4 = some r) : PureC Tryz.prog 42 [.ipt 2 [[.isl 6 (List.map rApiClass v1),.imp (List.map (rKV (fun x=>iA x)) v2)]] 0 0,sA v3,sA v4] (.tup [sA r.1,.agg [sA r.2.1.Name,.isl 1 (List.map rStr r.2.1.Params),sA r.2.1.Ret,bA r.2.1.Static,bA r.2.1.Abstract,iA r.2.1.Locals,iA r.2.1.Stack,.isl 4 (List.map rApiIns r.2.1.Code),.isl 3 (List.map rApiMap r.2.1.Maps),.isl 4 (List.map rApiTrap r.2.1.Traps)],bA r.2.2]):=by
 refine pure_fn Tryz.func42 j0 (by kernel_rfl) j0 j0 ?_
 unfold link_Method_s3 at h
 refine rg j0<|u<|asg j0<|u<|al 0 ti62 j0<|u<|asg j0<|r_nil ?_
 obtain ⟨v5,q1,h⟩:=bs h
 obtain ⟨v6,q2,h⟩:=bs h
 refine rg j0<|u<|mv j0<|u<|mv j0<|u<|mv j0<|u<|sc [] (hier_Hier_Supers_s2_ok v1 v2 v3 q1) j0 j0 j0 j0 ⟨(rnI j0),(rnI j0),j5⟩ j5<|r_can (env0:=[(2,sA v4),(7,.mpt 0 0 0),(9,.ipt 2 [[.isl 6 (List.map rApiClass v1),.imp (List.map (rKV (fun x=>iA x)) v2)]] 0 0),(12,.msl 1 0 (List.length v5))]) (st0:=[some (10,[[sA [],.lit (.slice none 0 0),sA [],bA false,bA false,iA 0,iA 0,.lit (.slice none 0 0),.lit (.slice none 0 0),.lit (.slice none 0 0)]]),some (1,List.map rStr v5)]) ⟨[.old 0,.old 1],ce j0 j0<|cv j0 (.mpt j0)<|ce j0 j0<|cv j0 (.msl j0)<|cn,j0,⟨⟨_,j0,rsOne ⟨ci j0,ci j0,ci j0,ci j0,ci j0,ci j0,ci j0,ci j0,ci j0,ci j0,j5⟩⟩,⟨_,j0,rsMap (fun _=>j0)⟩,j5⟩,j0,j1⟩<|u<|mv j0<|r_can (env0:=[(7,.mpt 0 0 0),(9,.ipt 2 [[.isl 6 (List.map rApiClass v1),.imp (List.map (rKV (fun x=>iA x)) v2)]] 0 0),(12,.isl 1 (List.map rStr v5)),(13,sA v4)]) (st0:=[some (10,[[sA [],.lit (.slice none 0 0),sA [],bA false,bA false,iA 0,iA 0,.lit (.slice none 0 0),.lit (.slice none 0 0),.lit (.slice none 0 0)]])]) ⟨[.old 0],cv j0 (.mpt j0)<|ce j0 j0<|cv j0 (rsSeal j0 j0 (fun _=>j0))<|ce j0 j0<|cn,j0,⟨⟨_,j0,rsOne ⟨ci j0,ci j0,ci j0,ci j0,ci j0,ci j0,ci j0,ci j0,ci j0,ci j0,j5⟩⟩,j5⟩,j0,j1⟩<|u<|pc (link_find_s4_ok v1 v2 v5 v4 q2) j0 j0 j0<|u<|ex j0 j0<|u<|ex j0 j0<|u<|ex j0 j0<|u<|asg j0<|u<|sto ti62 j0 j0 j0<|u<|asg j0<|r_nil ?_
 refine sw_ret ?_
 obtain rfl:=sm h
 exact ⟨_,j0,[],rsTup ⟨(ci j0),(ci j0),(ci j0),j5⟩,j0,j5,j0,j1⟩
def link_Face_s3 (v1 : List ApiClass) (v2 : List (List UInt8 × Int)) (v3 : List UInt8) (v4 : List UInt8) : Option ((List UInt8) × ApiMethod × Bool) :=
  (hier_Hier_Class_s3 v1 v2 v3).bind fun v5=>cond (!v5.1.Interface) (some ([],(ApiMethod.mk [] [] [] false false 0 0 [] [] []),false)) ((hier_Hier_Faces_s3 v1 v2 v3).bind fun v6=>(appP 16 [v3] v6).bind fun v7=>(link_find_s6 v1 v2 v7 v4).bind fun v8=>some (v8.1,v8.2.1,v8.2.2))
theorem link_Face_s3_ok (v1 : List ApiClass) (v2 : List (List UInt8 × Int)) (v3 : List UInt8) (v4 : List UInt8) {r : (List UInt8) × ApiMethod × Bool} (h : link_Face_s3 v1 v2 v3 v4 = some r) : PureC Tryz.prog 44 [.ipt 2 [[.isl 6 (List.map rApiClass v1),.imp (List.map (rKV (fun x=>iA x)) v2)]] 0 0,sA v3,sA v4] (.tup [sA r.1,.agg [sA r.2.1.Name,.isl 1 (List.map rStr r.2.1.Params),sA r.2.1.Ret,bA r.2.1.Static,bA r.2.1.Abstract,iA r.2.1.Locals,iA r.2.1.Stack,.isl 4 (List.map rApiIns r.2.1.Code),.isl 3 (List.map rApiMap r.2.1.Maps),.isl 4 (List.map rApiTrap r.2.1.Traps)],bA r.2.2]):=by
 refine pure_fn Tryz.func44 j0 (by kernel_rfl) j0 j0 ?_
 unfold link_Face_s3 at h
 refine rg j0<|u<|asg j0<|u<|al 0 ti62 j0<|u<|asg j0<|r_nil ?_
 obtain ⟨v5,q1,h⟩:=bs h
 refine rg j0<|u<|mv j0<|u<|mv j0<|u<|pc (hier_Hier_Class_s3_ok v1 v2 v3 q1) j0 j0 j0<|u<|mv j0<|u<|ex j0 j0<|u<|ex j0 j0<|u<|al 1 ti42 j0<|u<|sto ti42 j0 j0 j0<|u<|asg j0<|r_nil ?_
 refine sw_seq ?_
 refine rg j0<|u<|fa ti42 j0 j0 j0<|u<|ld ti4 j0 j0<|u<|nt j0<|r_nil ?_
 refine sw_cond j0 (fun hc2=>?_) (fun hc2=>?_)
 ·
  replace h:=bT hc2 h
  refine rg j0<|u<|bd ti62 j0 j0 j0<|u<|asg j0<|u<|sto ti62 j0 j0 j0<|u<|asg j0<|r_nil ?_
  refine sw_ret ?_
  obtain rfl:=sm h
  exact ⟨_,j0,[],rsTup ⟨(ci j0),(rsAgg ⟨(ci j0),(.nil),(ci j0),(ci j0),(ci j0),(ci j0),(ci j0),(.nil),(.nil),(.nil),j5⟩),(ci j0),j5⟩,j0,j5,j0,j1⟩
 ·
  replace h:=bF hc2 h
  refine sw_skip ?_
  obtain ⟨v6,q3,h⟩:=bs h
  obtain ⟨v7,q4,h⟩:=bs h
  obtain ⟨v8,q5,h⟩:=bs h
  refine rg j0<|u<|mv j0<|u<|mv j0<|u<|bl 2 ti32 j0 ti9 j0 (by decide) (by decide) j0 j0 j0<|u<|mv j0<|u<|mv j0<|u<|sc [] (hier_Hier_Faces_s3_ok v1 v2 v3 q3) j0 j0 j0 j0 ⟨(rnI j0),(rnI j0),j5⟩ j5<|u<|apM (l:=[v3]) (f:=rStr) 4 ti32 j0 ti9 j0 j0 (by decide) ti32 j0 j0 j0 j0 (roM j0) (fun _=>j0) j0 q4<|u<|mv j0<|r_can (env0:=[(7,.mpt 0 0 0),(21,.ipt 2 [[.isl 6 (List.map rApiClass v1),.imp (List.map (rKV (fun x=>iA x)) v2)]] 0 0),(27,.isl 1 (List.map rStr v7)),(28,sA v4)]) (st0:=[some (10,[[sA [],.lit (.slice none 0 0),sA [],bA false,bA false,iA 0,iA 0,.lit (.slice none 0 0),.lit (.slice none 0 0),.lit (.slice none 0 0)]])]) ⟨[.old 0],cv j0 (.mpt j0)<|ce j0 j0<|cv j0 (rsSeal j0 j0 (fun _=>j0))<|ce j0 j0<|cn,j0,⟨⟨_,j0,rsOne ⟨ci j0,ci j0,ci j0,ci j0,ci j0,ci j0,ci j0,ci j0,ci j0,ci j0,j5⟩⟩,j5⟩,j0,j1⟩<|u<|pc (link_find_s6_ok v1 v2 v7 v4 q5) j0 j0 j0<|u<|ex j0 j0<|u<|ex j0 j0<|u<|ex j0 j0<|u<|asg j0<|u<|sto ti62 j0 j0 j0<|u<|asg j0<|r_nil ?_
  refine sw_ret ?_
  obtain rfl:=sm h
  exact ⟨_,j0,[],rsTup ⟨(ci j0),(ci j0),(ci j0),j5⟩,j0,j5,j0,j1⟩
def link_Chosen_s3 (v1 : List ApiClass) (v2 : List (List UInt8 × Int)) (v3 : List UInt8) (v4 : List UInt8) : Option ((List UInt8) × Bool) :=
  (hier_Hier_Supers_s2 v1 v2 v3).bind fun v5=>(link_find_s2 v1 v2 v5 v4).bind fun v6=>some (v6.1,v6.2.2)
theorem link_Chosen_s3_ok (v1 : List ApiClass) (v2 : List (List UInt8 × Int)) (v3 : List UInt8) (v4 : List UInt8) {r : (List UInt8) × Bool} (h : link_Chosen_s3 v1 v2 v3 v4 = some r) : PureC Tryz.prog 41 [.ipt 2 [[.isl 6 (List.map rApiClass v1),.imp (List.map (rKV (fun x=>iA x)) v2)]] 0 0,sA v3,sA v4] (.tup [sA r.1,bA r.2]):=by
 refine pure_fn Tryz.func41 j0 (by kernel_rfl) j0 j0 ?_
 unfold link_Chosen_s3 at h
 refine rg j0<|u<|asg j0<|u<|asg j0<|r_nil ?_
 obtain ⟨v5,q1,h⟩:=bs h
 obtain ⟨v6,q2,h⟩:=bs h
 refine rg j0<|u<|mv j0<|u<|mv j0<|u<|mv j0<|u<|sc [] (hier_Hier_Supers_s2_ok v1 v2 v3 q1) j0 j0 j0 j0 ⟨(rnI j0),(rnI j0),j5⟩ j5<|r_can (env0:=[(2,sA v4),(12,.ipt 2 [[.isl 6 (List.map rApiClass v1),.imp (List.map (rKV (fun x=>iA x)) v2)]] 0 0),(15,.msl 0 0 (List.length v5))]) (st0:=[some (1,List.map rStr v5)]) ⟨[.old 0],ce j0 j0<|ce j0 j0<|cv j0 (.msl j0)<|cn,j0,⟨⟨_,j0,rsMap (fun _=>j0)⟩,j5⟩,j0,j1⟩<|u<|mv j0<|r_can (env0:=[(12,.ipt 2 [[.isl 6 (List.map rApiClass v1),.imp (List.map (rKV (fun x=>iA x)) v2)]] 0 0),(15,.isl 1 (List.map rStr v5)),(16,sA v4)]) (st0:=[]) ⟨[],ce j0 j0<|cv j0 (rsSeal j0 j0 (fun _=>j0))<|ce j0 j0<|cn,j0,j5,j0,j1⟩<|u<|pc (link_find_s2_ok v1 v2 v5 v4 q2) j0 j0 j0<|u<|mv j0<|u<|ex j0 j0<|u<|ex j0 j0<|u<|ex j0 j0<|u<|al 0 ti62 j0<|u<|asg j0<|u<|sto ti62 j0 j0 j0<|u<|asg j0<|r_nil ?_
 refine rg j0<|u<|mv j0<|u<|mv j0<|u<|asg j0<|u<|asg j0<|r_nil ?_
 refine sw_ret ?_
 obtain rfl:=sm h
 exact ⟨_,j0,[],rsTup ⟨(ci j0),(ci j0),j5⟩,j0,j5,j0,j1⟩
def law8_one (v1 : Option HierHier) (v2 : List ApiClass) (v3 : List UInt8) (v4 : List UInt8) : Option (Bool) :=
  optE v1 ((link_Field v3 v4).bind fun v6=>(ref7_Hier_Field v2 v3 v4).bind fun v7=>cond (((((!(v6.2.2 == v7.2.2)) || (!(v6.1 == v7.1))) || (!(v6.2.1.Name == v7.2.1.Name))) || (!(v6.2.1.Type_ == v7.2.1.Type_))) || (!(v6.2.1.Static == v7.2.1.Static))) (some false) ((link_Method_s2 v3 v4).bind fun v8=>(ref7_Hier_Method v2 v3 v4).bind fun v9=>(cond (((!(v8.2.2 == v9.2.2)) || (!(v8.1 == v9.1))) || (!(v8.2.1.Name == v9.2.1.Name))) (some true) ((link_Alike v8.2.1 v9.2.1).bind fun v10=>some (!v10))).bind fun v11=>cond (v11 || (!((List.length v8.2.1.Code : Int) == (List.length v9.2.1.Code : Int)))) (some false) ((link_Face_s2 v3 v4).bind fun v12=>(ref7_Hier_Face v2 v3 v4).bind fun v13=>cond ((((!(v12.2.2 == v13.2.2)) || (!(v12.1 == v13.1))) || (!(v12.2.1.Name == v13.2.1.Name))) || (!(v12.2.1.Ret == v13.2.1.Ret))) (some false) ((link_Chosen_s2 v3 v4).bind fun v14=>(ref7_Hier_Chosen v2 v3 v4).bind fun v15=>some ((v14.2 == v15.2) && (v14.1 == v15.1)))))) (fun v5=>(link_Field_s2 v5.l v5.at_ v3 v4).bind fun v16=>(ref7_Hier_Field v2 v3 v4).bind fun v17=>cond (((((!(v16.2.2 == v17.2.2)) || (!(v16.1 == v17.1))) || (!(v16.2.1.Name == v17.2.1.Name))) || (!(v16.2.1.Type_ == v17.2.1.Type_))) || (!(v16.2.1.Static == v17.2.1.Static))) (some false) ((link_Method_s3 v5.l v5.at_ v3 v4).bind fun v18=>(ref7_Hier_Method v2 v3 v4).bind fun v19=>(cond (((!(v18.2.2 == v19.2.2)) || (!(v18.1 == v19.1))) || (!(v18.2.1.Name == v19.2.1.Name))) (some true) ((link_Alike v18.2.1 v19.2.1).bind fun v20=>some (!v20))).bind fun v21=>cond (v21 || (!((List.length v18.2.1.Code : Int) == (List.length v19.2.1.Code : Int)))) (some false) ((link_Face_s3 v5.l v5.at_ v3 v4).bind fun v22=>(ref7_Hier_Face v2 v3 v4).bind fun v23=>cond ((((!(v22.2.2 == v23.2.2)) || (!(v22.1 == v23.1))) || (!(v22.2.1.Name == v23.2.1.Name))) || (!(v22.2.1.Ret == v23.2.1.Ret))) (some false) ((link_Chosen_s3 v5.l v5.at_ v3 v4).bind fun v24=>(ref7_Hier_Chosen v2 v3 v4).bind fun v25=>some ((v24.2 == v25.2) && (v24.1 == v25.1))))))
theorem law8_one_ok (v1 : Option HierHier) (v2 : List ApiClass) (v3 : List UInt8) (v4 : List UInt8) {r : Bool} (h : law8_one v1 v2 v3 v4 = some r) : PureC Tryz.prog 40 [optP 2 rHierHier v1,.ipt 1 [[.isl 6 (List.map rApiClass v2)]] 0 0,sA v3,sA v4] (bA r):=by
 refine pure_fn Tryz.func40 j0 (by kernel_rfl) j0 j0 ?_
 unfold law8_one at h
 rcases v1 with _ | v5
 ·
  replace h:=oeN h
  refine rg j0<|u<|asg j0<|r_nil ?_
  obtain ⟨v6,q1,h⟩:=bs h
  refine rg j0<|u<|mv j0<|u<|mv j0<|u<|mv j0<|u<|pc (link_Field_ok v3 v4 q1) j0 j0 j0<|u<|mv j0<|u<|ex j0 j0<|u<|ex j0 j0<|u<|ex j0 j0<|u<|al 0 ti57 j0<|u<|asg j0<|u<|sto ti57 j0 j0 j0<|u<|asg j0<|r_nil ?_
  obtain ⟨v7,q2,h⟩:=bs h
  refine rg j0<|u<|mv j0<|u<|mv j0<|u<|mv j0<|u<|pc (ref7_Hier_Field_ok v2 v3 v4 q2) j0 j0 j0<|u<|mv j0<|u<|ex j0 j0<|u<|ex j0 j0<|u<|ex j0 j0<|u<|al 1 ti57 j0<|u<|asg j0<|u<|sto ti57 j0 j0 j0<|u<|asg j0<|r_nil ?_
  refine sw_seq ?_
  refine rg j0<|u<|mv j0<|u<|mv j0<|u<|bne ti4 j0 j0 j0<|u<|mv j0<|r_or (j:=3) 3 j0 j0 j0 j0 j0 gpn (fun hb3=>g j0 hb3<|mv j0<|g j0 hb3<|mv j0<|g j0 hb3<|sne ti9 j0 j0<|r_nil (egO [37,38,39] 3 hb3 j0 j0 j0 j0)) orT<|u<|mv j0<|r_or (j:=8) 5 j0 j0 j0 j0 j0 gpn (fun hb4=>g j0 hb4<|fa ti57 j0 j0 j0<|g j0 hb4<|ld ti9 j0 j0<|g j0 hb4<|fa ti57 j0 j0 j0<|g j0 hb4<|ld ti9 j0 j0<|g j0 hb4<|sne ti9 j0 j0<|r_nil (egO [42,43,44,45,46] 5 hb4 j0 j0 j0 j0)) orT<|u<|mv j0<|r_or (j:=15) 5 j0 j0 j0 j0 j0 gpn (fun hb5=>g j0 hb5<|fa ti57 j0 j0 j0<|g j0 hb5<|ld ti9 j0 j0<|g j0 hb5<|fa ti57 j0 j0 j0<|g j0 hb5<|ld ti9 j0 j0<|g j0 hb5<|sne ti9 j0 j0<|r_nil (egO [49,50,51,52,53] 5 hb5 j0 j0 j0 j0)) orT<|u<|mv j0<|r_or (j:=22) 5 j0 j0 j0 j0 j0 gpn (fun hb6=>g j0 hb6<|fa ti57 j0 j0 j0<|g j0 hb6<|ld ti4 j0 j0<|g j0 hb6<|fa ti57 j0 j0 j0<|g j0 hb6<|ld ti4 j0 j0<|g j0 hb6<|bne ti4 j0 j0 j0<|r_nil (egO [56,57,58,59,60] 5 hb6 j0 j0 j0 j0)) orT<|r_nil ?_
  refine sw_cond j0 (fun hc7=>?_) (fun hc7=>?_)
  ·
   replace h:=bT hc7 h
   refine rg j0<|u<|asg j0<|r_nil ?_
   refine sw_ret ?_
   obtain rfl:=sm h
   exact ⟨_,j0,[],ci j0,j0,j5,j0,j1⟩
  ·
   replace h:=bF hc7 h
   refine sw_skip ?_
   obtain ⟨v8,q8,h⟩:=bs h
   refine rg j0<|u<|mv j0<|u<|mv j0<|u<|mv j0<|u<|pc (link_Method_s2_ok v3 v4 q8) j0 j0 j0<|u<|mv j0<|u<|ex j0 j0<|u<|ex j0 j0<|u<|ex j0 j0<|u<|al 2 ti62 j0<|u<|asg j0<|u<|sto ti62 j0 j0 j0<|u<|asg j0<|r_nil ?_
   obtain ⟨v9,q9,h⟩:=bs h
   refine rg j0<|u<|mv j0<|u<|mv j0<|u<|mv j0<|u<|pc (ref7_Hier_Method_ok v2 v3 v4 q9) j0 j0 j0<|u<|mv j0<|u<|ex j0 j0<|u<|ex j0 j0<|u<|ex j0 j0<|u<|al 3 ti62 j0<|u<|asg j0<|u<|sto ti62 j0 j0 j0<|u<|asg j0<|r_nil ?_
   refine sw_seq ?_
   obtain ⟨v11,q14,h⟩:=bs h
   refine rg j0<|u<|mv j0<|u<|mv j0<|u<|bne ti4 j0 j0 j0<|u<|mv j0<|r_or (j:=3) 3 j0 j0 j0 j0 j0 gpn (fun hb10=>g j0 hb10<|mv j0<|g j0 hb10<|mv j0<|g j0 hb10<|sne ti9 j0 j0<|r_nil (egO [82,83,84] 3 hb10 j0 j0 j0 j0)) orT<|u<|mv j0<|r_or (j:=8) 5 j0 j0 j0 j0 j0 gpn (fun hb11=>g j0 hb11<|fa ti62 j0 j0 j0<|g j0 hb11<|ld ti9 j0 j0<|g j0 hb11<|fa ti62 j0 j0 j0<|g j0 hb11<|ld ti9 j0 j0<|g j0 hb11<|sne ti9 j0 j0<|r_nil (egO [87,88,89,90,91] 5 hb11 j0 j0 j0 j0)) orT<|u<|mv j0<|r_or (x:=v11) (j:=15) 4 j0 j0 j0 j0 j0 gpn (fun hb12=>by replace q14:=bF hb12 q14; obtain ⟨v10,q13,q14⟩:=bs q14; obtain rfl:=sm q14; exact g j0 hb12<|ld ti62 j0 j0<|g j0 hb12<|ld ti62 j0 j0<|g j0 hb12<|pc (link_Alike_ok v8.2.1 v9.2.1 q13) j0 j0 j0<|g j0 hb12<|nt j0<|r_nil (eg [94,95,96,97] 4 j0 j0 j0 j0)) (fun hb=>(sm (bT hb q14)).symm)<|u<|mv j0<|r_or (j:=21) 7 j0 j0 j0 j0 j0 gpn (fun hb15=>g j0 hb15<|fa ti62 j0 j0 j0<|g j0 hb15<|ld ti58 j0 j0<|g j0 hb15<|lnI ti58 j0 j0<|g j0 hb15<|fa ti62 j0 j0 j0<|g j0 hb15<|ld ti58 j0 j0<|g j0 hb15<|lnI ti58 j0 j0<|g j0 hb15<|neq ti3 j0 j0<|r_nil (egO [100,101,102,103,104,105,106] 7 hb15 j0 j0 j0 j0)) orT<|r_nil ?_
   refine sw_cond j0 (fun hc16=>?_) (fun hc16=>?_)
   ·
    replace h:=bT hc16 h
    refine rg j0<|u<|asg j0<|r_nil ?_
    refine sw_ret ?_
    obtain rfl:=sm h
    exact ⟨_,j0,[],ci j0,j0,j5,j0,j1⟩
   ·
    replace h:=bF hc16 h
    refine sw_skip ?_
    obtain ⟨v12,q17,h⟩:=bs h
    refine rg j0<|u<|mv j0<|u<|mv j0<|u<|mv j0<|u<|pc (link_Face_s2_ok v3 v4 q17) j0 j0 j0<|u<|mv j0<|u<|ex j0 j0<|u<|ex j0 j0<|u<|ex j0 j0<|u<|asg j0<|u<|sto ti62 j0 j0 j0<|u<|asg j0<|r_nil ?_
    obtain ⟨v13,q18,h⟩:=bs h
    refine rg j0<|u<|mv j0<|u<|mv j0<|u<|mv j0<|u<|pc (ref7_Hier_Face_ok v2 v3 v4 q18) j0 j0 j0<|u<|mv j0<|u<|ex j0 j0<|u<|ex j0 j0<|u<|ex j0 j0<|u<|asg j0<|u<|sto ti62 j0 j0 j0<|u<|asg j0<|r_nil ?_
    refine sw_seq ?_
    refine rg j0<|u<|mv j0<|u<|mv j0<|u<|bne ti4 j0 j0 j0<|u<|mv j0<|r_or (j:=3) 3 j0 j0 j0 j0 j0 gpn (fun hb19=>g j0 hb19<|mv j0<|g j0 hb19<|mv j0<|g j0 hb19<|sne ti9 j0 j0<|r_nil (egO [128,129,130] 3 hb19 j0 j0 j0 j0)) orT<|u<|mv j0<|r_or (j:=8) 5 j0 j0 j0 j0 j0 gpn (fun hb20=>g j0 hb20<|fa ti62 j0 j0 j0<|g j0 hb20<|ld ti9 j0 j0<|g j0 hb20<|fa ti62 j0 j0 j0<|g j0 hb20<|ld ti9 j0 j0<|g j0 hb20<|sne ti9 j0 j0<|r_nil (egO [133,134,135,136,137] 5 hb20 j0 j0 j0 j0)) orT<|u<|mv j0<|r_or (j:=15) 5 j0 j0 j0 j0 j0 gpn (fun hb21=>g j0 hb21<|fa ti62 j0 j0 j0<|g j0 hb21<|ld ti9 j0 j0<|g j0 hb21<|fa ti62 j0 j0 j0<|g j0 hb21<|ld ti9 j0 j0<|g j0 hb21<|sne ti9 j0 j0<|r_nil (egO [140,141,142,143,144] 5 hb21 j0 j0 j0 j0)) orT<|r_nil ?_
    refine sw_cond j0 (fun hc22=>?_) (fun hc22=>?_)
    ·
     replace h:=bT hc22 h
     refine rg j0<|u<|asg j0<|r_nil ?_
     refine sw_ret ?_
     obtain rfl:=sm h
     exact ⟨_,j0,[],ci j0,j0,j5,j0,j1⟩
    ·
     replace h:=bF hc22 h
     refine sw_skip ?_
     obtain ⟨v14,q23,h⟩:=bs h
     refine rg j0<|u<|mv j0<|u<|mv j0<|u<|mv j0<|u<|pc (link_Chosen_s2_ok v3 v4 q23) j0 j0 j0<|u<|mv j0<|u<|ex j0 j0<|u<|ex j0 j0<|u<|asg j0<|u<|asg j0<|r_nil ?_
     obtain ⟨v15,q24,h⟩:=bs h
     refine rg j0<|u<|mv j0<|u<|mv j0<|u<|mv j0<|u<|pc (ref7_Hier_Chosen_ok v2 v3 v4 q24) j0 j0 j0<|u<|mv j0<|u<|ex j0 j0<|u<|ex j0 j0<|u<|asg j0<|u<|asg j0<|r_nil ?_
     refine rg j0<|u<|mv j0<|u<|mv j0<|u<|beq ti4 j0 j0 j0<|u<|mv j0<|r_and (j:=3) 3 j0 j0 j0 j0 j0 gpn (fun hb25=>g j0 hb25<|mv j0<|g j0 hb25<|mv j0<|g j0 hb25<|seq ti9 j0 j0<|r_nil (egA [164,165,166] 3 hb25 j0 j0 j0 j0)) andF<|u<|asg j0<|r_nil ?_
     refine sw_ret ?_
     obtain rfl:=sm h
     exact ⟨_,j0,[],ci j0,j0,j5,j0,j1⟩
 ·
  replace h:=oeS h
  refine rg j0<|u<|asg j0<|r_nil ?_
  obtain ⟨v16,q26,h⟩:=bs h
  refine rg j0<|u<|mv j0<|u<|mv j0<|u<|mv j0<|u<|pc (link_Field_s2_ok v5.l v5.at_ v3 v4 q26) j0 j0 j0<|u<|mv j0<|u<|ex j0 j0<|u<|ex j0 j0<|u<|ex j0 j0<|u<|al 0 ti57 j0<|u<|asg j0<|u<|sto ti57 j0 j0 j0<|u<|asg j0<|r_nil ?_
  obtain ⟨v17,q27,h⟩:=bs h
  refine rg j0<|u<|mv j0<|u<|mv j0<|u<|mv j0<|u<|pc (ref7_Hier_Field_ok v2 v3 v4 q27) j0 j0 j0<|u<|mv j0<|u<|ex j0 j0<|u<|ex j0 j0<|u<|ex j0 j0<|u<|al 1 ti57 j0<|u<|asg j0<|u<|sto ti57 j0 j0 j0<|u<|asg j0<|r_nil ?_
  refine sw_seq ?_
  refine rg j0<|u<|mv j0<|u<|mv j0<|u<|bne ti4 j0 j0 j0<|u<|mv j0<|r_or (j:=3) 3 j0 j0 j0 j0 j0 gpn (fun hb28=>g j0 hb28<|mv j0<|g j0 hb28<|mv j0<|g j0 hb28<|sne ti9 j0 j0<|r_nil (egO [37,38,39] 3 hb28 j0 j0 j0 j0)) orT<|u<|mv j0<|r_or (j:=8) 5 j0 j0 j0 j0 j0 gpn (fun hb29=>g j0 hb29<|fa ti57 j0 j0 j0<|g j0 hb29<|ld ti9 j0 j0<|g j0 hb29<|fa ti57 j0 j0 j0<|g j0 hb29<|ld ti9 j0 j0<|g j0 hb29<|sne ti9 j0 j0<|r_nil (egO [42,43,44,45,46] 5 hb29 j0 j0 j0 j0)) orT<|u<|mv j0<|r_or (j:=15) 5 j0 j0 j0 j0 j0 gpn (fun hb30=>g j0 hb30<|fa ti57 j0 j0 j0<|g j0 hb30<|ld ti9 j0 j0<|g j0 hb30<|fa ti57 j0 j0 j0<|g j0 hb30<|ld ti9 j0 j0<|g j0 hb30<|sne ti9 j0 j0<|r_nil (egO [49,50,51,52,53] 5 hb30 j0 j0 j0 j0)) orT<|u<|mv j0<|r_or (j:=22) 5 j0 j0 j0 j0 j0 gpn (fun hb31=>g j0 hb31<|fa ti57 j0 j0 j0<|g j0 hb31<|ld ti4 j0 j0<|g j0 hb31<|fa ti57 j0 j0 j0<|g j0 hb31<|ld ti4 j0 j0<|g j0 hb31<|bne ti4 j0 j0 j0<|r_nil (egO [56,57,58,59,60] 5 hb31 j0 j0 j0 j0)) orT<|r_nil ?_
  refine sw_cond j0 (fun hc32=>?_) (fun hc32=>?_)
  ·
   replace h:=bT hc32 h
   refine rg j0<|u<|asg j0<|r_nil ?_
   refine sw_ret ?_
   obtain rfl:=sm h
   exact ⟨_,j0,[],ci j0,j0,j5,j0,j1⟩
  ·
   replace h:=bF hc32 h
   refine sw_skip ?_
   obtain ⟨v18,q33,h⟩:=bs h
   refine rg j0<|u<|mv j0<|u<|mv j0<|u<|mv j0<|u<|pc (link_Method_s3_ok v5.l v5.at_ v3 v4 q33) j0 j0 j0<|u<|mv j0<|u<|ex j0 j0<|u<|ex j0 j0<|u<|ex j0 j0<|u<|al 2 ti62 j0<|u<|asg j0<|u<|sto ti62 j0 j0 j0<|u<|asg j0<|r_nil ?_
   obtain ⟨v19,q34,h⟩:=bs h
   refine rg j0<|u<|mv j0<|u<|mv j0<|u<|mv j0<|u<|pc (ref7_Hier_Method_ok v2 v3 v4 q34) j0 j0 j0<|u<|mv j0<|u<|ex j0 j0<|u<|ex j0 j0<|u<|ex j0 j0<|u<|al 3 ti62 j0<|u<|asg j0<|u<|sto ti62 j0 j0 j0<|u<|asg j0<|r_nil ?_
   refine sw_seq ?_
   obtain ⟨v21,q39,h⟩:=bs h
   refine rg j0<|u<|mv j0<|u<|mv j0<|u<|bne ti4 j0 j0 j0<|u<|mv j0<|r_or (j:=3) 3 j0 j0 j0 j0 j0 gpn (fun hb35=>g j0 hb35<|mv j0<|g j0 hb35<|mv j0<|g j0 hb35<|sne ti9 j0 j0<|r_nil (egO [82,83,84] 3 hb35 j0 j0 j0 j0)) orT<|u<|mv j0<|r_or (j:=8) 5 j0 j0 j0 j0 j0 gpn (fun hb36=>g j0 hb36<|fa ti62 j0 j0 j0<|g j0 hb36<|ld ti9 j0 j0<|g j0 hb36<|fa ti62 j0 j0 j0<|g j0 hb36<|ld ti9 j0 j0<|g j0 hb36<|sne ti9 j0 j0<|r_nil (egO [87,88,89,90,91] 5 hb36 j0 j0 j0 j0)) orT<|u<|mv j0<|r_or (x:=v21) (j:=15) 4 j0 j0 j0 j0 j0 gpn (fun hb37=>by replace q39:=bF hb37 q39; obtain ⟨v20,q38,q39⟩:=bs q39; obtain rfl:=sm q39; exact g j0 hb37<|ld ti62 j0 j0<|g j0 hb37<|ld ti62 j0 j0<|g j0 hb37<|pc (link_Alike_ok v18.2.1 v19.2.1 q38) j0 j0 j0<|g j0 hb37<|nt j0<|r_nil (eg [94,95,96,97] 4 j0 j0 j0 j0)) (fun hb=>(sm (bT hb q39)).symm)<|u<|mv j0<|r_or (j:=21) 7 j0 j0 j0 j0 j0 gpn (fun hb40=>g j0 hb40<|fa ti62 j0 j0 j0<|g j0 hb40<|ld ti58 j0 j0<|g j0 hb40<|lnI ti58 j0 j0<|g j0 hb40<|fa ti62 j0 j0 j0<|g j0 hb40<|ld ti58 j0 j0<|g j0 hb40<|lnI ti58 j0 j0<|g j0 hb40<|neq ti3 j0 j0<|r_nil (egO [100,101,102,103,104,105,106] 7 hb40 j0 j0 j0 j0)) orT<|r_nil ?_
   refine sw_cond j0 (fun hc41=>?_) (fun hc41=>?_)
   ·
    replace h:=bT hc41 h
    refine rg j0<|u<|asg j0<|r_nil ?_
    refine sw_ret ?_
    obtain rfl:=sm h
    exact ⟨_,j0,[],ci j0,j0,j5,j0,j1⟩
   ·
    replace h:=bF hc41 h
    refine sw_skip ?_
    obtain ⟨v22,q42,h⟩:=bs h
    refine rg j0<|u<|mv j0<|u<|mv j0<|u<|mv j0<|u<|pc (link_Face_s3_ok v5.l v5.at_ v3 v4 q42) j0 j0 j0<|u<|mv j0<|u<|ex j0 j0<|u<|ex j0 j0<|u<|ex j0 j0<|u<|asg j0<|u<|sto ti62 j0 j0 j0<|u<|asg j0<|r_nil ?_
    obtain ⟨v23,q43,h⟩:=bs h
    refine rg j0<|u<|mv j0<|u<|mv j0<|u<|mv j0<|u<|pc (ref7_Hier_Face_ok v2 v3 v4 q43) j0 j0 j0<|u<|mv j0<|u<|ex j0 j0<|u<|ex j0 j0<|u<|ex j0 j0<|u<|asg j0<|u<|sto ti62 j0 j0 j0<|u<|asg j0<|r_nil ?_
    refine sw_seq ?_
    refine rg j0<|u<|mv j0<|u<|mv j0<|u<|bne ti4 j0 j0 j0<|u<|mv j0<|r_or (j:=3) 3 j0 j0 j0 j0 j0 gpn (fun hb44=>g j0 hb44<|mv j0<|g j0 hb44<|mv j0<|g j0 hb44<|sne ti9 j0 j0<|r_nil (egO [128,129,130] 3 hb44 j0 j0 j0 j0)) orT<|u<|mv j0<|r_or (j:=8) 5 j0 j0 j0 j0 j0 gpn (fun hb45=>g j0 hb45<|fa ti62 j0 j0 j0<|g j0 hb45<|ld ti9 j0 j0<|g j0 hb45<|fa ti62 j0 j0 j0<|g j0 hb45<|ld ti9 j0 j0<|g j0 hb45<|sne ti9 j0 j0<|r_nil (egO [133,134,135,136,137] 5 hb45 j0 j0 j0 j0)) orT<|u<|mv j0<|r_or (j:=15) 5 j0 j0 j0 j0 j0 gpn (fun hb46=>g j0 hb46<|fa ti62 j0 j0 j0<|g j0 hb46<|ld ti9 j0 j0<|g j0 hb46<|fa ti62 j0 j0 j0<|g j0 hb46<|ld ti9 j0 j0<|g j0 hb46<|sne ti9 j0 j0<|r_nil (egO [140,141,142,143,144] 5 hb46 j0 j0 j0 j0)) orT<|r_nil ?_
    refine sw_cond j0 (fun hc47=>?_) (fun hc47=>?_)
    ·
     replace h:=bT hc47 h
     refine rg j0<|u<|asg j0<|r_nil ?_
     refine sw_ret ?_
     obtain rfl:=sm h
     exact ⟨_,j0,[],ci j0,j0,j5,j0,j1⟩
    ·
     replace h:=bF hc47 h
     refine sw_skip ?_
     obtain ⟨v24,q48,h⟩:=bs h
     refine rg j0<|u<|mv j0<|u<|mv j0<|u<|mv j0<|u<|pc (link_Chosen_s3_ok v5.l v5.at_ v3 v4 q48) j0 j0 j0<|u<|mv j0<|u<|ex j0 j0<|u<|ex j0 j0<|u<|asg j0<|u<|asg j0<|r_nil ?_
     obtain ⟨v25,q49,h⟩:=bs h
     refine rg j0<|u<|mv j0<|u<|mv j0<|u<|mv j0<|u<|pc (ref7_Hier_Chosen_ok v2 v3 v4 q49) j0 j0 j0<|u<|mv j0<|u<|ex j0 j0<|u<|ex j0 j0<|u<|asg j0<|u<|asg j0<|r_nil ?_
     refine rg j0<|u<|mv j0<|u<|mv j0<|u<|beq ti4 j0 j0 j0<|u<|mv j0<|r_and (j:=3) 3 j0 j0 j0 j0 j0 gpn (fun hb50=>g j0 hb50<|mv j0<|g j0 hb50<|mv j0<|g j0 hb50<|seq ti9 j0 j0<|r_nil (egA [164,165,166] 3 hb50 j0 j0 j0 j0)) andF<|u<|asg j0<|r_nil ?_
     refine sw_ret ?_
     obtain rfl:=sm h
     exact ⟨_,j0,[],ci j0,j0,j5,j0,j1⟩
def law8_one_s2 (v1 : List ApiClass) (v2 : List UInt8) (v3 : List UInt8) : Option (Bool) :=
  (link_Field v2 v3).bind fun v4=>(ref7_Hier_Field v1 v2 v3).bind fun v5=>cond (((((!(v4.2.2 == v5.2.2)) || (!(v4.1 == v5.1))) || (!(v4.2.1.Name == v5.2.1.Name))) || (!(v4.2.1.Type_ == v5.2.1.Type_))) || (!(v4.2.1.Static == v5.2.1.Static))) (some false) ((link_Method_s2 v2 v3).bind fun v6=>(ref7_Hier_Method v1 v2 v3).bind fun v7=>(cond (((!(v6.2.2 == v7.2.2)) || (!(v6.1 == v7.1))) || (!(v6.2.1.Name == v7.2.1.Name))) (some true) ((link_Alike v6.2.1 v7.2.1).bind fun v8=>some (!v8))).bind fun v9=>cond (v9 || (!((List.length v6.2.1.Code : Int) == (List.length v7.2.1.Code : Int)))) (some false) ((link_Face_s2 v2 v3).bind fun v10=>(ref7_Hier_Face v1 v2 v3).bind fun v11=>cond ((((!(v10.2.2 == v11.2.2)) || (!(v10.1 == v11.1))) || (!(v10.2.1.Name == v11.2.1.Name))) || (!(v10.2.1.Ret == v11.2.1.Ret))) (some false) ((link_Chosen_s2 v2 v3).bind fun v12=>(ref7_Hier_Chosen v1 v2 v3).bind fun v13=>some ((v12.2 == v13.2) && (v12.1 == v13.1)))))
theorem law8_one_s2_ok (v1 : List ApiClass) (v2 : List UInt8) (v3 : List UInt8) {r : Bool} (h : law8_one_s2 v1 v2 v3 = some r) : PureC Tryz.prog 40 [.lit (.pointer none),.ipt 1 [[.isl 6 (List.map rApiClass v1)]] 0 0,sA v2,sA v3] (bA r):=by
 refine pure_fn Tryz.func40 j0 (by kernel_rfl) j0 j0 ?_
 unfold law8_one_s2 at h
 refine rg j0<|u<|asg j0<|r_nil ?_
 obtain ⟨v4,q1,h⟩:=bs h
 refine rg j0<|u<|mv j0<|u<|mv j0<|u<|mv j0<|u<|pc (link_Field_ok v2 v3 q1) j0 j0 j0<|u<|mv j0<|u<|ex j0 j0<|u<|ex j0 j0<|u<|ex j0 j0<|u<|al 0 ti57 j0<|u<|asg j0<|u<|sto ti57 j0 j0 j0<|u<|asg j0<|r_nil ?_
 obtain ⟨v5,q2,h⟩:=bs h
 refine rg j0<|u<|mv j0<|u<|mv j0<|u<|mv j0<|u<|pc (ref7_Hier_Field_ok v1 v2 v3 q2) j0 j0 j0<|u<|mv j0<|u<|ex j0 j0<|u<|ex j0 j0<|u<|ex j0 j0<|u<|al 1 ti57 j0<|u<|asg j0<|u<|sto ti57 j0 j0 j0<|u<|asg j0<|r_nil ?_
 refine sw_seq ?_
 refine rg j0<|u<|mv j0<|u<|mv j0<|u<|bne ti4 j0 j0 j0<|u<|mv j0<|r_or (j:=3) 3 j0 j0 j0 j0 j0 gpn (fun hb3=>g j0 hb3<|mv j0<|g j0 hb3<|mv j0<|g j0 hb3<|sne ti9 j0 j0<|r_nil (egO [37,38,39] 3 hb3 j0 j0 j0 j0)) orT<|u<|mv j0<|r_or (j:=8) 5 j0 j0 j0 j0 j0 gpn (fun hb4=>g j0 hb4<|fa ti57 j0 j0 j0<|g j0 hb4<|ld ti9 j0 j0<|g j0 hb4<|fa ti57 j0 j0 j0<|g j0 hb4<|ld ti9 j0 j0<|g j0 hb4<|sne ti9 j0 j0<|r_nil (egO [42,43,44,45,46] 5 hb4 j0 j0 j0 j0)) orT<|u<|mv j0<|r_or (j:=15) 5 j0 j0 j0 j0 j0 gpn (fun hb5=>g j0 hb5<|fa ti57 j0 j0 j0<|g j0 hb5<|ld ti9 j0 j0<|g j0 hb5<|fa ti57 j0 j0 j0<|g j0 hb5<|ld ti9 j0 j0<|g j0 hb5<|sne ti9 j0 j0<|r_nil (egO [49,50,51,52,53] 5 hb5 j0 j0 j0 j0)) orT<|u<|mv j0<|r_or (j:=22) 5 j0 j0 j0 j0 j0 gpn (fun hb6=>g j0 hb6<|fa ti57 j0 j0 j0<|g j0 hb6<|ld ti4 j0 j0<|g j0 hb6<|fa ti57 j0 j0 j0<|g j0 hb6<|ld ti4 j0 j0<|g j0 hb6<|bne ti4 j0 j0 j0<|r_nil (egO [56,57,58,59,60] 5 hb6 j0 j0 j0 j0)) orT<|r_nil ?_
 refine sw_cond j0 (fun hc7=>?_) (fun hc7=>?_)
 ·
  replace h:=bT hc7 h
  refine rg j0<|u<|asg j0<|r_nil ?_
  refine sw_ret ?_
  obtain rfl:=sm h
  exact ⟨_,j0,[],ci j0,j0,j5,j0,j1⟩
 ·
  replace h:=bF hc7 h
  refine sw_skip ?_
  obtain ⟨v6,q8,h⟩:=bs h
  refine rg j0<|u<|mv j0<|u<|mv j0<|u<|mv j0<|u<|pc (link_Method_s2_ok v2 v3 q8) j0 j0 j0<|u<|mv j0<|u<|ex j0 j0<|u<|ex j0 j0<|u<|ex j0 j0<|u<|al 2 ti62 j0<|u<|asg j0<|u<|sto ti62 j0 j0 j0<|u<|asg j0<|r_nil ?_
  obtain ⟨v7,q9,h⟩:=bs h
  refine rg j0<|u<|mv j0<|u<|mv j0<|u<|mv j0<|u<|pc (ref7_Hier_Method_ok v1 v2 v3 q9) j0 j0 j0<|u<|mv j0<|u<|ex j0 j0<|u<|ex j0 j0<|u<|ex j0 j0<|u<|al 3 ti62 j0<|u<|asg j0<|u<|sto ti62 j0 j0 j0<|u<|asg j0<|r_nil ?_
  refine sw_seq ?_
  obtain ⟨v9,q14,h⟩:=bs h
  refine rg j0<|u<|mv j0<|u<|mv j0<|u<|bne ti4 j0 j0 j0<|u<|mv j0<|r_or (j:=3) 3 j0 j0 j0 j0 j0 gpn (fun hb10=>g j0 hb10<|mv j0<|g j0 hb10<|mv j0<|g j0 hb10<|sne ti9 j0 j0<|r_nil (egO [82,83,84] 3 hb10 j0 j0 j0 j0)) orT<|u<|mv j0<|r_or (j:=8) 5 j0 j0 j0 j0 j0 gpn (fun hb11=>g j0 hb11<|fa ti62 j0 j0 j0<|g j0 hb11<|ld ti9 j0 j0<|g j0 hb11<|fa ti62 j0 j0 j0<|g j0 hb11<|ld ti9 j0 j0<|g j0 hb11<|sne ti9 j0 j0<|r_nil (egO [87,88,89,90,91] 5 hb11 j0 j0 j0 j0)) orT<|u<|mv j0<|r_or (x:=v9) (j:=15) 4 j0 j0 j0 j0 j0 gpn (fun hb12=>by replace q14:=bF hb12 q14; obtain ⟨v8,q13,q14⟩:=bs q14; obtain rfl:=sm q14; exact g j0 hb12<|ld ti62 j0 j0<|g j0 hb12<|ld ti62 j0 j0<|g j0 hb12<|pc (link_Alike_ok v6.2.1 v7.2.1 q13) j0 j0 j0<|g j0 hb12<|nt j0<|r_nil (eg [94,95,96,97] 4 j0 j0 j0 j0)) (fun hb=>(sm (bT hb q14)).symm)<|u<|mv j0<|r_or (j:=21) 7 j0 j0 j0 j0 j0 gpn (fun hb15=>g j0 hb15<|fa ti62 j0 j0 j0<|g j0 hb15<|ld ti58 j0 j0<|g j0 hb15<|lnI ti58 j0 j0<|g j0 hb15<|fa ti62 j0 j0 j0<|g j0 hb15<|ld ti58 j0 j0<|g j0 hb15<|lnI ti58 j0 j0<|g j0 hb15<|neq ti3 j0 j0<|r_nil (egO [100,101,102,103,104,105,106] 7 hb15 j0 j0 j0 j0)) orT<|r_nil ?_
  refine sw_cond j0 (fun hc16=>?_) (fun hc16=>?_)
  ·
   replace h:=bT hc16 h
   refine rg j0<|u<|asg j0<|r_nil ?_
   refine sw_ret ?_
   obtain rfl:=sm h
   exact ⟨_,j0,[],ci j0,j0,j5,j0,j1⟩
  ·
   replace h:=bF hc16 h
   refine sw_skip ?_
   obtain ⟨v10,q17,h⟩:=bs h
   refine rg j0<|u<|mv j0<|u<|mv j0<|u<|mv j0<|u<|pc (link_Face_s2_ok v2 v3 q17) j0 j0 j0<|u<|mv j0<|u<|ex j0 j0<|u<|ex j0 j0<|u<|ex j0 j0<|u<|asg j0<|u<|sto ti62 j0 j0 j0<|u<|asg j0<|r_nil ?_
   obtain ⟨v11,q18,h⟩:=bs h
   refine rg j0<|u<|mv j0<|u<|mv j0<|u<|mv j0<|u<|pc (ref7_Hier_Face_ok v1 v2 v3 q18) j0 j0 j0<|u<|mv j0<|u<|ex j0 j0<|u<|ex j0 j0<|u<|ex j0 j0<|u<|asg j0<|u<|sto ti62 j0 j0 j0<|u<|asg j0<|r_nil ?_
   refine sw_seq ?_
   refine rg j0<|u<|mv j0<|u<|mv j0<|u<|bne ti4 j0 j0 j0<|u<|mv j0<|r_or (j:=3) 3 j0 j0 j0 j0 j0 gpn (fun hb19=>g j0 hb19<|mv j0<|g j0 hb19<|mv j0<|g j0 hb19<|sne ti9 j0 j0<|r_nil (egO [128,129,130] 3 hb19 j0 j0 j0 j0)) orT<|u<|mv j0<|r_or (j:=8) 5 j0 j0 j0 j0 j0 gpn (fun hb20=>g j0 hb20<|fa ti62 j0 j0 j0<|g j0 hb20<|ld ti9 j0 j0<|g j0 hb20<|fa ti62 j0 j0 j0<|g j0 hb20<|ld ti9 j0 j0<|g j0 hb20<|sne ti9 j0 j0<|r_nil (egO [133,134,135,136,137] 5 hb20 j0 j0 j0 j0)) orT<|u<|mv j0<|r_or (j:=15) 5 j0 j0 j0 j0 j0 gpn (fun hb21=>g j0 hb21<|fa ti62 j0 j0 j0<|g j0 hb21<|ld ti9 j0 j0<|g j0 hb21<|fa ti62 j0 j0 j0<|g j0 hb21<|ld ti9 j0 j0<|g j0 hb21<|sne ti9 j0 j0<|r_nil (egO [140,141,142,143,144] 5 hb21 j0 j0 j0 j0)) orT<|r_nil ?_
   refine sw_cond j0 (fun hc22=>?_) (fun hc22=>?_)
   ·
    replace h:=bT hc22 h
    refine rg j0<|u<|asg j0<|r_nil ?_
    refine sw_ret ?_
    obtain rfl:=sm h
    exact ⟨_,j0,[],ci j0,j0,j5,j0,j1⟩
   ·
    replace h:=bF hc22 h
    refine sw_skip ?_
    obtain ⟨v12,q23,h⟩:=bs h
    refine rg j0<|u<|mv j0<|u<|mv j0<|u<|mv j0<|u<|pc (link_Chosen_s2_ok v2 v3 q23) j0 j0 j0<|u<|mv j0<|u<|ex j0 j0<|u<|ex j0 j0<|u<|asg j0<|u<|asg j0<|r_nil ?_
    obtain ⟨v13,q24,h⟩:=bs h
    refine rg j0<|u<|mv j0<|u<|mv j0<|u<|mv j0<|u<|pc (ref7_Hier_Chosen_ok v1 v2 v3 q24) j0 j0 j0<|u<|mv j0<|u<|ex j0 j0<|u<|ex j0 j0<|u<|asg j0<|u<|asg j0<|r_nil ?_
    refine rg j0<|u<|mv j0<|u<|mv j0<|u<|beq ti4 j0 j0 j0<|u<|mv j0<|r_and (j:=3) 3 j0 j0 j0 j0 j0 gpn (fun hb25=>g j0 hb25<|mv j0<|g j0 hb25<|mv j0<|g j0 hb25<|seq ti9 j0 j0<|r_nil (egA [164,165,166] 3 hb25 j0 j0 j0 j0)) andF<|u<|asg j0<|r_nil ?_
    refine sw_ret ?_
    obtain rfl:=sm h
    exact ⟨_,j0,[],ci j0,j0,j5,j0,j1⟩
def law8_LinkAll_k16 (v2 : List UInt8) (v4 : (Option HierHier) × Int) (v87 : List ApiClass) : Option (Bool) :=
  (law8_one v4.1 v87 [90,122] [102]).bind fun v88=>(cond v88 ((law8_one v4.1 v87 [] v2).bind fun v89=>some v89) (some false)).bind fun v90=>(cond v90 ((law8_one_s2 [] [79,98,106,101,99,116] [102]).bind fun v91=>some v91) (some false)).bind fun v92=>some v92
def law8_LinkAll_k14 (v77 : Int) (v78 : Ref7Hier) : Option (Sum ((Option Ref7Hier) × Int) (Sum ((List ApiClass)) (Bool))) :=
  some (.inl ((some v78),(IntKind.i64.wrap (v77 + 1))))
def law8_LinkAll_l13 (v4 : (Option HierHier) × Int) (v63 : List (List UInt8)) (v77 : Int) (v78 : Ref7Hier) (v83 : Int) : Option (Sum (Int) (Sum (Unit) (Bool))) :=
  cond (decide (v83 < ((List.length v63) : Int))) ((idx v78.L v77).bind fun v84=>(idx v63 v83).bind fun v85=>(law8_one v4.1 v78.L v84.Name v85).bind fun v86=>cond (!v86) (some (.inr (.inr false))) (some (.inl (IntKind.i64.wrap (v83 + 1))))) (some (.inr (.inl ())))
def law8_LinkAll_l15 (v4 : (Option HierHier) × Int) (v63 : List (List UInt8)) (v76 : Option Ref7Hier) (v77 : Int) : Option (Sum ((Option Ref7Hier) × Int) (Sum ((List ApiClass)) (Bool))) :=
  optE v76 (none) (fun v78=>cond (decide (v77 < (List.length v78.L : Int))) ((loopP (fun z=>law8_LinkAll_l13 v4 v63 v77 v78 z) 0).bind fun o=>leave o (fun b=>law8_LinkAll_k14 v77 v78) (fun r=>some (.inr (.inr r)))) (some (.inr (.inl v78.L))))
def law8_LinkAll_k10 (v2 : List UInt8) (v4 : (Option HierHier) × Int) (v5 : (Option Ref7Hier) × Int) (v63 : List (List UInt8)) : Option (Bool) :=
  (loopP (fun z=>law8_LinkAll_l15 v4 v63 z.1 z.2) (v5.1,0)).bind fun o=>leave o (fun b=>law8_LinkAll_k16 v2 v4 b) some
def law8_LinkAll_k8 (v36 : Int) (v62 : List (List UInt8)) : Option (Sum ((List (List UInt8)) × Int) (Sum ((List (List UInt8))) (Bool))) :=
  some (.inl (v62,(IntKind.i64.wrap (v36 + 1))))
def law8_LinkAll_l7 (v3 : (List ApiClass)) (v36 : Int) (v56 : List (List UInt8)) (v57 : Int) : Option (Sum ((List (List UInt8)) × Int) (Sum ((List (List UInt8))) (Bool))) :=
  (idx v3 v36).bind fun v58=>cond (decide (v57 < (List.length v58.Methods : Int))) ((idx v3 v36).bind fun v59=>(idx v59.Methods v57).bind fun v60=>(appP 16 v56 [v60.Name]).bind fun v61=>some (.inl (v61,(IntKind.i64.wrap (v57 + 1))))) (some (.inr (.inl v56)))
def law8_LinkAll_k6 (v3 : (List ApiClass)) (v36 : Int) (v49 : List (List UInt8)) : Option (Sum ((List (List UInt8)) × Int) (Sum ((List (List UInt8))) (Bool))) :=
  (loopP (fun z=>law8_LinkAll_l7 v3 v36 z.1 z.2) (v49,0)).bind fun o=>leave o (fun b=>law8_LinkAll_k8 v36 b) (fun r=>some (.inr (.inr r)))
def law8_LinkAll_l5 (v3 : (List ApiClass)) (v36 : Int) (v43 : List (List UInt8)) (v44 : Int) : Option (Sum ((List (List UInt8)) × Int) (Sum ((List (List UInt8))) (Bool))) :=
  (idx v3 v36).bind fun v45=>cond (decide (v44 < (List.length v45.Fields : Int))) ((idx v3 v36).bind fun v46=>(idx v46.Fields v44).bind fun v47=>(appP 16 v43 [v47.Name]).bind fun v48=>some (.inl (v48,(IntKind.i64.wrap (v44 + 1))))) (some (.inr (.inl v43)))
def law8_LinkAll_l9 (v3 : (List ApiClass)) (v35 : List (List UInt8)) (v36 : Int) : Option (Sum ((List (List UInt8)) × Int) (Sum ((List (List UInt8))) (Bool))) :=
  cond (decide (v36 < (List.length v3 : Int))) ((loopP (fun z=>law8_LinkAll_l5 v3 v36 z.1 z.2) (v35,0)).bind fun o=>leave o (fun b=>law8_LinkAll_k6 v3 v36 b) (fun r=>some (.inr (.inr r)))) (some (.inr (.inl v35)))
def law8_LinkAll (v1 : List ApiClass) (v2 : List UInt8) : Option (Bool) :=
  cond (!true) (some false) ((law5_All v1).bind fun v3=>(hier_New v3).bind fun v4=>(ref7_New v3).bind fun v5=>cond ((!(v4.2 == (0 : Int))) || (Option.isNone v5.1)) (some (Option.isNone v5.1)) ((law1_Cut v2 10).bind fun v6=>(loopP (fun z=>law8_LinkAll_l9 v3 z.1 z.2) ([v6,[36,105,110,105,116],[109,97,105,110]],0)).bind fun o=>leave o (fun b=>law8_LinkAll_k10 v2 v4 v5 b) some))
theorem law8_LinkAll_ok (v1 : List ApiClass) (v2 : List UInt8) {r : Bool} (h : law8_LinkAll v1 v2 = some r) : PureC Tryz.prog 10 [.isl 6 (List.map rApiClass v1),sA v2] (bA r):=by
 refine pure_fn Tryz.func10 j0 (by kernel_rfl) j0 j0 ?_
 unfold law8_LinkAll at h
 refine rg j0<|u<|asg j0<|r_nil ?_
 refine rg j0<|u<|pc (law8_begun_ok j0) j0 j0 j0<|u<|asg j0<|r_nil ?_
 refine sw_seq ?_
 refine rg j0<|u<|mv j0<|u<|nt j0<|r_nil ?_
 refine sw_cond j0 (fun hc1=>?_) (fun hc1=>?_)
 ·
  replace h:=bT hc1 h
  refine rg j0<|u<|asg j0<|r_nil ?_
  refine sw_ret ?_
  obtain rfl:=sm h
  exact ⟨_,j0,[],ci j0,j0,j5,j0,j1⟩
 ·
  replace h:=bF hc1 h
  refine sw_skip ?_
  obtain ⟨v3,q2,h⟩:=bs h
  refine rg j0<|u<|mv j0<|u<|sc [] (law5_All_ok v1 q2) j0 j0 j0 j0 ⟨(rnI j0),j5⟩ j5<|r_can (env0:=[(1,sA v2),(20,.msl 0 0 (List.length v3))]) (st0:=[some (6,List.map rApiClass v3)]) ⟨[.old 0],ce j0 j0<|cv j0 (.msl j0)<|cn,j0,⟨⟨_,j0,rsMap (fun _=>j0)⟩,j5⟩,j0,j1⟩<|u<|asg j0<|r_nil ?_
  obtain ⟨v4,q3,h⟩:=bs h
  refine rg j0<|u<|mv j0<|r_can (env0:=[(0,.isl 6 (List.map rApiClass v3)),(1,sA v2),(22,.isl 6 (List.map rApiClass v3))]) (st0:=[]) ⟨[],cv j0 (rsSeal j0 j0 (fun _=>j0))<|ce j0 j0<|cv j0 (rsSeal j0 j0 (fun _=>j0))<|cn,j0,j5,j0,j1⟩<|u<|pc (hier_New_ok v3 q3) j0 j0 j0<|u<|mv j0<|u<|ex j0 j0<|u<|ex j0 j0<|u<|asg j0<|u<|asg j0<|r_nil ?_
  obtain ⟨v5,q4,h⟩:=bs h
  refine rg j0<|u<|mv j0<|u<|pc (ref7_New_ok v3 q4) j0 j0 j0<|u<|mv j0<|u<|ex j0 j0<|u<|ex j0 j0<|u<|asg j0<|u<|asg j0<|r_nil ?_
  refine sw_seq ?_
  refine rg j0<|u<|mv j0<|u<|neq ti26 j0 j0<|u<|mv j0<|r_or (j:=2) 2 j0 j0 j0 j0 j0 gpn (fun hb5=>g j0 hb5<|mv j0<|g j0 hb5<|eqpO ti29 j0 j0 j0<|r_nil (egO [34,35] 2 hb5 j0 j0 j0 j0)) orT<|r_nil ?_
  refine sw_cond j0 (fun hc6=>?_) (fun hc6=>?_)
  ·
   replace h:=bT hc6 h
   refine rg j0<|u<|mv j0<|u<|eqpO ti29 j0 j0 j0<|u<|asg j0<|r_nil ?_
   refine sw_ret ?_
   obtain rfl:=sm h
   exact ⟨_,j0,[],ci j0,j0,j5,j0,j1⟩
  ·
   replace h:=bF hc6 h
   refine sw_skip ?_
   obtain ⟨v6,q7,h⟩:=bs h
   refine rg j0<|u<|mv j0<|u<|pc (law1_Cut_ok v2 10 q7) j0 j0 j0<|u<|bl 0 ti32 j0 ti9 j0 (by decide) (by decide) j0 j0 j0<|u<|asg j0<|r_nil ?_
   refine sw_seq ?_
   refine rg j0<|u<|asg j0<|r_nil ?_
   obtain ⟨o,ho,h⟩:=bs h
   refine sw_lpl (X:=(List (List UInt8)) × Int) (B:=(List (List UInt8))) (R:=Bool) (fun z=>[(0,.isl 6 (List.map rApiClass v3)),(1,sA v2),(6,optP 2 rHierHier v4.1),(8,optP 1 rRef7Hier v5.1),(10,.msl 0 0 (List.length z.1)),(11,iA z.2)]) (fun z=>[some (1,List.map rStr z.1)]) (fun b=>[(1,sA v2),(6,optP 2 rHierHier v4.1),(8,optP 1 rRef7Hier v5.1),(10,.msl 0 0 (List.length b))]) (fun b=>[some (1,List.map rStr b)]) (fun r env st=>PostF Tryz.prog Tryz.f10 0 (bA r) [] env st) ho ⟨[.old 0],ce j0 j0<|ce j0 j0<|cv j0 (ci (immP (fun _=>j0)))<|cv j0 (ci (immP (fun _=>j0)))<|cv j0 (.msl j0)<|ce j0 j0<|cn,j0,⟨⟨_,j0,rsRows ⟨⟨(ci j0),j5⟩,⟨(ci j0),j5⟩,⟨(ci j0),j5⟩,j5⟩⟩,j5⟩,j0,j1⟩ ?_ ?_ ?_
   ·
    rintro ⟨v35,v36⟩ r h
    replace h : law8_LinkAll_l9 v3 v35 v36 = some r:=h
    unfold law8_LinkAll_l9 at h
    refine sw_seq ?_
    refine rg j0<|u<|mv j0<|u<|mv j0<|u<|lnI ti22 j0 j0<|u<|lss ti3 j0 j0<|r_nil ?_
    refine sw_cond j0 (fun hc29=>?_) (fun hc29=>?_)
    ·
     replace h:=bT hc29 h
     refine sw_skip ?_
     refine sw_seq ?_
     refine sw_block ?_
     refine sw_seq ?_
     refine rg j0<|u<|asg j0<|r_nil ?_
     obtain ⟨o,ho,h⟩:=bs h
     refine sw_lpl (X:=(List (List UInt8)) × Int) (B:=(List (List UInt8))) (R:=Bool) (fun z=>[(0,.isl 6 (List.map rApiClass v3)),(1,sA v2),(6,optP 2 rHierHier v4.1),(8,optP 1 rRef7Hier v5.1),(10,.msl 0 0 (List.length z.1)),(11,iA v36),(12,iA z.2)]) (fun z=>[some (1,List.map rStr z.1)]) (fun b=>[(0,.isl 6 (List.map rApiClass v3)),(1,sA v2),(6,optP 2 rHierHier v4.1),(8,optP 1 rRef7Hier v5.1),(10,.msl 0 0 (List.length b)),(11,iA v36)]) (fun b=>[some (1,List.map rStr b)]) (fun r env st=>PostF Tryz.prog Tryz.f10 0 (bA r) [] env st) ho ⟨[.old 0],ce j0 j0<|ce j0 j0<|cv j0 (ci (immP (fun _=>j0)))<|cv j0 (ci (immP (fun _=>j0)))<|cv j0 (.msl j0)<|ce j0 j0<|ce j0 j0<|cn,j0,⟨⟨_,j0,rsMap (fun _=>j0)⟩,j5⟩,j0,j1⟩ ?_ ?_ ?_
     ·
      rintro ⟨v43,v44⟩ r h
      replace h : law8_LinkAll_l5 v3 v36 v43 v44 = some r:=h
      unfold law8_LinkAll_l5 at h
      refine sw_seq ?_
      obtain ⟨v45,q35,h⟩:=bs h
      refine rg j0<|u<|mv j0<|u<|mv j0<|u<|mv j0<|u<|ixI ti22 j0 ti42 j0 j0 j0 q35<|u<|fa ti42 j0 j0 j0<|u<|ldI ti39 j0 (idx_some q35).2.2 j0<|u<|lnI ti39 j0 j0<|u<|lss ti3 j0 j0<|r_nil ?_
      refine sw_cond j0 (fun hc36=>?_) (fun hc36=>?_)
      ·
       replace h:=bT hc36 h
       refine sw_skip ?_
       refine sw_seq ?_
       refine sw_block ?_
       obtain ⟨v46,q37,h⟩:=bs h
       obtain ⟨v47,q38,h⟩:=bs h
       obtain ⟨v48,q39,h⟩:=bs h
       refine rl j0<|u<|mv j0<|u<|mv j0<|u<|mv j0<|u<|ixI ti22 j0 ti42 j0 j0 j0 q37<|u<|fa ti42 j0 j0 j0<|u<|ldI ti39 j0 (idx_some q37).2.2 j0<|u<|mv j0<|u<|ixI ti39 j0 ti57 j0 j0 j0 q38<|u<|fa ti57 j0 j0 j0<|u<|ldI ti9 j0 (idx_some q38).2.2 j0<|u<|bl 1 ti32 j0 ti9 j0 (by decide) (by decide) j0 j0 j0<|u<|apM 2 ti32 j0 ti9 j0 j0 (by decide) ti32 j0 j0 j0 j0 (roX (f:=rStr) (z:=[v47.Name]) j0 j0) (fun _=>j0) j0 q39<|u<|asg j0<|r_nil ?_
       refine rl j0<|u<|mv j0<|u<|add ti3 j0 j0<|u<|asg j0<|r_nil ?_
       obtain rfl:=sm h
       exact ⟨_,j0,[.old 2],ce j0 j0<|ce j0 j0<|cv j0 (ci (immP (fun _=>j0)))<|cv j0 (ci (immP (fun _=>j0)))<|cv j0 (.msl j0)<|ce j0 j0<|ce j0 j0<|cn,j0,⟨⟨_,j0,rsMap (fun _=>j0)⟩,j5⟩,j0,j1⟩
      ·
       replace h:=bF hc36 h
       refine sw_exit ?_
       obtain rfl:=sm h
       exact ⟨j0,_,j0,[.old 0],ce j0 j0<|ce j0 j0<|cv j0 (ci (immP (fun _=>j0)))<|cv j0 (ci (immP (fun _=>j0)))<|cv j0 (.msl j0)<|ce j0 j0<|cn,j0,⟨⟨_,j0,rsMap (fun _=>j0)⟩,j5⟩,j0,j1⟩
     ·
      rintro v49 rfl
      replace h : law8_LinkAll_k6 v3 v36 v49 = some r:=h
      unfold law8_LinkAll_k6 at h
      refine ow_intro ?_
      refine rg j0<|u<|asg j0<|r_nil ?_
      obtain ⟨o,ho,h⟩:=bs h
      refine sw_lpl (X:=(List (List UInt8)) × Int) (B:=(List (List UInt8))) (R:=Bool) (fun z=>[(0,.isl 6 (List.map rApiClass v3)),(1,sA v2),(6,optP 2 rHierHier v4.1),(8,optP 1 rRef7Hier v5.1),(10,.msl 0 0 (List.length z.1)),(11,iA v36),(13,iA z.2)]) (fun z=>[some (1,List.map rStr z.1)]) (fun b=>[(0,.isl 6 (List.map rApiClass v3)),(1,sA v2),(6,optP 2 rHierHier v4.1),(8,optP 1 rRef7Hier v5.1),(10,.msl 0 0 (List.length b)),(11,iA v36)]) (fun b=>[some (1,List.map rStr b)]) (fun r env st=>PostF Tryz.prog Tryz.f10 0 (bA r) [] env st) ho ⟨[.old 0],ce j0 j0<|ce j0 j0<|cv j0 (ci (immP (fun _=>j0)))<|cv j0 (ci (immP (fun _=>j0)))<|cv j0 (.msl j0)<|ce j0 j0<|ce j0 j0<|cn,j0,⟨⟨_,j0,rsMap (fun _=>j0)⟩,j5⟩,j0,j1⟩ ?_ ?_ ?_
      ·
       rintro ⟨v56,v57⟩ r h
       replace h : law8_LinkAll_l7 v3 v36 v56 v57 = some r:=h
       unfold law8_LinkAll_l7 at h
       refine sw_seq ?_
       obtain ⟨v58,q45,h⟩:=bs h
       refine rg j0<|u<|mv j0<|u<|mv j0<|u<|mv j0<|u<|ixI ti22 j0 ti42 j0 j0 j0 q45<|u<|fa ti42 j0 j0 j0<|u<|ldI ti40 j0 (idx_some q45).2.2 j0<|u<|lnI ti40 j0 j0<|u<|lss ti3 j0 j0<|r_nil ?_
       refine sw_cond j0 (fun hc46=>?_) (fun hc46=>?_)
       ·
        replace h:=bT hc46 h
        refine sw_skip ?_
        refine sw_seq ?_
        refine sw_block ?_
        obtain ⟨v59,q47,h⟩:=bs h
        obtain ⟨v60,q48,h⟩:=bs h
        obtain ⟨v61,q49,h⟩:=bs h
        refine rl j0<|u<|mv j0<|u<|mv j0<|u<|mv j0<|u<|ixI ti22 j0 ti42 j0 j0 j0 q47<|u<|fa ti42 j0 j0 j0<|u<|ldI ti40 j0 (idx_some q47).2.2 j0<|u<|mv j0<|u<|ixI ti40 j0 ti62 j0 j0 j0 q48<|u<|fa ti62 j0 j0 j0<|u<|ldI ti9 j0 (idx_some q48).2.2 j0<|u<|bl 1 ti32 j0 ti9 j0 (by decide) (by decide) j0 j0 j0<|u<|apM 2 ti32 j0 ti9 j0 j0 (by decide) ti32 j0 j0 j0 j0 (roX (f:=rStr) (z:=[v60.Name]) j0 j0) (fun _=>j0) j0 q49<|u<|asg j0<|r_nil ?_
        refine rl j0<|u<|mv j0<|u<|add ti3 j0 j0<|u<|asg j0<|r_nil ?_
        obtain rfl:=sm h
        exact ⟨_,j0,[.old 2],ce j0 j0<|ce j0 j0<|cv j0 (ci (immP (fun _=>j0)))<|cv j0 (ci (immP (fun _=>j0)))<|cv j0 (.msl j0)<|ce j0 j0<|ce j0 j0<|cn,j0,⟨⟨_,j0,rsMap (fun _=>j0)⟩,j5⟩,j0,j1⟩
       ·
        replace h:=bF hc46 h
        refine sw_exit ?_
        obtain rfl:=sm h
        exact ⟨j0,_,j0,[.old 0],ce j0 j0<|ce j0 j0<|cv j0 (ci (immP (fun _=>j0)))<|cv j0 (ci (immP (fun _=>j0)))<|cv j0 (.msl j0)<|ce j0 j0<|cn,j0,⟨⟨_,j0,rsMap (fun _=>j0)⟩,j5⟩,j0,j1⟩
      ·
       rintro v62 rfl
       replace h : law8_LinkAll_k8 v36 v62 = some r:=h
       unfold law8_LinkAll_k8 at h
       refine ow_intro ?_
       refine rl j0<|u<|mv j0<|u<|add ti3 j0 j0<|u<|asg j0<|r_nil ?_
       obtain rfl:=sm h
       exact ⟨_,j0,[.old 0],ce j0 j0<|ce j0 j0<|cv j0 (ci (immP (fun _=>j0)))<|cv j0 (ci (immP (fun _=>j0)))<|cv j0 (.msl j0)<|ce j0 j0<|cn,j0,⟨⟨_,j0,rsMap (fun _=>j0)⟩,j5⟩,j0,j1⟩
      ·
       rintro r' rfl env st hp
       obtain rfl:=sm h
       exact ⟨_,j0,hp⟩
     ·
      rintro r' rfl env st hp
      obtain rfl:=sm h
      exact ⟨_,j0,hp⟩
    ·
     replace h:=bF hc29 h
     refine sw_exit ?_
     obtain rfl:=sm h
     exact ⟨j0,_,j0,[.old 0],ce j0 j0<|cv j0 (ci (immP (fun _=>j0)))<|cv j0 (ci (immP (fun _=>j0)))<|cv j0 (.msl j0)<|cn,j0,⟨⟨_,j0,rsMap (fun _=>j0)⟩,j5⟩,j0,j1⟩
   ·
    rintro v63 rfl
    replace h : law8_LinkAll_k10 v2 v4 v5 v63 = some r:=h
    unfold law8_LinkAll_k10 at h
    refine ow_intro ?_
    refine sw_seq ?_
    refine rg j0<|u<|asg j0<|r_nil ?_
    obtain ⟨o,ho,h⟩:=bs h
    refine sw_lpl (X:=(Option Ref7Hier) × Int) (B:=(List ApiClass)) (R:=Bool) (fun z=>[(1,sA v2),(6,optP 2 rHierHier v4.1),(8,optP 1 rRef7Hier z.1),(10,.msl 0 0 (List.length v63)),(14,iA z.2)]) (fun z=>[some (1,List.map rStr v63)]) (fun b=>[(1,sA v2),(6,optP 2 rHierHier v4.1),(8,.ipt 1 [[.isl 6 (List.map rApiClass b)]] 0 0)]) (fun b=>[]) (fun r env st=>PostF Tryz.prog Tryz.f10 0 (bA r) [] env st) ho ⟨[.old 0],ce j0 j0<|cv j0 (ci (immP (fun _=>j0)))<|cv j0 (ci (immP (fun _=>j0)))<|cv j0 (.msl j0)<|ce j0 j0<|cn,j0,⟨⟨_,j0,rsMap (fun _=>j0)⟩,j5⟩,j0,j1⟩ ?_ ?_ ?_
    ·
     rintro ⟨v76,v77⟩ r h
     replace h : law8_LinkAll_l15 v4 v63 v76 v77 = some r:=h
     unfold law8_LinkAll_l15 at h
     refine sw_seq ?_
     refine rg j0<|u<|mv j0<|u<|mv j0<|?_
     rcases v76 with _ | v78
     ·
      replace h:=oeN h
      cases h
     ·
      replace h:=oeS h
      refine u<|nc j0 j0<|u<|fa ti51 j0 j0 j0<|u<|ld ti22 j0 j0<|u<|lnI ti22 j0 j0<|u<|lss ti3 j0 j0<|r_nil ?_
      refine sw_cond j0 (fun hc61=>?_) (fun hc61=>?_)
      ·
       replace h:=bT hc61 h
       refine sw_skip ?_
       refine sw_seq ?_
       refine sw_block ?_
       refine rg j0<|u<|asg j0<|r_nil ?_
       obtain ⟨o,ho,h⟩:=bs h
       refine sw_lpl (X:=Int) (B:=Unit) (R:=Bool) (fun z=>[(1,sA v2),(6,optP 2 rHierHier v4.1),(8,.ipt 1 [[.isl 6 (List.map rApiClass v78.L)]] 0 0),(10,.msl 0 0 (List.length v63)),(14,iA v77),(15,iA z)]) (fun z=>[some (1,List.map rStr v63)]) (fun b=>[(1,sA v2),(6,optP 2 rHierHier v4.1),(8,.ipt 1 [[.isl 6 (List.map rApiClass v78.L)]] 0 0),(10,.msl 0 0 (List.length v63)),(14,iA v77)]) (fun b=>[some (1,List.map rStr v63)]) (fun r env st=>PostF Tryz.prog Tryz.f10 0 (bA r) [] env st) ho ⟨[.old 0],ce j0 j0<|cv j0 (ci (immP (fun _=>j0)))<|ce j0 j0<|cv j0 (.msl j0)<|ce j0 j0<|ce j0 j0<|cn,j0,⟨⟨_,j0,rsMap (fun _=>j0)⟩,j5⟩,j0,j1⟩ ?_ ?_ ?_
       ·
        rintro v83 r h
        replace h : law8_LinkAll_l13 v4 v63 v77 v78 v83 = some r:=h
        unfold law8_LinkAll_l13 at h
        refine sw_seq ?_
        refine rg j0<|u<|mv j0<|u<|mv j0<|u<|lnM ti32 j0 j0 j0<|u<|lss ti3 j0 j0<|r_nil ?_
        refine sw_cond j0 (fun hc67=>?_) (fun hc67=>?_)
        ·
         replace h:=bT hc67 h
         refine sw_skip ?_
         refine sw_seq ?_
         refine sw_block ?_
         obtain ⟨v84,q68,h⟩:=bs h
         obtain ⟨v85,q69,h⟩:=bs h
         obtain ⟨v86,q70,h⟩:=bs h
         refine rd [(1,sA v2),(6,optP 2 rHierHier v4.1),(8,.ipt 1 [[.isl 6 (List.map rApiClass v78.L)]] 0 0),(10,.msl 0 0 (List.length v63)),(14,iA v77),(15,iA v83),(122,bA (!v86))] [some (1,List.map rStr v63)] [] [15,14,13,12,11,10,9,8,7,6,5,4,3,2,1,0] [(122,bA (!v86)),(121,bA v86),(120,sA v85),(119,.mpt 0 (Int.toNat v83) 0),(118,iA v83),(117,.msl 0 0 (List.length v63)),(116,sA v84.Name),(115,.ipt 6 (List.map rApiClass v78.L) (Int.toNat v77) 0),(114,.ipt 6 (List.map rApiClass v78.L) (Int.toNat v77) 0),(113,iA v77),(112,.isl 6 (List.map rApiClass v78.L)),(111,.ipt 1 [[.isl 6 (List.map rApiClass v78.L)]] 0 0),(110,.ipt 1 [[.isl 6 (List.map rApiClass v78.L)]] 0 0),(109,.ipt 1 [[.isl 6 (List.map rApiClass v78.L)]] 0 0),(108,.ipt 1 [[.isl 6 (List.map rApiClass v78.L)]] 0 0),(107,optP 2 rHierHier v4.1)] 0 (by kernel_rfl) (by kernel_rfl) j0 (by kernel_rfl) (dt0 ⟨(fun _=>pa j0 j0 j0 j0 (nt j0<|j4)),(fun _=>pa j0 j0 j0 j0 (pc (law8_one_ok v4.1 v78.L v84.Name v85 q70) j0 j0 (immC (immP (fun _=>j0)) (j0))<|j4)),(fun _=>pa j0 j0 j0 j0 (ldM ti9 j0 j0 (idx_some q69).2.2 j0<|j4)),(fun _=>pa j0 j0 j0 j0 (ixM ti32 j0 ti9 j0 j0 j0 j0 q69<|j4)),(fun _=>pa j0 j0 j0 j0 (mv j0<|j4)),(fun _=>pa j0 j0 j0 j0 (mv j0<|j4)),(fun _=>pa j0 j0 j0 j0 (ldI ti9 j0 (idx_some q68).2.2 j0<|j4)),(fun _=>pa j0 j0 j0 j0 (fa ti42 j0 j0 j0<|j4)),(fun _=>pa j0 j0 j0 j0 (ixI ti22 j0 ti42 j0 j0 j0 q68<|j4)),(fun _=>pa j0 j0 j0 j0 (mv j0<|j4)),(fun _=>pa j0 j0 j0 j0 (ld ti22 j0 j0<|j4)),(fun _=>pa j0 j0 j0 j0 (fa ti51 j0 j0 j0<|j4)),(fun _=>pa j0 j0 j0 j0 (nc j0 j0<|j4)),(fun _=>pa j0 j0 j0 j0 (mv j0<|j4)),(fun _=>pa j0 j0 j0 j0 (mv j0<|j4)),(fun _=>pa j0 j0 j0 j0 (mv j0<|j4)),j5⟩ (by kernel_rfl) j0 ⟨[.old 0],ce j0 j0<|cv j0 (ci (immP (fun _=>j0)))<|ce j0 j0<|cv j0 (.msl j0)<|ce j0 j0<|ce j0 j0<|ce j0 j0<|cn,j0,⟨⟨_,j0,rsMap (fun _=>j0)⟩,j5⟩,j0,j1⟩) ?_
         refine sw_cond j0 (fun hc71=>?_) (fun hc71=>?_)
         ·
          replace h:=bT hc71 h
          refine rg j0<|u<|asg j0<|r_nil ?_
          refine sw_ret ?_
          obtain rfl:=sm h
          exact ⟨_,j0,_,j0,[],ci j0,j0,j5,j0,j1⟩
         ·
          replace h:=bF hc71 h
          refine sw_skip ?_
          refine rl j0<|u<|mv j0<|u<|add ti3 j0 j0<|u<|asg j0<|r_nil ?_
          obtain rfl:=sm h
          exact ⟨_,j0,[.old 0],ce j0 j0<|cv j0 (ci (immP (fun _=>j0)))<|ce j0 j0<|cv j0 (.msl j0)<|ce j0 j0<|ce j0 j0<|cn,j0,⟨⟨_,j0,rsMap (fun _=>j0)⟩,j5⟩,j0,j1⟩
        ·
         replace h:=bF hc67 h
         refine sw_exit ?_
         obtain rfl:=sm h
         exact ⟨j0,_,j0,[.old 0],ce j0 j0<|cv j0 (ci (immP (fun _=>j0)))<|ce j0 j0<|cv j0 (.msl j0)<|ce j0 j0<|cn,j0,⟨⟨_,j0,rsMap (fun _=>j0)⟩,j5⟩,j0,j1⟩
       ·
        rintro ⟨⟩ rfl
        replace h : law8_LinkAll_k14 v77 v78 = some r:=h
        unfold law8_LinkAll_k14 at h
        refine ow_intro ?_
        refine rl j0<|u<|mv j0<|u<|add ti3 j0 j0<|u<|asg j0<|r_nil ?_
        obtain rfl:=sm h
        exact ⟨_,j0,[.old 0],ce j0 j0<|cv j0 (ci (immP (fun _=>j0)))<|ce j0 j0<|cv j0 (.msl j0)<|ce j0 j0<|cn,j0,⟨⟨_,j0,rsMap (fun _=>j0)⟩,j5⟩,j0,j1⟩
       ·
        rintro r' rfl env st hp
        obtain rfl:=sm h
        exact ⟨_,j0,hp⟩
      ·
       replace h:=bF hc61 h
       refine sw_exit ?_
       obtain rfl:=sm h
       exact ⟨j0,_,j0,[],ce j0 j0<|cv j0 (ci (immP (fun _=>j0)))<|ce j0 j0<|cn,j0,j5,j0,j1⟩
    ·
     rintro v87 rfl
     replace h : law8_LinkAll_k16 v2 v4 v87 = some r:=h
     unfold law8_LinkAll_k16 at h
     refine ow_intro ?_
     obtain ⟨v88,q72,h⟩:=bs h
     obtain ⟨v90,q75,h⟩:=bs h
     obtain ⟨v92,q78,h⟩:=bs h
     refine rg j0<|u<|mv j0<|u<|mv j0<|u<|pc (law8_one_ok v4.1 v87 [90,122] [102] q72) j0 j0 (immC (immP (fun _=>j0)) (j0))<|u<|mv j0<|r_and (x:=v90) (j:=3) 4 j0 j0 j0 j0 j0 gpn (fun hb73=>by replace q75:=bT hb73 q75; obtain ⟨v89,q74,q75⟩:=bs q75; obtain rfl:=sm q75; exact g j0 hb73<|mv j0<|g j0 hb73<|mv j0<|g j0 hb73<|mv j0<|g j0 hb73<|pc (law8_one_ok v4.1 v87 [] v2 q74) j0 j0 (immC (immP (fun _=>j0)) (j0))<|r_nil (eg [127,128,129,130] 4 j0 j0 j0 j0)) (fun hb=>(sm (bF hb q75)).symm)<|u<|mv j0<|r_andX (x:=v92) (j:=9) 3 1 j0 j0 j0 j0 j0 gpn (fun hb76=>by replace q78:=bT hb76 q78; obtain ⟨v91,q77,q78⟩:=bs q78; obtain rfl:=sm q78; exact g j0 hb76<|bd ti51 j0 j0 j0<|g j0 hb76<|bx 0 1 j0 j0 j0 j0<|g j0 hb76<|pcs (law8_one_s2_ok [] [79,98,106,101,99,116] [102] q77) j0 j0 (.cons (si j0) (.cons (sealBox j0 ⟨(.nil),j5⟩) (.cons (si j0) (.cons (si j0) .nil)))) plainB<|r_nil (xg [133,134,135] 3 j0 j0 j0 j0 j0 j0)) (fun hb=>(sm (bF hb q78)).symm)<|u<|asg j0<|r_nil ?_
     refine sw_ret ?_
     obtain rfl:=sm h
     exact ⟨_,j0,[],ci j0,j0,j5,j0,j1⟩
    ·
     rintro r' rfl env st hp
     obtain rfl:=sm h
     exact hp
   ·
    rintro r' rfl env st hp
    obtain rfl:=sm h
    exact hp
end
end Go.Proofs.YtooagifeniibcaaGreat
namespace Go.Proofs.YtooagifeniibcaaGreat
set_option linter.unusedSimpArgs false
set_option linter.unusedVariables false
theorem same_loop {body : Int → Option (Sum Int (Sum Unit Bool))} {a b : List (List UInt8)} (hl : a.length ≤ 1000000) (hn : a.length = b.length)
    (hb : ∀ (i : Nat) x y, a[i]? = some x → b[i]? = some y → body (i : Int) = cond (!(x == y)) (some (.inr (.inr false))) (some (.inl (IntKind.i64.wrap ((i : Int) + 1)))))
    (he : body (a.length : Int) = some (.inr (.inl ()))) : loopP body 0 = some (cond (a == b) (.inl ()) (.inr false)) := by
  have key : ∀ (r s pre pre' : List (List UInt8)), pre.length = pre'.length → a = pre ++ r → b = pre' ++ s → loopP body (pre.length : Int) = some (cond (r == s) (.inl ()) (.inr false)) := by
    intro r
    induction r with
    | nil =>
      intro s pre pre' hp h1 h2
      have : s = [] := by
        have : a.length = pre.length := by rw [h1]; simp
        have : b.length = pre'.length + s.length := by rw [h2]; simp
        exact List.eq_nil_of_length_eq_zero (by omega)
      subst this
      rw [List.append_nil] at h1
      subst h1
      rw [loopP_eq, he]
      rfl
    | cons x r ih =>
      intro s pre pre' hp h1 h2
      have hlen : a.length = pre.length + (r.length + 1) := by rw [h1]; simp
      have hlen2 : b.length = pre'.length + s.length := by rw [h2]; simp
      cases s with
      | nil => simp at hlen2; omega
      | cons y s =>
        have hx : a[pre.length]? = some x := by rw [h1]; simp
        have hy : b[pre.length]? = some y := by rw [h2, hp]; simp
        rw [loopP_eq, hb _ x y hx hy]
        rw [show ((x :: r) == (y :: s)) = ((x == y) && (r == s)) from rfl]
        cases x == y with
        | false => rfl
        | true =>
          rw [wrap_succ (by omega)]
          have := ih s (pre ++ [x]) (pre' ++ [y]) (by simp [hp]) (by rw [h1]; simp) (by rw [h2]; simp)
          rw [show (pre ++ [x]).length = pre.length + 1 by simp] at this
          exact this
  exact key a b [] [] rfl rfl rfl
theorem hereL {α : Type} {l : List α} {i : Nat} {x : α} (h : l[i]? = some x) : decide ((i : Int) < (l.length : Int)) = true :=
  decide_eq_true (by have := (List.getElem?_eq_some_iff.1 h).1; omega)
theorem pastL {α : Type} {l : List α} : decide ((l.length : Int) < (l.length : Int)) = false := decide_eq_false (by omega)
theorem ne_len {a b : List (List UInt8)} (h : a.length ≠ b.length) : (a == b) = false := by
  refine beq_eq_false_iff_ne.2 fun e => h (by rw [e])
theorem slices_Equal_eq {a b : List (List UInt8)} (h : a.length ≤ 1000000) : slices_Equal_string_string a b = some (a == b) := by
  unfold slices_Equal_string_string
  by_cases hl : a.length = b.length
  · have e : ((a.length : Int) == (b.length : Int)) = true := by rw [hl]; exact beq_self_eq_true _
    rw [e, show loopP (fun z => slices_Equal_string_string_l1 a b z) 0 = _ from same_loop h hl (fun i x y hx hy => by
      unfold slices_Equal_string_string_l1
      rw [hereL hx, idx_nat, hx, idx_nat, hy]; rfl) (by unfold slices_Equal_string_string_l1; rw [pastL]; rfl)]
    cases a == b <;> rfl
  · have e : ((a.length : Int) == (b.length : Int)) = false := beq_eq_false_iff_ne.2 (by omega)
    rw [e, ne_len hl]; rfl
end Go.Proofs.YtooagifeniibcaaGreat
namespace Go.Proofs.YtooagifeniibcaaGreat
set_option linter.unusedSimpArgs false
set_option linter.unusedVariables false
theorem idx_ixF {α : Type} (p : α → Bool) (l : List α) : idx l (ixF p 0 l) = l.find? p := by
  rcases ixF_get p l 0 with ⟨j, x, h1, h2, h3, h4⟩ | ⟨h1, h2⟩
  · rw [h1, h4, idx_nat, Nat.zero_add, h2]
  · rw [h1, h2]; rfl
theorem ixF_some {α : Type} (p : α → Bool) (l : List α) : decide (0 ≤ ixF p 0 l) = (l.find? p).isSome := by
  rw [ixF_any, Bool.eq_iff_iff, List.any_eq_true, List.find?_isSome]
theorem findSome_ext {α β : Type} {f g : α → Option β} : ∀ {l : List α}, (∀ x ∈ l, f x = g x) → l.findSome? f = l.findSome? g
  | [], _ => rfl
  | x :: l, h => by
    rw [List.findSome?_cons, List.findSome?_cons, h x (by simp), findSome_ext fun y hy => h y (by simp [hy])]
def zF : ApiField := ApiField.mk [] [] false
def zM : ApiMethod := ApiMethod.mk [] [] [] false false 0 0 [] [] []
abbrev FR := List UInt8 × ApiField × Bool
abbrev MR := List UInt8 × ApiMethod × Bool
def fldG (L : List ApiClass) (n s : Tx) : Option FR := match cl L s with | some x => (match x.Fields.find? (fun y => y.Name == n) with | some f => some (s, f, true) | none => none) | none => none
def metG (L : List ApiClass) (may : ApiMethod → Bool) (n s : Tx) : Option MR := match cl L s with | some x => (match x.Methods.find? (fun y => y.Name == n) with | some f => cond (may f) (some (s, f, true)) none | none => none) | none => none
theorem leave_ends {R : Type} (o : Option R) (z : R) : (some (ends () o) : Option (Sum Unit R)).bind (fun o => leave o (fun _ => some z) some) = some (o.getD z) := by cases o <;> rfl
section
variable {l L : List ApiClass} {m : List (Tx × Int)}
theorem class3_eq (hm : MapOk L m) (n : Tx) : hier_Hier_Class_s3 L m n = some (match cl L n with | some c => (c, true) | none => (zC, false)) := class_eq hm n
def Lens (L : List ApiClass) : Prop := ∀ c ∈ L, LenL c.Fields ∧ LenL c.Methods
theorem lens_of (h : ∀ c ∈ L, FClass c) : Lens L := fun c hc => ⟨(h c hc).fields.le, (h c hc).methods.le⟩
theorem field_eq (h : Made l L) (hm : MapOk L m) (hL : Lens L) (c n : Tx) : link_Field_s2 L m c n = some (((supL L c).findSome? (fldG L n)).getD ([], zF, false)) := by
  have h26 := supL_len h c
  unfold link_Field_s2
  rw [supers_eq h hm]
  simp only [Option.bind_some]
  rw [show loopP (fun z => link_Field_s2_l1 L m n (supL L c) z) 0 = some (ends () ((supL L c).findSome? (fldG L n))) from loop_list (fun i s hs => by
    have hi := (List.getElem?_eq_some_iff.1 hs).1
    obtain ⟨x, hx⟩ := has_cl (sup_mem h _ c s (List.mem_of_getElem? hs)).1
    show link_Field_s2_l1 L m n (supL L c) (i : Int) = _
    unfold link_Field_s2_l1
    rw [here hs, idx_nat, hs]
    simp only [cond_true, Option.bind_some]
    rw [class3_eq hm, hx]
    simp only [Option.bind_some]
    rw [class_Field_eq (hL x (cl_name hx).1).1]
    simp only [Option.bind_some]
    rw [ixF_some, idx_ixF, wrap_succ (by omega)]
    unfold fldG
    rw [hx]
    show _ = some (asks i (match x.Fields.find? (fun y => y.Name == n) with | some f => some (s, f, true) | none => none))
    cases x.Fields.find? (fun y => y.Name == n) <;> rfl) (by
    show link_Field_s2_l1 L m n (supL L c) ((supL L c).length : Int) = _
    unfold link_Field_s2_l1
    rw [past]; rfl)]
  exact leave_ends _ _
theorem ref_field_eq (h : Made l L) (hL : Lens L) (c n : Tx) : ref7_Hier_Field L c n = some (((supL L c).findSome? (fldG L n)).getD ([], zF, false)) := by
  have h26 := supL_len h c
  have hl := h.len
  unfold ref7_Hier_Field
  rw [ref_supers_eq h]
  simp only [Option.bind_some]
  rw [show loopP (fun z => ref7_Hier_Field_l1 L n (supL L c) z) 0 = some (ends () ((supL L c).findSome? (fldG L n))) from loop_list (fun i s hs => by
    have hi := (List.getElem?_eq_some_iff.1 hs).1
    obtain ⟨x, hx⟩ := has_cl (sup_mem h _ c s (List.mem_of_getElem? hs)).1
    show ref7_Hier_Field_l1 L n (supL L c) (i : Int) = _
    unfold ref7_Hier_Field_l1
    rw [here hs, idx_nat, hs]
    simp only [cond_true, Option.bind_some]
    rw [at_eq (by omega)]
    simp only [Option.bind_some]
    rw [idx_ati hx]
    simp only [Option.bind_some]
    rw [ref3_Field_eq (hL x (cl_name hx).1).1]
    simp only [Option.bind_some]
    rw [ixF_some, idx_ixF, wrap_succ (by omega)]
    unfold fldG
    rw [hx]
    show _ = some (asks i (match x.Fields.find? (fun y => y.Name == n) with | some f => some (s, f, true) | none => none))
    cases x.Fields.find? (fun y => y.Name == n) <;> rfl) (by
    show ref7_Hier_Field_l1 L n (supL L c) ((supL L c).length : Int) = _
    unfold ref7_Hier_Field_l1
    rw [past]; rfl)]
  exact leave_ends _ _
theorem met_step (h : Made l L) (hm : MapOk L m) (hL : Lens L) {may : ApiMethod → Bool} {T : List Tx} (hT : T.length ≤ 1000) (n : Tx) {body : Int → Option (Sum Int (Sum Unit MR))}
    (hT2 : ∀ s ∈ T, hasN L s = true)
    (hb : ∀ (i : Nat) s x, T[i]? = some s → cl L s = some x → body (i : Int) = ((class_Method x n).bind fun v15 => (cond (decide (0 ≤ v15)) ((idx x.Methods v15).bind fun v16 => some (may v16)) (some false)).bind fun v17 => cond v17 ((idx x.Methods v15).bind fun v18 => some (.inr (.inr (s, v18, true)))) (some (.inl (IntKind.i64.wrap ((i : Int) + 1))))))
    (he : body (T.length : Int) = some (.inr (.inl ()))) : loopP body 0 = some (ends () (T.findSome? (metG L may n))) := by
  refine loop_list (fun i s hs => ?_) he
  have hi := (List.getElem?_eq_some_iff.1 hs).1
  obtain ⟨x, hx⟩ := has_cl (hT2 s (List.mem_of_getElem? hs))
  rw [hb i s x hs hx, class_Method_eq (hL x (cl_name hx).1).2]
  simp only [Option.bind_some]
  rw [ixF_some, idx_ixF, wrap_succ (by omega)]
  unfold metG
  rw [hx]
  show _ = some (asks i (match x.Methods.find? (fun y => y.Name == n) with | some f => cond (may f) (some (s, f, true)) none | none => none))
  cases x.Methods.find? (fun y => y.Name == n) with
  | none => rfl
  | some f =>
    simp only [Option.isSome_some, cond_true, Option.bind_some]
    cases may f <;> rfl
theorem find4_eq (h : Made l L) (hm : MapOk L m) (hL : Lens L) {T : List Tx} (hT : T.length ≤ 1000) (hT2 : ∀ s ∈ T, hasN L s = true) (n : Tx) : link_find_s4 L m T n = some ((T.findSome? (metG L link_Method_1 n)).getD ([], zM, false)) := by
  unfold link_find_s4
  rw [show loopP (fun z => link_find_s4_l1 L m T n z) 0 = some (ends () (T.findSome? (metG L link_Method_1 n))) from met_step h hm hL hT n hT2 (fun i s x hs hx => by
    show link_find_s4_l1 L m T n (i : Int) = _
    unfold link_find_s4_l1
    rw [here hs, idx_nat, hs]
    simp only [cond_true, Option.bind_some]
    rw [class3_eq hm, hx]; rfl) (by
    show link_find_s4_l1 L m T n (T.length : Int) = _
    unfold link_find_s4_l1
    rw [past]; rfl)]
  exact leave_ends _ _
theorem find6_eq (h : Made l L) (hm : MapOk L m) (hL : Lens L) {T : List Tx} (hT : T.length ≤ 1000) (hT2 : ∀ s ∈ T, hasN L s = true) (n : Tx) : link_find_s6 L m T n = some ((T.findSome? (metG L link_Face_1 n)).getD ([], zM, false)) := by
  unfold link_find_s6
  rw [show loopP (fun z => link_find_s6_l1 L m T n z) 0 = some (ends () (T.findSome? (metG L link_Face_1 n))) from met_step h hm hL hT n hT2 (fun i s x hs hx => by
    show link_find_s6_l1 L m T n (i : Int) = _
    unfold link_find_s6_l1
    rw [here hs, idx_nat, hs]
    simp only [cond_true, Option.bind_some]
    rw [class3_eq hm, hx]; rfl) (by
    show link_find_s6_l1 L m T n (T.length : Int) = _
    unfold link_find_s6_l1
    rw [past]; rfl)]
  exact leave_ends _ _
theorem find2_eq (h : Made l L) (hm : MapOk L m) (hL : Lens L) {T : List Tx} (hT : T.length ≤ 1000) (hT2 : ∀ s ∈ T, hasN L s = true) (n : Tx) : link_find_s2 L m T n = some ((T.findSome? (metG L link_Chosen_1 n)).getD ([], zM, false)) := by
  unfold link_find_s2
  rw [show loopP (fun z => link_find_s2_l1 L m T n z) 0 = some (ends () (T.findSome? (metG L link_Chosen_1 n))) from met_step h hm hL hT n hT2 (fun i s x hs hx => by
    show link_find_s2_l1 L m T n (i : Int) = _
    unfold link_find_s2_l1
    rw [here hs, idx_nat, hs]
    simp only [cond_true, Option.bind_some]
    rw [class3_eq hm, hx]; rfl) (by
    show link_find_s2_l1 L m T n (T.length : Int) = _
    unfold link_find_s2_l1
    rw [past]; rfl)]
  exact leave_ends _ _
theorem supL_hasN (h : Made l L) (c : Tx) : ∀ s ∈ supL L c, hasN L s = true := fun s hs => (sup_mem h _ c s hs).1
theorem method_eq (h : Made l L) (hm : MapOk L m) (hL : Lens L) (c n : Tx) : link_Method_s3 L m c n = some (((supL L c).findSome? (metG L link_Method_1 n)).getD ([], zM, false)) := by
  have h26 := supL_len h c
  unfold link_Method_s3
  rw [supers_eq h hm]
  simp only [Option.bind_some]
  rw [find4_eq h hm hL (by omega) (supL_hasN h c)]; rfl
theorem ref_method_eq (h : Made l L) (hL : Lens L) (c n : Tx) : ref7_Hier_Method L c n = some (((supL L c).findSome? (metG L link_Method_1 n)).getD ([], zM, false)) := by
  have h26 := supL_len h c
  have hl := h.len
  unfold ref7_Hier_Method
  rw [ref_supers_eq h]
  simp only [Option.bind_some]
  rw [show loopP (fun z => ref7_Hier_Method_l1 L n (supL L c) z) 0 = some (ends () ((supL L c).findSome? (metG L link_Method_1 n))) from loop_list (fun i s hs => by
    have hi := (List.getElem?_eq_some_iff.1 hs).1
    obtain ⟨x, hx⟩ := has_cl (supL_hasN h c s (List.mem_of_getElem? hs))
    show ref7_Hier_Method_l1 L n (supL L c) (i : Int) = _
    unfold ref7_Hier_Method_l1
    rw [here hs, idx_nat, hs]
    simp only [cond_true, Option.bind_some]
    rw [at_eq (by omega)]
    simp only [Option.bind_some]
    rw [idx_ati hx]
    simp only [Option.bind_some]
    rw [ref3_Method_eq (hL x (cl_name hx).1).2]
    simp only [Option.bind_some]
    rw [ixF_some, idx_ixF, wrap_succ (by omega)]
    unfold metG
    rw [hx]
    show _ = some (asks i (match x.Methods.find? (fun y => y.Name == n) with | some f => cond (link_Method_1 f) (some (s, f, true)) none | none => none))
    cases hf : x.Methods.find? (fun y => y.Name == n) with
    | none => rfl
    | some f =>
      have e : f.Name = n := by have := List.find?_some hf; simpa using this
      simp only [link_Method_1, Option.isSome_some, Bool.true_and, Option.bind_some, e]
      cases (n == [36, 105, 110, 105, 116]) <;> rfl) (by
    show ref7_Hier_Method_l1 L n (supL L c) ((supL L c).length : Int) = _
    unfold ref7_Hier_Method_l1
    rw [past]; rfl)]
  exact leave_ends _ _
noncomputable def faceN (L : List ApiClass) (c n : Tx) : MR := cond (isF L c) (((c :: facesL L c).findSome? (metG L link_Face_1 n)).getD ([], zM, false)) ([], zM, false)
theorem isF_has {c : Tx} (h : isF L c = true) : hasN L c = true := by
  unfold isF at h
  cases hc : cl L c with
  | none => rw [hc] at h; cases h
  | some x => exact has_of hc
theorem face_eq (h : Made l L) (hm : MapOk L m) (hL : Lens L) (c n : Tx) : link_Face_s3 L m c n = some (faceN L c n) := by
  have h52 := faces_len h c
  unfold link_Face_s3 faceN
  rw [class3_eq hm]
  have e : isF L c = (match cl L c with | some c => (c, true) | none => (zC, false)).1.Interface := by
    unfold isF
    cases cl L c <;> rfl
  cases hF : isF L c with
  | false =>
    rw [hF] at e
    simp only [Option.bind_some]
    rw [← e]; rfl
  | true =>
    rw [hF] at e
    simp only [Option.bind_some]
    rw [← e]
    simp only [Bool.not_true, cond_false]
    rw [faces3_eq h hm]
    simp only [Option.bind_some]
    rw [appP_ok (by simp; omega) (by simp; omega)]
    simp only [Option.bind_some]
    rw [find6_eq h hm hL (by simp; omega) (fun s hs => by
      rcases List.mem_cons.1 (show s ∈ c :: facesL L c from hs) with e | e
      · rw [e]; exact isF_has hF
      · exact facesL_in h e)]
    rfl
theorem ref_face_eq (h : Made l L) (hL : Lens L) (c n : Tx) : ref7_Hier_Face L c n = some (faceN L c n) := by
  have h52 := faces_len h c
  have hl := h.len
  unfold ref7_Hier_Face faceN
  rw [at_eq (by omega)]
  simp only [Option.bind_some]
  rw [at_neg, idx_at]
  have e : (cond (!hasN L c) (some true) ((cl L c).bind fun v5 => some (!v5.Interface))) = some (!isF L c) := by
    unfold isF
    cases hc : cl L c with
    | none => rw [has_not hc]; rfl
    | some x => rw [has_of hc]; rfl
  rw [e]
  simp only [Option.bind_some]
  cases hF : isF L c with
  | false => rfl
  | true =>
    simp only [Bool.not_true, cond_false, cond_true]
    rw [ref_faces_eq h]
    simp only [Option.bind_some]
    rw [appP_ok (by simp; omega) (by simp; omega)]
    simp only [Option.bind_some]
    rw [show loopP (fun z => ref7_Hier_Face_l1 L n ([c] ++ facesL L c) z) 0 = some (ends () ((c :: facesL L c).findSome? (metG L link_Face_1 n))) from loop_list (l := c :: facesL L c) (fun i s hs => by
      have hi := (List.getElem?_eq_some_iff.1 hs).1
      simp only [List.length_cons] at hi
      have hsh : hasN L s = true := by
        rcases List.mem_cons.1 (List.mem_of_getElem? hs) with e | e
        · rw [e]; exact isF_has hF
        · exact facesL_in h e
      obtain ⟨x, hx⟩ := has_cl hsh
      show ref7_Hier_Face_l1 L n (c :: facesL L c) (i : Int) = _
      unfold ref7_Hier_Face_l1
      rw [here hs, idx_nat, hs]
      simp only [cond_true, Option.bind_some]
      rw [at_eq (by omega)]
      simp only [Option.bind_some]
      rw [idx_ati hx]
      simp only [Option.bind_some]
      rw [ref3_Method_eq (hL x (cl_name hx).1).2]
      simp only [Option.bind_some]
      rw [ixF_some, idx_ixF, wrap_succ (by omega)]
      unfold metG link_Face_1
      rw [hx]
      show _ = some (asks i (match x.Methods.find? (fun y => y.Name == n) with | some f => cond true (some (s, f, true)) none | none => none))
      cases x.Methods.find? (fun y => y.Name == n) <;> rfl) (by
      show ref7_Hier_Face_l1 L n (c :: facesL L c) ((c :: facesL L c).length : Int) = _
      unfold ref7_Hier_Face_l1
      rw [past]; rfl)]
    exact leave_ends _ _
theorem abstract_of (h : Made l L) {x : ApiClass} (hx : x ∈ L) {f : ApiMethod} (hf : f ∈ x.Methods) : f.Abstract = x.Interface := by
  rw [h.app] at hx
  rcases List.mem_append.1 hx with e | e
  · have hg : giv.all (fun c => decide (c.Methods.length = 0)) = true := by decide +kernel
    have := of_decide_eq_true (List.all_eq_true.1 hg x e)
    rw [List.eq_nil_of_length_eq_zero this] at hf; cases hf
  · have := h.may x e
    unfold mayG at this
    simp only [Bool.and_eq_true, Bool.not_eq_true', decide_eq_true_eq] at this
    have h2 := uB_all this.2.2.1 f hf
    rw [Bool.and_eq_true, beq_iff_eq] at h2
    exact h2.1
def chG (L : List ApiClass) (n s : Tx) : Option (List UInt8 × Bool) := match cl L s with | some x => (match x.Methods.find? (fun y => y.Name == n) with | some f => cond (!f.Static) (some (s, true)) none | none => none) | none => none
theorem chosen_eq (h : Made l L) (hm : MapOk L m) (hL : Lens L) (c n : Tx) : link_Chosen_s3 L m c n = some ((((supL L c).findSome? (metG L link_Chosen_1 n)).getD ([], zM, false)).1, (((supL L c).findSome? (metG L link_Chosen_1 n)).getD ([], zM, false)).2.2) := by
  have h26 := supL_len h c
  unfold link_Chosen_s3
  rw [supers_eq h hm]
  simp only [Option.bind_some]
  rw [find2_eq h hm hL (by omega) (supL_hasN h c)]; rfl
theorem findSome_map {α β γ : Type} {f : α → Option β} {g : β → γ} : ∀ {l : List α}, (l.findSome? f).map g = l.findSome? (fun x => (f x).map g)
  | [] => rfl
  | x :: l => by
    rw [List.findSome?_cons, List.findSome?_cons]
    cases f x with
    | some y => rfl
    | none => exact findSome_map
theorem findSome_none {α β : Type} {f : α → Option β} : ∀ {l : List α}, (∀ x ∈ l, f x = none) → l.findSome? f = none
  | [], _ => rfl
  | x :: l, h => by
    rw [List.findSome?_cons, h x (by simp)]
    exact findSome_none fun y hy => h y (by simp [hy])
theorem obj_none (h : Made l L) (may : ApiMethod → Bool) (n : Tx) : metG L may n tObj = none := by
  have e : cl L tObj = some (gC tObj []) := cl_giv h.app rfl
  unfold metG
  rw [e]; rfl
theorem sup_isF (h : Made l L) {c s : Tx} (hs : s ∈ supL L c) (hF : isF L c = false) : isF L s = false := by
  rcases (sup_mem h _ c s hs).2.2 with e | ⟨x, hx, e⟩
  · rw [e]; exact hF
  · rw [e]; exact h.superF x hx
theorem sup_face (h : Made l L) {c s : Tx} (hs : s ∈ supL L c) (hF : isF L c = true) : s = c ∨ s = tObj := by
  unfold supL at hs
  have hn := isF_has hF
  cases hd : L.length with
  | zero => rw [hd] at hs; simp [sup] at hs
  | succ d =>
    rw [hd] at hs
    unfold sup at hs
    obtain ⟨x, hx⟩ := has_cl hn
    rw [hx] at hs
    rcases List.mem_cons.1 hs with e | e
    · exact .inl e
    · right
      have hI : x.Interface = true := by unfold isF at hF; rw [hx] at hF; exact hF
      have hxS : x.Super = tObj := by
        have hxm := (cl_name hx).1
        rw [h.app] at hxm
        rcases List.mem_append.1 hxm with e | e
        · rw [(giv_c e).2.1] at hI; cases hI
        · have := h.may x e
          unfold mayG at this
          rw [hI] at this
          simp only [Bool.and_eq_true, Bool.not_eq_true', Bool.true_and, Bool.or_eq_false_iff, Bool.not_eq_false'] at this
          exact eq_of_beq this.1.1
      rw [hxS] at e
      cases d with
      | zero => simp [sup] at e
      | succ d =>
        unfold sup at e
        have eo : cl L tObj = some (gC tObj []) := cl_giv h.app rfl
        rw [eo] at e
        rcases List.mem_cons.1 e with e | e
        · exact e
        · rw [show (gC tObj []).Super = [] from rfl, sup_nil h] at e; cases e
noncomputable def chN (L : List ApiClass) (c n : Tx) : List UInt8 × Bool := cond (hasN L c && !isF L c) (((supL L c).findSome? (chG L n)).getD ([], false)) ([], false)
theorem chosen_N (h : Made l L) (hm : MapOk L m) (hL : Lens L) (c n : Tx) : link_Chosen_s3 L m c n = some (chN L c n) := by
  rw [chosen_eq h hm hL]
  congr 1
  unfold chN
  cases hn : hasN L c with
  | false => rw [supL_none hn]; rfl
  | true =>
    cases hF : isF L c with
    | true =>
      rw [findSome_none (fun s hs => ?_)]
      · rfl
      · rcases sup_face h hs hF with e | e
        · subst e
          obtain ⟨x, hx⟩ := has_cl hn
          have hI : x.Interface = true := by unfold isF at hF; rw [hx] at hF; exact hF
          unfold metG
          rw [hx]
          show (match x.Methods.find? (fun y => y.Name == n) with | some f => cond (link_Chosen_1 f) (some (s, f, true)) none | none => none) = none
          cases hf : x.Methods.find? (fun y => y.Name == n) with
          | none => rfl
          | some f =>
            have := abstract_of h (cl_name hx).1 (List.mem_of_find?_eq_some hf)
            simp only [link_Chosen_1, this, hI, Bool.not_true, Bool.and_false, cond_false]
        · rw [e]; exact obj_none h _ _
    | false =>
      simp only [Bool.not_false, Bool.and_self, cond_true]
      have e : (supL L c).findSome? (chG L n) = ((supL L c).findSome? (metG L link_Chosen_1 n)).map (fun z : MR => (z.1, z.2.2)) := by
        rw [findSome_map]
        refine findSome_ext fun s hs => ?_
        obtain ⟨x, hx⟩ := has_cl (supL_hasN h c s hs)
        have hI : x.Interface = false := by
          have := sup_isF h hs hF
          unfold isF at this
          rw [hx] at this; exact this
        unfold chG metG
        rw [hx]
        show (match x.Methods.find? (fun y => y.Name == n) with | some f => cond (!f.Static) (some (s, true)) none | none => none) = Option.map _ (match x.Methods.find? (fun y => y.Name == n) with | some f => cond (link_Chosen_1 f) (some (s, f, true)) none | none => none)
        cases hf : x.Methods.find? (fun y => y.Name == n) with
        | none => rfl
        | some f =>
          have := abstract_of h (cl_name hx).1 (List.mem_of_find?_eq_some hf)
          simp only [link_Chosen_1, this, hI, Bool.not_false, Bool.and_true]
          cases f.Static <;> rfl
      rw [e]
      cases (supL L c).findSome? (metG L link_Chosen_1 n) <;> rfl
theorem ref_chosen_N (h : Made l L) (hL : Lens L) (c n : Tx) : ref7_Hier_Chosen L c n = some (chN L c n) := by
  have h26 := supL_len h c
  have hl := h.len
  unfold ref7_Hier_Chosen chN
  rw [at_eq (by omega)]
  simp only [Option.bind_some]
  rw [at_neg, idx_at]
  have e : (cond (!hasN L c) (some true) ((cl L c).bind fun v5 => some v5.Interface)) = some (!(hasN L c && !isF L c)) := by
    unfold isF
    cases hc : cl L c with
    | none => rw [has_not hc]; rfl
    | some x => rw [has_of hc]; simp
  rw [e]
  simp only [Option.bind_some]
  cases hB : (hasN L c && !isF L c) with
  | false => rfl
  | true =>
    simp only [Bool.not_true, cond_false, cond_true]
    rw [ref_supers_eq h]
    simp only [Option.bind_some]
    rw [show loopP (fun z => ref7_Hier_Chosen_l1 L n (supL L c) z) 0 = some (ends () ((supL L c).findSome? (chG L n))) from loop_list (fun i s hs => by
      have hi := (List.getElem?_eq_some_iff.1 hs).1
      obtain ⟨x, hx⟩ := has_cl (supL_hasN h c s (List.mem_of_getElem? hs))
      show ref7_Hier_Chosen_l1 L n (supL L c) (i : Int) = _
      unfold ref7_Hier_Chosen_l1
      rw [here hs, idx_nat, hs]
      simp only [cond_true, Option.bind_some]
      rw [at_eq (by omega)]
      simp only [Option.bind_some]
      rw [idx_ati hx]
      simp only [Option.bind_some]
      rw [ref3_Method_eq (hL x (cl_name hx).1).2]
      simp only [Option.bind_some]
      rw [ixF_some, idx_ixF, wrap_succ (by omega)]
      unfold chG
      rw [hx]
      show _ = some (asks i (match x.Methods.find? (fun y => y.Name == n) with | some f => cond (!f.Static) (some (s, true)) none | none => none))
      cases x.Methods.find? (fun y => y.Name == n) with
      | none => rfl
      | some f =>
        simp only [Option.isSome_some, cond_true, Option.bind_some]
        cases f.Static <;> rfl) (by
      show ref7_Hier_Chosen_l1 L n (supL L c) ((supL L c).length : Int) = _
      unfold ref7_Hier_Chosen_l1
      rw [past]; rfl)]
    exact leave_ends _ _
end
end Go.Proofs.YtooagifeniibcaaGreat
namespace Go.Proofs.YtooagifeniibcaaGreat
set_option linter.unusedSimpArgs false
set_option linter.unusedVariables false
theorem all_st {X U R : Type} {st : Nat → X} {body : X → Option (Sum X (Sum U R))} {n : Nat} {u : U}
    (hb : ∀ i, i < n → body (st i) = some (.inl (st (i + 1)))) (he : body (st n) = some (.inr (.inl u))) : ∀ (d i : Nat), n - i = d → i ≤ n → loopP body (st i) = some (.inl u) := by
  intro d
  induction d with
  | zero =>
    intro i hd hi
    have : i = n := by omega
    subst this
    rw [loopP_eq, he]; rfl
  | succ d ih =>
    intro i hd hi
    rw [loopP_eq, hb i (by omega)]
    exact ih (i + 1) (by omega) (by omega)
theorem map_loop {α β R : Type} {body : List β × Int → Option (Sum (List β × Int) (Sum (List β) R))} {xs : List α} {f : α → β} (hx : xs.length ≤ 1000) (B : Nat)
    (hb : ∀ acc (j : Nat) x, acc.length ≤ B + j → xs[j]? = some x → body (acc, (j : Int)) = some (.inl (acc ++ [f x], IntKind.i64.wrap ((j : Int) + 1))))
    (he : ∀ acc, body (acc, (xs.length : Int)) = some (.inr (.inl acc))) : ∀ (r pre : List α) (acc : List β), xs = pre ++ r → acc.length ≤ B + pre.length → loopP body (acc, (pre.length : Int)) = some (.inl (acc ++ r.map f))
  | [], pre, acc, e, ha => by
    rw [List.append_nil] at e
    rw [loopP_eq, ← e, he]
    simp
  | x :: r, pre, acc, e, ha => by
    have hlen : xs.length = pre.length + (r.length + 1) := by rw [e]; simp
    have hx2 : xs[pre.length]? = some x := by rw [e]; simp
    rw [loopP_eq, hb acc _ x ha hx2, wrap_succ (by omega)]
    show loopP body (acc ++ [f x], ((pre.length + 1 : Nat) : Int)) = _
    have := map_loop hx B hb he r (pre ++ [x]) (acc ++ [f x]) (by rw [e]; simp) (by simp; omega)
    rw [show (pre ++ [x]).length = pre.length + 1 by simp] at this
    rw [this]
    simp
theorem allC_few {l : List ApiClass} : ∀ c ∈ allC l, c.Fields.length ≤ 10 ∧ c.Methods.length ≤ 10 := fun c hc => by
  obtain ⟨d, hd, rfl⟩ := List.mem_map.1 hc
  constructor
  · show ((d.Fields.take 10).map cutF).length ≤ 10; rw [List.length_map, List.length_take]; omega
  · show ((d.Methods.take 10).map cutM).length ≤ 10; rw [List.length_map, List.length_take]; omega
theorem la_names {l : List ApiClass} (hl : l.length ≤ 18) (hf : ∀ c ∈ l, c.Fields.length ≤ 10 ∧ c.Methods.length ≤ 10) : ∀ (r pre : List ApiClass) (acc : List Tx), l = pre ++ r → acc.length ≤ 3 + 20 * pre.length →
    ∃ names, names.length ≤ 3 + 20 * l.length ∧ loopP (fun z => law8_LinkAll_l9 l z.1 z.2) (acc, (pre.length : Int)) = some (.inl names)
  | [], pre, acc, e, ha => by
    rw [List.append_nil] at e
    refine ⟨acc, by rw [e]; exact ha, ?_⟩
    rw [loopP_eq]
    show (law8_LinkAll_l9 l acc (pre.length : Int)).bind _ = _
    unfold law8_LinkAll_l9
    rw [← e, past]; rfl
  | c :: r, pre, acc, e, ha => by
    have hlen : l.length = pre.length + (r.length + 1) := by rw [e]; simp
    have hx : l[pre.length]? = some c := by rw [e]; simp
    obtain ⟨f1, f2⟩ := hf c (List.mem_of_getElem? hx)
    obtain ⟨names, n1, n2⟩ := la_names hl hf r (pre ++ [c]) (acc ++ c.Fields.map (·.Name) ++ c.Methods.map (·.Name)) (by rw [e]; simp) (by simp; omega)
    refine ⟨names, n1, ?_⟩
    rw [show (pre ++ [c]).length = pre.length + 1 by simp] at n2
    rw [loopP_eq]
    show (law8_LinkAll_l9 l acc (pre.length : Int)).bind _ = _
    unfold law8_LinkAll_l9
    have e5 : loopP (fun z => law8_LinkAll_l5 l (pre.length : Int) z.1 z.2) (acc, 0) = some (.inl (acc ++ c.Fields.map (·.Name))) := map_loop (xs := c.Fields) (f := fun y => y.Name) (by omega) 400 (fun a j y ha hy => by
      show law8_LinkAll_l5 l (pre.length : Int) a (j : Int) = _
      have hj := (List.getElem?_eq_some_iff.1 hy).1
      unfold law8_LinkAll_l5
      rw [idx_nat, hx]
      simp only [Option.bind_some]
      rw [here hy, idx_nat, hy]
      simp only [cond_true, Option.bind_some]
      rw [appP_ok (by simp; omega) (by simp; omega)]; rfl) (fun a => by
      show law8_LinkAll_l5 l (pre.length : Int) a (c.Fields.length : Int) = _
      unfold law8_LinkAll_l5
      rw [idx_nat, hx]
      simp only [Option.bind_some]
      rw [past]; rfl) c.Fields [] acc rfl (by omega)
    have e7 : ∀ acc : List Tx, acc.length ≤ 420 → loopP (fun z => law8_LinkAll_l7 l (pre.length : Int) z.1 z.2) (acc, 0) = some (.inl (acc ++ c.Methods.map (·.Name))) := fun acc hacc => map_loop (xs := c.Methods) (f := fun y => y.Name) (by omega) 420 (fun a j y ha hy => by
      show law8_LinkAll_l7 l (pre.length : Int) a (j : Int) = _
      have hj := (List.getElem?_eq_some_iff.1 hy).1
      unfold law8_LinkAll_l7
      rw [idx_nat, hx]
      simp only [Option.bind_some]
      rw [here hy, idx_nat, hy]
      simp only [cond_true, Option.bind_some]
      rw [appP_ok (by simp; omega) (by simp; omega)]; rfl) (fun a => by
      show law8_LinkAll_l7 l (pre.length : Int) a (c.Methods.length : Int) = _
      unfold law8_LinkAll_l7
      rw [idx_nat, hx]
      simp only [Option.bind_some]
      rw [past]; rfl) c.Methods [] acc rfl (by simp; omega)
    rw [here hx, e5]
    simp only [cond_true, Option.bind_some, leave]
    unfold law8_LinkAll_k6
    rw [e7 _ (by simp; omega)]
    simp only [Option.bind_some, leave]
    unfold law8_LinkAll_k8
    rw [wrap_succ (by omega)]
    exact n2
section
variable {l L : List ApiClass} {m : List (Tx × Int)}
theorem metG_par (hF : ∀ c ∈ L, FClass c) {may : ApiMethod → Bool} {n : Tx} {T : List Tx} : (((T.findSome? (metG L may n)).getD ([], zM, false)).2.1.Params).length ≤ 10000 := by
  cases hr : T.findSome? (metG L may n) with
  | none => show (zM.Params).length ≤ 10000; decide
  | some r =>
    obtain ⟨s, _, hs⟩ := List.exists_of_findSome?_eq_some hr
    unfold metG at hs
    split at hs
    · rename_i x hx
      split at hs
      · rename_i f hf
        cases hm : may f with
        | false => rw [hm] at hs; cases hs
        | true =>
          rw [hm] at hs
          have : r = (s, f, true) := by cases hs; rfl
          rw [this]
          exact ((hF x (cl_name hx).1).methods.all f (List.mem_of_find?_eq_some hf)).params.len
      · cases hs
    · cases hs
theorem alike_self {f : ApiMethod} (h : f.Params.length ≤ 10000) : link_Alike f f = some true := by
  unfold link_Alike
  rw [slices_Equal_eq (by omega)]
  simp
theorem one_eq (h : Made l L) (hm : MapOk L m) (hF : ∀ c ∈ L, FClass c) (c n : Tx) : law8_one (some (HierHier.mk L m)) L c n = some true := by
  have hL := lens_of hF
  unfold law8_one
  simp only [optE]
  rw [field_eq h hm hL, ref_field_eq h hL, method_eq h hm hL, ref_method_eq h hL, face_eq h hm hL, ref_face_eq h hL, chosen_N h hm hL, ref_chosen_N h hL]
  simp only [Option.bind_some, beq_self_eq_true, Bool.not_true, Bool.or_self, cond_false]
  rw [alike_self (metG_par hF)]
  simp only [Option.bind_some, beq_self_eq_true, Bool.not_true, Bool.or_self, cond_false, Bool.and_self]
end
theorem one_none : law8_one_s2 [] [79, 98, 106, 101, 99, 116] [102] = some true := by kernel_rfl
theorem law8_LinkAll_eq {l : List ApiClass} (hl : ∀ c ∈ l, wApiClass c) (x : Tx) : law8_LinkAll l x = some true := by
  have hs := allC_short hl
  obtain ⟨m, hm, hN⟩ := hier_New_eq (allC_cg hl)
  unfold law8_LinkAll
  rw [law5_All_eq]
  simp only [Bool.not_true, cond_false, Option.bind_some]
  rw [hN, ref7_New_eq (allC_cg hl)]
  simp only [Option.bind_some]
  cases hE : (newE (allC l)).1 with
  | none =>
    simp only [Option.map_none, Option.isNone_none, Bool.or_true, cond_true]
  | some L =>
    obtain ⟨hM, hz⟩ := newE_made hE
    have hF := made_fc hM (fun c hc => (hs c hc).fc)
    have h26 := hM.len
    have hmp := hm L hE
    rw [hz]
    simp only [Option.map_some, Option.isNone_some, beq_self_eq_true, Bool.not_true, Bool.or_self, cond_false]
    rw [show law1_Cut x 10 = _ from law1_Cut_eq (n := 10)]
    simp only [Option.bind_some]
    obtain ⟨names, n1, n2⟩ := la_names (l := allC l) (by unfold allC; rw [List.length_map, List.length_take]; omega) allC_few (allC l) [] [x.take 10, [36, 105, 110, 105, 116], [109, 97, 105, 110]] rfl (by simp)
    have hfew := hM.few
    rw [show loopP (fun z => law8_LinkAll_l9 (allC l) z.1 z.2) ([x.take 10, [36, 105, 110, 105, 116], [109, 97, 105, 110]], 0) = _ from n2]
    simp only [Option.bind_some, leave]
    unfold law8_LinkAll_k10
    rw [show loopP (fun z => law8_LinkAll_l15 (some (HierHier.mk L m), 0) names z.1 z.2) (some (Ref7Hier.mk L), 0) = some (.inl L) from all_st (n := L.length) (st := fun i => (some (Ref7Hier.mk L), (i : Int))) (fun i hi => by
      have hc : L[i]? = some L[i] := List.getElem?_eq_getElem hi
      generalize L[i] = c at hc
      show law8_LinkAll_l15 _ names (some (Ref7Hier.mk L)) (i : Int) = _
      unfold law8_LinkAll_l15
      simp only [optE]
      rw [show decide ((i : Int) < ((Ref7Hier.mk L).L.length : Int)) = true from here hc]
      rw [show loopP (fun z => law8_LinkAll_l13 (some (HierHier.mk L m), 0) names (i : Int) (Ref7Hier.mk L) z) 0 = some (.inl ()) from all_loop (l := names) (fun k a ha => by
        have hk := (List.getElem?_eq_some_iff.1 ha).1
        show law8_LinkAll_l13 _ names (i : Int) _ (k : Int) = _
        unfold law8_LinkAll_l13
        rw [here ha, show idx (Ref7Hier.mk L).L (i : Int) = some c from by rw [idx_nat]; exact hc, idx_nat, ha]
        simp only [cond_true, Option.bind_some]
        rw [one_eq hM hmp hF, wrap_succ (by omega)]; rfl) (by
        show law8_LinkAll_l13 _ names (i : Int) _ (names.length : Int) = _
        unfold law8_LinkAll_l13
        rw [past]; rfl)]
      simp only [cond_true, Option.bind_some, leave]
      unfold law8_LinkAll_k14
      rw [wrap_succ (by omega)]) (by
      show law8_LinkAll_l15 _ names (some (Ref7Hier.mk L)) (L.length : Int) = _
      unfold law8_LinkAll_l15
      simp only [optE]
      rw [past]; rfl) L.length 0 rfl (by omega)]
    simp only [Option.bind_some, leave]
    unfold law8_LinkAll_k16
    rw [one_eq hM hmp hF, one_eq hM hmp hF, one_none]
    rfl
theorem linkAll_pure (l : List ApiClass) (x : List UInt8) (h : wL wApiClass l) (_ : wS x) : PureC Tryz.prog 10 [.isl 6 (List.map rApiClass l), .lit (.string (B x))] (.lit (.bool true)) := law8_LinkAll_ok l x (law8_LinkAll_eq h.2 x)
end Go.Proofs.YtooagifeniibcaaGreat
