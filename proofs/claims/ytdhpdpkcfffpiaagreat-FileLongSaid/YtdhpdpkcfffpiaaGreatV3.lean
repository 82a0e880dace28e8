/- FileLong: for every input the law returns true, and each argument reads as it read before. No further condition. Part 3 of 7. -/
import Derived.Test.YtdhpdpkcfffpiaaGreatV2
namespace Go.Proofs.YtdhpdpkcfffpiaaGreat
noncomputable section
set_option linter.unusedSimpArgs false
set_option linter.unusedVariables false
set_option maxRecDepth 100000
set_option maxHeartbeats 4000000
structure ApiField where
  Name : List UInt8
  Type_ : List UInt8
  Static : Bool
def rApiField (x : ApiField) : List AV:=[sA x.Name,sA x.Type_,bA x.Static]
structure ApiMap where
  At : Int
  Locals : List (List UInt8)
  Stack : List (List UInt8)
def rApiMap (x : ApiMap) : List AV:=[iA x.At,.isl 1 (List.map rStr x.Locals),.isl 1 (List.map rStr x.Stack)]
structure ApiTrap where
  From : Int
  To : Int
  At : Int
  C : List UInt8
def rApiTrap (x : ApiTrap) : List AV:=[iA x.From,iA x.To,iA x.At,sA x.C]
structure ApiMethod where
  Name : List UInt8
  Params : List (List UInt8)
  Ret : List UInt8
  Static : Bool
  Abstract : Bool
  Locals : Int
  Stack : Int
  Code : List ApiIns
  Maps : List ApiMap
  Traps : List ApiTrap
def rApiMethod (x : ApiMethod) : List AV:=[sA x.Name,.isl 1 (List.map rStr x.Params),sA x.Ret,bA x.Static,bA x.Abstract,iA x.Locals,iA x.Stack,.isl 4 (List.map rApiIns x.Code),.isl 3 (List.map rApiMap x.Maps),.isl 4 (List.map rApiTrap x.Traps)]
structure ApiClass where
  Name : List UInt8
  Super : List UInt8
  Interface : Bool
  Impl : List (List UInt8)
  Fields : List ApiField
  Methods : List ApiMethod
def class_May_2 (v1 : ApiField) : Option (Bool) :=
  (kind_Name v1.Name).bind fun v2=>(cond (v2 && (!(v1.Name == [36,105,110,105,116]))) ((kind_May v1.Type_).bind fun v3=>some v3) (some false)).bind fun v4=>some v4
theorem class_May_2_ok (v1 : ApiField) {r : Bool} (h : class_May_2 v1 = some r) : PureC Tryz.prog 27 [.agg [sA v1.Name,sA v1.Type_,bA v1.Static]] (bA r):=by
 refine pure_fn Tryz.func27 j0 (by kernel_rfl) j0 j0 ?_
 unfold class_May_2 at h
 refine rg j0<|u<|bx 0 3 j0 j0 j0 j0<|u<|asg j0<|r_nil ?_
 obtain ⟨v2,q1,h⟩:=bs h
 obtain ⟨v4,q5,h⟩:=bs h
 refine rg j0<|u<|fa ti53 j0 j0 j0<|u<|ld ti9 j0 j0<|u<|pc (kind_Name_ok v1.Name q1) j0 j0 j0<|u<|mv j0<|r_and (j:=3) 3 j0 j0 j0 j0 j0 gpn (fun hb2=>g j0 hb2<|fa ti53 j0 j0 j0<|g j0 hb2<|ld ti9 j0 j0<|g j0 hb2<|sne ti9 j0 j0<|r_nil (egA [7,8,9] 3 hb2 j0 j0 j0 j0)) andF<|u<|mv j0<|r_and (x:=v4) (j:=8) 3 j0 j0 j0 j0 j0 gpn (fun hb3=>by replace q5:=bT hb3 q5; obtain ⟨v3,q4,q5⟩:=bs q5; obtain rfl:=sm q5; exact g j0 hb3<|fa ti53 j0 j0 j0<|g j0 hb3<|ld ti9 j0 j0<|g j0 hb3<|pc (kind_May_ok v1.Type_ q4) j0 j0 j0<|r_nil (eg [12,13,14] 3 j0 j0 j0 j0)) (fun hb=>(sm (bF hb q5)).symm)<|u<|asg j0<|r_nil ?_
 refine sw_ret ?_
 obtain rfl:=sm h
 exact ⟨_,j0,[],ci j0,j0,j5,j0,j1⟩
def class_May_1 (v1 : ApiField) : (List UInt8) :=
  v1.Name
theorem class_May_1_ok (v1 : ApiField) {r : (List UInt8)} (h : class_May_1 v1 = r) : PureC Tryz.prog 26 [.agg [sA v1.Name,sA v1.Type_,bA v1.Static]] (sA r):=by
 refine pure_fn Tryz.func26 j0 (by kernel_rfl) j0 j0 ?_
 unfold class_May_1 at h
 refine rg j0<|u<|bx 0 3 j0 j0 j0 j0<|u<|asg j0<|r_nil ?_
 refine rg j0<|u<|fa ti53 j0 j0 j0<|u<|ld ti9 j0 j0<|u<|asg j0<|r_nil ?_
 refine sw_ret ?_
 obtain rfl:=h
 exact ⟨_,j0,[],ci j0,j0,j5,j0,j1⟩
def class_all_api_Field_1 (v1 : ApiField) (v2 : List UInt8) (v3 : List UInt8) (v4 : Bool) : Bool :=
  ((class_May_1 (ApiField.mk v2 v3 v4)) == (class_May_1 v1))
theorem class_all_api_Field_1_ok (v1 : ApiField) (v2 : List UInt8) (v3 : List UInt8) (v4 : Bool) {r : Bool} (h : class_all_api_Field_1 v1 v2 v3 v4 = r) : PureC Tryz.prog 85 [.agg [sA v1.Name,sA v1.Type_,bA v1.Static],.ipt 1 [[.fn (.func 26) [] []]] 0 0,.ipt 3 [[sA v2,sA v3,bA v4]] 0 0] (bA r):=by
 refine pure_fn Tryz.func85 j0 (by kernel_rfl) j0 j0 ?_
 unfold class_all_api_Field_1 at h
 refine rg j0<|u<|bx 0 3 j0 j0 j0 j0<|u<|asg j0<|r_nil ?_
 refine rd [(4,bA ((class_May_1 (ApiField.mk v2 v3 v4)) == (class_May_1 v1)))] [] [] [7,6,5,4,3,2,1,0] [(4,bA ((class_May_1 (ApiField.mk v2 v3 v4)) == (class_May_1 v1))),(11,bA ((class_May_1 (ApiField.mk v2 v3 v4)) == (class_May_1 v1))),(10,sA (class_May_1 v1)),(9,.agg [sA v1.Name,sA v1.Type_,bA v1.Static]),(8,.fn (.func 26) [] []),(7,sA (class_May_1 (ApiField.mk v2 v3 v4))),(6,.agg [sA v2,sA v3,bA v4]),(5,.fn (.func 26) [] [])] 0 (by kernel_rfl) (by kernel_rfl) j0 (by kernel_rfl) (dt0 ⟨(fun _=>pa j0 j0 j0 j0 (asg j0<|j4)),(fun _=>pa j0 j0 j0 j0 (seq ti9 j0 j0<|j4)),(fun _=>pa j0 j0 j0 j0 (pc (class_May_1_ok v1 j0) j0 j0 j0<|j4)),(fun _=>pa j0 j0 j0 j0 (ld ti53 j0 j0<|j4)),(fun _=>pa j0 j0 j0 j0 (ld ti58 j0 j0<|j4)),(fun _=>pa j0 j0 j0 j0 (pc (class_May_1_ok (ApiField.mk v2 v3 v4) j0) j0 j0 j0<|j4)),(fun _=>pa j0 j0 j0 j0 (ld ti53 j0 j0<|j4)),(fun _=>pa j0 j0 j0 j0 (ld ti58 j0 j0<|j4)),j5⟩ (by kernel_rfl) j0 ⟨[],ce j0 j0<|cn,j0,j5,j0,j1⟩) ?_
 refine sw_ret ?_
 obtain rfl:=h
 exact ⟨_,j0,[],ci j0,j0,j5,j0,j1⟩
def slices_IndexFunc_api_Field_api_Field_k2 : Option (Int) :=
  some (-1)
def slices_IndexFunc_api_Field_api_Field_l1 (v1 : List ApiField) (v2 : List UInt8) (v3 : List UInt8) (v4 : Bool) (v7 : Int) : Option (Sum (Int) (Sum (Unit) (Int))) :=
  cond (decide (v7 < (List.length v1 : Int))) ((idx v1 v7).bind fun v8=>cond (class_all_api_Field_1 v8 v2 v3 v4) (some (.inr (.inr v7))) (some (.inl (IntKind.i64.wrap (v7 + 1))))) (some (.inr (.inl ())))
def slices_IndexFunc_api_Field_api_Field (v1 : List ApiField) (v2 : List UInt8) (v3 : List UInt8) (v4 : Bool) : Option (Int) :=
  (loopP (fun z=>slices_IndexFunc_api_Field_api_Field_l1 v1 v2 v3 v4 z) 0).bind fun o=>leave o (fun b=>slices_IndexFunc_api_Field_api_Field_k2) some
theorem slices_IndexFunc_api_Field_api_Field_ok (v1 : List ApiField) (v2 : List UInt8) (v3 : List UInt8) (v4 : Bool) {r : Int} (h : slices_IndexFunc_api_Field_api_Field v1 v2 v3 v4 = some r) : PureC Tryz.prog 82 [.isl 3 (List.map rApiField v1),.fn (.func 85) [] [.ipt 1 [[.fn (.func 26) [] []]] 0 0,.ipt 3 [[sA v2,sA v3,bA v4]] 0 0]] (iA r):=by
 refine pure_fn Tryz.func82 j0 (by kernel_rfl) j0 j0 ?_
 unfold slices_IndexFunc_api_Field_api_Field at h
 refine rg j0<|u<|asg j0<|r_nil ?_
 refine sw_seq ?_
 refine rg j0<|u<|mv j0<|u<|lnI ti25 j0 j0<|u<|mv j0<|r_nil ?_
 obtain ⟨o,ho,h⟩:=bs h
 refine sw_lpl (X:=Int) (B:=Unit) (R:=Int) (fun z=>[(0,.isl 3 (List.map rApiField v1)),(1,.fn (.func 85) [] [.ipt 1 [[.fn (.func 26) [] []]] 0 0,.ipt 3 [[sA v2,sA v3,bA v4]] 0 0]),(7,iA (List.length v1 : Int)),(8,iA z)]) (fun z=>[]) (fun b=>[]) (fun b=>[]) (fun r env st=>PostF Tryz.prog Tryz.f82 0 (iA r) [] env st) ho ⟨[],ce j0 j0<|ce j0 j0<|ce j0 j0<|ce j0 j0<|cn,j0,j5,j0,j1⟩ ?_ ?_ ?_
 ·
  rintro v7 r h
  replace h : slices_IndexFunc_api_Field_api_Field_l1 v1 v2 v3 v4 v7 = some r:=h
  unfold slices_IndexFunc_api_Field_api_Field_l1 at h
  refine rg j0<|u<|lss ti3 j0 j0<|r_nil ?_
  refine sw_seq ?_
  refine sw_cond j0 (fun hc4=>?_) (fun hc4=>?_)
  ·
   replace h:=bT hc4 h
   refine sw_skip ?_
   refine sw_seq ?_
   refine sw_block ?_
   refine rg j0<|u<|mv j0<|u<|asg j0<|r_nil ?_
   obtain ⟨v8,q5,h⟩:=bs h
   refine rg j0<|u<|mv j0<|u<|mv j0<|u<|mv j0<|u<|ixI ti25 j0 ti53 j0 j0 j0 q5<|u<|ldI ti53 j0 (idx_some q5).2.2 j0<|u<|pc (class_all_api_Field_1_ok v8 v2 v3 v4 j0) j0 j0 j0<|r_nil ?_
   refine sw_cond j0 (fun hc6=>?_) (fun hc6=>?_)
   ·
    replace h:=bT hc6 h
    refine rg j0<|u<|mv j0<|u<|asg j0<|r_nil ?_
    refine sw_ret ?_
    obtain rfl:=sm h
    exact ⟨_,j0,_,j0,[],ci j0,j0,j5,j0,j1⟩
   ·
    replace h:=bF hc6 h
    refine sw_skip ?_
    refine rl j0<|u<|add ti3 j0 j0<|u<|mv j0<|r_nil ?_
    obtain rfl:=sm h
    exact ⟨_,j0,[],ce j0 j0<|ce j0 j0<|ce j0 j0<|ce j0 j0<|cn,j0,j5,j0,j1⟩
  ·
   replace h:=bF hc4 h
   refine sw_exit ?_
   obtain rfl:=sm h
   exact ⟨j0,_,j0,[],cn,j0,j5,j0,j1⟩
 ·
  rintro ⟨⟩ rfl
  replace h : slices_IndexFunc_api_Field_api_Field_k2 = some r:=h
  unfold slices_IndexFunc_api_Field_api_Field_k2 at h
  refine ow_intro ?_
  refine rg j0<|u<|asg j0<|r_nil ?_
  refine sw_ret ?_
  obtain rfl:=sm h
  exact ⟨_,j0,[],ci j0,j0,j5,j0,j1⟩
 ·
  rintro r' rfl env st hp
  obtain rfl:=sm h
  exact hp
def slices_ContainsFunc_api_Field_api_Field (v1 : List ApiField) (v2 : List UInt8) (v3 : List UInt8) (v4 : Bool) : Option (Bool) :=
  (slices_IndexFunc_api_Field_api_Field v1 v2 v3 v4).bind fun v5=>some (decide (0 ≤ v5))
theorem slices_ContainsFunc_api_Field_api_Field_ok (v1 : List ApiField) (v2 : List UInt8) (v3 : List UInt8) (v4 : Bool) {r : Bool} (h : slices_ContainsFunc_api_Field_api_Field v1 v2 v3 v4 = some r) : PureC Tryz.prog 84 [.isl 3 (List.map rApiField v1),.fn (.func 85) [] [.ipt 1 [[.fn (.func 26) [] []]] 0 0,.ipt 3 [[sA v2,sA v3,bA v4]] 0 0]] (bA r):=by
 refine pure_fn Tryz.func84 j0 (by kernel_rfl) j0 j0 ?_
 unfold slices_ContainsFunc_api_Field_api_Field at h
 refine rg j0<|u<|asg j0<|r_nil ?_
 obtain ⟨v5,q1,h⟩:=bs h
 refine rg j0<|u<|mv j0<|u<|mv j0<|u<|pc (slices_IndexFunc_api_Field_api_Field_ok v1 v2 v3 v4 q1) j0 j0 j0<|u<|geq ti3 j0 j0<|u<|asg j0<|r_nil ?_
 refine sw_ret ?_
 obtain rfl:=sm h
 exact ⟨_,j0,[],ci j0,j0,j5,j0,j1⟩
def class_all_api_Field_k2 (v1 : List ApiField) (v2 : Int) : Option (Bool) :=
  some (decide ((List.length v1 : Int) ≤ v2))
def class_all_api_Field_l1 (v1 : List ApiField) (v9 : Int) : Option (Sum (Int) (Sum (Unit) (Bool))) :=
  cond (decide (v9 < (List.length v1 : Int))) ((idx v1 v9).bind fun v10=>(class_May_2 v10).bind fun v11=>(cond (!v11) (some true) ((cutP v1 0 v9).bind fun v12=>(slices_ContainsFunc_api_Field_api_Field v12 v10.Name v10.Type_ v10.Static).bind fun v13=>some v13)).bind fun v14=>cond v14 (some (.inr (.inr false))) (some (.inl (IntKind.i64.wrap (v9 + 1))))) (some (.inr (.inl ())))
def class_all_api_Field (v1 : List ApiField) (v2 : Int) : Option (Bool) :=
  (loopP (fun z=>class_all_api_Field_l1 v1 z) 0).bind fun o=>leave o (fun b=>class_all_api_Field_k2 v1 v2) some
theorem class_all_api_Field_ok (v1 : List ApiField) (v2 : Int) {r : Bool} (h : class_all_api_Field v1 v2 = some r) : PureC Tryz.prog 25 [.isl 3 (List.map rApiField v1),iA v2,.fn (.func 26) [] [],.fn (.func 27) [] []] (bA r):=by
 refine pure_fn Tryz.func25 j0 (by kernel_rfl) j0 j0 ?_
 unfold class_all_api_Field at h
 refine rg j0<|u<|bx 0 1 j0 j0 j0 j0<|u<|asg j0<|r_nil ?_
 refine sw_seq ?_
 refine rg j0<|u<|mv j0<|u<|lnI ti25 j0 j0<|u<|mv j0<|r_nil ?_
 obtain ⟨o,ho,h⟩:=bs h
 refine sw_lpl (X:=Int) (B:=Unit) (R:=Bool) (fun z=>[(0,.isl 3 (List.map rApiField v1)),(1,iA v2),(3,.fn (.func 27) [] []),(6,.mpt 0 0 0),(11,.isl 3 (List.map rApiField v1)),(12,iA (List.length v1 : Int)),(13,iA z)]) (fun z=>[some (1,[[.fn (.func 26) [] []]])]) (fun b=>[(0,.isl 3 (List.map rApiField v1)),(1,iA v2)]) (fun b=>[]) (fun r env st=>PostF Tryz.prog Tryz.f25 0 (bA r) [] env st) ho ⟨[.old 0],ce j0 j0<|ce j0 j0<|ce j0 j0<|cv j0 (.mpt j0)<|ce j0 j0<|ce j0 j0<|ce j0 j0<|cn,j0,⟨⟨_,j0,rsOne ⟨ci j0,j5⟩⟩,j5⟩,j0,j1⟩ ?_ ?_ ?_
 ·
  rintro v9 r h
  replace h : class_all_api_Field_l1 v1 v9 = some r:=h
  unfold class_all_api_Field_l1 at h
  refine rg j0<|u<|lss ti3 j0 j0<|r_nil ?_
  refine sw_seq ?_
  refine sw_cond j0 (fun hc9=>?_) (fun hc9=>?_)
  ·
   replace h:=bT hc9 h
   refine sw_skip ?_
   refine sw_seq ?_
   refine sw_block ?_
   obtain ⟨v10,q10,h⟩:=bs h
   refine rg j0<|u<|mv j0<|u<|ixI ti25 j0 ti53 j0 j0 j0 q10<|u<|ldI ti53 j0 (idx_some q10).2.2 j0<|u<|al 1 ti53 j0<|u<|asg j0<|u<|sto ti53 j0 j0 j0<|r_nil ?_
   obtain ⟨v11,q11,h⟩:=bs h
   obtain ⟨v14,q15,h⟩:=bs h
   refine rg j0<|u<|mv j0<|u<|ld ti53 j0 j0<|u<|pc (class_May_2_ok v10 q11) j0 j0 j0<|u<|nt j0<|u<|mv j0<|r_or (x:=v14) (j:=4) 5 j0 j0 j0 j0 j0 gpn (fun hb12=>by replace q15:=bF hb12 q15; obtain ⟨v12,q13,q15⟩:=bs q15; obtain ⟨v13,q14,q15⟩:=bs q15; obtain rfl:=sm q15; exact g j0 hb12<|mv j0<|g j0 hb12<|mv j0<|g j0 hb12<|slI (a:=0) (b:=v9) ti25 j0 ti53 j0 j0 j0 (bnd_hi j0 q13) q13<|g j0 hb12<|mf j0 j0<|g j0 hb12<|pcs (slices_ContainsFunc_api_Field_api_Field_ok v12 v10.Name v10.Type_ v10.Static q14) j0 j0 (.cons (si j0) (.cons (sealFn j5 ⟨(sealBox j0 ⟨(si j0),j5⟩),(sealBox j0 ⟨(si j0),(si j0),(si j0),j5⟩),j5⟩) .nil)) plainB<|r_nil (eg [23,24,25,26,27] 5 j0 j0 j0 j0)) (fun hb=>(sm (bT hb q15)).symm)<|r_nil ?_
   refine sw_cond j0 (fun hc16=>?_) (fun hc16=>?_)
   ·
    replace h:=bT hc16 h
    refine rg j0<|u<|asg j0<|r_nil ?_
    refine sw_ret ?_
    obtain rfl:=sm h
    exact ⟨_,j0,_,j0,[],ci j0,j0,j5,j0,j1⟩
   ·
    replace h:=bF hc16 h
    refine sw_skip ?_
    refine rl j0<|u<|add ti3 j0 j0<|u<|mv j0<|r_nil ?_
    obtain rfl:=sm h
    exact ⟨_,j0,[.old 0],ce j0 j0<|ce j0 j0<|ce j0 j0<|cv j0 (.mpt j0)<|ce j0 j0<|ce j0 j0<|ce j0 j0<|cn,j0,⟨⟨_,j0,rsOne ⟨ci j0,j5⟩⟩,j5⟩,j0,j1⟩
  ·
   replace h:=bF hc9 h
   refine sw_exit ?_
   obtain rfl:=sm h
   exact ⟨j0,_,j0,[],ce j0 j0<|ce j0 j0<|cn,j0,j5,j0,j1⟩
 ·
  rintro ⟨⟩ rfl
  replace h : class_all_api_Field_k2 v1 v2 = some r:=h
  unfold class_all_api_Field_k2 at h
  refine ow_intro ?_
  refine rg j0<|u<|mv j0<|u<|lnI ti25 j0 j0<|u<|mv j0<|u<|leq ti3 j0 j0<|u<|asg j0<|r_nil ?_
  refine sw_ret ?_
  obtain rfl:=sm h
  exact ⟨_,j0,[],ci j0,j0,j5,j0,j1⟩
 ·
  rintro r' rfl env st hp
  obtain rfl:=sm h
  exact hp
def class_types_1 (v1 : List UInt8) : Option (Bool) :=
  (kind_May v1).bind fun v2=>some (!v2)
theorem class_types_1_ok (v1 : List UInt8) {r : Bool} (h : class_types_1 v1 = some r) : PureC Tryz.prog 140 [sA v1,.ipt 1 [[.fn (.func 29) [] []]] 0 0] (bA r):=by
 refine pure_fn Tryz.func140 j0 (by kernel_rfl) j0 j0 ?_
 unfold class_types_1 at h
 refine rg j0<|u<|asg j0<|r_nil ?_
 obtain ⟨v2,q1,h⟩:=bs h
 refine rg j0<|u<|ld ti59 j0 j0<|u<|mv j0<|u<|pc (kind_May_ok v1 q1) j0 j0 j0<|u<|nt j0<|u<|asg j0<|r_nil ?_
 refine sw_ret ?_
 obtain rfl:=sm h
 exact ⟨_,j0,[],ci j0,j0,j5,j0,j1⟩
def slices_IndexFunc_string_string_k2 : Option (Int) :=
  some (-1)
def slices_IndexFunc_string_string_l1 (v1 : List (List UInt8)) (v5 : Int) : Option (Sum (Int) (Sum (Unit) (Int))) :=
  cond (decide (v5 < (List.length v1 : Int))) ((idx v1 v5).bind fun v6=>(class_types_1 v6).bind fun v7=>cond v7 (some (.inr (.inr v5))) (some (.inl (IntKind.i64.wrap (v5 + 1))))) (some (.inr (.inl ())))
def slices_IndexFunc_string_string (v1 : List (List UInt8)) : Option (Int) :=
  (loopP (fun z=>slices_IndexFunc_string_string_l1 v1 z) 0).bind fun o=>leave o (fun b=>slices_IndexFunc_string_string_k2) some
theorem slices_IndexFunc_string_string_ok (v1 : List (List UInt8)) {r : Int} (h : slices_IndexFunc_string_string v1 = some r) : PureC Tryz.prog 147 [.isl 1 (List.map rStr v1),.fn (.func 140) [] [.ipt 1 [[.fn (.func 29) [] []]] 0 0]] (iA r):=by
 refine pure_fn Tryz.func147 j0 (by kernel_rfl) j0 j0 ?_
 unfold slices_IndexFunc_string_string at h
 refine rg j0<|u<|asg j0<|r_nil ?_
 refine sw_seq ?_
 refine rg j0<|u<|mv j0<|u<|lnI ti24 j0 j0<|u<|mv j0<|r_nil ?_
 obtain ⟨o,ho,h⟩:=bs h
 refine sw_lpl (X:=Int) (B:=Unit) (R:=Int) (fun z=>[(0,.isl 1 (List.map rStr v1)),(1,.fn (.func 140) [] [.ipt 1 [[.fn (.func 29) [] []]] 0 0]),(7,iA (List.length v1 : Int)),(8,iA z)]) (fun z=>[]) (fun b=>[]) (fun b=>[]) (fun r env st=>PostF Tryz.prog Tryz.f147 0 (iA r) [] env st) ho ⟨[],ce j0 j0<|ce j0 j0<|ce j0 j0<|ce j0 j0<|cn,j0,j5,j0,j1⟩ ?_ ?_ ?_
 ·
  rintro v5 r h
  replace h : slices_IndexFunc_string_string_l1 v1 v5 = some r:=h
  unfold slices_IndexFunc_string_string_l1 at h
  refine rg j0<|u<|lss ti3 j0 j0<|r_nil ?_
  refine sw_seq ?_
  refine sw_cond j0 (fun hc5=>?_) (fun hc5=>?_)
  ·
   replace h:=bT hc5 h
   refine sw_skip ?_
   refine sw_seq ?_
   refine sw_block ?_
   refine rg j0<|u<|mv j0<|u<|asg j0<|r_nil ?_
   obtain ⟨v6,q6,h⟩:=bs h
   obtain ⟨v7,q7,h⟩:=bs h
   refine rg j0<|u<|mv j0<|u<|mv j0<|u<|mv j0<|u<|ixI ti24 j0 ti9 j0 j0 j0 q6<|u<|ldI ti9 j0 (idx_some q6).2.2 j0<|u<|pc (class_types_1_ok v6 q7) j0 j0 j0<|r_nil ?_
   refine sw_cond j0 (fun hc8=>?_) (fun hc8=>?_)
   ·
    replace h:=bT hc8 h
    refine rg j0<|u<|mv j0<|u<|asg j0<|r_nil ?_
    refine sw_ret ?_
    obtain rfl:=sm h
    exact ⟨_,j0,_,j0,[],ci j0,j0,j5,j0,j1⟩
   ·
    replace h:=bF hc8 h
    refine sw_skip ?_
    refine rl j0<|u<|add ti3 j0 j0<|u<|mv j0<|r_nil ?_
    obtain rfl:=sm h
    exact ⟨_,j0,[],ce j0 j0<|ce j0 j0<|ce j0 j0<|ce j0 j0<|cn,j0,j5,j0,j1⟩
  ·
   replace h:=bF hc5 h
   refine sw_exit ?_
   obtain rfl:=sm h
   exact ⟨j0,_,j0,[],cn,j0,j5,j0,j1⟩
 ·
  rintro ⟨⟩ rfl
  replace h : slices_IndexFunc_string_string_k2 = some r:=h
  unfold slices_IndexFunc_string_string_k2 at h
  refine ow_intro ?_
  refine rg j0<|u<|asg j0<|r_nil ?_
  refine sw_ret ?_
  obtain rfl:=sm h
  exact ⟨_,j0,[],ci j0,j0,j5,j0,j1⟩
 ·
  rintro r' rfl env st hp
  obtain rfl:=sm h
  exact hp
def slices_ContainsFunc_string_string (v1 : List (List UInt8)) : Option (Bool) :=
  (slices_IndexFunc_string_string v1).bind fun v2=>some (decide (0 ≤ v2))
theorem slices_ContainsFunc_string_string_ok (v1 : List (List UInt8)) {r : Bool} (h : slices_ContainsFunc_string_string v1 = some r) : PureC Tryz.prog 100 [.isl 1 (List.map rStr v1),.fn (.func 140) [] [.ipt 1 [[.fn (.func 29) [] []]] 0 0]] (bA r):=by
 refine pure_fn Tryz.func100 j0 (by kernel_rfl) j0 j0 ?_
 unfold slices_ContainsFunc_string_string at h
 refine rg j0<|u<|asg j0<|r_nil ?_
 obtain ⟨v2,q1,h⟩:=bs h
 refine rg j0<|u<|mv j0<|u<|mv j0<|u<|pc (slices_IndexFunc_string_string_ok v1 q1) j0 j0 j0<|u<|geq ti3 j0 j0<|u<|asg j0<|r_nil ?_
 refine sw_ret ?_
 obtain rfl:=sm h
 exact ⟨_,j0,[],ci j0,j0,j5,j0,j1⟩
def class_types (v1 : List (List UInt8)) : Option (Bool) :=
  (slices_ContainsFunc_string_string v1).bind fun v2=>some (!v2)
theorem class_types_ok (v1 : List (List UInt8)) {r : Bool} (h : class_types v1 = some r) : PureC Tryz.prog 91 [.isl 1 (List.map rStr v1),.fn (.func 29) [] []] (bA r):=by
 refine pure_fn Tryz.func91 j0 (by kernel_rfl) j0 j0 ?_
 unfold class_types at h
 refine rg j0<|u<|bx 0 1 j0 j0 j0 j0<|u<|asg j0<|r_nil ?_
 obtain ⟨v2,q1,h⟩:=bs h
 refine rg j0<|u<|mv j0<|u<|mf j0 j0<|u<|pcs (slices_ContainsFunc_string_string_ok v1 q1) j0 j0 (.cons (si j0) (.cons (sealFn j5 ⟨(sealBox j0 ⟨(si j0),j5⟩),j5⟩) .nil)) plainB<|u<|nt j0<|u<|asg j0<|r_nil ?_
 refine sw_ret ?_
 obtain rfl:=sm h
 exact ⟨_,j0,[],ci j0,j0,j5,j0,j1⟩
def class_empty (v1 : ApiMethod) : Bool :=
  (((((!v1.Static) && (!(v1.Name == [36,105,110,105,116]))) && (v1.Locals == (0 : Int))) && (v1.Stack == (0 : Int))) && ((IntKind.i64.wrap ((IntKind.i64.wrap ((List.length v1.Code : Int) + (List.length v1.Maps : Int))) + (List.length v1.Traps : Int))) == (0 : Int)))
theorem class_empty_ok (v1 : ApiMethod) {r : Bool} (h : class_empty v1 = r) : PureC Tryz.prog 93 [.agg [sA v1.Name,.isl 1 (List.map rStr v1.Params),sA v1.Ret,bA v1.Static,bA v1.Abstract,iA v1.Locals,iA v1.Stack,.isl 4 (List.map rApiIns v1.Code),.isl 3 (List.map rApiMap v1.Maps),.isl 4 (List.map rApiTrap v1.Traps)]] (bA r):=by
 refine pure_fn Tryz.func93 j0 (by kernel_rfl) j0 j0 ?_
 unfold class_empty at h
 refine rg j0<|u<|bx 0 10 j0 j0 j0 j0<|u<|asg j0<|r_nil ?_
 refine rg j0<|u<|fa ti35 j0 j0 j0<|u<|ld ti4 j0 j0<|u<|nt j0<|u<|mv j0<|r_and (j:=3) 3 j0 j0 j0 j0 j0 gpn (fun hb1=>g j0 hb1<|fa ti35 j0 j0 j0<|g j0 hb1<|ld ti9 j0 j0<|g j0 hb1<|sne ti9 j0 j0<|r_nil (egA [7,8,9] 3 hb1 j0 j0 j0 j0)) andF<|u<|mv j0<|r_and (j:=8) 3 j0 j0 j0 j0 j0 gpn (fun hb2=>g j0 hb2<|fa ti35 j0 j0 j0<|g j0 hb2<|ld ti3 j0 j0<|g j0 hb2<|eql ti3 j0 j0<|r_nil (egA [12,13,14] 3 hb2 j0 j0 j0 j0)) andF<|u<|mv j0<|r_and (j:=13) 3 j0 j0 j0 j0 j0 gpn (fun hb3=>g j0 hb3<|fa ti35 j0 j0 j0<|g j0 hb3<|ld ti3 j0 j0<|g j0 hb3<|eql ti3 j0 j0<|r_nil (egA [17,18,19] 3 hb3 j0 j0 j0 j0)) andF<|u<|mv j0<|r_and (j:=18) 12 j0 j0 j0 j0 j0 gpn (fun hb4=>g j0 hb4<|fa ti35 j0 j0 j0<|g j0 hb4<|ld ti31 j0 j0<|g j0 hb4<|lnI ti31 j0 j0<|g j0 hb4<|fa ti35 j0 j0 j0<|g j0 hb4<|ld ti32 j0 j0<|g j0 hb4<|lnI ti32 j0 j0<|g j0 hb4<|add ti3 j0 j0<|g j0 hb4<|fa ti35 j0 j0 j0<|g j0 hb4<|ld ti33 j0 j0<|g j0 hb4<|lnI ti33 j0 j0<|g j0 hb4<|add ti3 j0 j0<|g j0 hb4<|eql ti3 j0 j0<|r_nil (egA [22,23,24,25,26,27,28,29,30,31,32,33] 12 hb4 j0 j0 j0 j0)) andF<|u<|asg j0<|r_nil ?_
 refine sw_ret ?_
 obtain rfl:=h
 exact ⟨_,j0,[],ci j0,j0,j5,j0,j1⟩
def class_args (v1 : ApiMethod) : Int :=
  cond v1.Static ((List.length v1.Params : Int)) ((IntKind.i64.wrap ((List.length v1.Params : Int) + 1)))
theorem class_args_ok (v1 : ApiMethod) {r : Int} (h : class_args v1 = r) : PureC Tryz.prog 95 [.agg [sA v1.Name,.isl 1 (List.map rStr v1.Params),sA v1.Ret,bA v1.Static,bA v1.Abstract,iA v1.Locals,iA v1.Stack,.isl 4 (List.map rApiIns v1.Code),.isl 3 (List.map rApiMap v1.Maps),.isl 4 (List.map rApiTrap v1.Traps)]] (iA r):=by
 refine pure_fn Tryz.func95 j0 (by kernel_rfl) j0 j0 ?_
 unfold class_args at h
 refine rg j0<|u<|bx 0 10 j0 j0 j0 j0<|u<|asg j0<|r_nil ?_
 refine sw_seq ?_
 refine rg j0<|u<|fa ti35 j0 j0 j0<|u<|ld ti4 j0 j0<|r_nil ?_
 refine sw_cond j0 (fun hc1=>?_) (fun hc1=>?_)
 ·
  replace h:=bT hc1 h
  refine rg j0<|u<|fa ti35 j0 j0 j0<|u<|ld ti24 j0 j0<|u<|lnI ti24 j0 j0<|u<|asg j0<|r_nil ?_
  refine sw_ret ?_
  obtain rfl:=h
  exact ⟨_,j0,[],ci j0,j0,j5,j0,j1⟩
 ·
  replace h:=bF hc1 h
  refine sw_skip ?_
  refine rg j0<|u<|fa ti35 j0 j0 j0<|u<|ld ti24 j0 j0<|u<|lnI ti24 j0 j0<|u<|add ti3 j0 j0<|u<|asg j0<|r_nil ?_
  refine sw_ret ?_
  obtain rfl:=h
  exact ⟨_,j0,[],ci j0,j0,j5,j0,j1⟩
def class_between (v1 : Int) (v2 : Int) (v3 : Int) : Bool :=
  ((decide (v2 ≤ v1)) && (decide (v1 ≤ v3)))
theorem class_between_ok (v1 : Int) (v2 : Int) (v3 : Int) {r : Bool} (h : class_between v1 v2 v3 = r) : PureC Tryz.prog 94 [iA v1,iA v2,iA v3] (bA r):=by
 refine pure_fn Tryz.func94 j0 (by kernel_rfl) j0 j0 ?_
 unfold class_between at h
 refine rg j0<|u<|asg j0<|r_nil ?_
 refine rg j0<|u<|mv j0<|u<|mv j0<|u<|geq ti3 j0 j0<|u<|mv j0<|r_and (j:=3) 3 j0 j0 j0 j0 j0 gpn (fun hb1=>g j0 hb1<|mv j0<|g j0 hb1<|mv j0<|g j0 hb1<|leq ti3 j0 j0<|r_nil (egA [11,12,13] 3 hb1 j0 j0 j0 j0)) andF<|u<|asg j0<|r_nil ?_
 refine sw_ret ?_
 obtain rfl:=h
 exact ⟨_,j0,[],ci j0,j0,j5,j0,j1⟩
def class_instructions_1 (v1 : ApiIns) (v2 : Int) : Option (Bool) :=
  (op_May v1).bind fun v3=>some ((!v3) || ((op_Jumps v1.Op) && (decide (v2 ≤ v1.A))))
theorem class_instructions_1_ok (v1 : ApiIns) (v2 : Int) {r : Bool} (h : class_instructions_1 v1 v2 = some r) : PureC Tryz.prog 142 [.agg [iA v1.Op,iA v1.A,sA v1.C,sA v1.M],.ipt 1 [[iA v2]] 0 0] (bA r):=by
 refine pure_fn Tryz.func142 j0 (by kernel_rfl) j0 j0 ?_
 unfold class_instructions_1 at h
 refine rg j0<|u<|bx 0 4 j0 j0 j0 j0<|u<|asg j0<|r_nil ?_
 obtain ⟨v3,q1,h⟩:=bs h
 refine rg j0<|u<|ld ti37 j0 j0<|u<|pc (op_May_ok v1 q1) j0 j0 j0<|u<|nt j0<|u<|mv j0<|r_or (j:=3) 9 j0 j0 j0 j0 j0 gpn (fun hb2=>g j0 hb2<|fa ti37 j0 j0 j0<|g j0 hb2<|ld ti3 j0 j0<|g j0 hb2<|pc (op_Jumps_ok v1.Op j0) j0 j0 j0<|g j0 hb2<|mv j0<|r_and (j:=7) 4 j0 j0 j0 j0 j0 (gps j0 j0 hb2) (fun hb3=>g j0 hb3<|fa ti37 j0 j0 j0<|g j0 hb3<|ld ti3 j0 j0<|g j0 hb3<|ld ti3 j0 j0<|g j0 hb3<|geq ti3 j0 j0<|r_nil (egA [12,13,14,15] 4 hb3 j0 j0 j0 j0)) andF<|r_nil (egO [8,9,10,11,12,13,14,15,16] 5 hb2 j0 j0 j0 j0)) orT<|u<|asg j0<|r_nil ?_
 refine sw_ret ?_
 obtain rfl:=sm h
 exact ⟨_,j0,[],ci j0,j0,j5,j0,j1⟩
def slices_IndexFunc_api_Ins_api_Ins_k2 : Option (Int) :=
  some (-1)
def slices_IndexFunc_api_Ins_api_Ins_l1 (v1 : List ApiIns) (v2 : Int) (v6 : Int) : Option (Sum (Int) (Sum (Unit) (Int))) :=
  cond (decide (v6 < (List.length v1 : Int))) ((idx v1 v6).bind fun v7=>(class_instructions_1 v7 v2).bind fun v8=>cond v8 (some (.inr (.inr v6))) (some (.inl (IntKind.i64.wrap (v6 + 1))))) (some (.inr (.inl ())))
def slices_IndexFunc_api_Ins_api_Ins (v1 : List ApiIns) (v2 : Int) : Option (Int) :=
  (loopP (fun z=>slices_IndexFunc_api_Ins_api_Ins_l1 v1 v2 z) 0).bind fun o=>leave o (fun b=>slices_IndexFunc_api_Ins_api_Ins_k2) some
theorem slices_IndexFunc_api_Ins_api_Ins_ok (v1 : List ApiIns) (v2 : Int) {r : Int} (h : slices_IndexFunc_api_Ins_api_Ins v1 v2 = some r) : PureC Tryz.prog 166 [.isl 4 (List.map rApiIns v1),.fn (.func 142) [] [.ipt 1 [[iA v2]] 0 0]] (iA r):=by
 refine pure_fn Tryz.func166 j0 (by kernel_rfl) j0 j0 ?_
 unfold slices_IndexFunc_api_Ins_api_Ins at h
 refine rg j0<|u<|asg j0<|r_nil ?_
 refine sw_seq ?_
 refine rg j0<|u<|mv j0<|u<|lnI ti31 j0 j0<|u<|mv j0<|r_nil ?_
 obtain ⟨o,ho,h⟩:=bs h
 refine sw_lpl (X:=Int) (B:=Unit) (R:=Int) (fun z=>[(0,.isl 4 (List.map rApiIns v1)),(1,.fn (.func 142) [] [.ipt 1 [[iA v2]] 0 0]),(7,iA (List.length v1 : Int)),(8,iA z)]) (fun z=>[]) (fun b=>[]) (fun b=>[]) (fun r env st=>PostF Tryz.prog Tryz.f166 0 (iA r) [] env st) ho ⟨[],ce j0 j0<|ce j0 j0<|ce j0 j0<|ce j0 j0<|cn,j0,j5,j0,j1⟩ ?_ ?_ ?_
 ·
  rintro v6 r h
  replace h : slices_IndexFunc_api_Ins_api_Ins_l1 v1 v2 v6 = some r:=h
  unfold slices_IndexFunc_api_Ins_api_Ins_l1 at h
  refine rg j0<|u<|lss ti3 j0 j0<|r_nil ?_
  refine sw_seq ?_
  refine sw_cond j0 (fun hc5=>?_) (fun hc5=>?_)
  ·
   replace h:=bT hc5 h
   refine sw_skip ?_
   refine sw_seq ?_
   refine sw_block ?_
   refine rg j0<|u<|mv j0<|u<|asg j0<|r_nil ?_
   obtain ⟨v7,q6,h⟩:=bs h
   obtain ⟨v8,q7,h⟩:=bs h
   refine rg j0<|u<|mv j0<|u<|mv j0<|u<|mv j0<|u<|ixI ti31 j0 ti37 j0 j0 j0 q6<|u<|ldI ti37 j0 (idx_some q6).2.2 j0<|u<|pc (class_instructions_1_ok v7 v2 q7) j0 j0 j0<|r_nil ?_
   refine sw_cond j0 (fun hc8=>?_) (fun hc8=>?_)
   ·
    replace h:=bT hc8 h
    refine rg j0<|u<|mv j0<|u<|asg j0<|r_nil ?_
    refine sw_ret ?_
    obtain rfl:=sm h
    exact ⟨_,j0,_,j0,[],ci j0,j0,j5,j0,j1⟩
   ·
    replace h:=bF hc8 h
    refine sw_skip ?_
    refine rl j0<|u<|add ti3 j0 j0<|u<|mv j0<|r_nil ?_
    obtain rfl:=sm h
    exact ⟨_,j0,[],ce j0 j0<|ce j0 j0<|ce j0 j0<|ce j0 j0<|cn,j0,j5,j0,j1⟩
  ·
   replace h:=bF hc5 h
   refine sw_exit ?_
   obtain rfl:=sm h
   exact ⟨j0,_,j0,[],cn,j0,j5,j0,j1⟩
 ·
  rintro ⟨⟩ rfl
  replace h : slices_IndexFunc_api_Ins_api_Ins_k2 = some r:=h
  unfold slices_IndexFunc_api_Ins_api_Ins_k2 at h
  refine ow_intro ?_
  refine rg j0<|u<|asg j0<|r_nil ?_
  refine sw_ret ?_
  obtain rfl:=sm h
  exact ⟨_,j0,[],ci j0,j0,j5,j0,j1⟩
 ·
  rintro r' rfl env st hp
  obtain rfl:=sm h
  exact hp
def slices_ContainsFunc_api_Ins_api_Ins (v1 : List ApiIns) (v2 : Int) : Option (Bool) :=
  (slices_IndexFunc_api_Ins_api_Ins v1 v2).bind fun v3=>some (decide (0 ≤ v3))
theorem slices_ContainsFunc_api_Ins_api_Ins_ok (v1 : List ApiIns) (v2 : Int) {r : Bool} (h : slices_ContainsFunc_api_Ins_api_Ins v1 v2 = some r) : PureC Tryz.prog 141 [.isl 4 (List.map rApiIns v1),.fn (.func 142) [] [.ipt 1 [[iA v2]] 0 0]] (bA r):=by
 refine pure_fn Tryz.func141 j0 (by kernel_rfl) j0 j0 ?_
 unfold slices_ContainsFunc_api_Ins_api_Ins at h
 refine rg j0<|u<|asg j0<|r_nil ?_
 obtain ⟨v3,q1,h⟩:=bs h
 refine rg j0<|u<|mv j0<|u<|mv j0<|u<|pc (slices_IndexFunc_api_Ins_api_Ins_ok v1 v2 q1) j0 j0 j0<|u<|geq ti3 j0 j0<|u<|asg j0<|r_nil ?_
 refine sw_ret ?_
 obtain rfl:=sm h
 exact ⟨_,j0,[],ci j0,j0,j5,j0,j1⟩
def class_instructions (v1 : ApiMethod) : Option (Bool) :=
  (cond (!(class_between (List.length v1.Code : Int) 1 100)) (some true) ((idx v1.Code (IntKind.i64.wrap ((List.length v1.Code : Int) - 1))).bind fun v2=>some (!(op_Ends v2.Op)))).bind fun v3=>cond v3 (some false) ((slices_ContainsFunc_api_Ins_api_Ins v1.Code (List.length v1.Code : Int)).bind fun v4=>some (!v4))
theorem class_instructions_ok (v1 : ApiMethod) {r : Bool} (h : class_instructions v1 = some r) : PureC Tryz.prog 96 [.agg [sA v1.Name,.isl 1 (List.map rStr v1.Params),sA v1.Ret,bA v1.Static,bA v1.Abstract,iA v1.Locals,iA v1.Stack,.isl 4 (List.map rApiIns v1.Code),.isl 3 (List.map rApiMap v1.Maps),.isl 4 (List.map rApiTrap v1.Traps)]] (bA r):=by
 refine pure_fn Tryz.func96 j0 (by kernel_rfl) j0 j0 ?_
 unfold class_instructions at h
 refine rg j0<|u<|bx 0 10 j0 j0 j0 j0<|u<|asg j0<|r_nil ?_
 refine rg j0<|u<|fa ti35 j0 j0 j0<|u<|ld ti31 j0 j0<|u<|lnI ti31 j0 j0<|u<|al 1 ti3 j0<|u<|sto ti3 j0 j0 j0<|r_nil ?_
 refine sw_seq ?_
 obtain ⟨v3,q3,h⟩:=bs h
 refine rg j0<|u<|ld ti3 j0 j0<|u<|pc (class_between_ok (List.length v1.Code : Int) 1 100 j0) j0 j0 j0<|u<|nt j0<|u<|mv j0<|r_or (x:=v3) (j:=3) 9 j0 j0 j0 j0 j0 gpn (fun hb1=>by replace q3:=bF hb1 q3; obtain ⟨v2,q2,q3⟩:=bs q3; obtain rfl:=sm q3; exact g j0 hb1<|fa ti35 j0 j0 j0<|g j0 hb1<|ld ti31 j0 j0<|g j0 hb1<|ld ti3 j0 j0<|g j0 hb1<|sub ti3 j0 j0<|g j0 hb1<|ixI ti31 j0 ti37 j0 j0 j0 q2<|g j0 hb1<|fa ti37 j0 j0 j0<|g j0 hb1<|ldI ti3 j0 (idx_some q2).2.2 j0<|g j0 hb1<|pc (op_Ends_ok v2.Op j0) j0 j0 j0<|g j0 hb1<|nt j0<|r_nil (eg [11,12,13,14,15,16,17,18,19] 9 j0 j0 j0 j0)) (fun hb=>(sm (bT hb q3)).symm)<|r_nil ?_
 refine sw_cond j0 (fun hc4=>?_) (fun hc4=>?_)
 ·
  replace h:=bT hc4 h
  refine rg j0<|u<|asg j0<|r_nil ?_
  refine sw_ret ?_
  obtain rfl:=sm h
  exact ⟨_,j0,[],ci j0,j0,j5,j0,j1⟩
 ·
  replace h:=bF hc4 h
  refine sw_skip ?_
  obtain ⟨v4,q5,h⟩:=bs h
  refine rg j0<|u<|fa ti35 j0 j0 j0<|u<|ld ti31 j0 j0<|u<|mf j0 j0<|u<|pcs (slices_ContainsFunc_api_Ins_api_Ins_ok v1.Code (List.length v1.Code : Int) q5) j0 j0 (.cons (si j0) (.cons (sealFn j5 ⟨(sealBox j0 ⟨(si j0),j5⟩),j5⟩) .nil)) plainB<|u<|nt j0<|u<|asg j0<|r_nil ?_
  refine sw_ret ?_
  obtain rfl:=sm h
  exact ⟨_,j0,[],ci j0,j0,j5,j0,j1⟩
def class_slot (v1 : List UInt8) : Option (Bool) :=
  (cond (((v1 == [73]) || (v1 == [78])) || (v1 == [84])) (some true) ((kind_Ref v1).bind fun v2=>some v2)).bind fun v3=>some v3
theorem class_slot_ok (v1 : List UInt8) {r : Bool} (h : class_slot v1 = some r) : PureC Tryz.prog 143 [sA v1] (bA r):=by
 refine pure_fn Tryz.func143 j0 (by kernel_rfl) j0 j0 ?_
 unfold class_slot at h
 refine rg j0<|u<|asg j0<|r_nil ?_
 obtain ⟨v3,q5,h⟩:=bs h
 refine rg j0<|u<|mv j0<|u<|seq ti9 j0 j0<|u<|mv j0<|r_or (j:=2) 2 j0 j0 j0 j0 j0 gpn (fun hb1=>g j0 hb1<|mv j0<|g j0 hb1<|seq ti9 j0 j0<|r_nil (egO [6,7] 2 hb1 j0 j0 j0 j0)) orT<|u<|mv j0<|r_or (j:=6) 2 j0 j0 j0 j0 j0 gpn (fun hb2=>g j0 hb2<|mv j0<|g j0 hb2<|seq ti9 j0 j0<|r_nil (egO [10,11] 2 hb2 j0 j0 j0 j0)) orT<|u<|mv j0<|r_or (x:=v3) (j:=10) 2 j0 j0 j0 j0 j0 gpn (fun hb3=>by replace q5:=bF hb3 q5; obtain ⟨v2,q4,q5⟩:=bs q5; obtain rfl:=sm q5; exact g j0 hb3<|mv j0<|g j0 hb3<|pc (kind_Ref_ok v1 q4) j0 j0 j0<|r_nil (eg [14,15] 2 j0 j0 j0 j0)) (fun hb=>(sm (bT hb q5)).symm)<|u<|asg j0<|r_nil ?_
 refine sw_ret ?_
 obtain rfl:=sm h
 exact ⟨_,j0,[],ci j0,j0,j5,j0,j1⟩
def class_types_1_s2 (v1 : List UInt8) : Option (Bool) :=
  (class_slot v1).bind fun v2=>some (!v2)
theorem class_types_1_s2_ok (v1 : List UInt8) {r : Bool} (h : class_types_1_s2 v1 = some r) : PureC Tryz.prog 140 [sA v1,.ipt 1 [[.fn (.func 143) [] []]] 0 0] (bA r):=by
 refine pure_fn Tryz.func140 j0 (by kernel_rfl) j0 j0 ?_
 unfold class_types_1_s2 at h
 refine rg j0<|u<|asg j0<|r_nil ?_
 obtain ⟨v2,q1,h⟩:=bs h
 refine rg j0<|u<|ld ti59 j0 j0<|u<|mv j0<|u<|pc (class_slot_ok v1 q1) j0 j0 j0<|u<|nt j0<|u<|asg j0<|r_nil ?_
 refine sw_ret ?_
 obtain rfl:=sm h
 exact ⟨_,j0,[],ci j0,j0,j5,j0,j1⟩
def slices_IndexFunc_string_string_s2_k2 : Option (Int) :=
  some (-1)
def slices_IndexFunc_string_string_s2_l1 (v1 : List (List UInt8)) (v5 : Int) : Option (Sum (Int) (Sum (Unit) (Int))) :=
  cond (decide (v5 < (List.length v1 : Int))) ((idx v1 v5).bind fun v6=>(class_types_1_s2 v6).bind fun v7=>cond v7 (some (.inr (.inr v5))) (some (.inl (IntKind.i64.wrap (v5 + 1))))) (some (.inr (.inl ())))
def slices_IndexFunc_string_string_s2 (v1 : List (List UInt8)) : Option (Int) :=
  (loopP (fun z=>slices_IndexFunc_string_string_s2_l1 v1 z) 0).bind fun o=>leave o (fun b=>slices_IndexFunc_string_string_s2_k2) some
theorem slices_IndexFunc_string_string_s2_ok (v1 : List (List UInt8)) {r : Int} (h : slices_IndexFunc_string_string_s2 v1 = some r) : PureC Tryz.prog 147 [.isl 1 (List.map rStr v1),.fn (.func 140) [] [.ipt 1 [[.fn (.func 143) [] []]] 0 0]] (iA r):=by
 refine pure_fn Tryz.func147 j0 (by kernel_rfl) j0 j0 ?_
 unfold slices_IndexFunc_string_string_s2 at h
 refine rg j0<|u<|asg j0<|r_nil ?_
 refine sw_seq ?_
 refine rg j0<|u<|mv j0<|u<|lnI ti24 j0 j0<|u<|mv j0<|r_nil ?_
 obtain ⟨o,ho,h⟩:=bs h
 refine sw_lpl (X:=Int) (B:=Unit) (R:=Int) (fun z=>[(0,.isl 1 (List.map rStr v1)),(1,.fn (.func 140) [] [.ipt 1 [[.fn (.func 143) [] []]] 0 0]),(7,iA (List.length v1 : Int)),(8,iA z)]) (fun z=>[]) (fun b=>[]) (fun b=>[]) (fun r env st=>PostF Tryz.prog Tryz.f147 0 (iA r) [] env st) ho ⟨[],ce j0 j0<|ce j0 j0<|ce j0 j0<|ce j0 j0<|cn,j0,j5,j0,j1⟩ ?_ ?_ ?_
 ·
  rintro v5 r h
  replace h : slices_IndexFunc_string_string_s2_l1 v1 v5 = some r:=h
  unfold slices_IndexFunc_string_string_s2_l1 at h
  refine rg j0<|u<|lss ti3 j0 j0<|r_nil ?_
  refine sw_seq ?_
  refine sw_cond j0 (fun hc5=>?_) (fun hc5=>?_)
  ·
   replace h:=bT hc5 h
   refine sw_skip ?_
   refine sw_seq ?_
   refine sw_block ?_
   refine rg j0<|u<|mv j0<|u<|asg j0<|r_nil ?_
   obtain ⟨v6,q6,h⟩:=bs h
   obtain ⟨v7,q7,h⟩:=bs h
   refine rg j0<|u<|mv j0<|u<|mv j0<|u<|mv j0<|u<|ixI ti24 j0 ti9 j0 j0 j0 q6<|u<|ldI ti9 j0 (idx_some q6).2.2 j0<|u<|pc (class_types_1_s2_ok v6 q7) j0 j0 j0<|r_nil ?_
   refine sw_cond j0 (fun hc8=>?_) (fun hc8=>?_)
   ·
    replace h:=bT hc8 h
    refine rg j0<|u<|mv j0<|u<|asg j0<|r_nil ?_
    refine sw_ret ?_
    obtain rfl:=sm h
    exact ⟨_,j0,_,j0,[],ci j0,j0,j5,j0,j1⟩
   ·
    replace h:=bF hc8 h
    refine sw_skip ?_
    refine rl j0<|u<|add ti3 j0 j0<|u<|mv j0<|r_nil ?_
    obtain rfl:=sm h
    exact ⟨_,j0,[],ce j0 j0<|ce j0 j0<|ce j0 j0<|ce j0 j0<|cn,j0,j5,j0,j1⟩
  ·
   replace h:=bF hc5 h
   refine sw_exit ?_
   obtain rfl:=sm h
   exact ⟨j0,_,j0,[],cn,j0,j5,j0,j1⟩
 ·
  rintro ⟨⟩ rfl
  replace h : slices_IndexFunc_string_string_s2_k2 = some r:=h
  unfold slices_IndexFunc_string_string_s2_k2 at h
  refine ow_intro ?_
  refine rg j0<|u<|asg j0<|r_nil ?_
  refine sw_ret ?_
  obtain rfl:=sm h
  exact ⟨_,j0,[],ci j0,j0,j5,j0,j1⟩
 ·
  rintro r' rfl env st hp
  obtain rfl:=sm h
  exact hp
def slices_ContainsFunc_string_string_s2 (v1 : List (List UInt8)) : Option (Bool) :=
  (slices_IndexFunc_string_string_s2 v1).bind fun v2=>some (decide (0 ≤ v2))
theorem slices_ContainsFunc_string_string_s2_ok (v1 : List (List UInt8)) {r : Bool} (h : slices_ContainsFunc_string_string_s2 v1 = some r) : PureC Tryz.prog 100 [.isl 1 (List.map rStr v1),.fn (.func 140) [] [.ipt 1 [[.fn (.func 143) [] []]] 0 0]] (bA r):=by
 refine pure_fn Tryz.func100 j0 (by kernel_rfl) j0 j0 ?_
 unfold slices_ContainsFunc_string_string_s2 at h
 refine rg j0<|u<|asg j0<|r_nil ?_
 obtain ⟨v2,q1,h⟩:=bs h
 refine rg j0<|u<|mv j0<|u<|mv j0<|u<|pc (slices_IndexFunc_string_string_s2_ok v1 q1) j0 j0 j0<|u<|geq ti3 j0 j0<|u<|asg j0<|r_nil ?_
 refine sw_ret ?_
 obtain rfl:=sm h
 exact ⟨_,j0,[],ci j0,j0,j5,j0,j1⟩
def class_types_s2 (v1 : List (List UInt8)) : Option (Bool) :=
  (slices_ContainsFunc_string_string_s2 v1).bind fun v2=>some (!v2)
theorem class_types_s2_ok (v1 : List (List UInt8)) {r : Bool} (h : class_types_s2 v1 = some r) : PureC Tryz.prog 91 [.isl 1 (List.map rStr v1),.fn (.func 143) [] []] (bA r):=by
 refine pure_fn Tryz.func91 j0 (by kernel_rfl) j0 j0 ?_
 unfold class_types_s2 at h
 refine rg j0<|u<|bx 0 1 j0 j0 j0 j0<|u<|asg j0<|r_nil ?_
 obtain ⟨v2,q1,h⟩:=bs h
 refine rg j0<|u<|mv j0<|u<|mf j0 j0<|u<|pcs (slices_ContainsFunc_string_string_s2_ok v1 q1) j0 j0 (.cons (si j0) (.cons (sealFn j5 ⟨(sealBox j0 ⟨(si j0),j5⟩),j5⟩) .nil)) plainB<|u<|nt j0<|u<|asg j0<|r_nil ?_
 refine sw_ret ?_
 obtain rfl:=sm h
 exact ⟨_,j0,[],ci j0,j0,j5,j0,j1⟩
def slices_Index_string_string_k2 : Option (Int) :=
  some (-1)
def slices_Index_string_string_l1 (v1 : List (List UInt8)) (v2 : List UInt8) (v5 : Int) : Option (Sum (Int) (Sum (Unit) (Int))) :=
  cond (decide (v5 < (List.length v1 : Int))) ((idx v1 v5).bind fun v6=>cond (v2 == v6) (some (.inr (.inr v5))) (some (.inl (IntKind.i64.wrap (v5 + 1))))) (some (.inr (.inl ())))
def slices_Index_string_string (v1 : List (List UInt8)) (v2 : List UInt8) : Option (Int) :=
  (loopP (fun z=>slices_Index_string_string_l1 v1 v2 z) 0).bind fun o=>leave o (fun b=>slices_Index_string_string_k2) some
theorem slices_Index_string_string_ok (v1 : List (List UInt8)) (v2 : List UInt8) {r : Int} (h : slices_Index_string_string v1 v2 = some r) : PureC Tryz.prog 109 [.isl 1 (List.map rStr v1),sA v2] (iA r):=by
 refine pure_fn Tryz.func109 j0 (by kernel_rfl) j0 j0 ?_
 unfold slices_Index_string_string at h
 refine rg j0<|u<|asg j0<|r_nil ?_
 refine sw_seq ?_
 refine rg j0<|u<|mv j0<|u<|lnI ti24 j0 j0<|u<|mv j0<|r_nil ?_
 obtain ⟨o,ho,h⟩:=bs h
 refine sw_lpl (X:=Int) (B:=Unit) (R:=Int) (fun z=>[(0,.isl 1 (List.map rStr v1)),(1,sA v2),(7,iA (List.length v1 : Int)),(8,iA z)]) (fun z=>[]) (fun b=>[]) (fun b=>[]) (fun r env st=>PostF Tryz.prog Tryz.f109 0 (iA r) [] env st) ho ⟨[],ce j0 j0<|ce j0 j0<|ce j0 j0<|ce j0 j0<|cn,j0,j5,j0,j1⟩ ?_ ?_ ?_
 ·
  rintro v5 r h
  replace h : slices_Index_string_string_l1 v1 v2 v5 = some r:=h
  unfold slices_Index_string_string_l1 at h
  refine rg j0<|u<|lss ti3 j0 j0<|r_nil ?_
  refine sw_seq ?_
  refine sw_cond j0 (fun hc4=>?_) (fun hc4=>?_)
  ·
   replace h:=bT hc4 h
   refine sw_skip ?_
   refine sw_seq ?_
   refine sw_block ?_
   refine rg j0<|u<|mv j0<|u<|asg j0<|r_nil ?_
   obtain ⟨v6,q5,h⟩:=bs h
   refine rg j0<|u<|mv j0<|u<|mv j0<|u<|mv j0<|u<|ixI ti24 j0 ti9 j0 j0 j0 q5<|u<|ldI ti9 j0 (idx_some q5).2.2 j0<|u<|seq ti9 j0 j0<|r_nil ?_
   refine sw_cond j0 (fun hc6=>?_) (fun hc6=>?_)
   ·
    replace h:=bT hc6 h
    refine rg j0<|u<|mv j0<|u<|asg j0<|r_nil ?_
    refine sw_ret ?_
    obtain rfl:=sm h
    exact ⟨_,j0,_,j0,[],ci j0,j0,j5,j0,j1⟩
   ·
    replace h:=bF hc6 h
    refine sw_skip ?_
    refine rl j0<|u<|add ti3 j0 j0<|u<|mv j0<|r_nil ?_
    obtain rfl:=sm h
    exact ⟨_,j0,[],ce j0 j0<|ce j0 j0<|ce j0 j0<|ce j0 j0<|cn,j0,j5,j0,j1⟩
  ·
   replace h:=bF hc4 h
   refine sw_exit ?_
   obtain rfl:=sm h
   exact ⟨j0,_,j0,[],cn,j0,j5,j0,j1⟩
 ·
  rintro ⟨⟩ rfl
  replace h : slices_Index_string_string_k2 = some r:=h
  unfold slices_Index_string_string_k2 at h
  refine ow_intro ?_
  refine rg j0<|u<|asg j0<|r_nil ?_
  refine sw_ret ?_
  obtain rfl:=sm h
  exact ⟨_,j0,[],ci j0,j0,j5,j0,j1⟩
 ·
  rintro r' rfl env st hp
  obtain rfl:=sm h
  exact hp
def slices_Contains_string_string (v1 : List (List UInt8)) (v2 : List UInt8) : Option (Bool) :=
  (slices_Index_string_string v1 v2).bind fun v3=>some (decide (0 ≤ v3))
theorem slices_Contains_string_string_ok (v1 : List (List UInt8)) (v2 : List UInt8) {r : Bool} (h : slices_Contains_string_string v1 v2 = some r) : PureC Tryz.prog 144 [.isl 1 (List.map rStr v1),sA v2] (bA r):=by
 refine pure_fn Tryz.func144 j0 (by kernel_rfl) j0 j0 ?_
 unfold slices_Contains_string_string at h
 refine rg j0<|u<|asg j0<|r_nil ?_
 obtain ⟨v3,q1,h⟩:=bs h
 refine rg j0<|u<|mv j0<|u<|mv j0<|u<|pc (slices_Index_string_string_ok v1 v2 q1) j0 j0 j0<|u<|geq ti3 j0 j0<|u<|asg j0<|r_nil ?_
 refine sw_ret ?_
 obtain rfl:=sm h
 exact ⟨_,j0,[],ci j0,j0,j5,j0,j1⟩
def class_maps_k4 (v1 : ApiMethod) : Option (Bool) :=
  some (decide ((List.length v1.Maps : Int) ≤ 100))
def class_maps_j2 (v1 : ApiMethod) (v12 : Int) (v13 : ApiMap) (v15 : Bool) : Option (Sum (Int) (Sum (Unit) (Bool))) :=
  cond v15 (some (.inr (.inr false))) ((cond ((!((List.length v13.Locals : Int) == v1.Locals)) || (decide (v1.Stack < (List.length v13.Stack : Int)))) (some true) ((class_types_s2 v13.Locals).bind fun v16=>some (!v16))).bind fun v17=>(cond v17 (some true) ((class_types_s2 v13.Stack).bind fun v18=>some (!v18))).bind fun v19=>(cond v19 (some true) ((slices_Contains_string_string v13.Stack [84]).bind fun v20=>some v20)).bind fun v21=>cond v21 (some (.inr (.inr false))) (some (.inl (IntKind.i64.wrap (v12 + 1)))))
def class_maps_l3 (v1 : ApiMethod) (v12 : Int) : Option (Sum (Int) (Sum (Unit) (Bool))) :=
  cond (decide (v12 < (List.length v1.Maps : Int))) ((idx v1.Maps v12).bind fun v13=>cond (!(class_between v13.At 0 (IntKind.i64.wrap ((List.length v1.Code : Int) - 1)))) (class_maps_j2 v1 v12 v13 true) (cond (decide (0 < v12)) ((idx v1.Maps (IntKind.i64.wrap (v12 - 1))).bind fun v14=>class_maps_j2 v1 v12 v13 (decide (v13.At ≤ v14.At))) (class_maps_j2 v1 v12 v13 false))) (some (.inr (.inl ())))
def class_maps (v1 : ApiMethod) : Option (Bool) :=
  (loopP (fun z=>class_maps_l3 v1 z) 0).bind fun o=>leave o (fun b=>class_maps_k4 v1) some
theorem class_maps_ok (v1 : ApiMethod) {r : Bool} (h : class_maps v1 = some r) : PureC Tryz.prog 97 [.agg [sA v1.Name,.isl 1 (List.map rStr v1.Params),sA v1.Ret,bA v1.Static,bA v1.Abstract,iA v1.Locals,iA v1.Stack,.isl 4 (List.map rApiIns v1.Code),.isl 3 (List.map rApiMap v1.Maps),.isl 4 (List.map rApiTrap v1.Traps)]] (bA r):=by
 refine pure_fn Tryz.func97 j0 (by kernel_rfl) j0 j0 ?_
 unfold class_maps at h
 refine rg j0<|u<|bx 0 10 j0 j0 j0 j0<|u<|asg j0<|r_nil ?_
 refine sw_seq ?_
 refine rg j0<|u<|fa ti35 j0 j0 j0<|u<|ld ti32 j0 j0<|u<|lnI ti32 j0 j0<|u<|mv j0<|r_nil ?_
 obtain ⟨o,ho,h⟩:=bs h
 refine sw_lpl (X:=Int) (B:=Unit) (R:=Bool) (fun z=>[(1,.mpt 0 0 0),(6,.isl 3 (List.map rApiMap v1.Maps)),(7,iA (List.length v1.Maps : Int)),(8,iA z)]) (fun z=>[some (10,[[sA v1.Name,.isl 1 (List.map rStr v1.Params),sA v1.Ret,bA v1.Static,bA v1.Abstract,iA v1.Locals,iA v1.Stack,.isl 4 (List.map rApiIns v1.Code),.isl 3 (List.map rApiMap v1.Maps),.isl 4 (List.map rApiTrap v1.Traps)]])]) (fun b=>[(1,.mpt 0 0 0)]) (fun b=>[some (10,[[sA v1.Name,.isl 1 (List.map rStr v1.Params),sA v1.Ret,bA v1.Static,bA v1.Abstract,iA v1.Locals,iA v1.Stack,.isl 4 (List.map rApiIns v1.Code),.isl 3 (List.map rApiMap v1.Maps),.isl 4 (List.map rApiTrap v1.Traps)]])]) (fun r env st=>PostF Tryz.prog Tryz.f97 0 (bA r) [] env st) ho ⟨[.old 0],cv j0 (.mpt j0)<|ce j0 j0<|ce j0 j0<|ce j0 j0<|cn,j0,⟨⟨_,j0,rsOne ⟨ci j0,ci j0,ci j0,ci j0,ci j0,ci j0,ci j0,ci j0,ci j0,ci j0,j5⟩⟩,j5⟩,j0,j1⟩ ?_ ?_ ?_
 ·
  rintro v12 r h
  replace h : class_maps_l3 v1 v12 = some r:=h
  unfold class_maps_l3 at h
  refine rg j0<|u<|lss ti3 j0 j0<|r_nil ?_
  refine sw_seq ?_
  refine sw_cond j0 (fun hc18=>?_) (fun hc18=>?_)
  ·
   replace h:=bT hc18 h
   refine sw_skip ?_
   refine sw_seq ?_
   refine sw_block ?_
   obtain ⟨v13,q19,h⟩:=bs h
   refine rg j0<|u<|mv j0<|u<|ixI ti32 j0 ti39 j0 j0 j0 q19<|u<|ldI ti39 j0 (idx_some q19).2.2 j0<|u<|al 1 ti39 j0<|u<|asg j0<|u<|sto ti39 j0 j0 j0<|r_nil ?_
   refine sw_seq ?_
   refine sw_meet (X:=Bool) (fun z=>[(1,.mpt 0 0 0),(4,.mpt 1 0 0),(6,.isl 3 (List.map rApiMap v1.Maps)),(7,iA (List.length v1.Maps : Int)),(8,iA v12),(36,bA z)]) (fun z=>[some (10,[[sA v1.Name,.isl 1 (List.map rStr v1.Params),sA v1.Ret,bA v1.Static,bA v1.Abstract,iA v1.Locals,iA v1.Stack,.isl 4 (List.map rApiIns v1.Code),.isl 3 (List.map rApiMap v1.Maps),.isl 4 (List.map rApiTrap v1.Traps)]]),some (3,[[iA v13.At,.isl 1 (List.map rStr v13.Locals),.isl 1 (List.map rStr v13.Stack)]])]) (fun z=>class_maps_j2 v1 v12 v13 z = some r) ?_ ?_
   ·
    rcases bb (!(class_between v13.At 0 (IntKind.i64.wrap ((List.length v1.Code : Int) - 1)))) with hb20 | hb20
    ·
     replace h:=bT hb20 h
     exact sw_region_dt [] [23,22,21,20,19,18,17,16,15,14,13,12,11,10,9,8,7,6,5,4,3,2,1,0] [(36,bA true),(35,.lit undef),(34,.lit undef),(33,.lit undef),(32,.lit undef),(31,.lit undef),(30,.lit undef),(29,.lit undef),(28,.lit undef),(27,.lit undef),(26,.lit undef),(25,.lit undef),(24,.lit undef),(23,.lit undef),(22,.lit undef),(21,bA (!(class_between v13.At 0 (IntKind.i64.wrap ((List.length v1.Code : Int) - 1))))),(20,bA (!(class_between v13.At 0 (IntKind.i64.wrap ((List.length v1.Code : Int) - 1))))),(19,bA (class_between v13.At 0 (IntKind.i64.wrap ((List.length v1.Code : Int) - 1)))),(18,iA (IntKind.i64.wrap ((List.length v1.Code : Int) - 1))),(17,iA (List.length v1.Code : Int)),(16,.isl 4 (List.map rApiIns v1.Code)),(15,.mpt 0 0 7),(14,iA v13.At),(13,.mpt 1 0 0)] 0 (by kernel_rfl) (by kernel_rfl) j0 (by kernel_rfl) (dt0 ⟨(fun _=>pa j0 j0 j0 j0 (pkb j0 hb20 j0<|j4)),(fun _=>pas (b:=(!(class_between v13.At 0 (IntKind.i64.wrap ((List.length v1.Code : Int) - 1))))) j0 j0 j0 j0 hb20 j0),(fun _=>pau j0 j0 j0 j0 j0),(fun _=>pau j0 j0 j0 j0 j0),(fun _=>pau j0 j0 j0 j0 j0),(fun _=>pau j0 j0 j0 j0 j0),(fun _=>pau j0 j0 j0 j0 j0),(fun _=>pau j0 j0 j0 j0 j0),(fun _=>pau j0 j0 j0 j0 j0),(fun _=>pau j0 j0 j0 j0 j0),(fun _=>pau j0 j0 j0 j0 j0),(fun _=>pau j0 j0 j0 j0 j0),(fun _=>pas (b:=(!(class_between v13.At 0 (IntKind.i64.wrap ((List.length v1.Code : Int) - 1))))) j0 j0 j0 j0 hb20 j0),(fun _=>pas (b:=(!(class_between v13.At 0 (IntKind.i64.wrap ((List.length v1.Code : Int) - 1))))) j0 j0 j0 j0 hb20 j0),(fun _=>pas (b:=(!(class_between v13.At 0 (IntKind.i64.wrap ((List.length v1.Code : Int) - 1))))) j0 j0 j0 j0 hb20 j0),(fun _=>pa j0 j0 j0 j0 (mv j0<|j4)),(fun _=>pa j0 j0 j0 j0 (nt j0<|j4)),(fun _=>pa j0 j0 j0 j0 (pc (class_between_ok v13.At 0 (IntKind.i64.wrap ((List.length v1.Code : Int) - 1)) j0) j0 j0 j0<|j4)),(fun _=>pa j0 j0 j0 j0 (sub ti3 j0 j0<|j4)),(fun _=>pa j0 j0 j0 j0 (lnI ti31 j0 j0<|j4)),(fun _=>pa j0 j0 j0 j0 (ld ti31 j0 j0<|j4)),(fun _=>pa j0 j0 j0 j0 (fa ti35 j0 j0 j0<|j4)),(fun _=>pa j0 j0 j0 j0 (ld ti3 j0 j0<|j4)),(fun _=>pa j0 j0 j0 j0 (fa ti39 j0 j0 j0<|j4)),j5⟩ (by kernel_rfl) j0 ⟨true,h,[.old 0,.old 1],cv j0 (.mpt j0)<|cv j0 (.mpt j0)<|ce j0 j0<|ce j0 j0<|ce j0 j0<|ce j0 j0<|cn,j0,⟨⟨_,j0,rsOne ⟨ci j0,ci j0,ci j0,ci j0,ci j0,ci j0,ci j0,ci j0,ci j0,ci j0,j5⟩⟩,⟨_,j0,rsOne ⟨ci j0,ci j0,ci j0,j5⟩⟩,j5⟩,j0,j1⟩)
    ·
     replace h:=bF hb20 h
     rcases bb (decide (0 < v12)) with hb21 | hb21
     ·
      replace h:=bT hb21 h
      obtain ⟨v14,q22,h⟩:=bs h
      exact sw_region_dt [] [23,22,21,20,19,18,17,16,15,14,13,12,11,10,9,8,7,6,5,4,3,2,1,0] [(36,bA (decide (v13.At ≤ v14.At))),(35,bA (decide (v13.At ≤ v14.At))),(34,bA (decide (v13.At ≤ v14.At))),(33,iA v13.At),(32,.mpt 1 0 0),(31,iA v14.At),(30,.ipt 3 (List.map rApiMap v1.Maps) (Int.toNat (IntKind.i64.wrap (v12 - 1))) 0),(29,.ipt 3 (List.map rApiMap v1.Maps) (Int.toNat (IntKind.i64.wrap (v12 - 1))) 0),(28,iA (IntKind.i64.wrap (v12 - 1))),(27,iA v12),(26,.isl 3 (List.map rApiMap v1.Maps)),(25,.mpt 0 0 8),(24,bA (decide (0 < v12))),(23,bA (decide (0 < v12))),(22,iA v12),(21,bA (!(class_between v13.At 0 (IntKind.i64.wrap ((List.length v1.Code : Int) - 1))))),(20,bA (!(class_between v13.At 0 (IntKind.i64.wrap ((List.length v1.Code : Int) - 1))))),(19,bA (class_between v13.At 0 (IntKind.i64.wrap ((List.length v1.Code : Int) - 1)))),(18,iA (IntKind.i64.wrap ((List.length v1.Code : Int) - 1))),(17,iA (List.length v1.Code : Int)),(16,.isl 4 (List.map rApiIns v1.Code)),(15,.mpt 0 0 7),(14,iA v13.At),(13,.mpt 1 0 0)] 0 (by kernel_rfl) (by kernel_rfl) j0 (by kernel_rfl) (dt0 ⟨(fun _=>pa j0 j0 j0 j0 (pkb j0 hb20 j0<|j4)),(fun _=>pag (b:=(!(class_between v13.At 0 (IntKind.i64.wrap ((List.length v1.Code : Int) - 1))))) j0 j0 j0 j0 hb20 j0 (pkb j0 hb21 j0<|j4)),(fun _=>pag (b:=(decide (0 < v12))) j0 j0 j0 j0 hb21 j0 (geq ti3 j0 j0<|j4)),(fun _=>pag (b:=(decide (0 < v12))) j0 j0 j0 j0 hb21 j0 (ld ti3 j0 j0<|j4)),(fun _=>pag (b:=(decide (0 < v12))) j0 j0 j0 j0 hb21 j0 (fa ti39 j0 j0 j0<|j4)),(fun _=>pag (b:=(decide (0 < v12))) j0 j0 j0 j0 hb21 j0 (ldI ti3 j0 (idx_some q22).2.2 j0<|j4)),(fun _=>pag (b:=(decide (0 < v12))) j0 j0 j0 j0 hb21 j0 (fa ti39 j0 j0 j0<|j4)),(fun _=>pag (b:=(decide (0 < v12))) j0 j0 j0 j0 hb21 j0 (ixI ti32 j0 ti39 j0 j0 j0 q22<|j4)),(fun _=>pag (b:=(decide (0 < v12))) j0 j0 j0 j0 hb21 j0 (sub ti3 j0 j0<|j4)),(fun _=>pag (b:=(decide (0 < v12))) j0 j0 j0 j0 hb21 j0 (mv j0<|j4)),(fun _=>pag (b:=(decide (0 < v12))) j0 j0 j0 j0 hb21 j0 (ld ti32 j0 j0<|j4)),(fun _=>pag (b:=(decide (0 < v12))) j0 j0 j0 j0 hb21 j0 (fa ti35 j0 j0 j0<|j4)),(fun _=>pag (b:=(!(class_between v13.At 0 (IntKind.i64.wrap ((List.length v1.Code : Int) - 1))))) j0 j0 j0 j0 hb20 j0 (mv j0<|j4)),(fun _=>pag (b:=(!(class_between v13.At 0 (IntKind.i64.wrap ((List.length v1.Code : Int) - 1))))) j0 j0 j0 j0 hb20 j0 (gtr ti3 j0 j0<|j4)),(fun _=>pag (b:=(!(class_between v13.At 0 (IntKind.i64.wrap ((List.length v1.Code : Int) - 1))))) j0 j0 j0 j0 hb20 j0 (mv j0<|j4)),(fun _=>pa j0 j0 j0 j0 (mv j0<|j4)),(fun _=>pa j0 j0 j0 j0 (nt j0<|j4)),(fun _=>pa j0 j0 j0 j0 (pc (class_between_ok v13.At 0 (IntKind.i64.wrap ((List.length v1.Code : Int) - 1)) j0) j0 j0 j0<|j4)),(fun _=>pa j0 j0 j0 j0 (sub ti3 j0 j0<|j4)),(fun _=>pa j0 j0 j0 j0 (lnI ti31 j0 j0<|j4)),(fun _=>pa j0 j0 j0 j0 (ld ti31 j0 j0<|j4)),(fun _=>pa j0 j0 j0 j0 (fa ti35 j0 j0 j0<|j4)),(fun _=>pa j0 j0 j0 j0 (ld ti3 j0 j0<|j4)),(fun _=>pa j0 j0 j0 j0 (fa ti39 j0 j0 j0<|j4)),j5⟩ (by kernel_rfl) j0 ⟨(decide (v13.At ≤ v14.At)),h,[.old 0,.old 1],cv j0 (.mpt j0)<|cv j0 (.mpt j0)<|ce j0 j0<|ce j0 j0<|ce j0 j0<|ce j0 j0<|cn,j0,⟨⟨_,j0,rsOne ⟨ci j0,ci j0,ci j0,ci j0,ci j0,ci j0,ci j0,ci j0,ci j0,ci j0,j5⟩⟩,⟨_,j0,rsOne ⟨ci j0,ci j0,ci j0,j5⟩⟩,j5⟩,j0,j1⟩)
     ·
      replace h:=bF hb21 h
      exact sw_region_dt [] [23,22,21,20,19,18,17,16,15,14,13,12,11,10,9,8,7,6,5,4,3,2,1,0] [(36,bA false),(35,bA false),(34,.lit undef),(33,.lit undef),(32,.lit undef),(31,.lit undef),(30,.lit undef),(29,.lit undef),(28,.lit undef),(27,.lit undef),(26,.lit undef),(25,.lit undef),(24,bA (decide (0 < v12))),(23,bA (decide (0 < v12))),(22,iA v12),(21,bA (!(class_between v13.At 0 (IntKind.i64.wrap ((List.length v1.Code : Int) - 1))))),(20,bA (!(class_between v13.At 0 (IntKind.i64.wrap ((List.length v1.Code : Int) - 1))))),(19,bA (class_between v13.At 0 (IntKind.i64.wrap ((List.length v1.Code : Int) - 1)))),(18,iA (IntKind.i64.wrap ((List.length v1.Code : Int) - 1))),(17,iA (List.length v1.Code : Int)),(16,.isl 4 (List.map rApiIns v1.Code)),(15,.mpt 0 0 7),(14,iA v13.At),(13,.mpt 1 0 0)] 0 (by kernel_rfl) (by kernel_rfl) j0 (by kernel_rfl) (dt0 ⟨(fun _=>pa j0 j0 j0 j0 (pkb j0 hb20 j0<|j4)),(fun _=>pag (b:=(!(class_between v13.At 0 (IntKind.i64.wrap ((List.length v1.Code : Int) - 1))))) j0 j0 j0 j0 hb20 j0 (pkb j0 hb21 j0<|j4)),(fun _=>pas (b:=(decide (0 < v12))) j0 j0 j0 j0 hb21 j0),(fun _=>pas (b:=(decide (0 < v12))) j0 j0 j0 j0 hb21 j0),(fun _=>pas (b:=(decide (0 < v12))) j0 j0 j0 j0 hb21 j0),(fun _=>pas (b:=(decide (0 < v12))) j0 j0 j0 j0 hb21 j0),(fun _=>pas (b:=(decide (0 < v12))) j0 j0 j0 j0 hb21 j0),(fun _=>pas (b:=(decide (0 < v12))) j0 j0 j0 j0 hb21 j0),(fun _=>pas (b:=(decide (0 < v12))) j0 j0 j0 j0 hb21 j0),(fun _=>pas (b:=(decide (0 < v12))) j0 j0 j0 j0 hb21 j0),(fun _=>pas (b:=(decide (0 < v12))) j0 j0 j0 j0 hb21 j0),(fun _=>pas (b:=(decide (0 < v12))) j0 j0 j0 j0 hb21 j0),(fun _=>pag (b:=(!(class_between v13.At 0 (IntKind.i64.wrap ((List.length v1.Code : Int) - 1))))) j0 j0 j0 j0 hb20 j0 (mv j0<|j4)),(fun _=>pag (b:=(!(class_between v13.At 0 (IntKind.i64.wrap ((List.length v1.Code : Int) - 1))))) j0 j0 j0 j0 hb20 j0 (gtr ti3 j0 j0<|j4)),(fun _=>pag (b:=(!(class_between v13.At 0 (IntKind.i64.wrap ((List.length v1.Code : Int) - 1))))) j0 j0 j0 j0 hb20 j0 (mv j0<|j4)),(fun _=>pa j0 j0 j0 j0 (mv j0<|j4)),(fun _=>pa j0 j0 j0 j0 (nt j0<|j4)),(fun _=>pa j0 j0 j0 j0 (pc (class_between_ok v13.At 0 (IntKind.i64.wrap ((List.length v1.Code : Int) - 1)) j0) j0 j0 j0<|j4)),(fun _=>pa j0 j0 j0 j0 (sub ti3 j0 j0<|j4)),(fun _=>pa j0 j0 j0 j0 (lnI ti31 j0 j0<|j4)),(fun _=>pa j0 j0 j0 j0 (ld ti31 j0 j0<|j4)),(fun _=>pa j0 j0 j0 j0 (fa ti35 j0 j0 j0<|j4)),(fun _=>pa j0 j0 j0 j0 (ld ti3 j0 j0<|j4)),(fun _=>pa j0 j0 j0 j0 (fa ti39 j0 j0 j0<|j4)),j5⟩ (by kernel_rfl) j0 ⟨false,h,[.old 0,.old 1],cv j0 (.mpt j0)<|cv j0 (.mpt j0)<|ce j0 j0<|ce j0 j0<|ce j0 j0<|ce j0 j0<|cn,j0,⟨⟨_,j0,rsOne ⟨ci j0,ci j0,ci j0,ci j0,ci j0,ci j0,ci j0,ci j0,ci j0,ci j0,j5⟩⟩,⟨_,j0,rsOne ⟨ci j0,ci j0,ci j0,j5⟩⟩,j5⟩,j0,j1⟩)
   ·
    rintro v15 h
    replace h : class_maps_j2 v1 v12 v13 v15 = some r:=h
    unfold class_maps_j2 at h
    refine sw_cond j0 (fun hc23=>?_) (fun hc23=>?_)
    ·
     replace h:=bT hc23 h
     refine rg j0<|u<|asg j0<|r_nil ?_
     refine sw_ret ?_
     obtain rfl:=sm h
     exact ⟨_,j0,_,j0,[],ci j0,j0,j5,j0,j1⟩
    ·
     replace h:=bF hc23 h
     refine sw_skip ?_
     obtain ⟨v17,q27,h⟩:=bs h
     obtain ⟨v19,q30,h⟩:=bs h
     obtain ⟨v21,q33,h⟩:=bs h
     refine rg j0<|u<|fa ti39 j0 j0 j0<|u<|ld ti24 j0 j0<|u<|lnI ti24 j0 j0<|u<|fa ti35 j0 j0 j0<|u<|ld ti3 j0 j0<|u<|neq ti3 j0 j0<|u<|mv j0<|r_or (j:=6) 6 j0 j0 j0 j0 j0 gpn (fun hb24=>g j0 hb24<|fa ti39 j0 j0 j0<|g j0 hb24<|ld ti24 j0 j0<|g j0 hb24<|lnI ti24 j0 j0<|g j0 hb24<|fa ti35 j0 j0 j0<|g j0 hb24<|ld ti3 j0 j0<|g j0 hb24<|gtr ti3 j0 j0<|r_nil (egO [44,45,46,47,48,49] 6 hb24 j0 j0 j0 j0)) orT<|u<|mv j0<|r_or (x:=v17) (j:=14) 4 j0 j0 j0 j0 j0 gpn (fun hb25=>by replace q27:=bF hb25 q27; obtain ⟨v16,q26,q27⟩:=bs q27; obtain rfl:=sm q27; exact g j0 hb25<|fa ti39 j0 j0 j0<|g j0 hb25<|ld ti24 j0 j0<|g j0 hb25<|pc (class_types_s2_ok v13.Locals q26) j0 j0 j0<|g j0 hb25<|nt j0<|r_nil (eg [52,53,54,55] 4 j0 j0 j0 j0)) (fun hb=>(sm (bT hb q27)).symm)<|u<|mv j0<|r_or (x:=v19) (j:=20) 4 j0 j0 j0 j0 j0 gpn (fun hb28=>by replace q30:=bF hb28 q30; obtain ⟨v18,q29,q30⟩:=bs q30; obtain rfl:=sm q30; exact g j0 hb28<|fa ti39 j0 j0 j0<|g j0 hb28<|ld ti24 j0 j0<|g j0 hb28<|pc (class_types_s2_ok v13.Stack q29) j0 j0 j0<|g j0 hb28<|nt j0<|r_nil (eg [58,59,60,61] 4 j0 j0 j0 j0)) (fun hb=>(sm (bT hb q30)).symm)<|u<|mv j0<|r_or (x:=v21) (j:=26) 3 j0 j0 j0 j0 j0 gpn (fun hb31=>by replace q33:=bF hb31 q33; obtain ⟨v20,q32,q33⟩:=bs q33; obtain rfl:=sm q33; exact g j0 hb31<|fa ti39 j0 j0 j0<|g j0 hb31<|ld ti24 j0 j0<|g j0 hb31<|pc (slices_Contains_string_string_ok v13.Stack [84] q32) j0 j0 j0<|r_nil (eg [64,65,66] 3 j0 j0 j0 j0)) (fun hb=>(sm (bT hb q33)).symm)<|r_nil ?_
     refine sw_cond j0 (fun hc34=>?_) (fun hc34=>?_)
     ·
      replace h:=bT hc34 h
      refine rg j0<|u<|asg j0<|r_nil ?_
      refine sw_ret ?_
      obtain rfl:=sm h
      exact ⟨_,j0,_,j0,[],ci j0,j0,j5,j0,j1⟩
     ·
      replace h:=bF hc34 h
      refine sw_skip ?_
      refine rl j0<|u<|add ti3 j0 j0<|u<|mv j0<|r_nil ?_
      obtain rfl:=sm h
      exact ⟨_,j0,[.old 0],cv j0 (.mpt j0)<|ce j0 j0<|ce j0 j0<|ce j0 j0<|cn,j0,⟨⟨_,j0,rsOne ⟨ci j0,ci j0,ci j0,ci j0,ci j0,ci j0,ci j0,ci j0,ci j0,ci j0,j5⟩⟩,j5⟩,j0,j1⟩
  ·
   replace h:=bF hc18 h
   refine sw_exit ?_
   obtain rfl:=sm h
   exact ⟨j0,_,j0,[.old 0],cv j0 (.mpt j0)<|cn,j0,⟨⟨_,j0,rsOne ⟨ci j0,ci j0,ci j0,ci j0,ci j0,ci j0,ci j0,ci j0,ci j0,ci j0,j5⟩⟩,j5⟩,j0,j1⟩
 ·
  rintro ⟨⟩ rfl
  replace h : class_maps_k4 v1 = some r:=h
  unfold class_maps_k4 at h
  refine ow_intro ?_
  refine rg j0<|u<|fa ti35 j0 j0 j0<|u<|ld ti32 j0 j0<|u<|lnI ti32 j0 j0<|u<|leq ti3 j0 j0<|u<|asg j0<|r_nil ?_
  refine sw_ret ?_
  obtain rfl:=sm h
  exact ⟨_,j0,[],ci j0,j0,j5,j0,j1⟩
 ·
  rintro r' rfl env st hp
  obtain rfl:=sm h
  exact hp
def class_traps_1 (v1 : ApiTrap) (v2 : List UInt8) (v3 : List (List UInt8)) (v4 : List UInt8) (v5 : Bool) (v6 : Bool) (v7 : Int) (v8 : Int) (v9 : List ApiIns) (v10 : List ApiMap) (v11 : List ApiTrap) : Option (Bool) :=
  (cond ((((decide (v1.From < 0)) || (decide (v1.To ≤ v1.From))) || (decide ((List.length v9 : Int) < v1.To))) || (!(class_between v1.At 0 (IntKind.i64.wrap ((List.length v9 : Int) - 1))))) (some true) ((cond (!(v1.C == [])) ((kind_Class v1.C).bind fun v12=>some (!v12)) (some false)).bind fun v13=>some v13)).bind fun v14=>some v14
theorem class_traps_1_ok (v1 : ApiTrap) (v2 : List UInt8) (v3 : List (List UInt8)) (v4 : List UInt8) (v5 : Bool) (v6 : Bool) (v7 : Int) (v8 : Int) (v9 : List ApiIns) (v10 : List ApiMap) (v11 : List ApiTrap) {r : Bool} (h : class_traps_1 v1 v2 v3 v4 v5 v6 v7 v8 v9 v10 v11 = some r) : PureC Tryz.prog 146 [.agg [iA v1.From,iA v1.To,iA v1.At,sA v1.C],.ipt 10 [[sA v2,.isl 1 (List.map rStr v3),sA v4,bA v5,bA v6,iA v7,iA v8,.isl 4 (List.map rApiIns v9),.isl 3 (List.map rApiMap v10),.isl 4 (List.map rApiTrap v11)]] 0 0] (bA r):=by
 refine pure_fn Tryz.func146 j0 (by kernel_rfl) j0 j0 ?_
 unfold class_traps_1 at h
 refine rg j0<|u<|bx 0 4 j0 j0 j0 j0<|u<|asg j0<|r_nil ?_
 obtain ⟨v14,q8,h⟩:=bs h
 refine rg j0<|u<|fa ti113 j0 j0 j0<|u<|ld ti3 j0 j0<|u<|lss ti3 j0 j0<|u<|mv j0<|r_or (j:=3) 5 j0 j0 j0 j0 j0 gpn (fun hb1=>g j0 hb1<|fa ti113 j0 j0 j0<|g j0 hb1<|ld ti3 j0 j0<|g j0 hb1<|fa ti113 j0 j0 j0<|g j0 hb1<|ld ti3 j0 j0<|g j0 hb1<|geq ti3 j0 j0<|r_nil (egO [8,9,10,11,12] 5 hb1 j0 j0 j0 j0)) orT<|u<|mv j0<|r_or (j:=10) 6 j0 j0 j0 j0 j0 gpn (fun hb2=>g j0 hb2<|fa ti113 j0 j0 j0<|g j0 hb2<|ld ti3 j0 j0<|g j0 hb2<|fa ti35 j0 j0 j0<|g j0 hb2<|ld ti31 j0 j0<|g j0 hb2<|lnI ti31 j0 j0<|g j0 hb2<|gtr ti3 j0 j0<|r_nil (egO [15,16,17,18,19,20] 6 hb2 j0 j0 j0 j0)) orT<|u<|mv j0<|r_or (j:=18) 8 j0 j0 j0 j0 j0 gpn (fun hb3=>g j0 hb3<|fa ti113 j0 j0 j0<|g j0 hb3<|ld ti3 j0 j0<|g j0 hb3<|fa ti35 j0 j0 j0<|g j0 hb3<|ld ti31 j0 j0<|g j0 hb3<|lnI ti31 j0 j0<|g j0 hb3<|sub ti3 j0 j0<|g j0 hb3<|pc (class_between_ok v1.At 0 (IntKind.i64.wrap ((List.length v9 : Int) - 1)) j0) j0 j0 j0<|g j0 hb3<|nt j0<|r_nil (egO [23,24,25,26,27,28,29,30] 8 hb3 j0 j0 j0 j0)) orT<|u<|mv j0<|r_or (x:=v14) (j:=28) 9 j0 j0 j0 j0 j0 gpn (fun hb4=>by replace q8:=bF hb4 q8; obtain ⟨v13,q7,q8⟩:=bs q8; obtain rfl:=sm q8; exact g j0 hb4<|fa ti113 j0 j0 j0<|g j0 hb4<|ld ti9 j0 j0<|g j0 hb4<|sne ti9 j0 j0<|g j0 hb4<|mv j0<|r_and (x:=v13) (j:=32) 4 j0 j0 j0 j0 j0 (gps j0 j0 hb4) (fun hb5=>by replace q7:=bT hb5 q7; obtain ⟨v12,q6,q7⟩:=bs q7; obtain rfl:=sm q7; exact g j0 hb5<|fa ti113 j0 j0 j0<|g j0 hb5<|ld ti9 j0 j0<|g j0 hb5<|pc (kind_Class_ok v1.C q6) j0 j0 j0<|g j0 hb5<|nt j0<|r_nil (eg [37,38,39,40] 4 j0 j0 j0 j0)) (fun hb=>(sm (bF hb q7)).symm)<|r_nil (eg [33,34,35,36,37,38,39,40,41] 5 j0 j0 j0 j0)) (fun hb=>(sm (bT hb q8)).symm)<|u<|asg j0<|r_nil ?_
 refine sw_ret ?_
 obtain rfl:=sm h
 exact ⟨_,j0,[],ci j0,j0,j5,j0,j1⟩
def slices_IndexFunc_api_Trap_api_Trap_k2 : Option (Int) :=
  some (-1)
def slices_IndexFunc_api_Trap_api_Trap_l1 (v1 : List ApiTrap) (v2 : List UInt8) (v3 : List (List UInt8)) (v4 : List UInt8) (v5 : Bool) (v6 : Bool) (v7 : Int) (v8 : Int) (v9 : List ApiIns) (v10 : List ApiMap) (v11 : List ApiTrap) (v15 : Int) : Option (Sum (Int) (Sum (Unit) (Int))) :=
  cond (decide (v15 < (List.length v1 : Int))) ((idx v1 v15).bind fun v16=>(class_traps_1 v16 v2 v3 v4 v5 v6 v7 v8 v9 v10 v11).bind fun v17=>cond v17 (some (.inr (.inr v15))) (some (.inl (IntKind.i64.wrap (v15 + 1))))) (some (.inr (.inl ())))
def slices_IndexFunc_api_Trap_api_Trap (v1 : List ApiTrap) (v2 : List UInt8) (v3 : List (List UInt8)) (v4 : List UInt8) (v5 : Bool) (v6 : Bool) (v7 : Int) (v8 : Int) (v9 : List ApiIns) (v10 : List ApiMap) (v11 : List ApiTrap) : Option (Int) :=
  (loopP (fun z=>slices_IndexFunc_api_Trap_api_Trap_l1 v1 v2 v3 v4 v5 v6 v7 v8 v9 v10 v11 z) 0).bind fun o=>leave o (fun b=>slices_IndexFunc_api_Trap_api_Trap_k2) some
theorem slices_IndexFunc_api_Trap_api_Trap_ok (v1 : List ApiTrap) (v2 : List UInt8) (v3 : List (List UInt8)) (v4 : List UInt8) (v5 : Bool) (v6 : Bool) (v7 : Int) (v8 : Int) (v9 : List ApiIns) (v10 : List ApiMap) (v11 : List ApiTrap) {r : Int} (h : slices_IndexFunc_api_Trap_api_Trap v1 v2 v3 v4 v5 v6 v7 v8 v9 v10 v11 = some r) : PureC Tryz.prog 168 [.isl 4 (List.map rApiTrap v1),.fn (.func 146) [] [.ipt 10 [[sA v2,.isl 1 (List.map rStr v3),sA v4,bA v5,bA v6,iA v7,iA v8,.isl 4 (List.map rApiIns v9),.isl 3 (List.map rApiMap v10),.isl 4 (List.map rApiTrap v11)]] 0 0]] (iA r):=by
 refine pure_fn Tryz.func168 j0 (by kernel_rfl) j0 j0 ?_
 unfold slices_IndexFunc_api_Trap_api_Trap at h
 refine rg j0<|u<|asg j0<|r_nil ?_
 refine sw_seq ?_
 refine rg j0<|u<|mv j0<|u<|lnI ti33 j0 j0<|u<|mv j0<|r_nil ?_
 obtain ⟨o,ho,h⟩:=bs h
 refine sw_lpl (X:=Int) (B:=Unit) (R:=Int) (fun z=>[(0,.isl 4 (List.map rApiTrap v1)),(1,.fn (.func 146) [] [.ipt 10 [[sA v2,.isl 1 (List.map rStr v3),sA v4,bA v5,bA v6,iA v7,iA v8,.isl 4 (List.map rApiIns v9),.isl 3 (List.map rApiMap v10),.isl 4 (List.map rApiTrap v11)]] 0 0]),(7,iA (List.length v1 : Int)),(8,iA z)]) (fun z=>[]) (fun b=>[]) (fun b=>[]) (fun r env st=>PostF Tryz.prog Tryz.f168 0 (iA r) [] env st) ho ⟨[],ce j0 j0<|ce j0 j0<|ce j0 j0<|ce j0 j0<|cn,j0,j5,j0,j1⟩ ?_ ?_ ?_
 ·
  rintro v15 r h
  replace h : slices_IndexFunc_api_Trap_api_Trap_l1 v1 v2 v3 v4 v5 v6 v7 v8 v9 v10 v11 v15 = some r:=h
  unfold slices_IndexFunc_api_Trap_api_Trap_l1 at h
  refine rg j0<|u<|lss ti3 j0 j0<|r_nil ?_
  refine sw_seq ?_
  refine sw_cond j0 (fun hc5=>?_) (fun hc5=>?_)
  ·
   replace h:=bT hc5 h
   refine sw_skip ?_
   refine sw_seq ?_
   refine sw_block ?_
   refine rg j0<|u<|mv j0<|u<|asg j0<|r_nil ?_
   obtain ⟨v16,q6,h⟩:=bs h
   obtain ⟨v17,q7,h⟩:=bs h
   refine rg j0<|u<|mv j0<|u<|mv j0<|u<|mv j0<|u<|ixI ti33 j0 ti113 j0 j0 j0 q6<|u<|ldI ti113 j0 (idx_some q6).2.2 j0<|u<|pc (class_traps_1_ok v16 v2 v3 v4 v5 v6 v7 v8 v9 v10 v11 q7) j0 j0 j0<|r_nil ?_
   refine sw_cond j0 (fun hc8=>?_) (fun hc8=>?_)
   ·
    replace h:=bT hc8 h
    refine rg j0<|u<|mv j0<|u<|asg j0<|r_nil ?_
    refine sw_ret ?_
    obtain rfl:=sm h
    exact ⟨_,j0,_,j0,[],ci j0,j0,j5,j0,j1⟩
   ·
    replace h:=bF hc8 h
    refine sw_skip ?_
    refine rl j0<|u<|add ti3 j0 j0<|u<|mv j0<|r_nil ?_
    obtain rfl:=sm h
    exact ⟨_,j0,[],ce j0 j0<|ce j0 j0<|ce j0 j0<|ce j0 j0<|cn,j0,j5,j0,j1⟩
  ·
   replace h:=bF hc5 h
   refine sw_exit ?_
   obtain rfl:=sm h
   exact ⟨j0,_,j0,[],cn,j0,j5,j0,j1⟩
 ·
  rintro ⟨⟩ rfl
  replace h : slices_IndexFunc_api_Trap_api_Trap_k2 = some r:=h
  unfold slices_IndexFunc_api_Trap_api_Trap_k2 at h
  refine ow_intro ?_
  refine rg j0<|u<|asg j0<|r_nil ?_
  refine sw_ret ?_
  obtain rfl:=sm h
  exact ⟨_,j0,[],ci j0,j0,j5,j0,j1⟩
 ·
  rintro r' rfl env st hp
  obtain rfl:=sm h
  exact hp
def slices_ContainsFunc_api_Trap_api_Trap (v1 : List ApiTrap) (v2 : List UInt8) (v3 : List (List UInt8)) (v4 : List UInt8) (v5 : Bool) (v6 : Bool) (v7 : Int) (v8 : Int) (v9 : List ApiIns) (v10 : List ApiMap) (v11 : List ApiTrap) : Option (Bool) :=
  (slices_IndexFunc_api_Trap_api_Trap v1 v2 v3 v4 v5 v6 v7 v8 v9 v10 v11).bind fun v12=>some (decide (0 ≤ v12))
theorem slices_ContainsFunc_api_Trap_api_Trap_ok (v1 : List ApiTrap) (v2 : List UInt8) (v3 : List (List UInt8)) (v4 : List UInt8) (v5 : Bool) (v6 : Bool) (v7 : Int) (v8 : Int) (v9 : List ApiIns) (v10 : List ApiMap) (v11 : List ApiTrap) {r : Bool} (h : slices_ContainsFunc_api_Trap_api_Trap v1 v2 v3 v4 v5 v6 v7 v8 v9 v10 v11 = some r) : PureC Tryz.prog 145 [.isl 4 (List.map rApiTrap v1),.fn (.func 146) [] [.ipt 10 [[sA v2,.isl 1 (List.map rStr v3),sA v4,bA v5,bA v6,iA v7,iA v8,.isl 4 (List.map rApiIns v9),.isl 3 (List.map rApiMap v10),.isl 4 (List.map rApiTrap v11)]] 0 0]] (bA r):=by
 refine pure_fn Tryz.func145 j0 (by kernel_rfl) j0 j0 ?_
 unfold slices_ContainsFunc_api_Trap_api_Trap at h
 refine rg j0<|u<|asg j0<|r_nil ?_
 obtain ⟨v12,q1,h⟩:=bs h
 refine rg j0<|u<|mv j0<|u<|mv j0<|u<|pc (slices_IndexFunc_api_Trap_api_Trap_ok v1 v2 v3 v4 v5 v6 v7 v8 v9 v10 v11 q1) j0 j0 j0<|u<|geq ti3 j0 j0<|u<|asg j0<|r_nil ?_
 refine sw_ret ?_
 obtain rfl:=sm h
 exact ⟨_,j0,[],ci j0,j0,j5,j0,j1⟩
def class_traps (v1 : ApiMethod) : Option (Bool) :=
  (slices_ContainsFunc_api_Trap_api_Trap v1.Traps v1.Name v1.Params v1.Ret v1.Static v1.Abstract v1.Locals v1.Stack v1.Code v1.Maps v1.Traps).bind fun v2=>some ((!v2) && (decide ((List.length v1.Traps : Int) ≤ 6)))
theorem class_traps_ok (v1 : ApiMethod) {r : Bool} (h : class_traps v1 = some r) : PureC Tryz.prog 98 [.agg [sA v1.Name,.isl 1 (List.map rStr v1.Params),sA v1.Ret,bA v1.Static,bA v1.Abstract,iA v1.Locals,iA v1.Stack,.isl 4 (List.map rApiIns v1.Code),.isl 3 (List.map rApiMap v1.Maps),.isl 4 (List.map rApiTrap v1.Traps)]] (bA r):=by
 refine pure_fn Tryz.func98 j0 (by kernel_rfl) j0 j0 ?_
 unfold class_traps at h
 refine rg j0<|u<|bx 0 10 j0 j0 j0 j0<|u<|asg j0<|r_nil ?_
 obtain ⟨v2,q1,h⟩:=bs h
 refine rg j0<|u<|fa ti35 j0 j0 j0<|u<|ld ti33 j0 j0<|u<|mf j0 j0<|u<|pcs (slices_ContainsFunc_api_Trap_api_Trap_ok v1.Traps v1.Name v1.Params v1.Ret v1.Static v1.Abstract v1.Locals v1.Stack v1.Code v1.Maps v1.Traps q1) j0 j0 (.cons (si j0) (.cons (sealFn j5 ⟨(sealBox j0 ⟨(si j0),(si j0),(si j0),(si j0),(si j0),(si j0),(si j0),(si j0),(si j0),(si j0),j5⟩),j5⟩) .nil)) plainB<|u<|asg j0<|r_nil ?_
 refine rg j0<|u<|mv j0<|u<|nt j0<|u<|mv j0<|r_and (j:=2) 4 j0 j0 j0 j0 j0 gpn (fun hb2=>g j0 hb2<|fa ti35 j0 j0 j0<|g j0 hb2<|ld ti33 j0 j0<|g j0 hb2<|lnI ti33 j0 j0<|g j0 hb2<|leq ti3 j0 j0<|r_nil (egA [11,12,13,14] 4 hb2 j0 j0 j0 j0)) andF<|u<|asg j0<|r_nil ?_
 refine sw_ret ?_
 obtain rfl:=sm h
 exact ⟨_,j0,[],ci j0,j0,j5,j0,j1⟩
def class_method_j1 (v10 : Bool) : Option (Bool) :=
  some v10
def class_method (v1 : ApiMethod) : Option (Bool) :=
  (kind_Name v1.Name).bind fun v2=>(cond ((!v2) || (decide (6 < (List.length v1.Params : Int)))) (some true) ((class_types v1.Params).bind fun v3=>some (!v3))).bind fun v4=>(cond v4 (some true) ((kind_Ret v1.Ret).bind fun v5=>some (!v5))).bind fun v6=>cond v6 (some false) (cond v1.Abstract (some (class_empty v1)) (cond ((v1.Name == [36,105,110,105,116]) && (((!v1.Static) || (decide (0 < (List.length v1.Params : Int)))) || (!(v1.Ret == [86])))) (some false) (cond (class_between v1.Locals (class_args v1) 16) (cond (class_between v1.Stack 0 16) ((class_instructions v1).bind fun v7=>cond v7 ((class_maps v1).bind fun v8=>cond v8 ((class_traps v1).bind fun v9=>class_method_j1 v9) (class_method_j1 false)) (class_method_j1 false)) (class_method_j1 false)) (class_method_j1 false))))
theorem class_method_ok (v1 : ApiMethod) {r : Bool} (h : class_method v1 = some r) : PureC Tryz.prog 33 [.agg [sA v1.Name,.isl 1 (List.map rStr v1.Params),sA v1.Ret,bA v1.Static,bA v1.Abstract,iA v1.Locals,iA v1.Stack,.isl 4 (List.map rApiIns v1.Code),.isl 3 (List.map rApiMap v1.Maps),.isl 4 (List.map rApiTrap v1.Traps)]] (bA r):=by
 refine pure_fn Tryz.func33 j0 (by kernel_rfl) j0 j0 ?_
 unfold class_method at h
 refine rg j0<|u<|bx 0 10 j0 j0 j0 j0<|u<|asg j0<|r_nil ?_
 refine sw_seq ?_
 obtain ⟨v2,q1,h⟩:=bs h
 obtain ⟨v4,q5,h⟩:=bs h
 obtain ⟨v6,q8,h⟩:=bs h
 refine rg j0<|u<|fa ti35 j0 j0 j0<|u<|ld ti9 j0 j0<|u<|pc (kind_Name_ok v1.Name q1) j0 j0 j0<|u<|nt j0<|u<|mv j0<|r_or (j:=4) 4 j0 j0 j0 j0 j0 gpn (fun hb2=>g j0 hb2<|fa ti35 j0 j0 j0<|g j0 hb2<|ld ti24 j0 j0<|g j0 hb2<|lnI ti24 j0 j0<|g j0 hb2<|gtr ti3 j0 j0<|r_nil (egO [8,9,10,11] 4 hb2 j0 j0 j0 j0)) orT<|u<|mv j0<|r_or (x:=v4) (j:=10) 4 j0 j0 j0 j0 j0 gpn (fun hb3=>by replace q5:=bF hb3 q5; obtain ⟨v3,q4,q5⟩:=bs q5; obtain rfl:=sm q5; exact g j0 hb3<|fa ti35 j0 j0 j0<|g j0 hb3<|ld ti24 j0 j0<|g j0 hb3<|pc (class_types_ok v1.Params q4) j0 j0 j0<|g j0 hb3<|nt j0<|r_nil (eg [14,15,16,17] 4 j0 j0 j0 j0)) (fun hb=>(sm (bT hb q5)).symm)<|u<|mv j0<|r_or (x:=v6) (j:=16) 4 j0 j0 j0 j0 j0 gpn (fun hb6=>by replace q8:=bF hb6 q8; obtain ⟨v5,q7,q8⟩:=bs q8; obtain rfl:=sm q8; exact g j0 hb6<|fa ti35 j0 j0 j0<|g j0 hb6<|ld ti9 j0 j0<|g j0 hb6<|pc (kind_Ret_ok v1.Ret q7) j0 j0 j0<|g j0 hb6<|nt j0<|r_nil (eg [20,21,22,23] 4 j0 j0 j0 j0)) (fun hb=>(sm (bT hb q8)).symm)<|r_nil ?_
 refine sw_cond j0 (fun hc9=>?_) (fun hc9=>?_)
 ·
  replace h:=bT hc9 h
  refine rg j0<|u<|asg j0<|r_nil ?_
  refine sw_ret ?_
  obtain rfl:=sm h
  exact ⟨_,j0,[],ci j0,j0,j5,j0,j1⟩
 ·
  replace h:=bF hc9 h
  refine sw_skip ?_
  refine sw_seq ?_
  refine rg j0<|u<|fa ti35 j0 j0 j0<|u<|ld ti4 j0 j0<|r_nil ?_
  refine sw_cond j0 (fun hc10=>?_) (fun hc10=>?_)
  ·
   replace h:=bT hc10 h
   refine rg j0<|u<|ld ti35 j0 j0<|u<|pc (class_empty_ok v1 j0) j0 j0 j0<|u<|asg j0<|r_nil ?_
   refine sw_ret ?_
   obtain rfl:=sm h
   exact ⟨_,j0,[],ci j0,j0,j5,j0,j1⟩
  ·
   replace h:=bF hc10 h
   refine sw_skip ?_
   refine sw_seq ?_
   refine rg j0<|u<|fa ti35 j0 j0 j0<|u<|ld ti9 j0 j0<|u<|seq ti9 j0 j0<|u<|mv j0<|r_and (j:=3) 14 j0 j0 j0 j0 j0 gpn (fun hb11=>g j0 hb11<|fa ti35 j0 j0 j0<|g j0 hb11<|ld ti4 j0 j0<|g j0 hb11<|nt j0<|g j0 hb11<|mv j0<|r_or (j:=7) 4 j0 j0 j0 j0 j0 (gps j0 j0 hb11) (fun hb12=>g j0 hb12<|fa ti35 j0 j0 j0<|g j0 hb12<|ld ti24 j0 j0<|g j0 hb12<|lnI ti24 j0 j0<|g j0 hb12<|gtr ti3 j0 j0<|r_nil (egO [37,38,39,40] 4 hb12 j0 j0 j0 j0)) orT<|g j0 hb11<|mv j0<|r_or (j:=13) 3 j0 j0 j0 j0 j0 (gps j0 j0 hb11) (fun hb13=>g j0 hb13<|fa ti35 j0 j0 j0<|g j0 hb13<|ld ti9 j0 j0<|g j0 hb13<|sne ti9 j0 j0<|r_nil (egO [43,44,45] 3 hb13 j0 j0 j0 j0)) orT<|r_nil (egA [33,34,35,36,37,38,39,40,41,42,43,44,45,46] 7 hb11 j0 j0 j0 j0)) andF<|r_nil ?_
   refine sw_cond j0 (fun hc14=>?_) (fun hc14=>?_)
   ·
    replace h:=bT hc14 h
    refine rg j0<|u<|asg j0<|r_nil ?_
    refine sw_ret ?_
    obtain rfl:=sm h
    exact ⟨_,j0,[],ci j0,j0,j5,j0,j1⟩
   ·
    replace h:=bF hc14 h
    refine sw_skip ?_
    refine sw_meet (X:=Bool) (fun z=>[(2,bA z)]) (fun z=>[]) (fun z=>class_method_j1 z = some r) ?_ ?_
    ·
     rcases bb (class_between v1.Locals (class_args v1) 16) with hb15 | hb15
     ·
      replace h:=bT hb15 h
      rcases bb (class_between v1.Stack 0 16) with hb16 | hb16
      ·
       replace h:=bT hb16 h
       obtain ⟨v7,q17,h⟩:=bs h
       rcases bb v7 with hb18 | hb18
       ·
        replace h:=bT hb18 h
        obtain ⟨v8,q19,h⟩:=bs h
        rcases bb v8 with hb20 | hb20
        ·
         replace h:=bT hb20 h
         obtain ⟨v9,q21,h⟩:=bs h
         exact sw_region_dt [] [22,21,20,19,18,17,16,15,14,13,12,11,10,9,8,7,6,5,4,3,2,1,0] [(2,bA v9),(69,bA v9),(68,bA v9),(67,.agg [sA v1.Name,.isl 1 (List.map rStr v1.Params),sA v1.Ret,bA v1.Static,bA v1.Abstract,iA v1.Locals,iA v1.Stack,.isl 4 (List.map rApiIns v1.Code),.isl 3 (List.map rApiMap v1.Maps),.isl 4 (List.map rApiTrap v1.Traps)]),(66,bA v8),(65,bA v8),(64,bA v8),(63,.agg [sA v1.Name,.isl 1 (List.map rStr v1.Params),sA v1.Ret,bA v1.Static,bA v1.Abstract,iA v1.Locals,iA v1.Stack,.isl 4 (List.map rApiIns v1.Code),.isl 3 (List.map rApiMap v1.Maps),.isl 4 (List.map rApiTrap v1.Traps)]),(62,bA v7),(61,bA v7),(60,bA v7),(59,.agg [sA v1.Name,.isl 1 (List.map rStr v1.Params),sA v1.Ret,bA v1.Static,bA v1.Abstract,iA v1.Locals,iA v1.Stack,.isl 4 (List.map rApiIns v1.Code),.isl 3 (List.map rApiMap v1.Maps),.isl 4 (List.map rApiTrap v1.Traps)]),(58,bA (class_between v1.Stack 0 16)),(57,bA (class_between v1.Stack 0 16)),(56,bA (class_between v1.Stack 0 16)),(55,iA v1.Stack),(54,.mpt 0 0 6),(53,bA (class_between v1.Locals (class_args v1) 16)),(52,bA (class_between v1.Locals (class_args v1) 16)),(51,iA (class_args v1)),(50,.agg [sA v1.Name,.isl 1 (List.map rStr v1.Params),sA v1.Ret,bA v1.Static,bA v1.Abstract,iA v1.Locals,iA v1.Stack,.isl 4 (List.map rApiIns v1.Code),.isl 3 (List.map rApiMap v1.Maps),.isl 4 (List.map rApiTrap v1.Traps)]),(49,iA v1.Locals),(48,.mpt 0 0 5)] 0 (by kernel_rfl) (by kernel_rfl) j0 (by kernel_rfl) (dt0 ⟨(fun _=>pa j0 j0 j0 j0 (asg j0<|j4)),(fun _=>pa j0 j0 j0 j0 (pkb j0 hb20 j0<|j4)),(fun _=>pag (b:=v8) j0 j0 j0 j0 hb20 j0 (pc (class_traps_ok v1 q21) j0 j0 j0<|j4)),(fun _=>pag (b:=v8) j0 j0 j0 j0 hb20 j0 (ld ti35 j0 j0<|j4)),(fun _=>pa j0 j0 j0 j0 (mv j0<|j4)),(fun _=>pa j0 j0 j0 j0 (pkb j0 hb18 j0<|j4)),(fun _=>pag (b:=v7) j0 j0 j0 j0 hb18 j0 (pc (class_maps_ok v1 q19) j0 j0 j0<|j4)),(fun _=>pag (b:=v7) j0 j0 j0 j0 hb18 j0 (ld ti35 j0 j0<|j4)),(fun _=>pa j0 j0 j0 j0 (mv j0<|j4)),(fun _=>pa j0 j0 j0 j0 (pkb j0 hb16 j0<|j4)),(fun _=>pag (b:=(class_between v1.Stack 0 16)) j0 j0 j0 j0 hb16 j0 (pc (class_instructions_ok v1 q17) j0 j0 j0<|j4)),(fun _=>pag (b:=(class_between v1.Stack 0 16)) j0 j0 j0 j0 hb16 j0 (ld ti35 j0 j0<|j4)),(fun _=>pa j0 j0 j0 j0 (mv j0<|j4)),(fun _=>pa j0 j0 j0 j0 (pkb j0 hb15 j0<|j4)),(fun _=>pag (b:=(class_between v1.Locals (class_args v1) 16)) j0 j0 j0 j0 hb15 j0 (pc (class_between_ok v1.Stack 0 16 j0) j0 j0 j0<|j4)),(fun _=>pag (b:=(class_between v1.Locals (class_args v1) 16)) j0 j0 j0 j0 hb15 j0 (ld ti3 j0 j0<|j4)),(fun _=>pag (b:=(class_between v1.Locals (class_args v1) 16)) j0 j0 j0 j0 hb15 j0 (fa ti35 j0 j0 j0<|j4)),(fun _=>pa j0 j0 j0 j0 (mv j0<|j4)),(fun _=>pa j0 j0 j0 j0 (pc (class_between_ok v1.Locals (class_args v1) 16 j0) j0 j0 j0<|j4)),(fun _=>pa j0 j0 j0 j0 (pc (class_args_ok v1 j0) j0 j0 j0<|j4)),(fun _=>pa j0 j0 j0 j0 (ld ti35 j0 j0<|j4)),(fun _=>pa j0 j0 j0 j0 (ld ti3 j0 j0<|j4)),(fun _=>pa j0 j0 j0 j0 (fa ti35 j0 j0 j0<|j4)),j5⟩ (by kernel_rfl) j0 ⟨v9,h,[],ce j0 j0<|cn,j0,j5,j0,j1⟩)
        ·
         replace h:=bF hb20 h
         exact sw_region_dt [] [22,21,20,19,18,17,16,15,14,13,12,11,10,9,8,7,6,5,4,3,2,1,0] [(2,bA false),(69,bA false),(68,.lit undef),(67,.lit undef),(66,bA v8),(65,bA v8),(64,bA v8),(63,.agg [sA v1.Name,.isl 1 (List.map rStr v1.Params),sA v1.Ret,bA v1.Static,bA v1.Abstract,iA v1.Locals,iA v1.Stack,.isl 4 (List.map rApiIns v1.Code),.isl 3 (List.map rApiMap v1.Maps),.isl 4 (List.map rApiTrap v1.Traps)]),(62,bA v7),(61,bA v7),(60,bA v7),(59,.agg [sA v1.Name,.isl 1 (List.map rStr v1.Params),sA v1.Ret,bA v1.Static,bA v1.Abstract,iA v1.Locals,iA v1.Stack,.isl 4 (List.map rApiIns v1.Code),.isl 3 (List.map rApiMap v1.Maps),.isl 4 (List.map rApiTrap v1.Traps)]),(58,bA (class_between v1.Stack 0 16)),(57,bA (class_between v1.Stack 0 16)),(56,bA (class_between v1.Stack 0 16)),(55,iA v1.Stack),(54,.mpt 0 0 6),(53,bA (class_between v1.Locals (class_args v1) 16)),(52,bA (class_between v1.Locals (class_args v1) 16)),(51,iA (class_args v1)),(50,.agg [sA v1.Name,.isl 1 (List.map rStr v1.Params),sA v1.Ret,bA v1.Static,bA v1.Abstract,iA v1.Locals,iA v1.Stack,.isl 4 (List.map rApiIns v1.Code),.isl 3 (List.map rApiMap v1.Maps),.isl 4 (List.map rApiTrap v1.Traps)]),(49,iA v1.Locals),(48,.mpt 0 0 5)] 0 (by kernel_rfl) (by kernel_rfl) j0 (by kernel_rfl) (dt0 ⟨(fun _=>pa j0 j0 j0 j0 (asg j0<|j4)),(fun _=>pa j0 j0 j0 j0 (pkb j0 hb20 j0<|j4)),(fun _=>pas (b:=v8) j0 j0 j0 j0 hb20 j0),(fun _=>pas (b:=v8) j0 j0 j0 j0 hb20 j0),(fun _=>pa j0 j0 j0 j0 (mv j0<|j4)),(fun _=>pa j0 j0 j0 j0 (pkb j0 hb18 j0<|j4)),(fun _=>pag (b:=v7) j0 j0 j0 j0 hb18 j0 (pc (class_maps_ok v1 q19) j0 j0 j0<|j4)),(fun _=>pag (b:=v7) j0 j0 j0 j0 hb18 j0 (ld ti35 j0 j0<|j4)),(fun _=>pa j0 j0 j0 j0 (mv j0<|j4)),(fun _=>pa j0 j0 j0 j0 (pkb j0 hb16 j0<|j4)),(fun _=>pag (b:=(class_between v1.Stack 0 16)) j0 j0 j0 j0 hb16 j0 (pc (class_instructions_ok v1 q17) j0 j0 j0<|j4)),(fun _=>pag (b:=(class_between v1.Stack 0 16)) j0 j0 j0 j0 hb16 j0 (ld ti35 j0 j0<|j4)),(fun _=>pa j0 j0 j0 j0 (mv j0<|j4)),(fun _=>pa j0 j0 j0 j0 (pkb j0 hb15 j0<|j4)),(fun _=>pag (b:=(class_between v1.Locals (class_args v1) 16)) j0 j0 j0 j0 hb15 j0 (pc (class_between_ok v1.Stack 0 16 j0) j0 j0 j0<|j4)),(fun _=>pag (b:=(class_between v1.Locals (class_args v1) 16)) j0 j0 j0 j0 hb15 j0 (ld ti3 j0 j0<|j4)),(fun _=>pag (b:=(class_between v1.Locals (class_args v1) 16)) j0 j0 j0 j0 hb15 j0 (fa ti35 j0 j0 j0<|j4)),(fun _=>pa j0 j0 j0 j0 (mv j0<|j4)),(fun _=>pa j0 j0 j0 j0 (pc (class_between_ok v1.Locals (class_args v1) 16 j0) j0 j0 j0<|j4)),(fun _=>pa j0 j0 j0 j0 (pc (class_args_ok v1 j0) j0 j0 j0<|j4)),(fun _=>pa j0 j0 j0 j0 (ld ti35 j0 j0<|j4)),(fun _=>pa j0 j0 j0 j0 (ld ti3 j0 j0<|j4)),(fun _=>pa j0 j0 j0 j0 (fa ti35 j0 j0 j0<|j4)),j5⟩ (by kernel_rfl) j0 ⟨false,h,[],ce j0 j0<|cn,j0,j5,j0,j1⟩)
       ·
        replace h:=bF hb18 h
        exact sw_region_dt [] [22,21,20,19,18,17,16,15,14,13,12,11,10,9,8,7,6,5,4,3,2,1,0] [(2,bA false),(69,bA false),(68,.lit undef),(67,.lit undef),(66,bA false),(65,bA false),(64,.lit undef),(63,.lit undef),(62,bA v7),(61,bA v7),(60,bA v7),(59,.agg [sA v1.Name,.isl 1 (List.map rStr v1.Params),sA v1.Ret,bA v1.Static,bA v1.Abstract,iA v1.Locals,iA v1.Stack,.isl 4 (List.map rApiIns v1.Code),.isl 3 (List.map rApiMap v1.Maps),.isl 4 (List.map rApiTrap v1.Traps)]),(58,bA (class_between v1.Stack 0 16)),(57,bA (class_between v1.Stack 0 16)),(56,bA (class_between v1.Stack 0 16)),(55,iA v1.Stack),(54,.mpt 0 0 6),(53,bA (class_between v1.Locals (class_args v1) 16)),(52,bA (class_between v1.Locals (class_args v1) 16)),(51,iA (class_args v1)),(50,.agg [sA v1.Name,.isl 1 (List.map rStr v1.Params),sA v1.Ret,bA v1.Static,bA v1.Abstract,iA v1.Locals,iA v1.Stack,.isl 4 (List.map rApiIns v1.Code),.isl 3 (List.map rApiMap v1.Maps),.isl 4 (List.map rApiTrap v1.Traps)]),(49,iA v1.Locals),(48,.mpt 0 0 5)] 0 (by kernel_rfl) (by kernel_rfl) j0 (by kernel_rfl) (dt0 ⟨(fun _=>pa j0 j0 j0 j0 (asg j0<|j4)),(fun _=>pa j0 j0 j0 j0 (pk (b:=false) j0 j0<|j4)),(fun _=>pas (b:=false) j0 j0 j0 j0 j0 j0),(fun _=>pas (b:=false) j0 j0 j0 j0 j0 j0),(fun _=>pa j0 j0 j0 j0 (mv j0<|j4)),(fun _=>pa j0 j0 j0 j0 (pkb j0 hb18 j0<|j4)),(fun _=>pas (b:=v7) j0 j0 j0 j0 hb18 j0),(fun _=>pas (b:=v7) j0 j0 j0 j0 hb18 j0),(fun _=>pa j0 j0 j0 j0 (mv j0<|j4)),(fun _=>pa j0 j0 j0 j0 (pkb j0 hb16 j0<|j4)),(fun _=>pag (b:=(class_between v1.Stack 0 16)) j0 j0 j0 j0 hb16 j0 (pc (class_instructions_ok v1 q17) j0 j0 j0<|j4)),(fun _=>pag (b:=(class_between v1.Stack 0 16)) j0 j0 j0 j0 hb16 j0 (ld ti35 j0 j0<|j4)),(fun _=>pa j0 j0 j0 j0 (mv j0<|j4)),(fun _=>pa j0 j0 j0 j0 (pkb j0 hb15 j0<|j4)),(fun _=>pag (b:=(class_between v1.Locals (class_args v1) 16)) j0 j0 j0 j0 hb15 j0 (pc (class_between_ok v1.Stack 0 16 j0) j0 j0 j0<|j4)),(fun _=>pag (b:=(class_between v1.Locals (class_args v1) 16)) j0 j0 j0 j0 hb15 j0 (ld ti3 j0 j0<|j4)),(fun _=>pag (b:=(class_between v1.Locals (class_args v1) 16)) j0 j0 j0 j0 hb15 j0 (fa ti35 j0 j0 j0<|j4)),(fun _=>pa j0 j0 j0 j0 (mv j0<|j4)),(fun _=>pa j0 j0 j0 j0 (pc (class_between_ok v1.Locals (class_args v1) 16 j0) j0 j0 j0<|j4)),(fun _=>pa j0 j0 j0 j0 (pc (class_args_ok v1 j0) j0 j0 j0<|j4)),(fun _=>pa j0 j0 j0 j0 (ld ti35 j0 j0<|j4)),(fun _=>pa j0 j0 j0 j0 (ld ti3 j0 j0<|j4)),(fun _=>pa j0 j0 j0 j0 (fa ti35 j0 j0 j0<|j4)),j5⟩ (by kernel_rfl) j0 ⟨false,h,[],ce j0 j0<|cn,j0,j5,j0,j1⟩)
      ·
       replace h:=bF hb16 h
       exact sw_region_dt [] [22,21,20,19,18,17,16,15,14,13,12,11,10,9,8,7,6,5,4,3,2,1,0] [(2,bA false),(69,bA false),(68,.lit undef),(67,.lit undef),(66,bA false),(65,bA false),(64,.lit undef),(63,.lit undef),(62,bA false),(61,bA false),(60,.lit undef),(59,.lit undef),(58,bA (class_between v1.Stack 0 16)),(57,bA (class_between v1.Stack 0 16)),(56,bA (class_between v1.Stack 0 16)),(55,iA v1.Stack),(54,.mpt 0 0 6),(53,bA (class_between v1.Locals (class_args v1) 16)),(52,bA (class_between v1.Locals (class_args v1) 16)),(51,iA (class_args v1)),(50,.agg [sA v1.Name,.isl 1 (List.map rStr v1.Params),sA v1.Ret,bA v1.Static,bA v1.Abstract,iA v1.Locals,iA v1.Stack,.isl 4 (List.map rApiIns v1.Code),.isl 3 (List.map rApiMap v1.Maps),.isl 4 (List.map rApiTrap v1.Traps)]),(49,iA v1.Locals),(48,.mpt 0 0 5)] 0 (by kernel_rfl) (by kernel_rfl) j0 (by kernel_rfl) (dt0 ⟨(fun _=>pa j0 j0 j0 j0 (asg j0<|j4)),(fun _=>pa j0 j0 j0 j0 (pk (b:=false) j0 j0<|j4)),(fun _=>pas (b:=false) j0 j0 j0 j0 j0 j0),(fun _=>pas (b:=false) j0 j0 j0 j0 j0 j0),(fun _=>pa j0 j0 j0 j0 (mv j0<|j4)),(fun _=>pa j0 j0 j0 j0 (pk (b:=false) j0 j0<|j4)),(fun _=>pas (b:=false) j0 j0 j0 j0 j0 j0),(fun _=>pas (b:=false) j0 j0 j0 j0 j0 j0),(fun _=>pa j0 j0 j0 j0 (mv j0<|j4)),(fun _=>pa j0 j0 j0 j0 (pkb j0 hb16 j0<|j4)),(fun _=>pas (b:=(class_between v1.Stack 0 16)) j0 j0 j0 j0 hb16 j0),(fun _=>pas (b:=(class_between v1.Stack 0 16)) j0 j0 j0 j0 hb16 j0),(fun _=>pa j0 j0 j0 j0 (mv j0<|j4)),(fun _=>pa j0 j0 j0 j0 (pkb j0 hb15 j0<|j4)),(fun _=>pag (b:=(class_between v1.Locals (class_args v1) 16)) j0 j0 j0 j0 hb15 j0 (pc (class_between_ok v1.Stack 0 16 j0) j0 j0 j0<|j4)),(fun _=>pag (b:=(class_between v1.Locals (class_args v1) 16)) j0 j0 j0 j0 hb15 j0 (ld ti3 j0 j0<|j4)),(fun _=>pag (b:=(class_between v1.Locals (class_args v1) 16)) j0 j0 j0 j0 hb15 j0 (fa ti35 j0 j0 j0<|j4)),(fun _=>pa j0 j0 j0 j0 (mv j0<|j4)),(fun _=>pa j0 j0 j0 j0 (pc (class_between_ok v1.Locals (class_args v1) 16 j0) j0 j0 j0<|j4)),(fun _=>pa j0 j0 j0 j0 (pc (class_args_ok v1 j0) j0 j0 j0<|j4)),(fun _=>pa j0 j0 j0 j0 (ld ti35 j0 j0<|j4)),(fun _=>pa j0 j0 j0 j0 (ld ti3 j0 j0<|j4)),(fun _=>pa j0 j0 j0 j0 (fa ti35 j0 j0 j0<|j4)),j5⟩ (by kernel_rfl) j0 ⟨false,h,[],ce j0 j0<|cn,j0,j5,j0,j1⟩)
     ·
      replace h:=bF hb15 h
      exact sw_region_dt [] [22,21,20,19,18,17,16,15,14,13,12,11,10,9,8,7,6,5,4,3,2,1,0] [(2,bA false),(69,bA false),(68,.lit undef),(67,.lit undef),(66,bA false),(65,bA false),(64,.lit undef),(63,.lit undef),(62,bA false),(61,bA false),(60,.lit undef),(59,.lit undef),(58,bA false),(57,bA false),(56,.lit undef),(55,.lit undef),(54,.lit undef),(53,bA (class_between v1.Locals (class_args v1) 16)),(52,bA (class_between v1.Locals (class_args v1) 16)),(51,iA (class_args v1)),(50,.agg [sA v1.Name,.isl 1 (List.map rStr v1.Params),sA v1.Ret,bA v1.Static,bA v1.Abstract,iA v1.Locals,iA v1.Stack,.isl 4 (List.map rApiIns v1.Code),.isl 3 (List.map rApiMap v1.Maps),.isl 4 (List.map rApiTrap v1.Traps)]),(49,iA v1.Locals),(48,.mpt 0 0 5)] 0 (by kernel_rfl) (by kernel_rfl) j0 (by kernel_rfl) (dt0 ⟨(fun _=>pa j0 j0 j0 j0 (asg j0<|j4)),(fun _=>pa j0 j0 j0 j0 (pk (b:=false) j0 j0<|j4)),(fun _=>pas (b:=false) j0 j0 j0 j0 j0 j0),(fun _=>pas (b:=false) j0 j0 j0 j0 j0 j0),(fun _=>pa j0 j0 j0 j0 (mv j0<|j4)),(fun _=>pa j0 j0 j0 j0 (pk (b:=false) j0 j0<|j4)),(fun _=>pas (b:=false) j0 j0 j0 j0 j0 j0),(fun _=>pas (b:=false) j0 j0 j0 j0 j0 j0),(fun _=>pa j0 j0 j0 j0 (mv j0<|j4)),(fun _=>pa j0 j0 j0 j0 (pk (b:=false) j0 j0<|j4)),(fun _=>pas (b:=false) j0 j0 j0 j0 j0 j0),(fun _=>pas (b:=false) j0 j0 j0 j0 j0 j0),(fun _=>pa j0 j0 j0 j0 (mv j0<|j4)),(fun _=>pa j0 j0 j0 j0 (pkb j0 hb15 j0<|j4)),(fun _=>pas (b:=(class_between v1.Locals (class_args v1) 16)) j0 j0 j0 j0 hb15 j0),(fun _=>pas (b:=(class_between v1.Locals (class_args v1) 16)) j0 j0 j0 j0 hb15 j0),(fun _=>pas (b:=(class_between v1.Locals (class_args v1) 16)) j0 j0 j0 j0 hb15 j0),(fun _=>pa j0 j0 j0 j0 (mv j0<|j4)),(fun _=>pa j0 j0 j0 j0 (pc (class_between_ok v1.Locals (class_args v1) 16 j0) j0 j0 j0<|j4)),(fun _=>pa j0 j0 j0 j0 (pc (class_args_ok v1 j0) j0 j0 j0<|j4)),(fun _=>pa j0 j0 j0 j0 (ld ti35 j0 j0<|j4)),(fun _=>pa j0 j0 j0 j0 (ld ti3 j0 j0<|j4)),(fun _=>pa j0 j0 j0 j0 (fa ti35 j0 j0 j0<|j4)),j5⟩ (by kernel_rfl) j0 ⟨false,h,[],ce j0 j0<|cn,j0,j5,j0,j1⟩)
    ·
     rintro v10 h
     replace h : class_method_j1 v10 = some r:=h
     unfold class_method_j1 at h
     refine sw_ret ?_
     obtain rfl:=sm h
     exact ⟨_,j0,[],ci j0,j0,j5,j0,j1⟩
def class_May_4 (v1 : ApiMethod) (v2 : List UInt8) (v3 : List UInt8) (v4 : Bool) (v5 : List (List UInt8)) (v6 : List ApiField) (v7 : List ApiMethod) : Option (Bool) :=
  (cond (v1.Abstract == v4) ((class_method v1).bind fun v8=>some v8) (some false)).bind fun v9=>some v9
theorem class_May_4_ok (v1 : ApiMethod) (v2 : List UInt8) (v3 : List UInt8) (v4 : Bool) (v5 : List (List UInt8)) (v6 : List ApiField) (v7 : List ApiMethod) {r : Bool} (h : class_May_4 v1 v2 v3 v4 v5 v6 v7 = some r) : PureC Tryz.prog 32 [.agg [sA v1.Name,.isl 1 (List.map rStr v1.Params),sA v1.Ret,bA v1.Static,bA v1.Abstract,iA v1.Locals,iA v1.Stack,.isl 4 (List.map rApiIns v1.Code),.isl 3 (List.map rApiMap v1.Maps),.isl 4 (List.map rApiTrap v1.Traps)],.ipt 6 [[sA v2,sA v3,bA v4,.isl 1 (List.map rStr v5),.isl 3 (List.map rApiField v6),.isl 10 (List.map rApiMethod v7)]] 0 0] (bA r):=by
 refine pure_fn Tryz.func32 j0 (by kernel_rfl) j0 j0 ?_
 unfold class_May_4 at h
 refine rg j0<|u<|bx 0 10 j0 j0 j0 j0<|u<|asg j0<|r_nil ?_
 obtain ⟨v9,q3,h⟩:=bs h
 refine rg j0<|u<|fa ti35 j0 j0 j0<|u<|ld ti4 j0 j0<|u<|fa ti28 j0 j0 j0<|u<|ld ti4 j0 j0<|u<|beq ti4 j0 j0 j0<|u<|mv j0<|r_and (x:=v9) (j:=5) 2 j0 j0 j0 j0 j0 gpn (fun hb1=>by replace q3:=bT hb1 q3; obtain ⟨v8,q2,q3⟩:=bs q3; obtain rfl:=sm q3; exact g j0 hb1<|ld ti35 j0 j0<|g j0 hb1<|pc (class_method_ok v1 q2) j0 j0 j0<|r_nil (eg [10,11] 2 j0 j0 j0 j0)) (fun hb=>(sm (bF hb q3)).symm)<|u<|asg j0<|r_nil ?_
 refine sw_ret ?_
 obtain rfl:=sm h
 exact ⟨_,j0,[],ci j0,j0,j5,j0,j1⟩
def class_May_3 (v1 : ApiMethod) : (List UInt8) :=
  v1.Name
theorem class_May_3_ok (v1 : ApiMethod) {r : (List UInt8)} (h : class_May_3 v1 = r) : PureC Tryz.prog 31 [.agg [sA v1.Name,.isl 1 (List.map rStr v1.Params),sA v1.Ret,bA v1.Static,bA v1.Abstract,iA v1.Locals,iA v1.Stack,.isl 4 (List.map rApiIns v1.Code),.isl 3 (List.map rApiMap v1.Maps),.isl 4 (List.map rApiTrap v1.Traps)]] (sA r):=by
 refine pure_fn Tryz.func31 j0 (by kernel_rfl) j0 j0 ?_
 unfold class_May_3 at h
 refine rg j0<|u<|bx 0 10 j0 j0 j0 j0<|u<|asg j0<|r_nil ?_
 refine rg j0<|u<|fa ti35 j0 j0 j0<|u<|ld ti9 j0 j0<|u<|asg j0<|r_nil ?_
 refine sw_ret ?_
 obtain rfl:=h
 exact ⟨_,j0,[],ci j0,j0,j5,j0,j1⟩
def class_all_api_Method_1 (v1 : ApiMethod) (v2 : List UInt8) (v3 : List (List UInt8)) (v4 : List UInt8) (v5 : Bool) (v6 : Bool) (v7 : Int) (v8 : Int) (v9 : List ApiIns) (v10 : List ApiMap) (v11 : List ApiTrap) : Bool :=
  ((class_May_3 (ApiMethod.mk v2 v3 v4 v5 v6 v7 v8 v9 v10 v11)) == (class_May_3 v1))
theorem class_all_api_Method_1_ok (v1 : ApiMethod) (v2 : List UInt8) (v3 : List (List UInt8)) (v4 : List UInt8) (v5 : Bool) (v6 : Bool) (v7 : Int) (v8 : Int) (v9 : List ApiIns) (v10 : List ApiMap) (v11 : List ApiTrap) {r : Bool} (h : class_all_api_Method_1 v1 v2 v3 v4 v5 v6 v7 v8 v9 v10 v11 = r) : PureC Tryz.prog 90 [.agg [sA v1.Name,.isl 1 (List.map rStr v1.Params),sA v1.Ret,bA v1.Static,bA v1.Abstract,iA v1.Locals,iA v1.Stack,.isl 4 (List.map rApiIns v1.Code),.isl 3 (List.map rApiMap v1.Maps),.isl 4 (List.map rApiTrap v1.Traps)],.ipt 1 [[.fn (.func 31) [] []]] 0 0,.ipt 10 [[sA v2,.isl 1 (List.map rStr v3),sA v4,bA v5,bA v6,iA v7,iA v8,.isl 4 (List.map rApiIns v9),.isl 3 (List.map rApiMap v10),.isl 4 (List.map rApiTrap v11)]] 0 0] (bA r):=by
 refine pure_fn Tryz.func90 j0 (by kernel_rfl) j0 j0 ?_
 unfold class_all_api_Method_1 at h
 refine rg j0<|u<|bx 0 10 j0 j0 j0 j0<|u<|asg j0<|r_nil ?_
 refine rd [(4,bA ((class_May_3 (ApiMethod.mk v2 v3 v4 v5 v6 v7 v8 v9 v10 v11)) == (class_May_3 v1)))] [] [] [7,6,5,4,3,2,1,0] [(4,bA ((class_May_3 (ApiMethod.mk v2 v3 v4 v5 v6 v7 v8 v9 v10 v11)) == (class_May_3 v1))),(11,bA ((class_May_3 (ApiMethod.mk v2 v3 v4 v5 v6 v7 v8 v9 v10 v11)) == (class_May_3 v1))),(10,sA (class_May_3 v1)),(9,.agg [sA v1.Name,.isl 1 (List.map rStr v1.Params),sA v1.Ret,bA v1.Static,bA v1.Abstract,iA v1.Locals,iA v1.Stack,.isl 4 (List.map rApiIns v1.Code),.isl 3 (List.map rApiMap v1.Maps),.isl 4 (List.map rApiTrap v1.Traps)]),(8,.fn (.func 31) [] []),(7,sA (class_May_3 (ApiMethod.mk v2 v3 v4 v5 v6 v7 v8 v9 v10 v11))),(6,.agg [sA v2,.isl 1 (List.map rStr v3),sA v4,bA v5,bA v6,iA v7,iA v8,.isl 4 (List.map rApiIns v9),.isl 3 (List.map rApiMap v10),.isl 4 (List.map rApiTrap v11)]),(5,.fn (.func 31) [] [])] 0 (by kernel_rfl) (by kernel_rfl) j0 (by kernel_rfl) (dt0 ⟨(fun _=>pa j0 j0 j0 j0 (asg j0<|j4)),(fun _=>pa j0 j0 j0 j0 (seq ti9 j0 j0<|j4)),(fun _=>pa j0 j0 j0 j0 (pc (class_May_3_ok v1 j0) j0 j0 j0<|j4)),(fun _=>pa j0 j0 j0 j0 (ld ti35 j0 j0<|j4)),(fun _=>pa j0 j0 j0 j0 (ld ti62 j0 j0<|j4)),(fun _=>pa j0 j0 j0 j0 (pc (class_May_3_ok (ApiMethod.mk v2 v3 v4 v5 v6 v7 v8 v9 v10 v11) j0) j0 j0 j0<|j4)),(fun _=>pa j0 j0 j0 j0 (ld ti35 j0 j0<|j4)),(fun _=>pa j0 j0 j0 j0 (ld ti62 j0 j0<|j4)),j5⟩ (by kernel_rfl) j0 ⟨[],ce j0 j0<|cn,j0,j5,j0,j1⟩) ?_
 refine sw_ret ?_
 obtain rfl:=h
 exact ⟨_,j0,[],ci j0,j0,j5,j0,j1⟩
def slices_IndexFunc_api_Method_api_Method_k2 : Option (Int) :=
  some (-1)
def slices_IndexFunc_api_Method_api_Method_l1 (v1 : List ApiMethod) (v2 : List UInt8) (v3 : List (List UInt8)) (v4 : List UInt8) (v5 : Bool) (v6 : Bool) (v7 : Int) (v8 : Int) (v9 : List ApiIns) (v10 : List ApiMap) (v11 : List ApiTrap) (v14 : Int) : Option (Sum (Int) (Sum (Unit) (Int))) :=
  cond (decide (v14 < (List.length v1 : Int))) ((idx v1 v14).bind fun v15=>cond (class_all_api_Method_1 v15 v2 v3 v4 v5 v6 v7 v8 v9 v10 v11) (some (.inr (.inr v14))) (some (.inl (IntKind.i64.wrap (v14 + 1))))) (some (.inr (.inl ())))
def slices_IndexFunc_api_Method_api_Method (v1 : List ApiMethod) (v2 : List UInt8) (v3 : List (List UInt8)) (v4 : List UInt8) (v5 : Bool) (v6 : Bool) (v7 : Int) (v8 : Int) (v9 : List ApiIns) (v10 : List ApiMap) (v11 : List ApiTrap) : Option (Int) :=
  (loopP (fun z=>slices_IndexFunc_api_Method_api_Method_l1 v1 v2 v3 v4 v5 v6 v7 v8 v9 v10 v11 z) 0).bind fun o=>leave o (fun b=>slices_IndexFunc_api_Method_api_Method_k2) some
theorem slices_IndexFunc_api_Method_api_Method_ok (v1 : List ApiMethod) (v2 : List UInt8) (v3 : List (List UInt8)) (v4 : List UInt8) (v5 : Bool) (v6 : Bool) (v7 : Int) (v8 : Int) (v9 : List ApiIns) (v10 : List ApiMap) (v11 : List ApiTrap) {r : Int} (h : slices_IndexFunc_api_Method_api_Method v1 v2 v3 v4 v5 v6 v7 v8 v9 v10 v11 = some r) : PureC Tryz.prog 80 [.isl 10 (List.map rApiMethod v1),.fn (.func 90) [] [.ipt 1 [[.fn (.func 31) [] []]] 0 0,.ipt 10 [[sA v2,.isl 1 (List.map rStr v3),sA v4,bA v5,bA v6,iA v7,iA v8,.isl 4 (List.map rApiIns v9),.isl 3 (List.map rApiMap v10),.isl 4 (List.map rApiTrap v11)]] 0 0]] (iA r):=by
 refine pure_fn Tryz.func80 j0 (by kernel_rfl) j0 j0 ?_
 unfold slices_IndexFunc_api_Method_api_Method at h
 refine rg j0<|u<|asg j0<|r_nil ?_
 refine sw_seq ?_
 refine rg j0<|u<|mv j0<|u<|lnI ti26 j0 j0<|u<|mv j0<|r_nil ?_
 obtain ⟨o,ho,h⟩:=bs h
 refine sw_lpl (X:=Int) (B:=Unit) (R:=Int) (fun z=>[(0,.isl 10 (List.map rApiMethod v1)),(1,.fn (.func 90) [] [.ipt 1 [[.fn (.func 31) [] []]] 0 0,.ipt 10 [[sA v2,.isl 1 (List.map rStr v3),sA v4,bA v5,bA v6,iA v7,iA v8,.isl 4 (List.map rApiIns v9),.isl 3 (List.map rApiMap v10),.isl 4 (List.map rApiTrap v11)]] 0 0]),(7,iA (List.length v1 : Int)),(8,iA z)]) (fun z=>[]) (fun b=>[]) (fun b=>[]) (fun r env st=>PostF Tryz.prog Tryz.f80 0 (iA r) [] env st) ho ⟨[],ce j0 j0<|ce j0 j0<|ce j0 j0<|ce j0 j0<|cn,j0,j5,j0,j1⟩ ?_ ?_ ?_
 ·
  rintro v14 r h
  replace h : slices_IndexFunc_api_Method_api_Method_l1 v1 v2 v3 v4 v5 v6 v7 v8 v9 v10 v11 v14 = some r:=h
  unfold slices_IndexFunc_api_Method_api_Method_l1 at h
  refine rg j0<|u<|lss ti3 j0 j0<|r_nil ?_
  refine sw_seq ?_
  refine sw_cond j0 (fun hc4=>?_) (fun hc4=>?_)
  ·
   replace h:=bT hc4 h
   refine sw_skip ?_
   refine sw_seq ?_
   refine sw_block ?_
   refine rg j0<|u<|mv j0<|u<|asg j0<|r_nil ?_
   obtain ⟨v15,q5,h⟩:=bs h
   refine rg j0<|u<|mv j0<|u<|mv j0<|u<|mv j0<|u<|ixI ti26 j0 ti35 j0 j0 j0 q5<|u<|ldI ti35 j0 (idx_some q5).2.2 j0<|u<|pc (class_all_api_Method_1_ok v15 v2 v3 v4 v5 v6 v7 v8 v9 v10 v11 j0) j0 j0 j0<|r_nil ?_
   refine sw_cond j0 (fun hc6=>?_) (fun hc6=>?_)
   ·
    replace h:=bT hc6 h
    refine rg j0<|u<|mv j0<|u<|asg j0<|r_nil ?_
    refine sw_ret ?_
    obtain rfl:=sm h
    exact ⟨_,j0,_,j0,[],ci j0,j0,j5,j0,j1⟩
   ·
    replace h:=bF hc6 h
    refine sw_skip ?_
    refine rl j0<|u<|add ti3 j0 j0<|u<|mv j0<|r_nil ?_
    obtain rfl:=sm h
    exact ⟨_,j0,[],ce j0 j0<|ce j0 j0<|ce j0 j0<|ce j0 j0<|cn,j0,j5,j0,j1⟩
  ·
   replace h:=bF hc4 h
   refine sw_exit ?_
   obtain rfl:=sm h
   exact ⟨j0,_,j0,[],cn,j0,j5,j0,j1⟩
 ·
  rintro ⟨⟩ rfl
  replace h : slices_IndexFunc_api_Method_api_Method_k2 = some r:=h
  unfold slices_IndexFunc_api_Method_api_Method_k2 at h
  refine ow_intro ?_
  refine rg j0<|u<|asg j0<|r_nil ?_
  refine sw_ret ?_
  obtain rfl:=sm h
  exact ⟨_,j0,[],ci j0,j0,j5,j0,j1⟩
 ·
  rintro r' rfl env st hp
  obtain rfl:=sm h
  exact hp
def slices_ContainsFunc_api_Method_api_Method (v1 : List ApiMethod) (v2 : List UInt8) (v3 : List (List UInt8)) (v4 : List UInt8) (v5 : Bool) (v6 : Bool) (v7 : Int) (v8 : Int) (v9 : List ApiIns) (v10 : List ApiMap) (v11 : List ApiTrap) : Option (Bool) :=
  (slices_IndexFunc_api_Method_api_Method v1 v2 v3 v4 v5 v6 v7 v8 v9 v10 v11).bind fun v12=>some (decide (0 ≤ v12))
theorem slices_ContainsFunc_api_Method_api_Method_ok (v1 : List ApiMethod) (v2 : List UInt8) (v3 : List (List UInt8)) (v4 : List UInt8) (v5 : Bool) (v6 : Bool) (v7 : Int) (v8 : Int) (v9 : List ApiIns) (v10 : List ApiMap) (v11 : List ApiTrap) {r : Bool} (h : slices_ContainsFunc_api_Method_api_Method v1 v2 v3 v4 v5 v6 v7 v8 v9 v10 v11 = some r) : PureC Tryz.prog 89 [.isl 10 (List.map rApiMethod v1),.fn (.func 90) [] [.ipt 1 [[.fn (.func 31) [] []]] 0 0,.ipt 10 [[sA v2,.isl 1 (List.map rStr v3),sA v4,bA v5,bA v6,iA v7,iA v8,.isl 4 (List.map rApiIns v9),.isl 3 (List.map rApiMap v10),.isl 4 (List.map rApiTrap v11)]] 0 0]] (bA r):=by
 refine pure_fn Tryz.func89 j0 (by kernel_rfl) j0 j0 ?_
 unfold slices_ContainsFunc_api_Method_api_Method at h
 refine rg j0<|u<|asg j0<|r_nil ?_
 obtain ⟨v12,q1,h⟩:=bs h
 refine rg j0<|u<|mv j0<|u<|mv j0<|u<|pc (slices_IndexFunc_api_Method_api_Method_ok v1 v2 v3 v4 v5 v6 v7 v8 v9 v10 v11 q1) j0 j0 j0<|u<|geq ti3 j0 j0<|u<|asg j0<|r_nil ?_
 refine sw_ret ?_
 obtain rfl:=sm h
 exact ⟨_,j0,[],ci j0,j0,j5,j0,j1⟩
def class_all_api_Method_k2 (v1 : List ApiMethod) (v2 : Int) : Option (Bool) :=
  some (decide ((List.length v1 : Int) ≤ v2))
def class_all_api_Method_l1 (v1 : List ApiMethod) (v3 : List UInt8) (v4 : List UInt8) (v5 : Bool) (v6 : List (List UInt8)) (v7 : List ApiField) (v8 : List ApiMethod) (v15 : Int) : Option (Sum (Int) (Sum (Unit) (Bool))) :=
  cond (decide (v15 < (List.length v1 : Int))) ((idx v1 v15).bind fun v16=>(class_May_4 v16 v3 v4 v5 v6 v7 v8).bind fun v17=>(cond (!v17) (some true) ((cutP v1 0 v15).bind fun v18=>(slices_ContainsFunc_api_Method_api_Method v18 v16.Name v16.Params v16.Ret v16.Static v16.Abstract v16.Locals v16.Stack v16.Code v16.Maps v16.Traps).bind fun v19=>some v19)).bind fun v20=>cond v20 (some (.inr (.inr false))) (some (.inl (IntKind.i64.wrap (v15 + 1))))) (some (.inr (.inl ())))
def class_all_api_Method (v1 : List ApiMethod) (v2 : Int) (v3 : List UInt8) (v4 : List UInt8) (v5 : Bool) (v6 : List (List UInt8)) (v7 : List ApiField) (v8 : List ApiMethod) : Option (Bool) :=
  (loopP (fun z=>class_all_api_Method_l1 v1 v3 v4 v5 v6 v7 v8 z) 0).bind fun o=>leave o (fun b=>class_all_api_Method_k2 v1 v2) some
theorem class_all_api_Method_ok (v1 : List ApiMethod) (v2 : Int) (v3 : List UInt8) (v4 : List UInt8) (v5 : Bool) (v6 : List (List UInt8)) (v7 : List ApiField) (v8 : List ApiMethod) {r : Bool} (h : class_all_api_Method v1 v2 v3 v4 v5 v6 v7 v8 = some r) : PureC Tryz.prog 30 [.isl 10 (List.map rApiMethod v1),iA v2,.fn (.func 31) [] [],.fn (.func 32) [] [.ipt 6 [[sA v3,sA v4,bA v5,.isl 1 (List.map rStr v6),.isl 3 (List.map rApiField v7),.isl 10 (List.map rApiMethod v8)]] 0 0]] (bA r):=by
 refine pure_fn Tryz.func30 j0 (by kernel_rfl) j0 j0 ?_
 unfold class_all_api_Method at h
 refine rg j0<|u<|bx 0 1 j0 j0 j0 j0<|u<|asg j0<|r_nil ?_
 refine sw_seq ?_
 refine rg j0<|u<|mv j0<|u<|lnI ti26 j0 j0<|u<|mv j0<|r_nil ?_
 obtain ⟨o,ho,h⟩:=bs h
 refine sw_lpl (X:=Int) (B:=Unit) (R:=Bool) (fun z=>[(0,.isl 10 (List.map rApiMethod v1)),(1,iA v2),(3,.fn (.func 32) [] [.ipt 6 [[sA v3,sA v4,bA v5,.isl 1 (List.map rStr v6),.isl 3 (List.map rApiField v7),.isl 10 (List.map rApiMethod v8)]] 0 0]),(6,.mpt 0 0 0),(11,.isl 10 (List.map rApiMethod v1)),(12,iA (List.length v1 : Int)),(13,iA z)]) (fun z=>[some (1,[[.fn (.func 31) [] []]])]) (fun b=>[(0,.isl 10 (List.map rApiMethod v1)),(1,iA v2)]) (fun b=>[]) (fun r env st=>PostF Tryz.prog Tryz.f30 0 (bA r) [] env st) ho ⟨[.old 0],ce j0 j0<|ce j0 j0<|ce j0 j0<|cv j0 (.mpt j0)<|ce j0 j0<|ce j0 j0<|ce j0 j0<|cn,j0,⟨⟨_,j0,rsOne ⟨ci j0,j5⟩⟩,j5⟩,j0,j1⟩ ?_ ?_ ?_
 ·
  rintro v15 r h
  replace h : class_all_api_Method_l1 v1 v3 v4 v5 v6 v7 v8 v15 = some r:=h
  unfold class_all_api_Method_l1 at h
  refine rg j0<|u<|lss ti3 j0 j0<|r_nil ?_
  refine sw_seq ?_
  refine sw_cond j0 (fun hc9=>?_) (fun hc9=>?_)
  ·
   replace h:=bT hc9 h
   refine sw_skip ?_
   refine sw_seq ?_
   refine sw_block ?_
   obtain ⟨v16,q10,h⟩:=bs h
   refine rg j0<|u<|mv j0<|u<|ixI ti26 j0 ti35 j0 j0 j0 q10<|u<|ldI ti35 j0 (idx_some q10).2.2 j0<|u<|al 1 ti35 j0<|u<|asg j0<|u<|sto ti35 j0 j0 j0<|r_nil ?_
   obtain ⟨v17,q11,h⟩:=bs h
   obtain ⟨v20,q15,h⟩:=bs h
   refine rg j0<|u<|mv j0<|u<|ld ti35 j0 j0<|u<|pc (class_May_4_ok v16 v3 v4 v5 v6 v7 v8 q11) j0 j0 j0<|u<|nt j0<|u<|mv j0<|r_or (x:=v20) (j:=4) 5 j0 j0 j0 j0 j0 gpn (fun hb12=>by replace q15:=bF hb12 q15; obtain ⟨v18,q13,q15⟩:=bs q15; obtain ⟨v19,q14,q15⟩:=bs q15; obtain rfl:=sm q15; exact g j0 hb12<|mv j0<|g j0 hb12<|mv j0<|g j0 hb12<|slI (a:=0) (b:=v15) ti26 j0 ti35 j0 j0 j0 (bnd_hi j0 q13) q13<|g j0 hb12<|mf j0 j0<|g j0 hb12<|pcs (slices_ContainsFunc_api_Method_api_Method_ok v18 v16.Name v16.Params v16.Ret v16.Static v16.Abstract v16.Locals v16.Stack v16.Code v16.Maps v16.Traps q14) j0 j0 (.cons (si j0) (.cons (sealFn j5 ⟨(sealBox j0 ⟨(si j0),j5⟩),(sealBox j0 ⟨(si j0),(si j0),(si j0),(si j0),(si j0),(si j0),(si j0),(si j0),(si j0),(si j0),j5⟩),j5⟩) .nil)) plainB<|r_nil (eg [23,24,25,26,27] 5 j0 j0 j0 j0)) (fun hb=>(sm (bT hb q15)).symm)<|r_nil ?_
   refine sw_cond j0 (fun hc16=>?_) (fun hc16=>?_)
   ·
    replace h:=bT hc16 h
    refine rg j0<|u<|asg j0<|r_nil ?_
    refine sw_ret ?_
    obtain rfl:=sm h
    exact ⟨_,j0,_,j0,[],ci j0,j0,j5,j0,j1⟩
   ·
    replace h:=bF hc16 h
    refine sw_skip ?_
    refine rl j0<|u<|add ti3 j0 j0<|u<|mv j0<|r_nil ?_
    obtain rfl:=sm h
    exact ⟨_,j0,[.old 0],ce j0 j0<|ce j0 j0<|ce j0 j0<|cv j0 (.mpt j0)<|ce j0 j0<|ce j0 j0<|ce j0 j0<|cn,j0,⟨⟨_,j0,rsOne ⟨ci j0,j5⟩⟩,j5⟩,j0,j1⟩
  ·
   replace h:=bF hc9 h
   refine sw_exit ?_
   obtain rfl:=sm h
   exact ⟨j0,_,j0,[],ce j0 j0<|ce j0 j0<|cn,j0,j5,j0,j1⟩
 ·
  rintro ⟨⟩ rfl
  replace h : class_all_api_Method_k2 v1 v2 = some r:=h
  unfold class_all_api_Method_k2 at h
  refine ow_intro ?_
  refine rg j0<|u<|mv j0<|u<|lnI ti26 j0 j0<|u<|mv j0<|u<|leq ti3 j0 j0<|u<|asg j0<|r_nil ?_
  refine sw_ret ?_
  obtain rfl:=sm h
  exact ⟨_,j0,[],ci j0,j0,j5,j0,j1⟩
 ·
  rintro r' rfl env st hp
  obtain rfl:=sm h
  exact hp
def class_self (v1 : List UInt8) : (List UInt8) :=
  v1
theorem class_self_ok (v1 : List UInt8) {r : (List UInt8)} (h : class_self v1 = r) : PureC Tryz.prog 36 [sA v1] (sA r):=by
 refine pure_fn Tryz.func36 j0 (by kernel_rfl) j0 j0 ?_
 unfold class_self at h
 refine rg j0<|u<|asg j0<|r_nil ?_
 refine rg j0<|u<|mv j0<|u<|asg j0<|r_nil ?_
 refine sw_ret ?_
 obtain rfl:=h
 exact ⟨_,j0,[],ci j0,j0,j5,j0,j1⟩
def class_all_string_1 (v1 : List UInt8) (v2 : List UInt8) : Bool :=
  ((class_self v2) == (class_self v1))
theorem class_all_string_1_ok (v1 : List UInt8) (v2 : List UInt8) {r : Bool} (h : class_all_string_1 v1 v2 = r) : PureC Tryz.prog 101 [sA v1,.ipt 1 [[.fn (.func 36) [] []]] 0 0,.ipt 1 [[sA v2]] 0 0] (bA r):=by
 refine pure_fn Tryz.func101 j0 (by kernel_rfl) j0 j0 ?_
 unfold class_all_string_1 at h
 refine rg j0<|u<|asg j0<|r_nil ?_
 refine rd [(4,bA ((class_self v2) == (class_self v1)))] [] [] [7,6,5,4,3,2,1,0] [(4,bA ((class_self v2) == (class_self v1))),(11,bA ((class_self v2) == (class_self v1))),(10,sA (class_self v1)),(9,sA v1),(8,.fn (.func 36) [] []),(7,sA (class_self v2)),(6,sA v2),(5,.fn (.func 36) [] [])] 0 (by kernel_rfl) (by kernel_rfl) j0 (by kernel_rfl) (dt0 ⟨(fun _=>pa j0 j0 j0 j0 (asg j0<|j4)),(fun _=>pa j0 j0 j0 j0 (seq ti9 j0 j0<|j4)),(fun _=>pa j0 j0 j0 j0 (pc (class_self_ok v1 j0) j0 j0 j0<|j4)),(fun _=>pa j0 j0 j0 j0 (mv j0<|j4)),(fun _=>pa j0 j0 j0 j0 (ld ti65 j0 j0<|j4)),(fun _=>pa j0 j0 j0 j0 (pc (class_self_ok v2 j0) j0 j0 j0<|j4)),(fun _=>pa j0 j0 j0 j0 (ld ti9 j0 j0<|j4)),(fun _=>pa j0 j0 j0 j0 (ld ti65 j0 j0<|j4)),j5⟩ (by kernel_rfl) j0 ⟨[],ce j0 j0<|cn,j0,j5,j0,j1⟩) ?_
 refine sw_ret ?_
 obtain rfl:=h
 exact ⟨_,j0,[],ci j0,j0,j5,j0,j1⟩
def slices_IndexFunc_string_string_s3_k2 : Option (Int) :=
  some (-1)
def slices_IndexFunc_string_string_s3_l1 (v1 : List (List UInt8)) (v2 : List UInt8) (v5 : Int) : Option (Sum (Int) (Sum (Unit) (Int))) :=
  cond (decide (v5 < (List.length v1 : Int))) ((idx v1 v5).bind fun v6=>cond (class_all_string_1 v6 v2) (some (.inr (.inr v5))) (some (.inl (IntKind.i64.wrap (v5 + 1))))) (some (.inr (.inl ())))
def slices_IndexFunc_string_string_s3 (v1 : List (List UInt8)) (v2 : List UInt8) : Option (Int) :=
  (loopP (fun z=>slices_IndexFunc_string_string_s3_l1 v1 v2 z) 0).bind fun o=>leave o (fun b=>slices_IndexFunc_string_string_s3_k2) some
theorem slices_IndexFunc_string_string_s3_ok (v1 : List (List UInt8)) (v2 : List UInt8) {r : Int} (h : slices_IndexFunc_string_string_s3 v1 v2 = some r) : PureC Tryz.prog 147 [.isl 1 (List.map rStr v1),.fn (.func 101) [] [.ipt 1 [[.fn (.func 36) [] []]] 0 0,.ipt 1 [[sA v2]] 0 0]] (iA r):=by
 refine pure_fn Tryz.func147 j0 (by kernel_rfl) j0 j0 ?_
 unfold slices_IndexFunc_string_string_s3 at h
 refine rg j0<|u<|asg j0<|r_nil ?_
 refine sw_seq ?_
 refine rg j0<|u<|mv j0<|u<|lnI ti24 j0 j0<|u<|mv j0<|r_nil ?_
 obtain ⟨o,ho,h⟩:=bs h
 refine sw_lpl (X:=Int) (B:=Unit) (R:=Int) (fun z=>[(0,.isl 1 (List.map rStr v1)),(1,.fn (.func 101) [] [.ipt 1 [[.fn (.func 36) [] []]] 0 0,.ipt 1 [[sA v2]] 0 0]),(7,iA (List.length v1 : Int)),(8,iA z)]) (fun z=>[]) (fun b=>[]) (fun b=>[]) (fun r env st=>PostF Tryz.prog Tryz.f147 0 (iA r) [] env st) ho ⟨[],ce j0 j0<|ce j0 j0<|ce j0 j0<|ce j0 j0<|cn,j0,j5,j0,j1⟩ ?_ ?_ ?_
 ·
  rintro v5 r h
  replace h : slices_IndexFunc_string_string_s3_l1 v1 v2 v5 = some r:=h
  unfold slices_IndexFunc_string_string_s3_l1 at h
  refine rg j0<|u<|lss ti3 j0 j0<|r_nil ?_
  refine sw_seq ?_
  refine sw_cond j0 (fun hc4=>?_) (fun hc4=>?_)
  ·
   replace h:=bT hc4 h
   refine sw_skip ?_
   refine sw_seq ?_
   refine sw_block ?_
   refine rg j0<|u<|mv j0<|u<|asg j0<|r_nil ?_
   obtain ⟨v6,q5,h⟩:=bs h
   refine rg j0<|u<|mv j0<|u<|mv j0<|u<|mv j0<|u<|ixI ti24 j0 ti9 j0 j0 j0 q5<|u<|ldI ti9 j0 (idx_some q5).2.2 j0<|u<|pc (class_all_string_1_ok v6 v2 j0) j0 j0 j0<|r_nil ?_
   refine sw_cond j0 (fun hc6=>?_) (fun hc6=>?_)
   ·
    replace h:=bT hc6 h
    refine rg j0<|u<|mv j0<|u<|asg j0<|r_nil ?_
    refine sw_ret ?_
    obtain rfl:=sm h
    exact ⟨_,j0,_,j0,[],ci j0,j0,j5,j0,j1⟩
   ·
    replace h:=bF hc6 h
    refine sw_skip ?_
    refine rl j0<|u<|add ti3 j0 j0<|u<|mv j0<|r_nil ?_
    obtain rfl:=sm h
    exact ⟨_,j0,[],ce j0 j0<|ce j0 j0<|ce j0 j0<|ce j0 j0<|cn,j0,j5,j0,j1⟩
  ·
   replace h:=bF hc4 h
   refine sw_exit ?_
   obtain rfl:=sm h
   exact ⟨j0,_,j0,[],cn,j0,j5,j0,j1⟩
 ·
  rintro ⟨⟩ rfl
  replace h : slices_IndexFunc_string_string_s3_k2 = some r:=h
  unfold slices_IndexFunc_string_string_s3_k2 at h
  refine ow_intro ?_
  refine rg j0<|u<|asg j0<|r_nil ?_
  refine sw_ret ?_
  obtain rfl:=sm h
  exact ⟨_,j0,[],ci j0,j0,j5,j0,j1⟩
 ·
  rintro r' rfl env st hp
  obtain rfl:=sm h
  exact hp
def slices_ContainsFunc_string_string_s3 (v1 : List (List UInt8)) (v2 : List UInt8) : Option (Bool) :=
  (slices_IndexFunc_string_string_s3 v1 v2).bind fun v3=>some (decide (0 ≤ v3))
theorem slices_ContainsFunc_string_string_s3_ok (v1 : List (List UInt8)) (v2 : List UInt8) {r : Bool} (h : slices_ContainsFunc_string_string_s3 v1 v2 = some r) : PureC Tryz.prog 100 [.isl 1 (List.map rStr v1),.fn (.func 101) [] [.ipt 1 [[.fn (.func 36) [] []]] 0 0,.ipt 1 [[sA v2]] 0 0]] (bA r):=by
 refine pure_fn Tryz.func100 j0 (by kernel_rfl) j0 j0 ?_
 unfold slices_ContainsFunc_string_string_s3 at h
 refine rg j0<|u<|asg j0<|r_nil ?_
 obtain ⟨v3,q1,h⟩:=bs h
 refine rg j0<|u<|mv j0<|u<|mv j0<|u<|pc (slices_IndexFunc_string_string_s3_ok v1 v2 q1) j0 j0 j0<|u<|geq ti3 j0 j0<|u<|asg j0<|r_nil ?_
 refine sw_ret ?_
 obtain rfl:=sm h
 exact ⟨_,j0,[],ci j0,j0,j5,j0,j1⟩
def class_all_string_k2 (v1 : List (List UInt8)) (v2 : Int) : Option (Bool) :=
  some (decide ((List.length v1 : Int) ≤ v2))
def class_all_string_l1 (v1 : List (List UInt8)) (v9 : Int) : Option (Sum (Int) (Sum (Unit) (Bool))) :=
  cond (decide (v9 < (List.length v1 : Int))) ((idx v1 v9).bind fun v10=>(kind_Class v10).bind fun v11=>(cond (!v11) (some true) ((cutP v1 0 v9).bind fun v12=>(slices_ContainsFunc_string_string_s3 v12 v10).bind fun v13=>some v13)).bind fun v14=>cond v14 (some (.inr (.inr false))) (some (.inl (IntKind.i64.wrap (v9 + 1))))) (some (.inr (.inl ())))
def class_all_string (v1 : List (List UInt8)) (v2 : Int) : Option (Bool) :=
  (loopP (fun z=>class_all_string_l1 v1 z) 0).bind fun o=>leave o (fun b=>class_all_string_k2 v1 v2) some
theorem class_all_string_ok (v1 : List (List UInt8)) (v2 : Int) {r : Bool} (h : class_all_string v1 v2 = some r) : PureC Tryz.prog 35 [.isl 1 (List.map rStr v1),iA v2,.fn (.func 36) [] [],.fn (.func 34) [] []] (bA r):=by
 refine pure_fn Tryz.func35 j0 (by kernel_rfl) j0 j0 ?_
 unfold class_all_string at h
 refine rg j0<|u<|bx 0 1 j0 j0 j0 j0<|u<|asg j0<|r_nil ?_
 refine sw_seq ?_
 refine rg j0<|u<|mv j0<|u<|lnI ti24 j0 j0<|u<|mv j0<|r_nil ?_
 obtain ⟨o,ho,h⟩:=bs h
 refine sw_lpl (X:=Int) (B:=Unit) (R:=Bool) (fun z=>[(0,.isl 1 (List.map rStr v1)),(1,iA v2),(3,.fn (.func 34) [] []),(6,.mpt 0 0 0),(11,.isl 1 (List.map rStr v1)),(12,iA (List.length v1 : Int)),(13,iA z)]) (fun z=>[some (1,[[.fn (.func 36) [] []]])]) (fun b=>[(0,.isl 1 (List.map rStr v1)),(1,iA v2)]) (fun b=>[]) (fun r env st=>PostF Tryz.prog Tryz.f35 0 (bA r) [] env st) ho ⟨[.old 0],ce j0 j0<|ce j0 j0<|ce j0 j0<|cv j0 (.mpt j0)<|ce j0 j0<|ce j0 j0<|ce j0 j0<|cn,j0,⟨⟨_,j0,rsOne ⟨ci j0,j5⟩⟩,j5⟩,j0,j1⟩ ?_ ?_ ?_
 ·
  rintro v9 r h
  replace h : class_all_string_l1 v1 v9 = some r:=h
  unfold class_all_string_l1 at h
  refine rg j0<|u<|lss ti3 j0 j0<|r_nil ?_
  refine sw_seq ?_
  refine sw_cond j0 (fun hc9=>?_) (fun hc9=>?_)
  ·
   replace h:=bT hc9 h
   refine sw_skip ?_
   refine sw_seq ?_
   refine sw_block ?_
   obtain ⟨v10,q10,h⟩:=bs h
   refine rg j0<|u<|mv j0<|u<|ixI ti24 j0 ti9 j0 j0 j0 q10<|u<|ldI ti9 j0 (idx_some q10).2.2 j0<|u<|al 1 ti9 j0<|u<|asg j0<|u<|sto ti9 j0 j0 j0<|r_nil ?_
   obtain ⟨v11,q11,h⟩:=bs h
   obtain ⟨v14,q15,h⟩:=bs h
   refine rg j0<|u<|mv j0<|u<|ld ti9 j0 j0<|u<|pc (kind_Class_ok v10 q11) j0 j0 j0<|u<|nt j0<|u<|mv j0<|r_or (x:=v14) (j:=4) 5 j0 j0 j0 j0 j0 gpn (fun hb12=>by replace q15:=bF hb12 q15; obtain ⟨v12,q13,q15⟩:=bs q15; obtain ⟨v13,q14,q15⟩:=bs q15; obtain rfl:=sm q15; exact g j0 hb12<|mv j0<|g j0 hb12<|mv j0<|g j0 hb12<|slI (a:=0) (b:=v9) ti24 j0 ti9 j0 j0 j0 (bnd_hi j0 q13) q13<|g j0 hb12<|mf j0 j0<|g j0 hb12<|pcs (slices_ContainsFunc_string_string_s3_ok v12 v10 q14) j0 j0 (.cons (si j0) (.cons (sealFn j5 ⟨(sealBox j0 ⟨(si j0),j5⟩),(sealBox j0 ⟨(si j0),j5⟩),j5⟩) .nil)) plainB<|r_nil (eg [23,24,25,26,27] 5 j0 j0 j0 j0)) (fun hb=>(sm (bT hb q15)).symm)<|r_nil ?_
   refine sw_cond j0 (fun hc16=>?_) (fun hc16=>?_)
   ·
    replace h:=bT hc16 h
    refine rg j0<|u<|asg j0<|r_nil ?_
    refine sw_ret ?_
    obtain rfl:=sm h
    exact ⟨_,j0,_,j0,[],ci j0,j0,j5,j0,j1⟩
   ·
    replace h:=bF hc16 h
    refine sw_skip ?_
    refine rl j0<|u<|add ti3 j0 j0<|u<|mv j0<|r_nil ?_
    obtain rfl:=sm h
    exact ⟨_,j0,[.old 0],ce j0 j0<|ce j0 j0<|ce j0 j0<|cv j0 (.mpt j0)<|ce j0 j0<|ce j0 j0<|ce j0 j0<|cn,j0,⟨⟨_,j0,rsOne ⟨ci j0,j5⟩⟩,j5⟩,j0,j1⟩
  ·
   replace h:=bF hc9 h
   refine sw_exit ?_
   obtain rfl:=sm h
   exact ⟨j0,_,j0,[],ce j0 j0<|ce j0 j0<|cn,j0,j5,j0,j1⟩
 ·
  rintro ⟨⟩ rfl
  replace h : class_all_string_k2 v1 v2 = some r:=h
  unfold class_all_string_k2 at h
  refine ow_intro ?_
  refine rg j0<|u<|mv j0<|u<|lnI ti24 j0 j0<|u<|mv j0<|u<|leq ti3 j0 j0<|u<|asg j0<|r_nil ?_
  refine sw_ret ?_
  obtain rfl:=sm h
  exact ⟨_,j0,[],ci j0,j0,j5,j0,j1⟩
 ·
  rintro r' rfl env st hp
  obtain rfl:=sm h
  exact hp
def class_May (v1 : ApiClass) : Option (Bool) :=
  cond (v1.Interface && ((!(v1.Super == [79,98,106,101,99,116])) || (decide (0 < (List.length v1.Fields : Int))))) (some false) ((class_all_api_Field v1.Fields 8).bind fun v2=>(class_all_api_Method v1.Methods 8 v1.Name v1.Super v1.Interface v1.Impl v1.Fields v1.Methods).bind fun v3=>(kind_Class v1.Name).bind fun v4=>(cond v4 ((kind_Class v1.Super).bind fun v5=>some v5) (some false)).bind fun v6=>(cond v6 ((class_all_string v1.Impl 4).bind fun v7=>some v7) (some false)).bind fun v8=>some ((v8 && v2) && v3))
theorem class_May_ok (v1 : ApiClass) {r : Bool} (h : class_May v1 = some r) : PureC Tryz.prog 11 [.agg [sA v1.Name,sA v1.Super,bA v1.Interface,.isl 1 (List.map rStr v1.Impl),.isl 3 (List.map rApiField v1.Fields),.isl 10 (List.map rApiMethod v1.Methods)]] (bA r):=by
 refine pure_fn Tryz.func11 j0 (by kernel_rfl) j0 j0 ?_
 unfold class_May at h
 refine rg j0<|u<|bx 0 6 j0 j0 j0 j0<|u<|asg j0<|r_nil ?_
 refine sw_seq ?_
 refine rg j0<|u<|fa ti28 j0 j0 j0<|u<|ld ti4 j0 j0<|u<|mv j0<|r_and (j:=2) 9 j0 j0 j0 j0 j0 gpn (fun hb1=>g j0 hb1<|fa ti28 j0 j0 j0<|g j0 hb1<|ld ti9 j0 j0<|g j0 hb1<|sne ti9 j0 j0<|g j0 hb1<|mv j0<|r_or (j:=6) 4 j0 j0 j0 j0 j0 (gps j0 j0 hb1) (fun hb2=>g j0 hb2<|fa ti28 j0 j0 j0<|g j0 hb2<|ld ti25 j0 j0<|g j0 hb2<|lnI ti25 j0 j0<|g j0 hb2<|gtr ti3 j0 j0<|r_nil (egO [12,13,14,15] 4 hb2 j0 j0 j0 j0)) orT<|r_nil (egA [8,9,10,11,12,13,14,15,16] 5 hb1 j0 j0 j0 j0)) andF<|r_nil ?_
 refine sw_cond j0 (fun hc3=>?_) (fun hc3=>?_)
 ·
  replace h:=bT hc3 h
  refine rg j0<|u<|asg j0<|r_nil ?_
  refine sw_ret ?_
  obtain rfl:=sm h
  exact ⟨_,j0,[],ci j0,j0,j5,j0,j1⟩
 ·
  replace h:=bF hc3 h
  refine sw_skip ?_
  obtain ⟨v2,q4,h⟩:=bs h
  refine rg j0<|u<|fa ti28 j0 j0 j0<|u<|ld ti25 j0 j0<|u<|pc (class_all_api_Field_ok v1.Fields 8 q4) j0 j0 j0<|u<|asg j0<|r_nil ?_
  obtain ⟨v3,q5,h⟩:=bs h
  refine rg j0<|u<|fa ti28 j0 j0 j0<|u<|ld ti26 j0 j0<|u<|mf j0 j0<|u<|pcs (class_all_api_Method_ok v1.Methods 8 v1.Name v1.Super v1.Interface v1.Impl v1.Fields v1.Methods q5) j0 j0 (.cons (si j0) (.cons (si j0) (.cons (si j0) (.cons (sealFn j5 ⟨(sealBox j0 ⟨(si j0),(si j0),(si j0),(si j0),(si j0),(si j0),j5⟩),j5⟩) .nil)))) plainB<|u<|asg j0<|r_nil ?_
  obtain ⟨v4,q6,h⟩:=bs h
  obtain ⟨v6,q9,h⟩:=bs h
  obtain ⟨v8,q12,h⟩:=bs h
  refine rg j0<|u<|fa ti28 j0 j0 j0<|u<|ld ti9 j0 j0<|u<|pc (kind_Class_ok v1.Name q6) j0 j0 j0<|u<|mv j0<|r_and (x:=v6) (j:=3) 3 j0 j0 j0 j0 j0 gpn (fun hb7=>by replace q9:=bT hb7 q9; obtain ⟨v5,q8,q9⟩:=bs q9; obtain rfl:=sm q9; exact g j0 hb7<|fa ti28 j0 j0 j0<|g j0 hb7<|ld ti9 j0 j0<|g j0 hb7<|pc (kind_Class_ok v1.Super q8) j0 j0 j0<|r_nil (eg [29,30,31] 3 j0 j0 j0 j0)) (fun hb=>(sm (bF hb q9)).symm)<|u<|mv j0<|r_and (x:=v8) (j:=8) 3 j0 j0 j0 j0 j0 gpn (fun hb10=>by replace q12:=bT hb10 q12; obtain ⟨v7,q11,q12⟩:=bs q12; obtain rfl:=sm q12; exact g j0 hb10<|fa ti28 j0 j0 j0<|g j0 hb10<|ld ti24 j0 j0<|g j0 hb10<|pc (class_all_string_ok v1.Impl 4 q11) j0 j0 j0<|r_nil (eg [34,35,36] 3 j0 j0 j0 j0)) (fun hb=>(sm (bF hb q12)).symm)<|u<|mv j0<|r_and (j:=13) 1 j0 j0 j0 j0 j0 gpn (fun hb13=>g j0 hb13<|mv j0<|r_nil (egA [39] 1 hb13 j0 j0 j0 j0)) andF<|u<|mv j0<|r_and (j:=16) 1 j0 j0 j0 j0 j0 gpn (fun hb14=>g j0 hb14<|mv j0<|r_nil (egA [42] 1 hb14 j0 j0 j0 j0)) andF<|u<|asg j0<|r_nil ?_
  refine sw_ret ?_
  obtain rfl:=sm h
  exact ⟨_,j0,[],ci j0,j0,j5,j0,j1⟩
def class_Method_1 (v1 : ApiMethod) (v2 : List UInt8) : Bool :=
  (v1.Name == v2)
theorem class_Method_1_ok (v1 : ApiMethod) (v2 : List UInt8) {r : Bool} (h : class_Method_1 v1 v2 = r) : PureC Tryz.prog 81 [.agg [sA v1.Name,.isl 1 (List.map rStr v1.Params),sA v1.Ret,bA v1.Static,bA v1.Abstract,iA v1.Locals,iA v1.Stack,.isl 4 (List.map rApiIns v1.Code),.isl 3 (List.map rApiMap v1.Maps),.isl 4 (List.map rApiTrap v1.Traps)],.ipt 1 [[sA v2]] 0 0] (bA r):=by
 refine pure_fn Tryz.func81 j0 (by kernel_rfl) j0 j0 ?_
 unfold class_Method_1 at h
 refine rg j0<|u<|bx 0 10 j0 j0 j0 j0<|u<|asg j0<|r_nil ?_
 refine rg j0<|u<|fa ti35 j0 j0 j0<|u<|ld ti9 j0 j0<|u<|ld ti9 j0 j0<|u<|seq ti9 j0 j0<|u<|asg j0<|r_nil ?_
 refine sw_ret ?_
 obtain rfl:=h
 exact ⟨_,j0,[],ci j0,j0,j5,j0,j1⟩
def slices_IndexFunc_api_Method_api_Method_s2_k2 : Option (Int) :=
  some (-1)
def slices_IndexFunc_api_Method_api_Method_s2_l1 (v1 : List ApiMethod) (v2 : List UInt8) (v5 : Int) : Option (Sum (Int) (Sum (Unit) (Int))) :=
  cond (decide (v5 < (List.length v1 : Int))) ((idx v1 v5).bind fun v6=>cond (class_Method_1 v6 v2) (some (.inr (.inr v5))) (some (.inl (IntKind.i64.wrap (v5 + 1))))) (some (.inr (.inl ())))
def slices_IndexFunc_api_Method_api_Method_s2 (v1 : List ApiMethod) (v2 : List UInt8) : Option (Int) :=
  (loopP (fun z=>slices_IndexFunc_api_Method_api_Method_s2_l1 v1 v2 z) 0).bind fun o=>leave o (fun b=>slices_IndexFunc_api_Method_api_Method_s2_k2) some
theorem slices_IndexFunc_api_Method_api_Method_s2_ok (v1 : List ApiMethod) (v2 : List UInt8) {r : Int} (h : slices_IndexFunc_api_Method_api_Method_s2 v1 v2 = some r) : PureC Tryz.prog 80 [.isl 10 (List.map rApiMethod v1),.fn (.func 81) [] [.ipt 1 [[sA v2]] 0 0]] (iA r):=by
 refine pure_fn Tryz.func80 j0 (by kernel_rfl) j0 j0 ?_
 unfold slices_IndexFunc_api_Method_api_Method_s2 at h
 refine rg j0<|u<|asg j0<|r_nil ?_
 refine sw_seq ?_
 refine rg j0<|u<|mv j0<|u<|lnI ti26 j0 j0<|u<|mv j0<|r_nil ?_
 obtain ⟨o,ho,h⟩:=bs h
 refine sw_lpl (X:=Int) (B:=Unit) (R:=Int) (fun z=>[(0,.isl 10 (List.map rApiMethod v1)),(1,.fn (.func 81) [] [.ipt 1 [[sA v2]] 0 0]),(7,iA (List.length v1 : Int)),(8,iA z)]) (fun z=>[]) (fun b=>[]) (fun b=>[]) (fun r env st=>PostF Tryz.prog Tryz.f80 0 (iA r) [] env st) ho ⟨[],ce j0 j0<|ce j0 j0<|ce j0 j0<|ce j0 j0<|cn,j0,j5,j0,j1⟩ ?_ ?_ ?_
 ·
  rintro v5 r h
  replace h : slices_IndexFunc_api_Method_api_Method_s2_l1 v1 v2 v5 = some r:=h
  unfold slices_IndexFunc_api_Method_api_Method_s2_l1 at h
  refine rg j0<|u<|lss ti3 j0 j0<|r_nil ?_
  refine sw_seq ?_
  refine sw_cond j0 (fun hc4=>?_) (fun hc4=>?_)
  ·
   replace h:=bT hc4 h
   refine sw_skip ?_
   refine sw_seq ?_
   refine sw_block ?_
   refine rg j0<|u<|mv j0<|u<|asg j0<|r_nil ?_
   obtain ⟨v6,q5,h⟩:=bs h
   refine rg j0<|u<|mv j0<|u<|mv j0<|u<|mv j0<|u<|ixI ti26 j0 ti35 j0 j0 j0 q5<|u<|ldI ti35 j0 (idx_some q5).2.2 j0<|u<|pc (class_Method_1_ok v6 v2 j0) j0 j0 j0<|r_nil ?_
   refine sw_cond j0 (fun hc6=>?_) (fun hc6=>?_)
   ·
    replace h:=bT hc6 h
    refine rg j0<|u<|mv j0<|u<|asg j0<|r_nil ?_
    refine sw_ret ?_
    obtain rfl:=sm h
    exact ⟨_,j0,_,j0,[],ci j0,j0,j5,j0,j1⟩
   ·
    replace h:=bF hc6 h
    refine sw_skip ?_
    refine rl j0<|u<|add ti3 j0 j0<|u<|mv j0<|r_nil ?_
    obtain rfl:=sm h
    exact ⟨_,j0,[],ce j0 j0<|ce j0 j0<|ce j0 j0<|ce j0 j0<|cn,j0,j5,j0,j1⟩
  ·
   replace h:=bF hc4 h
   refine sw_exit ?_
   obtain rfl:=sm h
   exact ⟨j0,_,j0,[],cn,j0,j5,j0,j1⟩
 ·
  rintro ⟨⟩ rfl
  replace h : slices_IndexFunc_api_Method_api_Method_s2_k2 = some r:=h
  unfold slices_IndexFunc_api_Method_api_Method_s2_k2 at h
  refine ow_intro ?_
  refine rg j0<|u<|asg j0<|r_nil ?_
  refine sw_ret ?_
  obtain rfl:=sm h
  exact ⟨_,j0,[],ci j0,j0,j5,j0,j1⟩
 ·
  rintro r' rfl env st hp
  obtain rfl:=sm h
  exact hp
def class_Method (v1 : ApiClass) (v2 : List UInt8) : Option (Int) :=
  (slices_IndexFunc_api_Method_api_Method_s2 v1.Methods v2).bind fun v3=>some v3
theorem class_Method_ok (v1 : ApiClass) (v2 : List UInt8) {r : Int} (h : class_Method v1 v2 = some r) : PureC Tryz.prog 23 [.agg [sA v1.Name,sA v1.Super,bA v1.Interface,.isl 1 (List.map rStr v1.Impl),.isl 3 (List.map rApiField v1.Fields),.isl 10 (List.map rApiMethod v1.Methods)],sA v2] (iA r):=by
 refine pure_fn Tryz.func23 j0 (by kernel_rfl) j0 j0 ?_
 unfold class_Method at h
 refine rg j0<|u<|bx 0 6 j0 j0 j0 j0<|u<|bx 1 1 j0 j0 j0 j0<|u<|asg j0<|r_nil ?_
 obtain ⟨v3,q1,h⟩:=bs h
 refine rg j0<|u<|fa ti28 j0 j0 j0<|u<|ld ti26 j0 j0<|u<|mf j0 j0<|u<|pcs (slices_IndexFunc_api_Method_api_Method_s2_ok v1.Methods v2 q1) j0 j0 (.cons (si j0) (.cons (sealFn j5 ⟨(sealBox j0 ⟨(si j0),j5⟩),j5⟩) .nil)) plainB<|u<|asg j0<|r_nil ?_
 refine sw_ret ?_
 obtain rfl:=sm h
 exact ⟨_,j0,[],ci j0,j0,j5,j0,j1⟩
def class_Field_1 (v1 : ApiField) (v2 : List UInt8) : Bool :=
  (v1.Name == v2)
theorem class_Field_1_ok (v1 : ApiField) (v2 : List UInt8) {r : Bool} (h : class_Field_1 v1 v2 = r) : PureC Tryz.prog 83 [.agg [sA v1.Name,sA v1.Type_,bA v1.Static],.ipt 1 [[sA v2]] 0 0] (bA r):=by
 refine pure_fn Tryz.func83 j0 (by kernel_rfl) j0 j0 ?_
 unfold class_Field_1 at h
 refine rg j0<|u<|bx 0 3 j0 j0 j0 j0<|u<|asg j0<|r_nil ?_
 refine rg j0<|u<|fa ti53 j0 j0 j0<|u<|ld ti9 j0 j0<|u<|ld ti9 j0 j0<|u<|seq ti9 j0 j0<|u<|asg j0<|r_nil ?_
 refine sw_ret ?_
 obtain rfl:=h
 exact ⟨_,j0,[],ci j0,j0,j5,j0,j1⟩
def slices_IndexFunc_api_Field_api_Field_s2_k2 : Option (Int) :=
  some (-1)
def slices_IndexFunc_api_Field_api_Field_s2_l1 (v1 : List ApiField) (v2 : List UInt8) (v5 : Int) : Option (Sum (Int) (Sum (Unit) (Int))) :=
  cond (decide (v5 < (List.length v1 : Int))) ((idx v1 v5).bind fun v6=>cond (class_Field_1 v6 v2) (some (.inr (.inr v5))) (some (.inl (IntKind.i64.wrap (v5 + 1))))) (some (.inr (.inl ())))
def slices_IndexFunc_api_Field_api_Field_s2 (v1 : List ApiField) (v2 : List UInt8) : Option (Int) :=
  (loopP (fun z=>slices_IndexFunc_api_Field_api_Field_s2_l1 v1 v2 z) 0).bind fun o=>leave o (fun b=>slices_IndexFunc_api_Field_api_Field_s2_k2) some
theorem slices_IndexFunc_api_Field_api_Field_s2_ok (v1 : List ApiField) (v2 : List UInt8) {r : Int} (h : slices_IndexFunc_api_Field_api_Field_s2 v1 v2 = some r) : PureC Tryz.prog 82 [.isl 3 (List.map rApiField v1),.fn (.func 83) [] [.ipt 1 [[sA v2]] 0 0]] (iA r):=by
 refine pure_fn Tryz.func82 j0 (by kernel_rfl) j0 j0 ?_
 unfold slices_IndexFunc_api_Field_api_Field_s2 at h
 refine rg j0<|u<|asg j0<|r_nil ?_
 refine sw_seq ?_
 refine rg j0<|u<|mv j0<|u<|lnI ti25 j0 j0<|u<|mv j0<|r_nil ?_
 obtain ⟨o,ho,h⟩:=bs h
 refine sw_lpl (X:=Int) (B:=Unit) (R:=Int) (fun z=>[(0,.isl 3 (List.map rApiField v1)),(1,.fn (.func 83) [] [.ipt 1 [[sA v2]] 0 0]),(7,iA (List.length v1 : Int)),(8,iA z)]) (fun z=>[]) (fun b=>[]) (fun b=>[]) (fun r env st=>PostF Tryz.prog Tryz.f82 0 (iA r) [] env st) ho ⟨[],ce j0 j0<|ce j0 j0<|ce j0 j0<|ce j0 j0<|cn,j0,j5,j0,j1⟩ ?_ ?_ ?_
 ·
  rintro v5 r h
  replace h : slices_IndexFunc_api_Field_api_Field_s2_l1 v1 v2 v5 = some r:=h
  unfold slices_IndexFunc_api_Field_api_Field_s2_l1 at h
  refine rg j0<|u<|lss ti3 j0 j0<|r_nil ?_
  refine sw_seq ?_
  refine sw_cond j0 (fun hc4=>?_) (fun hc4=>?_)
  ·
   replace h:=bT hc4 h
   refine sw_skip ?_
   refine sw_seq ?_
   refine sw_block ?_
   refine rg j0<|u<|mv j0<|u<|asg j0<|r_nil ?_
   obtain ⟨v6,q5,h⟩:=bs h
   refine rg j0<|u<|mv j0<|u<|mv j0<|u<|mv j0<|u<|ixI ti25 j0 ti53 j0 j0 j0 q5<|u<|ldI ti53 j0 (idx_some q5).2.2 j0<|u<|pc (class_Field_1_ok v6 v2 j0) j0 j0 j0<|r_nil ?_
   refine sw_cond j0 (fun hc6=>?_) (fun hc6=>?_)
   ·
    replace h:=bT hc6 h
    refine rg j0<|u<|mv j0<|u<|asg j0<|r_nil ?_
    refine sw_ret ?_
    obtain rfl:=sm h
    exact ⟨_,j0,_,j0,[],ci j0,j0,j5,j0,j1⟩
   ·
    replace h:=bF hc6 h
    refine sw_skip ?_
    refine rl j0<|u<|add ti3 j0 j0<|u<|mv j0<|r_nil ?_
    obtain rfl:=sm h
    exact ⟨_,j0,[],ce j0 j0<|ce j0 j0<|ce j0 j0<|ce j0 j0<|cn,j0,j5,j0,j1⟩
  ·
   replace h:=bF hc4 h
   refine sw_exit ?_
   obtain rfl:=sm h
   exact ⟨j0,_,j0,[],cn,j0,j5,j0,j1⟩
 ·
  rintro ⟨⟩ rfl
  replace h : slices_IndexFunc_api_Field_api_Field_s2_k2 = some r:=h
  unfold slices_IndexFunc_api_Field_api_Field_s2_k2 at h
  refine ow_intro ?_
  refine rg j0<|u<|asg j0<|r_nil ?_
  refine sw_ret ?_
  obtain rfl:=sm h
  exact ⟨_,j0,[],ci j0,j0,j5,j0,j1⟩
 ·
  rintro r' rfl env st hp
  obtain rfl:=sm h
  exact hp
def class_Field (v1 : ApiClass) (v2 : List UInt8) : Option (Int) :=
  (slices_IndexFunc_api_Field_api_Field_s2 v1.Fields v2).bind fun v3=>some v3
theorem class_Field_ok (v1 : ApiClass) (v2 : List UInt8) {r : Int} (h : class_Field v1 v2 = some r) : PureC Tryz.prog 24 [.agg [sA v1.Name,sA v1.Super,bA v1.Interface,.isl 1 (List.map rStr v1.Impl),.isl 3 (List.map rApiField v1.Fields),.isl 10 (List.map rApiMethod v1.Methods)],sA v2] (iA r):=by
 refine pure_fn Tryz.func24 j0 (by kernel_rfl) j0 j0 ?_
 unfold class_Field at h
 refine rg j0<|u<|bx 0 6 j0 j0 j0 j0<|u<|bx 1 1 j0 j0 j0 j0<|u<|asg j0<|r_nil ?_
 obtain ⟨v3,q1,h⟩:=bs h
 refine rg j0<|u<|fa ti28 j0 j0 j0<|u<|ld ti25 j0 j0<|u<|mf j0 j0<|u<|pcs (slices_IndexFunc_api_Field_api_Field_s2_ok v1.Fields v2 q1) j0 j0 (.cons (si j0) (.cons (sealFn j5 ⟨(sealBox j0 ⟨(si j0),j5⟩),j5⟩) .nil)) plainB<|u<|asg j0<|r_nil ?_
 refine sw_ret ?_
 obtain rfl:=sm h
 exact ⟨_,j0,[],ci j0,j0,j5,j0,j1⟩
end
end Go.Proofs.YtdhpdpkcfffpiaaGreat
namespace Go.Proofs.YtdhpdpkcfffpiaaGreat
noncomputable section
set_option linter.unusedSimpArgs false
set_option linter.unusedVariables false
set_option maxRecDepth 100000
set_option maxHeartbeats 4000000
theorem eqs37 : eqSpec Tryz.prog 37 = some [(0,.int),(1,.int),(2,.str),(3,.str)]:=by kernel_rfl
theorem eqs53 : eqSpec Tryz.prog 53 = some [(0,.str),(1,.str),(2,.bool)]:=by kernel_rfl
theorem eqs113 : eqSpec Tryz.prog 113 = some [(0,.int),(1,.int),(2,.int),(3,.str)]:=by kernel_rfl
def slices_Equal_string_string_k2 : Option (Bool) :=
  some true
def slices_Equal_string_string_l1 (v1 : List (List UInt8)) (v2 : List (List UInt8)) (v6 : Int) : Option (Sum (Int) (Sum (Unit) (Bool))) :=
  cond (decide (v6 < (List.length v1 : Int))) ((idx v1 v6).bind fun v7=>(idx v2 v6).bind fun v8=>cond (!(v7 == v8)) (some (.inr (.inr false))) (some (.inl (IntKind.i64.wrap (v6 + 1))))) (some (.inr (.inl ())))
def slices_Equal_string_string (v1 : List (List UInt8)) (v2 : List (List UInt8)) : Option (Bool) :=
  cond (!((List.length v1 : Int) == (List.length v2 : Int))) (some false) ((loopP (fun z=>slices_Equal_string_string_l1 v1 v2 z) 0).bind fun o=>leave o (fun b=>slices_Equal_string_string_k2) some)
theorem slices_Equal_string_string_ok (v1 : List (List UInt8)) (v2 : List (List UInt8)) {r : Bool} (h : slices_Equal_string_string v1 v2 = some r) : PureC Tryz.prog 76 [.isl 1 (List.map rStr v1),.isl 1 (List.map rStr v2)] (bA r):=by
 refine pure_fn Tryz.func76 j0 (by kernel_rfl) j0 j0 ?_
 unfold slices_Equal_string_string at h
 refine rg j0<|u<|asg j0<|r_nil ?_
 refine sw_seq ?_
 refine rg j0<|u<|mv j0<|u<|lnI ti24 j0 j0<|u<|mv j0<|u<|lnI ti24 j0 j0<|u<|neq ti3 j0 j0<|r_nil ?_
 refine sw_cond j0 (fun hc1=>?_) (fun hc1=>?_)
 ·
  replace h:=bT hc1 h
  refine rg j0<|u<|asg j0<|r_nil ?_
  refine sw_ret ?_
  obtain rfl:=sm h
  exact ⟨_,j0,[],ci j0,j0,j5,j0,j1⟩
 ·
  replace h:=bF hc1 h
  refine sw_skip ?_
  refine sw_seq ?_
  refine rg j0<|u<|mv j0<|u<|lnI ti24 j0 j0<|u<|mv j0<|r_nil ?_
  obtain ⟨o,ho,h⟩:=bs h
  refine sw_lpl (X:=Int) (B:=Unit) (R:=Bool) (fun z=>[(0,.isl 1 (List.map rStr v1)),(1,.isl 1 (List.map rStr v2)),(12,iA (List.length v1 : Int)),(13,iA z)]) (fun z=>[]) (fun b=>[]) (fun b=>[]) (fun r env st=>PostF Tryz.prog Tryz.f76 0 (bA r) [] env st) ho ⟨[],ce j0 j0<|ce j0 j0<|ce j0 j0<|ce j0 j0<|cn,j0,j5,j0,j1⟩ ?_ ?_ ?_
  ·
   rintro v6 r h
   replace h : slices_Equal_string_string_l1 v1 v2 v6 = some r:=h
   unfold slices_Equal_string_string_l1 at h
   refine rg j0<|u<|lss ti3 j0 j0<|r_nil ?_
   refine sw_seq ?_
   refine sw_cond j0 (fun hc6=>?_) (fun hc6=>?_)
   ·
    replace h:=bT hc6 h
    refine sw_skip ?_
    refine sw_seq ?_
    refine sw_block ?_
    refine rg j0<|u<|mv j0<|u<|asg j0<|r_nil ?_
    obtain ⟨v7,q7,h⟩:=bs h
    obtain ⟨v8,q8,h⟩:=bs h
    refine rd [(0,.isl 1 (List.map rStr v1)),(1,.isl 1 (List.map rStr v2)),(12,iA (List.length v1 : Int)),(13,iA v6),(24,bA (!(v7 == v8)))] [] [] [8,7,6,5,4,3,2,1,0] [(24,bA (!(v7 == v8))),(23,sA v8),(22,.ipt 1 (List.map rStr v2) (Int.toNat v6) 0),(21,iA v6),(20,.isl 1 (List.map rStr v2)),(19,sA v7),(18,.ipt 1 (List.map rStr v1) (Int.toNat v6) 0),(17,iA v6),(16,.isl 1 (List.map rStr v1))] 0 (by kernel_rfl) (by kernel_rfl) j0 (by kernel_rfl) (dt0 ⟨(fun _=>pa j0 j0 j0 j0 (sne ti9 j0 j0<|j4)),(fun _=>pa j0 j0 j0 j0 (ldI ti9 j0 (idx_some q8).2.2 j0<|j4)),(fun _=>pa j0 j0 j0 j0 (ixI ti24 j0 ti9 j0 j0 j0 q8<|j4)),(fun _=>pa j0 j0 j0 j0 (mv j0<|j4)),(fun _=>pa j0 j0 j0 j0 (mv j0<|j4)),(fun _=>pa j0 j0 j0 j0 (ldI ti9 j0 (idx_some q7).2.2 j0<|j4)),(fun _=>pa j0 j0 j0 j0 (ixI ti24 j0 ti9 j0 j0 j0 q7<|j4)),(fun _=>pa j0 j0 j0 j0 (mv j0<|j4)),(fun _=>pa j0 j0 j0 j0 (mv j0<|j4)),j5⟩ (by kernel_rfl) j0 ⟨[],ce j0 j0<|ce j0 j0<|ce j0 j0<|ce j0 j0<|ce j0 j0<|cn,j0,j5,j0,j1⟩) ?_
    refine sw_cond j0 (fun hc9=>?_) (fun hc9=>?_)
    ·
     replace h:=bT hc9 h
     refine rg j0<|u<|asg j0<|r_nil ?_
     refine sw_ret ?_
     obtain rfl:=sm h
     exact ⟨_,j0,_,j0,[],ci j0,j0,j5,j0,j1⟩
    ·
     replace h:=bF hc9 h
     refine sw_skip ?_
     refine rl j0<|u<|add ti3 j0 j0<|u<|mv j0<|r_nil ?_
     obtain rfl:=sm h
     exact ⟨_,j0,[],ce j0 j0<|ce j0 j0<|ce j0 j0<|ce j0 j0<|cn,j0,j5,j0,j1⟩
   ·
    replace h:=bF hc6 h
    refine sw_exit ?_
    obtain rfl:=sm h
    exact ⟨j0,_,j0,[],cn,j0,j5,j0,j1⟩
  ·
   rintro ⟨⟩ rfl
   replace h : slices_Equal_string_string_k2 = some r:=h
   unfold slices_Equal_string_string_k2 at h
   refine ow_intro ?_
   refine rg j0<|u<|asg j0<|r_nil ?_
   refine sw_ret ?_
   obtain rfl:=sm h
   exact ⟨_,j0,[],ci j0,j0,j5,j0,j1⟩
  ·
   rintro r' rfl env st hp
   obtain rfl:=sm h
   exact hp
def slices_Equal_api_Field_api_Field_k2 : Option (Bool) :=
  some true
def slices_Equal_api_Field_api_Field_l1 (v1 : List ApiField) (v2 : List ApiField) (v6 : Int) : Option (Sum (Int) (Sum (Unit) (Bool))) :=
  cond (decide (v6 < (List.length v1 : Int))) ((idx v1 v6).bind fun v7=>(idx v2 v6).bind fun v8=>cond (!((v7.Name == v8.Name) && ((v7.Type_ == v8.Type_) && ((v7.Static == v8.Static) && true)))) (some (.inr (.inr false))) (some (.inl (IntKind.i64.wrap (v6 + 1))))) (some (.inr (.inl ())))
def slices_Equal_api_Field_api_Field (v1 : List ApiField) (v2 : List ApiField) : Option (Bool) :=
  cond (!((List.length v1 : Int) == (List.length v2 : Int))) (some false) ((loopP (fun z=>slices_Equal_api_Field_api_Field_l1 v1 v2 z) 0).bind fun o=>leave o (fun b=>slices_Equal_api_Field_api_Field_k2) some)
theorem slices_Equal_api_Field_api_Field_ok (v1 : List ApiField) (v2 : List ApiField) {r : Bool} (h : slices_Equal_api_Field_api_Field v1 v2 = some r) : PureC Tryz.prog 77 [.isl 3 (List.map rApiField v1),.isl 3 (List.map rApiField v2)] (bA r):=by
 refine pure_fn Tryz.func77 j0 (by kernel_rfl) j0 j0 ?_
 unfold slices_Equal_api_Field_api_Field at h
 refine rg j0<|u<|asg j0<|r_nil ?_
 refine sw_seq ?_
 refine rg j0<|u<|mv j0<|u<|lnI ti25 j0 j0<|u<|mv j0<|u<|lnI ti25 j0 j0<|u<|neq ti3 j0 j0<|r_nil ?_
 refine sw_cond j0 (fun hc1=>?_) (fun hc1=>?_)
 ·
  replace h:=bT hc1 h
  refine rg j0<|u<|asg j0<|r_nil ?_
  refine sw_ret ?_
  obtain rfl:=sm h
  exact ⟨_,j0,[],ci j0,j0,j5,j0,j1⟩
 ·
  replace h:=bF hc1 h
  refine sw_skip ?_
  refine sw_seq ?_
  refine rg j0<|u<|mv j0<|u<|lnI ti25 j0 j0<|u<|mv j0<|r_nil ?_
  obtain ⟨o,ho,h⟩:=bs h
  refine sw_lpl (X:=Int) (B:=Unit) (R:=Bool) (fun z=>[(0,.isl 3 (List.map rApiField v1)),(1,.isl 3 (List.map rApiField v2)),(12,iA (List.length v1 : Int)),(13,iA z)]) (fun z=>[]) (fun b=>[]) (fun b=>[]) (fun r env st=>PostF Tryz.prog Tryz.f77 0 (bA r) [] env st) ho ⟨[],ce j0 j0<|ce j0 j0<|ce j0 j0<|ce j0 j0<|cn,j0,j5,j0,j1⟩ ?_ ?_ ?_
  ·
   rintro v6 r h
   replace h : slices_Equal_api_Field_api_Field_l1 v1 v2 v6 = some r:=h
   unfold slices_Equal_api_Field_api_Field_l1 at h
   refine rg j0<|u<|lss ti3 j0 j0<|r_nil ?_
   refine sw_seq ?_
   refine sw_cond j0 (fun hc6=>?_) (fun hc6=>?_)
   ·
    replace h:=bT hc6 h
    refine sw_skip ?_
    refine sw_seq ?_
    refine sw_block ?_
    refine rg j0<|u<|mv j0<|u<|asg j0<|r_nil ?_
    obtain ⟨v7,q7,h⟩:=bs h
    obtain ⟨v8,q8,h⟩:=bs h
    refine rd [(0,.isl 3 (List.map rApiField v1)),(1,.isl 3 (List.map rApiField v2)),(12,iA (List.length v1 : Int)),(13,iA v6),(24,bA (!((v7.Name == v8.Name) && ((v7.Type_ == v8.Type_) && ((v7.Static == v8.Static) && true)))))] [] [] [8,7,6,5,4,3,2,1,0] [(24,bA (!((v7.Name == v8.Name) && ((v7.Type_ == v8.Type_) && ((v7.Static == v8.Static) && true))))),(23,.agg [sA v8.Name,sA v8.Type_,bA v8.Static]),(22,.ipt 3 (List.map rApiField v2) (Int.toNat v6) 0),(21,iA v6),(20,.isl 3 (List.map rApiField v2)),(19,.agg [sA v7.Name,sA v7.Type_,bA v7.Static]),(18,.ipt 3 (List.map rApiField v1) (Int.toNat v6) 0),(17,iA v6),(16,.isl 3 (List.map rApiField v1))] 0 (by kernel_rfl) (by kernel_rfl) j0 (by kernel_rfl) (dt0 ⟨(fun _=>pa j0 j0 j0 j0 (agn ti53 eqs53 j0 j0 j0<|j4)),(fun _=>pa j0 j0 j0 j0 (ldI ti53 j0 (idx_some q8).2.2 j0<|j4)),(fun _=>pa j0 j0 j0 j0 (ixI ti25 j0 ti53 j0 j0 j0 q8<|j4)),(fun _=>pa j0 j0 j0 j0 (mv j0<|j4)),(fun _=>pa j0 j0 j0 j0 (mv j0<|j4)),(fun _=>pa j0 j0 j0 j0 (ldI ti53 j0 (idx_some q7).2.2 j0<|j4)),(fun _=>pa j0 j0 j0 j0 (ixI ti25 j0 ti53 j0 j0 j0 q7<|j4)),(fun _=>pa j0 j0 j0 j0 (mv j0<|j4)),(fun _=>pa j0 j0 j0 j0 (mv j0<|j4)),j5⟩ (by kernel_rfl) j0 ⟨[],ce j0 j0<|ce j0 j0<|ce j0 j0<|ce j0 j0<|ce j0 j0<|cn,j0,j5,j0,j1⟩) ?_
    refine sw_cond j0 (fun hc9=>?_) (fun hc9=>?_)
    ·
     replace h:=bT hc9 h
     refine rg j0<|u<|asg j0<|r_nil ?_
     refine sw_ret ?_
     obtain rfl:=sm h
     exact ⟨_,j0,_,j0,[],ci j0,j0,j5,j0,j1⟩
    ·
     replace h:=bF hc9 h
     refine sw_skip ?_
     refine rl j0<|u<|add ti3 j0 j0<|u<|mv j0<|r_nil ?_
     obtain rfl:=sm h
     exact ⟨_,j0,[],ce j0 j0<|ce j0 j0<|ce j0 j0<|ce j0 j0<|cn,j0,j5,j0,j1⟩
   ·
    replace h:=bF hc6 h
    refine sw_exit ?_
    obtain rfl:=sm h
    exact ⟨j0,_,j0,[],cn,j0,j5,j0,j1⟩
  ·
   rintro ⟨⟩ rfl
   replace h : slices_Equal_api_Field_api_Field_k2 = some r:=h
   unfold slices_Equal_api_Field_api_Field_k2 at h
   refine ow_intro ?_
   refine rg j0<|u<|asg j0<|r_nil ?_
   refine sw_ret ?_
   obtain rfl:=sm h
   exact ⟨_,j0,[],ci j0,j0,j5,j0,j1⟩
  ·
   rintro r' rfl env st hp
   obtain rfl:=sm h
   exact hp
def class_eqMethod_1 (v1 : ApiMap) (v2 : ApiMap) : Option (Bool) :=
  (cond (v1.At == v2.At) ((slices_Equal_string_string v1.Locals v2.Locals).bind fun v3=>some v3) (some false)).bind fun v4=>(cond v4 ((slices_Equal_string_string v1.Stack v2.Stack).bind fun v5=>some v5) (some false)).bind fun v6=>some v6
theorem class_eqMethod_1_ok (v1 : ApiMap) (v2 : ApiMap) {r : Bool} (h : class_eqMethod_1 v1 v2 = some r) : PureC Tryz.prog 135 [.agg [iA v1.At,.isl 1 (List.map rStr v1.Locals),.isl 1 (List.map rStr v1.Stack)],.agg [iA v2.At,.isl 1 (List.map rStr v2.Locals),.isl 1 (List.map rStr v2.Stack)]] (bA r):=by
 refine pure_fn Tryz.func135 j0 (by kernel_rfl) j0 j0 ?_
 unfold class_eqMethod_1 at h
 refine rg j0<|u<|bx 0 3 j0 j0 j0 j0<|u<|bx 1 3 j0 j0 j0 j0<|u<|asg j0<|r_nil ?_
 obtain ⟨v4,q3,h⟩:=bs h
 obtain ⟨v6,q6,h⟩:=bs h
 refine rg j0<|u<|fa ti39 j0 j0 j0<|u<|ld ti3 j0 j0<|u<|fa ti39 j0 j0 j0<|u<|ld ti3 j0 j0<|u<|eql ti3 j0 j0<|u<|mv j0<|r_and (x:=v4) (j:=5) 5 j0 j0 j0 j0 j0 gpn (fun hb1=>by replace q3:=bT hb1 q3; obtain ⟨v3,q2,q3⟩:=bs q3; obtain rfl:=sm q3; exact g j0 hb1<|fa ti39 j0 j0 j0<|g j0 hb1<|ld ti24 j0 j0<|g j0 hb1<|fa ti39 j0 j0 j0<|g j0 hb1<|ld ti24 j0 j0<|g j0 hb1<|pc (slices_Equal_string_string_ok v1.Locals v2.Locals q2) j0 j0 j0<|r_nil (eg [11,12,13,14,15] 5 j0 j0 j0 j0)) (fun hb=>(sm (bF hb q3)).symm)<|u<|mv j0<|r_and (x:=v6) (j:=12) 5 j0 j0 j0 j0 j0 gpn (fun hb4=>by replace q6:=bT hb4 q6; obtain ⟨v5,q5,q6⟩:=bs q6; obtain rfl:=sm q6; exact g j0 hb4<|fa ti39 j0 j0 j0<|g j0 hb4<|ld ti24 j0 j0<|g j0 hb4<|fa ti39 j0 j0 j0<|g j0 hb4<|ld ti24 j0 j0<|g j0 hb4<|pc (slices_Equal_string_string_ok v1.Stack v2.Stack q5) j0 j0 j0<|r_nil (eg [18,19,20,21,22] 5 j0 j0 j0 j0)) (fun hb=>(sm (bF hb q6)).symm)<|u<|asg j0<|r_nil ?_
 refine sw_ret ?_
 obtain rfl:=sm h
 exact ⟨_,j0,[],ci j0,j0,j5,j0,j1⟩
def slices_EqualFunc_api_Map_api_Map_api_Map_api_Map_k2 : Option (Bool) :=
  some true
def slices_EqualFunc_api_Map_api_Map_api_Map_api_Map_l1 (v1 : List ApiMap) (v2 : List ApiMap) (v7 : Int) : Option (Sum (Int) (Sum (Unit) (Bool))) :=
  cond (decide (v7 < (List.length v1 : Int))) ((idx v1 v7).bind fun v8=>(idx v2 v7).bind fun v9=>(class_eqMethod_1 v8 v9).bind fun v10=>cond (!v10) (some (.inr (.inr false))) (some (.inl (IntKind.i64.wrap (v7 + 1))))) (some (.inr (.inl ())))
def slices_EqualFunc_api_Map_api_Map_api_Map_api_Map (v1 : List ApiMap) (v2 : List ApiMap) : Option (Bool) :=
  cond (!((List.length v1 : Int) == (List.length v2 : Int))) (some false) ((loopP (fun z=>slices_EqualFunc_api_Map_api_Map_api_Map_api_Map_l1 v1 v2 z) 0).bind fun o=>leave o (fun b=>slices_EqualFunc_api_Map_api_Map_api_Map_api_Map_k2) some)
theorem slices_EqualFunc_api_Map_api_Map_api_Map_api_Map_ok (v1 : List ApiMap) (v2 : List ApiMap) {r : Bool} (h : slices_EqualFunc_api_Map_api_Map_api_Map_api_Map v1 v2 = some r) : PureC Tryz.prog 134 [.isl 3 (List.map rApiMap v1),.isl 3 (List.map rApiMap v2),.fn (.func 135) [] []] (bA r):=by
 refine pure_fn Tryz.func134 j0 (by kernel_rfl) j0 j0 ?_
 unfold slices_EqualFunc_api_Map_api_Map_api_Map_api_Map at h
 refine rg j0<|u<|asg j0<|r_nil ?_
 refine sw_seq ?_
 refine rg j0<|u<|mv j0<|u<|lnI ti32 j0 j0<|u<|mv j0<|u<|lnI ti32 j0 j0<|u<|neq ti3 j0 j0<|r_nil ?_
 refine sw_cond j0 (fun hc1=>?_) (fun hc1=>?_)
 ·
  replace h:=bT hc1 h
  refine rg j0<|u<|asg j0<|r_nil ?_
  refine sw_ret ?_
  obtain rfl:=sm h
  exact ⟨_,j0,[],ci j0,j0,j5,j0,j1⟩
 ·
  replace h:=bF hc1 h
  refine sw_skip ?_
  refine sw_seq ?_
  refine rg j0<|u<|mv j0<|u<|lnI ti32 j0 j0<|u<|mv j0<|r_nil ?_
  obtain ⟨o,ho,h⟩:=bs h
  refine sw_lpl (X:=Int) (B:=Unit) (R:=Bool) (fun z=>[(1,.isl 3 (List.map rApiMap v2)),(2,.fn (.func 135) [] []),(15,.isl 3 (List.map rApiMap v1)),(16,iA (List.length v1 : Int)),(17,iA z)]) (fun z=>[]) (fun b=>[]) (fun b=>[]) (fun r env st=>PostF Tryz.prog Tryz.f134 0 (bA r) [] env st) ho ⟨[],ce j0 j0<|ce j0 j0<|ce j0 j0<|ce j0 j0<|ce j0 j0<|cn,j0,j5,j0,j1⟩ ?_ ?_ ?_
  ·
   rintro v7 r h
   replace h : slices_EqualFunc_api_Map_api_Map_api_Map_api_Map_l1 v1 v2 v7 = some r:=h
   unfold slices_EqualFunc_api_Map_api_Map_api_Map_api_Map_l1 at h
   refine rg j0<|u<|lss ti3 j0 j0<|r_nil ?_
   refine sw_seq ?_
   refine sw_cond j0 (fun hc7=>?_) (fun hc7=>?_)
   ·
    replace h:=bT hc7 h
    refine sw_skip ?_
    refine sw_seq ?_
    refine sw_block ?_
    obtain ⟨v8,q8,h⟩:=bs h
    refine rg j0<|u<|mv j0<|u<|ixI ti32 j0 ti39 j0 j0 j0 q8<|u<|ldI ti39 j0 (idx_some q8).2.2 j0<|u<|al 0 ti39 j0<|u<|asg j0<|u<|sto ti39 j0 j0 j0<|r_nil ?_
    obtain ⟨v9,q9,h⟩:=bs h
    refine rg j0<|u<|mv j0<|u<|mv j0<|u<|ixI ti32 j0 ti39 j0 j0 j0 q9<|u<|ldI ti39 j0 (idx_some q9).2.2 j0<|u<|al 1 ti39 j0<|u<|sto ti39 j0 j0 j0<|r_nil ?_
    obtain ⟨v10,q10,h⟩:=bs h
    refine rg j0<|u<|mv j0<|u<|ld ti39 j0 j0<|u<|ld ti39 j0 j0<|u<|pc (class_eqMethod_1_ok v8 v9 q10) j0 j0 j0<|u<|nt j0<|r_nil ?_
    refine sw_cond j0 (fun hc11=>?_) (fun hc11=>?_)
    ·
     replace h:=bT hc11 h
     refine rg j0<|u<|asg j0<|r_nil ?_
     refine sw_ret ?_
     obtain rfl:=sm h
     exact ⟨_,j0,_,j0,[],ci j0,j0,j5,j0,j1⟩
    ·
     replace h:=bF hc11 h
     refine sw_skip ?_
     refine rl j0<|u<|add ti3 j0 j0<|u<|mv j0<|r_nil ?_
     obtain rfl:=sm h
     exact ⟨_,j0,[],ce j0 j0<|ce j0 j0<|ce j0 j0<|ce j0 j0<|ce j0 j0<|cn,j0,j5,j0,j1⟩
   ·
    replace h:=bF hc7 h
    refine sw_exit ?_
    obtain rfl:=sm h
    exact ⟨j0,_,j0,[],cn,j0,j5,j0,j1⟩
  ·
   rintro ⟨⟩ rfl
   replace h : slices_EqualFunc_api_Map_api_Map_api_Map_api_Map_k2 = some r:=h
   unfold slices_EqualFunc_api_Map_api_Map_api_Map_api_Map_k2 at h
   refine ow_intro ?_
   refine rg j0<|u<|asg j0<|r_nil ?_
   refine sw_ret ?_
   obtain rfl:=sm h
   exact ⟨_,j0,[],ci j0,j0,j5,j0,j1⟩
  ·
   rintro r' rfl env st hp
   obtain rfl:=sm h
   exact hp
def slices_Equal_api_Ins_api_Ins_k2 : Option (Bool) :=
  some true
def slices_Equal_api_Ins_api_Ins_l1 (v1 : List ApiIns) (v2 : List ApiIns) (v6 : Int) : Option (Sum (Int) (Sum (Unit) (Bool))) :=
  cond (decide (v6 < (List.length v1 : Int))) ((idx v1 v6).bind fun v7=>(idx v2 v6).bind fun v8=>cond (!((v7.Op == v8.Op) && ((v7.A == v8.A) && ((v7.C == v8.C) && ((v7.M == v8.M) && true))))) (some (.inr (.inr false))) (some (.inl (IntKind.i64.wrap (v6 + 1))))) (some (.inr (.inl ())))
def slices_Equal_api_Ins_api_Ins (v1 : List ApiIns) (v2 : List ApiIns) : Option (Bool) :=
  cond (!((List.length v1 : Int) == (List.length v2 : Int))) (some false) ((loopP (fun z=>slices_Equal_api_Ins_api_Ins_l1 v1 v2 z) 0).bind fun o=>leave o (fun b=>slices_Equal_api_Ins_api_Ins_k2) some)
theorem slices_Equal_api_Ins_api_Ins_ok (v1 : List ApiIns) (v2 : List ApiIns) {r : Bool} (h : slices_Equal_api_Ins_api_Ins v1 v2 = some r) : PureC Tryz.prog 136 [.isl 4 (List.map rApiIns v1),.isl 4 (List.map rApiIns v2)] (bA r):=by
 refine pure_fn Tryz.func136 j0 (by kernel_rfl) j0 j0 ?_
 unfold slices_Equal_api_Ins_api_Ins at h
 refine rg j0<|u<|asg j0<|r_nil ?_
 refine sw_seq ?_
 refine rg j0<|u<|mv j0<|u<|lnI ti31 j0 j0<|u<|mv j0<|u<|lnI ti31 j0 j0<|u<|neq ti3 j0 j0<|r_nil ?_
 refine sw_cond j0 (fun hc1=>?_) (fun hc1=>?_)
 ·
  replace h:=bT hc1 h
  refine rg j0<|u<|asg j0<|r_nil ?_
  refine sw_ret ?_
  obtain rfl:=sm h
  exact ⟨_,j0,[],ci j0,j0,j5,j0,j1⟩
 ·
  replace h:=bF hc1 h
  refine sw_skip ?_
  refine sw_seq ?_
  refine rg j0<|u<|mv j0<|u<|lnI ti31 j0 j0<|u<|mv j0<|r_nil ?_
  obtain ⟨o,ho,h⟩:=bs h
  refine sw_lpl (X:=Int) (B:=Unit) (R:=Bool) (fun z=>[(0,.isl 4 (List.map rApiIns v1)),(1,.isl 4 (List.map rApiIns v2)),(12,iA (List.length v1 : Int)),(13,iA z)]) (fun z=>[]) (fun b=>[]) (fun b=>[]) (fun r env st=>PostF Tryz.prog Tryz.f136 0 (bA r) [] env st) ho ⟨[],ce j0 j0<|ce j0 j0<|ce j0 j0<|ce j0 j0<|cn,j0,j5,j0,j1⟩ ?_ ?_ ?_
  ·
   rintro v6 r h
   replace h : slices_Equal_api_Ins_api_Ins_l1 v1 v2 v6 = some r:=h
   unfold slices_Equal_api_Ins_api_Ins_l1 at h
   refine rg j0<|u<|lss ti3 j0 j0<|r_nil ?_
   refine sw_seq ?_
   refine sw_cond j0 (fun hc6=>?_) (fun hc6=>?_)
   ·
    replace h:=bT hc6 h
    refine sw_skip ?_
    refine sw_seq ?_
    refine sw_block ?_
    refine rg j0<|u<|mv j0<|u<|asg j0<|r_nil ?_
    obtain ⟨v7,q7,h⟩:=bs h
    obtain ⟨v8,q8,h⟩:=bs h
    refine rd [(0,.isl 4 (List.map rApiIns v1)),(1,.isl 4 (List.map rApiIns v2)),(12,iA (List.length v1 : Int)),(13,iA v6),(24,bA (!((v7.Op == v8.Op) && ((v7.A == v8.A) && ((v7.C == v8.C) && ((v7.M == v8.M) && true))))))] [] [] [8,7,6,5,4,3,2,1,0] [(24,bA (!((v7.Op == v8.Op) && ((v7.A == v8.A) && ((v7.C == v8.C) && ((v7.M == v8.M) && true)))))),(23,.agg [iA v8.Op,iA v8.A,sA v8.C,sA v8.M]),(22,.ipt 4 (List.map rApiIns v2) (Int.toNat v6) 0),(21,iA v6),(20,.isl 4 (List.map rApiIns v2)),(19,.agg [iA v7.Op,iA v7.A,sA v7.C,sA v7.M]),(18,.ipt 4 (List.map rApiIns v1) (Int.toNat v6) 0),(17,iA v6),(16,.isl 4 (List.map rApiIns v1))] 0 (by kernel_rfl) (by kernel_rfl) j0 (by kernel_rfl) (dt0 ⟨(fun _=>pa j0 j0 j0 j0 (agn ti37 eqs37 j0 j0 j0<|j4)),(fun _=>pa j0 j0 j0 j0 (ldI ti37 j0 (idx_some q8).2.2 j0<|j4)),(fun _=>pa j0 j0 j0 j0 (ixI ti31 j0 ti37 j0 j0 j0 q8<|j4)),(fun _=>pa j0 j0 j0 j0 (mv j0<|j4)),(fun _=>pa j0 j0 j0 j0 (mv j0<|j4)),(fun _=>pa j0 j0 j0 j0 (ldI ti37 j0 (idx_some q7).2.2 j0<|j4)),(fun _=>pa j0 j0 j0 j0 (ixI ti31 j0 ti37 j0 j0 j0 q7<|j4)),(fun _=>pa j0 j0 j0 j0 (mv j0<|j4)),(fun _=>pa j0 j0 j0 j0 (mv j0<|j4)),j5⟩ (by kernel_rfl) j0 ⟨[],ce j0 j0<|ce j0 j0<|ce j0 j0<|ce j0 j0<|ce j0 j0<|cn,j0,j5,j0,j1⟩) ?_
    refine sw_cond j0 (fun hc9=>?_) (fun hc9=>?_)
    ·
     replace h:=bT hc9 h
     refine rg j0<|u<|asg j0<|r_nil ?_
     refine sw_ret ?_
     obtain rfl:=sm h
     exact ⟨_,j0,_,j0,[],ci j0,j0,j5,j0,j1⟩
    ·
     replace h:=bF hc9 h
     refine sw_skip ?_
     refine rl j0<|u<|add ti3 j0 j0<|u<|mv j0<|r_nil ?_
     obtain rfl:=sm h
     exact ⟨_,j0,[],ce j0 j0<|ce j0 j0<|ce j0 j0<|ce j0 j0<|cn,j0,j5,j0,j1⟩
   ·
    replace h:=bF hc6 h
    refine sw_exit ?_
    obtain rfl:=sm h
    exact ⟨j0,_,j0,[],cn,j0,j5,j0,j1⟩
  ·
   rintro ⟨⟩ rfl
   replace h : slices_Equal_api_Ins_api_Ins_k2 = some r:=h
   unfold slices_Equal_api_Ins_api_Ins_k2 at h
   refine ow_intro ?_
   refine rg j0<|u<|asg j0<|r_nil ?_
   refine sw_ret ?_
   obtain rfl:=sm h
   exact ⟨_,j0,[],ci j0,j0,j5,j0,j1⟩
  ·
   rintro r' rfl env st hp
   obtain rfl:=sm h
   exact hp
def slices_Equal_api_Trap_api_Trap_k2 : Option (Bool) :=
  some true
def slices_Equal_api_Trap_api_Trap_l1 (v1 : List ApiTrap) (v2 : List ApiTrap) (v6 : Int) : Option (Sum (Int) (Sum (Unit) (Bool))) :=
  cond (decide (v6 < (List.length v1 : Int))) ((idx v1 v6).bind fun v7=>(idx v2 v6).bind fun v8=>cond (!((v7.From == v8.From) && ((v7.To == v8.To) && ((v7.At == v8.At) && ((v7.C == v8.C) && true))))) (some (.inr (.inr false))) (some (.inl (IntKind.i64.wrap (v6 + 1))))) (some (.inr (.inl ())))
def slices_Equal_api_Trap_api_Trap (v1 : List ApiTrap) (v2 : List ApiTrap) : Option (Bool) :=
  cond (!((List.length v1 : Int) == (List.length v2 : Int))) (some false) ((loopP (fun z=>slices_Equal_api_Trap_api_Trap_l1 v1 v2 z) 0).bind fun o=>leave o (fun b=>slices_Equal_api_Trap_api_Trap_k2) some)
theorem slices_Equal_api_Trap_api_Trap_ok (v1 : List ApiTrap) (v2 : List ApiTrap) {r : Bool} (h : slices_Equal_api_Trap_api_Trap v1 v2 = some r) : PureC Tryz.prog 137 [.isl 4 (List.map rApiTrap v1),.isl 4 (List.map rApiTrap v2)] (bA r):=by
 refine pure_fn Tryz.func137 j0 (by kernel_rfl) j0 j0 ?_
 unfold slices_Equal_api_Trap_api_Trap at h
 refine rg j0<|u<|asg j0<|r_nil ?_
 refine sw_seq ?_
 refine rg j0<|u<|mv j0<|u<|lnI ti33 j0 j0<|u<|mv j0<|u<|lnI ti33 j0 j0<|u<|neq ti3 j0 j0<|r_nil ?_
 refine sw_cond j0 (fun hc1=>?_) (fun hc1=>?_)
 ·
  replace h:=bT hc1 h
  refine rg j0<|u<|asg j0<|r_nil ?_
  refine sw_ret ?_
  obtain rfl:=sm h
  exact ⟨_,j0,[],ci j0,j0,j5,j0,j1⟩
 ·
  replace h:=bF hc1 h
  refine sw_skip ?_
  refine sw_seq ?_
  refine rg j0<|u<|mv j0<|u<|lnI ti33 j0 j0<|u<|mv j0<|r_nil ?_
  obtain ⟨o,ho,h⟩:=bs h
  refine sw_lpl (X:=Int) (B:=Unit) (R:=Bool) (fun z=>[(0,.isl 4 (List.map rApiTrap v1)),(1,.isl 4 (List.map rApiTrap v2)),(12,iA (List.length v1 : Int)),(13,iA z)]) (fun z=>[]) (fun b=>[]) (fun b=>[]) (fun r env st=>PostF Tryz.prog Tryz.f137 0 (bA r) [] env st) ho ⟨[],ce j0 j0<|ce j0 j0<|ce j0 j0<|ce j0 j0<|cn,j0,j5,j0,j1⟩ ?_ ?_ ?_
  ·
   rintro v6 r h
   replace h : slices_Equal_api_Trap_api_Trap_l1 v1 v2 v6 = some r:=h
   unfold slices_Equal_api_Trap_api_Trap_l1 at h
   refine rg j0<|u<|lss ti3 j0 j0<|r_nil ?_
   refine sw_seq ?_
   refine sw_cond j0 (fun hc6=>?_) (fun hc6=>?_)
   ·
    replace h:=bT hc6 h
    refine sw_skip ?_
    refine sw_seq ?_
    refine sw_block ?_
    refine rg j0<|u<|mv j0<|u<|asg j0<|r_nil ?_
    obtain ⟨v7,q7,h⟩:=bs h
    obtain ⟨v8,q8,h⟩:=bs h
    refine rd [(0,.isl 4 (List.map rApiTrap v1)),(1,.isl 4 (List.map rApiTrap v2)),(12,iA (List.length v1 : Int)),(13,iA v6),(24,bA (!((v7.From == v8.From) && ((v7.To == v8.To) && ((v7.At == v8.At) && ((v7.C == v8.C) && true))))))] [] [] [8,7,6,5,4,3,2,1,0] [(24,bA (!((v7.From == v8.From) && ((v7.To == v8.To) && ((v7.At == v8.At) && ((v7.C == v8.C) && true)))))),(23,.agg [iA v8.From,iA v8.To,iA v8.At,sA v8.C]),(22,.ipt 4 (List.map rApiTrap v2) (Int.toNat v6) 0),(21,iA v6),(20,.isl 4 (List.map rApiTrap v2)),(19,.agg [iA v7.From,iA v7.To,iA v7.At,sA v7.C]),(18,.ipt 4 (List.map rApiTrap v1) (Int.toNat v6) 0),(17,iA v6),(16,.isl 4 (List.map rApiTrap v1))] 0 (by kernel_rfl) (by kernel_rfl) j0 (by kernel_rfl) (dt0 ⟨(fun _=>pa j0 j0 j0 j0 (agn ti113 eqs113 j0 j0 j0<|j4)),(fun _=>pa j0 j0 j0 j0 (ldI ti113 j0 (idx_some q8).2.2 j0<|j4)),(fun _=>pa j0 j0 j0 j0 (ixI ti33 j0 ti113 j0 j0 j0 q8<|j4)),(fun _=>pa j0 j0 j0 j0 (mv j0<|j4)),(fun _=>pa j0 j0 j0 j0 (mv j0<|j4)),(fun _=>pa j0 j0 j0 j0 (ldI ti113 j0 (idx_some q7).2.2 j0<|j4)),(fun _=>pa j0 j0 j0 j0 (ixI ti33 j0 ti113 j0 j0 j0 q7<|j4)),(fun _=>pa j0 j0 j0 j0 (mv j0<|j4)),(fun _=>pa j0 j0 j0 j0 (mv j0<|j4)),j5⟩ (by kernel_rfl) j0 ⟨[],ce j0 j0<|ce j0 j0<|ce j0 j0<|ce j0 j0<|ce j0 j0<|cn,j0,j5,j0,j1⟩) ?_
    refine sw_cond j0 (fun hc9=>?_) (fun hc9=>?_)
    ·
     replace h:=bT hc9 h
     refine rg j0<|u<|asg j0<|r_nil ?_
     refine sw_ret ?_
     obtain rfl:=sm h
     exact ⟨_,j0,_,j0,[],ci j0,j0,j5,j0,j1⟩
    ·
     replace h:=bF hc9 h
     refine sw_skip ?_
     refine rl j0<|u<|add ti3 j0 j0<|u<|mv j0<|r_nil ?_
     obtain rfl:=sm h
     exact ⟨_,j0,[],ce j0 j0<|ce j0 j0<|ce j0 j0<|ce j0 j0<|cn,j0,j5,j0,j1⟩
   ·
    replace h:=bF hc6 h
    refine sw_exit ?_
    obtain rfl:=sm h
    exact ⟨j0,_,j0,[],cn,j0,j5,j0,j1⟩
  ·
   rintro ⟨⟩ rfl
   replace h : slices_Equal_api_Trap_api_Trap_k2 = some r:=h
   unfold slices_Equal_api_Trap_api_Trap_k2 at h
   refine ow_intro ?_
   refine rg j0<|u<|asg j0<|r_nil ?_
   refine sw_ret ?_
   obtain rfl:=sm h
   exact ⟨_,j0,[],ci j0,j0,j5,j0,j1⟩
  ·
   rintro r' rfl env st hp
   obtain rfl:=sm h
   exact hp
def class_eqMethod (v1 : ApiMethod) (v2 : ApiMethod) : Option (Bool) :=
  (slices_EqualFunc_api_Map_api_Map_api_Map_api_Map v1.Maps v2.Maps).bind fun v3=>(cond (v1.Name == v2.Name) ((slices_Equal_string_string v1.Params v2.Params).bind fun v4=>some v4) (some false)).bind fun v5=>(cond (((v3 && (((v5 && (v1.Ret == v2.Ret)) && (v1.Static == v2.Static)) && (v1.Abstract == v2.Abstract))) && (v1.Locals == v2.Locals)) && (v1.Stack == v2.Stack)) ((slices_Equal_api_Ins_api_Ins v1.Code v2.Code).bind fun v6=>some v6) (some false)).bind fun v7=>(cond v7 ((slices_Equal_api_Trap_api_Trap v1.Traps v2.Traps).bind fun v8=>some v8) (some false)).bind fun v9=>some v9
theorem class_eqMethod_ok (v1 : ApiMethod) (v2 : ApiMethod) {r : Bool} (h : class_eqMethod v1 v2 = some r) : PureC Tryz.prog 79 [.agg [sA v1.Name,.isl 1 (List.map rStr v1.Params),sA v1.Ret,bA v1.Static,bA v1.Abstract,iA v1.Locals,iA v1.Stack,.isl 4 (List.map rApiIns v1.Code),.isl 3 (List.map rApiMap v1.Maps),.isl 4 (List.map rApiTrap v1.Traps)],.agg [sA v2.Name,.isl 1 (List.map rStr v2.Params),sA v2.Ret,bA v2.Static,bA v2.Abstract,iA v2.Locals,iA v2.Stack,.isl 4 (List.map rApiIns v2.Code),.isl 3 (List.map rApiMap v2.Maps),.isl 4 (List.map rApiTrap v2.Traps)]] (bA r):=by
 refine pure_fn Tryz.func79 j0 (by kernel_rfl) j0 j0 ?_
 unfold class_eqMethod at h
 refine rg j0<|u<|bx 0 10 j0 j0 j0 j0<|u<|bx 1 10 j0 j0 j0 j0<|u<|asg j0<|r_nil ?_
 obtain ⟨v3,q1,h⟩:=bs h
 refine rg j0<|u<|fa ti35 j0 j0 j0<|u<|ld ti32 j0 j0<|u<|fa ti35 j0 j0 j0<|u<|ld ti32 j0 j0<|u<|pc (slices_EqualFunc_api_Map_api_Map_api_Map_api_Map_ok v1.Maps v2.Maps q1) j0 j0 j0<|u<|asg j0<|r_nil ?_
 obtain ⟨v5,q4,h⟩:=bs h
 refine rg j0<|u<|fa ti35 j0 j0 j0<|u<|ld ti9 j0 j0<|u<|fa ti35 j0 j0 j0<|u<|ld ti9 j0 j0<|u<|seq ti9 j0 j0<|u<|mv j0<|r_and (x:=v5) (j:=5) 5 j0 j0 j0 j0 j0 gpn (fun hb2=>by replace q4:=bT hb2 q4; obtain ⟨v4,q3,q4⟩:=bs q4; obtain rfl:=sm q4; exact g j0 hb2<|fa ti35 j0 j0 j0<|g j0 hb2<|ld ti24 j0 j0<|g j0 hb2<|fa ti35 j0 j0 j0<|g j0 hb2<|ld ti24 j0 j0<|g j0 hb2<|pc (slices_Equal_string_string_ok v1.Params v2.Params q3) j0 j0 j0<|r_nil (eg [18,19,20,21,22] 5 j0 j0 j0 j0)) (fun hb=>(sm (bF hb q4)).symm)<|u<|mv j0<|r_and (j:=12) 5 j0 j0 j0 j0 j0 gpn (fun hb5=>g j0 hb5<|fa ti35 j0 j0 j0<|g j0 hb5<|ld ti9 j0 j0<|g j0 hb5<|fa ti35 j0 j0 j0<|g j0 hb5<|ld ti9 j0 j0<|g j0 hb5<|seq ti9 j0 j0<|r_nil (egA [25,26,27,28,29] 5 hb5 j0 j0 j0 j0)) andF<|u<|mv j0<|r_and (j:=19) 5 j0 j0 j0 j0 j0 gpn (fun hb6=>g j0 hb6<|fa ti35 j0 j0 j0<|g j0 hb6<|ld ti4 j0 j0<|g j0 hb6<|fa ti35 j0 j0 j0<|g j0 hb6<|ld ti4 j0 j0<|g j0 hb6<|beq ti4 j0 j0 j0<|r_nil (egA [32,33,34,35,36] 5 hb6 j0 j0 j0 j0)) andF<|u<|mv j0<|r_and (j:=26) 5 j0 j0 j0 j0 j0 gpn (fun hb7=>g j0 hb7<|fa ti35 j0 j0 j0<|g j0 hb7<|ld ti4 j0 j0<|g j0 hb7<|fa ti35 j0 j0 j0<|g j0 hb7<|ld ti4 j0 j0<|g j0 hb7<|beq ti4 j0 j0 j0<|r_nil (egA [39,40,41,42,43] 5 hb7 j0 j0 j0 j0)) andF<|u<|asg j0<|r_nil ?_
 obtain ⟨v7,q13,h⟩:=bs h
 obtain ⟨v9,q16,h⟩:=bs h
 refine rg j0<|u<|mv j0<|u<|mv j0<|r_and (j:=1) 1 j0 j0 j0 j0 j0 gpn (fun hb8=>g j0 hb8<|mv j0<|r_nil (egA [47] 1 hb8 j0 j0 j0 j0)) andF<|u<|mv j0<|r_and (j:=4) 5 j0 j0 j0 j0 j0 gpn (fun hb9=>g j0 hb9<|fa ti35 j0 j0 j0<|g j0 hb9<|ld ti3 j0 j0<|g j0 hb9<|fa ti35 j0 j0 j0<|g j0 hb9<|ld ti3 j0 j0<|g j0 hb9<|eql ti3 j0 j0<|r_nil (egA [50,51,52,53,54] 5 hb9 j0 j0 j0 j0)) andF<|u<|mv j0<|r_and (j:=11) 5 j0 j0 j0 j0 j0 gpn (fun hb10=>g j0 hb10<|fa ti35 j0 j0 j0<|g j0 hb10<|ld ti3 j0 j0<|g j0 hb10<|fa ti35 j0 j0 j0<|g j0 hb10<|ld ti3 j0 j0<|g j0 hb10<|eql ti3 j0 j0<|r_nil (egA [57,58,59,60,61] 5 hb10 j0 j0 j0 j0)) andF<|u<|mv j0<|r_and (x:=v7) (j:=18) 5 j0 j0 j0 j0 j0 gpn (fun hb11=>by replace q13:=bT hb11 q13; obtain ⟨v6,q12,q13⟩:=bs q13; obtain rfl:=sm q13; exact g j0 hb11<|fa ti35 j0 j0 j0<|g j0 hb11<|ld ti31 j0 j0<|g j0 hb11<|fa ti35 j0 j0 j0<|g j0 hb11<|ld ti31 j0 j0<|g j0 hb11<|pc (slices_Equal_api_Ins_api_Ins_ok v1.Code v2.Code q12) j0 j0 j0<|r_nil (eg [64,65,66,67,68] 5 j0 j0 j0 j0)) (fun hb=>(sm (bF hb q13)).symm)<|u<|mv j0<|r_and (x:=v9) (j:=25) 5 j0 j0 j0 j0 j0 gpn (fun hb14=>by replace q16:=bT hb14 q16; obtain ⟨v8,q15,q16⟩:=bs q16; obtain rfl:=sm q16; exact g j0 hb14<|fa ti35 j0 j0 j0<|g j0 hb14<|ld ti33 j0 j0<|g j0 hb14<|fa ti35 j0 j0 j0<|g j0 hb14<|ld ti33 j0 j0<|g j0 hb14<|pc (slices_Equal_api_Trap_api_Trap_ok v1.Traps v2.Traps q15) j0 j0 j0<|r_nil (eg [71,72,73,74,75] 5 j0 j0 j0 j0)) (fun hb=>(sm (bF hb q16)).symm)<|u<|asg j0<|r_nil ?_
 refine sw_ret ?_
 obtain rfl:=sm h
 exact ⟨_,j0,[],ci j0,j0,j5,j0,j1⟩
def slices_EqualFunc_api_Method_api_Method_api_Method_api_Method_k2 : Option (Bool) :=
  some true
def slices_EqualFunc_api_Method_api_Method_api_Method_api_Method_l1 (v1 : List ApiMethod) (v2 : List ApiMethod) (v7 : Int) : Option (Sum (Int) (Sum (Unit) (Bool))) :=
  cond (decide (v7 < (List.length v1 : Int))) ((idx v1 v7).bind fun v8=>(idx v2 v7).bind fun v9=>(class_eqMethod v8 v9).bind fun v10=>cond (!v10) (some (.inr (.inr false))) (some (.inl (IntKind.i64.wrap (v7 + 1))))) (some (.inr (.inl ())))
def slices_EqualFunc_api_Method_api_Method_api_Method_api_Method (v1 : List ApiMethod) (v2 : List ApiMethod) : Option (Bool) :=
  cond (!((List.length v1 : Int) == (List.length v2 : Int))) (some false) ((loopP (fun z=>slices_EqualFunc_api_Method_api_Method_api_Method_api_Method_l1 v1 v2 z) 0).bind fun o=>leave o (fun b=>slices_EqualFunc_api_Method_api_Method_api_Method_api_Method_k2) some)
theorem slices_EqualFunc_api_Method_api_Method_api_Method_api_Method_ok (v1 : List ApiMethod) (v2 : List ApiMethod) {r : Bool} (h : slices_EqualFunc_api_Method_api_Method_api_Method_api_Method v1 v2 = some r) : PureC Tryz.prog 78 [.isl 10 (List.map rApiMethod v1),.isl 10 (List.map rApiMethod v2),.fn (.func 79) [] []] (bA r):=by
 refine pure_fn Tryz.func78 j0 (by kernel_rfl) j0 j0 ?_
 unfold slices_EqualFunc_api_Method_api_Method_api_Method_api_Method at h
 refine rg j0<|u<|asg j0<|r_nil ?_
 refine sw_seq ?_
 refine rg j0<|u<|mv j0<|u<|lnI ti26 j0 j0<|u<|mv j0<|u<|lnI ti26 j0 j0<|u<|neq ti3 j0 j0<|r_nil ?_
 refine sw_cond j0 (fun hc1=>?_) (fun hc1=>?_)
 ·
  replace h:=bT hc1 h
  refine rg j0<|u<|asg j0<|r_nil ?_
  refine sw_ret ?_
  obtain rfl:=sm h
  exact ⟨_,j0,[],ci j0,j0,j5,j0,j1⟩
 ·
  replace h:=bF hc1 h
  refine sw_skip ?_
  refine sw_seq ?_
  refine rg j0<|u<|mv j0<|u<|lnI ti26 j0 j0<|u<|mv j0<|r_nil ?_
  obtain ⟨o,ho,h⟩:=bs h
  refine sw_lpl (X:=Int) (B:=Unit) (R:=Bool) (fun z=>[(1,.isl 10 (List.map rApiMethod v2)),(2,.fn (.func 79) [] []),(15,.isl 10 (List.map rApiMethod v1)),(16,iA (List.length v1 : Int)),(17,iA z)]) (fun z=>[]) (fun b=>[]) (fun b=>[]) (fun r env st=>PostF Tryz.prog Tryz.f78 0 (bA r) [] env st) ho ⟨[],ce j0 j0<|ce j0 j0<|ce j0 j0<|ce j0 j0<|ce j0 j0<|cn,j0,j5,j0,j1⟩ ?_ ?_ ?_
  ·
   rintro v7 r h
   replace h : slices_EqualFunc_api_Method_api_Method_api_Method_api_Method_l1 v1 v2 v7 = some r:=h
   unfold slices_EqualFunc_api_Method_api_Method_api_Method_api_Method_l1 at h
   refine rg j0<|u<|lss ti3 j0 j0<|r_nil ?_
   refine sw_seq ?_
   refine sw_cond j0 (fun hc7=>?_) (fun hc7=>?_)
   ·
    replace h:=bT hc7 h
    refine sw_skip ?_
    refine sw_seq ?_
    refine sw_block ?_
    obtain ⟨v8,q8,h⟩:=bs h
    refine rg j0<|u<|mv j0<|u<|ixI ti26 j0 ti35 j0 j0 j0 q8<|u<|ldI ti35 j0 (idx_some q8).2.2 j0<|u<|al 0 ti35 j0<|u<|asg j0<|u<|sto ti35 j0 j0 j0<|r_nil ?_
    obtain ⟨v9,q9,h⟩:=bs h
    refine rg j0<|u<|mv j0<|u<|mv j0<|u<|ixI ti26 j0 ti35 j0 j0 j0 q9<|u<|ldI ti35 j0 (idx_some q9).2.2 j0<|u<|al 1 ti35 j0<|u<|sto ti35 j0 j0 j0<|r_nil ?_
    obtain ⟨v10,q10,h⟩:=bs h
    refine rg j0<|u<|mv j0<|u<|ld ti35 j0 j0<|u<|ld ti35 j0 j0<|u<|pc (class_eqMethod_ok v8 v9 q10) j0 j0 j0<|u<|nt j0<|r_nil ?_
    refine sw_cond j0 (fun hc11=>?_) (fun hc11=>?_)
    ·
     replace h:=bT hc11 h
     refine rg j0<|u<|asg j0<|r_nil ?_
     refine sw_ret ?_
     obtain rfl:=sm h
     exact ⟨_,j0,_,j0,[],ci j0,j0,j5,j0,j1⟩
    ·
     replace h:=bF hc11 h
     refine sw_skip ?_
     refine rl j0<|u<|add ti3 j0 j0<|u<|mv j0<|r_nil ?_
     obtain rfl:=sm h
     exact ⟨_,j0,[],ce j0 j0<|ce j0 j0<|ce j0 j0<|ce j0 j0<|ce j0 j0<|cn,j0,j5,j0,j1⟩
   ·
    replace h:=bF hc7 h
    refine sw_exit ?_
    obtain rfl:=sm h
    exact ⟨j0,_,j0,[],cn,j0,j5,j0,j1⟩
  ·
   rintro ⟨⟩ rfl
   replace h : slices_EqualFunc_api_Method_api_Method_api_Method_api_Method_k2 = some r:=h
   unfold slices_EqualFunc_api_Method_api_Method_api_Method_api_Method_k2 at h
   refine ow_intro ?_
   refine rg j0<|u<|asg j0<|r_nil ?_
   refine sw_ret ?_
   obtain rfl:=sm h
   exact ⟨_,j0,[],ci j0,j0,j5,j0,j1⟩
  ·
   rintro r' rfl env st hp
   obtain rfl:=sm h
   exact hp
def class_Eq (v1 : ApiClass) (v2 : ApiClass) : Option (Bool) :=
  (cond (((v1.Name == v2.Name) && (v1.Super == v2.Super)) && (v1.Interface == v2.Interface)) ((slices_Equal_string_string v1.Impl v2.Impl).bind fun v3=>some v3) (some false)).bind fun v4=>(cond v4 ((slices_Equal_api_Field_api_Field v1.Fields v2.Fields).bind fun v5=>some v5) (some false)).bind fun v6=>(cond v6 ((slices_EqualFunc_api_Method_api_Method_api_Method_api_Method v1.Methods v2.Methods).bind fun v7=>some v7) (some false)).bind fun v8=>some v8
theorem class_Eq_ok (v1 : ApiClass) (v2 : ApiClass) {r : Bool} (h : class_Eq v1 v2 = some r) : PureC Tryz.prog 22 [.agg [sA v1.Name,sA v1.Super,bA v1.Interface,.isl 1 (List.map rStr v1.Impl),.isl 3 (List.map rApiField v1.Fields),.isl 10 (List.map rApiMethod v1.Methods)],.agg [sA v2.Name,sA v2.Super,bA v2.Interface,.isl 1 (List.map rStr v2.Impl),.isl 3 (List.map rApiField v2.Fields),.isl 10 (List.map rApiMethod v2.Methods)]] (bA r):=by
 refine pure_fn Tryz.func22 j0 (by kernel_rfl) j0 j0 ?_
 unfold class_Eq at h
 refine rg j0<|u<|bx 0 6 j0 j0 j0 j0<|u<|bx 1 6 j0 j0 j0 j0<|u<|asg j0<|r_nil ?_
 obtain ⟨v4,q5,h⟩:=bs h
 obtain ⟨v6,q8,h⟩:=bs h
 obtain ⟨v8,q11,h⟩:=bs h
 refine rg j0<|u<|fa ti28 j0 j0 j0<|u<|ld ti9 j0 j0<|u<|fa ti28 j0 j0 j0<|u<|ld ti9 j0 j0<|u<|seq ti9 j0 j0<|u<|mv j0<|r_and (j:=5) 5 j0 j0 j0 j0 j0 gpn (fun hb1=>g j0 hb1<|fa ti28 j0 j0 j0<|g j0 hb1<|ld ti9 j0 j0<|g j0 hb1<|fa ti28 j0 j0 j0<|g j0 hb1<|ld ti9 j0 j0<|g j0 hb1<|seq ti9 j0 j0<|r_nil (egA [11,12,13,14,15] 5 hb1 j0 j0 j0 j0)) andF<|u<|mv j0<|r_and (j:=12) 5 j0 j0 j0 j0 j0 gpn (fun hb2=>g j0 hb2<|fa ti28 j0 j0 j0<|g j0 hb2<|ld ti4 j0 j0<|g j0 hb2<|fa ti28 j0 j0 j0<|g j0 hb2<|ld ti4 j0 j0<|g j0 hb2<|beq ti4 j0 j0 j0<|r_nil (egA [18,19,20,21,22] 5 hb2 j0 j0 j0 j0)) andF<|u<|mv j0<|r_and (x:=v4) (j:=19) 5 j0 j0 j0 j0 j0 gpn (fun hb3=>by replace q5:=bT hb3 q5; obtain ⟨v3,q4,q5⟩:=bs q5; obtain rfl:=sm q5; exact g j0 hb3<|fa ti28 j0 j0 j0<|g j0 hb3<|ld ti24 j0 j0<|g j0 hb3<|fa ti28 j0 j0 j0<|g j0 hb3<|ld ti24 j0 j0<|g j0 hb3<|pc (slices_Equal_string_string_ok v1.Impl v2.Impl q4) j0 j0 j0<|r_nil (eg [25,26,27,28,29] 5 j0 j0 j0 j0)) (fun hb=>(sm (bF hb q5)).symm)<|u<|mv j0<|r_and (x:=v6) (j:=26) 5 j0 j0 j0 j0 j0 gpn (fun hb6=>by replace q8:=bT hb6 q8; obtain ⟨v5,q7,q8⟩:=bs q8; obtain rfl:=sm q8; exact g j0 hb6<|fa ti28 j0 j0 j0<|g j0 hb6<|ld ti25 j0 j0<|g j0 hb6<|fa ti28 j0 j0 j0<|g j0 hb6<|ld ti25 j0 j0<|g j0 hb6<|pc (slices_Equal_api_Field_api_Field_ok v1.Fields v2.Fields q7) j0 j0 j0<|r_nil (eg [32,33,34,35,36] 5 j0 j0 j0 j0)) (fun hb=>(sm (bF hb q8)).symm)<|u<|mv j0<|r_and (x:=v8) (j:=33) 5 j0 j0 j0 j0 j0 gpn (fun hb9=>by replace q11:=bT hb9 q11; obtain ⟨v7,q10,q11⟩:=bs q11; obtain rfl:=sm q11; exact g j0 hb9<|fa ti28 j0 j0 j0<|g j0 hb9<|ld ti26 j0 j0<|g j0 hb9<|fa ti28 j0 j0 j0<|g j0 hb9<|ld ti26 j0 j0<|g j0 hb9<|pc (slices_EqualFunc_api_Method_api_Method_api_Method_api_Method_ok v1.Methods v2.Methods q10) j0 j0 j0<|r_nil (eg [39,40,41,42,43] 5 j0 j0 j0 j0)) (fun hb=>(sm (bF hb q11)).symm)<|u<|asg j0<|r_nil ?_
 refine sw_ret ?_
 obtain rfl:=sm h
 exact ⟨_,j0,[],ci j0,j0,j5,j0,j1⟩
def law5_One (v1 : List UInt8) : Unit :=
  ()
theorem law5_One_ok (v1 : List UInt8) {r : Unit} (h : law5_One v1 = r) : SC Tryz.prog 10 [sA v1] [] (.agg [sA v1,sA [79,98,106,101,99,116],bA false,.lit (.slice none 0 0),.msl 0 0 1,.msl 1 0 1]) [.xs 3 [[sA [120],sA [73],bA false]],.xs 10 [[sA [109,97,105,110],.lit (.slice none 0 0),sA [86],bA true,bA false,iA 0,iA 0,.msl 2 0 1,.lit (.slice none 0 0),.lit (.slice none 0 0)]],.xs 4 [[iA 46,iA 0,sA [],sA []]]]:=by
 refine ⟨⟨j5,j5,j5,j5⟩,scall_fn Tryz.func10 j0 (by kernel_rfl) j0 ?_⟩
 unfold law5_One at h
 refine rg j0<|u<|al 0 ti28 j0<|r_nil ?_
 refine rg j0<|u<|mv j0<|u<|bd ti53 j0 j0 j0<|u<|bl 1 ti25 j0 ti53 j0 (by decide) (by decide) j0 j0 j0<|u<|bd ti37 j0 j0 j0<|u<|bl 2 ti31 j0 ti37 j0 (by decide) (by decide) j0 j0 j0<|u<|bd ti35 j0 j0 j0<|u<|bl 3 ti26 j0 ti35 j0 (by decide) (by decide) j0 j0 j0<|u<|bd ti28 j0 j0 j0<|u<|sto ti28 j0 j0 j0<|r_nil ?_
 refine sw_ret ?_
 obtain rfl:=h
 exact ⟨_,j0,[.old 1,.old 3,.old 2],rsAgg ⟨(ci j0),(ci j0),(ci j0),(ci j0),(.msl j0),(.msl j0),j5⟩,j0,⟨⟨_,j0,rsRows ⟨⟨(ci j0),(ci j0),(ci j0),j5⟩,j5⟩⟩,⟨_,j0,rsRows ⟨⟨(ci j0),(ci j0),(ci j0),(ci j0),(ci j0),(ci j0),(ci j0),(.msl j0),(ci j0),(ci j0),j5⟩,j5⟩⟩,⟨_,j0,rsRows ⟨⟨(ci j0),(ci j0),(ci j0),(ci j0),j5⟩,j5⟩⟩,j5⟩,j0,j1⟩
def law5_begun : Option (Bool) :=
  (law4_Begun).bind fun v1=>(cond v1 ((class_May (ApiClass.mk [65,98] [79,98,106,101,99,116] false [] ([(ApiField.mk [120] [73] false)]) ([(ApiMethod.mk [109,97,105,110] [] [86] true false 0 0 ([(ApiIns.mk 46 0 [] [])]) [] [])]))).bind fun v2=>some v2) (some false)).bind fun v3=>(cond v3 ((class_May (ApiClass.mk [65,98] [] false [] [] [])).bind fun v4=>some (!v4)) (some false)).bind fun v5=>(cond v5 ((class_Eq (ApiClass.mk [65,98] [79,98,106,101,99,116] false [] ([(ApiField.mk [120] [73] false)]) ([(ApiMethod.mk [109,97,105,110] [] [86] true false 0 0 ([(ApiIns.mk 46 0 [] [])]) [] [])])) (ApiClass.mk [65,98] [79,98,106,101,99,116] false [] ([(ApiField.mk [120] [73] false)]) ([(ApiMethod.mk [109,97,105,110] [] [86] true false 0 0 ([(ApiIns.mk 46 0 [] [])]) [] [])]))).bind fun v6=>some v6) (some false)).bind fun v7=>(cond v7 ((class_Eq (ApiClass.mk [65,98] [79,98,106,101,99,116] false [] ([(ApiField.mk [120] [73] false)]) ([(ApiMethod.mk [109,97,105,110] [] [86] true false 0 0 ([(ApiIns.mk 46 0 [] [])]) [] [])])) (ApiClass.mk [65,98] [79,98,106,101,99,116] false [] ([(ApiField.mk [120] [73] false)]) ([(ApiMethod.mk [109,97,105,110] [] [86] true false 1 0 ([(ApiIns.mk 46 0 [] [])]) [] [])]))).bind fun v8=>some (!v8)) (some false)).bind fun v9=>(cond v9 ((class_Method (ApiClass.mk [65,98] [79,98,106,101,99,116] false [] ([(ApiField.mk [120] [73] false)]) ([(ApiMethod.mk [109,97,105,110] [] [86] true false 0 0 ([(ApiIns.mk 46 0 [] [])]) [] [])])) [109,97,105,110]).bind fun v10=>some (v10 == (0 : Int))) (some false)).bind fun v11=>(cond v11 ((class_Method (ApiClass.mk [65,98] [79,98,106,101,99,116] false [] ([(ApiField.mk [120] [73] false)]) ([(ApiMethod.mk [109,97,105,110] [] [86] true false 0 0 ([(ApiIns.mk 46 0 [] [])]) [] [])])) [120]).bind fun v12=>some (v12 == ((-1) : Int))) (some false)).bind fun v13=>(cond v13 ((class_Field (ApiClass.mk [65,98] [79,98,106,101,99,116] false [] ([(ApiField.mk [120] [73] false)]) ([(ApiMethod.mk [109,97,105,110] [] [86] true false 0 0 ([(ApiIns.mk 46 0 [] [])]) [] [])])) [120]).bind fun v14=>some (v14 == (0 : Int))) (some false)).bind fun v15=>(cond v15 ((class_Field (ApiClass.mk [65,98] [79,98,106,101,99,116] false [] ([(ApiField.mk [120] [73] false)]) ([(ApiMethod.mk [109,97,105,110] [] [86] true false 0 0 ([(ApiIns.mk 46 0 [] [])]) [] [])])) [109,97,105,110]).bind fun v16=>some (v16 == ((-1) : Int))) (some false)).bind fun v17=>some v17
theorem law5_begun_ok {r : Bool} (h : law5_begun = some r) : PureC Tryz.prog 9 [] (bA r):=by
 refine pure_fn Tryz.func9 j0 (by kernel_rfl) j0 j0 ?_
 unfold law5_begun at h
 refine rg j0<|u<|asg j0<|r_nil ?_
 refine rg j0<|u<|sc [] (law5_One_ok [65,98] j0) j0 j0 j0 j0 ⟨(rnI j0),j5⟩ j5<|u<|al 3 ti28 j0<|u<|sto ti28 j0 j0 j0<|r_nil ?_
 refine rg j0<|u<|sc [] (law5_One_ok [65,98] j0) j0 j0 j0 j0 ⟨(rnI j0),j5⟩ j5<|u<|al 7 ti28 j0<|u<|sto ti28 j0 j0 j0<|r_nil ?_
 refine rg j0<|u<|fa ti28 j0 j0 j0<|u<|ld ti26 j0 j0<|u<|ixX ti26 j0 ti35 j0 j0 j0<|u<|fa ti35 j0 j0 j0<|u<|sto ti3 j0 j0 j0<|r_nil ?_
 obtain ⟨v1,q1,h⟩:=bs h
 obtain ⟨v3,q4,h⟩:=bs h
 obtain ⟨v5,q7,h⟩:=bs h
 obtain ⟨v7,q10,h⟩:=bs h
 obtain ⟨v9,q13,h⟩:=bs h
 obtain ⟨v11,q16,h⟩:=bs h
 obtain ⟨v13,q19,h⟩:=bs h
 obtain ⟨v15,q22,h⟩:=bs h
 obtain ⟨v17,q25,h⟩:=bs h
 refine rg j0<|u<|pc (law4_Begun_ok q1) j0 j0 j0<|u<|mv j0<|r_and (x:=v3) (j:=1) 2 j0 j0 j0 j0 j0 gpn (fun hb2=>by replace q4:=bT hb2 q4; obtain ⟨v2,q3,q4⟩:=bs q4; obtain rfl:=sm q4; exact g j0 hb2<|ld ti28 j0 j0<|g j0 hb2<|pcs (class_May_ok (ApiClass.mk [65,98] [79,98,106,101,99,116] false [] ([(ApiField.mk [120] [73] false)]) ([(ApiMethod.mk [109,97,105,110] [] [86] true false 0 0 ([(ApiIns.mk 46 0 [] [])]) [] [])])) q3) j0 j0 (.cons (sealAgg ⟨(si j0),(si j0),(si j0),(.nil),(sealX j0 ⟨⟨(si j0),(si j0),(si j0),j5⟩,j5⟩),(sealX j0 ⟨⟨(si j0),(.nil),(si j0),(si j0),(si j0),(si j0),(si j0),(sealX j0 ⟨⟨(si j0),(si j0),(si j0),(si j0),j5⟩,j5⟩),(.nil),(.nil),j5⟩,j5⟩),j5⟩) .nil) plainB<|r_nil (eg [11,12] 2 j0 j0 j0 j0)) (fun hb=>(sm (bF hb q4)).symm)<|u<|mv j0<|r_and (x:=v5) (j:=5) 3 j0 j0 j0 j0 j0 gpn (fun hb5=>by replace q7:=bT hb5 q7; obtain ⟨v4,q6,q7⟩:=bs q7; obtain rfl:=sm q7; exact g j0 hb5<|bd ti28 j0 j0 j0<|g j0 hb5<|pcs (class_May_ok (ApiClass.mk [65,98] [] false [] [] []) q6) j0 j0 (.cons (sealAgg ⟨(si j0),(si j0),(si j0),(.nil),(.nil),(.nil),j5⟩) .nil) plainB<|g j0 hb5<|nt j0<|r_nil (eg [15,16,17] 3 j0 j0 j0 j0)) (fun hb=>(sm (bF hb q7)).symm)<|u<|mv j0<|r_and (x:=v7) (j:=10) 3 j0 j0 j0 j0 j0 gpn (fun hb8=>by replace q10:=bT hb8 q10; obtain ⟨v6,q9,q10⟩:=bs q10; obtain rfl:=sm q10; exact g j0 hb8<|ld ti28 j0 j0<|g j0 hb8<|ld ti28 j0 j0<|g j0 hb8<|pcs (class_Eq_ok (ApiClass.mk [65,98] [79,98,106,101,99,116] false [] ([(ApiField.mk [120] [73] false)]) ([(ApiMethod.mk [109,97,105,110] [] [86] true false 0 0 ([(ApiIns.mk 46 0 [] [])]) [] [])])) (ApiClass.mk [65,98] [79,98,106,101,99,116] false [] ([(ApiField.mk [120] [73] false)]) ([(ApiMethod.mk [109,97,105,110] [] [86] true false 0 0 ([(ApiIns.mk 46 0 [] [])]) [] [])])) q9) j0 j0 (.cons (sealAgg ⟨(si j0),(si j0),(si j0),(.nil),(sealX j0 ⟨⟨(si j0),(si j0),(si j0),j5⟩,j5⟩),(sealX j0 ⟨⟨(si j0),(.nil),(si j0),(si j0),(si j0),(si j0),(si j0),(sealX j0 ⟨⟨(si j0),(si j0),(si j0),(si j0),j5⟩,j5⟩),(.nil),(.nil),j5⟩,j5⟩),j5⟩) (.cons (sealAgg ⟨(si j0),(si j0),(si j0),(.nil),(sealX j0 ⟨⟨(si j0),(si j0),(si j0),j5⟩,j5⟩),(sealX j0 ⟨⟨(si j0),(.nil),(si j0),(si j0),(si j0),(si j0),(si j0),(sealX j0 ⟨⟨(si j0),(si j0),(si j0),(si j0),j5⟩,j5⟩),(.nil),(.nil),j5⟩,j5⟩),j5⟩) .nil)) plainB<|r_nil (eg [20,21,22] 3 j0 j0 j0 j0)) (fun hb=>(sm (bF hb q10)).symm)<|u<|mv j0<|r_and (x:=v9) (j:=15) 4 j0 j0 j0 j0 j0 gpn (fun hb11=>by replace q13:=bT hb11 q13; obtain ⟨v8,q12,q13⟩:=bs q13; obtain rfl:=sm q13; exact g j0 hb11<|ld ti28 j0 j0<|g j0 hb11<|ld ti28 j0 j0<|g j0 hb11<|pcs (class_Eq_ok (ApiClass.mk [65,98] [79,98,106,101,99,116] false [] ([(ApiField.mk [120] [73] false)]) ([(ApiMethod.mk [109,97,105,110] [] [86] true false 0 0 ([(ApiIns.mk 46 0 [] [])]) [] [])])) (ApiClass.mk [65,98] [79,98,106,101,99,116] false [] ([(ApiField.mk [120] [73] false)]) ([(ApiMethod.mk [109,97,105,110] [] [86] true false 1 0 ([(ApiIns.mk 46 0 [] [])]) [] [])])) q12) j0 j0 (.cons (sealAgg ⟨(si j0),(si j0),(si j0),(.nil),(sealX j0 ⟨⟨(si j0),(si j0),(si j0),j5⟩,j5⟩),(sealX j0 ⟨⟨(si j0),(.nil),(si j0),(si j0),(si j0),(si j0),(si j0),(sealX j0 ⟨⟨(si j0),(si j0),(si j0),(si j0),j5⟩,j5⟩),(.nil),(.nil),j5⟩,j5⟩),j5⟩) (.cons (sealAgg ⟨(si j0),(si j0),(si j0),(.nil),(sealX j0 ⟨⟨(si j0),(si j0),(si j0),j5⟩,j5⟩),(sealX j0 ⟨⟨(si j0),(.nil),(si j0),(si j0),(si j0),(si j0),(si j0),(sealX j0 ⟨⟨(si j0),(si j0),(si j0),(si j0),j5⟩,j5⟩),(.nil),(.nil),j5⟩,j5⟩),j5⟩) .nil)) plainB<|g j0 hb11<|nt j0<|r_nil (eg [25,26,27,28] 4 j0 j0 j0 j0)) (fun hb=>(sm (bF hb q13)).symm)<|u<|mv j0<|r_and (x:=v11) (j:=21) 3 j0 j0 j0 j0 j0 gpn (fun hb14=>by replace q16:=bT hb14 q16; obtain ⟨v10,q15,q16⟩:=bs q16; obtain rfl:=sm q16; exact g j0 hb14<|ld ti28 j0 j0<|g j0 hb14<|pcs (class_Method_ok (ApiClass.mk [65,98] [79,98,106,101,99,116] false [] ([(ApiField.mk [120] [73] false)]) ([(ApiMethod.mk [109,97,105,110] [] [86] true false 0 0 ([(ApiIns.mk 46 0 [] [])]) [] [])])) [109,97,105,110] q15) j0 j0 (.cons (sealAgg ⟨(si j0),(si j0),(si j0),(.nil),(sealX j0 ⟨⟨(si j0),(si j0),(si j0),j5⟩,j5⟩),(sealX j0 ⟨⟨(si j0),(.nil),(si j0),(si j0),(si j0),(si j0),(si j0),(sealX j0 ⟨⟨(si j0),(si j0),(si j0),(si j0),j5⟩,j5⟩),(.nil),(.nil),j5⟩,j5⟩),j5⟩) (.cons (si j0) .nil)) plainB<|g j0 hb14<|eql ti3 j0 j0<|r_nil (eg [31,32,33] 3 j0 j0 j0 j0)) (fun hb=>(sm (bF hb q16)).symm)<|u<|mv j0<|r_and (x:=v13) (j:=26) 3 j0 j0 j0 j0 j0 gpn (fun hb17=>by replace q19:=bT hb17 q19; obtain ⟨v12,q18,q19⟩:=bs q19; obtain rfl:=sm q19; exact g j0 hb17<|ld ti28 j0 j0<|g j0 hb17<|pcs (class_Method_ok (ApiClass.mk [65,98] [79,98,106,101,99,116] false [] ([(ApiField.mk [120] [73] false)]) ([(ApiMethod.mk [109,97,105,110] [] [86] true false 0 0 ([(ApiIns.mk 46 0 [] [])]) [] [])])) [120] q18) j0 j0 (.cons (sealAgg ⟨(si j0),(si j0),(si j0),(.nil),(sealX j0 ⟨⟨(si j0),(si j0),(si j0),j5⟩,j5⟩),(sealX j0 ⟨⟨(si j0),(.nil),(si j0),(si j0),(si j0),(si j0),(si j0),(sealX j0 ⟨⟨(si j0),(si j0),(si j0),(si j0),j5⟩,j5⟩),(.nil),(.nil),j5⟩,j5⟩),j5⟩) (.cons (si j0) .nil)) plainB<|g j0 hb17<|eql ti3 j0 j0<|r_nil (eg [36,37,38] 3 j0 j0 j0 j0)) (fun hb=>(sm (bF hb q19)).symm)<|u<|mv j0<|r_and (x:=v15) (j:=31) 3 j0 j0 j0 j0 j0 gpn (fun hb20=>by replace q22:=bT hb20 q22; obtain ⟨v14,q21,q22⟩:=bs q22; obtain rfl:=sm q22; exact g j0 hb20<|ld ti28 j0 j0<|g j0 hb20<|pcs (class_Field_ok (ApiClass.mk [65,98] [79,98,106,101,99,116] false [] ([(ApiField.mk [120] [73] false)]) ([(ApiMethod.mk [109,97,105,110] [] [86] true false 0 0 ([(ApiIns.mk 46 0 [] [])]) [] [])])) [120] q21) j0 j0 (.cons (sealAgg ⟨(si j0),(si j0),(si j0),(.nil),(sealX j0 ⟨⟨(si j0),(si j0),(si j0),j5⟩,j5⟩),(sealX j0 ⟨⟨(si j0),(.nil),(si j0),(si j0),(si j0),(si j0),(si j0),(sealX j0 ⟨⟨(si j0),(si j0),(si j0),(si j0),j5⟩,j5⟩),(.nil),(.nil),j5⟩,j5⟩),j5⟩) (.cons (si j0) .nil)) plainB<|g j0 hb20<|eql ti3 j0 j0<|r_nil (eg [41,42,43] 3 j0 j0 j0 j0)) (fun hb=>(sm (bF hb q22)).symm)<|u<|mv j0<|r_and (x:=v17) (j:=36) 3 j0 j0 j0 j0 j0 gpn (fun hb23=>by replace q25:=bT hb23 q25; obtain ⟨v16,q24,q25⟩:=bs q25; obtain rfl:=sm q25; exact g j0 hb23<|ld ti28 j0 j0<|g j0 hb23<|pcs (class_Field_ok (ApiClass.mk [65,98] [79,98,106,101,99,116] false [] ([(ApiField.mk [120] [73] false)]) ([(ApiMethod.mk [109,97,105,110] [] [86] true false 0 0 ([(ApiIns.mk 46 0 [] [])]) [] [])])) [109,97,105,110] q24) j0 j0 (.cons (sealAgg ⟨(si j0),(si j0),(si j0),(.nil),(sealX j0 ⟨⟨(si j0),(si j0),(si j0),j5⟩,j5⟩),(sealX j0 ⟨⟨(si j0),(.nil),(si j0),(si j0),(si j0),(si j0),(si j0),(sealX j0 ⟨⟨(si j0),(si j0),(si j0),(si j0),j5⟩,j5⟩),(.nil),(.nil),j5⟩,j5⟩),j5⟩) (.cons (si j0) .nil)) plainB<|g j0 hb23<|eql ti3 j0 j0<|r_nil (eg [46,47,48] 3 j0 j0 j0 j0)) (fun hb=>(sm (bF hb q25)).symm)<|u<|asg j0<|r_nil ?_
 refine sw_ret ?_
 obtain rfl:=sm h
 exact ⟨_,j0,[],ci j0,j0,j5,j0,j1⟩
end
end Go.Proofs.YtdhpdpkcfffpiaaGreat
