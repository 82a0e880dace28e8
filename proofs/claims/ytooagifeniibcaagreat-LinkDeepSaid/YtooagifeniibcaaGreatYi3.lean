/- LinkDeep: for every input the law returns true, and each argument reads as it read before. No further condition. Part 3 of 5. -/
import Derived.Test.YtooagifeniibcaaGreatYi2
namespace Go.Proofs.YtooagifeniibcaaGreat
noncomputable section
set_option linter.unusedSimpArgs false
set_option linter.unusedVariables false
set_option maxRecDepth 100000
set_option maxHeartbeats 4000000
structure ApiField where
  Name : List UInt8
  Type_ : List UInt8
  Static : Bool
def rApiField (x : ApiField) : List AV:=[sA x.Name,sA x.Type_,bA x.Static]
structure ApiMap where
  At : Int
  Locals : List (List UInt8)
  Stack : List (List UInt8)
def rApiMap (x : ApiMap) : List AV:=[iA x.At,.isl 1 (List.map rStr x.Locals),.isl 1 (List.map rStr x.Stack)]
structure ApiTrap where
  From : Int
  To : Int
  At : Int
  C : List UInt8
def rApiTrap (x : ApiTrap) : List AV:=[iA x.From,iA x.To,iA x.At,sA x.C]
structure ApiMethod where
  Name : List UInt8
  Params : List (List UInt8)
  Ret : List UInt8
  Static : Bool
  Abstract : Bool
  Locals : Int
  Stack : Int
  Code : List ApiIns
  Maps : List ApiMap
  Traps : List ApiTrap
def rApiMethod (x : ApiMethod) : List AV:=[sA x.Name,.isl 1 (List.map rStr x.Params),sA x.Ret,bA x.Static,bA x.Abstract,iA x.Locals,iA x.Stack,.isl 4 (List.map rApiIns x.Code),.isl 3 (List.map rApiMap x.Maps),.isl 4 (List.map rApiTrap x.Traps)]
structure ApiClass where
  Name : List UInt8
  Super : List UInt8
  Interface : Bool
  Impl : List (List UInt8)
  Fields : List ApiField
  Methods : List ApiMethod
def rApiClass (x : ApiClass) : List AV:=[sA x.Name,sA x.Super,bA x.Interface,.isl 1 (List.map rStr x.Impl),.isl 3 (List.map rApiField x.Fields),.isl 10 (List.map rApiMethod x.Methods)]
def class_May_2 (v1 : ApiField) : Option (Bool) :=
  (kind_Name v1.Name).bind fun v2=>(cond (v2 && (!(v1.Name == [36,105,110,105,116]))) ((kind_May v1.Type_).bind fun v3=>some v3) (some false)).bind fun v4=>some v4
theorem class_May_2_ok (v1 : ApiField) {r : Bool} (h : class_May_2 v1 = some r) : PureC Tryz.prog 95 [.agg [sA v1.Name,sA v1.Type_,bA v1.Static]] (bA r):=by
 refine pure_fn Tryz.func95 j0 (by kernel_rfl) j0 j0 ?_
 unfold class_May_2 at h
 refine rg j0<|u<|bx 0 3 j0 j0 j0 j0<|u<|asg j0<|r_nil ?_
 obtain ⟨v2,q1,h⟩:=bs h
 obtain ⟨v4,q5,h⟩:=bs h
 refine rg j0<|u<|fa ti57 j0 j0 j0<|u<|ld ti9 j0 j0<|u<|pc (kind_Name_ok v1.Name q1) j0 j0 j0<|u<|mv j0<|r_and (j:=3) 3 j0 j0 j0 j0 j0 gpn (fun hb2=>g j0 hb2<|fa ti57 j0 j0 j0<|g j0 hb2<|ld ti9 j0 j0<|g j0 hb2<|sne ti9 j0 j0<|r_nil (egA [7,8,9] 3 hb2 j0 j0 j0 j0)) andF<|u<|mv j0<|r_and (x:=v4) (j:=8) 3 j0 j0 j0 j0 j0 gpn (fun hb3=>by replace q5:=bT hb3 q5; obtain ⟨v3,q4,q5⟩:=bs q5; obtain rfl:=sm q5; exact g j0 hb3<|fa ti57 j0 j0 j0<|g j0 hb3<|ld ti9 j0 j0<|g j0 hb3<|pc (kind_May_ok v1.Type_ q4) j0 j0 j0<|r_nil (eg [12,13,14] 3 j0 j0 j0 j0)) (fun hb=>(sm (bF hb q5)).symm)<|u<|asg j0<|r_nil ?_
 refine sw_ret ?_
 obtain rfl:=sm h
 exact ⟨_,j0,[],ci j0,j0,j5,j0,j1⟩
def class_May_1 (v1 : ApiField) : (List UInt8) :=
  v1.Name
theorem class_May_1_ok (v1 : ApiField) {r : (List UInt8)} (h : class_May_1 v1 = r) : PureC Tryz.prog 94 [.agg [sA v1.Name,sA v1.Type_,bA v1.Static]] (sA r):=by
 refine pure_fn Tryz.func94 j0 (by kernel_rfl) j0 j0 ?_
 unfold class_May_1 at h
 refine rg j0<|u<|bx 0 3 j0 j0 j0 j0<|u<|asg j0<|r_nil ?_
 refine rg j0<|u<|fa ti57 j0 j0 j0<|u<|ld ti9 j0 j0<|u<|asg j0<|r_nil ?_
 refine sw_ret ?_
 obtain rfl:=h
 exact ⟨_,j0,[],ci j0,j0,j5,j0,j1⟩
def class_all_api_Field_1 (v1 : ApiField) (v2 : List UInt8) (v3 : List UInt8) (v4 : Bool) : Bool :=
  ((class_May_1 (ApiField.mk v2 v3 v4)) == (class_May_1 v1))
theorem class_all_api_Field_1_ok (v1 : ApiField) (v2 : List UInt8) (v3 : List UInt8) (v4 : Bool) {r : Bool} (h : class_all_api_Field_1 v1 v2 v3 v4 = r) : PureC Tryz.prog 123 [.agg [sA v1.Name,sA v1.Type_,bA v1.Static],.ipt 1 [[.fn (.func 94) [] []]] 0 0,.ipt 3 [[sA v2,sA v3,bA v4]] 0 0] (bA r):=by
 refine pure_fn Tryz.func123 j0 (by kernel_rfl) j0 j0 ?_
 unfold class_all_api_Field_1 at h
 refine rg j0<|u<|bx 0 3 j0 j0 j0 j0<|u<|asg j0<|r_nil ?_
 refine rd [(4,bA ((class_May_1 (ApiField.mk v2 v3 v4)) == (class_May_1 v1)))] [] [] [7,6,5,4,3,2,1,0] [(4,bA ((class_May_1 (ApiField.mk v2 v3 v4)) == (class_May_1 v1))),(11,bA ((class_May_1 (ApiField.mk v2 v3 v4)) == (class_May_1 v1))),(10,sA (class_May_1 v1)),(9,.agg [sA v1.Name,sA v1.Type_,bA v1.Static]),(8,.fn (.func 94) [] []),(7,sA (class_May_1 (ApiField.mk v2 v3 v4))),(6,.agg [sA v2,sA v3,bA v4]),(5,.fn (.func 94) [] [])] 0 (by kernel_rfl) (by kernel_rfl) j0 (by kernel_rfl) (dt0 ⟨(fun _=>pa j0 j0 j0 j0 (asg j0<|j4)),(fun _=>pa j0 j0 j0 j0 (seq ti9 j0 j0<|j4)),(fun _=>pa j0 j0 j0 j0 (pc (class_May_1_ok v1 j0) j0 j0 j0<|j4)),(fun _=>pa j0 j0 j0 j0 (ld ti57 j0 j0<|j4)),(fun _=>pa j0 j0 j0 j0 (ld ti113 j0 j0<|j4)),(fun _=>pa j0 j0 j0 j0 (pc (class_May_1_ok (ApiField.mk v2 v3 v4) j0) j0 j0 j0<|j4)),(fun _=>pa j0 j0 j0 j0 (ld ti57 j0 j0<|j4)),(fun _=>pa j0 j0 j0 j0 (ld ti113 j0 j0<|j4)),j5⟩ (by kernel_rfl) j0 ⟨[],ce j0 j0<|cn,j0,j5,j0,j1⟩) ?_
 refine sw_ret ?_
 obtain rfl:=h
 exact ⟨_,j0,[],ci j0,j0,j5,j0,j1⟩
def slices_IndexFunc_api_Field_api_Field_k2 : Option (Int) :=
  some (-1)
def slices_IndexFunc_api_Field_api_Field_l1 (v1 : List ApiField) (v2 : List UInt8) (v3 : List UInt8) (v4 : Bool) (v7 : Int) : Option (Sum (Int) (Sum (Unit) (Int))) :=
  cond (decide (v7 < (List.length v1 : Int))) ((idx v1 v7).bind fun v8=>cond (class_all_api_Field_1 v8 v2 v3 v4) (some (.inr (.inr v7))) (some (.inl (IntKind.i64.wrap (v7 + 1))))) (some (.inr (.inl ())))
def slices_IndexFunc_api_Field_api_Field (v1 : List ApiField) (v2 : List UInt8) (v3 : List UInt8) (v4 : Bool) : Option (Int) :=
  (loopP (fun z=>slices_IndexFunc_api_Field_api_Field_l1 v1 v2 v3 v4 z) 0).bind fun o=>leave o (fun b=>slices_IndexFunc_api_Field_api_Field_k2) some
theorem slices_IndexFunc_api_Field_api_Field_ok (v1 : List ApiField) (v2 : List UInt8) (v3 : List UInt8) (v4 : Bool) {r : Int} (h : slices_IndexFunc_api_Field_api_Field v1 v2 v3 v4 = some r) : PureC Tryz.prog 156 [.isl 3 (List.map rApiField v1),.fn (.func 123) [] [.ipt 1 [[.fn (.func 94) [] []]] 0 0,.ipt 3 [[sA v2,sA v3,bA v4]] 0 0]] (iA r):=by
 refine pure_fn Tryz.func156 j0 (by kernel_rfl) j0 j0 ?_
 unfold slices_IndexFunc_api_Field_api_Field at h
 refine rg j0<|u<|asg j0<|r_nil ?_
 refine sw_seq ?_
 refine rg j0<|u<|mv j0<|u<|lnI ti39 j0 j0<|u<|mv j0<|r_nil ?_
 obtain ⟨o,ho,h⟩:=bs h
 refine sw_lpl (X:=Int) (B:=Unit) (R:=Int) (fun z=>[(0,.isl 3 (List.map rApiField v1)),(1,.fn (.func 123) [] [.ipt 1 [[.fn (.func 94) [] []]] 0 0,.ipt 3 [[sA v2,sA v3,bA v4]] 0 0]),(7,iA (List.length v1 : Int)),(8,iA z)]) (fun z=>[]) (fun b=>[]) (fun b=>[]) (fun r env st=>PostF Tryz.prog Tryz.f156 0 (iA r) [] env st) ho ⟨[],ce j0 j0<|ce j0 j0<|ce j0 j0<|ce j0 j0<|cn,j0,j5,j0,j1⟩ ?_ ?_ ?_
 ·
  rintro v7 r h
  replace h : slices_IndexFunc_api_Field_api_Field_l1 v1 v2 v3 v4 v7 = some r:=h
  unfold slices_IndexFunc_api_Field_api_Field_l1 at h
  refine rg j0<|u<|lss ti3 j0 j0<|r_nil ?_
  refine sw_seq ?_
  refine sw_cond j0 (fun hc4=>?_) (fun hc4=>?_)
  ·
   replace h:=bT hc4 h
   refine sw_skip ?_
   refine sw_seq ?_
   refine sw_block ?_
   refine rg j0<|u<|mv j0<|u<|asg j0<|r_nil ?_
   obtain ⟨v8,q5,h⟩:=bs h
   refine rg j0<|u<|mv j0<|u<|mv j0<|u<|mv j0<|u<|ixI ti39 j0 ti57 j0 j0 j0 q5<|u<|ldI ti57 j0 (idx_some q5).2.2 j0<|u<|pc (class_all_api_Field_1_ok v8 v2 v3 v4 j0) j0 j0 j0<|r_nil ?_
   refine sw_cond j0 (fun hc6=>?_) (fun hc6=>?_)
   ·
    replace h:=bT hc6 h
    refine rg j0<|u<|mv j0<|u<|asg j0<|r_nil ?_
    refine sw_ret ?_
    obtain rfl:=sm h
    exact ⟨_,j0,_,j0,[],ci j0,j0,j5,j0,j1⟩
   ·
    replace h:=bF hc6 h
    refine sw_skip ?_
    refine rl j0<|u<|add ti3 j0 j0<|u<|mv j0<|r_nil ?_
    obtain rfl:=sm h
    exact ⟨_,j0,[],ce j0 j0<|ce j0 j0<|ce j0 j0<|ce j0 j0<|cn,j0,j5,j0,j1⟩
  ·
   replace h:=bF hc4 h
   refine sw_exit ?_
   obtain rfl:=sm h
   exact ⟨j0,_,j0,[],cn,j0,j5,j0,j1⟩
 ·
  rintro ⟨⟩ rfl
  replace h : slices_IndexFunc_api_Field_api_Field_k2 = some r:=h
  unfold slices_IndexFunc_api_Field_api_Field_k2 at h
  refine ow_intro ?_
  refine rg j0<|u<|asg j0<|r_nil ?_
  refine sw_ret ?_
  obtain rfl:=sm h
  exact ⟨_,j0,[],ci j0,j0,j5,j0,j1⟩
 ·
  rintro r' rfl env st hp
  obtain rfl:=sm h
  exact hp
def slices_ContainsFunc_api_Field_api_Field (v1 : List ApiField) (v2 : List UInt8) (v3 : List UInt8) (v4 : Bool) : Option (Bool) :=
  (slices_IndexFunc_api_Field_api_Field v1 v2 v3 v4).bind fun v5=>some (decide (0 ≤ v5))
theorem slices_ContainsFunc_api_Field_api_Field_ok (v1 : List ApiField) (v2 : List UInt8) (v3 : List UInt8) (v4 : Bool) {r : Bool} (h : slices_ContainsFunc_api_Field_api_Field v1 v2 v3 v4 = some r) : PureC Tryz.prog 122 [.isl 3 (List.map rApiField v1),.fn (.func 123) [] [.ipt 1 [[.fn (.func 94) [] []]] 0 0,.ipt 3 [[sA v2,sA v3,bA v4]] 0 0]] (bA r):=by
 refine pure_fn Tryz.func122 j0 (by kernel_rfl) j0 j0 ?_
 unfold slices_ContainsFunc_api_Field_api_Field at h
 refine rg j0<|u<|asg j0<|r_nil ?_
 obtain ⟨v5,q1,h⟩:=bs h
 refine rg j0<|u<|mv j0<|u<|mv j0<|u<|pc (slices_IndexFunc_api_Field_api_Field_ok v1 v2 v3 v4 q1) j0 j0 j0<|u<|geq ti3 j0 j0<|u<|asg j0<|r_nil ?_
 refine sw_ret ?_
 obtain rfl:=sm h
 exact ⟨_,j0,[],ci j0,j0,j5,j0,j1⟩
def class_all_api_Field_k2 (v1 : List ApiField) (v2 : Int) : Option (Bool) :=
  some (decide ((List.length v1 : Int) ≤ v2))
def class_all_api_Field_l1 (v1 : List ApiField) (v9 : Int) : Option (Sum (Int) (Sum (Unit) (Bool))) :=
  cond (decide (v9 < (List.length v1 : Int))) ((idx v1 v9).bind fun v10=>(class_May_2 v10).bind fun v11=>(cond (!v11) (some true) ((cutP v1 0 v9).bind fun v12=>(slices_ContainsFunc_api_Field_api_Field v12 v10.Name v10.Type_ v10.Static).bind fun v13=>some v13)).bind fun v14=>cond v14 (some (.inr (.inr false))) (some (.inl (IntKind.i64.wrap (v9 + 1))))) (some (.inr (.inl ())))
def class_all_api_Field (v1 : List ApiField) (v2 : Int) : Option (Bool) :=
  (loopP (fun z=>class_all_api_Field_l1 v1 z) 0).bind fun o=>leave o (fun b=>class_all_api_Field_k2 v1 v2) some
theorem class_all_api_Field_ok (v1 : List ApiField) (v2 : Int) {r : Bool} (h : class_all_api_Field v1 v2 = some r) : PureC Tryz.prog 93 [.isl 3 (List.map rApiField v1),iA v2,.fn (.func 94) [] [],.fn (.func 95) [] []] (bA r):=by
 refine pure_fn Tryz.func93 j0 (by kernel_rfl) j0 j0 ?_
 unfold class_all_api_Field at h
 refine rg j0<|u<|bx 0 1 j0 j0 j0 j0<|u<|asg j0<|r_nil ?_
 refine sw_seq ?_
 refine rg j0<|u<|mv j0<|u<|lnI ti39 j0 j0<|u<|mv j0<|r_nil ?_
 obtain ⟨o,ho,h⟩:=bs h
 refine sw_lpl (X:=Int) (B:=Unit) (R:=Bool) (fun z=>[(0,.isl 3 (List.map rApiField v1)),(1,iA v2),(3,.fn (.func 95) [] []),(6,.mpt 0 0 0),(11,.isl 3 (List.map rApiField v1)),(12,iA (List.length v1 : Int)),(13,iA z)]) (fun z=>[some (1,[[.fn (.func 94) [] []]])]) (fun b=>[(0,.isl 3 (List.map rApiField v1)),(1,iA v2)]) (fun b=>[]) (fun r env st=>PostF Tryz.prog Tryz.f93 0 (bA r) [] env st) ho ⟨[.old 0],ce j0 j0<|ce j0 j0<|ce j0 j0<|cv j0 (.mpt j0)<|ce j0 j0<|ce j0 j0<|ce j0 j0<|cn,j0,⟨⟨_,j0,rsOne ⟨ci j0,j5⟩⟩,j5⟩,j0,j1⟩ ?_ ?_ ?_
 ·
  rintro v9 r h
  replace h : class_all_api_Field_l1 v1 v9 = some r:=h
  unfold class_all_api_Field_l1 at h
  refine rg j0<|u<|lss ti3 j0 j0<|r_nil ?_
  refine sw_seq ?_
  refine sw_cond j0 (fun hc9=>?_) (fun hc9=>?_)
  ·
   replace h:=bT hc9 h
   refine sw_skip ?_
   refine sw_seq ?_
   refine sw_block ?_
   obtain ⟨v10,q10,h⟩:=bs h
   refine rg j0<|u<|mv j0<|u<|ixI ti39 j0 ti57 j0 j0 j0 q10<|u<|ldI ti57 j0 (idx_some q10).2.2 j0<|u<|al 1 ti57 j0<|u<|asg j0<|u<|sto ti57 j0 j0 j0<|r_nil ?_
   obtain ⟨v11,q11,h⟩:=bs h
   obtain ⟨v14,q15,h⟩:=bs h
   refine rg j0<|u<|mv j0<|u<|ld ti57 j0 j0<|u<|pc (class_May_2_ok v10 q11) j0 j0 j0<|u<|nt j0<|u<|mv j0<|r_or (x:=v14) (j:=4) 5 j0 j0 j0 j0 j0 gpn (fun hb12=>by replace q15:=bF hb12 q15; obtain ⟨v12,q13,q15⟩:=bs q15; obtain ⟨v13,q14,q15⟩:=bs q15; obtain rfl:=sm q15; exact g j0 hb12<|mv j0<|g j0 hb12<|mv j0<|g j0 hb12<|slI (a:=0) (b:=v9) ti39 j0 ti57 j0 j0 j0 (bnd_hi j0 q13) q13<|g j0 hb12<|mf j0 j0<|g j0 hb12<|pcs (slices_ContainsFunc_api_Field_api_Field_ok v12 v10.Name v10.Type_ v10.Static q14) j0 j0 (.cons (si j0) (.cons (sealFn j5 ⟨(sealBox j0 ⟨(si j0),j5⟩),(sealBox j0 ⟨(si j0),(si j0),(si j0),j5⟩),j5⟩) .nil)) plainB<|r_nil (eg [23,24,25,26,27] 5 j0 j0 j0 j0)) (fun hb=>(sm (bT hb q15)).symm)<|r_nil ?_
   refine sw_cond j0 (fun hc16=>?_) (fun hc16=>?_)
   ·
    replace h:=bT hc16 h
    refine rg j0<|u<|asg j0<|r_nil ?_
    refine sw_ret ?_
    obtain rfl:=sm h
    exact ⟨_,j0,_,j0,[],ci j0,j0,j5,j0,j1⟩
   ·
    replace h:=bF hc16 h
    refine sw_skip ?_
    refine rl j0<|u<|add ti3 j0 j0<|u<|mv j0<|r_nil ?_
    obtain rfl:=sm h
    exact ⟨_,j0,[.old 0],ce j0 j0<|ce j0 j0<|ce j0 j0<|cv j0 (.mpt j0)<|ce j0 j0<|ce j0 j0<|ce j0 j0<|cn,j0,⟨⟨_,j0,rsOne ⟨ci j0,j5⟩⟩,j5⟩,j0,j1⟩
  ·
   replace h:=bF hc9 h
   refine sw_exit ?_
   obtain rfl:=sm h
   exact ⟨j0,_,j0,[],ce j0 j0<|ce j0 j0<|cn,j0,j5,j0,j1⟩
 ·
  rintro ⟨⟩ rfl
  replace h : class_all_api_Field_k2 v1 v2 = some r:=h
  unfold class_all_api_Field_k2 at h
  refine ow_intro ?_
  refine rg j0<|u<|mv j0<|u<|lnI ti39 j0 j0<|u<|mv j0<|u<|leq ti3 j0 j0<|u<|asg j0<|r_nil ?_
  refine sw_ret ?_
  obtain rfl:=sm h
  exact ⟨_,j0,[],ci j0,j0,j5,j0,j1⟩
 ·
  rintro r' rfl env st hp
  obtain rfl:=sm h
  exact hp
def class_types_1 (v1 : List UInt8) : Option (Bool) :=
  (kind_May v1).bind fun v2=>some (!v2)
theorem class_types_1_ok (v1 : List UInt8) {r : Bool} (h : class_types_1 v1 = some r) : PureC Tryz.prog 182 [sA v1,.ipt 1 [[.fn (.func 97) [] []]] 0 0] (bA r):=by
 refine pure_fn Tryz.func182 j0 (by kernel_rfl) j0 j0 ?_
 unfold class_types_1 at h
 refine rg j0<|u<|asg j0<|r_nil ?_
 obtain ⟨v2,q1,h⟩:=bs h
 refine rg j0<|u<|ld ti77 j0 j0<|u<|mv j0<|u<|pc (kind_May_ok v1 q1) j0 j0 j0<|u<|nt j0<|u<|asg j0<|r_nil ?_
 refine sw_ret ?_
 obtain rfl:=sm h
 exact ⟨_,j0,[],ci j0,j0,j5,j0,j1⟩
def slices_IndexFunc_string_string_k2 : Option (Int) :=
  some (-1)
def slices_IndexFunc_string_string_l1 (v1 : List (List UInt8)) (v5 : Int) : Option (Sum (Int) (Sum (Unit) (Int))) :=
  cond (decide (v5 < (List.length v1 : Int))) ((idx v1 v5).bind fun v6=>(class_types_1 v6).bind fun v7=>cond v7 (some (.inr (.inr v5))) (some (.inl (IntKind.i64.wrap (v5 + 1))))) (some (.inr (.inl ())))
def slices_IndexFunc_string_string (v1 : List (List UInt8)) : Option (Int) :=
  (loopP (fun z=>slices_IndexFunc_string_string_l1 v1 z) 0).bind fun o=>leave o (fun b=>slices_IndexFunc_string_string_k2) some
theorem slices_IndexFunc_string_string_ok (v1 : List (List UInt8)) {r : Int} (h : slices_IndexFunc_string_string v1 = some r) : PureC Tryz.prog 105 [.isl 1 (List.map rStr v1),.fn (.func 182) [] [.ipt 1 [[.fn (.func 97) [] []]] 0 0]] (iA r):=by
 refine pure_fn Tryz.func105 j0 (by kernel_rfl) j0 j0 ?_
 unfold slices_IndexFunc_string_string at h
 refine rg j0<|u<|asg j0<|r_nil ?_
 refine sw_seq ?_
 refine rg j0<|u<|mv j0<|u<|lnI ti32 j0 j0<|u<|mv j0<|r_nil ?_
 obtain ⟨o,ho,h⟩:=bs h
 refine sw_lpl (X:=Int) (B:=Unit) (R:=Int) (fun z=>[(0,.isl 1 (List.map rStr v1)),(1,.fn (.func 182) [] [.ipt 1 [[.fn (.func 97) [] []]] 0 0]),(7,iA (List.length v1 : Int)),(8,iA z)]) (fun z=>[]) (fun b=>[]) (fun b=>[]) (fun r env st=>PostF Tryz.prog Tryz.f105 0 (iA r) [] env st) ho ⟨[],ce j0 j0<|ce j0 j0<|ce j0 j0<|ce j0 j0<|cn,j0,j5,j0,j1⟩ ?_ ?_ ?_
 ·
  rintro v5 r h
  replace h : slices_IndexFunc_string_string_l1 v1 v5 = some r:=h
  unfold slices_IndexFunc_string_string_l1 at h
  refine rg j0<|u<|lss ti3 j0 j0<|r_nil ?_
  refine sw_seq ?_
  refine sw_cond j0 (fun hc5=>?_) (fun hc5=>?_)
  ·
   replace h:=bT hc5 h
   refine sw_skip ?_
   refine sw_seq ?_
   refine sw_block ?_
   refine rg j0<|u<|mv j0<|u<|asg j0<|r_nil ?_
   obtain ⟨v6,q6,h⟩:=bs h
   obtain ⟨v7,q7,h⟩:=bs h
   refine rg j0<|u<|mv j0<|u<|mv j0<|u<|mv j0<|u<|ixI ti32 j0 ti9 j0 j0 j0 q6<|u<|ldI ti9 j0 (idx_some q6).2.2 j0<|u<|pc (class_types_1_ok v6 q7) j0 j0 j0<|r_nil ?_
   refine sw_cond j0 (fun hc8=>?_) (fun hc8=>?_)
   ·
    replace h:=bT hc8 h
    refine rg j0<|u<|mv j0<|u<|asg j0<|r_nil ?_
    refine sw_ret ?_
    obtain rfl:=sm h
    exact ⟨_,j0,_,j0,[],ci j0,j0,j5,j0,j1⟩
   ·
    replace h:=bF hc8 h
    refine sw_skip ?_
    refine rl j0<|u<|add ti3 j0 j0<|u<|mv j0<|r_nil ?_
    obtain rfl:=sm h
    exact ⟨_,j0,[],ce j0 j0<|ce j0 j0<|ce j0 j0<|ce j0 j0<|cn,j0,j5,j0,j1⟩
  ·
   replace h:=bF hc5 h
   refine sw_exit ?_
   obtain rfl:=sm h
   exact ⟨j0,_,j0,[],cn,j0,j5,j0,j1⟩
 ·
  rintro ⟨⟩ rfl
  replace h : slices_IndexFunc_string_string_k2 = some r:=h
  unfold slices_IndexFunc_string_string_k2 at h
  refine ow_intro ?_
  refine rg j0<|u<|asg j0<|r_nil ?_
  refine sw_ret ?_
  obtain rfl:=sm h
  exact ⟨_,j0,[],ci j0,j0,j5,j0,j1⟩
 ·
  rintro r' rfl env st hp
  obtain rfl:=sm h
  exact hp
def slices_ContainsFunc_string_string (v1 : List (List UInt8)) : Option (Bool) :=
  (slices_IndexFunc_string_string v1).bind fun v2=>some (decide (0 ≤ v2))
theorem slices_ContainsFunc_string_string_ok (v1 : List (List UInt8)) {r : Bool} (h : slices_ContainsFunc_string_string v1 = some r) : PureC Tryz.prog 59 [.isl 1 (List.map rStr v1),.fn (.func 182) [] [.ipt 1 [[.fn (.func 97) [] []]] 0 0]] (bA r):=by
 refine pure_fn Tryz.func59 j0 (by kernel_rfl) j0 j0 ?_
 unfold slices_ContainsFunc_string_string at h
 refine rg j0<|u<|asg j0<|r_nil ?_
 obtain ⟨v2,q1,h⟩:=bs h
 refine rg j0<|u<|mv j0<|u<|mv j0<|u<|pc (slices_IndexFunc_string_string_ok v1 q1) j0 j0 j0<|u<|geq ti3 j0 j0<|u<|asg j0<|r_nil ?_
 refine sw_ret ?_
 obtain rfl:=sm h
 exact ⟨_,j0,[],ci j0,j0,j5,j0,j1⟩
def class_types (v1 : List (List UInt8)) : Option (Bool) :=
  (slices_ContainsFunc_string_string v1).bind fun v2=>some (!v2)
theorem class_types_ok (v1 : List (List UInt8)) {r : Bool} (h : class_types v1 = some r) : PureC Tryz.prog 129 [.isl 1 (List.map rStr v1),.fn (.func 97) [] []] (bA r):=by
 refine pure_fn Tryz.func129 j0 (by kernel_rfl) j0 j0 ?_
 unfold class_types at h
 refine rg j0<|u<|bx 0 1 j0 j0 j0 j0<|u<|asg j0<|r_nil ?_
 obtain ⟨v2,q1,h⟩:=bs h
 refine rg j0<|u<|mv j0<|u<|mf j0 j0<|u<|pcs (slices_ContainsFunc_string_string_ok v1 q1) j0 j0 (.cons (si j0) (.cons (sealFn j5 ⟨(sealBox j0 ⟨(si j0),j5⟩),j5⟩) .nil)) plainB<|u<|nt j0<|u<|asg j0<|r_nil ?_
 refine sw_ret ?_
 obtain rfl:=sm h
 exact ⟨_,j0,[],ci j0,j0,j5,j0,j1⟩
def kind_Ret (v1 : List UInt8) : Option (Bool) :=
  (cond (v1 == [86]) (some true) ((kind_May v1).bind fun v2=>some v2)).bind fun v3=>some v3
theorem kind_Ret_ok (v1 : List UInt8) {r : Bool} (h : kind_Ret v1 = some r) : PureC Tryz.prog 130 [sA v1] (bA r):=by
 refine pure_fn Tryz.func130 j0 (by kernel_rfl) j0 j0 ?_
 unfold kind_Ret at h
 refine rg j0<|u<|asg j0<|r_nil ?_
 obtain ⟨v3,q3,h⟩:=bs h
 refine rg j0<|u<|mv j0<|u<|seq ti9 j0 j0<|u<|mv j0<|r_or (x:=v3) (j:=2) 2 j0 j0 j0 j0 j0 gpn (fun hb1=>by replace q3:=bF hb1 q3; obtain ⟨v2,q2,q3⟩:=bs q3; obtain rfl:=sm q3; exact g j0 hb1<|mv j0<|g j0 hb1<|pc (kind_May_ok v1 q2) j0 j0 j0<|r_nil (eg [6,7] 2 j0 j0 j0 j0)) (fun hb=>(sm (bT hb q3)).symm)<|u<|asg j0<|r_nil ?_
 refine sw_ret ?_
 obtain rfl:=sm h
 exact ⟨_,j0,[],ci j0,j0,j5,j0,j1⟩
def class_empty (v1 : ApiMethod) : Bool :=
  (((((!v1.Static) && (!(v1.Name == [36,105,110,105,116]))) && (v1.Locals == (0 : Int))) && (v1.Stack == (0 : Int))) && ((IntKind.i64.wrap ((IntKind.i64.wrap ((List.length v1.Code : Int) + (List.length v1.Maps : Int))) + (List.length v1.Traps : Int))) == (0 : Int)))
theorem class_empty_ok (v1 : ApiMethod) {r : Bool} (h : class_empty v1 = r) : PureC Tryz.prog 131 [.agg [sA v1.Name,.isl 1 (List.map rStr v1.Params),sA v1.Ret,bA v1.Static,bA v1.Abstract,iA v1.Locals,iA v1.Stack,.isl 4 (List.map rApiIns v1.Code),.isl 3 (List.map rApiMap v1.Maps),.isl 4 (List.map rApiTrap v1.Traps)]] (bA r):=by
 refine pure_fn Tryz.func131 j0 (by kernel_rfl) j0 j0 ?_
 unfold class_empty at h
 refine rg j0<|u<|bx 0 10 j0 j0 j0 j0<|u<|asg j0<|r_nil ?_
 refine rg j0<|u<|fa ti62 j0 j0 j0<|u<|ld ti4 j0 j0<|u<|nt j0<|u<|mv j0<|r_and (j:=3) 3 j0 j0 j0 j0 j0 gpn (fun hb1=>g j0 hb1<|fa ti62 j0 j0 j0<|g j0 hb1<|ld ti9 j0 j0<|g j0 hb1<|sne ti9 j0 j0<|r_nil (egA [7,8,9] 3 hb1 j0 j0 j0 j0)) andF<|u<|mv j0<|r_and (j:=8) 3 j0 j0 j0 j0 j0 gpn (fun hb2=>g j0 hb2<|fa ti62 j0 j0 j0<|g j0 hb2<|ld ti3 j0 j0<|g j0 hb2<|eql ti3 j0 j0<|r_nil (egA [12,13,14] 3 hb2 j0 j0 j0 j0)) andF<|u<|mv j0<|r_and (j:=13) 3 j0 j0 j0 j0 j0 gpn (fun hb3=>g j0 hb3<|fa ti62 j0 j0 j0<|g j0 hb3<|ld ti3 j0 j0<|g j0 hb3<|eql ti3 j0 j0<|r_nil (egA [17,18,19] 3 hb3 j0 j0 j0 j0)) andF<|u<|mv j0<|r_and (j:=18) 12 j0 j0 j0 j0 j0 gpn (fun hb4=>g j0 hb4<|fa ti62 j0 j0 j0<|g j0 hb4<|ld ti58 j0 j0<|g j0 hb4<|lnI ti58 j0 j0<|g j0 hb4<|fa ti62 j0 j0 j0<|g j0 hb4<|ld ti59 j0 j0<|g j0 hb4<|lnI ti59 j0 j0<|g j0 hb4<|add ti3 j0 j0<|g j0 hb4<|fa ti62 j0 j0 j0<|g j0 hb4<|ld ti60 j0 j0<|g j0 hb4<|lnI ti60 j0 j0<|g j0 hb4<|add ti3 j0 j0<|g j0 hb4<|eql ti3 j0 j0<|r_nil (egA [22,23,24,25,26,27,28,29,30,31,32,33] 12 hb4 j0 j0 j0 j0)) andF<|u<|asg j0<|r_nil ?_
 refine sw_ret ?_
 obtain rfl:=h
 exact ⟨_,j0,[],ci j0,j0,j5,j0,j1⟩
def class_args (v1 : ApiMethod) : Int :=
  cond v1.Static ((List.length v1.Params : Int)) ((IntKind.i64.wrap ((List.length v1.Params : Int) + 1)))
theorem class_args_ok (v1 : ApiMethod) {r : Int} (h : class_args v1 = r) : PureC Tryz.prog 133 [.agg [sA v1.Name,.isl 1 (List.map rStr v1.Params),sA v1.Ret,bA v1.Static,bA v1.Abstract,iA v1.Locals,iA v1.Stack,.isl 4 (List.map rApiIns v1.Code),.isl 3 (List.map rApiMap v1.Maps),.isl 4 (List.map rApiTrap v1.Traps)]] (iA r):=by
 refine pure_fn Tryz.func133 j0 (by kernel_rfl) j0 j0 ?_
 unfold class_args at h
 refine rg j0<|u<|bx 0 10 j0 j0 j0 j0<|u<|asg j0<|r_nil ?_
 refine sw_seq ?_
 refine rg j0<|u<|fa ti62 j0 j0 j0<|u<|ld ti4 j0 j0<|r_nil ?_
 refine sw_cond j0 (fun hc1=>?_) (fun hc1=>?_)
 ·
  replace h:=bT hc1 h
  refine rg j0<|u<|fa ti62 j0 j0 j0<|u<|ld ti32 j0 j0<|u<|lnI ti32 j0 j0<|u<|asg j0<|r_nil ?_
  refine sw_ret ?_
  obtain rfl:=h
  exact ⟨_,j0,[],ci j0,j0,j5,j0,j1⟩
 ·
  replace h:=bF hc1 h
  refine sw_skip ?_
  refine rg j0<|u<|fa ti62 j0 j0 j0<|u<|ld ti32 j0 j0<|u<|lnI ti32 j0 j0<|u<|add ti3 j0 j0<|u<|asg j0<|r_nil ?_
  refine sw_ret ?_
  obtain rfl:=h
  exact ⟨_,j0,[],ci j0,j0,j5,j0,j1⟩
def class_between (v1 : Int) (v2 : Int) (v3 : Int) : Bool :=
  ((decide (v2 ≤ v1)) && (decide (v1 ≤ v3)))
theorem class_between_ok (v1 : Int) (v2 : Int) (v3 : Int) {r : Bool} (h : class_between v1 v2 v3 = r) : PureC Tryz.prog 132 [iA v1,iA v2,iA v3] (bA r):=by
 refine pure_fn Tryz.func132 j0 (by kernel_rfl) j0 j0 ?_
 unfold class_between at h
 refine rg j0<|u<|asg j0<|r_nil ?_
 refine rg j0<|u<|mv j0<|u<|mv j0<|u<|geq ti3 j0 j0<|u<|mv j0<|r_and (j:=3) 3 j0 j0 j0 j0 j0 gpn (fun hb1=>g j0 hb1<|mv j0<|g j0 hb1<|mv j0<|g j0 hb1<|leq ti3 j0 j0<|r_nil (egA [11,12,13] 3 hb1 j0 j0 j0 j0)) andF<|u<|asg j0<|r_nil ?_
 refine sw_ret ?_
 obtain rfl:=h
 exact ⟨_,j0,[],ci j0,j0,j5,j0,j1⟩
def class_instructions_1 (v1 : ApiIns) (v2 : Int) : Option (Bool) :=
  (op_May v1).bind fun v3=>some ((!v3) || ((op_Jumps v1.Op) && (decide (v2 ≤ v1.A))))
theorem class_instructions_1_ok (v1 : ApiIns) (v2 : Int) {r : Bool} (h : class_instructions_1 v1 v2 = some r) : PureC Tryz.prog 185 [.agg [iA v1.Op,iA v1.A,sA v1.C,sA v1.M],.ipt 1 [[iA v2]] 0 0] (bA r):=by
 refine pure_fn Tryz.func185 j0 (by kernel_rfl) j0 j0 ?_
 unfold class_instructions_1 at h
 refine rg j0<|u<|bx 0 4 j0 j0 j0 j0<|u<|asg j0<|r_nil ?_
 obtain ⟨v3,q1,h⟩:=bs h
 refine rg j0<|u<|ld ti66 j0 j0<|u<|pc (op_May_ok v1 q1) j0 j0 j0<|u<|nt j0<|u<|mv j0<|r_or (j:=3) 9 j0 j0 j0 j0 j0 gpn (fun hb2=>g j0 hb2<|fa ti66 j0 j0 j0<|g j0 hb2<|ld ti3 j0 j0<|g j0 hb2<|pc (op_Jumps_ok v1.Op j0) j0 j0 j0<|g j0 hb2<|mv j0<|r_and (j:=7) 4 j0 j0 j0 j0 j0 (gps j0 j0 hb2) (fun hb3=>g j0 hb3<|fa ti66 j0 j0 j0<|g j0 hb3<|ld ti3 j0 j0<|g j0 hb3<|ld ti3 j0 j0<|g j0 hb3<|geq ti3 j0 j0<|r_nil (egA [12,13,14,15] 4 hb3 j0 j0 j0 j0)) andF<|r_nil (egO [8,9,10,11,12,13,14,15,16] 5 hb2 j0 j0 j0 j0)) orT<|u<|asg j0<|r_nil ?_
 refine sw_ret ?_
 obtain rfl:=sm h
 exact ⟨_,j0,[],ci j0,j0,j5,j0,j1⟩
def slices_IndexFunc_api_Ins_api_Ins_k2 : Option (Int) :=
  some (-1)
def slices_IndexFunc_api_Ins_api_Ins_l1 (v1 : List ApiIns) (v2 : Int) (v6 : Int) : Option (Sum (Int) (Sum (Unit) (Int))) :=
  cond (decide (v6 < (List.length v1 : Int))) ((idx v1 v6).bind fun v7=>(class_instructions_1 v7 v2).bind fun v8=>cond v8 (some (.inr (.inr v6))) (some (.inl (IntKind.i64.wrap (v6 + 1))))) (some (.inr (.inl ())))
def slices_IndexFunc_api_Ins_api_Ins (v1 : List ApiIns) (v2 : Int) : Option (Int) :=
  (loopP (fun z=>slices_IndexFunc_api_Ins_api_Ins_l1 v1 v2 z) 0).bind fun o=>leave o (fun b=>slices_IndexFunc_api_Ins_api_Ins_k2) some
theorem slices_IndexFunc_api_Ins_api_Ins_ok (v1 : List ApiIns) (v2 : Int) {r : Int} (h : slices_IndexFunc_api_Ins_api_Ins v1 v2 = some r) : PureC Tryz.prog 219 [.isl 4 (List.map rApiIns v1),.fn (.func 185) [] [.ipt 1 [[iA v2]] 0 0]] (iA r):=by
 refine pure_fn Tryz.func219 j0 (by kernel_rfl) j0 j0 ?_
 unfold slices_IndexFunc_api_Ins_api_Ins at h
 refine rg j0<|u<|asg j0<|r_nil ?_
 refine sw_seq ?_
 refine rg j0<|u<|mv j0<|u<|lnI ti58 j0 j0<|u<|mv j0<|r_nil ?_
 obtain ⟨o,ho,h⟩:=bs h
 refine sw_lpl (X:=Int) (B:=Unit) (R:=Int) (fun z=>[(0,.isl 4 (List.map rApiIns v1)),(1,.fn (.func 185) [] [.ipt 1 [[iA v2]] 0 0]),(7,iA (List.length v1 : Int)),(8,iA z)]) (fun z=>[]) (fun b=>[]) (fun b=>[]) (fun r env st=>PostF Tryz.prog Tryz.f219 0 (iA r) [] env st) ho ⟨[],ce j0 j0<|ce j0 j0<|ce j0 j0<|ce j0 j0<|cn,j0,j5,j0,j1⟩ ?_ ?_ ?_
 ·
  rintro v6 r h
  replace h : slices_IndexFunc_api_Ins_api_Ins_l1 v1 v2 v6 = some r:=h
  unfold slices_IndexFunc_api_Ins_api_Ins_l1 at h
  refine rg j0<|u<|lss ti3 j0 j0<|r_nil ?_
  refine sw_seq ?_
  refine sw_cond j0 (fun hc5=>?_) (fun hc5=>?_)
  ·
   replace h:=bT hc5 h
   refine sw_skip ?_
   refine sw_seq ?_
   refine sw_block ?_
   refine rg j0<|u<|mv j0<|u<|asg j0<|r_nil ?_
   obtain ⟨v7,q6,h⟩:=bs h
   obtain ⟨v8,q7,h⟩:=bs h
   refine rg j0<|u<|mv j0<|u<|mv j0<|u<|mv j0<|u<|ixI ti58 j0 ti66 j0 j0 j0 q6<|u<|ldI ti66 j0 (idx_some q6).2.2 j0<|u<|pc (class_instructions_1_ok v7 v2 q7) j0 j0 j0<|r_nil ?_
   refine sw_cond j0 (fun hc8=>?_) (fun hc8=>?_)
   ·
    replace h:=bT hc8 h
    refine rg j0<|u<|mv j0<|u<|asg j0<|r_nil ?_
    refine sw_ret ?_
    obtain rfl:=sm h
    exact ⟨_,j0,_,j0,[],ci j0,j0,j5,j0,j1⟩
   ·
    replace h:=bF hc8 h
    refine sw_skip ?_
    refine rl j0<|u<|add ti3 j0 j0<|u<|mv j0<|r_nil ?_
    obtain rfl:=sm h
    exact ⟨_,j0,[],ce j0 j0<|ce j0 j0<|ce j0 j0<|ce j0 j0<|cn,j0,j5,j0,j1⟩
  ·
   replace h:=bF hc5 h
   refine sw_exit ?_
   obtain rfl:=sm h
   exact ⟨j0,_,j0,[],cn,j0,j5,j0,j1⟩
 ·
  rintro ⟨⟩ rfl
  replace h : slices_IndexFunc_api_Ins_api_Ins_k2 = some r:=h
  unfold slices_IndexFunc_api_Ins_api_Ins_k2 at h
  refine ow_intro ?_
  refine rg j0<|u<|asg j0<|r_nil ?_
  refine sw_ret ?_
  obtain rfl:=sm h
  exact ⟨_,j0,[],ci j0,j0,j5,j0,j1⟩
 ·
  rintro r' rfl env st hp
  obtain rfl:=sm h
  exact hp
def slices_ContainsFunc_api_Ins_api_Ins (v1 : List ApiIns) (v2 : Int) : Option (Bool) :=
  (slices_IndexFunc_api_Ins_api_Ins v1 v2).bind fun v3=>some (decide (0 ≤ v3))
theorem slices_ContainsFunc_api_Ins_api_Ins_ok (v1 : List ApiIns) (v2 : Int) {r : Bool} (h : slices_ContainsFunc_api_Ins_api_Ins v1 v2 = some r) : PureC Tryz.prog 184 [.isl 4 (List.map rApiIns v1),.fn (.func 185) [] [.ipt 1 [[iA v2]] 0 0]] (bA r):=by
 refine pure_fn Tryz.func184 j0 (by kernel_rfl) j0 j0 ?_
 unfold slices_ContainsFunc_api_Ins_api_Ins at h
 refine rg j0<|u<|asg j0<|r_nil ?_
 obtain ⟨v3,q1,h⟩:=bs h
 refine rg j0<|u<|mv j0<|u<|mv j0<|u<|pc (slices_IndexFunc_api_Ins_api_Ins_ok v1 v2 q1) j0 j0 j0<|u<|geq ti3 j0 j0<|u<|asg j0<|r_nil ?_
 refine sw_ret ?_
 obtain rfl:=sm h
 exact ⟨_,j0,[],ci j0,j0,j5,j0,j1⟩
def class_instructions (v1 : ApiMethod) : Option (Bool) :=
  (cond (!(class_between (List.length v1.Code : Int) 1 100)) (some true) ((idx v1.Code (IntKind.i64.wrap ((List.length v1.Code : Int) - 1))).bind fun v2=>some (!(op_Ends v2.Op)))).bind fun v3=>cond v3 (some false) ((slices_ContainsFunc_api_Ins_api_Ins v1.Code (List.length v1.Code : Int)).bind fun v4=>some (!v4))
theorem class_instructions_ok (v1 : ApiMethod) {r : Bool} (h : class_instructions v1 = some r) : PureC Tryz.prog 134 [.agg [sA v1.Name,.isl 1 (List.map rStr v1.Params),sA v1.Ret,bA v1.Static,bA v1.Abstract,iA v1.Locals,iA v1.Stack,.isl 4 (List.map rApiIns v1.Code),.isl 3 (List.map rApiMap v1.Maps),.isl 4 (List.map rApiTrap v1.Traps)]] (bA r):=by
 refine pure_fn Tryz.func134 j0 (by kernel_rfl) j0 j0 ?_
 unfold class_instructions at h
 refine rg j0<|u<|bx 0 10 j0 j0 j0 j0<|u<|asg j0<|r_nil ?_
 refine rg j0<|u<|fa ti62 j0 j0 j0<|u<|ld ti58 j0 j0<|u<|lnI ti58 j0 j0<|u<|al 1 ti3 j0<|u<|sto ti3 j0 j0 j0<|r_nil ?_
 refine sw_seq ?_
 obtain ⟨v3,q3,h⟩:=bs h
 refine rg j0<|u<|ld ti3 j0 j0<|u<|pc (class_between_ok (List.length v1.Code : Int) 1 100 j0) j0 j0 j0<|u<|nt j0<|u<|mv j0<|r_or (x:=v3) (j:=3) 9 j0 j0 j0 j0 j0 gpn (fun hb1=>by replace q3:=bF hb1 q3; obtain ⟨v2,q2,q3⟩:=bs q3; obtain rfl:=sm q3; exact g j0 hb1<|fa ti62 j0 j0 j0<|g j0 hb1<|ld ti58 j0 j0<|g j0 hb1<|ld ti3 j0 j0<|g j0 hb1<|sub ti3 j0 j0<|g j0 hb1<|ixI ti58 j0 ti66 j0 j0 j0 q2<|g j0 hb1<|fa ti66 j0 j0 j0<|g j0 hb1<|ldI ti3 j0 (idx_some q2).2.2 j0<|g j0 hb1<|pc (op_Ends_ok v2.Op j0) j0 j0 j0<|g j0 hb1<|nt j0<|r_nil (eg [11,12,13,14,15,16,17,18,19] 9 j0 j0 j0 j0)) (fun hb=>(sm (bT hb q3)).symm)<|r_nil ?_
 refine sw_cond j0 (fun hc4=>?_) (fun hc4=>?_)
 ·
  replace h:=bT hc4 h
  refine rg j0<|u<|asg j0<|r_nil ?_
  refine sw_ret ?_
  obtain rfl:=sm h
  exact ⟨_,j0,[],ci j0,j0,j5,j0,j1⟩
 ·
  replace h:=bF hc4 h
  refine sw_skip ?_
  obtain ⟨v4,q5,h⟩:=bs h
  refine rg j0<|u<|fa ti62 j0 j0 j0<|u<|ld ti58 j0 j0<|u<|mf j0 j0<|u<|pcs (slices_ContainsFunc_api_Ins_api_Ins_ok v1.Code (List.length v1.Code : Int) q5) j0 j0 (.cons (si j0) (.cons (sealFn j5 ⟨(sealBox j0 ⟨(si j0),j5⟩),j5⟩) .nil)) plainB<|u<|nt j0<|u<|asg j0<|r_nil ?_
  refine sw_ret ?_
  obtain rfl:=sm h
  exact ⟨_,j0,[],ci j0,j0,j5,j0,j1⟩
def class_slot (v1 : List UInt8) : Option (Bool) :=
  (cond (((v1 == [73]) || (v1 == [78])) || (v1 == [84])) (some true) ((kind_Ref v1).bind fun v2=>some v2)).bind fun v3=>some v3
theorem class_slot_ok (v1 : List UInt8) {r : Bool} (h : class_slot v1 = some r) : PureC Tryz.prog 188 [sA v1] (bA r):=by
 refine pure_fn Tryz.func188 j0 (by kernel_rfl) j0 j0 ?_
 unfold class_slot at h
 refine rg j0<|u<|asg j0<|r_nil ?_
 obtain ⟨v3,q5,h⟩:=bs h
 refine rg j0<|u<|mv j0<|u<|seq ti9 j0 j0<|u<|mv j0<|r_or (j:=2) 2 j0 j0 j0 j0 j0 gpn (fun hb1=>g j0 hb1<|mv j0<|g j0 hb1<|seq ti9 j0 j0<|r_nil (egO [6,7] 2 hb1 j0 j0 j0 j0)) orT<|u<|mv j0<|r_or (j:=6) 2 j0 j0 j0 j0 j0 gpn (fun hb2=>g j0 hb2<|mv j0<|g j0 hb2<|seq ti9 j0 j0<|r_nil (egO [10,11] 2 hb2 j0 j0 j0 j0)) orT<|u<|mv j0<|r_or (x:=v3) (j:=10) 2 j0 j0 j0 j0 j0 gpn (fun hb3=>by replace q5:=bF hb3 q5; obtain ⟨v2,q4,q5⟩:=bs q5; obtain rfl:=sm q5; exact g j0 hb3<|mv j0<|g j0 hb3<|pc (kind_Ref_ok v1 q4) j0 j0 j0<|r_nil (eg [14,15] 2 j0 j0 j0 j0)) (fun hb=>(sm (bT hb q5)).symm)<|u<|asg j0<|r_nil ?_
 refine sw_ret ?_
 obtain rfl:=sm h
 exact ⟨_,j0,[],ci j0,j0,j5,j0,j1⟩
def class_types_1_s2 (v1 : List UInt8) : Option (Bool) :=
  (class_slot v1).bind fun v2=>some (!v2)
theorem class_types_1_s2_ok (v1 : List UInt8) {r : Bool} (h : class_types_1_s2 v1 = some r) : PureC Tryz.prog 182 [sA v1,.ipt 1 [[.fn (.func 188) [] []]] 0 0] (bA r):=by
 refine pure_fn Tryz.func182 j0 (by kernel_rfl) j0 j0 ?_
 unfold class_types_1_s2 at h
 refine rg j0<|u<|asg j0<|r_nil ?_
 obtain ⟨v2,q1,h⟩:=bs h
 refine rg j0<|u<|ld ti77 j0 j0<|u<|mv j0<|u<|pc (class_slot_ok v1 q1) j0 j0 j0<|u<|nt j0<|u<|asg j0<|r_nil ?_
 refine sw_ret ?_
 obtain rfl:=sm h
 exact ⟨_,j0,[],ci j0,j0,j5,j0,j1⟩
def slices_IndexFunc_string_string_s2_k2 : Option (Int) :=
  some (-1)
def slices_IndexFunc_string_string_s2_l1 (v1 : List (List UInt8)) (v5 : Int) : Option (Sum (Int) (Sum (Unit) (Int))) :=
  cond (decide (v5 < (List.length v1 : Int))) ((idx v1 v5).bind fun v6=>(class_types_1_s2 v6).bind fun v7=>cond v7 (some (.inr (.inr v5))) (some (.inl (IntKind.i64.wrap (v5 + 1))))) (some (.inr (.inl ())))
def slices_IndexFunc_string_string_s2 (v1 : List (List UInt8)) : Option (Int) :=
  (loopP (fun z=>slices_IndexFunc_string_string_s2_l1 v1 z) 0).bind fun o=>leave o (fun b=>slices_IndexFunc_string_string_s2_k2) some
theorem slices_IndexFunc_string_string_s2_ok (v1 : List (List UInt8)) {r : Int} (h : slices_IndexFunc_string_string_s2 v1 = some r) : PureC Tryz.prog 105 [.isl 1 (List.map rStr v1),.fn (.func 182) [] [.ipt 1 [[.fn (.func 188) [] []]] 0 0]] (iA r):=by
 refine pure_fn Tryz.func105 j0 (by kernel_rfl) j0 j0 ?_
 unfold slices_IndexFunc_string_string_s2 at h
 refine rg j0<|u<|asg j0<|r_nil ?_
 refine sw_seq ?_
 refine rg j0<|u<|mv j0<|u<|lnI ti32 j0 j0<|u<|mv j0<|r_nil ?_
 obtain ⟨o,ho,h⟩:=bs h
 refine sw_lpl (X:=Int) (B:=Unit) (R:=Int) (fun z=>[(0,.isl 1 (List.map rStr v1)),(1,.fn (.func 182) [] [.ipt 1 [[.fn (.func 188) [] []]] 0 0]),(7,iA (List.length v1 : Int)),(8,iA z)]) (fun z=>[]) (fun b=>[]) (fun b=>[]) (fun r env st=>PostF Tryz.prog Tryz.f105 0 (iA r) [] env st) ho ⟨[],ce j0 j0<|ce j0 j0<|ce j0 j0<|ce j0 j0<|cn,j0,j5,j0,j1⟩ ?_ ?_ ?_
 ·
  rintro v5 r h
  replace h : slices_IndexFunc_string_string_s2_l1 v1 v5 = some r:=h
  unfold slices_IndexFunc_string_string_s2_l1 at h
  refine rg j0<|u<|lss ti3 j0 j0<|r_nil ?_
  refine sw_seq ?_
  refine sw_cond j0 (fun hc5=>?_) (fun hc5=>?_)
  ·
   replace h:=bT hc5 h
   refine sw_skip ?_
   refine sw_seq ?_
   refine sw_block ?_
   refine rg j0<|u<|mv j0<|u<|asg j0<|r_nil ?_
   obtain ⟨v6,q6,h⟩:=bs h
   obtain ⟨v7,q7,h⟩:=bs h
   refine rg j0<|u<|mv j0<|u<|mv j0<|u<|mv j0<|u<|ixI ti32 j0 ti9 j0 j0 j0 q6<|u<|ldI ti9 j0 (idx_some q6).2.2 j0<|u<|pc (class_types_1_s2_ok v6 q7) j0 j0 j0<|r_nil ?_
   refine sw_cond j0 (fun hc8=>?_) (fun hc8=>?_)
   ·
    replace h:=bT hc8 h
    refine rg j0<|u<|mv j0<|u<|asg j0<|r_nil ?_
    refine sw_ret ?_
    obtain rfl:=sm h
    exact ⟨_,j0,_,j0,[],ci j0,j0,j5,j0,j1⟩
   ·
    replace h:=bF hc8 h
    refine sw_skip ?_
    refine rl j0<|u<|add ti3 j0 j0<|u<|mv j0<|r_nil ?_
    obtain rfl:=sm h
    exact ⟨_,j0,[],ce j0 j0<|ce j0 j0<|ce j0 j0<|ce j0 j0<|cn,j0,j5,j0,j1⟩
  ·
   replace h:=bF hc5 h
   refine sw_exit ?_
   obtain rfl:=sm h
   exact ⟨j0,_,j0,[],cn,j0,j5,j0,j1⟩
 ·
  rintro ⟨⟩ rfl
  replace h : slices_IndexFunc_string_string_s2_k2 = some r:=h
  unfold slices_IndexFunc_string_string_s2_k2 at h
  refine ow_intro ?_
  refine rg j0<|u<|asg j0<|r_nil ?_
  refine sw_ret ?_
  obtain rfl:=sm h
  exact ⟨_,j0,[],ci j0,j0,j5,j0,j1⟩
 ·
  rintro r' rfl env st hp
  obtain rfl:=sm h
  exact hp
def slices_ContainsFunc_string_string_s2 (v1 : List (List UInt8)) : Option (Bool) :=
  (slices_IndexFunc_string_string_s2 v1).bind fun v2=>some (decide (0 ≤ v2))
theorem slices_ContainsFunc_string_string_s2_ok (v1 : List (List UInt8)) {r : Bool} (h : slices_ContainsFunc_string_string_s2 v1 = some r) : PureC Tryz.prog 59 [.isl 1 (List.map rStr v1),.fn (.func 182) [] [.ipt 1 [[.fn (.func 188) [] []]] 0 0]] (bA r):=by
 refine pure_fn Tryz.func59 j0 (by kernel_rfl) j0 j0 ?_
 unfold slices_ContainsFunc_string_string_s2 at h
 refine rg j0<|u<|asg j0<|r_nil ?_
 obtain ⟨v2,q1,h⟩:=bs h
 refine rg j0<|u<|mv j0<|u<|mv j0<|u<|pc (slices_IndexFunc_string_string_s2_ok v1 q1) j0 j0 j0<|u<|geq ti3 j0 j0<|u<|asg j0<|r_nil ?_
 refine sw_ret ?_
 obtain rfl:=sm h
 exact ⟨_,j0,[],ci j0,j0,j5,j0,j1⟩
def class_types_s2 (v1 : List (List UInt8)) : Option (Bool) :=
  (slices_ContainsFunc_string_string_s2 v1).bind fun v2=>some (!v2)
theorem class_types_s2_ok (v1 : List (List UInt8)) {r : Bool} (h : class_types_s2 v1 = some r) : PureC Tryz.prog 129 [.isl 1 (List.map rStr v1),.fn (.func 188) [] []] (bA r):=by
 refine pure_fn Tryz.func129 j0 (by kernel_rfl) j0 j0 ?_
 unfold class_types_s2 at h
 refine rg j0<|u<|bx 0 1 j0 j0 j0 j0<|u<|asg j0<|r_nil ?_
 obtain ⟨v2,q1,h⟩:=bs h
 refine rg j0<|u<|mv j0<|u<|mf j0 j0<|u<|pcs (slices_ContainsFunc_string_string_s2_ok v1 q1) j0 j0 (.cons (si j0) (.cons (sealFn j5 ⟨(sealBox j0 ⟨(si j0),j5⟩),j5⟩) .nil)) plainB<|u<|nt j0<|u<|asg j0<|r_nil ?_
 refine sw_ret ?_
 obtain rfl:=sm h
 exact ⟨_,j0,[],ci j0,j0,j5,j0,j1⟩
def slices_Index_string_string_k2 : Option (Int) :=
  some (-1)
def slices_Index_string_string_l1 (v1 : List (List UInt8)) (v2 : List UInt8) (v5 : Int) : Option (Sum (Int) (Sum (Unit) (Int))) :=
  cond (decide (v5 < (List.length v1 : Int))) ((idx v1 v5).bind fun v6=>cond (v2 == v6) (some (.inr (.inr v5))) (some (.inl (IntKind.i64.wrap (v5 + 1))))) (some (.inr (.inl ())))
def slices_Index_string_string (v1 : List (List UInt8)) (v2 : List UInt8) : Option (Int) :=
  (loopP (fun z=>slices_Index_string_string_l1 v1 v2 z) 0).bind fun o=>leave o (fun b=>slices_Index_string_string_k2) some
theorem slices_Index_string_string_ok (v1 : List (List UInt8)) (v2 : List UInt8) {r : Int} (h : slices_Index_string_string v1 v2 = some r) : PureC Tryz.prog 112 [.isl 1 (List.map rStr v1),sA v2] (iA r):=by
 refine pure_fn Tryz.func112 j0 (by kernel_rfl) j0 j0 ?_
 unfold slices_Index_string_string at h
 refine rg j0<|u<|asg j0<|r_nil ?_
 refine sw_seq ?_
 refine rg j0<|u<|mv j0<|u<|lnI ti32 j0 j0<|u<|mv j0<|r_nil ?_
 obtain ⟨o,ho,h⟩:=bs h
 refine sw_lpl (X:=Int) (B:=Unit) (R:=Int) (fun z=>[(0,.isl 1 (List.map rStr v1)),(1,sA v2),(7,iA (List.length v1 : Int)),(8,iA z)]) (fun z=>[]) (fun b=>[]) (fun b=>[]) (fun r env st=>PostF Tryz.prog Tryz.f112 0 (iA r) [] env st) ho ⟨[],ce j0 j0<|ce j0 j0<|ce j0 j0<|ce j0 j0<|cn,j0,j5,j0,j1⟩ ?_ ?_ ?_
 ·
  rintro v5 r h
  replace h : slices_Index_string_string_l1 v1 v2 v5 = some r:=h
  unfold slices_Index_string_string_l1 at h
  refine rg j0<|u<|lss ti3 j0 j0<|r_nil ?_
  refine sw_seq ?_
  refine sw_cond j0 (fun hc4=>?_) (fun hc4=>?_)
  ·
   replace h:=bT hc4 h
   refine sw_skip ?_
   refine sw_seq ?_
   refine sw_block ?_
   refine rg j0<|u<|mv j0<|u<|asg j0<|r_nil ?_
   obtain ⟨v6,q5,h⟩:=bs h
   refine rg j0<|u<|mv j0<|u<|mv j0<|u<|mv j0<|u<|ixI ti32 j0 ti9 j0 j0 j0 q5<|u<|ldI ti9 j0 (idx_some q5).2.2 j0<|u<|seq ti9 j0 j0<|r_nil ?_
   refine sw_cond j0 (fun hc6=>?_) (fun hc6=>?_)
   ·
    replace h:=bT hc6 h
    refine rg j0<|u<|mv j0<|u<|asg j0<|r_nil ?_
    refine sw_ret ?_
    obtain rfl:=sm h
    exact ⟨_,j0,_,j0,[],ci j0,j0,j5,j0,j1⟩
   ·
    replace h:=bF hc6 h
    refine sw_skip ?_
    refine rl j0<|u<|add ti3 j0 j0<|u<|mv j0<|r_nil ?_
    obtain rfl:=sm h
    exact ⟨_,j0,[],ce j0 j0<|ce j0 j0<|ce j0 j0<|ce j0 j0<|cn,j0,j5,j0,j1⟩
  ·
   replace h:=bF hc4 h
   refine sw_exit ?_
   obtain rfl:=sm h
   exact ⟨j0,_,j0,[],cn,j0,j5,j0,j1⟩
 ·
  rintro ⟨⟩ rfl
  replace h : slices_Index_string_string_k2 = some r:=h
  unfold slices_Index_string_string_k2 at h
  refine ow_intro ?_
  refine rg j0<|u<|asg j0<|r_nil ?_
  refine sw_ret ?_
  obtain rfl:=sm h
  exact ⟨_,j0,[],ci j0,j0,j5,j0,j1⟩
 ·
  rintro r' rfl env st hp
  obtain rfl:=sm h
  exact hp
def slices_Contains_string_string (v1 : List (List UInt8)) (v2 : List UInt8) : Option (Bool) :=
  (slices_Index_string_string v1 v2).bind fun v3=>some (decide (0 ≤ v3))
theorem slices_Contains_string_string_ok (v1 : List (List UInt8)) (v2 : List UInt8) {r : Bool} (h : slices_Contains_string_string v1 v2 = some r) : PureC Tryz.prog 69 [.isl 1 (List.map rStr v1),sA v2] (bA r):=by
 refine pure_fn Tryz.func69 j0 (by kernel_rfl) j0 j0 ?_
 unfold slices_Contains_string_string at h
 refine rg j0<|u<|asg j0<|r_nil ?_
 obtain ⟨v3,q1,h⟩:=bs h
 refine rg j0<|u<|mv j0<|u<|mv j0<|u<|pc (slices_Index_string_string_ok v1 v2 q1) j0 j0 j0<|u<|geq ti3 j0 j0<|u<|asg j0<|r_nil ?_
 refine sw_ret ?_
 obtain rfl:=sm h
 exact ⟨_,j0,[],ci j0,j0,j5,j0,j1⟩
def class_maps_k4 (v1 : ApiMethod) : Option (Bool) :=
  some (decide ((List.length v1.Maps : Int) ≤ 100))
def class_maps_j2 (v1 : ApiMethod) (v12 : Int) (v13 : ApiMap) (v15 : Bool) : Option (Sum (Int) (Sum (Unit) (Bool))) :=
  cond v15 (some (.inr (.inr false))) ((cond ((!((List.length v13.Locals : Int) == v1.Locals)) || (decide (v1.Stack < (List.length v13.Stack : Int)))) (some true) ((class_types_s2 v13.Locals).bind fun v16=>some (!v16))).bind fun v17=>(cond v17 (some true) ((class_types_s2 v13.Stack).bind fun v18=>some (!v18))).bind fun v19=>(cond v19 (some true) ((slices_Contains_string_string v13.Stack [84]).bind fun v20=>some v20)).bind fun v21=>cond v21 (some (.inr (.inr false))) (some (.inl (IntKind.i64.wrap (v12 + 1)))))
def class_maps_l3 (v1 : ApiMethod) (v12 : Int) : Option (Sum (Int) (Sum (Unit) (Bool))) :=
  cond (decide (v12 < (List.length v1.Maps : Int))) ((idx v1.Maps v12).bind fun v13=>cond (!(class_between v13.At 0 (IntKind.i64.wrap ((List.length v1.Code : Int) - 1)))) (class_maps_j2 v1 v12 v13 true) (cond (decide (0 < v12)) ((idx v1.Maps (IntKind.i64.wrap (v12 - 1))).bind fun v14=>class_maps_j2 v1 v12 v13 (decide (v13.At ≤ v14.At))) (class_maps_j2 v1 v12 v13 false))) (some (.inr (.inl ())))
def class_maps (v1 : ApiMethod) : Option (Bool) :=
  (loopP (fun z=>class_maps_l3 v1 z) 0).bind fun o=>leave o (fun b=>class_maps_k4 v1) some
theorem class_maps_ok (v1 : ApiMethod) {r : Bool} (h : class_maps v1 = some r) : PureC Tryz.prog 135 [.agg [sA v1.Name,.isl 1 (List.map rStr v1.Params),sA v1.Ret,bA v1.Static,bA v1.Abstract,iA v1.Locals,iA v1.Stack,.isl 4 (List.map rApiIns v1.Code),.isl 3 (List.map rApiMap v1.Maps),.isl 4 (List.map rApiTrap v1.Traps)]] (bA r):=by
 refine pure_fn Tryz.func135 j0 (by kernel_rfl) j0 j0 ?_
 unfold class_maps at h
 refine rg j0<|u<|bx 0 10 j0 j0 j0 j0<|u<|asg j0<|r_nil ?_
 refine sw_seq ?_
 refine rg j0<|u<|fa ti62 j0 j0 j0<|u<|ld ti59 j0 j0<|u<|lnI ti59 j0 j0<|u<|mv j0<|r_nil ?_
 obtain ⟨o,ho,h⟩:=bs h
 refine sw_lpl (X:=Int) (B:=Unit) (R:=Bool) (fun z=>[(1,.mpt 0 0 0),(6,.isl 3 (List.map rApiMap v1.Maps)),(7,iA (List.length v1.Maps : Int)),(8,iA z)]) (fun z=>[some (10,[[sA v1.Name,.isl 1 (List.map rStr v1.Params),sA v1.Ret,bA v1.Static,bA v1.Abstract,iA v1.Locals,iA v1.Stack,.isl 4 (List.map rApiIns v1.Code),.isl 3 (List.map rApiMap v1.Maps),.isl 4 (List.map rApiTrap v1.Traps)]])]) (fun b=>[(1,.mpt 0 0 0)]) (fun b=>[some (10,[[sA v1.Name,.isl 1 (List.map rStr v1.Params),sA v1.Ret,bA v1.Static,bA v1.Abstract,iA v1.Locals,iA v1.Stack,.isl 4 (List.map rApiIns v1.Code),.isl 3 (List.map rApiMap v1.Maps),.isl 4 (List.map rApiTrap v1.Traps)]])]) (fun r env st=>PostF Tryz.prog Tryz.f135 0 (bA r) [] env st) ho ⟨[.old 0],cv j0 (.mpt j0)<|ce j0 j0<|ce j0 j0<|ce j0 j0<|cn,j0,⟨⟨_,j0,rsOne ⟨ci j0,ci j0,ci j0,ci j0,ci j0,ci j0,ci j0,ci j0,ci j0,ci j0,j5⟩⟩,j5⟩,j0,j1⟩ ?_ ?_ ?_
 ·
  rintro v12 r h
  replace h : class_maps_l3 v1 v12 = some r:=h
  unfold class_maps_l3 at h
  refine rg j0<|u<|lss ti3 j0 j0<|r_nil ?_
  refine sw_seq ?_
  refine sw_cond j0 (fun hc18=>?_) (fun hc18=>?_)
  ·
   replace h:=bT hc18 h
   refine sw_skip ?_
   refine sw_seq ?_
   refine sw_block ?_
   obtain ⟨v13,q19,h⟩:=bs h
   refine rg j0<|u<|mv j0<|u<|ixI ti59 j0 ti81 j0 j0 j0 q19<|u<|ldI ti81 j0 (idx_some q19).2.2 j0<|u<|al 1 ti81 j0<|u<|asg j0<|u<|sto ti81 j0 j0 j0<|r_nil ?_
   refine sw_seq ?_
   refine sw_meet (X:=Bool) (fun z=>[(1,.mpt 0 0 0),(4,.mpt 1 0 0),(6,.isl 3 (List.map rApiMap v1.Maps)),(7,iA (List.length v1.Maps : Int)),(8,iA v12),(36,bA z)]) (fun z=>[some (10,[[sA v1.Name,.isl 1 (List.map rStr v1.Params),sA v1.Ret,bA v1.Static,bA v1.Abstract,iA v1.Locals,iA v1.Stack,.isl 4 (List.map rApiIns v1.Code),.isl 3 (List.map rApiMap v1.Maps),.isl 4 (List.map rApiTrap v1.Traps)]]),some (3,[[iA v13.At,.isl 1 (List.map rStr v13.Locals),.isl 1 (List.map rStr v13.Stack)]])]) (fun z=>class_maps_j2 v1 v12 v13 z = some r) ?_ ?_
   ·
    rcases bb (!(class_between v13.At 0 (IntKind.i64.wrap ((List.length v1.Code : Int) - 1)))) with hb20 | hb20
    ·
     replace h:=bT hb20 h
     exact sw_region_dt [] [23,22,21,20,19,18,17,16,15,14,13,12,11,10,9,8,7,6,5,4,3,2,1,0] [(36,bA true),(35,.lit undef),(34,.lit undef),(33,.lit undef),(32,.lit undef),(31,.lit undef),(30,.lit undef),(29,.lit undef),(28,.lit undef),(27,.lit undef),(26,.lit undef),(25,.lit undef),(24,.lit undef),(23,.lit undef),(22,.lit undef),(21,bA (!(class_between v13.At 0 (IntKind.i64.wrap ((List.length v1.Code : Int) - 1))))),(20,bA (!(class_between v13.At 0 (IntKind.i64.wrap ((List.length v1.Code : Int) - 1))))),(19,bA (class_between v13.At 0 (IntKind.i64.wrap ((List.length v1.Code : Int) - 1)))),(18,iA (IntKind.i64.wrap ((List.length v1.Code : Int) - 1))),(17,iA (List.length v1.Code : Int)),(16,.isl 4 (List.map rApiIns v1.Code)),(15,.mpt 0 0 7),(14,iA v13.At),(13,.mpt 1 0 0)] 0 (by kernel_rfl) (by kernel_rfl) j0 (by kernel_rfl) (dt0 ⟨(fun _=>pa j0 j0 j0 j0 (pkb j0 hb20 j0<|j4)),(fun _=>pas (b:=(!(class_between v13.At 0 (IntKind.i64.wrap ((List.length v1.Code : Int) - 1))))) j0 j0 j0 j0 hb20 j0),(fun _=>pau j0 j0 j0 j0 j0),(fun _=>pau j0 j0 j0 j0 j0),(fun _=>pau j0 j0 j0 j0 j0),(fun _=>pau j0 j0 j0 j0 j0),(fun _=>pau j0 j0 j0 j0 j0),(fun _=>pau j0 j0 j0 j0 j0),(fun _=>pau j0 j0 j0 j0 j0),(fun _=>pau j0 j0 j0 j0 j0),(fun _=>pau j0 j0 j0 j0 j0),(fun _=>pau j0 j0 j0 j0 j0),(fun _=>pas (b:=(!(class_between v13.At 0 (IntKind.i64.wrap ((List.length v1.Code : Int) - 1))))) j0 j0 j0 j0 hb20 j0),(fun _=>pas (b:=(!(class_between v13.At 0 (IntKind.i64.wrap ((List.length v1.Code : Int) - 1))))) j0 j0 j0 j0 hb20 j0),(fun _=>pas (b:=(!(class_between v13.At 0 (IntKind.i64.wrap ((List.length v1.Code : Int) - 1))))) j0 j0 j0 j0 hb20 j0),(fun _=>pa j0 j0 j0 j0 (mv j0<|j4)),(fun _=>pa j0 j0 j0 j0 (nt j0<|j4)),(fun _=>pa j0 j0 j0 j0 (pc (class_between_ok v13.At 0 (IntKind.i64.wrap ((List.length v1.Code : Int) - 1)) j0) j0 j0 j0<|j4)),(fun _=>pa j0 j0 j0 j0 (sub ti3 j0 j0<|j4)),(fun _=>pa j0 j0 j0 j0 (lnI ti58 j0 j0<|j4)),(fun _=>pa j0 j0 j0 j0 (ld ti58 j0 j0<|j4)),(fun _=>pa j0 j0 j0 j0 (fa ti62 j0 j0 j0<|j4)),(fun _=>pa j0 j0 j0 j0 (ld ti3 j0 j0<|j4)),(fun _=>pa j0 j0 j0 j0 (fa ti81 j0 j0 j0<|j4)),j5⟩ (by kernel_rfl) j0 ⟨true,h,[.old 0,.old 1],cv j0 (.mpt j0)<|cv j0 (.mpt j0)<|ce j0 j0<|ce j0 j0<|ce j0 j0<|ce j0 j0<|cn,j0,⟨⟨_,j0,rsOne ⟨ci j0,ci j0,ci j0,ci j0,ci j0,ci j0,ci j0,ci j0,ci j0,ci j0,j5⟩⟩,⟨_,j0,rsOne ⟨ci j0,ci j0,ci j0,j5⟩⟩,j5⟩,j0,j1⟩)
    ·
     replace h:=bF hb20 h
     rcases bb (decide (0 < v12)) with hb21 | hb21
     ·
      replace h:=bT hb21 h
      obtain ⟨v14,q22,h⟩:=bs h
      exact sw_region_dt [] [23,22,21,20,19,18,17,16,15,14,13,12,11,10,9,8,7,6,5,4,3,2,1,0] [(36,bA (decide (v13.At ≤ v14.At))),(35,bA (decide (v13.At ≤ v14.At))),(34,bA (decide (v13.At ≤ v14.At))),(33,iA v13.At),(32,.mpt 1 0 0),(31,iA v14.At),(30,.ipt 3 (List.map rApiMap v1.Maps) (Int.toNat (IntKind.i64.wrap (v12 - 1))) 0),(29,.ipt 3 (List.map rApiMap v1.Maps) (Int.toNat (IntKind.i64.wrap (v12 - 1))) 0),(28,iA (IntKind.i64.wrap (v12 - 1))),(27,iA v12),(26,.isl 3 (List.map rApiMap v1.Maps)),(25,.mpt 0 0 8),(24,bA (decide (0 < v12))),(23,bA (decide (0 < v12))),(22,iA v12),(21,bA (!(class_between v13.At 0 (IntKind.i64.wrap ((List.length v1.Code : Int) - 1))))),(20,bA (!(class_between v13.At 0 (IntKind.i64.wrap ((List.length v1.Code : Int) - 1))))),(19,bA (class_between v13.At 0 (IntKind.i64.wrap ((List.length v1.Code : Int) - 1)))),(18,iA (IntKind.i64.wrap ((List.length v1.Code : Int) - 1))),(17,iA (List.length v1.Code : Int)),(16,.isl 4 (List.map rApiIns v1.Code)),(15,.mpt 0 0 7),(14,iA v13.At),(13,.mpt 1 0 0)] 0 (by kernel_rfl) (by kernel_rfl) j0 (by kernel_rfl) (dt0 ⟨(fun _=>pa j0 j0 j0 j0 (pkb j0 hb20 j0<|j4)),(fun _=>pag (b:=(!(class_between v13.At 0 (IntKind.i64.wrap ((List.length v1.Code : Int) - 1))))) j0 j0 j0 j0 hb20 j0 (pkb j0 hb21 j0<|j4)),(fun _=>pag (b:=(decide (0 < v12))) j0 j0 j0 j0 hb21 j0 (geq ti3 j0 j0<|j4)),(fun _=>pag (b:=(decide (0 < v12))) j0 j0 j0 j0 hb21 j0 (ld ti3 j0 j0<|j4)),(fun _=>pag (b:=(decide (0 < v12))) j0 j0 j0 j0 hb21 j0 (fa ti81 j0 j0 j0<|j4)),(fun _=>pag (b:=(decide (0 < v12))) j0 j0 j0 j0 hb21 j0 (ldI ti3 j0 (idx_some q22).2.2 j0<|j4)),(fun _=>pag (b:=(decide (0 < v12))) j0 j0 j0 j0 hb21 j0 (fa ti81 j0 j0 j0<|j4)),(fun _=>pag (b:=(decide (0 < v12))) j0 j0 j0 j0 hb21 j0 (ixI ti59 j0 ti81 j0 j0 j0 q22<|j4)),(fun _=>pag (b:=(decide (0 < v12))) j0 j0 j0 j0 hb21 j0 (sub ti3 j0 j0<|j4)),(fun _=>pag (b:=(decide (0 < v12))) j0 j0 j0 j0 hb21 j0 (mv j0<|j4)),(fun _=>pag (b:=(decide (0 < v12))) j0 j0 j0 j0 hb21 j0 (ld ti59 j0 j0<|j4)),(fun _=>pag (b:=(decide (0 < v12))) j0 j0 j0 j0 hb21 j0 (fa ti62 j0 j0 j0<|j4)),(fun _=>pag (b:=(!(class_between v13.At 0 (IntKind.i64.wrap ((List.length v1.Code : Int) - 1))))) j0 j0 j0 j0 hb20 j0 (mv j0<|j4)),(fun _=>pag (b:=(!(class_between v13.At 0 (IntKind.i64.wrap ((List.length v1.Code : Int) - 1))))) j0 j0 j0 j0 hb20 j0 (gtr ti3 j0 j0<|j4)),(fun _=>pag (b:=(!(class_between v13.At 0 (IntKind.i64.wrap ((List.length v1.Code : Int) - 1))))) j0 j0 j0 j0 hb20 j0 (mv j0<|j4)),(fun _=>pa j0 j0 j0 j0 (mv j0<|j4)),(fun _=>pa j0 j0 j0 j0 (nt j0<|j4)),(fun _=>pa j0 j0 j0 j0 (pc (class_between_ok v13.At 0 (IntKind.i64.wrap ((List.length v1.Code : Int) - 1)) j0) j0 j0 j0<|j4)),(fun _=>pa j0 j0 j0 j0 (sub ti3 j0 j0<|j4)),(fun _=>pa j0 j0 j0 j0 (lnI ti58 j0 j0<|j4)),(fun _=>pa j0 j0 j0 j0 (ld ti58 j0 j0<|j4)),(fun _=>pa j0 j0 j0 j0 (fa ti62 j0 j0 j0<|j4)),(fun _=>pa j0 j0 j0 j0 (ld ti3 j0 j0<|j4)),(fun _=>pa j0 j0 j0 j0 (fa ti81 j0 j0 j0<|j4)),j5⟩ (by kernel_rfl) j0 ⟨(decide (v13.At ≤ v14.At)),h,[.old 0,.old 1],cv j0 (.mpt j0)<|cv j0 (.mpt j0)<|ce j0 j0<|ce j0 j0<|ce j0 j0<|ce j0 j0<|cn,j0,⟨⟨_,j0,rsOne ⟨ci j0,ci j0,ci j0,ci j0,ci j0,ci j0,ci j0,ci j0,ci j0,ci j0,j5⟩⟩,⟨_,j0,rsOne ⟨ci j0,ci j0,ci j0,j5⟩⟩,j5⟩,j0,j1⟩)
     ·
      replace h:=bF hb21 h
      exact sw_region_dt [] [23,22,21,20,19,18,17,16,15,14,13,12,11,10,9,8,7,6,5,4,3,2,1,0] [(36,bA false),(35,bA false),(34,.lit undef),(33,.lit undef),(32,.lit undef),(31,.lit undef),(30,.lit undef),(29,.lit undef),(28,.lit undef),(27,.lit undef),(26,.lit undef),(25,.lit undef),(24,bA (decide (0 < v12))),(23,bA (decide (0 < v12))),(22,iA v12),(21,bA (!(class_between v13.At 0 (IntKind.i64.wrap ((List.length v1.Code : Int) - 1))))),(20,bA (!(class_between v13.At 0 (IntKind.i64.wrap ((List.length v1.Code : Int) - 1))))),(19,bA (class_between v13.At 0 (IntKind.i64.wrap ((List.length v1.Code : Int) - 1)))),(18,iA (IntKind.i64.wrap ((List.length v1.Code : Int) - 1))),(17,iA (List.length v1.Code : Int)),(16,.isl 4 (List.map rApiIns v1.Code)),(15,.mpt 0 0 7),(14,iA v13.At),(13,.mpt 1 0 0)] 0 (by kernel_rfl) (by kernel_rfl) j0 (by kernel_rfl) (dt0 ⟨(fun _=>pa j0 j0 j0 j0 (pkb j0 hb20 j0<|j4)),(fun _=>pag (b:=(!(class_between v13.At 0 (IntKind.i64.wrap ((List.length v1.Code : Int) - 1))))) j0 j0 j0 j0 hb20 j0 (pkb j0 hb21 j0<|j4)),(fun _=>pas (b:=(decide (0 < v12))) j0 j0 j0 j0 hb21 j0),(fun _=>pas (b:=(decide (0 < v12))) j0 j0 j0 j0 hb21 j0),(fun _=>pas (b:=(decide (0 < v12))) j0 j0 j0 j0 hb21 j0),(fun _=>pas (b:=(decide (0 < v12))) j0 j0 j0 j0 hb21 j0),(fun _=>pas (b:=(decide (0 < v12))) j0 j0 j0 j0 hb21 j0),(fun _=>pas (b:=(decide (0 < v12))) j0 j0 j0 j0 hb21 j0),(fun _=>pas (b:=(decide (0 < v12))) j0 j0 j0 j0 hb21 j0),(fun _=>pas (b:=(decide (0 < v12))) j0 j0 j0 j0 hb21 j0),(fun _=>pas (b:=(decide (0 < v12))) j0 j0 j0 j0 hb21 j0),(fun _=>pas (b:=(decide (0 < v12))) j0 j0 j0 j0 hb21 j0),(fun _=>pag (b:=(!(class_between v13.At 0 (IntKind.i64.wrap ((List.length v1.Code : Int) - 1))))) j0 j0 j0 j0 hb20 j0 (mv j0<|j4)),(fun _=>pag (b:=(!(class_between v13.At 0 (IntKind.i64.wrap ((List.length v1.Code : Int) - 1))))) j0 j0 j0 j0 hb20 j0 (gtr ti3 j0 j0<|j4)),(fun _=>pag (b:=(!(class_between v13.At 0 (IntKind.i64.wrap ((List.length v1.Code : Int) - 1))))) j0 j0 j0 j0 hb20 j0 (mv j0<|j4)),(fun _=>pa j0 j0 j0 j0 (mv j0<|j4)),(fun _=>pa j0 j0 j0 j0 (nt j0<|j4)),(fun _=>pa j0 j0 j0 j0 (pc (class_between_ok v13.At 0 (IntKind.i64.wrap ((List.length v1.Code : Int) - 1)) j0) j0 j0 j0<|j4)),(fun _=>pa j0 j0 j0 j0 (sub ti3 j0 j0<|j4)),(fun _=>pa j0 j0 j0 j0 (lnI ti58 j0 j0<|j4)),(fun _=>pa j0 j0 j0 j0 (ld ti58 j0 j0<|j4)),(fun _=>pa j0 j0 j0 j0 (fa ti62 j0 j0 j0<|j4)),(fun _=>pa j0 j0 j0 j0 (ld ti3 j0 j0<|j4)),(fun _=>pa j0 j0 j0 j0 (fa ti81 j0 j0 j0<|j4)),j5⟩ (by kernel_rfl) j0 ⟨false,h,[.old 0,.old 1],cv j0 (.mpt j0)<|cv j0 (.mpt j0)<|ce j0 j0<|ce j0 j0<|ce j0 j0<|ce j0 j0<|cn,j0,⟨⟨_,j0,rsOne ⟨ci j0,ci j0,ci j0,ci j0,ci j0,ci j0,ci j0,ci j0,ci j0,ci j0,j5⟩⟩,⟨_,j0,rsOne ⟨ci j0,ci j0,ci j0,j5⟩⟩,j5⟩,j0,j1⟩)
   ·
    rintro v15 h
    replace h : class_maps_j2 v1 v12 v13 v15 = some r:=h
    unfold class_maps_j2 at h
    refine sw_cond j0 (fun hc23=>?_) (fun hc23=>?_)
    ·
     replace h:=bT hc23 h
     refine rg j0<|u<|asg j0<|r_nil ?_
     refine sw_ret ?_
     obtain rfl:=sm h
     exact ⟨_,j0,_,j0,[],ci j0,j0,j5,j0,j1⟩
    ·
     replace h:=bF hc23 h
     refine sw_skip ?_
     obtain ⟨v17,q27,h⟩:=bs h
     obtain ⟨v19,q30,h⟩:=bs h
     obtain ⟨v21,q33,h⟩:=bs h
     refine rg j0<|u<|fa ti81 j0 j0 j0<|u<|ld ti32 j0 j0<|u<|lnI ti32 j0 j0<|u<|fa ti62 j0 j0 j0<|u<|ld ti3 j0 j0<|u<|neq ti3 j0 j0<|u<|mv j0<|r_or (j:=6) 6 j0 j0 j0 j0 j0 gpn (fun hb24=>g j0 hb24<|fa ti81 j0 j0 j0<|g j0 hb24<|ld ti32 j0 j0<|g j0 hb24<|lnI ti32 j0 j0<|g j0 hb24<|fa ti62 j0 j0 j0<|g j0 hb24<|ld ti3 j0 j0<|g j0 hb24<|gtr ti3 j0 j0<|r_nil (egO [44,45,46,47,48,49] 6 hb24 j0 j0 j0 j0)) orT<|u<|mv j0<|r_or (x:=v17) (j:=14) 4 j0 j0 j0 j0 j0 gpn (fun hb25=>by replace q27:=bF hb25 q27; obtain ⟨v16,q26,q27⟩:=bs q27; obtain rfl:=sm q27; exact g j0 hb25<|fa ti81 j0 j0 j0<|g j0 hb25<|ld ti32 j0 j0<|g j0 hb25<|pc (class_types_s2_ok v13.Locals q26) j0 j0 j0<|g j0 hb25<|nt j0<|r_nil (eg [52,53,54,55] 4 j0 j0 j0 j0)) (fun hb=>(sm (bT hb q27)).symm)<|u<|mv j0<|r_or (x:=v19) (j:=20) 4 j0 j0 j0 j0 j0 gpn (fun hb28=>by replace q30:=bF hb28 q30; obtain ⟨v18,q29,q30⟩:=bs q30; obtain rfl:=sm q30; exact g j0 hb28<|fa ti81 j0 j0 j0<|g j0 hb28<|ld ti32 j0 j0<|g j0 hb28<|pc (class_types_s2_ok v13.Stack q29) j0 j0 j0<|g j0 hb28<|nt j0<|r_nil (eg [58,59,60,61] 4 j0 j0 j0 j0)) (fun hb=>(sm (bT hb q30)).symm)<|u<|mv j0<|r_or (x:=v21) (j:=26) 3 j0 j0 j0 j0 j0 gpn (fun hb31=>by replace q33:=bF hb31 q33; obtain ⟨v20,q32,q33⟩:=bs q33; obtain rfl:=sm q33; exact g j0 hb31<|fa ti81 j0 j0 j0<|g j0 hb31<|ld ti32 j0 j0<|g j0 hb31<|pc (slices_Contains_string_string_ok v13.Stack [84] q32) j0 j0 j0<|r_nil (eg [64,65,66] 3 j0 j0 j0 j0)) (fun hb=>(sm (bT hb q33)).symm)<|r_nil ?_
     refine sw_cond j0 (fun hc34=>?_) (fun hc34=>?_)
     ·
      replace h:=bT hc34 h
      refine rg j0<|u<|asg j0<|r_nil ?_
      refine sw_ret ?_
      obtain rfl:=sm h
      exact ⟨_,j0,_,j0,[],ci j0,j0,j5,j0,j1⟩
     ·
      replace h:=bF hc34 h
      refine sw_skip ?_
      refine rl j0<|u<|add ti3 j0 j0<|u<|mv j0<|r_nil ?_
      obtain rfl:=sm h
      exact ⟨_,j0,[.old 0],cv j0 (.mpt j0)<|ce j0 j0<|ce j0 j0<|ce j0 j0<|cn,j0,⟨⟨_,j0,rsOne ⟨ci j0,ci j0,ci j0,ci j0,ci j0,ci j0,ci j0,ci j0,ci j0,ci j0,j5⟩⟩,j5⟩,j0,j1⟩
  ·
   replace h:=bF hc18 h
   refine sw_exit ?_
   obtain rfl:=sm h
   exact ⟨j0,_,j0,[.old 0],cv j0 (.mpt j0)<|cn,j0,⟨⟨_,j0,rsOne ⟨ci j0,ci j0,ci j0,ci j0,ci j0,ci j0,ci j0,ci j0,ci j0,ci j0,j5⟩⟩,j5⟩,j0,j1⟩
 ·
  rintro ⟨⟩ rfl
  replace h : class_maps_k4 v1 = some r:=h
  unfold class_maps_k4 at h
  refine ow_intro ?_
  refine rg j0<|u<|fa ti62 j0 j0 j0<|u<|ld ti59 j0 j0<|u<|lnI ti59 j0 j0<|u<|leq ti3 j0 j0<|u<|asg j0<|r_nil ?_
  refine sw_ret ?_
  obtain rfl:=sm h
  exact ⟨_,j0,[],ci j0,j0,j5,j0,j1⟩
 ·
  rintro r' rfl env st hp
  obtain rfl:=sm h
  exact hp
def class_traps_1 (v1 : ApiTrap) (v2 : List UInt8) (v3 : List (List UInt8)) (v4 : List UInt8) (v5 : Bool) (v6 : Bool) (v7 : Int) (v8 : Int) (v9 : List ApiIns) (v10 : List ApiMap) (v11 : List ApiTrap) : Option (Bool) :=
  (cond ((((decide (v1.From < 0)) || (decide (v1.To ≤ v1.From))) || (decide ((List.length v9 : Int) < v1.To))) || (!(class_between v1.At 0 (IntKind.i64.wrap ((List.length v9 : Int) - 1))))) (some true) ((cond (!(v1.C == [])) ((kind_Class v1.C).bind fun v12=>some (!v12)) (some false)).bind fun v13=>some v13)).bind fun v14=>some v14
theorem class_traps_1_ok (v1 : ApiTrap) (v2 : List UInt8) (v3 : List (List UInt8)) (v4 : List UInt8) (v5 : Bool) (v6 : Bool) (v7 : Int) (v8 : Int) (v9 : List ApiIns) (v10 : List ApiMap) (v11 : List ApiTrap) {r : Bool} (h : class_traps_1 v1 v2 v3 v4 v5 v6 v7 v8 v9 v10 v11 = some r) : PureC Tryz.prog 190 [.agg [iA v1.From,iA v1.To,iA v1.At,sA v1.C],.ipt 10 [[sA v2,.isl 1 (List.map rStr v3),sA v4,bA v5,bA v6,iA v7,iA v8,.isl 4 (List.map rApiIns v9),.isl 3 (List.map rApiMap v10),.isl 4 (List.map rApiTrap v11)]] 0 0] (bA r):=by
 refine pure_fn Tryz.func190 j0 (by kernel_rfl) j0 j0 ?_
 unfold class_traps_1 at h
 refine rg j0<|u<|bx 0 4 j0 j0 j0 j0<|u<|asg j0<|r_nil ?_
 obtain ⟨v14,q8,h⟩:=bs h
 refine rg j0<|u<|fa ti127 j0 j0 j0<|u<|ld ti3 j0 j0<|u<|lss ti3 j0 j0<|u<|mv j0<|r_or (j:=3) 5 j0 j0 j0 j0 j0 gpn (fun hb1=>g j0 hb1<|fa ti127 j0 j0 j0<|g j0 hb1<|ld ti3 j0 j0<|g j0 hb1<|fa ti127 j0 j0 j0<|g j0 hb1<|ld ti3 j0 j0<|g j0 hb1<|geq ti3 j0 j0<|r_nil (egO [8,9,10,11,12] 5 hb1 j0 j0 j0 j0)) orT<|u<|mv j0<|r_or (j:=10) 6 j0 j0 j0 j0 j0 gpn (fun hb2=>g j0 hb2<|fa ti127 j0 j0 j0<|g j0 hb2<|ld ti3 j0 j0<|g j0 hb2<|fa ti62 j0 j0 j0<|g j0 hb2<|ld ti58 j0 j0<|g j0 hb2<|lnI ti58 j0 j0<|g j0 hb2<|gtr ti3 j0 j0<|r_nil (egO [15,16,17,18,19,20] 6 hb2 j0 j0 j0 j0)) orT<|u<|mv j0<|r_or (j:=18) 8 j0 j0 j0 j0 j0 gpn (fun hb3=>g j0 hb3<|fa ti127 j0 j0 j0<|g j0 hb3<|ld ti3 j0 j0<|g j0 hb3<|fa ti62 j0 j0 j0<|g j0 hb3<|ld ti58 j0 j0<|g j0 hb3<|lnI ti58 j0 j0<|g j0 hb3<|sub ti3 j0 j0<|g j0 hb3<|pc (class_between_ok v1.At 0 (IntKind.i64.wrap ((List.length v9 : Int) - 1)) j0) j0 j0 j0<|g j0 hb3<|nt j0<|r_nil (egO [23,24,25,26,27,28,29,30] 8 hb3 j0 j0 j0 j0)) orT<|u<|mv j0<|r_or (x:=v14) (j:=28) 9 j0 j0 j0 j0 j0 gpn (fun hb4=>by replace q8:=bF hb4 q8; obtain ⟨v13,q7,q8⟩:=bs q8; obtain rfl:=sm q8; exact g j0 hb4<|fa ti127 j0 j0 j0<|g j0 hb4<|ld ti9 j0 j0<|g j0 hb4<|sne ti9 j0 j0<|g j0 hb4<|mv j0<|r_and (x:=v13) (j:=32) 4 j0 j0 j0 j0 j0 (gps j0 j0 hb4) (fun hb5=>by replace q7:=bT hb5 q7; obtain ⟨v12,q6,q7⟩:=bs q7; obtain rfl:=sm q7; exact g j0 hb5<|fa ti127 j0 j0 j0<|g j0 hb5<|ld ti9 j0 j0<|g j0 hb5<|pc (kind_Class_ok v1.C q6) j0 j0 j0<|g j0 hb5<|nt j0<|r_nil (eg [37,38,39,40] 4 j0 j0 j0 j0)) (fun hb=>(sm (bF hb q7)).symm)<|r_nil (eg [33,34,35,36,37,38,39,40,41] 5 j0 j0 j0 j0)) (fun hb=>(sm (bT hb q8)).symm)<|u<|asg j0<|r_nil ?_
 refine sw_ret ?_
 obtain rfl:=sm h
 exact ⟨_,j0,[],ci j0,j0,j5,j0,j1⟩
def slices_IndexFunc_api_Trap_api_Trap_k2 : Option (Int) :=
  some (-1)
def slices_IndexFunc_api_Trap_api_Trap_l1 (v1 : List ApiTrap) (v2 : List UInt8) (v3 : List (List UInt8)) (v4 : List UInt8) (v5 : Bool) (v6 : Bool) (v7 : Int) (v8 : Int) (v9 : List ApiIns) (v10 : List ApiMap) (v11 : List ApiTrap) (v15 : Int) : Option (Sum (Int) (Sum (Unit) (Int))) :=
  cond (decide (v15 < (List.length v1 : Int))) ((idx v1 v15).bind fun v16=>(class_traps_1 v16 v2 v3 v4 v5 v6 v7 v8 v9 v10 v11).bind fun v17=>cond v17 (some (.inr (.inr v15))) (some (.inl (IntKind.i64.wrap (v15 + 1))))) (some (.inr (.inl ())))
def slices_IndexFunc_api_Trap_api_Trap (v1 : List ApiTrap) (v2 : List UInt8) (v3 : List (List UInt8)) (v4 : List UInt8) (v5 : Bool) (v6 : Bool) (v7 : Int) (v8 : Int) (v9 : List ApiIns) (v10 : List ApiMap) (v11 : List ApiTrap) : Option (Int) :=
  (loopP (fun z=>slices_IndexFunc_api_Trap_api_Trap_l1 v1 v2 v3 v4 v5 v6 v7 v8 v9 v10 v11 z) 0).bind fun o=>leave o (fun b=>slices_IndexFunc_api_Trap_api_Trap_k2) some
theorem slices_IndexFunc_api_Trap_api_Trap_ok (v1 : List ApiTrap) (v2 : List UInt8) (v3 : List (List UInt8)) (v4 : List UInt8) (v5 : Bool) (v6 : Bool) (v7 : Int) (v8 : Int) (v9 : List ApiIns) (v10 : List ApiMap) (v11 : List ApiTrap) {r : Int} (h : slices_IndexFunc_api_Trap_api_Trap v1 v2 v3 v4 v5 v6 v7 v8 v9 v10 v11 = some r) : PureC Tryz.prog 226 [.isl 4 (List.map rApiTrap v1),.fn (.func 190) [] [.ipt 10 [[sA v2,.isl 1 (List.map rStr v3),sA v4,bA v5,bA v6,iA v7,iA v8,.isl 4 (List.map rApiIns v9),.isl 3 (List.map rApiMap v10),.isl 4 (List.map rApiTrap v11)]] 0 0]] (iA r):=by
 refine pure_fn Tryz.func226 j0 (by kernel_rfl) j0 j0 ?_
 unfold slices_IndexFunc_api_Trap_api_Trap at h
 refine rg j0<|u<|asg j0<|r_nil ?_
 refine sw_seq ?_
 refine rg j0<|u<|mv j0<|u<|lnI ti60 j0 j0<|u<|mv j0<|r_nil ?_
 obtain ⟨o,ho,h⟩:=bs h
 refine sw_lpl (X:=Int) (B:=Unit) (R:=Int) (fun z=>[(0,.isl 4 (List.map rApiTrap v1)),(1,.fn (.func 190) [] [.ipt 10 [[sA v2,.isl 1 (List.map rStr v3),sA v4,bA v5,bA v6,iA v7,iA v8,.isl 4 (List.map rApiIns v9),.isl 3 (List.map rApiMap v10),.isl 4 (List.map rApiTrap v11)]] 0 0]),(7,iA (List.length v1 : Int)),(8,iA z)]) (fun z=>[]) (fun b=>[]) (fun b=>[]) (fun r env st=>PostF Tryz.prog Tryz.f226 0 (iA r) [] env st) ho ⟨[],ce j0 j0<|ce j0 j0<|ce j0 j0<|ce j0 j0<|cn,j0,j5,j0,j1⟩ ?_ ?_ ?_
 ·
  rintro v15 r h
  replace h : slices_IndexFunc_api_Trap_api_Trap_l1 v1 v2 v3 v4 v5 v6 v7 v8 v9 v10 v11 v15 = some r:=h
  unfold slices_IndexFunc_api_Trap_api_Trap_l1 at h
  refine rg j0<|u<|lss ti3 j0 j0<|r_nil ?_
  refine sw_seq ?_
  refine sw_cond j0 (fun hc5=>?_) (fun hc5=>?_)
  ·
   replace h:=bT hc5 h
   refine sw_skip ?_
   refine sw_seq ?_
   refine sw_block ?_
   refine rg j0<|u<|mv j0<|u<|asg j0<|r_nil ?_
   obtain ⟨v16,q6,h⟩:=bs h
   obtain ⟨v17,q7,h⟩:=bs h
   refine rg j0<|u<|mv j0<|u<|mv j0<|u<|mv j0<|u<|ixI ti60 j0 ti127 j0 j0 j0 q6<|u<|ldI ti127 j0 (idx_some q6).2.2 j0<|u<|pc (class_traps_1_ok v16 v2 v3 v4 v5 v6 v7 v8 v9 v10 v11 q7) j0 j0 j0<|r_nil ?_
   refine sw_cond j0 (fun hc8=>?_) (fun hc8=>?_)
   ·
    replace h:=bT hc8 h
    refine rg j0<|u<|mv j0<|u<|asg j0<|r_nil ?_
    refine sw_ret ?_
    obtain rfl:=sm h
    exact ⟨_,j0,_,j0,[],ci j0,j0,j5,j0,j1⟩
   ·
    replace h:=bF hc8 h
    refine sw_skip ?_
    refine rl j0<|u<|add ti3 j0 j0<|u<|mv j0<|r_nil ?_
    obtain rfl:=sm h
    exact ⟨_,j0,[],ce j0 j0<|ce j0 j0<|ce j0 j0<|ce j0 j0<|cn,j0,j5,j0,j1⟩
  ·
   replace h:=bF hc5 h
   refine sw_exit ?_
   obtain rfl:=sm h
   exact ⟨j0,_,j0,[],cn,j0,j5,j0,j1⟩
 ·
  rintro ⟨⟩ rfl
  replace h : slices_IndexFunc_api_Trap_api_Trap_k2 = some r:=h
  unfold slices_IndexFunc_api_Trap_api_Trap_k2 at h
  refine ow_intro ?_
  refine rg j0<|u<|asg j0<|r_nil ?_
  refine sw_ret ?_
  obtain rfl:=sm h
  exact ⟨_,j0,[],ci j0,j0,j5,j0,j1⟩
 ·
  rintro r' rfl env st hp
  obtain rfl:=sm h
  exact hp
def slices_ContainsFunc_api_Trap_api_Trap (v1 : List ApiTrap) (v2 : List UInt8) (v3 : List (List UInt8)) (v4 : List UInt8) (v5 : Bool) (v6 : Bool) (v7 : Int) (v8 : Int) (v9 : List ApiIns) (v10 : List ApiMap) (v11 : List ApiTrap) : Option (Bool) :=
  (slices_IndexFunc_api_Trap_api_Trap v1 v2 v3 v4 v5 v6 v7 v8 v9 v10 v11).bind fun v12=>some (decide (0 ≤ v12))
theorem slices_ContainsFunc_api_Trap_api_Trap_ok (v1 : List ApiTrap) (v2 : List UInt8) (v3 : List (List UInt8)) (v4 : List UInt8) (v5 : Bool) (v6 : Bool) (v7 : Int) (v8 : Int) (v9 : List ApiIns) (v10 : List ApiMap) (v11 : List ApiTrap) {r : Bool} (h : slices_ContainsFunc_api_Trap_api_Trap v1 v2 v3 v4 v5 v6 v7 v8 v9 v10 v11 = some r) : PureC Tryz.prog 189 [.isl 4 (List.map rApiTrap v1),.fn (.func 190) [] [.ipt 10 [[sA v2,.isl 1 (List.map rStr v3),sA v4,bA v5,bA v6,iA v7,iA v8,.isl 4 (List.map rApiIns v9),.isl 3 (List.map rApiMap v10),.isl 4 (List.map rApiTrap v11)]] 0 0]] (bA r):=by
 refine pure_fn Tryz.func189 j0 (by kernel_rfl) j0 j0 ?_
 unfold slices_ContainsFunc_api_Trap_api_Trap at h
 refine rg j0<|u<|asg j0<|r_nil ?_
 obtain ⟨v12,q1,h⟩:=bs h
 refine rg j0<|u<|mv j0<|u<|mv j0<|u<|pc (slices_IndexFunc_api_Trap_api_Trap_ok v1 v2 v3 v4 v5 v6 v7 v8 v9 v10 v11 q1) j0 j0 j0<|u<|geq ti3 j0 j0<|u<|asg j0<|r_nil ?_
 refine sw_ret ?_
 obtain rfl:=sm h
 exact ⟨_,j0,[],ci j0,j0,j5,j0,j1⟩
def class_traps (v1 : ApiMethod) : Option (Bool) :=
  (slices_ContainsFunc_api_Trap_api_Trap v1.Traps v1.Name v1.Params v1.Ret v1.Static v1.Abstract v1.Locals v1.Stack v1.Code v1.Maps v1.Traps).bind fun v2=>some ((!v2) && (decide ((List.length v1.Traps : Int) ≤ 6)))
theorem class_traps_ok (v1 : ApiMethod) {r : Bool} (h : class_traps v1 = some r) : PureC Tryz.prog 136 [.agg [sA v1.Name,.isl 1 (List.map rStr v1.Params),sA v1.Ret,bA v1.Static,bA v1.Abstract,iA v1.Locals,iA v1.Stack,.isl 4 (List.map rApiIns v1.Code),.isl 3 (List.map rApiMap v1.Maps),.isl 4 (List.map rApiTrap v1.Traps)]] (bA r):=by
 refine pure_fn Tryz.func136 j0 (by kernel_rfl) j0 j0 ?_
 unfold class_traps at h
 refine rg j0<|u<|bx 0 10 j0 j0 j0 j0<|u<|asg j0<|r_nil ?_
 obtain ⟨v2,q1,h⟩:=bs h
 refine rg j0<|u<|fa ti62 j0 j0 j0<|u<|ld ti60 j0 j0<|u<|mf j0 j0<|u<|pcs (slices_ContainsFunc_api_Trap_api_Trap_ok v1.Traps v1.Name v1.Params v1.Ret v1.Static v1.Abstract v1.Locals v1.Stack v1.Code v1.Maps v1.Traps q1) j0 j0 (.cons (si j0) (.cons (sealFn j5 ⟨(sealBox j0 ⟨(si j0),(si j0),(si j0),(si j0),(si j0),(si j0),(si j0),(si j0),(si j0),(si j0),j5⟩),j5⟩) .nil)) plainB<|u<|asg j0<|r_nil ?_
 refine rg j0<|u<|mv j0<|u<|nt j0<|u<|mv j0<|r_and (j:=2) 4 j0 j0 j0 j0 j0 gpn (fun hb2=>g j0 hb2<|fa ti62 j0 j0 j0<|g j0 hb2<|ld ti60 j0 j0<|g j0 hb2<|lnI ti60 j0 j0<|g j0 hb2<|leq ti3 j0 j0<|r_nil (egA [11,12,13,14] 4 hb2 j0 j0 j0 j0)) andF<|u<|asg j0<|r_nil ?_
 refine sw_ret ?_
 obtain rfl:=sm h
 exact ⟨_,j0,[],ci j0,j0,j5,j0,j1⟩
def class_method_j1 (v10 : Bool) : Option (Bool) :=
  some v10
def class_method (v1 : ApiMethod) : Option (Bool) :=
  (kind_Name v1.Name).bind fun v2=>(cond ((!v2) || (decide (6 < (List.length v1.Params : Int)))) (some true) ((class_types v1.Params).bind fun v3=>some (!v3))).bind fun v4=>(cond v4 (some true) ((kind_Ret v1.Ret).bind fun v5=>some (!v5))).bind fun v6=>cond v6 (some false) (cond v1.Abstract (some (class_empty v1)) (cond ((v1.Name == [36,105,110,105,116]) && (((!v1.Static) || (decide (0 < (List.length v1.Params : Int)))) || (!(v1.Ret == [86])))) (some false) (cond (class_between v1.Locals (class_args v1) 16) (cond (class_between v1.Stack 0 16) ((class_instructions v1).bind fun v7=>cond v7 ((class_maps v1).bind fun v8=>cond v8 ((class_traps v1).bind fun v9=>class_method_j1 v9) (class_method_j1 false)) (class_method_j1 false)) (class_method_j1 false)) (class_method_j1 false))))
theorem class_method_ok (v1 : ApiMethod) {r : Bool} (h : class_method v1 = some r) : PureC Tryz.prog 101 [.agg [sA v1.Name,.isl 1 (List.map rStr v1.Params),sA v1.Ret,bA v1.Static,bA v1.Abstract,iA v1.Locals,iA v1.Stack,.isl 4 (List.map rApiIns v1.Code),.isl 3 (List.map rApiMap v1.Maps),.isl 4 (List.map rApiTrap v1.Traps)]] (bA r):=by
 refine pure_fn Tryz.func101 j0 (by kernel_rfl) j0 j0 ?_
 unfold class_method at h
 refine rg j0<|u<|bx 0 10 j0 j0 j0 j0<|u<|asg j0<|r_nil ?_
 refine sw_seq ?_
 obtain ⟨v2,q1,h⟩:=bs h
 obtain ⟨v4,q5,h⟩:=bs h
 obtain ⟨v6,q8,h⟩:=bs h
 refine rg j0<|u<|fa ti62 j0 j0 j0<|u<|ld ti9 j0 j0<|u<|pc (kind_Name_ok v1.Name q1) j0 j0 j0<|u<|nt j0<|u<|mv j0<|r_or (j:=4) 4 j0 j0 j0 j0 j0 gpn (fun hb2=>g j0 hb2<|fa ti62 j0 j0 j0<|g j0 hb2<|ld ti32 j0 j0<|g j0 hb2<|lnI ti32 j0 j0<|g j0 hb2<|gtr ti3 j0 j0<|r_nil (egO [8,9,10,11] 4 hb2 j0 j0 j0 j0)) orT<|u<|mv j0<|r_or (x:=v4) (j:=10) 4 j0 j0 j0 j0 j0 gpn (fun hb3=>by replace q5:=bF hb3 q5; obtain ⟨v3,q4,q5⟩:=bs q5; obtain rfl:=sm q5; exact g j0 hb3<|fa ti62 j0 j0 j0<|g j0 hb3<|ld ti32 j0 j0<|g j0 hb3<|pc (class_types_ok v1.Params q4) j0 j0 j0<|g j0 hb3<|nt j0<|r_nil (eg [14,15,16,17] 4 j0 j0 j0 j0)) (fun hb=>(sm (bT hb q5)).symm)<|u<|mv j0<|r_or (x:=v6) (j:=16) 4 j0 j0 j0 j0 j0 gpn (fun hb6=>by replace q8:=bF hb6 q8; obtain ⟨v5,q7,q8⟩:=bs q8; obtain rfl:=sm q8; exact g j0 hb6<|fa ti62 j0 j0 j0<|g j0 hb6<|ld ti9 j0 j0<|g j0 hb6<|pc (kind_Ret_ok v1.Ret q7) j0 j0 j0<|g j0 hb6<|nt j0<|r_nil (eg [20,21,22,23] 4 j0 j0 j0 j0)) (fun hb=>(sm (bT hb q8)).symm)<|r_nil ?_
 refine sw_cond j0 (fun hc9=>?_) (fun hc9=>?_)
 ·
  replace h:=bT hc9 h
  refine rg j0<|u<|asg j0<|r_nil ?_
  refine sw_ret ?_
  obtain rfl:=sm h
  exact ⟨_,j0,[],ci j0,j0,j5,j0,j1⟩
 ·
  replace h:=bF hc9 h
  refine sw_skip ?_
  refine sw_seq ?_
  refine rg j0<|u<|fa ti62 j0 j0 j0<|u<|ld ti4 j0 j0<|r_nil ?_
  refine sw_cond j0 (fun hc10=>?_) (fun hc10=>?_)
  ·
   replace h:=bT hc10 h
   refine rg j0<|u<|ld ti62 j0 j0<|u<|pc (class_empty_ok v1 j0) j0 j0 j0<|u<|asg j0<|r_nil ?_
   refine sw_ret ?_
   obtain rfl:=sm h
   exact ⟨_,j0,[],ci j0,j0,j5,j0,j1⟩
  ·
   replace h:=bF hc10 h
   refine sw_skip ?_
   refine sw_seq ?_
   refine rg j0<|u<|fa ti62 j0 j0 j0<|u<|ld ti9 j0 j0<|u<|seq ti9 j0 j0<|u<|mv j0<|r_and (j:=3) 14 j0 j0 j0 j0 j0 gpn (fun hb11=>g j0 hb11<|fa ti62 j0 j0 j0<|g j0 hb11<|ld ti4 j0 j0<|g j0 hb11<|nt j0<|g j0 hb11<|mv j0<|r_or (j:=7) 4 j0 j0 j0 j0 j0 (gps j0 j0 hb11) (fun hb12=>g j0 hb12<|fa ti62 j0 j0 j0<|g j0 hb12<|ld ti32 j0 j0<|g j0 hb12<|lnI ti32 j0 j0<|g j0 hb12<|gtr ti3 j0 j0<|r_nil (egO [37,38,39,40] 4 hb12 j0 j0 j0 j0)) orT<|g j0 hb11<|mv j0<|r_or (j:=13) 3 j0 j0 j0 j0 j0 (gps j0 j0 hb11) (fun hb13=>g j0 hb13<|fa ti62 j0 j0 j0<|g j0 hb13<|ld ti9 j0 j0<|g j0 hb13<|sne ti9 j0 j0<|r_nil (egO [43,44,45] 3 hb13 j0 j0 j0 j0)) orT<|r_nil (egA [33,34,35,36,37,38,39,40,41,42,43,44,45,46] 7 hb11 j0 j0 j0 j0)) andF<|r_nil ?_
   refine sw_cond j0 (fun hc14=>?_) (fun hc14=>?_)
   ·
    replace h:=bT hc14 h
    refine rg j0<|u<|asg j0<|r_nil ?_
    refine sw_ret ?_
    obtain rfl:=sm h
    exact ⟨_,j0,[],ci j0,j0,j5,j0,j1⟩
   ·
    replace h:=bF hc14 h
    refine sw_skip ?_
    refine sw_meet (X:=Bool) (fun z=>[(2,bA z)]) (fun z=>[]) (fun z=>class_method_j1 z = some r) ?_ ?_
    ·
     rcases bb (class_between v1.Locals (class_args v1) 16) with hb15 | hb15
     ·
      replace h:=bT hb15 h
      rcases bb (class_between v1.Stack 0 16) with hb16 | hb16
      ·
       replace h:=bT hb16 h
       obtain ⟨v7,q17,h⟩:=bs h
       rcases bb v7 with hb18 | hb18
       ·
        replace h:=bT hb18 h
        obtain ⟨v8,q19,h⟩:=bs h
        rcases bb v8 with hb20 | hb20
        ·
         replace h:=bT hb20 h
         obtain ⟨v9,q21,h⟩:=bs h
         exact sw_region_dt [] [22,21,20,19,18,17,16,15,14,13,12,11,10,9,8,7,6,5,4,3,2,1,0] [(2,bA v9),(69,bA v9),(68,bA v9),(67,.agg [sA v1.Name,.isl 1 (List.map rStr v1.Params),sA v1.Ret,bA v1.Static,bA v1.Abstract,iA v1.Locals,iA v1.Stack,.isl 4 (List.map rApiIns v1.Code),.isl 3 (List.map rApiMap v1.Maps),.isl 4 (List.map rApiTrap v1.Traps)]),(66,bA v8),(65,bA v8),(64,bA v8),(63,.agg [sA v1.Name,.isl 1 (List.map rStr v1.Params),sA v1.Ret,bA v1.Static,bA v1.Abstract,iA v1.Locals,iA v1.Stack,.isl 4 (List.map rApiIns v1.Code),.isl 3 (List.map rApiMap v1.Maps),.isl 4 (List.map rApiTrap v1.Traps)]),(62,bA v7),(61,bA v7),(60,bA v7),(59,.agg [sA v1.Name,.isl 1 (List.map rStr v1.Params),sA v1.Ret,bA v1.Static,bA v1.Abstract,iA v1.Locals,iA v1.Stack,.isl 4 (List.map rApiIns v1.Code),.isl 3 (List.map rApiMap v1.Maps),.isl 4 (List.map rApiTrap v1.Traps)]),(58,bA (class_between v1.Stack 0 16)),(57,bA (class_between v1.Stack 0 16)),(56,bA (class_between v1.Stack 0 16)),(55,iA v1.Stack),(54,.mpt 0 0 6),(53,bA (class_between v1.Locals (class_args v1) 16)),(52,bA (class_between v1.Locals (class_args v1) 16)),(51,iA (class_args v1)),(50,.agg [sA v1.Name,.isl 1 (List.map rStr v1.Params),sA v1.Ret,bA v1.Static,bA v1.Abstract,iA v1.Locals,iA v1.Stack,.isl 4 (List.map rApiIns v1.Code),.isl 3 (List.map rApiMap v1.Maps),.isl 4 (List.map rApiTrap v1.Traps)]),(49,iA v1.Locals),(48,.mpt 0 0 5)] 0 (by kernel_rfl) (by kernel_rfl) j0 (by kernel_rfl) (dt0 ⟨(fun _=>pa j0 j0 j0 j0 (asg j0<|j4)),(fun _=>pa j0 j0 j0 j0 (pkb j0 hb20 j0<|j4)),(fun _=>pag (b:=v8) j0 j0 j0 j0 hb20 j0 (pc (class_traps_ok v1 q21) j0 j0 j0<|j4)),(fun _=>pag (b:=v8) j0 j0 j0 j0 hb20 j0 (ld ti62 j0 j0<|j4)),(fun _=>pa j0 j0 j0 j0 (mv j0<|j4)),(fun _=>pa j0 j0 j0 j0 (pkb j0 hb18 j0<|j4)),(fun _=>pag (b:=v7) j0 j0 j0 j0 hb18 j0 (pc (class_maps_ok v1 q19) j0 j0 j0<|j4)),(fun _=>pag (b:=v7) j0 j0 j0 j0 hb18 j0 (ld ti62 j0 j0<|j4)),(fun _=>pa j0 j0 j0 j0 (mv j0<|j4)),(fun _=>pa j0 j0 j0 j0 (pkb j0 hb16 j0<|j4)),(fun _=>pag (b:=(class_between v1.Stack 0 16)) j0 j0 j0 j0 hb16 j0 (pc (class_instructions_ok v1 q17) j0 j0 j0<|j4)),(fun _=>pag (b:=(class_between v1.Stack 0 16)) j0 j0 j0 j0 hb16 j0 (ld ti62 j0 j0<|j4)),(fun _=>pa j0 j0 j0 j0 (mv j0<|j4)),(fun _=>pa j0 j0 j0 j0 (pkb j0 hb15 j0<|j4)),(fun _=>pag (b:=(class_between v1.Locals (class_args v1) 16)) j0 j0 j0 j0 hb15 j0 (pc (class_between_ok v1.Stack 0 16 j0) j0 j0 j0<|j4)),(fun _=>pag (b:=(class_between v1.Locals (class_args v1) 16)) j0 j0 j0 j0 hb15 j0 (ld ti3 j0 j0<|j4)),(fun _=>pag (b:=(class_between v1.Locals (class_args v1) 16)) j0 j0 j0 j0 hb15 j0 (fa ti62 j0 j0 j0<|j4)),(fun _=>pa j0 j0 j0 j0 (mv j0<|j4)),(fun _=>pa j0 j0 j0 j0 (pc (class_between_ok v1.Locals (class_args v1) 16 j0) j0 j0 j0<|j4)),(fun _=>pa j0 j0 j0 j0 (pc (class_args_ok v1 j0) j0 j0 j0<|j4)),(fun _=>pa j0 j0 j0 j0 (ld ti62 j0 j0<|j4)),(fun _=>pa j0 j0 j0 j0 (ld ti3 j0 j0<|j4)),(fun _=>pa j0 j0 j0 j0 (fa ti62 j0 j0 j0<|j4)),j5⟩ (by kernel_rfl) j0 ⟨v9,h,[],ce j0 j0<|cn,j0,j5,j0,j1⟩)
        ·
         replace h:=bF hb20 h
         exact sw_region_dt [] [22,21,20,19,18,17,16,15,14,13,12,11,10,9,8,7,6,5,4,3,2,1,0] [(2,bA false),(69,bA false),(68,.lit undef),(67,.lit undef),(66,bA v8),(65,bA v8),(64,bA v8),(63,.agg [sA v1.Name,.isl 1 (List.map rStr v1.Params),sA v1.Ret,bA v1.Static,bA v1.Abstract,iA v1.Locals,iA v1.Stack,.isl 4 (List.map rApiIns v1.Code),.isl 3 (List.map rApiMap v1.Maps),.isl 4 (List.map rApiTrap v1.Traps)]),(62,bA v7),(61,bA v7),(60,bA v7),(59,.agg [sA v1.Name,.isl 1 (List.map rStr v1.Params),sA v1.Ret,bA v1.Static,bA v1.Abstract,iA v1.Locals,iA v1.Stack,.isl 4 (List.map rApiIns v1.Code),.isl 3 (List.map rApiMap v1.Maps),.isl 4 (List.map rApiTrap v1.Traps)]),(58,bA (class_between v1.Stack 0 16)),(57,bA (class_between v1.Stack 0 16)),(56,bA (class_between v1.Stack 0 16)),(55,iA v1.Stack),(54,.mpt 0 0 6),(53,bA (class_between v1.Locals (class_args v1) 16)),(52,bA (class_between v1.Locals (class_args v1) 16)),(51,iA (class_args v1)),(50,.agg [sA v1.Name,.isl 1 (List.map rStr v1.Params),sA v1.Ret,bA v1.Static,bA v1.Abstract,iA v1.Locals,iA v1.Stack,.isl 4 (List.map rApiIns v1.Code),.isl 3 (List.map rApiMap v1.Maps),.isl 4 (List.map rApiTrap v1.Traps)]),(49,iA v1.Locals),(48,.mpt 0 0 5)] 0 (by kernel_rfl) (by kernel_rfl) j0 (by kernel_rfl) (dt0 ⟨(fun _=>pa j0 j0 j0 j0 (asg j0<|j4)),(fun _=>pa j0 j0 j0 j0 (pkb j0 hb20 j0<|j4)),(fun _=>pas (b:=v8) j0 j0 j0 j0 hb20 j0),(fun _=>pas (b:=v8) j0 j0 j0 j0 hb20 j0),(fun _=>pa j0 j0 j0 j0 (mv j0<|j4)),(fun _=>pa j0 j0 j0 j0 (pkb j0 hb18 j0<|j4)),(fun _=>pag (b:=v7) j0 j0 j0 j0 hb18 j0 (pc (class_maps_ok v1 q19) j0 j0 j0<|j4)),(fun _=>pag (b:=v7) j0 j0 j0 j0 hb18 j0 (ld ti62 j0 j0<|j4)),(fun _=>pa j0 j0 j0 j0 (mv j0<|j4)),(fun _=>pa j0 j0 j0 j0 (pkb j0 hb16 j0<|j4)),(fun _=>pag (b:=(class_between v1.Stack 0 16)) j0 j0 j0 j0 hb16 j0 (pc (class_instructions_ok v1 q17) j0 j0 j0<|j4)),(fun _=>pag (b:=(class_between v1.Stack 0 16)) j0 j0 j0 j0 hb16 j0 (ld ti62 j0 j0<|j4)),(fun _=>pa j0 j0 j0 j0 (mv j0<|j4)),(fun _=>pa j0 j0 j0 j0 (pkb j0 hb15 j0<|j4)),(fun _=>pag (b:=(class_between v1.Locals (class_args v1) 16)) j0 j0 j0 j0 hb15 j0 (pc (class_between_ok v1.Stack 0 16 j0) j0 j0 j0<|j4)),(fun _=>pag (b:=(class_between v1.Locals (class_args v1) 16)) j0 j0 j0 j0 hb15 j0 (ld ti3 j0 j0<|j4)),(fun _=>pag (b:=(class_between v1.Locals (class_args v1) 16)) j0 j0 j0 j0 hb15 j0 (fa ti62 j0 j0 j0<|j4)),(fun _=>pa j0 j0 j0 j0 (mv j0<|j4)),(fun _=>pa j0 j0 j0 j0 (pc (class_between_ok v1.Locals (class_args v1) 16 j0) j0 j0 j0<|j4)),(fun _=>pa j0 j0 j0 j0 (pc (class_args_ok v1 j0) j0 j0 j0<|j4)),(fun _=>pa j0 j0 j0 j0 (ld ti62 j0 j0<|j4)),(fun _=>pa j0 j0 j0 j0 (ld ti3 j0 j0<|j4)),(fun _=>pa j0 j0 j0 j0 (fa ti62 j0 j0 j0<|j4)),j5⟩ (by kernel_rfl) j0 ⟨false,h,[],ce j0 j0<|cn,j0,j5,j0,j1⟩)
       ·
        replace h:=bF hb18 h
        exact sw_region_dt [] [22,21,20,19,18,17,16,15,14,13,12,11,10,9,8,7,6,5,4,3,2,1,0] [(2,bA false),(69,bA false),(68,.lit undef),(67,.lit undef),(66,bA false),(65,bA false),(64,.lit undef),(63,.lit undef),(62,bA v7),(61,bA v7),(60,bA v7),(59,.agg [sA v1.Name,.isl 1 (List.map rStr v1.Params),sA v1.Ret,bA v1.Static,bA v1.Abstract,iA v1.Locals,iA v1.Stack,.isl 4 (List.map rApiIns v1.Code),.isl 3 (List.map rApiMap v1.Maps),.isl 4 (List.map rApiTrap v1.Traps)]),(58,bA (class_between v1.Stack 0 16)),(57,bA (class_between v1.Stack 0 16)),(56,bA (class_between v1.Stack 0 16)),(55,iA v1.Stack),(54,.mpt 0 0 6),(53,bA (class_between v1.Locals (class_args v1) 16)),(52,bA (class_between v1.Locals (class_args v1) 16)),(51,iA (class_args v1)),(50,.agg [sA v1.Name,.isl 1 (List.map rStr v1.Params),sA v1.Ret,bA v1.Static,bA v1.Abstract,iA v1.Locals,iA v1.Stack,.isl 4 (List.map rApiIns v1.Code),.isl 3 (List.map rApiMap v1.Maps),.isl 4 (List.map rApiTrap v1.Traps)]),(49,iA v1.Locals),(48,.mpt 0 0 5)] 0 (by kernel_rfl) (by kernel_rfl) j0 (by kernel_rfl) (dt0 ⟨(fun _=>pa j0 j0 j0 j0 (asg j0<|j4)),(fun _=>pa j0 j0 j0 j0 (pk (b:=false) j0 j0<|j4)),(fun _=>pas (b:=false) j0 j0 j0 j0 j0 j0),(fun _=>pas (b:=false) j0 j0 j0 j0 j0 j0),(fun _=>pa j0 j0 j0 j0 (mv j0<|j4)),(fun _=>pa j0 j0 j0 j0 (pkb j0 hb18 j0<|j4)),(fun _=>pas (b:=v7) j0 j0 j0 j0 hb18 j0),(fun _=>pas (b:=v7) j0 j0 j0 j0 hb18 j0),(fun _=>pa j0 j0 j0 j0 (mv j0<|j4)),(fun _=>pa j0 j0 j0 j0 (pkb j0 hb16 j0<|j4)),(fun _=>pag (b:=(class_between v1.Stack 0 16)) j0 j0 j0 j0 hb16 j0 (pc (class_instructions_ok v1 q17) j0 j0 j0<|j4)),(fun _=>pag (b:=(class_between v1.Stack 0 16)) j0 j0 j0 j0 hb16 j0 (ld ti62 j0 j0<|j4)),(fun _=>pa j0 j0 j0 j0 (mv j0<|j4)),(fun _=>pa j0 j0 j0 j0 (pkb j0 hb15 j0<|j4)),(fun _=>pag (b:=(class_between v1.Locals (class_args v1) 16)) j0 j0 j0 j0 hb15 j0 (pc (class_between_ok v1.Stack 0 16 j0) j0 j0 j0<|j4)),(fun _=>pag (b:=(class_between v1.Locals (class_args v1) 16)) j0 j0 j0 j0 hb15 j0 (ld ti3 j0 j0<|j4)),(fun _=>pag (b:=(class_between v1.Locals (class_args v1) 16)) j0 j0 j0 j0 hb15 j0 (fa ti62 j0 j0 j0<|j4)),(fun _=>pa j0 j0 j0 j0 (mv j0<|j4)),(fun _=>pa j0 j0 j0 j0 (pc (class_between_ok v1.Locals (class_args v1) 16 j0) j0 j0 j0<|j4)),(fun _=>pa j0 j0 j0 j0 (pc (class_args_ok v1 j0) j0 j0 j0<|j4)),(fun _=>pa j0 j0 j0 j0 (ld ti62 j0 j0<|j4)),(fun _=>pa j0 j0 j0 j0 (ld ti3 j0 j0<|j4)),(fun _=>pa j0 j0 j0 j0 (fa ti62 j0 j0 j0<|j4)),j5⟩ (by kernel_rfl) j0 ⟨false,h,[],ce j0 j0<|cn,j0,j5,j0,j1⟩)
      ·
       replace h:=bF hb16 h
       exact sw_region_dt [] [22,21,20,19,18,17,16,15,14,13,12,11,10,9,8,7,6,5,4,3,2,1,0] [(2,bA false),(69,bA false),(68,.lit undef),(67,.lit undef),(66,bA false),(65,bA false),(64,.lit undef),(63,.lit undef),(62,bA false),(61,bA false),(60,.lit undef),(59,.lit undef),(58,bA (class_between v1.Stack 0 16)),(57,bA (class_between v1.Stack 0 16)),(56,bA (class_between v1.Stack 0 16)),(55,iA v1.Stack),(54,.mpt 0 0 6),(53,bA (class_between v1.Locals (class_args v1) 16)),(52,bA (class_between v1.Locals (class_args v1) 16)),(51,iA (class_args v1)),(50,.agg [sA v1.Name,.isl 1 (List.map rStr v1.Params),sA v1.Ret,bA v1.Static,bA v1.Abstract,iA v1.Locals,iA v1.Stack,.isl 4 (List.map rApiIns v1.Code),.isl 3 (List.map rApiMap v1.Maps),.isl 4 (List.map rApiTrap v1.Traps)]),(49,iA v1.Locals),(48,.mpt 0 0 5)] 0 (by kernel_rfl) (by kernel_rfl) j0 (by kernel_rfl) (dt0 ⟨(fun _=>pa j0 j0 j0 j0 (asg j0<|j4)),(fun _=>pa j0 j0 j0 j0 (pk (b:=false) j0 j0<|j4)),(fun _=>pas (b:=false) j0 j0 j0 j0 j0 j0),(fun _=>pas (b:=false) j0 j0 j0 j0 j0 j0),(fun _=>pa j0 j0 j0 j0 (mv j0<|j4)),(fun _=>pa j0 j0 j0 j0 (pk (b:=false) j0 j0<|j4)),(fun _=>pas (b:=false) j0 j0 j0 j0 j0 j0),(fun _=>pas (b:=false) j0 j0 j0 j0 j0 j0),(fun _=>pa j0 j0 j0 j0 (mv j0<|j4)),(fun _=>pa j0 j0 j0 j0 (pkb j0 hb16 j0<|j4)),(fun _=>pas (b:=(class_between v1.Stack 0 16)) j0 j0 j0 j0 hb16 j0),(fun _=>pas (b:=(class_between v1.Stack 0 16)) j0 j0 j0 j0 hb16 j0),(fun _=>pa j0 j0 j0 j0 (mv j0<|j4)),(fun _=>pa j0 j0 j0 j0 (pkb j0 hb15 j0<|j4)),(fun _=>pag (b:=(class_between v1.Locals (class_args v1) 16)) j0 j0 j0 j0 hb15 j0 (pc (class_between_ok v1.Stack 0 16 j0) j0 j0 j0<|j4)),(fun _=>pag (b:=(class_between v1.Locals (class_args v1) 16)) j0 j0 j0 j0 hb15 j0 (ld ti3 j0 j0<|j4)),(fun _=>pag (b:=(class_between v1.Locals (class_args v1) 16)) j0 j0 j0 j0 hb15 j0 (fa ti62 j0 j0 j0<|j4)),(fun _=>pa j0 j0 j0 j0 (mv j0<|j4)),(fun _=>pa j0 j0 j0 j0 (pc (class_between_ok v1.Locals (class_args v1) 16 j0) j0 j0 j0<|j4)),(fun _=>pa j0 j0 j0 j0 (pc (class_args_ok v1 j0) j0 j0 j0<|j4)),(fun _=>pa j0 j0 j0 j0 (ld ti62 j0 j0<|j4)),(fun _=>pa j0 j0 j0 j0 (ld ti3 j0 j0<|j4)),(fun _=>pa j0 j0 j0 j0 (fa ti62 j0 j0 j0<|j4)),j5⟩ (by kernel_rfl) j0 ⟨false,h,[],ce j0 j0<|cn,j0,j5,j0,j1⟩)
     ·
      replace h:=bF hb15 h
      exact sw_region_dt [] [22,21,20,19,18,17,16,15,14,13,12,11,10,9,8,7,6,5,4,3,2,1,0] [(2,bA false),(69,bA false),(68,.lit undef),(67,.lit undef),(66,bA false),(65,bA false),(64,.lit undef),(63,.lit undef),(62,bA false),(61,bA false),(60,.lit undef),(59,.lit undef),(58,bA false),(57,bA false),(56,.lit undef),(55,.lit undef),(54,.lit undef),(53,bA (class_between v1.Locals (class_args v1) 16)),(52,bA (class_between v1.Locals (class_args v1) 16)),(51,iA (class_args v1)),(50,.agg [sA v1.Name,.isl 1 (List.map rStr v1.Params),sA v1.Ret,bA v1.Static,bA v1.Abstract,iA v1.Locals,iA v1.Stack,.isl 4 (List.map rApiIns v1.Code),.isl 3 (List.map rApiMap v1.Maps),.isl 4 (List.map rApiTrap v1.Traps)]),(49,iA v1.Locals),(48,.mpt 0 0 5)] 0 (by kernel_rfl) (by kernel_rfl) j0 (by kernel_rfl) (dt0 ⟨(fun _=>pa j0 j0 j0 j0 (asg j0<|j4)),(fun _=>pa j0 j0 j0 j0 (pk (b:=false) j0 j0<|j4)),(fun _=>pas (b:=false) j0 j0 j0 j0 j0 j0),(fun _=>pas (b:=false) j0 j0 j0 j0 j0 j0),(fun _=>pa j0 j0 j0 j0 (mv j0<|j4)),(fun _=>pa j0 j0 j0 j0 (pk (b:=false) j0 j0<|j4)),(fun _=>pas (b:=false) j0 j0 j0 j0 j0 j0),(fun _=>pas (b:=false) j0 j0 j0 j0 j0 j0),(fun _=>pa j0 j0 j0 j0 (mv j0<|j4)),(fun _=>pa j0 j0 j0 j0 (pk (b:=false) j0 j0<|j4)),(fun _=>pas (b:=false) j0 j0 j0 j0 j0 j0),(fun _=>pas (b:=false) j0 j0 j0 j0 j0 j0),(fun _=>pa j0 j0 j0 j0 (mv j0<|j4)),(fun _=>pa j0 j0 j0 j0 (pkb j0 hb15 j0<|j4)),(fun _=>pas (b:=(class_between v1.Locals (class_args v1) 16)) j0 j0 j0 j0 hb15 j0),(fun _=>pas (b:=(class_between v1.Locals (class_args v1) 16)) j0 j0 j0 j0 hb15 j0),(fun _=>pas (b:=(class_between v1.Locals (class_args v1) 16)) j0 j0 j0 j0 hb15 j0),(fun _=>pa j0 j0 j0 j0 (mv j0<|j4)),(fun _=>pa j0 j0 j0 j0 (pc (class_between_ok v1.Locals (class_args v1) 16 j0) j0 j0 j0<|j4)),(fun _=>pa j0 j0 j0 j0 (pc (class_args_ok v1 j0) j0 j0 j0<|j4)),(fun _=>pa j0 j0 j0 j0 (ld ti62 j0 j0<|j4)),(fun _=>pa j0 j0 j0 j0 (ld ti3 j0 j0<|j4)),(fun _=>pa j0 j0 j0 j0 (fa ti62 j0 j0 j0<|j4)),j5⟩ (by kernel_rfl) j0 ⟨false,h,[],ce j0 j0<|cn,j0,j5,j0,j1⟩)
    ·
     rintro v10 h
     replace h : class_method_j1 v10 = some r:=h
     unfold class_method_j1 at h
     refine sw_ret ?_
     obtain rfl:=sm h
     exact ⟨_,j0,[],ci j0,j0,j5,j0,j1⟩
def class_May_4 (v1 : ApiMethod) (v2 : List UInt8) (v3 : List UInt8) (v4 : Bool) (v5 : List (List UInt8)) (v6 : List ApiField) (v7 : List ApiMethod) : Option (Bool) :=
  (cond (v1.Abstract == v4) ((class_method v1).bind fun v8=>some v8) (some false)).bind fun v9=>some v9
theorem class_May_4_ok (v1 : ApiMethod) (v2 : List UInt8) (v3 : List UInt8) (v4 : Bool) (v5 : List (List UInt8)) (v6 : List ApiField) (v7 : List ApiMethod) {r : Bool} (h : class_May_4 v1 v2 v3 v4 v5 v6 v7 = some r) : PureC Tryz.prog 100 [.agg [sA v1.Name,.isl 1 (List.map rStr v1.Params),sA v1.Ret,bA v1.Static,bA v1.Abstract,iA v1.Locals,iA v1.Stack,.isl 4 (List.map rApiIns v1.Code),.isl 3 (List.map rApiMap v1.Maps),.isl 4 (List.map rApiTrap v1.Traps)],.ipt 6 [[sA v2,sA v3,bA v4,.isl 1 (List.map rStr v5),.isl 3 (List.map rApiField v6),.isl 10 (List.map rApiMethod v7)]] 0 0] (bA r):=by
 refine pure_fn Tryz.func100 j0 (by kernel_rfl) j0 j0 ?_
 unfold class_May_4 at h
 refine rg j0<|u<|bx 0 10 j0 j0 j0 j0<|u<|asg j0<|r_nil ?_
 obtain ⟨v9,q3,h⟩:=bs h
 refine rg j0<|u<|fa ti62 j0 j0 j0<|u<|ld ti4 j0 j0<|u<|fa ti42 j0 j0 j0<|u<|ld ti4 j0 j0<|u<|beq ti4 j0 j0 j0<|u<|mv j0<|r_and (x:=v9) (j:=5) 2 j0 j0 j0 j0 j0 gpn (fun hb1=>by replace q3:=bT hb1 q3; obtain ⟨v8,q2,q3⟩:=bs q3; obtain rfl:=sm q3; exact g j0 hb1<|ld ti62 j0 j0<|g j0 hb1<|pc (class_method_ok v1 q2) j0 j0 j0<|r_nil (eg [10,11] 2 j0 j0 j0 j0)) (fun hb=>(sm (bF hb q3)).symm)<|u<|asg j0<|r_nil ?_
 refine sw_ret ?_
 obtain rfl:=sm h
 exact ⟨_,j0,[],ci j0,j0,j5,j0,j1⟩
def class_May_3 (v1 : ApiMethod) : (List UInt8) :=
  v1.Name
theorem class_May_3_ok (v1 : ApiMethod) {r : (List UInt8)} (h : class_May_3 v1 = r) : PureC Tryz.prog 99 [.agg [sA v1.Name,.isl 1 (List.map rStr v1.Params),sA v1.Ret,bA v1.Static,bA v1.Abstract,iA v1.Locals,iA v1.Stack,.isl 4 (List.map rApiIns v1.Code),.isl 3 (List.map rApiMap v1.Maps),.isl 4 (List.map rApiTrap v1.Traps)]] (sA r):=by
 refine pure_fn Tryz.func99 j0 (by kernel_rfl) j0 j0 ?_
 unfold class_May_3 at h
 refine rg j0<|u<|bx 0 10 j0 j0 j0 j0<|u<|asg j0<|r_nil ?_
 refine rg j0<|u<|fa ti62 j0 j0 j0<|u<|ld ti9 j0 j0<|u<|asg j0<|r_nil ?_
 refine sw_ret ?_
 obtain rfl:=h
 exact ⟨_,j0,[],ci j0,j0,j5,j0,j1⟩
def class_all_api_Method_1 (v1 : ApiMethod) (v2 : List UInt8) (v3 : List (List UInt8)) (v4 : List UInt8) (v5 : Bool) (v6 : Bool) (v7 : Int) (v8 : Int) (v9 : List ApiIns) (v10 : List ApiMap) (v11 : List ApiTrap) : Bool :=
  ((class_May_3 (ApiMethod.mk v2 v3 v4 v5 v6 v7 v8 v9 v10 v11)) == (class_May_3 v1))
theorem class_all_api_Method_1_ok (v1 : ApiMethod) (v2 : List UInt8) (v3 : List (List UInt8)) (v4 : List UInt8) (v5 : Bool) (v6 : Bool) (v7 : Int) (v8 : Int) (v9 : List ApiIns) (v10 : List ApiMap) (v11 : List ApiTrap) {r : Bool} (h : class_all_api_Method_1 v1 v2 v3 v4 v5 v6 v7 v8 v9 v10 v11 = r) : PureC Tryz.prog 128 [.agg [sA v1.Name,.isl 1 (List.map rStr v1.Params),sA v1.Ret,bA v1.Static,bA v1.Abstract,iA v1.Locals,iA v1.Stack,.isl 4 (List.map rApiIns v1.Code),.isl 3 (List.map rApiMap v1.Maps),.isl 4 (List.map rApiTrap v1.Traps)],.ipt 1 [[.fn (.func 99) [] []]] 0 0,.ipt 10 [[sA v2,.isl 1 (List.map rStr v3),sA v4,bA v5,bA v6,iA v7,iA v8,.isl 4 (List.map rApiIns v9),.isl 3 (List.map rApiMap v10),.isl 4 (List.map rApiTrap v11)]] 0 0] (bA r):=by
 refine pure_fn Tryz.func128 j0 (by kernel_rfl) j0 j0 ?_
 unfold class_all_api_Method_1 at h
 refine rg j0<|u<|bx 0 10 j0 j0 j0 j0<|u<|asg j0<|r_nil ?_
 refine rd [(4,bA ((class_May_3 (ApiMethod.mk v2 v3 v4 v5 v6 v7 v8 v9 v10 v11)) == (class_May_3 v1)))] [] [] [7,6,5,4,3,2,1,0] [(4,bA ((class_May_3 (ApiMethod.mk v2 v3 v4 v5 v6 v7 v8 v9 v10 v11)) == (class_May_3 v1))),(11,bA ((class_May_3 (ApiMethod.mk v2 v3 v4 v5 v6 v7 v8 v9 v10 v11)) == (class_May_3 v1))),(10,sA (class_May_3 v1)),(9,.agg [sA v1.Name,.isl 1 (List.map rStr v1.Params),sA v1.Ret,bA v1.Static,bA v1.Abstract,iA v1.Locals,iA v1.Stack,.isl 4 (List.map rApiIns v1.Code),.isl 3 (List.map rApiMap v1.Maps),.isl 4 (List.map rApiTrap v1.Traps)]),(8,.fn (.func 99) [] []),(7,sA (class_May_3 (ApiMethod.mk v2 v3 v4 v5 v6 v7 v8 v9 v10 v11))),(6,.agg [sA v2,.isl 1 (List.map rStr v3),sA v4,bA v5,bA v6,iA v7,iA v8,.isl 4 (List.map rApiIns v9),.isl 3 (List.map rApiMap v10),.isl 4 (List.map rApiTrap v11)]),(5,.fn (.func 99) [] [])] 0 (by kernel_rfl) (by kernel_rfl) j0 (by kernel_rfl) (dt0 ⟨(fun _=>pa j0 j0 j0 j0 (asg j0<|j4)),(fun _=>pa j0 j0 j0 j0 (seq ti9 j0 j0<|j4)),(fun _=>pa j0 j0 j0 j0 (pc (class_May_3_ok v1 j0) j0 j0 j0<|j4)),(fun _=>pa j0 j0 j0 j0 (ld ti62 j0 j0<|j4)),(fun _=>pa j0 j0 j0 j0 (ld ti116 j0 j0<|j4)),(fun _=>pa j0 j0 j0 j0 (pc (class_May_3_ok (ApiMethod.mk v2 v3 v4 v5 v6 v7 v8 v9 v10 v11) j0) j0 j0 j0<|j4)),(fun _=>pa j0 j0 j0 j0 (ld ti62 j0 j0<|j4)),(fun _=>pa j0 j0 j0 j0 (ld ti116 j0 j0<|j4)),j5⟩ (by kernel_rfl) j0 ⟨[],ce j0 j0<|cn,j0,j5,j0,j1⟩) ?_
 refine sw_ret ?_
 obtain rfl:=h
 exact ⟨_,j0,[],ci j0,j0,j5,j0,j1⟩
def slices_IndexFunc_api_Method_api_Method_k2 : Option (Int) :=
  some (-1)
def slices_IndexFunc_api_Method_api_Method_l1 (v1 : List ApiMethod) (v2 : List UInt8) (v3 : List (List UInt8)) (v4 : List UInt8) (v5 : Bool) (v6 : Bool) (v7 : Int) (v8 : Int) (v9 : List ApiIns) (v10 : List ApiMap) (v11 : List ApiTrap) (v14 : Int) : Option (Sum (Int) (Sum (Unit) (Int))) :=
  cond (decide (v14 < (List.length v1 : Int))) ((idx v1 v14).bind fun v15=>cond (class_all_api_Method_1 v15 v2 v3 v4 v5 v6 v7 v8 v9 v10 v11) (some (.inr (.inr v14))) (some (.inl (IntKind.i64.wrap (v14 + 1))))) (some (.inr (.inl ())))
def slices_IndexFunc_api_Method_api_Method (v1 : List ApiMethod) (v2 : List UInt8) (v3 : List (List UInt8)) (v4 : List UInt8) (v5 : Bool) (v6 : Bool) (v7 : Int) (v8 : Int) (v9 : List ApiIns) (v10 : List ApiMap) (v11 : List ApiTrap) : Option (Int) :=
  (loopP (fun z=>slices_IndexFunc_api_Method_api_Method_l1 v1 v2 v3 v4 v5 v6 v7 v8 v9 v10 v11 z) 0).bind fun o=>leave o (fun b=>slices_IndexFunc_api_Method_api_Method_k2) some
theorem slices_IndexFunc_api_Method_api_Method_ok (v1 : List ApiMethod) (v2 : List UInt8) (v3 : List (List UInt8)) (v4 : List UInt8) (v5 : Bool) (v6 : Bool) (v7 : Int) (v8 : Int) (v9 : List ApiIns) (v10 : List ApiMap) (v11 : List ApiTrap) {r : Int} (h : slices_IndexFunc_api_Method_api_Method v1 v2 v3 v4 v5 v6 v7 v8 v9 v10 v11 = some r) : PureC Tryz.prog 158 [.isl 10 (List.map rApiMethod v1),.fn (.func 128) [] [.ipt 1 [[.fn (.func 99) [] []]] 0 0,.ipt 10 [[sA v2,.isl 1 (List.map rStr v3),sA v4,bA v5,bA v6,iA v7,iA v8,.isl 4 (List.map rApiIns v9),.isl 3 (List.map rApiMap v10),.isl 4 (List.map rApiTrap v11)]] 0 0]] (iA r):=by
 refine pure_fn Tryz.func158 j0 (by kernel_rfl) j0 j0 ?_
 unfold slices_IndexFunc_api_Method_api_Method at h
 refine rg j0<|u<|asg j0<|r_nil ?_
 refine sw_seq ?_
 refine rg j0<|u<|mv j0<|u<|lnI ti40 j0 j0<|u<|mv j0<|r_nil ?_
 obtain ⟨o,ho,h⟩:=bs h
 refine sw_lpl (X:=Int) (B:=Unit) (R:=Int) (fun z=>[(0,.isl 10 (List.map rApiMethod v1)),(1,.fn (.func 128) [] [.ipt 1 [[.fn (.func 99) [] []]] 0 0,.ipt 10 [[sA v2,.isl 1 (List.map rStr v3),sA v4,bA v5,bA v6,iA v7,iA v8,.isl 4 (List.map rApiIns v9),.isl 3 (List.map rApiMap v10),.isl 4 (List.map rApiTrap v11)]] 0 0]),(7,iA (List.length v1 : Int)),(8,iA z)]) (fun z=>[]) (fun b=>[]) (fun b=>[]) (fun r env st=>PostF Tryz.prog Tryz.f158 0 (iA r) [] env st) ho ⟨[],ce j0 j0<|ce j0 j0<|ce j0 j0<|ce j0 j0<|cn,j0,j5,j0,j1⟩ ?_ ?_ ?_
 ·
  rintro v14 r h
  replace h : slices_IndexFunc_api_Method_api_Method_l1 v1 v2 v3 v4 v5 v6 v7 v8 v9 v10 v11 v14 = some r:=h
  unfold slices_IndexFunc_api_Method_api_Method_l1 at h
  refine rg j0<|u<|lss ti3 j0 j0<|r_nil ?_
  refine sw_seq ?_
  refine sw_cond j0 (fun hc4=>?_) (fun hc4=>?_)
  ·
   replace h:=bT hc4 h
   refine sw_skip ?_
   refine sw_seq ?_
   refine sw_block ?_
   refine rg j0<|u<|mv j0<|u<|asg j0<|r_nil ?_
   obtain ⟨v15,q5,h⟩:=bs h
   refine rg j0<|u<|mv j0<|u<|mv j0<|u<|mv j0<|u<|ixI ti40 j0 ti62 j0 j0 j0 q5<|u<|ldI ti62 j0 (idx_some q5).2.2 j0<|u<|pc (class_all_api_Method_1_ok v15 v2 v3 v4 v5 v6 v7 v8 v9 v10 v11 j0) j0 j0 j0<|r_nil ?_
   refine sw_cond j0 (fun hc6=>?_) (fun hc6=>?_)
   ·
    replace h:=bT hc6 h
    refine rg j0<|u<|mv j0<|u<|asg j0<|r_nil ?_
    refine sw_ret ?_
    obtain rfl:=sm h
    exact ⟨_,j0,_,j0,[],ci j0,j0,j5,j0,j1⟩
   ·
    replace h:=bF hc6 h
    refine sw_skip ?_
    refine rl j0<|u<|add ti3 j0 j0<|u<|mv j0<|r_nil ?_
    obtain rfl:=sm h
    exact ⟨_,j0,[],ce j0 j0<|ce j0 j0<|ce j0 j0<|ce j0 j0<|cn,j0,j5,j0,j1⟩
  ·
   replace h:=bF hc4 h
   refine sw_exit ?_
   obtain rfl:=sm h
   exact ⟨j0,_,j0,[],cn,j0,j5,j0,j1⟩
 ·
  rintro ⟨⟩ rfl
  replace h : slices_IndexFunc_api_Method_api_Method_k2 = some r:=h
  unfold slices_IndexFunc_api_Method_api_Method_k2 at h
  refine ow_intro ?_
  refine rg j0<|u<|asg j0<|r_nil ?_
  refine sw_ret ?_
  obtain rfl:=sm h
  exact ⟨_,j0,[],ci j0,j0,j5,j0,j1⟩
 ·
  rintro r' rfl env st hp
  obtain rfl:=sm h
  exact hp
def slices_ContainsFunc_api_Method_api_Method (v1 : List ApiMethod) (v2 : List UInt8) (v3 : List (List UInt8)) (v4 : List UInt8) (v5 : Bool) (v6 : Bool) (v7 : Int) (v8 : Int) (v9 : List ApiIns) (v10 : List ApiMap) (v11 : List ApiTrap) : Option (Bool) :=
  (slices_IndexFunc_api_Method_api_Method v1 v2 v3 v4 v5 v6 v7 v8 v9 v10 v11).bind fun v12=>some (decide (0 ≤ v12))
theorem slices_ContainsFunc_api_Method_api_Method_ok (v1 : List ApiMethod) (v2 : List UInt8) (v3 : List (List UInt8)) (v4 : List UInt8) (v5 : Bool) (v6 : Bool) (v7 : Int) (v8 : Int) (v9 : List ApiIns) (v10 : List ApiMap) (v11 : List ApiTrap) {r : Bool} (h : slices_ContainsFunc_api_Method_api_Method v1 v2 v3 v4 v5 v6 v7 v8 v9 v10 v11 = some r) : PureC Tryz.prog 127 [.isl 10 (List.map rApiMethod v1),.fn (.func 128) [] [.ipt 1 [[.fn (.func 99) [] []]] 0 0,.ipt 10 [[sA v2,.isl 1 (List.map rStr v3),sA v4,bA v5,bA v6,iA v7,iA v8,.isl 4 (List.map rApiIns v9),.isl 3 (List.map rApiMap v10),.isl 4 (List.map rApiTrap v11)]] 0 0]] (bA r):=by
 refine pure_fn Tryz.func127 j0 (by kernel_rfl) j0 j0 ?_
 unfold slices_ContainsFunc_api_Method_api_Method at h
 refine rg j0<|u<|asg j0<|r_nil ?_
 obtain ⟨v12,q1,h⟩:=bs h
 refine rg j0<|u<|mv j0<|u<|mv j0<|u<|pc (slices_IndexFunc_api_Method_api_Method_ok v1 v2 v3 v4 v5 v6 v7 v8 v9 v10 v11 q1) j0 j0 j0<|u<|geq ti3 j0 j0<|u<|asg j0<|r_nil ?_
 refine sw_ret ?_
 obtain rfl:=sm h
 exact ⟨_,j0,[],ci j0,j0,j5,j0,j1⟩
def class_all_api_Method_k2 (v1 : List ApiMethod) (v2 : Int) : Option (Bool) :=
  some (decide ((List.length v1 : Int) ≤ v2))
def class_all_api_Method_l1 (v1 : List ApiMethod) (v3 : List UInt8) (v4 : List UInt8) (v5 : Bool) (v6 : List (List UInt8)) (v7 : List ApiField) (v8 : List ApiMethod) (v15 : Int) : Option (Sum (Int) (Sum (Unit) (Bool))) :=
  cond (decide (v15 < (List.length v1 : Int))) ((idx v1 v15).bind fun v16=>(class_May_4 v16 v3 v4 v5 v6 v7 v8).bind fun v17=>(cond (!v17) (some true) ((cutP v1 0 v15).bind fun v18=>(slices_ContainsFunc_api_Method_api_Method v18 v16.Name v16.Params v16.Ret v16.Static v16.Abstract v16.Locals v16.Stack v16.Code v16.Maps v16.Traps).bind fun v19=>some v19)).bind fun v20=>cond v20 (some (.inr (.inr false))) (some (.inl (IntKind.i64.wrap (v15 + 1))))) (some (.inr (.inl ())))
def class_all_api_Method (v1 : List ApiMethod) (v2 : Int) (v3 : List UInt8) (v4 : List UInt8) (v5 : Bool) (v6 : List (List UInt8)) (v7 : List ApiField) (v8 : List ApiMethod) : Option (Bool) :=
  (loopP (fun z=>class_all_api_Method_l1 v1 v3 v4 v5 v6 v7 v8 z) 0).bind fun o=>leave o (fun b=>class_all_api_Method_k2 v1 v2) some
theorem class_all_api_Method_ok (v1 : List ApiMethod) (v2 : Int) (v3 : List UInt8) (v4 : List UInt8) (v5 : Bool) (v6 : List (List UInt8)) (v7 : List ApiField) (v8 : List ApiMethod) {r : Bool} (h : class_all_api_Method v1 v2 v3 v4 v5 v6 v7 v8 = some r) : PureC Tryz.prog 98 [.isl 10 (List.map rApiMethod v1),iA v2,.fn (.func 99) [] [],.fn (.func 100) [] [.ipt 6 [[sA v3,sA v4,bA v5,.isl 1 (List.map rStr v6),.isl 3 (List.map rApiField v7),.isl 10 (List.map rApiMethod v8)]] 0 0]] (bA r):=by
 refine pure_fn Tryz.func98 j0 (by kernel_rfl) j0 j0 ?_
 unfold class_all_api_Method at h
 refine rg j0<|u<|bx 0 1 j0 j0 j0 j0<|u<|asg j0<|r_nil ?_
 refine sw_seq ?_
 refine rg j0<|u<|mv j0<|u<|lnI ti40 j0 j0<|u<|mv j0<|r_nil ?_
 obtain ⟨o,ho,h⟩:=bs h
 refine sw_lpl (X:=Int) (B:=Unit) (R:=Bool) (fun z=>[(0,.isl 10 (List.map rApiMethod v1)),(1,iA v2),(3,.fn (.func 100) [] [.ipt 6 [[sA v3,sA v4,bA v5,.isl 1 (List.map rStr v6),.isl 3 (List.map rApiField v7),.isl 10 (List.map rApiMethod v8)]] 0 0]),(6,.mpt 0 0 0),(11,.isl 10 (List.map rApiMethod v1)),(12,iA (List.length v1 : Int)),(13,iA z)]) (fun z=>[some (1,[[.fn (.func 99) [] []]])]) (fun b=>[(0,.isl 10 (List.map rApiMethod v1)),(1,iA v2)]) (fun b=>[]) (fun r env st=>PostF Tryz.prog Tryz.f98 0 (bA r) [] env st) ho ⟨[.old 0],ce j0 j0<|ce j0 j0<|ce j0 j0<|cv j0 (.mpt j0)<|ce j0 j0<|ce j0 j0<|ce j0 j0<|cn,j0,⟨⟨_,j0,rsOne ⟨ci j0,j5⟩⟩,j5⟩,j0,j1⟩ ?_ ?_ ?_
 ·
  rintro v15 r h
  replace h : class_all_api_Method_l1 v1 v3 v4 v5 v6 v7 v8 v15 = some r:=h
  unfold class_all_api_Method_l1 at h
  refine rg j0<|u<|lss ti3 j0 j0<|r_nil ?_
  refine sw_seq ?_
  refine sw_cond j0 (fun hc9=>?_) (fun hc9=>?_)
  ·
   replace h:=bT hc9 h
   refine sw_skip ?_
   refine sw_seq ?_
   refine sw_block ?_
   obtain ⟨v16,q10,h⟩:=bs h
   refine rg j0<|u<|mv j0<|u<|ixI ti40 j0 ti62 j0 j0 j0 q10<|u<|ldI ti62 j0 (idx_some q10).2.2 j0<|u<|al 1 ti62 j0<|u<|asg j0<|u<|sto ti62 j0 j0 j0<|r_nil ?_
   obtain ⟨v17,q11,h⟩:=bs h
   obtain ⟨v20,q15,h⟩:=bs h
   refine rg j0<|u<|mv j0<|u<|ld ti62 j0 j0<|u<|pc (class_May_4_ok v16 v3 v4 v5 v6 v7 v8 q11) j0 j0 j0<|u<|nt j0<|u<|mv j0<|r_or (x:=v20) (j:=4) 5 j0 j0 j0 j0 j0 gpn (fun hb12=>by replace q15:=bF hb12 q15; obtain ⟨v18,q13,q15⟩:=bs q15; obtain ⟨v19,q14,q15⟩:=bs q15; obtain rfl:=sm q15; exact g j0 hb12<|mv j0<|g j0 hb12<|mv j0<|g j0 hb12<|slI (a:=0) (b:=v15) ti40 j0 ti62 j0 j0 j0 (bnd_hi j0 q13) q13<|g j0 hb12<|mf j0 j0<|g j0 hb12<|pcs (slices_ContainsFunc_api_Method_api_Method_ok v18 v16.Name v16.Params v16.Ret v16.Static v16.Abstract v16.Locals v16.Stack v16.Code v16.Maps v16.Traps q14) j0 j0 (.cons (si j0) (.cons (sealFn j5 ⟨(sealBox j0 ⟨(si j0),j5⟩),(sealBox j0 ⟨(si j0),(si j0),(si j0),(si j0),(si j0),(si j0),(si j0),(si j0),(si j0),(si j0),j5⟩),j5⟩) .nil)) plainB<|r_nil (eg [23,24,25,26,27] 5 j0 j0 j0 j0)) (fun hb=>(sm (bT hb q15)).symm)<|r_nil ?_
   refine sw_cond j0 (fun hc16=>?_) (fun hc16=>?_)
   ·
    replace h:=bT hc16 h
    refine rg j0<|u<|asg j0<|r_nil ?_
    refine sw_ret ?_
    obtain rfl:=sm h
    exact ⟨_,j0,_,j0,[],ci j0,j0,j5,j0,j1⟩
   ·
    replace h:=bF hc16 h
    refine sw_skip ?_
    refine rl j0<|u<|add ti3 j0 j0<|u<|mv j0<|r_nil ?_
    obtain rfl:=sm h
    exact ⟨_,j0,[.old 0],ce j0 j0<|ce j0 j0<|ce j0 j0<|cv j0 (.mpt j0)<|ce j0 j0<|ce j0 j0<|ce j0 j0<|cn,j0,⟨⟨_,j0,rsOne ⟨ci j0,j5⟩⟩,j5⟩,j0,j1⟩
  ·
   replace h:=bF hc9 h
   refine sw_exit ?_
   obtain rfl:=sm h
   exact ⟨j0,_,j0,[],ce j0 j0<|ce j0 j0<|cn,j0,j5,j0,j1⟩
 ·
  rintro ⟨⟩ rfl
  replace h : class_all_api_Method_k2 v1 v2 = some r:=h
  unfold class_all_api_Method_k2 at h
  refine ow_intro ?_
  refine rg j0<|u<|mv j0<|u<|lnI ti40 j0 j0<|u<|mv j0<|u<|leq ti3 j0 j0<|u<|asg j0<|r_nil ?_
  refine sw_ret ?_
  obtain rfl:=sm h
  exact ⟨_,j0,[],ci j0,j0,j5,j0,j1⟩
 ·
  rintro r' rfl env st hp
  obtain rfl:=sm h
  exact hp
def class_self (v1 : List UInt8) : (List UInt8) :=
  v1
theorem class_self_ok (v1 : List UInt8) {r : (List UInt8)} (h : class_self v1 = r) : PureC Tryz.prog 104 [sA v1] (sA r):=by
 refine pure_fn Tryz.func104 j0 (by kernel_rfl) j0 j0 ?_
 unfold class_self at h
 refine rg j0<|u<|asg j0<|r_nil ?_
 refine rg j0<|u<|mv j0<|u<|asg j0<|r_nil ?_
 refine sw_ret ?_
 obtain rfl:=h
 exact ⟨_,j0,[],ci j0,j0,j5,j0,j1⟩
def class_all_string_1 (v1 : List UInt8) (v2 : List UInt8) : Bool :=
  ((class_self v2) == (class_self v1))
theorem class_all_string_1_ok (v1 : List UInt8) (v2 : List UInt8) {r : Bool} (h : class_all_string_1 v1 v2 = r) : PureC Tryz.prog 138 [sA v1,.ipt 1 [[.fn (.func 104) [] []]] 0 0,.ipt 1 [[sA v2]] 0 0] (bA r):=by
 refine pure_fn Tryz.func138 j0 (by kernel_rfl) j0 j0 ?_
 unfold class_all_string_1 at h
 refine rg j0<|u<|asg j0<|r_nil ?_
 refine rd [(4,bA ((class_self v2) == (class_self v1)))] [] [] [7,6,5,4,3,2,1,0] [(4,bA ((class_self v2) == (class_self v1))),(11,bA ((class_self v2) == (class_self v1))),(10,sA (class_self v1)),(9,sA v1),(8,.fn (.func 104) [] []),(7,sA (class_self v2)),(6,sA v2),(5,.fn (.func 104) [] [])] 0 (by kernel_rfl) (by kernel_rfl) j0 (by kernel_rfl) (dt0 ⟨(fun _=>pa j0 j0 j0 j0 (asg j0<|j4)),(fun _=>pa j0 j0 j0 j0 (seq ti9 j0 j0<|j4)),(fun _=>pa j0 j0 j0 j0 (pc (class_self_ok v1 j0) j0 j0 j0<|j4)),(fun _=>pa j0 j0 j0 j0 (mv j0<|j4)),(fun _=>pa j0 j0 j0 j0 (ld ti118 j0 j0<|j4)),(fun _=>pa j0 j0 j0 j0 (pc (class_self_ok v2 j0) j0 j0 j0<|j4)),(fun _=>pa j0 j0 j0 j0 (ld ti9 j0 j0<|j4)),(fun _=>pa j0 j0 j0 j0 (ld ti118 j0 j0<|j4)),j5⟩ (by kernel_rfl) j0 ⟨[],ce j0 j0<|cn,j0,j5,j0,j1⟩) ?_
 refine sw_ret ?_
 obtain rfl:=h
 exact ⟨_,j0,[],ci j0,j0,j5,j0,j1⟩
def slices_IndexFunc_string_string_s3_k2 : Option (Int) :=
  some (-1)
def slices_IndexFunc_string_string_s3_l1 (v1 : List (List UInt8)) (v2 : List UInt8) (v5 : Int) : Option (Sum (Int) (Sum (Unit) (Int))) :=
  cond (decide (v5 < (List.length v1 : Int))) ((idx v1 v5).bind fun v6=>cond (class_all_string_1 v6 v2) (some (.inr (.inr v5))) (some (.inl (IntKind.i64.wrap (v5 + 1))))) (some (.inr (.inl ())))
def slices_IndexFunc_string_string_s3 (v1 : List (List UInt8)) (v2 : List UInt8) : Option (Int) :=
  (loopP (fun z=>slices_IndexFunc_string_string_s3_l1 v1 v2 z) 0).bind fun o=>leave o (fun b=>slices_IndexFunc_string_string_s3_k2) some
theorem slices_IndexFunc_string_string_s3_ok (v1 : List (List UInt8)) (v2 : List UInt8) {r : Int} (h : slices_IndexFunc_string_string_s3 v1 v2 = some r) : PureC Tryz.prog 105 [.isl 1 (List.map rStr v1),.fn (.func 138) [] [.ipt 1 [[.fn (.func 104) [] []]] 0 0,.ipt 1 [[sA v2]] 0 0]] (iA r):=by
 refine pure_fn Tryz.func105 j0 (by kernel_rfl) j0 j0 ?_
 unfold slices_IndexFunc_string_string_s3 at h
 refine rg j0<|u<|asg j0<|r_nil ?_
 refine sw_seq ?_
 refine rg j0<|u<|mv j0<|u<|lnI ti32 j0 j0<|u<|mv j0<|r_nil ?_
 obtain ⟨o,ho,h⟩:=bs h
 refine sw_lpl (X:=Int) (B:=Unit) (R:=Int) (fun z=>[(0,.isl 1 (List.map rStr v1)),(1,.fn (.func 138) [] [.ipt 1 [[.fn (.func 104) [] []]] 0 0,.ipt 1 [[sA v2]] 0 0]),(7,iA (List.length v1 : Int)),(8,iA z)]) (fun z=>[]) (fun b=>[]) (fun b=>[]) (fun r env st=>PostF Tryz.prog Tryz.f105 0 (iA r) [] env st) ho ⟨[],ce j0 j0<|ce j0 j0<|ce j0 j0<|ce j0 j0<|cn,j0,j5,j0,j1⟩ ?_ ?_ ?_
 ·
  rintro v5 r h
  replace h : slices_IndexFunc_string_string_s3_l1 v1 v2 v5 = some r:=h
  unfold slices_IndexFunc_string_string_s3_l1 at h
  refine rg j0<|u<|lss ti3 j0 j0<|r_nil ?_
  refine sw_seq ?_
  refine sw_cond j0 (fun hc4=>?_) (fun hc4=>?_)
  ·
   replace h:=bT hc4 h
   refine sw_skip ?_
   refine sw_seq ?_
   refine sw_block ?_
   refine rg j0<|u<|mv j0<|u<|asg j0<|r_nil ?_
   obtain ⟨v6,q5,h⟩:=bs h
   refine rg j0<|u<|mv j0<|u<|mv j0<|u<|mv j0<|u<|ixI ti32 j0 ti9 j0 j0 j0 q5<|u<|ldI ti9 j0 (idx_some q5).2.2 j0<|u<|pc (class_all_string_1_ok v6 v2 j0) j0 j0 j0<|r_nil ?_
   refine sw_cond j0 (fun hc6=>?_) (fun hc6=>?_)
   ·
    replace h:=bT hc6 h
    refine rg j0<|u<|mv j0<|u<|asg j0<|r_nil ?_
    refine sw_ret ?_
    obtain rfl:=sm h
    exact ⟨_,j0,_,j0,[],ci j0,j0,j5,j0,j1⟩
   ·
    replace h:=bF hc6 h
    refine sw_skip ?_
    refine rl j0<|u<|add ti3 j0 j0<|u<|mv j0<|r_nil ?_
    obtain rfl:=sm h
    exact ⟨_,j0,[],ce j0 j0<|ce j0 j0<|ce j0 j0<|ce j0 j0<|cn,j0,j5,j0,j1⟩
  ·
   replace h:=bF hc4 h
   refine sw_exit ?_
   obtain rfl:=sm h
   exact ⟨j0,_,j0,[],cn,j0,j5,j0,j1⟩
 ·
  rintro ⟨⟩ rfl
  replace h : slices_IndexFunc_string_string_s3_k2 = some r:=h
  unfold slices_IndexFunc_string_string_s3_k2 at h
  refine ow_intro ?_
  refine rg j0<|u<|asg j0<|r_nil ?_
  refine sw_ret ?_
  obtain rfl:=sm h
  exact ⟨_,j0,[],ci j0,j0,j5,j0,j1⟩
 ·
  rintro r' rfl env st hp
  obtain rfl:=sm h
  exact hp
def slices_ContainsFunc_string_string_s3 (v1 : List (List UInt8)) (v2 : List UInt8) : Option (Bool) :=
  (slices_IndexFunc_string_string_s3 v1 v2).bind fun v3=>some (decide (0 ≤ v3))
theorem slices_ContainsFunc_string_string_s3_ok (v1 : List (List UInt8)) (v2 : List UInt8) {r : Bool} (h : slices_ContainsFunc_string_string_s3 v1 v2 = some r) : PureC Tryz.prog 59 [.isl 1 (List.map rStr v1),.fn (.func 138) [] [.ipt 1 [[.fn (.func 104) [] []]] 0 0,.ipt 1 [[sA v2]] 0 0]] (bA r):=by
 refine pure_fn Tryz.func59 j0 (by kernel_rfl) j0 j0 ?_
 unfold slices_ContainsFunc_string_string_s3 at h
 refine rg j0<|u<|asg j0<|r_nil ?_
 obtain ⟨v3,q1,h⟩:=bs h
 refine rg j0<|u<|mv j0<|u<|mv j0<|u<|pc (slices_IndexFunc_string_string_s3_ok v1 v2 q1) j0 j0 j0<|u<|geq ti3 j0 j0<|u<|asg j0<|r_nil ?_
 refine sw_ret ?_
 obtain rfl:=sm h
 exact ⟨_,j0,[],ci j0,j0,j5,j0,j1⟩
def class_all_string_k2 (v1 : List (List UInt8)) (v2 : Int) : Option (Bool) :=
  some (decide ((List.length v1 : Int) ≤ v2))
def class_all_string_l1 (v1 : List (List UInt8)) (v9 : Int) : Option (Sum (Int) (Sum (Unit) (Bool))) :=
  cond (decide (v9 < (List.length v1 : Int))) ((idx v1 v9).bind fun v10=>(kind_Class v10).bind fun v11=>(cond (!v11) (some true) ((cutP v1 0 v9).bind fun v12=>(slices_ContainsFunc_string_string_s3 v12 v10).bind fun v13=>some v13)).bind fun v14=>cond v14 (some (.inr (.inr false))) (some (.inl (IntKind.i64.wrap (v9 + 1))))) (some (.inr (.inl ())))
def class_all_string (v1 : List (List UInt8)) (v2 : Int) : Option (Bool) :=
  (loopP (fun z=>class_all_string_l1 v1 z) 0).bind fun o=>leave o (fun b=>class_all_string_k2 v1 v2) some
theorem class_all_string_ok (v1 : List (List UInt8)) (v2 : Int) {r : Bool} (h : class_all_string v1 v2 = some r) : PureC Tryz.prog 103 [.isl 1 (List.map rStr v1),iA v2,.fn (.func 104) [] [],.fn (.func 102) [] []] (bA r):=by
 refine pure_fn Tryz.func103 j0 (by kernel_rfl) j0 j0 ?_
 unfold class_all_string at h
 refine rg j0<|u<|bx 0 1 j0 j0 j0 j0<|u<|asg j0<|r_nil ?_
 refine sw_seq ?_
 refine rg j0<|u<|mv j0<|u<|lnI ti32 j0 j0<|u<|mv j0<|r_nil ?_
 obtain ⟨o,ho,h⟩:=bs h
 refine sw_lpl (X:=Int) (B:=Unit) (R:=Bool) (fun z=>[(0,.isl 1 (List.map rStr v1)),(1,iA v2),(3,.fn (.func 102) [] []),(6,.mpt 0 0 0),(11,.isl 1 (List.map rStr v1)),(12,iA (List.length v1 : Int)),(13,iA z)]) (fun z=>[some (1,[[.fn (.func 104) [] []]])]) (fun b=>[(0,.isl 1 (List.map rStr v1)),(1,iA v2)]) (fun b=>[]) (fun r env st=>PostF Tryz.prog Tryz.f103 0 (bA r) [] env st) ho ⟨[.old 0],ce j0 j0<|ce j0 j0<|ce j0 j0<|cv j0 (.mpt j0)<|ce j0 j0<|ce j0 j0<|ce j0 j0<|cn,j0,⟨⟨_,j0,rsOne ⟨ci j0,j5⟩⟩,j5⟩,j0,j1⟩ ?_ ?_ ?_
 ·
  rintro v9 r h
  replace h : class_all_string_l1 v1 v9 = some r:=h
  unfold class_all_string_l1 at h
  refine rg j0<|u<|lss ti3 j0 j0<|r_nil ?_
  refine sw_seq ?_
  refine sw_cond j0 (fun hc9=>?_) (fun hc9=>?_)
  ·
   replace h:=bT hc9 h
   refine sw_skip ?_
   refine sw_seq ?_
   refine sw_block ?_
   obtain ⟨v10,q10,h⟩:=bs h
   refine rg j0<|u<|mv j0<|u<|ixI ti32 j0 ti9 j0 j0 j0 q10<|u<|ldI ti9 j0 (idx_some q10).2.2 j0<|u<|al 1 ti9 j0<|u<|asg j0<|u<|sto ti9 j0 j0 j0<|r_nil ?_
   obtain ⟨v11,q11,h⟩:=bs h
   obtain ⟨v14,q15,h⟩:=bs h
   refine rg j0<|u<|mv j0<|u<|ld ti9 j0 j0<|u<|pc (kind_Class_ok v10 q11) j0 j0 j0<|u<|nt j0<|u<|mv j0<|r_or (x:=v14) (j:=4) 5 j0 j0 j0 j0 j0 gpn (fun hb12=>by replace q15:=bF hb12 q15; obtain ⟨v12,q13,q15⟩:=bs q15; obtain ⟨v13,q14,q15⟩:=bs q15; obtain rfl:=sm q15; exact g j0 hb12<|mv j0<|g j0 hb12<|mv j0<|g j0 hb12<|slI (a:=0) (b:=v9) ti32 j0 ti9 j0 j0 j0 (bnd_hi j0 q13) q13<|g j0 hb12<|mf j0 j0<|g j0 hb12<|pcs (slices_ContainsFunc_string_string_s3_ok v12 v10 q14) j0 j0 (.cons (si j0) (.cons (sealFn j5 ⟨(sealBox j0 ⟨(si j0),j5⟩),(sealBox j0 ⟨(si j0),j5⟩),j5⟩) .nil)) plainB<|r_nil (eg [23,24,25,26,27] 5 j0 j0 j0 j0)) (fun hb=>(sm (bT hb q15)).symm)<|r_nil ?_
   refine sw_cond j0 (fun hc16=>?_) (fun hc16=>?_)
   ·
    replace h:=bT hc16 h
    refine rg j0<|u<|asg j0<|r_nil ?_
    refine sw_ret ?_
    obtain rfl:=sm h
    exact ⟨_,j0,_,j0,[],ci j0,j0,j5,j0,j1⟩
   ·
    replace h:=bF hc16 h
    refine sw_skip ?_
    refine rl j0<|u<|add ti3 j0 j0<|u<|mv j0<|r_nil ?_
    obtain rfl:=sm h
    exact ⟨_,j0,[.old 0],ce j0 j0<|ce j0 j0<|ce j0 j0<|cv j0 (.mpt j0)<|ce j0 j0<|ce j0 j0<|ce j0 j0<|cn,j0,⟨⟨_,j0,rsOne ⟨ci j0,j5⟩⟩,j5⟩,j0,j1⟩
  ·
   replace h:=bF hc9 h
   refine sw_exit ?_
   obtain rfl:=sm h
   exact ⟨j0,_,j0,[],ce j0 j0<|ce j0 j0<|cn,j0,j5,j0,j1⟩
 ·
  rintro ⟨⟩ rfl
  replace h : class_all_string_k2 v1 v2 = some r:=h
  unfold class_all_string_k2 at h
  refine ow_intro ?_
  refine rg j0<|u<|mv j0<|u<|lnI ti32 j0 j0<|u<|mv j0<|u<|leq ti3 j0 j0<|u<|asg j0<|r_nil ?_
  refine sw_ret ?_
  obtain rfl:=sm h
  exact ⟨_,j0,[],ci j0,j0,j5,j0,j1⟩
 ·
  rintro r' rfl env st hp
  obtain rfl:=sm h
  exact hp
def class_May (v1 : ApiClass) : Option (Bool) :=
  cond (v1.Interface && ((!(v1.Super == [79,98,106,101,99,116])) || (decide (0 < (List.length v1.Fields : Int))))) (some false) ((class_all_api_Field v1.Fields 8).bind fun v2=>(class_all_api_Method v1.Methods 8 v1.Name v1.Super v1.Interface v1.Impl v1.Fields v1.Methods).bind fun v3=>(kind_Class v1.Name).bind fun v4=>(cond v4 ((kind_Class v1.Super).bind fun v5=>some v5) (some false)).bind fun v6=>(cond v6 ((class_all_string v1.Impl 4).bind fun v7=>some v7) (some false)).bind fun v8=>some ((v8 && v2) && v3))
theorem class_May_ok (v1 : ApiClass) {r : Bool} (h : class_May v1 = some r) : PureC Tryz.prog 58 [.agg [sA v1.Name,sA v1.Super,bA v1.Interface,.isl 1 (List.map rStr v1.Impl),.isl 3 (List.map rApiField v1.Fields),.isl 10 (List.map rApiMethod v1.Methods)]] (bA r):=by
 refine pure_fn Tryz.func58 j0 (by kernel_rfl) j0 j0 ?_
 unfold class_May at h
 refine rg j0<|u<|bx 0 6 j0 j0 j0 j0<|u<|asg j0<|r_nil ?_
 refine sw_seq ?_
 refine rg j0<|u<|fa ti42 j0 j0 j0<|u<|ld ti4 j0 j0<|u<|mv j0<|r_and (j:=2) 9 j0 j0 j0 j0 j0 gpn (fun hb1=>g j0 hb1<|fa ti42 j0 j0 j0<|g j0 hb1<|ld ti9 j0 j0<|g j0 hb1<|sne ti9 j0 j0<|g j0 hb1<|mv j0<|r_or (j:=6) 4 j0 j0 j0 j0 j0 (gps j0 j0 hb1) (fun hb2=>g j0 hb2<|fa ti42 j0 j0 j0<|g j0 hb2<|ld ti39 j0 j0<|g j0 hb2<|lnI ti39 j0 j0<|g j0 hb2<|gtr ti3 j0 j0<|r_nil (egO [12,13,14,15] 4 hb2 j0 j0 j0 j0)) orT<|r_nil (egA [8,9,10,11,12,13,14,15,16] 5 hb1 j0 j0 j0 j0)) andF<|r_nil ?_
 refine sw_cond j0 (fun hc3=>?_) (fun hc3=>?_)
 ·
  replace h:=bT hc3 h
  refine rg j0<|u<|asg j0<|r_nil ?_
  refine sw_ret ?_
  obtain rfl:=sm h
  exact ⟨_,j0,[],ci j0,j0,j5,j0,j1⟩
 ·
  replace h:=bF hc3 h
  refine sw_skip ?_
  obtain ⟨v2,q4,h⟩:=bs h
  refine rg j0<|u<|fa ti42 j0 j0 j0<|u<|ld ti39 j0 j0<|u<|pc (class_all_api_Field_ok v1.Fields 8 q4) j0 j0 j0<|u<|asg j0<|r_nil ?_
  obtain ⟨v3,q5,h⟩:=bs h
  refine rg j0<|u<|fa ti42 j0 j0 j0<|u<|ld ti40 j0 j0<|u<|mf j0 j0<|u<|pcs (class_all_api_Method_ok v1.Methods 8 v1.Name v1.Super v1.Interface v1.Impl v1.Fields v1.Methods q5) j0 j0 (.cons (si j0) (.cons (si j0) (.cons (si j0) (.cons (sealFn j5 ⟨(sealBox j0 ⟨(si j0),(si j0),(si j0),(si j0),(si j0),(si j0),j5⟩),j5⟩) .nil)))) plainB<|u<|asg j0<|r_nil ?_
  obtain ⟨v4,q6,h⟩:=bs h
  obtain ⟨v6,q9,h⟩:=bs h
  obtain ⟨v8,q12,h⟩:=bs h
  refine rg j0<|u<|fa ti42 j0 j0 j0<|u<|ld ti9 j0 j0<|u<|pc (kind_Class_ok v1.Name q6) j0 j0 j0<|u<|mv j0<|r_and (x:=v6) (j:=3) 3 j0 j0 j0 j0 j0 gpn (fun hb7=>by replace q9:=bT hb7 q9; obtain ⟨v5,q8,q9⟩:=bs q9; obtain rfl:=sm q9; exact g j0 hb7<|fa ti42 j0 j0 j0<|g j0 hb7<|ld ti9 j0 j0<|g j0 hb7<|pc (kind_Class_ok v1.Super q8) j0 j0 j0<|r_nil (eg [29,30,31] 3 j0 j0 j0 j0)) (fun hb=>(sm (bF hb q9)).symm)<|u<|mv j0<|r_and (x:=v8) (j:=8) 3 j0 j0 j0 j0 j0 gpn (fun hb10=>by replace q12:=bT hb10 q12; obtain ⟨v7,q11,q12⟩:=bs q12; obtain rfl:=sm q12; exact g j0 hb10<|fa ti42 j0 j0 j0<|g j0 hb10<|ld ti32 j0 j0<|g j0 hb10<|pc (class_all_string_ok v1.Impl 4 q11) j0 j0 j0<|r_nil (eg [34,35,36] 3 j0 j0 j0 j0)) (fun hb=>(sm (bF hb q12)).symm)<|u<|mv j0<|r_and (j:=13) 1 j0 j0 j0 j0 j0 gpn (fun hb13=>g j0 hb13<|mv j0<|r_nil (egA [39] 1 hb13 j0 j0 j0 j0)) andF<|u<|mv j0<|r_and (j:=16) 1 j0 j0 j0 j0 j0 gpn (fun hb14=>g j0 hb14<|mv j0<|r_nil (egA [42] 1 hb14 j0 j0 j0 j0)) andF<|u<|asg j0<|r_nil ?_
  refine sw_ret ?_
  obtain rfl:=sm h
  exact ⟨_,j0,[],ci j0,j0,j5,j0,j1⟩
def class_Method_1 (v1 : ApiMethod) (v2 : List UInt8) : Bool :=
  (v1.Name == v2)
theorem class_Method_1_ok (v1 : ApiMethod) (v2 : List UInt8) {r : Bool} (h : class_Method_1 v1 v2 = r) : PureC Tryz.prog 159 [.agg [sA v1.Name,.isl 1 (List.map rStr v1.Params),sA v1.Ret,bA v1.Static,bA v1.Abstract,iA v1.Locals,iA v1.Stack,.isl 4 (List.map rApiIns v1.Code),.isl 3 (List.map rApiMap v1.Maps),.isl 4 (List.map rApiTrap v1.Traps)],.ipt 1 [[sA v2]] 0 0] (bA r):=by
 refine pure_fn Tryz.func159 j0 (by kernel_rfl) j0 j0 ?_
 unfold class_Method_1 at h
 refine rg j0<|u<|bx 0 10 j0 j0 j0 j0<|u<|asg j0<|r_nil ?_
 refine rg j0<|u<|fa ti62 j0 j0 j0<|u<|ld ti9 j0 j0<|u<|ld ti9 j0 j0<|u<|seq ti9 j0 j0<|u<|asg j0<|r_nil ?_
 refine sw_ret ?_
 obtain rfl:=h
 exact ⟨_,j0,[],ci j0,j0,j5,j0,j1⟩
def slices_IndexFunc_api_Method_api_Method_s2_k2 : Option (Int) :=
  some (-1)
def slices_IndexFunc_api_Method_api_Method_s2_l1 (v1 : List ApiMethod) (v2 : List UInt8) (v5 : Int) : Option (Sum (Int) (Sum (Unit) (Int))) :=
  cond (decide (v5 < (List.length v1 : Int))) ((idx v1 v5).bind fun v6=>cond (class_Method_1 v6 v2) (some (.inr (.inr v5))) (some (.inl (IntKind.i64.wrap (v5 + 1))))) (some (.inr (.inl ())))
def slices_IndexFunc_api_Method_api_Method_s2 (v1 : List ApiMethod) (v2 : List UInt8) : Option (Int) :=
  (loopP (fun z=>slices_IndexFunc_api_Method_api_Method_s2_l1 v1 v2 z) 0).bind fun o=>leave o (fun b=>slices_IndexFunc_api_Method_api_Method_s2_k2) some
theorem slices_IndexFunc_api_Method_api_Method_s2_ok (v1 : List ApiMethod) (v2 : List UInt8) {r : Int} (h : slices_IndexFunc_api_Method_api_Method_s2 v1 v2 = some r) : PureC Tryz.prog 158 [.isl 10 (List.map rApiMethod v1),.fn (.func 159) [] [.ipt 1 [[sA v2]] 0 0]] (iA r):=by
 refine pure_fn Tryz.func158 j0 (by kernel_rfl) j0 j0 ?_
 unfold slices_IndexFunc_api_Method_api_Method_s2 at h
 refine rg j0<|u<|asg j0<|r_nil ?_
 refine sw_seq ?_
 refine rg j0<|u<|mv j0<|u<|lnI ti40 j0 j0<|u<|mv j0<|r_nil ?_
 obtain ⟨o,ho,h⟩:=bs h
 refine sw_lpl (X:=Int) (B:=Unit) (R:=Int) (fun z=>[(0,.isl 10 (List.map rApiMethod v1)),(1,.fn (.func 159) [] [.ipt 1 [[sA v2]] 0 0]),(7,iA (List.length v1 : Int)),(8,iA z)]) (fun z=>[]) (fun b=>[]) (fun b=>[]) (fun r env st=>PostF Tryz.prog Tryz.f158 0 (iA r) [] env st) ho ⟨[],ce j0 j0<|ce j0 j0<|ce j0 j0<|ce j0 j0<|cn,j0,j5,j0,j1⟩ ?_ ?_ ?_
 ·
  rintro v5 r h
  replace h : slices_IndexFunc_api_Method_api_Method_s2_l1 v1 v2 v5 = some r:=h
  unfold slices_IndexFunc_api_Method_api_Method_s2_l1 at h
  refine rg j0<|u<|lss ti3 j0 j0<|r_nil ?_
  refine sw_seq ?_
  refine sw_cond j0 (fun hc4=>?_) (fun hc4=>?_)
  ·
   replace h:=bT hc4 h
   refine sw_skip ?_
   refine sw_seq ?_
   refine sw_block ?_
   refine rg j0<|u<|mv j0<|u<|asg j0<|r_nil ?_
   obtain ⟨v6,q5,h⟩:=bs h
   refine rg j0<|u<|mv j0<|u<|mv j0<|u<|mv j0<|u<|ixI ti40 j0 ti62 j0 j0 j0 q5<|u<|ldI ti62 j0 (idx_some q5).2.2 j0<|u<|pc (class_Method_1_ok v6 v2 j0) j0 j0 j0<|r_nil ?_
   refine sw_cond j0 (fun hc6=>?_) (fun hc6=>?_)
   ·
    replace h:=bT hc6 h
    refine rg j0<|u<|mv j0<|u<|asg j0<|r_nil ?_
    refine sw_ret ?_
    obtain rfl:=sm h
    exact ⟨_,j0,_,j0,[],ci j0,j0,j5,j0,j1⟩
   ·
    replace h:=bF hc6 h
    refine sw_skip ?_
    refine rl j0<|u<|add ti3 j0 j0<|u<|mv j0<|r_nil ?_
    obtain rfl:=sm h
    exact ⟨_,j0,[],ce j0 j0<|ce j0 j0<|ce j0 j0<|ce j0 j0<|cn,j0,j5,j0,j1⟩
  ·
   replace h:=bF hc4 h
   refine sw_exit ?_
   obtain rfl:=sm h
   exact ⟨j0,_,j0,[],cn,j0,j5,j0,j1⟩
 ·
  rintro ⟨⟩ rfl
  replace h : slices_IndexFunc_api_Method_api_Method_s2_k2 = some r:=h
  unfold slices_IndexFunc_api_Method_api_Method_s2_k2 at h
  refine ow_intro ?_
  refine rg j0<|u<|asg j0<|r_nil ?_
  refine sw_ret ?_
  obtain rfl:=sm h
  exact ⟨_,j0,[],ci j0,j0,j5,j0,j1⟩
 ·
  rintro r' rfl env st hp
  obtain rfl:=sm h
  exact hp
def class_Method (v1 : ApiClass) (v2 : List UInt8) : Option (Int) :=
  (slices_IndexFunc_api_Method_api_Method_s2 v1.Methods v2).bind fun v3=>some v3
theorem class_Method_ok (v1 : ApiClass) (v2 : List UInt8) {r : Int} (h : class_Method v1 v2 = some r) : PureC Tryz.prog 117 [.agg [sA v1.Name,sA v1.Super,bA v1.Interface,.isl 1 (List.map rStr v1.Impl),.isl 3 (List.map rApiField v1.Fields),.isl 10 (List.map rApiMethod v1.Methods)],sA v2] (iA r):=by
 refine pure_fn Tryz.func117 j0 (by kernel_rfl) j0 j0 ?_
 unfold class_Method at h
 refine rg j0<|u<|bx 0 6 j0 j0 j0 j0<|u<|bx 1 1 j0 j0 j0 j0<|u<|asg j0<|r_nil ?_
 obtain ⟨v3,q1,h⟩:=bs h
 refine rg j0<|u<|fa ti42 j0 j0 j0<|u<|ld ti40 j0 j0<|u<|mf j0 j0<|u<|pcs (slices_IndexFunc_api_Method_api_Method_s2_ok v1.Methods v2 q1) j0 j0 (.cons (si j0) (.cons (sealFn j5 ⟨(sealBox j0 ⟨(si j0),j5⟩),j5⟩) .nil)) plainB<|u<|asg j0<|r_nil ?_
 refine sw_ret ?_
 obtain rfl:=sm h
 exact ⟨_,j0,[],ci j0,j0,j5,j0,j1⟩
end
end Go.Proofs.YtooagifeniibcaaGreat
namespace Go.Proofs.YtooagifeniibcaaGreat
noncomputable section
set_option linter.unusedSimpArgs false
set_option linter.unusedVariables false
set_option maxRecDepth 100000
set_option maxHeartbeats 4000000
structure HierHier where
  l : List ApiClass
  at_ : List (List UInt8 × Int)
def rHierHier (x : HierHier) : List AV:=[.isl 6 (List.map rApiClass x.l),.imp (List.map (rKV (fun x=>iA x)) x.at_)]
def hier_Given : (List (List UInt8)) :=
  ([[79,98,106,101,99,116],[84,104,114,111,119,110],[78,117,108,108,69,114,114],[82,97,110,103,101,69,114,114],[77,97,116,104,69,114,114],[67,97,115,116,69,114,114],[83,105,122,101,69,114,114],[83,116,111,114,101,69,114,114],[73,110,105,116,69,114,114],[67,108,97,115,115,69,114,114]])
theorem hier_Given_ok {r : (List (List UInt8))} (h : hier_Given = r) : SC Tryz.prog 30 [] [] (.msl 0 0 (List.length r)) [.many 1 (List.map rStr r)]:=by
 refine ⟨⟨sbOk (sz:=1) (fun _=>j0),j5⟩,scall_fn Tryz.func30 j0 (by kernel_rfl) j0 ?_⟩
 unfold hier_Given at h
 refine rg j0<|u<|asg j0<|r_nil ?_
 refine rg j0<|u<|bl 0 ti32 j0 ti9 j0 (by decide) (by decide) j0 j0 j0<|u<|asg j0<|r_nil ?_
 refine sw_ret ?_
 obtain rfl:=h
 exact ⟨_,j0,[.old 0],.msl j0,j0,⟨⟨_,j0,rsRows ⟨⟨(ci j0),j5⟩,⟨(ci j0),j5⟩,⟨(ci j0),j5⟩,⟨(ci j0),j5⟩,⟨(ci j0),j5⟩,⟨(ci j0),j5⟩,⟨(ci j0),j5⟩,⟨(ci j0),j5⟩,⟨(ci j0),j5⟩,⟨(ci j0),j5⟩,j5⟩⟩,j5⟩,j0,j1⟩
def hier_given_k4 (v12 : List ApiClass) : Option ((List ApiClass)) :=
  some v12
def hier_given_j2 (v6 : List ApiClass) (v7 : Int) (v8 : List UInt8) (v10 : List UInt8) : Option (Sum ((List ApiClass) × Int) (Sum ((List ApiClass)) ((List ApiClass)))) :=
  (appP 112 v6 ([(ApiClass.mk v8 v10 false [] [] [])])).bind fun v11=>some (.inl (v11,(IntKind.i64.wrap (v7 + 1))))
def hier_given_l3 (v6 : List ApiClass) (v7 : Int) : Option (Sum ((List ApiClass) × Int) (Sum ((List ApiClass)) ((List ApiClass)))) :=
  cond (decide (v7 < ((List.length (hier_Given)) : Int))) ((idx (hier_Given) v7).bind fun v8=>cond (decide (v7 < 2)) ((idx ([[],[79,98,106,101,99,116]]) v7).bind fun v9=>hier_given_j2 v6 v7 v8 v9) (hier_given_j2 v6 v7 v8 [84,104,114,111,119,110])) (some (.inr (.inl v6)))
def hier_given : Option ((List ApiClass)) :=
  (loopP (fun z=>hier_given_l3 z.1 z.2) ([],0)).bind fun o=>leave o (fun b=>hier_given_k4 b) some
theorem hier_given_ok {r : (List ApiClass)} (h : hier_given = some r) : SC Tryz.prog 57 [] [] (.msl 0 0 (List.length r)) [.many 6 (List.map rApiClass r)]:=by
 refine ⟨⟨sbOk (sz:=6) (fun _=>j0),j5⟩,scall_fn Tryz.func57 j0 (by kernel_rfl) j0 ?_⟩
 unfold hier_given at h
 refine rg j0<|u<|asg j0<|r_nil ?_
 refine rg j0<|u<|asg j0<|r_nil ?_
 refine sw_seq ?_
 refine rg j0<|u<|sc [] (hier_Given_ok j0) j0 j0 j0 j0 j5 j5<|r_can (env0:=[(1,.lit (.slice none 0 0)),(5,.msl 0 0 (List.length (hier_Given)))]) (st0:=[some (1,List.map rStr (hier_Given))]) ⟨[.old 0],ce j0 j0<|cv j0 (.msl j0)<|cn,j0,⟨⟨_,j0,rsMap (fun _=>j0)⟩,j5⟩,j0,j1⟩<|u<|lnM ti32 j0 j0 j0<|u<|mv j0<|r_nil ?_
 obtain ⟨o,ho,h⟩:=bs h
 refine sw_lpl (X:=(List ApiClass) × Int) (B:=(List ApiClass)) (R:=(List ApiClass)) (fun z=>[(1,.msl 0 0 (List.length z.1)),(5,.msl 1 0 (List.length (hier_Given))),(6,iA ((List.length (hier_Given)) : Int)),(7,iA z.2)]) (fun z=>[some (6,List.map rApiClass z.1),some (1,List.map rStr (hier_Given))]) (fun b=>[(1,.msl 0 0 (List.length b))]) (fun b=>[some (6,List.map rApiClass b)]) (fun r env st=>PostF Tryz.prog Tryz.f57 0 (.msl 0 0 (List.length r)) [some (6,List.map rApiClass r)] env st) ho ⟨[.fresh 6,.old 0],cv j0 (.nilown j0)<|cv j0 (.msl j0)<|ce j0 j0<|ce j0 j0<|cn,j0,⟨j4,⟨_,j0,rsMap (fun _=>j0)⟩,j5⟩,j0,j1⟩ ?_ ?_ ?_
 ·
  rintro ⟨v6,v7⟩ r h
  replace h : hier_given_l3 v6 v7 = some r:=h
  unfold hier_given_l3 at h
  refine rg j0<|u<|lss ti3 j0 j0<|r_nil ?_
  refine sw_seq ?_
  refine sw_cond j0 (fun hc5=>?_) (fun hc5=>?_)
  ·
   replace h:=bT hc5 h
   refine sw_skip ?_
   refine sw_seq ?_
   refine sw_block ?_
   obtain ⟨v8,q6,h⟩:=bs h
   refine rg j0<|u<|mv j0<|u<|ixM ti32 j0 ti9 j0 j0 j0 j0 q6<|u<|ldM ti9 j0 j0 (idx_some q6).2.2 j0<|u<|asg j0<|u<|asg j0<|r_nil ?_
   refine rg j0<|u<|mv j0<|u<|bd ti42 j0 j0 j0<|u<|al 2 ti42 j0<|u<|sto ti42 j0 j0 j0<|r_nil ?_
   refine sw_meet (X:=(List UInt8)) (fun z=>[(1,.msl 0 0 (List.length v6)),(4,.mpt 1 0 0),(5,.msl 2 0 (List.length (hier_Given))),(6,iA ((List.length (hier_Given)) : Int)),(7,iA v7)]) (fun z=>[some (6,List.map rApiClass v6),some (6,[[sA v8,sA z,bA false,.lit (.slice none 0 0),.lit (.slice none 0 0),.lit (.slice none 0 0)]]),some (1,List.map rStr (hier_Given))]) (fun z=>hier_given_j2 v6 v7 v8 z = some r) ?_ ?_
   ·
    refine rg j0<|u<|mv j0<|u<|lss ti3 j0 j0<|r_nil ?_
    refine sw_cond j0 (fun hc7=>?_) (fun hc7=>?_)
    ·
     replace h:=bT hc7 h
     obtain ⟨v9,q8,h⟩:=bs h
     exact rl j0<|u<|bl 3 ti32 j0 ti9 j0 (by decide) (by decide) j0 j0 j0<|u<|mv j0<|r_can (env0:=[(1,.msl 0 0 (List.length v6)),(4,.mpt 1 0 0),(5,.msl 2 0 (List.length (hier_Given))),(6,iA ((List.length (hier_Given)) : Int)),(7,iA v7),(16,.msl 3 0 (List.length ([[],[79,98,106,101,99,116]]))),(17,iA v7)]) (st0:=[some (6,List.map rApiClass v6),some (6,[[sA v8,sA [84,104,114,111,119,110],bA false,.lit (.slice none 0 0),.lit (.slice none 0 0),.lit (.slice none 0 0)]]),some (1,List.map rStr (hier_Given)),some (1,List.map rStr ([[],[79,98,106,101,99,116]]))]) ⟨[.old 0,.old 2,.old 1,.old 3],cv j0 (.msl j0)<|cv j0 (.mpt j0)<|cv j0 (.msl j0)<|ce j0 j0<|ce j0 j0<|cv j0 (.msl j0)<|ce j0 j0<|cn,j0,⟨⟨_,j0,rsMap (fun _=>j0)⟩,⟨_,j0,rsOne ⟨ci j0,ci j0,ci j0,ci j0,ci j0,ci j0,j5⟩⟩,⟨_,j0,rsMap (fun _=>j0)⟩,⟨_,j0,rsRows ⟨⟨(ci j0),j5⟩,⟨(ci j0),j5⟩,j5⟩⟩,j5⟩,j0,j1⟩<|u<|ixM ti32 j0 ti9 j0 j0 j0 j0 q8<|u<|ldM ti9 j0 j0 (idx_some q8).2.2 j0<|u<|fa ti42 j0 j0 j0<|u<|sto ti9 j0 j0 j0<|r_nil (⟨v9,h,[.old 0,.old 1,.old 2],cv j0 (.msl j0)<|cv j0 (.mpt j0)<|cv j0 (.msl j0)<|ce j0 j0<|ce j0 j0<|cn,j0,⟨⟨_,j0,rsMap (fun _=>j0)⟩,⟨_,j0,rsOne ⟨ci j0,ci j0,ci j0,ci j0,ci j0,ci j0,j5⟩⟩,⟨_,j0,rsMap (fun _=>j0)⟩,j5⟩,j0,j1⟩)
    ·
     replace h:=bF hc7 h
     refine sw_skip ?_
     exact ⟨[84,104,114,111,119,110],h,[.old 0,.old 2,.old 1],cv j0 (.msl j0)<|cv j0 (.mpt j0)<|cv j0 (.msl j0)<|ce j0 j0<|ce j0 j0<|cn,j0,⟨⟨_,j0,rsMap (fun _=>j0)⟩,⟨_,j0,rsOne ⟨ci j0,ci j0,ci j0,ci j0,ci j0,ci j0,j5⟩⟩,⟨_,j0,rsMap (fun _=>j0)⟩,j5⟩,j0,j1⟩
   ·
    rintro v10 h
    replace h : hier_given_j2 v6 v7 v8 v10 = some r:=h
    unfold hier_given_j2 at h
    obtain ⟨v11,q9,h⟩:=bs h
    refine rl j0<|u<|mv j0<|u<|ld ti42 j0 j0<|u<|bl 3 ti22 j0 ti42 j0 (by decide) (by decide) j0 j0 j0<|r_can (env0:=[(5,.msl 0 0 (List.length (hier_Given))),(6,iA ((List.length (hier_Given)) : Int)),(7,iA v7),(21,.msl 1 0 (List.length v6)),(23,.msl 2 0 (List.length ([(ApiClass.mk v8 v10 false [] [] [])])))]) (st0:=[some (1,List.map rStr (hier_Given)),some (6,List.map rApiClass v6),some (6,List.map rApiClass ([(ApiClass.mk v8 v10 false [] [] [])]))]) ⟨[.old 2,.old 0,.old 3],cv j0 (.msl j0)<|ce j0 j0<|ce j0 j0<|cv j0 (.msl j0)<|cv j0 (.msl j0)<|cn,j0,⟨⟨_,j0,rsMap (fun _=>j0)⟩,⟨_,j0,rsMap (fun _=>j0)⟩,⟨_,j0,rsRows ⟨⟨(ci j0),(ci j0),(ci j0),(.nil),(.nil),(.nil),j5⟩,j5⟩⟩,j5⟩,j0,j1⟩<|u<|apM 3 ti22 j0 ti42 j0 j0 (by decide) ti22 j0 j0 j0 j0 (roM j0) (fun _=>j0) j0 q9<|u<|asg j0<|r_nil ?_
    refine rl j0<|u<|add ti3 j0 j0<|u<|mv j0<|r_nil ?_
    obtain rfl:=sm h
    exact ⟨_,j0,[.old 3,.old 0],cv j0 (.msl j0)<|cv j0 (.msl j0)<|ce j0 j0<|ce j0 j0<|cn,j0,⟨⟨_,j0,rsMap (fun _=>j0)⟩,⟨_,j0,rsMap (fun _=>j0)⟩,j5⟩,j0,j1⟩
  ·
   replace h:=bF hc5 h
   refine sw_exit ?_
   obtain rfl:=sm h
   exact ⟨j0,_,j0,[.old 0],cv j0 (.msl j0)<|cn,j0,⟨⟨_,j0,rsMap (fun _=>j0)⟩,j5⟩,j0,j1⟩
 ·
  rintro v12 rfl
  replace h : hier_given_k4 v12 = some r:=h
  unfold hier_given_k4 at h
  refine ow_intro ?_
  refine rg j0<|u<|mv j0<|u<|asg j0<|r_nil ?_
  refine sw_ret ?_
  obtain rfl:=sm h
  exact ⟨_,j0,[.old 0],.msl j0,j0,⟨⟨_,j0,rsMap (fun _=>j0)⟩,j5⟩,j0,j1⟩
 ·
  rintro r' rfl env st hp
  obtain rfl:=sm h
  exact hp
def hier_above (v1 : ApiClass) : Option ((List (List UInt8))) :=
  (appP 16 [v1.Super] v1.Impl).bind fun v2=>some v2
theorem hier_above_ok (v1 : ApiClass) {r : (List (List UInt8))} (h : hier_above v1 = some r) : SC Tryz.prog 60 [.agg [sA v1.Name,sA v1.Super,bA v1.Interface,.isl 1 (List.map rStr v1.Impl),.isl 3 (List.map rApiField v1.Fields),.isl 10 (List.map rApiMethod v1.Methods)]] [] (.msl 0 0 (List.length r)) [.many 1 (List.map rStr r)]:=by
 refine ⟨⟨sbOk (sz:=1) (fun _=>j0),j5⟩,scall_fn Tryz.func60 j0 (by kernel_rfl) j0 ?_⟩
 unfold hier_above at h
 refine rg j0<|u<|bx 0 6 j0 j0 j0 j0<|u<|asg j0<|r_nil ?_
 obtain ⟨v2,q1,h⟩:=bs h
 refine rg j0<|u<|fa ti42 j0 j0 j0<|u<|ld ti9 j0 j0<|u<|bl 1 ti32 j0 ti9 j0 (by decide) (by decide) j0 j0 j0<|u<|fa ti42 j0 j0 j0<|u<|ld ti32 j0 j0<|u<|apM (l:=[v1.Super]) (f:=rStr) 2 ti32 j0 ti9 j0 j0 (by decide) ti32 j0 j0 j0 j0 roI (fun _=>j0) j0 q1<|u<|asg j0<|r_nil ?_
 refine sw_ret ?_
 obtain rfl:=sm h
 exact ⟨_,j0,[.old 2],.msl j0,j0,⟨⟨_,j0,rsMap (fun _=>j0)⟩,j5⟩,j0,j1⟩
def hier_Hier_has (v1 : List ApiClass) (v2 : List (List UInt8 × Int)) (v3 : List UInt8) : Bool :=
  (Option.isSome (mapGet v3 v2))
theorem hier_Hier_has_ok (v1 : List ApiClass) (v2 : List (List UInt8 × Int)) (v3 : List UInt8) {r : Bool} (h : hier_Hier_has v1 v2 v3 = r) : PureC Tryz.prog 62 [.ipt 2 [[.isl 6 (List.map rApiClass v1),.imp (List.map (rKV (fun x=>iA x)) v2)]] 0 0,sA v3] (bA r):=by
 refine pure_fn Tryz.func62 j0 (by kernel_rfl) j0 j0 ?_
 unfold hier_Hier_has at h
 refine rg j0<|u<|asg j0<|r_nil ?_
 refine sw_seq ?_
 refine rg j0<|u<|mv j0<|u<|eqp ti25 j0 j0 j0 j0 j0 j0<|r_nil ?_
 refine sw_cond j0 (fun hx=>by cases hx) (fun _=>?_)
 refine sw_skip ?_
 refine rg j0<|u<|mv j0<|u<|nc j0 j0<|u<|fa ti91 j0 j0 j0<|u<|ld ti89 j0 j0<|u<|mv j0<|u<|mlkT (g:=(fun x=>iA x)) (z:=0) (l:=v2) j0 ti3 j0 j0 j0 j0<|u<|mv j0<|u<|ex j0 j0<|u<|ex j0 j0<|u<|asg j0<|u<|asg j0<|r_nil ?_
 refine rg j0<|u<|mv j0<|u<|asg j0<|r_nil ?_
 refine sw_ret ?_
 obtain rfl:=h
 exact ⟨_,j0,[],ci j0,j0,j5,j0,j1⟩
def hier_New_1 (v1 : List UInt8) (v2 : List ApiClass) (v3 : List (List UInt8 × Int)) : Bool :=
  (!(hier_Hier_has v2 v3 v1))
theorem hier_New_1_ok (v1 : List UInt8) (v2 : List ApiClass) (v3 : List (List UInt8 × Int)) {r : Bool} (h : hier_New_1 v1 v2 v3 = r) : PureC Tryz.prog 61 [sA v1,.ipt 1 [[.ipt 2 [[.isl 6 (List.map rApiClass v2),.imp (List.map (rKV (fun x=>iA x)) v3)]] 0 0]] 0 0] (bA r):=by
 refine pure_fn Tryz.func61 j0 (by kernel_rfl) j0 j0 ?_
 unfold hier_New_1 at h
 refine rg j0<|u<|asg j0<|r_nil ?_
 refine rg j0<|u<|ld ti25 j0 j0<|u<|mv j0<|u<|pc (hier_Hier_has_ok v2 v3 v1 j0) j0 j0 j0<|u<|nt j0<|u<|asg j0<|r_nil ?_
 refine sw_ret ?_
 obtain rfl:=h
 exact ⟨_,j0,[],ci j0,j0,j5,j0,j1⟩
def slices_IndexFunc_string_string_s4_k2 : Option (Int) :=
  some (-1)
def slices_IndexFunc_string_string_s4_l1 (v1 : List (List UInt8)) (v2 : List ApiClass) (v3 : List (List UInt8 × Int)) (v6 : Int) : Option (Sum (Int) (Sum (Unit) (Int))) :=
  cond (decide (v6 < (List.length v1 : Int))) ((idx v1 v6).bind fun v7=>cond (hier_New_1 v7 v2 v3) (some (.inr (.inr v6))) (some (.inl (IntKind.i64.wrap (v6 + 1))))) (some (.inr (.inl ())))
def slices_IndexFunc_string_string_s4 (v1 : List (List UInt8)) (v2 : List ApiClass) (v3 : List (List UInt8 × Int)) : Option (Int) :=
  (loopP (fun z=>slices_IndexFunc_string_string_s4_l1 v1 v2 v3 z) 0).bind fun o=>leave o (fun b=>slices_IndexFunc_string_string_s4_k2) some
theorem slices_IndexFunc_string_string_s4_ok (v1 : List (List UInt8)) (v2 : List ApiClass) (v3 : List (List UInt8 × Int)) {r : Int} (h : slices_IndexFunc_string_string_s4 v1 v2 v3 = some r) : PureC Tryz.prog 105 [.isl 1 (List.map rStr v1),.fn (.func 61) [] [.ipt 1 [[.ipt 2 [[.isl 6 (List.map rApiClass v2),.imp (List.map (rKV (fun x=>iA x)) v3)]] 0 0]] 0 0]] (iA r):=by
 refine pure_fn Tryz.func105 j0 (by kernel_rfl) j0 j0 ?_
 unfold slices_IndexFunc_string_string_s4 at h
 refine rg j0<|u<|asg j0<|r_nil ?_
 refine sw_seq ?_
 refine rg j0<|u<|mv j0<|u<|lnI ti32 j0 j0<|u<|mv j0<|r_nil ?_
 obtain ⟨o,ho,h⟩:=bs h
 refine sw_lpl (X:=Int) (B:=Unit) (R:=Int) (fun z=>[(0,.isl 1 (List.map rStr v1)),(1,.fn (.func 61) [] [.ipt 1 [[.ipt 2 [[.isl 6 (List.map rApiClass v2),.imp (List.map (rKV (fun x=>iA x)) v3)]] 0 0]] 0 0]),(7,iA (List.length v1 : Int)),(8,iA z)]) (fun z=>[]) (fun b=>[]) (fun b=>[]) (fun r env st=>PostF Tryz.prog Tryz.f105 0 (iA r) [] env st) ho ⟨[],ce j0 j0<|ce j0 j0<|ce j0 j0<|ce j0 j0<|cn,j0,j5,j0,j1⟩ ?_ ?_ ?_
 ·
  rintro v6 r h
  replace h : slices_IndexFunc_string_string_s4_l1 v1 v2 v3 v6 = some r:=h
  unfold slices_IndexFunc_string_string_s4_l1 at h
  refine rg j0<|u<|lss ti3 j0 j0<|r_nil ?_
  refine sw_seq ?_
  refine sw_cond j0 (fun hc4=>?_) (fun hc4=>?_)
  ·
   replace h:=bT hc4 h
   refine sw_skip ?_
   refine sw_seq ?_
   refine sw_block ?_
   refine rg j0<|u<|mv j0<|u<|asg j0<|r_nil ?_
   obtain ⟨v7,q5,h⟩:=bs h
   refine rg j0<|u<|mv j0<|u<|mv j0<|u<|mv j0<|u<|ixI ti32 j0 ti9 j0 j0 j0 q5<|u<|ldI ti9 j0 (idx_some q5).2.2 j0<|u<|pc (hier_New_1_ok v7 v2 v3 j0) j0 j0 j0<|r_nil ?_
   refine sw_cond j0 (fun hc6=>?_) (fun hc6=>?_)
   ·
    replace h:=bT hc6 h
    refine rg j0<|u<|mv j0<|u<|asg j0<|r_nil ?_
    refine sw_ret ?_
    obtain rfl:=sm h
    exact ⟨_,j0,_,j0,[],ci j0,j0,j5,j0,j1⟩
   ·
    replace h:=bF hc6 h
    refine sw_skip ?_
    refine rl j0<|u<|add ti3 j0 j0<|u<|mv j0<|r_nil ?_
    obtain rfl:=sm h
    exact ⟨_,j0,[],ce j0 j0<|ce j0 j0<|ce j0 j0<|ce j0 j0<|cn,j0,j5,j0,j1⟩
  ·
   replace h:=bF hc4 h
   refine sw_exit ?_
   obtain rfl:=sm h
   exact ⟨j0,_,j0,[],cn,j0,j5,j0,j1⟩
 ·
  rintro ⟨⟩ rfl
  replace h : slices_IndexFunc_string_string_s4_k2 = some r:=h
  unfold slices_IndexFunc_string_string_s4_k2 at h
  refine ow_intro ?_
  refine rg j0<|u<|asg j0<|r_nil ?_
  refine sw_ret ?_
  obtain rfl:=sm h
  exact ⟨_,j0,[],ci j0,j0,j5,j0,j1⟩
 ·
  rintro r' rfl env st hp
  obtain rfl:=sm h
  exact hp
def slices_ContainsFunc_string_string_s4 (v1 : List (List UInt8)) (v2 : List ApiClass) (v3 : List (List UInt8 × Int)) : Option (Bool) :=
  (slices_IndexFunc_string_string_s4 v1 v2 v3).bind fun v4=>some (decide (0 ≤ v4))
theorem slices_ContainsFunc_string_string_s4_ok (v1 : List (List UInt8)) (v2 : List ApiClass) (v3 : List (List UInt8 × Int)) {r : Bool} (h : slices_ContainsFunc_string_string_s4 v1 v2 v3 = some r) : PureC Tryz.prog 59 [.isl 1 (List.map rStr v1),.fn (.func 61) [] [.ipt 1 [[.ipt 2 [[.isl 6 (List.map rApiClass v2),.imp (List.map (rKV (fun x=>iA x)) v3)]] 0 0]] 0 0]] (bA r):=by
 refine pure_fn Tryz.func59 j0 (by kernel_rfl) j0 j0 ?_
 unfold slices_ContainsFunc_string_string_s4 at h
 refine rg j0<|u<|asg j0<|r_nil ?_
 obtain ⟨v4,q1,h⟩:=bs h
 refine rg j0<|u<|mv j0<|u<|mv j0<|u<|pc (slices_IndexFunc_string_string_s4_ok v1 v2 v3 q1) j0 j0 j0<|u<|geq ti3 j0 j0<|u<|asg j0<|r_nil ?_
 refine sw_ret ?_
 obtain rfl:=sm h
 exact ⟨_,j0,[],ci j0,j0,j5,j0,j1⟩
def hier_Hier_get (v1 : List ApiClass) (v2 : List (List UInt8 × Int)) (v3 : List UInt8) : Option (ApiClass) :=
  (idx v1 (Option.getD (mapGet v3 v2) 0)).bind fun v4=>some v4
theorem hier_Hier_get_ok (v1 : List ApiClass) (v2 : List (List UInt8 × Int)) (v3 : List UInt8) {r : ApiClass} (h : hier_Hier_get v1 v2 v3 = some r) : PureC Tryz.prog 72 [.ipt 2 [[.isl 6 (List.map rApiClass v1),.imp (List.map (rKV (fun x=>iA x)) v2)]] 0 0,sA v3] (.agg [sA r.Name,sA r.Super,bA r.Interface,.isl 1 (List.map rStr r.Impl),.isl 3 (List.map rApiField r.Fields),.isl 10 (List.map rApiMethod r.Methods)]):=by
 refine pure_fn Tryz.func72 j0 (by kernel_rfl) j0 j0 ?_
 unfold hier_Hier_get at h
 refine rg j0<|u<|al 0 ti42 j0<|r_nil ?_
 obtain ⟨v4,q1,h⟩:=bs h
 refine rd [(4,.mpt 0 0 0)] [some (6,[[sA v4.Name,sA v4.Super,bA v4.Interface,.isl 1 (List.map rStr v4.Impl),.isl 3 (List.map rApiField v4.Fields),.isl 10 (List.map rApiMethod v4.Methods)]])] [12] [11,10,9,8,7,6,5,4,3,2,1,0] [(16,.agg [sA v4.Name,sA v4.Super,bA v4.Interface,.isl 1 (List.map rStr v4.Impl),.isl 3 (List.map rApiField v4.Fields),.isl 10 (List.map rApiMethod v4.Methods)]),(15,.ipt 6 (List.map rApiClass v1) (Int.toNat (Option.getD (mapGet v3 v2) 0)) 0),(14,iA (Option.getD (mapGet v3 v2) 0)),(13,sA v3),(12,.imp (List.map (rKV (fun x=>iA x)) v2)),(11,.ipt 2 [[.isl 6 (List.map rApiClass v1),.imp (List.map (rKV (fun x=>iA x)) v2)]] 0 1),(10,.ipt 2 [[.isl 6 (List.map rApiClass v1),.imp (List.map (rKV (fun x=>iA x)) v2)]] 0 0),(9,.ipt 2 [[.isl 6 (List.map rApiClass v1),.imp (List.map (rKV (fun x=>iA x)) v2)]] 0 0),(8,.isl 6 (List.map rApiClass v1)),(7,.ipt 2 [[.isl 6 (List.map rApiClass v1),.imp (List.map (rKV (fun x=>iA x)) v2)]] 0 0),(6,.ipt 2 [[.isl 6 (List.map rApiClass v1),.imp (List.map (rKV (fun x=>iA x)) v2)]] 0 0),(5,.ipt 2 [[.isl 6 (List.map rApiClass v1),.imp (List.map (rKV (fun x=>iA x)) v2)]] 0 0)] 1 (by kernel_rfl) (by kernel_rfl) j0 (by kernel_rfl) (dtS ⟨(fun _=>pa j0 j0 j0 j0 (ldI ti42 j0 (idx_some q1).2.2 j0<|j4)),(fun _=>pa j0 j0 j0 j0 (ixI ti22 j0 ti42 j0 j0 j0 q1<|j4)),(fun _=>pa j0 j0 j0 j0 (mlkF (g:=(fun x=>iA x)) (z:=0) (l:=v2) j0 ti3 j0 j0 j0 j0<|j4)),(fun _=>pa j0 j0 j0 j0 (mv j0<|j4)),(fun _=>pa j0 j0 j0 j0 (ld ti89 j0 j0<|j4)),(fun _=>pa j0 j0 j0 j0 (fa ti91 j0 j0 j0<|j4)),(fun _=>pa j0 j0 j0 j0 (nc j0 j0<|j4)),(fun _=>pa j0 j0 j0 j0 (mv j0<|j4)),(fun _=>pa j0 j0 j0 j0 (ld ti22 j0 j0<|j4)),(fun _=>pa j0 j0 j0 j0 (fa ti91 j0 j0 j0<|j4)),(fun _=>pa j0 j0 j0 j0 (nc j0 j0<|j4)),(fun _=>pa j0 j0 j0 j0 (mv j0<|j4)),j5⟩ (by kernel_rfl) j0 ⟨(fun _ _=>⟨_,j0,j0,sto ti42 j0 j0 j0<|⟨.any,[],[],j0,j0,by kernel_rfl,j5,dt0 ⟨(fun h=>by cases h),(fun h=>by cases h),(fun h=>by cases h),(fun h=>by cases h),(fun h=>by cases h),(fun h=>by cases h),(fun h=>by cases h),(fun h=>by cases h),(fun h=>by cases h),(fun h=>by cases h),(fun h=>by cases h),(fun h=>by cases h),j5⟩ (by kernel_rfl) j0 ⟨[.old 0],cv j0 (.mpt j0)<|cn,j0,⟨⟨_,j0,rsOne ⟨ci j0,ci j0,ci j0,ci j0,ci j0,ci j0,j5⟩⟩,j5⟩,j0,j1⟩⟩⟩),j5⟩) ?_
 refine sw_ret ?_
 obtain rfl:=sm h
 exact ⟨_,j0,[],ci j0,j0,j5,j0,j1⟩
def hier_Hier_fits_1 (v1 : List UInt8) (v2 : List ApiClass) (v3 : List (List UInt8 × Int)) : Option (Bool) :=
  (hier_Hier_get v2 v3 v1).bind fun v4=>some (!v4.Interface)
theorem hier_Hier_fits_1_ok (v1 : List UInt8) (v2 : List ApiClass) (v3 : List (List UInt8 × Int)) {r : Bool} (h : hier_Hier_fits_1 v1 v2 v3 = some r) : PureC Tryz.prog 106 [sA v1,.ipt 1 [[.ipt 2 [[.isl 6 (List.map rApiClass v2),.imp (List.map (rKV (fun x=>iA x)) v3)]] 0 0]] 0 0] (bA r):=by
 refine pure_fn Tryz.func106 j0 (by kernel_rfl) j0 j0 ?_
 unfold hier_Hier_fits_1 at h
 refine rg j0<|u<|asg j0<|r_nil ?_
 obtain ⟨v4,q1,h⟩:=bs h
 refine rg j0<|u<|ld ti25 j0 j0<|u<|mv j0<|u<|pc (hier_Hier_get_ok v2 v3 v1 q1) j0 j0 j0<|u<|fdV j0 j0<|u<|nt j0<|u<|asg j0<|r_nil ?_
 refine sw_ret ?_
 obtain rfl:=sm h
 exact ⟨_,j0,[],ci j0,j0,j5,j0,j1⟩
def slices_IndexFunc_string_string_s5_k2 : Option (Int) :=
  some (-1)
def slices_IndexFunc_string_string_s5_l1 (v1 : List (List UInt8)) (v2 : List ApiClass) (v3 : List (List UInt8 × Int)) (v7 : Int) : Option (Sum (Int) (Sum (Unit) (Int))) :=
  cond (decide (v7 < (List.length v1 : Int))) ((idx v1 v7).bind fun v8=>(hier_Hier_fits_1 v8 v2 v3).bind fun v9=>cond v9 (some (.inr (.inr v7))) (some (.inl (IntKind.i64.wrap (v7 + 1))))) (some (.inr (.inl ())))
def slices_IndexFunc_string_string_s5 (v1 : List (List UInt8)) (v2 : List ApiClass) (v3 : List (List UInt8 × Int)) : Option (Int) :=
  (loopP (fun z=>slices_IndexFunc_string_string_s5_l1 v1 v2 v3 z) 0).bind fun o=>leave o (fun b=>slices_IndexFunc_string_string_s5_k2) some
theorem slices_IndexFunc_string_string_s5_ok (v1 : List (List UInt8)) (v2 : List ApiClass) (v3 : List (List UInt8 × Int)) {r : Int} (h : slices_IndexFunc_string_string_s5 v1 v2 v3 = some r) : PureC Tryz.prog 105 [.isl 1 (List.map rStr v1),.fn (.func 106) [] [.ipt 1 [[.ipt 2 [[.isl 6 (List.map rApiClass v2),.imp (List.map (rKV (fun x=>iA x)) v3)]] 0 0]] 0 0]] (iA r):=by
 refine pure_fn Tryz.func105 j0 (by kernel_rfl) j0 j0 ?_
 unfold slices_IndexFunc_string_string_s5 at h
 refine rg j0<|u<|asg j0<|r_nil ?_
 refine sw_seq ?_
 refine rg j0<|u<|mv j0<|u<|lnI ti32 j0 j0<|u<|mv j0<|r_nil ?_
 obtain ⟨o,ho,h⟩:=bs h
 refine sw_lpl (X:=Int) (B:=Unit) (R:=Int) (fun z=>[(0,.isl 1 (List.map rStr v1)),(1,.fn (.func 106) [] [.ipt 1 [[.ipt 2 [[.isl 6 (List.map rApiClass v2),.imp (List.map (rKV (fun x=>iA x)) v3)]] 0 0]] 0 0]),(7,iA (List.length v1 : Int)),(8,iA z)]) (fun z=>[]) (fun b=>[]) (fun b=>[]) (fun r env st=>PostF Tryz.prog Tryz.f105 0 (iA r) [] env st) ho ⟨[],ce j0 j0<|ce j0 j0<|ce j0 j0<|ce j0 j0<|cn,j0,j5,j0,j1⟩ ?_ ?_ ?_
 ·
  rintro v7 r h
  replace h : slices_IndexFunc_string_string_s5_l1 v1 v2 v3 v7 = some r:=h
  unfold slices_IndexFunc_string_string_s5_l1 at h
  refine rg j0<|u<|lss ti3 j0 j0<|r_nil ?_
  refine sw_seq ?_
  refine sw_cond j0 (fun hc5=>?_) (fun hc5=>?_)
  ·
   replace h:=bT hc5 h
   refine sw_skip ?_
   refine sw_seq ?_
   refine sw_block ?_
   refine rg j0<|u<|mv j0<|u<|asg j0<|r_nil ?_
   obtain ⟨v8,q6,h⟩:=bs h
   obtain ⟨v9,q7,h⟩:=bs h
   refine rg j0<|u<|mv j0<|u<|mv j0<|u<|mv j0<|u<|ixI ti32 j0 ti9 j0 j0 j0 q6<|u<|ldI ti9 j0 (idx_some q6).2.2 j0<|u<|pc (hier_Hier_fits_1_ok v8 v2 v3 q7) j0 j0 j0<|r_nil ?_
   refine sw_cond j0 (fun hc8=>?_) (fun hc8=>?_)
   ·
    replace h:=bT hc8 h
    refine rg j0<|u<|mv j0<|u<|asg j0<|r_nil ?_
    refine sw_ret ?_
    obtain rfl:=sm h
    exact ⟨_,j0,_,j0,[],ci j0,j0,j5,j0,j1⟩
   ·
    replace h:=bF hc8 h
    refine sw_skip ?_
    refine rl j0<|u<|add ti3 j0 j0<|u<|mv j0<|r_nil ?_
    obtain rfl:=sm h
    exact ⟨_,j0,[],ce j0 j0<|ce j0 j0<|ce j0 j0<|ce j0 j0<|cn,j0,j5,j0,j1⟩
  ·
   replace h:=bF hc5 h
   refine sw_exit ?_
   obtain rfl:=sm h
   exact ⟨j0,_,j0,[],cn,j0,j5,j0,j1⟩
 ·
  rintro ⟨⟩ rfl
  replace h : slices_IndexFunc_string_string_s5_k2 = some r:=h
  unfold slices_IndexFunc_string_string_s5_k2 at h
  refine ow_intro ?_
  refine rg j0<|u<|asg j0<|r_nil ?_
  refine sw_ret ?_
  obtain rfl:=sm h
  exact ⟨_,j0,[],ci j0,j0,j5,j0,j1⟩
 ·
  rintro r' rfl env st hp
  obtain rfl:=sm h
  exact hp
def slices_ContainsFunc_string_string_s5 (v1 : List (List UInt8)) (v2 : List ApiClass) (v3 : List (List UInt8 × Int)) : Option (Bool) :=
  (slices_IndexFunc_string_string_s5 v1 v2 v3).bind fun v4=>some (decide (0 ≤ v4))
theorem slices_ContainsFunc_string_string_s5_ok (v1 : List (List UInt8)) (v2 : List ApiClass) (v3 : List (List UInt8 × Int)) {r : Bool} (h : slices_ContainsFunc_string_string_s5 v1 v2 v3 = some r) : PureC Tryz.prog 59 [.isl 1 (List.map rStr v1),.fn (.func 106) [] [.ipt 1 [[.ipt 2 [[.isl 6 (List.map rApiClass v2),.imp (List.map (rKV (fun x=>iA x)) v3)]] 0 0]] 0 0]] (bA r):=by
 refine pure_fn Tryz.func59 j0 (by kernel_rfl) j0 j0 ?_
 unfold slices_ContainsFunc_string_string_s5 at h
 refine rg j0<|u<|asg j0<|r_nil ?_
 obtain ⟨v4,q1,h⟩:=bs h
 refine rg j0<|u<|mv j0<|u<|mv j0<|u<|pc (slices_IndexFunc_string_string_s5_ok v1 v2 v3 q1) j0 j0 j0<|u<|geq ti3 j0 j0<|u<|asg j0<|r_nil ?_
 refine sw_ret ?_
 obtain rfl:=sm h
 exact ⟨_,j0,[],ci j0,j0,j5,j0,j1⟩
def hier_Hier_fits_k10 : Option (Bool) :=
  some true
def hier_Hier_fits_k8 (v30 : Int) (v49 : List (List UInt8)) : Option (Sum ((List (List UInt8)) × Int) (Sum (Unit) (Bool))) :=
  some (.inl (v49,(IntKind.i64.wrap (v30 + 1))))
def hier_Hier_fits_j6 (v43 : Int) (v48 : List (List UInt8)) : Option (Sum ((List (List UInt8)) × Int) (Sum ((List (List UInt8))) (Bool))) :=
  some (.inl (v48,(IntKind.i64.wrap (v43 + 1))))
def hier_Hier_fits_l7 (v34 : (List (List UInt8))) (v42 : List (List UInt8)) (v43 : Int) : Option (Sum ((List (List UInt8)) × Int) (Sum ((List (List UInt8))) (Bool))) :=
  cond (decide (v43 < ((List.length v34) : Int))) ((idx v34 v43).bind fun v44=>(cond (!(v44 == [])) ((slices_Contains_string_string v42 v44).bind fun v45=>some (!v45)) (some false)).bind fun v46=>cond v46 ((appP 16 v42 [v44]).bind fun v47=>hier_Hier_fits_j6 v43 v47) (hier_Hier_fits_j6 v43 v42)) (some (.inr (.inl v42)))
def hier_Hier_fits_l9 (v1 : List ApiClass) (v2 : List (List UInt8 × Int)) (v3 : ApiClass) (v29 : List (List UInt8)) (v30 : Int) : Option (Sum ((List (List UInt8)) × Int) (Sum (Unit) (Bool))) :=
  cond (decide (v30 < ((List.length v29) : Int))) ((idx v29 v30).bind fun v31=>cond (v31 == v3.Name) (some (.inr (.inr false))) ((idx v29 v30).bind fun v32=>(hier_Hier_get v1 v2 v32).bind fun v33=>(hier_above v33).bind fun v34=>(loopP (fun z=>hier_Hier_fits_l7 v34 z.1 z.2) (v29,0)).bind fun o=>leave o (fun b=>hier_Hier_fits_k8 v30 b) (fun r=>some (.inr (.inr r))))) (some (.inr (.inl ())))
def hier_Hier_fits (v1 : List ApiClass) (v2 : List (List UInt8 × Int)) (v3 : ApiClass) : Option (Bool) :=
  (hier_Hier_get v1 v2 v3.Super).bind fun v4=>(cond v4.Interface (some true) ((slices_ContainsFunc_string_string_s5 v3.Impl v1 v2).bind fun v5=>some v5)).bind fun v6=>cond v6 (some false) ((hier_above v3).bind fun v7=>(loopP (fun z=>hier_Hier_fits_l9 v1 v2 v3 z.1 z.2) (v7,0)).bind fun o=>leave o (fun b=>hier_Hier_fits_k10) some)
theorem hier_Hier_fits_ok (v1 : List ApiClass) (v2 : List (List UInt8 × Int)) (v3 : ApiClass) {r : Bool} (h : hier_Hier_fits v1 v2 v3 = some r) : PureC Tryz.prog 63 [.ipt 2 [[.isl 6 (List.map rApiClass v1),.imp (List.map (rKV (fun x=>iA x)) v2)]] 0 0,.agg [sA v3.Name,sA v3.Super,bA v3.Interface,.isl 1 (List.map rStr v3.Impl),.isl 3 (List.map rApiField v3.Fields),.isl 10 (List.map rApiMethod v3.Methods)]] (bA r):=by
 refine pure_fn Tryz.func63 j0 (by kernel_rfl) j0 j0 ?_
 unfold hier_Hier_fits at h
 refine rg j0<|u<|bx 0 1 j0 j0 j0 j0<|u<|bx 1 6 j0 j0 j0 j0<|u<|asg j0<|r_nil ?_
 refine sw_seq ?_
 obtain ⟨v4,q1,h⟩:=bs h
 obtain ⟨v6,q4,h⟩:=bs h
 refine rg j0<|u<|ld ti25 j0 j0<|u<|fa ti42 j0 j0 j0<|u<|ld ti9 j0 j0<|u<|pc (hier_Hier_get_ok v1 v2 v3.Super q1) j0 j0 j0<|u<|fdV j0 j0<|u<|mv j0<|r_or (x:=v6) (j:=5) 4 j0 j0 j0 j0 j0 gpn (fun hb2=>by replace q4:=bF hb2 q4; obtain ⟨v5,q3,q4⟩:=bs q4; obtain rfl:=sm q4; exact g j0 hb2<|fa ti42 j0 j0 j0<|g j0 hb2<|ld ti32 j0 j0<|g j0 hb2<|mf j0 j0<|g j0 hb2<|pcs (slices_ContainsFunc_string_string_s5_ok v3.Impl v1 v2 q3) j0 j0 (.cons (si j0) (.cons (sealFn j5 ⟨(sealBox j0 ⟨(si j0),j5⟩),j5⟩) .nil)) plainB<|r_nil (eg [15,16,17,18] 4 j0 j0 j0 j0)) (fun hb=>(sm (bT hb q4)).symm)<|r_nil ?_
 refine sw_cond j0 (fun hc5=>?_) (fun hc5=>?_)
 ·
  replace h:=bT hc5 h
  refine rg j0<|u<|asg j0<|r_nil ?_
  refine sw_ret ?_
  obtain rfl:=sm h
  exact ⟨_,j0,[],ci j0,j0,j5,j0,j1⟩
 ·
  replace h:=bF hc5 h
  refine sw_skip ?_
  obtain ⟨v7,q6,h⟩:=bs h
  refine rg j0<|u<|ld ti42 j0 j0<|u<|sc [] (hier_above_ok v3 q6) j0 j0 j0 j0 ⟨(rnI j0),j5⟩ j5<|r_can (env0:=[(2,.mpt 0 0 0),(3,.mpt 1 0 0),(21,.msl 2 0 (List.length v7))]) (st0:=[some (1,[[.ipt 2 [[.isl 6 (List.map rApiClass v1),.imp (List.map (rKV (fun x=>iA x)) v2)]] 0 0]]),some (6,[[sA v3.Name,sA v3.Super,bA v3.Interface,.isl 1 (List.map rStr v3.Impl),.isl 3 (List.map rApiField v3.Fields),.isl 10 (List.map rApiMethod v3.Methods)]]),some (1,List.map rStr v7)]) ⟨[.old 0,.old 1,.old 2],cv j0 (.mpt j0)<|cv j0 (.mpt j0)<|cv j0 (.msl j0)<|cn,j0,⟨⟨_,j0,rsOne ⟨ci j0,j5⟩⟩,⟨_,j0,rsOne ⟨ci j0,ci j0,ci j0,ci j0,ci j0,ci j0,j5⟩⟩,⟨_,j0,rsMap (fun _=>j0)⟩,j5⟩,j0,j1⟩<|u<|asg j0<|r_nil ?_
  refine sw_seq ?_
  refine rg j0<|u<|asg j0<|r_nil ?_
  obtain ⟨o,ho,h⟩:=bs h
  refine sw_lpl (X:=(List (List UInt8)) × Int) (B:=Unit) (R:=Bool) (fun z=>[(2,.mpt 0 0 0),(3,.mpt 1 0 0),(5,.msl 2 0 (List.length z.1)),(6,iA z.2)]) (fun z=>[some (1,[[.ipt 2 [[.isl 6 (List.map rApiClass v1),.imp (List.map (rKV (fun x=>iA x)) v2)]] 0 0]]),some (6,[[sA v3.Name,sA v3.Super,bA v3.Interface,.isl 1 (List.map rStr v3.Impl),.isl 3 (List.map rApiField v3.Fields),.isl 10 (List.map rApiMethod v3.Methods)]]),some (1,List.map rStr z.1)]) (fun b=>[]) (fun b=>[]) (fun r env st=>PostF Tryz.prog Tryz.f63 0 (bA r) [] env st) ho ⟨[.old 0,.old 1,.old 2],cv j0 (.mpt j0)<|cv j0 (.mpt j0)<|cv j0 (.msl j0)<|ce j0 j0<|cn,j0,⟨⟨_,j0,rsOne ⟨ci j0,j5⟩⟩,⟨_,j0,rsOne ⟨ci j0,ci j0,ci j0,ci j0,ci j0,ci j0,j5⟩⟩,⟨_,j0,rsMap (fun _=>j0)⟩,j5⟩,j0,j1⟩ ?_ ?_ ?_
  ·
   rintro ⟨v29,v30⟩ r h
   replace h : hier_Hier_fits_l9 v1 v2 v3 v29 v30 = some r:=h
   unfold hier_Hier_fits_l9 at h
   refine sw_seq ?_
   refine rg j0<|u<|mv j0<|u<|mv j0<|u<|lnM ti32 j0 j0 j0<|u<|lss ti3 j0 j0<|r_nil ?_
   refine sw_cond j0 (fun hc27=>?_) (fun hc27=>?_)
   ·
    replace h:=bT hc27 h
    refine sw_skip ?_
    refine sw_seq ?_
    refine sw_block ?_
    refine sw_seq ?_
    obtain ⟨v31,q28,h⟩:=bs h
    refine rd [(2,.mpt 0 0 0),(3,.mpt 1 0 0),(5,.msl 2 0 (List.length v29)),(6,iA v30),(34,bA (v31 == v3.Name))] [some (1,[[.ipt 2 [[.isl 6 (List.map rApiClass v1),.imp (List.map (rKV (fun x=>iA x)) v2)]] 0 0]]),some (6,[[sA v3.Name,sA v3.Super,bA v3.Interface,.isl 1 (List.map rStr v3.Impl),.isl 3 (List.map rApiField v3.Fields),.isl 10 (List.map rApiMethod v3.Methods)]]),some (1,List.map rStr v29)] [] [6,5,4,3,2,1,0] [(34,bA (v31 == v3.Name)),(33,sA v3.Name),(32,.mpt 1 0 0),(31,sA v31),(30,.mpt 2 (Int.toNat v30) 0),(29,iA v30),(28,.msl 2 0 (List.length v29))] 0 (by kernel_rfl) (by kernel_rfl) j0 (by kernel_rfl) (dt0 ⟨(fun _=>pa j0 j0 j0 j0 (seq ti9 j0 j0<|j4)),(fun _=>pa j0 j0 j0 j0 (ld ti9 j0 j0<|j4)),(fun _=>pa j0 j0 j0 j0 (fa ti42 j0 j0 j0<|j4)),(fun _=>pa j0 j0 j0 j0 (ldM ti9 j0 j0 (idx_some q28).2.2 j0<|j4)),(fun _=>pa j0 j0 j0 j0 (ixM ti32 j0 ti9 j0 j0 j0 j0 q28<|j4)),(fun _=>pa j0 j0 j0 j0 (mv j0<|j4)),(fun _=>pa j0 j0 j0 j0 (mv j0<|j4)),j5⟩ (by kernel_rfl) j0 ⟨[.old 0,.old 1,.old 2],cv j0 (.mpt j0)<|cv j0 (.mpt j0)<|cv j0 (.msl j0)<|ce j0 j0<|ce j0 j0<|cn,j0,⟨⟨_,j0,rsOne ⟨ci j0,j5⟩⟩,⟨_,j0,rsOne ⟨ci j0,ci j0,ci j0,ci j0,ci j0,ci j0,j5⟩⟩,⟨_,j0,rsMap (fun _=>j0)⟩,j5⟩,j0,j1⟩) ?_
    refine sw_cond j0 (fun hc29=>?_) (fun hc29=>?_)
    ·
     replace h:=bT hc29 h
     refine rg j0<|u<|asg j0<|r_nil ?_
     refine sw_ret ?_
     obtain rfl:=sm h
     exact ⟨_,j0,_,j0,[],ci j0,j0,j5,j0,j1⟩
    ·
     replace h:=bF hc29 h
     refine sw_skip ?_
     obtain ⟨v32,q30,h⟩:=bs h
     obtain ⟨v33,q31,h⟩:=bs h
     obtain ⟨v34,q32,h⟩:=bs h
     refine rd [(2,.mpt 0 0 0),(3,.mpt 1 0 0),(5,.msl 2 0 (List.length v29)),(6,iA v30),(41,.msl 3 0 (List.length v34)),(42,iA ((List.length v34) : Int)),(43,iA 0)] [some (1,[[.ipt 2 [[.isl 6 (List.map rApiClass v1),.imp (List.map (rKV (fun x=>iA x)) v2)]] 0 0]]),some (6,[[sA v3.Name,sA v3.Super,bA v3.Interface,.isl 1 (List.map rStr v3.Impl),.isl 3 (List.map rApiField v3.Fields),.isl 10 (List.map rApiMethod v3.Methods)]]),some (1,List.map rStr v29),some (1,List.map rStr v34)] [6] [8,5,4,3,2,1,0] [(43,iA 0),(40,.agg [sA v33.Name,sA v33.Super,bA v33.Interface,.isl 1 (List.map rStr v33.Impl),.isl 3 (List.map rApiField v33.Fields),.isl 10 (List.map rApiMethod v33.Methods)]),(39,sA v32),(38,.mpt 2 (Int.toNat v30) 0),(37,iA v30),(36,.msl 2 0 (List.length v29)),(35,.ipt 2 [[.isl 6 (List.map rApiClass v1),.imp (List.map (rKV (fun x=>iA x)) v2)]] 0 0)] 1 (by kernel_rfl) (by kernel_rfl) j0 (by kernel_rfl) (dtS ⟨(fun _=>pa j0 j0 j0 j0 (mv j0<|j4)),(fun _=>pa j0 j0 j0 j0 (pc (hier_Hier_get_ok v1 v2 v32 q31) j0 j0 j0<|j4)),(fun _=>pa j0 j0 j0 j0 (ldM ti9 j0 j0 (idx_some q30).2.2 j0<|j4)),(fun _=>pa j0 j0 j0 j0 (ixM ti32 j0 ti9 j0 j0 j0 j0 q30<|j4)),(fun _=>pa j0 j0 j0 j0 (mv j0<|j4)),(fun _=>pa j0 j0 j0 j0 (mv j0<|j4)),(fun _=>pa j0 j0 j0 j0 (ld ti25 j0 j0<|j4)),j5⟩ (by kernel_rfl) j0 ⟨(fun _ _=>⟨_,j0,j0,sc [] (hier_above_ok v33 q32) j0 j0 j0 j0 ⟨(rnI j0),j5⟩ j5<|⟨(.msl 3 0 (List.length v34)),[7],[(42,iA ((List.length v34) : Int)),(41,.msl 3 0 (List.length v34))],j0,j0,by kernel_rfl,j0,dt0 ⟨(fun _=>pa j0 j0 j0 j0 (lnM ti32 j0 j0 j0<|j4)),(fun _=>pa j0 j0 j0 j0 (mv j0<|j4)),(fun h=>by cases h),(fun _=>pa j0 j0 j0 j0 (ldM ti9 j0 j0 (idx_some q30).2.2 j0<|j4)),(fun _=>pa j0 j0 j0 j0 (ixM ti32 j0 ti9 j0 j0 j0 j0 q30<|j4)),(fun _=>pa j0 j0 j0 j0 (mv j0<|j4)),(fun _=>pa j0 j0 j0 j0 (mv j0<|j4)),(fun _=>pa j0 j0 j0 j0 (ld ti25 j0 j0<|j4)),j5⟩ (by kernel_rfl) j0 ⟨[.old 0,.old 1,.old 2,.old 3],cv j0 (.mpt j0)<|cv j0 (.mpt j0)<|cv j0 (.msl j0)<|ce j0 j0<|cv j0 (.msl j0)<|ce j0 j0<|ce j0 j0<|cn,j0,⟨⟨_,j0,rsOne ⟨ci j0,j5⟩⟩,⟨_,j0,rsOne ⟨ci j0,ci j0,ci j0,ci j0,ci j0,ci j0,j5⟩⟩,⟨_,j0,rsMap (fun _=>j0)⟩,⟨_,j0,rsMap (fun _=>j0)⟩,j5⟩,j0,j1⟩⟩⟩),j5⟩) ?_
     obtain ⟨o,ho,h⟩:=bs h
     refine sw_lpl (X:=(List (List UInt8)) × Int) (B:=(List (List UInt8))) (R:=Bool) (fun z=>[(2,.mpt 0 0 0),(3,.mpt 1 0 0),(5,.msl 2 0 (List.length z.1)),(6,iA v30),(41,.msl 3 0 (List.length v34)),(42,iA ((List.length v34) : Int)),(43,iA z.2)]) (fun z=>[some (1,[[.ipt 2 [[.isl 6 (List.map rApiClass v1),.imp (List.map (rKV (fun x=>iA x)) v2)]] 0 0]]),some (6,[[sA v3.Name,sA v3.Super,bA v3.Interface,.isl 1 (List.map rStr v3.Impl),.isl 3 (List.map rApiField v3.Fields),.isl 10 (List.map rApiMethod v3.Methods)]]),some (1,List.map rStr z.1),some (1,List.map rStr v34)]) (fun b=>[(2,.mpt 0 0 0),(3,.mpt 1 0 0),(5,.msl 2 0 (List.length b)),(6,iA v30)]) (fun b=>[some (1,[[.ipt 2 [[.isl 6 (List.map rApiClass v1),.imp (List.map (rKV (fun x=>iA x)) v2)]] 0 0]]),some (6,[[sA v3.Name,sA v3.Super,bA v3.Interface,.isl 1 (List.map rStr v3.Impl),.isl 3 (List.map rApiField v3.Fields),.isl 10 (List.map rApiMethod v3.Methods)]]),some (1,List.map rStr b)]) (fun r env st=>PostF Tryz.prog Tryz.f63 0 (bA r) [] env st) ho ⟨[.old 0,.old 1,.old 2,.old 3],cv j0 (.mpt j0)<|cv j0 (.mpt j0)<|cv j0 (.msl j0)<|ce j0 j0<|cv j0 (.msl j0)<|ce j0 j0<|ce j0 j0<|cn,j0,⟨⟨_,j0,rsOne ⟨ci j0,j5⟩⟩,⟨_,j0,rsOne ⟨ci j0,ci j0,ci j0,ci j0,ci j0,ci j0,j5⟩⟩,⟨_,j0,rsMap (fun _=>j0)⟩,⟨_,j0,rsMap (fun _=>j0)⟩,j5⟩,j0,j1⟩ ?_ ?_ ?_
     ·
      rintro ⟨v42,v43⟩ r h
      replace h : hier_Hier_fits_l7 v34 v42 v43 = some r:=h
      unfold hier_Hier_fits_l7 at h
      refine rg j0<|u<|lss ti3 j0 j0<|r_nil ?_
      refine sw_seq ?_
      refine sw_cond j0 (fun hc40=>?_) (fun hc40=>?_)
      ·
       replace h:=bT hc40 h
       refine sw_skip ?_
       refine sw_meet (X:=(List (List UInt8))) (fun z=>[(2,.mpt 0 0 0),(3,.mpt 1 0 0),(5,.msl 2 0 (List.length z)),(6,iA v30),(41,.msl 3 0 (List.length v34)),(42,iA ((List.length v34) : Int)),(43,iA v43)]) (fun z=>[some (1,[[.ipt 2 [[.isl 6 (List.map rApiClass v1),.imp (List.map (rKV (fun x=>iA x)) v2)]] 0 0]]),some (6,[[sA v3.Name,sA v3.Super,bA v3.Interface,.isl 1 (List.map rStr v3.Impl),.isl 3 (List.map rApiField v3.Fields),.isl 10 (List.map rApiMethod v3.Methods)]]),some (1,List.map rStr z),some (1,List.map rStr v34)]) (fun z=>hier_Hier_fits_j6 v43 z = some r) ?_ ?_
       ·
        refine sw_block ?_
        obtain ⟨v44,q41,h⟩:=bs h
        refine rg j0<|u<|ixM ti32 j0 ti9 j0 j0 j0 j0 q41<|u<|ldM ti9 j0 j0 (idx_some q41).2.2 j0<|u<|asg j0<|r_nil ?_
        obtain ⟨v46,q44,h⟩:=bs h
        refine rg j0<|u<|mv j0<|u<|sne ti9 j0 j0<|u<|mv j0<|r_and (x:=v46) (j:=2) 4 j0 j0 j0 j0 j0 gpn (fun hb42=>by replace q44:=bT hb42 q44; obtain ⟨v45,q43,q44⟩:=bs q44; obtain rfl:=sm q44; exact g j0 hb42<|mv j0<|g j0 hb42<|mv j0<|g j0 hb42<|pcs (slices_Contains_string_string_ok v42 v44 q43) j0 j0 (.cons (sealM j0 (fun _=>j0)) (.cons (si j0) .nil)) plainB<|g j0 hb42<|nt j0<|r_nil (eg [50,51,52,53] 4 j0 j0 j0 j0)) (fun hb=>(sm (bF hb q44)).symm)<|r_nil ?_
        refine sw_cond j0 (fun hc45=>?_) (fun hc45=>?_)
        ·
         replace h:=bT hc45 h
         obtain ⟨v47,q46,h⟩:=bs h
         exact rl j0<|u<|mv j0<|u<|mv j0<|u<|bl 4 ti32 j0 ti9 j0 (by decide) (by decide) j0 j0 j0<|u<|apM 5 ti32 j0 ti9 j0 j0 (by decide) ti32 j0 j0 j0 j0 (roX (f:=rStr) (z:=[v44]) j0 j0) (fun _=>j0) j0 q46<|u<|asg j0<|r_nil (⟨v47,h,[.old 0,.old 1,.old 5,.old 3],cv j0 (.mpt j0)<|cv j0 (.mpt j0)<|cv j0 (.msl j0)<|ce j0 j0<|cv j0 (.msl j0)<|ce j0 j0<|ce j0 j0<|cn,j0,⟨⟨_,j0,rsOne ⟨ci j0,j5⟩⟩,⟨_,j0,rsOne ⟨ci j0,ci j0,ci j0,ci j0,ci j0,ci j0,j5⟩⟩,⟨_,j0,rsMap (fun _=>j0)⟩,⟨_,j0,rsMap (fun _=>j0)⟩,j5⟩,j0,j1⟩)
        ·
         replace h:=bF hc45 h
         refine sw_skip ?_
         exact ⟨v42,h,[.old 0,.old 1,.old 2,.old 3],cv j0 (.mpt j0)<|cv j0 (.mpt j0)<|cv j0 (.msl j0)<|ce j0 j0<|cv j0 (.msl j0)<|ce j0 j0<|ce j0 j0<|cn,j0,⟨⟨_,j0,rsOne ⟨ci j0,j5⟩⟩,⟨_,j0,rsOne ⟨ci j0,ci j0,ci j0,ci j0,ci j0,ci j0,j5⟩⟩,⟨_,j0,rsMap (fun _=>j0)⟩,⟨_,j0,rsMap (fun _=>j0)⟩,j5⟩,j0,j1⟩
       ·
        rintro v48 h
        replace h : hier_Hier_fits_j6 v43 v48 = some r:=h
        unfold hier_Hier_fits_j6 at h
        refine rl j0<|u<|add ti3 j0 j0<|u<|mv j0<|r_nil ?_
        obtain rfl:=sm h
        exact ⟨_,j0,[.old 0,.old 1,.old 2,.old 3],cv j0 (.mpt j0)<|cv j0 (.mpt j0)<|cv j0 (.msl j0)<|ce j0 j0<|cv j0 (.msl j0)<|ce j0 j0<|ce j0 j0<|cn,j0,⟨⟨_,j0,rsOne ⟨ci j0,j5⟩⟩,⟨_,j0,rsOne ⟨ci j0,ci j0,ci j0,ci j0,ci j0,ci j0,j5⟩⟩,⟨_,j0,rsMap (fun _=>j0)⟩,⟨_,j0,rsMap (fun _=>j0)⟩,j5⟩,j0,j1⟩
      ·
       replace h:=bF hc40 h
       refine sw_exit ?_
       obtain rfl:=sm h
       exact ⟨j0,_,j0,[.old 0,.old 1,.old 2],cv j0 (.mpt j0)<|cv j0 (.mpt j0)<|cv j0 (.msl j0)<|ce j0 j0<|cn,j0,⟨⟨_,j0,rsOne ⟨ci j0,j5⟩⟩,⟨_,j0,rsOne ⟨ci j0,ci j0,ci j0,ci j0,ci j0,ci j0,j5⟩⟩,⟨_,j0,rsMap (fun _=>j0)⟩,j5⟩,j0,j1⟩
     ·
      rintro v49 rfl
      replace h : hier_Hier_fits_k8 v30 v49 = some r:=h
      unfold hier_Hier_fits_k8 at h
      refine ow_intro ?_
      refine rl j0<|u<|mv j0<|u<|add ti3 j0 j0<|u<|asg j0<|r_nil ?_
      obtain rfl:=sm h
      exact ⟨_,j0,[.old 0,.old 1,.old 2],cv j0 (.mpt j0)<|cv j0 (.mpt j0)<|cv j0 (.msl j0)<|ce j0 j0<|cn,j0,⟨⟨_,j0,rsOne ⟨ci j0,j5⟩⟩,⟨_,j0,rsOne ⟨ci j0,ci j0,ci j0,ci j0,ci j0,ci j0,j5⟩⟩,⟨_,j0,rsMap (fun _=>j0)⟩,j5⟩,j0,j1⟩
     ·
      rintro r' rfl env st hp
      obtain rfl:=sm h
      exact ⟨_,j0,hp⟩
   ·
    replace h:=bF hc27 h
    refine sw_exit ?_
    obtain rfl:=sm h
    exact ⟨j0,_,j0,[],cn,j0,j5,j0,j1⟩
  ·
   rintro ⟨⟩ rfl
   replace h : hier_Hier_fits_k10 = some r:=h
   unfold hier_Hier_fits_k10 at h
   refine ow_intro ?_
   refine rg j0<|u<|asg j0<|r_nil ?_
   refine sw_ret ?_
   obtain rfl:=sm h
   exact ⟨_,j0,[],ci j0,j0,j5,j0,j1⟩
  ·
   rintro r' rfl env st hp
   obtain rfl:=sm h
   exact hp
def hier_New_k8 (v24 : List ApiClass) (v25 : List (List UInt8 × Int)) : Option ((Option HierHier) × Int) :=
  some ((some (HierHier.mk v24 v25)),0)
def hier_New_l7 (v1 : List ApiClass) (v24 : List ApiClass) (v25 : List (List UInt8 × Int)) (v37 : Int) : Option (Sum (Int) (Sum (Unit) ((Option HierHier) × Int))) :=
  cond (decide (v37 < (List.length v1 : Int))) ((idx v1 v37).bind fun v38=>(hier_Hier_fits v24 v25 v38).bind fun v39=>cond (!v39) (some (.inr (.inr (none,1)))) (some (.inl (IntKind.i64.wrap (v37 + 1))))) (some (.inr (.inl ())))
def hier_New_k6 (v1 : List ApiClass) (v24 : List ApiClass) (v25 : List (List UInt8 × Int)) : Option ((Option HierHier) × Int) :=
  (loopP (fun z=>hier_New_l7 v1 v24 v25 z) 0).bind fun o=>leave o (fun b=>hier_New_k8 v24 v25) some
def hier_New_l5 (v1 : List ApiClass) (v24 : List ApiClass) (v25 : List (List UInt8 × Int)) (v30 : Int) : Option (Sum (Int) (Sum (Unit) ((Option HierHier) × Int))) :=
  cond (decide (v30 < (List.length v1 : Int))) ((idx v1 v30).bind fun v31=>(hier_above v31).bind fun v32=>(slices_ContainsFunc_string_string_s4 v32 v24 v25).bind fun v33=>cond v33 (some (.inr (.inr (none,4)))) (some (.inl (IntKind.i64.wrap (v30 + 1))))) (some (.inr (.inl ())))
def hier_New_k4 (v1 : List ApiClass) (v24 : List ApiClass) (v25 : List (List UInt8 × Int)) : Option ((Option HierHier) × Int) :=
  (loopP (fun z=>hier_New_l5 v1 v24 v25 z) 0).bind fun o=>leave o (fun b=>hier_New_k6 v1 v24 v25) some
def hier_New_l3 (v1 : List ApiClass) (v17 : List ApiClass) (v18 : List (List UInt8 × Int)) (v19 : Int) : Option (Sum ((List ApiClass) × (List (List UInt8 × Int)) × Int) (Sum ((List ApiClass) × (List (List UInt8 × Int))) ((Option HierHier) × Int))) :=
  cond (decide (v19 < (List.length v1 : Int))) ((idx v1 v19).bind fun v20=>(cond (Option.isSome (mapGet v20.Name v18)) (some true) ((class_May v20).bind fun v21=>some (!v21))).bind fun v22=>cond v22 (some (.inr (.inr (none,1)))) ((appP 112 v17 [v20]).bind fun v23=>some (.inl (v23,(mapPut v20.Name ((List.length v17) : Int) v18),(IntKind.i64.wrap (v19 + 1)))))) (some (.inr (.inl (v17,v18))))
def hier_New_k2 (v1 : List ApiClass) (v2 : (List ApiClass)) (v9 : List (List UInt8 × Int)) : Option ((Option HierHier) × Int) :=
  (loopP (fun z=>hier_New_l3 v1 z.1 z.2.1 z.2.2) (v2,v9,0)).bind fun o=>leave o (fun b=>hier_New_k4 v1 b.1 b.2) some
def hier_New_l1 (v2 : (List ApiClass)) (v6 : List (List UInt8 × Int)) (v7 : Int) : Option (Sum ((List (List UInt8 × Int)) × Int) (Sum ((List (List UInt8 × Int))) ((Option HierHier) × Int))) :=
  cond (decide (v7 < ((List.length v2) : Int))) ((idx v2 v7).bind fun v8=>some (.inl ((mapPut v8.Name v7 v6),(IntKind.i64.wrap (v7 + 1))))) (some (.inr (.inl v6)))
def hier_New (v1 : List ApiClass) : Option ((Option HierHier) × Int) :=
  cond (decide (16 < (List.length v1 : Int))) (some (none,3)) ((hier_given).bind fun v2=>(loopP (fun z=>hier_New_l1 v2 z.1 z.2) ([],0)).bind fun o=>leave o (fun b=>hier_New_k2 v1 v2 b) some)
theorem hier_New_ok (v1 : List ApiClass) {r : (Option HierHier) × Int} (h : hier_New v1 = some r) : PureC Tryz.prog 20 [.isl 6 (List.map rApiClass v1)] (.tup [optP 2 rHierHier r.1,iA r.2]):=by
 refine pure_fn Tryz.func20 j0 (by kernel_rfl) j0 (immTup (immC (immP (fun _=>j0)) (j0))) ?_
 unfold hier_New at h
 refine rg j0<|u<|asg j0<|u<|asg j0<|r_nil ?_
 refine sw_seq ?_
 refine rg j0<|u<|mv j0<|u<|lnI ti22 j0 j0<|u<|gtr ti3 j0 j0<|r_nil ?_
 refine sw_cond j0 (fun hc1=>?_) (fun hc1=>?_)
 ·
  replace h:=bT hc1 h
  refine rg j0<|u<|asg j0<|u<|asg j0<|r_nil ?_
  refine sw_ret ?_
  obtain rfl:=sm h
  exact ⟨_,j0,[],rsTup ⟨(ci j0),(ci j0),j5⟩,j0,j5,j0,j1⟩
 ·
  replace h:=bF hc1 h
  refine sw_skip ?_
  obtain ⟨v2,q2,h⟩:=bs h
  refine rg j0<|u<|sc [] (hier_given_ok q2) j0 j0 j0 j0 j5 j5<|r_can (env0:=[(0,.isl 6 (List.map rApiClass v1)),(18,.msl 0 0 (List.length v2))]) (st0:=[some (6,List.map rApiClass v2)]) ⟨[.old 0],ce j0 j0<|cv j0 (.msl j0)<|cn,j0,⟨⟨_,j0,rsMap (fun _=>j0)⟩,j5⟩,j0,j1⟩<|u<|mmk (e:=3) 1 j0 j0<|u<|bd ti91 j0 j0 j0<|u<|bx 2 2 j0 j0 j0 j0<|u<|al 3 ti25 j0<|u<|sto ti25 j0 j0 j0<|r_nil ?_
  refine sw_seq ?_
  refine rg j0<|u<|ld ti25 j0 j0<|u<|nc j0 j0<|u<|fa ti91 j0 j0 j0<|u<|ld ti22 j0 j0<|u<|lnM ti22 j0 j0 j0<|u<|mv j0<|r_nil ?_
  obtain ⟨o,ho,h⟩:=bs h
  refine sw_lpl (X:=(List (List UInt8 × Int)) × Int) (B:=(List (List UInt8 × Int))) (R:=(Option HierHier) × Int) (fun z=>[(0,.isl 6 (List.map rApiClass v1)),(4,.mpt 0 0 0),(25,.msl 2 0 (List.length v2)),(26,iA ((List.length v2) : Int)),(27,iA z.2)]) (fun z=>[some (1,[[.mpt 1 0 0]]),some (2,[[.msl 2 0 (List.length v2),.mmp 3]]),some (6,List.map rApiClass v2),some (2,List.map (rKV (fun x=>iA x)) z.1)]) (fun b=>[(0,.isl 6 (List.map rApiClass v1)),(4,.mpt 0 0 0)]) (fun b=>[some (1,[[.mpt 1 0 0]]),some (2,[[.msl 2 0 (List.length v2),.mmp 3]]),some (6,List.map rApiClass v2),some (2,List.map (rKV (fun x=>iA x)) b)]) (fun r env st=>PostF Tryz.prog Tryz.f20 0 (.tup [optP 2 rHierHier r.1,iA r.2]) [] env st) ho ⟨[.old 3,.old 2,.old 0,.old 1],ce j0 j0<|cv j0 (.mpt j0)<|cv j0 (.msl j0)<|ce j0 j0<|ce j0 j0<|cn,j0,⟨⟨_,j0,rsOne ⟨.mpt j0,j5⟩⟩,⟨_,j0,rsOne ⟨.msl j0,.mmp j0,j5⟩⟩,⟨_,j0,rsMap (fun _=>j0)⟩,⟨_,j0,rsMap (fun _=>j0)⟩,j5⟩,j0,j1⟩ ?_ ?_ ?_
  ·
   rintro ⟨v6,v7⟩ r h
   replace h : hier_New_l1 v2 v6 v7 = some r:=h
   unfold hier_New_l1 at h
   refine rg j0<|u<|lss ti3 j0 j0<|r_nil ?_
   refine sw_seq ?_
   refine sw_cond j0 (fun hc5=>?_) (fun hc5=>?_)
   ·
    replace h:=bT hc5 h
    refine sw_skip ?_
    refine sw_seq ?_
    refine sw_block ?_
    obtain ⟨v8,q6,h⟩:=bs h
    refine rg j0<|u<|mv j0<|u<|ixM ti22 j0 ti42 j0 j0 j0 j0 q6<|u<|ldM ti42 j0 j0 (idx_some q6).2.2 j0<|u<|al 4 ti42 j0<|u<|asg j0<|u<|sto ti42 j0 j0 j0<|r_nil ?_
    refine rdL [(0,.isl 6 (List.map rApiClass v1)),(4,.mpt 0 0 0),(25,.msl 2 0 (List.length v2)),(26,iA ((List.length v2) : Int)),(27,iA v7)] [some (1,[[.mpt 1 0 0]]),some (2,[[.msl 2 0 (List.length v2),.mmp 3]]),some (6,List.map rApiClass v2),some (2,List.map (rKV (fun x=>iA x)) (mapPut v8.Name v7 v6))] [7] [6,5,4,3,2,1,0] [(38,iA v7),(37,sA v8.Name),(36,.mpt 4 0 0),(35,.mmp 3),(34,.mpt 1 0 1),(33,.mpt 1 0 0),(32,.mpt 1 0 0)] 1 (by kernel_rfl) (by kernel_rfl) j0 (by kernel_rfl) (dtS ⟨(fun _=>pa j0 j0 j0 j0 (mv j0<|j4)),(fun _=>pa j0 j0 j0 j0 (ld ti9 j0 j0<|j4)),(fun _=>pa j0 j0 j0 j0 (fa ti42 j0 j0 j0<|j4)),(fun _=>pa j0 j0 j0 j0 (ld ti89 j0 j0<|j4)),(fun _=>pa j0 j0 j0 j0 (fa ti91 j0 j0 j0<|j4)),(fun _=>pa j0 j0 j0 j0 (nc j0 j0<|j4)),(fun _=>pa j0 j0 j0 j0 (ld ti25 j0 j0<|j4)),j5⟩ (by kernel_rfl) j0 ⟨(fun _ _=>⟨_,j0,j0,mup (v:=v7) (g:=(fun x=>iA x)) (l:=v6) (s:=v8.Name) j0 j0 j0 j0 j0 j0<|⟨.any,[],[],j0,j0,by kernel_rfl,j5,dt0 ⟨(fun h=>by cases h),(fun h=>by cases h),(fun h=>by cases h),(fun h=>by cases h),(fun h=>by cases h),(fun h=>by cases h),(fun h=>by cases h),j5⟩ (by kernel_rfl) j0 ⟨[.old 0,.old 1,.old 2,.old 3],ce j0 j0<|cv j0 (.mpt j0)<|cv j0 (.msl j0)<|ce j0 j0<|ce j0 j0<|cn,j0,⟨⟨_,j0,rsOne ⟨.mpt j0,j5⟩⟩,⟨_,j0,rsOne ⟨.msl j0,.mmp j0,j5⟩⟩,⟨_,j0,rsMap (fun _=>j0)⟩,⟨_,j0,rsMap (fun _=>j0)⟩,j5⟩,j0,j1⟩⟩⟩),j5⟩) ?_
    refine rl j0<|u<|add ti3 j0 j0<|u<|mv j0<|r_nil ?_
    obtain rfl:=sm h
    exact ⟨_,j0,[.old 0,.old 1,.old 2,.old 3],ce j0 j0<|cv j0 (.mpt j0)<|cv j0 (.msl j0)<|ce j0 j0<|ce j0 j0<|cn,j0,⟨⟨_,j0,rsOne ⟨.mpt j0,j5⟩⟩,⟨_,j0,rsOne ⟨.msl j0,.mmp j0,j5⟩⟩,⟨_,j0,rsMap (fun _=>j0)⟩,⟨_,j0,rsMap (fun _=>j0)⟩,j5⟩,j0,j1⟩
   ·
    replace h:=bF hc5 h
    refine sw_exit ?_
    obtain rfl:=sm h
    exact ⟨j0,_,j0,[.old 0,.old 1,.old 2,.old 3],ce j0 j0<|cv j0 (.mpt j0)<|cn,j0,⟨⟨_,j0,rsOne ⟨.mpt j0,j5⟩⟩,⟨_,j0,rsOne ⟨.msl j0,.mmp j0,j5⟩⟩,⟨_,j0,rsMap (fun _=>j0)⟩,⟨_,j0,rsMap (fun _=>j0)⟩,j5⟩,j0,j1⟩
  ·
   rintro v9 rfl
   replace h : hier_New_k2 v1 v2 v9 = some r:=h
   unfold hier_New_k2 at h
   refine ow_intro ?_
   refine sw_seq ?_
   refine rg j0<|u<|mv j0<|u<|lnI ti22 j0 j0<|u<|mv j0<|r_nil ?_
   obtain ⟨o,ho,h⟩:=bs h
   refine sw_lpl (X:=(List ApiClass) × (List (List UInt8 × Int)) × Int) (B:=(List ApiClass) × (List (List UInt8 × Int))) (R:=(Option HierHier) × Int) (fun z=>[(0,.isl 6 (List.map rApiClass v1)),(4,.mpt 0 0 0),(40,.isl 6 (List.map rApiClass v1)),(41,iA (List.length v1 : Int)),(42,iA z.2.2)]) (fun z=>[some (1,[[.mpt 1 0 0]]),some (2,[[.msl 2 0 (List.length z.1),.mmp 3]]),some (6,List.map rApiClass z.1),some (2,List.map (rKV (fun x=>iA x)) z.2.1)]) (fun b=>[(0,.isl 6 (List.map rApiClass v1)),(4,.mpt 0 0 0)]) (fun b=>[some (1,[[.mpt 1 0 0]]),some (2,[[.msl 2 0 (List.length b.1),.mmp 3]]),some (6,List.map rApiClass b.1),some (2,List.map (rKV (fun x=>iA x)) b.2)]) (fun r env st=>PostF Tryz.prog Tryz.f20 0 (.tup [optP 2 rHierHier r.1,iA r.2]) [] env st) ho ⟨[.old 0,.old 1,.old 2,.old 3],ce j0 j0<|cv j0 (.mpt j0)<|ce j0 j0<|ce j0 j0<|ce j0 j0<|cn,j0,⟨⟨_,j0,rsOne ⟨.mpt j0,j5⟩⟩,⟨_,j0,rsOne ⟨.msl j0,.mmp j0,j5⟩⟩,⟨_,j0,rsMap (fun _=>j0)⟩,⟨_,j0,rsMap (fun _=>j0)⟩,j5⟩,j0,j1⟩ ?_ ?_ ?_
   ·
    rintro ⟨v17,v18,v19⟩ r h
    replace h : hier_New_l3 v1 v17 v18 v19 = some r:=h
    unfold hier_New_l3 at h
    refine rg j0<|u<|lss ti3 j0 j0<|r_nil ?_
    refine sw_seq ?_
    refine sw_cond j0 (fun hc14=>?_) (fun hc14=>?_)
    ·
     replace h:=bT hc14 h
     refine sw_skip ?_
     refine sw_seq ?_
     refine sw_block ?_
     obtain ⟨v20,q15,h⟩:=bs h
     refine rg j0<|u<|ixI ti22 j0 ti42 j0 j0 j0 q15<|u<|ldI ti42 j0 (idx_some q15).2.2 j0<|u<|al 4 ti42 j0<|u<|sto ti42 j0 j0 j0<|r_nil ?_
     refine sw_seq ?_
     refine rd [(0,.isl 6 (List.map rApiClass v1)),(4,.mpt 0 0 0),(8,.mpt 4 0 0),(10,bA (Option.isSome (mapGet v20.Name v18))),(40,.isl 6 (List.map rApiClass v1)),(41,iA (List.length v1 : Int)),(42,iA v19)] [some (1,[[.mpt 1 0 0]]),some (2,[[.msl 2 0 (List.length v17),.mmp 3]]),some (6,List.map rApiClass v17),some (2,List.map (rKV (fun x=>iA x)) v18),some (6,[[sA v20.Name,sA v20.Super,bA v20.Interface,.isl 1 (List.map rStr v20.Impl),.isl 3 (List.map rApiField v20.Fields),.isl 10 (List.map rApiMethod v20.Methods)]])] [] [11,10,9,8,7,6,5,4,3,2,1,0] [(10,bA (Option.isSome (mapGet v20.Name v18))),(9,iA (Option.getD (mapGet v20.Name v18) 0)),(55,bA (Option.isSome (mapGet v20.Name v18))),(54,iA (Option.getD (mapGet v20.Name v18) 0)),(46,.tup [iA (Option.getD (mapGet v20.Name v18) 0),bA (Option.isSome (mapGet v20.Name v18))]),(53,.tup [iA (Option.getD (mapGet v20.Name v18) 0),bA (Option.isSome (mapGet v20.Name v18))]),(52,sA v20.Name),(51,.mpt 4 0 0),(50,.mmp 3),(49,.mpt 1 0 1),(48,.mpt 1 0 0),(47,.mpt 1 0 0)] 0 (by kernel_rfl) (by kernel_rfl) j0 (by kernel_rfl) (dt0 ⟨(fun _=>pa j0 j0 j0 j0 (asg j0<|j4)),(fun _=>pa j0 j0 j0 j0 (asg j0<|j4)),(fun _=>pa j0 j0 j0 j0 (ex j0 j0<|j4)),(fun _=>pa j0 j0 j0 j0 (ex j0 j0<|j4)),(fun _=>pa j0 j0 j0 j0 (mv j0<|j4)),(fun _=>pa j0 j0 j0 j0 (mlkT (g:=(fun x=>iA x)) (z:=0) (l:=v18) j0 ti3 j0 j0 j0 j0<|j4)),(fun _=>pa j0 j0 j0 j0 (ld ti9 j0 j0<|j4)),(fun _=>pa j0 j0 j0 j0 (fa ti42 j0 j0 j0<|j4)),(fun _=>pa j0 j0 j0 j0 (ld ti89 j0 j0<|j4)),(fun _=>pa j0 j0 j0 j0 (fa ti91 j0 j0 j0<|j4)),(fun _=>pa j0 j0 j0 j0 (nc j0 j0<|j4)),(fun _=>pa j0 j0 j0 j0 (ld ti25 j0 j0<|j4)),j5⟩ (by kernel_rfl) j0 ⟨[.old 0,.old 1,.old 2,.old 3,.old 4],ce j0 j0<|cv j0 (.mpt j0)<|cv j0 (.mpt j0)<|ce j0 j0<|ce j0 j0<|ce j0 j0<|ce j0 j0<|cn,j0,⟨⟨_,j0,rsOne ⟨.mpt j0,j5⟩⟩,⟨_,j0,rsOne ⟨.msl j0,.mmp j0,j5⟩⟩,⟨_,j0,rsMap (fun _=>j0)⟩,⟨_,j0,rsMap (fun _=>j0)⟩,⟨_,j0,rsOne ⟨ci j0,ci j0,ci j0,ci j0,ci j0,ci j0,j5⟩⟩,j5⟩,j0,j1⟩) ?_
     obtain ⟨v22,q18,h⟩:=bs h
     refine rg j0<|u<|mv j0<|u<|mv j0<|r_or (x:=v22) (j:=1) 3 j0 j0 j0 j0 j0 gpn (fun hb16=>by replace q18:=bF hb16 q18; obtain ⟨v21,q17,q18⟩:=bs q18; obtain rfl:=sm q18; exact g j0 hb16<|ld ti42 j0 j0<|g j0 hb16<|pc (class_May_ok v20 q17) j0 j0 j0<|g j0 hb16<|nt j0<|r_nil (eg [58,59,60] 3 j0 j0 j0 j0)) (fun hb=>(sm (bT hb q18)).symm)<|r_nil ?_
     refine sw_cond j0 (fun hc19=>?_) (fun hc19=>?_)
     ·
      replace h:=bT hc19 h
      refine rg j0<|u<|asg j0<|u<|asg j0<|r_nil ?_
      refine sw_ret ?_
      obtain rfl:=sm h
      exact ⟨_,j0,_,j0,[],rsTup ⟨(ci j0),(ci j0),j5⟩,j0,j5,j0,j1⟩
     ·
      replace h:=bF hc19 h
      refine sw_skip ?_
      refine rd [(0,.isl 6 (List.map rApiClass v1)),(4,.mpt 0 0 0),(8,.mpt 4 0 0),(40,.isl 6 (List.map rApiClass v1)),(41,iA (List.length v1 : Int)),(42,iA v19)] [some (1,[[.mpt 1 0 0]]),some (2,[[.msl 2 0 (List.length v17),.mmp 3]]),some (6,List.map rApiClass v17),some (2,List.map (rKV (fun x=>iA x)) (mapPut v20.Name ((List.length v17) : Int) v18)),some (6,[[sA v20.Name,sA v20.Super,bA v20.Interface,.isl 1 (List.map rStr v20.Impl),.isl 3 (List.map rApiField v20.Fields),.isl 10 (List.map rApiMethod v20.Methods)]])] [11] [10,9,8,7,6,5,4,3,2,1,0] [(72,iA ((List.length v17) : Int)),(71,.msl 2 0 (List.length v17)),(70,.mpt 1 0 0),(69,.mpt 1 0 0),(68,.mpt 1 0 0),(67,sA v20.Name),(66,.mpt 4 0 0),(65,.mmp 3),(64,.mpt 1 0 1),(63,.mpt 1 0 0),(62,.mpt 1 0 0)] 1 (by kernel_rfl) (by kernel_rfl) j0 (by kernel_rfl) (dtS ⟨(fun _=>pa j0 j0 j0 j0 (lnM ti22 j0 j0 j0<|j4)),(fun _=>pa j0 j0 j0 j0 (ld ti22 j0 j0<|j4)),(fun _=>pa j0 j0 j0 j0 (fa ti91 j0 j0 j0<|j4)),(fun _=>pa j0 j0 j0 j0 (nc j0 j0<|j4)),(fun _=>pa j0 j0 j0 j0 (ld ti25 j0 j0<|j4)),(fun _=>pa j0 j0 j0 j0 (ld ti9 j0 j0<|j4)),(fun _=>pa j0 j0 j0 j0 (fa ti42 j0 j0 j0<|j4)),(fun _=>pa j0 j0 j0 j0 (ld ti89 j0 j0<|j4)),(fun _=>pa j0 j0 j0 j0 (fa ti91 j0 j0 j0<|j4)),(fun _=>pa j0 j0 j0 j0 (nc j0 j0<|j4)),(fun _=>pa j0 j0 j0 j0 (ld ti25 j0 j0<|j4)),j5⟩ (by kernel_rfl) j0 ⟨(fun _ _=>⟨_,j0,j0,mup (v:=((List.length v17) : Int)) (g:=(fun x=>iA x)) (l:=v18) (s:=v20.Name) j0 j0 j0 j0 j0 j0<|⟨.any,[],[],j0,j0,by kernel_rfl,j5,dt0 ⟨(fun h=>by cases h),(fun h=>by cases h),(fun h=>by cases h),(fun h=>by cases h),(fun h=>by cases h),(fun h=>by cases h),(fun h=>by cases h),(fun h=>by cases h),(fun h=>by cases h),(fun h=>by cases h),(fun h=>by cases h),j5⟩ (by kernel_rfl) j0 ⟨[.old 0,.old 1,.old 2,.old 3,.old 4],ce j0 j0<|cv j0 (.mpt j0)<|cv j0 (.mpt j0)<|ce j0 j0<|ce j0 j0<|ce j0 j0<|cn,j0,⟨⟨_,j0,rsOne ⟨.mpt j0,j5⟩⟩,⟨_,j0,rsOne ⟨.msl j0,.mmp j0,j5⟩⟩,⟨_,j0,rsMap (fun _=>j0)⟩,⟨_,j0,rsMap (fun _=>j0)⟩,⟨_,j0,rsOne ⟨ci j0,ci j0,ci j0,ci j0,ci j0,ci j0,j5⟩⟩,j5⟩,j0,j1⟩⟩⟩),j5⟩) ?_
      obtain ⟨v23,q20,h⟩:=bs h
      refine rdL [(0,.isl 6 (List.map rApiClass v1)),(4,.mpt 0 0 0),(40,.isl 6 (List.map rApiClass v1)),(41,iA (List.length v1 : Int)),(42,iA v19)] [some (1,[[.mpt 1 0 0]]),some (2,[[.msl 2 0 (List.length v23),.mmp 3]]),some (6,List.map rApiClass v23),some (2,List.map (rKV (fun x=>iA x)) (mapPut v20.Name ((List.length v17) : Int) v18))] [6,7,10] [5,4,3,2,1,0] [(78,.agg [sA v20.Name,sA v20.Super,bA v20.Interface,.isl 1 (List.map rStr v20.Impl),.isl 3 (List.map rApiField v20.Fields),.isl 10 (List.map rApiMethod v20.Methods)]),(77,.msl 2 0 (List.length v17)),(76,.mpt 1 0 0),(75,.mpt 1 0 0),(74,.mpt 1 0 0),(73,.mpt 1 0 0)] 3 (by kernel_rfl) (by kernel_rfl) j0 (by kernel_rfl) (dtS ⟨(fun _=>pa j0 j0 j0 j0 (ld ti42 j0 j0<|j4)),(fun _=>pa j0 j0 j0 j0 (ld ti22 j0 j0<|j4)),(fun _=>pa j0 j0 j0 j0 (fa ti91 j0 j0 j0<|j4)),(fun _=>pa j0 j0 j0 j0 (nc j0 j0<|j4)),(fun _=>pa j0 j0 j0 j0 (ld ti25 j0 j0<|j4)),(fun _=>pa j0 j0 j0 j0 (ld ti25 j0 j0<|j4)),j5⟩ (by kernel_rfl) j0 ⟨(fun _ _=>⟨_,j0,j0,bl 5 ti22 j0 ti42 j0 (by decide) (by decide) j0 j0 j0<|⟨(.msl 5 0 1),[],[(79,.msl 5 0 1)],j0,j0,by kernel_rfl,j0,dtS ⟨(fun h=>by cases h),(fun _=>pa j0 j0 j0 j0 (ld ti22 j0 j0<|j4)),(fun _=>pa j0 j0 j0 j0 (fa ti91 j0 j0 j0<|j4)),(fun _=>pa j0 j0 j0 j0 (nc j0 j0<|j4)),(fun _=>pa j0 j0 j0 j0 (ld ti25 j0 j0<|j4)),(fun _=>pa j0 j0 j0 j0 (ld ti25 j0 j0<|j4)),j5⟩ (by kernel_rfl) j0 ⟨(fun h=>by cases h),(fun _ _=>⟨_,j0,j0,apM 6 ti22 j0 ti42 j0 j0 (by decide) ti22 j0 j0 j0 j0 (roX (f:=rApiClass) (z:=[v20]) j0 j0) (fun _=>j0) j0 q20<|⟨(.msl 6 0 (List.length v23)),[9,8],[(82,.mpt 1 0 0),(81,.mpt 1 0 0),(80,.msl 6 0 (List.length v23))],j0,j0,by kernel_rfl,j0,dtS ⟨(fun _=>pa j0 j0 j0 j0 (fa ti91 j0 j0 j0<|j4)),(fun _=>pa j0 j0 j0 j0 (nc j0 j0<|j4)),(fun h=>by cases h),(fun h=>by cases h),(fun _=>pa j0 j0 j0 j0 (fa ti91 j0 j0 j0<|j4)),(fun _=>pa j0 j0 j0 j0 (nc j0 j0<|j4)),(fun _=>pa j0 j0 j0 j0 (ld ti25 j0 j0<|j4)),(fun _=>pa j0 j0 j0 j0 (ld ti25 j0 j0<|j4)),j5⟩ (by kernel_rfl) j0 ⟨(fun h=>by cases h),(fun h=>by cases h),(fun _ _=>⟨_,j0,j0,sto ti22 j0 j0 j0<|⟨.any,[],[],j0,j0,by kernel_rfl,j5,dt0 ⟨(fun h=>by cases h),(fun _=>pa j0 j0 j0 j0 (nc j0 j0<|j4)),(fun h=>by cases h),(fun h=>by cases h),(fun h=>by cases h),(fun h=>by cases h),(fun h=>by cases h),(fun h=>by cases h),j5⟩ (by kernel_rfl) j0 ⟨[.old 0,.old 1,.old 6,.old 3],ce j0 j0<|cv j0 (.mpt j0)<|ce j0 j0<|ce j0 j0<|ce j0 j0<|cn,j0,⟨⟨_,j0,rsOne ⟨.mpt j0,j5⟩⟩,⟨_,j0,rsOne ⟨.msl j0,.mmp j0,j5⟩⟩,⟨_,j0,rsMap (fun _=>j0)⟩,⟨_,j0,rsMap (fun _=>j0)⟩,j5⟩,j0,j1⟩⟩⟩),j5⟩⟩⟩),(fun _ h=>by cases h),j5⟩⟩⟩),(fun _ h=>by cases h),(fun _ h=>by cases h),j5⟩) ?_
      refine rl j0<|u<|add ti3 j0 j0<|u<|mv j0<|r_nil ?_
      obtain rfl:=sm h
      exact ⟨_,j0,[.old 0,.old 1,.old 2,.old 3],ce j0 j0<|cv j0 (.mpt j0)<|ce j0 j0<|ce j0 j0<|ce j0 j0<|cn,j0,⟨⟨_,j0,rsOne ⟨.mpt j0,j5⟩⟩,⟨_,j0,rsOne ⟨.msl j0,.mmp j0,j5⟩⟩,⟨_,j0,rsMap (fun _=>j0)⟩,⟨_,j0,rsMap (fun _=>j0)⟩,j5⟩,j0,j1⟩
    ·
     replace h:=bF hc14 h
     refine sw_exit ?_
     obtain rfl:=sm h
     exact ⟨j0,_,j0,[.old 0,.old 1,.old 2,.old 3],ce j0 j0<|cv j0 (.mpt j0)<|cn,j0,⟨⟨_,j0,rsOne ⟨.mpt j0,j5⟩⟩,⟨_,j0,rsOne ⟨.msl j0,.mmp j0,j5⟩⟩,⟨_,j0,rsMap (fun _=>j0)⟩,⟨_,j0,rsMap (fun _=>j0)⟩,j5⟩,j0,j1⟩
   ·
    rintro ⟨v24,v25⟩ rfl
    replace h : hier_New_k4 v1 v24 v25 = some r:=h
    unfold hier_New_k4 at h
    refine ow_intro ?_
    refine sw_seq ?_
    refine rg j0<|u<|mv j0<|u<|lnI ti22 j0 j0<|u<|mv j0<|r_nil ?_
    obtain ⟨o,ho,h⟩:=bs h
    refine sw_lpl (X:=Int) (B:=Unit) (R:=(Option HierHier) × Int) (fun z=>[(0,.isl 6 (List.map rApiClass v1)),(4,.mpt 0 0 0),(84,.isl 6 (List.map rApiClass v1)),(85,iA (List.length v1 : Int)),(86,iA z)]) (fun z=>[some (1,[[.mpt 1 0 0]]),some (2,[[.msl 2 0 (List.length v24),.mmp 3]]),some (6,List.map rApiClass v24),some (2,List.map (rKV (fun x=>iA x)) v25)]) (fun b=>[(0,.isl 6 (List.map rApiClass v1)),(4,.mpt 0 0 0)]) (fun b=>[some (1,[[.mpt 1 0 0]]),some (2,[[.msl 2 0 (List.length v24),.mmp 3]]),some (6,List.map rApiClass v24),some (2,List.map (rKV (fun x=>iA x)) v25)]) (fun r env st=>PostF Tryz.prog Tryz.f20 0 (.tup [optP 2 rHierHier r.1,iA r.2]) [] env st) ho ⟨[.old 0,.old 1,.old 2,.old 3],ce j0 j0<|cv j0 (.mpt j0)<|ce j0 j0<|ce j0 j0<|ce j0 j0<|cn,j0,⟨⟨_,j0,rsOne ⟨.mpt j0,j5⟩⟩,⟨_,j0,rsOne ⟨.msl j0,.mmp j0,j5⟩⟩,⟨_,j0,rsMap (fun _=>j0)⟩,⟨_,j0,rsMap (fun _=>j0)⟩,j5⟩,j0,j1⟩ ?_ ?_ ?_
    ·
     rintro v30 r h
     replace h : hier_New_l5 v1 v24 v25 v30 = some r:=h
     unfold hier_New_l5 at h
     refine rg j0<|u<|lss ti3 j0 j0<|r_nil ?_
     refine sw_seq ?_
     refine sw_cond j0 (fun hc26=>?_) (fun hc26=>?_)
     ·
      replace h:=bT hc26 h
      refine sw_skip ?_
      refine sw_seq ?_
      refine sw_block ?_
      obtain ⟨v31,q27,h⟩:=bs h
      refine rg j0<|u<|ixI ti22 j0 ti42 j0 j0 j0 q27<|u<|ldI ti42 j0 (idx_some q27).2.2 j0<|u<|al 4 ti42 j0<|u<|sto ti42 j0 j0 j0<|r_nil ?_
      obtain ⟨v32,q28,h⟩:=bs h
      obtain ⟨v33,q29,h⟩:=bs h
      refine rg j0<|u<|ld ti42 j0 j0<|u<|sc [] (hier_above_ok v31 q28) j0 j0 j0 j0 ⟨(rnI j0),j5⟩ j5<|r_can (env0:=[(0,.isl 6 (List.map rApiClass v1)),(4,.mpt 0 0 0),(84,.isl 6 (List.map rApiClass v1)),(85,iA (List.length v1 : Int)),(86,iA v30),(91,.msl 4 0 (List.length v32))]) (st0:=[some (1,[[.mpt 1 0 0]]),some (2,[[.msl 2 0 (List.length v24),.mmp 3]]),some (6,List.map rApiClass v24),some (2,List.map (rKV (fun x=>iA x)) v25),some (1,List.map rStr v32)]) ⟨[.old 0,.old 1,.old 2,.old 3,.old 5],ce j0 j0<|cv j0 (.mpt j0)<|ce j0 j0<|ce j0 j0<|ce j0 j0<|cv j0 (.msl j0)<|cn,j0,⟨⟨_,j0,rsOne ⟨.mpt j0,j5⟩⟩,⟨_,j0,rsOne ⟨.msl j0,.mmp j0,j5⟩⟩,⟨_,j0,rsMap (fun _=>j0)⟩,⟨_,j0,rsMap (fun _=>j0)⟩,⟨_,j0,rsMap (fun _=>j0)⟩,j5⟩,j0,j1⟩<|u<|mf j0 j0<|u<|pcs (slices_ContainsFunc_string_string_s4_ok v32 v24 v25 q29) j0 j0 (.cons (sealM j0 (fun _=>j0)) (.cons (sealFn j5 ⟨(sealBox j0 ⟨(sealBox j0 ⟨(sealM j0 (fun _=>j0)),(sealMap j0 (fun _=>j0)),j5⟩),j5⟩),j5⟩) .nil)) plainB<|r_nil ?_
      refine sw_cond j0 (fun hc30=>?_) (fun hc30=>?_)
      ·
       replace h:=bT hc30 h
       refine rg j0<|u<|asg j0<|u<|asg j0<|r_nil ?_
       refine sw_ret ?_
       obtain rfl:=sm h
       exact ⟨_,j0,_,j0,[],rsTup ⟨(ci j0),(ci j0),j5⟩,j0,j5,j0,j1⟩
      ·
       replace h:=bF hc30 h
       refine sw_skip ?_
       refine rl j0<|u<|add ti3 j0 j0<|u<|mv j0<|r_nil ?_
       obtain rfl:=sm h
       exact ⟨_,j0,[.old 0,.old 1,.old 2,.old 3],ce j0 j0<|cv j0 (.mpt j0)<|ce j0 j0<|ce j0 j0<|ce j0 j0<|cn,j0,⟨⟨_,j0,rsOne ⟨.mpt j0,j5⟩⟩,⟨_,j0,rsOne ⟨.msl j0,.mmp j0,j5⟩⟩,⟨_,j0,rsMap (fun _=>j0)⟩,⟨_,j0,rsMap (fun _=>j0)⟩,j5⟩,j0,j1⟩
     ·
      replace h:=bF hc26 h
      refine sw_exit ?_
      obtain rfl:=sm h
      exact ⟨j0,_,j0,[.old 0,.old 1,.old 2,.old 3],ce j0 j0<|cv j0 (.mpt j0)<|cn,j0,⟨⟨_,j0,rsOne ⟨.mpt j0,j5⟩⟩,⟨_,j0,rsOne ⟨.msl j0,.mmp j0,j5⟩⟩,⟨_,j0,rsMap (fun _=>j0)⟩,⟨_,j0,rsMap (fun _=>j0)⟩,j5⟩,j0,j1⟩
    ·
     rintro ⟨⟩ rfl
     replace h : hier_New_k6 v1 v24 v25 = some r:=h
     unfold hier_New_k6 at h
     refine ow_intro ?_
     refine sw_seq ?_
     refine rg j0<|u<|mv j0<|u<|lnI ti22 j0 j0<|u<|mv j0<|r_nil ?_
     obtain ⟨o,ho,h⟩:=bs h
     refine sw_lpl (X:=Int) (B:=Unit) (R:=(Option HierHier) × Int) (fun z=>[(4,.mpt 0 0 0),(95,.isl 6 (List.map rApiClass v1)),(96,iA (List.length v1 : Int)),(97,iA z)]) (fun z=>[some (1,[[.mpt 1 0 0]]),some (2,[[.msl 2 0 (List.length v24),.mmp 3]]),some (6,List.map rApiClass v24),some (2,List.map (rKV (fun x=>iA x)) v25)]) (fun b=>[(4,.mpt 0 0 0)]) (fun b=>[some (1,[[.mpt 1 0 0]]),some (2,[[.msl 2 0 (List.length v24),.mmp 3]]),some (6,List.map rApiClass v24),some (2,List.map (rKV (fun x=>iA x)) v25)]) (fun r env st=>PostF Tryz.prog Tryz.f20 0 (.tup [optP 2 rHierHier r.1,iA r.2]) [] env st) ho ⟨[.old 0,.old 1,.old 2,.old 3],cv j0 (.mpt j0)<|ce j0 j0<|ce j0 j0<|ce j0 j0<|cn,j0,⟨⟨_,j0,rsOne ⟨.mpt j0,j5⟩⟩,⟨_,j0,rsOne ⟨.msl j0,.mmp j0,j5⟩⟩,⟨_,j0,rsMap (fun _=>j0)⟩,⟨_,j0,rsMap (fun _=>j0)⟩,j5⟩,j0,j1⟩ ?_ ?_ ?_
     ·
      rintro v37 r h
      replace h : hier_New_l7 v1 v24 v25 v37 = some r:=h
      unfold hier_New_l7 at h
      refine rg j0<|u<|lss ti3 j0 j0<|r_nil ?_
      refine sw_seq ?_
      refine sw_cond j0 (fun hc35=>?_) (fun hc35=>?_)
      ·
       replace h:=bT hc35 h
       refine sw_skip ?_
       refine sw_seq ?_
       refine sw_block ?_
       obtain ⟨v38,q36,h⟩:=bs h
       refine rg j0<|u<|ixI ti22 j0 ti42 j0 j0 j0 q36<|u<|ldI ti42 j0 (idx_some q36).2.2 j0<|u<|al 4 ti42 j0<|u<|sto ti42 j0 j0 j0<|r_nil ?_
       obtain ⟨v39,q37,h⟩:=bs h
       refine rg j0<|u<|ld ti25 j0 j0<|u<|ld ti42 j0 j0<|u<|pcs (hier_Hier_fits_ok v24 v25 v38 q37) j0 j0 (.cons (sealBox j0 ⟨(sealM j0 (fun _=>j0)),(sealMap j0 (fun _=>j0)),j5⟩) (.cons (si j0) .nil)) plainB<|u<|nt j0<|r_nil ?_
       refine sw_cond j0 (fun hc38=>?_) (fun hc38=>?_)
       ·
        replace h:=bT hc38 h
        refine rg j0<|u<|asg j0<|u<|asg j0<|r_nil ?_
        refine sw_ret ?_
        obtain rfl:=sm h
        exact ⟨_,j0,_,j0,[],rsTup ⟨(ci j0),(ci j0),j5⟩,j0,j5,j0,j1⟩
       ·
        replace h:=bF hc38 h
        refine sw_skip ?_
        refine rl j0<|u<|add ti3 j0 j0<|u<|mv j0<|r_nil ?_
        obtain rfl:=sm h
        exact ⟨_,j0,[.old 0,.old 1,.old 2,.old 3],cv j0 (.mpt j0)<|ce j0 j0<|ce j0 j0<|ce j0 j0<|cn,j0,⟨⟨_,j0,rsOne ⟨.mpt j0,j5⟩⟩,⟨_,j0,rsOne ⟨.msl j0,.mmp j0,j5⟩⟩,⟨_,j0,rsMap (fun _=>j0)⟩,⟨_,j0,rsMap (fun _=>j0)⟩,j5⟩,j0,j1⟩
      ·
       replace h:=bF hc35 h
       refine sw_exit ?_
       obtain rfl:=sm h
       exact ⟨j0,_,j0,[.old 0,.old 1,.old 2,.old 3],cv j0 (.mpt j0)<|cn,j0,⟨⟨_,j0,rsOne ⟨.mpt j0,j5⟩⟩,⟨_,j0,rsOne ⟨.msl j0,.mmp j0,j5⟩⟩,⟨_,j0,rsMap (fun _=>j0)⟩,⟨_,j0,rsMap (fun _=>j0)⟩,j5⟩,j0,j1⟩
     ·
      rintro ⟨⟩ rfl
      replace h : hier_New_k8 v24 v25 = some r:=h
      unfold hier_New_k8 at h
      refine ow_intro ?_
      refine rg j0<|u<|ld ti25 j0 j0<|u<|asg j0<|u<|asg j0<|r_nil ?_
      refine sw_ret ?_
      obtain rfl:=sm h
      exact ⟨_,j0,[],rsTup ⟨(rsP j0 j0 ⟨(rsSeal j0 j0 (fun _=>j0)),(rsSealMap j0 j0 (fun _=>j0)),j5⟩ j0),(ci j0),j5⟩,j0,j5,j0,j1⟩
     ·
      rintro r' rfl env st hp
      obtain rfl:=sm h
      exact hp
    ·
     rintro r' rfl env st hp
     obtain rfl:=sm h
     exact hp
   ·
    rintro r' rfl env st hp
    obtain rfl:=sm h
    exact hp
  ·
   rintro r' rfl env st hp
   obtain rfl:=sm h
   exact hp
end
end Go.Proofs.YtooagifeniibcaaGreat
namespace Go.Proofs.YtooagifeniibcaaGreat
noncomputable section
set_option linter.unusedSimpArgs false
set_option linter.unusedVariables false
set_option maxRecDepth 100000
set_option maxHeartbeats 4000000
def hier_Hier_has_s2 (v1 : List UInt8) : Bool :=
  false
theorem hier_Hier_has_s2_ok (v1 : List UInt8) {r : Bool} (h : hier_Hier_has_s2 v1 = r) : PureC Tryz.prog 62 [.lit (.pointer none),sA v1] (bA r):=by
 refine pure_fn Tryz.func62 j0 (by kernel_rfl) j0 j0 ?_
 unfold hier_Hier_has_s2 at h
 refine rg j0<|u<|asg j0<|r_nil ?_
 refine sw_seq ?_
 refine rg j0<|u<|mv j0<|u<|eqp ti25 j0 j0 j0 j0 j0 j0<|r_nil ?_
 refine sw_cond j0 (fun _=>?_) (fun hx=>by cases hx)
 refine rg j0<|u<|asg j0<|r_nil ?_
 refine sw_ret ?_
 obtain rfl:=h
 exact ⟨_,j0,[],ci j0,j0,j5,j0,j1⟩
def hier_Hier_Supers_k2 : Option ((List (List UInt8))) :=
  some []
def hier_Hier_Supers_l1 (v1 : List UInt8) : Option (Sum (Unit) (Sum (Unit) ((List (List UInt8))))) :=
  cond (hier_Hier_has_s2 v1) ((appP 16 ([] : List (List UInt8)) [v1]).bind fun v2=>none) (some (.inr (.inl ())))
def hier_Hier_Supers (v1 : List UInt8) : Option ((List (List UInt8))) :=
  (loopP (fun z=>hier_Hier_Supers_l1 v1) ()).bind fun o=>leave o (fun b=>hier_Hier_Supers_k2) some
theorem hier_Hier_Supers_ok (v1 : List UInt8) {r : (List (List UInt8))} (h : hier_Hier_Supers v1 = some r) : PureC Tryz.prog 27 [.lit (.pointer none),sA v1] (.isl 1 (List.map rStr r)):=by
 refine pure_fn Tryz.func27 j0 (by kernel_rfl) j0 j0 ?_
 unfold hier_Hier_Supers at h
 refine rg j0<|u<|asg j0<|r_nil ?_
 refine rg j0<|u<|asg j0<|r_nil ?_
 obtain ⟨o,ho,h⟩:=bs h
 refine sw_lp (X:=Unit) (B:=Unit) (R:=(List (List UInt8))) (fun z=>[(0,.lit (.pointer none)),(1,sA v1),(5,.lit (.slice none 0 0))]) (fun z=>[]) (fun b=>[(5,.lit (.slice none 0 0))]) (fun b=>[]) (fun r env st=>PostF Tryz.prog Tryz.f27 0 (.isl 1 (List.map rStr r)) [] env st) ho ⟨[],ce j0 j0<|ce j0 j0<|ce j0 j0<|cn,j0,j5,j0,j1⟩ ?_ ?_ ?_
 ·
  rintro ⟨⟩ r h
  replace h : hier_Hier_Supers_l1 v1 = some r:=h
  unfold hier_Hier_Supers_l1 at h
  refine sw_seq ?_
  refine rg j0<|u<|mv j0<|u<|mv j0<|u<|pc (hier_Hier_has_s2_ok v1 j0) j0 j0 j0<|r_nil ?_
  refine sw_cond j0 (fun hc1=>?_) (fun hc1=>?_)
  ·
   replace h:=bT hc1 h
   refine sw_skip ?_
   refine sw_block ?_
   obtain ⟨v2,q2,h⟩:=bs h
   refine rg j0<|u<|mv j0<|u<|mv j0<|u<|bl 0 ti32 j0 ti9 j0 (by decide) (by decide) j0 j0 j0<|u<|apN (f:=rStr) 1 ti32 j0 ti9 j0 j0 (by decide) ti32 j0 j0 j0 (roX (f:=rStr) (z:=[v1]) j0 j0) (fun _=>j0) j0 q2<|u<|asg j0<|r_nil ?_
   cases h
  ·
   replace h:=bF hc1 h
   refine sw_exit ?_
   obtain rfl:=sm h
   exact ⟨j0,_,j0,[],ce j0 j0<|cn,j0,j5,j0,j1⟩
 ·
  rintro ⟨⟩ rfl
  replace h : hier_Hier_Supers_k2 = some r:=h
  unfold hier_Hier_Supers_k2 at h
  refine rg j0<|u<|mv j0<|u<|asg j0<|r_nil ?_
  refine sw_ret ?_
  obtain rfl:=sm h
  exact ⟨_,j0,[],.nil,j0,j5,j0,j1⟩
 ·
  rintro r' rfl env st hp
  obtain rfl:=sm h
  exact hp
def hier_Hier_Supers_s2_k2 (v12 : List (List UInt8)) : Option ((List (List UInt8))) :=
  some v12
def hier_Hier_Supers_s2_l1 (v1 : List ApiClass) (v2 : List (List UInt8 × Int)) (v8 : List UInt8) (v9 : List (List UInt8)) : Option (Sum ((List UInt8) × (List (List UInt8))) (Sum ((List (List UInt8))) ((List (List UInt8))))) :=
  cond (hier_Hier_has v1 v2 v8) ((appP 16 v9 [v8]).bind fun v10=>(hier_Hier_get v1 v2 v8).bind fun v11=>some (.inl (v11.Super,v10))) (some (.inr (.inl v9)))
def hier_Hier_Supers_s2 (v1 : List ApiClass) (v2 : List (List UInt8 × Int)) (v3 : List UInt8) : Option ((List (List UInt8))) :=
  (loopP (fun z=>hier_Hier_Supers_s2_l1 v1 v2 z.1 z.2) (v3,[])).bind fun o=>leave o (fun b=>hier_Hier_Supers_s2_k2 b) some
theorem hier_Hier_Supers_s2_ok (v1 : List ApiClass) (v2 : List (List UInt8 × Int)) (v3 : List UInt8) {r : (List (List UInt8))} (h : hier_Hier_Supers_s2 v1 v2 v3 = some r) : SC Tryz.prog 27 [.ipt 2 [[.isl 6 (List.map rApiClass v1),.imp (List.map (rKV (fun x=>iA x)) v2)]] 0 0,sA v3] [] (.msl 0 0 (List.length r)) [.many 1 (List.map rStr r)]:=by
 refine ⟨⟨sbOk (sz:=1) (fun _=>j0),j5⟩,scall_fn Tryz.func27 j0 (by kernel_rfl) j0 ?_⟩
 unfold hier_Hier_Supers_s2 at h
 refine rg j0<|u<|asg j0<|r_nil ?_
 refine rg j0<|u<|asg j0<|r_nil ?_
 obtain ⟨o,ho,h⟩:=bs h
 refine sw_lp (X:=(List UInt8) × (List (List UInt8))) (B:=(List (List UInt8))) (R:=(List (List UInt8))) (fun z=>[(0,.ipt 2 [[.isl 6 (List.map rApiClass v1),.imp (List.map (rKV (fun x=>iA x)) v2)]] 0 0),(1,sA z.1),(5,.msl 0 0 (List.length z.2))]) (fun z=>[some (1,List.map rStr z.2)]) (fun b=>[(5,.msl 0 0 (List.length b))]) (fun b=>[some (1,List.map rStr b)]) (fun r env st=>PostF Tryz.prog Tryz.f27 0 (.msl 0 0 (List.length r)) [some (1,List.map rStr r)] env st) ho ⟨[.fresh 1],ce j0 j0<|ce j0 j0<|cv j0 (.nilown j0)<|cn,j0,⟨j4,j5⟩,j0,j1⟩ ?_ ?_ ?_
 ·
  rintro ⟨v8,v9⟩ r h
  replace h : hier_Hier_Supers_s2_l1 v1 v2 v8 v9 = some r:=h
  unfold hier_Hier_Supers_s2_l1 at h
  refine sw_seq ?_
  refine rg j0<|u<|mv j0<|u<|mv j0<|u<|pc (hier_Hier_has_ok v1 v2 v8 j0) j0 j0 j0<|r_nil ?_
  refine sw_cond j0 (fun hc4=>?_) (fun hc4=>?_)
  ·
   replace h:=bT hc4 h
   refine sw_skip ?_
   refine sw_block ?_
   obtain ⟨v10,q5,h⟩:=bs h
   refine rg j0<|u<|mv j0<|u<|mv j0<|u<|bl 1 ti32 j0 ti9 j0 (by decide) (by decide) j0 j0 j0<|u<|apM 2 ti32 j0 ti9 j0 j0 (by decide) ti32 j0 j0 j0 j0 (roX (f:=rStr) (z:=[v8]) j0 j0) (fun _=>j0) j0 q5<|u<|asg j0<|r_nil ?_
   obtain ⟨v11,q6,h⟩:=bs h
   refine rl j0<|u<|mv j0<|u<|mv j0<|u<|pc (hier_Hier_get_ok v1 v2 v8 q6) j0 j0 j0<|u<|fdV j0 j0<|u<|asg j0<|r_nil ?_
   obtain rfl:=sm h
   exact ⟨_,j0,[.old 2],ce j0 j0<|ce j0 j0<|cv j0 (.msl j0)<|cn,j0,⟨⟨_,j0,rsMap (fun _=>j0)⟩,j5⟩,j0,j1⟩
  ·
   replace h:=bF hc4 h
   refine sw_exit ?_
   obtain rfl:=sm h
   exact ⟨j0,_,j0,[.old 0],cv j0 (.msl j0)<|cn,j0,⟨⟨_,j0,rsMap (fun _=>j0)⟩,j5⟩,j0,j1⟩
 ·
  rintro v12 rfl
  replace h : hier_Hier_Supers_s2_k2 v12 = some r:=h
  unfold hier_Hier_Supers_s2_k2 at h
  refine rg j0<|u<|mv j0<|u<|asg j0<|r_nil ?_
  refine sw_ret ?_
  obtain rfl:=sm h
  exact ⟨_,j0,[.old 0],.msl j0,j0,⟨⟨_,j0,rsMap (fun _=>j0)⟩,j5⟩,j0,j1⟩
 ·
  rintro r' rfl env st hp
  obtain rfl:=sm h
  exact hp
end
end Go.Proofs.YtooagifeniibcaaGreat
namespace Go.Proofs.YtooagifeniibcaaGreat
noncomputable section
set_option linter.unusedSimpArgs false
set_option linter.unusedVariables false
set_option maxRecDepth 100000
set_option maxHeartbeats 4000000
def hier_Hier_Class (v1 : Option HierHier) (v2 : List UInt8) : Option (ApiClass × Bool) :=
  optE v1 (cond (!(hier_Hier_has_s2 v2)) (some ((ApiClass.mk [] [] false [] [] []),false)) (none)) (fun v3=>cond (!(hier_Hier_has v3.l v3.at_ v2)) (some ((ApiClass.mk [] [] false [] [] []),false)) ((hier_Hier_get v3.l v3.at_ v2).bind fun v4=>some (v4,true)))
end
end Go.Proofs.YtooagifeniibcaaGreat
namespace Go.Proofs.YtooagifeniibcaaGreat
def zig (n : Int) : Nat := if n < 0 then (-2 * n - 1).toNat else (2 * n).toNat
def putF : Nat → Nat → List UInt8
  | 0, _ => []
  | k + 1, u => if 127 < u then UInt8.ofNat (u % 128 + 128) :: putF k (u / 128) else [UInt8.ofNat u]
def put (n : Int) : List UInt8 := putF 10 (zig n)
end Go.Proofs.YtooagifeniibcaaGreat
namespace Go.Proofs.YtooagifeniibcaaGreat
set_option linter.unusedSimpArgs false
set_option linter.unusedVariables false
theorem idx_nat {α : Type} (l : List α) (i : Nat) : idx l (i : Int) = l[i]? := by
  unfold idx
  rw [if_pos (by omega), Int.toNat_natCast]
theorem idx_zero {α : Type} (l : List α) : idx l 0 = l[0]? := idx_nat l 0
theorem wrapI {n : Int} (h1 : -9223372036854775808 ≤ n) (h2 : n ≤ 9223372036854775807) : IntKind.i64.wrap n = n := IntWalk.i64_in n ⟨h1, h2⟩
theorem wrap_succ {i : Nat} (h : i < 9223372036854775807) : IntKind.i64.wrap ((i : Int) + 1) = ((i + 1 : Nat) : Int) := by
  rw [wrapI (by omega) (by omega)]; omega
theorem cutP_some {α : Type} {l : List α} {a b : Int} (h0 : 0 ≤ a) (h1 : a ≤ b) (h2 : b ≤ l.length) : cutP l a b = some ((l.drop a.toNat).take (b.toNat - a.toNat)) := by
  unfold cutP; rw [if_pos ⟨h0, h1, h2⟩]
theorem cutP_to {α : Type} {l : List α} {b : Nat} (h : b ≤ l.length) : cutP l 0 (b : Int) = some (l.take b) := by
  rw [cutP_some (by omega) (by omega) (by omega)]; simp
theorem cutP_from {α : Type} {l : List α} {a : Nat} (h : a ≤ l.length) : cutP l (a : Int) (l.length : Int) = some (l.drop a) := by
  rw [cutP_some (by omega) (by omega) (by omega)]
  simp only [Int.toNat_natCast]
  rw [List.take_of_length_le (by simp)]
theorem appP_ok {α : Type} {w : Nat} {l x : List α} (h : (l.length + x.length) * w ≤ 140737488355328) (h2 : l.length + x.length ≤ 9223372036854775807) : appP w l x = some (l ++ x) := by
  unfold appP; rw [if_pos ⟨h, h2⟩]
def ends {R U : Type} (u : U) : Option R → Sum U R
  | some r => .inr r
  | none => .inl u
def asks {R U : Type} (i : Nat) : Option R → Sum Int (Sum U R)
  | some r => .inr (.inr r)
  | none => .inl ((i + 1 : Nat) : Int)
theorem loop_from {α R U : Type} {body : Int → Option (Sum Int (Sum U R))} {l : List α} {g : α → Option R} {u : U} {k : Nat}
    (hb : ∀ (i : Nat) x, k ≤ i → l[i]? = some x → body (i : Int) = some (asks i (g x)))
    (he : body (l.length : Int) = some (.inr (.inl u))) (hk : k ≤ l.length) : loopP body (k : Int) = some (ends u ((l.drop k).findSome? g)) := by
  have key : ∀ d i, l.length - i = d → k ≤ i → i ≤ l.length → loopP body (i : Int) = some (ends u ((l.drop i).findSome? g)) := by
    intro d
    induction d with
    | zero =>
      intro i hd hki hi
      have : i = l.length := by omega
      subst this
      rw [loopP_eq, he, List.drop_length]
      rfl
    | succ d ih =>
      intro i hd hki hi
      have hlt : i < l.length := by omega
      rw [loopP_eq, hb i l[i] hki (List.getElem?_eq_getElem hlt), List.drop_eq_getElem_cons hlt, List.findSome?_cons]
      cases g l[i] with
      | some r => rfl
      | none =>
        show loopP body ((i + 1 : Nat) : Int) = _
        exact ih (i + 1) (by omega) (by omega) (by omega)
  exact key _ k rfl (Nat.le_refl _) hk
theorem loop_list {α R U : Type} {body : Int → Option (Sum Int (Sum U R))} {l : List α} {g : α → Option R} {u : U}
    (hb : ∀ (i : Nat) x, l[i]? = some x → body (i : Int) = some (asks i (g x)))
    (he : body (l.length : Int) = some (.inr (.inl u))) : loopP body 0 = some (ends u (l.findSome? g)) :=
  loop_from (k := 0) (fun i x _ => hb i x) he (Nat.zero_le _)
theorem findSome_any {α R : Type} (l : List α) (p : α → Bool) (r : R) : l.findSome? (fun x => cond (p x) (some r) none) = cond (l.any p) (some r) none := by
  induction l with
  | nil => rfl
  | cons x l ih =>
    rw [List.findSome?_cons, List.any_cons]
    cases p x with
    | true => rfl
    | false => simpa using ih
end Go.Proofs.YtooagifeniibcaaGreat
namespace Go.Proofs.YtooagifeniibcaaGreat
set_option linter.unusedSimpArgs false
set_option linter.unusedVariables false
noncomputable def okC (x : UInt8) : Bool := kind_small x || kind_great x || kind_digit x
def headP (p : UInt8 → Bool) : List UInt8 → Bool
  | [] => false
  | x :: _ => p x
noncomputable def wordN (s : List UInt8) : Bool := s.all okC && (!(s == []) && decide ((s.length : Int) ≤ 8))
noncomputable def classN (s : List UInt8) : Bool := wordN s && decide (1 < (s.length : Int)) && headP kind_great s
noncomputable def nameN (s : List UInt8) : Bool := (s == [36, 105, 110, 105, 116]) || (wordN s && headP kind_small s)
def trim1 : List UInt8 → List UInt8
  | [] => []
  | x :: r => if x = 91 then r else x :: r
noncomputable def mayN (s : List UInt8) : Bool := (trim1 (trim1 s) == [73]) || classN (trim1 (trim1 s))
noncomputable def refN (s : List UInt8) : Bool := !(s == [73]) && mayN s
noncomputable def retN (s : List UInt8) : Bool := (s == [86]) || mayN s
abbrev Len (s : List UInt8) : Prop := s.length ≤ 9223372036854775807
theorem not_all {α : Type} (l : List α) (p : α → Bool) : l.any (fun x => !p x) = !l.all p := by
  induction l with
  | nil => rfl
  | cons x l ih => rw [List.any_cons, List.all_cons, ih]; cases p x <;> rfl
theorem kind_word_eq {s : List UInt8} (h : Len s) : kind_word s = some (wordN s) := by
  have hl : loopP (fun z => kind_word_l1 s z) 0 = _ := loop_list (l := s) (g := fun x => cond (!okC x) (some false) none) (u := ()) (fun i x hx => by
    have hi := (List.getElem?_eq_some_iff.1 hx).1
    show kind_word_l1 s (i : Int) = _
    unfold kind_word_l1
    rw [idx_nat, hx, decide_eq_true (by omega), wrap_succ (by unfold Len at h; omega)]
    unfold okC
    cases h1 : kind_small x <;> cases h2 : kind_great x <;> cases h3 : kind_digit x <;> simp [h1, h2, h3, asks]) (by
    show kind_word_l1 s (s.length : Int) = _
    unfold kind_word_l1
    rw [decide_eq_false (by omega)]
    rfl)
  unfold kind_word
  rw [hl, findSome_any, not_all]
  unfold wordN
  cases s.all okC <;> rfl
theorem wordN_ne {s : List UInt8} (h : wordN s = true) : ∃ x r, s = x :: r := by
  cases s with
  | nil => exact absurd h (by decide)
  | cons x r => exact ⟨x, r, rfl⟩
theorem kind_Class_eq {s : List UInt8} (h : Len s) : kind_Class s = some (classN s) := by
  unfold kind_Class
  rw [kind_word_eq h, idx_zero]
  unfold classN
  cases hw : wordN s with
  | false => rfl
  | true =>
    obtain ⟨x, r, rfl⟩ := wordN_ne hw
    simp only [Option.bind_some, Bool.true_and, List.getElem?_cons_zero]
    cases decide (1 < ((x :: r).length : Int)) <;> rfl
theorem kind_Name_eq {s : List UInt8} (h : Len s) : kind_Name s = some (nameN s) := by
  unfold kind_Name
  rw [kind_word_eq h, idx_zero]
  unfold nameN
  cases s == [36, 105, 110, 105, 116] with
  | true => rfl
  | false =>
    cases hw : wordN s with
    | false => rfl
    | true =>
      obtain ⟨x, r, rfl⟩ := wordN_ne hw
      rfl
theorem trim1_cons (x : UInt8) (r : List UInt8) : trim1 (x :: r) = if x = 91 then r else x :: r := rfl
theorem trim1_len (s : List UInt8) : (trim1 s).length ≤ s.length := by
  cases s with
  | nil => exact Nat.le_refl _
  | cons x r => rw [trim1_cons]; split <;> simp
theorem trim_eq {s : List UInt8} (h : Len s) : strings_TrimPrefix s [91] = some (trim1 s) := by
  unfold strings_TrimPrefix internal_stringslite_TrimPrefix internal_stringslite_HasPrefix
  cases s with
  | nil => rfl
  | cons x r =>
    have e1 : decide ((List.length [(91 : UInt8)] : Int) ≤ (List.length (x :: r) : Int)) = true := decide_eq_true (by simp only [List.length_cons, List.length_nil]; omega)
    have e2 : cutP (x :: r) 0 (List.length [(91 : UInt8)] : Int) = some [x] := by
      have := cutP_to (l := x :: r) (b := 1) (by simp)
      simpa using this
    have e3 : cutP (x :: r) (List.length [(91 : UInt8)] : Int) (List.length (x :: r) : Int) = some r := by
      have := cutP_from (l := x :: r) (a := 1) (by simp)
      simpa using this
    rw [e1, e2, e3, trim1_cons]
    by_cases hx : x = 91
    · subst hx; rfl
    · rw [if_neg hx]
      have : ([x] == [(91 : UInt8)]) = false := by simp [hx]
      simp [this]
theorem kind_May_eq {s : List UInt8} (h : Len s) : kind_May s = some (mayN s) := by
  have h1 := trim1_len s
  have h2 := trim1_len (trim1 s)
  unfold kind_May
  rw [trim_eq h, Option.bind_some, trim_eq (by unfold Len at *; omega), Option.bind_some, kind_Class_eq (by unfold Len at *; omega)]
  unfold mayN
  cases trim1 (trim1 s) == [73] <;> rfl
theorem kind_Ref_eq {s : List UInt8} (h : Len s) : kind_Ref s = some (refN s) := by
  unfold kind_Ref
  rw [kind_May_eq h]
  unfold refN
  cases s == [73] <;> rfl
theorem kind_Ret_eq {s : List UInt8} (h : Len s) : kind_Ret s = some (retN s) := by
  unfold kind_Ret
  rw [kind_May_eq h]
  unfold retN
  cases s == [86] <;> rfl
end Go.Proofs.YtooagifeniibcaaGreat
namespace Go.Proofs.YtooagifeniibcaaGreat
set_option linter.unusedSimpArgs false
set_option linter.unusedVariables false
noncomputable def mayCN (o : Int) (s : List UInt8) : Bool := cond (op_typed o) (refN s) (cond (op_c o) (classN s) (s == []))
noncomputable def mayMN (o : Int) (s : List UInt8) : Bool := cond (op_m o) (nameN s && !(s == [36, 105, 110, 105, 116])) (s == [])
noncomputable def mayIns (x : ApiIns) : Bool := (op_known x.Op && op_mayA x.Op x.A) && mayCN x.Op x.C && mayMN x.Op x.M
theorem op_mayC_eq {o : Int} {s : List UInt8} (h : Len s) : op_mayC o s = some (mayCN o s) := by
  unfold op_mayC mayCN
  rw [kind_Ref_eq h, kind_Class_eq h]
  cases op_typed o <;> cases op_c o <;> rfl
theorem op_mayM_eq {o : Int} {s : List UInt8} (h : Len s) : op_mayM o s = some (mayMN o s) := by
  unfold op_mayM mayMN
  rw [kind_Name_eq h]
  cases op_m o <;> rfl
theorem op_May_eq {x : ApiIns} (hC : Len x.C) (hM : Len x.M) : op_May x = some (mayIns x) := by
  unfold op_May mayIns
  rw [op_mayC_eq hC, op_mayM_eq hM]
  cases (op_known x.Op && op_mayA x.Op x.A) <;> cases mayCN x.Op x.C <;> rfl
end Go.Proofs.YtooagifeniibcaaGreat
namespace Go.Proofs.YtooagifeniibcaaGreat
set_option linter.unusedSimpArgs false
set_option linter.unusedVariables false
def ixF {α : Type} (p : α → Bool) : Nat → List α → Int
  | _, [] => -1
  | k, x :: r => cond (p x) (k : Int) (ixF p (k + 1) r)
theorem ixF_any {α : Type} (p : α → Bool) : ∀ (k : Nat) (l : List α), decide (0 ≤ ixF p k l) = l.any p
  | _, [] => rfl
  | k, x :: r => by
    unfold ixF
    rw [List.any_cons]
    cases p x with
    | true => exact decide_eq_true (show (0 : Int) ≤ (k : Int) by omega)
    | false => exact ixF_any p (k + 1) r
theorem index_loop {α : Type} {body : Int → Option (Sum Int (Sum Unit Int))} {l : List α} {p : α → Bool} (hl : l.length ≤ 9223372036854775807)
    (hb : ∀ (i : Nat) x, l[i]? = some x → body (i : Int) = cond (p x) (some (.inr (.inr (i : Int)))) (some (.inl (IntKind.i64.wrap ((i : Int) + 1)))))
    (he : body (l.length : Int) = some (.inr (.inl ()))) :
    (loopP body 0).bind (fun o => leave o (fun _ => some (-1 : Int)) some) = some (ixF p 0 l) := by
  have key : ∀ (r pre : List α), l = pre ++ r → (loopP body (pre.length : Int)).bind (fun o => leave o (fun _ => some (-1 : Int)) some) = some (ixF p pre.length r) := by
    intro r
    induction r with
    | nil =>
      intro pre h
      rw [List.append_nil] at h
      subst h
      rw [loopP_eq, he]
      rfl
    | cons x r ih =>
      intro pre h
      have hlen : l.length = pre.length + (r.length + 1) := by rw [h]; simp
      have hx : l[pre.length]? = some x := by rw [h]; simp
      rw [loopP_eq, hb _ x hx]
      unfold ixF
      cases p x with
      | true => rfl
      | false =>
        rw [wrap_succ (by omega)]
        have := ih (pre ++ [x]) (by rw [h]; simp)
        rw [show (pre ++ [x]).length = pre.length + 1 by simp] at this
        exact this
  exact key l [] rfl
def uB {α : Type} (ok : α → Bool) (nm : α → List UInt8) : List α → List α → Bool
  | _, [] => false
  | pre, x :: r => (!ok x || pre.any (fun y => nm x == nm y)) || uB ok nm (pre ++ [x]) r
theorem uniq_loop {α : Type} {body : Int → Option (Sum Int (Sum Unit Bool))} {l : List α} {ok : α → Bool} {nm : α → List UInt8} (hl : l.length ≤ 9223372036854775807)
    (hb : ∀ (i : Nat) x, l[i]? = some x → body (i : Int) = cond (!ok x || (l.take i).any (fun y => nm x == nm y)) (some (.inr (.inr false))) (some (.inl (IntKind.i64.wrap ((i : Int) + 1)))))
    (he : body (l.length : Int) = some (.inr (.inl ()))) {k : Option Bool} :
    (loopP body 0).bind (fun o => leave o (fun _ => k) some) = cond (uB ok nm [] l) (some false) k := by
  have key : ∀ (r pre : List α), l = pre ++ r → (loopP body (pre.length : Int)).bind (fun o => leave o (fun _ => k) some) = cond (uB ok nm pre r) (some false) k := by
    intro r
    induction r with
    | nil =>
      intro pre h
      rw [List.append_nil] at h
      subst h
      rw [loopP_eq, he]
      rfl
    | cons x r ih =>
      intro pre h
      have hlen : l.length = pre.length + (r.length + 1) := by rw [h]; simp
      have hx : l[pre.length]? = some x := by rw [h]; simp
      have ht : l.take pre.length = pre := by rw [h]; simp
      rw [loopP_eq, hb _ x hx, ht]
      unfold uB
      cases !ok x || pre.any (fun y => nm x == nm y) with
      | true => rfl
      | false =>
        rw [wrap_succ (by omega)]
        have := ih (pre ++ [x]) (by rw [h]; simp)
        rw [show (pre ++ [x]).length = pre.length + 1 by simp] at this
        exact this
  exact key l [] rfl
abbrev LenL {α : Type} (l : List α) : Prop := l.length ≤ 9223372036854775807
theorem here {α : Type} {l : List α} {i : Nat} {x : α} (h : l[i]? = some x) : decide ((i : Int) < (l.length : Int)) = true :=
  decide_eq_true (by have := (List.getElem?_eq_some_iff.1 h).1; omega)
theorem past {α : Type} (l : List α) : decide ((l.length : Int) < (l.length : Int)) = false := decide_eq_false (by omega)
theorem hasField {l : List ApiField} (hl : LenL l) (n t : List UInt8) (s : Bool) : slices_ContainsFunc_api_Field_api_Field l n t s = some (l.any fun y => n == y.Name) := by
  unfold slices_ContainsFunc_api_Field_api_Field slices_IndexFunc_api_Field_api_Field
  rw [show ((loopP (fun z => slices_IndexFunc_api_Field_api_Field_l1 l n t s z) 0).bind fun o => leave o (fun b => slices_IndexFunc_api_Field_api_Field_k2) some) = _ from index_loop (p := fun y : ApiField => n == y.Name) hl
    (fun i x hx => by unfold slices_IndexFunc_api_Field_api_Field_l1; rw [here hx, idx_nat, hx]; rfl) (by unfold slices_IndexFunc_api_Field_api_Field_l1; rw [past]; rfl)]
  exact congrArg some (ixF_any _ 0 l)
theorem hasMethod {l : List ApiMethod} (hl : LenL l) (n : List UInt8) (a b c d e f g h i) : slices_ContainsFunc_api_Method_api_Method l n a b c d e f g h i = some (l.any fun y => n == y.Name) := by
  unfold slices_ContainsFunc_api_Method_api_Method slices_IndexFunc_api_Method_api_Method
  rw [show ((loopP (fun z => slices_IndexFunc_api_Method_api_Method_l1 l n a b c d e f g h i z) 0).bind fun o => leave o (fun b => slices_IndexFunc_api_Method_api_Method_k2) some) = _ from index_loop (p := fun y : ApiMethod => n == y.Name) hl
    (fun i x hx => by unfold slices_IndexFunc_api_Method_api_Method_l1; rw [here hx, idx_nat, hx]; rfl) (by unfold slices_IndexFunc_api_Method_api_Method_l1; rw [past]; rfl)]
  exact congrArg some (ixF_any _ 0 l)
theorem hasName {l : List (List UInt8)} (hl : LenL l) (n : List UInt8) : slices_ContainsFunc_string_string_s3 l n = some (l.any fun y => n == y) := by
  unfold slices_ContainsFunc_string_string_s3 slices_IndexFunc_string_string_s3
  rw [show ((loopP (fun z => slices_IndexFunc_string_string_s3_l1 l n z) 0).bind fun o => leave o (fun b => slices_IndexFunc_string_string_s3_k2) some) = _ from index_loop (p := fun y : List UInt8 => n == y) hl
    (fun i x hx => by unfold slices_IndexFunc_string_string_s3_l1; rw [here hx, idx_nat, hx]; rfl) (by unfold slices_IndexFunc_string_string_s3_l1; rw [past]; rfl)]
  exact congrArg some (ixF_any _ 0 l)
theorem class_Method_eq {c : ApiClass} (hl : LenL c.Methods) (n : List UInt8) : class_Method c n = some (ixF (fun y => y.Name == n) 0 c.Methods) := by
  unfold class_Method slices_IndexFunc_api_Method_api_Method_s2
  rw [show ((loopP (fun z => slices_IndexFunc_api_Method_api_Method_s2_l1 c.Methods n z) 0).bind fun o => leave o (fun b => slices_IndexFunc_api_Method_api_Method_s2_k2) some) = _ from index_loop (p := fun y : ApiMethod => y.Name == n) hl
    (fun i x hx => by unfold slices_IndexFunc_api_Method_api_Method_s2_l1; rw [here hx, idx_nat, hx]; rfl) (by unfold slices_IndexFunc_api_Method_api_Method_s2_l1; rw [past]; rfl)]
  rfl
noncomputable def fieldN (f : ApiField) : Bool := (nameN f.Name && !(f.Name == [36, 105, 110, 105, 116])) && mayN f.Type_
theorem class_May_2_eq {f : ApiField} (h1 : Len f.Name) (h2 : Len f.Type_) : class_May_2 f = some (fieldN f) := by
  unfold class_May_2 fieldN
  rw [kind_Name_eq h1, kind_May_eq h2, Option.bind_some]
  cases (nameN f.Name && !(f.Name == [36, 105, 110, 105, 116])) <;> rfl
theorem allFields {l : List ApiField} (hl : LenL l) (h : ∀ f ∈ l, Len f.Name ∧ Len f.Type_) (n : Int) : class_all_api_Field l n = cond (uB fieldN (·.Name) [] l) (some false) (some (decide ((l.length : Int) ≤ n))) := by
  unfold class_all_api_Field
  refine uniq_loop (ok := fieldN) (nm := (·.Name)) hl (fun i x hx => ?_) ?_
  · have hm := h x (List.mem_of_getElem? hx)
    have hi := (List.getElem?_eq_some_iff.1 hx).1
    unfold class_all_api_Field_l1
    rw [here hx, idx_nat, hx]
    simp only [Option.bind_some, cond_true]
    rw [class_May_2_eq hm.1 hm.2, Option.bind_some, cutP_to (by omega), Option.bind_some, hasField (by unfold LenL at *; rw [List.length_take]; omega)]
    cases fieldN x <;> rfl
  · unfold class_all_api_Field_l1
    rw [past]; rfl
theorem allNames {l : List (List UInt8)} (hl : LenL l) (h : ∀ s ∈ l, Len s) (n : Int) : class_all_string l n = cond (uB classN id [] l) (some false) (some (decide ((l.length : Int) ≤ n))) := by
  unfold class_all_string
  refine uniq_loop (ok := classN) (nm := id) hl (fun i x hx => ?_) ?_
  · have hm := h x (List.mem_of_getElem? hx)
    have hi := (List.getElem?_eq_some_iff.1 hx).1
    unfold class_all_string_l1
    rw [here hx, idx_nat, hx]
    simp only [Option.bind_some, cond_true]
    rw [kind_Class_eq hm, Option.bind_some, cutP_to (by omega), Option.bind_some, hasName (by unfold LenL at *; rw [List.length_take]; omega)]
    cases classN x <;> rfl
  · unfold class_all_string_l1
    rw [past]; rfl
noncomputable def typesN (l : List (List UInt8)) : Bool := !(l.any fun s => !mayN s)
theorem class_types_eq {l : List (List UInt8)} (hl : LenL l) (h : ∀ s ∈ l, Len s) : class_types l = some (typesN l) := by
  unfold class_types slices_ContainsFunc_string_string slices_IndexFunc_string_string
  rw [show ((loopP (fun z => slices_IndexFunc_string_string_l1 l z) 0).bind fun o => leave o (fun b => slices_IndexFunc_string_string_k2) some) = _ from index_loop (p := fun s => !mayN s) hl
    (fun i x hx => by
      unfold slices_IndexFunc_string_string_l1 class_types_1
      rw [here hx, idx_nat, hx]
      simp only [Option.bind_some, cond_true]
      rw [kind_May_eq (h x (List.mem_of_getElem? hx))]
      rfl) (by unfold slices_IndexFunc_string_string_l1; rw [past]; rfl)]
  rw [Option.bind_some, ixF_any]
  rfl
noncomputable def insN (n : Int) (x : ApiIns) : Bool := (!mayIns x) || (op_Jumps x.Op && decide (n ≤ x.A))
noncomputable def instrN (c : List ApiIns) : Bool := class_between (c.length : Int) 1 100 && (c.getLast?.elim false (fun y => op_Ends y.Op) && !(c.any (insN (c.length : Int))))
theorem class_instructions_eq {m : ApiMethod} (hl : LenL m.Code) (h : ∀ x ∈ m.Code, Len x.C ∧ Len x.M) : class_instructions m = some (instrN m.Code) := by
  have hc : slices_ContainsFunc_api_Ins_api_Ins m.Code (m.Code.length : Int) = some (m.Code.any (insN (m.Code.length : Int))) := by
    unfold slices_ContainsFunc_api_Ins_api_Ins slices_IndexFunc_api_Ins_api_Ins
    rw [show ((loopP (fun z => slices_IndexFunc_api_Ins_api_Ins_l1 m.Code (m.Code.length : Int) z) 0).bind fun o => leave o (fun b => slices_IndexFunc_api_Ins_api_Ins_k2) some) = _ from index_loop (p := insN (m.Code.length : Int)) hl
      (fun i x hx => by
        have hm := h x (List.mem_of_getElem? hx)
        unfold slices_IndexFunc_api_Ins_api_Ins_l1 class_instructions_1
        rw [here hx, idx_nat, hx]
        simp only [Option.bind_some, cond_true]
        rw [op_May_eq hm.1 hm.2]
        rfl) (by unfold slices_IndexFunc_api_Ins_api_Ins_l1; rw [past]; rfl)]
    exact congrArg some (ixF_any _ 0 _)
  unfold class_instructions instrN
  rw [hc]
  cases hb : class_between (m.Code.length : Int) 1 100 with
  | false => rfl
  | true =>
    have hb' : (decide (1 ≤ (m.Code.length : Int)) && decide ((m.Code.length : Int) ≤ 100)) = true := hb
    simp only [Bool.and_eq_true, decide_eq_true_eq] at hb'
    have e : IntKind.i64.wrap ((m.Code.length : Int) - 1) = ((m.Code.length - 1 : Nat) : Int) := by
      rw [wrapI (by omega) (by omega)]; omega
    rw [e, idx_nat, ← List.getLast?_eq_getElem?]
    cases hg : m.Code.getLast? with
    | none =>
      rw [List.getLast?_eq_none_iff] at hg
      rw [hg] at hb'
      simp at hb'
    | some y =>
      simp only [Option.bind_some, Bool.not_true, cond_false, Option.elim_some, Bool.true_and]
      cases op_Ends y.Op <;> rfl
noncomputable def trapN (n : Int) (y : ApiTrap) : Bool := (((decide (y.From < 0) || decide (y.To ≤ y.From)) || decide (n < y.To)) || !(class_between y.At 0 (IntKind.i64.wrap (n - 1)))) || (!(y.C == []) && !classN y.C)
noncomputable def trapsN (m : ApiMethod) : Bool := !(m.Traps.any (trapN (m.Code.length : Int))) && decide ((m.Traps.length : Int) ≤ 6)
theorem class_traps_eq {m : ApiMethod} (hl : LenL m.Traps) (h : ∀ x ∈ m.Traps, Len x.C) : class_traps m = some (trapsN m) := by
  unfold class_traps slices_ContainsFunc_api_Trap_api_Trap slices_IndexFunc_api_Trap_api_Trap
  rw [show ((loopP (fun z => slices_IndexFunc_api_Trap_api_Trap_l1 m.Traps m.Name m.Params m.Ret m.Static m.Abstract m.Locals m.Stack m.Code m.Maps m.Traps z) 0).bind fun o => leave o (fun b => slices_IndexFunc_api_Trap_api_Trap_k2) some) = _ from index_loop (p := trapN (m.Code.length : Int)) hl
    (fun i x hx => by
      have hm := h x (List.mem_of_getElem? hx)
      unfold slices_IndexFunc_api_Trap_api_Trap_l1 class_traps_1 trapN
      rw [here hx, idx_nat, hx]
      simp only [Option.bind_some, cond_true]
      rw [kind_Class_eq hm]
      cases (((decide (x.From < 0) || decide (x.To ≤ x.From)) || decide ((m.Code.length : Int) < x.To)) || !(class_between x.At 0 (IntKind.i64.wrap ((m.Code.length : Int) - 1)))) with
      | true => rfl
      | false => cases (x.C == []) <;> rfl) (by unfold slices_IndexFunc_api_Trap_api_Trap_l1; rw [past]; rfl)]
  rw [Option.bind_some, ixF_any]
  rfl
end Go.Proofs.YtooagifeniibcaaGreat
namespace Go.Proofs.YtooagifeniibcaaGreat
set_option linter.unusedSimpArgs false
set_option linter.unusedVariables false
def gB {α : Type} (bad : List α → α → Bool) : List α → List α → Bool
  | _, [] => false
  | pre, x :: r => bad pre x || gB bad (pre ++ [x]) r
theorem gen_loop {α : Type} {body : Int → Option (Sum Int (Sum Unit Bool))} {l : List α} {bad : List α → α → Bool} (hl : l.length ≤ 9223372036854775807)
    (hb : ∀ (i : Nat) x, l[i]? = some x → body (i : Int) = cond (bad (l.take i) x) (some (.inr (.inr false))) (some (.inl (IntKind.i64.wrap ((i : Int) + 1)))))
    (he : body (l.length : Int) = some (.inr (.inl ()))) : loopP body 0 = some (cond (gB bad [] l) (.inr false) (.inl ())) := by
  have key : ∀ (r pre : List α), l = pre ++ r → loopP body (pre.length : Int) = some (cond (gB bad pre r) (.inr false) (.inl ())) := by
    intro r
    induction r with
    | nil =>
      intro pre h
      rw [List.append_nil] at h
      subst h
      rw [loopP_eq, he]
      rfl
    | cons x r ih =>
      intro pre h
      have hlen : l.length = pre.length + (r.length + 1) := by rw [h]; simp
      have hx : l[pre.length]? = some x := by rw [h]; simp
      have ht : l.take pre.length = pre := by rw [h]; simp
      rw [loopP_eq, hb _ x hx, ht]
      unfold gB
      cases bad pre x with
      | true => rfl
      | false =>
        rw [wrap_succ (by omega)]
        have := ih (pre ++ [x]) (by rw [h]; simp)
        rw [show (pre ++ [x]).length = pre.length + 1 by simp] at this
        exact this
  exact key l [] rfl
noncomputable def slotN (v : List UInt8) : Bool := (((v == [73]) || (v == [78])) || (v == [84])) || refN v
theorem class_slot_eq {s : List UInt8} (h : Len s) : class_slot s = some (slotN s) := by
  unfold class_slot slotN
  rw [kind_Ref_eq h]
  cases (((s == [73]) || (s == [78])) || (s == [84])) <;> rfl
noncomputable def slotsN (l : List (List UInt8)) : Bool := !(l.any fun s => !slotN s)
theorem class_types_s2_eq {l : List (List UInt8)} (hl : LenL l) (h : ∀ s ∈ l, Len s) : class_types_s2 l = some (slotsN l) := by
  unfold class_types_s2 slices_ContainsFunc_string_string_s2 slices_IndexFunc_string_string_s2
  rw [show ((loopP (fun z => slices_IndexFunc_string_string_s2_l1 l z) 0).bind fun o => leave o (fun b => slices_IndexFunc_string_string_s2_k2) some) = _ from index_loop (p := fun s => !slotN s) hl
    (fun i x hx => by
      unfold slices_IndexFunc_string_string_s2_l1 class_types_1_s2
      rw [here hx, idx_nat, hx]
      simp only [Option.bind_some, cond_true]
      rw [class_slot_eq (h x (List.mem_of_getElem? hx))]
      rfl) (by unfold slices_IndexFunc_string_string_s2_l1; rw [past]; rfl)]
  rw [Option.bind_some, ixF_any]
  rfl
theorem hasText {l : List (List UInt8)} (hl : LenL l) (n : List UInt8) : slices_Contains_string_string l n = some (l.any fun y => n == y) := by
  unfold slices_Contains_string_string slices_Index_string_string
  rw [show ((loopP (fun z => slices_Index_string_string_l1 l n z) 0).bind fun o => leave o (fun b => slices_Index_string_string_k2) some) = _ from index_loop (p := fun y : List UInt8 => n == y) hl
    (fun i x hx => by unfold slices_Index_string_string_l1; rw [here hx, idx_nat, hx]; rfl) (by unfold slices_Index_string_string_l1; rw [past]; rfl)]
  exact congrArg some (ixF_any _ 0 l)
noncomputable def mapB (m : ApiMethod) (pre : List ApiMap) (x : ApiMap) : Bool :=
  ((!(decide (0 ≤ x.At) && decide (x.At < (m.Code.length : Int)))) || (pre.getLast?.elim false (fun y => decide (x.At ≤ y.At)))) ||
  (((!((x.Locals.length : Int) == m.Locals)) || decide (m.Stack < (x.Stack.length : Int))) || ((!slotsN x.Locals || !slotsN x.Stack) || x.Stack.any (fun y => [84] == y)))
noncomputable def mapsN (m : ApiMethod) : Bool := !(gB (mapB m) [] m.Maps) && decide ((m.Maps.length : Int) ≤ 100)
structure MapsIn (m : ApiMethod) : Prop where
  len : LenL m.Maps
  code : LenL m.Code
  all : ∀ x ∈ m.Maps, (LenL x.Locals ∧ ∀ s ∈ x.Locals, Len s) ∧ (LenL x.Stack ∧ ∀ s ∈ x.Stack, Len s)
theorem take_last {α : Type} {l : List α} {i : Nat} (h : i < l.length) (h0 : 0 < i) : (l.take i).getLast? = l[i - 1]? := by
  rw [List.getLast?_eq_getElem?, List.getElem?_take_of_lt (by simp; omega)]
  congr 1
  simp; omega
theorem class_maps_eq {m : ApiMethod} (h : MapsIn m) : class_maps m = some (mapsN m) := by
  have j2 : ∀ (i : Nat) (x : ApiMap) (b : Bool), x ∈ m.Maps → class_maps_j2 m (i : Int) x b = cond (b || (((!((x.Locals.length : Int) == m.Locals)) || decide (m.Stack < (x.Stack.length : Int))) || ((!slotsN x.Locals || !slotsN x.Stack) || x.Stack.any (fun y => [84] == y)))) (some (.inr (.inr false))) (some (.inl (IntKind.i64.wrap ((i : Int) + 1)))) := fun i x b hx => by
    obtain ⟨⟨h1, h2⟩, h3, h4⟩ := h.all x hx
    unfold class_maps_j2
    rw [class_types_s2_eq h1 h2, class_types_s2_eq h3 h4, hasText h3]
    cases b with
    | true => rfl
    | false =>
      cases ((!((x.Locals.length : Int) == m.Locals)) || decide (m.Stack < (x.Stack.length : Int))) with
      | true => rfl
      | false =>
        cases slotsN x.Locals with
        | false => rfl
        | true => cases slotsN x.Stack <;> rfl
  have hl : loopP (fun z => class_maps_l3 m z) 0 = _ := gen_loop (bad := mapB m) h.len (fun i x hx => by
    have hm := List.mem_of_getElem? hx
    have hi := (List.getElem?_eq_some_iff.1 hx).1
    have hlen := h.len
    have hcode := h.code
    unfold LenL at hlen hcode
    show class_maps_l3 m (i : Int) = _
    unfold class_maps_l3 mapB
    rw [here hx, idx_nat, hx]
    simp only [Option.bind_some, cond_true]
    have hb : class_between x.At 0 (IntKind.i64.wrap ((m.Code.length : Int) - 1)) = (decide (0 ≤ x.At) && decide (x.At < (m.Code.length : Int))) := by
      show (decide (0 ≤ x.At) && decide (x.At ≤ IntKind.i64.wrap ((m.Code.length : Int) - 1))) = _
      rw [wrapI (by omega) (by omega)]
      congr 1
      exact decide_eq_decide.2 (by omega)
    rw [hb]
    cases (decide (0 ≤ x.At) && decide (x.At < (m.Code.length : Int))) with
    | false => exact j2 i x true hm
    | true =>
      rcases Nat.eq_zero_or_pos i with h0 | h0
      · subst h0
        exact j2 0 x false hm
      · rw [decide_eq_true (show (0 : Int) < (i : Int) by omega), take_last hi h0]
        have e : IntKind.i64.wrap ((i : Int) - 1) = ((i - 1 : Nat) : Int) := by
          rw [wrapI (by omega) (by omega)]; omega
        rw [e, idx_nat, List.getElem?_eq_getElem (show i - 1 < m.Maps.length by omega)]
        exact j2 i x _ hm) (by show class_maps_l3 m (m.Maps.length : Int) = _; unfold class_maps_l3; rw [past]; rfl)
  unfold class_maps mapsN
  rw [hl]
  cases gB (mapB m) [] m.Maps <;> rfl
end Go.Proofs.YtooagifeniibcaaGreat
namespace Go.Proofs.YtooagifeniibcaaGreat
set_option linter.unusedSimpArgs false
set_option linter.unusedVariables false
structure BodyIn (m : ApiMethod) : Prop where
  code : LenL m.Code ∧ ∀ x ∈ m.Code, Len x.C ∧ Len x.M
  traps : LenL m.Traps ∧ ∀ x ∈ m.Traps, Len x.C
end Go.Proofs.YtooagifeniibcaaGreat
namespace Go.Proofs.YtooagifeniibcaaGreat
set_option linter.unusedSimpArgs false
set_option linter.unusedVariables false
structure GIn (m : ApiMethod) : Prop where
  name : Len m.Name
  params : m.Params.length ≤ 1000000000000 ∧ ∀ s ∈ m.Params, Len s
  ret : Len m.Ret
  maps : MapsIn m
  body : BodyIn m
  small : m.Code.length ≤ 1000000000000 ∧ m.Maps.length ≤ 1000000000000 ∧ m.Traps.length ≤ 1000000000000
noncomputable def methodG (m : ApiMethod) : Bool :=
  ((!((!nameN m.Name) || decide (6 < (m.Params.length : Int))) && typesN m.Params) && retN m.Ret) && cond m.Abstract (class_empty m)
    (!((m.Name == [36, 105, 110, 105, 116]) && (((!m.Static) || decide (0 < (m.Params.length : Int))) || (!(m.Ret == [86])))) && (class_between m.Locals (class_args m) 16 && (class_between m.Stack 0 16 && ((instrN m.Code && trapsN m) && mapsN m))))
theorem lenP {m : ApiMethod} (h : GIn m) : LenL m.Params := by have := h.params.1; unfold LenL; omega
theorem class_method_eqG {m : ApiMethod} (h : GIn m) : class_method m = some (methodG m) := by
  unfold class_method methodG
  rw [kind_Name_eq h.name, Option.bind_some, class_types_eq (lenP h) h.params.2, kind_Ret_eq h.ret, class_instructions_eq h.body.code.1 h.body.code.2, class_maps_eq h.maps, class_traps_eq h.body.traps.1 h.body.traps.2]
  cases ((!nameN m.Name) || decide (6 < (m.Params.length : Int))) with
  | true => rfl
  | false =>
    cases typesN m.Params with
    | false => rfl
    | true =>
      cases retN m.Ret with
      | false => rfl
      | true =>
        cases m.Abstract with
        | true => rfl
        | false =>
          cases ((m.Name == [36, 105, 110, 105, 116]) && (((!m.Static) || decide (0 < (m.Params.length : Int))) || (!(m.Ret == [86])))) with
          | true => rfl
          | false =>
            cases class_between m.Locals (class_args m) 16 with
            | false => rfl
            | true =>
              cases class_between m.Stack 0 16 with
              | false => rfl
              | true => cases instrN m.Code <;> cases mapsN m <;> cases trapsN m <;> rfl
theorem allMethodsG {l : List ApiMethod} (hl : LenL l) (h : ∀ m ∈ l, GIn m) (n : Int) (a b : List UInt8) (i : Bool) (c : List (List UInt8)) (d : List ApiField) (e : List ApiMethod) :
    class_all_api_Method l n a b i c d e = cond (uB (fun m => (m.Abstract == i) && methodG m) (·.Name) [] l) (some false) (some (decide ((l.length : Int) ≤ n))) := by
  unfold class_all_api_Method
  refine uniq_loop (ok := fun m => (m.Abstract == i) && methodG m) (nm := (·.Name)) hl (fun j x hx => ?_) ?_
  · have hm := h x (List.mem_of_getElem? hx)
    have hi := (List.getElem?_eq_some_iff.1 hx).1
    unfold class_all_api_Method_l1 class_May_4
    rw [here hx, idx_nat, hx]
    simp only [Option.bind_some, cond_true]
    rw [class_method_eqG hm, cutP_to (by omega)]
    simp only [Option.bind_some]
    rw [hasMethod (by unfold LenL at *; rw [List.length_take]; omega)]
    cases (x.Abstract == i) with
    | false => rfl
    | true => cases methodG x <;> rfl
  · unfold class_all_api_Method_l1
    rw [past]; rfl
structure CGIn (c : ApiClass) : Prop where
  name : Len c.Name
  super : Len c.Super
  impl : LenL c.Impl ∧ ∀ s ∈ c.Impl, Len s
  fields : LenL c.Fields ∧ ∀ f ∈ c.Fields, Len f.Name ∧ Len f.Type_
  methods : LenL c.Methods ∧ ∀ m ∈ c.Methods, GIn m
noncomputable def mayG (c : ApiClass) : Bool :=
  !(c.Interface && ((!(c.Super == [79, 98, 106, 101, 99, 116])) || decide (0 < (c.Fields.length : Int)))) &&
  (((((classN c.Name && classN c.Super) && (!(uB classN id [] c.Impl) && decide ((c.Impl.length : Int) ≤ 4))) && (!(uB fieldN (·.Name) [] c.Fields) && decide ((c.Fields.length : Int) ≤ 8)))) &&
    (!(uB (fun m => (m.Abstract == c.Interface) && methodG m) (·.Name) [] c.Methods) && decide ((c.Methods.length : Int) ≤ 8)))
theorem class_May_eqG {c : ApiClass} (h : CGIn c) : class_May c = some (mayG c) := by
  have e : ∀ (b d : Bool), cond b (some false) (some d) = some (!b && d) := fun b d => by cases b <;> rfl
  unfold class_May mayG
  rw [allFields h.fields.1 h.fields.2, allMethodsG h.methods.1 h.methods.2, kind_Class_eq h.name, kind_Class_eq h.super, allNames h.impl.1 h.impl.2, e, e, e]
  cases (c.Interface && ((!(c.Super == [79, 98, 106, 101, 99, 116])) || decide (0 < (c.Fields.length : Int)))) with
  | true => rfl
  | false =>
    cases classN c.Name with
    | false => rfl
    | true => cases classN c.Super <;> rfl
end Go.Proofs.YtooagifeniibcaaGreat
namespace Go.Proofs.YtooagifeniibcaaGreat
set_option linter.unusedSimpArgs false
set_option linter.unusedVariables false
abbrev Tx := List UInt8
def cl (L : List ApiClass) (n : Tx) : Option ApiClass := L.find? (fun c => c.Name == n)
def atN (L : List ApiClass) (n : Tx) : Int := ixF (fun c => c.Name == n) 0 L
def hasN (L : List ApiClass) (n : Tx) : Bool := L.any (fun c => c.Name == n)
def isF (L : List ApiClass) (n : Tx) : Bool := match cl L n with | some c => c.Interface | none => false
theorem ixF_get {α : Type} (p : α → Bool) : ∀ (l : List α) (k : Nat), (∃ j x, ixF p k l = ((k + j : Nat) : Int) ∧ l[j]? = some x ∧ p x = true ∧ l.find? p = some x) ∨ (ixF p k l = -1 ∧ l.find? p = none)
  | [], k => .inr ⟨rfl, rfl⟩
  | y :: r, k => by
    unfold ixF
    cases h : p y with
    | true => exact .inl ⟨0, y, rfl, rfl, h, by simp [List.find?, h]⟩
    | false =>
      rcases ixF_get p r (k + 1) with ⟨j, x, h1, h2, h3, h4⟩ | ⟨h1, h2⟩
      · exact .inl ⟨j + 1, x, by show ixF p (k + 1) r = _; rw [h1]; congr 1; omega, by simpa using h2, h3, by simp [List.find?, h, h4]⟩
      · exact .inr ⟨h1, by simp [List.find?, h, h2]⟩
theorem ixF_append {α : Type} (p : α → Bool) : ∀ (l r : List α) (k : Nat), ixF p k (l ++ r) = cond (l.any p) (ixF p k l) (ixF p (k + l.length) r)
  | [], r, k => rfl
  | y :: l, r, k => by
    show ixF p k (y :: (l ++ r)) = _
    rw [show ixF p k (y :: (l ++ r)) = cond (p y) (k : Int) (ixF p (k + 1) (l ++ r)) from rfl, show ixF p k (y :: l) = cond (p y) (k : Int) (ixF p (k + 1) l) from rfl, List.any_cons]
    cases h : p y with
    | true => rfl
    | false =>
      rw [Bool.false_or, cond_false, cond_false, ixF_append p l r (k + 1), show k + 1 + l.length = k + (y :: l).length by simp; omega]
theorem idx_at (L : List ApiClass) (n : Tx) : idx L (atN L n) = cl L n := by
  unfold atN cl
  rcases ixF_get (fun c : ApiClass => c.Name == n) L 0 with ⟨j, x, h1, h2, h3, h4⟩ | ⟨h1, h2⟩
  · rw [h1, h4, idx_nat, Nat.zero_add, h2]
  · rw [h1, h2]; rfl
theorem cl_has (L : List ApiClass) (n : Tx) : (cl L n).isSome = hasN L n := by
  unfold cl hasN
  rw [Bool.eq_iff_iff, List.any_eq_true]
  exact List.find?_isSome
theorem cl_name {L : List ApiClass} {n : Tx} {c : ApiClass} (h : cl L n = some c) : c ∈ L ∧ c.Name = n := by
  unfold cl at h
  exact ⟨List.mem_of_find?_eq_some h, eq_of_beq (List.find?_some (p := fun c : ApiClass => c.Name == n) h)⟩
theorem has_cl {L : List ApiClass} {n : Tx} (h : hasN L n = true) : ∃ c, cl L n = some c := by
  rw [← cl_has] at h
  exact Option.isSome_iff_exists.1 h
theorem has_of {L : List ApiClass} {n : Tx} {c : ApiClass} (h : cl L n = some c) : hasN L n = true := by rw [← cl_has, h]; rfl
theorem has_not {L : List ApiClass} {n : Tx} (h : cl L n = none) : hasN L n = false := by rw [← cl_has, h]; rfl
theorem has_iff {L : List ApiClass} {n : Tx} : hasN L n = true ↔ n ∈ L.map (·.Name) := by
  unfold hasN
  rw [List.any_eq_true, List.mem_map]
  constructor
  · rintro ⟨c, h1, h2⟩; exact ⟨c, h1, eq_of_beq h2⟩
  · rintro ⟨c, h1, h2⟩; exact ⟨c, h1, beq_iff_eq.2 h2⟩
def Nd (L : List ApiClass) : Prop := ∀ (i j : Nat) (c d : ApiClass), L[i]? = some c → L[j]? = some d → c.Name = d.Name → i = j
theorem Nd.at {L : List ApiClass} (h : Nd L) {i : Nat} {c : ApiClass} (hi : L[i]? = some c) : atN L c.Name = (i : Int) := by
  unfold atN
  rcases ixF_get (fun d : ApiClass => d.Name == c.Name) L 0 with ⟨j, x, h1, h2, h3, h4⟩ | ⟨h1, h2⟩
  · rw [h1, Nat.zero_add, h j i x c h2 hi (eq_of_beq h3)]
  · have := List.find?_eq_none.1 h2 c (List.mem_of_getElem? hi)
    simp at this
theorem Nd.cl {L : List ApiClass} (h : Nd L) {c : ApiClass} (hc : c ∈ L) : cl L c.Name = some c := by
  obtain ⟨i, hi, e⟩ := List.getElem_of_mem hc
  have hi' : L[i]? = some c := by rw [List.getElem?_eq_getElem hi, e]
  rw [← idx_at, h.at hi', idx_nat, hi']
theorem Nd.snoc {L : List ApiClass} (h : Nd L) {c : ApiClass} (hc : hasN L c.Name = false) : Nd (L ++ [c]) := by
  have no : ∀ (i : Nat) d, L[i]? = some d → d.Name ≠ c.Name := fun i d hi e => by
    have : hasN L c.Name = true := has_iff.2 (List.mem_map.2 ⟨d, List.mem_of_getElem? hi, e⟩)
    rw [hc] at this; cases this
  have get : ∀ (i : Nat) d, (L ++ [c])[i]? = some d → (L[i]? = some d) ∨ (i = L.length ∧ d = c) := fun i d hi => by
    rw [List.getElem?_append] at hi
    split at hi
    · exact .inl hi
    · rename_i hlt
      right
      have h1 := (List.getElem?_eq_some_iff.1 hi).1
      simp at h1
      have h2 : i = L.length := by omega
      subst h2
      simp at hi
      exact ⟨rfl, hi.symm⟩
  intro i j d e hi hj hn
  rcases get i d hi with h1 | ⟨h1, h1'⟩ <;> rcases get j e hj with h2 | ⟨h2, h2'⟩
  · exact h i j d e h1 h2 hn
  · subst h2'; exact absurd hn (no i d h1)
  · subst h1'; exact absurd hn.symm (no j e h2)
  · rw [h1, h2]
theorem has_snoc (L : List ApiClass) (c : ApiClass) (n : Tx) : hasN (L ++ [c]) n = (hasN L n || (c.Name == n)) := by
  unfold hasN; simp
theorem mapGet_put {α : Type} (k k' : Tx) (x : α) : ∀ (m : List (Tx × α)), mapGet k (mapPut k' x m) = if k = k' then some x else mapGet k m
  | [] => by
    unfold mapPut mapGet mapGet
    by_cases h : k = k'
    · rw [if_pos h, decide_eq_true h]; rfl
    · rw [if_neg h, decide_eq_false h]; rfl
  | (a, y) :: r => by
    unfold mapPut
    by_cases h' : k' = a
    · subst h'
      rw [decide_eq_true rfl]
      show mapGet k ((k', x) :: r) = _
      unfold mapGet
      by_cases h : k = k'
      · rw [if_pos h, decide_eq_true h]; rfl
      · rw [if_neg h, decide_eq_false h]; rfl
    · rw [decide_eq_false h']
      show mapGet k ((a, y) :: mapPut k' x r) = _
      unfold mapGet
      rw [mapGet_put k k' x r]
      by_cases h : k = k'
      · subst h
        rw [if_pos rfl, decide_eq_false h', if_pos rfl]; rfl
      · rw [if_neg h, if_neg h]
def MapOk (L : List ApiClass) (m : List (Tx × Int)) : Prop := ∀ n, mapGet n m = cond (hasN L n) (some (atN L n)) none
theorem MapOk.snoc {L : List ApiClass} {m : List (Tx × Int)} (h : MapOk L m) {c : ApiClass} (hc : hasN L c.Name = false) : MapOk (L ++ [c]) (mapPut c.Name (L.length : Int) m) := by
  intro n
  rw [mapGet_put, has_snoc, h n]
  unfold atN
  rw [ixF_append]
  show _ = cond _ (some (cond (hasN L n) _ _)) none
  by_cases e : n = c.Name
  · subst e
    rw [if_pos rfl, hc, beq_self_eq_true]
    simp [ixF]
  · rw [if_neg e, beq_eq_false_iff_ne.2 (Ne.symm e)]
    cases hasN L n <;> rfl
theorem MapOk.has {L : List ApiClass} {m : List (Tx × Int)} (h : MapOk L m) (n : Tx) : (mapGet n m).isSome = hasN L n := by
  rw [h n]; cases hasN L n <;> rfl
theorem MapOk.idx {L : List ApiClass} {m : List (Tx × Int)} (h : MapOk L m) {n : Tx} (hn : hasN L n = true) : idx L ((mapGet n m).getD 0) = cl L n := by
  rw [h n, hn]; exact idx_at L n
inductive Rc (nx : Tx → List Tx) : Tx → Tx → Prop
  | one {a b} : b ∈ nx a → Rc nx a b
  | more {a b c} : b ∈ nx a → Rc nx b c → Rc nx a c
theorem Rc.snoc {nx : Tx → List Tx} {a b c : Tx} (h : Rc nx a b) (hc : c ∈ nx b) : Rc nx a c := by
  induction h with
  | one h => exact .more h (.one hc)
  | more h _ ih => exact .more h (ih hc)
theorem Rc.into {nx : Tx → List Tx} {F : Tx → Prop} (hF : ∀ x, F x → ∀ y ∈ nx x, F y) {a b : Tx} (h : Rc nx a b) : (∀ y ∈ nx a, F y) → F b := by
  induction h with
  | one h => exact fun ha => ha _ h
  | more h _ ih => exact fun ha => ih (hF _ (ha _ h))
theorem pigeon : ∀ {a b : List Tx}, a.Nodup → (∀ x ∈ a, x ∈ b) → a.length ≤ b.length
  | [], b, _, _ => by simp
  | x :: r, b, h, hs => by
    rw [List.nodup_cons] at h
    have hx := hs x (by simp)
    have h1 := pigeon (a := r) (b := b.erase x) h.2 (fun y hy => (List.mem_erase_of_ne (fun e => h.1 (by rw [← e]; exact hy))).2 (hs y (by simp [hy])))
    have h2 := List.length_erase_of_mem hx
    have h3 := List.length_pos_of_mem hx
    simp only [List.length_cons]
    omega
def push (seen : List Tx) : List Tx → List Tx
  | [] => seen
  | s :: r => push (cond (seen.any fun y => s == y) seen (seen ++ [s])) r
theorem any_mem {s : Tx} {l : List Tx} : (l.any fun y => s == y) = true ↔ s ∈ l := by
  rw [List.any_eq_true]
  constructor
  · rintro ⟨y, h1, h2⟩; rw [eq_of_beq h2]; exact h1
  · intro h; exact ⟨s, h, beq_self_eq_true _⟩
theorem push_app : ∀ (l seen : List Tx), ∃ t, push seen l = seen ++ t ∧ t.Nodup ∧ (∀ x ∈ t, x ∉ seen ∧ x ∈ l) ∧ ∀ x ∈ l, x ∈ seen ++ t
  | [], seen => ⟨[], by simp [push], by simp, fun x h => (by cases h), fun x h => (by cases h)⟩
  | s :: r, seen => by
    unfold push
    cases h : (seen.any fun y => s == y) with
    | true =>
      obtain ⟨t, h1, h2, h3, h4⟩ := push_app r seen
      refine ⟨t, h1, h2, fun x hx => ⟨(h3 x hx).1, List.mem_cons_of_mem _ (h3 x hx).2⟩, fun x hx => ?_⟩
      rcases List.mem_cons.1 hx with e | e
      · rw [e]; exact List.mem_append_left _ (any_mem.1 h)
      · exact h4 x e
    | false =>
      have hs : s ∉ seen := fun hm => by rw [any_mem.2 hm] at h; cases h
      obtain ⟨t, h1, h2, h3, h4⟩ := push_app r (seen ++ [s])
      refine ⟨s :: t, by show push (seen ++ [s]) r = _; rw [h1]; simp, List.nodup_cons.2 ⟨fun hm => (h3 s hm).1 (by simp), h2⟩, fun x hx => ?_, fun x hx => ?_⟩
      · rcases List.mem_cons.1 hx with e | e
        · rw [e]; exact ⟨hs, by simp⟩
        · exact ⟨fun hm => (h3 x e).1 (List.mem_append_left _ hm), List.mem_cons_of_mem _ (h3 x e).2⟩
      · rcases List.mem_cons.1 hx with e | e
        · rw [e]; simp
        · have := h4 x e
          simpa using this
def bfs (nx : Tx → List Tx) : Nat → Nat → List Tx → List Tx
  | 0, _, seen => seen
  | d + 1, i, seen => match seen[i]? with | none => seen | some x => bfs nx d (i + 1) (push seen (nx x))
def fin (nx : Tx → List Tx) : Nat → Nat → List Tx → Bool
  | 0, i, seen => decide (seen.length ≤ i)
  | d + 1, i, seen => match seen[i]? with | none => true | some x => fin nx d (i + 1) (push seen (nx x))
def Inv (U s0 seen : List Tx) : Prop := ∃ T, seen = s0 ++ T ∧ T.Nodup ∧ (∀ x ∈ T, x ∈ U) 
theorem Inv.push {U s0 seen l : List Tx} (h : Inv U s0 seen) (hU : ∀ y ∈ l, y ∈ U) : Inv U s0 (push seen l) := by
  obtain ⟨T, h1, h2, h3⟩ := h
  obtain ⟨t, k1, k2, k3, k4⟩ := push_app l seen
  refine ⟨T ++ t, by rw [k1, h1]; simp, List.nodup_append.2 ⟨h2, k2, fun a ha b hb e => (k3 b hb).1 (by rw [h1, ← e]; exact List.mem_append_right _ ha)⟩, fun x hx => ?_⟩
  rcases List.mem_append.1 hx with e | e
  · exact h3 x e
  · exact hU x (k3 x e).2
theorem Inv.len {U s0 seen : List Tx} (h : Inv U s0 seen) : seen.length ≤ s0.length + U.length := by
  obtain ⟨T, h1, h2, h3⟩ := h
  have := pigeon h2 h3
  rw [h1, List.length_append]; omega
theorem Inv.mem {U s0 seen : List Tx} (h : Inv U s0 seen) (h0 : ∀ x ∈ s0, x ∈ U) : ∀ x ∈ seen, x ∈ U := by
  obtain ⟨T, h1, h2, h3⟩ := h
  intro x hx
  rw [h1] at hx
  rcases List.mem_append.1 hx with e | e
  · exact h0 x e
  · exact h3 x e
theorem Inv.start {U s0 : List Tx} : Inv U s0 s0 := ⟨[], by simp, by simp, fun x h => (by cases h)⟩
theorem fin_of {nx : Tx → List Tx} {U s0 : List Tx} (hU : ∀ x y, y ∈ nx x → y ∈ U) : ∀ (d i : Nat) (seen : List Tx), Inv U s0 seen → s0.length + U.length ≤ d + i → fin nx d i seen = true
  | 0, i, seen, h, hd => by
    have := h.len
    exact decide_eq_true (by omega)
  | d + 1, i, seen, h, hd => by
    unfold fin
    cases seen[i]? with
    | none => rfl
    | some x => exact fin_of hU d (i + 1) _ (h.push (hU x)) (by omega)
theorem bfs_grow {nx : Tx → List Tx} : ∀ (d i : Nat) (seen : List Tx), ∃ t, bfs nx d i seen = seen ++ t
  | 0, i, seen => ⟨[], by simp [bfs]⟩
  | d + 1, i, seen => by
    unfold bfs
    cases seen[i]? with
    | none => exact ⟨[], by simp⟩
    | some x =>
      obtain ⟨t, h⟩ := bfs_grow (nx := nx) d (i + 1) (push seen (nx x))
      obtain ⟨u, k, _⟩ := push_app (nx x) seen
      exact ⟨u ++ t, by show bfs nx d (i + 1) _ = _; rw [h, k]; simp⟩
theorem bfs_sound {nx : Tx → List Tx} {Q : Tx → Prop} (hQ : ∀ x, Q x → ∀ y ∈ nx x, Q y) : ∀ (d i : Nat) (seen : List Tx), (∀ x ∈ seen, Q x) → ∀ x ∈ bfs nx d i seen, Q x
  | 0, i, seen, h => h
  | d + 1, i, seen, h => by
    unfold bfs
    cases hi : seen[i]? with
    | none => exact h
    | some x =>
      refine bfs_sound hQ d (i + 1) _ fun y hy => ?_
      obtain ⟨u, k1, _, k3, _⟩ := push_app (nx x) seen
      rw [k1] at hy
      rcases List.mem_append.1 hy with e | e
      · exact h y e
      · exact hQ x (h x (List.mem_of_getElem? hi)) y (k3 y e).2
theorem bfs_closed {nx : Tx → List Tx} : ∀ (d i : Nat) (seen : List Tx), fin nx d i seen = true → (∀ j x, j < i → seen[j]? = some x → ∀ y ∈ nx x, y ∈ seen) → ∀ x ∈ bfs nx d i seen, ∀ y ∈ nx x, y ∈ bfs nx d i seen
  | 0, i, seen, hf, h => fun x hx y hy => by
    have hl : seen.length ≤ i := of_decide_eq_true hf
    obtain ⟨j, hj, e⟩ := List.getElem_of_mem (show x ∈ seen from hx)
    exact h j x (by omega) (by rw [List.getElem?_eq_getElem hj, e]) y hy
  | d + 1, i, seen, hf, h => by
    unfold fin at hf
    unfold bfs
    cases hi : seen[i]? with
    | none =>
      intro x hx y hy
      have hl : seen.length ≤ i := List.getElem?_eq_none_iff.1 hi
      obtain ⟨j, hj, e⟩ := List.getElem_of_mem (show x ∈ seen from hx)
      exact h j x (by omega) (by rw [List.getElem?_eq_getElem hj, e]) y hy
    | some z =>
      rw [hi] at hf
      obtain ⟨u, k1, _, k3, k4⟩ := push_app (nx z) seen
      have hlt : i < seen.length := (List.getElem?_eq_some_iff.1 hi).1
      refine bfs_closed d (i + 1) _ hf fun j x hj hx y hy => ?_
      rw [k1] at hx ⊢
      rw [List.getElem?_append_left (by omega)] at hx
      by_cases e : j = i
      · subst e
        rw [hi] at hx
        cases hx
        exact k4 y hy
      · exact List.mem_append_left _ (h j x (by omega) hx y hy)
theorem bfs_rc {nx : Tx → List Tx} {d : Nat} {a b : Tx} (hf : fin nx d 0 (nx a) = true) : b ∈ bfs nx d 0 (nx a) ↔ Rc nx a b := by
  constructor
  · exact bfs_sound (Q := fun x => Rc nx a x) (fun x hx y hy => hx.snoc hy) d 0 _ (fun x hx => .one hx) b
  · intro h
    refine h.into (F := fun x => x ∈ bfs nx d 0 (nx a)) (bfs_closed d 0 _ hf (fun j x hj => by omega)) fun y hy => ?_
    obtain ⟨t, e⟩ := bfs_grow (nx := nx) d 0 (nx a)
    rw [e]; exact List.mem_append_left _ hy
theorem work_loop {R : Type} {I : List Tx → Prop} {nx : Tx → List Tx} {stop : Tx → Option R} {body : List Tx × Int → Option (Sum (List Tx × Int) (Sum Unit R))}
    (hb : ∀ (i : Nat) seen x, I seen → seen[i]? = some x → body (seen, (i : Int)) = match stop x with | some r => some (.inr (.inr r)) | none => some (.inl (push seen (nx x), ((i + 1 : Nat) : Int))))
    (he : ∀ (i : Nat) seen, I seen → seen.length ≤ i → body (seen, (i : Int)) = some (.inr (.inl ())))
    (hp : ∀ seen x, I seen → x ∈ seen → I (push seen (nx x))) : ∀ (d i : Nat) (seen : List Tx), I seen → fin nx d i seen = true →
    loopP body (seen, (i : Int)) = some (match ((bfs nx d i seen).drop i).findSome? stop with | some r => (Sum.inr r : Sum Unit R) | none => Sum.inl ())
  | 0, i, seen, hI, hf => by
    have hl : seen.length ≤ i := of_decide_eq_true hf
    rw [loopP_eq, he i seen hI hl]
    show _ = some (match (seen.drop i).findSome? stop with | some r => (Sum.inr r : Sum Unit R) | none => Sum.inl ())
    rw [List.drop_eq_nil_of_le hl]
    rfl
  | d + 1, i, seen, hI, hf => by
    unfold fin at hf
    unfold bfs
    cases hi : seen[i]? with
    | none =>
      have hl : seen.length ≤ i := List.getElem?_eq_none_iff.1 hi
      rw [loopP_eq, he i seen hI hl]
      show _ = some (match (seen.drop i).findSome? stop with | some r => (Sum.inr r : Sum Unit R) | none => Sum.inl ())
      rw [List.drop_eq_nil_of_le hl]
      rfl
    | some x =>
      rw [hi] at hf
      obtain ⟨t, ht⟩ := bfs_grow (nx := nx) d (i + 1) (push seen (nx x))
      obtain ⟨u, hu, _⟩ := push_app (nx x) seen
      have hx : (bfs nx d (i + 1) (push seen (nx x)))[i]? = some x := by
        rw [ht, hu, List.append_assoc, List.getElem?_append_left (List.getElem?_eq_some_iff.1 hi).1, hi]
      obtain ⟨hlt, hge⟩ := List.getElem?_eq_some_iff.1 hx
      rw [loopP_eq, hb i seen x hI hi]
      show _ = some (match ((bfs nx d (i + 1) (push seen (nx x))).drop i).findSome? stop with | some r => (Sum.inr r : Sum Unit R) | none => Sum.inl ())
      rw [List.drop_eq_getElem_cons hlt, List.findSome?_cons, hge]
      cases stop x with
      | some r => rfl
      | none => exact work_loop hb he hp d (i + 1) _ (hp _ _ hI (List.mem_of_getElem? hi)) hf
def nxA (L : List ApiClass) (n : Tx) : List Tx := match cl L n with | none => [] | some c => (c.Super :: c.Impl).filter (fun s => !(s == []))
structure Laid (L : List ApiClass) : Prop where
  nd : Nd L
  noE : hasN L [] = false
  closed : ∀ c ∈ L, ∀ s ∈ c.Super :: c.Impl, s ≠ [] → hasN L s = true
  implE : ∀ c ∈ L, [] ∉ c.Impl
structure Wf (L : List ApiClass) : Prop extends Laid L where
  acyc : ∀ n, ¬ Rc (nxA L) n n
  superF : ∀ c ∈ L, isF L c.Super = false
  implF : ∀ c ∈ L, ∀ s ∈ c.Impl, isF L s = true
theorem Laid.nxA_in {L : List ApiClass} (h : Laid L) (x y : Tx) (hy : y ∈ nxA L x) : y ∈ L.map (·.Name) := by
  unfold nxA at hy
  split at hy
  · cases hy
  · rename_i c hc
    rw [List.mem_filter] at hy
    exact has_iff.1 (h.closed c (cl_name hc).1 y hy.1 (by have := hy.2; simpa using this))
def sup (L : List ApiClass) : Nat → Tx → List Tx
  | 0, _ => []
  | d + 1, n => match cl L n with | none => [] | some c => n :: sup L d c.Super
def supF (L : List ApiClass) : Nat → Tx → Bool
  | 0, n => !hasN L n
  | d + 1, n => match cl L n with | none => true | some c => supF L d c.Super
theorem sup_long {L : List ApiClass} (h : Wf L) : ∀ (d : Nat) (n : Tx), supF L d n = false → hasN L n = true ∧ ∃ r, sup L (d + 1) n = n :: r ∧ r.length = d ∧ (n :: r).Nodup ∧ (∀ x ∈ r, x ∈ L.map (·.Name) ∧ Rc (nxA L) n x)
  | 0, n, hf => by
    have hn : hasN L n = true := by simpa [supF] using hf
    obtain ⟨c, hc⟩ := has_cl hn
    exact ⟨hn, [], by simp [sup, hc], rfl, by simp, fun x h => (by cases h)⟩
  | d + 1, n, hf => by
    unfold supF at hf
    split at hf
    · cases hf
    · rename_i c hc
      obtain ⟨h0, r, h1, h2, h3, h4⟩ := sup_long h d c.Super hf
      have hs : c.Super ∈ nxA L n := by
        unfold nxA
        rw [hc]
        refine List.mem_filter.2 ⟨by simp, ?_⟩
        have : c.Super ≠ [] := fun e => by rw [e, h.noE] at h0; cases h0
        simpa using this
      have h5 : ∀ x ∈ c.Super :: r, x ∈ L.map (·.Name) ∧ Rc (nxA L) n x := fun x hx => by
        rcases List.mem_cons.1 hx with e | e
        · rw [e]; exact ⟨has_iff.1 h0, .one hs⟩
        · exact ⟨(h4 x e).1, .more hs (h4 x e).2⟩
      refine ⟨has_of hc, c.Super :: r, ?_, by simp [h2], List.nodup_cons.2 ⟨fun hm => h.acyc n (h5 n hm).2, h3⟩, h5⟩
      show (match cl L n with | none => [] | some c => n :: sup L (d + 1) c.Super) = _
      rw [hc]
      show n :: sup L (d + 1) c.Super = _
      rw [h1]
theorem sup_ends {L : List ApiClass} (h : Wf L) (n : Tx) : supF L L.length n = true := by
  cases hf : supF L L.length n with
  | true => rfl
  | false =>
    obtain ⟨h0, r, h1, h2, h3, h4⟩ := sup_long h _ n hf
    have := pigeon h3 (b := L.map (·.Name)) (fun x hx => by
      rcases List.mem_cons.1 hx with e | e
      · rw [e]; exact has_iff.1 h0
      · exact (h4 x e).1)
    simp at this
    omega
end Go.Proofs.YtooagifeniibcaaGreat
namespace Go.Proofs.YtooagifeniibcaaGreat
set_option linter.unusedSimpArgs false
set_option linter.unusedVariables false
def tObj : Tx := [79, 98, 106, 101, 99, 116]
def tThr : Tx := [84, 104, 114, 111, 119, 110]
def gC (n s : Tx) : ApiClass := ApiClass.mk n s false [] [] []
def giv : List ApiClass := [gC tObj [], gC tThr tObj, gC [78, 117, 108, 108, 69, 114, 114] tThr, gC [82, 97, 110, 103, 101, 69, 114, 114] tThr, gC [77, 97, 116, 104, 69, 114, 114] tThr, gC [67, 97, 115, 116, 69, 114, 114] tThr,
  gC [83, 105, 122, 101, 69, 114, 114] tThr, gC [83, 116, 111, 114, 101, 69, 114, 114] tThr, gC [73, 110, 105, 116, 69, 114, 114] tThr, gC [67, 108, 97, 115, 115, 69, 114, 114] tThr]
theorem hier_given_eq : hier_given = some giv := by kernel_rfl
def mpAll (k : Nat) (m : List (Tx × Int)) : List ApiClass → List (Tx × Int)
  | [] => m
  | c :: r => mpAll (k + 1) (mapPut c.Name (k : Int) m) r
def fresh (pre : List ApiClass) : List ApiClass → Bool
  | [] => true
  | c :: r => !hasN pre c.Name && fresh (pre ++ [c]) r
theorem mpAll_ok : ∀ (r pre : List ApiClass) (m : List (Tx × Int)), MapOk pre m → fresh pre r = true → MapOk (pre ++ r) (mpAll pre.length m r)
  | [], pre, m, h, _ => by simpa [mpAll] using h
  | c :: r, pre, m, h, hf => by
    simp only [fresh, Bool.and_eq_true, Bool.not_eq_true'] at hf
    have := mpAll_ok r (pre ++ [c]) _ (h.snoc hf.1) hf.2
    simpa [mpAll] using this
theorem fresh_nd : ∀ (r pre : List ApiClass), Nd pre → fresh pre r = true → Nd (pre ++ r)
  | [], pre, h, _ => by simpa using h
  | c :: r, pre, h, hf => by
    simp only [fresh, Bool.and_eq_true, Bool.not_eq_true'] at hf
    have := fresh_nd r (pre ++ [c]) (h.snoc hf.1) hf.2
    simpa using this
theorem giv_map : loopP (fun z => hier_New_l1 giv z.1 z.2) ([], 0) = some (.inl (mpAll 0 [] giv)) := by kernel_rfl
theorem giv_mapOk : MapOk giv (mpAll 0 [] giv) := mpAll_ok giv [] [] (fun n => rfl) (by decide +kernel)
theorem giv_nd : Nd giv := fresh_nd giv [] (fun i j c d h => by simp at h) (by decide +kernel)
noncomputable def lay : List ApiClass → List ApiClass → Option (List ApiClass)
  | L, [] => some L
  | L, c :: r => cond (hasN L c.Name || !mayG c) none (lay (L ++ [c]) r)
theorem lay_ok : ∀ (r L L' : List ApiClass), Nd L → lay L r = some L' → L' = L ++ r ∧ Nd L' ∧ ∀ c ∈ r, mayG c = true
  | [], L, L', h, e => by
    unfold lay at e
    cases e
    exact ⟨by simp, h, fun c hc => by cases hc⟩
  | c :: r, L, L', h, e => by
    unfold lay at e
    cases h1 : hasN L c.Name with
    | true => rw [h1] at e; cases e
    | false =>
      cases h2 : mayG c with
      | false => rw [h1, h2] at e; cases e
      | true =>
        rw [h1, h2] at e
        obtain ⟨k1, k2, k3⟩ := lay_ok r (L ++ [c]) L' (h.snoc h1) e
        refine ⟨by rw [k1]; simp, k2, fun d hd => ?_⟩
        rcases List.mem_cons.1 hd with e | e
        · rw [e]; exact h2
        · exact k3 d e
theorem appC {w : Nat} {L : List ApiClass} {c : ApiClass} (h : L.length ≤ 1000) (hw : w ≤ 1000) : appP w L [c] = some (L ++ [c]) := by
  refine appP_ok ?_ (by simp; omega)
  have : (L.length + [c].length) * w ≤ 1001 * 1000 := Nat.mul_le_mul (by simp; omega) hw
  omega
theorem lay_hier {l : List ApiClass} (hl : l.length ≤ 16) (hc : ∀ c ∈ l, CGIn c) : ∀ (r pre L : List ApiClass) (m : List (Tx × Int)), l = pre ++ r → MapOk L m → L.length = 10 + pre.length →
    (lay L r = none → loopP (fun z => hier_New_l3 l z.1 z.2.1 z.2.2) (L, m, (pre.length : Int)) = some (.inr (none, 1))) ∧
    (∀ L', lay L r = some L' → ∃ m', MapOk L' m' ∧ loopP (fun z => hier_New_l3 l z.1 z.2.1 z.2.2) (L, m, (pre.length : Int)) = some (.inl (L', m')))
  | [], pre, L, m, e, hm, hL => by
    rw [List.append_nil] at e
    subst e
    unfold lay
    refine ⟨fun h => (by cases h), fun L' h => ?_⟩
    cases h
    refine ⟨m, hm, ?_⟩
    rw [loopP_eq]
    show (hier_New_l3 l L m (l.length : Int)).bind _ = _
    unfold hier_New_l3
    rw [past]; rfl
  | c :: r, pre, L, m, e, hm, hL => by
    have hlen : l.length = pre.length + (r.length + 1) := by rw [e]; simp
    have hx : l[pre.length]? = some c := by rw [e]; simp
    have hcm : c ∈ l := List.mem_of_getElem? hx
    have step : loopP (fun z => hier_New_l3 l z.1 z.2.1 z.2.2) (L, m, (pre.length : Int)) = (cond (hasN L c.Name || !mayG c) (some (.inr (.inr (none, 1)))) (some (.inl (L ++ [c], mapPut c.Name (L.length : Int) m, ((pre.length + 1 : Nat) : Int))))).bind (Sum.elim (loopP (fun z => hier_New_l3 l z.1 z.2.1 z.2.2)) some) := by
      rw [loopP_eq]
      show (hier_New_l3 l L m (pre.length : Int)).bind _ = _
      congr 1
      unfold hier_New_l3
      rw [here hx, idx_nat, hx]
      simp only [cond_true, Option.bind_some]
      rw [hm.has, class_May_eqG (hc c hcm), appC (by omega) (by omega), wrap_succ (by omega)]
      cases hasN L c.Name <;> cases mayG c <;> rfl
    rw [step]
    unfold lay
    cases h1 : (hasN L c.Name || !mayG c) with
    | true => exact ⟨fun _ => rfl, fun L' h => by cases h⟩
    | false =>
      rw [Bool.or_eq_false_iff] at h1
      have := lay_hier hl hc r (pre ++ [c]) (L ++ [c]) _ (by rw [e]; simp) (hm.snoc h1.1) (by simp; omega)
      rw [show (pre ++ [c]).length = pre.length + 1 by simp] at this
      exact this
structure Okc (c : ApiClass) : Prop where
  name : c.Name ≠ []
  impl : c.Impl.length ≤ 4
  implE : ∀ s ∈ c.Impl, s ≠ []
theorem classN_ne {s : Tx} (h : classN s = true) : s ≠ [] := by
  intro e
  subst e
  unfold classN at h
  simp at h
theorem uB_all {α : Type} {ok : α → Bool} {nm : α → List UInt8} : ∀ {l pre : List α}, uB ok nm pre l = false → ∀ x ∈ l, ok x = true
  | [], _, _, x, hx => by cases hx
  | y :: r, pre, h, x, hx => by
    unfold uB at h
    simp only [Bool.or_eq_false_iff, Bool.not_eq_false'] at h
    rcases List.mem_cons.1 hx with e | e
    · rw [e]; exact h.1.1
    · exact uB_all h.2 x e
theorem may_okc {c : ApiClass} (h : mayG c = true) : Okc c := by
  unfold mayG at h
  simp only [Bool.and_eq_true, Bool.not_eq_true', decide_eq_true_eq] at h
  obtain ⟨_, ⟨⟨⟨⟨h1, h2⟩, h3, h4⟩, h5⟩, h6⟩⟩ := h
  exact ⟨classN_ne h1, by omega, fun s hs => classN_ne (uB_all h3 s hs)⟩
theorem giv_okc : ∀ c ∈ giv, Okc c := by
  intro c hc
  have h : giv.all (fun c => !(c.Name == []) && (c.Impl == [])) = true := by decide +kernel
  have := List.all_eq_true.1 h c hc
  simp only [Bool.and_eq_true, Bool.not_eq_true', beq_eq_false_iff_ne, beq_iff_eq] at this
  exact ⟨this.1, by rw [this.2]; simp, fun s hs => by rw [this.2] at hs; cases hs⟩
theorem lay_okc {l L : List ApiClass} (h : lay giv l = some L) : ∀ c ∈ L, Okc c := by
  obtain ⟨h1, h2, h3⟩ := lay_ok l giv L giv_nd h
  intro c hc
  rw [h1] at hc
  rcases List.mem_append.1 hc with e | e
  · exact giv_okc c e
  · exact may_okc (h3 c e)
theorem above_eq {c : ApiClass} (h : c.Impl.length ≤ 4) : appP 16 [c.Super] c.Impl = some (c.Super :: c.Impl) := appP_ok (by simp; omega) (by simp; omega)
theorem hier_above_eq {c : ApiClass} (h : c.Impl.length ≤ 4) : hier_above c = some (c.Super :: c.Impl) := by
  unfold hier_above; rw [above_eq h]; rfl
theorem contains4 {l : List Tx} {L : List ApiClass} {m : List (Tx × Int)} (hm : MapOk L m) (hl : l.length ≤ 1000) : slices_ContainsFunc_string_string_s4 l L m = some (l.any fun s => !hasN L s) := by
  unfold slices_ContainsFunc_string_string_s4 slices_IndexFunc_string_string_s4
  rw [show ((loopP (fun z => slices_IndexFunc_string_string_s4_l1 l L m z) 0).bind fun o => leave o (fun b => slices_IndexFunc_string_string_s4_k2) some) = _ from index_loop (l := l) (p := fun s => !hasN L s) (by omega)
    (fun i x hx => by unfold slices_IndexFunc_string_string_s4_l1 hier_New_1 hier_Hier_has; rw [here hx, idx_nat, hx]; simp only [cond_true, Option.bind_some]; rw [hm.has]) (by unfold slices_IndexFunc_string_string_s4_l1; rw [past]; rfl)]
  exact congrArg some (ixF_any _ 0 l)
theorem get_eq {L : List ApiClass} {m : List (Tx × Int)} (hm : MapOk L m) {n : Tx} (hn : hasN L n = true) : hier_Hier_get L m n = cl L n := by
  unfold hier_Hier_get
  rw [hm.idx hn]
  cases cl L n <;> rfl
theorem contains5 {l : List Tx} {L : List ApiClass} {m : List (Tx × Int)} (hm : MapOk L m) (hl : l.length ≤ 1000) (hh : ∀ s ∈ l, hasN L s = true) : slices_ContainsFunc_string_string_s5 l L m = some (l.any fun s => !isF L s) := by
  unfold slices_ContainsFunc_string_string_s5 slices_IndexFunc_string_string_s5
  rw [show ((loopP (fun z => slices_IndexFunc_string_string_s5_l1 l L m z) 0).bind fun o => leave o (fun b => slices_IndexFunc_string_string_s5_k2) some) = _ from index_loop (l := l) (p := fun s => !isF L s) (by omega)
    (fun i x hx => by
      obtain ⟨c, hc⟩ := has_cl (hh x (List.mem_of_getElem? hx))
      unfold slices_IndexFunc_string_string_s5_l1 hier_Hier_fits_1 isF
      rw [here hx, idx_nat, hx]; simp only [cond_true, Option.bind_some]; rw [get_eq hm (has_of hc), hc]; rfl) (by unfold slices_IndexFunc_string_string_s5_l1; rw [past]; rfl)]
  exact congrArg some (ixF_any _ 0 l)
noncomputable def cyc (L : List ApiClass) (n : Tx) : Bool := @decide (Rc (nxA L) n n) (Classical.propDecidable _)
theorem cyc_iff {L : List ApiClass} {n : Tx} : cyc L n = true ↔ Rc (nxA L) n n := by unfold cyc; exact @decide_eq_true_iff _ (Classical.propDecidable _)
noncomputable def badF (L : List ApiClass) (c : ApiClass) : Bool := isF L c.Super || (c.Impl.any (fun s => !isF L s) || cyc L c.Name)
theorem push_loop {R : Type} {body : List Tx × Int → Option (Sum (List Tx × Int) (Sum (List Tx) R))} {l : List Tx} {p : Tx → Bool} (hl : l.length ≤ 100)
    (hb : ∀ (i : Nat) x seen, seen.length ≤ 1000 → l[i]? = some x → body (seen, (i : Int)) = some (.inl (cond (p x && !(seen.any fun y => x == y)) (seen ++ [x]) seen, IntKind.i64.wrap ((i : Int) + 1))))
    (he : ∀ seen, body (seen, (l.length : Int)) = some (.inr (.inl seen))) : ∀ (r pre seen : List Tx), l = pre ++ r → seen.length + r.length ≤ 1000 → loopP body (seen, (pre.length : Int)) = some (.inl (push seen (r.filter p)))
  | [], pre, seen, e, hs => by
    rw [List.append_nil] at e
    subst e
    rw [loopP_eq, he]; rfl
  | x :: r, pre, seen, e, hs => by
    have hlen : l.length = pre.length + (r.length + 1) := by rw [e]; simp
    have hx : l[pre.length]? = some x := by rw [e]; simp
    simp only [List.length_cons] at hs
    rw [loopP_eq, hb _ x seen (by omega) hx, wrap_succ (by omega)]
    have ih := fun s h => push_loop hl hb he r (pre ++ [x]) s (by rw [e]; simp) h
    rw [show (pre ++ [x]).length = pre.length + 1 by simp] at ih
    cases h1 : p x with
    | false =>
      rw [List.filter_cons_of_neg (by rw [h1]; exact Bool.false_ne_true)]
      exact ih seen (by omega)
    | true =>
      rw [List.filter_cons_of_pos h1]
      unfold push
      cases h2 : (seen.any fun y => x == y) with
      | true => exact ih seen (by omega)
      | false => exact ih (seen ++ [x]) (by simp; omega)
theorem hasText' {l : List Tx} (hl : l.length ≤ 1000) (n : Tx) : slices_Contains_string_string l n = some (l.any fun y => n == y) := hasText (by unfold LenL; omega) n
theorem fits_push {l seen : List Tx} (hl : l.length ≤ 100) (hs : seen.length + l.length ≤ 1000) : loopP (fun z => hier_Hier_fits_l7 l z.1 z.2) (seen, 0) = some (.inl (push seen (l.filter (fun s => !(s == []))))) := by
  refine push_loop (l := l) (p := fun s => !(s == [])) hl (fun i x s h hx => ?_) (fun s => ?_) l [] seen rfl hs
  · show hier_Hier_fits_l7 l s (i : Int) = _
    unfold hier_Hier_fits_l7 hier_Hier_fits_j6
    rw [here hx, idx_nat, hx]
    simp only [cond_true, Option.bind_some]
    rw [hasText' h, appP_ok (w := 16) (l := s) (x := [x]) (by simp; omega) (by simp; omega)]
    cases (x == []) <;> cases (s.any fun y => x == y) <;> rfl
  · show hier_Hier_fits_l7 l s (l.length : Int) = _
    unfold hier_Hier_fits_l7
    rw [past]; rfl
theorem nxA_of {L : List ApiClass} {n : Tx} {c : ApiClass} (h : cl L n = some c) : nxA L n = (c.Super :: c.Impl).filter (fun s => !(s == [])) := by unfold nxA; rw [h]
theorem nxA_le {L : List ApiClass} (hL : ∀ c ∈ L, Okc c) (n : Tx) : (nxA L n).length ≤ 5 := by
  unfold nxA
  split
  · simp
  · rename_i c hc
    have := (hL c (cl_name hc).1).impl
    exact Nat.le_trans (List.length_filter_le _ _) (by simp; omega)
theorem push_len (l seen : List Tx) : (push seen l).length ≤ seen.length + l.length := by
  induction l generalizing seen with
  | nil => simp [push]
  | cons x r ih =>
    unfold push
    cases (seen.any fun y => x == y) with
    | true => have := ih seen; simp only [cond_true, List.length_cons]; omega
    | false => have := ih (seen ++ [x]); simp only [cond_false, List.length_cons]; simp at this; omega
theorem fits_eq {L : List ApiClass} {m : List (Tx × Int)} (hm : MapOk L m) (h : Laid L) (hO : ∀ c ∈ L, Okc c) (hlen : L.length ≤ 100) {c : ApiClass} (hc : c ∈ L) (hs : c.Super ≠ []) : hier_Hier_fits L m c = some (!badF L c) := by
  have hcs := h.closed c hc
  have hsup : hasN L c.Super = true := hcs c.Super (by simp) hs
  obtain ⟨x, hx⟩ := has_cl hsup
  have himp : ∀ s ∈ c.Impl, hasN L s = true := fun s hm => hcs s (by simp [hm]) ((hO c hc).implE s hm)
  have hi4 := (hO c hc).impl
  have e0 : (c.Super :: c.Impl) = nxA L c.Name := by
    rw [nxA_of (h.nd.cl hc), List.filter_eq_self.2]
    intro s hsm
    rcases List.mem_cons.1 hsm with e | e
    · rw [e]; simpa using hs
    · simpa using (hO c hc).implE s e
  unfold hier_Hier_fits
  rw [get_eq hm hsup, hx, contains5 hm (by omega) himp, hier_above_eq hi4]
  simp only [Option.bind_some]
  have eF : isF L c.Super = x.Interface := by unfold isF; rw [hx]
  unfold badF
  rw [eF]
  cases x.Interface with
  | true => rfl
  | false =>
    cases c.Impl.any (fun s => !isF L s) with
    | true => rfl
    | false =>
      have hfin : fin (nxA L) (5 + L.length) 0 (nxA L c.Name) = true := fin_of (U := L.map (·.Name)) (s0 := nxA L c.Name) h.nxA_in _ _ _ .start (by have := nxA_le hO c.Name; simp; omega)
      have hw := work_loop (R := Bool) (I := fun s => Inv (List.map (fun c : ApiClass => c.Name) L) (nxA L c.Name) s) (nx := nxA L) (stop := fun y => cond (y == c.Name) (some false) none) (body := fun z => hier_Hier_fits_l9 L m c z.1 z.2)
        (fun i seen y hI hy => by
          have hsl := hI.len
          have h5 := nxA_le hO c.Name
          have hym : hasN L y = true := has_iff.2 (hI.mem (fun z hz => h.nxA_in _ z hz) y (List.mem_of_getElem? hy))
          obtain ⟨d, hd⟩ := has_cl hym
          have hd4 := (hO d (cl_name hd).1).impl
          have hpl := push_len (nxA L y) seen
          simp only [List.length_map] at hsl
          show hier_Hier_fits_l9 L m c seen (i : Int) = _
          unfold hier_Hier_fits_l9 hier_Hier_fits_k8
          rw [here hy, idx_nat, hy]
          simp only [cond_true, Option.bind_some]
          have hilt := (List.getElem?_eq_some_iff.1 hy).1
          rw [get_eq hm hym, hd]
          simp only [Option.bind_some]
          rw [hier_above_eq hd4]
          simp only [Option.bind_some]
          rw [fits_push (by simp; omega) (by simp; omega), ← nxA_of hd, wrap_succ (by omega)]
          cases y == c.Name <;> rfl)
        (fun i seen hI hle => by
          show hier_Hier_fits_l9 L m c seen (i : Int) = _
          unfold hier_Hier_fits_l9
          rw [decide_eq_false (by omega)]; rfl)
        (fun seen y hI hy => hI.push (h.nxA_in y)) (5 + L.length) 0 (nxA L c.Name) .start hfin
      rw [e0]
      rw [show loopP (fun z => hier_Hier_fits_l9 L m c z.1 z.2) (nxA L c.Name, 0) = _ from hw, List.drop_zero, findSome_any]
      have : (bfs (nxA L) (5 + L.length) 0 (nxA L c.Name)).any (fun y => y == c.Name) = cyc L c.Name := by
        rw [Bool.eq_iff_iff, cyc_iff, ← bfs_rc hfin, List.any_eq_true]
        constructor
        · rintro ⟨y, h1, h2⟩; obtain rfl := eq_of_beq h2; exact h1
        · intro h1; exact ⟨_, h1, beq_self_eq_true _⟩
      rw [this]
      cases cyc L c.Name <;> rfl
end Go.Proofs.YtooagifeniibcaaGreat
namespace Go.Proofs.YtooagifeniibcaaGreat
set_option linter.unusedSimpArgs false
set_option linter.unusedVariables false
def onB (inn : List Bool) (n : Nat) : Bool := inn.getD n false
def newB (L : List ApiClass) (inn : List Bool) (s : Tx) : Bool := hasN L s && !onB inn (atN L s).toNat
def mk1 (L : List ApiClass) (inn : List Bool) (s : Tx) : List Bool := cond (newB L inn s) (inn.set (atN L s).toNat true) inn
section
variable {L : List ApiClass} {nx : ApiClass → List Tx} {act : Nat → Bool}
def cnt (inn : List Bool) : Nat := inn.count true
end
end Go.Proofs.YtooagifeniibcaaGreat
namespace Go.Proofs.YtooagifeniibcaaGreat
set_option linter.unusedSimpArgs false
set_option linter.unusedVariables false
def mis (L : List ApiClass) (c : ApiClass) : Bool := (c.Super :: c.Impl).any (fun s => !hasN L s)
noncomputable def newE (l : List ApiClass) : Option (List ApiClass) × Int :=
  cond (decide (16 < (l.length : Int))) (none, 3) (match lay giv l with
    | none => (none, 1)
    | some L => cond (l.any (mis L)) (none, 4) (cond (l.any (badF L)) (none, 1) (some L, 0)))
theorem laid_of {l L : List ApiClass} (h : lay giv l = some L) (hm : l.any (mis L) = false) : Laid L ∧ ∀ c ∈ l, c.Super ≠ [] := by
  obtain ⟨h1, h2, h3⟩ := lay_ok l giv L giv_nd h
  have hO := lay_okc h
  have noE : hasN L [] = false := by
    cases hh : hasN L [] with
    | false => rfl
    | true =>
      obtain ⟨c, hc⟩ := has_cl hh
      exact absurd (cl_name hc).2 (hO c (cl_name hc).1).name
  have hl : ∀ c ∈ l, ∀ s ∈ c.Super :: c.Impl, hasN L s = true := fun c hc s hs => by
    have := List.any_eq_false.1 hm c hc
    unfold mis at this
    rw [Bool.not_eq_true, List.any_eq_false] at this
    simpa using this s hs
  refine ⟨⟨h2, noE, fun c hc s hs hne => ?_, fun c hc hm => (hO c hc).implE [] hm rfl⟩, fun c hc e => ?_⟩
  · rw [h1] at hc
    rcases List.mem_append.1 hc with e | e
    · have hg : giv.all (fun c => (c.Super :: c.Impl).all (fun s => s == [] || hasN giv s)) = true := by decide +kernel
      have := List.all_eq_true.1 (List.all_eq_true.1 hg c e) s hs
      rw [Bool.or_eq_true, beq_iff_eq] at this
      rcases this with e | e
      · exact absurd e hne
      · rw [has_iff] at e ⊢
        rw [h1, List.map_append]
        exact List.mem_append_left _ e
    · exact hl c e s hs
  · have := hl c hc c.Super (by simp)
    rw [e, noE] at this; cases this
theorem new_l5 {l L : List ApiClass} {m : List (Tx × Int)} (hl : l.length ≤ 16) (hm : MapOk L m) (hO : ∀ c ∈ l, c.Impl.length ≤ 4) :
    loopP (fun z => hier_New_l5 l L m z) 0 = some (ends () (cond (l.any (mis L)) (some (none, 4)) none)) := by
  rw [← findSome_any]
  refine loop_list (fun i c hc => ?_) ?_
  · show hier_New_l5 l L m (i : Int) = _
    have := hO c (List.mem_of_getElem? hc)
    have hi := (List.getElem?_eq_some_iff.1 hc).1
    unfold hier_New_l5
    rw [here hc, idx_nat, hc]
    simp only [cond_true, Option.bind_some]
    rw [hier_above_eq this]
    simp only [Option.bind_some]
    rw [contains4 hm (by simp; omega), wrap_succ (by omega)]
    simp only [Option.bind_some]
    show _ = some (asks i (cond (mis L c) _ _))
    unfold mis
    cases ((c.Super :: c.Impl).any fun s => !hasN L s) <;> rfl
  · show hier_New_l5 l L m (l.length : Int) = _
    unfold hier_New_l5
    rw [past]; rfl
theorem new_l7 {l L : List ApiClass} {m : List (Tx × Int)} (hl : l.length ≤ 16) (hf : ∀ c ∈ l, hier_Hier_fits L m c = some (!badF L c)) :
    loopP (fun z => hier_New_l7 l L m z) 0 = some (ends () (cond (l.any (badF L)) (some (none, 1)) none)) := by
  rw [← findSome_any]
  refine loop_list (fun i c hc => ?_) ?_
  · show hier_New_l7 l L m (i : Int) = _
    have hi := (List.getElem?_eq_some_iff.1 hc).1
    unfold hier_New_l7
    rw [here hc, idx_nat, hc]
    simp only [cond_true, Option.bind_some]
    rw [hf c (List.mem_of_getElem? hc), wrap_succ (by omega)]
    simp only [Option.bind_some]
    cases badF L c <;> rfl
  · show hier_New_l7 l L m (l.length : Int) = _
    unfold hier_New_l7
    rw [past]; rfl
theorem hier_New_eq {l : List ApiClass} (hc : ∀ c ∈ l, CGIn c) : ∃ m, (∀ L, (newE l).1 = some L → MapOk L m) ∧ hier_New l = some ((newE l).1.map (fun L => HierHier.mk L m), (newE l).2) := by
  unfold hier_New newE
  cases hl : decide (16 < (l.length : Int)) with
  | true => exact ⟨[], fun L h => (by cases h), rfl⟩
  | false =>
    have hl := of_decide_eq_false hl
    rw [hier_given_eq]
    simp only [cond_false, Option.bind_some]
    rw [giv_map]
    simp only [Option.bind_some, leave]
    have hl16 : l.length ≤ 16 := by omega
    obtain ⟨h1, h2⟩ := lay_hier hl16 hc l [] giv _ rfl giv_mapOk rfl
    unfold hier_New_k2
    cases hy : lay giv l with
    | none =>
      rw [show loopP (fun z => hier_New_l3 l z.1 z.2.1 z.2.2) (giv, mpAll 0 [] giv, 0) = _ from h1 hy]
      exact ⟨[], fun L h => (by cases h), rfl⟩
    | some L =>
      obtain ⟨m, hm, e⟩ := h2 L hy
      rw [show loopP (fun z => hier_New_l3 l z.1 z.2.1 z.2.2) (giv, mpAll 0 [] giv, 0) = _ from e]
      obtain ⟨k1, k2, k3⟩ := lay_ok l giv L giv_nd hy
      have hO := lay_okc hy
      have hlL : ∀ c ∈ l, c ∈ L := fun c hc => by rw [k1]; exact List.mem_append_right _ hc
      have hlen : L.length ≤ 100 := by rw [k1, List.length_append]; have : giv.length = 10 := rfl; omega
      simp only [Option.bind_some, leave]
      unfold hier_New_k4
      rw [new_l5 hl16 hm (fun c hc => (hO c (hlL c hc)).impl)]
      cases hmis : l.any (mis L) with
      | true => exact ⟨[], fun L h => (by cases h), rfl⟩
      | false =>
        obtain ⟨hL, hS⟩ := laid_of hy hmis
        simp only [cond_false, Option.bind_some, leave, ends]
        unfold hier_New_k6
        rw [new_l7 hl16 (fun c hc => fits_eq hm hL hO hlen (hlL c hc) (hS c hc))]
        cases hb : l.any (badF L) with
        | true => exact ⟨[], fun L h => (by cases h), rfl⟩
        | false => exact ⟨m, fun L' h => (by cases h; exact hm), rfl⟩
end Go.Proofs.YtooagifeniibcaaGreat
namespace Go.Proofs.YtooagifeniibcaaGreat
set_option linter.unusedSimpArgs false
set_option linter.unusedVariables false
theorem cl_giv {L l : List ApiClass} (h : L = giv ++ l) {n : Tx} {c : ApiClass} (hc : cl giv n = some c) : cl L n = some c := by
  rw [h]
  unfold cl at hc ⊢
  rw [List.find?_append, hc]; rfl
theorem cl_app {L l : List ApiClass} (h : L = giv ++ l) {n : Tx} (hn : hasN giv n = true) : cl L n = cl giv n := by
  obtain ⟨c, hc⟩ := has_cl hn
  rw [hc, cl_giv h hc]
theorem giv_step : giv.all (fun c => (nxA giv c.Name).all (fun s => decide (atN giv s < atN giv c.Name) && hasN giv s)) = true := by decide +kernel
theorem giv_rc {L l : List ApiClass} (h : L = giv ++ l) {a b : Tx} (hr : Rc (nxA L) a b) : hasN giv a = true → atN giv b < atN giv a ∧ hasN giv b = true := by
  have one : ∀ {a b : Tx}, b ∈ nxA L a → hasN giv a = true → atN giv b < atN giv a ∧ hasN giv b = true := fun {a b} hb ha => by
    have e : nxA L a = nxA giv a := by unfold nxA; rw [cl_app h ha]
    rw [e] at hb
    obtain ⟨c, hc⟩ := has_cl ha
    have h1 := List.all_eq_true.1 giv_step c (cl_name hc).1
    rw [(cl_name hc).2] at h1
    have h2 := List.all_eq_true.1 h1 b hb
    rw [Bool.and_eq_true, decide_eq_true_eq] at h2
    exact h2
  induction hr with
  | one hb => exact one hb
  | more hb _ ih =>
    intro ha
    have h1 := one hb ha
    have h2 := ih h1.2
    exact ⟨by omega, h2.2⟩
theorem giv_cyc {L l : List ApiClass} (h : L = giv ++ l) {c : ApiClass} (hc : c ∈ giv) : cyc L c.Name = false := by
  cases hh : cyc L c.Name with
  | false => rfl
  | true =>
    have := (giv_rc h (cyc_iff.1 hh) (has_of (giv_nd.cl hc))).1
    omega
theorem giv_facts : giv.all (fun c => (c.Impl == []) && !c.Interface && (c.Super == [] || hasN giv c.Super)) = true := by decide +kernel
theorem giv_c {c : ApiClass} (hc : c ∈ giv) : c.Impl = [] ∧ c.Interface = false ∧ (c.Super = [] ∨ hasN giv c.Super = true) := by
  have := List.all_eq_true.1 giv_facts c hc
  simp only [Bool.and_eq_true, beq_iff_eq, Bool.not_eq_true', Bool.or_eq_true] at this
  exact ⟨this.1.1, this.1.2, this.2⟩
theorem giv_isF {L l : List ApiClass} (h : L = giv ++ l) {n : Tx} (hn : hasN giv n = true) : isF L n = false := by
  obtain ⟨c, hc⟩ := has_cl hn
  unfold isF
  rw [cl_giv h hc]
  exact (giv_c (cl_name hc).1).2.1
theorem giv_bad {L l : List ApiClass} (h : L = giv ++ l) (hE : hasN L [] = false) {c : ApiClass} (hc : c ∈ giv) : badF L c = false := by
  obtain ⟨h1, h2, h3⟩ := giv_c hc
  unfold badF
  rw [giv_cyc h hc, h1]
  rcases h3 with e | e
  · rw [e]
    have : isF L [] = false := by
      unfold isF
      cases hcl : cl L [] with
      | none => rfl
      | some d => rw [has_of hcl] at hE; cases hE
    rw [this]; rfl
  · rw [giv_isF h e]; rfl
structure Made (l L : List ApiClass) : Prop extends Wf L where
  app : L = giv ++ l
  few : l.length ≤ 16
  okc : ∀ c ∈ L, Okc c
  may : ∀ c ∈ l, mayG c = true
theorem Made.len {l L : List ApiClass} (h : Made l L) : L.length ≤ 26 := by
  rw [h.app, List.length_append]; have : giv.length = 10 := rfl; have := h.few; omega
theorem newE_made {l L : List ApiClass} (h : (newE l).1 = some L) : Made l L ∧ (newE l).2 = 0 := by
  unfold newE at h ⊢
  cases hl : decide (16 < (l.length : Int)) with
  | true => rw [hl] at h; cases h
  | false =>
    rw [hl] at h
    have hl := of_decide_eq_false hl
    simp only [cond_false] at h ⊢
    cases hy : lay giv l with
    | none => rw [hy] at h; cases h
    | some L' =>
      rw [hy] at h
      simp only at h ⊢
      cases hmis : l.any (mis L') with
      | true => rw [hmis] at h; cases h
      | false =>
        cases hb : l.any (badF L') with
        | true => rw [hmis, hb] at h; cases h
        | false =>
          rw [hmis, hb] at h
          have e : L' = L := by
            have h : some L' = some L := h
            cases h; rfl
          subst e
          obtain ⟨hL, hS⟩ := laid_of hy hmis
          obtain ⟨k1, k2, k3⟩ := lay_ok l giv L' giv_nd hy
          have bad : ∀ c ∈ L', badF L' c = false := fun c hc => by
            rw [k1] at hc
            rcases List.mem_append.1 hc with e | e
            · exact giv_bad k1 hL.noE e
            · simpa using List.any_eq_false.1 hb c e
          have bad' : ∀ c ∈ L', isF L' c.Super = false ∧ (c.Impl.any (fun s => !isF L' s) = false ∧ cyc L' c.Name = false) := fun c hc => by
            have := bad c hc
            unfold badF at this
            rw [Bool.or_eq_false_iff, Bool.or_eq_false_iff] at this
            exact this
          refine ⟨⟨⟨hL, fun n hr => ?_, fun c hc => (bad' c hc).1, fun c hc s hs => ?_⟩, k1, by omega, lay_okc hy, k3⟩, rfl⟩
          · cases hn : cl L' n with
            | none =>
              have : nxA L' n = [] := by unfold nxA; rw [hn]
              cases hr with
              | one h => rw [this] at h; cases h
              | more h _ => rw [this] at h; cases h
            | some c =>
              have h1 := (bad' c (cl_name hn).1).2.2
              rw [(cl_name hn).2] at h1
              rw [cyc_iff.2 hr] at h1; cases h1
          · have := List.any_eq_false.1 (bad' c hc).2.1 s hs
            simpa using this
end Go.Proofs.YtooagifeniibcaaGreat
