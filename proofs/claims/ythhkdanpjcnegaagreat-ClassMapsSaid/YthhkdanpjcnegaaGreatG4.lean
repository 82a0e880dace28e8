/- Written by program (gen.py): worth and walk of each function. -/
import Derived.Test.YthhkdanpjcnegaaGreatG3
namespace Go.Proofs.YthhkdanpjcnegaaGreat
set_option linter.unusedSimpArgs false
set_option linter.unusedVariables false
set_option maxRecDepth 100000
set_option maxHeartbeats 4000000

structure ApiField where
  Name : List UInt8
  Type_ : List UInt8
  Static : Bool

def rApiField (x : ApiField) : List AV := [.lit (.string (B x.Name)), .lit (.string (B x.Type_)), .lit (.bool x.Static)]

structure ApiMap where
  At : Int
  Locals : List (List UInt8)
  Stack : List (List UInt8)

def rApiMap (x : ApiMap) : List AV := [.lit (.int .i64 x.At), .isl 1 (List.map rStr x.Locals), .isl 1 (List.map rStr x.Stack)]

structure ApiTrap where
  From : Int
  To : Int
  At : Int
  C : List UInt8

def rApiTrap (x : ApiTrap) : List AV := [.lit (.int .i64 x.From), .lit (.int .i64 x.To), .lit (.int .i64 x.At), .lit (.string (B x.C))]

structure ApiMethod where
  Name : List UInt8
  Params : List (List UInt8)
  Ret : List UInt8
  Static : Bool
  Abstract : Bool
  Locals : Int
  Stack : Int
  Code : List ApiIns
  Maps : List ApiMap
  Traps : List ApiTrap

def rApiMethod (x : ApiMethod) : List AV := [.lit (.string (B x.Name)), .isl 1 (List.map rStr x.Params), .lit (.string (B x.Ret)), .lit (.bool x.Static), .lit (.bool x.Abstract), .lit (.int .i64 x.Locals), .lit (.int .i64 x.Stack), .isl 4 (List.map rApiIns x.Code), .isl 3 (List.map rApiMap x.Maps), .isl 4 (List.map rApiTrap x.Traps)]

structure ApiClass where
  Name : List UInt8
  Super : List UInt8
  Interface : Bool
  Impl : List (List UInt8)
  Fields : List ApiField
  Methods : List ApiMethod

def rApiClass (x : ApiClass) : List AV := [.lit (.string (B x.Name)), .lit (.string (B x.Super)), .lit (.bool x.Interface), .isl 1 (List.map rStr x.Impl), .isl 3 (List.map rApiField x.Fields), .isl 10 (List.map rApiMethod x.Methods)]

noncomputable def class_May_2 (v1 : ApiField) : Option (Bool) :=
  (kind_Name v1.Name).bind fun v2 => (cond (v2 && (!(v1.Name == [36, 105, 110, 105, 116]))) ((kind_May v1.Type_).bind fun v3 => some v3) (some false)).bind fun v4 => some v4
theorem class_May_2_ok (v1 : ApiField) {r : Bool} (h : class_May_2 v1 = some r) : PureC Tryz.prog 26 [.agg [.lit (.string (B v1.Name)), .lit (.string (B v1.Type_)), .lit (.bool v1.Static)]] (.lit (.bool r)) := by
  refine pure_fn Tryz.func26 rfl (by kernel_rfl) rfl rfl ?_
  unfold class_May_2 at h
  refine rg rfl <| u <| bx 0 3 rfl rfl rfl rfl <| u <| asg rfl <| r_nil ?_
  obtain ⟨v2, q1, h⟩ := bs h
  obtain ⟨v4, q5, h⟩ := bs h
  refine rg rfl <| u <| fa ti53 rfl rfl rfl <| u <| ld ti9 rfl rfl <| u <| pc (kind_Name_ok v1.Name q1) rfl rfl rfl <| u <| mv rfl <| r_and (x := (v2 && (!(v1.Name == [36, 105, 110, 105, 116])))) (j := 3) 3 rfl rfl rfl rfl rfl gpn (fun hb2 => g rfl hb2 <| fa ti53 rfl rfl rfl <| g rfl hb2 <| ld ti9 rfl rfl <| g rfl hb2 <| sne ti9 rfl rfl <| r_nil (egA [7, 8, 9] 3 hb2 rfl rfl rfl rfl)) andF <| u <| mv rfl <| r_and (x := v4) (j := 8) 3 rfl rfl rfl rfl rfl gpn (fun hb3 => by replace q5 := bT hb3 q5; obtain ⟨v3, q4, q5⟩ := bs q5; obtain rfl := sm q5; exact g rfl hb3 <| fa ti53 rfl rfl rfl <| g rfl hb3 <| ld ti9 rfl rfl <| g rfl hb3 <| pc (kind_May_ok v1.Type_ q4) rfl rfl rfl <| r_nil (eg [12, 13, 14] 3 rfl rfl rfl rfl)) (fun hb => (sm (bF hb q5)).symm) <| u <| asg rfl <| r_nil ?_
  refine sw_ret ?_
  obtain rfl := sm h
  exact ⟨_, rfl, [], ci rfl, rfl, trivial, rfl, Nat.le_of_ble_eq_true rfl⟩

noncomputable def class_May_1 (v1 : ApiField) : (List UInt8) :=
  v1.Name
theorem class_May_1_ok (v1 : ApiField) {r : (List UInt8)} (h : class_May_1 v1 = r) : PureC Tryz.prog 25 [.agg [.lit (.string (B v1.Name)), .lit (.string (B v1.Type_)), .lit (.bool v1.Static)]] (.lit (.string (B r))) := by
  refine pure_fn Tryz.func25 rfl (by kernel_rfl) rfl rfl ?_
  unfold class_May_1 at h
  refine rg rfl <| u <| bx 0 3 rfl rfl rfl rfl <| u <| asg rfl <| r_nil ?_
  refine rg rfl <| u <| fa ti53 rfl rfl rfl <| u <| ld ti9 rfl rfl <| u <| asg rfl <| r_nil ?_
  refine sw_ret ?_
  obtain rfl := h
  exact ⟨_, rfl, [], ci rfl, rfl, trivial, rfl, Nat.le_of_ble_eq_true rfl⟩

noncomputable def class_all_api_Field_1 (v1 : ApiField) (v2 : List UInt8) (v3 : List UInt8) (v4 : Bool) : Bool :=
  ((class_May_1 (ApiField.mk v2 v3 v4)) == (class_May_1 v1))
theorem class_all_api_Field_1_ok (v1 : ApiField) (v2 : List UInt8) (v3 : List UInt8) (v4 : Bool) {r : Bool} (h : class_all_api_Field_1 v1 v2 v3 v4 = r) : PureC Tryz.prog 84 [.agg [.lit (.string (B v1.Name)), .lit (.string (B v1.Type_)), .lit (.bool v1.Static)], .ipt 1 [[.fn (.func 25) [] []]] 0 0, .ipt 3 [[.lit (.string (B v2)), .lit (.string (B v3)), .lit (.bool v4)]] 0 0] (.lit (.bool r)) := by
  refine pure_fn Tryz.func84 rfl (by kernel_rfl) rfl rfl ?_
  unfold class_all_api_Field_1 at h
  refine rg rfl <| u <| bx 0 3 rfl rfl rfl rfl <| u <| asg rfl <| r_nil ?_
  refine rd [(4, .lit (.bool ((class_May_1 (ApiField.mk v2 v3 v4)) == (class_May_1 v1))))] [] [] [7, 6, 5, 4, 3, 2, 1, 0] [(4, .lit (.bool ((class_May_1 (ApiField.mk v2 v3 v4)) == (class_May_1 v1)))), (11, .lit (.bool ((class_May_1 (ApiField.mk v2 v3 v4)) == (class_May_1 v1)))), (10, .lit (.string (B (class_May_1 v1)))), (9, .agg [.lit (.string (B v1.Name)), .lit (.string (B v1.Type_)), .lit (.bool v1.Static)]), (8, .fn (.func 25) [] []), (7, .lit (.string (B (class_May_1 (ApiField.mk v2 v3 v4))))), (6, .agg [.lit (.string (B v2)), .lit (.string (B v3)), .lit (.bool v4)]), (5, .fn (.func 25) [] [])] 0 (by kernel_rfl) (by kernel_rfl) rfl (by kernel_rfl) (dt0 ⟨(fun _ => pa rfl rfl rfl rfl (asg rfl <| ⟨rfl, rfl⟩)), (fun _ => pa rfl rfl rfl rfl (seq ti9 rfl rfl <| ⟨rfl, rfl⟩)), (fun _ => pa rfl rfl rfl rfl (pc (class_May_1_ok v1 rfl) rfl rfl rfl <| ⟨rfl, rfl⟩)), (fun _ => pa rfl rfl rfl rfl (ld ti53 rfl rfl <| ⟨rfl, rfl⟩)), (fun _ => pa rfl rfl rfl rfl (ld ti57 rfl rfl <| ⟨rfl, rfl⟩)), (fun _ => pa rfl rfl rfl rfl (pc (class_May_1_ok (ApiField.mk v2 v3 v4) rfl) rfl rfl rfl <| ⟨rfl, rfl⟩)), (fun _ => pa rfl rfl rfl rfl (ld ti53 rfl rfl <| ⟨rfl, rfl⟩)), (fun _ => pa rfl rfl rfl rfl (ld ti57 rfl rfl <| ⟨rfl, rfl⟩)), trivial⟩ (by kernel_rfl) rfl ⟨[], ce rfl rfl <| cn, rfl, trivial, rfl, Nat.le_of_ble_eq_true rfl⟩) ?_
  refine sw_ret ?_
  obtain rfl := h
  exact ⟨_, rfl, [], ci rfl, rfl, trivial, rfl, Nat.le_of_ble_eq_true rfl⟩

noncomputable def slices_IndexFunc_api_Field_api_Field_k2 : Option (Int) :=
  some (-1)
noncomputable def slices_IndexFunc_api_Field_api_Field_l1 (v1 : List ApiField) (v2 : List UInt8) (v3 : List UInt8) (v4 : Bool) (v7 : Int) : Option (Sum (Int) (Sum (Unit) (Int))) :=
  cond (decide (v7 < (List.length v1 : Int))) ((idx v1 v7).bind fun v8 => cond (class_all_api_Field_1 v8 v2 v3 v4) (some (.inr (.inr v7))) (some (.inl (IntKind.i64.wrap (v7 + 1))))) (some (.inr (.inl ())))
noncomputable def slices_IndexFunc_api_Field_api_Field (v1 : List ApiField) (v2 : List UInt8) (v3 : List UInt8) (v4 : Bool) : Option (Int) :=
  (loopP (fun z => slices_IndexFunc_api_Field_api_Field_l1 v1 v2 v3 v4 z) 0).bind fun o => leave o (fun b => slices_IndexFunc_api_Field_api_Field_k2) some
theorem slices_IndexFunc_api_Field_api_Field_ok (v1 : List ApiField) (v2 : List UInt8) (v3 : List UInt8) (v4 : Bool) {r : Int} (h : slices_IndexFunc_api_Field_api_Field v1 v2 v3 v4 = some r) : PureC Tryz.prog 81 [.isl 3 (List.map rApiField v1), .fn (.func 84) [] [.ipt 1 [[.fn (.func 25) [] []]] 0 0, .ipt 3 [[.lit (.string (B v2)), .lit (.string (B v3)), .lit (.bool v4)]] 0 0]] (.lit (.int .i64 r)) := by
  refine pure_fn Tryz.func81 rfl (by kernel_rfl) rfl rfl ?_
  unfold slices_IndexFunc_api_Field_api_Field at h
  refine rg rfl <| u <| asg rfl <| r_nil ?_
  refine sw_seq ?_
  refine rg rfl <| u <| mv rfl <| u <| lnI ti25 rfl rfl <| u <| mv rfl <| r_nil ?_
  obtain ⟨o, ho, h⟩ := bs h
  refine sw_lpl (X := Int) (B := Unit) (R := Int) (fun z => [(0, .isl 3 (List.map rApiField v1)), (1, .fn (.func 84) [] [.ipt 1 [[.fn (.func 25) [] []]] 0 0, .ipt 3 [[.lit (.string (B v2)), .lit (.string (B v3)), .lit (.bool v4)]] 0 0]), (7, .lit (.int .i64 (List.length v1 : Int))), (8, .lit (.int .i64 z))]) (fun z => []) (fun b => []) (fun b => []) (fun r env st => PostF Tryz.prog Tryz.f81 0 (.lit (.int .i64 r)) [] env st) ho ⟨[], ce rfl rfl <| ce rfl rfl <| ce rfl rfl <| ce rfl rfl <| cn, rfl, trivial, rfl, Nat.le_of_ble_eq_true rfl⟩ ?_ ?_ ?_
  · rintro v7 r h
    replace h : slices_IndexFunc_api_Field_api_Field_l1 v1 v2 v3 v4 v7 = some r := h
    unfold slices_IndexFunc_api_Field_api_Field_l1 at h
    refine rg rfl <| u <| lss ti3 rfl rfl <| r_nil ?_
    refine sw_seq ?_
    refine sw_cond rfl (fun hc4 => ?_) (fun hc4 => ?_)
    · replace h := bT hc4 h
      refine sw_skip ?_
      refine sw_seq ?_
      refine sw_block ?_
      refine rg rfl <| u <| mv rfl <| u <| asg rfl <| r_nil ?_
      obtain ⟨v8, q5, h⟩ := bs h
      refine rg rfl <| u <| mv rfl <| u <| mv rfl <| u <| mv rfl <| u <| ixI ti25 rfl ti53 rfl rfl rfl q5 <| u <| ldI ti53 rfl (idx_some q5).2.2 rfl <| u <| pc (class_all_api_Field_1_ok v8 v2 v3 v4 rfl) rfl rfl rfl <| r_nil ?_
      refine sw_cond rfl (fun hc6 => ?_) (fun hc6 => ?_)
      · replace h := bT hc6 h
        refine rg rfl <| u <| mv rfl <| u <| asg rfl <| r_nil ?_
        refine sw_ret ?_
        obtain rfl := sm h
        exact ⟨_, rfl, _, rfl, [], ci rfl, rfl, trivial, rfl, Nat.le_of_ble_eq_true rfl⟩
      · replace h := bF hc6 h
        refine sw_skip ?_
        refine rl rfl <| u <| add ti3 rfl rfl <| u <| mv rfl <| r_nil ?_
        obtain rfl := sm h
        exact ⟨_, rfl, [], ce rfl rfl <| ce rfl rfl <| ce rfl rfl <| ce rfl rfl <| cn, rfl, trivial, rfl, Nat.le_of_ble_eq_true rfl⟩
    · replace h := bF hc4 h
      refine sw_exit ?_
      obtain rfl := sm h
      exact ⟨rfl, _, rfl, [], cn, rfl, trivial, rfl, Nat.le_of_ble_eq_true rfl⟩
  · rintro ⟨⟩ rfl
    replace h : slices_IndexFunc_api_Field_api_Field_k2 = some r := h
    unfold slices_IndexFunc_api_Field_api_Field_k2 at h
    refine ow_intro ?_
    refine rg rfl <| u <| asg rfl <| r_nil ?_
    refine sw_ret ?_
    obtain rfl := sm h
    exact ⟨_, rfl, [], ci rfl, rfl, trivial, rfl, Nat.le_of_ble_eq_true rfl⟩
  · rintro r' rfl env st hp
    obtain rfl := sm h
    exact hp

noncomputable def slices_ContainsFunc_api_Field_api_Field (v1 : List ApiField) (v2 : List UInt8) (v3 : List UInt8) (v4 : Bool) : Option (Bool) :=
  (slices_IndexFunc_api_Field_api_Field v1 v2 v3 v4).bind fun v5 => some (decide (0 ≤ v5))
theorem slices_ContainsFunc_api_Field_api_Field_ok (v1 : List ApiField) (v2 : List UInt8) (v3 : List UInt8) (v4 : Bool) {r : Bool} (h : slices_ContainsFunc_api_Field_api_Field v1 v2 v3 v4 = some r) : PureC Tryz.prog 83 [.isl 3 (List.map rApiField v1), .fn (.func 84) [] [.ipt 1 [[.fn (.func 25) [] []]] 0 0, .ipt 3 [[.lit (.string (B v2)), .lit (.string (B v3)), .lit (.bool v4)]] 0 0]] (.lit (.bool r)) := by
  refine pure_fn Tryz.func83 rfl (by kernel_rfl) rfl rfl ?_
  unfold slices_ContainsFunc_api_Field_api_Field at h
  refine rg rfl <| u <| asg rfl <| r_nil ?_
  obtain ⟨v5, q1, h⟩ := bs h
  refine rg rfl <| u <| mv rfl <| u <| mv rfl <| u <| pc (slices_IndexFunc_api_Field_api_Field_ok v1 v2 v3 v4 q1) rfl rfl rfl <| u <| geq ti3 rfl rfl <| u <| asg rfl <| r_nil ?_
  refine sw_ret ?_
  obtain rfl := sm h
  exact ⟨_, rfl, [], ci rfl, rfl, trivial, rfl, Nat.le_of_ble_eq_true rfl⟩

noncomputable def class_all_api_Field_k2 (v1 : List ApiField) (v2 : Int) : Option (Bool) :=
  some (decide ((List.length v1 : Int) ≤ v2))
noncomputable def class_all_api_Field_l1 (v1 : List ApiField) (v9 : Int) : Option (Sum (Int) (Sum (Unit) (Bool))) :=
  cond (decide (v9 < (List.length v1 : Int))) ((idx v1 v9).bind fun v10 => (class_May_2 v10).bind fun v11 => (cond (!v11) (some true) ((cutP v1 0 v9).bind fun v12 => (slices_ContainsFunc_api_Field_api_Field v12 v10.Name v10.Type_ v10.Static).bind fun v13 => some v13)).bind fun v14 => cond v14 (some (.inr (.inr false))) (some (.inl (IntKind.i64.wrap (v9 + 1))))) (some (.inr (.inl ())))
noncomputable def class_all_api_Field (v1 : List ApiField) (v2 : Int) : Option (Bool) :=
  (loopP (fun z => class_all_api_Field_l1 v1 z) 0).bind fun o => leave o (fun b => class_all_api_Field_k2 v1 v2) some
theorem class_all_api_Field_ok (v1 : List ApiField) (v2 : Int) {r : Bool} (h : class_all_api_Field v1 v2 = some r) : PureC Tryz.prog 24 [.isl 3 (List.map rApiField v1), .lit (.int .i64 v2), .fn (.func 25) [] [], .fn (.func 26) [] []] (.lit (.bool r)) := by
  refine pure_fn Tryz.func24 rfl (by kernel_rfl) rfl rfl ?_
  unfold class_all_api_Field at h
  refine rg rfl <| u <| bx 0 1 rfl rfl rfl rfl <| u <| asg rfl <| r_nil ?_
  refine sw_seq ?_
  refine rg rfl <| u <| mv rfl <| u <| lnI ti25 rfl rfl <| u <| mv rfl <| r_nil ?_
  obtain ⟨o, ho, h⟩ := bs h
  refine sw_lpl (X := Int) (B := Unit) (R := Bool) (fun z => [(0, .isl 3 (List.map rApiField v1)), (1, .lit (.int .i64 v2)), (3, .fn (.func 26) [] []), (6, .mpt 0 0 0), (11, .isl 3 (List.map rApiField v1)), (12, .lit (.int .i64 (List.length v1 : Int))), (13, .lit (.int .i64 z))]) (fun z => [some (1, [[.fn (.func 25) [] []]])]) (fun b => [(0, .isl 3 (List.map rApiField v1)), (1, .lit (.int .i64 v2))]) (fun b => []) (fun r env st => PostF Tryz.prog Tryz.f24 0 (.lit (.bool r)) [] env st) ho ⟨[.old 0], ce rfl rfl <| ce rfl rfl <| ce rfl rfl <| cv rfl (.mpt rfl) <| ce rfl rfl <| ce rfl rfl <| ce rfl rfl <| cn, rfl, ⟨⟨_, rfl, rsOne ⟨ci rfl, trivial⟩⟩, trivial⟩, rfl, Nat.le_of_ble_eq_true rfl⟩ ?_ ?_ ?_
  · rintro v9 r h
    replace h : class_all_api_Field_l1 v1 v9 = some r := h
    unfold class_all_api_Field_l1 at h
    refine rg rfl <| u <| lss ti3 rfl rfl <| r_nil ?_
    refine sw_seq ?_
    refine sw_cond rfl (fun hc9 => ?_) (fun hc9 => ?_)
    · replace h := bT hc9 h
      refine sw_skip ?_
      refine sw_seq ?_
      refine sw_block ?_
      obtain ⟨v10, q10, h⟩ := bs h
      refine rg rfl <| u <| mv rfl <| u <| ixI ti25 rfl ti53 rfl rfl rfl q10 <| u <| ldI ti53 rfl (idx_some q10).2.2 rfl <| u <| al 1 ti53 rfl <| u <| asg rfl <| u <| sto ti53 rfl rfl rfl <| r_nil ?_
      obtain ⟨v11, q11, h⟩ := bs h
      obtain ⟨v14, q15, h⟩ := bs h
      refine rg rfl <| u <| mv rfl <| u <| ld ti53 rfl rfl <| u <| pc (class_May_2_ok v10 q11) rfl rfl rfl <| u <| nt rfl <| u <| mv rfl <| r_or (x := v14) (j := 4) 5 rfl rfl rfl rfl rfl gpn (fun hb12 => by replace q15 := bF hb12 q15; obtain ⟨v12, q13, q15⟩ := bs q15; obtain ⟨v13, q14, q15⟩ := bs q15; obtain rfl := sm q15; exact g rfl hb12 <| mv rfl <| g rfl hb12 <| mv rfl <| g rfl hb12 <| slI (a := 0) (b := v9) ti25 rfl ti53 rfl rfl rfl (bnd_hi rfl q13) q13 <| g rfl hb12 <| mf rfl rfl <| g rfl hb12 <| pcs (slices_ContainsFunc_api_Field_api_Field_ok v12 v10.Name v10.Type_ v10.Static q14) rfl rfl (.cons (si rfl) (.cons (sealFn trivial ⟨(sealBox rfl ⟨(si rfl), trivial⟩), (sealBox rfl ⟨(si rfl), (si rfl), (si rfl), trivial⟩), trivial⟩) .nil)) plainB <| r_nil (eg [23, 24, 25, 26, 27] 5 rfl rfl rfl rfl)) (fun hb => (sm (bT hb q15)).symm) <| r_nil ?_
      refine sw_cond rfl (fun hc16 => ?_) (fun hc16 => ?_)
      · replace h := bT hc16 h
        refine rg rfl <| u <| asg rfl <| r_nil ?_
        refine sw_ret ?_
        obtain rfl := sm h
        exact ⟨_, rfl, _, rfl, [], ci rfl, rfl, trivial, rfl, Nat.le_of_ble_eq_true rfl⟩
      · replace h := bF hc16 h
        refine sw_skip ?_
        refine rl rfl <| u <| add ti3 rfl rfl <| u <| mv rfl <| r_nil ?_
        obtain rfl := sm h
        exact ⟨_, rfl, [.old 0], ce rfl rfl <| ce rfl rfl <| ce rfl rfl <| cv rfl (.mpt rfl) <| ce rfl rfl <| ce rfl rfl <| ce rfl rfl <| cn, rfl, ⟨⟨_, rfl, rsOne ⟨ci rfl, trivial⟩⟩, trivial⟩, rfl, Nat.le_of_ble_eq_true rfl⟩
    · replace h := bF hc9 h
      refine sw_exit ?_
      obtain rfl := sm h
      exact ⟨rfl, _, rfl, [], ce rfl rfl <| ce rfl rfl <| cn, rfl, trivial, rfl, Nat.le_of_ble_eq_true rfl⟩
  · rintro ⟨⟩ rfl
    replace h : class_all_api_Field_k2 v1 v2 = some r := h
    unfold class_all_api_Field_k2 at h
    refine ow_intro ?_
    refine rg rfl <| u <| mv rfl <| u <| lnI ti25 rfl rfl <| u <| mv rfl <| u <| leq ti3 rfl rfl <| u <| asg rfl <| r_nil ?_
    refine sw_ret ?_
    obtain rfl := sm h
    exact ⟨_, rfl, [], ci rfl, rfl, trivial, rfl, Nat.le_of_ble_eq_true rfl⟩
  · rintro r' rfl env st hp
    obtain rfl := sm h
    exact hp

noncomputable def class_types_1 (v1 : List UInt8) : Option (Bool) :=
  (kind_May v1).bind fun v2 => some (!v2)
theorem class_types_1_ok (v1 : List UInt8) {r : Bool} (h : class_types_1 v1 = some r) : PureC Tryz.prog 139 [.lit (.string (B v1)), .ipt 1 [[.fn (.func 28) [] []]] 0 0] (.lit (.bool r)) := by
  refine pure_fn Tryz.func139 rfl (by kernel_rfl) rfl rfl ?_
  unfold class_types_1 at h
  refine rg rfl <| u <| asg rfl <| r_nil ?_
  obtain ⟨v2, q1, h⟩ := bs h
  refine rg rfl <| u <| ld ti58 rfl rfl <| u <| mv rfl <| u <| pc (kind_May_ok v1 q1) rfl rfl rfl <| u <| nt rfl <| u <| asg rfl <| r_nil ?_
  refine sw_ret ?_
  obtain rfl := sm h
  exact ⟨_, rfl, [], ci rfl, rfl, trivial, rfl, Nat.le_of_ble_eq_true rfl⟩

noncomputable def slices_IndexFunc_string_string_k2 : Option (Int) :=
  some (-1)
noncomputable def slices_IndexFunc_string_string_l1 (v1 : List (List UInt8)) (v5 : Int) : Option (Sum (Int) (Sum (Unit) (Int))) :=
  cond (decide (v5 < (List.length v1 : Int))) ((idx v1 v5).bind fun v6 => (class_types_1 v6).bind fun v7 => cond v7 (some (.inr (.inr v5))) (some (.inl (IntKind.i64.wrap (v5 + 1))))) (some (.inr (.inl ())))
noncomputable def slices_IndexFunc_string_string (v1 : List (List UInt8)) : Option (Int) :=
  (loopP (fun z => slices_IndexFunc_string_string_l1 v1 z) 0).bind fun o => leave o (fun b => slices_IndexFunc_string_string_k2) some
theorem slices_IndexFunc_string_string_ok (v1 : List (List UInt8)) {r : Int} (h : slices_IndexFunc_string_string v1 = some r) : PureC Tryz.prog 146 [.isl 1 (List.map rStr v1), .fn (.func 139) [] [.ipt 1 [[.fn (.func 28) [] []]] 0 0]] (.lit (.int .i64 r)) := by
  refine pure_fn Tryz.func146 rfl (by kernel_rfl) rfl rfl ?_
  unfold slices_IndexFunc_string_string at h
  refine rg rfl <| u <| asg rfl <| r_nil ?_
  refine sw_seq ?_
  refine rg rfl <| u <| mv rfl <| u <| lnI ti24 rfl rfl <| u <| mv rfl <| r_nil ?_
  obtain ⟨o, ho, h⟩ := bs h
  refine sw_lpl (X := Int) (B := Unit) (R := Int) (fun z => [(0, .isl 1 (List.map rStr v1)), (1, .fn (.func 139) [] [.ipt 1 [[.fn (.func 28) [] []]] 0 0]), (7, .lit (.int .i64 (List.length v1 : Int))), (8, .lit (.int .i64 z))]) (fun z => []) (fun b => []) (fun b => []) (fun r env st => PostF Tryz.prog Tryz.f146 0 (.lit (.int .i64 r)) [] env st) ho ⟨[], ce rfl rfl <| ce rfl rfl <| ce rfl rfl <| ce rfl rfl <| cn, rfl, trivial, rfl, Nat.le_of_ble_eq_true rfl⟩ ?_ ?_ ?_
  · rintro v5 r h
    replace h : slices_IndexFunc_string_string_l1 v1 v5 = some r := h
    unfold slices_IndexFunc_string_string_l1 at h
    refine rg rfl <| u <| lss ti3 rfl rfl <| r_nil ?_
    refine sw_seq ?_
    refine sw_cond rfl (fun hc5 => ?_) (fun hc5 => ?_)
    · replace h := bT hc5 h
      refine sw_skip ?_
      refine sw_seq ?_
      refine sw_block ?_
      refine rg rfl <| u <| mv rfl <| u <| asg rfl <| r_nil ?_
      obtain ⟨v6, q6, h⟩ := bs h
      obtain ⟨v7, q7, h⟩ := bs h
      refine rg rfl <| u <| mv rfl <| u <| mv rfl <| u <| mv rfl <| u <| ixI ti24 rfl ti9 rfl rfl rfl q6 <| u <| ldI ti9 rfl (idx_some q6).2.2 rfl <| u <| pc (class_types_1_ok v6 q7) rfl rfl rfl <| r_nil ?_
      refine sw_cond rfl (fun hc8 => ?_) (fun hc8 => ?_)
      · replace h := bT hc8 h
        refine rg rfl <| u <| mv rfl <| u <| asg rfl <| r_nil ?_
        refine sw_ret ?_
        obtain rfl := sm h
        exact ⟨_, rfl, _, rfl, [], ci rfl, rfl, trivial, rfl, Nat.le_of_ble_eq_true rfl⟩
      · replace h := bF hc8 h
        refine sw_skip ?_
        refine rl rfl <| u <| add ti3 rfl rfl <| u <| mv rfl <| r_nil ?_
        obtain rfl := sm h
        exact ⟨_, rfl, [], ce rfl rfl <| ce rfl rfl <| ce rfl rfl <| ce rfl rfl <| cn, rfl, trivial, rfl, Nat.le_of_ble_eq_true rfl⟩
    · replace h := bF hc5 h
      refine sw_exit ?_
      obtain rfl := sm h
      exact ⟨rfl, _, rfl, [], cn, rfl, trivial, rfl, Nat.le_of_ble_eq_true rfl⟩
  · rintro ⟨⟩ rfl
    replace h : slices_IndexFunc_string_string_k2 = some r := h
    unfold slices_IndexFunc_string_string_k2 at h
    refine ow_intro ?_
    refine rg rfl <| u <| asg rfl <| r_nil ?_
    refine sw_ret ?_
    obtain rfl := sm h
    exact ⟨_, rfl, [], ci rfl, rfl, trivial, rfl, Nat.le_of_ble_eq_true rfl⟩
  · rintro r' rfl env st hp
    obtain rfl := sm h
    exact hp

noncomputable def slices_ContainsFunc_string_string (v1 : List (List UInt8)) : Option (Bool) :=
  (slices_IndexFunc_string_string v1).bind fun v2 => some (decide (0 ≤ v2))
theorem slices_ContainsFunc_string_string_ok (v1 : List (List UInt8)) {r : Bool} (h : slices_ContainsFunc_string_string v1 = some r) : PureC Tryz.prog 99 [.isl 1 (List.map rStr v1), .fn (.func 139) [] [.ipt 1 [[.fn (.func 28) [] []]] 0 0]] (.lit (.bool r)) := by
  refine pure_fn Tryz.func99 rfl (by kernel_rfl) rfl rfl ?_
  unfold slices_ContainsFunc_string_string at h
  refine rg rfl <| u <| asg rfl <| r_nil ?_
  obtain ⟨v2, q1, h⟩ := bs h
  refine rg rfl <| u <| mv rfl <| u <| mv rfl <| u <| pc (slices_IndexFunc_string_string_ok v1 q1) rfl rfl rfl <| u <| geq ti3 rfl rfl <| u <| asg rfl <| r_nil ?_
  refine sw_ret ?_
  obtain rfl := sm h
  exact ⟨_, rfl, [], ci rfl, rfl, trivial, rfl, Nat.le_of_ble_eq_true rfl⟩

noncomputable def class_types (v1 : List (List UInt8)) : Option (Bool) :=
  (slices_ContainsFunc_string_string v1).bind fun v2 => some (!v2)
theorem class_types_ok (v1 : List (List UInt8)) {r : Bool} (h : class_types v1 = some r) : PureC Tryz.prog 90 [.isl 1 (List.map rStr v1), .fn (.func 28) [] []] (.lit (.bool r)) := by
  refine pure_fn Tryz.func90 rfl (by kernel_rfl) rfl rfl ?_
  unfold class_types at h
  refine rg rfl <| u <| bx 0 1 rfl rfl rfl rfl <| u <| asg rfl <| r_nil ?_
  obtain ⟨v2, q1, h⟩ := bs h
  refine rg rfl <| u <| mv rfl <| u <| mf rfl rfl <| u <| pcs (slices_ContainsFunc_string_string_ok v1 q1) rfl rfl (.cons (si rfl) (.cons (sealFn trivial ⟨(sealBox rfl ⟨(si rfl), trivial⟩), trivial⟩) .nil)) plainB <| u <| nt rfl <| u <| asg rfl <| r_nil ?_
  refine sw_ret ?_
  obtain rfl := sm h
  exact ⟨_, rfl, [], ci rfl, rfl, trivial, rfl, Nat.le_of_ble_eq_true rfl⟩

noncomputable def class_empty (v1 : ApiMethod) : Bool :=
  (((((!v1.Static) && (!(v1.Name == [36, 105, 110, 105, 116]))) && (v1.Locals == (0 : Int))) && (v1.Stack == (0 : Int))) && ((IntKind.i64.wrap ((IntKind.i64.wrap ((List.length v1.Code : Int) + (List.length v1.Maps : Int))) + (List.length v1.Traps : Int))) == (0 : Int)))
theorem class_empty_ok (v1 : ApiMethod) {r : Bool} (h : class_empty v1 = r) : PureC Tryz.prog 92 [.agg [.lit (.string (B v1.Name)), .isl 1 (List.map rStr v1.Params), .lit (.string (B v1.Ret)), .lit (.bool v1.Static), .lit (.bool v1.Abstract), .lit (.int .i64 v1.Locals), .lit (.int .i64 v1.Stack), .isl 4 (List.map rApiIns v1.Code), .isl 3 (List.map rApiMap v1.Maps), .isl 4 (List.map rApiTrap v1.Traps)]] (.lit (.bool r)) := by
  refine pure_fn Tryz.func92 rfl (by kernel_rfl) rfl rfl ?_
  unfold class_empty at h
  refine rg rfl <| u <| bx 0 10 rfl rfl rfl rfl <| u <| asg rfl <| r_nil ?_
  refine rg rfl <| u <| fa ti35 rfl rfl rfl <| u <| ld ti4 rfl rfl <| u <| nt rfl <| u <| mv rfl <| r_and (x := ((!v1.Static) && (!(v1.Name == [36, 105, 110, 105, 116])))) (j := 3) 3 rfl rfl rfl rfl rfl gpn (fun hb1 => g rfl hb1 <| fa ti35 rfl rfl rfl <| g rfl hb1 <| ld ti9 rfl rfl <| g rfl hb1 <| sne ti9 rfl rfl <| r_nil (egA [7, 8, 9] 3 hb1 rfl rfl rfl rfl)) andF <| u <| mv rfl <| r_and (x := (((!v1.Static) && (!(v1.Name == [36, 105, 110, 105, 116]))) && (v1.Locals == (0 : Int)))) (j := 8) 3 rfl rfl rfl rfl rfl gpn (fun hb2 => g rfl hb2 <| fa ti35 rfl rfl rfl <| g rfl hb2 <| ld ti3 rfl rfl <| g rfl hb2 <| eql ti3 rfl rfl <| r_nil (egA [12, 13, 14] 3 hb2 rfl rfl rfl rfl)) andF <| u <| mv rfl <| r_and (x := ((((!v1.Static) && (!(v1.Name == [36, 105, 110, 105, 116]))) && (v1.Locals == (0 : Int))) && (v1.Stack == (0 : Int)))) (j := 13) 3 rfl rfl rfl rfl rfl gpn (fun hb3 => g rfl hb3 <| fa ti35 rfl rfl rfl <| g rfl hb3 <| ld ti3 rfl rfl <| g rfl hb3 <| eql ti3 rfl rfl <| r_nil (egA [17, 18, 19] 3 hb3 rfl rfl rfl rfl)) andF <| u <| mv rfl <| r_and (x := (((((!v1.Static) && (!(v1.Name == [36, 105, 110, 105, 116]))) && (v1.Locals == (0 : Int))) && (v1.Stack == (0 : Int))) && ((IntKind.i64.wrap ((IntKind.i64.wrap ((List.length v1.Code : Int) + (List.length v1.Maps : Int))) + (List.length v1.Traps : Int))) == (0 : Int)))) (j := 18) 12 rfl rfl rfl rfl rfl gpn (fun hb4 => g rfl hb4 <| fa ti35 rfl rfl rfl <| g rfl hb4 <| ld ti31 rfl rfl <| g rfl hb4 <| lnI ti31 rfl rfl <| g rfl hb4 <| fa ti35 rfl rfl rfl <| g rfl hb4 <| ld ti32 rfl rfl <| g rfl hb4 <| lnI ti32 rfl rfl <| g rfl hb4 <| add ti3 rfl rfl <| g rfl hb4 <| fa ti35 rfl rfl rfl <| g rfl hb4 <| ld ti33 rfl rfl <| g rfl hb4 <| lnI ti33 rfl rfl <| g rfl hb4 <| add ti3 rfl rfl <| g rfl hb4 <| eql ti3 rfl rfl <| r_nil (egA [22, 23, 24, 25, 26, 27, 28, 29, 30, 31, 32, 33] 12 hb4 rfl rfl rfl rfl)) andF <| u <| asg rfl <| r_nil ?_
  refine sw_ret ?_
  obtain rfl := h
  exact ⟨_, rfl, [], ci rfl, rfl, trivial, rfl, Nat.le_of_ble_eq_true rfl⟩

noncomputable def class_args (v1 : ApiMethod) : Int :=
  cond v1.Static ((List.length v1.Params : Int)) ((IntKind.i64.wrap ((List.length v1.Params : Int) + 1)))
theorem class_args_ok (v1 : ApiMethod) {r : Int} (h : class_args v1 = r) : PureC Tryz.prog 94 [.agg [.lit (.string (B v1.Name)), .isl 1 (List.map rStr v1.Params), .lit (.string (B v1.Ret)), .lit (.bool v1.Static), .lit (.bool v1.Abstract), .lit (.int .i64 v1.Locals), .lit (.int .i64 v1.Stack), .isl 4 (List.map rApiIns v1.Code), .isl 3 (List.map rApiMap v1.Maps), .isl 4 (List.map rApiTrap v1.Traps)]] (.lit (.int .i64 r)) := by
  refine pure_fn Tryz.func94 rfl (by kernel_rfl) rfl rfl ?_
  unfold class_args at h
  refine rg rfl <| u <| bx 0 10 rfl rfl rfl rfl <| u <| asg rfl <| r_nil ?_
  refine sw_seq ?_
  refine rg rfl <| u <| fa ti35 rfl rfl rfl <| u <| ld ti4 rfl rfl <| r_nil ?_
  refine sw_cond rfl (fun hc1 => ?_) (fun hc1 => ?_)
  · replace h := bT hc1 h
    refine rg rfl <| u <| fa ti35 rfl rfl rfl <| u <| ld ti24 rfl rfl <| u <| lnI ti24 rfl rfl <| u <| asg rfl <| r_nil ?_
    refine sw_ret ?_
    obtain rfl := h
    exact ⟨_, rfl, [], ci rfl, rfl, trivial, rfl, Nat.le_of_ble_eq_true rfl⟩
  · replace h := bF hc1 h
    refine sw_skip ?_
    refine rg rfl <| u <| fa ti35 rfl rfl rfl <| u <| ld ti24 rfl rfl <| u <| lnI ti24 rfl rfl <| u <| add ti3 rfl rfl <| u <| asg rfl <| r_nil ?_
    refine sw_ret ?_
    obtain rfl := h
    exact ⟨_, rfl, [], ci rfl, rfl, trivial, rfl, Nat.le_of_ble_eq_true rfl⟩

noncomputable def class_between (v1 : Int) (v2 : Int) (v3 : Int) : Bool :=
  ((decide (v2 ≤ v1)) && (decide (v1 ≤ v3)))
theorem class_between_ok (v1 : Int) (v2 : Int) (v3 : Int) {r : Bool} (h : class_between v1 v2 v3 = r) : PureC Tryz.prog 93 [.lit (.int .i64 v1), .lit (.int .i64 v2), .lit (.int .i64 v3)] (.lit (.bool r)) := by
  refine pure_fn Tryz.func93 rfl (by kernel_rfl) rfl rfl ?_
  unfold class_between at h
  refine rg rfl <| u <| asg rfl <| r_nil ?_
  refine rg rfl <| u <| mv rfl <| u <| mv rfl <| u <| geq ti3 rfl rfl <| u <| mv rfl <| r_and (x := ((decide (v2 ≤ v1)) && (decide (v1 ≤ v3)))) (j := 3) 3 rfl rfl rfl rfl rfl gpn (fun hb1 => g rfl hb1 <| mv rfl <| g rfl hb1 <| mv rfl <| g rfl hb1 <| leq ti3 rfl rfl <| r_nil (egA [11, 12, 13] 3 hb1 rfl rfl rfl rfl)) andF <| u <| asg rfl <| r_nil ?_
  refine sw_ret ?_
  obtain rfl := h
  exact ⟨_, rfl, [], ci rfl, rfl, trivial, rfl, Nat.le_of_ble_eq_true rfl⟩

noncomputable def class_instructions_1 (v1 : ApiIns) (v2 : Int) : Option (Bool) :=
  (op_May v1).bind fun v3 => some ((!v3) || ((op_Jumps v1.Op) && (decide (v2 ≤ v1.A))))
theorem class_instructions_1_ok (v1 : ApiIns) (v2 : Int) {r : Bool} (h : class_instructions_1 v1 v2 = some r) : PureC Tryz.prog 141 [.agg [.lit (.int .i64 v1.Op), .lit (.int .i64 v1.A), .lit (.string (B v1.C)), .lit (.string (B v1.M))], .ipt 1 [[.lit (.int .i64 v2)]] 0 0] (.lit (.bool r)) := by
  refine pure_fn Tryz.func141 rfl (by kernel_rfl) rfl rfl ?_
  unfold class_instructions_1 at h
  refine rg rfl <| u <| bx 0 4 rfl rfl rfl rfl <| u <| asg rfl <| r_nil ?_
  obtain ⟨v3, q1, h⟩ := bs h
  refine rg rfl <| u <| ld ti37 rfl rfl <| u <| pc (op_May_ok v1 q1) rfl rfl rfl <| u <| nt rfl <| u <| mv rfl <| r_or (x := ((!v3) || ((op_Jumps v1.Op) && (decide (v2 ≤ v1.A))))) (j := 3) 9 rfl rfl rfl rfl rfl gpn (fun hb2 => g rfl hb2 <| fa ti37 rfl rfl rfl <| g rfl hb2 <| ld ti3 rfl rfl <| g rfl hb2 <| pc (op_Jumps_ok v1.Op rfl) rfl rfl rfl <| g rfl hb2 <| mv rfl <| r_and (x := ((op_Jumps v1.Op) && (decide (v2 ≤ v1.A)))) (j := 7) 4 rfl rfl rfl rfl rfl (gps rfl rfl hb2) (fun hb3 => g rfl hb3 <| fa ti37 rfl rfl rfl <| g rfl hb3 <| ld ti3 rfl rfl <| g rfl hb3 <| ld ti3 rfl rfl <| g rfl hb3 <| geq ti3 rfl rfl <| r_nil (egA [12, 13, 14, 15] 4 hb3 rfl rfl rfl rfl)) andF <| r_nil (egO [8, 9, 10, 11, 12, 13, 14, 15, 16] 5 hb2 rfl rfl rfl rfl)) orT <| u <| asg rfl <| r_nil ?_
  refine sw_ret ?_
  obtain rfl := sm h
  exact ⟨_, rfl, [], ci rfl, rfl, trivial, rfl, Nat.le_of_ble_eq_true rfl⟩

noncomputable def slices_IndexFunc_api_Ins_api_Ins_k2 : Option (Int) :=
  some (-1)
noncomputable def slices_IndexFunc_api_Ins_api_Ins_l1 (v1 : List ApiIns) (v2 : Int) (v6 : Int) : Option (Sum (Int) (Sum (Unit) (Int))) :=
  cond (decide (v6 < (List.length v1 : Int))) ((idx v1 v6).bind fun v7 => (class_instructions_1 v7 v2).bind fun v8 => cond v8 (some (.inr (.inr v6))) (some (.inl (IntKind.i64.wrap (v6 + 1))))) (some (.inr (.inl ())))
noncomputable def slices_IndexFunc_api_Ins_api_Ins (v1 : List ApiIns) (v2 : Int) : Option (Int) :=
  (loopP (fun z => slices_IndexFunc_api_Ins_api_Ins_l1 v1 v2 z) 0).bind fun o => leave o (fun b => slices_IndexFunc_api_Ins_api_Ins_k2) some
theorem slices_IndexFunc_api_Ins_api_Ins_ok (v1 : List ApiIns) (v2 : Int) {r : Int} (h : slices_IndexFunc_api_Ins_api_Ins v1 v2 = some r) : PureC Tryz.prog 165 [.isl 4 (List.map rApiIns v1), .fn (.func 141) [] [.ipt 1 [[.lit (.int .i64 v2)]] 0 0]] (.lit (.int .i64 r)) := by
  refine pure_fn Tryz.func165 rfl (by kernel_rfl) rfl rfl ?_
  unfold slices_IndexFunc_api_Ins_api_Ins at h
  refine rg rfl <| u <| asg rfl <| r_nil ?_
  refine sw_seq ?_
  refine rg rfl <| u <| mv rfl <| u <| lnI ti31 rfl rfl <| u <| mv rfl <| r_nil ?_
  obtain ⟨o, ho, h⟩ := bs h
  refine sw_lpl (X := Int) (B := Unit) (R := Int) (fun z => [(0, .isl 4 (List.map rApiIns v1)), (1, .fn (.func 141) [] [.ipt 1 [[.lit (.int .i64 v2)]] 0 0]), (7, .lit (.int .i64 (List.length v1 : Int))), (8, .lit (.int .i64 z))]) (fun z => []) (fun b => []) (fun b => []) (fun r env st => PostF Tryz.prog Tryz.f165 0 (.lit (.int .i64 r)) [] env st) ho ⟨[], ce rfl rfl <| ce rfl rfl <| ce rfl rfl <| ce rfl rfl <| cn, rfl, trivial, rfl, Nat.le_of_ble_eq_true rfl⟩ ?_ ?_ ?_
  · rintro v6 r h
    replace h : slices_IndexFunc_api_Ins_api_Ins_l1 v1 v2 v6 = some r := h
    unfold slices_IndexFunc_api_Ins_api_Ins_l1 at h
    refine rg rfl <| u <| lss ti3 rfl rfl <| r_nil ?_
    refine sw_seq ?_
    refine sw_cond rfl (fun hc5 => ?_) (fun hc5 => ?_)
    · replace h := bT hc5 h
      refine sw_skip ?_
      refine sw_seq ?_
      refine sw_block ?_
      refine rg rfl <| u <| mv rfl <| u <| asg rfl <| r_nil ?_
      obtain ⟨v7, q6, h⟩ := bs h
      obtain ⟨v8, q7, h⟩ := bs h
      refine rg rfl <| u <| mv rfl <| u <| mv rfl <| u <| mv rfl <| u <| ixI ti31 rfl ti37 rfl rfl rfl q6 <| u <| ldI ti37 rfl (idx_some q6).2.2 rfl <| u <| pc (class_instructions_1_ok v7 v2 q7) rfl rfl rfl <| r_nil ?_
      refine sw_cond rfl (fun hc8 => ?_) (fun hc8 => ?_)
      · replace h := bT hc8 h
        refine rg rfl <| u <| mv rfl <| u <| asg rfl <| r_nil ?_
        refine sw_ret ?_
        obtain rfl := sm h
        exact ⟨_, rfl, _, rfl, [], ci rfl, rfl, trivial, rfl, Nat.le_of_ble_eq_true rfl⟩
      · replace h := bF hc8 h
        refine sw_skip ?_
        refine rl rfl <| u <| add ti3 rfl rfl <| u <| mv rfl <| r_nil ?_
        obtain rfl := sm h
        exact ⟨_, rfl, [], ce rfl rfl <| ce rfl rfl <| ce rfl rfl <| ce rfl rfl <| cn, rfl, trivial, rfl, Nat.le_of_ble_eq_true rfl⟩
    · replace h := bF hc5 h
      refine sw_exit ?_
      obtain rfl := sm h
      exact ⟨rfl, _, rfl, [], cn, rfl, trivial, rfl, Nat.le_of_ble_eq_true rfl⟩
  · rintro ⟨⟩ rfl
    replace h : slices_IndexFunc_api_Ins_api_Ins_k2 = some r := h
    unfold slices_IndexFunc_api_Ins_api_Ins_k2 at h
    refine ow_intro ?_
    refine rg rfl <| u <| asg rfl <| r_nil ?_
    refine sw_ret ?_
    obtain rfl := sm h
    exact ⟨_, rfl, [], ci rfl, rfl, trivial, rfl, Nat.le_of_ble_eq_true rfl⟩
  · rintro r' rfl env st hp
    obtain rfl := sm h
    exact hp

noncomputable def slices_ContainsFunc_api_Ins_api_Ins (v1 : List ApiIns) (v2 : Int) : Option (Bool) :=
  (slices_IndexFunc_api_Ins_api_Ins v1 v2).bind fun v3 => some (decide (0 ≤ v3))
theorem slices_ContainsFunc_api_Ins_api_Ins_ok (v1 : List ApiIns) (v2 : Int) {r : Bool} (h : slices_ContainsFunc_api_Ins_api_Ins v1 v2 = some r) : PureC Tryz.prog 140 [.isl 4 (List.map rApiIns v1), .fn (.func 141) [] [.ipt 1 [[.lit (.int .i64 v2)]] 0 0]] (.lit (.bool r)) := by
  refine pure_fn Tryz.func140 rfl (by kernel_rfl) rfl rfl ?_
  unfold slices_ContainsFunc_api_Ins_api_Ins at h
  refine rg rfl <| u <| asg rfl <| r_nil ?_
  obtain ⟨v3, q1, h⟩ := bs h
  refine rg rfl <| u <| mv rfl <| u <| mv rfl <| u <| pc (slices_IndexFunc_api_Ins_api_Ins_ok v1 v2 q1) rfl rfl rfl <| u <| geq ti3 rfl rfl <| u <| asg rfl <| r_nil ?_
  refine sw_ret ?_
  obtain rfl := sm h
  exact ⟨_, rfl, [], ci rfl, rfl, trivial, rfl, Nat.le_of_ble_eq_true rfl⟩

noncomputable def class_instructions (v1 : ApiMethod) : Option (Bool) :=
  (cond (!(class_between (List.length v1.Code : Int) 1 100)) (some true) ((idx v1.Code (IntKind.i64.wrap ((List.length v1.Code : Int) - 1))).bind fun v2 => some (!(op_Ends v2.Op)))).bind fun v3 => cond v3 (some false) ((slices_ContainsFunc_api_Ins_api_Ins v1.Code (List.length v1.Code : Int)).bind fun v4 => some (!v4))
theorem class_instructions_ok (v1 : ApiMethod) {r : Bool} (h : class_instructions v1 = some r) : PureC Tryz.prog 95 [.agg [.lit (.string (B v1.Name)), .isl 1 (List.map rStr v1.Params), .lit (.string (B v1.Ret)), .lit (.bool v1.Static), .lit (.bool v1.Abstract), .lit (.int .i64 v1.Locals), .lit (.int .i64 v1.Stack), .isl 4 (List.map rApiIns v1.Code), .isl 3 (List.map rApiMap v1.Maps), .isl 4 (List.map rApiTrap v1.Traps)]] (.lit (.bool r)) := by
  refine pure_fn Tryz.func95 rfl (by kernel_rfl) rfl rfl ?_
  unfold class_instructions at h
  refine rg rfl <| u <| bx 0 10 rfl rfl rfl rfl <| u <| asg rfl <| r_nil ?_
  refine rg rfl <| u <| fa ti35 rfl rfl rfl <| u <| ld ti31 rfl rfl <| u <| lnI ti31 rfl rfl <| u <| al 1 ti3 rfl <| u <| sto ti3 rfl rfl rfl <| r_nil ?_
  refine sw_seq ?_
  obtain ⟨v3, q3, h⟩ := bs h
  refine rg rfl <| u <| ld ti3 rfl rfl <| u <| pc (class_between_ok (List.length v1.Code : Int) 1 100 rfl) rfl rfl rfl <| u <| nt rfl <| u <| mv rfl <| r_or (x := v3) (j := 3) 9 rfl rfl rfl rfl rfl gpn (fun hb1 => by replace q3 := bF hb1 q3; obtain ⟨v2, q2, q3⟩ := bs q3; obtain rfl := sm q3; exact g rfl hb1 <| fa ti35 rfl rfl rfl <| g rfl hb1 <| ld ti31 rfl rfl <| g rfl hb1 <| ld ti3 rfl rfl <| g rfl hb1 <| sub ti3 rfl rfl <| g rfl hb1 <| ixI ti31 rfl ti37 rfl rfl rfl q2 <| g rfl hb1 <| fa ti37 rfl rfl rfl <| g rfl hb1 <| ldI ti3 rfl (idx_some q2).2.2 rfl <| g rfl hb1 <| pc (op_Ends_ok v2.Op rfl) rfl rfl rfl <| g rfl hb1 <| nt rfl <| r_nil (eg [11, 12, 13, 14, 15, 16, 17, 18, 19] 9 rfl rfl rfl rfl)) (fun hb => (sm (bT hb q3)).symm) <| r_nil ?_
  refine sw_cond rfl (fun hc4 => ?_) (fun hc4 => ?_)
  · replace h := bT hc4 h
    refine rg rfl <| u <| asg rfl <| r_nil ?_
    refine sw_ret ?_
    obtain rfl := sm h
    exact ⟨_, rfl, [], ci rfl, rfl, trivial, rfl, Nat.le_of_ble_eq_true rfl⟩
  · replace h := bF hc4 h
    refine sw_skip ?_
    obtain ⟨v4, q5, h⟩ := bs h
    refine rg rfl <| u <| fa ti35 rfl rfl rfl <| u <| ld ti31 rfl rfl <| u <| mf rfl rfl <| u <| pcs (slices_ContainsFunc_api_Ins_api_Ins_ok v1.Code (List.length v1.Code : Int) q5) rfl rfl (.cons (si rfl) (.cons (sealFn trivial ⟨(sealBox rfl ⟨(si rfl), trivial⟩), trivial⟩) .nil)) plainB <| u <| nt rfl <| u <| asg rfl <| r_nil ?_
    refine sw_ret ?_
    obtain rfl := sm h
    exact ⟨_, rfl, [], ci rfl, rfl, trivial, rfl, Nat.le_of_ble_eq_true rfl⟩

noncomputable def class_slot (v1 : List UInt8) : Option (Bool) :=
  (cond (((v1 == [73]) || (v1 == [78])) || (v1 == [84])) (some true) ((kind_Ref v1).bind fun v2 => some v2)).bind fun v3 => some v3
theorem class_slot_ok (v1 : List UInt8) {r : Bool} (h : class_slot v1 = some r) : PureC Tryz.prog 142 [.lit (.string (B v1))] (.lit (.bool r)) := by
  refine pure_fn Tryz.func142 rfl (by kernel_rfl) rfl rfl ?_
  unfold class_slot at h
  refine rg rfl <| u <| asg rfl <| r_nil ?_
  obtain ⟨v3, q5, h⟩ := bs h
  refine rg rfl <| u <| mv rfl <| u <| seq ti9 rfl rfl <| u <| mv rfl <| r_or (x := ((v1 == [73]) || (v1 == [78]))) (j := 2) 2 rfl rfl rfl rfl rfl gpn (fun hb1 => g rfl hb1 <| mv rfl <| g rfl hb1 <| seq ti9 rfl rfl <| r_nil (egO [6, 7] 2 hb1 rfl rfl rfl rfl)) orT <| u <| mv rfl <| r_or (x := (((v1 == [73]) || (v1 == [78])) || (v1 == [84]))) (j := 6) 2 rfl rfl rfl rfl rfl gpn (fun hb2 => g rfl hb2 <| mv rfl <| g rfl hb2 <| seq ti9 rfl rfl <| r_nil (egO [10, 11] 2 hb2 rfl rfl rfl rfl)) orT <| u <| mv rfl <| r_or (x := v3) (j := 10) 2 rfl rfl rfl rfl rfl gpn (fun hb3 => by replace q5 := bF hb3 q5; obtain ⟨v2, q4, q5⟩ := bs q5; obtain rfl := sm q5; exact g rfl hb3 <| mv rfl <| g rfl hb3 <| pc (kind_Ref_ok v1 q4) rfl rfl rfl <| r_nil (eg [14, 15] 2 rfl rfl rfl rfl)) (fun hb => (sm (bT hb q5)).symm) <| u <| asg rfl <| r_nil ?_
  refine sw_ret ?_
  obtain rfl := sm h
  exact ⟨_, rfl, [], ci rfl, rfl, trivial, rfl, Nat.le_of_ble_eq_true rfl⟩

noncomputable def class_types_1_s2 (v1 : List UInt8) : Option (Bool) :=
  (class_slot v1).bind fun v2 => some (!v2)
theorem class_types_1_s2_ok (v1 : List UInt8) {r : Bool} (h : class_types_1_s2 v1 = some r) : PureC Tryz.prog 139 [.lit (.string (B v1)), .ipt 1 [[.fn (.func 142) [] []]] 0 0] (.lit (.bool r)) := by
  refine pure_fn Tryz.func139 rfl (by kernel_rfl) rfl rfl ?_
  unfold class_types_1_s2 at h
  refine rg rfl <| u <| asg rfl <| r_nil ?_
  obtain ⟨v2, q1, h⟩ := bs h
  refine rg rfl <| u <| ld ti58 rfl rfl <| u <| mv rfl <| u <| pc (class_slot_ok v1 q1) rfl rfl rfl <| u <| nt rfl <| u <| asg rfl <| r_nil ?_
  refine sw_ret ?_
  obtain rfl := sm h
  exact ⟨_, rfl, [], ci rfl, rfl, trivial, rfl, Nat.le_of_ble_eq_true rfl⟩

noncomputable def slices_IndexFunc_string_string_s2_k2 : Option (Int) :=
  some (-1)
noncomputable def slices_IndexFunc_string_string_s2_l1 (v1 : List (List UInt8)) (v5 : Int) : Option (Sum (Int) (Sum (Unit) (Int))) :=
  cond (decide (v5 < (List.length v1 : Int))) ((idx v1 v5).bind fun v6 => (class_types_1_s2 v6).bind fun v7 => cond v7 (some (.inr (.inr v5))) (some (.inl (IntKind.i64.wrap (v5 + 1))))) (some (.inr (.inl ())))
noncomputable def slices_IndexFunc_string_string_s2 (v1 : List (List UInt8)) : Option (Int) :=
  (loopP (fun z => slices_IndexFunc_string_string_s2_l1 v1 z) 0).bind fun o => leave o (fun b => slices_IndexFunc_string_string_s2_k2) some
theorem slices_IndexFunc_string_string_s2_ok (v1 : List (List UInt8)) {r : Int} (h : slices_IndexFunc_string_string_s2 v1 = some r) : PureC Tryz.prog 146 [.isl 1 (List.map rStr v1), .fn (.func 139) [] [.ipt 1 [[.fn (.func 142) [] []]] 0 0]] (.lit (.int .i64 r)) := by
  refine pure_fn Tryz.func146 rfl (by kernel_rfl) rfl rfl ?_
  unfold slices_IndexFunc_string_string_s2 at h
  refine rg rfl <| u <| asg rfl <| r_nil ?_
  refine sw_seq ?_
  refine rg rfl <| u <| mv rfl <| u <| lnI ti24 rfl rfl <| u <| mv rfl <| r_nil ?_
  obtain ⟨o, ho, h⟩ := bs h
  refine sw_lpl (X := Int) (B := Unit) (R := Int) (fun z => [(0, .isl 1 (List.map rStr v1)), (1, .fn (.func 139) [] [.ipt 1 [[.fn (.func 142) [] []]] 0 0]), (7, .lit (.int .i64 (List.length v1 : Int))), (8, .lit (.int .i64 z))]) (fun z => []) (fun b => []) (fun b => []) (fun r env st => PostF Tryz.prog Tryz.f146 0 (.lit (.int .i64 r)) [] env st) ho ⟨[], ce rfl rfl <| ce rfl rfl <| ce rfl rfl <| ce rfl rfl <| cn, rfl, trivial, rfl, Nat.le_of_ble_eq_true rfl⟩ ?_ ?_ ?_
  · rintro v5 r h
    replace h : slices_IndexFunc_string_string_s2_l1 v1 v5 = some r := h
    unfold slices_IndexFunc_string_string_s2_l1 at h
    refine rg rfl <| u <| lss ti3 rfl rfl <| r_nil ?_
    refine sw_seq ?_
    refine sw_cond rfl (fun hc5 => ?_) (fun hc5 => ?_)
    · replace h := bT hc5 h
      refine sw_skip ?_
      refine sw_seq ?_
      refine sw_block ?_
      refine rg rfl <| u <| mv rfl <| u <| asg rfl <| r_nil ?_
      obtain ⟨v6, q6, h⟩ := bs h
      obtain ⟨v7, q7, h⟩ := bs h
      refine rg rfl <| u <| mv rfl <| u <| mv rfl <| u <| mv rfl <| u <| ixI ti24 rfl ti9 rfl rfl rfl q6 <| u <| ldI ti9 rfl (idx_some q6).2.2 rfl <| u <| pc (class_types_1_s2_ok v6 q7) rfl rfl rfl <| r_nil ?_
      refine sw_cond rfl (fun hc8 => ?_) (fun hc8 => ?_)
      · replace h := bT hc8 h
        refine rg rfl <| u <| mv rfl <| u <| asg rfl <| r_nil ?_
        refine sw_ret ?_
        obtain rfl := sm h
        exact ⟨_, rfl, _, rfl, [], ci rfl, rfl, trivial, rfl, Nat.le_of_ble_eq_true rfl⟩
      · replace h := bF hc8 h
        refine sw_skip ?_
        refine rl rfl <| u <| add ti3 rfl rfl <| u <| mv rfl <| r_nil ?_
        obtain rfl := sm h
        exact ⟨_, rfl, [], ce rfl rfl <| ce rfl rfl <| ce rfl rfl <| ce rfl rfl <| cn, rfl, trivial, rfl, Nat.le_of_ble_eq_true rfl⟩
    · replace h := bF hc5 h
      refine sw_exit ?_
      obtain rfl := sm h
      exact ⟨rfl, _, rfl, [], cn, rfl, trivial, rfl, Nat.le_of_ble_eq_true rfl⟩
  · rintro ⟨⟩ rfl
    replace h : slices_IndexFunc_string_string_s2_k2 = some r := h
    unfold slices_IndexFunc_string_string_s2_k2 at h
    refine ow_intro ?_
    refine rg rfl <| u <| asg rfl <| r_nil ?_
    refine sw_ret ?_
    obtain rfl := sm h
    exact ⟨_, rfl, [], ci rfl, rfl, trivial, rfl, Nat.le_of_ble_eq_true rfl⟩
  · rintro r' rfl env st hp
    obtain rfl := sm h
    exact hp

noncomputable def slices_ContainsFunc_string_string_s2 (v1 : List (List UInt8)) : Option (Bool) :=
  (slices_IndexFunc_string_string_s2 v1).bind fun v2 => some (decide (0 ≤ v2))
theorem slices_ContainsFunc_string_string_s2_ok (v1 : List (List UInt8)) {r : Bool} (h : slices_ContainsFunc_string_string_s2 v1 = some r) : PureC Tryz.prog 99 [.isl 1 (List.map rStr v1), .fn (.func 139) [] [.ipt 1 [[.fn (.func 142) [] []]] 0 0]] (.lit (.bool r)) := by
  refine pure_fn Tryz.func99 rfl (by kernel_rfl) rfl rfl ?_
  unfold slices_ContainsFunc_string_string_s2 at h
  refine rg rfl <| u <| asg rfl <| r_nil ?_
  obtain ⟨v2, q1, h⟩ := bs h
  refine rg rfl <| u <| mv rfl <| u <| mv rfl <| u <| pc (slices_IndexFunc_string_string_s2_ok v1 q1) rfl rfl rfl <| u <| geq ti3 rfl rfl <| u <| asg rfl <| r_nil ?_
  refine sw_ret ?_
  obtain rfl := sm h
  exact ⟨_, rfl, [], ci rfl, rfl, trivial, rfl, Nat.le_of_ble_eq_true rfl⟩

noncomputable def class_types_s2 (v1 : List (List UInt8)) : Option (Bool) :=
  (slices_ContainsFunc_string_string_s2 v1).bind fun v2 => some (!v2)
theorem class_types_s2_ok (v1 : List (List UInt8)) {r : Bool} (h : class_types_s2 v1 = some r) : PureC Tryz.prog 90 [.isl 1 (List.map rStr v1), .fn (.func 142) [] []] (.lit (.bool r)) := by
  refine pure_fn Tryz.func90 rfl (by kernel_rfl) rfl rfl ?_
  unfold class_types_s2 at h
  refine rg rfl <| u <| bx 0 1 rfl rfl rfl rfl <| u <| asg rfl <| r_nil ?_
  obtain ⟨v2, q1, h⟩ := bs h
  refine rg rfl <| u <| mv rfl <| u <| mf rfl rfl <| u <| pcs (slices_ContainsFunc_string_string_s2_ok v1 q1) rfl rfl (.cons (si rfl) (.cons (sealFn trivial ⟨(sealBox rfl ⟨(si rfl), trivial⟩), trivial⟩) .nil)) plainB <| u <| nt rfl <| u <| asg rfl <| r_nil ?_
  refine sw_ret ?_
  obtain rfl := sm h
  exact ⟨_, rfl, [], ci rfl, rfl, trivial, rfl, Nat.le_of_ble_eq_true rfl⟩

noncomputable def slices_Index_string_string_k2 : Option (Int) :=
  some (-1)
noncomputable def slices_Index_string_string_l1 (v1 : List (List UInt8)) (v2 : List UInt8) (v5 : Int) : Option (Sum (Int) (Sum (Unit) (Int))) :=
  cond (decide (v5 < (List.length v1 : Int))) ((idx v1 v5).bind fun v6 => cond (v2 == v6) (some (.inr (.inr v5))) (some (.inl (IntKind.i64.wrap (v5 + 1))))) (some (.inr (.inl ())))
noncomputable def slices_Index_string_string (v1 : List (List UInt8)) (v2 : List UInt8) : Option (Int) :=
  (loopP (fun z => slices_Index_string_string_l1 v1 v2 z) 0).bind fun o => leave o (fun b => slices_Index_string_string_k2) some
theorem slices_Index_string_string_ok (v1 : List (List UInt8)) (v2 : List UInt8) {r : Int} (h : slices_Index_string_string v1 v2 = some r) : PureC Tryz.prog 108 [.isl 1 (List.map rStr v1), .lit (.string (B v2))] (.lit (.int .i64 r)) := by
  refine pure_fn Tryz.func108 rfl (by kernel_rfl) rfl rfl ?_
  unfold slices_Index_string_string at h
  refine rg rfl <| u <| asg rfl <| r_nil ?_
  refine sw_seq ?_
  refine rg rfl <| u <| mv rfl <| u <| lnI ti24 rfl rfl <| u <| mv rfl <| r_nil ?_
  obtain ⟨o, ho, h⟩ := bs h
  refine sw_lpl (X := Int) (B := Unit) (R := Int) (fun z => [(0, .isl 1 (List.map rStr v1)), (1, .lit (.string (B v2))), (7, .lit (.int .i64 (List.length v1 : Int))), (8, .lit (.int .i64 z))]) (fun z => []) (fun b => []) (fun b => []) (fun r env st => PostF Tryz.prog Tryz.f108 0 (.lit (.int .i64 r)) [] env st) ho ⟨[], ce rfl rfl <| ce rfl rfl <| ce rfl rfl <| ce rfl rfl <| cn, rfl, trivial, rfl, Nat.le_of_ble_eq_true rfl⟩ ?_ ?_ ?_
  · rintro v5 r h
    replace h : slices_Index_string_string_l1 v1 v2 v5 = some r := h
    unfold slices_Index_string_string_l1 at h
    refine rg rfl <| u <| lss ti3 rfl rfl <| r_nil ?_
    refine sw_seq ?_
    refine sw_cond rfl (fun hc4 => ?_) (fun hc4 => ?_)
    · replace h := bT hc4 h
      refine sw_skip ?_
      refine sw_seq ?_
      refine sw_block ?_
      refine rg rfl <| u <| mv rfl <| u <| asg rfl <| r_nil ?_
      obtain ⟨v6, q5, h⟩ := bs h
      refine rg rfl <| u <| mv rfl <| u <| mv rfl <| u <| mv rfl <| u <| ixI ti24 rfl ti9 rfl rfl rfl q5 <| u <| ldI ti9 rfl (idx_some q5).2.2 rfl <| u <| seq ti9 rfl rfl <| r_nil ?_
      refine sw_cond rfl (fun hc6 => ?_) (fun hc6 => ?_)
      · replace h := bT hc6 h
        refine rg rfl <| u <| mv rfl <| u <| asg rfl <| r_nil ?_
        refine sw_ret ?_
        obtain rfl := sm h
        exact ⟨_, rfl, _, rfl, [], ci rfl, rfl, trivial, rfl, Nat.le_of_ble_eq_true rfl⟩
      · replace h := bF hc6 h
        refine sw_skip ?_
        refine rl rfl <| u <| add ti3 rfl rfl <| u <| mv rfl <| r_nil ?_
        obtain rfl := sm h
        exact ⟨_, rfl, [], ce rfl rfl <| ce rfl rfl <| ce rfl rfl <| ce rfl rfl <| cn, rfl, trivial, rfl, Nat.le_of_ble_eq_true rfl⟩
    · replace h := bF hc4 h
      refine sw_exit ?_
      obtain rfl := sm h
      exact ⟨rfl, _, rfl, [], cn, rfl, trivial, rfl, Nat.le_of_ble_eq_true rfl⟩
  · rintro ⟨⟩ rfl
    replace h : slices_Index_string_string_k2 = some r := h
    unfold slices_Index_string_string_k2 at h
    refine ow_intro ?_
    refine rg rfl <| u <| asg rfl <| r_nil ?_
    refine sw_ret ?_
    obtain rfl := sm h
    exact ⟨_, rfl, [], ci rfl, rfl, trivial, rfl, Nat.le_of_ble_eq_true rfl⟩
  · rintro r' rfl env st hp
    obtain rfl := sm h
    exact hp

noncomputable def slices_Contains_string_string (v1 : List (List UInt8)) (v2 : List UInt8) : Option (Bool) :=
  (slices_Index_string_string v1 v2).bind fun v3 => some (decide (0 ≤ v3))
theorem slices_Contains_string_string_ok (v1 : List (List UInt8)) (v2 : List UInt8) {r : Bool} (h : slices_Contains_string_string v1 v2 = some r) : PureC Tryz.prog 143 [.isl 1 (List.map rStr v1), .lit (.string (B v2))] (.lit (.bool r)) := by
  refine pure_fn Tryz.func143 rfl (by kernel_rfl) rfl rfl ?_
  unfold slices_Contains_string_string at h
  refine rg rfl <| u <| asg rfl <| r_nil ?_
  obtain ⟨v3, q1, h⟩ := bs h
  refine rg rfl <| u <| mv rfl <| u <| mv rfl <| u <| pc (slices_Index_string_string_ok v1 v2 q1) rfl rfl rfl <| u <| geq ti3 rfl rfl <| u <| asg rfl <| r_nil ?_
  refine sw_ret ?_
  obtain rfl := sm h
  exact ⟨_, rfl, [], ci rfl, rfl, trivial, rfl, Nat.le_of_ble_eq_true rfl⟩

noncomputable def class_maps_k4 (v1 : ApiMethod) : Option (Bool) :=
  some (decide ((List.length v1.Maps : Int) ≤ 100))
noncomputable def class_maps_j2 (v1 : ApiMethod) (v12 : Int) (v13 : ApiMap) (v15 : Bool) : Option (Sum (Int) (Sum (Unit) (Bool))) :=
  cond v15 (some (.inr (.inr false))) ((cond ((!((List.length v13.Locals : Int) == v1.Locals)) || (decide (v1.Stack < (List.length v13.Stack : Int)))) (some true) ((class_types_s2 v13.Locals).bind fun v16 => some (!v16))).bind fun v17 => (cond v17 (some true) ((class_types_s2 v13.Stack).bind fun v18 => some (!v18))).bind fun v19 => (cond v19 (some true) ((slices_Contains_string_string v13.Stack [84]).bind fun v20 => some v20)).bind fun v21 => cond v21 (some (.inr (.inr false))) (some (.inl (IntKind.i64.wrap (v12 + 1)))))
noncomputable def class_maps_l3 (v1 : ApiMethod) (v12 : Int) : Option (Sum (Int) (Sum (Unit) (Bool))) :=
  cond (decide (v12 < (List.length v1.Maps : Int))) ((idx v1.Maps v12).bind fun v13 => cond (!(class_between v13.At 0 (IntKind.i64.wrap ((List.length v1.Code : Int) - 1)))) (class_maps_j2 v1 v12 v13 true) (cond (decide (0 < v12)) ((idx v1.Maps (IntKind.i64.wrap (v12 - 1))).bind fun v14 => class_maps_j2 v1 v12 v13 (decide (v13.At ≤ v14.At))) (class_maps_j2 v1 v12 v13 false))) (some (.inr (.inl ())))
noncomputable def class_maps (v1 : ApiMethod) : Option (Bool) :=
  (loopP (fun z => class_maps_l3 v1 z) 0).bind fun o => leave o (fun b => class_maps_k4 v1) some
theorem class_maps_ok (v1 : ApiMethod) {r : Bool} (h : class_maps v1 = some r) : PureC Tryz.prog 96 [.agg [.lit (.string (B v1.Name)), .isl 1 (List.map rStr v1.Params), .lit (.string (B v1.Ret)), .lit (.bool v1.Static), .lit (.bool v1.Abstract), .lit (.int .i64 v1.Locals), .lit (.int .i64 v1.Stack), .isl 4 (List.map rApiIns v1.Code), .isl 3 (List.map rApiMap v1.Maps), .isl 4 (List.map rApiTrap v1.Traps)]] (.lit (.bool r)) := by
  refine pure_fn Tryz.func96 rfl (by kernel_rfl) rfl rfl ?_
  unfold class_maps at h
  refine rg rfl <| u <| bx 0 10 rfl rfl rfl rfl <| u <| asg rfl <| r_nil ?_
  refine sw_seq ?_
  refine rg rfl <| u <| fa ti35 rfl rfl rfl <| u <| ld ti32 rfl rfl <| u <| lnI ti32 rfl rfl <| u <| mv rfl <| r_nil ?_
  obtain ⟨o, ho, h⟩ := bs h
  refine sw_lpl (X := Int) (B := Unit) (R := Bool) (fun z => [(1, .mpt 0 0 0), (6, .isl 3 (List.map rApiMap v1.Maps)), (7, .lit (.int .i64 (List.length v1.Maps : Int))), (8, .lit (.int .i64 z))]) (fun z => [some (10, [[.lit (.string (B v1.Name)), .isl 1 (List.map rStr v1.Params), .lit (.string (B v1.Ret)), .lit (.bool v1.Static), .lit (.bool v1.Abstract), .lit (.int .i64 v1.Locals), .lit (.int .i64 v1.Stack), .isl 4 (List.map rApiIns v1.Code), .isl 3 (List.map rApiMap v1.Maps), .isl 4 (List.map rApiTrap v1.Traps)]])]) (fun b => [(1, .mpt 0 0 0)]) (fun b => [some (10, [[.lit (.string (B v1.Name)), .isl 1 (List.map rStr v1.Params), .lit (.string (B v1.Ret)), .lit (.bool v1.Static), .lit (.bool v1.Abstract), .lit (.int .i64 v1.Locals), .lit (.int .i64 v1.Stack), .isl 4 (List.map rApiIns v1.Code), .isl 3 (List.map rApiMap v1.Maps), .isl 4 (List.map rApiTrap v1.Traps)]])]) (fun r env st => PostF Tryz.prog Tryz.f96 0 (.lit (.bool r)) [] env st) ho ⟨[.old 0], cv rfl (.mpt rfl) <| ce rfl rfl <| ce rfl rfl <| ce rfl rfl <| cn, rfl, ⟨⟨_, rfl, rsOne ⟨ci rfl, ci rfl, ci rfl, ci rfl, ci rfl, ci rfl, ci rfl, ci rfl, ci rfl, ci rfl, trivial⟩⟩, trivial⟩, rfl, Nat.le_of_ble_eq_true rfl⟩ ?_ ?_ ?_
  · rintro v12 r h
    replace h : class_maps_l3 v1 v12 = some r := h
    unfold class_maps_l3 at h
    refine rg rfl <| u <| lss ti3 rfl rfl <| r_nil ?_
    refine sw_seq ?_
    refine sw_cond rfl (fun hc18 => ?_) (fun hc18 => ?_)
    · replace h := bT hc18 h
      refine sw_skip ?_
      refine sw_seq ?_
      refine sw_block ?_
      obtain ⟨v13, q19, h⟩ := bs h
      refine rg rfl <| u <| mv rfl <| u <| ixI ti32 rfl ti39 rfl rfl rfl q19 <| u <| ldI ti39 rfl (idx_some q19).2.2 rfl <| u <| al 1 ti39 rfl <| u <| asg rfl <| u <| sto ti39 rfl rfl rfl <| r_nil ?_
      refine sw_seq ?_
      refine sw_meet (X := Bool) (fun z => [(1, .mpt 0 0 0), (4, .mpt 1 0 0), (6, .isl 3 (List.map rApiMap v1.Maps)), (7, .lit (.int .i64 (List.length v1.Maps : Int))), (8, .lit (.int .i64 v12)), (36, .lit (.bool z))]) (fun z => [some (10, [[.lit (.string (B v1.Name)), .isl 1 (List.map rStr v1.Params), .lit (.string (B v1.Ret)), .lit (.bool v1.Static), .lit (.bool v1.Abstract), .lit (.int .i64 v1.Locals), .lit (.int .i64 v1.Stack), .isl 4 (List.map rApiIns v1.Code), .isl 3 (List.map rApiMap v1.Maps), .isl 4 (List.map rApiTrap v1.Traps)]]), some (3, [[.lit (.int .i64 v13.At), .isl 1 (List.map rStr v13.Locals), .isl 1 (List.map rStr v13.Stack)]])]) (fun z => class_maps_j2 v1 v12 v13 z = some r) ?_ ?_
      · rcases bb (!(class_between v13.At 0 (IntKind.i64.wrap ((List.length v1.Code : Int) - 1)))) with hb20 | hb20
        · replace h := bT hb20 h
          exact sw_region_dt [] [23, 22, 21, 20, 19, 18, 17, 16, 15, 14, 13, 12, 11, 10, 9, 8, 7, 6, 5, 4, 3, 2, 1, 0] [(36, .lit (.bool true)), (35, .lit undef), (34, .lit undef), (33, .lit undef), (32, .lit undef), (31, .lit undef), (30, .lit undef), (29, .lit undef), (28, .lit undef), (27, .lit undef), (26, .lit undef), (25, .lit undef), (24, .lit undef), (23, .lit undef), (22, .lit undef), (21, .lit (.bool (!(class_between v13.At 0 (IntKind.i64.wrap ((List.length v1.Code : Int) - 1)))))), (20, .lit (.bool (!(class_between v13.At 0 (IntKind.i64.wrap ((List.length v1.Code : Int) - 1)))))), (19, .lit (.bool (class_between v13.At 0 (IntKind.i64.wrap ((List.length v1.Code : Int) - 1))))), (18, .lit (.int .i64 (IntKind.i64.wrap ((List.length v1.Code : Int) - 1)))), (17, .lit (.int .i64 (List.length v1.Code : Int))), (16, .isl 4 (List.map rApiIns v1.Code)), (15, .mpt 0 0 7), (14, .lit (.int .i64 v13.At)), (13, .mpt 1 0 0)] 0 (by kernel_rfl) (by kernel_rfl) rfl (by kernel_rfl) (dt0 ⟨(fun _ => pa rfl rfl rfl rfl (pkb rfl hb20 rfl <| ⟨rfl, rfl⟩)), (fun _ => pas (b := (!(class_between v13.At 0 (IntKind.i64.wrap ((List.length v1.Code : Int) - 1))))) rfl rfl rfl rfl hb20 rfl), (fun _ => pau rfl rfl rfl rfl rfl), (fun _ => pau rfl rfl rfl rfl rfl), (fun _ => pau rfl rfl rfl rfl rfl), (fun _ => pau rfl rfl rfl rfl rfl), (fun _ => pau rfl rfl rfl rfl rfl), (fun _ => pau rfl rfl rfl rfl rfl), (fun _ => pau rfl rfl rfl rfl rfl), (fun _ => pau rfl rfl rfl rfl rfl), (fun _ => pau rfl rfl rfl rfl rfl), (fun _ => pau rfl rfl rfl rfl rfl), (fun _ => pas (b := (!(class_between v13.At 0 (IntKind.i64.wrap ((List.length v1.Code : Int) - 1))))) rfl rfl rfl rfl hb20 rfl), (fun _ => pas (b := (!(class_between v13.At 0 (IntKind.i64.wrap ((List.length v1.Code : Int) - 1))))) rfl rfl rfl rfl hb20 rfl), (fun _ => pas (b := (!(class_between v13.At 0 (IntKind.i64.wrap ((List.length v1.Code : Int) - 1))))) rfl rfl rfl rfl hb20 rfl), (fun _ => pa rfl rfl rfl rfl (mv rfl <| ⟨rfl, rfl⟩)), (fun _ => pa rfl rfl rfl rfl (nt rfl <| ⟨rfl, rfl⟩)), (fun _ => pa rfl rfl rfl rfl (pc (class_between_ok v13.At 0 (IntKind.i64.wrap ((List.length v1.Code : Int) - 1)) rfl) rfl rfl rfl <| ⟨rfl, rfl⟩)), (fun _ => pa rfl rfl rfl rfl (sub ti3 rfl rfl <| ⟨rfl, rfl⟩)), (fun _ => pa rfl rfl rfl rfl (lnI ti31 rfl rfl <| ⟨rfl, rfl⟩)), (fun _ => pa rfl rfl rfl rfl (ld ti31 rfl rfl <| ⟨rfl, rfl⟩)), (fun _ => pa rfl rfl rfl rfl (fa ti35 rfl rfl rfl <| ⟨rfl, rfl⟩)), (fun _ => pa rfl rfl rfl rfl (ld ti3 rfl rfl <| ⟨rfl, rfl⟩)), (fun _ => pa rfl rfl rfl rfl (fa ti39 rfl rfl rfl <| ⟨rfl, rfl⟩)), trivial⟩ (by kernel_rfl) rfl ⟨true, h, [.old 0, .old 1], cv rfl (.mpt rfl) <| cv rfl (.mpt rfl) <| ce rfl rfl <| ce rfl rfl <| ce rfl rfl <| ce rfl rfl <| cn, rfl, ⟨⟨_, rfl, rsOne ⟨ci rfl, ci rfl, ci rfl, ci rfl, ci rfl, ci rfl, ci rfl, ci rfl, ci rfl, ci rfl, trivial⟩⟩, ⟨_, rfl, rsOne ⟨ci rfl, ci rfl, ci rfl, trivial⟩⟩, trivial⟩, rfl, Nat.le_of_ble_eq_true rfl⟩)
        · replace h := bF hb20 h
          rcases bb (decide (0 < v12)) with hb21 | hb21
          · replace h := bT hb21 h
            obtain ⟨v14, q22, h⟩ := bs h
            exact sw_region_dt [] [23, 22, 21, 20, 19, 18, 17, 16, 15, 14, 13, 12, 11, 10, 9, 8, 7, 6, 5, 4, 3, 2, 1, 0] [(36, .lit (.bool (decide (v13.At ≤ v14.At)))), (35, .lit (.bool (decide (v13.At ≤ v14.At)))), (34, .lit (.bool (decide (v13.At ≤ v14.At)))), (33, .lit (.int .i64 v13.At)), (32, .mpt 1 0 0), (31, .lit (.int .i64 v14.At)), (30, .ipt 3 (List.map rApiMap v1.Maps) (Int.toNat (IntKind.i64.wrap (v12 - 1))) 0), (29, .ipt 3 (List.map rApiMap v1.Maps) (Int.toNat (IntKind.i64.wrap (v12 - 1))) 0), (28, .lit (.int .i64 (IntKind.i64.wrap (v12 - 1)))), (27, .lit (.int .i64 v12)), (26, .isl 3 (List.map rApiMap v1.Maps)), (25, .mpt 0 0 8), (24, .lit (.bool (decide (0 < v12)))), (23, .lit (.bool (decide (0 < v12)))), (22, .lit (.int .i64 v12)), (21, .lit (.bool (!(class_between v13.At 0 (IntKind.i64.wrap ((List.length v1.Code : Int) - 1)))))), (20, .lit (.bool (!(class_between v13.At 0 (IntKind.i64.wrap ((List.length v1.Code : Int) - 1)))))), (19, .lit (.bool (class_between v13.At 0 (IntKind.i64.wrap ((List.length v1.Code : Int) - 1))))), (18, .lit (.int .i64 (IntKind.i64.wrap ((List.length v1.Code : Int) - 1)))), (17, .lit (.int .i64 (List.length v1.Code : Int))), (16, .isl 4 (List.map rApiIns v1.Code)), (15, .mpt 0 0 7), (14, .lit (.int .i64 v13.At)), (13, .mpt 1 0 0)] 0 (by kernel_rfl) (by kernel_rfl) rfl (by kernel_rfl) (dt0 ⟨(fun _ => pa rfl rfl rfl rfl (pkb rfl hb20 rfl <| ⟨rfl, rfl⟩)), (fun _ => pag (b := (!(class_between v13.At 0 (IntKind.i64.wrap ((List.length v1.Code : Int) - 1))))) rfl rfl rfl rfl hb20 rfl (pkb rfl hb21 rfl <| ⟨rfl, rfl⟩)), (fun _ => pag (b := (decide (0 < v12))) rfl rfl rfl rfl hb21 rfl (geq ti3 rfl rfl <| ⟨rfl, rfl⟩)), (fun _ => pag (b := (decide (0 < v12))) rfl rfl rfl rfl hb21 rfl (ld ti3 rfl rfl <| ⟨rfl, rfl⟩)), (fun _ => pag (b := (decide (0 < v12))) rfl rfl rfl rfl hb21 rfl (fa ti39 rfl rfl rfl <| ⟨rfl, rfl⟩)), (fun _ => pag (b := (decide (0 < v12))) rfl rfl rfl rfl hb21 rfl (ldI ti3 rfl (idx_some q22).2.2 rfl <| ⟨rfl, rfl⟩)), (fun _ => pag (b := (decide (0 < v12))) rfl rfl rfl rfl hb21 rfl (fa ti39 rfl rfl rfl <| ⟨rfl, rfl⟩)), (fun _ => pag (b := (decide (0 < v12))) rfl rfl rfl rfl hb21 rfl (ixI ti32 rfl ti39 rfl rfl rfl q22 <| ⟨rfl, rfl⟩)), (fun _ => pag (b := (decide (0 < v12))) rfl rfl rfl rfl hb21 rfl (sub ti3 rfl rfl <| ⟨rfl, rfl⟩)), (fun _ => pag (b := (decide (0 < v12))) rfl rfl rfl rfl hb21 rfl (mv rfl <| ⟨rfl, rfl⟩)), (fun _ => pag (b := (decide (0 < v12))) rfl rfl rfl rfl hb21 rfl (ld ti32 rfl rfl <| ⟨rfl, rfl⟩)), (fun _ => pag (b := (decide (0 < v12))) rfl rfl rfl rfl hb21 rfl (fa ti35 rfl rfl rfl <| ⟨rfl, rfl⟩)), (fun _ => pag (b := (!(class_between v13.At 0 (IntKind.i64.wrap ((List.length v1.Code : Int) - 1))))) rfl rfl rfl rfl hb20 rfl (mv rfl <| ⟨rfl, rfl⟩)), (fun _ => pag (b := (!(class_between v13.At 0 (IntKind.i64.wrap ((List.length v1.Code : Int) - 1))))) rfl rfl rfl rfl hb20 rfl (gtr ti3 rfl rfl <| ⟨rfl, rfl⟩)), (fun _ => pag (b := (!(class_between v13.At 0 (IntKind.i64.wrap ((List.length v1.Code : Int) - 1))))) rfl rfl rfl rfl hb20 rfl (mv rfl <| ⟨rfl, rfl⟩)), (fun _ => pa rfl rfl rfl rfl (mv rfl <| ⟨rfl, rfl⟩)), (fun _ => pa rfl rfl rfl rfl (nt rfl <| ⟨rfl, rfl⟩)), (fun _ => pa rfl rfl rfl rfl (pc (class_between_ok v13.At 0 (IntKind.i64.wrap ((List.length v1.Code : Int) - 1)) rfl) rfl rfl rfl <| ⟨rfl, rfl⟩)), (fun _ => pa rfl rfl rfl rfl (sub ti3 rfl rfl <| ⟨rfl, rfl⟩)), (fun _ => pa rfl rfl rfl rfl (lnI ti31 rfl rfl <| ⟨rfl, rfl⟩)), (fun _ => pa rfl rfl rfl rfl (ld ti31 rfl rfl <| ⟨rfl, rfl⟩)), (fun _ => pa rfl rfl rfl rfl (fa ti35 rfl rfl rfl <| ⟨rfl, rfl⟩)), (fun _ => pa rfl rfl rfl rfl (ld ti3 rfl rfl <| ⟨rfl, rfl⟩)), (fun _ => pa rfl rfl rfl rfl (fa ti39 rfl rfl rfl <| ⟨rfl, rfl⟩)), trivial⟩ (by kernel_rfl) rfl ⟨(decide (v13.At ≤ v14.At)), h, [.old 0, .old 1], cv rfl (.mpt rfl) <| cv rfl (.mpt rfl) <| ce rfl rfl <| ce rfl rfl <| ce rfl rfl <| ce rfl rfl <| cn, rfl, ⟨⟨_, rfl, rsOne ⟨ci rfl, ci rfl, ci rfl, ci rfl, ci rfl, ci rfl, ci rfl, ci rfl, ci rfl, ci rfl, trivial⟩⟩, ⟨_, rfl, rsOne ⟨ci rfl, ci rfl, ci rfl, trivial⟩⟩, trivial⟩, rfl, Nat.le_of_ble_eq_true rfl⟩)
          · replace h := bF hb21 h
            exact sw_region_dt [] [23, 22, 21, 20, 19, 18, 17, 16, 15, 14, 13, 12, 11, 10, 9, 8, 7, 6, 5, 4, 3, 2, 1, 0] [(36, .lit (.bool false)), (35, .lit (.bool false)), (34, .lit undef), (33, .lit undef), (32, .lit undef), (31, .lit undef), (30, .lit undef), (29, .lit undef), (28, .lit undef), (27, .lit undef), (26, .lit undef), (25, .lit undef), (24, .lit (.bool (decide (0 < v12)))), (23, .lit (.bool (decide (0 < v12)))), (22, .lit (.int .i64 v12)), (21, .lit (.bool (!(class_between v13.At 0 (IntKind.i64.wrap ((List.length v1.Code : Int) - 1)))))), (20, .lit (.bool (!(class_between v13.At 0 (IntKind.i64.wrap ((List.length v1.Code : Int) - 1)))))), (19, .lit (.bool (class_between v13.At 0 (IntKind.i64.wrap ((List.length v1.Code : Int) - 1))))), (18, .lit (.int .i64 (IntKind.i64.wrap ((List.length v1.Code : Int) - 1)))), (17, .lit (.int .i64 (List.length v1.Code : Int))), (16, .isl 4 (List.map rApiIns v1.Code)), (15, .mpt 0 0 7), (14, .lit (.int .i64 v13.At)), (13, .mpt 1 0 0)] 0 (by kernel_rfl) (by kernel_rfl) rfl (by kernel_rfl) (dt0 ⟨(fun _ => pa rfl rfl rfl rfl (pkb rfl hb20 rfl <| ⟨rfl, rfl⟩)), (fun _ => pag (b := (!(class_between v13.At 0 (IntKind.i64.wrap ((List.length v1.Code : Int) - 1))))) rfl rfl rfl rfl hb20 rfl (pkb rfl hb21 rfl <| ⟨rfl, rfl⟩)), (fun _ => pas (b := (decide (0 < v12))) rfl rfl rfl rfl hb21 rfl), (fun _ => pas (b := (decide (0 < v12))) rfl rfl rfl rfl hb21 rfl), (fun _ => pas (b := (decide (0 < v12))) rfl rfl rfl rfl hb21 rfl), (fun _ => pas (b := (decide (0 < v12))) rfl rfl rfl rfl hb21 rfl), (fun _ => pas (b := (decide (0 < v12))) rfl rfl rfl rfl hb21 rfl), (fun _ => pas (b := (decide (0 < v12))) rfl rfl rfl rfl hb21 rfl), (fun _ => pas (b := (decide (0 < v12))) rfl rfl rfl rfl hb21 rfl), (fun _ => pas (b := (decide (0 < v12))) rfl rfl rfl rfl hb21 rfl), (fun _ => pas (b := (decide (0 < v12))) rfl rfl rfl rfl hb21 rfl), (fun _ => pas (b := (decide (0 < v12))) rfl rfl rfl rfl hb21 rfl), (fun _ => pag (b := (!(class_between v13.At 0 (IntKind.i64.wrap ((List.length v1.Code : Int) - 1))))) rfl rfl rfl rfl hb20 rfl (mv rfl <| ⟨rfl, rfl⟩)), (fun _ => pag (b := (!(class_between v13.At 0 (IntKind.i64.wrap ((List.length v1.Code : Int) - 1))))) rfl rfl rfl rfl hb20 rfl (gtr ti3 rfl rfl <| ⟨rfl, rfl⟩)), (fun _ => pag (b := (!(class_between v13.At 0 (IntKind.i64.wrap ((List.length v1.Code : Int) - 1))))) rfl rfl rfl rfl hb20 rfl (mv rfl <| ⟨rfl, rfl⟩)), (fun _ => pa rfl rfl rfl rfl (mv rfl <| ⟨rfl, rfl⟩)), (fun _ => pa rfl rfl rfl rfl (nt rfl <| ⟨rfl, rfl⟩)), (fun _ => pa rfl rfl rfl rfl (pc (class_between_ok v13.At 0 (IntKind.i64.wrap ((List.length v1.Code : Int) - 1)) rfl) rfl rfl rfl <| ⟨rfl, rfl⟩)), (fun _ => pa rfl rfl rfl rfl (sub ti3 rfl rfl <| ⟨rfl, rfl⟩)), (fun _ => pa rfl rfl rfl rfl (lnI ti31 rfl rfl <| ⟨rfl, rfl⟩)), (fun _ => pa rfl rfl rfl rfl (ld ti31 rfl rfl <| ⟨rfl, rfl⟩)), (fun _ => pa rfl rfl rfl rfl (fa ti35 rfl rfl rfl <| ⟨rfl, rfl⟩)), (fun _ => pa rfl rfl rfl rfl (ld ti3 rfl rfl <| ⟨rfl, rfl⟩)), (fun _ => pa rfl rfl rfl rfl (fa ti39 rfl rfl rfl <| ⟨rfl, rfl⟩)), trivial⟩ (by kernel_rfl) rfl ⟨false, h, [.old 0, .old 1], cv rfl (.mpt rfl) <| cv rfl (.mpt rfl) <| ce rfl rfl <| ce rfl rfl <| ce rfl rfl <| ce rfl rfl <| cn, rfl, ⟨⟨_, rfl, rsOne ⟨ci rfl, ci rfl, ci rfl, ci rfl, ci rfl, ci rfl, ci rfl, ci rfl, ci rfl, ci rfl, trivial⟩⟩, ⟨_, rfl, rsOne ⟨ci rfl, ci rfl, ci rfl, trivial⟩⟩, trivial⟩, rfl, Nat.le_of_ble_eq_true rfl⟩)
      · rintro v15 h
        replace h : class_maps_j2 v1 v12 v13 v15 = some r := h
        unfold class_maps_j2 at h
        refine sw_cond rfl (fun hc23 => ?_) (fun hc23 => ?_)
        · replace h := bT hc23 h
          refine rg rfl <| u <| asg rfl <| r_nil ?_
          refine sw_ret ?_
          obtain rfl := sm h
          exact ⟨_, rfl, _, rfl, [], ci rfl, rfl, trivial, rfl, Nat.le_of_ble_eq_true rfl⟩
        · replace h := bF hc23 h
          refine sw_skip ?_
          obtain ⟨v17, q27, h⟩ := bs h
          obtain ⟨v19, q30, h⟩ := bs h
          obtain ⟨v21, q33, h⟩ := bs h
          refine rg rfl <| u <| fa ti39 rfl rfl rfl <| u <| ld ti24 rfl rfl <| u <| lnI ti24 rfl rfl <| u <| fa ti35 rfl rfl rfl <| u <| ld ti3 rfl rfl <| u <| neq ti3 rfl rfl <| u <| mv rfl <| r_or (x := ((!((List.length v13.Locals : Int) == v1.Locals)) || (decide (v1.Stack < (List.length v13.Stack : Int))))) (j := 6) 6 rfl rfl rfl rfl rfl gpn (fun hb24 => g rfl hb24 <| fa ti39 rfl rfl rfl <| g rfl hb24 <| ld ti24 rfl rfl <| g rfl hb24 <| lnI ti24 rfl rfl <| g rfl hb24 <| fa ti35 rfl rfl rfl <| g rfl hb24 <| ld ti3 rfl rfl <| g rfl hb24 <| gtr ti3 rfl rfl <| r_nil (egO [44, 45, 46, 47, 48, 49] 6 hb24 rfl rfl rfl rfl)) orT <| u <| mv rfl <| r_or (x := v17) (j := 14) 4 rfl rfl rfl rfl rfl gpn (fun hb25 => by replace q27 := bF hb25 q27; obtain ⟨v16, q26, q27⟩ := bs q27; obtain rfl := sm q27; exact g rfl hb25 <| fa ti39 rfl rfl rfl <| g rfl hb25 <| ld ti24 rfl rfl <| g rfl hb25 <| pc (class_types_s2_ok v13.Locals q26) rfl rfl rfl <| g rfl hb25 <| nt rfl <| r_nil (eg [52, 53, 54, 55] 4 rfl rfl rfl rfl)) (fun hb => (sm (bT hb q27)).symm) <| u <| mv rfl <| r_or (x := v19) (j := 20) 4 rfl rfl rfl rfl rfl gpn (fun hb28 => by replace q30 := bF hb28 q30; obtain ⟨v18, q29, q30⟩ := bs q30; obtain rfl := sm q30; exact g rfl hb28 <| fa ti39 rfl rfl rfl <| g rfl hb28 <| ld ti24 rfl rfl <| g rfl hb28 <| pc (class_types_s2_ok v13.Stack q29) rfl rfl rfl <| g rfl hb28 <| nt rfl <| r_nil (eg [58, 59, 60, 61] 4 rfl rfl rfl rfl)) (fun hb => (sm (bT hb q30)).symm) <| u <| mv rfl <| r_or (x := v21) (j := 26) 3 rfl rfl rfl rfl rfl gpn (fun hb31 => by replace q33 := bF hb31 q33; obtain ⟨v20, q32, q33⟩ := bs q33; obtain rfl := sm q33; exact g rfl hb31 <| fa ti39 rfl rfl rfl <| g rfl hb31 <| ld ti24 rfl rfl <| g rfl hb31 <| pc (slices_Contains_string_string_ok v13.Stack [84] q32) rfl rfl rfl <| r_nil (eg [64, 65, 66] 3 rfl rfl rfl rfl)) (fun hb => (sm (bT hb q33)).symm) <| r_nil ?_
          refine sw_cond rfl (fun hc34 => ?_) (fun hc34 => ?_)
          · replace h := bT hc34 h
            refine rg rfl <| u <| asg rfl <| r_nil ?_
            refine sw_ret ?_
            obtain rfl := sm h
            exact ⟨_, rfl, _, rfl, [], ci rfl, rfl, trivial, rfl, Nat.le_of_ble_eq_true rfl⟩
          · replace h := bF hc34 h
            refine sw_skip ?_
            refine rl rfl <| u <| add ti3 rfl rfl <| u <| mv rfl <| r_nil ?_
            obtain rfl := sm h
            exact ⟨_, rfl, [.old 0], cv rfl (.mpt rfl) <| ce rfl rfl <| ce rfl rfl <| ce rfl rfl <| cn, rfl, ⟨⟨_, rfl, rsOne ⟨ci rfl, ci rfl, ci rfl, ci rfl, ci rfl, ci rfl, ci rfl, ci rfl, ci rfl, ci rfl, trivial⟩⟩, trivial⟩, rfl, Nat.le_of_ble_eq_true rfl⟩
    · replace h := bF hc18 h
      refine sw_exit ?_
      obtain rfl := sm h
      exact ⟨rfl, _, rfl, [.old 0], cv rfl (.mpt rfl) <| cn, rfl, ⟨⟨_, rfl, rsOne ⟨ci rfl, ci rfl, ci rfl, ci rfl, ci rfl, ci rfl, ci rfl, ci rfl, ci rfl, ci rfl, trivial⟩⟩, trivial⟩, rfl, Nat.le_of_ble_eq_true rfl⟩
  · rintro ⟨⟩ rfl
    replace h : class_maps_k4 v1 = some r := h
    unfold class_maps_k4 at h
    refine ow_intro ?_
    refine rg rfl <| u <| fa ti35 rfl rfl rfl <| u <| ld ti32 rfl rfl <| u <| lnI ti32 rfl rfl <| u <| leq ti3 rfl rfl <| u <| asg rfl <| r_nil ?_
    refine sw_ret ?_
    obtain rfl := sm h
    exact ⟨_, rfl, [], ci rfl, rfl, trivial, rfl, Nat.le_of_ble_eq_true rfl⟩
  · rintro r' rfl env st hp
    obtain rfl := sm h
    exact hp

noncomputable def class_traps_1 (v1 : ApiTrap) (v2 : List UInt8) (v3 : List (List UInt8)) (v4 : List UInt8) (v5 : Bool) (v6 : Bool) (v7 : Int) (v8 : Int) (v9 : List ApiIns) (v10 : List ApiMap) (v11 : List ApiTrap) : Option (Bool) :=
  (cond ((((decide (v1.From < 0)) || (decide (v1.To ≤ v1.From))) || (decide ((List.length v9 : Int) < v1.To))) || (!(class_between v1.At 0 (IntKind.i64.wrap ((List.length v9 : Int) - 1))))) (some true) ((cond (!(v1.C == [])) ((kind_Class v1.C).bind fun v12 => some (!v12)) (some false)).bind fun v13 => some v13)).bind fun v14 => some v14
theorem class_traps_1_ok (v1 : ApiTrap) (v2 : List UInt8) (v3 : List (List UInt8)) (v4 : List UInt8) (v5 : Bool) (v6 : Bool) (v7 : Int) (v8 : Int) (v9 : List ApiIns) (v10 : List ApiMap) (v11 : List ApiTrap) {r : Bool} (h : class_traps_1 v1 v2 v3 v4 v5 v6 v7 v8 v9 v10 v11 = some r) : PureC Tryz.prog 145 [.agg [.lit (.int .i64 v1.From), .lit (.int .i64 v1.To), .lit (.int .i64 v1.At), .lit (.string (B v1.C))], .ipt 10 [[.lit (.string (B v2)), .isl 1 (List.map rStr v3), .lit (.string (B v4)), .lit (.bool v5), .lit (.bool v6), .lit (.int .i64 v7), .lit (.int .i64 v8), .isl 4 (List.map rApiIns v9), .isl 3 (List.map rApiMap v10), .isl 4 (List.map rApiTrap v11)]] 0 0] (.lit (.bool r)) := by
  refine pure_fn Tryz.func145 rfl (by kernel_rfl) rfl rfl ?_
  unfold class_traps_1 at h
  refine rg rfl <| u <| bx 0 4 rfl rfl rfl rfl <| u <| asg rfl <| r_nil ?_
  obtain ⟨v14, q8, h⟩ := bs h
  refine rg rfl <| u <| fa ti112 rfl rfl rfl <| u <| ld ti3 rfl rfl <| u <| lss ti3 rfl rfl <| u <| mv rfl <| r_or (x := ((decide (v1.From < 0)) || (decide (v1.To ≤ v1.From)))) (j := 3) 5 rfl rfl rfl rfl rfl gpn (fun hb1 => g rfl hb1 <| fa ti112 rfl rfl rfl <| g rfl hb1 <| ld ti3 rfl rfl <| g rfl hb1 <| fa ti112 rfl rfl rfl <| g rfl hb1 <| ld ti3 rfl rfl <| g rfl hb1 <| geq ti3 rfl rfl <| r_nil (egO [8, 9, 10, 11, 12] 5 hb1 rfl rfl rfl rfl)) orT <| u <| mv rfl <| r_or (x := (((decide (v1.From < 0)) || (decide (v1.To ≤ v1.From))) || (decide ((List.length v9 : Int) < v1.To)))) (j := 10) 6 rfl rfl rfl rfl rfl gpn (fun hb2 => g rfl hb2 <| fa ti112 rfl rfl rfl <| g rfl hb2 <| ld ti3 rfl rfl <| g rfl hb2 <| fa ti35 rfl rfl rfl <| g rfl hb2 <| ld ti31 rfl rfl <| g rfl hb2 <| lnI ti31 rfl rfl <| g rfl hb2 <| gtr ti3 rfl rfl <| r_nil (egO [15, 16, 17, 18, 19, 20] 6 hb2 rfl rfl rfl rfl)) orT <| u <| mv rfl <| r_or (x := ((((decide (v1.From < 0)) || (decide (v1.To ≤ v1.From))) || (decide ((List.length v9 : Int) < v1.To))) || (!(class_between v1.At 0 (IntKind.i64.wrap ((List.length v9 : Int) - 1)))))) (j := 18) 8 rfl rfl rfl rfl rfl gpn (fun hb3 => g rfl hb3 <| fa ti112 rfl rfl rfl <| g rfl hb3 <| ld ti3 rfl rfl <| g rfl hb3 <| fa ti35 rfl rfl rfl <| g rfl hb3 <| ld ti31 rfl rfl <| g rfl hb3 <| lnI ti31 rfl rfl <| g rfl hb3 <| sub ti3 rfl rfl <| g rfl hb3 <| pc (class_between_ok v1.At 0 (IntKind.i64.wrap ((List.length v9 : Int) - 1)) rfl) rfl rfl rfl <| g rfl hb3 <| nt rfl <| r_nil (egO [23, 24, 25, 26, 27, 28, 29, 30] 8 hb3 rfl rfl rfl rfl)) orT <| u <| mv rfl <| r_or (x := v14) (j := 28) 9 rfl rfl rfl rfl rfl gpn (fun hb4 => by replace q8 := bF hb4 q8; obtain ⟨v13, q7, q8⟩ := bs q8; obtain rfl := sm q8; exact g rfl hb4 <| fa ti112 rfl rfl rfl <| g rfl hb4 <| ld ti9 rfl rfl <| g rfl hb4 <| sne ti9 rfl rfl <| g rfl hb4 <| mv rfl <| r_and (x := v13) (j := 32) 4 rfl rfl rfl rfl rfl (gps rfl rfl hb4) (fun hb5 => by replace q7 := bT hb5 q7; obtain ⟨v12, q6, q7⟩ := bs q7; obtain rfl := sm q7; exact g rfl hb5 <| fa ti112 rfl rfl rfl <| g rfl hb5 <| ld ti9 rfl rfl <| g rfl hb5 <| pc (kind_Class_ok v1.C q6) rfl rfl rfl <| g rfl hb5 <| nt rfl <| r_nil (eg [37, 38, 39, 40] 4 rfl rfl rfl rfl)) (fun hb => (sm (bF hb q7)).symm) <| r_nil (eg [33, 34, 35, 36, 37, 38, 39, 40, 41] 5 rfl rfl rfl rfl)) (fun hb => (sm (bT hb q8)).symm) <| u <| asg rfl <| r_nil ?_
  refine sw_ret ?_
  obtain rfl := sm h
  exact ⟨_, rfl, [], ci rfl, rfl, trivial, rfl, Nat.le_of_ble_eq_true rfl⟩

noncomputable def slices_IndexFunc_api_Trap_api_Trap_k2 : Option (Int) :=
  some (-1)
noncomputable def slices_IndexFunc_api_Trap_api_Trap_l1 (v1 : List ApiTrap) (v2 : List UInt8) (v3 : List (List UInt8)) (v4 : List UInt8) (v5 : Bool) (v6 : Bool) (v7 : Int) (v8 : Int) (v9 : List ApiIns) (v10 : List ApiMap) (v11 : List ApiTrap) (v15 : Int) : Option (Sum (Int) (Sum (Unit) (Int))) :=
  cond (decide (v15 < (List.length v1 : Int))) ((idx v1 v15).bind fun v16 => (class_traps_1 v16 v2 v3 v4 v5 v6 v7 v8 v9 v10 v11).bind fun v17 => cond v17 (some (.inr (.inr v15))) (some (.inl (IntKind.i64.wrap (v15 + 1))))) (some (.inr (.inl ())))
noncomputable def slices_IndexFunc_api_Trap_api_Trap (v1 : List ApiTrap) (v2 : List UInt8) (v3 : List (List UInt8)) (v4 : List UInt8) (v5 : Bool) (v6 : Bool) (v7 : Int) (v8 : Int) (v9 : List ApiIns) (v10 : List ApiMap) (v11 : List ApiTrap) : Option (Int) :=
  (loopP (fun z => slices_IndexFunc_api_Trap_api_Trap_l1 v1 v2 v3 v4 v5 v6 v7 v8 v9 v10 v11 z) 0).bind fun o => leave o (fun b => slices_IndexFunc_api_Trap_api_Trap_k2) some
theorem slices_IndexFunc_api_Trap_api_Trap_ok (v1 : List ApiTrap) (v2 : List UInt8) (v3 : List (List UInt8)) (v4 : List UInt8) (v5 : Bool) (v6 : Bool) (v7 : Int) (v8 : Int) (v9 : List ApiIns) (v10 : List ApiMap) (v11 : List ApiTrap) {r : Int} (h : slices_IndexFunc_api_Trap_api_Trap v1 v2 v3 v4 v5 v6 v7 v8 v9 v10 v11 = some r) : PureC Tryz.prog 167 [.isl 4 (List.map rApiTrap v1), .fn (.func 145) [] [.ipt 10 [[.lit (.string (B v2)), .isl 1 (List.map rStr v3), .lit (.string (B v4)), .lit (.bool v5), .lit (.bool v6), .lit (.int .i64 v7), .lit (.int .i64 v8), .isl 4 (List.map rApiIns v9), .isl 3 (List.map rApiMap v10), .isl 4 (List.map rApiTrap v11)]] 0 0]] (.lit (.int .i64 r)) := by
  refine pure_fn Tryz.func167 rfl (by kernel_rfl) rfl rfl ?_
  unfold slices_IndexFunc_api_Trap_api_Trap at h
  refine rg rfl <| u <| asg rfl <| r_nil ?_
  refine sw_seq ?_
  refine rg rfl <| u <| mv rfl <| u <| lnI ti33 rfl rfl <| u <| mv rfl <| r_nil ?_
  obtain ⟨o, ho, h⟩ := bs h
  refine sw_lpl (X := Int) (B := Unit) (R := Int) (fun z => [(0, .isl 4 (List.map rApiTrap v1)), (1, .fn (.func 145) [] [.ipt 10 [[.lit (.string (B v2)), .isl 1 (List.map rStr v3), .lit (.string (B v4)), .lit (.bool v5), .lit (.bool v6), .lit (.int .i64 v7), .lit (.int .i64 v8), .isl 4 (List.map rApiIns v9), .isl 3 (List.map rApiMap v10), .isl 4 (List.map rApiTrap v11)]] 0 0]), (7, .lit (.int .i64 (List.length v1 : Int))), (8, .lit (.int .i64 z))]) (fun z => []) (fun b => []) (fun b => []) (fun r env st => PostF Tryz.prog Tryz.f167 0 (.lit (.int .i64 r)) [] env st) ho ⟨[], ce rfl rfl <| ce rfl rfl <| ce rfl rfl <| ce rfl rfl <| cn, rfl, trivial, rfl, Nat.le_of_ble_eq_true rfl⟩ ?_ ?_ ?_
  · rintro v15 r h
    replace h : slices_IndexFunc_api_Trap_api_Trap_l1 v1 v2 v3 v4 v5 v6 v7 v8 v9 v10 v11 v15 = some r := h
    unfold slices_IndexFunc_api_Trap_api_Trap_l1 at h
    refine rg rfl <| u <| lss ti3 rfl rfl <| r_nil ?_
    refine sw_seq ?_
    refine sw_cond rfl (fun hc5 => ?_) (fun hc5 => ?_)
    · replace h := bT hc5 h
      refine sw_skip ?_
      refine sw_seq ?_
      refine sw_block ?_
      refine rg rfl <| u <| mv rfl <| u <| asg rfl <| r_nil ?_
      obtain ⟨v16, q6, h⟩ := bs h
      obtain ⟨v17, q7, h⟩ := bs h
      refine rg rfl <| u <| mv rfl <| u <| mv rfl <| u <| mv rfl <| u <| ixI ti33 rfl ti112 rfl rfl rfl q6 <| u <| ldI ti112 rfl (idx_some q6).2.2 rfl <| u <| pc (class_traps_1_ok v16 v2 v3 v4 v5 v6 v7 v8 v9 v10 v11 q7) rfl rfl rfl <| r_nil ?_
      refine sw_cond rfl (fun hc8 => ?_) (fun hc8 => ?_)
      · replace h := bT hc8 h
        refine rg rfl <| u <| mv rfl <| u <| asg rfl <| r_nil ?_
        refine sw_ret ?_
        obtain rfl := sm h
        exact ⟨_, rfl, _, rfl, [], ci rfl, rfl, trivial, rfl, Nat.le_of_ble_eq_true rfl⟩
      · replace h := bF hc8 h
        refine sw_skip ?_
        refine rl rfl <| u <| add ti3 rfl rfl <| u <| mv rfl <| r_nil ?_
        obtain rfl := sm h
        exact ⟨_, rfl, [], ce rfl rfl <| ce rfl rfl <| ce rfl rfl <| ce rfl rfl <| cn, rfl, trivial, rfl, Nat.le_of_ble_eq_true rfl⟩
    · replace h := bF hc5 h
      refine sw_exit ?_
      obtain rfl := sm h
      exact ⟨rfl, _, rfl, [], cn, rfl, trivial, rfl, Nat.le_of_ble_eq_true rfl⟩
  · rintro ⟨⟩ rfl
    replace h : slices_IndexFunc_api_Trap_api_Trap_k2 = some r := h
    unfold slices_IndexFunc_api_Trap_api_Trap_k2 at h
    refine ow_intro ?_
    refine rg rfl <| u <| asg rfl <| r_nil ?_
    refine sw_ret ?_
    obtain rfl := sm h
    exact ⟨_, rfl, [], ci rfl, rfl, trivial, rfl, Nat.le_of_ble_eq_true rfl⟩
  · rintro r' rfl env st hp
    obtain rfl := sm h
    exact hp

noncomputable def slices_ContainsFunc_api_Trap_api_Trap (v1 : List ApiTrap) (v2 : List UInt8) (v3 : List (List UInt8)) (v4 : List UInt8) (v5 : Bool) (v6 : Bool) (v7 : Int) (v8 : Int) (v9 : List ApiIns) (v10 : List ApiMap) (v11 : List ApiTrap) : Option (Bool) :=
  (slices_IndexFunc_api_Trap_api_Trap v1 v2 v3 v4 v5 v6 v7 v8 v9 v10 v11).bind fun v12 => some (decide (0 ≤ v12))
theorem slices_ContainsFunc_api_Trap_api_Trap_ok (v1 : List ApiTrap) (v2 : List UInt8) (v3 : List (List UInt8)) (v4 : List UInt8) (v5 : Bool) (v6 : Bool) (v7 : Int) (v8 : Int) (v9 : List ApiIns) (v10 : List ApiMap) (v11 : List ApiTrap) {r : Bool} (h : slices_ContainsFunc_api_Trap_api_Trap v1 v2 v3 v4 v5 v6 v7 v8 v9 v10 v11 = some r) : PureC Tryz.prog 144 [.isl 4 (List.map rApiTrap v1), .fn (.func 145) [] [.ipt 10 [[.lit (.string (B v2)), .isl 1 (List.map rStr v3), .lit (.string (B v4)), .lit (.bool v5), .lit (.bool v6), .lit (.int .i64 v7), .lit (.int .i64 v8), .isl 4 (List.map rApiIns v9), .isl 3 (List.map rApiMap v10), .isl 4 (List.map rApiTrap v11)]] 0 0]] (.lit (.bool r)) := by
  refine pure_fn Tryz.func144 rfl (by kernel_rfl) rfl rfl ?_
  unfold slices_ContainsFunc_api_Trap_api_Trap at h
  refine rg rfl <| u <| asg rfl <| r_nil ?_
  obtain ⟨v12, q1, h⟩ := bs h
  refine rg rfl <| u <| mv rfl <| u <| mv rfl <| u <| pc (slices_IndexFunc_api_Trap_api_Trap_ok v1 v2 v3 v4 v5 v6 v7 v8 v9 v10 v11 q1) rfl rfl rfl <| u <| geq ti3 rfl rfl <| u <| asg rfl <| r_nil ?_
  refine sw_ret ?_
  obtain rfl := sm h
  exact ⟨_, rfl, [], ci rfl, rfl, trivial, rfl, Nat.le_of_ble_eq_true rfl⟩

noncomputable def class_traps (v1 : ApiMethod) : Option (Bool) :=
  (slices_ContainsFunc_api_Trap_api_Trap v1.Traps v1.Name v1.Params v1.Ret v1.Static v1.Abstract v1.Locals v1.Stack v1.Code v1.Maps v1.Traps).bind fun v2 => some ((!v2) && (decide ((List.length v1.Traps : Int) ≤ 6)))
theorem class_traps_ok (v1 : ApiMethod) {r : Bool} (h : class_traps v1 = some r) : PureC Tryz.prog 97 [.agg [.lit (.string (B v1.Name)), .isl 1 (List.map rStr v1.Params), .lit (.string (B v1.Ret)), .lit (.bool v1.Static), .lit (.bool v1.Abstract), .lit (.int .i64 v1.Locals), .lit (.int .i64 v1.Stack), .isl 4 (List.map rApiIns v1.Code), .isl 3 (List.map rApiMap v1.Maps), .isl 4 (List.map rApiTrap v1.Traps)]] (.lit (.bool r)) := by
  refine pure_fn Tryz.func97 rfl (by kernel_rfl) rfl rfl ?_
  unfold class_traps at h
  refine rg rfl <| u <| bx 0 10 rfl rfl rfl rfl <| u <| asg rfl <| r_nil ?_
  obtain ⟨v2, q1, h⟩ := bs h
  refine rg rfl <| u <| fa ti35 rfl rfl rfl <| u <| ld ti33 rfl rfl <| u <| mf rfl rfl <| u <| pcs (slices_ContainsFunc_api_Trap_api_Trap_ok v1.Traps v1.Name v1.Params v1.Ret v1.Static v1.Abstract v1.Locals v1.Stack v1.Code v1.Maps v1.Traps q1) rfl rfl (.cons (si rfl) (.cons (sealFn trivial ⟨(sealBox rfl ⟨(si rfl), (si rfl), (si rfl), (si rfl), (si rfl), (si rfl), (si rfl), (si rfl), (si rfl), (si rfl), trivial⟩), trivial⟩) .nil)) plainB <| u <| asg rfl <| r_nil ?_
  refine rg rfl <| u <| mv rfl <| u <| nt rfl <| u <| mv rfl <| r_and (x := ((!v2) && (decide ((List.length v1.Traps : Int) ≤ 6)))) (j := 2) 4 rfl rfl rfl rfl rfl gpn (fun hb2 => g rfl hb2 <| fa ti35 rfl rfl rfl <| g rfl hb2 <| ld ti33 rfl rfl <| g rfl hb2 <| lnI ti33 rfl rfl <| g rfl hb2 <| leq ti3 rfl rfl <| r_nil (egA [11, 12, 13, 14] 4 hb2 rfl rfl rfl rfl)) andF <| u <| asg rfl <| r_nil ?_
  refine sw_ret ?_
  obtain rfl := sm h
  exact ⟨_, rfl, [], ci rfl, rfl, trivial, rfl, Nat.le_of_ble_eq_true rfl⟩

noncomputable def class_method_j1 (v10 : Bool) : Option (Bool) :=
  some v10
noncomputable def class_method (v1 : ApiMethod) : Option (Bool) :=
  (kind_Name v1.Name).bind fun v2 => (cond ((!v2) || (decide (6 < (List.length v1.Params : Int)))) (some true) ((class_types v1.Params).bind fun v3 => some (!v3))).bind fun v4 => (cond v4 (some true) ((kind_Ret v1.Ret).bind fun v5 => some (!v5))).bind fun v6 => cond v6 (some false) (cond v1.Abstract (some (class_empty v1)) (cond ((v1.Name == [36, 105, 110, 105, 116]) && (((!v1.Static) || (decide (0 < (List.length v1.Params : Int)))) || (!(v1.Ret == [86])))) (some false) (cond (class_between v1.Locals (class_args v1) 16) (cond (class_between v1.Stack 0 16) ((class_instructions v1).bind fun v7 => cond v7 ((class_maps v1).bind fun v8 => cond v8 ((class_traps v1).bind fun v9 => class_method_j1 v9) (class_method_j1 false)) (class_method_j1 false)) (class_method_j1 false)) (class_method_j1 false))))
theorem class_method_ok (v1 : ApiMethod) {r : Bool} (h : class_method v1 = some r) : PureC Tryz.prog 32 [.agg [.lit (.string (B v1.Name)), .isl 1 (List.map rStr v1.Params), .lit (.string (B v1.Ret)), .lit (.bool v1.Static), .lit (.bool v1.Abstract), .lit (.int .i64 v1.Locals), .lit (.int .i64 v1.Stack), .isl 4 (List.map rApiIns v1.Code), .isl 3 (List.map rApiMap v1.Maps), .isl 4 (List.map rApiTrap v1.Traps)]] (.lit (.bool r)) := by
  refine pure_fn Tryz.func32 rfl (by kernel_rfl) rfl rfl ?_
  unfold class_method at h
  refine rg rfl <| u <| bx 0 10 rfl rfl rfl rfl <| u <| asg rfl <| r_nil ?_
  refine sw_seq ?_
  obtain ⟨v2, q1, h⟩ := bs h
  obtain ⟨v4, q5, h⟩ := bs h
  obtain ⟨v6, q8, h⟩ := bs h
  refine rg rfl <| u <| fa ti35 rfl rfl rfl <| u <| ld ti9 rfl rfl <| u <| pc (kind_Name_ok v1.Name q1) rfl rfl rfl <| u <| nt rfl <| u <| mv rfl <| r_or (x := ((!v2) || (decide (6 < (List.length v1.Params : Int))))) (j := 4) 4 rfl rfl rfl rfl rfl gpn (fun hb2 => g rfl hb2 <| fa ti35 rfl rfl rfl <| g rfl hb2 <| ld ti24 rfl rfl <| g rfl hb2 <| lnI ti24 rfl rfl <| g rfl hb2 <| gtr ti3 rfl rfl <| r_nil (egO [8, 9, 10, 11] 4 hb2 rfl rfl rfl rfl)) orT <| u <| mv rfl <| r_or (x := v4) (j := 10) 4 rfl rfl rfl rfl rfl gpn (fun hb3 => by replace q5 := bF hb3 q5; obtain ⟨v3, q4, q5⟩ := bs q5; obtain rfl := sm q5; exact g rfl hb3 <| fa ti35 rfl rfl rfl <| g rfl hb3 <| ld ti24 rfl rfl <| g rfl hb3 <| pc (class_types_ok v1.Params q4) rfl rfl rfl <| g rfl hb3 <| nt rfl <| r_nil (eg [14, 15, 16, 17] 4 rfl rfl rfl rfl)) (fun hb => (sm (bT hb q5)).symm) <| u <| mv rfl <| r_or (x := v6) (j := 16) 4 rfl rfl rfl rfl rfl gpn (fun hb6 => by replace q8 := bF hb6 q8; obtain ⟨v5, q7, q8⟩ := bs q8; obtain rfl := sm q8; exact g rfl hb6 <| fa ti35 rfl rfl rfl <| g rfl hb6 <| ld ti9 rfl rfl <| g rfl hb6 <| pc (kind_Ret_ok v1.Ret q7) rfl rfl rfl <| g rfl hb6 <| nt rfl <| r_nil (eg [20, 21, 22, 23] 4 rfl rfl rfl rfl)) (fun hb => (sm (bT hb q8)).symm) <| r_nil ?_
  refine sw_cond rfl (fun hc9 => ?_) (fun hc9 => ?_)
  · replace h := bT hc9 h
    refine rg rfl <| u <| asg rfl <| r_nil ?_
    refine sw_ret ?_
    obtain rfl := sm h
    exact ⟨_, rfl, [], ci rfl, rfl, trivial, rfl, Nat.le_of_ble_eq_true rfl⟩
  · replace h := bF hc9 h
    refine sw_skip ?_
    refine sw_seq ?_
    refine rg rfl <| u <| fa ti35 rfl rfl rfl <| u <| ld ti4 rfl rfl <| r_nil ?_
    refine sw_cond rfl (fun hc10 => ?_) (fun hc10 => ?_)
    · replace h := bT hc10 h
      refine rg rfl <| u <| ld ti35 rfl rfl <| u <| pc (class_empty_ok v1 rfl) rfl rfl rfl <| u <| asg rfl <| r_nil ?_
      refine sw_ret ?_
      obtain rfl := sm h
      exact ⟨_, rfl, [], ci rfl, rfl, trivial, rfl, Nat.le_of_ble_eq_true rfl⟩
    · replace h := bF hc10 h
      refine sw_skip ?_
      refine sw_seq ?_
      refine rg rfl <| u <| fa ti35 rfl rfl rfl <| u <| ld ti9 rfl rfl <| u <| seq ti9 rfl rfl <| u <| mv rfl <| r_and (x := ((v1.Name == [36, 105, 110, 105, 116]) && (((!v1.Static) || (decide (0 < (List.length v1.Params : Int)))) || (!(v1.Ret == [86]))))) (j := 3) 14 rfl rfl rfl rfl rfl gpn (fun hb11 => g rfl hb11 <| fa ti35 rfl rfl rfl <| g rfl hb11 <| ld ti4 rfl rfl <| g rfl hb11 <| nt rfl <| g rfl hb11 <| mv rfl <| r_or (x := ((!v1.Static) || (decide (0 < (List.length v1.Params : Int))))) (j := 7) 4 rfl rfl rfl rfl rfl (gps rfl rfl hb11) (fun hb12 => g rfl hb12 <| fa ti35 rfl rfl rfl <| g rfl hb12 <| ld ti24 rfl rfl <| g rfl hb12 <| lnI ti24 rfl rfl <| g rfl hb12 <| gtr ti3 rfl rfl <| r_nil (egO [37, 38, 39, 40] 4 hb12 rfl rfl rfl rfl)) orT <| g rfl hb11 <| mv rfl <| r_or (x := (((!v1.Static) || (decide (0 < (List.length v1.Params : Int)))) || (!(v1.Ret == [86])))) (j := 13) 3 rfl rfl rfl rfl rfl (gps rfl rfl hb11) (fun hb13 => g rfl hb13 <| fa ti35 rfl rfl rfl <| g rfl hb13 <| ld ti9 rfl rfl <| g rfl hb13 <| sne ti9 rfl rfl <| r_nil (egO [43, 44, 45] 3 hb13 rfl rfl rfl rfl)) orT <| r_nil (egA [33, 34, 35, 36, 37, 38, 39, 40, 41, 42, 43, 44, 45, 46] 7 hb11 rfl rfl rfl rfl)) andF <| r_nil ?_
      refine sw_cond rfl (fun hc14 => ?_) (fun hc14 => ?_)
      · replace h := bT hc14 h
        refine rg rfl <| u <| asg rfl <| r_nil ?_
        refine sw_ret ?_
        obtain rfl := sm h
        exact ⟨_, rfl, [], ci rfl, rfl, trivial, rfl, Nat.le_of_ble_eq_true rfl⟩
      · replace h := bF hc14 h
        refine sw_skip ?_
        refine sw_meet (X := Bool) (fun z => [(2, .lit (.bool z))]) (fun z => []) (fun z => class_method_j1 z = some r) ?_ ?_
        · rcases bb (class_between v1.Locals (class_args v1) 16) with hb15 | hb15
          · replace h := bT hb15 h
            rcases bb (class_between v1.Stack 0 16) with hb16 | hb16
            · replace h := bT hb16 h
              obtain ⟨v7, q17, h⟩ := bs h
              rcases bb v7 with hb18 | hb18
              · replace h := bT hb18 h
                obtain ⟨v8, q19, h⟩ := bs h
                rcases bb v8 with hb20 | hb20
                · replace h := bT hb20 h
                  obtain ⟨v9, q21, h⟩ := bs h
                  exact sw_region_dt [] [22, 21, 20, 19, 18, 17, 16, 15, 14, 13, 12, 11, 10, 9, 8, 7, 6, 5, 4, 3, 2, 1, 0] [(2, .lit (.bool v9)), (69, .lit (.bool v9)), (68, .lit (.bool v9)), (67, .agg [.lit (.string (B v1.Name)), .isl 1 (List.map rStr v1.Params), .lit (.string (B v1.Ret)), .lit (.bool v1.Static), .lit (.bool v1.Abstract), .lit (.int .i64 v1.Locals), .lit (.int .i64 v1.Stack), .isl 4 (List.map rApiIns v1.Code), .isl 3 (List.map rApiMap v1.Maps), .isl 4 (List.map rApiTrap v1.Traps)]), (66, .lit (.bool v8)), (65, .lit (.bool v8)), (64, .lit (.bool v8)), (63, .agg [.lit (.string (B v1.Name)), .isl 1 (List.map rStr v1.Params), .lit (.string (B v1.Ret)), .lit (.bool v1.Static), .lit (.bool v1.Abstract), .lit (.int .i64 v1.Locals), .lit (.int .i64 v1.Stack), .isl 4 (List.map rApiIns v1.Code), .isl 3 (List.map rApiMap v1.Maps), .isl 4 (List.map rApiTrap v1.Traps)]), (62, .lit (.bool v7)), (61, .lit (.bool v7)), (60, .lit (.bool v7)), (59, .agg [.lit (.string (B v1.Name)), .isl 1 (List.map rStr v1.Params), .lit (.string (B v1.Ret)), .lit (.bool v1.Static), .lit (.bool v1.Abstract), .lit (.int .i64 v1.Locals), .lit (.int .i64 v1.Stack), .isl 4 (List.map rApiIns v1.Code), .isl 3 (List.map rApiMap v1.Maps), .isl 4 (List.map rApiTrap v1.Traps)]), (58, .lit (.bool (class_between v1.Stack 0 16))), (57, .lit (.bool (class_between v1.Stack 0 16))), (56, .lit (.bool (class_between v1.Stack 0 16))), (55, .lit (.int .i64 v1.Stack)), (54, .mpt 0 0 6), (53, .lit (.bool (class_between v1.Locals (class_args v1) 16))), (52, .lit (.bool (class_between v1.Locals (class_args v1) 16))), (51, .lit (.int .i64 (class_args v1))), (50, .agg [.lit (.string (B v1.Name)), .isl 1 (List.map rStr v1.Params), .lit (.string (B v1.Ret)), .lit (.bool v1.Static), .lit (.bool v1.Abstract), .lit (.int .i64 v1.Locals), .lit (.int .i64 v1.Stack), .isl 4 (List.map rApiIns v1.Code), .isl 3 (List.map rApiMap v1.Maps), .isl 4 (List.map rApiTrap v1.Traps)]), (49, .lit (.int .i64 v1.Locals)), (48, .mpt 0 0 5)] 0 (by kernel_rfl) (by kernel_rfl) rfl (by kernel_rfl) (dt0 ⟨(fun _ => pa rfl rfl rfl rfl (asg rfl <| ⟨rfl, rfl⟩)), (fun _ => pa rfl rfl rfl rfl (pkb rfl hb20 rfl <| ⟨rfl, rfl⟩)), (fun _ => pag (b := v8) rfl rfl rfl rfl hb20 rfl (pc (class_traps_ok v1 q21) rfl rfl rfl <| ⟨rfl, rfl⟩)), (fun _ => pag (b := v8) rfl rfl rfl rfl hb20 rfl (ld ti35 rfl rfl <| ⟨rfl, rfl⟩)), (fun _ => pa rfl rfl rfl rfl (mv rfl <| ⟨rfl, rfl⟩)), (fun _ => pa rfl rfl rfl rfl (pkb rfl hb18 rfl <| ⟨rfl, rfl⟩)), (fun _ => pag (b := v7) rfl rfl rfl rfl hb18 rfl (pc (class_maps_ok v1 q19) rfl rfl rfl <| ⟨rfl, rfl⟩)), (fun _ => pag (b := v7) rfl rfl rfl rfl hb18 rfl (ld ti35 rfl rfl <| ⟨rfl, rfl⟩)), (fun _ => pa rfl rfl rfl rfl (mv rfl <| ⟨rfl, rfl⟩)), (fun _ => pa rfl rfl rfl rfl (pkb rfl hb16 rfl <| ⟨rfl, rfl⟩)), (fun _ => pag (b := (class_between v1.Stack 0 16)) rfl rfl rfl rfl hb16 rfl (pc (class_instructions_ok v1 q17) rfl rfl rfl <| ⟨rfl, rfl⟩)), (fun _ => pag (b := (class_between v1.Stack 0 16)) rfl rfl rfl rfl hb16 rfl (ld ti35 rfl rfl <| ⟨rfl, rfl⟩)), (fun _ => pa rfl rfl rfl rfl (mv rfl <| ⟨rfl, rfl⟩)), (fun _ => pa rfl rfl rfl rfl (pkb rfl hb15 rfl <| ⟨rfl, rfl⟩)), (fun _ => pag (b := (class_between v1.Locals (class_args v1) 16)) rfl rfl rfl rfl hb15 rfl (pc (class_between_ok v1.Stack 0 16 rfl) rfl rfl rfl <| ⟨rfl, rfl⟩)), (fun _ => pag (b := (class_between v1.Locals (class_args v1) 16)) rfl rfl rfl rfl hb15 rfl (ld ti3 rfl rfl <| ⟨rfl, rfl⟩)), (fun _ => pag (b := (class_between v1.Locals (class_args v1) 16)) rfl rfl rfl rfl hb15 rfl (fa ti35 rfl rfl rfl <| ⟨rfl, rfl⟩)), (fun _ => pa rfl rfl rfl rfl (mv rfl <| ⟨rfl, rfl⟩)), (fun _ => pa rfl rfl rfl rfl (pc (class_between_ok v1.Locals (class_args v1) 16 rfl) rfl rfl rfl <| ⟨rfl, rfl⟩)), (fun _ => pa rfl rfl rfl rfl (pc (class_args_ok v1 rfl) rfl rfl rfl <| ⟨rfl, rfl⟩)), (fun _ => pa rfl rfl rfl rfl (ld ti35 rfl rfl <| ⟨rfl, rfl⟩)), (fun _ => pa rfl rfl rfl rfl (ld ti3 rfl rfl <| ⟨rfl, rfl⟩)), (fun _ => pa rfl rfl rfl rfl (fa ti35 rfl rfl rfl <| ⟨rfl, rfl⟩)), trivial⟩ (by kernel_rfl) rfl ⟨v9, h, [], ce rfl rfl <| cn, rfl, trivial, rfl, Nat.le_of_ble_eq_true rfl⟩)
                · replace h := bF hb20 h
                  exact sw_region_dt [] [22, 21, 20, 19, 18, 17, 16, 15, 14, 13, 12, 11, 10, 9, 8, 7, 6, 5, 4, 3, 2, 1, 0] [(2, .lit (.bool false)), (69, .lit (.bool false)), (68, .lit undef), (67, .lit undef), (66, .lit (.bool v8)), (65, .lit (.bool v8)), (64, .lit (.bool v8)), (63, .agg [.lit (.string (B v1.Name)), .isl 1 (List.map rStr v1.Params), .lit (.string (B v1.Ret)), .lit (.bool v1.Static), .lit (.bool v1.Abstract), .lit (.int .i64 v1.Locals), .lit (.int .i64 v1.Stack), .isl 4 (List.map rApiIns v1.Code), .isl 3 (List.map rApiMap v1.Maps), .isl 4 (List.map rApiTrap v1.Traps)]), (62, .lit (.bool v7)), (61, .lit (.bool v7)), (60, .lit (.bool v7)), (59, .agg [.lit (.string (B v1.Name)), .isl 1 (List.map rStr v1.Params), .lit (.string (B v1.Ret)), .lit (.bool v1.Static), .lit (.bool v1.Abstract), .lit (.int .i64 v1.Locals), .lit (.int .i64 v1.Stack), .isl 4 (List.map rApiIns v1.Code), .isl 3 (List.map rApiMap v1.Maps), .isl 4 (List.map rApiTrap v1.Traps)]), (58, .lit (.bool (class_between v1.Stack 0 16))), (57, .lit (.bool (class_between v1.Stack 0 16))), (56, .lit (.bool (class_between v1.Stack 0 16))), (55, .lit (.int .i64 v1.Stack)), (54, .mpt 0 0 6), (53, .lit (.bool (class_between v1.Locals (class_args v1) 16))), (52, .lit (.bool (class_between v1.Locals (class_args v1) 16))), (51, .lit (.int .i64 (class_args v1))), (50, .agg [.lit (.string (B v1.Name)), .isl 1 (List.map rStr v1.Params), .lit (.string (B v1.Ret)), .lit (.bool v1.Static), .lit (.bool v1.Abstract), .lit (.int .i64 v1.Locals), .lit (.int .i64 v1.Stack), .isl 4 (List.map rApiIns v1.Code), .isl 3 (List.map rApiMap v1.Maps), .isl 4 (List.map rApiTrap v1.Traps)]), (49, .lit (.int .i64 v1.Locals)), (48, .mpt 0 0 5)] 0 (by kernel_rfl) (by kernel_rfl) rfl (by kernel_rfl) (dt0 ⟨(fun _ => pa rfl rfl rfl rfl (asg rfl <| ⟨rfl, rfl⟩)), (fun _ => pa rfl rfl rfl rfl (pkb rfl hb20 rfl <| ⟨rfl, rfl⟩)), (fun _ => pas (b := v8) rfl rfl rfl rfl hb20 rfl), (fun _ => pas (b := v8) rfl rfl rfl rfl hb20 rfl), (fun _ => pa rfl rfl rfl rfl (mv rfl <| ⟨rfl, rfl⟩)), (fun _ => pa rfl rfl rfl rfl (pkb rfl hb18 rfl <| ⟨rfl, rfl⟩)), (fun _ => pag (b := v7) rfl rfl rfl rfl hb18 rfl (pc (class_maps_ok v1 q19) rfl rfl rfl <| ⟨rfl, rfl⟩)), (fun _ => pag (b := v7) rfl rfl rfl rfl hb18 rfl (ld ti35 rfl rfl <| ⟨rfl, rfl⟩)), (fun _ => pa rfl rfl rfl rfl (mv rfl <| ⟨rfl, rfl⟩)), (fun _ => pa rfl rfl rfl rfl (pkb rfl hb16 rfl <| ⟨rfl, rfl⟩)), (fun _ => pag (b := (class_between v1.Stack 0 16)) rfl rfl rfl rfl hb16 rfl (pc (class_instructions_ok v1 q17) rfl rfl rfl <| ⟨rfl, rfl⟩)), (fun _ => pag (b := (class_between v1.Stack 0 16)) rfl rfl rfl rfl hb16 rfl (ld ti35 rfl rfl <| ⟨rfl, rfl⟩)), (fun _ => pa rfl rfl rfl rfl (mv rfl <| ⟨rfl, rfl⟩)), (fun _ => pa rfl rfl rfl rfl (pkb rfl hb15 rfl <| ⟨rfl, rfl⟩)), (fun _ => pag (b := (class_between v1.Locals (class_args v1) 16)) rfl rfl rfl rfl hb15 rfl (pc (class_between_ok v1.Stack 0 16 rfl) rfl rfl rfl <| ⟨rfl, rfl⟩)), (fun _ => pag (b := (class_between v1.Locals (class_args v1) 16)) rfl rfl rfl rfl hb15 rfl (ld ti3 rfl rfl <| ⟨rfl, rfl⟩)), (fun _ => pag (b := (class_between v1.Locals (class_args v1) 16)) rfl rfl rfl rfl hb15 rfl (fa ti35 rfl rfl rfl <| ⟨rfl, rfl⟩)), (fun _ => pa rfl rfl rfl rfl (mv rfl <| ⟨rfl, rfl⟩)), (fun _ => pa rfl rfl rfl rfl (pc (class_between_ok v1.Locals (class_args v1) 16 rfl) rfl rfl rfl <| ⟨rfl, rfl⟩)), (fun _ => pa rfl rfl rfl rfl (pc (class_args_ok v1 rfl) rfl rfl rfl <| ⟨rfl, rfl⟩)), (fun _ => pa rfl rfl rfl rfl (ld ti35 rfl rfl <| ⟨rfl, rfl⟩)), (fun _ => pa rfl rfl rfl rfl (ld ti3 rfl rfl <| ⟨rfl, rfl⟩)), (fun _ => pa rfl rfl rfl rfl (fa ti35 rfl rfl rfl <| ⟨rfl, rfl⟩)), trivial⟩ (by kernel_rfl) rfl ⟨false, h, [], ce rfl rfl <| cn, rfl, trivial, rfl, Nat.le_of_ble_eq_true rfl⟩)
              · replace h := bF hb18 h
                exact sw_region_dt [] [22, 21, 20, 19, 18, 17, 16, 15, 14, 13, 12, 11, 10, 9, 8, 7, 6, 5, 4, 3, 2, 1, 0] [(2, .lit (.bool false)), (69, .lit (.bool false)), (68, .lit undef), (67, .lit undef), (66, .lit (.bool false)), (65, .lit (.bool false)), (64, .lit undef), (63, .lit undef), (62, .lit (.bool v7)), (61, .lit (.bool v7)), (60, .lit (.bool v7)), (59, .agg [.lit (.string (B v1.Name)), .isl 1 (List.map rStr v1.Params), .lit (.string (B v1.Ret)), .lit (.bool v1.Static), .lit (.bool v1.Abstract), .lit (.int .i64 v1.Locals), .lit (.int .i64 v1.Stack), .isl 4 (List.map rApiIns v1.Code), .isl 3 (List.map rApiMap v1.Maps), .isl 4 (List.map rApiTrap v1.Traps)]), (58, .lit (.bool (class_between v1.Stack 0 16))), (57, .lit (.bool (class_between v1.Stack 0 16))), (56, .lit (.bool (class_between v1.Stack 0 16))), (55, .lit (.int .i64 v1.Stack)), (54, .mpt 0 0 6), (53, .lit (.bool (class_between v1.Locals (class_args v1) 16))), (52, .lit (.bool (class_between v1.Locals (class_args v1) 16))), (51, .lit (.int .i64 (class_args v1))), (50, .agg [.lit (.string (B v1.Name)), .isl 1 (List.map rStr v1.Params), .lit (.string (B v1.Ret)), .lit (.bool v1.Static), .lit (.bool v1.Abstract), .lit (.int .i64 v1.Locals), .lit (.int .i64 v1.Stack), .isl 4 (List.map rApiIns v1.Code), .isl 3 (List.map rApiMap v1.Maps), .isl 4 (List.map rApiTrap v1.Traps)]), (49, .lit (.int .i64 v1.Locals)), (48, .mpt 0 0 5)] 0 (by kernel_rfl) (by kernel_rfl) rfl (by kernel_rfl) (dt0 ⟨(fun _ => pa rfl rfl rfl rfl (asg rfl <| ⟨rfl, rfl⟩)), (fun _ => pa rfl rfl rfl rfl (pk (b := false) rfl rfl <| ⟨rfl, rfl⟩)), (fun _ => pas (b := false) rfl rfl rfl rfl rfl rfl), (fun _ => pas (b := false) rfl rfl rfl rfl rfl rfl), (fun _ => pa rfl rfl rfl rfl (mv rfl <| ⟨rfl, rfl⟩)), (fun _ => pa rfl rfl rfl rfl (pkb rfl hb18 rfl <| ⟨rfl, rfl⟩)), (fun _ => pas (b := v7) rfl rfl rfl rfl hb18 rfl), (fun _ => pas (b := v7) rfl rfl rfl rfl hb18 rfl), (fun _ => pa rfl rfl rfl rfl (mv rfl <| ⟨rfl, rfl⟩)), (fun _ => pa rfl rfl rfl rfl (pkb rfl hb16 rfl <| ⟨rfl, rfl⟩)), (fun _ => pag (b := (class_between v1.Stack 0 16)) rfl rfl rfl rfl hb16 rfl (pc (class_instructions_ok v1 q17) rfl rfl rfl <| ⟨rfl, rfl⟩)), (fun _ => pag (b := (class_between v1.Stack 0 16)) rfl rfl rfl rfl hb16 rfl (ld ti35 rfl rfl <| ⟨rfl, rfl⟩)), (fun _ => pa rfl rfl rfl rfl (mv rfl <| ⟨rfl, rfl⟩)), (fun _ => pa rfl rfl rfl rfl (pkb rfl hb15 rfl <| ⟨rfl, rfl⟩)), (fun _ => pag (b := (class_between v1.Locals (class_args v1) 16)) rfl rfl rfl rfl hb15 rfl (pc (class_between_ok v1.Stack 0 16 rfl) rfl rfl rfl <| ⟨rfl, rfl⟩)), (fun _ => pag (b := (class_between v1.Locals (class_args v1) 16)) rfl rfl rfl rfl hb15 rfl (ld ti3 rfl rfl <| ⟨rfl, rfl⟩)), (fun _ => pag (b := (class_between v1.Locals (class_args v1) 16)) rfl rfl rfl rfl hb15 rfl (fa ti35 rfl rfl rfl <| ⟨rfl, rfl⟩)), (fun _ => pa rfl rfl rfl rfl (mv rfl <| ⟨rfl, rfl⟩)), (fun _ => pa rfl rfl rfl rfl (pc (class_between_ok v1.Locals (class_args v1) 16 rfl) rfl rfl rfl <| ⟨rfl, rfl⟩)), (fun _ => pa rfl rfl rfl rfl (pc (class_args_ok v1 rfl) rfl rfl rfl <| ⟨rfl, rfl⟩)), (fun _ => pa rfl rfl rfl rfl (ld ti35 rfl rfl <| ⟨rfl, rfl⟩)), (fun _ => pa rfl rfl rfl rfl (ld ti3 rfl rfl <| ⟨rfl, rfl⟩)), (fun _ => pa rfl rfl rfl rfl (fa ti35 rfl rfl rfl <| ⟨rfl, rfl⟩)), trivial⟩ (by kernel_rfl) rfl ⟨false, h, [], ce rfl rfl <| cn, rfl, trivial, rfl, Nat.le_of_ble_eq_true rfl⟩)
            · replace h := bF hb16 h
              exact sw_region_dt [] [22, 21, 20, 19, 18, 17, 16, 15, 14, 13, 12, 11, 10, 9, 8, 7, 6, 5, 4, 3, 2, 1, 0] [(2, .lit (.bool false)), (69, .lit (.bool false)), (68, .lit undef), (67, .lit undef), (66, .lit (.bool false)), (65, .lit (.bool false)), (64, .lit undef), (63, .lit undef), (62, .lit (.bool false)), (61, .lit (.bool false)), (60, .lit undef), (59, .lit undef), (58, .lit (.bool (class_between v1.Stack 0 16))), (57, .lit (.bool (class_between v1.Stack 0 16))), (56, .lit (.bool (class_between v1.Stack 0 16))), (55, .lit (.int .i64 v1.Stack)), (54, .mpt 0 0 6), (53, .lit (.bool (class_between v1.Locals (class_args v1) 16))), (52, .lit (.bool (class_between v1.Locals (class_args v1) 16))), (51, .lit (.int .i64 (class_args v1))), (50, .agg [.lit (.string (B v1.Name)), .isl 1 (List.map rStr v1.Params), .lit (.string (B v1.Ret)), .lit (.bool v1.Static), .lit (.bool v1.Abstract), .lit (.int .i64 v1.Locals), .lit (.int .i64 v1.Stack), .isl 4 (List.map rApiIns v1.Code), .isl 3 (List.map rApiMap v1.Maps), .isl 4 (List.map rApiTrap v1.Traps)]), (49, .lit (.int .i64 v1.Locals)), (48, .mpt 0 0 5)] 0 (by kernel_rfl) (by kernel_rfl) rfl (by kernel_rfl) (dt0 ⟨(fun _ => pa rfl rfl rfl rfl (asg rfl <| ⟨rfl, rfl⟩)), (fun _ => pa rfl rfl rfl rfl (pk (b := false) rfl rfl <| ⟨rfl, rfl⟩)), (fun _ => pas (b := false) rfl rfl rfl rfl rfl rfl), (fun _ => pas (b := false) rfl rfl rfl rfl rfl rfl), (fun _ => pa rfl rfl rfl rfl (mv rfl <| ⟨rfl, rfl⟩)), (fun _ => pa rfl rfl rfl rfl (pk (b := false) rfl rfl <| ⟨rfl, rfl⟩)), (fun _ => pas (b := false) rfl rfl rfl rfl rfl rfl), (fun _ => pas (b := false) rfl rfl rfl rfl rfl rfl), (fun _ => pa rfl rfl rfl rfl (mv rfl <| ⟨rfl, rfl⟩)), (fun _ => pa rfl rfl rfl rfl (pkb rfl hb16 rfl <| ⟨rfl, rfl⟩)), (fun _ => pas (b := (class_between v1.Stack 0 16)) rfl rfl rfl rfl hb16 rfl), (fun _ => pas (b := (class_between v1.Stack 0 16)) rfl rfl rfl rfl hb16 rfl), (fun _ => pa rfl rfl rfl rfl (mv rfl <| ⟨rfl, rfl⟩)), (fun _ => pa rfl rfl rfl rfl (pkb rfl hb15 rfl <| ⟨rfl, rfl⟩)), (fun _ => pag (b := (class_between v1.Locals (class_args v1) 16)) rfl rfl rfl rfl hb15 rfl (pc (class_between_ok v1.Stack 0 16 rfl) rfl rfl rfl <| ⟨rfl, rfl⟩)), (fun _ => pag (b := (class_between v1.Locals (class_args v1) 16)) rfl rfl rfl rfl hb15 rfl (ld ti3 rfl rfl <| ⟨rfl, rfl⟩)), (fun _ => pag (b := (class_between v1.Locals (class_args v1) 16)) rfl rfl rfl rfl hb15 rfl (fa ti35 rfl rfl rfl <| ⟨rfl, rfl⟩)), (fun _ => pa rfl rfl rfl rfl (mv rfl <| ⟨rfl, rfl⟩)), (fun _ => pa rfl rfl rfl rfl (pc (class_between_ok v1.Locals (class_args v1) 16 rfl) rfl rfl rfl <| ⟨rfl, rfl⟩)), (fun _ => pa rfl rfl rfl rfl (pc (class_args_ok v1 rfl) rfl rfl rfl <| ⟨rfl, rfl⟩)), (fun _ => pa rfl rfl rfl rfl (ld ti35 rfl rfl <| ⟨rfl, rfl⟩)), (fun _ => pa rfl rfl rfl rfl (ld ti3 rfl rfl <| ⟨rfl, rfl⟩)), (fun _ => pa rfl rfl rfl rfl (fa ti35 rfl rfl rfl <| ⟨rfl, rfl⟩)), trivial⟩ (by kernel_rfl) rfl ⟨false, h, [], ce rfl rfl <| cn, rfl, trivial, rfl, Nat.le_of_ble_eq_true rfl⟩)
          · replace h := bF hb15 h
            exact sw_region_dt [] [22, 21, 20, 19, 18, 17, 16, 15, 14, 13, 12, 11, 10, 9, 8, 7, 6, 5, 4, 3, 2, 1, 0] [(2, .lit (.bool false)), (69, .lit (.bool false)), (68, .lit undef), (67, .lit undef), (66, .lit (.bool false)), (65, .lit (.bool false)), (64, .lit undef), (63, .lit undef), (62, .lit (.bool false)), (61, .lit (.bool false)), (60, .lit undef), (59, .lit undef), (58, .lit (.bool false)), (57, .lit (.bool false)), (56, .lit undef), (55, .lit undef), (54, .lit undef), (53, .lit (.bool (class_between v1.Locals (class_args v1) 16))), (52, .lit (.bool (class_between v1.Locals (class_args v1) 16))), (51, .lit (.int .i64 (class_args v1))), (50, .agg [.lit (.string (B v1.Name)), .isl 1 (List.map rStr v1.Params), .lit (.string (B v1.Ret)), .lit (.bool v1.Static), .lit (.bool v1.Abstract), .lit (.int .i64 v1.Locals), .lit (.int .i64 v1.Stack), .isl 4 (List.map rApiIns v1.Code), .isl 3 (List.map rApiMap v1.Maps), .isl 4 (List.map rApiTrap v1.Traps)]), (49, .lit (.int .i64 v1.Locals)), (48, .mpt 0 0 5)] 0 (by kernel_rfl) (by kernel_rfl) rfl (by kernel_rfl) (dt0 ⟨(fun _ => pa rfl rfl rfl rfl (asg rfl <| ⟨rfl, rfl⟩)), (fun _ => pa rfl rfl rfl rfl (pk (b := false) rfl rfl <| ⟨rfl, rfl⟩)), (fun _ => pas (b := false) rfl rfl rfl rfl rfl rfl), (fun _ => pas (b := false) rfl rfl rfl rfl rfl rfl), (fun _ => pa rfl rfl rfl rfl (mv rfl <| ⟨rfl, rfl⟩)), (fun _ => pa rfl rfl rfl rfl (pk (b := false) rfl rfl <| ⟨rfl, rfl⟩)), (fun _ => pas (b := false) rfl rfl rfl rfl rfl rfl), (fun _ => pas (b := false) rfl rfl rfl rfl rfl rfl), (fun _ => pa rfl rfl rfl rfl (mv rfl <| ⟨rfl, rfl⟩)), (fun _ => pa rfl rfl rfl rfl (pk (b := false) rfl rfl <| ⟨rfl, rfl⟩)), (fun _ => pas (b := false) rfl rfl rfl rfl rfl rfl), (fun _ => pas (b := false) rfl rfl rfl rfl rfl rfl), (fun _ => pa rfl rfl rfl rfl (mv rfl <| ⟨rfl, rfl⟩)), (fun _ => pa rfl rfl rfl rfl (pkb rfl hb15 rfl <| ⟨rfl, rfl⟩)), (fun _ => pas (b := (class_between v1.Locals (class_args v1) 16)) rfl rfl rfl rfl hb15 rfl), (fun _ => pas (b := (class_between v1.Locals (class_args v1) 16)) rfl rfl rfl rfl hb15 rfl), (fun _ => pas (b := (class_between v1.Locals (class_args v1) 16)) rfl rfl rfl rfl hb15 rfl), (fun _ => pa rfl rfl rfl rfl (mv rfl <| ⟨rfl, rfl⟩)), (fun _ => pa rfl rfl rfl rfl (pc (class_between_ok v1.Locals (class_args v1) 16 rfl) rfl rfl rfl <| ⟨rfl, rfl⟩)), (fun _ => pa rfl rfl rfl rfl (pc (class_args_ok v1 rfl) rfl rfl rfl <| ⟨rfl, rfl⟩)), (fun _ => pa rfl rfl rfl rfl (ld ti35 rfl rfl <| ⟨rfl, rfl⟩)), (fun _ => pa rfl rfl rfl rfl (ld ti3 rfl rfl <| ⟨rfl, rfl⟩)), (fun _ => pa rfl rfl rfl rfl (fa ti35 rfl rfl rfl <| ⟨rfl, rfl⟩)), trivial⟩ (by kernel_rfl) rfl ⟨false, h, [], ce rfl rfl <| cn, rfl, trivial, rfl, Nat.le_of_ble_eq_true rfl⟩)
        · rintro v10 h
          replace h : class_method_j1 v10 = some r := h
          unfold class_method_j1 at h
          refine sw_ret ?_
          obtain rfl := sm h
          exact ⟨_, rfl, [], ci rfl, rfl, trivial, rfl, Nat.le_of_ble_eq_true rfl⟩

noncomputable def class_May_4 (v1 : ApiMethod) (v2 : List UInt8) (v3 : List UInt8) (v4 : Bool) (v5 : List (List UInt8)) (v6 : List ApiField) (v7 : List ApiMethod) : Option (Bool) :=
  (cond (v1.Abstract == v4) ((class_method v1).bind fun v8 => some v8) (some false)).bind fun v9 => some v9
theorem class_May_4_ok (v1 : ApiMethod) (v2 : List UInt8) (v3 : List UInt8) (v4 : Bool) (v5 : List (List UInt8)) (v6 : List ApiField) (v7 : List ApiMethod) {r : Bool} (h : class_May_4 v1 v2 v3 v4 v5 v6 v7 = some r) : PureC Tryz.prog 31 [.agg [.lit (.string (B v1.Name)), .isl 1 (List.map rStr v1.Params), .lit (.string (B v1.Ret)), .lit (.bool v1.Static), .lit (.bool v1.Abstract), .lit (.int .i64 v1.Locals), .lit (.int .i64 v1.Stack), .isl 4 (List.map rApiIns v1.Code), .isl 3 (List.map rApiMap v1.Maps), .isl 4 (List.map rApiTrap v1.Traps)], .ipt 6 [[.lit (.string (B v2)), .lit (.string (B v3)), .lit (.bool v4), .isl 1 (List.map rStr v5), .isl 3 (List.map rApiField v6), .isl 10 (List.map rApiMethod v7)]] 0 0] (.lit (.bool r)) := by
  refine pure_fn Tryz.func31 rfl (by kernel_rfl) rfl rfl ?_
  unfold class_May_4 at h
  refine rg rfl <| u <| bx 0 10 rfl rfl rfl rfl <| u <| asg rfl <| r_nil ?_
  obtain ⟨v9, q3, h⟩ := bs h
  refine rg rfl <| u <| fa ti35 rfl rfl rfl <| u <| ld ti4 rfl rfl <| u <| fa ti28 rfl rfl rfl <| u <| ld ti4 rfl rfl <| u <| beq ti4 rfl rfl rfl <| u <| mv rfl <| r_and (x := v9) (j := 5) 2 rfl rfl rfl rfl rfl gpn (fun hb1 => by replace q3 := bT hb1 q3; obtain ⟨v8, q2, q3⟩ := bs q3; obtain rfl := sm q3; exact g rfl hb1 <| ld ti35 rfl rfl <| g rfl hb1 <| pc (class_method_ok v1 q2) rfl rfl rfl <| r_nil (eg [10, 11] 2 rfl rfl rfl rfl)) (fun hb => (sm (bF hb q3)).symm) <| u <| asg rfl <| r_nil ?_
  refine sw_ret ?_
  obtain rfl := sm h
  exact ⟨_, rfl, [], ci rfl, rfl, trivial, rfl, Nat.le_of_ble_eq_true rfl⟩

noncomputable def class_May_3 (v1 : ApiMethod) : (List UInt8) :=
  v1.Name
theorem class_May_3_ok (v1 : ApiMethod) {r : (List UInt8)} (h : class_May_3 v1 = r) : PureC Tryz.prog 30 [.agg [.lit (.string (B v1.Name)), .isl 1 (List.map rStr v1.Params), .lit (.string (B v1.Ret)), .lit (.bool v1.Static), .lit (.bool v1.Abstract), .lit (.int .i64 v1.Locals), .lit (.int .i64 v1.Stack), .isl 4 (List.map rApiIns v1.Code), .isl 3 (List.map rApiMap v1.Maps), .isl 4 (List.map rApiTrap v1.Traps)]] (.lit (.string (B r))) := by
  refine pure_fn Tryz.func30 rfl (by kernel_rfl) rfl rfl ?_
  unfold class_May_3 at h
  refine rg rfl <| u <| bx 0 10 rfl rfl rfl rfl <| u <| asg rfl <| r_nil ?_
  refine rg rfl <| u <| fa ti35 rfl rfl rfl <| u <| ld ti9 rfl rfl <| u <| asg rfl <| r_nil ?_
  refine sw_ret ?_
  obtain rfl := h
  exact ⟨_, rfl, [], ci rfl, rfl, trivial, rfl, Nat.le_of_ble_eq_true rfl⟩

noncomputable def class_all_api_Method_1 (v1 : ApiMethod) (v2 : List UInt8) (v3 : List (List UInt8)) (v4 : List UInt8) (v5 : Bool) (v6 : Bool) (v7 : Int) (v8 : Int) (v9 : List ApiIns) (v10 : List ApiMap) (v11 : List ApiTrap) : Bool :=
  ((class_May_3 (ApiMethod.mk v2 v3 v4 v5 v6 v7 v8 v9 v10 v11)) == (class_May_3 v1))
theorem class_all_api_Method_1_ok (v1 : ApiMethod) (v2 : List UInt8) (v3 : List (List UInt8)) (v4 : List UInt8) (v5 : Bool) (v6 : Bool) (v7 : Int) (v8 : Int) (v9 : List ApiIns) (v10 : List ApiMap) (v11 : List ApiTrap) {r : Bool} (h : class_all_api_Method_1 v1 v2 v3 v4 v5 v6 v7 v8 v9 v10 v11 = r) : PureC Tryz.prog 89 [.agg [.lit (.string (B v1.Name)), .isl 1 (List.map rStr v1.Params), .lit (.string (B v1.Ret)), .lit (.bool v1.Static), .lit (.bool v1.Abstract), .lit (.int .i64 v1.Locals), .lit (.int .i64 v1.Stack), .isl 4 (List.map rApiIns v1.Code), .isl 3 (List.map rApiMap v1.Maps), .isl 4 (List.map rApiTrap v1.Traps)], .ipt 1 [[.fn (.func 30) [] []]] 0 0, .ipt 10 [[.lit (.string (B v2)), .isl 1 (List.map rStr v3), .lit (.string (B v4)), .lit (.bool v5), .lit (.bool v6), .lit (.int .i64 v7), .lit (.int .i64 v8), .isl 4 (List.map rApiIns v9), .isl 3 (List.map rApiMap v10), .isl 4 (List.map rApiTrap v11)]] 0 0] (.lit (.bool r)) := by
  refine pure_fn Tryz.func89 rfl (by kernel_rfl) rfl rfl ?_
  unfold class_all_api_Method_1 at h
  refine rg rfl <| u <| bx 0 10 rfl rfl rfl rfl <| u <| asg rfl <| r_nil ?_
  refine rd [(4, .lit (.bool ((class_May_3 (ApiMethod.mk v2 v3 v4 v5 v6 v7 v8 v9 v10 v11)) == (class_May_3 v1))))] [] [] [7, 6, 5, 4, 3, 2, 1, 0] [(4, .lit (.bool ((class_May_3 (ApiMethod.mk v2 v3 v4 v5 v6 v7 v8 v9 v10 v11)) == (class_May_3 v1)))), (11, .lit (.bool ((class_May_3 (ApiMethod.mk v2 v3 v4 v5 v6 v7 v8 v9 v10 v11)) == (class_May_3 v1)))), (10, .lit (.string (B (class_May_3 v1)))), (9, .agg [.lit (.string (B v1.Name)), .isl 1 (List.map rStr v1.Params), .lit (.string (B v1.Ret)), .lit (.bool v1.Static), .lit (.bool v1.Abstract), .lit (.int .i64 v1.Locals), .lit (.int .i64 v1.Stack), .isl 4 (List.map rApiIns v1.Code), .isl 3 (List.map rApiMap v1.Maps), .isl 4 (List.map rApiTrap v1.Traps)]), (8, .fn (.func 30) [] []), (7, .lit (.string (B (class_May_3 (ApiMethod.mk v2 v3 v4 v5 v6 v7 v8 v9 v10 v11))))), (6, .agg [.lit (.string (B v2)), .isl 1 (List.map rStr v3), .lit (.string (B v4)), .lit (.bool v5), .lit (.bool v6), .lit (.int .i64 v7), .lit (.int .i64 v8), .isl 4 (List.map rApiIns v9), .isl 3 (List.map rApiMap v10), .isl 4 (List.map rApiTrap v11)]), (5, .fn (.func 30) [] [])] 0 (by kernel_rfl) (by kernel_rfl) rfl (by kernel_rfl) (dt0 ⟨(fun _ => pa rfl rfl rfl rfl (asg rfl <| ⟨rfl, rfl⟩)), (fun _ => pa rfl rfl rfl rfl (seq ti9 rfl rfl <| ⟨rfl, rfl⟩)), (fun _ => pa rfl rfl rfl rfl (pc (class_May_3_ok v1 rfl) rfl rfl rfl <| ⟨rfl, rfl⟩)), (fun _ => pa rfl rfl rfl rfl (ld ti35 rfl rfl <| ⟨rfl, rfl⟩)), (fun _ => pa rfl rfl rfl rfl (ld ti61 rfl rfl <| ⟨rfl, rfl⟩)), (fun _ => pa rfl rfl rfl rfl (pc (class_May_3_ok (ApiMethod.mk v2 v3 v4 v5 v6 v7 v8 v9 v10 v11) rfl) rfl rfl rfl <| ⟨rfl, rfl⟩)), (fun _ => pa rfl rfl rfl rfl (ld ti35 rfl rfl <| ⟨rfl, rfl⟩)), (fun _ => pa rfl rfl rfl rfl (ld ti61 rfl rfl <| ⟨rfl, rfl⟩)), trivial⟩ (by kernel_rfl) rfl ⟨[], ce rfl rfl <| cn, rfl, trivial, rfl, Nat.le_of_ble_eq_true rfl⟩) ?_
  refine sw_ret ?_
  obtain rfl := h
  exact ⟨_, rfl, [], ci rfl, rfl, trivial, rfl, Nat.le_of_ble_eq_true rfl⟩

noncomputable def slices_IndexFunc_api_Method_api_Method_k2 : Option (Int) :=
  some (-1)
noncomputable def slices_IndexFunc_api_Method_api_Method_l1 (v1 : List ApiMethod) (v2 : List UInt8) (v3 : List (List UInt8)) (v4 : List UInt8) (v5 : Bool) (v6 : Bool) (v7 : Int) (v8 : Int) (v9 : List ApiIns) (v10 : List ApiMap) (v11 : List ApiTrap) (v14 : Int) : Option (Sum (Int) (Sum (Unit) (Int))) :=
  cond (decide (v14 < (List.length v1 : Int))) ((idx v1 v14).bind fun v15 => cond (class_all_api_Method_1 v15 v2 v3 v4 v5 v6 v7 v8 v9 v10 v11) (some (.inr (.inr v14))) (some (.inl (IntKind.i64.wrap (v14 + 1))))) (some (.inr (.inl ())))
noncomputable def slices_IndexFunc_api_Method_api_Method (v1 : List ApiMethod) (v2 : List UInt8) (v3 : List (List UInt8)) (v4 : List UInt8) (v5 : Bool) (v6 : Bool) (v7 : Int) (v8 : Int) (v9 : List ApiIns) (v10 : List ApiMap) (v11 : List ApiTrap) : Option (Int) :=
  (loopP (fun z => slices_IndexFunc_api_Method_api_Method_l1 v1 v2 v3 v4 v5 v6 v7 v8 v9 v10 v11 z) 0).bind fun o => leave o (fun b => slices_IndexFunc_api_Method_api_Method_k2) some
theorem slices_IndexFunc_api_Method_api_Method_ok (v1 : List ApiMethod) (v2 : List UInt8) (v3 : List (List UInt8)) (v4 : List UInt8) (v5 : Bool) (v6 : Bool) (v7 : Int) (v8 : Int) (v9 : List ApiIns) (v10 : List ApiMap) (v11 : List ApiTrap) {r : Int} (h : slices_IndexFunc_api_Method_api_Method v1 v2 v3 v4 v5 v6 v7 v8 v9 v10 v11 = some r) : PureC Tryz.prog 79 [.isl 10 (List.map rApiMethod v1), .fn (.func 89) [] [.ipt 1 [[.fn (.func 30) [] []]] 0 0, .ipt 10 [[.lit (.string (B v2)), .isl 1 (List.map rStr v3), .lit (.string (B v4)), .lit (.bool v5), .lit (.bool v6), .lit (.int .i64 v7), .lit (.int .i64 v8), .isl 4 (List.map rApiIns v9), .isl 3 (List.map rApiMap v10), .isl 4 (List.map rApiTrap v11)]] 0 0]] (.lit (.int .i64 r)) := by
  refine pure_fn Tryz.func79 rfl (by kernel_rfl) rfl rfl ?_
  unfold slices_IndexFunc_api_Method_api_Method at h
  refine rg rfl <| u <| asg rfl <| r_nil ?_
  refine sw_seq ?_
  refine rg rfl <| u <| mv rfl <| u <| lnI ti26 rfl rfl <| u <| mv rfl <| r_nil ?_
  obtain ⟨o, ho, h⟩ := bs h
  refine sw_lpl (X := Int) (B := Unit) (R := Int) (fun z => [(0, .isl 10 (List.map rApiMethod v1)), (1, .fn (.func 89) [] [.ipt 1 [[.fn (.func 30) [] []]] 0 0, .ipt 10 [[.lit (.string (B v2)), .isl 1 (List.map rStr v3), .lit (.string (B v4)), .lit (.bool v5), .lit (.bool v6), .lit (.int .i64 v7), .lit (.int .i64 v8), .isl 4 (List.map rApiIns v9), .isl 3 (List.map rApiMap v10), .isl 4 (List.map rApiTrap v11)]] 0 0]), (7, .lit (.int .i64 (List.length v1 : Int))), (8, .lit (.int .i64 z))]) (fun z => []) (fun b => []) (fun b => []) (fun r env st => PostF Tryz.prog Tryz.f79 0 (.lit (.int .i64 r)) [] env st) ho ⟨[], ce rfl rfl <| ce rfl rfl <| ce rfl rfl <| ce rfl rfl <| cn, rfl, trivial, rfl, Nat.le_of_ble_eq_true rfl⟩ ?_ ?_ ?_
  · rintro v14 r h
    replace h : slices_IndexFunc_api_Method_api_Method_l1 v1 v2 v3 v4 v5 v6 v7 v8 v9 v10 v11 v14 = some r := h
    unfold slices_IndexFunc_api_Method_api_Method_l1 at h
    refine rg rfl <| u <| lss ti3 rfl rfl <| r_nil ?_
    refine sw_seq ?_
    refine sw_cond rfl (fun hc4 => ?_) (fun hc4 => ?_)
    · replace h := bT hc4 h
      refine sw_skip ?_
      refine sw_seq ?_
      refine sw_block ?_
      refine rg rfl <| u <| mv rfl <| u <| asg rfl <| r_nil ?_
      obtain ⟨v15, q5, h⟩ := bs h
      refine rg rfl <| u <| mv rfl <| u <| mv rfl <| u <| mv rfl <| u <| ixI ti26 rfl ti35 rfl rfl rfl q5 <| u <| ldI ti35 rfl (idx_some q5).2.2 rfl <| u <| pc (class_all_api_Method_1_ok v15 v2 v3 v4 v5 v6 v7 v8 v9 v10 v11 rfl) rfl rfl rfl <| r_nil ?_
      refine sw_cond rfl (fun hc6 => ?_) (fun hc6 => ?_)
      · replace h := bT hc6 h
        refine rg rfl <| u <| mv rfl <| u <| asg rfl <| r_nil ?_
        refine sw_ret ?_
        obtain rfl := sm h
        exact ⟨_, rfl, _, rfl, [], ci rfl, rfl, trivial, rfl, Nat.le_of_ble_eq_true rfl⟩
      · replace h := bF hc6 h
        refine sw_skip ?_
        refine rl rfl <| u <| add ti3 rfl rfl <| u <| mv rfl <| r_nil ?_
        obtain rfl := sm h
        exact ⟨_, rfl, [], ce rfl rfl <| ce rfl rfl <| ce rfl rfl <| ce rfl rfl <| cn, rfl, trivial, rfl, Nat.le_of_ble_eq_true rfl⟩
    · replace h := bF hc4 h
      refine sw_exit ?_
      obtain rfl := sm h
      exact ⟨rfl, _, rfl, [], cn, rfl, trivial, rfl, Nat.le_of_ble_eq_true rfl⟩
  · rintro ⟨⟩ rfl
    replace h : slices_IndexFunc_api_Method_api_Method_k2 = some r := h
    unfold slices_IndexFunc_api_Method_api_Method_k2 at h
    refine ow_intro ?_
    refine rg rfl <| u <| asg rfl <| r_nil ?_
    refine sw_ret ?_
    obtain rfl := sm h
    exact ⟨_, rfl, [], ci rfl, rfl, trivial, rfl, Nat.le_of_ble_eq_true rfl⟩
  · rintro r' rfl env st hp
    obtain rfl := sm h
    exact hp

noncomputable def slices_ContainsFunc_api_Method_api_Method (v1 : List ApiMethod) (v2 : List UInt8) (v3 : List (List UInt8)) (v4 : List UInt8) (v5 : Bool) (v6 : Bool) (v7 : Int) (v8 : Int) (v9 : List ApiIns) (v10 : List ApiMap) (v11 : List ApiTrap) : Option (Bool) :=
  (slices_IndexFunc_api_Method_api_Method v1 v2 v3 v4 v5 v6 v7 v8 v9 v10 v11).bind fun v12 => some (decide (0 ≤ v12))
theorem slices_ContainsFunc_api_Method_api_Method_ok (v1 : List ApiMethod) (v2 : List UInt8) (v3 : List (List UInt8)) (v4 : List UInt8) (v5 : Bool) (v6 : Bool) (v7 : Int) (v8 : Int) (v9 : List ApiIns) (v10 : List ApiMap) (v11 : List ApiTrap) {r : Bool} (h : slices_ContainsFunc_api_Method_api_Method v1 v2 v3 v4 v5 v6 v7 v8 v9 v10 v11 = some r) : PureC Tryz.prog 88 [.isl 10 (List.map rApiMethod v1), .fn (.func 89) [] [.ipt 1 [[.fn (.func 30) [] []]] 0 0, .ipt 10 [[.lit (.string (B v2)), .isl 1 (List.map rStr v3), .lit (.string (B v4)), .lit (.bool v5), .lit (.bool v6), .lit (.int .i64 v7), .lit (.int .i64 v8), .isl 4 (List.map rApiIns v9), .isl 3 (List.map rApiMap v10), .isl 4 (List.map rApiTrap v11)]] 0 0]] (.lit (.bool r)) := by
  refine pure_fn Tryz.func88 rfl (by kernel_rfl) rfl rfl ?_
  unfold slices_ContainsFunc_api_Method_api_Method at h
  refine rg rfl <| u <| asg rfl <| r_nil ?_
  obtain ⟨v12, q1, h⟩ := bs h
  refine rg rfl <| u <| mv rfl <| u <| mv rfl <| u <| pc (slices_IndexFunc_api_Method_api_Method_ok v1 v2 v3 v4 v5 v6 v7 v8 v9 v10 v11 q1) rfl rfl rfl <| u <| geq ti3 rfl rfl <| u <| asg rfl <| r_nil ?_
  refine sw_ret ?_
  obtain rfl := sm h
  exact ⟨_, rfl, [], ci rfl, rfl, trivial, rfl, Nat.le_of_ble_eq_true rfl⟩

noncomputable def class_all_api_Method_k2 (v1 : List ApiMethod) (v2 : Int) : Option (Bool) :=
  some (decide ((List.length v1 : Int) ≤ v2))
noncomputable def class_all_api_Method_l1 (v1 : List ApiMethod) (v3 : List UInt8) (v4 : List UInt8) (v5 : Bool) (v6 : List (List UInt8)) (v7 : List ApiField) (v8 : List ApiMethod) (v15 : Int) : Option (Sum (Int) (Sum (Unit) (Bool))) :=
  cond (decide (v15 < (List.length v1 : Int))) ((idx v1 v15).bind fun v16 => (class_May_4 v16 v3 v4 v5 v6 v7 v8).bind fun v17 => (cond (!v17) (some true) ((cutP v1 0 v15).bind fun v18 => (slices_ContainsFunc_api_Method_api_Method v18 v16.Name v16.Params v16.Ret v16.Static v16.Abstract v16.Locals v16.Stack v16.Code v16.Maps v16.Traps).bind fun v19 => some v19)).bind fun v20 => cond v20 (some (.inr (.inr false))) (some (.inl (IntKind.i64.wrap (v15 + 1))))) (some (.inr (.inl ())))
noncomputable def class_all_api_Method (v1 : List ApiMethod) (v2 : Int) (v3 : List UInt8) (v4 : List UInt8) (v5 : Bool) (v6 : List (List UInt8)) (v7 : List ApiField) (v8 : List ApiMethod) : Option (Bool) :=
  (loopP (fun z => class_all_api_Method_l1 v1 v3 v4 v5 v6 v7 v8 z) 0).bind fun o => leave o (fun b => class_all_api_Method_k2 v1 v2) some
theorem class_all_api_Method_ok (v1 : List ApiMethod) (v2 : Int) (v3 : List UInt8) (v4 : List UInt8) (v5 : Bool) (v6 : List (List UInt8)) (v7 : List ApiField) (v8 : List ApiMethod) {r : Bool} (h : class_all_api_Method v1 v2 v3 v4 v5 v6 v7 v8 = some r) : PureC Tryz.prog 29 [.isl 10 (List.map rApiMethod v1), .lit (.int .i64 v2), .fn (.func 30) [] [], .fn (.func 31) [] [.ipt 6 [[.lit (.string (B v3)), .lit (.string (B v4)), .lit (.bool v5), .isl 1 (List.map rStr v6), .isl 3 (List.map rApiField v7), .isl 10 (List.map rApiMethod v8)]] 0 0]] (.lit (.bool r)) := by
  refine pure_fn Tryz.func29 rfl (by kernel_rfl) rfl rfl ?_
  unfold class_all_api_Method at h
  refine rg rfl <| u <| bx 0 1 rfl rfl rfl rfl <| u <| asg rfl <| r_nil ?_
  refine sw_seq ?_
  refine rg rfl <| u <| mv rfl <| u <| lnI ti26 rfl rfl <| u <| mv rfl <| r_nil ?_
  obtain ⟨o, ho, h⟩ := bs h
  refine sw_lpl (X := Int) (B := Unit) (R := Bool) (fun z => [(0, .isl 10 (List.map rApiMethod v1)), (1, .lit (.int .i64 v2)), (3, .fn (.func 31) [] [.ipt 6 [[.lit (.string (B v3)), .lit (.string (B v4)), .lit (.bool v5), .isl 1 (List.map rStr v6), .isl 3 (List.map rApiField v7), .isl 10 (List.map rApiMethod v8)]] 0 0]), (6, .mpt 0 0 0), (11, .isl 10 (List.map rApiMethod v1)), (12, .lit (.int .i64 (List.length v1 : Int))), (13, .lit (.int .i64 z))]) (fun z => [some (1, [[.fn (.func 30) [] []]])]) (fun b => [(0, .isl 10 (List.map rApiMethod v1)), (1, .lit (.int .i64 v2))]) (fun b => []) (fun r env st => PostF Tryz.prog Tryz.f29 0 (.lit (.bool r)) [] env st) ho ⟨[.old 0], ce rfl rfl <| ce rfl rfl <| ce rfl rfl <| cv rfl (.mpt rfl) <| ce rfl rfl <| ce rfl rfl <| ce rfl rfl <| cn, rfl, ⟨⟨_, rfl, rsOne ⟨ci rfl, trivial⟩⟩, trivial⟩, rfl, Nat.le_of_ble_eq_true rfl⟩ ?_ ?_ ?_
  · rintro v15 r h
    replace h : class_all_api_Method_l1 v1 v3 v4 v5 v6 v7 v8 v15 = some r := h
    unfold class_all_api_Method_l1 at h
    refine rg rfl <| u <| lss ti3 rfl rfl <| r_nil ?_
    refine sw_seq ?_
    refine sw_cond rfl (fun hc9 => ?_) (fun hc9 => ?_)
    · replace h := bT hc9 h
      refine sw_skip ?_
      refine sw_seq ?_
      refine sw_block ?_
      obtain ⟨v16, q10, h⟩ := bs h
      refine rg rfl <| u <| mv rfl <| u <| ixI ti26 rfl ti35 rfl rfl rfl q10 <| u <| ldI ti35 rfl (idx_some q10).2.2 rfl <| u <| al 1 ti35 rfl <| u <| asg rfl <| u <| sto ti35 rfl rfl rfl <| r_nil ?_
      obtain ⟨v17, q11, h⟩ := bs h
      obtain ⟨v20, q15, h⟩ := bs h
      refine rg rfl <| u <| mv rfl <| u <| ld ti35 rfl rfl <| u <| pc (class_May_4_ok v16 v3 v4 v5 v6 v7 v8 q11) rfl rfl rfl <| u <| nt rfl <| u <| mv rfl <| r_or (x := v20) (j := 4) 5 rfl rfl rfl rfl rfl gpn (fun hb12 => by replace q15 := bF hb12 q15; obtain ⟨v18, q13, q15⟩ := bs q15; obtain ⟨v19, q14, q15⟩ := bs q15; obtain rfl := sm q15; exact g rfl hb12 <| mv rfl <| g rfl hb12 <| mv rfl <| g rfl hb12 <| slI (a := 0) (b := v15) ti26 rfl ti35 rfl rfl rfl (bnd_hi rfl q13) q13 <| g rfl hb12 <| mf rfl rfl <| g rfl hb12 <| pcs (slices_ContainsFunc_api_Method_api_Method_ok v18 v16.Name v16.Params v16.Ret v16.Static v16.Abstract v16.Locals v16.Stack v16.Code v16.Maps v16.Traps q14) rfl rfl (.cons (si rfl) (.cons (sealFn trivial ⟨(sealBox rfl ⟨(si rfl), trivial⟩), (sealBox rfl ⟨(si rfl), (si rfl), (si rfl), (si rfl), (si rfl), (si rfl), (si rfl), (si rfl), (si rfl), (si rfl), trivial⟩), trivial⟩) .nil)) plainB <| r_nil (eg [23, 24, 25, 26, 27] 5 rfl rfl rfl rfl)) (fun hb => (sm (bT hb q15)).symm) <| r_nil ?_
      refine sw_cond rfl (fun hc16 => ?_) (fun hc16 => ?_)
      · replace h := bT hc16 h
        refine rg rfl <| u <| asg rfl <| r_nil ?_
        refine sw_ret ?_
        obtain rfl := sm h
        exact ⟨_, rfl, _, rfl, [], ci rfl, rfl, trivial, rfl, Nat.le_of_ble_eq_true rfl⟩
      · replace h := bF hc16 h
        refine sw_skip ?_
        refine rl rfl <| u <| add ti3 rfl rfl <| u <| mv rfl <| r_nil ?_
        obtain rfl := sm h
        exact ⟨_, rfl, [.old 0], ce rfl rfl <| ce rfl rfl <| ce rfl rfl <| cv rfl (.mpt rfl) <| ce rfl rfl <| ce rfl rfl <| ce rfl rfl <| cn, rfl, ⟨⟨_, rfl, rsOne ⟨ci rfl, trivial⟩⟩, trivial⟩, rfl, Nat.le_of_ble_eq_true rfl⟩
    · replace h := bF hc9 h
      refine sw_exit ?_
      obtain rfl := sm h
      exact ⟨rfl, _, rfl, [], ce rfl rfl <| ce rfl rfl <| cn, rfl, trivial, rfl, Nat.le_of_ble_eq_true rfl⟩
  · rintro ⟨⟩ rfl
    replace h : class_all_api_Method_k2 v1 v2 = some r := h
    unfold class_all_api_Method_k2 at h
    refine ow_intro ?_
    refine rg rfl <| u <| mv rfl <| u <| lnI ti26 rfl rfl <| u <| mv rfl <| u <| leq ti3 rfl rfl <| u <| asg rfl <| r_nil ?_
    refine sw_ret ?_
    obtain rfl := sm h
    exact ⟨_, rfl, [], ci rfl, rfl, trivial, rfl, Nat.le_of_ble_eq_true rfl⟩
  · rintro r' rfl env st hp
    obtain rfl := sm h
    exact hp

noncomputable def class_self (v1 : List UInt8) : (List UInt8) :=
  v1
theorem class_self_ok (v1 : List UInt8) {r : (List UInt8)} (h : class_self v1 = r) : PureC Tryz.prog 35 [.lit (.string (B v1))] (.lit (.string (B r))) := by
  refine pure_fn Tryz.func35 rfl (by kernel_rfl) rfl rfl ?_
  unfold class_self at h
  refine rg rfl <| u <| asg rfl <| r_nil ?_
  refine rg rfl <| u <| mv rfl <| u <| asg rfl <| r_nil ?_
  refine sw_ret ?_
  obtain rfl := h
  exact ⟨_, rfl, [], ci rfl, rfl, trivial, rfl, Nat.le_of_ble_eq_true rfl⟩

noncomputable def class_all_string_1 (v1 : List UInt8) (v2 : List UInt8) : Bool :=
  ((class_self v2) == (class_self v1))
theorem class_all_string_1_ok (v1 : List UInt8) (v2 : List UInt8) {r : Bool} (h : class_all_string_1 v1 v2 = r) : PureC Tryz.prog 100 [.lit (.string (B v1)), .ipt 1 [[.fn (.func 35) [] []]] 0 0, .ipt 1 [[.lit (.string (B v2))]] 0 0] (.lit (.bool r)) := by
  refine pure_fn Tryz.func100 rfl (by kernel_rfl) rfl rfl ?_
  unfold class_all_string_1 at h
  refine rg rfl <| u <| asg rfl <| r_nil ?_
  refine rd [(4, .lit (.bool ((class_self v2) == (class_self v1))))] [] [] [7, 6, 5, 4, 3, 2, 1, 0] [(4, .lit (.bool ((class_self v2) == (class_self v1)))), (11, .lit (.bool ((class_self v2) == (class_self v1)))), (10, .lit (.string (B (class_self v1)))), (9, .lit (.string (B v1))), (8, .fn (.func 35) [] []), (7, .lit (.string (B (class_self v2)))), (6, .lit (.string (B v2))), (5, .fn (.func 35) [] [])] 0 (by kernel_rfl) (by kernel_rfl) rfl (by kernel_rfl) (dt0 ⟨(fun _ => pa rfl rfl rfl rfl (asg rfl <| ⟨rfl, rfl⟩)), (fun _ => pa rfl rfl rfl rfl (seq ti9 rfl rfl <| ⟨rfl, rfl⟩)), (fun _ => pa rfl rfl rfl rfl (pc (class_self_ok v1 rfl) rfl rfl rfl <| ⟨rfl, rfl⟩)), (fun _ => pa rfl rfl rfl rfl (mv rfl <| ⟨rfl, rfl⟩)), (fun _ => pa rfl rfl rfl rfl (ld ti64 rfl rfl <| ⟨rfl, rfl⟩)), (fun _ => pa rfl rfl rfl rfl (pc (class_self_ok v2 rfl) rfl rfl rfl <| ⟨rfl, rfl⟩)), (fun _ => pa rfl rfl rfl rfl (ld ti9 rfl rfl <| ⟨rfl, rfl⟩)), (fun _ => pa rfl rfl rfl rfl (ld ti64 rfl rfl <| ⟨rfl, rfl⟩)), trivial⟩ (by kernel_rfl) rfl ⟨[], ce rfl rfl <| cn, rfl, trivial, rfl, Nat.le_of_ble_eq_true rfl⟩) ?_
  refine sw_ret ?_
  obtain rfl := h
  exact ⟨_, rfl, [], ci rfl, rfl, trivial, rfl, Nat.le_of_ble_eq_true rfl⟩

noncomputable def slices_IndexFunc_string_string_s3_k2 : Option (Int) :=
  some (-1)
noncomputable def slices_IndexFunc_string_string_s3_l1 (v1 : List (List UInt8)) (v2 : List UInt8) (v5 : Int) : Option (Sum (Int) (Sum (Unit) (Int))) :=
  cond (decide (v5 < (List.length v1 : Int))) ((idx v1 v5).bind fun v6 => cond (class_all_string_1 v6 v2) (some (.inr (.inr v5))) (some (.inl (IntKind.i64.wrap (v5 + 1))))) (some (.inr (.inl ())))
noncomputable def slices_IndexFunc_string_string_s3 (v1 : List (List UInt8)) (v2 : List UInt8) : Option (Int) :=
  (loopP (fun z => slices_IndexFunc_string_string_s3_l1 v1 v2 z) 0).bind fun o => leave o (fun b => slices_IndexFunc_string_string_s3_k2) some
theorem slices_IndexFunc_string_string_s3_ok (v1 : List (List UInt8)) (v2 : List UInt8) {r : Int} (h : slices_IndexFunc_string_string_s3 v1 v2 = some r) : PureC Tryz.prog 146 [.isl 1 (List.map rStr v1), .fn (.func 100) [] [.ipt 1 [[.fn (.func 35) [] []]] 0 0, .ipt 1 [[.lit (.string (B v2))]] 0 0]] (.lit (.int .i64 r)) := by
  refine pure_fn Tryz.func146 rfl (by kernel_rfl) rfl rfl ?_
  unfold slices_IndexFunc_string_string_s3 at h
  refine rg rfl <| u <| asg rfl <| r_nil ?_
  refine sw_seq ?_
  refine rg rfl <| u <| mv rfl <| u <| lnI ti24 rfl rfl <| u <| mv rfl <| r_nil ?_
  obtain ⟨o, ho, h⟩ := bs h
  refine sw_lpl (X := Int) (B := Unit) (R := Int) (fun z => [(0, .isl 1 (List.map rStr v1)), (1, .fn (.func 100) [] [.ipt 1 [[.fn (.func 35) [] []]] 0 0, .ipt 1 [[.lit (.string (B v2))]] 0 0]), (7, .lit (.int .i64 (List.length v1 : Int))), (8, .lit (.int .i64 z))]) (fun z => []) (fun b => []) (fun b => []) (fun r env st => PostF Tryz.prog Tryz.f146 0 (.lit (.int .i64 r)) [] env st) ho ⟨[], ce rfl rfl <| ce rfl rfl <| ce rfl rfl <| ce rfl rfl <| cn, rfl, trivial, rfl, Nat.le_of_ble_eq_true rfl⟩ ?_ ?_ ?_
  · rintro v5 r h
    replace h : slices_IndexFunc_string_string_s3_l1 v1 v2 v5 = some r := h
    unfold slices_IndexFunc_string_string_s3_l1 at h
    refine rg rfl <| u <| lss ti3 rfl rfl <| r_nil ?_
    refine sw_seq ?_
    refine sw_cond rfl (fun hc4 => ?_) (fun hc4 => ?_)
    · replace h := bT hc4 h
      refine sw_skip ?_
      refine sw_seq ?_
      refine sw_block ?_
      refine rg rfl <| u <| mv rfl <| u <| asg rfl <| r_nil ?_
      obtain ⟨v6, q5, h⟩ := bs h
      refine rg rfl <| u <| mv rfl <| u <| mv rfl <| u <| mv rfl <| u <| ixI ti24 rfl ti9 rfl rfl rfl q5 <| u <| ldI ti9 rfl (idx_some q5).2.2 rfl <| u <| pc (class_all_string_1_ok v6 v2 rfl) rfl rfl rfl <| r_nil ?_
      refine sw_cond rfl (fun hc6 => ?_) (fun hc6 => ?_)
      · replace h := bT hc6 h
        refine rg rfl <| u <| mv rfl <| u <| asg rfl <| r_nil ?_
        refine sw_ret ?_
        obtain rfl := sm h
        exact ⟨_, rfl, _, rfl, [], ci rfl, rfl, trivial, rfl, Nat.le_of_ble_eq_true rfl⟩
      · replace h := bF hc6 h
        refine sw_skip ?_
        refine rl rfl <| u <| add ti3 rfl rfl <| u <| mv rfl <| r_nil ?_
        obtain rfl := sm h
        exact ⟨_, rfl, [], ce rfl rfl <| ce rfl rfl <| ce rfl rfl <| ce rfl rfl <| cn, rfl, trivial, rfl, Nat.le_of_ble_eq_true rfl⟩
    · replace h := bF hc4 h
      refine sw_exit ?_
      obtain rfl := sm h
      exact ⟨rfl, _, rfl, [], cn, rfl, trivial, rfl, Nat.le_of_ble_eq_true rfl⟩
  · rintro ⟨⟩ rfl
    replace h : slices_IndexFunc_string_string_s3_k2 = some r := h
    unfold slices_IndexFunc_string_string_s3_k2 at h
    refine ow_intro ?_
    refine rg rfl <| u <| asg rfl <| r_nil ?_
    refine sw_ret ?_
    obtain rfl := sm h
    exact ⟨_, rfl, [], ci rfl, rfl, trivial, rfl, Nat.le_of_ble_eq_true rfl⟩
  · rintro r' rfl env st hp
    obtain rfl := sm h
    exact hp

noncomputable def slices_ContainsFunc_string_string_s3 (v1 : List (List UInt8)) (v2 : List UInt8) : Option (Bool) :=
  (slices_IndexFunc_string_string_s3 v1 v2).bind fun v3 => some (decide (0 ≤ v3))
theorem slices_ContainsFunc_string_string_s3_ok (v1 : List (List UInt8)) (v2 : List UInt8) {r : Bool} (h : slices_ContainsFunc_string_string_s3 v1 v2 = some r) : PureC Tryz.prog 99 [.isl 1 (List.map rStr v1), .fn (.func 100) [] [.ipt 1 [[.fn (.func 35) [] []]] 0 0, .ipt 1 [[.lit (.string (B v2))]] 0 0]] (.lit (.bool r)) := by
  refine pure_fn Tryz.func99 rfl (by kernel_rfl) rfl rfl ?_
  unfold slices_ContainsFunc_string_string_s3 at h
  refine rg rfl <| u <| asg rfl <| r_nil ?_
  obtain ⟨v3, q1, h⟩ := bs h
  refine rg rfl <| u <| mv rfl <| u <| mv rfl <| u <| pc (slices_IndexFunc_string_string_s3_ok v1 v2 q1) rfl rfl rfl <| u <| geq ti3 rfl rfl <| u <| asg rfl <| r_nil ?_
  refine sw_ret ?_
  obtain rfl := sm h
  exact ⟨_, rfl, [], ci rfl, rfl, trivial, rfl, Nat.le_of_ble_eq_true rfl⟩

noncomputable def class_all_string_k2 (v1 : List (List UInt8)) (v2 : Int) : Option (Bool) :=
  some (decide ((List.length v1 : Int) ≤ v2))
noncomputable def class_all_string_l1 (v1 : List (List UInt8)) (v9 : Int) : Option (Sum (Int) (Sum (Unit) (Bool))) :=
  cond (decide (v9 < (List.length v1 : Int))) ((idx v1 v9).bind fun v10 => (kind_Class v10).bind fun v11 => (cond (!v11) (some true) ((cutP v1 0 v9).bind fun v12 => (slices_ContainsFunc_string_string_s3 v12 v10).bind fun v13 => some v13)).bind fun v14 => cond v14 (some (.inr (.inr false))) (some (.inl (IntKind.i64.wrap (v9 + 1))))) (some (.inr (.inl ())))
noncomputable def class_all_string (v1 : List (List UInt8)) (v2 : Int) : Option (Bool) :=
  (loopP (fun z => class_all_string_l1 v1 z) 0).bind fun o => leave o (fun b => class_all_string_k2 v1 v2) some
theorem class_all_string_ok (v1 : List (List UInt8)) (v2 : Int) {r : Bool} (h : class_all_string v1 v2 = some r) : PureC Tryz.prog 34 [.isl 1 (List.map rStr v1), .lit (.int .i64 v2), .fn (.func 35) [] [], .fn (.func 33) [] []] (.lit (.bool r)) := by
  refine pure_fn Tryz.func34 rfl (by kernel_rfl) rfl rfl ?_
  unfold class_all_string at h
  refine rg rfl <| u <| bx 0 1 rfl rfl rfl rfl <| u <| asg rfl <| r_nil ?_
  refine sw_seq ?_
  refine rg rfl <| u <| mv rfl <| u <| lnI ti24 rfl rfl <| u <| mv rfl <| r_nil ?_
  obtain ⟨o, ho, h⟩ := bs h
  refine sw_lpl (X := Int) (B := Unit) (R := Bool) (fun z => [(0, .isl 1 (List.map rStr v1)), (1, .lit (.int .i64 v2)), (3, .fn (.func 33) [] []), (6, .mpt 0 0 0), (11, .isl 1 (List.map rStr v1)), (12, .lit (.int .i64 (List.length v1 : Int))), (13, .lit (.int .i64 z))]) (fun z => [some (1, [[.fn (.func 35) [] []]])]) (fun b => [(0, .isl 1 (List.map rStr v1)), (1, .lit (.int .i64 v2))]) (fun b => []) (fun r env st => PostF Tryz.prog Tryz.f34 0 (.lit (.bool r)) [] env st) ho ⟨[.old 0], ce rfl rfl <| ce rfl rfl <| ce rfl rfl <| cv rfl (.mpt rfl) <| ce rfl rfl <| ce rfl rfl <| ce rfl rfl <| cn, rfl, ⟨⟨_, rfl, rsOne ⟨ci rfl, trivial⟩⟩, trivial⟩, rfl, Nat.le_of_ble_eq_true rfl⟩ ?_ ?_ ?_
  · rintro v9 r h
    replace h : class_all_string_l1 v1 v9 = some r := h
    unfold class_all_string_l1 at h
    refine rg rfl <| u <| lss ti3 rfl rfl <| r_nil ?_
    refine sw_seq ?_
    refine sw_cond rfl (fun hc9 => ?_) (fun hc9 => ?_)
    · replace h := bT hc9 h
      refine sw_skip ?_
      refine sw_seq ?_
      refine sw_block ?_
      obtain ⟨v10, q10, h⟩ := bs h
      refine rg rfl <| u <| mv rfl <| u <| ixI ti24 rfl ti9 rfl rfl rfl q10 <| u <| ldI ti9 rfl (idx_some q10).2.2 rfl <| u <| al 1 ti9 rfl <| u <| asg rfl <| u <| sto ti9 rfl rfl rfl <| r_nil ?_
      obtain ⟨v11, q11, h⟩ := bs h
      obtain ⟨v14, q15, h⟩ := bs h
      refine rg rfl <| u <| mv rfl <| u <| ld ti9 rfl rfl <| u <| pc (kind_Class_ok v10 q11) rfl rfl rfl <| u <| nt rfl <| u <| mv rfl <| r_or (x := v14) (j := 4) 5 rfl rfl rfl rfl rfl gpn (fun hb12 => by replace q15 := bF hb12 q15; obtain ⟨v12, q13, q15⟩ := bs q15; obtain ⟨v13, q14, q15⟩ := bs q15; obtain rfl := sm q15; exact g rfl hb12 <| mv rfl <| g rfl hb12 <| mv rfl <| g rfl hb12 <| slI (a := 0) (b := v9) ti24 rfl ti9 rfl rfl rfl (bnd_hi rfl q13) q13 <| g rfl hb12 <| mf rfl rfl <| g rfl hb12 <| pcs (slices_ContainsFunc_string_string_s3_ok v12 v10 q14) rfl rfl (.cons (si rfl) (.cons (sealFn trivial ⟨(sealBox rfl ⟨(si rfl), trivial⟩), (sealBox rfl ⟨(si rfl), trivial⟩), trivial⟩) .nil)) plainB <| r_nil (eg [23, 24, 25, 26, 27] 5 rfl rfl rfl rfl)) (fun hb => (sm (bT hb q15)).symm) <| r_nil ?_
      refine sw_cond rfl (fun hc16 => ?_) (fun hc16 => ?_)
      · replace h := bT hc16 h
        refine rg rfl <| u <| asg rfl <| r_nil ?_
        refine sw_ret ?_
        obtain rfl := sm h
        exact ⟨_, rfl, _, rfl, [], ci rfl, rfl, trivial, rfl, Nat.le_of_ble_eq_true rfl⟩
      · replace h := bF hc16 h
        refine sw_skip ?_
        refine rl rfl <| u <| add ti3 rfl rfl <| u <| mv rfl <| r_nil ?_
        obtain rfl := sm h
        exact ⟨_, rfl, [.old 0], ce rfl rfl <| ce rfl rfl <| ce rfl rfl <| cv rfl (.mpt rfl) <| ce rfl rfl <| ce rfl rfl <| ce rfl rfl <| cn, rfl, ⟨⟨_, rfl, rsOne ⟨ci rfl, trivial⟩⟩, trivial⟩, rfl, Nat.le_of_ble_eq_true rfl⟩
    · replace h := bF hc9 h
      refine sw_exit ?_
      obtain rfl := sm h
      exact ⟨rfl, _, rfl, [], ce rfl rfl <| ce rfl rfl <| cn, rfl, trivial, rfl, Nat.le_of_ble_eq_true rfl⟩
  · rintro ⟨⟩ rfl
    replace h : class_all_string_k2 v1 v2 = some r := h
    unfold class_all_string_k2 at h
    refine ow_intro ?_
    refine rg rfl <| u <| mv rfl <| u <| lnI ti24 rfl rfl <| u <| mv rfl <| u <| leq ti3 rfl rfl <| u <| asg rfl <| r_nil ?_
    refine sw_ret ?_
    obtain rfl := sm h
    exact ⟨_, rfl, [], ci rfl, rfl, trivial, rfl, Nat.le_of_ble_eq_true rfl⟩
  · rintro r' rfl env st hp
    obtain rfl := sm h
    exact hp

noncomputable def class_May (v1 : ApiClass) : Option (Bool) :=
  cond (v1.Interface && ((!(v1.Super == [79, 98, 106, 101, 99, 116])) || (decide (0 < (List.length v1.Fields : Int))))) (some false) ((class_all_api_Field v1.Fields 8).bind fun v2 => (class_all_api_Method v1.Methods 8 v1.Name v1.Super v1.Interface v1.Impl v1.Fields v1.Methods).bind fun v3 => (kind_Class v1.Name).bind fun v4 => (cond v4 ((kind_Class v1.Super).bind fun v5 => some v5) (some false)).bind fun v6 => (cond v6 ((class_all_string v1.Impl 4).bind fun v7 => some v7) (some false)).bind fun v8 => some ((v8 && v2) && v3))
theorem class_May_ok (v1 : ApiClass) {r : Bool} (h : class_May v1 = some r) : PureC Tryz.prog 10 [.agg [.lit (.string (B v1.Name)), .lit (.string (B v1.Super)), .lit (.bool v1.Interface), .isl 1 (List.map rStr v1.Impl), .isl 3 (List.map rApiField v1.Fields), .isl 10 (List.map rApiMethod v1.Methods)]] (.lit (.bool r)) := by
  refine pure_fn Tryz.func10 rfl (by kernel_rfl) rfl rfl ?_
  unfold class_May at h
  refine rg rfl <| u <| bx 0 6 rfl rfl rfl rfl <| u <| asg rfl <| r_nil ?_
  refine sw_seq ?_
  refine rg rfl <| u <| fa ti28 rfl rfl rfl <| u <| ld ti4 rfl rfl <| u <| mv rfl <| r_and (x := (v1.Interface && ((!(v1.Super == [79, 98, 106, 101, 99, 116])) || (decide (0 < (List.length v1.Fields : Int)))))) (j := 2) 9 rfl rfl rfl rfl rfl gpn (fun hb1 => g rfl hb1 <| fa ti28 rfl rfl rfl <| g rfl hb1 <| ld ti9 rfl rfl <| g rfl hb1 <| sne ti9 rfl rfl <| g rfl hb1 <| mv rfl <| r_or (x := ((!(v1.Super == [79, 98, 106, 101, 99, 116])) || (decide (0 < (List.length v1.Fields : Int))))) (j := 6) 4 rfl rfl rfl rfl rfl (gps rfl rfl hb1) (fun hb2 => g rfl hb2 <| fa ti28 rfl rfl rfl <| g rfl hb2 <| ld ti25 rfl rfl <| g rfl hb2 <| lnI ti25 rfl rfl <| g rfl hb2 <| gtr ti3 rfl rfl <| r_nil (egO [12, 13, 14, 15] 4 hb2 rfl rfl rfl rfl)) orT <| r_nil (egA [8, 9, 10, 11, 12, 13, 14, 15, 16] 5 hb1 rfl rfl rfl rfl)) andF <| r_nil ?_
  refine sw_cond rfl (fun hc3 => ?_) (fun hc3 => ?_)
  · replace h := bT hc3 h
    refine rg rfl <| u <| asg rfl <| r_nil ?_
    refine sw_ret ?_
    obtain rfl := sm h
    exact ⟨_, rfl, [], ci rfl, rfl, trivial, rfl, Nat.le_of_ble_eq_true rfl⟩
  · replace h := bF hc3 h
    refine sw_skip ?_
    obtain ⟨v2, q4, h⟩ := bs h
    refine rg rfl <| u <| fa ti28 rfl rfl rfl <| u <| ld ti25 rfl rfl <| u <| pc (class_all_api_Field_ok v1.Fields 8 q4) rfl rfl rfl <| u <| asg rfl <| r_nil ?_
    obtain ⟨v3, q5, h⟩ := bs h
    refine rg rfl <| u <| fa ti28 rfl rfl rfl <| u <| ld ti26 rfl rfl <| u <| mf rfl rfl <| u <| pcs (class_all_api_Method_ok v1.Methods 8 v1.Name v1.Super v1.Interface v1.Impl v1.Fields v1.Methods q5) rfl rfl (.cons (si rfl) (.cons (si rfl) (.cons (si rfl) (.cons (sealFn trivial ⟨(sealBox rfl ⟨(si rfl), (si rfl), (si rfl), (si rfl), (si rfl), (si rfl), trivial⟩), trivial⟩) .nil)))) plainB <| u <| asg rfl <| r_nil ?_
    obtain ⟨v4, q6, h⟩ := bs h
    obtain ⟨v6, q9, h⟩ := bs h
    obtain ⟨v8, q12, h⟩ := bs h
    refine rg rfl <| u <| fa ti28 rfl rfl rfl <| u <| ld ti9 rfl rfl <| u <| pc (kind_Class_ok v1.Name q6) rfl rfl rfl <| u <| mv rfl <| r_and (x := v6) (j := 3) 3 rfl rfl rfl rfl rfl gpn (fun hb7 => by replace q9 := bT hb7 q9; obtain ⟨v5, q8, q9⟩ := bs q9; obtain rfl := sm q9; exact g rfl hb7 <| fa ti28 rfl rfl rfl <| g rfl hb7 <| ld ti9 rfl rfl <| g rfl hb7 <| pc (kind_Class_ok v1.Super q8) rfl rfl rfl <| r_nil (eg [29, 30, 31] 3 rfl rfl rfl rfl)) (fun hb => (sm (bF hb q9)).symm) <| u <| mv rfl <| r_and (x := v8) (j := 8) 3 rfl rfl rfl rfl rfl gpn (fun hb10 => by replace q12 := bT hb10 q12; obtain ⟨v7, q11, q12⟩ := bs q12; obtain rfl := sm q12; exact g rfl hb10 <| fa ti28 rfl rfl rfl <| g rfl hb10 <| ld ti24 rfl rfl <| g rfl hb10 <| pc (class_all_string_ok v1.Impl 4 q11) rfl rfl rfl <| r_nil (eg [34, 35, 36] 3 rfl rfl rfl rfl)) (fun hb => (sm (bF hb q12)).symm) <| u <| mv rfl <| r_and (x := (v8 && v2)) (j := 13) 1 rfl rfl rfl rfl rfl gpn (fun hb13 => g rfl hb13 <| mv rfl <| r_nil (egA [39] 1 hb13 rfl rfl rfl rfl)) andF <| u <| mv rfl <| r_and (x := ((v8 && v2) && v3)) (j := 16) 1 rfl rfl rfl rfl rfl gpn (fun hb14 => g rfl hb14 <| mv rfl <| r_nil (egA [42] 1 hb14 rfl rfl rfl rfl)) andF <| u <| asg rfl <| r_nil ?_
    refine sw_ret ?_
    obtain rfl := sm h
    exact ⟨_, rfl, [], ci rfl, rfl, trivial, rfl, Nat.le_of_ble_eq_true rfl⟩

noncomputable def class_Method_1 (v1 : ApiMethod) (v2 : List UInt8) : Bool :=
  (v1.Name == v2)
theorem class_Method_1_ok (v1 : ApiMethod) (v2 : List UInt8) {r : Bool} (h : class_Method_1 v1 v2 = r) : PureC Tryz.prog 80 [.agg [.lit (.string (B v1.Name)), .isl 1 (List.map rStr v1.Params), .lit (.string (B v1.Ret)), .lit (.bool v1.Static), .lit (.bool v1.Abstract), .lit (.int .i64 v1.Locals), .lit (.int .i64 v1.Stack), .isl 4 (List.map rApiIns v1.Code), .isl 3 (List.map rApiMap v1.Maps), .isl 4 (List.map rApiTrap v1.Traps)], .ipt 1 [[.lit (.string (B v2))]] 0 0] (.lit (.bool r)) := by
  refine pure_fn Tryz.func80 rfl (by kernel_rfl) rfl rfl ?_
  unfold class_Method_1 at h
  refine rg rfl <| u <| bx 0 10 rfl rfl rfl rfl <| u <| asg rfl <| r_nil ?_
  refine rg rfl <| u <| fa ti35 rfl rfl rfl <| u <| ld ti9 rfl rfl <| u <| ld ti9 rfl rfl <| u <| seq ti9 rfl rfl <| u <| asg rfl <| r_nil ?_
  refine sw_ret ?_
  obtain rfl := h
  exact ⟨_, rfl, [], ci rfl, rfl, trivial, rfl, Nat.le_of_ble_eq_true rfl⟩

noncomputable def slices_IndexFunc_api_Method_api_Method_s2_k2 : Option (Int) :=
  some (-1)
noncomputable def slices_IndexFunc_api_Method_api_Method_s2_l1 (v1 : List ApiMethod) (v2 : List UInt8) (v5 : Int) : Option (Sum (Int) (Sum (Unit) (Int))) :=
  cond (decide (v5 < (List.length v1 : Int))) ((idx v1 v5).bind fun v6 => cond (class_Method_1 v6 v2) (some (.inr (.inr v5))) (some (.inl (IntKind.i64.wrap (v5 + 1))))) (some (.inr (.inl ())))
noncomputable def slices_IndexFunc_api_Method_api_Method_s2 (v1 : List ApiMethod) (v2 : List UInt8) : Option (Int) :=
  (loopP (fun z => slices_IndexFunc_api_Method_api_Method_s2_l1 v1 v2 z) 0).bind fun o => leave o (fun b => slices_IndexFunc_api_Method_api_Method_s2_k2) some
theorem slices_IndexFunc_api_Method_api_Method_s2_ok (v1 : List ApiMethod) (v2 : List UInt8) {r : Int} (h : slices_IndexFunc_api_Method_api_Method_s2 v1 v2 = some r) : PureC Tryz.prog 79 [.isl 10 (List.map rApiMethod v1), .fn (.func 80) [] [.ipt 1 [[.lit (.string (B v2))]] 0 0]] (.lit (.int .i64 r)) := by
  refine pure_fn Tryz.func79 rfl (by kernel_rfl) rfl rfl ?_
  unfold slices_IndexFunc_api_Method_api_Method_s2 at h
  refine rg rfl <| u <| asg rfl <| r_nil ?_
  refine sw_seq ?_
  refine rg rfl <| u <| mv rfl <| u <| lnI ti26 rfl rfl <| u <| mv rfl <| r_nil ?_
  obtain ⟨o, ho, h⟩ := bs h
  refine sw_lpl (X := Int) (B := Unit) (R := Int) (fun z => [(0, .isl 10 (List.map rApiMethod v1)), (1, .fn (.func 80) [] [.ipt 1 [[.lit (.string (B v2))]] 0 0]), (7, .lit (.int .i64 (List.length v1 : Int))), (8, .lit (.int .i64 z))]) (fun z => []) (fun b => []) (fun b => []) (fun r env st => PostF Tryz.prog Tryz.f79 0 (.lit (.int .i64 r)) [] env st) ho ⟨[], ce rfl rfl <| ce rfl rfl <| ce rfl rfl <| ce rfl rfl <| cn, rfl, trivial, rfl, Nat.le_of_ble_eq_true rfl⟩ ?_ ?_ ?_
  · rintro v5 r h
    replace h : slices_IndexFunc_api_Method_api_Method_s2_l1 v1 v2 v5 = some r := h
    unfold slices_IndexFunc_api_Method_api_Method_s2_l1 at h
    refine rg rfl <| u <| lss ti3 rfl rfl <| r_nil ?_
    refine sw_seq ?_
    refine sw_cond rfl (fun hc4 => ?_) (fun hc4 => ?_)
    · replace h := bT hc4 h
      refine sw_skip ?_
      refine sw_seq ?_
      refine sw_block ?_
      refine rg rfl <| u <| mv rfl <| u <| asg rfl <| r_nil ?_
      obtain ⟨v6, q5, h⟩ := bs h
      refine rg rfl <| u <| mv rfl <| u <| mv rfl <| u <| mv rfl <| u <| ixI ti26 rfl ti35 rfl rfl rfl q5 <| u <| ldI ti35 rfl (idx_some q5).2.2 rfl <| u <| pc (class_Method_1_ok v6 v2 rfl) rfl rfl rfl <| r_nil ?_
      refine sw_cond rfl (fun hc6 => ?_) (fun hc6 => ?_)
      · replace h := bT hc6 h
        refine rg rfl <| u <| mv rfl <| u <| asg rfl <| r_nil ?_
        refine sw_ret ?_
        obtain rfl := sm h
        exact ⟨_, rfl, _, rfl, [], ci rfl, rfl, trivial, rfl, Nat.le_of_ble_eq_true rfl⟩
      · replace h := bF hc6 h
        refine sw_skip ?_
        refine rl rfl <| u <| add ti3 rfl rfl <| u <| mv rfl <| r_nil ?_
        obtain rfl := sm h
        exact ⟨_, rfl, [], ce rfl rfl <| ce rfl rfl <| ce rfl rfl <| ce rfl rfl <| cn, rfl, trivial, rfl, Nat.le_of_ble_eq_true rfl⟩
    · replace h := bF hc4 h
      refine sw_exit ?_
      obtain rfl := sm h
      exact ⟨rfl, _, rfl, [], cn, rfl, trivial, rfl, Nat.le_of_ble_eq_true rfl⟩
  · rintro ⟨⟩ rfl
    replace h : slices_IndexFunc_api_Method_api_Method_s2_k2 = some r := h
    unfold slices_IndexFunc_api_Method_api_Method_s2_k2 at h
    refine ow_intro ?_
    refine rg rfl <| u <| asg rfl <| r_nil ?_
    refine sw_ret ?_
    obtain rfl := sm h
    exact ⟨_, rfl, [], ci rfl, rfl, trivial, rfl, Nat.le_of_ble_eq_true rfl⟩
  · rintro r' rfl env st hp
    obtain rfl := sm h
    exact hp

noncomputable def class_Method (v1 : ApiClass) (v2 : List UInt8) : Option (Int) :=
  (slices_IndexFunc_api_Method_api_Method_s2 v1.Methods v2).bind fun v3 => some v3
theorem class_Method_ok (v1 : ApiClass) (v2 : List UInt8) {r : Int} (h : class_Method v1 v2 = some r) : PureC Tryz.prog 22 [.agg [.lit (.string (B v1.Name)), .lit (.string (B v1.Super)), .lit (.bool v1.Interface), .isl 1 (List.map rStr v1.Impl), .isl 3 (List.map rApiField v1.Fields), .isl 10 (List.map rApiMethod v1.Methods)], .lit (.string (B v2))] (.lit (.int .i64 r)) := by
  refine pure_fn Tryz.func22 rfl (by kernel_rfl) rfl rfl ?_
  unfold class_Method at h
  refine rg rfl <| u <| bx 0 6 rfl rfl rfl rfl <| u <| bx 1 1 rfl rfl rfl rfl <| u <| asg rfl <| r_nil ?_
  obtain ⟨v3, q1, h⟩ := bs h
  refine rg rfl <| u <| fa ti28 rfl rfl rfl <| u <| ld ti26 rfl rfl <| u <| mf rfl rfl <| u <| pcs (slices_IndexFunc_api_Method_api_Method_s2_ok v1.Methods v2 q1) rfl rfl (.cons (si rfl) (.cons (sealFn trivial ⟨(sealBox rfl ⟨(si rfl), trivial⟩), trivial⟩) .nil)) plainB <| u <| asg rfl <| r_nil ?_
  refine sw_ret ?_
  obtain rfl := sm h
  exact ⟨_, rfl, [], ci rfl, rfl, trivial, rfl, Nat.le_of_ble_eq_true rfl⟩

noncomputable def class_Field_1 (v1 : ApiField) (v2 : List UInt8) : Bool :=
  (v1.Name == v2)
theorem class_Field_1_ok (v1 : ApiField) (v2 : List UInt8) {r : Bool} (h : class_Field_1 v1 v2 = r) : PureC Tryz.prog 82 [.agg [.lit (.string (B v1.Name)), .lit (.string (B v1.Type_)), .lit (.bool v1.Static)], .ipt 1 [[.lit (.string (B v2))]] 0 0] (.lit (.bool r)) := by
  refine pure_fn Tryz.func82 rfl (by kernel_rfl) rfl rfl ?_
  unfold class_Field_1 at h
  refine rg rfl <| u <| bx 0 3 rfl rfl rfl rfl <| u <| asg rfl <| r_nil ?_
  refine rg rfl <| u <| fa ti53 rfl rfl rfl <| u <| ld ti9 rfl rfl <| u <| ld ti9 rfl rfl <| u <| seq ti9 rfl rfl <| u <| asg rfl <| r_nil ?_
  refine sw_ret ?_
  obtain rfl := h
  exact ⟨_, rfl, [], ci rfl, rfl, trivial, rfl, Nat.le_of_ble_eq_true rfl⟩

noncomputable def slices_IndexFunc_api_Field_api_Field_s2_k2 : Option (Int) :=
  some (-1)
noncomputable def slices_IndexFunc_api_Field_api_Field_s2_l1 (v1 : List ApiField) (v2 : List UInt8) (v5 : Int) : Option (Sum (Int) (Sum (Unit) (Int))) :=
  cond (decide (v5 < (List.length v1 : Int))) ((idx v1 v5).bind fun v6 => cond (class_Field_1 v6 v2) (some (.inr (.inr v5))) (some (.inl (IntKind.i64.wrap (v5 + 1))))) (some (.inr (.inl ())))
noncomputable def slices_IndexFunc_api_Field_api_Field_s2 (v1 : List ApiField) (v2 : List UInt8) : Option (Int) :=
  (loopP (fun z => slices_IndexFunc_api_Field_api_Field_s2_l1 v1 v2 z) 0).bind fun o => leave o (fun b => slices_IndexFunc_api_Field_api_Field_s2_k2) some
theorem slices_IndexFunc_api_Field_api_Field_s2_ok (v1 : List ApiField) (v2 : List UInt8) {r : Int} (h : slices_IndexFunc_api_Field_api_Field_s2 v1 v2 = some r) : PureC Tryz.prog 81 [.isl 3 (List.map rApiField v1), .fn (.func 82) [] [.ipt 1 [[.lit (.string (B v2))]] 0 0]] (.lit (.int .i64 r)) := by
  refine pure_fn Tryz.func81 rfl (by kernel_rfl) rfl rfl ?_
  unfold slices_IndexFunc_api_Field_api_Field_s2 at h
  refine rg rfl <| u <| asg rfl <| r_nil ?_
  refine sw_seq ?_
  refine rg rfl <| u <| mv rfl <| u <| lnI ti25 rfl rfl <| u <| mv rfl <| r_nil ?_
  obtain ⟨o, ho, h⟩ := bs h
  refine sw_lpl (X := Int) (B := Unit) (R := Int) (fun z => [(0, .isl 3 (List.map rApiField v1)), (1, .fn (.func 82) [] [.ipt 1 [[.lit (.string (B v2))]] 0 0]), (7, .lit (.int .i64 (List.length v1 : Int))), (8, .lit (.int .i64 z))]) (fun z => []) (fun b => []) (fun b => []) (fun r env st => PostF Tryz.prog Tryz.f81 0 (.lit (.int .i64 r)) [] env st) ho ⟨[], ce rfl rfl <| ce rfl rfl <| ce rfl rfl <| ce rfl rfl <| cn, rfl, trivial, rfl, Nat.le_of_ble_eq_true rfl⟩ ?_ ?_ ?_
  · rintro v5 r h
    replace h : slices_IndexFunc_api_Field_api_Field_s2_l1 v1 v2 v5 = some r := h
    unfold slices_IndexFunc_api_Field_api_Field_s2_l1 at h
    refine rg rfl <| u <| lss ti3 rfl rfl <| r_nil ?_
    refine sw_seq ?_
    refine sw_cond rfl (fun hc4 => ?_) (fun hc4 => ?_)
    · replace h := bT hc4 h
      refine sw_skip ?_
      refine sw_seq ?_
      refine sw_block ?_
      refine rg rfl <| u <| mv rfl <| u <| asg rfl <| r_nil ?_
      obtain ⟨v6, q5, h⟩ := bs h
      refine rg rfl <| u <| mv rfl <| u <| mv rfl <| u <| mv rfl <| u <| ixI ti25 rfl ti53 rfl rfl rfl q5 <| u <| ldI ti53 rfl (idx_some q5).2.2 rfl <| u <| pc (class_Field_1_ok v6 v2 rfl) rfl rfl rfl <| r_nil ?_
      refine sw_cond rfl (fun hc6 => ?_) (fun hc6 => ?_)
      · replace h := bT hc6 h
        refine rg rfl <| u <| mv rfl <| u <| asg rfl <| r_nil ?_
        refine sw_ret ?_
        obtain rfl := sm h
        exact ⟨_, rfl, _, rfl, [], ci rfl, rfl, trivial, rfl, Nat.le_of_ble_eq_true rfl⟩
      · replace h := bF hc6 h
        refine sw_skip ?_
        refine rl rfl <| u <| add ti3 rfl rfl <| u <| mv rfl <| r_nil ?_
        obtain rfl := sm h
        exact ⟨_, rfl, [], ce rfl rfl <| ce rfl rfl <| ce rfl rfl <| ce rfl rfl <| cn, rfl, trivial, rfl, Nat.le_of_ble_eq_true rfl⟩
    · replace h := bF hc4 h
      refine sw_exit ?_
      obtain rfl := sm h
      exact ⟨rfl, _, rfl, [], cn, rfl, trivial, rfl, Nat.le_of_ble_eq_true rfl⟩
  · rintro ⟨⟩ rfl
    replace h : slices_IndexFunc_api_Field_api_Field_s2_k2 = some r := h
    unfold slices_IndexFunc_api_Field_api_Field_s2_k2 at h
    refine ow_intro ?_
    refine rg rfl <| u <| asg rfl <| r_nil ?_
    refine sw_ret ?_
    obtain rfl := sm h
    exact ⟨_, rfl, [], ci rfl, rfl, trivial, rfl, Nat.le_of_ble_eq_true rfl⟩
  · rintro r' rfl env st hp
    obtain rfl := sm h
    exact hp

noncomputable def class_Field (v1 : ApiClass) (v2 : List UInt8) : Option (Int) :=
  (slices_IndexFunc_api_Field_api_Field_s2 v1.Fields v2).bind fun v3 => some v3
theorem class_Field_ok (v1 : ApiClass) (v2 : List UInt8) {r : Int} (h : class_Field v1 v2 = some r) : PureC Tryz.prog 23 [.agg [.lit (.string (B v1.Name)), .lit (.string (B v1.Super)), .lit (.bool v1.Interface), .isl 1 (List.map rStr v1.Impl), .isl 3 (List.map rApiField v1.Fields), .isl 10 (List.map rApiMethod v1.Methods)], .lit (.string (B v2))] (.lit (.int .i64 r)) := by
  refine pure_fn Tryz.func23 rfl (by kernel_rfl) rfl rfl ?_
  unfold class_Field at h
  refine rg rfl <| u <| bx 0 6 rfl rfl rfl rfl <| u <| bx 1 1 rfl rfl rfl rfl <| u <| asg rfl <| r_nil ?_
  obtain ⟨v3, q1, h⟩ := bs h
  refine rg rfl <| u <| fa ti28 rfl rfl rfl <| u <| ld ti25 rfl rfl <| u <| mf rfl rfl <| u <| pcs (slices_IndexFunc_api_Field_api_Field_s2_ok v1.Fields v2 q1) rfl rfl (.cons (si rfl) (.cons (sealFn trivial ⟨(sealBox rfl ⟨(si rfl), trivial⟩), trivial⟩) .nil)) plainB <| u <| asg rfl <| r_nil ?_
  refine sw_ret ?_
  obtain rfl := sm h
  exact ⟨_, rfl, [], ci rfl, rfl, trivial, rfl, Nat.le_of_ble_eq_true rfl⟩
end Go.Proofs.YthhkdanpjcnegaaGreat
