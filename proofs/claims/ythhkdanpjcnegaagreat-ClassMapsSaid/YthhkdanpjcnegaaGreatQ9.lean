/- Plain laws, part 9: equal classes; the first checks. -/
import Derived.Test.YthhkdanpjcnegaaGreatQ8
namespace Go.Proofs.YthhkdanpjcnegaaGreat
set_option linter.unusedSimpArgs false
set_option linter.unusedVariables false

/-! ### Equal -/
def beqS (x y : List UInt8) : Bool := x == y
theorem eqStr {a b : List (List UInt8)} (hl : LenL a) : slices_Equal_string_string a b = some (eqL beqS a b) := by
  unfold slices_Equal_string_string
  refine equal_loop hl (fun i x y hx hy => ?_) ?_
  · unfold slices_Equal_string_string_l1
    rw [here hx, idx_nat, idx_nat, hx, hy]; rfl
  · unfold slices_Equal_string_string_l1
    rw [past]; rfl
def beqF (x y : ApiField) : Bool := (x.Name == y.Name) && ((x.Type_ == y.Type_) && ((x.Static == y.Static) && true))
theorem eqFields {a b : List ApiField} (hl : LenL a) : slices_Equal_api_Field_api_Field a b = some (eqL beqF a b) := by
  unfold slices_Equal_api_Field_api_Field
  refine equal_loop hl (fun i x y hx hy => ?_) ?_
  · unfold slices_Equal_api_Field_api_Field_l1
    rw [here hx, idx_nat, idx_nat, hx, hy]; rfl
  · unfold slices_Equal_api_Field_api_Field_l1
    rw [past]; rfl
def beqI (x y : ApiIns) : Bool := (x.Op == y.Op) && ((x.A == y.A) && ((x.C == y.C) && ((x.M == y.M) && true)))
theorem eqCode {a b : List ApiIns} (hl : LenL a) : slices_Equal_api_Ins_api_Ins a b = some (eqL beqI a b) := by
  unfold slices_Equal_api_Ins_api_Ins
  refine equal_loop hl (fun i x y hx hy => ?_) ?_
  · unfold slices_Equal_api_Ins_api_Ins_l1
    rw [here hx, idx_nat, idx_nat, hx, hy]; rfl
  · unfold slices_Equal_api_Ins_api_Ins_l1
    rw [past]; rfl
def beqT (x y : ApiTrap) : Bool := (x.From == y.From) && ((x.To == y.To) && ((x.At == y.At) && ((x.C == y.C) && true)))
theorem eqTraps {a b : List ApiTrap} (hl : LenL a) : slices_Equal_api_Trap_api_Trap a b = some (eqL beqT a b) := by
  unfold slices_Equal_api_Trap_api_Trap
  refine equal_loop hl (fun i x y hx hy => ?_) ?_
  · unfold slices_Equal_api_Trap_api_Trap_l1
    rw [here hx, idx_nat, idx_nat, hx, hy]; rfl
  · unfold slices_Equal_api_Trap_api_Trap_l1
    rw [past]; rfl
def beqMap (x y : ApiMap) : Bool := ((x.At == y.At) && eqL beqS x.Locals y.Locals) && eqL beqS x.Stack y.Stack
theorem class_eqMethod_1_eq {x y : ApiMap} (h1 : LenL x.Locals) (h2 : LenL x.Stack) : class_eqMethod_1 x y = some (beqMap x y) := by
  unfold class_eqMethod_1 beqMap
  rw [eqStr h1, eqStr h2]
  cases (x.At == y.At) with
  | false => rfl
  | true => cases eqL beqS x.Locals y.Locals <;> rfl
theorem eqMaps {a b : List ApiMap} (hl : LenL a) (h : ∀ x ∈ a, LenL x.Locals ∧ LenL x.Stack) : slices_EqualFunc_api_Map_api_Map_api_Map_api_Map a b = some (eqL beqMap a b) := by
  unfold slices_EqualFunc_api_Map_api_Map_api_Map_api_Map
  refine equal_loop hl (fun i x y hx hy => ?_) ?_
  · have hm := h x (List.mem_of_getElem? hx)
    unfold slices_EqualFunc_api_Map_api_Map_api_Map_api_Map_l1
    rw [here hx, idx_nat, idx_nat, hx, hy]
    simp only [Option.bind_some, cond_true]
    rw [class_eqMethod_1_eq hm.1 hm.2]
    rfl
  · unfold slices_EqualFunc_api_Map_api_Map_api_Map_api_Map_l1
    rw [past]; rfl
/-- A method whose parts are as long as a slice may be. -/
structure EIn (m : ApiMethod) : Prop where
  params : LenL m.Params
  code : LenL m.Code
  maps : LenL m.Maps ∧ ∀ x ∈ m.Maps, LenL x.Locals ∧ LenL x.Stack
  traps : LenL m.Traps
def beqM (x y : ApiMethod) : Bool :=
  ((((eqL beqMap x.Maps y.Maps && (((((x.Name == y.Name) && eqL beqS x.Params y.Params) && (x.Ret == y.Ret)) && (x.Static == y.Static)) && (x.Abstract == y.Abstract))) && (x.Locals == y.Locals)) && (x.Stack == y.Stack)) && eqL beqI x.Code y.Code) && eqL beqT x.Traps y.Traps
theorem andB (b : Bool) (d : Bool) : (cond b ((some d).bind fun v => some v) (some false)) = some (b && d) := by cases b <;> rfl
theorem class_eqMethod_eq {x y : ApiMethod} (h : EIn x) : class_eqMethod x y = some (beqM x y) := by
  unfold class_eqMethod beqM
  rw [eqMaps h.maps.1 h.maps.2, eqStr h.params, eqCode h.code, eqTraps h.traps]
  simp only [Option.bind_some]
  simp only [show ∀ b d : Bool, (cond b (some d) (some false)) = some (b && d) from fun b d => by cases b <;> rfl, Option.bind_some]
theorem eqMethods {a b : List ApiMethod} (hl : LenL a) (h : ∀ x ∈ a, EIn x) : slices_EqualFunc_api_Method_api_Method_api_Method_api_Method a b = some (eqL beqM a b) := by
  unfold slices_EqualFunc_api_Method_api_Method_api_Method_api_Method
  refine equal_loop hl (fun i x y hx hy => ?_) ?_
  · have hm := h x (List.mem_of_getElem? hx)
    unfold slices_EqualFunc_api_Method_api_Method_api_Method_api_Method_l1
    rw [here hx, idx_nat, idx_nat, hx, hy]
    simp only [Option.bind_some, cond_true]
    rw [class_eqMethod_eq hm]
    rfl
  · unfold slices_EqualFunc_api_Method_api_Method_api_Method_api_Method_l1
    rw [past]; rfl
structure ECIn (c : ApiClass) : Prop where
  impl : LenL c.Impl
  fields : LenL c.Fields
  methods : LenL c.Methods ∧ ∀ m ∈ c.Methods, EIn m
def beqC (x y : ApiClass) : Bool := (((((x.Name == y.Name) && (x.Super == y.Super)) && (x.Interface == y.Interface)) && eqL beqS x.Impl y.Impl) && eqL beqF x.Fields y.Fields) && eqL beqM x.Methods y.Methods
theorem class_Eq_eq {x y : ApiClass} (h : ECIn x) : class_Eq x y = some (beqC x y) := by
  unfold class_Eq beqC
  rw [eqStr h.impl, eqFields h.fields, eqMethods h.methods.1 h.methods.2]
  simp only [Option.bind_some]
  simp only [show ∀ b d : Bool, (cond b (some d) (some false)) = some (b && d) from fun b d => by cases b <;> rfl, Option.bind_some]

/-! ### The least methods, classes -/
def meth (n : List UInt8) : ApiMethod := ApiMethod.mk n [] [86] true false 0 0 [ApiIns.mk 46 0 [] []] [] []
theorem meth_in {n : List UInt8} (h : Len n) : MIn (meth n) := by
  refine ⟨h, ⟨(Nat.le_of_ble_eq_true rfl), fun s hs => by cases hs⟩, (Nat.le_of_ble_eq_true rfl), ⟨(Nat.le_of_ble_eq_true rfl), fun x hx => ?_⟩, rfl, ⟨(Nat.le_of_ble_eq_true rfl), fun x hx => by cases hx⟩⟩
  obtain rfl : x = ApiIns.mk 46 0 [] [] := List.mem_singleton.1 hx
  exact ⟨by decide, by decide⟩
theorem meth_N (n : List UInt8) : methodN (meth n) = nameN n := by
  unfold methodN meth
  rw [show instrN [ApiIns.mk 46 0 [] []] = true from by decide +kernel, show retN [86] = true from by decide +kernel]
  show (((!((!nameN n) || false) && typesN []) && true) && (!((n == [36, 105, 110, 105, 116]) && false) && true)) = nameN n
  rw [show typesN [] = true from rfl, Bool.and_false]
  cases nameN n <;> rfl
theorem lens2 {α : Type} {l : List α} (h : l.length ≤ 100) : LenL l := by unfold LenL; omega

theorem law5_begun_eq : law5_begun = some true := by
  have i0 : ∀ n k, CIn (ApiClass.mk n k false [] [ApiField.mk [120] [73] false] [meth [109, 97, 105, 110]]) → True := fun _ _ _ => trivial
  have c0 : CIn (ApiClass.mk [65, 98] [79, 98, 106, 101, 99, 116] false [] [ApiField.mk [120] [73] false] [meth [109, 97, 105, 110]]) := by
    refine ⟨by decide, by decide, ⟨by decide, fun s hs => by cases hs⟩, ⟨by decide, fun f hf => ?_⟩, ⟨by decide, fun f hf => ?_⟩⟩
    · obtain rfl := List.mem_singleton.1 hf
      exact ⟨by decide, by decide⟩
    · obtain rfl := List.mem_singleton.1 hf
      exact meth_in (by decide)
  have c1 : CIn (ApiClass.mk [65, 98] [] false [] [] []) := by
    refine ⟨by decide, by decide, ⟨by decide, fun s hs => by cases hs⟩, ⟨by decide, fun f hf => by cases hf⟩, ⟨by decide, fun f hf => by cases hf⟩⟩
  have e0 : ECIn (ApiClass.mk [65, 98] [79, 98, 106, 101, 99, 116] false [] [ApiField.mk [120] [73] false] [meth [109, 97, 105, 110]]) := by
    refine ⟨by decide, by decide, ⟨by decide, fun f hf => ?_⟩⟩
    obtain rfl := List.mem_singleton.1 hf
    exact ⟨by decide, by decide, ⟨by decide, fun x hx => by cases hx⟩, by decide⟩
  have m0 := class_May_eq c0
  have m1 := class_May_eq c1
  have q0 := class_Eq_eq (y := ApiClass.mk [65, 98] [79, 98, 106, 101, 99, 116] false [] [ApiField.mk [120] [73] false] [meth [109, 97, 105, 110]]) e0
  have q1 := class_Eq_eq (y := ApiClass.mk [65, 98] [79, 98, 106, 101, 99, 116] false [] [ApiField.mk [120] [73] false] [ApiMethod.mk [109, 97, 105, 110] [] [86] true false 1 0 [ApiIns.mk 46 0 [] []] [] []]) e0
  have f0 := fun n => class_Field_eq (n := n) c0.fields.1
  have g0 := fun n => class_Method_eq (n := n) c0.methods.1
  unfold meth at m0 q0 q1 f0 g0
  unfold law5_begun
  rw [show law4_Begun = some true from (by unfold law4_Begun; rw [law4_begun_eq]; rfl), m0, m1, q0, q1, f0, f0, g0, g0]
  decide +kernel

end Go.Proofs.YthhkdanpjcnegaaGreat
