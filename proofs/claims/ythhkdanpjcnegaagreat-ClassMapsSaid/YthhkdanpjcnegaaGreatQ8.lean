/- Plain laws, part 8: classes, fields, methods. -/
import Derived.Test.YthhkdanpjcnegaaGreatQ5
import Derived.Test.YthhkdanpjcnegaaGreatG5
namespace Go.Proofs.YthhkdanpjcnegaaGreat
set_option linter.unusedSimpArgs false
set_option linter.unusedVariables false

/-! ### Loops over slices -/
def ixF {α : Type} (p : α → Bool) : Nat → List α → Int
  | _, [] => -1
  | k, x :: r => cond (p x) (k : Int) (ixF p (k + 1) r)
theorem ixF_any {α : Type} (p : α → Bool) : ∀ (k : Nat) (l : List α), decide (0 ≤ ixF p k l) = l.any p
  | _, [] => rfl
  | k, x :: r => by
    unfold ixF
    rw [List.any_cons]
    cases p x with
    | true => exact decide_eq_true (show (0 : Int) ≤ (k : Int) by omega)
    | false => exact ixF_any p (k + 1) r

theorem index_loop {α : Type} {body : Int → Option (Sum Int (Sum Unit Int))} {l : List α} {p : α → Bool} (hl : l.length ≤ 9223372036854775807)
    (hb : ∀ (i : Nat) x, l[i]? = some x → body (i : Int) = cond (p x) (some (.inr (.inr (i : Int)))) (some (.inl (IntKind.i64.wrap ((i : Int) + 1)))))
    (he : body (l.length : Int) = some (.inr (.inl ()))) :
    (loopP body 0).bind (fun o => leave o (fun _ => some (-1 : Int)) some) = some (ixF p 0 l) := by
  have key : ∀ (r pre : List α), l = pre ++ r → (loopP body (pre.length : Int)).bind (fun o => leave o (fun _ => some (-1 : Int)) some) = some (ixF p pre.length r) := by
    intro r
    induction r with
    | nil =>
      intro pre h
      rw [List.append_nil] at h
      subst h
      rw [loopP_eq, he]
      rfl
    | cons x r ih =>
      intro pre h
      have hlen : l.length = pre.length + (r.length + 1) := by rw [h]; simp
      have hx : l[pre.length]? = some x := by rw [h]; simp
      rw [loopP_eq, hb _ x hx]
      unfold ixF
      cases p x with
      | true => rfl
      | false =>
        rw [wrap_succ (by omega)]
        have := ih (pre ++ [x]) (by rw [h]; simp)
        rw [show (pre ++ [x]).length = pre.length + 1 by simp] at this
        exact this
  exact key l [] rfl

/-- Whether an element of r is unfit, or has the name of one before it. -/
def uB {α : Type} (ok : α → Bool) (nm : α → List UInt8) : List α → List α → Bool
  | _, [] => false
  | pre, x :: r => (!ok x || pre.any (fun y => nm x == nm y)) || uB ok nm (pre ++ [x]) r

theorem uniq_loop {α : Type} {body : Int → Option (Sum Int (Sum Unit Bool))} {l : List α} {ok : α → Bool} {nm : α → List UInt8} (hl : l.length ≤ 9223372036854775807)
    (hb : ∀ (i : Nat) x, l[i]? = some x → body (i : Int) = cond (!ok x || (l.take i).any (fun y => nm x == nm y)) (some (.inr (.inr false))) (some (.inl (IntKind.i64.wrap ((i : Int) + 1)))))
    (he : body (l.length : Int) = some (.inr (.inl ()))) {k : Option Bool} :
    (loopP body 0).bind (fun o => leave o (fun _ => k) some) = cond (uB ok nm [] l) (some false) k := by
  have key : ∀ (r pre : List α), l = pre ++ r → (loopP body (pre.length : Int)).bind (fun o => leave o (fun _ => k) some) = cond (uB ok nm pre r) (some false) k := by
    intro r
    induction r with
    | nil =>
      intro pre h
      rw [List.append_nil] at h
      subst h
      rw [loopP_eq, he]
      rfl
    | cons x r ih =>
      intro pre h
      have hlen : l.length = pre.length + (r.length + 1) := by rw [h]; simp
      have hx : l[pre.length]? = some x := by rw [h]; simp
      have ht : l.take pre.length = pre := by rw [h]; simp
      rw [loopP_eq, hb _ x hx, ht]
      unfold uB
      cases !ok x || pre.any (fun y => nm x == nm y) with
      | true => rfl
      | false =>
        rw [wrap_succ (by omega)]
        have := ih (pre ++ [x]) (by rw [h]; simp)
        rw [show (pre ++ [x]).length = pre.length + 1 by simp] at this
        exact this
  exact key l [] rfl

def eqL {α : Type} (e : α → α → Bool) : List α → List α → Bool
  | [], [] => true
  | x :: a, y :: b => e x y && eqL e a b
  | _, _ => false
theorem eqL_len {α : Type} (e : α → α → Bool) : ∀ (a b : List α), a.length ≠ b.length → eqL e a b = false
  | [], [], h => absurd rfl h
  | [], _ :: _, _ => rfl
  | _ :: _, [], _ => rfl
  | x :: a, y :: b, h => by
    show (e x y && eqL e a b) = false
    rw [eqL_len e a b (fun hh => h (by simp [hh])), Bool.and_false]
theorem equal_loop {α : Type} {body : Int → Option (Sum Int (Sum Unit Bool))} {a b : List α} {e : α → α → Bool} (hl : a.length ≤ 9223372036854775807)
    (hb : ∀ (i : Nat) x y, a[i]? = some x → b[i]? = some y → body (i : Int) = cond (!e x y) (some (.inr (.inr false))) (some (.inl (IntKind.i64.wrap ((i : Int) + 1)))))
    (he : body (a.length : Int) = some (.inr (.inl ()))) :
    cond (!((a.length : Int) == (b.length : Int))) (some false) ((loopP body 0).bind (fun o => leave o (fun _ => some true) some)) = some (eqL e a b) := by
  by_cases hn : a.length = b.length
  · have key : ∀ (r s pre pre' : List α), pre.length = pre'.length → a = pre ++ r → b = pre' ++ s → (loopP body (pre.length : Int)).bind (fun o => leave o (fun _ => some true) some) = some (eqL e r s) := by
      intro r
      induction r with
      | nil =>
        intro s pre pre' hp h1 h2
        have : s = [] := by
          have : a.length = pre.length := by rw [h1]; simp
          have : b.length = pre'.length + s.length := by rw [h2]; simp
          exact List.eq_nil_of_length_eq_zero (by omega)
        subst this
        rw [List.append_nil] at h1
        subst h1
        rw [loopP_eq, he]
        rfl
      | cons x r ih =>
        intro s pre pre' hp h1 h2
        have hlen : a.length = pre.length + (r.length + 1) := by rw [h1]; simp
        have hlen2 : b.length = pre'.length + s.length := by rw [h2]; simp
        cases s with
        | nil => simp at hlen2; omega
        | cons y s =>
          have hx : a[pre.length]? = some x := by rw [h1]; simp
          have hy : b[pre.length]? = some y := by rw [h2, hp]; simp
          rw [loopP_eq, hb _ x y hx hy]
          show _ = some (e x y && eqL e r s)
          cases e x y with
          | false => rfl
          | true =>
            rw [wrap_succ (by omega)]
            have := ih s (pre ++ [x]) (pre' ++ [y]) (by simp [hp]) (by rw [h1]; simp) (by rw [h2]; simp)
            rw [show (pre ++ [x]).length = pre.length + 1 by simp] at this
            exact this
    rw [show ((a.length : Int) == (b.length : Int)) = true from beq_iff_eq.2 (by omega)]
    exact key a b [] [] rfl rfl rfl
  · rw [eqL_len e a b hn, show ((a.length : Int) == (b.length : Int)) = false from beq_eq_false_iff_ne.2 (by omega)]
    rfl

abbrev LenL {α : Type} (l : List α) : Prop := l.length ≤ 9223372036854775807
theorem here {α : Type} {l : List α} {i : Nat} {x : α} (h : l[i]? = some x) : decide ((i : Int) < (l.length : Int)) = true :=
  decide_eq_true (by have := (List.getElem?_eq_some_iff.1 h).1; omega)
theorem past {α : Type} (l : List α) : decide ((l.length : Int) < (l.length : Int)) = false := decide_eq_false (by omega)

theorem hasField {l : List ApiField} (hl : LenL l) (n t : List UInt8) (s : Bool) : slices_ContainsFunc_api_Field_api_Field l n t s = some (l.any fun y => n == y.Name) := by
  unfold slices_ContainsFunc_api_Field_api_Field slices_IndexFunc_api_Field_api_Field
  rw [show ((loopP (fun z => slices_IndexFunc_api_Field_api_Field_l1 l n t s z) 0).bind fun o => leave o (fun b => slices_IndexFunc_api_Field_api_Field_k2) some) = _ from index_loop (p := fun y : ApiField => n == y.Name) hl
    (fun i x hx => by unfold slices_IndexFunc_api_Field_api_Field_l1; rw [here hx, idx_nat, hx]; rfl) (by unfold slices_IndexFunc_api_Field_api_Field_l1; rw [past]; rfl)]
  exact congrArg some (ixF_any _ 0 l)
theorem hasMethod {l : List ApiMethod} (hl : LenL l) (n : List UInt8) (a b c d e f g h i) : slices_ContainsFunc_api_Method_api_Method l n a b c d e f g h i = some (l.any fun y => n == y.Name) := by
  unfold slices_ContainsFunc_api_Method_api_Method slices_IndexFunc_api_Method_api_Method
  rw [show ((loopP (fun z => slices_IndexFunc_api_Method_api_Method_l1 l n a b c d e f g h i z) 0).bind fun o => leave o (fun b => slices_IndexFunc_api_Method_api_Method_k2) some) = _ from index_loop (p := fun y : ApiMethod => n == y.Name) hl
    (fun i x hx => by unfold slices_IndexFunc_api_Method_api_Method_l1; rw [here hx, idx_nat, hx]; rfl) (by unfold slices_IndexFunc_api_Method_api_Method_l1; rw [past]; rfl)]
  exact congrArg some (ixF_any _ 0 l)
theorem hasName {l : List (List UInt8)} (hl : LenL l) (n : List UInt8) : slices_ContainsFunc_string_string_s3 l n = some (l.any fun y => n == y) := by
  unfold slices_ContainsFunc_string_string_s3 slices_IndexFunc_string_string_s3
  rw [show ((loopP (fun z => slices_IndexFunc_string_string_s3_l1 l n z) 0).bind fun o => leave o (fun b => slices_IndexFunc_string_string_s3_k2) some) = _ from index_loop (p := fun y : List UInt8 => n == y) hl
    (fun i x hx => by unfold slices_IndexFunc_string_string_s3_l1; rw [here hx, idx_nat, hx]; rfl) (by unfold slices_IndexFunc_string_string_s3_l1; rw [past]; rfl)]
  exact congrArg some (ixF_any _ 0 l)
theorem class_Method_eq {c : ApiClass} (hl : LenL c.Methods) (n : List UInt8) : class_Method c n = some (ixF (fun y => y.Name == n) 0 c.Methods) := by
  unfold class_Method slices_IndexFunc_api_Method_api_Method_s2
  rw [show ((loopP (fun z => slices_IndexFunc_api_Method_api_Method_s2_l1 c.Methods n z) 0).bind fun o => leave o (fun b => slices_IndexFunc_api_Method_api_Method_s2_k2) some) = _ from index_loop (p := fun y : ApiMethod => y.Name == n) hl
    (fun i x hx => by unfold slices_IndexFunc_api_Method_api_Method_s2_l1; rw [here hx, idx_nat, hx]; rfl) (by unfold slices_IndexFunc_api_Method_api_Method_s2_l1; rw [past]; rfl)]
  rfl
theorem class_Field_eq {c : ApiClass} (hl : LenL c.Fields) (n : List UInt8) : class_Field c n = some (ixF (fun y => y.Name == n) 0 c.Fields) := by
  unfold class_Field slices_IndexFunc_api_Field_api_Field_s2
  rw [show ((loopP (fun z => slices_IndexFunc_api_Field_api_Field_s2_l1 c.Fields n z) 0).bind fun o => leave o (fun b => slices_IndexFunc_api_Field_api_Field_s2_k2) some) = _ from index_loop (p := fun y : ApiField => y.Name == n) hl
    (fun i x hx => by unfold slices_IndexFunc_api_Field_api_Field_s2_l1; rw [here hx, idx_nat, hx]; rfl) (by unfold slices_IndexFunc_api_Field_api_Field_s2_l1; rw [past]; rfl)]
  rfl

/-! ### What a class may be -/
noncomputable def fieldN (f : ApiField) : Bool := (nameN f.Name && !(f.Name == [36, 105, 110, 105, 116])) && mayN f.Type_
theorem class_May_2_eq {f : ApiField} (h1 : Len f.Name) (h2 : Len f.Type_) : class_May_2 f = some (fieldN f) := by
  unfold class_May_2 fieldN
  rw [kind_Name_eq h1, kind_May_eq h2, Option.bind_some]
  cases (nameN f.Name && !(f.Name == [36, 105, 110, 105, 116])) <;> rfl

theorem allFields {l : List ApiField} (hl : LenL l) (h : ∀ f ∈ l, Len f.Name ∧ Len f.Type_) (n : Int) : class_all_api_Field l n = cond (uB fieldN (·.Name) [] l) (some false) (some (decide ((l.length : Int) ≤ n))) := by
  unfold class_all_api_Field
  refine uniq_loop (ok := fieldN) (nm := (·.Name)) hl (fun i x hx => ?_) ?_
  · have hm := h x (List.mem_of_getElem? hx)
    have hi := (List.getElem?_eq_some_iff.1 hx).1
    unfold class_all_api_Field_l1
    rw [here hx, idx_nat, hx]
    simp only [Option.bind_some, cond_true]
    rw [class_May_2_eq hm.1 hm.2, Option.bind_some, cutP_to (by omega), Option.bind_some, hasField (by unfold LenL at *; rw [List.length_take]; omega)]
    cases fieldN x <;> rfl
  · unfold class_all_api_Field_l1
    rw [past]; rfl

theorem allNames {l : List (List UInt8)} (hl : LenL l) (h : ∀ s ∈ l, Len s) (n : Int) : class_all_string l n = cond (uB classN id [] l) (some false) (some (decide ((l.length : Int) ≤ n))) := by
  unfold class_all_string
  refine uniq_loop (ok := classN) (nm := id) hl (fun i x hx => ?_) ?_
  · have hm := h x (List.mem_of_getElem? hx)
    have hi := (List.getElem?_eq_some_iff.1 hx).1
    unfold class_all_string_l1
    rw [here hx, idx_nat, hx]
    simp only [Option.bind_some, cond_true]
    rw [kind_Class_eq hm, Option.bind_some, cutP_to (by omega), Option.bind_some, hasName (by unfold LenL at *; rw [List.length_take]; omega)]
    cases classN x <;> rfl
  · unfold class_all_string_l1
    rw [past]; rfl

noncomputable def typesN (l : List (List UInt8)) : Bool := !(l.any fun s => !mayN s)
theorem class_types_eq {l : List (List UInt8)} (hl : LenL l) (h : ∀ s ∈ l, Len s) : class_types l = some (typesN l) := by
  unfold class_types slices_ContainsFunc_string_string slices_IndexFunc_string_string
  rw [show ((loopP (fun z => slices_IndexFunc_string_string_l1 l z) 0).bind fun o => leave o (fun b => slices_IndexFunc_string_string_k2) some) = _ from index_loop (p := fun s => !mayN s) hl
    (fun i x hx => by
      unfold slices_IndexFunc_string_string_l1 class_types_1
      rw [here hx, idx_nat, hx]
      simp only [Option.bind_some, cond_true]
      rw [kind_May_eq (h x (List.mem_of_getElem? hx))]
      rfl) (by unfold slices_IndexFunc_string_string_l1; rw [past]; rfl)]
  rw [Option.bind_some, ixF_any]
  rfl

noncomputable def insN (n : Int) (x : ApiIns) : Bool := (!mayIns x) || (op_Jumps x.Op && decide (n ≤ x.A))
noncomputable def instrN (c : List ApiIns) : Bool := class_between (c.length : Int) 1 100 && (c.getLast?.elim false (fun y => op_Ends y.Op) && !(c.any (insN (c.length : Int))))
theorem class_instructions_eq {m : ApiMethod} (hl : LenL m.Code) (h : ∀ x ∈ m.Code, Len x.C ∧ Len x.M) : class_instructions m = some (instrN m.Code) := by
  have hc : slices_ContainsFunc_api_Ins_api_Ins m.Code (m.Code.length : Int) = some (m.Code.any (insN (m.Code.length : Int))) := by
    unfold slices_ContainsFunc_api_Ins_api_Ins slices_IndexFunc_api_Ins_api_Ins
    rw [show ((loopP (fun z => slices_IndexFunc_api_Ins_api_Ins_l1 m.Code (m.Code.length : Int) z) 0).bind fun o => leave o (fun b => slices_IndexFunc_api_Ins_api_Ins_k2) some) = _ from index_loop (p := insN (m.Code.length : Int)) hl
      (fun i x hx => by
        have hm := h x (List.mem_of_getElem? hx)
        unfold slices_IndexFunc_api_Ins_api_Ins_l1 class_instructions_1
        rw [here hx, idx_nat, hx]
        simp only [Option.bind_some, cond_true]
        rw [op_May_eq hm.1 hm.2]
        rfl) (by unfold slices_IndexFunc_api_Ins_api_Ins_l1; rw [past]; rfl)]
    exact congrArg some (ixF_any _ 0 _)
  unfold class_instructions instrN
  rw [hc]
  cases hb : class_between (m.Code.length : Int) 1 100 with
  | false => rfl
  | true =>
    have hb' : (decide (1 ≤ (m.Code.length : Int)) && decide ((m.Code.length : Int) ≤ 100)) = true := hb
    simp only [Bool.and_eq_true, decide_eq_true_eq] at hb'
    have e : IntKind.i64.wrap ((m.Code.length : Int) - 1) = ((m.Code.length - 1 : Nat) : Int) := by
      rw [wrapI (by omega) (by omega)]; omega
    rw [e, idx_nat, ← List.getLast?_eq_getElem?]
    cases hg : m.Code.getLast? with
    | none =>
      rw [List.getLast?_eq_none_iff] at hg
      rw [hg] at hb'
      simp at hb'
    | some y =>
      simp only [Option.bind_some, Bool.not_true, cond_false, Option.elim_some, Bool.true_and]
      cases op_Ends y.Op <;> rfl

noncomputable def trapN (n : Int) (y : ApiTrap) : Bool := (((decide (y.From < 0) || decide (y.To ≤ y.From)) || decide (n < y.To)) || !(class_between y.At 0 (IntKind.i64.wrap (n - 1)))) || (!(y.C == []) && !classN y.C)
noncomputable def trapsN (m : ApiMethod) : Bool := !(m.Traps.any (trapN (m.Code.length : Int))) && decide ((m.Traps.length : Int) ≤ 6)
theorem class_traps_eq {m : ApiMethod} (hl : LenL m.Traps) (h : ∀ x ∈ m.Traps, Len x.C) : class_traps m = some (trapsN m) := by
  unfold class_traps slices_ContainsFunc_api_Trap_api_Trap slices_IndexFunc_api_Trap_api_Trap
  rw [show ((loopP (fun z => slices_IndexFunc_api_Trap_api_Trap_l1 m.Traps m.Name m.Params m.Ret m.Static m.Abstract m.Locals m.Stack m.Code m.Maps m.Traps z) 0).bind fun o => leave o (fun b => slices_IndexFunc_api_Trap_api_Trap_k2) some) = _ from index_loop (p := trapN (m.Code.length : Int)) hl
    (fun i x hx => by
      have hm := h x (List.mem_of_getElem? hx)
      unfold slices_IndexFunc_api_Trap_api_Trap_l1 class_traps_1 trapN
      rw [here hx, idx_nat, hx]
      simp only [Option.bind_some, cond_true]
      rw [kind_Class_eq hm]
      cases (((decide (x.From < 0) || decide (x.To ≤ x.From)) || decide ((m.Code.length : Int) < x.To)) || !(class_between x.At 0 (IntKind.i64.wrap ((m.Code.length : Int) - 1)))) with
      | true => rfl
      | false => cases (x.C == []) <;> rfl) (by unfold slices_IndexFunc_api_Trap_api_Trap_l1; rw [past]; rfl)]
  rw [Option.bind_some, ixF_any]
  rfl

/-- A method whose parts are as long as a slice may be; it has no maps. -/
structure MIn (m : ApiMethod) : Prop where
  name : Len m.Name
  params : LenL m.Params ∧ ∀ s ∈ m.Params, Len s
  ret : Len m.Ret
  code : LenL m.Code ∧ ∀ x ∈ m.Code, Len x.C ∧ Len x.M
  maps : m.Maps = []
  traps : LenL m.Traps ∧ ∀ x ∈ m.Traps, Len x.C

noncomputable def methodN (m : ApiMethod) : Bool :=
  ((!((!nameN m.Name) || decide (6 < (m.Params.length : Int))) && typesN m.Params) && retN m.Ret) && cond m.Abstract (class_empty m)
    (!((m.Name == [36, 105, 110, 105, 116]) && (((!m.Static) || decide (0 < (m.Params.length : Int))) || (!(m.Ret == [86])))) && (class_between m.Locals (class_args m) 16 && (class_between m.Stack 0 16 && (instrN m.Code && trapsN m))))
theorem class_method_eq {m : ApiMethod} (h : MIn m) : class_method m = some (methodN m) := by
  have hm : class_maps m = some true := by
    unfold class_maps
    rw [loopP_eq]
    show ((class_maps_l3 m 0).bind _).bind _ = _
    unfold class_maps_l3 class_maps_k4
    rw [h.maps]
    rfl
  unfold class_method methodN
  rw [kind_Name_eq h.name, Option.bind_some, class_types_eq h.params.1 h.params.2, kind_Ret_eq h.ret, class_instructions_eq h.code.1 h.code.2, hm, class_traps_eq h.traps.1 h.traps.2]
  cases ((!nameN m.Name) || decide (6 < (m.Params.length : Int))) with
  | true => rfl
  | false =>
    cases typesN m.Params with
    | false => rfl
    | true =>
      cases retN m.Ret with
      | false => rfl
      | true =>
        cases m.Abstract with
        | true => rfl
        | false =>
          cases ((m.Name == [36, 105, 110, 105, 116]) && (((!m.Static) || decide (0 < (m.Params.length : Int))) || (!(m.Ret == [86])))) with
          | true => rfl
          | false =>
            cases class_between m.Locals (class_args m) 16 with
            | false => rfl
            | true =>
              cases class_between m.Stack 0 16 with
              | false => rfl
              | true => cases instrN m.Code <;> rfl

theorem allMethods {l : List ApiMethod} (hl : LenL l) (h : ∀ m ∈ l, MIn m) (n : Int) (a b : List UInt8) (i : Bool) (c : List (List UInt8)) (d : List ApiField) (e : List ApiMethod) :
    class_all_api_Method l n a b i c d e = cond (uB (fun m => (m.Abstract == i) && methodN m) (·.Name) [] l) (some false) (some (decide ((l.length : Int) ≤ n))) := by
  unfold class_all_api_Method
  refine uniq_loop (ok := fun m => (m.Abstract == i) && methodN m) (nm := (·.Name)) hl (fun j x hx => ?_) ?_
  · have hm := h x (List.mem_of_getElem? hx)
    have hi := (List.getElem?_eq_some_iff.1 hx).1
    unfold class_all_api_Method_l1 class_May_4
    rw [here hx, idx_nat, hx]
    simp only [Option.bind_some, cond_true]
    rw [class_method_eq hm, cutP_to (by omega)]
    simp only [Option.bind_some]
    rw [hasMethod (by unfold LenL at *; rw [List.length_take]; omega)]
    cases (x.Abstract == i) with
    | false => rfl
    | true => cases methodN x <;> rfl
  · unfold class_all_api_Method_l1
    rw [past]; rfl

structure CIn (c : ApiClass) : Prop where
  name : Len c.Name
  super : Len c.Super
  impl : LenL c.Impl ∧ ∀ s ∈ c.Impl, Len s
  fields : LenL c.Fields ∧ ∀ f ∈ c.Fields, Len f.Name ∧ Len f.Type_
  methods : LenL c.Methods ∧ ∀ m ∈ c.Methods, MIn m
noncomputable def mayClass (c : ApiClass) : Bool :=
  !(c.Interface && ((!(c.Super == [79, 98, 106, 101, 99, 116])) || decide (0 < (c.Fields.length : Int)))) &&
  (((((classN c.Name && classN c.Super) && (!(uB classN id [] c.Impl) && decide ((c.Impl.length : Int) ≤ 4))) && (!(uB fieldN (·.Name) [] c.Fields) && decide ((c.Fields.length : Int) ≤ 8)))) &&
    (!(uB (fun m => (m.Abstract == c.Interface) && methodN m) (·.Name) [] c.Methods) && decide ((c.Methods.length : Int) ≤ 8)))
theorem class_May_eq {c : ApiClass} (h : CIn c) : class_May c = some (mayClass c) := by
  have e : ∀ (b d : Bool), cond b (some false) (some d) = some (!b && d) := fun b d => by cases b <;> rfl
  unfold class_May mayClass
  rw [allFields h.fields.1 h.fields.2, allMethods h.methods.1 h.methods.2, kind_Class_eq h.name, kind_Class_eq h.super, allNames h.impl.1 h.impl.2, e, e, e]
  cases (c.Interface && ((!(c.Super == [79, 98, 106, 101, 99, 116])) || decide (0 < (c.Fields.length : Int)))) with
  | true => rfl
  | false =>
    cases classN c.Name with
    | false => rfl
    | true => cases classN c.Super <;> rfl
end Go.Proofs.YthhkdanpjcnegaaGreat
