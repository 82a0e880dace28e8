/- Plain laws, part 12: any method, any class; the document's own answer. -/
import Derived.Test.YthhkdanpjcnegaaGreatQ11
namespace Go.Proofs.YthhkdanpjcnegaaGreat
set_option linter.unusedSimpArgs false
set_option linter.unusedVariables false

theorem slot_loc (v : List UInt8) : (cond (!(v == [84]) && !(v == [78])) (!mayN v) false) = !slotN v := by
  by_cases h1 : v = [73]
  · subst h1; decide +kernel
  by_cases h2 : v = [78]
  · subst h2; decide +kernel
  by_cases h3 : v = [84]
  · subst h3; decide +kernel
  unfold slotN refN
  rw [beq_eq_false_iff_ne.2 h1, beq_eq_false_iff_ne.2 h2, beq_eq_false_iff_ne.2 h3]
  simp
theorem slot_stk (v : List UInt8) : (cond (!(v == [78])) (!mayN v) false) = (!slotN v || ([84] == v)) := by
  by_cases h1 : v = [73]
  · subst h1; decide +kernel
  by_cases h2 : v = [78]
  · subst h2; decide +kernel
  by_cases h3 : v = [84]
  · subst h3; decide +kernel
  unfold slotN refN
  rw [beq_eq_false_iff_ne.2 h1, beq_eq_false_iff_ne.2 h2, beq_eq_false_iff_ne.2 h3, beq_eq_false_iff_ne.2 (Ne.symm h3)]
  simp
theorem any_or {α : Type} (l : List α) (p q : α → Bool) : l.any (fun x => p x || q x) = (l.any p || l.any q) := by
  induction l with
  | nil => rfl
  | cons x l ih =>
    simp only [List.any_cons, ih]
    cases p x <;> cases q x <;> simp

theorem ref3_maps_eq {m : ApiMethod} (h : MapsIn m) : ref3_maps m = some (mapsN m) := by
  have l7 : ∀ x : ApiMap, x ∈ m.Maps → loopP (fun z => ref3_maps_l7 x z) 0 = some (cond (!slotsN x.Locals) (.inr false) (.inl ())) := fun x hx => by
    obtain ⟨⟨h1, h2⟩, h3, h4⟩ := h.all x hx
    have := list_loop (body := fun z => ref3_maps_l7 x z) (bad := fun v => !slotN v) h1 (fun i v hv => by
      show ref3_maps_l7 x (i : Int) = _
      unfold ref3_maps_l7
      rw [here hv, idx_nat, hv]
      simp only [Option.bind_some, cond_true]
      rw [ref3_May_eq (h2 v (List.mem_of_getElem? hv)), ← slot_loc]
      cases (!(v == [84]) && !(v == [78])) <;> rfl) (by show ref3_maps_l7 x (x.Locals.length : Int) = _; unfold ref3_maps_l7; rw [past]; rfl)
    rw [this]
    unfold slotsN
    rw [Bool.not_not]
  have l9 : ∀ x : ApiMap, x ∈ m.Maps → loopP (fun z => ref3_maps_l9 x z) 0 = some (cond (!slotsN x.Stack || x.Stack.any (fun y => [84] == y)) (.inr false) (.inl ())) := fun x hx => by
    obtain ⟨⟨h1, h2⟩, h3, h4⟩ := h.all x hx
    have := list_loop (body := fun z => ref3_maps_l9 x z) (bad := fun v => !slotN v || ([84] == v)) h3 (fun i v hv => by
      show ref3_maps_l9 x (i : Int) = _
      unfold ref3_maps_l9
      rw [here hv, idx_nat, hv]
      simp only [Option.bind_some, cond_true]
      rw [ref3_May_eq (h4 v (List.mem_of_getElem? hv)), ← slot_stk]
      cases (!(v == [78])) <;> rfl) (by show ref3_maps_l9 x (x.Stack.length : Int) = _; unfold ref3_maps_l9; rw [past]; rfl)
    rw [this, any_or]
    unfold slotsN
    rw [Bool.not_not]
  have j6 : ∀ (i : Nat) (x : ApiMap) (b : Bool), x ∈ m.Maps → ref3_maps_j6 (i : Int) x b = cond (b || ((!slotsN x.Locals || !slotsN x.Stack) || x.Stack.any (fun y => [84] == y))) (some (.inr (.inr false))) (some (.inl (IntKind.i64.wrap ((i : Int) + 1)))) := fun i x b hx => by
    unfold ref3_maps_j6
    rw [l7 x hx]
    cases b with
    | true => rfl
    | false =>
      cases slotsN x.Locals with
      | false => rfl
      | true =>
        show ref3_maps_k8 (i : Int) x = _
        unfold ref3_maps_k8
        rw [l9 x hx]
        cases slotsN x.Stack with
        | false => rfl
        | true => cases x.Stack.any (fun y => [84] == y) <;> rfl
  have hl : loopP (fun z => ref3_maps_l11 m z) 0 = _ := gen_loop (bad := mapB m) h.len (fun i x hx => by
    have hm := List.mem_of_getElem? hx
    have hi := (List.getElem?_eq_some_iff.1 hx).1
    have hlen := h.len
    have hcode := h.code
    unfold LenL at hlen hcode
    show ref3_maps_l11 m (i : Int) = _
    unfold ref3_maps_l11 mapB
    rw [here hx, idx_nat, hx]
    simp only [Option.bind_some, cond_true]
    by_cases h1 : x.At < 0
    · rw [decide_eq_true h1, decide_eq_false (show ¬ 0 ≤ x.At by omega)]
      exact j6 i x true hm
    rw [decide_eq_false h1, decide_eq_true (show 0 ≤ x.At by omega)]
    by_cases h2 : (m.Code.length : Int) ≤ x.At
    · rw [decide_eq_true h2, decide_eq_false (show ¬ x.At < (m.Code.length : Int) by omega)]
      exact j6 i x true hm
    rw [decide_eq_false h2, decide_eq_true (show x.At < (m.Code.length : Int) by omega)]
    rcases Nat.eq_zero_or_pos i with h0 | h0
    · subst h0
      show cond (!((x.Locals.length : Int) == m.Locals)) (ref3_maps_j6 ((0 : Nat) : Int) x true) (ref3_maps_j6 ((0 : Nat) : Int) x (decide (m.Stack < (x.Stack.length : Int)))) = _
      cases (!((x.Locals.length : Int) == m.Locals)) with
      | true => exact j6 0 x true hm
      | false => exact j6 0 x _ hm
    · rw [decide_eq_true (show (0 : Int) < (i : Int) by omega), take_last hi h0]
      have e : IntKind.i64.wrap ((i : Int) - 1) = ((i - 1 : Nat) : Int) := by
        rw [wrapI (by omega) (by omega)]; omega
      rw [e, idx_nat, List.getElem?_eq_getElem (show i - 1 < m.Maps.length by omega)]
      simp only [cond_true, cond_false, Option.bind_some, Option.elim_some]
      cases decide (x.At ≤ m.Maps[i - 1].At) with
      | true => exact j6 i x true hm
      | false =>
        cases (!((x.Locals.length : Int) == m.Locals)) with
        | true => exact j6 i x true hm
        | false => exact j6 i x _ hm) (by show ref3_maps_l11 m (m.Maps.length : Int) = _; unfold ref3_maps_l11; rw [past]; rfl)
  unfold ref3_maps mapsN
  rw [hl]
  by_cases hn : (m.Maps.length : Int) ≤ 100
  · rw [decide_eq_true hn, decide_eq_false (show ¬ 100 < (m.Maps.length : Int) by omega)]
    cases gB (mapB m) [] m.Maps <;> rfl
  · rw [decide_eq_false hn, decide_eq_true (show 100 < (m.Maps.length : Int) by omega), Bool.and_false]
    rfl

/-! ### Code and traps -/
structure BodyIn (m : ApiMethod) : Prop where
  code : LenL m.Code ∧ ∀ x ∈ m.Code, Len x.C ∧ Len x.M
  traps : LenL m.Traps ∧ ∀ x ∈ m.Traps, Len x.C
theorem ref3_body_eq {m : ApiMethod} (h : BodyIn m) : ref3_body m = some (instrN m.Code && trapsN m) := by
  have hcl := h.code.1
  unfold LenL at hcl
  have lc : loopP (fun z => ref3_body_l1 m z) 0 = some (cond (m.Code.any (insN (m.Code.length : Int))) (.inr false) (.inl ())) :=
    list_loop h.code.1 (fun i x hx => by
      have hm := h.code.2 x (List.mem_of_getElem? hx)
      show ref3_body_l1 m (i : Int) = _
      unfold ref3_body_l1
      rw [here hx, idx_nat, hx]
      simp only [Option.bind_some, cond_true]
      rw [ref3_MayIns_eq hm.1 hm.2]
      rfl) (by show ref3_body_l1 m (m.Code.length : Int) = _; unfold ref3_body_l1; rw [past]; rfl)
  have lt : loopP (fun z => ref3_body_l3 m z) 0 = some (cond (m.Traps.any (trapN (m.Code.length : Int))) (.inr false) (.inl ())) :=
    list_loop h.traps.1 (fun i x hx => by
      have hm := h.traps.2 x (List.mem_of_getElem? hx)
      show ref3_body_l3 m (i : Int) = _
      unfold ref3_body_l3
      rw [here hx, idx_nat, hx]
      simp only [Option.bind_some, cond_true]
      rw [ref3_Class_eq hm]
      have hb : (!(class_between x.At 0 (IntKind.i64.wrap ((m.Code.length : Int) - 1)))) = (decide (x.At < 0) || decide ((m.Code.length : Int) ≤ x.At)) := by
        show (!(decide (0 ≤ x.At) && decide (x.At ≤ IntKind.i64.wrap ((m.Code.length : Int) - 1)))) = _
        rw [wrapI (by omega) (by omega)]
        by_cases h1 : x.At < 0
        · rw [decide_eq_true h1, decide_eq_false (show ¬ 0 ≤ x.At by omega)]; rfl
        · rw [decide_eq_false h1, decide_eq_true (show 0 ≤ x.At by omega)]
          by_cases h2 : (m.Code.length : Int) ≤ x.At
          · rw [decide_eq_true h2, decide_eq_false (show ¬ x.At ≤ (m.Code.length : Int) - 1 by omega)]; rfl
          · rw [decide_eq_false h2, decide_eq_true (show x.At ≤ (m.Code.length : Int) - 1 by omega)]; rfl
      unfold trapN
      rw [hb]
      cases decide (x.From < 0) <;> cases decide (x.To ≤ x.From) <;> cases decide ((m.Code.length : Int) < x.To) <;> cases decide (x.At < 0) <;> cases decide ((m.Code.length : Int) ≤ x.At) <;> cases (x.C == []) <;> rfl) (by show ref3_body_l3 m (m.Traps.length : Int) = _; unfold ref3_body_l3; rw [past]; rfl)
  have hn : decide (6 < (m.Traps.length : Int)) = !decide ((m.Traps.length : Int) ≤ 6) := by
    by_cases h6 : (m.Traps.length : Int) ≤ 6
    · rw [decide_eq_true h6, decide_eq_false (show ¬ 6 < (m.Traps.length : Int) by omega)]; rfl
    · rw [decide_eq_false h6, decide_eq_true (show 6 < (m.Traps.length : Int) by omega)]; rfl
  have k2 : ref3_body_k2 m = some (!m.Traps.any (trapN (m.Code.length : Int))) := by
    unfold ref3_body_k2
    rw [lt]
    cases m.Traps.any (trapN (m.Code.length : Int)) <;> rfl
  unfold ref3_body trapsN instrN
  rw [lc, hn]
  by_cases h1 : (m.Code.length : Int) < 1
  · rw [decide_eq_true h1, show class_between (m.Code.length : Int) 1 100 = false from by show (decide (1 ≤ (m.Code.length : Int)) && _) = false; rw [decide_eq_false (show ¬ 1 ≤ (m.Code.length : Int) by omega)]; rfl]
    rfl
  by_cases h2 : 100 < (m.Code.length : Int)
  · rw [decide_eq_true h2, show class_between (m.Code.length : Int) 1 100 = false from by show (decide (1 ≤ (m.Code.length : Int)) && decide ((m.Code.length : Int) ≤ 100)) = false; rw [decide_eq_false (show ¬ (m.Code.length : Int) ≤ 100 by omega), Bool.and_false], Bool.or_true]
    rfl
  rw [decide_eq_false h1, decide_eq_false h2, show class_between (m.Code.length : Int) 1 100 = true from by show (decide (1 ≤ (m.Code.length : Int)) && decide ((m.Code.length : Int) ≤ 100)) = true; rw [decide_eq_true (show 1 ≤ (m.Code.length : Int) by omega), decide_eq_true (show (m.Code.length : Int) ≤ 100 by omega)]; rfl]
  have e : IntKind.i64.wrap ((m.Code.length : Int) - 1) = ((m.Code.length - 1 : Nat) : Int) := by
    rw [wrapI (by omega) (by omega)]; omega
  rw [e, idx_nat, ← List.getLast?_eq_getElem?]
  cases hg : m.Code.getLast? with
  | none =>
    rw [List.getLast?_eq_none_iff] at hg
    rw [hg] at h1
    simp at h1
  | some y =>
    simp only [Option.bind_some, Option.elim_some]
    rw [show ref3_Ends y.Op = op_Ends y.Op from rfl]
    cases op_Ends y.Op with
    | false => rfl
    | true =>
      cases decide ((m.Traps.length : Int) ≤ 6) with
      | false =>
        cases m.Code.any (insN (m.Code.length : Int)) <;> cases m.Traps.any (trapN (m.Code.length : Int)) <;> rfl
      | true =>
        cases m.Code.any (insN (m.Code.length : Int)) with
        | true => rfl
        | false =>
          show ref3_body_k2 m = _
          rw [k2]
          cases m.Traps.any (trapN (m.Code.length : Int)) <;> rfl
end Go.Proofs.YthhkdanpjcnegaaGreat
