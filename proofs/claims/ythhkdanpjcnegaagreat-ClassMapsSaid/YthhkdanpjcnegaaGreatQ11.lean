/- Plain laws, part 11: any class; the document's own answer. -/
import Derived.Test.YthhkdanpjcnegaaGreatQ9
namespace Go.Proofs.YthhkdanpjcnegaaGreat
set_option linter.unusedSimpArgs false
set_option linter.unusedVariables false

/-- Whether an element of r is unfit, told by what stands before it. -/
def gB {α : Type} (bad : List α → α → Bool) : List α → List α → Bool
  | _, [] => false
  | pre, x :: r => bad pre x || gB bad (pre ++ [x]) r

theorem gen_loop {α : Type} {body : Int → Option (Sum Int (Sum Unit Bool))} {l : List α} {bad : List α → α → Bool} (hl : l.length ≤ 9223372036854775807)
    (hb : ∀ (i : Nat) x, l[i]? = some x → body (i : Int) = cond (bad (l.take i) x) (some (.inr (.inr false))) (some (.inl (IntKind.i64.wrap ((i : Int) + 1)))))
    (he : body (l.length : Int) = some (.inr (.inl ()))) : loopP body 0 = some (cond (gB bad [] l) (.inr false) (.inl ())) := by
  have key : ∀ (r pre : List α), l = pre ++ r → loopP body (pre.length : Int) = some (cond (gB bad pre r) (.inr false) (.inl ())) := by
    intro r
    induction r with
    | nil =>
      intro pre h
      rw [List.append_nil] at h
      subst h
      rw [loopP_eq, he]
      rfl
    | cons x r ih =>
      intro pre h
      have hlen : l.length = pre.length + (r.length + 1) := by rw [h]; simp
      have hx : l[pre.length]? = some x := by rw [h]; simp
      have ht : l.take pre.length = pre := by rw [h]; simp
      rw [loopP_eq, hb _ x hx, ht]
      unfold gB
      cases bad pre x with
      | true => rfl
      | false =>
        rw [wrap_succ (by omega)]
        have := ih (pre ++ [x]) (by rw [h]; simp)
        rw [show (pre ++ [x]).length = pre.length + 1 by simp] at this
        exact this
  exact key l [] rfl

theorem gB_any {α : Type} (p : α → Bool) : ∀ (pre r : List α), gB (fun _ x => p x) pre r = r.any p
  | _, [] => rfl
  | pre, x :: r => by
    show (p x || gB _ _ r) = _
    rw [gB_any p (pre ++ [x]) r, List.any_cons]
theorem uB_gB {α : Type} (ok : α → Bool) (nm : α → List UInt8) : ∀ (pre r : List α), uB ok nm pre r = gB (fun pre x => !ok x || pre.any (fun y => nm x == nm y)) pre r
  | _, [] => rfl
  | pre, x :: r => by
    show (_ || uB ok nm (pre ++ [x]) r) = (_ || gB _ (pre ++ [x]) r)
    rw [uB_gB ok nm (pre ++ [x]) r]
theorem list_loop {α : Type} {body : Int → Option (Sum Int (Sum Unit Bool))} {l : List α} {bad : α → Bool} (hl : l.length ≤ 9223372036854775807)
    (hb : ∀ (i : Nat) x, l[i]? = some x → body (i : Int) = cond (bad x) (some (.inr (.inr false))) (some (.inl (IntKind.i64.wrap ((i : Int) + 1)))))
    (he : body (l.length : Int) = some (.inr (.inl ()))) : loopP body 0 = some (cond (l.any bad) (.inr false) (.inl ())) := by
  rw [gen_loop (bad := fun _ x => bad x) hl hb he, gB_any]

/-! ### Maps -/
noncomputable def slotN (v : List UInt8) : Bool := (((v == [73]) || (v == [78])) || (v == [84])) || refN v
theorem class_slot_eq {s : List UInt8} (h : Len s) : class_slot s = some (slotN s) := by
  unfold class_slot slotN
  rw [kind_Ref_eq h]
  cases (((s == [73]) || (s == [78])) || (s == [84])) <;> rfl
noncomputable def slotsN (l : List (List UInt8)) : Bool := !(l.any fun s => !slotN s)
theorem class_types_s2_eq {l : List (List UInt8)} (hl : LenL l) (h : ∀ s ∈ l, Len s) : class_types_s2 l = some (slotsN l) := by
  unfold class_types_s2 slices_ContainsFunc_string_string_s2 slices_IndexFunc_string_string_s2
  rw [show ((loopP (fun z => slices_IndexFunc_string_string_s2_l1 l z) 0).bind fun o => leave o (fun b => slices_IndexFunc_string_string_s2_k2) some) = _ from index_loop (p := fun s => !slotN s) hl
    (fun i x hx => by
      unfold slices_IndexFunc_string_string_s2_l1 class_types_1_s2
      rw [here hx, idx_nat, hx]
      simp only [Option.bind_some, cond_true]
      rw [class_slot_eq (h x (List.mem_of_getElem? hx))]
      rfl) (by unfold slices_IndexFunc_string_string_s2_l1; rw [past]; rfl)]
  rw [Option.bind_some, ixF_any]
  rfl
theorem hasText {l : List (List UInt8)} (hl : LenL l) (n : List UInt8) : slices_Contains_string_string l n = some (l.any fun y => n == y) := by
  unfold slices_Contains_string_string slices_Index_string_string
  rw [show ((loopP (fun z => slices_Index_string_string_l1 l n z) 0).bind fun o => leave o (fun b => slices_Index_string_string_k2) some) = _ from index_loop (p := fun y : List UInt8 => n == y) hl
    (fun i x hx => by unfold slices_Index_string_string_l1; rw [here hx, idx_nat, hx]; rfl) (by unfold slices_Index_string_string_l1; rw [past]; rfl)]
  exact congrArg some (ixF_any _ 0 l)

/-- What is wrong with a Map behind those of pre. -/
noncomputable def mapB (m : ApiMethod) (pre : List ApiMap) (x : ApiMap) : Bool :=
  ((!(decide (0 ≤ x.At) && decide (x.At < (m.Code.length : Int)))) || (pre.getLast?.elim false (fun y => decide (x.At ≤ y.At)))) ||
  (((!((x.Locals.length : Int) == m.Locals)) || decide (m.Stack < (x.Stack.length : Int))) || ((!slotsN x.Locals || !slotsN x.Stack) || x.Stack.any (fun y => [84] == y)))
noncomputable def mapsN (m : ApiMethod) : Bool := !(gB (mapB m) [] m.Maps) && decide ((m.Maps.length : Int) ≤ 100)
structure MapsIn (m : ApiMethod) : Prop where
  len : LenL m.Maps
  code : LenL m.Code
  all : ∀ x ∈ m.Maps, (LenL x.Locals ∧ ∀ s ∈ x.Locals, Len s) ∧ (LenL x.Stack ∧ ∀ s ∈ x.Stack, Len s)

theorem take_last {α : Type} {l : List α} {i : Nat} (h : i < l.length) (h0 : 0 < i) : (l.take i).getLast? = l[i - 1]? := by
  rw [List.getLast?_eq_getElem?, List.getElem?_take_of_lt (by simp; omega)]
  congr 1
  simp; omega
theorem class_maps_eq {m : ApiMethod} (h : MapsIn m) : class_maps m = some (mapsN m) := by
  have j2 : ∀ (i : Nat) (x : ApiMap) (b : Bool), x ∈ m.Maps → class_maps_j2 m (i : Int) x b = cond (b || (((!((x.Locals.length : Int) == m.Locals)) || decide (m.Stack < (x.Stack.length : Int))) || ((!slotsN x.Locals || !slotsN x.Stack) || x.Stack.any (fun y => [84] == y)))) (some (.inr (.inr false))) (some (.inl (IntKind.i64.wrap ((i : Int) + 1)))) := fun i x b hx => by
    obtain ⟨⟨h1, h2⟩, h3, h4⟩ := h.all x hx
    unfold class_maps_j2
    rw [class_types_s2_eq h1 h2, class_types_s2_eq h3 h4, hasText h3]
    cases b with
    | true => rfl
    | false =>
      cases ((!((x.Locals.length : Int) == m.Locals)) || decide (m.Stack < (x.Stack.length : Int))) with
      | true => rfl
      | false =>
        cases slotsN x.Locals with
        | false => rfl
        | true => cases slotsN x.Stack <;> rfl
  have hl : loopP (fun z => class_maps_l3 m z) 0 = _ := gen_loop (bad := mapB m) h.len (fun i x hx => by
    have hm := List.mem_of_getElem? hx
    have hi := (List.getElem?_eq_some_iff.1 hx).1
    have hlen := h.len
    have hcode := h.code
    unfold LenL at hlen hcode
    show class_maps_l3 m (i : Int) = _
    unfold class_maps_l3 mapB
    rw [here hx, idx_nat, hx]
    simp only [Option.bind_some, cond_true]
    have hb : class_between x.At 0 (IntKind.i64.wrap ((m.Code.length : Int) - 1)) = (decide (0 ≤ x.At) && decide (x.At < (m.Code.length : Int))) := by
      show (decide (0 ≤ x.At) && decide (x.At ≤ IntKind.i64.wrap ((m.Code.length : Int) - 1))) = _
      rw [wrapI (by omega) (by omega)]
      congr 1
      exact decide_eq_decide.2 (by omega)
    rw [hb]
    cases (decide (0 ≤ x.At) && decide (x.At < (m.Code.length : Int))) with
    | false => exact j2 i x true hm
    | true =>
      rcases Nat.eq_zero_or_pos i with h0 | h0
      · subst h0
        exact j2 0 x false hm
      · rw [decide_eq_true (show (0 : Int) < (i : Int) by omega), take_last hi h0]
        have e : IntKind.i64.wrap ((i : Int) - 1) = ((i - 1 : Nat) : Int) := by
          rw [wrapI (by omega) (by omega)]; omega
        rw [e, idx_nat, List.getElem?_eq_getElem (show i - 1 < m.Maps.length by omega)]
        exact j2 i x _ hm) (by show class_maps_l3 m (m.Maps.length : Int) = _; unfold class_maps_l3; rw [past]; rfl)
  unfold class_maps mapsN
  rw [hl]
  cases gB (mapB m) [] m.Maps <;> rfl
end Go.Proofs.YthhkdanpjcnegaaGreat
