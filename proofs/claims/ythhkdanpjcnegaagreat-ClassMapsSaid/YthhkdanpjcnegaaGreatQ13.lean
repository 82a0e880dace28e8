/- Plain laws, part 13: any class: the program's answer is the document's. -/
import Derived.Test.YthhkdanpjcnegaaGreatQ12
namespace Go.Proofs.YthhkdanpjcnegaaGreat
set_option linter.unusedSimpArgs false
set_option linter.unusedVariables false

/-- A method whose parts are as long as such things are. -/
structure GIn (m : ApiMethod) : Prop where
  name : Len m.Name
  params : m.Params.length ≤ 1000000000000 ∧ ∀ s ∈ m.Params, Len s
  ret : Len m.Ret
  maps : MapsIn m
  body : BodyIn m
  small : m.Code.length ≤ 1000000000000 ∧ m.Maps.length ≤ 1000000000000 ∧ m.Traps.length ≤ 1000000000000

noncomputable def methodG (m : ApiMethod) : Bool :=
  ((!((!nameN m.Name) || decide (6 < (m.Params.length : Int))) && typesN m.Params) && retN m.Ret) && cond m.Abstract (class_empty m)
    (!((m.Name == [36, 105, 110, 105, 116]) && (((!m.Static) || decide (0 < (m.Params.length : Int))) || (!(m.Ret == [86])))) && (class_between m.Locals (class_args m) 16 && (class_between m.Stack 0 16 && ((instrN m.Code && trapsN m) && mapsN m))))

theorem lenP {m : ApiMethod} (h : GIn m) : LenL m.Params := by have := h.params.1; unfold LenL; omega
theorem class_method_eqG {m : ApiMethod} (h : GIn m) : class_method m = some (methodG m) := by
  unfold class_method methodG
  rw [kind_Name_eq h.name, Option.bind_some, class_types_eq (lenP h) h.params.2, kind_Ret_eq h.ret, class_instructions_eq h.body.code.1 h.body.code.2, class_maps_eq h.maps, class_traps_eq h.body.traps.1 h.body.traps.2]
  cases ((!nameN m.Name) || decide (6 < (m.Params.length : Int))) with
  | true => rfl
  | false =>
    cases typesN m.Params with
    | false => rfl
    | true =>
      cases retN m.Ret with
      | false => rfl
      | true =>
        cases m.Abstract with
        | true => rfl
        | false =>
          cases ((m.Name == [36, 105, 110, 105, 116]) && (((!m.Static) || decide (0 < (m.Params.length : Int))) || (!(m.Ret == [86])))) with
          | true => rfl
          | false =>
            cases class_between m.Locals (class_args m) 16 with
            | false => rfl
            | true =>
              cases class_between m.Stack 0 16 with
              | false => rfl
              | true => cases instrN m.Code <;> cases mapsN m <;> cases trapsN m <;> rfl

theorem ref3_Ret_eq {s : List UInt8} (h : Len s) : ref3_Ret s = some (retN s) := by
  unfold ref3_Ret retN
  rw [ref3_May_eq h]
  cases (s == [86]) <;> rfl

theorem empty_eq {m : ApiMethod} (h : GIn m) : class_empty m = (((((((!m.Static) && (!(m.Name == [36, 105, 110, 105, 116]))) && (m.Locals == (0 : Int))) && (m.Stack == (0 : Int))) && ((m.Code.length : Int) == (0 : Int))) && ((m.Maps.length : Int) == (0 : Int))) && ((m.Traps.length : Int) == (0 : Int))) := by
  obtain ⟨h1, h2, h3⟩ := h.small
  have key : (((m.Code.length : Int) + (m.Maps.length : Int) + (m.Traps.length : Int)) == (0 : Int)) = ((((m.Code.length : Int) == 0) && ((m.Maps.length : Int) == 0)) && ((m.Traps.length : Int) == 0)) := by
    by_cases a : (m.Code.length : Int) = 0
    · by_cases b : (m.Maps.length : Int) = 0
      · rw [a, b, Int.zero_add, Int.zero_add]; rfl
      · rw [beq_eq_false_iff_ne.2 (show ((m.Code.length : Int) + m.Maps.length + m.Traps.length) ≠ 0 by omega), beq_eq_false_iff_ne.2 b, Bool.and_false, Bool.false_and]
    · rw [beq_eq_false_iff_ne.2 (show ((m.Code.length : Int) + m.Maps.length + m.Traps.length) ≠ 0 by omega), beq_eq_false_iff_ne.2 a, Bool.false_and, Bool.false_and]
  unfold class_empty
  rw [wrapI (n := (m.Code.length : Int) + (m.Maps.length : Int)) (by omega) (by omega), wrapI (by omega) (by omega), key]
  simp only [Bool.and_assoc]

theorem between_ref (x a b : Int) : (decide (x < a) || decide (b < x)) = !(class_between x a b) := by
  show _ = !(decide (a ≤ x) && decide (x ≤ b))
  by_cases h1 : x < a
  · rw [decide_eq_true h1, decide_eq_false (show ¬ a ≤ x by omega)]; rfl
  · rw [decide_eq_false h1, decide_eq_true (show a ≤ x by omega)]
    by_cases h2 : b < x
    · rw [decide_eq_true h2, decide_eq_false (show ¬ x ≤ b by omega)]; rfl
    · rw [decide_eq_false h2, decide_eq_true (show x ≤ b by omega)]; rfl

theorem ref3_MayMethod_eq {m : ApiMethod} (h : GIn m) : ref3_MayMethod m = some (methodG m) := by
  have lp : loopP (fun z => ref3_MayMethod_l1 m z) 0 = some (cond (m.Params.any fun s => !mayN s) (.inr false) (.inl ())) :=
    list_loop (lenP h) (fun i x hx => by
      show ref3_MayMethod_l1 m (i : Int) = _
      unfold ref3_MayMethod_l1
      rw [here hx, idx_nat, hx]
      simp only [Option.bind_some, cond_true]
      rw [ref3_May_eq (h.params.2 x (List.mem_of_getElem? hx))]
      rfl) (by show ref3_MayMethod_l1 m (m.Params.length : Int) = _; unfold ref3_MayMethod_l1; rw [past]; rfl)
  have j3 : ∀ a, ref3_MayMethod_j3 m a = some (class_between m.Locals a 16 && (class_between m.Stack 0 16 && ((instrN m.Code && trapsN m) && mapsN m))) := fun a => by
    unfold ref3_MayMethod_j3
    rw [between_ref, Bool.or_assoc, between_ref, ref3_body_eq h.body, ref3_maps_eq h.maps]
    cases class_between m.Locals a 16 with
    | false => rfl
    | true =>
      cases class_between m.Stack 0 16 with
      | false => rfl
      | true => cases (instrN m.Code && trapsN m) <;> rfl
  have k2 : ref3_MayMethod_k2 m = some (cond m.Abstract (class_empty m)
    (!((m.Name == [36, 105, 110, 105, 116]) && (((!m.Static) || decide (0 < (m.Params.length : Int))) || (!(m.Ret == [86])))) && (class_between m.Locals (class_args m) 16 && (class_between m.Stack 0 16 && ((instrN m.Code && trapsN m) && mapsN m))))) := by
    unfold ref3_MayMethod_k2 class_args
    rw [j3, j3, empty_eq h]
    cases m.Abstract with
    | true => rfl
    | false =>
      cases ((m.Name == [36, 105, 110, 105, 116]) && (((!m.Static) || decide (0 < (m.Params.length : Int))) || (!(m.Ret == [86])))) with
      | true => rfl
      | false => cases m.Static <;> rfl
  unfold ref3_MayMethod methodG typesN
  rw [ref3_Name_eq h.name, Option.bind_some, ref3_Ret_eq h.ret, lp]
  cases ((!nameN m.Name) || decide (6 < (m.Params.length : Int))) with
  | true => rfl
  | false =>
    cases retN m.Ret with
    | false => rw [Bool.and_false]; rfl
    | true =>
      cases m.Params.any fun s => !mayN s with
      | true => rfl
      | false => exact k2

/-! ### Classes -/
theorem allMethodsG {l : List ApiMethod} (hl : LenL l) (h : ∀ m ∈ l, GIn m) (n : Int) (a b : List UInt8) (i : Bool) (c : List (List UInt8)) (d : List ApiField) (e : List ApiMethod) :
    class_all_api_Method l n a b i c d e = cond (uB (fun m => (m.Abstract == i) && methodG m) (·.Name) [] l) (some false) (some (decide ((l.length : Int) ≤ n))) := by
  unfold class_all_api_Method
  refine uniq_loop (ok := fun m => (m.Abstract == i) && methodG m) (nm := (·.Name)) hl (fun j x hx => ?_) ?_
  · have hm := h x (List.mem_of_getElem? hx)
    have hi := (List.getElem?_eq_some_iff.1 hx).1
    unfold class_all_api_Method_l1 class_May_4
    rw [here hx, idx_nat, hx]
    simp only [Option.bind_some, cond_true]
    rw [class_method_eqG hm, cutP_to (by omega)]
    simp only [Option.bind_some]
    rw [hasMethod (by unfold LenL at *; rw [List.length_take]; omega)]
    cases (x.Abstract == i) with
    | false => rfl
    | true => cases methodG x <;> rfl
  · unfold class_all_api_Method_l1
    rw [past]; rfl

structure CGIn (c : ApiClass) : Prop where
  name : Len c.Name
  super : Len c.Super
  impl : LenL c.Impl ∧ ∀ s ∈ c.Impl, Len s
  fields : LenL c.Fields ∧ ∀ f ∈ c.Fields, Len f.Name ∧ Len f.Type_
  methods : LenL c.Methods ∧ ∀ m ∈ c.Methods, GIn m
noncomputable def mayG (c : ApiClass) : Bool :=
  !(c.Interface && ((!(c.Super == [79, 98, 106, 101, 99, 116])) || decide (0 < (c.Fields.length : Int)))) &&
  (((((classN c.Name && classN c.Super) && (!(uB classN id [] c.Impl) && decide ((c.Impl.length : Int) ≤ 4))) && (!(uB fieldN (·.Name) [] c.Fields) && decide ((c.Fields.length : Int) ≤ 8)))) &&
    (!(uB (fun m => (m.Abstract == c.Interface) && methodG m) (·.Name) [] c.Methods) && decide ((c.Methods.length : Int) ≤ 8)))
theorem class_May_eqG {c : ApiClass} (h : CGIn c) : class_May c = some (mayG c) := by
  have e : ∀ (b d : Bool), cond b (some false) (some d) = some (!b && d) := fun b d => by cases b <;> rfl
  unfold class_May mayG
  rw [allFields h.fields.1 h.fields.2, allMethodsG h.methods.1 h.methods.2, kind_Class_eq h.name, kind_Class_eq h.super, allNames h.impl.1 h.impl.2, e, e, e]
  cases (c.Interface && ((!(c.Super == [79, 98, 106, 101, 99, 116])) || decide (0 < (c.Fields.length : Int)))) with
  | true => rfl
  | false =>
    cases classN c.Name with
    | false => rfl
    | true => cases classN c.Super <;> rfl

theorem first_ix {α : Type} (p : α → Bool) : ∀ (l : List α) (k i : Nat) (x : α), l[i]? = some x → p x = true → (ixF p k l == ((k + i : Nat) : Int)) = !((l.take i).any p)
  | [], k, i, x, h, _ => by simp at h
  | y :: r, k, 0, x, h, hp => by
    have : y = x := by simpa using h
    subst this
    show (cond (p y) (k : Int) (ixF p (k + 1) r) == (k : Int)) = true
    rw [hp]
    exact beq_self_eq_true _
  | y :: r, k, i + 1, x, h, hp => by
    have h' : r[i]? = some x := by simpa using h
    show (cond (p y) (k : Int) (ixF p (k + 1) r) == ((k + (i + 1) : Nat) : Int)) = !(p y || (r.take i).any p)
    cases p y with
    | true => exact beq_eq_false_iff_ne.2 (show (k : Int) ≠ ((k + (i + 1) : Nat) : Int) by omega)
    | false =>
      have := first_ix p r (k + 1) i x h' hp
      rw [show k + 1 + i = k + (i + 1) by omega] at this
      exact this
theorem ref3_Field_eq {c : ApiClass} (hl : LenL c.Fields) (n : List UInt8) : ref3_Field c n = some (ixF (fun y => y.Name == n) 0 c.Fields) := by
  unfold ref3_Field
  rw [show ((loopP (fun z => ref3_Field_l1 c n z) 0).bind fun o => leave o (fun b => ref3_Field_k2) some) = _ from index_loop (p := fun y : ApiField => y.Name == n) hl
    (fun i x hx => by unfold ref3_Field_l1; rw [here hx, idx_nat, hx]; rfl) (by unfold ref3_Field_l1; rw [past]; rfl)]
theorem ref3_Method_eq {c : ApiClass} (hl : LenL c.Methods) (n : List UInt8) : ref3_Method c n = some (ixF (fun y => y.Name == n) 0 c.Methods) := by
  unfold ref3_Method
  rw [show ((loopP (fun z => ref3_Method_l1 c n z) 0).bind fun o => leave o (fun b => ref3_Method_k2) some) = _ from index_loop (p := fun y : ApiMethod => y.Name == n) hl
    (fun i x hx => by unfold ref3_Method_l1; rw [here hx, idx_nat, hx]; rfl) (by unfold ref3_Method_l1; rw [past]; rfl)]
theorem beqC2 (x y : List UInt8) : (x == y) = (y == x) := by
  by_cases h : x = y
  · rw [h]
  · rw [beq_eq_false_iff_ne.2 h, beq_eq_false_iff_ne.2 (Ne.symm h)]
theorem sameAny {α : Type} (l : List α) (f : α → List UInt8) (n : List UInt8) : (l.any fun y => f y == n) = l.any fun y => n == f y := by
  congr 1
  funext y
  exact beqC2 _ _

theorem ref3_MayClass_eq {c : ApiClass} (h : CGIn c) : ref3_MayClass c = some (mayG c) := by
  have himp := h.impl.1
  unfold LenL at himp
  have lf : loopP (fun z => ref3_MayClass_l7 c z) 0 = some (cond (uB fieldN (·.Name) [] c.Fields) (.inr false) (.inl ())) := by
    rw [uB_gB]
    refine gen_loop h.fields.1 (fun i x hx => ?_) (by show ref3_MayClass_l7 c (c.Fields.length : Int) = _; unfold ref3_MayClass_l7; rw [past]; rfl)
    have hm := h.fields.2 x (List.mem_of_getElem? hx)
    have hfi := first_ix (fun y : ApiField => y.Name == x.Name) c.Fields 0 i x hx (beq_self_eq_true _)
    rw [Nat.zero_add, sameAny] at hfi
    show ref3_MayClass_l7 c (i : Int) = _
    unfold ref3_MayClass_l7 fieldN
    rw [here hx, idx_nat, hx]
    simp only [Option.bind_some, cond_true]
    rw [ref3_Name_eq hm.1, ref3_May_eq hm.2, ref3_Field_eq h.fields.1]
    simp only [Option.bind_some]
    rw [hfi]
    cases nameN x.Name with
    | false => rfl
    | true =>
      cases (x.Name == [36, 105, 110, 105, 116]) with
      | true => rfl
      | false =>
        cases mayN x.Type_ with
        | false => rfl
        | true => cases (c.Fields.take i).any fun y => x.Name == y.Name <;> rfl
  have lm : loopP (fun z => ref3_MayClass_l9 c z) 0 = some (cond (uB (fun m => (m.Abstract == c.Interface) && methodG m) (·.Name) [] c.Methods) (.inr false) (.inl ())) := by
    rw [uB_gB]
    refine gen_loop h.methods.1 (fun i x hx => ?_) (by show ref3_MayClass_l9 c (c.Methods.length : Int) = _; unfold ref3_MayClass_l9; rw [past]; rfl)
    have hm := h.methods.2 x (List.mem_of_getElem? hx)
    have hfi := first_ix (fun y : ApiMethod => y.Name == x.Name) c.Methods 0 i x hx (beq_self_eq_true _)
    rw [Nat.zero_add, sameAny] at hfi
    show ref3_MayClass_l9 c (i : Int) = _
    unfold ref3_MayClass_l9
    rw [here hx, idx_nat, hx]
    simp only [Option.bind_some, cond_true]
    rw [ref3_MayMethod_eq hm, ref3_Method_eq h.methods.1]
    simp only [Option.bind_some]
    rw [hfi]
    cases (x.Abstract == c.Interface) with
    | false => rfl
    | true =>
      cases methodG x with
      | false => cases (c.Methods.take i).any fun y => x.Name == y.Name <;> rfl
      | true => cases (c.Methods.take i).any fun y => x.Name == y.Name <;> rfl
  have li : loopP (fun z => ref3_MayClass_l5 c z) 0 = some (cond (uB classN id [] c.Impl) (.inr false) (.inl ())) := by
    rw [uB_gB]
    refine gen_loop h.impl.1 (fun i x hx => ?_) (by show ref3_MayClass_l5 c (c.Impl.length : Int) = _; unfold ref3_MayClass_l5; rw [past]; rfl)
    have hm := h.impl.2 x (List.mem_of_getElem? hx)
    have hi := (List.getElem?_eq_some_iff.1 hx).1
    have hin : loopP (fun z => ref3_MayClass_l3 c (i : Int) z) 0 = some (cond ((c.Impl.take i).any fun y => y == x) (.inr false) (.inl ())) := by
      have ht : (c.Impl.take i).length = i := by rw [List.length_take]; omega
      refine list_loop (by omega) (fun j y hy => ?_) ?_
      · have hj := (List.getElem?_eq_some_iff.1 hy).1
        rw [ht] at hj
        rw [List.getElem?_take_of_lt hj] at hy
        show ref3_MayClass_l3 c (i : Int) (j : Int) = _
        unfold ref3_MayClass_l3
        rw [decide_eq_true (show (j : Int) < (i : Int) by omega), idx_nat, hy, idx_nat, hx]
        rfl
      · rw [ht]
        show ref3_MayClass_l3 c (i : Int) (i : Int) = _
        unfold ref3_MayClass_l3
        rw [decide_eq_false (show ¬ (i : Int) < (i : Int) by omega)]; rfl
    show ref3_MayClass_l5 c (i : Int) = _
    unfold ref3_MayClass_l5
    rw [here hx, idx_nat, hx]
    simp only [Option.bind_some, cond_true]
    rw [ref3_Class_eq hm, hin, show ((c.Impl.take i).any fun y => y == x) = (c.Impl.take i).any fun y => id x == id y from sameAny _ id x]
    cases classN x with
    | false => rfl
    | true => cases (c.Impl.take i).any fun y => id x == id y <;> rfl
  have hle : ∀ (n : Nat) (b : Int), decide (b < (n : Int)) = !decide ((n : Int) ≤ b) := fun n b => by
    by_cases hb : (n : Int) ≤ b
    · rw [decide_eq_true hb, decide_eq_false (show ¬ b < (n : Int) by omega)]; rfl
    · rw [decide_eq_false hb, decide_eq_true (show b < (n : Int) by omega)]; rfl
  unfold ref3_MayClass ref3_MayClass_k6 ref3_MayClass_k8 mayG
  rw [ref3_Class_eq h.name, ref3_Class_eq h.super, li, lf, lm, hle c.Impl.length 4, hle c.Fields.length 8, hle c.Methods.length 8]
  generalize (c.Interface && ((!(c.Super == [79, 98, 106, 101, 99, 116])) || decide (0 < (c.Fields.length : Int)))) = B
  generalize uB classN id [] c.Impl = u1
  generalize uB fieldN (·.Name) [] c.Fields = u2
  generalize uB (fun m => (m.Abstract == c.Interface) && methodG m) (·.Name) [] c.Methods = u3
  generalize decide ((c.Impl.length : Int) ≤ 4) = d1
  generalize decide ((c.Fields.length : Int) ≤ 8) = d2
  generalize decide ((c.Methods.length : Int) ≤ 8) = d3
  cases classN c.Name with
  | false => cases B <;> rfl
  | true =>
    cases classN c.Super with
    | false => cases B <;> rfl
    | true => cases B <;> cases u1 <;> cases u2 <;> cases u3 <;> cases d1 <;> cases d2 <;> cases d3 <;> rfl
end Go.Proofs.YthhkdanpjcnegaaGreat
