/- Plain laws, part 10: the law ClassLimits. -/
import Derived.Test.YthhkdanpjcnegaaQ9
import Derived.Test.YthhkdanpjcnegaaEn2
namespace Go.Proofs.Ythhkdanpjcnegaa
set_option linter.unusedSimpArgs false
set_option linter.unusedVariables false

theorem build_loop {α R : Type} {body : List α → Int → Option (Sum (List α × Int) (Sum (List α) R))} {n : Nat} {g : Nat → α}
    (hb : ∀ (k : Nat) l, k < n → l.length = k → body l (k : Int) = some (.inl (l ++ [g k], ((k + 1 : Nat) : Int))))
    (he : ∀ l, body l (n : Int) = some (.inr (.inl l))) : loopP (fun z : List α × Int => body z.1 z.2) ([], 0) = some (.inl ((List.range n).map g)) := by
  have key : ∀ d k, n - k = d → k ≤ n → loopP (fun z : List α × Int => body z.1 z.2) ((List.range k).map g, (k : Int)) = some (.inl ((List.range n).map g)) := by
    intro d
    induction d with
    | zero =>
      intro k hd hk
      have : k = n := by omega
      subst this
      rw [loopP_eq, he]
      rfl
    | succ d ih =>
      intro k hd hk
      have h := ih (k + 1) (by omega) (by omega)
      rw [List.range_succ, List.map_append] at h
      rw [loopP_eq, hb k _ (by omega) (by simp)]
      exact h
  exact key n 0 (by omega) (by omega)

def digit (i : Nat) : UInt8 := tU8 (IntKind.i64.wrap (48 + (i : Int)))
noncomputable def fieldsOf (n : Nat) : List ApiField := (List.range n).map fun i => ApiField.mk [102, digit i] [73] false
noncomputable def parsOf (n : Nat) : List (List UInt8) := (List.range n).map fun _ => [73]
noncomputable def codeOf (n : Nat) : List ApiIns := (List.range n).map fun _ => ApiIns.mk 46 0 [] []
noncomputable def trapsOf (n : Nat) : List ApiTrap := (List.range n).map fun _ => ApiTrap.mk 0 1 0 []
noncomputable def methOf (p c t i : Nat) : ApiMethod := ApiMethod.mk [109, digit i] (parsOf p) [86] true false (p : Int) 0 (codeOf c) [] (trapsOf t)
noncomputable def methsOf (m p c t : Nat) : List ApiMethod := (List.range m).map (methOf p c t)

theorem lFields {n : Nat} (h : n ≤ 200) : loopP (fun z => law5_ClassLimits_l1 (n : Int) z.1 z.2) ([], 0) = some (.inl (fieldsOf n)) := by
  refine build_loop (fun k l hk hl => ?_) fun l => ?_
  · unfold law5_ClassLimits_l1
    rw [decide_eq_true (show (k : Int) < (n : Int) by omega), appP_ok (by simp; omega) (by simp; omega), wrap_succ (by omega)]; rfl
  · unfold law5_ClassLimits_l1
    rw [decide_eq_false (show ¬ (n : Int) < (n : Int) by omega)]; rfl
theorem lPars {n : Nat} (h : n ≤ 200) : loopP (fun z => law5_ClassLimits_l9 (n : Int) z.1 z.2) ([], 0) = some (.inl (parsOf n)) := by
  refine build_loop (fun k l hk hl => ?_) fun l => ?_
  · unfold law5_ClassLimits_l9
    rw [decide_eq_true (show (k : Int) < (n : Int) by omega), appP_ok (by simp; omega) (by simp; omega), wrap_succ (by omega)]; rfl
  · unfold law5_ClassLimits_l9
    rw [decide_eq_false (show ¬ (n : Int) < (n : Int) by omega)]; rfl
theorem lCode {n : Nat} (h : n ≤ 200) : loopP (fun z => law5_ClassLimits_l11 (n : Int) z.1 z.2) ([], 0) = some (.inl (codeOf n)) := by
  refine build_loop (fun k l hk hl => ?_) fun l => ?_
  · unfold law5_ClassLimits_l11
    rw [decide_eq_true (show (k : Int) < (n : Int) by omega), appP_ok (by simp; omega) (by simp; omega), wrap_succ (by omega)]; rfl
  · unfold law5_ClassLimits_l11
    rw [decide_eq_false (show ¬ (n : Int) < (n : Int) by omega)]; rfl
theorem lTraps {n : Nat} (h : n ≤ 200) : loopP (fun z => law5_ClassLimits_l13 (n : Int) z.1 z.2) ([], 0) = some (.inl (trapsOf n)) := by
  refine build_loop (fun k l hk hl => ?_) fun l => ?_
  · unfold law5_ClassLimits_l13
    rw [decide_eq_true (show (k : Int) < (n : Int) by omega), appP_ok (by simp; omega) (by simp; omega), wrap_succ (by omega)]; rfl
  · unfold law5_ClassLimits_l13
    rw [decide_eq_false (show ¬ (n : Int) < (n : Int) by omega)]; rfl
theorem lMeths {n p c t : Nat} (h : n ≤ 200) (hp : p ≤ 200) (hc : c ≤ 200) (ht : t ≤ 200) : loopP (fun z => law5_ClassLimits_l15 (n : Int) (p : Int) (c : Int) (t : Int) z.1 z.2) ([], 0) = some (.inl (methsOf n p c t)) := by
  refine build_loop (fun k l hk hl => ?_) fun l => ?_
  · unfold law5_ClassLimits_l15
    rw [decide_eq_true (show (k : Int) < (n : Int) by omega), lPars hp]
    show law5_ClassLimits_k10 (p : Int) (c : Int) (t : Int) l (k : Int) (parsOf p) = _
    unfold law5_ClassLimits_k10
    rw [lCode hc]
    show law5_ClassLimits_k12 (p : Int) (t : Int) l (k : Int) (parsOf p) (codeOf c) = _
    unfold law5_ClassLimits_k12
    rw [lTraps ht]
    show law5_ClassLimits_k14 (p : Int) l (k : Int) (parsOf p) (codeOf c) (trapsOf t) = _
    unfold law5_ClassLimits_k14
    rw [appP_ok (by simp; omega) (by simp; omega), wrap_succ (by omega)]; rfl
  · unfold law5_ClassLimits_l15
    rw [decide_eq_false (show ¬ (n : Int) < (n : Int) by omega)]; rfl

theorem uB_map {α β : Type} (ok : α → Bool) (nm : α → List UInt8) (h : β → α) : ∀ (r pre : List β), uB ok nm (pre.map h) (r.map h) = uB (fun i => ok (h i)) (fun i => nm (h i)) pre r
  | [], _ => rfl
  | x :: r, pre => by
    have := uB_map ok nm h r (pre ++ [x])
    rw [List.map_append] at this
    show ((!ok (h x) || (pre.map h).any (fun y => nm (h x) == nm y)) || uB ok nm (pre.map h ++ [h x]) (r.map h)) = ((!ok (h x) || pre.any (fun y => nm (h x) == nm (h y))) || uB _ _ (pre ++ [x]) r)
    rw [← this, List.any_map]
    rfl

theorem pars_ok (n : Nat) : typesN (parsOf n) = true := by
  unfold typesN parsOf
  rw [List.any_map]
  have : ((fun s => !mayN s) ∘ fun _ : Nat => [(73 : UInt8)]) = fun _ => false := by
    funext i
    show (!mayN [73]) = false
    rw [show mayN [73] = true from by decide +kernel]; rfl
  rw [this]
  simp
theorem anyFalse {α : Type} (l : List α) : l.any (fun _ => false) = false := by simp
theorem code_ok {n : Nat} (h1 : 1 ≤ n) : instrN (codeOf n) = decide ((n : Int) ≤ 100) := by
  have hl : (codeOf n).length = n := by unfold codeOf; simp
  have hg : (codeOf n).getLast? = some (ApiIns.mk 46 0 [] []) := by
    obtain ⟨k, rfl⟩ : ∃ k, n = k + 1 := ⟨n - 1, by omega⟩
    unfold codeOf
    rw [List.range_succ, List.map_append, List.map_singleton, List.getLast?_concat]
  have ha : (codeOf n).any (insN (n : Int)) = false := by
    unfold codeOf
    rw [List.any_map]
    have : (insN (n : Int) ∘ fun _ : Nat => ApiIns.mk 46 0 [] []) = fun _ => false := by
      funext i
      show ((!mayIns (ApiIns.mk 46 0 [] [])) || (op_Jumps 46 && decide ((n : Int) ≤ 0))) = false
      rw [show mayIns (ApiIns.mk 46 0 [] []) = true from by decide +kernel, show op_Jumps 46 = false from by decide +kernel]; rfl
    rw [this]
    exact anyFalse _
  unfold instrN
  rw [hl, hg, ha]
  show ((decide (1 ≤ (n : Int)) && decide ((n : Int) ≤ 100)) && (op_Ends 46 && !false)) = _
  rw [decide_eq_true (show 1 ≤ (n : Int) by omega), show op_Ends 46 = true from by decide +kernel]
  simp
theorem traps_ok {p c t i : Nat} (h1 : 1 ≤ c) (h2 : c ≤ 200) : trapsN (methOf p c t i) = decide ((t : Int) ≤ 6) := by
  have hl : (trapsOf t).length = t := by unfold trapsOf; simp
  have hc : (codeOf c).length = c := by unfold codeOf; simp
  have ha : (trapsOf t).any (trapN (c : Int)) = false := by
    unfold trapsOf
    rw [List.any_map]
    have : (trapN (c : Int) ∘ fun _ : Nat => ApiTrap.mk 0 1 0 []) = fun _ => false := by
      funext i
      show ((((false || false) || decide ((c : Int) < 1)) || !(true && decide ((0 : Int) ≤ IntKind.i64.wrap ((c : Int) - 1)))) || false) = false
      rw [wrapI (by omega) (by omega), decide_eq_false (show ¬ (c : Int) < 1 by omega), decide_eq_true (show (0 : Int) ≤ (c : Int) - 1 by omega)]
      rfl
    rw [this]
    exact anyFalse _
  show (!((trapsOf t).any (trapN ((codeOf c).length : Int))) && decide (((trapsOf t).length : Int) ≤ 6)) = _
  rw [hc, ha, hl]
  rfl
theorem notLt (n : Nat) : (!decide (6 < (n : Int))) = decide ((n : Int) ≤ 6) := by
  by_cases h : n ≤ 6
  · rw [decide_eq_false (show ¬ 6 < (n : Int) by omega), decide_eq_true (show (n : Int) ≤ 6 by omega)]; rfl
  · rw [decide_eq_true (show 6 < (n : Int) by omega), decide_eq_false (show ¬ (n : Int) ≤ 6 by omega)]; rfl

noncomputable def fit (p c t : Nat) : Bool := (decide ((p : Int) ≤ 6) && decide ((c : Int) ≤ 100)) && decide ((t : Int) ≤ 6)
theorem meth_ok {p c t i : Nat} (hp : p ≤ 8) (h1 : 1 ≤ c) (h2 : c ≤ 200) : methodN (methOf p c t i) = (nameN [109, digit i] && fit p c t) := by
  have hl : (parsOf p).length = p := by unfold parsOf; simp
  have hi : (([109, digit i] : List UInt8) == [36, 105, 110, 105, 116]) = false := by
    apply beq_eq_false_iff_ne.2
    intro h
    simp at h
  have e : methodN (methOf p c t i) = (((!((!nameN [109, digit i]) || decide (6 < ((parsOf p).length : Int))) && typesN (parsOf p)) && retN [86]) &&
      (!((([109, digit i] : List UInt8) == [36, 105, 110, 105, 116]) && (((!true) || decide (0 < ((parsOf p).length : Int))) || (!(([86] : List UInt8) == [86])))) && (class_between (p : Int) ((parsOf p).length : Int) 16 && (true && (instrN (codeOf c) && trapsN (methOf p c t i)))))) := rfl
  rw [e, hl, hi, pars_ok, code_ok h1, traps_ok h1 h2, show retN [86] = true from by decide +kernel]
  show (((!((!nameN [109, digit i]) || decide (6 < (p : Int))) && true) && true) && (!false && ((decide ((p : Int) ≤ (p : Int)) && decide ((p : Int) ≤ 16)) && (true && (decide ((c : Int) ≤ 100) && decide ((t : Int) ≤ 6)))))) = _
  rw [decide_eq_true (show (p : Int) ≤ (p : Int) by omega), decide_eq_true (show (p : Int) ≤ 16 by omega)]
  unfold fit
  rw [← notLt p]
  cases nameN [109, digit i] <;> cases decide (6 < (p : Int)) <;> cases decide ((c : Int) ≤ 100) <;> cases decide ((t : Int) ≤ 6) <;> rfl

theorem meth_MIn {p c t i : Nat} (hp : p ≤ 200) (hc : c ≤ 200) (ht : t ≤ 200) : MIn (methOf p c t i) := by
  refine ⟨?_, ⟨?_, fun s hs => ?_⟩, ?_, ⟨?_, fun x hx => ?_⟩, rfl, ⟨?_, fun x hx => ?_⟩⟩
  · exact Nat.le_of_ble_eq_true rfl
  · show (parsOf p).length ≤ _
    unfold parsOf; simp; omega
  · have hs' : s ∈ parsOf p := hs
    unfold parsOf at hs'
    obtain ⟨_, _, rfl⟩ := List.mem_map.1 hs'
    exact Nat.le_of_ble_eq_true rfl
  · exact Nat.le_of_ble_eq_true rfl
  · show (codeOf c).length ≤ _
    unfold codeOf; simp; omega
  · have hx' : x ∈ codeOf c := hx
    unfold codeOf at hx'
    obtain ⟨_, _, rfl⟩ := List.mem_map.1 hx'
    exact ⟨Nat.le_of_ble_eq_true rfl, Nat.le_of_ble_eq_true rfl⟩
  · show (trapsOf t).length ≤ _
    unfold trapsOf; simp; omega
  · have hx' : x ∈ trapsOf t := hx
    unfold trapsOf at hx'
    obtain ⟨_, _, rfl⟩ := List.mem_map.1 hx'
    exact Nat.le_of_ble_eq_true rfl

theorem fields_tab : ∀ n : _root_.Fin 11, uB fieldN (·.Name) [] (fieldsOf n.val) = false := by decide +kernel
theorem meths_tab : ∀ n : _root_.Fin 11, uB (fun i => nameN [109, digit i]) (fun i => [109, digit i]) [] (List.range n.val) = false := by decide +kernel
theorem uB_ok {α : Type} {f g : α → Bool} (h : ∀ x, f x = g x) (nm : α → List UInt8) (pre r : List α) : uB f nm pre r = uB g nm pre r := by
  rw [show f = g from funext h]
theorem meths_uB {m p c t : Nat} (hm : m ≤ 10) (hp : p ≤ 8) (h1 : 1 ≤ c) (h2 : c ≤ 200) : uB (fun m => (m.Abstract == false) && methodN m) (·.Name) [] (methsOf m p c t) = !(decide ((m : Int) = 0) || fit p c t) := by
  have h := uB_map (fun m : ApiMethod => (m.Abstract == false) && methodN m) (·.Name) (methOf p c t) (List.range m) []
  have h' : uB (fun m => (m.Abstract == false) && methodN m) (·.Name) [] (methsOf m p c t) = uB (fun i => nameN [109, digit i] && fit p c t) (fun i => [109, digit i]) [] (List.range m) := by
    refine Eq.trans h (uB_ok (fun i => ?_) _ _ _)
    show (true && methodN (methOf p c t i)) = _
    rw [meth_ok hp h1 h2]; rfl
  rw [h']
  cases hf : fit p c t with
  | true =>
    rw [uB_ok (g := fun i => nameN [109, digit i]) (fun i => Bool.and_true _)]
    rw [meths_tab ⟨m, by omega⟩, Bool.or_true]; rfl
  | false =>
    rw [uB_ok (g := fun _ => false) (fun i => Bool.and_false _)]
    cases m with
    | zero => rfl
    | succ m =>
      rw [decide_eq_false (show ¬ ((m + 1 : Nat) : Int) = 0 by omega), List.range_succ_eq_map]
      rfl

theorem limits_may {f m p c t : Nat} (hf : f ≤ 10) (hm : m ≤ 10) (hp : p ≤ 8) (h1 : 1 ≤ c) (h2 : c ≤ 200) :
    mayClass (ApiClass.mk [65, 98] [79, 98, 106, 101, 99, 116] false [] (fieldsOf f) (methsOf m p c t)) = ((decide ((f : Int) ≤ 8) && decide ((m : Int) ≤ 8)) && (decide ((m : Int) = 0) || fit p c t)) := by
  have lf : (fieldsOf f).length = f := by unfold fieldsOf; simp
  have lm : (methsOf m p c t).length = m := by unfold methsOf; simp
  unfold mayClass
  rw [show classN [65, 98] = true from by decide +kernel, show classN [79, 98, 106, 101, 99, 116] = true from by decide +kernel, meths_uB hm hp h1 h2, fields_tab ⟨f, by omega⟩, lf, lm]
  show (!false && (((true && (!false && true)) && (!false && decide ((f : Int) ≤ 8))) && (!(!(decide ((m : Int) = 0) || fit p c t)) && decide ((m : Int) ≤ 8)))) = _
  cases decide ((f : Int) ≤ 8) <;> cases decide ((m : Int) ≤ 8) <;> cases (decide ((m : Int) = 0) || fit p c t) <;> rfl

theorem limits_CIn {f m p c t : Nat} (hf : f ≤ 10) (hm : m ≤ 10) (hp : p ≤ 200) (hc : c ≤ 200) (ht : t ≤ 200) : CIn (ApiClass.mk [65, 98] [79, 98, 106, 101, 99, 116] false [] (fieldsOf f) (methsOf m p c t)) := by
  refine ⟨Nat.le_of_ble_eq_true rfl, Nat.le_of_ble_eq_true rfl, ⟨Nat.le_of_ble_eq_true rfl, fun s hs => by cases hs⟩, ⟨?_, fun x hx => ?_⟩, ⟨?_, fun x hx => ?_⟩⟩
  · show (fieldsOf f).length ≤ _
    unfold fieldsOf; simp; omega
  · have hx' : x ∈ fieldsOf f := hx
    unfold fieldsOf at hx'
    obtain ⟨_, _, rfl⟩ := List.mem_map.1 hx'
    exact ⟨Nat.le_of_ble_eq_true rfl, Nat.le_of_ble_eq_true rfl⟩
  · show (methsOf m p c t).length ≤ _
    unfold methsOf; simp; omega
  · have hx' : x ∈ methsOf m p c t := hx
    unfold methsOf at hx'
    obtain ⟨i, _, rfl⟩ := List.mem_map.1 hx'
    exact meth_MIn hp hc ht

theorem law5_ClassLimits_eq (f m p c t : Int) : law5_ClassLimits f m p c t = some true := by
  unfold law5_ClassLimits
  rw [law5_begun_eq]
  simp only [Option.bind_some, Bool.not_true, cond_false]
  by_cases h : 0 ≤ f ∧ f ≤ 10 ∧ 0 ≤ m ∧ m ≤ 10 ∧ 0 ≤ p ∧ p ≤ 8 ∧ 1 ≤ c ∧ c ≤ 104 ∧ 0 ≤ t ∧ t ≤ 8
  · obtain ⟨f, rfl⟩ := Int.eq_ofNat_of_zero_le h.1
    obtain ⟨m, rfl⟩ := Int.eq_ofNat_of_zero_le h.2.2.1
    obtain ⟨p, rfl⟩ := Int.eq_ofNat_of_zero_le h.2.2.2.2.1
    obtain ⟨c, rfl⟩ := Int.eq_ofNat_of_zero_le (show 0 ≤ c by omega)
    obtain ⟨t, rfl⟩ := Int.eq_ofNat_of_zero_le h.2.2.2.2.2.2.2.2.1
    rw [decide_eq_false (show ¬ (f : Int) < 0 by omega), decide_eq_false (show ¬ 10 < (f : Int) by omega), decide_eq_false (show ¬ (m : Int) < 0 by omega), decide_eq_false (show ¬ 10 < (m : Int) by omega),
      decide_eq_false (show ¬ (p : Int) < 0 by omega), decide_eq_false (show ¬ 8 < (p : Int) by omega), decide_eq_false (show ¬ (c : Int) < 1 by omega), decide_eq_false (show ¬ 104 < (c : Int) by omega),
      decide_eq_false (show ¬ (t : Int) < 0 by omega), decide_eq_false (show ¬ 8 < (t : Int) by omega), lFields (by omega)]
    show law5_ClassLimits_k2 (f : Int) (m : Int) (p : Int) (c : Int) (t : Int) (fieldsOf f) = _
    unfold law5_ClassLimits_k2
    rw [lMeths (by omega) (by omega) (by omega) (by omega)]
    show law5_ClassLimits_k16 (f : Int) (m : Int) (p : Int) (c : Int) (t : Int) (fieldsOf f) (methsOf m p c t) = _
    unfold law5_ClassLimits_k16
    rw [class_May_eq (limits_CIn (by omega) (by omega) (by omega) (by omega) (by omega)), Option.bind_some, limits_may (by omega) (by omega) (by omega) (by omega) (by omega)]
    have : ((m : Int) == (0 : Int)) = decide ((m : Int) = 0) := rfl
    rw [this]
    exact congrArg some (beq_self_eq_true _)
  · have : ((((((((((decide (f < 0)) || (decide (10 < f))) || (decide (m < 0))) || (decide (10 < m))) || (decide (p < 0))) || (decide (8 < p))) || (decide (c < 1))) || (decide (104 < c))) || (decide (t < 0))) || (decide (8 < t))) = true := by
      simp only [Bool.or_eq_true, decide_eq_true_eq]
      omega
    rw [this]; rfl
theorem classLimits_pure (f m p c t : Int) (_ : wI .i64 f) (_ : wI .i64 m) (_ : wI .i64 p) (_ : wI .i64 c) (_ : wI .i64 t) : PureC Try.prog 10 [.lit (.int .i64 f), .lit (.int .i64 m), .lit (.int .i64 p), .lit (.int .i64 c), .lit (.int .i64 t)] (.lit (.bool true)) := law5_ClassLimits_ok f m p c t (law5_ClassLimits_eq f m p c t)
end Go.Proofs.Ythhkdanpjcnegaa
