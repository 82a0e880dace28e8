/- Plain laws, part 14: the law ClassMaps. -/
import Derived.Test.YthhkdanpjcnegaaGreatQ13
import Derived.Test.YthhkdanpjcnegaaGreatEn2
namespace Go.Proofs.YthhkdanpjcnegaaGreat
set_option linter.unusedSimpArgs false
set_option linter.unusedVariables false

def ins46 : ApiIns := ApiIns.mk 46 0 [] []
theorem cm_code : ∀ (d k : Nat) (l : List ApiIns), 9 - k = d → k ≤ 9 → l.length = k + 1 → (∀ x ∈ l, x = ins46) →
    ∃ l', loopP (fun z => law5_ClassMaps_l1 z.1 z.2) (l, (k : Int)) = some (.inl l') ∧ l'.length = 10 ∧ ∀ x ∈ l', x = ins46 := by
  intro d
  induction d with
  | zero =>
    intro k l hd hk hl ha
    have : k = 9 := by omega
    subst this
    refine ⟨l, ?_, hl, ha⟩
    rw [loopP_eq]
    rfl
  | succ d ih =>
    intro k l hd hk hl ha
    obtain ⟨l', h1, h2⟩ := ih (k + 1) (l ++ [ins46]) (by omega) (by omega) (by simp; omega) (fun x hx => by
      rcases List.mem_append.1 hx with h | h
      · exact ha x h
      · exact List.mem_singleton.1 h)
    refine ⟨l', ?_, h2⟩
    rw [loopP_eq]
    show (law5_ClassMaps_l1 l (k : Int)).bind _ = _
    unfold law5_ClassMaps_l1
    rw [decide_eq_true (show (k : Int) < 9 by omega), appP_ok (by simp; omega) (by simp; omega), wrap_succ (by omega)]
    exact h1

theorem cm_loc {n : Nat} {s : List UInt8} (hn : n ≤ 18) : ∀ (d k : Nat) (l : List (List UInt8)), n - k = d → k ≤ n → l.length = k → (∀ x ∈ l, x = s) →
    ∃ l', loopP (fun z => law5_ClassMaps_l5 (n : Int) s z.1 z.2) (l, (k : Int)) = some (.inl l') ∧ l'.length = n ∧ ∀ x ∈ l', x = s := by
  intro d
  induction d with
  | zero =>
    intro k l hd hk hl ha
    have : k = n := by omega
    subst this
    refine ⟨l, ?_, hl, ha⟩
    rw [loopP_eq]
    show (law5_ClassMaps_l5 (k : Int) s l (k : Int)).bind _ = _
    unfold law5_ClassMaps_l5
    rw [decide_eq_false (show ¬ (k : Int) < (k : Int) by omega)]
    rfl
  | succ d ih =>
    intro k l hd hk hl ha
    obtain ⟨l', h1, h2⟩ := ih (k + 1) (l ++ [s]) (by omega) (by omega) (by simp; omega) (fun x hx => by
      rcases List.mem_append.1 hx with h | h
      · exact ha x h
      · exact List.mem_singleton.1 h)
    refine ⟨l', ?_, h2⟩
    rw [loopP_eq]
    show (law5_ClassMaps_l5 (n : Int) s l (k : Int)).bind _ = _
    unfold law5_ClassMaps_l5
    rw [decide_eq_true (show (k : Int) < (n : Int) by omega), appP_ok (by simp; omega) (by simp; omega), wrap_succ (by omega)]
    exact h1

def MapFit (x : ApiMap) : Prop := (LenL x.Locals ∧ ∀ s ∈ x.Locals, Len s) ∧ (LenL x.Stack ∧ ∀ s ∈ x.Stack, Len s)
theorem cm_maps {n : Nat} {ats : List Int} {s t : List UInt8} (hn : n ≤ 18) (hs : Len s) (ht : Len t) : ∀ (d k : Nat) (l : List ApiMap), 4 - k = d → k ≤ 4 → l.length ≤ k → (∀ x ∈ l, MapFit x) →
    ∃ l', loopP (fun z => law5_ClassMaps_l7 (n : Int) ats s t z.1 z.2) (l, (k : Int)) = some (.inl l') ∧ l'.length ≤ 4 ∧ ∀ x ∈ l', MapFit x := by
  intro d
  induction d with
  | zero =>
    intro k l hd hk hl ha
    have : k = 4 := by omega
    subst this
    refine ⟨l, ?_, hl, ha⟩
    rw [loopP_eq]
    show (law5_ClassMaps_l7 (n : Int) ats s t l ((4 : Nat) : Int)).bind _ = _
    unfold law5_ClassMaps_l7
    rw [decide_eq_false (show ¬ ((4 : Nat) : Int) < 4 by omega), Bool.and_false]
    rfl
  | succ d ih =>
    intro k l hd hk hl ha
    by_cases hlt : k < ats.length
    · obtain ⟨locs, g1, g2, g3⟩ := cm_loc (s := s) hn n 0 [] (by omega) (by omega) rfl (fun x hx => by cases hx)
      have fit : MapFit (ApiMap.mk ats[k] locs [t]) := by
        refine ⟨⟨?_, fun x hx => ?_⟩, ⟨?_, fun x hx => ?_⟩⟩
        · show locs.length ≤ _
          omega
        · rw [g3 x hx]; exact hs
        · exact Nat.le_of_ble_eq_true rfl
        · rw [List.mem_singleton.1 hx]; exact ht
      obtain ⟨l', h1, h2⟩ := ih (k + 1) (l ++ [ApiMap.mk ats[k] locs [t]]) (by omega) (by omega) (by simp; omega) (fun x hx => by
        rcases List.mem_append.1 hx with h | h
        · exact ha x h
        · rw [List.mem_singleton.1 h]; exact fit)
      have step : law5_ClassMaps_l7 (n : Int) ats s t l (k : Int) = some (.inl (l ++ [ApiMap.mk ats[k] locs [t]], ((k + 1 : Nat) : Int))) := by
        unfold law5_ClassMaps_l7
        rw [decide_eq_true (show (k : Int) < (ats.length : Int) by omega), decide_eq_true (show (k : Int) < 4 by omega), idx_nat, List.getElem?_eq_getElem hlt]
        simp only [Option.bind_some, Bool.and_self, cond_true]
        rw [show loopP (fun z => law5_ClassMaps_l5 (n : Int) s z.1 z.2) ([], 0) = _ from g1]
        show law5_ClassMaps_k6 t l (k : Int) ats[k] locs = _
        unfold law5_ClassMaps_k6
        rw [appP_ok (by simp) (by simp), Option.bind_some, appP_ok (by simp; omega) (by simp; omega), wrap_succ (by omega)]
        rfl
      refine ⟨l', ?_, h2⟩
      rw [loopP_eq]
      show (law5_ClassMaps_l7 (n : Int) ats s t l (k : Int)).bind _ = _
      rw [step]
      exact h1
    · refine ⟨l, ?_, by omega, ha⟩
      rw [loopP_eq]
      show (law5_ClassMaps_l7 (n : Int) ats s t l (k : Int)).bind _ = _
      unfold law5_ClassMaps_l7
      rw [decide_eq_false (show ¬ (k : Int) < (ats.length : Int) by omega), Bool.false_and]
      rfl

theorem cm_in {a b : Int} {code : List ApiIns} {ms : List ApiMap} (hc : code.length = 10) (hca : ∀ x ∈ code, x = ins46) (hm : ms.length ≤ 4) (hma : ∀ x ∈ ms, MapFit x) :
    CGIn (ApiClass.mk [65, 98] [79, 98, 106, 101, 99, 116] false [] [ApiField.mk [120] [73] false] [ApiMethod.mk [109, 97, 105, 110] [] [86] true false a b code ms []]) := by
  have hcl : LenL code := by unfold LenL; omega
  have hml : LenL ms := by unfold LenL; omega
  refine ⟨Nat.le_of_ble_eq_true rfl, Nat.le_of_ble_eq_true rfl, ⟨Nat.le_of_ble_eq_true rfl, fun s hs => by cases hs⟩, ⟨Nat.le_of_ble_eq_true rfl, fun f hf => ?_⟩, ⟨Nat.le_of_ble_eq_true rfl, fun m hm' => ?_⟩⟩
  · obtain rfl := List.mem_singleton.1 hf
    exact ⟨Nat.le_of_ble_eq_true rfl, Nat.le_of_ble_eq_true rfl⟩
  · obtain rfl := List.mem_singleton.1 hm'
    refine ⟨Nat.le_of_ble_eq_true rfl, ⟨Nat.le_of_ble_eq_true rfl, fun s hs => by cases hs⟩, Nat.le_of_ble_eq_true rfl, ⟨hml, hcl, hma⟩, ⟨⟨hcl, fun x hx => ?_⟩, ⟨Nat.le_of_ble_eq_true rfl, fun x hx => by cases hx⟩⟩, ?_⟩
    · rw [hca x hx]; exact ⟨Nat.le_of_ble_eq_true rfl, Nat.le_of_ble_eq_true rfl⟩
    · exact ⟨by show code.length ≤ _; omega, by show ms.length ≤ _; omega, Nat.le_of_ble_eq_true rfl⟩

theorem law5_ClassMaps_eq {a b : Int} {ats : List Int} {s t : List UInt8} (hs : Len s) (ht : Len t) : law5_ClassMaps a b ats s t = some true := by
  unfold law5_ClassMaps
  rw [law5_begun_eq]
  simp only [Option.bind_some, Bool.not_true, cond_false]
  by_cases h : 0 ≤ a ∧ a ≤ 18
  · obtain ⟨n, rfl⟩ := Int.eq_ofNat_of_zero_le h.1
    cases ((((((decide ((n : Int) < 0)) || (decide (18 < (n : Int)))) || (decide (b < 0))) || (decide (18 < b))) || (decide (12 < (List.length s : Int)))) || (decide (12 < (List.length t : Int)))) with
    | true => rfl
    | false =>
      obtain ⟨code, c1, c2, c3⟩ := cm_code 9 0 [ins46] rfl (by omega) rfl (fun x hx => List.mem_singleton.1 hx)
      obtain ⟨ms, m1, m2, m3⟩ := cm_maps (n := n) (ats := ats) (by omega) hs ht 4 0 [] rfl (by omega) (by simp) (fun x hx => by cases hx)
      simp only [cond_false]
      rw [show loopP (fun z => law5_ClassMaps_l1 z.1 z.2) ([ApiIns.mk 46 0 [] []], 0) = _ from c1]
      show law5_ClassMaps_k2 (n : Int) b ats s t code = _
      unfold law5_ClassMaps_k2
      rw [show loopP (fun z => law5_ClassMaps_l7 (n : Int) ats s t z.1 z.2) ([], 0) = _ from m1]
      show law5_ClassMaps_k8 (n : Int) b code ms = _
      unfold law5_ClassMaps_k8
      have hin := cm_in (a := (n : Int)) (b := b) c2 c3 m2 m3
      rw [class_May_eqG hin, ref3_MayClass_eq hin, Option.bind_some, Option.bind_some, beq_self_eq_true]
  · have : ((((((decide (a < 0)) || (decide (18 < a))) || (decide (b < 0))) || (decide (18 < b))) || (decide (12 < (List.length s : Int)))) || (decide (12 < (List.length t : Int)))) = true := by
      simp only [Bool.or_eq_true, decide_eq_true_eq]
      omega
    rw [this]; rfl
theorem classMaps_pure (a b : Int) (l : List Int) (s t : List UInt8) (_ : wI .i64 a) (_ : wI .i64 b) (_ : wL (wI .i64) l) (hs : Len s) (ht : Len t) :
    PureC Tryz.prog 3 [.lit (.int .i64 a), .lit (.int .i64 b), .isl 1 (List.map (rI .i64) l), .lit (.string (B s)), .lit (.string (B t))] (.lit (.bool true)) := law5_ClassMaps_ok a b l s t (law5_ClassMaps_eq hs ht)
end Go.Proofs.YthhkdanpjcnegaaGreat
