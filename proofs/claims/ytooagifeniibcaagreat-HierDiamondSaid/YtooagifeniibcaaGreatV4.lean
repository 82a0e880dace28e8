/- HierDiamond: for every input the law returns true, and each argument reads as it read before. No further condition. Part 4 of 5. -/
import Derived.Test.YtooagifeniibcaaGreatV3
namespace Go.Proofs.YtooagifeniibcaaGreat
set_option linter.unusedSimpArgs false
set_option linter.unusedVariables false
theorem which_of (x : Int) {k : Int} (h1 : 1 ≤ k) (h2 : k ≤ 1000) : ∃ (i : Nat) (q : Int), (i : Int) < k ∧ remP x k = some q ∧ remP (IntKind.i64.wrap (q + k)) k = some (i : Int) := by
  obtain ⟨i, hi, h⟩ := law7_small_of x h1 h2
  unfold law7_small at h
  obtain ⟨q, hq, h⟩ := bs h
  obtain ⟨r, hr, h⟩ := bs h
  cases h
  exact ⟨i, q, hi, hq, hr⟩
theorem which_id {i : Nat} {k : Int} (h1 : 1 ≤ k) (h2 : k ≤ 1000) (hi : (i : Int) < k) : remP (i : Int) k = some (i : Int) ∧ remP (IntKind.i64.wrap ((i : Int) + k)) k = some (i : Int) := by
  have h := law7_small_id h1 h2 hi
  have h0 : remP (i : Int) k = some (i : Int) := by
    unfold remP
    rw [if_neg (by omega), Int.tmod_eq_of_lt (by omega) hi]
  unfold law7_small at h
  rw [h0] at h
  simp only [Option.bind_some] at h
  obtain ⟨r, hr, h⟩ := bs h
  cases h
  exact ⟨h0, hr⟩
theorem dia_k4 {n w : Int} {i : Nat} {q : Int} (h1 : 1 ≤ n) (h2 : n ≤ 1000) (hi : (i : Int) < n) (hq : remP w n = some q) (hr : remP (IntKind.i64.wrap (q + n)) n = some (i : Int)) (a : List ApiClass) (b c : List (List UInt8)) : law7_HierDiamond_k4 n w a b c = law7_HierDiamond_k4 n (i : Int) a b c := by
  obtain ⟨e1, e2⟩ := which_id h1 h2 hi
  unfold law7_HierDiamond_k4
  rw [hq, e1]
  simp only [Option.bind_some]
  rw [hr, e2]
theorem dia_eq {n w : Int} {i : Nat} {q : Int} (h1 : 1 ≤ n) (h2 : n ≤ 1000) (hi : (i : Int) < n) (hq : remP w n = some q) (hr : remP (IntKind.i64.wrap (q + n)) n = some (i : Int)) : law7_HierDiamond n w = law7_HierDiamond n (i : Int) := by
  have h := dia_k4 h1 h2 hi hq hr
  unfold law7_HierDiamond law7_HierDiamond_k2
  simp only [h]
theorem diaA : (okB (law7_HierDiamond 1 0) && (okB (law7_HierDiamond 2 0) && (okB (law7_HierDiamond 2 1) && (okB (law7_HierDiamond 3 0) && okB (law7_HierDiamond 3 1))))) = true := by kernel_rfl
theorem diaB : (okB (law7_HierDiamond 3 2) && (okB (law7_HierDiamond 4 0) && (okB (law7_HierDiamond 4 1) && (okB (law7_HierDiamond 4 2) && okB (law7_HierDiamond 4 3))))) = true := by kernel_rfl
theorem law7_HierDiamond_eq (n w : Int) : law7_HierDiamond n w = some true := by
  by_cases h : 1 ≤ n ∧ n ≤ 4
  · obtain ⟨i, q, hi, hq, hr⟩ := which_of w (k := n) h.1 (by omega)
    rw [dia_eq h.1 (by omega) hi hq hr]
    have a := diaA
    have b := diaB
    simp only [Bool.and_eq_true] at a b
    obtain ⟨m, rfl⟩ : ∃ m : Nat, n = (m : Int) := ⟨n.toNat, by omega⟩
    have : (m = 1 ∧ i = 0) ∨ (m = 2 ∧ i = 0) ∨ (m = 2 ∧ i = 1) ∨ (m = 3 ∧ i = 0) ∨ (m = 3 ∧ i = 1) ∨ (m = 3 ∧ i = 2) ∨ (m = 4 ∧ i = 0) ∨ (m = 4 ∧ i = 1) ∨ (m = 4 ∧ i = 2) ∨ (m = 4 ∧ i = 3) := by omega
    rcases this with ⟨rfl, rfl⟩ | ⟨rfl, rfl⟩ | ⟨rfl, rfl⟩ | ⟨rfl, rfl⟩ | ⟨rfl, rfl⟩ | ⟨rfl, rfl⟩ | ⟨rfl, rfl⟩ | ⟨rfl, rfl⟩ | ⟨rfl, rfl⟩ | ⟨rfl, rfl⟩
    · exact okB_iff a.1
    · exact okB_iff a.2.1
    · exact okB_iff a.2.2.1
    · exact okB_iff a.2.2.2.1
    · exact okB_iff a.2.2.2.2
    · exact okB_iff b.1
    · exact okB_iff b.2.1
    · exact okB_iff b.2.2.1
    · exact okB_iff b.2.2.2.1
    · exact okB_iff b.2.2.2.2
  · unfold law7_HierDiamond
    have : (decide (n < 1) || decide (4 < n)) = true := by
      rw [Bool.or_eq_true, decide_eq_true_eq, decide_eq_true_eq]; omega
    rw [this]; rfl
theorem hierDiamond_pure (n w : Int) (_ : wI .i64 n) (_ : wI .i64 w) : PureC Tryz.prog 6 [iA n, iA w] (bA true) := law7_HierDiamond_ok n w (law7_HierDiamond_eq n w)
end Go.Proofs.YtooagifeniibcaaGreat
