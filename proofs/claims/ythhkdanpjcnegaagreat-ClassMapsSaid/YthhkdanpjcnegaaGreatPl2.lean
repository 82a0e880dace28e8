/- Plain laws: what was written is read, and no more. -/
import Derived.Test.YthhkdanpjcnegaaGreatPl1
namespace Go.Proofs.YthhkdanpjcnegaaGreat

theorem getL_put : ∀ (k i u v : Nat) (rest : List UInt8), v < 128 ^ k → 0 < k → i + k ≤ 10 → u + v * 128 ^ i < 18446744073709551616 → (0 < i → 0 < v) →
    getL i u (putF k v ++ rest) = (unzig (u + v * 128 ^ i), ((i + (putF k v).length : Nat) : Int), 0)
  | 0, _, _, _, _, _, h, _, _, _ => by omega
  | k + 1, i, u, v, rest, hv, _, hik, htot, hpos => by
    have h63 : (128 : Nat) ^ 9 = 9223372036854775808 := by decide
    simp only [putF]
    by_cases h : 127 < v
    · rw [if_pos h]
      have hi9 : i ≠ 9 := fun e => by subst e; rw [h63] at htot; omega
      have hc : (UInt8.ofNat (v % 128 + 128)).toNat = v % 128 + 128 := by
        rw [UInt8.toNat_ofNat']; omega
      have hk : 0 < k := by
        rcases Nat.eq_zero_or_pos k with rfl | h9
        · simp at hv; omega
        · exact h9
      have e1 : (v % 128 + 128) % 128 = v % 128 := by omega
      have e2 : u + v % 128 * 128 ^ i + v / 128 * 128 ^ (i + 1) = u + v * 128 ^ i := by
        have : v * 128 ^ i = (v % 128 + 128 * (v / 128)) * 128 ^ i := by rw [Nat.mod_add_div]
        rw [this, Nat.add_mul, Nat.pow_succ]
        have : 128 * (v / 128) * 128 ^ i = v / 128 * (128 ^ i * 128) := by
          rw [Nat.mul_comm 128 (v / 128), Nat.mul_assoc, Nat.mul_comm 128 (128 ^ i)]
        omega
      have ih := getL_put k (i + 1) (u + v % 128 * 128 ^ i) (v / 128) rest (by rw [Nat.pow_succ] at hv; omega) hk (by omega) (by rw [e2]; exact htot) (fun _ => by omega)
      simp only [List.cons_append, getL]
      rw [if_neg (fun e => hi9 e.1), hc, if_pos (by omega), e1, ih, e2]
      simp only [List.length_cons]
      congr 2
      omega
    · rw [if_neg h]
      have hc : (UInt8.ofNat v).toNat = v := by rw [UInt8.toNat_ofNat']; omega
      simp only [List.cons_append, List.nil_append, getL]
      rw [hc, if_neg, if_neg (by omega), if_neg, Nat.mod_eq_of_lt (by omega)]
      · simp
      · exact fun e => by have := hpos e.1; omega
      · intro e
        obtain ⟨rfl, h1⟩ := e
        rw [h63] at htot; omega

theorem get_put (n : Int) (rest : List UInt8) (h1 : -9223372036854775808 ≤ n) (h2 : n ≤ 9223372036854775807) : getB (put n ++ rest) = (n, ((put n).length : Int), 0) := by
  have hz := zig_lt h1 h2
  have := getL_put 10 0 0 (zig n) rest (by omega) (by decide) (by decide) (by simpa using hz) (fun h => by omega)
  simp only [Nat.zero_add, Nat.pow_zero, Nat.mul_one, unzig_zig] at this
  exact this

theorem getL_cut : ∀ (k i u v m : Nat), v < 128 ^ k → i + k ≤ 10 → u + v * 128 ^ i < 18446744073709551616 → m < (putF k v).length →
    getL i u ((putF k v).take m) = (0, 0, 2)
  | 0, _, _, _, m, _, _, _, h => by simp [putF] at h
  | k + 1, i, u, v, m, hv, hik, htot, hm => by
    have h63 : (128 : Nat) ^ 9 = 9223372036854775808 := by decide
    cases m with
    | zero => rfl
    | succ m =>
      simp only [putF] at hm ⊢
      by_cases h : 127 < v
      · rw [if_pos h] at hm ⊢
        have hi9 : i ≠ 9 := fun e => by subst e; rw [h63] at htot; omega
        have hc : (UInt8.ofNat (v % 128 + 128)).toNat = v % 128 + 128 := by
          rw [UInt8.toNat_ofNat']; omega
        have e1 : (v % 128 + 128) % 128 = v % 128 := by omega
        have e2 : u + v % 128 * 128 ^ i + v / 128 * 128 ^ (i + 1) = u + v * 128 ^ i := by
          have : v * 128 ^ i = (v % 128 + 128 * (v / 128)) * 128 ^ i := by rw [Nat.mod_add_div]
          rw [this, Nat.add_mul, Nat.pow_succ]
          have : 128 * (v / 128) * 128 ^ i = v / 128 * (128 ^ i * 128) := by
            rw [Nat.mul_comm 128 (v / 128), Nat.mul_assoc, Nat.mul_comm 128 (128 ^ i)]
          omega
        have ih := getL_cut k (i + 1) (u + v % 128 * 128 ^ i) (v / 128) m (by rw [Nat.pow_succ] at hv; omega) (by omega) (by rw [e2]; exact htot) (by simpa using hm)
        simp only [List.take_succ_cons, getL]
        rw [if_neg (fun e => hi9 e.1), hc, if_pos (by omega), e1, ih]
      · rw [if_neg h] at hm
        simp at hm

theorem get_cut (n : Int) (m : Nat) (h1 : -9223372036854775808 ≤ n) (h2 : n ≤ 9223372036854775807) (hm : m < (put n).length) : getB ((put n).take m) = (0, 0, 2) := by
  have hz := zig_lt h1 h2
  exact getL_cut 10 0 0 (zig n) m (by omega) (by decide) (by simpa using hz) hm

/-- What an answer without an error looks like. -/
theorem getL_ok : ∀ (l : List UInt8) (i u : Nat), i ≤ 9 → u < 128 ^ i → (getL i u l).2.2 = 0 → ∃ j : Nat, (getL i u l).2.1 = j ∧ i + 1 ≤ j ∧ j ≤ i + l.length ∧ j ≤ 10 ∧ -9223372036854775808 ≤ (getL i u l).1 ∧ (getL i u l).1 ≤ 9223372036854775807
  | [], i, u, _, _, h => by simp [getL] at h
  | c :: l, i, u, hi, hu, h => by
    have hcl := c.toNat_lt
    unfold getL at h ⊢
    by_cases h1 : i = 9 ∧ 1 < c.toNat
    · rw [if_pos h1] at h; simp at h
    · rw [if_neg h1] at h ⊢
      by_cases h2 : 127 < c.toNat
      · rw [if_pos h2] at h ⊢
        have hlt : u + c.toNat % 128 * 128 ^ i < 128 ^ (i + 1) := by
          rw [Nat.pow_succ]
          have : c.toNat % 128 * 128 ^ i + 128 ^ i ≤ 128 * 128 ^ i := by
            have h3 : (c.toNat % 128 + 1) * 128 ^ i ≤ 128 * 128 ^ i := Nat.mul_le_mul_right _ (by omega)
            rw [Nat.add_mul, Nat.one_mul] at h3; exact h3
          omega
        obtain ⟨j, k1, k2, k3, k4, k5⟩ := getL_ok l (i + 1) _ (by omega) hlt h
        exact ⟨j, k1, by omega, by simp; omega, k4, k5⟩
      · rw [if_neg h2] at h ⊢
        by_cases h3 : 0 < i ∧ c.toNat = 0
        · rw [if_pos h3] at h; simp at h
        · rw [if_neg h3]
          have hb := shl_lt (d := c.toNat % 128) hu (Nat.mod_lt _ (by decide)) hi (fun e => by
            have : c.toNat ≤ 1 := by omega
            omega)
          refine ⟨i + 1, by simp, by omega, by simp, by omega, ?_, ?_⟩ <;> (simp only []; unfold unzig; split <;> omega)

theorem getB_ok (l : List UInt8) (h : (getB l).2.2 = 0) : ∃ j : Nat, (getB l).2.1 = j ∧ 1 ≤ j ∧ j ≤ l.length ∧ j ≤ 10 ∧ -9223372036854775808 ≤ (getB l).1 ∧ (getB l).1 ≤ 9223372036854775807 := by
  obtain ⟨j, h1, h2, h3, h4, h5⟩ := getL_ok l 0 0 (by decide) (by decide) h
  exact ⟨j, h1, by omega, by omega, h4, h5⟩

theorem put_pos (n : Int) : 0 < (put n).length := by
  unfold put putF; split <;> simp

/-! ### Texts -/
def putText (s : List UInt8) : List UInt8 := put s.length ++ s
def getText (bs : List UInt8) : List UInt8 × Int × Int :=
  if (getB bs).2.2 ≠ 0 then ([], 0, (getB bs).2.2)
  else if (getB bs).1 < 0 ∨ 1048576 < (getB bs).1 then ([], 0, 1)
  else if (bs.length : Int) - (getB bs).2.1 < (getB bs).1 then ([], 0, 2)
  else ((bs.drop (getB bs).2.1.toNat).take (getB bs).1.toNat, (getB bs).2.1 + (getB bs).1, 0)

theorem getText_put (s rest : List UInt8) (hs : s.length ≤ 1048576) : getText (putText s ++ rest) = (s, ((putText s).length : Int), 0) := by
  have h := get_put s.length (s ++ rest) (by omega) (by omega)
  unfold getText putText
  rw [List.append_assoc, h]
  simp only [ne_eq, not_true_eq_false, if_false]
  rw [if_neg (by omega), if_neg (by simp only [List.length_append]; omega)]
  simp only [Int.toNat_natCast, List.length_append]
  refine Prod.ext ?_ (Prod.ext (by simp) rfl)
  rw [List.drop_left, List.take_left]

theorem getText_cut (s : List UInt8) (m : Nat) (hs : s.length ≤ 1048576) (hm : m < (putText s).length) : getText ((putText s).take m) = ([], 0, 2) := by
  unfold putText at hm ⊢
  simp only [List.length_append] at hm
  unfold getText
  by_cases h : m < (put s.length).length
  · have e : (put s.length ++ s).take m = (put s.length).take m := by rw [List.take_append_of_le_length (by omega)]
    rw [e, get_cut s.length m (by omega) (by omega) h]
    rfl
  · have e : (put s.length ++ s).take m = put s.length ++ s.take (m - (put s.length).length) := by
      rw [List.take_append, List.take_of_length_le (by omega)]
    rw [e, get_put s.length _ (by omega) (by omega)]
    simp only [ne_eq, not_true_eq_false, if_false]
    rw [if_neg (by omega), if_pos]
    simp only [List.length_append, List.length_take]
    omega

/-! ### A number nearer to nought takes no more bytes -/
theorem putF_mono : ∀ (k u v : Nat), u ≤ v → (putF k u).length ≤ (putF k v).length
  | 0, _, _, _ => Nat.le_refl _
  | k + 1, u, v, h => by
    simp only [putF]
    by_cases h1 : 127 < u
    · rw [if_pos h1, if_pos (by omega)]
      simp only [List.length_cons]
      have := putF_mono k (u / 128) (v / 128) (by omega)
      omega
    · rw [if_neg h1]
      split <;> simp

theorem put_mono {a b : Int} (h0 : 0 ≤ a) (h : a ≤ b) : (put a).length ≤ (put b).length :=
  putF_mono 10 _ _ (by unfold zig; split <;> split <;> omega)
theorem put_mono_neg {a b : Int} (h0 : 0 ≤ a) (h : a ≤ b) : (put (-a)).length ≤ (put (-b)).length :=
  putF_mono 10 _ _ (by unfold zig; split <;> split <;> omega)

end Go.Proofs.YthhkdanpjcnegaaGreat
