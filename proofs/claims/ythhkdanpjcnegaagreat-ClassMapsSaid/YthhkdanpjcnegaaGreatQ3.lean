/- Plain laws, part 3: numbers and texts as bytes: the program's and the document's worth in closed words. -/
import Derived.Test.YthhkdanpjcnegaaGreatQ2
import Derived.Test.YthhkdanpjcnegaaGreatPl2
namespace Go.Proofs.YthhkdanpjcnegaaGreat
set_option linter.unusedSimpArgs false
set_option linter.unusedVariables false

abbrev I64 (n : Int) : Prop := -9223372036854775808 ≤ n ∧ n ≤ 9223372036854775807

theorem tU8_nat (u : Nat) : tU8 (u : Int) = UInt8.ofNat u := by
  unfold tU8
  have : ((u : Int) % 256).toNat = u % 256 := by omega
  rw [this]
  apply UInt8.toNat_inj.1
  simp
theorem or128_8 (u : Nat) : (tU8 (u : Int) ||| (128 : UInt8)) = UInt8.ofNat (u % 128 + 128) := by
  rw [tU8_nat]
  have key : ∀ k : Fin 256, (UInt8.ofNat k.val ||| (128 : UInt8)) = UInt8.ofNat (k.val % 128 + 128) := by decide +kernel
  have h := key ⟨u % 256, Nat.mod_lt _ (by decide)⟩
  have e1 : UInt8.ofNat (u % 256) = UInt8.ofNat u := by apply UInt8.toNat_inj.1; simp
  have e2 : u % 256 % 128 = u % 128 := by omega
  simp only [e1, e2] at h
  exact h
theorem and127_8 (c : UInt8) : IntKind.u64.wrap ((c &&& (127 : UInt8)).toNat : Int) = ((c.toNat % 128 : Nat) : Int) := by
  have key : ∀ k : Fin 256, (UInt8.ofNat k.val &&& (127 : UInt8)).toNat = k.val % 128 := by decide +kernel
  have h := key ⟨c.toNat, c.toNat_lt⟩
  have e1 : UInt8.ofNat c.toNat = c := by simp
  simp only [e1] at h
  rw [h, wrap_u64]
  omega
theorem shrP7 (u : Nat) : shrP .u64 (u : Int) 7 = some ((u / 128 : Nat) : Int) := by
  unfold shrP
  rw [if_neg (by decide)]
  congr 1
  exact shr7' u

theorem putL (k : Nat) : ∀ (acc : List UInt8) (u : Nat), 0 < k → u < 128 ^ k → acc.length + k ≤ 140737488355328 →
    ∃ acc' v, loopP (fun z : List UInt8 × Int => num_Put_l2 z.1 z.2) (acc, (u : Int)) = some (.inl (acc', v)) ∧ num_Put_k3 acc' v = some (acc ++ putF k u) := by
  induction k with
  | zero => intro _ _ h; omega
  | succ k ih =>
    intro acc u _ hu hl
    rw [loopP_eq]
    by_cases h127 : 127 < u
    · have hk : 0 < k := by
        rcases Nat.eq_zero_or_pos k with rfl | h
        · simp at hu; omega
        · exact h
      have hstep : num_Put_l2 acc (u : Int) = some (.inl (acc ++ [UInt8.ofNat (u % 128 + 128)], ((u / 128 : Nat) : Int))) := by
        unfold num_Put_l2
        rw [decide_eq_true (by omega), or128_8, appP1 (by simp; omega), shrP7]
        rfl
      simp only [hstep, Option.bind_some, Sum.elim_inl]
      obtain ⟨acc', v, h1, h2⟩ := ih (acc ++ [UInt8.ofNat (u % 128 + 128)]) (u / 128) hk (by rw [Nat.pow_succ] at hu; omega) (by simp; omega)
      refine ⟨acc', v, h1, ?_⟩
      rw [h2]
      simp only [putF, if_pos h127]
      simp
    · have hstep : num_Put_l2 acc (u : Int) = some (.inr (.inl (acc, (u : Int)))) := by
        unfold num_Put_l2
        rw [decide_eq_false (by omega)]
        rfl
      simp only [hstep, Option.bind_some, Sum.elim_inr]
      refine ⟨acc, u, rfl, ?_⟩
      unfold num_Put_k3
      rw [tU8_nat, appP1 (by simp; omega)]
      simp only [putF, if_neg h127]
      rfl

theorem zigP {n : Int} (h : I64 n) : shlP .u64 (IntKind.u64.wrap n) 1 = some (IntKind.u64.wrap (IntKind.u64.wrap n * 2 ^ (min 1 64))) := by
  unfold shlP
  rw [if_neg (by decide)]
  rfl

theorem num_Put_eq {bs : List UInt8} {n : Int} (h : I64 n) (hb : bs.length ≤ 1000000000000) : num_Put bs n = some (bs ++ put n) := by
  have hz := zig_lt h.1 h.2
  have key : num_Put_j1 bs ((zig n : Nat) : Int) = some (bs ++ put n) := by
    obtain ⟨acc, v, h1, h2⟩ := putL 10 bs (zig n) (by decide) (by omega) (by omega)
    unfold num_Put_j1
    rw [h1]
    exact h2
  unfold num_Put
  rw [zigP h, Option.bind_some]
  by_cases hn : n < 0
  · rw [decide_eq_true hn]
    have : xorI .u64 (IntKind.u64.wrap (IntKind.u64.wrap n * 2 ^ (min 1 64))) = ((zig n : Nat) : Int) := zig_neg h.1 hn
    rw [this]; exact key
  · rw [decide_eq_false hn, zig_pos (by omega) h.2]; exact key

theorem getLp (bs : List UInt8) (hl : bs.length ≤ 9223372036854775807) : ∀ (rest : List UInt8) (i u : Nat), bs.drop i = rest → i ≤ 9 → i ≤ bs.length → u < 128 ^ i →
    ((loopP (fun z : Int × Int => num_Get_l3 bs z.1 z.2) ((u : Int), (i : Int))).bind fun o => leave o (fun b => num_Get_k4) some) = some (getL i u rest) := by
  intro rest
  induction rest with
  | nil =>
    intro i u hd hi hib hu
    have hlen : i = bs.length := by
      have := congrArg List.length hd
      simp at this; omega
    have hstep : num_Get_l3 bs (u : Int) (i : Int) = some (.inr (.inl ())) := by
      unfold num_Get_l3
      rw [decide_eq_false (by omega)]; rfl
    rw [loopP_eq]
    simp only [hstep, Option.bind_some, Sum.elim_inr]
    rfl
  | cons c r ih =>
    intro i u hd hi hib hu
    have hlt : i < bs.length := by
      have := congrArg List.length hd
      simp at this; omega
    have hc : bs[i]? = some c := by
      have : (bs.drop i)[0]? = some c := by rw [hd]; rfl
      simpa using this
    have hd' : bs.drop (i + 1) = r := by
      have := congrArg List.tail hd
      simpa [List.tail_drop] using this
    have e7 : IntKind.i64.wrap (7 * (i : Int)) = ((7 * i : Nat) : Int) := by rw [wrapI (by omega) (by omega)]; omega
    have hsh : shlP .u64 (IntKind.u64.wrap ((c &&& (127 : UInt8)).toNat : Int)) (IntKind.i64.wrap (7 * (i : Int))) = some (IntKind.u64.wrap (((c.toNat % 128 : Nat) : Int) * 2 ^ (min (7 * i) IntKind.u64.bits))) := by
      rw [and127_8, e7]
      unfold shlP
      rw [if_neg (by omega), Int.toNat_natCast]
    have hws : IntKind.i64.wrap ((i : Int) + 1) = ((i + 1 : Nat) : Int) := wrap_succ (by omega)
    have hcl := c.toNat_lt
    have hb : num_Get_l3 bs (u : Int) (i : Int) = cond (((i : Int) == (9 : Int)) && decide (1 < (c.toNat : Int))) (some (.inr (.inr (0, 0, 1)))) (cond (decide (127 < (c.toNat : Int)))
        (some (.inl (orI .u64 (u : Int) (IntKind.u64.wrap (((c.toNat % 128 : Nat) : Int) * 2 ^ (min (7 * i) IntKind.u64.bits))), ((i + 1 : Nat) : Int))))
        (cond (decide ((0 : Int) < (i : Int)) && ((c.toNat : Int) == (0 : Int))) (some (.inr (.inr (0, 0, 1)))) ((shrP .u64 (orI .u64 (u : Int) (IntKind.u64.wrap (((c.toNat % 128 : Nat) : Int) * 2 ^ (min (7 * i) IntKind.u64.bits)))) 1).bind fun v12 =>
          cond ((andI .u64 (orI .u64 (u : Int) (IntKind.u64.wrap (((c.toNat % 128 : Nat) : Int) * 2 ^ (min (7 * i) IntKind.u64.bits)))) 1) == (1 : Int)) (num_Get_j2 (i : Int) (xorI .i64 (IntKind.i64.wrap v12))) (num_Get_j2 (i : Int) (IntKind.i64.wrap v12))))) := by
      unfold num_Get_l3
      rw [idx_nat, hc, decide_eq_true (show (i : Int) < (bs.length : Int) by omega), hws]
      simp only [Option.bind_some, cond_true, hsh]
    have hd9 : ¬ (i = 9 ∧ 1 < c.toNat) → i = 9 → c.toNat % 128 ≤ 1 := fun h e => by omega
    rw [loopP_eq]
    simp only [hb]
    clear hb
    by_cases h9 : i = 9 ∧ 1 < c.toNat
    · have e1 : (((i : Int) == (9 : Int)) && decide (1 < (c.toNat : Int))) = true := by
        rw [Bool.and_eq_true]; exact ⟨by rw [beq_iff_eq]; omega, decide_eq_true (by omega)⟩
      rw [e1]
      unfold getL
      rw [if_pos h9]
      rfl
    · have e1 : (((i : Int) == (9 : Int)) && decide (1 < (c.toNat : Int))) = false := by
        rw [Bool.and_eq_false_iff]
        by_cases h : i = 9
        · exact .inr (decide_eq_false (by omega))
        · exact .inl (by rw [beq_eq_false_iff_ne]; omega)
      rw [e1]
      have hor : orI .u64 (u : Int) (IntKind.u64.wrap (((c.toNat % 128 : Nat) : Int) * 2 ^ (min (7 * i) IntKind.u64.bits))) = ((u + c.toNat % 128 * 128 ^ i : Nat) : Int) := or_shl' hu (Nat.mod_lt _ (by decide)) hi (hd9 h9)
      have hu' : u + c.toNat % 128 * 128 ^ i < 18446744073709551616 := shl_lt hu (Nat.mod_lt _ (by decide)) hi (hd9 h9)
      rw [hor]
      simp only [cond_false]
      unfold getL
      rw [if_neg h9]
      by_cases h127 : 127 < c.toNat
      · rw [decide_eq_true (show (127 : Int) < (c.toNat : Int) by omega), if_pos h127]
        simp only [cond_true, Option.bind_some, Sum.elim_inl]
        refine ih (i + 1) _ hd' (by omega) (by omega) ?_
        have h2 : (c.toNat % 128 + 1) * 128 ^ i ≤ 128 * 128 ^ i := Nat.mul_le_mul_right _ (by omega)
        rw [Nat.add_mul, Nat.one_mul] at h2
        rw [Nat.pow_succ]
        omega
      · rw [decide_eq_false (show ¬ (127 : Int) < (c.toNat : Int) by omega), if_neg h127]
        simp only [cond_false]
        by_cases h0 : 0 < i ∧ c.toNat = 0
        · have e2 : (decide ((0 : Int) < (i : Int)) && ((c.toNat : Int) == (0 : Int))) = true := by
            rw [Bool.and_eq_true]; exact ⟨decide_eq_true (by omega), by rw [beq_iff_eq]; omega⟩
          rw [e2, if_pos h0]
          rfl
        · have e2 : (decide ((0 : Int) < (i : Int)) && ((c.toNat : Int) == (0 : Int))) = false := by
            rw [Bool.and_eq_false_iff]
            by_cases h : 0 < i
            · exact .inr (by rw [beq_eq_false_iff_ne]; omega)
            · exact .inl (decide_eq_false (by omega))
          rw [e2, if_neg h0]
          simp only [cond_false]
          generalize u + c.toNat % 128 * 128 ^ i = q at hu'
          have hs1 : shrP .u64 (q : Int) 1 = some ((q : Int).fdiv (2 ^ (min 1 IntKind.u64.bits))) := by unfold shrP; rw [if_neg (by decide)]; rfl
          rw [hs1]
          simp only [Option.bind_some]
          rw [shr1 hu']
          have ha : andI .u64 (q : Int) 1 = ((q % 2 : Nat) : Int) := and1 q
          rw [ha]
          unfold num_Get_j2
          rw [hws]
          by_cases hp : q % 2 = 1
          · rw [hp]
            have hx : xorI .i64 ((q / 2 : Nat) : Int) = -((q / 2 : Nat) : Int) - 1 := not64 (by omega)
            rw [hx]
            unfold unzig
            rw [if_pos hp]
            rfl
          · have h00 : q % 2 = 0 := by omega
            rw [h00]
            unfold unzig
            rw [if_neg hp]
            rfl

theorem num_Get_eq {bs : List UInt8} (h : Len bs) : num_Get bs = some (getB bs) := by
  unfold num_Get
  exact getLp bs h bs 0 0 rfl (Nat.zero_le _) (Nat.zero_le _) (by decide)

theorem ref1_putL (k : Nat) : ∀ (acc : List UInt8) (u : Nat), 0 < k → u < 128 ^ k → u < 18446744073709551616 → acc.length + k ≤ 140737488355328 →
    ∃ acc' v, loopP (fun z : Int × List UInt8 => ref1_Put_l2 z.1 z.2) ((u : Int), acc) = some (.inl (v, acc')) ∧ ref1_Put_k3 v acc' = some (acc ++ putF k u) := by
  induction k with
  | zero => intro _ _ h; omega
  | succ k ih =>
    intro acc u _ hu h64 hl
    rw [loopP_eq]
    by_cases h127 : 127 < u
    · have hk : 0 < k := by
        rcases Nat.eq_zero_or_pos k with rfl | h
        · simp at hu; omega
        · exact h
      have hr : remP (u : Int) 128 = some ((u % 128 : Nat) : Int) := by
        unfold remP
        rw [if_neg (by decide)]
        congr 1
      have hq : quoP .u64 (u : Int) 128 = some ((u / 128 : Nat) : Int) := by
        unfold quoP
        rw [if_neg (by decide)]
        have : (u : Int).tdiv 128 = ((u / 128 : Nat) : Int) := rfl
        rw [this, wrap_u64]
        congr 1
        omega
      have hw : IntKind.u64.wrap (((u % 128 : Nat) : Int) + 128) = ((u % 128 + 128 : Nat) : Int) := by rw [wrap_u64]; omega
      have hstep : ref1_Put_l2 (u : Int) acc = some (.inl (((u / 128 : Nat) : Int), acc ++ [UInt8.ofNat (u % 128 + 128)])) := by
        unfold ref1_Put_l2
        rw [decide_eq_true (by omega), hr, Option.bind_some, hw, tU8_nat, appP1 (by simp; omega), hq]
        rfl
      simp only [hstep, Option.bind_some, Sum.elim_inl]
      obtain ⟨acc', v, h1, h2⟩ := ih (acc ++ [UInt8.ofNat (u % 128 + 128)]) (u / 128) hk (by rw [Nat.pow_succ] at hu; omega) (by omega) (by simp; omega)
      refine ⟨acc', v, h1, ?_⟩
      rw [h2]
      simp only [putF, if_pos h127]
      simp
    · have hstep : ref1_Put_l2 (u : Int) acc = some (.inr (.inl ((u : Int), acc))) := by
        unfold ref1_Put_l2
        rw [decide_eq_false (by omega)]
        rfl
      simp only [hstep, Option.bind_some, Sum.elim_inr]
      refine ⟨acc, u, rfl, ?_⟩
      unfold ref1_Put_k3
      rw [tU8_nat, appP1 (by simp; omega)]
      simp only [putF, if_neg h127]
      rfl

theorem ref1_Put_eq {n : Int} (h : I64 n) : ref1_Put n = some (put n) := by
  have hz := zig_lt h.1 h.2
  have key : ref1_Put_j1 ((zig n : Nat) : Int) = some (put n) := by
    obtain ⟨acc, v, h1, h2⟩ := ref1_putL 10 [] (zig n) (by decide) (by omega) hz (by simp)
    unfold ref1_Put_j1
    rw [h1]
    exact h2
  have e2 : IntKind.u64.wrap (IntKind.u64.wrap n * 2) = IntKind.u64.wrap (IntKind.u64.wrap n * 2 ^ (min 1 64)) := by
    have : (2 : Int) ^ (min 1 64) = 2 := by decide
    rw [this]
  unfold ref1_Put
  rw [e2]
  by_cases hn : n < 0
  · rw [decide_eq_true hn]
    have : xorI .u64 (IntKind.u64.wrap (IntKind.u64.wrap n * 2 ^ (min 1 64))) = ((zig n : Nat) : Int) := zig_neg h.1 hn
    rw [this]; exact key
  · rw [decide_eq_false hn, zig_pos (by omega) h.2]; exact key

theorem num_PutText_eq {bs s : List UInt8} (hb : bs.length ≤ 100000000000) (hs : s.length ≤ 100000000000) : num_PutText bs s = some (bs ++ putText s) := by
  have hp := put_length (s.length : Int)
  unfold num_PutText
  rw [num_Put_eq ⟨by omega, by omega⟩ (by omega), Option.bind_some, appP1 (by simp; omega)]
  unfold putText
  simp
theorem ref1_PutText_eq {s : List UInt8} (hs : s.length ≤ 100000000000) : ref1_PutText s = some (putText s) := by
  have hp := put_length (s.length : Int)
  unfold ref1_PutText
  rw [ref1_Put_eq ⟨by omega, by omega⟩, Option.bind_some, appP1 (by omega)]
  rfl
theorem num_GetText_eq {bs : List UInt8} (h : Len bs) : num_GetText bs = some (getText bs) := by
  unfold num_GetText
  rw [num_Get_eq h, Option.bind_some]
  unfold getText
  by_cases h0 : (getB bs).2.2 = 0
  · obtain ⟨j, h1, h2, h3, h4, h5, h6⟩ := getB_ok bs h0
    unfold Len at h
    rw [h1, h0]
    simp only [ne_eq, not_true_eq_false, if_false]
    by_cases hn : (getB bs).1 < 0 ∨ 1048576 < (getB bs).1
    · rw [if_pos hn]
      have : (decide ((getB bs).1 < 0) || decide (1048576 < (getB bs).1)) = true := by rw [Bool.or_eq_true]; exact hn.imp (fun h => decide_eq_true h) (fun h => decide_eq_true h)
      rw [this]; rfl
    · rw [if_neg hn]
      have : (decide ((getB bs).1 < 0) || decide (1048576 < (getB bs).1)) = false := by
        rw [Bool.or_eq_false_iff]; exact ⟨decide_eq_false fun h => hn (.inl h), decide_eq_false fun h => hn (.inr h)⟩
      rw [this, wrapI (by omega) (by omega)]
      by_cases hl : (bs.length : Int) - (j : Int) < (getB bs).1
      · rw [if_pos hl, decide_eq_true hl]; rfl
      · rw [if_neg hl, decide_eq_false hl, wrapI (by omega) (by omega), cutP_some (by omega) (by omega) (by omega)]
        have : ((j : Int) + (getB bs).1).toNat - (j : Int).toNat = (getB bs).1.toNat := by omega
        rw [this]
        rfl
  · rw [if_pos h0]
    have : ((getB bs).2.2 == (0 : Int)) = false := by rw [beq_eq_false_iff_ne]; exact h0
    rw [this]
    rfl
end Go.Proofs.YthhkdanpjcnegaaGreat
