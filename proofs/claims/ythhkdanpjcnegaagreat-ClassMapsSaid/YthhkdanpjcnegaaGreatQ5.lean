/- Plain laws, part 5: instructions as bytes; the first checks; the law OpEach. -/
import Derived.Test.YthhkdanpjcnegaaGreatQ4
namespace Go.Proofs.YthhkdanpjcnegaaGreat
set_option linter.unusedSimpArgs false
set_option linter.unusedVariables false

noncomputable def putIns (x : ApiIns) : List UInt8 := put x.Op ++ (cond (op_a x.Op) (put x.A) [] ++ (cond (op_c x.Op) (putText x.C) [] ++ cond (op_m x.Op) (putText x.M) []))

structure InsIn (x : ApiIns) : Prop where
  op : I64 x.Op
  a : I64 x.A
  c : x.C.length ≤ 1000000
  m : x.M.length ≤ 1000000

theorem putText_len (s : List UInt8) : (putText s).length ≤ s.length + 10 := by
  have := put_length (s.length : Int)
  unfold putText
  simp; omega

theorem op_Put_eq {bs : List UInt8} {x : ApiIns} (hx : InsIn x) (hb : bs.length ≤ 10000000000) : op_Put bs x = some (bs ++ putIns x) := by
  have h1 := put_length x.Op
  have h2 := put_length x.A
  have h3 := putText_len x.C
  have hc := hx.c
  have hm := hx.m
  have e1 : ∀ b : List UInt8, b.length ≤ 20000000000 → op_Put_j2 x b = some (b ++ cond (op_m x.Op) (putText x.M) []) := fun b hb => by
    unfold op_Put_j2 op_Put_j3
    cases op_m x.Op with
    | true => simp only [cond_true]; rw [num_PutText_eq (by omega) (by omega)]; rfl
    | false => simp
  have e2 : ∀ b : List UInt8, b.length ≤ 15000000000 → op_Put_j1 x b = some (b ++ (cond (op_c x.Op) (putText x.C) [] ++ cond (op_m x.Op) (putText x.M) [])) := fun b hb => by
    unfold op_Put_j1
    cases op_c x.Op with
    | true => simp only [cond_true]; rw [num_PutText_eq (by omega) (by omega), Option.bind_some, e1 _ (by simp; omega)]; simp
    | false => simp only [cond_false]; rw [e1 _ (by omega)]; simp
  unfold op_Put putIns
  rw [num_Put_eq hx.op (by omega), Option.bind_some]
  cases op_a x.Op with
  | true => simp only [cond_true]; rw [num_Put_eq hx.a (by simp; omega), Option.bind_some, e2 _ (by simp; omega)]; simp
  | false => simp only [cond_false]; rw [e2 _ (by simp; omega)]; simp

theorem cut_pre {pre t : List UInt8} : cutP (pre ++ t) ((pre.length : Nat) : Int) ((pre ++ t).length : Int) = some t := by
  have h := cutP_from (l := pre ++ t) (a := pre.length) (by simp)
  rw [h]; simp

theorem may_parts {x : ApiIns} (h : mayIns x = true) : (op_known x.Op = true ∧ op_mayA x.Op x.A = true) ∧ mayCN x.Op x.C = true ∧ mayMN x.Op x.M = true := by
  unfold mayIns at h
  simp only [Bool.and_eq_true] at h
  exact ⟨h.1.1, h.1.2, h.2⟩
theorem known_in {o : Int} (h : op_known o = true) : 1 ≤ o ∧ o ≤ 61 := by
  unfold op_known op_between at h
  simp only [Bool.and_eq_true, decide_eq_true_eq] at h
  exact h

theorem op_Get_put {x : ApiIns} {rest : List UInt8} (hx : InsIn x) (hm : mayIns x = true) (hr : rest.length ≤ 1000000000) : op_Get (putIns x ++ rest) = some (x, (((putIns x).length : Nat) : Int), 0) := by
  obtain ⟨⟨m1, m2⟩, m3, m4⟩ := may_parts hm
  have l1 := put_length x.Op
  have l2 := put_length x.A
  have l3 := putText_len x.C
  have l4 := putText_len x.M
  have hc := hx.c
  have hmm := hx.m
  have bnd : (putIns x).length ≤ 3000000 := by
    unfold putIns
    cases op_a x.Op <;> cases op_c x.Op <;> cases op_m x.Op <;> simp <;> omega
  have hty : op_c x.Op = false → op_typed x.Op = false := fun h => by unfold op_c at h; simp only [Bool.or_eq_false_iff] at h; exact h.2
  obtain ⟨all, hall⟩ : ∃ all, all = putIns x ++ rest := ⟨_, rfl⟩
  have hlen : all.length ≤ 2000000000 := by rw [hall, List.length_append]; omega
  -- the last part
  have g3 : ∀ pre : List UInt8, all = pre ++ (cond (op_m x.Op) (putText x.M) [] ++ rest) → op_Get_j2 all (x.Op, ((put x.Op).length : Int), 0) x.A (pre.length : Nat) 0 x.C = some (x, (((putIns x).length : Nat) : Int), 0) := fun pre hp => by
    unfold op_Get_j2 op_Get_j3
    have hpl : all.length = pre.length + (cond (op_m x.Op) (putText x.M) [] ++ rest).length := by rw [hp, List.length_append]
    have hpi : (putIns x).length + rest.length = all.length := by rw [hall, List.length_append]
    cases h : op_m x.Op with
    | false =>
      rw [h] at hp hpl
      simp only [cond_false, List.nil_append] at hpl
      have hM : x.M = [] := by
        unfold mayMN at m4; rw [h] at m4; exact beq_iff_eq.1 m4
      have : pre.length = (putIns x).length := by omega
      simp only [cond_false]
      rw [this, ← hM]
      rfl
    | true =>
      rw [h] at hp hpl
      simp only [cond_true] at hp hpl ⊢
      unfold op_reader_text_s2 op_reader_text_s2_j1 op_Get_3
      have hcut : cutP all ((pre.length : Nat) : Int) (all.length : Int) = some (putText x.M ++ rest) := by rw [hp]; exact cut_pre
      have hget : num_GetText (putText x.M ++ rest) = some (x.M, ((putText x.M).length : Int), 0) := by
        rw [num_GetText_eq (by unfold Len; simp; omega), getText_put _ _ (by omega)]
      have hw : IntKind.i64.wrap ((pre.length : Nat) + ((putText x.M).length : Int)) = ((putIns x).length : Nat) := by
        rw [List.length_append] at hpl
        rw [wrapI (by omega) (by omega)]; omega
      rw [hcut, Option.bind_some, hget, Option.bind_some]
      simp only
      rw [op_mayM_eq (by unfold Len; omega), m4, hw]
      rfl
  -- the text ahead of it
  have g2 : ∀ pre : List UInt8, all = pre ++ (cond (op_c x.Op) (putText x.C) [] ++ (cond (op_m x.Op) (putText x.M) [] ++ rest)) → op_Get_j1 all (x.Op, ((put x.Op).length : Int), 0) (pre.length : Nat) 0 x.A = some (x, (((putIns x).length : Nat) : Int), 0) := fun pre hp => by
    unfold op_Get_j1
    cases h : op_c x.Op with
    | false =>
      rw [h] at hp
      have hC : x.C = [] := by
        unfold mayCN at m3; rw [hty h, h] at m3; exact beq_iff_eq.1 m3
      simp only [cond_false]
      rw [← hC]
      exact g3 pre (by simpa using hp)
    | true =>
      rw [h] at hp
      simp only [cond_true] at hp ⊢
      unfold op_reader_text op_reader_text_j1 op_Get_2
      have hcut : cutP all ((pre.length : Nat) : Int) (all.length : Int) = some (putText x.C ++ (cond (op_m x.Op) (putText x.M) [] ++ rest)) := by rw [hp]; exact cut_pre
      have hle : (cond (op_m x.Op) (putText x.M) [] ++ rest).length ≤ 1001000010 := by cases op_m x.Op <;> simp <;> omega
      have hget : num_GetText (putText x.C ++ (cond (op_m x.Op) (putText x.M) [] ++ rest)) = some (x.C, ((putText x.C).length : Int), 0) := by
        rw [num_GetText_eq (by unfold Len; rw [List.length_append]; omega), getText_put _ _ (by omega)]
      have hpl : all.length = pre.length + ((putText x.C).length + (cond (op_m x.Op) (putText x.M) [] ++ rest).length) := by rw [hp, List.length_append, List.length_append]
      have hw : IntKind.i64.wrap ((pre.length : Nat) + ((putText x.C).length : Int)) = ((pre ++ putText x.C).length : Nat) := by
        rw [wrapI (by omega) (by omega), List.length_append]; omega
      rw [hcut, Option.bind_some, hget, Option.bind_some]
      simp only
      rw [op_mayC_eq (by unfold Len; omega), m3, hw]
      exact g3 (pre ++ putText x.C) (by rw [hp]; simp)
  have k0 : cutP all 0 (all.length : Int) = some all := by
    have := cutP_from (l := all) (a := 0) (by simp)
    simpa using this
  have hfirst : op_reader_num all 0 0 = some (x.Op, (((put x.Op).length : Nat) : Int), 0) := by
    unfold op_reader_num op_reader_num_j1
    rw [k0, Option.bind_some]
    have : num_Get all = some (x.Op, ((put x.Op).length : Int), 0) := by
      rw [num_Get_eq (by unfold Len; omega), hall]
      unfold putIns
      rw [List.append_assoc, get_put _ _ hx.op.1 hx.op.2]
    rw [this, Option.bind_some]
    simp only
    rw [m1, wrapI (by omega) (by omega)]
    simp
  rw [← hall]
  unfold op_Get
  rw [hfirst, Option.bind_some]
  simp only
  have h0 : all = put x.Op ++ (cond (op_a x.Op) (put x.A) [] ++ (cond (op_c x.Op) (putText x.C) [] ++ (cond (op_m x.Op) (putText x.M) [] ++ rest))) := by rw [hall]; unfold putIns; simp
  cases h : op_a x.Op with
  | false =>
    have hA : x.A = 0 := by
      rw [mayA_eq, h] at m2; exact beq_iff_eq.1 m2
    rw [h] at h0
    have := g2 (put x.Op) (by simpa using h0)
    rw [hA] at this
    exact this
  | true =>
    rw [h] at h0
    simp only [cond_true] at h0 ⊢
    have hn : op_reader_num_s2 all ((put x.Op).length : Nat) 0 x.Op 0 [] [] = some (x.A, (((put x.Op ++ put x.A).length : Nat) : Int), 0) := by
      unfold op_reader_num_s2 op_reader_num_s2_j1 op_Get_1
      have hcut : cutP all (((put x.Op).length : Nat) : Int) (all.length : Int) = some (put x.A ++ (cond (op_c x.Op) (putText x.C) [] ++ (cond (op_m x.Op) (putText x.M) [] ++ rest))) := by rw [h0]; exact cut_pre
      have hle : (put x.A ++ (cond (op_c x.Op) (putText x.C) [] ++ (cond (op_m x.Op) (putText x.M) [] ++ rest))).length ≤ all.length := by
        have := congrArg List.length h0
        rw [List.length_append] at this
        omega
      have : num_Get (put x.A ++ (cond (op_c x.Op) (putText x.C) [] ++ (cond (op_m x.Op) (putText x.M) [] ++ rest))) = some (x.A, ((put x.A).length : Int), 0) := by
        rw [num_Get_eq (by unfold Len; omega), get_put _ _ hx.a.1 hx.a.2]
      rw [hcut, Option.bind_some, this, Option.bind_some]
      simp only
      rw [m2, wrapI (by omega) (by omega), List.length_append]
      simp
    rw [hn, Option.bind_some]
    exact g2 (put x.Op ++ put x.A) (by rw [h0]; simp)

/-! ### The first checks -/
theorem law3_begun_eq : law3_begun = some true := by
  have c1 : kind_May [91, 91, 65, 98] = some true := by rw [kind_May_eq (by decide)]; rfl
  have c2 : kind_May [65, 98] = some true := by rw [kind_May_eq (by decide)]; rfl
  have c3 : kind_Class [65, 98] = some true := by rw [kind_Class_eq (by decide)]; rfl
  have c4 : kind_Class [65] = some false := by rw [kind_Class_eq (by decide)]; rfl
  have c5 : kind_Name [97, 98] = some true := by rw [kind_Name_eq (by decide)]; rfl
  have c6 : kind_Name [36, 105, 110, 105, 116] = some true := by rw [kind_Name_eq (by decide)]; rfl
  have c7 : kind_Name [65, 98] = some false := by rw [kind_Name_eq (by decide)]; rfl
  have c8 : kind_May [91, 91, 73] = some true := by rw [kind_May_eq (by decide)]; rfl
  have c9 : kind_May [91, 91, 91, 73] = some false := by rw [kind_May_eq (by decide)]; rfl
  have c10 : kind_Ret [86] = some true := by rw [kind_Ret_eq (by decide)]; rfl
  have c11 : kind_May [86] = some false := by rw [kind_May_eq (by decide)]; rfl
  have c12 : kind_Ref [91, 73] = some true := by rw [kind_Ref_eq (by decide)]; rfl
  have c13 : kind_Ref [73] = some false := by rw [kind_Ref_eq (by decide)]; rfl
  have c14 : kind_May [73] = some true := by rw [kind_May_eq (by decide)]; rfl
  have c15 : kind_May [91, 73] = some true := by rw [kind_May_eq (by decide)]; rfl
  have e1 : kind_Elem [91, 91, 65, 98] = some ([91, 65, 98], true) := by unfold kind_Elem; rw [c1]; rfl
  have e2 : kind_Elem [65, 98] = some ([], false) := by unfold kind_Elem; rw [c2]; rfl
  have e3 : kind_Array [73] = some [91, 73] := by
    unfold kind_Array
    rw [c14, show catP [91] [73] = some [91, 73] from rfl, Option.bind_some, Option.bind_some, c15]; rfl
  have e4 : kind_Array [91, 91, 73] = some [] := by
    unfold kind_Array
    rw [c8, show catP [91] [91, 91, 73] = some [91, 91, 91, 73] from rfl, Option.bind_some, Option.bind_some, c9]; rfl
  unfold law3_begun
  rw [e1, e2, c3, c4, c5, c6, c7, c8, c9, c10, c11, c12, c13, e3, e4]
  rfl
theorem law3_Begun_eq : law3_Begun = some true := by unfold law3_Begun; rw [law3_begun_eq]; rfl

theorem law4_begun_eq : law4_begun = some true := by
  have hx : InsIn (ApiIns.mk 43 0 [65, 98] [102]) := ⟨by decide, by decide, by decide, by decide⟩
  have hm : mayIns (ApiIns.mk 43 0 [65, 98] [102]) = true := by decide +kernel
  have hp : putIns (ApiIns.mk 43 0 [65, 98] [102]) = [86, 4, 65, 98, 2, 102] := by decide +kernel
  have g1 := op_Get_put (rest := [1]) hx hm (by decide)
  have p1 := op_Put_eq (bs := []) hx (by decide)
  rw [hp] at g1 p1
  have m1 : op_May (ApiIns.mk 43 0 [65, 98] [102]) = some true := by rw [op_May_eq (by decide) (by decide), hm]
  have m2 : op_May (ApiIns.mk 43 0 [] []) = some false := by
    rw [op_May_eq (by decide) (by decide)]
    exact congrArg some (by decide +kernel)
  have ge : op_Get [] = some (ApiIns.mk 0 0 [] [], 0, 2) := by
    have : op_reader_num [] 0 0 = some (0, 0, 2) := by
      unfold op_reader_num
      rw [show cutP ([] : List UInt8) 0 (List.length ([] : List UInt8) : Int) = some [] from rfl, Option.bind_some, num_Get_eq (by decide)]
      rfl
    unfold op_Get
    rw [this]
    rfl
  have g0 : op_Get [(0 : UInt8)] = some (ApiIns.mk 0 0 [] [], 0, 1) := by
    have : op_reader_num [(0 : UInt8)] 0 0 = some (0, 1, 1) := by
      unfold op_reader_num
      rw [show cutP [(0 : UInt8)] 0 (List.length [(0 : UInt8)] : Int) = some [0] from rfl, Option.bind_some, num_Get_eq (by decide)]
      rfl
    unfold op_Get
    rw [this]
    rfl
  unfold law4_begun
  rw [p1, Option.bind_some, show appP 1 ([] : List UInt8) ([] ++ [86, 4, 65, 98, 2, 102]) = some [86, 4, 65, 98, 2, 102] from rfl, Option.bind_some, show appP 1 ([86, 4, 65, 98, 2, 102] : List UInt8) [(1 : UInt8)] = some ([86, 4, 65, 98, 2, 102] ++ [1]) from rfl, Option.bind_some, g1, ge, g0, law3_Begun_eq, m1, m2]
  decide +kernel

theorem law1_Cut_eq {s : List UInt8} {n : Nat} : law1_Cut s (n : Int) = some (s.take n) := by
  unfold law1_Cut
  by_cases h : n < s.length
  · rw [decide_eq_true (show (n : Int) < (s.length : Int) by omega), cutP_to (by omega)]; rfl
  · rw [decide_eq_false (show ¬ (n : Int) < (s.length : Int) by omega), List.take_of_length_le (by omega)]; rfl
end Go.Proofs.YthhkdanpjcnegaaGreat
