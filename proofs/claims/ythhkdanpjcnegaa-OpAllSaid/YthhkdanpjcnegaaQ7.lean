/- Plain laws, part 7: the laws OpAll and OpMany. -/
import Derived.Test.YthhkdanpjcnegaaQ6
import Derived.Test.YthhkdanpjcnegaaG3a
namespace Go.Proofs.Ythhkdanpjcnegaa
set_option linter.unusedSimpArgs false
set_option linter.unusedVariables false

theorem wI_in {n : Int} (h : wI .i64 n) : I64 n := by
  have h' : (decide (IntKind.i64.min ≤ n) && decide (n ≤ IntKind.i64.max)) = true := h
  rw [Bool.and_eq_true, decide_eq_true_eq, decide_eq_true_eq] at h'
  exact h'

theorem putIns_len {x : ApiIns} (hx : InsIn x) : (putIns x).length ≤ 3000000 := by
  have l1 := put_length x.Op
  have l2 := put_length x.A
  have l3 := putText_len x.C
  have l4 := putText_len x.M
  have hc := hx.c
  have hmm := hx.m
  unfold putIns
  cases op_a x.Op <;> cases op_c x.Op <;> cases op_m x.Op <;> simp <;> omega

noncomputable def cutI (x : ApiIns) : ApiIns := ⟨x.Op, x.A, x.C.take 14, x.M.take 12⟩
theorem cutI_in {x : ApiIns} (h : wApiIns x) : InsIn (cutI x) := by
  obtain ⟨h1, h2, _, _⟩ := h
  exact ⟨wI_in h1, wI_in h2, by show (x.C.take 14).length ≤ _; rw [List.length_take]; omega, by show (x.M.take 12).length ≤ _; rw [List.length_take]; omega⟩
theorem law4_Cut_eq (x : ApiIns) : law4_Cut x = some (cutI x) := by
  unfold law4_Cut
  rw [show law1_Cut x.C 14 = _ from law1_Cut_eq, show law1_Cut x.M 12 = _ from law1_Cut_eq]
  rfl
theorem len_in {x : ApiIns} (h : InsIn x) : Len x.C ∧ Len x.M := ⟨by have := h.c; unfold Len; omega, by have := h.m; unfold Len; omega⟩
theorem law1_Short_eq {s : List UInt8} {n : Nat} : law1_Short s (n : Int) = some (s.take n) := by
  unfold law1_Short
  by_cases h : n < s.length
  · rw [decide_eq_true (show (n : Int) < (s.length : Int) by omega), cutP_to (by omega)]; rfl
  · rw [decide_eq_false (show ¬ (n : Int) < (s.length : Int) by omega), List.take_of_length_le (by omega)]; rfl
theorem eqIns_iff (x y : ApiIns) : ref3_EqIns x y = true ↔ x = y := by
  obtain ⟨a, b, c, d⟩ := x
  obtain ⟨a', b', c', d'⟩ := y
  unfold ref3_EqIns
  simp [and_assoc]
theorem eqIns_refl (x : ApiIns) : ref3_EqIns x x = true := (eqIns_iff x x).2 rfl
theorem putIns_inj {x y : ApiIns} (hx : InsIn x) (hy : InsIn y) (mx : mayIns x = true) (my : mayIns y = true) (h : putIns x = putIns y) : x = y := by
  have a := op_Get_put (rest := []) hx mx (by decide)
  have b := op_Get_put (rest := []) hy my (by decide)
  rw [h, b] at a
  exact (congrArg Prod.fst (Option.some.inj a)).symm

theorem law4_OpAll_eq {a b : ApiIns} {p q : List UInt8} (ha : wApiIns a) (hb : wApiIns b) : law4_OpAll a b p q = some true := by
  have ia := cutI_in ha
  have ib := cutI_in hb
  have lp : (p.take 8).length ≤ 8 := by rw [List.length_take]; omega
  have lq : (q.take 8).length ≤ 8 := by rw [List.length_take]; omega
  unfold law4_OpAll
  rw [law4_begun_eq, law4_Cut_eq, law4_Cut_eq, show law1_Short p 8 = _ from law1_Short_eq, show law1_Short q 8 = _ from law1_Short_eq]
  generalize cutI a = x at *
  generalize cutI b = y at *
  generalize p.take 8 = u at *
  generalize q.take 8 = v at *
  simp only [Option.bind_some, Bool.not_true, cond_false]
  rw [ref3_MayIns_eq (len_in ia).1 (len_in ia).2, op_May_eq (len_in ia).1 (len_in ia).2]
  have e1 : op_Jumps x.Op = ref3_Jumps x.Op := rfl
  have e2 : op_Ends x.Op = ref3_Ends x.Op := rfl
  rw [e1, e2]
  simp only [Option.bind_some, beq_self_eq_true, Bool.not_true, cond_false]
  unfold law4_OpAll_j1
  cases hm : mayIns x with
  | false => rfl
  | true =>
    have lx := putIns_len ia
    have g := op_Get_put (rest := v) ia hm (by omega)
    rw [appP1 (by simp only [List.length_nil]; omega)]
    simp only [Option.bind_some, Bool.not_true, cond_false, List.nil_append]
    rw [op_Put_eq ia (by omega), ref3_PutIns_eq ia (known_in (may_parts hm).1.1), Option.bind_some, Option.bind_some, catP_ok (by omega), Option.bind_some]
    simp only [beq_self_eq_true, Bool.not_true, cond_false]
    rw [cut_pre, Option.bind_some, appP1 (by simp only [List.length_nil]; omega), Option.bind_some, List.nil_append, appP1 (by omega), Option.bind_some, g, Option.bind_some]
    have hw : IntKind.i64.wrap (((u ++ putIns x).length : Int) - (u.length : Int)) = ((putIns x).length : Int) := by
      rw [wrapI (by simp; omega) (by simp; omega)]
      simp; omega
    rw [hw]
    simp only [beq_self_eq_true, cond_true, eqIns_refl]
    rw [ref3_MayIns_eq (len_in ib).1 (len_in ib).2, Option.bind_some]
    cases hn : mayIns y with
    | false => rfl
    | true =>
      have ly := putIns_len ib
      simp only [Bool.not_true, cond_false]
      rw [Option.bind_some, op_Put_eq ib (by simp), Option.bind_some, List.nil_append]
      have : (putIns y == putIns x) = ref3_EqIns x y := by
        by_cases h : x = y
        · subst h
          rw [eqIns_refl]
          exact beq_self_eq_true _
        · have h1 : ref3_EqIns x y = false := by
            cases he : ref3_EqIns x y with
            | false => rfl
            | true => exact absurd ((eqIns_iff x y).1 he) h
          rw [h1]
          exact beq_eq_false_iff_ne.2 fun hp => h (putIns_inj ib ia hn hm hp).symm
      rw [this, beq_self_eq_true]
      rfl

theorem opAll_pure (a b : ApiIns) (p q : List UInt8) (ha : wApiIns a) (hb : wApiIns b) (_ : wL wT p) (_ : wL wT q) : PureC Try.prog 7 [.agg (rApiIns a), .agg (rApiIns b), .isl 1 (List.map byteRow p), .isl 1 (List.map byteRow q)] (.lit (.bool true)) := law4_OpAll_ok a b p q (law4_OpAll_eq ha hb)

/-! The law OpMany. -/
noncomputable def flat (l : List ApiIns) : List UInt8 := (l.map putIns).flatten

structure Kept (bs : List UInt8) (ms : List ApiIns) (k : Nat) : Prop where
  bs : bs = flat ms
  all : ∀ x ∈ ms, InsIn x ∧ mayIns x = true
  len : ms.length ≤ k
  lim : k ≤ 30

theorem flat_len {ms : List ApiIns} (h : ∀ x ∈ ms, InsIn x ∧ mayIns x = true) : (flat ms).length ≤ ms.length * 3000000 := by
  induction ms with
  | nil => simp [flat]
  | cons x l ih =>
    have := ih fun y hy => h y (List.mem_cons_of_mem _ hy)
    have l2 := putIns_len (h x List.mem_cons_self).1
    unfold flat at this ⊢
    simp only [List.map_cons, List.flatten_cons, List.length_append, List.length_cons]
    omega

theorem many_put {es : List ApiIns} (hes : wL wApiIns es) : ∀ (d k : Nat) (bs : List UInt8) (ms : List ApiIns), 30 - k = d → Kept bs ms k →
    ∃ bs' ms', loopP (fun z => law4_OpMany_l3 es z.1 z.2.1 z.2.2) (bs, ms, (k : Int)) = some (.inl (bs', ms')) ∧ Kept bs' ms' 30 := by
  intro d
  induction d with
  | zero =>
    intro k bs ms hd hk
    have := hk.lim
    have : k = 30 := by omega
    subst this
    refine ⟨bs, ms, ?_, hk⟩
    rw [loopP_eq]
    show (law4_OpMany_l3 es bs ms ((30 : Nat) : Int)).bind _ = _
    unfold law4_OpMany_l3
    rw [decide_eq_false (show ¬ ((30 : Nat) : Int) < 30 by omega), Bool.and_false]
    rfl
  | succ d ih =>
    intro k bs ms hd hk
    rw [loopP_eq]
    show ∃ bs' ms', (law4_OpMany_l3 es bs ms (k : Int)).bind _ = _ ∧ _
    unfold law4_OpMany_l3
    by_cases hl : k < es.length
    · rw [decide_eq_true (show (k : Int) < (es.length : Int) by omega), decide_eq_true (show (k : Int) < 30 by omega), idx_nat, List.getElem?_eq_getElem hl]
      have ix := cutI_in (hes.2 es[k] (List.getElem_mem hl))
      simp only [Option.bind_some, Bool.and_self, cond_true]
      rw [law4_Cut_eq, Option.bind_some, ref3_MayIns_eq (len_in ix).1 (len_in ix).2, Option.bind_some]
      generalize cutI es[k] = x at *
      have hlen := hk.len
      have hlim := hk.lim
      cases hm : mayIns x with
      | false =>
        simp only [cond_false]
        unfold law4_OpMany_j2
        rw [wrap_succ (by omega)]
        show ∃ bs' ms', loopP _ (bs, ms, ((k + 1 : Nat) : Int)) = _ ∧ _
        exact ih (k + 1) bs ms (by omega) ⟨hk.bs, hk.all, by omega, by omega⟩
      | true =>
        simp only [cond_true]
        have hf := flat_len hk.all
        rw [appP_ok (by simp; omega) (by simp; omega), Option.bind_some, op_Put_eq ix (by rw [hk.bs]; omega), Option.bind_some]
        unfold law4_OpMany_j2
        rw [wrap_succ (by omega)]
        show ∃ bs' ms', loopP _ (bs ++ putIns x, ms ++ [x], ((k + 1 : Nat) : Int)) = _ ∧ _
        refine ih (k + 1) _ _ (by omega) ⟨?_, ?_, by simp; omega, by omega⟩
        · rw [hk.bs]; simp [flat]
        · intro y hy
          rcases List.mem_append.1 hy with h | h
          · exact hk.all y h
          · rw [List.mem_singleton.1 h]; exact ⟨ix, hm⟩
    · rw [decide_eq_false (show ¬ (k : Int) < (es.length : Int) by omega), Bool.false_and]
      exact ⟨bs, ms, rfl, hk.bs, hk.all, by have := hk.len; have := hk.lim; omega, by omega⟩

theorem many_get {ms : List ApiIns} (ha : ∀ x ∈ ms, InsIn x ∧ mayIns x = true) (hl : ms.length ≤ 30) : ∀ (d k : Nat), ms.length - k = d → k ≤ ms.length →
    loopP (fun z => law4_OpMany_l7 ms z.1 z.2) (flat (ms.drop k), (k : Int)) = some (.inl []) := by
  intro d
  induction d with
  | zero =>
    intro k hd hk
    have : k = ms.length := by omega
    subst this
    rw [loopP_eq]
    show (law4_OpMany_l7 ms (flat (ms.drop ms.length)) (ms.length : Int)).bind _ = _
    unfold law4_OpMany_l7
    rw [decide_eq_false (show ¬ (ms.length : Int) < (ms.length : Int) by omega), List.drop_length]
    rfl
  | succ d ih =>
    intro k hd hk
    have hlt : k < ms.length := by omega
    have hx := ha _ (List.getElem_mem hlt)
    have hr := flat_len (ms := ms.drop (k + 1)) fun y hy => ha y (List.mem_of_mem_drop hy)
    have hrl : (ms.drop (k + 1)).length ≤ 30 := by simp; omega
    have he : flat (ms.drop k) = putIns ms[k] ++ flat (ms.drop (k + 1)) := by
      rw [List.drop_eq_getElem_cons hlt]
      rfl
    have hidx : ms[k]? = some ms[k] := List.getElem?_eq_getElem hlt
    have i := ih (k + 1) (by omega) (by omega)
    rw [loopP_eq]
    show (law4_OpMany_l7 ms (flat (ms.drop k)) (k : Int)).bind _ = _
    rw [he]
    unfold law4_OpMany_l7
    generalize ms[k] = x at *
    generalize flat (ms.drop (k + 1)) = rest at *
    have lx := putIns_len hx.1
    rw [decide_eq_true (show (k : Int) < (ms.length : Int) by omega), op_Get_put hx.1 hx.2 (by omega), idx_nat, hidx]
    simp only [Option.bind_some, cond_true, cond_false, beq_self_eq_true, Bool.not_true, eqIns_refl]
    rw [decide_eq_false (show ¬ ((putIns x ++ rest).length : Int) < ((putIns x).length : Int) by simp; omega)]
    unfold law4_OpMany_j6
    rw [wrap_succ (by omega), cut_pre]
    exact i

theorem law4_OpMany_eq {es : List ApiIns} (hes : wL wApiIns es) : law4_OpMany es = some true := by
  obtain ⟨bs, ms, h1, h2⟩ := many_put hes 30 0 [] [] rfl ⟨rfl, by simp, by simp, by omega⟩
  have h3 := many_get h2.all h2.len ms.length 0 (by omega) (by omega)
  rw [List.drop_zero, ← h2.bs] at h3
  unfold law4_OpMany
  rw [law4_begun_eq]
  simp only [Option.bind_some, Bool.not_true, cond_false]
  rw [show loopP (fun z => law4_OpMany_l3 es z.1 z.2.1 z.2.2) ([], [], 0) = _ from h1]
  show law4_OpMany_k4 bs ms = _
  unfold law4_OpMany_k4
  rw [show loopP (fun z => law4_OpMany_l7 ms z.1 z.2) (bs, 0) = _ from h3]
  rfl
theorem opMany_pure (es : List ApiIns) (h : wL wApiIns es) : PureC Try.prog 9 [.isl 4 (List.map rApiIns es)] (.lit (.bool true)) := law4_OpMany_ok es (law4_OpMany_eq h)
end Go.Proofs.Ythhkdanpjcnegaa
