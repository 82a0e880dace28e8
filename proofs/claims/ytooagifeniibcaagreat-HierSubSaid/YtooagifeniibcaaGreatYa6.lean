/- HierSub: for every input the law returns true, and each argument reads as it read before. No further condition. Part 6 of 7. -/
import Derived.Test.YtooagifeniibcaaGreatYa5
namespace Go.Proofs.YtooagifeniibcaaGreat
set_option linter.unusedSimpArgs false
set_option linter.unusedVariables false
def brk : Tx → Bool
  | [] => false
  | x :: _ => x == 91
def ess (s : Tx) : Tx := trim1 (trim1 s)
theorem trim_not {s : Tx} (h : brk s = false) : trim1 s = s := by
  cases s with
  | nil => rfl
  | cons x r =>
    rw [trim1_cons, if_neg]
    intro e
    subst e
    cases h
theorem trim_brk {s : Tx} (h : brk s = true) : trim1 s = s.drop 1 ∧ s = 91 :: s.drop 1 := by
  cases s with
  | nil => cases h
  | cons x r =>
    have : x = 91 := by simpa [brk] using h
    subst this
    exact ⟨rfl, rfl⟩
theorem classN_brk {s : Tx} (h : classN s = true) : brk s = false := by
  cases s with
  | nil => rfl
  | cons x r =>
    cases hb : (x == 91) with
    | false => exact hb
    | true =>
      have : x = 91 := by simpa using hb
      subst this
      unfold classN at h
      rw [Bool.and_eq_true] at h
      have h2 : kind_great 91 = true := h.2
      exact absurd h2 (by decide +kernel)
theorem classN_I {s : Tx} (h : classN s = true) : (s == [73]) = false := by
  cases hb : (s == [73]) with
  | false => rfl
  | true =>
    have : s = [73] := by simpa using hb
    subst this
    unfold classN at h
    simp at h
theorem classN_may {s : Tx} (h : classN s = true) : mayN s = true := by
  unfold mayN
  rw [trim_not (classN_brk h), trim_not (classN_brk h), h, Bool.or_true]
theorem ess_brk {s : Tx} (h : mayN s = true) : brk (ess s) = false := by
  unfold mayN at h
  rw [Bool.or_eq_true] at h
  rcases h with h | h
  · unfold ess; rw [eq_of_beq h]; rfl
  · exact classN_brk h
theorem may_drop {s : Tx} (h : mayN s = true) (hb : brk s = true) : mayN (s.drop 1) = true ∧ ess (s.drop 1) = ess s := by
  obtain ⟨h1, h2⟩ := trim_brk hb
  have h3 := ess_brk h
  have e : trim1 (trim1 (s.drop 1)) = trim1 (trim1 s) := by
    rw [h1]
    exact trim_not (show brk (trim1 (s.drop 1)) = false from by rw [← h1]; exact h3)
  exact ⟨by unfold mayN at h ⊢; rw [e]; exact h, e⟩
theorem ess_not {s : Tx} (hb : brk s = false) : ess s = s := by unfold ess; rw [trim_not hb, trim_not hb]
theorem giv_class : giv.all (fun c => classN c.Name) = true := by decide +kernel
def thereN (L : List ApiClass) (t : Tx) : Bool := (ess t == [73]) || hasN L (ess t)
noncomputable def thN (L : List ApiClass) (t : Tx) : Bool := mayN t && thereN L t
section
variable {l L : List ApiClass} {m : List (Tx × Int)}
theorem name_class (h : Made l L) {n : Tx} (hn : hasN L n = true) : classN n = true := by
  obtain ⟨c, hc⟩ := has_cl hn
  obtain ⟨h1, h2⟩ := cl_name hc
  rw [← h2]
  rw [h.app] at h1
  rcases List.mem_append.1 h1 with e | e
  · exact List.all_eq_true.1 giv_class c e
  · have := h.may c e
    unfold mayG at this
    simp only [Bool.and_eq_true] at this
    exact this.2.1.1.1.1
noncomputable def elemN (s : Tx) : Tx × Bool := cond (mayN s && brk s) (s.drop 1, true) ([], false)
theorem kind_Elem_eq {s : Tx} (h : Len s) : kind_Elem s = some (elemN s) := by
  unfold kind_Elem elemN
  rw [kind_May_eq h]
  cases hm : mayN s with
  | false => rfl
  | true =>
    cases s with
    | nil =>
      exfalso
      unfold mayN at hm
      rw [show trim1 (trim1 []) = [] from rfl] at hm
      simp at hm
      exact classN_ne hm rfl
    | cons x r =>
      simp only [Option.bind_some, Bool.not_true, cond_false, Bool.true_and]
      rw [idx_zero]
      have e : ((x.toNat : Int) == (91 : Int)) = (x == 91) := by
        rw [Bool.eq_iff_iff, beq_iff_eq, beq_iff_eq]
        constructor
        · intro h; exact UInt8.toNat_inj.1 (by simpa using (Int.ofNat_inj.1 h))
        · intro h; rw [h]; rfl
      simp only [List.getElem?_cons_zero, Option.bind_some, e]
      rw [show (1 : Int) = ((1 : Nat) : Int) from rfl, cutP_from (by simp)]
      show cond (!(x == 91)) _ _ = some (cond (x == 91) _ _)
      cases x == 91 <;> rfl
theorem there_loop {s : Tx} : ∀ (d : Nat) (t : Tx), t.length ≤ d → Len t → loopP (fun z => hier_Hier_there_s2_l1 z.1 z.2.1 z.2.2) (t, (elemN t).1, (elemN t).2) = some (.inl (cond (mayN t) (ess t) t))
  | d, t, hd, hl => by
    rw [loopP_eq]
    show (hier_Hier_there_s2_l1 t (elemN t).1 (elemN t).2).bind _ = _
    unfold hier_Hier_there_s2_l1
    cases hm : mayN t with
    | false =>
      have : elemN t = ([], false) := by unfold elemN; rw [hm]; rfl
      rw [this]; rfl
    | true =>
      cases hb : brk t with
      | false =>
        have : elemN t = ([], false) := by unfold elemN; rw [hm, hb]; rfl
        rw [this, ess_not hb]; rfl
      | true =>
        have : elemN t = (t.drop 1, true) := by unfold elemN; rw [hm, hb]; rfl
        obtain ⟨k1, k2⟩ := may_drop hm hb
        have hlen : (t.drop 1).length = t.length - 1 := by simp
        have hpos : 0 < t.length := by rw [(trim_brk hb).2]; simp
        have hl2 : Len (t.drop 1) := by unfold Len at *; omega
        rw [this]
        show ((kind_Elem (t.drop 1)).bind _).bind _ = _
        rw [kind_Elem_eq hl2]
        show loopP (fun z => hier_Hier_there_s2_l1 z.1 z.2.1 z.2.2) (t.drop 1, (elemN (t.drop 1)).1, (elemN (t.drop 1)).2) = _
        cases d with
        | zero => omega
        | succ d =>
          rw [there_loop (s := s) d (t.drop 1) (by omega) hl2, k1, k2]; rfl
theorem there_eq (h : Made l L) (hm : MapOk L m) {t : Tx} (hl : Len t) : hier_Hier_there_s2 L m t = some (thN L t) := by
  unfold hier_Hier_there_s2
  rw [kind_Elem_eq hl]
  simp only [Option.bind_some]
  rw [there_loop (s := t) t.length t (Nat.le_refl _) hl]
  simp only [Option.bind_some, leave]
  unfold hier_Hier_there_s2_k2 hier_Hier_has
  rw [hm.has]
  unfold thN thereN
  cases hmay : mayN t with
  | true => rfl
  | false =>
    simp only [cond_false, Bool.false_and]
    congr 1
    rw [Bool.or_eq_false_iff]
    constructor
    · cases hI : (t == [73]) with
      | false => rfl
      | true =>
        have : t = [73] := by simpa using hI
        rw [this] at hmay
        exact absurd hmay (by decide +kernel)
    · cases hh : hasN L t with
      | false => rfl
      | true => rw [classN_may (name_class h hh)] at hmay; cases hmay
theorem base_loop : ∀ (t : Tx) (k : Nat), t.length + k ≤ 1000 → loopP (fun z => ref7_base_l1 z.1 z.2) (t, (k : Int)) = some (.inl (t.dropWhile (· == 91), ((k + (t.takeWhile (· == 91)).length : Nat) : Int)))
  | [], k, hk => by
    rw [loopP_eq]; rfl
  | x :: r, k, hk => by
    simp only [List.length_cons] at hk
    rw [loopP_eq]
    show (ref7_base_l1 (x :: r) (k : Int)).bind _ = _
    unfold ref7_base_l1
    have e : ((x.toNat : Int) == (91 : Int)) = (x == 91) := by
      rw [Bool.eq_iff_iff, beq_iff_eq, beq_iff_eq]
      constructor
      · intro h; exact UInt8.toNat_inj.1 (by simpa using (Int.ofNat_inj.1 h))
      · intro h; rw [h]; rfl
    rw [decide_eq_true (show (0 : Int) < ((x :: r).length : Int) by simp only [List.length_cons]; omega), idx_zero]
    simp only [cond_true, List.getElem?_cons_zero, Option.bind_some, e]
    rw [show (1 : Int) = ((1 : Nat) : Int) from rfl, cutP_from (by simp), List.dropWhile_cons, List.takeWhile_cons]
    cases hx : (x == 91) with
    | false => simp
    | true =>
      simp only [cond_true, Option.bind_some, if_true, List.drop_one, List.tail_cons]
      rw [show ((1 : Nat) : Int) = 1 from rfl, wrap_succ (by omega)]
      show loopP (fun z => ref7_base_l1 z.1 z.2) (r, ((k + 1 : Nat) : Int)) = _
      rw [base_loop r (k + 1) (by omega)]
      simp only [List.length_cons]
      congr 3
      omega
theorem base_eq {t : Tx} (h : t.length ≤ 900) : ref7_base t = some (t.dropWhile (· == 91), ((t.takeWhile (· == 91)).length : Int)) := by
  unfold ref7_base
  rw [show loopP (fun z => ref7_base_l1 z.1 z.2) (t, 0) = _ from base_loop t 0 (by omega)]
  simp only [Option.bind_some, leave, Nat.zero_add]
  rfl
theorem drop_not {t : Tx} (h : brk t = false) : t.dropWhile (· == 91) = t ∧ t.takeWhile (· == 91) = [] := by
  cases t with
  | nil => exact ⟨rfl, rfl⟩
  | cons x r =>
    have : (x == 91) = false := h
    simp [List.dropWhile_cons, List.takeWhile_cons, this]
theorem drop_brk {t : Tx} (h : brk t = true) : t.dropWhile (· == 91) = (t.drop 1).dropWhile (· == 91) ∧ (t.takeWhile (· == 91)).length = ((t.drop 1).takeWhile (· == 91)).length + 1 := by
  cases t with
  | nil => cases h
  | cons x r =>
    have : (x == 91) = true := h
    simp [List.dropWhile_cons, List.takeWhile_cons, this]
theorem drop_may : ∀ (d : Nat) (t : Tx), t.length ≤ d → mayN t = true → t.dropWhile (· == 91) = ess t
  | d, t, hd, hm => by
    cases hb : brk t with
    | false => rw [(drop_not hb).1, ess_not hb]
    | true =>
      obtain ⟨k1, k2⟩ := may_drop hm hb
      have hlen : (t.drop 1).length = t.length - 1 := by simp
      have hpos : 0 < t.length := by rw [(trim_brk hb).2]; simp
      cases d with
      | zero => omega
      | succ d => rw [(drop_brk hb).1, drop_may d (t.drop 1) (by omega) k1, k2]
theorem base_may {t : Tx} (h : t.length ≤ 900) (hm : mayN t = true) : ∃ k : Nat, ref7_base t = some (ess t, (k : Int)) ∧ (((k : Int) == 0) = !brk t) := by
  refine ⟨_, by rw [base_eq h, drop_may _ t (Nat.le_refl _) hm], ?_⟩
  cases hb : brk t with
  | false => rw [(drop_not hb).2]; rfl
  | true => rw [(drop_brk hb).2]; exact beq_eq_false_iff_ne.2 (by omega)
theorem ref_there_eq (h : Made l L) {t : Tx} (hl : t.length ≤ 900) : ref7_Hier_There_s2 L t = some (thN L t) := by
  have h26 := h.len
  unfold ref7_Hier_There_s2
  rw [ref3_May_eq (by unfold Len; omega)]
  unfold thN
  cases hm : mayN t with
  | false => rfl
  | true =>
    obtain ⟨k, hk, _⟩ := base_may hl hm
    rw [hk]
    simp only [Option.bind_some, Bool.not_true, cond_false]
    rw [at_eq (by omega)]
    simp only [Option.bind_some]
    rw [at_has]
    unfold thereN
    cases (ess t == [73]) <;> rfl
end
end Go.Proofs.YtooagifeniibcaaGreat
namespace Go.Proofs.YtooagifeniibcaaGreat
set_option linter.unusedSimpArgs false
set_option linter.unusedVariables false
noncomputable def subN (L : List ApiClass) : Tx → Tx → Bool
  | [], b => thN L [] && (thN L b && (([] : Tx) == b))
  | x :: r, b => thN L (x :: r) && (thN L b && (((x :: r) == b) || cond (x == 91) (cond (brk b) ((!(r == [73])) && ((!(b.drop 1 == [73])) && subN L r (b.drop 1))) (b == tObj)) ((supL L (x :: r)).any (fun y => b == y) || (facesL L (x :: r)).any (fun y => b == y))))
theorem subN_eq (L : List ApiClass) (a b : Tx) : subN L a b = (thN L a && (thN L b && ((a == b) || cond (brk a) (cond (brk b) ((!(a.drop 1 == [73])) && ((!(b.drop 1 == [73])) && subN L (a.drop 1) (b.drop 1))) (b == tObj)) ((supL L a).any (fun y => b == y) || (facesL L a).any (fun y => b == y))))) := by
  cases a with
  | nil =>
    have : thN L [] = false := by
      unfold thN
      have : mayN [] = false := by
        cases h : mayN [] with
        | false => rfl
        | true =>
          unfold mayN at h
          rw [show trim1 (trim1 []) = [] from rfl] at h
          simp at h
          exact absurd rfl (classN_ne h)
      rw [this]; rfl
    rw [this]
    show (thN L [] && _) = _
    rw [this]; rfl
  | cons x r => rfl
section
variable {l L : List ApiClass} {m : List (Tx × Int)}
theorem contains_eq {l : List Tx} (hl : l.length ≤ 1000) (n : Tx) : slices_Contains_string_string l n = some (l.any fun y => n == y) := hasText' hl n
theorem faces_len (h : Made l L) (n : Tx) : (facesL L n).length ≤ 52 := by
  unfold facesL
  rw [(isortW_perm _).length_eq]
  exact Nat.le_trans (List.length_filter_le _ _) (todo_len h n)
theorem th_may {t : Tx} (h : thN L t = true) : mayN t = true := by
  unfold thN at h; rw [Bool.and_eq_true] at h; exact h.1
theorem elem_th {t : Tx} (h : thN L t = true) : elemN t = cond (brk t) (t.drop 1, true) ([], false) := by
  unfold elemN
  rw [th_may h, Bool.true_and]
theorem sub3F_eq (h : Made l L) (hm : MapOk L m) {v0 : (List ApiClass) × (List (Tx × Int)) × Tx × Tx → Option Bool} {a b : Tx} (ha : Len a) (hb : Len b)
    (hv : brk a = true → brk b = true → v0 (L, m, a.drop 1, b.drop 1) = some (subN L (a.drop 1) (b.drop 1))) : hier_Hier_Sub_s3_F v0 L m a b = some (subN L a b) := by
  have h1 := supL_len h a
  have h2 := faces_len h a
  unfold hier_Hier_Sub_s3_F
  rw [there_eq h hm ha, there_eq h hm hb, subN_eq]
  cases ta : thN L a with
  | false => rfl
  | true =>
    cases tb : thN L b with
    | false => rfl
    | true =>
      simp only [Option.bind_some, Bool.not_true, cond_false, Bool.true_and]
      rw [kind_Elem_eq ha, kind_Elem_eq hb, elem_th ta, elem_th tb]
      simp only [Option.bind_some]
      cases hab : (a == b) with
      | true => rfl
      | false =>
        cases ba : brk a with
        | true =>
          cases bb : brk b with
          | true =>
            simp only [cond_true, cond_false, Bool.and_self, Bool.false_or]
            rw [hv ba bb]
            cases (a.drop 1 == [73]) <;> cases (b.drop 1 == [73]) <;> rfl
          | false => rfl
        | false =>
          simp only [cond_true, cond_false, Bool.false_and, Bool.false_or]
          rw [supers_eq h hm, faces3_eq h hm]
          simp only [Option.bind_some]
          rw [contains_eq (by omega), contains_eq (by omega)]
          simp only [Option.bind_some]
          cases ((supL L a).any fun y => b == y) <;> rfl
theorem sub3_n (h : Made l L) (hm : MapOk L m) : ∀ (d k : Nat) (a b : Tx), a.length ≤ d → d < k → Len a → Len b → recN (fun v0 z => hier_Hier_Sub_s3_F v0 z.1 z.2.1 z.2.2.1 z.2.2.2) k (L, m, a, b) = some (subN L a b)
  | d, 0, a, b, hd, hk, ha, hb => by omega
  | d, k + 1, a, b, hd, hk, ha, hb => by
    show hier_Hier_Sub_s3_F (recN (fun v0 z => hier_Hier_Sub_s3_F v0 z.1 z.2.1 z.2.2.1 z.2.2.2) k) L m a b = _
    refine sub3F_eq h hm ha hb fun b1 b2 => ?_
    have hlen : (a.drop 1).length = a.length - 1 := by simp
    have hlen2 : (b.drop 1).length = b.length - 1 := by simp
    have hpos : 0 < a.length := by rw [(trim_brk b1).2]; simp
    cases d with
    | zero => omega
    | succ d => exact sub3_n h hm d k _ _ (by omega) (by omega) (by unfold Len at *; omega) (by unfold Len at *; omega)
theorem sub3_eq (h : Made l L) (hm : MapOk L m) {a b : Tx} (ha : a.length ≤ 25) (hb : Len b) : hier_Hier_Sub_s3 L m a b = some (subN L a b) := by
  unfold hier_Hier_Sub_s3 recP
  rw [sub3_n h hm 25 30 a b ha (by omega) (by unfold Len; omega) hb]
theorem sub_eq (h : Made l L) (hm : MapOk L m) {a b : Tx} (ha : a.length ≤ 25) (hb : Len b) : hier_Hier_Sub (some (HierHier.mk L m)) a b = some (subN L a b) := by
  have := sub3F_eq h hm (v0 := fun z => hier_Hier_Sub_s3 z.1 z.2.1 z.2.2.1 z.2.2.2) (a := a) (b := b) (by unfold Len; omega) hb (fun b1 b2 => by
    have hlen : (a.drop 1).length = a.length - 1 := by simp
    have hlen2 : (b.drop 1).length = b.length - 1 := by simp
    exact sub3_eq h hm (a := a.drop 1) (b := b.drop 1) (by omega) (by unfold Len at *; omega))
  exact this
theorem any_flip (l : List Tx) (n : Tx) : (l.any fun y => y == n) = l.any fun y => n == y := by
  congr 1
  funext y
  exact beqC2 _ _
theorem any_names {T : List Tx} (h : Made l L) (hT : ∀ x ∈ T, hasN L x = true) {b : Tx} (hb : classN b = false) : (T.any fun y => b == y) = false := by
  rw [List.any_eq_false]
  intro y hy e
  have := name_class h (hT y hy)
  rw [← eq_of_beq e, hb] at this
  cases this
theorem facesL_in (h : Made l L) {n x : Tx} (hx : x ∈ facesL L n) : hasN L x = true := todo_in h (faces_mem.1 hx).1
theorem facesL_none {n : Tx} (hn : hasN L n = false) : facesL L n = [] := by
  unfold facesL todoL
  rw [supL_none hn]; rfl
theorem classN_not_brk {b : Tx} (hb : brk b = true) : classN b = false := by
  cases h : classN b with
  | false => rfl
  | true => rw [classN_brk h] at hb; cases hb
theorem classN_notI : classN [73] = false := by
  cases h : classN [73] with
  | false => rfl
  | true => exact absurd (classN_I h) (by simp)
theorem refsubF_eq (h : Made l L) {v0 : (List ApiClass) × Tx × Tx → Option Bool} {a b : Tx} (ha : a.length ≤ 800) (hb : b.length ≤ 800)
    (hv : brk a = true → brk b = true → v0 (L, a.drop 1, b.drop 1) = some (subN L (a.drop 1) (b.drop 1))) : ref7_Hier_Sub_s3_F v0 L a b = some (subN L a b) := by
  unfold ref7_Hier_Sub_s3_F
  rw [ref_there_eq h (by omega), ref_there_eq h (by omega), subN_eq]
  cases ta : thN L a with
  | false => rfl
  | true =>
    cases tb : thN L b with
    | false => rfl
    | true =>
      simp only [Option.bind_some, Bool.not_true, cond_false, Bool.true_and]
      obtain ⟨k1, e1, f1⟩ := base_may (t := a) (by omega) (th_may ta)
      obtain ⟨k2, e2, f2⟩ := base_may (t := b) (by omega) (th_may tb)
      rw [e1, e2]
      simp only [Option.bind_some]
      cases hab : (a == b) with
      | true => rfl
      | false =>
        rw [f1, f2]
        simp only [cond_false, Bool.false_or]
        cases ba : brk a with
        | true =>
          cases bb : brk b with
          | true =>
            simp only [cond_true, cond_false, Bool.not_true, Bool.and_self, Bool.false_and]
            rw [show (1 : Int) = ((1 : Nat) : Int) from rfl, cutP_from (by rw [(trim_brk ba).2]; simp), cutP_from (by rw [(trim_brk bb).2]; simp)]
            simp only [Option.bind_some]
            rw [hv ba bb]
            cases (a.drop 1 == [73]) <;> cases (b.drop 1 == [73]) <;> rfl
          | false =>
            simp only [cond_true, cond_false, Bool.not_true, Bool.not_false, Bool.false_and]
            rw [ess_not bb]; rfl
        | false =>
          cases bb : brk b with
          | true =>
            simp only [cond_true, cond_false, Bool.not_true, Bool.not_false, Bool.and_false]
            rw [any_names (T := supL L a) h (fun x hx => (sup_mem h _ a x hx).1) (classN_not_brk bb), any_names (T := facesL L a) h (fun x hx => facesL_in h hx) (classN_not_brk bb)]; rfl
          | false =>
            simp only [cond_true, cond_false, Bool.not_false, Bool.and_self]
            rw [ess_not ba, ess_not bb]
            have h1 := supL_len h a
            have h2 := faces_len h a
            cases hI : (a == [73]) with
            | true =>
              have e : a = [73] := by simpa using hI
              have hn : hasN L a = false := by
                cases hh : hasN L a with
                | false => rfl
                | true => have := name_class h hh; rw [e, classN_notI] at this; cases this
              rw [supL_none hn, facesL_none hn]; rfl
            | false =>
              cases hI2 : (b == [73]) with
              | true =>
                have e : b = [73] := by simpa using hI2
                have hc : classN b = false := by rw [e]; exact classN_notI
                rw [any_names (T := supL L a) h (fun x hx => (sup_mem h _ a x hx).1) hc, any_names (T := facesL L a) h (fun x hx => facesL_in h hx) hc]; rfl
              | false =>
                simp only [Bool.not_false, Bool.and_self, cond_true]
                rw [ref_supers_eq h, ref_faces_eq h]
                simp only [Option.bind_some]
                rw [ref_has_eq (by omega), ref_has_eq (by omega), any_flip, any_flip]
                simp only [Option.bind_some]
                cases ((supL L a).any fun y => b == y) <;> rfl
theorem refsub_n (h : Made l L) : ∀ (d k : Nat) (a b : Tx), a.length ≤ d → d < k → a.length ≤ 800 → b.length ≤ 800 → recN (fun v0 z => ref7_Hier_Sub_s3_F v0 z.1 z.2.1 z.2.2) k (L, a, b) = some (subN L a b)
  | d, 0, a, b, hd, hk, ha, hb => by omega
  | d, k + 1, a, b, hd, hk, ha, hb => by
    show ref7_Hier_Sub_s3_F (recN (fun v0 z => ref7_Hier_Sub_s3_F v0 z.1 z.2.1 z.2.2) k) L a b = _
    refine refsubF_eq h ha hb fun b1 b2 => ?_
    have hlen : (a.drop 1).length = a.length - 1 := by simp
    have hlen2 : (b.drop 1).length = b.length - 1 := by simp
    have hpos : 0 < a.length := by rw [(trim_brk b1).2]; simp
    cases d with
    | zero => omega
    | succ d => exact refsub_n h d k _ _ (by omega) (by omega) (by omega) (by omega)
theorem refsub3_eq (h : Made l L) {a b : Tx} (ha : a.length ≤ 25) (hb : b.length ≤ 800) : ref7_Hier_Sub_s3 L a b = some (subN L a b) := by
  unfold ref7_Hier_Sub_s3 recP
  rw [refsub_n h 25 30 a b ha (by omega) (by omega) hb]
theorem refsub_eq (h : Made l L) {a b : Tx} (ha : a.length ≤ 25) (hb : b.length ≤ 800) : ref7_Hier_Sub (some (Ref7Hier.mk L)) a b = some (subN L a b) := by
  have := refsubF_eq h (v0 := fun z => ref7_Hier_Sub_s3 z.1 z.2.1 z.2.2) (a := a) (b := b) (by omega) hb (fun b1 b2 => by
    have hlen : (a.drop 1).length = a.length - 1 := by simp
    have hlen2 : (b.drop 1).length = b.length - 1 := by simp
    exact refsub3_eq h (a := a.drop 1) (b := b.drop 1) (by omega) (by omega))
  exact this
end
end Go.Proofs.YtooagifeniibcaaGreat
namespace Go.Proofs.YtooagifeniibcaaGreat
set_option linter.unusedSimpArgs false
set_option linter.unusedVariables false
abbrev I64 (n : Int) : Prop := -9223372036854775808 ≤ n ∧ n ≤ 9223372036854775807
abbrev FS (s : List UInt8) : Prop := s.length ≤ 10000
structure FL {α : Type} (Q : α → Prop) (l : List α) : Prop where
  len : l.length ≤ 10000
  all : ∀ x ∈ l, Q x
structure FField (f : ApiField) : Prop where
  name : FS f.Name
  type : FS f.Type_
structure FIns (x : ApiIns) : Prop where
  op : I64 x.Op
  a : I64 x.A
  c : FS x.C
  m : FS x.M
structure FMap (x : ApiMap) : Prop where
  pl : I64 x.At
  locals : FL FS x.Locals
  stack : FL FS x.Stack
structure FTrap (x : ApiTrap) : Prop where
  lo : I64 x.From
  hi : I64 x.To
  pl : I64 x.At
  c : FS x.C
structure FMeth (m : ApiMethod) : Prop where
  name : FS m.Name
  params : FL FS m.Params
  ret : FS m.Ret
  locals : I64 m.Locals
  stack : I64 m.Stack
  code : FL FIns m.Code
  maps : FL FMap m.Maps
  traps : FL FTrap m.Traps
structure FClass (c : ApiClass) : Prop where
  name : FS c.Name
  super : FS c.Super
  impl : FL FS c.Impl
  fields : FL FField c.Fields
  methods : FL FMeth c.Methods
theorem FL.le {α : Type} {Q : α → Prop} {l : List α} (h : FL Q l) : LenL l := by have := h.len; unfold LenL; omega
theorem FS.le {s : List UInt8} (h : FS s) : Len s := by unfold FS at h; unfold Len; omega
theorem FClass.cg {c : ApiClass} (h : FClass c) : CGIn c where
  name := h.name.le
  super := h.super.le
  impl := ⟨h.impl.le, fun s hs => (h.impl.all s hs).le⟩
  fields := ⟨h.fields.le, fun f hf => ⟨(h.fields.all f hf).name.le, (h.fields.all f hf).type.le⟩⟩
  methods := ⟨h.methods.le, fun m hm => by
    have g := h.methods.all m hm
    have g1 := g.params.len
    have g2 := g.code.len
    have g3 := g.maps.len
    have g4 := g.traps.len
    exact ⟨g.name.le, ⟨by omega, fun s hs => (g.params.all s hs).le⟩, g.ret.le,
      ⟨g.maps.le, g.code.le, fun x hx => ⟨⟨(g.maps.all x hx).locals.le, fun s hs => ((g.maps.all x hx).locals.all s hs).le⟩, (g.maps.all x hx).stack.le, fun s hs => ((g.maps.all x hx).stack.all s hs).le⟩⟩,
      ⟨⟨g.code.le, fun x hx => ⟨(g.code.all x hx).c.le, (g.code.all x hx).m.le⟩⟩, ⟨g.traps.le, fun x hx => (g.traps.all x hx).c.le⟩⟩, ⟨by omega, by omega, by omega⟩⟩⟩
theorem law1_Cut_eq {s : List UInt8} {n : Nat} : law1_Cut s (n : Int) = some (s.take n) := by
  unfold law1_Cut
  by_cases h : n < s.length
  · rw [decide_eq_true (show (n : Int) < (s.length : Int) by omega), cutP_to (by omega)]; rfl
  · rw [decide_eq_false (show ¬ (n : Int) < (s.length : Int) by omega), List.take_of_length_le (by omega)]; rfl
theorem take_loop {α β R : Type} {body : List β × Int → Option (Sum (List β × Int) (Sum (List β) R))} {l : List α} {n : Nat} {f : α → β} (hn : n ≤ 1000)
    (hb : ∀ acc (i : Nat) x, l[i]? = some x → i < n → acc.length = i → body (acc, (i : Int)) = some (.inl (acc ++ [f x], IntKind.i64.wrap ((i : Int) + 1))))
    (he : ∀ acc (i : Nat), (decide ((i : Int) < (l.length : Int)) && decide ((i : Int) < (n : Int))) = false → body (acc, (i : Int)) = some (.inr (.inl acc))) : loopP body ([], 0) = some (.inl ((l.take n).map f)) := by
  have key : ∀ d i, (l.take n).length - i = d → i ≤ (l.take n).length → loopP body (((l.take n).take i).map f, (i : Int)) = some (.inl ((l.take n).map f)) := by
    intro d
    induction d with
    | zero =>
      intro i hd hi
      have e : i = (l.take n).length := by omega
      rw [loopP_eq, he _ i (by
        rw [List.length_take] at e
        rw [Bool.and_eq_false_iff]
        rcases Nat.le_total n l.length with h | h
        · exact .inr (decide_eq_false (by omega))
        · exact .inl (decide_eq_false (by omega))), e, List.take_length]
      rfl
    | succ d ih =>
      intro i hd hi
      have hlt : i < (l.take n).length := by omega
      have h2 : i < n ∧ i < l.length := by rw [List.length_take] at hlt; omega
      have hx : l[i]? = some l[i] := List.getElem?_eq_getElem h2.2
      rw [loopP_eq, hb _ i l[i] hx h2.1 (by rw [List.length_map, List.length_take]; omega), wrap_succ (by omega)]
      have := ih (i + 1) (by omega) (by omega)
      rw [List.take_add_one, List.getElem?_take_of_lt h2.1, hx] at this
      simp only [Option.toList_some, List.map_append, List.map_cons, List.map_nil] at this
      exact this
  exact key _ 0 rfl (Nat.zero_le _)
theorem more {α : Type} {l : List α} {n i : Nat} {x : α} (h : l[i]? = some x) (hi : i < n) : (decide ((i : Int) < (l.length : Int)) && decide ((i : Int) < (n : Int))) = true := by
  rw [here h, decide_eq_true (by omega)]; rfl
def cutF (f : ApiField) : ApiField := ApiField.mk (f.Name.take 10) (f.Type_.take 12) f.Static
def cutI (x : ApiIns) : ApiIns := ApiIns.mk x.Op x.A (x.C.take 14) (x.M.take 12)
def cutS (n : Nat) (l : List (List UInt8)) : List (List UInt8) := (l.take n).map (·.take 12)
def cutMap (x : ApiMap) : ApiMap := ApiMap.mk x.At (cutS 20 x.Locals) (cutS 20 x.Stack)
def cutT (x : ApiTrap) : ApiTrap := ApiTrap.mk x.From x.To x.At (x.C.take 10)
def cutM (m : ApiMethod) : ApiMethod := ApiMethod.mk (m.Name.take 10) (cutS 8 m.Params) (m.Ret.take 12) m.Static m.Abstract m.Locals m.Stack ((m.Code.take 104).map cutI) ((m.Maps.take 104).map cutMap) ((m.Traps.take 8).map cutT)
def cutC (c : ApiClass) : ApiClass := ApiClass.mk (c.Name.take 10) (c.Super.take 10) c.Interface (cutS 6 c.Impl) ((c.Fields.take 10).map cutF) ((c.Methods.take 10).map cutM)
theorem law5_texts_eq {l : List (List UInt8)} {n : Nat} (hn : n ≤ 100) : law5_texts l (n : Int) = some (cutS n l) := by
  unfold law5_texts
  rw [show loopP (fun z => law5_texts_l1 l (n : Int) z.1 z.2) ([], 0) = some (.inl (cutS n l)) from take_loop (by omega) (fun acc i x hx hi ha => by
    show law5_texts_l1 l (n : Int) acc (i : Int) = _
    unfold law5_texts_l1
    rw [more hx hi, idx_nat, hx]
    simp only [Option.bind_some, cond_true]
    rw [show law1_Cut x 12 = _ from law1_Cut_eq (n := 12), Option.bind_some, appP_ok (by simp; omega) (by simp; omega)]; rfl) (fun acc i h => by
    show law5_texts_l1 l (n : Int) acc (i : Int) = _
    unfold law5_texts_l1
    rw [h]; rfl)]
  rfl
theorem law4_Cut_eq (x : ApiIns) : law4_Cut x = some (cutI x) := by
  unfold law4_Cut
  rw [show law1_Cut x.C 14 = _ from law1_Cut_eq (n := 14), show law1_Cut x.M 12 = _ from law1_Cut_eq (n := 12)]; rfl
theorem law5_method_eq (m : ApiMethod) : law5_method m = some (cutM m) := by
  unfold law5_method
  rw [show law1_Cut m.Name 10 = _ from law1_Cut_eq (n := 10), show law1_Cut m.Ret 12 = _ from law1_Cut_eq (n := 12), show law5_texts m.Params 8 = _ from law5_texts_eq (n := 8) (by decide)]
  simp only [Option.bind_some]
  rw [show loopP (fun z => law5_method_l1 m z.1 z.2) ([], 0) = some (.inl ((m.Code.take 104).map cutI)) from take_loop (by decide) (fun acc i x hx hi ha => by
    show law5_method_l1 m acc (i : Int) = _
    unfold law5_method_l1
    rw [show (decide ((i : Int) < (m.Code.length : Int)) && decide ((i : Int) < 104)) = true from more hx hi, idx_nat, hx]
    simp only [Option.bind_some, cond_true]
    rw [law4_Cut_eq, Option.bind_some, appP_ok (by simp; omega) (by simp; omega)]; rfl) (fun acc i h => by
    show law5_method_l1 m acc (i : Int) = _
    unfold law5_method_l1
    rw [show (decide ((i : Int) < (m.Code.length : Int)) && decide ((i : Int) < 104)) = false from h]; rfl)]
  simp only [Option.bind_some]
  show law5_method_k2 m _ _ _ _ = _
  unfold law5_method_k2
  rw [show loopP (fun z => law5_method_l3 m z.1 z.2) ([], 0) = some (.inl ((m.Maps.take 104).map cutMap)) from take_loop (by decide) (fun acc i x hx hi ha => by
    show law5_method_l3 m acc (i : Int) = _
    unfold law5_method_l3
    rw [show (decide ((i : Int) < (m.Maps.length : Int)) && decide ((i : Int) < 104)) = true from more hx hi, idx_nat, hx]
    simp only [Option.bind_some, cond_true]
    rw [show law5_texts x.Locals 20 = _ from law5_texts_eq (n := 20) (by decide), show law5_texts x.Stack 20 = _ from law5_texts_eq (n := 20) (by decide)]
    simp only [Option.bind_some]
    rw [appP_ok (by simp; omega) (by simp; omega)]; rfl) (fun acc i h => by
    show law5_method_l3 m acc (i : Int) = _
    unfold law5_method_l3
    rw [show (decide ((i : Int) < (m.Maps.length : Int)) && decide ((i : Int) < 104)) = false from h]; rfl)]
  simp only [Option.bind_some]
  show law5_method_k4 m _ _ _ _ _ = _
  unfold law5_method_k4
  rw [show loopP (fun z => law5_method_l5 m z.1 z.2) ([], 0) = some (.inl ((m.Traps.take 8).map cutT)) from take_loop (by decide) (fun acc i x hx hi ha => by
    show law5_method_l5 m acc (i : Int) = _
    unfold law5_method_l5
    rw [show (decide ((i : Int) < (m.Traps.length : Int)) && decide ((i : Int) < 8)) = true from more hx hi, idx_nat, hx]
    simp only [Option.bind_some, cond_true]
    rw [show law1_Cut x.C 10 = _ from law1_Cut_eq (n := 10), Option.bind_some, appP_ok (by simp; omega) (by simp; omega)]; rfl) (fun acc i h => by
    show law5_method_l5 m acc (i : Int) = _
    unfold law5_method_l5
    rw [show (decide ((i : Int) < (m.Traps.length : Int)) && decide ((i : Int) < 8)) = false from h]; rfl)]
  rfl
theorem law5_Cut_eq (c : ApiClass) : law5_Cut c = some ((cutC c).Name, (cutC c).Super, (cutC c).Impl, (cutC c).Fields, (cutC c).Methods) := by
  unfold law5_Cut
  rw [show law1_Cut c.Name 10 = _ from law1_Cut_eq (n := 10), show law1_Cut c.Super 10 = _ from law1_Cut_eq (n := 10), show law5_texts c.Impl 6 = _ from law5_texts_eq (n := 6) (by decide)]
  simp only [Option.bind_some]
  rw [show loopP (fun z => law5_Cut_l1 c z.1 z.2) ([], 0) = some (.inl ((c.Fields.take 10).map cutF)) from take_loop (by decide) (fun acc i x hx hi ha => by
    show law5_Cut_l1 c acc (i : Int) = _
    unfold law5_Cut_l1
    rw [show (decide ((i : Int) < (c.Fields.length : Int)) && decide ((i : Int) < 10)) = true from more hx hi, idx_nat, hx]
    simp only [Option.bind_some, cond_true]
    rw [show law1_Cut x.Name 10 = _ from law1_Cut_eq (n := 10), show law1_Cut x.Type_ 12 = _ from law1_Cut_eq (n := 12)]
    simp only [Option.bind_some]
    rw [appP_ok (by simp; omega) (by simp; omega)]; rfl) (fun acc i h => by
    show law5_Cut_l1 c acc (i : Int) = _
    unfold law5_Cut_l1
    rw [show (decide ((i : Int) < (c.Fields.length : Int)) && decide ((i : Int) < 10)) = false from h]; rfl)]
  simp only [Option.bind_some]
  show law5_Cut_k2 c _ _ _ _ = _
  unfold law5_Cut_k2
  rw [show loopP (fun z => law5_Cut_l3 c z.1 z.2) ([], 0) = some (.inl ((c.Methods.take 10).map cutM)) from take_loop (by decide) (fun acc i x hx hi ha => by
    show law5_Cut_l3 c acc (i : Int) = _
    unfold law5_Cut_l3
    rw [show (decide ((i : Int) < (c.Methods.length : Int)) && decide ((i : Int) < 10)) = true from more hx hi, idx_nat, hx]
    simp only [Option.bind_some, cond_true]
    rw [law5_method_eq, Option.bind_some, appP_ok (by simp; omega) (by simp; omega)]; rfl) (fun acc i h => by
    show law5_Cut_l3 c acc (i : Int) = _
    unfold law5_Cut_l3
    rw [show (decide ((i : Int) < (c.Methods.length : Int)) && decide ((i : Int) < 10)) = false from h]; rfl)]
  rfl
theorem i64_w {n : Int} (h : wI .i64 n) : I64 n := by
  have h : (Lit.int .i64 n).wf = true := h
  unfold Lit.wf at h
  simp [IntKind.min, IntKind.max, IntKind.bits, IntKind.signed] at h
  exact ⟨by omega, by omega⟩
theorem FS.take (s : List UInt8) {n : Nat} (hn : n ≤ 100) : FS (s.take n) := by unfold FS; rw [List.length_take]; omega
theorem cutS_in {l : List (List UInt8)} {n : Nat} (hn : n ≤ 100) : FL FS (cutS n l) := by
  refine ⟨by unfold cutS; rw [List.length_map, List.length_take]; omega, fun x hx => ?_⟩
  obtain ⟨y, _, rfl⟩ := List.mem_map.1 hx
  exact FS.take y (by decide)
theorem cutL_in {α : Type} {Q : α → Prop} {l : List α} {f : α → α} {n : Nat} (hn : n ≤ 200) (h : ∀ x ∈ l, Q (f x)) : FL Q ((l.take n).map f) := by
  refine ⟨by rw [List.length_map, List.length_take]; omega, fun x hx => ?_⟩
  obtain ⟨y, hy, rfl⟩ := List.mem_map.1 hx
  exact h y (List.mem_of_mem_take hy)
theorem cutM_in {m : ApiMethod} (h : wApiMethod m) : FMeth (cutM m) := by
  obtain ⟨_, _, _, _, _, h1, h2, h3, h4, h5⟩ := h
  exact ⟨FS.take _ (by decide), cutS_in (by decide), FS.take _ (by decide), i64_w h1, i64_w h2,
    cutL_in (by decide) fun x hx => ⟨i64_w (h3.2 x hx).1, i64_w (h3.2 x hx).2.1, FS.take _ (by decide), FS.take _ (by decide)⟩,
    cutL_in (by decide) fun x hx => ⟨i64_w (h4.2 x hx).1, cutS_in (by decide), cutS_in (by decide)⟩,
    cutL_in (by decide) fun x hx => ⟨i64_w (h5.2 x hx).1, i64_w (h5.2 x hx).2.1, i64_w (h5.2 x hx).2.2.1, FS.take _ (by decide)⟩⟩
theorem cutC_in {c : ApiClass} (h : wApiClass c) : FClass (cutC c) := by
  obtain ⟨_, _, _, _, _, h1⟩ := h
  exact ⟨FS.take _ (by decide), FS.take _ (by decide), cutS_in (by decide), cutL_in (by decide) fun x hx => ⟨FS.take _ (by decide), FS.take _ (by decide)⟩, cutL_in (by decide) fun x hx => cutM_in (h1.2 x hx)⟩
def allC (l : List ApiClass) : List ApiClass := (l.take 18).map cutC
theorem law5_All_eq (l : List ApiClass) : law5_All l = some (allC l) := by
  unfold law5_All
  rw [show loopP (fun z => law5_All_l1 l z.1 z.2) ([], 0) = some (.inl (allC l)) from take_loop (by decide) (fun acc i x hx hi ha => by
    show law5_All_l1 l acc (i : Int) = _
    unfold law5_All_l1
    rw [show (decide ((i : Int) < (l.length : Int)) && decide ((i : Int) < 18)) = true from more hx hi, idx_nat, hx]
    simp only [Option.bind_some, cond_true]
    rw [law5_Cut_eq, Option.bind_some, appP_ok (by simp; omega) (by simp; omega)]; rfl) (fun acc i h => by
    show law5_All_l1 l acc (i : Int) = _
    unfold law5_All_l1
    rw [show (decide ((i : Int) < (l.length : Int)) && decide ((i : Int) < 18)) = false from h]; rfl)]
  rfl
structure Short (c : ApiClass) : Prop where
  fc : FClass c
  name : c.Name.length ≤ 10
  super : c.Super.length ≤ 10
  impl : ∀ s ∈ c.Impl, s.length ≤ 12
theorem cutC_short {c : ApiClass} (h : wApiClass c) : Short (cutC c) := by
  refine ⟨cutC_in h, ?_, ?_, fun s hs => ?_⟩
  · show (c.Name.take 10).length ≤ 10; rw [List.length_take]; omega
  · show (c.Super.take 10).length ≤ 10; rw [List.length_take]; omega
  · obtain ⟨y, _, rfl⟩ := List.mem_map.1 (show s ∈ (c.Impl.take 6).map (·.take 12) from hs)
    rw [List.length_take]; omega
theorem allC_short {l : List ApiClass} (h : ∀ c ∈ l, wApiClass c) : ∀ c ∈ allC l, Short c := fun c hc => by
  obtain ⟨d, hd, rfl⟩ := List.mem_map.1 hc
  exact cutC_short (h d (List.mem_of_mem_take hd))
theorem allC_cg {l : List ApiClass} (h : ∀ c ∈ l, wApiClass c) : ∀ c ∈ allC l, CGIn c := fun c hc => (allC_short h c hc).fc.cg
end Go.Proofs.YtooagifeniibcaaGreat
namespace Go.Proofs.YtooagifeniibcaaGreat
set_option linter.unusedSimpArgs false
set_option linter.unusedVariables false
theorem all_loop {α R : Type} {body : Int → Option (Sum Int (Sum Unit R))} {l : List α}
    (hb : ∀ (i : Nat) x, l[i]? = some x → body (i : Int) = some (.inl ((i + 1 : Nat) : Int)))
    (he : body (l.length : Int) = some (.inr (.inl ()))) : loopP body 0 = some (.inl ()) := by
  have := loop_list (body := body) (l := l) (g := fun _ => none) (u := ()) (fun i x hx => hb i x hx) he
  rw [this]
  have : l.findSome? (fun _ => (none : Option R)) = none := by
    induction l with
    | nil => rfl
    | cons x l ih => simp
  rw [this]; rfl
def ty3 (n : Tx) : List Tx := [n, 91 :: n, 91 :: 91 :: n]
def tysN (L : List ApiClass) (x : Tx) : List Tx := [[73], [86], [], [78], [91, 73], [91, 91, 73], x] ++ (L.map (·.Name)).flatMap ty3
section
variable {l L : List ApiClass} {m : List (Tx × Int)}
theorem types_loop (hL : L.length ≤ 30) (hN : ∀ c ∈ L, c.Name.length ≤ 100) : ∀ (r pre : List ApiClass) (acc : List Tx), L = pre ++ r → acc.length = 7 + 3 * pre.length →
    loopP (fun z => law7_types_l3 (Ref7Hier.mk L) z.1 z.2) (acc, (pre.length : Int)) = some (.inl (acc ++ (r.map (·.Name)).flatMap ty3))
  | [], pre, acc, e, ha => by
    rw [List.append_nil] at e
    rw [loopP_eq]
    show (law7_types_l3 (Ref7Hier.mk L) acc (pre.length : Int)).bind _ = _
    unfold law7_types_l3
    rw [← e, past]
    simp
  | c :: r, pre, acc, e, ha => by
    have hlen : L.length = pre.length + (r.length + 1) := by rw [e]; simp
    have hx : L[pre.length]? = some c := by rw [e]; simp
    have hn := hN c (List.mem_of_getElem? hx)
    have ih := types_loop hL hN r (pre ++ [c]) (acc ++ ty3 c.Name) (by rw [e]; simp) (by simp [ty3]; omega)
    rw [show (pre ++ [c]).length = pre.length + 1 by simp] at ih
    rw [loopP_eq]
    show (law7_types_l3 (Ref7Hier.mk L) acc (pre.length : Int)).bind _ = _
    unfold law7_types_l3
    rw [show decide ((pre.length : Int) < ((Ref7Hier.mk L).L.length : Int)) = true from here hx, show idx (Ref7Hier.mk L).L (pre.length : Int) = some c from by rw [idx_nat]; exact hx]
    simp only [cond_true, Option.bind_some]
    rw [catP_ok (by simp; omega), catP_ok (by simp; omega)]
    simp only [Option.bind_some]
    rw [appP_ok (by simp; omega) (by simp; omega), wrap_succ (by omega)]
    show loopP (fun z => law7_types_l3 (Ref7Hier.mk L) z.1 z.2) (acc ++ ty3 c.Name, ((pre.length + 1 : Nat) : Int)) = _
    rw [ih]
    simp
theorem types_eq (hL : L.length ≤ 30) (hN : ∀ c ∈ L, c.Name.length ≤ 100) (x : Tx) : law7_types (some (Ref7Hier.mk L)) x = some (tysN L x) := by
  show ((loopP (fun z => law7_types_l3 (Ref7Hier.mk L) z.1 z.2) ([[73], [86], [], [78], [91, 73], [91, 91, 73], x], 0)).bind fun o => leave o (fun b => law7_types_k4 b) some) = _
  rw [show loopP (fun z => law7_types_l3 (Ref7Hier.mk L) z.1 z.2) ([[73], [86], [], [78], [91, 73], [91, 91, 73], x], 0) = _ from types_loop hL hN L [] [[73], [86], [], [78], [91, 73], [91, 91, 73], x] rfl rfl]
  rfl
theorem flat_len (l : List Tx) : (l.flatMap ty3).length = 3 * l.length := by
  induction l with
  | nil => rfl
  | cons x l ih => rw [List.flatMap_cons, List.length_append, ih]; simp [ty3]; omega
theorem tys_len (x : Tx) : (tysN L x).length = 7 + 3 * L.length := by
  unfold tysN
  rw [List.length_append, flat_len, List.length_map]; rfl
theorem tys_short {x : Tx} (hx : x.length ≤ 20) (hN : ∀ c ∈ L, c.Name.length ≤ 18) : ∀ t ∈ tysN L x, t.length ≤ 20 := by
  intro t ht
  unfold tysN at ht
  rcases List.mem_append.1 ht with h | h
  · simp only [List.mem_cons, List.not_mem_nil, or_false] at h
    rcases h with h | h | h | h | h | h | h <;> rw [h] <;> first | exact hx | simp
  · rw [List.mem_flatMap] at h
    obtain ⟨n, hn, h⟩ := h
    obtain ⟨c, hc, rfl⟩ := List.mem_map.1 hn
    have := hN c hc
    simp only [ty3, List.mem_cons, List.not_mem_nil, or_false] at h
    rcases h with h | h | h <;> rw [h] <;> simp <;> omega
theorem made_names (h : Made l L) (hs : ∀ c ∈ l, c.Name.length ≤ 10) : ∀ c ∈ L, c.Name.length ≤ 10 := by
  intro c hc
  rw [h.app] at hc
  rcases List.mem_append.1 hc with e | e
  · have hg : giv.all (fun c => decide (c.Name.length ≤ 10)) = true := by decide +kernel
    exact of_decide_eq_true (List.all_eq_true.1 hg c e)
  · exact hs c e
theorem hs_l3 (h : Made l L) (hm : MapOk L m) {ts : List Tx} (hts : ∀ t ∈ ts, t.length ≤ 20) (hl : ts.length ≤ 1000) {e1 e2 : Int} {i : Nat} {a : Tx} (ha : ts[i]? = some a) :
    loopP (fun z => law7_HierSub_l3 (some (HierHier.mk L m), e1) (some (Ref7Hier.mk L), e2) ts (i : Int) z) 0 = some (.inl ()) := by
  have ha2 := hts a (List.mem_of_getElem? ha)
  refine all_loop (l := ts) (fun j b hb => ?_) ?_
  · show law7_HierSub_l3 _ _ ts (i : Int) (j : Int) = _
    have hb2 := hts b (List.mem_of_getElem? hb)
    have hj := (List.getElem?_eq_some_iff.1 hb).1
    unfold law7_HierSub_l3
    rw [here hb, idx_nat, idx_nat, ha, hb]
    simp only [cond_true, Option.bind_some]
    rw [sub_eq h hm (by omega) (by unfold Len; omega), refsub_eq h (by omega) (by omega), wrap_succ (by omega)]
    simp
  · show law7_HierSub_l3 _ _ ts (i : Int) (ts.length : Int) = _
    unfold law7_HierSub_l3
    rw [past]; rfl
end
theorem law7_HierSub_eq {l : List ApiClass} (hl : ∀ c ∈ l, wApiClass c) (x : Tx) : law7_HierSub l x = some true := by
  have hs := allC_short hl
  obtain ⟨m, hm, hN⟩ := hier_New_eq (allC_cg hl)
  unfold law7_HierSub
  rw [law5_All_eq]
  simp only [Bool.not_true, cond_false, Option.bind_some]
  rw [hN, ref7_New_eq (allC_cg hl)]
  simp only [Option.bind_some]
  rw [beq_self_eq_true]
  cases hE : (newE (allC l)).1 with
  | none => rfl
  | some L =>
    obtain ⟨hM, hz⟩ := newE_made hE
    have hnm := made_names hM (fun c hc => (hs c hc).name)
    have h26 := hM.len
    simp only [Option.map_some, Option.isNone_some, Bool.not_true, Bool.or_self, cond_false]
    rw [show law1_Cut x 12 = _ from law1_Cut_eq (n := 12)]
    simp only [Option.bind_some]
    rw [types_eq (by omega) (fun c hc => by have := hnm c hc; omega)]
    simp only [Option.bind_some]
    have hts := tys_short (L := L) (x := x.take 12) (by rw [List.length_take]; omega) (fun c hc => by have := hnm c hc; omega)
    have htl : (tysN L (x.take 12)).length ≤ 1000 := by rw [tys_len]; omega
    rw [show loopP (fun z => law7_HierSub_l5 (some (HierHier.mk L m), (newE (allC l)).2) (some (Ref7Hier.mk L), (newE (allC l)).2) (tysN L (x.take 12)) z) 0 = some (.inl ()) from all_loop (l := tysN L (x.take 12)) (fun i a ha => by
      have hi := (List.getElem?_eq_some_iff.1 ha).1
      show law7_HierSub_l5 _ _ _ (i : Int) = _
      unfold law7_HierSub_l5
      rw [here ha, hs_l3 hM (hm L hE) hts htl ha]
      show some (Sum.inl (IntKind.i64.wrap ((i : Int) + 1))) = _
      rw [wrap_succ (by omega)]) (by
      show law7_HierSub_l5 _ _ (tysN L (x.take 12)) ((tysN L (x.take 12)).length : Int) = _
      unfold law7_HierSub_l5
      rw [past]; rfl)]
    rfl
theorem hierSub_pure (l : List ApiClass) (x : List UInt8) (h : wL wApiClass l) (_ : wS x) : PureC Tryz.prog 3 [.isl 6 (List.map rApiClass l), .lit (.string (B x))] (.lit (.bool true)) := law7_HierSub_ok l x (law7_HierSub_eq h.2 x)
end Go.Proofs.YtooagifeniibcaaGreat
