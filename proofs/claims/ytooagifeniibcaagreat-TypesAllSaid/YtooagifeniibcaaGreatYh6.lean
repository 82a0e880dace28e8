/- TypesAll: for every input the law returns true, and each argument reads as it read before. No further condition. Part 6 of 7. -/
import Derived.Test.YtooagifeniibcaaGreatYh5
namespace Go.Proofs.YtooagifeniibcaaGreat
set_option linter.unusedSimpArgs false
set_option linter.unusedVariables false
def onB (inn : List Bool) (n : Nat) : Bool := inn.getD n false
def newB (L : List ApiClass) (inn : List Bool) (s : Tx) : Bool := hasN L s && !onB inn (atN L s).toNat
def mk1 (L : List ApiClass) (inn : List Bool) (s : Tx) : List Bool := cond (newB L inn s) (inn.set (atN L s).toNat true) inn
def mkS (L : List ApiClass) : List Bool → List Tx → List Bool
  | inn, [] => inn
  | inn, s :: r => mkS L (mk1 L inn s) r
theorem at_lt {L : List ApiClass} {s : Tx} (h : hasN L s = true) : 0 ≤ atN L s ∧ (atN L s).toNat < L.length := by
  unfold hasN at h
  unfold atN
  rcases ixF_get (fun c : ApiClass => c.Name == s) L 0 with ⟨j, x, h1, h2, h3, h4⟩ | ⟨h1, h2⟩
  · have := (List.getElem?_eq_some_iff.1 h2).1
    rw [h1]
    omega
  · rw [List.any_eq_true] at h
    obtain ⟨c, k1, k2⟩ := h
    have := List.find?_eq_none.1 h2 c k1
    exact absurd k2 this
theorem mk1_len (L : List ApiClass) (inn : List Bool) (s : Tx) : (mk1 L inn s).length = inn.length := by
  unfold mk1
  cases newB L inn s <;> simp
theorem mkS_len (L : List ApiClass) : ∀ (l : List Tx) (inn : List Bool), (mkS L inn l).length = inn.length
  | [], inn => rfl
  | s :: r, inn => by unfold mkS; rw [mkS_len L r, mk1_len]
theorem on_set {inn : List Bool} {n k : Nat} (h : n < inn.length) : onB (inn.set n true) k = (onB inn k || Nat.beq k n) := by
  unfold onB
  rw [List.getD_eq_getElem?_getD, List.getD_eq_getElem?_getD, List.getElem?_set]
  by_cases e : n = k
  · subst e
    simp [h]
  · rw [if_neg e]
    have : Nat.beq k n = false := by
      cases hb : Nat.beq k n with
      | false => rfl
      | true => exact absurd (Nat.eq_of_beq_eq_true hb).symm e
    rw [this, Bool.or_false]
theorem mk1_on {L : List ApiClass} {inn : List Bool} (hl : inn.length = L.length) (s : Tx) (k : Nat) : onB (mk1 L inn s) k = (onB inn k || (hasN L s && Nat.beq k (atN L s).toNat)) := by
  unfold mk1 newB
  cases h : hasN L s with
  | false => simp
  | true =>
    cases h2 : onB inn (atN L s).toNat with
    | false =>
      simp only [Bool.not_false, Bool.and_self, cond_true, Bool.true_and]
      exact on_set (by rw [hl]; exact (at_lt h).2)
    | true =>
      simp only [Bool.not_true, Bool.and_false, cond_false, Bool.true_and]
      cases h3 : Nat.beq k (atN L s).toNat with
      | false => simp
      | true => rw [Nat.eq_of_beq_eq_true h3, h2]; rfl
theorem mkS_on {L : List ApiClass} : ∀ (l : List Tx) (inn : List Bool), inn.length = L.length → ∀ k, onB (mkS L inn l) k = (onB inn k || l.any (fun s => hasN L s && Nat.beq k (atN L s).toNat))
  | [], inn, hl, k => by simp [mkS]
  | s :: r, inn, hl, k => by
    unfold mkS
    rw [mkS_on r _ (by rw [mk1_len]; exact hl), mk1_on hl, List.any_cons, Bool.or_assoc]
theorem mkS_still {L : List ApiClass} : ∀ (l : List Tx) (inn : List Bool), l.any (newB L inn) = false → mkS L inn l = inn
  | [], inn, _ => rfl
  | s :: r, inn, h => by
    rw [List.any_cons, Bool.or_eq_false_iff] at h
    unfold mkS
    have : mk1 L inn s = inn := by unfold mk1; rw [h.1]; rfl
    rw [this, mkS_still r inn h.2]
theorem marks_loop {R : Type} {L : List ApiClass} {l : List Tx} {body : List Bool × Bool × Int → Option (Sum (List Bool × Bool × Int) (Sum (List Bool × Bool) R))} (hl : l.length ≤ 1000)
    (hb : ∀ (j : Nat) s inn more, inn.length = L.length → l[j]? = some s → body (inn, more, (j : Int)) = some (.inl (mk1 L inn s, more || newB L inn s, IntKind.i64.wrap ((j : Int) + 1))))
    (he : ∀ inn more, body (inn, more, (l.length : Int)) = some (.inr (.inl (inn, more)))) :
    ∀ (r pre : List Tx) (inn : List Bool) (more : Bool), l = pre ++ r → inn.length = L.length → loopP body (inn, more, (pre.length : Int)) = some (.inl (mkS L inn r, more || r.any (newB L inn)))
  | [], pre, inn, more, e, hi => by
    rw [List.append_nil] at e
    subst e
    rw [loopP_eq, he]
    show some _ = some _
    simp [mkS]
  | s :: r, pre, inn, more, e, hi => by
    have hlen : l.length = pre.length + (r.length + 1) := by rw [e]; simp
    have hx : l[pre.length]? = some s := by rw [e]; simp
    rw [loopP_eq, hb _ s inn more hi hx, wrap_succ (by omega)]
    have ih := fun i m h => marks_loop hl hb he r (pre ++ [s]) i m (by rw [e]; simp) h
    rw [show (pre ++ [s]).length = pre.length + 1 by simp] at ih
    show loopP body (mk1 L inn s, more || newB L inn s, ((pre.length + 1 : Nat) : Int)) = _
    rw [ih _ _ (by rw [mk1_len]; exact hi), List.any_cons, show mkS L inn (s :: r) = mkS L (mk1 L inn s) r from rfl]
    cases h : newB L inn s with
    | true => simp
    | false =>
      have : mk1 L inn s = inn := by unfold mk1; rw [h]; rfl
      rw [this]; simp
def passF (L : List ApiClass) (nx : ApiClass → List Tx) (act : Nat → Bool) : List Bool → Nat → List ApiClass → List Bool
  | inn, _, [] => inn
  | inn, k, c :: r => passF L nx act (cond (onB inn k || act k) (mkS L inn (nx c)) inn) (k + 1) r
def passG (L : List ApiClass) (nx : ApiClass → List Tx) (act : Nat → Bool) : List Bool → Nat → List ApiClass → Bool
  | _, _, [] => false
  | inn, k, c :: r => cond (onB inn k || act k) ((nx c).any (newB L inn)) false || passG L nx act (cond (onB inn k || act k) (mkS L inn (nx c)) inn) (k + 1) r
section
variable {L : List ApiClass} {nx : ApiClass → List Tx} {act : Nat → Bool}
theorem pass_len : ∀ (r : List ApiClass) (k : Nat) (inn : List Bool), (passF L nx act inn k r).length = inn.length
  | [], k, inn => rfl
  | c :: r, k, inn => by
    unfold passF
    rw [pass_len r]
    cases onB inn k || act k
    · rfl
    · exact mkS_len L _ _
theorem step_on {inn : List Bool} (hl : inn.length = L.length) (b : Bool) (l : List Tx) (n : Nat) (h : onB inn n = true) : onB (cond b (mkS L inn l) inn) n = true := by
  cases b with
  | false => exact h
  | true => show onB (mkS L inn l) n = true; rw [mkS_on l inn hl, h]; rfl
theorem pass_mono : ∀ (r : List ApiClass) (k : Nat) (inn : List Bool), inn.length = L.length → ∀ n, onB inn n = true → onB (passF L nx act inn k r) n = true
  | [], k, inn, hl, n, h => h
  | c :: r, k, inn, hl, n, h => by
    unfold passF
    refine pass_mono r (k + 1) _ ?_ n (step_on hl _ _ n h)
    cases onB inn k || act k
    · exact hl
    · exact (mkS_len L _ _).trans hl
theorem pass_still : ∀ (r : List ApiClass) (k : Nat) (inn : List Bool), passG L nx act inn k r = false → passF L nx act inn k r = inn ∧ ∀ (j : Nat) c, r[j]? = some c → (onB inn (k + j) || act (k + j)) = true → (nx c).any (newB L inn) = false
  | [], k, inn, _ => ⟨rfl, fun j c h => by simp at h⟩
  | c :: r, k, inn, h => by
    unfold passG at h
    unfold passF
    rw [Bool.or_eq_false_iff] at h
    have e : cond (onB inn k || act k) (mkS L inn (nx c)) inn = inn := by
      cases hb : onB inn k || act k with
      | false => rfl
      | true => rw [hb] at h; exact mkS_still _ _ h.1
    rw [e] at h ⊢
    obtain ⟨h1, h2⟩ := pass_still r (k + 1) inn h.2
    refine ⟨h1, fun j d hj hb => ?_⟩
    cases j with
    | zero =>
      have : c = d := by simpa using hj
      subst this
      rw [Nat.add_zero] at hb
      rw [hb] at h
      exact h.1
    | succ j => exact h2 j d (by simpa using hj) (by rw [show k + 1 + j = k + (j + 1) by omega]; exact hb)
theorem pass_act : ∀ (r : List ApiClass) (k : Nat) (inn : List Bool), inn.length = L.length → ∀ (j : Nat) c, r[j]? = some c → (onB inn (k + j) || act (k + j)) = true → ∀ s ∈ nx c, hasN L s = true → onB (passF L nx act inn k r) (atN L s).toNat = true
  | [], k, inn, hl, j, c, h, _ => by simp at h
  | d :: r, k, inn, hl, j, c, hj, hb => by
    intro s hs hh
    unfold passF
    have hl2 : (cond (onB inn k || act k) (mkS L inn (nx d)) inn).length = L.length := by
      cases onB inn k || act k
      · exact hl
      · exact (mkS_len L _ _).trans hl
    cases j with
    | zero =>
      have : d = c := by simpa using hj
      subst this
      rw [Nat.add_zero] at hb
      refine pass_mono r (k + 1) _ hl2 _ ?_
      rw [hb]
      show onB (mkS L inn (nx d)) _ = true
      rw [mkS_on _ _ hl, Bool.or_eq_true]
      right
      rw [List.any_eq_true]
      exact ⟨s, hs, by rw [hh, Bool.true_and]; exact Nat.beq_refl _⟩
    | succ j =>
      refine pass_act r (k + 1) _ hl2 j c (by simpa using hj) ?_ s hs hh
      rw [show k + 1 + j = k + (j + 1) by omega]
      rw [Bool.or_eq_true] at hb ⊢
      rcases hb with hb | hb
      · exact .inl (step_on hl _ _ _ hb)
      · exact .inr hb
theorem pass_sound {Q : Nat → Prop} : ∀ (r : List ApiClass) (k : Nat) (inn : List Bool), inn.length = L.length → (∀ (j : Nat) c, r[j]? = some c → (Q (k + j) ∨ act (k + j) = true) → ∀ s ∈ nx c, hasN L s = true → Q (atN L s).toNat) →
    (∀ n, onB inn n = true → Q n) → ∀ n, onB (passF L nx act inn k r) n = true → Q n
  | [], k, inn, hl, hQ, h => h
  | c :: r, k, inn, hl, hQ, h => by
    unfold passF
    refine pass_sound r (k + 1) _ ?_ (fun j d hj hor => ?_) (fun n hn => ?_)
    · cases onB inn k || act k
      · exact hl
      · exact (mkS_len L _ _).trans hl
    · rw [show k + 1 + j = k + (j + 1) by omega] at hor
      exact hQ (j + 1) d (by simpa using hj) hor
    · cases hb : onB inn k || act k with
      | false => rw [hb] at hn; exact h n hn
      | true =>
        rw [hb] at hn
        have hn : onB (mkS L inn (nx c)) n = true := hn
        rw [mkS_on _ _ hl, Bool.or_eq_true] at hn
        rcases hn with hn | hn
        · exact h n hn
        · rw [List.any_eq_true] at hn
          obtain ⟨s, hs, hs2⟩ := hn
          rw [Bool.and_eq_true] at hs2
          rw [Nat.eq_of_beq_eq_true hs2.2]
          refine hQ 0 c rfl ?_ s hs hs2.1
          rw [Nat.add_zero]
          rw [Bool.or_eq_true] at hb
          exact hb.imp (h k) id
def cnt (inn : List Bool) : Nat := inn.count true
theorem cnt_set : ∀ (inn : List Bool) (n : Nat), n < inn.length → onB inn n = false → cnt (inn.set n true) = cnt inn + 1
  | [], n, h, _ => by simp at h
  | b :: r, 0, h, hb => by
    have : b = false := by simpa [onB] using hb
    subst this
    simp [cnt]
  | b :: r, n + 1, h, hb => by
    have := cnt_set r n (by simpa using h) (by simpa [onB] using hb)
    unfold cnt at this ⊢
    rw [List.set_cons_succ, List.count_cons, List.count_cons, this]
    omega
theorem cnt_mk1 {inn : List Bool} (hl : inn.length = L.length) (s : Tx) : cnt (mk1 L inn s) = cnt inn + cond (newB L inn s) 1 0 := by
  unfold mk1
  cases h : newB L inn s with
  | false => rfl
  | true =>
    unfold newB at h
    rw [Bool.and_eq_true, Bool.not_eq_true'] at h
    exact cnt_set inn _ (by rw [hl]; exact (at_lt h.1).2) h.2
theorem cnt_mkS : ∀ (l : List Tx) (inn : List Bool), inn.length = L.length → cnt inn + cond (l.any (newB L inn)) 1 0 ≤ cnt (mkS L inn l)
  | [], inn, hl => by simp [mkS]
  | s :: r, inn, hl => by
    have ih := cnt_mkS r (mk1 L inn s) (by rw [mk1_len]; exact hl)
    have h1 := cnt_mk1 hl s
    unfold mkS
    rw [List.any_cons]
    cases h : newB L inn s with
    | true => rw [h] at h1; simp only [cond_true] at h1; simp only [Bool.true_or, cond_true]; omega
    | false =>
      have e : mk1 L inn s = inn := by unfold mk1; rw [h]; rfl
      rw [e] at ih ⊢
      simpa using ih
theorem cnt_pass : ∀ (r : List ApiClass) (k : Nat) (inn : List Bool), inn.length = L.length → cnt inn + cond (passG L nx act inn k r) 1 0 ≤ cnt (passF L nx act inn k r)
  | [], k, inn, hl => by simp [passF, passG]
  | c :: r, k, inn, hl => by
    unfold passF passG
    have hl2 : (cond (onB inn k || act k) (mkS L inn (nx c)) inn).length = L.length := by
      cases onB inn k || act k
      · exact hl
      · exact (mkS_len L _ _).trans hl
    have ih := cnt_pass r (k + 1) _ hl2
    have h1 : cnt inn + cond (cond (onB inn k || act k) ((nx c).any (newB L inn)) false) 1 0 ≤ cnt (cond (onB inn k || act k) (mkS L inn (nx c)) inn) := by
      cases onB inn k || act k with
      | false => simp
      | true => exact cnt_mkS _ _ hl
    generalize cond (onB inn k || act k) ((nx c).any (newB L inn)) false = x at *
    generalize passG L nx act (cond (onB inn k || act k) (mkS L inn (nx c)) inn) (k + 1) r = y at *
    cases x <;> cases y <;> simp only [Bool.or_false, Bool.or_true, cond_true, cond_false] at * <;> omega
theorem cnt_le (inn : List Bool) : cnt inn ≤ inn.length := List.count_le_length
theorem pass_loop {R X : Type} {st : List Bool → Bool → Int → X} {body : X → Option (Sum X (Sum (List Bool × Bool) R))} (hL : L.length ≤ 1000)
    (hb : ∀ (k : Nat) c inn more, inn.length = L.length → L[k]? = some c → body (st inn more (k : Int)) = some (.inl (cond (onB inn k || act k) (st (mkS L inn (nx c)) (more || (nx c).any (newB L inn)) ((k + 1 : Nat) : Int)) (st inn more ((k + 1 : Nat) : Int)))))
    (he : ∀ inn more, body (st inn more (L.length : Int)) = some (.inr (.inl (inn, more)))) :
    ∀ (r pre : List ApiClass) (inn : List Bool) (more : Bool), L = pre ++ r → inn.length = L.length → loopP body (st inn more (pre.length : Int)) = some (.inl (passF L nx act inn pre.length r, more || passG L nx act inn pre.length r))
  | [], pre, inn, more, e, hi => by
    rw [List.append_nil] at e
    subst e
    rw [loopP_eq, he]
    show some _ = some _
    simp [passF, passG]
  | c :: r, pre, inn, more, e, hi => by
    have hx : L[pre.length]? = some c := by rw [e]; simp
    rw [loopP_eq, hb _ c inn more hi hx]
    have ih := fun i m h => pass_loop hL hb he r (pre ++ [c]) i m (by rw [e]; simp) h
    rw [show (pre ++ [c]).length = pre.length + 1 by simp] at ih
    unfold passF passG
    cases onB inn pre.length || act pre.length with
    | false =>
      show loopP body (st inn more ((pre.length + 1 : Nat) : Int)) = _
      rw [ih _ _ hi]
      simp
    | true =>
      show loopP body (st (mkS L inn (nx c)) _ ((pre.length + 1 : Nat) : Int)) = _
      rw [ih _ _ (by rw [mkS_len]; exact hi), Bool.or_assoc]
      rfl
def Shut (L : List ApiClass) (nx : ApiClass → List Tx) (act : Nat → Bool) (R : List Bool) : Prop :=
  ∀ (k : Nat) c, L[k]? = some c → (onB R k || act k) = true → ∀ s ∈ nx c, hasN L s = true → onB R (atN L s).toNat = true
theorem shut_of {inn : List Bool} (h : passG L nx act inn 0 L = false) : Shut L nx act inn := fun k c hk hb s hs hh => by
  have := (pass_still L 0 inn h).2 k c hk (by rw [Nat.zero_add]; exact hb)
  rw [List.any_eq_false] at this
  have := this s hs
  unfold newB at this
  rw [hh, Bool.true_and, Bool.not_eq_true', Bool.not_eq_false] at this
  exact this
theorem outer_loop {R X : Type} {st : List Bool → Bool → X} {body : X → Option (Sum X (Sum (List Bool) R))} {Q : Nat → Prop}
    (hb : ∀ inn, inn.length = L.length → body (st inn true) = some (.inl (st (passF L nx act inn 0 L) (passG L nx act inn 0 L))))
    (he : ∀ inn, inn.length = L.length → body (st inn false) = some (.inr (.inl inn)))
    (hQ : ∀ (j : Nat) c, L[j]? = some c → (Q j ∨ act j = true) → ∀ s ∈ nx c, hasN L s = true → Q (atN L s).toNat) :
    ∀ (d : Nat) (inn : List Bool), inn.length = L.length → L.length ≤ d + cnt inn → (∀ n, onB inn n = true → Q n) →
    ∃ F, loopP body (st inn true) = some (.inl F) ∧ F.length = L.length ∧ Shut L nx act F ∧ (∀ n, onB inn n = true → onB F n = true) ∧ (∀ n, onB F n = true → Q n)
  | d, inn, hl, hd, hq => by
    have hl2 : (passF L nx act inn 0 L).length = L.length := (pass_len L 0 inn).trans hl
    rw [loopP_eq, hb inn hl]
    cases hg : passG L nx act inn 0 L with
    | false =>
      have e := (pass_still L 0 inn hg).1
      refine ⟨inn, ?_, hl, shut_of hg, fun n h => h, hq⟩
      show loopP body (st _ false) = _
      rw [loopP_eq, he _ hl2, e]; rfl
    | true =>
      have hc := cnt_pass (nx := nx) (act := act) L 0 inn hl
      rw [hg] at hc
      simp only [cond_true] at hc
      have hle := cnt_le (passF L nx act inn 0 L)
      have hq2 : ∀ n, onB (passF L nx act inn 0 L) n = true → Q n := pass_sound L 0 inn hl (fun j c hj hor => by rw [Nat.zero_add] at hor; exact hQ j c hj hor) hq
      cases d with
      | zero => omega
      | succ d =>
        obtain ⟨F, k1, k2, k3, k4, k5⟩ := outer_loop hb he hQ d _ hl2 (by omega) hq2
        exact ⟨F, k1, k2, k3, fun n h => k4 n (pass_mono L 0 inn hl n h), k5⟩
end
end Go.Proofs.YtooagifeniibcaaGreat
namespace Go.Proofs.YtooagifeniibcaaGreat
set_option linter.unusedSimpArgs false
set_option linter.unusedVariables false
def mis (L : List ApiClass) (c : ApiClass) : Bool := (c.Super :: c.Impl).any (fun s => !hasN L s)
noncomputable def newE (l : List ApiClass) : Option (List ApiClass) × Int :=
  cond (decide (16 < (l.length : Int))) (none, 3) (match lay giv l with
    | none => (none, 1)
    | some L => cond (l.any (mis L)) (none, 4) (cond (l.any (badF L)) (none, 1) (some L, 0)))
theorem laid_of {l L : List ApiClass} (h : lay giv l = some L) (hm : l.any (mis L) = false) : Laid L ∧ ∀ c ∈ l, c.Super ≠ [] := by
  obtain ⟨h1, h2, h3⟩ := lay_ok l giv L giv_nd h
  have hO := lay_okc h
  have noE : hasN L [] = false := by
    cases hh : hasN L [] with
    | false => rfl
    | true =>
      obtain ⟨c, hc⟩ := has_cl hh
      exact absurd (cl_name hc).2 (hO c (cl_name hc).1).name
  have hl : ∀ c ∈ l, ∀ s ∈ c.Super :: c.Impl, hasN L s = true := fun c hc s hs => by
    have := List.any_eq_false.1 hm c hc
    unfold mis at this
    rw [Bool.not_eq_true, List.any_eq_false] at this
    simpa using this s hs
  refine ⟨⟨h2, noE, fun c hc s hs hne => ?_, fun c hc hm => (hO c hc).implE [] hm rfl⟩, fun c hc e => ?_⟩
  · rw [h1] at hc
    rcases List.mem_append.1 hc with e | e
    · have hg : giv.all (fun c => (c.Super :: c.Impl).all (fun s => s == [] || hasN giv s)) = true := by decide +kernel
      have := List.all_eq_true.1 (List.all_eq_true.1 hg c e) s hs
      rw [Bool.or_eq_true, beq_iff_eq] at this
      rcases this with e | e
      · exact absurd e hne
      · rw [has_iff] at e ⊢
        rw [h1, List.map_append]
        exact List.mem_append_left _ e
    · exact hl c e s hs
  · have := hl c hc c.Super (by simp)
    rw [e, noE] at this; cases this
theorem new_l5 {l L : List ApiClass} {m : List (Tx × Int)} (hl : l.length ≤ 16) (hm : MapOk L m) (hO : ∀ c ∈ l, c.Impl.length ≤ 4) :
    loopP (fun z => hier_New_l5 l L m z) 0 = some (ends () (cond (l.any (mis L)) (some (none, 4)) none)) := by
  rw [← findSome_any]
  refine loop_list (fun i c hc => ?_) ?_
  · show hier_New_l5 l L m (i : Int) = _
    have := hO c (List.mem_of_getElem? hc)
    have hi := (List.getElem?_eq_some_iff.1 hc).1
    unfold hier_New_l5
    rw [here hc, idx_nat, hc]
    simp only [cond_true, Option.bind_some]
    rw [hier_above_eq this]
    simp only [Option.bind_some]
    rw [contains4 hm (by simp; omega), wrap_succ (by omega)]
    simp only [Option.bind_some]
    show _ = some (asks i (cond (mis L c) _ _))
    unfold mis
    cases ((c.Super :: c.Impl).any fun s => !hasN L s) <;> rfl
  · show hier_New_l5 l L m (l.length : Int) = _
    unfold hier_New_l5
    rw [past]; rfl
theorem new_l7 {l L : List ApiClass} {m : List (Tx × Int)} (hl : l.length ≤ 16) (hf : ∀ c ∈ l, hier_Hier_fits L m c = some (!badF L c)) :
    loopP (fun z => hier_New_l7 l L m z) 0 = some (ends () (cond (l.any (badF L)) (some (none, 1)) none)) := by
  rw [← findSome_any]
  refine loop_list (fun i c hc => ?_) ?_
  · show hier_New_l7 l L m (i : Int) = _
    have hi := (List.getElem?_eq_some_iff.1 hc).1
    unfold hier_New_l7
    rw [here hc, idx_nat, hc]
    simp only [cond_true, Option.bind_some]
    rw [hf c (List.mem_of_getElem? hc), wrap_succ (by omega)]
    simp only [Option.bind_some]
    cases badF L c <;> rfl
  · show hier_New_l7 l L m (l.length : Int) = _
    unfold hier_New_l7
    rw [past]; rfl
theorem hier_New_eq {l : List ApiClass} (hc : ∀ c ∈ l, CGIn c) : ∃ m, (∀ L, (newE l).1 = some L → MapOk L m) ∧ hier_New l = some ((newE l).1.map (fun L => HierHier.mk L m), (newE l).2) := by
  unfold hier_New newE
  cases hl : decide (16 < (l.length : Int)) with
  | true => exact ⟨[], fun L h => (by cases h), rfl⟩
  | false =>
    have hl := of_decide_eq_false hl
    rw [hier_given_eq]
    simp only [cond_false, Option.bind_some]
    rw [giv_map]
    simp only [Option.bind_some, leave]
    have hl16 : l.length ≤ 16 := by omega
    obtain ⟨h1, h2⟩ := lay_hier hl16 hc l [] giv _ rfl giv_mapOk rfl
    unfold hier_New_k2
    cases hy : lay giv l with
    | none =>
      rw [show loopP (fun z => hier_New_l3 l z.1 z.2.1 z.2.2) (giv, mpAll 0 [] giv, 0) = _ from h1 hy]
      exact ⟨[], fun L h => (by cases h), rfl⟩
    | some L =>
      obtain ⟨m, hm, e⟩ := h2 L hy
      rw [show loopP (fun z => hier_New_l3 l z.1 z.2.1 z.2.2) (giv, mpAll 0 [] giv, 0) = _ from e]
      obtain ⟨k1, k2, k3⟩ := lay_ok l giv L giv_nd hy
      have hO := lay_okc hy
      have hlL : ∀ c ∈ l, c ∈ L := fun c hc => by rw [k1]; exact List.mem_append_right _ hc
      have hlen : L.length ≤ 100 := by rw [k1, List.length_append]; have : giv.length = 10 := rfl; omega
      simp only [Option.bind_some, leave]
      unfold hier_New_k4
      rw [new_l5 hl16 hm (fun c hc => (hO c (hlL c hc)).impl)]
      cases hmis : l.any (mis L) with
      | true => exact ⟨[], fun L h => (by cases h), rfl⟩
      | false =>
        obtain ⟨hL, hS⟩ := laid_of hy hmis
        simp only [cond_false, Option.bind_some, leave, ends]
        unfold hier_New_k6
        rw [new_l7 hl16 (fun c hc => fits_eq hm hL hO hlen (hlL c hc) (hS c hc))]
        cases hb : l.any (badF L) with
        | true => exact ⟨[], fun L h => (by cases h), rfl⟩
        | false => exact ⟨m, fun L' h => (by cases h; exact hm), rfl⟩
theorem at_eq {L : List ApiClass} (hl : L.length ≤ 1000) (n : Tx) : ref7_Hier_At L n = some (atN L n) := by
  unfold ref7_Hier_At
  rw [show ((loopP (fun z => ref7_Hier_At_l1 L n z) 0).bind fun o => leave o (fun b => ref7_Hier_At_k2) some) = _ from index_loop (l := L) (p := fun c : ApiClass => c.Name == n) (by omega)
    (fun i x hx => by unfold ref7_Hier_At_l1; rw [here hx, idx_nat, hx]; rfl) (by unfold ref7_Hier_At_l1; rw [past]; rfl)]
  rfl
theorem lay_ref {l : List ApiClass} (hl : l.length ≤ 16) (hc : ∀ c ∈ l, CGIn c) : ∀ (r pre L : List ApiClass), l = pre ++ r → L.length = 10 + pre.length →
    loopP (fun z => ref7_New_l1 l z.1 z.2) (L, (pre.length : Int)) = some (match lay L r with | none => .inr (none, 1) | some L' => .inl L')
  | [], pre, L, e, hL => by
    rw [List.append_nil] at e
    subst e
    rw [loopP_eq]
    show (ref7_New_l1 l L (l.length : Int)).bind _ = _
    unfold ref7_New_l1
    rw [past]; rfl
  | c :: r, pre, L, e, hL => by
    have hlen : l.length = pre.length + (r.length + 1) := by rw [e]; simp
    have hx : l[pre.length]? = some c := by rw [e]; simp
    have hcm : c ∈ l := List.mem_of_getElem? hx
    have step : loopP (fun z => ref7_New_l1 l z.1 z.2) (L, (pre.length : Int)) = (cond (hasN L c.Name || !mayG c) (some (.inr (.inr (none, 1)))) (some (.inl (L ++ [c], ((pre.length + 1 : Nat) : Int))))).bind (Sum.elim (loopP (fun z => ref7_New_l1 l z.1 z.2)) some) := by
      rw [loopP_eq]
      show (ref7_New_l1 l L (pre.length : Int)).bind _ = _
      congr 1
      unfold ref7_New_l1
      rw [here hx, idx_nat, hx]
      simp only [cond_true, Option.bind_some]
      rw [ref3_MayClass_eq (hc c hcm), at_eq (by omega), appC (by omega) (by omega), wrap_succ (by omega)]
      simp only [Option.bind_some]
      rw [at_has]
      cases hasN L c.Name <;> cases mayG c <;> rfl
    rw [step]
    unfold lay
    cases h1 : (hasN L c.Name || !mayG c) with
    | true => rfl
    | false =>
      have := lay_ref hl hc r (pre ++ [c]) (L ++ [c]) (by rw [e]; simp) (by simp; omega)
      rw [show (pre ++ [c]).length = pre.length + 1 by simp] at this
      exact this
theorem ref_l5 {L : List ApiClass} (hL : L.length ≤ 100) {c : ApiClass} (hi : c.Impl.length ≤ 4) : loopP (fun z => ref7_New_l5 L c z) 0 = some (ends () (cond (c.Impl.any (fun s => !hasN L s)) (some (none, 4)) none)) := by
  rw [← findSome_any]
  refine loop_list (fun i s hs => ?_) ?_
  · show ref7_New_l5 L c (i : Int) = _
    have hi := (List.getElem?_eq_some_iff.1 hs).1
    unfold ref7_New_l5
    rw [here hs, idx_nat, hs]
    simp only [cond_true, Option.bind_some]
    rw [at_eq (by omega), wrap_succ (by omega)]
    simp only [Option.bind_some]
    rw [at_neg]
    cases hasN L s <;> rfl
  · show ref7_New_l5 L c (c.Impl.length : Int) = _
    unfold ref7_New_l5
    rw [past]; rfl
theorem ref_l7 {L : List ApiClass} (hL : L.length ≤ 100) (h1 : 1 ≤ L.length) (hO : ∀ c ∈ L, Okc c) : loopP (fun z => ref7_New_l7 L z) 1 = some (ends () (cond ((L.drop 1).any (mis L)) (some (none, 4)) none)) := by
  rw [← findSome_any]
  refine loop_from (k := 1) (fun i c _ hc => ?_) ?_ h1
  · show ref7_New_l7 L (i : Int) = _
    have hi := (List.getElem?_eq_some_iff.1 hc).1
    unfold ref7_New_l7
    rw [here hc, idx_nat, hc]
    simp only [cond_true, Option.bind_some]
    rw [at_eq (by omega)]
    simp only [Option.bind_some]
    rw [at_neg, ref_l5 hL (hO c (List.mem_of_getElem? hc)).impl]
    unfold ref7_New_k6
    rw [wrap_succ (by omega)]
    show _ = some (asks i (cond (mis L c) _ _))
    unfold mis
    rw [List.any_cons]
    cases hasN L c.Super <;> cases (c.Impl.any fun s => !hasN L s) <;> rfl
  · show ref7_New_l7 L (L.length : Int) = _
    unfold ref7_New_l7
    rw [past]; rfl
theorem above_marks {L : List ApiClass} {l : List Tx} (hL : L.length ≤ 100) (hl : l.length ≤ 100) {inn : List Bool} (hi : inn.length = L.length) (more : Bool) :
    loopP (fun z => ref7_Hier_above_l20 L l z.1 z.2.1 z.2.2) (inn, more, 0) = some (.inl (mkS L inn l, more || l.any (newB L inn))) := by
  refine marks_loop (l := l) (by omega) (fun j s inn more hi hs => ?_) (fun inn more => ?_) l [] inn more rfl hi
  · show ref7_Hier_above_l20 L l inn more (j : Int) = _
    unfold ref7_Hier_above_l20 ref7_Hier_above_j19
    rw [here hs, idx_nat, hs]
    simp only [cond_true, Option.bind_some]
    rw [at_eq (by omega)]
    simp only [Option.bind_some]
    rw [at_has]
    unfold mk1 newB
    cases hh : hasN L s with
    | false => simp
    | true =>
      obtain ⟨g1, g2⟩ := at_lt hh
      have e : idx inn (atN L s) = some (onB inn (atN L s).toNat) := by
        unfold idx onB
        rw [if_pos g1, List.getD_eq_getElem?_getD, List.getElem?_eq_getElem (by omega)]; rfl
      rw [e]
      simp only [cond_true, Option.bind_some, Bool.true_and]
      cases onB inn (atN L s).toNat <;> simp
  · show ref7_Hier_above_l20 L l inn more (l.length : Int) = _
    unfold ref7_Hier_above_l20
    rw [past]; rfl
theorem on_idx {inn : List Bool} {k : Nat} (h : k < inn.length) : idx inn (k : Int) = some (onB inn k) := by
  rw [idx_nat, List.getElem?_eq_getElem h]
  unfold onB
  rw [List.getD_eq_getElem?_getD, List.getElem?_eq_getElem h]; rfl
abbrev abv (c : ApiClass) : List Tx := c.Super :: c.Impl
theorem above_pass {L : List ApiClass} (hL : L.length ≤ 100) (hO : ∀ c ∈ L, Okc c) (v : Nat) (first : Bool) {inn : List Bool} (hi : inn.length = L.length) (more : Bool) :
    loopP (fun z => ref7_Hier_above_l23 L (v : Int) first z.1 z.2.1 z.2.2) (inn, more, 0) = some (.inl (passF L abv (fun k => first && Nat.beq k v) inn 0 L, more || passG L abv (fun k => first && Nat.beq k v) inn 0 L)) := by
  refine pass_loop (st := fun a b c => (a, b, c)) (nx := abv) (act := fun k => first && Nat.beq k v) (by omega) (fun k c inn more hi hc => ?_) (fun inn more => ?_) L [] inn more rfl hi
  · show ref7_Hier_above_l23 L (v : Int) first inn more (k : Int) = _
    have hk := (List.getElem?_eq_some_iff.1 hc).1
    have h4 := (hO c (List.mem_of_getElem? hc)).impl
    unfold ref7_Hier_above_l23
    rw [here hc, on_idx (by omega), idx_nat, hc]
    simp only [cond_true, Option.bind_some]
    rw [above_eq h4]
    simp only [Option.bind_some]
    rw [above_marks hL (by simp; omega) hi]
    unfold ref7_Hier_above_k21 ref7_Hier_above_j22
    rw [wrap_succ (by omega)]
    have e : ((k : Int) == (v : Int)) = Nat.beq k v := by
      rw [Bool.eq_iff_iff, beq_iff_eq, Nat.beq_eq]; omega
    rw [e]
    cases onB inn k <;> cases first <;> cases Nat.beq k v <;> rfl
  · show ref7_Hier_above_l23 L (v : Int) first inn more (L.length : Int) = _
    unfold ref7_Hier_above_l23
    rw [past]; rfl
theorem above_cyc {L : List ApiClass} (hL : L.length ≤ 100) (hO : ∀ c ∈ L, Okc c) (h : Laid L) {v : Nat} {c0 : ApiClass} (hv : L[v]? = some c0) : ref7_Hier_above L (v : Int) = some (cyc L c0.Name) := by
  have hvl := (List.getElem?_eq_some_iff.1 hv).1
  let Q : Nat → Prop := fun n => ∃ c, L[n]? = some c ∧ Rc (nxA L) c0.Name c.Name
  have hnx : ∀ {c : ApiClass}, c ∈ L → ∀ s ∈ abv c, hasN L s = true → s ∈ nxA L c.Name := fun {c} hc s hs hh => by
    rw [nxA_of (h.nd.cl hc)]
    refine List.mem_filter.2 ⟨hs, ?_⟩
    have : s ≠ [] := fun e => by rw [e, h.noE] at hh; cases hh
    simpa using this
  have hat : ∀ {s : Tx}, hasN L s = true → ∃ d, L[(atN L s).toNat]? = some d ∧ d.Name = s := fun {s} hh => by
    obtain ⟨d, hd⟩ := has_cl hh
    have e := idx_at L s
    rw [hd] at e
    obtain ⟨g1, g2⟩ := at_lt hh
    refine ⟨d, ?_, (cl_name hd).2⟩
    unfold idx at e
    rw [if_pos g1] at e
    exact e
  have hQ : ∀ (a : Nat → Bool), (∀ k, a k = true → k = v) → ∀ (j : Nat) c, L[j]? = some c → (Q j ∨ a j = true) → ∀ s ∈ abv c, hasN L s = true → Q (atN L s).toNat := fun a ha j c hj hor s hs hh => by
    obtain ⟨d, hd, hd2⟩ := hat hh
    have hsx := hnx (List.mem_of_getElem? hj) s hs hh
    refine ⟨d, hd, ?_⟩
    rw [hd2]
    rcases hor with ⟨c', hc', hr⟩ | hj2
    · rw [hj] at hc'; cases hc'
      exact hr.snoc hsx
    · have := ha j hj2
      subst this
      rw [hj] at hv; cases hv
      exact .one hsx
  have body2 : ∀ inn more first, ref7_Hier_above_l25 L (v : Int) inn more first = cond more ((loopP (fun z => ref7_Hier_above_l23 L (v : Int) first z.1 z.2.1 z.2.2) (inn, false, 0)).bind fun o => leave o (fun b => ref7_Hier_above_k24 b.1 b.2) (fun r => some (.inr (.inr r)))) (some (.inr (.inl inn))) := fun _ _ _ => rfl
  have hrep : (List.replicate L.length false).length = L.length := by simp
  have hoff : ∀ n, onB (List.replicate L.length false) n = false := fun n => by
    unfold onB
    rw [List.getD_eq_getElem?_getD, List.getElem?_replicate]
    split <;> rfl
  have hF : ∃ F, loopP (fun z => ref7_Hier_above_l25 L (v : Int) z.1 z.2.1 z.2.2) (List.replicate L.length false, true, true) = some (.inl F) ∧ F.length = L.length ∧ Shut L abv (fun _ => false) F ∧ (∀ s ∈ abv c0, hasN L s = true → onB F (atN L s).toNat = true) ∧ (∀ n, onB F n = true → Q n) := by
    let inn1 := passF L abv (fun k => true && Nat.beq k v) (List.replicate L.length false) 0 L
    have hl1 : inn1.length = L.length := (pass_len L 0 _).trans hrep
    have hq1 : ∀ n, onB inn1 n = true → Q n := pass_sound L 0 _ hrep (fun j c hj hor => by
      rw [Nat.zero_add] at hor
      exact hQ (fun k => true && Nat.beq k v) (fun k hk => by simpa using hk) j c hj hor) (fun n hn => by rw [hoff] at hn; cases hn)
    have ha1 : ∀ s ∈ abv c0, hasN L s = true → onB inn1 (atN L s).toNat = true := pass_act L 0 _ hrep v c0 hv (by simp)
    rw [loopP_eq]
    show ∃ F, (ref7_Hier_above_l25 L (v : Int) (List.replicate L.length false) true true).bind _ = _ ∧ _
    rw [body2, above_pass hL hO v true hrep false]
    cases hg : passG L abv (fun k => true && Nat.beq k v) (List.replicate L.length false) 0 L with
    | false =>
      refine ⟨inn1, ?_, hl1, ?_, ha1, hq1⟩
      · show loopP (fun z => ref7_Hier_above_l25 L (v : Int) z.1 z.2.1 z.2.2) (inn1, false, false) = _
        rw [loopP_eq]
        rfl
      · have e : inn1 = List.replicate L.length false := (pass_still L 0 _ hg).1
        rw [e]
        intro k c hk hb
        rw [hoff] at hb
        cases hb
    | true =>
      obtain ⟨F, k1, k2, k3, k4, k5⟩ := outer_loop (L := L) (nx := abv) (act := fun k => false && Nat.beq k v) (R := Bool) (st := fun a b => (a, b, false)) (body := fun z => ref7_Hier_above_l25 L (v : Int) z.1 z.2.1 z.2.2) (Q := Q)
        (fun inn hi => by
          show ref7_Hier_above_l25 L (v : Int) inn true false = _
          rw [body2, above_pass hL hO v false hi false]
          rfl) (fun inn hi => rfl) (hQ _ (fun k hk => by simp at hk)) L.length inn1 hl1 (by omega) hq1
      refine ⟨F, k1, k2, fun k c hk hb => k3 k c hk (by simpa using hb), fun s hs hh => k4 _ (ha1 s hs hh), k5⟩
  obtain ⟨F, f1, f2, f3, f4, f5⟩ := hF
  unfold ref7_Hier_above
  rw [show mkP 1 (L.length : Int) = some L.length by unfold mkP; rw [if_pos (by omega), Int.toNat_natCast]]
  simp only [Option.bind_some]
  rw [f1]
  show (idx F (v : Int)).bind _ = _
  rw [on_idx (by omega)]
  show some (onB F v) = _
  congr 1
  rw [Bool.eq_iff_iff, cyc_iff]
  constructor
  · intro hb
    obtain ⟨c, hc, hr⟩ := f5 v hb
    rw [hv] at hc; cases hc
    exact hr
  · intro hr
    have key : ∀ x, Rc (nxA L) c0.Name x → onB F (atN L x).toNat = true := fun x hx => by
      refine hx.into (F := fun y => onB F (atN L y).toNat = true ∧ hasN L y = true) (fun y hy z hz => ?_) (fun y hy => ?_) |>.1
      · have hz2 : hasN L z = true := has_iff.2 (h.nxA_in y z hz)
        obtain ⟨d, hd, hd2⟩ := hat hy.2
        refine ⟨f3 _ d hd (by rw [hy.1]; rfl) z ?_ hz2, hz2⟩
        rw [← hd2, nxA_of (h.nd.cl (List.mem_of_getElem? hd))] at hz
        exact (List.mem_filter.1 hz).1
      · have hy2 : hasN L y = true := has_iff.2 (h.nxA_in _ y hy)
        refine ⟨f4 y ?_ hy2, hy2⟩
        rw [nxA_of (h.nd.cl (List.mem_of_getElem? hv))] at hy
        exact (List.mem_filter.1 hy).1
    have := key _ hr
    rw [h.nd.at hv, Int.toNat_natCast] at this
    exact this
end Go.Proofs.YtooagifeniibcaaGreat
namespace Go.Proofs.YtooagifeniibcaaGreat
set_option linter.unusedSimpArgs false
set_option linter.unusedVariables false
theorem cl_giv {L l : List ApiClass} (h : L = giv ++ l) {n : Tx} {c : ApiClass} (hc : cl giv n = some c) : cl L n = some c := by
  rw [h]
  unfold cl at hc ⊢
  rw [List.find?_append, hc]; rfl
theorem cl_app {L l : List ApiClass} (h : L = giv ++ l) {n : Tx} (hn : hasN giv n = true) : cl L n = cl giv n := by
  obtain ⟨c, hc⟩ := has_cl hn
  rw [hc, cl_giv h hc]
theorem has_giv {L l : List ApiClass} (h : L = giv ++ l) {n : Tx} (hn : hasN giv n = true) : hasN L n = true := by
  obtain ⟨c, hc⟩ := has_cl hn
  exact has_of (cl_giv h hc)
theorem giv_step : giv.all (fun c => (nxA giv c.Name).all (fun s => decide (atN giv s < atN giv c.Name) && hasN giv s)) = true := by decide +kernel
theorem giv_rc {L l : List ApiClass} (h : L = giv ++ l) {a b : Tx} (hr : Rc (nxA L) a b) : hasN giv a = true → atN giv b < atN giv a ∧ hasN giv b = true := by
  have one : ∀ {a b : Tx}, b ∈ nxA L a → hasN giv a = true → atN giv b < atN giv a ∧ hasN giv b = true := fun {a b} hb ha => by
    have e : nxA L a = nxA giv a := by unfold nxA; rw [cl_app h ha]
    rw [e] at hb
    obtain ⟨c, hc⟩ := has_cl ha
    have h1 := List.all_eq_true.1 giv_step c (cl_name hc).1
    rw [(cl_name hc).2] at h1
    have h2 := List.all_eq_true.1 h1 b hb
    rw [Bool.and_eq_true, decide_eq_true_eq] at h2
    exact h2
  induction hr with
  | one hb => exact one hb
  | more hb _ ih =>
    intro ha
    have h1 := one hb ha
    have h2 := ih h1.2
    exact ⟨by omega, h2.2⟩
theorem giv_cyc {L l : List ApiClass} (h : L = giv ++ l) {c : ApiClass} (hc : c ∈ giv) : cyc L c.Name = false := by
  cases hh : cyc L c.Name with
  | false => rfl
  | true =>
    have := (giv_rc h (cyc_iff.1 hh) (has_of (giv_nd.cl hc))).1
    omega
theorem giv_facts : giv.all (fun c => (c.Impl == []) && !c.Interface && (c.Super == [] || hasN giv c.Super)) = true := by decide +kernel
theorem giv_super : (giv.drop 1).all (fun c => !(c.Super == [])) = true := by decide +kernel
theorem giv_c {c : ApiClass} (hc : c ∈ giv) : c.Impl = [] ∧ c.Interface = false ∧ (c.Super = [] ∨ hasN giv c.Super = true) := by
  have := List.all_eq_true.1 giv_facts c hc
  simp only [Bool.and_eq_true, beq_iff_eq, Bool.not_eq_true', Bool.or_eq_true] at this
  exact ⟨this.1.1, this.1.2, this.2⟩
theorem giv_isF {L l : List ApiClass} (h : L = giv ++ l) {n : Tx} (hn : hasN giv n = true) : isF L n = false := by
  obtain ⟨c, hc⟩ := has_cl hn
  unfold isF
  rw [cl_giv h hc]
  exact (giv_c (cl_name hc).1).2.1
theorem giv_bad {L l : List ApiClass} (h : L = giv ++ l) (hE : hasN L [] = false) {c : ApiClass} (hc : c ∈ giv) : badF L c = false := by
  obtain ⟨h1, h2, h3⟩ := giv_c hc
  unfold badF
  rw [giv_cyc h hc, h1]
  rcases h3 with e | e
  · rw [e]
    have : isF L [] = false := by
      unfold isF
      cases hcl : cl L [] with
      | none => rfl
      | some d => rw [has_of hcl] at hE; cases hE
    rw [this]; rfl
  · rw [giv_isF h e]; rfl
theorem giv_mis {L l : List ApiClass} (h : L = giv ++ l) {c : ApiClass} (hc : c ∈ giv.drop 1) : mis L c = false := by
  obtain ⟨h1, h2, h3⟩ := giv_c (List.mem_of_mem_drop hc)
  have hs := List.all_eq_true.1 giv_super c hc
  unfold mis
  rw [h1, List.any_cons, List.any_nil, Bool.or_false]
  rcases h3 with e | e
  · rw [e] at hs; cases hs
  · rw [has_giv h e]; rfl
theorem drop_any {L l : List ApiClass} (h : L = giv ++ l) {p : ApiClass → Bool} (hp : ∀ c ∈ giv.drop 1, p c = false) : (L.drop 1).any p = l.any p := by
  have e : L.drop 1 = giv.drop 1 ++ l := by rw [h]; rfl
  rw [e, List.any_append, List.any_eq_false.2 (fun c hc => by rw [hp c hc]; exact Bool.false_ne_true), Bool.false_or]
theorem idx_ati {L : List ApiClass} {n : Tx} {c : ApiClass} (h : cl L n = some c) : idx L (atN L n) = some c := by rw [idx_at, h]
theorem ref_l13 {L : List ApiClass} (hL : L.length ≤ 100) {c : ApiClass} (hi : c.Impl.length ≤ 4) (hh : ∀ s ∈ c.Impl, hasN L s = true) (b : Bool) :
    loopP (fun z => ref7_New_l13 L c z.1 z.2) (b, 0) = some (.inl (b || c.Impl.any (fun s => !isF L s))) := by
  have key : ∀ (r pre : List Tx) (b : Bool), c.Impl = pre ++ r → loopP (fun z => ref7_New_l13 L c z.1 z.2) (b, (pre.length : Int)) = some (.inl (b || r.any (fun s => !isF L s))) := by
    intro r
    induction r with
    | nil =>
      intro pre b e
      rw [List.append_nil] at e
      rw [loopP_eq]
      show (ref7_New_l13 L c b (pre.length : Int)).bind _ = _
      unfold ref7_New_l13
      rw [← e, past]
      simp
    | cons s r ih =>
      intro pre b e
      have hlen : c.Impl.length = pre.length + (r.length + 1) := by rw [e]; simp
      have hx : c.Impl[pre.length]? = some s := by rw [e]; simp
      obtain ⟨d, hd⟩ := has_cl (hh s (List.mem_of_getElem? hx))
      have step : ref7_New_l13 L c b (pre.length : Int) = some (.inl (b || !isF L s, ((pre.length + 1 : Nat) : Int))) := by
        unfold ref7_New_l13
        rw [here hx, idx_nat, hx]
        simp only [cond_true, Option.bind_some]
        rw [at_eq (by omega)]
        simp only [Option.bind_some]
        rw [idx_ati hd, wrap_succ (by omega)]
        unfold isF
        rw [hd]
        cases b <;> rfl
      rw [loopP_eq]
      show (ref7_New_l13 L c b (pre.length : Int)).bind _ = _
      rw [step]
      show loopP (fun z => ref7_New_l13 L c z.1 z.2) (b || !isF L s, ((pre.length + 1 : Nat) : Int)) = _
      have := ih (pre ++ [s]) (b || !isF L s) (by rw [e]; simp)
      rw [show (pre ++ [s]).length = pre.length + 1 by simp] at this
      rw [this, List.any_cons, Bool.or_assoc]
  exact key c.Impl [] b rfl
theorem ref_l15 {L : List ApiClass} (hL : L.length ≤ 100) (h1 : 1 ≤ L.length) (hO : ∀ c ∈ L, Okc c) (h : Laid L) (hS : ∀ c ∈ L.drop 1, c.Super ≠ []) :
    loopP (fun z => ref7_New_l15 L z) 1 = some (ends () (cond ((L.drop 1).any (badF L)) (some (none, 1)) none)) := by
  rw [← findSome_any]
  refine loop_from (k := 1) (fun i c hk hc => ?_) ?_ h1
  · show ref7_New_l15 L (i : Int) = _
    have hcm := List.mem_of_getElem? hc
    have hi := (List.getElem?_eq_some_iff.1 hc).1
    have hcd : c ∈ L.drop 1 := List.mem_of_getElem? (i := i - 1) (by rw [List.getElem?_drop, show 1 + (i - 1) = i by omega, hc])
    obtain ⟨x, hx⟩ := has_cl (h.closed c hcm c.Super (by simp) (hS c hcd))
    have himp : ∀ s ∈ c.Impl, hasN L s = true := fun s hs => h.closed c hcm s (by simp [hs]) ((hO c hcm).implE s hs)
    unfold ref7_New_l15
    rw [here hc, idx_nat, hc]
    simp only [cond_true, Option.bind_some]
    rw [at_eq (by omega)]
    simp only [Option.bind_some]
    rw [idx_ati hx]
    simp only [Option.bind_some]
    rw [above_cyc hL hO h hc]
    simp only [Option.bind_some]
    unfold ref7_New_j12
    rw [ref_l13 hL (hO c hcm).impl himp, ref_l13 hL (hO c hcm).impl himp]
    simp only [Option.bind_some, leave]
    unfold ref7_New_k14
    rw [wrap_succ (by omega)]
    show _ = some (asks i (cond (badF L c) _ _))
    unfold badF
    rw [show isF L c.Super = x.Interface by unfold isF; rw [hx]]
    cases x.Interface <;> cases (c.Impl.any fun s => !isF L s) <;> cases cyc L c.Name <;> rfl
  · show ref7_New_l15 L (L.length : Int) = _
    unfold ref7_New_l15
    rw [past]; rfl
theorem drop_super {L l : List ApiClass} (h : L = giv ++ l) (hS : ∀ c ∈ l, c.Super ≠ []) : ∀ c ∈ L.drop 1, c.Super ≠ [] := by
  have e : L.drop 1 = giv.drop 1 ++ l := by rw [h]; rfl
  intro c hc
  rw [e] at hc
  rcases List.mem_append.1 hc with e | e
  · have := List.all_eq_true.1 giv_super c e
    intro e2
    rw [e2] at this; cases this
  · exact hS c e
theorem ref7_New_eq {l : List ApiClass} (hc : ∀ c ∈ l, CGIn c) : ref7_New l = some ((newE l).1.map Ref7Hier.mk, (newE l).2) := by
  unfold ref7_New newE
  cases hl : decide (16 < (l.length : Int)) with
  | true => rfl
  | false =>
    have hl := of_decide_eq_false hl
    rw [ref7_given_eq]
    simp only [cond_false, Option.bind_some]
    have hl16 : l.length ≤ 16 := by omega
    rw [show loopP (fun z => ref7_New_l1 l z.1 z.2) (giv, 0) = _ from lay_ref hl16 hc l [] giv rfl rfl]
    cases hy : lay giv l with
    | none => rfl
    | some L =>
      obtain ⟨k1, k2, k3⟩ := lay_ok l giv L giv_nd hy
      have hO := lay_okc hy
      have hlen : L.length ≤ 100 := by rw [k1, List.length_append]; have : giv.length = 10 := rfl; omega
      have hpos : 1 ≤ L.length := by rw [k1, List.length_append]; have : giv.length = 10 := rfl; omega
      simp only [Option.bind_some, leave]
      unfold ref7_New_k2
      rw [ref_l7 hlen hpos hO, drop_any k1 (fun c hc => giv_mis k1 hc)]
      cases hmis : l.any (mis L) with
      | true => rfl
      | false =>
        obtain ⟨hL, hS⟩ := laid_of hy hmis
        simp only [cond_false, Option.bind_some, leave, ends]
        unfold ref7_New_k8
        rw [ref_l15 hlen hpos hO hL (drop_super k1 hS), drop_any k1 (fun c hc => giv_bad k1 hL.noE (List.mem_of_mem_drop hc))]
        cases hb : l.any (badF L) with
        | true => rfl
        | false => rfl
structure Made (l L : List ApiClass) : Prop extends Wf L where
  app : L = giv ++ l
  few : l.length ≤ 16
  okc : ∀ c ∈ L, Okc c
  may : ∀ c ∈ l, mayG c = true
theorem Made.len {l L : List ApiClass} (h : Made l L) : L.length ≤ 26 := by
  rw [h.app, List.length_append]; have : giv.length = 10 := rfl; have := h.few; omega
theorem newE_made {l L : List ApiClass} (h : (newE l).1 = some L) : Made l L ∧ (newE l).2 = 0 := by
  unfold newE at h ⊢
  cases hl : decide (16 < (l.length : Int)) with
  | true => rw [hl] at h; cases h
  | false =>
    rw [hl] at h
    have hl := of_decide_eq_false hl
    simp only [cond_false] at h ⊢
    cases hy : lay giv l with
    | none => rw [hy] at h; cases h
    | some L' =>
      rw [hy] at h
      simp only at h ⊢
      cases hmis : l.any (mis L') with
      | true => rw [hmis] at h; cases h
      | false =>
        cases hb : l.any (badF L') with
        | true => rw [hmis, hb] at h; cases h
        | false =>
          rw [hmis, hb] at h
          have e : L' = L := by
            have h : some L' = some L := h
            cases h; rfl
          subst e
          obtain ⟨hL, hS⟩ := laid_of hy hmis
          obtain ⟨k1, k2, k3⟩ := lay_ok l giv L' giv_nd hy
          have bad : ∀ c ∈ L', badF L' c = false := fun c hc => by
            rw [k1] at hc
            rcases List.mem_append.1 hc with e | e
            · exact giv_bad k1 hL.noE e
            · simpa using List.any_eq_false.1 hb c e
          have bad' : ∀ c ∈ L', isF L' c.Super = false ∧ (c.Impl.any (fun s => !isF L' s) = false ∧ cyc L' c.Name = false) := fun c hc => by
            have := bad c hc
            unfold badF at this
            rw [Bool.or_eq_false_iff, Bool.or_eq_false_iff] at this
            exact this
          refine ⟨⟨⟨hL, fun n hr => ?_, fun c hc => (bad' c hc).1, fun c hc s hs => ?_⟩, k1, by omega, lay_okc hy, k3⟩, rfl⟩
          · cases hn : cl L' n with
            | none =>
              have : nxA L' n = [] := by unfold nxA; rw [hn]
              cases hr with
              | one h => rw [this] at h; cases h
              | more h _ => rw [this] at h; cases h
            | some c =>
              have h1 := (bad' c (cl_name hn).1).2.2
              rw [(cl_name hn).2] at h1
              rw [cyc_iff.2 hr] at h1; cases h1
          · have := List.any_eq_false.1 (bad' c hc).2.1 s hs
            simpa using this
end Go.Proofs.YtooagifeniibcaaGreat
namespace Go.Proofs.YtooagifeniibcaaGreat
set_option linter.unusedSimpArgs false
set_option linter.unusedVariables false
section
variable {l L : List ApiClass} {m : List (Tx × Int)}
theorem supers_loop (h : Made l L) (hm : MapOk L m) : ∀ (d : Nat) (n : Tx) (acc : List Tx), supF L d n = true → acc.length + d ≤ 200 → loopP (fun z => hier_Hier_Supers_s2_l1 L m z.1 z.2) (n, acc) = some (.inl (acc ++ sup L d n))
  | 0, n, acc, hf, hd => by
    rw [loopP_eq]
    show (hier_Hier_Supers_s2_l1 L m n acc).bind _ = _
    unfold hier_Hier_Supers_s2_l1 hier_Hier_has
    rw [hm.has]
    have : hasN L n = false := by simpa [supF] using hf
    rw [this]
    simp [sup]
  | d + 1, n, acc, hf, hd => by
    rw [loopP_eq]
    show (hier_Hier_Supers_s2_l1 L m n acc).bind _ = _
    unfold hier_Hier_Supers_s2_l1 hier_Hier_has
    rw [hm.has]
    unfold supF at hf
    unfold sup
    cases hc : cl L n with
    | none => rw [has_not hc]; simp
    | some c =>
      rw [hc] at hf
      rw [has_of hc, get_eq hm (has_of hc), hc, appP_ok (by simp; omega) (by simp; omega)]
      show loopP (fun z => hier_Hier_Supers_s2_l1 L m z.1 z.2) (c.Super, acc ++ [n]) = _
      rw [supers_loop h hm d c.Super (acc ++ [n]) hf (by simp; omega)]
      simp
def supL (L : List ApiClass) (n : Tx) : List Tx := sup L L.length n
theorem supers_eq (h : Made l L) (hm : MapOk L m) (n : Tx) : hier_Hier_Supers_s2 L m n = some (supL L n) := by
  unfold hier_Hier_Supers_s2
  rw [supers_loop h hm L.length n [] (sup_ends h.toWf n) (by have := h.len; simp; omega)]
  rfl
theorem ref_supers_loop (h : Made l L) : ∀ (d : Nat) (n : Tx) (acc : List Tx), supF L d n = true → acc.length + d ≤ 200 → loopP (fun z => ref7_Hier_Supers_s2_l1 L z.1 z.2) (acc, atN L n) = some (.inl (acc ++ sup L d n))
  | 0, n, acc, hf, hd => by
    rw [loopP_eq]
    show (ref7_Hier_Supers_s2_l1 L acc (atN L n)).bind _ = _
    unfold ref7_Hier_Supers_s2_l1
    have : hasN L n = false := by simpa [supF] using hf
    rw [at_has, this]
    simp [sup]
  | d + 1, n, acc, hf, hd => by
    rw [loopP_eq]
    show (ref7_Hier_Supers_s2_l1 L acc (atN L n)).bind _ = _
    unfold ref7_Hier_Supers_s2_l1
    rw [at_has]
    unfold supF at hf
    unfold sup
    cases hc : cl L n with
    | none => rw [has_not hc]; simp
    | some c =>
      rw [hc] at hf
      have := h.len
      rw [has_of hc, idx_ati hc]
      simp only [cond_true, Option.bind_some]
      rw [at_eq (by omega), appP_ok (by simp; omega) (by simp; omega), (cl_name hc).2]
      show loopP (fun z => ref7_Hier_Supers_s2_l1 L z.1 z.2) (acc ++ [n], atN L c.Super) = _
      rw [ref_supers_loop h d c.Super (acc ++ [n]) hf (by simp; omega)]
      simp
theorem ref_supers_eq (h : Made l L) (n : Tx) : ref7_Hier_Supers_s2 L n = some (supL L n) := by
  have := h.len
  unfold ref7_Hier_Supers_s2
  rw [at_eq (by omega)]
  simp only [Option.bind_some]
  rw [ref_supers_loop h L.length n [] (sup_ends h.toWf n) (by simp; omega)]
  rfl
theorem sup_len : ∀ (d : Nat) (n : Tx), (sup L d n).length ≤ d
  | 0, n => by simp [sup]
  | d + 1, n => by
    unfold sup
    cases cl L n with
    | none => simp
    | some c => have := sup_len d c.Super; simpa using this
theorem supL_len (h : Made l L) (n : Tx) : (supL L n).length ≤ 26 := Nat.le_trans (sup_len _ n) h.len
theorem sup_nil (h : Made l L) : ∀ d, sup L d [] = []
  | 0 => rfl
  | d + 1 => by
    unfold sup
    cases hE : cl L [] with
    | none => rfl
    | some c => have := has_of hE; rw [h.noE] at this; cases this
theorem sup_mem (h : Made l L) : ∀ (d : Nat) (n x : Tx), x ∈ sup L d n → hasN L x = true ∧ (x = n ∨ Rc (nxA L) n x) ∧ (x = n ∨ ∃ c ∈ L, x = c.Super)
  | 0, n, x, hx => by simp [sup] at hx
  | d + 1, n, x, hx => by
    unfold sup at hx
    cases hc : cl L n with
    | none => rw [hc] at hx; cases hx
    | some c =>
      rw [hc] at hx
      rcases List.mem_cons.1 hx with e | e
      · subst e; exact ⟨has_of hc, .inl rfl, .inl rfl⟩
      · obtain ⟨h1, h2, h3⟩ := sup_mem h d c.Super x e
        have hne : c.Super ≠ [] := fun e2 => by rw [e2, sup_nil h] at e; cases e
        have h6 : c.Super ∈ nxA L n := by rw [nxA_of hc]; exact List.mem_filter.2 ⟨by simp, by simpa using hne⟩
        refine ⟨h1, .inr ?_, .inr ?_⟩
        · rcases h2 with e2 | e2
          · rw [e2]; exact .one h6
          · exact .more h6 e2
        · rcases h3 with e2 | e2
          · exact ⟨c, (cl_name hc).1, e2⟩
          · exact e2
theorem sup_nodup (h : Made l L) : ∀ (d : Nat) (n : Tx), (sup L d n).Nodup
  | 0, n => by simp [sup]
  | d + 1, n => by
    unfold sup
    cases hc : cl L n with
    | none => simp
    | some c =>
      refine List.nodup_cons.2 ⟨fun hm => ?_, sup_nodup h d c.Super⟩
      have hne : c.Super ≠ [] := fun e2 => by rw [e2, sup_nil h] at hm; cases hm
      have h6 : c.Super ∈ nxA L n := by rw [nxA_of hc]; exact List.mem_filter.2 ⟨by simp, by simpa using hne⟩
      obtain ⟨_, h2, _⟩ := sup_mem h d c.Super n hm
      rcases h2 with e2 | e2
      · exact h.acyc n (.one (by rw [← e2] at h6; exact h6))
      · exact h.acyc n (.more h6 e2)
theorem supL_in (h : Made l L) {n x : Tx} (hx : x ∈ supL L n) : x ∈ L.map (·.Name) := has_iff.1 (sup_mem h _ n x hx).1
theorem supL_self {n : Tx} (hn : hasN L n = true) : n ∈ supL L n := by
  unfold supL
  obtain ⟨c, hc⟩ := has_cl hn
  have : L ≠ [] := fun e => by rw [e] at hn; cases hn
  cases hL : L.length with
  | zero => exact absurd (List.eq_nil_of_length_eq_zero hL) this
  | succ d => unfold sup; rw [hc]; simp
theorem supL_none {n : Tx} (hn : hasN L n = false) : supL L n = [] := by
  unfold supL
  cases L.length with
  | zero => rfl
  | succ d =>
    unfold sup
    cases hc : cl L n with
    | none => rfl
    | some c => rw [has_of hc] at hn; cases hn
end
theorem less_iff : ∀ (a b : List UInt8), Op.bytesLess a b = true ↔ a < b
  | a, [] => by
    have e : Op.bytesLess a [] = false := by cases a <;> rfl
    rw [e]
    constructor
    · intro h; cases h
    · intro h; exact absurd h (List.not_lt_nil a)
  | [], b :: y => by
    constructor
    · intro _; exact List.nil_lt_cons b y
    · intro _; rfl
  | a :: x, b :: y => by
    rw [List.cons_lt_cons_iff, ← less_iff x y]
    show (decide (a < b) || (a == b && Op.bytesLess x y)) = true ↔ _
    rw [Bool.or_eq_true, decide_eq_true_eq, Bool.and_eq_true, beq_iff_eq]
theorem insW_take : ∀ (s : Tx) (l : List Tx), insW s l = l.takeWhile (fun x => Op.bytesLess x s) ++ s :: l.dropWhile (fun x => Op.bytesLess x s)
  | s, [] => rfl
  | s, x :: r => by
    unfold insW
    rw [List.takeWhile_cons, List.dropWhile_cons]
    by_cases h : s ≤ x
    · rw [if_pos h]
      have : ¬ (Op.bytesLess x s = true) := fun h2 => absurd ((less_iff x s).1 h2) (List.not_lt.2 h)
      rw [if_neg this, if_neg this]; rfl
    · rw [if_neg h]
      have : Op.bytesLess x s = true := (less_iff x s).2 (List.not_le.1 h)
      rw [if_pos this, if_pos this, insW_take s r]; rfl
theorem ref_sorted_loop {s : Tx} {l : List Tx} (hl : l.length ≤ 1000) : ∀ (r pre : List Tx), l = pre ++ r → loopP (fun z => ref7_sorted_l1 l s z) (pre.length : Int) = some (.inl ((pre.length + (r.takeWhile (fun x => Op.bytesLess x s)).length : Nat) : Int))
  | [], pre, e => by
    rw [List.append_nil] at e
    rw [loopP_eq]
    show (ref7_sorted_l1 l s (pre.length : Int)).bind _ = _
    unfold ref7_sorted_l1
    rw [← e, past]; rfl
  | x :: r, pre, e => by
    have hlen : l.length = pre.length + (r.length + 1) := by rw [e]; simp
    have hx : l[pre.length]? = some x := by rw [e]; simp
    rw [loopP_eq]
    show (ref7_sorted_l1 l s (pre.length : Int)).bind _ = _
    unfold ref7_sorted_l1
    rw [here hx, idx_nat, hx, List.takeWhile_cons, wrap_succ (by omega)]
    cases hb : Op.bytesLess x s with
    | false => simp [hb]
    | true =>
      simp only [cond_true, Option.bind_some, hb, if_true]
      show loopP (fun z => ref7_sorted_l1 l s z) ((pre.length + 1 : Nat) : Int) = _
      have := ref_sorted_loop (s := s) hl r (pre ++ [x]) (by rw [e]; simp)
      rw [show (pre ++ [x]).length = pre.length + 1 by simp] at this
      rw [this, List.length_cons]
      congr 2
      omega
theorem take_tw {α : Type} (p : α → Bool) : ∀ (l : List α), l.take (l.takeWhile p).length = l.takeWhile p ∧ l.drop (l.takeWhile p).length = l.dropWhile p ∧ (l.takeWhile p).length ≤ l.length
  | [] => by simp
  | x :: r => by
    rw [List.takeWhile_cons, List.dropWhile_cons]
    cases p x with
    | false => simp
    | true =>
      obtain ⟨h1, h2, h3⟩ := take_tw p r
      simp [h1, h2, h3]
theorem ref_sorted_eq {s : Tx} {l : List Tx} (hl : l.length ≤ 900) : ref7_sorted l s = some (insW s l) := by
  unfold ref7_sorted
  obtain ⟨h1, h2, h3⟩ := take_tw (fun x => Op.bytesLess x s) l
  rw [show loopP (fun z => ref7_sorted_l1 l s z) 0 = _ from ref_sorted_loop (by omega) l [] rfl]
  simp only [Option.bind_some, leave, List.length_nil, Nat.zero_add]
  unfold ref7_sorted_k2
  rw [cutP_to h3, h1]
  simp only [Option.bind_some]
  rw [appP_ok (w := 16) (l := []) (by simp; omega) (by simp; omega)]
  simp only [Option.bind_some, List.nil_append]
  rw [cutP_from h3, h2]
  simp only [Option.bind_some]
  rw [appP_ok (w := 16) (x := [s]) (by simp; omega) (by simp; omega)]
  simp only [Option.bind_some]
  have h4 : (l.dropWhile (fun x => Op.bytesLess x s)).length ≤ l.length := by rw [← h2, List.length_drop]; omega
  rw [appP_ok (w := 16) (by simp; omega) (by simp; omega), insW_take]
  simp
theorem count_nodup : ∀ {l : List Tx} (a : Tx), l.Nodup → l.count a = if a ∈ l then 1 else 0
  | [], a, _ => by simp
  | x :: r, a, h => by
    rw [List.nodup_cons] at h
    rw [List.count_cons, count_nodup a h.2]
    by_cases e : x = a
    · subst e
      simp [h.1]
    · have : a ≠ x := fun e2 => e e2.symm
      simp [e, this]
theorem perm_nodup {a b : List Tx} (ha : a.Nodup) (hb : b.Nodup) (h : ∀ x, x ∈ a ↔ x ∈ b) : a.Perm b := by
  rw [List.perm_iff_count]
  intro x
  rw [count_nodup x ha, count_nodup x hb]
  by_cases hx : x ∈ a
  · rw [if_pos hx, if_pos ((h x).1 hx)]
  · rw [if_neg hx, if_neg (fun hb => hx ((h x).2 hb))]
theorem sorted_eq {a b : List Tx} (ha : a.Pairwise (· ≤ ·)) (hb : b.Pairwise (· ≤ ·)) (h : a.Perm b) : a = b :=
  List.Perm.eq_of_pairwise (fun a b _ _ h1 h2 => List.le_antisymm h1 h2) ha hb h
theorem bfs_nodup {nx : Tx → List Tx} : ∀ (d i : Nat) (seen : List Tx), seen.Nodup → (bfs nx d i seen).Nodup
  | 0, i, seen, h => h
  | d + 1, i, seen, h => by
    unfold bfs
    cases seen[i]? with
    | none => exact h
    | some x =>
      refine bfs_nodup d (i + 1) _ ?_
      obtain ⟨t, k1, k2, k3, k4⟩ := push_app (nx x) seen
      rw [k1]
      exact List.nodup_append.2 ⟨h, k2, fun a ha b hb e => (k3 b hb).1 (by rw [← e]; exact ha)⟩
theorem gather_loop {R : Type} {I : List Tx → Prop} {nx : Tx → List Tx} {p : Tx → Bool} {body : List Tx × List Tx × Int → Option (Sum (List Tx × List Tx × Int) (Sum (List Tx) R))}
    (hb : ∀ (i : Nat) acc seen x, I seen → acc.length ≤ i → seen[i]? = some x → body (acc, seen, (i : Int)) = some (.inl (cond (p x) (acc ++ [x]) acc, push seen (nx x), ((i + 1 : Nat) : Int))))
    (he : ∀ (i : Nat) acc seen, I seen → seen.length ≤ i → body (acc, seen, (i : Int)) = some (.inr (.inl acc)))
    (hp : ∀ seen x, I seen → x ∈ seen → I (push seen (nx x))) : ∀ (d i : Nat) (acc seen : List Tx), I seen → acc.length ≤ i → fin nx d i seen = true →
    loopP body (acc, seen, (i : Int)) = some (.inl (acc ++ ((bfs nx d i seen).drop i).filter p))
  | 0, i, acc, seen, hI, ha, hf => by
    have hl : seen.length ≤ i := of_decide_eq_true hf
    rw [loopP_eq, he i acc seen hI hl]
    show some (Sum.inl acc : Sum (List Tx) R) = some (Sum.inl (acc ++ ((seen.drop i).filter p)))
    rw [List.drop_eq_nil_of_le hl]
    simp
  | d + 1, i, acc, seen, hI, ha, hf => by
    unfold fin at hf
    unfold bfs
    cases hi : seen[i]? with
    | none =>
      have hl : seen.length ≤ i := List.getElem?_eq_none_iff.1 hi
      rw [loopP_eq, he i acc seen hI hl]
      show some (Sum.inl acc : Sum (List Tx) R) = some (Sum.inl (acc ++ ((seen.drop i).filter p)))
      rw [List.drop_eq_nil_of_le hl]
      simp
    | some x =>
      rw [hi] at hf
      obtain ⟨t, ht⟩ := bfs_grow (nx := nx) d (i + 1) (push seen (nx x))
      obtain ⟨u, hu, _⟩ := push_app (nx x) seen
      have hx : (bfs nx d (i + 1) (push seen (nx x)))[i]? = some x := by
        rw [ht, hu, List.append_assoc, List.getElem?_append_left (List.getElem?_eq_some_iff.1 hi).1, hi]
      obtain ⟨hlt, hge⟩ := List.getElem?_eq_some_iff.1 hx
      have ih := fun a ha => gather_loop hb he hp d (i + 1) a _ (hp _ _ hI (List.mem_of_getElem? hi)) ha hf
      rw [loopP_eq, hb i acc seen x hI ha hi]
      show loopP body (cond (p x) (acc ++ [x]) acc, push seen (nx x), ((i + 1 : Nat) : Int)) = some (.inl (acc ++ ((bfs nx d (i + 1) (push seen (nx x))).drop i).filter p))
      rw [ih _ (by cases p x <;> simp <;> omega), List.drop_eq_getElem_cons hlt, hge]
      cases hpx : p x with
      | true => rw [List.filter_cons_of_pos hpx]; simp
      | false => rw [List.filter_cons_of_neg (by rw [hpx]; exact Bool.false_ne_true)]; rfl
def todoL (L : List ApiClass) (n : Tx) : List Tx := bfs (nxI L) 100 0 (supL L n)
def facesL (L : List ApiClass) (n : Tx) : List Tx := isortW ((todoL L n).filter (isF L))
section
variable {l L : List ApiClass} {m : List (Tx × Int)}
theorem todo_fin (h : Made l L) (n : Tx) : fin (nxI L) 100 0 (supL L n) = true :=
  fin_of (U := List.map (fun c : ApiClass => c.Name) L) (s0 := supL L n) h.nxI_in _ _ _ .start (by have := supL_len h n; have := h.len; simp; omega)
theorem todo_inv (h : Made l L) (n : Tx) : Inv (List.map (fun c : ApiClass => c.Name) L) (supL L n) (todoL L n) := bfs_inv h.nxI_in _ _ _ .start
theorem todo_len (h : Made l L) (n : Tx) : (todoL L n).length ≤ 52 := by
  have h1 := (todo_inv h n).len
  have h2 := supL_len h n
  have h3 := h.len
  simp only [List.length_map] at h1
  omega
theorem todo_in (h : Made l L) {n x : Tx} (hx : x ∈ todoL L n) : hasN L x = true := has_iff.2 ((todo_inv h n).mem (fun y hy => supL_in h hy) x hx)
theorem nxI_of {n : Tx} {c : ApiClass} (hc : cl L n = some c) : nxI L n = c.Impl := by unfold nxI; rw [hc]
theorem faces_push {R : Type} {body : List Tx × Int → Option (Sum (List Tx × Int) (Sum (List Tx) R))} {l : List Tx} (hl : l.length ≤ 100)
    (hb : ∀ (i : Nat) x seen, seen.length ≤ 1000 → l[i]? = some x → body (seen, (i : Int)) = some (.inl (cond (!(seen.any fun y => x == y)) (seen ++ [x]) seen, IntKind.i64.wrap ((i : Int) + 1))))
    (he : ∀ seen, body (seen, (l.length : Int)) = some (.inr (.inl seen))) (seen : List Tx) (hs : seen.length ≤ 800) : loopP body (seen, 0) = some (.inl (push seen l)) := by
  have := push_loop (p := fun _ => true) hl (fun i x s h hx => by rw [hb i x s h hx]; rfl) he l [] seen rfl (by omega)
  rw [List.filter_eq_self.2 (fun _ _ => rfl)] at this
  exact this
theorem faces3_eq (h : Made l L) (hm : MapOk L m) (n : Tx) : hier_Hier_Faces_s3 L m n = some (facesL L n) := by
  unfold hier_Hier_Faces_s3 hier_Hier_has
  rw [hm.has]
  cases hn : hasN L n with
  | false =>
    unfold facesL todoL
    rw [supL_none hn]
    rfl
  | true =>
    rw [supers_eq h hm]
    simp only [Bool.not_true, cond_false, Option.bind_some]
    have h26 := h.len
    have hs26 := supL_len h n
    have hl := gather_loop (R := List Tx) (I := fun s => Inv (List.map (fun c : ApiClass => c.Name) L) (supL L n) s) (nx := nxI L) (p := isF L) (body := fun z => hier_Hier_Faces_s3_l11 L m z.1 z.2.1 z.2.2)
      (fun i acc seen x hI ha hx => by
        have hsl := hI.len
        simp only [List.length_map] at hsl
        have hxm : hasN L x = true := has_iff.2 (hI.mem (fun y hy => supL_in h hy) x (List.mem_of_getElem? hx))
        obtain ⟨c, hc⟩ := has_cl hxm
        have h4 := (h.okc c (cl_name hc).1).impl
        have hilt := (List.getElem?_eq_some_iff.1 hx).1
        have hp : ∀ acc', hier_Hier_Faces_s3_j6 seen (i : Int) c acc' = some (.inl (acc', push seen c.Impl, ((i + 1 : Nat) : Int))) := fun acc' => by
          unfold hier_Hier_Faces_s3_j6
          rw [faces_push (l := c.Impl) (by omega) (fun j y s hs hy => by
            show hier_Hier_Faces_s3_l9 c s (j : Int) = _
            unfold hier_Hier_Faces_s3_l9 hier_Hier_Faces_s3_j8
            rw [here hy, idx_nat, hy]
            simp only [cond_true, Option.bind_some]
            rw [hasText' hs, appP_ok (w := 16) (l := s) (x := [y]) (by simp; omega) (by simp; omega)]
            cases (s.any fun z => y == z) <;> rfl) (fun s => by
            show hier_Hier_Faces_s3_l9 c s (c.Impl.length : Int) = _
            unfold hier_Hier_Faces_s3_l9
            rw [past]; rfl) seen (by omega)]
          simp only [Option.bind_some, leave]
          unfold hier_Hier_Faces_s3_k10
          rw [wrap_succ (by omega)]
        show hier_Hier_Faces_s3_l11 L m acc seen (i : Int) = _
        unfold hier_Hier_Faces_s3_l11
        rw [here hx, idx_nat, hx]
        simp only [cond_true, Option.bind_some]
        rw [get_eq hm hxm, hc]
        simp only [Option.bind_some]
        rw [hp, appP_ok (w := 16) (l := acc) (x := [c.Name]) (by simp; omega) (by simp; omega)]
        simp only [Option.bind_some]
        rw [hp, nxI_of hc, (cl_name hc).2]
        have e : isF L x = c.Interface := by unfold isF; rw [hc]
        rw [e]
        cases c.Interface <;> rfl)
      (fun i acc seen hI hle => by
        show hier_Hier_Faces_s3_l11 L m acc seen (i : Int) = _
        unfold hier_Hier_Faces_s3_l11
        rw [decide_eq_false (by omega)]; rfl)
      (fun seen y hI hy => hI.push (h.nxI_in y)) 100 0 [] (supL L n) .start (by simp) (todo_fin h n)
    rw [show loopP (fun z => hier_Hier_Faces_s3_l11 L m z.1 z.2.1 z.2.2) ([], supL L n, 0) = _ from hl]
    simp only [Option.bind_some, leave, List.drop_zero, List.nil_append]
    unfold hier_Hier_Faces_s3_k12 sortW
    have h1 : ((bfs (nxI L) 100 0 (supL L n)).filter (isF L)).length ≤ 52 := Nat.le_trans (List.length_filter_le _ _) (todo_len h n)
    rw [if_pos (by omega)]
    rfl
theorem faces_sorted (n : Tx) : (facesL L n).Pairwise (· ≤ ·) := isortW_sorted _
theorem faces_mem {n x : Tx} : x ∈ facesL L n ↔ x ∈ todoL L n ∧ isF L x = true := by
  unfold facesL
  rw [(isortW_perm _).mem_iff, List.mem_filter]
theorem todo_nodup (h : Made l L) (n : Tx) : (todoL L n).Nodup := bfs_nodup _ _ _ (sup_nodup h _ n)
theorem todo_sup {n x : Tx} (hx : x ∈ supL L n) : x ∈ todoL L n := by
  obtain ⟨t, e⟩ := bfs_grow (nx := nxI L) 100 0 (supL L n)
  unfold todoL
  rw [e]; exact List.mem_append_left _ hx
theorem todo_step (h : Made l L) {n x y : Tx} (hx : x ∈ todoL L n) (hy : y ∈ nxI L x) : y ∈ todoL L n :=
  bfs_closed 100 0 _ (todo_fin h n) (fun j x hj => by omega) x hx y hy
end
end Go.Proofs.YtooagifeniibcaaGreat
namespace Go.Proofs.YtooagifeniibcaaGreat
set_option linter.unusedSimpArgs false
set_option linter.unusedVariables false
theorem ref_has_eq {l : List Tx} (hl : l.length ≤ 1000) (n : Tx) : ref7_has l n = some (l.any fun y => y == n) := by
  unfold ref7_has
  rw [show loopP (fun z => ref7_has_l1 l n z) 0 = some (ends () (cond (l.any fun y => y == n) (some true) none)) from by
    rw [← findSome_any]
    refine loop_list (fun i x hx => ?_) ?_
    · show ref7_has_l1 l n (i : Int) = _
      have hi := (List.getElem?_eq_some_iff.1 hx).1
      unfold ref7_has_l1
      rw [here hx, idx_nat, hx, wrap_succ (by omega)]
      simp only [cond_true, Option.bind_some]
      cases x == n <;> rfl
    · show ref7_has_l1 l n (l.length : Int) = _
      unfold ref7_has_l1
      rw [past]; rfl]
  cases (l.any fun y => y == n) <;> rfl
section
variable {l L : List ApiClass}
def actF (L : List ApiClass) (n : Tx) (k : Nat) : Bool := match L[k]? with | some c => (supL L n).any (fun y => y == c.Name) | none => false
theorem faces_marks (h : Made l L) {c : ApiClass} (hc : c ∈ L) {inn : List Bool} (hi : inn.length = L.length) (more : Bool) :
    loopP (fun z => ref7_Hier_Faces_l21 L c z.1 z.2.1 z.2.2) (inn, more, 0) = some (.inl (mkS L inn c.Impl, more || c.Impl.any (newB L inn))) := by
  have h26 := h.len
  have h4 := (h.okc c hc).impl
  refine marks_loop (l := c.Impl) (by omega) (fun j s inn more hi hs => ?_) (fun inn more => ?_) c.Impl [] inn more rfl hi
  · show ref7_Hier_Faces_l21 L c inn more (j : Int) = _
    have hsm := List.mem_of_getElem? hs
    have hh : hasN L s = true := h.closed c hc s (List.mem_cons_of_mem _ hsm) ((h.okc c hc).implE s hsm)
    unfold ref7_Hier_Faces_l21 ref7_Hier_Faces_j20
    rw [here hs, idx_nat, hs]
    simp only [cond_true, Option.bind_some]
    rw [at_eq (by omega)]
    simp only [Option.bind_some]
    unfold mk1 newB
    obtain ⟨g1, g2⟩ := at_lt hh
    have e : idx inn (atN L s) = some (onB inn (atN L s).toNat) := by
      unfold idx onB
      rw [if_pos g1, List.getD_eq_getElem?_getD, List.getElem?_eq_getElem (by omega)]; rfl
    rw [e, hh]
    simp only [Option.bind_some, Bool.true_and]
    cases onB inn (atN L s).toNat <;> simp
  · show ref7_Hier_Faces_l21 L c inn more (c.Impl.length : Int) = _
    unfold ref7_Hier_Faces_l21
    rw [past]; rfl
theorem faces_pass (h : Made l L) (n : Tx) {inn : List Bool} (hi : inn.length = L.length) (more : Bool) :
    loopP (fun z => ref7_Hier_Faces_l24 L (supL L n) z.1 z.2.1 z.2.2) (inn, more, 0) = some (.inl (passF L (·.Impl) (actF L n) inn 0 L, more || passG L (·.Impl) (actF L n) inn 0 L)) := by
  have h26 := h.len
  have hs26 := supL_len h n
  refine pass_loop (st := fun a b c => (a, b, c)) (nx := (·.Impl)) (act := actF L n) (by omega) (fun k c inn more hi hc => ?_) (fun inn more => ?_) L [] inn more rfl hi
  · show ref7_Hier_Faces_l24 L (supL L n) inn more (k : Int) = _
    have hk := (List.getElem?_eq_some_iff.1 hc).1
    have e : actF L n k = (supL L n).any (fun y => y == c.Name) := by unfold actF; rw [hc]
    unfold ref7_Hier_Faces_l24
    rw [here hc, on_idx (by omega), idx_nat, hc]
    simp only [cond_true, Option.bind_some]
    rw [ref_has_eq (by omega), faces_marks h (List.mem_of_getElem? hc) hi, e]
    unfold ref7_Hier_Faces_k22 ref7_Hier_Faces_j23
    rw [wrap_succ (by omega)]
    cases onB inn k <;> cases ((supL L n).any (fun y => y == c.Name)) <;> rfl
  · show ref7_Hier_Faces_l24 L (supL L n) inn more (L.length : Int) = _
    unfold ref7_Hier_Faces_l24
    rw [past]; rfl
def onNames (F : List Bool) : Nat → List ApiClass → List Tx
  | _, [] => []
  | k, c :: r => cond (onB F k) (c.Name :: onNames F (k + 1) r) (onNames F (k + 1) r)
theorem onNames_mem {F : List Bool} : ∀ (r : List ApiClass) (k : Nat) (x : Tx), x ∈ onNames F k r ↔ ∃ (j : Nat) (c : ApiClass), r[j]? = some c ∧ onB F (k + j) = true ∧ c.Name = x
  | [], k, x => by
    constructor
    · intro h; cases h
    · rintro ⟨j, c, h, _⟩; simp at h
  | c :: r, k, x => by
    have ih := onNames_mem (F := F) r (k + 1) x
    have back : (∃ (j : Nat) (d : ApiClass), r[j]? = some d ∧ onB F (k + 1 + j) = true ∧ d.Name = x) ↔ ∃ (j : Nat) (d : ApiClass), 0 < j ∧ (c :: r)[j]? = some d ∧ onB F (k + j) = true ∧ d.Name = x := by
      constructor
      · rintro ⟨j, d, h1, h2, h3⟩
        exact ⟨j + 1, d, by omega, by simpa using h1, by rw [show k + (j + 1) = k + 1 + j by omega]; exact h2, h3⟩
      · rintro ⟨j, d, h0, h1, h2, h3⟩
        cases j with
        | zero => omega
        | succ j => exact ⟨j, d, by simpa using h1, by rw [show k + 1 + j = k + (j + 1) by omega]; exact h2, h3⟩
    unfold onNames
    cases hb : onB F k with
    | true =>
      rw [cond_true, List.mem_cons, ih, back]
      constructor
      · rintro (e | ⟨j, d, _, h1⟩)
        · exact ⟨0, c, rfl, hb, e.symm⟩
        · exact ⟨j, d, h1⟩
      · rintro ⟨j, d, h1, h2, h3⟩
        cases j with
        | zero => left; have : c = d := by simpa using h1
                  rw [this]; exact h3.symm
        | succ j => exact .inr ⟨j + 1, d, by omega, h1, h2, h3⟩
    | false =>
      rw [cond_false, ih, back]
      constructor
      · rintro ⟨j, d, _, h1⟩; exact ⟨j, d, h1⟩
      · rintro ⟨j, d, h1, h2, h3⟩
        cases j with
        | zero => rw [Nat.add_zero, hb] at h2; cases h2
        | succ j => exact ⟨j + 1, d, by omega, h1, h2, h3⟩
theorem onNames_nodup {F : List Bool} : ∀ (r pre : List ApiClass), Nd (pre ++ r) → (onNames F pre.length r).Nodup
  | [], pre, h => by simp [onNames]
  | c :: r, pre, h => by
    have ih := onNames_nodup (F := F) r (pre ++ [c]) (by simpa using h)
    rw [show (pre ++ [c]).length = pre.length + 1 by simp] at ih
    unfold onNames
    cases onB F pre.length with
    | false => exact ih
    | true =>
      refine List.nodup_cons.2 ⟨fun hm => ?_, ih⟩
      obtain ⟨j, d, h1, _, h3⟩ := (onNames_mem r _ _).1 hm
      have := h pre.length (pre.length + (j + 1)) c d (by simp) (by rw [List.getElem?_append_right (by omega), show pre.length + (j + 1) - pre.length = j + 1 by omega]; simpa using h1) h3.symm
      omega
def sortIn (acc : List Tx) : List Tx → List Tx
  | [] => acc
  | x :: r => sortIn (insW x acc) r
theorem sortIn_perm : ∀ (r acc : List Tx), (sortIn acc r).Perm (acc ++ r)
  | [], acc => by simp [sortIn]
  | x :: r, acc => (sortIn_perm r (insW x acc)).trans (by
    refine ((insW_perm x acc).append_right r).trans ?_
    exact (List.perm_middle (l₁ := acc) (l₂ := r) (a := x)).symm)
theorem sortIn_sorted : ∀ (r acc : List Tx), acc.Pairwise (· ≤ ·) → (sortIn acc r).Pairwise (· ≤ ·)
  | [], acc, h => h
  | x :: r, acc, h => sortIn_sorted r _ (insW_sorted x h)
theorem insW_len (x : Tx) (l : List Tx) : (insW x l).length = l.length + 1 := by rw [(insW_perm x l).length_eq]; rfl
theorem collect_loop {F : List Bool} (hl : L.length ≤ 100) (hF : F.length = L.length) : ∀ (r pre : List ApiClass) (acc : List Tx), L = pre ++ r → acc.length ≤ pre.length →
    loopP (fun z => ref7_Hier_Faces_l30 L F z.1 z.2) (acc, (pre.length : Int)) = some (.inl (sortIn acc (onNames F pre.length r)))
  | [], pre, acc, e, ha => by
    rw [List.append_nil] at e
    rw [loopP_eq]
    show (ref7_Hier_Faces_l30 L F acc (pre.length : Int)).bind _ = _
    unfold ref7_Hier_Faces_l30
    rw [← e, past]; rfl
  | c :: r, pre, acc, e, ha => by
    have hlen : L.length = pre.length + (r.length + 1) := by rw [e]; simp
    have hx : L[pre.length]? = some c := by rw [e]; simp
    have ih := fun a ha => collect_loop hl hF r (pre ++ [c]) a (by rw [e]; simp) ha
    rw [show (pre ++ [c]).length = pre.length + 1 by simp] at ih
    rw [loopP_eq]
    show (ref7_Hier_Faces_l30 L F acc (pre.length : Int)).bind _ = _
    unfold ref7_Hier_Faces_l30
    rw [here hx, on_idx (by omega), idx_nat, hx]
    simp only [cond_true, Option.bind_some]
    rw [ref_sorted_eq (by omega)]
    unfold ref7_Hier_Faces_j29 onNames
    rw [wrap_succ (by omega)]
    cases onB F pre.length with
    | false =>
      show loopP (fun z => ref7_Hier_Faces_l30 L F z.1 z.2) (acc, ((pre.length + 1 : Nat) : Int)) = _
      exact ih acc (by omega)
    | true =>
      show loopP (fun z => ref7_Hier_Faces_l30 L F z.1 z.2) (insW c.Name acc, ((pre.length + 1 : Nat) : Int)) = _
      exact ih _ (by rw [insW_len]; omega)
theorem at_get (h : Made l L) {s : Tx} (hh : hasN L s = true) : ∃ d, L[(atN L s).toNat]? = some d ∧ d.Name = s := by
  obtain ⟨d, hd⟩ := has_cl hh
  have e := idx_at L s
  rw [hd] at e
  obtain ⟨g1, g2⟩ := at_lt hh
  refine ⟨d, ?_, (cl_name hd).2⟩
  unfold idx at e
  rw [if_pos g1] at e
  exact e
theorem faces_j1 (h : Made l L) {n : Tx} (hn : hasN L n = true) {inn : List Bool} (hi : inn.length = L.length)
    (h0 : ∀ k, onB inn k = true ↔ (isF L n = true ∧ k = (atN L n).toNat)) : ref7_Hier_Faces_j1 L n inn = some (facesL L n) := by
  have h26 := h.len
  let Q : Nat → Prop := fun k => ∃ c, L[k]? = some c ∧ c.Name ∈ todoL L n ∧ c.Interface = true
  have isF_of : ∀ {k : Nat} {c : ApiClass}, L[k]? = some c → isF L c.Name = c.Interface := fun {k c} hk => by
    unfold isF; rw [h.nd.cl (List.mem_of_getElem? hk)]
  have hq0 : ∀ k, onB inn k = true → Q k := fun k hk => by
    obtain ⟨h1, h2⟩ := (h0 k).1 hk
    obtain ⟨d, hd, hd2⟩ := at_get h hn
    refine ⟨d, by rw [h2]; exact hd, by rw [hd2]; exact todo_sup (supL_self hn), ?_⟩
    rw [← isF_of hd, hd2]; exact h1
  have hQ : ∀ (j : Nat) c, L[j]? = some c → (Q j ∨ actF L n j = true) → ∀ s ∈ c.Impl, hasN L s = true → Q (atN L s).toNat := fun j c hj hor s hs hh => by
    have hcT : c.Name ∈ todoL L n := by
      rcases hor with ⟨c', hc', hm, _⟩ | ha
      · rw [hj] at hc'; cases hc'; exact hm
      · unfold actF at ha
        rw [hj] at ha
        have ha : (supL L n).any (fun y => y == c.Name) = true := ha
        rw [List.any_eq_true] at ha
        obtain ⟨y, hy, e⟩ := ha
        rw [← eq_of_beq e]; exact todo_sup hy
    obtain ⟨d, hd, hd2⟩ := at_get h hh
    refine ⟨d, hd, ?_, ?_⟩
    · rw [hd2]
      exact todo_step h hcT (by rw [nxI_of (h.nd.cl (List.mem_of_getElem? hj))]; exact hs)
    · rw [← isF_of hd, hd2]; exact h.implF c (List.mem_of_getElem? hj) s hs
  obtain ⟨F, k1, k2, k3, k4, k5⟩ := outer_loop (L := L) (nx := (·.Impl)) (act := actF L n) (R := List Tx) (st := fun a b => (a, b)) (body := fun z => ref7_Hier_Faces_l26 L (supL L n) z.1 z.2) (Q := Q)
    (fun inn hi => by
      show ref7_Hier_Faces_l26 L (supL L n) inn true = _
      unfold ref7_Hier_Faces_l26
      rw [faces_pass h n hi false]
      rfl) (fun inn hi => rfl) hQ L.length inn hi (by omega) hq0
  unfold ref7_Hier_Faces_j1
  rw [ref_supers_eq h]
  simp only [Option.bind_some]
  rw [k1]
  simp only [Option.bind_some, leave]
  unfold ref7_Hier_Faces_k27
  rw [show loopP (fun z => ref7_Hier_Faces_l30 L F z.1 z.2) ([], 0) = _ from collect_loop (by omega) k2 L [] [] rfl (by simp)]
  simp only [Option.bind_some, leave]
  show some (sortIn [] (onNames F 0 L)) = _
  congr 1
  refine sorted_eq (sortIn_sorted _ _ (by simp)) (faces_sorted n) ((sortIn_perm _ _).trans ?_)
  rw [List.nil_append]
  refine (perm_nodup (onNames_nodup (F := F) L [] h.nd) ((todo_nodup h n).filter (isF L)) fun x => ?_).trans (isortW_perm _).symm
  show x ∈ onNames F 0 L ↔ _
  rw [onNames_mem, List.mem_filter]
  constructor
  · rintro ⟨j, c, h1, h2, h3⟩
    rw [Nat.zero_add] at h2
    obtain ⟨c', hc', hm, hI⟩ := k5 j h2
    rw [h1] at hc'; cases hc'
    rw [← h3]
    exact ⟨hm, by rw [isF_of h1]; exact hI⟩
  · rintro ⟨hx, hxF⟩
    have key : ∀ y ∈ todoL L n, y ∈ todoL L n ∧ (y ∈ supL L n ∨ onB F (atN L y).toNat = true) := by
      refine bfs_sound (Q := fun y => y ∈ todoL L n ∧ (y ∈ supL L n ∨ onB F (atN L y).toNat = true)) (fun y hy z hz => ?_) 100 0 _ (fun y hy => ⟨todo_sup hy, .inl hy⟩)
      refine ⟨todo_step h hy.1 hz, .inr ?_⟩
      have hyh := todo_in h hy.1
      obtain ⟨d, hd, hd2⟩ := at_get h hyh
      have hzh := todo_in h (todo_step h hy.1 hz)
      rw [← hd2, nxI_of (h.nd.cl (List.mem_of_getElem? hd))] at hz
      refine k3 _ d hd ?_ z hz hzh
      rw [Bool.or_eq_true]
      rcases hy.2 with h1 | h1
      · right
        unfold actF
        rw [hd]
        show (supL L n).any (fun w => w == d.Name) = true
        rw [hd2, List.any_eq_true]
        exact ⟨y, h1, beq_self_eq_true _⟩
      · exact .inl h1
    have hxh := todo_in h hx
    obtain ⟨d, hd, hd2⟩ := at_get h hxh
    refine ⟨(atN L x).toNat, d, hd, ?_, hd2⟩
    rw [Nat.zero_add]
    rcases (key x hx).2 with h1 | h1
    · rcases (sup_mem h _ n x h1).2.2 with e | ⟨c, hc, e⟩
      · subst e
        exact k4 _ ((h0 _).2 ⟨hxF, rfl⟩)
      · rw [e, h.superF c hc] at hxF; cases hxF
    · exact h1
theorem ref_faces_eq (h : Made l L) (n : Tx) : ref7_Hier_Faces L n = some (facesL L n) := by
  have h26 := h.len
  unfold ref7_Hier_Faces
  rw [show mkP 1 (L.length : Int) = some L.length by unfold mkP; rw [if_pos (by omega), Int.toNat_natCast], at_eq (by omega)]
  simp only [Option.bind_some]
  rw [at_neg]
  have hrep : (List.replicate L.length false).length = L.length := by simp
  have hoff : ∀ n, onB (List.replicate L.length false) n = false := fun n => by
    unfold onB
    rw [List.getD_eq_getElem?_getD, List.getElem?_replicate]
    split <;> rfl
  cases hn : hasN L n with
  | false =>
    unfold facesL todoL
    rw [supL_none hn]
    rfl
  | true =>
    obtain ⟨c, hc⟩ := has_cl hn
    obtain ⟨g1, g2⟩ := at_lt hn
    have eF : isF L n = c.Interface := by unfold isF; rw [hc]
    rw [idx_ati hc]
    simp only [Bool.not_true, cond_false, Option.bind_some]
    cases hI : c.Interface with
    | false =>
      simp only [cond_false]
      refine faces_j1 h hn hrep fun k => ?_
      rw [hoff, eF, hI]
      simp
    | true =>
      have e : idx (List.replicate L.length false) (atN L n) = some false := by
        unfold idx
        rw [if_pos g1, List.getElem?_replicate, if_pos g2]
      rw [e]
      simp only [cond_true, Option.bind_some]
      refine faces_j1 h hn (by simp) fun k => ?_
      rw [on_set (by rw [hrep]; exact g2), hoff, Bool.false_or, eF, hI, Nat.beq_eq]
      simp
end
end Go.Proofs.YtooagifeniibcaaGreat
namespace Go.Proofs.YtooagifeniibcaaGreat
set_option linter.unusedSimpArgs false
set_option linter.unusedVariables false
def brk : Tx → Bool
  | [] => false
  | x :: _ => x == 91
def ess (s : Tx) : Tx := trim1 (trim1 s)
theorem trim_not {s : Tx} (h : brk s = false) : trim1 s = s := by
  cases s with
  | nil => rfl
  | cons x r =>
    rw [trim1_cons, if_neg]
    intro e
    subst e
    cases h
theorem trim_brk {s : Tx} (h : brk s = true) : trim1 s = s.drop 1 ∧ s = 91 :: s.drop 1 := by
  cases s with
  | nil => cases h
  | cons x r =>
    have : x = 91 := by simpa [brk] using h
    subst this
    exact ⟨rfl, rfl⟩
theorem classN_brk {s : Tx} (h : classN s = true) : brk s = false := by
  cases s with
  | nil => rfl
  | cons x r =>
    cases hb : (x == 91) with
    | false => exact hb
    | true =>
      have : x = 91 := by simpa using hb
      subst this
      unfold classN at h
      rw [Bool.and_eq_true] at h
      have h2 : kind_great 91 = true := h.2
      exact absurd h2 (by decide +kernel)
theorem classN_I {s : Tx} (h : classN s = true) : (s == [73]) = false := by
  cases hb : (s == [73]) with
  | false => rfl
  | true =>
    have : s = [73] := by simpa using hb
    subst this
    unfold classN at h
    simp at h
theorem classN_may {s : Tx} (h : classN s = true) : mayN s = true := by
  unfold mayN
  rw [trim_not (classN_brk h), trim_not (classN_brk h), h, Bool.or_true]
theorem ess_brk {s : Tx} (h : mayN s = true) : brk (ess s) = false := by
  unfold mayN at h
  rw [Bool.or_eq_true] at h
  rcases h with h | h
  · unfold ess; rw [eq_of_beq h]; rfl
  · exact classN_brk h
theorem may_drop {s : Tx} (h : mayN s = true) (hb : brk s = true) : mayN (s.drop 1) = true ∧ ess (s.drop 1) = ess s := by
  obtain ⟨h1, h2⟩ := trim_brk hb
  have h3 := ess_brk h
  have e : trim1 (trim1 (s.drop 1)) = trim1 (trim1 s) := by
    rw [h1]
    exact trim_not (show brk (trim1 (s.drop 1)) = false from by rw [← h1]; exact h3)
  exact ⟨by unfold mayN at h ⊢; rw [e]; exact h, e⟩
theorem ess_not {s : Tx} (hb : brk s = false) : ess s = s := by unfold ess; rw [trim_not hb, trim_not hb]
theorem giv_class : giv.all (fun c => classN c.Name) = true := by decide +kernel
def thereN (L : List ApiClass) (t : Tx) : Bool := (ess t == [73]) || hasN L (ess t)
noncomputable def thN (L : List ApiClass) (t : Tx) : Bool := mayN t && thereN L t
section
variable {l L : List ApiClass} {m : List (Tx × Int)}
theorem name_class (h : Made l L) {n : Tx} (hn : hasN L n = true) : classN n = true := by
  obtain ⟨c, hc⟩ := has_cl hn
  obtain ⟨h1, h2⟩ := cl_name hc
  rw [← h2]
  rw [h.app] at h1
  rcases List.mem_append.1 h1 with e | e
  · exact List.all_eq_true.1 giv_class c e
  · have := h.may c e
    unfold mayG at this
    simp only [Bool.and_eq_true] at this
    exact this.2.1.1.1.1
noncomputable def elemN (s : Tx) : Tx × Bool := cond (mayN s && brk s) (s.drop 1, true) ([], false)
theorem kind_Elem_eq {s : Tx} (h : Len s) : kind_Elem s = some (elemN s) := by
  unfold kind_Elem elemN
  rw [kind_May_eq h]
  cases hm : mayN s with
  | false => rfl
  | true =>
    cases s with
    | nil =>
      exfalso
      unfold mayN at hm
      rw [show trim1 (trim1 []) = [] from rfl] at hm
      simp at hm
      exact classN_ne hm rfl
    | cons x r =>
      simp only [Option.bind_some, Bool.not_true, cond_false, Bool.true_and]
      rw [idx_zero]
      have e : ((x.toNat : Int) == (91 : Int)) = (x == 91) := by
        rw [Bool.eq_iff_iff, beq_iff_eq, beq_iff_eq]
        constructor
        · intro h; exact UInt8.toNat_inj.1 (by simpa using (Int.ofNat_inj.1 h))
        · intro h; rw [h]; rfl
      simp only [List.getElem?_cons_zero, Option.bind_some, e]
      rw [show (1 : Int) = ((1 : Nat) : Int) from rfl, cutP_from (by simp)]
      show cond (!(x == 91)) _ _ = some (cond (x == 91) _ _)
      cases x == 91 <;> rfl
theorem there_loop {s : Tx} : ∀ (d : Nat) (t : Tx), t.length ≤ d → Len t → loopP (fun z => hier_Hier_there_s2_l1 z.1 z.2.1 z.2.2) (t, (elemN t).1, (elemN t).2) = some (.inl (cond (mayN t) (ess t) t))
  | d, t, hd, hl => by
    rw [loopP_eq]
    show (hier_Hier_there_s2_l1 t (elemN t).1 (elemN t).2).bind _ = _
    unfold hier_Hier_there_s2_l1
    cases hm : mayN t with
    | false =>
      have : elemN t = ([], false) := by unfold elemN; rw [hm]; rfl
      rw [this]; rfl
    | true =>
      cases hb : brk t with
      | false =>
        have : elemN t = ([], false) := by unfold elemN; rw [hm, hb]; rfl
        rw [this, ess_not hb]; rfl
      | true =>
        have : elemN t = (t.drop 1, true) := by unfold elemN; rw [hm, hb]; rfl
        obtain ⟨k1, k2⟩ := may_drop hm hb
        have hlen : (t.drop 1).length = t.length - 1 := by simp
        have hpos : 0 < t.length := by rw [(trim_brk hb).2]; simp
        have hl2 : Len (t.drop 1) := by unfold Len at *; omega
        rw [this]
        show ((kind_Elem (t.drop 1)).bind _).bind _ = _
        rw [kind_Elem_eq hl2]
        show loopP (fun z => hier_Hier_there_s2_l1 z.1 z.2.1 z.2.2) (t.drop 1, (elemN (t.drop 1)).1, (elemN (t.drop 1)).2) = _
        cases d with
        | zero => omega
        | succ d =>
          rw [there_loop (s := s) d (t.drop 1) (by omega) hl2, k1, k2]; rfl
theorem there_eq (h : Made l L) (hm : MapOk L m) {t : Tx} (hl : Len t) : hier_Hier_there_s2 L m t = some (thN L t) := by
  unfold hier_Hier_there_s2
  rw [kind_Elem_eq hl]
  simp only [Option.bind_some]
  rw [there_loop (s := t) t.length t (Nat.le_refl _) hl]
  simp only [Option.bind_some, leave]
  unfold hier_Hier_there_s2_k2 hier_Hier_has
  rw [hm.has]
  unfold thN thereN
  cases hmay : mayN t with
  | true => rfl
  | false =>
    simp only [cond_false, Bool.false_and]
    congr 1
    rw [Bool.or_eq_false_iff]
    constructor
    · cases hI : (t == [73]) with
      | false => rfl
      | true =>
        have : t = [73] := by simpa using hI
        rw [this] at hmay
        exact absurd hmay (by decide +kernel)
    · cases hh : hasN L t with
      | false => rfl
      | true => rw [classN_may (name_class h hh)] at hmay; cases hmay
theorem base_loop : ∀ (t : Tx) (k : Nat), t.length + k ≤ 1000 → loopP (fun z => ref7_base_l1 z.1 z.2) (t, (k : Int)) = some (.inl (t.dropWhile (· == 91), ((k + (t.takeWhile (· == 91)).length : Nat) : Int)))
  | [], k, hk => by
    rw [loopP_eq]; rfl
  | x :: r, k, hk => by
    simp only [List.length_cons] at hk
    rw [loopP_eq]
    show (ref7_base_l1 (x :: r) (k : Int)).bind _ = _
    unfold ref7_base_l1
    have e : ((x.toNat : Int) == (91 : Int)) = (x == 91) := by
      rw [Bool.eq_iff_iff, beq_iff_eq, beq_iff_eq]
      constructor
      · intro h; exact UInt8.toNat_inj.1 (by simpa using (Int.ofNat_inj.1 h))
      · intro h; rw [h]; rfl
    rw [decide_eq_true (show (0 : Int) < ((x :: r).length : Int) by simp only [List.length_cons]; omega), idx_zero]
    simp only [cond_true, List.getElem?_cons_zero, Option.bind_some, e]
    rw [show (1 : Int) = ((1 : Nat) : Int) from rfl, cutP_from (by simp), List.dropWhile_cons, List.takeWhile_cons]
    cases hx : (x == 91) with
    | false => simp
    | true =>
      simp only [cond_true, Option.bind_some, if_true, List.drop_one, List.tail_cons]
      rw [show ((1 : Nat) : Int) = 1 from rfl, wrap_succ (by omega)]
      show loopP (fun z => ref7_base_l1 z.1 z.2) (r, ((k + 1 : Nat) : Int)) = _
      rw [base_loop r (k + 1) (by omega)]
      simp only [List.length_cons]
      congr 3
      omega
theorem base_eq {t : Tx} (h : t.length ≤ 900) : ref7_base t = some (t.dropWhile (· == 91), ((t.takeWhile (· == 91)).length : Int)) := by
  unfold ref7_base
  rw [show loopP (fun z => ref7_base_l1 z.1 z.2) (t, 0) = _ from base_loop t 0 (by omega)]
  simp only [Option.bind_some, leave, Nat.zero_add]
  rfl
theorem drop_not {t : Tx} (h : brk t = false) : t.dropWhile (· == 91) = t ∧ t.takeWhile (· == 91) = [] := by
  cases t with
  | nil => exact ⟨rfl, rfl⟩
  | cons x r =>
    have : (x == 91) = false := h
    simp [List.dropWhile_cons, List.takeWhile_cons, this]
theorem drop_brk {t : Tx} (h : brk t = true) : t.dropWhile (· == 91) = (t.drop 1).dropWhile (· == 91) ∧ (t.takeWhile (· == 91)).length = ((t.drop 1).takeWhile (· == 91)).length + 1 := by
  cases t with
  | nil => cases h
  | cons x r =>
    have : (x == 91) = true := h
    simp [List.dropWhile_cons, List.takeWhile_cons, this]
theorem drop_may : ∀ (d : Nat) (t : Tx), t.length ≤ d → mayN t = true → t.dropWhile (· == 91) = ess t
  | d, t, hd, hm => by
    cases hb : brk t with
    | false => rw [(drop_not hb).1, ess_not hb]
    | true =>
      obtain ⟨k1, k2⟩ := may_drop hm hb
      have hlen : (t.drop 1).length = t.length - 1 := by simp
      have hpos : 0 < t.length := by rw [(trim_brk hb).2]; simp
      cases d with
      | zero => omega
      | succ d => rw [(drop_brk hb).1, drop_may d (t.drop 1) (by omega) k1, k2]
theorem base_may {t : Tx} (h : t.length ≤ 900) (hm : mayN t = true) : ∃ k : Nat, ref7_base t = some (ess t, (k : Int)) ∧ (((k : Int) == 0) = !brk t) := by
  refine ⟨_, by rw [base_eq h, drop_may _ t (Nat.le_refl _) hm], ?_⟩
  cases hb : brk t with
  | false => rw [(drop_not hb).2]; rfl
  | true => rw [(drop_brk hb).2]; exact beq_eq_false_iff_ne.2 (by omega)
theorem ref_there_eq (h : Made l L) {t : Tx} (hl : t.length ≤ 900) : ref7_Hier_There_s2 L t = some (thN L t) := by
  have h26 := h.len
  unfold ref7_Hier_There_s2
  rw [ref3_May_eq (by unfold Len; omega)]
  unfold thN
  cases hm : mayN t with
  | false => rfl
  | true =>
    obtain ⟨k, hk, _⟩ := base_may hl hm
    rw [hk]
    simp only [Option.bind_some, Bool.not_true, cond_false]
    rw [at_eq (by omega)]
    simp only [Option.bind_some]
    rw [at_has]
    unfold thereN
    cases (ess t == [73]) <;> rfl
end
end Go.Proofs.YtooagifeniibcaaGreat
namespace Go.Proofs.YtooagifeniibcaaGreat
set_option linter.unusedSimpArgs false
set_option linter.unusedVariables false
noncomputable def subN (L : List ApiClass) : Tx → Tx → Bool
  | [], b => thN L [] && (thN L b && (([] : Tx) == b))
  | x :: r, b => thN L (x :: r) && (thN L b && (((x :: r) == b) || cond (x == 91) (cond (brk b) ((!(r == [73])) && ((!(b.drop 1 == [73])) && subN L r (b.drop 1))) (b == tObj)) ((supL L (x :: r)).any (fun y => b == y) || (facesL L (x :: r)).any (fun y => b == y))))
theorem subN_eq (L : List ApiClass) (a b : Tx) : subN L a b = (thN L a && (thN L b && ((a == b) || cond (brk a) (cond (brk b) ((!(a.drop 1 == [73])) && ((!(b.drop 1 == [73])) && subN L (a.drop 1) (b.drop 1))) (b == tObj)) ((supL L a).any (fun y => b == y) || (facesL L a).any (fun y => b == y))))) := by
  cases a with
  | nil =>
    have : thN L [] = false := by
      unfold thN
      have : mayN [] = false := by
        cases h : mayN [] with
        | false => rfl
        | true =>
          unfold mayN at h
          rw [show trim1 (trim1 []) = [] from rfl] at h
          simp at h
          exact absurd rfl (classN_ne h)
      rw [this]; rfl
    rw [this]
    show (thN L [] && _) = _
    rw [this]; rfl
  | cons x r => rfl
section
variable {l L : List ApiClass} {m : List (Tx × Int)}
theorem contains_eq {l : List Tx} (hl : l.length ≤ 1000) (n : Tx) : slices_Contains_string_string l n = some (l.any fun y => n == y) := hasText' hl n
theorem faces_len (h : Made l L) (n : Tx) : (facesL L n).length ≤ 52 := by
  unfold facesL
  rw [(isortW_perm _).length_eq]
  exact Nat.le_trans (List.length_filter_le _ _) (todo_len h n)
theorem th_may {t : Tx} (h : thN L t = true) : mayN t = true := by
  unfold thN at h; rw [Bool.and_eq_true] at h; exact h.1
theorem elem_th {t : Tx} (h : thN L t = true) : elemN t = cond (brk t) (t.drop 1, true) ([], false) := by
  unfold elemN
  rw [th_may h, Bool.true_and]
theorem sub3F_eq (h : Made l L) (hm : MapOk L m) {v0 : (List ApiClass) × (List (Tx × Int)) × Tx × Tx → Option Bool} {a b : Tx} (ha : Len a) (hb : Len b)
    (hv : brk a = true → brk b = true → v0 (L, m, a.drop 1, b.drop 1) = some (subN L (a.drop 1) (b.drop 1))) : hier_Hier_Sub_s3_F v0 L m a b = some (subN L a b) := by
  have h1 := supL_len h a
  have h2 := faces_len h a
  unfold hier_Hier_Sub_s3_F
  rw [there_eq h hm ha, there_eq h hm hb, subN_eq]
  cases ta : thN L a with
  | false => rfl
  | true =>
    cases tb : thN L b with
    | false => rfl
    | true =>
      simp only [Option.bind_some, Bool.not_true, cond_false, Bool.true_and]
      rw [kind_Elem_eq ha, kind_Elem_eq hb, elem_th ta, elem_th tb]
      simp only [Option.bind_some]
      cases hab : (a == b) with
      | true => rfl
      | false =>
        cases ba : brk a with
        | true =>
          cases bb : brk b with
          | true =>
            simp only [cond_true, cond_false, Bool.and_self, Bool.false_or]
            rw [hv ba bb]
            cases (a.drop 1 == [73]) <;> cases (b.drop 1 == [73]) <;> rfl
          | false => rfl
        | false =>
          simp only [cond_true, cond_false, Bool.false_and, Bool.false_or]
          rw [supers_eq h hm, faces3_eq h hm]
          simp only [Option.bind_some]
          rw [contains_eq (by omega), contains_eq (by omega)]
          simp only [Option.bind_some]
          cases ((supL L a).any fun y => b == y) <;> rfl
theorem sub3_n (h : Made l L) (hm : MapOk L m) : ∀ (d k : Nat) (a b : Tx), a.length ≤ d → d < k → Len a → Len b → recN (fun v0 z => hier_Hier_Sub_s3_F v0 z.1 z.2.1 z.2.2.1 z.2.2.2) k (L, m, a, b) = some (subN L a b)
  | d, 0, a, b, hd, hk, ha, hb => by omega
  | d, k + 1, a, b, hd, hk, ha, hb => by
    show hier_Hier_Sub_s3_F (recN (fun v0 z => hier_Hier_Sub_s3_F v0 z.1 z.2.1 z.2.2.1 z.2.2.2) k) L m a b = _
    refine sub3F_eq h hm ha hb fun b1 b2 => ?_
    have hlen : (a.drop 1).length = a.length - 1 := by simp
    have hlen2 : (b.drop 1).length = b.length - 1 := by simp
    have hpos : 0 < a.length := by rw [(trim_brk b1).2]; simp
    cases d with
    | zero => omega
    | succ d => exact sub3_n h hm d k _ _ (by omega) (by omega) (by unfold Len at *; omega) (by unfold Len at *; omega)
theorem sub3_eq (h : Made l L) (hm : MapOk L m) {a b : Tx} (ha : a.length ≤ 25) (hb : Len b) : hier_Hier_Sub_s3 L m a b = some (subN L a b) := by
  unfold hier_Hier_Sub_s3 recP
  rw [sub3_n h hm 25 30 a b ha (by omega) (by unfold Len; omega) hb]
theorem any_flip (l : List Tx) (n : Tx) : (l.any fun y => y == n) = l.any fun y => n == y := by
  congr 1
  funext y
  exact beqC2 _ _
theorem any_names {T : List Tx} (h : Made l L) (hT : ∀ x ∈ T, hasN L x = true) {b : Tx} (hb : classN b = false) : (T.any fun y => b == y) = false := by
  rw [List.any_eq_false]
  intro y hy e
  have := name_class h (hT y hy)
  rw [← eq_of_beq e, hb] at this
  cases this
theorem facesL_in (h : Made l L) {n x : Tx} (hx : x ∈ facesL L n) : hasN L x = true := todo_in h (faces_mem.1 hx).1
theorem facesL_none {n : Tx} (hn : hasN L n = false) : facesL L n = [] := by
  unfold facesL todoL
  rw [supL_none hn]; rfl
theorem classN_not_brk {b : Tx} (hb : brk b = true) : classN b = false := by
  cases h : classN b with
  | false => rfl
  | true => rw [classN_brk h] at hb; cases hb
theorem classN_notI : classN [73] = false := by
  cases h : classN [73] with
  | false => rfl
  | true => exact absurd (classN_I h) (by simp)
theorem refsubF_eq (h : Made l L) {v0 : (List ApiClass) × Tx × Tx → Option Bool} {a b : Tx} (ha : a.length ≤ 800) (hb : b.length ≤ 800)
    (hv : brk a = true → brk b = true → v0 (L, a.drop 1, b.drop 1) = some (subN L (a.drop 1) (b.drop 1))) : ref7_Hier_Sub_s3_F v0 L a b = some (subN L a b) := by
  unfold ref7_Hier_Sub_s3_F
  rw [ref_there_eq h (by omega), ref_there_eq h (by omega), subN_eq]
  cases ta : thN L a with
  | false => rfl
  | true =>
    cases tb : thN L b with
    | false => rfl
    | true =>
      simp only [Option.bind_some, Bool.not_true, cond_false, Bool.true_and]
      obtain ⟨k1, e1, f1⟩ := base_may (t := a) (by omega) (th_may ta)
      obtain ⟨k2, e2, f2⟩ := base_may (t := b) (by omega) (th_may tb)
      rw [e1, e2]
      simp only [Option.bind_some]
      cases hab : (a == b) with
      | true => rfl
      | false =>
        rw [f1, f2]
        simp only [cond_false, Bool.false_or]
        cases ba : brk a with
        | true =>
          cases bb : brk b with
          | true =>
            simp only [cond_true, cond_false, Bool.not_true, Bool.and_self, Bool.false_and]
            rw [show (1 : Int) = ((1 : Nat) : Int) from rfl, cutP_from (by rw [(trim_brk ba).2]; simp), cutP_from (by rw [(trim_brk bb).2]; simp)]
            simp only [Option.bind_some]
            rw [hv ba bb]
            cases (a.drop 1 == [73]) <;> cases (b.drop 1 == [73]) <;> rfl
          | false =>
            simp only [cond_true, cond_false, Bool.not_true, Bool.not_false, Bool.false_and]
            rw [ess_not bb]; rfl
        | false =>
          cases bb : brk b with
          | true =>
            simp only [cond_true, cond_false, Bool.not_true, Bool.not_false, Bool.and_false]
            rw [any_names (T := supL L a) h (fun x hx => (sup_mem h _ a x hx).1) (classN_not_brk bb), any_names (T := facesL L a) h (fun x hx => facesL_in h hx) (classN_not_brk bb)]; rfl
          | false =>
            simp only [cond_true, cond_false, Bool.not_false, Bool.and_self]
            rw [ess_not ba, ess_not bb]
            have h1 := supL_len h a
            have h2 := faces_len h a
            cases hI : (a == [73]) with
            | true =>
              have e : a = [73] := by simpa using hI
              have hn : hasN L a = false := by
                cases hh : hasN L a with
                | false => rfl
                | true => have := name_class h hh; rw [e, classN_notI] at this; cases this
              rw [supL_none hn, facesL_none hn]; rfl
            | false =>
              cases hI2 : (b == [73]) with
              | true =>
                have e : b = [73] := by simpa using hI2
                have hc : classN b = false := by rw [e]; exact classN_notI
                rw [any_names (T := supL L a) h (fun x hx => (sup_mem h _ a x hx).1) hc, any_names (T := facesL L a) h (fun x hx => facesL_in h hx) hc]; rfl
              | false =>
                simp only [Bool.not_false, Bool.and_self, cond_true]
                rw [ref_supers_eq h, ref_faces_eq h]
                simp only [Option.bind_some]
                rw [ref_has_eq (by omega), ref_has_eq (by omega), any_flip, any_flip]
                simp only [Option.bind_some]
                cases ((supL L a).any fun y => b == y) <;> rfl
theorem refsub_n (h : Made l L) : ∀ (d k : Nat) (a b : Tx), a.length ≤ d → d < k → a.length ≤ 800 → b.length ≤ 800 → recN (fun v0 z => ref7_Hier_Sub_s3_F v0 z.1 z.2.1 z.2.2) k (L, a, b) = some (subN L a b)
  | d, 0, a, b, hd, hk, ha, hb => by omega
  | d, k + 1, a, b, hd, hk, ha, hb => by
    show ref7_Hier_Sub_s3_F (recN (fun v0 z => ref7_Hier_Sub_s3_F v0 z.1 z.2.1 z.2.2) k) L a b = _
    refine refsubF_eq h ha hb fun b1 b2 => ?_
    have hlen : (a.drop 1).length = a.length - 1 := by simp
    have hlen2 : (b.drop 1).length = b.length - 1 := by simp
    have hpos : 0 < a.length := by rw [(trim_brk b1).2]; simp
    cases d with
    | zero => omega
    | succ d => exact refsub_n h d k _ _ (by omega) (by omega) (by omega) (by omega)
theorem refsub3_eq (h : Made l L) {a b : Tx} (ha : a.length ≤ 25) (hb : b.length ≤ 800) : ref7_Hier_Sub_s3 L a b = some (subN L a b) := by
  unfold ref7_Hier_Sub_s3 recP
  rw [refsub_n h 25 30 a b ha (by omega) (by omega) hb]
end
end Go.Proofs.YtooagifeniibcaaGreat
namespace Go.Proofs.YtooagifeniibcaaGreat
set_option linter.unusedSimpArgs false
set_option linter.unusedVariables false
abbrev I64 (n : Int) : Prop := -9223372036854775808 ≤ n ∧ n ≤ 9223372036854775807
abbrev FS (s : List UInt8) : Prop := s.length ≤ 10000
structure FL {α : Type} (Q : α → Prop) (l : List α) : Prop where
  len : l.length ≤ 10000
  all : ∀ x ∈ l, Q x
structure FField (f : ApiField) : Prop where
  name : FS f.Name
  type : FS f.Type_
structure FIns (x : ApiIns) : Prop where
  op : I64 x.Op
  a : I64 x.A
  c : FS x.C
  m : FS x.M
structure FMap (x : ApiMap) : Prop where
  pl : I64 x.At
  locals : FL FS x.Locals
  stack : FL FS x.Stack
structure FTrap (x : ApiTrap) : Prop where
  lo : I64 x.From
  hi : I64 x.To
  pl : I64 x.At
  c : FS x.C
structure FMeth (m : ApiMethod) : Prop where
  name : FS m.Name
  params : FL FS m.Params
  ret : FS m.Ret
  locals : I64 m.Locals
  stack : I64 m.Stack
  code : FL FIns m.Code
  maps : FL FMap m.Maps
  traps : FL FTrap m.Traps
structure FClass (c : ApiClass) : Prop where
  name : FS c.Name
  super : FS c.Super
  impl : FL FS c.Impl
  fields : FL FField c.Fields
  methods : FL FMeth c.Methods
theorem FL.le {α : Type} {Q : α → Prop} {l : List α} (h : FL Q l) : LenL l := by have := h.len; unfold LenL; omega
theorem FS.le {s : List UInt8} (h : FS s) : Len s := by unfold FS at h; unfold Len; omega
theorem FClass.cg {c : ApiClass} (h : FClass c) : CGIn c where
  name := h.name.le
  super := h.super.le
  impl := ⟨h.impl.le, fun s hs => (h.impl.all s hs).le⟩
  fields := ⟨h.fields.le, fun f hf => ⟨(h.fields.all f hf).name.le, (h.fields.all f hf).type.le⟩⟩
  methods := ⟨h.methods.le, fun m hm => by
    have g := h.methods.all m hm
    have g1 := g.params.len
    have g2 := g.code.len
    have g3 := g.maps.len
    have g4 := g.traps.len
    exact ⟨g.name.le, ⟨by omega, fun s hs => (g.params.all s hs).le⟩, g.ret.le,
      ⟨g.maps.le, g.code.le, fun x hx => ⟨⟨(g.maps.all x hx).locals.le, fun s hs => ((g.maps.all x hx).locals.all s hs).le⟩, (g.maps.all x hx).stack.le, fun s hs => ((g.maps.all x hx).stack.all s hs).le⟩⟩,
      ⟨⟨g.code.le, fun x hx => ⟨(g.code.all x hx).c.le, (g.code.all x hx).m.le⟩⟩, ⟨g.traps.le, fun x hx => (g.traps.all x hx).c.le⟩⟩, ⟨by omega, by omega, by omega⟩⟩⟩
theorem law1_Cut_eq {s : List UInt8} {n : Nat} : law1_Cut s (n : Int) = some (s.take n) := by
  unfold law1_Cut
  by_cases h : n < s.length
  · rw [decide_eq_true (show (n : Int) < (s.length : Int) by omega), cutP_to (by omega)]; rfl
  · rw [decide_eq_false (show ¬ (n : Int) < (s.length : Int) by omega), List.take_of_length_le (by omega)]; rfl
theorem take_loop {α β R : Type} {body : List β × Int → Option (Sum (List β × Int) (Sum (List β) R))} {l : List α} {n : Nat} {f : α → β} (hn : n ≤ 1000)
    (hb : ∀ acc (i : Nat) x, l[i]? = some x → i < n → acc.length = i → body (acc, (i : Int)) = some (.inl (acc ++ [f x], IntKind.i64.wrap ((i : Int) + 1))))
    (he : ∀ acc (i : Nat), (decide ((i : Int) < (l.length : Int)) && decide ((i : Int) < (n : Int))) = false → body (acc, (i : Int)) = some (.inr (.inl acc))) : loopP body ([], 0) = some (.inl ((l.take n).map f)) := by
  have key : ∀ d i, (l.take n).length - i = d → i ≤ (l.take n).length → loopP body (((l.take n).take i).map f, (i : Int)) = some (.inl ((l.take n).map f)) := by
    intro d
    induction d with
    | zero =>
      intro i hd hi
      have e : i = (l.take n).length := by omega
      rw [loopP_eq, he _ i (by
        rw [List.length_take] at e
        rw [Bool.and_eq_false_iff]
        rcases Nat.le_total n l.length with h | h
        · exact .inr (decide_eq_false (by omega))
        · exact .inl (decide_eq_false (by omega))), e, List.take_length]
      rfl
    | succ d ih =>
      intro i hd hi
      have hlt : i < (l.take n).length := by omega
      have h2 : i < n ∧ i < l.length := by rw [List.length_take] at hlt; omega
      have hx : l[i]? = some l[i] := List.getElem?_eq_getElem h2.2
      rw [loopP_eq, hb _ i l[i] hx h2.1 (by rw [List.length_map, List.length_take]; omega), wrap_succ (by omega)]
      have := ih (i + 1) (by omega) (by omega)
      rw [List.take_add_one, List.getElem?_take_of_lt h2.1, hx] at this
      simp only [Option.toList_some, List.map_append, List.map_cons, List.map_nil] at this
      exact this
  exact key _ 0 rfl (Nat.zero_le _)
theorem more {α : Type} {l : List α} {n i : Nat} {x : α} (h : l[i]? = some x) (hi : i < n) : (decide ((i : Int) < (l.length : Int)) && decide ((i : Int) < (n : Int))) = true := by
  rw [here h, decide_eq_true (by omega)]; rfl
def cutF (f : ApiField) : ApiField := ApiField.mk (f.Name.take 10) (f.Type_.take 12) f.Static
def cutI (x : ApiIns) : ApiIns := ApiIns.mk x.Op x.A (x.C.take 14) (x.M.take 12)
def cutS (n : Nat) (l : List (List UInt8)) : List (List UInt8) := (l.take n).map (·.take 12)
def cutMap (x : ApiMap) : ApiMap := ApiMap.mk x.At (cutS 20 x.Locals) (cutS 20 x.Stack)
def cutT (x : ApiTrap) : ApiTrap := ApiTrap.mk x.From x.To x.At (x.C.take 10)
def cutM (m : ApiMethod) : ApiMethod := ApiMethod.mk (m.Name.take 10) (cutS 8 m.Params) (m.Ret.take 12) m.Static m.Abstract m.Locals m.Stack ((m.Code.take 104).map cutI) ((m.Maps.take 104).map cutMap) ((m.Traps.take 8).map cutT)
def cutC (c : ApiClass) : ApiClass := ApiClass.mk (c.Name.take 10) (c.Super.take 10) c.Interface (cutS 6 c.Impl) ((c.Fields.take 10).map cutF) ((c.Methods.take 10).map cutM)
theorem law5_texts_eq {l : List (List UInt8)} {n : Nat} (hn : n ≤ 100) : law5_texts l (n : Int) = some (cutS n l) := by
  unfold law5_texts
  rw [show loopP (fun z => law5_texts_l1 l (n : Int) z.1 z.2) ([], 0) = some (.inl (cutS n l)) from take_loop (by omega) (fun acc i x hx hi ha => by
    show law5_texts_l1 l (n : Int) acc (i : Int) = _
    unfold law5_texts_l1
    rw [more hx hi, idx_nat, hx]
    simp only [Option.bind_some, cond_true]
    rw [show law1_Cut x 12 = _ from law1_Cut_eq (n := 12), Option.bind_some, appP_ok (by simp; omega) (by simp; omega)]; rfl) (fun acc i h => by
    show law5_texts_l1 l (n : Int) acc (i : Int) = _
    unfold law5_texts_l1
    rw [h]; rfl)]
  rfl
theorem law4_Cut_eq (x : ApiIns) : law4_Cut x = some (cutI x) := by
  unfold law4_Cut
  rw [show law1_Cut x.C 14 = _ from law1_Cut_eq (n := 14), show law1_Cut x.M 12 = _ from law1_Cut_eq (n := 12)]; rfl
theorem law5_method_eq (m : ApiMethod) : law5_method m = some (cutM m) := by
  unfold law5_method
  rw [show law1_Cut m.Name 10 = _ from law1_Cut_eq (n := 10), show law1_Cut m.Ret 12 = _ from law1_Cut_eq (n := 12), show law5_texts m.Params 8 = _ from law5_texts_eq (n := 8) (by decide)]
  simp only [Option.bind_some]
  rw [show loopP (fun z => law5_method_l1 m z.1 z.2) ([], 0) = some (.inl ((m.Code.take 104).map cutI)) from take_loop (by decide) (fun acc i x hx hi ha => by
    show law5_method_l1 m acc (i : Int) = _
    unfold law5_method_l1
    rw [show (decide ((i : Int) < (m.Code.length : Int)) && decide ((i : Int) < 104)) = true from more hx hi, idx_nat, hx]
    simp only [Option.bind_some, cond_true]
    rw [law4_Cut_eq, Option.bind_some, appP_ok (by simp; omega) (by simp; omega)]; rfl) (fun acc i h => by
    show law5_method_l1 m acc (i : Int) = _
    unfold law5_method_l1
    rw [show (decide ((i : Int) < (m.Code.length : Int)) && decide ((i : Int) < 104)) = false from h]; rfl)]
  simp only [Option.bind_some]
  show law5_method_k2 m _ _ _ _ = _
  unfold law5_method_k2
  rw [show loopP (fun z => law5_method_l3 m z.1 z.2) ([], 0) = some (.inl ((m.Maps.take 104).map cutMap)) from take_loop (by decide) (fun acc i x hx hi ha => by
    show law5_method_l3 m acc (i : Int) = _
    unfold law5_method_l3
    rw [show (decide ((i : Int) < (m.Maps.length : Int)) && decide ((i : Int) < 104)) = true from more hx hi, idx_nat, hx]
    simp only [Option.bind_some, cond_true]
    rw [show law5_texts x.Locals 20 = _ from law5_texts_eq (n := 20) (by decide), show law5_texts x.Stack 20 = _ from law5_texts_eq (n := 20) (by decide)]
    simp only [Option.bind_some]
    rw [appP_ok (by simp; omega) (by simp; omega)]; rfl) (fun acc i h => by
    show law5_method_l3 m acc (i : Int) = _
    unfold law5_method_l3
    rw [show (decide ((i : Int) < (m.Maps.length : Int)) && decide ((i : Int) < 104)) = false from h]; rfl)]
  simp only [Option.bind_some]
  show law5_method_k4 m _ _ _ _ _ = _
  unfold law5_method_k4
  rw [show loopP (fun z => law5_method_l5 m z.1 z.2) ([], 0) = some (.inl ((m.Traps.take 8).map cutT)) from take_loop (by decide) (fun acc i x hx hi ha => by
    show law5_method_l5 m acc (i : Int) = _
    unfold law5_method_l5
    rw [show (decide ((i : Int) < (m.Traps.length : Int)) && decide ((i : Int) < 8)) = true from more hx hi, idx_nat, hx]
    simp only [Option.bind_some, cond_true]
    rw [show law1_Cut x.C 10 = _ from law1_Cut_eq (n := 10), Option.bind_some, appP_ok (by simp; omega) (by simp; omega)]; rfl) (fun acc i h => by
    show law5_method_l5 m acc (i : Int) = _
    unfold law5_method_l5
    rw [show (decide ((i : Int) < (m.Traps.length : Int)) && decide ((i : Int) < 8)) = false from h]; rfl)]
  rfl
theorem law5_Cut_eq (c : ApiClass) : law5_Cut c = some ((cutC c).Name, (cutC c).Super, (cutC c).Impl, (cutC c).Fields, (cutC c).Methods) := by
  unfold law5_Cut
  rw [show law1_Cut c.Name 10 = _ from law1_Cut_eq (n := 10), show law1_Cut c.Super 10 = _ from law1_Cut_eq (n := 10), show law5_texts c.Impl 6 = _ from law5_texts_eq (n := 6) (by decide)]
  simp only [Option.bind_some]
  rw [show loopP (fun z => law5_Cut_l1 c z.1 z.2) ([], 0) = some (.inl ((c.Fields.take 10).map cutF)) from take_loop (by decide) (fun acc i x hx hi ha => by
    show law5_Cut_l1 c acc (i : Int) = _
    unfold law5_Cut_l1
    rw [show (decide ((i : Int) < (c.Fields.length : Int)) && decide ((i : Int) < 10)) = true from more hx hi, idx_nat, hx]
    simp only [Option.bind_some, cond_true]
    rw [show law1_Cut x.Name 10 = _ from law1_Cut_eq (n := 10), show law1_Cut x.Type_ 12 = _ from law1_Cut_eq (n := 12)]
    simp only [Option.bind_some]
    rw [appP_ok (by simp; omega) (by simp; omega)]; rfl) (fun acc i h => by
    show law5_Cut_l1 c acc (i : Int) = _
    unfold law5_Cut_l1
    rw [show (decide ((i : Int) < (c.Fields.length : Int)) && decide ((i : Int) < 10)) = false from h]; rfl)]
  simp only [Option.bind_some]
  show law5_Cut_k2 c _ _ _ _ = _
  unfold law5_Cut_k2
  rw [show loopP (fun z => law5_Cut_l3 c z.1 z.2) ([], 0) = some (.inl ((c.Methods.take 10).map cutM)) from take_loop (by decide) (fun acc i x hx hi ha => by
    show law5_Cut_l3 c acc (i : Int) = _
    unfold law5_Cut_l3
    rw [show (decide ((i : Int) < (c.Methods.length : Int)) && decide ((i : Int) < 10)) = true from more hx hi, idx_nat, hx]
    simp only [Option.bind_some, cond_true]
    rw [law5_method_eq, Option.bind_some, appP_ok (by simp; omega) (by simp; omega)]; rfl) (fun acc i h => by
    show law5_Cut_l3 c acc (i : Int) = _
    unfold law5_Cut_l3
    rw [show (decide ((i : Int) < (c.Methods.length : Int)) && decide ((i : Int) < 10)) = false from h]; rfl)]
  rfl
theorem i64_w {n : Int} (h : wI .i64 n) : I64 n := by
  have h : (Lit.int .i64 n).wf = true := h
  unfold Lit.wf at h
  simp [IntKind.min, IntKind.max, IntKind.bits, IntKind.signed] at h
  exact ⟨by omega, by omega⟩
theorem FS.take (s : List UInt8) {n : Nat} (hn : n ≤ 100) : FS (s.take n) := by unfold FS; rw [List.length_take]; omega
theorem cutS_in {l : List (List UInt8)} {n : Nat} (hn : n ≤ 100) : FL FS (cutS n l) := by
  refine ⟨by unfold cutS; rw [List.length_map, List.length_take]; omega, fun x hx => ?_⟩
  obtain ⟨y, _, rfl⟩ := List.mem_map.1 hx
  exact FS.take y (by decide)
theorem cutL_in {α : Type} {Q : α → Prop} {l : List α} {f : α → α} {n : Nat} (hn : n ≤ 200) (h : ∀ x ∈ l, Q (f x)) : FL Q ((l.take n).map f) := by
  refine ⟨by rw [List.length_map, List.length_take]; omega, fun x hx => ?_⟩
  obtain ⟨y, hy, rfl⟩ := List.mem_map.1 hx
  exact h y (List.mem_of_mem_take hy)
theorem cutM_in {m : ApiMethod} (h : wApiMethod m) : FMeth (cutM m) := by
  obtain ⟨_, _, _, _, _, h1, h2, h3, h4, h5⟩ := h
  exact ⟨FS.take _ (by decide), cutS_in (by decide), FS.take _ (by decide), i64_w h1, i64_w h2,
    cutL_in (by decide) fun x hx => ⟨i64_w (h3.2 x hx).1, i64_w (h3.2 x hx).2.1, FS.take _ (by decide), FS.take _ (by decide)⟩,
    cutL_in (by decide) fun x hx => ⟨i64_w (h4.2 x hx).1, cutS_in (by decide), cutS_in (by decide)⟩,
    cutL_in (by decide) fun x hx => ⟨i64_w (h5.2 x hx).1, i64_w (h5.2 x hx).2.1, i64_w (h5.2 x hx).2.2.1, FS.take _ (by decide)⟩⟩
theorem cutC_in {c : ApiClass} (h : wApiClass c) : FClass (cutC c) := by
  obtain ⟨_, _, _, _, _, h1⟩ := h
  exact ⟨FS.take _ (by decide), FS.take _ (by decide), cutS_in (by decide), cutL_in (by decide) fun x hx => ⟨FS.take _ (by decide), FS.take _ (by decide)⟩, cutL_in (by decide) fun x hx => cutM_in (h1.2 x hx)⟩
def allC (l : List ApiClass) : List ApiClass := (l.take 18).map cutC
theorem law5_All_eq (l : List ApiClass) : law5_All l = some (allC l) := by
  unfold law5_All
  rw [show loopP (fun z => law5_All_l1 l z.1 z.2) ([], 0) = some (.inl (allC l)) from take_loop (by decide) (fun acc i x hx hi ha => by
    show law5_All_l1 l acc (i : Int) = _
    unfold law5_All_l1
    rw [show (decide ((i : Int) < (l.length : Int)) && decide ((i : Int) < 18)) = true from more hx hi, idx_nat, hx]
    simp only [Option.bind_some, cond_true]
    rw [law5_Cut_eq, Option.bind_some, appP_ok (by simp; omega) (by simp; omega)]; rfl) (fun acc i h => by
    show law5_All_l1 l acc (i : Int) = _
    unfold law5_All_l1
    rw [show (decide ((i : Int) < (l.length : Int)) && decide ((i : Int) < 18)) = false from h]; rfl)]
  rfl
structure Short (c : ApiClass) : Prop where
  fc : FClass c
  name : c.Name.length ≤ 10
  super : c.Super.length ≤ 10
  impl : ∀ s ∈ c.Impl, s.length ≤ 12
theorem cutC_short {c : ApiClass} (h : wApiClass c) : Short (cutC c) := by
  refine ⟨cutC_in h, ?_, ?_, fun s hs => ?_⟩
  · show (c.Name.take 10).length ≤ 10; rw [List.length_take]; omega
  · show (c.Super.take 10).length ≤ 10; rw [List.length_take]; omega
  · obtain ⟨y, _, rfl⟩ := List.mem_map.1 (show s ∈ (c.Impl.take 6).map (·.take 12) from hs)
    rw [List.length_take]; omega
theorem allC_short {l : List ApiClass} (h : ∀ c ∈ l, wApiClass c) : ∀ c ∈ allC l, Short c := fun c hc => by
  obtain ⟨d, hd, rfl⟩ := List.mem_map.1 hc
  exact cutC_short (h d (List.mem_of_mem_take hd))
theorem allC_cg {l : List ApiClass} (h : ∀ c ∈ l, wApiClass c) : ∀ c ∈ allC l, CGIn c := fun c hc => (allC_short h c hc).fc.cg
end Go.Proofs.YtooagifeniibcaaGreat
namespace Go.Proofs.YtooagifeniibcaaGreat
set_option linter.unusedSimpArgs false
set_option linter.unusedVariables false
theorem all_loop {α R : Type} {body : Int → Option (Sum Int (Sum Unit R))} {l : List α}
    (hb : ∀ (i : Nat) x, l[i]? = some x → body (i : Int) = some (.inl ((i + 1 : Nat) : Int)))
    (he : body (l.length : Int) = some (.inr (.inl ()))) : loopP body 0 = some (.inl ()) := by
  have := loop_list (body := body) (l := l) (g := fun _ => none) (u := ()) (fun i x hx => hb i x hx) he
  rw [this]
  have : l.findSome? (fun _ => (none : Option R)) = none := by
    induction l with
    | nil => rfl
    | cons x l ih => simp
  rw [this]; rfl
section
variable {l L : List ApiClass} {m : List (Tx × Int)}
theorem made_names (h : Made l L) (hs : ∀ c ∈ l, c.Name.length ≤ 10) : ∀ c ∈ L, c.Name.length ≤ 10 := by
  intro c hc
  rw [h.app] at hc
  rcases List.mem_append.1 hc with e | e
  · have hg : giv.all (fun c => decide (c.Name.length ≤ 10)) = true := by decide +kernel
    exact of_decide_eq_true (List.all_eq_true.1 hg c e)
  · exact hs c e
end
end Go.Proofs.YtooagifeniibcaaGreat
namespace Go.Proofs.YtooagifeniibcaaGreat
set_option linter.unusedSimpArgs false
set_option linter.unusedVariables false
section
variable {l L : List ApiClass} {m : List (Tx × Int)}
def zC : ApiClass := ApiClass.mk [] [] false [] [] []
theorem class_eq (hm : MapOk L m) (n : Tx) : hier_Hier_Class (some (HierHier.mk L m)) n = some (match cl L n with | some c => (c, true) | none => (zC, false)) := by
  show cond (!(hier_Hier_has L m n)) (some (zC, false)) ((hier_Hier_get L m n).bind fun v4 => some (v4, true)) = _
  unfold hier_Hier_has
  rw [hm.has]
  cases hc : cl L n with
  | none => rw [has_not hc]; rfl
  | some c => rw [has_of hc, get_eq hm (has_of hc), hc]; rfl
end
end Go.Proofs.YtooagifeniibcaaGreat
namespace Go.Proofs.YtooagifeniibcaaGreat
set_option linter.unusedSimpArgs false
set_option linter.unusedVariables false
section
variable {l L : List ApiClass} {m : List (Tx × Int)}
theorem Rc.trans {nx : Tx → List Tx} {a b c : Tx} (h : Rc nx a b) (k : Rc nx b c) : Rc nx a c := by
  induction h with
  | one h => exact .more h k
  | more h _ ih => exact .more h (ih k)
end
end Go.Proofs.YtooagifeniibcaaGreat
namespace Go.Proofs.YtooagifeniibcaaGreat
set_option linter.unusedSimpArgs false
set_option linter.unusedVariables false
theorem pick_of (x : Int) {k : Int} (h1 : 1 ≤ k) (h2 : k ≤ 1000) : ∃ (i : Nat) (q : Int), (i : Int) < k ∧ remP x k = some q ∧ remP (IntKind.i64.wrap (q + k)) k = some (i : Int) := by
  have hb := Int.tmod_lt_of_pos x (show (0 : Int) < k by omega)
  have hb2 : -k < x.tmod k := by
    have := Int.lt_tmod_of_pos x (show (0 : Int) < k by omega)
    omega
  have hw : IntKind.i64.wrap (x.tmod k + k) = x.tmod k + k := wrapI (by omega) (by omega)
  have h3 := Int.tmod_nonneg k (show 0 ≤ x.tmod k + k by omega)
  have h4 := Int.tmod_lt_of_pos (x.tmod k + k) (show (0 : Int) < k by omega)
  refine ⟨((x.tmod k + k).tmod k).toNat, x.tmod k, by omega, ?_, ?_⟩
  · unfold remP
    rw [if_neg (by omega)]
  · unfold remP
    rw [hw, if_neg (by omega)]
    congr 1
    omega
def ty2 (n : Tx) : List Tx := [n, 91 :: n]
def allT (L : List ApiClass) (x : Tx) : List Tx := [[73], [78], [84], [79, 98, 106, 101, 99, 116], [91, 73], [91, 91, 73], [91, 79, 98, 106, 101, 99, 116], [86], x] ++ ((L.drop 10).map (·.Name)).flatMap ty2
section
variable {l L : List ApiClass} {m : List (Tx × Int)}
theorem flat2_len (l : List Tx) : (l.flatMap ty2).length = 2 * l.length := by
  induction l with
  | nil => rfl
  | cons x l ih => rw [List.flatMap_cons, List.length_append, ih]; simp [ty2]; omega
theorem allT_loop (hL : L.length ≤ 30) (hN : ∀ c ∈ L, c.Name.length ≤ 100) : ∀ (r pre : List ApiClass) (acc : List Tx), L = pre ++ r → acc.length ≤ 9 + 2 * pre.length →
    loopP (fun z => law9_texts_l3 (Ref7Hier.mk L) z.1 z.2) (acc, (pre.length : Int)) = some (.inl (acc ++ (r.map (·.Name)).flatMap ty2))
  | [], pre, acc, e, ha => by
    rw [List.append_nil] at e
    rw [loopP_eq]
    show (law9_texts_l3 (Ref7Hier.mk L) acc (pre.length : Int)).bind _ = _
    unfold law9_texts_l3
    rw [← e, past]
    simp
  | c :: r, pre, acc, e, ha => by
    have hlen : L.length = pre.length + (r.length + 1) := by rw [e]; simp
    have hx : L[pre.length]? = some c := by rw [e]; simp
    have hn := hN c (List.mem_of_getElem? hx)
    have ih := allT_loop hL hN r (pre ++ [c]) (acc ++ ty2 c.Name) (by rw [e]; simp) (by simp [ty2]; omega)
    rw [show (pre ++ [c]).length = pre.length + 1 by simp] at ih
    rw [loopP_eq]
    show (law9_texts_l3 (Ref7Hier.mk L) acc (pre.length : Int)).bind _ = _
    unfold law9_texts_l3
    rw [show decide ((pre.length : Int) < ((Ref7Hier.mk L).L.length : Int)) = true from here hx, show idx (Ref7Hier.mk L).L (pre.length : Int) = some c from by rw [idx_nat]; exact hx]
    simp only [cond_true, Option.bind_some]
    rw [catP_ok (by simp; omega)]
    simp only [Option.bind_some]
    rw [appP_ok (by simp; omega) (by simp; omega), wrap_succ (by omega)]
    show loopP (fun z => law9_texts_l3 (Ref7Hier.mk L) z.1 z.2) (acc ++ ty2 c.Name, ((pre.length + 1 : Nat) : Int)) = _
    rw [ih]
    simp
theorem allT_len (x : Tx) : (allT L x).length = 9 + 2 * (L.length - 10) := by
  unfold allT
  rw [List.length_append, flat2_len, List.length_map, List.length_drop]; rfl
theorem allT_short {x : Tx} (hx : x.length ≤ 20) (hN : ∀ c ∈ L, c.Name.length ≤ 18) : ∀ t ∈ allT L x, t.length ≤ 20 := by
  intro t ht
  unfold allT at ht
  rcases List.mem_append.1 ht with h | h
  · simp only [List.mem_cons, List.not_mem_nil, or_false] at h
    rcases h with h | h | h | h | h | h | h | h | h <;> rw [h] <;> first | exact hx | simp
  · rw [List.mem_flatMap] at h
    obtain ⟨n, hn, h⟩ := h
    obtain ⟨c, hc, rfl⟩ := List.mem_map.1 hn
    have := hN c (List.mem_of_mem_drop hc)
    simp only [ty2, List.mem_cons, List.not_mem_nil, or_false] at h
    rcases h with h | h <;> rw [h] <;> simp <;> omega
theorem texts_eq (hL : L.length ≤ 30) (h10 : 10 ≤ L.length) (hN : ∀ c ∈ L, c.Name.length ≤ 18) (ns : List Int) {x : Tx} (hx : x.length ≤ 20) :
    ∃ T, law9_texts (some (Ref7Hier.mk L)) ns x = some T ∧ T.length ≤ 16 ∧ ∀ t ∈ T, t.length ≤ 20 := by
  have hsh := allT_short (L := L) hx hN
  have hal := allT_len (L := L) x
  have e : loopP (fun z => law9_texts_l3 (Ref7Hier.mk L) z.1 z.2) ([[73], [78], [84], [79, 98, 106, 101, 99, 116], [91, 73], [91, 91, 73], [91, 79, 98, 106, 101, 99, 116], [86], x], 10) = some (.inl (allT L x)) := by
    have := allT_loop hL (fun c hc => by have := hN c hc; omega) (L.drop 10) (L.take 10) [[73], [78], [84], [79, 98, 106, 101, 99, 116], [91, 73], [91, 91, 73], [91, 79, 98, 106, 101, 99, 116], [86], x] (List.take_append_drop 10 L).symm (by simp)
    rw [show (L.take 10).length = 10 by rw [List.length_take]; omega] at this
    exact this
  generalize allT L x = A at *
  have key : ∀ (d k : Nat) (acc : List Tx), 16 - k = d → k ≤ 16 → acc.length = k → (∀ t ∈ acc, t.length ≤ 20) →
      ∃ T, loopP (fun z => law9_texts_l5 ns A z.1 z.2) (acc, (k : Int)) = some (.inl T) ∧ T.length ≤ 16 ∧ ∀ t ∈ T, t.length ≤ 20 := by
    intro d
    induction d with
    | zero =>
      intro k acc hd hk ha hs
      refine ⟨acc, ?_, by omega, hs⟩
      rw [loopP_eq]
      show (law9_texts_l5 ns A acc (k : Int)).bind _ = _
      unfold law9_texts_l5
      rw [decide_eq_false (show ¬ (k : Int) < 16 by omega), Bool.and_false]; rfl
    | succ d ih =>
      intro k acc hd hk ha hs
      by_cases hkn : k < ns.length
      · obtain ⟨i, q, h1, h2, h3⟩ := pick_of ns[k] (k := (A.length : Int)) (by omega) (by omega)
        have hi : i < A.length := by omega
        obtain ⟨T, t1, t2, t3⟩ := ih (k + 1) (acc ++ [A[i]]) (by omega) (by omega) (by simp; omega) (fun t ht => by
          rcases List.mem_append.1 ht with e | e
          · exact hs t e
          · rw [List.mem_singleton.1 e]; exact hsh _ (List.getElem_mem hi))
        refine ⟨T, ?_, t2, t3⟩
        rw [loopP_eq]
        show (law9_texts_l5 ns A acc (k : Int)).bind _ = _
        unfold law9_texts_l5
        rw [decide_eq_true (show (k : Int) < 16 by omega), decide_eq_true (show (k : Int) < (ns.length : Int) by omega), idx_nat, List.getElem?_eq_getElem hkn]
        simp only [Bool.and_self, cond_true, Option.bind_some]
        rw [h2]
        simp only [Option.bind_some]
        rw [h3]
        simp only [Option.bind_some]
        rw [idx_nat, List.getElem?_eq_getElem hi]
        simp only [Option.bind_some]
        rw [appP_ok (by simp; omega) (by simp; omega), wrap_succ (by omega)]
        exact t1
      · refine ⟨acc, ?_, by omega, hs⟩
        rw [loopP_eq]
        show (law9_texts_l5 ns A acc (k : Int)).bind _ = _
        unfold law9_texts_l5
        rw [decide_eq_false (show ¬ (k : Int) < (ns.length : Int) by omega), Bool.false_and]; rfl
  obtain ⟨T, t1, t2, t3⟩ := key 16 0 [] rfl (by omega) rfl (fun t h => by cases h)
  refine ⟨T, ?_, t2, t3⟩
  unfold law9_texts
  simp only [optE]
  rw [e]
  simp only [Option.bind_some, leave]
  unfold law9_texts_k4
  rw [show loopP (fun z => law9_texts_l5 ns A z.1 z.2) ([], 0) = _ from t1]
  rfl
noncomputable def theT (L : List ApiClass) (t : Tx) : Bool := ((t == [78]) || (t == [84])) || thN L t
noncomputable def refT (L : List ApiClass) (t : Tx) : Bool := !(t == [73]) && thN L t
noncomputable def fitN (L : List ApiClass) (a b : Tx) : Bool :=
  (theT L a && theT L b) && cond ((b == [84]) || (a == b)) true (cond (a == [78]) (refT L b) ((refT L a && refT L b) && (isF L b || subN L a b)))
theorem sub_self (t : Tx) : subN L t t = thN L t := by
  rw [subN_eq]
  simp
theorem may78 : mayN [78] = false := by decide +kernel
theorem may84 : mayN [84] = false := by decide +kernel
theorem th78 : thN L [78] = false := by unfold thN; rw [may78]; rfl
theorem th84 : thN L [84] = false := by unfold thN; rw [may84]; rfl
theorem theT_eq (h : Made l L) (hm : MapOk L m) {t : Tx} (ht : t.length ≤ 25) : types_There_s2 L m t = some (theT L t) := by
  unfold types_There_s2 theT
  rw [sub3_eq h hm ht (by unfold Len; omega), sub_self]
  cases ((t == [78]) || (t == [84])) <;> rfl
theorem theT3_eq (h : Made l L) (hm : MapOk L m) {t : Tx} (ht : t.length ≤ 25) : types_There_s3 (some (HierHier.mk L m)) t = some (theT L t) := theT_eq h hm ht
theorem refT_eq (h : Made l L) (hm : MapOk L m) {t : Tx} (ht : t.length ≤ 25) : types_ref_s2 L m t = some (refT L t) := by
  unfold types_ref_s2 refT
  rw [sub3_eq h hm ht (by unfold Len; omega), sub_self]
  cases (t == [73]) <;> rfl
theorem isF_class (b : Tx) : isF L b = (match cl L b with | some c => (c, true) | none => (zC, false)).1.Interface := by
  unfold isF
  cases cl L b <;> rfl
theorem fits3_eq (h : Made l L) (hm : MapOk L m) {a b : Tx} (ha : a.length ≤ 25) (hb : b.length ≤ 25) : types_Fits_s3 L m a b = some (fitN L a b) := by
  unfold types_Fits_s3 fitN
  rw [theT_eq h hm ha, theT_eq h hm hb, refT_eq h hm ha, refT_eq h hm hb, sub3_eq h hm ha (by unfold Len; omega)]
  have e : hier_Hier_Class_s3 L m b = some (match cl L b with | some c => (c, true) | none => (zC, false)) := class_eq hm b
  rw [e]
  simp only [Option.bind_some]
  rw [← isF_class]
  cases theT L a <;> cases theT L b <;> cases ((b == [84]) || (a == b)) <;> cases (a == [78]) <;> cases refT L a <;> cases refT L b <;> cases isF L b <;> rfl
theorem fits_N (h : Made l L) (hm : MapOk L m) {a b : Tx} (ha : a.length ≤ 25) (hb : b.length ≤ 25) : types_Fits (some (HierHier.mk L m)) a b = some (fitN L a b) := fits3_eq h hm ha hb
theorem ne_beq {a b : Tx} (h : a ≠ b) : (a == b) = false := beq_eq_false_iff_ne.2 h
theorem fit_ref (a b : Tx) : fitN L a b = cond (b == [84]) (((a == [84]) || (a == [78])) || thN L a) (cond (a == [78]) ((b == [78]) || (!(b == [73]) && thN L b)) (cond (a == b) (thN L a)
    (cond (((a == [73]) || (b == [73])) || !thN L a) false (cond (!thN L b) false (isF L b || subN L a b))))) := by
  unfold fitN
  by_cases hbT : b = [84]
  · subst hbT
    unfold theT
    cases (a == [84]) <;> cases (a == [78]) <;> cases thN L a <;> simp
  · rw [ne_beq hbT]
    by_cases haN : a = [78]
    · subst haN
      by_cases hbN : b = [78]
      · subst hbN
        unfold theT
        simp
      · have e : (([78] : Tx) == b) = false := ne_beq (Ne.symm hbN)
        unfold theT refT
        rw [e, ne_beq hbN, ne_beq hbT, th78]
        cases (b == [73]) <;> cases thN L b <;> simp
    · rw [ne_beq haN]
      by_cases hab : a = b
      · subst hab
        unfold theT
        rw [ne_beq haN, ne_beq hbT]
        cases thN L a <;> simp
      · rw [ne_beq hab]
        by_cases haT : a = [84]
        · subst haT
          unfold refT
          rw [th84]
          simp
        · by_cases hbN : b = [78]
          · subst hbN
            unfold refT
            rw [th78]
            simp
          · unfold theT refT
            rw [ne_beq haN, ne_beq haT, ne_beq hbN, ne_beq hbT]
            cases (a == [73]) <;> cases (b == [73]) <;> cases thN L a <;> cases thN L b <;> simp
theorem ref_fits3_eq (h : Made l L) {a b : Tx} (ha : a.length ≤ 25) (hb : b.length ≤ 25) : ref7_Hier_Fits_s3 L a b = some (fitN L a b) := by
  have h26 := h.len
  rw [fit_ref]
  unfold ref7_Hier_Fits_s3
  rw [ref_there_eq h (by omega), ref_there_eq h (by omega), at_eq (by omega), refsub3_eq h ha (by omega)]
  simp only [Option.bind_some]
  have e : (cond (decide (0 ≤ atN L b)) ((idx L (atN L b)).bind fun v15 => some v15.Interface) (some false)) = some (isF L b) := by
    rw [at_has, idx_at]
    unfold isF
    cases hc : cl L b with
    | none => rw [has_not hc]; rfl
    | some c => rw [has_of hc]; rfl
  rw [e]
  simp only [Option.bind_some]
  cases (b == [84]) <;> cases (a == [84]) <;> cases (a == [78]) <;> cases (b == [78]) <;> cases (a == [73]) <;> cases (b == [73]) <;> cases (a == b) <;> cases thN L a <;> cases thN L b <;> cases isF L b <;> rfl
theorem ref_fits_eq (h : Made l L) {a b : Tx} (ha : a.length ≤ 25) (hb : b.length ≤ 25) : ref7_Hier_Fits (some (Ref7Hier.mk L)) a b = some (fitN L a b) := ref_fits3_eq h ha hb
theorem ref_there3_eq (h : Made l L) {t : Tx} (hl : t.length ≤ 900) : ref7_Hier_There_s3 (some (Ref7Hier.mk L)) t = some (thN L t) := ref_there_eq h hl
end
end Go.Proofs.YtooagifeniibcaaGreat
namespace Go.Proofs.YtooagifeniibcaaGreat
set_option linter.unusedSimpArgs false
set_option linter.unusedVariables false
section
variable {l L : List ApiClass} {m : List (Tx × Int)}
theorem made_ten (h : Made l L) : 10 ≤ L.length := by
  rw [h.app, List.length_append]; have : giv.length = 10 := rfl; omega
end
section
variable {l L : List ApiClass} {m : List (Tx × Int)}
end
section
variable {l L : List ApiClass} {m : List (Tx × Int)}
noncomputable def allN (L : List ApiClass) (a b : List Tx) : Bool := ((a.length : Int) == (b.length : Int)) && !(List.range a.length).any (fun i => !fitN L ((a[i]?).getD []) ((b[i]?).getD []))
theorem all_fits {body : Int → Option (Sum Int (Sum Unit Bool))} {a b : List Tx} (ha : a.length ≤ 1000) (hn : a.length = b.length)
    (hb : ∀ (i : Nat) x y, a[i]? = some x → b[i]? = some y → body (i : Int) = cond (!fitN L x y) (some (.inr (.inr false))) (some (.inl (IntKind.i64.wrap ((i : Int) + 1)))))
    (he : body (a.length : Int) = some (.inr (.inl ()))) : ((loopP body 0).bind fun o => leave o (fun _ => some true) some) = some (allN L a b) := by
  rw [loop_range (n := a.length) (g := fun i => cond (!fitN L ((a[i]?).getD []) ((b[i]?).getD [])) (some false) none) (u := ()) (fun i hi => by
    have h1 : a[i]? = some a[i] := List.getElem?_eq_getElem hi
    have h2 : b[i]? = some (b[i]'(by omega)) := List.getElem?_eq_getElem (by omega)
    rw [hb i _ _ h1 h2, h1, h2, wrap_succ (by omega)]
    simp only [Option.getD_some]
    cases fitN L a[i] (b[i]'(by omega)) <;> rfl) he, findSome_any]
  unfold allN
  rw [hn, beq_self_eq_true, Bool.true_and]
  cases (List.range b.length).any (fun i => !fitN L ((a[i]?).getD []) ((b[i]?).getD [])) <;> rfl
theorem allN_ne {a b : List Tx} (h : a.length ≠ b.length) : allN L a b = false := by
  unfold allN
  rw [beq_eq_false_iff_ne.2 (show (a.length : Int) ≠ (b.length : Int) by omega)]; rfl
theorem all3_eq (h : Made l L) (hm : MapOk L m) {a b : List Tx} (ha : a.length ≤ 16) (ha2 : ∀ t ∈ a, t.length ≤ 20) (hb2 : ∀ t ∈ b, t.length ≤ 20) : types_All_s3 L m a b = some (allN L a b) := by
  unfold types_All_s3
  by_cases hn : a.length = b.length
  · rw [show ((a.length : Int) == (b.length : Int)) = true by rw [hn]; exact beq_self_eq_true _]
    exact all_fits (body := fun z => types_All_s3_l1 L m a b z) (by omega) hn (fun i x y hx hy => by
      show types_All_s3_l1 L m a b (i : Int) = _
      have := ha2 x (List.mem_of_getElem? hx)
      have := hb2 y (List.mem_of_getElem? hy)
      unfold types_All_s3_l1
      rw [here hx, idx_nat, idx_nat, hx, hy]
      simp only [cond_true, Option.bind_some]
      rw [fits3_eq h hm (by omega) (by omega)]; rfl) (by
      show types_All_s3_l1 L m a b (a.length : Int) = _
      unfold types_All_s3_l1
      rw [past]; rfl)
  · rw [beq_eq_false_iff_ne.2 (show (a.length : Int) ≠ (b.length : Int) by omega), allN_ne hn]; rfl
theorem all_eqN (h : Made l L) (hm : MapOk L m) {a b : List Tx} (ha : a.length ≤ 16) (ha2 : ∀ t ∈ a, t.length ≤ 20) (hb2 : ∀ t ∈ b, t.length ≤ 20) : types_All (some (HierHier.mk L m)) a b = some (allN L a b) := all3_eq h hm ha ha2 hb2
theorem ref_all_eq (h : Made l L) {a b : List Tx} (ha : a.length ≤ 16) (ha2 : ∀ t ∈ a, t.length ≤ 20) (hb2 : ∀ t ∈ b, t.length ≤ 20) : ref7_Hier_All (some (Ref7Hier.mk L)) a b = some (allN L a b) := by
  unfold ref7_Hier_All
  simp only [optE]
  by_cases hn : a.length = b.length
  · rw [show ((a.length : Int) == (b.length : Int)) = true by rw [hn]; exact beq_self_eq_true _]
    exact all_fits (body := fun z => ref7_Hier_All_l3 a b (Ref7Hier.mk L) z) (by omega) hn (fun i x y hx hy => by
      show ref7_Hier_All_l3 a b (Ref7Hier.mk L) (i : Int) = _
      have := ha2 x (List.mem_of_getElem? hx)
      have := hb2 y (List.mem_of_getElem? hy)
      unfold ref7_Hier_All_l3
      rw [here hx, idx_nat, idx_nat, hx, hy]
      simp only [cond_true, Option.bind_some]
      rw [ref_fits3_eq h (by omega) (by omega)]; rfl) (by
      show ref7_Hier_All_l3 a b (Ref7Hier.mk L) (a.length : Int) = _
      unfold ref7_Hier_All_l3
      rw [past]; rfl)
  · rw [beq_eq_false_iff_ne.2 (show (a.length : Int) ≠ (b.length : Int) by omega), allN_ne hn]; rfl
theorem goes_eq (h : Made l L) (hm : MapOk L m) {p q r s : List Tx} (hp : p.length ≤ 16) (hp2 : ∀ t ∈ p, t.length ≤ 20) (hq2 : ∀ t ∈ q, t.length ≤ 20) (hr : r.length ≤ 16) (hr2 : ∀ t ∈ r, t.length ≤ 20) (hs2 : ∀ t ∈ s, t.length ≤ 20) :
    types_Goes (some (HierHier.mk L m)) (ApiMap.mk 0 q s) p r = some (allN L p q && allN L r s) := by
  unfold types_Goes
  simp only [optE]
  rw [all3_eq h hm hp hp2 hq2, all3_eq h hm hr hr2 hs2]
  simp only [Option.bind_some]
  cases allN L p q <;> rfl
theorem ta_l3 (h : Made l L) (hm : MapOk L m) {p q : List Tx} (hp : p.length ≤ 16) (hp2 : ∀ t ∈ p, t.length ≤ 20) (hq : q.length ≤ 16) (hq2 : ∀ t ∈ q, t.length ≤ 20) {e1 e2 : Int} {i : Nat} {a : Tx} (ha : p[i]? = some a) :
    loopP (fun z => law9_TypesAll_l3 (some (HierHier.mk L m), e1) (some (Ref7Hier.mk L), e2) p q (i : Int) z) 0 = some (.inl ()) := by
  have ha2 := hp2 a (List.mem_of_getElem? ha)
  refine all_loop (l := q) (fun j b hb => ?_) ?_
  · show law9_TypesAll_l3 _ _ p q (i : Int) (j : Int) = _
    have hb2 := hq2 b (List.mem_of_getElem? hb)
    have hj := (List.getElem?_eq_some_iff.1 hb).1
    unfold law9_TypesAll_l3
    rw [here hb, idx_nat, idx_nat, ha, hb]
    simp only [cond_true, Option.bind_some]
    rw [fits_N h hm (by omega) (by omega), ref_fits_eq h (by omega) (by omega), wrap_succ (by omega)]
    simp
  · show law9_TypesAll_l3 _ _ p q (i : Int) (q.length : Int) = _
    unfold law9_TypesAll_l3
    rw [past]; rfl
end
theorem law9_TypesAll_eq {l : List ApiClass} (hl : ∀ c ∈ l, wApiClass c) (na nb nc nd : List Int) (x : Tx) : law9_TypesAll l na nb nc nd x = some true := by
  have hs := allC_short hl
  obtain ⟨m, hm, hN⟩ := hier_New_eq (allC_cg hl)
  unfold law9_TypesAll
  rw [law5_All_eq]
  simp only [Bool.not_true, cond_false, Option.bind_some]
  rw [show law1_Cut x 12 = _ from law1_Cut_eq (n := 12)]
  simp only [Option.bind_some]
  rw [hN, ref7_New_eq (allC_cg hl)]
  simp only [Option.bind_some]
  cases hE : (newE (allC l)).1 with
  | none =>
    simp only [Option.map_none, Option.isNone_none, Bool.or_true, cond_true]
  | some L =>
    obtain ⟨hM, hz⟩ := newE_made hE
    have hnm := made_names hM (fun c hc => (hs c hc).name)
    have h26 := hM.len
    have hmp := hm L hE
    rw [hz]
    simp only [Option.map_some, Option.isNone_some, beq_self_eq_true, Bool.not_true, Bool.or_self, cond_false]
    have hx : (x.take 12).length ≤ 20 := by rw [List.length_take]; omega
    have hn18 : ∀ c ∈ L, c.Name.length ≤ 18 := fun c hc => by have := hnm c hc; omega
    obtain ⟨p, p1, p2, p3⟩ := texts_eq (L := L) (by omega) (made_ten hM) hn18 na (x := x.take 12) hx
    obtain ⟨q, q1, q2, q3⟩ := texts_eq (L := L) (by omega) (made_ten hM) hn18 nb (x := x.take 12) hx
    obtain ⟨r, r1, r2, r3⟩ := texts_eq (L := L) (by omega) (made_ten hM) hn18 nc (x := x.take 12) hx
    obtain ⟨s, s1, s2, s3⟩ := texts_eq (L := L) (by omega) (made_ten hM) hn18 nd (x := x.take 12) hx
    rw [p1, q1, r1, s1]
    simp only [Option.bind_some]
    rw [show loopP (fun z => law9_TypesAll_l5 (some (HierHier.mk L m), 0) (some (Ref7Hier.mk L), 0) p q z) 0 = some (.inl ()) from all_loop (l := p) (fun i a ha => by
      have hi := (List.getElem?_eq_some_iff.1 ha).1
      have ha2 := p3 a (List.mem_of_getElem? ha)
      show law9_TypesAll_l5 _ _ p q (i : Int) = _
      unfold law9_TypesAll_l5
      rw [here ha, idx_nat, ha]
      simp only [cond_true, Option.bind_some]
      rw [ref_there3_eq hM (by omega), theT3_eq hM hmp (by omega), ta_l3 hM hmp p2 p3 q2 q3 ha]
      simp only [Option.bind_some, leave]
      unfold law9_TypesAll_k4 theT
      rw [wrap_succ (by omega)]
      cases (a == [78]) <;> cases (a == [84]) <;> cases thN L a <;> rfl) (by
      show law9_TypesAll_l5 _ _ p q (p.length : Int) = _
      unfold law9_TypesAll_l5
      rw [past]; rfl)]
    simp only [Option.bind_some, leave]
    unfold law9_TypesAll_k6
    rw [all_eqN hM hmp p2 p3 q3, ref_all_eq hM p2 p3 q3, ref_all_eq hM r2 r3 s3, goes_eq hM hmp p2 p3 q3 r2 r3 s3]
    simp only [Option.bind_some, beq_self_eq_true, cond_true]
    cases allN L p q <;> cases allN L r s <;> rfl
theorem typesAll_pure (l : List ApiClass) (a b c d : List Int) (x : List UInt8) (h : wL wApiClass l) (_ : wL (wI .i64) a) (_ : wL (wI .i64) b) (_ : wL (wI .i64) c) (_ : wL (wI .i64) d) (_ : wS x) :
    PureC Tryz.prog 15 [.isl 6 (List.map rApiClass l), .isl 1 (List.map (rI .i64) a), .isl 1 (List.map (rI .i64) b), .isl 1 (List.map (rI .i64) c), .isl 1 (List.map (rI .i64) d), .lit (.string (B x))] (.lit (.bool true)) := law9_TypesAll_ok l a b c d x (law9_TypesAll_eq h.2 a b c d x)
end Go.Proofs.YtooagifeniibcaaGreat
