/- FileSame: for every input the law returns true, and each argument reads as it read before. No further condition. Part 6 of 7. -/
import Derived.Test.YthmnlfenkhmmhaaGreatTg5
namespace Go.Proofs.YthmnlfenkhmmhaaGreat
set_option linter.unusedSimpArgs false
set_option linter.unusedVariables false
set_option linter.unusedSectionVars false
abbrev Rea (α : Type) := List UInt8 → Bool → α × List UInt8 × Bool
structure ReaW {α : Type} (Q : α → Prop) (g : Rea α) : Prop where
  le : ∀ b bad, (g b bad).2.1.length ≤ b.length
  mono : ∀ b bad, (g b bad).2.2 = false → bad = false
  q : ∀ b bad, b.length ≤ 6000 → Q (g b bad).1
structure ReaOk {α : Type} (Q : α → Prop) (g : Rea α) : Prop extends ReaW Q g where
  lt : ∀ b bad, (g b bad).2.2 = false → (g b bad).2.1.length < b.length
def Rea.ret {α : Type} (x : α) : Rea α := fun b bad => (x, b, bad)
def Rea.bind {α β : Type} (g : Rea α) (f : α → Rea β) : Rea β := fun b bad => f (g b bad).1 (g b bad).2.1 (g b bad).2.2
theorem ReaW.ret {α : Type} {Q : α → Prop} {x : α} (h : Q x) : ReaW Q (Rea.ret x) := ⟨fun _ _ => Nat.le_refl _, fun _ _ h => h, fun _ _ _ => h⟩
theorem ReaW.bind {α β : Type} {Q : α → Prop} {S : β → Prop} {g : Rea α} {f : α → Rea β} (hg : ReaW Q g) (hf : ∀ x, Q x → ReaW S (f x)) (hn : ∀ x b bad, (f x b bad).2.1.length ≤ b.length ∧ ((f x b bad).2.2 = false → bad = false)) : ReaW S (g.bind f) where
  le b bad := Nat.le_trans (hn _ _ _).1 (hg.le b bad)
  mono b bad h := hg.mono b bad ((hn _ _ _).2 h)
  q b bad h := (hf _ (hg.q b bad h)).q _ _ (Nat.le_trans (hg.le b bad) h)
theorem ReaOk.bind {α β : Type} {Q : α → Prop} {S : β → Prop} {g : Rea α} {f : α → Rea β} (hg : ReaOk Q g) (hf : ∀ x, Q x → ReaW S (f x)) (hn : ∀ x b bad, (f x b bad).2.1.length ≤ b.length ∧ ((f x b bad).2.2 = false → bad = false)) : ReaOk S (g.bind f) :=
  ⟨ReaW.bind hg.toReaW hf hn, fun b bad h => Nat.lt_of_le_of_lt (hn _ _ _).1 (hg.lt b bad ((hn _ _ _).2 h))⟩
def ReaN {α : Type} (g : Rea α) : Prop := ∀ b bad, (g b bad).2.1.length ≤ b.length ∧ ((g b bad).2.2 = false → bad = false)
theorem ReaN.ret {α : Type} {x : α} : ReaN (Rea.ret x) := fun _ _ => ⟨Nat.le_refl _, fun h => h⟩
theorem ReaN.bind {α β : Type} {g : Rea α} {f : α → Rea β} (hg : ReaN g) (hf : ∀ x, ReaN (f x)) : ReaN (g.bind f) := fun b bad =>
  ⟨Nat.le_trans (hf _ _ _).1 (hg b bad).1, fun h => (hg b bad).2 ((hf _ _ _).2 h)⟩
theorem ReaW.n {α : Type} {Q : α → Prop} {g : Rea α} (h : ReaW Q g) : ReaN g := fun b bad => ⟨h.le b bad, h.mono b bad⟩
def rdN : Rea Int := fun b bad => cond (bad || !((getB b).2.2 == (0 : Int))) (0, b, true) ((getB b).1, b.drop (getB b).2.1.toNat, false)
def rdT (P : List (List UInt8)) : Rea (List UInt8) := fun b bad =>
  cond (((rdN b bad).2.2 || decide ((rdN b bad).1 < 0)) || decide ((P.length : Int) ≤ (rdN b bad).1)) ([], (rdN b bad).2.1, true) ((P[(rdN b bad).1.toNat]?).getD [], (rdN b bad).2.1, (rdN b bad).2.2)
def rdB : Rea Bool := fun b bad => (!((rdN b bad).1 == (0 : Int)), (rdN b bad).2.1, (rdN b bad).2.2)
def rdO : Rea (List UInt8) := fun b bad => cond (bad || !((getText b).2.2 == (0 : Int))) ((getText b).1, b, true) ((getText b).1, b.drop (getText b).2.1.toNat, false)
theorem rdN_ok : ReaOk I64 rdN where
  le b bad := by
    unfold rdN
    cases (bad || !((getB b).2.2 == (0 : Int))) with
    | true => exact Nat.le_refl _
    | false => simp only [cond_false, List.length_drop]; omega
  mono b bad h := by
    unfold rdN at h
    cases hc : (bad || !((getB b).2.2 == (0 : Int))) with
    | true => rw [hc] at h; cases h
    | false => exact (Bool.or_eq_false_iff.1 hc).1
  q b bad _ := by
    unfold rdN
    cases hc : (bad || !((getB b).2.2 == (0 : Int))) with
    | true => show I64 0; decide
    | false =>
      have h1 := (Bool.or_eq_false_iff.1 hc).2
      obtain ⟨j, _, _, _, _, h2, h3⟩ := getB_ok b (by simpa using h1)
      exact ⟨h2, h3⟩
  lt b bad h := by
    unfold rdN at h ⊢
    cases hc : (bad || !((getB b).2.2 == (0 : Int))) with
    | true => rw [hc] at h; cases h
    | false =>
      have h1 := (Bool.or_eq_false_iff.1 hc).2
      obtain ⟨j, h2, h3, h4, _⟩ := getB_ok b (by simpa using h1)
      simp only [cond_false, List.length_drop]
      rw [h2]
      omega
theorem rdB_ok : ReaOk (fun _ => True) rdB where
  le := rdN_ok.le
  mono := rdN_ok.mono
  q _ _ _ := trivial
  lt := rdN_ok.lt
theorem rdT_n (P : List (List UInt8)) : ReaN (rdT P) := fun b bad => by
  unfold rdT
  cases hc : (((rdN b bad).2.2 || decide ((rdN b bad).1 < 0)) || decide ((P.length : Int) ≤ (rdN b bad).1)) with
  | true => exact ⟨rdN_ok.le b bad, fun h => by cases h⟩
  | false => exact ⟨rdN_ok.le b bad, rdN_ok.mono b bad⟩
theorem rdT_ok {P : List (List UInt8)} (hP : ∀ s ∈ P, FS s) : ReaOk FS (rdT P) where
  le b bad := (rdT_n P b bad).1
  mono b bad := (rdT_n P b bad).2
  q b bad _ := by
    unfold rdT
    cases hc : (((rdN b bad).2.2 || decide ((rdN b bad).1 < 0)) || decide ((P.length : Int) ≤ (rdN b bad).1)) with
    | true => show FS []; unfold FS; simp
    | false =>
      show FS ((P[(rdN b bad).1.toNat]?).getD [])
      cases h : P[(rdN b bad).1.toNat]? with
      | none => unfold FS; simp
      | some s => exact hP s (List.mem_of_getElem? h)
  lt b bad h := by
    unfold rdT at h ⊢
    cases hc : (((rdN b bad).2.2 || decide ((rdN b bad).1 < 0)) || decide ((P.length : Int) ≤ (rdN b bad).1)) with
    | true => rw [hc] at h; cases h
    | false => rw [hc] at h; exact rdN_ok.lt b bad h
theorem getText_ok (b : List UInt8) (h : (getText b).2.2 = 0) : ∃ j : Nat, (getText b).2.1 = j ∧ 1 ≤ j ∧ j ≤ b.length := by
  unfold getText at h ⊢
  split
  · rename_i h1; rw [if_pos h1] at h; exact absurd h h1
  · rename_i h1
    rw [if_neg h1] at h
    split
    · rename_i h2; rw [if_pos h2] at h; exact absurd h (by decide)
    · rename_i h2
      rw [if_neg h2] at h
      split
      · rename_i h3; rw [if_pos h3] at h; exact absurd h (by decide)
      · rename_i h3
        obtain ⟨j, h4, h5, h6, _⟩ := getB_ok b (by simpa using h1)
        exact ⟨j + (getB b).1.toNat, by show (getB b).2.1 + (getB b).1 = _; omega, by omega, by omega⟩
theorem getText_len (b : List UInt8) : (getText b).1.length ≤ b.length := by
  unfold getText
  split
  · simp
  · split
    · simp
    · split
      · simp
      · simp only [List.length_take, List.length_drop]; omega
theorem rdO_ok : ReaOk FS rdO where
  le b bad := by
    unfold rdO
    cases (bad || !((getText b).2.2 == (0 : Int))) with
    | true => exact Nat.le_refl _
    | false => simp only [cond_false, List.length_drop]; omega
  mono b bad h := by
    unfold rdO at h
    cases hc : (bad || !((getText b).2.2 == (0 : Int))) with
    | true => rw [hc] at h; cases h
    | false => exact (Bool.or_eq_false_iff.1 hc).1
  q b bad hb := by
    have := getText_len b
    unfold rdO
    cases hc : (bad || !((getText b).2.2 == (0 : Int))) with
    | true => show FS (getText b).1; unfold FS; omega
    | false => show FS (getText b).1; unfold FS; omega
  lt b bad h := by
    unfold rdO at h ⊢
    cases hc : (bad || !((getText b).2.2 == (0 : Int))) with
    | true => rw [hc] at h; cases h
    | false =>
      have h1 := (Bool.or_eq_false_iff.1 hc).2
      obtain ⟨j, h2, h3, h4⟩ := getText_ok b (by simpa using h1)
      simp only [cond_false, List.length_drop]
      rw [h2]
      omega
def rdLoop {α : Type} (g : Rea α) : Nat → List UInt8 → Bool → List α → List α × List UInt8 × Bool
  | 0, b, bad, acc => (acc, b, bad)
  | n + 1, b, bad, acc => cond bad (acc, b, bad) (rdLoop g n (g b bad).2.1 (g b bad).2.2 (acc ++ [(g b bad).1]))
def reL {α : Type} (g : Rea α) : Rea (List α) := fun b bad => rdLoop g (rdN b bad).1.toNat (rdN b bad).2.1 (rdN b bad).2.2 []
theorem rdLoop_n {α : Type} {g : Rea α} (hg : ReaN g) : ∀ n b bad acc, (rdLoop g n b bad acc).2.1.length ≤ b.length ∧ ((rdLoop g n b bad acc).2.2 = false → bad = false)
  | 0, b, bad, acc => ⟨Nat.le_refl _, fun h => h⟩
  | n + 1, b, bad, acc => by
    unfold rdLoop
    cases bad with
    | true => exact ⟨Nat.le_refl _, fun h => by cases h⟩
    | false =>
      have h1 := rdLoop_n hg n (g b false).2.1 (g b false).2.2 (acc ++ [(g b false).1])
      exact ⟨Nat.le_trans h1.1 (hg b false).1, fun _ => rfl⟩
theorem reL_n {α : Type} {g : Rea α} (hg : ReaN g) : ReaN (reL g) := fun b bad => by
  have h1 := rdLoop_n hg (rdN b bad).1.toNat (rdN b bad).2.1 (rdN b bad).2.2 []
  exact ⟨Nat.le_trans h1.1 (rdN_ok.le b bad), fun h => rdN_ok.mono b bad (h1.2 h)⟩
theorem rdLoop_q {α : Type} {Q : α → Prop} {g : Rea α} (hg : ReaOk Q g) : ∀ n b bad acc, b.length ≤ 6000 → (bad = false → acc.length + b.length ≤ 6001) → acc.length ≤ 6002 → (∀ x ∈ acc, Q x) → FL Q (rdLoop g n b bad acc).1
  | 0, b, bad, acc, _, _, h2, h3 => ⟨by show acc.length ≤ 10000; omega, h3⟩
  | n + 1, b, bad, acc, hb, h1, h2, h3 => by
    unfold rdLoop
    cases bad with
    | true => exact ⟨by show acc.length ≤ 10000; omega, h3⟩
    | false =>
      have h1 := h1 rfl
      have hle := hg.le b false
      refine rdLoop_q hg n _ _ _ (by omega) (fun h => ?_) (by simp; omega) fun x hx => ?_
      · have := hg.lt b false h
        simp; omega
      · rcases List.mem_append.1 hx with hx | hx
        · exact h3 x hx
        · rw [List.mem_singleton.1 hx]; exact hg.q b false hb
theorem reL_ok {α : Type} {Q : α → Prop} {g : Rea α} (hg : ReaOk Q g) : ReaOk (FL Q) (reL g) where
  le b bad := (reL_n hg.toReaW.n b bad).1
  mono b bad := (reL_n hg.toReaW.n b bad).2
  q b bad hb := by
    have := rdN_ok.le b bad
    exact rdLoop_q hg _ _ _ _ (by omega) (fun _ => by simp; omega) (by simp) fun x hx => by cases hx
  lt b bad h := by
    have h1 := rdLoop_n hg.toReaW.n (rdN b bad).1.toNat (rdN b bad).2.1 (rdN b bad).2.2 []
    exact Nat.lt_of_le_of_lt h1.1 (rdN_ok.lt b bad (h1.2 h))
theorem read_loop {α R : Type} {Q : α → Prop} {g : Rea α} (hg : ReaOk Q g) {w : Nat} (hw : w ≤ 200) {body : List UInt8 × Bool × List α × Int → Option (Sum (List UInt8 × Bool × List α × Int) (Sum (List α × List UInt8 × Bool) R))}
    (hb : ∀ b bad acc n, b.length ≤ 6000 → body (b, bad, acc, n) = cond (decide (0 < n) && !bad) ((appP w acc [(g b bad).1]).bind fun v => some (.inl ((g b bad).2.1, (g b bad).2.2, v, IntKind.i64.wrap (n - 1)))) (some (.inr (.inl (acc, b, bad))))) :
    ∀ (n : Nat) b bad acc, b.length ≤ 6000 → n ≤ 9223372036854775807 → (bad = false → acc.length + b.length ≤ 6001) → acc.length ≤ 6002 → loopP body (b, bad, acc, (n : Int)) = some (.inl (rdLoop g n b bad acc)) := by
  intro n
  induction n with
  | zero =>
    intro b bad acc h0 _ _ _
    rw [loopP_eq, hb _ _ _ _ h0]; rfl
  | succ n ih =>
    intro b bad acc h0 hn h1 h2
    rw [loopP_eq, hb _ _ _ _ h0]
    unfold rdLoop
    cases bad with
    | true => rw [Bool.not_true, Bool.and_false]; rfl
    | false =>
      rw [decide_eq_true (show (0 : Int) < ((n + 1 : Nat) : Int) by omega)]
      have h1 := h1 rfl
      have hle := hg.le b false
      have hm : (acc.length + 1) * w ≤ 6002 * 200 := Nat.mul_le_mul (by omega) hw
      rw [appP_ok (by simp; omega) (by simp; omega), wrapI (n := ((n + 1 : Nat) : Int) - 1) (by omega) (by omega), show ((n + 1 : Nat) : Int) - 1 = (n : Int) by omega]
      refine ih _ _ _ (by omega) (by omega) (fun h => ?_) (by simp; omega)
      have := hg.lt b false h
      simp; omega
theorem read_list {α R : Type} {Q : α → Prop} {g : Rea α} (hg : ReaOk Q g) {w : Nat} (hw : w ≤ 200) {body : List UInt8 × Bool × List α × Int → Option (Sum (List UInt8 × Bool × List α × Int) (Sum (List α × List UInt8 × Bool) R))}
    (hb : ∀ b bad acc n, b.length ≤ 6000 → body (b, bad, acc, n) = cond (decide (0 < n) && !bad) ((appP w acc [(g b bad).1]).bind fun v => some (.inl ((g b bad).2.1, (g b bad).2.2, v, IntKind.i64.wrap (n - 1)))) (some (.inr (.inl (acc, b, bad)))))
    {b : List UInt8} {bad : Bool} (h0 : b.length ≤ 6000) : loopP body ((rdN b bad).2.1, (rdN b bad).2.2, [], (rdN b bad).1) = some (.inl (reL g b bad)) := by
  have hle := rdN_ok.le b bad
  have hq := rdN_ok.q b bad h0
  unfold reL
  rcases (show 0 < (rdN b bad).1 ∨ (rdN b bad).1 ≤ 0 by omega) with h | h
  · have := read_loop hg hw hb (rdN b bad).1.toNat (rdN b bad).2.1 (rdN b bad).2.2 [] (by omega) (by have := hq.2; omega) (fun _ => by simp; omega) (by simp)
    rw [show (((rdN b bad).1.toNat : Nat) : Int) = (rdN b bad).1 by omega] at this
    exact this
  · have e : (rdN b bad).1.toNat = 0 := by omega
    rw [e, loopP_eq, hb _ _ _ _ (by omega), decide_eq_false (by omega)]
    rfl
def rdField (P : List (List UInt8)) : Rea ApiField := (rdT P).bind fun n => (rdT P).bind fun t => rdB.bind fun s => Rea.ret (ApiField.mk n t s)
def rdIns (P : List (List UInt8)) : Rea ApiIns := rdN.bind fun o => rdN.bind fun a => (rdT P).bind fun c => (rdT P).bind fun m => Rea.ret (ApiIns.mk o a c m)
def rdMap (P : List (List UInt8)) : Rea ApiMap := rdN.bind fun a => (reL (rdT P)).bind fun l => (reL (rdT P)).bind fun s => Rea.ret (ApiMap.mk a l s)
def rdTrap (P : List (List UInt8)) : Rea ApiTrap := rdN.bind fun f => rdN.bind fun t => rdN.bind fun a => (rdT P).bind fun c => Rea.ret (ApiTrap.mk f t a c)
def rdMeth (P : List (List UInt8)) : Rea ApiMethod := (rdT P).bind fun n => (reL (rdT P)).bind fun p => (rdT P).bind fun r => rdB.bind fun s => rdB.bind fun a => rdN.bind fun lo => rdN.bind fun st => (reL (rdIns P)).bind fun c => (reL (rdMap P)).bind fun m => (reL (rdTrap P)).bind fun t =>
  Rea.ret (ApiMethod.mk n p r s a lo st c m t)
def rdClass (P : List (List UInt8)) : Rea ApiClass := (rdT P).bind fun n => (rdT P).bind fun s => rdB.bind fun i => (reL (rdT P)).bind fun im => (reL (rdField P)).bind fun f => (reL (rdMeth P)).bind fun m => Rea.ret (ApiClass.mk n s i im f m)
section
variable {P : List (List UInt8)} (hP : ∀ s ∈ P, FS s)
include hP
theorem rdField_ok : ReaOk FField (rdField P) :=
  (rdT_ok hP).bind (fun n hn => ((rdT_ok hP).toReaW.bind (fun t ht => rdB_ok.toReaW.bind (fun s _ => ReaW.ret ⟨hn, ht⟩) fun _ => ReaN.ret) fun _ => rdB_ok.toReaW.n.bind fun _ => ReaN.ret))
    fun _ => (rdT_n P).bind fun _ => rdB_ok.toReaW.n.bind fun _ => ReaN.ret
theorem rdIns_ok : ReaOk FIns (rdIns P) :=
  rdN_ok.bind (fun o ho => rdN_ok.toReaW.bind (fun a ha => (rdT_ok hP).toReaW.bind (fun c hc => (rdT_ok hP).toReaW.bind (fun m hm => ReaW.ret ⟨ho, ha, hc, hm⟩) fun _ => ReaN.ret) fun _ => (rdT_n P).bind fun _ => ReaN.ret)
      fun _ => (rdT_n P).bind fun _ => (rdT_n P).bind fun _ => ReaN.ret)
    fun _ => rdN_ok.toReaW.n.bind fun _ => (rdT_n P).bind fun _ => (rdT_n P).bind fun _ => ReaN.ret
theorem rdMap_ok : ReaOk FMap (rdMap P) :=
  rdN_ok.bind (fun a ha => (reL_ok (rdT_ok hP)).toReaW.bind (fun l hl => (reL_ok (rdT_ok hP)).toReaW.bind (fun s hs => ReaW.ret ⟨ha, hl, hs⟩) fun _ => ReaN.ret) fun _ => (reL_n (rdT_n P)).bind fun _ => ReaN.ret)
    fun _ => (reL_n (rdT_n P)).bind fun _ => (reL_n (rdT_n P)).bind fun _ => ReaN.ret
theorem rdTrap_ok : ReaOk FTrap (rdTrap P) :=
  rdN_ok.bind (fun f hf => rdN_ok.toReaW.bind (fun t ht => rdN_ok.toReaW.bind (fun a ha => (rdT_ok hP).toReaW.bind (fun c hc => ReaW.ret ⟨hf, ht, ha, hc⟩) fun _ => ReaN.ret) fun _ => (rdT_n P).bind fun _ => ReaN.ret)
      fun _ => rdN_ok.toReaW.n.bind fun _ => (rdT_n P).bind fun _ => ReaN.ret)
    fun _ => rdN_ok.toReaW.n.bind fun _ => rdN_ok.toReaW.n.bind fun _ => (rdT_n P).bind fun _ => ReaN.ret
theorem rdMeth_ok : ReaOk FMeth (rdMeth P) := by
  have nT := rdT_n P
  have nL := reL_n nT
  have nB := rdB_ok.toReaW.n
  have nN := rdN_ok.toReaW.n
  have nI := reL_n (rdIns_ok hP).toReaW.n
  have nM := reL_n (rdMap_ok hP).toReaW.n
  have nR := reL_n (rdTrap_ok hP).toReaW.n
  have wT := (rdT_ok hP).toReaW
  have wL := (reL_ok (rdT_ok hP)).toReaW
  have wB := rdB_ok.toReaW
  have wN := rdN_ok.toReaW
  have wI := (reL_ok (rdIns_ok hP)).toReaW
  have wM := (reL_ok (rdMap_ok hP)).toReaW
  have wR := (reL_ok (rdTrap_ok hP)).toReaW
  refine (rdT_ok hP).bind (fun n hn => wL.bind (fun p hp => wT.bind (fun r hr => wB.bind (fun s _ => wB.bind (fun a _ => wN.bind (fun lo hlo => wN.bind (fun st hst => wI.bind (fun c hc => wM.bind (fun m hm => wR.bind (fun t ht => ReaW.ret ⟨hn, hp, hr, hlo, hst, hc, hm, ht⟩) ?_) ?_) ?_) ?_) ?_) ?_) ?_) ?_) ?_) ?_
  · exact fun _ => ReaN.ret
  · exact fun _ => nR.bind fun _ => ReaN.ret
  · exact fun _ => nM.bind fun _ => nR.bind fun _ => ReaN.ret
  · exact fun _ => nI.bind fun _ => nM.bind fun _ => nR.bind fun _ => ReaN.ret
  · exact fun _ => nN.bind fun _ => nI.bind fun _ => nM.bind fun _ => nR.bind fun _ => ReaN.ret
  · exact fun _ => nN.bind fun _ => nN.bind fun _ => nI.bind fun _ => nM.bind fun _ => nR.bind fun _ => ReaN.ret
  · exact fun _ => nB.bind fun _ => nN.bind fun _ => nN.bind fun _ => nI.bind fun _ => nM.bind fun _ => nR.bind fun _ => ReaN.ret
  · exact fun _ => nB.bind fun _ => nB.bind fun _ => nN.bind fun _ => nN.bind fun _ => nI.bind fun _ => nM.bind fun _ => nR.bind fun _ => ReaN.ret
  · exact fun _ => nT.bind fun _ => nB.bind fun _ => nB.bind fun _ => nN.bind fun _ => nN.bind fun _ => nI.bind fun _ => nM.bind fun _ => nR.bind fun _ => ReaN.ret
  · exact fun _ => nL.bind fun _ => nT.bind fun _ => nB.bind fun _ => nB.bind fun _ => nN.bind fun _ => nN.bind fun _ => nI.bind fun _ => nM.bind fun _ => nR.bind fun _ => ReaN.ret
theorem rdClass_ok : ReaOk FClass (rdClass P) := by
  have nT := rdT_n P
  have nL := reL_n nT
  have nB := rdB_ok.toReaW.n
  have nF := reL_n (rdField_ok hP).toReaW.n
  have nM := reL_n (rdMeth_ok hP).toReaW.n
  have wT := (rdT_ok hP).toReaW
  have wL := (reL_ok (rdT_ok hP)).toReaW
  have wB := rdB_ok.toReaW
  have wF := (reL_ok (rdField_ok hP)).toReaW
  have wM := (reL_ok (rdMeth_ok hP)).toReaW
  refine (rdT_ok hP).bind (fun n hn => wT.bind (fun s hs => wB.bind (fun i _ => wL.bind (fun l hl => wF.bind (fun f hf => wM.bind (fun m hm => ReaW.ret ⟨hn, hs, hl, hf, hm⟩) ?_) ?_) ?_) ?_) ?_) ?_
  · exact fun _ => ReaN.ret
  · exact fun _ => nM.bind fun _ => ReaN.ret
  · exact fun _ => nF.bind fun _ => nM.bind fun _ => ReaN.ret
  · exact fun _ => nL.bind fun _ => nF.bind fun _ => nM.bind fun _ => ReaN.ret
  · exact fun _ => nB.bind fun _ => nL.bind fun _ => nF.bind fun _ => nM.bind fun _ => ReaN.ret
  · exact fun _ => nT.bind fun _ => nB.bind fun _ => nL.bind fun _ => nF.bind fun _ => nM.bind fun _ => ReaN.ret
end
abbrev L6 (b : List UInt8) : Prop := b.length ≤ 6000
theorem skip_eq {P : List (List UInt8)} {b : List UInt8} {bad : Bool} {k e : Int} (h : e = 0 → ∃ j : Nat, k = j ∧ j ≤ b.length) : file_reader_skip P b bad k e = some (cond (bad || !(e == (0 : Int))) b (b.drop k.toNat)) := by
  unfold file_reader_skip
  cases hc : (bad || !(e == (0 : Int))) with
  | true => rfl
  | false =>
    have h1 := (Bool.or_eq_false_iff.1 hc).2
    obtain ⟨j, h2, h3⟩ := h (by simpa using h1)
    subst h2
    simp only [Bool.not_false, cond_true, cond_false]
    rw [cutP_from h3]
    rfl
theorem g_num {P : List (List UInt8)} {b : List UInt8} {bad : Bool} (h : L6 b) : file_reader_num P b bad = some (rdN b bad) := by
  unfold file_reader_num rdN
  unfold L6 at h
  rw [num_Get_eq (by unfold Len; omega), Option.bind_some, skip_eq (fun he => by obtain ⟨j, h1, _, h2, _⟩ := getB_ok b he; exact ⟨j, h1, h2⟩), Option.bind_some]
  cases hc : (bad || !((getB b).2.2 == (0 : Int))) <;> rfl
theorem g_text {P : List (List UInt8)} {b : List UInt8} {bad : Bool} (h : L6 b) : file_reader_text P b bad = some (rdT P b bad) := by
  unfold file_reader_text rdT
  rw [g_num h, Option.bind_some]
  cases hc : (((rdN b bad).2.2 || decide ((rdN b bad).1 < 0)) || decide ((P.length : Int) ≤ (rdN b bad).1)) with
  | true => rfl
  | false =>
    simp only [Bool.or_eq_false_iff, decide_eq_false_iff_not] at hc
    simp only [cond_false]
    have e : (rdN b bad).1 = (((rdN b bad).1.toNat : Nat) : Int) := by omega
    conv => lhs; rw [e, idx_nat]
    rw [List.getElem?_eq_getElem (show (rdN b bad).1.toNat < P.length by omega)]
    rfl
theorem g_truth {P : List (List UInt8)} {b : List UInt8} {bad : Bool} (h : L6 b) : file_reader_truth P b bad = some (rdB b bad) := by
  unfold file_reader_truth
  rw [g_num h]; rfl
theorem g_own {P : List (List UInt8)} {b : List UInt8} {bad : Bool} (h : L6 b) : file_reader_own P b bad = some (rdO b bad) := by
  unfold file_reader_own rdO
  unfold L6 at h
  rw [num_GetText_eq (by unfold Len; omega), Option.bind_some, skip_eq (fun he => by obtain ⟨j, h1, _, h2⟩ := getText_ok b he; exact ⟨j, h1, h2⟩), Option.bind_some]
  cases hc : (bad || !((getText b).2.2 == (0 : Int))) <;> rfl
theorem g_list {α : Type} {Q : α → Prop} {g : Rea α} (hg : ReaOk Q g) {w : Nat} (hw : w ≤ 200) {P : List (List UInt8)} {b : List UInt8} {bad : Bool} {l : List (List UInt8) → List UInt8 → Bool → List α → Int → Option (Sum (List UInt8 × Bool × List α × Int) (Sum (List α × List UInt8 × Bool) (List α × List UInt8 × Bool)))}
    {k : List α → List UInt8 → Bool → Option (List α × List UInt8 × Bool)} {e : List UInt8 → Bool → Option (α × List UInt8 × Bool)}
    (he : ∀ b bad, L6 b → e b bad = some (g b bad))
    (hl : ∀ b bad acc n, l P b bad acc n = cond (decide (0 < n) && !bad) ((e b bad).bind fun v15 => (appP w acc [v15.1]).bind fun v16 => some (.inl (v15.2.1, v15.2.2, v16, (IntKind.i64.wrap (n - 1))))) (some (.inr (.inl (acc, b, bad)))))
    (hk : ∀ a b c, k a b c = some (a, b, c)) (h : L6 b) :
    ((file_reader_num P b bad).bind fun v4 => (loopP (fun z => l P z.1 z.2.1 z.2.2.1 z.2.2.2) (v4.2.1, v4.2.2, [], v4.1)).bind fun o => leave o (fun b => k b.1 b.2.1 b.2.2) some) = some (reL g b bad) := by
  rw [g_num h, Option.bind_some, read_list hg hw (body := fun z => l P z.1 z.2.1 z.2.2.1 z.2.2.2) (fun b bad acc n hb => by
    show l P b bad acc n = _
    rw [hl, he b bad hb]
    rfl) h]
  exact hk _ _ _
theorem g_pool {b : List UInt8} {bad : Bool} (h : L6 b) : file_read_string [] b bad = some (reL rdO b bad) :=
  g_list rdO_ok (by decide) (l := file_read_string_l1) (k := file_read_string_k2) (fun b bad hb => g_own hb) (fun _ _ _ _ => rfl) (fun _ _ _ => rfl) h
section
variable {P : List (List UInt8)} (hP : ∀ s ∈ P, FS s) {b : List UInt8} {bad : Bool} (h : L6 b)
include hP h
theorem g_strings : file_read_string_s2 P b bad = some (reL (rdT P) b bad) :=
  g_list (rdT_ok hP) (by decide) (l := file_read_string_s2_l1) (k := file_read_string_s2_k2) (fun b bad hb => g_text hb) (fun _ _ _ _ => rfl) (fun _ _ _ => rfl) h
theorem g_field : file_reader_field P b bad = some (rdField P b bad) := by
  unfold file_reader_field
  have h1 := (rdT_n P b bad).1
  have h2 := (rdT_n P (rdT P b bad).2.1 (rdT P b bad).2.2).1
  unfold L6 at h
  rw [g_text (by unfold L6; omega)]
  simp only [Option.bind_some]
  rw [g_text (by unfold L6; omega)]
  simp only [Option.bind_some]
  rw [g_truth (by unfold L6; omega)]
  rfl
theorem g_ins : file_reader_ins P b bad = some (rdIns P b bad) := by
  unfold file_reader_ins
  unfold L6 at h
  rw [g_num h]
  simp only [Option.bind_some]
  have h1 := rdN_ok.le b bad
  generalize hr : rdN b bad = r at *
  rw [g_num (by unfold L6; omega)]
  simp only [Option.bind_some]
  have h2 := rdN_ok.le r.2.1 r.2.2
  generalize hr2 : rdN r.2.1 r.2.2 = r2 at *
  rw [g_text (by unfold L6; omega)]
  simp only [Option.bind_some]
  have h3 := (rdT_n P r2.2.1 r2.2.2).1
  generalize hr3 : rdT P r2.2.1 r2.2.2 = r3 at *
  rw [g_text (by unfold L6; omega)]
  subst hr; subst hr2; subst hr3
  rfl
theorem g_trap : file_reader_trap P b bad = some (rdTrap P b bad) := by
  unfold file_reader_trap
  unfold L6 at h
  rw [g_num h]
  simp only [Option.bind_some]
  have h1 := rdN_ok.le b bad
  generalize hr : rdN b bad = r at *
  rw [g_num (by unfold L6; omega)]
  simp only [Option.bind_some]
  have h2 := rdN_ok.le r.2.1 r.2.2
  generalize hr2 : rdN r.2.1 r.2.2 = r2 at *
  rw [g_num (by unfold L6; omega)]
  simp only [Option.bind_some]
  have h3 := rdN_ok.le r2.2.1 r2.2.2
  generalize hr3 : rdN r2.2.1 r2.2.2 = r3 at *
  rw [g_text (by unfold L6; omega)]
  subst hr; subst hr2; subst hr3
  rfl
theorem g_map : file_reader_place P b bad = some (rdMap P b bad) := by
  unfold file_reader_place
  unfold L6 at h
  rw [g_num h]
  simp only [Option.bind_some]
  have h1 := rdN_ok.le b bad
  generalize hr : rdN b bad = r at *
  rw [g_strings hP (by unfold L6; omega)]
  simp only [Option.bind_some]
  have h2 := (reL_n (rdT_n P) r.2.1 r.2.2).1
  generalize hr2 : reL (rdT P) r.2.1 r.2.2 = r2 at *
  rw [g_strings hP (by unfold L6; omega)]
  subst hr; subst hr2
  rfl
theorem g_fields : file_read_api_Field P b bad = some (reL (rdField P) b bad) :=
  g_list (rdField_ok hP) (by decide) (l := file_read_api_Field_l1) (k := file_read_api_Field_k2) (fun b bad hb => g_field hP hb) (fun _ _ _ _ => rfl) (fun _ _ _ => rfl) h
theorem g_code : file_read_api_Ins P b bad = some (reL (rdIns P) b bad) :=
  g_list (rdIns_ok hP) (by decide) (l := file_read_api_Ins_l1) (k := file_read_api_Ins_k2) (fun b bad hb => g_ins hP hb) (fun _ _ _ _ => rfl) (fun _ _ _ => rfl) h
theorem g_maps : file_read_api_Map P b bad = some (reL (rdMap P) b bad) :=
  g_list (rdMap_ok hP) (by decide) (l := file_read_api_Map_l1) (k := file_read_api_Map_k2) (fun b bad hb => g_map hP hb) (fun _ _ _ _ => rfl) (fun _ _ _ => rfl) h
theorem g_traps : file_read_api_Trap P b bad = some (reL (rdTrap P) b bad) :=
  g_list (rdTrap_ok hP) (by decide) (l := file_read_api_Trap_l1) (k := file_read_api_Trap_k2) (fun b bad hb => g_trap hP hb) (fun _ _ _ _ => rfl) (fun _ _ _ => rfl) h
theorem g_meth : file_reader_method P b bad = some (rdMeth P b bad) := by
  unfold file_reader_method
  unfold L6 at h
  rw [g_text h]
  simp only [Option.bind_some]
  have l1 := (rdT_n P b bad).1
  generalize hr1 : rdT P b bad = r1 at *
  rw [g_strings hP (by unfold L6; omega)]
  simp only [Option.bind_some]
  have l2 := (reL_n (rdT_n P) r1.2.1 r1.2.2).1
  generalize hr2 : reL (rdT P) r1.2.1 r1.2.2 = r2 at *
  rw [g_text (by unfold L6; omega)]
  simp only [Option.bind_some]
  have l3 := (rdT_n P r2.2.1 r2.2.2).1
  generalize hr3 : rdT P r2.2.1 r2.2.2 = r3 at *
  rw [g_truth (by unfold L6; omega)]
  simp only [Option.bind_some]
  have l4 := rdB_ok.le r3.2.1 r3.2.2
  generalize hr4 : rdB r3.2.1 r3.2.2 = r4 at *
  rw [g_truth (by unfold L6; omega)]
  simp only [Option.bind_some]
  have l5 := rdB_ok.le r4.2.1 r4.2.2
  generalize hr5 : rdB r4.2.1 r4.2.2 = r5 at *
  rw [g_num (by unfold L6; omega)]
  simp only [Option.bind_some]
  have l6 := rdN_ok.le r5.2.1 r5.2.2
  generalize hr6 : rdN r5.2.1 r5.2.2 = r6 at *
  rw [g_num (by unfold L6; omega)]
  simp only [Option.bind_some]
  have l7 := rdN_ok.le r6.2.1 r6.2.2
  generalize hr7 : rdN r6.2.1 r6.2.2 = r7 at *
  rw [g_code hP (by unfold L6; omega)]
  simp only [Option.bind_some]
  have l8 := (reL_n (rdIns_ok hP).toReaW.n r7.2.1 r7.2.2).1
  generalize hr8 : reL (rdIns P) r7.2.1 r7.2.2 = r8 at *
  rw [g_maps hP (by unfold L6; omega)]
  simp only [Option.bind_some]
  have l9 := (reL_n (rdMap_ok hP).toReaW.n r8.2.1 r8.2.2).1
  generalize hr9 : reL (rdMap P) r8.2.1 r8.2.2 = r9 at *
  rw [g_traps hP (by unfold L6; omega)]
  subst hr1; subst hr2; subst hr3; subst hr4; subst hr5; subst hr6; subst hr7; subst hr8; subst hr9
  rfl
theorem g_methods : file_read_api_Method P b bad = some (reL (rdMeth P) b bad) :=
  g_list (rdMeth_ok hP) (by decide) (l := file_read_api_Method_l1) (k := file_read_api_Method_k2) (fun b bad hb => g_meth hP hb) (fun _ _ _ _ => rfl) (fun _ _ _ => rfl) h
theorem g_class {R : Type} (k : ApiClass → List UInt8 → Bool → Option R) :
    ((file_reader_text P b bad).bind fun v5 => (file_reader_text P v5.2.1 v5.2.2).bind fun v6 => (file_reader_truth P v6.2.1 v6.2.2).bind fun v7 => (file_read_string_s2 P v7.2.1 v7.2.2).bind fun v8 => (file_read_api_Field P v8.2.1 v8.2.2).bind fun v9 => (file_read_api_Method P v9.2.1 v9.2.2).bind fun v10 =>
      k (ApiClass.mk v5.1 v6.1 v7.1 v8.1 v9.1 v10.1) v10.2.1 v10.2.2) = k (rdClass P b bad).1 (rdClass P b bad).2.1 (rdClass P b bad).2.2 := by
  unfold L6 at h
  rw [g_text h]
  simp only [Option.bind_some]
  have l1 := (rdT_n P b bad).1
  generalize hr1 : rdT P b bad = r1 at *
  rw [g_text (by unfold L6; omega)]
  simp only [Option.bind_some]
  have l3 := (rdT_n P r1.2.1 r1.2.2).1
  generalize hr3 : rdT P r1.2.1 r1.2.2 = r3 at *
  rw [g_truth (by unfold L6; omega)]
  simp only [Option.bind_some]
  have l4 := rdB_ok.le r3.2.1 r3.2.2
  generalize hr4 : rdB r3.2.1 r3.2.2 = r4 at *
  rw [g_strings hP (by unfold L6; omega)]
  simp only [Option.bind_some]
  have l2 := (reL_n (rdT_n P) r4.2.1 r4.2.2).1
  generalize hr2 : reL (rdT P) r4.2.1 r4.2.2 = r2 at *
  rw [g_fields hP (by unfold L6; omega)]
  simp only [Option.bind_some]
  have l8 := (reL_n (rdField_ok hP).toReaW.n r2.2.1 r2.2.2).1
  generalize hr8 : reL (rdField P) r2.2.1 r2.2.2 = r8 at *
  rw [g_methods hP (by unfold L6; omega)]
  subst hr1; subst hr3; subst hr4; subst hr2; subst hr8
  rfl
end
end Go.Proofs.YthmnlfenkhmmhaaGreat
namespace Go.Proofs.YthmnlfenkhmmhaaGreat
set_option linter.unusedSimpArgs false
set_option linter.unusedVariables false
set_option linter.unusedSectionVars false
def zeroC : ApiClass := ApiClass.mk [] [] false [] [] []
def rdAll (b : List UInt8) : ApiClass × Bool := ((rdClass (reL rdO b false).1 (reL rdO b false).2.1 (reL rdO b false).2.2).1, (rdClass (reL rdO b false).1 (reL rdO b false).2.1 (reL rdO b false).2.2).2.2)
noncomputable def decE (b : List UInt8) (r : ApiClass × Bool) : ApiClass × Int :=
  match encN r.1 with
  | none => (zeroC, 1)
  | some l => cond (r.2 || !(l == b)) (zeroC, 1) (r.1, 0)
noncomputable def decN (b : List UInt8) : ApiClass × Int :=
  cond (decide (6000 < (b.length : Int))) (zeroC, 3) (cond (!(b.take 4 == [74, 65, 86, 65])) (zeroC, 1) (decE b (rdAll (b.drop 4))))
theorem prefix_eq (b : List UInt8) (hb : Len b) : strings_HasPrefix b [74, 65, 86, 65] = some (b.take 4 == [74, 65, 86, 65]) := by
  unfold strings_HasPrefix internal_stringslite_HasPrefix
  cases hd : decide ((([74, 65, 86, 65] : List UInt8).length : Int) ≤ (b.length : Int)) with
  | true =>
    have h := of_decide_eq_true hd
    simp only [cond_true]
    rw [cutP_to (b := ([74, 65, 86, 65] : List UInt8).length) (by omega)]
    rfl
  | false =>
    have h := of_decide_eq_false hd
    have hl : b.length < 4 := by simp at h; omega
    have : (b.take 4 == [74, 65, 86, 65]) = false := beq_eq_false_iff_ne.2 fun e => by
      have := congrArg List.length e
      simp at this
      omega
    rw [this]; rfl
theorem rdPool_in {b : List UInt8} (h : L6 b) : ∀ s ∈ (reL rdO b false).1, FS s := ((reL_ok rdO_ok).q b false h).all
theorem rdAll_in {b : List UInt8} (h : L6 b) : FClass (rdAll b).1 := by
  have h1 := (reL_ok rdO_ok).le b false
  exact (rdClass_ok (rdPool_in h)).q _ _ (by unfold L6 at h; omega)
theorem outB_ne (w : W) : ∃ r, outB w = 74 :: r := ⟨_, rfl⟩
theorem file_Decode_eq (b : List UInt8) (hb : Len b) : file_Decode b = some (decN b) := by
  unfold file_Decode decN
  cases hd : decide (6000 < (b.length : Int)) with
  | true => rfl
  | false =>
    have h0 := of_decide_eq_false hd
    simp only [cond_false]
    rw [prefix_eq b hb, Option.bind_some]
    cases hp : (b.take 4 == [74, 65, 86, 65]) with
    | false => rfl
    | true =>
      have h1 := beq_iff_eq.1 hp
      have h4 : 4 ≤ b.length := by
        have := congrArg List.length h1
        simp at this
        omega
      have hl : L6 (b.drop 4) := by unfold L6; rw [List.length_drop]; omega
      simp only [Bool.not_true, cond_false]
      rw [show cutP b 4 (b.length : Int) = some (b.drop 4) from cutP_from (a := 4) h4, Option.bind_some, g_pool hl, Option.bind_some]
      have h5 := (reL_ok rdO_ok).le (b.drop 4) false
      refine (g_class (rdPool_in hl) (show L6 _ by unfold L6 at hl ⊢; omega) (fun c b' bad => (file_EncodeO c).bind fun v11 => optC v11 (cond ((bad || true) || (!(bytes_Equal [] b))) (some ((ApiClass.mk [] [] false [] [] []), 1)) (some (c, 0)))
        (fun v12 => (cond bad (some true) ((idx v12 0).bind fun v13 => some false)).bind fun v14 => cond (v14 || (!(bytes_Equal v12 b))) (some ((ApiClass.mk [] [] false [] [] []), 1)) (some (c, (0 : Int)))))).trans ?_
      have hc := rdAll_in hl
      rw [show (rdClass (reL rdO (List.drop 4 b) false).1 (reL rdO (List.drop 4 b) false).2.1 (reL rdO (List.drop 4 b) false).2.2).1 = (rdAll (b.drop 4)).1 from rfl,
        show (rdClass (reL rdO (List.drop 4 b) false).1 (reL rdO (List.drop 4 b) false).2.1 (reL rdO (List.drop 4 b) false).2.2).2.2 = (rdAll (b.drop 4)).2 from rfl]
      generalize rdAll (b.drop 4) = r at *
      rw [file_EncodeO_eq hc, Option.bind_some]
      unfold decE
      cases he : encN r.1 with
      | none =>
        show cond ((r.2 || true) || _) _ _ = _
        rw [Bool.or_true]; rfl
      | some l =>
        have hne : ∃ q, l = 74 :: q := by
          unfold encN at he
          cases hm : mayG r.1 with
          | false => rw [hm] at he; cases he
          | true =>
            rw [hm] at he
            simp only [cond_true] at he
            cases hs : decide (6000 < ((bytesC r.1).length : Int)) with
            | true => rw [hs] at he; cases he
            | false =>
              rw [hs] at he
              cases he
              exact outB_ne _
        obtain ⟨q, rfl⟩ := hne
        show ((cond r.2 (some true) ((idx (74 :: q) 0).bind fun v13 => some false)).bind fun v14 => cond (v14 || (!(bytes_Equal (74 :: q) b))) (some ((ApiClass.mk [] [] false [] [] []), 1)) (some (r.1, (0 : Int)))) = _
        rw [idx_zero]
        unfold bytes_Equal
        show _ = some (cond (r.2 || !((74 :: q : List UInt8) == b)) (zeroC, 1) (r.1, 0))
        generalize ((74 :: q : List UInt8) == b) = e
        cases r.2 <;> cases e <;> rfl
def encT (P : List (List UInt8)) : Tok → List UInt8
  | .n x => put x
  | .t s => put (ixN P s : Int)
def OkT (P : List (List UInt8)) : Tok → Prop
  | .n x => I64 x
  | .t s => ixN P s < P.length ∧ P.length ≤ 1000000000
def RT {α : Type} (P : List (List UInt8)) (g : Rea α) (x : α) (l : List Tok) : Prop := (∀ t ∈ l, OkT P t) → ∀ rest, g (l.flatMap (encT P) ++ rest) false = (x, rest, false)
theorem rdN_put {x : Int} (h : I64 x) (rest : List UInt8) : rdN (put x ++ rest) false = (x, rest, false) := by
  unfold rdN
  rw [get_put x rest h.1 h.2]
  simp
section
variable {P : List (List UInt8)}
theorem rt_num {x : Int} : RT P rdN x [.n x] := fun h rest => by
  have h1 : I64 x := h _ (List.mem_singleton.2 rfl)
  rw [List.flatMap_cons, List.flatMap_nil, List.append_nil]
  exact rdN_put h1 rest
theorem rt_truth {v : Bool} : RT P rdB v [tkB v] := fun h rest => by
  have h1 : I64 (cond v 1 0) := h _ (List.mem_singleton.2 rfl)
  rw [List.flatMap_cons, List.flatMap_nil, List.append_nil]
  show (_, _, _) = _
  rw [show encT P (tkB v) = put (cond v 1 0) from rfl, rdN_put h1 rest]
  cases v <;> rfl
theorem rt_text {s : List UInt8} : RT P (rdT P) s [.t s] := fun h rest => by
  obtain ⟨h1, h2⟩ : ixN P s < P.length ∧ P.length ≤ 1000000000 := h _ (List.mem_singleton.2 rfl)
  rw [List.flatMap_cons, List.flatMap_nil, List.append_nil]
  unfold rdT
  rw [show encT P (.t s) = put (ixN P s : Int) from rfl, rdN_put ⟨by omega, by omega⟩ rest]
  simp only
  rw [decide_eq_false (by omega), decide_eq_false (by omega), Int.toNat_natCast, List.getElem?_eq_getElem h1]
  have : (s == P[ixN P s]) = true := List.findIdx_getElem (w := h1)
  rw [← beq_iff_eq.1 this]
  rfl
theorem rt_ret {α : Type} {x : α} : RT P (Rea.ret x) x [] := fun _ rest => rfl
theorem rt_bind {α β : Type} {g : Rea α} {f : α → Rea β} {x : α} {y : β} {l1 l2 : List Tok} (h1 : RT P g x l1) (h2 : RT P (f x) y l2) : RT P (g.bind f) y (l1 ++ l2) := fun h rest => by
  unfold Rea.bind
  rw [List.flatMap_append, List.append_assoc, h1 (fun t ht => h t (List.mem_append_left _ ht))]
  exact h2 (fun t ht => h t (List.mem_append_right _ ht)) rest
theorem rt_cons {α β : Type} {g : Rea α} {f : α → Rea β} {x : α} {y : β} {t : Tok} {l2 : List Tok} (h1 : RT P g x [t]) (h2 : RT P (f x) y l2) : RT P (g.bind f) y (t :: l2) := rt_bind h1 h2
theorem rt_last {α β : Type} {g : Rea α} {x : α} {y : β} {l : List Tok} {f : α → Rea β} (h1 : RT P g x l) (h2 : f x = Rea.ret y) : RT P (g.bind f) y l := by
  have := rt_bind (f := f) h1 (h2 ▸ rt_ret)
  rwa [List.append_nil] at this
theorem rt_list {α : Type} {g : Rea α} {f : α → List Tok} {l : List α} (hl : l.length ≤ 10000) (h : ∀ x ∈ l, RT P g x (f x)) : RT P (reL g) l (tkL f l) := fun hk rest => by
  have key : ∀ (l : List α), (∀ x ∈ l, RT P g x (f x)) → (∀ t ∈ l.flatMap f, OkT P t) → ∀ acc, rdLoop g l.length ((l.flatMap f).flatMap (encT P) ++ rest) false acc = (acc ++ l, rest, false) := by
    intro l
    induction l with
    | nil => intro _ _ acc; simp [rdLoop]
    | cons x l ih =>
      intro h1 h2 acc
      rw [List.length_cons, List.flatMap_cons, List.flatMap_append, List.append_assoc]
      unfold rdLoop
      rw [h1 x (List.mem_cons_self ..) (fun t ht => h2 t (by rw [List.flatMap_cons]; exact List.mem_append_left _ ht))]
      simp only [cond_false]
      rw [ih (fun y hy => h1 y (List.mem_cons_of_mem _ hy)) (fun t ht => h2 t (by rw [List.flatMap_cons]; exact List.mem_append_right _ ht))]
      rw [List.append_assoc]; rfl
  have hn : I64 (l.length : Int) := ⟨by omega, by omega⟩
  unfold reL tkL
  rw [List.flatMap_cons, List.append_assoc, show encT P (.n (l.length : Int)) = put (l.length : Int) from rfl, rdN_put hn]
  simp only [Int.toNat_natCast]
  rw [key l h (fun t ht => hk t (List.mem_cons_of_mem _ ht))]
  rfl
theorem rt_field (f : ApiField) : RT P (rdField P) f (tkField f) := rt_cons rt_text (rt_cons rt_text (rt_last rt_truth rfl))
theorem rt_ins (x : ApiIns) : RT P (rdIns P) x (tkIns x) := rt_cons rt_num (rt_cons rt_num (rt_cons rt_text (rt_last rt_text rfl)))
theorem rt_trap (x : ApiTrap) : RT P (rdTrap P) x (tkTrap x) := rt_cons rt_num (rt_cons rt_num (rt_cons rt_num (rt_last rt_text rfl)))
theorem rt_strings {l : List (List UInt8)} (h : FL FS l) : RT P (reL (rdT P)) l (tkL tkS l) := rt_list h.len fun _ _ => rt_text
theorem rt_map {x : ApiMap} (h : FMap x) : RT P (rdMap P) x (tkMap x) := rt_cons rt_num (rt_bind (rt_strings h.locals) (rt_last (rt_strings h.stack) rfl))
theorem rt_meth {m : ApiMethod} (h : FMeth m) : RT P (rdMeth P) m (tkMeth m) :=
  rt_cons rt_text (rt_bind (rt_strings h.params) (rt_cons rt_text (rt_cons rt_truth (rt_cons rt_truth (rt_cons rt_num (rt_cons rt_num (rt_bind (rt_list h.code.len fun x _ => rt_ins x) (rt_bind (rt_list h.maps.len fun x hx => rt_map (h.maps.all x hx)) (rt_last (rt_list h.traps.len fun x _ => rt_trap x) rfl)))))))))
theorem rt_class {c : ApiClass} (h : FClass c) : RT P (rdClass P) c (tkClass c) :=
  rt_cons rt_text (rt_cons rt_text (rt_cons rt_truth (rt_bind (rt_strings h.impl) (rt_bind (rt_list h.fields.len fun x _ => rt_field x) (rt_last (rt_list h.methods.len fun x hx => rt_meth (h.methods.all x hx)) rfl)))))
end
theorem ixN_app {p q : List (List UInt8)} {s : List UInt8} (h : ixN p s < p.length) : ixN (p ++ q) s = ixN p s := by
  unfold ixN at h ⊢
  rw [List.findIdx_append, if_pos h]
theorem insP_ix (p : List (List UInt8)) (s : List UInt8) : ixN (insP p s) s = ixN p s ∧ ixN p s < (insP p s).length := by
  unfold insP
  cases hd : decide (ixN p s < p.length) with
  | true => exact ⟨rfl, of_decide_eq_true hd⟩
  | false =>
    have h := of_decide_eq_false hd
    have hle := ixN_le p s
    refine ⟨?_, by simp; omega⟩
    unfold ixN at h ⊢
    simp only [cond_false]
    rw [List.findIdx_append, if_neg h]
    simp
    unfold ixN at hle
    omega
theorem pool_ext : ∀ (l : List Tok) (w : W), ∃ q, (wrT w l).1 = w.1 ++ q
  | [], w => ⟨[], by simp [wrT]⟩
  | t :: l, w => by
    obtain ⟨q, h⟩ := pool_ext l (wr1 w t)
    have h1 : ∃ q, (wr1 w t).1 = w.1 ++ q := by
      cases t with
      | n x => exact ⟨[], by simp [wr1]⟩
      | t s =>
        show ∃ q, insP w.1 s = w.1 ++ q
        unfold insP
        cases decide (ixN w.1 s < w.1.length) with
        | true => exact ⟨[], by simp⟩
        | false => exact ⟨[s], rfl⟩
    obtain ⟨q1, h2⟩ := h1
    exact ⟨q1 ++ q, by rw [wrT_cons, h, h2, List.append_assoc]⟩
theorem wr_enc : ∀ (l : List Tok) (w : W) (P : List (List UInt8)), (wrT w l).1 = P → (wrT w l).2 = w.2 ++ l.flatMap (encT P) ∧ ∀ s, Tok.t s ∈ l → ixN P s < P.length
  | [], w, P, _ => ⟨by simp [wrT], fun s h => by cases h⟩
  | t :: l, w, P, h => by
    rw [wrT_cons] at h ⊢
    obtain ⟨h1, h2⟩ := wr_enc l (wr1 w t) P h
    have h3 : (wr1 w t).2 = w.2 ++ encT P t ∧ ∀ s, Tok.t s = t → ixN P s < P.length := by
      cases t with
      | n x => exact ⟨rfl, fun s hs => by cases hs⟩
      | t s =>
        obtain ⟨q, hq⟩ := pool_ext l (wr1 w (.t s))
        rw [h] at hq
        have hq : P = insP w.1 s ++ q := hq
        obtain ⟨k1, k2⟩ := insP_ix w.1 s
        have k3 : ixN P s = ixN w.1 s := by rw [hq, ixN_app (by rw [k1]; exact k2), k1]
        refine ⟨?_, fun s' hs => ?_⟩
        · show w.2 ++ put (ixN w.1 s : Int) = w.2 ++ put (ixN P s : Int)
          rw [k3]
        · cases hs
          rw [k3, hq, List.length_append]
          omega
    refine ⟨by rw [h1, h3.1, List.flatMap_cons, List.append_assoc], fun s hs => ?_⟩
    rcases List.mem_cons.1 hs with hs | hs
    · exact h3.2 s hs
    · exact h2 s hs
theorem rdO_put {s : List UInt8} (h : FS s) (rest : List UInt8) : rdO (putText s ++ rest) false = (s, rest, false) := by
  unfold rdO
  unfold FS at h
  rw [getText_put s rest (by omega)]
  simp
theorem rd_pool {P : List (List UInt8)} (hl : P.length ≤ 1000000000) (hP : ∀ s ∈ P, FS s) (rest : List UInt8) : reL rdO (put (P.length : Int) ++ (P.flatMap putText ++ rest)) false = (P, rest, false) := by
  have key : ∀ (l : List (List UInt8)), (∀ s ∈ l, FS s) → ∀ acc, rdLoop rdO l.length (l.flatMap putText ++ rest) false acc = (acc ++ l, rest, false) := by
    intro l
    induction l with
    | nil => intro _ acc; simp [rdLoop]
    | cons x l ih =>
      intro h1 acc
      rw [List.length_cons, List.flatMap_cons, List.append_assoc]
      unfold rdLoop
      rw [rdO_put (h1 x (List.mem_cons_self ..))]
      simp only [cond_false]
      rw [ih (fun y hy => h1 y (List.mem_cons_of_mem _ hy)), List.append_assoc]; rfl
  unfold reL
  rw [rdN_put ⟨by omega, by omega⟩]
  simp only [Int.toNat_natCast]
  rw [key P hP]
  rfl
theorem rdAll_bytes {c : ApiClass} (h : FClass c) (hm : mayG c = true) : rdAll ((bytesC c).drop 4) = (c, false) ∧ (bytesC c).take 4 = [74, 65, 86, 65] := by
  obtain ⟨l1, l2⟩ := wr_len h hm
  have hp := pool_in (w := ([], [])) (fun s hs => by cases hs) (in_class h)
  obtain ⟨e1, e2⟩ := wr_enc (tkClass c) ([], []) _ rfl
  unfold bytesC
  generalize hw : wrT ([], []) (tkClass c) = w at *
  have e3 : outB w = [74, 65, 86, 65] ++ (put (w.1.length : Int) ++ (w.1.flatMap putText ++ w.2)) := by unfold outB; simp only [List.append_assoc]
  have e4 : (outB w).drop 4 = put (w.1.length : Int) ++ (w.1.flatMap putText ++ w.2) := by rw [e3]; rfl
  refine ⟨?_, by rw [e3]; rfl⟩
  unfold rdAll
  rw [e4, rd_pool (by omega) hp]
  have e5 := rt_class (P := w.1) h (fun t ht => by
    cases t with
    | n x => exact in_class h _ ht
    | t s => exact ⟨e2 s ht, by omega⟩) []
  rw [List.append_nil] at e5
  have e6 : w.2 = (tkClass c).flatMap (encT w.1) := by rw [e1]; rfl
  simp only
  rw [e6, e5]
theorem decN_bytes {c : ApiClass} (h : FClass c) (hm : mayG c = true) (hl : (bytesC c).length ≤ 6000) : decN (bytesC c) = (c, 0) := by
  obtain ⟨h1, h2⟩ := rdAll_bytes h hm
  unfold decN decE encN
  rw [decide_eq_false (by omega), h1, h2]
  simp only
  rw [hm, decide_eq_false (by omega)]
  simp
end Go.Proofs.YthmnlfenkhmmhaaGreat
namespace Go.Proofs.YthmnlfenkhmmhaaGreat
set_option linter.unusedSimpArgs false
set_option linter.unusedVariables false
set_option linter.unusedSectionVars false
theorem pair_loop {α : Type} {body : Int → Option (Sum Int (Sum Unit Bool))} {a b : List α} {e : α → α → Bool} (hl : a.length ≤ 9223372036854775807) (hn : a.length = b.length)
    (hb : ∀ (i : Nat) x y, a[i]? = some x → b[i]? = some y → body (i : Int) = cond (!e x y) (some (.inr (.inr false))) (some (.inl (IntKind.i64.wrap ((i : Int) + 1)))))
    (he : body (a.length : Int) = some (.inr (.inl ()))) : loopP body 0 = some (cond (eqL e a b) (.inl ()) (.inr false)) := by
  have key : ∀ (r s pre pre' : List α), pre.length = pre'.length → a = pre ++ r → b = pre' ++ s → loopP body (pre.length : Int) = some (cond (eqL e r s) (.inl ()) (.inr false)) := by
    intro r
    induction r with
    | nil =>
      intro s pre pre' hp h1 h2
      have : s = [] := by
        have : a.length = pre.length := by rw [h1]; simp
        have : b.length = pre'.length + s.length := by rw [h2]; simp
        exact List.eq_nil_of_length_eq_zero (by omega)
      subst this
      rw [List.append_nil] at h1
      subst h1
      rw [loopP_eq, he]
      rfl
    | cons x r ih =>
      intro s pre pre' hp h1 h2
      have hlen : a.length = pre.length + (r.length + 1) := by rw [h1]; simp
      have hlen2 : b.length = pre'.length + s.length := by rw [h2]; simp
      cases s with
      | nil => simp at hlen2; omega
      | cons y s =>
        have hx : a[pre.length]? = some x := by rw [h1]; simp
        have hy : b[pre.length]? = some y := by rw [h2, hp]; simp
        rw [loopP_eq, hb _ x y hx hy]
        show _ = some (cond (e x y && eqL e r s) _ _)
        cases e x y with
        | false => rfl
        | true =>
          rw [wrap_succ (by omega)]
          have := ih s (pre ++ [x]) (pre' ++ [y]) (by simp [hp]) (by rw [h1]; simp) (by rw [h2]; simp)
          rw [show (pre ++ [x]).length = pre.length + 1 by simp] at this
          exact this
  exact key a b [] [] rfl rfl rfl
theorem eqL_iff {α : Type} {e : α → α → Bool} (h : ∀ x y, e x y = true ↔ x = y) : ∀ {a b : List α}, eqL e a b = true ↔ a = b
  | [], [] => by simp [eqL]
  | [], y :: b => by simp [eqL]
  | x :: a, [] => by simp [eqL]
  | x :: a, y :: b => by
    unfold eqL
    rw [Bool.and_eq_true, h, eqL_iff h, List.cons.injEq]
theorem beqS_iff (x y : List UInt8) : beqS x y = true ↔ x = y := beq_iff_eq
theorem beqF_iff (x y : ApiField) : beqF x y = true ↔ x = y := by
  cases x; cases y; simp [beqF]
theorem beqI_iff (x y : ApiIns) : beqI x y = true ↔ x = y := by
  cases x; cases y; simp [beqI]
theorem beqT_iff (x y : ApiTrap) : beqT x y = true ↔ x = y := by
  cases x; cases y; simp [beqT]
theorem beqMap_iff (x y : ApiMap) : beqMap x y = true ↔ x = y := by
  cases x; cases y; simp only [beqMap, Bool.and_eq_true, eqL_iff beqS_iff, beq_iff_eq, ApiMap.mk.injEq, and_assoc]
theorem beqM_iff (x y : ApiMethod) : beqM x y = true ↔ x = y := by
  cases x; cases y
  simp only [beqM, Bool.and_eq_true, eqL_iff beqS_iff, eqL_iff beqI_iff, eqL_iff beqT_iff, eqL_iff beqMap_iff, beq_iff_eq, ApiMethod.mk.injEq]
  constructor
  · rintro ⟨⟨⟨⟨⟨h1, ⟨⟨⟨h2, h3⟩, h4⟩, h5⟩, h6⟩, h7⟩, h8⟩, h9⟩, h10⟩
    exact ⟨h2, h3, h4, h5, h6, h7, h8, h9, h1, h10⟩
  · rintro ⟨h2, h3, h4, h5, h6, h7, h8, h9, h1, h10⟩
    exact ⟨⟨⟨⟨⟨h1, ⟨⟨⟨h2, h3⟩, h4⟩, h5⟩, h6⟩, h7⟩, h8⟩, h9⟩, h10⟩
theorem beqC_iff (x y : ApiClass) : beqC x y = true ↔ x = y := by
  cases x; cases y
  simp only [beqC, Bool.and_eq_true, eqL_iff beqS_iff, eqL_iff beqF_iff, eqL_iff beqM_iff, beq_iff_eq, ApiClass.mk.injEq, and_assoc]
theorem ref3_EqTexts_eq {a b : List (List UInt8)} (hl : LenL a) : ref3_EqTexts a b = some (eqL beqS a b) := by
  unfold ref3_EqTexts
  refine equal_loop hl (fun i x y hx hy => ?_) ?_
  · show ref3_EqTexts_l1 a b (i : Int) = _
    unfold ref3_EqTexts_l1
    rw [here hx, idx_nat, idx_nat, hx, hy]; rfl
  · show ref3_EqTexts_l1 a b (a.length : Int) = _
    unfold ref3_EqTexts_l1
    rw [past]; rfl
theorem ref3_EqIns_eq (x y : ApiIns) : ref3_EqIns x y = beqI x y := by
  have : ref3_EqIns x y = ((((x.Op == y.Op) && (x.A == y.A)) && (x.C == y.C)) && (x.M == y.M)) := by rfl
  rw [this]
  unfold beqI
  cases (x.Op == y.Op) <;> cases (x.A == y.A) <;> cases (x.C == y.C) <;> cases (x.M == y.M) <;> rfl
theorem ref3_eqMethod_eq {x y : ApiMethod} (h : FMeth x) : ref3_eqMethod x y = some (beqM x y) := by
  unfold ref3_eqMethod
  rw [ref3_EqTexts_eq h.params.le]
  rw [show (cond (!(x.Name == y.Name)) (some true) ((some (eqL beqS x.Params y.Params)).bind fun v3 => some (!v3))) = some (!((x.Name == y.Name) && eqL beqS x.Params y.Params)) by cases (x.Name == y.Name) <;> rfl, Option.bind_some]
  cases hc : ((((((((!((x.Name == y.Name) && eqL beqS x.Params y.Params) || (!(x.Ret == y.Ret))) || (!(x.Static == y.Static))) || (!(x.Abstract == y.Abstract))) || (!(x.Locals == y.Locals))) || (!(x.Stack == y.Stack))) || (!((List.length x.Code : Int) == (List.length y.Code : Int)))) || (!((List.length x.Maps : Int) == (List.length y.Maps : Int)))) || (!((List.length x.Traps : Int) == (List.length y.Traps : Int)))) with
  | true =>
    have : beqM x y = false := by
      cases hb : beqM x y with
      | false => rfl
      | true =>
        have := (beqM_iff x y).1 hb
        subst this
        rw [(eqL_iff beqS_iff).2 rfl] at hc
        simp at hc
    rw [this]; rfl
  | false =>
    simp only [Bool.or_eq_false_iff, Bool.not_eq_false', Bool.and_eq_true] at hc
    obtain ⟨⟨⟨⟨⟨⟨⟨⟨⟨h1, h2⟩, h3⟩, h4⟩, h5⟩, h6⟩, h7⟩, h8⟩, h9⟩, h10⟩ := hc
    have l8 : x.Code.length = y.Code.length := by have := beq_iff_eq.1 h8; omega
    have l9 : x.Maps.length = y.Maps.length := by have := beq_iff_eq.1 h9; omega
    have l10 : x.Traps.length = y.Traps.length := by have := beq_iff_eq.1 h10; omega
    simp only [cond_false]
    rw [show loopP (fun z => ref3_eqMethod_l1 x y z) 0 = some (cond (eqL beqI x.Code y.Code) (.inl ()) (.inr false)) from pair_loop h.code.le l8 (fun i u v hu hv => by
      show ref3_eqMethod_l1 x y (i : Int) = _
      unfold ref3_eqMethod_l1
      rw [here hu, idx_nat, idx_nat, hu, hv]
      simp only [Option.bind_some, cond_true]
      rw [ref3_EqIns_eq]) (by show ref3_eqMethod_l1 x y (x.Code.length : Int) = _; unfold ref3_eqMethod_l1; rw [past]; rfl)]
    have k4 : ref3_eqMethod_k4 x y = some (eqL beqT x.Traps y.Traps) := by
      unfold ref3_eqMethod_k4
      rw [show loopP (fun z => ref3_eqMethod_l5 x y z) 0 = some (cond (eqL beqT x.Traps y.Traps) (.inl ()) (.inr false)) from pair_loop h.traps.le l10 (fun i u v hu hv => by
        show ref3_eqMethod_l5 x y (i : Int) = _
        unfold ref3_eqMethod_l5
        rw [here hu, idx_nat, idx_nat, hu, hv]
        simp only [Option.bind_some, cond_true]
        unfold beqT
        cases (u.From == v.From) <;> cases (u.To == v.To) <;> cases (u.At == v.At) <;> cases (u.C == v.C) <;> rfl) (by show ref3_eqMethod_l5 x y (x.Traps.length : Int) = _; unfold ref3_eqMethod_l5; rw [past]; rfl)]
      cases eqL beqT x.Traps y.Traps <;> rfl
    have k2 : ref3_eqMethod_k2 x y = some (eqL beqMap x.Maps y.Maps && eqL beqT x.Traps y.Traps) := by
      unfold ref3_eqMethod_k2
      rw [show loopP (fun z => ref3_eqMethod_l3 x y z) 0 = some (cond (eqL beqMap x.Maps y.Maps) (.inl ()) (.inr false)) from pair_loop h.maps.le l9 (fun i u v hu hv => by
        have hm := h.maps.all u (List.mem_of_getElem? hu)
        show ref3_eqMethod_l3 x y (i : Int) = _
        unfold ref3_eqMethod_l3
        rw [here hu, idx_nat, idx_nat, hu, hv]
        simp only [Option.bind_some, cond_true]
        rw [ref3_EqTexts_eq hm.locals.le, ref3_EqTexts_eq hm.stack.le]
        unfold beqMap
        cases (u.At == v.At) <;> cases eqL beqS u.Locals v.Locals <;> cases eqL beqS u.Stack v.Stack <;> rfl) (by show ref3_eqMethod_l3 x y (x.Maps.length : Int) = _; unfold ref3_eqMethod_l3; rw [past]; rfl)]
      simp only [Option.bind_some]
      cases eqL beqMap x.Maps y.Maps with
      | false => rfl
      | true => exact k4
    unfold beqM
    rw [h1, h2, h3, h4, h5, h6, h7]
    simp only [Option.bind_some, Bool.and_true]
    cases eqL beqI x.Code y.Code with
    | false => rw [Bool.and_false]; rfl
    | true =>
      refine k2.trans ?_
      cases eqL beqMap x.Maps y.Maps <;> rfl
theorem ref3_EqClass_eq {x y : ApiClass} (h : FClass x) : ref3_EqClass x y = some (beqC x y) := by
  unfold ref3_EqClass
  rw [ref3_EqTexts_eq h.impl.le]
  rw [show (cond (((!(x.Name == y.Name)) || (!(x.Super == y.Super))) || (!(x.Interface == y.Interface))) (some true) ((some (eqL beqS x.Impl y.Impl)).bind fun v3 => some (!v3))) = some (!((((x.Name == y.Name) && (x.Super == y.Super)) && (x.Interface == y.Interface)) && eqL beqS x.Impl y.Impl)) by
    cases (x.Name == y.Name) <;> cases (x.Super == y.Super) <;> cases (x.Interface == y.Interface) <;> rfl, Option.bind_some]
  cases hc : (((!((((x.Name == y.Name) && (x.Super == y.Super)) && (x.Interface == y.Interface)) && eqL beqS x.Impl y.Impl)) || (!((List.length x.Fields : Int) == (List.length y.Fields : Int)))) || (!((List.length x.Methods : Int) == (List.length y.Methods : Int)))) with
  | true =>
    have : beqC x y = false := by
      cases hb : beqC x y with
      | false => rfl
      | true =>
        have := (beqC_iff x y).1 hb
        subst this
        rw [(eqL_iff beqS_iff).2 rfl] at hc
        simp at hc
    rw [this]; rfl
  | false =>
    simp only [Bool.or_eq_false_iff, Bool.not_eq_false', Bool.and_eq_true] at hc
    obtain ⟨⟨⟨⟨⟨h1, h2⟩, h3⟩, h4⟩, h5⟩, h6⟩ := hc
    have l5 : x.Fields.length = y.Fields.length := by have := beq_iff_eq.1 h5; omega
    have l6 : x.Methods.length = y.Methods.length := by have := beq_iff_eq.1 h6; omega
    simp only [cond_false]
    rw [show loopP (fun z => ref3_EqClass_l1 x y z) 0 = some (cond (eqL beqF x.Fields y.Fields) (.inl ()) (.inr false)) from pair_loop h.fields.le l5 (fun i u v hu hv => by
      show ref3_EqClass_l1 x y (i : Int) = _
      unfold ref3_EqClass_l1
      rw [here hu, idx_nat, idx_nat, hu, hv]
      simp only [Option.bind_some, cond_true]
      unfold beqF
      cases (u.Name == v.Name) <;> cases (u.Type_ == v.Type_) <;> cases (u.Static == v.Static) <;> rfl) (by show ref3_EqClass_l1 x y (x.Fields.length : Int) = _; unfold ref3_EqClass_l1; rw [past]; rfl)]
    have k2 : ref3_EqClass_k2 x y = some (eqL beqM x.Methods y.Methods) := by
      unfold ref3_EqClass_k2
      rw [show loopP (fun z => ref3_EqClass_l3 x y z) 0 = some (cond (eqL beqM x.Methods y.Methods) (.inl ()) (.inr false)) from pair_loop h.methods.le l6 (fun i u v hu hv => by
        show ref3_EqClass_l3 x y (i : Int) = _
        unfold ref3_EqClass_l3
        rw [here hu, idx_nat, idx_nat, hu, hv]
        simp only [Option.bind_some, cond_true]
        rw [ref3_eqMethod_eq (h.methods.all u (List.mem_of_getElem? hu))]
        rfl) (by show ref3_EqClass_l3 x y (x.Methods.length : Int) = _; unfold ref3_EqClass_l3; rw [past]; rfl)]
      cases eqL beqM x.Methods y.Methods <;> rfl
    unfold beqC
    rw [h1, h2, h3, h4]
    simp only [Option.bind_some, Bool.and_true, Bool.true_and]
    cases eqL beqF x.Fields y.Fields with
    | false => rfl
    | true => exact k2
def oneC : ApiClass := ApiClass.mk [65, 98] [79, 98, 106, 101, 99, 116] false [] ([(ApiField.mk [120] [73] false)]) ([(ApiMethod.mk [109, 97, 105, 110] [] [86] true false 0 0 ([(ApiIns.mk 46 0 [] [])]) [] [])])
theorem oneC_in : FClass oneC := by
  refine ⟨by decide, by decide, ⟨by decide, fun x hx => by cases hx⟩, ⟨by decide, fun x hx => ?_⟩, ⟨by decide, fun x hx => ?_⟩⟩
  · obtain rfl := List.mem_singleton.1 hx
    exact ⟨by decide, by decide⟩
  · obtain rfl := List.mem_singleton.1 hx
    refine ⟨by decide, ⟨by decide, fun x hx => by cases hx⟩, by decide, by decide, by decide, ⟨by decide, fun x hx => ?_⟩, ⟨by decide, fun x hx => by cases hx⟩, ⟨by decide, fun x hx => by cases hx⟩⟩
    obtain rfl := List.mem_singleton.1 hx
    exact ⟨by decide, by decide, by decide, by decide⟩
theorem zeroC_in : FClass zeroC := ⟨by decide, by decide, ⟨by decide, fun x hx => by cases hx⟩, ⟨by decide, fun x hx => by cases hx⟩, ⟨by decide, fun x hx => by cases hx⟩⟩
theorem oneC_may : mayG oneC = true := by decide +kernel
theorem zeroC_may : mayG zeroC = false := by decide +kernel
theorem oneC_len : (bytesC oneC).length ≤ 6000 ∧ 10 < (bytesC oneC).length := by decide +kernel
theorem law6_begun_eq : law6_begun = some true := by
  have e1 : encN oneC = some (bytesC oneC) := by
    have := oneC_len.1
    unfold encN; rw [oneC_may, decide_eq_false (by omega)]; rfl
  have e2 : encN zeroC = none := by unfold encN; rw [zeroC_may]; rfl
  have hb : Len (bytesC oneC) := by have := oneC_len.1; unfold Len; omega
  have e3 : file_Encode oneC = some (bytesC oneC) := by rw [file_Encode_eq oneC_in, e1]; rfl
  have e4 : file_Encode zeroC = some [] := by rw [file_Encode_eq zeroC_in, e2]; rfl
  unfold law6_begun
  rw [show file_Encode (ApiClass.mk [65, 98] [79, 98, 106, 101, 99, 116] false [] ([(ApiField.mk [120] [73] false)]) ([(ApiMethod.mk [109, 97, 105, 110] [] [86] true false 0 0 ([(ApiIns.mk 46 0 [] [])]) [] [])])) = _ from e3,
    show file_Encode (ApiClass.mk [] [] false [] [] []) = _ from e4]
  simp only [Option.bind_some, Option.getD_some, Option.getD_none]
  rw [file_Decode_eq _ hb, decN_bytes oneC_in oneC_may oneC_len.1, show file_Decode [] = _ from file_Decode_eq [] (by decide), show decN [] = (zeroC, 1) from rfl]
  simp only [Option.bind_some]
  rw [show law5_Begun = some true from (by unfold law5_Begun; rw [law5_begun_eq]; rfl)]
  rw [show ref3_EqClass (ApiClass.mk [65, 98] [79, 98, 106, 101, 99, 116] false [] ([(ApiField.mk [120] [73] false)]) ([(ApiMethod.mk [109, 97, 105, 110] [] [86] true false 0 0 ([(ApiIns.mk 46 0 [] [])]) [] [])])) oneC = some true from (ref3_EqClass_eq oneC_in).trans (congrArg some ((beqC_iff oneC oneC).2 rfl))]
  obtain ⟨r, hr⟩ := outB_ne (wrT ([], []) (tkClass oneC))
  have hr : bytesC oneC = 74 :: r := hr
  rw [decide_eq_true (show (10 : Int) < ((bytesC oneC).length : Int) by have := oneC_len.2; omega), hr, idx_zero]
  rfl
theorem take_loop {α β R : Type} {body : List β × Int → Option (Sum (List β × Int) (Sum (List β) R))} {l : List α} {n : Nat} {f : α → β} (hn : n ≤ 1000)
    (hb : ∀ acc (i : Nat) x, l[i]? = some x → i < n → acc.length = i → body (acc, (i : Int)) = some (.inl (acc ++ [f x], IntKind.i64.wrap ((i : Int) + 1))))
    (he : ∀ acc (i : Nat), (decide ((i : Int) < (l.length : Int)) && decide ((i : Int) < (n : Int))) = false → body (acc, (i : Int)) = some (.inr (.inl acc))) : loopP body ([], 0) = some (.inl ((l.take n).map f)) := by
  have key : ∀ d i, (l.take n).length - i = d → i ≤ (l.take n).length → loopP body (((l.take n).take i).map f, (i : Int)) = some (.inl ((l.take n).map f)) := by
    intro d
    induction d with
    | zero =>
      intro i hd hi
      have e : i = (l.take n).length := by omega
      rw [loopP_eq, he _ i (by
        rw [List.length_take] at e
        rw [Bool.and_eq_false_iff]
        rcases Nat.le_total n l.length with h | h
        · exact .inr (decide_eq_false (by omega))
        · exact .inl (decide_eq_false (by omega))), e, List.take_length]
      rfl
    | succ d ih =>
      intro i hd hi
      have hlt : i < (l.take n).length := by omega
      have h2 : i < n ∧ i < l.length := by rw [List.length_take] at hlt; omega
      have hx : l[i]? = some l[i] := List.getElem?_eq_getElem h2.2
      rw [loopP_eq, hb _ i l[i] hx h2.1 (by rw [List.length_map, List.length_take]; omega), wrap_succ (by omega)]
      have := ih (i + 1) (by omega) (by omega)
      rw [List.take_add_one, List.getElem?_take_of_lt h2.1, hx] at this
      simp only [Option.toList_some, List.map_append, List.map_cons, List.map_nil] at this
      exact this
  exact key _ 0 rfl (Nat.zero_le _)
theorem more {α : Type} {l : List α} {n i : Nat} {x : α} (h : l[i]? = some x) (hi : i < n) : (decide ((i : Int) < (l.length : Int)) && decide ((i : Int) < (n : Int))) = true := by
  rw [here h, decide_eq_true (by omega)]; rfl
def cutF (f : ApiField) : ApiField := ApiField.mk (f.Name.take 10) (f.Type_.take 12) f.Static
def cutI (x : ApiIns) : ApiIns := ApiIns.mk x.Op x.A (x.C.take 14) (x.M.take 12)
def cutS (n : Nat) (l : List (List UInt8)) : List (List UInt8) := (l.take n).map (·.take 12)
def cutMap (x : ApiMap) : ApiMap := ApiMap.mk x.At (cutS 20 x.Locals) (cutS 20 x.Stack)
def cutT (x : ApiTrap) : ApiTrap := ApiTrap.mk x.From x.To x.At (x.C.take 10)
def cutM (m : ApiMethod) : ApiMethod := ApiMethod.mk (m.Name.take 10) (cutS 8 m.Params) (m.Ret.take 12) m.Static m.Abstract m.Locals m.Stack ((m.Code.take 104).map cutI) ((m.Maps.take 104).map cutMap) ((m.Traps.take 8).map cutT)
def cutC (c : ApiClass) : ApiClass := ApiClass.mk (c.Name.take 10) (c.Super.take 10) c.Interface (cutS 6 c.Impl) ((c.Fields.take 10).map cutF) ((c.Methods.take 10).map cutM)
theorem law5_texts_eq {l : List (List UInt8)} {n : Nat} (hn : n ≤ 100) : law5_texts l (n : Int) = some (cutS n l) := by
  unfold law5_texts
  rw [show loopP (fun z => law5_texts_l1 l (n : Int) z.1 z.2) ([], 0) = some (.inl (cutS n l)) from take_loop (by omega) (fun acc i x hx hi ha => by
    show law5_texts_l1 l (n : Int) acc (i : Int) = _
    unfold law5_texts_l1
    rw [more hx hi, idx_nat, hx]
    simp only [Option.bind_some, cond_true]
    rw [show law1_Cut x 12 = _ from law1_Cut_eq (n := 12), Option.bind_some, appP_ok (by simp; omega) (by simp; omega)]; rfl) (fun acc i h => by
    show law5_texts_l1 l (n : Int) acc (i : Int) = _
    unfold law5_texts_l1
    rw [h]; rfl)]
  rfl
theorem law4_Cut_eq (x : ApiIns) : law4_Cut x = some (cutI x) := by
  unfold law4_Cut
  rw [show law1_Cut x.C 14 = _ from law1_Cut_eq (n := 14), show law1_Cut x.M 12 = _ from law1_Cut_eq (n := 12)]; rfl
theorem law5_method_eq (m : ApiMethod) : law5_method m = some (cutM m) := by
  unfold law5_method
  rw [show law1_Cut m.Name 10 = _ from law1_Cut_eq (n := 10), show law1_Cut m.Ret 12 = _ from law1_Cut_eq (n := 12), show law5_texts m.Params 8 = _ from law5_texts_eq (n := 8) (by decide)]
  simp only [Option.bind_some]
  rw [show loopP (fun z => law5_method_l1 m z.1 z.2) ([], 0) = some (.inl ((m.Code.take 104).map cutI)) from take_loop (by decide) (fun acc i x hx hi ha => by
    show law5_method_l1 m acc (i : Int) = _
    unfold law5_method_l1
    rw [show (decide ((i : Int) < (m.Code.length : Int)) && decide ((i : Int) < 104)) = true from more hx hi, idx_nat, hx]
    simp only [Option.bind_some, cond_true]
    rw [law4_Cut_eq, Option.bind_some, appP_ok (by simp; omega) (by simp; omega)]; rfl) (fun acc i h => by
    show law5_method_l1 m acc (i : Int) = _
    unfold law5_method_l1
    rw [show (decide ((i : Int) < (m.Code.length : Int)) && decide ((i : Int) < 104)) = false from h]; rfl)]
  simp only [Option.bind_some]
  show law5_method_k2 m _ _ _ _ = _
  unfold law5_method_k2
  rw [show loopP (fun z => law5_method_l3 m z.1 z.2) ([], 0) = some (.inl ((m.Maps.take 104).map cutMap)) from take_loop (by decide) (fun acc i x hx hi ha => by
    show law5_method_l3 m acc (i : Int) = _
    unfold law5_method_l3
    rw [show (decide ((i : Int) < (m.Maps.length : Int)) && decide ((i : Int) < 104)) = true from more hx hi, idx_nat, hx]
    simp only [Option.bind_some, cond_true]
    rw [show law5_texts x.Locals 20 = _ from law5_texts_eq (n := 20) (by decide), show law5_texts x.Stack 20 = _ from law5_texts_eq (n := 20) (by decide)]
    simp only [Option.bind_some]
    rw [appP_ok (by simp; omega) (by simp; omega)]; rfl) (fun acc i h => by
    show law5_method_l3 m acc (i : Int) = _
    unfold law5_method_l3
    rw [show (decide ((i : Int) < (m.Maps.length : Int)) && decide ((i : Int) < 104)) = false from h]; rfl)]
  simp only [Option.bind_some]
  show law5_method_k4 m _ _ _ _ _ = _
  unfold law5_method_k4
  rw [show loopP (fun z => law5_method_l5 m z.1 z.2) ([], 0) = some (.inl ((m.Traps.take 8).map cutT)) from take_loop (by decide) (fun acc i x hx hi ha => by
    show law5_method_l5 m acc (i : Int) = _
    unfold law5_method_l5
    rw [show (decide ((i : Int) < (m.Traps.length : Int)) && decide ((i : Int) < 8)) = true from more hx hi, idx_nat, hx]
    simp only [Option.bind_some, cond_true]
    rw [show law1_Cut x.C 10 = _ from law1_Cut_eq (n := 10), Option.bind_some, appP_ok (by simp; omega) (by simp; omega)]; rfl) (fun acc i h => by
    show law5_method_l5 m acc (i : Int) = _
    unfold law5_method_l5
    rw [show (decide ((i : Int) < (m.Traps.length : Int)) && decide ((i : Int) < 8)) = false from h]; rfl)]
  rfl
theorem law5_Cut_eq (c : ApiClass) : law5_Cut c = some (cutC c) := by
  unfold law5_Cut
  rw [show law1_Cut c.Name 10 = _ from law1_Cut_eq (n := 10), show law1_Cut c.Super 10 = _ from law1_Cut_eq (n := 10), show law5_texts c.Impl 6 = _ from law5_texts_eq (n := 6) (by decide)]
  simp only [Option.bind_some]
  rw [show loopP (fun z => law5_Cut_l1 c z.1 z.2) ([], 0) = some (.inl ((c.Fields.take 10).map cutF)) from take_loop (by decide) (fun acc i x hx hi ha => by
    show law5_Cut_l1 c acc (i : Int) = _
    unfold law5_Cut_l1
    rw [show (decide ((i : Int) < (c.Fields.length : Int)) && decide ((i : Int) < 10)) = true from more hx hi, idx_nat, hx]
    simp only [Option.bind_some, cond_true]
    rw [show law1_Cut x.Name 10 = _ from law1_Cut_eq (n := 10), show law1_Cut x.Type_ 12 = _ from law1_Cut_eq (n := 12)]
    simp only [Option.bind_some]
    rw [appP_ok (by simp; omega) (by simp; omega)]; rfl) (fun acc i h => by
    show law5_Cut_l1 c acc (i : Int) = _
    unfold law5_Cut_l1
    rw [show (decide ((i : Int) < (c.Fields.length : Int)) && decide ((i : Int) < 10)) = false from h]; rfl)]
  simp only [Option.bind_some]
  show law5_Cut_k2 c _ _ _ _ = _
  unfold law5_Cut_k2
  rw [show loopP (fun z => law5_Cut_l3 c z.1 z.2) ([], 0) = some (.inl ((c.Methods.take 10).map cutM)) from take_loop (by decide) (fun acc i x hx hi ha => by
    show law5_Cut_l3 c acc (i : Int) = _
    unfold law5_Cut_l3
    rw [show (decide ((i : Int) < (c.Methods.length : Int)) && decide ((i : Int) < 10)) = true from more hx hi, idx_nat, hx]
    simp only [Option.bind_some, cond_true]
    rw [law5_method_eq, Option.bind_some, appP_ok (by simp; omega) (by simp; omega)]; rfl) (fun acc i h => by
    show law5_Cut_l3 c acc (i : Int) = _
    unfold law5_Cut_l3
    rw [show (decide ((i : Int) < (c.Methods.length : Int)) && decide ((i : Int) < 10)) = false from h]; rfl)]
  rfl
end Go.Proofs.YthmnlfenkhmmhaaGreat
namespace Go.Proofs.YthmnlfenkhmmhaaGreat
set_option linter.unusedVariables false
set_option maxRecDepth 100000
set_option maxHeartbeats 4000000
def wApiField (x : ApiField) : Prop := (wS) x.Name ∧ (wS) x.Type_ ∧ (wT) x.Static
theorem gdApiField {n : Nat} {avs : List AV} (h : Good Tryz.prog (n + 2) 42 avs) : ∃ x : ApiField, avs = rApiField x ∧ wApiField x := by
  obtain ⟨parts, rfl, hl, hg⟩ := gdF Tryz.underlying42 h
  match parts, hl with
  | [p0, p1, p2], _ =>
    obtain ⟨x0, rfl, w0⟩ := gdS Tryz.underlying9 (hg 0 _ p0 rfl rfl)
    obtain ⟨x1, rfl, w1⟩ := gdS Tryz.underlying9 (hg 1 _ p1 rfl rfl)
    obtain ⟨x2, rfl, w2⟩ := gdB Tryz.underlying4 (hg 2 _ p2 rfl rfl)
    exact ⟨⟨x0, x1, x2⟩, rfl, w0, w1, w2⟩
def wApiIns (x : ApiIns) : Prop := (wI .i64) x.Op ∧ (wI .i64) x.A ∧ (wS) x.C ∧ (wS) x.M
theorem gdApiIns {n : Nat} {avs : List AV} (h : Good Tryz.prog (n + 2) 40 avs) : ∃ x : ApiIns, avs = rApiIns x ∧ wApiIns x := by
  obtain ⟨parts, rfl, hl, hg⟩ := gdF Tryz.underlying40 h
  match parts, hl with
  | [p0, p1, p2, p3], _ =>
    obtain ⟨x0, rfl, w0⟩ := gdI Tryz.underlying3 (hg 0 _ p0 rfl rfl)
    obtain ⟨x1, rfl, w1⟩ := gdI Tryz.underlying3 (hg 1 _ p1 rfl rfl)
    obtain ⟨x2, rfl, w2⟩ := gdS Tryz.underlying9 (hg 2 _ p2 rfl rfl)
    obtain ⟨x3, rfl, w3⟩ := gdS Tryz.underlying9 (hg 3 _ p3 rfl rfl)
    exact ⟨⟨x0, x1, x2, x3⟩, rfl, w0, w1, w2, w3⟩
def wApiMap (x : ApiMap) : Prop := (wI .i64) x.At ∧ (wL (wS)) x.Locals ∧ (wL (wS)) x.Stack
theorem gdApiMap {n : Nat} {avs : List AV} (h : Good Tryz.prog (n + 3) 80 avs) : ∃ x : ApiMap, avs = rApiMap x ∧ wApiMap x := by
  obtain ⟨parts, rfl, hl, hg⟩ := gdF Tryz.underlying80 h
  match parts, hl with
  | [p0, p1, p2], _ =>
    obtain ⟨x0, rfl, w0⟩ := gdI Tryz.underlying3 (hg 0 _ p0 rfl rfl)
    obtain ⟨x1, rfl, w1⟩ := gdL (k := 1) Tryz.underlying22 (by kernel_rfl) (fun h => gdS Tryz.underlying9 h) (hg 1 _ p1 rfl rfl)
    obtain ⟨x2, rfl, w2⟩ := gdL (k := 1) Tryz.underlying22 (by kernel_rfl) (fun h => gdS Tryz.underlying9 h) (hg 2 _ p2 rfl rfl)
    exact ⟨⟨x0, x1, x2⟩, rfl, w0, w1, w2⟩
def wApiTrap (x : ApiTrap) : Prop := (wI .i64) x.From ∧ (wI .i64) x.To ∧ (wI .i64) x.At ∧ (wS) x.C
theorem gdApiTrap {n : Nat} {avs : List AV} (h : Good Tryz.prog (n + 2) 88 avs) : ∃ x : ApiTrap, avs = rApiTrap x ∧ wApiTrap x := by
  obtain ⟨parts, rfl, hl, hg⟩ := gdF Tryz.underlying88 h
  match parts, hl with
  | [p0, p1, p2, p3], _ =>
    obtain ⟨x0, rfl, w0⟩ := gdI Tryz.underlying3 (hg 0 _ p0 rfl rfl)
    obtain ⟨x1, rfl, w1⟩ := gdI Tryz.underlying3 (hg 1 _ p1 rfl rfl)
    obtain ⟨x2, rfl, w2⟩ := gdI Tryz.underlying3 (hg 2 _ p2 rfl rfl)
    obtain ⟨x3, rfl, w3⟩ := gdS Tryz.underlying9 (hg 3 _ p3 rfl rfl)
    exact ⟨⟨x0, x1, x2, x3⟩, rfl, w0, w1, w2, w3⟩
def wApiMethod (x : ApiMethod) : Prop := (wS) x.Name ∧ (wL (wS)) x.Params ∧ (wS) x.Ret ∧ (wT) x.Static ∧ (wT) x.Abstract ∧ (wI .i64) x.Locals ∧ (wI .i64) x.Stack ∧ (wL (wApiIns)) x.Code ∧ (wL (wApiMap)) x.Maps ∧ (wL (wApiTrap)) x.Traps
theorem gdApiMethod {n : Nat} {avs : List AV} (h : Good Tryz.prog (n + 5) 38 avs) : ∃ x : ApiMethod, avs = rApiMethod x ∧ wApiMethod x := by
  obtain ⟨parts, rfl, hl, hg⟩ := gdF Tryz.underlying38 h
  match parts, hl with
  | [p0, p1, p2, p3, p4, p5, p6, p7, p8, p9], _ =>
    obtain ⟨x0, rfl, w0⟩ := gdS Tryz.underlying9 (hg 0 _ p0 rfl rfl)
    obtain ⟨x1, rfl, w1⟩ := gdL (k := 1) Tryz.underlying22 (by kernel_rfl) (fun h => gdS Tryz.underlying9 h) (hg 1 _ p1 rfl rfl)
    obtain ⟨x2, rfl, w2⟩ := gdS Tryz.underlying9 (hg 2 _ p2 rfl rfl)
    obtain ⟨x3, rfl, w3⟩ := gdB Tryz.underlying4 (hg 3 _ p3 rfl rfl)
    obtain ⟨x4, rfl, w4⟩ := gdB Tryz.underlying4 (hg 4 _ p4 rfl rfl)
    obtain ⟨x5, rfl, w5⟩ := gdI Tryz.underlying3 (hg 5 _ p5 rfl rfl)
    obtain ⟨x6, rfl, w6⟩ := gdI Tryz.underlying3 (hg 6 _ p6 rfl rfl)
    obtain ⟨x7, rfl, w7⟩ := gdL (k := 4) Tryz.underlying34 (by kernel_rfl) (fun h => gdApiIns h) (hg 7 _ p7 rfl rfl)
    obtain ⟨x8, rfl, w8⟩ := gdL (k := 3) Tryz.underlying35 (by kernel_rfl) (fun h => gdApiMap h) (hg 8 _ p8 rfl rfl)
    obtain ⟨x9, rfl, w9⟩ := gdL (k := 4) Tryz.underlying36 (by kernel_rfl) (fun h => gdApiTrap h) (hg 9 _ p9 rfl rfl)
    exact ⟨⟨x0, x1, x2, x3, x4, x5, x6, x7, x8, x9⟩, rfl, w0, w1, w2, w3, w4, w5, w6, w7, w8, w9⟩
def wApiClass (x : ApiClass) : Prop := (wS) x.Name ∧ (wS) x.Super ∧ (wT) x.Interface ∧ (wL (wS)) x.Impl ∧ (wL (wApiField)) x.Fields ∧ (wL (wApiMethod)) x.Methods
theorem gdApiClass {n : Nat} {avs : List AV} (h : Good Tryz.prog (n + 7) 26 avs) : ∃ x : ApiClass, avs = rApiClass x ∧ wApiClass x := by
  obtain ⟨parts, rfl, hl, hg⟩ := gdF Tryz.underlying26 h
  match parts, hl with
  | [p0, p1, p2, p3, p4, p5], _ =>
    obtain ⟨x0, rfl, w0⟩ := gdS Tryz.underlying9 (hg 0 _ p0 rfl rfl)
    obtain ⟨x1, rfl, w1⟩ := gdS Tryz.underlying9 (hg 1 _ p1 rfl rfl)
    obtain ⟨x2, rfl, w2⟩ := gdB Tryz.underlying4 (hg 2 _ p2 rfl rfl)
    obtain ⟨x3, rfl, w3⟩ := gdL (k := 1) Tryz.underlying22 (by kernel_rfl) (fun h => gdS Tryz.underlying9 h) (hg 3 _ p3 rfl rfl)
    obtain ⟨x4, rfl, w4⟩ := gdL (k := 3) Tryz.underlying23 (by kernel_rfl) (fun h => gdApiField h) (hg 4 _ p4 rfl rfl)
    obtain ⟨x5, rfl, w5⟩ := gdL (k := 10) Tryz.underlying24 (by kernel_rfl) (fun h => gdApiMethod h) (hg 5 _ p5 rfl rfl)
    exact ⟨⟨x0, x1, x2, x3, x4, x5⟩, rfl, w0, w1, w2, w3, w4, w5⟩
end Go.Proofs.YthmnlfenkhmmhaaGreat
namespace Go.Proofs.YthmnlfenkhmmhaaGreat
set_option linter.unusedSimpArgs false
set_option linter.unusedVariables false
set_option linter.unusedSectionVars false
theorem i64_w {n : Int} (h : wI .i64 n) : I64 n := by
  have h : (Lit.int .i64 n).wf = true := h
  unfold Lit.wf at h
  simp [IntKind.min, IntKind.max, IntKind.bits, IntKind.signed] at h
  exact ⟨by omega, by omega⟩
theorem FS.take (s : List UInt8) {n : Nat} (hn : n ≤ 100) : FS (s.take n) := by unfold FS; rw [List.length_take]; omega
theorem cutS_in {l : List (List UInt8)} {n : Nat} (hn : n ≤ 100) : FL FS (cutS n l) := by
  refine ⟨by unfold cutS; rw [List.length_map, List.length_take]; omega, fun x hx => ?_⟩
  obtain ⟨y, _, rfl⟩ := List.mem_map.1 hx
  exact FS.take y (by decide)
theorem cutL_in {α : Type} {Q : α → Prop} {l : List α} {f : α → α} {n : Nat} (hn : n ≤ 200) (h : ∀ x ∈ l, Q (f x)) : FL Q ((l.take n).map f) := by
  refine ⟨by rw [List.length_map, List.length_take]; omega, fun x hx => ?_⟩
  obtain ⟨y, hy, rfl⟩ := List.mem_map.1 hx
  exact h y (List.mem_of_mem_take hy)
theorem cutM_in {m : ApiMethod} (h : wApiMethod m) : FMeth (cutM m) := by
  obtain ⟨_, _, _, _, _, h1, h2, h3, h4, h5⟩ := h
  exact ⟨FS.take _ (by decide), cutS_in (by decide), FS.take _ (by decide), i64_w h1, i64_w h2,
    cutL_in (by decide) fun x hx => ⟨i64_w (h3.2 x hx).1, i64_w (h3.2 x hx).2.1, FS.take _ (by decide), FS.take _ (by decide)⟩,
    cutL_in (by decide) fun x hx => ⟨i64_w (h4.2 x hx).1, cutS_in (by decide), cutS_in (by decide)⟩,
    cutL_in (by decide) fun x hx => ⟨i64_w (h5.2 x hx).1, i64_w (h5.2 x hx).2.1, i64_w (h5.2 x hx).2.2.1, FS.take _ (by decide)⟩⟩
theorem cutC_in {c : ApiClass} (h : wApiClass c) : FClass (cutC c) := by
  obtain ⟨_, _, _, _, _, h1⟩ := h
  exact ⟨FS.take _ (by decide), FS.take _ (by decide), cutS_in (by decide), cutL_in (by decide) fun x hx => ⟨FS.take _ (by decide), FS.take _ (by decide)⟩, cutL_in (by decide) fun x hx => cutM_in (h1.2 x hx)⟩
theorem encN_may {c : ApiClass} (hm : mayG c = true) (hl : (bytesC c).length ≤ 6000) : encN c = some (bytesC c) := by
  unfold encN; rw [hm, decide_eq_false (by omega)]; rfl
theorem encN_long {c : ApiClass} (hm : mayG c = true) (hl : 6000 < (bytesC c).length) : encN c = none := by
  unfold encN; rw [hm, decide_eq_true (by omega)]; rfl
theorem encN_not {c : ApiClass} (hm : mayG c = false) : encN c = none := by
  unfold encN; rw [hm]; rfl
theorem bytesC_ne (c : ApiClass) : ∃ r, bytesC c = 74 :: r := outB_ne _
theorem law6_FileSame_eq {c : ApiClass} (hc : wApiClass c) (x : Int) : law6_FileSame c x = some true := by
  have ia := cutC_in hc
  unfold law6_FileSame
  rw [law6_begun_eq, law5_Cut_eq]
  simp only [Option.bind_some, Bool.not_true, cond_false]
  generalize cutC c = y at *
  rw [file_Encode_eq ia]
  simp only [Option.bind_some]
  cases hm : mayG y with
  | false => rw [encN_not hm]; rfl
  | true =>
    rcases Nat.lt_or_ge 6000 (bytesC y).length with hl | hl
    · rw [encN_long hm hl]; rfl
    · rw [encN_may hm hl]
      have hL : Len (bytesC y) := by unfold Len; omega
      simp only [Option.getD_some]
      rw [file_Decode_eq _ hL, decN_bytes ia hm hl]
      simp only [Option.bind_some]
      rw [(ref3_EqClass_eq ia).trans (congrArg some ((beqC_iff y y).2 rfl))]
      simp only [Option.bind_some, cond_true]
      obtain ⟨r, hr⟩ := bytesC_ne y
      have h0 : (((bytesC y).length : Int) == 0) = false := by rw [hr]; simp; omega
      rw [h0]
      unfold law6_FileSame_j1
      simp
theorem fileSame_small {c : ApiClass} (hc : wApiClass c) : ∀ v4 v5 v6, law5_Cut c = some v4 → file_Encode v4 = some v5 → file_Decode v5 = some v6 → small v6.1 := fun v4 v5 v6 h1 h2 h3 => by
  have ia := cutC_in hc
  rw [law5_Cut_eq] at h1
  obtain rfl := sm h1
  rw [file_Encode_eq ia] at h2
  obtain rfl := sm h2
  have hz : small zeroC := ⟨by decide, by decide, fun m hm => by cases hm⟩
  cases hm : mayG (cutC c) with
  | false =>
    rw [encN_not hm] at h3
    rw [show ((none : Option (List UInt8)).getD []) = [] from rfl, file_Decode_eq [] (by decide), show decN [] = (zeroC, 1) from rfl] at h3
    obtain rfl := sm h3
    exact hz
  | true =>
    rcases Nat.lt_or_ge 6000 (bytesC (cutC c)).length with hl | hl
    · rw [encN_long hm hl] at h3
      rw [show ((none : Option (List UInt8)).getD []) = [] from rfl, file_Decode_eq [] (by decide), show decN [] = (zeroC, 1) from rfl] at h3
      obtain rfl := sm h3
      exact hz
    · rw [encN_may hm hl] at h3
      have hL : Len (bytesC (cutC c)) := by unfold Len; omega
      rw [Option.getD_some, file_Decode_eq _ hL, decN_bytes ia hm hl] at h3
      obtain rfl := sm h3
      refine ⟨?_, ?_, fun m hm => ?_⟩
      · show ((c.Methods.take 10).map cutM).length < 1000
        rw [List.length_map, List.length_take]; omega
      · show ((c.Fields.take 10).map cutF).length ≤ 1000
        rw [List.length_map, List.length_take]; omega
      · have hm' : m ∈ (c.Methods.take 10).map cutM := hm
        obtain ⟨q, _, rfl⟩ := List.mem_map.1 hm'
        show ((q.Code.take 104).map cutI).length ≤ 1000
        rw [List.length_map, List.length_take]; omega
theorem fileSame_pure (c : ApiClass) (x : Int) (hc : wApiClass c) (_ : wI .i64 x) : PureC Tryz.prog 3 [.agg (rApiClass c), iA x] (.lit (.bool true)) := law6_FileSame_ok c x (fileSame_small hc) (law6_FileSame_eq hc x)
end Go.Proofs.YthmnlfenkhmmhaaGreat
