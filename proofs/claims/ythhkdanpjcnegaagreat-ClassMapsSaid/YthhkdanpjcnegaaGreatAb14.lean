/- The abstract layer, part 14: states told anew: other numbers, blocks that are never written again, nil slices as blocks; joins, loops, ends of functions. -/
import Derived.Test.YthhkdanpjcnegaaGreatAb13
namespace Go.Proofs.YthhkdanpjcnegaaGreat
set_option linter.unusedSimpArgs false
set_option linter.unusedVariables false
set_option linter.unusedSectionVars false

/-! ### No pointer into the call's own, as a computation -/
mutual
def immB : AV → Bool
  | .any => true
  | .lit _ => true
  | .isl _ _ => true
  | .ipt _ _ _ _ => true
  | .msl _ _ _ => false
  | .mpt _ _ _ => false
  | .agg cs => immLB cs
  | .tup cs => immLB cs
  | .fn _ a b => immLB a && immLB b
def immLB : List AV → Bool
  | [] => true
  | x :: l => immB x && immLB l
end

theorem ImmL.mem {l : List AV} (h : ImmL l) : ∀ x ∈ l, Imm x := by
  induction h with
  | nil => exact fun x hx => by cases hx
  | cons h _ ih =>
    intro x hx
    rcases List.mem_cons.1 hx with h1 | h1
    · exact h1 ▸ h
    · exact ih x h1
mutual
theorem immB_imm : ∀ {x : AV}, immB x = true → Imm x
  | .any, _ => .any
  | .lit v, _ => .lit v
  | .isl k e, _ => .isl k e
  | .ipt k e i j, _ => .ipt k e i j
  | .msl _ _ _, h => by cases h
  | .mpt _ _ _, h => by cases h
  | .agg cs, h => .agg cs (immL_of h).mem
  | .tup cs, h => .tup cs (immL_of h).mem
  | .fn f a b, h => .fn f a b (immL_of (Bool.and_eq_true_iff.1 h).1).mem (immL_of (Bool.and_eq_true_iff.1 h).2).mem
theorem immL_of : ∀ {l : List AV}, immLB l = true → ImmL l
  | [], _ => .nil
  | x :: l, h => .cons (immB_imm (Bool.and_eq_true_iff.1 h).1) (immL_of (Bool.and_eq_true_iff.1 h).2)
end

/-! ### A state told anew -/
/-- Where a block of the new numbering comes from. -/
inductive Src where
  | old (l : Nat)
  | dead
  | fresh (k : Nat)
abbrev SrcL := List Src
def oldAt (L : SrcL) (l : Nat) : Option Nat := match L[l]? with | some (.old x) => some x | _ => none
def kept (L : SrcL) (x : Nat) : Bool := match L with | [] => false | .old y :: r => Nat.beq y x || kept r x | _ :: r => kept r x
theorem kept_of : ∀ {L : SrcL} {l x : Nat}, oldAt L l = some x → kept L x = true
  | [], l, x, h => by simp [oldAt] at h
  | s :: L, 0, x, h => by
    cases s with
    | old y => simp [oldAt] at h; subst h; simp [kept]
    | dead => simp [oldAt] at h
    | fresh k => simp [oldAt] at h
  | s :: L, l + 1, x, h => by
    have := kept_of (L := L) (l := l) (x := x) (by simpa [oldAt] using h)
    cases s <;> simp [kept, this]

/-- New value, old value. -/
inductive Rs (st : St) (L : SrcL) : AV → AV → Prop
  | any (x) : Rs st L .any x
  | imm {x} (h : Imm x) : Rs st L x x
  | nil {k : Nat} : Rs st L (.isl k []) (.lit (.slice none 0 0))
  | nilown {l k : Nat} (h : L[l]? = some (.fresh k)) : Rs st L (.msl l 0 0) (.lit (.slice none 0 0))
  | msl {l l' i n : Nat} (h : oldAt L l = some l') : Rs st L (.msl l i n) (.msl l' i n)
  | mpt {l l' i j : Nat} (h : oldAt L l = some l') : Rs st L (.mpt l i j) (.mpt l' i j)
  | sl {l i n k : Nat} {els els' : List (List AV)} (hD : kept L l = false) (h : st[l]? = some (some (k, els))) (hin : i + n ≤ els.length) (hl : els'.length = n) (hi : ∀ r ∈ els', ∀ x ∈ r, Imm x)
      (hrl : ∀ q (h : q < n) (h1 : i + q < els.length) (h2 : q < els'.length), els[i + q].length = els'[q].length)
      (hr : ∀ q (h : q < n) (h1 : i + q < els.length) (h2 : q < els'.length) j (h3 : j < els[i + q].length) (h4 : j < els'[q].length), Rs st L els'[q][j] els[i + q][j]) :
      Rs st L (.isl k els') (.msl l i n)
  | slp {l i j k : Nat} {els els' : List (List AV)} (hD : kept L l = false) (h : st[l]? = some (some (k, els))) (hl : els'.length = els.length) (hi : ∀ r ∈ els', ∀ x ∈ r, Imm x)
      (hrl : ∀ q (h1 : q < els.length) (h2 : q < els'.length), els[q].length = els'[q].length)
      (hr : ∀ q (h1 : q < els.length) (h2 : q < els'.length) j (h3 : j < els[q].length) (h4 : j < els'[q].length), Rs st L els'[q][j] els[q][j]) :
      Rs st L (.ipt k els' i j) (.mpt l i j)
  | agg {cs cs' : List AV} (hl : cs.length = cs'.length) (hr : ∀ i (h : i < cs.length) (h' : i < cs'.length), Rs st L cs[i] cs'[i]) : Rs st L (.agg cs) (.agg cs')
  | tup {cs cs' : List AV} (hl : cs.length = cs'.length) (hr : ∀ i (h : i < cs.length) (h' : i < cs'.length), Rs st L cs[i] cs'[i]) : Rs st L (.tup cs) (.tup cs')
  | fn {f : Fn} {cs cs' ds ds' : List AV} (hl : cs.length = cs'.length) (hr : ∀ i (h : i < cs.length) (h' : i < cs'.length), Rs st L cs[i] cs'[i])
      (hl' : ds.length = ds'.length) (hr' : ∀ i (h : i < ds.length) (h' : i < ds'.length), Rs st L ds[i] ds'[i]) : Rs st L (.fn f cs ds) (.fn f cs' ds')

def RsRows (st : St) (L : SrcL) (els0 els : List (List AV)) : Prop :=
  els0.length = els.length ∧ ∀ i (h : i < els0.length) (h' : i < els.length), els0[i].length = els[i].length ∧ ∀ j (h1 : j < els0[i].length) (h2 : j < els[i].length), Rs st L els0[i][j] els[i][j]

structure RsSt (L : SrcL) (st0 st : St) : Prop where
  live : ∀ (l l' : Nat), oldAt L l = some l' → ∃ k els0 els, st0[l]? = some (some (k, els0)) ∧ st[l']? = some (some (k, els)) ∧ RsRows st L els0 els
  all : ∀ (l k : Nat) els0, st0[l]? = some (some (k, els0)) → (∃ l', oldAt L l = some l') ∨ (L[l]? = some (Src.fresh k) ∧ els0 = [])
  new : ∀ (l k : Nat), L[l]? = some (Src.fresh k) → st0[l]? = some (some (k, []))
  inj : ∀ l1 l2 x, oldAt L l1 = some x → oldAt L l2 = some x → l1 = l2

def newA (A : Nat → Prop) (m : BM) (L : SrcL) : Nat → Prop := fun B => A B ∨ ∃ l b, m l = some b ∧ b.has = true ∧ b.B = B ∧ kept L l = false
def newM (m : BM) (L : SrcL) : BM := fun l => match L[l]? with | some (.old x) => m x | some (.fresh k) => some ⟨false, 0, 0, k, 0⟩ | _ => none

theorem newM_old {m : BM} {L : SrcL} {l x : Nat} (h : oldAt L l = some x) : newM m L l = m x := by
  unfold oldAt at h; unfold newM
  split at h
  · rename_i y hy; cases h; rw [hy]
  · cases h
theorem newM_fresh {m : BM} {L : SrcL} {l k : Nat} (h : L[l]? = some (.fresh k)) : newM m L l = some ⟨false, 0, 0, k, 0⟩ := by unfold newM; rw [h]
theorem newM_has {m : BM} {L : SrcL} {l : Nat} {b : Blk} (h : newM m L l = some b) (hh : b.has = true) : ∃ x, oldAt L l = some x ∧ m x = some b := by
  unfold newM at h
  split at h
  · rename_i y hy; exact ⟨y, by unfold oldAt; rw [hy], h⟩
  · cases h; cases hh
  · cases h

theorem Rs.v {A : Nat → Prop} {m : BM} {w : World} {st st0 : St} {L : SrcL} (hR : R A m w st) (hs : RsSt L st0 st) {x y : AV} (h : Rs st L x y) : ∀ {v}, V A m st.length w y v → V (newA A m L) (newM m L) st0.length w x v := by
  have hA' : ∀ B, A B → newA A m L B := fun B h => .inl h
  induction h with
  | any x => exact fun {v} _ => .imm (.any v)
  | imm h => exact fun {v} hv => .imm ((h.vi hv).widen hA')
  | nil => intro v hv; rw [hv.lit_inv]; exact .imm (.inil _ _ _)
  | @nilown l k h =>
    intro v hv
    rw [hv.lit_inv]
    have h1 := hs.new l k h
    exact .msl _ _ _ _ _ _ (List.getElem?_eq_some_iff.1 h1).1 fun b hb => ⟨rfl, Nat.le_refl _, .inl rfl⟩
  | @msl l l' i n h =>
    intro v hv
    obtain ⟨hl, a, n', cap, rfl, hb⟩ := hv.msl_inv
    obtain ⟨_, _, _, h1, _, _⟩ := hs.live l l' h
    exact .msl _ _ _ _ _ _ (List.getElem?_eq_some_iff.1 h1).1 fun b hb' => hb b ((newM_old (m := m) h).symm.trans hb')
  | @mpt l l' i j h =>
    intro v hv
    obtain ⟨hl, a, rfl, hb⟩ := hv.mpt_inv
    obtain ⟨_, _, _, h1, _, _⟩ := hs.live l l' h
    exact .mpt _ _ _ _ (List.getElem?_eq_some_iff.1 h1).1 fun b hb' => hb b ((newM_old (m := m) h).symm.trans hb')
  | @sl l i n k els els' hD h hin hl hi hrl hr ih =>
    intro v hv
    obtain ⟨hlt, a, n', cap, rfl, hb⟩ := hv.msl_inv
    obtain ⟨b, h1, h2, h3, h4⟩ := hR.blk l k els h
    obtain ⟨rfl, hcap, hc⟩ := hb b h1
    rcases hc with h5 | ⟨h6, rfl, hfit⟩
    · have h0 : n' = 0 := by omega
      subst h0
      obtain rfl : els' = [] := List.eq_nil_of_length_eq_zero hl
      exact .imm (.inil _ _ _)
    · have hok := h3 h6
      subst h2
      have hcell : ∀ q j, q < els'.length → j < b.k → ∃ u, w.cell? ⟨b.B, b.o + i * b.k + q * b.k + j, none⟩ = some u ∧ ∀ (h4 : q < els'.length) (h5 : j < els'[q].length), VI (newA A m L) w els'[q][j] u := fun q j hq hj => by
        have hq1 : i + q < els.length := by omega
        have hj1 : j < els[i + q].length := by rw [hok.wide _ hq1]; exact hj
        obtain ⟨u, h8, h9⟩ := hok.val (i + q) hq1 j hj1
        refine ⟨u, by rw [← h8]; congr 2; rw [Nat.add_mul]; omega, fun h10 h11 => ?_⟩
        exact (hi _ (List.getElem_mem h10) _ (List.getElem_mem h11)).vi (ih q (by omega) hq1 h10 j hj1 h11 h9)
      have hw' : ∀ q (hq : q < els'.length), els'[q].length = b.k := fun q hq => by
        rw [← hrl q (by omega) (by omega) hq]; exact hok.wide _ (by omega)
      have := VI.isl (A := newA A m L) (w := w) b.k els' b.B (b.o + i * b.k) cap (fun q j => (w.cell? ⟨b.B, b.o + i * b.k + q * b.k + j, none⟩).getD undef) (.inr ⟨l, b, h1, h6, rfl, hD⟩) (by omega) hw'
        (fun q j hq hj => by obtain ⟨u, h8, _⟩ := hcell q j hq hj; rw [h8]; rfl)
        (fun q hq j hj => by
          obtain ⟨u, h8, h9⟩ := hcell q j hq (by rw [← hw' q hq]; exact hj)
          show VI _ w _ ((w.cell? _).getD undef)
          rw [h8]; exact h9 hq hj)
      rw [hl] at this
      exact .imm this
  | @slp l i j k els els' hD h hl hi hrl hr ih =>
    intro v hv
    obtain ⟨hlt, a, rfl, hb⟩ := hv.mpt_inv
    obtain ⟨b, h1, h2, h3, h4⟩ := hR.blk l k els h
    obtain ⟨h6, rfl⟩ := hb b h1
    have hok := h3 h6
    subst h2
    have hcell : ∀ q j, q < els'.length → j < b.k → ∃ u, w.cell? ⟨b.B, b.o + q * b.k + j, none⟩ = some u ∧ ∀ (h4 : q < els'.length) (h5 : j < els'[q].length), VI (newA A m L) w els'[q][j] u := fun q j hq hj => by
      have hq1 : q < els.length := by omega
      have hj1 : j < els[q].length := by rw [hok.wide _ hq1]; exact hj
      obtain ⟨u, h8, h9⟩ := hok.val q hq1 j hj1
      exact ⟨u, h8, fun h10 h11 => (hi _ (List.getElem_mem h10) _ (List.getElem_mem h11)).vi (ih q hq1 h10 j hj1 h11 h9)⟩
    have hw' : ∀ q (hq : q < els'.length), els'[q].length = b.k := fun q hq => by
      rw [← hrl q (by omega) hq]; exact hok.wide _ (by omega)
    exact .imm (VI.ipt (A := newA A m L) (w := w) b.k els' i j b.B b.o (fun q j => (w.cell? ⟨b.B, b.o + q * b.k + j, none⟩).getD undef) (.inr ⟨l, b, h1, h6, rfl, hD⟩) hw'
      (fun q j hq hj => by obtain ⟨u, h8, _⟩ := hcell q j hq hj; rw [h8]; rfl)
      (fun q hq j hj => by
        obtain ⟨u, h8, h9⟩ := hcell q j hq (by rw [← hw' q hq]; exact hj)
        show VI _ w _ ((w.cell? _).getD undef)
        rw [h8]; exact h9 hq hj))
  | agg hl hr ih =>
    intro v hv
    obtain ⟨a, rfl, h1, h2⟩ := hv.agg_inv
    exact .agg _ _ (by omega) fun i hi => ih i hi (by omega) (h2 i (by omega))
  | tup hl hr ih =>
    intro v hv
    obtain ⟨a, rfl, h1, h2⟩ := hv.tup_inv
    exact .tup _ _ (by omega) fun i hi => ih i hi (by omega) (h2 i (by omega))
  | fn hl hr hl' hr' ih ih' =>
    intro v hv
    obtain ⟨a, b, rfl, ⟨h1, h2⟩, ⟨h3, h4⟩⟩ := hv.fn_inv
    exact .fn _ _ _ _ _ (by omega) (fun i hi => ih i hi (by omega) (h2 i (by omega))) (by omega) fun i hi => ih' i hi (by omega) (h4 i (by omega))

theorem R.rs {A : Nat → Prop} {m : BM} {w : World} {st st0 : St} {L : SrcL} (hR : R A m w st) (h : RsSt L st0 st) : R (newA A m L) (newM m L) w st0 := by
  refine ⟨fun B hB => ?_, fun B l b hA hb hh => ?_, fun l1 l2 b1 b2 h1 h2 hh1 hh2 he => ?_, fun l b hb => ?_, fun l k els0 he => ?_⟩
  · rcases hB with h1 | ⟨l, b, h1, h2, rfl, _⟩
    · exact hR.aLow B h1
    · exact hR.low h1 h2
  · obtain ⟨x, h1, h2⟩ := newM_has hb hh
    rcases hA with h3 | ⟨l3, b3, h3, h4, rfl, h5⟩
    · exact hR.aOwn B x b h3 h2 hh
    · intro e
      have := hR.inj x l3 b b3 h2 h3 hh h4 e
      subst this
      rw [kept_of h1] at h5
      cases h5
  · obtain ⟨x1, k1, k2⟩ := newM_has h1 hh1
    obtain ⟨x2, k3, k4⟩ := newM_has h2 hh2
    have := hR.inj x1 x2 b1 b2 k2 k4 hh1 hh2 he
    subst this
    exact h.inj l1 l2 x1 k1 k3
  · unfold newM at hb
    split at hb
    · rename_i x hx
      obtain ⟨k, els0, els, h3, h4, _⟩ := h.live l x (by unfold oldAt; rw [hx])
      exact ⟨els0, by rw [h3]; rw [(hR.at hb h4).1]⟩
    · rename_i k hx
      cases hb
      exact ⟨[], h.new l k hx⟩
    · cases hb
  · rcases h.all l k els0 he with ⟨l', h1⟩ | ⟨h1, rfl⟩
    · obtain ⟨k', els0', els, h3, h4, h5⟩ := h.live l l' h1
      rw [he] at h3
      cases h3
      obtain ⟨b, h6, h7, h8, h9⟩ := hR.blk l' k els h4
      refine ⟨b, by rw [newM_old h1]; exact h6, h7, fun hh => ?_, fun hh => ?_⟩
      · have hok := h8 hh
        refine ⟨hok.low, hok.there, hok.free, by rw [h5.1]; exact hok.fit, fun i hi => by rw [(h5.2 i hi (by rw [← h5.1]; exact hi)).1]; exact hok.wide _ _, fun i hi j hj => ?_⟩
        have hi' : i < els.length := by rw [← h5.1]; exact hi
        have hr := h5.2 i hi hi'
        obtain ⟨v, h10, h11⟩ := hok.val i hi' j (by rw [← hr.1]; exact hj)
        exact ⟨v, h10, (hr.2 j hj (by rw [← hr.1]; exact hj)).v hR h h11⟩
      · have := h9 hh
        subst this
        exact List.eq_nil_of_length_eq_zero h5.1
    · exact ⟨_, newM_fresh h1, rfl, (fun hh => by cases hh), fun _ => rfl⟩

/-- The first nb0 numbers stay, or go. -/
def idsS (nb0 : Nat) (L : SrcL) : Bool := (List.range nb0).all fun l => match L[l]? with | some (.old x) => Nat.beq x l | some (.fresh _) => false | _ => true
theorem idsS_spec {nb0 : Nat} {L : SrcL} (h : idsS nb0 L = true) {l : Nat} (hl : l < nb0) (m : BM) : newM m L l = m l ∨ newM m L l = none := by
  have h1 := (List.all_eq_true.1 h) l (List.mem_range.2 hl)
  unfold newM
  cases hL : L[l]? with
  | none => exact .inr rfl
  | some s =>
    rw [hL] at h1
    cases s with
    | old x => simp at h1; subst h1; exact .inl rfl
    | dead => exact .inr rfl
    | fresh k => cases h1

theorem Step.rs {A m nb0 w A' m' nb' w' st0 st'} {L : SrcL} (h : RsSt L st0 st') (hS : Step A m nb0 w A' m' nb' w') (hid : idsS nb0 L = true) (hn : nb0 ≤ st0.length) : Step A m nb0 w (newA A' m' L) (newM m' L) st0.length w' := by
  refine ⟨hn, hS.size, fun B hB => .inl (hS.aSub B hB), fun B hB => ?_, fun l hl => ?_, fun l b hb hh => ?_, hS.heap, hS.os, hS.tape, hS.output⟩
  · rcases hB with h1 | ⟨l, b, h1, h2, rfl, _⟩
    · exact hS.aNew B h1
    · rcases hS.mNew l b h1 h2 with h3 | h3
      · exact .inr (.inl h3)
      · exact .inr (.inr h3)
  · rcases idsS_spec hid hl m' with h1 | h1
    · rw [h1]; exact hS.mOld l hl
    · exact .inr h1
  · obtain ⟨x, h1, h2⟩ := newM_has hb hh
    exact hS.mNew x b h2 hh

def EnvRs (st : St) (L : SrcL) : Ev → Ev → Prop
  | [], _ => True
  | (t, v0) :: r, env => (∃ v, look env t = some v ∧ Rs st L v0 v) ∧ EnvRs st L r env

theorem EnvRs.get {st L} : ∀ {env0 env : Ev}, EnvRs st L env0 env → ∀ t v0, look env0 t = some v0 → ∃ v, look env t = some v ∧ Rs st L v0 v
  | [], _, _, t, v0, h => by cases h
  | (k, x) :: r, env, h, t, v0, hl => by
    simp only [look] at hl
    split at hl
    · rename_i e; subst e; cases hl; exact h.1
    · exact EnvRs.get h.2 t v0 hl

theorem Env.rs {A m w st st0 n env0 env a} {L : SrcL} (hR : R A m w st) (hs : RsSt L st0 st) (hE : Env A m st.length w n env a) (he : EnvRs st L env0 env) : Env (newA A m L) (newM m L) st0.length w n env0 a :=
  ⟨hE.size, fun t v0 hl => by
    obtain ⟨v, h1, h2⟩ := he.get t v0 hl
    obtain ⟨h3, h4⟩ := hE.val t v h1
    exact ⟨h3, h2.v hR hs h4⟩, hE.defers⟩

/-! ### The new state block by block -/
def RsBlks (st : St) (L : SrcL) : SrcL → St → Prop
  | [], [] => True
  | .dead :: r, none :: s => RsBlks st L r s
  | .fresh k :: r, some (k', els) :: s => (k' = k ∧ els = []) ∧ RsBlks st L r s
  | .old x :: r, some (k, els0) :: s => (∃ els, st[x]? = some (some (k, els)) ∧ RsRows st L els0 els) ∧ RsBlks st L r s
  | _, _ => False

theorem RsBlks.at {st : St} {L : SrcL} : ∀ {r : SrcL} {s : St}, RsBlks st L r s → ∀ l : Nat,
    (∀ x, r[l]? = some (.old x) → ∃ k els0 els, s[l]? = some (some (k, els0)) ∧ st[x]? = some (some (k, els)) ∧ RsRows st L els0 els) ∧
    (∀ k, r[l]? = some (.fresh k) → s[l]? = some (some (k, []))) ∧ (∀ k els0, s[l]? = some (some (k, els0)) → (∃ x, r[l]? = some (.old x)) ∨ (r[l]? = some (.fresh k) ∧ els0 = []))
  | [], [], _, l => by simp
  | [], _ :: _, h, _ => by cases h
  | .dead :: _, [], h, _ => by cases h
  | .dead :: _, some _ :: _, h, _ => by cases h
  | .fresh _ :: _, [], h, _ => by cases h
  | .fresh _ :: _, none :: _, h, _ => by cases h
  | .old _ :: _, [], h, _ => by cases h
  | .old _ :: _, none :: _, h, _ => by cases h
  | .dead :: r, none :: s, h, l => by
    cases l with
    | zero => simp
    | succ l => simpa using RsBlks.at (r := r) (s := s) h l
  | .fresh k :: r, some (k', els) :: s, h, l => by
    obtain ⟨⟨rfl, rfl⟩, h2⟩ := h
    cases l with
    | zero => simp
    | succ l => simpa using RsBlks.at (r := r) (s := s) h2 l
  | .old x :: r, some (k, els0) :: s, h, l => by
    obtain ⟨⟨els, h1, h3⟩, h2⟩ := h
    cases l with
    | zero =>
      refine ⟨fun y hy => ?_, fun k' hk => by simp at hk, fun k' e' he' => .inl ⟨x, by simp⟩⟩
      simp at hy; subst hy
      exact ⟨k, els0, els, by simp, h1, h3⟩
    | succ l => simpa using RsBlks.at (r := r) (s := s) h2 l

/-- Each old number once. -/
def onceS : SrcL → Bool
  | [] => true
  | .old x :: r => (!kept r x) && onceS r
  | _ :: r => onceS r
theorem onceS_inj : ∀ {L : SrcL}, onceS L = true → ∀ l1 l2 x, oldAt L l1 = some x → oldAt L l2 = some x → l1 = l2
  | [], _, l1, _, x, h, _ => by simp [oldAt] at h
  | s :: L, h, l1, l2, x, h1, h2 => by
    have hL : onceS L = true := by cases s <;> simp [onceS] at h <;> first | exact h.2 | exact h
    cases l1 with
    | zero =>
      cases l2 with
      | zero => rfl
      | succ l2 =>
        cases s with
        | old y =>
          simp [oldAt] at h1; subst h1
          have := kept_of (L := L) (l := l2) (x := y) (by simpa [oldAt] using h2)
          simp [onceS, this] at h
        | dead => simp [oldAt] at h1
        | fresh k => simp [oldAt] at h1
    | succ l1 =>
      cases l2 with
      | zero =>
        cases s with
        | old y =>
          simp [oldAt] at h2; subst h2
          have := kept_of (L := L) (l := l1) (x := y) (by simpa [oldAt] using h1)
          simp [onceS, this] at h
        | dead => simp [oldAt] at h2
        | fresh k => simp [oldAt] at h2
      | succ l2 => rw [onceS_inj hL l1 l2 x (by simpa [oldAt] using h1) (by simpa [oldAt] using h2)]

theorem RsSt.of {L : SrcL} {st0 st : St} (ho : onceS L = true) (h : RsBlks st L L st0) : RsSt L st0 st where
  live := fun l l' hl => by
    unfold oldAt at hl
    split at hl
    · rename_i x hx; cases hl; exact (h.at l).1 _ hx
    · cases hl
  all := fun l k els0 he => by
    rcases (h.at l).2.2 k els0 he with ⟨x, hx⟩ | h1
    · exact .inl ⟨x, by unfold oldAt; rw [hx]⟩
    · exact .inr h1
  new := fun l k hk => (h.at l).2.1 k hk
  inj := onceS_inj ho

/-- The state (env, st) told anew as (env0, st0). -/
def Can (nb0 : Nat) (env0 : Ev) (st0 : St) (env : Ev) (st : St) : Prop :=
  ∃ L : SrcL, EnvRs st L env0 env ∧ onceS L = true ∧ RsBlks st L L st0 ∧ idsS nb0 L = true ∧ nb0 ≤ st0.length

section
variable {P : Program} {n nb0 : Nat} {env env0 : Ev} {st st0 : St}

theorem sw_can {c : Code} {Q : Exit → Ev → St → Prop} (hc : Can nb0 env0 st0 env st) (h : SW P n nb0 c Q env0 st0) : SW P n nb0 c Q env st := by
  obtain ⟨L, h1, h2, h3, h4, h5⟩ := hc
  intro A m w a h0 hR hE
  have hs := RsSt.of h2 h3
  exact wp_mono (h _ _ w a h5 (hR.rs hs) (hE.rs hR hs h1)) fun _ _ _ k => k.trans ((Step.refl0 A m st.length w h0).rs hs h4 h5)

theorem r_can {all l1 l2 : List Oper} {K : Ev → St → Prop} (hc : Can nb0 env0 st0 env st) (h : SR P n nb0 all l1 l2 K env0 st0) : SR P n nb0 all l1 l2 K env st := by
  obtain ⟨L, h1, h2, h3, h4, h5⟩ := hc
  intro ops i ho hd hn A m w a h0 hR hE Q hQ
  have hs := RsSt.of h2 h3
  exact h ops i ho hd hn _ _ w a h5 (hR.rs hs) (hE.rs hR hs h1) Q fun a' w' k => hQ a' w' (k.trans ((Step.refl0 A m st.length w h0).rs hs h4 h5))

/-- Ways meet again. -/
theorem sw_meet {x y : Code} {Q : Exit → Ev → St → Prop} {X : Type} (E : X → Ev) (S : X → St) (I : X → Prop)
    (h : SW P n nb0 x (thenQ (fun env st => ∃ z, I z ∧ Can nb0 (E z) (S z) env st) Q) env st) (k : ∀ z, I z → SW P n nb0 y Q (E z) (S z)) : SW P n nb0 (.seq x y) Q env st :=
  sw_seq (h.mono fun e env st h => by cases e <;> first | (obtain ⟨z, h1, h2⟩ := h; exact sw_can h2 (k z h1)) | exact h)

/-- What a round of a loop ends in: the next round from z, left by the loop's own exit with b, or handed back. -/
def LQ (id : Nat) {X B R : Type} (nb0 : Nat) (E : X → Ev) (S : X → St) (E' : B → Ev) (S' : B → St) (post : R → Ev → St → Prop) (o : Sum X (Sum B R)) : Exit → Ev → St → Prop
  | .normal, env, st => ∃ z, o = .inl z ∧ Can nb0 (E z) (S z) env st
  | .exit i, env, st => i = id ∧ ∃ b, o = .inr (.inl b) ∧ Can nb0 (E' b) (S' b) env st
  | .ret, env, st => ∃ r, o = .inr (.inr r) ∧ post r env st
  | _, _, _ => False

/-- A loop in its block, then the rest. -/
theorem sw_lp {id : Nat} {c y : Code} {Q : Exit → Ev → St → Prop} {X B R : Type} (E : X → Ev) (S : X → St) (E' : B → Ev) (S' : B → St) (post : R → Ev → St → Prop) {body : X → Option (Sum X (Sum B R))} {z0 : X} {o : Sum B R}
    (ho : loopP body z0 = some o) (hc : Can nb0 (E z0) (S z0) env st) (round : ∀ z r, body z = some r → SW P n nb0 c (LQ id nb0 E S E' S' post r) (E z) (S z))
    (hb : ∀ b, o = .inl b → SW P n nb0 y Q (E' b) (S' b)) (hr : ∀ r, o = .inr r → ∀ env st, post r env st → Q .ret env st) : SW P n nb0 (.seq (.block id (.loop c)) y) Q env st := by
  obtain ⟨N, hN⟩ := loopP_ex ho
  refine sw_seq (sw_block (sw_loop (fun k env st => ∃ z, loopN body k z = some o ∧ Can nb0 (E z) (S z) env st) N ⟨z0, hN, hc⟩ ?_))
  rintro k env st ⟨z, hz, hcan⟩
  cases k with
  | zero => cases hz
  | succ k =>
    unfold loopN at hz
    cases hbz : body z with
    | none => rw [hbz] at hz; cases hz
    | some r =>
      rw [hbz] at hz
      refine sw_can hcan ((round z r hbz).mono fun e env st h => ?_)
      cases e with
      | normal =>
        obtain ⟨z', rfl, h2⟩ := h
        exact ⟨k, Nat.lt_succ_self k, z', hz, h2⟩
      | exit i =>
        obtain ⟨rfl, b, rfl, h2⟩ := h
        show blockQ i _ (.exit i) env st
        simp only [blockQ, if_true]
        exact sw_can h2 (hb b (sm hz).symm)
      | ret =>
        obtain ⟨r', rfl, h2⟩ := h
        exact hr r' (sm hz).symm env st h2
      | goto l => exact h.elim
      | panic c => exact h.elim
      | outgrown => exact h.elim
end
end Go.Proofs.YthhkdanpjcnegaaGreat
