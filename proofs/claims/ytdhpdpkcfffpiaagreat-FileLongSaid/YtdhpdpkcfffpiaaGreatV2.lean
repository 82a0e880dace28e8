/- FileLong: for every input the law returns true, and each argument reads as it read before. No further condition. Part 2 of 7. -/
import Derived.Test.YtdhpdpkcfffpiaaGreatV1
namespace Go.Proofs.YtdhpdpkcfffpiaaGreat
set_option linter.unusedSimpArgs false
set_option linter.unusedVariables false
set_option linter.unusedSectionVars false
mutual
def immB : AV → Bool
  | .any => true
  | .lit _ => true
  | .isl _ _ => true
  | .ipt _ _ _ _ => true
  | .msl _ _ _ => false
  | .mpt _ _ _ => false
  | .agg cs => immLB cs
  | .tup cs => immLB cs
  | .fn _ a b => immLB a && immLB b
def immLB : List AV → Bool
  | [] => true
  | x :: l => immB x && immLB l
end
theorem ImmL.mem {l : List AV} (h : ImmL l) : ∀ x ∈ l, Imm x := by
  induction h with
  | nil => exact fun x hx => by cases hx
  | cons h _ ih =>
    intro x hx
    rcases List.mem_cons.1 hx with h1 | h1
    · exact h1 ▸ h
    · exact ih x h1
mutual
theorem immB_imm : ∀ {x : AV}, immB x = true → Imm x
  | .any, _ => .any
  | .lit v, _ => .lit v
  | .isl k e, _ => .isl k e
  | .ipt k e i j, _ => .ipt k e i j
  | .msl _ _ _, h => by cases h
  | .mpt _ _ _, h => by cases h
  | .agg cs, h => .agg cs (immL_of h).mem
  | .tup cs, h => .tup cs (immL_of h).mem
  | .fn f a b, h => .fn f a b (immL_of (Bool.and_eq_true_iff.1 h).1).mem (immL_of (Bool.and_eq_true_iff.1 h).2).mem
theorem immL_of : ∀ {l : List AV}, immLB l = true → ImmL l
  | [], _ => .nil
  | x :: l, h => .cons (immB_imm (Bool.and_eq_true_iff.1 h).1) (immL_of (Bool.and_eq_true_iff.1 h).2)
end
inductive Src where
  | old (l : Nat)
  | dead
  | fresh (k : Nat)
abbrev SrcL := List Src
def oldAt (L : SrcL) (l : Nat) : Option Nat := match L[l]? with | some (.old x) => some x | _ => none
def kept (L : SrcL) (x : Nat) : Bool := match L with | [] => false | .old y :: r => Nat.beq y x || kept r x | _ :: r => kept r x
theorem kept_of : ∀ {L : SrcL} {l x : Nat}, oldAt L l = some x → kept L x = true
  | [], l, x, h => by simp [oldAt] at h
  | s :: L, 0, x, h => by
    cases s with
    | old y => simp [oldAt] at h; subst h; simp [kept]
    | dead => simp [oldAt] at h
    | fresh k => simp [oldAt] at h
  | s :: L, l + 1, x, h => by
    have := kept_of (L := L) (l := l) (x := x) (by simpa [oldAt] using h)
    cases s <;> simp [kept, this]
inductive Rs (st : St) (L : SrcL) : AV → AV → Prop
  | any (x) : Rs st L .any x
  | imm {x} (h : Imm x) : Rs st L x x
  | nil {k : Nat} : Rs st L (.isl k []) (.lit (.slice none 0 0))
  | nilown {l k : Nat} (h : L[l]? = some (.fresh k)) : Rs st L (.msl l 0 0) (.lit (.slice none 0 0))
  | msl {l l' i n : Nat} (h : oldAt L l = some l') : Rs st L (.msl l i n) (.msl l' i n)
  | mpt {l l' i j : Nat} (h : oldAt L l = some l') : Rs st L (.mpt l i j) (.mpt l' i j)
  | sl {l i n k : Nat} {els els' : List (List AV)} (hD : kept L l = false) (h : st[l]? = some (some (k, els))) (hin : i + n ≤ els.length) (hl : els'.length = n) (hi : ∀ r ∈ els', ∀ x ∈ r, Imm x)
      (hrl : ∀ q (h : q < n) (h1 : i + q < els.length) (h2 : q < els'.length), els[i + q].length = els'[q].length)
      (hr : ∀ q (h : q < n) (h1 : i + q < els.length) (h2 : q < els'.length) j (h3 : j < els[i + q].length) (h4 : j < els'[q].length), Rs st L els'[q][j] els[i + q][j]) :
      Rs st L (.isl k els') (.msl l i n)
  | slp {l i j k : Nat} {els els' : List (List AV)} (hD : kept L l = false) (h : st[l]? = some (some (k, els))) (hl : els'.length = els.length) (hi : ∀ r ∈ els', ∀ x ∈ r, Imm x)
      (hrl : ∀ q (h1 : q < els.length) (h2 : q < els'.length), els[q].length = els'[q].length)
      (hr : ∀ q (h1 : q < els.length) (h2 : q < els'.length) j (h3 : j < els[q].length) (h4 : j < els'[q].length), Rs st L els'[q][j] els[q][j]) :
      Rs st L (.ipt k els' i j) (.mpt l i j)
  | agg {cs cs' : List AV} (hl : cs.length = cs'.length) (hr : ∀ i (h : i < cs.length) (h' : i < cs'.length), Rs st L cs[i] cs'[i]) : Rs st L (.agg cs) (.agg cs')
  | tup {cs cs' : List AV} (hl : cs.length = cs'.length) (hr : ∀ i (h : i < cs.length) (h' : i < cs'.length), Rs st L cs[i] cs'[i]) : Rs st L (.tup cs) (.tup cs')
  | fn {f : Fn} {cs cs' ds ds' : List AV} (hl : cs.length = cs'.length) (hr : ∀ i (h : i < cs.length) (h' : i < cs'.length), Rs st L cs[i] cs'[i])
      (hl' : ds.length = ds'.length) (hr' : ∀ i (h : i < ds.length) (h' : i < ds'.length), Rs st L ds[i] ds'[i]) : Rs st L (.fn f cs ds) (.fn f cs' ds')
def RsRows (st : St) (L : SrcL) (els0 els : List (List AV)) : Prop :=
  els0.length = els.length ∧ ∀ i (h : i < els0.length) (h' : i < els.length), els0[i].length = els[i].length ∧ ∀ j (h1 : j < els0[i].length) (h2 : j < els[i].length), Rs st L els0[i][j] els[i][j]
structure RsSt (L : SrcL) (st0 st : St) : Prop where
  live : ∀ (l l' : Nat), oldAt L l = some l' → ∃ k els0 els, st0[l]? = some (some (k, els0)) ∧ st[l']? = some (some (k, els)) ∧ RsRows st L els0 els
  all : ∀ (l k : Nat) els0, st0[l]? = some (some (k, els0)) → (∃ l', oldAt L l = some l') ∨ (L[l]? = some (Src.fresh k) ∧ els0 = [])
  new : ∀ (l k : Nat), L[l]? = some (Src.fresh k) → st0[l]? = some (some (k, []))
  inj : ∀ l1 l2 x, oldAt L l1 = some x → oldAt L l2 = some x → l1 = l2
def newA (A : Nat → Prop) (m : BM) (L : SrcL) : Nat → Prop := fun B => A B ∨ ∃ l b, m l = some b ∧ b.has = true ∧ b.B = B ∧ kept L l = false
def newM (m : BM) (L : SrcL) : BM := fun l => match L[l]? with | some (.old x) => m x | some (.fresh k) => some ⟨false, 0, 0, k, 0⟩ | _ => none
theorem newM_old {m : BM} {L : SrcL} {l x : Nat} (h : oldAt L l = some x) : newM m L l = m x := by
  unfold oldAt at h; unfold newM
  split at h
  · rename_i y hy; cases h; rw [hy]
  · cases h
theorem newM_fresh {m : BM} {L : SrcL} {l k : Nat} (h : L[l]? = some (.fresh k)) : newM m L l = some ⟨false, 0, 0, k, 0⟩ := by unfold newM; rw [h]
theorem newM_has {m : BM} {L : SrcL} {l : Nat} {b : Blk} (h : newM m L l = some b) (hh : b.has = true) : ∃ x, oldAt L l = some x ∧ m x = some b := by
  unfold newM at h
  split at h
  · rename_i y hy; exact ⟨y, by unfold oldAt; rw [hy], h⟩
  · cases h; cases hh
  · cases h
theorem Rs.v {A : Nat → Prop} {m : BM} {w : World} {st st0 : St} {L : SrcL} (hR : R A m w st) (hs : RsSt L st0 st) {x y : AV} (h : Rs st L x y) : ∀ {v}, V A m st.length w y v → V (newA A m L) (newM m L) st0.length w x v := by
  have hA' : ∀ B, A B → newA A m L B := fun B h => .inl h
  induction h with
  | any x => exact fun {v} _ => .imm (.any v)
  | imm h => exact fun {v} hv => .imm ((h.vi hv).widen hA')
  | nil => intro v hv; rw [hv.lit_inv]; exact .imm (.inil _ _ _)
  | @nilown l k h =>
    intro v hv
    rw [hv.lit_inv]
    have h1 := hs.new l k h
    exact .msl _ _ _ _ _ _ (List.getElem?_eq_some_iff.1 h1).1 fun b hb => ⟨rfl, Nat.le_refl _, .inl rfl⟩
  | @msl l l' i n h =>
    intro v hv
    obtain ⟨hl, a, n', cap, rfl, hb⟩ := hv.msl_inv
    obtain ⟨_, _, _, h1, _, _⟩ := hs.live l l' h
    exact .msl _ _ _ _ _ _ (List.getElem?_eq_some_iff.1 h1).1 fun b hb' => hb b ((newM_old (m := m) h).symm.trans hb')
  | @mpt l l' i j h =>
    intro v hv
    obtain ⟨hl, a, rfl, hb⟩ := hv.mpt_inv
    obtain ⟨_, _, _, h1, _, _⟩ := hs.live l l' h
    exact .mpt _ _ _ _ (List.getElem?_eq_some_iff.1 h1).1 fun b hb' => hb b ((newM_old (m := m) h).symm.trans hb')
  | @sl l i n k els els' hD h hin hl hi hrl hr ih =>
    intro v hv
    obtain ⟨hlt, a, n', cap, rfl, hb⟩ := hv.msl_inv
    obtain ⟨b, h1, h2, h3, h4⟩ := hR.blk l k els h
    obtain ⟨rfl, hcap, hc⟩ := hb b h1
    rcases hc with h5 | ⟨h6, rfl, hfit⟩
    · have h0 : n' = 0 := by omega
      subst h0
      obtain rfl : els' = [] := List.eq_nil_of_length_eq_zero hl
      exact .imm (.inil _ _ _)
    · have hok := h3 h6
      subst h2
      have hcell : ∀ q j, q < els'.length → j < b.k → ∃ u, w.cell? ⟨b.B, b.o + i * b.k + q * b.k + j, none⟩ = some u ∧ ∀ (h4 : q < els'.length) (h5 : j < els'[q].length), VI (newA A m L) w els'[q][j] u := fun q j hq hj => by
        have hq1 : i + q < els.length := by omega
        have hj1 : j < els[i + q].length := by rw [hok.wide _ hq1]; exact hj
        obtain ⟨u, h8, h9⟩ := hok.val (i + q) hq1 j hj1
        refine ⟨u, by rw [← h8]; congr 2; rw [Nat.add_mul]; omega, fun h10 h11 => ?_⟩
        exact (hi _ (List.getElem_mem h10) _ (List.getElem_mem h11)).vi (ih q (by omega) hq1 h10 j hj1 h11 h9)
      have hw' : ∀ q (hq : q < els'.length), els'[q].length = b.k := fun q hq => by
        rw [← hrl q (by omega) (by omega) hq]; exact hok.wide _ (by omega)
      have := VI.isl (A := newA A m L) (w := w) b.k els' b.B (b.o + i * b.k) cap (fun q j => (w.cell? ⟨b.B, b.o + i * b.k + q * b.k + j, none⟩).getD undef) (.inr ⟨l, b, h1, h6, rfl, hD⟩) (by omega) hw'
        (fun q j hq hj => by obtain ⟨u, h8, _⟩ := hcell q j hq hj; rw [h8]; rfl)
        (fun q hq j hj => by
          obtain ⟨u, h8, h9⟩ := hcell q j hq (by rw [← hw' q hq]; exact hj)
          show VI _ w _ ((w.cell? _).getD undef)
          rw [h8]; exact h9 hq hj)
      rw [hl] at this
      exact .imm this
  | @slp l i j k els els' hD h hl hi hrl hr ih =>
    intro v hv
    obtain ⟨hlt, a, rfl, hb⟩ := hv.mpt_inv
    obtain ⟨b, h1, h2, h3, h4⟩ := hR.blk l k els h
    obtain ⟨h6, rfl⟩ := hb b h1
    have hok := h3 h6
    subst h2
    have hcell : ∀ q j, q < els'.length → j < b.k → ∃ u, w.cell? ⟨b.B, b.o + q * b.k + j, none⟩ = some u ∧ ∀ (h4 : q < els'.length) (h5 : j < els'[q].length), VI (newA A m L) w els'[q][j] u := fun q j hq hj => by
      have hq1 : q < els.length := by omega
      have hj1 : j < els[q].length := by rw [hok.wide _ hq1]; exact hj
      obtain ⟨u, h8, h9⟩ := hok.val q hq1 j hj1
      exact ⟨u, h8, fun h10 h11 => (hi _ (List.getElem_mem h10) _ (List.getElem_mem h11)).vi (ih q hq1 h10 j hj1 h11 h9)⟩
    have hw' : ∀ q (hq : q < els'.length), els'[q].length = b.k := fun q hq => by
      rw [← hrl q (by omega) hq]; exact hok.wide _ (by omega)
    exact .imm (VI.ipt (A := newA A m L) (w := w) b.k els' i j b.B b.o (fun q j => (w.cell? ⟨b.B, b.o + q * b.k + j, none⟩).getD undef) (.inr ⟨l, b, h1, h6, rfl, hD⟩) hw'
      (fun q j hq hj => by obtain ⟨u, h8, _⟩ := hcell q j hq hj; rw [h8]; rfl)
      (fun q hq j hj => by
        obtain ⟨u, h8, h9⟩ := hcell q j hq (by rw [← hw' q hq]; exact hj)
        show VI _ w _ ((w.cell? _).getD undef)
        rw [h8]; exact h9 hq hj))
  | agg hl hr ih =>
    intro v hv
    obtain ⟨a, rfl, h1, h2⟩ := hv.agg_inv
    exact .agg _ _ (by omega) fun i hi => ih i hi (by omega) (h2 i (by omega))
  | tup hl hr ih =>
    intro v hv
    obtain ⟨a, rfl, h1, h2⟩ := hv.tup_inv
    exact .tup _ _ (by omega) fun i hi => ih i hi (by omega) (h2 i (by omega))
  | fn hl hr hl' hr' ih ih' =>
    intro v hv
    obtain ⟨a, b, rfl, ⟨h1, h2⟩, ⟨h3, h4⟩⟩ := hv.fn_inv
    exact .fn _ _ _ _ _ (by omega) (fun i hi => ih i hi (by omega) (h2 i (by omega))) (by omega) fun i hi => ih' i hi (by omega) (h4 i (by omega))
theorem R.rs {A : Nat → Prop} {m : BM} {w : World} {st st0 : St} {L : SrcL} (hR : R A m w st) (h : RsSt L st0 st) : R (newA A m L) (newM m L) w st0 := by
  refine ⟨fun B hB => ?_, fun B l b hA hb hh => ?_, fun l1 l2 b1 b2 h1 h2 hh1 hh2 he => ?_, fun l b hb => ?_, fun l k els0 he => ?_⟩
  · rcases hB with h1 | ⟨l, b, h1, h2, rfl, _⟩
    · exact hR.aLow B h1
    · exact hR.low h1 h2
  · obtain ⟨x, h1, h2⟩ := newM_has hb hh
    rcases hA with h3 | ⟨l3, b3, h3, h4, rfl, h5⟩
    · exact hR.aOwn B x b h3 h2 hh
    · intro e
      have := hR.inj x l3 b b3 h2 h3 hh h4 e
      subst this
      rw [kept_of h1] at h5
      cases h5
  · obtain ⟨x1, k1, k2⟩ := newM_has h1 hh1
    obtain ⟨x2, k3, k4⟩ := newM_has h2 hh2
    have := hR.inj x1 x2 b1 b2 k2 k4 hh1 hh2 he
    subst this
    exact h.inj l1 l2 x1 k1 k3
  · unfold newM at hb
    split at hb
    · rename_i x hx
      obtain ⟨k, els0, els, h3, h4, _⟩ := h.live l x (by unfold oldAt; rw [hx])
      exact ⟨els0, by rw [h3]; rw [(hR.at hb h4).1]⟩
    · rename_i k hx
      cases hb
      exact ⟨[], h.new l k hx⟩
    · cases hb
  · rcases h.all l k els0 he with ⟨l', h1⟩ | ⟨h1, rfl⟩
    · obtain ⟨k', els0', els, h3, h4, h5⟩ := h.live l l' h1
      rw [he] at h3
      cases h3
      obtain ⟨b, h6, h7, h8, h9⟩ := hR.blk l' k els h4
      refine ⟨b, by rw [newM_old h1]; exact h6, h7, fun hh => ?_, fun hh => ?_⟩
      · have hok := h8 hh
        refine ⟨hok.low, hok.there, hok.free, by rw [h5.1]; exact hok.fit, fun i hi => by rw [(h5.2 i hi (by rw [← h5.1]; exact hi)).1]; exact hok.wide _ _, fun i hi j hj => ?_⟩
        have hi' : i < els.length := by rw [← h5.1]; exact hi
        have hr := h5.2 i hi hi'
        obtain ⟨v, h10, h11⟩ := hok.val i hi' j (by rw [← hr.1]; exact hj)
        exact ⟨v, h10, (hr.2 j hj (by rw [← hr.1]; exact hj)).v hR h h11⟩
      · have := h9 hh
        subst this
        exact List.eq_nil_of_length_eq_zero h5.1
    · exact ⟨_, newM_fresh h1, rfl, (fun hh => by cases hh), fun _ => rfl⟩
def idsS (nb0 : Nat) (L : SrcL) : Bool := (List.range nb0).all fun l => match L[l]? with | some (.old x) => Nat.beq x l | some (.fresh _) => false | _ => true
theorem idsS_spec {nb0 : Nat} {L : SrcL} (h : idsS nb0 L = true) {l : Nat} (hl : l < nb0) (m : BM) : newM m L l = m l ∨ newM m L l = none := by
  have h1 := (List.all_eq_true.1 h) l (List.mem_range.2 hl)
  unfold newM
  cases hL : L[l]? with
  | none => exact .inr rfl
  | some s =>
    rw [hL] at h1
    cases s with
    | old x => simp at h1; subst h1; exact .inl rfl
    | dead => exact .inr rfl
    | fresh k => cases h1
theorem Step.rs {A m nb0 w A' m' nb' w' st0 st'} {L : SrcL} (h : RsSt L st0 st') (hS : Step A m nb0 w A' m' nb' w') (hid : idsS nb0 L = true) (hn : nb0 ≤ st0.length) : Step A m nb0 w (newA A' m' L) (newM m' L) st0.length w' := by
  refine ⟨hn, hS.size, fun B hB => .inl (hS.aSub B hB), fun B hB => ?_, fun l hl => ?_, fun l b hb hh => ?_, hS.heap, hS.os, hS.tape, hS.output⟩
  · rcases hB with h1 | ⟨l, b, h1, h2, rfl, _⟩
    · exact hS.aNew B h1
    · rcases hS.mNew l b h1 h2 with h3 | h3
      · exact .inr (.inl h3)
      · exact .inr (.inr h3)
  · rcases idsS_spec hid hl m' with h1 | h1
    · rw [h1]; exact hS.mOld l hl
    · exact .inr h1
  · obtain ⟨x, h1, h2⟩ := newM_has hb hh
    exact hS.mNew x b h2 hh
def EnvRs (st : St) (L : SrcL) : Ev → Ev → Prop
  | [], _ => True
  | (t, v0) :: r, env => (∃ v, look env t = some v ∧ Rs st L v0 v) ∧ EnvRs st L r env
theorem EnvRs.get {st L} : ∀ {env0 env : Ev}, EnvRs st L env0 env → ∀ t v0, look env0 t = some v0 → ∃ v, look env t = some v ∧ Rs st L v0 v
  | [], _, _, t, v0, h => by cases h
  | (k, x) :: r, env, h, t, v0, hl => by
    simp only [look] at hl
    split at hl
    · rename_i e; subst e; cases hl; exact h.1
    · exact EnvRs.get h.2 t v0 hl
theorem Env.rs {A m w st st0 n env0 env a} {L : SrcL} (hR : R A m w st) (hs : RsSt L st0 st) (hE : Env A m st.length w n env a) (he : EnvRs st L env0 env) : Env (newA A m L) (newM m L) st0.length w n env0 a :=
  ⟨hE.size, fun t v0 hl => by
    obtain ⟨v, h1, h2⟩ := he.get t v0 hl
    obtain ⟨h3, h4⟩ := hE.val t v h1
    exact ⟨h3, h2.v hR hs h4⟩, hE.defers⟩
def RsBlks (st : St) (L : SrcL) : SrcL → St → Prop
  | [], [] => True
  | .dead :: r, none :: s => RsBlks st L r s
  | .fresh k :: r, some (k', els) :: s => (k' = k ∧ els = []) ∧ RsBlks st L r s
  | .old x :: r, some (k, els0) :: s => (∃ els, st[x]? = some (some (k, els)) ∧ RsRows st L els0 els) ∧ RsBlks st L r s
  | _, _ => False
theorem RsBlks.at {st : St} {L : SrcL} : ∀ {r : SrcL} {s : St}, RsBlks st L r s → ∀ l : Nat,
    (∀ x, r[l]? = some (.old x) → ∃ k els0 els, s[l]? = some (some (k, els0)) ∧ st[x]? = some (some (k, els)) ∧ RsRows st L els0 els) ∧
    (∀ k, r[l]? = some (.fresh k) → s[l]? = some (some (k, []))) ∧ (∀ k els0, s[l]? = some (some (k, els0)) → (∃ x, r[l]? = some (.old x)) ∨ (r[l]? = some (.fresh k) ∧ els0 = []))
  | [], [], _, l => by simp
  | [], _ :: _, h, _ => by cases h
  | .dead :: _, [], h, _ => by cases h
  | .dead :: _, some _ :: _, h, _ => by cases h
  | .fresh _ :: _, [], h, _ => by cases h
  | .fresh _ :: _, none :: _, h, _ => by cases h
  | .old _ :: _, [], h, _ => by cases h
  | .old _ :: _, none :: _, h, _ => by cases h
  | .dead :: r, none :: s, h, l => by
    cases l with
    | zero => simp
    | succ l => simpa using RsBlks.at (r := r) (s := s) h l
  | .fresh k :: r, some (k', els) :: s, h, l => by
    obtain ⟨⟨rfl, rfl⟩, h2⟩ := h
    cases l with
    | zero => simp
    | succ l => simpa using RsBlks.at (r := r) (s := s) h2 l
  | .old x :: r, some (k, els0) :: s, h, l => by
    obtain ⟨⟨els, h1, h3⟩, h2⟩ := h
    cases l with
    | zero =>
      refine ⟨fun y hy => ?_, fun k' hk => by simp at hk, fun k' e' he' => .inl ⟨x, by simp⟩⟩
      simp at hy; subst hy
      exact ⟨k, els0, els, by simp, h1, h3⟩
    | succ l => simpa using RsBlks.at (r := r) (s := s) h2 l
def onceS : SrcL → Bool
  | [] => true
  | .old x :: r => (!kept r x) && onceS r
  | _ :: r => onceS r
theorem onceS_inj : ∀ {L : SrcL}, onceS L = true → ∀ l1 l2 x, oldAt L l1 = some x → oldAt L l2 = some x → l1 = l2
  | [], _, l1, _, x, h, _ => by simp [oldAt] at h
  | s :: L, h, l1, l2, x, h1, h2 => by
    have hL : onceS L = true := by cases s <;> simp [onceS] at h <;> first | exact h.2 | exact h
    cases l1 with
    | zero =>
      cases l2 with
      | zero => rfl
      | succ l2 =>
        cases s with
        | old y =>
          simp [oldAt] at h1; subst h1
          have := kept_of (L := L) (l := l2) (x := y) (by simpa [oldAt] using h2)
          simp [onceS, this] at h
        | dead => simp [oldAt] at h1
        | fresh k => simp [oldAt] at h1
    | succ l1 =>
      cases l2 with
      | zero =>
        cases s with
        | old y =>
          simp [oldAt] at h2; subst h2
          have := kept_of (L := L) (l := l1) (x := y) (by simpa [oldAt] using h1)
          simp [onceS, this] at h
        | dead => simp [oldAt] at h2
        | fresh k => simp [oldAt] at h2
      | succ l2 => rw [onceS_inj hL l1 l2 x (by simpa [oldAt] using h1) (by simpa [oldAt] using h2)]
theorem RsSt.of {L : SrcL} {st0 st : St} (ho : onceS L = true) (h : RsBlks st L L st0) : RsSt L st0 st where
  live := fun l l' hl => by
    unfold oldAt at hl
    split at hl
    · rename_i x hx; cases hl; exact (h.at l).1 _ hx
    · cases hl
  all := fun l k els0 he => by
    rcases (h.at l).2.2 k els0 he with ⟨x, hx⟩ | h1
    · exact .inl ⟨x, by unfold oldAt; rw [hx]⟩
    · exact .inr h1
  new := fun l k hk => (h.at l).2.1 k hk
  inj := onceS_inj ho
def Can (nb0 : Nat) (env0 : Ev) (st0 : St) (env : Ev) (st : St) : Prop :=
  ∃ L : SrcL, EnvRs st L env0 env ∧ onceS L = true ∧ RsBlks st L L st0 ∧ idsS nb0 L = true ∧ nb0 ≤ st0.length
section
variable {P : Program} {n nb0 : Nat} {env env0 : Ev} {st st0 : St}
theorem sw_can {c : Code} {Q : Exit → Ev → St → Prop} (hc : Can nb0 env0 st0 env st) (h : SW P n nb0 c Q env0 st0) : SW P n nb0 c Q env st := by
  obtain ⟨L, h1, h2, h3, h4, h5⟩ := hc
  intro A m w a h0 hR hE
  have hs := RsSt.of h2 h3
  exact wp_mono (h _ _ w a h5 (hR.rs hs) (hE.rs hR hs h1)) fun _ _ _ k => k.trans ((Step.refl0 A m st.length w h0).rs hs h4 h5)
theorem r_can {all l1 l2 : List Oper} {K : Ev → St → Prop} (hc : Can nb0 env0 st0 env st) (h : SR P n nb0 all l1 l2 K env0 st0) : SR P n nb0 all l1 l2 K env st := by
  obtain ⟨L, h1, h2, h3, h4, h5⟩ := hc
  intro ops i ho hd hn A m w a h0 hR hE Q hQ
  have hs := RsSt.of h2 h3
  exact h ops i ho hd hn _ _ w a h5 (hR.rs hs) (hE.rs hR hs h1) Q fun a' w' k => hQ a' w' (k.trans ((Step.refl0 A m st.length w h0).rs hs h4 h5))
theorem sw_meet {x y : Code} {Q : Exit → Ev → St → Prop} {X : Type} (E : X → Ev) (S : X → St) (I : X → Prop)
    (h : SW P n nb0 x (thenQ (fun env st => ∃ z, I z ∧ Can nb0 (E z) (S z) env st) Q) env st) (k : ∀ z, I z → SW P n nb0 y Q (E z) (S z)) : SW P n nb0 (.seq x y) Q env st :=
  sw_seq (h.mono fun e env st h => by cases e <;> first | (obtain ⟨z, h1, h2⟩ := h; exact sw_can h2 (k z h1)) | exact h)
def LQ (id : Nat) {X B R : Type} (nb0 : Nat) (E : X → Ev) (S : X → St) (E' : B → Ev) (S' : B → St) (post : R → Ev → St → Prop) (o : Sum X (Sum B R)) : Exit → Ev → St → Prop
  | .normal, env, st => ∃ z, o = .inl z ∧ Can nb0 (E z) (S z) env st
  | .exit i, env, st => i = id ∧ ∃ b, o = .inr (.inl b) ∧ Can nb0 (E' b) (S' b) env st
  | .ret, env, st => ∃ r, o = .inr (.inr r) ∧ post r env st
  | _, _, _ => False
theorem sw_lp {id : Nat} {c y : Code} {Q : Exit → Ev → St → Prop} {X B R : Type} (E : X → Ev) (S : X → St) (E' : B → Ev) (S' : B → St) (post : R → Ev → St → Prop) {body : X → Option (Sum X (Sum B R))} {z0 : X} {o : Sum B R}
    (ho : loopP body z0 = some o) (hc : Can nb0 (E z0) (S z0) env st) (round : ∀ z r, body z = some r → SW P n nb0 c (LQ id nb0 E S E' S' post r) (E z) (S z))
    (hb : ∀ b, o = .inl b → SW P n nb0 y Q (E' b) (S' b)) (hr : ∀ r, o = .inr r → ∀ env st, post r env st → Q .ret env st) : SW P n nb0 (.seq (.block id (.loop c)) y) Q env st := by
  obtain ⟨N, hN⟩ := loopP_ex ho
  refine sw_seq (sw_block (sw_loop (fun k env st => ∃ z, loopN body k z = some o ∧ Can nb0 (E z) (S z) env st) N ⟨z0, hN, hc⟩ ?_))
  rintro k env st ⟨z, hz, hcan⟩
  cases k with
  | zero => cases hz
  | succ k =>
    unfold loopN at hz
    cases hbz : body z with
    | none => rw [hbz] at hz; cases hz
    | some r =>
      rw [hbz] at hz
      refine sw_can hcan ((round z r hbz).mono fun e env st h => ?_)
      cases e with
      | normal =>
        obtain ⟨z', rfl, h2⟩ := h
        exact ⟨k, Nat.lt_succ_self k, z', hz, h2⟩
      | exit i =>
        obtain ⟨rfl, b, rfl, h2⟩ := h
        show blockQ i _ (.exit i) env st
        simp only [blockQ, if_true]
        exact sw_can h2 (hb b (sm hz).symm)
      | ret =>
        obtain ⟨r', rfl, h2⟩ := h
        exact hr r' (sm hz).symm env st h2
      | goto l => exact h.elim
      | panic c => exact h.elim
      | outgrown => exact h.elim
end
end Go.Proofs.YtdhpdpkcfffpiaaGreat
namespace Go.Proofs.YtdhpdpkcfffpiaaGreat
set_option linter.unusedSimpArgs false
set_option linter.unusedVariables false
set_option linter.unusedSectionVars false
def rStr (s : List UInt8) : List AV := [.lit (.string (B s))]
def FinE (nb0 : Nat) (av0 : AV) (st0 : St) (av : AV) (st : St) : Prop :=
  ∃ L : SrcL, Rs st L av0 av ∧ onceS L = true ∧ RsBlks st L L st0 ∧ idsS nb0 L = true ∧ nb0 ≤ st0.length
def PostF (P : Program) (fn : Func) (nb0 : Nat) (av0 : AV) (st0 : St) (env : Ev) (st : St) : Prop := ∃ av, aret P fn env st = some av ∧ FinE nb0 av0 st0 av st
def QF (P : Program) (fn : Func) (nb0 : Nat) (av0 : AV) (st0 : St) : Exit → Ev → St → Prop
  | .normal, env, st => PostF P fn nb0 av0 st0 env st
  | .ret, env, st => PostF P fn nb0 av0 st0 env st
  | _, _, _ => False
theorem scall_fn {P : Program} {f : FuncId} {fn : Func} {c : Code} {args : List AV} {st : St} {av0 : AV} {st0 : St} (hf : P.funcs[f]? = some fn) (hb : fn.body = some c) (hn : (fn.name == "runtime.NumGoroutine") = false) (hlen : Nat.ble args.length fn.ntmps = true)
    (h : SW P fn.ntmps st.length c (QF P fn st.length av0 st0) (enterEnv 0 args) st) : SCall P f args st (fun av st' => av = av0 ∧ st' = st0) := by
  have h1 := scall_body (K := fun av st' => FinE st.length av0 st0 av st') hf hb hn (Nat.le_of_ble_eq_true hlen) (h.mono fun e env st h => by cases e <;> exact h)
  refine ⟨h1.1, fun A m w vals hR hv => (h1.2 A m w vals hR hv).mono fun e w' ⟨v, A', m', st', av, he, hR', hS, hv', L, k1, k2, k3, k4, k5⟩ => ?_⟩
  have hs := RsSt.of k2 k3
  exact ⟨v, _, _, st0, av0, he, hR'.rs hs, hS.rs hs k4 k5, k1.v hR' hs hv', rfl, rfl⟩
theorem pure_fn {P : Program} {f : FuncId} {fn : Func} {c : Code} {args : List AV} {res : AV} (hf : P.funcs[f]? = some fn) (hb : fn.body = some c) (hn : (fn.name == "runtime.NumGoroutine") = false) (hlen : Nat.ble args.length fn.ntmps = true) (hi : immB res = true)
    (h : SW P fn.ntmps 0 c (QF P fn 0 res []) (enterEnv 0 args) []) : PureC P f args res :=
  pure_of ((scall_fn (st := []) hf hb hn hlen h).mono fun av st ⟨h1, h2⟩ => by subst h1; exact .imm (immB_imm hi))
inductive SB where
  | no
  | many (k : Nat) (els : List (List AV))
  | one (k : Nat) (cs : List AV)
  | xs (k : Nat) (rows : List (List AV))
def SB.b : SB → Option (Nat × List (List AV))
  | .no => none
  | .many k els => some (k, els)
  | .one k cs => some (k, [cs])
  | .xs k rows => some (k, rows)
def SBs : List SB → St
  | [] => []
  | x :: r => x.b :: SBs r
def SB.ok : SB → Prop
  | .many _ els => ∀ r ∈ els, ∀ x ∈ r, Imm x
  | _ => True
def SBok : List SB → Prop
  | [] => True
  | x :: r => x.ok ∧ SBok r
def SC (P : Program) (f : FuncId) (args : List AV) (bs0 : List SB) (av : AV) (bs1 : List SB) : Prop := SBok bs1 ∧ SCall P f args (SBs bs0) (fun a s => a = av ∧ s = SBs bs1)
def RnLs (ρ : Nat → Option Nat) : List AV → List AV → Prop
  | [], [] => True
  | x :: l, y :: r => Rn ρ x y ∧ RnLs ρ l r
  | _, _ => False
theorem RnLs.get {ρ} : ∀ {l r : List AV}, RnLs ρ l r → l.length = r.length ∧ ∀ i (h : i < l.length) (h' : i < r.length), Rn ρ l[i] r[i]
  | [], [], _ => ⟨rfl, fun i h => by cases h⟩
  | [], _ :: _, h => h.elim
  | _ :: _, [], h => h.elim
  | x :: l, y :: r, h => by
    obtain ⟨h1, h2⟩ := RnLs.get h.2
    refine ⟨by simp [h1], fun i hi hi' => ?_⟩
    cases i with
    | zero => exact h.1
    | succ i => exact h2 i (by simpa using hi) (by simpa using hi')
def InB (ρ : Nat → Option Nat) (st : St) : List Nat → List SB → Prop
  | [], [] => True
  | l :: L, .many k els :: bs => (st[l]? = some (some (k, els)) ∧ ∀ r ∈ els, ∀ x ∈ r, Imm x) ∧ InB ρ st L bs
  | l :: L, .one k cs :: bs => (∃ cs', st[l]? = some (some (k, [cs'])) ∧ RnLs ρ cs cs') ∧ InB ρ st L bs
  | _, _ => False
theorem InB.at {ρ st} : ∀ {L : List Nat} {bs : List SB}, InB ρ st L bs → L.length = bs.length ∧ ∀ i l : Nat, L[i]? = some l → ∃ k els0 els, (SBs bs)[i]? = some (some (k, els0)) ∧ st[l]? = some (some (k, els)) ∧ RnRows ρ els0 els
  | [], [], _ => ⟨rfl, fun i l h => by simp at h⟩
  | [], _ :: _, h => h.elim
  | _ :: _, [], h => h.elim
  | _ :: _, .no :: _, h => h.elim
  | _ :: _, .xs _ _ :: _, h => h.elim
  | l :: L, .many k els :: bs, h => by
    obtain ⟨h1, h2⟩ := InB.at h.2
    refine ⟨by simp [h1], fun i x hx => ?_⟩
    cases i with
    | zero =>
      simp at hx; subst hx
      exact ⟨k, els, els, rfl, h.1.1, RnRows.same h.1.2⟩
    | succ i => simpa [SBs] using h2 i x (by simpa using hx)
  | l :: L, .one k cs :: bs, h => by
    obtain ⟨h1, h2⟩ := InB.at h.2
    refine ⟨by simp [h1], fun i x hx => ?_⟩
    cases i with
    | zero =>
      simp at hx; subst hx
      obtain ⟨cs', h3, h4⟩ := h.1
      exact ⟨k, [cs], [cs'], rfl, h3, RnRows.one h4.get.1 h4.get.2⟩
    | succ i => simpa [SBs] using h2 i x (by simpa using hx)
theorem SBs_length : ∀ bs : List SB, (SBs bs).length = bs.length
  | [] => rfl
  | _ :: r => by simp [SBs, SBs_length r]
def rnSB (τ : Nat → Nat) : SB → Option (Nat × List (List AV))
  | .no => none
  | .many k els => some (k, els)
  | .one k cs => some (k, [rnL τ cs])
  | .xs k rows => some (k, rows.map (rnL τ))
def rnSBs (τ : Nat → Nat) : List SB → St
  | [] => []
  | x :: r => rnSB τ x :: rnSBs τ r
def setsB (τ : Nat → Nat) : St → List Nat → List SB → St
  | st, l :: L, b :: bs => setsB τ (st.set l (rnSB τ b)) L bs
  | st, _, _ => st
def afterL (τ : Nat → Nat) : List Nat → List SB → St
  | _ :: L, _ :: bs => afterL τ L bs
  | _, bs => rnSBs τ bs
def unfr (L : List Nat) (st : St) (bs : List SB) : St := setsB (tau L st.length) st L bs ++ afterL (tau L st.length) L bs
theorem Imm.rn {τ : Nat → Nat} {x : AV} (h : Imm x) : rn τ x = x := by
  induction h with
  | any => rfl
  | lit v => rfl
  | isl k e => rfl
  | ipt k e i j => rfl
  | agg cs _ ih => rw [Go.Proofs.YtdhpdpkcfffpiaaGreat.rn, rnL_map]; congr 1; conv => rhs; rw [← List.map_id cs]
                   exact List.map_congr_left ih
  | tup cs _ ih => rw [Go.Proofs.YtdhpdpkcfffpiaaGreat.rn, rnL_map]; congr 1; conv => rhs; rw [← List.map_id cs]
                   exact List.map_congr_left ih
  | fn f cs ds _ _ ih ih' =>
    rw [Go.Proofs.YtdhpdpkcfffpiaaGreat.rn, rnL_map, rnL_map]
    congr 1
    · conv => rhs; rw [← List.map_id cs]
      exact List.map_congr_left ih
    · conv => rhs; rw [← List.map_id ds]
      exact List.map_congr_left ih'
theorem rnSB_eq {τ : Nat → Nat} {b : SB} (h : b.ok) : rnSB τ b = rnBlk τ b.b := by
  cases b with
  | no => rfl
  | one k cs => rfl
  | xs k rows => rfl
  | many k els =>
    show some (k, els) = some (k, rnRows τ els)
    congr 2
    unfold rnRows
    conv => lhs; rw [← List.map_id els]
    refine List.map_congr_left fun r hr => ?_
    rw [rnL_map]
    conv => lhs; rw [← List.map_id (id r)]
    exact List.map_congr_left fun x hx => ((h r hr x hx).rn).symm
theorem rnSBs_eq {τ : Nat → Nat} : ∀ {bs : List SB}, SBok bs → rnSBs τ bs = (SBs bs).map (rnBlk τ)
  | [], _ => rfl
  | b :: bs, h => by rw [rnSBs, SBs, List.map_cons, rnSB_eq h.1, rnSBs_eq h.2]
theorem setsB_eq {τ : Nat → Nat} : ∀ {L : List Nat} {st : St} {bs : List SB}, SBok bs → setsB τ st L bs = setsAt τ st L ((SBs bs).take L.length)
  | [], st, bs, _ => by cases bs <;> rfl
  | l :: L, st, [], _ => rfl
  | l :: L, st, b :: bs, h => by
    rw [setsB, SBs, List.length_cons, List.take_succ_cons, setsAt, rnSB_eq h.1]
    exact setsB_eq h.2
theorem afterL_eq {τ : Nat → Nat} : ∀ {L : List Nat} {bs : List SB}, SBok bs → afterL τ L bs = ((SBs bs).drop L.length).map (rnBlk τ)
  | [], bs, h => by unfold afterL; exact rnSBs_eq h
  | l :: L, [], _ => by simp [afterL, rnSBs, SBs]
  | l :: L, b :: bs, h => by
    rw [afterL, SBs, List.length_cons, List.drop_succ_cons]
    exact afterL_eq h.2
theorem unfr_eq {L : List Nat} {st : St} {bs : List SB} (h : SBok bs) : unfr L st bs = unframe L st (SBs bs) := by
  unfold unfr unframe; rw [setsB_eq h, afterL_eq h]
def nodupB : List Nat → Bool
  | [] => true
  | x :: l => (!memN x l) && nodupB l
theorem nodupB_iff : ∀ {l : List Nat}, nodupB l = true → l.Nodup
  | [], _ => List.nodup_nil
  | x :: l, h => by
    simp only [nodupB, Bool.and_eq_true, Bool.not_eq_true'] at h
    refine List.nodup_cons.2 ⟨fun hm => ?_, nodupB_iff h.2⟩
    rw [memN_iff.2 hm] at h
    cases h.1
def allLt (k : Nat) : List Nat → Bool
  | [] => true
  | x :: l => Nat.blt x k && allLt k l
theorem allLt_iff {k : Nat} : ∀ {l : List Nat}, allLt k l = true → ∀ x ∈ l, x < k
  | [], _, x, h => by cases h
  | y :: l, h, x, hx => by
    simp only [allLt, Bool.and_eq_true] at h
    rcases List.mem_cons.1 hx with rfl | hx
    · exact Nat.le_of_ble_eq_true h.1
    · exact allLt_iff h.2 x hx
section
variable {P : Program} {env : Ev} {st : St} {K : Ev → St → Prop} {d : Nat} {ty : TypeId} {pos : String} {aft : Array Edge} {gu : Option (Nat × Bool)}
theorem o_any {op : Op} {av : AV} {st' : St} (hc : isCall op = false) (h : aop P env st op = some (av, st')) (k : K ((d, av) :: env) st') : SOp P ⟨some d, op, ty, pos, aft, gu⟩ env st K := by
  unfold SOp; simp only [hc, h]; exact k
theorem o_no {op : Op} {av : AV} {st' : St} (hc : isCall op = false) (h : aop P env st op = some (av, st')) (k : K env st') : SOp P ⟨none, op, ty, pos, aft, gu⟩ env st K := by
  unfold SOp; simp only [hc, h]; exact k
theorem mv {x : Operand} {v : AV} (hx : ev env x = some v) (k : K ((d, v) :: env) st) : SOp P ⟨some d, .move x, ty, pos, aft, gu⟩ env st K := o_any rfl (by simp [aop, hx]) k
theorem asg {x : Operand} {v : AV} (hx : ev env x = some v) (k : K ((d, v) :: env) st) : SOp P ⟨some d, .assign x, ty, pos, aft, gu⟩ env st K := o_any rfl (by simp [aop, hx]) k
theorem bn {o : BinOp} {t u : TypeId} {x y : Operand} {ti : TI} {a b v : AV} (ht : tiOf P t = some ti) (hx : ev env x = some a) (hy : ev env y = some b) (h : abin ti.k o a b = some v) (k : K ((d, v) :: env) st) :
    SOp P ⟨some d, .binOp o t x y u, ty, pos, aft, gu⟩ env st K := o_any rfl (by simp [aop, ht, hx, hy, h]) k
theorem lss {t u : TypeId} {x y : Operand} {ti : TI} {kk : IntKind} {a b : Int} (ht : tiOf P t = some ti) (hx : ev env x = some (.lit (.int kk a))) (hy : ev env y = some (.lit (.int kk b))) (k : K ((d, .lit (.bool (decide (a < b)))) :: env) st) :
    SOp P ⟨some d, .binOp .lss t x y u, ty, pos, aft, gu⟩ env st K := bn ht hx hy (by simp [abin, shI, cmpI]) k
theorem leq {t u : TypeId} {x y : Operand} {ti : TI} {kk : IntKind} {a b : Int} (ht : tiOf P t = some ti) (hx : ev env x = some (.lit (.int kk a))) (hy : ev env y = some (.lit (.int kk b))) (k : K ((d, .lit (.bool (decide (a ≤ b)))) :: env) st) :
    SOp P ⟨some d, .binOp .leq t x y u, ty, pos, aft, gu⟩ env st K := bn ht hx hy (by simp [abin, shI, cmpI]) k
theorem gtr {t u : TypeId} {x y : Operand} {ti : TI} {kk : IntKind} {a b : Int} (ht : tiOf P t = some ti) (hx : ev env x = some (.lit (.int kk a))) (hy : ev env y = some (.lit (.int kk b))) (k : K ((d, .lit (.bool (decide (b < a)))) :: env) st) :
    SOp P ⟨some d, .binOp .gtr t x y u, ty, pos, aft, gu⟩ env st K := bn ht hx hy (by simp [abin, shI, cmpI]) k
theorem geq {t u : TypeId} {x y : Operand} {ti : TI} {kk : IntKind} {a b : Int} (ht : tiOf P t = some ti) (hx : ev env x = some (.lit (.int kk a))) (hy : ev env y = some (.lit (.int kk b))) (k : K ((d, .lit (.bool (decide (b ≤ a)))) :: env) st) :
    SOp P ⟨some d, .binOp .geq t x y u, ty, pos, aft, gu⟩ env st K := bn ht hx hy (by simp [abin, shI, cmpI]) k
theorem eql {t u : TypeId} {x y : Operand} {ti : TI} {kk : IntKind} {a b : Int} (ht : tiOf P t = some ti) (hx : ev env x = some (.lit (.int kk a))) (hy : ev env y = some (.lit (.int kk b))) (k : K ((d, .lit (.bool (a == b))) :: env) st) :
    SOp P ⟨some d, .binOp .eql t x y u, ty, pos, aft, gu⟩ env st K := bn ht hx hy (by simp [abin, shI, cmpI]) k
theorem neq {t u : TypeId} {x y : Operand} {ti : TI} {kk : IntKind} {a b : Int} (ht : tiOf P t = some ti) (hx : ev env x = some (.lit (.int kk a))) (hy : ev env y = some (.lit (.int kk b))) (k : K ((d, .lit (.bool (!(a == b)))) :: env) st) :
    SOp P ⟨some d, .binOp .neq t x y u, ty, pos, aft, gu⟩ env st K := bn ht hx hy (by simp [abin, shI, cmpI, bne]) k
theorem add {t u : TypeId} {x y : Operand} {ti : TI} {kk : IntKind} {a b : Int} (ht : tiOf P t = some ti) (hx : ev env x = some (.lit (.int kk a))) (hy : ev env y = some (.lit (.int kk b))) (k : K ((d, .lit (.int kk (kk.wrap (a + b)))) :: env) st) :
    SOp P ⟨some d, .binOp .add t x y u, ty, pos, aft, gu⟩ env st K := bn ht hx hy (by simp [abin, shI, cmpI, arI]) k
theorem sub {t u : TypeId} {x y : Operand} {ti : TI} {kk : IntKind} {a b : Int} (ht : tiOf P t = some ti) (hx : ev env x = some (.lit (.int kk a))) (hy : ev env y = some (.lit (.int kk b))) (k : K ((d, .lit (.int kk (kk.wrap (a - b)))) :: env) st) :
    SOp P ⟨some d, .binOp .sub t x y u, ty, pos, aft, gu⟩ env st K := bn ht hx hy (by simp [abin, shI, cmpI, arI]) k
theorem mul {t u : TypeId} {x y : Operand} {ti : TI} {kk : IntKind} {a b : Int} (ht : tiOf P t = some ti) (hx : ev env x = some (.lit (.int kk a))) (hy : ev env y = some (.lit (.int kk b))) (k : K ((d, .lit (.int kk (kk.wrap (a * b)))) :: env) st) :
    SOp P ⟨some d, .binOp .mul t x y u, ty, pos, aft, gu⟩ env st K := bn ht hx hy (by simp [abin, shI, cmpI, arI]) k
theorem arb {o : BinOp} {t u : TypeId} {x y : Operand} {ti : TI} {kk kb : IntKind} {a b r : Int} (ht : tiOf P t = some ti) (hx : ev env x = some (.lit (.int kk a))) (hy : ev env y = some (.lit (.int kb b)))
    (h : (shI kk o a b = some r) ∨ (shI kk o a b = none ∧ kk = kb ∧ cmpI o a b = none ∧ arI kk o a b = some r)) (k : K ((d, .lit (.int kk r)) :: env) st) : SOp P ⟨some d, .binOp o t x y u, ty, pos, aft, gu⟩ env st K :=
  bn ht hx hy (by rcases h with h | ⟨h1, rfl, h2, h3⟩ <;> simp [abin, *]) k
theorem quo {t u : TypeId} {x y : Operand} {ti : TI} {kk : IntKind} {a b r : Int} (ht : tiOf P t = some ti) (hx : ev env x = some (.lit (.int kk a))) (hy : ev env y = some (.lit (.int kk b))) (h : quoP kk a b = some r) (k : K ((d, .lit (.int kk r)) :: env) st) :
    SOp P ⟨some d, .binOp .quo t x y u, ty, pos, aft, gu⟩ env st K := arb ht hx hy (.inr ⟨rfl, rfl, rfl, h⟩) k
theorem rem {t u : TypeId} {x y : Operand} {ti : TI} {kk : IntKind} {a b r : Int} (ht : tiOf P t = some ti) (hx : ev env x = some (.lit (.int kk a))) (hy : ev env y = some (.lit (.int kk b))) (h : remP a b = some r) (k : K ((d, .lit (.int kk r)) :: env) st) :
    SOp P ⟨some d, .binOp .rem t x y u, ty, pos, aft, gu⟩ env st K := arb ht hx hy (.inr ⟨rfl, rfl, rfl, h⟩) k
theorem shl {t u : TypeId} {x y : Operand} {ti : TI} {kk kb : IntKind} {a b r : Int} (ht : tiOf P t = some ti) (hx : ev env x = some (.lit (.int kk a))) (hy : ev env y = some (.lit (.int kb b))) (h : shlP kk a b = some r) (k : K ((d, .lit (.int kk r)) :: env) st) :
    SOp P ⟨some d, .binOp .shl t x y u, ty, pos, aft, gu⟩ env st K := arb ht hx hy (.inl h) k
theorem shr {t u : TypeId} {x y : Operand} {ti : TI} {kk kb : IntKind} {a b r : Int} (ht : tiOf P t = some ti) (hx : ev env x = some (.lit (.int kk a))) (hy : ev env y = some (.lit (.int kb b))) (h : shrP kk a b = some r) (k : K ((d, .lit (.int kk r)) :: env) st) :
    SOp P ⟨some d, .binOp .shr t x y u, ty, pos, aft, gu⟩ env st K := arb ht hx hy (.inl h) k
theorem seq {t u : TypeId} {x y : Operand} {ti : TI} {a b : List UInt8} (ht : tiOf P t = some ti) (hx : ev env x = some (.lit (.string (B a)))) (hy : ev env y = some (.lit (.string (B b)))) (k : K ((d, .lit (.bool (a == b))) :: env) st) :
    SOp P ⟨some d, .binOp .eql t x y u, ty, pos, aft, gu⟩ env st K := bn ht hx hy rfl k
theorem sne {t u : TypeId} {x y : Operand} {ti : TI} {a b : List UInt8} (ht : tiOf P t = some ti) (hx : ev env x = some (.lit (.string (B a)))) (hy : ev env y = some (.lit (.string (B b)))) (k : K ((d, .lit (.bool (!(a == b)))) :: env) st) :
    SOp P ⟨some d, .binOp .neq t x y u, ty, pos, aft, gu⟩ env st K := bn ht hx hy rfl k
theorem scat {t u : TypeId} {x y : Operand} {ti : TI} {a b r : List UInt8} (ht : tiOf P t = some ti) (hx : ev env x = some (.lit (.string (B a)))) (hy : ev env y = some (.lit (.string (B b)))) (h : catP a b = some r) (k : K ((d, .lit (.string (B r))) :: env) st) :
    SOp P ⟨some d, .binOp .add t x y u, ty, pos, aft, gu⟩ env st K := bn ht hx hy (by
      unfold catP at h
      split at h
      · rename_i h1; cases h; simp [abin, strB, h1]
      · cases h) k
theorem beq {t u : TypeId} {x y : Operand} {ti : TI} {a b : Bool} (ht : tiOf P t = some ti) (hk : ti.k = .bool) (hx : ev env x = some (.lit (.bool a))) (hy : ev env y = some (.lit (.bool b))) (k : K ((d, .lit (.bool (a == b))) :: env) st) :
    SOp P ⟨some d, .binOp .eql t x y u, ty, pos, aft, gu⟩ env st K := bn ht hx hy (by rw [hk]; rfl) k
theorem bne {t u : TypeId} {x y : Operand} {ti : TI} {a b : Bool} (ht : tiOf P t = some ti) (hk : ti.k = .bool) (hx : ev env x = some (.lit (.bool a))) (hy : ev env y = some (.lit (.bool b))) (k : K ((d, .lit (.bool (!(a == b)))) :: env) st) :
    SOp P ⟨some d, .binOp .neq t x y u, ty, pos, aft, gu⟩ env st K := bn ht hx hy (by rw [hk]; rfl) k
theorem agn {t u : TypeId} {x y : Operand} {ti : TI} {cs ds : List AV} {l : List (Nat × EK)} {b : Bool} (ht : tiOf P t = some ti) (hs : eqSpec P t = some l) (hx : ev env x = some (.agg cs)) (hy : ev env y = some (.agg ds)) (h : eqParts cs ds l = some b) (k : K ((d, .lit (.bool (!b))) :: env) st) :
    SOp P ⟨some d, .binOp .neq t x y u, ty, pos, aft, gu⟩ env st K := o_any rfl (by simp [aop, ht, hx, hy, abin, aeq, hs, h]) k
theorem eqnn {t u e : TypeId} {x y : Operand} {ti : TI} (ht : tiOf P t = some ti) (hk : ti.k = .slc e) (hx : ev env x = some (.lit (.slice none 0 0))) (hy : ev env y = some (.lit (.slice none 0 0))) (k : K ((d, .lit (.bool true)) :: env) st) :
    SOp P ⟨some d, .binOp .eql t x y u, ty, pos, aft, gu⟩ env st K := o_any rfl (by simp [aop, ht, hx, hy, hk, abin, aeq, anil]) k
theorem eqnm {t u e : TypeId} {x y : Operand} {ti : TI} {l i n : Nat} (ht : tiOf P t = some ti) (hk : ti.k = .slc e) (hx : ev env x = some (.msl l i n)) (hy : ev env y = some (.lit (.slice none 0 0))) (hl : alive st (.mpt l 0 0) = true) (hn : 0 < n) (k : K ((d, .lit (.bool false)) :: env) st) :
    SOp P ⟨some d, .binOp .eql t x y u, ty, pos, aft, gu⟩ env st K := o_any rfl (by
      simp only [alive] at hl
      cases hq : st[l]? with
      | none => rw [hq] at hl; cases hl
      | some b =>
        cases b with
        | none => rw [hq] at hl; cases hl
        | some b => simp [aop, ht, hx, hy, hk, abin, aeq, anil, hq, hn]) k
theorem nt {t : TypeId} {x : Operand} {b : Bool} (hx : ev env x = some (.lit (.bool b))) (k : K ((d, .lit (.bool (!b))) :: env) st) : SOp P ⟨some d, .unOp .not t x, ty, pos, aft, gu⟩ env st K := o_any rfl (by simp [aop, hx, aun]) k
theorem pk {c x y : Operand} {b : Bool} {v : AV} (hc : ev env c = some (.lit (.bool b))) (h : (match b with | true => ev env x | false => ev env y) = some v) (k : K ((d, v) :: env) st) : SOp P ⟨some d, .pick c x y, ty, pos, aft, gu⟩ env st K := o_any rfl (by cases b <;> simp at h <;> simp [aop, hc, h]) k
theorem cvi {s t : TypeId} {x : Operand} {si ti : TI} {kk kd : IntKind} {n : Int} (hs : tiOf P s = some si) (ht : tiOf P t = some ti) (h1 : si.k = .int kk) (h2 : ti.k = .int kd) (hx : ev env x = some (.lit (.int kk n))) (k : K ((d, .lit (.int kd (kd.wrap n))) :: env) st) :
    SOp P ⟨some d, .convert s t x, ty, pos, aft, gu⟩ env st K := o_any rfl (by simp [aop, hs, ht, hx, h1, h2, elemT, aconv]) k
theorem bytesOf_map' : ∀ l : List UInt8, bytesOf (l.map byteRow) = some l
  | [] => rfl
  | b :: l => by
    rw [List.map_cons, bytesOf, bytesOf_map' l]
    have : rowByte (byteRow b) = some b := by
      unfold byteRow rowByte
      have e : UInt8.ofNat ((b.toNat : Int).toNat) = b := by simp
      simp only [e, if_true]
    rw [this]
theorem cvt {s t e : TypeId} {x : Operand} {si ti ei : TI} {v : AV} {l : List UInt8} (hs : tiOf P s = some si) (ht : tiOf P t = some ti) (h1 : si.k = .slc e) (h2 : ti.k = .str) (he : tiOf P e = some ei) (h3 : ei.k = .int .u8) (hx : ev env x = some v)
    (hv : ∀ y, v ≠ .lit (.string y)) (hr : rowsOf st 1 v = some (l.map byteRow)) (k : K ((d, .lit (.string (B l))) :: env) st) : SOp P ⟨some d, .convert s t x, ty, pos, aft, gu⟩ env st K := o_any rfl (by
      simp only [aop, hs, ht, hx, h1, h2, elemT, he, h3]
      cases v with
      | lit y =>
        cases y with
        | string y => exact absurd rfl (hv y)
        | _ => simp [aconv, hr, bytesOf_map']
      | _ => simp [aconv, hr, bytesOf_map']) k
theorem cvl {s e : TypeId} {x : Operand} {si ei : TI} {l i n : Nat} {els : List (List AV)} (hs : tiOf P s = some si) (h1 : si.k = .slc e) (he : tiOf P e = some ei) (h3 : ei.k = .int .u8) (hx : ev env x = some (.msl l i n)) (hn : Nat.blt 0 n = true) (hb : st[l]? = some (some (1, els)))
    (k : K ((d, .msl l i n) :: env) st) : SOp P ⟨some d, .convert s s x, ty, pos, aft, gu⟩ env st K := o_any rfl (by
      have hn' : 0 < n := by rw [Nat.blt_eq] at hn; exact hn
      simp [aop, hs, hx, h1, elemT, he, h3, aconv, acvl, hn', hb]) k
theorem ex {x : Operand} {i : Nat} {vs : List AV} {v : AV} (hx : ev env x = some (.tup vs)) (h : vs[i]? = some v) (k : K ((d, v) :: env) st) : SOp P ⟨some d, .extract x i, ty, pos, aft, gu⟩ env st K := o_any rfl (by simp [aop, hx, h]) k
theorem al {t : TypeId} {ti : TI} (nn : Nat) (ht : tiOf P t = some ti) (hn : st.length = nn) (k : K ((d, .mpt nn 0 0) :: env) (st ++ [some (ti.size, [litCells ti.zero])])) : SOp P ⟨some d, .alloc t, ty, pos, aft, gu⟩ env st K := o_any rfl (by simp [aop, ht, hn]) k
theorem bx {t : TypeId} {x : Operand} {v : AV} {cs : List AV} (nn kk : Nat) (hx : ev env x = some v) (hc : cellsA v = some cs) (hl : cs.length = kk) (hn : st.length = nn) (k : K ((d, .mpt nn 0 0) :: env) (st ++ [some (kk, [cs])])) :
    SOp P ⟨some d, .box t x, ty, pos, aft, gu⟩ env st K := o_any rfl (by simp [aop, hx, hc, hn, hl]) k
theorem ld {t : TypeId} {x : Operand} {ti : TI} {p v : AV} (ht : tiOf P t = some ti) (hx : ev env x = some p) (h : aload st ti p = some v) (k : K ((d, v) :: env) st) : SOp P ⟨some d, .load t x, ty, pos, aft, gu⟩ env st K := o_any rfl (by simp [aop, ht, hx, h]) k
theorem sto {t : TypeId} {x y : Operand} {ti : TI} {p v : AV} {st' : St} (ht : tiOf P t = some ti) (hx : ev env x = some p) (hy : ev env y = some v) (h : astore st ti p v = some st') (k : K env st') : SOp P ⟨none, .store t x y, ty, pos, aft, gu⟩ env st K := o_no (av := .lit undef) rfl (by simp [aop, ht, hx, hy, h]) k
theorem fa {t : TypeId} {x : Operand} {f : Nat} {ti : TI} {p v : AV} (ht : tiOf P t = some ti) (hx : ev env x = some p) (hl : alive st p = true) (h : afield ti p f = some v) (k : K ((d, v) :: env) st) : SOp P ⟨some d, .fieldAddr t x f, ty, pos, aft, gu⟩ env st K := o_any rfl (by simp [aop, ht, hx, hl, h]) k
theorem nc {x : Operand} {p : AV} (hx : ev env x = some p) (hl : alive st p = true) (k : K ((d, p) :: env) st) : SOp P ⟨some d, .nilCheck x, ty, pos, aft, gu⟩ env st K := o_any rfl (by simp [aop, hx, hl]) k
theorem mf {f : FuncId} {a b : Array Operand} {ax bx : List AV} (ha : evList env a.toList = some ax) (hb : evList env b.toList = some bx) (k : K ((d, .fn (.func f) ax bx) :: env) st) : SOp P ⟨some d, .makeFunc (.func f) a b, ty, pos, aft, gu⟩ env st K := o_any rfl (by simp [aop, ha, hb]) k
theorem lnS {x : Operand} {t : TypeId} {ti : TI} {l : List UInt8} (ht : tiOf P t = some ti) (hk : ti.k = .str) (hx : ev env x = some (.lit (.string (B l)))) (k : K ((d, .lit (.int .i64 (l.length : Nat))) :: env) st) :
    SOp P ⟨some d, .call ⟨.builtin .len, #[x], #[t]⟩, ty, pos, aft, gu⟩ env st K := o_any rfl (by simp [aop, abuiltin, alenOp, ht, hk, hx]) k
theorem lnI {α : Type} {x : Operand} {t e : TypeId} {ti : TI} {kk : Nat} {l : List α} {f : α → List AV} (ht : tiOf P t = some ti) (hk : ti.k = .slc e) (hx : ev env x = some (.isl kk (l.map f))) (k : K ((d, .lit (.int .i64 (l.length : Nat))) :: env) st) :
    SOp P ⟨some d, .call ⟨.builtin .len, #[x], #[t]⟩, ty, pos, aft, gu⟩ env st K := o_any rfl (by simp [aop, abuiltin, alenOp, ht, hk, hx]) k
theorem lnM {x : Operand} {t e : TypeId} {ti : TI} {l i n : Nat} (ht : tiOf P t = some ti) (hk : ti.k = .slc e) (hx : ev env x = some (.msl l i n)) (hl : alive st (.mpt l 0 0) = true) (k : K ((d, .lit (.int .i64 (n : Nat))) :: env) st) :
    SOp P ⟨some d, .call ⟨.builtin .len, #[x], #[t]⟩, ty, pos, aft, gu⟩ env st K := o_any rfl (by
      simp only [alive] at hl
      cases hq : st[l]? with
      | none => rw [hq] at hl; cases hl
      | some b =>
        cases b with
        | none => rw [hq] at hl; cases hl
        | some b => simp [aop, abuiltin, alenOp, ht, hk, hx, hq]) k
theorem ixS {t : TypeId} {x y : Operand} {ti : TI} {kk : IntKind} {l : List UInt8} {i : Int} {c : UInt8} (ht : tiOf P t = some ti) (hk : ti.k = .str) (hx : ev env x = some (.lit (.string (B l)))) (hy : ev env y = some (.lit (.int kk i))) (h : idx l i = some c)
    (k : K ((d, .lit (.int .u8 (c.toNat : Int))) :: env) st) : SOp P ⟨some d, .index t x y, ty, pos, aft, gu⟩ env st K := o_any rfl (by
      obtain ⟨h0, _, h1⟩ := idx_some h
      simp [aop, ht, hk, hx, hy, strAt, h0, h1]) k
theorem ixI {α : Type} {t e : TypeId} {x y : Operand} {ti te : TI} {kk : IntKind} {sz : Nat} {l : List α} {f : α → List AV} {i : Int} {c : α} (ht : tiOf P t = some ti) (hk : ti.k = .slc e) (he : tiOf P e = some te) (hs : te.size = sz) (hx : ev env x = some (.isl sz (l.map f)))
    (hy : ev env y = some (.lit (.int kk i))) (h : idx l i = some c) (k : K ((d, .ipt sz (l.map f) i.toNat 0) :: env) st) : SOp P ⟨some d, .indexAddr t x y, ty, pos, aft, gu⟩ env st K := o_any rfl (by
      obtain ⟨h0, h2, h1⟩ := idx_some h
      have h3 : i < (l.length : Int) := by omega
      simp [aop, ht, hk, he, hx, hy, aindex, hs, h0, h3]) k
theorem ixM {α : Type} {t e : TypeId} {x y : Operand} {ti te : TI} {kk : IntKind} {sz b : Nat} {l : List α} {f : α → List AV} {i : Int} {c : α} (ht : tiOf P t = some ti) (hk : ti.k = .slc e) (he : tiOf P e = some te) (hs : te.size = sz) (hx : ev env x = some (.msl b 0 l.length))
    (hb : st[b]? = some (some (sz, l.map f))) (hy : ev env y = some (.lit (.int kk i))) (h : idx l i = some c) (k : K ((d, .mpt b i.toNat 0) :: env) st) : SOp P ⟨some d, .indexAddr t x y, ty, pos, aft, gu⟩ env st K := o_any rfl (by
      obtain ⟨h0, h2, h1⟩ := idx_some h
      have h3 : i < (l.length : Int) := by omega
      simp [aop, ht, hk, he, hx, hy, aindex, hs, h0, h3, hb]) k
theorem ixX {t e : TypeId} {x y : Operand} {ti te : TI} {kk : IntKind} {i : Int} {v p : AV} (ht : tiOf P t = some ti) (hk : ti.k = .slc e) (he : tiOf P e = some te) (hx : ev env x = some v)
    (hy : ev env y = some (.lit (.int kk i))) (h : aindex st te.size v i = some p) (k : K ((d, p) :: env) st) : SOp P ⟨some d, .indexAddr t x y, ty, pos, aft, gu⟩ env st K := o_any rfl (by simp [aop, ht, hk, he, hx, hy, h]) k
def rowLd (ti : TI) (r : List AV) (j : Nat) : Option AV :=
  match ti.k.isAgg with
  | some true => if j + ti.size ≤ r.length then some (.agg ((r.drop j).take ti.size)) else none
  | some false => r[j]?
  | none => none
theorem aload_row {ti : TI} {p : AV} {r : List AV} {j : Nat} (h : rowAt st p = some (r, j)) : aload st ti p = rowLd ti r j := by
  unfold aload rowLd
  rw [h]
  cases ti.k.isAgg with
  | none => rfl
  | some b => cases b <;> rfl
theorem ldI {α : Type} {t : TypeId} {x : Operand} {ti : TI} {sz i j : Nat} {l : List α} {f : α → List AV} {c : α} {v : AV} (ht : tiOf P t = some ti) (hx : ev env x = some (.ipt sz (l.map f) i j)) (h : l[i]? = some c) (hv : rowLd ti (f c) j = some v) (k : K ((d, v) :: env) st) :
    SOp P ⟨some d, .load t x, ty, pos, aft, gu⟩ env st K := ld ht hx ((aload_row (by simp [rowAt, h])).trans hv) k
theorem ldM {α : Type} {t : TypeId} {x : Operand} {ti : TI} {sz b i j : Nat} {l : List α} {f : α → List AV} {c : α} {v : AV} (ht : tiOf P t = some ti) (hx : ev env x = some (.mpt b i j)) (hb : st[b]? = some (some (sz, l.map f))) (h : l[i]? = some c) (hv : rowLd ti (f c) j = some v) (k : K ((d, v) :: env) st) :
    SOp P ⟨some d, .load t x, ty, pos, aft, gu⟩ env st K := ld ht hx ((aload_row (by simp [rowAt, hb, h])).trans hv) k
theorem slS {t : TypeId} {x : Operand} {lo hi : Option Operand} {ti : TI} {l r : List UInt8} {a b : Int} (ht : tiOf P t = some ti) (hk : ti.k = .str) (hx : ev env x = some (.lit (.string (B l)))) (hlo : bndOf env 0 lo = some a.toNat) (hhi : bndOf env l.length hi = some b.toNat)
    (h : cutP l a b = some r) (k : K ((d, .lit (.string (B r))) :: env) st) : SOp P ⟨some d, .slice t x lo hi none, ty, pos, aft, gu⟩ env st K := o_any rfl (by
      unfold cutP at h
      split at h
      · rename_i h1
        cases h
        have e : alen (.lit (.string (B l))) = some l.length := rfl
        simp only [aop, ht, hk, hx, e, hlo, hhi]
        rw [if_pos (by omega)]
      · cases h) k
theorem slI {α : Type} {t e : TypeId} {x : Operand} {lo hi : Option Operand} {ti te : TI} {sz : Nat} {l r : List α} {f : α → List AV} {a b : Int} (ht : tiOf P t = some ti) (hk : ti.k = .slc e) (he : tiOf P e = some te) (hs : te.size = sz) (hx : ev env x = some (.isl sz (l.map f)))
    (hlo : bndOf env 0 lo = some a.toNat) (hhi : bndOf env l.length hi = some b.toNat) (h : cutP l a b = some r) (k : K ((d, .isl sz (r.map f)) :: env) st) : SOp P ⟨some d, .slice t x lo hi none, ty, pos, aft, gu⟩ env st K := o_any rfl (by
      unfold cutP at h
      split at h
      · rename_i h1
        cases h
        have e' : alen (.isl sz (l.map f)) = some l.length := by simp [alen]
        simp only [aop, ht, hk, hx, e', he, hlo, hhi, asub]
        rw [if_pos ⟨hs.symm, by omega, by rw [List.length_map]; omega⟩]
        simp [List.map_drop, List.map_take]
      · cases h) k
theorem pc {c : Call} {g : FuncId} {args : List AV} {res : AV} (h : PureC P g args res) (hc : isCall (.call c) = true) (hg : acall env (.call c) = some (g, args)) (hi : immLB args = true) (k : K ((d, res) :: env) st) : SOp P ⟨some d, .call c, ty, pos, aft, gu⟩ env st K := by
  unfold SOp
  simp only [hc, hg]
  exact scall_pure h (immL_of hi) k
theorem pcs {c : Call} {g : FuncId} {args args' : List AV} {res : AV} (h : PureC P g args' res) (hc : isCall (.call c) = true) (hg : acall env (.call c) = some (g, args)) (hs : SealL st args args') (hp : Plain res) (k : K ((d, res) :: env) st) : SOp P ⟨some d, .call c, ty, pos, aft, gu⟩ env st K := by
  unfold SOp
  simp only [hc, hg]
  exact scall_sealp h hp hs k
theorem sc (L : List Nat) {c : Call} {g : FuncId} {args args0 : List AV} {bs0 bs1 : List SB} {av : AV} (h : SC P g args0 bs0 av bs1) (hc : isCall (.call c) = true) (hg : acall env (.call c) = some (g, args)) (hnd : nodupB L = true) (hlt : allLt st.length L = true)
    (ha : RnLs (fun i => L[i]?) args0 args) (hs : InB (fun i => L[i]?) st L bs0) (k : K ((d, rn (tau L st.length) av) :: env) (unfr L st bs1)) : SOp P ⟨some d, .call c, ty, pos, aft, gu⟩ env st K := by
  unfold SOp
  simp only [hc, hg]
  refine scall_frame h.2 L (by rw [SBs_length]; exact hs.at.1) (nodupB_iff hnd) (allLt_iff hlt) ha.get.1 ha.get.2 ⟨fun i l hl => hs.at.2 i l hl, fun i kk els he => ?_, fun i1 i2 x h1 h2 => ?_⟩ ?_
  · have : i < (SBs bs0).length := (List.getElem?_eq_some_iff.1 he).1
    rw [SBs_length, ← hs.at.1] at this
    exact ⟨L[i], List.getElem?_eq_getElem this⟩
  · obtain ⟨l1, e1⟩ := List.getElem?_eq_some_iff.1 h1
    obtain ⟨l2, e2⟩ := List.getElem?_eq_some_iff.1 h2
    exact (List.getElem_inj (nodupB_iff hnd)).1 (e1.trans e2.symm)
  · rintro a s ⟨rfl, rfl⟩
    rw [← unfr_eq h.1]
    exact k
theorem apM {α : Type} {x y : Operand} {t u' e : TypeId} {ti te tu : TI} {e' : TypeId} {sz b w : Nat} {l z r : List α} {f : α → List AV} {v : AV} (nn : Nat) (ht : tiOf P t = some ti) (hk : ti.k = .slc e) (he : tiOf P e = some te) (hs : te.size = sz) (hw : te.bytes = w) (hz : 0 < sz) (hu : tiOf P u' = some tu) (hku : tu.k = .slc e')
    (hx : ev env x = some (.msl b 0 l.length)) (hb : st[b]? = some (some (sz, l.map f))) (hy : ev env y = some v) (hr : rowsOf st sz v = some (z.map f)) (h1 : ∀ x, (f x).all AV.one = true) (hn : st.length = nn) (h : appP w l z = some r)
    (k : K ((d, .msl nn 0 r.length) :: env) (st.set b none ++ [some (sz, r.map f)])) : SOp P ⟨some d, .call ⟨.builtin .append, #[x, y], #[t, u']⟩, ty, pos, aft, gu⟩ env st K := o_any rfl (by
      obtain ⟨rfl, h2, h3⟩ := appP_some h
      have h4 : allOne (z.map f) = true := by unfold allOne; rw [List.all_map]; simp [h1]
      have hbo : baseOf st sz (.msl b 0 l.length) = some (l.map f, st.set b none) := by simp [baseOf, hb, take_map_full]
      simp only [aop, abuiltin, aappOp, ht, hx, hy, hu, hk, he, hs, hbo, hku, hr]
      rw [if_pos ⟨hz, h4, by simpa [hw] using h2, by simpa using h3⟩]
      simp [hn]) k
theorem apN {α : Type} {x y : Operand} {t u' e : TypeId} {ti te tu : TI} {e' : TypeId} {sz w : Nat} {z r : List α} {f : α → List AV} {v : AV} (nn : Nat) (ht : tiOf P t = some ti) (hk : ti.k = .slc e) (he : tiOf P e = some te) (hs : te.size = sz) (hw : te.bytes = w) (hz : 0 < sz) (hu : tiOf P u' = some tu) (hku : tu.k = .slc e')
    (hx : ev env x = some (.lit (.slice none 0 0))) (hy : ev env y = some v) (hr : rowsOf st sz v = some (z.map f)) (h1 : ∀ x, (f x).all AV.one = true) (hn : st.length = nn) (h : appP w [] z = some r)
    (k : K ((d, .msl nn 0 r.length) :: env) (st ++ [some (sz, r.map f)])) : SOp P ⟨some d, .call ⟨.builtin .append, #[x, y], #[t, u']⟩, ty, pos, aft, gu⟩ env st K := o_any rfl (by
      obtain ⟨hq, h2, h3⟩ := appP_some h
      have hq' : z = r := by simpa using hq.symm
      subst hq'
      have h4 : allOne (z.map f) = true := by unfold allOne; rw [List.all_map]; simp [h1]
      simp only [aop, abuiltin, aappOp, ht, hx, hy, hu, hk, he, hs, baseOf, hku, hr]
      rw [if_pos ⟨hz, h4, by simpa [hw] using h2, by simpa using h3⟩]
      simp [hn]) k
theorem apMS {x y : Operand} {t u' e : TypeId} {ti te tu : TI} {b : Nat} {l z r : List UInt8} (nn : Nat) (ht : tiOf P t = some ti) (hk : ti.k = .slc e) (he : tiOf P e = some te) (hs : te.size = 1) (hw : te.bytes = 1) (hu : tiOf P u' = some tu) (hku : tu.k = .str)
    (hx : ev env x = some (.msl b 0 l.length)) (hb : st[b]? = some (some (1, l.map byteRow))) (hy : ev env y = some (.lit (.string (B z)))) (hn : st.length = nn) (h : appP 1 l z = some r)
    (k : K ((d, .msl nn 0 r.length) :: env) (st.set b none ++ [some (1, r.map byteRow)])) : SOp P ⟨some d, .call ⟨.builtin .append, #[x, y], #[t, u']⟩, ty, pos, aft, gu⟩ env st K := o_any rfl (by
      obtain ⟨rfl, h2, h3⟩ := appP_some h
      have hbo : baseOf st 1 (.msl b 0 l.length) = some (l.map byteRow, st.set b none) := by simp [baseOf, hb, take_map_full]
      simp only [aop, abuiltin, aappOp, ht, hx, hy, hu, hk, he, hs, hbo, hku]
      rw [if_pos ⟨trivial, by simpa [hw] using h2, by simpa using h3⟩]
      simp [hn]) k
theorem roI {α : Type} {sz : Nat} {z : List α} {f : α → List AV} : rowsOf st sz (.isl sz (z.map f)) = some (z.map f) := by simp [rowsOf]
theorem roM {α : Type} {sz b : Nat} {z : List α} {f : α → List AV} (hb : st[b]? = some (some (sz, z.map f))) : rowsOf st sz (.msl b 0 z.length) = some (z.map f) := by simp [rowsOf, hb, take_map_full]
theorem bd {t : TypeId} {ps : Array (Nat × Operand)} {ti : TI} {pl : List (Nat × Nat)} {parts : List (Nat × AV)} {cs : List AV} (ht : tiOf P t = some ti) (hk : ti.k = .agg pl) (hp : evParts env ps.toList = some parts) (h : fillA pl (litCells ti.zero) parts = some cs) (k : K ((d, .agg cs) :: env) st) :
    SOp P ⟨some d, .build t ps, ty, pos, aft, gu⟩ env st K := o_any rfl (by simp [aop, ht, hk, hp, h]) k
theorem bl {t e : TypeId} {len : Nat} {ps : Array (Nat × Operand)} {ti te : TI} {parts : List (Nat × AV)} {rows : List (List AV)} {sz : Nat} (nn : Nat) (ht : tiOf P t = some ti) (hk : ti.k = .slc e) (he : tiOf P e = some te) (hs : te.size = sz) (hz : 0 < sz) (hl : len * sz ≤ 16777216) (hp : evParts env ps.toList = some parts)
    (h : fillR sz (List.replicate len (litCells te.zero)) parts = some rows) (hn : st.length = nn) (k : K ((d, .msl nn 0 len) :: env) (st ++ [some (sz, rows)])) : SOp P ⟨some d, .buildSlice t len ps, ty, pos, aft, gu⟩ env st K := o_any rfl (by
      simp only [aop, ht, hk, he, hp, hs, h]
      rw [if_pos ⟨hz, hl⟩]
      simp [hn]) k
end
theorem ci {st : St} {L : SrcL} {v : AV} (h : immB v = true) : Rs st L v v := .imm (immB_imm h)
theorem ce {st : St} {L : SrcL} {t : Nat} {v : AV} {e0 env : Ev} (h1 : look env t = some v) (h2 : immB v = true) (r : EnvRs st L e0 env) : EnvRs st L ((t, v) :: e0) env := ⟨⟨v, h1, ci h2⟩, r⟩
theorem cv {st : St} {L : SrcL} {t : Nat} {v0 v : AV} {e0 env : Ev} (h1 : look env t = some v) (h2 : Rs st L v0 v) (r : EnvRs st L e0 env) : EnvRs st L ((t, v0) :: e0) env := ⟨⟨v, h1, h2⟩, r⟩
theorem cn {st : St} {L : SrcL} {env : Ev} : EnvRs st L [] env := trivial
theorem rsMap {α : Type} {st : St} {L : SrcL} {l : List α} {f : α → List AV} (h : ∀ x, immLB (f x) = true) : RsRows st L (l.map f) (l.map f) :=
  ⟨rfl, fun i hi _ => ⟨rfl, fun j hj _ => .imm (by
    obtain ⟨y, _, hy⟩ := List.mem_map.1 (List.getElem_mem hi)
    have := (immL_of (h y)).mem
    rw [hy] at this
    exact this _ (List.getElem_mem hj))⟩⟩
def RsLs (st : St) (L : SrcL) : List AV → List AV → Prop
  | [], [] => True
  | x :: l, y :: r => Rs st L x y ∧ RsLs st L l r
  | _, _ => False
theorem RsLs.get {st : St} {L : SrcL} : ∀ {l r : List AV}, RsLs st L l r → l.length = r.length ∧ ∀ i (h : i < l.length) (h' : i < r.length), Rs st L l[i] r[i]
  | [], [], _ => ⟨rfl, fun i h => by cases h⟩
  | [], _ :: _, h => h.elim
  | _ :: _, [], h => h.elim
  | x :: l, y :: r, h => by
    obtain ⟨h1, h2⟩ := RsLs.get h.2
    refine ⟨by simp [h1], fun i hi hi' => ?_⟩
    cases i with
    | zero => exact h.1
    | succ i => exact h2 i (by simpa using hi) (by simpa using hi')
def RsRowsL (st : St) (L : SrcL) : List (List AV) → List (List AV) → Prop
  | [], [] => True
  | x :: l, y :: r => RsLs st L x y ∧ RsRowsL st L l r
  | _, _ => False
theorem rsOne {st : St} {L : SrcL} {r0 r : List AV} (h : RsLs st L r0 r) : RsRows st L [r0] [r] :=
  ⟨rfl, fun i hi _ => by
    have : i = 0 := by simp at hi; exact hi
    subst this
    exact ⟨h.get.1, fun j h1 h2 => h.get.2 j h1 h2⟩⟩
theorem rsRows {st : St} {L : SrcL} : ∀ {l r : List (List AV)}, RsRowsL st L l r → RsRows st L l r
  | [], [], _ => ⟨rfl, fun i h => by cases h⟩
  | [], _ :: _, h => h.elim
  | _ :: _, [], h => h.elim
  | x :: l, y :: r, h => by
    obtain ⟨h1, h2⟩ := rsRows h.2
    refine ⟨by simp [h1], fun i hi hi' => ?_⟩
    cases i with
    | zero => exact ⟨h.1.get.1, fun j a b => h.1.get.2 j a b⟩
    | succ i => exact h2 i (by simpa using hi) (by simpa using hi')
theorem rsAgg {st : St} {L : SrcL} {l r : List AV} (h : RsLs st L l r) : Rs st L (.agg l) (.agg r) := .agg h.get.1 h.get.2
theorem rsFn {st : St} {L : SrcL} {f : Fn} {a a' b b' : List AV} (h : RsLs st L a a') (h' : RsLs st L b b') : Rs st L (.fn f a b) (.fn f a' b') := .fn h.get.1 h.get.2 h'.get.1 h'.get.2
theorem rsTup {st : St} {L : SrcL} {l r : List AV} (h : RsLs st L l r) : Rs st L (.tup l) (.tup r) := .tup h.get.1 h.get.2
theorem rsSeal {α : Type} {st : St} {L : SrcL} {b sz : Nat} {l : List α} {f : α → List AV} (hD : kept L b = false) (hb : st[b]? = some (some (sz, l.map f))) (h : ∀ x, immLB (f x) = true) : Rs st L (.isl sz (l.map f)) (.msl b 0 l.length) :=
  .sl hD hb (by simp) (by simp) (fun r hr x hx => by obtain ⟨y, _, rfl⟩ := List.mem_map.1 hr; exact (immL_of (h y)).mem x hx) (fun q _ _ _ => by simp) (fun q _ _ h2 j _ h4 => by
    have : (l.map f)[0 + q]'(by simpa using h2) = (l.map f)[q] := by simp
    simp only [this]
    exact .imm ((immL_of (h l[q])).mem _ (by simp)))
def RsX (st : St) (L : SrcL) : List (List AV) → List (List AV) → Prop
  | [], [] => True
  | r0 :: l, r :: q => (RsLs st L r0 r ∧ immLB r0 = true) ∧ RsX st L l q
  | _, _ => False
theorem RsX.get {st : St} {L : SrcL} : ∀ {l r : List (List AV)}, RsX st L l r → l.length = r.length ∧ ∀ i (h : i < l.length) (h' : i < r.length), RsLs st L l[i] r[i] ∧ immLB l[i] = true
  | [], [], _ => ⟨rfl, fun i h => by cases h⟩
  | [], _ :: _, h => h.elim
  | _ :: _, [], h => h.elim
  | x :: l, y :: r, h => by
    obtain ⟨h1, h2⟩ := RsX.get h.2
    refine ⟨by simp [h1], fun i hi hi' => ?_⟩
    cases i with
    | zero => exact h.1
    | succ i => exact h2 i (by simpa using hi) (by simpa using hi')
theorem rsSealX {st : St} {L : SrcL} {b sz n : Nat} {els els' : List (List AV)} (hD : kept L b = false) (hb : st[b]? = some (some (sz, els))) (h : RsX st L els' els) (hn : els.length = n := by rfl) : Rs st L (.isl sz els') (.msl b 0 n) := by
  subst hn
  refine .sl hD hb (by simp) h.get.1 (fun r hr x hx => ?_) (fun q _ h1 h2 => ?_) (fun q _ h1 h2 j h3 h4 => ?_)
  · obtain ⟨i, hi, rfl⟩ := List.getElem_of_mem hr
    exact (immL_of (h.get.2 i hi (by rw [← h.get.1]; exact hi)).2).mem x hx
  · have := (h.get.2 q h2 (by omega)).1.get.1
    simp only [Nat.zero_add]; exact this.symm
  · have := (h.get.2 q h2 (by omega)).1.get.2 j h4 (by simpa using h3)
    simpa using this
theorem sbOk {α : Type} {sz : Nat} {l : List α} {f : α → List AV} (h : ∀ x, immLB (f x) = true) : (SB.many sz (l.map f)).ok := fun r hr x hx => by
  obtain ⟨y, _, rfl⟩ := List.mem_map.1 hr
  exact (immL_of (h y)).mem x hx
end Go.Proofs.YtdhpdpkcfffpiaaGreat
namespace Go.Proofs.YtdhpdpkcfffpiaaGreat
set_option linter.unusedSimpArgs false
set_option linter.unusedVariables false
set_option linter.unusedSectionVars false
def OW (n nb0 : Nat) (K : Ev → St → Prop) (env : Ev) (st : St) : Prop := ∀ A m w a, nb0 ≤ st.length → R A m w st → Env A m st.length w n env a → Onward A m nb0 w n K a w
theorem ow_intro {n nb0 : Nat} {K : Ev → St → Prop} {env : Ev} {st : St} (h : K env st) : OW n nb0 K env st := fun A m w a h0 hR hE => ⟨A, m, env, st, hR, hE, Step.refl0 _ _ _ _ h0, h⟩
theorem sw_lpl {P : Program} {n nb0 : Nat} {env : Ev} {st : St} {id : Nat} {c : Code} {Q : Exit → Ev → St → Prop} {X B R : Type} (E : X → Ev) (S : X → St) (E' : B → Ev) (S' : B → St) (post : R → Ev → St → Prop) {body : X → Option (Sum X (Sum B R))} {z0 : X} {o : Sum B R}
    (ho : loopP body z0 = some o) (hc : Can nb0 (E z0) (S z0) env st) (round : ∀ z r, body z = some r → SW P n nb0 c (LQ id nb0 E S E' S' post r) (E z) (S z))
    (hb : ∀ b, o = .inl b → OW n nb0 (Q .normal) (E' b) (S' b)) (hr : ∀ r, o = .inr r → ∀ env st, post r env st → Q .ret env st) : SW P n nb0 (.block id (.loop c)) Q env st := by
  obtain ⟨N, hN⟩ := loopP_ex ho
  have key : SW P n nb0 (.block id (.loop c)) (fun e env st => match e with | .normal => ∃ b, o = .inl b ∧ Can nb0 (E' b) (S' b) env st | e => Q e env st) env st := by
    refine sw_block (sw_loop (fun k env st => ∃ z, loopN body k z = some o ∧ Can nb0 (E z) (S z) env st) N ⟨z0, hN, hc⟩ ?_)
    rintro k env st ⟨z, hz, hcan⟩
    cases k with
    | zero => cases hz
    | succ k =>
      unfold loopN at hz
      cases hbz : body z with
      | none => rw [hbz] at hz; cases hz
      | some r =>
        rw [hbz] at hz
        refine sw_can hcan ((round z r hbz).mono fun e env st h => ?_)
        cases e with
        | normal =>
          obtain ⟨z', rfl, h2⟩ := h
          exact ⟨k, Nat.lt_succ_self k, z', hz, h2⟩
        | exit i =>
          obtain ⟨rfl, b, rfl, h2⟩ := h
          simp only [thenQ, blockQ, if_true]
          exact ⟨b, (sm hz).symm, h2⟩
        | ret =>
          obtain ⟨r', rfl, h2⟩ := h
          exact hr r' (sm hz).symm env st h2
        | goto l => exact h.elim
        | panic c => exact h.elim
        | outgrown => exact h.elim
  intro A m w a h0 hR hE
  refine wp_mono (key A m w a h0 hR hE) fun e a' w' ho => ?_
  cases e with
  | normal =>
    obtain ⟨A', m', e', s', k1, k2, k3, b, hob, L, h1, h2, h3, h4, h5⟩ := ho
    have hs := RsSt.of h2 h3
    exact (hb b hob _ _ _ _ h5 (k1.rs hs) (k2.rs k1 hs h1)).trans (k3.rs hs h4 h5)
  | exit i => exact ho
  | ret => exact ho
  | goto l => exact ho
  | panic c => exact ho
  | outgrown => exact ho
def xorI (k : IntKind) (n : Int) : Int := k.wrap (BitVec.ofInt k.bits (if k.signed then -1 else k.max) ^^^ BitVec.ofInt k.bits n).toNat
def andI (k : IntKind) (a b : Int) : Int := k.wrap (BitVec.ofInt k.bits a &&& BitVec.ofInt k.bits b).toNat
def orI (k : IntKind) (a b : Int) : Int := k.wrap (BitVec.ofInt k.bits a ||| BitVec.ofInt k.bits b).toNat
section
variable {P : Program} {env : Ev} {st : St} {K : Ev → St → Prop} {d : Nat} {ty : TypeId} {pos : String} {aft : Array Edge} {gu : Option (Nat × Bool)}
theorem xo {t : TypeId} {x : Operand} {kk : IntKind} {a : Int} (hx : ev env x = some (.lit (.int kk a))) (k : K ((d, .lit (.int kk (xorI kk a))) :: env) st) : SOp P ⟨some d, .unOp .xor t x, ty, pos, aft, gu⟩ env st K := o_any rfl (by simp [aop, hx, aun, xorI]) k
theorem band {t u : TypeId} {x y : Operand} {ti : TI} {kk : IntKind} {a b : Int} (ht : tiOf P t = some ti) (hx : ev env x = some (.lit (.int kk a))) (hy : ev env y = some (.lit (.int kk b))) (k : K ((d, .lit (.int kk (andI kk a b))) :: env) st) :
    SOp P ⟨some d, .binOp .and t x y u, ty, pos, aft, gu⟩ env st K := arb ht hx hy (.inr ⟨rfl, rfl, rfl, rfl⟩) k
theorem bor {t u : TypeId} {x y : Operand} {ti : TI} {kk : IntKind} {a b : Int} (ht : tiOf P t = some ti) (hx : ev env x = some (.lit (.int kk a))) (hy : ev env y = some (.lit (.int kk b))) (k : K ((d, .lit (.int kk (orI kk a b))) :: env) st) :
    SOp P ⟨some d, .binOp .or t x y u, ty, pos, aft, gu⟩ env st K := arb ht hx hy (.inr ⟨rfl, rfl, rfl, rfl⟩) k
def tU8 (n : Int) : UInt8 := UInt8.ofNat (n % 256).toNat
theorem tU8_wrap (n : Int) : IntKind.u8.wrap n = ((tU8 n).toNat : Int) := by
  have e : (tU8 n).toNat = (n % 256).toNat % 256 := by unfold tU8; simp
  rw [e]
  have h1 : 0 ≤ n % 256 := Int.emod_nonneg _ (by decide)
  have h2 : n % 256 < 256 := Int.emod_lt_of_pos _ (by decide)
  have : IntKind.u8.wrap n = n % 256 := by simp [IntKind.wrap, IntKind.bits, IntKind.signed]
  omega
theorem cv8 {s t : TypeId} {x : Operand} {si ti : TI} {kk : IntKind} {n : Int} (hs : tiOf P s = some si) (ht : tiOf P t = some ti) (h1 : si.k = .int kk) (h2 : ti.k = .int .u8) (hx : ev env x = some (.lit (.int kk n))) (k : K ((d, .lit (.int .u8 ((tU8 n).toNat : Int))) :: env) st) :
    SOp P ⟨some d, .convert s t x, ty, pos, aft, gu⟩ env st K := by rw [← tU8_wrap] at k; exact cvi hs ht h1 h2 hx k
theorem band8 {t u : TypeId} {x y : Operand} {ti : TI} {a b : UInt8} (ht : tiOf P t = some ti) (hx : ev env x = some (.lit (.int .u8 (a.toNat : Int)))) (hy : ev env y = some (.lit (.int .u8 (b.toNat : Int)))) (k : K ((d, .lit (.int .u8 ((a &&& b).toNat : Int))) :: env) st) :
    SOp P ⟨some d, .binOp .and t x y u, ty, pos, aft, gu⟩ env st K := by
  refine arb ht hx hy (.inr ⟨rfl, rfl, rfl, ?_⟩) k
  simp only [arI]
  rw [tU8_wrap]
  congr 2
  unfold tU8
  have h1 : (BitVec.ofInt IntKind.u8.bits (a.toNat : Int) &&& BitVec.ofInt IntKind.u8.bits (b.toNat : Int)).toNat = (a &&& b).toNat := by
    have ea : BitVec.ofInt 8 (a.toNat : Int) = a.toBitVec := by apply BitVec.eq_of_toNat_eq; simp
    have eb : BitVec.ofInt 8 (b.toNat : Int) = b.toBitVec := by apply BitVec.eq_of_toNat_eq; simp
    show (BitVec.ofInt 8 (a.toNat : Int) &&& BitVec.ofInt 8 (b.toNat : Int)).toNat = _
    rw [ea, eb]; rfl
  rw [h1]
  have h2 := (a &&& b).toNat_lt
  have : (((a &&& b).toNat : Int) % 256).toNat = (a &&& b).toNat := by omega
  rw [this]; simp
theorem bor8 {t u : TypeId} {x y : Operand} {ti : TI} {a b : UInt8} (ht : tiOf P t = some ti) (hx : ev env x = some (.lit (.int .u8 (a.toNat : Int)))) (hy : ev env y = some (.lit (.int .u8 (b.toNat : Int)))) (k : K ((d, .lit (.int .u8 ((a ||| b).toNat : Int))) :: env) st) :
    SOp P ⟨some d, .binOp .or t x y u, ty, pos, aft, gu⟩ env st K := by
  refine arb ht hx hy (.inr ⟨rfl, rfl, rfl, ?_⟩) k
  simp only [arI]
  rw [tU8_wrap]
  congr 2
  unfold tU8
  have h1 : (BitVec.ofInt IntKind.u8.bits (a.toNat : Int) ||| BitVec.ofInt IntKind.u8.bits (b.toNat : Int)).toNat = (a ||| b).toNat := by
    have ea : BitVec.ofInt 8 (a.toNat : Int) = a.toBitVec := by apply BitVec.eq_of_toNat_eq; simp
    have eb : BitVec.ofInt 8 (b.toNat : Int) = b.toBitVec := by apply BitVec.eq_of_toNat_eq; simp
    show (BitVec.ofInt 8 (a.toNat : Int) ||| BitVec.ofInt 8 (b.toNat : Int)).toNat = _
    rw [ea, eb]; rfl
  rw [h1]
  have h2 := (a ||| b).toNat_lt
  have : (((a ||| b).toNat : Int) % 256).toNat = (a ||| b).toNat := by omega
  rw [this]; simp
theorem roX {α : Type} {sz b n : Nat} {z : List α} {f : α → List AV} (hb : st[b]? = some (some (sz, z.map f))) (hn : n = z.length) : rowsOf st sz (.msl b 0 n) = some (z.map f) := by subst hn; exact roM hb
theorem cut_spec {α : Type} {l r : List α} {a b : Int} (h : cutP l a b = some r) : 0 ≤ a ∧ a ≤ b ∧ b ≤ l.length := by
  unfold cutP at h
  split at h
  · assumption
  · cases h
theorem bnd_lo {α : Type} {l r : List α} {a b : Int} {x : Operand} {k : Nat} (hx : ev env x = some (.lit (.int .i64 a))) (h : cutP l a b = some r) : bndOf env k (some x) = some a.toNat := by
  simp [bndOf, hx, natOf, (cut_spec h).1]
theorem bnd_hi {α : Type} {l r : List α} {a b : Int} {x : Operand} {k : Nat} (hx : ev env x = some (.lit (.int .i64 b))) (h : cutP l a b = some r) : bndOf env k (some x) = some b.toNat := by
  have := cut_spec h
  simp [bndOf, hx, natOf, show 0 ≤ b by omega]
end
theorem si {st : St} {v : AV} (h : immB v = true) : Seal st v v := .imm (immB_imm h)
def SealLs (st : St) : List AV → List AV → Prop
  | [], [] => True
  | x :: l, y :: r => Seal st x y ∧ SealLs st l r
  | _, _ => False
theorem SealLs.get {st : St} : ∀ {l r : List AV}, SealLs st l r → l.length = r.length ∧ ∀ i (h : i < l.length) (h' : i < r.length), Seal st l[i] r[i]
  | [], [], _ => ⟨rfl, fun i h => by cases h⟩
  | [], _ :: _, h => h.elim
  | _ :: _, [], h => h.elim
  | x :: l, y :: r, h => by
    obtain ⟨h1, h2⟩ := SealLs.get h.2
    refine ⟨by simp [h1], fun i hi hi' => ?_⟩
    cases i with
    | zero => exact h.1
    | succ i => exact h2 i (by simpa using hi) (by simpa using hi')
theorem sealM {α : Type} {st : St} {b sz : Nat} {l : List α} {f : α → List AV} (hb : st[b]? = some (some (sz, l.map f))) (h : ∀ x, immLB (f x) = true) : Seal st (.msl b 0 l.length) (.isl sz (l.map f)) :=
  .msl hb (by simp) (by simp) (fun q _ _ _ => by simp) (fun q _ _ h2 j _ h4 => by
    have : (l.map f)[0 + q]'(by simpa using h2) = (l.map f)[q] := by simp
    simp only [this]
    refine .imm ?_
    obtain ⟨y, _, hy⟩ := List.mem_map.1 (List.getElem_mem h2)
    have h6 := (immL_of (h y)).mem
    rw [hy] at h6
    exact h6 _ (List.getElem_mem h4))
def SealX (st : St) : List (List AV) → List (List AV) → Prop
  | [], [] => True
  | x :: l, y :: r => SealLs st x y ∧ SealX st l r
  | _, _ => False
theorem SealX.get {st : St} : ∀ {l r : List (List AV)}, SealX st l r → l.length = r.length ∧ ∀ i (h : i < l.length) (h' : i < r.length), SealLs st l[i] r[i]
  | [], [], _ => ⟨rfl, fun i h => by cases h⟩
  | [], _ :: _, h => h.elim
  | _ :: _, [], h => h.elim
  | x :: l, y :: r, h => by
    obtain ⟨h1, h2⟩ := SealX.get h.2
    refine ⟨by simp [h1], fun i hi hi' => ?_⟩
    cases i with
    | zero => exact h.1
    | succ i => exact h2 i (by simpa using hi) (by simpa using hi')
theorem sealX {st : St} {b sz n : Nat} {els els' : List (List AV)} (hb : st[b]? = some (some (sz, els))) (h : SealX st els els') (hn : els.length = n := by rfl) : Seal st (.msl b 0 n) (.isl sz els') := by
  subst hn
  refine .msl hb (by simp) h.get.1.symm (fun q _ h1 h2 => ?_) (fun q _ h1 h2 j h3 h4 => ?_)
  · have := (h.get.2 q (by omega) h2).get.1
    simp only [Nat.zero_add]; exact this
  · have := (h.get.2 q (by omega) h2).get.2 j (by simpa using h3) h4
    simpa using this
theorem sealBox {st : St} {b k j : Nat} {cs cs' : List AV} (hb : st[b]? = some (some (k, [cs]))) (h : SealLs st cs cs') : Seal st (.mpt b 0 j) (.ipt k [cs'] 0 j) := by
  refine .mpt hb rfl (fun q h1 h2 => ?_) (fun q h1 h2 i h3 h4 => ?_)
  · have : q = 0 := by simp at h1; exact h1
    subst this; exact h.get.1
  · have : q = 0 := by simp at h1; exact h1
    subst this; exact h.get.2 i h3 h4
theorem sealAgg {st : St} {cs cs' : List AV} (h : SealLs st cs cs') : Seal st (.agg cs) (.agg cs') := .agg h.get.1 h.get.2
theorem sealFn {st : St} {f : Fn} {a a' b b' : List AV} (h : SealLs st a a') (h' : SealLs st b b') : Seal st (.fn f a b) (.fn f a' b') := .fn h.get.1 h.get.2 h'.get.1 h'.get.2
mutual
def plB : AV → Bool
  | .any => true
  | .lit _ => true
  | .agg cs => plLB cs
  | .tup cs => plLB cs
  | _ => false
def plLB : List AV → Bool
  | [] => true
  | x :: l => plB x && plLB l
end
inductive PlainL : List AV → Prop
  | nil : PlainL []
  | cons {x l} (h : Plain x) (t : PlainL l) : PlainL (x :: l)
theorem PlainL.mem {l : List AV} (h : PlainL l) : ∀ x ∈ l, Plain x := by
  induction h with
  | nil => exact fun x hx => by cases hx
  | cons h _ ih =>
    intro x hx
    rcases List.mem_cons.1 hx with h1 | h1
    · exact h1 ▸ h
    · exact ih x h1
mutual
theorem plB_of : ∀ {x : AV}, plB x = true → Plain x
  | .any, _ => .any
  | .lit v, _ => .lit v
  | .isl _ _, h => by cases h
  | .ipt _ _ _ _, h => by cases h
  | .msl _ _ _, h => by cases h
  | .mpt _ _ _, h => by cases h
  | .fn _ _ _, h => by cases h
  | .agg cs, h => .agg cs (plLB_of h).mem
  | .tup cs, h => .tup cs (plLB_of h).mem
theorem plLB_of : ∀ {l : List AV}, plLB l = true → PlainL l
  | [], _ => .nil
  | x :: l, h => .cons (plB_of (Bool.and_eq_true_iff.1 h).1) (plLB_of (Bool.and_eq_true_iff.1 h).2)
end
theorem plainB {v : AV} (h : plB v = true := by rfl) : Plain v := plB_of h
theorem mkI {α : Type} {l : List α} {f : α → List AV} (h : ∀ x, immLB (f x) = true) : ∀ r ∈ l.map f, ∀ x ∈ r, Imm x := fun r hr x hx => by
  obtain ⟨y, _, rfl⟩ := List.mem_map.1 hr
  exact (immL_of (h y)).mem x hx
inductive Nl : AV → AV → Prop
  | imm {x} (h : Imm x) : Nl x x
  | nil {k} : Nl (.lit (.slice none 0 0)) (.isl k [])
  | agg {cs cs' : List AV} (hl : cs.length = cs'.length) (hr : ∀ i (h : i < cs.length) (h' : i < cs'.length), Nl cs[i] cs'[i]) : Nl (.agg cs) (.agg cs')
theorem Nl.vi {A : Nat → Prop} {w : World} {x y : AV} (h : Nl x y) : ∀ {v m nb}, V A m nb w x v → VI A w y v := by
  induction h with
  | imm h => exact fun hv => h.vi hv
  | nil => intro v m nb hv; rw [hv.lit_inv]; exact .inil _ _ _
  | agg hl hr ih =>
    intro v m nb hv
    obtain ⟨a, rfl, h1, h2⟩ := hv.agg_inv
    exact .agg _ _ (by omega) fun i hi => ih i (by omega) hi (h2 i (by omega))
def NlL : List AV → List AV → Prop
  | [], [] => True
  | x :: l, y :: r => Nl x y ∧ NlL l r
  | _, _ => False
theorem NlL.get : ∀ {l r : List AV}, NlL l r → l.length = r.length ∧ ∀ i (h : i < l.length) (h' : i < r.length), Nl l[i] r[i]
  | [], [], _ => ⟨rfl, fun i h => by cases h⟩
  | [], _ :: _, h => h.elim
  | _ :: _, [], h => h.elim
  | x :: l, y :: r, h => by
    obtain ⟨h1, h2⟩ := NlL.get h.2
    refine ⟨by simp [h1], fun i hi hi' => ?_⟩
    cases i with
    | zero => exact h.1
    | succ i => exact h2 i (by simpa using hi) (by simpa using hi')
theorem nlN {k : Nat} : Nl (.lit (.slice none 0 0)) (.isl k []) := .nil
theorem pcn {P : Program} {env : Ev} {st : St} {K : Ev → St → Prop} {d : Nat} {ty : TypeId} {pos : String} {aft : Array Edge} {gu : Option (Nat × Bool)} {c : Call} {g : FuncId} {args args' : List AV} {res : AV} (h : PureC P g args' res)
    (hc : isCall (.call c) = true) (hg : acall env (.call c) = some (g, args)) (hi : NlL args args') (k : K ((d, res) :: env) st) : SOp P ⟨some d, .call c, ty, pos, aft, gu⟩ env st K := by
  unfold SOp
  simp only [hc, hg]
  refine ⟨h.1, fun A m w vals hR hv => (h.2 A w vals hR.aLow ⟨by rw [← hi.get.1]; exact hv.1, fun i hi' => (hi.get.2 i (by rw [hi.get.1]; exact hi') hi').vi (hv.2 i (by rw [hi.get.1]; exact hi'))⟩).mono fun e w' ⟨v, he, hg, hvi⟩ => ?_⟩
  obtain ⟨h1, h2⟩ := hR.grow (A' := andNew A w w') hg (fun B hB => .inl hB) (fun B hB => hB)
  exact ⟨v, _, m, st, res, he, h1, h2, .imm hvi, k⟩
theorem rnFn {ρ : Nat → Option Nat} {f : Fn} {a a' b b' : List AV} (h : RnLs ρ a a') (h' : RnLs ρ b b') : Rn ρ (.fn f a b) (.fn f a' b') := .fn h.get.1 h.get.2 h'.get.1 h'.get.2
theorem rnAgg {ρ : Nat → Option Nat} {a a' : List AV} (h : RnLs ρ a a') : Rn ρ (.agg a) (.agg a') := .agg h.get.1 h.get.2
theorem rnI {ρ : Nat → Option Nat} {v : AV} (h : immB v = true) : Rn ρ v v := .imm (immB_imm h)
end Go.Proofs.YtdhpdpkcfffpiaaGreat
namespace Go.Proofs.YtdhpdpkcfffpiaaGreat
set_option linter.unusedSimpArgs false
set_option linter.unusedVariables false
set_option linter.unusedSectionVars false
def waits (all : List Oper) (s i : Nat) : Bool :=
  match all[s]? with
  | some o => o.after.toList.any fun e => Region.binds .any e && Nat.beq e.on i
  | none => false
def pendB (all : List Oper) (i : Nat) : List Nat → Bool
  | [] => true
  | s :: p => (!waits all s i) && pendB all i p
def waitsIn (all : List Oper) (ss p en : List Nat) (i : Nat) : Bool :=
  match all[i]? with
  | some o => o.after.toList.all fun e => !Region.binds .any e || (if memN e.on ss then memN e.on p else memN e.on en)
  | none => false
def closedB (all : List Oper) (ss p en : List Nat) : Bool :=
  (List.range all.length).all fun i => memN i ss || memN i en || !waitsIn all ss p en i
def allIn (p : List Nat) : List Nat → Bool
  | [] => true
  | s :: r => memN s p && allIn p r
def offs (all : List Oper) (i : Nat) : Nat → List Oper → List Tmp
  | _, [] => []
  | k, o :: r => match o.dst with
    | some t => if waits all k i then offs all i (k + 1) r else t :: offs all i (k + 1) r
    | none => offs all i (k + 1) r
def ea (all : List Oper) (e0 : Ev) (i : Nat) : Ev := dropD (offs all i 0 all) e0
theorem offs_mem {all : List Oper} {i : Nat} : ∀ {l : List Oper} {k : Nat} {j : Nat} {t : Tmp}, dstAt l j = some t → waits all (k + j) i = false → t ∈ offs all i k l
  | [], k, j, t, h, _ => by simp [dstAt] at h
  | o :: l, k, 0, t, h, hw => by
    have hd : o.dst = some t := by simpa [dstAt] using h
    unfold offs
    rw [hd]
    simp only [Nat.add_zero] at hw
    simp [hw]
  | o :: l, k, j + 1, t, h, hw => by
    have h1 : t ∈ offs all i (k + 1) l := offs_mem (j := j) (by simpa [dstAt] using h) (by rw [Nat.add_assoc, Nat.add_comm 1]; exact hw)
    unfold offs
    split
    · split
      · exact h1
      · exact List.mem_cons_of_mem _ h1
    · exact h1
theorem ea_look {all : List Oper} {e0 : Ev} {i : Nat} {t : Tmp} {v : AV} (h : look (ea all e0 i) t = some v) : look e0 t = some v ∧ ∀ j, dstAt all j = some t → waits all j i = true := by
  refine ⟨look_dropD.2 v h, fun j hj => ?_⟩
  cases hw : waits all j i with
  | true => rfl
  | false =>
    have := (look_dropD (e := e0) (ds := offs all i 0 all) (t := t)).1 (offs_mem (k := 0) hj (by rw [Nat.zero_add]; exact hw))
    unfold ea at h
    rw [this] at h
    cases h
def PureAt (P : Program) (all : List Oper) (env0 F : Ev) (st : St) (i : Nat) : Prop :=
  match all[i]? with
  | some o => ∃ v, (match o.dst with | some t => look F t = some v | none => True) ∧ OpIs P all (ea all env0 i) st F o v
  | none => False
def PAll (P : Program) (all : List Oper) (env0 F : Ev) (st : St) (p : List Nat) : List Nat → Prop
  | [] => True
  | i :: r => (pendB all i p = true → PureAt P all env0 F st i) ∧ PAll P all env0 F st p r
theorem PAll.at {P all env0 F st p} : ∀ {l : List Nat}, PAll P all env0 F st p l → ∀ i, memN i l = true → pendB all i p = true → PureAt P all env0 F st i
  | [], _, i, h, _ => by cases h
  | x :: l, h, i, hm, hp => by
    simp only [memN, Bool.or_eq_true] at hm
    rcases hm with h1 | h1
    · have := Nat.eq_of_beq_eq_true h1
      subst this
      exact h.1 hp
    · exact PAll.at h.2 i h1 hp
def keysOf : Ev → List Nat
  | [] => []
  | (t, _) :: e => t :: keysOf e
def keysIn (all : List Oper) (l : List Nat) : List Nat → Bool
  | [] => true
  | k :: r => (l.any fun j => match dstAt all j with | some t => Nat.beq t k | none => false) && keysIn all l r
theorem keysIn_spec {all : List Oper} {l : List Nat} : ∀ {ks : List Nat}, keysIn all l ks = true → ∀ k ∈ ks, ∃ j, memN j l = true ∧ dstAt all j = some k
  | [], _, k, h => by cases h
  | x :: r, h, k, hk => by
    simp only [keysIn, Bool.and_eq_true] at h
    rcases List.mem_cons.1 hk with rfl | hk
    · obtain ⟨j, h1, h2⟩ := List.any_eq_true.1 h.1
      refine ⟨j, memN_iff.2 h1, ?_⟩
      split at h2
      · rename_i t ht; rw [ht, Nat.eq_of_beq_eq_true h2]
      · cases h2
    · exact keysIn_spec h.2 k hk
def DT (P : Program) (all : List Oper) (ss : List Nat) (env0 : Ev) (K : Ev → St → Prop) : Nat → List Nat → List Nat → Ev → St → Prop
  | 0, p, en, F, st => PAll P all env0 F st p en ∧ closedB all ss p en = true ∧ allIn p ss = true ∧ K (F ++ dropD (dsts all) env0) st
  | n + 1, p, en, F, st => PAll P all env0 F st p en ∧ closedB all ss p en = true ∧ allIn p ss = false ∧ ∀ s, memN s ss = true → memN s p = false → waitsIn all ss p en s = true →
      match all[s]? with
      | some o => cguard (sel F (ea all env0 s) (depsOf all o.after.toList)) (guardOf all o.guard) = some true ∧ SOp2 P o.op (sel F (ea all env0 s) (depsOf all o.after.toList)) st (fun av st' => ∃ en' new,
          keysOut (keysOf new) F = true ∧ keysIn all ((s :: p) ++ (en' ++ en)) (keysOf new) = true ∧ (match o.dst with | some t => look (new ++ F) t = some av | none => True) ∧ DT P all ss env0 K n (s :: p) (en' ++ en) (new ++ F) st')
      | none => False
theorem keysOf_mem : ∀ {e : Ev} {t : Nat} {v : AV}, look e t = some v → t ∈ keysOf e
  | [], t, v, h => by cases h
  | (k, x) :: e, t, v, h => by
    simp only [look] at h
    split at h
    · rename_i e'; subst e'; simp [keysOf]
    · simp [keysOf, keysOf_mem h]
theorem look_new {new F : Ev} (hk : keysOut (keysOf new) F = true) {t : Nat} {v : AV} (h : look F t = some v) : look (new ++ F) t = some v := by
  have h1 := keysOut_look hk h
  have : ∀ {e : Ev}, t ∉ keysOf e → look (e ++ F) t = some v := fun {e} => by
    induction e with
    | nil => intro _; exact h
    | cons p e ih =>
      obtain ⟨k, x⟩ := p
      intro hn
      simp only [keysOf, List.mem_cons, not_or] at hn
      simp only [List.cons_append, look, if_neg (Ne.symm hn.1)]
      exact ih hn.2
  exact this h1
theorem waits_of {all : List Oper} {s i : Nat} {o : Oper} (ho : all[s]? = some o) (h : waits all s i = true) : ∃ e ∈ o.after.toList, Region.binds .any e = true ∧ e.on = i := by
  unfold waits at h
  rw [ho] at h
  simp only [List.any_eq_true, Bool.and_eq_true] at h
  obtain ⟨e, h1, h2, h3⟩ := h
  exact ⟨e, h1, h2, Nat.eq_of_beq_eq_true h3⟩
theorem allIn_spec {p : List Nat} : ∀ {l : List Nat}, (∀ s, memN s l = true → memN s p = true) → allIn p l = true
  | [], _ => rfl
  | x :: l, h => by
    unfold allIn
    rw [h x (by simp [memN]), allIn_spec fun s hs => h s (by simp [memN, hs])]
    rfl
theorem allIn_get {p : List Nat} : ∀ {l : List Nat}, allIn p l = true → ∀ s, memN s l = true → memN s p = true
  | [], _, s, h => by cases h
  | x :: l, h, s, hs => by
    simp only [allIn, Bool.and_eq_true] at h
    simp only [memN, Bool.or_eq_true] at hs
    rcases hs with h1 | h1
    · rw [← Nat.eq_of_beq_eq_true h1]; exact h.1
    · exact allIn_get h.2 s h1
theorem memN_append {s : Nat} : ∀ {l r : List Nat}, memN s (l ++ r) = true ↔ memN s l = true ∨ memN s r = true
  | l, r => by simp only [memN_iff, List.mem_append]
theorem memN_cons {s x : Nat} {l : List Nat} : memN s (x :: l) = true ↔ s = x ∨ memN s l = true := by simp only [memN_iff, List.mem_cons]
theorem pend_of {all : List Oper} {i : Nat} : ∀ {p : List Nat}, (∀ s, memN s p = true → waits all s i = false) → pendB all i p = true
  | [], _ => rfl
  | s :: p, h => by
    unfold pendB
    rw [h s (by simp [memN]), pend_of fun s hs => h s (by simp [memN, hs])]
    rfl
def JustE (all : List Oper) (F : Ev) (env0 : Ev) (listed : Array Bool) (t : Tmp) (v : AV) : Prop :=
  (look env0 t = some v ∧ ∀ j, dstAt all j = some t → listed.getD j false = false) ∨ ∃ j, listed.getD j false = true ∧ dstAt all j = some t ∧ look F t = some v
theorem wpAny_dt {P : Program} {ops : Array Oper} {ss : List Nat} {env0 : Ev} {K : Ev → St → Prop} {n nb0 : Nat} {Q : Exit → Act → World → Prop} {A0 : Nat → Prop} {m0 : BM} {w0 : World}
    (hok : anyOk n ops.toList = true) (hss : ∀ s, memN s ss = true → s < ops.size)
    (hQ : ∀ a w, Onward A0 m0 nb0 w0 n K a w → Q .normal a w) :
    ∀ (fuel : Nat) (k : Nat) (p en : List Nat) (F : Ev) (st : St) (listed : Array Bool) (A : Nat → Prop) (m : BM) (w : World) (a : Act), DT P ops.toList ss env0 K k p en F st →
      (∀ i, memN i p = true → listed.getD i false = true) → (∀ i, memN i ss = true → listed.getD i false = true → memN i p = true) → (∀ i, listed.getD i false = true → memN i ss = false → memN i en = true) →
      (∀ s i, listed.getD s false = true → waits ops.toList s i = true → listed.getD i false = true) → (∀ t v, look F t = some v → ∃ j, dstAt ops.toList j = some t) →
      (∀ j t, listed.getD j false = true → dstAt ops.toList j = some t → ∃ v, look F t = some v) →
      listed.size = ops.size → listed.toList.countP (· == false) ≤ fuel → R A m w st → Step A0 m0 nb0 w0 A m st.length w →
      a.tmps.size = n → a.defers = [] → (∀ t v, JustE ops.toList F env0 listed t v → t < n ∧ V A m st.length w v (a.tmps.getD t undef)) → wpAny P .any ops Q fuel listed a w := by
  obtain ⟨hok1, huniq⟩ := anyOk_spec hok
  have lt_of : ∀ j t, dstAt ops.toList j = some t → j < ops.size := fun j t hj => by
    unfold dstAt at hj
    cases ho : ops.toList[j]? with
    | none => rw [ho] at hj; cases hj
    | some o => simpa using (List.getElem?_eq_some_iff.1 ho).1
  have allin : ∀ listed : Array Bool, listed.size = ops.size → Region.ready .any ops listed = [] → ∀ j, j < ops.size → listed.getD j false = true := fun listed hsz hr j => by
    induction j using Nat.strongRecOn with
    | _ j ihj =>
      intro hj
      cases hb : listed.getD j false with
      | true => rfl
      | false =>
        exfalso
        have hj' : j < listed.size := by omega
        have hb' : listed.getD j true = false := by simpa [Array.getD, hj'] using hb
        have hoj : ops[j]? = some ops[j] := Array.getElem?_eq_getElem hj
        have : j ∈ Region.ready .any ops listed := mem_ready.2 ⟨hb', _, hoj, fun e he hbe => by
          have hlt := (hok1 j ops[j] (by simp)).2 e (by simpa using he) hbe
          exact ihj e.on hlt (by omega)⟩
        rw [hr] at this
        cases this
  have fin : ∀ (k : Nat) (p en : List Nat) (F : Ev) (st : St) (listed : Array Bool) (A : Nat → Prop) (m : BM) (w : World) (a : Act), DT P ops.toList ss env0 K k p en F st →
      (∀ i, memN i ss = true → listed.getD i false = true → memN i p = true) →
      (∀ t v, look F t = some v → ∃ j, dstAt ops.toList j = some t) → (∀ j, j < ops.size → listed.getD j false = true) → R A m w st → Step A0 m0 nb0 w0 A m st.length w →
      a.tmps.size = n → a.defers = [] → (∀ t v, JustE ops.toList F env0 listed t v → t < n ∧ V A m st.length w v (a.tmps.getD t undef)) → Q .normal a w := fun k p en F st listed A m w a hD hRu hF hall hR hS h1 h2 hI => by
    cases k with
    | zero =>
      refine hQ a w ⟨A, m, _, st, hR, env_of h1 h2 fun t v htv => ?_, hS, hD.2.2.2⟩
      rcases look_app htv with h | h
      · refine hI t v (.inl ⟨look_dropD.2 v h, fun j hj => ?_⟩)
        rw [look_dropD.1 (dsts_mem hj)] at h
        cases h
      · obtain ⟨j, hj⟩ := hF t v h
        exact hI t v (.inr ⟨j, hall j (lt_of j t hj), hj, h⟩)
    | succ k =>
      exfalso
      have h3 := hD.2.2.1
      rw [allIn_spec fun s hs => hRu s hs (hall s (hss s hs))] at h3
      cases h3
  intro fuel
  induction fuel with
  | zero =>
    intro k p en F st listed A m w a hD r0 r1 r2 hW hF hL hsz hc hR hS h1 h2 hI
    have hall : ∀ j, j < ops.size → listed.getD j true = true := fun j hj => by
      have h0 : listed.toList.countP (· == false) = 0 := by omega
      rw [List.countP_eq_zero] at h0
      have hj' : j < listed.size := by omega
      have := h0 listed[j] (by simp)
      have e : listed.getD j true = listed[j] := by simp [Array.getD, hj']
      rw [e]
      simpa using this
    refine ⟨?_, fin k p en F st listed A m w a hD r1 hF (fun j hj => ?_) hR hS h1 h2 hI⟩
    · rw [List.eq_nil_iff_forall_not_mem]
      intro j hj
      obtain ⟨h3, o, ho, _⟩ := mem_ready.1 hj
      rw [hall j (Array.getElem?_eq_some_iff.1 ho).1] at h3
      cases h3
    · have := hall j hj
      have hj' : j < listed.size := by omega
      simpa [Array.getD, hj'] using this
  | succ fuel ih =>
    intro k p en F st listed A m w a hD r0 r1 r2 hW hF hL hsz hc hR hS h1 h2 hI
    refine ⟨fun hr => fin k p en F st listed A m w a hD r1 hF (allin listed hsz hr) hR hS h1 h2 hI, fun i hi => ?_⟩
    obtain ⟨h3, o, ho, hdep⟩ := mem_ready.1 hi
    have hil : i < ops.size := (Array.getElem?_eq_some_iff.1 ho).1
    have hil' : i < listed.size := by omega
    have hoL : ops.toList[i]? = some o := by simpa using ho
    have hdi : dstAt ops.toList i = o.dst := by unfold dstAt; rw [hoL]; rfl
    have hnl : listed.getD i false = false := by simpa [Array.getD, hil'] using h3
    have hE : Env A m st.length w n (sel F (ea ops.toList env0 i) (depsOf ops.toList o.after.toList)) a := env_of h1 h2 fun t u htu => hI t u ((look_sel htu).imp (fun h => by
        obtain ⟨h3, h4⟩ := ea_look h
        refine ⟨h3, fun j hj => ?_⟩
        cases hl : listed.getD j false with
        | false => rfl
        | true => rw [hW j i hl (h4 j hj)] at hnl; cases hnl) fun ⟨he, hF⟩ => by
      obtain ⟨e, he1, hb, hd⟩ := deps_sub he
      exact ⟨e.on, hdep e (by simpa using he1) hb, hd, hF⟩)
    have hcnt : (listed.setIfInBounds i true).toList.countP (· == false) ≤ fuel := by
      have hli : listed[i] = false := by simpa [Array.getD, hil'] using h3
      have e1 : (listed.setIfInBounds i true).toList = listed.toList.set i true := by simp
      have hlt : i < listed.toList.length := by simpa using hil'
      have hpos : 0 < listed.toList.countP (· == false) := List.countP_pos_iff.2 ⟨false, by rw [← hli]; simp, rfl⟩
      rw [e1, List.countP_set hlt]
      have e2 : listed.toList[i] = false := by simpa using hli
      have e3 : (true == false) = false := rfl
      have e4 : (false == false) = true := rfl
      simp only [e2, e3, e4, if_true, Bool.false_eq_true, if_false]
      omega
    have set_ne : ∀ j, j ≠ i → (listed.setIfInBounds i true).getD j false = listed.getD j false := fun j hj => by
      rw [getD_set_ne false (Ne.symm hj)]
    have set_eq : (listed.setIfInBounds i true).getD i false = true := by simp [Array.getD, hil']
    have set_up : ∀ j, listed.getD j false = true → (listed.setIfInBounds i true).getD j false = true := fun j hj => by
      by_cases h : j = i
      · subst h; exact set_eq
      · rw [set_ne j h]; exact hj
    have hdn := (hok1 i o hoL).1
    have old : ∀ (val : Value) (v : AV) (w' : World) (A' : Nat → Prop) (m' : BM) (nb' : Nat) (t : Nat) (u : AV), Step A m st.length w A' m' nb' w' → V A' m' nb' w' v val →
        JustE ops.toList F env0 listed t u → (dstAt ops.toList i ≠ some t) → t < n ∧ V A' m' nb' w' u ((a.put o.dst val).tmps.getD t undef) := fun val v w' A' m' nb' t u hS' hV hj hne => by
      have hE1 : Env A m st.length w n [(t, u)] a := env_of h1 h2 fun t' u' h' => by
        rcases look_append1 h' with ⟨rfl, rfl⟩ | h''
        · exact hI _ _ hj
        · cases h''
      have hE2 := (hE1.step hR hS').aput hdn hV
      refine hE2.val t u ?_
      cases hdd : o.dst with
      | none => simp [aput, look]
      | some d =>
        have : d ≠ t := fun e => hne (by rw [hdi, hdd, e])
        simp [aput, look, this]
    have new_ : ∀ (val : Value) (v : AV) (w' : World) (A' : Nat → Prop) (m' : BM) (nb' : Nat) (t : Nat), Step A m st.length w A' m' nb' w' → V A' m' nb' w' v val → o.dst = some t → t < n ∧ V A' m' nb' w' v ((a.put o.dst val).tmps.getD t undef) := fun val v w' A' m' nb' t hS' hV hd => by
      have hE0 : Env A m st.length w n [] a := env_of h1 h2 fun t' u' (h' : none = some u') => by cases h'
      have hE2 := (hE0.step hR hS').aput hdn hV
      exact hE2.val t v (by rw [hd]; simp [aput, look])
    unfold wpOp
    rw [ho]
    simp only
    cases his : memN i ss with
    | true =>
      have hnp : memN i p = false := by
        cases h : memN i p with
        | false => rfl
        | true => rw [r0 i h] at hnl; cases hnl
      have hwi : waitsIn ops.toList ss p en i = true := by
        unfold waitsIn
        rw [hoL]
        simp only [List.all_eq_true, Bool.or_eq_true, Bool.not_eq_true']
        intro e he
        cases hb : Region.binds .any e with
        | false => exact .inl rfl
        | true =>
          refine .inr ?_
          have hl := hdep e (by simpa using he) hb
          split
          · rename_i hs; exact r1 _ hs hl
          · rename_i hs; exact r2 _ hl (by simpa using hs)
      cases k with
      | zero =>
        exfalso
        have := allIn_get hD.2.2.1 i his
        rw [hnp] at this
        cases this
      | succ k =>
        have hst := hD.2.2.2 i his hnp hwi
        rw [hoL] at hst
        simp only at hst
        obtain ⟨hg, hop⟩ := hst
        rw [guard_sound hE ((cguard_eq _ _ _).trans hg)]
        simp only [if_true]
        refine .inl (op_wp2 hR hE hop fun val w' A' m' st' av k1 k2 k3 ⟨en', new, k4, k5, k6, k7⟩ => ?_)
        have hlk : ∀ t u, look F t = some u → look (new ++ F) t = some u := fun t u h => look_new k4 h
        refine ih k (i :: p) (en' ++ en) (new ++ F) st' _ A' m' w' _ k7 (fun j hj => ?_) (fun j hj hl => ?_) (fun j hl hj => ?_) (fun s j hs hw => ?_) (fun t v ht => ?_) (fun j t hl hj => ?_) (by simpa using hsz) hcnt k1 (hS.trans0 (k2.weak (Nat.le_refl _) |> fun h => h.weak hS.nbLe)) (by cases hdd : o.dst <;> simp [Act.put, h1]) (by cases hdd : o.dst <;> simp [Act.put, h2]) (fun t u hJ => ?_)
        · rcases memN_cons.1 hj with rfl | h
          · exact set_eq
          · exact set_up j (r0 j h)
        · by_cases h : j = i
          · subst h; exact memN_cons.2 (.inl rfl)
          · rw [set_ne j h] at hl; exact memN_cons.2 (.inr (r1 j hj hl))
        · by_cases h : j = i
          · subst h; rw [his] at hj; cases hj
          · rw [set_ne j h] at hl; exact memN_append.2 (.inr (r2 j hl hj))
        · by_cases h : s = i
          · subst h
            obtain ⟨e, he, hb, rfl⟩ := waits_of hoL hw
            exact set_up _ (hdep e (by simpa using he) hb)
          · rw [set_ne s h] at hs; exact set_up _ (hW s j hs hw)
        · rcases look_app (e := F) (G := new) ht with h | h
          · exact hF t v h
          · obtain ⟨j, _, hj⟩ := keysIn_spec k5 t (keysOf_mem h)
            exact ⟨j, hj⟩
        · by_cases h : j = i
          · subst h
            rw [hdi] at hj
            rw [hj] at k6
            exact ⟨av, k6⟩
          · rw [set_ne j h] at hl
            obtain ⟨v, hv⟩ := hL j t hl hj
            exact ⟨v, hlk t v hv⟩
        · rcases hJ with ⟨hJ, hJ2⟩ | ⟨j, hj1, hj2, hj3⟩
          · have hni : dstAt ops.toList i ≠ some t := fun hd => by
              have := hJ2 i hd
              rw [set_eq] at this
              cases this
            refine old val av w' A' m' st'.length t u k2 k3 (.inl ⟨hJ, fun j hj => ?_⟩) hni
            have := hJ2 j hj
            by_cases h : j = i
            · subst h; exact absurd hj hni
            · rwa [set_ne j h] at this
          · by_cases hji : j = i
            · subst hji
              rw [hdi] at hj2
              rw [hj2] at k6
              have hu : u = av := Option.some.inj (hj3.symm.trans k6)
              subst hu
              exact new_ val u w' A' m' st'.length t k2 k3 hj2
            · rw [set_ne j hji] at hj1
              obtain ⟨v, hv⟩ := hL j t hj1 hj2
              have hu : u = v := Option.some.inj (hj3.symm.trans (hlk t v hv))
              subst hu
              exact old val av w' A' m' st'.length t u k2 k3 (.inr ⟨j, hj1, hj2, hv⟩) fun hd => hji (huniq _ _ _ hj2 hd)
    | false =>
      have hcl : closedB ops.toList ss p en = true := by cases k <;> exact hD.2.1
      have hpa : PAll P ops.toList env0 F st p en := by cases k <;> exact hD.1
      have hwi : waitsIn ops.toList ss p en i = true := by
        unfold waitsIn
        rw [hoL]
        simp only [List.all_eq_true, Bool.or_eq_true, Bool.not_eq_true']
        intro e he
        cases hb : Region.binds .any e with
        | false => exact .inl rfl
        | true =>
          refine .inr ?_
          have hl := hdep e (by simpa using he) hb
          split
          · rename_i hs; exact r1 _ hs hl
          · rename_i hs; exact r2 _ hl (by simpa using hs)
      have hen : memN i en = true := by
        have := (List.all_eq_true.1 hcl) i (List.mem_range.2 (by simpa using hil))
        rw [his, hwi] at this
        simpa using this
      have hpe : pendB ops.toList i p = true := pend_of fun s hs => by
        cases hw : waits ops.toList s i with
        | false => rfl
        | true => rw [hW s i (r0 s hs) hw] at hnl; cases hnl
      have hat := hpa.at i hen hpe
      unfold PureAt at hat
      rw [hoL] at hat
      simp only at hat
      obtain ⟨v, hv, hop⟩ := hat
      have next : ∀ (val : Value) (w' : World) (A' : Nat → Prop) (m' : BM), R A' m' w' st → Step A m st.length w A' m' st.length w' → V A' m' st.length w' v val → wpAny P .any ops Q fuel (listed.setIfInBounds i true) (a.put o.dst val) w' := fun val w' A' m' hR' hS' hV => by
        refine ih k p en F st _ A' m' w' _ hD (fun j hj => set_up j (r0 j hj)) (fun j hj hl => ?_) (fun j hl hj => ?_) (fun s j hs hw => ?_) hF (fun j t hl hj => ?_) (by simpa using hsz) hcnt hR' (hS.trans0 (hS'.weak hS.nbLe)) (by cases hdd : o.dst <;> simp [Act.put, h1]) (by cases hdd : o.dst <;> simp [Act.put, h2]) fun t u hJ => ?_
        · by_cases h : j = i
          · subst h; rw [his] at hj; cases hj
          · rw [set_ne j h] at hl; exact r1 j hj hl
        · by_cases h : j = i
          · subst h; exact hen
          · rw [set_ne j h] at hl; exact r2 j hl hj
        · by_cases h : s = i
          · subst h
            obtain ⟨e, he, hb, rfl⟩ := waits_of hoL hw
            exact set_up _ (hdep e (by simpa using he) hb)
          · rw [set_ne s h] at hs; exact set_up _ (hW s j hs hw)
        · by_cases h : j = i
          · subst h
            rw [hdi] at hj
            rw [hj] at hv
            exact ⟨v, hv⟩
          · rw [set_ne j h] at hl; exact hL j t hl hj
        · rcases hJ with ⟨hJ, hJ2⟩ | ⟨j, hj1, hj2, hj3⟩
          · have hni : dstAt ops.toList i ≠ some t := fun hd => by
              have := hJ2 i hd
              rw [set_eq] at this
              cases this
            refine old val v w' A' m' st.length t u hS' hV (.inl ⟨hJ, fun j hj => ?_⟩) hni
            have := hJ2 j hj
            by_cases h : j = i
            · subst h; exact absurd hj hni
            · rwa [set_ne j h] at this
          · by_cases hji : j = i
            · subst hji
              rw [hdi] at hj2
              rw [hj2] at hv
              have hu : u = v := Option.some.inj (hj3.symm.trans hv)
              subst hu
              exact new_ val u w' A' m' st.length t hS' hV hj2
            · rw [set_ne j hji] at hj1
              exact old val v w' A' m' st.length t u hS' hV (.inr ⟨j, hj1, hj2, hj3⟩) fun hd => hji (huniq _ _ _ hj2 hd)
      unfold OpIs at hop
      split at hop
      · rename_i hg
        rw [guard_sound hE ((cguard_eq _ _ _).trans hg)]
        simp only [if_true]
        refine .inl (op_wp2 hR hE hop fun val w' A' m' st' av k1 k2 k3 ⟨k4, k5⟩ => ?_)
        subst k4; subst k5
        exact next val w' A' m' k1 k2 k3
      · rename_i hg
        rw [guard_sound hE ((cguard_eq _ _ _).trans hg)]
        simp only [Bool.false_eq_true, if_false]
        subst hop
        exact next undef w A m hR (Step.refl _ _ _ _) (.imm (.lit _))
      · exact hop.elim
def ltAll (k : Nat) : List Nat → Bool
  | [] => true
  | x :: l => Nat.blt x k && ltAll k l
theorem ltAll_get {k : Nat} : ∀ {l : List Nat}, ltAll k l = true → ∀ s, memN s l = true → s < k
  | [], _, s, h => by cases h
  | x :: l, h, s, hs => by
    simp only [ltAll, Bool.and_eq_true] at h
    simp only [memN, Bool.or_eq_true] at hs
    rcases hs with h1 | h1
    · rw [← Nat.eq_of_beq_eq_true h1]; exact Nat.le_of_ble_eq_true h.1
    · exact ltAll_get h.2 s h1
theorem sw_region_dt {P : Program} {n nb0 : Nat} {Q : Exit → Ev → St → Prop} {env : Ev} {st : St} {id : Nat} {ops : Array Oper} (ss en : List Nat) (F : Ev) (k : Nat) (hm : P.follows .mixedOrders = true) (hok : anyOk n ops.toList = true) (hss : ltAll ops.size ss = true) (hks : keysIn ops.toList en (keysOf F) = true)
    (h : DT P ops.toList ss env (Q .normal) k [] en F st) : SW P n nb0 (.region id ops true) Q env st := by
  intro A m w a h0 hR hE
  have hg : Grow w { w with drawn := w.drawn + 1 } := ⟨Nat.le_refl _, fun _ _ => rfl, rfl, rfl, rfl⟩
  obtain ⟨hR1, hS1⟩ := hR.grow' hg
  refine wp_region_any hm ?_
  have hf : ∀ j, (Array.replicate ops.size false).getD j false = false := fun j => by simp [Array.getD]
  refine wpAny_dt (n := n) (nb0 := nb0) (A0 := A) (m0 := m) (w0 := w) (K := Q .normal) (Q := fun e a' w' => Onward A m nb0 w n (Q e) a' w') hok (ltAll_get hss) (fun a w h => h) ops.size k [] en F st _ A m _ a h
    (fun i hi => by cases hi) (fun i _ hl => by rw [hf] at hl; cases hl) (fun i hl _ => by rw [hf] at hl; cases hl) (fun s i hs _ => by rw [hf] at hs; cases hs) (fun t v ht => ?_) (fun j t hl _ => by rw [hf] at hl; cases hl) (by simp) ?_ hR1 (hS1.weak h0) hE.size hE.defers ?_
  · obtain ⟨j, _, hj⟩ := keysIn_spec hks t (keysOf_mem ht)
    exact ⟨j, hj⟩
  · refine Nat.le_trans (List.countP_le_length) ?_
    simp
  · intro t v hJ
    rcases hJ with ⟨hJ, _⟩ | ⟨j, hj, _⟩
    · exact (hE.step hR hS1).val t v hJ
    · rw [hf] at hj; cases hj
theorem rd {P : Program} {n nb0 : Nat} {Q : Exit → Ev → St → Prop} {env : Ev} {st : St} {id : Nat} {ops : Array Oper} {y : Code} (E : Ev) (S : St) (ss en : List Nat) (F : Ev) (k : Nat) (hm : P.follows .mixedOrders = true) (hok : anyOk n ops.toList = true) (hss : ltAll ops.size ss = true) (hks : keysIn ops.toList en (keysOf F) = true)
    (h : DT P ops.toList ss env (fun env st => Can nb0 E S env st) k [] en F st) (hy : SW P n nb0 y Q E S) : SW P n nb0 (.seq (.region id ops true) y) Q env st :=
  sw_seq ((sw_region_dt (Q := fun e env st => match e with | .normal => Can nb0 E S env st | _ => False) ss en F k hm hok hss hks h).mono fun e env st h => by
    cases e with
    | normal => exact sw_can h hy
    | _ => exact h.elim)
theorem rdL {P : Program} {n nb0 : Nat} {Q : Exit → Ev → St → Prop} {env : Ev} {st : St} {id : Nat} {ops : Array Oper} (E : Ev) (S : St) (ss en : List Nat) (F : Ev) (k : Nat) (hm : P.follows .mixedOrders = true) (hok : anyOk n ops.toList = true) (hss : ltAll ops.size ss = true) (hks : keysIn ops.toList en (keysOf F) = true)
    (h : DT P ops.toList ss env (fun env st => Can nb0 E S env st) k [] en F st) (hy : Q .normal E S) : SW P n nb0 (.region id ops true) Q env st := by
  intro A m w a h0 hR hE
  refine wp_mono (sw_region_dt (Q := fun e env st => match e with | .normal => Can nb0 E S env st | _ => False) ss en F k hm hok hss hks h A m w a h0 hR hE) fun e a' w' ho => ?_
  obtain ⟨A', m', e', s', h1, h2, h3, h4⟩ := ho
  cases e with
  | normal =>
    obtain ⟨L, c1, c2, c3, c4, c5⟩ := h4
    have hs := RsSt.of c2 c3
    exact ⟨_, _, E, S, h1.rs hs, h2.rs h1 hs c1, h3.rs hs c4 c5, hy⟩
  | _ => exact h4.elim
section
variable {P : Program} {all : List Oper} {env0 F env : Ev} {st : St} {ss p en : List Nat} {K : Ev → St → Prop}
theorem sop2 {o : Oper} {K : AV → St → Prop} {t : Nat} (hd : o.dst = some t) (h : SOp P o env st fun env' st' => ∃ v, env' = (t, v) :: env ∧ K v st') : SOp2 P o.op env st K := by
  unfold SOp at h
  unfold SOp2
  rw [hd] at h
  have e : ∀ av st', (∃ v, aput (some t) av env = (t, v) :: env ∧ K v st') → K av st' := fun av st' ⟨v, h1, h2⟩ => by
    have : v = av := by simp [aput] at h1; exact h1.symm
    subst this; exact h2
  generalize isCall o.op = c at h ⊢
  cases c with
  | true =>
    simp only at h ⊢
    generalize acall env o.op = x at h ⊢
    cases x with
    | none => exact h.elim
    | some y => exact h.mono e
  | false =>
    simp only at h ⊢
    generalize aop P env st o.op = x at h ⊢
    cases x with
    | none => exact h.elim
    | some y => exact e _ _ h
theorem pa {i t : Nat} {o : Oper} {v : AV} (ho : all[i]? = some o) (hd : o.dst = some t) (hg : o.guard = none) (hv : look F t = some v) (h : SOp P o (sel F (ea all env0 i) (depsOf all o.after.toList)) st fun env' st' => env' = (t, v) :: sel F (ea all env0 i) (depsOf all o.after.toList) ∧ st' = st) : PureAt P all env0 F st i := by
  unfold PureAt
  rw [ho]
  refine ⟨v, by rw [hd]; exact hv, ?_⟩
  unfold OpIs
  rw [hg]
  exact sop2 hd (h' h)
where
  h' {o : Oper} {t : Nat} {v : AV} {env : Ev} (h : SOp P o env st fun env' st' => env' = (t, v) :: env ∧ st' = st) : SOp P o env st fun env' st' => ∃ u, env' = (t, u) :: env ∧ (u = v ∧ st' = st) := by
    unfold SOp at h ⊢
    generalize isCall o.op = c at h ⊢
    cases c with
    | true =>
      simp only at h ⊢
      generalize acall env o.op = x at h ⊢
      cases x with
      | none => exact h.elim
      | some y => exact h.mono fun av st' ⟨h1, h2⟩ => ⟨v, h1, rfl, h2⟩
    | false =>
      simp only at h ⊢
      generalize aop P env st o.op = x at h ⊢
      cases x with
      | none => exact h.elim
      | some y => exact ⟨v, h.1, rfl, h.2⟩
theorem pag {i t : Nat} {o : Oper} {v : AV} {b : Bool} {c : Nat} {want : Bool} (ho : all[i]? = some o) (hd : o.dst = some t) (hg : guardOf all o.guard = some (some c, want)) (hc : look (sel F (ea all env0 i) (depsOf all o.after.toList)) c = some (.lit (.bool b))) (hb : b = want) (hv : look F t = some v)
    (h : SOp P o (sel F (ea all env0 i) (depsOf all o.after.toList)) st fun env' st' => env' = (t, v) :: sel F (ea all env0 i) (depsOf all o.after.toList) ∧ st' = st) : PureAt P all env0 F st i := by
  unfold PureAt
  rw [ho]
  refine ⟨v, by rw [hd]; exact hv, ?_⟩
  unfold OpIs
  rw [hg]
  simp only [cguard, hc, hb, beq_self_eq_true]
  exact sop2 hd (pa.h' h)
theorem pas {i t : Nat} {o : Oper} {b : Bool} {c : Nat} {want : Bool} (ho : all[i]? = some o) (hd : o.dst = some t) (hg : guardOf all o.guard = some (some c, want)) (hc : look (sel F (ea all env0 i) (depsOf all o.after.toList)) c = some (.lit (.bool b))) (hb : b = !want) (hv : look F t = some (.lit undef)) : PureAt P all env0 F st i := by
  unfold PureAt
  rw [ho]
  refine ⟨.lit undef, by rw [hd]; exact hv, ?_⟩
  unfold OpIs
  rw [hg]
  simp only [cguard, hc, hb]
  have : ((!want) == want) = false := by cases want <;> rfl
  rw [this]
  trivial
theorem pau {i t : Nat} {o : Oper} {c : Nat} {want : Bool} (ho : all[i]? = some o) (hd : o.dst = some t) (hg : guardOf all o.guard = some (some c, want)) (hc : look (sel F (ea all env0 i) (depsOf all o.after.toList)) c = some (.lit undef)) (hv : look F t = some (.lit undef)) : PureAt P all env0 F st i := by
  unfold PureAt
  rw [ho]
  refine ⟨.lit undef, by rw [hd]; exact hv, ?_⟩
  unfold OpIs
  rw [hg]
  simp only [cguard, hc, undef]
def SStp (P : Program) (all : List Oper) (ss : List Nat) (env0 : Ev) (K : Ev → St → Prop) (n : Nat) (p en : List Nat) (F : Ev) (st : St) (s : Nat) : Prop :=
  ∃ o, all[s]? = some o ∧ cguard (sel F (ea all env0 s) (depsOf all o.after.toList)) (guardOf all o.guard) = some true ∧ SOp P o (sel F (ea all env0 s) (depsOf all o.after.toList)) st fun env' st' => ∃ av en' new, env' = aput o.dst av (sel F (ea all env0 s) (depsOf all o.after.toList)) ∧
    keysOut (keysOf new) F = true ∧ keysIn all ((s :: p) ++ (en' ++ en)) (keysOf new) = true ∧ (match o.dst with | some t => look (new ++ F) t = some av | none => True) ∧ DT P all ss env0 K n (s :: p) (en' ++ en) (new ++ F) st'
def SStps (P : Program) (all : List Oper) (ss : List Nat) (env0 : Ev) (K : Ev → St → Prop) (n : Nat) (p en : List Nat) (F : Ev) (st : St) : List Nat → Prop
  | [] => True
  | s :: r => (memN s p = false → waitsIn all ss p en s = true → SStp P all ss env0 K n p en F st s) ∧ SStps P all ss env0 K n p en F st r
theorem SStps.at {n : Nat} : ∀ {l : List Nat}, SStps P all ss env0 K n p en F st l → ∀ s, memN s l = true → memN s p = false → waitsIn all ss p en s = true → SStp P all ss env0 K n p en F st s
  | [], _, s, h => by cases h
  | x :: l, h, s, hs => by
    simp only [memN, Bool.or_eq_true] at hs
    rcases hs with h1 | h1
    · rw [← Nat.eq_of_beq_eq_true h1]; exact h.1
    · exact SStps.at h.2 s h1
theorem dtS {n : Nat} (h1 : PAll P all env0 F st p en) (h2 : closedB all ss p en = true) (h3 : allIn p ss = false) (h4 : SStps P all ss env0 K n p en F st ss) : DT P all ss env0 K (n + 1) p en F st := by
  refine ⟨h1, h2, h3, fun s a b c => ?_⟩
  obtain ⟨o, ho, hg, hs⟩ := h4.at s a b c
  rw [ho]
  refine ⟨hg, ?_⟩
  unfold SOp at hs
  unfold SOp2
  generalize isCall o.op = cc at hs ⊢
  have e : ∀ av st', (∃ av0 en' new, aput o.dst av (sel F (ea all env0 s) (depsOf all o.after.toList)) = aput o.dst av0 (sel F (ea all env0 s) (depsOf all o.after.toList)) ∧ keysOut (keysOf new) F = true ∧ keysIn all ((s :: p) ++ (en' ++ en)) (keysOf new) = true ∧
      (match o.dst with | some t => look (new ++ F) t = some av0 | none => True) ∧ DT P all ss env0 K n (s :: p) (en' ++ en) (new ++ F) st') →
      ∃ en' new, keysOut (keysOf new) F = true ∧ keysIn all ((s :: p) ++ (en' ++ en)) (keysOf new) = true ∧ (match o.dst with | some t => look (new ++ F) t = some av | none => True) ∧ DT P all ss env0 K n (s :: p) (en' ++ en) (new ++ F) st' := fun av st' ⟨av0, en', new, k1, k2, k3, k4, k5⟩ => by
    refine ⟨en', new, k2, k3, ?_, k5⟩
    cases hd : o.dst with
    | none => trivial
    | some t =>
      rw [hd] at k1 k4
      have : av = av0 := by simpa [aput] using k1
      rw [this]; exact k4
  cases cc with
  | true =>
    simp only at hs ⊢
    generalize acall (sel F (ea all env0 s) (depsOf all o.after.toList)) o.op = x at hs ⊢
    cases x with
    | none => exact hs.elim
    | some y => exact hs.mono e
  | false =>
    simp only at hs ⊢
    generalize aop P (sel F (ea all env0 s) (depsOf all o.after.toList)) st o.op = x at hs ⊢
    cases x with
    | none => exact hs.elim
    | some y => exact e _ _ hs
theorem dt0 (h1 : PAll P all env0 F st p en) (h2 : closedB all ss p en = true) (h3 : allIn p ss = true) (h4 : K (F ++ dropD (dsts all) env0) st) : DT P all ss env0 K 0 p en F st := ⟨h1, h2, h3, h4⟩
theorem bb (b : Bool) : b = true ∨ b = false := by cases b <;> simp
theorem pkb {c x y : Operand} {ty : TypeId} {pos : String} {aft : Array Edge} {gu : Option (Nat × Bool)} {d : Nat} {b want : Bool} {v : AV} (hc : ev env c = some (.lit (.bool b))) (hb : b = want) (h : cond want (ev env x) (ev env y) = some v) (k : K ((d, v) :: env) st) :
    SOp P ⟨some d, .pick c x y, ty, pos, aft, gu⟩ env st K := by
  subst hb
  refine o_any rfl ?_ k
  cases b <;> simp only [cond] at h <;> simp [aop, hc, h]
end
theorem cg {env : Ev} {c : Nat} {b want : Bool} (hc : look env c = some (.lit (.bool b))) (hb : b = want) : cguard env (some (some c, want)) = some true := by
  simp only [cguard, hc, hb, beq_self_eq_true]
abbrev iA (n : Int) : AV := .lit (.int .i64 n)
abbrev bA (b : Bool) : AV := .lit (.bool b)
abbrev sA (l : List UInt8) : AV := .lit (.string (B l))
def optC {α β : Type} (o : Option α) (a : β) (f : α → β) : β := match o with | none => a | some x => f x
theorem ocN {α β : Type} {a r : β} {f : α → β} (h : optC (none : Option α) a f = r) : a = r := h
theorem ocS {α β : Type} {a r : β} {f : α → β} {x : α} (h : optC (some x) a f = r) : f x = r := h
def optR : Option (List UInt8) → AV
  | none => .lit (.slice none 0 0)
  | some l => .msl 0 0 l.length
def optB : Option (List UInt8) → List SB
  | none => []
  | some l => [.many 1 (l.map byteRow)]
theorem optOk : ∀ r, SBok (optB r)
  | none => trivial
  | some l => ⟨sbOk (sz := 1) (fun _ => rfl), trivial⟩
end Go.Proofs.YtdhpdpkcfffpiaaGreat
namespace Go.Proofs.YtdhpdpkcfffpiaaGreat
set_option linter.unusedSimpArgs false
set_option linter.unusedVariables false
open Go.ChangeShapes Go.WideShapes Go.ChangeAt Go.RowKit Go.WideMaps Go.WideElems
open Go.ChangeMaps (open_string shut_string)
theorem Grow.below {w w' : World} (h : Grow w w') : Below w.heap.size w w' := ⟨h.os, h.tape, h.output, h.size, h.heap⟩
theorem Tryz.ownNot : ownKnob Tryz.prog.godebug = none := by kernel_rfl
theorem Tryz.laidOut : laidOutB Tryz.prog = true := by kernel_rfl
section
variable {H : Type} {enc : TypeId × Value → H} {P : Program}
theorem args_stay (hl : laidOutB P = true) {W W' : World} (hg : Grow W W') {sp : Nat → Bool} : ∀ {ts : List TypeId} {vs : List Value} {ds : List (DataW H)} {ps : List MemPlace},
    ts.all (fun t => P.readableRec t && decide (t < P.types.size)) = true → DataW.TrodAll enc P W 0 (fun _ => true) true ts vs ds ps → (∀ p ∈ ps, p.block < W.heap.size) → (∀ p ∈ ps, sp p.block = true) → DataW.TrodAll enc P W' 0 sp true ts vs ds ps
  | [], [], [], ps, _, h, _, _ => h
  | t :: ts, v :: vs, d :: ds, ps, ht, h, hlt, hs => by
    obtain ⟨p, q, h1, h2, rfl⟩ := h
    simp only [List.all_cons, Bool.and_eq_true, decide_eq_true_eq] at ht
    exact ⟨p, q, WideElems.Trod_stays hl ht.1.1 ht.1.2 h1 (fun x hx => hg.below.same (hlt x (by simp [hx]))) (fun x hx => hs x (by simp [hx])),
      args_stay hl hg ht.2 h2 (fun x hx => hlt x (by simp [hx])) (fun x hx => hs x (by simp [hx])), rfl⟩
  | [], _ :: _, _, _, _, h, _, _ => h.elim
  | [], [], _ :: _, _, _, h, _, _ => h.elim
  | _ :: _, [], _, _, _, h, _, _ => h.elim
  | _ :: _, _ :: _, [], _, _, h, _, _ => h.elim
theorem post_true {f : Func} {s : ChangeSpec} {apart fresh handsOn again : Bool} {W W' : World} {args : Array Value} {ds gs : List (DataW H)} {before : List MemPlace} {tb : TypeId}
    (hl : laidOutB P = true) (hW : DataW.Whole enc P f.params.toList s.vars apart W args.toList ds gs before) (hg : Grow W W')
    (hts : f.params.toList.all (fun t => P.readableRec t && decide (t < P.types.size)) = true) (hvars : s.vars = []) (hr : f.resultTypes = #[tb]) (hb : P.underlying tb = some .bool)
    (hfn : s.fn H (ds ++ gs) = { results := [.lit (.bool true)], args := ds }) :
    s.post enc P f apart fresh handsOn again W args (.bool true) W' := by
  have hlt := hW.lt
  have hW' := hW
  obtain ⟨p, q, hA, hV, hpq, hz, hn⟩ := hW'
  rw [hvars] at hV
  obtain ⟨rfl, rfl⟩ := trodVars_none hV
  simp only [List.append_nil] at hpq
  subst hpq
  have hargs : ∀ sp : Nat → Bool, (∀ x ∈ before, sp x.block = true) → DataW.TrodAll enc P W' 0 sp true f.params.toList args.toList ds before := fun sp hsp => args_stay hl hg hts hA hlt hsp
  have hres : ∀ (b : Nat) (sp : Nat → Bool) (hd : Bool), DataW.TrodAll enc P W' b sp hd f.resultTypes.toList ((Value.bool true).resultList f.resultTypes.size) [.lit (.bool true)] [] := fun b sp hd => by
    rw [hr]; exact trodAll_mk1 (shut_bool hb true)
  have hvs : ∀ sp : Nat → Bool, DataW.TrodVars enc P W' sp s.vars ([] : List (DataW H)) [] := fun sp => by rw [hvars]; rfl
  refine ⟨ds, [], before, [], before, [], hW, by rw [hfn]; exact hres _ _ _, by rw [hfn]; exact hargs _ (fun x hx => by simpa using hlt x hx), by rw [hfn]; exact hvs _, hg.below.frame _, fun _ => ⟨?_, _, _, ([] ++ before) ++ [], ⟨[] ++ before, [], trodAll_append (hargs _ (fun _ _ => rfl)) (hres _ _ _), hvs _, rfl, ?_, ?_⟩, ?_⟩⟩
  · exact ok_one hr rfl (okWide_bool_mk hb _)
  · intro b off hp
    have hp' : MemPlace.cell b off ∈ before := by simpa using hp
    rw [hg.below.frozen (p := ⟨b, off, none⟩) (hlt _ hp')]
    exact hz b off hp'
  · intro ha
    simpa using hn ha
  · intro x hx _
    simpa using hx
theorem PureC.truly {f : FuncId} {args : List AV} (h : PureC P f args (.lit (.bool true))) {W : World} {vals : Array Value} (hv : VIL (fun B => B < W.heap.size) W args vals) :
    Calls P f vals W fun e w' => e = .returned (.bool true) ∧ Grow W w' :=
  (h.2 _ W vals (fun _ h => h) hv).mono fun e w' ⟨v, he, hg, hvi⟩ => by
    cases hvi
    exact ⟨he, hg⟩
theorem vil_nil {A w} : VIL A w [] #[] := ⟨rfl, fun i h => by simp at h⟩
theorem vil_cons {A w} {c : AV} {v : Value} {cs : List AV} {vs : List Value} (h : VI A w c v) (t : VIL A w cs vs.toArray) : VIL A w (c :: cs) (v :: vs).toArray := by
  obtain ⟨h1, h2⟩ := t
  refine ⟨by simpa using h1, fun i hi => ?_⟩
  cases i with
  | zero => simpa using h
  | succ i =>
    have := h2 i (by simpa using hi)
    simpa [Array.getD] using this
end
end Go.Proofs.YtdhpdpkcfffpiaaGreat
namespace Go.Proofs.YtdhpdpkcfffpiaaGreat
set_option linter.unusedSimpArgs false
set_option linter.unusedVariables false
open Go.ChangeShapes Go.WideShapes Go.ChangeAt Go.RowKit Go.WideMaps Go.WideElems
section
variable {H : Type} {enc : TypeId × Value → H} {P : Program} {W : World}
end
section
variable {P : Program} {n : Nat} {t : TypeId} {avs : List AV}
abbrev wI (k : IntKind) (x : Int) : Prop := (Lit.int k x).wf = true
abbrev wT {α : Type} (_ : α) : Prop := True
abbrev wL {α : Type} (w : α → Prop) (l : List α) : Prop := l.length ≤ 9223372036854775807 ∧ ∀ y ∈ l, w y
variable {W : World}
end
end Go.Proofs.YtdhpdpkcfffpiaaGreat
namespace Go.Proofs.YtdhpdpkcfffpiaaGreat
noncomputable section
set_option linter.unusedSimpArgs false
set_option linter.unusedVariables false
set_option maxRecDepth 100000
set_option maxHeartbeats 4000000
structure ApiIns where
  Op : Int
  A : Int
  C : List UInt8
  M : List UInt8
def rApiIns (x : ApiIns) : List AV:=[iA x.Op,iA x.A,sA x.C,sA x.M]
def kind_small (v1 : UInt8) : Bool :=
  ((decide (97 ≤ (v1.toNat : Int))) && (decide ((v1.toNat : Int) ≤ 122)))
theorem kind_small_ok (v1 : UInt8) {r : Bool} (h : kind_small v1 = r) : PureC Tryz.prog 87 [.lit (.int .u8 (v1.toNat : Int))] (bA r):=by
 refine pure_fn Tryz.func87 j0 (by kernel_rfl) j0 j0 ?_
 unfold kind_small at h
 refine rg j0<|u<|asg j0<|r_nil ?_
 refine rg j0<|u<|mv j0<|u<|geq ti5 j0 j0<|u<|mv j0<|r_and (j:=2) 2 j0 j0 j0 j0 j0 gpn (fun hb1=>g j0 hb1<|mv j0<|g j0 hb1<|leq ti5 j0 j0<|r_nil (egA [6,7] 2 hb1 j0 j0 j0 j0)) andF<|u<|asg j0<|r_nil ?_
 refine sw_ret ?_
 obtain rfl:=h
 exact ⟨_,j0,[],ci j0,j0,j5,j0,j1⟩
def kind_great (v1 : UInt8) : Bool :=
  ((decide (65 ≤ (v1.toNat : Int))) && (decide ((v1.toNat : Int) ≤ 90)))
theorem kind_great_ok (v1 : UInt8) {r : Bool} (h : kind_great v1 = r) : PureC Tryz.prog 99 [.lit (.int .u8 (v1.toNat : Int))] (bA r):=by
 refine pure_fn Tryz.func99 j0 (by kernel_rfl) j0 j0 ?_
 unfold kind_great at h
 refine rg j0<|u<|asg j0<|r_nil ?_
 refine rg j0<|u<|mv j0<|u<|geq ti5 j0 j0<|u<|mv j0<|r_and (j:=2) 2 j0 j0 j0 j0 j0 gpn (fun hb1=>g j0 hb1<|mv j0<|g j0 hb1<|leq ti5 j0 j0<|r_nil (egA [6,7] 2 hb1 j0 j0 j0 j0)) andF<|u<|asg j0<|r_nil ?_
 refine sw_ret ?_
 obtain rfl:=h
 exact ⟨_,j0,[],ci j0,j0,j5,j0,j1⟩
def kind_digit (v1 : UInt8) : Bool :=
  ((decide (48 ≤ (v1.toNat : Int))) && (decide ((v1.toNat : Int) ≤ 57)))
theorem kind_digit_ok (v1 : UInt8) {r : Bool} (h : kind_digit v1 = r) : PureC Tryz.prog 138 [.lit (.int .u8 (v1.toNat : Int))] (bA r):=by
 refine pure_fn Tryz.func138 j0 (by kernel_rfl) j0 j0 ?_
 unfold kind_digit at h
 refine rg j0<|u<|asg j0<|r_nil ?_
 refine rg j0<|u<|mv j0<|u<|geq ti5 j0 j0<|u<|mv j0<|r_and (j:=2) 2 j0 j0 j0 j0 j0 gpn (fun hb1=>g j0 hb1<|mv j0<|g j0 hb1<|leq ti5 j0 j0<|r_nil (egA [6,7] 2 hb1 j0 j0 j0 j0)) andF<|u<|asg j0<|r_nil ?_
 refine sw_ret ?_
 obtain rfl:=h
 exact ⟨_,j0,[],ci j0,j0,j5,j0,j1⟩
def kind_word_k2 (v1 : List UInt8) : Option (Bool) :=
  some ((!(v1 == [])) && (decide ((List.length v1 : Int) ≤ 8)))
def kind_word_l1 (v1 : List UInt8) (v8 : Int) : Option (Sum (Int) (Sum (Unit) (Bool))) :=
  cond (decide (v8 < (List.length v1 : Int))) ((idx v1 v8).bind fun v9=>(cond (!(kind_small v9)) ((idx v1 v8).bind fun v10=>some (!(kind_great v10))) (some false)).bind fun v11=>(cond v11 ((idx v1 v8).bind fun v12=>some (!(kind_digit v12))) (some false)).bind fun v13=>cond v13 (some (.inr (.inr false))) (some (.inl (IntKind.i64.wrap (v8 + 1))))) (some (.inr (.inl ())))
def kind_word (v1 : List UInt8) : Option (Bool) :=
  (loopP (fun z=>kind_word_l1 v1 z) 0).bind fun o=>leave o (fun b=>kind_word_k2 v1) some
theorem kind_word_ok (v1 : List UInt8) {r : Bool} (h : kind_word v1 = some r) : PureC Tryz.prog 86 [sA v1] (bA r):=by
 refine pure_fn Tryz.func86 j0 (by kernel_rfl) j0 j0 ?_
 unfold kind_word at h
 refine rg j0<|u<|asg j0<|r_nil ?_
 refine sw_seq ?_
 refine rg j0<|u<|mv j0<|u<|lnS ti9 j0 j0<|u<|mv j0<|r_nil ?_
 obtain ⟨o,ho,h⟩:=bs h
 refine sw_lpl (X:=Int) (B:=Unit) (R:=Bool) (fun z=>[(0,sA v1),(5,iA (List.length v1 : Int)),(6,iA z)]) (fun z=>[]) (fun b=>[(0,sA v1)]) (fun b=>[]) (fun r env st=>PostF Tryz.prog Tryz.f86 0 (bA r) [] env st) ho ⟨[],ce j0 j0<|ce j0 j0<|ce j0 j0<|cn,j0,j5,j0,j1⟩ ?_ ?_ ?_
 ·
  rintro v8 r h
  replace h : kind_word_l1 v1 v8 = some r:=h
  unfold kind_word_l1 at h
  refine rg j0<|u<|lss ti3 j0 j0<|r_nil ?_
  refine sw_seq ?_
  refine sw_cond j0 (fun hc10=>?_) (fun hc10=>?_)
  ·
   replace h:=bT hc10 h
   refine sw_skip ?_
   refine sw_seq ?_
   refine sw_block ?_
   refine rg j0<|u<|mv j0<|u<|asg j0<|r_nil ?_
   obtain ⟨v9,q11,h⟩:=bs h
   obtain ⟨v11,q14,h⟩:=bs h
   obtain ⟨v13,q17,h⟩:=bs h
   refine rg j0<|u<|mv j0<|u<|mv j0<|u<|ixS ti9 j0 j0 j0 q11<|u<|pc (kind_small_ok v9 j0) j0 j0 j0<|u<|nt j0<|u<|mv j0<|r_and (x:=v11) (j:=5) 5 j0 j0 j0 j0 j0 gpn (fun hb12=>by replace q14:=bT hb12 q14; obtain ⟨v10,q13,q14⟩:=bs q14; obtain rfl:=sm q14; exact g j0 hb12<|mv j0<|g j0 hb12<|mv j0<|g j0 hb12<|ixS ti9 j0 j0 j0 q13<|g j0 hb12<|pc (kind_great_ok v10 j0) j0 j0 j0<|g j0 hb12<|nt j0<|r_nil (eg [15,16,17,18,19] 5 j0 j0 j0 j0)) (fun hb=>(sm (bF hb q14)).symm)<|u<|mv j0<|r_and (x:=v13) (j:=12) 5 j0 j0 j0 j0 j0 gpn (fun hb15=>by replace q17:=bT hb15 q17; obtain ⟨v12,q16,q17⟩:=bs q17; obtain rfl:=sm q17; exact g j0 hb15<|mv j0<|g j0 hb15<|mv j0<|g j0 hb15<|ixS ti9 j0 j0 j0 q16<|g j0 hb15<|pc (kind_digit_ok v12 j0) j0 j0 j0<|g j0 hb15<|nt j0<|r_nil (eg [22,23,24,25,26] 5 j0 j0 j0 j0)) (fun hb=>(sm (bF hb q17)).symm)<|r_nil ?_
   refine sw_cond j0 (fun hc18=>?_) (fun hc18=>?_)
   ·
    replace h:=bT hc18 h
    refine rg j0<|u<|asg j0<|r_nil ?_
    refine sw_ret ?_
    obtain rfl:=sm h
    exact ⟨_,j0,_,j0,[],ci j0,j0,j5,j0,j1⟩
   ·
    replace h:=bF hc18 h
    refine sw_skip ?_
    refine rl j0<|u<|add ti3 j0 j0<|u<|mv j0<|r_nil ?_
    obtain rfl:=sm h
    exact ⟨_,j0,[],ce j0 j0<|ce j0 j0<|ce j0 j0<|cn,j0,j5,j0,j1⟩
  ·
   replace h:=bF hc10 h
   refine sw_exit ?_
   obtain rfl:=sm h
   exact ⟨j0,_,j0,[],ce j0 j0<|cn,j0,j5,j0,j1⟩
 ·
  rintro ⟨⟩ rfl
  replace h : kind_word_k2 v1 = some r:=h
  unfold kind_word_k2 at h
  refine ow_intro ?_
  refine rg j0<|u<|mv j0<|u<|sne ti9 j0 j0<|u<|mv j0<|r_and (j:=2) 3 j0 j0 j0 j0 j0 gpn (fun hb19=>g j0 hb19<|mv j0<|g j0 hb19<|lnS ti9 j0 j0<|g j0 hb19<|leq ti3 j0 j0<|r_nil (egA [32,33,34] 3 hb19 j0 j0 j0 j0)) andF<|u<|asg j0<|r_nil ?_
  refine sw_ret ?_
  obtain rfl:=sm h
  exact ⟨_,j0,[],ci j0,j0,j5,j0,j1⟩
 ·
  rintro r' rfl env st hp
  obtain rfl:=sm h
  exact hp
def kind_Class (v1 : List UInt8) : Option (Bool) :=
  (kind_word v1).bind fun v2=>(cond (v2 && (decide (1 < (List.length v1 : Int)))) ((idx v1 0).bind fun v3=>some (kind_great v3)) (some false)).bind fun v4=>some v4
theorem kind_Class_ok (v1 : List UInt8) {r : Bool} (h : kind_Class v1 = some r) : PureC Tryz.prog 34 [sA v1] (bA r):=by
 refine pure_fn Tryz.func34 j0 (by kernel_rfl) j0 j0 ?_
 unfold kind_Class at h
 refine rg j0<|u<|asg j0<|r_nil ?_
 obtain ⟨v2,q1,h⟩:=bs h
 obtain ⟨v4,q5,h⟩:=bs h
 refine rg j0<|u<|mv j0<|u<|pc (kind_word_ok v1 q1) j0 j0 j0<|u<|mv j0<|r_and (j:=2) 3 j0 j0 j0 j0 j0 gpn (fun hb2=>g j0 hb2<|mv j0<|g j0 hb2<|lnS ti9 j0 j0<|g j0 hb2<|gtr ti3 j0 j0<|r_nil (egA [6,7,8] 3 hb2 j0 j0 j0 j0)) andF<|u<|mv j0<|r_and (x:=v4) (j:=7) 3 j0 j0 j0 j0 j0 gpn (fun hb3=>by replace q5:=bT hb3 q5; obtain ⟨v3,q4,q5⟩:=bs q5; obtain rfl:=sm q5; exact g j0 hb3<|mv j0<|g j0 hb3<|ixS ti9 j0 j0 j0 q4<|g j0 hb3<|pc (kind_great_ok v3 j0) j0 j0 j0<|r_nil (eg [11,12,13] 3 j0 j0 j0 j0)) (fun hb=>(sm (bF hb q5)).symm)<|u<|asg j0<|r_nil ?_
 refine sw_ret ?_
 obtain rfl:=sm h
 exact ⟨_,j0,[],ci j0,j0,j5,j0,j1⟩
def kind_Name (v1 : List UInt8) : Option (Bool) :=
  (cond (v1 == [36,105,110,105,116]) (some true) ((kind_word v1).bind fun v2=>(cond v2 ((idx v1 0).bind fun v3=>some (kind_small v3)) (some false)).bind fun v4=>some v4)).bind fun v5=>some v5
theorem kind_Name_ok (v1 : List UInt8) {r : Bool} (h : kind_Name v1 = some r) : PureC Tryz.prog 28 [sA v1] (bA r):=by
 refine pure_fn Tryz.func28 j0 (by kernel_rfl) j0 j0 ?_
 unfold kind_Name at h
 refine rg j0<|u<|asg j0<|r_nil ?_
 obtain ⟨v5,q6,h⟩:=bs h
 refine rg j0<|u<|mv j0<|u<|seq ti9 j0 j0<|u<|mv j0<|r_or (x:=v5) (j:=2) 7 j0 j0 j0 j0 j0 gpn (fun hb1=>by replace q6:=bF hb1 q6; obtain ⟨v2,q2,q6⟩:=bs q6; obtain ⟨v4,q5,q6⟩:=bs q6; obtain rfl:=sm q6; exact g j0 hb1<|mv j0<|g j0 hb1<|pc (kind_word_ok v1 q2) j0 j0 j0<|g j0 hb1<|mv j0<|r_and (x:=v4) (j:=5) 3 j0 j0 j0 j0 j0 (gps j0 j0 hb1) (fun hb3=>by replace q5:=bT hb3 q5; obtain ⟨v3,q4,q5⟩:=bs q5; obtain rfl:=sm q5; exact g j0 hb3<|mv j0<|g j0 hb3<|ixS ti9 j0 j0 j0 q4<|g j0 hb3<|pc (kind_small_ok v3 j0) j0 j0 j0<|r_nil (eg [9,10,11] 3 j0 j0 j0 j0)) (fun hb=>(sm (bF hb q5)).symm)<|r_nil (eg [6,7,8,9,10,11,12] 4 j0 j0 j0 j0)) (fun hb=>(sm (bT hb q6)).symm)<|u<|asg j0<|r_nil ?_
 refine sw_ret ?_
 obtain rfl:=sm h
 exact ⟨_,j0,[],ci j0,j0,j5,j0,j1⟩
def internal_stringslite_HasPrefix (v1 : List UInt8) (v2 : List UInt8) : Option (Bool) :=
  (cond (decide ((List.length v2 : Int) ≤ (List.length v1 : Int))) ((cutP v1 0 (List.length v2 : Int)).bind fun v3=>some (v3 == v2)) (some false)).bind fun v4=>some v4
theorem internal_stringslite_HasPrefix_ok (v1 : List UInt8) (v2 : List UInt8) {r : Bool} (h : internal_stringslite_HasPrefix v1 v2 = some r) : PureC Tryz.prog 117 [sA v1,sA v2] (bA r):=by
 refine pure_fn Tryz.func117 j0 (by kernel_rfl) j0 j0 ?_
 unfold internal_stringslite_HasPrefix at h
 refine rg j0<|u<|asg j0<|r_nil ?_
 obtain ⟨v4,q3,h⟩:=bs h
 refine rg j0<|u<|mv j0<|u<|lnS ti9 j0 j0<|u<|mv j0<|u<|lnS ti9 j0 j0<|u<|geq ti3 j0 j0<|u<|mv j0<|r_and (x:=v4) (j:=5) 6 j0 j0 j0 j0 j0 gpn (fun hb1=>by replace q3:=bT hb1 q3; obtain ⟨v3,q2,q3⟩:=bs q3; obtain rfl:=sm q3; exact g j0 hb1<|mv j0<|g j0 hb1<|mv j0<|g j0 hb1<|lnS ti9 j0 j0<|g j0 hb1<|slS (a:=0) (b:=(List.length v2 : Int)) ti9 j0 j0 j0 (bnd_hi j0 q2) q2<|g j0 hb1<|mv j0<|g j0 hb1<|seq ti9 j0 j0<|r_nil (eg [11,12,13,14,15,16] 6 j0 j0 j0 j0)) (fun hb=>(sm (bF hb q3)).symm)<|u<|asg j0<|r_nil ?_
 refine sw_ret ?_
 obtain rfl:=sm h
 exact ⟨_,j0,[],ci j0,j0,j5,j0,j1⟩
def internal_stringslite_TrimPrefix (v1 : List UInt8) (v2 : List UInt8) : Option ((List UInt8)) :=
  (internal_stringslite_HasPrefix v1 v2).bind fun v3=>cond v3 ((cutP v1 (List.length v2 : Int) (List.length v1 : Int)).bind fun v4=>some v4) (some v1)
theorem internal_stringslite_TrimPrefix_ok (v1 : List UInt8) (v2 : List UInt8) {r : (List UInt8)} (h : internal_stringslite_TrimPrefix v1 v2 = some r) : PureC Tryz.prog 139 [sA v1,sA v2] (sA r):=by
 refine pure_fn Tryz.func139 j0 (by kernel_rfl) j0 j0 ?_
 unfold internal_stringslite_TrimPrefix at h
 refine rg j0<|u<|asg j0<|r_nil ?_
 refine sw_seq ?_
 obtain ⟨v3,q1,h⟩:=bs h
 refine rg j0<|u<|mv j0<|u<|mv j0<|u<|pc (internal_stringslite_HasPrefix_ok v1 v2 q1) j0 j0 j0<|r_nil ?_
 refine sw_cond j0 (fun hc2=>?_) (fun hc2=>?_)
 ·
  replace h:=bT hc2 h
  obtain ⟨v4,q3,h⟩:=bs h
  refine rg j0<|u<|mv j0<|u<|mv j0<|u<|lnS ti9 j0 j0<|u<|slS (a:=(List.length v2 : Int)) (b:=(List.length v1 : Int)) ti9 j0 j0 (bnd_lo j0 q3) j0 q3<|u<|asg j0<|r_nil ?_
  refine sw_ret ?_
  obtain rfl:=sm h
  exact ⟨_,j0,[],ci j0,j0,j5,j0,j1⟩
 ·
  replace h:=bF hc2 h
  refine sw_skip ?_
  refine rg j0<|u<|mv j0<|u<|asg j0<|r_nil ?_
  refine sw_ret ?_
  obtain rfl:=sm h
  exact ⟨_,j0,[],ci j0,j0,j5,j0,j1⟩
def strings_TrimPrefix (v1 : List UInt8) (v2 : List UInt8) : Option ((List UInt8)) :=
  (internal_stringslite_TrimPrefix v1 v2).bind fun v3=>some v3
theorem strings_TrimPrefix_ok (v1 : List UInt8) (v2 : List UInt8) {r : (List UInt8)} (h : strings_TrimPrefix v1 v2 = some r) : PureC Tryz.prog 88 [sA v1,sA v2] (sA r):=by
 refine pure_fn Tryz.func88 j0 (by kernel_rfl) j0 j0 ?_
 unfold strings_TrimPrefix at h
 refine rg j0<|u<|asg j0<|r_nil ?_
 obtain ⟨v3,q1,h⟩:=bs h
 refine rg j0<|u<|mv j0<|u<|mv j0<|u<|pc (internal_stringslite_TrimPrefix_ok v1 v2 q1) j0 j0 j0<|u<|asg j0<|r_nil ?_
 refine sw_ret ?_
 obtain rfl:=sm h
 exact ⟨_,j0,[],ci j0,j0,j5,j0,j1⟩
def kind_May (v1 : List UInt8) : Option (Bool) :=
  (strings_TrimPrefix v1 [91]).bind fun v2=>(strings_TrimPrefix v2 [91]).bind fun v3=>(cond (v3 == [73]) (some true) ((kind_Class v3).bind fun v4=>some v4)).bind fun v5=>some v5
theorem kind_May_ok (v1 : List UInt8) {r : Bool} (h : kind_May v1 = some r) : PureC Tryz.prog 29 [sA v1] (bA r):=by
 refine pure_fn Tryz.func29 j0 (by kernel_rfl) j0 j0 ?_
 unfold kind_May at h
 refine rg j0<|u<|asg j0<|r_nil ?_
 obtain ⟨v2,q1,h⟩:=bs h
 obtain ⟨v3,q2,h⟩:=bs h
 refine rg j0<|u<|mv j0<|u<|pc (strings_TrimPrefix_ok v1 [91] q1) j0 j0 j0<|u<|pc (strings_TrimPrefix_ok v2 [91] q2) j0 j0 j0<|u<|asg j0<|r_nil ?_
 obtain ⟨v5,q5,h⟩:=bs h
 refine rg j0<|u<|mv j0<|u<|seq ti9 j0 j0<|u<|mv j0<|r_or (x:=v5) (j:=2) 2 j0 j0 j0 j0 j0 gpn (fun hb3=>by replace q5:=bF hb3 q5; obtain ⟨v4,q4,q5⟩:=bs q5; obtain rfl:=sm q5; exact g j0 hb3<|mv j0<|g j0 hb3<|pc (kind_Class_ok v3 q4) j0 j0 j0<|r_nil (eg [9,10] 2 j0 j0 j0 j0)) (fun hb=>(sm (bT hb q5)).symm)<|u<|asg j0<|r_nil ?_
 refine sw_ret ?_
 obtain rfl:=sm h
 exact ⟨_,j0,[],ci j0,j0,j5,j0,j1⟩
def kind_Ref (v1 : List UInt8) : Option (Bool) :=
  (cond (!(v1 == [73])) ((kind_May v1).bind fun v2=>some v2) (some false)).bind fun v3=>some v3
theorem kind_Ref_ok (v1 : List UInt8) {r : Bool} (h : kind_Ref v1 = some r) : PureC Tryz.prog 167 [sA v1] (bA r):=by
 refine pure_fn Tryz.func167 j0 (by kernel_rfl) j0 j0 ?_
 unfold kind_Ref at h
 refine rg j0<|u<|asg j0<|r_nil ?_
 obtain ⟨v3,q3,h⟩:=bs h
 refine rg j0<|u<|mv j0<|u<|sne ti9 j0 j0<|u<|mv j0<|r_and (x:=v3) (j:=2) 2 j0 j0 j0 j0 j0 gpn (fun hb1=>by replace q3:=bT hb1 q3; obtain ⟨v2,q2,q3⟩:=bs q3; obtain rfl:=sm q3; exact g j0 hb1<|mv j0<|g j0 hb1<|pc (kind_May_ok v1 q2) j0 j0 j0<|r_nil (eg [6,7] 2 j0 j0 j0 j0)) (fun hb=>(sm (bF hb q3)).symm)<|u<|asg j0<|r_nil ?_
 refine sw_ret ?_
 obtain rfl:=sm h
 exact ⟨_,j0,[],ci j0,j0,j5,j0,j1⟩
def op_between (v1 : Int) (v2 : Int) (v3 : Int) : Bool :=
  ((decide (v2 ≤ v1)) && (decide (v1 ≤ v3)))
theorem op_between_ok (v1 : Int) (v2 : Int) (v3 : Int) {r : Bool} (h : op_between v1 v2 v3 = r) : PureC Tryz.prog 165 [iA v1,iA v2,iA v3] (bA r):=by
 refine pure_fn Tryz.func165 j0 (by kernel_rfl) j0 j0 ?_
 unfold op_between at h
 refine rg j0<|u<|asg j0<|r_nil ?_
 refine rg j0<|u<|mv j0<|u<|mv j0<|u<|geq ti3 j0 j0<|u<|mv j0<|r_and (j:=3) 3 j0 j0 j0 j0 j0 gpn (fun hb1=>g j0 hb1<|mv j0<|g j0 hb1<|mv j0<|g j0 hb1<|leq ti3 j0 j0<|r_nil (egA [11,12,13] 3 hb1 j0 j0 j0 j0)) andF<|u<|asg j0<|r_nil ?_
 refine sw_ret ?_
 obtain rfl:=h
 exact ⟨_,j0,[],ci j0,j0,j5,j0,j1⟩
def op_known (v1 : Int) : Bool :=
  (op_between v1 1 61)
theorem op_known_ok (v1 : Int) {r : Bool} (h : op_known v1 = r) : PureC Tryz.prog 156 [iA v1] (bA r):=by
 refine pure_fn Tryz.func156 j0 (by kernel_rfl) j0 j0 ?_
 unfold op_known at h
 refine rg j0<|u<|asg j0<|r_nil ?_
 refine rg j0<|u<|mv j0<|u<|pc (op_between_ok v1 1 61 j0) j0 j0 j0<|u<|asg j0<|r_nil ?_
 refine sw_ret ?_
 obtain rfl:=h
 exact ⟨_,j0,[],ci j0,j0,j5,j0,j1⟩
def op_Jumps (v1 : Int) : Bool :=
  (op_between v1 20 36)
theorem op_Jumps_ok (v1 : Int) {r : Bool} (h : op_Jumps v1 = r) : PureC Tryz.prog 132 [iA v1] (bA r):=by
 refine pure_fn Tryz.func132 j0 (by kernel_rfl) j0 j0 ?_
 unfold op_Jumps at h
 refine rg j0<|u<|asg j0<|r_nil ?_
 refine rg j0<|u<|mv j0<|u<|pc (op_between_ok v1 20 36 j0) j0 j0 j0<|u<|asg j0<|r_nil ?_
 refine sw_ret ?_
 obtain rfl:=h
 exact ⟨_,j0,[],ci j0,j0,j5,j0,j1⟩
def op_mayA (v1 : Int) (v2 : Int) : Bool :=
  cond (v1 == (1 : Int)) ((op_between v2 (-2147483648) 2147483647)) (cond ((v1 == (3 : Int)) || (v1 == (4 : Int))) ((op_between v2 0 15)) (cond (op_Jumps v1) ((op_between v2 0 99)) ((v2 == (0 : Int)))))
theorem op_mayA_ok (v1 : Int) (v2 : Int) {r : Bool} (h : op_mayA v1 v2 = r) : PureC Tryz.prog 158 [iA v1,iA v2] (bA r):=by
 refine pure_fn Tryz.func158 j0 (by kernel_rfl) j0 j0 ?_
 unfold op_mayA at h
 refine rg j0<|u<|asg j0<|r_nil ?_
 refine sw_seq ?_
 refine sw_block ?_
 refine rg j0<|u<|mv j0<|u<|eql ti3 j0 j0<|u<|asg j0<|r_nil ?_
 refine sw_cond j0 (fun hc1=>?_) (fun hc1=>?_)
 ·
  replace h:=bT hc1 h
  refine rg j0<|u<|mv j0<|u<|pc (op_between_ok v2 (-2147483648) 2147483647 j0) j0 j0 j0<|u<|asg j0<|r_nil ?_
  refine sw_ret ?_
  obtain rfl:=h
  exact ⟨_,j0,[],ci j0,j0,j5,j0,j1⟩
 ·
  replace h:=bF hc1 h
  refine rg j0<|u<|mv j0<|u<|eql ti3 j0 j0<|u<|mv j0<|r_or (j:=2) 2 j0 j0 j0 j0 j0 gpn (fun hb2=>g j0 hb2<|mv j0<|g j0 hb2<|eql ti3 j0 j0<|r_nil (egO [14,15] 2 hb2 j0 j0 j0 j0)) orT<|u<|asg j0<|r_nil ?_
  refine sw_cond j0 (fun hc3=>?_) (fun hc3=>?_)
  ·
   replace h:=bT hc3 h
   refine rg j0<|u<|mv j0<|u<|pc (op_between_ok v2 0 15 j0) j0 j0 j0<|u<|asg j0<|r_nil ?_
   refine sw_ret ?_
   obtain rfl:=h
   exact ⟨_,j0,[],ci j0,j0,j5,j0,j1⟩
  ·
   replace h:=bF hc3 h
   refine rg j0<|u<|mv j0<|u<|pc (op_Jumps_ok v1 j0) j0 j0 j0<|u<|asg j0<|r_nil ?_
   refine sw_cond j0 (fun hc4=>?_) (fun hc4=>?_)
   ·
    replace h:=bT hc4 h
    refine rg j0<|u<|mv j0<|u<|pc (op_between_ok v2 0 99 j0) j0 j0 j0<|u<|asg j0<|r_nil ?_
    refine sw_ret ?_
    obtain rfl:=h
    exact ⟨_,j0,[],ci j0,j0,j5,j0,j1⟩
   ·
    replace h:=bF hc4 h
    refine sw_skip ?_
    refine rg j0<|u<|mv j0<|u<|eql ti3 j0 j0<|u<|asg j0<|r_nil ?_
    refine sw_ret ?_
    obtain rfl:=h
    exact ⟨_,j0,[],ci j0,j0,j5,j0,j1⟩
def op_typed (v1 : Int) : Bool :=
  (((v1 == (50 : Int)) || (v1 == (56 : Int))) || (v1 == (57 : Int)))
theorem op_typed_ok (v1 : Int) {r : Bool} (h : op_typed v1 = r) : PureC Tryz.prog 172 [iA v1] (bA r):=by
 refine pure_fn Tryz.func172 j0 (by kernel_rfl) j0 j0 ?_
 unfold op_typed at h
 refine rg j0<|u<|asg j0<|r_nil ?_
 refine rg j0<|u<|mv j0<|u<|eql ti3 j0 j0<|u<|mv j0<|r_or (j:=2) 2 j0 j0 j0 j0 j0 gpn (fun hb1=>g j0 hb1<|mv j0<|g j0 hb1<|eql ti3 j0 j0<|r_nil (egO [6,7] 2 hb1 j0 j0 j0 j0)) orT<|u<|mv j0<|r_or (j:=6) 2 j0 j0 j0 j0 j0 gpn (fun hb2=>g j0 hb2<|mv j0<|g j0 hb2<|eql ti3 j0 j0<|r_nil (egO [10,11] 2 hb2 j0 j0 j0 j0)) orT<|u<|asg j0<|r_nil ?_
 refine sw_ret ?_
 obtain rfl:=h
 exact ⟨_,j0,[],ci j0,j0,j5,j0,j1⟩
def op_m (v1 : Int) : Bool :=
  (op_between v1 38 45)
theorem op_m_ok (v1 : Int) {r : Bool} (h : op_m v1 = r) : PureC Tryz.prog 154 [iA v1] (bA r):=by
 refine pure_fn Tryz.func154 j0 (by kernel_rfl) j0 j0 ?_
 unfold op_m at h
 refine rg j0<|u<|asg j0<|r_nil ?_
 refine rg j0<|u<|mv j0<|u<|pc (op_between_ok v1 38 45 j0) j0 j0 j0<|u<|asg j0<|r_nil ?_
 refine sw_ret ?_
 obtain rfl:=h
 exact ⟨_,j0,[],ci j0,j0,j5,j0,j1⟩
def op_c (v1 : Int) : Bool :=
  (((v1 == (37 : Int)) || (op_m v1)) || (op_typed v1))
theorem op_c_ok (v1 : Int) {r : Bool} (h : op_c v1 = r) : PureC Tryz.prog 153 [iA v1] (bA r):=by
 refine pure_fn Tryz.func153 j0 (by kernel_rfl) j0 j0 ?_
 unfold op_c at h
 refine rg j0<|u<|asg j0<|r_nil ?_
 refine rg j0<|u<|mv j0<|u<|eql ti3 j0 j0<|u<|mv j0<|r_or (j:=2) 2 j0 j0 j0 j0 j0 gpn (fun hb1=>g j0 hb1<|mv j0<|g j0 hb1<|pc (op_m_ok v1 j0) j0 j0 j0<|r_nil (egO [6,7] 2 hb1 j0 j0 j0 j0)) orT<|u<|mv j0<|r_or (j:=6) 2 j0 j0 j0 j0 j0 gpn (fun hb2=>g j0 hb2<|mv j0<|g j0 hb2<|pc (op_typed_ok v1 j0) j0 j0 j0<|r_nil (egO [10,11] 2 hb2 j0 j0 j0 j0)) orT<|u<|asg j0<|r_nil ?_
 refine sw_ret ?_
 obtain rfl:=h
 exact ⟨_,j0,[],ci j0,j0,j5,j0,j1⟩
def op_mayC (v1 : Int) (v2 : List UInt8) : Option (Bool) :=
  cond (op_typed v1) ((kind_Ref v2).bind fun v3=>some v3) (cond (op_c v1) ((kind_Class v2).bind fun v4=>some v4) (some (v2 == [])))
theorem op_mayC_ok (v1 : Int) (v2 : List UInt8) {r : Bool} (h : op_mayC v1 v2 = some r) : PureC Tryz.prog 161 [iA v1,sA v2] (bA r):=by
 refine pure_fn Tryz.func161 j0 (by kernel_rfl) j0 j0 ?_
 unfold op_mayC at h
 refine rg j0<|u<|asg j0<|r_nil ?_
 refine sw_seq ?_
 refine sw_block ?_
 refine rg j0<|u<|mv j0<|u<|pc (op_typed_ok v1 j0) j0 j0 j0<|u<|asg j0<|r_nil ?_
 refine sw_cond j0 (fun hc1=>?_) (fun hc1=>?_)
 ·
  replace h:=bT hc1 h
  obtain ⟨v3,q2,h⟩:=bs h
  refine rg j0<|u<|mv j0<|u<|pc (kind_Ref_ok v2 q2) j0 j0 j0<|u<|asg j0<|r_nil ?_
  refine sw_ret ?_
  obtain rfl:=sm h
  exact ⟨_,j0,[],ci j0,j0,j5,j0,j1⟩
 ·
  replace h:=bF hc1 h
  refine rg j0<|u<|mv j0<|u<|pc (op_c_ok v1 j0) j0 j0 j0<|u<|asg j0<|r_nil ?_
  refine sw_cond j0 (fun hc3=>?_) (fun hc3=>?_)
  ·
   replace h:=bT hc3 h
   obtain ⟨v4,q4,h⟩:=bs h
   refine rg j0<|u<|mv j0<|u<|pc (kind_Class_ok v2 q4) j0 j0 j0<|u<|asg j0<|r_nil ?_
   refine sw_ret ?_
   obtain rfl:=sm h
   exact ⟨_,j0,[],ci j0,j0,j5,j0,j1⟩
  ·
   replace h:=bF hc3 h
   refine sw_skip ?_
   refine rg j0<|u<|mv j0<|u<|seq ti9 j0 j0<|u<|asg j0<|r_nil ?_
   refine sw_ret ?_
   obtain rfl:=sm h
   exact ⟨_,j0,[],ci j0,j0,j5,j0,j1⟩
def op_mayM (v1 : Int) (v2 : List UInt8) : Option (Bool) :=
  cond (op_m v1) ((kind_Name v2).bind fun v3=>some (v3 && (!(v2 == [36,105,110,105,116])))) (some (v2 == []))
theorem op_mayM_ok (v1 : Int) (v2 : List UInt8) {r : Bool} (h : op_mayM v1 v2 = some r) : PureC Tryz.prog 163 [iA v1,sA v2] (bA r):=by
 refine pure_fn Tryz.func163 j0 (by kernel_rfl) j0 j0 ?_
 unfold op_mayM at h
 refine rg j0<|u<|asg j0<|r_nil ?_
 refine sw_seq ?_
 refine rg j0<|u<|mv j0<|u<|pc (op_m_ok v1 j0) j0 j0 j0<|r_nil ?_
 refine sw_cond j0 (fun hc1=>?_) (fun hc1=>?_)
 ·
  replace h:=bT hc1 h
  obtain ⟨v3,q2,h⟩:=bs h
  refine rg j0<|u<|mv j0<|u<|pc (kind_Name_ok v2 q2) j0 j0 j0<|u<|mv j0<|r_and (j:=2) 2 j0 j0 j0 j0 j0 gpn (fun hb3=>g j0 hb3<|mv j0<|g j0 hb3<|sne ti9 j0 j0<|r_nil (egA [10,11] 2 hb3 j0 j0 j0 j0)) andF<|u<|asg j0<|r_nil ?_
  refine sw_ret ?_
  obtain rfl:=sm h
  exact ⟨_,j0,[],ci j0,j0,j5,j0,j1⟩
 ·
  replace h:=bF hc1 h
  refine sw_skip ?_
  refine rg j0<|u<|mv j0<|u<|seq ti9 j0 j0<|u<|asg j0<|r_nil ?_
  refine sw_ret ?_
  obtain rfl:=sm h
  exact ⟨_,j0,[],ci j0,j0,j5,j0,j1⟩
def op_May (v1 : ApiIns) : Option (Bool) :=
  (cond ((op_known v1.Op) && (op_mayA v1.Op v1.A)) ((op_mayC v1.Op v1.C).bind fun v2=>some v2) (some false)).bind fun v3=>(cond v3 ((op_mayM v1.Op v1.M).bind fun v4=>some v4) (some false)).bind fun v5=>some v5
theorem op_May_ok (v1 : ApiIns) {r : Bool} (h : op_May v1 = some r) : PureC Tryz.prog 131 [.agg [iA v1.Op,iA v1.A,sA v1.C,sA v1.M]] (bA r):=by
 refine pure_fn Tryz.func131 j0 (by kernel_rfl) j0 j0 ?_
 unfold op_May at h
 refine rg j0<|u<|bx 0 4 j0 j0 j0 j0<|u<|asg j0<|r_nil ?_
 obtain ⟨v3,q4,h⟩:=bs h
 obtain ⟨v5,q7,h⟩:=bs h
 refine rg j0<|u<|fa ti37 j0 j0 j0<|u<|ld ti3 j0 j0<|u<|pc (op_known_ok v1.Op j0) j0 j0 j0<|u<|mv j0<|r_and (j:=3) 5 j0 j0 j0 j0 j0 gpn (fun hb1=>g j0 hb1<|fa ti37 j0 j0 j0<|g j0 hb1<|ld ti3 j0 j0<|g j0 hb1<|fa ti37 j0 j0 j0<|g j0 hb1<|ld ti3 j0 j0<|g j0 hb1<|pc (op_mayA_ok v1.Op v1.A j0) j0 j0 j0<|r_nil (egA [7,8,9,10,11] 5 hb1 j0 j0 j0 j0)) andF<|u<|mv j0<|r_and (x:=v3) (j:=10) 5 j0 j0 j0 j0 j0 gpn (fun hb2=>by replace q4:=bT hb2 q4; obtain ⟨v2,q3,q4⟩:=bs q4; obtain rfl:=sm q4; exact g j0 hb2<|fa ti37 j0 j0 j0<|g j0 hb2<|ld ti3 j0 j0<|g j0 hb2<|fa ti37 j0 j0 j0<|g j0 hb2<|ld ti9 j0 j0<|g j0 hb2<|pc (op_mayC_ok v1.Op v1.C q3) j0 j0 j0<|r_nil (eg [14,15,16,17,18] 5 j0 j0 j0 j0)) (fun hb=>(sm (bF hb q4)).symm)<|u<|mv j0<|r_and (x:=v5) (j:=17) 5 j0 j0 j0 j0 j0 gpn (fun hb5=>by replace q7:=bT hb5 q7; obtain ⟨v4,q6,q7⟩:=bs q7; obtain rfl:=sm q7; exact g j0 hb5<|fa ti37 j0 j0 j0<|g j0 hb5<|ld ti3 j0 j0<|g j0 hb5<|fa ti37 j0 j0 j0<|g j0 hb5<|ld ti9 j0 j0<|g j0 hb5<|pc (op_mayM_ok v1.Op v1.M q6) j0 j0 j0<|r_nil (eg [21,22,23,24,25] 5 j0 j0 j0 j0)) (fun hb=>(sm (bF hb q7)).symm)<|u<|asg j0<|r_nil ?_
 refine sw_ret ?_
 obtain rfl:=sm h
 exact ⟨_,j0,[],ci j0,j0,j5,j0,j1⟩
def ref3_Jumps (v1 : Int) : Bool :=
  ((decide (20 ≤ v1)) && (decide (v1 ≤ 36)))
def ref3_number (v1 : Int) (v2 : Int) : Bool :=
  cond (v1 == (1 : Int)) (((decide ((-2147483648) ≤ v2)) && (decide (v2 < 2147483648)))) (cond (ref3_Jumps v1) (((decide (0 ≤ v2)) && (decide (v2 < 100)))) (((decide (0 ≤ v2)) && (decide (v2 < 16)))))
def op_Ends_j1 (v2 : Bool) : Bool :=
  cond v2 (true) (false)
def op_Ends (v1 : Int) : Bool :=
  cond (v1 == (20 : Int)) (op_Ends_j1 (v1 == (20 : Int))) (cond (v1 == (46 : Int)) (op_Ends_j1 (v1 == (46 : Int))) (cond (v1 == (47 : Int)) (op_Ends_j1 (v1 == (47 : Int))) (cond (v1 == (48 : Int)) (op_Ends_j1 (v1 == (48 : Int))) (cond (v1 == (58 : Int)) (op_Ends_j1 (v1 == (58 : Int))) (op_Ends_j1 (v1 == (61 : Int)))))))
theorem op_Ends_ok (v1 : Int) {r : Bool} (h : op_Ends v1 = r) : PureC Tryz.prog 133 [iA v1] (bA r):=by
 refine pure_fn Tryz.func133 j0 (by kernel_rfl) j0 j0 ?_
 unfold op_Ends at h
 refine rg j0<|u<|asg j0<|r_nil ?_
 refine sw_seq ?_
 refine rg j0<|u<|mv j0<|r_nil ?_
 refine sw_block ?_
 refine sw_meet (X:=Bool) (fun z=>[(4,bA z)]) (fun z=>[]) (fun z=>op_Ends_j1 z = r) ?_ ?_
 ·
  refine rg j0<|u<|eql ti3 j0 j0<|u<|asg j0<|r_nil ?_
  refine sw_cond j0 (fun hc1=>?_) (fun hc1=>?_)
  ·
   replace h:=bT hc1 h
   refine sw_skip ?_
   exact ⟨(v1 == (20 : Int)),h,[],ce j0 j0<|cn,j0,j5,j0,j1⟩
  ·
   replace h:=bF hc1 h
   refine rg j0<|u<|eql ti3 j0 j0<|u<|asg j0<|r_nil ?_
   refine sw_cond j0 (fun hc2=>?_) (fun hc2=>?_)
   ·
    replace h:=bT hc2 h
    refine sw_skip ?_
    exact ⟨(v1 == (46 : Int)),h,[],ce j0 j0<|cn,j0,j5,j0,j1⟩
   ·
    replace h:=bF hc2 h
    refine rg j0<|u<|eql ti3 j0 j0<|u<|asg j0<|r_nil ?_
    refine sw_cond j0 (fun hc3=>?_) (fun hc3=>?_)
    ·
     replace h:=bT hc3 h
     refine sw_skip ?_
     exact ⟨(v1 == (47 : Int)),h,[],ce j0 j0<|cn,j0,j5,j0,j1⟩
    ·
     replace h:=bF hc3 h
     refine rg j0<|u<|eql ti3 j0 j0<|u<|asg j0<|r_nil ?_
     refine sw_cond j0 (fun hc4=>?_) (fun hc4=>?_)
     ·
      replace h:=bT hc4 h
      refine sw_skip ?_
      exact ⟨(v1 == (48 : Int)),h,[],ce j0 j0<|cn,j0,j5,j0,j1⟩
     ·
      replace h:=bF hc4 h
      refine rg j0<|u<|eql ti3 j0 j0<|u<|asg j0<|r_nil ?_
      refine sw_cond j0 (fun hc5=>?_) (fun hc5=>?_)
      ·
       replace h:=bT hc5 h
       refine sw_skip ?_
       exact ⟨(v1 == (58 : Int)),h,[],ce j0 j0<|cn,j0,j5,j0,j1⟩
      ·
       replace h:=bF hc5 h
       exact rl j0<|u<|eql ti3 j0 j0<|u<|asg j0<|r_nil (⟨(v1 == (61 : Int)),h,[],ce j0 j0<|cn,j0,j5,j0,j1⟩)
 ·
  rintro v2 h
  replace h : op_Ends_j1 v2 = r:=h
  unfold op_Ends_j1 at h
  refine sw_cond j0 (fun hc6=>?_) (fun hc6=>?_)
  ·
   replace h:=bT hc6 h
   refine rg j0<|u<|asg j0<|r_nil ?_
   refine sw_ret ?_
   obtain rfl:=h
   exact ⟨_,j0,[],ci j0,j0,j5,j0,j1⟩
  ·
   replace h:=bF hc6 h
   refine sw_skip ?_
   refine rg j0<|u<|asg j0<|r_nil ?_
   refine sw_ret ?_
   obtain rfl:=h
   exact ⟨_,j0,[],ci j0,j0,j5,j0,j1⟩
end
end Go.Proofs.YtdhpdpkcfffpiaaGreat
namespace Go.Proofs.YtdhpdpkcfffpiaaGreat
noncomputable section
set_option linter.unusedSimpArgs false
set_option linter.unusedVariables false
set_option maxRecDepth 100000
set_option maxHeartbeats 4000000
def num_Get_k4 : Option (Int × Int × Int) :=
  some (0,0,2)
def num_Get_j2 (v9 : Int) (v13 : Int) : Option (Sum (Int × Int) (Sum (Unit) (Int × Int × Int))) :=
  some (.inr (.inr (v13,(IntKind.i64.wrap (v9 + 1)),0)))
def num_Get_l3 (v1 : List UInt8) (v8 : Int) (v9 : Int) : Option (Sum (Int × Int) (Sum (Unit) (Int × Int × Int))) :=
  cond (decide (v9 < (List.length v1 : Int))) ((idx v1 v9).bind fun v10=>cond ((v9 == (9 : Int)) && (decide (1 < (v10.toNat : Int)))) (some (.inr (.inr (0,0,1)))) ((shlP .u64 (IntKind.u64.wrap ((v10 &&& (127 : UInt8)).toNat : Int)) (IntKind.i64.wrap (7 * v9))).bind fun v11=>cond (decide (127 < (v10.toNat : Int))) (some (.inl ((orI .u64 v8 v11),(IntKind.i64.wrap (v9 + 1))))) (cond ((decide (0 < v9)) && ((v10.toNat : Int) == (0 : Int))) (some (.inr (.inr (0,0,1)))) ((shrP .u64 (orI .u64 v8 v11) 1).bind fun v12=>cond ((andI .u64 (orI .u64 v8 v11) 1) == (1 : Int)) (num_Get_j2 v9 (xorI .i64 (IntKind.i64.wrap v12))) (num_Get_j2 v9 (IntKind.i64.wrap v12)))))) (some (.inr (.inl ())))
def num_Get (v1 : List UInt8) : Option (Int × Int × Int) :=
  (loopP (fun z=>num_Get_l3 v1 z.1 z.2) (0,0)).bind fun o=>leave o (fun b=>num_Get_k4) some
theorem num_Get_ok (v1 : List UInt8) {r : Int × Int × Int} (h : num_Get v1 = some r) : PureC Tryz.prog 151 [.isl 1 (List.map byteRow v1)] (.tup [iA r.1,iA r.2.1,iA r.2.2]):=by
 refine pure_fn Tryz.func151 j0 (by kernel_rfl) j0 j0 ?_
 unfold num_Get at h
 refine rg j0<|u<|asg j0<|u<|asg j0<|u<|asg j0<|r_nil ?_
 refine rg j0<|u<|asg j0<|r_nil ?_
 refine sw_seq ?_
 refine rg j0<|u<|mv j0<|u<|lnI ti43 j0 j0<|u<|mv j0<|r_nil ?_
 obtain ⟨o,ho,h⟩:=bs h
 refine sw_lpl (X:=Int × Int) (B:=Unit) (R:=Int × Int × Int) (fun z=>[(5,.lit (.int .u64 z.1)),(9,.isl 1 (List.map byteRow v1)),(10,iA (List.length v1 : Int)),(11,iA z.2)]) (fun z=>[]) (fun b=>[]) (fun b=>[]) (fun r env st=>PostF Tryz.prog Tryz.f151 0 (.tup [iA r.1,iA r.2.1,iA r.2.2]) [] env st) ho ⟨[],ce j0 j0<|ce j0 j0<|ce j0 j0<|ce j0 j0<|cn,j0,j5,j0,j1⟩ ?_ ?_ ?_
 ·
  rintro ⟨v8,v9⟩ r h
  replace h : num_Get_l3 v1 v8 v9 = some r:=h
  unfold num_Get_l3 at h
  refine rg j0<|u<|lss ti3 j0 j0<|r_nil ?_
  refine sw_seq ?_
  refine sw_cond j0 (fun hc11=>?_) (fun hc11=>?_)
  ·
   replace h:=bT hc11 h
   refine sw_skip ?_
   refine sw_seq ?_
   refine sw_block ?_
   obtain ⟨v10,q12,h⟩:=bs h
   refine rg j0<|u<|mv j0<|u<|ixI ti43 j0 ti5 j0 j0 j0 q12<|u<|ldI ti5 j0 (idx_some q12).2.2 j0<|u<|asg j0<|u<|asg j0<|r_nil ?_
   refine sw_seq ?_
   refine rg j0<|u<|mv j0<|u<|eql ti3 j0 j0<|u<|mv j0<|r_and (j:=2) 2 j0 j0 j0 j0 j0 gpn (fun hb13=>g j0 hb13<|mv j0<|g j0 hb13<|gtr ti5 j0 j0<|r_nil (egA [19,20] 2 hb13 j0 j0 j0 j0)) andF<|r_nil ?_
   refine sw_cond j0 (fun hc14=>?_) (fun hc14=>?_)
   ·
    replace h:=bT hc14 h
    refine rg j0<|u<|asg j0<|u<|asg j0<|u<|asg j0<|r_nil ?_
    refine sw_ret ?_
    obtain rfl:=sm h
    exact ⟨_,j0,_,j0,[],rsTup ⟨(ci j0),(ci j0),(ci j0),j5⟩,j0,j5,j0,j1⟩
   ·
    replace h:=bF hc14 h
    refine sw_skip ?_
    obtain ⟨v11,q15,h⟩:=bs h
    refine rg j0<|u<|mv j0<|u<|mv j0<|u<|band8 ti5 j0 j0<|u<|cvi ti5 ti121 j0 j0 j0<|u<|mv j0<|u<|mul ti3 j0 j0<|u<|shl ti121 j0 j0 q15<|u<|bor ti121 j0 j0<|u<|asg j0<|r_nil ?_
    refine sw_seq ?_
    refine rg j0<|u<|mv j0<|u<|gtr ti5 j0 j0<|r_nil ?_
    refine sw_cond j0 (fun hc16=>?_) (fun hc16=>?_)
    ·
     replace h:=bT hc16 h
     refine sw_exit ?_
     refine rl j0<|u<|add ti3 j0 j0<|u<|mv j0<|r_nil ?_
     obtain rfl:=sm h
     exact ⟨_,j0,[],ce j0 j0<|ce j0 j0<|ce j0 j0<|ce j0 j0<|cn,j0,j5,j0,j1⟩
    ·
     replace h:=bF hc16 h
     refine sw_skip ?_
     refine sw_seq ?_
     refine rg j0<|u<|mv j0<|u<|gtr ti3 j0 j0<|u<|mv j0<|r_and (j:=2) 2 j0 j0 j0 j0 j0 gpn (fun hb17=>g j0 hb17<|mv j0<|g j0 hb17<|eql ti5 j0 j0<|r_nil (egA [35,36] 2 hb17 j0 j0 j0 j0)) andF<|r_nil ?_
     refine sw_cond j0 (fun hc18=>?_) (fun hc18=>?_)
     ·
      replace h:=bT hc18 h
      refine rg j0<|u<|asg j0<|u<|asg j0<|u<|asg j0<|r_nil ?_
      refine sw_ret ?_
      obtain rfl:=sm h
      exact ⟨_,j0,_,j0,[],rsTup ⟨(ci j0),(ci j0),(ci j0),j5⟩,j0,j5,j0,j1⟩
     ·
      replace h:=bF hc18 h
      refine sw_skip ?_
      obtain ⟨v12,q19,h⟩:=bs h
      refine rg j0<|u<|mv j0<|u<|shr ti121 j0 j0 q19<|u<|cvi ti121 ti2 j0 j0 j0<|u<|asg j0<|r_nil ?_
      refine sw_meet (X:=Int) (fun z=>[(6,iA v9),(8,iA z)]) (fun z=>[]) (fun z=>num_Get_j2 v9 z = some r) ?_ ?_
      ·
       refine rg j0<|u<|mv j0<|u<|band ti121 j0 j0<|u<|eql ti121 j0 j0<|r_nil ?_
       refine sw_cond j0 (fun hc20=>?_) (fun hc20=>?_)
       ·
        replace h:=bT hc20 h
        exact rl j0<|u<|mv j0<|u<|xo j0<|u<|asg j0<|r_nil (⟨(xorI .i64 (IntKind.i64.wrap v12)),h,[],ce j0 j0<|ce j0 j0<|cn,j0,j5,j0,j1⟩)
       ·
        replace h:=bF hc20 h
        refine sw_skip ?_
        exact ⟨(IntKind.i64.wrap v12),h,[],ce j0 j0<|ce j0 j0<|cn,j0,j5,j0,j1⟩
      ·
       rintro v13 h
       replace h : num_Get_j2 v9 v13 = some r:=h
       unfold num_Get_j2 at h
       refine rg j0<|u<|mv j0<|u<|mv j0<|u<|add ti3 j0 j0<|u<|asg j0<|u<|asg j0<|u<|asg j0<|r_nil ?_
       refine sw_ret ?_
       obtain rfl:=sm h
       exact ⟨_,j0,_,j0,[],rsTup ⟨(ci j0),(ci j0),(ci j0),j5⟩,j0,j5,j0,j1⟩
  ·
   replace h:=bF hc11 h
   refine sw_exit ?_
   obtain rfl:=sm h
   exact ⟨j0,_,j0,[],cn,j0,j5,j0,j1⟩
 ·
  rintro ⟨⟩ rfl
  replace h : num_Get_k4 = some r:=h
  unfold num_Get_k4 at h
  refine ow_intro ?_
  refine rg j0<|u<|asg j0<|u<|asg j0<|u<|asg j0<|r_nil ?_
  refine sw_ret ?_
  obtain rfl:=sm h
  exact ⟨_,j0,[],rsTup ⟨(ci j0),(ci j0),(ci j0),j5⟩,j0,j5,j0,j1⟩
 ·
  rintro r' rfl env st hp
  obtain rfl:=sm h
  exact hp
def num_GetText (v1 : List UInt8) : Option ((List UInt8) × Int × Int) :=
  (num_Get v1).bind fun v2=>cond (!(v2.2.2 == (0 : Int))) (some ([],0,v2.2.2)) (cond ((decide (v2.1 < 0)) || (decide (1048576 < v2.1))) (some ([],0,1)) (cond (decide ((IntKind.i64.wrap ((List.length v1 : Int) - v2.2.1)) < v2.1)) (some ([],0,2)) ((cutP v1 v2.2.1 (IntKind.i64.wrap (v2.2.1 + v2.1))).bind fun v3=>some (v3,(IntKind.i64.wrap (v2.2.1 + v2.1)),0))))
theorem num_GetText_ok (v1 : List UInt8) {r : (List UInt8) × Int × Int} (h : num_GetText v1 = some r) : PureC Tryz.prog 119 [.isl 1 (List.map byteRow v1)] (.tup [sA r.1,iA r.2.1,iA r.2.2]):=by
 refine pure_fn Tryz.func119 j0 (by kernel_rfl) j0 j0 ?_
 unfold num_GetText at h
 refine rg j0<|u<|asg j0<|u<|asg j0<|u<|asg j0<|r_nil ?_
 obtain ⟨v2,q1,h⟩:=bs h
 refine rg j0<|u<|mv j0<|u<|pc (num_Get_ok v1 q1) j0 j0 j0<|u<|mv j0<|u<|ex j0 j0<|u<|ex j0 j0<|u<|ex j0 j0<|u<|asg j0<|u<|asg j0<|u<|asg j0<|r_nil ?_
 refine sw_seq ?_
 refine sw_block ?_
 refine rg j0<|u<|mv j0<|u<|neq ti45 j0 j0<|u<|asg j0<|r_nil ?_
 refine sw_cond j0 (fun hc2=>?_) (fun hc2=>?_)
 ·
  replace h:=bT hc2 h
  refine rg j0<|u<|mv j0<|u<|asg j0<|u<|asg j0<|u<|asg j0<|r_nil ?_
  refine sw_ret ?_
  obtain rfl:=sm h
  exact ⟨_,j0,[],rsTup ⟨(ci j0),(ci j0),(ci j0),j5⟩,j0,j5,j0,j1⟩
 ·
  replace h:=bF hc2 h
  refine rg j0<|u<|mv j0<|u<|lss ti2 j0 j0<|u<|mv j0<|r_or (j:=2) 2 j0 j0 j0 j0 j0 gpn (fun hb3=>g j0 hb3<|mv j0<|g j0 hb3<|gtr ti2 j0 j0<|r_nil (egO [22,23] 2 hb3 j0 j0 j0 j0)) orT<|u<|asg j0<|r_nil ?_
  refine sw_cond j0 (fun hc4=>?_) (fun hc4=>?_)
  ·
   replace h:=bT hc4 h
   refine rg j0<|u<|asg j0<|u<|asg j0<|u<|asg j0<|r_nil ?_
   refine sw_ret ?_
   obtain rfl:=sm h
   exact ⟨_,j0,[],rsTup ⟨(ci j0),(ci j0),(ci j0),j5⟩,j0,j5,j0,j1⟩
  ·
   replace h:=bF hc4 h
   refine rg j0<|u<|mv j0<|u<|mv j0<|u<|lnI ti43 j0 j0<|u<|mv j0<|u<|sub ti3 j0 j0<|u<|gtr ti3 j0 j0<|u<|asg j0<|r_nil ?_
   refine sw_cond j0 (fun hc5=>?_) (fun hc5=>?_)
   ·
    replace h:=bT hc5 h
    refine rg j0<|u<|asg j0<|u<|asg j0<|u<|asg j0<|r_nil ?_
    refine sw_ret ?_
    obtain rfl:=sm h
    exact ⟨_,j0,[],rsTup ⟨(ci j0),(ci j0),(ci j0),j5⟩,j0,j5,j0,j1⟩
   ·
    replace h:=bF hc5 h
    refine sw_skip ?_
    obtain ⟨v3,q6,h⟩:=bs h
    refine rg j0<|u<|mv j0<|u<|mv j0<|u<|mv j0<|u<|mv j0<|u<|add ti3 j0 j0<|u<|slI (a:=v2.2.1) (b:=(IntKind.i64.wrap (v2.2.1 + v2.1))) ti43 j0 ti5 j0 j0 (bnd_lo j0 q6) (bnd_hi j0 q6) q6<|u<|cvt (l:=v3) ti43 ti9 j0 j0 ti5 j0 j0 (fun _ h=>by cases h) roI<|u<|mv j0<|u<|mv j0<|u<|add ti3 j0 j0<|u<|asg j0<|u<|asg j0<|u<|asg j0<|r_nil ?_
    refine sw_ret ?_
    obtain rfl:=sm h
    exact ⟨_,j0,[],rsTup ⟨(ci j0),(ci j0),(ci j0),j5⟩,j0,j5,j0,j1⟩
def ref1_Put_k3 (v13 : Int) (v14 : List UInt8) : Option ((List UInt8)) :=
  (appP 1 v14 [(tU8 v13)]).bind fun v15=>some v15
def ref1_Put_l2 (v8 : Int) (v9 : List UInt8) : Option (Sum (Int × (List UInt8)) (Sum (Int × (List UInt8)) ((List UInt8)))) :=
  cond (decide (128 ≤ v8)) ((remP v8 128).bind fun v10=>(appP 1 v9 [(tU8 (IntKind.u64.wrap (v10 + 128)))]).bind fun v11=>(quoP .u64 v8 128).bind fun v12=>some (.inl (v12,v11))) (some (.inr (.inl (v8,v9))))
def ref1_Put_j1 (v2 : Int) : Option ((List UInt8)) :=
  (loopP (fun z=>ref1_Put_l2 z.1 z.2) (v2,[])).bind fun o=>leave o (fun b=>ref1_Put_k3 b.1 b.2) some
def ref1_Put (v1 : Int) : Option ((List UInt8)) :=
  cond (decide (v1 < 0)) (ref1_Put_j1 (xorI .u64 (IntKind.u64.wrap ((IntKind.u64.wrap v1) * 2)))) (ref1_Put_j1 (IntKind.u64.wrap ((IntKind.u64.wrap v1) * 2)))
theorem ref1_Put_ok (v1 : Int) {r : (List UInt8)} (h : ref1_Put v1 = some r) : SC Tryz.prog 61 [iA v1] [] (.msl 0 0 (List.length r)) [.many 1 (List.map byteRow r)]:=by
 refine ⟨⟨sbOk (sz:=1) (fun _=>j0),j5⟩,scall_fn Tryz.func61 j0 (by kernel_rfl) j0 ?_⟩
 unfold ref1_Put at h
 refine rg j0<|u<|asg j0<|r_nil ?_
 refine rg j0<|u<|mv j0<|u<|cvi ti2 ti121 j0 j0 j0<|u<|mul ti121 j0 j0<|u<|asg j0<|r_nil ?_
 refine sw_meet (X:=Int) (fun z=>[(3,.lit (.int .u64 z))]) (fun z=>[]) (fun z=>ref1_Put_j1 z = some r) ?_ ?_
 ·
  refine rg j0<|u<|mv j0<|u<|lss ti2 j0 j0<|r_nil ?_
  refine sw_cond j0 (fun hc1=>?_) (fun hc1=>?_)
  ·
   replace h:=bT hc1 h
   exact rl j0<|u<|mv j0<|u<|xo j0<|u<|asg j0<|r_nil (⟨(xorI .u64 (IntKind.u64.wrap ((IntKind.u64.wrap v1) * 2))),h,[],ce j0 j0<|cn,j0,j5,j0,j1⟩)
  ·
   replace h:=bF hc1 h
   refine sw_skip ?_
   exact ⟨(IntKind.u64.wrap ((IntKind.u64.wrap v1) * 2)),h,[],ce j0 j0<|cn,j0,j5,j0,j1⟩
 ·
  rintro v2 h
  replace h : ref1_Put_j1 v2 = some r:=h
  unfold ref1_Put_j1 at h
  refine rg j0<|u<|asg j0<|r_nil ?_
  obtain ⟨o,ho,h⟩:=bs h
  refine sw_lp (X:=Int × (List UInt8)) (B:=Int × (List UInt8)) (R:=(List UInt8)) (fun z=>[(3,.lit (.int .u64 z.1)),(4,.msl 0 0 (List.length z.2))]) (fun z=>[some (1,List.map byteRow z.2)]) (fun b=>[(3,.lit (.int .u64 b.1)),(4,.msl 0 0 (List.length b.2))]) (fun b=>[some (1,List.map byteRow b.2)]) (fun r env st=>PostF Tryz.prog Tryz.f61 0 (.msl 0 0 (List.length r)) [some (1,List.map byteRow r)] env st) ho ⟨[.fresh 1],ce j0 j0<|cv j0 (.nilown j0)<|cn,j0,⟨j4,j5⟩,j0,j1⟩ ?_ ?_ ?_
  ·
   rintro ⟨v8,v9⟩ r h
   replace h : ref1_Put_l2 v8 v9 = some r:=h
   unfold ref1_Put_l2 at h
   refine sw_seq ?_
   refine rg j0<|u<|mv j0<|u<|geq ti121 j0 j0<|r_nil ?_
   refine sw_cond j0 (fun hc6=>?_) (fun hc6=>?_)
   ·
    replace h:=bT hc6 h
    refine sw_skip ?_
    refine sw_block ?_
    obtain ⟨v10,q7,h⟩:=bs h
    obtain ⟨v11,q8,h⟩:=bs h
    refine rg j0<|u<|mv j0<|u<|mv j0<|u<|rem ti121 j0 j0 q7<|u<|add ti121 j0 j0<|u<|cv8 ti121 ti5 j0 j0 j0<|u<|bl 1 ti43 j0 ti5 j0 (by decide) (by decide) j0 j0 j0<|u<|apM 2 ti43 j0 ti5 j0 j0 (by decide) ti43 j0 j0 j0 j0 (roX (f:=byteRow) (z:=[(tU8 (IntKind.u64.wrap (v10 + 128)))]) j0 j0) (fun _=>j0) j0 q8<|u<|asg j0<|r_nil ?_
    obtain ⟨v12,q9,h⟩:=bs h
    refine rl j0<|u<|mv j0<|u<|quo ti121 j0 j0 q9<|u<|asg j0<|r_nil ?_
    obtain rfl:=sm h
    exact ⟨_,j0,[.old 2],ce j0 j0<|cv j0 (.msl j0)<|cn,j0,⟨⟨_,j0,rsMap (fun _=>j0)⟩,j5⟩,j0,j1⟩
   ·
    replace h:=bF hc6 h
    refine sw_exit ?_
    obtain rfl:=sm h
    exact ⟨j0,_,j0,[.old 0],ce j0 j0<|cv j0 (.msl j0)<|cn,j0,⟨⟨_,j0,rsMap (fun _=>j0)⟩,j5⟩,j0,j1⟩
  ·
   rintro ⟨v13,v14⟩ rfl
   replace h : ref1_Put_k3 v13 v14 = some r:=h
   unfold ref1_Put_k3 at h
   obtain ⟨v15,q10,h⟩:=bs h
   refine rg j0<|u<|mv j0<|u<|mv j0<|u<|cv8 ti121 ti5 j0 j0 j0<|u<|bl 1 ti43 j0 ti5 j0 (by decide) (by decide) j0 j0 j0<|u<|apM 2 ti43 j0 ti5 j0 j0 (by decide) ti43 j0 j0 j0 j0 (roX (f:=byteRow) (z:=[(tU8 v13)]) j0 j0) (fun _=>j0) j0 q10<|u<|asg j0<|r_nil ?_
   refine sw_ret ?_
   obtain rfl:=sm h
   exact ⟨_,j0,[.old 2],.msl j0,j0,⟨⟨_,j0,rsMap (fun _=>j0)⟩,j5⟩,j0,j1⟩
  ·
   rintro r' rfl env st hp
   obtain rfl:=sm h
   exact hp
def ref1_PutText (v1 : List UInt8) : Option ((List UInt8)) :=
  (ref1_Put (List.length v1 : Int)).bind fun v2=>(appP 1 v2 v1).bind fun v3=>some v3
theorem ref1_PutText_ok (v1 : List UInt8) {r : (List UInt8)} (h : ref1_PutText v1 = some r) : SC Tryz.prog 62 [sA v1] [] (.msl 0 0 (List.length r)) [.many 1 (List.map byteRow r)]:=by
 refine ⟨⟨sbOk (sz:=1) (fun _=>j0),j5⟩,scall_fn Tryz.func62 j0 (by kernel_rfl) j0 ?_⟩
 unfold ref1_PutText at h
 refine rg j0<|u<|asg j0<|r_nil ?_
 obtain ⟨v2,q1,h⟩:=bs h
 obtain ⟨v3,q2,h⟩:=bs h
 refine rg j0<|u<|mv j0<|u<|lnS ti9 j0 j0<|u<|sc [] (ref1_Put_ok (List.length v1 : Int) q1) j0 j0 j0 j0 ⟨(rnI j0),j5⟩ j5<|r_can (env0:=[(0,sA v1),(5,.msl 0 0 (List.length v2))]) (st0:=[some (1,List.map byteRow v2)]) ⟨[.old 0],ce j0 j0<|cv j0 (.msl j0)<|cn,j0,⟨⟨_,j0,rsMap (fun _=>j0)⟩,j5⟩,j0,j1⟩<|u<|mv j0<|u<|apMS 1 ti43 j0 ti5 j0 j0 ti9 j0 j0 j0 j0 j0 q2<|u<|asg j0<|r_nil ?_
 refine sw_ret ?_
 obtain rfl:=sm h
 exact ⟨_,j0,[.old 1],.msl j0,j0,⟨⟨_,j0,rsMap (fun _=>j0)⟩,j5⟩,j0,j1⟩
def ref3_EqIns (v1 : ApiIns) (v2 : ApiIns) : Bool :=
  ((((v1.Op == v2.Op) && (v1.A == v2.A)) && (v1.C == v2.C)) && (v1.M == v2.M))
theorem ref3_EqIns_ok (v1 : ApiIns) (v2 : ApiIns) {r : Bool} (h : ref3_EqIns v1 v2 = r) : PureC Tryz.prog 127 [.agg [iA v1.Op,iA v1.A,sA v1.C,sA v1.M],.agg [iA v2.Op,iA v2.A,sA v2.C,sA v2.M]] (bA r):=by
 refine pure_fn Tryz.func127 j0 (by kernel_rfl) j0 j0 ?_
 unfold ref3_EqIns at h
 refine rg j0<|u<|bx 0 4 j0 j0 j0 j0<|u<|bx 1 4 j0 j0 j0 j0<|u<|asg j0<|r_nil ?_
 refine rg j0<|u<|fa ti37 j0 j0 j0<|u<|ld ti3 j0 j0<|u<|fa ti37 j0 j0 j0<|u<|ld ti3 j0 j0<|u<|eql ti3 j0 j0<|u<|mv j0<|r_and (j:=5) 5 j0 j0 j0 j0 j0 gpn (fun hb1=>g j0 hb1<|fa ti37 j0 j0 j0<|g j0 hb1<|ld ti3 j0 j0<|g j0 hb1<|fa ti37 j0 j0 j0<|g j0 hb1<|ld ti3 j0 j0<|g j0 hb1<|eql ti3 j0 j0<|r_nil (egA [11,12,13,14,15] 5 hb1 j0 j0 j0 j0)) andF<|u<|mv j0<|r_and (j:=12) 5 j0 j0 j0 j0 j0 gpn (fun hb2=>g j0 hb2<|fa ti37 j0 j0 j0<|g j0 hb2<|ld ti9 j0 j0<|g j0 hb2<|fa ti37 j0 j0 j0<|g j0 hb2<|ld ti9 j0 j0<|g j0 hb2<|seq ti9 j0 j0<|r_nil (egA [18,19,20,21,22] 5 hb2 j0 j0 j0 j0)) andF<|u<|mv j0<|r_and (j:=19) 5 j0 j0 j0 j0 j0 gpn (fun hb3=>g j0 hb3<|fa ti37 j0 j0 j0<|g j0 hb3<|ld ti9 j0 j0<|g j0 hb3<|fa ti37 j0 j0 j0<|g j0 hb3<|ld ti9 j0 j0<|g j0 hb3<|seq ti9 j0 j0<|r_nil (egA [25,26,27,28,29] 5 hb3 j0 j0 j0 j0)) andF<|u<|asg j0<|r_nil ?_
 refine sw_ret ?_
 obtain rfl:=h
 exact ⟨_,j0,[],ci j0,j0,j5,j0,j1⟩
def op_reader_num_j1 (v2 : Int) (v5 : Int × Int × Int) (v6 : Int) : Option (Int × Int × Int) :=
  some (v5.1,(IntKind.i64.wrap (v2 + v5.2.1)),v6)
def op_reader_num (v1 : List UInt8) (v2 : Int) (v3 : Int) : Option (Int × Int × Int) :=
  cond (!(v3 == (0 : Int))) (some (0,v2,v3)) ((cutP v1 v2 (List.length v1 : Int)).bind fun v4=>(num_Get v4).bind fun v5=>cond ((v5.2.2 == (0 : Int)) && (!(op_known v5.1))) (op_reader_num_j1 v2 v5 1) (op_reader_num_j1 v2 v5 v5.2.2))
theorem op_reader_num_ok (v1 : List UInt8) (v2 : Int) (v3 : Int) {r : Int × Int × Int} (h : op_reader_num v1 v2 v3 = some r) : SC Tryz.prog 155 [.mpt 0 0 0,.fn (.func 156) [] []] [.one 3 [.isl 1 (List.map byteRow v1),iA v2,iA v3]] (iA r.1) [.one 3 [.isl 1 (List.map byteRow v1),iA r.2.1,iA r.2.2]]:=by
 refine ⟨⟨j5,j5⟩,scall_fn Tryz.func155 j0 (by kernel_rfl) j0 ?_⟩
 unfold op_reader_num at h
 refine rg j0<|u<|asg j0<|r_nil ?_
 refine sw_seq ?_
 refine rg j0<|u<|mv j0<|u<|nc j0 j0<|u<|fa ti152 j0 j0 j0<|u<|ld ti45 j0 j0<|u<|neq ti45 j0 j0<|r_nil ?_
 refine sw_cond j0 (fun hc1=>?_) (fun hc1=>?_)
 ·
  replace h:=bT hc1 h
  refine rg j0<|u<|asg j0<|r_nil ?_
  refine sw_ret ?_
  obtain rfl:=sm h
  exact ⟨_,j0,[.old 0],ci j0,j0,⟨⟨_,j0,rsOne ⟨ci j0,ci j0,ci j0,j5⟩⟩,j5⟩,j0,j1⟩
 ·
  replace h:=bF hc1 h
  refine sw_skip ?_
  obtain ⟨v4,q2,h⟩:=bs h
  obtain ⟨v5,q3,h⟩:=bs h
  refine rd [(0,.mpt 0 0 0),(1,.fn (.func 156) [] []),(5,iA v5.1),(6,iA v5.2.1),(7,iA v5.2.2)] [some (3,[[.isl 1 (List.map byteRow v1),iA v2,iA v3]])] [] [16,15,14,13,12,11,10,9,8,7,6,5,4,3,2,1,0] [(7,iA v5.2.2),(6,iA v5.2.1),(5,iA v5.1),(26,iA v5.2.2),(25,iA v5.2.1),(24,iA v5.1),(13,.tup [iA v5.1,iA v5.2.1,iA v5.2.2]),(23,.tup [iA v5.1,iA v5.2.1,iA v5.2.2]),(22,.isl 1 (List.map byteRow v4)),(21,iA v2),(20,.mpt 0 0 1),(19,.mpt 0 0 0),(18,.mpt 0 0 0),(17,.isl 1 (List.map byteRow v1)),(16,.mpt 0 0 0),(15,.mpt 0 0 0),(14,.mpt 0 0 0)] 0 (by kernel_rfl) (by kernel_rfl) j0 (by kernel_rfl) (dt0 ⟨(fun _=>pa j0 j0 j0 j0 (asg j0<|j4)),(fun _=>pa j0 j0 j0 j0 (asg j0<|j4)),(fun _=>pa j0 j0 j0 j0 (asg j0<|j4)),(fun _=>pa j0 j0 j0 j0 (ex j0 j0<|j4)),(fun _=>pa j0 j0 j0 j0 (ex j0 j0<|j4)),(fun _=>pa j0 j0 j0 j0 (ex j0 j0<|j4)),(fun _=>pa j0 j0 j0 j0 (mv j0<|j4)),(fun _=>pa j0 j0 j0 j0 (pc (num_Get_ok v4 q3) j0 j0 j0<|j4)),(fun _=>pa j0 j0 j0 j0 (slI (a:=v2) (b:=(List.length v1 : Int)) ti43 j0 ti5 j0 j0 (bnd_lo j0 q2) j0 q2<|j4)),(fun _=>pa j0 j0 j0 j0 (ld ti3 j0 j0<|j4)),(fun _=>pa j0 j0 j0 j0 (fa ti152 j0 j0 j0<|j4)),(fun _=>pa j0 j0 j0 j0 (nc j0 j0<|j4)),(fun _=>pa j0 j0 j0 j0 (mv j0<|j4)),(fun _=>pa j0 j0 j0 j0 (ld ti43 j0 j0<|j4)),(fun _=>pa j0 j0 j0 j0 (fa ti152 j0 j0 j0<|j4)),(fun _=>pa j0 j0 j0 j0 (nc j0 j0<|j4)),(fun _=>pa j0 j0 j0 j0 (mv j0<|j4)),j5⟩ (by kernel_rfl) j0 ⟨[.old 0],cv j0 (.mpt j0)<|ce j0 j0<|ce j0 j0<|ce j0 j0<|ce j0 j0<|cn,j0,⟨⟨_,j0,rsOne ⟨ci j0,ci j0,ci j0,j5⟩⟩,j5⟩,j0,j1⟩) ?_
  refine sw_meet (X:=Int) (fun z=>[(0,.mpt 0 0 0),(5,iA v5.1),(6,iA v5.2.1),(7,iA z)]) (fun z=>[some (3,[[.isl 1 (List.map byteRow v1),iA v2,iA v3]])]) (fun z=>op_reader_num_j1 v2 v5 z = some r) ?_ ?_
  ·
   refine rg j0<|u<|mv j0<|u<|eql ti45 j0 j0<|u<|mv j0<|r_and (j:=2) 4 j0 j0 j0 j0 j0 gpn (fun hb4=>g j0 hb4<|mv j0<|g j0 hb4<|mv j0<|g j0 hb4<|pc (op_known_ok v5.1 j0) j0 j0 j0<|g j0 hb4<|nt j0<|r_nil (egA [30,31,32,33] 4 hb4 j0 j0 j0 j0)) andF<|r_nil ?_
   refine sw_cond j0 (fun hc5=>?_) (fun hc5=>?_)
   ·
    replace h:=bT hc5 h
    exact rl j0<|u<|asg j0<|r_nil (⟨1,h,[.old 0],cv j0 (.mpt j0)<|ce j0 j0<|ce j0 j0<|ce j0 j0<|cn,j0,⟨⟨_,j0,rsOne ⟨ci j0,ci j0,ci j0,j5⟩⟩,j5⟩,j0,j1⟩)
   ·
    replace h:=bF hc5 h
    refine sw_skip ?_
    exact ⟨v5.2.2,h,[.old 0],cv j0 (.mpt j0)<|ce j0 j0<|ce j0 j0<|ce j0 j0<|cn,j0,⟨⟨_,j0,rsOne ⟨ci j0,ci j0,ci j0,j5⟩⟩,j5⟩,j0,j1⟩
  ·
   rintro v6 h
   replace h : op_reader_num_j1 v2 v5 v6 = some r:=h
   unfold op_reader_num_j1 at h
   refine rg j0<|u<|mv j0<|u<|mv j0<|u<|mv j0<|u<|nc j0 j0<|u<|fa ti152 j0 j0 j0<|u<|ld ti3 j0 j0<|u<|mv j0<|u<|add ti3 j0 j0<|u<|mv j0<|u<|nc j0 j0<|u<|fa ti152 j0 j0 j0<|u<|sto ti3 j0 j0 j0<|u<|nc j0 j0<|u<|fa ti152 j0 j0 j0<|u<|sto ti45 j0 j0 j0<|r_nil ?_
   refine rg j0<|u<|mv j0<|u<|asg j0<|r_nil ?_
   refine sw_ret ?_
   obtain rfl:=sm h
   exact ⟨_,j0,[.old 0],ci j0,j0,⟨⟨_,j0,rsOne ⟨ci j0,ci j0,ci j0,j5⟩⟩,j5⟩,j0,j1⟩
def op_a (v1 : Int) : Bool :=
  ((((v1 == (1 : Int)) || (v1 == (3 : Int))) || (v1 == (4 : Int))) || (op_Jumps v1))
theorem op_a_ok (v1 : Int) {r : Bool} (h : op_a v1 = r) : PureC Tryz.prog 152 [iA v1] (bA r):=by
 refine pure_fn Tryz.func152 j0 (by kernel_rfl) j0 j0 ?_
 unfold op_a at h
 refine rg j0<|u<|asg j0<|r_nil ?_
 refine rg j0<|u<|mv j0<|u<|eql ti3 j0 j0<|u<|mv j0<|r_or (j:=2) 2 j0 j0 j0 j0 j0 gpn (fun hb1=>g j0 hb1<|mv j0<|g j0 hb1<|eql ti3 j0 j0<|r_nil (egO [6,7] 2 hb1 j0 j0 j0 j0)) orT<|u<|mv j0<|r_or (j:=6) 2 j0 j0 j0 j0 j0 gpn (fun hb2=>g j0 hb2<|mv j0<|g j0 hb2<|eql ti3 j0 j0<|r_nil (egO [10,11] 2 hb2 j0 j0 j0 j0)) orT<|u<|mv j0<|r_or (j:=10) 2 j0 j0 j0 j0 j0 gpn (fun hb3=>g j0 hb3<|mv j0<|g j0 hb3<|pc (op_Jumps_ok v1 j0) j0 j0 j0<|r_nil (egO [14,15] 2 hb3 j0 j0 j0 j0)) orT<|u<|asg j0<|r_nil ?_
 refine sw_ret ?_
 obtain rfl:=h
 exact ⟨_,j0,[],ci j0,j0,j5,j0,j1⟩
def op_Get_1 (v1 : Int) (v2 : Int) (v3 : Int) (v4 : List UInt8) (v5 : List UInt8) : Bool :=
  (op_mayA v2 v1)
theorem op_Get_1_ok (v1 : Int) (v2 : Int) (v3 : Int) (v4 : List UInt8) (v5 : List UInt8) {r : Bool} (h : op_Get_1 v1 v2 v3 v4 v5 = r) : PureC Tryz.prog 157 [iA v1,.ipt 4 [[iA v2,iA v3,sA v4,sA v5]] 0 0] (bA r):=by
 refine pure_fn Tryz.func157 j0 (by kernel_rfl) j0 j0 ?_
 unfold op_Get_1 at h
 refine rg j0<|u<|asg j0<|r_nil ?_
 refine rg j0<|u<|fa ti37 j0 j0 j0<|u<|ld ti3 j0 j0<|u<|mv j0<|u<|pc (op_mayA_ok v2 v1 j0) j0 j0 j0<|u<|asg j0<|r_nil ?_
 refine sw_ret ?_
 obtain rfl:=h
 exact ⟨_,j0,[],ci j0,j0,j5,j0,j1⟩
def op_reader_num_s2_j1 (v2 : Int) (v9 : Int × Int × Int) (v10 : Int) : Option (Int × Int × Int) :=
  some (v9.1,(IntKind.i64.wrap (v2 + v9.2.1)),v10)
def op_reader_num_s2 (v1 : List UInt8) (v2 : Int) (v3 : Int) (v4 : Int) (v5 : Int) (v6 : List UInt8) (v7 : List UInt8) : Option (Int × Int × Int) :=
  cond (!(v3 == (0 : Int))) (some (0,v2,v3)) ((cutP v1 v2 (List.length v1 : Int)).bind fun v8=>(num_Get v8).bind fun v9=>cond ((v9.2.2 == (0 : Int)) && (!(op_Get_1 v9.1 v4 v5 v6 v7))) (op_reader_num_s2_j1 v2 v9 1) (op_reader_num_s2_j1 v2 v9 v9.2.2))
theorem op_reader_num_s2_ok (v1 : List UInt8) (v2 : Int) (v3 : Int) (v4 : Int) (v5 : Int) (v6 : List UInt8) (v7 : List UInt8) {r : Int × Int × Int} (h : op_reader_num_s2 v1 v2 v3 v4 v5 v6 v7 = some r) : SC Tryz.prog 155 [.mpt 0 0 0,.fn (.func 157) [] [.mpt 1 0 0]] [.one 3 [.isl 1 (List.map byteRow v1),iA v2,iA v3],.one 4 [iA v4,iA v5,sA v6,sA v7]] (iA r.1) [.one 3 [.isl 1 (List.map byteRow v1),iA r.2.1,iA r.2.2],.one 4 [iA v4,iA v5,sA v6,sA v7]]:=by
 refine ⟨⟨j5,j5,j5⟩,scall_fn Tryz.func155 j0 (by kernel_rfl) j0 ?_⟩
 unfold op_reader_num_s2 at h
 refine rg j0<|u<|asg j0<|r_nil ?_
 refine sw_seq ?_
 refine rg j0<|u<|mv j0<|u<|nc j0 j0<|u<|fa ti152 j0 j0 j0<|u<|ld ti45 j0 j0<|u<|neq ti45 j0 j0<|r_nil ?_
 refine sw_cond j0 (fun hc1=>?_) (fun hc1=>?_)
 ·
  replace h:=bT hc1 h
  refine rg j0<|u<|asg j0<|r_nil ?_
  refine sw_ret ?_
  obtain rfl:=sm h
  exact ⟨_,j0,[.old 0,.old 1],ci j0,j0,⟨⟨_,j0,rsOne ⟨ci j0,ci j0,ci j0,j5⟩⟩,⟨_,j0,rsOne ⟨ci j0,ci j0,ci j0,ci j0,j5⟩⟩,j5⟩,j0,j1⟩
 ·
  replace h:=bF hc1 h
  refine sw_skip ?_
  obtain ⟨v8,q2,h⟩:=bs h
  obtain ⟨v9,q3,h⟩:=bs h
  refine rd [(0,.mpt 0 0 0),(1,.fn (.func 157) [] [.mpt 1 0 0]),(5,iA v9.1),(6,iA v9.2.1),(7,iA v9.2.2)] [some (3,[[.isl 1 (List.map byteRow v1),iA v2,iA v3]]),some (4,[[iA v4,iA v5,sA v6,sA v7]])] [] [16,15,14,13,12,11,10,9,8,7,6,5,4,3,2,1,0] [(7,iA v9.2.2),(6,iA v9.2.1),(5,iA v9.1),(26,iA v9.2.2),(25,iA v9.2.1),(24,iA v9.1),(13,.tup [iA v9.1,iA v9.2.1,iA v9.2.2]),(23,.tup [iA v9.1,iA v9.2.1,iA v9.2.2]),(22,.isl 1 (List.map byteRow v8)),(21,iA v2),(20,.mpt 0 0 1),(19,.mpt 0 0 0),(18,.mpt 0 0 0),(17,.isl 1 (List.map byteRow v1)),(16,.mpt 0 0 0),(15,.mpt 0 0 0),(14,.mpt 0 0 0)] 0 (by kernel_rfl) (by kernel_rfl) j0 (by kernel_rfl) (dt0 ⟨(fun _=>pa j0 j0 j0 j0 (asg j0<|j4)),(fun _=>pa j0 j0 j0 j0 (asg j0<|j4)),(fun _=>pa j0 j0 j0 j0 (asg j0<|j4)),(fun _=>pa j0 j0 j0 j0 (ex j0 j0<|j4)),(fun _=>pa j0 j0 j0 j0 (ex j0 j0<|j4)),(fun _=>pa j0 j0 j0 j0 (ex j0 j0<|j4)),(fun _=>pa j0 j0 j0 j0 (mv j0<|j4)),(fun _=>pa j0 j0 j0 j0 (pc (num_Get_ok v8 q3) j0 j0 j0<|j4)),(fun _=>pa j0 j0 j0 j0 (slI (a:=v2) (b:=(List.length v1 : Int)) ti43 j0 ti5 j0 j0 (bnd_lo j0 q2) j0 q2<|j4)),(fun _=>pa j0 j0 j0 j0 (ld ti3 j0 j0<|j4)),(fun _=>pa j0 j0 j0 j0 (fa ti152 j0 j0 j0<|j4)),(fun _=>pa j0 j0 j0 j0 (nc j0 j0<|j4)),(fun _=>pa j0 j0 j0 j0 (mv j0<|j4)),(fun _=>pa j0 j0 j0 j0 (ld ti43 j0 j0<|j4)),(fun _=>pa j0 j0 j0 j0 (fa ti152 j0 j0 j0<|j4)),(fun _=>pa j0 j0 j0 j0 (nc j0 j0<|j4)),(fun _=>pa j0 j0 j0 j0 (mv j0<|j4)),j5⟩ (by kernel_rfl) j0 ⟨[.old 0,.old 1],cv j0 (.mpt j0)<|cv j0 (rsFn j5 ⟨(.mpt j0),j5⟩)<|ce j0 j0<|ce j0 j0<|ce j0 j0<|cn,j0,⟨⟨_,j0,rsOne ⟨ci j0,ci j0,ci j0,j5⟩⟩,⟨_,j0,rsOne ⟨ci j0,ci j0,ci j0,ci j0,j5⟩⟩,j5⟩,j0,j1⟩) ?_
  refine sw_meet (X:=Int) (fun z=>[(0,.mpt 0 0 0),(5,iA v9.1),(6,iA v9.2.1),(7,iA z)]) (fun z=>[some (3,[[.isl 1 (List.map byteRow v1),iA v2,iA v3]]),some (4,[[iA v4,iA v5,sA v6,sA v7]])]) (fun z=>op_reader_num_s2_j1 v2 v9 z = some r) ?_ ?_
  ·
   refine rg j0<|u<|mv j0<|u<|eql ti45 j0 j0<|u<|mv j0<|r_and (j:=2) 4 j0 j0 j0 j0 j0 gpn (fun hb4=>g j0 hb4<|mv j0<|g j0 hb4<|mv j0<|g j0 hb4<|pcs (op_Get_1_ok v9.1 v4 v5 v6 v7 j0) j0 j0 (.cons (si j0) (.cons (sealBox j0 ⟨(si j0),(si j0),(si j0),(si j0),j5⟩) .nil)) plainB<|g j0 hb4<|nt j0<|r_nil (egA [30,31,32,33] 4 hb4 j0 j0 j0 j0)) andF<|r_nil ?_
   refine sw_cond j0 (fun hc5=>?_) (fun hc5=>?_)
   ·
    replace h:=bT hc5 h
    exact rl j0<|u<|asg j0<|r_nil (⟨1,h,[.old 0,.old 1],cv j0 (.mpt j0)<|ce j0 j0<|ce j0 j0<|ce j0 j0<|cn,j0,⟨⟨_,j0,rsOne ⟨ci j0,ci j0,ci j0,j5⟩⟩,⟨_,j0,rsOne ⟨ci j0,ci j0,ci j0,ci j0,j5⟩⟩,j5⟩,j0,j1⟩)
   ·
    replace h:=bF hc5 h
    refine sw_skip ?_
    exact ⟨v9.2.2,h,[.old 0,.old 1],cv j0 (.mpt j0)<|ce j0 j0<|ce j0 j0<|ce j0 j0<|cn,j0,⟨⟨_,j0,rsOne ⟨ci j0,ci j0,ci j0,j5⟩⟩,⟨_,j0,rsOne ⟨ci j0,ci j0,ci j0,ci j0,j5⟩⟩,j5⟩,j0,j1⟩
  ·
   rintro v10 h
   replace h : op_reader_num_s2_j1 v2 v9 v10 = some r:=h
   unfold op_reader_num_s2_j1 at h
   refine rg j0<|u<|mv j0<|u<|mv j0<|u<|mv j0<|u<|nc j0 j0<|u<|fa ti152 j0 j0 j0<|u<|ld ti3 j0 j0<|u<|mv j0<|u<|add ti3 j0 j0<|u<|mv j0<|u<|nc j0 j0<|u<|fa ti152 j0 j0 j0<|u<|sto ti3 j0 j0 j0<|u<|nc j0 j0<|u<|fa ti152 j0 j0 j0<|u<|sto ti45 j0 j0 j0<|r_nil ?_
   refine rg j0<|u<|mv j0<|u<|asg j0<|r_nil ?_
   refine sw_ret ?_
   obtain rfl:=sm h
   exact ⟨_,j0,[.old 0,.old 1],ci j0,j0,⟨⟨_,j0,rsOne ⟨ci j0,ci j0,ci j0,j5⟩⟩,⟨_,j0,rsOne ⟨ci j0,ci j0,ci j0,ci j0,j5⟩⟩,j5⟩,j0,j1⟩
def op_Get_2 (v1 : List UInt8) (v2 : Int) (v3 : Int) (v4 : List UInt8) (v5 : List UInt8) : Option (Bool) :=
  (op_mayC v2 v1).bind fun v6=>some v6
theorem op_Get_2_ok (v1 : List UInt8) (v2 : Int) (v3 : Int) (v4 : List UInt8) (v5 : List UInt8) {r : Bool} (h : op_Get_2 v1 v2 v3 v4 v5 = some r) : PureC Tryz.prog 160 [sA v1,.ipt 4 [[iA v2,iA v3,sA v4,sA v5]] 0 0] (bA r):=by
 refine pure_fn Tryz.func160 j0 (by kernel_rfl) j0 j0 ?_
 unfold op_Get_2 at h
 refine rg j0<|u<|asg j0<|r_nil ?_
 obtain ⟨v6,q1,h⟩:=bs h
 refine rg j0<|u<|fa ti37 j0 j0 j0<|u<|ld ti3 j0 j0<|u<|mv j0<|u<|pc (op_mayC_ok v2 v1 q1) j0 j0 j0<|u<|asg j0<|r_nil ?_
 refine sw_ret ?_
 obtain rfl:=sm h
 exact ⟨_,j0,[],ci j0,j0,j5,j0,j1⟩
def op_reader_text_j1 (v2 : Int) (v9 : (List UInt8) × Int × Int) (v12 : Int) : Option ((List UInt8) × Int × Int) :=
  some (v9.1,(IntKind.i64.wrap (v2 + v9.2.1)),v12)
def op_reader_text (v1 : List UInt8) (v2 : Int) (v3 : Int) (v4 : Int) (v5 : Int) (v6 : List UInt8) (v7 : List UInt8) : Option ((List UInt8) × Int × Int) :=
  cond (!(v3 == (0 : Int))) (some ([],v2,v3)) ((cutP v1 v2 (List.length v1 : Int)).bind fun v8=>(num_GetText v8).bind fun v9=>(cond (v9.2.2 == (0 : Int)) ((op_Get_2 v9.1 v4 v5 v6 v7).bind fun v10=>some (!v10)) (some false)).bind fun v11=>cond v11 (op_reader_text_j1 v2 v9 1) (op_reader_text_j1 v2 v9 v9.2.2))
theorem op_reader_text_ok (v1 : List UInt8) (v2 : Int) (v3 : Int) (v4 : Int) (v5 : Int) (v6 : List UInt8) (v7 : List UInt8) {r : (List UInt8) × Int × Int} (h : op_reader_text v1 v2 v3 v4 v5 v6 v7 = some r) : SC Tryz.prog 159 [.mpt 0 0 0,.fn (.func 160) [] [.mpt 1 0 0]] [.one 3 [.isl 1 (List.map byteRow v1),iA v2,iA v3],.one 4 [iA v4,iA v5,sA v6,sA v7]] (sA r.1) [.one 3 [.isl 1 (List.map byteRow v1),iA r.2.1,iA r.2.2],.one 4 [iA v4,iA v5,sA v6,sA v7]]:=by
 refine ⟨⟨j5,j5,j5⟩,scall_fn Tryz.func159 j0 (by kernel_rfl) j0 ?_⟩
 unfold op_reader_text at h
 refine rg j0<|u<|asg j0<|r_nil ?_
 refine sw_seq ?_
 refine rg j0<|u<|mv j0<|u<|nc j0 j0<|u<|fa ti152 j0 j0 j0<|u<|ld ti45 j0 j0<|u<|neq ti45 j0 j0<|r_nil ?_
 refine sw_cond j0 (fun hc1=>?_) (fun hc1=>?_)
 ·
  replace h:=bT hc1 h
  refine rg j0<|u<|asg j0<|r_nil ?_
  refine sw_ret ?_
  obtain rfl:=sm h
  exact ⟨_,j0,[.old 0,.old 1],ci j0,j0,⟨⟨_,j0,rsOne ⟨ci j0,ci j0,ci j0,j5⟩⟩,⟨_,j0,rsOne ⟨ci j0,ci j0,ci j0,ci j0,j5⟩⟩,j5⟩,j0,j1⟩
 ·
  replace h:=bF hc1 h
  refine sw_skip ?_
  obtain ⟨v8,q2,h⟩:=bs h
  obtain ⟨v9,q3,h⟩:=bs h
  refine rd [(0,.mpt 0 0 0),(1,.fn (.func 160) [] [.mpt 1 0 0]),(5,sA v9.1),(6,iA v9.2.1),(7,iA v9.2.2)] [some (3,[[.isl 1 (List.map byteRow v1),iA v2,iA v3]]),some (4,[[iA v4,iA v5,sA v6,sA v7]])] [] [16,15,14,13,12,11,10,9,8,7,6,5,4,3,2,1,0] [(7,iA v9.2.2),(6,iA v9.2.1),(5,sA v9.1),(26,iA v9.2.2),(25,iA v9.2.1),(24,sA v9.1),(13,.tup [sA v9.1,iA v9.2.1,iA v9.2.2]),(23,.tup [sA v9.1,iA v9.2.1,iA v9.2.2]),(22,.isl 1 (List.map byteRow v8)),(21,iA v2),(20,.mpt 0 0 1),(19,.mpt 0 0 0),(18,.mpt 0 0 0),(17,.isl 1 (List.map byteRow v1)),(16,.mpt 0 0 0),(15,.mpt 0 0 0),(14,.mpt 0 0 0)] 0 (by kernel_rfl) (by kernel_rfl) j0 (by kernel_rfl) (dt0 ⟨(fun _=>pa j0 j0 j0 j0 (asg j0<|j4)),(fun _=>pa j0 j0 j0 j0 (asg j0<|j4)),(fun _=>pa j0 j0 j0 j0 (asg j0<|j4)),(fun _=>pa j0 j0 j0 j0 (ex j0 j0<|j4)),(fun _=>pa j0 j0 j0 j0 (ex j0 j0<|j4)),(fun _=>pa j0 j0 j0 j0 (ex j0 j0<|j4)),(fun _=>pa j0 j0 j0 j0 (mv j0<|j4)),(fun _=>pa j0 j0 j0 j0 (pc (num_GetText_ok v8 q3) j0 j0 j0<|j4)),(fun _=>pa j0 j0 j0 j0 (slI (a:=v2) (b:=(List.length v1 : Int)) ti43 j0 ti5 j0 j0 (bnd_lo j0 q2) j0 q2<|j4)),(fun _=>pa j0 j0 j0 j0 (ld ti3 j0 j0<|j4)),(fun _=>pa j0 j0 j0 j0 (fa ti152 j0 j0 j0<|j4)),(fun _=>pa j0 j0 j0 j0 (nc j0 j0<|j4)),(fun _=>pa j0 j0 j0 j0 (mv j0<|j4)),(fun _=>pa j0 j0 j0 j0 (ld ti43 j0 j0<|j4)),(fun _=>pa j0 j0 j0 j0 (fa ti152 j0 j0 j0<|j4)),(fun _=>pa j0 j0 j0 j0 (nc j0 j0<|j4)),(fun _=>pa j0 j0 j0 j0 (mv j0<|j4)),j5⟩ (by kernel_rfl) j0 ⟨[.old 0,.old 1],cv j0 (.mpt j0)<|cv j0 (rsFn j5 ⟨(.mpt j0),j5⟩)<|ce j0 j0<|ce j0 j0<|ce j0 j0<|cn,j0,⟨⟨_,j0,rsOne ⟨ci j0,ci j0,ci j0,j5⟩⟩,⟨_,j0,rsOne ⟨ci j0,ci j0,ci j0,ci j0,j5⟩⟩,j5⟩,j0,j1⟩) ?_
  refine sw_meet (X:=Int) (fun z=>[(0,.mpt 0 0 0),(5,sA v9.1),(6,iA v9.2.1),(7,iA z)]) (fun z=>[some (3,[[.isl 1 (List.map byteRow v1),iA v2,iA v3]]),some (4,[[iA v4,iA v5,sA v6,sA v7]])]) (fun z=>op_reader_text_j1 v2 v9 z = some r) ?_ ?_
  ·
   obtain ⟨v11,q6,h⟩:=bs h
   refine rg j0<|u<|mv j0<|u<|eql ti45 j0 j0<|u<|mv j0<|r_and (x:=v11) (j:=2) 4 j0 j0 j0 j0 j0 gpn (fun hb4=>by replace q6:=bT hb4 q6; obtain ⟨v10,q5,q6⟩:=bs q6; obtain rfl:=sm q6; exact g j0 hb4<|mv j0<|g j0 hb4<|mv j0<|g j0 hb4<|pcs (op_Get_2_ok v9.1 v4 v5 v6 v7 q5) j0 j0 (.cons (si j0) (.cons (sealBox j0 ⟨(si j0),(si j0),(si j0),(si j0),j5⟩) .nil)) plainB<|g j0 hb4<|nt j0<|r_nil (eg [30,31,32,33] 4 j0 j0 j0 j0)) (fun hb=>(sm (bF hb q6)).symm)<|r_nil ?_
   refine sw_cond j0 (fun hc7=>?_) (fun hc7=>?_)
   ·
    replace h:=bT hc7 h
    exact rl j0<|u<|asg j0<|r_nil (⟨1,h,[.old 0,.old 1],cv j0 (.mpt j0)<|ce j0 j0<|ce j0 j0<|ce j0 j0<|cn,j0,⟨⟨_,j0,rsOne ⟨ci j0,ci j0,ci j0,j5⟩⟩,⟨_,j0,rsOne ⟨ci j0,ci j0,ci j0,ci j0,j5⟩⟩,j5⟩,j0,j1⟩)
   ·
    replace h:=bF hc7 h
    refine sw_skip ?_
    exact ⟨v9.2.2,h,[.old 0,.old 1],cv j0 (.mpt j0)<|ce j0 j0<|ce j0 j0<|ce j0 j0<|cn,j0,⟨⟨_,j0,rsOne ⟨ci j0,ci j0,ci j0,j5⟩⟩,⟨_,j0,rsOne ⟨ci j0,ci j0,ci j0,ci j0,j5⟩⟩,j5⟩,j0,j1⟩
  ·
   rintro v12 h
   replace h : op_reader_text_j1 v2 v9 v12 = some r:=h
   unfold op_reader_text_j1 at h
   refine rg j0<|u<|mv j0<|u<|mv j0<|u<|mv j0<|u<|nc j0 j0<|u<|fa ti152 j0 j0 j0<|u<|ld ti3 j0 j0<|u<|mv j0<|u<|add ti3 j0 j0<|u<|mv j0<|u<|nc j0 j0<|u<|fa ti152 j0 j0 j0<|u<|sto ti3 j0 j0 j0<|u<|nc j0 j0<|u<|fa ti152 j0 j0 j0<|u<|sto ti45 j0 j0 j0<|r_nil ?_
   refine rg j0<|u<|mv j0<|u<|asg j0<|r_nil ?_
   refine sw_ret ?_
   obtain rfl:=sm h
   exact ⟨_,j0,[.old 0,.old 1],ci j0,j0,⟨⟨_,j0,rsOne ⟨ci j0,ci j0,ci j0,j5⟩⟩,⟨_,j0,rsOne ⟨ci j0,ci j0,ci j0,ci j0,j5⟩⟩,j5⟩,j0,j1⟩
def op_Get_3 (v1 : List UInt8) (v2 : Int) (v3 : Int) (v4 : List UInt8) (v5 : List UInt8) : Option (Bool) :=
  (op_mayM v2 v1).bind fun v6=>some v6
theorem op_Get_3_ok (v1 : List UInt8) (v2 : Int) (v3 : Int) (v4 : List UInt8) (v5 : List UInt8) {r : Bool} (h : op_Get_3 v1 v2 v3 v4 v5 = some r) : PureC Tryz.prog 162 [sA v1,.ipt 4 [[iA v2,iA v3,sA v4,sA v5]] 0 0] (bA r):=by
 refine pure_fn Tryz.func162 j0 (by kernel_rfl) j0 j0 ?_
 unfold op_Get_3 at h
 refine rg j0<|u<|asg j0<|r_nil ?_
 obtain ⟨v6,q1,h⟩:=bs h
 refine rg j0<|u<|fa ti37 j0 j0 j0<|u<|ld ti3 j0 j0<|u<|mv j0<|u<|pc (op_mayM_ok v2 v1 q1) j0 j0 j0<|u<|asg j0<|r_nil ?_
 refine sw_ret ?_
 obtain rfl:=sm h
 exact ⟨_,j0,[],ci j0,j0,j5,j0,j1⟩
def op_reader_text_s2_j1 (v2 : Int) (v9 : (List UInt8) × Int × Int) (v12 : Int) : Option ((List UInt8) × Int × Int) :=
  some (v9.1,(IntKind.i64.wrap (v2 + v9.2.1)),v12)
def op_reader_text_s2 (v1 : List UInt8) (v2 : Int) (v3 : Int) (v4 : Int) (v5 : Int) (v6 : List UInt8) (v7 : List UInt8) : Option ((List UInt8) × Int × Int) :=
  cond (!(v3 == (0 : Int))) (some ([],v2,v3)) ((cutP v1 v2 (List.length v1 : Int)).bind fun v8=>(num_GetText v8).bind fun v9=>(cond (v9.2.2 == (0 : Int)) ((op_Get_3 v9.1 v4 v5 v6 v7).bind fun v10=>some (!v10)) (some false)).bind fun v11=>cond v11 (op_reader_text_s2_j1 v2 v9 1) (op_reader_text_s2_j1 v2 v9 v9.2.2))
theorem op_reader_text_s2_ok (v1 : List UInt8) (v2 : Int) (v3 : Int) (v4 : Int) (v5 : Int) (v6 : List UInt8) (v7 : List UInt8) {r : (List UInt8) × Int × Int} (h : op_reader_text_s2 v1 v2 v3 v4 v5 v6 v7 = some r) : SC Tryz.prog 159 [.mpt 0 0 0,.fn (.func 162) [] [.mpt 1 0 0]] [.one 3 [.isl 1 (List.map byteRow v1),iA v2,iA v3],.one 4 [iA v4,iA v5,sA v6,sA v7]] (sA r.1) [.one 3 [.isl 1 (List.map byteRow v1),iA r.2.1,iA r.2.2],.one 4 [iA v4,iA v5,sA v6,sA v7]]:=by
 refine ⟨⟨j5,j5,j5⟩,scall_fn Tryz.func159 j0 (by kernel_rfl) j0 ?_⟩
 unfold op_reader_text_s2 at h
 refine rg j0<|u<|asg j0<|r_nil ?_
 refine sw_seq ?_
 refine rg j0<|u<|mv j0<|u<|nc j0 j0<|u<|fa ti152 j0 j0 j0<|u<|ld ti45 j0 j0<|u<|neq ti45 j0 j0<|r_nil ?_
 refine sw_cond j0 (fun hc1=>?_) (fun hc1=>?_)
 ·
  replace h:=bT hc1 h
  refine rg j0<|u<|asg j0<|r_nil ?_
  refine sw_ret ?_
  obtain rfl:=sm h
  exact ⟨_,j0,[.old 0,.old 1],ci j0,j0,⟨⟨_,j0,rsOne ⟨ci j0,ci j0,ci j0,j5⟩⟩,⟨_,j0,rsOne ⟨ci j0,ci j0,ci j0,ci j0,j5⟩⟩,j5⟩,j0,j1⟩
 ·
  replace h:=bF hc1 h
  refine sw_skip ?_
  obtain ⟨v8,q2,h⟩:=bs h
  obtain ⟨v9,q3,h⟩:=bs h
  refine rd [(0,.mpt 0 0 0),(1,.fn (.func 162) [] [.mpt 1 0 0]),(5,sA v9.1),(6,iA v9.2.1),(7,iA v9.2.2)] [some (3,[[.isl 1 (List.map byteRow v1),iA v2,iA v3]]),some (4,[[iA v4,iA v5,sA v6,sA v7]])] [] [16,15,14,13,12,11,10,9,8,7,6,5,4,3,2,1,0] [(7,iA v9.2.2),(6,iA v9.2.1),(5,sA v9.1),(26,iA v9.2.2),(25,iA v9.2.1),(24,sA v9.1),(13,.tup [sA v9.1,iA v9.2.1,iA v9.2.2]),(23,.tup [sA v9.1,iA v9.2.1,iA v9.2.2]),(22,.isl 1 (List.map byteRow v8)),(21,iA v2),(20,.mpt 0 0 1),(19,.mpt 0 0 0),(18,.mpt 0 0 0),(17,.isl 1 (List.map byteRow v1)),(16,.mpt 0 0 0),(15,.mpt 0 0 0),(14,.mpt 0 0 0)] 0 (by kernel_rfl) (by kernel_rfl) j0 (by kernel_rfl) (dt0 ⟨(fun _=>pa j0 j0 j0 j0 (asg j0<|j4)),(fun _=>pa j0 j0 j0 j0 (asg j0<|j4)),(fun _=>pa j0 j0 j0 j0 (asg j0<|j4)),(fun _=>pa j0 j0 j0 j0 (ex j0 j0<|j4)),(fun _=>pa j0 j0 j0 j0 (ex j0 j0<|j4)),(fun _=>pa j0 j0 j0 j0 (ex j0 j0<|j4)),(fun _=>pa j0 j0 j0 j0 (mv j0<|j4)),(fun _=>pa j0 j0 j0 j0 (pc (num_GetText_ok v8 q3) j0 j0 j0<|j4)),(fun _=>pa j0 j0 j0 j0 (slI (a:=v2) (b:=(List.length v1 : Int)) ti43 j0 ti5 j0 j0 (bnd_lo j0 q2) j0 q2<|j4)),(fun _=>pa j0 j0 j0 j0 (ld ti3 j0 j0<|j4)),(fun _=>pa j0 j0 j0 j0 (fa ti152 j0 j0 j0<|j4)),(fun _=>pa j0 j0 j0 j0 (nc j0 j0<|j4)),(fun _=>pa j0 j0 j0 j0 (mv j0<|j4)),(fun _=>pa j0 j0 j0 j0 (ld ti43 j0 j0<|j4)),(fun _=>pa j0 j0 j0 j0 (fa ti152 j0 j0 j0<|j4)),(fun _=>pa j0 j0 j0 j0 (nc j0 j0<|j4)),(fun _=>pa j0 j0 j0 j0 (mv j0<|j4)),j5⟩ (by kernel_rfl) j0 ⟨[.old 0,.old 1],cv j0 (.mpt j0)<|cv j0 (rsFn j5 ⟨(.mpt j0),j5⟩)<|ce j0 j0<|ce j0 j0<|ce j0 j0<|cn,j0,⟨⟨_,j0,rsOne ⟨ci j0,ci j0,ci j0,j5⟩⟩,⟨_,j0,rsOne ⟨ci j0,ci j0,ci j0,ci j0,j5⟩⟩,j5⟩,j0,j1⟩) ?_
  refine sw_meet (X:=Int) (fun z=>[(0,.mpt 0 0 0),(5,sA v9.1),(6,iA v9.2.1),(7,iA z)]) (fun z=>[some (3,[[.isl 1 (List.map byteRow v1),iA v2,iA v3]]),some (4,[[iA v4,iA v5,sA v6,sA v7]])]) (fun z=>op_reader_text_s2_j1 v2 v9 z = some r) ?_ ?_
  ·
   obtain ⟨v11,q6,h⟩:=bs h
   refine rg j0<|u<|mv j0<|u<|eql ti45 j0 j0<|u<|mv j0<|r_and (x:=v11) (j:=2) 4 j0 j0 j0 j0 j0 gpn (fun hb4=>by replace q6:=bT hb4 q6; obtain ⟨v10,q5,q6⟩:=bs q6; obtain rfl:=sm q6; exact g j0 hb4<|mv j0<|g j0 hb4<|mv j0<|g j0 hb4<|pcs (op_Get_3_ok v9.1 v4 v5 v6 v7 q5) j0 j0 (.cons (si j0) (.cons (sealBox j0 ⟨(si j0),(si j0),(si j0),(si j0),j5⟩) .nil)) plainB<|g j0 hb4<|nt j0<|r_nil (eg [30,31,32,33] 4 j0 j0 j0 j0)) (fun hb=>(sm (bF hb q6)).symm)<|r_nil ?_
   refine sw_cond j0 (fun hc7=>?_) (fun hc7=>?_)
   ·
    replace h:=bT hc7 h
    exact rl j0<|u<|asg j0<|r_nil (⟨1,h,[.old 0,.old 1],cv j0 (.mpt j0)<|ce j0 j0<|ce j0 j0<|ce j0 j0<|cn,j0,⟨⟨_,j0,rsOne ⟨ci j0,ci j0,ci j0,j5⟩⟩,⟨_,j0,rsOne ⟨ci j0,ci j0,ci j0,ci j0,j5⟩⟩,j5⟩,j0,j1⟩)
   ·
    replace h:=bF hc7 h
    refine sw_skip ?_
    exact ⟨v9.2.2,h,[.old 0,.old 1],cv j0 (.mpt j0)<|ce j0 j0<|ce j0 j0<|ce j0 j0<|cn,j0,⟨⟨_,j0,rsOne ⟨ci j0,ci j0,ci j0,j5⟩⟩,⟨_,j0,rsOne ⟨ci j0,ci j0,ci j0,ci j0,j5⟩⟩,j5⟩,j0,j1⟩
  ·
   rintro v12 h
   replace h : op_reader_text_s2_j1 v2 v9 v12 = some r:=h
   unfold op_reader_text_s2_j1 at h
   refine rg j0<|u<|mv j0<|u<|mv j0<|u<|mv j0<|u<|nc j0 j0<|u<|fa ti152 j0 j0 j0<|u<|ld ti3 j0 j0<|u<|mv j0<|u<|add ti3 j0 j0<|u<|mv j0<|u<|nc j0 j0<|u<|fa ti152 j0 j0 j0<|u<|sto ti3 j0 j0 j0<|u<|nc j0 j0<|u<|fa ti152 j0 j0 j0<|u<|sto ti45 j0 j0 j0<|r_nil ?_
   refine rg j0<|u<|mv j0<|u<|asg j0<|r_nil ?_
   refine sw_ret ?_
   obtain rfl:=sm h
   exact ⟨_,j0,[.old 0,.old 1],ci j0,j0,⟨⟨_,j0,rsOne ⟨ci j0,ci j0,ci j0,j5⟩⟩,⟨_,j0,rsOne ⟨ci j0,ci j0,ci j0,ci j0,j5⟩⟩,j5⟩,j0,j1⟩
def op_Get_j3 (v2 : Int × Int × Int) (v6 : Int) (v10 : List UInt8) (v12 : Int) (v13 : Int) (v14 : List UInt8) : Option (ApiIns × Int × Int) :=
  cond (!(v13 == (0 : Int))) (some ((ApiIns.mk 0 0 [] []),0,v13)) (some ((ApiIns.mk v2.1 v6 v10 v14),v12,0))
def op_Get_j2 (v1 : List UInt8) (v2 : Int × Int × Int) (v6 : Int) (v8 : Int) (v9 : Int) (v10 : List UInt8) : Option (ApiIns × Int × Int) :=
  cond (op_m v2.1) ((op_reader_text_s2 v1 v8 v9 v2.1 v6 v10 []).bind fun v11=>op_Get_j3 v2 v6 v10 v11.2.1 v11.2.2 v11.1) (op_Get_j3 v2 v6 v10 v8 v9 [])
def op_Get_j1 (v1 : List UInt8) (v2 : Int × Int × Int) (v4 : Int) (v5 : Int) (v6 : Int) : Option (ApiIns × Int × Int) :=
  cond (op_c v2.1) ((op_reader_text v1 v4 v5 v2.1 v6 [] []).bind fun v7=>op_Get_j2 v1 v2 v6 v7.2.1 v7.2.2 v7.1) (op_Get_j2 v1 v2 v6 v4 v5 [])
def op_Get (v1 : List UInt8) : Option (ApiIns × Int × Int) :=
  (op_reader_num v1 0 0).bind fun v2=>cond (op_a v2.1) ((op_reader_num_s2 v1 v2.2.1 v2.2.2 v2.1 0 [] []).bind fun v3=>op_Get_j1 v1 v2 v3.2.1 v3.2.2 v3.1) (op_Get_j1 v1 v2 v2.2.1 v2.2.2 0)
theorem op_Get_ok (v1 : List UInt8) {r : ApiIns × Int × Int} (h : op_Get v1 = some r) : PureC Tryz.prog 129 [.isl 1 (List.map byteRow v1)] (.tup [.agg [iA r.1.Op,iA r.1.A,sA r.1.C,sA r.1.M],iA r.2.1,iA r.2.2]):=by
 refine pure_fn Tryz.func129 j0 (by kernel_rfl) j0 j0 ?_
 unfold op_Get at h
 refine rg j0<|u<|al 0 ti37 j0<|u<|asg j0<|u<|asg j0<|r_nil ?_
 refine rg j0<|u<|mv j0<|u<|bd ti152 j0 j0 j0<|u<|bx 1 3 j0 j0 j0 j0<|u<|asg j0<|r_nil ?_
 obtain ⟨v2,q1,h⟩:=bs h
 refine rg j0<|u<|mv j0<|u<|sc [1] (op_reader_num_ok v1 0 0 q1) j0 j0 j0 j0 ⟨(.mpt j0),(rnFn j5 j5),j5⟩ ⟨⟨_,j0,⟨(rnI j0),(rnI j0),(rnI j0),j5⟩⟩,j5⟩<|r_can (env0:=[(2,.mpt 0 0 0),(5,.mpt 1 0 0),(11,iA v2.1)]) (st0:=[some (4,[[iA 0,iA 0,sA [],sA []]]),some (3,[[.isl 1 (List.map byteRow v1),iA v2.2.1,iA v2.2.2]])]) ⟨[.old 0,.old 1],cv j0 (.mpt j0)<|cv j0 (.mpt j0)<|ce j0 j0<|cn,j0,⟨⟨_,j0,rsOne ⟨ci j0,ci j0,ci j0,ci j0,j5⟩⟩,⟨_,j0,rsOne ⟨ci j0,ci j0,ci j0,j5⟩⟩,j5⟩,j0,j1⟩<|u<|bd ti37 j0 j0 j0<|u<|al 2 ti37 j0<|u<|sto ti37 j0 j0 j0<|r_nil ?_
 refine sw_meet (X:=Int × Int × Int) (fun z=>[(2,.mpt 0 0 0),(5,.mpt 1 0 0),(6,.mpt 2 0 0)]) (fun z=>[some (4,[[iA 0,iA 0,sA [],sA []]]),some (3,[[.isl 1 (List.map byteRow v1),iA z.1,iA z.2.1]]),some (4,[[iA v2.1,iA z.2.2,sA [],sA []]])]) (fun z=>op_Get_j1 v1 v2 z.1 z.2.1 z.2.2 = some r) ?_ ?_
 ·
  refine rg j0<|u<|fa ti37 j0 j0 j0<|u<|ld ti3 j0 j0<|u<|pc (op_a_ok v2.1 j0) j0 j0 j0<|r_nil ?_
  refine sw_cond j0 (fun hc2=>?_) (fun hc2=>?_)
  ·
   replace h:=bT hc2 h
   obtain ⟨v3,q3,h⟩:=bs h
   exact rl j0<|u<|mv j0<|u<|mf j0 j0<|u<|sc [1,2] (op_reader_num_s2_ok v1 v2.2.1 v2.2.2 v2.1 0 [] [] q3) j0 j0 j0 j0 ⟨(.mpt j0),(rnFn j5 ⟨(.mpt j0),j5⟩),j5⟩ ⟨⟨_,j0,⟨(rnI j0),(rnI j0),(rnI j0),j5⟩⟩,⟨_,j0,⟨(rnI j0),(rnI j0),(rnI j0),(rnI j0),j5⟩⟩,j5⟩<|r_can (env0:=[(2,.mpt 0 0 0),(5,.mpt 1 0 0),(6,.mpt 2 0 0),(18,iA v3.1)]) (st0:=[some (4,[[iA 0,iA 0,sA [],sA []]]),some (3,[[.isl 1 (List.map byteRow v1),iA v3.2.1,iA v3.2.2]]),some (4,[[iA v2.1,iA 0,sA [],sA []]])]) ⟨[.old 0,.old 1,.old 2],cv j0 (.mpt j0)<|cv j0 (.mpt j0)<|cv j0 (.mpt j0)<|ce j0 j0<|cn,j0,⟨⟨_,j0,rsOne ⟨ci j0,ci j0,ci j0,ci j0,j5⟩⟩,⟨_,j0,rsOne ⟨ci j0,ci j0,ci j0,j5⟩⟩,⟨_,j0,rsOne ⟨ci j0,ci j0,ci j0,ci j0,j5⟩⟩,j5⟩,j0,j1⟩<|u<|fa ti37 j0 j0 j0<|u<|sto ti3 j0 j0 j0<|r_nil (⟨⟨v3.2.1,v3.2.2,v3.1⟩,h,[.old 0,.old 1,.old 2],cv j0 (.mpt j0)<|cv j0 (.mpt j0)<|cv j0 (.mpt j0)<|cn,j0,⟨⟨_,j0,rsOne ⟨ci j0,ci j0,ci j0,ci j0,j5⟩⟩,⟨_,j0,rsOne ⟨ci j0,ci j0,ci j0,j5⟩⟩,⟨_,j0,rsOne ⟨ci j0,ci j0,ci j0,ci j0,j5⟩⟩,j5⟩,j0,j1⟩)
  ·
   replace h:=bF hc2 h
   refine sw_skip ?_
   exact ⟨⟨v2.2.1,v2.2.2,0⟩,h,[.old 0,.old 1,.old 2],cv j0 (.mpt j0)<|cv j0 (.mpt j0)<|cv j0 (.mpt j0)<|cn,j0,⟨⟨_,j0,rsOne ⟨ci j0,ci j0,ci j0,ci j0,j5⟩⟩,⟨_,j0,rsOne ⟨ci j0,ci j0,ci j0,j5⟩⟩,⟨_,j0,rsOne ⟨ci j0,ci j0,ci j0,ci j0,j5⟩⟩,j5⟩,j0,j1⟩
 ·
  rintro ⟨v4,v5,v6⟩ h
  replace h : op_Get_j1 v1 v2 v4 v5 v6 = some r:=h
  unfold op_Get_j1 at h
  refine sw_meet (X:=Int × Int × (List UInt8)) (fun z=>[(2,.mpt 0 0 0),(5,.mpt 1 0 0),(6,.mpt 2 0 0)]) (fun z=>[some (4,[[iA 0,iA 0,sA [],sA []]]),some (3,[[.isl 1 (List.map byteRow v1),iA z.1,iA z.2.1]]),some (4,[[iA v2.1,iA v6,sA z.2.2,sA []]])]) (fun z=>op_Get_j2 v1 v2 v6 z.1 z.2.1 z.2.2 = some r) ?_ ?_
  ·
   refine rg j0<|u<|fa ti37 j0 j0 j0<|u<|ld ti3 j0 j0<|u<|pc (op_c_ok v2.1 j0) j0 j0 j0<|r_nil ?_
   refine sw_cond j0 (fun hc4=>?_) (fun hc4=>?_)
   ·
    replace h:=bT hc4 h
    obtain ⟨v7,q5,h⟩:=bs h
    exact rl j0<|u<|mv j0<|u<|mf j0 j0<|u<|sc [1,2] (op_reader_text_ok v1 v4 v5 v2.1 v6 [] [] q5) j0 j0 j0 j0 ⟨(.mpt j0),(rnFn j5 ⟨(.mpt j0),j5⟩),j5⟩ ⟨⟨_,j0,⟨(rnI j0),(rnI j0),(rnI j0),j5⟩⟩,⟨_,j0,⟨(rnI j0),(rnI j0),(rnI j0),(rnI j0),j5⟩⟩,j5⟩<|r_can (env0:=[(2,.mpt 0 0 0),(5,.mpt 1 0 0),(6,.mpt 2 0 0),(25,sA v7.1)]) (st0:=[some (4,[[iA 0,iA 0,sA [],sA []]]),some (3,[[.isl 1 (List.map byteRow v1),iA v7.2.1,iA v7.2.2]]),some (4,[[iA v2.1,iA v6,sA [],sA []]])]) ⟨[.old 0,.old 1,.old 2],cv j0 (.mpt j0)<|cv j0 (.mpt j0)<|cv j0 (.mpt j0)<|ce j0 j0<|cn,j0,⟨⟨_,j0,rsOne ⟨ci j0,ci j0,ci j0,ci j0,j5⟩⟩,⟨_,j0,rsOne ⟨ci j0,ci j0,ci j0,j5⟩⟩,⟨_,j0,rsOne ⟨ci j0,ci j0,ci j0,ci j0,j5⟩⟩,j5⟩,j0,j1⟩<|u<|fa ti37 j0 j0 j0<|u<|sto ti9 j0 j0 j0<|r_nil (⟨⟨v7.2.1,v7.2.2,v7.1⟩,h,[.old 0,.old 1,.old 2],cv j0 (.mpt j0)<|cv j0 (.mpt j0)<|cv j0 (.mpt j0)<|cn,j0,⟨⟨_,j0,rsOne ⟨ci j0,ci j0,ci j0,ci j0,j5⟩⟩,⟨_,j0,rsOne ⟨ci j0,ci j0,ci j0,j5⟩⟩,⟨_,j0,rsOne ⟨ci j0,ci j0,ci j0,ci j0,j5⟩⟩,j5⟩,j0,j1⟩)
   ·
    replace h:=bF hc4 h
    refine sw_skip ?_
    exact ⟨⟨v4,v5,[]⟩,h,[.old 0,.old 1,.old 2],cv j0 (.mpt j0)<|cv j0 (.mpt j0)<|cv j0 (.mpt j0)<|cn,j0,⟨⟨_,j0,rsOne ⟨ci j0,ci j0,ci j0,ci j0,j5⟩⟩,⟨_,j0,rsOne ⟨ci j0,ci j0,ci j0,j5⟩⟩,⟨_,j0,rsOne ⟨ci j0,ci j0,ci j0,ci j0,j5⟩⟩,j5⟩,j0,j1⟩
  ·
   rintro ⟨v8,v9,v10⟩ h
   replace h : op_Get_j2 v1 v2 v6 v8 v9 v10 = some r:=h
   unfold op_Get_j2 at h
   refine sw_meet (X:=Int × Int × (List UInt8)) (fun z=>[(2,.mpt 0 0 0),(5,.mpt 1 0 0),(6,.mpt 2 0 0)]) (fun z=>[some (4,[[iA 0,iA 0,sA [],sA []]]),some (3,[[.isl 1 (List.map byteRow v1),iA z.1,iA z.2.1]]),some (4,[[iA v2.1,iA v6,sA v10,sA z.2.2]])]) (fun z=>op_Get_j3 v2 v6 v10 z.1 z.2.1 z.2.2 = some r) ?_ ?_
   ·
    refine rg j0<|u<|fa ti37 j0 j0 j0<|u<|ld ti3 j0 j0<|u<|pc (op_m_ok v2.1 j0) j0 j0 j0<|r_nil ?_
    refine sw_cond j0 (fun hc6=>?_) (fun hc6=>?_)
    ·
     replace h:=bT hc6 h
     obtain ⟨v11,q7,h⟩:=bs h
     exact rl j0<|u<|mv j0<|u<|mf j0 j0<|u<|sc [1,2] (op_reader_text_s2_ok v1 v8 v9 v2.1 v6 v10 [] q7) j0 j0 j0 j0 ⟨(.mpt j0),(rnFn j5 ⟨(.mpt j0),j5⟩),j5⟩ ⟨⟨_,j0,⟨(rnI j0),(rnI j0),(rnI j0),j5⟩⟩,⟨_,j0,⟨(rnI j0),(rnI j0),(rnI j0),(rnI j0),j5⟩⟩,j5⟩<|r_can (env0:=[(2,.mpt 0 0 0),(5,.mpt 1 0 0),(6,.mpt 2 0 0),(32,sA v11.1)]) (st0:=[some (4,[[iA 0,iA 0,sA [],sA []]]),some (3,[[.isl 1 (List.map byteRow v1),iA v11.2.1,iA v11.2.2]]),some (4,[[iA v2.1,iA v6,sA v10,sA []]])]) ⟨[.old 0,.old 1,.old 2],cv j0 (.mpt j0)<|cv j0 (.mpt j0)<|cv j0 (.mpt j0)<|ce j0 j0<|cn,j0,⟨⟨_,j0,rsOne ⟨ci j0,ci j0,ci j0,ci j0,j5⟩⟩,⟨_,j0,rsOne ⟨ci j0,ci j0,ci j0,j5⟩⟩,⟨_,j0,rsOne ⟨ci j0,ci j0,ci j0,ci j0,j5⟩⟩,j5⟩,j0,j1⟩<|u<|fa ti37 j0 j0 j0<|u<|sto ti9 j0 j0 j0<|r_nil (⟨⟨v11.2.1,v11.2.2,v11.1⟩,h,[.old 0,.old 1,.old 2],cv j0 (.mpt j0)<|cv j0 (.mpt j0)<|cv j0 (.mpt j0)<|cn,j0,⟨⟨_,j0,rsOne ⟨ci j0,ci j0,ci j0,ci j0,j5⟩⟩,⟨_,j0,rsOne ⟨ci j0,ci j0,ci j0,j5⟩⟩,⟨_,j0,rsOne ⟨ci j0,ci j0,ci j0,ci j0,j5⟩⟩,j5⟩,j0,j1⟩)
    ·
     replace h:=bF hc6 h
     refine sw_skip ?_
     exact ⟨⟨v8,v9,[]⟩,h,[.old 0,.old 1,.old 2],cv j0 (.mpt j0)<|cv j0 (.mpt j0)<|cv j0 (.mpt j0)<|cn,j0,⟨⟨_,j0,rsOne ⟨ci j0,ci j0,ci j0,ci j0,j5⟩⟩,⟨_,j0,rsOne ⟨ci j0,ci j0,ci j0,j5⟩⟩,⟨_,j0,rsOne ⟨ci j0,ci j0,ci j0,ci j0,j5⟩⟩,j5⟩,j0,j1⟩
   ·
    rintro ⟨v12,v13,v14⟩ h
    replace h : op_Get_j3 v2 v6 v10 v12 v13 v14 = some r:=h
    unfold op_Get_j3 at h
    refine sw_seq ?_
    refine rg j0<|u<|mv j0<|u<|nc j0 j0<|u<|fa ti152 j0 j0 j0<|u<|ld ti45 j0 j0<|u<|neq ti45 j0 j0<|r_nil ?_
    refine sw_cond j0 (fun hc8=>?_) (fun hc8=>?_)
    ·
     replace h:=bT hc8 h
     refine rd [(2,.mpt 0 0 0),(3,iA 0),(4,iA v13)] [some (4,[[iA 0,iA 0,sA [],sA []]])] [5] [4,3,2,1,0] [(43,iA v13),(42,.mpt 1 0 2),(41,.mpt 1 0 0),(40,.mpt 1 0 0),(39,.agg [iA 0,iA 0,sA [],sA []])] 1 (by kernel_rfl) (by kernel_rfl) j0 (by kernel_rfl) (dtS ⟨(fun _=>pa j0 j0 j0 j0 (ld ti45 j0 j0<|j4)),(fun _=>pa j0 j0 j0 j0 (fa ti152 j0 j0 j0<|j4)),(fun _=>pa j0 j0 j0 j0 (nc j0 j0<|j4)),(fun _=>pa j0 j0 j0 j0 (mv j0<|j4)),(fun _=>pa j0 j0 j0 j0 (bd ti37 j0 j0 j0<|j4)),j5⟩ (by kernel_rfl) j0 ⟨(fun _ _=>⟨_,j0,j0,sto ti37 j0 j0 j0<|⟨.any,[7,6],[(4,iA v13),(3,iA 0)],j0,j0,by kernel_rfl,j5,dt0 ⟨(fun _=>pa j0 j0 j0 j0 (asg j0<|j4)),(fun _=>pa j0 j0 j0 j0 (asg j0<|j4)),(fun _=>pa j0 j0 j0 j0 (ld ti45 j0 j0<|j4)),(fun _=>pa j0 j0 j0 j0 (fa ti152 j0 j0 j0<|j4)),(fun _=>pa j0 j0 j0 j0 (nc j0 j0<|j4)),(fun _=>pa j0 j0 j0 j0 (mv j0<|j4)),(fun h=>by cases h),j5⟩ (by kernel_rfl) j0 ⟨[.old 0],cv j0 (.mpt j0)<|ce j0 j0<|ce j0 j0<|cn,j0,⟨⟨_,j0,rsOne ⟨ci j0,ci j0,ci j0,ci j0,j5⟩⟩,j5⟩,j0,j1⟩⟩⟩),j5⟩) ?_
     refine sw_ret ?_
     obtain rfl:=sm h
     exact ⟨_,j0,[],rsTup ⟨(ci j0),(ci j0),(ci j0),j5⟩,j0,j5,j0,j1⟩
    ·
     replace h:=bF hc8 h
     refine sw_skip ?_
     refine rd [(2,.mpt 0 0 0),(3,iA v12),(4,iA 0)] [some (4,[[iA v2.1,iA v6,sA v10,sA v14]])] [5] [4,3,2,1,0] [(48,iA v12),(47,.mpt 1 0 1),(46,.mpt 1 0 0),(45,.mpt 1 0 0),(44,.agg [iA v2.1,iA v6,sA v10,sA v14])] 1 (by kernel_rfl) (by kernel_rfl) j0 (by kernel_rfl) (dtS ⟨(fun _=>pa j0 j0 j0 j0 (ld ti3 j0 j0<|j4)),(fun _=>pa j0 j0 j0 j0 (fa ti152 j0 j0 j0<|j4)),(fun _=>pa j0 j0 j0 j0 (nc j0 j0<|j4)),(fun _=>pa j0 j0 j0 j0 (mv j0<|j4)),(fun _=>pa j0 j0 j0 j0 (ld ti37 j0 j0<|j4)),j5⟩ (by kernel_rfl) j0 ⟨(fun _ _=>⟨_,j0,j0,sto ti37 j0 j0 j0<|⟨.any,[7,6],[(4,iA 0),(3,iA v12)],j0,j0,by kernel_rfl,j5,dt0 ⟨(fun _=>pa j0 j0 j0 j0 (asg j0<|j4)),(fun _=>pa j0 j0 j0 j0 (asg j0<|j4)),(fun _=>pa j0 j0 j0 j0 (ld ti3 j0 j0<|j4)),(fun _=>pa j0 j0 j0 j0 (fa ti152 j0 j0 j0<|j4)),(fun _=>pa j0 j0 j0 j0 (nc j0 j0<|j4)),(fun _=>pa j0 j0 j0 j0 (mv j0<|j4)),(fun h=>by cases h),j5⟩ (by kernel_rfl) j0 ⟨[.old 0],cv j0 (.mpt j0)<|ce j0 j0<|ce j0 j0<|cn,j0,⟨⟨_,j0,rsOne ⟨ci j0,ci j0,ci j0,ci j0,j5⟩⟩,j5⟩,j0,j1⟩⟩⟩),j5⟩) ?_
     refine sw_ret ?_
     obtain rfl:=sm h
     exact ⟨_,j0,[],rsTup ⟨(ci j0),(ci j0),(ci j0),j5⟩,j0,j5,j0,j1⟩
def kind_Elem (v1 : List UInt8) : Option ((List UInt8) × Bool) :=
  (kind_May v1).bind fun v2=>(cond (!v2) (some true) ((idx v1 0).bind fun v3=>some (!((v3.toNat : Int) == (91 : Int))))).bind fun v4=>cond v4 (some ([],false)) ((cutP v1 1 (List.length v1 : Int)).bind fun v5=>some (v5,true))
theorem kind_Elem_ok (v1 : List UInt8) {r : (List UInt8) × Bool} (h : kind_Elem v1 = some r) : PureC Tryz.prog 173 [sA v1] (.tup [sA r.1,bA r.2]):=by
 refine pure_fn Tryz.func173 j0 (by kernel_rfl) j0 j0 ?_
 unfold kind_Elem at h
 refine rg j0<|u<|asg j0<|u<|asg j0<|r_nil ?_
 refine sw_seq ?_
 obtain ⟨v2,q1,h⟩:=bs h
 obtain ⟨v4,q4,h⟩:=bs h
 refine rg j0<|u<|mv j0<|u<|pc (kind_May_ok v1 q1) j0 j0 j0<|u<|nt j0<|u<|mv j0<|r_or (x:=v4) (j:=3) 3 j0 j0 j0 j0 j0 gpn (fun hb2=>by replace q4:=bF hb2 q4; obtain ⟨v3,q3,q4⟩:=bs q4; obtain rfl:=sm q4; exact g j0 hb2<|mv j0<|g j0 hb2<|ixS ti9 j0 j0 j0 q3<|g j0 hb2<|neq ti5 j0 j0<|r_nil (eg [8,9,10] 3 j0 j0 j0 j0)) (fun hb=>(sm (bT hb q4)).symm)<|r_nil ?_
 refine sw_cond j0 (fun hc5=>?_) (fun hc5=>?_)
 ·
  replace h:=bT hc5 h
  refine rg j0<|u<|asg j0<|u<|asg j0<|r_nil ?_
  refine sw_ret ?_
  obtain rfl:=sm h
  exact ⟨_,j0,[],rsTup ⟨(ci j0),(ci j0),j5⟩,j0,j5,j0,j1⟩
 ·
  replace h:=bF hc5 h
  refine sw_skip ?_
  obtain ⟨v5,q6,h⟩:=bs h
  refine rg j0<|u<|mv j0<|u<|slS (a:=1) (b:=(List.length v1 : Int)) ti9 j0 j0 (bnd_lo j0 q6) j0 q6<|u<|asg j0<|u<|asg j0<|r_nil ?_
  refine sw_ret ?_
  obtain rfl:=sm h
  exact ⟨_,j0,[],rsTup ⟨(ci j0),(ci j0),j5⟩,j0,j5,j0,j1⟩
def kind_Ret (v1 : List UInt8) : Option (Bool) :=
  (cond (v1 == [86]) (some true) ((kind_May v1).bind fun v2=>some v2)).bind fun v3=>some v3
theorem kind_Ret_ok (v1 : List UInt8) {r : Bool} (h : kind_Ret v1 = some r) : PureC Tryz.prog 92 [sA v1] (bA r):=by
 refine pure_fn Tryz.func92 j0 (by kernel_rfl) j0 j0 ?_
 unfold kind_Ret at h
 refine rg j0<|u<|asg j0<|r_nil ?_
 obtain ⟨v3,q3,h⟩:=bs h
 refine rg j0<|u<|mv j0<|u<|seq ti9 j0 j0<|u<|mv j0<|r_or (x:=v3) (j:=2) 2 j0 j0 j0 j0 j0 gpn (fun hb1=>by replace q3:=bF hb1 q3; obtain ⟨v2,q2,q3⟩:=bs q3; obtain rfl:=sm q3; exact g j0 hb1<|mv j0<|g j0 hb1<|pc (kind_May_ok v1 q2) j0 j0 j0<|r_nil (eg [6,7] 2 j0 j0 j0 j0)) (fun hb=>(sm (bT hb q3)).symm)<|u<|asg j0<|r_nil ?_
 refine sw_ret ?_
 obtain rfl:=sm h
 exact ⟨_,j0,[],ci j0,j0,j5,j0,j1⟩
def kind_Array (v1 : List UInt8) : Option ((List UInt8)) :=
  (kind_May v1).bind fun v2=>(cond (!v2) (some true) ((catP [91] v1).bind fun v3=>(kind_May v3).bind fun v4=>some (!v4))).bind fun v5=>cond v5 (some []) ((catP [91] v1).bind fun v6=>some v6)
theorem kind_Array_ok (v1 : List UInt8) {r : (List UInt8)} (h : kind_Array v1 = some r) : PureC Tryz.prog 174 [sA v1] (sA r):=by
 refine pure_fn Tryz.func174 j0 (by kernel_rfl) j0 j0 ?_
 unfold kind_Array at h
 refine rg j0<|u<|asg j0<|r_nil ?_
 refine sw_seq ?_
 obtain ⟨v2,q1,h⟩:=bs h
 obtain ⟨v5,q5,h⟩:=bs h
 refine rg j0<|u<|mv j0<|u<|pc (kind_May_ok v1 q1) j0 j0 j0<|u<|nt j0<|u<|mv j0<|r_or (x:=v5) (j:=3) 4 j0 j0 j0 j0 j0 gpn (fun hb2=>by replace q5:=bF hb2 q5; obtain ⟨v3,q3,q5⟩:=bs q5; obtain ⟨v4,q4,q5⟩:=bs q5; obtain rfl:=sm q5; exact g j0 hb2<|mv j0<|g j0 hb2<|scat ti9 j0 j0 q3<|g j0 hb2<|pc (kind_May_ok v3 q4) j0 j0 j0<|g j0 hb2<|nt j0<|r_nil (eg [7,8,9,10] 4 j0 j0 j0 j0)) (fun hb=>(sm (bT hb q5)).symm)<|r_nil ?_
 refine sw_cond j0 (fun hc6=>?_) (fun hc6=>?_)
 ·
  replace h:=bT hc6 h
  refine rg j0<|u<|asg j0<|r_nil ?_
  refine sw_ret ?_
  obtain rfl:=sm h
  exact ⟨_,j0,[],ci j0,j0,j5,j0,j1⟩
 ·
  replace h:=bF hc6 h
  refine sw_skip ?_
  obtain ⟨v6,q7,h⟩:=bs h
  refine rg j0<|u<|mv j0<|u<|scat ti9 j0 j0 q7<|u<|asg j0<|r_nil ?_
  refine sw_ret ?_
  obtain rfl:=sm h
  exact ⟨_,j0,[],ci j0,j0,j5,j0,j1⟩
def law3_begun : Option (Bool) :=
  (kind_Elem [91,91,65,98]).bind fun v1=>(kind_Elem [65,98]).bind fun v2=>(kind_Class [65,98]).bind fun v3=>(cond v3 ((kind_Class [65]).bind fun v4=>some (!v4)) (some false)).bind fun v5=>(cond v5 ((kind_Name [97,98]).bind fun v6=>some v6) (some false)).bind fun v7=>(cond v7 ((kind_Name [36,105,110,105,116]).bind fun v8=>some v8) (some false)).bind fun v9=>(cond v9 ((kind_Name [65,98]).bind fun v10=>some (!v10)) (some false)).bind fun v11=>(cond v11 ((kind_May [91,91,73]).bind fun v12=>some v12) (some false)).bind fun v13=>(cond v13 ((kind_May [91,91,91,73]).bind fun v14=>some (!v14)) (some false)).bind fun v15=>(cond v15 ((kind_Ret [86]).bind fun v16=>some v16) (some false)).bind fun v17=>(cond v17 ((kind_May [86]).bind fun v18=>some (!v18)) (some false)).bind fun v19=>(cond v19 ((kind_Ref [91,73]).bind fun v20=>some v20) (some false)).bind fun v21=>(cond v21 ((kind_Ref [73]).bind fun v22=>some (!v22)) (some false)).bind fun v23=>(cond (((v23 && (v1.1 == [91,65,98])) && v1.2) && (!v2.2)) ((kind_Array [73]).bind fun v24=>some (v24 == [91,73])) (some false)).bind fun v25=>(cond v25 ((kind_Array [91,91,73]).bind fun v26=>some (v26 == [])) (some false)).bind fun v27=>some v27
theorem law3_begun_ok {r : Bool} (h : law3_begun = some r) : PureC Tryz.prog 164 [] (bA r):=by
 refine pure_fn Tryz.func164 j0 (by kernel_rfl) j0 j0 ?_
 unfold law3_begun at h
 refine rg j0<|u<|asg j0<|r_nil ?_
 obtain ⟨v1,q1,h⟩:=bs h
 refine rg j0<|u<|pc (kind_Elem_ok [91,91,65,98] q1) j0 j0 j0<|u<|mv j0<|u<|ex j0 j0<|u<|ex j0 j0<|u<|asg j0<|u<|asg j0<|r_nil ?_
 obtain ⟨v2,q2,h⟩:=bs h
 refine rg j0<|u<|pc (kind_Elem_ok [65,98] q2) j0 j0 j0<|u<|mv j0<|u<|ex j0 j0<|u<|ex j0 j0<|u<|asg j0<|u<|asg j0<|r_nil ?_
 obtain ⟨v3,q3,h⟩:=bs h
 obtain ⟨v5,q6,h⟩:=bs h
 obtain ⟨v7,q9,h⟩:=bs h
 obtain ⟨v9,q12,h⟩:=bs h
 obtain ⟨v11,q15,h⟩:=bs h
 obtain ⟨v13,q18,h⟩:=bs h
 obtain ⟨v15,q21,h⟩:=bs h
 obtain ⟨v17,q24,h⟩:=bs h
 obtain ⟨v19,q27,h⟩:=bs h
 obtain ⟨v21,q30,h⟩:=bs h
 obtain ⟨v23,q33,h⟩:=bs h
 obtain ⟨v25,q39,h⟩:=bs h
 obtain ⟨v27,q42,h⟩:=bs h
 refine rg j0<|u<|pc (kind_Class_ok [65,98] q3) j0 j0 j0<|u<|mv j0<|r_and (x:=v5) (j:=1) 2 j0 j0 j0 j0 j0 gpn (fun hb4=>by replace q6:=bT hb4 q6; obtain ⟨v4,q5,q6⟩:=bs q6; obtain rfl:=sm q6; exact g j0 hb4<|pc (kind_Class_ok [65] q5) j0 j0 j0<|g j0 hb4<|nt j0<|r_nil (eg [15,16] 2 j0 j0 j0 j0)) (fun hb=>(sm (bF hb q6)).symm)<|u<|mv j0<|r_and (x:=v7) (j:=5) 1 j0 j0 j0 j0 j0 gpn (fun hb7=>by replace q9:=bT hb7 q9; obtain ⟨v6,q8,q9⟩:=bs q9; obtain rfl:=sm q9; exact g j0 hb7<|pc (kind_Name_ok [97,98] q8) j0 j0 j0<|r_nil (eg [19] 1 j0 j0 j0 j0)) (fun hb=>(sm (bF hb q9)).symm)<|u<|mv j0<|r_and (x:=v9) (j:=8) 1 j0 j0 j0 j0 j0 gpn (fun hb10=>by replace q12:=bT hb10 q12; obtain ⟨v8,q11,q12⟩:=bs q12; obtain rfl:=sm q12; exact g j0 hb10<|pc (kind_Name_ok [36,105,110,105,116] q11) j0 j0 j0<|r_nil (eg [22] 1 j0 j0 j0 j0)) (fun hb=>(sm (bF hb q12)).symm)<|u<|mv j0<|r_and (x:=v11) (j:=11) 2 j0 j0 j0 j0 j0 gpn (fun hb13=>by replace q15:=bT hb13 q15; obtain ⟨v10,q14,q15⟩:=bs q15; obtain rfl:=sm q15; exact g j0 hb13<|pc (kind_Name_ok [65,98] q14) j0 j0 j0<|g j0 hb13<|nt j0<|r_nil (eg [25,26] 2 j0 j0 j0 j0)) (fun hb=>(sm (bF hb q15)).symm)<|u<|mv j0<|r_and (x:=v13) (j:=15) 1 j0 j0 j0 j0 j0 gpn (fun hb16=>by replace q18:=bT hb16 q18; obtain ⟨v12,q17,q18⟩:=bs q18; obtain rfl:=sm q18; exact g j0 hb16<|pc (kind_May_ok [91,91,73] q17) j0 j0 j0<|r_nil (eg [29] 1 j0 j0 j0 j0)) (fun hb=>(sm (bF hb q18)).symm)<|u<|mv j0<|r_and (x:=v15) (j:=18) 2 j0 j0 j0 j0 j0 gpn (fun hb19=>by replace q21:=bT hb19 q21; obtain ⟨v14,q20,q21⟩:=bs q21; obtain rfl:=sm q21; exact g j0 hb19<|pc (kind_May_ok [91,91,91,73] q20) j0 j0 j0<|g j0 hb19<|nt j0<|r_nil (eg [32,33] 2 j0 j0 j0 j0)) (fun hb=>(sm (bF hb q21)).symm)<|u<|mv j0<|r_and (x:=v17) (j:=22) 1 j0 j0 j0 j0 j0 gpn (fun hb22=>by replace q24:=bT hb22 q24; obtain ⟨v16,q23,q24⟩:=bs q24; obtain rfl:=sm q24; exact g j0 hb22<|pc (kind_Ret_ok [86] q23) j0 j0 j0<|r_nil (eg [36] 1 j0 j0 j0 j0)) (fun hb=>(sm (bF hb q24)).symm)<|u<|mv j0<|r_and (x:=v19) (j:=25) 2 j0 j0 j0 j0 j0 gpn (fun hb25=>by replace q27:=bT hb25 q27; obtain ⟨v18,q26,q27⟩:=bs q27; obtain rfl:=sm q27; exact g j0 hb25<|pc (kind_May_ok [86] q26) j0 j0 j0<|g j0 hb25<|nt j0<|r_nil (eg [39,40] 2 j0 j0 j0 j0)) (fun hb=>(sm (bF hb q27)).symm)<|u<|mv j0<|r_and (x:=v21) (j:=29) 1 j0 j0 j0 j0 j0 gpn (fun hb28=>by replace q30:=bT hb28 q30; obtain ⟨v20,q29,q30⟩:=bs q30; obtain rfl:=sm q30; exact g j0 hb28<|pc (kind_Ref_ok [91,73] q29) j0 j0 j0<|r_nil (eg [43] 1 j0 j0 j0 j0)) (fun hb=>(sm (bF hb q30)).symm)<|u<|mv j0<|r_and (x:=v23) (j:=32) 2 j0 j0 j0 j0 j0 gpn (fun hb31=>by replace q33:=bT hb31 q33; obtain ⟨v22,q32,q33⟩:=bs q33; obtain rfl:=sm q33; exact g j0 hb31<|pc (kind_Ref_ok [73] q32) j0 j0 j0<|g j0 hb31<|nt j0<|r_nil (eg [46,47] 2 j0 j0 j0 j0)) (fun hb=>(sm (bF hb q33)).symm)<|u<|mv j0<|r_and (j:=36) 2 j0 j0 j0 j0 j0 gpn (fun hb34=>g j0 hb34<|mv j0<|g j0 hb34<|seq ti9 j0 j0<|r_nil (egA [50,51] 2 hb34 j0 j0 j0 j0)) andF<|u<|mv j0<|r_and (j:=40) 1 j0 j0 j0 j0 j0 gpn (fun hb35=>g j0 hb35<|mv j0<|r_nil (egA [54] 1 hb35 j0 j0 j0 j0)) andF<|u<|mv j0<|r_and (j:=43) 2 j0 j0 j0 j0 j0 gpn (fun hb36=>g j0 hb36<|mv j0<|g j0 hb36<|nt j0<|r_nil (egA [57,58] 2 hb36 j0 j0 j0 j0)) andF<|u<|mv j0<|r_and (x:=v25) (j:=47) 2 j0 j0 j0 j0 j0 gpn (fun hb37=>by replace q39:=bT hb37 q39; obtain ⟨v24,q38,q39⟩:=bs q39; obtain rfl:=sm q39; exact g j0 hb37<|pc (kind_Array_ok [73] q38) j0 j0 j0<|g j0 hb37<|seq ti9 j0 j0<|r_nil (eg [61,62] 2 j0 j0 j0 j0)) (fun hb=>(sm (bF hb q39)).symm)<|u<|mv j0<|r_and (x:=v27) (j:=51) 2 j0 j0 j0 j0 j0 gpn (fun hb40=>by replace q42:=bT hb40 q42; obtain ⟨v26,q41,q42⟩:=bs q42; obtain rfl:=sm q42; exact g j0 hb40<|pc (kind_Array_ok [91,91,73] q41) j0 j0 j0<|g j0 hb40<|seq ti9 j0 j0<|r_nil (eg [65,66] 2 j0 j0 j0 j0)) (fun hb=>(sm (bF hb q42)).symm)<|u<|asg j0<|r_nil ?_
 refine sw_ret ?_
 obtain rfl:=sm h
 exact ⟨_,j0,[],ci j0,j0,j5,j0,j1⟩
def law3_Begun : Option (Bool) :=
  (law3_begun).bind fun v1=>some v1
theorem law3_Begun_ok {r : Bool} (h : law3_Begun = some r) : PureC Tryz.prog 130 [] (bA r):=by
 refine pure_fn Tryz.func130 j0 (by kernel_rfl) j0 j0 ?_
 unfold law3_Begun at h
 refine rg j0<|u<|asg j0<|r_nil ?_
 obtain ⟨v1,q1,h⟩:=bs h
 refine rg j0<|u<|pc (law3_begun_ok q1) j0 j0 j0<|u<|asg j0<|r_nil ?_
 refine sw_ret ?_
 obtain rfl:=sm h
 exact ⟨_,j0,[],ci j0,j0,j5,j0,j1⟩
end
end Go.Proofs.YtdhpdpkcfffpiaaGreat
namespace Go.Proofs.YtdhpdpkcfffpiaaGreat
noncomputable section
set_option linter.unusedSimpArgs false
set_option linter.unusedVariables false
set_option maxRecDepth 100000
set_option maxHeartbeats 4000000
def num_Put_k3 (v13 : List UInt8) (v14 : Int) : Option ((List UInt8)) :=
  (appP 1 v13 [(tU8 v14)]).bind fun v15=>some v15
def num_Put_l2 (v9 : List UInt8) (v10 : Int) : Option (Sum ((List UInt8) × Int) (Sum ((List UInt8) × Int) ((List UInt8)))) :=
  cond (decide (127 < v10)) ((appP 1 v9 [((tU8 v10) ||| (128 : UInt8))]).bind fun v11=>(shrP .u64 v10 7).bind fun v12=>some (.inl (v11,v12))) (some (.inr (.inl (v9,v10))))
def num_Put_j1 (v1 : List UInt8) (v4 : Int) : Option ((List UInt8)) :=
  (loopP (fun z=>num_Put_l2 z.1 z.2) (v1,v4)).bind fun o=>leave o (fun b=>num_Put_k3 b.1 b.2) some
def num_Put (v1 : List UInt8) (v2 : Int) : Option ((List UInt8)) :=
  (shlP .u64 (IntKind.u64.wrap v2) 1).bind fun v3=>cond (decide (v2 < 0)) (num_Put_j1 v1 (xorI .u64 v3)) (num_Put_j1 v1 v3)
theorem num_Put_ok (v1 : List UInt8) (v2 : Int) {r : (List UInt8)} (h : num_Put v1 v2 = some r) : SC Tryz.prog 54 [.msl 0 0 (List.length v1),iA v2] [.many 1 (List.map byteRow v1)] (.msl 1 0 (List.length r)) [.no,.many 1 (List.map byteRow r)]:=by
 refine ⟨⟨j5,sbOk (sz:=1) (fun _=>j0),j5⟩,scall_fn Tryz.func54 j0 (by kernel_rfl) j0 ?_⟩
 unfold num_Put at h
 refine rg j0<|u<|asg j0<|r_nil ?_
 obtain ⟨v3,q1,h⟩:=bs h
 refine rg j0<|u<|mv j0<|u<|cvi ti2 ti121 j0 j0 j0<|u<|shl ti121 j0 j0 q1<|u<|asg j0<|r_nil ?_
 refine sw_meet (X:=Int) (fun z=>[(0,.msl 0 0 (List.length v1)),(5,.lit (.int .u64 z))]) (fun z=>[some (1,List.map byteRow v1)]) (fun z=>num_Put_j1 v1 z = some r) ?_ ?_
 ·
  refine rg j0<|u<|mv j0<|u<|lss ti2 j0 j0<|r_nil ?_
  refine sw_cond j0 (fun hc2=>?_) (fun hc2=>?_)
  ·
   replace h:=bT hc2 h
   exact rl j0<|u<|mv j0<|u<|xo j0<|u<|asg j0<|r_nil (⟨(xorI .u64 v3),h,[.old 0],cv j0 (.msl j0)<|ce j0 j0<|cn,j0,⟨⟨_,j0,rsMap (fun _=>j0)⟩,j5⟩,j0,j1⟩)
  ·
   replace h:=bF hc2 h
   refine sw_skip ?_
   exact ⟨v3,h,[.old 0],cv j0 (.msl j0)<|ce j0 j0<|cn,j0,⟨⟨_,j0,rsMap (fun _=>j0)⟩,j5⟩,j0,j1⟩
 ·
  rintro v4 h
  replace h : num_Put_j1 v1 v4 = some r:=h
  unfold num_Put_j1 at h
  obtain ⟨o,ho,h⟩:=bs h
  refine sw_lp (X:=(List UInt8) × Int) (B:=(List UInt8) × Int) (R:=(List UInt8)) (fun z=>[(0,.msl 1 0 (List.length z.1)),(5,.lit (.int .u64 z.2))]) (fun z=>[none,some (1,List.map byteRow z.1)]) (fun b=>[(0,.msl 1 0 (List.length b.1)),(5,.lit (.int .u64 b.2))]) (fun b=>[none,some (1,List.map byteRow b.1)]) (fun r env st=>PostF Tryz.prog Tryz.f54 1 (.msl 1 0 (List.length r)) [none,some (1,List.map byteRow r)] env st) ho ⟨[.dead,.old 0],cv j0 (.msl j0)<|ce j0 j0<|cn,j0,⟨⟨_,j0,rsMap (fun _=>j0)⟩,j5⟩,j0,j1⟩ ?_ ?_ ?_
  ·
   rintro ⟨v9,v10⟩ r h
   replace h : num_Put_l2 v9 v10 = some r:=h
   unfold num_Put_l2 at h
   refine sw_seq ?_
   refine rg j0<|u<|mv j0<|u<|gtr ti121 j0 j0<|r_nil ?_
   refine sw_cond j0 (fun hc6=>?_) (fun hc6=>?_)
   ·
    replace h:=bT hc6 h
    refine sw_skip ?_
    refine sw_block ?_
    obtain ⟨v11,q7,h⟩:=bs h
    refine rg j0<|u<|mv j0<|u<|mv j0<|u<|cv8 ti121 ti5 j0 j0 j0<|u<|bor8 ti5 j0 j0<|u<|bl 2 ti43 j0 ti5 j0 (by decide) (by decide) j0 j0 j0<|u<|apM 3 ti43 j0 ti5 j0 j0 (by decide) ti43 j0 j0 j0 j0 (roX (f:=byteRow) (z:=[((tU8 v10) ||| (128 : UInt8))]) j0 j0) (fun _=>j0) j0 q7<|u<|asg j0<|r_nil ?_
    obtain ⟨v12,q8,h⟩:=bs h
    refine rl j0<|u<|mv j0<|u<|shr ti121 j0 j0 q8<|u<|asg j0<|r_nil ?_
    obtain rfl:=sm h
    exact ⟨_,j0,[.dead,.old 3],cv j0 (.msl j0)<|ce j0 j0<|cn,j0,⟨⟨_,j0,rsMap (fun _=>j0)⟩,j5⟩,j0,j1⟩
   ·
    replace h:=bF hc6 h
    refine sw_exit ?_
    obtain rfl:=sm h
    exact ⟨j0,_,j0,[.dead,.old 1],cv j0 (.msl j0)<|ce j0 j0<|cn,j0,⟨⟨_,j0,rsMap (fun _=>j0)⟩,j5⟩,j0,j1⟩
  ·
   rintro ⟨v13,v14⟩ rfl
   replace h : num_Put_k3 v13 v14 = some r:=h
   unfold num_Put_k3 at h
   obtain ⟨v15,q9,h⟩:=bs h
   refine rg j0<|u<|mv j0<|u<|mv j0<|u<|cv8 ti121 ti5 j0 j0 j0<|u<|bl 2 ti43 j0 ti5 j0 (by decide) (by decide) j0 j0 j0<|u<|apM 3 ti43 j0 ti5 j0 j0 (by decide) ti43 j0 j0 j0 j0 (roX (f:=byteRow) (z:=[(tU8 v14)]) j0 j0) (fun _=>j0) j0 q9<|u<|asg j0<|r_nil ?_
   refine sw_ret ?_
   obtain rfl:=sm h
   exact ⟨_,j0,[.dead,.old 3],.msl j0,j0,⟨⟨_,j0,rsMap (fun _=>j0)⟩,j5⟩,j0,j1⟩
  ·
   rintro r' rfl env st hp
   obtain rfl:=sm h
   exact hp
def num_PutText (v1 : List UInt8) (v2 : List UInt8) : Option ((List UInt8)) :=
  (num_Put v1 (List.length v2 : Int)).bind fun v3=>(appP 1 v3 v2).bind fun v4=>some v4
theorem num_PutText_ok (v1 : List UInt8) (v2 : List UInt8) {r : (List UInt8)} (h : num_PutText v1 v2 = some r) : SC Tryz.prog 55 [.msl 0 0 (List.length v1),sA v2] [.many 1 (List.map byteRow v1)] (.msl 1 0 (List.length r)) [.no,.many 1 (List.map byteRow r)]:=by
 refine ⟨⟨j5,sbOk (sz:=1) (fun _=>j0),j5⟩,scall_fn Tryz.func55 j0 (by kernel_rfl) j0 ?_⟩
 unfold num_PutText at h
 refine rg j0<|u<|asg j0<|r_nil ?_
 obtain ⟨v3,q1,h⟩:=bs h
 obtain ⟨v4,q2,h⟩:=bs h
 refine rg j0<|u<|mv j0<|u<|mv j0<|u<|lnS ti9 j0 j0<|u<|sc [0] (num_Put_ok v1 (List.length v2 : Int) q1) j0 j0 j0 j0 ⟨(.msl j0),(rnI j0),j5⟩ ⟨⟨j0,mkI (fun _=>j0)⟩,j5⟩<|r_can (env0:=[(1,sA v2),(8,.msl 1 0 (List.length v3))]) (st0:=[none,some (1,List.map byteRow v3)]) ⟨[.dead,.old 1],ce j0 j0<|cv j0 (.msl j0)<|cn,j0,⟨⟨_,j0,rsMap (fun _=>j0)⟩,j5⟩,j0,j1⟩<|u<|mv j0<|u<|apMS 2 ti43 j0 ti5 j0 j0 ti9 j0 j0 j0 j0 j0 q2<|u<|asg j0<|r_nil ?_
 refine sw_ret ?_
 obtain rfl:=sm h
 exact ⟨_,j0,[.dead,.old 2],.msl j0,j0,⟨⟨_,j0,rsMap (fun _=>j0)⟩,j5⟩,j0,j1⟩
def op_Put_j3 (v9 : List UInt8) : Option ((List UInt8)) :=
  some v9
def op_Put_j2 (v2 : ApiIns) (v7 : List UInt8) : Option ((List UInt8)) :=
  cond (op_m v2.Op) ((num_PutText v7 v2.M).bind fun v8=>op_Put_j3 v8) (op_Put_j3 v7)
def op_Put_j1 (v2 : ApiIns) (v5 : List UInt8) : Option ((List UInt8)) :=
  cond (op_c v2.Op) ((num_PutText v5 v2.C).bind fun v6=>op_Put_j2 v2 v6) (op_Put_j2 v2 v5)
def op_Put (v1 : List UInt8) (v2 : ApiIns) : Option ((List UInt8)) :=
  (num_Put v1 v2.Op).bind fun v3=>cond (op_a v2.Op) ((num_Put v3 v2.A).bind fun v4=>op_Put_j1 v2 v4) (op_Put_j1 v2 v3)
theorem op_Put_ok (v1 : List UInt8) (v2 : ApiIns) {r : (List UInt8)} (h : op_Put v1 v2 = some r) : SC Tryz.prog 128 [.msl 0 0 (List.length v1),.agg [iA v2.Op,iA v2.A,sA v2.C,sA v2.M]] [.many 1 (List.map byteRow v1)] (.msl 1 0 (List.length r)) [.no,.many 1 (List.map byteRow r)]:=by
 refine ⟨⟨j5,sbOk (sz:=1) (fun _=>j0),j5⟩,scall_fn Tryz.func128 j0 (by kernel_rfl) j0 ?_⟩
 unfold op_Put at h
 refine rg j0<|u<|bx 1 4 j0 j0 j0 j0<|u<|asg j0<|r_nil ?_
 obtain ⟨v3,q1,h⟩:=bs h
 refine rg j0<|u<|mv j0<|u<|fa ti37 j0 j0 j0<|u<|ld ti3 j0 j0<|u<|sc [0] (num_Put_ok v1 v2.Op q1) j0 j0 j0 j0 ⟨(.msl j0),(rnI j0),j5⟩ ⟨⟨j0,mkI (fun _=>j0)⟩,j5⟩<|r_can (env0:=[(3,.mpt 1 0 0),(8,.msl 2 0 (List.length v3))]) (st0:=[none,some (4,[[iA v2.Op,iA v2.A,sA v2.C,sA v2.M]]),some (1,List.map byteRow v3)]) ⟨[.dead,.old 1,.old 2],cv j0 (.mpt j0)<|cv j0 (.msl j0)<|cn,j0,⟨⟨_,j0,rsOne ⟨ci j0,ci j0,ci j0,ci j0,j5⟩⟩,⟨_,j0,rsMap (fun _=>j0)⟩,j5⟩,j0,j1⟩<|u<|asg j0<|r_nil ?_
 refine sw_meet (X:=(List UInt8)) (fun z=>[(0,.msl 1 0 (List.length z)),(3,.mpt 2 0 0)]) (fun z=>[none,some (1,List.map byteRow z),some (4,[[iA v2.Op,iA v2.A,sA v2.C,sA v2.M]])]) (fun z=>op_Put_j1 v2 z = some r) ?_ ?_
 ·
  refine rg j0<|u<|fa ti37 j0 j0 j0<|u<|ld ti3 j0 j0<|u<|pc (op_a_ok v2.Op j0) j0 j0 j0<|r_nil ?_
  refine sw_cond j0 (fun hc2=>?_) (fun hc2=>?_)
  ·
   replace h:=bT hc2 h
   obtain ⟨v4,q3,h⟩:=bs h
   exact rl j0<|u<|mv j0<|u<|fa ti37 j0 j0 j0<|u<|ld ti3 j0 j0<|u<|sc [2] (num_Put_ok v3 v2.A q3) j0 j0 j0 j0 ⟨(.msl j0),(rnI j0),j5⟩ ⟨⟨j0,mkI (fun _=>j0)⟩,j5⟩<|r_can (env0:=[(3,.mpt 1 0 0),(15,.msl 2 0 (List.length v4))]) (st0:=[none,some (4,[[iA v2.Op,iA v2.A,sA v2.C,sA v2.M]]),some (1,List.map byteRow v4)]) ⟨[.dead,.old 1,.old 3],cv j0 (.mpt j0)<|cv j0 (.msl j0)<|cn,j0,⟨⟨_,j0,rsOne ⟨ci j0,ci j0,ci j0,ci j0,j5⟩⟩,⟨_,j0,rsMap (fun _=>j0)⟩,j5⟩,j0,j1⟩<|u<|asg j0<|r_nil (⟨v4,h,[.dead,.old 2,.old 1],cv j0 (.msl j0)<|cv j0 (.mpt j0)<|cn,j0,⟨⟨_,j0,rsMap (fun _=>j0)⟩,⟨_,j0,rsOne ⟨ci j0,ci j0,ci j0,ci j0,j5⟩⟩,j5⟩,j0,j1⟩)
  ·
   replace h:=bF hc2 h
   refine sw_skip ?_
   exact ⟨v3,h,[.dead,.old 2,.old 1],cv j0 (.msl j0)<|cv j0 (.mpt j0)<|cn,j0,⟨⟨_,j0,rsMap (fun _=>j0)⟩,⟨_,j0,rsOne ⟨ci j0,ci j0,ci j0,ci j0,j5⟩⟩,j5⟩,j0,j1⟩
 ·
  rintro v5 h
  replace h : op_Put_j1 v2 v5 = some r:=h
  unfold op_Put_j1 at h
  refine sw_meet (X:=(List UInt8)) (fun z=>[(0,.msl 1 0 (List.length z)),(3,.mpt 2 0 0)]) (fun z=>[none,some (1,List.map byteRow z),some (4,[[iA v2.Op,iA v2.A,sA v2.C,sA v2.M]])]) (fun z=>op_Put_j2 v2 z = some r) ?_ ?_
  ·
   refine rg j0<|u<|fa ti37 j0 j0 j0<|u<|ld ti3 j0 j0<|u<|pc (op_c_ok v2.Op j0) j0 j0 j0<|r_nil ?_
   refine sw_cond j0 (fun hc4=>?_) (fun hc4=>?_)
   ·
    replace h:=bT hc4 h
    obtain ⟨v6,q5,h⟩:=bs h
    exact rl j0<|u<|mv j0<|u<|fa ti37 j0 j0 j0<|u<|ld ti9 j0 j0<|u<|sc [1] (num_PutText_ok v5 v2.C q5) j0 j0 j0 j0 ⟨(.msl j0),(rnI j0),j5⟩ ⟨⟨j0,mkI (fun _=>j0)⟩,j5⟩<|r_can (env0:=[(3,.mpt 1 0 0),(22,.msl 2 0 (List.length v6))]) (st0:=[none,some (4,[[iA v2.Op,iA v2.A,sA v2.C,sA v2.M]]),some (1,List.map byteRow v6)]) ⟨[.dead,.old 2,.old 3],cv j0 (.mpt j0)<|cv j0 (.msl j0)<|cn,j0,⟨⟨_,j0,rsOne ⟨ci j0,ci j0,ci j0,ci j0,j5⟩⟩,⟨_,j0,rsMap (fun _=>j0)⟩,j5⟩,j0,j1⟩<|u<|asg j0<|r_nil (⟨v6,h,[.dead,.old 2,.old 1],cv j0 (.msl j0)<|cv j0 (.mpt j0)<|cn,j0,⟨⟨_,j0,rsMap (fun _=>j0)⟩,⟨_,j0,rsOne ⟨ci j0,ci j0,ci j0,ci j0,j5⟩⟩,j5⟩,j0,j1⟩)
   ·
    replace h:=bF hc4 h
    refine sw_skip ?_
    exact ⟨v5,h,[.dead,.old 1,.old 2],cv j0 (.msl j0)<|cv j0 (.mpt j0)<|cn,j0,⟨⟨_,j0,rsMap (fun _=>j0)⟩,⟨_,j0,rsOne ⟨ci j0,ci j0,ci j0,ci j0,j5⟩⟩,j5⟩,j0,j1⟩
  ·
   rintro v7 h
   replace h : op_Put_j2 v2 v7 = some r:=h
   unfold op_Put_j2 at h
   refine sw_meet (X:=(List UInt8)) (fun z=>[(0,.msl 1 0 (List.length z))]) (fun z=>[none,some (1,List.map byteRow z)]) (fun z=>op_Put_j3 z = some r) ?_ ?_
   ·
    refine rg j0<|u<|fa ti37 j0 j0 j0<|u<|ld ti3 j0 j0<|u<|pc (op_m_ok v2.Op j0) j0 j0 j0<|r_nil ?_
    refine sw_cond j0 (fun hc6=>?_) (fun hc6=>?_)
    ·
     replace h:=bT hc6 h
     obtain ⟨v8,q7,h⟩:=bs h
     exact rl j0<|u<|mv j0<|u<|fa ti37 j0 j0 j0<|u<|ld ti9 j0 j0<|u<|sc [1] (num_PutText_ok v7 v2.M q7) j0 j0 j0 j0 ⟨(.msl j0),(rnI j0),j5⟩ ⟨⟨j0,mkI (fun _=>j0)⟩,j5⟩<|r_can (env0:=[(29,.msl 1 0 (List.length v8))]) (st0:=[none,some (1,List.map byteRow v8)]) ⟨[.dead,.old 3],cv j0 (.msl j0)<|cn,j0,⟨⟨_,j0,rsMap (fun _=>j0)⟩,j5⟩,j0,j1⟩<|u<|asg j0<|r_nil (⟨v8,h,[.dead,.old 1],cv j0 (.msl j0)<|cn,j0,⟨⟨_,j0,rsMap (fun _=>j0)⟩,j5⟩,j0,j1⟩)
    ·
     replace h:=bF hc6 h
     refine sw_skip ?_
     exact ⟨v7,h,[.dead,.old 1],cv j0 (.msl j0)<|cn,j0,⟨⟨_,j0,rsMap (fun _=>j0)⟩,j5⟩,j0,j1⟩
   ·
    rintro v9 h
    replace h : op_Put_j3 v9 = some r:=h
    unfold op_Put_j3 at h
    refine rg j0<|u<|mv j0<|u<|asg j0<|r_nil ?_
    refine sw_ret ?_
    obtain rfl:=sm h
    exact ⟨_,j0,[.dead,.old 1],.msl j0,j0,⟨⟨_,j0,rsMap (fun _=>j0)⟩,j5⟩,j0,j1⟩
def law4_begun : Option (Bool) :=
  (op_Put [] (ApiIns.mk 43 0 [65,98] [102])).bind fun v1=>(appP 1 ([] : List UInt8) v1).bind fun v2=>(appP 1 v2 [(1 : UInt8)]).bind fun v3=>(op_Get v3).bind fun v4=>(op_Get []).bind fun v5=>(op_Get [(0 : UInt8)]).bind fun v6=>(law3_Begun).bind fun v7=>(cond v7 ((op_May (ApiIns.mk 43 0 [65,98] [102])).bind fun v8=>some v8) (some false)).bind fun v9=>(cond v9 ((op_May (ApiIns.mk 43 0 [] [])).bind fun v10=>some (!v10)) (some false)).bind fun v11=>some ((((((((((v11 && (op_Jumps 20)) && (!(op_Jumps 37))) && (op_Ends 46)) && (!(op_Ends 8))) && (decide (4 < ((List.length v1) : Int)))) && (v4.2.2 == (0 : Int))) && (v4.2.1 == ((List.length v1) : Int))) && (ref3_EqIns (ApiIns.mk 43 0 [65,98] [102]) v4.1)) && (v5.2.2 == (2 : Int))) && (v6.2.2 == (1 : Int)))
theorem law4_begun_ok {r : Bool} (h : law4_begun = some r) : PureC Tryz.prog 75 [] (bA r):=by
 refine pure_fn Tryz.func75 j0 (by kernel_rfl) j0 j0 ?_
 unfold law4_begun at h
 refine rg j0<|u<|asg j0<|r_nil ?_
 refine rg j0<|u<|bd ti37 j0 j0 j0<|u<|al 0 ti37 j0<|u<|sto ti37 j0 j0 j0<|r_nil ?_
 obtain ⟨v1,q1,h⟩:=bs h
 refine rg j0<|u<|ld ti37 j0 j0<|ph 1<|u<|sc [1] (op_Put_ok [] (ApiIns.mk 43 0 [65,98] [102]) q1) j0 j0 j0 j0 ⟨(.nil0 j0),(rnI j0),j5⟩ ⟨⟨j0,mkI (fun _=>j0)⟩,j5⟩<|r_can (env0:=[(1,.mpt 0 0 0),(14,.msl 1 0 (List.length v1))]) (st0:=[some (4,[[iA 43,iA 0,sA [65,98],sA [102]]]),some (1,List.map byteRow v1)]) ⟨[.old 0,.old 2],cv j0 (.mpt j0)<|cv j0 (.msl j0)<|cn,j0,⟨⟨_,j0,rsOne ⟨ci j0,ci j0,ci j0,ci j0,j5⟩⟩,⟨_,j0,rsMap (fun _=>j0)⟩,j5⟩,j0,j1⟩<|u<|asg j0<|r_nil ?_
 obtain ⟨v2,q2,h⟩:=bs h
 obtain ⟨v3,q3,h⟩:=bs h
 obtain ⟨v4,q4,h⟩:=bs h
 refine rg j0<|u<|mv j0<|u<|apN (f:=byteRow) 2 ti43 j0 ti5 j0 j0 (by decide) ti43 j0 j0 j0 (roM j0) (fun _=>j0) j0 q2<|u<|bl 3 ti43 j0 ti5 j0 (by decide) (by decide) j0 j0 j0<|u<|apM 4 ti43 j0 ti5 j0 j0 (by decide) ti43 j0 j0 j0 j0 (roX (f:=byteRow) (z:=[(1 : UInt8)]) j0 j0) (fun _=>j0) j0 q3<|u<|pcs (op_Get_ok v3 q4) j0 j0 (.cons (sealM j0 (fun _=>j0)) .nil) plainB<|u<|mv j0<|u<|ex j0 j0<|u<|ex j0 j0<|u<|ex j0 j0<|u<|al 5 ti37 j0<|u<|sto ti37 j0 j0 j0<|u<|asg j0<|u<|asg j0<|r_nil ?_
 obtain ⟨v5,q5,h⟩:=bs h
 refine rg j0<|u<|pcs (op_Get_ok [] q5) j0 j0 (.cons (.nil) .nil) plainB<|u<|mv j0<|u<|ex j0 j0<|u<|ex j0 j0<|u<|ex j0 j0<|u<|al 6 ti37 j0<|u<|sto ti37 j0 j0 j0<|u<|asg j0<|u<|asg j0<|r_nil ?_
 obtain ⟨v6,q6,h⟩:=bs h
 refine rg j0<|u<|bl 7 ti43 j0 ti5 j0 (by decide) (by decide) j0 j0 j0<|u<|pcs (op_Get_ok [(0 : UInt8)] q6) j0 j0 (.cons (sealX j0 ⟨⟨(si j0),j5⟩,j5⟩) .nil) plainB<|u<|mv j0<|u<|ex j0 j0<|u<|ex j0 j0<|u<|ex j0 j0<|u<|al 8 ti37 j0<|u<|sto ti37 j0 j0 j0<|u<|asg j0<|u<|asg j0<|r_nil ?_
 obtain ⟨v7,q7,h⟩:=bs h
 obtain ⟨v9,q10,h⟩:=bs h
 obtain ⟨v11,q13,h⟩:=bs h
 refine rg j0<|u<|pc (law3_Begun_ok q7) j0 j0 j0<|u<|mv j0<|r_and (x:=v9) (j:=1) 2 j0 j0 j0 j0 j0 gpn (fun hb8=>by replace q10:=bT hb8 q10; obtain ⟨v8,q9,q10⟩:=bs q10; obtain rfl:=sm q10; exact g j0 hb8<|ld ti37 j0 j0<|g j0 hb8<|pc (op_May_ok (ApiIns.mk 43 0 [65,98] [102]) q9) j0 j0 j0<|r_nil (eg [37,38] 2 j0 j0 j0 j0)) (fun hb=>(sm (bF hb q10)).symm)<|u<|mv j0<|r_and (x:=v11) (j:=5) 3 j0 j0 j0 j0 j0 gpn (fun hb11=>by replace q13:=bT hb11 q13; obtain ⟨v10,q12,q13⟩:=bs q13; obtain rfl:=sm q13; exact g j0 hb11<|bd ti37 j0 j0 j0<|g j0 hb11<|pc (op_May_ok (ApiIns.mk 43 0 [] []) q12) j0 j0 j0<|g j0 hb11<|nt j0<|r_nil (eg [41,42,43] 3 j0 j0 j0 j0)) (fun hb=>(sm (bF hb q13)).symm)<|u<|mv j0<|r_and (j:=10) 1 j0 j0 j0 j0 j0 gpn (fun hb14=>g j0 hb14<|pc (op_Jumps_ok 20 j0) j0 j0 j0<|r_nil (egA [46] 1 hb14 j0 j0 j0 j0)) andF<|u<|mv j0<|r_and (j:=13) 2 j0 j0 j0 j0 j0 gpn (fun hb15=>g j0 hb15<|pc (op_Jumps_ok 37 j0) j0 j0 j0<|g j0 hb15<|nt j0<|r_nil (egA [49,50] 2 hb15 j0 j0 j0 j0)) andF<|u<|mv j0<|r_and (j:=17) 1 j0 j0 j0 j0 j0 gpn (fun hb16=>g j0 hb16<|pc (op_Ends_ok 46 j0) j0 j0 j0<|r_nil (egA [53] 1 hb16 j0 j0 j0 j0)) andF<|u<|mv j0<|r_and (j:=20) 2 j0 j0 j0 j0 j0 gpn (fun hb17=>g j0 hb17<|pc (op_Ends_ok 8 j0) j0 j0 j0<|g j0 hb17<|nt j0<|r_nil (egA [56,57] 2 hb17 j0 j0 j0 j0)) andF<|u<|mv j0<|r_and (j:=24) 3 j0 j0 j0 j0 j0 gpn (fun hb18=>g j0 hb18<|mv j0<|g j0 hb18<|lnM ti43 j0 j0 j0<|g j0 hb18<|gtr ti3 j0 j0<|r_nil (egA [60,61,62] 3 hb18 j0 j0 j0 j0)) andF<|u<|mv j0<|r_and (j:=29) 2 j0 j0 j0 j0 j0 gpn (fun hb19=>g j0 hb19<|mv j0<|g j0 hb19<|eql ti45 j0 j0<|r_nil (egA [65,66] 2 hb19 j0 j0 j0 j0)) andF<|u<|mv j0<|r_and (j:=33) 4 j0 j0 j0 j0 j0 gpn (fun hb20=>g j0 hb20<|mv j0<|g j0 hb20<|mv j0<|g j0 hb20<|lnM ti43 j0 j0 j0<|g j0 hb20<|eql ti3 j0 j0<|r_nil (egA [69,70,71,72] 4 hb20 j0 j0 j0 j0)) andF<|u<|mv j0<|r_and (j:=39) 3 j0 j0 j0 j0 j0 gpn (fun hb21=>g j0 hb21<|ld ti37 j0 j0<|g j0 hb21<|ld ti37 j0 j0<|g j0 hb21<|pc (ref3_EqIns_ok (ApiIns.mk 43 0 [65,98] [102]) v4.1 j0) j0 j0 j0<|r_nil (egA [75,76,77] 3 hb21 j0 j0 j0 j0)) andF<|u<|mv j0<|r_and (j:=44) 2 j0 j0 j0 j0 j0 gpn (fun hb22=>g j0 hb22<|mv j0<|g j0 hb22<|eql ti45 j0 j0<|r_nil (egA [80,81] 2 hb22 j0 j0 j0 j0)) andF<|u<|mv j0<|r_and (j:=48) 2 j0 j0 j0 j0 j0 gpn (fun hb23=>g j0 hb23<|mv j0<|g j0 hb23<|eql ti45 j0 j0<|r_nil (egA [84,85] 2 hb23 j0 j0 j0 j0)) andF<|u<|asg j0<|r_nil ?_
 refine sw_ret ?_
 obtain rfl:=sm h
 exact ⟨_,j0,[],ci j0,j0,j5,j0,j1⟩
def law4_Begun : Option (Bool) :=
  (law4_begun).bind fun v1=>some v1
theorem law4_Begun_ok {r : Bool} (h : law4_Begun = some r) : PureC Tryz.prog 21 [] (bA r):=by
 refine pure_fn Tryz.func21 j0 (by kernel_rfl) j0 j0 ?_
 unfold law4_Begun at h
 refine rg j0<|u<|asg j0<|r_nil ?_
 obtain ⟨v1,q1,h⟩:=bs h
 refine rg j0<|u<|pc (law4_begun_ok q1) j0 j0 j0<|u<|asg j0<|r_nil ?_
 refine sw_ret ?_
 obtain rfl:=sm h
 exact ⟨_,j0,[],ci j0,j0,j5,j0,j1⟩
end
end Go.Proofs.YtdhpdpkcfffpiaaGreat
