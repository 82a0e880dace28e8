/- FileSame: for every input the law returns true, and each argument reads as it read before. No further condition. Part 2 of 7. -/
import Derived.Test.YthmnlfenkhmmhaaGreatTg1
namespace Go.Proofs.YthmnlfenkhmmhaaGreat
set_option linter.unusedSimpArgs false
set_option linter.unusedVariables false
set_option linter.unusedSectionVars false
def gval (all : List Oper) (j : Nat) (env : Ev) : Option AV := ((all[j]?).bind (·.dst)).bind (look env)
section
variable {P : Program} {all rest : List Oper} {d : Option Tmp} {op : Op} {ty : TypeId} {pos : String} {aft : Array Edge} {env : Ev} {st : St} {K : Ev → St → Prop}
end
def low (A : Nat → Prop) (w : World) : Prop := ∀ B, A B → B < w.heap.size
def andNew (A : Nat → Prop) (w w' : World) : Nat → Prop := fun B => A B ∨ (w.heap.size ≤ B ∧ B < w'.heap.size)
def PureC (P : Program) (f : FuncId) (args : List AV) (res : AV) : Prop :=
  Callable P f ∧ ∀ A w vals, low A w → VIL A w args vals → Calls P f vals w fun e w' => ∃ v, e = .returned v ∧ Grow w w' ∧ VI (andNew A w w') w' res v
inductive Imm : AV → Prop
  | any : Imm .any
  | lit (v) : Imm (.lit v)
  | isl (k els) : Imm (.isl k els)
  | ipt (k els i j) : Imm (.ipt k els i j)
  | imp (els) : Imm (.imp els)
  | agg (cs) (h : ∀ x ∈ cs, Imm x) : Imm (.agg cs)
  | tup (cs) (h : ∀ x ∈ cs, Imm x) : Imm (.tup cs)
  | fn (f cs ds) (h : ∀ x ∈ cs, Imm x) (h' : ∀ x ∈ ds, Imm x) : Imm (.fn f cs ds)
theorem Imm.vi {A m nb w av v} (hi : Imm av) (h : V A m nb w av v) : VI A w av v := by
  induction hi generalizing v with
  | any => exact .any v
  | lit x => rw [h.lit_inv]; exact .lit _
  | isl k els => exact h.isl_inv
  | ipt k els i j => exact h.ipt_inv
  | imp els => exact h.imp_inv
  | agg cs _ ih =>
    obtain ⟨a, rfl, h1, h2⟩ := h.agg_inv
    exact .agg _ _ h1 fun i hi => ih _ (List.getElem_mem hi) (h2 i hi)
  | tup cs _ ih =>
    obtain ⟨a, rfl, h1, h2⟩ := h.tup_inv
    exact .tup _ _ h1 fun i hi => ih _ (List.getElem_mem hi) (h2 i hi)
  | fn f cs ds _ _ ih ih' =>
    obtain ⟨a, b, rfl, ⟨h1, h2⟩, ⟨h3, h4⟩⟩ := h.fn_inv
    exact .fn _ _ _ _ _ h1 (fun i hi => ih _ (List.getElem_mem hi) (h2 i hi)) h3 (fun i hi => ih' _ (List.getElem_mem hi) (h4 i hi))
inductive Seal (st : St) : AV → AV → Prop
  | imm {x} (h : Imm x) : Seal st x x
  | nil {k : Nat} : Seal st (.lit (.slice none 0 0)) (.isl k [])
  | msl {l i n k : Nat} {els els' : List (List AV)} (h : st[l]? = some (some (k, els))) (hin : i + n ≤ els.length) (hl : els'.length = n)
      (hrl : ∀ q (h : q < n) (h1 : i + q < els.length) (h2 : q < els'.length), els[i + q].length = els'[q].length)
      (hr : ∀ q (h : q < n) (h1 : i + q < els.length) (h2 : q < els'.length) j (h3 : j < els[i + q].length) (h4 : j < els'[q].length), Seal st els[i + q][j] els'[q][j]) :
      Seal st (.msl l i n) (.isl k els')
  | mpt {l i j k : Nat} {els els' : List (List AV)} (h : st[l]? = some (some (k, els))) (hl : els'.length = els.length)
      (hrl : ∀ q (h1 : q < els.length) (h2 : q < els'.length), els[q].length = els'[q].length)
      (hr : ∀ q (h1 : q < els.length) (h2 : q < els'.length) j (h3 : j < els[q].length) (h4 : j < els'[q].length), Seal st els[q][j] els'[q][j]) :
      Seal st (.mpt l i j) (.ipt k els' i j)
  | mmp {l : Nat} {els els' : List (List AV)} (h : st[l]? = some (some (2, els))) (hl : els'.length = els.length)
      (hrl : ∀ q (h1 : q < els.length) (h2 : q < els'.length), els[q].length = els'[q].length)
      (hr : ∀ q (h1 : q < els.length) (h2 : q < els'.length) j (h3 : j < els[q].length) (h4 : j < els'[q].length), Seal st els[q][j] els'[q][j]) :
      Seal st (.mmp l) (.imp els')
  | agg {cs cs' : List AV} (hl : cs.length = cs'.length) (hr : ∀ i (h : i < cs.length) (h' : i < cs'.length), Seal st cs[i] cs'[i]) : Seal st (.agg cs) (.agg cs')
  | tup {cs cs' : List AV} (hl : cs.length = cs'.length) (hr : ∀ i (h : i < cs.length) (h' : i < cs'.length), Seal st cs[i] cs'[i]) : Seal st (.tup cs) (.tup cs')
  | fn {f : Fn} {cs cs' ds ds' : List AV} (hl : cs.length = cs'.length) (hr : ∀ i (h : i < cs.length) (h' : i < cs'.length), Seal st cs[i] cs'[i])
      (hl' : ds.length = ds'.length) (hr' : ∀ i (h : i < ds.length) (h' : i < ds'.length), Seal st ds[i] ds'[i]) : Seal st (.fn f cs ds) (.fn f cs' ds')
theorem VI.widen {A A' w av v} (h : VI A w av v) (hA : ∀ B, A B → A' B) : VI A' w av v := h.mono hA fun _ _ => rfl
theorem Seal.vi {A D : Nat → Prop} {m : BM} {w : World} {st : St} (hR : R A m w st) (hA' : ∀ B, A B → D B) (hown : ∀ l b, m l = some b → b.has = true → D b.B) {av av' : AV} (hs : Seal st av av') :
    ∀ {v}, V A m st.length w av v → VI D w av' v := by
  induction hs with
  | imm h => exact fun {v} hv => (h.vi hv).widen hA'
  | nil => intro v hv; rw [hv.lit_inv]; exact .inil _ _ _
  | @msl l i n k els els' h hin hl hrl hr ih =>
    intro v hv
    obtain ⟨hlt, a, n', cap, rfl, hb⟩ := hv.msl_inv
    obtain ⟨b, h1, h2, h3, h4⟩ := hR.blk l k els h
    obtain ⟨rfl, h5, h6⟩ := hb b h1
    rcases h6 with rfl | ⟨h6, hm6, rfl, h7⟩
    · have hn0 : n' = 0 := by omega
      have : els' = [] := List.eq_nil_of_length_eq_zero (by omega)
      subst this
      rw [hn0]
      exact .inil _ _ _
    · have hok := (h3 h6).cells hm6
      subst h2
      have hcell : ∀ q j, q < els'.length → j < b.k → ∃ u, w.cell? ⟨b.B, b.o + i * b.k + q * b.k + j, none⟩ = some u ∧ ∀ (h4 : q < els'.length) (h5 : j < els'[q].length), VI D w els'[q][j] u := fun q j hq hj => by
        have hq1 : i + q < els.length := by omega
        have hj1 : j < els[i + q].length := by rw [hok.wide _ hq1]; exact hj
        obtain ⟨u, h8, h9⟩ := hok.val (i + q) hq1 j hj1
        refine ⟨u, by rw [← h8]; congr 2; rw [Nat.add_mul]; omega, fun h10 h11 => ?_⟩
        exact ih q (by omega) hq1 h10 j hj1 h11 h9
      have hw' : ∀ q (hq : q < els'.length), els'[q].length = b.k := fun q hq => by
        rw [← hrl q (by omega) (by omega) hq]; exact hok.wide _ (by omega)
      have := VI.isl (A := D) (w := w) b.k els' b.B (b.o + i * b.k) cap (fun q j => (w.cell? ⟨b.B, b.o + i * b.k + q * b.k + j, none⟩).getD undef) (hown l b h1 h6) (by omega) hw'
        (fun q j hq hj => by obtain ⟨u, h8, _⟩ := hcell q j hq hj; rw [h8]; rfl)
        (fun q hq j hj => by
          obtain ⟨u, h8, h9⟩ := hcell q j hq (by rw [← hw' q hq]; exact hj)
          show VI _ w _ ((w.cell? _).getD undef)
          rw [h8]; exact h9 hq hj)
      rw [hl] at this
      exact this
  | @mpt l i j k els els' h hl hrl hr ih =>
    intro v hv
    obtain ⟨hlt, a, rfl, hb⟩ := hv.mpt_inv
    obtain ⟨b, h1, h2, h3, h4⟩ := hR.blk l k els h
    obtain ⟨h6, hm6, rfl⟩ := hb b h1
    have hok := (h3 h6).cells hm6
    subst h2
    have hcell : ∀ q j, q < els'.length → j < b.k → ∃ u, w.cell? ⟨b.B, b.o + q * b.k + j, none⟩ = some u ∧ ∀ (h4 : q < els'.length) (h5 : j < els'[q].length), VI D w els'[q][j] u := fun q j hq hj => by
      have hq1 : q < els.length := by omega
      have hj1 : j < els[q].length := by rw [hok.wide _ hq1]; exact hj
      obtain ⟨u, h8, h9⟩ := hok.val q hq1 j hj1
      exact ⟨u, h8, fun h10 h11 => ih q hq1 h10 j hj1 h11 h9⟩
    have hw' : ∀ q (hq : q < els'.length), els'[q].length = b.k := fun q hq => by
      rw [← hrl q (by omega) hq]; exact hok.wide _ (by omega)
    exact VI.ipt (A := D) (w := w) b.k els' i j b.B b.o (fun q j => (w.cell? ⟨b.B, b.o + q * b.k + j, none⟩).getD undef) (hown l b h1 h6) hw'
      (fun q j hq hj => by obtain ⟨u, h8, _⟩ := hcell q j hq hj; rw [h8]; rfl)
      (fun q hq j hj => by
        obtain ⟨u, h8, h9⟩ := hcell q j hq (by rw [← hw' q hq]; exact hj)
        show VI _ w _ ((w.cell? _).getD undef)
        rw [h8]; exact h9 hq hj)
  | @mmp l els els' h hl hrl hr ih =>
    intro v hv
    obtain ⟨hlt, a, rfl, hb⟩ := hv.mmp_inv
    obtain ⟨b, h1, h2, h3, h4⟩ := hR.blk l 2 els h
    obtain ⟨h6, hm6, rfl⟩ := hb b h1
    obtain ⟨h0, es, clock, h7, h8, h9⟩ := (h3 h6).mval hm6
    have hw := (h3 h6).wide
    exact .imp els' b.B es clock (hown l b h1 h6) h7 (by omega) (fun q hq => by rw [← hrl q (by omega) hq, hw q (by omega), h0])
      (fun q hq j hj => ih q (by omega) hq j (by rw [hrl q (by omega) hq]; exact hj) hj (h9 q (by omega) j (by rw [hrl q (by omega) hq]; exact hj)))
  | agg hl hr ih =>
    intro v hv
    obtain ⟨a, rfl, h1, h2⟩ := hv.agg_inv
    exact .agg _ _ (by omega) fun i hi => ih i (by omega) hi (h2 i (by omega))
  | tup hl hr ih =>
    intro v hv
    obtain ⟨a, rfl, h1, h2⟩ := hv.tup_inv
    exact .tup _ _ (by omega) fun i hi => ih i (by omega) hi (h2 i (by omega))
  | fn hl hr hl' hr' ih ih' =>
    intro v hv
    obtain ⟨a, b, rfl, ⟨h1, h2⟩, ⟨h3, h4⟩⟩ := hv.fn_inv
    exact .fn _ _ _ _ _ (by omega) (fun i hi => ih i (by omega) hi (h2 i (by omega))) (by omega) fun i hi => ih' i (by omega) hi (h4 i (by omega))
inductive ImmL : List AV → Prop
  | nil : ImmL []
  | cons {x l} (h : Imm x) (t : ImmL l) : ImmL (x :: l)
theorem ImmL.get {l : List AV} (h : ImmL l) : ∀ i (hi : i < l.length), Imm l[i] := by
  induction h with
  | nil => exact fun i hi => by cases hi
  | cons h _ ih => exact fun i hi => by cases i with
    | zero => exact h
    | succ i => exact ih i (by simpa using hi)
inductive SealL (st : St) : List AV → List AV → Prop
  | nil : SealL st [] []
  | cons {x y l r} (h : Seal st x y) (t : SealL st l r) : SealL st (x :: l) (y :: r)
theorem SealL.get {st : St} {l r : List AV} (h : SealL st l r) : l.length = r.length ∧ ∀ i (hi : i < l.length) (hi' : i < r.length), Seal st l[i] r[i] := by
  induction h with
  | nil => exact ⟨rfl, fun i hi => by cases hi⟩
  | cons h _ ih =>
    refine ⟨by simp [ih.1], fun i hi hi' => ?_⟩
    cases i with
    | zero => exact h
    | succ i => exact ih.2 i (by simpa using hi) (by simpa using hi')
theorem scall_pure {P : Program} {f : FuncId} {args : List AV} {st : St} {res : AV} {K : AV → St → Prop} (h : PureC P f args res) (hi : ImmL args) (hk : K res st) : SCall P f args st K := by
  refine ⟨h.1, fun A m w vals hR hv => (h.2 A w vals hR.aLow ⟨hv.1, fun i hi' => (hi.get i hi').vi (hv.2 i hi')⟩).mono fun e w' ⟨v, he, hg, hvi⟩ => ?_⟩
  obtain ⟨h1, h2⟩ := hR.grow (A' := andNew A w w') hg (fun B hB => .inl hB) (fun B hB => hB)
  exact ⟨v, _, m, st, res, he, h1, h2, .imm hvi, hk⟩
theorem pure_of {P : Program} {f : FuncId} {args : List AV} {res : AV} (h : SCall P f args [] fun av st => Seal st av res) : PureC P f args res := by
  refine ⟨h.1, fun A w vals hA hv => ?_⟩
  have hR : R A (fun _ => none) w [] := ⟨hA, (fun _ _ _ _ h => (by cases h)), (fun _ _ _ _ h => (by cases h)), (fun _ _ h => (by cases h)), (fun _ _ _ h => (by simp at h))⟩
  refine (h.2 A (fun _ => none) w vals hR ⟨hv.1, fun i hi => .imm (hv.2 i hi)⟩).mono fun e w' ⟨v, A', m', st', av, he, hR', hS, hv', hs⟩ => ?_
  have hg : Grow w w' := ⟨hS.size, (fun B hB => hS.heap B hB (fun l b hb => (by cases hb))), hS.os, hS.tape, hS.output, hS.fzS⟩
  refine ⟨v, he, hg, ?_⟩
  exact hs.vi hR' (fun B hB => (hS.aNew B hB).imp id fun h => ⟨h.elim id fun ⟨_, _, h, _⟩ => (by cases h), hR'.aLow B hB⟩) (fun l b hb hh => by
    rcases hS.mNew l b hb hh with h1 | ⟨_, _, h1, _⟩
    · exact .inr ⟨h1, hR'.low hb hh⟩
    · cases h1) hv'
end Go.Proofs.YthmnlfenkhmmhaaGreat
namespace Go.Proofs.YthmnlfenkhmmhaaGreat
set_option linter.unusedSimpArgs false
set_option linter.unusedVariables false
set_option linter.unusedSectionVars false
inductive Rn (ρ : Nat → Option Nat) : AV → AV → Prop
  | any (x) : Rn ρ .any x
  | imm {x} (h : Imm x) : Rn ρ x x
  | nilI {k : Nat} : Rn ρ (.isl k []) (.lit (.slice none 0 0))
  | nil0 {l l' : Nat} (h : ρ l = some l') : Rn ρ (.msl l 0 0) (.lit (.slice none 0 0))
  | msl {l l' i n : Nat} (h : ρ l = some l') : Rn ρ (.msl l i n) (.msl l' i n)
  | mpt {l l' i j : Nat} (h : ρ l = some l') : Rn ρ (.mpt l i j) (.mpt l' i j)
  | mmp {l l' : Nat} (h : ρ l = some l') : Rn ρ (.mmp l) (.mmp l')
  | agg {cs cs' : List AV} (hl : cs.length = cs'.length) (hr : ∀ i (h : i < cs.length) (h' : i < cs'.length), Rn ρ cs[i] cs'[i]) : Rn ρ (.agg cs) (.agg cs')
  | tup {cs cs' : List AV} (hl : cs.length = cs'.length) (hr : ∀ i (h : i < cs.length) (h' : i < cs'.length), Rn ρ cs[i] cs'[i]) : Rn ρ (.tup cs) (.tup cs')
  | fn {f : Fn} {cs cs' ds ds' : List AV} (hl : cs.length = cs'.length) (hr : ∀ i (h : i < cs.length) (h' : i < cs'.length), Rn ρ cs[i] cs'[i])
      (hl' : ds.length = ds'.length) (hr' : ∀ i (h : i < ds.length) (h' : i < ds'.length), Rn ρ ds[i] ds'[i]) : Rn ρ (.fn f cs ds) (.fn f cs' ds')
theorem Rn.v {ρ A m m' nb nb'} {w : World} (hm : ∀ l l', ρ l = some l' → m' l = m l' ∧ l < nb') {av0 av : AV} (h : Rn ρ av0 av) : ∀ {v}, V A m nb w av v → V A m' nb' w av0 v := by
  induction h with
  | any x => exact fun {v} _ => .imm (.any v)
  | imm h => exact fun {v} hv => .imm (h.vi hv)
  | nilI => intro v hv; rw [hv.lit_inv]; exact .imm (.inil _ _ _)
  | nil0 h =>
    intro v hv
    rw [hv.lit_inv]
    exact .msl _ _ _ _ _ _ (hm _ _ h).2 fun b hb => ⟨rfl, Nat.le_refl _, .inl rfl⟩
  | msl h =>
    intro v hv
    obtain ⟨hl, a, n', cap, rfl, hb⟩ := hv.msl_inv
    obtain ⟨h1, h2⟩ := hm _ _ h
    exact .msl _ _ _ _ _ _ h2 fun b hb' => hb b (h1 ▸ hb')
  | mpt h =>
    intro v hv
    obtain ⟨hl, a, rfl, hb⟩ := hv.mpt_inv
    obtain ⟨h1, h2⟩ := hm _ _ h
    exact .mpt _ _ _ _ h2 fun b hb' => hb b (h1 ▸ hb')
  | mmp h =>
    intro v hv
    obtain ⟨hl, a, rfl, hb⟩ := hv.mmp_inv
    obtain ⟨h1, h2⟩ := hm _ _ h
    exact .mmp _ _ h2 fun b hb' => hb b (h1 ▸ hb')
  | agg hl hr ih =>
    intro v hv
    obtain ⟨a, rfl, h1, h2⟩ := hv.agg_inv
    exact .agg _ _ (by omega) fun i hi => ih i hi (by omega) (h2 i (by omega))
  | tup hl hr ih =>
    intro v hv
    obtain ⟨a, rfl, h1, h2⟩ := hv.tup_inv
    exact .tup _ _ (by omega) fun i hi => ih i hi (by omega) (h2 i (by omega))
  | fn hl hr hl' hr' ih ih' =>
    intro v hv
    obtain ⟨a, b, rfl, ⟨h1, h2⟩, ⟨h3, h4⟩⟩ := hv.fn_inv
    exact .fn _ _ _ _ _ (by omega) (fun i hi => ih i hi (by omega) (h2 i (by omega))) (by omega) fun i hi => ih' i hi (by omega) (h4 i (by omega))
def RnRows (ρ : Nat → Option Nat) (els0 els : List (List AV)) : Prop :=
  els0.length = els.length ∧ ∀ i (h : i < els0.length) (h' : i < els.length), els0[i].length = els[i].length ∧ ∀ j (h1 : j < els0[i].length) (h2 : j < els[i].length), Rn ρ els0[i][j] els[i][j]
structure RnSt (ρ : Nat → Option Nat) (st0 st : St) : Prop where
  live : ∀ l l', ρ l = some l' → ∃ k els0 els, st0[l]? = some (some (k, els0)) ∧ st[l']? = some (some (k, els)) ∧ RnRows ρ els0 els
  all : ∀ l k els0, st0[l]? = some (some (k, els0)) → ∃ l', ρ l = some l'
  inj : ∀ l1 l2 x, ρ l1 = some x → ρ l2 = some x → l1 = l2
theorem RnSt.lt {ρ st0 st} (h : RnSt ρ st0 st) {l l'} (hl : ρ l = some l') : l < st0.length ∧ l' < st.length := by
  obtain ⟨k, els0, els, h1, h2, _⟩ := h.live l l' hl
  exact ⟨(List.getElem?_eq_some_iff.1 h1).1, (List.getElem?_eq_some_iff.1 h2).1⟩
theorem R.rn {ρ A m w st st0} (hR : R A m w st) (h : RnSt ρ st0 st) : R A (fun l => (ρ l).bind m) w st0 := by
  have hmm : ∀ l b, (ρ l).bind m = some b → ∃ l', ρ l = some l' ∧ m l' = some b := fun l b hb => by
    cases hl : ρ l with
    | none => rw [hl] at hb; cases hb
    | some l' => rw [hl] at hb; exact ⟨l', rfl, hb⟩
  refine ⟨hR.aLow, fun B l b hA hb hh => ?_, fun l1 l2 b1 b2 h1 h2 hh1 hh2 he => ?_, fun l b hb => ?_, fun l k els0 he => ?_⟩
  · obtain ⟨l', _, h2⟩ := hmm l b hb
    exact hR.aOwn B l' b hA h2 hh
  · obtain ⟨x1, k1, k2⟩ := hmm l1 b1 h1
    obtain ⟨x2, k3, k4⟩ := hmm l2 b2 h2
    have := hR.inj x1 x2 b1 b2 k2 k4 hh1 hh2 he
    subst this
    exact h.inj l1 l2 x1 k1 k3
  · obtain ⟨l', h1, h2⟩ := hmm l b hb
    obtain ⟨k, els0, els, h3, h4, _⟩ := h.live l l' h1
    exact ⟨els0, by rw [h3]; rw [(hR.at h2 h4).1]⟩
  · obtain ⟨l', h1⟩ := h.all l k els0 he
    obtain ⟨k', els0', els, h3, h4, h5⟩ := h.live l l' h1
    rw [he] at h3
    cases h3
    obtain ⟨b, h6, h7, h8, h9⟩ := hR.blk l' k els h4
    refine ⟨b, by rw [h1]; exact h6, h7, fun hh => ?_, fun hh => ?_⟩
    · exact (h8 hh).rel h5.1 fun i hi hi' => ⟨(h5.2 i hi hi').1, fun j hj hj' v hv => ((h5.2 i hi hi').2 j hj hj').v (fun l l' hl => ⟨by rw [hl]; rfl, (h.lt hl).1⟩) hv⟩
    · have := h9 hh
      subst this
      exact List.eq_nil_of_length_eq_zero h5.1
theorem Step.rn {ρ A m nb0 w A' m' nb' w' st0 st'} (h : RnSt ρ st0 st') (hS : Step A m nb0 w A' m' nb' w') (hid : ∀ l l', ρ l = some l' → l < nb0 → l' = l) (hn : nb0 ≤ st0.length) :
    Step A m nb0 w A' (fun l => (ρ l).bind m') st0.length w' := by
  refine ⟨hn, hS.size, hS.aSub, hS.aNew, fun l hl => ?_, fun l b hb hh => ?_, hS.heap, hS.os, hS.tape, hS.output, hS.fzS⟩
  · cases hr : ρ l with
    | none => exact .inr rfl
    | some l' =>
      have := hid l l' hr hl
      subst this
      exact hS.mOld l' hl
  · cases hr : ρ l with
    | none => simp [hr] at hb
    | some l' => simp only [hr, Option.bind_some] at hb; exact hS.mNew l' b hb hh
def EnvRn (ρ : Nat → Option Nat) : Ev → Ev → Prop
  | [], _ => True
  | (t, v0) :: r, env => (∃ v, look env t = some v ∧ Rn ρ v0 v) ∧ EnvRn ρ r env
theorem EnvRn.get {ρ} : ∀ {env0 env : Ev}, EnvRn ρ env0 env → ∀ t v0, look env0 t = some v0 → ∃ v, look env t = some v ∧ Rn ρ v0 v
  | [], _, _, t, v0, h => by cases h
  | (k, x) :: r, env, h, t, v0, hl => by
    simp only [look] at hl
    split at hl
    · rename_i e; subst e; cases hl; exact h.1
    · exact EnvRn.get h.2 t v0 hl
mutual
def rn (τ : Nat → Nat) : AV → AV
  | .msl l i n => .msl (τ l) i n
  | .mpt l i j => .mpt (τ l) i j
  | .agg cs => .agg (rnL τ cs)
  | .tup cs => .tup (rnL τ cs)
  | .fn f cs ds => .fn f (rnL τ cs) (rnL τ ds)
  | .any => .any
  | .lit v => .lit v
  | .isl k els => .isl k els
  | .ipt k els i j => .ipt k els i j
  | .imp els => .imp els
  | .mmp l => .mmp (τ l)
def rnL (τ : Nat → Nat) : List AV → List AV
  | [] => []
  | x :: l => rn τ x :: rnL τ l
end
theorem rnL_map (τ : Nat → Nat) : ∀ l, rnL τ l = l.map (rn τ)
  | [] => rfl
  | x :: l => by rw [rnL, List.map_cons, rnL_map τ l]
theorem rn_v {τ : Nat → Nat} {A m m' nb nb'} {w : World} (hm : ∀ l, l < nb → m' (τ l) = m l ∧ τ l < nb') {av : AV} {v : Value} (h : V A m nb w av v) : V A m' nb' w (rn τ av) v := by
  have immv : ∀ {av v}, VI A w av v → V A m' nb' w (rn τ av) v := fun {av v} h => by
    induction h with
    | any v => exact .imm (.any v)
    | lit v => exact .imm (.lit v)
    | isl k els B o cap vs hA hcap hk hc hv _ => exact .imm (.isl k els B o cap vs hA hcap hk hc hv)
    | inil k a cap => exact .imm (.inil k a cap)
    | ipt k els i j B o vs hA hk hc hv _ => exact .imm (.ipt k els i j B o vs hA hk hc hv)
    | imp els r es clock hA hh hs hk hv _ => exact .imm (.imp els r es clock hA hh hs hk hv)
    | agg cs a hs _ ih => rw [rn, rnL_map]; exact .agg _ _ (by simpa using hs) fun i hi => by simpa using ih i (by simpa using hi)
    | tup cs a hs _ ih => rw [rn, rnL_map]; exact .tup _ _ (by simpa using hs) fun i hi => by simpa using ih i (by simpa using hi)
    | fn f cs ds a b hs _ hs' _ ih ih' => rw [rn, rnL_map, rnL_map]; exact .fn _ _ _ _ _ (by simpa using hs) (fun i hi => by simpa using ih i (by simpa using hi)) (by simpa using hs') fun i hi => by simpa using ih' i (by simpa using hi)
  induction h with
  | imm h => exact immv h
  | msl l i n a n' cap hl h => exact .msl _ _ _ _ _ _ (hm l hl).2 fun b hb => h b ((hm l hl).1 ▸ hb)
  | mpt l i j a hl h => exact .mpt _ _ _ _ (hm l hl).2 fun b hb => h b ((hm l hl).1 ▸ hb)
  | mmp l a hl h => exact .mmp _ _ (hm l hl).2 fun b hb => h b ((hm l hl).1 ▸ hb)
  | agg cs a hs _ ih => rw [rn, rnL_map]; exact .agg _ _ (by simpa using hs) fun i hi => by simpa using ih i (by simpa using hi)
  | tup cs a hs _ ih => rw [rn, rnL_map]; exact .tup _ _ (by simpa using hs) fun i hi => by simpa using ih i (by simpa using hi)
  | fn f cs ds a b hs _ hs' _ ih ih' => rw [rn, rnL_map, rnL_map]; exact .fn _ _ _ _ _ (by simpa using hs) (fun i hi => by simpa using ih i (by simpa using hi)) (by simpa using hs') fun i hi => by simpa using ih' i (by simpa using hi)
def rnRows (τ : Nat → Nat) (els : List (List AV)) : List (List AV) := els.map (rnL τ)
def rnBlk (τ : Nat → Nat) : Option (Nat × List (List AV)) → Option (Nat × List (List AV))
  | some (k, els) => some (k, rnRows τ els)
  | none => none
def tau (L : List Nat) (nb : Nat) (i : Nat) : Nat :=
  match L[i]? with
  | some l => l
  | none => nb + (i - L.length)
def setsAt (τ : Nat → Nat) : St → List Nat → St → St
  | st, l :: L, b :: bs => setsAt τ (st.set l (rnBlk τ b)) L bs
  | st, _, _ => st
def unframe (L : List Nat) (st st' : St) : St :=
  setsAt (tau L st.length) st L (st'.take L.length) ++ (st'.drop L.length).map (rnBlk (tau L st.length))
theorem setsAt_length (τ : Nat → Nat) : ∀ (L : List Nat) (st bs : St), (setsAt τ st L bs).length = st.length
  | [], _, bs => by cases bs <;> rfl
  | l :: L, st, [] => rfl
  | l :: L, st, b :: bs => by rw [setsAt, setsAt_length τ L]; simp
theorem setsAt_get (τ : Nat → Nat) : ∀ (L : List Nat) (st bs : St) (x : Nat), L.Nodup → L.length = bs.length → (∀ l ∈ L, l < st.length) →
    (x ∉ L → (setsAt τ st L bs)[x]? = st[x]?) ∧ ∀ i : Nat, L[i]? = some x → (setsAt τ st L bs)[x]? = (bs[i]?).map (rnBlk τ)
  | [], st, bs, x, _, _, _ => ⟨fun _ => by cases bs <;> rfl, fun i h => by simp at h⟩
  | l :: L, st, [], x, _, h, _ => by simp at h
  | l :: L, st, b :: bs, x, hn, hl, hlt => by
    obtain ⟨hn1, hn2⟩ := List.nodup_cons.1 hn
    obtain ⟨h1, h2⟩ := setsAt_get τ L (st.set l (rnBlk τ b)) bs x hn2 (by simpa using hl) (fun y hy => by simpa using hlt y (by simp [hy]))
    refine ⟨fun hx => ?_, fun i hi => ?_⟩
    · simp at hx
      rw [setsAt, h1 hx.2, List.getElem?_set_ne (Ne.symm hx.1)]
    · cases i with
      | zero =>
        simp at hi
        subst hi
        rw [setsAt, h1 hn1, List.getElem?_set_self (hlt l (by simp))]
        rfl
      | succ i => rw [setsAt]; simpa using h2 i (by simpa using hi)
theorem scall_frame {P : Program} {f : FuncId} {args args0 : List AV} {st st0 : St} {K0 K : AV → St → Prop} (h : SCall P f args0 st0 K0) (L : List Nat) (hL : L.length = st0.length) (hnd : L.Nodup) (hlt : ∀ l ∈ L, l < st.length)
    (ha : args0.length = args.length) (hargs : ∀ i (h : i < args0.length) (h' : i < args.length), Rn (fun i => L[i]?) args0[i] args[i]) (hs : RnSt (fun i => L[i]?) st0 st)
    (hk : ∀ av st', K0 av st' → K (rn (tau L st.length) av) (unframe L st st')) : SCall P f args st K := by
  refine ⟨h.1, fun A m w vals hR hv => ?_⟩
  have hR0 := hR.rn hs
  refine (h.2 A _ w vals hR0 ⟨by rw [ha]; exact hv.1, fun i hi => (hargs i hi (by omega)).v (fun l l' hl => ⟨by rw [hl]; rfl, (hs.lt hl).1⟩) (hv.2 i (by omega))⟩).mono fun e w' ⟨v, A', m', st', av, he, hR', hS, hv', hK⟩ => ?_
  have hS0 := hS.nbLe
  have hLst : L.length ≤ st'.length := by omega
  classical
  have hLlt : ∀ i l, L[i]? = some l → l < st.length := fun i l h => hlt l (List.mem_of_getElem? h)
  obtain ⟨μ, hμ⟩ : ∃ μ : BM, μ = fun l => if h : ∃ i : Nat, L[i]? = some l then m' h.choose else if l < st.length then m l else m' (L.length + (l - st.length)) := ⟨_, rfl⟩
  have μ1 : ∀ i l, L[i]? = some l → μ l = m' i := fun i l h => by
    have hex : ∃ i : Nat, L[i]? = some l := ⟨i, h⟩
    rw [hμ]
    simp only [dif_pos hex]
    rw [hs.inj hex.choose i l hex.choose_spec h]
  have μ2 : ∀ l, (∀ i, L[i]? ≠ some l) → l < st.length → μ l = m l := fun l h hl => by
    have hex : ¬ ∃ i : Nat, L[i]? = some l := fun ⟨i, hi⟩ => h i hi
    rw [hμ]
    simp only [dif_neg hex, if_pos hl]
  have μ3 : ∀ l, st.length ≤ l → μ l = m' (L.length + (l - st.length)) := fun l hl => by
    have hex : ¬ ∃ i : Nat, L[i]? = some l := fun ⟨i, hi⟩ => by have := hLlt i l hi; omega
    rw [hμ]
    simp only [dif_neg hex, if_neg (by omega : ¬ l < st.length)]
  have τ1 : ∀ i l, L[i]? = some l → tau L st.length i = l := fun i l h => by simp [tau, h]
  have τ2 : ∀ i, L.length ≤ i → tau L st.length i = st.length + (i - L.length) := fun i h => by simp [tau, List.getElem?_eq_none h]
  have hlen : (unframe L st st').length = st.length + (st'.length - L.length) := by simp [unframe, setsAt_length]
  have hbs : L.length = (st'.take L.length).length := by simp; omega
  have U1 : ∀ i l, L[i]? = some l → (unframe L st st')[l]? = (st'[i]?).map (rnBlk (tau L st.length)) := fun i l h => by
    have hi : i < L.length := (List.getElem?_eq_some_iff.1 h).1
    unfold unframe
    rw [List.getElem?_append_left (by rw [setsAt_length]; exact hLlt i l h), (setsAt_get _ L st _ l hnd hbs hlt).2 i h, List.getElem?_take, if_pos hi]
  have U2 : ∀ l, (∀ i, L[i]? ≠ some l) → l < st.length → (unframe L st st')[l]? = st[l]? := fun l h hl => by
    unfold unframe
    rw [List.getElem?_append_left (by rw [setsAt_length]; exact hl), (setsAt_get _ L st _ l hnd hbs hlt).1 fun hm => ?_]
    obtain ⟨i, hi⟩ := List.getElem?_of_mem hm
    exact h i hi
  have U3 : ∀ l, st.length ≤ l → (unframe L st st')[l]? = (st'[L.length + (l - st.length)]?).map (rnBlk (tau L st.length)) := fun l hl => by
    unfold unframe
    rw [List.getElem?_append_right (by rw [setsAt_length]; exact hl), setsAt_length, List.getElem?_map, List.getElem?_drop]
  have hmτ : ∀ i, i < st'.length → μ (tau L st.length i) = m' i ∧ tau L st.length i < (unframe L st st').length := fun i hi => by
    rw [hlen]
    by_cases h1 : i < L.length
    · have h2 := List.getElem?_eq_getElem h1
      rw [τ1 i _ h2]
      exact ⟨μ1 i _ h2, by have := hLlt i _ h2; omega⟩
    · rw [τ2 i (by omega)]
      refine ⟨by rw [μ3 _ (by omega)]; congr 1; omega, by omega⟩
  have from_ : ∀ l, l < (unframe L st st').length → (∃ i, i < st'.length ∧ tau L st.length i = l ∧ μ l = m' i ∧ (unframe L st st')[l]? = (st'[i]?).map (rnBlk (tau L st.length))) ∨
      ((∀ i : Nat, L[i]? ≠ some l) ∧ l < st.length ∧ μ l = m l ∧ (unframe L st st')[l]? = st[l]?) := fun l hl => by
    by_cases h1 : ∃ i : Nat, L[i]? = some l
    · obtain ⟨i, hi⟩ := h1
      have : i < L.length := (List.getElem?_eq_some_iff.1 hi).1
      exact .inl ⟨i, by omega, τ1 i l hi, μ1 i l hi, U1 i l hi⟩
    · have h1' : ∀ i : Nat, L[i]? ≠ some l := fun i hi => h1 ⟨i, hi⟩
      by_cases h2 : l < st.length
      · exact .inr ⟨h1', h2, μ2 l h1' h2, U2 l h1' h2⟩
      · refine .inl ⟨L.length + (l - st.length), by omega, ?_, μ3 l (by omega), U3 l (by omega)⟩
        rw [τ2 _ (by omega)]; omega
  have μlt : ∀ l b, μ l = some b → l < (unframe L st st').length := fun l b h => by
    rw [hlen]
    by_cases h2 : l < st.length
    · omega
    · rw [μ3 l (by omega)] at h
      have := hR'.lt h
      omega
  have hown0 : ∀ (i : Nat) (b : Blk), (L[i]?).bind m = some b → ∃ l, L[i]? = some l ∧ m l = some b := fun i b h => by
    cases hl : L[i]? with
    | none => rw [hl] at h; cases h
    | some l => rw [hl] at h; exact ⟨l, rfl, h⟩
  have hSB : Step A m st.length w A' μ (unframe L st st').length w' := by
    refine ⟨by omega, hS.size, hS.aSub, fun B hB => (hS.aNew B hB).imp id fun h => h.imp id fun ⟨l0, b0, h4, h5, h6⟩ => (let ⟨x, _, h8⟩ := hown0 l0 b0 h4; ⟨x, b0, h8, h5, h6⟩), fun l hl => ?_, fun l b hb hh => ?_, fun B hB ho => hS.heap B hB fun i b hb hh => ?_, hS.os, hS.tape, hS.output, hS.fzS⟩
    · by_cases h1 : ∃ i : Nat, L[i]? = some l
      · obtain ⟨i, hi⟩ := h1
        have hi' : i < st0.length := by rw [← hL]; exact (List.getElem?_eq_some_iff.1 hi).1
        rw [μ1 i l hi]
        have := hS.mOld i hi'
        rw [hi] at this
        exact this
      · exact .inl (μ2 l (fun i hi => h1 ⟨i, hi⟩) hl)
    · rcases from_ l (μlt l b hb) with ⟨i, _, _, h3, _⟩ | ⟨_, _, h3, _⟩
      · rw [h3] at hb
        rcases hS.mNew i b hb hh with h4 | ⟨l0, b0, h4, h5, h6⟩
        · exact .inl h4
        · obtain ⟨x, _, h7⟩ := hown0 l0 b0 h4
          exact .inr ⟨x, b0, h7, h5, h6⟩
      · rw [h3] at hb
        exact .inr ⟨l, b, hb, hh, rfl⟩
    · obtain ⟨x, _, h7⟩ := hown0 i b hb
      exact ho x b h7 hh
  have hfr : ∀ (l : Nat) (b : Blk), (∀ i : Nat, L[i]? ≠ some l) → m l = some b → b.has = true → ∀ (i : Nat) (b' : Blk), m' i = some b' → b'.has = true → b'.B ≠ b.B := fun l b hnl hb hh i b' hb' hh' he => by
    rcases hS.mNew i b' hb' hh' with h4 | ⟨l0, b0, h4, h5, h6⟩
    · have := hR.low hb hh; omega
    · obtain ⟨x, h7, h8⟩ := hown0 l0 b0 h4
      have := hR.inj x l b0 b h8 hb h5 hh (h6.trans he)
      subst this
      exact hnl l0 h7
  have hrows : ∀ {els : List (List AV)} {i : Nat} (hi : i < (rnRows (tau L st.length) els).length) (hi' : i < els.length), (rnRows (tau L st.length) els)[i] = els[i].map (rn (tau L st.length)) := fun hi hi' => by
    simp [rnRows, rnL_map]
  refine ⟨v, A', μ, unframe L st st', rn (tau L st.length) av, he, ⟨hR'.aLow, fun B l b hA hb hh => ?_, fun l1 l2 b1 b2 h1 h2 hh1 hh2 hBB => ?_, fun l b hb => ?_, fun l k els hel => ?_⟩, hSB, rn_v hmτ hv', hk av st' hK⟩
  · rcases from_ l (μlt l b hb) with ⟨i, _, _, h3, _⟩ | ⟨_, _, h3, _⟩
    · rw [h3] at hb; exact hR'.aOwn B i b hA hb hh
    · rw [h3] at hb
      rename_i hnl _ _
      rcases hS.aNew B hA with h4 | h4 | ⟨l0, b0, h4, h5, h6⟩
      · exact hR.aOwn B l b h4 hb hh
      · have := hR.low hb hh; omega
      · obtain ⟨x, h7, h8⟩ := hown0 l0 b0 h4
        intro he
        have := hR.inj x l b0 b h8 hb h5 hh (h6.trans he.symm)
        subst this
        exact hnl l0 h7
  · rcases from_ l1 (μlt l1 b1 h1) with ⟨i1, _, e1, h3, _⟩ | ⟨n1, _, h3, _⟩ <;> rcases from_ l2 (μlt l2 b2 h2) with ⟨i2, _, e2, h4, _⟩ | ⟨n2, _, h4, _⟩ <;> rw [h3] at h1 <;> rw [h4] at h2
    · rw [← e1, ← e2, hR'.inj i1 i2 b1 b2 h1 h2 hh1 hh2 hBB]
    · exact absurd hBB (hfr l2 b2 n2 h2 hh2 i1 b1 h1 hh1)
    · exact absurd hBB.symm (hfr l1 b1 n1 h1 hh1 i2 b2 h2 hh2)
    · exact hR.inj l1 l2 b1 b2 h1 h2 hh1 hh2 hBB
  · rcases from_ l (μlt l b hb) with ⟨i, _, _, h3, h4⟩ | ⟨_, _, h3, h4⟩
    · rw [h3] at hb
      obtain ⟨els, he'⟩ := hR'.live i b hb
      exact ⟨rnRows (tau L st.length) els, by rw [h4, he']; rfl⟩
    · rw [h3] at hb
      obtain ⟨els, he'⟩ := hR.live l b hb
      exact ⟨els, by rw [h4]; exact he'⟩
  · rcases from_ l (List.getElem?_eq_some_iff.1 hel).1 with ⟨i, _, _, h3, h4⟩ | ⟨hn1, _, h3, h4⟩
    · rw [h4] at hel
      cases hi : st'[i]? with
      | none => rw [hi] at hel; cases hel
      | some bl =>
        rw [hi] at hel
        cases bl with
        | none => simp [rnBlk] at hel
        | some kb =>
          obtain ⟨k', els'⟩ := kb
          simp [rnBlk] at hel
          obtain ⟨rfl, rfl⟩ := hel
          obtain ⟨b, h5, h6, h7, h8⟩ := hR'.blk i k' els' hi
          refine ⟨b, by rw [h3]; exact h5, h6, fun hh => ?_, fun hh => by rw [h8 hh]; rfl⟩
          refine (h7 hh).rel (by simp [rnRows]) fun q hq hq' => ⟨by rw [hrows hq hq']; simp, fun j hj hj' v hv => ?_⟩
          have : (rnRows (tau L st.length) els')[q][j] = rn (tau L st.length) els'[q][j] := by simp [rnRows, rnL_map]
          rw [this]
          exact rn_v hmτ hv
    · rw [h4] at hel
      obtain ⟨b, h5, h6, h7, h8⟩ := hR.blk l k els hel
      refine ⟨b, by rw [h3]; exact h5, h6, fun hh => (h7 hh).keep hS.size (hS.heap _ (h7 hh).low fun i b' hb' hh' => ?_) fun av v hv => hv.step hR hSB, h8⟩
      obtain ⟨x, h9, h10⟩ := hown0 i b' hb'
      intro he'
      have := hR.inj x l b' b h10 h5 hh' hh he'
      subst this
      exact hn1 i h9
end Go.Proofs.YthmnlfenkhmmhaaGreat
namespace Go.Proofs.YthmnlfenkhmmhaaGreat
set_option linter.unusedSimpArgs false
set_option linter.unusedVariables false
set_option linter.unusedSectionVars false
theorem take_map_full {α β : Type} (f : α → β) (l : List α) : (l.map f).take l.length = l.map f := List.take_of_length_le (by simp)
def mapL (L : List (Option Nat)) (l : Nat) : Option Nat := (L[l]?).bind id
def RnStL (ρ : Nat → Option Nat) : List (Option Nat) → St → St → Prop
  | [], [], _ => True
  | none :: L, none :: s0, st => RnStL ρ L s0 st
  | some l' :: L, some (k, els0) :: s0, st => (∃ els, st[l']? = some (some (k, els)) ∧ RnRows ρ els0 els) ∧ RnStL ρ L s0 st
  | _, _, _ => False
theorem RnStL.len {ρ} : ∀ {L : List (Option Nat)} {s0 st : St}, RnStL ρ L s0 st → L.length = s0.length
  | [], [], _, _ => rfl
  | [], _ :: _, _, h => h.elim
  | none :: L, [], _, h => h.elim
  | some _ :: L, [], _, h => h.elim
  | none :: L, none :: s0, st, h => by simpa using RnStL.len (L := L) (s0 := s0) (st := st) h
  | none :: L, some _ :: s0, st, h => h.elim
  | some _ :: L, none :: s0, st, h => h.elim
  | some l' :: L, some (k, e) :: s0, st, h => by simpa using RnStL.len h.2
theorem RnStL.get {ρ} : ∀ {L : List (Option Nat)} {s0 st : St}, RnStL ρ L s0 st → ∀ l, (∀ l', mapL L l = some l' → ∃ k els0 els, s0[l]? = some (some (k, els0)) ∧ st[l']? = some (some (k, els)) ∧ RnRows ρ els0 els) ∧
    ∀ k els0, s0[l]? = some (some (k, els0)) → ∃ l', mapL L l = some l'
  | [], [], _, _, l => ⟨fun l' h => by simp [mapL] at h, fun k e h => by simp at h⟩
  | [], _ :: _, _, h, _ => h.elim
  | none :: L, [], _, h, _ => h.elim
  | some _ :: L, [], _, h, _ => h.elim
  | none :: L, some _ :: s0, st, h, _ => h.elim
  | some _ :: L, none :: s0, st, h, _ => h.elim
  | none :: L, none :: s0, st, h, l => by
    cases l with
    | zero => exact ⟨fun l' h' => by simp [mapL] at h', fun k e h' => by simp at h'⟩
    | succ l => simpa [mapL] using RnStL.get (L := L) (s0 := s0) (st := st) h l
  | some x :: L, some (k, e) :: s0, st, h, l => by
    cases l with
    | zero =>
      obtain ⟨els, h1, h2⟩ := h.1
      refine ⟨fun l' h' => ?_, fun k' e' h' => ⟨x, by simp [mapL]⟩⟩
      simp [mapL] at h'
      subst h'
      exact ⟨k, e, els, by simp, h1, h2⟩
    | succ l => simpa [mapL] using RnStL.get h.2 l
theorem RnRows.same {ρ} {els : List (List AV)} (h : ∀ r ∈ els, ∀ x ∈ r, Imm x) : RnRows ρ els els :=
  ⟨rfl, fun i hi _ => ⟨rfl, fun j hj _ => .imm (h _ (List.getElem_mem hi) _ (List.getElem_mem hj))⟩⟩
theorem RnRows.bytes {ρ} (bs : List UInt8) : RnRows ρ (bs.map byteRow) (bs.map byteRow) :=
  RnRows.same fun r hr x hx => by
    obtain ⟨b, _, rfl⟩ := List.mem_map.1 hr
    simp [byteRow] at hx
    subst hx
    exact .lit _
theorem RnRows.nil {ρ} : RnRows ρ [] [] := ⟨rfl, fun i hi => by simp at hi⟩
theorem RnRows.one {ρ} {r r' : List AV} (hl : r.length = r'.length) (h : ∀ j (h1 : j < r.length) (h2 : j < r'.length), Rn ρ r[j] r'[j]) : RnRows ρ [r] [r'] :=
  ⟨rfl, fun i hi _ => by
    have : i = 0 := by simp at hi; exact hi
    subst this
    exact ⟨hl, h⟩⟩
inductive Plain : AV → Prop
  | any : Plain .any
  | lit (v) : Plain (.lit v)
  | agg (cs) (h : ∀ x ∈ cs, Plain x) : Plain (.agg cs)
  | tup (cs) (h : ∀ x ∈ cs, Plain x) : Plain (.tup cs)
theorem Plain.vi {A A' : Nat → Prop} {w w' : World} {av : AV} (hp : Plain av) : ∀ {v}, VI A w av v → VI A' w' av v := by
  induction hp with
  | any => exact fun {v} _ => .any v
  | lit x => intro v h; cases h; exact .lit _
  | agg cs _ ih => intro v h; cases h with | agg _ a hs hv => exact .agg _ _ hs fun i hi => ih _ (List.getElem_mem hi) (hv i hi)
  | tup cs _ ih => intro v h; cases h with | tup _ a hs hv => exact .tup _ _ hs fun i hi => ih _ (List.getElem_mem hi) (hv i hi)
theorem scall_sealp {P : Program} {f : FuncId} {args args' : List AV} {st : St} {r : AV} {K : AV → St → Prop} (h : PureC P f args' r) (hp : Plain r) (hs : SealL st args args') (hk : K r st) : SCall P f args st K := by
  refine ⟨h.1, fun A m w vals hR hv => (h.2 (fun B => B < w.heap.size) w vals (fun B hB => hB) ⟨by rw [← hs.get.1]; exact hv.1, fun i hi' => (hs.get.2 i (by rw [hs.get.1]; exact hi') hi').vi hR hR.aLow (fun _ _ hb hh => hR.low hb hh) (hv.2 i (by rw [hs.get.1]; exact hi'))⟩).mono fun e w' ⟨v, he, hg, hvi⟩ => ?_⟩
  obtain ⟨h1, h2⟩ := hR.grow' hg
  exact ⟨v, A, m, st, _, he, h1, h2, .imm (hp.vi hvi), hk⟩
end Go.Proofs.YthmnlfenkhmmhaaGreat
namespace Go.Proofs.YthmnlfenkhmmhaaGreat
set_option linter.unusedSimpArgs false
set_option linter.unusedVariables false
set_option linter.unusedSectionVars false
def SOp2 (P : Program) (op : Op) (env : Ev) (st : St) (K : AV → St → Prop) : Prop :=
  match isCall op with
  | true =>
    match acall env op with
    | some (g, args) => SCall P g args st K
    | none => False
  | false =>
    match aop P env st op with
    | some (av, st') => K av st'
    | none => False
theorem op_wp2 {P : Program} {A m w st n env a} {o : Oper} {K : AV → St → Prop} {next : Act → World → Prop} {Q : Exit → Act → World → Prop} (hR : R A m w st) (hE : Env A m st.length w n env a)
    (h : SOp2 P o.op env st K)
    (hk : ∀ v w' A' m' st' av, R A' m' w' st' → Step A m st.length w A' m' st'.length w' → V A' m' st'.length w' av v → K av st' → next (a.put o.dst v) w') : o.wp P a w next Q := by
  unfold SOp2 at h
  unfold Oper.wp
  split at h
  · rename_i hic
    clear hic
    split at h
    case h_2 => exact h.elim
    rename_i g args hc
    have hs := h
    clear h
    obtain ⟨dst, op, ty, pos, after, guard⟩ := o
    simp only at hc hs
    unfold acall at hc
    split at hc
    · rename_i c
      split at hc
      · rename_i f hf
        split at hc
        · rename_i g' first caps args' hfv hargs
          cases hc
          have h1 := ev_sound hE hfv
          obtain ⟨p, q, e, hp, hq⟩ := h1.fn_inv
          have hargs' := evList_sound hE hargs
          obtain ⟨callee, cargs, cat⟩ := c
          simp only at hf hargs hargs'
          subst hf
          have e2 : (cargs.toList.map a.eval).toArray = cargs.map a.eval := by apply Array.ext'; simp
          rw [e2] at hargs'
          have hrun : (execOp a.eval { dst := dst, op := .call { callee := .value f, args := cargs, argTypes := cat }, type := ty, pos := pos, after := after, guard := guard }).run P w = .ok (.enter g (p ++ cargs.map a.eval ++ q)) w := by
            have hce := callFunc_enter hs.1 (p ++ cargs.map a.eval ++ q) w
            simp only [execOp, resolve, e, Deferred.ofValue, Sem.run_bind, Sem.run_pure, Result.andThen_ok, invoke]
            exact hce
          rw [hrun]
          simp only [Oper.upon]
          refine (hs.2 A m w _ hR ((hp.append hargs').append hq)).mono fun e w' ⟨v, A', m', st', av, h1, h2, h3, h4, h5⟩ => ?_
          subst h1
          exact hk _ _ _ _ _ _ h2 h3 h4 h5
        · cases hc
      · cases hc
    · cases hc
  · split at h
    case h_2 => exact h.elim
    rename_i av st' ha
    have hK := h
    obtain ⟨nx, v, w', m', h1, h2, h3, h4, h5⟩ := aop_sound hR hE ha
    rw [h1]
    rcases h2 with rfl | ⟨rfl, rfl⟩
    · exact hk _ _ _ _ _ _ h3 h4 h5 hK
    · exact hk _ _ _ _ _ _ h3 h4 h5 hK
def dstAt (all : List Oper) (j : Nat) : Option Tmp := (all[j]?).bind (·.dst)
def dsts : List Oper → List Tmp
  | [] => []
  | o :: os => match o.dst with | some t => t :: dsts os | none => dsts os
def memB (t : Tmp) : List Tmp → Bool
  | [] => false
  | x :: l => if x = t then true else memB t l
theorem memB_iff {t : Tmp} : ∀ {l : List Tmp}, memB t l = true ↔ t ∈ l
  | [] => by simp [memB]
  | x :: l => by
    unfold memB
    split
    · rename_i h; simp [h]
    · rename_i h; simp [memB_iff (l := l), Ne.symm h]
def dropD (ds : List Tmp) : Ev → Ev
  | [] => []
  | (k, v) :: e => match memB k ds with | true => dropD ds e | false => (k, v) :: dropD ds e
structure COp where
  op : Op
  deps : List Tmp
  guard : Option (Option Tmp × Bool)
  dst : Option Tmp
def depsOf (all : List Oper) : List Edge → List Tmp
  | [] => []
  | e :: es => match Region.binds .any e, dstAt all e.on with | true, some t => t :: depsOf all es | _, _ => depsOf all es
def guardOf (all : List Oper) : Option (Nat × Bool) → Option (Option Tmp × Bool)
  | none => none
  | some (j, w) => some (dstAt all j, w)
def sel (G : Ev) (env0 : Ev) : List Tmp → Ev
  | [] => env0
  | t :: ts => match look G t with | some v => (t, v) :: sel G env0 ts | none => sel G env0 ts
def cguard (env : Ev) : Option (Option Tmp × Bool) → Option Bool
  | none => some true
  | some (none, _) => none
  | some (some d, want) =>
    match look env d with
    | some (.lit (.bool b)) => some (b == want)
    | some (.lit (.tuple _)) => some false
    | _ => none
theorem cguard_eq (all : List Oper) (env : Ev) (o : Oper) : aguard all env o = cguard env (guardOf all o.guard) := by
  unfold aguard guardOf
  cases o.guard with
  | none => rfl
  | some g =>
    obtain ⟨j, w⟩ := g
    simp only [dstAt]
    cases (all[j]?).bind (·.dst) <;> rfl
def OpIs (P : Program) (all : List Oper) (env0 : Ev) (st : St) (G : Ev) (o : Oper) (v : AV) : Prop :=
  match cguard (sel G env0 (depsOf all o.after.toList)) (guardOf all o.guard) with
  | some true => SOp2 P o.op (sel G env0 (depsOf all o.after.toList)) st (fun av st' => av = v ∧ st' = st)
  | some false => v = .lit undef
  | none => False
theorem look_append1 {t u : Tmp} {v x : AV} {e : Ev} (h : look ((t, v) :: e) u = some x) : (t = u ∧ v = x) ∨ look e u = some x := by
  simp only [look] at h
  split at h
  · rename_i e; exact .inl ⟨e.symm ▸ rfl, Option.some.inj h⟩
  · exact .inr h
theorem look_sel {G env0 : Ev} {u : Tmp} {x : AV} : ∀ {ts : List Tmp}, look (sel G env0 ts) u = some x → look env0 u = some x ∨ (u ∈ ts ∧ look G u = some x)
  | [], h => .inl h
  | t :: ts, h => by
    unfold sel at h
    split at h
    · rename_i v hv
      rcases look_append1 h with ⟨rfl, rfl⟩ | h1
      · exact .inr ⟨by simp, hv⟩
      · exact (look_sel h1).imp id fun h2 => ⟨by simp [h2.1], h2.2⟩
    · exact (look_sel h).imp id fun h2 => ⟨by simp [h2.1], h2.2⟩
theorem look_app {u : Tmp} {x : AV} {e : Ev} : ∀ {G : Ev}, look (G ++ e) u = some x → look e u = some x ∨ look G u = some x
  | [], h => .inl h
  | (t, v) :: G, h => by
    rcases look_append1 h with ⟨rfl, rfl⟩ | h1
    · exact .inr (by simp [look])
    · rcases look_app h1 with h2 | h2
      · exact .inl h2
      · by_cases ht : t = u
        · subst ht
          refine .inr ?_
          simp only [List.cons_append, look, if_true] at h
          simpa [look] using h
        · exact .inr (by simp only [look, if_neg ht]; exact h2)
theorem deps_sub {all : List Oper} {t : Tmp} : ∀ {es : List Edge}, t ∈ depsOf all es → ∃ e ∈ es, Region.binds .any e = true ∧ dstAt all e.on = some t
  | [], h => by simp [depsOf] at h
  | e :: es, h => by
    unfold depsOf at h
    split at h
    · rename_i h1 h2
      rcases List.mem_cons.1 h with rfl | h3
      · exact ⟨e, by simp, h1, h2⟩
      · obtain ⟨e', h4, h5⟩ := deps_sub h3
        exact ⟨e', by simp [h4], h5⟩
    · obtain ⟨e', h4, h5⟩ := deps_sub h
      exact ⟨e', by simp [h4], h5⟩
theorem dsts_mem {t : Tmp} : ∀ {os : List Oper} {i : Nat}, dstAt os i = some t → t ∈ dsts os
  | [], i, h => by simp [dstAt] at h
  | o :: os, i, h => by
    unfold dsts
    cases i with
    | zero =>
      have : o.dst = some t := by simpa [dstAt] using h
      rw [this]; simp
    | succ i =>
      have := dsts_mem (os := os) (i := i) (by simpa [dstAt] using h)
      split
      · simp [this]
      · exact this
def anyOk (n : Nat) (all : List Oper) : Bool :=
  (List.range all.length).all fun i =>
    match all[i]? with
    | none => true
    | some o => o.dst.all (· < n) && o.after.toList.all (fun e => !Region.binds .any e || decide (e.on < i)) &&
      (List.range i).all fun j => match o.dst, dstAt all j with | some t, some u => t != u | _, _ => true
theorem anyOk_spec {n : Nat} {all : List Oper} (h : anyOk n all = true) : (∀ (i : Nat) o, all[i]? = some o → o.dst.all (· < n) = true ∧ ∀ e ∈ o.after.toList, Region.binds .any e = true → e.on < i) ∧
    ∀ i j t, dstAt all i = some t → dstAt all j = some t → i = j := by
  have key : ∀ (i : Nat) o, all[i]? = some o → o.dst.all (· < n) = true ∧ (∀ e ∈ o.after.toList, Region.binds .any e = true → e.on < i) ∧ ∀ j, j < i → ∀ t, o.dst = some t → dstAt all j ≠ some t := fun i o ho => by
    have hi : i < all.length := (List.getElem?_eq_some_iff.1 ho).1
    have := (List.all_eq_true.1 h) i (List.mem_range.2 hi)
    rw [ho] at this
    simp only [Bool.and_eq_true] at this
    obtain ⟨⟨h1, h2⟩, h3⟩ := this
    refine ⟨h1, fun e he hb => ?_, fun j hj t ht hjt => ?_⟩
    · have := (List.all_eq_true.1 h2) e he
      rw [hb] at this
      simpa using this
    · have := (List.all_eq_true.1 h3) j (List.mem_range.2 hj)
      rw [ht, hjt] at this
      simp at this
  refine ⟨fun i o ho => ⟨(key i o ho).1, (key i o ho).2.1⟩, fun i j t hi hj => ?_⟩
  have hex : ∀ i, dstAt all i = some t → ∃ o, all[i]? = some o ∧ o.dst = some t := fun i h => by
    unfold dstAt at h
    cases ho : all[i]? with
    | none => rw [ho] at h; cases h
    | some o => rw [ho] at h; exact ⟨o, rfl, h⟩
  obtain ⟨oi, h1, h2⟩ := hex i hi
  obtain ⟨oj, h3, h4⟩ := hex j hj
  rcases Nat.lt_trichotomy i j with hlt | heq | hgt
  · exact absurd hi ((key j oj h3).2.2 i hlt t h4)
  · exact heq
  · exact absurd hj ((key i oi h1).2.2 j hgt t h2)
theorem env_of {A m nb w n env a} (hsz : a.tmps.size = n) (hdf : a.defers = []) (h : ∀ t v, look env t = some v → t < n ∧ V A m nb w v (a.tmps.getD t undef)) : Env A m nb w n env a := ⟨hsz, h, hdf⟩
theorem look_dropD {ds : List Tmp} {t : Tmp} : ∀ {e : Ev}, (t ∈ ds → look (dropD ds e) t = none) ∧ ∀ v, look (dropD ds e) t = some v → look e t = some v
  | [] => ⟨fun _ => rfl, fun v h => h⟩
  | p :: e => by
    obtain ⟨h1, h2⟩ := look_dropD (ds := ds) (t := t) (e := e)
    obtain ⟨s, x⟩ := p
    unfold dropD
    split
    · rename_i hm
      refine ⟨h1, fun v h => ?_⟩
      simp only [look]
      split
      · rename_i ets
        have : t ∈ ds := by rw [← ets]; exact memB_iff.1 hm
        rw [h1 this] at h
        cases h
      · exact h2 v h
    · rename_i hm
      refine ⟨fun ht => ?_, fun v h => ?_⟩
      · simp only [look]
        split
        · rename_i ets
          rw [← ets] at ht
          rw [memB_iff.2 ht] at hm
          cases hm
        · exact h1 ht
      · simp only [look] at h ⊢
        split
        · rename_i ets; rw [if_pos ets] at h; exact h
        · rename_i ets; rw [if_neg ets] at h; exact h2 v h
section
variable {P : Program} {rest : List COp} {d : Option Tmp} {op : Op} {deps : List Tmp} {env env0 : Ev} {st : St} {G : Ev} {K : Ev → Prop}
end
end Go.Proofs.YthmnlfenkhmmhaaGreat
namespace Go.Proofs.YthmnlfenkhmmhaaGreat
set_option linter.unusedSimpArgs false
set_option linter.unusedVariables false
set_option linter.unusedSectionVars false
theorem bs {α β : Type} {m : Option α} {k : α → Option β} {r : β} (h : (m.bind k) = some r) : ∃ x, m = some x ∧ k x = some r := by
  cases m with
  | none => cases h
  | some x => exact ⟨x, rfl, h⟩
theorem sm {α : Type} {x y : α} (h : some x = some y) : x = y := Option.some.inj h
theorem bT {α : Type} {c : Bool} {x y r : α} (hc : c = true) (h : cond c x y = r) : x = r := by rw [hc] at h; exact h
theorem bF {α : Type} {c : Bool} {x y r : α} (hc : c = false) (h : cond c x y = r) : y = r := by rw [hc] at h; exact h
section
variable {X Y : Type}
def loopN (body : X → Option (Sum X Y)) : Nat → X → Option Y
  | 0, _ => none
  | n + 1, x =>
    match body x with
    | some (.inl x') => loopN body n x'
    | some (.inr y) => some y
    | none => none
open Classical in
noncomputable def loopC (body : X → Option (Sum X Y)) (x : X) : Option Y :=
  if h : ∃ n y, loopN body n x = some y then some h.choose_spec.choose else none
noncomputable def loopP (body : X → Option (Sum X Y)) (x : X) : Option Y :=
  match loopN body 3000 x with
  | some y => some y
  | none => loopC body x
theorem loopN_mono {body : X → Option (Sum X Y)} : ∀ {n k : Nat} {x : X} {y : Y}, loopN body n x = some y → n ≤ k → loopN body k x = some y
  | 0, _, _, _, h, _ => by cases h
  | n + 1, 0, _, _, _, hk => by omega
  | n + 1, k + 1, x, y, h, hk => by
    unfold loopN at h ⊢
    split at h
    · rename_i x' hx; exact loopN_mono h (by omega)
    · rename_i z hx; exact h
    · cases h
theorem loopP_of {body : X → Option (Sum X Y)} {n : Nat} {x : X} {y : Y} (h : loopN body n x = some y) : loopP body x = some y := by
  have key : ∀ n k y z, loopN body n x = some y → loopN body k x = some z → y = z := fun n k y z h1 h2 =>
    sm ((loopN_mono h1 (Nat.le_max_left n k)).symm.trans (loopN_mono h2 (Nat.le_max_right n k)))
  unfold loopP
  cases h0 : loopN body 3000 x with
  | some z => exact congrArg some (key _ _ _ _ h0 h)
  | none =>
    have hex : ∃ n y, loopN body n x = some y := ⟨n, y, h⟩
    show loopC body x = some y
    unfold loopC
    rw [dif_pos hex]
    exact congrArg some (key _ _ _ _ hex.choose_spec.choose_spec h)
theorem loopP_ex {body : X → Option (Sum X Y)} {x : X} {y : Y} (h : loopP body x = some y) : ∃ n, loopN body n x = some y := by
  unfold loopP at h
  split at h
  · rename_i z h0; cases h; exact ⟨_, h0⟩
  · unfold loopC at h
    split at h
    · rename_i hex
      cases h
      exact ⟨_, hex.choose_spec.choose_spec⟩
    · cases h
theorem loopP_eq (body : X → Option (Sum X Y)) (x : X) : loopP body x = (body x).bind (Sum.elim (loopP body) some) := by
  cases hb : body x with
  | none =>
    cases h : loopP body x with
    | none => rfl
    | some y =>
      obtain ⟨n, hn⟩ := loopP_ex h
      cases n with
      | zero => cases hn
      | succ n => unfold loopN at hn; rw [hb] at hn; cases hn
  | some r =>
    cases r with
    | inr y => exact loopP_of (n := 1) (by unfold loopN; rw [hb])
    | inl x' =>
      show loopP body x = loopP body x'
      cases h : loopP body x' with
      | some y =>
        obtain ⟨n, hn⟩ := loopP_ex h
        exact loopP_of (n := n + 1) (by unfold loopN; rw [hb]; exact hn)
      | none =>
        cases h2 : loopP body x with
        | none => rfl
        | some y =>
          obtain ⟨n, hn⟩ := loopP_ex h2
          cases n with
          | zero => cases hn
          | succ n =>
            unfold loopN at hn
            rw [hb] at hn
            rw [loopP_of hn] at h
            cases h
end
def leave {B R R' : Type} (o : Sum B R) (k : B → Option R') (f : R → Option R') : Option R' :=
  match o with
  | .inl b => k b
  | .inr r => f r
abbrev B (l : List UInt8) : ByteArray := ⟨⟨l⟩⟩
def idx {α : Type} (l : List α) (i : Int) : Option α := if 0 ≤ i then l[i.toNat]? else none
theorem idx_some {α : Type} {l : List α} {i : Int} {x : α} (h : idx l i = some x) : 0 ≤ i ∧ i.toNat < l.length ∧ l[i.toNat]? = some x := by
  unfold idx at h
  split at h
  · rename_i h0
    exact ⟨h0, (List.getElem?_eq_some_iff.1 h).1, h⟩
  · cases h
def cutP {α : Type} (l : List α) (lo hi : Int) : Option (List α) := if 0 ≤ lo ∧ lo ≤ hi ∧ hi ≤ l.length then some ((l.drop lo.toNat).take (hi.toNat - lo.toNat)) else none
def appP {α : Type} (w : Nat) (l x : List α) : Option (List α) := if (l.length + x.length) * w ≤ 140737488355328 ∧ l.length + x.length ≤ 9223372036854775807 then some (l ++ x) else none
theorem appP_some {α : Type} {w : Nat} {l x r : List α} (h : appP w l x = some r) : r = l ++ x ∧ (l.length + x.length) * w ≤ 140737488355328 ∧ l.length + x.length ≤ 9223372036854775807 := by
  unfold appP at h
  split at h
  · rename_i h1; cases h; exact ⟨rfl, h1⟩
  · cases h
def catP (l x : List UInt8) : Option (List UInt8) := if l.length + x.length ≤ 9223372036854775807 then some (l ++ x) else none
def quoP (k : IntKind) (a b : Int) : Option Int := if b = 0 then none else some (k.wrap (a.tdiv b))
def remP (a b : Int) : Option Int := if b = 0 then none else some (a.tmod b)
def shlP (k : IntKind) (a b : Int) : Option Int := if b < 0 then none else some (k.wrap (a * 2 ^ (min b.toNat k.bits)))
def shrP (k : IntKind) (a b : Int) : Option Int := if b < 0 then none else some (a.fdiv (2 ^ (min b.toNat k.bits)))
def SR (P : Program) (n nb0 : Nat) (all l1 l2 : List Oper) (K : Ev → St → Prop) (env : Ev) (st : St) : Prop :=
  ∀ (ops : Array Oper) (i : Nat), ops.toList = all → all.drop i = l1 ++ l2 → all.all (fun o => o.dst.all (· < n)) = true → ∀ A m w a, nb0 ≤ st.length → R A m w st → Env A m st.length w n env a →
    ∀ Q : Exit → Act → World → Prop, (∀ a' w', Onward A m nb0 w n K a' w' → wpOps P ops Q (List.range' (i + l1.length) l2.length) a' w') → wpOps P ops Q (List.range' i (l1.length + l2.length)) a w
section
variable {P : Program} {n nb0 : Nat} {all l1 l2 : List Oper} {K : Ev → St → Prop} {env : Ev} {st : St}
theorem r_nil (h : K env st) : SR P n nb0 all [] l2 K env st := fun ops i ho hd hn A m w a h0 hR hE Q hQ => by
  have := hQ a w ⟨A, m, env, st, hR, hE, Step.refl0 _ _ _ _ h0, h⟩
  simpa using this
theorem r_app {l1' : List Oper} (h : SR P n nb0 all l1 (l1' ++ l2) (fun env st => SR P n nb0 all l1' l2 K env st) env st) : SR P n nb0 all (l1 ++ l1') l2 K env st := fun ops i ho hd hn A m w a h0 hR hE Q hQ => by
  rw [List.append_assoc] at hd
  have h1 := h ops i ho hd hn A m w a h0 hR hE Q fun a' w' ⟨A', m', e', s', k1, k2, k3, k4⟩ => by
    have h2 := k4 ops (i + l1.length) ho (by rw [← List.drop_drop, hd, List.drop_left]) hn A' m' w' a' k3.nbLe k1 k2 Q fun a2 w2 h3 => by
      have := hQ a2 w2 (h3.trans k3)
      rwa [List.length_append, ← Nat.add_assoc] at this
    rwa [List.length_append]
  rw [List.length_append] at h1
  rwa [List.length_append, Nat.add_assoc]
theorem r_split (k : Nat) (h : SR P n nb0 all (l1.take k) (l1.drop k ++ l2) (fun env st => SR P n nb0 all (l1.drop k) l2 K env st) env st) : SR P n nb0 all l1 l2 K env st := by
  have := r_app h
  rwa [List.take_append_drop] at this
theorem r_mono {K' : Ev → St → Prop} (h : SR P n nb0 all l1 l2 K env st) (hk : ∀ env st, K env st → K' env st) : SR P n nb0 all l1 l2 K' env st := fun ops i ho hd hn A m w a h0 hR hE Q hQ =>
  h ops i ho hd hn A m w a h0 hR hE Q fun a' w' ⟨A', m', e', s', k1, k2, k3, k4⟩ => hQ a' w' ⟨A', m', e', s', k1, k2, k3, hk _ _ k4⟩
theorem r_less {env' : Ev} (hs : ∀ t v, look env' t = some v → look env t = some v) (h : SR P n nb0 all l1 l2 K env' st) : SR P n nb0 all l1 l2 K env st := fun ops i ho hd hn A m w a h0 hR hE Q hQ =>
  h ops i ho hd hn A m w a h0 hR (hE.less hs) Q hQ
theorem r_at {o : Oper} {ops : Array Oper} {i : Nat} (ho : ops.toList = all) (hd : all.drop i = o :: l1 ++ l2) (hn : all.all (fun o => o.dst.all (· < n)) = true) : ops[i]? = some o ∧ all.drop (i + 1) = l1 ++ l2 ∧ o.dst.all (· < n) = true := by
  have hi : ops[i]? = some o := by
    have : ops.toList[i]? = some o := by
      have h1 : (ops.toList.drop i)[0]? = some o := by rw [ho, hd]; rfl
      simpa using h1
    simpa using this
  refine ⟨hi, ?_, ?_⟩
  · have := congrArg List.tail hd
    simpa [List.tail_drop] using this
  · rw [List.all_eq_true] at hn
    refine hn o ?_
    rw [← ho]
    exact List.mem_of_getElem? (by simpa using hi : ops.toList[i]? = some o)
theorem r_one {o : Oper} (hg : aguard all env o = some true) (h : SOp P o env st fun env' st' => SR P n nb0 all l1 l2 K env' st') : SR P n nb0 all (o :: l1) l2 K env st := fun ops i ho hd hn A m w a h0 hR hE Q hQ => by
  obtain ⟨hi, hd', hdo⟩ := r_at ho hd hn
  have e : (o :: l1).length + l2.length = (l1.length + l2.length) + 1 := by simp; omega
  rw [e, List.range'_succ]
  simp only [wpOps, hi]
  rw [guard_sound hE (ho.symm ▸ hg)]
  simp only [if_true]
  refine .inl (op_wp hR hE hdo h fun a' w' ⟨A', m', env', st', h1, h2, h3, h4⟩ => ?_)
  refine h4 ops (i + 1) ho hd' hn A' m' w' a' (Nat.le_trans h0 h3.nbLe) h1 h2 Q fun a2 w2 k => ?_
  have := hQ a2 w2 (k.trans (h3.weak h0))
  rwa [List.length_cons, Nat.add_comm l1.length 1, ← Nat.add_assoc] at this
variable {d : Option Tmp} {op : Op} {ty : TypeId} {pos : String} {aft : Array Edge}
theorem u (h : SOp P ⟨d, op, ty, pos, aft, none⟩ env st fun env' st' => SR P n nb0 all l1 l2 K env' st') : SR P n nb0 all (⟨d, op, ty, pos, aft, none⟩ :: l1) l2 K env st :=
  r_one rfl h
theorem aguard_of {j : Nat} {want b : Bool} (hv : gval all j env = some (.lit (.bool b))) : aguard all env ⟨d, op, ty, pos, aft, some (j, want)⟩ = some (b == want) := by
  unfold gval at hv
  unfold aguard
  simp only
  cases hd : (all[j]?).bind (·.dst) with
  | none => rw [hd] at hv; cases hv
  | some t =>
    rw [hd] at hv
    simp only [Option.bind_some] at hv
    simp only [hv]
theorem aguard_undef {j : Nat} {want : Bool} (hv : gval all j env = some (.lit undef)) : aguard all env ⟨d, op, ty, pos, aft, some (j, want)⟩ = some false := by
  unfold gval at hv
  unfold aguard
  simp only
  cases hd : (all[j]?).bind (·.dst) with
  | none => rw [hd] at hv; cases hv
  | some t =>
    rw [hd] at hv
    simp only [Option.bind_some] at hv
    simp only [hv, undef]
theorem g {j : Nat} {want b : Bool} (hv : gval all j env = some (.lit (.bool b))) (hb : b = want) (h : SOp P ⟨d, op, ty, pos, aft, some (j, want)⟩ env st fun env' st' => SR P n nb0 all l1 l2 K env' st') :
    SR P n nb0 all (⟨d, op, ty, pos, aft, some (j, want)⟩ :: l1) l2 K env st :=
  r_one ((aguard_of hv).trans (by rw [hb]; simp)) h
theorem r_skip {o : Oper} (hg : aguard all env o = some false) (h : SR P n nb0 all l1 l2 K (aput o.dst (.lit undef) env) st) : SR P n nb0 all (o :: l1) l2 K env st := fun ops i ho hd hn A m w a h0 hR hE Q hQ => by
  obtain ⟨hi, hd', hdo⟩ := r_at ho hd hn
  have e : (o :: l1).length + l2.length = (l1.length + l2.length) + 1 := by simp; omega
  rw [e, List.range'_succ]
  simp only [wpOps, hi]
  rw [guard_sound hE (ho.symm ▸ hg)]
  simp only [Bool.false_eq_true, if_false]
  refine h ops (i + 1) ho hd' hn A m w _ h0 hR (hE.aput hdo (.imm (.lit _))) Q fun a2 w2 k => ?_
  have := hQ a2 w2 k
  rwa [List.length_cons, Nat.add_comm l1.length 1, ← Nat.add_assoc] at this
def memN (t : Nat) : List Nat → Bool
  | [] => false
  | x :: l => Nat.beq x t || memN t l
def keysOut (ds : List Nat) : Ev → Bool
  | [] => true
  | (t, _) :: e => (!memN t ds) && keysOut ds e
def dstsN : List Oper → List Nat
  | [] => []
  | o :: r => match o.dst with | some t => t :: dstsN r | none => dstsN r
def undefs (env : Ev) : List Oper → Ev
  | [] => env
  | o :: r => undefs (aput o.dst (.lit undef) env) r
theorem memN_iff {t : Nat} : ∀ {l : List Nat}, memN t l = true ↔ t ∈ l
  | [] => by simp [memN]
  | x :: l => by
    unfold memN
    rw [Bool.or_eq_true, Nat.beq_eq, memN_iff (l := l), List.mem_cons]
    exact ⟨fun h => h.imp Eq.symm id, fun h => h.imp Eq.symm id⟩
theorem keysOut_look {ds : List Nat} {t : Nat} {v : AV} : ∀ {e : Ev}, keysOut ds e = true → look e t = some v → t ∉ ds
  | [], _, h => by cases h
  | (k, x) :: e, hk, h => by
    simp only [keysOut, Bool.and_eq_true, Bool.not_eq_true'] at hk
    simp only [look] at h
    split at h
    · rename_i e'; subst e'; intro hm; rw [memN_iff.2 hm] at hk; cases hk.1
    · exact keysOut_look hk.2 h
theorem undefs_look {t : Nat} : ∀ {l : List Oper} {env : Ev}, t ∉ dstsN l → look (undefs env l) t = look env t
  | [], _, _ => rfl
  | o :: r, env, h => by
    unfold undefs
    unfold dstsN at h
    cases hd : o.dst with
    | none => rw [hd] at h; exact undefs_look h
    | some d =>
      rw [hd] at h
      simp only [List.mem_cons, not_or] at h
      have h2 := undefs_look (l := r) (env := aput (some d) (.lit undef) env) h.2
      rw [h2]
      have : d ≠ t := fun e => h.1 e.symm
      simp [aput, look, this]
def allG (all : List Oper) (j : Nat) (want : Bool) (seen : List Nat) : List Oper → Bool
  | [] => true
  | o :: r => (match o.guard with
    | some (j', w') => (Nat.beq j' j && (w' == want)) || (match (all[j']?).bind (·.dst) with | some t => memN t seen | none => false)
    | none => false) && allG all j want (match o.dst with | some t => t :: seen | none => seen) r
theorem r_skips {j : Nat} {want b : Bool} {t : Nat} (ht : (all[j]?).bind (·.dst) = some t) : ∀ (l : List Oper) {l1 : List Oper} {env : Ev} {seen : List Nat}, allG all j want seen l = true → (∀ x ∈ seen, look env x = some (.lit undef)) → t ∉ dstsN l → t ∉ seen → look env t = some (.lit (.bool b)) → b = !want →
    SR P n nb0 all l1 l2 K (undefs env l) st → SR P n nb0 all (l ++ l1) l2 K env st
  | [], _, _, _, _, _, _, _, _, _, h => h
  | o :: l, l1, env, seen, ha, hs, hn, hts, hl, hb, h => by
    unfold allG at ha
    obtain ⟨d, op, ty, pos, aft, gu⟩ := o
    cases gu with
    | none => simp at ha
    | some jw =>
      obtain ⟨j', w'⟩ := jw
      simp only [Bool.and_eq_true, Bool.or_eq_true] at ha
      obtain ⟨h1, h2⟩ := ha
      have hsk : aguard all env ⟨d, op, ty, pos, aft, some (j', w')⟩ = some false := by
        rcases h1 with h1 | h1
        · obtain ⟨e1, e2⟩ := h1
          have e1 := Nat.eq_of_beq_eq_true e1
          have e2 := beq_iff_eq.1 e2
          subst e1 e2
          have hgv : gval all j' env = some (.lit (.bool b)) := by unfold gval; rw [ht]; exact hl
          exact (aguard_of hgv).trans (by rw [hb]; simp)
        · split at h1
          · rename_i t' ht'
            have hgv : gval all j' env = some (.lit undef) := by unfold gval; rw [ht']; exact hs t' (memN_iff.1 h1)
            exact aguard_undef hgv
          · cases h1
      refine r_skip hsk ?_
      have hn' : t ∉ dstsN l := fun hm => hn (by unfold dstsN; cases d <;> simp [hm])
      have hd : ∀ d', d = some d' → d' ≠ t := fun d' e e' => hn (by subst e; simp [dstsN, e'])
      refine r_skips ht l h2 (fun x hx => ?_) hn' (fun hm => ?_) ?_ hb h
      · cases d with
        | none => exact hs x hx
        | some d =>
          rcases List.mem_cons.1 hx with rfl | hx
          · simp [aput, look]
          · by_cases e : d = x
            · simp [aput, look, e]
            · simpa [aput, look, e] using hs x hx
      · cases d with
        | none => exact hts hm
        | some d =>
          rcases List.mem_cons.1 hm with h5 | h5
          · exact hd d rfl h5.symm
          · exact hts h5
      · cases d with
        | none => exact hl
        | some d => simpa [aput, look, hd d rfl] using hl
def EndG (env : Ev) (st : St) (y : Operand) (x : Bool) (env' : Ev) (st' : St) : Prop :=
  st' = st ∧ (∀ t v, look env t = some v → look env' t = some v) ∧ ev env' y = some (.lit (.bool x))
theorem drop_look {ds : List Nat} {env : Ev} (hk : keysOut ds env = true) : ∀ (k : Nat) {env' : Ev}, env'.drop k = env → (∀ p ∈ env'.take k, memN p.1 ds = true) → ∀ t v, look env t = some v → look env' t = some v
  | 0, env', h, _, t, v, hl => by simp at h; rw [h]; exact hl
  | k + 1, [], h, _, t, v, hl => by simp at h; rw [h] at hl; cases hl
  | k + 1, (a, x) :: e, h, hm, t, v, hl => by
    have h1 := drop_look hk k (env' := e) (by simpa using h) (fun p hp => hm p (by simp [hp])) t v hl
    have h2 : a ∈ ds := memN_iff.1 (hm (a, x) (by simp))
    have h3 : a ≠ t := fun e => keysOut_look hk hl (e ▸ h2)
    simpa [look, h3] using h1
def takesIn (ds : List Nat) : Nat → Ev → Bool
  | 0, _ => true
  | _ + 1, [] => true
  | k + 1, (a, _) :: e => memN a ds && takesIn ds k e
theorem takesIn_spec {ds : List Nat} : ∀ {k : Nat} {e : Ev}, takesIn ds k e = true → ∀ p ∈ e.take k, memN p.1 ds = true
  | 0, _, _, p, hp => by simp at hp
  | k + 1, [], _, p, hp => by simp at hp
  | k + 1, (a, x) :: e, h, p, hp => by
    simp only [takesIn, Bool.and_eq_true] at h
    simp only [List.take_succ_cons, List.mem_cons] at hp
    rcases hp with rfl | hp
    · exact h.1
    · exact takesIn_spec h.2 p hp
theorem eg {env env' : Ev} {st : St} {y : Operand} {x : Bool} (ds : List Nat) (k : Nat) (h1 : env'.drop k = env) (h2 : keysOut ds env = true) (h3 : takesIn ds k env' = true) (h4 : ev env' y = some (.lit (.bool x))) : EndG env st y x env' st :=
  ⟨rfl, drop_look h2 k h1 (takesIn_spec h3), h4⟩
theorem r_and (k : Nat) {dp c : Nat} {y : Operand} {ty' : TypeId} {pos' : String} {aft' : Array Edge} {gp : Option (Nat × Bool)} {j : Nat} {b x : Bool} {l : List Oper} (hl : l1.drop k = ⟨some dp, .pick (.tmp c) y (.const (.bool false)), ty', pos', aft', gp⟩ :: l)
    (hj : (all[j]?).bind (·.dst) = some c) (hc : look env c = some (.lit (.bool b))) (hg : allG all j true [] (l1.take k) = true) (hk : keysOut (dstsN (l1.take k)) env = true)
    (hgp : ∀ env' : Ev, (∀ t v, look env t = some v → look env' t = some v) → aguard all env' ⟨some dp, .pick (.tmp c) y (.const (.bool false)), ty', pos', aft', gp⟩ = some true)
    (hT : b = true → SR P n nb0 all (l1.take k) (l1.drop k ++ l2) (EndG env st y x) env st) (hF : b = false → x = false) (h : SR P n nb0 all l l2 K ((dp, .lit (.bool x)) :: env) st) : SR P n nb0 all l1 l2 K env st := by
  refine r_split k ?_
  rw [hl]
  cases b with
  | true =>
    refine r_mono (by rw [← hl]; exact hT rfl) ?_
    rintro env' st' ⟨rfl, h2, h3⟩
    refine r_one (hgp env' h2) ?_
    unfold SOp
    simp only [isCall, aop]
    have : ev env' (.tmp c) = some (.lit (.bool true)) := h2 c _ hc
    rw [this, h3]
    simp only [Option.map_some, aput]
    refine r_less (fun t v ht => ?_) h
    simp only [look] at ht ⊢
    split
    · rename_i e; rw [if_pos e] at ht; exact ht
    · rename_i e; rw [if_neg e] at ht; exact h2 t v ht
  | false =>
    have hout : ∀ t v, look env t = some v → look (undefs env (l1.take k)) t = some v := fun t v ht => by
      rw [undefs_look (keysOut_look hk ht)]; exact ht
    have := r_skips (P := P) (n := n) (nb0 := nb0) (l2 := l1.drop k ++ l2) (K := fun env st => SR P n nb0 all (l1.drop k) l2 K env st) (st := st) (l1 := []) hj (l1.take k) hg (fun _ h => by cases h) (keysOut_look hk hc) (fun h => by cases h) hc rfl ?_
    · rw [List.append_nil] at this; rwa [hl] at this
    refine r_nil ?_
    rw [hl]
    refine r_one (hgp _ hout) ?_
    unfold SOp
    simp only [isCall, aop]
    have : ev (undefs env (l1.take k)) (.tmp c) = some (.lit (.bool false)) := hout c _ hc
    rw [this]
    simp only [ev, Option.map_some, aput]
    rw [hF rfl] at h
    refine r_less (fun t v ht => ?_) h
    simp only [look] at ht ⊢
    split
    · rename_i e; rw [if_pos e] at ht; exact ht
    · rename_i e; rw [if_neg e] at ht; exact hout t v ht
theorem r_or (k : Nat) {dp c : Nat} {y : Operand} {ty' : TypeId} {pos' : String} {aft' : Array Edge} {gp : Option (Nat × Bool)} {j : Nat} {b x : Bool} {l : List Oper} (hl : l1.drop k = ⟨some dp, .pick (.tmp c) (.const (.bool true)) y, ty', pos', aft', gp⟩ :: l)
    (hj : (all[j]?).bind (·.dst) = some c) (hc : look env c = some (.lit (.bool b))) (hg : allG all j false [] (l1.take k) = true) (hk : keysOut (dstsN (l1.take k)) env = true)
    (hgp : ∀ env' : Ev, (∀ t v, look env t = some v → look env' t = some v) → aguard all env' ⟨some dp, .pick (.tmp c) (.const (.bool true)) y, ty', pos', aft', gp⟩ = some true)
    (hF : b = false → SR P n nb0 all (l1.take k) (l1.drop k ++ l2) (EndG env st y x) env st) (hT : b = true → x = true) (h : SR P n nb0 all l l2 K ((dp, .lit (.bool x)) :: env) st) : SR P n nb0 all l1 l2 K env st := by
  refine r_split k ?_
  rw [hl]
  cases b with
  | false =>
    refine r_mono (by rw [← hl]; exact hF rfl) ?_
    rintro env' st' ⟨rfl, h2, h3⟩
    refine r_one (hgp env' h2) ?_
    unfold SOp
    simp only [isCall, aop]
    have : ev env' (.tmp c) = some (.lit (.bool false)) := h2 c _ hc
    rw [this, h3]
    simp only [Option.map_some, aput]
    refine r_less (fun t v ht => ?_) h
    simp only [look] at ht ⊢
    split
    · rename_i e; rw [if_pos e] at ht; exact ht
    · rename_i e; rw [if_neg e] at ht; exact h2 t v ht
  | true =>
    have hout : ∀ t v, look env t = some v → look (undefs env (l1.take k)) t = some v := fun t v ht => by
      rw [undefs_look (keysOut_look hk ht)]; exact ht
    have := r_skips (P := P) (n := n) (nb0 := nb0) (l2 := l1.drop k ++ l2) (K := fun env st => SR P n nb0 all (l1.drop k) l2 K env st) (st := st) (l1 := []) hj (l1.take k) hg (fun _ h => by cases h) (keysOut_look hk hc) (fun h => by cases h) hc rfl ?_
    · rw [List.append_nil] at this; rwa [hl] at this
    refine r_nil ?_
    rw [hl]
    refine r_one (hgp _ hout) ?_
    unfold SOp
    simp only [isCall, aop]
    have : ev (undefs env (l1.take k)) (.tmp c) = some (.lit (.bool true)) := hout c _ hc
    rw [this]
    simp only [ev, Option.map_some, aput]
    rw [hT rfl] at h
    refine r_less (fun t v ht => ?_) h
    simp only [look] at ht ⊢
    split
    · rename_i e; rw [if_pos e] at ht; exact ht
    · rename_i e; rw [if_neg e] at ht; exact hout t v ht
theorem gpn {env : Ev} {o : Option Tmp} {op : Op} {ty : TypeId} {pos : String} {aft : Array Edge} : ∀ env' : Ev, (∀ t v, look env t = some v → look env' t = some v) → aguard all env' ⟨o, op, ty, pos, aft, none⟩ = some true := fun _ _ => rfl
theorem gps {env : Ev} {o : Option Tmp} {op : Op} {ty : TypeId} {pos : String} {aft : Array Edge} {j t : Nat} {want b : Bool} (hj : (all[j]?).bind (·.dst) = some t) (hv : look env t = some (.lit (.bool b))) (hb : b = want) :
    ∀ env' : Ev, (∀ t v, look env t = some v → look env' t = some v) → aguard all env' ⟨o, op, ty, pos, aft, some (j, want)⟩ = some true := fun env' h => by
  have hgv : gval all j env' = some (.lit (.bool b)) := by unfold gval; rw [hj]; exact h t _ hv
  exact (aguard_of hgv).trans (by rw [hb]; simp)
theorem egA {env env' : Ev} {st : St} {y : Operand} {b v : Bool} (ds : List Nat) (k : Nat) (hb : b = true) (h1 : env'.drop k = env) (h2 : keysOut ds env = true) (h3 : takesIn ds k env' = true) (h4 : ev env' y = some (.lit (.bool v))) : EndG env st y (b && v) env' st :=
  ⟨rfl, drop_look h2 k h1 (takesIn_spec h3), by rw [hb]; exact h4⟩
theorem egO {env env' : Ev} {st : St} {y : Operand} {b v : Bool} (ds : List Nat) (k : Nat) (hb : b = false) (h1 : env'.drop k = env) (h2 : keysOut ds env = true) (h3 : takesIn ds k env' = true) (h4 : ev env' y = some (.lit (.bool v))) : EndG env st y (b || v) env' st :=
  ⟨rfl, drop_look h2 k h1 (takesIn_spec h3), by rw [hb]; exact h4⟩
theorem andF {b v : Bool} (hb : b = false) : (b && v) = false := by rw [hb]; rfl
theorem orT {b v : Bool} (hb : b = true) : (b || v) = true := by rw [hb]; rfl
theorem r_kill (k : Nat) (h : SR P n nb0 all l1 l2 K env (st.take k ++ List.replicate (st.length - k) none)) (hk : Nat.ble k st.length = true) : SR P n nb0 all l1 l2 K env st := fun ops i ho hd hn A m w a h0 hR hE Q hQ => by
  have hk' := Nat.le_of_ble_eq_true hk
  have hlen : (st.take k ++ List.replicate (st.length - k) none).length = st.length := by simp; omega
  let m' : BM := fun l => if l < k then m l else none
  have hm' : ∀ l, l < st.length → m' l = m l ∨ m' l = none := fun l _ => by
    show (if l < k then m l else none) = m l ∨ (if l < k then m l else none) = none
    split
    · exact .inl rfl
    · exact .inr rfl
  have hget : ∀ l b, m' l = some b → l < k ∧ m l = some b := fun l b h => by
    change (if l < k then m l else none) = some b at h
    split at h
    · exact ⟨by assumption, h⟩
    · cases h
  have hst : ∀ l, l < k → (st.take k ++ List.replicate (st.length - k) none)[l]? = st[l]? := fun l hl => by
    rw [List.getElem?_append_left (by simp; omega), List.getElem?_take, if_pos hl]
  have hst2 : ∀ l, k ≤ l → ∀ x, (st.take k ++ List.replicate (st.length - k) none)[l]? = some x → x = none := fun l hl x h => by
    rw [List.getElem?_append_right (by simp; omega)] at h
    exact List.eq_of_mem_replicate (List.mem_of_getElem? h)
  have hS : Step A m st.length w A m' st.length w := ⟨Nat.le_refl _, Nat.le_refl _, fun _ h => h, fun _ h => .inl h, hm', fun l b h hh => .inr ⟨l, b, (hget l b h).2, hh, rfl⟩, fun _ _ _ => rfl, rfl, rfl, rfl, fzLe.refl _⟩
  have hR' : R A m' w (st.take k ++ List.replicate (st.length - k) none) := by
    refine ⟨hR.aLow, fun B l b hA h hh => hR.aOwn B l b hA (hget l b h).2 hh, fun l l' b b' h h' => hR.inj l l' b b' (hget l b h).2 (hget l' b' h').2, fun l b h => ?_, fun l kk els he => ?_⟩
    · obtain ⟨h1, h2⟩ := hget l b h
      rw [hst l h1]
      exact hR.live l b h2
    · by_cases hl : l < k
      · rw [hst l hl] at he
        obtain ⟨b, h1, h2, h3, h4⟩ := hR.blk l kk els he
        refine ⟨b, by show (if l < k then m l else none) = some b; rw [if_pos hl]; exact h1, h2, fun hh => ?_, h4⟩
        rw [hlen]
        exact (h3 hh).keep (Nat.le_refl _) rfl fun av v hv => hv.step hR hS
      · cases hst2 l (by omega) _ he
  have hE' : Env A m' (st.take k ++ List.replicate (st.length - k) none).length w n env a := by rw [hlen]; exact hE.step hR hS
  exact h ops i ho hd hn A m' w a (by rw [hlen]; exact h0) hR' hE' Q fun a' w' k' => hQ a' w' (k'.trans (hS.weak h0))
theorem r_pad (j : Nat) (h : SR P n nb0 all l1 l2 K env (st ++ List.replicate j none)) : SR P n nb0 all l1 l2 K env st := fun ops i ho hd hn A m w a h0 hR hE Q hQ => by
  have hlen : (st ++ List.replicate j none).length = st.length + j := by simp
  have hm0 : ∀ l b, m l = some b → l < st.length := fun l b h => hR.lt h
  have hS : Step A m st.length w A m (st.length + j) w := ⟨by omega, Nat.le_refl _, fun _ h => h, fun _ h => .inl h, fun _ _ => .inl rfl, fun l b h hh => .inr ⟨l, b, h, hh, rfl⟩, fun _ _ _ => rfl, rfl, rfl, rfl, fzLe.refl _⟩
  have hR' : R A m w (st ++ List.replicate j none) := by
    refine ⟨hR.aLow, hR.aOwn, hR.inj, fun l b h => ?_, fun l kk els he => ?_⟩
    · rw [List.getElem?_append_left (hm0 l b h)]; exact hR.live l b h
    · by_cases hl : l < st.length
      · rw [List.getElem?_append_left hl] at he
        obtain ⟨b, h1, h2, h3, h4⟩ := hR.blk l kk els he
        refine ⟨b, h1, h2, fun hh => ?_, h4⟩
        rw [hlen]
        exact (h3 hh).keep (Nat.le_refl _) rfl fun av v hv => hv.step hR hS
      · rw [List.getElem?_append_right (by omega)] at he
        cases List.eq_of_mem_replicate (List.mem_of_getElem? he)
  have hE' : Env A m (st ++ List.replicate j none).length w n env a := by rw [hlen]; exact hE.step hR hS
  exact h ops i ho hd hn A m w a (by rw [hlen]; omega) hR' hE' Q fun a' w' k' => hQ a' w' (k'.trans (hS.weak h0))
theorem ph (kk : Nat) (h : SR P n nb0 all l1 l2 K env (st ++ [some (kk, [])])) : SR P n nb0 all l1 l2 K env st := fun ops i ho hd hn A m w a h0 hR hE Q hQ => by
  have hp := hR.push (Grow.refl w) ⟨false, 0, 0, kk, 0, false⟩ [] (fun h => by cases h) (fun _ => rfl)
    (fun h => by cases h) (fun h => by cases h) (fun h => by cases h) (fun q hq => by cases hq) (fun h => by cases h)
  have hlen : (st ++ [some (kk, [])]).length = st.length + 1 := by simp
  have hE' := hE.step hR hp.2
  rw [← hlen] at hE'
  exact h ops i ho hd hn A _ w a (by rw [hlen]; omega) hp.1 hE' Q fun a' w' k => hQ a' w' (k.trans (hp.2.weak h0))
def EndX (jj : Nat) (env : Ev) (st : St) (y : Operand) (x : Bool) (env' : Ev) (st' : St) : Prop :=
  st'.take st.length = st ∧ st'.length = st.length + jj ∧ (∀ t v, look env t = some v → look env' t = some v) ∧ ev env' y = some (.lit (.bool x))
theorem xg {jj : Nat} {env env' : Ev} {st st' : St} {y : Operand} {x : Bool} (ds : List Nat) (k : Nat) (h5 : st'.take st.length = st) (h6 : st'.length = st.length + jj) (h1 : env'.drop k = env) (h2 : keysOut ds env = true) (h3 : takesIn ds k env' = true) (h4 : ev env' y = some (.lit (.bool x))) : EndX jj env st y x env' st' :=
  ⟨h5, h6, drop_look h2 k h1 (takesIn_spec h3), h4⟩
theorem r_andX (k jj : Nat) {dp c : Nat} {y : Operand} {ty' : TypeId} {pos' : String} {aft' : Array Edge} {gp : Option (Nat × Bool)} {j : Nat} {b x : Bool} {l : List Oper} (hl : l1.drop k = ⟨some dp, .pick (.tmp c) y (.const (.bool false)), ty', pos', aft', gp⟩ :: l)
    (hj : (all[j]?).bind (·.dst) = some c) (hc : look env c = some (.lit (.bool b))) (hg : allG all j true [] (l1.take k) = true) (hk : keysOut (dstsN (l1.take k)) env = true)
    (hgp : ∀ env' : Ev, (∀ t v, look env t = some v → look env' t = some v) → aguard all env' ⟨some dp, .pick (.tmp c) y (.const (.bool false)), ty', pos', aft', gp⟩ = some true)
    (hT : b = true → SR P n nb0 all (l1.take k) (l1.drop k ++ l2) (EndX jj env st y x) env st) (hF : b = false → x = false) (h : SR P n nb0 all l l2 K ((dp, .lit (.bool x)) :: env) (st ++ List.replicate jj none)) : SR P n nb0 all l1 l2 K env st := by
  refine r_split k ?_
  rw [hl]
  cases b with
  | true =>
    refine r_mono (by rw [← hl]; exact hT rfl) ?_
    rintro env' st' ⟨h5, h6, h2, h3⟩
    refine r_kill st.length ?_ (by rw [Nat.ble_eq]; omega)
    rw [h5, show st'.length - st.length = jj by omega]
    refine r_one (hgp env' h2) ?_
    unfold SOp
    simp only [isCall, aop]
    have : ev env' (.tmp c) = some (.lit (.bool true)) := h2 c _ hc
    rw [this, h3]
    simp only [Option.map_some, aput]
    refine r_less (fun t v ht => ?_) h
    simp only [look] at ht ⊢
    split
    · rename_i e; rw [if_pos e] at ht; exact ht
    · rename_i e; rw [if_neg e] at ht; exact h2 t v ht
  | false =>
    have hout : ∀ t v, look env t = some v → look (undefs env (l1.take k)) t = some v := fun t v ht => by
      rw [undefs_look (keysOut_look hk ht)]; exact ht
    have := r_skips (P := P) (n := n) (nb0 := nb0) (l2 := l1.drop k ++ l2) (K := fun env st => SR P n nb0 all (l1.drop k) l2 K env st) (st := st) (l1 := []) hj (l1.take k) hg (fun _ h => by cases h) (keysOut_look hk hc) (fun h => by cases h) hc rfl ?_
    · rw [List.append_nil] at this; rwa [hl] at this
    refine r_nil ?_
    refine r_pad jj ?_
    rw [hl]
    refine r_one (hgp _ hout) ?_
    unfold SOp
    simp only [isCall, aop]
    have : ev (undefs env (l1.take k)) (.tmp c) = some (.lit (.bool false)) := hout c _ hc
    rw [this]
    simp only [ev, Option.map_some, aput]
    rw [hF rfl] at h
    refine r_less (fun t v ht => ?_) h
    simp only [look] at ht ⊢
    split
    · rename_i e; rw [if_pos e] at ht; exact ht
    · rename_i e; rw [if_neg e] at ht; exact hout t v ht
theorem rg {id : Nat} {ops : Array Oper} {y : Code} {Q : Exit → Ev → St → Prop} (hd : ops.toList.all (fun o => o.dst.all (· < n)) = true) (h : SR P n nb0 ops.toList ops.toList [] (fun env st => SW P n nb0 y Q env st) env st) :
    SW P n nb0 (.seq (.region id ops false) y) Q env st := by
  refine sw_seq ?_
  intro A m w a h0 hR hE
  refine wp_region ?_
  have := h ops 0 rfl (by simp) hd A m w a h0 hR hE (fun e a' w' => Onward A m nb0 w n (thenQ (SW P n nb0 y Q) Q e) a' w') fun a' w' ho => by
    simp only [List.length_nil, List.range'_zero, wpOps]
    exact ho
  rw [List.range_eq_range', show ops.size = ops.toList.length by simp]
  simpa using this
theorem rl {id : Nat} {ops : Array Oper} {Q : Exit → Ev → St → Prop} (hd : ops.toList.all (fun o => o.dst.all (· < n)) = true) (h : SR P n nb0 ops.toList ops.toList [] (Q .normal) env st) :
    SW P n nb0 (.region id ops false) Q env st := by
  intro A m w a h0 hR hE
  refine wp_region ?_
  have := h ops 0 rfl (by simp) hd A m w a h0 hR hE (fun e a' w' => Onward A m nb0 w n (Q e) a' w') fun a' w' ho => by
    simpa [wpOps] using ho
  rw [List.range_eq_range', show ops.size = ops.toList.length by simp]
  simpa using this
end
end Go.Proofs.YthmnlfenkhmmhaaGreat
namespace Go.Proofs.YthmnlfenkhmmhaaGreat
set_option linter.unusedSimpArgs false
set_option linter.unusedVariables false
set_option linter.unusedSectionVars false
mutual
def immB : AV → Bool
  | .any => true
  | .lit _ => true
  | .isl _ _ => true
  | .ipt _ _ _ _ => true
  | .imp _ => true
  | .mmp _ => false
  | .msl _ _ _ => false
  | .mpt _ _ _ => false
  | .agg cs => immLB cs
  | .tup cs => immLB cs
  | .fn _ a b => immLB a && immLB b
def immLB : List AV → Bool
  | [] => true
  | x :: l => immB x && immLB l
end
theorem ImmL.mem {l : List AV} (h : ImmL l) : ∀ x ∈ l, Imm x := by
  induction h with
  | nil => exact fun x hx => by cases hx
  | cons h _ ih =>
    intro x hx
    rcases List.mem_cons.1 hx with h1 | h1
    · exact h1 ▸ h
    · exact ih x h1
mutual
theorem immB_imm : ∀ {x : AV}, immB x = true → Imm x
  | .any, _ => .any
  | .lit v, _ => .lit v
  | .isl k e, _ => .isl k e
  | .ipt k e i j, _ => .ipt k e i j
  | .imp e, _ => .imp e
  | .mmp _, h => by cases h
  | .msl _ _ _, h => by cases h
  | .mpt _ _ _, h => by cases h
  | .agg cs, h => .agg cs (immL_of h).mem
  | .tup cs, h => .tup cs (immL_of h).mem
  | .fn f a b, h => .fn f a b (immL_of (Bool.and_eq_true_iff.1 h).1).mem (immL_of (Bool.and_eq_true_iff.1 h).2).mem
theorem immL_of : ∀ {l : List AV}, immLB l = true → ImmL l
  | [], _ => .nil
  | x :: l, h => .cons (immB_imm (Bool.and_eq_true_iff.1 h).1) (immL_of (Bool.and_eq_true_iff.1 h).2)
end
inductive Src where
  | old (l : Nat)
  | dead
  | fresh (k : Nat)
abbrev SrcL := List Src
def oldAt (L : SrcL) (l : Nat) : Option Nat := match L[l]? with | some (.old x) => some x | _ => none
def kept (L : SrcL) (x : Nat) : Bool := match L with | [] => false | .old y :: r => Nat.beq y x || kept r x | _ :: r => kept r x
theorem kept_of : ∀ {L : SrcL} {l x : Nat}, oldAt L l = some x → kept L x = true
  | [], l, x, h => by simp [oldAt] at h
  | s :: L, 0, x, h => by
    cases s with
    | old y => simp [oldAt] at h; subst h; simp [kept]
    | dead => simp [oldAt] at h
    | fresh k => simp [oldAt] at h
  | s :: L, l + 1, x, h => by
    have := kept_of (L := L) (l := l) (x := x) (by simpa [oldAt] using h)
    cases s <;> simp [kept, this]
inductive Rs (st : St) (L : SrcL) : AV → AV → Prop
  | any (x) : Rs st L .any x
  | imm {x} (h : Imm x) : Rs st L x x
  | nil {k : Nat} : Rs st L (.isl k []) (.lit (.slice none 0 0))
  | nilown {l k : Nat} (h : L[l]? = some (.fresh k)) : Rs st L (.msl l 0 0) (.lit (.slice none 0 0))
  | msl {l l' i n : Nat} (h : oldAt L l = some l') : Rs st L (.msl l i n) (.msl l' i n)
  | mpt {l l' i j : Nat} (h : oldAt L l = some l') : Rs st L (.mpt l i j) (.mpt l' i j)
  | mmp {l l' : Nat} (h : oldAt L l = some l') : Rs st L (.mmp l) (.mmp l')
  | sl {l i n k : Nat} {els els' : List (List AV)} (hD : kept L l = false) (h : st[l]? = some (some (k, els))) (hin : i + n ≤ els.length) (hl : els'.length = n) (hi : ∀ r ∈ els', ∀ x ∈ r, Imm x)
      (hrl : ∀ q (h : q < n) (h1 : i + q < els.length) (h2 : q < els'.length), els[i + q].length = els'[q].length)
      (hr : ∀ q (h : q < n) (h1 : i + q < els.length) (h2 : q < els'.length) j (h3 : j < els[i + q].length) (h4 : j < els'[q].length), Rs st L els'[q][j] els[i + q][j]) :
      Rs st L (.isl k els') (.msl l i n)
  | slp {l i j k : Nat} {els els' : List (List AV)} (hD : kept L l = false) (h : st[l]? = some (some (k, els))) (hl : els'.length = els.length) (hi : ∀ r ∈ els', ∀ x ∈ r, Imm x)
      (hrl : ∀ q (h1 : q < els.length) (h2 : q < els'.length), els[q].length = els'[q].length)
      (hr : ∀ q (h1 : q < els.length) (h2 : q < els'.length) j (h3 : j < els[q].length) (h4 : j < els'[q].length), Rs st L els'[q][j] els[q][j]) :
      Rs st L (.ipt k els' i j) (.mpt l i j)
  | sm {l : Nat} {els els' : List (List AV)} (hD : kept L l = false) (h : st[l]? = some (some (2, els))) (hl : els'.length = els.length) (hi : ∀ r ∈ els', ∀ x ∈ r, Imm x)
      (hrl : ∀ q (h1 : q < els.length) (h2 : q < els'.length), els[q].length = els'[q].length)
      (hr : ∀ q (h1 : q < els.length) (h2 : q < els'.length) j (h3 : j < els[q].length) (h4 : j < els'[q].length), Rs st L els'[q][j] els[q][j]) :
      Rs st L (.imp els') (.mmp l)
  | agg {cs cs' : List AV} (hl : cs.length = cs'.length) (hr : ∀ i (h : i < cs.length) (h' : i < cs'.length), Rs st L cs[i] cs'[i]) : Rs st L (.agg cs) (.agg cs')
  | tup {cs cs' : List AV} (hl : cs.length = cs'.length) (hr : ∀ i (h : i < cs.length) (h' : i < cs'.length), Rs st L cs[i] cs'[i]) : Rs st L (.tup cs) (.tup cs')
  | fn {f : Fn} {cs cs' ds ds' : List AV} (hl : cs.length = cs'.length) (hr : ∀ i (h : i < cs.length) (h' : i < cs'.length), Rs st L cs[i] cs'[i])
      (hl' : ds.length = ds'.length) (hr' : ∀ i (h : i < ds.length) (h' : i < ds'.length), Rs st L ds[i] ds'[i]) : Rs st L (.fn f cs ds) (.fn f cs' ds')
def RsRows (st : St) (L : SrcL) (els0 els : List (List AV)) : Prop :=
  els0.length = els.length ∧ ∀ i (h : i < els0.length) (h' : i < els.length), els0[i].length = els[i].length ∧ ∀ j (h1 : j < els0[i].length) (h2 : j < els[i].length), Rs st L els0[i][j] els[i][j]
structure RsSt (L : SrcL) (st0 st : St) : Prop where
  live : ∀ (l l' : Nat), oldAt L l = some l' → ∃ k els0 els, st0[l]? = some (some (k, els0)) ∧ st[l']? = some (some (k, els)) ∧ RsRows st L els0 els
  all : ∀ (l k : Nat) els0, st0[l]? = some (some (k, els0)) → (∃ l', oldAt L l = some l') ∨ (L[l]? = some (Src.fresh k) ∧ els0 = [])
  new : ∀ (l k : Nat), L[l]? = some (Src.fresh k) → st0[l]? = some (some (k, []))
  inj : ∀ l1 l2 x, oldAt L l1 = some x → oldAt L l2 = some x → l1 = l2
def newA (A : Nat → Prop) (m : BM) (L : SrcL) : Nat → Prop := fun B => A B ∨ ∃ l b, m l = some b ∧ b.has = true ∧ b.B = B ∧ kept L l = false
def newM (m : BM) (L : SrcL) : BM := fun l => match L[l]? with | some (.old x) => m x | some (.fresh k) => some ⟨false, 0, 0, k, 0, false⟩ | _ => none
theorem newM_old {m : BM} {L : SrcL} {l x : Nat} (h : oldAt L l = some x) : newM m L l = m x := by
  unfold oldAt at h; unfold newM
  split at h
  · rename_i y hy; cases h; rw [hy]
  · cases h
theorem newM_fresh {m : BM} {L : SrcL} {l k : Nat} (h : L[l]? = some (.fresh k)) : newM m L l = some ⟨false, 0, 0, k, 0, false⟩ := by unfold newM; rw [h]
theorem newM_has {m : BM} {L : SrcL} {l : Nat} {b : Blk} (h : newM m L l = some b) (hh : b.has = true) : ∃ x, oldAt L l = some x ∧ m x = some b := by
  unfold newM at h
  split at h
  · rename_i y hy; exact ⟨y, by unfold oldAt; rw [hy], h⟩
  · cases h; cases hh
  · cases h
theorem Rs.v {A : Nat → Prop} {m : BM} {w : World} {st st0 : St} {L : SrcL} (hR : R A m w st) (hs : RsSt L st0 st) {x y : AV} (h : Rs st L x y) : ∀ {v}, V A m st.length w y v → V (newA A m L) (newM m L) st0.length w x v := by
  have hA' : ∀ B, A B → newA A m L B := fun B h => .inl h
  induction h with
  | any x => exact fun {v} _ => .imm (.any v)
  | imm h => exact fun {v} hv => .imm ((h.vi hv).widen hA')
  | nil => intro v hv; rw [hv.lit_inv]; exact .imm (.inil _ _ _)
  | @nilown l k h =>
    intro v hv
    rw [hv.lit_inv]
    have h1 := hs.new l k h
    exact .msl _ _ _ _ _ _ (List.getElem?_eq_some_iff.1 h1).1 fun b hb => ⟨rfl, Nat.le_refl _, .inl rfl⟩
  | @msl l l' i n h =>
    intro v hv
    obtain ⟨hl, a, n', cap, rfl, hb⟩ := hv.msl_inv
    obtain ⟨_, _, _, h1, _, _⟩ := hs.live l l' h
    exact .msl _ _ _ _ _ _ (List.getElem?_eq_some_iff.1 h1).1 fun b hb' => hb b ((newM_old (m := m) h).symm.trans hb')
  | @mpt l l' i j h =>
    intro v hv
    obtain ⟨hl, a, rfl, hb⟩ := hv.mpt_inv
    obtain ⟨_, _, _, h1, _, _⟩ := hs.live l l' h
    exact .mpt _ _ _ _ (List.getElem?_eq_some_iff.1 h1).1 fun b hb' => hb b ((newM_old (m := m) h).symm.trans hb')
  | @mmp l l' h =>
    intro v hv
    obtain ⟨hl, a, rfl, hb⟩ := hv.mmp_inv
    obtain ⟨_, _, _, h1, _, _⟩ := hs.live l l' h
    exact .mmp _ _ (List.getElem?_eq_some_iff.1 h1).1 fun b hb' => hb b ((newM_old (m := m) h).symm.trans hb')
  | @sm l els els' hD h hl hi hrl hr ih =>
    intro v hv
    obtain ⟨hlt, a, rfl, hb⟩ := hv.mmp_inv
    obtain ⟨b, h1, h2, h3, h4⟩ := hR.blk l 2 els h
    obtain ⟨h6, hm6, rfl⟩ := hb b h1
    obtain ⟨h0, es, clock, h7, h8, h9⟩ := (h3 h6).mval hm6
    have hw := (h3 h6).wide
    exact .imm (.imp els' b.B es clock (.inr ⟨l, b, h1, h6, rfl, hD⟩) h7 (by omega) (fun q hq => by rw [← hrl q (by omega) hq, hw q (by omega), h0])
      (fun q hq j hj => (hi _ (List.getElem_mem hq) _ (List.getElem_mem hj)).vi (ih q (by omega) hq j (by rw [hrl q (by omega) hq]; exact hj) hj (h9 q (by omega) j (by rw [hrl q (by omega) hq]; exact hj)))))
  | @sl l i n k els els' hD h hin hl hi hrl hr ih =>
    intro v hv
    obtain ⟨hlt, a, n', cap, rfl, hb⟩ := hv.msl_inv
    obtain ⟨b, h1, h2, h3, h4⟩ := hR.blk l k els h
    obtain ⟨rfl, hcap, hc⟩ := hb b h1
    rcases hc with h5 | ⟨h6, hm6, rfl, hfit⟩
    · have h0 : n' = 0 := by omega
      subst h0
      obtain rfl : els' = [] := List.eq_nil_of_length_eq_zero hl
      exact .imm (.inil _ _ _)
    · have hok := (h3 h6).cells hm6
      subst h2
      have hcell : ∀ q j, q < els'.length → j < b.k → ∃ u, w.cell? ⟨b.B, b.o + i * b.k + q * b.k + j, none⟩ = some u ∧ ∀ (h4 : q < els'.length) (h5 : j < els'[q].length), VI (newA A m L) w els'[q][j] u := fun q j hq hj => by
        have hq1 : i + q < els.length := by omega
        have hj1 : j < els[i + q].length := by rw [hok.wide _ hq1]; exact hj
        obtain ⟨u, h8, h9⟩ := hok.val (i + q) hq1 j hj1
        refine ⟨u, by rw [← h8]; congr 2; rw [Nat.add_mul]; omega, fun h10 h11 => ?_⟩
        exact (hi _ (List.getElem_mem h10) _ (List.getElem_mem h11)).vi (ih q (by omega) hq1 h10 j hj1 h11 h9)
      have hw' : ∀ q (hq : q < els'.length), els'[q].length = b.k := fun q hq => by
        rw [← hrl q (by omega) (by omega) hq]; exact hok.wide _ (by omega)
      have := VI.isl (A := newA A m L) (w := w) b.k els' b.B (b.o + i * b.k) cap (fun q j => (w.cell? ⟨b.B, b.o + i * b.k + q * b.k + j, none⟩).getD undef) (.inr ⟨l, b, h1, h6, rfl, hD⟩) (by omega) hw'
        (fun q j hq hj => by obtain ⟨u, h8, _⟩ := hcell q j hq hj; rw [h8]; rfl)
        (fun q hq j hj => by
          obtain ⟨u, h8, h9⟩ := hcell q j hq (by rw [← hw' q hq]; exact hj)
          show VI _ w _ ((w.cell? _).getD undef)
          rw [h8]; exact h9 hq hj)
      rw [hl] at this
      exact .imm this
  | @slp l i j k els els' hD h hl hi hrl hr ih =>
    intro v hv
    obtain ⟨hlt, a, rfl, hb⟩ := hv.mpt_inv
    obtain ⟨b, h1, h2, h3, h4⟩ := hR.blk l k els h
    obtain ⟨h6, hm6, rfl⟩ := hb b h1
    have hok := (h3 h6).cells hm6
    subst h2
    have hcell : ∀ q j, q < els'.length → j < b.k → ∃ u, w.cell? ⟨b.B, b.o + q * b.k + j, none⟩ = some u ∧ ∀ (h4 : q < els'.length) (h5 : j < els'[q].length), VI (newA A m L) w els'[q][j] u := fun q j hq hj => by
      have hq1 : q < els.length := by omega
      have hj1 : j < els[q].length := by rw [hok.wide _ hq1]; exact hj
      obtain ⟨u, h8, h9⟩ := hok.val q hq1 j hj1
      exact ⟨u, h8, fun h10 h11 => (hi _ (List.getElem_mem h10) _ (List.getElem_mem h11)).vi (ih q hq1 h10 j hj1 h11 h9)⟩
    have hw' : ∀ q (hq : q < els'.length), els'[q].length = b.k := fun q hq => by
      rw [← hrl q (by omega) hq]; exact hok.wide _ (by omega)
    exact .imm (VI.ipt (A := newA A m L) (w := w) b.k els' i j b.B b.o (fun q j => (w.cell? ⟨b.B, b.o + q * b.k + j, none⟩).getD undef) (.inr ⟨l, b, h1, h6, rfl, hD⟩) hw'
      (fun q j hq hj => by obtain ⟨u, h8, _⟩ := hcell q j hq hj; rw [h8]; rfl)
      (fun q hq j hj => by
        obtain ⟨u, h8, h9⟩ := hcell q j hq (by rw [← hw' q hq]; exact hj)
        show VI _ w _ ((w.cell? _).getD undef)
        rw [h8]; exact h9 hq hj))
  | agg hl hr ih =>
    intro v hv
    obtain ⟨a, rfl, h1, h2⟩ := hv.agg_inv
    exact .agg _ _ (by omega) fun i hi => ih i hi (by omega) (h2 i (by omega))
  | tup hl hr ih =>
    intro v hv
    obtain ⟨a, rfl, h1, h2⟩ := hv.tup_inv
    exact .tup _ _ (by omega) fun i hi => ih i hi (by omega) (h2 i (by omega))
  | fn hl hr hl' hr' ih ih' =>
    intro v hv
    obtain ⟨a, b, rfl, ⟨h1, h2⟩, ⟨h3, h4⟩⟩ := hv.fn_inv
    exact .fn _ _ _ _ _ (by omega) (fun i hi => ih i hi (by omega) (h2 i (by omega))) (by omega) fun i hi => ih' i hi (by omega) (h4 i (by omega))
theorem R.rs {A : Nat → Prop} {m : BM} {w : World} {st st0 : St} {L : SrcL} (hR : R A m w st) (h : RsSt L st0 st) : R (newA A m L) (newM m L) w st0 := by
  refine ⟨fun B hB => ?_, fun B l b hA hb hh => ?_, fun l1 l2 b1 b2 h1 h2 hh1 hh2 he => ?_, fun l b hb => ?_, fun l k els0 he => ?_⟩
  · rcases hB with h1 | ⟨l, b, h1, h2, rfl, _⟩
    · exact hR.aLow B h1
    · exact hR.low h1 h2
  · obtain ⟨x, h1, h2⟩ := newM_has hb hh
    rcases hA with h3 | ⟨l3, b3, h3, h4, rfl, h5⟩
    · exact hR.aOwn B x b h3 h2 hh
    · intro e
      have := hR.inj x l3 b b3 h2 h3 hh h4 e
      subst this
      rw [kept_of h1] at h5
      cases h5
  · obtain ⟨x1, k1, k2⟩ := newM_has h1 hh1
    obtain ⟨x2, k3, k4⟩ := newM_has h2 hh2
    have := hR.inj x1 x2 b1 b2 k2 k4 hh1 hh2 he
    subst this
    exact h.inj l1 l2 x1 k1 k3
  · unfold newM at hb
    split at hb
    · rename_i x hx
      obtain ⟨k, els0, els, h3, h4, _⟩ := h.live l x (by unfold oldAt; rw [hx])
      exact ⟨els0, by rw [h3]; rw [(hR.at hb h4).1]⟩
    · rename_i k hx
      cases hb
      exact ⟨[], h.new l k hx⟩
    · cases hb
  · rcases h.all l k els0 he with ⟨l', h1⟩ | ⟨h1, rfl⟩
    · obtain ⟨k', els0', els, h3, h4, h5⟩ := h.live l l' h1
      rw [he] at h3
      cases h3
      obtain ⟨b, h6, h7, h8, h9⟩ := hR.blk l' k els h4
      refine ⟨b, by rw [newM_old h1]; exact h6, h7, fun hh => ?_, fun hh => ?_⟩
      · exact (h8 hh).rel h5.1 fun i hi hi' => ⟨(h5.2 i hi hi').1, fun j hj hj' v hv => ((h5.2 i hi hi').2 j hj hj').v hR h hv⟩
      · have := h9 hh
        subst this
        exact List.eq_nil_of_length_eq_zero h5.1
    · exact ⟨_, newM_fresh h1, rfl, (fun hh => by cases hh), fun _ => rfl⟩
def idsS (nb0 : Nat) (L : SrcL) : Bool := (List.range nb0).all fun l => match L[l]? with | some (.old x) => Nat.beq x l | some (.fresh _) => false | _ => true
theorem idsS_spec {nb0 : Nat} {L : SrcL} (h : idsS nb0 L = true) {l : Nat} (hl : l < nb0) (m : BM) : newM m L l = m l ∨ newM m L l = none := by
  have h1 := (List.all_eq_true.1 h) l (List.mem_range.2 hl)
  unfold newM
  cases hL : L[l]? with
  | none => exact .inr rfl
  | some s =>
    rw [hL] at h1
    cases s with
    | old x => simp at h1; subst h1; exact .inl rfl
    | dead => exact .inr rfl
    | fresh k => cases h1
theorem Step.rs {A m nb0 w A' m' nb' w' st0 st'} {L : SrcL} (h : RsSt L st0 st') (hS : Step A m nb0 w A' m' nb' w') (hid : idsS nb0 L = true) (hn : nb0 ≤ st0.length) : Step A m nb0 w (newA A' m' L) (newM m' L) st0.length w' := by
  refine ⟨hn, hS.size, fun B hB => .inl (hS.aSub B hB), fun B hB => ?_, fun l hl => ?_, fun l b hb hh => ?_, hS.heap, hS.os, hS.tape, hS.output, hS.fzS⟩
  · rcases hB with h1 | ⟨l, b, h1, h2, rfl, _⟩
    · exact hS.aNew B h1
    · rcases hS.mNew l b h1 h2 with h3 | h3
      · exact .inr (.inl h3)
      · exact .inr (.inr h3)
  · rcases idsS_spec hid hl m' with h1 | h1
    · rw [h1]; exact hS.mOld l hl
    · exact .inr h1
  · obtain ⟨x, h1, h2⟩ := newM_has hb hh
    exact hS.mNew x b h2 hh
def EnvRs (st : St) (L : SrcL) : Ev → Ev → Prop
  | [], _ => True
  | (t, v0) :: r, env => (∃ v, look env t = some v ∧ Rs st L v0 v) ∧ EnvRs st L r env
theorem EnvRs.get {st L} : ∀ {env0 env : Ev}, EnvRs st L env0 env → ∀ t v0, look env0 t = some v0 → ∃ v, look env t = some v ∧ Rs st L v0 v
  | [], _, _, t, v0, h => by cases h
  | (k, x) :: r, env, h, t, v0, hl => by
    simp only [look] at hl
    split at hl
    · rename_i e; subst e; cases hl; exact h.1
    · exact EnvRs.get h.2 t v0 hl
theorem Env.rs {A m w st st0 n env0 env a} {L : SrcL} (hR : R A m w st) (hs : RsSt L st0 st) (hE : Env A m st.length w n env a) (he : EnvRs st L env0 env) : Env (newA A m L) (newM m L) st0.length w n env0 a :=
  ⟨hE.size, fun t v0 hl => by
    obtain ⟨v, h1, h2⟩ := he.get t v0 hl
    obtain ⟨h3, h4⟩ := hE.val t v h1
    exact ⟨h3, h2.v hR hs h4⟩, hE.defers⟩
def RsBlks (st : St) (L : SrcL) : SrcL → St → Prop
  | [], [] => True
  | .dead :: r, none :: s => RsBlks st L r s
  | .fresh k :: r, some (k', els) :: s => (k' = k ∧ els = []) ∧ RsBlks st L r s
  | .old x :: r, some (k, els0) :: s => (∃ els, st[x]? = some (some (k, els)) ∧ RsRows st L els0 els) ∧ RsBlks st L r s
  | _, _ => False
theorem RsBlks.at {st : St} {L : SrcL} : ∀ {r : SrcL} {s : St}, RsBlks st L r s → ∀ l : Nat,
    (∀ x, r[l]? = some (.old x) → ∃ k els0 els, s[l]? = some (some (k, els0)) ∧ st[x]? = some (some (k, els)) ∧ RsRows st L els0 els) ∧
    (∀ k, r[l]? = some (.fresh k) → s[l]? = some (some (k, []))) ∧ (∀ k els0, s[l]? = some (some (k, els0)) → (∃ x, r[l]? = some (.old x)) ∨ (r[l]? = some (.fresh k) ∧ els0 = []))
  | [], [], _, l => by simp
  | [], _ :: _, h, _ => by cases h
  | .dead :: _, [], h, _ => by cases h
  | .dead :: _, some _ :: _, h, _ => by cases h
  | .fresh _ :: _, [], h, _ => by cases h
  | .fresh _ :: _, none :: _, h, _ => by cases h
  | .old _ :: _, [], h, _ => by cases h
  | .old _ :: _, none :: _, h, _ => by cases h
  | .dead :: r, none :: s, h, l => by
    cases l with
    | zero => simp
    | succ l => simpa using RsBlks.at (r := r) (s := s) h l
  | .fresh k :: r, some (k', els) :: s, h, l => by
    obtain ⟨⟨rfl, rfl⟩, h2⟩ := h
    cases l with
    | zero => simp
    | succ l => simpa using RsBlks.at (r := r) (s := s) h2 l
  | .old x :: r, some (k, els0) :: s, h, l => by
    obtain ⟨⟨els, h1, h3⟩, h2⟩ := h
    cases l with
    | zero =>
      refine ⟨fun y hy => ?_, fun k' hk => by simp at hk, fun k' e' he' => .inl ⟨x, by simp⟩⟩
      simp at hy; subst hy
      exact ⟨k, els0, els, by simp, h1, h3⟩
    | succ l => simpa using RsBlks.at (r := r) (s := s) h2 l
def onceS : SrcL → Bool
  | [] => true
  | .old x :: r => (!kept r x) && onceS r
  | _ :: r => onceS r
theorem onceS_inj : ∀ {L : SrcL}, onceS L = true → ∀ l1 l2 x, oldAt L l1 = some x → oldAt L l2 = some x → l1 = l2
  | [], _, l1, _, x, h, _ => by simp [oldAt] at h
  | s :: L, h, l1, l2, x, h1, h2 => by
    have hL : onceS L = true := by cases s <;> simp [onceS] at h <;> first | exact h.2 | exact h
    cases l1 with
    | zero =>
      cases l2 with
      | zero => rfl
      | succ l2 =>
        cases s with
        | old y =>
          simp [oldAt] at h1; subst h1
          have := kept_of (L := L) (l := l2) (x := y) (by simpa [oldAt] using h2)
          simp [onceS, this] at h
        | dead => simp [oldAt] at h1
        | fresh k => simp [oldAt] at h1
    | succ l1 =>
      cases l2 with
      | zero =>
        cases s with
        | old y =>
          simp [oldAt] at h2; subst h2
          have := kept_of (L := L) (l := l1) (x := y) (by simpa [oldAt] using h1)
          simp [onceS, this] at h
        | dead => simp [oldAt] at h2
        | fresh k => simp [oldAt] at h2
      | succ l2 => rw [onceS_inj hL l1 l2 x (by simpa [oldAt] using h1) (by simpa [oldAt] using h2)]
theorem RsSt.of {L : SrcL} {st0 st : St} (ho : onceS L = true) (h : RsBlks st L L st0) : RsSt L st0 st where
  live := fun l l' hl => by
    unfold oldAt at hl
    split at hl
    · rename_i x hx; cases hl; exact (h.at l).1 _ hx
    · cases hl
  all := fun l k els0 he => by
    rcases (h.at l).2.2 k els0 he with ⟨x, hx⟩ | h1
    · exact .inl ⟨x, by unfold oldAt; rw [hx]⟩
    · exact .inr h1
  new := fun l k hk => (h.at l).2.1 k hk
  inj := onceS_inj ho
def Can (nb0 : Nat) (env0 : Ev) (st0 : St) (env : Ev) (st : St) : Prop :=
  ∃ L : SrcL, EnvRs st L env0 env ∧ onceS L = true ∧ RsBlks st L L st0 ∧ idsS nb0 L = true ∧ nb0 ≤ st0.length
section
variable {P : Program} {n nb0 : Nat} {env env0 : Ev} {st st0 : St}
theorem sw_can {c : Code} {Q : Exit → Ev → St → Prop} (hc : Can nb0 env0 st0 env st) (h : SW P n nb0 c Q env0 st0) : SW P n nb0 c Q env st := by
  obtain ⟨L, h1, h2, h3, h4, h5⟩ := hc
  intro A m w a h0 hR hE
  have hs := RsSt.of h2 h3
  exact wp_mono (h _ _ w a h5 (hR.rs hs) (hE.rs hR hs h1)) fun _ _ _ k => k.trans ((Step.refl0 A m st.length w h0).rs hs h4 h5)
theorem r_can {all l1 l2 : List Oper} {K : Ev → St → Prop} (hc : Can nb0 env0 st0 env st) (h : SR P n nb0 all l1 l2 K env0 st0) : SR P n nb0 all l1 l2 K env st := by
  obtain ⟨L, h1, h2, h3, h4, h5⟩ := hc
  intro ops i ho hd hn A m w a h0 hR hE Q hQ
  have hs := RsSt.of h2 h3
  exact h ops i ho hd hn _ _ w a h5 (hR.rs hs) (hE.rs hR hs h1) Q fun a' w' k => hQ a' w' (k.trans ((Step.refl0 A m st.length w h0).rs hs h4 h5))
theorem sw_meet {x y : Code} {Q : Exit → Ev → St → Prop} {X : Type} (E : X → Ev) (S : X → St) (I : X → Prop)
    (h : SW P n nb0 x (thenQ (fun env st => ∃ z, I z ∧ Can nb0 (E z) (S z) env st) Q) env st) (k : ∀ z, I z → SW P n nb0 y Q (E z) (S z)) : SW P n nb0 (.seq x y) Q env st :=
  sw_seq (h.mono fun e env st h => by cases e <;> first | (obtain ⟨z, h1, h2⟩ := h; exact sw_can h2 (k z h1)) | exact h)
def LQ (id : Nat) {X B R : Type} (nb0 : Nat) (E : X → Ev) (S : X → St) (E' : B → Ev) (S' : B → St) (post : R → Ev → St → Prop) (o : Sum X (Sum B R)) : Exit → Ev → St → Prop
  | .normal, env, st => ∃ z, o = .inl z ∧ Can nb0 (E z) (S z) env st
  | .exit i, env, st => i = id ∧ ∃ b, o = .inr (.inl b) ∧ Can nb0 (E' b) (S' b) env st
  | .ret, env, st => ∃ r, o = .inr (.inr r) ∧ post r env st
  | _, _, _ => False
theorem sw_lp {id : Nat} {c y : Code} {Q : Exit → Ev → St → Prop} {X B R : Type} (E : X → Ev) (S : X → St) (E' : B → Ev) (S' : B → St) (post : R → Ev → St → Prop) {body : X → Option (Sum X (Sum B R))} {z0 : X} {o : Sum B R}
    (ho : loopP body z0 = some o) (hc : Can nb0 (E z0) (S z0) env st) (round : ∀ z r, body z = some r → SW P n nb0 c (LQ id nb0 E S E' S' post r) (E z) (S z))
    (hb : ∀ b, o = .inl b → SW P n nb0 y Q (E' b) (S' b)) (hr : ∀ r, o = .inr r → ∀ env st, post r env st → Q .ret env st) : SW P n nb0 (.seq (.block id (.loop c)) y) Q env st := by
  obtain ⟨N, hN⟩ := loopP_ex ho
  refine sw_seq (sw_block (sw_loop (fun k env st => ∃ z, loopN body k z = some o ∧ Can nb0 (E z) (S z) env st) N ⟨z0, hN, hc⟩ ?_))
  rintro k env st ⟨z, hz, hcan⟩
  cases k with
  | zero => cases hz
  | succ k =>
    unfold loopN at hz
    cases hbz : body z with
    | none => rw [hbz] at hz; cases hz
    | some r =>
      rw [hbz] at hz
      refine sw_can hcan ((round z r hbz).mono fun e env st h => ?_)
      cases e with
      | normal =>
        obtain ⟨z', rfl, h2⟩ := h
        exact ⟨k, Nat.lt_succ_self k, z', hz, h2⟩
      | exit i =>
        obtain ⟨rfl, b, rfl, h2⟩ := h
        show blockQ i _ (.exit i) env st
        simp only [blockQ, if_true]
        exact sw_can h2 (hb b (sm hz).symm)
      | ret =>
        obtain ⟨r', rfl, h2⟩ := h
        exact hr r' (sm hz).symm env st h2
      | goto l => exact h.elim
      | panic c => exact h.elim
      | outgrown => exact h.elim
end
end Go.Proofs.YthmnlfenkhmmhaaGreat
namespace Go.Proofs.YthmnlfenkhmmhaaGreat
set_option linter.unusedSimpArgs false
set_option linter.unusedVariables false
set_option linter.unusedSectionVars false
def rStr (s : List UInt8) : List AV := [.lit (.string (B s))]
def rI (k : IntKind) (n : Int) : List AV := [.lit (.int k n)]
def rB (b : Bool) : List AV := [.lit (.bool b)]
def rL {α : Type} (k : Nat) (f : α → List AV) (l : List α) : List AV := [.isl k (l.map f)]
def FinE (nb0 : Nat) (av0 : AV) (st0 : St) (av : AV) (st : St) : Prop :=
  ∃ L : SrcL, Rs st L av0 av ∧ onceS L = true ∧ RsBlks st L L st0 ∧ idsS nb0 L = true ∧ nb0 ≤ st0.length
def PostF (P : Program) (fn : Func) (nb0 : Nat) (av0 : AV) (st0 : St) (env : Ev) (st : St) : Prop := ∃ av, aret P fn env st = some av ∧ FinE nb0 av0 st0 av st
def QF (P : Program) (fn : Func) (nb0 : Nat) (av0 : AV) (st0 : St) : Exit → Ev → St → Prop
  | .normal, env, st => PostF P fn nb0 av0 st0 env st
  | .ret, env, st => PostF P fn nb0 av0 st0 env st
  | _, _, _ => False
theorem scall_fn {P : Program} {f : FuncId} {fn : Func} {c : Code} {args : List AV} {st : St} {av0 : AV} {st0 : St} (hf : P.funcs[f]? = some fn) (hb : fn.body = some c) (hn : (fn.name == "runtime.NumGoroutine") = false) (hlen : Nat.ble args.length fn.ntmps = true)
    (h : SW P fn.ntmps st.length c (QF P fn st.length av0 st0) (enterEnv 0 args) st) : SCall P f args st (fun av st' => av = av0 ∧ st' = st0) := by
  have h1 := scall_body (K := fun av st' => FinE st.length av0 st0 av st') hf hb hn (Nat.le_of_ble_eq_true hlen) (h.mono fun e env st h => by cases e <;> exact h)
  refine ⟨h1.1, fun A m w vals hR hv => (h1.2 A m w vals hR hv).mono fun e w' ⟨v, A', m', st', av, he, hR', hS, hv', L, k1, k2, k3, k4, k5⟩ => ?_⟩
  have hs := RsSt.of k2 k3
  exact ⟨v, _, _, st0, av0, he, hR'.rs hs, hS.rs hs k4 k5, k1.v hR' hs hv', rfl, rfl⟩
theorem pure_fn {P : Program} {f : FuncId} {fn : Func} {c : Code} {args : List AV} {res : AV} (hf : P.funcs[f]? = some fn) (hb : fn.body = some c) (hn : (fn.name == "runtime.NumGoroutine") = false) (hlen : Nat.ble args.length fn.ntmps = true) (hi : immB res = true)
    (h : SW P fn.ntmps 0 c (QF P fn 0 res []) (enterEnv 0 args) []) : PureC P f args res :=
  pure_of ((scall_fn (st := []) hf hb hn hlen h).mono fun av st ⟨h1, h2⟩ => by subst h1; exact .imm (immB_imm hi))
inductive SB where
  | no
  | many (k : Nat) (els : List (List AV))
  | one (k : Nat) (cs : List AV)
  | xs (k : Nat) (rows : List (List AV))
def SB.b : SB → Option (Nat × List (List AV))
  | .no => none
  | .many k els => some (k, els)
  | .one k cs => some (k, [cs])
  | .xs k rows => some (k, rows)
def SBs : List SB → St
  | [] => []
  | x :: r => x.b :: SBs r
def SB.ok : SB → Prop
  | .many _ els => ∀ r ∈ els, ∀ x ∈ r, Imm x
  | _ => True
def SBok : List SB → Prop
  | [] => True
  | x :: r => x.ok ∧ SBok r
def SC (P : Program) (f : FuncId) (args : List AV) (bs0 : List SB) (av : AV) (bs1 : List SB) : Prop := SBok bs1 ∧ SCall P f args (SBs bs0) (fun a s => a = av ∧ s = SBs bs1)
def RnLs (ρ : Nat → Option Nat) : List AV → List AV → Prop
  | [], [] => True
  | x :: l, y :: r => Rn ρ x y ∧ RnLs ρ l r
  | _, _ => False
theorem RnLs.get {ρ} : ∀ {l r : List AV}, RnLs ρ l r → l.length = r.length ∧ ∀ i (h : i < l.length) (h' : i < r.length), Rn ρ l[i] r[i]
  | [], [], _ => ⟨rfl, fun i h => by cases h⟩
  | [], _ :: _, h => h.elim
  | _ :: _, [], h => h.elim
  | x :: l, y :: r, h => by
    obtain ⟨h1, h2⟩ := RnLs.get h.2
    refine ⟨by simp [h1], fun i hi hi' => ?_⟩
    cases i with
    | zero => exact h.1
    | succ i => exact h2 i (by simpa using hi) (by simpa using hi')
def InB (ρ : Nat → Option Nat) (st : St) : List Nat → List SB → Prop
  | [], [] => True
  | l :: L, .many k els :: bs => (st[l]? = some (some (k, els)) ∧ ∀ r ∈ els, ∀ x ∈ r, Imm x) ∧ InB ρ st L bs
  | l :: L, .one k cs :: bs => (∃ cs', st[l]? = some (some (k, [cs'])) ∧ RnLs ρ cs cs') ∧ InB ρ st L bs
  | _, _ => False
theorem InB.at {ρ st} : ∀ {L : List Nat} {bs : List SB}, InB ρ st L bs → L.length = bs.length ∧ ∀ i l : Nat, L[i]? = some l → ∃ k els0 els, (SBs bs)[i]? = some (some (k, els0)) ∧ st[l]? = some (some (k, els)) ∧ RnRows ρ els0 els
  | [], [], _ => ⟨rfl, fun i l h => by simp at h⟩
  | [], _ :: _, h => h.elim
  | _ :: _, [], h => h.elim
  | _ :: _, .no :: _, h => h.elim
  | _ :: _, .xs _ _ :: _, h => h.elim
  | l :: L, .many k els :: bs, h => by
    obtain ⟨h1, h2⟩ := InB.at h.2
    refine ⟨by simp [h1], fun i x hx => ?_⟩
    cases i with
    | zero =>
      simp at hx; subst hx
      exact ⟨k, els, els, rfl, h.1.1, RnRows.same h.1.2⟩
    | succ i => simpa [SBs] using h2 i x (by simpa using hx)
  | l :: L, .one k cs :: bs, h => by
    obtain ⟨h1, h2⟩ := InB.at h.2
    refine ⟨by simp [h1], fun i x hx => ?_⟩
    cases i with
    | zero =>
      simp at hx; subst hx
      obtain ⟨cs', h3, h4⟩ := h.1
      exact ⟨k, [cs], [cs'], rfl, h3, RnRows.one h4.get.1 h4.get.2⟩
    | succ i => simpa [SBs] using h2 i x (by simpa using hx)
theorem SBs_length : ∀ bs : List SB, (SBs bs).length = bs.length
  | [] => rfl
  | _ :: r => by simp [SBs, SBs_length r]
def rnSB (τ : Nat → Nat) : SB → Option (Nat × List (List AV))
  | .no => none
  | .many k els => some (k, els)
  | .one k cs => some (k, [rnL τ cs])
  | .xs k rows => some (k, rows.map (rnL τ))
def rnSBs (τ : Nat → Nat) : List SB → St
  | [] => []
  | x :: r => rnSB τ x :: rnSBs τ r
def setsB (τ : Nat → Nat) : St → List Nat → List SB → St
  | st, l :: L, b :: bs => setsB τ (st.set l (rnSB τ b)) L bs
  | st, _, _ => st
def afterL (τ : Nat → Nat) : List Nat → List SB → St
  | _ :: L, _ :: bs => afterL τ L bs
  | _, bs => rnSBs τ bs
def unfr (L : List Nat) (st : St) (bs : List SB) : St := setsB (tau L st.length) st L bs ++ afterL (tau L st.length) L bs
theorem Imm.rn {τ : Nat → Nat} {x : AV} (h : Imm x) : rn τ x = x := by
  induction h with
  | any => rfl
  | lit v => rfl
  | isl k e => rfl
  | ipt k e i j => rfl
  | imp e => rfl
  | agg cs _ ih =>
    rw [Go.Proofs.YthmnlfenkhmmhaaGreat.rn, rnL_map]; congr 1
    conv => rhs; rw [← List.map_id cs]
    exact List.map_congr_left ih
  | tup cs _ ih =>
    rw [Go.Proofs.YthmnlfenkhmmhaaGreat.rn, rnL_map]; congr 1
    conv => rhs; rw [← List.map_id cs]
    exact List.map_congr_left ih
  | fn f cs ds _ _ ih ih' =>
    rw [Go.Proofs.YthmnlfenkhmmhaaGreat.rn, rnL_map, rnL_map]
    congr 1
    · conv => rhs; rw [← List.map_id cs]
      exact List.map_congr_left ih
    · conv => rhs; rw [← List.map_id ds]
      exact List.map_congr_left ih'
theorem rnSB_eq {τ : Nat → Nat} {b : SB} (h : b.ok) : rnSB τ b = rnBlk τ b.b := by
  cases b with
  | no => rfl
  | one k cs => rfl
  | xs k rows => rfl
  | many k els =>
    show some (k, els) = some (k, rnRows τ els)
    congr 2
    unfold rnRows
    conv => lhs; rw [← List.map_id els]
    refine List.map_congr_left fun r hr => ?_
    rw [rnL_map]
    conv => lhs; rw [← List.map_id (id r)]
    exact List.map_congr_left fun x hx => ((h r hr x hx).rn).symm
theorem rnSBs_eq {τ : Nat → Nat} : ∀ {bs : List SB}, SBok bs → rnSBs τ bs = (SBs bs).map (rnBlk τ)
  | [], _ => rfl
  | b :: bs, h => by rw [rnSBs, SBs, List.map_cons, rnSB_eq h.1, rnSBs_eq h.2]
theorem setsB_eq {τ : Nat → Nat} : ∀ {L : List Nat} {st : St} {bs : List SB}, SBok bs → setsB τ st L bs = setsAt τ st L ((SBs bs).take L.length)
  | [], st, bs, _ => by cases bs <;> rfl
  | l :: L, st, [], _ => rfl
  | l :: L, st, b :: bs, h => by
    rw [setsB, SBs, List.length_cons, List.take_succ_cons, setsAt, rnSB_eq h.1]
    exact setsB_eq h.2
theorem afterL_eq {τ : Nat → Nat} : ∀ {L : List Nat} {bs : List SB}, SBok bs → afterL τ L bs = ((SBs bs).drop L.length).map (rnBlk τ)
  | [], bs, h => by unfold afterL; exact rnSBs_eq h
  | l :: L, [], _ => by simp [afterL, rnSBs, SBs]
  | l :: L, b :: bs, h => by
    rw [afterL, SBs, List.length_cons, List.drop_succ_cons]
    exact afterL_eq h.2
theorem unfr_eq {L : List Nat} {st : St} {bs : List SB} (h : SBok bs) : unfr L st bs = unframe L st (SBs bs) := by
  unfold unfr unframe; rw [setsB_eq h, afterL_eq h]
def nodupB : List Nat → Bool
  | [] => true
  | x :: l => (!memN x l) && nodupB l
theorem nodupB_iff : ∀ {l : List Nat}, nodupB l = true → l.Nodup
  | [], _ => List.nodup_nil
  | x :: l, h => by
    simp only [nodupB, Bool.and_eq_true, Bool.not_eq_true'] at h
    refine List.nodup_cons.2 ⟨fun hm => ?_, nodupB_iff h.2⟩
    rw [memN_iff.2 hm] at h
    cases h.1
def allLt (k : Nat) : List Nat → Bool
  | [] => true
  | x :: l => Nat.blt x k && allLt k l
theorem allLt_iff {k : Nat} : ∀ {l : List Nat}, allLt k l = true → ∀ x ∈ l, x < k
  | [], _, x, h => by cases h
  | y :: l, h, x, hx => by
    simp only [allLt, Bool.and_eq_true] at h
    rcases List.mem_cons.1 hx with rfl | hx
    · exact Nat.le_of_ble_eq_true h.1
    · exact allLt_iff h.2 x hx
section
variable {P : Program} {env : Ev} {st : St} {K : Ev → St → Prop} {d : Nat} {ty : TypeId} {pos : String} {aft : Array Edge} {gu : Option (Nat × Bool)}
theorem o_any {op : Op} {av : AV} {st' : St} (hc : isCall op = false) (h : aop P env st op = some (av, st')) (k : K ((d, av) :: env) st') : SOp P ⟨some d, op, ty, pos, aft, gu⟩ env st K := by
  unfold SOp; simp only [hc, h]; exact k
theorem o_no {op : Op} {av : AV} {st' : St} (hc : isCall op = false) (h : aop P env st op = some (av, st')) (k : K env st') : SOp P ⟨none, op, ty, pos, aft, gu⟩ env st K := by
  unfold SOp; simp only [hc, h]; exact k
theorem mv {x : Operand} {v : AV} (hx : ev env x = some v) (k : K ((d, v) :: env) st) : SOp P ⟨some d, .move x, ty, pos, aft, gu⟩ env st K := o_any rfl (by simp [aop, hx]) k
theorem asg {x : Operand} {v : AV} (hx : ev env x = some v) (k : K ((d, v) :: env) st) : SOp P ⟨some d, .assign x, ty, pos, aft, gu⟩ env st K := o_any rfl (by simp [aop, hx]) k
theorem bn {o : BinOp} {t u : TypeId} {x y : Operand} {ti : TI} {a b v : AV} (ht : tiOf P t = some ti) (hx : ev env x = some a) (hy : ev env y = some b) (h : abin ti.k o a b = some v) (k : K ((d, v) :: env) st) :
    SOp P ⟨some d, .binOp o t x y u, ty, pos, aft, gu⟩ env st K := o_any rfl (by simp [aop, ht, hx, hy, h]) k
theorem lss {t u : TypeId} {x y : Operand} {ti : TI} {kk : IntKind} {a b : Int} (ht : tiOf P t = some ti) (hx : ev env x = some (.lit (.int kk a))) (hy : ev env y = some (.lit (.int kk b))) (k : K ((d, .lit (.bool (decide (a < b)))) :: env) st) :
    SOp P ⟨some d, .binOp .lss t x y u, ty, pos, aft, gu⟩ env st K := bn ht hx hy (by simp [abin, shI, cmpI]) k
theorem leq {t u : TypeId} {x y : Operand} {ti : TI} {kk : IntKind} {a b : Int} (ht : tiOf P t = some ti) (hx : ev env x = some (.lit (.int kk a))) (hy : ev env y = some (.lit (.int kk b))) (k : K ((d, .lit (.bool (decide (a ≤ b)))) :: env) st) :
    SOp P ⟨some d, .binOp .leq t x y u, ty, pos, aft, gu⟩ env st K := bn ht hx hy (by simp [abin, shI, cmpI]) k
theorem gtr {t u : TypeId} {x y : Operand} {ti : TI} {kk : IntKind} {a b : Int} (ht : tiOf P t = some ti) (hx : ev env x = some (.lit (.int kk a))) (hy : ev env y = some (.lit (.int kk b))) (k : K ((d, .lit (.bool (decide (b < a)))) :: env) st) :
    SOp P ⟨some d, .binOp .gtr t x y u, ty, pos, aft, gu⟩ env st K := bn ht hx hy (by simp [abin, shI, cmpI]) k
theorem geq {t u : TypeId} {x y : Operand} {ti : TI} {kk : IntKind} {a b : Int} (ht : tiOf P t = some ti) (hx : ev env x = some (.lit (.int kk a))) (hy : ev env y = some (.lit (.int kk b))) (k : K ((d, .lit (.bool (decide (b ≤ a)))) :: env) st) :
    SOp P ⟨some d, .binOp .geq t x y u, ty, pos, aft, gu⟩ env st K := bn ht hx hy (by simp [abin, shI, cmpI]) k
theorem eql {t u : TypeId} {x y : Operand} {ti : TI} {kk : IntKind} {a b : Int} (ht : tiOf P t = some ti) (hx : ev env x = some (.lit (.int kk a))) (hy : ev env y = some (.lit (.int kk b))) (k : K ((d, .lit (.bool (a == b))) :: env) st) :
    SOp P ⟨some d, .binOp .eql t x y u, ty, pos, aft, gu⟩ env st K := bn ht hx hy (by simp [abin, shI, cmpI]) k
theorem neq {t u : TypeId} {x y : Operand} {ti : TI} {kk : IntKind} {a b : Int} (ht : tiOf P t = some ti) (hx : ev env x = some (.lit (.int kk a))) (hy : ev env y = some (.lit (.int kk b))) (k : K ((d, .lit (.bool (!(a == b)))) :: env) st) :
    SOp P ⟨some d, .binOp .neq t x y u, ty, pos, aft, gu⟩ env st K := bn ht hx hy (by simp [abin, shI, cmpI, bne]) k
theorem add {t u : TypeId} {x y : Operand} {ti : TI} {kk : IntKind} {a b : Int} (ht : tiOf P t = some ti) (hx : ev env x = some (.lit (.int kk a))) (hy : ev env y = some (.lit (.int kk b))) (k : K ((d, .lit (.int kk (kk.wrap (a + b)))) :: env) st) :
    SOp P ⟨some d, .binOp .add t x y u, ty, pos, aft, gu⟩ env st K := bn ht hx hy (by simp [abin, shI, cmpI, arI]) k
theorem sub {t u : TypeId} {x y : Operand} {ti : TI} {kk : IntKind} {a b : Int} (ht : tiOf P t = some ti) (hx : ev env x = some (.lit (.int kk a))) (hy : ev env y = some (.lit (.int kk b))) (k : K ((d, .lit (.int kk (kk.wrap (a - b)))) :: env) st) :
    SOp P ⟨some d, .binOp .sub t x y u, ty, pos, aft, gu⟩ env st K := bn ht hx hy (by simp [abin, shI, cmpI, arI]) k
theorem mul {t u : TypeId} {x y : Operand} {ti : TI} {kk : IntKind} {a b : Int} (ht : tiOf P t = some ti) (hx : ev env x = some (.lit (.int kk a))) (hy : ev env y = some (.lit (.int kk b))) (k : K ((d, .lit (.int kk (kk.wrap (a * b)))) :: env) st) :
    SOp P ⟨some d, .binOp .mul t x y u, ty, pos, aft, gu⟩ env st K := bn ht hx hy (by simp [abin, shI, cmpI, arI]) k
theorem arb {o : BinOp} {t u : TypeId} {x y : Operand} {ti : TI} {kk kb : IntKind} {a b r : Int} (ht : tiOf P t = some ti) (hx : ev env x = some (.lit (.int kk a))) (hy : ev env y = some (.lit (.int kb b)))
    (h : (shI kk o a b = some r) ∨ (shI kk o a b = none ∧ kk = kb ∧ cmpI o a b = none ∧ arI kk o a b = some r)) (k : K ((d, .lit (.int kk r)) :: env) st) : SOp P ⟨some d, .binOp o t x y u, ty, pos, aft, gu⟩ env st K :=
  bn ht hx hy (by rcases h with h | ⟨h1, rfl, h2, h3⟩ <;> simp [abin, *]) k
theorem quo {t u : TypeId} {x y : Operand} {ti : TI} {kk : IntKind} {a b r : Int} (ht : tiOf P t = some ti) (hx : ev env x = some (.lit (.int kk a))) (hy : ev env y = some (.lit (.int kk b))) (h : quoP kk a b = some r) (k : K ((d, .lit (.int kk r)) :: env) st) :
    SOp P ⟨some d, .binOp .quo t x y u, ty, pos, aft, gu⟩ env st K := arb ht hx hy (.inr ⟨rfl, rfl, rfl, h⟩) k
theorem rem {t u : TypeId} {x y : Operand} {ti : TI} {kk : IntKind} {a b r : Int} (ht : tiOf P t = some ti) (hx : ev env x = some (.lit (.int kk a))) (hy : ev env y = some (.lit (.int kk b))) (h : remP a b = some r) (k : K ((d, .lit (.int kk r)) :: env) st) :
    SOp P ⟨some d, .binOp .rem t x y u, ty, pos, aft, gu⟩ env st K := arb ht hx hy (.inr ⟨rfl, rfl, rfl, h⟩) k
theorem shl {t u : TypeId} {x y : Operand} {ti : TI} {kk kb : IntKind} {a b r : Int} (ht : tiOf P t = some ti) (hx : ev env x = some (.lit (.int kk a))) (hy : ev env y = some (.lit (.int kb b))) (h : shlP kk a b = some r) (k : K ((d, .lit (.int kk r)) :: env) st) :
    SOp P ⟨some d, .binOp .shl t x y u, ty, pos, aft, gu⟩ env st K := arb ht hx hy (.inl h) k
theorem shr {t u : TypeId} {x y : Operand} {ti : TI} {kk kb : IntKind} {a b r : Int} (ht : tiOf P t = some ti) (hx : ev env x = some (.lit (.int kk a))) (hy : ev env y = some (.lit (.int kb b))) (h : shrP kk a b = some r) (k : K ((d, .lit (.int kk r)) :: env) st) :
    SOp P ⟨some d, .binOp .shr t x y u, ty, pos, aft, gu⟩ env st K := arb ht hx hy (.inl h) k
theorem seq {t u : TypeId} {x y : Operand} {ti : TI} {a b : List UInt8} (ht : tiOf P t = some ti) (hx : ev env x = some (.lit (.string (B a)))) (hy : ev env y = some (.lit (.string (B b)))) (k : K ((d, .lit (.bool (a == b))) :: env) st) :
    SOp P ⟨some d, .binOp .eql t x y u, ty, pos, aft, gu⟩ env st K := bn ht hx hy rfl k
theorem sne {t u : TypeId} {x y : Operand} {ti : TI} {a b : List UInt8} (ht : tiOf P t = some ti) (hx : ev env x = some (.lit (.string (B a)))) (hy : ev env y = some (.lit (.string (B b)))) (k : K ((d, .lit (.bool (!(a == b)))) :: env) st) :
    SOp P ⟨some d, .binOp .neq t x y u, ty, pos, aft, gu⟩ env st K := bn ht hx hy rfl k
theorem scat {t u : TypeId} {x y : Operand} {ti : TI} {a b r : List UInt8} (ht : tiOf P t = some ti) (hx : ev env x = some (.lit (.string (B a)))) (hy : ev env y = some (.lit (.string (B b)))) (h : catP a b = some r) (k : K ((d, .lit (.string (B r))) :: env) st) :
    SOp P ⟨some d, .binOp .add t x y u, ty, pos, aft, gu⟩ env st K := bn ht hx hy (by
      unfold catP at h
      split at h
      · rename_i h1; cases h; simp [abin, strB, h1]
      · cases h) k
theorem beq {t u : TypeId} {x y : Operand} {ti : TI} {a b : Bool} (ht : tiOf P t = some ti) (hk : ti.k = .bool) (hx : ev env x = some (.lit (.bool a))) (hy : ev env y = some (.lit (.bool b))) (k : K ((d, .lit (.bool (a == b))) :: env) st) :
    SOp P ⟨some d, .binOp .eql t x y u, ty, pos, aft, gu⟩ env st K := bn ht hx hy (by rw [hk]; rfl) k
theorem bne {t u : TypeId} {x y : Operand} {ti : TI} {a b : Bool} (ht : tiOf P t = some ti) (hk : ti.k = .bool) (hx : ev env x = some (.lit (.bool a))) (hy : ev env y = some (.lit (.bool b))) (k : K ((d, .lit (.bool (!(a == b)))) :: env) st) :
    SOp P ⟨some d, .binOp .neq t x y u, ty, pos, aft, gu⟩ env st K := bn ht hx hy (by rw [hk]; rfl) k
theorem agn {t u : TypeId} {x y : Operand} {ti : TI} {cs ds : List AV} {l : List (Nat × EK)} {b : Bool} (ht : tiOf P t = some ti) (hs : eqSpec P t = some l) (hx : ev env x = some (.agg cs)) (hy : ev env y = some (.agg ds)) (h : eqParts cs ds l = some b) (k : K ((d, .lit (.bool (!b))) :: env) st) :
    SOp P ⟨some d, .binOp .neq t x y u, ty, pos, aft, gu⟩ env st K := o_any rfl (by simp [aop, ht, hx, hy, abin, aeq, hs, h]) k
theorem eqnn {t u e : TypeId} {x y : Operand} {ti : TI} (ht : tiOf P t = some ti) (hk : ti.k = .slc e) (hx : ev env x = some (.lit (.slice none 0 0))) (hy : ev env y = some (.lit (.slice none 0 0))) (k : K ((d, .lit (.bool true)) :: env) st) :
    SOp P ⟨some d, .binOp .eql t x y u, ty, pos, aft, gu⟩ env st K := o_any rfl (by simp [aop, ht, hx, hy, hk, abin, aeq, anil]) k
theorem eqnm {t u e : TypeId} {x y : Operand} {ti : TI} {l i n : Nat} (ht : tiOf P t = some ti) (hk : ti.k = .slc e) (hx : ev env x = some (.msl l i n)) (hy : ev env y = some (.lit (.slice none 0 0))) (hl : alive st (.mpt l 0 0) = true) (hn : 0 < n) (k : K ((d, .lit (.bool false)) :: env) st) :
    SOp P ⟨some d, .binOp .eql t x y u, ty, pos, aft, gu⟩ env st K := o_any rfl (by
      simp only [alive] at hl
      cases hq : st[l]? with
      | none => rw [hq] at hl; cases hl
      | some b =>
        cases b with
        | none => rw [hq] at hl; cases hl
        | some b => simp [aop, ht, hx, hy, hk, abin, aeq, anil, hq, hn]) k
theorem nt {t : TypeId} {x : Operand} {b : Bool} (hx : ev env x = some (.lit (.bool b))) (k : K ((d, .lit (.bool (!b))) :: env) st) : SOp P ⟨some d, .unOp .not t x, ty, pos, aft, gu⟩ env st K := o_any rfl (by simp [aop, hx, aun]) k
theorem pk {c x y : Operand} {b : Bool} {v : AV} (hc : ev env c = some (.lit (.bool b))) (h : (match b with | true => ev env x | false => ev env y) = some v) (k : K ((d, v) :: env) st) : SOp P ⟨some d, .pick c x y, ty, pos, aft, gu⟩ env st K := o_any rfl (by cases b <;> simp at h <;> simp [aop, hc, h]) k
theorem cvi {s t : TypeId} {x : Operand} {si ti : TI} {kk kd : IntKind} {n : Int} (hs : tiOf P s = some si) (ht : tiOf P t = some ti) (h1 : si.k = .int kk) (h2 : ti.k = .int kd) (hx : ev env x = some (.lit (.int kk n))) (k : K ((d, .lit (.int kd (kd.wrap n))) :: env) st) :
    SOp P ⟨some d, .convert s t x, ty, pos, aft, gu⟩ env st K := o_any rfl (by simp [aop, hs, ht, hx, h1, h2, elemT, aconv]) k
theorem bytesOf_map' : ∀ l : List UInt8, bytesOf (l.map byteRow) = some l
  | [] => rfl
  | b :: l => by
    rw [List.map_cons, bytesOf, bytesOf_map' l]
    have : rowByte (byteRow b) = some b := by
      unfold byteRow rowByte
      have e : UInt8.ofNat ((b.toNat : Int).toNat) = b := by simp
      simp only [e, if_true]
    rw [this]
theorem cvt {s t e : TypeId} {x : Operand} {si ti ei : TI} {v : AV} {l : List UInt8} (hs : tiOf P s = some si) (ht : tiOf P t = some ti) (h1 : si.k = .slc e) (h2 : ti.k = .str) (he : tiOf P e = some ei) (h3 : ei.k = .int .u8) (hx : ev env x = some v)
    (hv : ∀ y, v ≠ .lit (.string y)) (hr : rowsOf st 1 v = some (l.map byteRow)) (k : K ((d, .lit (.string (B l))) :: env) st) : SOp P ⟨some d, .convert s t x, ty, pos, aft, gu⟩ env st K := o_any rfl (by
      simp only [aop, hs, ht, hx, h1, h2, elemT, he, h3]
      cases v with
      | lit y =>
        cases y with
        | string y => exact absurd rfl (hv y)
        | _ => simp [aconv, hr, bytesOf_map']
      | _ => simp [aconv, hr, bytesOf_map']) k
theorem cvl {s e : TypeId} {x : Operand} {si ei : TI} {l i n : Nat} {els : List (List AV)} (hs : tiOf P s = some si) (h1 : si.k = .slc e) (he : tiOf P e = some ei) (h3 : ei.k = .int .u8) (hx : ev env x = some (.msl l i n)) (hn : Nat.blt 0 n = true) (hb : st[l]? = some (some (1, els)))
    (k : K ((d, .msl l i n) :: env) st) : SOp P ⟨some d, .convert s s x, ty, pos, aft, gu⟩ env st K := o_any rfl (by
      have hn' : 0 < n := by rw [Nat.blt_eq] at hn; exact hn
      simp [aop, hs, hx, h1, elemT, he, h3, aconv, acvl, hn', hb]) k
theorem ex {x : Operand} {i : Nat} {vs : List AV} {v : AV} (hx : ev env x = some (.tup vs)) (h : vs[i]? = some v) (k : K ((d, v) :: env) st) : SOp P ⟨some d, .extract x i, ty, pos, aft, gu⟩ env st K := o_any rfl (by simp [aop, hx, h]) k
theorem al {t : TypeId} {ti : TI} (nn : Nat) (ht : tiOf P t = some ti) (hn : st.length = nn) (k : K ((d, .mpt nn 0 0) :: env) (st ++ [some (ti.size, [litCells ti.zero])])) : SOp P ⟨some d, .alloc t, ty, pos, aft, gu⟩ env st K := o_any rfl (by simp [aop, ht, hn]) k
theorem bx {t : TypeId} {x : Operand} {v : AV} {cs : List AV} (nn kk : Nat) (hx : ev env x = some v) (hc : cellsA v = some cs) (hl : cs.length = kk) (hn : st.length = nn) (k : K ((d, .mpt nn 0 0) :: env) (st ++ [some (kk, [cs])])) :
    SOp P ⟨some d, .box t x, ty, pos, aft, gu⟩ env st K := o_any rfl (by simp [aop, hx, hc, hn, hl]) k
theorem ld {t : TypeId} {x : Operand} {ti : TI} {p v : AV} (ht : tiOf P t = some ti) (hx : ev env x = some p) (h : aload st ti p = some v) (k : K ((d, v) :: env) st) : SOp P ⟨some d, .load t x, ty, pos, aft, gu⟩ env st K := o_any rfl (by simp [aop, ht, hx, h]) k
theorem sto {t : TypeId} {x y : Operand} {ti : TI} {p v : AV} {st' : St} (ht : tiOf P t = some ti) (hx : ev env x = some p) (hy : ev env y = some v) (h : astore st ti p v = some st') (k : K env st') : SOp P ⟨none, .store t x y, ty, pos, aft, gu⟩ env st K := o_no (av := .lit undef) rfl (by simp [aop, ht, hx, hy, h]) k
theorem fa {t : TypeId} {x : Operand} {f : Nat} {ti : TI} {p v : AV} (ht : tiOf P t = some ti) (hx : ev env x = some p) (hl : alive st p = true) (h : afield ti p f = some v) (k : K ((d, v) :: env) st) : SOp P ⟨some d, .fieldAddr t x f, ty, pos, aft, gu⟩ env st K := o_any rfl (by simp [aop, ht, hx, hl, h]) k
theorem nc {x : Operand} {p : AV} (hx : ev env x = some p) (hl : alive st p = true) (k : K ((d, p) :: env) st) : SOp P ⟨some d, .nilCheck x, ty, pos, aft, gu⟩ env st K := o_any rfl (by simp [aop, hx, hl]) k
theorem mf {f : FuncId} {a b : Array Operand} {ax bx : List AV} (ha : evList env a.toList = some ax) (hb : evList env b.toList = some bx) (k : K ((d, .fn (.func f) ax bx) :: env) st) : SOp P ⟨some d, .makeFunc (.func f) a b, ty, pos, aft, gu⟩ env st K := o_any rfl (by simp [aop, ha, hb]) k
theorem lnS {x : Operand} {t : TypeId} {ti : TI} {l : List UInt8} (ht : tiOf P t = some ti) (hk : ti.k = .str) (hx : ev env x = some (.lit (.string (B l)))) (k : K ((d, .lit (.int .i64 (l.length : Nat))) :: env) st) :
    SOp P ⟨some d, .call ⟨.builtin .len, #[x], #[t]⟩, ty, pos, aft, gu⟩ env st K := o_any rfl (by simp [aop, abuiltin, alenOp, ht, hk, hx]) k
theorem lnI {α : Type} {x : Operand} {t e : TypeId} {ti : TI} {kk : Nat} {l : List α} {f : α → List AV} (ht : tiOf P t = some ti) (hk : ti.k = .slc e) (hx : ev env x = some (.isl kk (l.map f))) (k : K ((d, .lit (.int .i64 (l.length : Nat))) :: env) st) :
    SOp P ⟨some d, .call ⟨.builtin .len, #[x], #[t]⟩, ty, pos, aft, gu⟩ env st K := o_any rfl (by simp [aop, abuiltin, alenOp, ht, hk, hx]) k
theorem lnM {x : Operand} {t e : TypeId} {ti : TI} {l i n : Nat} (ht : tiOf P t = some ti) (hk : ti.k = .slc e) (hx : ev env x = some (.msl l i n)) (hl : alive st (.mpt l 0 0) = true) (k : K ((d, .lit (.int .i64 (n : Nat))) :: env) st) :
    SOp P ⟨some d, .call ⟨.builtin .len, #[x], #[t]⟩, ty, pos, aft, gu⟩ env st K := o_any rfl (by
      simp only [alive] at hl
      cases hq : st[l]? with
      | none => rw [hq] at hl; cases hl
      | some b =>
        cases b with
        | none => rw [hq] at hl; cases hl
        | some b => simp [aop, abuiltin, alenOp, ht, hk, hx, hq]) k
theorem ixS {t : TypeId} {x y : Operand} {ti : TI} {kk : IntKind} {l : List UInt8} {i : Int} {c : UInt8} (ht : tiOf P t = some ti) (hk : ti.k = .str) (hx : ev env x = some (.lit (.string (B l)))) (hy : ev env y = some (.lit (.int kk i))) (h : idx l i = some c)
    (k : K ((d, .lit (.int .u8 (c.toNat : Int))) :: env) st) : SOp P ⟨some d, .index t x y, ty, pos, aft, gu⟩ env st K := o_any rfl (by
      obtain ⟨h0, _, h1⟩ := idx_some h
      simp [aop, ht, hk, hx, hy, strAt, h0, h1]) k
theorem ixI {α : Type} {t e : TypeId} {x y : Operand} {ti te : TI} {kk : IntKind} {sz : Nat} {l : List α} {f : α → List AV} {i : Int} {c : α} (ht : tiOf P t = some ti) (hk : ti.k = .slc e) (he : tiOf P e = some te) (hs : te.size = sz) (hx : ev env x = some (.isl sz (l.map f)))
    (hy : ev env y = some (.lit (.int kk i))) (h : idx l i = some c) (k : K ((d, .ipt sz (l.map f) i.toNat 0) :: env) st) : SOp P ⟨some d, .indexAddr t x y, ty, pos, aft, gu⟩ env st K := o_any rfl (by
      obtain ⟨h0, h2, h1⟩ := idx_some h
      have h3 : i < (l.length : Int) := by omega
      simp [aop, ht, hk, he, hx, hy, aindex, hs, h0, h3]) k
theorem ixM {α : Type} {t e : TypeId} {x y : Operand} {ti te : TI} {kk : IntKind} {sz b : Nat} {l : List α} {f : α → List AV} {i : Int} {c : α} (ht : tiOf P t = some ti) (hk : ti.k = .slc e) (he : tiOf P e = some te) (hs : te.size = sz) (hx : ev env x = some (.msl b 0 l.length))
    (hb : st[b]? = some (some (sz, l.map f))) (hy : ev env y = some (.lit (.int kk i))) (h : idx l i = some c) (k : K ((d, .mpt b i.toNat 0) :: env) st) : SOp P ⟨some d, .indexAddr t x y, ty, pos, aft, gu⟩ env st K := o_any rfl (by
      obtain ⟨h0, h2, h1⟩ := idx_some h
      have h3 : i < (l.length : Int) := by omega
      simp [aop, ht, hk, he, hx, hy, aindex, hs, h0, h3, hb]) k
theorem ixX {t e : TypeId} {x y : Operand} {ti te : TI} {kk : IntKind} {i : Int} {v p : AV} (ht : tiOf P t = some ti) (hk : ti.k = .slc e) (he : tiOf P e = some te) (hx : ev env x = some v)
    (hy : ev env y = some (.lit (.int kk i))) (h : aindex st te.size v i = some p) (k : K ((d, p) :: env) st) : SOp P ⟨some d, .indexAddr t x y, ty, pos, aft, gu⟩ env st K := o_any rfl (by simp [aop, ht, hk, he, hx, hy, h]) k
def rowLd (ti : TI) (r : List AV) (j : Nat) : Option AV :=
  match ti.k.isAgg with
  | some true => if j + ti.size ≤ r.length then some (.agg ((r.drop j).take ti.size)) else none
  | some false => r[j]?
  | none => none
theorem aload_row {ti : TI} {p : AV} {r : List AV} {j : Nat} (h : rowAt st p = some (r, j)) : aload st ti p = rowLd ti r j := by
  unfold aload rowLd
  rw [h]
  cases ti.k.isAgg with
  | none => rfl
  | some b => cases b <;> rfl
theorem ldI {α : Type} {t : TypeId} {x : Operand} {ti : TI} {sz i j : Nat} {l : List α} {f : α → List AV} {c : α} {v : AV} (ht : tiOf P t = some ti) (hx : ev env x = some (.ipt sz (l.map f) i j)) (h : l[i]? = some c) (hv : rowLd ti (f c) j = some v) (k : K ((d, v) :: env) st) :
    SOp P ⟨some d, .load t x, ty, pos, aft, gu⟩ env st K := ld ht hx ((aload_row (by simp [rowAt, h])).trans hv) k
theorem ldM {α : Type} {t : TypeId} {x : Operand} {ti : TI} {sz b i j : Nat} {l : List α} {f : α → List AV} {c : α} {v : AV} (ht : tiOf P t = some ti) (hx : ev env x = some (.mpt b i j)) (hb : st[b]? = some (some (sz, l.map f))) (h : l[i]? = some c) (hv : rowLd ti (f c) j = some v) (k : K ((d, v) :: env) st) :
    SOp P ⟨some d, .load t x, ty, pos, aft, gu⟩ env st K := ld ht hx ((aload_row (by simp [rowAt, hb, h])).trans hv) k
theorem slS {t : TypeId} {x : Operand} {lo hi : Option Operand} {ti : TI} {l r : List UInt8} {a b : Int} (ht : tiOf P t = some ti) (hk : ti.k = .str) (hx : ev env x = some (.lit (.string (B l)))) (hlo : bndOf env 0 lo = some a.toNat) (hhi : bndOf env l.length hi = some b.toNat)
    (h : cutP l a b = some r) (k : K ((d, .lit (.string (B r))) :: env) st) : SOp P ⟨some d, .slice t x lo hi none, ty, pos, aft, gu⟩ env st K := o_any rfl (by
      unfold cutP at h
      split at h
      · rename_i h1
        cases h
        have e : alen (.lit (.string (B l))) = some l.length := rfl
        simp only [aop, ht, hk, hx, e, hlo, hhi]
        rw [if_pos (by omega)]
      · cases h) k
theorem slI {α : Type} {t e : TypeId} {x : Operand} {lo hi : Option Operand} {ti te : TI} {sz : Nat} {l r : List α} {f : α → List AV} {a b : Int} (ht : tiOf P t = some ti) (hk : ti.k = .slc e) (he : tiOf P e = some te) (hs : te.size = sz) (hx : ev env x = some (.isl sz (l.map f)))
    (hlo : bndOf env 0 lo = some a.toNat) (hhi : bndOf env l.length hi = some b.toNat) (h : cutP l a b = some r) (k : K ((d, .isl sz (r.map f)) :: env) st) : SOp P ⟨some d, .slice t x lo hi none, ty, pos, aft, gu⟩ env st K := o_any rfl (by
      unfold cutP at h
      split at h
      · rename_i h1
        cases h
        have e' : alen (.isl sz (l.map f)) = some l.length := by simp [alen]
        simp only [aop, ht, hk, hx, e', he, hlo, hhi, asub]
        rw [if_pos ⟨hs.symm, by omega, by rw [List.length_map]; omega⟩]
        simp [List.map_drop, List.map_take]
      · cases h) k
theorem pc {c : Call} {g : FuncId} {args : List AV} {res : AV} (h : PureC P g args res) (hc : isCall (.call c) = true) (hg : acall env (.call c) = some (g, args)) (hi : immLB args = true) (k : K ((d, res) :: env) st) : SOp P ⟨some d, .call c, ty, pos, aft, gu⟩ env st K := by
  unfold SOp
  simp only [hc, hg]
  exact scall_pure h (immL_of hi) k
theorem pcs {c : Call} {g : FuncId} {args args' : List AV} {res : AV} (h : PureC P g args' res) (hc : isCall (.call c) = true) (hg : acall env (.call c) = some (g, args)) (hs : SealL st args args') (hp : Plain res) (k : K ((d, res) :: env) st) : SOp P ⟨some d, .call c, ty, pos, aft, gu⟩ env st K := by
  unfold SOp
  simp only [hc, hg]
  exact scall_sealp h hp hs k
theorem sc (L : List Nat) {c : Call} {g : FuncId} {args args0 : List AV} {bs0 bs1 : List SB} {av : AV} (h : SC P g args0 bs0 av bs1) (hc : isCall (.call c) = true) (hg : acall env (.call c) = some (g, args)) (hnd : nodupB L = true) (hlt : allLt st.length L = true)
    (ha : RnLs (fun i => L[i]?) args0 args) (hs : InB (fun i => L[i]?) st L bs0) (k : K ((d, rn (tau L st.length) av) :: env) (unfr L st bs1)) : SOp P ⟨some d, .call c, ty, pos, aft, gu⟩ env st K := by
  unfold SOp
  simp only [hc, hg]
  refine scall_frame h.2 L (by rw [SBs_length]; exact hs.at.1) (nodupB_iff hnd) (allLt_iff hlt) ha.get.1 ha.get.2 ⟨fun i l hl => hs.at.2 i l hl, fun i kk els he => ?_, fun i1 i2 x h1 h2 => ?_⟩ ?_
  · have : i < (SBs bs0).length := (List.getElem?_eq_some_iff.1 he).1
    rw [SBs_length, ← hs.at.1] at this
    exact ⟨L[i], List.getElem?_eq_getElem this⟩
  · obtain ⟨l1, e1⟩ := List.getElem?_eq_some_iff.1 h1
    obtain ⟨l2, e2⟩ := List.getElem?_eq_some_iff.1 h2
    exact (List.getElem_inj (nodupB_iff hnd)).1 (e1.trans e2.symm)
  · rintro a s ⟨rfl, rfl⟩
    rw [← unfr_eq h.1]
    exact k
theorem apM {α : Type} {x y : Operand} {t u' e : TypeId} {ti te tu : TI} {e' : TypeId} {sz b w : Nat} {l z r : List α} {f : α → List AV} {v : AV} (nn : Nat) (ht : tiOf P t = some ti) (hk : ti.k = .slc e) (he : tiOf P e = some te) (hs : te.size = sz) (hw : te.bytes = w) (hz : 0 < sz) (hu : tiOf P u' = some tu) (hku : tu.k = .slc e')
    (hx : ev env x = some (.msl b 0 l.length)) (hb : st[b]? = some (some (sz, l.map f))) (hy : ev env y = some v) (hr : rowsOf st sz v = some (z.map f)) (h1 : ∀ x, (f x).all AV.one = true) (hn : st.length = nn) (h : appP w l z = some r)
    (k : K ((d, .msl nn 0 r.length) :: env) (st.set b none ++ [some (sz, r.map f)])) : SOp P ⟨some d, .call ⟨.builtin .append, #[x, y], #[t, u']⟩, ty, pos, aft, gu⟩ env st K := o_any rfl (by
      obtain ⟨rfl, h2, h3⟩ := appP_some h
      have h4 : allOne (z.map f) = true := by unfold allOne; rw [List.all_map]; simp [h1]
      have hbo : baseOf st sz (.msl b 0 l.length) = some (l.map f, st.set b none) := by simp [baseOf, hb, take_map_full]
      simp only [aop, abuiltin, aappOp, ht, hx, hy, hu, hk, he, hs, hbo, hku, hr]
      rw [if_pos ⟨hz, h4, by simpa [hw] using h2, by simpa using h3⟩]
      simp [hn]) k
theorem apN {α : Type} {x y : Operand} {t u' e : TypeId} {ti te tu : TI} {e' : TypeId} {sz w : Nat} {z r : List α} {f : α → List AV} {v : AV} (nn : Nat) (ht : tiOf P t = some ti) (hk : ti.k = .slc e) (he : tiOf P e = some te) (hs : te.size = sz) (hw : te.bytes = w) (hz : 0 < sz) (hu : tiOf P u' = some tu) (hku : tu.k = .slc e')
    (hx : ev env x = some (.lit (.slice none 0 0))) (hy : ev env y = some v) (hr : rowsOf st sz v = some (z.map f)) (h1 : ∀ x, (f x).all AV.one = true) (hn : st.length = nn) (h : appP w [] z = some r)
    (k : K ((d, .msl nn 0 r.length) :: env) (st ++ [some (sz, r.map f)])) : SOp P ⟨some d, .call ⟨.builtin .append, #[x, y], #[t, u']⟩, ty, pos, aft, gu⟩ env st K := o_any rfl (by
      obtain ⟨hq, h2, h3⟩ := appP_some h
      have hq' : z = r := by simpa using hq.symm
      subst hq'
      have h4 : allOne (z.map f) = true := by unfold allOne; rw [List.all_map]; simp [h1]
      simp only [aop, abuiltin, aappOp, ht, hx, hy, hu, hk, he, hs, baseOf, hku, hr]
      rw [if_pos ⟨hz, h4, by simpa [hw] using h2, by simpa using h3⟩]
      simp [hn]) k
theorem apMS {x y : Operand} {t u' e : TypeId} {ti te tu : TI} {b : Nat} {l z r : List UInt8} (nn : Nat) (ht : tiOf P t = some ti) (hk : ti.k = .slc e) (he : tiOf P e = some te) (hs : te.size = 1) (hw : te.bytes = 1) (hu : tiOf P u' = some tu) (hku : tu.k = .str)
    (hx : ev env x = some (.msl b 0 l.length)) (hb : st[b]? = some (some (1, l.map byteRow))) (hy : ev env y = some (.lit (.string (B z)))) (hn : st.length = nn) (h : appP 1 l z = some r)
    (k : K ((d, .msl nn 0 r.length) :: env) (st.set b none ++ [some (1, r.map byteRow)])) : SOp P ⟨some d, .call ⟨.builtin .append, #[x, y], #[t, u']⟩, ty, pos, aft, gu⟩ env st K := o_any rfl (by
      obtain ⟨rfl, h2, h3⟩ := appP_some h
      have hbo : baseOf st 1 (.msl b 0 l.length) = some (l.map byteRow, st.set b none) := by simp [baseOf, hb, take_map_full]
      simp only [aop, abuiltin, aappOp, ht, hx, hy, hu, hk, he, hs, hbo, hku]
      rw [if_pos ⟨trivial, by simpa [hw] using h2, by simpa using h3⟩]
      simp [hn]) k
theorem roI {α : Type} {sz : Nat} {z : List α} {f : α → List AV} : rowsOf st sz (.isl sz (z.map f)) = some (z.map f) := by simp [rowsOf]
theorem roM {α : Type} {sz b : Nat} {z : List α} {f : α → List AV} (hb : st[b]? = some (some (sz, z.map f))) : rowsOf st sz (.msl b 0 z.length) = some (z.map f) := by simp [rowsOf, hb, take_map_full]
theorem bd {t : TypeId} {ps : Array (Nat × Operand)} {ti : TI} {pl : List (Nat × Nat)} {parts : List (Nat × AV)} {cs : List AV} (ht : tiOf P t = some ti) (hk : ti.k = .agg pl) (hp : evParts env ps.toList = some parts) (h : fillA pl (litCells ti.zero) parts = some cs) (k : K ((d, .agg cs) :: env) st) :
    SOp P ⟨some d, .build t ps, ty, pos, aft, gu⟩ env st K := o_any rfl (by simp [aop, ht, hk, hp, h]) k
theorem bl {t e : TypeId} {len : Nat} {ps : Array (Nat × Operand)} {ti te : TI} {parts : List (Nat × AV)} {rows : List (List AV)} {sz : Nat} (nn : Nat) (ht : tiOf P t = some ti) (hk : ti.k = .slc e) (he : tiOf P e = some te) (hs : te.size = sz) (hz : 0 < sz) (hl : len * sz ≤ 16777216) (hp : evParts env ps.toList = some parts)
    (h : fillR sz (List.replicate len (litCells te.zero)) parts = some rows) (hn : st.length = nn) (k : K ((d, .msl nn 0 len) :: env) (st ++ [some (sz, rows)])) : SOp P ⟨some d, .buildSlice t len ps, ty, pos, aft, gu⟩ env st K := o_any rfl (by
      simp only [aop, ht, hk, he, hp, hs, h]
      rw [if_pos ⟨hz, hl⟩]
      simp [hn]) k
end
theorem ci {st : St} {L : SrcL} {v : AV} (h : immB v = true) : Rs st L v v := .imm (immB_imm h)
theorem ce {st : St} {L : SrcL} {t : Nat} {v : AV} {e0 env : Ev} (h1 : look env t = some v) (h2 : immB v = true) (r : EnvRs st L e0 env) : EnvRs st L ((t, v) :: e0) env := ⟨⟨v, h1, ci h2⟩, r⟩
theorem cv {st : St} {L : SrcL} {t : Nat} {v0 v : AV} {e0 env : Ev} (h1 : look env t = some v) (h2 : Rs st L v0 v) (r : EnvRs st L e0 env) : EnvRs st L ((t, v0) :: e0) env := ⟨⟨v, h1, h2⟩, r⟩
theorem cn {st : St} {L : SrcL} {env : Ev} : EnvRs st L [] env := trivial
theorem rsMap {α : Type} {st : St} {L : SrcL} {l : List α} {f : α → List AV} (h : ∀ x, immLB (f x) = true) : RsRows st L (l.map f) (l.map f) :=
  ⟨rfl, fun i hi _ => ⟨rfl, fun j hj _ => .imm (by
    obtain ⟨y, _, hy⟩ := List.mem_map.1 (List.getElem_mem hi)
    have := (immL_of (h y)).mem
    rw [hy] at this
    exact this _ (List.getElem_mem hj))⟩⟩
def RsLs (st : St) (L : SrcL) : List AV → List AV → Prop
  | [], [] => True
  | x :: l, y :: r => Rs st L x y ∧ RsLs st L l r
  | _, _ => False
theorem RsLs.get {st : St} {L : SrcL} : ∀ {l r : List AV}, RsLs st L l r → l.length = r.length ∧ ∀ i (h : i < l.length) (h' : i < r.length), Rs st L l[i] r[i]
  | [], [], _ => ⟨rfl, fun i h => by cases h⟩
  | [], _ :: _, h => h.elim
  | _ :: _, [], h => h.elim
  | x :: l, y :: r, h => by
    obtain ⟨h1, h2⟩ := RsLs.get h.2
    refine ⟨by simp [h1], fun i hi hi' => ?_⟩
    cases i with
    | zero => exact h.1
    | succ i => exact h2 i (by simpa using hi) (by simpa using hi')
def RsRowsL (st : St) (L : SrcL) : List (List AV) → List (List AV) → Prop
  | [], [] => True
  | x :: l, y :: r => RsLs st L x y ∧ RsRowsL st L l r
  | _, _ => False
theorem rsOne {st : St} {L : SrcL} {r0 r : List AV} (h : RsLs st L r0 r) : RsRows st L [r0] [r] :=
  ⟨rfl, fun i hi _ => by
    have : i = 0 := by simp at hi; exact hi
    subst this
    exact ⟨h.get.1, fun j h1 h2 => h.get.2 j h1 h2⟩⟩
theorem rsRows {st : St} {L : SrcL} : ∀ {l r : List (List AV)}, RsRowsL st L l r → RsRows st L l r
  | [], [], _ => ⟨rfl, fun i h => by cases h⟩
  | [], _ :: _, h => h.elim
  | _ :: _, [], h => h.elim
  | x :: l, y :: r, h => by
    obtain ⟨h1, h2⟩ := rsRows h.2
    refine ⟨by simp [h1], fun i hi hi' => ?_⟩
    cases i with
    | zero => exact ⟨h.1.get.1, fun j a b => h.1.get.2 j a b⟩
    | succ i => exact h2 i (by simpa using hi) (by simpa using hi')
theorem rsAgg {st : St} {L : SrcL} {l r : List AV} (h : RsLs st L l r) : Rs st L (.agg l) (.agg r) := .agg h.get.1 h.get.2
theorem rsFn {st : St} {L : SrcL} {f : Fn} {a a' b b' : List AV} (h : RsLs st L a a') (h' : RsLs st L b b') : Rs st L (.fn f a b) (.fn f a' b') := .fn h.get.1 h.get.2 h'.get.1 h'.get.2
theorem rsTup {st : St} {L : SrcL} {l r : List AV} (h : RsLs st L l r) : Rs st L (.tup l) (.tup r) := .tup h.get.1 h.get.2
theorem rsSeal {α : Type} {st : St} {L : SrcL} {b sz : Nat} {l : List α} {f : α → List AV} (hD : kept L b = false) (hb : st[b]? = some (some (sz, l.map f))) (h : ∀ x, immLB (f x) = true) : Rs st L (.isl sz (l.map f)) (.msl b 0 l.length) :=
  .sl hD hb (by simp) (by simp) (fun r hr x hx => by obtain ⟨y, _, rfl⟩ := List.mem_map.1 hr; exact (immL_of (h y)).mem x hx) (fun q _ _ _ => by simp) (fun q _ _ h2 j _ h4 => by
    have : (l.map f)[0 + q]'(by simpa using h2) = (l.map f)[q] := by simp
    simp only [this]
    exact .imm ((immL_of (h l[q])).mem _ (by simp)))
def RsX (st : St) (L : SrcL) : List (List AV) → List (List AV) → Prop
  | [], [] => True
  | r0 :: l, r :: q => (RsLs st L r0 r ∧ immLB r0 = true) ∧ RsX st L l q
  | _, _ => False
theorem RsX.get {st : St} {L : SrcL} : ∀ {l r : List (List AV)}, RsX st L l r → l.length = r.length ∧ ∀ i (h : i < l.length) (h' : i < r.length), RsLs st L l[i] r[i] ∧ immLB l[i] = true
  | [], [], _ => ⟨rfl, fun i h => by cases h⟩
  | [], _ :: _, h => h.elim
  | _ :: _, [], h => h.elim
  | x :: l, y :: r, h => by
    obtain ⟨h1, h2⟩ := RsX.get h.2
    refine ⟨by simp [h1], fun i hi hi' => ?_⟩
    cases i with
    | zero => exact h.1
    | succ i => exact h2 i (by simpa using hi) (by simpa using hi')
theorem rsSealX {st : St} {L : SrcL} {b sz n : Nat} {els els' : List (List AV)} (hD : kept L b = false) (hb : st[b]? = some (some (sz, els))) (h : RsX st L els' els) (hn : els.length = n := by rfl) : Rs st L (.isl sz els') (.msl b 0 n) := by
  subst hn
  refine .sl hD hb (by simp) h.get.1 (fun r hr x hx => ?_) (fun q _ h1 h2 => ?_) (fun q _ h1 h2 j h3 h4 => ?_)
  · obtain ⟨i, hi, rfl⟩ := List.getElem_of_mem hr
    exact (immL_of (h.get.2 i hi (by rw [← h.get.1]; exact hi)).2).mem x hx
  · have := (h.get.2 q h2 (by omega)).1.get.1
    simp only [Nat.zero_add]; exact this.symm
  · have := (h.get.2 q h2 (by omega)).1.get.2 j h4 (by simpa using h3)
    simpa using this
theorem sbOk {α : Type} {sz : Nat} {l : List α} {f : α → List AV} (h : ∀ x, immLB (f x) = true) : (SB.many sz (l.map f)).ok := fun r hr x hx => by
  obtain ⟨y, _, rfl⟩ := List.mem_map.1 hr
  exact (immL_of (h y)).mem x hx
end Go.Proofs.YthmnlfenkhmmhaaGreat
namespace Go.Proofs.YthmnlfenkhmmhaaGreat
set_option linter.unusedSimpArgs false
set_option linter.unusedVariables false
set_option linter.unusedSectionVars false
def OW (n nb0 : Nat) (K : Ev → St → Prop) (env : Ev) (st : St) : Prop := ∀ A m w a, nb0 ≤ st.length → R A m w st → Env A m st.length w n env a → Onward A m nb0 w n K a w
theorem ow_intro {n nb0 : Nat} {K : Ev → St → Prop} {env : Ev} {st : St} (h : K env st) : OW n nb0 K env st := fun A m w a h0 hR hE => ⟨A, m, env, st, hR, hE, Step.refl0 _ _ _ _ h0, h⟩
theorem sw_lpl {P : Program} {n nb0 : Nat} {env : Ev} {st : St} {id : Nat} {c : Code} {Q : Exit → Ev → St → Prop} {X B R : Type} (E : X → Ev) (S : X → St) (E' : B → Ev) (S' : B → St) (post : R → Ev → St → Prop) {body : X → Option (Sum X (Sum B R))} {z0 : X} {o : Sum B R}
    (ho : loopP body z0 = some o) (hc : Can nb0 (E z0) (S z0) env st) (round : ∀ z r, body z = some r → SW P n nb0 c (LQ id nb0 E S E' S' post r) (E z) (S z))
    (hb : ∀ b, o = .inl b → OW n nb0 (Q .normal) (E' b) (S' b)) (hr : ∀ r, o = .inr r → ∀ env st, post r env st → Q .ret env st) : SW P n nb0 (.block id (.loop c)) Q env st := by
  obtain ⟨N, hN⟩ := loopP_ex ho
  have key : SW P n nb0 (.block id (.loop c)) (fun e env st => match e with | .normal => ∃ b, o = .inl b ∧ Can nb0 (E' b) (S' b) env st | e => Q e env st) env st := by
    refine sw_block (sw_loop (fun k env st => ∃ z, loopN body k z = some o ∧ Can nb0 (E z) (S z) env st) N ⟨z0, hN, hc⟩ ?_)
    rintro k env st ⟨z, hz, hcan⟩
    cases k with
    | zero => cases hz
    | succ k =>
      unfold loopN at hz
      cases hbz : body z with
      | none => rw [hbz] at hz; cases hz
      | some r =>
        rw [hbz] at hz
        refine sw_can hcan ((round z r hbz).mono fun e env st h => ?_)
        cases e with
        | normal =>
          obtain ⟨z', rfl, h2⟩ := h
          exact ⟨k, Nat.lt_succ_self k, z', hz, h2⟩
        | exit i =>
          obtain ⟨rfl, b, rfl, h2⟩ := h
          simp only [thenQ, blockQ, if_true]
          exact ⟨b, (sm hz).symm, h2⟩
        | ret =>
          obtain ⟨r', rfl, h2⟩ := h
          exact hr r' (sm hz).symm env st h2
        | goto l => exact h.elim
        | panic c => exact h.elim
        | outgrown => exact h.elim
  intro A m w a h0 hR hE
  refine wp_mono (key A m w a h0 hR hE) fun e a' w' ho => ?_
  cases e with
  | normal =>
    obtain ⟨A', m', e', s', k1, k2, k3, b, hob, L, h1, h2, h3, h4, h5⟩ := ho
    have hs := RsSt.of h2 h3
    exact (hb b hob _ _ _ _ h5 (k1.rs hs) (k2.rs k1 hs h1)).trans (k3.rs hs h4 h5)
  | exit i => exact ho
  | ret => exact ho
  | goto l => exact ho
  | panic c => exact ho
  | outgrown => exact ho
def xorI (k : IntKind) (n : Int) : Int := k.wrap (BitVec.ofInt k.bits (if k.signed then -1 else k.max) ^^^ BitVec.ofInt k.bits n).toNat
def andI (k : IntKind) (a b : Int) : Int := k.wrap (BitVec.ofInt k.bits a &&& BitVec.ofInt k.bits b).toNat
def orI (k : IntKind) (a b : Int) : Int := k.wrap (BitVec.ofInt k.bits a ||| BitVec.ofInt k.bits b).toNat
section
variable {P : Program} {env : Ev} {st : St} {K : Ev → St → Prop} {d : Nat} {ty : TypeId} {pos : String} {aft : Array Edge} {gu : Option (Nat × Bool)}
theorem xo {t : TypeId} {x : Operand} {kk : IntKind} {a : Int} (hx : ev env x = some (.lit (.int kk a))) (k : K ((d, .lit (.int kk (xorI kk a))) :: env) st) : SOp P ⟨some d, .unOp .xor t x, ty, pos, aft, gu⟩ env st K := o_any rfl (by simp [aop, hx, aun, xorI]) k
theorem band {t u : TypeId} {x y : Operand} {ti : TI} {kk : IntKind} {a b : Int} (ht : tiOf P t = some ti) (hx : ev env x = some (.lit (.int kk a))) (hy : ev env y = some (.lit (.int kk b))) (k : K ((d, .lit (.int kk (andI kk a b))) :: env) st) :
    SOp P ⟨some d, .binOp .and t x y u, ty, pos, aft, gu⟩ env st K := arb ht hx hy (.inr ⟨rfl, rfl, rfl, rfl⟩) k
theorem bor {t u : TypeId} {x y : Operand} {ti : TI} {kk : IntKind} {a b : Int} (ht : tiOf P t = some ti) (hx : ev env x = some (.lit (.int kk a))) (hy : ev env y = some (.lit (.int kk b))) (k : K ((d, .lit (.int kk (orI kk a b))) :: env) st) :
    SOp P ⟨some d, .binOp .or t x y u, ty, pos, aft, gu⟩ env st K := arb ht hx hy (.inr ⟨rfl, rfl, rfl, rfl⟩) k
def tU8 (n : Int) : UInt8 := UInt8.ofNat (n % 256).toNat
theorem tU8_wrap (n : Int) : IntKind.u8.wrap n = ((tU8 n).toNat : Int) := by
  have e : (tU8 n).toNat = (n % 256).toNat % 256 := by unfold tU8; simp
  rw [e]
  have h1 : 0 ≤ n % 256 := Int.emod_nonneg _ (by decide)
  have h2 : n % 256 < 256 := Int.emod_lt_of_pos _ (by decide)
  have : IntKind.u8.wrap n = n % 256 := by simp [IntKind.wrap, IntKind.bits, IntKind.signed]
  omega
theorem cv8 {s t : TypeId} {x : Operand} {si ti : TI} {kk : IntKind} {n : Int} (hs : tiOf P s = some si) (ht : tiOf P t = some ti) (h1 : si.k = .int kk) (h2 : ti.k = .int .u8) (hx : ev env x = some (.lit (.int kk n))) (k : K ((d, .lit (.int .u8 ((tU8 n).toNat : Int))) :: env) st) :
    SOp P ⟨some d, .convert s t x, ty, pos, aft, gu⟩ env st K := by rw [← tU8_wrap] at k; exact cvi hs ht h1 h2 hx k
theorem band8 {t u : TypeId} {x y : Operand} {ti : TI} {a b : UInt8} (ht : tiOf P t = some ti) (hx : ev env x = some (.lit (.int .u8 (a.toNat : Int)))) (hy : ev env y = some (.lit (.int .u8 (b.toNat : Int)))) (k : K ((d, .lit (.int .u8 ((a &&& b).toNat : Int))) :: env) st) :
    SOp P ⟨some d, .binOp .and t x y u, ty, pos, aft, gu⟩ env st K := by
  refine arb ht hx hy (.inr ⟨rfl, rfl, rfl, ?_⟩) k
  simp only [arI]
  rw [tU8_wrap]
  congr 2
  unfold tU8
  have h1 : (BitVec.ofInt IntKind.u8.bits (a.toNat : Int) &&& BitVec.ofInt IntKind.u8.bits (b.toNat : Int)).toNat = (a &&& b).toNat := by
    have ea : BitVec.ofInt 8 (a.toNat : Int) = a.toBitVec := by apply BitVec.eq_of_toNat_eq; simp
    have eb : BitVec.ofInt 8 (b.toNat : Int) = b.toBitVec := by apply BitVec.eq_of_toNat_eq; simp
    show (BitVec.ofInt 8 (a.toNat : Int) &&& BitVec.ofInt 8 (b.toNat : Int)).toNat = _
    rw [ea, eb]; rfl
  rw [h1]
  have h2 := (a &&& b).toNat_lt
  have : (((a &&& b).toNat : Int) % 256).toNat = (a &&& b).toNat := by omega
  rw [this]; simp
theorem bor8 {t u : TypeId} {x y : Operand} {ti : TI} {a b : UInt8} (ht : tiOf P t = some ti) (hx : ev env x = some (.lit (.int .u8 (a.toNat : Int)))) (hy : ev env y = some (.lit (.int .u8 (b.toNat : Int)))) (k : K ((d, .lit (.int .u8 ((a ||| b).toNat : Int))) :: env) st) :
    SOp P ⟨some d, .binOp .or t x y u, ty, pos, aft, gu⟩ env st K := by
  refine arb ht hx hy (.inr ⟨rfl, rfl, rfl, ?_⟩) k
  simp only [arI]
  rw [tU8_wrap]
  congr 2
  unfold tU8
  have h1 : (BitVec.ofInt IntKind.u8.bits (a.toNat : Int) ||| BitVec.ofInt IntKind.u8.bits (b.toNat : Int)).toNat = (a ||| b).toNat := by
    have ea : BitVec.ofInt 8 (a.toNat : Int) = a.toBitVec := by apply BitVec.eq_of_toNat_eq; simp
    have eb : BitVec.ofInt 8 (b.toNat : Int) = b.toBitVec := by apply BitVec.eq_of_toNat_eq; simp
    show (BitVec.ofInt 8 (a.toNat : Int) ||| BitVec.ofInt 8 (b.toNat : Int)).toNat = _
    rw [ea, eb]; rfl
  rw [h1]
  have h2 := (a ||| b).toNat_lt
  have : (((a ||| b).toNat : Int) % 256).toNat = (a ||| b).toNat := by omega
  rw [this]; simp
theorem roX {α : Type} {sz b n : Nat} {z : List α} {f : α → List AV} (hb : st[b]? = some (some (sz, z.map f))) (hn : n = z.length) : rowsOf st sz (.msl b 0 n) = some (z.map f) := by subst hn; exact roM hb
theorem cut_spec {α : Type} {l r : List α} {a b : Int} (h : cutP l a b = some r) : 0 ≤ a ∧ a ≤ b ∧ b ≤ l.length := by
  unfold cutP at h
  split at h
  · assumption
  · cases h
theorem bnd_lo {α : Type} {l r : List α} {a b : Int} {x : Operand} {k : Nat} (hx : ev env x = some (.lit (.int .i64 a))) (h : cutP l a b = some r) : bndOf env k (some x) = some a.toNat := by
  simp [bndOf, hx, natOf, (cut_spec h).1]
theorem bnd_hi {α : Type} {l r : List α} {a b : Int} {x : Operand} {k : Nat} (hx : ev env x = some (.lit (.int .i64 b))) (h : cutP l a b = some r) : bndOf env k (some x) = some b.toNat := by
  have := cut_spec h
  simp [bndOf, hx, natOf, show 0 ≤ b by omega]
end
theorem si {st : St} {v : AV} (h : immB v = true) : Seal st v v := .imm (immB_imm h)
def SealLs (st : St) : List AV → List AV → Prop
  | [], [] => True
  | x :: l, y :: r => Seal st x y ∧ SealLs st l r
  | _, _ => False
theorem SealLs.get {st : St} : ∀ {l r : List AV}, SealLs st l r → l.length = r.length ∧ ∀ i (h : i < l.length) (h' : i < r.length), Seal st l[i] r[i]
  | [], [], _ => ⟨rfl, fun i h => by cases h⟩
  | [], _ :: _, h => h.elim
  | _ :: _, [], h => h.elim
  | x :: l, y :: r, h => by
    obtain ⟨h1, h2⟩ := SealLs.get h.2
    refine ⟨by simp [h1], fun i hi hi' => ?_⟩
    cases i with
    | zero => exact h.1
    | succ i => exact h2 i (by simpa using hi) (by simpa using hi')
theorem sealM {α : Type} {st : St} {b sz : Nat} {l : List α} {f : α → List AV} (hb : st[b]? = some (some (sz, l.map f))) (h : ∀ x, immLB (f x) = true) : Seal st (.msl b 0 l.length) (.isl sz (l.map f)) :=
  .msl hb (by simp) (by simp) (fun q _ _ _ => by simp) (fun q _ _ h2 j _ h4 => by
    have : (l.map f)[0 + q]'(by simpa using h2) = (l.map f)[q] := by simp
    simp only [this]
    refine .imm ?_
    obtain ⟨y, _, hy⟩ := List.mem_map.1 (List.getElem_mem h2)
    have h6 := (immL_of (h y)).mem
    rw [hy] at h6
    exact h6 _ (List.getElem_mem h4))
def SealX (st : St) : List (List AV) → List (List AV) → Prop
  | [], [] => True
  | x :: l, y :: r => SealLs st x y ∧ SealX st l r
  | _, _ => False
theorem SealX.get {st : St} : ∀ {l r : List (List AV)}, SealX st l r → l.length = r.length ∧ ∀ i (h : i < l.length) (h' : i < r.length), SealLs st l[i] r[i]
  | [], [], _ => ⟨rfl, fun i h => by cases h⟩
  | [], _ :: _, h => h.elim
  | _ :: _, [], h => h.elim
  | x :: l, y :: r, h => by
    obtain ⟨h1, h2⟩ := SealX.get h.2
    refine ⟨by simp [h1], fun i hi hi' => ?_⟩
    cases i with
    | zero => exact h.1
    | succ i => exact h2 i (by simpa using hi) (by simpa using hi')
theorem sealX {st : St} {b sz n : Nat} {els els' : List (List AV)} (hb : st[b]? = some (some (sz, els))) (h : SealX st els els') (hn : els.length = n := by rfl) : Seal st (.msl b 0 n) (.isl sz els') := by
  subst hn
  refine .msl hb (by simp) h.get.1.symm (fun q _ h1 h2 => ?_) (fun q _ h1 h2 j h3 h4 => ?_)
  · have := (h.get.2 q (by omega) h2).get.1
    simp only [Nat.zero_add]; exact this
  · have := (h.get.2 q (by omega) h2).get.2 j (by simpa using h3) h4
    simpa using this
theorem sealBox {st : St} {b k j : Nat} {cs cs' : List AV} (hb : st[b]? = some (some (k, [cs]))) (h : SealLs st cs cs') : Seal st (.mpt b 0 j) (.ipt k [cs'] 0 j) := by
  refine .mpt hb rfl (fun q h1 h2 => ?_) (fun q h1 h2 i h3 h4 => ?_)
  · have : q = 0 := by simp at h1; exact h1
    subst this; exact h.get.1
  · have : q = 0 := by simp at h1; exact h1
    subst this; exact h.get.2 i h3 h4
theorem sealAgg {st : St} {cs cs' : List AV} (h : SealLs st cs cs') : Seal st (.agg cs) (.agg cs') := .agg h.get.1 h.get.2
theorem sealFn {st : St} {f : Fn} {a a' b b' : List AV} (h : SealLs st a a') (h' : SealLs st b b') : Seal st (.fn f a b) (.fn f a' b') := .fn h.get.1 h.get.2 h'.get.1 h'.get.2
mutual
def plB : AV → Bool
  | .any => true
  | .lit _ => true
  | .agg cs => plLB cs
  | .tup cs => plLB cs
  | _ => false
def plLB : List AV → Bool
  | [] => true
  | x :: l => plB x && plLB l
end
inductive PlainL : List AV → Prop
  | nil : PlainL []
  | cons {x l} (h : Plain x) (t : PlainL l) : PlainL (x :: l)
theorem PlainL.mem {l : List AV} (h : PlainL l) : ∀ x ∈ l, Plain x := by
  induction h with
  | nil => exact fun x hx => by cases hx
  | cons h _ ih =>
    intro x hx
    rcases List.mem_cons.1 hx with h1 | h1
    · exact h1 ▸ h
    · exact ih x h1
mutual
theorem plB_of : ∀ {x : AV}, plB x = true → Plain x
  | .any, _ => .any
  | .lit v, _ => .lit v
  | .isl _ _, h => by cases h
  | .ipt _ _ _ _, h => by cases h
  | .msl _ _ _, h => by cases h
  | .mpt _ _ _, h => by cases h
  | .fn _ _ _, h => by cases h
  | .agg cs, h => .agg cs (plLB_of h).mem
  | .tup cs, h => .tup cs (plLB_of h).mem
theorem plLB_of : ∀ {l : List AV}, plLB l = true → PlainL l
  | [], _ => .nil
  | x :: l, h => .cons (plB_of (Bool.and_eq_true_iff.1 h).1) (plLB_of (Bool.and_eq_true_iff.1 h).2)
end
theorem plainB {v : AV} (h : plB v = true := by rfl) : Plain v := plB_of h
theorem mkI {α : Type} {l : List α} {f : α → List AV} (h : ∀ x, immLB (f x) = true) : ∀ r ∈ l.map f, ∀ x ∈ r, Imm x := fun r hr x hx => by
  obtain ⟨y, _, rfl⟩ := List.mem_map.1 hr
  exact (immL_of (h y)).mem x hx
inductive Nl : AV → AV → Prop
  | imm {x} (h : Imm x) : Nl x x
  | nil {k} : Nl (.lit (.slice none 0 0)) (.isl k [])
  | agg {cs cs' : List AV} (hl : cs.length = cs'.length) (hr : ∀ i (h : i < cs.length) (h' : i < cs'.length), Nl cs[i] cs'[i]) : Nl (.agg cs) (.agg cs')
theorem Nl.vi {A : Nat → Prop} {w : World} {x y : AV} (h : Nl x y) : ∀ {v m nb}, V A m nb w x v → VI A w y v := by
  induction h with
  | imm h => exact fun hv => h.vi hv
  | nil => intro v m nb hv; rw [hv.lit_inv]; exact .inil _ _ _
  | agg hl hr ih =>
    intro v m nb hv
    obtain ⟨a, rfl, h1, h2⟩ := hv.agg_inv
    exact .agg _ _ (by omega) fun i hi => ih i (by omega) hi (h2 i (by omega))
def NlL : List AV → List AV → Prop
  | [], [] => True
  | x :: l, y :: r => Nl x y ∧ NlL l r
  | _, _ => False
theorem NlL.get : ∀ {l r : List AV}, NlL l r → l.length = r.length ∧ ∀ i (h : i < l.length) (h' : i < r.length), Nl l[i] r[i]
  | [], [], _ => ⟨rfl, fun i h => by cases h⟩
  | [], _ :: _, h => h.elim
  | _ :: _, [], h => h.elim
  | x :: l, y :: r, h => by
    obtain ⟨h1, h2⟩ := NlL.get h.2
    refine ⟨by simp [h1], fun i hi hi' => ?_⟩
    cases i with
    | zero => exact h.1
    | succ i => exact h2 i (by simpa using hi) (by simpa using hi')
theorem nlN {k : Nat} : Nl (.lit (.slice none 0 0)) (.isl k []) := .nil
theorem pcn {P : Program} {env : Ev} {st : St} {K : Ev → St → Prop} {d : Nat} {ty : TypeId} {pos : String} {aft : Array Edge} {gu : Option (Nat × Bool)} {c : Call} {g : FuncId} {args args' : List AV} {res : AV} (h : PureC P g args' res)
    (hc : isCall (.call c) = true) (hg : acall env (.call c) = some (g, args)) (hi : NlL args args') (k : K ((d, res) :: env) st) : SOp P ⟨some d, .call c, ty, pos, aft, gu⟩ env st K := by
  unfold SOp
  simp only [hc, hg]
  refine ⟨h.1, fun A m w vals hR hv => (h.2 A w vals hR.aLow ⟨by rw [← hi.get.1]; exact hv.1, fun i hi' => (hi.get.2 i (by rw [hi.get.1]; exact hi') hi').vi (hv.2 i (by rw [hi.get.1]; exact hi'))⟩).mono fun e w' ⟨v, he, hg, hvi⟩ => ?_⟩
  obtain ⟨h1, h2⟩ := hR.grow (A' := andNew A w w') hg (fun B hB => .inl hB) (fun B hB => hB)
  exact ⟨v, _, m, st, res, he, h1, h2, .imm hvi, k⟩
theorem rnFn {ρ : Nat → Option Nat} {f : Fn} {a a' b b' : List AV} (h : RnLs ρ a a') (h' : RnLs ρ b b') : Rn ρ (.fn f a b) (.fn f a' b') := .fn h.get.1 h.get.2 h'.get.1 h'.get.2
theorem rnAgg {ρ : Nat → Option Nat} {a a' : List AV} (h : RnLs ρ a a') : Rn ρ (.agg a) (.agg a') := .agg h.get.1 h.get.2
theorem rnI {ρ : Nat → Option Nat} {v : AV} (h : immB v = true) : Rn ρ v v := .imm (immB_imm h)
end Go.Proofs.YthmnlfenkhmmhaaGreat
namespace Go.Proofs.YthmnlfenkhmmhaaGreat
set_option linter.unusedSimpArgs false
set_option linter.unusedVariables false
set_option linter.unusedSectionVars false
def waits (all : List Oper) (s i : Nat) : Bool :=
  match all[s]? with
  | some o => o.after.toList.any fun e => Region.binds .any e && Nat.beq e.on i
  | none => false
def pendB (all : List Oper) (i : Nat) : List Nat → Bool
  | [] => true
  | s :: p => (!waits all s i) && pendB all i p
def waitsIn (all : List Oper) (ss p en : List Nat) (i : Nat) : Bool :=
  match all[i]? with
  | some o => o.after.toList.all fun e => !Region.binds .any e || (if memN e.on ss then memN e.on p else memN e.on en)
  | none => false
def closedB (all : List Oper) (ss p en : List Nat) : Bool :=
  (List.range all.length).all fun i => memN i ss || memN i en || !waitsIn all ss p en i
def allIn (p : List Nat) : List Nat → Bool
  | [] => true
  | s :: r => memN s p && allIn p r
def offs (all : List Oper) (i : Nat) : Nat → List Oper → List Tmp
  | _, [] => []
  | k, o :: r => match o.dst with
    | some t => if waits all k i then offs all i (k + 1) r else t :: offs all i (k + 1) r
    | none => offs all i (k + 1) r
def ea (all : List Oper) (e0 : Ev) (i : Nat) : Ev := dropD (offs all i 0 all) e0
theorem offs_mem {all : List Oper} {i : Nat} : ∀ {l : List Oper} {k : Nat} {j : Nat} {t : Tmp}, dstAt l j = some t → waits all (k + j) i = false → t ∈ offs all i k l
  | [], k, j, t, h, _ => by simp [dstAt] at h
  | o :: l, k, 0, t, h, hw => by
    have hd : o.dst = some t := by simpa [dstAt] using h
    unfold offs
    rw [hd]
    simp only [Nat.add_zero] at hw
    simp [hw]
  | o :: l, k, j + 1, t, h, hw => by
    have h1 : t ∈ offs all i (k + 1) l := offs_mem (j := j) (by simpa [dstAt] using h) (by rw [Nat.add_assoc, Nat.add_comm 1]; exact hw)
    unfold offs
    split
    · split
      · exact h1
      · exact List.mem_cons_of_mem _ h1
    · exact h1
theorem ea_look {all : List Oper} {e0 : Ev} {i : Nat} {t : Tmp} {v : AV} (h : look (ea all e0 i) t = some v) : look e0 t = some v ∧ ∀ j, dstAt all j = some t → waits all j i = true := by
  refine ⟨look_dropD.2 v h, fun j hj => ?_⟩
  cases hw : waits all j i with
  | true => rfl
  | false =>
    have := (look_dropD (e := e0) (ds := offs all i 0 all) (t := t)).1 (offs_mem (k := 0) hj (by rw [Nat.zero_add]; exact hw))
    unfold ea at h
    rw [this] at h
    cases h
def PureAt (P : Program) (all : List Oper) (env0 F : Ev) (st : St) (i : Nat) : Prop :=
  match all[i]? with
  | some o => ∃ v, (match o.dst with | some t => look F t = some v | none => True) ∧ OpIs P all (ea all env0 i) st F o v
  | none => False
def PAll (P : Program) (all : List Oper) (env0 F : Ev) (st : St) (p : List Nat) : List Nat → Prop
  | [] => True
  | i :: r => (pendB all i p = true → PureAt P all env0 F st i) ∧ PAll P all env0 F st p r
theorem PAll.at {P all env0 F st p} : ∀ {l : List Nat}, PAll P all env0 F st p l → ∀ i, memN i l = true → pendB all i p = true → PureAt P all env0 F st i
  | [], _, i, h, _ => by cases h
  | x :: l, h, i, hm, hp => by
    simp only [memN, Bool.or_eq_true] at hm
    rcases hm with h1 | h1
    · have := Nat.eq_of_beq_eq_true h1
      subst this
      exact h.1 hp
    · exact PAll.at h.2 i h1 hp
def keysOf : Ev → List Nat
  | [] => []
  | (t, _) :: e => t :: keysOf e
def keysIn (all : List Oper) (l : List Nat) : List Nat → Bool
  | [] => true
  | k :: r => (l.any fun j => match dstAt all j with | some t => Nat.beq t k | none => false) && keysIn all l r
theorem keysIn_spec {all : List Oper} {l : List Nat} : ∀ {ks : List Nat}, keysIn all l ks = true → ∀ k ∈ ks, ∃ j, memN j l = true ∧ dstAt all j = some k
  | [], _, k, h => by cases h
  | x :: r, h, k, hk => by
    simp only [keysIn, Bool.and_eq_true] at h
    rcases List.mem_cons.1 hk with rfl | hk
    · obtain ⟨j, h1, h2⟩ := List.any_eq_true.1 h.1
      refine ⟨j, memN_iff.2 h1, ?_⟩
      split at h2
      · rename_i t ht; rw [ht, Nat.eq_of_beq_eq_true h2]
      · cases h2
    · exact keysIn_spec h.2 k hk
def DT (P : Program) (all : List Oper) (ss : List Nat) (env0 : Ev) (K : Ev → St → Prop) : Nat → List Nat → List Nat → Ev → St → Prop
  | 0, p, en, F, st => PAll P all env0 F st p en ∧ closedB all ss p en = true ∧ allIn p ss = true ∧ K (F ++ dropD (dsts all) env0) st
  | n + 1, p, en, F, st => PAll P all env0 F st p en ∧ closedB all ss p en = true ∧ allIn p ss = false ∧ ∀ s, memN s ss = true → memN s p = false → waitsIn all ss p en s = true →
      match all[s]? with
      | some o => cguard (sel F (ea all env0 s) (depsOf all o.after.toList)) (guardOf all o.guard) = some true ∧ SOp2 P o.op (sel F (ea all env0 s) (depsOf all o.after.toList)) st (fun av st' => ∃ en' new,
          keysOut (keysOf new) F = true ∧ keysIn all ((s :: p) ++ (en' ++ en)) (keysOf new) = true ∧ (match o.dst with | some t => look (new ++ F) t = some av | none => True) ∧ DT P all ss env0 K n (s :: p) (en' ++ en) (new ++ F) st')
      | none => False
theorem keysOf_mem : ∀ {e : Ev} {t : Nat} {v : AV}, look e t = some v → t ∈ keysOf e
  | [], t, v, h => by cases h
  | (k, x) :: e, t, v, h => by
    simp only [look] at h
    split at h
    · rename_i e'; subst e'; simp [keysOf]
    · simp [keysOf, keysOf_mem h]
theorem look_new {new F : Ev} (hk : keysOut (keysOf new) F = true) {t : Nat} {v : AV} (h : look F t = some v) : look (new ++ F) t = some v := by
  have h1 := keysOut_look hk h
  have : ∀ {e : Ev}, t ∉ keysOf e → look (e ++ F) t = some v := fun {e} => by
    induction e with
    | nil => intro _; exact h
    | cons p e ih =>
      obtain ⟨k, x⟩ := p
      intro hn
      simp only [keysOf, List.mem_cons, not_or] at hn
      simp only [List.cons_append, look, if_neg (Ne.symm hn.1)]
      exact ih hn.2
  exact this h1
theorem waits_of {all : List Oper} {s i : Nat} {o : Oper} (ho : all[s]? = some o) (h : waits all s i = true) : ∃ e ∈ o.after.toList, Region.binds .any e = true ∧ e.on = i := by
  unfold waits at h
  rw [ho] at h
  simp only [List.any_eq_true, Bool.and_eq_true] at h
  obtain ⟨e, h1, h2, h3⟩ := h
  exact ⟨e, h1, h2, Nat.eq_of_beq_eq_true h3⟩
theorem allIn_spec {p : List Nat} : ∀ {l : List Nat}, (∀ s, memN s l = true → memN s p = true) → allIn p l = true
  | [], _ => rfl
  | x :: l, h => by
    unfold allIn
    rw [h x (by simp [memN]), allIn_spec fun s hs => h s (by simp [memN, hs])]
    rfl
theorem allIn_get {p : List Nat} : ∀ {l : List Nat}, allIn p l = true → ∀ s, memN s l = true → memN s p = true
  | [], _, s, h => by cases h
  | x :: l, h, s, hs => by
    simp only [allIn, Bool.and_eq_true] at h
    simp only [memN, Bool.or_eq_true] at hs
    rcases hs with h1 | h1
    · rw [← Nat.eq_of_beq_eq_true h1]; exact h.1
    · exact allIn_get h.2 s h1
theorem memN_append {s : Nat} : ∀ {l r : List Nat}, memN s (l ++ r) = true ↔ memN s l = true ∨ memN s r = true
  | l, r => by simp only [memN_iff, List.mem_append]
theorem memN_cons {s x : Nat} {l : List Nat} : memN s (x :: l) = true ↔ s = x ∨ memN s l = true := by simp only [memN_iff, List.mem_cons]
theorem pend_of {all : List Oper} {i : Nat} : ∀ {p : List Nat}, (∀ s, memN s p = true → waits all s i = false) → pendB all i p = true
  | [], _ => rfl
  | s :: p, h => by
    unfold pendB
    rw [h s (by simp [memN]), pend_of fun s hs => h s (by simp [memN, hs])]
    rfl
def JustE (all : List Oper) (F : Ev) (env0 : Ev) (listed : Array Bool) (t : Tmp) (v : AV) : Prop :=
  (look env0 t = some v ∧ ∀ j, dstAt all j = some t → listed.getD j false = false) ∨ ∃ j, listed.getD j false = true ∧ dstAt all j = some t ∧ look F t = some v
theorem wpAny_dt {P : Program} {ops : Array Oper} {ss : List Nat} {env0 : Ev} {K : Ev → St → Prop} {n nb0 : Nat} {Q : Exit → Act → World → Prop} {A0 : Nat → Prop} {m0 : BM} {w0 : World}
    (hok : anyOk n ops.toList = true) (hss : ∀ s, memN s ss = true → s < ops.size)
    (hQ : ∀ a w, Onward A0 m0 nb0 w0 n K a w → Q .normal a w) :
    ∀ (fuel : Nat) (k : Nat) (p en : List Nat) (F : Ev) (st : St) (listed : Array Bool) (A : Nat → Prop) (m : BM) (w : World) (a : Act), DT P ops.toList ss env0 K k p en F st →
      (∀ i, memN i p = true → listed.getD i false = true) → (∀ i, memN i ss = true → listed.getD i false = true → memN i p = true) → (∀ i, listed.getD i false = true → memN i ss = false → memN i en = true) →
      (∀ s i, listed.getD s false = true → waits ops.toList s i = true → listed.getD i false = true) → (∀ t v, look F t = some v → ∃ j, dstAt ops.toList j = some t) →
      (∀ j t, listed.getD j false = true → dstAt ops.toList j = some t → ∃ v, look F t = some v) →
      listed.size = ops.size → listed.toList.countP (· == false) ≤ fuel → R A m w st → Step A0 m0 nb0 w0 A m st.length w →
      a.tmps.size = n → a.defers = [] → (∀ t v, JustE ops.toList F env0 listed t v → t < n ∧ V A m st.length w v (a.tmps.getD t undef)) → wpAny P .any ops Q fuel listed a w := by
  obtain ⟨hok1, huniq⟩ := anyOk_spec hok
  have lt_of : ∀ j t, dstAt ops.toList j = some t → j < ops.size := fun j t hj => by
    unfold dstAt at hj
    cases ho : ops.toList[j]? with
    | none => rw [ho] at hj; cases hj
    | some o => simpa using (List.getElem?_eq_some_iff.1 ho).1
  have allin : ∀ listed : Array Bool, listed.size = ops.size → Region.ready .any ops listed = [] → ∀ j, j < ops.size → listed.getD j false = true := fun listed hsz hr j => by
    induction j using Nat.strongRecOn with
    | _ j ihj =>
      intro hj
      cases hb : listed.getD j false with
      | true => rfl
      | false =>
        exfalso
        have hj' : j < listed.size := by omega
        have hb' : listed.getD j true = false := by simpa [Array.getD, hj'] using hb
        have hoj : ops[j]? = some ops[j] := Array.getElem?_eq_getElem hj
        have : j ∈ Region.ready .any ops listed := mem_ready.2 ⟨hb', _, hoj, fun e he hbe => by
          have hlt := (hok1 j ops[j] (by simp)).2 e (by simpa using he) hbe
          exact ihj e.on hlt (by omega)⟩
        rw [hr] at this
        cases this
  have fin : ∀ (k : Nat) (p en : List Nat) (F : Ev) (st : St) (listed : Array Bool) (A : Nat → Prop) (m : BM) (w : World) (a : Act), DT P ops.toList ss env0 K k p en F st →
      (∀ i, memN i ss = true → listed.getD i false = true → memN i p = true) →
      (∀ t v, look F t = some v → ∃ j, dstAt ops.toList j = some t) → (∀ j, j < ops.size → listed.getD j false = true) → R A m w st → Step A0 m0 nb0 w0 A m st.length w →
      a.tmps.size = n → a.defers = [] → (∀ t v, JustE ops.toList F env0 listed t v → t < n ∧ V A m st.length w v (a.tmps.getD t undef)) → Q .normal a w := fun k p en F st listed A m w a hD hRu hF hall hR hS h1 h2 hI => by
    cases k with
    | zero =>
      refine hQ a w ⟨A, m, _, st, hR, env_of h1 h2 fun t v htv => ?_, hS, hD.2.2.2⟩
      rcases look_app htv with h | h
      · refine hI t v (.inl ⟨look_dropD.2 v h, fun j hj => ?_⟩)
        rw [look_dropD.1 (dsts_mem hj)] at h
        cases h
      · obtain ⟨j, hj⟩ := hF t v h
        exact hI t v (.inr ⟨j, hall j (lt_of j t hj), hj, h⟩)
    | succ k =>
      exfalso
      have h3 := hD.2.2.1
      rw [allIn_spec fun s hs => hRu s hs (hall s (hss s hs))] at h3
      cases h3
  intro fuel
  induction fuel with
  | zero =>
    intro k p en F st listed A m w a hD r0 r1 r2 hW hF hL hsz hc hR hS h1 h2 hI
    have hall : ∀ j, j < ops.size → listed.getD j true = true := fun j hj => by
      have h0 : listed.toList.countP (· == false) = 0 := by omega
      rw [List.countP_eq_zero] at h0
      have hj' : j < listed.size := by omega
      have := h0 listed[j] (by simp)
      have e : listed.getD j true = listed[j] := by simp [Array.getD, hj']
      rw [e]
      simpa using this
    refine ⟨?_, fin k p en F st listed A m w a hD r1 hF (fun j hj => ?_) hR hS h1 h2 hI⟩
    · rw [List.eq_nil_iff_forall_not_mem]
      intro j hj
      obtain ⟨h3, o, ho, _⟩ := mem_ready.1 hj
      rw [hall j (Array.getElem?_eq_some_iff.1 ho).1] at h3
      cases h3
    · have := hall j hj
      have hj' : j < listed.size := by omega
      simpa [Array.getD, hj'] using this
  | succ fuel ih =>
    intro k p en F st listed A m w a hD r0 r1 r2 hW hF hL hsz hc hR hS h1 h2 hI
    refine ⟨fun hr => fin k p en F st listed A m w a hD r1 hF (allin listed hsz hr) hR hS h1 h2 hI, fun i hi => ?_⟩
    obtain ⟨h3, o, ho, hdep⟩ := mem_ready.1 hi
    have hil : i < ops.size := (Array.getElem?_eq_some_iff.1 ho).1
    have hil' : i < listed.size := by omega
    have hoL : ops.toList[i]? = some o := by simpa using ho
    have hdi : dstAt ops.toList i = o.dst := by unfold dstAt; rw [hoL]; rfl
    have hnl : listed.getD i false = false := by simpa [Array.getD, hil'] using h3
    have hE : Env A m st.length w n (sel F (ea ops.toList env0 i) (depsOf ops.toList o.after.toList)) a := env_of h1 h2 fun t u htu => hI t u ((look_sel htu).imp (fun h => by
        obtain ⟨h3, h4⟩ := ea_look h
        refine ⟨h3, fun j hj => ?_⟩
        cases hl : listed.getD j false with
        | false => rfl
        | true => rw [hW j i hl (h4 j hj)] at hnl; cases hnl) fun ⟨he, hF⟩ => by
      obtain ⟨e, he1, hb, hd⟩ := deps_sub he
      exact ⟨e.on, hdep e (by simpa using he1) hb, hd, hF⟩)
    have hcnt : (listed.setIfInBounds i true).toList.countP (· == false) ≤ fuel := by
      have hli : listed[i] = false := by simpa [Array.getD, hil'] using h3
      have e1 : (listed.setIfInBounds i true).toList = listed.toList.set i true := by simp
      have hlt : i < listed.toList.length := by simpa using hil'
      have hpos : 0 < listed.toList.countP (· == false) := List.countP_pos_iff.2 ⟨false, by rw [← hli]; simp, rfl⟩
      rw [e1, List.countP_set hlt]
      have e2 : listed.toList[i] = false := by simpa using hli
      have e3 : (true == false) = false := rfl
      have e4 : (false == false) = true := rfl
      simp only [e2, e3, e4, if_true, Bool.false_eq_true, if_false]
      omega
    have set_ne : ∀ j, j ≠ i → (listed.setIfInBounds i true).getD j false = listed.getD j false := fun j hj => by
      rw [getD_set_ne false (Ne.symm hj)]
    have set_eq : (listed.setIfInBounds i true).getD i false = true := by simp [Array.getD, hil']
    have set_up : ∀ j, listed.getD j false = true → (listed.setIfInBounds i true).getD j false = true := fun j hj => by
      by_cases h : j = i
      · subst h; exact set_eq
      · rw [set_ne j h]; exact hj
    have hdn := (hok1 i o hoL).1
    have old : ∀ (val : Value) (v : AV) (w' : World) (A' : Nat → Prop) (m' : BM) (nb' : Nat) (t : Nat) (u : AV), Step A m st.length w A' m' nb' w' → V A' m' nb' w' v val →
        JustE ops.toList F env0 listed t u → (dstAt ops.toList i ≠ some t) → t < n ∧ V A' m' nb' w' u ((a.put o.dst val).tmps.getD t undef) := fun val v w' A' m' nb' t u hS' hV hj hne => by
      have hE1 : Env A m st.length w n [(t, u)] a := env_of h1 h2 fun t' u' h' => by
        rcases look_append1 h' with ⟨rfl, rfl⟩ | h''
        · exact hI _ _ hj
        · cases h''
      have hE2 := (hE1.step hR hS').aput hdn hV
      refine hE2.val t u ?_
      cases hdd : o.dst with
      | none => simp [aput, look]
      | some d =>
        have : d ≠ t := fun e => hne (by rw [hdi, hdd, e])
        simp [aput, look, this]
    have new_ : ∀ (val : Value) (v : AV) (w' : World) (A' : Nat → Prop) (m' : BM) (nb' : Nat) (t : Nat), Step A m st.length w A' m' nb' w' → V A' m' nb' w' v val → o.dst = some t → t < n ∧ V A' m' nb' w' v ((a.put o.dst val).tmps.getD t undef) := fun val v w' A' m' nb' t hS' hV hd => by
      have hE0 : Env A m st.length w n [] a := env_of h1 h2 fun t' u' (h' : none = some u') => by cases h'
      have hE2 := (hE0.step hR hS').aput hdn hV
      exact hE2.val t v (by rw [hd]; simp [aput, look])
    unfold wpOp
    rw [ho]
    simp only
    cases his : memN i ss with
    | true =>
      have hnp : memN i p = false := by
        cases h : memN i p with
        | false => rfl
        | true => rw [r0 i h] at hnl; cases hnl
      have hwi : waitsIn ops.toList ss p en i = true := by
        unfold waitsIn
        rw [hoL]
        simp only [List.all_eq_true, Bool.or_eq_true, Bool.not_eq_true']
        intro e he
        cases hb : Region.binds .any e with
        | false => exact .inl rfl
        | true =>
          refine .inr ?_
          have hl := hdep e (by simpa using he) hb
          split
          · rename_i hs; exact r1 _ hs hl
          · rename_i hs; exact r2 _ hl (by simpa using hs)
      cases k with
      | zero =>
        exfalso
        have := allIn_get hD.2.2.1 i his
        rw [hnp] at this
        cases this
      | succ k =>
        have hst := hD.2.2.2 i his hnp hwi
        rw [hoL] at hst
        simp only at hst
        obtain ⟨hg, hop⟩ := hst
        rw [guard_sound hE ((cguard_eq _ _ _).trans hg)]
        simp only [if_true]
        refine .inl (op_wp2 hR hE hop fun val w' A' m' st' av k1 k2 k3 ⟨en', new, k4, k5, k6, k7⟩ => ?_)
        have hlk : ∀ t u, look F t = some u → look (new ++ F) t = some u := fun t u h => look_new k4 h
        refine ih k (i :: p) (en' ++ en) (new ++ F) st' _ A' m' w' _ k7 (fun j hj => ?_) (fun j hj hl => ?_) (fun j hl hj => ?_) (fun s j hs hw => ?_) (fun t v ht => ?_) (fun j t hl hj => ?_) (by simpa using hsz) hcnt k1 (hS.trans0 (k2.weak (Nat.le_refl _) |> fun h => h.weak hS.nbLe)) (by cases hdd : o.dst <;> simp [Act.put, h1]) (by cases hdd : o.dst <;> simp [Act.put, h2]) (fun t u hJ => ?_)
        · rcases memN_cons.1 hj with rfl | h
          · exact set_eq
          · exact set_up j (r0 j h)
        · by_cases h : j = i
          · subst h; exact memN_cons.2 (.inl rfl)
          · rw [set_ne j h] at hl; exact memN_cons.2 (.inr (r1 j hj hl))
        · by_cases h : j = i
          · subst h; rw [his] at hj; cases hj
          · rw [set_ne j h] at hl; exact memN_append.2 (.inr (r2 j hl hj))
        · by_cases h : s = i
          · subst h
            obtain ⟨e, he, hb, rfl⟩ := waits_of hoL hw
            exact set_up _ (hdep e (by simpa using he) hb)
          · rw [set_ne s h] at hs; exact set_up _ (hW s j hs hw)
        · rcases look_app (e := F) (G := new) ht with h | h
          · exact hF t v h
          · obtain ⟨j, _, hj⟩ := keysIn_spec k5 t (keysOf_mem h)
            exact ⟨j, hj⟩
        · by_cases h : j = i
          · subst h
            rw [hdi] at hj
            rw [hj] at k6
            exact ⟨av, k6⟩
          · rw [set_ne j h] at hl
            obtain ⟨v, hv⟩ := hL j t hl hj
            exact ⟨v, hlk t v hv⟩
        · rcases hJ with ⟨hJ, hJ2⟩ | ⟨j, hj1, hj2, hj3⟩
          · have hni : dstAt ops.toList i ≠ some t := fun hd => by
              have := hJ2 i hd
              rw [set_eq] at this
              cases this
            refine old val av w' A' m' st'.length t u k2 k3 (.inl ⟨hJ, fun j hj => ?_⟩) hni
            have := hJ2 j hj
            by_cases h : j = i
            · subst h; exact absurd hj hni
            · rwa [set_ne j h] at this
          · by_cases hji : j = i
            · subst hji
              rw [hdi] at hj2
              rw [hj2] at k6
              have hu : u = av := Option.some.inj (hj3.symm.trans k6)
              subst hu
              exact new_ val u w' A' m' st'.length t k2 k3 hj2
            · rw [set_ne j hji] at hj1
              obtain ⟨v, hv⟩ := hL j t hj1 hj2
              have hu : u = v := Option.some.inj (hj3.symm.trans (hlk t v hv))
              subst hu
              exact old val av w' A' m' st'.length t u k2 k3 (.inr ⟨j, hj1, hj2, hv⟩) fun hd => hji (huniq _ _ _ hj2 hd)
    | false =>
      have hcl : closedB ops.toList ss p en = true := by cases k <;> exact hD.2.1
      have hpa : PAll P ops.toList env0 F st p en := by cases k <;> exact hD.1
      have hwi : waitsIn ops.toList ss p en i = true := by
        unfold waitsIn
        rw [hoL]
        simp only [List.all_eq_true, Bool.or_eq_true, Bool.not_eq_true']
        intro e he
        cases hb : Region.binds .any e with
        | false => exact .inl rfl
        | true =>
          refine .inr ?_
          have hl := hdep e (by simpa using he) hb
          split
          · rename_i hs; exact r1 _ hs hl
          · rename_i hs; exact r2 _ hl (by simpa using hs)
      have hen : memN i en = true := by
        have := (List.all_eq_true.1 hcl) i (List.mem_range.2 (by simpa using hil))
        rw [his, hwi] at this
        simpa using this
      have hpe : pendB ops.toList i p = true := pend_of fun s hs => by
        cases hw : waits ops.toList s i with
        | false => rfl
        | true => rw [hW s i (r0 s hs) hw] at hnl; cases hnl
      have hat := hpa.at i hen hpe
      unfold PureAt at hat
      rw [hoL] at hat
      simp only at hat
      obtain ⟨v, hv, hop⟩ := hat
      have next : ∀ (val : Value) (w' : World) (A' : Nat → Prop) (m' : BM), R A' m' w' st → Step A m st.length w A' m' st.length w' → V A' m' st.length w' v val → wpAny P .any ops Q fuel (listed.setIfInBounds i true) (a.put o.dst val) w' := fun val w' A' m' hR' hS' hV => by
        refine ih k p en F st _ A' m' w' _ hD (fun j hj => set_up j (r0 j hj)) (fun j hj hl => ?_) (fun j hl hj => ?_) (fun s j hs hw => ?_) hF (fun j t hl hj => ?_) (by simpa using hsz) hcnt hR' (hS.trans0 (hS'.weak hS.nbLe)) (by cases hdd : o.dst <;> simp [Act.put, h1]) (by cases hdd : o.dst <;> simp [Act.put, h2]) fun t u hJ => ?_
        · by_cases h : j = i
          · subst h; rw [his] at hj; cases hj
          · rw [set_ne j h] at hl; exact r1 j hj hl
        · by_cases h : j = i
          · subst h; exact hen
          · rw [set_ne j h] at hl; exact r2 j hl hj
        · by_cases h : s = i
          · subst h
            obtain ⟨e, he, hb, rfl⟩ := waits_of hoL hw
            exact set_up _ (hdep e (by simpa using he) hb)
          · rw [set_ne s h] at hs; exact set_up _ (hW s j hs hw)
        · by_cases h : j = i
          · subst h
            rw [hdi] at hj
            rw [hj] at hv
            exact ⟨v, hv⟩
          · rw [set_ne j h] at hl; exact hL j t hl hj
        · rcases hJ with ⟨hJ, hJ2⟩ | ⟨j, hj1, hj2, hj3⟩
          · have hni : dstAt ops.toList i ≠ some t := fun hd => by
              have := hJ2 i hd
              rw [set_eq] at this
              cases this
            refine old val v w' A' m' st.length t u hS' hV (.inl ⟨hJ, fun j hj => ?_⟩) hni
            have := hJ2 j hj
            by_cases h : j = i
            · subst h; exact absurd hj hni
            · rwa [set_ne j h] at this
          · by_cases hji : j = i
            · subst hji
              rw [hdi] at hj2
              rw [hj2] at hv
              have hu : u = v := Option.some.inj (hj3.symm.trans hv)
              subst hu
              exact new_ val u w' A' m' st.length t hS' hV hj2
            · rw [set_ne j hji] at hj1
              exact old val v w' A' m' st.length t u hS' hV (.inr ⟨j, hj1, hj2, hj3⟩) fun hd => hji (huniq _ _ _ hj2 hd)
      unfold OpIs at hop
      split at hop
      · rename_i hg
        rw [guard_sound hE ((cguard_eq _ _ _).trans hg)]
        simp only [if_true]
        refine .inl (op_wp2 hR hE hop fun val w' A' m' st' av k1 k2 k3 ⟨k4, k5⟩ => ?_)
        subst k4; subst k5
        exact next val w' A' m' k1 k2 k3
      · rename_i hg
        rw [guard_sound hE ((cguard_eq _ _ _).trans hg)]
        simp only [Bool.false_eq_true, if_false]
        subst hop
        exact next undef w A m hR (Step.refl _ _ _ _) (.imm (.lit _))
      · exact hop.elim
def ltAll (k : Nat) : List Nat → Bool
  | [] => true
  | x :: l => Nat.blt x k && ltAll k l
theorem ltAll_get {k : Nat} : ∀ {l : List Nat}, ltAll k l = true → ∀ s, memN s l = true → s < k
  | [], _, s, h => by cases h
  | x :: l, h, s, hs => by
    simp only [ltAll, Bool.and_eq_true] at h
    simp only [memN, Bool.or_eq_true] at hs
    rcases hs with h1 | h1
    · rw [← Nat.eq_of_beq_eq_true h1]; exact Nat.le_of_ble_eq_true h.1
    · exact ltAll_get h.2 s h1
theorem sw_region_dt {P : Program} {n nb0 : Nat} {Q : Exit → Ev → St → Prop} {env : Ev} {st : St} {id : Nat} {ops : Array Oper} (ss en : List Nat) (F : Ev) (k : Nat) (hm : P.follows .mixedOrders = true) (hok : anyOk n ops.toList = true) (hss : ltAll ops.size ss = true) (hks : keysIn ops.toList en (keysOf F) = true)
    (h : DT P ops.toList ss env (Q .normal) k [] en F st) : SW P n nb0 (.region id ops true) Q env st := by
  intro A m w a h0 hR hE
  have hg : Grow w { w with drawn := w.drawn + 1 } := ⟨Nat.le_refl _, fun _ _ => rfl, rfl, rfl, rfl, fun _ _ v h k => ⟨⟨v, h⟩, k⟩⟩
  obtain ⟨hR1, hS1⟩ := hR.grow' hg
  refine wp_region_any hm ?_
  have hf : ∀ j, (Array.replicate ops.size false).getD j false = false := fun j => by simp [Array.getD]
  refine wpAny_dt (n := n) (nb0 := nb0) (A0 := A) (m0 := m) (w0 := w) (K := Q .normal) (Q := fun e a' w' => Onward A m nb0 w n (Q e) a' w') hok (ltAll_get hss) (fun a w h => h) ops.size k [] en F st _ A m _ a h
    (fun i hi => by cases hi) (fun i _ hl => by rw [hf] at hl; cases hl) (fun i hl _ => by rw [hf] at hl; cases hl) (fun s i hs _ => by rw [hf] at hs; cases hs) (fun t v ht => ?_) (fun j t hl _ => by rw [hf] at hl; cases hl) (by simp) ?_ hR1 (hS1.weak h0) hE.size hE.defers ?_
  · obtain ⟨j, _, hj⟩ := keysIn_spec hks t (keysOf_mem ht)
    exact ⟨j, hj⟩
  · refine Nat.le_trans (List.countP_le_length) ?_
    simp
  · intro t v hJ
    rcases hJ with ⟨hJ, _⟩ | ⟨j, hj, _⟩
    · exact (hE.step hR hS1).val t v hJ
    · rw [hf] at hj; cases hj
theorem rd {P : Program} {n nb0 : Nat} {Q : Exit → Ev → St → Prop} {env : Ev} {st : St} {id : Nat} {ops : Array Oper} {y : Code} (E : Ev) (S : St) (ss en : List Nat) (F : Ev) (k : Nat) (hm : P.follows .mixedOrders = true) (hok : anyOk n ops.toList = true) (hss : ltAll ops.size ss = true) (hks : keysIn ops.toList en (keysOf F) = true)
    (h : DT P ops.toList ss env (fun env st => Can nb0 E S env st) k [] en F st) (hy : SW P n nb0 y Q E S) : SW P n nb0 (.seq (.region id ops true) y) Q env st :=
  sw_seq ((sw_region_dt (Q := fun e env st => match e with | .normal => Can nb0 E S env st | _ => False) ss en F k hm hok hss hks h).mono fun e env st h => by
    cases e with
    | normal => exact sw_can h hy
    | _ => exact h.elim)
theorem rdL {P : Program} {n nb0 : Nat} {Q : Exit → Ev → St → Prop} {env : Ev} {st : St} {id : Nat} {ops : Array Oper} (E : Ev) (S : St) (ss en : List Nat) (F : Ev) (k : Nat) (hm : P.follows .mixedOrders = true) (hok : anyOk n ops.toList = true) (hss : ltAll ops.size ss = true) (hks : keysIn ops.toList en (keysOf F) = true)
    (h : DT P ops.toList ss env (fun env st => Can nb0 E S env st) k [] en F st) (hy : Q .normal E S) : SW P n nb0 (.region id ops true) Q env st := by
  intro A m w a h0 hR hE
  refine wp_mono (sw_region_dt (Q := fun e env st => match e with | .normal => Can nb0 E S env st | _ => False) ss en F k hm hok hss hks h A m w a h0 hR hE) fun e a' w' ho => ?_
  obtain ⟨A', m', e', s', h1, h2, h3, h4⟩ := ho
  cases e with
  | normal =>
    obtain ⟨L, c1, c2, c3, c4, c5⟩ := h4
    have hs := RsSt.of c2 c3
    exact ⟨_, _, E, S, h1.rs hs, h2.rs h1 hs c1, h3.rs hs c4 c5, hy⟩
  | _ => exact h4.elim
section
variable {P : Program} {all : List Oper} {env0 F env : Ev} {st : St} {ss p en : List Nat} {K : Ev → St → Prop}
theorem sop2 {o : Oper} {K : AV → St → Prop} {t : Nat} (hd : o.dst = some t) (h : SOp P o env st fun env' st' => ∃ v, env' = (t, v) :: env ∧ K v st') : SOp2 P o.op env st K := by
  unfold SOp at h
  unfold SOp2
  rw [hd] at h
  have e : ∀ av st', (∃ v, aput (some t) av env = (t, v) :: env ∧ K v st') → K av st' := fun av st' ⟨v, h1, h2⟩ => by
    have : v = av := by simp [aput] at h1; exact h1.symm
    subst this; exact h2
  generalize isCall o.op = c at h ⊢
  cases c with
  | true =>
    simp only at h ⊢
    generalize acall env o.op = x at h ⊢
    cases x with
    | none => exact h.elim
    | some y => exact h.mono e
  | false =>
    simp only at h ⊢
    generalize aop P env st o.op = x at h ⊢
    cases x with
    | none => exact h.elim
    | some y => exact e _ _ h
theorem pa {i t : Nat} {o : Oper} {v : AV} (ho : all[i]? = some o) (hd : o.dst = some t) (hg : o.guard = none) (hv : look F t = some v) (h : SOp P o (sel F (ea all env0 i) (depsOf all o.after.toList)) st fun env' st' => env' = (t, v) :: sel F (ea all env0 i) (depsOf all o.after.toList) ∧ st' = st) : PureAt P all env0 F st i := by
  unfold PureAt
  rw [ho]
  refine ⟨v, by rw [hd]; exact hv, ?_⟩
  unfold OpIs
  rw [hg]
  exact sop2 hd (h' h)
where
  h' {o : Oper} {t : Nat} {v : AV} {env : Ev} (h : SOp P o env st fun env' st' => env' = (t, v) :: env ∧ st' = st) : SOp P o env st fun env' st' => ∃ u, env' = (t, u) :: env ∧ (u = v ∧ st' = st) := by
    unfold SOp at h ⊢
    generalize isCall o.op = c at h ⊢
    cases c with
    | true =>
      simp only at h ⊢
      generalize acall env o.op = x at h ⊢
      cases x with
      | none => exact h.elim
      | some y => exact h.mono fun av st' ⟨h1, h2⟩ => ⟨v, h1, rfl, h2⟩
    | false =>
      simp only at h ⊢
      generalize aop P env st o.op = x at h ⊢
      cases x with
      | none => exact h.elim
      | some y => exact ⟨v, h.1, rfl, h.2⟩
theorem pag {i t : Nat} {o : Oper} {v : AV} {b : Bool} {c : Nat} {want : Bool} (ho : all[i]? = some o) (hd : o.dst = some t) (hg : guardOf all o.guard = some (some c, want)) (hc : look (sel F (ea all env0 i) (depsOf all o.after.toList)) c = some (.lit (.bool b))) (hb : b = want) (hv : look F t = some v)
    (h : SOp P o (sel F (ea all env0 i) (depsOf all o.after.toList)) st fun env' st' => env' = (t, v) :: sel F (ea all env0 i) (depsOf all o.after.toList) ∧ st' = st) : PureAt P all env0 F st i := by
  unfold PureAt
  rw [ho]
  refine ⟨v, by rw [hd]; exact hv, ?_⟩
  unfold OpIs
  rw [hg]
  simp only [cguard, hc, hb, beq_self_eq_true]
  exact sop2 hd (pa.h' h)
theorem pas {i t : Nat} {o : Oper} {b : Bool} {c : Nat} {want : Bool} (ho : all[i]? = some o) (hd : o.dst = some t) (hg : guardOf all o.guard = some (some c, want)) (hc : look (sel F (ea all env0 i) (depsOf all o.after.toList)) c = some (.lit (.bool b))) (hb : b = !want) (hv : look F t = some (.lit undef)) : PureAt P all env0 F st i := by
  unfold PureAt
  rw [ho]
  refine ⟨.lit undef, by rw [hd]; exact hv, ?_⟩
  unfold OpIs
  rw [hg]
  simp only [cguard, hc, hb]
  have : ((!want) == want) = false := by cases want <;> rfl
  rw [this]
  trivial
theorem pau {i t : Nat} {o : Oper} {c : Nat} {want : Bool} (ho : all[i]? = some o) (hd : o.dst = some t) (hg : guardOf all o.guard = some (some c, want)) (hc : look (sel F (ea all env0 i) (depsOf all o.after.toList)) c = some (.lit undef)) (hv : look F t = some (.lit undef)) : PureAt P all env0 F st i := by
  unfold PureAt
  rw [ho]
  refine ⟨.lit undef, by rw [hd]; exact hv, ?_⟩
  unfold OpIs
  rw [hg]
  simp only [cguard, hc, undef]
def SStp (P : Program) (all : List Oper) (ss : List Nat) (env0 : Ev) (K : Ev → St → Prop) (n : Nat) (p en : List Nat) (F : Ev) (st : St) (s : Nat) : Prop :=
  ∃ o, all[s]? = some o ∧ cguard (sel F (ea all env0 s) (depsOf all o.after.toList)) (guardOf all o.guard) = some true ∧ SOp P o (sel F (ea all env0 s) (depsOf all o.after.toList)) st fun env' st' => ∃ av en' new, env' = aput o.dst av (sel F (ea all env0 s) (depsOf all o.after.toList)) ∧
    keysOut (keysOf new) F = true ∧ keysIn all ((s :: p) ++ (en' ++ en)) (keysOf new) = true ∧ (match o.dst with | some t => look (new ++ F) t = some av | none => True) ∧ DT P all ss env0 K n (s :: p) (en' ++ en) (new ++ F) st'
def SStps (P : Program) (all : List Oper) (ss : List Nat) (env0 : Ev) (K : Ev → St → Prop) (n : Nat) (p en : List Nat) (F : Ev) (st : St) : List Nat → Prop
  | [] => True
  | s :: r => (memN s p = false → waitsIn all ss p en s = true → SStp P all ss env0 K n p en F st s) ∧ SStps P all ss env0 K n p en F st r
theorem SStps.at {n : Nat} : ∀ {l : List Nat}, SStps P all ss env0 K n p en F st l → ∀ s, memN s l = true → memN s p = false → waitsIn all ss p en s = true → SStp P all ss env0 K n p en F st s
  | [], _, s, h => by cases h
  | x :: l, h, s, hs => by
    simp only [memN, Bool.or_eq_true] at hs
    rcases hs with h1 | h1
    · rw [← Nat.eq_of_beq_eq_true h1]; exact h.1
    · exact SStps.at h.2 s h1
theorem dtS {n : Nat} (h1 : PAll P all env0 F st p en) (h2 : closedB all ss p en = true) (h3 : allIn p ss = false) (h4 : SStps P all ss env0 K n p en F st ss) : DT P all ss env0 K (n + 1) p en F st := by
  refine ⟨h1, h2, h3, fun s a b c => ?_⟩
  obtain ⟨o, ho, hg, hs⟩ := h4.at s a b c
  rw [ho]
  refine ⟨hg, ?_⟩
  unfold SOp at hs
  unfold SOp2
  generalize isCall o.op = cc at hs ⊢
  have e : ∀ av st', (∃ av0 en' new, aput o.dst av (sel F (ea all env0 s) (depsOf all o.after.toList)) = aput o.dst av0 (sel F (ea all env0 s) (depsOf all o.after.toList)) ∧ keysOut (keysOf new) F = true ∧ keysIn all ((s :: p) ++ (en' ++ en)) (keysOf new) = true ∧
      (match o.dst with | some t => look (new ++ F) t = some av0 | none => True) ∧ DT P all ss env0 K n (s :: p) (en' ++ en) (new ++ F) st') →
      ∃ en' new, keysOut (keysOf new) F = true ∧ keysIn all ((s :: p) ++ (en' ++ en)) (keysOf new) = true ∧ (match o.dst with | some t => look (new ++ F) t = some av | none => True) ∧ DT P all ss env0 K n (s :: p) (en' ++ en) (new ++ F) st' := fun av st' ⟨av0, en', new, k1, k2, k3, k4, k5⟩ => by
    refine ⟨en', new, k2, k3, ?_, k5⟩
    cases hd : o.dst with
    | none => trivial
    | some t =>
      rw [hd] at k1 k4
      have : av = av0 := by simpa [aput] using k1
      rw [this]; exact k4
  cases cc with
  | true =>
    simp only at hs ⊢
    generalize acall (sel F (ea all env0 s) (depsOf all o.after.toList)) o.op = x at hs ⊢
    cases x with
    | none => exact hs.elim
    | some y => exact hs.mono e
  | false =>
    simp only at hs ⊢
    generalize aop P (sel F (ea all env0 s) (depsOf all o.after.toList)) st o.op = x at hs ⊢
    cases x with
    | none => exact hs.elim
    | some y => exact e _ _ hs
theorem dt0 (h1 : PAll P all env0 F st p en) (h2 : closedB all ss p en = true) (h3 : allIn p ss = true) (h4 : K (F ++ dropD (dsts all) env0) st) : DT P all ss env0 K 0 p en F st := ⟨h1, h2, h3, h4⟩
theorem bb (b : Bool) : b = true ∨ b = false := by cases b <;> simp
theorem pkb {c x y : Operand} {ty : TypeId} {pos : String} {aft : Array Edge} {gu : Option (Nat × Bool)} {d : Nat} {b want : Bool} {v : AV} (hc : ev env c = some (.lit (.bool b))) (hb : b = want) (h : cond want (ev env x) (ev env y) = some v) (k : K ((d, v) :: env) st) :
    SOp P ⟨some d, .pick c x y, ty, pos, aft, gu⟩ env st K := by
  subst hb
  refine o_any rfl ?_ k
  cases b <;> simp only [cond] at h <;> simp [aop, hc, h]
end
theorem cg {env : Ev} {c : Nat} {b want : Bool} (hc : look env c = some (.lit (.bool b))) (hb : b = want) : cguard env (some (some c, want)) = some true := by
  simp only [cguard, hc, hb, beq_self_eq_true]
abbrev iA (n : Int) : AV := .lit (.int .i64 n)
abbrev bA (b : Bool) : AV := .lit (.bool b)
abbrev sA (l : List UInt8) : AV := .lit (.string (B l))
def optC {α β : Type} (o : Option α) (a : β) (f : α → β) : β := match o with | none => a | some x => f x
theorem ocN {α β : Type} {a r : β} {f : α → β} (h : optC (none : Option α) a f = r) : a = r := h
theorem ocS {α β : Type} {a r : β} {f : α → β} {x : α} (h : optC (some x) a f = r) : f x = r := h
def optR : Option (List UInt8) → AV
  | none => .lit (.slice none 0 0)
  | some l => .msl 0 0 l.length
def optB : Option (List UInt8) → List SB
  | none => []
  | some l => [.many 1 (l.map byteRow)]
theorem optOk : ∀ r, SBok (optB r)
  | none => trivial
  | some l => ⟨sbOk (sz := 1) (fun _ => rfl), trivial⟩
end Go.Proofs.YthmnlfenkhmmhaaGreat
namespace Go.Proofs.YthmnlfenkhmmhaaGreat
set_option linter.unusedSimpArgs false
set_option linter.unusedVariables false
open Go.ChangeShapes Go.WideShapes Go.ChangeAt Go.RowKit Go.WideMaps Go.WideElems
open Go.ChangeMaps (open_string shut_string)
theorem Grow.below {w w' : World} (h : Grow w w') : Below w.heap.size w w' := ⟨h.os, h.tape, h.output, h.size, h.heap⟩
theorem Tryz.ownNot : ownKnob Tryz.prog.godebug = none := by kernel_rfl
theorem Tryz.laidOut : laidOutB Tryz.prog = true := by kernel_rfl
section
variable {H : Type} {enc : TypeId × Value → H} {P : Program}
theorem args_stay (hl : laidOutB P = true) {W W' : World} (hg : Grow W W') {sp : Nat → Bool} : ∀ {ts : List TypeId} {vs : List Value} {ds : List (DataW H)} {ps : List MemPlace},
    ts.all (fun t => P.readableRec t && decide (t < P.types.size)) = true → DataW.TrodAll enc P W 0 (fun _ => true) true ts vs ds ps → (∀ p ∈ ps, p.block < W.heap.size) → (∀ p ∈ ps, sp p.block = true) → DataW.TrodAll enc P W' 0 sp true ts vs ds ps
  | [], [], [], ps, _, h, _, _ => h
  | t :: ts, v :: vs, d :: ds, ps, ht, h, hlt, hs => by
    obtain ⟨p, q, h1, h2, rfl⟩ := h
    simp only [List.all_cons, Bool.and_eq_true, decide_eq_true_eq] at ht
    exact ⟨p, q, WideElems.Trod_stays hl ht.1.1 ht.1.2 h1 (fun x hx => hg.below.same (hlt x (by simp [hx]))) (fun x hx => hs x (by simp [hx])),
      args_stay hl hg ht.2 h2 (fun x hx => hlt x (by simp [hx])) (fun x hx => hs x (by simp [hx])), rfl⟩
  | [], _ :: _, _, _, _, h, _, _ => h.elim
  | [], [], _ :: _, _, _, h, _, _ => h.elim
  | _ :: _, [], _, _, _, h, _, _ => h.elim
  | _ :: _, _ :: _, [], _, _, h, _, _ => h.elim
theorem post_true {f : Func} {s : ChangeSpec} {apart fresh handsOn again : Bool} {W W' : World} {args : Array Value} {ds gs : List (DataW H)} {before : List MemPlace} {tb : TypeId}
    (hl : laidOutB P = true) (hW : DataW.Whole enc P f.params.toList s.vars apart W args.toList ds gs before) (hg : Grow W W')
    (hts : f.params.toList.all (fun t => P.readableRec t && decide (t < P.types.size)) = true) (hvars : s.vars = []) (hr : f.resultTypes = #[tb]) (hb : P.underlying tb = some .bool)
    (hfn : s.fn H (ds ++ gs) = { results := [.lit (.bool true)], args := ds }) :
    s.post enc P f apart fresh handsOn again W args (.bool true) W' := by
  have hlt := hW.lt
  have hW' := hW
  obtain ⟨p, q, hA, hV, hpq, hz, hn⟩ := hW'
  rw [hvars] at hV
  obtain ⟨rfl, rfl⟩ := trodVars_none hV
  simp only [List.append_nil] at hpq
  subst hpq
  have hargs : ∀ sp : Nat → Bool, (∀ x ∈ before, sp x.block = true) → DataW.TrodAll enc P W' 0 sp true f.params.toList args.toList ds before := fun sp hsp => args_stay hl hg hts hA hlt hsp
  have hres : ∀ (b : Nat) (sp : Nat → Bool) (hd : Bool), DataW.TrodAll enc P W' b sp hd f.resultTypes.toList ((Value.bool true).resultList f.resultTypes.size) [.lit (.bool true)] [] := fun b sp hd => by
    rw [hr]; exact trodAll_mk1 (shut_bool hb true)
  have hvs : ∀ sp : Nat → Bool, DataW.TrodVars enc P W' sp s.vars ([] : List (DataW H)) [] := fun sp => by rw [hvars]; rfl
  refine ⟨ds, [], before, [], before, [], hW, by rw [hfn]; exact hres _ _ _, by rw [hfn]; exact hargs _ (fun x hx => by simpa using hlt x hx), by rw [hfn]; exact hvs _, hg.below.frame _, fun _ => ⟨?_, _, _, ([] ++ before) ++ [], ⟨[] ++ before, [], trodAll_append (hargs _ (fun _ _ => rfl)) (hres _ _ _), hvs _, rfl, ?_, ?_⟩, ?_⟩⟩
  · exact ok_one hr rfl (okWide_bool_mk hb _)
  · intro b off hp
    have hp' : MemPlace.cell b off ∈ before := by simpa using hp
    rw [hg.below.frozen (p := ⟨b, off, none⟩) (hlt _ hp')]
    exact hz b off hp'
  · intro ha
    simpa using hn ha
  · intro x hx _
    simpa using hx
theorem PureC.truly {f : FuncId} {args : List AV} (h : PureC P f args (.lit (.bool true))) {W : World} {vals : Array Value} (hv : VIL (fun B => B < W.heap.size) W args vals) :
    Calls P f vals W fun e w' => e = .returned (.bool true) ∧ Grow W w' :=
  (h.2 _ W vals (fun _ h => h) hv).mono fun e w' ⟨v, he, hg, hvi⟩ => by
    cases hvi
    exact ⟨he, hg⟩
theorem vil_nil {A w} : VIL A w [] #[] := ⟨rfl, fun i h => by simp at h⟩
theorem vil_cons {A w} {c : AV} {v : Value} {cs : List AV} {vs : List Value} (h : VI A w c v) (t : VIL A w cs vs.toArray) : VIL A w (c :: cs) (v :: vs).toArray := by
  obtain ⟨h1, h2⟩ := t
  refine ⟨by simpa using h1, fun i hi => ?_⟩
  cases i with
  | zero => simpa using h
  | succ i =>
    have := h2 i (by simpa using hi)
    simpa [Array.getD] using this
end
end Go.Proofs.YthmnlfenkhmmhaaGreat
namespace Go.Proofs.YthmnlfenkhmmhaaGreat
set_option linter.unusedSimpArgs false
set_option linter.unusedVariables false
open Go.ChangeShapes Go.WideShapes Go.ChangeAt Go.RowKit Go.WideMaps Go.WideElems
def laidFs (P : Program) : Nat → List Field → Option Nat
  | o, [] => some o
  | o, f :: r => if f.offset = o then laidFs P (o + P.cellsOf f.type) r else none
def plainT (P : Program) : Nat → TypeId → Bool
  | 0, _ => false
  | n + 1, t =>
    match P.underlying t with
    | some .bool => true
    | some (.int _) => true
    | some .string => true
    | some (.slice e) => Nat.blt 0 (P.cellsOf e) && plainT P n e
    | some (.struct fs) => (laidFs P 0 fs.toList == some (P.cellsOf t)) && fs.toList.all fun f => plainT P n f.type
    | _ => false
def Good (P : Program) : Nat → TypeId → List AV → Prop
  | 0, _, _ => False
  | n + 1, t, avs =>
    match P.underlying t with
    | some .bool => ∃ b, avs = [.lit (.bool b)]
    | some (.int k) => ∃ m, avs = [.lit (.int k m)] ∧ (Lit.int k m).wf = true
    | some .string => ∃ s : List UInt8, avs = [.lit (.string (B s))] ∧ s.length ≤ 9223372036854775807
    | some (.slice e) => ∃ els, avs = [.isl (P.cellsOf e) els] ∧ els.length ≤ 9223372036854775807 ∧ ∀ r ∈ els, Good P n e r
    | some (.struct fs) => ∃ parts : List (List AV), avs = parts.flatten ∧ parts.length = fs.size ∧ ∀ (i : Nat) f p, fs[i]? = some f → parts[i]? = some p → Good P n f.type p
    | _ => False
section
variable {H : Type} {enc : TypeId × Value → H} {P : Program} {W : World}
abbrev RowVI (W : World) (avs : List AV) (cs : List Value) : Prop := avs.length = cs.length ∧ ∀ (i : Nat) av v, avs[i]? = some av → cs[i]? = some v → VI (fun B => B < W.heap.size) W av v
theorem rowVI_append {a b : List AV} {cs ds : List Value} (h : RowVI W a cs) (k : RowVI W b ds) : RowVI W (a ++ b) (cs ++ ds) := by
  refine ⟨by simp [h.1, k.1], fun i av v h1 h2 => ?_⟩
  by_cases hi : i < a.length
  · rw [List.getElem?_append_left hi] at h1
    rw [List.getElem?_append_left (by rw [← h.1]; exact hi)] at h2
    exact h.2 i av v h1 h2
  · rw [List.getElem?_append_right (by omega)] at h1
    rw [List.getElem?_append_right (by rw [← h.1]; omega), ← h.1] at h2
    exact k.2 _ av v h1 h2
theorem rowVI_one {av : AV} {v : Value} (h : VI (fun B => B < W.heap.size) W av v) : RowVI W [av] [v] :=
  ⟨rfl, fun i a u h1 h2 => by
    cases i with
    | zero => cases h1; cases h2; exact h
    | succ i => simp at h1⟩
theorem cells_get {w : World} {base : Nat} {a : Addr} {n : Nat} {cs : List Value} (h : w.cells? base a n = some cs) : cs.length = n ∧ ∀ j, j < n → w.cell? (a.add j) = cs[j]? := by
  unfold World.cells? at h
  split at h
  · have key : ∀ (l : List Nat) (r : List Value), l.mapM (fun i => w.cell? (a.add i)) = some r → r.length = l.length ∧ ∀ (j : Nat) x, l[j]? = some x → w.cell? (a.add x) = r[j]? := by
      intro l
      induction l with
      | nil => intro r hr; simp at hr; subst hr; exact ⟨rfl, fun j x hx => by simp at hx⟩
      | cons y l ih =>
        intro r hr
        simp only [List.mapM_cons, Option.bind_eq_bind, Option.pure_def] at hr
        cases h1 : w.cell? (a.add y) with
        | none => simp [h1] at hr
        | some b =>
          cases h2 : l.mapM (fun i => w.cell? (a.add i)) with
          | none => simp [h1, h2] at hr
          | some r' =>
            simp [h1, h2] at hr
            subst hr
            obtain ⟨k1, k2⟩ := ih r' h2
            refine ⟨by simp [k1], fun j x hx => ?_⟩
            cases j with
            | zero => simp at hx; subst hx; simpa using h1
            | succ j => simpa using k2 j x (by simpa using hx)
    obtain ⟨h1, h2⟩ := key _ _ h
    refine ⟨by simpa using h1, fun j hj => h2 j j (by simp [hj])⟩
  · cases h
theorem read_row : ∀ (n fuel : Nat) (t : TypeId) (cs : List Value) (x : DataW H × List MemPlace), plainT P n t = true → DataW.trod enc P W 0 (fun _ => true) true fuel t cs = some x → (∀ p ∈ x.2, p.block < W.heap.size) → ∃ avs, Good P n t avs ∧ RowVI W avs cs
  | 0, _, _, _, _, h, _, _ => by cases h
  | n + 1, fuel, t, cs, x, hp, hx, hlt => by
    have hmax : maxLen = 9223372036854775807 := by unfold maxLen; decide
    unfold plainT at hp
    unfold Good
    cases hu : P.underlying t with
    | none => rw [hu] at hp; cases hp
    | some d =>
      rw [hu] at hp
      cases d with
      | bool =>
        obtain ⟨b, rfl, _⟩ := DataW.trod_bool hu hx
        exact ⟨_, ⟨b, rfl⟩, rowVI_one (.lit _)⟩
      | int k =>
        obtain ⟨m, rfl, _, hw⟩ := DataW.trod_int hu hx
        exact ⟨_, ⟨m, rfl, hw⟩, rowVI_one (.lit _)⟩
      | string =>
        obtain ⟨s, rfl, _, hl⟩ := DataW.trod_string hu hx
        exact ⟨_, ⟨s.data.toList, rfl, by rw [← hmax]; exact hl⟩, rowVI_one (.lit _)⟩
      | slice e =>
        simp only [Bool.and_eq_true] at hp
        have hk : 0 < P.cellsOf e := Nat.le_of_ble_eq_true hp.1
        rcases DataW.trod_slice hu hx with ⟨rfl, rfl⟩ | ⟨a, len, cap, elems, rest, n', rfl, rfl, rfl, hb, hl, hm, hlen, hel, hsp, hns⟩
        · exact ⟨_, ⟨[], rfl, by simp, fun r hr => by cases hr⟩, rowVI_one (.inil _ _ _)⟩
        rcases Nat.eq_zero_or_pos len with h0 | h0
        · subst h0
          exact ⟨_, ⟨[], rfl, by simp, fun r hr => by cases hr⟩, rowVI_one (.inil _ _ _)⟩
        have hrow : ∀ i, ∃ r, i < len → Good P n e r ∧ r.length = P.cellsOf e ∧ ∃ cl : List Value, cl.length = P.cellsOf e ∧ (∀ j, j < P.cellsOf e → W.cell? ((a.add (i * P.cellsOf e)).add j) = cl[j]?) ∧ RowVI W r cl := fun i => by
          by_cases hi : i < len
          · have h1 := hel i hi
            have h2 : elems[i]? = some elems[i] := List.getElem?_eq_getElem (by omega)
            rw [h2] at h1
            cases hc : W.cells? 0 (a.add (i * P.cellsOf e)) (P.cellsOf e) with
            | none => rw [hc] at h1; cases h1
            | some cl =>
              rw [hc] at h1
              obtain ⟨k1, k2⟩ := cells_get hc
              obtain ⟨r, g1, g2⟩ := read_row n n' e cl elems[i] hp.2 h1 (fun p hpp => hlt p (by
                simp only [List.mem_append, List.mem_flatMap]
                exact .inr ⟨elems[i], .inl (List.getElem_mem _), hpp⟩))
              exact ⟨r, fun _ => ⟨g1, by rw [g2.1, k1], cl, k1, k2, g2⟩⟩
          · exact ⟨[], fun h => absurd h hi⟩
        obtain ⟨f, hf⟩ := Classical.axiomOfChoice hrow
        have hspot : a.spot = none := by
          obtain ⟨_, _, cl, k1, k2, _⟩ := hf 0 h0
          have h2 := k2 0 hk
          rw [List.getElem?_eq_getElem (by omega)] at h2
          simp only [Nat.zero_mul, Addr.add, if_true] at h2
          cases hs : a.spot with
          | none => rfl
          | some q =>
            rw [World.cell?] at h2
            split at h2
            · rw [hs] at h2; simp at h2
            · cases h2
        obtain ⟨B, o, p⟩ := a
        simp only at hspot
        subst hspot
        have hB : B < W.heap.size := hlt (.cell B (o + 0)) (by
          refine List.mem_append.2 (.inl (List.mem_map.2 ⟨0, List.mem_range.2 ?_, rfl⟩))
          exact Nat.mul_pos (by omega) hk)
        have hadd : ∀ i j, (((⟨B, o, none⟩ : Addr).add (i * P.cellsOf e)).add j) = ⟨B, o + i * P.cellsOf e + j, none⟩ := fun i j => by rw [addr_add, addr_add]
        refine ⟨_, ⟨(List.range len).map f, rfl, by simp; omega, fun r hr => ?_⟩, rowVI_one ?_⟩
        · obtain ⟨i, hi, rfl⟩ := List.mem_map.1 hr
          exact (hf i (List.mem_range.1 hi)).1
        · have hl2 : ((List.range len).map f).length = len := by simp
          have := VI.isl (A := fun B => B < W.heap.size) (w := W) (P.cellsOf e) ((List.range len).map f) B o cap (fun i j => (W.cell? ⟨B, o + i * P.cellsOf e + j, none⟩).getD undef) hB (by rw [hl2]; exact hl)
            (fun i hi => by simp at hi; simpa using (hf i hi).2.1)
            (fun i j hi hj => by
              rw [hl2] at hi
              obtain ⟨_, _, cl, k1, k2, _⟩ := hf i hi
              have := k2 j hj
              rw [hadd, List.getElem?_eq_getElem (by omega)] at this
              rw [this]; rfl)
            (fun i hi j hj => by
              have hi' : i < len := by rw [hl2] at hi; exact hi
              obtain ⟨_, g, cl, k1, k2, g2⟩ := hf i hi'
              have e1 : ((List.range len).map f)[i] = f i := by simp
              have hj' : j < (f i).length := by rw [e1] at hj; exact hj
              have h3 := k2 j (by omega)
              rw [hadd] at h3
              show VI _ W _ ((W.cell? _).getD undef)
              rw [h3, List.getElem?_eq_getElem (by omega)]
              have h4 := g2.2 j (f i)[j] cl[j] (List.getElem?_eq_getElem hj') (List.getElem?_eq_getElem (by omega))
              have e2 : ((List.range len).map f)[i][j] = (f i)[j] := by simp
              rw [e2]
              exact h4)
          rw [hl2] at this
          exact this
      | struct fs =>
        simp only [Bool.and_eq_true, beq_iff_eq, List.all_eq_true] at hp
        obtain ⟨xs, n', rfl, rfl, hcl, hxl, hfs⟩ := DataW.trod_struct hu hx
        have hfs' : ∀ (i : Nat) (f : Field), fs.toList[i]? = some f → DataW.trod enc P W 0 (fun _ => true) true n' f.type ((cs.drop f.offset).take (P.cellsOf f.type)) = xs[i]? := fun i f h => hfs i f (by simpa using h)
        have key : ∀ (l : List Field) (k o e : Nat), fs.toList.drop k = l → laidFs P o l = some e → ∃ parts : List (List AV), parts.length = l.length ∧ (∀ (i : Nat) f p, l[i]? = some f → parts[i]? = some p → Good P n f.type p) ∧ RowVI W parts.flatten ((cs.drop o).take (e - o)) ∧ o ≤ e := by
          intro l
          induction l with
          | nil =>
            intro k o e _ hl
            simp only [laidFs, Option.some.injEq] at hl
            subst hl
            exact ⟨[], rfl, fun i f p h => by simp at h, ⟨by simp, fun i av v h => by simp at h⟩, Nat.le_refl _⟩
          | cons f l ih =>
            intro k o e hd hl
            unfold laidFs at hl
            split at hl
            · rename_i hoff
              have hk : fs.toList[k]? = some f := by
                have : (fs.toList.drop k)[0]? = some f := by rw [hd]; rfl
                simpa using this
              have hd' : fs.toList.drop (k + 1) = l := by
                have := congrArg List.tail hd
                simpa [List.tail_drop] using this
              obtain ⟨parts, p1, p2, p3, p4⟩ := ih (k + 1) _ e hd' hl
              have hr := hfs' k f hk
              have hkl : k < xs.length := by
                have := (List.getElem?_eq_some_iff.1 hk).1
                simp at this; omega
              rw [List.getElem?_eq_getElem hkl, hoff] at hr
              obtain ⟨r, g1, g2⟩ := read_row n n' f.type _ xs[k] (hp.2 f (List.mem_of_getElem? hk)) hr (fun p hpp => hlt p (List.mem_flatMap.2 ⟨xs[k], List.getElem_mem _, hpp⟩))
              refine ⟨r :: parts, by simp [p1], fun i f' p h1 h2 => ?_, ?_, by omega⟩
              · cases i with
                | zero => simp at h1 h2; subst h1 h2; exact g1
                | succ i => exact p2 i f' p (by simpa using h1) (by simpa using h2)
              · have e1 : (cs.drop o).take (e - o) = (cs.drop o).take (P.cellsOf f.type) ++ (cs.drop (o + P.cellsOf f.type)).take (e - (o + P.cellsOf f.type)) := by
                  have : e - o = P.cellsOf f.type + (e - (o + P.cellsOf f.type)) := by omega
                  rw [this, List.take_add, List.drop_drop]
                rw [e1, List.flatten_cons]
                exact rowVI_append g2 p3
            · cases hl
        obtain ⟨parts, p1, p2, p3, _⟩ := key fs.toList 0 0 _ rfl hp.1
        refine ⟨parts.flatten, ⟨parts, rfl, by simpa using p1, fun i f p h1 h2 => p2 i f p (by simpa using h1) h2⟩, ?_⟩
        rwa [List.drop_zero, Nat.sub_zero, List.take_of_length_le (by omega)] at p3
      | _ => cases hp
theorem read_arg {n : Nat} {t : TypeId} {v : Value} {d : DataW H} {ps : List MemPlace} (hp : plainT P n t = true) (h : DataW.Trod enc P W 0 (fun _ => true) true t v d ps) (hlt : ∀ p ∈ ps, p.block < W.heap.size) : ∃ avs, Good P n t avs ∧ RowVI W avs v.cells.toList := by
  obtain ⟨fuel, hf⟩ := h
  exact read_row n fuel t _ _ hp hf hlt
end
section
variable {P : Program} {n : Nat} {t : TypeId} {avs : List AV}
abbrev wI (k : IntKind) (x : Int) : Prop := (Lit.int k x).wf = true
abbrev wS (s : List UInt8) : Prop := s.length ≤ 9223372036854775807
abbrev wT {α : Type} (_ : α) : Prop := True
abbrev wL {α : Type} (w : α → Prop) (l : List α) : Prop := l.length ≤ 9223372036854775807 ∧ ∀ y ∈ l, w y
theorem gdB (hu : P.underlying t = some .bool) (h : Good P (n + 1) t avs) : ∃ x : Bool, avs = rB x ∧ wT x := by
  unfold Good at h; rw [hu] at h; obtain ⟨b, rfl⟩ := h; exact ⟨b, rfl, trivial⟩
theorem gdI {k : IntKind} (hu : P.underlying t = some (.int k)) (h : Good P (n + 1) t avs) : ∃ x : Int, avs = rI k x ∧ wI k x := by
  unfold Good at h; rw [hu] at h; obtain ⟨m, rfl, hw⟩ := h; exact ⟨m, rfl, hw⟩
theorem gdS (hu : P.underlying t = some .string) (h : Good P (n + 1) t avs) : ∃ x : List UInt8, avs = rStr x ∧ wS x := by
  unfold Good at h; rw [hu] at h; obtain ⟨s, rfl, hw⟩ := h; exact ⟨s, rfl, hw⟩
theorem gdL {α : Type} {e : TypeId} {k : Nat} {f : α → List AV} {w : α → Prop} (hu : P.underlying t = some (.slice e)) (hc : P.cellsOf e = k) (he : ∀ {r}, Good P n e r → ∃ x : α, r = f x ∧ w x) (h : Good P (n + 1) t avs) : ∃ x : List α, avs = rL k f x ∧ wL w x := by
  unfold Good at h; rw [hu] at h; obtain ⟨els, rfl, hl, hg⟩ := h
  subst hc
  have key : ∀ els : List (List AV), (∀ r ∈ els, Good P n e r) → ∃ x : List α, els = x.map f ∧ ∀ y ∈ x, w y := by
    intro els
    induction els with
    | nil => intro _; exact ⟨[], rfl, fun y hy => by cases hy⟩
    | cons r els ih =>
      intro h
      obtain ⟨x, rfl, hx⟩ := he (h r (by simp))
      obtain ⟨xs, rfl, hxs⟩ := ih fun r hr => h r (by simp [hr])
      exact ⟨x :: xs, rfl, fun y hy => by
        rcases List.mem_cons.1 hy with rfl | hy
        · exact hx
        · exact hxs y hy⟩
  obtain ⟨x, rfl, hx⟩ := key els hg
  exact ⟨x, rfl, by simpa using hl, hx⟩
theorem gdF {fs : Array Field} (hu : P.underlying t = some (.struct fs)) (h : Good P (n + 1) t avs) : ∃ parts : List (List AV), avs = parts.flatten ∧ parts.length = fs.size ∧ ∀ (i : Nat) f p, fs[i]? = some f → parts[i]? = some p → Good P n f.type p := by
  unfold Good at h; rw [hu] at h; exact h
variable {W : World}
theorem arg_agg {cs : Array Value} (h : RowVI W avs (Value.agg cs).cells.toList) : VI (fun B => B < W.heap.size) W (.agg avs) (.agg cs) := by
  have h1 : (Value.agg cs).cells.toList = cs.toList := rfl
  rw [h1] at h
  refine .agg _ _ (by simpa using h.1.symm) fun i hi => ?_
  have hi' : i < cs.size := by have := h.1; simp at this; omega
  have := h.2 i avs[i] cs[i] (List.getElem?_eq_getElem hi) (by simp [hi'])
  simpa [Array.getD_eq_getD_getElem?, hi'] using this
theorem okWide_struct {r : Reach} {base : Nat} {v : Value} {fs : Array Field} (hu : P.underlying t = some (.struct fs)) (h : Value.okWide P W r base t v) : ∃ cs, v = .agg cs := by
  unfold Value.okWide at h
  rw [hu] at h
  obtain ⟨cs, h1, _⟩ := h
  exact ⟨cs, h1⟩
end
end Go.Proofs.YthmnlfenkhmmhaaGreat
namespace Go.Proofs.YthmnlfenkhmmhaaGreat
noncomputable section
set_option linter.unusedSimpArgs false
set_option linter.unusedVariables false
set_option maxRecDepth 100000
set_option maxHeartbeats 4000000
structure ApiIns where
  Op : Int
  A : Int
  C : List UInt8
  M : List UInt8
def rApiIns (x : ApiIns) : List AV:=[iA x.Op,iA x.A,sA x.C,sA x.M]
def kind_small (v1 : UInt8) : Bool :=
  ((decide (97 ≤ (v1.toNat : Int))) && (decide ((v1.toNat : Int) ≤ 122)))
theorem kind_small_ok (v1 : UInt8) {r : Bool} (h : kind_small v1 = r) : PureC Tryz.prog 237 [.lit (.int .u8 (v1.toNat : Int))] (bA r):=by
 refine pure_fn Tryz.func237 j0 (by kernel_rfl) j0 j0 ?_
 unfold kind_small at h
 refine rg j0<|u<|asg j0<|r_nil ?_
 refine rg j0<|u<|mv j0<|u<|geq ti5 j0 j0<|u<|mv j0<|r_and (j:=2) 2 j0 j0 j0 j0 j0 gpn (fun hb1=>g j0 hb1<|mv j0<|g j0 hb1<|leq ti5 j0 j0<|r_nil (egA [6,7] 2 hb1 j0 j0 j0 j0)) andF<|u<|asg j0<|r_nil ?_
 refine sw_ret ?_
 obtain rfl:=h
 exact ⟨_,j0,[],ci j0,j0,j5,j0,j1⟩
def kind_great (v1 : UInt8) : Bool :=
  ((decide (65 ≤ (v1.toNat : Int))) && (decide ((v1.toNat : Int) ≤ 90)))
theorem kind_great_ok (v1 : UInt8) {r : Bool} (h : kind_great v1 = r) : PureC Tryz.prog 249 [.lit (.int .u8 (v1.toNat : Int))] (bA r):=by
 refine pure_fn Tryz.func249 j0 (by kernel_rfl) j0 j0 ?_
 unfold kind_great at h
 refine rg j0<|u<|asg j0<|r_nil ?_
 refine rg j0<|u<|mv j0<|u<|geq ti5 j0 j0<|u<|mv j0<|r_and (j:=2) 2 j0 j0 j0 j0 j0 gpn (fun hb1=>g j0 hb1<|mv j0<|g j0 hb1<|leq ti5 j0 j0<|r_nil (egA [6,7] 2 hb1 j0 j0 j0 j0)) andF<|u<|asg j0<|r_nil ?_
 refine sw_ret ?_
 obtain rfl:=h
 exact ⟨_,j0,[],ci j0,j0,j5,j0,j1⟩
def kind_digit (v1 : UInt8) : Bool :=
  ((decide (48 ≤ (v1.toNat : Int))) && (decide ((v1.toNat : Int) ≤ 57)))
theorem kind_digit_ok (v1 : UInt8) {r : Bool} (h : kind_digit v1 = r) : PureC Tryz.prog 322 [.lit (.int .u8 (v1.toNat : Int))] (bA r):=by
 refine pure_fn Tryz.func322 j0 (by kernel_rfl) j0 j0 ?_
 unfold kind_digit at h
 refine rg j0<|u<|asg j0<|r_nil ?_
 refine rg j0<|u<|mv j0<|u<|geq ti5 j0 j0<|u<|mv j0<|r_and (j:=2) 2 j0 j0 j0 j0 j0 gpn (fun hb1=>g j0 hb1<|mv j0<|g j0 hb1<|leq ti5 j0 j0<|r_nil (egA [6,7] 2 hb1 j0 j0 j0 j0)) andF<|u<|asg j0<|r_nil ?_
 refine sw_ret ?_
 obtain rfl:=h
 exact ⟨_,j0,[],ci j0,j0,j5,j0,j1⟩
def kind_word_k2 (v1 : List UInt8) : Option (Bool) :=
  some ((!(v1 == [])) && (decide ((List.length v1 : Int) ≤ 8)))
def kind_word_l1 (v1 : List UInt8) (v8 : Int) : Option (Sum (Int) (Sum (Unit) (Bool))) :=
  cond (decide (v8 < (List.length v1 : Int))) ((idx v1 v8).bind fun v9=>(cond (!(kind_small v9)) ((idx v1 v8).bind fun v10=>some (!(kind_great v10))) (some false)).bind fun v11=>(cond v11 ((idx v1 v8).bind fun v12=>some (!(kind_digit v12))) (some false)).bind fun v13=>cond v13 (some (.inr (.inr false))) (some (.inl (IntKind.i64.wrap (v8 + 1))))) (some (.inr (.inl ())))
def kind_word (v1 : List UInt8) : Option (Bool) :=
  (loopP (fun z=>kind_word_l1 v1 z) 0).bind fun o=>leave o (fun b=>kind_word_k2 v1) some
theorem kind_word_ok (v1 : List UInt8) {r : Bool} (h : kind_word v1 = some r) : PureC Tryz.prog 236 [sA v1] (bA r):=by
 refine pure_fn Tryz.func236 j0 (by kernel_rfl) j0 j0 ?_
 unfold kind_word at h
 refine rg j0<|u<|asg j0<|r_nil ?_
 refine sw_seq ?_
 refine rg j0<|u<|mv j0<|u<|lnS ti9 j0 j0<|u<|mv j0<|r_nil ?_
 obtain ⟨o,ho,h⟩:=bs h
 refine sw_lpl (X:=Int) (B:=Unit) (R:=Bool) (fun z=>[(0,sA v1),(5,iA (List.length v1 : Int)),(6,iA z)]) (fun z=>[]) (fun b=>[(0,sA v1)]) (fun b=>[]) (fun r env st=>PostF Tryz.prog Tryz.f236 0 (bA r) [] env st) ho ⟨[],ce j0 j0<|ce j0 j0<|ce j0 j0<|cn,j0,j5,j0,j1⟩ ?_ ?_ ?_
 ·
  rintro v8 r h
  replace h : kind_word_l1 v1 v8 = some r:=h
  unfold kind_word_l1 at h
  refine rg j0<|u<|lss ti3 j0 j0<|r_nil ?_
  refine sw_seq ?_
  refine sw_cond j0 (fun hc10=>?_) (fun hc10=>?_)
  ·
   replace h:=bT hc10 h
   refine sw_skip ?_
   refine sw_seq ?_
   refine sw_block ?_
   refine rg j0<|u<|mv j0<|u<|asg j0<|r_nil ?_
   obtain ⟨v9,q11,h⟩:=bs h
   obtain ⟨v11,q14,h⟩:=bs h
   obtain ⟨v13,q17,h⟩:=bs h
   refine rg j0<|u<|mv j0<|u<|mv j0<|u<|ixS ti9 j0 j0 j0 q11<|u<|pc (kind_small_ok v9 j0) j0 j0 j0<|u<|nt j0<|u<|mv j0<|r_and (x:=v11) (j:=5) 5 j0 j0 j0 j0 j0 gpn (fun hb12=>by replace q14:=bT hb12 q14; obtain ⟨v10,q13,q14⟩:=bs q14; obtain rfl:=sm q14; exact g j0 hb12<|mv j0<|g j0 hb12<|mv j0<|g j0 hb12<|ixS ti9 j0 j0 j0 q13<|g j0 hb12<|pc (kind_great_ok v10 j0) j0 j0 j0<|g j0 hb12<|nt j0<|r_nil (eg [15,16,17,18,19] 5 j0 j0 j0 j0)) (fun hb=>(sm (bF hb q14)).symm)<|u<|mv j0<|r_and (x:=v13) (j:=12) 5 j0 j0 j0 j0 j0 gpn (fun hb15=>by replace q17:=bT hb15 q17; obtain ⟨v12,q16,q17⟩:=bs q17; obtain rfl:=sm q17; exact g j0 hb15<|mv j0<|g j0 hb15<|mv j0<|g j0 hb15<|ixS ti9 j0 j0 j0 q16<|g j0 hb15<|pc (kind_digit_ok v12 j0) j0 j0 j0<|g j0 hb15<|nt j0<|r_nil (eg [22,23,24,25,26] 5 j0 j0 j0 j0)) (fun hb=>(sm (bF hb q17)).symm)<|r_nil ?_
   refine sw_cond j0 (fun hc18=>?_) (fun hc18=>?_)
   ·
    replace h:=bT hc18 h
    refine rg j0<|u<|asg j0<|r_nil ?_
    refine sw_ret ?_
    obtain rfl:=sm h
    exact ⟨_,j0,_,j0,[],ci j0,j0,j5,j0,j1⟩
   ·
    replace h:=bF hc18 h
    refine sw_skip ?_
    refine rl j0<|u<|add ti3 j0 j0<|u<|mv j0<|r_nil ?_
    obtain rfl:=sm h
    exact ⟨_,j0,[],ce j0 j0<|ce j0 j0<|ce j0 j0<|cn,j0,j5,j0,j1⟩
  ·
   replace h:=bF hc10 h
   refine sw_exit ?_
   obtain rfl:=sm h
   exact ⟨j0,_,j0,[],ce j0 j0<|cn,j0,j5,j0,j1⟩
 ·
  rintro ⟨⟩ rfl
  replace h : kind_word_k2 v1 = some r:=h
  unfold kind_word_k2 at h
  refine ow_intro ?_
  refine rg j0<|u<|mv j0<|u<|sne ti9 j0 j0<|u<|mv j0<|r_and (j:=2) 3 j0 j0 j0 j0 j0 gpn (fun hb19=>g j0 hb19<|mv j0<|g j0 hb19<|lnS ti9 j0 j0<|g j0 hb19<|leq ti3 j0 j0<|r_nil (egA [32,33,34] 3 hb19 j0 j0 j0 j0)) andF<|u<|asg j0<|r_nil ?_
  refine sw_ret ?_
  obtain rfl:=sm h
  exact ⟨_,j0,[],ci j0,j0,j5,j0,j1⟩
 ·
  rintro r' rfl env st hp
  obtain rfl:=sm h
  exact hp
def kind_Class (v1 : List UInt8) : Option (Bool) :=
  (kind_word v1).bind fun v2=>(cond (v2 && (decide (1 < (List.length v1 : Int)))) ((idx v1 0).bind fun v3=>some (kind_great v3)) (some false)).bind fun v4=>some v4
theorem kind_Class_ok (v1 : List UInt8) {r : Bool} (h : kind_Class v1 = some r) : PureC Tryz.prog 158 [sA v1] (bA r):=by
 refine pure_fn Tryz.func158 j0 (by kernel_rfl) j0 j0 ?_
 unfold kind_Class at h
 refine rg j0<|u<|asg j0<|r_nil ?_
 obtain ⟨v2,q1,h⟩:=bs h
 obtain ⟨v4,q5,h⟩:=bs h
 refine rg j0<|u<|mv j0<|u<|pc (kind_word_ok v1 q1) j0 j0 j0<|u<|mv j0<|r_and (j:=2) 3 j0 j0 j0 j0 j0 gpn (fun hb2=>g j0 hb2<|mv j0<|g j0 hb2<|lnS ti9 j0 j0<|g j0 hb2<|gtr ti3 j0 j0<|r_nil (egA [6,7,8] 3 hb2 j0 j0 j0 j0)) andF<|u<|mv j0<|r_and (x:=v4) (j:=7) 3 j0 j0 j0 j0 j0 gpn (fun hb3=>by replace q5:=bT hb3 q5; obtain ⟨v3,q4,q5⟩:=bs q5; obtain rfl:=sm q5; exact g j0 hb3<|mv j0<|g j0 hb3<|ixS ti9 j0 j0 j0 q4<|g j0 hb3<|pc (kind_great_ok v3 j0) j0 j0 j0<|r_nil (eg [11,12,13] 3 j0 j0 j0 j0)) (fun hb=>(sm (bF hb q5)).symm)<|u<|asg j0<|r_nil ?_
 refine sw_ret ?_
 obtain rfl:=sm h
 exact ⟨_,j0,[],ci j0,j0,j5,j0,j1⟩
def kind_Name (v1 : List UInt8) : Option (Bool) :=
  (cond (v1 == [36,105,110,105,116]) (some true) ((kind_word v1).bind fun v2=>(cond v2 ((idx v1 0).bind fun v3=>some (kind_small v3)) (some false)).bind fun v4=>some v4)).bind fun v5=>some v5
theorem kind_Name_ok (v1 : List UInt8) {r : Bool} (h : kind_Name v1 = some r) : PureC Tryz.prog 152 [sA v1] (bA r):=by
 refine pure_fn Tryz.func152 j0 (by kernel_rfl) j0 j0 ?_
 unfold kind_Name at h
 refine rg j0<|u<|asg j0<|r_nil ?_
 obtain ⟨v5,q6,h⟩:=bs h
 refine rg j0<|u<|mv j0<|u<|seq ti9 j0 j0<|u<|mv j0<|r_or (x:=v5) (j:=2) 7 j0 j0 j0 j0 j0 gpn (fun hb1=>by replace q6:=bF hb1 q6; obtain ⟨v2,q2,q6⟩:=bs q6; obtain ⟨v4,q5,q6⟩:=bs q6; obtain rfl:=sm q6; exact g j0 hb1<|mv j0<|g j0 hb1<|pc (kind_word_ok v1 q2) j0 j0 j0<|g j0 hb1<|mv j0<|r_and (x:=v4) (j:=5) 3 j0 j0 j0 j0 j0 (gps j0 j0 hb1) (fun hb3=>by replace q5:=bT hb3 q5; obtain ⟨v3,q4,q5⟩:=bs q5; obtain rfl:=sm q5; exact g j0 hb3<|mv j0<|g j0 hb3<|ixS ti9 j0 j0 j0 q4<|g j0 hb3<|pc (kind_small_ok v3 j0) j0 j0 j0<|r_nil (eg [9,10,11] 3 j0 j0 j0 j0)) (fun hb=>(sm (bF hb q5)).symm)<|r_nil (eg [6,7,8,9,10,11,12] 4 j0 j0 j0 j0)) (fun hb=>(sm (bT hb q6)).symm)<|u<|asg j0<|r_nil ?_
 refine sw_ret ?_
 obtain rfl:=sm h
 exact ⟨_,j0,[],ci j0,j0,j5,j0,j1⟩
def internal_stringslite_HasPrefix (v1 : List UInt8) (v2 : List UInt8) : Option (Bool) :=
  (cond (decide ((List.length v2 : Int) ≤ (List.length v1 : Int))) ((cutP v1 0 (List.length v2 : Int)).bind fun v3=>some (v3 == v2)) (some false)).bind fun v4=>some v4
theorem internal_stringslite_HasPrefix_ok (v1 : List UInt8) (v2 : List UInt8) {r : Bool} (h : internal_stringslite_HasPrefix v1 v2 = some r) : PureC Tryz.prog 168 [sA v1,sA v2] (bA r):=by
 refine pure_fn Tryz.func168 j0 (by kernel_rfl) j0 j0 ?_
 unfold internal_stringslite_HasPrefix at h
 refine rg j0<|u<|asg j0<|r_nil ?_
 obtain ⟨v4,q3,h⟩:=bs h
 refine rg j0<|u<|mv j0<|u<|lnS ti9 j0 j0<|u<|mv j0<|u<|lnS ti9 j0 j0<|u<|geq ti3 j0 j0<|u<|mv j0<|r_and (x:=v4) (j:=5) 6 j0 j0 j0 j0 j0 gpn (fun hb1=>by replace q3:=bT hb1 q3; obtain ⟨v3,q2,q3⟩:=bs q3; obtain rfl:=sm q3; exact g j0 hb1<|mv j0<|g j0 hb1<|mv j0<|g j0 hb1<|lnS ti9 j0 j0<|g j0 hb1<|slS (a:=0) (b:=(List.length v2 : Int)) ti9 j0 j0 j0 (bnd_hi j0 q2) q2<|g j0 hb1<|mv j0<|g j0 hb1<|seq ti9 j0 j0<|r_nil (eg [11,12,13,14,15,16] 6 j0 j0 j0 j0)) (fun hb=>(sm (bF hb q3)).symm)<|u<|asg j0<|r_nil ?_
 refine sw_ret ?_
 obtain rfl:=sm h
 exact ⟨_,j0,[],ci j0,j0,j5,j0,j1⟩
def internal_stringslite_TrimPrefix (v1 : List UInt8) (v2 : List UInt8) : Option ((List UInt8)) :=
  (internal_stringslite_HasPrefix v1 v2).bind fun v3=>cond v3 ((cutP v1 (List.length v2 : Int) (List.length v1 : Int)).bind fun v4=>some v4) (some v1)
theorem internal_stringslite_TrimPrefix_ok (v1 : List UInt8) (v2 : List UInt8) {r : (List UInt8)} (h : internal_stringslite_TrimPrefix v1 v2 = some r) : PureC Tryz.prog 323 [sA v1,sA v2] (sA r):=by
 refine pure_fn Tryz.func323 j0 (by kernel_rfl) j0 j0 ?_
 unfold internal_stringslite_TrimPrefix at h
 refine rg j0<|u<|asg j0<|r_nil ?_
 refine sw_seq ?_
 obtain ⟨v3,q1,h⟩:=bs h
 refine rg j0<|u<|mv j0<|u<|mv j0<|u<|pc (internal_stringslite_HasPrefix_ok v1 v2 q1) j0 j0 j0<|r_nil ?_
 refine sw_cond j0 (fun hc2=>?_) (fun hc2=>?_)
 ·
  replace h:=bT hc2 h
  obtain ⟨v4,q3,h⟩:=bs h
  refine rg j0<|u<|mv j0<|u<|mv j0<|u<|lnS ti9 j0 j0<|u<|slS (a:=(List.length v2 : Int)) (b:=(List.length v1 : Int)) ti9 j0 j0 (bnd_lo j0 q3) j0 q3<|u<|asg j0<|r_nil ?_
  refine sw_ret ?_
  obtain rfl:=sm h
  exact ⟨_,j0,[],ci j0,j0,j5,j0,j1⟩
 ·
  replace h:=bF hc2 h
  refine sw_skip ?_
  refine rg j0<|u<|mv j0<|u<|asg j0<|r_nil ?_
  refine sw_ret ?_
  obtain rfl:=sm h
  exact ⟨_,j0,[],ci j0,j0,j5,j0,j1⟩
def strings_TrimPrefix (v1 : List UInt8) (v2 : List UInt8) : Option ((List UInt8)) :=
  (internal_stringslite_TrimPrefix v1 v2).bind fun v3=>some v3
theorem strings_TrimPrefix_ok (v1 : List UInt8) (v2 : List UInt8) {r : (List UInt8)} (h : strings_TrimPrefix v1 v2 = some r) : PureC Tryz.prog 238 [sA v1,sA v2] (sA r):=by
 refine pure_fn Tryz.func238 j0 (by kernel_rfl) j0 j0 ?_
 unfold strings_TrimPrefix at h
 refine rg j0<|u<|asg j0<|r_nil ?_
 obtain ⟨v3,q1,h⟩:=bs h
 refine rg j0<|u<|mv j0<|u<|mv j0<|u<|pc (internal_stringslite_TrimPrefix_ok v1 v2 q1) j0 j0 j0<|u<|asg j0<|r_nil ?_
 refine sw_ret ?_
 obtain rfl:=sm h
 exact ⟨_,j0,[],ci j0,j0,j5,j0,j1⟩
def kind_May (v1 : List UInt8) : Option (Bool) :=
  (strings_TrimPrefix v1 [91]).bind fun v2=>(strings_TrimPrefix v2 [91]).bind fun v3=>(cond (v3 == [73]) (some true) ((kind_Class v3).bind fun v4=>some v4)).bind fun v5=>some v5
theorem kind_May_ok (v1 : List UInt8) {r : Bool} (h : kind_May v1 = some r) : PureC Tryz.prog 153 [sA v1] (bA r):=by
 refine pure_fn Tryz.func153 j0 (by kernel_rfl) j0 j0 ?_
 unfold kind_May at h
 refine rg j0<|u<|asg j0<|r_nil ?_
 obtain ⟨v2,q1,h⟩:=bs h
 obtain ⟨v3,q2,h⟩:=bs h
 refine rg j0<|u<|mv j0<|u<|pc (strings_TrimPrefix_ok v1 [91] q1) j0 j0 j0<|u<|pc (strings_TrimPrefix_ok v2 [91] q2) j0 j0 j0<|u<|asg j0<|r_nil ?_
 obtain ⟨v5,q5,h⟩:=bs h
 refine rg j0<|u<|mv j0<|u<|seq ti9 j0 j0<|u<|mv j0<|r_or (x:=v5) (j:=2) 2 j0 j0 j0 j0 j0 gpn (fun hb3=>by replace q5:=bF hb3 q5; obtain ⟨v4,q4,q5⟩:=bs q5; obtain rfl:=sm q5; exact g j0 hb3<|mv j0<|g j0 hb3<|pc (kind_Class_ok v3 q4) j0 j0 j0<|r_nil (eg [9,10] 2 j0 j0 j0 j0)) (fun hb=>(sm (bT hb q5)).symm)<|u<|asg j0<|r_nil ?_
 refine sw_ret ?_
 obtain rfl:=sm h
 exact ⟨_,j0,[],ci j0,j0,j5,j0,j1⟩
def kind_Ref (v1 : List UInt8) : Option (Bool) :=
  (cond (!(v1 == [73])) ((kind_May v1).bind fun v2=>some v2) (some false)).bind fun v3=>some v3
theorem kind_Ref_ok (v1 : List UInt8) {r : Bool} (h : kind_Ref v1 = some r) : PureC Tryz.prog 107 [sA v1] (bA r):=by
 refine pure_fn Tryz.func107 j0 (by kernel_rfl) j0 j0 ?_
 unfold kind_Ref at h
 refine rg j0<|u<|asg j0<|r_nil ?_
 obtain ⟨v3,q3,h⟩:=bs h
 refine rg j0<|u<|mv j0<|u<|sne ti9 j0 j0<|u<|mv j0<|r_and (x:=v3) (j:=2) 2 j0 j0 j0 j0 j0 gpn (fun hb1=>by replace q3:=bT hb1 q3; obtain ⟨v2,q2,q3⟩:=bs q3; obtain rfl:=sm q3; exact g j0 hb1<|mv j0<|g j0 hb1<|pc (kind_May_ok v1 q2) j0 j0 j0<|r_nil (eg [6,7] 2 j0 j0 j0 j0)) (fun hb=>(sm (bF hb q3)).symm)<|u<|asg j0<|r_nil ?_
 refine sw_ret ?_
 obtain rfl:=sm h
 exact ⟨_,j0,[],ci j0,j0,j5,j0,j1⟩
def op_between (v1 : Int) (v2 : Int) (v3 : Int) : Bool :=
  ((decide (v2 ≤ v1)) && (decide (v1 ≤ v3)))
theorem op_between_ok (v1 : Int) (v2 : Int) (v3 : Int) {r : Bool} (h : op_between v1 v2 v3 = r) : PureC Tryz.prog 288 [iA v1,iA v2,iA v3] (bA r):=by
 refine pure_fn Tryz.func288 j0 (by kernel_rfl) j0 j0 ?_
 unfold op_between at h
 refine rg j0<|u<|asg j0<|r_nil ?_
 refine rg j0<|u<|mv j0<|u<|mv j0<|u<|geq ti3 j0 j0<|u<|mv j0<|r_and (j:=3) 3 j0 j0 j0 j0 j0 gpn (fun hb1=>g j0 hb1<|mv j0<|g j0 hb1<|mv j0<|g j0 hb1<|leq ti3 j0 j0<|r_nil (egA [11,12,13] 3 hb1 j0 j0 j0 j0)) andF<|u<|asg j0<|r_nil ?_
 refine sw_ret ?_
 obtain rfl:=h
 exact ⟨_,j0,[],ci j0,j0,j5,j0,j1⟩
def op_known (v1 : Int) : Bool :=
  (op_between v1 1 61)
theorem op_known_ok (v1 : Int) {r : Bool} (h : op_known v1 = r) : PureC Tryz.prog 360 [iA v1] (bA r):=by
 refine pure_fn Tryz.func360 j0 (by kernel_rfl) j0 j0 ?_
 unfold op_known at h
 refine rg j0<|u<|asg j0<|r_nil ?_
 refine rg j0<|u<|mv j0<|u<|pc (op_between_ok v1 1 61 j0) j0 j0 j0<|u<|asg j0<|r_nil ?_
 refine sw_ret ?_
 obtain rfl:=h
 exact ⟨_,j0,[],ci j0,j0,j5,j0,j1⟩
def op_Jumps (v1 : Int) : Bool :=
  (op_between v1 20 36)
theorem op_Jumps_ok (v1 : Int) {r : Bool} (h : op_Jumps v1 = r) : PureC Tryz.prog 201 [iA v1] (bA r):=by
 refine pure_fn Tryz.func201 j0 (by kernel_rfl) j0 j0 ?_
 unfold op_Jumps at h
 refine rg j0<|u<|asg j0<|r_nil ?_
 refine rg j0<|u<|mv j0<|u<|pc (op_between_ok v1 20 36 j0) j0 j0 j0<|u<|asg j0<|r_nil ?_
 refine sw_ret ?_
 obtain rfl:=h
 exact ⟨_,j0,[],ci j0,j0,j5,j0,j1⟩
def op_mayA (v1 : Int) (v2 : Int) : Bool :=
  cond (v1 == (1 : Int)) ((op_between v2 (-2147483648) 2147483647)) (cond ((v1 == (3 : Int)) || (v1 == (4 : Int))) ((op_between v2 0 15)) (cond (op_Jumps v1) ((op_between v2 0 99)) ((v2 == (0 : Int)))))
theorem op_mayA_ok (v1 : Int) (v2 : Int) {r : Bool} (h : op_mayA v1 v2 = r) : PureC Tryz.prog 361 [iA v1,iA v2] (bA r):=by
 refine pure_fn Tryz.func361 j0 (by kernel_rfl) j0 j0 ?_
 unfold op_mayA at h
 refine rg j0<|u<|asg j0<|r_nil ?_
 refine sw_seq ?_
 refine sw_block ?_
 refine rg j0<|u<|mv j0<|u<|eql ti3 j0 j0<|u<|asg j0<|r_nil ?_
 refine sw_cond j0 (fun hc1=>?_) (fun hc1=>?_)
 ·
  replace h:=bT hc1 h
  refine rg j0<|u<|mv j0<|u<|pc (op_between_ok v2 (-2147483648) 2147483647 j0) j0 j0 j0<|u<|asg j0<|r_nil ?_
  refine sw_ret ?_
  obtain rfl:=h
  exact ⟨_,j0,[],ci j0,j0,j5,j0,j1⟩
 ·
  replace h:=bF hc1 h
  refine rg j0<|u<|mv j0<|u<|eql ti3 j0 j0<|u<|mv j0<|r_or (j:=2) 2 j0 j0 j0 j0 j0 gpn (fun hb2=>g j0 hb2<|mv j0<|g j0 hb2<|eql ti3 j0 j0<|r_nil (egO [14,15] 2 hb2 j0 j0 j0 j0)) orT<|u<|asg j0<|r_nil ?_
  refine sw_cond j0 (fun hc3=>?_) (fun hc3=>?_)
  ·
   replace h:=bT hc3 h
   refine rg j0<|u<|mv j0<|u<|pc (op_between_ok v2 0 15 j0) j0 j0 j0<|u<|asg j0<|r_nil ?_
   refine sw_ret ?_
   obtain rfl:=h
   exact ⟨_,j0,[],ci j0,j0,j5,j0,j1⟩
  ·
   replace h:=bF hc3 h
   refine rg j0<|u<|mv j0<|u<|pc (op_Jumps_ok v1 j0) j0 j0 j0<|u<|asg j0<|r_nil ?_
   refine sw_cond j0 (fun hc4=>?_) (fun hc4=>?_)
   ·
    replace h:=bT hc4 h
    refine rg j0<|u<|mv j0<|u<|pc (op_between_ok v2 0 99 j0) j0 j0 j0<|u<|asg j0<|r_nil ?_
    refine sw_ret ?_
    obtain rfl:=h
    exact ⟨_,j0,[],ci j0,j0,j5,j0,j1⟩
   ·
    replace h:=bF hc4 h
    refine sw_skip ?_
    refine rg j0<|u<|mv j0<|u<|eql ti3 j0 j0<|u<|asg j0<|r_nil ?_
    refine sw_ret ?_
    obtain rfl:=h
    exact ⟨_,j0,[],ci j0,j0,j5,j0,j1⟩
def op_typed (v1 : Int) : Bool :=
  (((v1 == (50 : Int)) || (v1 == (56 : Int))) || (v1 == (57 : Int)))
theorem op_typed_ok (v1 : Int) {r : Bool} (h : op_typed v1 = r) : PureC Tryz.prog 380 [iA v1] (bA r):=by
 refine pure_fn Tryz.func380 j0 (by kernel_rfl) j0 j0 ?_
 unfold op_typed at h
 refine rg j0<|u<|asg j0<|r_nil ?_
 refine rg j0<|u<|mv j0<|u<|eql ti3 j0 j0<|u<|mv j0<|r_or (j:=2) 2 j0 j0 j0 j0 j0 gpn (fun hb1=>g j0 hb1<|mv j0<|g j0 hb1<|eql ti3 j0 j0<|r_nil (egO [6,7] 2 hb1 j0 j0 j0 j0)) orT<|u<|mv j0<|r_or (j:=6) 2 j0 j0 j0 j0 j0 gpn (fun hb2=>g j0 hb2<|mv j0<|g j0 hb2<|eql ti3 j0 j0<|r_nil (egO [10,11] 2 hb2 j0 j0 j0 j0)) orT<|u<|asg j0<|r_nil ?_
 refine sw_ret ?_
 obtain rfl:=h
 exact ⟨_,j0,[],ci j0,j0,j5,j0,j1⟩
def op_m (v1 : Int) : Bool :=
  (op_between v1 38 45)
theorem op_m_ok (v1 : Int) {r : Bool} (h : op_m v1 = r) : PureC Tryz.prog 373 [iA v1] (bA r):=by
 refine pure_fn Tryz.func373 j0 (by kernel_rfl) j0 j0 ?_
 unfold op_m at h
 refine rg j0<|u<|asg j0<|r_nil ?_
 refine rg j0<|u<|mv j0<|u<|pc (op_between_ok v1 38 45 j0) j0 j0 j0<|u<|asg j0<|r_nil ?_
 refine sw_ret ?_
 obtain rfl:=h
 exact ⟨_,j0,[],ci j0,j0,j5,j0,j1⟩
def op_c (v1 : Int) : Bool :=
  (((v1 == (37 : Int)) || (op_m v1)) || (op_typed v1))
theorem op_c_ok (v1 : Int) {r : Bool} (h : op_c v1 = r) : PureC Tryz.prog 372 [iA v1] (bA r):=by
 refine pure_fn Tryz.func372 j0 (by kernel_rfl) j0 j0 ?_
 unfold op_c at h
 refine rg j0<|u<|asg j0<|r_nil ?_
 refine rg j0<|u<|mv j0<|u<|eql ti3 j0 j0<|u<|mv j0<|r_or (j:=2) 2 j0 j0 j0 j0 j0 gpn (fun hb1=>g j0 hb1<|mv j0<|g j0 hb1<|pc (op_m_ok v1 j0) j0 j0 j0<|r_nil (egO [6,7] 2 hb1 j0 j0 j0 j0)) orT<|u<|mv j0<|r_or (j:=6) 2 j0 j0 j0 j0 j0 gpn (fun hb2=>g j0 hb2<|mv j0<|g j0 hb2<|pc (op_typed_ok v1 j0) j0 j0 j0<|r_nil (egO [10,11] 2 hb2 j0 j0 j0 j0)) orT<|u<|asg j0<|r_nil ?_
 refine sw_ret ?_
 obtain rfl:=h
 exact ⟨_,j0,[],ci j0,j0,j5,j0,j1⟩
def op_mayC (v1 : Int) (v2 : List UInt8) : Option (Bool) :=
  cond (op_typed v1) ((kind_Ref v2).bind fun v3=>some v3) (cond (op_c v1) ((kind_Class v2).bind fun v4=>some v4) (some (v2 == [])))
theorem op_mayC_ok (v1 : Int) (v2 : List UInt8) {r : Bool} (h : op_mayC v1 v2 = some r) : PureC Tryz.prog 362 [iA v1,sA v2] (bA r):=by
 refine pure_fn Tryz.func362 j0 (by kernel_rfl) j0 j0 ?_
 unfold op_mayC at h
 refine rg j0<|u<|asg j0<|r_nil ?_
 refine sw_seq ?_
 refine sw_block ?_
 refine rg j0<|u<|mv j0<|u<|pc (op_typed_ok v1 j0) j0 j0 j0<|u<|asg j0<|r_nil ?_
 refine sw_cond j0 (fun hc1=>?_) (fun hc1=>?_)
 ·
  replace h:=bT hc1 h
  obtain ⟨v3,q2,h⟩:=bs h
  refine rg j0<|u<|mv j0<|u<|pc (kind_Ref_ok v2 q2) j0 j0 j0<|u<|asg j0<|r_nil ?_
  refine sw_ret ?_
  obtain rfl:=sm h
  exact ⟨_,j0,[],ci j0,j0,j5,j0,j1⟩
 ·
  replace h:=bF hc1 h
  refine rg j0<|u<|mv j0<|u<|pc (op_c_ok v1 j0) j0 j0 j0<|u<|asg j0<|r_nil ?_
  refine sw_cond j0 (fun hc3=>?_) (fun hc3=>?_)
  ·
   replace h:=bT hc3 h
   obtain ⟨v4,q4,h⟩:=bs h
   refine rg j0<|u<|mv j0<|u<|pc (kind_Class_ok v2 q4) j0 j0 j0<|u<|asg j0<|r_nil ?_
   refine sw_ret ?_
   obtain rfl:=sm h
   exact ⟨_,j0,[],ci j0,j0,j5,j0,j1⟩
  ·
   replace h:=bF hc3 h
   refine sw_skip ?_
   refine rg j0<|u<|mv j0<|u<|seq ti9 j0 j0<|u<|asg j0<|r_nil ?_
   refine sw_ret ?_
   obtain rfl:=sm h
   exact ⟨_,j0,[],ci j0,j0,j5,j0,j1⟩
def op_mayM (v1 : Int) (v2 : List UInt8) : Option (Bool) :=
  cond (op_m v1) ((kind_Name v2).bind fun v3=>some (v3 && (!(v2 == [36,105,110,105,116])))) (some (v2 == []))
theorem op_mayM_ok (v1 : Int) (v2 : List UInt8) {r : Bool} (h : op_mayM v1 v2 = some r) : PureC Tryz.prog 363 [iA v1,sA v2] (bA r):=by
 refine pure_fn Tryz.func363 j0 (by kernel_rfl) j0 j0 ?_
 unfold op_mayM at h
 refine rg j0<|u<|asg j0<|r_nil ?_
 refine sw_seq ?_
 refine rg j0<|u<|mv j0<|u<|pc (op_m_ok v1 j0) j0 j0 j0<|r_nil ?_
 refine sw_cond j0 (fun hc1=>?_) (fun hc1=>?_)
 ·
  replace h:=bT hc1 h
  obtain ⟨v3,q2,h⟩:=bs h
  refine rg j0<|u<|mv j0<|u<|pc (kind_Name_ok v2 q2) j0 j0 j0<|u<|mv j0<|r_and (j:=2) 2 j0 j0 j0 j0 j0 gpn (fun hb3=>g j0 hb3<|mv j0<|g j0 hb3<|sne ti9 j0 j0<|r_nil (egA [10,11] 2 hb3 j0 j0 j0 j0)) andF<|u<|asg j0<|r_nil ?_
  refine sw_ret ?_
  obtain rfl:=sm h
  exact ⟨_,j0,[],ci j0,j0,j5,j0,j1⟩
 ·
  replace h:=bF hc1 h
  refine sw_skip ?_
  refine rg j0<|u<|mv j0<|u<|seq ti9 j0 j0<|u<|asg j0<|r_nil ?_
  refine sw_ret ?_
  obtain rfl:=sm h
  exact ⟨_,j0,[],ci j0,j0,j5,j0,j1⟩
def op_May (v1 : ApiIns) : Option (Bool) :=
  (cond ((op_known v1.Op) && (op_mayA v1.Op v1.A)) ((op_mayC v1.Op v1.C).bind fun v2=>some v2) (some false)).bind fun v3=>(cond v3 ((op_mayM v1.Op v1.M).bind fun v4=>some v4) (some false)).bind fun v5=>some v5
theorem op_May_ok (v1 : ApiIns) {r : Bool} (h : op_May v1 = some r) : PureC Tryz.prog 326 [.agg [iA v1.Op,iA v1.A,sA v1.C,sA v1.M]] (bA r):=by
 refine pure_fn Tryz.func326 j0 (by kernel_rfl) j0 j0 ?_
 unfold op_May at h
 refine rg j0<|u<|bx 0 4 j0 j0 j0 j0<|u<|asg j0<|r_nil ?_
 obtain ⟨v3,q4,h⟩:=bs h
 obtain ⟨v5,q7,h⟩:=bs h
 refine rg j0<|u<|fa ti40 j0 j0 j0<|u<|ld ti3 j0 j0<|u<|pc (op_known_ok v1.Op j0) j0 j0 j0<|u<|mv j0<|r_and (j:=3) 5 j0 j0 j0 j0 j0 gpn (fun hb1=>g j0 hb1<|fa ti40 j0 j0 j0<|g j0 hb1<|ld ti3 j0 j0<|g j0 hb1<|fa ti40 j0 j0 j0<|g j0 hb1<|ld ti3 j0 j0<|g j0 hb1<|pc (op_mayA_ok v1.Op v1.A j0) j0 j0 j0<|r_nil (egA [7,8,9,10,11] 5 hb1 j0 j0 j0 j0)) andF<|u<|mv j0<|r_and (x:=v3) (j:=10) 5 j0 j0 j0 j0 j0 gpn (fun hb2=>by replace q4:=bT hb2 q4; obtain ⟨v2,q3,q4⟩:=bs q4; obtain rfl:=sm q4; exact g j0 hb2<|fa ti40 j0 j0 j0<|g j0 hb2<|ld ti3 j0 j0<|g j0 hb2<|fa ti40 j0 j0 j0<|g j0 hb2<|ld ti9 j0 j0<|g j0 hb2<|pc (op_mayC_ok v1.Op v1.C q3) j0 j0 j0<|r_nil (eg [14,15,16,17,18] 5 j0 j0 j0 j0)) (fun hb=>(sm (bF hb q4)).symm)<|u<|mv j0<|r_and (x:=v5) (j:=17) 5 j0 j0 j0 j0 j0 gpn (fun hb5=>by replace q7:=bT hb5 q7; obtain ⟨v4,q6,q7⟩:=bs q7; obtain rfl:=sm q7; exact g j0 hb5<|fa ti40 j0 j0 j0<|g j0 hb5<|ld ti3 j0 j0<|g j0 hb5<|fa ti40 j0 j0 j0<|g j0 hb5<|ld ti9 j0 j0<|g j0 hb5<|pc (op_mayM_ok v1.Op v1.M q6) j0 j0 j0<|r_nil (eg [21,22,23,24,25] 5 j0 j0 j0 j0)) (fun hb=>(sm (bF hb q7)).symm)<|u<|asg j0<|r_nil ?_
 refine sw_ret ?_
 obtain rfl:=sm h
 exact ⟨_,j0,[],ci j0,j0,j5,j0,j1⟩
def ref3_Jumps (v1 : Int) : Bool :=
  ((decide (20 ≤ v1)) && (decide (v1 ≤ 36)))
def ref3_number (v1 : Int) (v2 : Int) : Bool :=
  cond (v1 == (1 : Int)) (((decide ((-2147483648) ≤ v2)) && (decide (v2 < 2147483648)))) (cond (ref3_Jumps v1) (((decide (0 ≤ v2)) && (decide (v2 < 100)))) (((decide (0 ≤ v2)) && (decide (v2 < 16)))))
def op_Ends_j1 (v2 : Bool) : Bool :=
  cond v2 (true) (false)
def op_Ends (v1 : Int) : Bool :=
  cond (v1 == (20 : Int)) (op_Ends_j1 (v1 == (20 : Int))) (cond (v1 == (46 : Int)) (op_Ends_j1 (v1 == (46 : Int))) (cond (v1 == (47 : Int)) (op_Ends_j1 (v1 == (47 : Int))) (cond (v1 == (48 : Int)) (op_Ends_j1 (v1 == (48 : Int))) (cond (v1 == (58 : Int)) (op_Ends_j1 (v1 == (58 : Int))) (op_Ends_j1 (v1 == (61 : Int)))))))
theorem op_Ends_ok (v1 : Int) {r : Bool} (h : op_Ends v1 = r) : PureC Tryz.prog 203 [iA v1] (bA r):=by
 refine pure_fn Tryz.func203 j0 (by kernel_rfl) j0 j0 ?_
 unfold op_Ends at h
 refine rg j0<|u<|asg j0<|r_nil ?_
 refine sw_seq ?_
 refine rg j0<|u<|mv j0<|r_nil ?_
 refine sw_block ?_
 refine sw_meet (X:=Bool) (fun z=>[(4,bA z)]) (fun z=>[]) (fun z=>op_Ends_j1 z = r) ?_ ?_
 ·
  refine rg j0<|u<|eql ti3 j0 j0<|u<|asg j0<|r_nil ?_
  refine sw_cond j0 (fun hc1=>?_) (fun hc1=>?_)
  ·
   replace h:=bT hc1 h
   refine sw_skip ?_
   exact ⟨(v1 == (20 : Int)),h,[],ce j0 j0<|cn,j0,j5,j0,j1⟩
  ·
   replace h:=bF hc1 h
   refine rg j0<|u<|eql ti3 j0 j0<|u<|asg j0<|r_nil ?_
   refine sw_cond j0 (fun hc2=>?_) (fun hc2=>?_)
   ·
    replace h:=bT hc2 h
    refine sw_skip ?_
    exact ⟨(v1 == (46 : Int)),h,[],ce j0 j0<|cn,j0,j5,j0,j1⟩
   ·
    replace h:=bF hc2 h
    refine rg j0<|u<|eql ti3 j0 j0<|u<|asg j0<|r_nil ?_
    refine sw_cond j0 (fun hc3=>?_) (fun hc3=>?_)
    ·
     replace h:=bT hc3 h
     refine sw_skip ?_
     exact ⟨(v1 == (47 : Int)),h,[],ce j0 j0<|cn,j0,j5,j0,j1⟩
    ·
     replace h:=bF hc3 h
     refine rg j0<|u<|eql ti3 j0 j0<|u<|asg j0<|r_nil ?_
     refine sw_cond j0 (fun hc4=>?_) (fun hc4=>?_)
     ·
      replace h:=bT hc4 h
      refine sw_skip ?_
      exact ⟨(v1 == (48 : Int)),h,[],ce j0 j0<|cn,j0,j5,j0,j1⟩
     ·
      replace h:=bF hc4 h
      refine rg j0<|u<|eql ti3 j0 j0<|u<|asg j0<|r_nil ?_
      refine sw_cond j0 (fun hc5=>?_) (fun hc5=>?_)
      ·
       replace h:=bT hc5 h
       refine sw_skip ?_
       exact ⟨(v1 == (58 : Int)),h,[],ce j0 j0<|cn,j0,j5,j0,j1⟩
      ·
       replace h:=bF hc5 h
       exact rl j0<|u<|eql ti3 j0 j0<|u<|asg j0<|r_nil (⟨(v1 == (61 : Int)),h,[],ce j0 j0<|cn,j0,j5,j0,j1⟩)
 ·
  rintro v2 h
  replace h : op_Ends_j1 v2 = r:=h
  unfold op_Ends_j1 at h
  refine sw_cond j0 (fun hc6=>?_) (fun hc6=>?_)
  ·
   replace h:=bT hc6 h
   refine rg j0<|u<|asg j0<|r_nil ?_
   refine sw_ret ?_
   obtain rfl:=h
   exact ⟨_,j0,[],ci j0,j0,j5,j0,j1⟩
  ·
   replace h:=bF hc6 h
   refine sw_skip ?_
   refine rg j0<|u<|asg j0<|r_nil ?_
   refine sw_ret ?_
   obtain rfl:=h
   exact ⟨_,j0,[],ci j0,j0,j5,j0,j1⟩
end
end Go.Proofs.YthmnlfenkhmmhaaGreat
