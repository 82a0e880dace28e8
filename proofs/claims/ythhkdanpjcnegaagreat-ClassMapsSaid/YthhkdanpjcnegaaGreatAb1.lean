/- The abstract layer, part 1: abstract values, their relation to the model's values and worlds, and what a step may turn. It names no program. -/
import Derived.Calls
import Derived.Orders
import Derived.Deep.Quiet
import Derived.StillTail
import Derived.Laws.IdiomCopy
import Derived.Laws.AppendOwn
import Derived.Below
import Derived.KernelRfl
namespace Go.Proofs.YthhkdanpjcnegaaGreat
set_option linter.unusedSimpArgs false
set_option linter.unusedVariables false
set_option linter.unusedSectionVars false

/-- An abstract value. 'isl': a slice whose content is never written again; 'ipt': a pointer into such a row; 'msl', 'mpt': the same into block l of the call's own. -/
inductive AV where
  | any
  | lit (v : Value)
  | isl (k : Nat) (els : List (List AV))
  | ipt (k : Nat) (els : List (List AV)) (i j : Nat)
  | msl (l i n : Nat)
  | mpt (l i j : Nat)
  | agg (cs : List AV)
  | tup (vs : List AV)
  | fn (f : Fn) (first caps : List AV)

/-- Where block l of the call's own lies: block B, from cell o on, k cells an element, the block has top cells. 'has = false': there is none: the slice is nil. -/
structure Blk where
  has : Bool
  B : Nat
  o : Nat
  k : Nat
  top : Nat

abbrev BM := Nat → Option Blk
abbrev St := List (Option (Nat × List (List AV)))

inductive VI (A : Nat → Prop) (w : World) : AV → Value → Prop
  | any (v) : VI A w .any v
  | lit (v) : VI A w (.lit v) v
  | isl (k : Nat) (els : List (List AV)) (B o cap : Nat) (vs : Nat → Nat → Value) (hA : A B) (hcap : els.length ≤ cap)
      (hk : ∀ i (h : i < els.length), els[i].length = k)
      (hc : ∀ i j, i < els.length → j < k → w.cell? ⟨B, o + i * k + j, none⟩ = some (vs i j))
      (hv : ∀ i (h : i < els.length) j (h' : j < els[i].length), VI A w els[i][j] (vs i j)) :
      VI A w (.isl k els) (.slice (some ⟨B, o, none⟩) els.length cap)
  | inil (k : Nat) (a : Option Addr) (cap : Nat) : VI A w (.isl k []) (.slice a 0 cap)
  | ipt (k : Nat) (els : List (List AV)) (i j B o : Nat) (vs : Nat → Nat → Value) (hA : A B)
      (hk : ∀ i (h : i < els.length), els[i].length = k)
      (hc : ∀ i j, i < els.length → j < k → w.cell? ⟨B, o + i * k + j, none⟩ = some (vs i j))
      (hv : ∀ i (h : i < els.length) j (h' : j < els[i].length), VI A w els[i][j] (vs i j)) :
      VI A w (.ipt k els i j) (.pointer (some ⟨B, o + i * k + j, none⟩))
  | agg (cs : List AV) (a : Array Value) (hs : a.size = cs.length) (hv : ∀ i (h : i < cs.length), VI A w cs[i] (a.getD i undef)) : VI A w (.agg cs) (.agg a)
  | tup (cs : List AV) (a : Array Value) (hs : a.size = cs.length) (hv : ∀ i (h : i < cs.length), VI A w cs[i] (a.getD i undef)) : VI A w (.tup cs) (.tuple a)
  | fn (f : Fn) (cs ds : List AV) (a b : Array Value) (hs : a.size = cs.length) (hv : ∀ i (h : i < cs.length), VI A w cs[i] (a.getD i undef))
      (hs' : b.size = ds.length) (hv' : ∀ i (h : i < ds.length), VI A w ds[i] (b.getD i undef)) : VI A w (.fn f cs ds) (.func f a b)

inductive V (A : Nat → Prop) (m : BM) (nb : Nat) (w : World) : AV → Value → Prop
  | imm {av v} (h : VI A w av v) : V A m nb w av v
  | msl (l i n : Nat) (a : Option Addr) (n' cap : Nat) (hl : l < nb)
      (h : ∀ b, m l = some b → n' = n ∧ n ≤ cap ∧ (cap = 0 ∨ (b.has = true ∧ a = some ⟨b.B, b.o + i * b.k, none⟩ ∧ b.o + (i + cap) * b.k ≤ b.top))) : V A m nb w (.msl l i n) (.slice a n' cap)
  | mpt (l i j : Nat) (a : Option Addr) (hl : l < nb) (h : ∀ b, m l = some b → b.has = true ∧ a = some ⟨b.B, b.o + i * b.k + j, none⟩) : V A m nb w (.mpt l i j) (.pointer a)
  | agg (cs : List AV) (a : Array Value) (hs : a.size = cs.length) (hv : ∀ i (h : i < cs.length), V A m nb w cs[i] (a.getD i undef)) : V A m nb w (.agg cs) (.agg a)
  | tup (cs : List AV) (a : Array Value) (hs : a.size = cs.length) (hv : ∀ i (h : i < cs.length), V A m nb w cs[i] (a.getD i undef)) : V A m nb w (.tup cs) (.tuple a)
  | fn (f : Fn) (cs ds : List AV) (a b : Array Value) (hs : a.size = cs.length) (hv : ∀ i (h : i < cs.length), V A m nb w cs[i] (a.getD i undef))
      (hs' : b.size = ds.length) (hv' : ∀ i (h : i < ds.length), V A m nb w ds[i] (b.getD i undef)) : V A m nb w (.fn f cs ds) (.func f a b)

/-- Pointwise: a list of abstract values, an array of values. -/
def VL (A : Nat → Prop) (m : BM) (nb : Nat) (w : World) (cs : List AV) (a : Array Value) : Prop :=
  a.size = cs.length ∧ ∀ i (h : i < cs.length), V A m nb w cs[i] (a.getD i undef)
def VIL (A : Nat → Prop) (w : World) (cs : List AV) (a : Array Value) : Prop :=
  a.size = cs.length ∧ ∀ i (h : i < cs.length), VI A w cs[i] (a.getD i undef)

/-- What is known of one block of the call's own. -/
structure BlkOk (A : Nat → Prop) (m : BM) (nb : Nat) (w : World) (b : Blk) (els : List (List AV)) : Prop where
  low : b.B < w.heap.size
  there : ∀ off, off < b.top → ∃ v, w.cell? ⟨b.B, off, none⟩ = some v
  free : ∀ off, off < b.top → w.frozen? ⟨b.B, off, none⟩ = false
  fit : b.o + els.length * b.k ≤ b.top
  wide : ∀ i (h : i < els.length), els[i].length = b.k
  val : ∀ i (h : i < els.length) j (h' : j < els[i].length), ∃ v, w.cell? ⟨b.B, b.o + i * b.k + j, none⟩ = some v ∧ V A m nb w els[i][j] v

structure R (A : Nat → Prop) (m : BM) (w : World) (st : St) : Prop where
  aLow : ∀ B, A B → B < w.heap.size
  aOwn : ∀ B l b, A B → m l = some b → b.has = true → b.B ≠ B
  inj : ∀ l l' b b', m l = some b → m l' = some b' → b.has = true → b'.has = true → b.B = b'.B → l = l'
  live : ∀ l b, m l = some b → ∃ els, st[l]? = some (some (b.k, els))
  blk : ∀ l k els, st[l]? = some (some (k, els)) → ∃ b, m l = some b ∧ b.k = k ∧ (b.has = true → BlkOk A m st.length w b els) ∧ (b.has = false → els = [])

/-- What a step may turn: it makes new blocks and writes to blocks of the call's own. -/
structure Step (A : Nat → Prop) (m : BM) (nb : Nat) (w : World) (A' : Nat → Prop) (m' : BM) (nb' : Nat) (w' : World) : Prop where
  nbLe : nb ≤ nb'
  size : w.heap.size ≤ w'.heap.size
  aSub : ∀ B, A B → A' B
  aNew : ∀ B, A' B → A B ∨ w.heap.size ≤ B ∨ ∃ l b, m l = some b ∧ b.has = true ∧ b.B = B
  mOld : ∀ l, l < nb → m' l = m l ∨ m' l = none
  mNew : ∀ l b, m' l = some b → b.has = true → w.heap.size ≤ b.B ∨ ∃ l0 b0, m l0 = some b0 ∧ b0.has = true ∧ b0.B = b.B
  heap : ∀ B, B < w.heap.size → (∀ l b, m l = some b → b.has = true → b.B ≠ B) → w'.heap[B]? = w.heap[B]?
  os : w'.os = w.os
  tape : w'.tape = w.tape
  output : w'.output = w.output

theorem Step.refl (A : Nat → Prop) (m : BM) (nb : Nat) (w : World) : Step A m nb w A m nb w :=
  ⟨Nat.le_refl _, Nat.le_refl _, fun _ h => h, fun _ h => .inl h, fun _ _ => .inl rfl, fun l b h h1 => .inr ⟨l, b, h, h1, rfl⟩, fun _ _ _ => rfl, rfl, rfl, rfl⟩

theorem Step.trans {A m nb w A1 m1 nb1 w1 A2 m2 nb2 w2} (h : Step A m nb w A1 m1 nb1 w1) (k : Step A1 m1 nb1 w1 A2 m2 nb2 w2) : Step A m nb w A2 m2 nb2 w2 where
  nbLe := Nat.le_trans h.nbLe k.nbLe
  size := Nat.le_trans h.size k.size
  aSub := fun B hB => k.aSub B (h.aSub B hB)
  aNew := fun B hB => by
    rcases k.aNew B hB with h1 | h1 | ⟨l0, b0, h1, hh0, h2⟩
    · exact h.aNew B h1
    · exact .inr (.inl (Nat.le_trans h.size h1))
    · rcases h.mNew l0 b0 h1 hh0 with h3 | ⟨l1, b1, h3, hh1, h4⟩
      · exact .inr (.inl (h2 ▸ h3))
      · exact .inr (.inr ⟨l1, b1, h3, hh1, h4.trans h2⟩)
  mOld := fun l hl => by
    rcases k.mOld l (Nat.lt_of_lt_of_le hl h.nbLe) with h1 | h1
    · rw [h1]; exact h.mOld l hl
    · exact .inr h1
  mNew := fun l b hb hh => by
    rcases k.mNew l b hb hh with h1 | ⟨l0, b0, h1, hh0, h2⟩
    · exact .inl (Nat.le_trans h.size h1)
    · rcases h.mNew l0 b0 h1 hh0 with h3 | ⟨l1, b1, h3, hh1, h4⟩
      · exact .inl (h2 ▸ h3)
      · exact .inr ⟨l1, b1, h3, hh1, h4.trans h2⟩
  heap := fun B hB ho => by
    rw [k.heap B (Nat.lt_of_lt_of_le hB h.size) ?_, h.heap B hB ho]
    intro l b hb hh he
    rcases h.mNew l b hb hh with h1 | ⟨l0, b0, h1, hh0, h2⟩
    · omega
    · exact ho l0 b0 h1 hh0 (h2.trans he)
  os := k.os.trans h.os
  tape := k.tape.trans h.tape
  output := k.output.trans h.output

theorem Step.weak {A m nb w A1 m1 nb1 w1} (h : Step A m nb w A1 m1 nb1 w1) {nb0 : Nat} (h0 : nb0 ≤ nb) : Step A m nb0 w A1 m1 nb1 w1 :=
  { h with nbLe := Nat.le_trans h0 h.nbLe, mOld := fun l hl => h.mOld l (Nat.lt_of_lt_of_le hl h0) }

theorem Step.trans0 {A m nb w A1 m1 nb1 w1 A2 m2 nb2 w2} (h : Step A m nb w A1 m1 nb1 w1) (k : Step A1 m1 nb w1 A2 m2 nb2 w2) : Step A m nb w A2 m2 nb2 w2 where
  nbLe := k.nbLe
  size := Nat.le_trans h.size k.size
  aSub := fun B hB => k.aSub B (h.aSub B hB)
  aNew := fun B hB => by
    rcases k.aNew B hB with h1 | h1 | ⟨l0, b0, h1, hh0, h2⟩
    · exact h.aNew B h1
    · exact .inr (.inl (Nat.le_trans h.size h1))
    · rcases h.mNew l0 b0 h1 hh0 with h3 | ⟨l1, b1, h3, hh1, h4⟩
      · exact .inr (.inl (h2 ▸ h3))
      · exact .inr (.inr ⟨l1, b1, h3, hh1, h4.trans h2⟩)
  mOld := fun l hl => by
    rcases k.mOld l hl with h1 | h1
    · rw [h1]; exact h.mOld l hl
    · exact .inr h1
  mNew := fun l b hb hh => by
    rcases k.mNew l b hb hh with h1 | ⟨l0, b0, h1, hh0, h2⟩
    · exact .inl (Nat.le_trans h.size h1)
    · rcases h.mNew l0 b0 h1 hh0 with h3 | ⟨l1, b1, h3, hh1, h4⟩
      · exact .inl (h2 ▸ h3)
      · exact .inr ⟨l1, b1, h3, hh1, h4.trans h2⟩
  heap := fun B hB ho => by
    rw [k.heap B (Nat.lt_of_lt_of_le hB h.size) ?_, h.heap B hB ho]
    intro l b hb hh he
    rcases h.mNew l b hb hh with h1 | ⟨l0, b0, h1, hh0, h2⟩
    · omega
    · exact ho l0 b0 h1 hh0 (h2.trans he)
  os := k.os.trans h.os
  tape := k.tape.trans h.tape
  output := k.output.trans h.output

theorem cell_of_heap {w w' : World} {B : Nat} (h : w'.heap[B]? = w.heap[B]?) (off : Nat) : w'.cell? ⟨B, off, none⟩ = w.cell? ⟨B, off, none⟩ := by
  simp only [World.cell?, h]
theorem frozen_of_heap {w w' : World} {B : Nat} (h : w'.heap[B]? = w.heap[B]?) (off : Nat) : w'.frozen? ⟨B, off, none⟩ = w.frozen? ⟨B, off, none⟩ := by
  simp only [World.frozen?, h]

theorem VI.mono {A A' : Nat → Prop} {w w' : World} (hA : ∀ B, A B → A' B) (hc : ∀ B, A B → w'.heap[B]? = w.heap[B]?) {av : AV} {v : Value} (h : VI A w av v) : VI A' w' av v := by
  induction h with
  | any v => exact .any v
  | lit v => exact .lit v
  | isl k els B o cap vs hB hcap hk hcell _ ih =>
    exact .isl k els B o cap vs (hA B hB) hcap hk (fun i j hi hj => by rw [cell_of_heap (hc B hB)]; exact hcell i j hi hj) ih
  | inil k a cap => exact .inil k a cap
  | ipt k els i j B o vs hB hk hcell _ ih =>
    exact .ipt k els i j B o vs (hA B hB) hk (fun i j hi hj => by rw [cell_of_heap (hc B hB)]; exact hcell i j hi hj) ih
  | agg cs a hs _ ih => exact .agg cs a hs ih
  | tup cs a hs _ ih => exact .tup cs a hs ih
  | fn f cs ds a b hs _ hs' _ ih ih' => exact .fn f cs ds a b hs ih hs' ih'

theorem V.mono {A A' : Nat → Prop} {m m' : BM} {nb nb' : Nat} {w w' : World} (hA : ∀ B, A B → A' B) (hc : ∀ B, A B → w'.heap[B]? = w.heap[B]?)
    (hn : nb ≤ nb') (hm : ∀ l, l < nb → m' l = m l ∨ m' l = none) {av : AV} {v : Value} (h : V A m nb w av v) : V A' m' nb' w' av v := by
  induction h with
  | imm h => exact .imm (h.mono hA hc)
  | msl l i n a n' cap hl h =>
    refine .msl l i n a n' cap (by omega) fun b hb => ?_
    rcases hm l hl with h1 | h1
    · exact h b (h1 ▸ hb)
    · rw [h1] at hb; cases hb
  | mpt l i j a hl h =>
    refine .mpt l i j a (by omega) fun b hb => ?_
    rcases hm l hl with h1 | h1
    · exact h b (h1 ▸ hb)
    · rw [h1] at hb; cases hb
  | agg cs a hs _ ih => exact .agg cs a hs ih
  | tup cs a hs _ ih => exact .tup cs a hs ih
  | fn f cs ds a b hs _ hs' _ ih ih' => exact .fn f cs ds a b hs ih hs' ih'

theorem V.step {A A' : Nat → Prop} {m m' : BM} {nb' : Nat} {w w' : World} {st : St} (hR : R A m w st) (hS : Step A m st.length w A' m' nb' w') {av : AV} {v : Value}
    (h : V A m st.length w av v) : V A' m' nb' w' av v :=
  h.mono hS.aSub (fun B hB => hS.heap B (hR.aLow B hB) (fun l b hb hh => hR.aOwn B l b hB hb hh)) hS.nbLe hS.mOld

theorem VL.step {A A' : Nat → Prop} {m m' : BM} {nb' : Nat} {w w' : World} {st : St} (hR : R A m w st) (hS : Step A m st.length w A' m' nb' w') {cs : List AV} {a : Array Value}
    (h : VL A m st.length w cs a) : VL A' m' nb' w' cs a :=
  ⟨h.1, fun i hi => (h.2 i hi).step hR hS⟩

/-! ### What a related value looks like -/
theorem V.lit_inv {A m nb w} {x v : Value} (h : V A m nb w (.lit x) v) : v = x := by
  cases h with
  | imm h => cases h; rfl
theorem VI.agg_inv {A w} {cs : List AV} {v : Value} (h : VI A w (.agg cs) v) : ∃ a, v = .agg a ∧ VIL A w cs a := by
  cases h with
  | agg cs a hs hv => exact ⟨a, rfl, hs, hv⟩
theorem V.agg_inv {A m nb w} {cs : List AV} {v : Value} (h : V A m nb w (.agg cs) v) : ∃ a, v = .agg a ∧ VL A m nb w cs a := by
  cases h with
  | imm h => obtain ⟨a, rfl, h1, h2⟩ := h.agg_inv; exact ⟨a, rfl, h1, fun i hi => .imm (h2 i hi)⟩
  | agg cs a hs hv => exact ⟨a, rfl, hs, hv⟩
theorem V.tup_inv {A m nb w} {cs : List AV} {v : Value} (h : V A m nb w (.tup cs) v) : ∃ a, v = .tuple a ∧ VL A m nb w cs a := by
  cases h with
  | imm h => cases h with
    | tup cs a hs hv => exact ⟨a, rfl, hs, fun i hi => .imm (hv i hi)⟩
  | tup cs a hs hv => exact ⟨a, rfl, hs, hv⟩
theorem V.fn_inv {A m nb w} {f : Fn} {cs ds : List AV} {v : Value} (h : V A m nb w (.fn f cs ds) v) : ∃ a b, v = .func f a b ∧ VL A m nb w cs a ∧ VL A m nb w ds b := by
  cases h with
  | imm h => cases h with
    | fn f cs ds a b hs hv hs' hv' => exact ⟨a, b, rfl, ⟨hs, fun i hi => .imm (hv i hi)⟩, ⟨hs', fun i hi => .imm (hv' i hi)⟩⟩
  | fn f cs ds a b hs hv hs' hv' => exact ⟨a, b, rfl, ⟨hs, hv⟩, ⟨hs', hv'⟩⟩
theorem V.isl_inv {A m nb w} {k : Nat} {els : List (List AV)} {v : Value} (h : V A m nb w (.isl k els) v) : VI A w (.isl k els) v := by
  cases h with
  | imm h => exact h
theorem V.ipt_inv {A m nb w} {k : Nat} {els : List (List AV)} {i j : Nat} {v : Value} (h : V A m nb w (.ipt k els i j) v) : VI A w (.ipt k els i j) v := by
  cases h with
  | imm h => exact h
theorem V.msl_inv {A m nb w} {l i n : Nat} {v : Value} (h : V A m nb w (.msl l i n) v) :
    l < nb ∧ ∃ a n' cap, v = .slice a n' cap ∧ ∀ b, m l = some b → n' = n ∧ n ≤ cap ∧ (cap = 0 ∨ (b.has = true ∧ a = some ⟨b.B, b.o + i * b.k, none⟩ ∧ b.o + (i + cap) * b.k ≤ b.top)) := by
  cases h with
  | imm h => cases h
  | msl l i n a n' cap hl h => exact ⟨hl, a, n', cap, rfl, h⟩
theorem V.mpt_inv {A m nb w} {l i j : Nat} {v : Value} (h : V A m nb w (.mpt l i j) v) :
    l < nb ∧ ∃ a, v = .pointer a ∧ ∀ b, m l = some b → b.has = true ∧ a = some ⟨b.B, b.o + i * b.k + j, none⟩ := by
  cases h with
  | imm h => cases h
  | mpt l i j a hl h => exact ⟨hl, a, rfl, h⟩

/-- Holds one cell. -/
def AV.one : AV → Bool
  | .lit v => v.oneCell'
  | .isl .. | .ipt .. | .msl .. | .mpt .. | .fn .. => true
  | _ => false

theorem V.one {A m nb w} {av : AV} {v : Value} (h : V A m nb w av v) (h1 : av.one = true) : v.oneCell' = true := by
  cases av with
  | any => cases h1
  | agg _ => cases h1
  | tup _ => cases h1
  | lit x => rw [h.lit_inv]; exact h1
  | isl k els => cases h.isl_inv <;> rfl
  | ipt k els i j => cases h.ipt_inv; rfl
  | msl l i n => obtain ⟨_, a, n', cap, rfl, _⟩ := h.msl_inv; rfl
  | mpt l i j => obtain ⟨_, a, rfl, _⟩ := h.mpt_inv; rfl
  | fn f cs ds => obtain ⟨a, b, rfl, _⟩ := h.fn_inv; rfl

end Go.Proofs.YthhkdanpjcnegaaGreat
