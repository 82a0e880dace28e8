/- The abstract layer, part 2: how the relation of states goes on over new blocks, stores and appends. -/
import Derived.Test.YthhkdanpjcnegaaGreatAb1
namespace Go.Proofs.YthhkdanpjcnegaaGreat
set_option linter.unusedSimpArgs false
set_option linter.unusedVariables false
set_option linter.unusedSectionVars false

/-- New blocks alone, and draws. -/
structure Grow (w w' : World) : Prop where
  size : w.heap.size ≤ w'.heap.size
  heap : ∀ B, B < w.heap.size → w'.heap[B]? = w.heap[B]?
  os : w'.os = w.os
  tape : w'.tape = w.tape
  output : w'.output = w.output

theorem Grow.refl (w : World) : Grow w w := ⟨Nat.le_refl _, fun _ _ => rfl, rfl, rfl, rfl⟩
theorem Grow.trans {a b c : World} (h : Grow a b) (k : Grow b c) : Grow a c :=
  ⟨Nat.le_trans h.size k.size, fun B hB => (k.heap B (Nat.lt_of_lt_of_le hB h.size)).trans (h.heap B hB), k.os.trans h.os, k.tape.trans h.tape, k.output.trans h.output⟩
theorem Grow.alloc (w : World) (o : Obj) : Grow w (w.alloc o) :=
  ⟨by simp, fun B hB => Go.RowKit.Below.heap_alloc w o B hB, rfl, rfl, rfl⟩
theorem Grow.drew (w : World) : Grow w w.drew := ⟨Nat.le_refl _, fun _ _ => rfl, rfl, rfl, rfl⟩

theorem BlkOk.keep {A A' : Nat → Prop} {m m' : BM} {nb nb' : Nat} {w w' : World} {b : Blk} {els : List (List AV)} (h : BlkOk A m nb w b els)
    (hs : w.heap.size ≤ w'.heap.size) (hb : w'.heap[b.B]? = w.heap[b.B]?) (hV : ∀ av v, V A m nb w av v → V A' m' nb' w' av v) : BlkOk A' m' nb' w' b els where
  low := Nat.lt_of_lt_of_le h.low hs
  there := fun off ho => by rw [cell_of_heap hb]; exact h.there off ho
  free := fun off ho => by rw [frozen_of_heap hb]; exact h.free off ho
  fit := h.fit
  wide := h.wide
  val := fun i hi j hj => by
    obtain ⟨v, h1, h2⟩ := h.val i hi j hj
    exact ⟨v, by rw [cell_of_heap hb]; exact h1, hV _ _ h2⟩

theorem R.lt {A m w st} (hR : R A m w st) {l : Nat} {b : Blk} (h : m l = some b) : l < st.length := by
  obtain ⟨els, he⟩ := hR.live l b h
  rcases Nat.lt_or_ge l st.length with h | h
  · exact h
  · rw [List.getElem?_eq_none h] at he; cases he

theorem R.low {A m w st} (hR : R A m w st) {l : Nat} {b : Blk} (h : m l = some b) (hh : b.has = true) : b.B < w.heap.size := by
  obtain ⟨els, he⟩ := hR.live l b h
  obtain ⟨b', h1, _, h3, _⟩ := hR.blk l _ els he
  have : b' = b := Option.some.inj (h1.symm.trans h)
  subst this
  exact (h3 hh).low

theorem R.at {A m w st} (hR : R A m w st) {l : Nat} {b : Blk} (h : m l = some b) {k els} (he : st[l]? = some (some (k, els))) : b.k = k ∧ (b.has = true → BlkOk A m st.length w b els) ∧ (b.has = false → els = []) := by
  obtain ⟨b', h1, h2, h3⟩ := hR.blk l k els he
  have : b' = b := Option.some.inj (h1.symm.trans h)
  subst this
  exact ⟨h2, h3⟩

/-- Nothing of the call's own turns. -/
theorem R.grow {A A' : Nat → Prop} {m : BM} {w w' : World} {st : St} (hR : R A m w st) (hg : Grow w w') (hA : ∀ B, A B → A' B)
    (hA' : ∀ B, A' B → A B ∨ (w.heap.size ≤ B ∧ B < w'.heap.size)) : R A' m w' st ∧ Step A m st.length w A' m st.length w' := by
  have hS : Step A m st.length w A' m st.length w' := ⟨Nat.le_refl _, hg.size, hA, fun B hB => (hA' B hB).imp id fun h => .inl h.1, fun _ _ => .inl rfl, fun l b h hh => .inr ⟨l, b, h, hh, rfl⟩,
    fun B hB _ => hg.heap B hB, hg.os, hg.tape, hg.output⟩
  refine ⟨⟨fun B hB => ?_, fun B l b hB hm hh he => ?_, hR.inj, hR.live, fun l k els he => ?_⟩, hS⟩
  · rcases hA' B hB with h | h
    · exact Nat.lt_of_lt_of_le (hR.aLow B h) hg.size
    · exact h.2
  · rcases hA' B hB with h | h
    · exact hR.aOwn B l b h hm hh he
    · have := hR.low hm hh; omega
  · obtain ⟨b, h1, h2, h3, h4⟩ := hR.blk l k els he
    exact ⟨b, h1, h2, fun hh => (h3 hh).keep hg.size (hg.heap _ (h3 hh).low) fun av v hv => hv.step hR hS, h4⟩

theorem R.grow' {A : Nat → Prop} {m : BM} {w w' : World} {st : St} (hR : R A m w st) (hg : Grow w w') : R A m w' st ∧ Step A m st.length w A m st.length w' :=
  hR.grow hg (fun _ h => h) (fun _ h => .inl h)

/-- A new block of the call's own. -/
def BM.put (m : BM) (l : Nat) (b : Option Blk) : BM := fun x => if x = l then b else m x

/-- A block of the call's own goes, another one comes: in its place, or new. -/
theorem R.swap {A : Nat → Prop} {m : BM} {w w' : World} {st : St} (hR : R A m w st) (l : Nat) (b' : Blk) (els : List (List AV))
    (hsize : w.heap.size ≤ w'.heap.size) (hos : w'.os = w.os) (htape : w'.tape = w.tape) (hout : w'.output = w.output)
    (hheap : ∀ B, B < w.heap.size → (∀ b, m l = some b → b.has = true → b.B ≠ B) → w'.heap[B]? = w.heap[B]?)
    (hfrom : b'.has = true → w.heap.size ≤ b'.B ∨ ∃ b, m l = some b ∧ b.has = true ∧ b.B = b'.B)
    (hlow : b'.has = true → b'.B < w'.heap.size) (hnil : b'.has = false → els = [])
    (hthere : b'.has = true → ∀ off, off < b'.top → ∃ v, w'.cell? ⟨b'.B, off, none⟩ = some v) (hfree : b'.has = true → ∀ off, off < b'.top → w'.frozen? ⟨b'.B, off, none⟩ = false)
    (hfit : b'.has = true → b'.o + els.length * b'.k ≤ b'.top) (hw : ∀ i (h : i < els.length), els[i].length = b'.k)
    (hv : b'.has = true → ∀ i (h : i < els.length) j (h' : j < els[i].length), ∃ v, w'.cell? ⟨b'.B, b'.o + i * b'.k + j, none⟩ = some v ∧ V A m st.length w els[i][j] v) :
    R A ((m.put l none).put st.length (some b')) w' (st.set l none ++ [some (b'.k, els)]) ∧ Step A m st.length w A ((m.put l none).put st.length (some b')) (st.length + 1) w' := by
  have hS : Step A m st.length w A ((m.put l none).put st.length (some b')) (st.length + 1) w' := by
    refine ⟨Nat.le_succ _, hsize, fun _ h => h, fun _ h => .inl h, fun x hx => ?_, fun x b h hh => ?_, fun B hB ho => hheap B hB (ho l), hos, htape, hout⟩
    · simp only [BM.put]
      rw [if_neg (by omega)]
      split
      · exact .inr rfl
      · exact .inl rfl
    · simp only [BM.put] at h
      split at h
      · cases h
        rcases hfrom hh with h1 | ⟨b, h1, h2, h3⟩
        · exact .inl h1
        · exact .inr ⟨l, b, h1, h2, h3⟩
      · split at h
        · cases h
        · exact .inr ⟨x, b, h, hh, rfl⟩
  have hV : ∀ av v, V A m st.length w av v → V A ((m.put l none).put st.length (some b')) (st.length + 1) w' av v := fun av v h => h.step hR hS
  have hlen : (st.set l none ++ [some (b'.k, els)]).length = st.length + 1 := by simp
  have hold : ∀ x b, ((m.put l none).put st.length (some b')) x = some b → x ≠ st.length → x ≠ l ∧ m x = some b := fun x b h hx => by
    simp only [BM.put, if_neg hx] at h
    split at h
    · cases h
    · exact ⟨by assumption, h⟩
  have hapart : ∀ x b, x ≠ l → m x = some b → b.has = true → b'.has = true → b.B ≠ b'.B := fun x b hx hb hh hh' he => by
    rcases hfrom hh' with h1 | ⟨b1, h1, h2, h3⟩
    · have := hR.low hb hh; omega
    · exact hx (hR.inj x l b b1 hb h1 hh h2 (he.trans h3.symm))
  refine ⟨⟨fun B hB => Nat.lt_of_lt_of_le (hR.aLow B hB) hsize, fun B1 x b h1 h2 hh h3 => ?_, fun x x' b1 b2 h1 h2 hh1 hh2 h3 => ?_, fun x b h => ?_, fun x k1 els1 he => ?_⟩, hS⟩
  · by_cases e : x = st.length
    · subst e
      simp [BM.put] at h2; subst h2
      rcases hfrom hh with h4 | ⟨b1, h4, h5, h6⟩
      · have := hR.aLow B1 h1; omega
      · exact hR.aOwn B1 l b1 h1 h4 h5 (h6.trans h3)
    · exact hR.aOwn B1 x b h1 (hold x b h2 e).2 hh h3
  · by_cases e : x = st.length <;> by_cases e' : x' = st.length
    · rw [e, e']
    · subst e
      simp [BM.put] at h1; subst h1
      obtain ⟨h4, h5⟩ := hold x' b2 h2 e'
      exact absurd h3.symm (hapart x' b2 h4 h5 hh2 hh1)
    · subst e'
      simp [BM.put] at h2; subst h2
      obtain ⟨h4, h5⟩ := hold x b1 h1 e
      exact absurd h3 (hapart x b1 h4 h5 hh1 hh2)
    · exact hR.inj x x' b1 b2 (hold x b1 h1 e).2 (hold x' b2 h2 e').2 hh1 hh2 h3
  · by_cases e : x = st.length
    · subst e; simp [BM.put] at h; subst h; exact ⟨els, by simp⟩
    · obtain ⟨h4, h5⟩ := hold x b h e
      obtain ⟨els', he⟩ := hR.live x b h5
      exact ⟨els', by rw [List.getElem?_append_left (by simpa using hR.lt h5), List.getElem?_set_ne (Ne.symm h4)]; exact he⟩
  · rw [hlen]
    by_cases e : x = st.length
    · subst e
      have he' : some (b'.k, els) = some (k1, els1) := by simpa [List.getElem?_append_right] using he
      simp at he'
      obtain ⟨rfl, rfl⟩ := he'
      refine ⟨b', by simp [BM.put], rfl, fun hh => ⟨hlow hh, hthere hh, hfree hh, hfit hh, hw, fun i hi j hj => ?_⟩, hnil⟩
      obtain ⟨v, h1, h2⟩ := hv hh i hi j hj
      exact ⟨v, h1, hV _ _ h2⟩
    · have hl : x < st.length := by
        rcases Nat.lt_or_ge x st.length with h | h
        · exact h
        · rw [List.getElem?_append_right (by simpa using h), List.getElem?_eq_none (by simp; omega)] at he; cases he
      rw [List.getElem?_append_left (by simpa using hl)] at he
      by_cases e' : l = x
      · subst e'; rw [List.getElem?_set_self hl] at he; cases he
      · rw [List.getElem?_set_ne e'] at he
        obtain ⟨b, h1, h2, h3, h4⟩ := hR.blk x k1 els1 he
        refine ⟨b, by simp [BM.put, e, Ne.symm e', h1], h2, fun hh => (h3 hh).keep hsize (hheap _ (h3 hh).low fun b1 h5 h6 h7 => e' (hR.inj l x b1 b h5 h1 h6 hh h7)) hV, h4⟩

theorem R.push {A : Nat → Prop} {m : BM} {w w' : World} {st : St} (hR : R A m w st) (hg : Grow w w') (b' : Blk) (els : List (List AV))
    (hfrom : b'.has = true → w.heap.size ≤ b'.B ∧ b'.B < w'.heap.size) (hnil : b'.has = false → els = [])
    (hthere : b'.has = true → ∀ off, off < b'.top → ∃ v, w'.cell? ⟨b'.B, off, none⟩ = some v) (hfree : b'.has = true → ∀ off, off < b'.top → w'.frozen? ⟨b'.B, off, none⟩ = false)
    (hfit : b'.has = true → b'.o + els.length * b'.k ≤ b'.top) (hw : ∀ i (h : i < els.length), els[i].length = b'.k)
    (hv : b'.has = true → ∀ i (h : i < els.length) j (h' : j < els[i].length), ∃ v, w'.cell? ⟨b'.B, b'.o + i * b'.k + j, none⟩ = some v ∧ V A m st.length w els[i][j] v) :
    R A (m.put st.length (some b')) w' (st ++ [some (b'.k, els)]) ∧ Step A m st.length w A (m.put st.length (some b')) (st.length + 1) w' := by
  have h := hR.swap st.length b' els hg.size hg.os hg.tape hg.output (fun B hB _ => hg.heap B hB) (fun hh => .inl (hfrom hh).1) (fun hh => (hfrom hh).2) hnil hthere hfree hfit hw hv
  have e1 : (m.put st.length none).put st.length (some b') = m.put st.length (some b') := by funext x; simp only [BM.put]; split <;> rfl
  have e2 : st.set st.length none = st := List.set_eq_of_length_le (Nat.le_refl _)
  rw [e1, e2] at h
  exact h

/-! ### Stores -/
theorem setCells_heap (b : Nat) : ∀ (vs : List Value) (o : Nat) (w : World) (k : Nat), k ≠ b → (w.setCells b o vs).heap[k]? = w.heap[k]?
  | [], _, _, _, _ => rfl
  | v :: r, o, w, k, h => by rw [World.setCells, setCells_heap b r (o + 1) _ k h, Go.RowKit.Below.heap_setCell _ _ _ _ (by simpa using h)]
theorem setCells_size (b : Nat) : ∀ (vs : List Value) (o : Nat) (w : World), (w.setCells b o vs).heap.size = w.heap.size
  | [], _, _ => rfl
  | v :: r, o, w => by rw [World.setCells, setCells_size b r]; simp [World.setCell]
theorem setCells_os (b : Nat) : ∀ (vs : List Value) (o : Nat) (w : World), (w.setCells b o vs).os = w.os ∧ (w.setCells b o vs).tape = w.tape ∧ (w.setCells b o vs).output = w.output
  | [], _, _ => ⟨rfl, rfl, rfl⟩
  | v :: r, o, w => by rw [World.setCells]; exact setCells_os b r (o + 1) _

theorem setCells_there (b o : Nat) (vs : List Value) (w : World) (hh : ∀ j, j < vs.length → ∃ u, w.cell? ⟨b, o + j, none⟩ = some u) (off : Nat) {v : Value} (h : w.cell? ⟨b, off, none⟩ = some v) :
    ∃ v, (w.setCells b o vs).cell? ⟨b, off, none⟩ = some v := by
  by_cases ho : o ≤ off ∧ off < o + vs.length
  · have := World.cell?_setCells_in b vs o w (fun j hj => by obtain ⟨u, hu⟩ := hh j hj; simp [hu]) (off - o) (by omega)
    rw [show o + (off - o) = off by omega] at this
    exact ⟨_, this⟩
  · exact ⟨v, by rw [World.cell?_setCells_out b vs o w _ (fun _ _ => by simp; omega)]; exact h⟩

theorem mul_lt_of_lt {i i' k j : Nat} (h : i' < i) (hj : j < k) : i' * k + j < i * k := by
  have h1 : (i' + 1) * k ≤ i * k := Nat.mul_le_mul_right k h
  rw [Nat.add_mul, Nat.one_mul] at h1
  omega

/-- Row i of a block, its cells from j on written. -/
def setRow (els : List (List AV)) (i j : Nat) (cs : List AV) : List (List AV) :=
  match els[i]? with
  | some r => els.set i (r.take j ++ cs ++ r.drop (j + cs.length))
  | none => els

theorem R.store {A : Nat → Prop} {m : BM} {w : World} {st : St} (hR : R A m w st) {l k : Nat} {els : List (List AV)} (hl : st[l]? = some (some (k, els))) {b : Blk} (hb : m l = some b) (hh : b.has = true)
    (i j : Nat) (cs : List AV) (vs : List Value) (hi : i < els.length) (hj : j + cs.length ≤ k) (hn : vs.length = cs.length)
    (hv : ∀ q (h : q < cs.length), V A m st.length w cs[q] (vs.getD q undef)) :
    R A m (w.setCells b.B (b.o + i * b.k + j) vs) (st.set l (some (k, setRow els i j cs))) ∧ Step A m st.length w A m st.length (w.setCells b.B (b.o + i * b.k + j) vs) := by
  obtain ⟨hk, hok, _⟩ := hR.at hb hl
  replace hok := hok hh
  have hos := setCells_os b.B vs (b.o + i * b.k + j) w
  have hsz := setCells_size b.B vs (b.o + i * b.k + j) w
  have hS : Step A m st.length w A m st.length (w.setCells b.B (b.o + i * b.k + j) vs) :=
    ⟨Nat.le_refl _, by rw [hsz]; exact Nat.le_refl _, fun _ h => h, fun _ h => .inl h, fun _ _ => .inl rfl, fun l b h hh => .inr ⟨l, b, h, hh, rfl⟩,
      fun B _ ho => setCells_heap _ _ _ _ _ (fun e => ho l b hb hh e.symm), hos.1, hos.2.1, hos.2.2⟩
  have hV : ∀ av v, V A m st.length w av v → V A m st.length (w.setCells b.B (b.o + i * b.k + j) vs) av v := fun av v h => h.step hR hS
  have hlt : l < st.length := hR.lt hb
  have hrow : els[i]? = some els[i] := List.getElem?_eq_getElem hi
  have hwi : els[i].length = k := (hok.wide i hi).trans hk
  have hfit := hok.fit
  have hin : b.o + i * b.k + j + vs.length ≤ b.top := by
    have h1 : (i + 1) * b.k ≤ els.length * b.k := Nat.mul_le_mul_right _ hi
    rw [Nat.add_mul, Nat.one_mul] at h1
    omega
  refine ⟨⟨fun B hB => by rw [hsz]; exact hR.aLow B hB, hR.aOwn, hR.inj, fun l' b' h => ?_, fun l' k' els' he => ?_⟩, hS⟩
  · obtain ⟨els', he⟩ := hR.live l' b' h
    by_cases e : l' = l
    · subst e
      have : b' = b := Option.some.inj (h.symm.trans hb)
      subst this
      exact ⟨setRow els i j cs, by simp [hlt, hk]⟩
    · exact ⟨els', by rw [List.getElem?_set_ne (Ne.symm e)]; exact he⟩
  · rw [List.length_set]
    by_cases e : l' = l
    · subst e
      rw [List.getElem?_set_self hlt] at he
      simp at he
      obtain ⟨rfl, rfl⟩ := he
      have hsr : setRow els i j cs = els.set i (els[i].take j ++ cs ++ els[i].drop (j + cs.length)) := by simp [setRow, hrow]
      have hrl : (els[i].take j ++ cs ++ els[i].drop (j + cs.length)).length = k := by simp; omega
      refine ⟨b, hb, hk, fun _ => ⟨by rw [hsz]; exact hok.low, fun off ho => ?_, fun off ho => ?_, ?_, fun i' hi' => ?_, fun i' hi' j' hj' => ?_⟩, fun h => by rw [hh] at h; cases h⟩
      · obtain ⟨v, h1⟩ := hok.there off ho
        exact setCells_there _ _ _ _ (fun q hq => hok.there _ (by omega)) off h1
      · rw [World.frozen?_setCells]; exact hok.free off ho
      · simpa [hsr] using hok.fit
      · simp only [hsr, List.getElem_set]
        split
        · rw [hrl, hk]
        · exact hok.wide i' (by simpa [hsr] using hi')
      · have hi2 : i' < els.length := by simpa [hsr] using hi'
        have hw2 := hok.wide i' hi2
        by_cases e : i = i'
        · subst e
          have hj2 : j' < k := by
            have : (setRow els i j cs)[i].length = k := by simp [hsr]; omega
            omega
          have hget : some ((setRow els i j cs)[i][j']) = (els[i].take j ++ cs ++ els[i].drop (j + cs.length))[j']? := by
            simp [hsr]
          by_cases h1 : j' < j
          · have h9 : (els[i].take j ++ cs ++ els[i].drop (j + cs.length))[j']? = els[i][j']? := by
              rw [List.append_assoc, List.getElem?_append_left (by simp; omega), List.getElem?_take, if_pos h1]
            rw [h9, List.getElem?_eq_getElem (by omega : j' < els[i].length)] at hget
            rw [Option.some.inj hget]
            obtain ⟨v, h2, h3⟩ := hok.val i hi j' (by omega)
            refine ⟨v, ?_, hV _ _ h3⟩
            rw [World.cell?_setCells_out b.B vs _ w _ (fun _ _ => .inl (by simp; omega))]
            exact h2
          · by_cases h2 : j' < j + cs.length
            · have h9 : (els[i].take j ++ cs ++ els[i].drop (j + cs.length))[j']? = cs[j' - j]? := by
                rw [List.getElem?_append_left (by simp; omega), List.getElem?_append_right (by simp; omega)]
                congr 1
                simp; omega
              rw [h9, List.getElem?_eq_getElem (by omega : j' - j < cs.length)] at hget
              rw [Option.some.inj hget]
              have h3 := World.cell?_setCells_in b.B vs (b.o + i * b.k + j) w (fun q hq => by obtain ⟨u, hu⟩ := hok.there (b.o + i * b.k + j + q) (by omega); simp [hu]) (j' - j) (by omega)
              refine ⟨_, by rw [show b.o + i * b.k + j' = b.o + i * b.k + j + (j' - j) by omega]; exact h3, ?_⟩
              have h4 := hv (j' - j) (by omega)
              rw [List.getD_eq_getElem?_getD, List.getElem?_eq_getElem (by omega : j' - j < vs.length)] at h4
              exact hV _ _ (by simpa using h4)
            · have h9 : (els[i].take j ++ cs ++ els[i].drop (j + cs.length))[j']? = els[i][j']? := by
                rw [List.getElem?_append_right (by simp; omega), List.getElem?_drop]
                congr 1
                simp; omega
              rw [h9, List.getElem?_eq_getElem (by omega : j' < els[i].length)] at hget
              rw [Option.some.inj hget]
              obtain ⟨v, h3, h4⟩ := hok.val i hi j' (by omega)
              refine ⟨v, ?_, hV _ _ h4⟩
              rw [World.cell?_setCells_out b.B vs _ w _ (fun _ _ => .inr (by simp; omega))]
              exact h3
        · have hget : (setRow els i j cs)[i'] = els[i'] := by simp [hsr, e]
          have hj2 : j' < els[i'].length := by rw [← hget]; exact hj'
          have hget2 : (setRow els i j cs)[i'][j'] = els[i'][j'] := by simp [hsr, e]
          rw [hget2]
          obtain ⟨v, h3, h4⟩ := hok.val i' hi2 j' hj2
          refine ⟨v, ?_, hV _ _ h4⟩
          rw [World.cell?_setCells_out b.B vs _ w _ (fun _ _ => ?_)]
          · exact h3
          · simp
            rcases Nat.lt_or_gt_of_ne e with h5 | h5
            · right
              have := mul_lt_of_lt (k := b.k) (j := b.k - 1) h5 (by omega)
              omega
            · left
              have := mul_lt_of_lt (k := b.k) (j := j') h5 (by omega)
              omega
    · rw [List.getElem?_set_ne (Ne.symm e)] at he
      obtain ⟨b', h1, h2, h3, h4⟩ := hR.blk l' k' els' he
      refine ⟨b', h1, h2, fun hh' => (h3 hh').keep (by rw [hsz]; exact Nat.le_refl _) (setCells_heap _ _ _ _ _ (fun e' => e (hR.inj l' l b' b h1 hb hh' hh e'))) hV, h4⟩

end Go.Proofs.YthhkdanpjcnegaaGreat
