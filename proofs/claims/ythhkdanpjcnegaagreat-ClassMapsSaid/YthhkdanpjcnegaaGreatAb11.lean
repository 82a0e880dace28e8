/- The abstract layer, part 11: renumbering by lists; loops; a nil slice as a block of the call's own. -/
import Derived.Test.YthhkdanpjcnegaaGreatAb10
namespace Go.Proofs.YthhkdanpjcnegaaGreat
set_option linter.unusedSimpArgs false
set_option linter.unusedVariables false
set_option linter.unusedSectionVars false

theorem take_map_full {α β : Type} (f : α → β) (l : List α) : (l.map f).take l.length = l.map f := List.take_of_length_le (by simp)

/-- New number to old number, as a list. -/
def mapL (L : List (Option Nat)) (l : Nat) : Option Nat := (L[l]?).bind id

def RnStL (ρ : Nat → Option Nat) : List (Option Nat) → St → St → Prop
  | [], [], _ => True
  | none :: L, none :: s0, st => RnStL ρ L s0 st
  | some l' :: L, some (k, els0) :: s0, st => (∃ els, st[l']? = some (some (k, els)) ∧ RnRows ρ els0 els) ∧ RnStL ρ L s0 st
  | _, _, _ => False

theorem RnStL.len {ρ} : ∀ {L : List (Option Nat)} {s0 st : St}, RnStL ρ L s0 st → L.length = s0.length
  | [], [], _, _ => rfl
  | [], _ :: _, _, h => h.elim
  | none :: L, [], _, h => h.elim
  | some _ :: L, [], _, h => h.elim
  | none :: L, none :: s0, st, h => by simpa using RnStL.len (L := L) (s0 := s0) (st := st) h
  | none :: L, some _ :: s0, st, h => h.elim
  | some _ :: L, none :: s0, st, h => h.elim
  | some l' :: L, some (k, e) :: s0, st, h => by simpa using RnStL.len h.2

theorem RnStL.get {ρ} : ∀ {L : List (Option Nat)} {s0 st : St}, RnStL ρ L s0 st → ∀ l, (∀ l', mapL L l = some l' → ∃ k els0 els, s0[l]? = some (some (k, els0)) ∧ st[l']? = some (some (k, els)) ∧ RnRows ρ els0 els) ∧
    ∀ k els0, s0[l]? = some (some (k, els0)) → ∃ l', mapL L l = some l'
  | [], [], _, _, l => ⟨fun l' h => by simp [mapL] at h, fun k e h => by simp at h⟩
  | [], _ :: _, _, h, _ => h.elim
  | none :: L, [], _, h, _ => h.elim
  | some _ :: L, [], _, h, _ => h.elim
  | none :: L, some _ :: s0, st, h, _ => h.elim
  | some _ :: L, none :: s0, st, h, _ => h.elim
  | none :: L, none :: s0, st, h, l => by
    cases l with
    | zero => exact ⟨fun l' h' => by simp [mapL] at h', fun k e h' => by simp at h'⟩
    | succ l => simpa [mapL] using RnStL.get (L := L) (s0 := s0) (st := st) h l
  | some x :: L, some (k, e) :: s0, st, h, l => by
    cases l with
    | zero =>
      obtain ⟨els, h1, h2⟩ := h.1
      refine ⟨fun l' h' => ?_, fun k' e' h' => ⟨x, by simp [mapL]⟩⟩
      simp [mapL] at h'
      subst h'
      exact ⟨k, e, els, by simp, h1, h2⟩
    | succ l => simpa [mapL] using RnStL.get h.2 l

/-- The numbers in such a list, each once. -/
def someNodup (L : List (Option Nat)) : Bool := decide (L.filterMap id).Nodup

theorem filterMap_nodup_inj : ∀ {L : List (Option Nat)}, (L.filterMap id).Nodup → ∀ l1 l2 x, mapL L l1 = some x → mapL L l2 = some x → l1 = l2
  | [], _, l1, _, x, h1, _ => by simp [mapL] at h1
  | none :: L, h, l1, l2, x, h1, h2 => by
    cases l1 with
    | zero => simp [mapL] at h1
    | succ l1 =>
      cases l2 with
      | zero => simp [mapL] at h2
      | succ l2 => rw [filterMap_nodup_inj (L := L) (by simpa using h) l1 l2 x (by simpa [mapL] using h1) (by simpa [mapL] using h2)]
  | some y :: L, h, l1, l2, x, h1, h2 => by
    have hn : y ∉ L.filterMap id ∧ (L.filterMap id).Nodup := by simpa using h
    have hmem : ∀ l, mapL L l = some x → x ∈ L.filterMap id := fun l hl => by
      cases hq : L[l]? with
      | none => simp [mapL, hq] at hl
      | some o =>
        simp [mapL, hq] at hl
        subst hl
        exact List.mem_filterMap.2 ⟨some x, List.mem_of_getElem? hq, rfl⟩
    cases l1 with
    | zero =>
      have e1 : y = x := by simpa [mapL] using h1
      subst e1
      cases l2 with
      | zero => rfl
      | succ l2 => exact absurd (hmem l2 (by simpa [mapL] using h2)) hn.1
    | succ l1 =>
      cases l2 with
      | zero =>
        have e1 : y = x := by simpa [mapL] using h2
        subst e1
        exact absurd (hmem l1 (by simpa [mapL] using h1)) hn.1
      | succ l2 => rw [filterMap_nodup_inj (L := L) hn.2 l1 l2 x (by simpa [mapL] using h1) (by simpa [mapL] using h2)]

theorem RnSt.ofL {L : List (Option Nat)} {st0 st : St} (hn : someNodup L = true) (h : RnStL (mapL L) L st0 st) : RnSt (mapL L) st0 st :=
  ⟨fun l l' hl => (h.get l).1 l' hl, fun l k e he => (h.get l).2 k e he, filterMap_nodup_inj (of_decide_eq_true hn)⟩

theorem RnRows.same {ρ} {els : List (List AV)} (h : ∀ r ∈ els, ∀ x ∈ r, Imm x) : RnRows ρ els els :=
  ⟨rfl, fun i hi _ => ⟨rfl, fun j hj _ => .imm (h _ (List.getElem_mem hi) _ (List.getElem_mem hj))⟩⟩
theorem RnRows.bytes {ρ} (bs : List UInt8) : RnRows ρ (bs.map byteRow) (bs.map byteRow) :=
  RnRows.same fun r hr x hx => by
    obtain ⟨b, _, rfl⟩ := List.mem_map.1 hr
    simp [byteRow] at hx
    subst hx
    exact .lit _
theorem RnRows.nil {ρ} : RnRows ρ [] [] := ⟨rfl, fun i hi => by simp at hi⟩
theorem RnRows.one {ρ} {r r' : List AV} (hl : r.length = r'.length) (h : ∀ j (h1 : j < r.length) (h2 : j < r'.length), Rn ρ r[j] r'[j]) : RnRows ρ [r] [r'] :=
  ⟨rfl, fun i hi _ => by
    have : i = 0 := by simp at hi; exact hi
    subst this
    exact ⟨hl, h⟩⟩

/-- The first nb0 numbers stay, or go. -/
def idsOk (nb0 : Nat) (L : List (Option Nat)) : Bool := (List.range nb0).all fun l => match mapL L l with | some l' => l' == l | none => true

theorem idsOk_spec {nb0 : Nat} {L : List (Option Nat)} (h : idsOk nb0 L = true) : ∀ l l', mapL L l = some l' → l < nb0 → l' = l := fun l l' hl hlt => by
  have := (List.all_eq_true.1 h) l (List.mem_range.2 hlt)
  rw [hl] at this
  simpa using this

/-- The state (env, st) is, by other numbers and less knowledge, (env0, st0). nb0: numbers that stay. -/
def Canon (nb0 : Nat) (env0 : Ev) (st0 : St) (env : Ev) (st : St) : Prop :=
  ∃ L : List (Option Nat), EnvRn (mapL L) env0 env ∧ someNodup L = true ∧ RnStL (mapL L) L st0 st ∧ idsOk nb0 L = true ∧ nb0 ≤ st0.length

theorem sw_canon {P : Program} {n nb0 : Nat} {c : Code} {Q : Exit → Ev → St → Prop} {env env0 : Ev} {st st0 : St} (hc : Canon nb0 env0 st0 env st) (h : SW P n nb0 c Q env0 st0) : SW P n nb0 c Q env st := by
  obtain ⟨L, h1, h2, h3, h4, h5⟩ := hc
  exact sw_ren (mapL L) h1 (.ofL h2 h3) (idsOk_spec h4) h5 h

/-- A function's end, by other numbers. -/
theorem scall_canon {P : Program} {f : FuncId} {args : List AV} {st : St} {K : AV → St → Prop}
    (h : SCall P f args st fun av st' => ∃ L av0 st0, Rn (mapL L) av0 av ∧ someNodup L = true ∧ RnStL (mapL L) L st0 st' ∧ idsOk st.length L = true ∧ st.length ≤ st0.length ∧ K av0 st0) : SCall P f args st K :=
  scall_ren (h.mono fun av st' ⟨L, av0, st0, h1, h2, h3, h4, h5, h6⟩ => ⟨mapL L, av0, st0, h1, .ofL h2 h3, idsOk_spec h4, h5, h6⟩)

/-- Ways meet again. -/
theorem sw_join {P : Program} {n nb0 : Nat} {x y : Code} {Q : Exit → Ev → St → Prop} {env : Ev} {st : St} (env0 : Ev) (st0 : St) (h : SW P n nb0 x (thenQ (fun env st => Canon nb0 env0 st0 env st) Q) env st) (k : SW P n nb0 y Q env0 st0) : SW P n nb0 (.seq x y) Q env st :=
  sw_seq (h.mono fun e env st h => by cases e <;> first | exact sw_canon h k | exact h)

theorem sw_joins {P : Program} {n nb0 : Nat} {x y : Code} {Q : Exit → Ev → St → Prop} {env : Ev} {st : St} {X : Type} (E : X → Ev) (S : X → St) (I : X → Prop)
    (h : SW P n nb0 x (thenQ (fun env st => ∃ z, I z ∧ Canon nb0 (E z) (S z) env st) Q) env st) (k : ∀ z, I z → SW P n nb0 y Q (E z) (S z)) : SW P n nb0 (.seq x y) Q env st :=
  sw_seq (h.mono fun e env st h => by cases e <;> first | (obtain ⟨z, h1, h2⟩ := h; exact sw_canon h2 (k z h1)) | exact h)

/-- A nil slice in a slot is a block of the call's own, of no rows. -/
theorem sw_nil {P : Program} {n nb0 : Nat} {c : Code} {Q : Exit → Ev → St → Prop} {env : Ev} {st : St} (t k : Nat) (ht : look env t = some (.lit (.slice none 0 0)))
    (h : SW P n nb0 c Q ((t, .msl st.length 0 0) :: env) (st ++ [some (k, [])])) : SW P n nb0 c Q env st := by
  intro A m w a h0 hR hE
  have hp := hR.push (Grow.refl w) ⟨false, 0, 0, k, 0⟩ [] (fun h => by cases h) (fun _ => rfl)
    (fun h => by cases h) (fun h => by cases h) (fun h => by cases h) (fun q hq => by cases hq) (fun h => by cases h)
  have hlen : (st ++ [some (k, [])]).length = st.length + 1 := by simp
  obtain ⟨h1, h2⟩ := hE.val t _ ht
  have hE' : Env A (m.put st.length (some ⟨false, 0, 0, k, 0⟩)) (st ++ [some (k, [])]).length w n ((t, .msl st.length 0 0) :: env) a := by
    have hE2 := hE.step hR hp.2
    refine ⟨hE.size, fun x v hx => ?_, hE.defers⟩
    simp only [look] at hx
    split at hx
    · rename_i e; subst e; cases hx
      refine ⟨h1, ?_⟩
      rw [h2.lit_inv, hlen]
      exact .msl _ _ _ _ _ _ (Nat.lt_succ_self _) fun b hb => ⟨rfl, Nat.le_refl _, .inl rfl⟩
    · have := hE2.val x v hx
      rw [hlen]; exact this
  exact wp_mono (h A _ w a (by rw [hlen]; omega) hp.1 hE') fun _ _ _ k => k.trans (hp.2.weak h0)

/-- A nil slice handed to a call is a block of the call's own, of no rows. -/
theorem scall_nil {P : Program} {f : FuncId} {pre post : List AV} {st : St} {K : AV → St → Prop} (k : Nat) (h : SCall P f (pre ++ .msl st.length 0 0 :: post) (st ++ [some (k, [])]) K) :
    SCall P f (pre ++ .lit (.slice none 0 0) :: post) st K := by
  refine ⟨h.1, fun A m w vals hR hv => ?_⟩
  have hp := hR.push (Grow.refl w) ⟨false, 0, 0, k, 0⟩ [] (fun h => by cases h) (fun _ => rfl)
    (fun h => by cases h) (fun h => by cases h) (fun h => by cases h) (fun q hq => by cases hq) (fun h => by cases h)
  have hlen : (st ++ [some (k, [])]).length = st.length + 1 := by simp
  refine (h.2 A _ w vals hp.1 (VL.of (by simpa using hv.1) fun q x hx => ?_)).mono fun e w' ⟨v, A', m', st', av, he, h1, h2, h3, h4⟩ => ⟨v, A', m', st', av, he, h1, hp.2.trans (by rw [← hlen]; exact h2), h3, h4⟩
  rw [hlen]
  by_cases hq : q = pre.length
  · subst hq
    have : x = .msl st.length 0 0 := by simpa using hx.symm
    subst this
    have h5 := hv.get (q := pre.length) (x := .lit (.slice none 0 0)) (by simp)
    rw [h5.lit_inv]
    exact .msl _ _ _ _ _ _ (Nat.lt_succ_self _) fun b hb => ⟨rfl, Nat.le_refl _, .inl rfl⟩
  · have h5 : (pre ++ .lit (.slice none 0 0) :: post)[q]? = some x := by
      rw [← hx]
      by_cases h6 : q < pre.length
      · rw [List.getElem?_append_left h6, List.getElem?_append_left h6]
      · rw [List.getElem?_append_right (by omega), List.getElem?_append_right (by omega)]
        obtain ⟨r, hr⟩ : ∃ r, q - pre.length = r + 1 := ⟨q - pre.length - 1, by omega⟩
        rw [hr]; simp
    exact (hv.get h5).step hR hp.2

/-- No address in it. -/
inductive Plain : AV → Prop
  | any : Plain .any
  | lit (v) : Plain (.lit v)
  | agg (cs) (h : ∀ x ∈ cs, Plain x) : Plain (.agg cs)
  | tup (cs) (h : ∀ x ∈ cs, Plain x) : Plain (.tup cs)

theorem Plain.vi {A A' : Nat → Prop} {w w' : World} {av : AV} (hp : Plain av) : ∀ {v}, VI A w av v → VI A' w' av v := by
  induction hp with
  | any => exact fun {v} _ => .any v
  | lit x => intro v h; cases h; exact .lit _
  | agg cs _ ih => intro v h; cases h with | agg _ a hs hv => exact .agg _ _ hs fun i hi => ih _ (List.getElem_mem hi) (hv i hi)
  | tup cs _ ih => intro v h; cases h with | tup _ a hs hv => exact .tup _ _ hs fun i hi => ih _ (List.getElem_mem hi) (hv i hi)

theorem plain_tup {l : List Value} : Plain (.tup (l.map .lit)) := .tup _ fun x hx => by
  obtain ⟨v, _, rfl⟩ := List.mem_map.1 hx
  exact .lit v

/-- A call that only reads, from blocks of the call's own, where what is handed back holds no address. -/
theorem scall_sealp {P : Program} {f : FuncId} {args args' : List AV} {st : St} {r : AV} {K : AV → St → Prop} (h : PureC P f args' r) (hp : Plain r) (hs : SealL st args args') (hk : K r st) : SCall P f args st K := by
  refine ⟨h.1, fun A m w vals hR hv => (h.2 (fun B => B < w.heap.size) w vals (fun B hB => hB) ⟨by rw [← hs.get.1]; exact hv.1, fun i hi' => (hs.get.2 i (by rw [hs.get.1]; exact hi') hi').vi hR hR.aLow (fun _ _ hb hh => hR.low hb hh) (hv.2 i (by rw [hs.get.1]; exact hi'))⟩).mono fun e w' ⟨v, he, hg, hvi⟩ => ?_⟩
  obtain ⟨h1, h2⟩ := hR.grow' hg
  exact ⟨v, A, m, st, _, he, h1, h2, .imm (hp.vi hvi), hk⟩

/-- Rows without addresses into the call's own, sealed. -/
theorem seal_rows {st : St} {l i n k : Nat} {els : List (List AV)} (h : st[l]? = some (some (k, els))) (hin : i + n ≤ els.length) (hi : ∀ r ∈ els, ∀ x ∈ r, Imm x) : Seal st (.msl l i n) (.isl k ((els.drop i).take n)) := by
  have hget : ∀ q (h1 : i + q < els.length) (h2 : q < ((els.drop i).take n).length), els[i + q] = ((els.drop i).take n)[q] := fun q h1 h2 => by simp
  refine .msl h hin (by simp; omega) (fun q _ h1 h2 => by rw [hget q h1 h2]) fun q _ h1 h2 j h3 h4 => ?_
  have e : els[i + q][j] = ((els.drop i).take n)[q][j] := by
    have := hget q h1 h2
    simp only [this]
  rw [e]
  exact .imm (hi _ (List.mem_of_mem_drop (List.mem_of_mem_take (List.getElem_mem h2))) _ (List.getElem_mem h4))

theorem imm_bytes (bs : List UInt8) : ∀ r ∈ bs.map byteRow, ∀ x ∈ r, Imm x := fun r hr x hx => by
  obtain ⟨b, _, rfl⟩ := List.mem_map.1 hr
  simp [byteRow] at hx
  subst hx
  exact .lit _

/-- Bytes of the call's own, sealed. -/
theorem seal_bytes {st : St} {l i n : Nat} {bs : List UInt8} (h : st[l]? = some (some (1, bs.map byteRow))) (hin : i + n ≤ bs.length) : Seal st (.msl l i n) (.isl 1 (((bs.drop i).take n).map byteRow)) := by
  have := seal_rows h (by simpa using hin) (imm_bytes bs)
  simpa [List.map_drop, List.map_take] using this

/-- All bytes of a block. -/
theorem seal_all {st : St} {l : Nat} {bs : List UInt8} (h : st[l]? = some (some (1, bs.map byteRow))) : Seal st (.msl l 0 bs.length) (.isl 1 (bs.map byteRow)) := by
  have := seal_bytes (i := 0) (n := bs.length) h (by omega)
  simpa using this

/-- A loop whose rounds begin, by other numbers, in a state of a family. -/
theorem sw_loop_canon {P : Program} {n nb0 : Nat} {c : Code} {Q : Exit → Ev → St → Prop} {env : Ev} {st : St} {X : Type} (E : X → Ev) (S : X → St) (I : X → Prop) (μ : X → Nat) (x0 : X) (hI : I x0) (h0 : Canon nb0 (E x0) (S x0) env st)
    (round : ∀ x, I x → SW P n nb0 c (thenQ (fun env st => ∃ y, I y ∧ μ y < μ x ∧ Canon nb0 (E y) (S y) env st) Q) (E x) (S x)) : SW P n nb0 (.loop c) Q env st := by
  refine sw_loop (fun k env st => ∃ x, I x ∧ μ x = k ∧ Canon nb0 (E x) (S x) env st) (μ x0) ⟨x0, hI, rfl, h0⟩ fun k env st ⟨x, h1, h2, h3⟩ => sw_canon h3 ((round x h1).mono fun e env st h => ?_)
  cases e with
  | normal =>
    obtain ⟨y, h4, h5, h6⟩ := h
    exact ⟨μ y, by omega, y, h4, rfl, h6⟩
  | _ => exact h

end Go.Proofs.YthhkdanpjcnegaaGreat
