/- LayoutNone: for every input the law returns true, and each argument reads as it read before. No further condition. Part 3 of 4. -/
import Derived.Test.YthmnlfenkhmmhaaGreatSn2
namespace Go.Proofs.YthmnlfenkhmmhaaGreat
set_option linter.unusedSimpArgs false
set_option linter.unusedVariables false
set_option linter.unusedSectionVars false
section
variable {P : Program} {k : Ko} {c : Cl} {e : Fe} {s : Sx} {env : Ev} {st : St} {r : Xo}
theorem cParts_i {S : Nat → Prop} (hE : EnvP S e env) (hr : r ≠ .no) {pl : Nat → Option (Nat × Nat)} {l : List (Nat × Nat)} (hpl : ∀ i, pl i = l[i]?) : ∀ {ps : List (Nat × Operand)} {h : Fe → XV → (XV → Xo) → Xo} {cs : XV} {k : XV → Xo}, cParts pl ps = .a h → h e cs k = r →
    (∀ i t, (i, Operand.tmp t) ∈ ps → S t) → ∃ parts cs', evParts env ps = some parts ∧ fillA l (decL cs) parts = some (decL cs') ∧ k cs' = r
  | [], h, cs, k, hc, hk, hS => by cases hc; exact ⟨[], cs, rfl, rfl, hk⟩
  | (i, x) :: ps, h, cs, k, hc, hk, hS => by
    unfold cParts at hc
    cases h1 : pl i with
    | none => rw [h1] at hc; cases hc
    | some os =>
      obtain ⟨off, size⟩ := os
      cases h2 : cev x with
      | g g =>
        cases h3 : cParts pl ps with
        | no => rw [h1, h2, h3] at hc; cases hc
        | a hp =>
          rw [h1, h2, h3] at hc
          cases hc
          obtain ⟨v, h4, h5⟩ := cev_i h2 hk hr hE (fun t e => hS i t (by rw [e]; simp))
          obtain ⟨xs, h6, h7, h8⟩ := cellsX_i h5 hr
          obtain ⟨y, h9, h10, h11⟩ := lput_i h8 hr h7.symm
          obtain ⟨parts, cs', h12, h13, h14⟩ := cParts_i hE hr hpl h3 h11 (fun j t h => hS j t (List.mem_cons_of_mem _ h))
          refine ⟨(i, dec v) :: parts, cs', ?_, ?_, h14⟩
          · unfold evParts
            rw [h4, h12]
          · unfold fillA
            rw [← hpl, h1, h6]
            simp only
            rw [if_pos ⟨h7, by omega⟩, ← h9]
            exact h13
theorem cRows_i {S : Nat → Prop} (hE : EnvP S e env) (hr : r ≠ .no) {size len : Nat} : ∀ {ps : List (Nat × Operand)} {h : Fe → Bt XV → (Bt XV → Xo) → Xo} {t : Bt XV} {n : Nat} {els : List (List AV)} {k : Bt XV → Xo}, cRows size len ps = .a h → h e t k = r → RepR n t els → n = len →
    (∀ i t, (i, Operand.tmp t) ∈ ps → S t) → ∃ parts els' t', evParts env ps = some parts ∧ fillR size els parts = some els' ∧ RepR n t' els' ∧ k t' = r
  | [], h, t, n, els, k, hc, hk, hR, hn, hS => by cases hc; exact ⟨[], els, t, rfl, rfl, hR, hk⟩
  | (i, x) :: ps, h, t, n, els, k, hc, hk, hR, hn, hS => by
    unfold cRows at hc
    cases h1 : Nat.blt i len with
    | false => rw [h1] at hc; cases hc
    | true =>
      cases h2 : cev x with
      | g g =>
        cases h3 : cRows size len ps with
        | no => rw [h1, h2, h3] at hc; cases hc
        | a hp =>
          rw [h1, h2, h3] at hc
          cases hc
          obtain ⟨v, h4, h5⟩ := cev_i h2 hk hr hE (fun t e => hS i t (by rw [e]; simp))
          obtain ⟨xs, h6, h7, h8⟩ := cellsX_i h5 hr
          have hi : i < els.length := by have := blt_of h1; have := hR.1; omega
          obtain ⟨parts, els', t', h12, h13, h14, h15⟩ := cRows_i hE hr h3 h8 (hR.put (x := xs) hi) hn (fun j t h => hS j t (List.mem_cons_of_mem _ h))
          refine ⟨(i, dec v) :: parts, els', t', ?_, ?_, h14, h15⟩
          · unfold evParts
            rw [h4, h12]
          · unfold fillR
            rw [h6]
            simp only
            rw [if_pos ⟨h7, hi⟩]
            exact h13
theorem inP {ps : Array (Nat × Operand)} {i t : Nat} (h : (i, Operand.tmp t) ∈ ps.toList) {o : Op} (ho : o.operands = (ps.toList.map (·.2)).toArray) : t ∈ opT o := inT (x := .tmp t) (by rw [ho]; simp; exact ⟨i, by simpa using h⟩) rfl
variable (hr : r ≠ .no) (hs : RepS s st)
include hr hs
theorem alloc_s {t : TypeId} (h : (match tiOf P t with | some ti => (match zeroX ti with | some z => (Cx.f fun c e s => newB s (.bk ti.size 1 (.nd z .lf .lf)) fun m s => k c (.p 1 m 0 0) e s) | none => cN) | none => cN).go c e s = r) : OpS P (.alloc t) k c e env st r := by
  cases ht : tiOf P t with
  | none => rw [ht] at h; exact absurd h.symm hr
  | some ti =>
    rw [ht] at h
    simp only at h
    cases hz : zeroX ti with
    | none => rw [hz] at h; exact absurd h.symm hr
    | some z =>
      rw [hz] at h
      have h' : (newB s (.bk ti.size 1 (.nd z .lf .lf)) fun m s => k c (.p 1 m 0 0) e s) = r := h
      obtain ⟨s', h1, h2⟩ := newB_i (z := some (ti.size, [litCells ti.zero])) h' hs ⟨rfl, RepR.one (zeroX_s hz)⟩
      exact ops_of rfl (v := .p 1 st.length 0 0) (by simp only [aop, ht]; rfl) h1 h2
theorem box_s {t : TypeId} {x : Operand} (h : (c1 (cev x) fun c v e s => Bool.rec (motive := fun _ => Xo) (asG v fun t cs => ifB (Nat.beq t 0) (ifB (allOne1 cs) (newB s (.bk (llen cs) 1 (.nd cs .lf .lf)) fun m s => k c (.p 1 m 0 0) e s))) (newB s (.bk 1 1 (.nd (.c v xnil) .lf .lf)) fun m s => k c (.p 1 m 0 0) e s) (oneX v)).go c e s = r)
    (hE : EnvP (fun t' => t' ∈ opT (.box t x)) e env) : OpS P (.box t x) k c e env st r := by
  obtain ⟨v, h1, h2⟩ := c1_i h hr hE (fun t' e => inT (by simp [Op.operands]) e)
  cases ho : oneX v with
  | true =>
    rw [ho] at h2
    obtain ⟨s', h3, h4⟩ := newB_i (z := some (1, [[dec v]])) h2 hs ⟨rfl, RepR.one rfl⟩
    exact ops_of rfl (by simp only [aop, h1, (oneX_one ho).2]; rfl) h3 h4
  | false =>
    rw [ho] at h2
    obtain ⟨t', cs, rfl, h3⟩ := asG_i h2 hr
    obtain ⟨h4, h5⟩ := ifB_i h3 hr
    obtain ⟨h6, h7⟩ := ifB_i h5 hr
    obtain ⟨s', h8, h9⟩ := newB_i (z := some (llen cs, [decL cs])) h7 hs ⟨rfl, RepR.one rfl⟩
    rw [beq_of h4] at h1
    have h1' : ev env x = some (.agg (decL cs)) := h1
    refine ops_of rfl ?_ h8 h9
    simp only [aop, h1', cellsA, if_pos (allOne_all h6), Option.map_some]
    rw [llen_eq]
    rfl
theorem load_s {t : TypeId} {p : Operand} (h : (cLoad P k t p).go c e s = r) (hE : EnvP (fun t' => t' ∈ opT (.load t p)) e env) : OpS P (.load t p) k c e env st r := by
  unfold cLoad at h
  cases ht : tiOf P t with
  | none => rw [ht] at h; exact absurd h.symm hr
  | some ti =>
    rw [ht] at h
    simp only at h
    cases ha : ti.k.isAgg with
    | none => rw [ha] at h; exact absurd h.symm hr
    | some b =>
      rw [ha] at h
      obtain ⟨v, h1, h2⟩ := c1_i h hr hE (fun t' e => inT (by simp [Op.operands]) e)
      obtain ⟨w, _, _, _, _, h3, h4⟩ := loadX_i ha h2 hr hs
      exact ops_of rfl (by simp [aop, ht, h1, h3]) hs h4
theorem store_s {t : TypeId} {p x : Operand} (h : (cStore P k t p x).go c e s = r) (hE : EnvP (fun t' => t' ∈ opT (.store t p x)) e env) : OpS P (.store t p x) k c e env st r := by
  unfold cStore at h
  cases ht : tiOf P t with
  | none => rw [ht] at h; exact absurd h.symm hr
  | some ti =>
    rw [ht] at h
    obtain ⟨v, w, h1, h2, h3⟩ := c2_i h hr hE (fun t' e => inT (by simp [Op.operands]) e) (fun t' e => inT (by simp [Op.operands]) e)
    obtain ⟨s', st', h4, h5, h6⟩ := storeX_i h3 hr hs
    exact ops_of rfl (v := .p 7 0 0 0) (by simp only [aop, ht, h1, h2, h4, Option.map_some]; rfl) h5 h6
theorem fa_s {t : TypeId} {x : Operand} {f : Nat} (h : (cFA P k t x f).go c e s = r) (hE : EnvP (fun t' => t' ∈ opT (.fieldAddr t x f)) e env) : OpS P (.fieldAddr t x f) k c e env st r := by
  unfold cFA at h
  cases ht : tiOf P t with
  | none => rw [ht] at h; exact absurd h.symm hr
  | some ti =>
    rw [ht] at h
    simp only at h
    cases hk : ti.k <;> rw [hk] at h <;> simp only at h
    case agg fs =>
      cases hf : fs[f]? with
      | none => rw [hf] at h; exact absurd h.symm hr
      | some os =>
        obtain ⟨off, sz⟩ := os
        rw [hf] at h
        simp only at h
        cases hz : Nat.beq sz 0 with
        | true => rw [hz] at h; exact absurd h.symm hr
        | false =>
          rw [hz] at h
          obtain ⟨v, h1, h2⟩ := c1_i h hr hE (fun t' e => inT (by simp [Op.operands]) e)
          obtain ⟨t', l, i, j, rfl, h3⟩ := asP_i h2 hr
          obtain ⟨h4, h5⟩ := ifB_i h3 hr
          obtain ⟨q, n, u, els, h6, h7, h8⟩ := rdB_i h5 hr hs
          have h9 := fr_i h8
          rw [beq_of h4] at h1
          have h1' : ev env x = some (.mpt l i j) := h1
          have hz' : ¬ sz = 0 := fun e => by rw [e] at hz; cases hz
          refine ops_of rfl (v := .p 1 l i (j + off)) (st' := st) ?_ hs h9
          simp only [aop, ht, h1', alive, h6, if_true, afield, hk, hf, if_neg hz', Option.map_some]
          rfl
    all_goals exact absurd h.symm hr
theorem ia_s {t : TypeId} {x ix : Operand} (h : (cIA P k t x ix).go c e s = r) (hE : EnvP (fun t' => t' ∈ opT (.indexAddr t x ix)) e env) : OpS P (.indexAddr t x ix) k c e env st r := by
  unfold cIA at h
  cases ht : tiE P t with
  | none => rw [ht] at h; exact absurd h.symm hr
  | some te =>
    rw [ht] at h
    obtain ⟨ti, w, t1, t2, t3⟩ := tiE_i ht
    obtain ⟨v, i, h1, h2, h3⟩ := c2_i h hr hE (fun t' e => inT (by simp [Op.operands]) e) (fun t' e => inT (by simp [Op.operands]) e)
    obtain ⟨q, n, h4, h5⟩ := asU_i h3 hr
    obtain ⟨v', h6, h7⟩ := indexX_i h5 hr hs
    rw [h4] at h2
    exact ops_of rfl (by simp [aop, t1, h1, h2, t2, t3, h6]) hs h7
theorem index_s {t : TypeId} {x ix : Operand} (h : (cIndex P k t x ix).go c e s = r) (hE : EnvP (fun t' => t' ∈ opT (.index t x ix)) e env) : OpS P (.index t x ix) k c e env st r := by
  have i1 : ∀ t', x = .tmp t' → t' ∈ opT (.index t x ix) := fun t' e => inT (by simp [Op.operands]) e
  have i2 : ∀ t', ix = .tmp t' → t' ∈ opT (.index t x ix) := fun t' e => inT (by simp [Op.operands]) e
  unfold cIndex at h
  cases ht : tiOf P t with
  | none => rw [ht] at h; exact absurd h.symm hr
  | some ti =>
    rw [ht] at h
    simp only at h
    cases hk : ti.k <;> rw [hk] at h <;> simp only at h
    case str =>
      obtain ⟨v, i, h1, h2, h3⟩ := c2_i h hr hE i1 i2
      obtain ⟨u, rfl, h4⟩ := asS_i h3 hr
      obtain ⟨q, n, h5, h6⟩ := asU_i h4 hr
      obtain ⟨b, h7, h8⟩ := oX_i h6 hr
      rw [h5] at h2
      have h1' : ev env x = some (.lit (.string ⟨⟨bts u⟩⟩)) := h1
      have hb : b < 256 := dg_lt u b (List.mem_of_getElem? h7)
      have e1 : (bts u)[n]? = some (UInt8.ofNat b) := by unfold bts; rw [List.getElem?_map, h7]; rfl
      have e2 : dec (.i 4 b) = .lit (.int .u8 (b : Int)) := by
        rw [show (4 : Nat) = kNo .u8 from rfl, dec_i, wrap_eq]
        simp only [half, lim]
        congr 2 <;> omega
      refine ops_of rfl (v := .i 4 b) (st' := st) ?_ hs h8
      simp only [aop, ht, h1', h2, hk, strAt, if_pos (Int.natCast_nonneg n), Int.toNat_natCast, e1, Option.map_some, toNat_of hb, e2]
    case arr n w =>
      cases he : tiOf P w with
      | none => rw [he] at h; exact absurd h.symm hr
      | some te =>
        rw [he] at h
        simp only at h
        have fact : ∀ {cs : List AV} {q : IntKind} {i : Nat} {v : AV}, ev env x = some (.agg cs) → ev env ix = some (.lit (.int q i)) → aixv te cs n i = some v → aop P env st (.index t x ix) = some (v, st) := fun a b d => by simp only [aop, ht, a, b, hk, he, d, Option.map_some]
        cases ha : te.k.isAgg with
        | none => rw [ha] at h; exact absurd h.symm hr
        | some b =>
          rw [ha] at h
          cases b with
          | true =>
            obtain ⟨v, i, h1, h2, h3⟩ := c2_i h hr hE i1 i2
            obtain ⟨t', cs, rfl, h4⟩ := asG_i h3 hr
            obtain ⟨h5, h6⟩ := ifB_i h4 hr
            obtain ⟨q, m, h7, h8⟩ := asU_i h6 hr
            obtain ⟨h9, h10⟩ := ifB_i h8 hr
            obtain ⟨y, h11, h12, h13⟩ := ldrop_i h10 hr
            obtain ⟨z, h14, h15, h16⟩ := ltake_i h13 hr
            rw [beq_of h5] at h1
            rw [h7] at h2
            refine ops_of rfl (v := .g 0 z) (st' := st) (fact h1 h2 ?_) hs h16
            unfold aixv
            rw [if_pos ⟨Int.natCast_nonneg _, by have := blt_of h9; omega⟩, ha]
            simp only [Int.toNat_natCast]
            rw [h11, List.length_drop] at h15
            rw [if_pos (by show m * te.size + te.size ≤ (decL cs).length; omega)]
            show some (AV.agg (((decL cs).drop (m * te.size)).take te.size)) = some (AV.agg (decL z))
            rw [h14, h11]
          | false =>
            obtain ⟨v, i, h1, h2, h3⟩ := c2_i h hr hE i1 i2
            obtain ⟨t', cs, rfl, h4⟩ := asG_i h3 hr
            obtain ⟨h5, h6⟩ := ifB_i h4 hr
            obtain ⟨q, m, h7, h8⟩ := asU_i h6 hr
            obtain ⟨h9, h10⟩ := ifB_i h8 hr
            obtain ⟨y, h11, h12⟩ := lnth_i h10 hr
            rw [beq_of h5] at h1
            rw [h7] at h2
            refine ops_of rfl (v := y) (st' := st) (fact h1 h2 ?_) hs h12
            unfold aixv
            rw [if_pos ⟨Int.natCast_nonneg _, by have := blt_of h9; omega⟩, ha]
            simp only [Int.toNat_natCast]
            exact h11
    all_goals exact absurd h.symm hr
theorem slice_s {t : TypeId} {x : Operand} {lo hi : Option Operand} (h : (cSlice P k t x lo hi).go c e s = r) (hE : EnvP (fun t' => t' ∈ opT (.slice t x lo hi none)) e env) : OpS P (.slice t x lo hi none) k c e env st r := by
  have i1 : ∀ t', x = .tmp t' → t' ∈ opT (.slice t x lo hi none) := fun t' e => inT (by simp [Op.operands]) e
  have i2 : ∀ t', lo = some (.tmp t') → t' ∈ opT (.slice t x lo hi none) := fun t' e => inT (x := .tmp t') (by subst e; simp [Op.operands]) rfl
  have i3 : ∀ t', hi = some (.tmp t') → t' ∈ opT (.slice t x lo hi none) := fun t' e => inT (x := .tmp t') (by subst e; simp [Op.operands]) rfl
  unfold cSlice at h
  cases ht : tiOf P t with
  | none => rw [ht] at h; exact absurd h.symm hr
  | some ti =>
    cases hx : cev x with
    | g g1 =>
      cases hl : cbnd lo with
      | g g2 =>
        cases hh : cbnd hi with
        | g g3 =>
          rw [ht, hx, hl, hh] at h
          simp only at h
          cases hk : ti.k <;> rw [hk] at h <;> simp only at h
          case slc w =>
            cases he : tiOf P w with
            | none => rw [he] at h; exact absurd h.symm hr
            | some te =>
              rw [he] at h
              obtain ⟨v, h1, h2⟩ := cev_i hx h hr hE i1
              obtain ⟨n, h3, _, h4⟩ := slen_i h2 hr
              obtain ⟨a, h5, h6⟩ := cbnd_i hE hl h4 hr i2
              obtain ⟨b, h7, h8⟩ := cbnd_i hE hh h6 hr i3
              obtain ⟨y, h9, h10⟩ := subX_i h8 hr hs
              exact ops_of rfl (by simp [aop, ht, h1, hk, h3, he, h5, h7, h9]) hs h10
          case str =>
            obtain ⟨v, h1, h2⟩ := cev_i hx h hr hE i1
            obtain ⟨u, rfl, h3⟩ := asS_i h2 hr
            obtain ⟨a, h5, h6⟩ := cbnd_i hE hl h3 hr i2
            obtain ⟨b, h7, h8⟩ := cbnd_i hE hh h6 hr i3
            obtain ⟨h9, h10⟩ := ifB_i h8 hr
            obtain ⟨h11, h12⟩ := ifB_i h10 hr
            have h13 := fr_i h12
            have h1' : ev env x = some (.lit (.string ⟨⟨bts u⟩⟩)) := h1
            have hn : alen (.lit (.string ⟨⟨bts u⟩⟩)) = some (dg u).length := by rw [← bts_len]; rfl
            refine ops_of rfl (v := .s (num (((dg u).drop a).take (b - a)))) (st' := st) ?_ hs h13
            have e1 : dec (.s (num (((dg u).drop a).take (b - a)))) = .lit (.string ⟨⟨((bts u).drop a).take (b - a)⟩⟩) := by
              show AV.lit (.string ⟨⟨bts (num (((dg u).drop a).take (b - a)))⟩⟩) = _
              rw [bts_of (fun x hx => dg_lt u x (List.mem_of_mem_drop (List.mem_of_mem_take hx)))]
              unfold bts
              rw [List.map_take, List.map_drop]
            simp only [aop, ht, h1', hk, hn, h5, h7]
            rw [if_pos ⟨ble_of h9, ble_of h11⟩, e1]
          all_goals exact absurd h.symm hr
theorem build_s {t : TypeId} {ps : Array (Nat × Operand)} (h : (cBuild P k t ps.toList).go c e s = r) (hE : EnvP (fun t' => t' ∈ opT (.build t ps)) e env) : OpS P (.build t ps) k c e env st r := by
  unfold cBuild at h
  cases ht : tiOf P t with
  | none => rw [ht] at h; exact absurd h.symm hr
  | some ti =>
    rw [ht] at h
    simp only at h
    cases hz : zeroX ti with
    | none => rw [hz] at h; cases hk : ti.k <;> rw [hk] at h <;> exact absurd h.symm hr
    | some z =>
      rw [hz] at h
      cases hk : ti.k <;> rw [hk] at h <;> simp only at h
      case agg pl =>
        cases hp : cParts (fun i => pl[i]?) ps.toList with
        | no => rw [hp] at h; exact absurd h.symm hr
        | a hf =>
          rw [hp] at h
          obtain ⟨parts, cs, h1, h2, h3⟩ := cParts_i hE hr (l := pl) (fun i => rfl) hp h (fun i t h => inP h rfl)
          rw [zeroX_s hz] at h2
          exact ops_of rfl (v := .g 0 cs) (by simp only [aop, ht, h1, hk, h2, Option.map_some]; rfl) hs h3
      case arr n w =>
        cases he : tiOf P w with
        | none => rw [he] at h; exact absurd h.symm hr
        | some te =>
          rw [he] at h
          simp only at h
          cases hp : cParts (plArr n te.size) ps.toList with
          | no => rw [hp] at h; exact absurd h.symm hr
          | a hf =>
            rw [hp] at h
            obtain ⟨parts, cs, h1, h2, h3⟩ := cParts_i hE hr (l := (List.range n).map fun i => (i * te.size, te.size)) (fun i => by
              unfold plArr
              cases hb : Nat.blt i n with
              | true => simp [List.getElem?_range (blt_of hb)]
              | false =>
                have : n ≤ i := by
                  rcases Nat.lt_or_ge i n with h | h
                  · have : Nat.blt i n = true := Nat.ble_eq ▸ h
                    rw [this] at hb; cases hb
                  · exact h
                simp [this]) hp h (fun i t h => inP h rfl)
            rw [zeroX_s hz] at h2
            exact ops_of rfl (v := .g 0 cs) (by simp only [aop, ht, h1, hk, he, h2, Option.map_some]; rfl) hs h3
      all_goals exact absurd h.symm hr
theorem bsl_s {t : TypeId} {len : Nat} {ps : Array (Nat × Operand)} (h : (cBSl P k t len ps.toList).go c e s = r) (hE : EnvP (fun t' => t' ∈ opT (.buildSlice t len ps)) e env) : OpS P (.buildSlice t len ps) k c e env st r := by
  unfold cBSl at h
  cases ht : tiE P t with
  | none => rw [ht] at h; exact absurd h.symm hr
  | some te =>
    rw [ht] at h
    simp only at h
    obtain ⟨ti, w, t1, t2, t3⟩ := tiE_i ht
    split at h
    · rename_i z hf hb hz hp
      obtain ⟨n, tr, h1, h2⟩ := pushN_i (els := []) h RepR.nil
      have hn : n = len := by have := h1.1; simpa using this
      obtain ⟨parts, els', t', h3, h4, h5, h6⟩ := cRows_i hE hr hp h2 h1 hn (fun i t h => inP h rfl)
      subst hn
      obtain ⟨s', h7, h8⟩ := newB_i (z := some (te.size, els')) h6 hs ⟨rfl, h5⟩
      simp only [Bool.and_eq_true] at hb
      rw [List.nil_append, zeroX_s hz] at h4
      refine ops_of rfl (v := .p 0 st.length 0 n) ?_ h7 h8
      simp only [aop, t1, h3, t2, t3]
      rw [if_pos ⟨blt_of hb.1, ble_of hb.2⟩, h4]
      rfl
    · exact absurd h.symm hr
theorem nilCheck_s {x : Operand} (h : (c1 (cev x) fun c v e s => Bool.rec (motive := fun _ => Xo) (asP v fun t l _ _ => ifB (Nat.beq t 1) (rdB s l fun _ _ _ => k c v e s)) (k c v e s) (XV.rec (motive := fun _ => Bool) (fun _ _ => false) (fun _ => false) (fun _ _ _ _ => false) (fun _ _ _ _ => false) (fun t _ _ => Nat.blt 1 t) v)).go c e s = r)
    (hE : EnvP (fun t' => t' ∈ opT (.nilCheck x)) e env) : OpS P (.nilCheck x) k c e env st r := by
  obtain ⟨v, h1, h2⟩ := c1_i h hr hE (fun t' e => inT (by simp [Op.operands]) e)
  have fact : alive st (dec v) = true → aop P env st (.nilCheck x) = some (dec v, st) := fun ha => by simp only [aop, h1, ha, if_true]
  cases v with
  | g t y =>
    cases hb : Nat.blt 1 t with
    | true =>
      have h2' : (Bool.rec (motive := fun _ => Xo) (asP (.g t y) fun t l _ _ => ifB (Nat.beq t 1) (rdB s l fun _ _ _ => k c (.g t y) e s)) (k c (.g t y) e s) (Nat.blt 1 t) : Xo) = r := h2
      rw [hb] at h2'
      have := blt_of hb
      match t, this with
      | t + 2, _ => exact ops_of rfl (fact rfl) hs h2'
    | false =>
      have h2' : (Bool.rec (motive := fun _ => Xo) (asP (.g t y) fun t' l _ _ => ifB (Nat.beq t' 1) (rdB s l fun _ _ _ => k c (.g t y) e s)) (k c (.g t y) e s) (Nat.blt 1 t) : Xo) = r := h2
      rw [hb] at h2'
      exact absurd h2'.symm hr
  | p t l i j =>
    obtain ⟨_, _, _, _, h0, h3⟩ := asP_i (x := .p t l i j) h2 hr
    cases h0
    obtain ⟨h4, h5⟩ := ifB_i h3 hr
    obtain ⟨q, n, u, els, h6, h7, h8⟩ := rdB_i h5 hr hs
    refine ops_of rfl (fact ?_) hs h8
    rw [beq_of h4]
    show (match st[l]? with | some (some _) => true | _ => false) = true
    rw [h6]
  | i _ _ => exact absurd h2.symm hr
  | s _ => exact absurd h2.symm hr
  | c _ _ => exact absurd h2.symm hr
theorem mf_s {f : FuncId} {a b : Array Operand} (h : (cMF k f a.toList b.toList).go c e s = r) (hE : EnvP (fun t' => t' ∈ opT (.makeFunc (.func f) a b)) e env) : OpS P (.makeFunc (.func f) a b) k c e env st r := by
  unfold cMF c2 at h
  cases ha : cevL a.toList with
  | g g1 =>
    cases hb : cevL b.toList with
    | g g2 =>
      rw [ha, hb] at h
      obtain ⟨v, h1, h2⟩ := cevL_i hE ha h hr (fun t ht => inT (x := .tmp t) (by simp [Op.operands]; exact .inl (by simpa using ht)) rfl)
      obtain ⟨w, h3, h4⟩ := cevL_i hE hb h2 hr (fun t ht => inT (x := .tmp t) (by simp [Op.operands]; exact .inr (by simpa using ht)) rfl)
      exact ops_of rfl (v := .g (f + 2) (.c v w)) (by simp only [aop, h1, h3]; rfl) hs h4
theorem field_s {t : TypeId} {x : Operand} {f : Nat} (h : (cField P k t x f).go c e s = r) (hE : EnvP (fun t' => t' ∈ opT (.field t x f)) e env) : OpS P (.field t x f) k c e env st r := by
  have i1 : ∀ t', x = .tmp t' → t' ∈ opT (.field t x f) := fun t' e => inT (by simp [Op.operands]) e
  unfold cField at h
  cases hu : P.underlying t with
  | none => rw [hu] at h; exact absurd h.symm hr
  | some d =>
    rw [hu] at h
    cases d <;> simp only at h
    case struct flds =>
      cases hf : flds[f]? with
      | none => rw [hf] at h; exact absurd h.symm hr
      | some fld =>
        rw [hf] at h
        simp only at h
        cases ht : tiOf P fld.type with
        | none => rw [ht] at h; exact absurd h.symm hr
        | some ti =>
          rw [ht] at h
          simp only at h
          cases ha : ti.k.isAgg with
          | none => rw [ha] at h; exact absurd h.symm hr
          | some b =>
            rw [ha] at h
            cases b with
            | true =>
              obtain ⟨v, h1, h2⟩ := c1_i h hr hE i1
              obtain ⟨t', cs, rfl, h3⟩ := asG_i h2 hr
              obtain ⟨h4, h5⟩ := ifB_i h3 hr
              obtain ⟨y, h11, h12, h13⟩ := ldrop_i h5 hr
              obtain ⟨z, h14, h15, h16⟩ := ltake_i h13 hr
              rw [beq_of h4] at h1
              have h1' : ev env x = some (.agg (decL cs)) := h1
              rw [h11, List.length_drop] at h15
              refine ops_of rfl (v := .g 0 z) (st' := st) ?_ hs h16
              simp only [aop, h1', afv, hu, hf, ht, ha]
              rw [if_pos (by omega)]
              show some (AV.agg (((decL cs).drop fld.offset).take ti.size), st) = some (AV.agg (decL z), st)
              rw [h14, h11]
            | false =>
              obtain ⟨v, h1, h2⟩ := c1_i h hr hE i1
              obtain ⟨t', cs, rfl, h3⟩ := asG_i h2 hr
              obtain ⟨h4, h5⟩ := ifB_i h3 hr
              obtain ⟨y, h11, h12⟩ := lnth_i h5 hr
              rw [beq_of h4] at h1
              have h1' : ev env x = some (.agg (decL cs)) := h1
              refine ops_of rfl (v := y) (st' := st) ?_ hs h12
              simp only [aop, h1', afv, hu, hf, ht, ha]
              rw [h11]
              rfl
    all_goals exact absurd h.symm hr
theorem makeMap_s {t : TypeId} {q : Option Operand} (h : (match q, mapOf P t with | none, some _ => (Cx.f fun c e s => newB s (.bk 2 0 .lf) fun m s => k c (.p 2 m 0 0) e s) | _, _ => cN).go c e s = r) : OpS P (.makeMap t q) k c e env st r := by
  cases q with
  | some _ => exact absurd h.symm hr
  | none =>
    cases hm : mapOf P t with
    | none => rw [hm] at h; exact absurd h.symm hr
    | some w =>
      rw [hm] at h
      have h' : (newB s (.bk 2 0 .lf) fun m s => k c (.p 2 m 0 0) e s) = r := h
      obtain ⟨s', h1, h2⟩ := newB_i (z := some (2, [])) h' hs ⟨rfl, RepR.nil⟩
      exact ops_of rfl (v := .p 2 st.length 0 0) (by simp only [aop, hm]; rfl) h1 h2
end
end Go.Proofs.YthmnlfenkhmmhaaGreat
namespace Go.Proofs.YthmnlfenkhmmhaaGreat
set_option linter.unusedSimpArgs false
set_option linter.unusedVariables false
set_option linter.unusedSectionVars false
theorem dec_3 {n : Nat} (h : n < 9223372036854775808) : dec (.i 3 n) = .lit (.int .i64 (n : Int)) := by
  rw [show (3 : Nat) = kNo .i64 from rfl, dec_i, wrap_eq]
  simp only [half, lim]
  rw [show ((n : Int) + (9223372036854775808 : Nat)) % (18446744073709551616 : Nat) - (9223372036854775808 : Nat) = n by omega]
section
variable {P : Program} {k : Ko} {c : Cl} {e : Fe} {s : Sx} {env : Ev} {st : St} {r : Xo}
variable (hr : r ≠ .no) (hs : RepS s st)
include hr hs
theorem mu_s {t : TypeId} {m q x : Operand} (h : (cMU P k t m q x).go c e s = r) (hE : EnvP (fun t' => t' ∈ opT (.mapUpdate t m q x)) e env) : OpS P (.mapUpdate t m q x) k c e env st r := by
  unfold cMU at h
  cases hm : mapOf P t with
  | none => rw [hm] at h; exact absurd h.symm hr
  | some w =>
    cases h1 : cev m with
    | g g1 =>
      cases h2 : cev q with
      | g g2 =>
        cases h3 : cev x with
        | g g3 =>
          rw [hm, h1, h2, h3] at h
          obtain ⟨mv, a1, b1⟩ := cev_i h1 h hr hE (fun t' e => inT (by simp [Op.operands]) e)
          obtain ⟨kv, a2, b2⟩ := cev_i h2 b1 hr hE (fun t' e => inT (by simp [Op.operands]) e)
          obtain ⟨xv, a3, b3⟩ := cev_i h3 b2 hr hE (fun t' e => inT (by simp [Op.operands]) e)
          obtain ⟨key, rfl, b4⟩ := asS_i b3 hr
          obtain ⟨t', l, _, _, rfl, b5⟩ := asP_i b4 hr
          obtain ⟨c1, b6⟩ := ifB_i b5 hr
          obtain ⟨q', n, u, els, c2, c3, b7⟩ := rdB_i b6 hr hs
          obtain ⟨c4, b8⟩ := ifB_i b7 hr
          rw [beq_of c1] at a1
          rw [beq_of c4] at c2
          have a2' : ev env q = some (.lit (.string ⟨⟨bts key⟩⟩)) := a2
          have a1' : ev env m = some (.mmp l) := a1
          have fact : ∀ {els'}, mput ⟨⟨bts key⟩⟩ (dec xv) els = some els' → aop P env st (.mapUpdate t m q x) = some (.lit undef, st.set l (some (2, els'))) := fun hp => by
            simp only [aop, a1', a2', a3, amapset, hm, c2, hp, Option.map_some]
          have hrow : decL (.c (.s key) (.c xv xnil)) = [.lit (.string ⟨⟨bts key⟩⟩), dec xv] := rfl
          rcases mfX_i b8 hr c3 (by omega) with ⟨v, j, d1, d2, d3⟩ | ⟨d1, d3⟩
          · have hj : j < els.length := by have := c3.1; omega
            obtain ⟨s', e1, e2⟩ := wrB_i (z := some (2, els.set j [.lit (.string ⟨⟨bts key⟩⟩), dec xv])) d3 hs (lt_of_get c2) ⟨rfl, c3.put (x := .c (.s key) (.c xv xnil)) hj⟩
            refine ops_of rfl (v := .p 7 0 0 0) (fact ?_) e1 e2
            have d1' : mfind (bts key) els 0 = some (some (j, dec v)) := d1
            unfold mput
            simp only
            rw [d1']
          · have d3' := fr_i d3
            obtain ⟨s', e1, e2⟩ := wrB_i (z := some (2, els ++ [[.lit (.string ⟨⟨bts key⟩⟩), dec xv]])) d3' hs (lt_of_get c2) ⟨rfl, c3.push (x := .c (.s key) (.c xv xnil))⟩
            refine ops_of rfl (v := .p 7 0 0 0) (fact ?_) e1 e2
            have d1' : mfind (bts key) els 0 = some none := d1
            unfold mput
            simp only
            rw [d1']
theorem look_s {t : TypeId} {m q : Operand} {ok : Bool} (h : (cLook P k t m q ok).go c e s = r) (hE : EnvP (fun t' => t' ∈ opT (.lookup t m q ok)) e env) : OpS P (.lookup t m q ok) k c e env st r := by
  unfold cLook at h
  cases hm : mapOf P t with
  | none => rw [hm] at h; exact absurd h.symm hr
  | some w =>
    rw [hm] at h
    simp only at h
    cases ht : tiOf P w with
    | none => rw [ht] at h; exact absurd h.symm hr
    | some te =>
      rw [ht] at h
      simp only at h
      split at h
      · rename_i z hz
        have hz' : dec z = zAV te.zero := by
          cases hv : te.zero <;> rw [hv] at hz <;> simp only [zAV] at hz ⊢
          case agg a =>
            split at hz
            · rename_i y hy
              cases hz
              show AV.agg (decL y) = _
              rw [ofVs_s hy]
              rfl
            · cases hz
          all_goals exact ofV_s hz
        obtain ⟨mv, kv, a1, a2, b1⟩ := c2_i h hr hE (fun t' e => inT (by simp [Op.operands]) e) (fun t' e => inT (by simp [Op.operands]) e)
        obtain ⟨key, rfl, b2⟩ := asS_i b1 hr
        obtain ⟨n, u, els, b3, b4, b5⟩ := mapX_i b2 hr hs
        have a2' : ev env q = some (.lit (.string ⟨⟨bts key⟩⟩)) := a2
        have fact : ∀ {v}, alookup P st t (dec mv) (bts key) ok = some v → aop P env st (.lookup t m q ok) = some (v, st) := fun hp => by
          simp only [aop, a1, a2', hp, Option.map_some]
        rcases mfX_i b5 hr b4 (by omega) with ⟨v, j, d1, d2, d3⟩ | ⟨d1, d3⟩
        · have d1' : mfind (bts key) els 0 = some (some (j, dec v)) := d1
          cases ok with
          | true => exact ops_of rfl (v := .g 1 (.c v (.c (.p 3 1 0 0) xnil))) (fact (by simp only [alookup, hm, ht, b3, d1']; rfl)) hs d3
          | false => exact ops_of rfl (v := v) (fact (by simp only [alookup, hm, ht, b3, d1'])) hs d3
        · have d1' : mfind (bts key) els 0 = some none := d1
          cases ok with
          | true => exact ops_of rfl (v := .g 1 (.c z (.c (.p 3 0 0 0) xnil))) (fact (by simp only [alookup, hm, ht, b3, d1', ← hz']; rfl)) hs d3
          | false => exact ops_of rfl (v := z) (fact (by simp only [alookup, hm, ht, b3, d1', ← hz'])) hs d3
      · exact absurd h.symm hr
theorem ms_s {t : TypeId} {l q : Operand} (h : (cMS P k t l q).go c e s = r) (hE : EnvP (fun t' => t' ∈ opT (.makeSlice t l q)) e env) : OpS P (.makeSlice t l q) k c e env st r := by
  unfold cMS at h
  cases ht : tiE P t with
  | none => rw [ht] at h; exact absurd h.symm hr
  | some te =>
    obtain ⟨ti, w, t1, t2, t3⟩ := tiE_i ht
    rw [ht] at h
    simp only at h
    cases hz : zeroX te with
    | none => rw [hz] at h; exact absurd h.symm hr
    | some z =>
      rw [hz] at h
      obtain ⟨a, b, h1, h2, h3⟩ := c2_i h hr hE (fun t' e => inT (by simp [Op.operands]) e) (fun t' e => inT (by simp [Op.operands]) e)
      obtain ⟨q1, n, h4, h5⟩ := asU_i h3 hr
      obtain ⟨q2, n', h6, h7⟩ := asU_i h5 hr
      obtain ⟨c1, h8⟩ := ifB_i h7 hr
      obtain ⟨c2, h9⟩ := ifB_i h8 hr
      obtain ⟨c3, h10⟩ := ifB_i h9 hr
      obtain ⟨c4, h11⟩ := ifB_i h10 hr
      obtain ⟨m, tr, h12, h13⟩ := pushN_i (els := []) h11 RepR.nil
      obtain ⟨s', h14, h15⟩ := newB_i (z := some (te.size, [] ++ List.replicate n (decL z))) h13 hs ⟨rfl, h12⟩
      have hm : m = n := by have := h12.1; simpa using this
      subst hm
      have e1 := beq_of c1
      subst e1
      rw [h4] at h1
      rw [h6] at h2
      have c3' : m * te.size ≤ 16777216 := ble_of c3
      have c4' : te.bytes * m ≤ 281474976710656 := ble_of c4
      refine ops_of rfl (v := .p 0 st.length 0 m) ?_ h14 h15
      simp only [aop, h1, h2, amake, t1, t2, t3]
      rw [if_pos ⟨trivial, Int.natCast_nonneg _, blt_of c2, by rw [Int.toNat_natCast]; exact c3', by show ((te.bytes * m : Nat) : Int) ≤ ((281474976710656 : Nat) : Int); exact Int.ofNat_le.2 c4'⟩]
      rw [zeroX_s hz]
      rfl
theorem callB_s {b : Builtin} {args : Array Operand} {ts : Array TypeId} (h : (cCallB P k b args.toList ts.toList).go c e s = r) (hE : EnvP (fun t' => t' ∈ opT (.call ⟨.builtin b, args, ts⟩)) e env) : OpS P (.call ⟨.builtin b, args, ts⟩) k c e env st r := by
  have hin : ∀ {x : Operand}, x ∈ args.toList → ∀ t', x = .tmp t' → t' ∈ opT (.call ⟨.builtin b, args, ts⟩) := fun hx t' e => inT (by simp [Op.operands, Call.operands]; simpa using hx) e
  have base : ∀ {v : XV} {s' st'}, abuiltin P env st ⟨.builtin b, args, ts⟩ = some (dec v, st') → RepS s' st' → k c v e s' = r → OpS P (.call ⟨.builtin b, args, ts⟩) k c e env st r := fun a b d => ops_of rfl (by simp only [aop, a]) b d
  unfold cCallB at h
  split at h
  · rename_i x t ha hts
    have i1 := hin (x := x) (by rw [ha]; simp)
    cases ht : tiOf P t with
    | none => rw [ht] at h; exact absurd h.symm hr
    | some ti =>
      rw [ht] at h
      simp only at h
      have fact : ∀ {a : AV} {v : AV} , ev env x = some a → (match a, ti.k with | .lit (.string s), .str => some (AV.lit (.int .i64 s.data.toList.length), st) | .isl _ els, .slc _ => some (.lit (.int .i64 els.length), st) | .msl l _ n, .slc _ => (match st[l]? with | some (some _) => some (.lit (.int .i64 n), st) | _ => none) | .lit (.slice none 0 0), .slc _ => some (.lit (.int .i64 0), st) | _, _ => none) = some (v, st) → abuiltin P env st ⟨.builtin .len, args, ts⟩ = some (v, st) := fun a1 a2 => by
        simp only [abuiltin, ha, hts, alenOp, ht, a1]
        exact a2
      cases hk : ti.k <;> rw [hk] at h fact <;> simp only at h
      case str =>
        obtain ⟨v, h1, h2⟩ := c1_i h hr hE i1
        obtain ⟨u, rfl, h3⟩ := asS_i h2 hr
        have h4 := fr_i h3
        obtain ⟨h5, h6⟩ := ifB_i h4 hr
        refine base (v := .i 3 (dg u).length) (fact h1 ?_) hs h6
        show some (AV.lit (.int .i64 (bts u).length), st) = _
        rw [dec_3 (blt_of h5), bts_len]
      case slc w =>
        obtain ⟨v, h1, h2⟩ := c1_i h hr hE i1
        obtain ⟨t', l, i, n, rfl, h3⟩ := asP_i h2 hr
        cases t' with
        | zero =>
          obtain ⟨q, m, u, els, h4, h5, h6⟩ := rdB_i (k := fun _ _ _ => ifB (Nat.blt n 9223372036854775808) (k c (.i 3 n) e s)) h3 hr hs
          obtain ⟨h7, h8⟩ := ifB_i h6 hr
          refine base (v := .i 3 n) (fact h1 ?_) hs h8
          show (match st[l]? with | some (some _) => some (AV.lit (.int .i64 n), st) | _ => none) = _
          rw [h4, dec_3 (blt_of h7)]
        | succ t' =>
          have h3' : ifB (Nat.beq t' 3) (k c (.i 3 0) e s) = r := h3
          obtain ⟨h7, h8⟩ := ifB_i h3' hr
          rw [beq_of h7] at h1
          exact base (v := .i 3 0) (fact h1 rfl) hs h8
      all_goals exact absurd h.symm hr
  · rename_i sl x t tx ha hts
    have i1 := hin (x := sl) (by rw [ha]; simp)
    have i2 := hin (x := x) (by rw [ha]; simp)
    cases ht : tiE P t with
    | none => rw [ht] at h; exact absurd h.symm hr
    | some te =>
      cases hx : tiOf P tx with
      | none => rw [ht, hx] at h; exact absurd h.symm hr
      | some tix =>
        rw [ht, hx] at h
        simp only at h
        obtain ⟨ti, w, t1, t2, t3⟩ := tiE_i ht
        cases hz : Nat.blt 0 te.size with
        | false => rw [hz] at h; exact absurd h.symm hr
        | true =>
          rw [hz] at h
          cases hk : tix.k <;> rw [hk] at h <;> simp only at h
          case slc w' =>
            obtain ⟨a, b', h1, h2, h3⟩ := c2_i h hr hE i1 i2
            obtain ⟨s', old, st1, new, h4, h5, h6, h7, h8⟩ := appX_i (blt_of hz) h3 hr hs
            refine base (v := .p 0 st.length 0 (old.length + new.length)) ?_ h7 h8
            simp only [abuiltin, ha, hts, aappOp, t1, h1, h2, hx, t2, t3, h4, hk, h5]
            rw [if_pos h6]
            rfl
          case str =>
            cases hb : Nat.beq te.size 1 with
            | false => rw [hb] at h; exact absurd h.symm hr
            | true =>
              rw [hb] at h
              obtain ⟨a, b', h1, h2, h3⟩ := c2_i h hr hE i1 i2
              obtain ⟨u, rfl, h4⟩ := asS_i h3 hr
              obtain ⟨s', old, st1, h5, h6, h7, h8⟩ := appSX_i h4 hr hs
              have h2' : ev env x = some (.lit (.string ⟨⟨bts u⟩⟩)) := h2
              refine base (v := .p 0 st.length 0 (old.length + (bts u).length)) ?_ h7 h8
              simp only [abuiltin, ha, hts, aappOp, t1, h1, h2', hx, t2, t3, h5, hk]
              rw [if_pos ⟨beq_of hb, h6⟩]
              rfl
          all_goals exact absurd h.symm hr
  · rename_i tsl x y ha
    have i1 := hin (x := x) (by rw [ha]; simp)
    have i2 := hin (x := y) (by rw [ha]; simp)
    obtain ⟨a, b', h1, h2, h3⟩ := c2_i h hr hE i1 i2
    obtain ⟨q, m, rfl, h4⟩ := asI_i h3 hr
    obtain ⟨q', n, rfl, h5⟩ := asI_i h4 hr
    obtain ⟨h6, h7⟩ := ifB_i h5 hr
    have e1 := beq_of h6
    subst e1
    have h1' : ev env x = some (.lit (.int (kOf q) ((kOf q).wrap m))) := h1
    have h2' : ev env y = some (.lit (.int (kOf q) ((kOf q).wrap n))) := h2
    have fact : abuiltin P env st ⟨.builtin .min, args, ts⟩ = some (.lit (.int (kOf q) (if (kOf q).wrap n < (kOf q).wrap m then (kOf q).wrap n else (kOf q).wrap m)), st) := by
      simp only [abuiltin, ha, aminOp, h1', h2']
    rw [ltX_e] at h7
    cases hd : decide ((kOf q).wrap n < (kOf q).wrap m) with
    | true =>
      rw [hd] at h7
      exact base (v := .i q n) (by rw [fact, if_pos (of_decide_eq_true hd)]; rfl) hs h7
    | false =>
      rw [hd] at h7
      exact base (v := .i q m) (by rw [fact, if_neg (of_decide_eq_false hd)]; rfl) hs h7
  · rename_i x y t t2' ha hts
    have i1 := hin (x := x) (by rw [ha]; simp)
    have i2 := hin (x := y) (by rw [ha]; simp)
    cases ht : tiE P t with
    | none => rw [ht] at h; exact absurd h.symm hr
    | some te =>
      rw [ht] at h
      obtain ⟨ti, w, t1, t2, t3⟩ := tiE_i ht
      obtain ⟨a, b', h1, h2, h3⟩ := c2_i h hr hE i1 i2
      obtain ⟨u, i, m, w', src, h4, h5, h6, h6', h7⟩ := srcX_i h3 hr hs
      obtain ⟨t', l, o, n, rfl, h8⟩ := asP_i h7 hr
      obtain ⟨c1, h9⟩ := ifB_i h8 hr
      obtain ⟨q, w'', v, els, h10, h11, h12⟩ := rdB_i h9 hr hs
      obtain ⟨c2, h13⟩ := ifB_i h12 hr
      obtain ⟨c3, h14⟩ := ifB_i h13 hr
      obtain ⟨c4, h15⟩ := ifB_i h14 hr
      have c3' : o + n ≤ w'' := ble_of c3
      have c4' : m ≤ n := ble_of c4
      obtain ⟨v', h16, h17, h18⟩ := copyW_i h15 hr h4 h5 h11 (by omega)
      obtain ⟨s', h19, h20⟩ := wrB_i (z := some (q, setRows els o ((src.drop i).take m))) h18 hs (lt_of_get h10) ⟨rfl, h16⟩
      obtain ⟨c5, h21⟩ := ifB_i h20 hr
      rw [beq_of c1] at h1
      have h1' : ev env x = some (.msl l o n) := h1
      have e1 : (((src.drop i).take m)).take n = (src.drop i).take m := List.take_of_length_le (by omega)
      refine base (v := .i 3 m) ?_ h19 h21
      have hl := h11.1
      have e2 : dec (.i 3 m) = .lit (goInt (min ((src.drop i).take m).length n : Nat)) := by
        rw [h6', Nat.min_eq_left c4', dec_3 (blt_of c5)]
        rfl
      simp only [abuiltin, ha, hts, acopyOp, t1, h1', h2, t2, t3, acopy, h6, h10]
      rw [if_pos ⟨beq_of c2, by omega, h17⟩, e1, e2, beq_of c2]
  · exact absurd h.symm hr
theorem call_s (hc : ClOk P c) {f : Operand} {args : Array Operand} {ts : Array TypeId} (h : (cCall k f args.toList).go c e s = r) (hE : EnvP (fun t' => t' ∈ opT (.call ⟨.value f, args, ts⟩)) e env) : OpS P (.call ⟨.value f, args, ts⟩) k c e env st r := by
  have hf : ∀ t', f = .tmp t' → t' ∈ opT (.call ⟨.value f, args, ts⟩) := fun t' e => inT (by simp [Op.operands, Call.operands]) e
  have ha : ∀ t', Operand.tmp t' ∈ args.toList → t' ∈ opT (.call ⟨.value f, args, ts⟩) := fun t' hx => inT (x := .tmp t') (by simp [Op.operands, Call.operands]; exact .inr (by simpa using hx)) rfl
  have fin : ∀ {g : FuncId} {first caps l : List AV} {a : XV}, ev env f = some (.fn (.func g) first caps) → evList env args.toList = some l → decL a = first ++ l ++ caps → ((c g a s).go fun v s => k c v e s) = r → OpS P (.call ⟨.value f, args, ts⟩) k c e env st r := fun {g first caps l a} h1 h2 h3 h4 => by
    cases hg : c g a s with
    | no => rw [hg] at h4; exact absurd h4.symm hr
    | ret v s' =>
      rw [hg] at h4
      refine ⟨v, s', h4, ?_⟩
      unfold SOp2
      simp only [isCall, acall, h1, h2, ← h3]
      exact hc g a s v s' hg st hs
  have gen : ∀ {gl : Fe → (XV → Xo) → Xo}, cevL args.toList = .g gl → (match cev f with | .g h => (Cx.f fun c e s => h e fun fv => asG fv fun t x => Nat.rec (motive := fun _ => Xo) .no (fun t _ => Nat.rec (motive := fun _ => Xo) .no (fun g _ => asC x fun first caps => gl e fun args => (c g (lapp first (lapp args caps)) s).go fun v s => k c v e s) t) t)).go c e s = r → OpS P (.call ⟨.value f, args, ts⟩) k c e env st r := fun {gl} hl h => by
    cases h1 : cev f with
    | g g1 =>
      rw [h1] at h
      obtain ⟨fv, h2, h3⟩ := cev_i h1 h hr hE hf
      obtain ⟨t, x, rfl, h4⟩ := asG_i h3 hr
      match t, h4 with
      | 0, h4 => exact absurd h4.symm hr
      | 1, h4 => exact absurd h4.symm hr
      | g + 2, h4 =>
        obtain ⟨first, caps, rfl, h5⟩ := asC_i (k := fun first caps => gl e fun args => (c g (lapp first (lapp args caps)) s).go fun v s => k c v e s) h4 hr
        obtain ⟨l, h6, h7⟩ := cevL_i hE hl h5 hr ha
        exact fin (first := decL first) (caps := decL caps) h2 h6 (by rw [decL_app, decL_app, List.append_assoc]) h7
  unfold cCall at h
  cases hl : cevL args.toList with
  | g gl =>
    rw [hl] at h
    cases f with
    | func g =>
      obtain ⟨l, h6, h7⟩ := cevL_i hE hl h hr ha
      exact fin (first := []) (caps := []) rfl h6 (by simp) h7
    | tmp t => exact gen hl h
    | const v => exact gen hl h
    | global g => exact gen hl h
theorem s0_s {t : TypeId} {x : Operand} {lo : Option Operand} {hi mx : Operand} (h : (cS0 P k t x lo (some hi) (some mx)).go c e s = r) (hE : EnvP (fun t' => t' ∈ opT (.slice t x lo (some hi) (some mx))) e env) : OpS P (.slice t x lo (some hi) (some mx)) k c e env st r := by
  have i1 : ∀ t', x = .tmp t' → t' ∈ opT (.slice t x lo (some hi) (some mx)) := fun t' e => inT (by simp [Op.operands]) e
  have i2 : ∀ t', lo = some (.tmp t') → t' ∈ opT (.slice t x lo (some hi) (some mx)) := fun t' e => inT (x := .tmp t') (by subst e; simp [Op.operands]) rfl
  have i3 : ∀ t', some hi = some (.tmp t') → t' ∈ opT (.slice t x lo (some hi) (some mx)) := fun t' e => inT (x := .tmp t') (by cases e; simp [Op.operands]) rfl
  have i4 : ∀ t', some mx = some (.tmp t') → t' ∈ opT (.slice t x lo (some hi) (some mx)) := fun t' e => inT (x := .tmp t') (by cases e; simp [Op.operands]) rfl
  unfold cS0 at h
  cases ht : tiE P t with
  | none => rw [ht] at h; exact absurd h.symm hr
  | some te =>
    obtain ⟨ti, w, t1, t2, t3⟩ := tiE_i ht
    cases h1 : cev x with
    | g g1 =>
      cases h2 : cbnd lo with
      | g g2 =>
        cases h3 : cbnd (some hi) with
        | g g3 =>
          cases h4 : cbnd (some mx) with
          | g g4 =>
            rw [ht, h1, h2, h3, h4] at h
            obtain ⟨v, a1, b1⟩ := cev_i h1 h hr hE i1
            obtain ⟨n1, a2, b2⟩ := cbnd_i hE h2 b1 hr i2
            obtain ⟨n2, a3, b3⟩ := cbnd_i hE h3 b2 hr i3
            obtain ⟨n3, a4, b4⟩ := cbnd_i hE h4 b3 hr i4
            obtain ⟨c1, b5⟩ := ifB_i b4 hr
            obtain ⟨c2, b6⟩ := ifB_i b5 hr
            obtain ⟨c3, b7⟩ := ifB_i b6 hr
            obtain ⟨_, _, d1, b8⟩ := slen_i b7 hr
            obtain ⟨s', e1, e2⟩ := newB_i (z := some (te.size, [])) b8 hs ⟨rfl, RepR.nil⟩
            rw [beq_of c1] at a2
            rw [beq_of c2] at a3
            rw [beq_of c3] at a4
            exact ops_of rfl (v := .p 0 st.length 0 0) (by simp only [aop, aslice0, t1, a1, a2, a3, a4, t2, t3, d1, if_true]; rfl) e1 e2
theorem cop_s (hc : ClOk P c) {o : Op} (h : (cop P k o).go c e s = r) (hE : EnvP (fun t => t ∈ opT o) e env) : OpS P o k c e env st r := by
  cases o <;> try exact absurd h.symm hr
  case move x => exact move_s hr hs h hE
  case assign x => exact assign_s hr hs h hE
  case pick a b d => exact pick_s hr hs h hE
  case alloc t => exact alloc_s hr hs h
  case box t x => exact box_s hr hs h hE
  case build t ps => exact build_s hr hs h hE
  case buildSlice t l ps => exact bsl_s hr hs h hE
  case load t p => exact load_s hr hs h hE
  case store t p x => exact store_s hr hs h hE
  case nilCheck x => exact nilCheck_s hr hs h hE
  case binOp op t x y yt => exact bin_s hr hs h hE
  case unOp op t x => exact un_s hr hs h hE
  case convert t u x => exact conv_s hr hs h hE
  case makeFunc f a b =>
    cases f with
    | func f => exact mf_s hr hs h hE
    | _ => exact absurd h.symm hr
  case makeMap t q => exact makeMap_s hr hs h
  case makeSlice t l q => exact ms_s hr hs h hE
  case slice t x lo hi mx =>
    cases mx with
    | none => exact slice_s hr hs h hE
    | some mx =>
      cases hi with
      | some hi => exact s0_s hr hs h hE
      | none => exact absurd h.symm hr
  case fieldAddr t x f => exact fa_s hr hs h hE
  case field t x f => exact field_s hr hs h hE
  case indexAddr t x i => exact ia_s hr hs h hE
  case index t x i => exact index_s hr hs h hE
  case lookup t m q ok => exact look_s hr hs h hE
  case mapUpdate t m q x => exact mu_s hr hs h hE
  case extract t i => exact extract_s hr hs h hE
  case call cl =>
    obtain ⟨callee, args, ts⟩ := cl
    cases callee with
    | builtin b => exact callB_s hr hs h hE
    | value f => exact call_s hr hs hc h hE
    | invoke a b => exact absurd h.symm hr
end
end Go.Proofs.YthmnlfenkhmmhaaGreat
namespace Go.Proofs.YthmnlfenkhmmhaaGreat
set_option linter.unusedSimpArgs false
set_option linter.unusedVariables false
set_option linter.unusedSectionVars false
def allT : Nat → Prop := fun _ => True
def QX (r : Xo) : Exit → Ev → St → Prop := fun x env st => match r with
  | .nm e s => x = .normal ∧ EnvP allT e env ∧ RepS s st
  | .rt e s => x = .ret ∧ EnvP allT e env ∧ RepS s st
  | .ex i e s => x = .exit i ∧ EnvP allT e env ∧ RepS s st
  | _ => False
theorem SOp2.to {P : Program} {o : Oper} {env : Ev} {st : St} {K : Ev → St → Prop} (h : SOp2 P o.op env st (fun av st' => K (aput o.dst av env) st')) : SOp P o env st K := by
  unfold SOp2 at h
  unfold SOp
  split at h
  · rename_i hi
    rw [hi]
    exact h
  · rename_i hi
    rw [hi]
    exact h
theorem SOp.mono2 {P : Program} {o : Oper} {env : Ev} {st : St} {K K' : Ev → St → Prop} (h : SOp P o env st K) (hk : ∀ env st, K env st → K' env st) : SOp P o env st K' := by
  unfold SOp at h ⊢
  split at h
  · rename_i hi
    try rw [hi]
    try simp only
    split at h
    · rename_i g args ha
      try rw [ha]
      try simp only
      exact h.mono fun _ _ => hk _ _
    · exact h.elim
  · rename_i hi
    try rw [hi]
    try simp only
    split at h
    · rename_i av s' ha
      try rw [ha]
      try simp only
      exact hk _ _ h
    · exact h.elim
theorem SOps.mono2 {P : Program} {all : List Oper} {K K' : Ev → St → Prop} : ∀ {l : List Oper} {env : Ev} {st : St}, SOps P all l env st K → (∀ env st, K env st → K' env st) → SOps P all l env st K'
  | [], _, _, h, hk => hk _ _ h
  | o :: l, env, st, h, hk => by
    unfold SOps at h ⊢
    split at h
    · rename_i hg; try rw [hg]
      exact h.mono2 fun _ _ h => SOps.mono2 h hk
    · rename_i hg; try rw [hg]
      exact SOps.mono2 h hk
    · exact h.elim
theorem EnvP.any {S : Nat → Prop} {e : Fe} {env : Ev} (h : EnvP allT e env) : EnvP S e env := h.less fun _ _ => trivial
section
variable {P : Program} {c : Cl} {r : Xo} (hc : ClOk P c) (hr : r ≠ .no)
include hc hr
theorem cgd_s {all : List Oper} {o : Oper} {kx : Kx} {e : Fe} {s : Sx} {env : Ev} {st : St} {K : Ev → St → Prop} (h : (cgd P all o kx).go c e s = r) (hE : EnvP allT e env) (hs : RepS s st)
    (ih : ∀ e' s' env' st', kx c e' s' = r → EnvP allT e' env' → RepS s' st' → K env' st') :
    match aguard all env o with | some true => SOp P o env st K | some false => K (aput o.dst (.lit undef) env) st | none => False := by
  have run : ∀ {g : Cl → Fe → Sx → Xo}, crun P o kx = .f g → g c e s = r → SOp P o env st K := fun {g} hg h => by
    unfold crun at hg
    cases hp : cput o.dst with
    | p f =>
      rw [hp] at hg
      have hg' : cop P (fun c v e s => kx c (f v e) s) o.op = .f g := hg
      have h' : (cop P (fun c v e s => kx c (f v e) s) o.op).go c e s = r := by rw [hg']; exact h
      obtain ⟨v, s', h1, h2⟩ := cop_s hr hs hc h' hE.any
      refine SOp2.to (h2.mono fun a st' ⟨e1, e2⟩ => ?_)
      subst e1
      exact ih _ _ _ _ h1 (hE.put hp v) e2
  unfold cgd at h
  unfold aguard
  cases hg : o.guard with
  | none =>
    rw [hg] at h
    simp only at h ⊢
    cases hx : crun P o kx with
    | f g => exact run hx (by rw [hx] at h; exact h)
  | some jw =>
    obtain ⟨j, w⟩ := jw
    rw [hg] at h
    simp only at h ⊢
    cases hj : all[j]? with
    | none => rw [hj] at h; exact absurd h.symm hr
    | some q =>
      rw [hj] at h
      simp only [Option.bind_some] at h ⊢
      cases hd : q.dst with
      | none => rw [hd] at h; exact absurd h.symm hr
      | some t =>
        rw [hd] at h
        simp only at h ⊢
        cases hx : crun P o kx with
        | f g =>
          cases hp : cput o.dst with
          | p f =>
            cases ht : ctm t with
            | g ht' =>
              rw [hx, hp, ht] at h
              obtain ⟨v, h1, h2, h3⟩ := ctm_i ht h hr
              obtain ⟨t', b, _, _, rfl, h4⟩ := asP_i h3 hr
              have hl := hE t _ trivial h1 h2
              cases h7 : Nat.beq t' 3 with
              | true =>
                rw [h7] at h4
                rw [beq_of h7] at hl
                have hl' : look env t = some (.lit (.bool (!Nat.beq b 0))) := hl
                rw [hl']
                simp only
                cases hb : Bool.xor (!(Nat.beq b 0)) w with
                | false =>
                  rw [hb] at h4
                  have : ((!Nat.beq b 0) == w) = true := by revert hb; cases (!Nat.beq b 0) <;> cases w <;> simp
                  rw [this]
                  exact run hx h4
                | true =>
                  rw [hb] at h4
                  have : ((!Nat.beq b 0) == w) = false := by revert hb; cases (!Nat.beq b 0) <;> cases w <;> simp
                  rw [this]
                  exact ih _ _ _ _ h4 (hE.put hp (.p 7 0 0 0)) hs
              | false =>
                rw [h7] at h4
                obtain ⟨h8, h9⟩ := ifB_i h4 hr
                rw [beq_of h8] at hl
                have hl' : look env t = some (.lit (.tuple #[])) := hl
                rw [hl']
                exact ih _ _ _ _ h9 (hE.put hp (.p 7 0 0 0)) hs
theorem cOps_s {all : List Oper} : ∀ {l : List Oper} {e : Fe} {s : Sx} {env : Ev} {st : St}, (cOps P all l).go c e s = r → EnvP allT e env → RepS s st → SOps P all l env st (fun env st => QX r .normal env st)
  | [], e, s, env, st, h, hE, hs => by
    have h' : Xo.nm e s = r := h
    subst h'
    exact ⟨rfl, hE, hs⟩
  | o :: l, e, s, env, st, h, hE, hs => by
    have h' : (Cx.rec (motive := fun _ => Cx) (fun k => cgd P all o k) (cOps P all l) : Cx).go c e s = r := h
    cases hl : cOps P all l with
    | f kx =>
      rw [hl] at h'
      have := cgd_s (K := fun env st => SOps P all l env st (fun env st => QX r .normal env st)) hc hr (all := all) (o := o) (kx := kx) h' hE hs (fun e' s' env' st' h1 h2 h3 => cOps_s (by rw [hl]; exact h1) h2 h3)
      unfold SOps
      split at this
      · rename_i hg; rw [hg]; exact this
      · rename_i hg; rw [hg]; exact this
      · exact this.elim
end
theorem dOk_s {n : Nat} : ∀ {l : List Oper}, dOk n l = true → l.all (fun o => o.dst.all (· < n)) = true
  | [], _ => rfl
  | o :: l, h => by
    have h' : (Bool.rec (motive := fun _ => Bool) false (dOk n l) (Option.rec (motive := fun _ => Bool) true (fun t => Nat.blt t n) o.dst) : Bool) = true := h
    cases hd : o.dst with
    | none =>
      rw [hd] at h'
      simp only [List.all_cons, hd, Option.all_none, Bool.true_and]
      exact dOk_s h'
    | some t =>
      rw [hd] at h'
      cases ht : Nat.blt t n with
      | false =>
        have h2 : (Bool.rec (motive := fun _ => Bool) false (dOk n l) (Nat.blt t n) : Bool) = true := h'
        rw [ht] at h2; cases h2
      | true =>
        have h2 : (Bool.rec (motive := fun _ => Bool) false (dOk n l) (Nat.blt t n) : Bool) = true := h'
        rw [ht] at h2
        simp only [List.all_cons, hd, Option.all_some, Bool.and_eq_true, decide_eq_true_eq]
        exact ⟨blt_of ht, dOk_s h2⟩
def DrawOk (P : Program) : Prop := ∀ (c : Cl) (n nb0 id : Nat) (ops : Array Oper) (e : Fe) (s : Sx) (env : Ev) (st : St) (r : Xo), ClOk P c → r ≠ .no → (cDraw P n ops.toList).go c e s = r → EnvP allT e env → RepS s st → SW P n nb0 (.region id ops true) (QX r) env st
section
variable {P : Program} {c : Cl} {N n nb0 : Nat} (hd : DrawOk P) (hc : ClOk P c)
include hd hc
theorem cCode_s : ∀ (code : Code) {e : Fe} {s : Sx} {env : Ev} {st : St} {r : Xo}, (cCode P N n code).go c e s = r → r ≠ .no → EnvP allT e env → RepS s st → SW P n nb0 code (QX r) env st := by
  intro code
  induction code with
  | skip =>
    intro e s env st r h hr hE hs
    have h' : Xo.nm e s = r := h
    subst h'
    exact sw_skip ⟨rfl, hE, hs⟩
  | region id ops dr =>
    intro e s env st r h hr hE hs
    cases dr with
    | true => exact hd c n nb0 id ops e s env st r hc hr h hE hs
    | false =>
      have h' : (Bool.rec (motive := fun _ => Cx) cN (cOps P ops.toList ops.toList) (dOk n ops.toList) : Cx).go c e s = r := h
      cases hk : dOk n ops.toList with
      | false => rw [hk] at h'; exact absurd h'.symm hr
      | true =>
        rw [hk] at h'
        refine sw_region (dOk_s hk) fun K hK => ?_
        have := cOps_s hc hr h' hE hs
        exact SOps.mono2 this hK
  | seq a b iha ihb =>
    intro e s env st r h hr hE hs
    have h' : xthen ((cCode P N n a).go c e s) ((cCode P N n b).go c) = r := h
    generalize ha : (cCode P N n a).go c e s = ra at h'
    cases ra with
    | no => exact absurd h'.symm hr
    | re v s' => exact absurd h'.symm hr
    | nm e1 s1 =>
      refine sw_seq ((iha ha (by simp) hE hs).mono fun x env1 st1 hq => ?_)
      obtain ⟨rfl, h1, h2⟩ := hq
      exact ihb h' hr h1 h2
    | rt e1 s1 =>
      have h' : Xo.rt e1 s1 = r := h'
      subst h'
      refine sw_seq ((iha ha (by simp) hE hs).mono fun x env1 st1 hq => ?_)
      obtain ⟨rfl, h1, h2⟩ := hq
      exact ⟨rfl, h1, h2⟩
    | ex i e1 s1 =>
      have h' : Xo.ex i e1 s1 = r := h'
      subst h'
      refine sw_seq ((iha ha (by simp) hE hs).mono fun x env1 st1 hq => ?_)
      obtain ⟨rfl, h1, h2⟩ := hq
      exact ⟨rfl, h1, h2⟩
  | cond q a b iha ihb =>
    intro e s env st r h hr hE hs
    have h' : (cCond q (cCode P N n a) (cCode P N n b)).go c e s = r := h
    unfold cCond at h'
    cases hq : cev q with
    | g g =>
      rw [hq] at h'
      obtain ⟨v, h1, h2⟩ := cev_i (S := allT) hq h' hr hE (fun _ _ => trivial)
      obtain ⟨b', h3, h4⟩ := asB_i h2 hr
      rw [h3] at h1
      refine sw_cond h1 (fun e1 => ?_) (fun e1 => ?_)
      · subst e1; exact iha h4 hr hE hs
      · subst e1; exact ihb h4 hr hE hs
  | block id a iha =>
    intro e s env st r h hr hE hs
    have h' : xleave id ((cCode P N n a).go c e s) = r := h
    generalize ha : (cCode P N n a).go c e s = ra at h'
    cases ra with
    | no => exact absurd h'.symm hr
    | re v s' => exact absurd h'.symm hr
    | nm e1 s1 =>
      have h' : Xo.nm e1 s1 = r := h'
      subst h'
      refine sw_block ((iha ha (by simp) hE hs).mono fun x env1 st1 hq => ?_)
      obtain ⟨rfl, h1, h2⟩ := hq
      exact ⟨rfl, h1, h2⟩
    | rt e1 s1 =>
      have h' : Xo.rt e1 s1 = r := h'
      subst h'
      refine sw_block ((iha ha (by simp) hE hs).mono fun x env1 st1 hq => ?_)
      obtain ⟨rfl, h1, h2⟩ := hq
      exact ⟨rfl, h1, h2⟩
    | ex i e1 s1 =>
      have h' : (Bool.rec (motive := fun _ => Xo) (.ex i e1 s1) (.nm e1 s1) (Nat.beq i id) : Xo) = r := h'
      refine sw_block ((iha ha (by simp) hE hs).mono fun x env1 st1 hq => ?_)
      obtain ⟨rfl, h1, h2⟩ := hq
      show (if i = id then QX r .normal env1 st1 else QX r (.exit i) env1 st1)
      cases hb : Nat.beq i id with
      | true =>
        rw [hb] at h'
        have h' : Xo.nm e1 s1 = r := h'
        subst h'
        rw [if_pos (beq_of hb)]
        exact ⟨rfl, h1, h2⟩
      | false =>
        rw [hb] at h'
        have h' : Xo.ex i e1 s1 = r := h'
        subst h'
        rw [if_neg (fun e => by rw [e] at hb; simp at hb)]
        exact ⟨rfl, h1, h2⟩
  | loop a iha =>
    intro e s env st r h hr hE hs
    have h' : xloop ((cCode P N n a).go c) N e s = r := h
    refine sw_loop (fun k env st => ∃ e s, EnvP allT e env ∧ RepS s st ∧ xloop ((cCode P N n a).go c) k e s = r) N ⟨e, s, hE, hs, h'⟩ ?_
    rintro k env st ⟨e, s, hE, hs, h⟩
    cases k with
    | zero => exact absurd h.symm hr
    | succ k =>
      have h' : xthen ((cCode P N n a).go c e s) (xloop ((cCode P N n a).go c) k) = r := h
      generalize ha : (cCode P N n a).go c e s = ra at h'
      cases ra with
      | no => exact absurd h'.symm hr
      | re v s' => exact absurd h'.symm hr
      | nm e1 s1 =>
        refine (iha ha (by simp) hE hs).mono fun x env1 st1 hq => ?_
        obtain ⟨rfl, h1, h2⟩ := hq
        exact ⟨k, Nat.lt_succ_self k, e1, s1, h1, h2, h'⟩
      | rt e1 s1 =>
        have h' : Xo.rt e1 s1 = r := h'
        subst h'
        refine (iha ha (by simp) hE hs).mono fun x env1 st1 hq => ?_
        obtain ⟨rfl, h1, h2⟩ := hq
        exact ⟨rfl, h1, h2⟩
      | ex i e1 s1 =>
        have h' : Xo.ex i e1 s1 = r := h'
        subst h'
        refine (iha ha (by simp) hE hs).mono fun x env1 st1 hq => ?_
        obtain ⟨rfl, h1, h2⟩ := hq
        exact ⟨rfl, h1, h2⟩
  | exit id =>
    intro e s env st r h hr hE hs
    have h' : Xo.ex id e s = r := h
    subst h'
    exact sw_exit ⟨rfl, hE, hs⟩
  | ret =>
    intro e s env st r h hr hE hs
    have h' : Xo.rt e s = r := h
    subst h'
    exact sw_ret ⟨rfl, hE, hs⟩
  | _ => intro e s env st r h hr hE hs; exact absurd h.symm hr
end
end Go.Proofs.YthmnlfenkhmmhaaGreat
namespace Go.Proofs.YthmnlfenkhmmhaaGreat
set_option linter.unusedSimpArgs false
set_option linter.unusedVariables false
set_option linter.unusedSectionVars false
section
variable {P : Program} {e : Fe} {s : Sx} {env : Ev} {st : St} {r : Xo}
theorem cres1_i (hE : EnvP allT e env) (hs : RepS s st) {rv : ResultVar} {h : Fe → Sx → (XV → Xo) → Xo} {k : XV → Xo} (hc : cres1 P rv = .g h) (hk : h e s k = r) (hr : r ≠ .no) : ∃ v, aresult P env st rv = some (dec v) ∧ k v = r := by
  cases rv with
  | tmp t =>
    unfold cres1 at hc
    simp only at hc
    cases ht : ctm t with
    | g g =>
      rw [ht] at hc
      cases hc
      obtain ⟨v, h1, h2, h3⟩ := ctm_i ht hk hr
      exact ⟨v, hE t v trivial h1 h2, h3⟩
  | cell a t =>
    unfold cres1 at hc
    simp only at hc
    cases ha : ctm a with
    | g g =>
      cases ht : tiOf P t with
      | none => rw [ha, ht] at hc; cases hc; exact absurd hk.symm hr
      | some ti =>
        rw [ha, ht] at hc
        simp only at hc
        cases hg : ti.k.isAgg with
        | none => rw [hg] at hc; cases hc; exact absurd hk.symm hr
        | some b =>
          rw [hg] at hc
          cases hc
          obtain ⟨p, h1, h2, h3⟩ := ctm_i ha hk hr
          obtain ⟨v, l, i, j, h4, h5, h6⟩ := loadX_i hg h3 hr hs
          refine ⟨v, ?_, h6⟩
          have := hE a p trivial h1 h2
          rw [h4] at this h5
          simp only [aresult, this, ht]
          exact h5
theorem cresL_i (hE : EnvP allT e env) (hs : RepS s st) (hr : r ≠ .no) : ∀ {l : List ResultVar} {h : Fe → Sx → (XV → Xo) → Xo} {k : XV → Xo}, cresL P l = .g h → h e s k = r → ∃ v, aresults P env st l = some (decL v) ∧ (decL v).length = l.length ∧ k v = r
  | [], h, k, hc, hk => by cases hc; exact ⟨xnil, rfl, rfl, hk⟩
  | rv :: l, h, k, hc, hk => by
    unfold cresL at hc
    cases h1 : cres1 P rv with
    | g g1 =>
      cases h2 : cresL P l with
      | g g2 =>
        rw [h1, h2] at hc
        cases hc
        obtain ⟨v, h3, h4⟩ := cres1_i hE hs h1 hk hr
        obtain ⟨w, h5, h6, h7⟩ := cresL_i hE hs hr h2 h4
        refine ⟨.c v w, ?_, by rw [decL_c]; simp [h6], h7⟩
        unfold aresults
        rw [h3, h5]
        rfl
theorem cret_i (hE : EnvP allT e env) (hs : RepS s st) {fn : Func} {h : Fe → Sx → (XV → Xo) → Xo} {k : XV → Xo} (hc : cret P fn.results.toList = .g h) (hk : h e s k = r) (hr : r ≠ .no) : ∃ v, aret P fn env st = some (dec v) ∧ k v = r := by
  unfold aret
  generalize fn.results.toList = l at hc
  match l, hc with
  | [], hc => cases hc; exact ⟨.g 1 xnil, rfl, hk⟩
  | [rv], hc =>
    obtain ⟨v, h1, h2⟩ := cres1_i hE hs hc hk hr
    refine ⟨v, ?_, h2⟩
    simp only [aresults, h1]
  | a :: b :: l, hc =>
    have hc' : (match cresL P (a :: b :: l) with | .g h => (Vx.g fun e s k => h e s fun r => k (.g 1 r))) = .g h := hc
    cases h1 : cresL P (a :: b :: l) with
    | g g =>
      rw [h1] at hc'
      cases hc'
      obtain ⟨v, h2, h3, h4⟩ := cresL_i hE hs hr h1 hk
      refine ⟨.g 1 v, ?_, h4⟩
      rw [h2]
      show (match some (decL v) with | some [v] => some v | some vs => some (AV.tup vs) | none => none) = some (AV.tup (decL v))
      generalize decL v = q at h3
      match q, h3 with
      | x :: y :: q, _ => rfl
theorem xend_i (hE : EnvP allT e env) (hs : RepS s st) {fn : Func} {v : XV} {s' : Sx} (h : ((cret P fn.results.toList).go e s).yo = .ret v s') : aret P fn env st = some (dec v) ∧ s = s' := by
  cases hc : cret P fn.results.toList with
  | g g =>
    rw [hc] at h
    have h' : (g e s fun v => .re v s).yo = .ret v s' := h
    generalize hq : (g e s fun v => Xo.re v s) = q at h'
    cases q <;> try cases h'
    obtain ⟨w, h1, h2⟩ := cret_i hE hs hc hq (by simp)
    cases h2
    exact ⟨h1, rfl⟩
end
theorem EnvP.enter : ∀ {l : XV} {i : Nat} {e : Fe} {env : Ev}, EnvP allT e env → (∀ t, i ≤ t → e.at t = none ∨ True) → ∀ {env2 : Ev}, (∀ t, t < i → look env2 t = look env t) → (∀ t, i ≤ t → look env2 t = look (enterEnv i (decL l)) t) → (∀ t, i ≤ t → look env t = none) → EnvP allT (xenter l i e) env2
  | .i _ _, i, e, env, hE, h0, env2, h1, h2, h3 => fun t v _ ht hv => by
    have := hE t v trivial ht hv
    rcases Nat.lt_or_ge t i with h | h
    · rw [h1 t h]; exact this
    · rw [h3 t h] at this; cases this
  | .s _, i, e, env, hE, h0, env2, h1, h2, h3 => fun t v _ ht hv => by
    have := hE t v trivial ht hv
    rcases Nat.lt_or_ge t i with h | h
    · rw [h1 t h]; exact this
    · rw [h3 t h] at this; cases this
  | .p _ _ _ _, i, e, env, hE, h0, env2, h1, h2, h3 => fun t v _ ht hv => by
    have := hE t v trivial ht hv
    rcases Nat.lt_or_ge t i with h | h
    · rw [h1 t h]; exact this
    · rw [h3 t h] at this; cases this
  | .g _ _, i, e, env, hE, h0, env2, h1, h2, h3 => fun t v _ ht hv => by
    have := hE t v trivial ht hv
    rcases Nat.lt_or_ge t i with h | h
    · rw [h1 t h]; exact this
    · rw [h3 t h] at this; cases this
  | .c x l, i, e, env, hE, h0, env2, h1, h2, h3 => by
    have h : EnvP allT (xenter l (i + 1) (Px.rec (motive := fun _ => Fe) (fun f => f x e) (cput (some i)))) env2 := by
      cases hp : cput (some i) with
      | p f =>
        refine EnvP.enter (l := l) (i := i + 1) (e := f x e) (env := aput (some i) (dec x) env) (hE.put hp x) (fun _ _ => .inr trivial) (fun t ht => ?_) (fun t ht => ?_) (fun t ht => ?_)
        · show look env2 t = look ((i, dec x) :: env) t
          rw [show look ((i, dec x) :: env) t = if i = t then some (dec x) else look env t from rfl]
          by_cases e1 : i = t
          · subst e1
            rw [if_pos rfl, h2 i (Nat.le_refl _)]
            show look ((i, dec x) :: enterEnv (i + 1) (decL l)) i = _
            rw [show look ((i, dec x) :: enterEnv (i + 1) (decL l)) i = if i = i then some (dec x) else look (enterEnv (i + 1) (decL l)) i from rfl, if_pos rfl]
          · rw [if_neg e1]; exact h1 t (by omega)
        · rw [h2 t (by omega)]
          show look ((i, dec x) :: enterEnv (i + 1) (decL l)) t = _
          rw [show look ((i, dec x) :: enterEnv (i + 1) (decL l)) t = if i = t then some (dec x) else look (enterEnv (i + 1) (decL l)) t from rfl, if_neg (by omega)]
        · show look ((i, dec x) :: env) t = none
          rw [show look ((i, dec x) :: env) t = if i = t then some (dec x) else look env t from rfl, if_neg (by omega)]
          exact h3 t (by omega)
    exact h
theorem enter0 {l : XV} : EnvP allT (xenter l 0 feu) (enterEnv 0 (decL l)) :=
  EnvP.enter (l := l) (i := 0) (e := feu) (env := []) (fun t v _ _ hv => by rw [feu_at] at hv; cases hv) (fun _ _ => .inr trivial) (fun t h => absurd h (Nat.not_lt_zero t)) (fun _ _ => rfl) (fun _ _ => rfl)
theorem nthL_eq {α : Type} : ∀ (l : List α) (i : Nat), nthL l i = l[i]?
  | [], i => rfl
  | x :: l, 0 => rfl
  | x :: l, i + 1 => by rw [List.getElem?_cons_succ, ← nthL_eq l i]; rfl
theorem xCall_s {P : Program} {kn : List Nat} {N : Nat} (hd : DrawOk P) (hk : ∀ g, memN g kn = true → PureC P g [] (.lit (.bool true))) : ∀ f, ClOk P (xCall P kn N f)
  | 0, g, args, s, v, s', h, st, hs => by cases h
  | f + 1, g, args, s, v, s', h, st, hs => by
    have h' : (match memN g kn && Nat.beq (llen args) 0 with | true => Yo.ret (.p 3 1 0 0) s | false => (Option.rec (motive := fun _ => Yo) .no (fun fn => xbody P N (xCall P kn N f) fn args s) (nthL P.funcs.toList g))) = .ret v s' := h
    cases hb : memN g kn && Nat.beq (llen args) 0 with
    | true =>
      rw [hb] at h'
      cases h'
      rw [Bool.and_eq_true] at hb
      have : decL args = [] := List.eq_nil_of_length_eq_zero (by rw [← llen_eq]; exact beq_of hb.2)
      rw [this]
      exact scall_pure (hk _ hb.1) .nil ⟨rfl, hs⟩
    | false =>
      rw [hb] at h'
      simp only at h'
      rw [nthL_eq] at h'
      cases hf : P.funcs.toList[g]? with
      | none => rw [hf] at h'; cases h'
      | some fn =>
        rw [hf] at h'
        have hfn : P.funcs[g]? = some fn := by rw [← Array.getElem?_toList]; exact hf
        have h2 : xbody P N (xCall P kn N f) fn args s = .ret v s' := h'
        unfold xbody at h2
        split at h2
        · rename_i code hcb hn hl
          have hc := xCall_s (N := N) hd hk f
          have hlen : (decL args).length ≤ fn.ntmps := by rw [← llen_eq]; exact ble_of hl
          refine scall_body hfn hcb hn hlen ?_
          generalize hr0 : (cCode P N fn.ntmps code).go (xCall P kn N f) (xenter args 0 feu) s = r0 at h2
          cases r0 with
          | no => cases h2
          | re _ _ => cases h2
          | ex _ _ _ => cases h2
          | nm e1 s1 =>
            refine (cCode_s hd hc code hr0 (by simp) enter0 hs).mono fun x env1 st1 hq => ?_
            obtain ⟨rfl, q1, q2⟩ := hq
            obtain ⟨q3, rfl⟩ := xend_i q1 q2 h2
            exact ⟨_, q3, rfl, q2⟩
          | rt e1 s1 =>
            refine (cCode_s hd hc code hr0 (by simp) enter0 hs).mono fun x env1 st1 hq => ?_
            obtain ⟨rfl, q1, q2⟩ := hq
            obtain ⟨q3, rfl⟩ := xend_i q1 q2 h2
            exact ⟨_, q3, rfl, q2⟩
        · cases h2
theorem xyes_s {P : Program} {g : FuncId} {args : XV} (kn : List Nat) (N f : Nat) (hd : DrawOk P) (hk : ∀ g, memN g kn = true → PureC P g [] (.lit (.bool true))) (h : xyes (xCall P kn N f g args (.st 0 .lf)) = true) : PureC P g (decL args) (.lit (.bool true)) := by
  generalize hq : xCall P kn N f g args (.st 0 .lf) = q at h
  cases q with
  | no => cases h
  | ret v s =>
    have := xCall_s (N := N) hd hk f g args _ v s hq [] RepS.nil
    refine pure_of (this.mono fun a st' ⟨e1, e2⟩ => ?_)
    subst e1
    cases v with
    | p t a b c =>
      have h' : (Bool.rec (motive := fun _ => Bool) false (Nat.beq a 1) (Nat.beq t 3) : Bool) = true := h
      cases ht : Nat.beq t 3 with
      | false => rw [ht] at h'; cases h'
      | true =>
        rw [ht] at h'
        have ha : Nat.beq a 1 = true := h'
        rw [beq_of ht, beq_of ha]
        exact .imm (.lit _)
    | i _ _ => cases h
    | s _ => cases h
    | c _ _ => cases h
    | g _ _ => cases h
end Go.Proofs.YthmnlfenkhmmhaaGreat
namespace Go.Proofs.YthmnlfenkhmmhaaGreat
set_option linter.unusedSimpArgs false
set_option linter.unusedVariables false
set_option linter.unusedSectionVars false
structure Ahead (A : Nat → Prop) (m : BM) (w0 w : World) (ti : TI) (B : Nat) : Prop where
  late : w0.heap.size ≤ B
  low : B < w.heap.size
  out : ¬ A B
  free : ∀ l b, m l = some b → b.has = true → b.B ≠ B
  cell : ∀ off, off < ti.size → w.cell? ⟨B, off, none⟩ = some (ti.zero.cells.getD off undef)
  fz : ∀ off, off < ti.size → fz w ⟨B, off, none⟩ = false
theorem Ahead.step {A m w0 w ti B nb A' m' nb' w'} (h : Ahead A m w0 w ti B) (hS : Step A m nb w A' m' nb' w') : Ahead A' m' w0 w' ti B := by
  have hh : w'.heap[B]? = w.heap[B]? := hS.heap B h.low (fun l b h1 h2 => h.free l b h1 h2)
  refine ⟨h.late, Nat.lt_of_lt_of_le h.low hS.size, fun ha => ?_, fun l b h1 h2 h3 => ?_, fun off ho => by rw [cell_of_heap hh]; exact h.cell off ho, fun off ho => by rw [fz_of_heap hh]; exact h.fz off ho⟩
  · rcases hS.aNew B ha with h1 | h1 | ⟨l, b, h1, h2, h3⟩
    · exact h.out h1
    · exact absurd h.low (Nat.not_lt.2 h1)
    · exact h.free l b h1 h2 h3
  · rcases hS.mNew l b h1 h2 with h4 | ⟨l0, b0, h4, h5, h6⟩
    · have := h.low; omega
    · exact h.free l0 b0 h4 h5 (h6.trans h3)
theorem litCells_len {P : Program} {t : TypeId} {ti : TI} (ht : tiOf P t = some ti) : (litCells ti.zero).length = ti.size := by
  obtain ⟨_, _, _, _, _, _, _, _, hzs⟩ := tiOf_inv ht
  simp [litCells, hzs]
theorem R.adopt {A m w st w0 ti B} {P : Program} {t : TypeId} (ht : tiOf P t = some ti) (hR : R A m w st) (h : Ahead A m w0 w ti B) : R A (m.put st.length (some ⟨true, B, 0, ti.size, ti.size, false⟩)) w (st ++ [some (ti.size, [litCells ti.zero])]) := by
  have hl := litCells_len ht
  have hV : ∀ av v, V A m st.length w av v → V A (m.put st.length (some ⟨true, B, 0, ti.size, ti.size, false⟩)) (st.length + 1) w av v := fun av v hv =>
    hv.mono (fun _ h => h) (fun _ _ => rfl) (Nat.le_succ _) (fun l hl => .inl (by simp only [BM.put]; rw [if_neg (by omega)]))
  have hn : (st ++ [some (ti.size, [litCells ti.zero])]).length = st.length + 1 := by simp
  have old : ∀ l b, (m.put st.length (some ⟨true, B, 0, ti.size, ti.size, false⟩)) l = some b → l ≠ st.length → m l = some b := fun l b h1 h2 => by simpa only [BM.put, if_neg h2] using h1
  have new : ∀ b, (m.put st.length (some ⟨true, B, 0, ti.size, ti.size, false⟩)) st.length = some b → b = ⟨true, B, 0, ti.size, ti.size, false⟩ := fun b h1 => by simpa [BM.put] using h1.symm
  refine ⟨hR.aLow, fun B' l b h1 h2 h3 => ?_, fun l l' b b' h1 h2 h3 h4 h5 => ?_, fun l b h1 => ?_, fun l k els h1 => ?_⟩
  · by_cases e : l = st.length
    · subst e
      rw [new b h2]
      exact fun e => h.out (by rw [show B = B' from e]; exact h1)
    · exact hR.aOwn B' l b h1 (old l b h2 e) h3
  · by_cases e : l = st.length
    · by_cases e' : l' = st.length
      · omega
      · subst e
        rw [new b h1] at h5
        exact absurd h5.symm (h.free l' b' (old l' b' h2 e') h4)
    · by_cases e' : l' = st.length
      · subst e'
        rw [new b' h2] at h5
        exact absurd h5 (h.free l b (old l b h1 e) h3)
      · exact hR.inj l l' b b' (old l b h1 e) (old l' b' h2 e') h3 h4 h5
  · by_cases e : l = st.length
    · subst e
      rw [new b h1]
      exact ⟨[litCells ti.zero], by simp⟩
    · have := old l b h1 e
      obtain ⟨els, h2⟩ := hR.live l b this
      have := hR.lt this
      exact ⟨els, by rw [List.getElem?_append_left this]; exact h2⟩
  · by_cases e : l = st.length
    · subst e
      have h2 : (ti.size, [litCells ti.zero]) = (k, els) := by simpa using h1
      cases h2
      refine ⟨⟨true, B, 0, ti.size, ti.size, false⟩, by simp [BM.put], rfl, fun _ => ⟨h.low, fun _ off ho => ⟨_, h.cell off ho⟩, fun _ => h.fz, fun _ => by simp, fun i hi => ?_, fun _ i hi j hj => ?_, fun h => by cases h⟩, fun h => by cases h⟩
      · have : i = 0 := by simp at hi; omega
        subst this
        simpa using hl
      · have : i = 0 := by simp at hi; omega
        subst this
        have hj' : j < (litCells ti.zero).length := by simpa using hj
        refine ⟨ti.zero.cells.getD j undef, by show w.cell? ⟨B, 0 + 0 * ti.size + j, none⟩ = _; rw [show 0 + 0 * ti.size + j = j by omega]; exact h.cell j (by omega), ?_⟩
        have e1 : (litCells ti.zero)[j] = .lit (ti.zero.cells.getD j undef) := by
          have hj2 : j < ti.zero.cells.size := by simpa [litCells] using hj'
          simp [litCells, Array.getD_eq_getD_getElem?, hj2]
        show V _ _ _ _ (litCells ti.zero)[j] _
        rw [e1]
        exact .imm (.lit _)
    · have hl' : l < st.length := by
        have := (List.getElem?_eq_some_iff.1 h1).1
        rw [hn] at this
        omega
      rw [List.getElem?_append_left hl'] at h1
      obtain ⟨b, h2, h3, h4, h5⟩ := hR.blk l k els h1
      refine ⟨b, by simp only [BM.put]; rw [if_neg e]; exact h2, h3, fun hh => ?_, h5⟩
      rw [hn]
      exact (h4 hh).keep (Nat.le_refl _) rfl hV
theorem Step.adopt {A0 m0 nb0 w0 A m w nb ti B} (hS : Step A0 m0 nb0 w0 A m nb w) (h : Ahead A m w0 w ti B) : Step A0 m0 nb0 w0 A (m.put nb (some ⟨true, B, 0, ti.size, ti.size, false⟩)) (nb + 1) w where
  nbLe := Nat.le_succ_of_le hS.nbLe
  size := hS.size
  aSub := hS.aSub
  aNew := hS.aNew
  mOld := fun l hl => by
    have := hS.nbLe
    simp only [BM.put]
    rw [if_neg (by omega)]
    exact hS.mOld l hl
  mNew := fun l b h1 h2 => by
    simp only [BM.put] at h1
    split at h1
    · cases h1; exact .inl h.late
    · exact hS.mNew l b h1 h2
  heap := hS.heap
  os := hS.os
  tape := hS.tape
  output := hS.output
theorem made_wp {P : Program} {A m w st w0} {a : Act} {o : Oper} {t : TypeId} {ti : TI} {next : Act → World → Prop} {Q : Exit → Act → World → Prop} (ht : tiOf P t = some ti) (ho : o.op = .alloc t) (hR : R A m w st) (h0 : w0.heap.size ≤ w.heap.size)
    (hk : ∀ w', Grow w w' → Ahead A m w0 w' ti w.heap.size → next (a.put o.dst (.pointer (some ⟨w.heap.size, 0, none⟩))) w') : o.wp P a w next Q := by
  obtain ⟨dst, op, ty, pos, after, guard⟩ := o
  simp only at ho
  subst ho
  have h1 : (Instr.alloc t true (.tuple #[])).run P w = .ok (.pointer (some ⟨w.heap.size, 0, none⟩)) (w.alloc (.cells ti.zero.cells t)) := by simp [Instr.alloc, run_zeroValue w ht, newVar, newRow]
  have h2 : (execOp a.eval { dst := dst, op := .alloc t, type := ty, pos := pos, after := after, guard := guard }).run P w = .ok (.value (.pointer (some ⟨w.heap.size, 0, none⟩))) (w.alloc (.cells ti.zero.cells t)) := by
    simp [execOp, h1]
  unfold Oper.wp
  rw [h2]
  simp only [Oper.upon]
  have hg := Grow.alloc w (.cells ti.zero.cells t)
  obtain ⟨_, _, _, _, _, _, _, _, hzs⟩ := tiOf_inv ht
  refine hk _ hg ⟨h0, by simp, fun ha => absurd (hR.aLow _ ha) (Nat.lt_irrefl _), fun l b h1 h2 h3 => by have := hR.low h1 h2; omega, fun off ho => ?_, fun off ho => fz_alloc_new _ _ _⟩
  rw [World.cell?_alloc_new, Array.getElem?_eq_getElem (by rw [hzs]; exact ho)]
  simp [Array.getD_eq_getD_getElem?, hzs, ho]
inductive TW (all : List Oper) : Nat → Nat → Prop
  | one {s q : Nat} (h : waits all s q = true) : TW all s q
  | more {s j q : Nat} (h : waits all s j = true) (k : TW all j q) : TW all s q
def flAt (all : List Oper) (s : Nat) : Bool := match all[s]? with | some o => isFl o | none => false
def Chain (all : List Oper) : List Nat → Prop
  | [] => True
  | [_] => True
  | q :: s :: r => (match flAt all s with | true => ∀ i, waits all i s = true → TW all i q | false => TW all s q) ∧ Chain all (s :: r)
def DTf (P : Program) (all : List Oper) (ss : List Nat) (env0 : Ev) (K : Ev → St → Prop) : List Nat → List Nat → List Nat → Ev → St → Prop
  | [], p, en, F, st => PAll P all env0 F st p en ∧ closedB all ss p en = true ∧ K (F ++ dropD (dsts all) env0) st
  | s :: ch, p, en, F, st => PAll P all env0 F st p en ∧ closedB all ss p en = true ∧
      match all[s]? with
      | some o => match cguard (sel F (ea all env0 s) (depsOf all o.after.toList)) (guardOf all o.guard) with
        | some true => SOp2 P o.op (sel F (ea all env0 s) (depsOf all o.after.toList)) st (fun av st' => ∃ en' new, (∀ i, memN i en' = true → memN i ss = false) ∧
            keysOut (keysOf new) F = true ∧ keysIn all ((s :: p) ++ (en' ++ en)) (keysOf new) = true ∧ (match o.dst with | some t => look (new ++ F) t = some av | none => True) ∧ DTf P all ss env0 K ch (s :: p) (en' ++ en) (new ++ F) st')
        | some false => ∃ en' new, (∀ i, memN i en' = true → memN i ss = false) ∧
            keysOut (keysOf new) F = true ∧ keysIn all ((s :: p) ++ (en' ++ en)) (keysOf new) = true ∧ (match o.dst with | some t => look (new ++ F) t = some (.lit undef) | none => True) ∧ DTf P all ss env0 K ch (s :: p) (en' ++ en) (new ++ F) st
        | none => False
      | none => False
theorem DTf.pall {P all ss env0 K ch p en F st} (h : DTf P all ss env0 K ch p en F st) : PAll P all env0 F st p en ∧ closedB all ss p en = true := by
  cases ch with
  | nil => exact ⟨h.1, h.2.1⟩
  | cons s ch => exact ⟨h.1, h.2.1⟩
theorem TW.to {all : List Oper} {i s q : Nat} (h : TW all i s) (hc : ∀ j, waits all j s = true → TW all j q) : TW all i q := by
  induction h with
  | one h => exact hc _ h
  | more h _ ih => exact .more h (ih hc)
theorem chain_no {all : List Oper} {L : Nat → Prop} {i : Nat} (hL : ∀ q, TW all i q → L q) : ∀ {ch : List Nat}, Chain all ch → (∀ q, q ∈ ch → L q → flAt all q = true) → (∀ q, ch.head? = some q → ¬ TW all i q) → ∀ q, q ∈ ch → ¬ TW all i q
  | [], _, _, _, q, h => by cases h
  | [s], _, _, h3, q, h => by
    have : q = s := by simpa using h
    subst this
    exact h3 q rfl
  | s :: s2 :: r, h1, h2, h3, q, h => by
    have hs : ¬ TW all i s := h3 s rfl
    rcases List.mem_cons.1 h with rfl | h
    · exact hs
    · refine chain_no hL h1.2 (fun q hq => h2 q (List.mem_cons_of_mem _ hq)) (fun q hq hl => ?_) q h
      have e : s2 = q := by simpa using hq
      subst e
      have hf := h2 s2 (by simp) (hL s2 hl)
      have hc := h1.1
      rw [hf] at hc
      exact hs (hl.to hc)
theorem chain_pred {all : List Oper} {i : Nat} (hf : flAt all i = false) : ∀ {ch : List Nat}, Chain all ch → i ∈ ch → ch.head? ≠ some i → ∃ q, q ∈ ch ∧ TW all i q
  | [], _, h, _ => by cases h
  | [s], _, h, h3 => by
    have : i = s := by simpa using h
    subst this
    exact absurd rfl h3
  | s :: s2 :: r, h1, h, h3 => by
    rcases List.mem_cons.1 h with rfl | h
    · exact absurd rfl h3
    · by_cases e : s2 = i
      · subst e
        have hc := h1.1
        rw [hf] at hc
        exact ⟨s, by simp, hc⟩
      · obtain ⟨q, h4, h5⟩ := chain_pred hf h1.2 h (fun h => e (by simpa using h))
        exact ⟨q, List.mem_cons_of_mem _ h4, h5⟩
theorem chain_tail {all : List Oper} {s : Nat} {ch : List Nat} (h : Chain all (s :: ch)) : Chain all ch := by
  cases ch with
  | nil => trivial
  | cons a ch => exact h.2
theorem nodup_inj {α β : Type} {f : α → β} : ∀ {l : List α}, (l.map f).Nodup → ∀ {x y : α}, x ∈ l → y ∈ l → f x = f y → x = y
  | [], _, x, y, h, _, _ => by cases h
  | a :: l, hn, x, y, hx, hy, he => by
    simp only [List.map_cons, List.nodup_cons] at hn
    rcases List.mem_cons.1 hx with h1 | h1
    · rcases List.mem_cons.1 hy with h2 | h2
      · rw [h1, h2]
      · exact absurd (by rw [← h1, he]; exact List.mem_map_of_mem h2) hn.1
    · rcases List.mem_cons.1 hy with h2 | h2
      · exact absurd (by rw [← h2, ← he]; exact List.mem_map_of_mem h1) hn.1
      · exact nodup_inj hn.2 h1 h2 he
theorem put_other {a : Act} {d : Option Tmp} {v : Value} {t : Nat} (h : d ≠ some t) : (a.put d v).tmps.getD t undef = a.tmps.getD t undef := by
  cases d with
  | none => rfl
  | some u =>
    have : u ≠ t := fun e => h (by rw [e])
    simp [Act.put, Array.getD_eq_getD_getElem?, Array.getElem?_setIfInBounds, this]
theorem wpAny_f {P : Program} {ops : Array Oper} {ss : List Nat} {env0 : Ev} {K : Ev → St → Prop} {n nb0 : Nat} {Q : Exit → Act → World → Prop} {A0 : Nat → Prop} {m0 : BM} {w0 : World}
    (hok : anyOk n ops.toList = true) (hss : ∀ s, memN s ss = true → s < ops.size)
    (hQ : ∀ a w, Onward A0 m0 nb0 w0 n K a w → Q .normal a w) (hti : ∀ i, flAt ops.toList i = true → ∃ o t ti, ops[i]? = some o ∧ o.guard = none ∧ o.op = .alloc t ∧ tiOf P t = some ti) :
    ∀ (N fuel : Nat) (ch p en : List Nat) (F : Ev) (st : St) (E : List (Nat × Nat)) (listed : Array Bool) (A : Nat → Prop) (m : BM) (w : World) (a : Act), fuel + ch.length < N → DTf P ops.toList ss env0 K ch p en F st →
      Chain ops.toList ch → ch.Nodup → (∀ i, i ∈ ch → memN i ss = true ∧ memN i p = false) → (∀ i, memN i ss = true → memN i p = true ∨ i ∈ ch) →
      (∀ i, memN i p = true → listed.getD i false = true) → (∀ i, memN i ss = true → listed.getD i false = true → memN i p = true ∨ i ∈ E.map (·.1)) → (∀ i, listed.getD i false = true → memN i ss = false → memN i en = true) → (∀ i, memN i en = true → memN i ss = false) → (∀ i, memN i p = true → memN i ss = true) →
      (∀ x, x ∈ E → listed.getD x.1 false = true ∧ x.1 ∈ ch ∧ flAt ops.toList x.1 = true ∧ ∃ o t ti, ops[x.1]? = some o ∧ o.op = .alloc t ∧ tiOf P t = some ti ∧ Ahead A m w0 w ti x.2 ∧ ∀ d, o.dst = some d → d < n ∧ a.tmps.getD d undef = .pointer (some ⟨x.2, 0, none⟩)) → (E.map (·.2)).Nodup → (E.map (·.1)).Nodup →
      (∀ s i, listed.getD s false = true → waits ops.toList s i = true → listed.getD i false = true) → (∀ t v, look F t = some v → ∃ j, dstAt ops.toList j = some t ∧ (memN j p = true ∨ memN j en = true)) →
      (∀ j t, listed.getD j false = true → dstAt ops.toList j = some t → (∃ v, look F t = some v) ∨ j ∈ E.map (·.1)) →
      listed.size = ops.size → listed.toList.countP (· == false) ≤ fuel → R A m w st → Step A0 m0 nb0 w0 A m st.length w →
      a.tmps.size = n → a.defers = [] → (∀ t v, JustE ops.toList F env0 listed t v → t < n ∧ V A m st.length w v (a.tmps.getD t undef)) → wpAny P .any ops Q fuel listed a w := by
  obtain ⟨hok1, huniq⟩ := anyOk_spec hok
  have lt_of : ∀ j t, dstAt ops.toList j = some t → j < ops.size := fun j t hj => by
    unfold dstAt at hj
    cases ho : ops.toList[j]? with
    | none => rw [ho] at hj; cases hj
    | some o => simpa using (List.getElem?_eq_some_iff.1 ho).1
  have allin : ∀ listed : Array Bool, listed.size = ops.size → Region.ready .any ops listed = [] → ∀ j, j < ops.size → listed.getD j false = true := fun listed hsz hr j => by
    induction j using Nat.strongRecOn with
    | _ j ihj =>
      intro hj
      cases hb : listed.getD j false with
      | true => rfl
      | false =>
        exfalso
        have hj' : j < listed.size := by omega
        have hb' : listed.getD j true = false := by simpa [Array.getD, hj'] using hb
        have hoj : ops[j]? = some ops[j] := Array.getElem?_eq_getElem hj
        have : j ∈ Region.ready .any ops listed := mem_ready.2 ⟨hb', _, hoj, fun e he hbe => by
          have hlt := (hok1 j ops[j] (by simp)).2 e (by simpa using he) hbe
          exact ihj e.on hlt (by omega)⟩
        rw [hr] at this
        cases this
  intro N
  induction N with
  | zero => intro fuel ch p en F st E listed A m w a hN; omega
  | succ N ih =>
    intro fuel ch p en F st E listed A m w a hN hD hC hnd hch hall r0 r1 r2 r3 r4 rE e1 e2 hW hF hL hsz hc hR hS h1 h2 hI
    by_cases hhd : ∃ s ch' B, ch = s :: ch' ∧ (s, B) ∈ E
    · 
      obtain ⟨s, ch', B, rfl, hE⟩ := hhd
      obtain ⟨hls, hsc, hfl, o, t, ti, ho, hop, ht, hah, hdst⟩ := rE _ hE
      simp only at hls hsc hfl ho hah hdst
      have hoL : ops.toList[s]? = some o := by simpa using ho
      have hds : dstAt ops.toList s = o.dst := by unfold dstAt; rw [hoL]; rfl
      obtain ⟨hpa, hcl, hst⟩ := hD
      rw [hoL] at hst
      simp only at hst
      obtain ⟨o', _, _, ho', hg, _, _⟩ := hti s hfl
      rw [ho] at ho'
      cases ho'
      rw [hg] at hst
      have hst2 : SOp2 P o.op (sel F (ea ops.toList env0 s) (depsOf ops.toList o.after.toList)) st _ := hst
      unfold SOp2 at hst2
      rw [hop] at hst2
      have ha : aop P (sel F (ea ops.toList env0 s) (depsOf ops.toList o.after.toList)) st (.alloc t) = some (.mpt st.length 0 0, st ++ [some (ti.size, [litCells ti.zero])]) := by simp only [aop, ht]
      simp only [isCall] at hst2
      rw [ha] at hst2
      obtain ⟨en', new, k0, k4, k5, k6, k7⟩ := hst2
      have hR' := hR.adopt ht hah
      have hS' := hS.adopt hah
      have hn : (st ++ [some (ti.size, [litCells ti.zero])]).length = st.length + 1 := by simp
      have hV : ∀ u v, V A m st.length w u v → V A (m.put st.length (some ⟨true, B, 0, ti.size, ti.size, false⟩)) (st.length + 1) w u v := fun u v hv =>
        hv.mono (fun _ h => h) (fun _ _ => rfl) (Nat.le_succ _) (fun l hl => .inl (by simp only [BM.put]; rw [if_neg (by omega)]))
      have hs0 := hch s (by simp)
      have hnd' := List.nodup_cons.1 hnd
      have hin : ∀ {x : Nat × Nat}, x ∈ E.filter (fun x => x.1 != s) ↔ x ∈ E ∧ x.1 ≠ s := fun {x} => by simp
      refine ih fuel ch' (s :: p) (en' ++ en) (new ++ F) _ (E.filter (fun x => x.1 != s)) listed A _ w a (by simp at hN; omega) k7 (chain_tail hC) hnd'.2 (fun i hi => ?_) (fun i hi => ?_) (fun i hi => ?_) (fun i hi hl => ?_) (fun i hl hi => ?_) (fun i hi => ?_) (fun i hi => ?_) (fun x hx => ?_)
        (List.Nodup.sublist (List.Sublist.map _ List.filter_sublist) e1) (List.Nodup.sublist (List.Sublist.map _ List.filter_sublist) e2) hW (fun t v ht => ?_) (fun j t hl hj => ?_) hsz hc hR' (by rw [hn]; exact hS') h1 h2 (fun t u hJ => ?_)
      · have := hch i (List.mem_cons_of_mem _ hi)
        refine ⟨this.1, ?_⟩
        cases hm : memN i (s :: p) with
        | false => rfl
        | true =>
          rcases memN_cons.1 hm with rfl | h
          · exact absurd hi hnd'.1
          · rw [this.2] at h; cases h
      · rcases hall i hi with h | h
        · exact .inl (memN_cons.2 (.inr h))
        · rcases List.mem_cons.1 h with rfl | h
          · exact .inl (memN_cons.2 (.inl rfl))
          · exact .inr h
      · rcases memN_cons.1 hi with rfl | h
        · exact hls
        · exact r0 i h
      · rcases r1 i hi hl with h | h
        · exact .inl (memN_cons.2 (.inr h))
        · by_cases e : i = s
          · exact .inl (memN_cons.2 (.inl e))
          · obtain ⟨x, hx, rfl⟩ := List.mem_map.1 h
            exact .inr (List.mem_map.2 ⟨x, hin.2 ⟨hx, e⟩, rfl⟩)
      · exact memN_append.2 (.inr (r2 i hl hi))
      · rcases memN_append.1 hi with h | h
        · exact k0 i h
        · exact r3 i h
      · rcases memN_cons.1 hi with rfl | h
        · exact hs0.1
        · exact r4 i h
      · obtain ⟨hx1, hx2⟩ := hin.1 hx
        obtain ⟨q1, q2, q3, o2, t2, ti2, q4, q5, q6, q7, q8⟩ := rE x hx1
        refine ⟨q1, ?_, q3, o2, t2, ti2, q4, q5, q6, ⟨q7.late, q7.low, q7.out, fun l b hb hh => ?_, q7.cell, q7.fz⟩, q8⟩
        · rcases List.mem_cons.1 q2 with h | h
          · exact absurd h hx2
          · exact h
        · simp only [BM.put] at hb
          split at hb
          · cases hb
            intro e
            have := nodup_inj e1 hE hx1 e
            exact hx2 (by rw [← this])
          · exact q7.free l b hb hh
      · rcases look_app (e := F) (G := new) ht with h | h
        · obtain ⟨j, hj, hj2⟩ := hF t v h
          exact ⟨j, hj, hj2.imp (fun h => memN_cons.2 (.inr h)) (fun h => memN_append.2 (.inr h))⟩
        · obtain ⟨j, hj, hj2⟩ := keysIn_spec k5 t (keysOf_mem h)
          exact ⟨j, hj2, memN_append.1 hj⟩
      · rcases hL j t hl hj with ⟨v, hv⟩ | h
        · exact .inl ⟨v, look_new k4 hv⟩
        · by_cases e : j = s
          · subst e
            rw [hds] at hj
            rw [hj] at k6
            exact .inl ⟨_, k6⟩
          · obtain ⟨x, hx, rfl⟩ := List.mem_map.1 h
            exact .inr (List.mem_map.2 ⟨x, hin.2 ⟨hx, e⟩, rfl⟩)
      · rw [hn]
        rcases hJ with hJ | ⟨j, hj1, hj2, hj3⟩
        · obtain ⟨q1, q2⟩ := hI t u (.inl hJ)
          exact ⟨q1, hV _ _ q2⟩
        · by_cases e : j = s
          · subst e
            rw [hds] at hj2
            rw [hj2] at k6
            have hu : u = .mpt st.length 0 0 := Option.some.inj (hj3.symm.trans k6)
            subst hu
            obtain ⟨q1, q2⟩ := hdst t hj2
            refine ⟨q1, ?_⟩
            rw [q2]
            exact .mpt _ _ _ _ (Nat.lt_succ_self _) fun b hb => by
              simp only [BM.put, if_true] at hb
              cases hb
              exact ⟨rfl, rfl, by simp⟩
          · rcases hL j t hj1 hj2 with ⟨v, hv⟩ | h
            · have hu : u = v := Option.some.inj (hj3.symm.trans (look_new k4 hv))
              subst hu
              obtain ⟨q1, q2⟩ := hI t u (.inr ⟨j, hj1, hj2, hv⟩)
              exact ⟨q1, hV _ _ q2⟩
            · exfalso
              obtain ⟨x, hx, rfl⟩ := List.mem_map.1 h
              obtain ⟨_, q2, _⟩ := rE x hx
              have hx1 := hch x.1 q2
              rcases look_app (e := F) (G := new) hj3 with h | h
              · obtain ⟨j', g1, g2⟩ := hF t u h
                have := huniq _ _ _ g1 hj2
                subst this
                rcases g2 with g2 | g2
                · rw [hx1.2] at g2; cases g2
                · rw [r3 _ g2] at hx1; cases hx1.1
              · obtain ⟨j', g1, g2⟩ := keysIn_spec k5 t (keysOf_mem h)
                have := huniq _ _ _ g2 hj2
                subst this
                rcases memN_append.1 g1 with g1 | g1
                · rcases memN_cons.1 g1 with g1 | g1
                  · exact e g1
                  · rw [hx1.2] at g1; cases g1
                · rcases memN_append.1 g1 with g1 | g1
                  · rw [k0 _ g1] at hx1; cases hx1.1
                  · rw [r3 _ g1] at hx1; cases hx1.1
    · have hno : ∀ s, ch.head? = some s → s ∉ E.map (·.1) := fun s hs hm => by
        obtain ⟨x, hx, rfl⟩ := List.mem_map.1 hm
        cases ch with
        | nil => cases hs
        | cons c0 ch =>
          have : c0 = x.1 := by simpa using hs
          subst this
          exact hhd ⟨_, ch, x.2, rfl, hx⟩
      have fin : (∀ j, j < ops.size → listed.getD j false = true) → Q .normal a w := fun hl => by
        cases ch with
        | nil =>
          refine hQ a w ⟨A, m, _, st, hR, env_of h1 h2 fun t v htv => ?_, hS, hD.2.2⟩
          rcases look_app htv with h | h
          · refine hI t v (.inl ⟨look_dropD.2 v h, fun j hj => ?_⟩)
            rw [look_dropD.1 (dsts_mem hj)] at h
            cases h
          · obtain ⟨j, hj, _⟩ := hF t v h
            exact hI t v (.inr ⟨j, hl j (lt_of j t hj), hj, h⟩)
        | cons s ch =>
          exfalso
          have hs0 := hch s (by simp)
          rcases r1 s hs0.1 (hl s (hss s hs0.1)) with h | h
          · rw [hs0.2] at h; cases h
          · exact hno s rfl h
      cases fuel with
      | zero =>
        have hl0 : ∀ j, j < ops.size → listed.getD j true = true := fun j hj => by
          have h0 : listed.toList.countP (· == false) = 0 := by omega
          rw [List.countP_eq_zero] at h0
          have hj' : j < listed.size := by omega
          have := h0 listed[j] (by simp)
          have e : listed.getD j true = listed[j] := by simp [Array.getD, hj']
          rw [e]
          simpa using this
        refine ⟨?_, fin fun j hj => ?_⟩
        · rw [List.eq_nil_iff_forall_not_mem]
          intro j hj
          obtain ⟨h3, o, ho, _⟩ := mem_ready.1 hj
          rw [hl0 j (Array.getElem?_eq_some_iff.1 ho).1] at h3
          cases h3
        · have := hl0 j hj
          have hj' : j < listed.size := by omega
          simpa [Array.getD, hj'] using this
      | succ fuel =>
        refine ⟨fun hr => fin (allin listed hsz hr), fun i hi => ?_⟩
        obtain ⟨h3, o, ho, hdep⟩ := mem_ready.1 hi
        have hil : i < ops.size := (Array.getElem?_eq_some_iff.1 ho).1
        have hil' : i < listed.size := by omega
        have hoL : ops.toList[i]? = some o := by simpa using ho
        have hdi : dstAt ops.toList i = o.dst := by unfold dstAt; rw [hoL]; rfl
        have hnl : listed.getD i false = false := by simpa [Array.getD, hil'] using h3
        have hwl : ∀ q, waits ops.toList i q = true → listed.getD q false = true := fun q hq => by
          obtain ⟨e, he, hb, rfl⟩ := waits_of hoL hq
          exact hdep e (by simpa using he) hb
        have hTW : ∀ j q, TW ops.toList j q → listed.getD j false = true → listed.getD q false = true := fun j q h => by
          induction h with
          | one h => exact fun hl => hW _ _ hl h
          | more h _ ih => exact fun hl => ih (hW _ _ hl h)
        have hTL : ∀ q, TW ops.toList i q → listed.getD q false = true := fun q h => by
          cases h with
          | one h => exact hwl q h
          | more h k => exact hTW _ _ k (hwl _ h)
        have hnone : ∀ q, q ∈ ch → ¬ TW ops.toList i q := chain_no (L := fun q => listed.getD q false = true) hTL hC (fun q hq hl => by
          have hq0 := hch q hq
          rcases r1 q hq0.1 hl with h | h
          · rw [hq0.2] at h; cases h
          · obtain ⟨x, hx, rfl⟩ := List.mem_map.1 h
            exact (rE x hx).2.2.1) (fun q hq hl => by
          have hqc : q ∈ ch := List.mem_of_mem_head? (by rw [hq]; rfl)
          have hq0 := hch q hqc
          rcases r1 q hq0.1 (hTL q hl) with h | h
          · rw [hq0.2] at h; cases h
          · exact hno q hq h)
        have hE : Env A m st.length w n (sel F (ea ops.toList env0 i) (depsOf ops.toList o.after.toList)) a := env_of h1 h2 fun t u htu => hI t u ((look_sel htu).imp (fun h => by
            obtain ⟨h3, h4⟩ := ea_look h
            refine ⟨h3, fun j hj => ?_⟩
            cases hl : listed.getD j false with
            | false => rfl
            | true => rw [hW j i hl (h4 j hj)] at hnl; cases hnl) fun ⟨he, hF⟩ => by
          obtain ⟨e, he1, hb, hd⟩ := deps_sub he
          exact ⟨e.on, hdep e (by simpa using he1) hb, hd, hF⟩)
        have hcnt : (listed.setIfInBounds i true).toList.countP (· == false) ≤ fuel := by
          have hli : listed[i] = false := by simpa [Array.getD, hil'] using h3
          have e1 : (listed.setIfInBounds i true).toList = listed.toList.set i true := by simp
          have hlt : i < listed.toList.length := by simpa using hil'
          have hpos : 0 < listed.toList.countP (· == false) := List.countP_pos_iff.2 ⟨false, by rw [← hli]; simp, rfl⟩
          rw [e1, List.countP_set hlt]
          have e2 : listed.toList[i] = false := by simpa using hli
          have e3 : (true == false) = false := rfl
          have e4 : (false == false) = true := rfl
          simp only [e2, e3, e4, if_true, Bool.false_eq_true, if_false]
          omega
        have set_ne : ∀ j, j ≠ i → (listed.setIfInBounds i true).getD j false = listed.getD j false := fun j hj => by
          rw [getD_set_ne false (Ne.symm hj)]
        have set_eq : (listed.setIfInBounds i true).getD i false = true := by simp [Array.getD, hil']
        have set_up : ∀ j, listed.getD j false = true → (listed.setIfInBounds i true).getD j false = true := fun j hj => by
          by_cases h : j = i
          · subst h; exact set_eq
          · rw [set_ne j h]; exact hj
        have hdn := (hok1 i o hoL).1
        have old : ∀ (val : Value) (v : AV) (w' : World) (A' : Nat → Prop) (m' : BM) (nb' : Nat) (t : Nat) (u : AV), Step A m st.length w A' m' nb' w' → V A' m' nb' w' v val →
            JustE ops.toList F env0 listed t u → (dstAt ops.toList i ≠ some t) → t < n ∧ V A' m' nb' w' u ((a.put o.dst val).tmps.getD t undef) := fun val v w' A' m' nb' t u hS' hV hj hne => by
          have hE1 : Env A m st.length w n [(t, u)] a := env_of h1 h2 fun t' u' h' => by
            rcases look_append1 h' with ⟨rfl, rfl⟩ | h''
            · exact hI _ _ hj
            · cases h''
          have hE2 := (hE1.step hR hS').aput hdn hV
          refine hE2.val t u ?_
          cases hdd : o.dst with
          | none => simp [aput, look]
          | some d =>
            have : d ≠ t := fun e => hne (by rw [hdi, hdd, e])
            simp [aput, look, this]
        have new_ : ∀ (val : Value) (v : AV) (w' : World) (A' : Nat → Prop) (m' : BM) (nb' : Nat) (t : Nat), Step A m st.length w A' m' nb' w' → V A' m' nb' w' v val → o.dst = some t → t < n ∧ V A' m' nb' w' v ((a.put o.dst val).tmps.getD t undef) := fun val v w' A' m' nb' t hS' hV hd => by
          have hE0 : Env A m st.length w n [] a := env_of h1 h2 fun t' u' (h' : none = some u') => by cases h'
          have hE2 := (hE0.step hR hS').aput hdn hV
          exact hE2.val t v (by rw [hd]; simp [aput, look])
        have rE' : ∀ (val : Value) (w' : World) (A' : Nat → Prop) (m' : BM) (nb' : Nat), Step A m st.length w A' m' nb' w' → ∀ x, x ∈ E → (listed.setIfInBounds i true).getD x.1 false = true ∧ x.1 ∈ ch ∧ x.1 ≠ i ∧ flAt ops.toList x.1 = true ∧ ∃ o' t ti, ops[x.1]? = some o' ∧ o'.op = .alloc t ∧ tiOf P t = some ti ∧ Ahead A' m' w0 w' ti x.2 ∧ ∀ d, o'.dst = some d → d < n ∧ (a.put o.dst val).tmps.getD d undef = .pointer (some ⟨x.2, 0, none⟩) := fun val w' A' m' nb' hS' x hx => by
          obtain ⟨q1, q2, q3, o2, t2, ti2, q4, q5, q6, q7, q8⟩ := rE x hx
          have hxi : x.1 ≠ i := fun e => by rw [e, hnl] at q1; cases q1
          refine ⟨set_up _ q1, q2, hxi, q3, o2, t2, ti2, q4, q5, q6, q7.step hS', fun d hd => ?_⟩
          obtain ⟨g1, g2⟩ := q8 d hd
          refine ⟨g1, ?_⟩
          rw [put_other fun e => hxi ?_]
          · exact g2
          · refine huniq _ _ d ?_ (by rw [hdi]; exact e)
            unfold dstAt
            rw [show ops.toList[x.1]? = some o2 by simpa using q4]
            exact hd
        have hW' : ∀ s j, (listed.setIfInBounds i true).getD s false = true → waits ops.toList s j = true → (listed.setIfInBounds i true).getD j false = true := fun s j hs hw => by
          by_cases h : s = i
          · subst h; exact set_up _ (hwl j hw)
          · rw [set_ne s h] at hs; exact set_up _ (hW s j hs hw)
        unfold wpOp
        rw [ho]
        simp only
        cases his : memN i ss with
        | true =>
          have hnp : memN i p = false := by
            cases h : memN i p with
            | false => rfl
            | true => rw [r0 i h] at hnl; cases hnl
          have hic : i ∈ ch := (hall i his).resolve_left (by rw [hnp]; simp)
          by_cases hh : ch.head? = some i
          · 
            obtain ⟨ch', rfl⟩ : ∃ ch', ch = i :: ch' := by
              cases ch with
              | nil => cases hh
              | cons c0 ch => exact ⟨ch, by simp at hh; rw [hh]⟩
            have hnd' := List.nodup_cons.1 hnd
            obtain ⟨hpa, hcl, hst⟩ := hD
            rw [hoL] at hst
            simp only at hst
            have go : ∀ (val : Value) (av : AV) (w' : World) (A' : Nat → Prop) (m' : BM) (st' : St), R A' m' w' st' → Step A m st.length w A' m' st'.length w' → V A' m' st'.length w' av val → (∃ en' new, (∀ i, memN i en' = true → memN i ss = false) ∧
                keysOut (keysOf new) F = true ∧ keysIn ops.toList ((i :: p) ++ (en' ++ en)) (keysOf new) = true ∧ (match o.dst with | some t => look (new ++ F) t = some av | none => True) ∧ DTf P ops.toList ss env0 K ch' (i :: p) (en' ++ en) (new ++ F) st') →
                wpAny P .any ops Q fuel (listed.setIfInBounds i true) (a.put o.dst val) w' := fun val av w' A' m' st' kR kS kV ⟨en', new, k0, k4, k5, k6, k7⟩ => by
              have hlk : ∀ t u, look F t = some u → look (new ++ F) t = some u := fun t u h => look_new k4 h
              refine ih fuel ch' (i :: p) (en' ++ en) (new ++ F) st' E _ A' m' w' _ (by simp at hN; omega) k7 (chain_tail hC) hnd'.2 (fun j hj => ?_) (fun j hj => ?_) (fun j hj => ?_) (fun j hj hl => ?_) (fun j hl hj => ?_) (fun j hj => ?_) (fun j hj => ?_) (fun x hx => ?_) e1 e2 hW' (fun t v ht => ?_) (fun j t hl hj => ?_) (by simpa using hsz) hcnt kR (hS.trans0 (kS.weak (Nat.le_refl _) |> fun h => h.weak hS.nbLe)) (by cases hdd : o.dst <;> simp [Act.put, h1]) (by cases hdd : o.dst <;> simp [Act.put, h2]) (fun t u hJ => ?_)
              · have := hch j (List.mem_cons_of_mem _ hj)
                refine ⟨this.1, ?_⟩
                cases hm : memN j (i :: p) with
                | false => rfl
                | true =>
                  rcases memN_cons.1 hm with rfl | h
                  · exact absurd hj hnd'.1
                  · rw [this.2] at h; cases h
              · rcases hall j hj with h | h
                · exact .inl (memN_cons.2 (.inr h))
                · rcases List.mem_cons.1 h with rfl | h
                  · exact .inl (memN_cons.2 (.inl rfl))
                  · exact .inr h
              · rcases memN_cons.1 hj with rfl | h
                · exact set_eq
                · exact set_up j (r0 j h)
              · by_cases h : j = i
                · exact .inl (memN_cons.2 (.inl h))
                · rw [set_ne j h] at hl
                  exact (r1 j hj hl).imp (fun h => memN_cons.2 (.inr h)) id
              · by_cases h : j = i
                · subst h; rw [his] at hj; cases hj
                · rw [set_ne j h] at hl; exact memN_append.2 (.inr (r2 j hl hj))
              · rcases memN_append.1 hj with h | h
                · exact k0 j h
                · exact r3 j h
              · rcases memN_cons.1 hj with rfl | h
                · exact his
                · exact r4 j h
              · obtain ⟨q1, q2, q3, q4⟩ := rE' val w' A' m' _ kS x hx
                refine ⟨q1, ?_, q4⟩
                rcases List.mem_cons.1 q2 with h | h
                · exact absurd h q3
                · exact h
              · rcases look_app (e := F) (G := new) ht with h | h
                · obtain ⟨j, hj, hj2⟩ := hF t v h
                  exact ⟨j, hj, hj2.imp (fun h => memN_cons.2 (.inr h)) (fun h => memN_append.2 (.inr h))⟩
                · obtain ⟨j, hj, hj2⟩ := keysIn_spec k5 t (keysOf_mem h)
                  exact ⟨j, hj2, memN_append.1 hj⟩
              · by_cases h : j = i
                · subst h
                  rw [hdi] at hj
                  rw [hj] at k6
                  exact .inl ⟨av, k6⟩
                · rw [set_ne j h] at hl
                  exact (hL j t hl hj).imp (fun ⟨v, hv⟩ => ⟨v, hlk t v hv⟩) id
              · rcases hJ with ⟨hJ, hJ2⟩ | ⟨j, hj1, hj2, hj3⟩
                · have hni : dstAt ops.toList i ≠ some t := fun hd => by
                    have := hJ2 i hd
                    rw [set_eq] at this
                    cases this
                  refine old val av w' A' m' st'.length t u kS kV (.inl ⟨hJ, fun j hj => ?_⟩) hni
                  have := hJ2 j hj
                  by_cases h : j = i
                  · subst h; exact absurd hj hni
                  · rwa [set_ne j h] at this
                · by_cases hji : j = i
                  · subst hji
                    rw [hdi] at hj2
                    rw [hj2] at k6
                    have hu : u = av := Option.some.inj (hj3.symm.trans k6)
                    subst hu
                    exact new_ val u w' A' m' st'.length t kS kV hj2
                  · rw [set_ne j hji] at hj1
                    rcases hL j t hj1 hj2 with ⟨v, hv⟩ | h
                    · have hu : u = v := Option.some.inj (hj3.symm.trans (hlk t v hv))
                      subst hu
                      exact old val av w' A' m' st'.length t u kS kV (.inr ⟨j, hj1, hj2, hv⟩) fun hd => hji (huniq _ _ _ hj2 hd)
                    · exfalso
                      obtain ⟨x, hx, rfl⟩ := List.mem_map.1 h
                      obtain ⟨_, q2, _⟩ := rE x hx
                      have hx1 := hch x.1 q2
                      rcases look_app (e := F) (G := new) hj3 with h | h
                      · obtain ⟨j', g1, g2⟩ := hF t u h
                        have := huniq _ _ _ g1 hj2
                        subst this
                        rcases g2 with g2 | g2
                        · rw [hx1.2] at g2; cases g2
                        · rw [r3 _ g2] at hx1; cases hx1.1
                      · obtain ⟨j', g1, g2⟩ := keysIn_spec k5 t (keysOf_mem h)
                        have := huniq _ _ _ g2 hj2
                        subst this
                        rcases memN_append.1 g1 with g1 | g1
                        · rcases memN_cons.1 g1 with g1 | g1
                          · exact hji g1
                          · rw [hx1.2] at g1; cases g1
                        · rcases memN_append.1 g1 with g1 | g1
                          · rw [k0 _ g1] at hx1; cases hx1.1
                          · rw [r3 _ g1] at hx1; cases hx1.1
            split at hst
            · rename_i hg
              rw [guard_sound hE ((cguard_eq _ _ _).trans hg)]
              simp only [if_true]
              exact .inl (op_wp2 hR hE hst fun val w' A' m' st' av k1 k2 k3 k => go val av w' A' m' st' k1 k2 k3 k)
            · rename_i hg
              rw [guard_sound hE ((cguard_eq _ _ _).trans hg)]
              simp only [Bool.false_eq_true, if_false]
              exact go undef (.lit undef) w A m st hR (Step.refl _ _ _ _) (.imm (.lit _)) hst
            · exact hst.elim
          · 
            cases hfl : flAt ops.toList i with
            | false =>
              obtain ⟨q, hq1, hq2⟩ := chain_pred hfl hC hic hh
              exact absurd hq2 (hnone q hq1)
            | true =>
              obtain ⟨o', t, ti, ho', hg, hop, ht⟩ := hti i hfl
              rw [ho] at ho'
              cases ho'
              have hgs : cguard (sel F (ea ops.toList env0 i) (depsOf ops.toList o.after.toList)) (guardOf ops.toList o.guard) = some true := by rw [hg]; rfl
              rw [guard_sound hE ((cguard_eq _ _ _).trans hgs)]
              simp only [if_true]
              refine .inl (made_wp ht hop hR hS.size fun w' hgr hah => ?_)
              obtain ⟨hR', hSt⟩ := hR.grow' hgr
              have hlow : ∀ x, x ∈ E → x.2 < w.heap.size := fun x hx => by
                obtain ⟨_, _, _, _, _, _, _, _, _, q7, _⟩ := rE x hx
                exact q7.low
              refine ih fuel ch p en F st ((i, w.heap.size) :: E) _ A m w' _ (by omega) hD hC hnd hch hall (fun j hj => set_up j (r0 j hj)) (fun j hj hl => ?_) (fun j hl hj => ?_) r3 r4 (fun x hx => ?_) ?_ ?_ hW' hF (fun j t hl hj => ?_) (by simpa using hsz) hcnt hR' (hS.trans0 (hSt.weak hS.nbLe)) (by cases hdd : o.dst <;> simp [Act.put, h1]) (by cases hdd : o.dst <;> simp [Act.put, h2]) (fun t u hJ => ?_)
              · by_cases h : j = i
                · exact .inr (by simp [h])
                · rw [set_ne j h] at hl
                  exact (r1 j hj hl).imp id (fun h => by simp only [List.map_cons, List.mem_cons]; exact .inr h)
              · by_cases h : j = i
                · subst h; rw [his] at hj; cases hj
                · rw [set_ne j h] at hl; exact r2 j hl hj
              · rcases List.mem_cons.1 hx with rfl | hx
                · refine ⟨set_eq, hic, hfl, o, t, ti, ho, hop, ht, hah, fun d hd => ?_⟩
                  have hdlt : d < n := by have := hdn; rw [hd] at this; simpa using this
                  refine ⟨hdlt, ?_⟩
                  rw [hd]
                  simp [Act.put, Array.getD_eq_getD_getElem?, Array.getElem?_setIfInBounds, h1, hdlt]
                · obtain ⟨q1, q2, q3, q4⟩ := rE' (.pointer (some ⟨w.heap.size, 0, none⟩)) w' A m _ hSt x hx
                  exact ⟨q1, q2, q4⟩
              · simp only [List.map_cons, List.nodup_cons]
                refine ⟨fun h => ?_, e1⟩
                obtain ⟨x, hx, he⟩ := List.mem_map.1 h
                have := hlow x hx
                omega
              · simp only [List.map_cons, List.nodup_cons]
                refine ⟨fun h => ?_, e2⟩
                obtain ⟨x, hx, he⟩ := List.mem_map.1 h
                have := (rE x hx).1
                rw [he, hnl] at this
                cases this
              · by_cases h : j = i
                · exact .inr (by simp [h])
                · rw [set_ne j h] at hl
                  exact (hL j t hl hj).imp id (fun h => by simp only [List.map_cons, List.mem_cons]; exact .inr h)
              · have hni : dstAt ops.toList i ≠ some t := fun hd => by
                  rcases hJ with ⟨hJ, hJ2⟩ | ⟨j, hj1, hj2, hj3⟩
                  · have := hJ2 i hd
                    rw [set_eq] at this
                    cases this
                  · obtain ⟨j', g1, g2⟩ := hF t u hj3
                    have := huniq _ _ _ g1 hd
                    subst this
                    rcases g2 with g2 | g2
                    · rw [hnp] at g2; cases g2
                    · rw [r3 _ g2] at his; cases his
                refine old (.pointer (some ⟨w.heap.size, 0, none⟩)) .any w' A m st.length t u hSt (.imm (.any _)) ?_ hni
                rcases hJ with ⟨hJ, hJ2⟩ | ⟨j, hj1, hj2, hj3⟩
                · refine .inl ⟨hJ, fun j hj => ?_⟩
                  have := hJ2 j hj
                  by_cases h : j = i
                  · subst h; exact absurd hj hni
                  · rwa [set_ne j h] at this
                · refine .inr ⟨j, ?_, hj2, hj3⟩
                  by_cases h : j = i
                  · subst h; exact absurd hj2 hni
                  · rwa [set_ne j h] at hj1
        | false =>
          obtain ⟨hpa, hcl⟩ := hD.pall
          have hwi : waitsIn ops.toList ss p en i = true := by
            unfold waitsIn
            rw [hoL]
            simp only [List.all_eq_true, Bool.or_eq_true, Bool.not_eq_true']
            intro e he
            cases hb : Region.binds .any e with
            | false => exact .inl rfl
            | true =>
              refine .inr ?_
              have hl := hdep e (by simpa using he) hb
              split
              · rename_i hs
                rcases r1 _ hs hl with h | h
                · exact h
                · exfalso
                  obtain ⟨x, hx, hxe⟩ := List.mem_map.1 h
                  obtain ⟨_, q2, _⟩ := rE x hx
                  rw [hxe] at q2
                  refine hnone _ q2 (.one ?_)
                  unfold waits
                  rw [hoL]
                  simp only [List.any_eq_true, Bool.and_eq_true]
                  exact ⟨e, he, hb, Nat.beq_refl _⟩
              · rename_i hs; exact r2 _ hl (by simpa using hs)
          have hen : memN i en = true := by
            have := (List.all_eq_true.1 hcl) i (List.mem_range.2 (by simpa using hil))
            rw [his, hwi] at this
            simpa using this
          have hpe : pendB ops.toList i p = true := pend_of fun s hs => by
            cases hw : waits ops.toList s i with
            | false => rfl
            | true => rw [hW s i (r0 s hs) hw] at hnl; cases hnl
          have hat := hpa.at i hen hpe
          unfold PureAt at hat
          rw [hoL] at hat
          simp only at hat
          obtain ⟨v, hv, hop⟩ := hat
          have next : ∀ (val : Value) (w' : World) (A' : Nat → Prop) (m' : BM), R A' m' w' st → Step A m st.length w A' m' st.length w' → V A' m' st.length w' v val → wpAny P .any ops Q fuel (listed.setIfInBounds i true) (a.put o.dst val) w' := fun val w' A' m' hR' hS' hV => by
            refine ih fuel ch p en F st E _ A' m' w' _ (by omega) hD hC hnd hch hall (fun j hj => set_up j (r0 j hj)) (fun j hj hl => ?_) (fun j hl hj => ?_) r3 r4 (fun x hx => ?_) e1 e2 hW' hF (fun j t hl hj => ?_) (by simpa using hsz) hcnt hR' (hS.trans0 (hS'.weak hS.nbLe)) (by cases hdd : o.dst <;> simp [Act.put, h1]) (by cases hdd : o.dst <;> simp [Act.put, h2]) fun t u hJ => ?_
            · by_cases h : j = i
              · subst h; rw [his] at hj; cases hj
              · rw [set_ne j h] at hl; exact r1 j hj hl
            · by_cases h : j = i
              · subst h; exact hen
              · rw [set_ne j h] at hl; exact r2 j hl hj
            · obtain ⟨q1, q2, q3, q4⟩ := rE' val w' A' m' _ hS' x hx
              exact ⟨q1, q2, q4⟩
            · by_cases h : j = i
              · subst h
                rw [hdi] at hj
                rw [hj] at hv
                exact .inl ⟨v, hv⟩
              · rw [set_ne j h] at hl; exact hL j t hl hj
            · rcases hJ with ⟨hJ, hJ2⟩ | ⟨j, hj1, hj2, hj3⟩
              · have hni : dstAt ops.toList i ≠ some t := fun hd => by
                  have := hJ2 i hd
                  rw [set_eq] at this
                  cases this
                refine old val v w' A' m' st.length t u hS' hV (.inl ⟨hJ, fun j hj => ?_⟩) hni
                have := hJ2 j hj
                by_cases h : j = i
                · subst h; exact absurd hj hni
                · rwa [set_ne j h] at this
              · by_cases hji : j = i
                · subst hji
                  rw [hdi] at hj2
                  rw [hj2] at hv
                  have hu : u = v := Option.some.inj (hj3.symm.trans hv)
                  subst hu
                  exact new_ val u w' A' m' st.length t hS' hV hj2
                · rw [set_ne j hji] at hj1
                  exact old val v w' A' m' st.length t u hS' hV (.inr ⟨j, hj1, hj2, hj3⟩) fun hd => hji (huniq _ _ _ hj2 hd)
          unfold OpIs at hop
          split at hop
          · rename_i hg
            rw [guard_sound hE ((cguard_eq _ _ _).trans hg)]
            simp only [if_true]
            refine .inl (op_wp2 hR hE hop fun val w' A' m' st' av k1 k2 k3 ⟨k4, k5⟩ => ?_)
            subst k4; subst k5
            exact next val w' A' m' k1 k2 k3
          · rename_i hg
            rw [guard_sound hE ((cguard_eq _ _ _).trans hg)]
            simp only [Bool.false_eq_true, if_false]
            subst hop
            exact next undef w A m hR (Step.refl _ _ _ _) (.imm (.lit _))
          · exact hop.elim
end Go.Proofs.YthmnlfenkhmmhaaGreat
namespace Go.Proofs.YthmnlfenkhmmhaaGreat
set_option linter.unusedSimpArgs false
set_option linter.unusedVariables false
set_option linter.unusedSectionVars false
theorem look_ap {t : Nat} {F : Ev} : ∀ {G : Ev}, look (G ++ F) t = match look G t with | some v => some v | none => look F t
  | [] => rfl
  | (k, v) :: G => by
    show (if k = t then some v else look (G ++ F) t) = match (if k = t then some v else look G t) with | some v => some v | none => look F t
    by_cases h : k = t
    · simp [h]
    · simp only [if_neg h]; exact look_ap
theorem drop_keep {ds : List Tmp} {t : Tmp} (h : t ∉ ds) : ∀ {e : Ev}, look (dropD ds e) t = look e t
  | [] => rfl
  | (k, v) :: e => by
    unfold dropD
    split
    · rename_i hk
      rw [drop_keep h]
      show _ = if k = t then some v else look e t
      rw [if_neg (fun e => by subst e; exact h (memB_iff.1 hk))]
    · show (if k = t then some v else look (dropD ds e) t) = if k = t then some v else look e t
      rw [drop_keep h]
theorem sel_dep {G e : Ev} {t : Nat} {u : AV} (hu : look G t = some u) : ∀ {ts : List Tmp}, t ∈ ts → look (sel G e ts) t = some u
  | [], h => by cases h
  | x :: ts, h => by
    unfold sel
    by_cases hx : x = t
    · subst hx
      rw [hu]
      show (if x = x then some u else _) = _
      rw [if_pos rfl]
    · have h' : t ∈ ts := (List.mem_cons.1 h).resolve_left (Ne.symm hx)
      split
      · show (if x = t then _ else look (sel G e ts) t) = _
        rw [if_neg hx]; exact sel_dep hu h'
      · exact sel_dep hu h'
theorem sel_not {G e : Ev} {t : Nat} : ∀ {ts : List Tmp}, t ∉ ts → look (sel G e ts) t = look e t
  | [], _ => rfl
  | x :: ts, h => by
    have h1 : x ≠ t := fun e => h (by rw [e]; simp)
    have h2 : t ∉ ts := fun e => h (List.mem_cons_of_mem _ e)
    unfold sel
    split
    · show (if x = t then _ else look (sel G e ts) t) = _
      rw [if_neg h1]; exact sel_not h2
    · exact sel_not h2
theorem sel_more {F F' e : Ev} : ∀ {ts : List Tmp}, (∀ t ∈ ts, ∃ u, look F t = some u ∧ look F' t = some u) → sel F' e ts = sel F e ts
  | [], _ => rfl
  | t :: ts, h => by
    obtain ⟨u, h1, h2⟩ := h t (by simp)
    unfold sel
    rw [h1, h2, sel_more fun t ht => h t (List.mem_cons_of_mem _ ht)]
theorem keysOut_of {ds : List Nat} : ∀ {F : Ev}, (∀ t ∈ ds, look F t = none) → keysOut ds F = true
  | [], _ => rfl
  | (k, v) :: F, h => by
    unfold keysOut
    rw [Bool.and_eq_true, Bool.not_eq_true']
    refine ⟨?_, keysOut_of fun t ht => ?_⟩
    · cases hm : memN k ds with
      | false => rfl
      | true =>
        have := h k (memN_iff.1 hm)
        rw [show look ((k, v) :: F) k = if k = k then some v else look F k from rfl, if_pos rfl] at this
        cases this
    · have := h t ht
      rw [show look ((k, v) :: F) t = if k = t then some v else look F t from rfl] at this
      split at this
      · cases this
      · exact this
theorem keysIn_of {all : List Oper} {l : List Nat} : ∀ {ks : List Nat}, (∀ k ∈ ks, ∃ j, memN j l = true ∧ dstAt all j = some k) → keysIn all l ks = true
  | [], _ => rfl
  | k :: ks, h => by
    unfold keysIn
    rw [Bool.and_eq_true]
    refine ⟨?_, keysIn_of fun k hk => h k (List.mem_cons_of_mem _ hk)⟩
    obtain ⟨j, h1, h2⟩ := h k (by simp)
    rw [List.any_eq_true]
    refine ⟨j, memN_iff.1 h1, ?_⟩
    rw [h2]
    exact Nat.beq_refl _
theorem plain_st {P : Program} {o : Op} {env : Ev} {st st1 : St} {v : AV} (hp : plainOp o = true) (h : aop P env st o = some (v, st1)) (st' : St) : aop P env st' o = some (v, st') := by
  cases o <;> simp only [plainOp] at hp <;> try cases hp
  case move x => simp only [aop] at h ⊢; obtain ⟨a, h1, h2⟩ := map_some h; cases h2; rw [h1]; rfl
  case assign x => simp only [aop] at h ⊢; obtain ⟨a, h1, h2⟩ := map_some h; cases h2; rw [h1]; rfl
  case pick c a b =>
    simp only [aop] at h ⊢
    split at h
    · rename_i hc; obtain ⟨a, h1, h2⟩ := map_some h; cases h2; (try rw [hc]); (try simp only); rw [h1]; rfl
    · rename_i hc; obtain ⟨a, h1, h2⟩ := map_some h; cases h2; (try rw [hc]); (try simp only); rw [h1]; rfl
    · cases h
  case unOp op t x =>
    simp only [aop] at h ⊢
    split at h
    · rename_i hc; obtain ⟨a, h1, h2⟩ := map_some h; cases h2; (try rw [hc]); (try simp only); rw [h1]; rfl
    · cases h
  case extract t i =>
    simp only [aop] at h ⊢
    split at h
    · rename_i hc; obtain ⟨a, h1, h2⟩ := map_some h; cases h2; (try rw [hc]); (try simp only); rw [h1]; rfl
    · cases h
  case build t ps =>
    simp only [aop] at h ⊢
    split at h
    · rename_i ht he
      (try rw [ht, he])
      (try simp only)
      split at h
      · rename_i hk; obtain ⟨a, h1, h2⟩ := map_some h; cases h2; (try rw [hk]); (try simp only); rw [h1]; rfl
      · rename_i hk
        (try rw [hk])
        (try simp only)
        split at h
        · rename_i hq; obtain ⟨a, h1, h2⟩ := map_some h; cases h2; (try rw [hq]); (try simp only); rw [h1]; rfl
        · cases h
      · cases h
    · cases h
  case makeFunc f a b =>
    cases f with
    | func f =>
      simp only [aop] at h ⊢
      split at h
      · rename_i h1 h2; cases h; first | rfl | rw [h1, h2]
      · cases h
    | _ => cases h
  case field t x f =>
    simp only [aop] at h ⊢
    split at h
    · rename_i hc; obtain ⟨a, h1, h2⟩ := map_some h; cases h2; (try rw [hc]); (try simp only); rw [h1]; rfl
    · cases h
theorem eqXV_e : ∀ {x y : XV}, eqXV x y = true → x = y
  | .i k n, y, h => by
    cases y with
    | i k' n' =>
      have h' : (Nat.beq k k' && Nat.beq n n') = true := h
      rw [Bool.and_eq_true] at h'
      rw [beq_of h'.1, beq_of h'.2]
    | _ => cases h
  | .s n, y, h => by
    cases y with
    | s n' => rw [beq_of (show Nat.beq n n' = true from h)]
    | _ => cases h
  | .p t a b c, y, h => by
    cases y with
    | p t' a' b' c' =>
      have h' : (Nat.beq t t' && (Nat.beq a a' && (Nat.beq b b' && Nat.beq c c'))) = true := h
      simp only [Bool.and_eq_true] at h'
      rw [beq_of h'.1, beq_of h'.2.1, beq_of h'.2.2.1, beq_of h'.2.2.2]
    | _ => cases h
  | .c a b, y, h => by
    cases y with
    | c a' b' =>
      have h' : (eqXV a a' && eqXV b b') = true := h
      rw [Bool.and_eq_true] at h'
      rw [eqXV_e h'.1, eqXV_e h'.2]
    | _ => cases h
  | .g t x, y, h => by
    cases y with
    | g t' x' =>
      have h' : (Nat.beq t t' && eqXV x x') = true := h
      rw [Bool.and_eq_true] at h'
      rw [beq_of h'.1, eqXV_e h'.2]
    | _ => cases h
structure Inv (P : Program) (all : List Oper) (ss : List Nat) (env0 : Ev) (p en : List Nat) (F : Ev) (e : Fe) : Prop where
  env : EnvP allT e (F ++ env0)
  keys : ∀ t v, look F t = some v → ∃ j, dstAt all j = some t ∧ (memN j p = true ∨ memN j en = true)
  has : ∀ j t, (memN j p = true ∨ memN j en = true) → dstAt all j = some t → ∃ v, look F t = some v
  deps : ∀ i, (memN i p = true ∨ memN i en = true) → ∀ x, waits all i x = true → (memN x p = true ∨ memN x en = true)
  enN : ∀ i, memN i en = true → memN i ss = false
  pN : ∀ i, memN i p = true → memN i ss = true
  pT : ∀ i, memN i en = true → ∃ o, all[i]? = some o ∧ turnsB P o.op = false
def PureN (P : Program) (all : List Oper) (env0 : Ev) (p en : List Nat) (F : Ev) (st : St) : Prop := ∀ i, memN i en = true → pendB all i p = true → PureAt P all env0 F st i
theorem PAll_of {P all env0 F st p} : ∀ {l : List Nat}, (∀ i, memN i l = true → pendB all i p = true → PureAt P all env0 F st i) → PAll P all env0 F st p l
  | [], _ => trivial
  | i :: l, h => ⟨h i (by simp [memN]), PAll_of fun j hj => h j (by simp [memN, hj])⟩
theorem memN_ap {i : Nat} {l r : List Nat} : memN i (l ++ r) = true ↔ memN i l = true ∨ memN i r = true := memN_append
section
variable {P : Program} {all : List Oper} {ss : List Nat} {env0 : Ev} {p en : List Nat} {F : Ev} {e : Fe}
abbrev envI (all : List Oper) (env0 F : Ev) (i : Nat) (o : Oper) : Ev := sel F (ea all env0 i) (depsOf all o.after.toList)
theorem waits_edge {i : Nat} {o : Oper} {ed : Edge} (ho : all[i]? = some o) (he : ed ∈ o.after.toList) (hb : Region.binds .any ed = true) : waits all i ed.on = true := by
  unfold waits
  rw [ho]
  simp only [List.any_eq_true, Bool.and_eq_true]
  exact ⟨ed, he, hb, Nat.beq_refl _⟩
theorem Inv.dep (h : Inv P all ss env0 p en F e) {i : Nat} {o : Oper} (ho : all[i]? = some o) (hd : ∀ x, waits all i x = true → (memN x p = true ∨ memN x en = true)) {t : Nat} (ht : t ∈ depsOf all o.after.toList) : ∃ u, look F t = some u := by
  obtain ⟨ed, h1, h2, h3⟩ := deps_sub ht
  exact h.has ed.on t (hd _ (waits_edge ho h1 h2)) h3
theorem Inv.reads (h : Inv P all ss env0 p en F e) {i : Nat} {o : Oper} (ho : all[i]? = some o) (hd : ∀ x, waits all i x = true → (memN x p = true ∨ memN x en = true)) (hr : readsOk all (p ++ en) i = true) :
    EnvP (fun t => t ∈ opT o.op) e (envI all env0 F i o) ∧ (∀ j w t v, o.guard = some (j, w) → dstAt all j = some t → t < 512 → e.at t = some v → look (envI all env0 F i o) t = some (dec v)) := by
  unfold readsOk at hr
  rw [ho] at hr
  simp only [Bool.and_eq_true] at hr
  have dep : ∀ t v, t ∈ depsOf all o.after.toList → t < 512 → e.at t = some v → look (envI all env0 F i o) t = some (dec v) := fun t v ht h5 hv => by
    obtain ⟨u, hu⟩ := h.dep ho hd ht
    have h1 := h.env t v trivial h5 hv
    rw [look_ap, hu] at h1
    cases h1
    exact sel_dep hu ht
  refine ⟨fun t v ht h5 hv => ?_, fun j w t v hg hj h5 hv => ?_⟩
  · have h1 := List.all_eq_true.1 hr.1 t ht
    cases hm : memN t (depsOf all o.after.toList) with
    | true => exact dep t v (memN_iff.1 hm) h5 hv
    | false =>
      rw [hm, Bool.false_or, Bool.and_eq_true, Bool.not_eq_true'] at h1
      have hn : look F t = none := by
        cases hu : look F t with
        | none => rfl
        | some u =>
          obtain ⟨j, h2, h3⟩ := h.keys t u hu
          have h4 := List.all_eq_true.1 h1.2 j (memN_iff.1 (memN_ap.2 h3))
          rw [h2] at h4
          simp at h4
      have h6 := h.env t v trivial h5 hv
      rw [look_ap, hn] at h6
      rw [sel_not (fun h => by rw [memN_iff.2 h] at hm; cases hm)]
      unfold ea
      rw [drop_keep (fun h => by rw [memN_iff.2 h] at h1; cases h1.1)]
      exact h6
  · rw [hg] at hr
    simp only at hr
    rw [hj] at hr
    exact dep t v (memN_iff.1 hr.2) h5 hv
theorem Inv.ext (h : Inv P all ss env0 p en F e) (hu : ∀ i j t, dstAt all i = some t → dstAt all j = some t → i = j) {i : Nat} {o : Oper} (ho : all[i]? = some o) (hp : memN i p = false) (he : memN i en = false) {f : XV → Fe → Fe} (hf : cput o.dst = .p f) (v : XV) :
    EnvP allT (f v e) (aput o.dst (dec v) F ++ env0) ∧ (∀ t u, look F t = some u → look (aput o.dst (dec v) F) t = some u) ∧ (∀ t u, look (aput o.dst (dec v) F) t = some u → dstAt all i = some t ∨ look F t = some u) ∧ (∀ t, dstAt all i = some t → look (aput o.dst (dec v) F) t = some (dec v) ∧ look F t = none) := by
  have hdi : dstAt all i = o.dst := by unfold dstAt; rw [ho]; rfl
  have hn : ∀ t, dstAt all i = some t → look F t = none := fun t ht => by
    cases hx : look F t with
    | none => rfl
    | some u =>
      obtain ⟨j, h2, h3⟩ := h.keys t u hx
      have := hu _ _ _ h2 ht
      subst this
      rcases h3 with h3 | h3
      · rw [hp] at h3; cases h3
      · rw [he] at h3; cases h3
  have hE := h.env.put hf v
  cases hd : o.dst with
  | none =>
    rw [hd] at hE hdi
    exact ⟨hE, fun _ _ h => h, fun _ _ h => .inr h, fun t ht => by rw [hdi] at ht; cases ht⟩
  | some d =>
    rw [hd] at hE hdi
    have e1 : ∀ t, look (aput (some d) (dec v) F) t = if d = t then some (dec v) else look F t := fun t => rfl
    refine ⟨hE, fun t u ht => ?_, fun t u ht => ?_, fun t ht => ?_⟩
    · rw [e1]
      by_cases hdt : d = t
      · rw [hn t (by rw [hdi, hdt])] at ht; cases ht
      · rw [if_neg hdt]; exact ht
    · rw [e1] at ht
      by_cases hdt : d = t
      · exact .inl (by rw [hdi, hdt])
      · rw [if_neg hdt] at ht; exact .inr ht
    · have hdt : d = t := by rw [hdi] at ht; exact Option.some.inj ht
      exact ⟨by rw [e1, if_pos hdt], hn t ht⟩
theorem Inv.more (h : Inv P all ss env0 p en F e) {F' : Ev} {st : St} (hm : ∀ t u, look F t = some u → look F' t = some u) {i : Nat} (hi : memN i p = true ∨ memN i en = true) (hp : PureAt P all env0 F st i) : PureAt P all env0 F' st i := by
  unfold PureAt at hp ⊢
  cases ho : all[i]? with
  | none => rw [ho] at hp; exact hp.elim
  | some o =>
    rw [ho] at hp
    obtain ⟨v, h1, h2⟩ := hp
    refine ⟨v, ?_, ?_⟩
    · cases hd : o.dst with
      | none => trivial
      | some t => rw [hd] at h1; exact hm t v h1
    · unfold OpIs at h2 ⊢
      rw [sel_more (F := F) (F' := F') fun t ht => by
        obtain ⟨u, hu⟩ := h.dep ho (h.deps i hi) ht
        exact ⟨u, hu, hm t u hu⟩]
      exact h2
theorem waitsIn_done {i : Nat} (hw : waitsIn all ss p en i = true) : ∀ x, waits all i x = true → (memN x p = true ∨ memN x en = true) := fun x hx => by
  unfold waits at hx
  unfold waitsIn at hw
  cases ho : all[i]? with
  | none => rw [ho] at hx; cases hx
  | some o =>
    rw [ho] at hx hw
    obtain ⟨ed, h1, h2⟩ := List.any_eq_true.1 hx
    rw [Bool.and_eq_true] at h2
    have h3 := List.all_eq_true.1 hw ed h1
    rw [h2.1] at h3
    rw [← beq_of h2.2]
    simp only [Bool.not_true, Bool.false_or] at h3
    split at h3
    · exact .inl h3
    · exact .inr h3
end
section
variable {P : Program} {c : Cl} {r : Xo} (hc : ClOk P c) (hr : r ≠ .no)
include hc hr
theorem cgd_d {all : List Oper} {o : Oper} {kx : Kx} {e : Fe} {s : Sx} {env : Ev} {st : St} (h : (cgd P all o kx).go c e s = r) (hE : EnvP (fun t => t ∈ opT o.op) e env) (hs : RepS s st)
    (hg : ∀ j w t v, o.guard = some (j, w) → dstAt all j = some t → t < 512 → e.at t = some v → look env t = some (dec v)) :
    ∃ f, cput o.dst = .p f ∧ ((cguard env (guardOf all o.guard) = some true ∧ ∃ v s', kx c (f v e) s' = r ∧ SOp2 P o.op env st (fun a st' => a = dec v ∧ RepS s' st')) ∨ (cguard env (guardOf all o.guard) = some false ∧ kx c (f (.p 7 0 0 0) e) s = r)) := by
  cases hp : cput o.dst with
  | p f =>
    refine ⟨f, rfl, ?_⟩
    have run : ∀ {g : Cl → Fe → Sx → Xo}, crun P o kx = .f g → g c e s = r → ∃ v s', kx c (f v e) s' = r ∧ SOp2 P o.op env st (fun a st' => a = dec v ∧ RepS s' st') := fun {g} hgx h => by
      unfold crun at hgx
      rw [hp] at hgx
      have hg' : cop P (fun c v e s => kx c (f v e) s) o.op = .f g := hgx
      have h' : (cop P (fun c v e s => kx c (f v e) s) o.op).go c e s = r := by rw [hg']; exact h
      exact cop_s hr hs hc h' hE
    unfold cgd at h
    cases hgu : o.guard with
    | none =>
      rw [hgu] at h
      simp only at h
      cases hx : crun P o kx with
      | f g => rw [hx] at h; exact .inl ⟨rfl, run hx h⟩
    | some jw =>
      obtain ⟨j, w⟩ := jw
      rw [hgu] at h
      simp only at h
      cases hj : all[j]? with
      | none => rw [hj] at h; exact absurd h.symm hr
      | some q =>
        rw [hj] at h
        simp only at h
        cases hd : q.dst with
        | none => rw [hd] at h; exact absurd h.symm hr
        | some t =>
          rw [hd] at h
          simp only at h
          have hdj : dstAt all j = some t := by unfold dstAt; rw [hj]; exact hd
          cases hx : crun P o kx with
          | f g =>
            cases ht : ctm t with
            | g ht' =>
              rw [hx, hp, ht] at h
              obtain ⟨v, h1, h2, h3⟩ := ctm_i ht h hr
              obtain ⟨t', b, _, _, rfl, h4⟩ := asP_i h3 hr
              have hl := hg j w t _ hgu hdj h1 h2
              have hgo : guardOf all (some (j, w)) = some (some t, w) := by show some (dstAt all j, w) = _; rw [hdj]
              rw [hgo]
              unfold cguard
              simp only
              cases h7 : Nat.beq t' 3 with
              | true =>
                rw [h7] at h4
                rw [beq_of h7] at hl
                have hl' : look env t = some (.lit (.bool (!Nat.beq b 0))) := hl
                rw [hl']
                simp only
                cases hb : Bool.xor (!(Nat.beq b 0)) w with
                | false =>
                  rw [hb] at h4
                  have : ((!Nat.beq b 0) == w) = true := by revert hb; cases (!Nat.beq b 0) <;> cases w <;> simp
                  rw [this]
                  exact .inl ⟨rfl, run hx h4⟩
                | true =>
                  rw [hb] at h4
                  have : ((!Nat.beq b 0) == w) = false := by revert hb; cases (!Nat.beq b 0) <;> cases w <;> simp
                  rw [this]
                  exact .inr ⟨rfl, h4⟩
              | false =>
                rw [h7] at h4
                obtain ⟨h8, h9⟩ := ifB_i h4 hr
                rw [beq_of h8] at hl
                have hl' : look env t = some (.lit (.tuple #[])) := hl
                rw [hl']
                exact .inr ⟨rfl, h9⟩
end
end Go.Proofs.YthmnlfenkhmmhaaGreat
namespace Go.Proofs.YthmnlfenkhmmhaaGreat
set_option linter.unusedSimpArgs false
set_option linter.unusedVariables false
set_option linter.unusedSectionVars false
theorem dsts_at {t : Nat} : ∀ {all : List Oper}, t ∈ dsts all → ∃ j, dstAt all j = some t
  | [], h => by cases h
  | o :: l, h => by
    unfold dsts at h
    cases hd : o.dst with
    | none =>
      rw [hd] at h
      obtain ⟨j, hj⟩ := dsts_at h
      exact ⟨j + 1, by unfold dstAt at hj ⊢; rw [List.getElem?_cons_succ]; exact hj⟩
    | some d =>
      rw [hd] at h
      rcases List.mem_cons.1 h with rfl | h
      · exact ⟨0, by unfold dstAt; simp [hd]⟩
      · obtain ⟨j, hj⟩ := dsts_at h
        exact ⟨j + 1, by unfold dstAt at hj ⊢; rw [List.getElem?_cons_succ]; exact hj⟩
theorem cksOk_get {all : List Oper} {p ck : List Nat} : ∀ {en : List Nat}, cksOk all p ck en = true → ∀ i, memN i en = true → memN i ck = true ∨ pendB all i p = false ∨ ∃ o, all[i]? = some o ∧ plainOp o.op = true
  | [], _, i, h => by cases h
  | j :: en, h, i, hi => by
    unfold cksOk at h
    rw [Bool.and_eq_true] at h
    rcases memN_cons.1 hi with rfl | hi
    · have h1 := h.1
      simp only [Bool.or_eq_true, Bool.not_eq_true'] at h1
      rcases h1 with h1 | h1 | h1
      · exact .inl h1
      · exact .inr (.inl h1)
      · split at h1
        · rename_i o ho; exact .inr (.inr ⟨o, ho, h1⟩)
        · cases h1
    · exact cksOk_get h.2 i hi
theorem runs_ext {P : Program} {all : List Oper} {ss p : List Nat} : ∀ {l en en2 : List Nat}, runsOk P all ss p l en = some en2 → ∃ q, en2 = q ++ en
  | [], en, en2, h => by cases h; exact ⟨[], rfl⟩
  | i :: l, en, en2, h => by
    unfold runsOk at h
    split at h
    · obtain ⟨q, hq⟩ := runs_ext h
      exact ⟨q ++ [i], by rw [hq]; simp⟩
    · cases h
theorem runs_new {P : Program} {all : List Oper} {ss p : List Nat} : ∀ {l en en2 en' : List Nat}, runsOk P all ss p l en = some en2 → en2 = en' ++ en → ∀ j, memN j en' = true → memN j en = false
  | [], en, en2, en', h, he, j, hj => by
    cases h
    have : en' = [] := by
      have := congrArg List.length he
      simp at this
      exact this
    rw [this] at hj
    cases hj
  | i :: l, en, en2, en', h, he, j, hj => by
    unfold runsOk at h
    split at h
    · rename_i hk
      simp only [Bool.and_eq_true, Bool.not_eq_true'] at hk
      obtain ⟨q, hq⟩ := runs_ext h
      have e1 : en' = q ++ [i] := by
        have : q ++ (i :: en) = en' ++ en := hq.symm.trans he
        rw [show q ++ (i :: en) = (q ++ [i]) ++ en by simp] at this
        exact (List.append_cancel_right this).symm
      rw [e1] at hj
      rcases memN_append.1 hj with h1 | h1
      · have := runs_new h hq j h1
        cases hm : memN j en with
        | false => rfl
        | true => rw [memN_cons.2 (.inr hm)] at this; cases this
      · have : j = i := by simpa [memN, Nat.beq_eq] using (memN_cons.1 h1).resolve_right (by simp [memN])
        subst this
        exact hk.2.1
    · cases h
section
variable {P : Program} {c : Cl} {r : Xo} {all : List Oper} {ss : List Nat} {env0 : Ev}
theorem pure_sop {o : Oper} {env : Ev} {st : St} {v : XV} {s' : Sx} (ht : turnsB P o.op = false) (h : SOp2 P o.op env st (fun a st' => a = dec v ∧ RepS s' st')) : aop P env st o.op = some (dec v, st) ∧ RepS s' st ∧ isCall o.op = false := by
  have hi := turns_call ht
  unfold SOp2 at h
  rw [hi] at h
  simp only at h
  cases ha : aop P env st o.op with
  | none => rw [ha] at h; exact h.elim
  | some x =>
    obtain ⟨a, st'⟩ := x
    rw [ha] at h
    obtain ⟨rfl, h2⟩ := h
    have := aop_still ht ha
    subst this
    exact ⟨rfl, h2, hi⟩
variable (hc : ClOk P c) (hr : r ≠ .no) (hu : ∀ i j t, dstAt all i = some t → dstAt all j = some t → i = j)
include hc hr hu
theorem pure_run {p en : List Nat} {F : Ev} {e : Fe} {s : Sx} {st : St} {i : Nat} {kx : Kx} (h : (cRun P all i kx).go c e s = r) (hI : Inv P all ss env0 p en F e) (hP : PureN P all env0 p en F st) (hs : RepS s st)
    (hiS : memN i ss = false) (hiE : memN i en = false) (hw : waitsIn all ss p en i = true) (hro : readsOk all (p ++ en) i = true) (htn : ∃ o, all[i]? = some o ∧ turnsB P o.op = false) :
    ∃ F' e' s' new, kx c e' s' = r ∧ RepS s' st ∧ Inv P all ss env0 p (i :: en) F' e' ∧ PureN P all env0 p (i :: en) F' st ∧ F' = new ++ F ∧ (∀ t, t ∈ keysOf new → dstAt all i = some t) ∧ (∀ t u, look F t = some u → look F' t = some u) := by
  obtain ⟨o, ho, ht⟩ := htn
  · have hdone := waitsIn_done hw
    obtain ⟨g1, g2⟩ := hI.reads ho hdone hro
    have h' : (cgd P all o kx).go c e s = r := by unfold cRun at h; rw [ho] at h; exact h
    obtain ⟨f, hf, hcase⟩ := cgd_d (st := st) hc hr h' g1 hs g2
    have hp : memN i p = false := by
      cases hm : memN i p with
      | false => rfl
      | true => rw [hI.pN i hm] at hiS; cases hiS
    have hdi : dstAt all i = o.dst := by unfold dstAt; rw [ho]; rfl
    have main : ∀ (v : XV) (s' : Sx), kx c (f v e) s' = r → RepS s' st → OpIs P all (ea all env0 i) st F o (dec v) →
        ∃ F' e' s' new, kx c e' s' = r ∧ RepS s' st ∧ Inv P all ss env0 p (i :: en) F' e' ∧ PureN P all env0 p (i :: en) F' st ∧ F' = new ++ F ∧ (∀ t, t ∈ keysOf new → dstAt all i = some t) ∧ (∀ t u, look F t = some u → look F' t = some u) := fun v s' q1 q2 q3 => by
      obtain ⟨x1, x2, x3, x4⟩ := hI.ext hu ho hp hiE hf v
      have hPi : PureAt P all env0 (aput o.dst (dec v) F) st i := by
        unfold PureAt
        rw [ho]
        refine ⟨dec v, ?_, ?_⟩
        · cases hd : o.dst with
          | none => trivial
          | some t =>
            have := (x4 t (by rw [hdi, hd])).1
            rw [hd] at this
            exact this
        · unfold OpIs at q3 ⊢
          rw [sel_more (F := F) fun t ht => by
            obtain ⟨u, hu'⟩ := hI.dep ho hdone ht
            exact ⟨u, hu', x2 t u hu'⟩]
          exact q3
      refine ⟨aput o.dst (dec v) F, f v e, s', aput o.dst (dec v) [], q1, q2, ⟨x1, fun t u htu => ?_, fun j t hj hd => ?_, fun j hj x hx => ?_, fun j hj => ?_, hI.pN, fun j hj => ?_⟩, fun j hj hpe => ?_, ?_, fun t ht' => ?_, x2⟩
      · rcases x3 t u htu with h | h
        · exact ⟨i, h, .inr (memN_cons.2 (.inl rfl))⟩
        · obtain ⟨j, h1, h2⟩ := hI.keys t u h
          exact ⟨j, h1, h2.imp id (fun h => memN_cons.2 (.inr h))⟩
      · rcases hj with hj | hj
        · obtain ⟨u, h1⟩ := hI.has j t (.inl hj) hd
          exact ⟨u, x2 t u h1⟩
        · rcases memN_cons.1 hj with rfl | hj
          · exact ⟨_, (x4 t hd).1⟩
          · obtain ⟨u, h1⟩ := hI.has j t (.inr hj) hd
            exact ⟨u, x2 t u h1⟩
      · have : memN x p = true ∨ memN x en = true := by
          rcases hj with hj | hj
          · exact hI.deps j (.inl hj) x hx
          · rcases memN_cons.1 hj with rfl | hj
            · exact hdone x hx
            · exact hI.deps j (.inr hj) x hx
        exact this.imp id (fun h => memN_cons.2 (.inr h))
      · rcases memN_cons.1 hj with rfl | hj
        · exact hiS
        · exact hI.enN j hj
      · rcases memN_cons.1 hj with rfl | hj
        · exact ⟨o, ho, ht⟩
        · exact hI.pT j hj
      · rcases memN_cons.1 hj with rfl | hj
        · exact hPi
        · exact hI.more x2 (.inr hj) (hP j hj hpe)
      · cases o.dst <;> rfl
      · cases hd : o.dst with
        | none => rw [hd] at ht'; cases ht'
        | some d =>
          rw [hd] at ht'
          have : t = d := by simpa [aput, keysOf] using ht'
          rw [hdi, hd, this]
    rcases hcase with ⟨hg, v, s', q1, q2⟩ | ⟨hg, q1⟩
    · obtain ⟨a1, a2, a3⟩ := pure_sop ht q2
      refine main v s' q1 a2 ?_
      unfold OpIs
      rw [hg]
      simp only
      unfold SOp2
      rw [a3]
      simp only
      rw [a1]
      exact ⟨rfl, rfl⟩
    · refine main (.p 7 0 0 0) s q1 hs ?_
      unfold OpIs
      rw [hg]
      rfl
theorem runs_s {p : List Nat} : ∀ {l : List Nat} {en en2 : List Nat} {F : Ev} {e : Fe} {s : Sx} {st : St} {kx : Kx}, (cRuns P all l kx).go c e s = r → Inv P all ss env0 p en F e → PureN P all env0 p en F st → RepS s st → runsOk P all ss p l en = some en2 →
    ∃ F' e' s' new en', kx c e' s' = r ∧ RepS s' st ∧ Inv P all ss env0 p en2 F' e' ∧ PureN P all env0 p en2 F' st ∧ F' = new ++ F ∧ en2 = en' ++ en ∧ (∀ t, t ∈ keysOf new → ∃ j, memN j en' = true ∧ dstAt all j = some t) ∧ (∀ t u, look F t = some u → look F' t = some u)
  | [], en, en2, F, e, s, st, kx, h, hI, hP, hs, ho => by
    cases ho
    exact ⟨F, e, s, [], [], h, hs, hI, hP, rfl, rfl, (fun t h => absurd h List.not_mem_nil), fun _ _ h => h⟩
  | i :: l, en, en2, F, e, s, st, kx, h, hI, hP, hs, ho => by
    unfold runsOk at ho
    split at ho
    · rename_i hk
      simp only [Bool.and_eq_true, Bool.not_eq_true'] at hk
      have h' : (match cRuns P all l kx with | .f k => cRun P all i k).go c e s = r := h
      cases hl : cRuns P all l kx with
      | f k1 =>
        rw [hl] at h'
        obtain ⟨F1, e1, s1, n1, a1, a2, a3, a4, a5, a6, a7⟩ := pure_run hc hr hu h' hI hP hs hk.1 hk.2.1 hk.2.2.1 hk.2.2.2.1 (by
          have h5 := hk.2.2.2.2
          cases ho : all[i]? with
          | none => rw [ho] at h5; cases h5
          | some o => rw [ho] at h5; exact ⟨o, rfl, by simpa using h5⟩)
        obtain ⟨F2, e2, s2, n2, en', b1, b2, b3, b4, b5, b6, b7, b8⟩ := runs_s (l := l) (kx := kx) (by rw [hl]; exact a1) a3 a4 a2 ho
        refine ⟨F2, e2, s2, n2 ++ n1, en' ++ [i], b1, b2, b3, b4, by rw [b5, a5, List.append_assoc], by rw [b6]; simp, fun t ht => ?_, fun t u h => b8 t u (a7 t u h)⟩
        have : t ∈ keysOf n2 ∨ t ∈ keysOf n1 := by
          clear b5 b6 b7 b8
          induction n2 with
          | nil => exact .inr ht
          | cons x n2 ih =>
            obtain ⟨q, y⟩ := x
            rcases List.mem_cons.1 ht with h | h
            · exact .inl (by rw [h]; simp [keysOf])
            · exact (ih h).imp (fun h => List.mem_cons_of_mem _ h) id
        rcases this with h | h
        · obtain ⟨j, h1, h2⟩ := b7 t h
          exact ⟨j, memN_ap.2 (.inl h1), h2⟩
        · exact ⟨i, memN_ap.2 (.inr (by simp [memN])), a6 t h⟩
    · cases ho
theorem ck_s {p en : List Nat} {F : Ev} {e : Fe} {s : Sx} {st : St} {i : Nat} {kx : Kx} (h : (cCk P all i kx).go c e s = r) (hI : Inv P all ss env0 p en F e) (hs : RepS s st) (hi : memN i en = true) (hro : readsOk all (p ++ en) i = true) (hOld : pendB all i p = true → ∃ st0, PureAt P all env0 F st0 i) :
    ∃ s', kx c e s' = r ∧ RepS s' st ∧ (pendB all i p = true → PureAt P all env0 F st i) := by
  obtain ⟨o, ho, ht⟩ := hI.pT i hi
  have hdone := hI.deps i (.inr hi)
  obtain ⟨g1, g2⟩ := hI.reads ho hdone hro
  have hdi : dstAt all i = o.dst := by unfold dstAt; rw [ho]; rfl
  have fin : ∀ {g : Cl → Fe → Sx → Xo}, cCkO P o kx = .f g → g c e s = r → cguard (envI all env0 F i o) (guardOf all o.guard) = some true → ∃ s', kx c e s' = r ∧ RepS s' st ∧ (pendB all i p = true → PureAt P all env0 F st i) := fun {g} hx hg hgu => by
    have close : ∀ {v : XV} {s' : Sx}, SOp2 P o.op (envI all env0 F i o) st (fun a st' => a = dec v ∧ RepS s' st') → (match o.dst with | some t => look F t = some (dec v) | none => True) → RepS s' st ∧ PureAt P all env0 F st i := fun {v s'} q1 q2 => by
      obtain ⟨a1, a2, a3⟩ := pure_sop ht q1
      refine ⟨a2, ?_⟩
      unfold PureAt
      rw [ho]
      refine ⟨dec v, q2, ?_⟩
      unfold OpIs
      rw [show cguard (sel F (ea all env0 i) (depsOf all o.after.toList)) (guardOf all o.guard) = some true from hgu]
      simp only
      unfold SOp2
      rw [a3]
      simp only
      rw [a1]
      exact ⟨rfl, rfl⟩
    unfold cCkO at hx
    cases hd : o.dst with
    | none =>
      rw [hd] at hx
      have hx' : cop P (fun c v e s => kx c e s) o.op = .f g := hx
      have h2 : (cop P (fun c v e s => kx c e s) o.op).go c e s = r := by rw [hx']; exact hg
      obtain ⟨v, s', h3, h4⟩ := cop_s hr hs hc h2 g1
      obtain ⟨a, b⟩ := close h4 (by rw [hd]; trivial)
      exact ⟨s', h3, a, fun _ => b⟩
    | some t =>
      rw [hd] at hx
      simp only at hx
      cases htm : ctm t with
      | g hh =>
        rw [htm] at hx
        simp only at hx
        have h2 : (cop P (fun c v e s => hh e fun u => ifB (eqXV v u) (kx c e s)) o.op).go c e s = r := by rw [hx]; exact hg
        obtain ⟨v, s', h3, h4⟩ := cop_s hr hs hc h2 g1
        obtain ⟨u, h5, h6, h7⟩ := ctm_i htm h3 hr
        obtain ⟨h8, h9⟩ := ifB_i h7 hr
        have e1 := eqXV_e h8
        subst e1
        have h10 : look F t = some (dec v) := by
          obtain ⟨u, hu'⟩ := hI.has i t (.inr hi) (by rw [hdi, hd])
          have := hI.env t v trivial h5 h6
          rw [look_ap, hu'] at this
          rw [hu']; exact this
        obtain ⟨a, b⟩ := close h4 (by rw [hd]; exact h10)
        exact ⟨s', h9, a, fun _ => b⟩
  unfold cCk at h
  rw [ho] at h
  simp only at h
  cases hx : cCkO P o kx with
  | f g =>
    rw [hx] at h
    simp only at h
    cases hg : o.guard with
    | none =>
      rw [hg] at h
      exact fin hx h (by rw [hg]; rfl)
    | some jw =>
      obtain ⟨j, w⟩ := jw
      rw [hg] at h
      simp only at h
      cases hj : dstAt all j with
      | none => rw [hj] at h; exact absurd h.symm hr
      | some t' =>
        rw [hj] at h
        simp only at h
        cases htm : ctm t' with
        | g hh =>
          rw [htm] at h
          obtain ⟨v, h1, h2, h3⟩ := ctm_i htm h hr
          obtain ⟨tt, b, _, _, rfl, h4⟩ := asP_i h3 hr
          have hl := g2 j w t' _ hg hj h1 h2
          have hgo : guardOf all o.guard = some (some t', w) := by rw [hg]; show some (dstAt all j, w) = _; rw [hj]
          have undefd : cguard (envI all env0 F i o) (guardOf all o.guard) = some false → kx c e s = r → ∃ s', kx c e s' = r ∧ RepS s' st ∧ (pendB all i p = true → PureAt P all env0 F st i) := fun hgu hk => by
            refine ⟨s, hk, hs, fun hp => ?_⟩
            obtain ⟨st0, hO⟩ := hOld hp
            unfold PureAt at hO ⊢
            rw [ho] at hO ⊢
            obtain ⟨u, o1, o2⟩ := hO
            refine ⟨u, o1, ?_⟩
            unfold OpIs at o2 ⊢
            rw [show cguard (sel F (ea all env0 i) (depsOf all o.after.toList)) (guardOf all o.guard) = some false from hgu] at o2 ⊢
            exact o2
          cases h7 : Nat.beq tt 3 with
          | true =>
            rw [h7] at h4
            rw [beq_of h7] at hl
            have hl' : look (envI all env0 F i o) t' = some (.lit (.bool (!Nat.beq b 0))) := hl
            cases hb : Bool.xor (!(Nat.beq b 0)) w with
            | false =>
              rw [hb] at h4
              have : ((!Nat.beq b 0) == w) = true := by revert hb; cases (!Nat.beq b 0) <;> cases w <;> simp
              exact fin hx h4 (by rw [hgo]; unfold cguard; simp only; rw [hl']; simp only; rw [this])
            | true =>
              rw [hb] at h4
              have : ((!Nat.beq b 0) == w) = false := by revert hb; cases (!Nat.beq b 0) <;> cases w <;> simp
              exact undefd (by rw [hgo]; unfold cguard; simp only; rw [hl']; simp only; rw [this]) h4
          | false =>
            rw [h7] at h4
            obtain ⟨h8, h9⟩ := ifB_i h4 hr
            rw [beq_of h8] at hl
            have hl' : look (envI all env0 F i o) t' = some (.lit (.tuple #[])) := hl
            exact undefd (by rw [hgo]; unfold cguard; simp only; rw [hl']) h9
theorem cks_s {p en : List Nat} {F : Ev} {e : Fe} {st : St} (hI : Inv P all ss env0 p en F e) (hOld : ∀ i, memN i en = true → pendB all i p = true → ∃ st0, PureAt P all env0 F st0 i) : ∀ {l : List Nat} {s : Sx} {kx : Kx}, (cCks P all l kx).go c e s = r → RepS s st → (l.all fun i => memN i en && readsOk all (p ++ en) i) = true →
    ∃ s', kx c e s' = r ∧ RepS s' st ∧ ∀ i, memN i l = true → pendB all i p = true → PureAt P all env0 F st i
  | [], s, kx, h, hs, ha => ⟨s, h, hs, fun i hi => by cases hi⟩
  | i :: l, s, kx, h, hs, ha => by
    simp only [List.all_cons, Bool.and_eq_true] at ha
    have h' : (match cCks P all l kx with | .f k => cCk P all i k).go c e s = r := h
    cases hl : cCks P all l kx with
    | f k1 =>
      rw [hl] at h'
      obtain ⟨s1, a1, a2, a3⟩ := ck_s hc hr hu h' hI hs ha.1.1 ha.1.2 (hOld i ha.1.1)
      obtain ⟨s2, b1, b2, b3⟩ := cks_s hI hOld (l := l) (kx := kx) (by rw [hl]; exact a1) a2 (by simpa using ha.2)
      refine ⟨s2, b1, b2, fun j hj => ?_⟩
      rcases memN_cons.1 hj with rfl | hj
      · exact a3
      · exact b3 j hj
theorem pure_plain {F : Ev} {st st' : St} {i : Nat} {o : Oper} (ho : all[i]? = some o) (ht : turnsB P o.op = false) (hpl : plainOp o.op = true) (h : PureAt P all env0 F st i) : PureAt P all env0 F st' i := by
  unfold PureAt at h ⊢
  rw [ho] at h ⊢
  obtain ⟨v, h1, h2⟩ := h
  refine ⟨v, h1, ?_⟩
  unfold OpIs at h2 ⊢
  split at h2
  · rename_i hg
    try rw [hg]
    try simp only
    unfold SOp2 at h2 ⊢
    rw [turns_call ht] at h2 ⊢
    simp only at h2 ⊢
    cases ha : aop P (sel F (ea all env0 i) (depsOf all o.after.toList)) st o.op with
    | none => rw [ha] at h2; exact h2.elim
    | some x =>
      obtain ⟨a, s1⟩ := x
      rw [ha] at h2
      rw [plain_st hpl ha st']
      exact ⟨h2.1, rfl⟩
  · rename_i hg
    try rw [hg]
    exact h2
  · exact h2.elim
theorem stgs_s (hok : ∀ (i : Nat) o, all[i]? = some o → ∀ ed ∈ o.after.toList, Region.binds .any ed = true → ed.on < i) : ∀ {gs : List Stg} {p en : List Nat} {F : Ev} {e : Fe} {s : Sx} {st : St}, (cStgs P all gs (fun _ e s => .nm e s)).go c e s = r → Inv P all ss env0 p en F e → PureN P all env0 p en F st → RepS s st → stgsOk P all ss gs p en = true →
    DTf P all ss env0 (fun env st => QX r .normal env st) (gs.map (·.s)) p en F st
  | [], p, en, F, e, s, st, h, hI, hP, hs, ho => by
    have h' : Xo.nm e s = r := h
    subst h'
    have ho' : (closedB all ss p en && allIn p ss) = true := ho
    rw [Bool.and_eq_true] at ho'
    refine ⟨PAll_of hP, ho'.1, rfl, fun t v _ ht hv => ?_, hs⟩
    have h1 := hI.env t v trivial ht hv
    rw [look_ap] at h1 ⊢
    cases hF : look F t with
    | some u => rw [hF] at h1; exact h1
    | none =>
      rw [hF] at h1
      simp only at h1 ⊢
      rw [drop_keep fun hm => ?_]
      · exact h1
      · have key : ∀ j, j < all.length → (memN j p = true ∨ memN j en = true) := fun j => by
          induction j using Nat.strongRecOn with
          | _ j ih =>
            intro hj
            cases hjs : memN j ss with
            | true => exact .inl (allIn_get ho'.2 j hjs)
            | false =>
              have hcl := (List.all_eq_true.1 ho'.1) j (List.mem_range.2 hj)
              rw [hjs, Bool.false_or] at hcl
              have hw : waitsIn all ss p en j = true := by
                unfold waitsIn
                rw [List.getElem?_eq_getElem hj]
                simp only [List.all_eq_true, Bool.or_eq_true, Bool.not_eq_true']
                intro ed hed
                cases hb : Region.binds .any ed with
                | false => exact .inl rfl
                | true =>
                  refine .inr ?_
                  have hlt := hok j all[j] (List.getElem?_eq_getElem hj) ed hed hb
                  have := ih ed.on hlt (by omega)
                  split
                  · rename_i hq; exact allIn_get ho'.2 _ hq
                  · rename_i hq
                    rcases this with h | h
                    · rw [hI.pN _ h] at hq; exact absurd rfl hq
                    · exact h
              rw [hw] at hcl
              exact .inr (by simpa using hcl)
        obtain ⟨j, hj⟩ : ∃ j, dstAt all j = some t := dsts_at hm
        have hjl : j < all.length := by
          unfold dstAt at hj
          cases hq : all[j]? with
          | none => rw [hq] at hj; cases hj
          | some o => exact (List.getElem?_eq_some_iff.1 hq).1
        obtain ⟨u, h2⟩ := hI.has j t (key j hjl) hj
        rw [hF] at h2
        cases h2
  | g :: gs, p, en, F, e, s, st, h, hI, hP, hs, ho => by
    unfold stgsOk at ho
    simp only [Bool.and_eq_true, Bool.not_eq_true'] at ho
    obtain ⟨o1, o2, o3, o4, o5, o6, o7, o8⟩ := ho
    split at o8
    case h_2 => cases o8
    rename_i en2 hro
    refine ⟨PAll_of hP, o1, ?_⟩
    have h' : (match cStgs P all gs (fun _ e s => .nm e s) with | .f k => (match cRuns P all g.rs k with | .f k => (match cCks P all g.ck k with | .f k => cRun P all g.s k))).go c e s = r := h
    cases hl : cStgs P all gs (fun _ e s => Xo.nm e s) with
    | f k1 =>
      cases hl2 : cRuns P all g.rs k1 with
      | f k2 =>
        cases hl3 : cCks P all g.ck k2 with
        | f k3 =>
          rw [hl] at h'
          simp only at h'
          rw [hl2] at h'
          simp only at h'
          rw [hl3] at h'
          simp only at h'
          unfold cRun at h'
          cases ho : all[g.s]? with
          | none => rw [ho] at h'; exact absurd h'.symm hr
          | some o =>
            rw [ho] at h'
            simp only at h' ⊢
            have hdone := waitsIn_done o4
            obtain ⟨g1, g2⟩ := hI.reads ho hdone o5
            obtain ⟨f, hf, hcase⟩ := cgd_d (st := st) hc hr h' g1 hs g2
            have hdi : dstAt all g.s = o.dst := by unfold dstAt; rw [ho]; rfl
            have hsen : memN g.s en = false := by
              cases hm : memN g.s en with
              | false => rfl
              | true => rw [hI.enN _ hm] at o2; cases o2
            have main : ∀ (v : XV) (s' : Sx) (st' : St), k3 c (f v e) s' = r → RepS s' st' → (∃ en' new, (∀ i, memN i en' = true → memN i ss = false) ∧ keysOut (keysOf new) F = true ∧ keysIn all ((g.s :: p) ++ (en' ++ en)) (keysOf new) = true ∧ (match o.dst with | some t => look (new ++ F) t = some (dec v) | none => True) ∧
                DTf P all ss env0 (fun env st => QX r .normal env st) (gs.map (·.s)) (g.s :: p) (en' ++ en) (new ++ F) st') := fun v s' st' q1 q2 => by
              obtain ⟨x1, x2, x3, x4⟩ := hI.ext hu ho o3 hsen hf v
              have hI1 : Inv P all ss env0 (g.s :: p) en (aput o.dst (dec v) F) (f v e) := by
                refine ⟨x1, fun t u htu => ?_, fun j t hj hd => ?_, fun j hj x hx => ?_, hI.enN, fun j hj => ?_, hI.pT⟩
                · rcases x3 t u htu with h | h
                  · exact ⟨g.s, h, .inl (memN_cons.2 (.inl rfl))⟩
                  · obtain ⟨j, h1, h2⟩ := hI.keys t u h
                    exact ⟨j, h1, h2.imp (fun h => memN_cons.2 (.inr h)) id⟩
                · rcases hj with hj | hj
                  · rcases memN_cons.1 hj with rfl | hj
                    · exact ⟨_, (x4 t hd).1⟩
                    · obtain ⟨u, h1⟩ := hI.has j t (.inl hj) hd
                      exact ⟨u, x2 t u h1⟩
                  · obtain ⟨u, h1⟩ := hI.has j t (.inr hj) hd
                    exact ⟨u, x2 t u h1⟩
                · have : memN x p = true ∨ memN x en = true := by
                    rcases hj with hj | hj
                    · rcases memN_cons.1 hj with rfl | hj
                      · exact hdone x hx
                      · exact hI.deps j (.inl hj) x hx
                    · exact hI.deps j (.inr hj) x hx
                  exact this.imp (fun h => memN_cons.2 (.inr h)) id
                · rcases memN_cons.1 hj with rfl | hj
                  · exact o2
                  · exact hI.pN j hj
              have hold : ∀ i, memN i en = true → pendB all i (g.s :: p) = true → PureAt P all env0 (aput o.dst (dec v) F) st i := fun i hi hpe => by
                unfold pendB at hpe
                rw [Bool.and_eq_true] at hpe
                exact hI.more x2 (.inr hi) (hP i hi hpe.2)
              obtain ⟨s2, a1, a2, a3⟩ := cks_s hc hr hu hI1 (fun i hi hpe => ⟨st, hold i hi hpe⟩) (l := g.ck) (kx := k2) (by rw [hl3]; exact q1) q2 (by
                rw [List.all_eq_true] at o7 ⊢
                exact o7)
              have hP1 : PureN P all env0 (g.s :: p) en (aput o.dst (dec v) F) st' := fun i hi hpe => by
                have hck := cksOk_get o6 i hi
                rcases hck with h | h | ⟨oi, h, h2⟩
                · exact a3 i h hpe
                · rw [hpe] at h; cases h
                · obtain ⟨oi', h3, h4⟩ := hI.pT i hi
                  rw [h] at h3
                  cases h3
                  exact pure_plain hc hr hu h h4 h2 (hold i hi hpe)
              obtain ⟨F2, e2, s3, newR, en', b1, b2, b3, b4, b5, b6, b7, b8⟩ := runs_s hc hr hu (l := g.rs) (kx := k1) (by rw [hl2]; exact a1) hI1 hP1 a2 hro
              have hsplit : F2 = (newR ++ aput o.dst (dec v) []) ++ F := by rw [b5]; cases o.dst <;> simp [aput]
              have hks : ∀ t, t ∈ keysOf (newR ++ aput o.dst (dec v) []) → ∃ j, memN j ((g.s :: p) ++ (en' ++ en)) = true ∧ dstAt all j = some t ∧ memN j p = false ∧ memN j en = false := fun t ht => by
                have : t ∈ keysOf newR ∨ o.dst = some t := by
                  clear hsplit b5 b7
                  induction newR with
                  | nil =>
                    cases hd : o.dst with
                    | none => rw [hd] at ht; cases ht
                    | some d =>
                      rw [hd] at ht
                      have : t = d := by simpa [aput, keysOf] using ht
                      exact .inr (by rw [this])
                  | cons x n2 ih =>
                    obtain ⟨q, y⟩ := x
                    rcases List.mem_cons.1 ht with h | h
                    · exact .inl (by rw [h]; simp [keysOf])
                    · exact (ih h).imp (fun h => List.mem_cons_of_mem _ h) id
                rcases this with h | h
                · obtain ⟨j, h1, h2⟩ := b7 t h
                  refine ⟨j, memN_ap.2 (.inr (memN_ap.2 (.inl h1))), h2, ?_, ?_⟩
                  · cases hm : memN j p with
                    | false => rfl
                    | true =>
                      have := b3.enN j (by rw [b6]; exact memN_ap.2 (.inl h1))
                      rw [hI.pN j hm] at this; cases this
                  · cases hm : memN j en with
                    | false => rfl
                    | true => exact absurd hm (by rw [runs_new hro b6 j h1]; simp)
                · exact ⟨g.s, memN_ap.2 (.inl (memN_cons.2 (.inl rfl))), by rw [hdi, h], o3, hsen⟩
              refine ⟨en', newR ++ aput o.dst (dec v) [], fun i hi => b3.enN i (by rw [b6]; exact memN_ap.2 (.inl hi)), keysOut_of fun t ht => ?_, keysIn_of fun t ht => ?_, ?_, ?_⟩
              · obtain ⟨j, h1, h2, h3, h4⟩ := hks t ht
                cases hF : look F t with
                | none => rfl
                | some u =>
                  obtain ⟨j', h5, h6⟩ := hI.keys t u hF
                  have := hu _ _ _ h5 h2
                  subst this
                  rcases h6 with h6 | h6
                  · rw [h3] at h6; cases h6
                  · rw [h4] at h6; cases h6
              · obtain ⟨j, h1, h2, _, _⟩ := hks t ht
                exact ⟨j, h1, h2⟩
              · rw [← hsplit]
                cases hd : o.dst with
                | none => trivial
                | some t =>
                  have h5 := (x4 t (by rw [hdi, hd])).1
                  exact b8 t _ h5
              · rw [← hsplit, ← b6]
                exact stgs_s hok (gs := gs) (by rw [hl]; exact b1) b3 b4 b2 o8
            rcases hcase with ⟨hg, v, s', q1, q2⟩ | ⟨hg, q1⟩
            · rw [show cguard (sel F (ea all env0 g.s) (depsOf all o.after.toList)) (guardOf all o.guard) = some true from hg]
              exact q2.mono fun a st' ⟨e1, e2⟩ => by subst e1; exact main v s' st' q1 e2
            · rw [show cguard (sel F (ea all env0 g.s) (depsOf all o.after.toList)) (guardOf all o.guard) = some false from hg]
              exact main (.p 7 0 0 0) s st q1 hs
end
end Go.Proofs.YthmnlfenkhmmhaaGreat
namespace Go.Proofs.YthmnlfenkhmmhaaGreat
set_option linter.unusedSimpArgs false
set_option linter.unusedVariables false
set_option linter.unusedSectionVars false
theorem linkB_s {all : List Oper} {ms : List Nat} : ∀ {n s q : Nat}, linkB all ms n s q = true → TW all s q
  | 0, s, q, h => by cases h
  | n + 1, s, q, h => by
    unfold linkB at h
    cases hw : waits all s q with
    | true => exact .one hw
    | false =>
      rw [hw, Bool.false_or] at h
      split at h
      · rename_i j hj
        have := List.find?_some hj
        rw [Bool.and_eq_true] at this
        exact .more this.1 (linkB_s h)
      · cases h
theorem waits_lt {all : List Oper} {i s : Nat} (h : waits all i s = true) : i < all.length := by
  unfold waits at h
  cases ho : all[i]? with
  | none => rw [ho] at h; cases h
  | some o => exact (List.getElem?_eq_some_iff.1 ho).1
theorem chainOk_s {all : List Oper} {ms : List Nat} : ∀ {l : List Nat} {q : Nat}, chainOk all ms l (some q) = true → Chain all (q :: l)
  | [], _, _ => trivial
  | s :: l, q, h => by
    unfold chainOk at h
    rw [Bool.and_eq_true] at h
    refine ⟨?_, chainOk_s h.2⟩
    have h1 := h.1
    unfold flAt
    cases ho : all[s]? with
    | none => rw [ho] at h1; cases h1
    | some o =>
      rw [ho] at h1
      simp only at h1 ⊢
      cases hf : isFl o with
      | true =>
        rw [hf] at h1
        intro i hi
        have := List.all_eq_true.1 h1 i (List.mem_range.2 (waits_lt hi))
        rw [hi] at this
        exact linkB_s (by simpa using this)
      | false =>
        rw [hf] at h1
        exact linkB_s h1
theorem chainOk_n {all : List Oper} {ms : List Nat} : ∀ {l : List Nat}, chainOk all ms l none = true → Chain all l
  | [], _ => trivial
  | s :: l, h => chainOk_s h
theorem stgs_in {P : Program} {all : List Oper} {ss : List Nat} : ∀ {gs : List Stg} {p en : List Nat}, stgsOk P all ss gs p en = true → (∀ i, i ∈ gs.map (·.s) → memN i ss = true) ∧ (∀ i, memN i ss = true → memN i p = true ∨ i ∈ gs.map (·.s))
  | [], p, en, h => by
    have h' : (closedB all ss p en && allIn p ss) = true := h
    rw [Bool.and_eq_true] at h'
    exact ⟨fun i hi => (by cases hi), fun i hi => .inl (allIn_get h'.2 i hi)⟩
  | g :: gs, p, en, h => by
    unfold stgsOk at h
    simp only [Bool.and_eq_true] at h
    obtain ⟨o1, o2, o3, o4, o5, o6, o7, o8⟩ := h
    split at o8
    · obtain ⟨h1, h2⟩ := stgs_in o8
      refine ⟨fun i hi => ?_, fun i hi => ?_⟩
      · rcases List.mem_cons.1 hi with rfl | hi
        · exact o2
        · exact h1 i hi
      · rcases h2 i hi with h | h
        · rcases memN_cons.1 h with rfl | h
          · exact .inr (by simp)
          · exact .inl h
        · exact .inr (List.mem_cons_of_mem _ h)
    · cases o8
theorem drawOk {P : Program} (hm : P.follows .mixedOrders = true) : DrawOk P := by
  intro c n nb0 id ops e s env st r hc hr h hE hs
  unfold cDraw at h
  generalize rowsR P ops.toList 0 = rows at h
  simp only at h
  cases hp : pures rows 0 [] with
  | mk r0 D =>
    rw [hp] at h
    simp only at h
    generalize plan rows ops.toList.length D 0 = gs at h
    cases hk : okPl P n ops.toList (cmS rows) (tsOf rows) r0 gs with
    | false => rw [hk] at h; exact absurd h.symm hr
    | true =>
      rw [hk] at h
      simp only at h
      generalize tsOf rows = ss at hk
      generalize cmS rows = ms at hk
      unfold okPl at hk
      simp only [Bool.and_eq_true] at hk
      obtain ⟨⟨q1, q2⟩, q3, q4, q5, q6⟩ := hk
      split at q6
      case h_2 => cases q6
      rename_i en0 hro
      obtain ⟨hok1, huniq⟩ := anyOk_spec q2
      cases hl : cStgs P ops.toList gs (fun _ e s => Xo.nm e s) with
      | f k =>
        rw [hl] at h
        simp only at h
        have hI0 : Inv P ops.toList ss env [] [] [] e := ⟨hE, fun t v h => (by cases h), fun j t hj => (by rcases hj with hj | hj <;> cases hj), fun j hj => (by rcases hj with hj | hj <;> cases hj), fun j hj => (by cases hj), fun j hj => (by cases hj), fun j hj => (by cases hj)⟩
        obtain ⟨F0, e0, s0, new, en', b1, b2, b3, b4, b5, b6, b7, b8⟩ := runs_s hc hr huniq (l := r0) (kx := k) h hI0 (fun i hi => by cases hi) hs hro
        have hD := stgs_s hc hr huniq (fun i o ho => (hok1 i o ho).2) (gs := gs) (p := []) (by rw [hl]; exact b1) b3 b4 b2 q6
        obtain ⟨i1, i2⟩ := stgs_in q6
        intro A m w a h0 hR hE'
        have hg : Grow w { w with drawn := w.drawn + 1 } := ⟨Nat.le_refl _, fun _ _ => rfl, rfl, rfl, rfl⟩
        obtain ⟨hR1, hS1⟩ := hR.grow' hg
        refine wp_region_any hm ?_
        have hf : ∀ j, (Array.replicate ops.size false).getD j false = false := fun j => by simp [Array.getD]
        refine wpAny_f (n := n) (nb0 := nb0) (A0 := A) (m0 := m) (w0 := w) (K := fun env st => QX r .normal env st) (Q := fun x a' w' => Onward A m nb0 w n (QX r x) a' w') q2 (fun i hi => by simpa using ltAll_get q3 i hi) (fun a w h => h) (fun i hi => ?_)
          (ops.size + (gs.map (·.s)).length + 1) ops.size (gs.map (·.s)) [] en0 F0 st [] _ A m _ a (by omega) hD (chainOk_n q5) (nodupB_iff q4) (fun i hi => ⟨i1 i hi, rfl⟩) i2 (fun i hi => by cases hi) (fun i _ hl => by rw [hf] at hl; cases hl) (fun i hl => by rw [hf] at hl; cases hl) b3.enN (fun i hi => by cases hi) (fun x hx => by cases hx) (by simp) (by simp)
          (fun s i hs => by rw [hf] at hs; cases hs) b3.keys (fun j t hl => by rw [hf] at hl; cases hl) (by simp) ?_ hR1 (hS1.weak h0) hE'.size hE'.defers (fun t v hJ => ?_)
        · unfold flAt at hi
          cases ho : ops.toList[i]? with
          | none => rw [ho] at hi; cases hi
          | some o =>
            rw [ho] at hi
            simp only at hi
            have h1 := List.all_eq_true.1 q1 o (List.mem_of_getElem? ho)
            rw [hi] at h1
            unfold isFl at hi
            split at hi
            · rename_i hgd
              split at hi
              · rename_i t hop
                rw [hop] at h1
                simp only [Bool.not_true, Bool.false_or] at h1
                cases ht : tiOf P t with
                | none => rw [ht] at h1; cases h1
                | some ti => exact ⟨o, t, ti, by simpa using ho, hgd, hop, ht⟩
              · cases hi
            · cases hi
        · refine Nat.le_trans (List.countP_le_length) ?_
          simp
        · rcases hJ with ⟨hJ, _⟩ | ⟨j, hj, _⟩
          · exact (hE'.step hR hS1).val t v hJ
          · rw [hf] at hj; cases hj
theorem fast_yes {P : Program} {g : FuncId} (kn : List Nat) (N f : Nat) (hm : P.follows .mixedOrders = true) (hk : ∀ g, memN g kn = true → PureC P g [] (.lit (.bool true))) (h : xyes (xCall P kn N f g xnil (.st 0 .lf)) = true) : PureC P g [] (.lit (.bool true)) :=
  xyes_s kn N f (drawOk hm) hk h
end Go.Proofs.YthmnlfenkhmmhaaGreat
namespace Go.Proofs.YthmnlfenkhmmhaaGreat
set_option linter.unusedSimpArgs false
set_option linter.unusedVariables false
open Go.ChangeShapes Go.WideShapes Go.ChangeAt Go.RowKit Go.WideMaps Go.WideElems
open Go.ChangeMaps (open_string shut_string)
theorem Grow.below {w w' : World} (h : Grow w w') : Below w.heap.size w w' := ⟨h.os, h.tape, h.output, h.size, h.heap⟩
theorem Tryz.ownNot : ownKnob Tryz.prog.godebug = none := by kernel_rfl
theorem Tryz.laidOut : laidOutB Tryz.prog = true := by kernel_rfl
section
variable {H : Type} {enc : TypeId × Value → H} {P : Program}
theorem args_stay (hl : laidOutB P = true) {W W' : World} (hg : Grow W W') {sp : Nat → Bool} : ∀ {ts : List TypeId} {vs : List Value} {ds : List (DataW H)} {ps : List MemPlace},
    ts.all (fun t => P.readableRec t && decide (t < P.types.size)) = true → DataW.TrodAll enc P W 0 (fun _ => true) true ts vs ds ps → (∀ p ∈ ps, p.block < W.heap.size) → (∀ p ∈ ps, sp p.block = true) → DataW.TrodAll enc P W' 0 sp true ts vs ds ps
  | [], [], [], ps, _, h, _, _ => h
  | t :: ts, v :: vs, d :: ds, ps, ht, h, hlt, hs => by
    obtain ⟨p, q, h1, h2, rfl⟩ := h
    simp only [List.all_cons, Bool.and_eq_true, decide_eq_true_eq] at ht
    exact ⟨p, q, WideElems.Trod_stays hl ht.1.1 ht.1.2 h1 (fun x hx => hg.below.same (hlt x (by simp [hx]))) (fun x hx => hs x (by simp [hx])),
      args_stay hl hg ht.2 h2 (fun x hx => hlt x (by simp [hx])) (fun x hx => hs x (by simp [hx])), rfl⟩
  | [], _ :: _, _, _, _, h, _, _ => h.elim
  | [], [], _ :: _, _, _, h, _, _ => h.elim
  | _ :: _, [], _, _, _, h, _, _ => h.elim
  | _ :: _, _ :: _, [], _, _, h, _, _ => h.elim
theorem post_true {f : Func} {s : ChangeSpec} {apart fresh handsOn again : Bool} {W W' : World} {args : Array Value} {ds gs : List (DataW H)} {before : List MemPlace} {tb : TypeId}
    (hl : laidOutB P = true) (hW : DataW.Whole enc P f.params.toList s.vars apart W args.toList ds gs before) (hg : Grow W W')
    (hts : f.params.toList.all (fun t => P.readableRec t && decide (t < P.types.size)) = true) (hvars : s.vars = []) (hr : f.resultTypes = #[tb]) (hb : P.underlying tb = some .bool)
    (hfn : s.fn H (ds ++ gs) = { results := [.lit (.bool true)], args := ds }) :
    s.post enc P f apart fresh handsOn again W args (.bool true) W' := by
  have hlt := hW.lt
  have hW' := hW
  obtain ⟨p, q, hA, hV, hpq, hz, hn⟩ := hW'
  rw [hvars] at hV
  obtain ⟨rfl, rfl⟩ := trodVars_none hV
  simp only [List.append_nil] at hpq
  subst hpq
  have hargs : ∀ sp : Nat → Bool, (∀ x ∈ before, sp x.block = true) → DataW.TrodAll enc P W' 0 sp true f.params.toList args.toList ds before := fun sp hsp => args_stay hl hg hts hA hlt hsp
  have hres : ∀ (b : Nat) (sp : Nat → Bool) (hd : Bool), DataW.TrodAll enc P W' b sp hd f.resultTypes.toList ((Value.bool true).resultList f.resultTypes.size) [.lit (.bool true)] [] := fun b sp hd => by
    rw [hr]; exact trodAll_mk1 (shut_bool hb true)
  have hvs : ∀ sp : Nat → Bool, DataW.TrodVars enc P W' sp s.vars ([] : List (DataW H)) [] := fun sp => by rw [hvars]; rfl
  refine ⟨ds, [], before, [], before, [], hW, by rw [hfn]; exact hres _ _ _, by rw [hfn]; exact hargs _ (fun x hx => by simpa using hlt x hx), by rw [hfn]; exact hvs _, hg.below.frame _, fun _ => ⟨?_, _, _, ([] ++ before) ++ [], ⟨[] ++ before, [], trodAll_append (hargs _ (fun _ _ => rfl)) (hres _ _ _), hvs _, rfl, ?_, ?_⟩, ?_⟩⟩
  · exact ok_one hr rfl (okWide_bool_mk hb _)
  · intro b off hp
    have hp' : MemPlace.cell b off ∈ before := by simpa using hp
    rw [hg.below.frozen (p := ⟨b, off, none⟩) (hlt _ hp')]
    exact hz b off hp'
  · intro ha
    simpa using hn ha
  · intro x hx _
    simpa using hx
theorem PureC.truly {f : FuncId} {args : List AV} (h : PureC P f args (.lit (.bool true))) {W : World} {vals : Array Value} (hv : VIL (fun B => B < W.heap.size) W args vals) :
    Calls P f vals W fun e w' => e = .returned (.bool true) ∧ Grow W w' :=
  (h.2 _ W vals (fun _ h => h) hv).mono fun e w' ⟨v, he, hg, hvi⟩ => by
    cases hvi
    exact ⟨he, hg⟩
theorem vil_nil {A w} : VIL A w [] #[] := ⟨rfl, fun i h => by simp at h⟩
end
end Go.Proofs.YthmnlfenkhmmhaaGreat
namespace Go.Proofs.YthmnlfenkhmmhaaGreat
theorem y7 : PureC Tryz.prog 254 [] (.lit (.bool true)) := fast_yes [] 100000 90 (by kernel_rfl) (fun g h => by cases h) (by kernel_rfl)
theorem y8 : PureC Tryz.prog 95 [] (.lit (.bool true)) := fast_yes [254] 100000 90 (by kernel_rfl) (kn1 y7) (by kernel_rfl)
theorem y9 : PureC Tryz.prog 117 [] (.lit (.bool true)) := fast_yes [95] 100000 90 (by kernel_rfl) (kn1 y8) (by kernel_rfl)
theorem y10 : PureC Tryz.prog 120 [] (.lit (.bool true)) := fast_yes [117] 100000 90 (by kernel_rfl) (kn1 y9) (by kernel_rfl)
theorem y11 : PureC Tryz.prog 123 [] (.lit (.bool true)) := fast_yes [120] 100000 90 (by kernel_rfl) (kn1 y10) (by kernel_rfl)
end Go.Proofs.YthmnlfenkhmmhaaGreat
namespace Go.Proofs.YthmnlfenkhmmhaaGreat
theorem layoutNone_pure : PureC Tryz.prog 10 [] (.lit (.bool true)) := fast_yes [123] 100000 90 (by kernel_rfl) (kn1 y11) (by kernel_rfl)
end Go.Proofs.YthmnlfenkhmmhaaGreat
