/- From a walk over abstract values to a row: arguments read, the world grown, true handed back. -/
import Derived.Test.YthhkdanpjcnegaaGreatRows
import Derived.Test.YthhkdanpjcnegaaGreatAb11
import Derived.ProofKit
import Derived.WalkKit
namespace Go.Proofs.YthhkdanpjcnegaaGreat
set_option linter.unusedSimpArgs false
set_option linter.unusedVariables false
open Go.ChangeShapes Go.WideShapes Go.ChangeAt Go.RowKit Go.WideMaps Go.WideElems
open Go.ChangeMaps (open_string shut_string)

theorem Grow.below {w w' : World} (h : Grow w w') : Below w.heap.size w w' := ⟨h.os, h.tape, h.output, h.size, h.heap⟩

theorem Tryz.ownNot : ownKnob Tryz.prog.godebug = none := by kernel_rfl
theorem Tryz.laidOut : laidOutB Tryz.prog = true := by kernel_rfl

section
variable {H : Type} {enc : TypeId × Value → H} {P : Program}

/-- The arguments read in a grown world as they did. -/
theorem args_stay (hl : laidOutB P = true) {W W' : World} (hg : Grow W W') {sp : Nat → Bool} : ∀ {ts : List TypeId} {vs : List Value} {ds : List (DataW H)} {ps : List MemPlace},
    ts.all (fun t => P.readableRec t && decide (t < P.types.size)) = true → DataW.TrodAll enc P W 0 (fun _ => true) true ts vs ds ps → (∀ p ∈ ps, p.block < W.heap.size) → (∀ p ∈ ps, sp p.block = true) → DataW.TrodAll enc P W' 0 sp true ts vs ds ps
  | [], [], [], ps, _, h, _, _ => h
  | t :: ts, v :: vs, d :: ds, ps, ht, h, hlt, hs => by
    obtain ⟨p, q, h1, h2, rfl⟩ := h
    simp only [List.all_cons, Bool.and_eq_true, decide_eq_true_eq] at ht
    exact ⟨p, q, WideElems.Trod_stays hl ht.1.1 ht.1.2 h1 (fun x hx => hg.below.same (hlt x (by simp [hx]))) (fun x hx => hs x (by simp [hx])),
      args_stay hl hg ht.2 h2 (fun x hx => hlt x (by simp [hx])) (fun x hx => hs x (by simp [hx])), rfl⟩
  | [], _ :: _, _, _, _, h, _, _ => h.elim
  | [], [], _ :: _, _, _, h, _, _ => h.elim
  | _ :: _, [], _, _, _, h, _, _ => h.elim
  | _ :: _, _ :: _, [], _, _, h, _, _ => h.elim

/-- Behind a call that only reads and makes memory, and hands back true. -/
theorem post_true {f : Func} {s : ChangeSpec} {apart fresh handsOn again : Bool} {W W' : World} {args : Array Value} {ds gs : List (DataW H)} {before : List MemPlace} {tb : TypeId}
    (hl : laidOutB P = true) (hW : DataW.Whole enc P f.params.toList s.vars apart W args.toList ds gs before) (hg : Grow W W')
    (hts : f.params.toList.all (fun t => P.readableRec t && decide (t < P.types.size)) = true) (hvars : s.vars = []) (hr : f.resultTypes = #[tb]) (hb : P.underlying tb = some .bool)
    (hfn : s.fn H (ds ++ gs) = { results := [.lit (.bool true)], args := ds }) :
    s.post enc P f apart fresh handsOn again W args (.bool true) W' := by
  have hlt := hW.lt
  have hW' := hW
  obtain ⟨p, q, hA, hV, hpq, hz, hn⟩ := hW'
  rw [hvars] at hV
  obtain ⟨rfl, rfl⟩ := trodVars_none hV
  simp only [List.append_nil] at hpq
  subst hpq
  have hargs : ∀ sp : Nat → Bool, (∀ x ∈ before, sp x.block = true) → DataW.TrodAll enc P W' 0 sp true f.params.toList args.toList ds before := fun sp hsp => args_stay hl hg hts hA hlt hsp
  have hres : ∀ (b : Nat) (sp : Nat → Bool) (hd : Bool), DataW.TrodAll enc P W' b sp hd f.resultTypes.toList ((Value.bool true).resultList f.resultTypes.size) [.lit (.bool true)] [] := fun b sp hd => by
    rw [hr]; exact trodAll_mk1 (shut_bool hb true)
  have hvs : ∀ sp : Nat → Bool, DataW.TrodVars enc P W' sp s.vars ([] : List (DataW H)) [] := fun sp => by rw [hvars]; rfl
  refine ⟨ds, [], before, [], before, [], hW, by rw [hfn]; exact hres _ _ _, by rw [hfn]; exact hargs _ (fun x hx => by simpa using hlt x hx), by rw [hfn]; exact hvs _, hg.below.frame _, fun _ => ⟨?_, _, _, ([] ++ before) ++ [], ⟨[] ++ before, [], trodAll_append (hargs _ (fun _ _ => rfl)) (hres _ _ _), hvs _, rfl, ?_, ?_⟩, ?_⟩⟩
  · exact ok_one hr rfl (okWide_bool_mk hb _)
  · intro b off hp
    have hp' : MemPlace.cell b off ∈ before := by simpa using hp
    rw [hg.below.frozen (p := ⟨b, off, none⟩) (hlt _ hp')]
    exact hz b off hp'
  · intro ha
    simpa using hn ha
  · intro x hx _
    simpa using hx

/-- A walk's outcome: true, and the world is grown. -/
theorem PureC.truly {f : FuncId} {args : List AV} (h : PureC P f args (.lit (.bool true))) {W : World} {vals : Array Value} (hv : VIL (fun B => B < W.heap.size) W args vals) :
    Calls P f vals W fun e w' => e = .returned (.bool true) ∧ Grow W w' :=
  (h.2 _ W vals (fun _ h => h) hv).mono fun e w' ⟨v, he, hg, hvi⟩ => by
    cases hvi
    exact ⟨he, hg⟩

/-! ### Arguments -/
theorem wf_i64 {n : Int} (h : (Lit.int .i64 n).wf = true) : -9223372036854775808 ≤ n ∧ n ≤ 9223372036854775807 := by
  simp only [Lit.wf, Bool.and_eq_true, decide_eq_true_eq] at h
  exact h
theorem wf_u32 {n : Int} (h : (Lit.int .u32 n).wf = true) : 0 ≤ n ∧ n ≤ 4294967295 := by
  simp only [Lit.wf, Bool.and_eq_true, decide_eq_true_eq] at h
  exact h
theorem wf_u16 {n : Int} (h : (Lit.int .u16 n).wf = true) : 0 ≤ n ∧ n ≤ 65535 := by
  simp only [Lit.wf, Bool.and_eq_true, decide_eq_true_eq] at h
  exact h
theorem wf_u8 {n : Int} (h : (Lit.int .u8 n).wf = true) : 0 ≤ n ∧ n ≤ 255 := by
  simp only [Lit.wf, Bool.and_eq_true, decide_eq_true_eq] at h
  exact h
theorem vil_nil {A w} : VIL A w [] #[] := ⟨rfl, fun i h => by simp at h⟩
theorem vil_cons {A w} {c : AV} {v : Value} {cs : List AV} {vs : List Value} (h : VI A w c v) (t : VIL A w cs vs.toArray) : VIL A w (c :: cs) (v :: vs).toArray := by
  obtain ⟨h1, h2⟩ := t
  refine ⟨by simpa using h1, fun i hi => ?_⟩
  cases i with
  | zero => simpa using h
  | succ i =>
    have := h2 i (by simpa using hi)
    simpa [Array.getD] using this

/-- A slice of bytes: the bytes. -/
def bytesFrom (zs : List Int) : List UInt8 := zs.map fun n => UInt8.ofNat n.toNat
theorem bytesFrom_length (zs : List Int) : (bytesFrom zs).length = zs.length := List.length_map _
theorem rows_bytes : ∀ {zs : List Int}, (∀ n ∈ zs, (Lit.int .u8 n).wf = true) → (zs.map fun n => [AV.lit (.int .u8 n)]) = (bytesFrom zs).map byteRow
  | [], _ => rfl
  | n :: zs, h => by
    have h1 := wf_u8 (h n (by simp))
    have h2 := rows_bytes (zs := zs) fun m hm => h m (by simp [hm])
    simp only [List.map_cons, bytesFrom] at h2 ⊢
    rw [h2]
    congr 1
    simp only [byteRow]
    congr 3
    have e : (UInt8.ofNat n.toNat).toNat = n.toNat % 256 := by simp
    rw [e]; omega

theorem vi_ints {W : World} {t e : TypeId} {k : IntKind} {v : Value} {d : DataW H} {ps : List MemPlace} (ht : P.underlying t = some (.slice e)) (he : P.underlying e = some (.int k)) (hc : P.cellsOf e = 1)
    (hv : v.cells.toList = [v]) (h : DataW.Trod enc P W 0 (fun _ => true) true t v d ps) (hlt : ∀ p ∈ ps, p.block < W.heap.size) :
    ∃ zs : List Int, VI (fun B => B < W.heap.size) W (.isl 1 (zs.map fun n => [.lit (.int k n)])) v ∧ (∀ n ∈ zs, (Lit.int k n).wf = true) ∧ zs.length ≤ 9223372036854775807 := by
  obtain ⟨fuel, hf⟩ := h
  rcases open_ints ht he hc hf with ⟨h1, h2⟩ | ⟨a, len, cap, zs, h1, h2, h3, h4, h5, h6, h7, h8⟩
  · rw [hv] at h1
    obtain rfl : v = .slice none 0 0 := by simpa using h1
    exact ⟨[], .inil _ _ _, fun n hn => by simp at hn, by simp⟩
  · rw [hv] at h1
    obtain rfl : v = .slice (some a) len cap := by simpa using h1
    have hz : zs.length = cap := by simpa using h5
    have h6b : ps = MemPlace.row a zs.length := by cases h6; rfl
    have hmax : maxLen = 9223372036854775807 := by unfold maxLen; decide
    have hlen : (zs.take len).length = len := by simp; omega
    refine ⟨zs.take len, ?_, fun n hn => h8 n (List.mem_of_mem_take hn), by rw [hlen]; omega⟩
    rcases Nat.eq_zero_or_pos len with h0 | h0
    · subst h0
      rw [List.take_zero]
      exact .inil _ _ _
    have hz0 : zs.length ≠ 0 := by omega
    have hsp : a.spot = none := by
      have := h7 0 (by omega)
      simp only [Addr.add, if_pos] at this
      cases hs : a.spot with
      | none => rfl
      | some x =>
        rw [World.cell?] at this
        split at this
        · rw [hs] at this; simp at this
        · cases this
    obtain ⟨B, o, p⟩ := a
    simp only at hsp
    subst hsp
    have hB : B < W.heap.size := hlt (.cell B (o + 0)) (by rw [h6b]; exact List.mem_map.2 ⟨0, List.mem_range.2 (by omega), rfl⟩)
    have key : ∀ i j, i < len → j < 1 → W.cell? ⟨B, o + i * 1 + j, none⟩ = some (.int k (zs.getD i 0)) := fun i j hi hj => by
      have := h7 i (by omega)
      rw [← this]
      congr 1
      unfold Addr.add
      split
      · rename_i h0; subst h0; congr 1; omega
      · congr 1; show o + i * 1 + j = o + i; omega
    have hl2 : ((zs.take len).map fun n => [AV.lit (.int k n)]).length = len := by simp; omega
    have := VI.isl (A := fun B => B < W.heap.size) (w := W) 1 ((zs.take len).map fun n => [.lit (.int k n)]) B o cap (fun i j => .int k (zs.getD i 0)) hB (by rw [hl2]; exact h3)
      (fun i hi => by simp) (fun i j hi hj => key i j (by rw [hl2] at hi; exact hi) hj) (fun i hi j hj => by
        have hj0 : j = 0 := by simp at hj; exact hj
        subst hj0
        have hi' : i < zs.length := by rw [hl2] at hi; omega
        have e : ((zs.take len).map fun n => [AV.lit (.int k n)])[i] = [AV.lit (.int k (zs.getD i 0))] := by simp [hi']
        have e2 : ((zs.take len).map fun n => [AV.lit (.int k n)])[i][0] = AV.lit (.int k (zs.getD i 0)) := by simp [hi']
        rw [e2]
        exact .lit _)
    rw [hl2] at this
    exact this
end

end Go.Proofs.YthhkdanpjcnegaaGreat
