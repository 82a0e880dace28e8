/- The abstract layer, part 6: struct and slice literals; the step of an operation; its soundness. -/
import Derived.Test.YthhkdanpjcnegaaGreatAb5
namespace Go.Proofs.YthhkdanpjcnegaaGreat
set_option linter.unusedSimpArgs false
set_option linter.unusedVariables false
set_option linter.unusedSectionVars false

/-! ### Filling -/
theorem foldl_set (off : Nat) : ∀ (l : List Value) (j0 : Nat) (arr : Array Value),
    ((l.zipIdx j0).foldl (fun cs (x : Value × Nat) => cs.setIfInBounds (off + x.2) x.1) arr).size = arr.size ∧
    ∀ q, q < arr.size → ((l.zipIdx j0).foldl (fun cs (x : Value × Nat) => cs.setIfInBounds (off + x.2) x.1) arr).getD q undef =
      if off + j0 ≤ q ∧ q < off + j0 + l.length then l.getD (q - (off + j0)) undef else arr.getD q undef
  | [], j0, arr => ⟨rfl, fun q hq => by simp; omega⟩
  | v :: l, j0, arr => by
    obtain ⟨h1, h2⟩ := foldl_set off l (j0 + 1) (arr.setIfInBounds (off + j0) v)
    simp only [List.zipIdx_cons, List.foldl_cons]
    refine ⟨by rw [h1]; simp, fun q hq => ?_⟩
    rw [h2 q (by simpa using hq)]
    by_cases h3 : off + (j0 + 1) ≤ q ∧ q < off + (j0 + 1) + l.length
    · rw [if_pos h3, if_pos (by simp; omega)]
      have e : q - (off + j0) = (q - (off + (j0 + 1))) + 1 := by omega
      rw [e]; simp [List.getD_eq_getElem?_getD]
    · rw [if_neg h3]
      by_cases h4 : q = off + j0
      · subst h4
        rw [if_pos (by simp)]
        simp [hq]
      · rw [if_neg (by simp; omega)]
        simp only [Array.getD_eq_getD_getElem?]
        rw [Array.getElem?_setIfInBounds_ne (Ne.symm h4)]

def fillA (pl : List (Nat × Nat)) : List AV → List (Nat × AV) → Option (List AV)
  | cs, [] => some cs
  | cs, (i, x) :: r =>
    match pl[i]?, cellsA x with
    | some (off, size), some xs => if xs.length = size ∧ off + size ≤ cs.length then fillA pl (cs.take off ++ xs ++ cs.drop (off + size)) r else none
    | _, _ => none

theorem mid_get {cs xs : List AV} {off q : Nat} (h : off + xs.length ≤ cs.length) :
    (cs.take off ++ xs ++ cs.drop (off + xs.length))[q]? = if off ≤ q ∧ q < off + xs.length then xs[q - off]? else cs[q]? := by
  have hl : (cs.take off).length = off := by simp; omega
  by_cases h1 : q < off
  · rw [if_neg (by omega), List.append_assoc, List.getElem?_append_left (by omega), List.getElem?_take, if_pos h1]
  · by_cases h2 : q < off + xs.length
    · rw [if_pos (by omega), List.getElem?_append_left (by simp; omega), List.getElem?_append_right (by omega), hl]
    · rw [if_neg (by omega), List.getElem?_append_right (by simp; omega), List.getElem?_drop]
      congr 1
      simp; omega

theorem VL.get {A m nb w cs a} (h : VL A m nb w cs a) {q : Nat} {x : AV} (hx : cs[q]? = some x) : V A m nb w x (a.getD q undef) := by
  obtain ⟨hq, rfl⟩ := List.getElem?_eq_some_iff.1 hx
  exact h.2 q hq

theorem VL.of {A m nb w} {cs : List AV} {a : Array Value} (hs : a.size = cs.length) (h : ∀ q x, cs[q]? = some x → V A m nb w x (a.getD q undef)) : VL A m nb w cs a :=
  ⟨hs, fun i hi => h i _ (List.getElem?_eq_getElem hi)⟩

theorem fill_sound {A m nb w} {pl : List (Nat × Nat)} {place : Nat → Option (Nat × Nat)} (hpl : ∀ i y, pl[i]? = some y → place i = some y) :
    ∀ (parts : List (Nat × AV)) (vs : List (Nat × Value)) (cs : List AV) (a : Array Value) (r : List AV), parts.length = vs.length →
      (∀ i (h : i < parts.length) (h' : i < vs.length), vs[i].1 = parts[i].1 ∧ V A m nb w parts[i].2 vs[i].2) → VL A m nb w cs a → fillA pl cs parts = some r →
      ∃ b, Instr.fill place a vs = some b ∧ VL A m nb w r b
  | [], [], cs, a, r, _, _, hv, h => by cases h; exact ⟨a, rfl, hv⟩
  | (i, x) :: parts, (i', v) :: vs, cs, a, r, hl, hp, hv, h => by
    obtain ⟨h1, h2⟩ := hp 0 (by simp) (by simp)
    simp at h1 h2
    subst h1
    simp only [fillA] at h
    split at h
    · rename_i off size xs hoff hxs
      split at h
      · rename_i hc
        obtain ⟨rfl, hfit⟩ := hc
        obtain ⟨hvx, _⟩ := cells_sound hxs h2
        obtain ⟨f1, f2⟩ := foldl_set off v.cells.toList 0 a
        have hvs : v.cells.toList.length = xs.length := by simpa using hvx.1
        have hfa : v.cells.zipIdx.foldl (fun cs (x : Value × Nat) => cs.setIfInBounds (off + x.2) x.1) a = (v.cells.toList.zipIdx 0).foldl (fun cs (x : Value × Nat) => cs.setIfInBounds (off + x.2) x.1) a := by
          rw [← Array.foldl_toList]; simp
        have ih := fill_sound hpl parts vs (cs.take off ++ xs ++ cs.drop (off + xs.length)) _ r (by simpa using hl)
          (fun j hj hj' => hp (j + 1) (by simp; omega) (by simp; omega))
          (VL.of (a := (v.cells.toList.zipIdx 0).foldl (fun cs (x : Value × Nat) => cs.setIfInBounds (off + x.2) x.1) a) (by rw [f1, hv.1]; simp; omega) fun q y hq => by
            rw [mid_get hfit] at hq
            have hqa : q < a.size := by
              rw [hv.1]
              split at hq
              · omega
              · exact (List.getElem?_eq_some_iff.1 hq).1
            rw [f2 q hqa]
            simp only [Nat.add_zero]
            split at hq
            · rename_i hc
              rw [if_pos (by rw [hvs]; exact hc)]
              have := hvx.get hq
              rwa [show v.cells.toList.getD (q - off) undef = v.cells.getD (q - off) undef by simp [List.getD_eq_getElem?_getD, Array.getD_eq_getD_getElem?]]
            · rename_i hc
              rw [if_neg (by rw [hvs]; exact hc)]
              exact hv.get hq) h
        obtain ⟨b, hb1, hb2⟩ := ih
        refine ⟨b, ?_, hb2⟩
        simp only [Instr.fill, hpl _ _ hoff]
        rw [if_neg]
        · rw [hfa]; exact hb1
        · have e1 : v.cells.size = xs.length := hvx.1
          simp [e1]
          rw [hv.1]; omega
      · cases h
    · cases h
  | [], _ :: _, _, _, _, hl, _, _, _ => by simp at hl
  | _ :: _, [], _, _, _, hl, _, _, _ => by simp at hl

/-- The parts of a literal. -/
def evParts (env : Ev) : List (Nat × Operand) → Option (List (Nat × AV))
  | [] => some []
  | (i, x) :: r => match ev env x, evParts env r with | some v, some l => some ((i, v) :: l) | _, _ => none

theorem evParts_sound {A m nb w n env a} (h : Env A m nb w n env a) : ∀ {ps : List (Nat × Operand)} {l : List (Nat × AV)}, evParts env ps = some l →
    l.length = (ps.map fun p => (p.1, a.eval p.2)).length ∧ ∀ i (h1 : i < l.length) (h2 : i < (ps.map fun p => (p.1, a.eval p.2)).length), (ps.map fun p => (p.1, a.eval p.2))[i].1 = l[i].1 ∧ V A m nb w l[i].2 (ps.map fun p => (p.1, a.eval p.2))[i].2
  | [], l, hl => by cases hl; exact ⟨rfl, fun i h1 => by simp at h1⟩
  | (i, x) :: ps, l, hl => by
    simp only [evParts] at hl
    split at hl
    · rename_i v l' hv hl'
      cases hl
      obtain ⟨h1, h2⟩ := evParts_sound h hl'
      refine ⟨by simpa using h1, fun j hj hj' => ?_⟩
      cases j with
      | zero => exact ⟨rfl, ev_sound h hv⟩
      | succ j => exact h2 j (by simpa using hj) (by simpa using hj')
    · cases hl

def evList (env : Ev) : List Operand → Option (List AV)
  | [] => some []
  | x :: r => match ev env x, evList env r with | some v, some l => some (v :: l) | _, _ => none

theorem evList_sound {A m nb w n env a} (h : Env A m nb w n env a) : ∀ {ps : List Operand} {l : List AV}, evList env ps = some l → VL A m nb w l (ps.map a.eval).toArray
  | [], l, hl => by cases hl; exact ⟨rfl, fun i h1 => by cases h1⟩
  | x :: ps, l, hl => by
    simp only [evList] at hl
    split at hl
    · rename_i v l' hv hl'
      cases hl
      have ih := evList_sound h hl'
      refine ⟨by simpa using ih.1, fun j hj => ?_⟩
      cases j with
      | zero => simpa using ev_sound h hv
      | succ j => simpa using ih.2 j (by simpa using hj)
    · cases hl

theorem places_run {P : Program} {w : World} {flds : Array Field} {pl : List (Nat × Nat)} (h : flds.toList.mapM (fun f => (P.info? f.type).map fun i => (f.offset, i.size)) = some pl) :
    (flds.mapM fun f => do pure (f.offset, ← sizeOf f.type) : Sem (Array (Nat × Nat))).run P w = .ok pl.toArray w := by
  have := run_places (P := P) w flds.toList pl h
  simp [Array.mapM_eq_mapM_toList, this]

theorem op_build {P : Program} {A m nb w n env a} {t : TypeId} {ti : TI} {ps : Array (Nat × Operand)} {parts : List (Nat × AV)} {pl : List (Nat × Nat)} {r : List AV} (hE : Env A m nb w n env a) (ht : tiOf P t = some ti)
    (hpl : ti.k = .agg pl ∨ (∃ n e te, ti.k = .arr n e ∧ tiOf P e = some te ∧ pl = (List.range n).map fun i => (i * te.size, te.size))) (hp : evParts env ps.toList = some parts) (h : fillA pl (litCells ti.zero) parts = some r) :
    ∃ v, (Instr.build t (ps.map fun (i, x) => (i, a.eval x))).run P w = .ok v w ∧ V A m nb w (.agg r) v := by
  obtain ⟨d, i0, hd, _, _, _, _, hdk, hzs⟩ := tiOf_inv ht
  have hz := run_zeroValue w ht
  obtain ⟨e1, e2⟩ := evParts_sound hE hp
  have hm : (ps.map fun (i, x) => (i, a.eval x)).toList = ps.toList.map fun p => (p.1, a.eval p.2) := by simp
  have hm' : (ps.toList.map fun p => (p.1, a.eval p.2)) = (ps.map fun (i, x) => (i, a.eval x)).toList := hm.symm
  rcases hpl with hk | ⟨cnt, e, te, hk, he, rfl⟩
  · rw [hk] at hdk
    obtain ⟨flds, rfl, hmm⟩ := tk_agg hdk
    obtain ⟨b, hb, hv⟩ := fill_sound (place := (pl.toArray[·]?)) (fun i y hy => by simpa using hy) parts _ _ ti.zero.cells r e1 e2 (litCells_VL A m nb w ti.zero) h
    have hpr := places_run (P := P) (w := w) hmm
    refine ⟨.agg b, ?_, .agg _ _ hv.1 hv.2⟩
    rw [← hm] at hb
    simp only [Instr.build, Sem.run_bind, hz, Result.andThen_ok, run_underlying hd]
    simp only [hpr, Result.andThen_ok, hb, Sem.run_pure]
  · rw [hk] at hdk
    have : d = .array cnt e := by
      cases d <;> simp only [tkOf] at hdk
      case array => cases hdk; rfl
      case struct => split at hdk <;> cases hdk
      all_goals cases hdk
    subst this
    have hso := run_sizeOf w he
    obtain ⟨b, hb, hv⟩ := fill_sound (place := fun i => some (i * te.size, te.size)) (fun i y hy => by
      simp [List.getElem?_map, List.getElem?_range] at hy
      obtain ⟨j, h1, h2⟩ := hy
      obtain ⟨h3, rfl⟩ := List.getElem?_eq_some_iff.1 h1
      rw [← h2]; simp) parts _ _ ti.zero.cells r e1 e2 (litCells_VL A m nb w ti.zero) h
    refine ⟨.agg b, ?_, .agg _ _ hv.1 hv.2⟩
    rw [← hm] at hb
    simp only [Instr.build, Sem.run_bind, hz, Result.andThen_ok, run_underlying hd]
    simp only [hso, Result.andThen_ok, hb, Sem.run_pure]

/-! ### A slice literal: rows. -/
def fillR (size : Nat) : List (List AV) → List (Nat × AV) → Option (List (List AV))
  | rows, [] => some rows
  | rows, (i, x) :: r =>
    match cellsA x with
    | some xs => if xs.length = size ∧ i < rows.length then fillR size (rows.set i xs) r else none
    | none => none

def RowsV (A : Nat → Prop) (m : BM) (nb : Nat) (w : World) (size : Nat) (rows : List (List AV)) (a : Array Value) : Prop :=
  a.size = rows.length * size ∧ (∀ i (h : i < rows.length), rows[i].length = size) ∧ ∀ i (h : i < rows.length) j (h' : j < rows[i].length), V A m nb w rows[i][j] (a.getD (i * size + j) undef)

theorem fillR_sound {A m nb w} {size : Nat} :
    ∀ (parts : List (Nat × AV)) (vs : List (Nat × Value)) (rows : List (List AV)) (a : Array Value) (r : List (List AV)), parts.length = vs.length →
      (∀ i (h : i < parts.length) (h' : i < vs.length), vs[i].1 = parts[i].1 ∧ V A m nb w parts[i].2 vs[i].2) → RowsV A m nb w size rows a → fillR size rows parts = some r →
      ∃ b, Instr.fill (fun i => some (i * size, size)) a vs = some b ∧ RowsV A m nb w size r b ∧ r.length = rows.length
  | [], [], cs, a, r, _, _, hv, h => by cases h; exact ⟨a, rfl, hv, rfl⟩
  | (i, x) :: parts, (i', v) :: vs, rows, a, r, hl, hp, hv, h => by
    obtain ⟨h1, h2⟩ := hp 0 (by simp) (by simp)
    simp at h1 h2
    subst h1
    simp only [fillR] at h
    split at h
    · rename_i xs hxs
      split at h
      · rename_i hc
        obtain ⟨hxl, hfit⟩ := hc
        obtain ⟨hvx, _⟩ := cells_sound hxs h2
        obtain ⟨f1, f2⟩ := foldl_set (i' * size) v.cells.toList 0 a
        have hvs : v.cells.toList.length = size := by rw [← hxl]; simpa using hvx.1
        have hfa : v.cells.zipIdx.foldl (fun cs (x : Value × Nat) => cs.setIfInBounds (i' * size + x.2) x.1) a = (v.cells.toList.zipIdx 0).foldl (fun cs (x : Value × Nat) => cs.setIfInBounds (i' * size + x.2) x.1) a := by
          rw [← Array.foldl_toList]; simp
        have hend : i' * size + size ≤ a.size := by
          rw [hv.1]
          have h5 : (i' + 1) * size ≤ rows.length * size := Nat.mul_le_mul_right _ hfit
          rw [Nat.add_mul, Nat.one_mul] at h5; exact h5
        have ih := fillR_sound parts vs (rows.set i' xs) ((v.cells.toList.zipIdx 0).foldl (fun cs (x : Value × Nat) => cs.setIfInBounds (i' * size + x.2) x.1) a) r (by simpa using hl)
          (fun j hj hj' => hp (j + 1) (by simp; omega) (by simp; omega))
          ⟨by rw [f1, hv.1]; simp, fun q hq => by
            simp only [List.getElem_set]; split
            · exact hxl
            · exact hv.2.1 q (by simpa using hq), fun q hq j hj => by
            have hq' : q < rows.length := by simpa using hq
            have hj' : j < size := by
              have : ((rows.set i' xs)[q]).length = size := by
                simp only [List.getElem_set]; split
                · exact hxl
                · exact hv.2.1 q hq'
              omega
            have hqa : q * size + j < a.size := by rw [hv.1]; exact mul_lt_of_lt hq' hj'
            rw [f2 _ hqa]
            simp only [Nat.add_zero]
            by_cases e : i' = q
            · subst e
              rw [if_pos (by rw [hvs]; omega)]
              have e3 : (rows.set i' xs)[i'][j] = xs[j]'(by omega) := by simp
              rw [e3]
              have := hvx.2 j (by omega)
              rwa [show v.cells.toList.getD (i' * size + j - i' * size) undef = v.cells.getD j undef by simp [List.getD_eq_getElem?_getD, Array.getD_eq_getD_getElem?]]
            · rw [if_neg]
              · have e3 : (rows.set i' xs)[q][j] = rows[q][j]'(by rw [hv.2.1 q hq']; exact hj') := by simp [e]
                rw [e3]
                exact hv.2.2 q hq' j _
              · rw [hvs]
                rcases Nat.lt_or_gt_of_ne e with h5 | h5
                · have := mul_lt_of_lt (i' := i') (i := q) (k := size) (j := size - 1) h5 (by omega)
                  omega
                · have := mul_lt_of_lt (i' := q) (i := i') (k := size) (j := j) h5 hj'
                  omega⟩ h
        obtain ⟨b, hb1, hb2, hb3⟩ := ih
        refine ⟨b, ?_, hb2, by rw [hb3]; simp⟩
        simp only [Instr.fill]
        rw [if_neg]
        · rw [hfa]; exact hb1
        · have e1 : v.cells.size = size := by rw [← hvs]; simp
          simp [e1]
          omega
      · cases h
    · cases h
  | [], _ :: _, _, _, _, hl, _, _, _ => by simp at hl
  | _ :: _, [], _, _, _, hl, _, _, _ => by simp at hl

theorem op_buildSlice {P : Program} {A m w st n env a} {t e : TypeId} {ti te : TI} {len : Nat} {ps : Array (Nat × Operand)} {parts : List (Nat × AV)} {r : List (List AV)} (hR : R A m w st) (hE : Env A m st.length w n env a)
    (ht : tiOf P t = some ti) (hte : ti.k = .slc e) (he : tiOf P e = some te) (hsz : 0 < te.size) (hmax : len * te.size ≤ 16777216) (hp : evParts env ps.toList = some parts)
    (h : fillR te.size (List.replicate len (litCells te.zero)) parts = some r) :
    ∃ v w' m', (Instr.buildSlice t len (ps.map fun (i, x) => (i, a.eval x))).run P w = .ok v w' ∧ R A m' w' (st ++ [some (te.size, r)]) ∧
      Step A m st.length w A m' (st ++ [some (te.size, r)]).length w' ∧ V A m' (st ++ [some (te.size, r)]).length w' (.msl st.length 0 len) v := by
  obtain ⟨d, i0, hd, _, _, _, _, hdk, _⟩ := tiOf_inv ht
  obtain ⟨_, _, _, _, _, _, _, _, hzs⟩ := tiOf_inv he
  rw [hte] at hdk
  have := tk_slc hdk
  subst this
  have hso := run_sizeOf w he
  have hz := run_zeroValue w he
  obtain ⟨e1, e2⟩ := evParts_sound hE hp
  have hm : (ps.map fun (i, x) => (i, a.eval x)).toList = ps.toList.map fun p => (p.1, a.eval p.2) := by simp
  have hzl : (litCells te.zero).length = te.size := by simp [litCells, hzs]
  have hstart : RowsV A m st.length w te.size (List.replicate len (litCells te.zero)) ((Array.range (len * te.size)).map (te.zero.cells[· % te.zero.cells.size]!)) := by
    refine ⟨by simp, fun i hi => by simp [hzl], fun i hi j hj => ?_⟩
    have hi' : i < len := by simpa using hi
    have hj' : j < te.size := by simpa [hzl] using hj
    have hq : i * te.size + j < len * te.size := mul_lt_of_lt hi' hj'
    have hmod : (i * te.size + j) % te.size = j := by rw [Nat.add_comm, Nat.add_mul_mod_self_right, Nat.mod_eq_of_lt hj']
    have e3 : (List.replicate len (litCells te.zero))[i][j] = (litCells te.zero)[j]'(by rw [hzl]; exact hj') := by simp
    rw [e3]
    have h4 := (litCells_VL A m st.length w te.zero).2 j (by rw [hzl]; exact hj')
    have e5 : ((Array.range (len * te.size)).map (te.zero.cells[· % te.zero.cells.size]!)).getD (i * te.size + j) undef = te.zero.cells.getD j undef := by
      have hjz : j < te.zero.cells.size := by rw [hzs]; exact hj'
      simp [Array.getD_eq_getD_getElem?, hq, hzs, hmod]
      rw [getElem!_pos te.zero.cells j hjz, getElem?_pos te.zero.cells j hjz]; rfl
    rw [e5]; exact h4
  obtain ⟨b, hb, hv, hrl⟩ := fillR_sound parts _ _ _ r e1 e2 hstart h
  have hrl' : r.length = len := by rw [hrl]; simp
  rw [← hm] at hb
  have hcell : ∀ off, off < len * te.size → (w.alloc (.cells b e)).cell? ⟨w.heap.size, off, none⟩ = some (b.getD off undef) := fun off ho => by
    have := World.cell?_alloc_new w b e off
    rw [this, Array.getElem?_eq_getElem (by rw [hv.1, hrl']; exact ho)]
    have ho2 : off < b.size := by rw [hv.1, hrl']; exact ho
    simp [Array.getD_eq_getD_getElem?, ho2]
  have hpu := hR.push (Grow.alloc w (.cells b e)) ⟨true, w.heap.size, 0, te.size, len * te.size⟩ r (fun _ => ⟨Nat.le_refl _, by simp⟩) (fun h => by cases h)
    (fun _ off ho => ⟨_, hcell off ho⟩) (fun _ off _ => World.frozen?_alloc_new w b e off) (fun _ => by simp [hrl']) hv.2.1
    (fun _ i hi j hj => by
      have hj' : j < te.size := by rw [← hv.2.1 i hi]; exact hj
      exact ⟨_, by simpa using hcell _ (mul_lt_of_lt (hrl' ▸ hi) hj'), hv.2.2 i hi j hj⟩)
  have hlen : (st ++ [some (te.size, r)]).length = st.length + 1 := by simp
  rw [hlen]
  refine ⟨.slice (some ⟨w.heap.size, 0, none⟩) len len, _, _, ?_, hpu.1, hpu.2, .msl _ _ _ _ _ _ (Nat.lt_succ_self _) fun b' hb' => ?_⟩
  · have h16 : ¬ (len * te.size > 2 ^ 24) := by simpa using hmax
    by_cases h0 : len * te.size = 0
    · have hl0 : len = 0 := by
        rcases Nat.mul_eq_zero.1 h0 with h | h
        · exact h
        · omega
      subst hl0
      have e0 : ∀ (f : Nat → Value), (Array.range (0 * te.size)).map f = #[] := fun f => by simp
      rw [e0] at hb
      simp only [Instr.buildSlice, Sem.run_bind, run_underlying hd, Result.andThen_ok, hso, h16, if_false]
      simp only [h0, if_true, Sem.run_pure, Sem.run_bind, Result.andThen_ok]
      rw [show (Array.range 0).map (fun (x : Nat) => (#[] : Array Value)[x % (#[] : Array Value).size]!) = #[] by simp]
      rw [hm] at hb ⊢
      simp only [hb]
      simp [newRow]
    · simp only [Instr.buildSlice, Sem.run_bind, run_underlying hd, Result.andThen_ok, hso, h16, if_false]
      simp only [h0, if_false, Sem.run_bind, Sem.run_pure, Result.andThen_ok, hz, hb]
      simp [newRow]
  · simp [BM.put] at hb'
    subst hb'
    exact ⟨rfl, Nat.le_refl _, .inr ⟨rfl, by simp, by simp⟩⟩

end Go.Proofs.YthhkdanpjcnegaaGreat
