/- Arguments of any plain type (numbers, truths, texts, slices and structs of these), read as abstract values. -/
import Derived.Test.YthhkdanpjcnegaaGreatEn
import Derived.Test.YthhkdanpjcnegaaGreatAb15
namespace Go.Proofs.YthhkdanpjcnegaaGreat
set_option linter.unusedSimpArgs false
set_option linter.unusedVariables false
open Go.ChangeShapes Go.WideShapes Go.ChangeAt Go.RowKit Go.WideMaps Go.WideElems

/-- Fields one behind the other. -/
def laidFs (P : Program) : Nat → List Field → Option Nat
  | o, [] => some o
  | o, f :: r => if f.offset = o then laidFs P (o + P.cellsOf f.type) r else none
def plainT (P : Program) : Nat → TypeId → Bool
  | 0, _ => false
  | n + 1, t =>
    match P.underlying t with
    | some .bool => true
    | some (.int _) => true
    | some .string => true
    | some (.slice e) => Nat.blt 0 (P.cellsOf e) && plainT P n e
    | some (.struct fs) => (laidFs P 0 fs.toList == some (P.cellsOf t)) && fs.toList.all fun f => plainT P n f.type
    | _ => false
def Good (P : Program) : Nat → TypeId → List AV → Prop
  | 0, _, _ => False
  | n + 1, t, avs =>
    match P.underlying t with
    | some .bool => ∃ b, avs = [.lit (.bool b)]
    | some (.int k) => ∃ m, avs = [.lit (.int k m)] ∧ (Lit.int k m).wf = true
    | some .string => ∃ s : List UInt8, avs = [.lit (.string (B s))] ∧ s.length ≤ 9223372036854775807
    | some (.slice e) => ∃ els, avs = [.isl (P.cellsOf e) els] ∧ els.length ≤ 9223372036854775807 ∧ ∀ r ∈ els, Good P n e r
    | some (.struct fs) => ∃ parts : List (List AV), avs = parts.flatten ∧ parts.length = fs.size ∧ ∀ (i : Nat) f p, fs[i]? = some f → parts[i]? = some p → Good P n f.type p
    | _ => False

section
variable {H : Type} {enc : TypeId × Value → H} {P : Program} {W : World}

abbrev RowVI (W : World) (avs : List AV) (cs : List Value) : Prop := avs.length = cs.length ∧ ∀ (i : Nat) av v, avs[i]? = some av → cs[i]? = some v → VI (fun B => B < W.heap.size) W av v

theorem rowVI_append {a b : List AV} {cs ds : List Value} (h : RowVI W a cs) (k : RowVI W b ds) : RowVI W (a ++ b) (cs ++ ds) := by
  refine ⟨by simp [h.1, k.1], fun i av v h1 h2 => ?_⟩
  by_cases hi : i < a.length
  · rw [List.getElem?_append_left hi] at h1
    rw [List.getElem?_append_left (by rw [← h.1]; exact hi)] at h2
    exact h.2 i av v h1 h2
  · rw [List.getElem?_append_right (by omega)] at h1
    rw [List.getElem?_append_right (by rw [← h.1]; omega), ← h.1] at h2
    exact k.2 _ av v h1 h2

theorem rowVI_one {av : AV} {v : Value} (h : VI (fun B => B < W.heap.size) W av v) : RowVI W [av] [v] :=
  ⟨rfl, fun i a u h1 h2 => by
    cases i with
    | zero => cases h1; cases h2; exact h
    | succ i => simp at h1⟩

theorem cells_get {w : World} {base : Nat} {a : Addr} {n : Nat} {cs : List Value} (h : w.cells? base a n = some cs) : cs.length = n ∧ ∀ j, j < n → w.cell? (a.add j) = cs[j]? := by
  unfold World.cells? at h
  split at h
  · have key : ∀ (l : List Nat) (r : List Value), l.mapM (fun i => w.cell? (a.add i)) = some r → r.length = l.length ∧ ∀ (j : Nat) x, l[j]? = some x → w.cell? (a.add x) = r[j]? := by
      intro l
      induction l with
      | nil => intro r hr; simp at hr; subst hr; exact ⟨rfl, fun j x hx => by simp at hx⟩
      | cons y l ih =>
        intro r hr
        simp only [List.mapM_cons, Option.bind_eq_bind, Option.pure_def] at hr
        cases h1 : w.cell? (a.add y) with
        | none => simp [h1] at hr
        | some b =>
          cases h2 : l.mapM (fun i => w.cell? (a.add i)) with
          | none => simp [h1, h2] at hr
          | some r' =>
            simp [h1, h2] at hr
            subst hr
            obtain ⟨k1, k2⟩ := ih r' h2
            refine ⟨by simp [k1], fun j x hx => ?_⟩
            cases j with
            | zero => simp at hx; subst hx; simpa using h1
            | succ j => simpa using k2 j x (by simpa using hx)
    obtain ⟨h1, h2⟩ := key _ _ h
    refine ⟨by simpa using h1, fun j hj => h2 j j (by simp [hj])⟩
  · cases h

theorem read_row : ∀ (n fuel : Nat) (t : TypeId) (cs : List Value) (x : DataW H × List MemPlace), plainT P n t = true → DataW.trod enc P W 0 (fun _ => true) true fuel t cs = some x → (∀ p ∈ x.2, p.block < W.heap.size) → ∃ avs, Good P n t avs ∧ RowVI W avs cs
  | 0, _, _, _, _, h, _, _ => by cases h
  | n + 1, fuel, t, cs, x, hp, hx, hlt => by
    have hmax : maxLen = 9223372036854775807 := by unfold maxLen; decide
    unfold plainT at hp
    unfold Good
    cases hu : P.underlying t with
    | none => rw [hu] at hp; cases hp
    | some d =>
      rw [hu] at hp
      cases d with
      | bool =>
        obtain ⟨b, rfl, _⟩ := DataW.trod_bool hu hx
        exact ⟨_, ⟨b, rfl⟩, rowVI_one (.lit _)⟩
      | int k =>
        obtain ⟨m, rfl, _, hw⟩ := DataW.trod_int hu hx
        exact ⟨_, ⟨m, rfl, hw⟩, rowVI_one (.lit _)⟩
      | string =>
        obtain ⟨s, rfl, _, hl⟩ := DataW.trod_string hu hx
        exact ⟨_, ⟨s.data.toList, rfl, by rw [← hmax]; exact hl⟩, rowVI_one (.lit _)⟩
      | slice e =>
        simp only [Bool.and_eq_true] at hp
        have hk : 0 < P.cellsOf e := Nat.le_of_ble_eq_true hp.1
        rcases DataW.trod_slice hu hx with ⟨rfl, rfl⟩ | ⟨a, len, cap, elems, rest, n', rfl, rfl, rfl, hb, hl, hm, hlen, hel, hsp, hns⟩
        · exact ⟨_, ⟨[], rfl, by simp, fun r hr => by cases hr⟩, rowVI_one (.inil _ _ _)⟩
        rcases Nat.eq_zero_or_pos len with h0 | h0
        · subst h0
          exact ⟨_, ⟨[], rfl, by simp, fun r hr => by cases hr⟩, rowVI_one (.inil _ _ _)⟩
        have hrow : ∀ i, ∃ r, i < len → Good P n e r ∧ r.length = P.cellsOf e ∧ ∃ cl : List Value, cl.length = P.cellsOf e ∧ (∀ j, j < P.cellsOf e → W.cell? ((a.add (i * P.cellsOf e)).add j) = cl[j]?) ∧ RowVI W r cl := fun i => by
          by_cases hi : i < len
          · have h1 := hel i hi
            have h2 : elems[i]? = some elems[i] := List.getElem?_eq_getElem (by omega)
            rw [h2] at h1
            cases hc : W.cells? 0 (a.add (i * P.cellsOf e)) (P.cellsOf e) with
            | none => rw [hc] at h1; cases h1
            | some cl =>
              rw [hc] at h1
              obtain ⟨k1, k2⟩ := cells_get hc
              obtain ⟨r, g1, g2⟩ := read_row n n' e cl elems[i] hp.2 h1 (fun p hpp => hlt p (by
                simp only [List.mem_append, List.mem_flatMap]
                exact .inr ⟨elems[i], .inl (List.getElem_mem _), hpp⟩))
              exact ⟨r, fun _ => ⟨g1, by rw [g2.1, k1], cl, k1, k2, g2⟩⟩
          · exact ⟨[], fun h => absurd h hi⟩
        obtain ⟨f, hf⟩ := Classical.axiomOfChoice hrow
        have hspot : a.spot = none := by
          obtain ⟨_, _, cl, k1, k2, _⟩ := hf 0 h0
          have h2 := k2 0 hk
          rw [List.getElem?_eq_getElem (by omega)] at h2
          simp only [Nat.zero_mul, Addr.add, if_true] at h2
          cases hs : a.spot with
          | none => rfl
          | some q =>
            rw [World.cell?] at h2
            split at h2
            · rw [hs] at h2; simp at h2
            · cases h2
        obtain ⟨B, o, p⟩ := a
        simp only at hspot
        subst hspot
        have hB : B < W.heap.size := hlt (.cell B (o + 0)) (by
          refine List.mem_append.2 (.inl (List.mem_map.2 ⟨0, List.mem_range.2 ?_, rfl⟩))
          exact Nat.mul_pos (by omega) hk)
        have hadd : ∀ i j, (((⟨B, o, none⟩ : Addr).add (i * P.cellsOf e)).add j) = ⟨B, o + i * P.cellsOf e + j, none⟩ := fun i j => by rw [addr_add, addr_add]
        refine ⟨_, ⟨(List.range len).map f, rfl, by simp; omega, fun r hr => ?_⟩, rowVI_one ?_⟩
        · obtain ⟨i, hi, rfl⟩ := List.mem_map.1 hr
          exact (hf i (List.mem_range.1 hi)).1
        · have hl2 : ((List.range len).map f).length = len := by simp
          have := VI.isl (A := fun B => B < W.heap.size) (w := W) (P.cellsOf e) ((List.range len).map f) B o cap (fun i j => (W.cell? ⟨B, o + i * P.cellsOf e + j, none⟩).getD undef) hB (by rw [hl2]; exact hl)
            (fun i hi => by simp at hi; simpa using (hf i hi).2.1)
            (fun i j hi hj => by
              rw [hl2] at hi
              obtain ⟨_, _, cl, k1, k2, _⟩ := hf i hi
              have := k2 j hj
              rw [hadd, List.getElem?_eq_getElem (by omega)] at this
              rw [this]; rfl)
            (fun i hi j hj => by
              have hi' : i < len := by rw [hl2] at hi; exact hi
              obtain ⟨_, g, cl, k1, k2, g2⟩ := hf i hi'
              have e1 : ((List.range len).map f)[i] = f i := by simp
              have hj' : j < (f i).length := by rw [e1] at hj; exact hj
              have h3 := k2 j (by omega)
              rw [hadd] at h3
              show VI _ W _ ((W.cell? _).getD undef)
              rw [h3, List.getElem?_eq_getElem (by omega)]
              have h4 := g2.2 j (f i)[j] cl[j] (List.getElem?_eq_getElem hj') (List.getElem?_eq_getElem (by omega))
              have e2 : ((List.range len).map f)[i][j] = (f i)[j] := by simp
              rw [e2]
              exact h4)
          rw [hl2] at this
          exact this
      | struct fs =>
        simp only [Bool.and_eq_true, beq_iff_eq, List.all_eq_true] at hp
        obtain ⟨xs, n', rfl, rfl, hcl, hxl, hfs⟩ := DataW.trod_struct hu hx
        have hfs' : ∀ (i : Nat) (f : Field), fs.toList[i]? = some f → DataW.trod enc P W 0 (fun _ => true) true n' f.type ((cs.drop f.offset).take (P.cellsOf f.type)) = xs[i]? := fun i f h => hfs i f (by simpa using h)
        have key : ∀ (l : List Field) (k o e : Nat), fs.toList.drop k = l → laidFs P o l = some e → ∃ parts : List (List AV), parts.length = l.length ∧ (∀ (i : Nat) f p, l[i]? = some f → parts[i]? = some p → Good P n f.type p) ∧ RowVI W parts.flatten ((cs.drop o).take (e - o)) ∧ o ≤ e := by
          intro l
          induction l with
          | nil =>
            intro k o e _ hl
            simp only [laidFs, Option.some.injEq] at hl
            subst hl
            exact ⟨[], rfl, fun i f p h => by simp at h, ⟨by simp, fun i av v h => by simp at h⟩, Nat.le_refl _⟩
          | cons f l ih =>
            intro k o e hd hl
            unfold laidFs at hl
            split at hl
            · rename_i hoff
              have hk : fs.toList[k]? = some f := by
                have : (fs.toList.drop k)[0]? = some f := by rw [hd]; rfl
                simpa using this
              have hd' : fs.toList.drop (k + 1) = l := by
                have := congrArg List.tail hd
                simpa [List.tail_drop] using this
              obtain ⟨parts, p1, p2, p3, p4⟩ := ih (k + 1) _ e hd' hl
              have hr := hfs' k f hk
              have hkl : k < xs.length := by
                have := (List.getElem?_eq_some_iff.1 hk).1
                simp at this; omega
              rw [List.getElem?_eq_getElem hkl, hoff] at hr
              obtain ⟨r, g1, g2⟩ := read_row n n' f.type _ xs[k] (hp.2 f (List.mem_of_getElem? hk)) hr (fun p hpp => hlt p (List.mem_flatMap.2 ⟨xs[k], List.getElem_mem _, hpp⟩))
              refine ⟨r :: parts, by simp [p1], fun i f' p h1 h2 => ?_, ?_, by omega⟩
              · cases i with
                | zero => simp at h1 h2; subst h1 h2; exact g1
                | succ i => exact p2 i f' p (by simpa using h1) (by simpa using h2)
              · have e1 : (cs.drop o).take (e - o) = (cs.drop o).take (P.cellsOf f.type) ++ (cs.drop (o + P.cellsOf f.type)).take (e - (o + P.cellsOf f.type)) := by
                  have : e - o = P.cellsOf f.type + (e - (o + P.cellsOf f.type)) := by omega
                  rw [this, List.take_add, List.drop_drop]
                rw [e1, List.flatten_cons]
                exact rowVI_append g2 p3
            · cases hl
        obtain ⟨parts, p1, p2, p3, _⟩ := key fs.toList 0 0 _ rfl hp.1
        refine ⟨parts.flatten, ⟨parts, rfl, by simpa using p1, fun i f p h1 h2 => p2 i f p (by simpa using h1) h2⟩, ?_⟩
        rwa [List.drop_zero, Nat.sub_zero, List.take_of_length_le (by omega)] at p3
      | _ => cases hp

/-- An argument. -/
theorem read_arg {n : Nat} {t : TypeId} {v : Value} {d : DataW H} {ps : List MemPlace} (hp : plainT P n t = true) (h : DataW.Trod enc P W 0 (fun _ => true) true t v d ps) (hlt : ∀ p ∈ ps, p.block < W.heap.size) : ∃ avs, Good P n t avs ∧ RowVI W avs v.cells.toList := by
  obtain ⟨fuel, hf⟩ := h
  exact read_row n fuel t _ _ hp hf hlt
end

/-! ### Typed words for what was read -/
section
variable {P : Program} {n : Nat} {t : TypeId} {avs : List AV}
abbrev wI (k : IntKind) (x : Int) : Prop := (Lit.int k x).wf = true
abbrev wS (s : List UInt8) : Prop := s.length ≤ 9223372036854775807
abbrev wT {α : Type} (_ : α) : Prop := True
abbrev wL {α : Type} (w : α → Prop) (l : List α) : Prop := l.length ≤ 9223372036854775807 ∧ ∀ y ∈ l, w y
theorem gdB (hu : P.underlying t = some .bool) (h : Good P (n + 1) t avs) : ∃ x : Bool, avs = rB x ∧ wT x := by
  unfold Good at h; rw [hu] at h; obtain ⟨b, rfl⟩ := h; exact ⟨b, rfl, trivial⟩
theorem gdI {k : IntKind} (hu : P.underlying t = some (.int k)) (h : Good P (n + 1) t avs) : ∃ x : Int, avs = rI k x ∧ wI k x := by
  unfold Good at h; rw [hu] at h; obtain ⟨m, rfl, hw⟩ := h; exact ⟨m, rfl, hw⟩
theorem gdU (hu : P.underlying t = some (.int .u8)) (h : Good P (n + 1) t avs) : ∃ x : UInt8, avs = byteRow x ∧ wT x := by
  unfold Good at h; rw [hu] at h; obtain ⟨m, rfl, hw⟩ := h
  have h1 := wf_u8 hw
  refine ⟨UInt8.ofNat m.toNat, ?_, trivial⟩
  have e : (UInt8.ofNat m.toNat).toNat = m.toNat % 256 := by simp
  simp only [byteRow]
  congr 3
  rw [e]; omega
theorem gdS (hu : P.underlying t = some .string) (h : Good P (n + 1) t avs) : ∃ x : List UInt8, avs = rStr x ∧ wS x := by
  unfold Good at h; rw [hu] at h; obtain ⟨s, rfl, hw⟩ := h; exact ⟨s, rfl, hw⟩
theorem gdL {α : Type} {e : TypeId} {k : Nat} {f : α → List AV} {w : α → Prop} (hu : P.underlying t = some (.slice e)) (hc : P.cellsOf e = k) (he : ∀ {r}, Good P n e r → ∃ x : α, r = f x ∧ w x) (h : Good P (n + 1) t avs) : ∃ x : List α, avs = rL k f x ∧ wL w x := by
  unfold Good at h; rw [hu] at h; obtain ⟨els, rfl, hl, hg⟩ := h
  subst hc
  have key : ∀ els : List (List AV), (∀ r ∈ els, Good P n e r) → ∃ x : List α, els = x.map f ∧ ∀ y ∈ x, w y := by
    intro els
    induction els with
    | nil => intro _; exact ⟨[], rfl, fun y hy => by cases hy⟩
    | cons r els ih =>
      intro h
      obtain ⟨x, rfl, hx⟩ := he (h r (by simp))
      obtain ⟨xs, rfl, hxs⟩ := ih fun r hr => h r (by simp [hr])
      exact ⟨x :: xs, rfl, fun y hy => by
        rcases List.mem_cons.1 hy with rfl | hy
        · exact hx
        · exact hxs y hy⟩
  obtain ⟨x, rfl, hx⟩ := key els hg
  exact ⟨x, rfl, by simpa using hl, hx⟩
theorem gdF {fs : Array Field} (hu : P.underlying t = some (.struct fs)) (h : Good P (n + 1) t avs) : ∃ parts : List (List AV), avs = parts.flatten ∧ parts.length = fs.size ∧ ∀ (i : Nat) f p, fs[i]? = some f → parts[i]? = some p → Good P n f.type p := by
  unfold Good at h; rw [hu] at h; exact h

variable {W : World}
theorem arg_one {av : AV} {v : Value} (h : RowVI W [av] v.cells.toList) (hv : v.cells.toList = [v]) : VI (fun B => B < W.heap.size) W av v := by
  rw [hv] at h
  exact h.2 0 av v rfl rfl
theorem arg_agg {cs : Array Value} (h : RowVI W avs (Value.agg cs).cells.toList) : VI (fun B => B < W.heap.size) W (.agg avs) (.agg cs) := by
  have h1 : (Value.agg cs).cells.toList = cs.toList := rfl
  rw [h1] at h
  refine .agg _ _ (by simpa using h.1.symm) fun i hi => ?_
  have hi' : i < cs.size := by have := h.1; simp at this; omega
  have := h.2 i avs[i] cs[i] (List.getElem?_eq_getElem hi) (by simp [hi'])
  simpa [Array.getD_eq_getD_getElem?, hi'] using this
theorem okWide_struct {r : Reach} {base : Nat} {v : Value} {fs : Array Field} (hu : P.underlying t = some (.struct fs)) (h : Value.okWide P W r base t v) : ∃ cs, v = .agg cs := by
  unfold Value.okWide at h
  rw [hu] at h
  obtain ⟨cs, h1, _⟩ := h
  exact ⟨cs, h1⟩
end
end Go.Proofs.YthhkdanpjcnegaaGreat
