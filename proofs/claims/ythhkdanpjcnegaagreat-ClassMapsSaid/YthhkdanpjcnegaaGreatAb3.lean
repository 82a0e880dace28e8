/- The abstract layer, part 3: reading rows, appends, and what the types say. -/
import Derived.Test.YthhkdanpjcnegaaGreatAb2
import Derived.Deep.AppendSrc
namespace Go.Proofs.YthhkdanpjcnegaaGreat
set_option linter.unusedSimpArgs false
set_option linter.unusedVariables false
set_option linter.unusedSectionVars false

/-! ### Rows of cells that read as abstract values -/
structure Rd (A : Nat → Prop) (m : BM) (nb : Nat) (w : World) (B o k : Nat) (els : List (List AV)) : Prop where
  wide : ∀ i (h : i < els.length), els[i].length = k
  val : ∀ i (h : i < els.length) j (h' : j < els[i].length), ∃ v, w.cell? ⟨B, o + i * k + j, none⟩ = some v ∧ V A m nb w els[i][j] v

theorem Rd.flat {A m nb w B o k els} (h : Rd A m nb w B o k els) : ∃ news : List Value, news.length = els.length * k ∧ (∀ q u, news[q]? = some u → w.cell? ⟨B, o + q, none⟩ = some u) ∧
    ∀ i (hi : i < els.length) j (hj : j < els[i].length), V A m nb w els[i][j] (news.getD (i * k + j) undef) := by
  have key : ∀ q, q < els.length * k → ∃ i j, ∃ (hi : i < els.length) (hj : j < els[i].length), q = i * k + j := fun q hq => by
    have hk : 0 < k := by rcases Nat.eq_zero_or_pos k with h | h; · subst h; omega
                          · exact h
    have hi : q / k < els.length := by rw [Nat.div_lt_iff_lt_mul hk]; exact hq
    exact ⟨q / k, q % k, hi, by rw [h.wide _ hi]; exact Nat.mod_lt _ hk, by rw [Nat.mul_comm]; exact (Nat.div_add_mod q k).symm⟩
  refine ⟨(List.range (els.length * k)).map fun q => (w.cell? ⟨B, o + q, none⟩).getD undef, by simp, fun q u hu => ?_, fun i hi j hj => ?_⟩
  · have hq : q < els.length * k := by
      rcases Nat.lt_or_ge q (els.length * k) with h | h
      · exact h
      · rw [List.getElem?_eq_none (by simpa using h)] at hu; cases hu
    obtain ⟨i, j, hi, hj, rfl⟩ := key q hq
    obtain ⟨v, h1, _⟩ := h.val i hi j hj
    simp [hq, ← Nat.add_assoc, h1] at hu
    rw [← hu, ← Nat.add_assoc]; exact h1
  · obtain ⟨v, h1, h2⟩ := h.val i hi j hj
    have hq : i * k + j < els.length * k := by
      have := mul_lt_of_lt (k := k) (j := j) hi (by rw [← h.wide i hi]; exact hj)
      exact this
    have : ((List.range (els.length * k)).map fun q => (w.cell? ⟨B, o + q, none⟩).getD undef).getD (i * k + j) undef = v := by
      simp [hq, ← Nat.add_assoc, h1]
    rw [this]; exact h2

theorem Rd.sub {A m nb w B o k els} (h : Rd A m nb w B o k els) (i n : Nat) : Rd A m nb w B (o + i * k) k ((els.drop i).take n) := by
  refine ⟨fun q hq => ?_, fun q hq j hj => ?_⟩
  · simp at hq ⊢
    exact h.wide _ (by omega)
  · have hq' := hq
    simp at hq'
    have e : ((els.drop i).take n)[q] = els[i + q]'(by omega) := by simp
    have hj' : j < (els[i + q]'(by omega)).length := by rw [← e]; exact hj
    obtain ⟨v, h1, h2⟩ := h.val (i + q) (by omega) j hj'
    refine ⟨v, ?_, ?_⟩
    · rw [← h1]; congr 2; rw [Nat.add_mul]; omega
    · have e2 : ((els.drop i).take n)[q][j] = (els[i + q]'(by omega))[j] := by simp
      rw [e2]; exact h2

theorem BlkOk.rd {A m nb w b els} (h : BlkOk A m nb w b els) : Rd A m nb w b.B b.o b.k els := ⟨h.wide, h.val⟩

/-! ### The types -/
inductive TK where
  | int (k : IntKind) | bool | str | slc (e : TypeId) | agg (fs : List (Nat × Nat)) | arr (n e : Nat) | ptr (e : TypeId) | other | bad
structure TI where
  k : TK
  size : Nat
  bytes : Nat
  zero : Value

def tkOf (P : Program) : TypeDesc → TK
  | .int k => .int k
  | .bool => .bool
  | .string => .str
  | .slice e => .slc e
  | .struct fs =>
    match fs.toList.mapM (fun f => (P.info? f.type).map fun i => (f.offset, i.size)) with
    | some pl => .agg pl
    | none => .bad
  | .array n e => .arr n e
  | .pointer e => .ptr e
  | _ => .other

def tiOf (P : Program) (t : TypeId) : Option TI :=
  match P.underlying t, P.info? t with
  | some d, some i =>
    match i.zero with
    | some z => if z.cells.size = i.size then some ⟨tkOf P d, i.size, i.bytes, z⟩ else none
    | none => none
  | _, _ => none

theorem tiOf_inv {P t ti} (h : tiOf P t = some ti) : ∃ d i, P.underlying t = some d ∧ P.info? t = some i ∧ i.zero = some ti.zero ∧ i.size = ti.size ∧ i.bytes = ti.bytes ∧ tkOf P d = ti.k ∧ ti.zero.cells.size = ti.size := by
  unfold tiOf at h
  split at h
  · rename_i d i hd hi
    split at h
    · rename_i z hz
      split at h
      · rename_i hs
        cases h
        exact ⟨d, i, hd, hi, hz, rfl, rfl, rfl, hs⟩
      · cases h
    · cases h
  · cases h

theorem tk_slc {P d e} (h : tkOf P d = .slc e) : d = .slice e := by
  cases d <;> simp only [tkOf] at h
  case slice => cases h; rfl
  case struct => split at h <;> cases h
  all_goals cases h
theorem tk_agg {P d fs} (h : tkOf P d = .agg fs) : ∃ f, d = .struct f ∧ f.toList.mapM (fun f => (P.info? f.type).map fun i => (f.offset, i.size)) = some fs := by
  cases d <;> simp only [tkOf] at h
  case struct =>
    split at h
    · rename_i pl hp; cases h; exact ⟨_, rfl, hp⟩
    · cases h
  all_goals cases h
theorem tk_str {P d} (h : tkOf P d = .str) : d = .string := by
  cases d <;> simp only [tkOf] at h
  case string => rfl
  case struct => split at h <;> cases h
  all_goals cases h
theorem tk_int {P d k} (h : tkOf P d = .int k) : d = .int k := by
  cases d <;> simp only [tkOf] at h
  case int => cases h; rfl
  case struct => split at h <;> cases h
  all_goals cases h
theorem tk_bool {P d} (h : tkOf P d = .bool) : d = .bool := by
  cases d <;> simp only [tkOf] at h
  case bool => rfl
  case struct => split at h <;> cases h
  all_goals cases h

def TK.isAgg : TK → Option Bool
  | .agg _ | .arr .. => some true
  | .bad => none
  | _ => some false

theorem run_isAgg {P t ti b} (w : World) (h : tiOf P t = some ti) (ho : ti.k.isAgg = some b) : (isAgg t).run P w = .ok b w := by
  obtain ⟨d, i, hd, _, _, _, _, hk, _⟩ := tiOf_inv h
  simp only [isAgg, Sem.run_bind, run_underlying hd, Result.andThen_ok]
  rw [← hk] at ho
  cases d <;> simp only [tkOf] at ho
  case struct => split at ho <;> cases ho; rfl
  all_goals (cases ho; rfl)

theorem run_sizeOf {P t ti} (w : World) (h : tiOf P t = some ti) : (sizeOf t).run P w = .ok ti.size w := by
  obtain ⟨d, i, _, hi, _, hs, _, _⟩ := tiOf_inv h
  simp [sizeOf, typeInfo, hi, hs]

theorem run_zeroValue {P t ti} (w : World) (h : tiOf P t = some ti) : (zeroValue t).run P w = .ok ti.zero w := by
  obtain ⟨d, i, _, hi, hz, hs, _, _⟩ := tiOf_inv h
  simp [zeroValue, typeInfo, hi, hz]

/-! ### append -/
/-- What a slice holds, in state st. -/
def rowsOf (st : St) (k : Nat) : AV → Option (List (List AV))
  | .isl k' els => if k' = k then some els else none
  | .msl l i n =>
    match st[l]? with
    | some (some (k', els)) => if k' = k ∧ i + n ≤ els.length then some ((els.drop i).take n) else none
    | _ => none
  | .lit (.slice none 0 0) => some []
  | _ => none

/-- A slice of the call's own, or nil: what it holds. -/
def baseOf (st : St) (k : Nat) : AV → Option (List (List AV) × St)
  | .msl l i n =>
    match st[l]? with
    | some (some (k', els)) => if k' = k ∧ i + n ≤ els.length then some ((els.drop i).take n, st.set l none) else none
    | _ => none
  | .lit (.slice none 0 0) => some ([], st)
  | _ => none

theorem rows_sound {A m w st k av els v} (hR : R A m w st) (h : rowsOf st k av = some els) (hv : V A m st.length w av v) :
    (els = [] ∧ ∃ a cap, v = .slice a 0 cap) ∨ ∃ B o cap, v = .slice (some ⟨B, o, none⟩) els.length cap ∧ els.length ≤ cap ∧ Rd A m st.length w B o k els := by
  cases av with
  | isl k' e =>
    simp only [rowsOf] at h
    split at h
    · rename_i hk; cases h; subst hk
      cases hv.isl_inv with
      | isl _ _ B o cap vs hA hcap hk hc hv' =>
        refine .inr ⟨B, o, cap, rfl, hcap, hk, fun i hi j hj => ⟨_, hc i j hi (by rw [← hk i hi]; exact hj), .imm (hv' i hi j hj)⟩⟩
      | inil a cap => exact .inl ⟨rfl, _, _, rfl⟩
    · cases h
  | msl l i n =>
    simp only [rowsOf] at h
    split at h
    · rename_i k' e he
      split at h
      · rename_i hk
        cases h
        obtain ⟨rfl, hin⟩ := hk
        obtain ⟨hl, a, n', cap, rfl, hb⟩ := hv.msl_inv
        obtain ⟨b, h1, h2, h3, h4⟩ := hR.blk l _ e he
        obtain ⟨rfl, h5, h6⟩ := hb b h1
        have hlen : ((e.drop i).take n').length = n' := by simp; omega
        rcases h6 with rfl | ⟨h6, rfl, h7⟩
        · exact .inl ⟨List.eq_nil_of_length_eq_zero (by omega), a, 0, by rw [show n' = 0 by omega]⟩
        · subst h2
          exact .inr ⟨b.B, _, cap, by rw [hlen], by omega, (h3 h6).rd.sub i n'⟩
      · cases h
    · cases h
  | lit x =>
    simp only [rowsOf] at h
    split at h
    · rename_i heq; cases heq
    · rename_i heq; cases heq
    · rename_i heq; cases heq; cases h
      rw [hv.lit_inv]
      exact .inl ⟨rfl, none, 0, rfl⟩
    · cases h
  | _ => simp [rowsOf] at h

def allOne (els : List (List AV)) : Bool := els.all fun r => r.all AV.one

/-- Whatever is appended: rows of abstract values. -/
structure ASrc (A : Nat → Prop) (m : BM) (nb : Nat) (w : World) (P : Program) (k : Nat) (tx : TypeId) (x : Value) (new : List (List AV)) : Prop where
  wide : ∀ i (h : i < new.length), new[i].length = k
  src : ∃ news, Src P k tx x new.length news w ∧ ∀ i (hi : i < new.length) j (hj : j < new[i].length), V A m nb w new[i][j] (news.getD (i * k + j) undef)

theorem getD_append_left {l r : List Value} {q : Nat} (h : q < l.length) : (l ++ r).getD q undef = l.getD q undef := by
  simp [List.getD_eq_getElem?_getD, List.getElem?_append_left h]
theorem getD_append_right {l r : List Value} {q : Nat} : (l ++ r).getD (l.length + q) undef = r.getD q undef := by
  simp [List.getD_eq_getElem?_getD, List.getElem?_append_right]

theorem append_sound {P : Program} {A m w st} (hR : R A m w st) {t tx ty e : TypeId} {ti : TI} {te : TI} (ht : tiOf P t = some ti) (hte : ti.k = .slc e) (he : tiOf P e = some te) (hsz : 0 < te.size)
    {s : AV} {sv x : Value} (hs : V A m st.length w s sv) {old new : List (List AV)} {st1 : St} (hb : baseOf st te.size s = some (old, st1)) (hx : ASrc A m st.length w P te.size tx x new)
    (hfits : (old.length + new.length) * te.bytes ≤ 140737488355328) (h63 : old.length + new.length ≤ 9223372036854775807) :
    ∃ v w' m', (Builtin.append_ #[t, tx] ty #[sv, x]).run P w = .ok v w' ∧ R A m' w' (st1 ++ [some (te.size, old ++ new)]) ∧
      Step A m st.length w A m' (st1 ++ [some (te.size, old ++ new)]).length w' ∧ V A m' (st1 ++ [some (te.size, old ++ new)]).length w' (.msl st.length 0 (old.length + new.length)) v := by
  obtain ⟨d, i0, hd, hi0, _, _, _, hdk, _⟩ := tiOf_inv ht
  rw [hte] at hdk
  have hd' := tk_slc hdk
  subst hd'
  obtain ⟨d2, i, _, hi, hz, hsize, hbytes, _, hzs⟩ := tiOf_inv he
  obtain ⟨news, hsrc, hval⟩ := hx.src
  rw [← hsize] at hsrc
  have hnl := hsrc.newsLen
  rw [hsize] at hnl
  have hwide : ∀ q (h : q < (old ++ new).length), (∀ i (h : i < old.length), old[i].length = te.size) → (old ++ new)[q].length = te.size := fun q hq ho => by
    rw [List.getElem_append]; split
    · exact ho _ _
    · exact hx.wide _ _
  -- the arm that makes a new row
  have grow : ∀ (l : Nat) (sn sc : Nat) (base : Option Addr) (olds : List Value), st1 = st.set l none → sn = old.length → (∀ b, m l = some b → True) →
      (∀ i (h : i < old.length), old[i].length = te.size) → olds.length = old.length * te.size →
      (∀ i (hi : i < old.length) j (hj : j < old[i].length), V A m st.length w old[i][j] (olds.getD (i * te.size + j) undef)) →
      (Builtin.firstCells i.size sn (.slice base sn sc)).run P w.drew = .ok olds.toArray w.drew → sc < sn + new.length →
      ∃ v w' m', (Builtin.append_ #[t, tx] ty #[.slice base sn sc, x]).run P w = .ok v w' ∧ R A m' w' (st1 ++ [some (te.size, old ++ new)]) ∧
      Step A m st.length w A m' (st1 ++ [some (te.size, old ++ new)]).length w' ∧ V A m' (st1 ++ [some (te.size, old ++ new)]).length w' (.msl st.length 0 (old.length + new.length)) v := by
    intro l sn sc base olds hst1 hsn _ how hol hov hfc hlt
    have hr := run_append_grow_src (P := P) w t tx ty e i te.zero hd hi hz base sn sc olds hfc x new.length news hsrc hlt (by omega) (growslice_fits hlt (by rw [hbytes, hsn]; exact hfits))
    refine ⟨_, _, (m.put l none).put st.length (some ⟨true, w.heap.size, 0, te.size, grownCap w (sn + new.length) sc e * te.size⟩), hr, ?_⟩
    subst hst1
    have hcap := grownCap_ge w (sn + new.length) sc e
    have hcl : ((olds ++ news).toArray ++ Builtin.zeroCells te.zero.cells (grownCap w (sn + new.length) sc e - (sn + new.length))).size = grownCap w (sn + new.length) sc e * te.size := by
      simp only [Array.size_append, List.size_toArray, List.length_append, size_zeroCells, hzs, hol, hnl, ← Nat.add_mul]
      congr 1; omega
    have hcell : ∀ off, off < grownCap w (sn + new.length) sc e * te.size → (w.drew.alloc (.cells ((olds ++ news).toArray ++ Builtin.zeroCells te.zero.cells (grownCap w (sn + new.length) sc e - (sn + new.length))) e)).cell? ⟨w.heap.size, off, none⟩ =
        ((olds ++ news).toArray ++ Builtin.zeroCells te.zero.cells (grownCap w (sn + new.length) sc e - (sn + new.length)))[off]? := fun off _ => by
      have := World.cell?_alloc_new w.drew ((olds ++ news).toArray ++ Builtin.zeroCells te.zero.cells (grownCap w (sn + new.length) sc e - (sn + new.length))) e off
      exact this
    have hg : Grow w (w.drew.alloc (.cells ((olds ++ news).toArray ++ Builtin.zeroCells te.zero.cells (grownCap w (sn + new.length) sc e - (sn + new.length))) e)) := (Grow.drew w).trans (Grow.alloc _ _)
    have h := hR.swap l ⟨true, w.heap.size, 0, te.size, grownCap w (sn + new.length) sc e * te.size⟩ (old ++ new) hg.size hg.os hg.tape hg.output (fun B hB _ => hg.heap B hB)
      (fun _ => .inl (Nat.le_refl _)) (fun _ => by show w.heap.size < (w.drew.alloc _).heap.size; rw [World.size_alloc]; exact Nat.lt_succ_self _) (fun h => by cases h)
      (fun _ off ho => by rw [hcell off ho, Array.getElem?_eq_getElem (by rw [hcl]; exact ho)]; exact ⟨_, rfl⟩)
      (fun _ off _ => World.frozen?_alloc_new w.drew _ e off)
      (fun _ => by simp only [List.length_append]; rw [Nat.zero_add]; exact Nat.mul_le_mul_right _ (by omega))
      (fun q hq => hwide q hq how)
      (fun _ q hq j hj => by
        have hj' : j < te.size := by rw [hwide q hq how] at hj; exact hj
        have hqlt : q * te.size + j < grownCap w (sn + new.length) sc e * te.size := by
          refine Nat.lt_of_lt_of_le (mul_lt_of_lt (i := old.length + new.length) (by simpa using hq) hj') (Nat.mul_le_mul_right _ (by omega))
        have hon : q * te.size + j < (olds ++ news).length := by
          simp only [List.length_append, hol, hnl, ← Nat.add_mul]
          exact mul_lt_of_lt (by simpa using hq) hj'
        refine ⟨(olds ++ news).getD (q * te.size + j) undef, ?_, ?_⟩
        · simp only [Nat.zero_add]
          rw [hcell _ hqlt, Array.getElem?_append_left (by simpa using hon)]
          simp only [List.getElem?_toArray, List.getD_eq_getElem?_getD, List.getElem?_eq_getElem hon, Option.getD_some]
        · by_cases hqo : q < old.length
          · have e1 : (old ++ new)[q][j] = old[q][j]'(by rw [how q hqo]; exact hj') := by simp [List.getElem_append_left hqo]
            rw [e1, getD_append_left (by rw [hol]; exact mul_lt_of_lt hqo hj')]
            exact hov q hqo j _
          · have hq2 : q - old.length < new.length := by simp at hq; omega
            have e1 : (old ++ new)[q][j] = (new[q - old.length])[j]'(by rw [hx.wide _ hq2]; exact hj') := by simp [List.getElem_append_right (Nat.le_of_not_lt hqo)]
            rw [e1]
            have e2 : q * te.size + j = olds.length + ((q - old.length) * te.size + j) := by
              rw [hol]
              have : q = old.length + (q - old.length) := by omega
              rw [this, Nat.add_mul]; simp; omega
            rw [e2, getD_append_right]
            exact hval _ hq2 j _)
    have hlen : (st.set l none ++ [some (te.size, old ++ new)]).length = st.length + 1 := by simp
    rw [hlen]
    refine ⟨h.1, h.2, .msl _ _ _ _ _ _ (Nat.lt_succ_self _) fun b hb' => ?_⟩
    simp [BM.put] at hb'
    subst hb'
    exact ⟨by omega, by omega, .inr ⟨rfl, by simp, by simp⟩⟩
  cases s with
  | msl l i' n =>
    simp only [baseOf] at hb
    split at hb
    · rename_i k' els hl
      split at hb
      · rename_i hk
        obtain ⟨rfl, hin⟩ := hk
        cases hb
        obtain ⟨hl', a, n', cap, rfl, hbk⟩ := hs.msl_inv
        obtain ⟨b, h1, h2, h3, h4⟩ := hR.blk l _ els hl
        obtain ⟨rfl, h5, h6⟩ := hbk b h1
        have holen : ((els.drop i').take n').length = n' := by simp; omega
        rcases h6 with rfl | ⟨h6, rfl, h7⟩
        · have h0 : (els.drop i').take n' = [] := List.eq_nil_of_length_eq_zero (by omega)
          by_cases hne : new.length = 0
          · -- nothing is appended to nothing: the slice itself
            have hnews : news = [] := List.eq_nil_of_length_eq_zero (by rw [hnl, hne]; simp)
            have hn0 : n' = 0 := by omega
            subst hn0
            have hr : (Builtin.append_ #[t, tx] ty #[.slice a 0 0, x]).run P w = .ok (.slice a 0 0) w := by
              subst hnews
              have hl := hsrc.len w
              have hc := hsrc.cells
              rw [hne] at hl hc
              rcases hsrc.kind with ⟨e', hk⟩ | hk <;> cases a <;>
                simp [Builtin.append_, run_underlying hd, run_underlying hk, sizeOf, typeInfo, hi, hl, hc, storeCells]
            have hnew : new = [] := List.eq_nil_of_length_eq_zero hne
            subst hnew
            have h := hR.swap l ⟨false, 0, 0, te.size, 0⟩ [] (Nat.le_refl _) rfl rfl rfl (fun _ _ _ => rfl) (fun h => by cases h) (fun h => by cases h) (fun _ => rfl)
              (fun h => by cases h) (fun h => by cases h) (fun h => by cases h) (fun q hq => by cases hq) (fun h => by cases h)
            refine ⟨_, _, (m.put l none).put st.length (some ⟨false, 0, 0, te.size, 0⟩), hr, ?_⟩
            rw [h0]
            have hlen : (st.set l none ++ [some (te.size, ([] ++ [] : List (List AV)))]).length = st.length + 1 := by simp
            rw [hlen]
            refine ⟨h.1, h.2, .msl _ _ _ _ _ _ (Nat.lt_succ_self _) fun b hb' => ?_⟩
            exact ⟨rfl, by simp, .inl rfl⟩
          · refine grow l n' 0 a [] rfl holen.symm (fun _ _ => trivial) (fun q hq => by omega) (by rw [h0]; simp) (fun q hq => by omega) ?_ (by omega)
            rw [show n' = 0 by omega]
            cases a <;> simp [Builtin.firstCells, loadCells, loadCellsFrom]
        · have hok := h3 h6
          have hrd : Rd A m st.length w b.B (b.o + i' * b.k) te.size ((els.drop i').take n') := by rw [← h2]; exact hok.rd.sub i' n'
          by_cases hroom : n' + new.length ≤ cap
          · have hfit : b.o + i' * b.k + n' * te.size + news.length ≤ b.top := by
              rw [hnl, h2]
              have : i' * te.size + (n' * te.size + new.length * te.size) ≤ (i' + cap) * te.size := by
                rw [← Nat.add_mul, ← Nat.add_mul]; exact Nat.mul_le_mul_right _ (by omega)
              rw [h2] at h7; omega
            have hr := run_append_room_src (P := P) w t tx ty e i hd hi b.B (b.o + i' * b.k) n' cap x new.length news hsrc hroom
              (fun j hj => by obtain ⟨u, hu⟩ := hok.there (b.o + i' * b.k + n' * i.size + j) (by rw [hsize]; omega); simp [hu])
              (fun j hj => hok.free _ (by rw [hsize]; omega))
            rw [hsize] at hr
            refine ⟨_, _, (m.put l none).put st.length (some ⟨true, b.B, b.o + i' * b.k, te.size, b.top⟩), hr, ?_⟩
            have hos := setCells_os b.B news (b.o + i' * b.k + n' * te.size) w
            have hsz := setCells_size b.B news (b.o + i' * b.k + n' * te.size) w
            have hthere : ∀ j, j < news.length → ∃ u, w.cell? ⟨b.B, b.o + i' * b.k + n' * te.size + j, none⟩ = some u := fun j hj => hok.there _ (by omega)
            have h := hR.swap l ⟨true, b.B, b.o + i' * b.k, te.size, b.top⟩ ((els.drop i').take n' ++ new) (by rw [hsz]; exact Nat.le_refl _) hos.1 hos.2.1 hos.2.2
              (fun B _ ho => setCells_heap _ _ _ _ _ (fun he' => ho b h1 h6 he'.symm)) (fun _ => .inr ⟨b, h1, h6, rfl⟩) (fun _ => by rw [hsz]; exact hok.low) (fun h => by cases h)
              (fun _ off ho => by obtain ⟨v, hv⟩ := hok.there off ho; exact setCells_there _ _ _ _ hthere off hv)
              (fun _ off ho => by rw [World.frozen?_setCells]; exact hok.free off ho)
              (fun _ => by simp only [List.length_append, holen, Nat.add_mul]; rw [← hnl]; omega)
              (fun q hq => hwide q hq hrd.wide)
              (fun _ q hq j hj => by
                have hj' : j < te.size := by rw [hwide q hq hrd.wide] at hj; exact hj
                by_cases hqo : q < ((els.drop i').take n').length
                · have e1 : ((els.drop i').take n' ++ new)[q][j] = ((els.drop i').take n')[q][j]'(by rw [hrd.wide q hqo]; exact hj') := by
                    simp only [List.getElem_append_left hqo]
                  rw [e1]
                  obtain ⟨v, h8, h9⟩ := hrd.val q hqo j _
                  refine ⟨v, ?_, h9⟩
                  have := mul_lt_of_lt (i' := q) (i := n') (k := te.size) (j := j) (by omega) hj'
                  rw [World.cell?_setCells_out b.B news _ w _ (fun _ _ => .inl (by simp; omega))]
                  exact h8
                · have hq2 : q - ((els.drop i').take n').length < new.length := by simp only [List.length_append] at hq; omega
                  have e1 : ((els.drop i').take n' ++ new)[q][j] = (new[q - ((els.drop i').take n').length])[j]'(by rw [hx.wide _ hq2]; exact hj') := by
                    simp only [List.getElem_append_right (Nat.le_of_not_lt hqo)]
                  rw [e1]
                  have hlt : (q - ((els.drop i').take n').length) * te.size + j < news.length := by rw [hnl]; exact mul_lt_of_lt hq2 hj'
                  have h8 := World.cell?_setCells_in b.B news (b.o + i' * b.k + n' * te.size) w (fun j hj => by obtain ⟨u, hu⟩ := hthere j hj; simp [hu]) _ hlt
                  refine ⟨_, ?_, hval _ hq2 j _⟩
                  rw [List.getD_eq_getElem?_getD, List.getElem?_eq_getElem hlt, Option.getD_some, ← h8]
                  congr 2
                  show b.o + i' * b.k + q * te.size + j = _
                  rw [holen]
                  have : q * te.size = n' * te.size + (q - n') * te.size := by rw [← Nat.add_mul]; congr 1; omega
                  omega)
            have hlen : (st.set l none ++ [some (te.size, (els.drop i').take n' ++ new)]).length = st.length + 1 := by simp
            rw [hlen]
            refine ⟨h.1, h.2, .msl _ _ _ _ _ _ (Nat.lt_succ_self _) fun b' hb' => ?_⟩
            simp [BM.put] at hb'
            subst hb'
            refine ⟨by omega, by omega, .inr ⟨rfl, by simp, ?_⟩⟩
            show b.o + i' * b.k + (0 + cap) * te.size ≤ b.top
            rw [Nat.zero_add, h2]
            rw [h2, Nat.add_mul] at h7
            omega
          · obtain ⟨olds, ho1, ho2, ho3⟩ := hrd.flat
            refine grow l n' cap (some ⟨b.B, b.o + i' * b.k, none⟩) olds rfl holen.symm (fun _ _ => trivial) hrd.wide ho1 ho3 ?_ (by omega)
            refine run_firstCells_some w.drew i.size n' ⟨b.B, b.o + i' * b.k, none⟩ n' cap olds (by rw [ho1, holen, hsize]) fun j v hj => ?_
            have hadd : (⟨b.B, b.o + i' * b.k, none⟩ : Addr).add j = ⟨b.B, b.o + i' * b.k + j, none⟩ := by unfold Addr.add; split <;> simp_all
            rw [hadd]
            simpa using ho2 j v hj
      · cases hb
    · cases hb
  | lit y =>
    have hy : y = .slice none 0 0 ∧ old = [] ∧ st1 = st := by
      simp only [baseOf] at hb
      split at hb
      · rename_i heq; cases heq
      · rename_i heq; cases heq; cases hb; exact ⟨rfl, rfl, rfl⟩
      · cases hb
    obtain ⟨rfl, rfl, rfl⟩ := hy
    have hsv := hs.lit_inv
    subst hsv
    by_cases hne : new.length = 0
    · have hnews : news = [] := List.eq_nil_of_length_eq_zero (by rw [hnl, hne]; simp)
      have hr : (Builtin.append_ #[t, tx] ty #[.slice none 0 0, x]).run P w = .ok (.slice none 0 0) w := by
        subst hnews
        have hl := hsrc.len w
        have hc := hsrc.cells
        rw [hne] at hl hc
        rcases hsrc.kind with ⟨e', hk⟩ | hk <;>
          simp [Builtin.append_, run_underlying hd, run_underlying hk, sizeOf, typeInfo, hi, hl, hc]
      have hnew : new = [] := List.eq_nil_of_length_eq_zero hne
      subst hnew
      have h := hR.push (Grow.refl w) ⟨false, 0, 0, te.size, 0⟩ [] (fun h => by cases h) (fun _ => rfl)
        (fun h => by cases h) (fun h => by cases h) (fun h => by cases h) (fun q hq => by cases hq) (fun h => by cases h)
      refine ⟨_, _, m.put st1.length (some ⟨false, 0, 0, te.size, 0⟩), hr, ?_⟩
      have hlen : (st1 ++ [some (te.size, ([] ++ [] : List (List AV)))]).length = st1.length + 1 := by simp
      rw [hlen]
      exact ⟨h.1, h.2, .msl _ _ _ _ _ _ (Nat.lt_succ_self _) fun b hb' => ⟨rfl, by simp, .inl rfl⟩⟩
    · refine grow st1.length 0 0 none [] (List.set_eq_of_length_le (Nat.le_refl _)).symm rfl (fun _ _ => trivial) (fun q hq => by simp at hq) (by simp) (fun q hq => by simp at hq) ?_ (by omega)
      simp [Builtin.firstCells]
  | _ => simp [baseOf] at hb

end Go.Proofs.YthhkdanpjcnegaaGreat
