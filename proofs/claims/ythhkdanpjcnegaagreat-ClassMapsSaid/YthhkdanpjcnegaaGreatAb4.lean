/- The abstract layer, part 4: the operations that are no calls, one by one. -/
import Derived.Test.YthhkdanpjcnegaaGreatAb3
namespace Go.Proofs.YthhkdanpjcnegaaGreat
set_option linter.unusedSimpArgs false
set_option linter.unusedVariables false
set_option linter.unusedSectionVars false

abbrev Ev := List (Nat × AV)
def look : Ev → Nat → Option AV
  | [], _ => none
  | (k, v) :: r, t => if k = t then some v else look r t

def ev (env : Ev) : Operand → Option AV
  | .tmp t => look env t
  | .const v => some (.lit v)
  | .func f => some (.fn (.func f) [] [])
  | .global _ => none

structure Env (A : Nat → Prop) (m : BM) (nb : Nat) (w : World) (n : Nat) (env : Ev) (a : Act) : Prop where
  size : a.tmps.size = n
  val : ∀ t v, look env t = some v → t < n ∧ V A m nb w v (a.tmps.getD t undef)
  defers : a.defers = []

theorem ev_sound {A m nb w n env a x v} (h : Env A m nb w n env a) (hx : ev env x = some v) : V A m nb w v (a.eval x) := by
  cases x with
  | tmp t => exact (h.val t v hx).2
  | const c => cases hx; exact .imm (.lit c)
  | func f =>
    cases hx
    exact .imm (.fn _ _ _ _ _ rfl (fun i hi => by cases hi) rfl (fun i hi => by cases hi))
  | global g => cases hx

theorem Env.step {A A' m m' nb' w w' st n env a} (h : Env A m st.length w n env a) (hR : R A m w st) (hS : Step A m st.length w A' m' nb' w') : Env A' m' nb' w' n env a :=
  ⟨h.size, fun t v ht => ⟨(h.val t v ht).1, (h.val t v ht).2.step hR hS⟩, h.defers⟩

theorem Env.put {A m nb w n env a d av v} (h : Env A m nb w n env a) (hd : d < n) (hv : V A m nb w av v) : Env A m nb w n ((d, av) :: env) (a.put (some d) v) := by
  refine ⟨by simp [Act.put, h.size], fun t u ht => ?_, h.defers⟩
  simp only [look] at ht
  split at ht
  · rename_i e; subst e; cases ht
    refine ⟨hd, ?_⟩
    have : (a.put (some d) v).tmps.getD d undef = v := by simp [Act.put, h.size, hd]
    rw [this]; exact hv
  · rename_i e
    obtain ⟨h1, h2⟩ := h.val t u ht
    refine ⟨h1, ?_⟩
    have : (a.put (some d) v).tmps.getD t undef = a.tmps.getD t undef := by simp [Act.put, Array.getElem?_setIfInBounds_ne e]
    rw [this]; exact h2

theorem Env.none {A m nb w n env a v} (h : Env A m nb w n env a) : Env A m nb w n env (a.put none v) := h

/-- Fewer things are known. -/
theorem Env.less {A m nb w n env env' a} (h : Env A m nb w n env a) (hs : ∀ t v, look env' t = some v → look env t = some v) : Env A m nb w n env' a :=
  ⟨h.size, fun t v ht => h.val t v (hs t v ht), h.defers⟩

/-- The cells of a value. -/
def cellsA : AV → Option (List AV)
  | .agg cs => if cs.all AV.one then some cs else none
  | .any | .tup _ => none
  | .lit v => if v.oneCell' then some [.lit v] else none
  | x => some [x]

theorem cells_sound {A m nb w av cs v} (h : cellsA av = some cs) (hv : V A m nb w av v) : VL A m nb w cs v.cells ∧ (∀ u ∈ v.cells, u.oneCell' = true) := by
  have one1 : ∀ u : Value, u.oneCell' = true → u.cells = #[u] := fun u hu => by cases u <;> first | rfl | cases hu
  have mk1 : ∀ x u, V A m nb w x u → x.one = true → VL A m nb w [x] u.cells ∧ (∀ y ∈ u.cells, y.oneCell' = true) := fun x u hxu h1 => by
    have ho := hxu.one h1
    rw [one1 u ho]
    refine ⟨⟨rfl, fun i hi => ?_⟩, fun y hy => by simp at hy; rw [hy]; exact ho⟩
    have : i = 0 := by simp at hi; exact hi
    subst this; exact hxu
  cases av with
  | any => cases h
  | tup _ => cases h
  | lit x =>
    simp only [cellsA] at h
    split at h
    · rename_i h1; cases h; exact mk1 _ _ hv (by simpa [AV.one] using h1)
    · cases h
  | agg ds =>
    simp only [cellsA] at h
    split at h
    · rename_i h1; cases h
      obtain ⟨a, rfl, hs, ha⟩ := hv.agg_inv
      refine ⟨⟨hs, ha⟩, fun u hu => ?_⟩
      obtain ⟨i, hi, rfl⟩ := Array.mem_iff_getElem.1 hu
      have hi' : i < cs.length := by rw [← hs]; exact hi
      have := (ha i hi').one (by rw [List.all_eq_true] at h1; exact h1 _ (List.getElem_mem hi'))
      have e : (Value.agg a).cells[i] = a.getD i undef := by
        have hi2 : i < a.size := hi
        simp [Value.cells, Array.getD_eq_getD_getElem?, hi2]
      rw [e]; exact this
    · cases h
  | isl _ _ => cases h; exact mk1 _ _ hv rfl
  | ipt _ _ _ _ => cases h; exact mk1 _ _ hv rfl
  | msl _ _ _ => cases h; exact mk1 _ _ hv rfl
  | mpt _ _ _ => cases h; exact mk1 _ _ hv rfl
  | fn _ _ _ => cases h; exact mk1 _ _ hv rfl

/-- What stands behind a pointer: its row, the place in it. -/
def rowAt (st : St) : AV → Option (List AV × Nat)
  | .mpt l i j =>
    match st[l]? with
    | some (some (_, els)) => (els[i]?).map (·, j)
    | _ => none
  | .ipt _ els i j => (els[i]?).map (·, j)
  | _ => none

theorem rowAt_sound {A m w st av r j v} (hR : R A m w st) (h : rowAt st av = some (r, j)) (hv : V A m st.length w av v) :
    ∃ B o, v = .pointer (some ⟨B, o + j, none⟩) ∧ ∀ q (hq : q < r.length), ∃ u, w.cell? ⟨B, o + q, none⟩ = some u ∧ V A m st.length w r[q] u := by
  cases av with
  | mpt l i j' =>
    simp only [rowAt] at h
    split at h
    · rename_i k els he
      cases hi : els[i]? with
      | none => rw [hi] at h; cases h
      | some r' =>
        rw [hi] at h; cases h
        obtain ⟨hl, a, rfl, hb⟩ := hv.mpt_inv
        obtain ⟨b, h1, h2, h3, h4⟩ := hR.blk l k els he
        obtain ⟨hh, rfl⟩ := hb b h1
        obtain ⟨hi1, hi2⟩ := List.getElem?_eq_some_iff.1 hi
        refine ⟨b.B, b.o + i * b.k, rfl, fun q hq => ?_⟩
        subst hi2
        exact (h3 hh).val i hi1 q hq
    · cases h
  | ipt k els i j' =>
    simp only [rowAt] at h
    cases hi : els[i]? with
    | none => rw [hi] at h; cases h
    | some r' =>
      rw [hi] at h; cases h
      obtain ⟨hi1, hi2⟩ := List.getElem?_eq_some_iff.1 hi
      cases hv.ipt_inv with
      | ipt _ _ _ _ B o vs hA hk hc hv' =>
        refine ⟨B, o + i * k, rfl, fun q hq => ?_⟩
        subst hi2
        exact ⟨vs i q, hc i q hi1 (by rw [← hk i hi1]; exact hq), .imm (hv' i hi1 q hq)⟩
  | _ => simp [rowAt] at h

/-- An operation that is no call has gone well. -/
def OpOk (P : Program) (A : Nat → Prop) (m : BM) (w : World) (st : St) (r : Result Next) (av : AV) (st' : St) : Prop :=
  ∃ nx v w' m', r = .ok nx w' ∧ (nx = .value v ∨ (nx = .skip ∧ v = undef)) ∧ R A m' w' st' ∧ Step A m st.length w A m' st'.length w' ∧ V A m' st'.length w' av v

theorem opOk_pure {P A m w st av v} (hR : R A m w st) (hv : V A m st.length w av v) : OpOk P A m w st (.ok (.value v) w) av st :=
  ⟨_, v, w, m, rfl, .inl rfl, hR, Step.refl _ _ _ _, hv⟩

/-! ### load, store -/
def aload (st : St) (ti : TI) (p : AV) : Option AV :=
  match rowAt st p, ti.k.isAgg with
  | some (r, j), some true => if j + ti.size ≤ r.length then some (.agg ((r.drop j).take ti.size)) else none
  | some (r, j), some false => r[j]?
  | _, _ => none

theorem addr_add (B o n : Nat) : (⟨B, o, none⟩ : Addr).add n = ⟨B, o + n, none⟩ := by unfold Addr.add; split <;> simp_all

theorem loadVar_sound {P : Program} {A : Nat → Prop} {m : BM} {w : World} {st : St} {t : TypeId} {ti : TI} {v : AV} {B o : Nat} {r : List AV} {j : Nat} (ht : tiOf P t = some ti)
    (hrow : ∀ q (hq : q < r.length), ∃ u, w.cell? ⟨B, o + q, none⟩ = some u ∧ V A m st.length w r[q] u)
    (h : (match ti.k.isAgg with | some true => if j + ti.size ≤ r.length then some (.agg ((r.drop j).take ti.size)) else none | some false => r[j]? | none => none) = some v) :
    ∃ u, (loadVar t ⟨B, o + j, none⟩).run P w = .ok u w ∧ V A m st.length w v u := by
  cases ha : ti.k.isAgg with
  | none => rw [ha] at h; cases h
  | some b =>
    have hia := run_isAgg w ht ha
    have hso := run_sizeOf w ht
    rw [ha] at h
    cases b with
    | false =>
      simp only at h
      obtain ⟨hj, rfl⟩ := List.getElem?_eq_some_iff.1 h
      obtain ⟨u, h1, h2⟩ := hrow j hj
      exact ⟨u, by simp [loadVar, hia, h1], h2⟩
    | true =>
      simp only at h
      split at h
      · rename_i hle
        cases h
        have hcell : ∀ q, q < ti.size → ∃ u, w.cell? ⟨B, o + j + q, none⟩ = some u := fun q hq => by
          obtain ⟨u, h1, _⟩ := hrow (j + q) (by omega)
          exact ⟨u, by rw [Nat.add_assoc]; exact h1⟩
        have hl := run_loadCells (P := P) w ⟨B, o + j, none⟩ ti.size (fun q => (w.cell? ⟨B, o + j + q, none⟩).getD undef) (fun q hq => by
          rw [addr_add]; obtain ⟨u, h1⟩ := hcell q hq; rw [h1]; rfl)
        refine ⟨.agg ((List.range ti.size).map fun q => (w.cell? ⟨B, o + j + q, none⟩).getD undef).toArray, by simp [loadVar, hia, hso, hl], .agg _ _ (by simp; omega) fun i hi => ?_⟩
        have hi' : i < ti.size := by simp at hi; omega
        obtain ⟨u, h1, h2⟩ := hrow (j + i) (by omega)
        have e1 : ((r.drop j).take ti.size)[i] = r[j + i]'(by omega) := by simp
        rw [e1]
        have e2 : (((List.range ti.size).map fun q => (w.cell? ⟨B, o + j + q, none⟩).getD undef).toArray).getD i undef = u := by
          simp [hi']; rw [Nat.add_assoc, h1]; rfl
        rw [e2]; exact h2
      · cases h

theorem op_load {P : Program} {A : Nat → Prop} {m : BM} {w : World} {st : St} {t : TypeId} {ti : TI} {p av : AV} {v : Value} (hR : R A m w st) (ht : tiOf P t = some ti) (hp : V A m st.length w p v) (h : aload st ti p = some av) :
    ∃ u, (Instr.loadAt t v).run P w = .ok u w ∧ V A m st.length w av u := by
  unfold aload at h
  cases hr : rowAt st p with
  | none => rw [hr] at h; cases h
  | some rj =>
    obtain ⟨r, j⟩ := rj
    obtain ⟨B, o, rfl, hrow⟩ := rowAt_sound hR hr hp
    have h' : (match ti.k.isAgg with | some true => if j + ti.size ≤ r.length then some (.agg ((r.drop j).take ti.size)) else none | some false => r[j]? | none => none) = some av := by
      rw [hr] at h
      revert h
      cases ti.k.isAgg with
      | none => intro h; cases h
      | some b => cases b <;> (intro h; exact h)
    obtain ⟨u, h1, h2⟩ := loadVar_sound (P := P) ht hrow h'
    exact ⟨u, by simp [Instr.loadAt, Instr.sureAddr, h1], h2⟩

def astore (st : St) (ti : TI) (p x : AV) : Option St :=
  match p, cellsA x with
  | .mpt l i j, some cs =>
    match st[l]? with
    | some (some (k, els)) => if i < els.length ∧ j + cs.length ≤ k ∧ cs.length = ti.size then some (st.set l (some (k, setRow els i j cs))) else none
    | _ => none
  | _, _ => none

theorem op_store {P A m w st t ti p x pv xv st'} (hR : R A m w st) (ht : tiOf P t = some ti) (hp : V A m st.length w p pv) (hx : V A m st.length w x xv) (h : astore st ti p x = some st') :
    ∃ w', (Instr.storeAt t pv xv).run P w = .ok () w' ∧ R A m w' st' ∧ Step A m st.length w A m st'.length w' := by
  unfold astore at h
  split at h
  · rename_i l i j cs hcs
    split at h
    · rename_i k els he
      split at h
      · rename_i hc
        obtain ⟨hi, hj, hsz⟩ := hc
        cases h
        obtain ⟨hvl, hone⟩ := cells_sound hcs hx
        obtain ⟨hl, a, rfl, hb⟩ := hp.mpt_inv
        obtain ⟨b, h1, h2, h3, h4⟩ := hR.blk l k els he
        obtain ⟨hh, rfl⟩ := hb b h1
        have hok := h3 hh
        have hvsl : xv.cells.toList.length = cs.length := by simpa using hvl.1
        have hst := hR.store he h1 hh i j cs xv.cells.toList hi hj hvsl (fun q hq => by
          have := hvl.2 q hq
          rwa [show xv.cells.toList.getD q undef = xv.cells.getD q undef by simp [List.getD_eq_getElem?_getD, Array.getD_eq_getD_getElem?]])
        have hfit := hok.fit
        have hin : b.o + i * b.k + j + cs.length ≤ b.top := by
          have h5 : (i + 1) * b.k ≤ els.length * b.k := Nat.mul_le_mul_right _ hi
          rw [Nat.add_mul, Nat.one_mul] at h5
          omega
        have hrun := run_storeCells_cells (P := P) b.B (b.o + i * b.k + j) xv.cells.toList 0 w
          (fun q hq => by obtain ⟨u, hu⟩ := hok.there (b.o + i * b.k + j + 0 + q) (by omega); simp only [hu]; rfl)
          (fun q hq => hok.free _ (by omega)) (fun u hu => hone u (by simpa using hu))
        simp only [Nat.add_zero] at hrun
        refine ⟨_, ?_, hst.1, by simpa using hst.2⟩
        have hso := run_sizeOf w ht
        have hsz' : xv.cells.size = ti.size := by rw [← hsz]; exact hvl.1
        simp [Instr.storeAt, Instr.sureAddr, storeVar, hso, hsz', hrun]
      · cases h
    · cases h
  · cases h

/-! ### New variables -/
theorem push_row {A m w st} (hR : R A m w st) (e : TypeId) (c : Array Value) (cs : List AV) (hv : VL A m st.length w cs c) :
    R A (m.put st.length (some ⟨true, w.heap.size, 0, cs.length, cs.length⟩)) (w.alloc (.cells c e)) (st ++ [some (cs.length, [cs])]) ∧
      Step A m st.length w A (m.put st.length (some ⟨true, w.heap.size, 0, cs.length, cs.length⟩)) (st ++ [some (cs.length, [cs])]).length (w.alloc (.cells c e)) ∧
      V A (m.put st.length (some ⟨true, w.heap.size, 0, cs.length, cs.length⟩)) (st ++ [some (cs.length, [cs])]).length (w.alloc (.cells c e)) (.mpt st.length 0 0) (.pointer (some ⟨w.heap.size, 0, none⟩)) := by
  have hcell : ∀ off, off < cs.length → (w.alloc (.cells c e)).cell? ⟨w.heap.size, off, none⟩ = some (c.getD off undef) := fun off ho => by
    have := World.cell?_alloc_new w c e off
    rw [this, Array.getElem?_eq_getElem (by rw [hv.1]; exact ho)]
    simp [Array.getD_eq_getD_getElem?, hv.1, ho]
  have h := hR.push (Grow.alloc w (.cells c e)) ⟨true, w.heap.size, 0, cs.length, cs.length⟩ [cs] (fun _ => ⟨Nat.le_refl _, by simp⟩) (fun h => by cases h)
    (fun _ off ho => ⟨_, hcell off ho⟩) (fun _ off _ => World.frozen?_alloc_new w c e off) (fun _ => by simp) (fun i hi => by simp)
    (fun _ i hi j hj => by
      have : i = 0 := by simp at hi; exact hi
      subst this
      exact ⟨_, by simpa using hcell j hj, hv.2 j hj⟩)
  have hlen : (st ++ [some (cs.length, [cs])]).length = st.length + 1 := by simp
  rw [hlen]
  refine ⟨h.1, h.2, .mpt _ _ _ _ (Nat.lt_succ_self _) fun b hb => ?_⟩
  simp [BM.put] at hb
  subst hb
  exact ⟨rfl, by simp⟩

def litCells (z : Value) : List AV := z.cells.toList.map .lit

theorem litCells_VL (A m nb w) (z : Value) : VL A m nb w (litCells z) z.cells :=
  ⟨by simp [litCells], fun i hi => by
    have hi' : i < z.cells.size := by simpa [litCells] using hi
    have : z.cells.getD i undef = z.cells[i] := by simp [Array.getD_eq_getD_getElem?, hi']
    rw [this]
    have : (litCells z)[i] = .lit z.cells[i] := by simp [litCells]
    rw [this]
    exact .imm (.lit _)⟩

theorem op_alloc {P A m w st t ti} (hR : R A m w st) (ht : tiOf P t = some ti) :
    ∃ w' m', (Instr.alloc t true (.tuple #[])).run P w = .ok (.pointer (some ⟨w.heap.size, 0, none⟩)) w' ∧ R A m' w' (st ++ [some (ti.size, [litCells ti.zero])]) ∧
      Step A m st.length w A m' (st ++ [some (ti.size, [litCells ti.zero])]).length w' ∧ V A m' (st ++ [some (ti.size, [litCells ti.zero])]).length w' (.mpt st.length 0 0) (.pointer (some ⟨w.heap.size, 0, none⟩)) := by
  obtain ⟨_, _, _, _, _, _, _, _, hzs⟩ := tiOf_inv ht
  have hl : (litCells ti.zero).length = ti.size := by simp [litCells, hzs]
  have h := push_row hR t ti.zero.cells (litCells ti.zero) (litCells_VL _ _ _ _ _)
  rw [hl] at h
  exact ⟨_, _, by simp [Instr.alloc, run_zeroValue w ht, newVar, newRow], h⟩

theorem op_box {P A m w st t x xv cs} (hR : R A m w st) (hx : V A m st.length w x xv) (hcs : cellsA x = some cs) :
    ∃ w' m', (Instr.box t xv).run P w = .ok (.pointer (some ⟨w.heap.size, 0, none⟩)) w' ∧ R A m' w' (st ++ [some (cs.length, [cs])]) ∧
      Step A m st.length w A m' (st ++ [some (cs.length, [cs])]).length w' ∧ V A m' (st ++ [some (cs.length, [cs])]).length w' (.mpt st.length 0 0) (.pointer (some ⟨w.heap.size, 0, none⟩)) :=
  ⟨_, _, by simp [Instr.box, newVar, newRow], push_row hR t xv.cells cs (cells_sound hcs hx).1⟩

/-! ### Addresses -/
def afield (ti : TI) (p : AV) (f : Nat) : Option AV :=
  match ti.k with
  | .agg fs =>
    match fs[f]? with
    | some (off, sz) => if sz = 0 then none else
      match p with
      | .mpt l i j => some (.mpt l i (j + off))
      | .ipt k els i j => some (.ipt k els i (j + off))
      | _ => none
    | none => none
  | _ => none

/-- Is the block there? -/
def alive (st : St) : AV → Bool
  | .mpt l _ _ => match st[l]? with | some (some _) => true | _ => false
  | .ipt .. => true
  | .fn (.func _) _ _ => true
  | _ => false

theorem alive_ptr {A m w st l i j v} (hR : R A m w st) (h : alive st (.mpt l i j) = true) (hv : V A m st.length w (.mpt l i j) v) : ∃ b, m l = some b ∧ b.has = true ∧ v = .pointer (some ⟨b.B, b.o + i * b.k + j, none⟩) := by
  simp only [alive] at h
  split at h
  · rename_i x he
    obtain ⟨k, els⟩ := x
    obtain ⟨hl, a, rfl, hb⟩ := hv.mpt_inv
    obtain ⟨b, h1, h2, h3, h4⟩ := hR.blk l k els he
    obtain ⟨hh, rfl⟩ := hb b h1
    exact ⟨b, h1, hh, rfl⟩
  · cases h

theorem mapM_get {α β : Type} {f : α → Option β} : ∀ {l : List α} {r : List β}, l.mapM f = some r → ∀ (i : Nat) (y : β), r[i]? = some y → ∃ x : α, l[i]? = some x ∧ f x = some y
  | [], r, h, i, y, hy => by simp at h; subst h; cases hy
  | x :: l, r, h, i, y, hy => by
    simp only [List.mapM_cons, Option.bind_eq_bind, Option.pure_def] at h
    cases hf : f x with
    | none => simp [hf] at h
    | some b =>
      cases hr : l.mapM f with
      | none => simp [hf, hr] at h
      | some r' =>
        simp [hf, hr] at h
        subst h
        cases i with
        | zero => simp at hy; subst hy; exact ⟨x, rfl, hf⟩
        | succ i => simp at hy; obtain ⟨x', h1, h2⟩ := mapM_get hr i y hy; exact ⟨x', by simpa using h1, h2⟩

theorem op_field {P A m w st t ti p pv f av} (hR : R A m w st) (ht : tiOf P t = some ti) (hp : V A m st.length w p pv) (hal : alive st p = true) (h : afield ti p f = some av) :
    ∃ u, (Instr.fieldAt t pv f).run P w = .ok u w ∧ V A m st.length w av u := by
  unfold afield at h
  split at h
  · rename_i fs hk
    split at h
    · rename_i off sz hf
      split at h
      · cases h
      · rename_i hsz
        obtain ⟨d, i0, hd, _, _, _, _, hdk, _⟩ := tiOf_inv ht
        rw [hk] at hdk
        obtain ⟨flds, rfl, hm⟩ := tk_agg hdk
        obtain ⟨fld, h1, h2⟩ := mapM_get hm f _ hf
        have h1' : flds[f]? = some fld := by simpa using h1
        cases hi : P.info? fld.type with
        | none => rw [hi] at h2; cases h2
        | some fi =>
          rw [hi] at h2
          simp at h2
          obtain ⟨h3, h4⟩ := h2
          have run : ∀ B o, (Instr.fieldAt t (.pointer (some ⟨B, o, none⟩)) f).run P w = .ok (.pointer (some ⟨B, o + off, none⟩)) w := fun B o => by
            have hz : ¬ (fi.size = 0) := by rw [h4]; exact hsz
            simp [Instr.fieldAt, run_underlying hd, h1', Instr.sureAddr, fieldPlace, sizeOf, typeInfo, hi, hz, h3, addr_add]
          split at h
          · rename_i l i j
            cases h
            obtain ⟨b, h5, h6, rfl⟩ := alive_ptr hR hal hp
            refine ⟨_, run _ _, .mpt _ _ _ _ (hR.lt h5) fun b' hb' => ?_⟩
            have : b' = b := Option.some.inj (hb'.symm.trans h5)
            subst this
            exact ⟨h6, by simp [Nat.add_assoc]⟩
          · rename_i k els i j
            cases h
            cases hp.ipt_inv with
            | ipt _ _ _ _ B o vs hA hk hc hv' =>
              refine ⟨_, run _ _, .imm ?_⟩
              rw [Nat.add_assoc (o + i * k)]
              exact .ipt k els i (j + off) B o vs hA hk hc hv'
          · cases h
    · cases h
  · cases h

def aindex (st : St) (sz : Nat) (x : AV) (i : Int) : Option AV :=
  match x with
  | .isl k els => if k = sz ∧ 0 ≤ i ∧ i < els.length then some (.ipt k els i.toNat 0) else none
  | .msl l o n =>
    match st[l]? with
    | some (some (k, _)) => if k = sz ∧ 0 ≤ i ∧ i < n then some (.mpt l (o + i.toNat) 0) else none
    | _ => none
  | _ => none

theorem op_index {P A m w st t e ti te x xv k i av} (hR : R A m w st) (ht : tiOf P t = some ti) (hte : ti.k = .slc e) (he : tiOf P e = some te) (hx : V A m st.length w x xv) (h : aindex st te.size x i = some av) :
    ∃ u, (Instr.indexAt t xv (.int k i)).run P w = .ok u w ∧ V A m st.length w av u := by
  obtain ⟨d, i0, hd, _, _, _, _, hdk, _⟩ := tiOf_inv ht
  rw [hte] at hdk
  have := tk_slc hdk
  subst this
  have hso := run_sizeOf w he
  have run : ∀ (B o n c : Nat), 0 ≤ i → i < (n : Int) → (Instr.indexAt t (.slice (some ⟨B, o, none⟩) n c) (.int k i)).run P w = .ok (.pointer (some ⟨B, o + i.toNat * te.size, none⟩)) w := fun B o n c h1 h2 => by
    simp [Instr.indexAt, asIntOf, run_underlying hd, h1, h2, hso, addr_add]
  cases x with
  | isl k' els =>
    simp only [aindex] at h
    split at h
    · rename_i hc
      obtain ⟨rfl, h1, h2⟩ := hc
      cases h
      cases hx.isl_inv with
      | isl _ _ B o cap vs hA hcap hk hcell hv' =>
        exact ⟨_, run B o _ cap h1 h2, .imm (.ipt te.size els i.toNat 0 B o vs hA hk hcell hv')⟩
      | inil a cap => simp at h2; omega
    · cases h
  | msl l o n =>
    simp only [aindex] at h
    split at h
    · rename_i k' els he'
      split at h
      · rename_i hc
        obtain ⟨rfl, h1, h2⟩ := hc
        cases h
        obtain ⟨hl, a, n', cap, rfl, hb⟩ := hx.msl_inv
        obtain ⟨b, h3, h4, h5, h6⟩ := hR.blk l _ els he'
        obtain ⟨rfl, h7, h8⟩ := hb b h3
        rcases h8 with rfl | ⟨h8, rfl, h9⟩
        · omega
        · refine ⟨_, run _ _ _ cap h1 h2, .mpt _ _ _ _ hl fun b' hb' => ?_⟩
          have : b' = b := Option.some.inj (hb'.symm.trans h3)
          subst this
          refine ⟨h8, ?_⟩
          rw [h4, Nat.add_mul]
          simp [Nat.add_assoc]
      · cases h
    · cases h
  | _ => simp [aindex] at h

/-! ### Slices of slices -/
def asub (st : St) (sz : Nat) (x : AV) (lo hi : Nat) : Option AV :=
  match x with
  | .isl k els => if k = sz ∧ lo ≤ hi ∧ hi ≤ els.length then some (.isl k ((els.drop lo).take (hi - lo))) else none
  | .msl l o n =>
    match st[l]? with
    | some (some (k, _)) => if k = sz ∧ lo ≤ hi ∧ hi ≤ n then some (.msl l (o + lo) (hi - lo)) else none
    | _ => none
  | _ => none

def alen : AV → Option Nat
  | .isl _ els => some els.length
  | .msl _ _ n => some n
  | .lit (.slice none 0 0) => some 0
  | .lit (.string s) => some s.size
  | _ => none

theorem sub_value {P : Program} {w : World} {t e : TypeId} {ti te : TI} {a : Option Addr} {n cap lo hi : Nat} (ht : tiOf P t = some ti) (hte : ti.k = .slc e) (he : tiOf P e = some te) (h1 : lo ≤ hi) (h2 : hi ≤ cap) (ol oh : Option Value)
    (hlo : ol = some (.int .i64 lo) ∨ (ol = none ∧ lo = 0)) (hhi : oh = some (.int .i64 hi) ∨ (oh = none ∧ hi = n)) :
    (Instr.sliceAt t (.slice a n cap) ol oh none).run P w = .ok (.slice (if cap = lo then a else a.map (·.add (lo * te.size))) (hi - lo) (cap - lo)) w := by
  obtain ⟨d, i0, hd, _, _, _, _, hdk, _⟩ := tiOf_inv ht
  rw [hte] at hdk
  have := tk_slc hdk
  subst this
  have hso := run_sizeOf w he
  rcases hlo with rfl | ⟨rfl, rfl⟩ <;> rcases hhi with rfl | ⟨rfl, rfl⟩ <;>
    simp [Instr.sliceAt, Instr.slice, run_underlying hd, Instr.sliceBounds, Instr.sliceBound, asIntOf, hso, h1, h2]

theorem op_sub {P A m w st t e ti te x xv lo hi av} (hR : R A m w st) (ht : tiOf P t = some ti) (hte : ti.k = .slc e) (he : tiOf P e = some te) (hx : V A m st.length w x xv)
    (h : asub st te.size x lo hi = some av) (ol oh : Option Value) (hlo : ol = some (.int .i64 lo) ∨ (ol = none ∧ lo = 0)) (hhi : oh = some (.int .i64 hi) ∨ (oh = none ∧ alen x = some hi)) :
    ∃ u, (Instr.sliceAt t xv ol oh none).run P w = .ok u w ∧ V A m st.length w av u := by
  cases x with
  | isl k els =>
    simp only [asub] at h
    split at h
    · rename_i hc
      obtain ⟨rfl, h1, h2⟩ := hc
      cases h
      have hl : ((els.drop lo).take (hi - lo)).length = hi - lo := by simp; omega
      cases hx.isl_inv with
      | isl _ _ B o cap vs hA hcap hk hcell hv' =>
        refine ⟨_, sub_value ht hte he h1 (by omega) ol oh hlo (hhi.imp id fun ⟨h3, h4⟩ => ⟨h3, by simp [alen] at h4; omega⟩), .imm ?_⟩
        by_cases hcl : cap = lo
        · have : hi - lo = 0 := by omega
          rw [if_pos hcl, this]
          exact .inil _ _ _
        · rw [if_neg hcl]
          have := VI.isl (A := A) (w := w) te.size ((els.drop lo).take (hi - lo)) B (o + lo * te.size) (cap - lo) (fun i j => vs (lo + i) j) hA (by omega)
            (fun i hi' => by rw [hl] at hi'; simp; exact hk _ (by omega))
            (fun i j hi' hj => by
              rw [hl] at hi'
              rw [← hcell (lo + i) j (by omega) hj]
              congr 2; rw [Nat.add_mul]; omega)
            (fun i hi' j hj => by
              have hi2 := hi'
              rw [hl] at hi2
              have e1 : ((els.drop lo).take (hi - lo))[i] = els[lo + i]'(by omega) := by simp
              have e2 : ((els.drop lo).take (hi - lo))[i][j] = (els[lo + i]'(by omega))[j]'(by rw [← e1]; exact hj) := by simp
              rw [e2]
              exact hv' _ _ _ _)
          rw [hl] at this
          simpa [addr_add] using this
      | inil a cap =>
        refine ⟨_, sub_value ht hte he h1 (by simp at h2; omega) ol oh hlo (hhi.imp id fun ⟨h3, h4⟩ => ⟨h3, by simp [alen] at h4; omega⟩), .imm ?_⟩
        have e0 : hi - lo = 0 := by simp at h2; omega
        rw [e0]
        simp only [List.take_zero]
        exact .inil _ _ _
    · cases h
  | msl l o n =>
    simp only [asub] at h
    split at h
    · rename_i k els he'
      split at h
      · rename_i hc
        obtain ⟨rfl, h1, h2⟩ := hc
        cases h
        obtain ⟨hl, a, n', cap, rfl, hb⟩ := hx.msl_inv
        obtain ⟨b, h3, h4, h5, h6⟩ := hR.blk l _ els he'
        obtain ⟨rfl, h7, h8⟩ := hb b h3
        refine ⟨_, sub_value ht hte he h1 (by omega) ol oh hlo (hhi.imp id fun ⟨h9, h10⟩ => ⟨h9, by simp [alen] at h10; omega⟩), .msl _ _ _ _ _ _ hl fun b' hb' => ?_⟩
        have : b' = b := Option.some.inj (hb'.symm.trans h3)
        subst this
        refine ⟨rfl, by omega, ?_⟩
        by_cases hcl : cap = lo
        · exact .inl (by omega)
        · rcases h8 with rfl | ⟨h8, rfl, h9⟩
          · exact .inl (by omega)
          · refine .inr ⟨h8, ?_, ?_⟩
            · rw [if_neg hcl]
              simp [addr_add, h4, Nat.add_mul, Nat.add_assoc]
            · rw [show o + lo + (cap - lo) = o + cap by omega]; exact h9
      · cases h
    · cases h
  | _ => simp [asub] at h

theorem op_len {P : Program} {A : Nat → Prop} {m : BM} {nb : Nat} {w : World} {t ty : TypeId} {ti : TI} {x : AV} {xv : Value} {n : Nat} (ht : tiOf P t = some ti) (hk : (∃ e, ti.k = .slc e) ∨ ti.k = .str) (hx : V A m nb w x xv) (h : alen x = some n)
    (hlive : ∀ l i n, x = .msl l i n → ∃ b, m l = some b) (hkind : (∃ s, x = .lit (.string s)) ↔ ti.k = .str) : (Builtin.len_ #[t] ty #[xv]).run P w = .ok (goInt n) w := by
  obtain ⟨d, i0, hd, _, _, _, _, hdk, _⟩ := tiOf_inv ht
  have slc : (∃ e, ti.k = .slc e) → ∀ a c, (Builtin.len_ #[t] ty #[.slice a n c]).run P w = .ok (goInt n) w := fun ⟨e, he⟩ a c => by
    rw [he] at hdk
    have := tk_slc hdk
    subst this
    simp [Builtin.len_, run_underlying hd]
  cases x with
  | isl k els =>
    have hs := hk.resolve_right fun h => by have := hkind.2 h; obtain ⟨s, hs⟩ := this; cases hs
    simp [alen] at h
    subst h
    cases hx.isl_inv with
    | isl _ _ B o cap vs hA hcap hk hcell hv' => exact slc hs _ _
    | inil a cap => exact slc hs _ _
  | msl l i n' =>
    have hs := hk.resolve_right fun h => by have := hkind.2 h; obtain ⟨s, hs⟩ := this; cases hs
    simp [alen] at h
    subst h
    obtain ⟨hl, a, n2, cap, rfl, hb⟩ := hx.msl_inv
    obtain ⟨b, h1⟩ := hlive l i n' rfl
    obtain ⟨rfl, _⟩ := hb b h1
    exact slc hs a cap
  | lit v =>
    have := hx.lit_inv
    subst this
    simp only [alen] at h
    split at h
    · rename_i heq; cases heq
    · rename_i heq; cases heq
    · rename_i heq; cases heq; cases h
      have hs := hk.resolve_right fun h => by have := hkind.2 h; obtain ⟨s, hs⟩ := this; cases hs
      exact slc hs _ _
    · rename_i s heq; cases heq; cases h
      have hs := hkind.1 ⟨s, rfl⟩
      rw [hs] at hdk
      have := tk_str hdk
      subst this
      simp [Builtin.len_, run_underlying hd]
    · cases h
  | _ => simp [alen] at h

end Go.Proofs.YthhkdanpjcnegaaGreat
