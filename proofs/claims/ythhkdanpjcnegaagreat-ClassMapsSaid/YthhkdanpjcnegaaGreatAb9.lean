/- The abstract layer, part 9: the same rules as equations, in a form that a rewriting walk can take op by op. -/
import Derived.Test.YthhkdanpjcnegaaGreatAb8
namespace Go.Proofs.YthhkdanpjcnegaaGreat
set_option linter.unusedSimpArgs false
set_option linter.unusedVariables false
set_option linter.unusedSectionVars false

/-- Waits: a walk does not go on by itself here. -/
def SOpsF (P : Program) (all rest : List Oper) (env : Ev) (st : St) (K : Ev → St → Prop) : Prop := SOps P all rest env st K
def SGo (P : Program) (all : List Oper) (d : Option Tmp) (op : Op) (rest : List Oper) (env : Ev) (st : St) (K : Ev → St → Prop) : Prop :=
  SOp P ⟨d, op, 0, "", #[], none⟩ env st (fun env st => SOps P all rest env st K)
def SGoF (P : Program) (all : List Oper) (d : Option Tmp) (op : Op) (rest : List Oper) (env : Ev) (st : St) (K : Ev → St → Prop) : Prop := SGo P all d op rest env st K

def Split (b : Bool) (x y : Prop) : Prop := (b = true → x) ∧ (b = false → y)
def Thaw (p : Prop) : Prop := p

def SCont (r : Option (AV × St)) (P : Program) (all : List Oper) (d : Option Tmp) (rest : List Oper) (env : Ev) (K : Ev → St → Prop) : Prop :=
  match r with
  | some (av, st) => SOps P all rest (aput d av env) st K
  | none => False

def SCalling (r : Option (FuncId × List AV)) (P : Program) (all : List Oper) (d : Option Tmp) (rest : List Oper) (env : Ev) (st : St) (K : Ev → St → Prop) : Prop :=
  match r with
  | some (g, args) => SCall P g args st fun av st' => SOpsF P all rest (aput d av env) st' K
  | none => False

def SGuard (g : Option AV) (want : Bool) (P : Program) (all : List Oper) (d : Option Tmp) (op : Op) (rest : List Oper) (env : Ev) (st : St) (K : Ev → St → Prop) : Prop :=
  match g, want with
  | some (.lit (.bool b)), true => Split b (SGoF P all d op rest env st K) (SOpsF P all rest (aput d (.lit undef) env) st K)
  | some (.lit (.bool b)), false => Split b (SOpsF P all rest (aput d (.lit undef) env) st K) (SGoF P all d op rest env st K)
  | some (.lit (.tuple _)), _ => SOps P all rest (aput d (.lit undef) env) st K
  | _, _ => False

def gval (all : List Oper) (j : Nat) (env : Ev) : Option AV := ((all[j]?).bind (·.dst)).bind (look env)

section
variable {P : Program} {all rest : List Oper} {d : Option Tmp} {op : Op} {ty : TypeId} {pos : String} {aft : Array Edge} {env : Ev} {st : St} {K : Ev → St → Prop}

theorem sops_nil : SOps P all [] env st K = K env st := id rfl
theorem sops_plain : SOps P all (⟨d, op, ty, pos, aft, none⟩ :: rest) env st K = SGo P all d op rest env st K := id rfl
theorem sops_guard {j : Nat} {want : Bool} : SOps P all (⟨d, op, ty, pos, aft, some (j, want)⟩ :: rest) env st K = SGuard (gval all j env) want P all d op rest env st K := by
  unfold SGuard gval
  simp only [SOps, aguard]
  cases hd : (all[j]?).bind (·.dst) with
  | none => simp
  | some t =>
    simp only [Option.bind_some]
    cases hl : look env t with
    | none => simp
    | some v =>
      cases v with
      | lit x =>
        cases x with
        | bool b => cases b <;> cases want <;> simp [Split, SGoF, SOpsF, SGo, SOp]
        | tuple vs => simp
        | _ => simp
      | _ => simp
theorem sgo_call {c : Call} {f : Operand} (h : c.callee = .value f) : SGo P all d (.call c) rest env st K = SCalling (acall env (.call c)) P all d rest env st K := by
  obtain ⟨cal, ar, at_⟩ := c
  simp only at h
  subst h
  rfl
theorem sgo_value {f : Operand} {args : Array Operand} {at_ : Array TypeId} : SGo P all d (.call ⟨.value f, args, at_⟩) rest env st K = SCalling (acall env (.call ⟨.value f, args, at_⟩)) P all d rest env st K := sgo_call rfl
theorem sgo_builtin {b : Builtin} {args : Array Operand} {at_ : Array TypeId} : SGo P all d (.call ⟨.builtin b, args, at_⟩) rest env st K = SCont (abuiltin P env st ⟨.builtin b, args, at_⟩) P all d rest env K := id rfl
theorem sgo_move {x : Operand} : SGo P all d (.move x) rest env st K = SCont ((ev env x).map fun v => (v, st)) P all d rest env K := id rfl
theorem sgo_assign {x : Operand} : SGo P all d (.assign x) rest env st K = SCont ((ev env x).map fun v => (v, st)) P all d rest env K := id rfl
theorem sgo_pick {a b c} : SGo P all d (.pick a b c) rest env st K = SCont (aop P env st (.pick a b c)) P all d rest env K := id rfl
theorem sgo_bin {o t x y u} : SGo P all d (.binOp o t x y u) rest env st K = SCont (aop P env st (.binOp o t x y u)) P all d rest env K := id rfl
theorem sgo_un {o t x} : SGo P all d (.unOp o t x) rest env st K = SCont (aop P env st (.unOp o t x)) P all d rest env K := id rfl
theorem sgo_conv {o t x} : SGo P all d (.convert o t x) rest env st K = SCont (aop P env st (.convert o t x)) P all d rest env K := id rfl
theorem sgo_extract {o t} : SGo P all d (.extract o t) rest env st K = SCont (aop P env st (.extract o t)) P all d rest env K := id rfl
theorem sgo_alloc {t} : SGo P all d (.alloc t) rest env st K = SCont (aop P env st (.alloc t)) P all d rest env K := id rfl
theorem sgo_box {t x} : SGo P all d (.box t x) rest env st K = SCont (aop P env st (.box t x)) P all d rest env K := id rfl
theorem sgo_load {t x} : SGo P all d (.load t x) rest env st K = SCont (aop P env st (.load t x)) P all d rest env K := id rfl
theorem sgo_store {t x y} : SGo P all d (.store t x y) rest env st K = SCont (aop P env st (.store t x y)) P all d rest env K := id rfl
theorem sgo_fieldAddr {t x y} : SGo P all d (.fieldAddr t x y) rest env st K = SCont (aop P env st (.fieldAddr t x y)) P all d rest env K := id rfl
theorem sgo_indexAddr {t x y} : SGo P all d (.indexAddr t x y) rest env st K = SCont (aop P env st (.indexAddr t x y)) P all d rest env K := id rfl
theorem sgo_index {t x y} : SGo P all d (.index t x y) rest env st K = SCont (aop P env st (.index t x y)) P all d rest env K := id rfl
theorem sgo_slice {t x a b c} : SGo P all d (.slice t x a b c) rest env st K = SCont (aop P env st (.slice t x a b c)) P all d rest env K := id rfl
theorem sgo_build {t x} : SGo P all d (.build t x) rest env st K = SCont (aop P env st (.build t x)) P all d rest env K := id rfl
theorem sgo_buildSlice {t n x} : SGo P all d (.buildSlice t n x) rest env st K = SCont (aop P env st (.buildSlice t n x)) P all d rest env K := id rfl
theorem sgo_nilCheck {x} : SGo P all d (.nilCheck x) rest env st K = SCont (aop P env st (.nilCheck x)) P all d rest env K := id rfl
theorem sgo_makeFunc {x y z} : SGo P all d (.makeFunc x y z) rest env st K = SCont (aop P env st (.makeFunc x y z)) P all d rest env K := id rfl

theorem scont_some {av : AV} : SCont (some (av, st)) P all d rest env K = SOps P all rest (aput d av env) st K := id rfl
theorem scalling_some {g : FuncId} {args : List AV} : SCalling (some (g, args)) P all d rest env st K = SCall P g args st (fun av st' => SOpsF P all rest (aput d av env) st' K) := id rfl
theorem sguard_t {b : Bool} : SGuard (some (.lit (.bool b))) true P all d op rest env st K = Split b (SGoF P all d op rest env st K) (SOpsF P all rest (aput d (.lit undef) env) st K) := id rfl
theorem sguard_f {b : Bool} : SGuard (some (.lit (.bool b))) false P all d op rest env st K = Split b (SOpsF P all rest (aput d (.lit undef) env) st K) (SGoF P all d op rest env st K) := id rfl
theorem sguard_u {want : Bool} : SGuard (some (.lit undef)) want P all d op rest env st K = SOps P all rest (aput d (.lit undef) env) st K := id rfl
theorem split_true {x y : Prop} : Split true x y = Thaw x := by unfold Split Thaw; simp
theorem split_false {x y : Prop} : Split false x y = Thaw y := by unfold Split Thaw; simp
theorem thaw_ops : Thaw (SOpsF P all rest env st K) = SOps P all rest env st K := id rfl
theorem thaw_go : Thaw (SGoF P all d op rest env st K) = SGo P all d op rest env st K := id rfl
theorem opsF : SOpsF P all rest env st K = SOps P all rest env st K := id rfl
theorem goF : SGoF P all d op rest env st K = SGo P all d op rest env st K := id rfl
theorem split_intro {b : Bool} {x y : Prop} (h1 : b = true → x) (h2 : b = false → y) : Split b x y := ⟨h1, h2⟩
end

/-! ### Calls that only read, and make memory: their worth in terms of values that are never written -/
def low (A : Nat → Prop) (w : World) : Prop := ∀ B, A B → B < w.heap.size
def andNew (A : Nat → Prop) (w w' : World) : Nat → Prop := fun B => A B ∨ (w.heap.size ≤ B ∧ B < w'.heap.size)

/-- A call from values that are never written, to such a value: nothing that was there turns. -/
def PureC (P : Program) (f : FuncId) (args : List AV) (res : AV) : Prop :=
  Callable P f ∧ ∀ A w vals, low A w → VIL A w args vals → Calls P f vals w fun e w' => ∃ v, e = .returned v ∧ Grow w w' ∧ VI (andNew A w w') w' res v

/-- No pointer into the call's own, outside what is never written. -/
inductive Imm : AV → Prop
  | any : Imm .any
  | lit (v) : Imm (.lit v)
  | isl (k els) : Imm (.isl k els)
  | ipt (k els i j) : Imm (.ipt k els i j)
  | agg (cs) (h : ∀ x ∈ cs, Imm x) : Imm (.agg cs)
  | tup (cs) (h : ∀ x ∈ cs, Imm x) : Imm (.tup cs)
  | fn (f cs ds) (h : ∀ x ∈ cs, Imm x) (h' : ∀ x ∈ ds, Imm x) : Imm (.fn f cs ds)

theorem Imm.vi {A m nb w av v} (hi : Imm av) (h : V A m nb w av v) : VI A w av v := by
  induction hi generalizing v with
  | any => exact .any v
  | lit x => rw [h.lit_inv]; exact .lit _
  | isl k els => exact h.isl_inv
  | ipt k els i j => exact h.ipt_inv
  | agg cs _ ih =>
    obtain ⟨a, rfl, h1, h2⟩ := h.agg_inv
    exact .agg _ _ h1 fun i hi => ih _ (List.getElem_mem hi) (h2 i hi)
  | tup cs _ ih =>
    obtain ⟨a, rfl, h1, h2⟩ := h.tup_inv
    exact .tup _ _ h1 fun i hi => ih _ (List.getElem_mem hi) (h2 i hi)
  | fn f cs ds _ _ ih ih' =>
    obtain ⟨a, b, rfl, ⟨h1, h2⟩, ⟨h3, h4⟩⟩ := h.fn_inv
    exact .fn _ _ _ _ _ h1 (fun i hi => ih _ (List.getElem_mem hi) (h2 i hi)) h3 (fun i hi => ih' _ (List.getElem_mem hi) (h4 i hi))

/-- What a value reads as while nothing is written: blocks of the call's own by their content. -/
inductive Seal (st : St) : AV → AV → Prop
  | imm {x} (h : Imm x) : Seal st x x
  | nil {k : Nat} : Seal st (.lit (.slice none 0 0)) (.isl k [])
  | msl {l i n k : Nat} {els els' : List (List AV)} (h : st[l]? = some (some (k, els))) (hin : i + n ≤ els.length) (hl : els'.length = n)
      (hrl : ∀ q (h : q < n) (h1 : i + q < els.length) (h2 : q < els'.length), els[i + q].length = els'[q].length)
      (hr : ∀ q (h : q < n) (h1 : i + q < els.length) (h2 : q < els'.length) j (h3 : j < els[i + q].length) (h4 : j < els'[q].length), Seal st els[i + q][j] els'[q][j]) :
      Seal st (.msl l i n) (.isl k els')
  | mpt {l i j k : Nat} {els els' : List (List AV)} (h : st[l]? = some (some (k, els))) (hl : els'.length = els.length)
      (hrl : ∀ q (h1 : q < els.length) (h2 : q < els'.length), els[q].length = els'[q].length)
      (hr : ∀ q (h1 : q < els.length) (h2 : q < els'.length) j (h3 : j < els[q].length) (h4 : j < els'[q].length), Seal st els[q][j] els'[q][j]) :
      Seal st (.mpt l i j) (.ipt k els' i j)
  | agg {cs cs' : List AV} (hl : cs.length = cs'.length) (hr : ∀ i (h : i < cs.length) (h' : i < cs'.length), Seal st cs[i] cs'[i]) : Seal st (.agg cs) (.agg cs')
  | tup {cs cs' : List AV} (hl : cs.length = cs'.length) (hr : ∀ i (h : i < cs.length) (h' : i < cs'.length), Seal st cs[i] cs'[i]) : Seal st (.tup cs) (.tup cs')
  | fn {f : Fn} {cs cs' ds ds' : List AV} (hl : cs.length = cs'.length) (hr : ∀ i (h : i < cs.length) (h' : i < cs'.length), Seal st cs[i] cs'[i])
      (hl' : ds.length = ds'.length) (hr' : ∀ i (h : i < ds.length) (h' : i < ds'.length), Seal st ds[i] ds'[i]) : Seal st (.fn f cs ds) (.fn f cs' ds')

theorem VI.widen {A A' w av v} (h : VI A w av v) (hA : ∀ B, A B → A' B) : VI A' w av v := h.mono hA fun _ _ => rfl

/-- A sealed value: every block that it leads to was allowed, or is the call's own. -/
theorem Seal.vi {A D : Nat → Prop} {m : BM} {w : World} {st : St} (hR : R A m w st) (hA' : ∀ B, A B → D B) (hown : ∀ l b, m l = some b → b.has = true → D b.B) {av av' : AV} (hs : Seal st av av') :
    ∀ {v}, V A m st.length w av v → VI D w av' v := by
  induction hs with
  | imm h => exact fun {v} hv => (h.vi hv).widen hA'
  | nil => intro v hv; rw [hv.lit_inv]; exact .inil _ _ _
  | @msl l i n k els els' h hin hl hrl hr ih =>
    intro v hv
    obtain ⟨hlt, a, n', cap, rfl, hb⟩ := hv.msl_inv
    obtain ⟨b, h1, h2, h3, h4⟩ := hR.blk l k els h
    obtain ⟨rfl, h5, h6⟩ := hb b h1
    rcases h6 with rfl | ⟨h6, rfl, h7⟩
    · have hn0 : n' = 0 := by omega
      have : els' = [] := List.eq_nil_of_length_eq_zero (by omega)
      subst this
      rw [hn0]
      exact .inil _ _ _
    · have hok := h3 h6
      subst h2
      have hcell : ∀ q j, q < els'.length → j < b.k → ∃ u, w.cell? ⟨b.B, b.o + i * b.k + q * b.k + j, none⟩ = some u ∧ ∀ (h4 : q < els'.length) (h5 : j < els'[q].length), VI D w els'[q][j] u := fun q j hq hj => by
        have hq1 : i + q < els.length := by omega
        have hj1 : j < els[i + q].length := by rw [hok.wide _ hq1]; exact hj
        obtain ⟨u, h8, h9⟩ := hok.val (i + q) hq1 j hj1
        refine ⟨u, by rw [← h8]; congr 2; rw [Nat.add_mul]; omega, fun h10 h11 => ?_⟩
        exact ih q (by omega) hq1 h10 j hj1 h11 h9
      have hw' : ∀ q (hq : q < els'.length), els'[q].length = b.k := fun q hq => by
        rw [← hrl q (by omega) (by omega) hq]; exact hok.wide _ (by omega)
      have := VI.isl (A := D) (w := w) b.k els' b.B (b.o + i * b.k) cap (fun q j => (w.cell? ⟨b.B, b.o + i * b.k + q * b.k + j, none⟩).getD undef) (hown l b h1 h6) (by omega) hw'
        (fun q j hq hj => by obtain ⟨u, h8, _⟩ := hcell q j hq hj; rw [h8]; rfl)
        (fun q hq j hj => by
          obtain ⟨u, h8, h9⟩ := hcell q j hq (by rw [← hw' q hq]; exact hj)
          show VI _ w _ ((w.cell? _).getD undef)
          rw [h8]; exact h9 hq hj)
      rw [hl] at this
      exact this
  | @mpt l i j k els els' h hl hrl hr ih =>
    intro v hv
    obtain ⟨hlt, a, rfl, hb⟩ := hv.mpt_inv
    obtain ⟨b, h1, h2, h3, h4⟩ := hR.blk l k els h
    obtain ⟨h6, rfl⟩ := hb b h1
    have hok := h3 h6
    subst h2
    have hcell : ∀ q j, q < els'.length → j < b.k → ∃ u, w.cell? ⟨b.B, b.o + q * b.k + j, none⟩ = some u ∧ ∀ (h4 : q < els'.length) (h5 : j < els'[q].length), VI D w els'[q][j] u := fun q j hq hj => by
      have hq1 : q < els.length := by omega
      have hj1 : j < els[q].length := by rw [hok.wide _ hq1]; exact hj
      obtain ⟨u, h8, h9⟩ := hok.val q hq1 j hj1
      exact ⟨u, h8, fun h10 h11 => ih q hq1 h10 j hj1 h11 h9⟩
    have hw' : ∀ q (hq : q < els'.length), els'[q].length = b.k := fun q hq => by
      rw [← hrl q (by omega) hq]; exact hok.wide _ (by omega)
    exact VI.ipt (A := D) (w := w) b.k els' i j b.B b.o (fun q j => (w.cell? ⟨b.B, b.o + q * b.k + j, none⟩).getD undef) (hown l b h1 h6) hw'
      (fun q j hq hj => by obtain ⟨u, h8, _⟩ := hcell q j hq hj; rw [h8]; rfl)
      (fun q hq j hj => by
        obtain ⟨u, h8, h9⟩ := hcell q j hq (by rw [← hw' q hq]; exact hj)
        show VI _ w _ ((w.cell? _).getD undef)
        rw [h8]; exact h9 hq hj)
  | agg hl hr ih =>
    intro v hv
    obtain ⟨a, rfl, h1, h2⟩ := hv.agg_inv
    exact .agg _ _ (by omega) fun i hi => ih i (by omega) hi (h2 i (by omega))
  | tup hl hr ih =>
    intro v hv
    obtain ⟨a, rfl, h1, h2⟩ := hv.tup_inv
    exact .tup _ _ (by omega) fun i hi => ih i (by omega) hi (h2 i (by omega))
  | fn hl hr hl' hr' ih ih' =>
    intro v hv
    obtain ⟨a, b, rfl, ⟨h1, h2⟩, ⟨h3, h4⟩⟩ := hv.fn_inv
    exact .fn _ _ _ _ _ (by omega) (fun i hi => ih i (by omega) hi (h2 i (by omega))) (by omega) fun i hi => ih' i (by omega) hi (h4 i (by omega))

inductive ImmL : List AV → Prop
  | nil : ImmL []
  | cons {x l} (h : Imm x) (t : ImmL l) : ImmL (x :: l)
theorem ImmL.get {l : List AV} (h : ImmL l) : ∀ i (hi : i < l.length), Imm l[i] := by
  induction h with
  | nil => exact fun i hi => by cases hi
  | cons h _ ih => exact fun i hi => by cases i with
    | zero => exact h
    | succ i => exact ih i (by simpa using hi)

inductive SealL (st : St) : List AV → List AV → Prop
  | nil : SealL st [] []
  | cons {x y l r} (h : Seal st x y) (t : SealL st l r) : SealL st (x :: l) (y :: r)
theorem SealL.get {st : St} {l r : List AV} (h : SealL st l r) : l.length = r.length ∧ ∀ i (hi : i < l.length) (hi' : i < r.length), Seal st l[i] r[i] := by
  induction h with
  | nil => exact ⟨rfl, fun i hi => by cases hi⟩
  | cons h _ ih =>
    refine ⟨by simp [ih.1], fun i hi hi' => ?_⟩
    cases i with
    | zero => exact h
    | succ i => exact ih.2 i (by simpa using hi) (by simpa using hi')

/-- A call that only reads, from values that are never written. -/
theorem scall_pure {P : Program} {f : FuncId} {args : List AV} {st : St} {res : AV} {K : AV → St → Prop} (h : PureC P f args res) (hi : ImmL args) (hk : K res st) : SCall P f args st K := by
  refine ⟨h.1, fun A m w vals hR hv => (h.2 A w vals hR.aLow ⟨hv.1, fun i hi' => (hi.get i hi').vi (hv.2 i hi')⟩).mono fun e w' ⟨v, he, hg, hvi⟩ => ?_⟩
  obtain ⟨h1, h2⟩ := hR.grow (A' := andNew A w w') hg (fun B hB => .inl hB) (fun B hB => hB)
  exact ⟨v, _, m, st, res, he, h1, h2, .imm hvi, hk⟩

/-- The same from blocks of the call's own, where what is handed back holds no address. -/
theorem scall_seal {P : Program} {f : FuncId} {args args' : List AV} {st : St} {r : Value} {K : AV → St → Prop} (h : PureC P f args' (.lit r)) (hs : SealL st args args') (hk : K (.lit r) st) : SCall P f args st K := by
  refine ⟨h.1, fun A m w vals hR hv => (h.2 (fun B => B < w.heap.size) w vals (fun B hB => hB) ⟨by rw [← hs.get.1]; exact hv.1, fun i hi' => (hs.get.2 i (by rw [hs.get.1]; exact hi') hi').vi hR hR.aLow (fun _ _ hb hh => hR.low hb hh) (hv.2 i (by rw [hs.get.1]; exact hi'))⟩).mono fun e w' ⟨v, he, hg, hvi⟩ => ?_⟩
  obtain ⟨h1, h2⟩ := hR.grow' hg
  have : v = r := by cases hvi; rfl
  subst this
  exact ⟨v, A, m, st, _, he, h1, h2, .imm (.lit _), hk⟩

/-- A walk from nothing of its own proves such a contract: what is handed back is sealed. -/
theorem pure_of {P : Program} {f : FuncId} {args : List AV} {res : AV} (h : SCall P f args [] fun av st => Seal st av res) : PureC P f args res := by
  refine ⟨h.1, fun A w vals hA hv => ?_⟩
  have hR : R A (fun _ => none) w [] := ⟨hA, (fun _ _ _ _ h => (by cases h)), (fun _ _ _ _ h => (by cases h)), (fun _ _ h => (by cases h)), (fun _ _ _ h => (by simp at h))⟩
  refine (h.2 A (fun _ => none) w vals hR ⟨hv.1, fun i hi => .imm (hv.2 i hi)⟩).mono fun e w' ⟨v, A', m', st', av, he, hR', hS, hv', hs⟩ => ?_
  have hg : Grow w w' := ⟨hS.size, (fun B hB => hS.heap B hB (fun l b hb => (by cases hb))), hS.os, hS.tape, hS.output⟩
  refine ⟨v, he, hg, ?_⟩
  -- every block that the value leads to was allowed before, or is new
  exact hs.vi hR' (fun B hB => (hS.aNew B hB).imp id fun h => ⟨h.elim id fun ⟨_, _, h, _⟩ => (by cases h), hR'.aLow B hB⟩) (fun l b hb hh => by
    rcases hS.mNew l b hb hh with h1 | ⟨_, _, h1, _⟩
    · exact .inr ⟨h1, hR'.low hb hh⟩
    · cases h1) hv'

end Go.Proofs.YthhkdanpjcnegaaGreat
