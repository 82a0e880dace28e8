/- The abstract layer, part 15: one rule an operation, in typed words; contracts; ends of functions. -/
import Derived.Test.YthhkdanpjcnegaaGreatAb14
namespace Go.Proofs.YthhkdanpjcnegaaGreat
set_option linter.unusedSimpArgs false
set_option linter.unusedVariables false
set_option linter.unusedSectionVars false

/-! ### Rows of things -/
def rStr (s : List UInt8) : List AV := [.lit (.string (B s))]
def rI (k : IntKind) (n : Int) : List AV := [.lit (.int k n)]
def rB (b : Bool) : List AV := [.lit (.bool b)]
def rL {α : Type} (k : Nat) (f : α → List AV) (l : List α) : List AV := [.isl k (l.map f)]

/-! ### Ends of functions -/
def FinE (nb0 : Nat) (av0 : AV) (st0 : St) (av : AV) (st : St) : Prop :=
  ∃ L : SrcL, Rs st L av0 av ∧ onceS L = true ∧ RsBlks st L L st0 ∧ idsS nb0 L = true ∧ nb0 ≤ st0.length
def PostF (P : Program) (fn : Func) (nb0 : Nat) (av0 : AV) (st0 : St) (env : Ev) (st : St) : Prop := ∃ av, aret P fn env st = some av ∧ FinE nb0 av0 st0 av st
def QF (P : Program) (fn : Func) (nb0 : Nat) (av0 : AV) (st0 : St) : Exit → Ev → St → Prop
  | .normal, env, st => PostF P fn nb0 av0 st0 env st
  | .ret, env, st => PostF P fn nb0 av0 st0 env st
  | _, _, _ => False

theorem scall_fn {P : Program} {f : FuncId} {fn : Func} {c : Code} {args : List AV} {st : St} {av0 : AV} {st0 : St} (hf : P.funcs[f]? = some fn) (hb : fn.body = some c) (hn : (fn.name == "runtime.NumGoroutine") = false) (hlen : Nat.ble args.length fn.ntmps = true)
    (h : SW P fn.ntmps st.length c (QF P fn st.length av0 st0) (enterEnv 0 args) st) : SCall P f args st (fun av st' => av = av0 ∧ st' = st0) := by
  have h1 := scall_body (K := fun av st' => FinE st.length av0 st0 av st') hf hb hn (Nat.le_of_ble_eq_true hlen) (h.mono fun e env st h => by cases e <;> exact h)
  refine ⟨h1.1, fun A m w vals hR hv => (h1.2 A m w vals hR hv).mono fun e w' ⟨v, A', m', st', av, he, hR', hS, hv', L, k1, k2, k3, k4, k5⟩ => ?_⟩
  have hs := RsSt.of k2 k3
  exact ⟨v, _, _, st0, av0, he, hR'.rs hs, hS.rs hs k4 k5, k1.v hR' hs hv', rfl, rfl⟩

theorem pure_fn {P : Program} {f : FuncId} {fn : Func} {c : Code} {args : List AV} {res : AV} (hf : P.funcs[f]? = some fn) (hb : fn.body = some c) (hn : (fn.name == "runtime.NumGoroutine") = false) (hlen : Nat.ble args.length fn.ntmps = true) (hi : immB res = true)
    (h : SW P fn.ntmps 0 c (QF P fn 0 res []) (enterEnv 0 args) []) : PureC P f args res :=
  pure_of ((scall_fn (st := []) hf hb hn hlen h).mono fun av st ⟨h1, h2⟩ => by subst h1; exact .imm (immB_imm hi))

/-! ### Contracts over blocks -/
inductive SB where
  | no
  | many (k : Nat) (els : List (List AV))
  | one (k : Nat) (cs : List AV)
  | xs (k : Nat) (rows : List (List AV))
def SB.b : SB → Option (Nat × List (List AV))
  | .no => none
  | .many k els => some (k, els)
  | .one k cs => some (k, [cs])
  | .xs k rows => some (k, rows)
def SBs : List SB → St
  | [] => []
  | x :: r => x.b :: SBs r
def SB.ok : SB → Prop
  | .many _ els => ∀ r ∈ els, ∀ x ∈ r, Imm x
  | _ => True
def SBok : List SB → Prop
  | [] => True
  | x :: r => x.ok ∧ SBok r
def SC (P : Program) (f : FuncId) (args : List AV) (bs0 : List SB) (av : AV) (bs1 : List SB) : Prop := SBok bs1 ∧ SCall P f args (SBs bs0) (fun a s => a = av ∧ s = SBs bs1)

def RnLs (ρ : Nat → Option Nat) : List AV → List AV → Prop
  | [], [] => True
  | x :: l, y :: r => Rn ρ x y ∧ RnLs ρ l r
  | _, _ => False
theorem RnLs.get {ρ} : ∀ {l r : List AV}, RnLs ρ l r → l.length = r.length ∧ ∀ i (h : i < l.length) (h' : i < r.length), Rn ρ l[i] r[i]
  | [], [], _ => ⟨rfl, fun i h => by cases h⟩
  | [], _ :: _, h => h.elim
  | _ :: _, [], h => h.elim
  | x :: l, y :: r, h => by
    obtain ⟨h1, h2⟩ := RnLs.get h.2
    refine ⟨by simp [h1], fun i hi hi' => ?_⟩
    cases i with
    | zero => exact h.1
    | succ i => exact h2 i (by simpa using hi) (by simpa using hi')

/-- The callee's blocks bs lie with the caller where L says. -/
def InB (ρ : Nat → Option Nat) (st : St) : List Nat → List SB → Prop
  | [], [] => True
  | l :: L, .many k els :: bs => (st[l]? = some (some (k, els)) ∧ ∀ r ∈ els, ∀ x ∈ r, Imm x) ∧ InB ρ st L bs
  | l :: L, .one k cs :: bs => (∃ cs', st[l]? = some (some (k, [cs'])) ∧ RnLs ρ cs cs') ∧ InB ρ st L bs
  | _, _ => False
theorem InB.at {ρ st} : ∀ {L : List Nat} {bs : List SB}, InB ρ st L bs → L.length = bs.length ∧ ∀ i l : Nat, L[i]? = some l → ∃ k els0 els, (SBs bs)[i]? = some (some (k, els0)) ∧ st[l]? = some (some (k, els)) ∧ RnRows ρ els0 els
  | [], [], _ => ⟨rfl, fun i l h => by simp at h⟩
  | [], _ :: _, h => h.elim
  | _ :: _, [], h => h.elim
  | _ :: _, .no :: _, h => h.elim
  | _ :: _, .xs _ _ :: _, h => h.elim
  | l :: L, .many k els :: bs, h => by
    obtain ⟨h1, h2⟩ := InB.at h.2
    refine ⟨by simp [h1], fun i x hx => ?_⟩
    cases i with
    | zero =>
      simp at hx; subst hx
      exact ⟨k, els, els, rfl, h.1.1, RnRows.same h.1.2⟩
    | succ i => simpa [SBs] using h2 i x (by simpa using hx)
  | l :: L, .one k cs :: bs, h => by
    obtain ⟨h1, h2⟩ := InB.at h.2
    refine ⟨by simp [h1], fun i x hx => ?_⟩
    cases i with
    | zero =>
      simp at hx; subst hx
      obtain ⟨cs', h3, h4⟩ := h.1
      exact ⟨k, [cs], [cs'], rfl, h3, RnRows.one h4.get.1 h4.get.2⟩
    | succ i => simpa [SBs] using h2 i x (by simpa using hx)
theorem SBs_length : ∀ bs : List SB, (SBs bs).length = bs.length
  | [] => rfl
  | _ :: r => by simp [SBs, SBs_length r]
theorem SBs_map : ∀ bs : List SB, SBs bs = bs.map SB.b
  | [] => rfl
  | _ :: r => by simp [SBs, SBs_map r]

def rnSB (τ : Nat → Nat) : SB → Option (Nat × List (List AV))
  | .no => none
  | .many k els => some (k, els)
  | .one k cs => some (k, [rnL τ cs])
  | .xs k rows => some (k, rows.map (rnL τ))
def rnSBs (τ : Nat → Nat) : List SB → St
  | [] => []
  | x :: r => rnSB τ x :: rnSBs τ r
def setsB (τ : Nat → Nat) : St → List Nat → List SB → St
  | st, l :: L, b :: bs => setsB τ (st.set l (rnSB τ b)) L bs
  | st, _, _ => st
def afterL (τ : Nat → Nat) : List Nat → List SB → St
  | _ :: L, _ :: bs => afterL τ L bs
  | _, bs => rnSBs τ bs
/-- The caller's state behind the call. -/
def unfr (L : List Nat) (st : St) (bs : List SB) : St := setsB (tau L st.length) st L bs ++ afterL (tau L st.length) L bs

theorem Imm.rn {τ : Nat → Nat} {x : AV} (h : Imm x) : rn τ x = x := by
  induction h with
  | any => rfl
  | lit v => rfl
  | isl k e => rfl
  | ipt k e i j => rfl
  | agg cs _ ih => rw [Go.Proofs.YthhkdanpjcnegaaGreat.rn, rnL_map]; congr 1; conv => rhs; rw [← List.map_id cs]
                   exact List.map_congr_left ih
  | tup cs _ ih => rw [Go.Proofs.YthhkdanpjcnegaaGreat.rn, rnL_map]; congr 1; conv => rhs; rw [← List.map_id cs]
                   exact List.map_congr_left ih
  | fn f cs ds _ _ ih ih' =>
    rw [Go.Proofs.YthhkdanpjcnegaaGreat.rn, rnL_map, rnL_map]
    congr 1
    · conv => rhs; rw [← List.map_id cs]
      exact List.map_congr_left ih
    · conv => rhs; rw [← List.map_id ds]
      exact List.map_congr_left ih'

theorem rnSB_eq {τ : Nat → Nat} {b : SB} (h : b.ok) : rnSB τ b = rnBlk τ b.b := by
  cases b with
  | no => rfl
  | one k cs => rfl
  | xs k rows => rfl
  | many k els =>
    show some (k, els) = some (k, rnRows τ els)
    congr 2
    unfold rnRows
    conv => lhs; rw [← List.map_id els]
    refine List.map_congr_left fun r hr => ?_
    rw [rnL_map]
    conv => lhs; rw [← List.map_id (id r)]
    exact List.map_congr_left fun x hx => ((h r hr x hx).rn).symm
theorem rnSBs_eq {τ : Nat → Nat} : ∀ {bs : List SB}, SBok bs → rnSBs τ bs = (SBs bs).map (rnBlk τ)
  | [], _ => rfl
  | b :: bs, h => by rw [rnSBs, SBs, List.map_cons, rnSB_eq h.1, rnSBs_eq h.2]
theorem setsB_eq {τ : Nat → Nat} : ∀ {L : List Nat} {st : St} {bs : List SB}, SBok bs → setsB τ st L bs = setsAt τ st L ((SBs bs).take L.length)
  | [], st, bs, _ => by cases bs <;> rfl
  | l :: L, st, [], _ => rfl
  | l :: L, st, b :: bs, h => by
    rw [setsB, SBs, List.length_cons, List.take_succ_cons, setsAt, rnSB_eq h.1]
    exact setsB_eq h.2
theorem afterL_eq {τ : Nat → Nat} : ∀ {L : List Nat} {bs : List SB}, SBok bs → afterL τ L bs = ((SBs bs).drop L.length).map (rnBlk τ)
  | [], bs, h => by unfold afterL; exact rnSBs_eq h
  | l :: L, [], _ => by simp [afterL, rnSBs, SBs]
  | l :: L, b :: bs, h => by
    rw [afterL, SBs, List.length_cons, List.drop_succ_cons]
    exact afterL_eq h.2
theorem unfr_eq {L : List Nat} {st : St} {bs : List SB} (h : SBok bs) : unfr L st bs = unframe L st (SBs bs) := by
  unfold unfr unframe; rw [setsB_eq h, afterL_eq h]

def nodupB : List Nat → Bool
  | [] => true
  | x :: l => (!memN x l) && nodupB l
theorem nodupB_iff : ∀ {l : List Nat}, nodupB l = true → l.Nodup
  | [], _ => List.nodup_nil
  | x :: l, h => by
    simp only [nodupB, Bool.and_eq_true, Bool.not_eq_true'] at h
    refine List.nodup_cons.2 ⟨fun hm => ?_, nodupB_iff h.2⟩
    rw [memN_iff.2 hm] at h
    cases h.1
def allLt (k : Nat) : List Nat → Bool
  | [] => true
  | x :: l => Nat.blt x k && allLt k l
theorem allLt_iff {k : Nat} : ∀ {l : List Nat}, allLt k l = true → ∀ x ∈ l, x < k
  | [], _, x, h => by cases h
  | y :: l, h, x, hx => by
    simp only [allLt, Bool.and_eq_true] at h
    rcases List.mem_cons.1 hx with rfl | hx
    · exact Nat.le_of_ble_eq_true h.1
    · exact allLt_iff h.2 x hx

/-! ### Operations -/
section
variable {P : Program} {env : Ev} {st : St} {K : Ev → St → Prop} {d : Nat} {ty : TypeId} {pos : String} {aft : Array Edge} {gu : Option (Nat × Bool)}

theorem o_any {op : Op} {av : AV} {st' : St} (hc : isCall op = false) (h : aop P env st op = some (av, st')) (k : K ((d, av) :: env) st') : SOp P ⟨some d, op, ty, pos, aft, gu⟩ env st K := by
  unfold SOp; simp only [hc, h]; exact k
theorem o_no {op : Op} {av : AV} {st' : St} (hc : isCall op = false) (h : aop P env st op = some (av, st')) (k : K env st') : SOp P ⟨none, op, ty, pos, aft, gu⟩ env st K := by
  unfold SOp; simp only [hc, h]; exact k

theorem mv {x : Operand} {v : AV} (hx : ev env x = some v) (k : K ((d, v) :: env) st) : SOp P ⟨some d, .move x, ty, pos, aft, gu⟩ env st K := o_any rfl (by simp [aop, hx]) k
theorem asg {x : Operand} {v : AV} (hx : ev env x = some v) (k : K ((d, v) :: env) st) : SOp P ⟨some d, .assign x, ty, pos, aft, gu⟩ env st K := o_any rfl (by simp [aop, hx]) k
theorem bn {o : BinOp} {t u : TypeId} {x y : Operand} {ti : TI} {a b v : AV} (ht : tiOf P t = some ti) (hx : ev env x = some a) (hy : ev env y = some b) (h : abin ti.k o a b = some v) (k : K ((d, v) :: env) st) :
    SOp P ⟨some d, .binOp o t x y u, ty, pos, aft, gu⟩ env st K := o_any rfl (by simp [aop, ht, hx, hy, h]) k
theorem lss {t u : TypeId} {x y : Operand} {ti : TI} {kk : IntKind} {a b : Int} (ht : tiOf P t = some ti) (hx : ev env x = some (.lit (.int kk a))) (hy : ev env y = some (.lit (.int kk b))) (k : K ((d, .lit (.bool (decide (a < b)))) :: env) st) :
    SOp P ⟨some d, .binOp .lss t x y u, ty, pos, aft, gu⟩ env st K := bn ht hx hy (by simp [abin, shI, cmpI]) k
theorem leq {t u : TypeId} {x y : Operand} {ti : TI} {kk : IntKind} {a b : Int} (ht : tiOf P t = some ti) (hx : ev env x = some (.lit (.int kk a))) (hy : ev env y = some (.lit (.int kk b))) (k : K ((d, .lit (.bool (decide (a ≤ b)))) :: env) st) :
    SOp P ⟨some d, .binOp .leq t x y u, ty, pos, aft, gu⟩ env st K := bn ht hx hy (by simp [abin, shI, cmpI]) k
theorem gtr {t u : TypeId} {x y : Operand} {ti : TI} {kk : IntKind} {a b : Int} (ht : tiOf P t = some ti) (hx : ev env x = some (.lit (.int kk a))) (hy : ev env y = some (.lit (.int kk b))) (k : K ((d, .lit (.bool (decide (b < a)))) :: env) st) :
    SOp P ⟨some d, .binOp .gtr t x y u, ty, pos, aft, gu⟩ env st K := bn ht hx hy (by simp [abin, shI, cmpI]) k
theorem geq {t u : TypeId} {x y : Operand} {ti : TI} {kk : IntKind} {a b : Int} (ht : tiOf P t = some ti) (hx : ev env x = some (.lit (.int kk a))) (hy : ev env y = some (.lit (.int kk b))) (k : K ((d, .lit (.bool (decide (b ≤ a)))) :: env) st) :
    SOp P ⟨some d, .binOp .geq t x y u, ty, pos, aft, gu⟩ env st K := bn ht hx hy (by simp [abin, shI, cmpI]) k
theorem eql {t u : TypeId} {x y : Operand} {ti : TI} {kk : IntKind} {a b : Int} (ht : tiOf P t = some ti) (hx : ev env x = some (.lit (.int kk a))) (hy : ev env y = some (.lit (.int kk b))) (k : K ((d, .lit (.bool (a == b))) :: env) st) :
    SOp P ⟨some d, .binOp .eql t x y u, ty, pos, aft, gu⟩ env st K := bn ht hx hy (by simp [abin, shI, cmpI]) k
theorem neq {t u : TypeId} {x y : Operand} {ti : TI} {kk : IntKind} {a b : Int} (ht : tiOf P t = some ti) (hx : ev env x = some (.lit (.int kk a))) (hy : ev env y = some (.lit (.int kk b))) (k : K ((d, .lit (.bool (!(a == b)))) :: env) st) :
    SOp P ⟨some d, .binOp .neq t x y u, ty, pos, aft, gu⟩ env st K := bn ht hx hy (by simp [abin, shI, cmpI, bne]) k
theorem add {t u : TypeId} {x y : Operand} {ti : TI} {kk : IntKind} {a b : Int} (ht : tiOf P t = some ti) (hx : ev env x = some (.lit (.int kk a))) (hy : ev env y = some (.lit (.int kk b))) (k : K ((d, .lit (.int kk (kk.wrap (a + b)))) :: env) st) :
    SOp P ⟨some d, .binOp .add t x y u, ty, pos, aft, gu⟩ env st K := bn ht hx hy (by simp [abin, shI, cmpI, arI]) k
theorem sub {t u : TypeId} {x y : Operand} {ti : TI} {kk : IntKind} {a b : Int} (ht : tiOf P t = some ti) (hx : ev env x = some (.lit (.int kk a))) (hy : ev env y = some (.lit (.int kk b))) (k : K ((d, .lit (.int kk (kk.wrap (a - b)))) :: env) st) :
    SOp P ⟨some d, .binOp .sub t x y u, ty, pos, aft, gu⟩ env st K := bn ht hx hy (by simp [abin, shI, cmpI, arI]) k
theorem mul {t u : TypeId} {x y : Operand} {ti : TI} {kk : IntKind} {a b : Int} (ht : tiOf P t = some ti) (hx : ev env x = some (.lit (.int kk a))) (hy : ev env y = some (.lit (.int kk b))) (k : K ((d, .lit (.int kk (kk.wrap (a * b)))) :: env) st) :
    SOp P ⟨some d, .binOp .mul t x y u, ty, pos, aft, gu⟩ env st K := bn ht hx hy (by simp [abin, shI, cmpI, arI]) k
/-- An operation on numbers that may fail, or whose worth stays as it is. -/
theorem arb {o : BinOp} {t u : TypeId} {x y : Operand} {ti : TI} {kk kb : IntKind} {a b r : Int} (ht : tiOf P t = some ti) (hx : ev env x = some (.lit (.int kk a))) (hy : ev env y = some (.lit (.int kb b)))
    (h : (shI kk o a b = some r) ∨ (shI kk o a b = none ∧ kk = kb ∧ cmpI o a b = none ∧ arI kk o a b = some r)) (k : K ((d, .lit (.int kk r)) :: env) st) : SOp P ⟨some d, .binOp o t x y u, ty, pos, aft, gu⟩ env st K :=
  bn ht hx hy (by rcases h with h | ⟨h1, rfl, h2, h3⟩ <;> simp [abin, *]) k
theorem quo {t u : TypeId} {x y : Operand} {ti : TI} {kk : IntKind} {a b r : Int} (ht : tiOf P t = some ti) (hx : ev env x = some (.lit (.int kk a))) (hy : ev env y = some (.lit (.int kk b))) (h : quoP kk a b = some r) (k : K ((d, .lit (.int kk r)) :: env) st) :
    SOp P ⟨some d, .binOp .quo t x y u, ty, pos, aft, gu⟩ env st K := arb ht hx hy (.inr ⟨rfl, rfl, rfl, h⟩) k
theorem rem {t u : TypeId} {x y : Operand} {ti : TI} {kk : IntKind} {a b r : Int} (ht : tiOf P t = some ti) (hx : ev env x = some (.lit (.int kk a))) (hy : ev env y = some (.lit (.int kk b))) (h : remP a b = some r) (k : K ((d, .lit (.int kk r)) :: env) st) :
    SOp P ⟨some d, .binOp .rem t x y u, ty, pos, aft, gu⟩ env st K := arb ht hx hy (.inr ⟨rfl, rfl, rfl, h⟩) k
theorem shl {t u : TypeId} {x y : Operand} {ti : TI} {kk kb : IntKind} {a b r : Int} (ht : tiOf P t = some ti) (hx : ev env x = some (.lit (.int kk a))) (hy : ev env y = some (.lit (.int kb b))) (h : shlP kk a b = some r) (k : K ((d, .lit (.int kk r)) :: env) st) :
    SOp P ⟨some d, .binOp .shl t x y u, ty, pos, aft, gu⟩ env st K := arb ht hx hy (.inl h) k
theorem shr {t u : TypeId} {x y : Operand} {ti : TI} {kk kb : IntKind} {a b r : Int} (ht : tiOf P t = some ti) (hx : ev env x = some (.lit (.int kk a))) (hy : ev env y = some (.lit (.int kb b))) (h : shrP kk a b = some r) (k : K ((d, .lit (.int kk r)) :: env) st) :
    SOp P ⟨some d, .binOp .shr t x y u, ty, pos, aft, gu⟩ env st K := arb ht hx hy (.inl h) k
theorem seq {t u : TypeId} {x y : Operand} {ti : TI} {a b : List UInt8} (ht : tiOf P t = some ti) (hx : ev env x = some (.lit (.string (B a)))) (hy : ev env y = some (.lit (.string (B b)))) (k : K ((d, .lit (.bool (a == b))) :: env) st) :
    SOp P ⟨some d, .binOp .eql t x y u, ty, pos, aft, gu⟩ env st K := bn ht hx hy rfl k
theorem sne {t u : TypeId} {x y : Operand} {ti : TI} {a b : List UInt8} (ht : tiOf P t = some ti) (hx : ev env x = some (.lit (.string (B a)))) (hy : ev env y = some (.lit (.string (B b)))) (k : K ((d, .lit (.bool (!(a == b)))) :: env) st) :
    SOp P ⟨some d, .binOp .neq t x y u, ty, pos, aft, gu⟩ env st K := bn ht hx hy rfl k
theorem slt {t u : TypeId} {x y : Operand} {ti : TI} {a b : List UInt8} (ht : tiOf P t = some ti) (hx : ev env x = some (.lit (.string (B a)))) (hy : ev env y = some (.lit (.string (B b)))) (k : K ((d, .lit (.bool (Op.bytesLess a b))) :: env) st) :
    SOp P ⟨some d, .binOp .lss t x y u, ty, pos, aft, gu⟩ env st K := bn ht hx hy rfl k
theorem scat {t u : TypeId} {x y : Operand} {ti : TI} {a b r : List UInt8} (ht : tiOf P t = some ti) (hx : ev env x = some (.lit (.string (B a)))) (hy : ev env y = some (.lit (.string (B b)))) (h : catP a b = some r) (k : K ((d, .lit (.string (B r))) :: env) st) :
    SOp P ⟨some d, .binOp .add t x y u, ty, pos, aft, gu⟩ env st K := bn ht hx hy (by
      unfold catP at h
      split at h
      · rename_i h1; cases h; simp [abin, strB, h1]
      · cases h) k
theorem beq {t u : TypeId} {x y : Operand} {ti : TI} {a b : Bool} (ht : tiOf P t = some ti) (hk : ti.k = .bool) (hx : ev env x = some (.lit (.bool a))) (hy : ev env y = some (.lit (.bool b))) (k : K ((d, .lit (.bool (a == b))) :: env) st) :
    SOp P ⟨some d, .binOp .eql t x y u, ty, pos, aft, gu⟩ env st K := bn ht hx hy (by rw [hk]; rfl) k
theorem bne {t u : TypeId} {x y : Operand} {ti : TI} {a b : Bool} (ht : tiOf P t = some ti) (hk : ti.k = .bool) (hx : ev env x = some (.lit (.bool a))) (hy : ev env y = some (.lit (.bool b))) (k : K ((d, .lit (.bool (!(a == b)))) :: env) st) :
    SOp P ⟨some d, .binOp .neq t x y u, ty, pos, aft, gu⟩ env st K := bn ht hx hy (by rw [hk]; rfl) k
theorem ags {t u : TypeId} {x y : Operand} {ti : TI} {cs ds : List AV} {l : List (Nat × EK)} {b : Bool} (ht : tiOf P t = some ti) (hs : eqSpec P t = some l) (hx : ev env x = some (.agg cs)) (hy : ev env y = some (.agg ds)) (h : eqParts cs ds l = some b) (k : K ((d, .lit (.bool b)) :: env) st) :
    SOp P ⟨some d, .binOp .eql t x y u, ty, pos, aft, gu⟩ env st K := o_any rfl (by simp [aop, ht, hx, hy, abin, aeq, hs, h]) k
theorem agn {t u : TypeId} {x y : Operand} {ti : TI} {cs ds : List AV} {l : List (Nat × EK)} {b : Bool} (ht : tiOf P t = some ti) (hs : eqSpec P t = some l) (hx : ev env x = some (.agg cs)) (hy : ev env y = some (.agg ds)) (h : eqParts cs ds l = some b) (k : K ((d, .lit (.bool (!b))) :: env) st) :
    SOp P ⟨some d, .binOp .neq t x y u, ty, pos, aft, gu⟩ env st K := o_any rfl (by simp [aop, ht, hx, hy, abin, aeq, hs, h]) k
theorem nt {t : TypeId} {x : Operand} {b : Bool} (hx : ev env x = some (.lit (.bool b))) (k : K ((d, .lit (.bool (!b))) :: env) st) : SOp P ⟨some d, .unOp .not t x, ty, pos, aft, gu⟩ env st K := o_any rfl (by simp [aop, hx, aun]) k
theorem ng {t : TypeId} {x : Operand} {kk : IntKind} {a : Int} (hx : ev env x = some (.lit (.int kk a))) (k : K ((d, .lit (.int kk (kk.wrap (0 - a)))) :: env) st) : SOp P ⟨some d, .unOp .neg t x, ty, pos, aft, gu⟩ env st K := o_any rfl (by simp [aop, hx, aun]) k
theorem pk {c x y : Operand} {b : Bool} {v : AV} (hc : ev env c = some (.lit (.bool b))) (h : (match b with | true => ev env x | false => ev env y) = some v) (k : K ((d, v) :: env) st) : SOp P ⟨some d, .pick c x y, ty, pos, aft, gu⟩ env st K := o_any rfl (by cases b <;> simp at h <;> simp [aop, hc, h]) k

theorem cvi {s t : TypeId} {x : Operand} {si ti : TI} {kk kd : IntKind} {n : Int} (hs : tiOf P s = some si) (ht : tiOf P t = some ti) (h1 : si.k = .int kk) (h2 : ti.k = .int kd) (hx : ev env x = some (.lit (.int kk n))) (k : K ((d, .lit (.int kd (kd.wrap n))) :: env) st) :
    SOp P ⟨some d, .convert s t x, ty, pos, aft, gu⟩ env st K := o_any rfl (by simp [aop, hs, ht, hx, h1, h2, elemT, aconv]) k
theorem cvs {s t : TypeId} {x : Operand} {si ti : TI} {l : List UInt8} (hs : tiOf P s = some si) (ht : tiOf P t = some ti) (h1 : si.k = .str) (h2 : ti.k = .str) (hx : ev env x = some (.lit (.string (B l)))) (k : K ((d, .lit (.string (B l))) :: env) st) :
    SOp P ⟨some d, .convert s t x, ty, pos, aft, gu⟩ env st K := o_any rfl (by simp [aop, hs, ht, hx, h1, h2, elemT, aconv]) k

theorem bytesOf_map' : ∀ l : List UInt8, bytesOf (l.map byteRow) = some l
  | [] => rfl
  | b :: l => by
    rw [List.map_cons, bytesOf, bytesOf_map' l]
    have : rowByte (byteRow b) = some b := by
      unfold byteRow rowByte
      have e : UInt8.ofNat ((b.toNat : Int).toNat) = b := by simp
      simp only [e, if_true]
    rw [this]
theorem cvt {s t e : TypeId} {x : Operand} {si ti ei : TI} {v : AV} {l : List UInt8} (hs : tiOf P s = some si) (ht : tiOf P t = some ti) (h1 : si.k = .slc e) (h2 : ti.k = .str) (he : tiOf P e = some ei) (h3 : ei.k = .int .u8) (hx : ev env x = some v)
    (hv : ∀ y, v ≠ .lit (.string y)) (hr : rowsOf st 1 v = some (l.map byteRow)) (k : K ((d, .lit (.string (B l))) :: env) st) : SOp P ⟨some d, .convert s t x, ty, pos, aft, gu⟩ env st K := o_any rfl (by
      simp only [aop, hs, ht, hx, h1, h2, elemT, he, h3]
      cases v with
      | lit y =>
        cases y with
        | string y => exact absurd rfl (hv y)
        | _ => simp [aconv, hr, bytesOf_map']
      | _ => simp [aconv, hr, bytesOf_map']) k
theorem cvb {s t e : TypeId} {x : Operand} {si ti ei : TI} {l : List UInt8} (nn : Nat) (hs : tiOf P s = some si) (ht : tiOf P t = some ti) (h1 : si.k = .str) (h2 : ti.k = .slc e) (he : tiOf P e = some ei) (h3 : ei.k = .int .u8) (hx : ev env x = some (.lit (.string (B l)))) (hn : st.length = nn)
    (k : K ((d, .msl nn 0 l.length) :: env) (st ++ [some (1, l.map byteRow)])) : SOp P ⟨some d, .convert s t x, ty, pos, aft, gu⟩ env st K := o_any rfl (by simp [aop, hs, ht, hx, h1, h2, elemT, he, h3, aconv, hn]) k

theorem ex {x : Operand} {i : Nat} {vs : List AV} {v : AV} (hx : ev env x = some (.tup vs)) (h : vs[i]? = some v) (k : K ((d, v) :: env) st) : SOp P ⟨some d, .extract x i, ty, pos, aft, gu⟩ env st K := o_any rfl (by simp [aop, hx, h]) k
theorem al {t : TypeId} {ti : TI} (nn : Nat) (ht : tiOf P t = some ti) (hn : st.length = nn) (k : K ((d, .mpt nn 0 0) :: env) (st ++ [some (ti.size, [litCells ti.zero])])) : SOp P ⟨some d, .alloc t, ty, pos, aft, gu⟩ env st K := o_any rfl (by simp [aop, ht, hn]) k
theorem bx {t : TypeId} {x : Operand} {v : AV} {cs : List AV} (nn kk : Nat) (hx : ev env x = some v) (hc : cellsA v = some cs) (hl : cs.length = kk) (hn : st.length = nn) (k : K ((d, .mpt nn 0 0) :: env) (st ++ [some (kk, [cs])])) :
    SOp P ⟨some d, .box t x, ty, pos, aft, gu⟩ env st K := o_any rfl (by simp [aop, hx, hc, hn, hl]) k
theorem ld {t : TypeId} {x : Operand} {ti : TI} {p v : AV} (ht : tiOf P t = some ti) (hx : ev env x = some p) (h : aload st ti p = some v) (k : K ((d, v) :: env) st) : SOp P ⟨some d, .load t x, ty, pos, aft, gu⟩ env st K := o_any rfl (by simp [aop, ht, hx, h]) k
theorem sto {t : TypeId} {x y : Operand} {ti : TI} {p v : AV} {st' : St} (ht : tiOf P t = some ti) (hx : ev env x = some p) (hy : ev env y = some v) (h : astore st ti p v = some st') (k : K env st') : SOp P ⟨none, .store t x y, ty, pos, aft, gu⟩ env st K := o_no (av := .lit undef) rfl (by simp [aop, ht, hx, hy, h]) k
theorem fa {t : TypeId} {x : Operand} {f : Nat} {ti : TI} {p v : AV} (ht : tiOf P t = some ti) (hx : ev env x = some p) (hl : alive st p = true) (h : afield ti p f = some v) (k : K ((d, v) :: env) st) : SOp P ⟨some d, .fieldAddr t x f, ty, pos, aft, gu⟩ env st K := o_any rfl (by simp [aop, ht, hx, hl, h]) k
theorem nc {x : Operand} {p : AV} (hx : ev env x = some p) (hl : alive st p = true) (k : K ((d, p) :: env) st) : SOp P ⟨some d, .nilCheck x, ty, pos, aft, gu⟩ env st K := o_any rfl (by simp [aop, hx, hl]) k
theorem mf {f : FuncId} {a b : Array Operand} {as bs : List AV} (ha : evList env a.toList = some as) (hb : evList env b.toList = some bs) (k : K ((d, .fn (.func f) as bs) :: env) st) : SOp P ⟨some d, .makeFunc (.func f) a b, ty, pos, aft, gu⟩ env st K := o_any rfl (by simp [aop, ha, hb]) k

/-- len -/
theorem lnS {x : Operand} {t : TypeId} {ti : TI} {l : List UInt8} (ht : tiOf P t = some ti) (hk : ti.k = .str) (hx : ev env x = some (.lit (.string (B l)))) (k : K ((d, .lit (.int .i64 (l.length : Nat))) :: env) st) :
    SOp P ⟨some d, .call ⟨.builtin .len, #[x], #[t]⟩, ty, pos, aft, gu⟩ env st K := o_any rfl (by simp [aop, abuiltin, alenOp, ht, hk, hx]) k
theorem lnI {α : Type} {x : Operand} {t e : TypeId} {ti : TI} {kk : Nat} {l : List α} {f : α → List AV} (ht : tiOf P t = some ti) (hk : ti.k = .slc e) (hx : ev env x = some (.isl kk (l.map f))) (k : K ((d, .lit (.int .i64 (l.length : Nat))) :: env) st) :
    SOp P ⟨some d, .call ⟨.builtin .len, #[x], #[t]⟩, ty, pos, aft, gu⟩ env st K := o_any rfl (by simp [aop, abuiltin, alenOp, ht, hk, hx]) k
theorem lnM {x : Operand} {t e : TypeId} {ti : TI} {l i n : Nat} (ht : tiOf P t = some ti) (hk : ti.k = .slc e) (hx : ev env x = some (.msl l i n)) (hl : alive st (.mpt l 0 0) = true) (k : K ((d, .lit (.int .i64 (n : Nat))) :: env) st) :
    SOp P ⟨some d, .call ⟨.builtin .len, #[x], #[t]⟩, ty, pos, aft, gu⟩ env st K := o_any rfl (by
      simp only [alive] at hl
      cases hq : st[l]? with
      | none => rw [hq] at hl; cases hl
      | some b =>
        cases b with
        | none => rw [hq] at hl; cases hl
        | some b => simp [aop, abuiltin, alenOp, ht, hk, hx, hq]) k
theorem lnN {x : Operand} {t e : TypeId} {ti : TI} (ht : tiOf P t = some ti) (hk : ti.k = .slc e) (hx : ev env x = some (.lit (.slice none 0 0))) (k : K ((d, .lit (.int .i64 0)) :: env) st) :
    SOp P ⟨some d, .call ⟨.builtin .len, #[x], #[t]⟩, ty, pos, aft, gu⟩ env st K := o_any rfl (by simp [aop, abuiltin, alenOp, ht, hk, hx]) k

/-- A byte of a text. -/
theorem ixS {t : TypeId} {x y : Operand} {ti : TI} {kk : IntKind} {l : List UInt8} {i : Int} {c : UInt8} (ht : tiOf P t = some ti) (hk : ti.k = .str) (hx : ev env x = some (.lit (.string (B l)))) (hy : ev env y = some (.lit (.int kk i))) (h : idx l i = some c)
    (k : K ((d, .lit (.int .u8 (c.toNat : Int))) :: env) st) : SOp P ⟨some d, .index t x y, ty, pos, aft, gu⟩ env st K := o_any rfl (by
      obtain ⟨h0, _, h1⟩ := idx_some h
      simp [aop, ht, hk, hx, hy, strAt, h0, h1]) k
theorem ixI {α : Type} {t e : TypeId} {x y : Operand} {ti te : TI} {kk : IntKind} {sz : Nat} {l : List α} {f : α → List AV} {i : Int} {c : α} (ht : tiOf P t = some ti) (hk : ti.k = .slc e) (he : tiOf P e = some te) (hs : te.size = sz) (hx : ev env x = some (.isl sz (l.map f)))
    (hy : ev env y = some (.lit (.int kk i))) (h : idx l i = some c) (k : K ((d, .ipt sz (l.map f) i.toNat 0) :: env) st) : SOp P ⟨some d, .indexAddr t x y, ty, pos, aft, gu⟩ env st K := o_any rfl (by
      obtain ⟨h0, h2, h1⟩ := idx_some h
      have h3 : i < (l.length : Int) := by omega
      simp [aop, ht, hk, he, hx, hy, aindex, hs, h0, h3]) k
theorem ixM {α : Type} {t e : TypeId} {x y : Operand} {ti te : TI} {kk : IntKind} {sz b : Nat} {l : List α} {f : α → List AV} {i : Int} {c : α} (ht : tiOf P t = some ti) (hk : ti.k = .slc e) (he : tiOf P e = some te) (hs : te.size = sz) (hx : ev env x = some (.msl b 0 l.length))
    (hb : st[b]? = some (some (sz, l.map f))) (hy : ev env y = some (.lit (.int kk i))) (h : idx l i = some c) (k : K ((d, .mpt b i.toNat 0) :: env) st) : SOp P ⟨some d, .indexAddr t x y, ty, pos, aft, gu⟩ env st K := o_any rfl (by
      obtain ⟨h0, h2, h1⟩ := idx_some h
      have h3 : i < (l.length : Int) := by omega
      simp [aop, ht, hk, he, hx, hy, aindex, hs, h0, h3, hb]) k
/-- An element of explicit rows. -/
theorem ixX {t e : TypeId} {x y : Operand} {ti te : TI} {kk : IntKind} {i : Int} {v p : AV} (ht : tiOf P t = some ti) (hk : ti.k = .slc e) (he : tiOf P e = some te) (hx : ev env x = some v)
    (hy : ev env y = some (.lit (.int kk i))) (h : aindex st te.size v i = some p) (k : K ((d, p) :: env) st) : SOp P ⟨some d, .indexAddr t x y, ty, pos, aft, gu⟩ env st K := o_any rfl (by simp [aop, ht, hk, he, hx, hy, h]) k

def rowLd (ti : TI) (r : List AV) (j : Nat) : Option AV :=
  match ti.k.isAgg with
  | some true => if j + ti.size ≤ r.length then some (.agg ((r.drop j).take ti.size)) else none
  | some false => r[j]?
  | none => none
theorem aload_row {ti : TI} {p : AV} {r : List AV} {j : Nat} (h : rowAt st p = some (r, j)) : aload st ti p = rowLd ti r j := by
  unfold aload rowLd
  rw [h]
  cases ti.k.isAgg with
  | none => rfl
  | some b => cases b <;> rfl
theorem ldI {α : Type} {t : TypeId} {x : Operand} {ti : TI} {sz i j : Nat} {l : List α} {f : α → List AV} {c : α} {v : AV} (ht : tiOf P t = some ti) (hx : ev env x = some (.ipt sz (l.map f) i j)) (h : l[i]? = some c) (hv : rowLd ti (f c) j = some v) (k : K ((d, v) :: env) st) :
    SOp P ⟨some d, .load t x, ty, pos, aft, gu⟩ env st K := ld ht hx ((aload_row (by simp [rowAt, h])).trans hv) k
theorem ldM {α : Type} {t : TypeId} {x : Operand} {ti : TI} {sz b i j : Nat} {l : List α} {f : α → List AV} {c : α} {v : AV} (ht : tiOf P t = some ti) (hx : ev env x = some (.mpt b i j)) (hb : st[b]? = some (some (sz, l.map f))) (h : l[i]? = some c) (hv : rowLd ti (f c) j = some v) (k : K ((d, v) :: env) st) :
    SOp P ⟨some d, .load t x, ty, pos, aft, gu⟩ env st K := ld ht hx ((aload_row (by simp [rowAt, hb, h])).trans hv) k

/-- Pieces. -/
theorem slS {t : TypeId} {x : Operand} {lo hi : Option Operand} {ti : TI} {l r : List UInt8} {a b : Int} (ht : tiOf P t = some ti) (hk : ti.k = .str) (hx : ev env x = some (.lit (.string (B l)))) (hlo : bndOf env 0 lo = some a.toNat) (hhi : bndOf env l.length hi = some b.toNat)
    (h : cutP l a b = some r) (k : K ((d, .lit (.string (B r))) :: env) st) : SOp P ⟨some d, .slice t x lo hi none, ty, pos, aft, gu⟩ env st K := o_any rfl (by
      unfold cutP at h
      split at h
      · rename_i h1
        cases h
        have e : alen (.lit (.string (B l))) = some l.length := rfl
        simp only [aop, ht, hk, hx, e, hlo, hhi]
        rw [if_pos (by omega)]
      · cases h) k
theorem slI {α : Type} {t e : TypeId} {x : Operand} {lo hi : Option Operand} {ti te : TI} {sz : Nat} {l r : List α} {f : α → List AV} {a b : Int} (ht : tiOf P t = some ti) (hk : ti.k = .slc e) (he : tiOf P e = some te) (hs : te.size = sz) (hx : ev env x = some (.isl sz (l.map f)))
    (hlo : bndOf env 0 lo = some a.toNat) (hhi : bndOf env l.length hi = some b.toNat) (h : cutP l a b = some r) (k : K ((d, .isl sz (r.map f)) :: env) st) : SOp P ⟨some d, .slice t x lo hi none, ty, pos, aft, gu⟩ env st K := o_any rfl (by
      unfold cutP at h
      split at h
      · rename_i h1
        cases h
        have e' : alen (.isl sz (l.map f)) = some l.length := by simp [alen]
        simp only [aop, ht, hk, hx, e', he, hlo, hhi, asub]
        rw [if_pos ⟨hs.symm, by omega, by rw [List.length_map]; omega⟩]
        simp [List.map_drop, List.map_take]
      · cases h) k

/-- Calls that only read and make memory. -/
theorem pc {c : Call} {g : FuncId} {args : List AV} {res : AV} (h : PureC P g args res) (hc : isCall (.call c) = true) (hg : acall env (.call c) = some (g, args)) (hi : immLB args = true) (k : K ((d, res) :: env) st) : SOp P ⟨some d, .call c, ty, pos, aft, gu⟩ env st K := by
  unfold SOp
  simp only [hc, hg]
  exact scall_pure h (immL_of hi) k
/-- The same from blocks of the call's own, where what is handed back holds no address. -/
theorem pcs {c : Call} {g : FuncId} {args args' : List AV} {res : AV} (h : PureC P g args' res) (hc : isCall (.call c) = true) (hg : acall env (.call c) = some (g, args)) (hs : SealL st args args') (hp : Plain res) (k : K ((d, res) :: env) st) : SOp P ⟨some d, .call c, ty, pos, aft, gu⟩ env st K := by
  unfold SOp
  simp only [hc, hg]
  exact scall_sealp h hp hs k
/-- Calls that turn blocks of the call's own. -/
theorem sc (L : List Nat) {c : Call} {g : FuncId} {args args0 : List AV} {bs0 bs1 : List SB} {av : AV} (h : SC P g args0 bs0 av bs1) (hc : isCall (.call c) = true) (hg : acall env (.call c) = some (g, args)) (hnd : nodupB L = true) (hlt : allLt st.length L = true)
    (ha : RnLs (fun i => L[i]?) args0 args) (hs : InB (fun i => L[i]?) st L bs0) (k : K ((d, rn (tau L st.length) av) :: env) (unfr L st bs1)) : SOp P ⟨some d, .call c, ty, pos, aft, gu⟩ env st K := by
  unfold SOp
  simp only [hc, hg]
  refine scall_frame h.2 L (by rw [SBs_length]; exact hs.at.1) (nodupB_iff hnd) (allLt_iff hlt) ha.get.1 ha.get.2 ⟨fun i l hl => hs.at.2 i l hl, fun i kk els he => ?_, fun i1 i2 x h1 h2 => ?_⟩ ?_
  · have : i < (SBs bs0).length := (List.getElem?_eq_some_iff.1 he).1
    rw [SBs_length, ← hs.at.1] at this
    exact ⟨L[i], List.getElem?_eq_getElem this⟩
  · obtain ⟨l1, e1⟩ := List.getElem?_eq_some_iff.1 h1
    obtain ⟨l2, e2⟩ := List.getElem?_eq_some_iff.1 h2
    exact (List.getElem_inj (nodupB_iff hnd)).1 (e1.trans e2.symm)
  · rintro a s ⟨rfl, rfl⟩
    rw [← unfr_eq h.1]
    exact k

/-- append -/
theorem apM {α : Type} {x y : Operand} {t u' e : TypeId} {ti te tu : TI} {e' : TypeId} {sz b w : Nat} {l z r : List α} {f : α → List AV} {v : AV} (nn : Nat) (ht : tiOf P t = some ti) (hk : ti.k = .slc e) (he : tiOf P e = some te) (hs : te.size = sz) (hw : te.bytes = w) (hz : 0 < sz) (hu : tiOf P u' = some tu) (hku : tu.k = .slc e')
    (hx : ev env x = some (.msl b 0 l.length)) (hb : st[b]? = some (some (sz, l.map f))) (hy : ev env y = some v) (hr : rowsOf st sz v = some (z.map f)) (h1 : ∀ x, (f x).all AV.one = true) (hn : st.length = nn) (h : appP w l z = some r)
    (k : K ((d, .msl nn 0 r.length) :: env) (st.set b none ++ [some (sz, r.map f)])) : SOp P ⟨some d, .call ⟨.builtin .append, #[x, y], #[t, u']⟩, ty, pos, aft, gu⟩ env st K := o_any rfl (by
      obtain ⟨rfl, h2, h3⟩ := appP_some h
      have h4 : allOne (z.map f) = true := by unfold allOne; rw [List.all_map]; simp [h1]
      have hbo : baseOf st sz (.msl b 0 l.length) = some (l.map f, st.set b none) := by simp [baseOf, hb, take_map_full]
      simp only [aop, abuiltin, aappOp, ht, hx, hy, hu, hk, he, hs, hbo, hku, hr]
      rw [if_pos ⟨hz, h4, by simpa [hw] using h2, by simpa using h3⟩]
      simp [hn]) k
theorem apN {α : Type} {x y : Operand} {t u' e : TypeId} {ti te tu : TI} {e' : TypeId} {sz w : Nat} {z r : List α} {f : α → List AV} {v : AV} (nn : Nat) (ht : tiOf P t = some ti) (hk : ti.k = .slc e) (he : tiOf P e = some te) (hs : te.size = sz) (hw : te.bytes = w) (hz : 0 < sz) (hu : tiOf P u' = some tu) (hku : tu.k = .slc e')
    (hx : ev env x = some (.lit (.slice none 0 0))) (hy : ev env y = some v) (hr : rowsOf st sz v = some (z.map f)) (h1 : ∀ x, (f x).all AV.one = true) (hn : st.length = nn) (h : appP w [] z = some r)
    (k : K ((d, .msl nn 0 r.length) :: env) (st ++ [some (sz, r.map f)])) : SOp P ⟨some d, .call ⟨.builtin .append, #[x, y], #[t, u']⟩, ty, pos, aft, gu⟩ env st K := o_any rfl (by
      obtain ⟨hq, h2, h3⟩ := appP_some h
      have hq' : z = r := by simpa using hq.symm
      subst hq'
      have h4 : allOne (z.map f) = true := by unfold allOne; rw [List.all_map]; simp [h1]
      simp only [aop, abuiltin, aappOp, ht, hx, hy, hu, hk, he, hs, baseOf, hku, hr]
      rw [if_pos ⟨hz, h4, by simpa [hw] using h2, by simpa using h3⟩]
      simp [hn]) k
/-- append of a text's bytes -/
theorem apMS {x y : Operand} {t u' e : TypeId} {ti te tu : TI} {b : Nat} {l z r : List UInt8} (nn : Nat) (ht : tiOf P t = some ti) (hk : ti.k = .slc e) (he : tiOf P e = some te) (hs : te.size = 1) (hw : te.bytes = 1) (hu : tiOf P u' = some tu) (hku : tu.k = .str)
    (hx : ev env x = some (.msl b 0 l.length)) (hb : st[b]? = some (some (1, l.map byteRow))) (hy : ev env y = some (.lit (.string (B z)))) (hn : st.length = nn) (h : appP 1 l z = some r)
    (k : K ((d, .msl nn 0 r.length) :: env) (st.set b none ++ [some (1, r.map byteRow)])) : SOp P ⟨some d, .call ⟨.builtin .append, #[x, y], #[t, u']⟩, ty, pos, aft, gu⟩ env st K := o_any rfl (by
      obtain ⟨rfl, h2, h3⟩ := appP_some h
      have hbo : baseOf st 1 (.msl b 0 l.length) = some (l.map byteRow, st.set b none) := by simp [baseOf, hb, take_map_full]
      simp only [aop, abuiltin, aappOp, ht, hx, hy, hu, hk, he, hs, hbo, hku]
      rw [if_pos ⟨trivial, by simpa [hw] using h2, by simpa using h3⟩]
      simp [hn]) k
theorem apNS {x y : Operand} {t u' e : TypeId} {ti te tu : TI} {z r : List UInt8} (nn : Nat) (ht : tiOf P t = some ti) (hk : ti.k = .slc e) (he : tiOf P e = some te) (hs : te.size = 1) (hw : te.bytes = 1) (hu : tiOf P u' = some tu) (hku : tu.k = .str)
    (hx : ev env x = some (.lit (.slice none 0 0))) (hy : ev env y = some (.lit (.string (B z)))) (hn : st.length = nn) (h : appP 1 [] z = some r)
    (k : K ((d, .msl nn 0 r.length) :: env) (st ++ [some (1, r.map byteRow)])) : SOp P ⟨some d, .call ⟨.builtin .append, #[x, y], #[t, u']⟩, ty, pos, aft, gu⟩ env st K := o_any rfl (by
      obtain ⟨hq, h2, h3⟩ := appP_some h
      have hq' : z = r := by simpa using hq.symm
      subst hq'
      simp only [aop, abuiltin, aappOp, ht, hx, hy, hu, hk, he, hs, baseOf, hku]
      rw [if_pos ⟨trivial, by simpa [hw] using h2, by simpa using h3⟩]
      simp [hn]) k
theorem roI {α : Type} {sz : Nat} {z : List α} {f : α → List AV} : rowsOf st sz (.isl sz (z.map f)) = some (z.map f) := by simp [rowsOf]
theorem roM {α : Type} {sz b : Nat} {z : List α} {f : α → List AV} (hb : st[b]? = some (some (sz, z.map f))) : rowsOf st sz (.msl b 0 z.length) = some (z.map f) := by simp [rowsOf, hb, take_map_full]

theorem bd {t : TypeId} {ps : Array (Nat × Operand)} {ti : TI} {pl : List (Nat × Nat)} {parts : List (Nat × AV)} {cs : List AV} (ht : tiOf P t = some ti) (hk : ti.k = .agg pl) (hp : evParts env ps.toList = some parts) (h : fillA pl (litCells ti.zero) parts = some cs) (k : K ((d, .agg cs) :: env) st) :
    SOp P ⟨some d, .build t ps, ty, pos, aft, gu⟩ env st K := o_any rfl (by simp [aop, ht, hk, hp, h]) k
theorem bl {t e : TypeId} {len : Nat} {ps : Array (Nat × Operand)} {ti te : TI} {parts : List (Nat × AV)} {rows : List (List AV)} {sz : Nat} (nn : Nat) (ht : tiOf P t = some ti) (hk : ti.k = .slc e) (he : tiOf P e = some te) (hs : te.size = sz) (hz : 0 < sz) (hl : len * sz ≤ 16777216) (hp : evParts env ps.toList = some parts)
    (h : fillR sz (List.replicate len (litCells te.zero)) parts = some rows) (hn : st.length = nn) (k : K ((d, .msl nn 0 len) :: env) (st ++ [some (sz, rows)])) : SOp P ⟨some d, .buildSlice t len ps, ty, pos, aft, gu⟩ env st K := o_any rfl (by
      simp only [aop, ht, hk, he, hp, hs, h]
      rw [if_pos ⟨hz, hl⟩]
      simp [hn]) k
end

/-! ### Small words for states told anew -/
theorem ci {st : St} {L : SrcL} {v : AV} (h : immB v = true) : Rs st L v v := .imm (immB_imm h)
theorem ce {st : St} {L : SrcL} {t : Nat} {v : AV} {e0 env : Ev} (h1 : look env t = some v) (h2 : immB v = true) (r : EnvRs st L e0 env) : EnvRs st L ((t, v) :: e0) env := ⟨⟨v, h1, ci h2⟩, r⟩
theorem cv {st : St} {L : SrcL} {t : Nat} {v0 v : AV} {e0 env : Ev} (h1 : look env t = some v) (h2 : Rs st L v0 v) (r : EnvRs st L e0 env) : EnvRs st L ((t, v0) :: e0) env := ⟨⟨v, h1, h2⟩, r⟩
theorem cn {st : St} {L : SrcL} {env : Ev} : EnvRs st L [] env := trivial
theorem rsMap {α : Type} {st : St} {L : SrcL} {l : List α} {f : α → List AV} (h : ∀ x, immLB (f x) = true) : RsRows st L (l.map f) (l.map f) :=
  ⟨rfl, fun i hi _ => ⟨rfl, fun j hj _ => .imm (by
    obtain ⟨y, _, hy⟩ := List.mem_map.1 (List.getElem_mem hi)
    have := (immL_of (h y)).mem
    rw [hy] at this
    exact this _ (List.getElem_mem hj))⟩⟩
def RsLs (st : St) (L : SrcL) : List AV → List AV → Prop
  | [], [] => True
  | x :: l, y :: r => Rs st L x y ∧ RsLs st L l r
  | _, _ => False
theorem RsLs.get {st : St} {L : SrcL} : ∀ {l r : List AV}, RsLs st L l r → l.length = r.length ∧ ∀ i (h : i < l.length) (h' : i < r.length), Rs st L l[i] r[i]
  | [], [], _ => ⟨rfl, fun i h => by cases h⟩
  | [], _ :: _, h => h.elim
  | _ :: _, [], h => h.elim
  | x :: l, y :: r, h => by
    obtain ⟨h1, h2⟩ := RsLs.get h.2
    refine ⟨by simp [h1], fun i hi hi' => ?_⟩
    cases i with
    | zero => exact h.1
    | succ i => exact h2 i (by simpa using hi) (by simpa using hi')
def RsRowsL (st : St) (L : SrcL) : List (List AV) → List (List AV) → Prop
  | [], [] => True
  | x :: l, y :: r => RsLs st L x y ∧ RsRowsL st L l r
  | _, _ => False
theorem rsOne {st : St} {L : SrcL} {r0 r : List AV} (h : RsLs st L r0 r) : RsRows st L [r0] [r] :=
  ⟨rfl, fun i hi _ => by
    have : i = 0 := by simp at hi; exact hi
    subst this
    exact ⟨h.get.1, fun j h1 h2 => h.get.2 j h1 h2⟩⟩
theorem rsRows {st : St} {L : SrcL} : ∀ {l r : List (List AV)}, RsRowsL st L l r → RsRows st L l r
  | [], [], _ => ⟨rfl, fun i h => by cases h⟩
  | [], _ :: _, h => h.elim
  | _ :: _, [], h => h.elim
  | x :: l, y :: r, h => by
    obtain ⟨h1, h2⟩ := rsRows h.2
    refine ⟨by simp [h1], fun i hi hi' => ?_⟩
    cases i with
    | zero => exact ⟨h.1.get.1, fun j a b => h.1.get.2 j a b⟩
    | succ i => exact h2 i (by simpa using hi) (by simpa using hi')
theorem rsAgg {st : St} {L : SrcL} {l r : List AV} (h : RsLs st L l r) : Rs st L (.agg l) (.agg r) := .agg h.get.1 h.get.2
theorem rsFn {st : St} {L : SrcL} {f : Fn} {a a' b b' : List AV} (h : RsLs st L a a') (h' : RsLs st L b b') : Rs st L (.fn f a b) (.fn f a' b') := .fn h.get.1 h.get.2 h'.get.1 h'.get.2
theorem rsTup {st : St} {L : SrcL} {l r : List AV} (h : RsLs st L l r) : Rs st L (.tup l) (.tup r) := .tup h.get.1 h.get.2
/-- A whole slice of the call's own, from now on never written. -/
theorem rsSeal {α : Type} {st : St} {L : SrcL} {b sz : Nat} {l : List α} {f : α → List AV} (hD : kept L b = false) (hb : st[b]? = some (some (sz, l.map f))) (h : ∀ x, immLB (f x) = true) : Rs st L (.isl sz (l.map f)) (.msl b 0 l.length) :=
  .sl hD hb (by simp) (by simp) (fun r hr x hx => by obtain ⟨y, _, rfl⟩ := List.mem_map.1 hr; exact (immL_of (h y)).mem x hx) (fun q _ _ _ => by simp) (fun q _ _ h2 j _ h4 => by
    have : (l.map f)[0 + q]'(by simpa using h2) = (l.map f)[q] := by simp
    simp only [this]
    exact .imm ((immL_of (h l[q])).mem _ (by simp)))
/-- The same of rows one by one. -/
def RsX (st : St) (L : SrcL) : List (List AV) → List (List AV) → Prop
  | [], [] => True
  | r0 :: l, r :: q => (RsLs st L r0 r ∧ immLB r0 = true) ∧ RsX st L l q
  | _, _ => False
theorem RsX.get {st : St} {L : SrcL} : ∀ {l r : List (List AV)}, RsX st L l r → l.length = r.length ∧ ∀ i (h : i < l.length) (h' : i < r.length), RsLs st L l[i] r[i] ∧ immLB l[i] = true
  | [], [], _ => ⟨rfl, fun i h => by cases h⟩
  | [], _ :: _, h => h.elim
  | _ :: _, [], h => h.elim
  | x :: l, y :: r, h => by
    obtain ⟨h1, h2⟩ := RsX.get h.2
    refine ⟨by simp [h1], fun i hi hi' => ?_⟩
    cases i with
    | zero => exact h.1
    | succ i => exact h2 i (by simpa using hi) (by simpa using hi')
theorem rsSealX {st : St} {L : SrcL} {b sz n : Nat} {els els' : List (List AV)} (hD : kept L b = false) (hb : st[b]? = some (some (sz, els))) (h : RsX st L els' els) (hn : els.length = n := by rfl) : Rs st L (.isl sz els') (.msl b 0 n) := by
  subst hn
  refine .sl hD hb (by simp) h.get.1 (fun r hr x hx => ?_) (fun q _ h1 h2 => ?_) (fun q _ h1 h2 j h3 h4 => ?_)
  · obtain ⟨i, hi, rfl⟩ := List.getElem_of_mem hr
    exact (immL_of (h.get.2 i hi (by rw [← h.get.1]; exact hi)).2).mem x hx
  · have := (h.get.2 q h2 (by omega)).1.get.1
    simp only [Nat.zero_add]; exact this.symm
  · have := (h.get.2 q h2 (by omega)).1.get.2 j h4 (by simpa using h3)
    simpa using this
theorem sbOk {α : Type} {sz : Nat} {l : List α} {f : α → List AV} (h : ∀ x, immLB (f x) = true) : (SB.many sz (l.map f)).ok := fun r hr x hx => by
  obtain ⟨y, _, rfl⟩ := List.mem_map.1 hr
  exact (immL_of (h y)).mem x hx
end Go.Proofs.YthhkdanpjcnegaaGreat
