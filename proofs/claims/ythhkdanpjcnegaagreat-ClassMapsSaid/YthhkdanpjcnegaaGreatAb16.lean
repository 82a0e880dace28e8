/- The abstract layer, part 16: what the printed walks need besides. -/
import Derived.Test.YthhkdanpjcnegaaGreatAb15
import Derived.Test.YthhkdanpjcnegaaGreatTypes
namespace Go.Proofs.YthhkdanpjcnegaaGreat
set_option linter.unusedSimpArgs false
set_option linter.unusedVariables false
set_option linter.unusedSectionVars false

/-! ### A loop at the end of its code -/
/-- K holds of the state, or of one that it may be told anew as. -/
def OW (n nb0 : Nat) (K : Ev → St → Prop) (env : Ev) (st : St) : Prop := ∀ A m w a, nb0 ≤ st.length → R A m w st → Env A m st.length w n env a → Onward A m nb0 w n K a w
theorem ow_intro {n nb0 : Nat} {K : Ev → St → Prop} {env : Ev} {st : St} (h : K env st) : OW n nb0 K env st := fun A m w a h0 hR hE => ⟨A, m, env, st, hR, hE, Step.refl0 _ _ _ _ h0, h⟩

theorem sw_lpl {P : Program} {n nb0 : Nat} {env : Ev} {st : St} {id : Nat} {c : Code} {Q : Exit → Ev → St → Prop} {X B R : Type} (E : X → Ev) (S : X → St) (E' : B → Ev) (S' : B → St) (post : R → Ev → St → Prop) {body : X → Option (Sum X (Sum B R))} {z0 : X} {o : Sum B R}
    (ho : loopP body z0 = some o) (hc : Can nb0 (E z0) (S z0) env st) (round : ∀ z r, body z = some r → SW P n nb0 c (LQ id nb0 E S E' S' post r) (E z) (S z))
    (hb : ∀ b, o = .inl b → OW n nb0 (Q .normal) (E' b) (S' b)) (hr : ∀ r, o = .inr r → ∀ env st, post r env st → Q .ret env st) : SW P n nb0 (.block id (.loop c)) Q env st := by
  obtain ⟨N, hN⟩ := loopP_ex ho
  have key : SW P n nb0 (.block id (.loop c)) (fun e env st => match e with | .normal => ∃ b, o = .inl b ∧ Can nb0 (E' b) (S' b) env st | e => Q e env st) env st := by
    refine sw_block (sw_loop (fun k env st => ∃ z, loopN body k z = some o ∧ Can nb0 (E z) (S z) env st) N ⟨z0, hN, hc⟩ ?_)
    rintro k env st ⟨z, hz, hcan⟩
    cases k with
    | zero => cases hz
    | succ k =>
      unfold loopN at hz
      cases hbz : body z with
      | none => rw [hbz] at hz; cases hz
      | some r =>
        rw [hbz] at hz
        refine sw_can hcan ((round z r hbz).mono fun e env st h => ?_)
        cases e with
        | normal =>
          obtain ⟨z', rfl, h2⟩ := h
          exact ⟨k, Nat.lt_succ_self k, z', hz, h2⟩
        | exit i =>
          obtain ⟨rfl, b, rfl, h2⟩ := h
          simp only [thenQ, blockQ, if_true]
          exact ⟨b, (sm hz).symm, h2⟩
        | ret =>
          obtain ⟨r', rfl, h2⟩ := h
          exact hr r' (sm hz).symm env st h2
        | goto l => exact h.elim
        | panic c => exact h.elim
        | outgrown => exact h.elim
  intro A m w a h0 hR hE
  refine wp_mono (key A m w a h0 hR hE) fun e a' w' ho => ?_
  cases e with
  | normal =>
    obtain ⟨A', m', e', s', k1, k2, k3, b, hob, L, h1, h2, h3, h4, h5⟩ := ho
    have hs := RsSt.of h2 h3
    exact (hb b hob _ _ _ _ h5 (k1.rs hs) (k2.rs k1 hs h1)).trans (k3.rs hs h4 h5)
  | exit i => exact ho
  | ret => exact ho
  | goto l => exact ho
  | panic c => exact ho
  | outgrown => exact ho

/-! ### Numbers by their bits -/
def xorI (k : IntKind) (n : Int) : Int := k.wrap (BitVec.ofInt k.bits (if k.signed then -1 else k.max) ^^^ BitVec.ofInt k.bits n).toNat
def andI (k : IntKind) (a b : Int) : Int := k.wrap (BitVec.ofInt k.bits a &&& BitVec.ofInt k.bits b).toNat
def orI (k : IntKind) (a b : Int) : Int := k.wrap (BitVec.ofInt k.bits a ||| BitVec.ofInt k.bits b).toNat
def xor2I (k : IntKind) (a b : Int) : Int := k.wrap (BitVec.ofInt k.bits a ^^^ BitVec.ofInt k.bits b).toNat

section
variable {P : Program} {env : Ev} {st : St} {K : Ev → St → Prop} {d : Nat} {ty : TypeId} {pos : String} {aft : Array Edge} {gu : Option (Nat × Bool)}
theorem xo {t : TypeId} {x : Operand} {kk : IntKind} {a : Int} (hx : ev env x = some (.lit (.int kk a))) (k : K ((d, .lit (.int kk (xorI kk a))) :: env) st) : SOp P ⟨some d, .unOp .xor t x, ty, pos, aft, gu⟩ env st K := o_any rfl (by simp [aop, hx, aun, xorI]) k
theorem band {t u : TypeId} {x y : Operand} {ti : TI} {kk : IntKind} {a b : Int} (ht : tiOf P t = some ti) (hx : ev env x = some (.lit (.int kk a))) (hy : ev env y = some (.lit (.int kk b))) (k : K ((d, .lit (.int kk (andI kk a b))) :: env) st) :
    SOp P ⟨some d, .binOp .and t x y u, ty, pos, aft, gu⟩ env st K := arb ht hx hy (.inr ⟨rfl, rfl, rfl, rfl⟩) k
theorem bor {t u : TypeId} {x y : Operand} {ti : TI} {kk : IntKind} {a b : Int} (ht : tiOf P t = some ti) (hx : ev env x = some (.lit (.int kk a))) (hy : ev env y = some (.lit (.int kk b))) (k : K ((d, .lit (.int kk (orI kk a b))) :: env) st) :
    SOp P ⟨some d, .binOp .or t x y u, ty, pos, aft, gu⟩ env st K := arb ht hx hy (.inr ⟨rfl, rfl, rfl, rfl⟩) k
theorem bxor {t u : TypeId} {x y : Operand} {ti : TI} {kk : IntKind} {a b : Int} (ht : tiOf P t = some ti) (hx : ev env x = some (.lit (.int kk a))) (hy : ev env y = some (.lit (.int kk b))) (k : K ((d, .lit (.int kk (xor2I kk a b))) :: env) st) :
    SOp P ⟨some d, .binOp .xor t x y u, ty, pos, aft, gu⟩ env st K := arb ht hx hy (.inr ⟨rfl, rfl, rfl, rfl⟩) k

/-- A number's last eight bits. -/
def tU8 (n : Int) : UInt8 := UInt8.ofNat (n % 256).toNat
theorem tU8_wrap (n : Int) : IntKind.u8.wrap n = ((tU8 n).toNat : Int) := by
  have e : (tU8 n).toNat = (n % 256).toNat % 256 := by unfold tU8; simp
  rw [e]
  have h1 : 0 ≤ n % 256 := Int.emod_nonneg _ (by decide)
  have h2 : n % 256 < 256 := Int.emod_lt_of_pos _ (by decide)
  have : IntKind.u8.wrap n = n % 256 := by simp [IntKind.wrap, IntKind.bits, IntKind.signed]
  omega
theorem cv8 {s t : TypeId} {x : Operand} {si ti : TI} {kk : IntKind} {n : Int} (hs : tiOf P s = some si) (ht : tiOf P t = some ti) (h1 : si.k = .int kk) (h2 : ti.k = .int .u8) (hx : ev env x = some (.lit (.int kk n))) (k : K ((d, .lit (.int .u8 ((tU8 n).toNat : Int))) :: env) st) :
    SOp P ⟨some d, .convert s t x, ty, pos, aft, gu⟩ env st K := by rw [← tU8_wrap] at k; exact cvi hs ht h1 h2 hx k
theorem cvu8 {s t : TypeId} {x : Operand} {si ti : TI} {c : UInt8} (hs : tiOf P s = some si) (ht : tiOf P t = some ti) (h1 : si.k = .int .u8) (h2 : ti.k = .int .u8) (hx : ev env x = some (.lit (.int .u8 (c.toNat : Int)))) (k : K ((d, .lit (.int .u8 (c.toNat : Int))) :: env) st) :
    SOp P ⟨some d, .convert s t x, ty, pos, aft, gu⟩ env st K := by
  have e : tU8 (c.toNat : Int) = c := by
    unfold tU8
    have h1 := c.toNat_lt
    have : ((c.toNat : Int) % 256).toNat = c.toNat := by omega
    rw [this]; simp
  have := cv8 (ty := ty) (pos := pos) (aft := aft) (gu := gu) (K := K) (d := d) hs ht h1 h2 hx (by rw [e]; exact k)
  exact this
theorem band8 {t u : TypeId} {x y : Operand} {ti : TI} {a b : UInt8} (ht : tiOf P t = some ti) (hx : ev env x = some (.lit (.int .u8 (a.toNat : Int)))) (hy : ev env y = some (.lit (.int .u8 (b.toNat : Int)))) (k : K ((d, .lit (.int .u8 ((a &&& b).toNat : Int))) :: env) st) :
    SOp P ⟨some d, .binOp .and t x y u, ty, pos, aft, gu⟩ env st K := by
  refine arb ht hx hy (.inr ⟨rfl, rfl, rfl, ?_⟩) k
  simp only [arI]
  rw [tU8_wrap]
  congr 2
  unfold tU8
  have h1 : (BitVec.ofInt IntKind.u8.bits (a.toNat : Int) &&& BitVec.ofInt IntKind.u8.bits (b.toNat : Int)).toNat = (a &&& b).toNat := by
    have ea : BitVec.ofInt 8 (a.toNat : Int) = a.toBitVec := by apply BitVec.eq_of_toNat_eq; simp
    have eb : BitVec.ofInt 8 (b.toNat : Int) = b.toBitVec := by apply BitVec.eq_of_toNat_eq; simp
    show (BitVec.ofInt 8 (a.toNat : Int) &&& BitVec.ofInt 8 (b.toNat : Int)).toNat = _
    rw [ea, eb]; rfl
  rw [h1]
  have h2 := (a &&& b).toNat_lt
  have : (((a &&& b).toNat : Int) % 256).toNat = (a &&& b).toNat := by omega
  rw [this]; simp
theorem bor8 {t u : TypeId} {x y : Operand} {ti : TI} {a b : UInt8} (ht : tiOf P t = some ti) (hx : ev env x = some (.lit (.int .u8 (a.toNat : Int)))) (hy : ev env y = some (.lit (.int .u8 (b.toNat : Int)))) (k : K ((d, .lit (.int .u8 ((a ||| b).toNat : Int))) :: env) st) :
    SOp P ⟨some d, .binOp .or t x y u, ty, pos, aft, gu⟩ env st K := by
  refine arb ht hx hy (.inr ⟨rfl, rfl, rfl, ?_⟩) k
  simp only [arI]
  rw [tU8_wrap]
  congr 2
  unfold tU8
  have h1 : (BitVec.ofInt IntKind.u8.bits (a.toNat : Int) ||| BitVec.ofInt IntKind.u8.bits (b.toNat : Int)).toNat = (a ||| b).toNat := by
    have ea : BitVec.ofInt 8 (a.toNat : Int) = a.toBitVec := by apply BitVec.eq_of_toNat_eq; simp
    have eb : BitVec.ofInt 8 (b.toNat : Int) = b.toBitVec := by apply BitVec.eq_of_toNat_eq; simp
    show (BitVec.ofInt 8 (a.toNat : Int) ||| BitVec.ofInt 8 (b.toNat : Int)).toNat = _
    rw [ea, eb]; rfl
  rw [h1]
  have h2 := (a ||| b).toNat_lt
  have : (((a ||| b).toNat : Int) % 256).toNat = (a ||| b).toNat := by omega
  rw [this]; simp
theorem roN {α : Type} {sz : Nat} {f : α → List AV} : rowsOf st sz (.lit (.slice none 0 0)) = some (([] : List α).map f) := rfl
theorem roX {α : Type} {sz b n : Nat} {z : List α} {f : α → List AV} (hb : st[b]? = some (some (sz, z.map f))) (hn : n = z.length) : rowsOf st sz (.msl b 0 n) = some (z.map f) := by subst hn; exact roM hb
theorem cut_spec {α : Type} {l r : List α} {a b : Int} (h : cutP l a b = some r) : 0 ≤ a ∧ a ≤ b ∧ b ≤ l.length := by
  unfold cutP at h
  split at h
  · assumption
  · cases h
theorem bnd_lo {α : Type} {l r : List α} {a b : Int} {x : Operand} {k : Nat} (hx : ev env x = some (.lit (.int .i64 a))) (h : cutP l a b = some r) : bndOf env k (some x) = some a.toNat := by
  simp [bndOf, hx, natOf, (cut_spec h).1]
theorem bnd_hi {α : Type} {l r : List α} {a b : Int} {x : Operand} {k : Nat} (hx : ev env x = some (.lit (.int .i64 b))) (h : cutP l a b = some r) : bndOf env k (some x) = some b.toNat := by
  have := cut_spec h
  simp [bndOf, hx, natOf, show 0 ≤ b by omega]
end

/-! ### Arguments that are only read -/
theorem si {st : St} {v : AV} (h : immB v = true) : Seal st v v := .imm (immB_imm h)
def SealLs (st : St) : List AV → List AV → Prop
  | [], [] => True
  | x :: l, y :: r => Seal st x y ∧ SealLs st l r
  | _, _ => False
theorem SealLs.get {st : St} : ∀ {l r : List AV}, SealLs st l r → l.length = r.length ∧ ∀ i (h : i < l.length) (h' : i < r.length), Seal st l[i] r[i]
  | [], [], _ => ⟨rfl, fun i h => by cases h⟩
  | [], _ :: _, h => h.elim
  | _ :: _, [], h => h.elim
  | x :: l, y :: r, h => by
    obtain ⟨h1, h2⟩ := SealLs.get h.2
    refine ⟨by simp [h1], fun i hi hi' => ?_⟩
    cases i with
    | zero => exact h.1
    | succ i => exact h2 i (by simpa using hi) (by simpa using hi')
theorem sealM {α : Type} {st : St} {b sz : Nat} {l : List α} {f : α → List AV} (hb : st[b]? = some (some (sz, l.map f))) (h : ∀ x, immLB (f x) = true) : Seal st (.msl b 0 l.length) (.isl sz (l.map f)) :=
  .msl hb (by simp) (by simp) (fun q _ _ _ => by simp) (fun q _ _ h2 j _ h4 => by
    have : (l.map f)[0 + q]'(by simpa using h2) = (l.map f)[q] := by simp
    simp only [this]
    refine .imm ?_
    obtain ⟨y, _, hy⟩ := List.mem_map.1 (List.getElem_mem h2)
    have h6 := (immL_of (h y)).mem
    rw [hy] at h6
    exact h6 _ (List.getElem_mem h4))
def SealX (st : St) : List (List AV) → List (List AV) → Prop
  | [], [] => True
  | x :: l, y :: r => SealLs st x y ∧ SealX st l r
  | _, _ => False
theorem SealX.get {st : St} : ∀ {l r : List (List AV)}, SealX st l r → l.length = r.length ∧ ∀ i (h : i < l.length) (h' : i < r.length), SealLs st l[i] r[i]
  | [], [], _ => ⟨rfl, fun i h => by cases h⟩
  | [], _ :: _, h => h.elim
  | _ :: _, [], h => h.elim
  | x :: l, y :: r, h => by
    obtain ⟨h1, h2⟩ := SealX.get h.2
    refine ⟨by simp [h1], fun i hi hi' => ?_⟩
    cases i with
    | zero => exact h.1
    | succ i => exact h2 i (by simpa using hi) (by simpa using hi')
theorem sealX {st : St} {b sz n : Nat} {els els' : List (List AV)} (hb : st[b]? = some (some (sz, els))) (h : SealX st els els') (hn : els.length = n := by rfl) : Seal st (.msl b 0 n) (.isl sz els') := by
  subst hn
  refine .msl hb (by simp) h.get.1.symm (fun q _ h1 h2 => ?_) (fun q _ h1 h2 j h3 h4 => ?_)
  · have := (h.get.2 q (by omega) h2).get.1
    simp only [Nat.zero_add]; exact this
  · have := (h.get.2 q (by omega) h2).get.2 j (by simpa using h3) h4
    simpa using this
theorem sealBox {st : St} {b k j : Nat} {cs cs' : List AV} (hb : st[b]? = some (some (k, [cs]))) (h : SealLs st cs cs') : Seal st (.mpt b 0 j) (.ipt k [cs'] 0 j) := by
  refine .mpt hb rfl (fun q h1 h2 => ?_) (fun q h1 h2 i h3 h4 => ?_)
  · have : q = 0 := by simp at h1; exact h1
    subst this; exact h.get.1
  · have : q = 0 := by simp at h1; exact h1
    subst this; exact h.get.2 i h3 h4
theorem sealAgg {st : St} {cs cs' : List AV} (h : SealLs st cs cs') : Seal st (.agg cs) (.agg cs') := .agg h.get.1 h.get.2
theorem sealFn {st : St} {f : Fn} {a a' b b' : List AV} (h : SealLs st a a') (h' : SealLs st b b') : Seal st (.fn f a b) (.fn f a' b') := .fn h.get.1 h.get.2 h'.get.1 h'.get.2
mutual
def plB : AV → Bool
  | .any => true
  | .lit _ => true
  | .agg cs => plLB cs
  | .tup cs => plLB cs
  | _ => false
def plLB : List AV → Bool
  | [] => true
  | x :: l => plB x && plLB l
end
inductive PlainL : List AV → Prop
  | nil : PlainL []
  | cons {x l} (h : Plain x) (t : PlainL l) : PlainL (x :: l)
theorem PlainL.mem {l : List AV} (h : PlainL l) : ∀ x ∈ l, Plain x := by
  induction h with
  | nil => exact fun x hx => by cases hx
  | cons h _ ih =>
    intro x hx
    rcases List.mem_cons.1 hx with h1 | h1
    · exact h1 ▸ h
    · exact ih x h1
mutual
theorem plB_of : ∀ {x : AV}, plB x = true → Plain x
  | .any, _ => .any
  | .lit v, _ => .lit v
  | .isl _ _, h => by cases h
  | .ipt _ _ _ _, h => by cases h
  | .msl _ _ _, h => by cases h
  | .mpt _ _ _, h => by cases h
  | .fn _ _ _, h => by cases h
  | .agg cs, h => .agg cs (plLB_of h).mem
  | .tup cs, h => .tup cs (plLB_of h).mem
theorem plLB_of : ∀ {l : List AV}, plLB l = true → PlainL l
  | [], _ => .nil
  | x :: l, h => .cons (plB_of (Bool.and_eq_true_iff.1 h).1) (plLB_of (Bool.and_eq_true_iff.1 h).2)
end
theorem plainB {v : AV} (h : plB v = true := by rfl) : Plain v := plB_of h
theorem mkI {α : Type} {l : List α} {f : α → List AV} (h : ∀ x, immLB (f x) = true) : ∀ r ∈ l.map f, ∀ x ∈ r, Imm x := fun r hr x hx => by
  obtain ⟨y, _, rfl⟩ := List.mem_map.1 hr
  exact (immL_of (h y)).mem x hx

/-- Nil slices as slices of no elements. -/
inductive Nl : AV → AV → Prop
  | imm {x} (h : Imm x) : Nl x x
  | nil {k} : Nl (.lit (.slice none 0 0)) (.isl k [])
  | agg {cs cs' : List AV} (hl : cs.length = cs'.length) (hr : ∀ i (h : i < cs.length) (h' : i < cs'.length), Nl cs[i] cs'[i]) : Nl (.agg cs) (.agg cs')
theorem Nl.vi {A : Nat → Prop} {w : World} {x y : AV} (h : Nl x y) : ∀ {v m nb}, V A m nb w x v → VI A w y v := by
  induction h with
  | imm h => exact fun hv => h.vi hv
  | nil => intro v m nb hv; rw [hv.lit_inv]; exact .inil _ _ _
  | agg hl hr ih =>
    intro v m nb hv
    obtain ⟨a, rfl, h1, h2⟩ := hv.agg_inv
    exact .agg _ _ (by omega) fun i hi => ih i (by omega) hi (h2 i (by omega))
def NlL : List AV → List AV → Prop
  | [], [] => True
  | x :: l, y :: r => Nl x y ∧ NlL l r
  | _, _ => False
theorem NlL.get : ∀ {l r : List AV}, NlL l r → l.length = r.length ∧ ∀ i (h : i < l.length) (h' : i < r.length), Nl l[i] r[i]
  | [], [], _ => ⟨rfl, fun i h => by cases h⟩
  | [], _ :: _, h => h.elim
  | _ :: _, [], h => h.elim
  | x :: l, y :: r, h => by
    obtain ⟨h1, h2⟩ := NlL.get h.2
    refine ⟨by simp [h1], fun i hi hi' => ?_⟩
    cases i with
    | zero => exact h.1
    | succ i => exact h2 i (by simpa using hi) (by simpa using hi')
theorem nlI {v : AV} (h : immB v = true) : Nl v v := .imm (immB_imm h)
theorem nlN {k : Nat} : Nl (.lit (.slice none 0 0)) (.isl k []) := .nil
theorem nlA {cs cs' : List AV} (h : NlL cs cs') : Nl (.agg cs) (.agg cs') := .agg h.get.1 h.get.2
theorem pcn {P : Program} {env : Ev} {st : St} {K : Ev → St → Prop} {d : Nat} {ty : TypeId} {pos : String} {aft : Array Edge} {gu : Option (Nat × Bool)} {c : Call} {g : FuncId} {args args' : List AV} {res : AV} (h : PureC P g args' res)
    (hc : isCall (.call c) = true) (hg : acall env (.call c) = some (g, args)) (hi : NlL args args') (k : K ((d, res) :: env) st) : SOp P ⟨some d, .call c, ty, pos, aft, gu⟩ env st K := by
  unfold SOp
  simp only [hc, hg]
  refine ⟨h.1, fun A m w vals hR hv => (h.2 A w vals hR.aLow ⟨by rw [← hi.get.1]; exact hv.1, fun i hi' => (hi.get.2 i (by rw [hi.get.1]; exact hi') hi').vi (hv.2 i (by rw [hi.get.1]; exact hi'))⟩).mono fun e w' ⟨v, he, hg, hvi⟩ => ?_⟩
  obtain ⟨h1, h2⟩ := hR.grow (A' := andNew A w w') hg (fun B hB => .inl hB) (fun B hB => hB)
  exact ⟨v, _, m, st, res, he, h1, h2, .imm hvi, k⟩
theorem rnFn {ρ : Nat → Option Nat} {f : Fn} {a a' b b' : List AV} (h : RnLs ρ a a') (h' : RnLs ρ b b') : Rn ρ (.fn f a b) (.fn f a' b') := .fn h.get.1 h.get.2 h'.get.1 h'.get.2
theorem rnAgg {ρ : Nat → Option Nat} {a a' : List AV} (h : RnLs ρ a a') : Rn ρ (.agg a) (.agg a') := .agg h.get.1 h.get.2
theorem rnI {ρ : Nat → Option Nat} {v : AV} (h : immB v = true) : Rn ρ v v := .imm (immB_imm h)
end Go.Proofs.YthhkdanpjcnegaaGreat
