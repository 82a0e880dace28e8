/- The abstract layer, part 5: numbers, strings, structs and literals; all operations that are no calls of Go functions, in one theorem. -/
import Derived.Test.YthhkdanpjcnegaaGreatAb4
import Derived.Laws.IdiomStrings
import Derived.Laws.BytesArg
import Derived.Laws.Tables
import Derived.Laws.StructEq
namespace Go.Proofs.YthhkdanpjcnegaaGreat
set_option linter.unusedSimpArgs false
set_option linter.unusedVariables false
set_option linter.unusedSectionVars false

/-! ### Numbers, truths, strings -/
def cmpI : BinOp → Int → Int → Option Bool
  | .eql, a, b => some (a == b)
  | .neq, a, b => some (a != b)
  | .lss, a, b => some (a < b)
  | .leq, a, b => some (a ≤ b)
  | .gtr, a, b => some (a > b)
  | .geq, a, b => some (a ≥ b)
  | _, _, _ => none

def arI (k : IntKind) : BinOp → Int → Int → Option Int
  | .add, a, b => some (k.wrap (a + b))
  | .sub, a, b => some (k.wrap (a - b))
  | .mul, a, b => some (k.wrap (a * b))
  | .quo, a, b => if b = 0 then none else some (k.wrap (a.tdiv b))
  | .rem, a, b => if b = 0 then none else some (a.tmod b)
  | .and, a, b => some (k.wrap (BitVec.ofInt k.bits a &&& BitVec.ofInt k.bits b).toNat)
  | .or, a, b => some (k.wrap (BitVec.ofInt k.bits a ||| BitVec.ofInt k.bits b).toNat)
  | .xor, a, b => some (k.wrap (BitVec.ofInt k.bits a ^^^ BitVec.ofInt k.bits b).toNat)
  | _, _, _ => none

def shI (k : IntKind) : BinOp → Int → Int → Option Int
  | .shl, a, b => if b < 0 then none else some (k.wrap (a * 2 ^ (min b.toNat k.bits)))
  | .shr, a, b => if b < 0 then none else some (a.fdiv (2 ^ (min b.toNat k.bits)))
  | _, _, _ => none

def strB : BinOp → List UInt8 → List UInt8 → Option AV
  | .eql, a, b => some (.lit (.bool (a == b)))
  | .neq, a, b => some (.lit (.bool (!(a == b))))
  | .lss, a, b => some (.lit (.bool (Op.bytesLess a b)))
  | .add, a, b => if a.length + b.length ≤ 9223372036854775807 then some (.lit (.string ⟨⟨a ++ b⟩⟩)) else none
  | _, _, _ => none

def abin (tk : TK) (op : BinOp) : AV → AV → Option AV
  | .lit (.int k a), .lit (.int k' b) =>
    match shI k op a b with
    | some r => some (.lit (.int k r))
    | none => if k = k' then
        match cmpI op a b with
        | some r => some (.lit (.bool r))
        | none => (arI k op a b).map fun r => .lit (.int k r)
      else none
  | .lit (.string a), .lit (.string b) => strB op a.data.toList b.data.toList
  | .lit (.bool a), .lit (.bool b) =>
    match tk, op with
    | .bool, .eql => some (.lit (.bool (a == b)))
    | .bool, .neq => some (.lit (.bool (!(a == b))))
    | _, _ => none
  | _, _ => none

theorem guard_lit {P : Program} (op : BinOp) (t : TypeId) (x y : Operand) (a b : Value) (w : World) (h : (∃ k n, a = .int k n) ∨ (∃ s, a = .string s) ∨ (∃ s, a = .bool s)) :
    (eqGuard op t x y a b).run P w = .ok () w := by
  unfold eqGuard
  rcases h with ⟨k, n, rfl⟩ | ⟨s, rfl⟩ | ⟨s, rfl⟩ <;> simp

theorem run_eq_bool {P : Program} {w : World} {t : TypeId} (hd : P.underlying t = some .bool) (p q : Bool) : (Op.equal t (.bool p) (.bool q)).run P w = .ok (p == q) w := by
  have key : ∀ d, (Op.equalIn (d + 1) t (.bool p) (.bool q)).run P w = .ok (p == q) w := fun d => by
    rw [Op.equalIn]; simp [run_underlying hd]
  exact key 9999

theorem bin_sound {P : Program} {A m nb w} {t : TypeId} {ti : TI} {op : BinOp} {x y : Operand} {av bv r : AV} {a b : Value} (ht : tiOf P t = some ti) (ha : V A m nb w av a) (hb : V A m nb w bv b)
    (h : abin ti.k op av bv = some r) : ∃ v, (do eqGuard op t x y a b; binOp op t a b : Sem Value).run P w = .ok v w ∧ V A m nb w r v := by
  obtain ⟨d, i0, hd, _, _, _, _, hdk, _⟩ := tiOf_inv ht
  unfold abin at h
  split at h
  · rename_i k n k' n'
    have ea := ha.lit_inv
    have eb := hb.lit_inv
    subst ea; subst eb
    have hg := guard_lit (P := P) op t x y (.int k n) (.int k' n') w (.inl ⟨k, n, rfl⟩)
    split at h
    · rename_i q hq
      cases h
      refine ⟨_, ?_, .imm (.lit _)⟩
      cases op <;> simp only [shI] at hq <;> try cases hq
      all_goals
        split at hq
        · cases hq
        · rename_i hn
          cases hq
          simp [hg, binOp, Op.shift, hn]
    · rename_i hq
      split at h
      · rename_i hkk
        subst hkk
        split at h
        · rename_i q hq2
          cases h
          refine ⟨_, ?_, .imm (.lit _)⟩
          cases op <;> simp only [cmpI] at hq2 <;> cases hq2 <;> simp [hg, binOp, Op.intCmp]
        · rename_i hq2
          cases hr : arI k op n n' with
          | none => rw [hr] at h; cases h
          | some q =>
            rw [hr] at h; cases h
            refine ⟨_, ?_, .imm (.lit _)⟩
            cases op <;> simp only [arI] at hr <;> try cases hr
            case quo =>
              split at hr
              · cases hr
              · rename_i hn; cases hr; simp [hg, binOp, Op.intDiv, hn]
            case rem =>
              split at hr
              · cases hr
              · rename_i hn; cases hr; simp [hg, binOp, Op.intDiv, hn]
            all_goals simp [hg, binOp, Op.intArith, Op.intBits]
      · cases h
  · rename_i s u
    have ea := ha.lit_inv
    have eb := hb.lit_inv
    subst ea; subst eb
    have hg := guard_lit (P := P) op t x y (.string s) (.string u) w (.inr (.inl ⟨s, rfl⟩))
    have e1 : ∀ s : ByteArray, s.toList = s.data.toList := fun s => ByteArray.toList_eq s
    cases op <;> simp only [strB] at h <;> try cases h
    case add =>
      split at h
      · rename_i hle
        cases h
        refine ⟨_, ?_, .imm (.lit _)⟩
        have hs : ¬ ((s.size : Int) + (u.size : Int) > IntKind.i64.max) := by
          have e2 : s.size = s.data.toList.length := by simp
          have e3 : u.size = u.data.toList.length := by simp
          have e4 : IntKind.i64.max = 9223372036854775807 := by decide
          rw [e4, e2, e3]; omega
        have e5 : s ++ u = ⟨⟨s.data.toList ++ u.data.toList⟩⟩ := by
          apply ByteArray.ext
          simp
        simp only [hg, binOp, Op.stringOp, Sem.run_bind, Result.andThen_ok]
        rw [← e5]
        simp
        rw [show IntKind.i64.max = 9223372036854775807 by decide] at hs
        omega
      · cases h
    all_goals (refine ⟨_, ?_, .imm (.lit _)⟩; simp [hg, binOp, Op.stringOp, e1])
  · rename_i p q
    have ea := ha.lit_inv
    have eb := hb.lit_inv
    subst ea; subst eb
    have hg := guard_lit (P := P) op t x y (.bool p) (.bool q) w (.inr (.inr ⟨p, rfl⟩))
    split at h
    · rename_i htk
      rw [htk] at hdk
      have := tk_bool hdk
      subst this
      cases h
      refine ⟨_, ?_, .imm (.lit _)⟩
      simp [hg, binOp, run_eq_bool hd]
    · rename_i htk
      rw [htk] at hdk
      have := tk_bool hdk
      subst this
      cases h
      refine ⟨_, ?_, .imm (.lit _)⟩
      simp [hg, binOp, run_eq_bool hd]
    · cases h
  · cases h

def aun : UnOp → AV → Option AV
  | .neg, .lit (.int k n) => some (.lit (.int k (k.wrap (0 - n))))
  | .xor, .lit (.int k n) => some (.lit (.int k (k.wrap (BitVec.ofInt k.bits (if k.signed then -1 else k.max) ^^^ BitVec.ofInt k.bits n).toNat)))
  | .not, .lit (.bool b) => some (.lit (.bool !b))
  | _, _ => none

theorem un_sound {P : Program} {A m nb w} {op : UnOp} {av r : AV} {a : Value} (ha : V A m nb w av a) (h : aun op av = some r) : ∃ v, (Op.unary op a).run P w = .ok v w ∧ V A m nb w r v := by
  unfold aun at h
  split at h <;> first | (cases h; have := ha.lit_inv; subst this; exact ⟨_, by simp [Op.unary, Op.intArith, Op.intBits], .imm (.lit _)⟩) | cases h

/-! ### Strings and bytes -/
def byteRow (b : UInt8) : List AV := [.lit (.int .u8 b.toNat)]
def rowByte : List AV → Option UInt8
  | [.lit (.int .u8 n)] => if ((UInt8.ofNat n.toNat).toNat : Int) = n then some (UInt8.ofNat n.toNat) else none
  | _ => none
def bytesOf : List (List AV) → Option (List UInt8)
  | [] => some []
  | r :: l => match rowByte r, bytesOf l with | some b, some bs => some (b :: bs) | _, _ => none

theorem rowByte_row (b : UInt8) : rowByte (byteRow b) = some b := by
  have : UInt8.ofNat b.toNat = b := by simp
  simp [rowByte, byteRow]
theorem bytesOf_map (l : List UInt8) : bytesOf (l.map byteRow) = some l := by
  induction l with
  | nil => rfl
  | cons b l ih => simp only [List.map_cons, bytesOf, rowByte_row, ih]
theorem rowByte_inv {r b} (h : rowByte r = some b) : r = byteRow b := by
  unfold rowByte at h
  split at h
  · rename_i n
    split at h
    · rename_i e; cases h; simp only [byteRow, e]
    · cases h
  · cases h
theorem bytesOf_inv : ∀ {l : List (List AV)} {bs : List UInt8}, bytesOf l = some bs → l = bs.map byteRow
  | [], bs, h => by cases h; rfl
  | r :: l, bs, h => by
    simp only [bytesOf] at h
    split at h
    · rename_i b bs' h1 h2
      cases h
      rw [rowByte_inv h1, bytesOf_inv h2]; rfl
    · cases h

def aconv (st : St) (ks kd : TK) (ke : TK) (x : AV) : Option (AV × St) :=
  match kd, x with
  | .int k, .lit (.int _ n) => some (.lit (.int k (k.wrap n)), st)
  | .str, .lit (.string s) => match ks with | .str => some (.lit (.string s), st) | _ => none
  | .str, x =>
    match ks, ke with
    | .slc _, .int .u8 =>
      match rowsOf st 1 x with
      | some els => (bytesOf els).map fun bs => (.lit (.string ⟨⟨bs⟩⟩), st)
      | none => none
    | _, _ => none
  | .slc _, .lit (.string s) =>
    match ks, ke with
    | .str, .int .u8 => some (.msl st.length 0 s.data.toList.length, st ++ [some (1, s.data.toList.map byteRow)])
    | _, _ => none
  | _, _ => none

theorem V.bytes {A m nb w b v} (h : V A m nb w (.lit (.int .u8 (b : UInt8).toNat)) v) : v = .int .u8 b.toNat := h.lit_inv

theorem conv_sound {P : Program} {A m w st} {s d e : TypeId} {is id ie : TI} {x av : AV} {xv : Value} {st'} (hR : R A m w st) (hs : tiOf P s = some is) (hd : tiOf P d = some id)
    (hke : (∃ e', is.k = .slc e' ∧ e' = e) ∨ (∃ e', id.k = .slc e' ∧ e' = e) ∨ ((∀ e', is.k ≠ .slc e') ∧ ∀ e', id.k ≠ .slc e')) (he : tiOf P e = some ie)
    (hx : V A m st.length w x xv) (h : aconv st is.k id.k ie.k x = some (av, st')) :
    ∃ v w' m', (convert s d xv).run P w = .ok v w' ∧ R A m' w' st' ∧ Step A m st.length w A m' st'.length w' ∧ V A m' st'.length w' av v := by
  obtain ⟨ds, _, hds, _, _, _, _, hdsk, _⟩ := tiOf_inv hs
  obtain ⟨dd, _, hdd, _, _, _, _, hddk, _⟩ := tiOf_inv hd
  obtain ⟨de, _, hde, _, _, _, _, hdek, _⟩ := tiOf_inv he
  unfold aconv at h
  split at h
  · rename_i k k' n hk
    cases h
    rw [hk] at hddk
    have := tk_int hddk
    subst this
    have := hx.lit_inv
    subst this
    exact ⟨_, w, m, by simp [convert, run_underlying hds, run_underlying hdd, Conv.intToInt], hR, Step.refl _ _ _ _, .imm (.lit _)⟩
  · rename_i u hk
    split at h
    · rename_i hk2
      cases h
      rw [hk] at hddk; rw [hk2] at hdsk
      have := tk_str hddk
      subst this
      have := tk_str hdsk
      subst this
      have := hx.lit_inv
      subst this
      exact ⟨_, w, m, by simp [convert, run_underlying hds, run_underlying hdd], hR, Step.refl _ _ _ _, .imm (.lit _)⟩
    · cases h
  · rename_i hk hns
    split at h
    · rename_i e' hk2 hk3
      split at h
      · rename_i els hrows
        cases hb : bytesOf els with
        | none => rw [hb] at h; cases h
        | some bs =>
          rw [hb] at h
          simp at h
          obtain ⟨rfl, rfl⟩ := h
          rw [hk] at hddk; rw [hk2] at hdsk; rw [hk3] at hdek
          have := tk_str hddk
          subst this
          have := tk_slc hdsk
          subst this
          have := tk_int hdek
          subst this
          have hee : e' = e := by
            rcases hke with ⟨e2, h1, h2⟩ | ⟨e2, h1, h2⟩ | ⟨h1, _⟩
            · rw [hk2] at h1; cases h1; exact h2
            · rw [hk] at h1; cases h1
            · exact absurd hk2 (h1 e')
          subst hee
          have hels := bytesOf_inv hb
          subst hels
          rcases rows_sound hR hrows hx with ⟨h0, a, cap, rfl⟩ | ⟨B, o, cap, rfl, hcap, hrd⟩
          · have hbs : bs = [] := by simpa using h0
            subst hbs
            refine ⟨.string ⟨⟨[]⟩⟩, w, m, ?_, hR, Step.refl _ _ _ _, .imm (.lit _)⟩
            cases a with
            | none => rw [run_convert_bytes_nil w s e' hds hde 0 cap d hdd]; rfl
            | some a => exact run_convert_bytes_back w s d e' a cap [] hds hde hdd (fun j hj => by simp at hj)
          · refine ⟨.string ⟨⟨bs⟩⟩, w, m, ?_, hR, Step.refl _ _ _ _, .imm (.lit _)⟩
            have hl : (bs.map byteRow).length = bs.length := by simp
            rw [hl]
            refine run_convert_bytes_back w s d e' ⟨B, o, none⟩ cap bs hds hde hdd (fun j hj => ?_)
            obtain ⟨v, h1, h2⟩ := hrd.val j (by simpa using hj) 0 (by simp [byteRow])
            rw [addr_add]
            have h3 : (List.map byteRow bs)[j]'(by simpa using hj) = byteRow bs[j] := by simp
            simp only [h3, byteRow] at h2
            simp only [List.getElem_cons_zero] at h2
            rw [V.bytes h2] at h1
            simpa using h1
      · cases h
    · cases h
  · rename_i e' u hk
    split at h
    · rename_i hk2 hk3
      cases h
      rw [hk] at hddk; rw [hk2] at hdsk; rw [hk3] at hdek
      have := tk_slc hddk
      subst this
      have := tk_str hdsk
      subst this
      have := tk_int hdek
      subst this
      have hee : e' = e := by
        rcases hke with ⟨e2, h1, h2⟩ | ⟨e2, h1, h2⟩ | ⟨_, h1⟩
        · rw [hk2] at h1; cases h1
        · rw [hk] at h1; cases h1; exact h2
        · exact absurd hk (h1 e')
      subst hee
      have := hx.lit_inv
      subst this
      have hr := run_bytes_of_string (P := P) w s d e' u hds hdd hde
      have hsz : u.size = u.data.toList.length := by simp
      have hge := grownCap_ge w u.size 0 e'
      have hbl : (bytesRow u (grownCap w u.size 0 e')).size = grownCap w u.size 0 e' := by
        have h9 : u.data.size = u.size := rfl
        simp [bytesRow]
        omega
      have hcell : ∀ off, off < grownCap w u.size 0 e' → ∃ v, (w.drew.alloc (.cells (bytesRow u (grownCap w u.size 0 e')) e' ((bytesRow u (grownCap w u.size 0 e')).size, (bytesRow u (grownCap w u.size 0 e')).size + 1))).cell? ⟨w.heap.size, off, none⟩ = some v ∧ (bytesRow u (grownCap w u.size 0 e'))[off]? = some v := fun off ho => by
        have := World.cell?_alloc_mark w.drew (bytesRow u (grownCap w u.size 0 e')) e' ((bytesRow u (grownCap w u.size 0 e')).size, (bytesRow u (grownCap w u.size 0 e')).size + 1) off
        rw [Array.getElem?_eq_getElem (by rw [hbl]; exact ho)] at this
        exact ⟨_, this, Array.getElem?_eq_getElem (by rw [hbl]; exact ho)⟩
      have hg : Grow w (w.drew.alloc (.cells (bytesRow u (grownCap w u.size 0 e')) e' ((bytesRow u (grownCap w u.size 0 e')).size, (bytesRow u (grownCap w u.size 0 e')).size + 1))) := (Grow.drew w).trans (Grow.alloc _ _)
      have hp := hR.push hg ⟨true, w.heap.size, 0, 1, grownCap w u.size 0 e'⟩ (u.data.toList.map byteRow)
        (fun _ => ⟨Nat.le_refl _, by show w.heap.size < (w.drew.alloc _).heap.size; rw [World.size_alloc]; exact Nat.lt_succ_self _⟩) (fun h => by cases h)
        (fun _ off ho => by obtain ⟨v, h1, _⟩ := hcell off ho; exact ⟨v, h1⟩)
        (fun _ off ho => by
          have hh : (w.drew.alloc (.cells (bytesRow u (grownCap w u.size 0 e')) e' ((bytesRow u (grownCap w u.size 0 e')).size, (bytesRow u (grownCap w u.size 0 e')).size + 1))).heap[w.heap.size]? = some (.cells (bytesRow u (grownCap w u.size 0 e')) e' ((bytesRow u (grownCap w u.size 0 e')).size, (bytesRow u (grownCap w u.size 0 e')).size + 1)) := by
            show (w.heap.push _)[w.heap.size]? = _
            simp
          have ho' : off < (bytesRow u (grownCap w u.size 0 e')).size := by rw [hbl]; exact ho
          simp only [World.frozen?, hh]
          have : decide ((bytesRow u (grownCap w u.size 0 e')).size ≤ off) = false := by simpa using ho'
          rw [this]; rfl)
        (fun _ => by simp; have : u.data.size = u.size := rfl; omega) (fun i hi => by simp [byteRow])
        (fun _ i hi j hj => by
          have hi' : i < u.data.toList.length := by simpa using hi
          have h3 : (List.map byteRow u.data.toList)[i] = byteRow u.data.toList[i] := by simp
          have hj0 : j = 0 := by simp [h3, byteRow] at hj; exact hj
          subst hj0
          obtain ⟨v, h1, h2⟩ := hcell i (by omega)
          refine ⟨v, by simpa using h1, ?_⟩
          have hv : v = .int .u8 u.data.toList[i].toNat := by
            have h8 : i < u.data.size := by simpa using hi'
            have h9 : i < u.size := h8
            simp [bytesRow, Array.getElem?_append, h9] at h2
            rw [← h2]; simp
          simp only [h3, byteRow, List.getElem_cons_zero, hv]
          exact .imm (.lit _))
      have hlen : (st ++ [some (1, u.data.toList.map byteRow)]).length = st.length + 1 := by simp
      rw [hlen]
      refine ⟨_, _, _, hr, hp.1, hp.2, .msl _ _ _ _ _ _ (Nat.lt_succ_self _) fun b hb => ?_⟩
      simp [BM.put] at hb
      subst hb
      exact ⟨hsz, by omega, .inr ⟨rfl, by simp, by simp⟩⟩
    · cases h
  · cases h

/-! ### Two structs of numbers, truths, texts -/
inductive EK where
  | int | bool | str
def ekOf : TK → Option EK
  | .int _ => some .int
  | .bool => some .bool
  | .str => some .str
  | _ => none
def eqFS (P : Program) : List Field → Option (List (Nat × EK))
  | [] => some []
  | f :: r =>
    if f.name ≠ "_" then
      match tiOf P f.type, eqFS P r with
      | some ti, some l => (ekOf ti.k).map fun k => (f.offset, k) :: l
      | _, _ => none
    else none
/-- The parts by which two structs of a type are held against each other. -/
def eqSpec (P : Program) (t : TypeId) : Option (List (Nat × EK)) :=
  match P.underlying t with
  | some (.struct fs) => if P.stoodInHeld t = false ∧ P.eqGuardType P.depth t = false then eqFS P fs.toList else none
  | _ => none
def eqLit : EK → AV → AV → Option Bool
  | .int, .lit (.int k a), .lit (.int k' b) => if k = k' then some (a == b) else none
  | .bool, .lit (.bool a), .lit (.bool b) => some (a == b)
  | .str, .lit (.string a), .lit (.string b) => some (a.data.toList == b.data.toList)
  | _, _, _ => none
def eqParts (cs ds : List AV) : List (Nat × EK) → Option Bool
  | [] => some true
  | (o, k) :: r =>
    match cs[o]?, ds[o]?, eqParts cs ds r with
    | some a, some b, some q => (eqLit k a b).map fun p => p && q
    | _, _, _ => none
def aeq (P : Program) (t : TypeId) (op : BinOp) : AV → AV → Option AV
  | .agg cs, .agg ds =>
    match eqSpec P t with
    | some l => match op with
      | .eql => (eqParts cs ds l).map fun b => .lit (.bool b)
      | .neq => (eqParts cs ds l).map fun b => .lit (.bool (!b))
      | _ => none
    | none => none
  | _, _ => none

theorem vl_get {A m nb} {w : World} {cs : List AV} {xs : Array Value} (hx : VL A m nb w cs xs) {o : Nat} {a : AV} (h : cs[o]? = some a) : ∃ v, xs[o]? = some v ∧ V A m nb w a v := by
  obtain ⟨h1, h2⟩ := List.getElem?_eq_some_iff.1 h
  have h3 := hx.2 o h1
  rw [h2] at h3
  have h4 : o < xs.size := by rw [hx.1]; exact h1
  refine ⟨xs[o], by simp [h4], ?_⟩
  simpa [Array.getD_eq_getD_getElem?, h4] using h3

theorem eqOne {P : Program} {A m nb} {w : World} {t : TypeId} {ti : TI} {k : EK} {a b : AV} {x y : Value} {p : Bool} (ht : tiOf P t = some ti) (hk : ekOf ti.k = some k) (ha : V A m nb w a x) (hb : V A m nb w b y) (h : eqLit k a b = some p) (d : Nat) :
    (Op.equalIn (d + 1) t x y).run P w = .ok p w ∧ ti.k.isAgg = some false := by
  obtain ⟨dd, i0, hd, _, _, _, _, hdk, _⟩ := tiOf_inv ht
  unfold ekOf at hk
  split at hk <;> cases hk
  · rename_i kk hkk
    refine ⟨?_, by rw [hkk]; rfl⟩
    unfold eqLit at h
    split at h
    · split at h
      · rename_i he; subst he; cases h
        rw [ha.lit_inv, hb.lit_inv]
        rw [hkk] at hdk
        have : ∃ k3, dd = .int k3 := by cases dd <;> simp [tkOf] at hdk <;> first | exact ⟨_, rfl⟩ | (split at hdk <;> cases hdk)
        obtain ⟨k3, rfl⟩ := this
        exact run_equalIn_int w d t _ k3 _ _ hd
      · cases h
    · contradiction
    · contradiction
    · cases h
  · rename_i hkk
    refine ⟨?_, by rw [hkk]; rfl⟩
    unfold eqLit at h
    split at h
    · contradiction
    · cases h
      rw [ha.lit_inv, hb.lit_inv]
      rw [hkk] at hdk
      have : dd = .bool := by cases dd <;> simp [tkOf] at hdk <;> first | rfl | (split at hdk <;> cases hdk)
      subst this
      exact run_equalIn_bool' w d t _ _ hd
    · contradiction
    · cases h
  · rename_i hkk
    refine ⟨?_, by rw [hkk]; rfl⟩
    unfold eqLit at h
    split at h
    · contradiction
    · contradiction
    · cases h
      rw [ha.lit_inv, hb.lit_inv]
      rw [hkk] at hdk
      have : dd = .string := by cases dd <;> simp [tkOf] at hdk <;> first | rfl | (split at hdk <;> cases hdk)
      subst this
      have := run_equalIn_string (P := P) w d t
      rw [this _ _ hd, ByteArray.toList_eq, ByteArray.toList_eq]
    · cases h

theorem eqFS_sound {P : Program} {A m nb} {w : World} {cs ds : List AV} {xs ys : Array Value} (hx : VL A m nb w cs xs) (hy : VL A m nb w ds ys) (d : Nat) : ∀ {fs : List Field} {l : List (Nat × EK)} {b : Bool}, eqFS P fs = some l → eqParts cs ds l = some b → (Op.eqFields (d + 1) xs ys fs).run P w = .ok b w
  | [], l, b, h, h2 => by cases h; cases h2; simp [Op.eqFields]
  | f :: fs, l, b, h, h2 => by
    unfold eqFS at h
    split at h
    · rename_i hn
      split at h
      · rename_i ti l' ht hl'
        cases hk : ekOf ti.k with
        | none => rw [hk] at h; cases h
        | some k =>
          rw [hk] at h; cases h
          unfold eqParts at h2
          split at h2
          · rename_i a b' q ha hb hq
            cases hp : eqLit k a b' with
            | none => rw [hp] at h2; cases h2
            | some p =>
              rw [hp] at h2; cases h2
              obtain ⟨x, hx1, hx2⟩ := vl_get hx ha
              obtain ⟨y, hy1, hy2⟩ := vl_get hy hb
              obtain ⟨h3, h4⟩ := eqOne ht hk hx2 hy2 hp d
              have hia := run_isAgg w ht h4
              have ih := eqFS_sound hx hy d hl' hq
              have px : (part f.type xs f.offset).run P w = .ok x w := by simp [part, hia, hx1]
              have py : (part f.type ys f.offset).run P w = .ok y w := by simp [part, hia, hy1]
              unfold Op.eqFields
              rw [if_pos hn]
              simp only [Sem.run_bind, px, py, h3, Result.andThen_ok, Sem.run_ite]
              cases p with
              | true => simpa using ih
              | false => simp
          · cases h2
      · cases h
    · cases h

theorem aeq_sound {P : Program} {A m nb w} {t : TypeId} {op : BinOp} {x y : Operand} {av bv r : AV} {a b : Value} (ha : V A m nb w av a) (hb : V A m nb w bv b) (h : aeq P t op av bv = some r) :
    ∃ v, (do eqGuard op t x y a b; binOp op t a b : Sem Value).run P w = .ok v w ∧ V A m nb w r v := by
  unfold aeq at h
  split at h
  · rename_i cs ds
    split at h
    · rename_i l hl
      obtain ⟨xs, rfl, hx⟩ := ha.agg_inv
      obtain ⟨ys, rfl, hy⟩ := hb.agg_inv
      unfold eqSpec at hl
      split at hl
      · rename_i fs hfs
        split at hl
        · rename_i hc
          have hfo : P.fieldsOf t = fs := by unfold Program.fieldsOf; rw [hfs]
          have hg : (eqGuard op t x y (.agg xs) (.agg ys)).run P w = .ok () w := run_eqGuard_agg w op t x y xs ys hc.2
          have key : ∀ p, eqParts cs ds l = some p → (Op.equalIn 10000 t (.agg xs) (.agg ys)).run P w = .ok p w := fun p hp => by
            rw [run_equalIn_agg w 9999 t xs ys (by rw [hfo]; exact hfs) hc.1, hfo]
            exact eqFS_sound hx hy 9998 hl hp
          cases hp : eqParts cs ds l with
          | none => rw [hp] at h; cases op <;> cases h
          | some p =>
            rw [hp] at h
            cases op <;> cases h
            · exact ⟨.bool p, by simp only [Sem.run_bind, hg, Result.andThen_ok, run_eql_struct, key p hp], .imm (.lit _)⟩
            · exact ⟨.bool (!p), by simp only [Sem.run_bind, hg, Result.andThen_ok, run_neq_struct, key p hp], .imm (.lit _)⟩
        · cases hl
      · cases hl
    · cases h
  · cases h
end Go.Proofs.YthhkdanpjcnegaaGreat
