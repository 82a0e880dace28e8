/- The abstract layer, part 13: walks that a program prints: the code's worth as an Option, loops with no measure, one rule an operation. -/
import Derived.Test.YthhkdanpjcnegaaGreatAb12
namespace Go.Proofs.YthhkdanpjcnegaaGreat
set_option linter.unusedSimpArgs false
set_option linter.unusedVariables false
set_option linter.unusedSectionVars false

/-! ### Worth that may fail -/
theorem bs {α β : Type} {m : Option α} {k : α → Option β} {r : β} (h : (m.bind k) = some r) : ∃ x, m = some x ∧ k x = some r := by
  cases m with
  | none => cases h
  | some x => exact ⟨x, rfl, h⟩
theorem sm {α : Type} {x y : α} (h : some x = some y) : x = y := Option.some.inj h
theorem bT {α : Type} {c : Bool} {x y r : α} (hc : c = true) (h : cond c x y = r) : x = r := by rw [hc] at h; exact h
theorem bF {α : Type} {c : Bool} {x y r : α} (hc : c = false) (h : cond c x y = r) : y = r := by rw [hc] at h; exact h

section
variable {X Y : Type}
/-- A loop's rounds, at most n. -/
def loopN (body : X → Option (Sum X Y)) : Nat → X → Option Y
  | 0, _ => none
  | n + 1, x =>
    match body x with
    | some (.inl x') => loopN body n x'
    | some (.inr y) => some y
    | none => none

open Classical in
/-- A loop's worth, if it ends well. -/
noncomputable def loopP (body : X → Option (Sum X Y)) (x : X) : Option Y :=
  if h : ∃ n y, loopN body n x = some y then some h.choose_spec.choose else none

theorem loopN_mono {body : X → Option (Sum X Y)} : ∀ {n k : Nat} {x : X} {y : Y}, loopN body n x = some y → n ≤ k → loopN body k x = some y
  | 0, _, _, _, h, _ => by cases h
  | n + 1, 0, _, _, _, hk => by omega
  | n + 1, k + 1, x, y, h, hk => by
    unfold loopN at h ⊢
    split at h
    · rename_i x' hx; exact loopN_mono h (by omega)
    · rename_i z hx; exact h
    · cases h

theorem loopP_of {body : X → Option (Sum X Y)} {n : Nat} {x : X} {y : Y} (h : loopN body n x = some y) : loopP body x = some y := by
  have hex : ∃ n y, loopN body n x = some y := ⟨n, y, h⟩
  unfold loopP
  rw [dif_pos hex]
  congr 1
  have h1 := hex.choose_spec.choose_spec
  have h2 := loopN_mono h1 (Nat.le_max_left hex.choose n)
  have h3 := loopN_mono h (Nat.le_max_right hex.choose n)
  exact sm (h2.symm.trans h3)

theorem loopP_ex {body : X → Option (Sum X Y)} {x : X} {y : Y} (h : loopP body x = some y) : ∃ n, loopN body n x = some y := by
  unfold loopP at h
  split at h
  · rename_i hex
    cases h
    exact ⟨_, hex.choose_spec.choose_spec⟩
  · cases h

theorem loopP_eq (body : X → Option (Sum X Y)) (x : X) : loopP body x = (body x).bind (Sum.elim (loopP body) some) := by
  cases hb : body x with
  | none =>
    cases h : loopP body x with
    | none => rfl
    | some y =>
      obtain ⟨n, hn⟩ := loopP_ex h
      cases n with
      | zero => cases hn
      | succ n => unfold loopN at hn; rw [hb] at hn; cases hn
  | some r =>
    cases r with
    | inr y => exact loopP_of (n := 1) (by unfold loopN; rw [hb])
    | inl x' =>
      show loopP body x = loopP body x'
      cases h : loopP body x' with
      | some y =>
        obtain ⟨n, hn⟩ := loopP_ex h
        exact loopP_of (n := n + 1) (by unfold loopN; rw [hb]; exact hn)
      | none =>
        cases h2 : loopP body x with
        | none => rfl
        | some y =>
          obtain ⟨n, hn⟩ := loopP_ex h2
          cases n with
          | zero => cases hn
          | succ n =>
            unfold loopN at hn
            rw [hb] at hn
            rw [loopP_of hn] at h
            cases h
end

/-- What a loop leaves by: on behind it, or out of it. -/
def leave {B R R' : Type} (o : Sum B R) (k : B → Option R') (f : R → Option R') : Option R' :=
  match o with
  | .inl b => k b
  | .inr r => f r

abbrev B (l : List UInt8) : ByteArray := ⟨⟨l⟩⟩
theorem B_eta (s : ByteArray) : B s.data.toList = s := rfl

/-- An element by a number of the language. -/
def idx {α : Type} (l : List α) (i : Int) : Option α := if 0 ≤ i then l[i.toNat]? else none
theorem idx_some {α : Type} {l : List α} {i : Int} {x : α} (h : idx l i = some x) : 0 ≤ i ∧ i.toNat < l.length ∧ l[i.toNat]? = some x := by
  unfold idx at h
  split at h
  · rename_i h0
    exact ⟨h0, (List.getElem?_eq_some_iff.1 h).1, h⟩
  · cases h
/-- A piece of a list. -/
def cutP {α : Type} (l : List α) (lo hi : Int) : Option (List α) := if 0 ≤ lo ∧ lo ≤ hi ∧ hi ≤ l.length then some ((l.drop lo.toNat).take (hi.toNat - lo.toNat)) else none
/-- A number as a byte. -/
def u8P (n : Int) : Option UInt8 := if 0 ≤ n ∧ n < 256 then some (UInt8.ofNat n.toNat) else none
theorem u8P_some {n : Int} {b : UInt8} (h : u8P n = some b) : (b.toNat : Int) = n := by
  unfold u8P at h
  split at h
  · cases h
    have e : (UInt8.ofNat n.toNat).toNat = n.toNat % 256 := by simp
    rw [e]; omega
  · cases h
/-- A list to which something is appended: is there room? -/
def appP {α : Type} (w : Nat) (l x : List α) : Option (List α) := if (l.length + x.length) * w ≤ 140737488355328 ∧ l.length + x.length ≤ 9223372036854775807 then some (l ++ x) else none
theorem appP_some {α : Type} {w : Nat} {l x r : List α} (h : appP w l x = some r) : r = l ++ x ∧ (l.length + x.length) * w ≤ 140737488355328 ∧ l.length + x.length ≤ 9223372036854775807 := by
  unfold appP at h
  split at h
  · rename_i h1; cases h; exact ⟨rfl, h1⟩
  · cases h
/-- Two texts one behind the other. -/
def catP (l x : List UInt8) : Option (List UInt8) := if l.length + x.length ≤ 9223372036854775807 then some (l ++ x) else none
def quoP (k : IntKind) (a b : Int) : Option Int := if b = 0 then none else some (k.wrap (a.tdiv b))
def remP (a b : Int) : Option Int := if b = 0 then none else some (a.tmod b)
def shlP (k : IntKind) (a b : Int) : Option Int := if b < 0 then none else some (k.wrap (a * 2 ^ (min b.toNat k.bits)))
def shrP (k : IntKind) (a b : Int) : Option Int := if b < 0 then none else some (a.fdiv (2 ^ (min b.toNat k.bits)))

/-! ### Regions in the order of the text -/
/-- The operations l1 of a region, with l2 behind them. -/
def SR (P : Program) (n nb0 : Nat) (all l1 l2 : List Oper) (K : Ev → St → Prop) (env : Ev) (st : St) : Prop :=
  ∀ (ops : Array Oper) (i : Nat), ops.toList = all → all.drop i = l1 ++ l2 → all.all (fun o => o.dst.all (· < n)) = true → ∀ A m w a, nb0 ≤ st.length → R A m w st → Env A m st.length w n env a →
    ∀ Q : Exit → Act → World → Prop, (∀ a' w', Onward A m nb0 w n K a' w' → wpOps P ops Q (List.range' (i + l1.length) l2.length) a' w') → wpOps P ops Q (List.range' i (l1.length + l2.length)) a w

section
variable {P : Program} {n nb0 : Nat} {all l1 l2 : List Oper} {K : Ev → St → Prop} {env : Ev} {st : St}

theorem r_nil (h : K env st) : SR P n nb0 all [] l2 K env st := fun ops i ho hd hn A m w a h0 hR hE Q hQ => by
  have := hQ a w ⟨A, m, env, st, hR, hE, Step.refl0 _ _ _ _ h0, h⟩
  simpa using this

theorem r_app {l1' : List Oper} (h : SR P n nb0 all l1 (l1' ++ l2) (fun env st => SR P n nb0 all l1' l2 K env st) env st) : SR P n nb0 all (l1 ++ l1') l2 K env st := fun ops i ho hd hn A m w a h0 hR hE Q hQ => by
  rw [List.append_assoc] at hd
  have h1 := h ops i ho hd hn A m w a h0 hR hE Q fun a' w' ⟨A', m', e', s', k1, k2, k3, k4⟩ => by
    have h2 := k4 ops (i + l1.length) ho (by rw [← List.drop_drop, hd, List.drop_left]) hn A' m' w' a' k3.nbLe k1 k2 Q fun a2 w2 h3 => by
      have := hQ a2 w2 (h3.trans k3)
      rwa [List.length_append, ← Nat.add_assoc] at this
    rwa [List.length_append]
  rw [List.length_append] at h1
  rwa [List.length_append, Nat.add_assoc]

theorem r_split (k : Nat) (h : SR P n nb0 all (l1.take k) (l1.drop k ++ l2) (fun env st => SR P n nb0 all (l1.drop k) l2 K env st) env st) : SR P n nb0 all l1 l2 K env st := by
  have := r_app h
  rwa [List.take_append_drop] at this

theorem r_mono {K' : Ev → St → Prop} (h : SR P n nb0 all l1 l2 K env st) (hk : ∀ env st, K env st → K' env st) : SR P n nb0 all l1 l2 K' env st := fun ops i ho hd hn A m w a h0 hR hE Q hQ =>
  h ops i ho hd hn A m w a h0 hR hE Q fun a' w' ⟨A', m', e', s', k1, k2, k3, k4⟩ => hQ a' w' ⟨A', m', e', s', k1, k2, k3, hk _ _ k4⟩

/-- Fewer things are known. -/
theorem r_less {env' : Ev} (hs : ∀ t v, look env' t = some v → look env t = some v) (h : SR P n nb0 all l1 l2 K env' st) : SR P n nb0 all l1 l2 K env st := fun ops i ho hd hn A m w a h0 hR hE Q hQ =>
  h ops i ho hd hn A m w a h0 hR (hE.less hs) Q hQ

theorem r_at {o : Oper} {ops : Array Oper} {i : Nat} (ho : ops.toList = all) (hd : all.drop i = o :: l1 ++ l2) (hn : all.all (fun o => o.dst.all (· < n)) = true) : ops[i]? = some o ∧ all.drop (i + 1) = l1 ++ l2 ∧ o.dst.all (· < n) = true := by
  have hi : ops[i]? = some o := by
    have : ops.toList[i]? = some o := by
      have h1 : (ops.toList.drop i)[0]? = some o := by rw [ho, hd]; rfl
      simpa using h1
    simpa using this
  refine ⟨hi, ?_, ?_⟩
  · have := congrArg List.tail hd
    simpa [List.tail_drop] using this
  · rw [List.all_eq_true] at hn
    refine hn o ?_
    rw [← ho]
    exact List.mem_of_getElem? (by simpa using hi : ops.toList[i]? = some o)

theorem r_one {o : Oper} (hg : aguard all env o = some true) (h : SOp P o env st fun env' st' => SR P n nb0 all l1 l2 K env' st') : SR P n nb0 all (o :: l1) l2 K env st := fun ops i ho hd hn A m w a h0 hR hE Q hQ => by
  obtain ⟨hi, hd', hdo⟩ := r_at ho hd hn
  have e : (o :: l1).length + l2.length = (l1.length + l2.length) + 1 := by simp; omega
  rw [e, List.range'_succ]
  simp only [wpOps, hi]
  rw [guard_sound hE (ho.symm ▸ hg)]
  simp only [if_true]
  refine .inl (op_wp hR hE hdo h fun a' w' ⟨A', m', env', st', h1, h2, h3, h4⟩ => ?_)
  refine h4 ops (i + 1) ho hd' hn A' m' w' a' (Nat.le_trans h0 h3.nbLe) h1 h2 Q fun a2 w2 k => ?_
  have := hQ a2 w2 (k.trans (h3.weak h0))
  rwa [List.length_cons, Nat.add_comm l1.length 1, ← Nat.add_assoc] at this

variable {d : Option Tmp} {op : Op} {ty : TypeId} {pos : String} {aft : Array Edge}

/-- The next operation has no guard. -/
theorem u (h : SOp P ⟨d, op, ty, pos, aft, none⟩ env st fun env' st' => SR P n nb0 all l1 l2 K env' st') : SR P n nb0 all (⟨d, op, ty, pos, aft, none⟩ :: l1) l2 K env st :=
  r_one rfl h

theorem aguard_of {j : Nat} {want b : Bool} (hv : gval all j env = some (.lit (.bool b))) : aguard all env ⟨d, op, ty, pos, aft, some (j, want)⟩ = some (b == want) := by
  unfold gval at hv
  unfold aguard
  simp only
  cases hd : (all[j]?).bind (·.dst) with
  | none => rw [hd] at hv; cases hv
  | some t =>
    rw [hd] at hv
    simp only [Option.bind_some] at hv
    simp only [hv]

theorem aguard_undef {j : Nat} {want : Bool} (hv : gval all j env = some (.lit undef)) : aguard all env ⟨d, op, ty, pos, aft, some (j, want)⟩ = some false := by
  unfold gval at hv
  unfold aguard
  simp only
  cases hd : (all[j]?).bind (·.dst) with
  | none => rw [hd] at hv; cases hv
  | some t =>
    rw [hd] at hv
    simp only [Option.bind_some] at hv
    simp only [hv, undef]

/-- The next operation's guard holds. -/
theorem g {j : Nat} {want b : Bool} (hv : gval all j env = some (.lit (.bool b))) (hb : b = want) (h : SOp P ⟨d, op, ty, pos, aft, some (j, want)⟩ env st fun env' st' => SR P n nb0 all l1 l2 K env' st') :
    SR P n nb0 all (⟨d, op, ty, pos, aft, some (j, want)⟩ :: l1) l2 K env st :=
  r_one ((aguard_of hv).trans (by rw [hb]; simp)) h

theorem r_skip {o : Oper} (hg : aguard all env o = some false) (h : SR P n nb0 all l1 l2 K (aput o.dst (.lit undef) env) st) : SR P n nb0 all (o :: l1) l2 K env st := fun ops i ho hd hn A m w a h0 hR hE Q hQ => by
  obtain ⟨hi, hd', hdo⟩ := r_at ho hd hn
  have e : (o :: l1).length + l2.length = (l1.length + l2.length) + 1 := by simp; omega
  rw [e, List.range'_succ]
  simp only [wpOps, hi]
  rw [guard_sound hE (ho.symm ▸ hg)]
  simp only [Bool.false_eq_true, if_false]
  refine h ops (i + 1) ho hd' hn A m w _ h0 hR (hE.aput hdo (.imm (.lit _))) Q fun a2 w2 k => ?_
  have := hQ a2 w2 k
  rwa [List.length_cons, Nat.add_comm l1.length 1, ← Nat.add_assoc] at this

def memN (t : Nat) : List Nat → Bool
  | [] => false
  | x :: l => Nat.beq x t || memN t l
/-- A slot that none of these writes, nor the guard's. -/
def keysOut (ds : List Nat) : Ev → Bool
  | [] => true
  | (t, _) :: e => (!memN t ds) && keysOut ds e
def dstsN : List Oper → List Nat
  | [] => []
  | o :: r => match o.dst with | some t => t :: dstsN r | none => dstsN r
def undefs (env : Ev) : List Oper → Ev
  | [] => env
  | o :: r => undefs (aput o.dst (.lit undef) env) r

theorem memN_iff {t : Nat} : ∀ {l : List Nat}, memN t l = true ↔ t ∈ l
  | [] => by simp [memN]
  | x :: l => by
    unfold memN
    rw [Bool.or_eq_true, Nat.beq_eq, memN_iff (l := l), List.mem_cons]
    exact ⟨fun h => h.imp Eq.symm id, fun h => h.imp Eq.symm id⟩

theorem keysOut_look {ds : List Nat} {t : Nat} {v : AV} : ∀ {e : Ev}, keysOut ds e = true → look e t = some v → t ∉ ds
  | [], _, h => by cases h
  | (k, x) :: e, hk, h => by
    simp only [keysOut, Bool.and_eq_true, Bool.not_eq_true'] at hk
    simp only [look] at h
    split at h
    · rename_i e'; subst e'; intro hm; rw [memN_iff.2 hm] at hk; cases hk.1
    · exact keysOut_look hk.2 h

theorem undefs_look {t : Nat} : ∀ {l : List Oper} {env : Ev}, t ∉ dstsN l → look (undefs env l) t = look env t
  | [], _, _ => rfl
  | o :: r, env, h => by
    unfold undefs
    unfold dstsN at h
    cases hd : o.dst with
    | none => rw [hd] at h; exact undefs_look h
    | some d =>
      rw [hd] at h
      simp only [List.mem_cons, not_or] at h
      have h2 := undefs_look (l := r) (env := aput (some d) (.lit undef) env) h.2
      rw [h2]
      have : d ≠ t := fun e => h.1 e.symm
      simp [aput, look, this]

/-- All of these have this guard, or one of a slot that such a one writes. -/
def allG (all : List Oper) (j : Nat) (want : Bool) (seen : List Nat) : List Oper → Bool
  | [] => true
  | o :: r => (match o.guard with
    | some (j', w') => (Nat.beq j' j && (w' == want)) || (match (all[j']?).bind (·.dst) with | some t => memN t seen | none => false)
    | none => false) && allG all j want (match o.dst with | some t => t :: seen | none => seen) r

/-- A guard that does not hold: none of these is done. -/
theorem r_skips {j : Nat} {want b : Bool} {t : Nat} (ht : (all[j]?).bind (·.dst) = some t) : ∀ (l : List Oper) {l1 : List Oper} {env : Ev} {seen : List Nat}, allG all j want seen l = true → (∀ x ∈ seen, look env x = some (.lit undef)) → t ∉ dstsN l → t ∉ seen → look env t = some (.lit (.bool b)) → b = !want →
    SR P n nb0 all l1 l2 K (undefs env l) st → SR P n nb0 all (l ++ l1) l2 K env st
  | [], _, _, _, _, _, _, _, _, _, h => h
  | o :: l, l1, env, seen, ha, hs, hn, hts, hl, hb, h => by
    unfold allG at ha
    obtain ⟨d, op, ty, pos, aft, gu⟩ := o
    cases gu with
    | none => simp at ha
    | some jw =>
      obtain ⟨j', w'⟩ := jw
      simp only [Bool.and_eq_true, Bool.or_eq_true] at ha
      obtain ⟨h1, h2⟩ := ha
      have hsk : aguard all env ⟨d, op, ty, pos, aft, some (j', w')⟩ = some false := by
        rcases h1 with h1 | h1
        · obtain ⟨e1, e2⟩ := h1
          have e1 := Nat.eq_of_beq_eq_true e1
          have e2 := beq_iff_eq.1 e2
          subst e1 e2
          have hgv : gval all j' env = some (.lit (.bool b)) := by unfold gval; rw [ht]; exact hl
          exact (aguard_of hgv).trans (by rw [hb]; simp)
        · split at h1
          · rename_i t' ht'
            have hgv : gval all j' env = some (.lit undef) := by unfold gval; rw [ht']; exact hs t' (memN_iff.1 h1)
            exact aguard_undef hgv
          · cases h1
      refine r_skip hsk ?_
      have hn' : t ∉ dstsN l := fun hm => hn (by unfold dstsN; cases d <;> simp [hm])
      have hd : ∀ d', d = some d' → d' ≠ t := fun d' e e' => hn (by subst e; simp [dstsN, e'])
      refine r_skips ht l h2 (fun x hx => ?_) hn' (fun hm => ?_) ?_ hb h
      · cases d with
        | none => exact hs x hx
        | some d =>
          rcases List.mem_cons.1 hx with rfl | hx
          · simp [aput, look]
          · by_cases e : d = x
            · simp [aput, look, e]
            · simpa [aput, look, e] using hs x hx
      · cases d with
        | none => exact hts hm
        | some d =>
          rcases List.mem_cons.1 hm with h5 | h5
          · exact hd d rfl h5.symm
          · exact hts h5
      · cases d with
        | none => exact hl
        | some d => simpa [aput, look, hd d rfl] using hl

/-- The end of a guarded piece: nothing of what was known is overwritten, its worth is x. -/
def EndG (env : Ev) (st : St) (y : Operand) (x : Bool) (env' : Ev) (st' : St) : Prop :=
  st' = st ∧ (∀ t v, look env t = some v → look env' t = some v) ∧ ev env' y = some (.lit (.bool x))

theorem drop_look {ds : List Nat} {env : Ev} (hk : keysOut ds env = true) : ∀ (k : Nat) {env' : Ev}, env'.drop k = env → (∀ p ∈ env'.take k, memN p.1 ds = true) → ∀ t v, look env t = some v → look env' t = some v
  | 0, env', h, _, t, v, hl => by simp at h; rw [h]; exact hl
  | k + 1, [], h, _, t, v, hl => by simp at h; rw [h] at hl; cases hl
  | k + 1, (a, x) :: e, h, hm, t, v, hl => by
    have h1 := drop_look hk k (env' := e) (by simpa using h) (fun p hp => hm p (by simp [hp])) t v hl
    have h2 : a ∈ ds := memN_iff.1 (hm (a, x) (by simp))
    have h3 : a ≠ t := fun e => keysOut_look hk hl (e ▸ h2)
    simpa [look, h3] using h1

def takesIn (ds : List Nat) : Nat → Ev → Bool
  | 0, _ => true
  | _ + 1, [] => true
  | k + 1, (a, _) :: e => memN a ds && takesIn ds k e
theorem takesIn_spec {ds : List Nat} : ∀ {k : Nat} {e : Ev}, takesIn ds k e = true → ∀ p ∈ e.take k, memN p.1 ds = true
  | 0, _, _, p, hp => by simp at hp
  | k + 1, [], _, p, hp => by simp at hp
  | k + 1, (a, x) :: e, h, p, hp => by
    simp only [takesIn, Bool.and_eq_true] at h
    simp only [List.take_succ_cons, List.mem_cons] at hp
    rcases hp with rfl | hp
    · exact h.1
    · exact takesIn_spec h.2 p hp

/-- The end of a guarded piece of k slots. -/
theorem eg {env env' : Ev} {st : St} {y : Operand} {x : Bool} (ds : List Nat) (k : Nat) (h1 : env'.drop k = env) (h2 : keysOut ds env = true) (h3 : takesIn ds k env' = true) (h4 : ev env' y = some (.lit (.bool x))) : EndG env st y x env' st :=
  ⟨rfl, drop_look h2 k h1 (takesIn_spec h3), h4⟩

/-- c and y: y is asked if c holds. -/
theorem r_and (k : Nat) {dp c : Nat} {y : Operand} {ty' : TypeId} {pos' : String} {aft' : Array Edge} {gp : Option (Nat × Bool)} {j : Nat} {b x : Bool} {l : List Oper} (hl : l1.drop k = ⟨some dp, .pick (.tmp c) y (.const (.bool false)), ty', pos', aft', gp⟩ :: l)
    (hj : (all[j]?).bind (·.dst) = some c) (hc : look env c = some (.lit (.bool b))) (hg : allG all j true [] (l1.take k) = true) (hk : keysOut (dstsN (l1.take k)) env = true)
    (hgp : ∀ env' : Ev, (∀ t v, look env t = some v → look env' t = some v) → aguard all env' ⟨some dp, .pick (.tmp c) y (.const (.bool false)), ty', pos', aft', gp⟩ = some true)
    (hT : b = true → SR P n nb0 all (l1.take k) (l1.drop k ++ l2) (EndG env st y x) env st) (hF : b = false → x = false) (h : SR P n nb0 all l l2 K ((dp, .lit (.bool x)) :: env) st) : SR P n nb0 all l1 l2 K env st := by
  refine r_split k ?_
  rw [hl]
  cases b with
  | true =>
    refine r_mono (by rw [← hl]; exact hT rfl) ?_
    rintro env' st' ⟨rfl, h2, h3⟩
    refine r_one (hgp env' h2) ?_
    unfold SOp
    simp only [isCall, aop]
    have : ev env' (.tmp c) = some (.lit (.bool true)) := h2 c _ hc
    rw [this, h3]
    simp only [Option.map_some, aput]
    refine r_less (fun t v ht => ?_) h
    simp only [look] at ht ⊢
    split
    · rename_i e; rw [if_pos e] at ht; exact ht
    · rename_i e; rw [if_neg e] at ht; exact h2 t v ht
  | false =>
    have hout : ∀ t v, look env t = some v → look (undefs env (l1.take k)) t = some v := fun t v ht => by
      rw [undefs_look (keysOut_look hk ht)]; exact ht
    have := r_skips (P := P) (n := n) (nb0 := nb0) (l2 := l1.drop k ++ l2) (K := fun env st => SR P n nb0 all (l1.drop k) l2 K env st) (st := st) (l1 := []) hj (l1.take k) hg (fun _ h => by cases h) (keysOut_look hk hc) (fun h => by cases h) hc rfl ?_
    · rw [List.append_nil] at this; rwa [hl] at this
    refine r_nil ?_
    rw [hl]
    refine r_one (hgp _ hout) ?_
    unfold SOp
    simp only [isCall, aop]
    have : ev (undefs env (l1.take k)) (.tmp c) = some (.lit (.bool false)) := hout c _ hc
    rw [this]
    simp only [ev, Option.map_some, aput]
    rw [hF rfl] at h
    refine r_less (fun t v ht => ?_) h
    simp only [look] at ht ⊢
    split
    · rename_i e; rw [if_pos e] at ht; exact ht
    · rename_i e; rw [if_neg e] at ht; exact hout t v ht

/-- c or y: y is asked if c does not hold. -/
theorem r_or (k : Nat) {dp c : Nat} {y : Operand} {ty' : TypeId} {pos' : String} {aft' : Array Edge} {gp : Option (Nat × Bool)} {j : Nat} {b x : Bool} {l : List Oper} (hl : l1.drop k = ⟨some dp, .pick (.tmp c) (.const (.bool true)) y, ty', pos', aft', gp⟩ :: l)
    (hj : (all[j]?).bind (·.dst) = some c) (hc : look env c = some (.lit (.bool b))) (hg : allG all j false [] (l1.take k) = true) (hk : keysOut (dstsN (l1.take k)) env = true)
    (hgp : ∀ env' : Ev, (∀ t v, look env t = some v → look env' t = some v) → aguard all env' ⟨some dp, .pick (.tmp c) (.const (.bool true)) y, ty', pos', aft', gp⟩ = some true)
    (hF : b = false → SR P n nb0 all (l1.take k) (l1.drop k ++ l2) (EndG env st y x) env st) (hT : b = true → x = true) (h : SR P n nb0 all l l2 K ((dp, .lit (.bool x)) :: env) st) : SR P n nb0 all l1 l2 K env st := by
  refine r_split k ?_
  rw [hl]
  cases b with
  | false =>
    refine r_mono (by rw [← hl]; exact hF rfl) ?_
    rintro env' st' ⟨rfl, h2, h3⟩
    refine r_one (hgp env' h2) ?_
    unfold SOp
    simp only [isCall, aop]
    have : ev env' (.tmp c) = some (.lit (.bool false)) := h2 c _ hc
    rw [this, h3]
    simp only [Option.map_some, aput]
    refine r_less (fun t v ht => ?_) h
    simp only [look] at ht ⊢
    split
    · rename_i e; rw [if_pos e] at ht; exact ht
    · rename_i e; rw [if_neg e] at ht; exact h2 t v ht
  | true =>
    have hout : ∀ t v, look env t = some v → look (undefs env (l1.take k)) t = some v := fun t v ht => by
      rw [undefs_look (keysOut_look hk ht)]; exact ht
    have := r_skips (P := P) (n := n) (nb0 := nb0) (l2 := l1.drop k ++ l2) (K := fun env st => SR P n nb0 all (l1.drop k) l2 K env st) (st := st) (l1 := []) hj (l1.take k) hg (fun _ h => by cases h) (keysOut_look hk hc) (fun h => by cases h) hc rfl ?_
    · rw [List.append_nil] at this; rwa [hl] at this
    refine r_nil ?_
    rw [hl]
    refine r_one (hgp _ hout) ?_
    unfold SOp
    simp only [isCall, aop]
    have : ev (undefs env (l1.take k)) (.tmp c) = some (.lit (.bool true)) := hout c _ hc
    rw [this]
    simp only [ev, Option.map_some, aput]
    rw [hT rfl] at h
    refine r_less (fun t v ht => ?_) h
    simp only [look] at ht ⊢
    split
    · rename_i e; rw [if_pos e] at ht; exact ht
    · rename_i e; rw [if_neg e] at ht; exact hout t v ht

theorem gpn {env : Ev} {o : Option Tmp} {op : Op} {ty : TypeId} {pos : String} {aft : Array Edge} : ∀ env' : Ev, (∀ t v, look env t = some v → look env' t = some v) → aguard all env' ⟨o, op, ty, pos, aft, none⟩ = some true := fun _ _ => rfl
theorem gps {env : Ev} {o : Option Tmp} {op : Op} {ty : TypeId} {pos : String} {aft : Array Edge} {j t : Nat} {want b : Bool} (hj : (all[j]?).bind (·.dst) = some t) (hv : look env t = some (.lit (.bool b))) (hb : b = want) :
    ∀ env' : Ev, (∀ t v, look env t = some v → look env' t = some v) → aguard all env' ⟨o, op, ty, pos, aft, some (j, want)⟩ = some true := fun env' h => by
  have hgv : gval all j env' = some (.lit (.bool b)) := by unfold gval; rw [hj]; exact h t _ hv
  exact (aguard_of hgv).trans (by rw [hb]; simp)
theorem egA {env env' : Ev} {st : St} {y : Operand} {b v : Bool} (ds : List Nat) (k : Nat) (hb : b = true) (h1 : env'.drop k = env) (h2 : keysOut ds env = true) (h3 : takesIn ds k env' = true) (h4 : ev env' y = some (.lit (.bool v))) : EndG env st y (b && v) env' st :=
  ⟨rfl, drop_look h2 k h1 (takesIn_spec h3), by rw [hb]; exact h4⟩
theorem egO {env env' : Ev} {st : St} {y : Operand} {b v : Bool} (ds : List Nat) (k : Nat) (hb : b = false) (h1 : env'.drop k = env) (h2 : keysOut ds env = true) (h3 : takesIn ds k env' = true) (h4 : ev env' y = some (.lit (.bool v))) : EndG env st y (b || v) env' st :=
  ⟨rfl, drop_look h2 k h1 (takesIn_spec h3), by rw [hb]; exact h4⟩
theorem andF {b v : Bool} (hb : b = false) : (b && v) = false := by rw [hb]; rfl
theorem orT {b v : Bool} (hb : b = true) : (b || v) = true := by rw [hb]; rfl

/-- Blocks that are not asked any more. -/
theorem r_kill (k : Nat) (h : SR P n nb0 all l1 l2 K env (st.take k ++ List.replicate (st.length - k) none)) (hk : Nat.ble k st.length = true) : SR P n nb0 all l1 l2 K env st := fun ops i ho hd hn A m w a h0 hR hE Q hQ => by
  have hk' := Nat.le_of_ble_eq_true hk
  have hlen : (st.take k ++ List.replicate (st.length - k) none).length = st.length := by simp; omega
  let m' : BM := fun l => if l < k then m l else none
  have hm' : ∀ l, l < st.length → m' l = m l ∨ m' l = none := fun l _ => by
    show (if l < k then m l else none) = m l ∨ (if l < k then m l else none) = none
    split
    · exact .inl rfl
    · exact .inr rfl
  have hget : ∀ l b, m' l = some b → l < k ∧ m l = some b := fun l b h => by
    change (if l < k then m l else none) = some b at h
    split at h
    · exact ⟨by assumption, h⟩
    · cases h
  have hst : ∀ l, l < k → (st.take k ++ List.replicate (st.length - k) none)[l]? = st[l]? := fun l hl => by
    rw [List.getElem?_append_left (by simp; omega), List.getElem?_take, if_pos hl]
  have hst2 : ∀ l, k ≤ l → ∀ x, (st.take k ++ List.replicate (st.length - k) none)[l]? = some x → x = none := fun l hl x h => by
    rw [List.getElem?_append_right (by simp; omega)] at h
    exact List.eq_of_mem_replicate (List.mem_of_getElem? h)
  have hS : Step A m st.length w A m' st.length w := ⟨Nat.le_refl _, Nat.le_refl _, fun _ h => h, fun _ h => .inl h, hm', fun l b h hh => .inr ⟨l, b, (hget l b h).2, hh, rfl⟩, fun _ _ _ => rfl, rfl, rfl, rfl⟩
  have hR' : R A m' w (st.take k ++ List.replicate (st.length - k) none) := by
    refine ⟨hR.aLow, fun B l b hA h hh => hR.aOwn B l b hA (hget l b h).2 hh, fun l l' b b' h h' => hR.inj l l' b b' (hget l b h).2 (hget l' b' h').2, fun l b h => ?_, fun l kk els he => ?_⟩
    · obtain ⟨h1, h2⟩ := hget l b h
      rw [hst l h1]
      exact hR.live l b h2
    · by_cases hl : l < k
      · rw [hst l hl] at he
        obtain ⟨b, h1, h2, h3, h4⟩ := hR.blk l kk els he
        refine ⟨b, by show (if l < k then m l else none) = some b; rw [if_pos hl]; exact h1, h2, fun hh => ?_, h4⟩
        rw [hlen]
        exact (h3 hh).keep (Nat.le_refl _) rfl fun av v hv => hv.step hR hS
      · cases hst2 l (by omega) _ he
  have hE' : Env A m' (st.take k ++ List.replicate (st.length - k) none).length w n env a := by rw [hlen]; exact hE.step hR hS
  exact h ops i ho hd hn A m' w a (by rw [hlen]; exact h0) hR' hE' Q fun a' w' k' => hQ a' w' (k'.trans (hS.weak h0))
/-- Blocks that are none. -/
theorem r_pad (j : Nat) (h : SR P n nb0 all l1 l2 K env (st ++ List.replicate j none)) : SR P n nb0 all l1 l2 K env st := fun ops i ho hd hn A m w a h0 hR hE Q hQ => by
  have hlen : (st ++ List.replicate j none).length = st.length + j := by simp
  have hm0 : ∀ l b, m l = some b → l < st.length := fun l b h => hR.lt h
  have hS : Step A m st.length w A m (st.length + j) w := ⟨by omega, Nat.le_refl _, fun _ h => h, fun _ h => .inl h, fun _ _ => .inl rfl, fun l b h hh => .inr ⟨l, b, h, hh, rfl⟩, fun _ _ _ => rfl, rfl, rfl, rfl⟩
  have hR' : R A m w (st ++ List.replicate j none) := by
    refine ⟨hR.aLow, hR.aOwn, hR.inj, fun l b h => ?_, fun l kk els he => ?_⟩
    · rw [List.getElem?_append_left (hm0 l b h)]; exact hR.live l b h
    · by_cases hl : l < st.length
      · rw [List.getElem?_append_left hl] at he
        obtain ⟨b, h1, h2, h3, h4⟩ := hR.blk l kk els he
        refine ⟨b, h1, h2, fun hh => ?_, h4⟩
        rw [hlen]
        exact (h3 hh).keep (Nat.le_refl _) rfl fun av v hv => hv.step hR hS
      · rw [List.getElem?_append_right (by omega)] at he
        cases List.eq_of_mem_replicate (List.mem_of_getElem? he)
  have hE' : Env A m (st ++ List.replicate j none).length w n env a := by rw [hlen]; exact hE.step hR hS
  exact h ops i ho hd hn A m w a (by rw [hlen]; omega) hR' hE' Q fun a' w' k' => hQ a' w' (k'.trans (hS.weak h0))

/-- A slice of no rows more. -/
theorem ph (kk : Nat) (h : SR P n nb0 all l1 l2 K env (st ++ [some (kk, [])])) : SR P n nb0 all l1 l2 K env st := fun ops i ho hd hn A m w a h0 hR hE Q hQ => by
  have hp := hR.push (Grow.refl w) ⟨false, 0, 0, kk, 0⟩ [] (fun h => by cases h) (fun _ => rfl)
    (fun h => by cases h) (fun h => by cases h) (fun h => by cases h) (fun q hq => by cases hq) (fun h => by cases h)
  have hlen : (st ++ [some (kk, [])]).length = st.length + 1 := by simp
  have hE' := hE.step hR hp.2
  rw [← hlen] at hE'
  exact h ops i ho hd hn A _ w a (by rw [hlen]; omega) hp.1 hE' Q fun a' w' k => hQ a' w' (k.trans (hp.2.weak h0))

/-- The end of a guarded piece that made blocks which nobody asks any more. -/
def EndX (jj : Nat) (env : Ev) (st : St) (y : Operand) (x : Bool) (env' : Ev) (st' : St) : Prop :=
  st'.take st.length = st ∧ st'.length = st.length + jj ∧ (∀ t v, look env t = some v → look env' t = some v) ∧ ev env' y = some (.lit (.bool x))
theorem xg {jj : Nat} {env env' : Ev} {st st' : St} {y : Operand} {x : Bool} (ds : List Nat) (k : Nat) (h5 : st'.take st.length = st) (h6 : st'.length = st.length + jj) (h1 : env'.drop k = env) (h2 : keysOut ds env = true) (h3 : takesIn ds k env' = true) (h4 : ev env' y = some (.lit (.bool x))) : EndX jj env st y x env' st' :=
  ⟨h5, h6, drop_look h2 k h1 (takesIn_spec h3), h4⟩
theorem xgA {jj : Nat} {env env' : Ev} {st st' : St} {y : Operand} {b v : Bool} (ds : List Nat) (k : Nat) (hb : b = true) (h5 : st'.take st.length = st) (h6 : st'.length = st.length + jj) (h1 : env'.drop k = env) (h2 : keysOut ds env = true) (h3 : takesIn ds k env' = true) (h4 : ev env' y = some (.lit (.bool v))) : EndX jj env st y (b && v) env' st' :=
  ⟨h5, h6, drop_look h2 k h1 (takesIn_spec h3), by rw [hb]; exact h4⟩
theorem xgO {jj : Nat} {env env' : Ev} {st st' : St} {y : Operand} {b v : Bool} (ds : List Nat) (k : Nat) (hb : b = false) (h5 : st'.take st.length = st) (h6 : st'.length = st.length + jj) (h1 : env'.drop k = env) (h2 : keysOut ds env = true) (h3 : takesIn ds k env' = true) (h4 : ev env' y = some (.lit (.bool v))) : EndX jj env st y (b || v) env' st' :=
  ⟨h5, h6, drop_look h2 k h1 (takesIn_spec h3), by rw [hb]; exact h4⟩
theorem r_andX (k jj : Nat) {dp c : Nat} {y : Operand} {ty' : TypeId} {pos' : String} {aft' : Array Edge} {gp : Option (Nat × Bool)} {j : Nat} {b x : Bool} {l : List Oper} (hl : l1.drop k = ⟨some dp, .pick (.tmp c) y (.const (.bool false)), ty', pos', aft', gp⟩ :: l)
    (hj : (all[j]?).bind (·.dst) = some c) (hc : look env c = some (.lit (.bool b))) (hg : allG all j true [] (l1.take k) = true) (hk : keysOut (dstsN (l1.take k)) env = true)
    (hgp : ∀ env' : Ev, (∀ t v, look env t = some v → look env' t = some v) → aguard all env' ⟨some dp, .pick (.tmp c) y (.const (.bool false)), ty', pos', aft', gp⟩ = some true)
    (hT : b = true → SR P n nb0 all (l1.take k) (l1.drop k ++ l2) (EndX jj env st y x) env st) (hF : b = false → x = false) (h : SR P n nb0 all l l2 K ((dp, .lit (.bool x)) :: env) (st ++ List.replicate jj none)) : SR P n nb0 all l1 l2 K env st := by
  refine r_split k ?_
  rw [hl]
  cases b with
  | true =>
    refine r_mono (by rw [← hl]; exact hT rfl) ?_
    rintro env' st' ⟨h5, h6, h2, h3⟩
    refine r_kill st.length ?_ (by rw [Nat.ble_eq]; omega)
    rw [h5, show st'.length - st.length = jj by omega]
    refine r_one (hgp env' h2) ?_
    unfold SOp
    simp only [isCall, aop]
    have : ev env' (.tmp c) = some (.lit (.bool true)) := h2 c _ hc
    rw [this, h3]
    simp only [Option.map_some, aput]
    refine r_less (fun t v ht => ?_) h
    simp only [look] at ht ⊢
    split
    · rename_i e; rw [if_pos e] at ht; exact ht
    · rename_i e; rw [if_neg e] at ht; exact h2 t v ht
  | false =>
    have hout : ∀ t v, look env t = some v → look (undefs env (l1.take k)) t = some v := fun t v ht => by
      rw [undefs_look (keysOut_look hk ht)]; exact ht
    have := r_skips (P := P) (n := n) (nb0 := nb0) (l2 := l1.drop k ++ l2) (K := fun env st => SR P n nb0 all (l1.drop k) l2 K env st) (st := st) (l1 := []) hj (l1.take k) hg (fun _ h => by cases h) (keysOut_look hk hc) (fun h => by cases h) hc rfl ?_
    · rw [List.append_nil] at this; rwa [hl] at this
    refine r_nil ?_
    refine r_pad jj ?_
    rw [hl]
    refine r_one (hgp _ hout) ?_
    unfold SOp
    simp only [isCall, aop]
    have : ev (undefs env (l1.take k)) (.tmp c) = some (.lit (.bool false)) := hout c _ hc
    rw [this]
    simp only [ev, Option.map_some, aput]
    rw [hF rfl] at h
    refine r_less (fun t v ht => ?_) h
    simp only [look] at ht ⊢
    split
    · rename_i e; rw [if_pos e] at ht; exact ht
    · rename_i e; rw [if_neg e] at ht; exact hout t v ht

theorem r_orX (k jj : Nat) {dp c : Nat} {y : Operand} {ty' : TypeId} {pos' : String} {aft' : Array Edge} {gp : Option (Nat × Bool)} {j : Nat} {b x : Bool} {l : List Oper} (hl : l1.drop k = ⟨some dp, .pick (.tmp c) (.const (.bool true)) y, ty', pos', aft', gp⟩ :: l)
    (hj : (all[j]?).bind (·.dst) = some c) (hc : look env c = some (.lit (.bool b))) (hg : allG all j false [] (l1.take k) = true) (hk : keysOut (dstsN (l1.take k)) env = true)
    (hgp : ∀ env' : Ev, (∀ t v, look env t = some v → look env' t = some v) → aguard all env' ⟨some dp, .pick (.tmp c) (.const (.bool true)) y, ty', pos', aft', gp⟩ = some true)
    (hF : b = false → SR P n nb0 all (l1.take k) (l1.drop k ++ l2) (EndX jj env st y x) env st) (hT : b = true → x = true) (h : SR P n nb0 all l l2 K ((dp, .lit (.bool x)) :: env) (st ++ List.replicate jj none)) : SR P n nb0 all l1 l2 K env st := by
  refine r_split k ?_
  rw [hl]
  cases b with
  | false =>
    refine r_mono (by rw [← hl]; exact hF rfl) ?_
    rintro env' st' ⟨h5, h6, h2, h3⟩
    refine r_kill st.length ?_ (by rw [Nat.ble_eq]; omega)
    rw [h5, show st'.length - st.length = jj by omega]
    refine r_one (hgp env' h2) ?_
    unfold SOp
    simp only [isCall, aop]
    have : ev env' (.tmp c) = some (.lit (.bool false)) := h2 c _ hc
    rw [this, h3]
    simp only [Option.map_some, aput]
    refine r_less (fun t v ht => ?_) h
    simp only [look] at ht ⊢
    split
    · rename_i e; rw [if_pos e] at ht; exact ht
    · rename_i e; rw [if_neg e] at ht; exact h2 t v ht
  | true =>
    have hout : ∀ t v, look env t = some v → look (undefs env (l1.take k)) t = some v := fun t v ht => by
      rw [undefs_look (keysOut_look hk ht)]; exact ht
    have := r_skips (P := P) (n := n) (nb0 := nb0) (l2 := l1.drop k ++ l2) (K := fun env st => SR P n nb0 all (l1.drop k) l2 K env st) (st := st) (l1 := []) hj (l1.take k) hg (fun _ h => by cases h) (keysOut_look hk hc) (fun h => by cases h) hc rfl ?_
    · rw [List.append_nil] at this; rwa [hl] at this
    refine r_nil ?_
    refine r_pad jj ?_
    rw [hl]
    refine r_one (hgp _ hout) ?_
    unfold SOp
    simp only [isCall, aop]
    have : ev (undefs env (l1.take k)) (.tmp c) = some (.lit (.bool true)) := hout c _ hc
    rw [this]
    simp only [ev, Option.map_some, aput]
    rw [hT rfl] at h
    refine r_less (fun t v ht => ?_) h
    simp only [look] at ht ⊢
    split
    · rename_i e; rw [if_pos e] at ht; exact ht
    · rename_i e; rw [if_neg e] at ht; exact hout t v ht

/-- A region, then the rest. -/
theorem rg {id : Nat} {ops : Array Oper} {y : Code} {Q : Exit → Ev → St → Prop} (hd : ops.toList.all (fun o => o.dst.all (· < n)) = true) (h : SR P n nb0 ops.toList ops.toList [] (fun env st => SW P n nb0 y Q env st) env st) :
    SW P n nb0 (.seq (.region id ops false) y) Q env st := by
  refine sw_seq ?_
  intro A m w a h0 hR hE
  refine wp_region ?_
  have := h ops 0 rfl (by simp) hd A m w a h0 hR hE (fun e a' w' => Onward A m nb0 w n (thenQ (SW P n nb0 y Q) Q e) a' w') fun a' w' ho => by
    simp only [List.length_nil, List.range'_zero, wpOps]
    exact ho
  rw [List.range_eq_range', show ops.size = ops.toList.length by simp]
  simpa using this

theorem rl {id : Nat} {ops : Array Oper} {Q : Exit → Ev → St → Prop} (hd : ops.toList.all (fun o => o.dst.all (· < n)) = true) (h : SR P n nb0 ops.toList ops.toList [] (Q .normal) env st) :
    SW P n nb0 (.region id ops false) Q env st := by
  intro A m w a h0 hR hE
  refine wp_region ?_
  have := h ops 0 rfl (by simp) hd A m w a h0 hR hE (fun e a' w' => Onward A m nb0 w n (Q e) a' w') fun a' w' ho => by
    simpa [wpOps] using ho
  rw [List.range_eq_range', show ops.size = ops.toList.length by simp]
  simpa using this
end
end Go.Proofs.YthhkdanpjcnegaaGreat
