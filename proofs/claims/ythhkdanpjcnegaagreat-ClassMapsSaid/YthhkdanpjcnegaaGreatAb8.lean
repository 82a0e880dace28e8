/- The abstract layer, part 8: calls, regions, code, functions: the rules of a walk over abstract states. -/
import Derived.Test.YthhkdanpjcnegaaGreatAb7
namespace Go.Proofs.YthhkdanpjcnegaaGreat
set_option linter.unusedSimpArgs false
set_option linter.unusedVariables false
set_option linter.unusedSectionVars false

/-- A function can be entered. -/
def Callable (P : Program) (f : FuncId) : Prop := ∃ fn, P.funcs[f]? = some fn ∧ (fn.name == "runtime.NumGoroutine") = false ∧ fn.body.isNone = false

/-- A call from an abstract state. -/
def SCall (P : Program) (f : FuncId) (args : List AV) (st : St) (K : AV → St → Prop) : Prop :=
  Callable P f ∧ ∀ A m w vals, R A m w st → VL A m st.length w args vals → Calls P f vals w fun e w' =>
    ∃ v A' m' st' av, e = .returned v ∧ R A' m' w' st' ∧ Step A m st.length w A' m' st'.length w' ∧ V A' m' st'.length w' av v ∧ K av st'

theorem SCall.mono {P f args st K K'} (h : SCall P f args st K) (hk : ∀ av st', K av st' → K' av st') : SCall P f args st K' :=
  ⟨h.1, fun A m w vals hR hv => (h.2 A m w vals hR hv).mono fun _ _ ⟨v, A', m', st', av, h1, h2, h3, h4, h5⟩ => ⟨v, A', m', st', av, h1, h2, h3, h4, hk _ _ h5⟩⟩

def acall (env : Ev) : Op → Option (FuncId × List AV)
  | .call c =>
    match c.callee with
    | .value f =>
      match ev env f, evList env c.args.toList with
      | some (.fn (.func g) first caps), some args => some (g, first ++ args ++ caps)
      | _, _ => none
    | _ => none
  | _ => none

def isCall : Op → Bool
  | .call c => match c.callee with | .value _ => true | _ => false
  | _ => false

def aguard (all : List Oper) (env : Ev) (o : Oper) : Option Bool :=
  match o.guard with
  | none => some true
  | some (j, want) =>
    match (all[j]?).bind (·.dst) with
    | some d =>
      match look env d with
      | some (.lit (.bool b)) => some (b == want)
      | some (.lit (.tuple _)) => some false
      | _ => none
    | none => none

def aput (d : Option Tmp) (v : AV) (env : Ev) : Ev :=
  match d with
  | some d => (d, v) :: env
  | none => env

/-- One operation, then the rest. -/
def SOp (P : Program) (o : Oper) (env : Ev) (st : St) (K : Ev → St → Prop) : Prop :=
  match isCall o.op with
  | true =>
    match acall env o.op with
    | some (g, args) => SCall P g args st fun av st' => K (aput o.dst av env) st'
    | none => False
  | false =>
    match aop P env st o.op with
    | some (av, st') => K (aput o.dst av env) st'
    | none => False

def SOps (P : Program) (all : List Oper) : List Oper → Ev → St → (Ev → St → Prop) → Prop
  | [], env, st, K => K env st
  | o :: rest, env, st, K =>
    match aguard all env o with
    | some true => SOp P o env st (fun env st => SOps P all rest env st K)
    | some false => SOps P all rest (aput o.dst (.lit undef) env) st K
    | none => False

theorem guard_sound {A m nb w n env a} {ops : Array Oper} {o : Oper} {b : Bool} (hE : Env A m nb w n env a) (h : aguard ops.toList env o = some b) : Region.wanted o (yielded ops a.tmps) = b := by
  unfold aguard at h
  unfold Region.wanted
  split at h
  · rename_i hg
    cases h
    simp [hg]
  · rename_i j want hg
    split at h
    · rename_i d hd
      have hd' : (ops[j]?).bind (·.dst) = some d := by simpa using hd
      simp only [hg, yielded, hd', Option.bind_some]
      split at h
      · rename_i q hl
        cases h
        obtain ⟨h1, h2⟩ := hE.val d _ hl
        have h3 := h2.lit_inv
        have h4 : a.tmps[d]? = some (.bool q) := by
          rw [Array.getElem?_eq_getElem (by rw [hE.size]; exact h1)]
          simp [Array.getD_eq_getD_getElem?, hE.size, h1] at h3
          rw [h3]
        rw [h4]
        simp
      · rename_i vs hl
        cases h
        obtain ⟨h1, h2⟩ := hE.val d _ hl
        have h3 := h2.lit_inv
        have h4 : a.tmps[d]? = some (.tuple vs) := by
          rw [Array.getElem?_eq_getElem (by rw [hE.size]; exact h1)]
          simp [Array.getD_eq_getD_getElem?, hE.size, h1] at h3
          rw [h3]
        rw [h4]
        simp
      · cases h
    · cases h

theorem Env.aput {A m nb w n env a av v} {d : Option Tmp} (h : Env A m nb w n env a) (hd : d.all (· < n) = true) (hv : V A m nb w av v) : Env A m nb w n (aput d av env) (a.put d v) := by
  cases d with
  | none => exact h
  | some d => exact h.put (by simpa using hd) hv

theorem VL.append {A m nb w cs ds} {a b : Array Value} (h : VL A m nb w cs a) (k : VL A m nb w ds b) : VL A m nb w (cs ++ ds) (a ++ b) := by
  refine VL.of (by simp [h.1, k.1]) fun q x hx => ?_
  by_cases hq : q < cs.length
  · rw [List.getElem?_append_left hq] at hx
    have := h.get hx
    rwa [show (a ++ b).getD q undef = a.getD q undef by simp [Array.getD_eq_getD_getElem?, Array.getElem?_append_left (by rw [h.1]; exact hq : q < a.size)]]
  · rw [List.getElem?_append_right (by omega)] at hx
    have := k.get hx
    rwa [show (a ++ b).getD q undef = b.getD (q - cs.length) undef by simp [Array.getD_eq_getD_getElem?, Array.getElem?_append_right (by rw [h.1]; omega : a.size ≤ q), h.1]]

theorem callFunc_enter {P : Program} {f : FuncId} (hc : Callable P f) (args : Array Value) (w : World) : (callFunc f args).run P w = .ok (.enter f args) w := by
  obtain ⟨fn, h1, h2, h3⟩ := hc
  have h2' : ¬ (fn.name = "runtime.NumGoroutine") := by simpa using h2
  have h3' : ¬ (fn.body = none) := fun h => by rw [h] at h3; cases h3
  simp [callFunc, h1, h2', h3']

/-- What an operation's continuation may rest on. -/
def Onward (A : Nat → Prop) (m : BM) (nb : Nat) (w : World) (n : Nat) (K : Ev → St → Prop) (a' : Act) (w' : World) : Prop :=
  ∃ A' m' env' st', R A' m' w' st' ∧ Env A' m' st'.length w' n env' a' ∧ Step A m nb w A' m' st'.length w' ∧ K env' st'

theorem op_wp {P : Program} {A m w st n env a} {o : Oper} {K : Ev → St → Prop} {next : Act → World → Prop} {Q : Exit → Act → World → Prop} (hR : R A m w st) (hE : Env A m st.length w n env a) (hd : o.dst.all (· < n) = true)
    (h : SOp P o env st K) (hk : ∀ a' w', Onward A m st.length w n K a' w' → next a' w') : o.wp P a w next Q := by
  unfold SOp at h
  unfold Oper.wp
  split at h
  · rename_i hic
    clear hic
    split at h
    case h_2 => exact h.elim
    rename_i g args hc
    have hs := h
    clear h
    obtain ⟨dst, op, ty, pos, after, guard⟩ := o
    simp only at hc hd hs
    unfold acall at hc
    split at hc
    · rename_i c
      split at hc
      · rename_i f hf
        split at hc
        · rename_i g' first caps args' hfv hargs
          cases hc
          have h1 := ev_sound hE hfv
          obtain ⟨p, q, e, hp, hq⟩ := h1.fn_inv
          have hargs' := evList_sound hE hargs
          obtain ⟨callee, cargs, cat⟩ := c
          simp only at hf hargs hargs'
          subst hf
          have e2 : (cargs.toList.map a.eval).toArray = cargs.map a.eval := by apply Array.ext'; simp
          rw [e2] at hargs'
          have hrun : (execOp a.eval { dst := dst, op := .call { callee := .value f, args := cargs, argTypes := cat }, type := ty, pos := pos, after := after, guard := guard }).run P w = .ok (.enter g (p ++ cargs.map a.eval ++ q)) w := by
            have hce := callFunc_enter hs.1 (p ++ cargs.map a.eval ++ q) w
            simp only [execOp, resolve, e, Deferred.ofValue, Sem.run_bind, Sem.run_pure, Result.andThen_ok, invoke]
            exact hce
          rw [hrun]
          simp only [Oper.upon]
          refine (hs.2 A m w _ hR ((hp.append hargs').append hq)).mono fun e w' ⟨v, A', m', st', av, h1, h2, h3, h4, h5⟩ => ?_
          subst h1
          exact hk _ _ ⟨A', m', _, st', h2, (hE.step hR h3).aput hd h4, h3, h5⟩
        · cases hc
      · cases hc
    · cases hc
  · split at h
    case h_2 => exact h.elim
    rename_i av st' ha
    have hK := h
    obtain ⟨nx, v, w', m', h1, h2, h3, h4, h5⟩ := aop_sound hR hE ha
    rw [h1]
    have hE' := (hE.step hR h4).aput hd h5
    rcases h2 with rfl | ⟨rfl, rfl⟩
    · exact hk _ _ ⟨A, m', _, st', h3, hE', h4, hK⟩
    · exact hk _ _ ⟨A, m', _, st', h3, hE', h4, hK⟩

theorem ops_wp {P : Program} {n : Nat} {ops : Array Oper} {K : Ev → St → Prop} {Q : Exit → Act → World → Prop} (hd : ops.toList.all (fun o => o.dst.all (· < n)) = true) :
    ∀ (rest : List Oper) (i : Nat) (env : Ev) (st : St) (A : Nat → Prop) (m : BM) (w : World) (a : Act), ops.toList.drop i = rest → R A m w st → Env A m st.length w n env a → SOps P ops.toList rest env st K →
      (∀ a' w', Onward A m st.length w n K a' w' → Q .normal a' w') → wpOps P ops Q (List.range' i rest.length) a w := by
  intro rest
  induction rest with
  | nil =>
    intro i env st A m w a _ hR hE h hQ
    simp only [List.length_nil, List.range'_zero, wpOps]
    exact hQ _ _ ⟨A, m, env, st, hR, hE, Step.refl _ _ _ _, h⟩
  | cons o rest ih =>
    intro i env st A m w a hdrop hR hE h hQ
    have hi : ops[i]? = some o := by
      have : ops.toList[i]? = some o := by
        have h1 : (ops.toList.drop i)[0]? = some o := by rw [hdrop]; rfl
        simpa using h1
      simpa using this
    have hdrop' : ops.toList.drop (i + 1) = rest := by
      have := congrArg List.tail hdrop
      simpa [List.tail_drop] using this
    have hdo : o.dst.all (· < n) = true := by
      rw [List.all_eq_true] at hd
      exact hd o (List.mem_of_getElem? (by simpa using hi : ops.toList[i]? = some o))
    simp only [List.length_cons, List.range'_succ, wpOps, hi]
    unfold SOps at h
    split at h
    case h_3 => exact h.elim
    case h_2 hb =>
      have hw := guard_sound hE hb
      rw [hw]
      simp only [Bool.false_eq_true, if_false]
      exact ih (i + 1) _ st A m w _ hdrop' hR (hE.aput hdo (.imm (.lit _))) h hQ
    case h_1 hb =>
      have hw := guard_sound hE hb
      rw [hw]
      simp only [if_true]
      refine .inl (op_wp hR hE hdo h fun a' w' ⟨A', m', env', st', h1, h2, h3, h4⟩ => ?_)
      exact ih (i + 1) env' st' A' m' w' a' hdrop' h1 h2 h4 fun a2 w2 ⟨A2, m2, e2, s2, k1, k2, k3, k4⟩ => hQ _ _ ⟨A2, m2, e2, s2, k1, k2, h3.trans k3, k4⟩

/-! ### Code -/
/-- A walk of code. nb0: how many blocks there were when the function was entered: those keep their numbers. -/
def SW (P : Program) (n nb0 : Nat) (c : Code) (Q : Exit → Ev → St → Prop) (env : Ev) (st : St) : Prop :=
  ∀ A m w a, nb0 ≤ st.length → R A m w st → Env A m st.length w n env a → c.wp P (fun e a' w' => Onward A m nb0 w n (Q e) a' w') a w

section
variable {P : Program} {n nb0 : Nat} {env : Ev} {st : St} {Q : Exit → Ev → St → Prop}

theorem Step.refl0 (A : Nat → Prop) (m : BM) (nb : Nat) (w : World) {nb0 : Nat} (h : nb0 ≤ nb) : Step A m nb0 w A m nb w := (Step.refl A m nb w).weak h

theorem SW.mono {c : Code} {Q' : Exit → Ev → St → Prop} (h : SW P n nb0 c Q env st) (hq : ∀ e env st, Q e env st → Q' e env st) : SW P n nb0 c Q' env st :=
  fun A m w a h0 hR hE => wp_mono (h A m w a h0 hR hE) fun _ _ _ ⟨A', m', e', s', h1, h2, h3, h4⟩ => ⟨A', m', e', s', h1, h2, h3, hq _ _ _ h4⟩

theorem sw_skip (h : Q .normal env st) : SW P n nb0 .skip Q env st :=
  fun A m _ _ h0 hR hE => wp_skip ⟨A, m, env, st, hR, hE, Step.refl0 _ _ _ _ h0, h⟩
theorem sw_exit {id : Nat} (h : Q (.exit id) env st) : SW P n nb0 (.exit id) Q env st :=
  fun A m _ _ h0 hR hE => wp_exit ⟨A, m, env, st, hR, hE, Step.refl0 _ _ _ _ h0, h⟩
theorem sw_ret (h : Q .ret env st) : SW P n nb0 .ret Q env st :=
  fun A m _ _ h0 hR hE => wp_ret ⟨A, m, env, st, hR, hE, Step.refl0 _ _ _ _ h0, h⟩

/-- Behind the first part. -/
def thenQ (next : Ev → St → Prop) (Q : Exit → Ev → St → Prop) : Exit → Ev → St → Prop
  | .normal, env, st => next env st
  | e, env, st => Q e env st

theorem Onward.trans {A m nb w n K a' w'} {A1 m1 nb1 w1} (h : Step A m nb w A1 m1 nb1 w1) (k : Onward A1 m1 nb w1 n K a' w') : Onward A m nb w n K a' w' :=
  let ⟨A', m', e', s', k1, k2, k3, k4⟩ := k
  ⟨A', m', e', s', k1, k2, h.trans0 k3, k4⟩

theorem sw_seq {x y : Code} (h : SW P n nb0 x (thenQ (SW P n nb0 y Q) Q) env st) : SW P n nb0 (.seq x y) Q env st := by
  intro A m w a h0 hR hE
  refine wp_seq (wp_mono (h A m w a h0 hR hE) fun e a' w' ho => ?_)
  obtain ⟨A', m', e', s', h1, h2, h3, h4⟩ := ho
  cases e with
  | normal => exact wp_mono (h4 A' m' w' a' h3.nbLe h1 h2) fun _ _ _ k => k.trans h3
  | exit id => exact ⟨A', m', e', s', h1, h2, h3, h4⟩
  | goto l => exact ⟨A', m', e', s', h1, h2, h3, h4⟩
  | ret => exact ⟨A', m', e', s', h1, h2, h3, h4⟩
  | panic c => exact ⟨A', m', e', s', h1, h2, h3, h4⟩
  | outgrown => exact ⟨A', m', e', s', h1, h2, h3, h4⟩

theorem sw_cond {c : Operand} {x y : Code} {b : Bool} (hc : ev env c = some (.lit (.bool b))) (ht : b = true → SW P n nb0 x Q env st) (hf : b = false → SW P n nb0 y Q env st) : SW P n nb0 (.cond c x y) Q env st := by
  intro A m w a h0 hR hE
  have h1 := (ev_sound hE hc).lit_inv
  exact wp_cond_split h1 (fun h => ht h A m w a h0 hR hE) (fun h => hf h A m w a h0 hR hE)

def blockQ (id : Nat) (Q : Exit → Ev → St → Prop) : Exit → Ev → St → Prop
  | .exit id', env, st => if id' = id then Q .normal env st else Q (.exit id') env st
  | e, env, st => Q e env st

theorem sw_block {id : Nat} {c : Code} (h : SW P n nb0 c (blockQ id Q) env st) : SW P n nb0 (.block id c) Q env st := by
  intro A m w a h0 hR hE
  refine wp_block (wp_mono (h A m w a h0 hR hE) fun e a' w' ho => ?_)
  obtain ⟨A', m', e', s', h1, h2, h3, h4⟩ := ho
  cases e with
  | exit id' =>
    simp only [Exit.inBlock]
    simp only [blockQ] at h4
    split
    · rename_i hid; rw [if_pos hid] at h4; exact ⟨A', m', e', s', h1, h2, h3, h4⟩
    · rename_i hid; rw [if_neg hid] at h4; exact ⟨A', m', e', s', h1, h2, h3, h4⟩
  | normal => exact ⟨A', m', e', s', h1, h2, h3, h4⟩
  | goto l => exact ⟨A', m', e', s', h1, h2, h3, h4⟩
  | ret => exact ⟨A', m', e', s', h1, h2, h3, h4⟩
  | panic c => exact ⟨A', m', e', s', h1, h2, h3, h4⟩
  | outgrown => exact ⟨A', m', e', s', h1, h2, h3, h4⟩

/-- A region in the order of the text. -/
theorem sw_region {id : Nat} {ops : Array Oper} (hd : ops.toList.all (fun o => o.dst.all (· < n)) = true) (h : ∀ K : Ev → St → Prop, (∀ env st, Q .normal env st → K env st) → SOps P ops.toList ops.toList env st K) :
    SW P n nb0 (.region id ops false) Q env st := by
  intro A m w a h0 hR hE
  refine wp_region ?_
  have := ops_wp (P := P) (K := Q .normal) (Q := fun e a' w' => Onward A m nb0 w n (Q e) a' w') hd ops.toList 0 env st A m w a (by simp) hR hE (h _ fun _ _ h => h)
    fun _ _ ⟨A', m', e', s', k1, k2, k3, k4⟩ => ⟨A', m', e', s', k1, k2, k3.weak h0, k4⟩
  rwa [List.range_eq_range', show ops.size = ops.toList.length by simp]

theorem wp_loop_n {P : Program} {c : Code} {Q : Exit → Act → World → Prop} (I : Nat → Act → World → Prop)
    (round : ∀ n a w, I n a w → c.wp P (Exit.then (fun a' w' => ∃ n', n' < n ∧ I n' a' w') Q) a w) : ∀ n a w, I n a w → (Code.loop c).wp P Q a w := by
  intro n a w h0 b k cs
  have key : ∀ n a w, I n a w →
      ∃ e a' w', Q e a' w' ∧ Arrives P (lone (b.at a (.code c :: .inLoop c :: k)) cs w) b k cs e a' w' := by
    intro n
    induction n using Nat.strongRecOn with
    | _ n ih =>
      intro a w hI
      obtain ⟨e, a₁, w₁, hq, harr⟩ := round n a w hI b (.inLoop c :: k) cs
      cases e with
      | normal =>
        obtain ⟨n', hlt, hI₁⟩ := hq
        obtain ⟨e₂, a₂, w₂, hq₂, harr₂⟩ := ih n' hlt a₁ w₁ hI₁
        exact ⟨e₂, a₂, w₂, hq₂, .of_steps (Steps.trans harr (.one step_inLoop)) harr₂⟩
      | exit id => exact ⟨_, a₁, w₁, hq, .pass (x := .inLoop c) rfl (fun _ _ => .inl (by simp)) harr⟩
      | goto l => exact ⟨_, a₁, w₁, hq, .pass (x := .inLoop c) rfl (fun _ _ => .inl (by simp)) harr⟩
      | ret => exact ⟨_, a₁, w₁, hq, .pass (x := .inLoop c) rfl (fun _ _ => .inl (by simp)) harr⟩
      | panic ch => exact ⟨_, a₁, w₁, hq, .pass (x := .inLoop c) rfl (fun _ _ => .inl (by simp)) harr⟩
      | outgrown => exact ⟨_, a₁, w₁, hq, .pass (x := .inLoop c) rfl (fun _ _ => .inl (by simp)) harr⟩
  obtain ⟨e, a', w', hq, harr⟩ := key n a w h0
  exact ⟨e, a', w', hq, .of_steps (.one step_loop) harr⟩

theorem sw_loop {c : Code} (I : Nat → Ev → St → Prop) (k : Nat) (h0 : I k env st)
    (round : ∀ k env st, I k env st → SW P n nb0 c (thenQ (fun env st => ∃ k', k' < k ∧ I k' env st) Q) env st) : SW P n nb0 (.loop c) Q env st := by
  intro A m w a hn hR hE
  refine wp_loop_n (fun k a' w' => Onward A m nb0 w n (I k) a' w') (fun k a' w' ho => ?_) k a w ⟨A, m, env, st, hR, hE, Step.refl0 _ _ _ _ hn, h0⟩
  obtain ⟨A', m', e', s', h1, h2, h3, h4⟩ := ho
  refine wp_mono (round k e' s' h4 A' m' w' a' h3.nbLe h1 h2) fun e a2 w2 ho2 => ?_
  have ho3 := ho2.trans h3
  cases e with
  | normal =>
    obtain ⟨A2, m2, e2, s2, k1, k2, k3, k', k4, k5⟩ := ho3
    exact ⟨k', k4, A2, m2, e2, s2, k1, k2, k3, k5⟩
  | exit id => exact ho3
  | goto l => exact ho3
  | ret => exact ho3
  | panic c => exact ho3
  | outgrown => exact ho3
end

/-! ### Functions -/
def aresult (P : Program) (env : Ev) (st : St) : ResultVar → Option AV
  | .tmp t => look env t
  | .cell a t => match look env a, tiOf P t with | some (.mpt l i j), some ti => aload st ti (.mpt l i j) | _, _ => none

def aresults (P : Program) (env : Ev) (st : St) : List ResultVar → Option (List AV)
  | [] => some []
  | r :: l => match aresult P env st r, aresults P env st l with | some v, some vs => some (v :: vs) | _, _ => none

/-- What a function hands back. -/
def aret (P : Program) (fn : Func) (env : Ev) (st : St) : Option AV :=
  match aresults P env st fn.results.toList with
  | some [v] => some v
  | some vs => some (.tup vs)
  | none => none

theorem results_list (fn : Func) (tmps : Array Value) (P : Program) (w : World) (vs : List Value)
    (h : ((fn.results.toList.mapM fun r => (match r with | .tmp t => pure (tmps.getD t undef) | .cell a t => do loadVar t (← asAddr (tmps.getD a undef)) : Sem Value)).run P w) = .ok vs w) :
    (results fn tmps).run P w = .ok (if h : vs.length = 1 then vs[0] else .tuple vs.toArray) w := by
  have key : (fn.results.mapM fun r => (match r with | .tmp t => pure (tmps.getD t undef) | .cell a t => do loadVar t (← asAddr (tmps.getD a undef)) : Sem Value)).run P w = .ok vs.toArray w := by
    rw [Array.mapM_eq_mapM_toList]
    simp only [Sem.run_map, h, Result.andThen_ok]
  unfold results
  simp only [Sem.run_bind, Sem.run_pure]
  refine Eq.trans (congrArg (fun r => Result.andThen r _) key) ?_
  simp

theorem aresults_sound {P : Program} {A m w st n env a} (hR : R A m w st) (hE : Env A m st.length w n env a) : ∀ {rs : List ResultVar} {vs : List AV}, aresults P env st rs = some vs →
    ∃ us : List Value, (rs.mapM fun r => (match r with | .tmp t => pure (a.tmps.getD t undef) | .cell p t => do loadVar t (← asAddr (a.tmps.getD p undef)) : Sem Value)).run P w = .ok us w ∧ VL A m st.length w vs us.toArray
  | [], vs, h => by cases h; exact ⟨[], rfl, rfl, fun i hi => by cases hi⟩
  | r :: rs, vs, h => by
    simp only [aresults] at h
    split at h
    · rename_i v vs' hv hvs
      cases h
      obtain ⟨us, h1, h2⟩ := aresults_sound hR hE hvs
      have h3 : ∃ u, ((match r with | .tmp t => pure (a.tmps.getD t undef) | .cell p t => do loadVar t (← asAddr (a.tmps.getD p undef)) : Sem Value)).run P w = .ok u w ∧ V A m st.length w v u := by
        cases r with
        | tmp t => exact ⟨_, rfl, (hE.val t v hv).2⟩
        | cell p t =>
          simp only [aresult] at hv
          split at hv
          · rename_i l i j ti hl ht
            have h4 := (hE.val p _ hl).2
            obtain ⟨u, h5, h6⟩ := op_load hR ht h4 hv
            refine ⟨u, ?_, h6⟩
            unfold aload at hv
            cases hr : rowAt st (.mpt l i j) with
            | none => rw [hr] at hv; cases hv
            | some rj =>
              obtain ⟨B, o, e, _⟩ := rowAt_sound (r := rj.1) (j := rj.2) hR hr h4
              show (do loadVar t (← asAddr (a.tmps.getD p undef)) : Sem Value).run P w = .ok u w
              rw [e] at h5 ⊢
              simpa [Instr.loadAt, Instr.sureAddr, asAddr] using h5
          · cases hv
      obtain ⟨u, h4, h5⟩ := h3
      refine ⟨u :: us, ?_, by simpa using h2.1, fun i hi => ?_⟩
      · simp only [List.mapM_cons, Sem.run_bind, h4, Result.andThen_ok, h1, Sem.run_pure]
      · cases i with
        | zero => simpa using h5
        | succ i => simpa using h2.2 i (by simpa using hi)
    · cases h

theorem aret_sound {P : Program} {A m w st n env a fn av} (hR : R A m w st) (hE : Env A m st.length w n env a) (h : aret P fn env st = some av) : ∃ v, (results fn a.tmps).run P w = .ok v w ∧ V A m st.length w av v := by
  unfold aret at h
  split at h
  · rename_i v hv
    cases h
    obtain ⟨us, h1, h2⟩ := aresults_sound hR hE hv
    have hl : us.length = 1 := by simpa using h2.1
    obtain ⟨u, rfl⟩ : ∃ u, us = [u] := by
      match us, hl with
      | [u], _ => exact ⟨u, rfl⟩
    exact ⟨_, results_list fn a.tmps P w _ h1, by simpa using h2.2 0 (by simp)⟩
  · rename_i vs hne hv
    cases h
    obtain ⟨us, h1, h2⟩ := aresults_sound hR hE hv
    have hl : us.length = vs.length := by simpa using h2.1
    refine ⟨_, results_list fn a.tmps P w _ h1, ?_⟩
    rw [dif_neg]
    · exact .tup _ _ h2.1 h2.2
    · intro h3
      match vs, (hl ▸ h3 : vs.length = 1) with
      | [v], _ => exact hne v rfl
  · cases h

def enterEnv : Nat → List AV → Ev
  | _, [] => []
  | i, v :: r => (i, v) :: enterEnv (i + 1) r

theorem look_enter : ∀ (l : List AV) (i t : Nat) (v : AV), look (enterEnv i l) t = some v → i ≤ t ∧ l[t - i]? = some v
  | [], _, _, _, h => by cases h
  | x :: l, i, t, v, h => by
    simp only [enterEnv, look] at h
    split at h
    · rename_i e; subst e; cases h; simp
    · rename_i e
      obtain ⟨h1, h2⟩ := look_enter l (i + 1) t v h
      refine ⟨by omega, ?_⟩
      rw [show t - i = (t - (i + 1)) + 1 by omega]
      simpa using h2

/-- A function's body, walked. -/
theorem scall_body {P : Program} {f : FuncId} {fn : Func} {c : Code} {args : List AV} {st : St} {K : AV → St → Prop} (hf : P.funcs[f]? = some fn) (hb : fn.body = some c) (hn : (fn.name == "runtime.NumGoroutine") = false) (hlen : args.length ≤ fn.ntmps)
    (h : SW P fn.ntmps st.length c (fun e env st => match e with | .normal | .ret => ∃ av, aret P fn env st = some av ∧ K av st | _ => False) (enterEnv 0 args) st) : SCall P f args st K := by
  refine ⟨⟨fn, hf, hn, by simp [hb]⟩, fun A m w vals hR hv => ?_⟩
  refine calls_of_wp hf hb ?_
  have hE : Env A m st.length w fn.ntmps (enterEnv 0 args) { tmps := vals ++ Array.replicate (fn.ntmps - vals.size) undef, defers := [] } := by
    refine ⟨by simp [hv.1]; omega, fun t v ht => ?_, rfl⟩
    obtain ⟨_, h1⟩ := look_enter args 0 t v ht
    simp only [Nat.sub_zero] at h1
    have h2 := hv.get h1
    have hlt : t < args.length := (List.getElem?_eq_some_iff.1 h1).1
    refine ⟨by omega, ?_⟩
    rwa [show (vals ++ Array.replicate (fn.ntmps - vals.size) undef).getD t undef = vals.getD t undef by simp [Array.getD_eq_getD_getElem?, Array.getElem?_append_left (by rw [hv.1]; exact hlt : t < vals.size)]]
  refine wp_mono (h A m w _ (Nat.le_refl _) hR hE) fun e a' w' ho => ?_
  obtain ⟨A', m', env', st', h1, h2, h3, h4⟩ := ho
  have fin : (∃ av, aret P fn env' st' = some av ∧ K av st') → a'.defers = [] ∧ ∃ v, (results fn a'.tmps).run P w' = .ok v w' ∧ ∃ v' A'' m'' st'' av, Ending.returned v = .returned v' ∧ R A'' m'' w' st'' ∧ Step A m st.length w A'' m'' st''.length w' ∧ V A'' m'' st''.length w' av v' ∧ K av st'' := fun ⟨av, h5, h6⟩ => by
    obtain ⟨v, h7, h8⟩ := aret_sound h1 h2 h5
    exact ⟨h2.defers, v, h7, v, A', m', st', av, rfl, h1, h3, h8, h6⟩
  cases e with
  | normal => exact fin h4
  | ret => exact fin h4
  | exit id => exact h4
  | goto l => exact h4
  | panic c => exact h4.elim
  | outgrown => exact h4.elim

end Go.Proofs.YthhkdanpjcnegaaGreat
