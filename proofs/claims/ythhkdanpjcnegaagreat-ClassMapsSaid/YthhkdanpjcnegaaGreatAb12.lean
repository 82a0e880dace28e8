/- The abstract layer, part 12: regions that draw the order of their operations. -/
import Derived.Test.YthhkdanpjcnegaaGreatAb11
import Derived.Orders
namespace Go.Proofs.YthhkdanpjcnegaaGreat
set_option linter.unusedSimpArgs false
set_option linter.unusedVariables false
set_option linter.unusedSectionVars false

/-- One operation's value and the blocks behind it. -/
def SOp2 (P : Program) (op : Op) (env : Ev) (st : St) (K : AV → St → Prop) : Prop :=
  match isCall op with
  | true =>
    match acall env op with
    | some (g, args) => SCall P g args st K
    | none => False
  | false =>
    match aop P env st op with
    | some (av, st') => K av st'
    | none => False

theorem op_wp2 {P : Program} {A m w st n env a} {o : Oper} {K : AV → St → Prop} {next : Act → World → Prop} {Q : Exit → Act → World → Prop} (hR : R A m w st) (hE : Env A m st.length w n env a)
    (h : SOp2 P o.op env st K)
    (hk : ∀ v w' A' m' st' av, R A' m' w' st' → Step A m st.length w A' m' st'.length w' → V A' m' st'.length w' av v → K av st' → next (a.put o.dst v) w') : o.wp P a w next Q := by
  unfold SOp2 at h
  unfold Oper.wp
  split at h
  · rename_i hic
    clear hic
    split at h
    case h_2 => exact h.elim
    rename_i g args hc
    have hs := h
    clear h
    obtain ⟨dst, op, ty, pos, after, guard⟩ := o
    simp only at hc hs
    unfold acall at hc
    split at hc
    · rename_i c
      split at hc
      · rename_i f hf
        split at hc
        · rename_i g' first caps args' hfv hargs
          cases hc
          have h1 := ev_sound hE hfv
          obtain ⟨p, q, e, hp, hq⟩ := h1.fn_inv
          have hargs' := evList_sound hE hargs
          obtain ⟨callee, cargs, cat⟩ := c
          simp only at hf hargs hargs'
          subst hf
          have e2 : (cargs.toList.map a.eval).toArray = cargs.map a.eval := by apply Array.ext'; simp
          rw [e2] at hargs'
          have hrun : (execOp a.eval { dst := dst, op := .call { callee := .value f, args := cargs, argTypes := cat }, type := ty, pos := pos, after := after, guard := guard }).run P w = .ok (.enter g (p ++ cargs.map a.eval ++ q)) w := by
            have hce := callFunc_enter hs.1 (p ++ cargs.map a.eval ++ q) w
            simp only [execOp, resolve, e, Deferred.ofValue, Sem.run_bind, Sem.run_pure, Result.andThen_ok, invoke]
            exact hce
          rw [hrun]
          simp only [Oper.upon]
          refine (hs.2 A m w _ hR ((hp.append hargs').append hq)).mono fun e w' ⟨v, A', m', st', av, h1, h2, h3, h4, h5⟩ => ?_
          subst h1
          exact hk _ _ _ _ _ _ h2 h3 h4 h5
        · cases hc
      · cases hc
    · cases hc
  · split at h
    case h_2 => exact h.elim
    rename_i av st' ha
    have hK := h
    obtain ⟨nx, v, w', m', h1, h2, h3, h4, h5⟩ := aop_sound hR hE ha
    rw [h1]
    rcases h2 with rfl | ⟨rfl, rfl⟩
    · exact hk _ _ _ _ _ _ h3 h4 h5 hK
    · exact hk _ _ _ _ _ _ h3 h4 h5 hK

def dstAt (all : List Oper) (j : Nat) : Option Tmp := (all[j]?).bind (·.dst)

def dsts : List Oper → List Tmp
  | [] => []
  | o :: os => match o.dst with | some t => t :: dsts os | none => dsts os

def memB (t : Tmp) : List Tmp → Bool
  | [] => false
  | x :: l => if x = t then true else memB t l

theorem memB_iff {t : Tmp} : ∀ {l : List Tmp}, memB t l = true ↔ t ∈ l
  | [] => by simp [memB]
  | x :: l => by
    unfold memB
    split
    · rename_i h; simp [h]
    · rename_i h; simp [memB_iff (l := l), Ne.symm h]

def dropD (ds : List Tmp) : Ev → Ev
  | [] => []
  | (k, v) :: e => match memB k ds with | true => dropD ds e | false => (k, v) :: dropD ds e

/-- An operation as it is looked at in any order: what it waits for and its guard by their slots. -/
structure COp where
  op : Op
  deps : List Tmp
  guard : Option (Option Tmp × Bool)
  dst : Option Tmp

def depsOf (all : List Oper) : List Edge → List Tmp
  | [] => []
  | e :: es => match Region.binds .any e, dstAt all e.on with | true, some t => t :: depsOf all es | _, _ => depsOf all es
def guardOf (all : List Oper) : Option (Nat × Bool) → Option (Option Tmp × Bool)
  | none => none
  | some (j, w) => some (dstAt all j, w)
def cops (all : List Oper) : List Oper → List COp
  | [] => []
  | o :: os => ⟨o.op, depsOf all o.after.toList, guardOf all o.guard, o.dst⟩ :: cops all os

/-- What an operation may look at: what it waits for, and what was there. -/
def sel (G : Ev) (env0 : Ev) : List Tmp → Ev
  | [] => env0
  | t :: ts => match look G t with | some v => (t, v) :: sel G env0 ts | none => sel G env0 ts

def cguard (env : Ev) : Option (Option Tmp × Bool) → Option Bool
  | none => some true
  | some (none, _) => none
  | some (some d, want) =>
    match look env d with
    | some (.lit (.bool b)) => some (b == want)
    | some (.lit (.tuple _)) => some false
    | _ => none

theorem cguard_eq (all : List Oper) (env : Ev) (o : Oper) : aguard all env o = cguard env (guardOf all o.guard) := by
  unfold aguard guardOf
  cases o.guard with
  | none => rfl
  | some g =>
    obtain ⟨j, w⟩ := g
    simp only [dstAt]
    cases (all[j]?).bind (·.dst) <;> rfl

def SAny (P : Program) (env0 : Ev) (st : St) : List COp → Ev → (Ev → Prop) → Prop
  | [], G, K => K (G ++ env0)
  | c :: rest, G, K =>
    match cguard (sel G env0 c.deps) c.guard with
    | some true => ∃ v, SOp2 P c.op (sel G env0 c.deps) st (fun av st' => av = v ∧ st' = st) ∧ SAny P env0 st rest (aput c.dst v G) K
    | some false => SAny P env0 st rest (aput c.dst (.lit undef) G) K
    | none => False

/-- What is known of an operation once all values are named. -/
def OpIs (P : Program) (all : List Oper) (env0 : Ev) (st : St) (G : Ev) (o : Oper) (v : AV) : Prop :=
  match cguard (sel G env0 (depsOf all o.after.toList)) (guardOf all o.guard) with
  | some true => SOp2 P o.op (sel G env0 (depsOf all o.after.toList)) st (fun av st' => av = v ∧ st' = st)
  | some false => v = .lit undef
  | none => False

theorem look_append1 {t u : Tmp} {v x : AV} {e : Ev} (h : look ((t, v) :: e) u = some x) : (t = u ∧ v = x) ∨ look e u = some x := by
  simp only [look] at h
  split at h
  · rename_i e; exact .inl ⟨e.symm ▸ rfl, Option.some.inj h⟩
  · exact .inr h

theorem look_sel {G env0 : Ev} {u : Tmp} {x : AV} : ∀ {ts : List Tmp}, look (sel G env0 ts) u = some x → look env0 u = some x ∨ (u ∈ ts ∧ look G u = some x)
  | [], h => .inl h
  | t :: ts, h => by
    unfold sel at h
    split at h
    · rename_i v hv
      rcases look_append1 h with ⟨rfl, rfl⟩ | h1
      · exact .inr ⟨by simp, hv⟩
      · exact (look_sel h1).imp id fun h2 => ⟨by simp [h2.1], h2.2⟩
    · exact (look_sel h).imp id fun h2 => ⟨by simp [h2.1], h2.2⟩

theorem sel_congr {G G' env0 : Ev} : ∀ {ts : List Tmp}, (∀ t ∈ ts, look G t = look G' t) → sel G env0 ts = sel G' env0 ts
  | [], _ => rfl
  | t :: ts, h => by
    unfold sel
    rw [h t (by simp), sel_congr (ts := ts) fun t' ht => h t' (by simp [ht])]

theorem look_app {u : Tmp} {x : AV} {e : Ev} : ∀ {G : Ev}, look (G ++ e) u = some x → look e u = some x ∨ look G u = some x
  | [], h => .inl h
  | (t, v) :: G, h => by
    rcases look_append1 h with ⟨rfl, rfl⟩ | h1
    · exact .inr (by simp [look])
    · rcases look_app h1 with h2 | h2
      · exact .inl h2
      · by_cases ht : t = u
        · subst ht
          refine .inr ?_
          simp only [List.cons_append, look, if_true] at h
          simpa [look] using h
        · exact .inr (by simp only [look, if_neg ht]; exact h2)

theorem deps_sub {all : List Oper} {t : Tmp} : ∀ {es : List Edge}, t ∈ depsOf all es → ∃ e ∈ es, Region.binds .any e = true ∧ dstAt all e.on = some t
  | [], h => by simp [depsOf] at h
  | e :: es, h => by
    unfold depsOf at h
    split at h
    · rename_i h1 h2
      rcases List.mem_cons.1 h with rfl | h3
      · exact ⟨e, by simp, h1, h2⟩
      · obtain ⟨e', h4, h5⟩ := deps_sub h3
        exact ⟨e', by simp [h4], h5⟩
    · obtain ⟨e', h4, h5⟩ := deps_sub h
      exact ⟨e', by simp [h4], h5⟩

theorem dsts_append : ∀ (l r : List Oper), dsts (l ++ r) = dsts l ++ dsts r
  | [], r => rfl
  | x :: l, r => by
    have ih := dsts_append l r
    rw [List.cons_append, dsts, dsts, ih]
    cases x.dst <;> rfl

theorem dsts_mem {t : Tmp} : ∀ {os : List Oper} {i : Nat}, dstAt os i = some t → t ∈ dsts os
  | [], i, h => by simp [dstAt] at h
  | o :: os, i, h => by
    unfold dsts
    cases i with
    | zero =>
      have : o.dst = some t := by simpa [dstAt] using h
      rw [this]; simp
    | succ i =>
      have := dsts_mem (os := os) (i := i) (by simpa [dstAt] using h)
      split
      · simp [this]
      · exact this

theorem mem_dsts {t : Tmp} : ∀ {os : List Oper}, t ∈ dsts os → ∃ i, i < os.length ∧ dstAt os i = some t
  | [], h => by simp [dsts] at h
  | o :: os, h => by
    unfold dsts at h
    have recu : t ∈ dsts os → ∃ i, i < (o :: os).length ∧ dstAt (o :: os) i = some t := fun h => by
      obtain ⟨i, h1, h2⟩ := mem_dsts h
      exact ⟨i + 1, by simpa using h1, by simpa [dstAt] using h2⟩
    split at h
    · rename_i u hu
      rcases List.mem_cons.1 h with rfl | h3
      · exact ⟨0, by simp, by simpa [dstAt] using hu⟩
      · exact recu h3
    · exact recu h

/-- Bounds, waits for what stands before, each slot once. -/
def anyOk (n : Nat) (all : List Oper) : Bool :=
  (List.range all.length).all fun i =>
    match all[i]? with
    | none => true
    | some o => o.dst.all (· < n) && o.after.toList.all (fun e => !Region.binds .any e || decide (e.on < i)) &&
      (List.range i).all fun j => match o.dst, dstAt all j with | some t, some u => t != u | _, _ => true

theorem anyOk_spec {n : Nat} {all : List Oper} (h : anyOk n all = true) : (∀ (i : Nat) o, all[i]? = some o → o.dst.all (· < n) = true ∧ ∀ e ∈ o.after.toList, Region.binds .any e = true → e.on < i) ∧
    ∀ i j t, dstAt all i = some t → dstAt all j = some t → i = j := by
  have key : ∀ (i : Nat) o, all[i]? = some o → o.dst.all (· < n) = true ∧ (∀ e ∈ o.after.toList, Region.binds .any e = true → e.on < i) ∧ ∀ j, j < i → ∀ t, o.dst = some t → dstAt all j ≠ some t := fun i o ho => by
    have hi : i < all.length := (List.getElem?_eq_some_iff.1 ho).1
    have := (List.all_eq_true.1 h) i (List.mem_range.2 hi)
    rw [ho] at this
    simp only [Bool.and_eq_true] at this
    obtain ⟨⟨h1, h2⟩, h3⟩ := this
    refine ⟨h1, fun e he hb => ?_, fun j hj t ht hjt => ?_⟩
    · have := (List.all_eq_true.1 h2) e he
      rw [hb] at this
      simpa using this
    · have := (List.all_eq_true.1 h3) j (List.mem_range.2 hj)
      rw [ht, hjt] at this
      simp at this
  refine ⟨fun i o ho => ⟨(key i o ho).1, (key i o ho).2.1⟩, fun i j t hi hj => ?_⟩
  have hex : ∀ i, dstAt all i = some t → ∃ o, all[i]? = some o ∧ o.dst = some t := fun i h => by
    unfold dstAt at h
    cases ho : all[i]? with
    | none => rw [ho] at h; cases h
    | some o => rw [ho] at h; exact ⟨o, rfl, h⟩
  obtain ⟨oi, h1, h2⟩ := hex i hi
  obtain ⟨oj, h3, h4⟩ := hex j hj
  rcases Nat.lt_trichotomy i j with hlt | heq | hgt
  · exact absurd hi ((key j oj h3).2.2 i hlt t h4)
  · exact heq
  · exact absurd hj ((key i oi h1).2.2 j hgt t h2)

theorem dstAt_left {a b : List Oper} {i : Nat} (h : i < a.length) : dstAt (a ++ b) i = dstAt a i := by
  unfold dstAt; rw [List.getElem?_append_left h]

theorem sany_all {P : Program} {all : List Oper} {env0 : Ev} {st : St} {n : Nat} (hok : anyOk n all = true) {K : Ev → Prop} : ∀ (rest pre : List Oper) (G : Ev), all = pre ++ rest → (∀ t, (∃ v, look G t = some v) ↔ t ∈ dsts pre) → SAny P env0 st (cops all rest) G K →
    ∃ G', (∀ t v, look G t = some v → look G' t = some v) ∧ (∀ o ∈ rest, ∃ v, (∀ t, o.dst = some t → look G' t = some v) ∧ OpIs P all env0 st G' o v) ∧ (∀ t v, look G' t = some v → t ∈ dsts all) ∧ K (G' ++ env0)
  | [], pre, G, ha, hG, h => ⟨G, fun _ _ h => h, fun o ho => by simp at ho, fun t v htv => by rw [ha, List.append_nil]; exact (hG t).1 ⟨v, htv⟩, h⟩
  | o :: rest, pre, G, ha, hG, h => by
    have ho : all[pre.length]? = some o := by rw [ha]; simp
    obtain ⟨hok1, huniq⟩ := anyOk_spec hok
    have hback := (hok1 _ _ ho).2
    have hdo : dstAt all pre.length = o.dst := by unfold dstAt; rw [ho]; rfl
    have hpre : ∀ t, t ∈ dsts pre → o.dst ≠ some t := fun t ht e => by
      obtain ⟨i, h1, h2⟩ := mem_dsts ht
      have h3 : dstAt all i = some t := by rw [ha, dstAt_left h1]; exact h2
      have := huniq _ _ _ h3 (hdo.trans e)
      omega
    have hdeps : ∀ t ∈ depsOf all o.after.toList, ∃ v, look G t = some v := fun t ht => by
      obtain ⟨e, h1, h2, h3⟩ := deps_sub ht
      have h4 := hback e h1 h2
      refine (hG t).2 (dsts_mem (i := e.on) ?_)
      rw [← h3, ha, dstAt_left h4]
    have hdp : ∀ t, t ∈ dsts (pre ++ [o]) ↔ t ∈ dsts pre ∨ o.dst = some t := fun t => by
      rw [dsts_append, List.mem_append]
      unfold dsts
      cases o.dst <;> simp [dsts, eq_comm]
    have go : ∀ v, SAny P env0 st (cops all rest) (aput o.dst v G) K → (∀ G', (∀ t ∈ depsOf all o.after.toList, look G' t = look G t) → OpIs P all env0 st G' o v) →
        ∃ G', (∀ t v, look G t = some v → look G' t = some v) ∧ (∀ o' ∈ o :: rest, ∃ v, (∀ t, o'.dst = some t → look G' t = some v) ∧ OpIs P all env0 st G' o' v) ∧ (∀ t v, look G' t = some v → t ∈ dsts all) ∧ K (G' ++ env0) := fun v hv hop => by
      have hnew : ∀ t u, look G t = some u → look (aput o.dst v G) t = some u := fun t u htu => by
        have hne := hpre t ((hG t).1 ⟨u, htu⟩)
        cases hd : o.dst with
        | none => exact htu
        | some d =>
          have : d ≠ t := fun e => hne (by rw [hd, e])
          simpa [aput, look, this] using htu
      obtain ⟨G', h1, h2, h3, h4⟩ := sany_all hok rest (pre ++ [o]) (aput o.dst v G) (by rw [ha]; simp) (fun t => by
        rw [hdp]
        constructor
        · rintro ⟨u, hu⟩
          cases hd : o.dst with
          | none => rw [hd] at hu; exact .inl ((hG t).1 ⟨u, hu⟩)
          | some d =>
            rw [hd] at hu
            rcases look_append1 hu with ⟨rfl, _⟩ | h5
            · exact .inr rfl
            · exact .inl ((hG t).1 ⟨u, h5⟩)
        · rintro (h5 | h5)
          · obtain ⟨u, hu⟩ := (hG t).2 h5
            exact ⟨u, hnew t u hu⟩
          · rw [h5]; exact ⟨v, by simp [aput, look]⟩) hv
      refine ⟨G', fun t u htu => h1 t u (hnew t u htu), fun o' ho' => ?_, h3, h4⟩
      rcases List.mem_cons.1 ho' with rfl | ho'
      · refine ⟨v, fun t ht => h1 t v (by rw [ht]; simp [aput, look]), hop G' fun t ht => ?_⟩
        obtain ⟨u, hu⟩ := hdeps t ht
        rw [hu]; exact h1 t u (hnew t u hu)
      · exact h2 o' ho'
    unfold cops SAny at h
    simp only at h
    split at h
    · rename_i hg
      obtain ⟨v, h1, h2⟩ := h
      refine go v h2 fun G' hGG => ?_
      unfold OpIs
      rw [sel_congr hGG, hg]
      exact h1
    · rename_i hg
      refine go _ h fun G' hGG => ?_
      unfold OpIs
      rw [sel_congr hGG, hg]
    · exact h.elim

/-- What stands in slot t once the listed operations are through. -/
def Just (all : List Oper) (F : Ev) (env0 : Ev) (listed : Array Bool) (t : Tmp) (v : AV) : Prop :=
  look env0 t = some v ∨ ∃ j, listed.getD j false = true ∧ dstAt all j = some t ∧ look F t = some v

theorem env_of {A m nb w n env a} (hsz : a.tmps.size = n) (hdf : a.defers = []) (h : ∀ t v, look env t = some v → t < n ∧ V A m nb w v (a.tmps.getD t undef)) : Env A m nb w n env a := ⟨hsz, h, hdf⟩

theorem wpAny_abs {P : Program} {ops : Array Oper} {F : Ev} {env0 : Ev} {st : St} {n : Nat} {Q : Exit → Act → World → Prop} {A0 : Nat → Prop} {m0 : BM} {w0 : World}
    (hok : anyOk n ops.toList = true) (hfresh : ∀ i t, dstAt ops.toList i = some t → look env0 t = none)
    (H : ∀ o ∈ ops.toList, ∃ v, (∀ t, o.dst = some t → look F t = some v) ∧ OpIs P ops.toList env0 st F o v)
    (hQ : ∀ A m w a, R A m w st → Step A0 m0 st.length w0 A m st.length w → (∀ env, (∀ t v, look env t = some v → look env0 t = some v ∨ ∃ j, dstAt ops.toList j = some t ∧ look F t = some v) → Env A m st.length w n env a) → Q .normal a w) :
    ∀ (fuel : Nat) (listed : Array Bool) (A : Nat → Prop) (m : BM) (w : World) (a : Act), listed.size = ops.size → listed.toList.countP (· == false) ≤ fuel → R A m w st → Step A0 m0 st.length w0 A m st.length w →
      a.tmps.size = n → a.defers = [] → (∀ t v, Just ops.toList F env0 listed t v → t < n ∧ V A m st.length w v (a.tmps.getD t undef)) → wpAny P .any ops Q fuel listed a w := by
  obtain ⟨hok1, huniq⟩ := anyOk_spec hok
  -- all is through: the end
  have fin : ∀ (listed : Array Bool) (A : Nat → Prop) (m : BM) (w : World) (a : Act), (∀ j, j < ops.size → listed.getD j true = true) → listed.size = ops.size → R A m w st → Step A0 m0 st.length w0 A m st.length w →
      a.tmps.size = n → a.defers = [] → (∀ t v, Just ops.toList F env0 listed t v → t < n ∧ V A m st.length w v (a.tmps.getD t undef)) → Q .normal a w := fun listed A m w a hall hsz hR hS h1 h2 hI => by
    refine hQ A m w a hR hS fun env he => env_of h1 h2 fun t v htv => ?_
    refine hI t v ((he t v htv).imp id fun ⟨j, hj1, hj2⟩ => ⟨j, ?_, hj1, hj2⟩)
    have hj : j < ops.size := by
      unfold dstAt at hj1
      cases ho : ops.toList[j]? with
      | none => rw [ho] at hj1; cases hj1
      | some o => simpa using (List.getElem?_eq_some_iff.1 ho).1
    have := hall j hj
    have hj' : j < listed.size := by omega
    simpa [Array.getD, hj'] using this
  intro fuel
  induction fuel with
  | zero =>
    intro listed A m w a hsz hc hR hS h1 h2 hI
    have hall : ∀ j, j < ops.size → listed.getD j true = true := fun j hj => by
      have h0 : listed.toList.countP (· == false) = 0 := by omega
      rw [List.countP_eq_zero] at h0
      have hj' : j < listed.size := by omega
      have := h0 listed[j] (by simp)
      have e : listed.getD j true = listed[j] := by simp [Array.getD, hj']
      rw [e]
      simpa using this
    refine ⟨?_, fin listed A m w a hall hsz hR hS h1 h2 hI⟩
    rw [List.eq_nil_iff_forall_not_mem]
    intro j hj
    obtain ⟨h3, o, ho, _⟩ := mem_ready.1 hj
    rw [hall j (Array.getElem?_eq_some_iff.1 ho).1] at h3
    cases h3
  | succ fuel ih =>
    intro listed A m w a hsz hc hR hS h1 h2 hI
    refine ⟨fun hr => ?_, fun i hi => ?_⟩
    · refine fin listed A m w a ?_ hsz hR hS h1 h2 hI
      intro j
      induction j using Nat.strongRecOn with
      | _ j ihj =>
        intro hj
        cases hb : listed.getD j true with
        | true => rfl
        | false =>
          exfalso
          have hoj : ops[j]? = some ops[j] := Array.getElem?_eq_getElem hj
          have : j ∈ Region.ready .any ops listed := mem_ready.2 ⟨hb, _, hoj, fun e he hbe => by
            have hlt := (hok1 j ops[j] (by simp)).2 e (by simpa using he) hbe
            have h3 := ihj e.on hlt (by omega)
            have h4 : e.on < listed.size := by omega
            simpa [Array.getD, h4] using h3⟩
          rw [hr] at this
          cases this
    · obtain ⟨h3, o, ho, hdep⟩ := mem_ready.1 hi
      have hil : i < ops.size := (Array.getElem?_eq_some_iff.1 ho).1
      have hil' : i < listed.size := by omega
      have hoL : ops.toList[i]? = some o := by simpa using ho
      obtain ⟨v, hv, hop⟩ := H o (List.mem_of_getElem? hoL)
      have hdi : dstAt ops.toList i = o.dst := by unfold dstAt; rw [hoL]; rfl
      have hE : Env A m st.length w n (sel F env0 (depsOf ops.toList o.after.toList)) a := env_of h1 h2 fun t u htu => hI t u ((look_sel htu).imp id fun ⟨he, hF⟩ => by
        obtain ⟨e, he1, hb, hd⟩ := deps_sub he
        exact ⟨e.on, hdep e (by simpa using he1) hb, hd, hF⟩)
      have hcnt : (listed.setIfInBounds i true).toList.countP (· == false) ≤ fuel := by
        have hli : listed[i] = false := by simpa [Array.getD, hil'] using h3
        have e1 : (listed.setIfInBounds i true).toList = listed.toList.set i true := by simp
        have hlt : i < listed.toList.length := by simpa using hil'
        have hpos : 0 < listed.toList.countP (· == false) := List.countP_pos_iff.2 ⟨false, by rw [← hli]; simp, rfl⟩
        rw [e1, List.countP_set hlt]
        have e2 : listed.toList[i] = false := by simpa using hli
        have e3 : (true == false) = false := rfl
        have e4 : (false == false) = true := rfl
        simp only [e2, e3, e4, if_true, Bool.false_eq_true, if_false]
        omega
      -- behind one operation
      have next : ∀ (val : Value) (w' : World) (A' : Nat → Prop) (m' : BM), R A' m' w' st → Step A m st.length w A' m' st.length w' → V A' m' st.length w' v val → wpAny P .any ops Q fuel (listed.setIfInBounds i true) (a.put o.dst val) w' := fun val w' A' m' hR' hS' hV => by
        have hdn := (hok1 i o hoL).1
        refine ih _ A' m' w' _ (by simpa using hsz) hcnt hR' (hS.trans hS') (by cases hdd : o.dst <;> simp [Act.put, h1]) (by cases hdd : o.dst <;> simp [Act.put, h2]) fun t u hJ => ?_
        have old : look env0 t = some u ∨ (∃ j, listed.getD j false = true ∧ dstAt ops.toList j = some t ∧ look F t = some u) → (dstAt ops.toList i ≠ some t) → t < n ∧ V A' m' st.length w' u ((a.put o.dst val).tmps.getD t undef) := fun hj hne => by
          have hE1 : Env A m st.length w n [(t, u)] a := env_of h1 h2 fun t' u' h' => by
            rcases look_append1 h' with ⟨rfl, rfl⟩ | h''
            · exact hI _ _ hj
            · cases h''
          have hE2 := (hE1.step hR hS').aput hdn hV
          refine hE2.val t u ?_
          cases hdd : o.dst with
          | none => simp [aput, look]
          | some d =>
            have : d ≠ t := fun e => hne (by rw [hdi, hdd, e])
            simp [aput, look, this]
        rcases hJ with hJ | ⟨j, hj1, hj2, hj3⟩
        · refine old (.inl hJ) fun hd => ?_
          rw [hfresh i t hd] at hJ
          cases hJ
        · by_cases hji : j = i
          · subst hji
            rw [hdi] at hj2
            have hu : u = v := by have := hv t hj2; rw [hj3] at this; exact Option.some.inj this
            subst hu
            have hE0 : Env A m st.length w n [] a := env_of h1 h2 fun t' u' (h' : none = some u') => by cases h'
            have hE2 := (hE0.step hR hS').aput hdn hV
            exact hE2.val t u (by rw [hj2]; simp [aput, look])
          · refine old (.inr ⟨j, ?_, hj2, hj3⟩) fun hd => hji (huniq _ _ _ hj2 hd)
            rwa [getD_set_ne false (Ne.symm hji)] at hj1
      unfold wpOp
      rw [ho]
      simp only
      unfold OpIs at hop
      split at hop
      · rename_i hg
        rw [guard_sound hE ((cguard_eq _ _ _).trans hg)]
        simp only [if_true]
        refine .inl (op_wp2 hR hE hop fun val w' A' m' st' av k1 k2 k3 ⟨k4, k5⟩ => ?_)
        subst k4; subst k5
        exact next val w' A' m' k1 k2 k3
      · rename_i hg
        rw [guard_sound hE ((cguard_eq _ _ _).trans hg)]
        simp only [Bool.false_eq_true, if_false]
        subst hop
        exact next undef w A m hR (Step.refl _ _ _ _) (.imm (.lit _))
      · exact hop.elim

theorem look_dropD {ds : List Tmp} {t : Tmp} : ∀ {e : Ev}, (t ∈ ds → look (dropD ds e) t = none) ∧ ∀ v, look (dropD ds e) t = some v → look e t = some v
  | [] => ⟨fun _ => rfl, fun v h => h⟩
  | p :: e => by
    obtain ⟨h1, h2⟩ := look_dropD (ds := ds) (t := t) (e := e)
    obtain ⟨s, x⟩ := p
    unfold dropD
    split
    · rename_i hm
      refine ⟨h1, fun v h => ?_⟩
      simp only [look]
      split
      · rename_i ets
        have : t ∈ ds := by rw [← ets]; exact memB_iff.1 hm
        rw [h1 this] at h
        cases h
      · exact h2 v h
    · rename_i hm
      refine ⟨fun ht => ?_, fun v h => ?_⟩
      · simp only [look]
        split
        · rename_i ets
          rw [← ets] at ht
          rw [memB_iff.2 ht] at hm
          cases hm
        · exact h1 ht
      · simp only [look] at h ⊢
        split
        · rename_i ets; rw [if_pos ets] at h; exact h
        · rename_i ets; rw [if_neg ets] at h; exact h2 v h

/-- A region that draws the order of its operations, none of which turns a block of the call's own. -/
theorem sw_region_any {P : Program} {n nb0 : Nat} {Q : Exit → Ev → St → Prop} {env : Ev} {st : St} {id : Nat} {ops : Array Oper} (hm : P.follows .mixedOrders = true) (hok : anyOk n ops.toList = true)
    (h : ∀ K : Ev → Prop, (∀ env, Q .normal env st → K env) → SAny P (dropD (dsts ops.toList) env) st (cops ops.toList ops.toList) [] K) : SW P n nb0 (.region id ops true) Q env st := by
  intro A m w a h0 hR hE
  have hg : Grow w { w with drawn := w.drawn + 1 } := ⟨Nat.le_refl _, fun _ _ => rfl, rfl, rfl, rfl⟩
  obtain ⟨hR1, hS1⟩ := hR.grow' hg
  obtain ⟨F, _, hF2, hF1, hF3⟩ := sany_all hok ops.toList [] [] rfl (fun t => by simp [look, dsts]) (h _ fun _ h => h)
  refine wp_region_any hm ?_
  refine wpAny_abs (F := F) (env0 := dropD (dsts ops.toList) env) (st := st) (n := n) (A0 := A) (m0 := m) (w0 := w) hok (fun i t hi => (look_dropD).1 (dsts_mem hi)) hF2 ?_ ops.size _ A m _ a (by simp) ?_ hR1 hS1 hE.size hE.defers ?_
  · intro A' m' w' a' k1 k2 k3
    refine ⟨A', m', _, st, k1, k3 _ fun t v htv => (look_app htv).imp (fun h => h) fun h3 => (mem_dsts (hF1 t v h3)).imp fun j hj => ⟨hj.2, h3⟩, k2.weak h0, hF3⟩
  · refine Nat.le_trans (List.countP_le_length) ?_
    simp
  · intro t v hJ
    rcases hJ with hJ | ⟨j, hj, _⟩
    · exact (hE.step hR hS1).val t v ((look_dropD).2 v hJ)
    · exfalso
      rcases Nat.lt_or_ge j ops.size with hlt | hge
      · simp [Array.getD, hlt] at hj
      · simp [Array.getD, Nat.not_lt.2 hge] at hj

/-! ### As equations -/
def SAnyF (P : Program) (env0 : Ev) (st : St) (rest : List COp) (G : Ev) (K : Ev → Prop) : Prop := SAny P env0 st rest G K
def AGo (P : Program) (env0 : Ev) (st : St) (op : Op) (d : Option Tmp) (env : Ev) (rest : List COp) (G : Ev) (K : Ev → Prop) : Prop :=
  ∃ v, SOp2 P op env st (fun av st' => av = v ∧ st' = st) ∧ SAny P env0 st rest (aput d v G) K
def AGoF (P : Program) (env0 : Ev) (st : St) (op : Op) (d : Option Tmp) (env : Ev) (rest : List COp) (G : Ev) (K : Ev → Prop) : Prop := AGo P env0 st op d env rest G K
def ACont (r : Option (AV × St)) (P : Program) (env0 : Ev) (st : St) (d : Option Tmp) (rest : List COp) (G : Ev) (K : Ev → Prop) : Prop :=
  match r with
  | some (av, st') => st' = st ∧ SAny P env0 st rest (aput d av G) K
  | none => False
def ACalling (r : Option (FuncId × List AV)) (P : Program) (env0 : Ev) (st : St) (d : Option Tmp) (rest : List COp) (G : Ev) (K : Ev → Prop) : Prop :=
  match r with
  | some (g, args) => ∃ v, SCall P g args st (fun av st' => av = v ∧ st' = st) ∧ SAnyF P env0 st rest (aput d v G) K
  | none => False
def AGuard (g : Option AV) (want : Bool) (P : Program) (env0 : Ev) (st : St) (op : Op) (d : Option Tmp) (env : Ev) (rest : List COp) (G : Ev) (K : Ev → Prop) : Prop :=
  match g, want with
  | some (.lit (.bool b)), true => Split b (AGoF P env0 st op d env rest G K) (SAnyF P env0 st rest (aput d (.lit undef) G) K)
  | some (.lit (.bool b)), false => Split b (SAnyF P env0 st rest (aput d (.lit undef) G) K) (AGoF P env0 st op d env rest G K)
  | some (.lit (.tuple _)), _ => SAny P env0 st rest (aput d (.lit undef) G) K
  | _, _ => False

section
variable {P : Program} {rest : List COp} {d : Option Tmp} {op : Op} {deps : List Tmp} {env env0 : Ev} {st : St} {G : Ev} {K : Ev → Prop}

theorem sany_nil : SAny P env0 st [] G K = K (G ++ env0) := id rfl
theorem sany_plain : SAny P env0 st (⟨op, deps, none, d⟩ :: rest) G K = AGo P env0 st op d (sel G env0 deps) rest G K := id rfl
theorem sany_guard {t : Tmp} {want : Bool} : SAny P env0 st (⟨op, deps, some (some t, want), d⟩ :: rest) G K = AGuard (look (sel G env0 deps) t) want P env0 st op d (sel G env0 deps) rest G K := by
  unfold AGuard
  simp only [SAny, cguard]
  cases hl : look (sel G env0 deps) t with
  | none => simp
  | some v =>
    cases v with
    | lit x =>
      cases x with
      | bool b => cases b <;> cases want <;> simp [Split, AGoF, SAnyF, AGo]
      | tuple vs => simp
      | _ => simp
    | _ => simp
theorem ago_plain (h : isCall op = false) : AGo P env0 st op d env rest G K = ACont (aop P env st op) P env0 st d rest G K := by
  unfold AGo ACont SOp2
  rw [h]
  cases aop P env st op with
  | none => simp
  | some r =>
    obtain ⟨av, st'⟩ := r
    apply propext
    constructor
    · rintro ⟨v, ⟨rfl, h2⟩, h3⟩; exact ⟨h2, h3⟩
    · rintro ⟨h2, h3⟩; exact ⟨av, ⟨rfl, h2⟩, h3⟩
theorem ago_value {f : Operand} {args : Array Operand} {at_ : Array TypeId} : AGo P env0 st (.call ⟨.value f, args, at_⟩) d env rest G K = ACalling (acall env (.call ⟨.value f, args, at_⟩)) P env0 st d rest G K := by
  unfold AGo ACalling SOp2 SAnyF
  simp only [isCall]
  cases acall env (.call ⟨.value f, args, at_⟩) with
  | none => simp
  | some r => rfl
theorem ago_builtin {b : Builtin} {args : Array Operand} {at_ : Array TypeId} : AGo P env0 st (.call ⟨.builtin b, args, at_⟩) d env rest G K = ACont (abuiltin P env st ⟨.builtin b, args, at_⟩) P env0 st d rest G K := ago_plain rfl
theorem ago_move {x : Operand} : AGo P env0 st (.move x) d env rest G K = ACont ((ev env x).map fun v => (v, st)) P env0 st d rest G K := ago_plain rfl
theorem ago_assign {x : Operand} : AGo P env0 st (.assign x) d env rest G K = ACont ((ev env x).map fun v => (v, st)) P env0 st d rest G K := ago_plain rfl
theorem ago_pick {a b c} : AGo P env0 st (.pick a b c) d env rest G K = ACont (aop P env st (.pick a b c)) P env0 st d rest G K := ago_plain rfl
theorem ago_bin {o t x y u} : AGo P env0 st (.binOp o t x y u) d env rest G K = ACont (aop P env st (.binOp o t x y u)) P env0 st d rest G K := ago_plain rfl
theorem ago_un {o t x} : AGo P env0 st (.unOp o t x) d env rest G K = ACont (aop P env st (.unOp o t x)) P env0 st d rest G K := ago_plain rfl
theorem ago_conv {o t x} : AGo P env0 st (.convert o t x) d env rest G K = ACont (aop P env st (.convert o t x)) P env0 st d rest G K := ago_plain rfl
theorem ago_extract {o t} : AGo P env0 st (.extract o t) d env rest G K = ACont (aop P env st (.extract o t)) P env0 st d rest G K := ago_plain rfl
theorem ago_load {t x} : AGo P env0 st (.load t x) d env rest G K = ACont (aop P env st (.load t x)) P env0 st d rest G K := ago_plain rfl
theorem ago_fieldAddr {t x y} : AGo P env0 st (.fieldAddr t x y) d env rest G K = ACont (aop P env st (.fieldAddr t x y)) P env0 st d rest G K := ago_plain rfl
theorem ago_indexAddr {t x y} : AGo P env0 st (.indexAddr t x y) d env rest G K = ACont (aop P env st (.indexAddr t x y)) P env0 st d rest G K := ago_plain rfl
theorem ago_index {t x y} : AGo P env0 st (.index t x y) d env rest G K = ACont (aop P env st (.index t x y)) P env0 st d rest G K := ago_plain rfl
theorem ago_slice {t x a b c} : AGo P env0 st (.slice t x a b c) d env rest G K = ACont (aop P env st (.slice t x a b c)) P env0 st d rest G K := ago_plain rfl
theorem ago_build {t x} : AGo P env0 st (.build t x) d env rest G K = ACont (aop P env st (.build t x)) P env0 st d rest G K := ago_plain rfl
theorem ago_nilCheck {x} : AGo P env0 st (.nilCheck x) d env rest G K = ACont (aop P env st (.nilCheck x)) P env0 st d rest G K := ago_plain rfl
theorem ago_makeFunc {x y z} : AGo P env0 st (.makeFunc x y z) d env rest G K = ACont (aop P env st (.makeFunc x y z)) P env0 st d rest G K := ago_plain rfl

theorem acont_some {av : AV} : ACont (some (av, st)) P env0 st d rest G K = SAny P env0 st rest (aput d av G) K := by unfold ACont; simp
theorem acalling_some {g : FuncId} {args : List AV} : ACalling (some (g, args)) P env0 st d rest G K = ∃ v, SCall P g args st (fun av st' => av = v ∧ st' = st) ∧ SAnyF P env0 st rest (aput d v G) K := id rfl
theorem aguard_t {b : Bool} : AGuard (some (.lit (.bool b))) true P env0 st op d env rest G K = Split b (AGoF P env0 st op d env rest G K) (SAnyF P env0 st rest (aput d (.lit undef) G) K) := id rfl
theorem aguard_f {b : Bool} : AGuard (some (.lit (.bool b))) false P env0 st op d env rest G K = Split b (SAnyF P env0 st rest (aput d (.lit undef) G) K) (AGoF P env0 st op d env rest G K) := id rfl
theorem aguard_u {want : Bool} : AGuard (some (.lit undef)) want P env0 st op d env rest G K = SAny P env0 st rest (aput d (.lit undef) G) K := id rfl
theorem athaw_any : Thaw (SAnyF P env0 st rest G K) = SAny P env0 st rest G K := id rfl
theorem athaw_go : Thaw (AGoF P env0 st op d env rest G K) = AGo P env0 st op d env rest G K := id rfl
theorem anyF : SAnyF P env0 st rest G K = SAny P env0 st rest G K := id rfl
theorem agoF : AGoF P env0 st op d env rest G K = AGo P env0 st op d env rest G K := id rfl
end

end Go.Proofs.YthhkdanpjcnegaaGreat
