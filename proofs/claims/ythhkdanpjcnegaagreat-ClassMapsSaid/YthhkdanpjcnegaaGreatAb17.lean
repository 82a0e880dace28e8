/- The abstract layer, part 17: regions that draw the order of their operations, some of which turn blocks of the call's own. -/
import Derived.Test.YthhkdanpjcnegaaGreatAb16
namespace Go.Proofs.YthhkdanpjcnegaaGreat
set_option linter.unusedSimpArgs false
set_option linter.unusedVariables false
set_option linter.unusedSectionVars false

/-- Operation s waits for operation i. -/
def waits (all : List Oper) (s i : Nat) : Bool :=
  match all[s]? with
  | some o => o.after.toList.any fun e => Region.binds .any e && Nat.beq e.on i
  | none => false
/-- Nothing of p waited for i. -/
def pendB (all : List Oper) (i : Nat) : List Nat → Bool
  | [] => true
  | s :: p => (!waits all s i) && pendB all i p
/-- What i waits for is in p, or, where it turns nothing, in en. -/
def waitsIn (all : List Oper) (ss p en : List Nat) (i : Nat) : Bool :=
  match all[i]? with
  | some o => o.after.toList.all fun e => !Region.binds .any e || (if memN e.on ss then memN e.on p else memN e.on en)
  | none => false
/-- All that waits for nothing else is in en. -/
def closedB (all : List Oper) (ss p en : List Nat) : Bool :=
  (List.range all.length).all fun i => memN i ss || memN i en || !waitsIn all ss p en i
def allIn (p : List Nat) : List Nat → Bool
  | [] => true
  | s :: r => memN s p && allIn p r

/-- What operations write that do not wait for i. -/
def offs (all : List Oper) (i : Nat) : Nat → List Oper → List Tmp
  | _, [] => []
  | k, o :: r => match o.dst with
    | some t => if waits all k i then offs all i (k + 1) r else t :: offs all i (k + 1) r
    | none => offs all i (k + 1) r
/-- What operation i may find there that was there before the region. -/
def ea (all : List Oper) (e0 : Ev) (i : Nat) : Ev := dropD (offs all i 0 all) e0
theorem offs_mem {all : List Oper} {i : Nat} : ∀ {l : List Oper} {k : Nat} {j : Nat} {t : Tmp}, dstAt l j = some t → waits all (k + j) i = false → t ∈ offs all i k l
  | [], k, j, t, h, _ => by simp [dstAt] at h
  | o :: l, k, 0, t, h, hw => by
    have hd : o.dst = some t := by simpa [dstAt] using h
    unfold offs
    rw [hd]
    simp only [Nat.add_zero] at hw
    simp [hw]
  | o :: l, k, j + 1, t, h, hw => by
    have h1 : t ∈ offs all i (k + 1) l := offs_mem (j := j) (by simpa [dstAt] using h) (by rw [Nat.add_assoc, Nat.add_comm 1]; exact hw)
    unfold offs
    split
    · split
      · exact h1
      · exact List.mem_cons_of_mem _ h1
    · exact h1
theorem ea_look {all : List Oper} {e0 : Ev} {i : Nat} {t : Tmp} {v : AV} (h : look (ea all e0 i) t = some v) : look e0 t = some v ∧ ∀ j, dstAt all j = some t → waits all j i = true := by
  refine ⟨look_dropD.2 v h, fun j hj => ?_⟩
  cases hw : waits all j i with
  | true => rfl
  | false =>
    have := (look_dropD (e := e0) (ds := offs all i 0 all) (t := t)).1 (offs_mem (k := 0) hj (by rw [Nat.zero_add]; exact hw))
    unfold ea at h
    rw [this] at h
    cases h

def PureAt (P : Program) (all : List Oper) (env0 F : Ev) (st : St) (i : Nat) : Prop :=
  match all[i]? with
  | some o => ∃ v, (match o.dst with | some t => look F t = some v | none => True) ∧ OpIs P all (ea all env0 i) st F o v
  | none => False
def PAll (P : Program) (all : List Oper) (env0 F : Ev) (st : St) (p : List Nat) : List Nat → Prop
  | [] => True
  | i :: r => (pendB all i p = true → PureAt P all env0 F st i) ∧ PAll P all env0 F st p r
theorem PAll.at {P all env0 F st p} : ∀ {l : List Nat}, PAll P all env0 F st p l → ∀ i, memN i l = true → pendB all i p = true → PureAt P all env0 F st i
  | [], _, i, h, _ => by cases h
  | x :: l, h, i, hm, hp => by
    simp only [memN, Bool.or_eq_true] at hm
    rcases hm with h1 | h1
    · have := Nat.eq_of_beq_eq_true h1
      subst this
      exact h.1 hp
    · exact PAll.at h.2 i h1 hp
def keysOf : Ev → List Nat
  | [] => []
  | (t, _) :: e => t :: keysOf e

/-- Each of these slots is written by one of these operations. -/
def keysIn (all : List Oper) (l : List Nat) : List Nat → Bool
  | [] => true
  | k :: r => (l.any fun j => match dstAt all j with | some t => Nat.beq t k | none => false) && keysIn all l r
theorem keysIn_spec {all : List Oper} {l : List Nat} : ∀ {ks : List Nat}, keysIn all l ks = true → ∀ k ∈ ks, ∃ j, memN j l = true ∧ dstAt all j = some k
  | [], _, k, h => by cases h
  | x :: r, h, k, hk => by
    simp only [keysIn, Bool.and_eq_true] at h
    rcases List.mem_cons.1 hk with rfl | hk
    · obtain ⟨j, h1, h2⟩ := List.any_eq_true.1 h.1
      refine ⟨j, memN_iff.2 h1, ?_⟩
      split at h2
      · rename_i t ht; rw [ht, Nat.eq_of_beq_eq_true h2]
      · cases h2
    · exact keysIn_spec h.2 k hk

/-- The ways through such a region. p: what has turned blocks so far; en: what may have been asked by now. -/
def DT (P : Program) (all : List Oper) (ss : List Nat) (env0 : Ev) (K : Ev → St → Prop) : Nat → List Nat → List Nat → Ev → St → Prop
  | 0, p, en, F, st => PAll P all env0 F st p en ∧ closedB all ss p en = true ∧ allIn p ss = true ∧ K (F ++ dropD (dsts all) env0) st
  | n + 1, p, en, F, st => PAll P all env0 F st p en ∧ closedB all ss p en = true ∧ allIn p ss = false ∧ ∀ s, memN s ss = true → memN s p = false → waitsIn all ss p en s = true →
      match all[s]? with
      | some o => cguard (sel F (ea all env0 s) (depsOf all o.after.toList)) (guardOf all o.guard) = some true ∧ SOp2 P o.op (sel F (ea all env0 s) (depsOf all o.after.toList)) st (fun av st' => ∃ en' new,
          keysOut (keysOf new) F = true ∧ keysIn all ((s :: p) ++ (en' ++ en)) (keysOf new) = true ∧ (match o.dst with | some t => look (new ++ F) t = some av | none => True) ∧ DT P all ss env0 K n (s :: p) (en' ++ en) (new ++ F) st')
      | none => False

theorem keysOf_mem : ∀ {e : Ev} {t : Nat} {v : AV}, look e t = some v → t ∈ keysOf e
  | [], t, v, h => by cases h
  | (k, x) :: e, t, v, h => by
    simp only [look] at h
    split at h
    · rename_i e'; subst e'; simp [keysOf]
    · simp [keysOf, keysOf_mem h]
theorem look_new {new F : Ev} (hk : keysOut (keysOf new) F = true) {t : Nat} {v : AV} (h : look F t = some v) : look (new ++ F) t = some v := by
  have h1 := keysOut_look hk h
  have : ∀ {e : Ev}, t ∉ keysOf e → look (e ++ F) t = some v := fun {e} => by
    induction e with
    | nil => intro _; exact h
    | cons p e ih =>
      obtain ⟨k, x⟩ := p
      intro hn
      simp only [keysOf, List.mem_cons, not_or] at hn
      simp only [List.cons_append, look, if_neg (Ne.symm hn.1)]
      exact ih hn.2
  exact this h1

/-- The operations through so far: those of p, and some of en. -/
structure Runs (ss p en : List Nat) (listed : Array Bool) : Prop where
  turned : ∀ i, memN i ss = true → (listed.getD i false = true ↔ memN i p = true)
  asked : ∀ i, listed.getD i false = true → memN i ss = false → memN i en = true

theorem waits_of {all : List Oper} {s i : Nat} {o : Oper} (ho : all[s]? = some o) (h : waits all s i = true) : ∃ e ∈ o.after.toList, Region.binds .any e = true ∧ e.on = i := by
  unfold waits at h
  rw [ho] at h
  simp only [List.any_eq_true, Bool.and_eq_true] at h
  obtain ⟨e, h1, h2, h3⟩ := h
  exact ⟨e, h1, h2, Nat.eq_of_beq_eq_true h3⟩

theorem allIn_spec {p : List Nat} : ∀ {l : List Nat}, (∀ s, memN s l = true → memN s p = true) → allIn p l = true
  | [], _ => rfl
  | x :: l, h => by
    unfold allIn
    rw [h x (by simp [memN]), allIn_spec fun s hs => h s (by simp [memN, hs])]
    rfl
theorem allIn_get {p : List Nat} : ∀ {l : List Nat}, allIn p l = true → ∀ s, memN s l = true → memN s p = true
  | [], _, s, h => by cases h
  | x :: l, h, s, hs => by
    simp only [allIn, Bool.and_eq_true] at h
    simp only [memN, Bool.or_eq_true] at hs
    rcases hs with h1 | h1
    · rw [← Nat.eq_of_beq_eq_true h1]; exact h.1
    · exact allIn_get h.2 s h1
theorem memN_append {s : Nat} : ∀ {l r : List Nat}, memN s (l ++ r) = true ↔ memN s l = true ∨ memN s r = true
  | l, r => by simp only [memN_iff, List.mem_append]
theorem memN_cons {s x : Nat} {l : List Nat} : memN s (x :: l) = true ↔ s = x ∨ memN s l = true := by simp only [memN_iff, List.mem_cons]

theorem pend_of {all : List Oper} {i : Nat} : ∀ {p : List Nat}, (∀ s, memN s p = true → waits all s i = false) → pendB all i p = true
  | [], _ => rfl
  | s :: p, h => by
    unfold pendB
    rw [h s (by simp [memN]), pend_of fun s hs => h s (by simp [memN, hs])]
    rfl

/-- What stands in slot t once the listed operations are through. -/
def JustE (all : List Oper) (F : Ev) (env0 : Ev) (listed : Array Bool) (t : Tmp) (v : AV) : Prop :=
  (look env0 t = some v ∧ ∀ j, dstAt all j = some t → listed.getD j false = false) ∨ ∃ j, listed.getD j false = true ∧ dstAt all j = some t ∧ look F t = some v

theorem wpAny_dt {P : Program} {ops : Array Oper} {ss : List Nat} {env0 : Ev} {K : Ev → St → Prop} {n nb0 : Nat} {Q : Exit → Act → World → Prop} {A0 : Nat → Prop} {m0 : BM} {w0 : World}
    (hok : anyOk n ops.toList = true) (hss : ∀ s, memN s ss = true → s < ops.size)
    (hQ : ∀ a w, Onward A0 m0 nb0 w0 n K a w → Q .normal a w) :
    ∀ (fuel : Nat) (k : Nat) (p en : List Nat) (F : Ev) (st : St) (listed : Array Bool) (A : Nat → Prop) (m : BM) (w : World) (a : Act), DT P ops.toList ss env0 K k p en F st →
      (∀ i, memN i p = true → listed.getD i false = true) → (∀ i, memN i ss = true → listed.getD i false = true → memN i p = true) → (∀ i, listed.getD i false = true → memN i ss = false → memN i en = true) →
      (∀ s i, listed.getD s false = true → waits ops.toList s i = true → listed.getD i false = true) → (∀ t v, look F t = some v → ∃ j, dstAt ops.toList j = some t) →
      (∀ j t, listed.getD j false = true → dstAt ops.toList j = some t → ∃ v, look F t = some v) →
      listed.size = ops.size → listed.toList.countP (· == false) ≤ fuel → R A m w st → Step A0 m0 nb0 w0 A m st.length w →
      a.tmps.size = n → a.defers = [] → (∀ t v, JustE ops.toList F env0 listed t v → t < n ∧ V A m st.length w v (a.tmps.getD t undef)) → wpAny P .any ops Q fuel listed a w := by
  obtain ⟨hok1, huniq⟩ := anyOk_spec hok
  have lt_of : ∀ j t, dstAt ops.toList j = some t → j < ops.size := fun j t hj => by
    unfold dstAt at hj
    cases ho : ops.toList[j]? with
    | none => rw [ho] at hj; cases hj
    | some o => simpa using (List.getElem?_eq_some_iff.1 ho).1
  -- what is not through is ready, or waits for something that is not through
  have allin : ∀ listed : Array Bool, listed.size = ops.size → Region.ready .any ops listed = [] → ∀ j, j < ops.size → listed.getD j false = true := fun listed hsz hr j => by
    induction j using Nat.strongRecOn with
    | _ j ihj =>
      intro hj
      cases hb : listed.getD j false with
      | true => rfl
      | false =>
        exfalso
        have hj' : j < listed.size := by omega
        have hb' : listed.getD j true = false := by simpa [Array.getD, hj'] using hb
        have hoj : ops[j]? = some ops[j] := Array.getElem?_eq_getElem hj
        have : j ∈ Region.ready .any ops listed := mem_ready.2 ⟨hb', _, hoj, fun e he hbe => by
          have hlt := (hok1 j ops[j] (by simp)).2 e (by simpa using he) hbe
          exact ihj e.on hlt (by omega)⟩
        rw [hr] at this
        cases this
  have fin : ∀ (k : Nat) (p en : List Nat) (F : Ev) (st : St) (listed : Array Bool) (A : Nat → Prop) (m : BM) (w : World) (a : Act), DT P ops.toList ss env0 K k p en F st →
      (∀ i, memN i ss = true → listed.getD i false = true → memN i p = true) →
      (∀ t v, look F t = some v → ∃ j, dstAt ops.toList j = some t) → (∀ j, j < ops.size → listed.getD j false = true) → R A m w st → Step A0 m0 nb0 w0 A m st.length w →
      a.tmps.size = n → a.defers = [] → (∀ t v, JustE ops.toList F env0 listed t v → t < n ∧ V A m st.length w v (a.tmps.getD t undef)) → Q .normal a w := fun k p en F st listed A m w a hD hRu hF hall hR hS h1 h2 hI => by
    cases k with
    | zero =>
      refine hQ a w ⟨A, m, _, st, hR, env_of h1 h2 fun t v htv => ?_, hS, hD.2.2.2⟩
      rcases look_app htv with h | h
      · refine hI t v (.inl ⟨look_dropD.2 v h, fun j hj => ?_⟩)
        rw [look_dropD.1 (dsts_mem hj)] at h
        cases h
      · obtain ⟨j, hj⟩ := hF t v h
        exact hI t v (.inr ⟨j, hall j (lt_of j t hj), hj, h⟩)
    | succ k =>
      exfalso
      have h3 := hD.2.2.1
      rw [allIn_spec fun s hs => hRu s hs (hall s (hss s hs))] at h3
      cases h3
  intro fuel
  induction fuel with
  | zero =>
    intro k p en F st listed A m w a hD r0 r1 r2 hW hF hL hsz hc hR hS h1 h2 hI
    have hall : ∀ j, j < ops.size → listed.getD j true = true := fun j hj => by
      have h0 : listed.toList.countP (· == false) = 0 := by omega
      rw [List.countP_eq_zero] at h0
      have hj' : j < listed.size := by omega
      have := h0 listed[j] (by simp)
      have e : listed.getD j true = listed[j] := by simp [Array.getD, hj']
      rw [e]
      simpa using this
    refine ⟨?_, fin k p en F st listed A m w a hD r1 hF (fun j hj => ?_) hR hS h1 h2 hI⟩
    · rw [List.eq_nil_iff_forall_not_mem]
      intro j hj
      obtain ⟨h3, o, ho, _⟩ := mem_ready.1 hj
      rw [hall j (Array.getElem?_eq_some_iff.1 ho).1] at h3
      cases h3
    · have := hall j hj
      have hj' : j < listed.size := by omega
      simpa [Array.getD, hj'] using this
  | succ fuel ih =>
    intro k p en F st listed A m w a hD r0 r1 r2 hW hF hL hsz hc hR hS h1 h2 hI
    refine ⟨fun hr => fin k p en F st listed A m w a hD r1 hF (allin listed hsz hr) hR hS h1 h2 hI, fun i hi => ?_⟩
    obtain ⟨h3, o, ho, hdep⟩ := mem_ready.1 hi
    have hil : i < ops.size := (Array.getElem?_eq_some_iff.1 ho).1
    have hil' : i < listed.size := by omega
    have hoL : ops.toList[i]? = some o := by simpa using ho
    have hdi : dstAt ops.toList i = o.dst := by unfold dstAt; rw [hoL]; rfl
    have hnl : listed.getD i false = false := by simpa [Array.getD, hil'] using h3
    have hE : Env A m st.length w n (sel F (ea ops.toList env0 i) (depsOf ops.toList o.after.toList)) a := env_of h1 h2 fun t u htu => hI t u ((look_sel htu).imp (fun h => by
        obtain ⟨h3, h4⟩ := ea_look h
        refine ⟨h3, fun j hj => ?_⟩
        cases hl : listed.getD j false with
        | false => rfl
        | true => rw [hW j i hl (h4 j hj)] at hnl; cases hnl) fun ⟨he, hF⟩ => by
      obtain ⟨e, he1, hb, hd⟩ := deps_sub he
      exact ⟨e.on, hdep e (by simpa using he1) hb, hd, hF⟩)
    have hcnt : (listed.setIfInBounds i true).toList.countP (· == false) ≤ fuel := by
      have hli : listed[i] = false := by simpa [Array.getD, hil'] using h3
      have e1 : (listed.setIfInBounds i true).toList = listed.toList.set i true := by simp
      have hlt : i < listed.toList.length := by simpa using hil'
      have hpos : 0 < listed.toList.countP (· == false) := List.countP_pos_iff.2 ⟨false, by rw [← hli]; simp, rfl⟩
      rw [e1, List.countP_set hlt]
      have e2 : listed.toList[i] = false := by simpa using hli
      have e3 : (true == false) = false := rfl
      have e4 : (false == false) = true := rfl
      simp only [e2, e3, e4, if_true, Bool.false_eq_true, if_false]
      omega
    have set_ne : ∀ j, j ≠ i → (listed.setIfInBounds i true).getD j false = listed.getD j false := fun j hj => by
      rw [getD_set_ne false (Ne.symm hj)]
    have set_eq : (listed.setIfInBounds i true).getD i false = true := by simp [Array.getD, hil']
    have set_up : ∀ j, listed.getD j false = true → (listed.setIfInBounds i true).getD j false = true := fun j hj => by
      by_cases h : j = i
      · subst h; exact set_eq
      · rw [set_ne j h]; exact hj
    have hdn := (hok1 i o hoL).1
    -- what was known before, behind the operation
    have old : ∀ (val : Value) (v : AV) (w' : World) (A' : Nat → Prop) (m' : BM) (nb' : Nat) (t : Nat) (u : AV), Step A m st.length w A' m' nb' w' → V A' m' nb' w' v val →
        JustE ops.toList F env0 listed t u → (dstAt ops.toList i ≠ some t) → t < n ∧ V A' m' nb' w' u ((a.put o.dst val).tmps.getD t undef) := fun val v w' A' m' nb' t u hS' hV hj hne => by
      have hE1 : Env A m st.length w n [(t, u)] a := env_of h1 h2 fun t' u' h' => by
        rcases look_append1 h' with ⟨rfl, rfl⟩ | h''
        · exact hI _ _ hj
        · cases h''
      have hE2 := (hE1.step hR hS').aput hdn hV
      refine hE2.val t u ?_
      cases hdd : o.dst with
      | none => simp [aput, look]
      | some d =>
        have : d ≠ t := fun e => hne (by rw [hdi, hdd, e])
        simp [aput, look, this]
    have new_ : ∀ (val : Value) (v : AV) (w' : World) (A' : Nat → Prop) (m' : BM) (nb' : Nat) (t : Nat), Step A m st.length w A' m' nb' w' → V A' m' nb' w' v val → o.dst = some t → t < n ∧ V A' m' nb' w' v ((a.put o.dst val).tmps.getD t undef) := fun val v w' A' m' nb' t hS' hV hd => by
      have hE0 : Env A m st.length w n [] a := env_of h1 h2 fun t' u' (h' : none = some u') => by cases h'
      have hE2 := (hE0.step hR hS').aput hdn hV
      exact hE2.val t v (by rw [hd]; simp [aput, look])
    unfold wpOp
    rw [ho]
    simp only
    cases his : memN i ss with
    | true =>
      -- it turns blocks
      have hnp : memN i p = false := by
        cases h : memN i p with
        | false => rfl
        | true => rw [r0 i h] at hnl; cases hnl
      have hwi : waitsIn ops.toList ss p en i = true := by
        unfold waitsIn
        rw [hoL]
        simp only [List.all_eq_true, Bool.or_eq_true, Bool.not_eq_true']
        intro e he
        cases hb : Region.binds .any e with
        | false => exact .inl rfl
        | true =>
          refine .inr ?_
          have hl := hdep e (by simpa using he) hb
          split
          · rename_i hs; exact r1 _ hs hl
          · rename_i hs; exact r2 _ hl (by simpa using hs)
      cases k with
      | zero =>
        exfalso
        have := allIn_get hD.2.2.1 i his
        rw [hnp] at this
        cases this
      | succ k =>
        have hst := hD.2.2.2 i his hnp hwi
        rw [hoL] at hst
        simp only at hst
        obtain ⟨hg, hop⟩ := hst
        rw [guard_sound hE ((cguard_eq _ _ _).trans hg)]
        simp only [if_true]
        refine .inl (op_wp2 hR hE hop fun val w' A' m' st' av k1 k2 k3 ⟨en', new, k4, k5, k6, k7⟩ => ?_)
        have hlk : ∀ t u, look F t = some u → look (new ++ F) t = some u := fun t u h => look_new k4 h
        refine ih k (i :: p) (en' ++ en) (new ++ F) st' _ A' m' w' _ k7 (fun j hj => ?_) (fun j hj hl => ?_) (fun j hl hj => ?_) (fun s j hs hw => ?_) (fun t v ht => ?_) (fun j t hl hj => ?_) (by simpa using hsz) hcnt k1 (hS.trans0 (k2.weak (Nat.le_refl _) |> fun h => h.weak hS.nbLe)) (by cases hdd : o.dst <;> simp [Act.put, h1]) (by cases hdd : o.dst <;> simp [Act.put, h2]) (fun t u hJ => ?_)
        · rcases memN_cons.1 hj with rfl | h
          · exact set_eq
          · exact set_up j (r0 j h)
        · by_cases h : j = i
          · subst h; exact memN_cons.2 (.inl rfl)
          · rw [set_ne j h] at hl; exact memN_cons.2 (.inr (r1 j hj hl))
        · by_cases h : j = i
          · subst h; rw [his] at hj; cases hj
          · rw [set_ne j h] at hl; exact memN_append.2 (.inr (r2 j hl hj))
        · by_cases h : s = i
          · subst h
            obtain ⟨e, he, hb, rfl⟩ := waits_of hoL hw
            exact set_up _ (hdep e (by simpa using he) hb)
          · rw [set_ne s h] at hs; exact set_up _ (hW s j hs hw)
        · rcases look_app (e := F) (G := new) ht with h | h
          · exact hF t v h
          · obtain ⟨j, _, hj⟩ := keysIn_spec k5 t (keysOf_mem h)
            exact ⟨j, hj⟩
        · by_cases h : j = i
          · subst h
            rw [hdi] at hj
            rw [hj] at k6
            exact ⟨av, k6⟩
          · rw [set_ne j h] at hl
            obtain ⟨v, hv⟩ := hL j t hl hj
            exact ⟨v, hlk t v hv⟩
        · rcases hJ with ⟨hJ, hJ2⟩ | ⟨j, hj1, hj2, hj3⟩
          · have hni : dstAt ops.toList i ≠ some t := fun hd => by
              have := hJ2 i hd
              rw [set_eq] at this
              cases this
            refine old val av w' A' m' st'.length t u k2 k3 (.inl ⟨hJ, fun j hj => ?_⟩) hni
            have := hJ2 j hj
            by_cases h : j = i
            · subst h; exact absurd hj hni
            · rwa [set_ne j h] at this
          · by_cases hji : j = i
            · subst hji
              rw [hdi] at hj2
              rw [hj2] at k6
              have hu : u = av := Option.some.inj (hj3.symm.trans k6)
              subst hu
              exact new_ val u w' A' m' st'.length t k2 k3 hj2
            · rw [set_ne j hji] at hj1
              obtain ⟨v, hv⟩ := hL j t hj1 hj2
              have hu : u = v := Option.some.inj (hj3.symm.trans (hlk t v hv))
              subst hu
              exact old val av w' A' m' st'.length t u k2 k3 (.inr ⟨j, hj1, hj2, hv⟩) fun hd => hji (huniq _ _ _ hj2 hd)
    | false =>
      -- it turns nothing
      have hcl : closedB ops.toList ss p en = true := by cases k <;> exact hD.2.1
      have hpa : PAll P ops.toList env0 F st p en := by cases k <;> exact hD.1
      have hwi : waitsIn ops.toList ss p en i = true := by
        unfold waitsIn
        rw [hoL]
        simp only [List.all_eq_true, Bool.or_eq_true, Bool.not_eq_true']
        intro e he
        cases hb : Region.binds .any e with
        | false => exact .inl rfl
        | true =>
          refine .inr ?_
          have hl := hdep e (by simpa using he) hb
          split
          · rename_i hs; exact r1 _ hs hl
          · rename_i hs; exact r2 _ hl (by simpa using hs)
      have hen : memN i en = true := by
        have := (List.all_eq_true.1 hcl) i (List.mem_range.2 (by simpa using hil))
        rw [his, hwi] at this
        simpa using this
      have hpe : pendB ops.toList i p = true := pend_of fun s hs => by
        cases hw : waits ops.toList s i with
        | false => rfl
        | true => rw [hW s i (r0 s hs) hw] at hnl; cases hnl
      have hat := hpa.at i hen hpe
      unfold PureAt at hat
      rw [hoL] at hat
      simp only at hat
      obtain ⟨v, hv, hop⟩ := hat
      have next : ∀ (val : Value) (w' : World) (A' : Nat → Prop) (m' : BM), R A' m' w' st → Step A m st.length w A' m' st.length w' → V A' m' st.length w' v val → wpAny P .any ops Q fuel (listed.setIfInBounds i true) (a.put o.dst val) w' := fun val w' A' m' hR' hS' hV => by
        refine ih k p en F st _ A' m' w' _ hD (fun j hj => set_up j (r0 j hj)) (fun j hj hl => ?_) (fun j hl hj => ?_) (fun s j hs hw => ?_) hF (fun j t hl hj => ?_) (by simpa using hsz) hcnt hR' (hS.trans0 (hS'.weak hS.nbLe)) (by cases hdd : o.dst <;> simp [Act.put, h1]) (by cases hdd : o.dst <;> simp [Act.put, h2]) fun t u hJ => ?_
        · by_cases h : j = i
          · subst h; rw [his] at hj; cases hj
          · rw [set_ne j h] at hl; exact r1 j hj hl
        · by_cases h : j = i
          · subst h; exact hen
          · rw [set_ne j h] at hl; exact r2 j hl hj
        · by_cases h : s = i
          · subst h
            obtain ⟨e, he, hb, rfl⟩ := waits_of hoL hw
            exact set_up _ (hdep e (by simpa using he) hb)
          · rw [set_ne s h] at hs; exact set_up _ (hW s j hs hw)
        · by_cases h : j = i
          · subst h
            rw [hdi] at hj
            rw [hj] at hv
            exact ⟨v, hv⟩
          · rw [set_ne j h] at hl; exact hL j t hl hj
        · rcases hJ with ⟨hJ, hJ2⟩ | ⟨j, hj1, hj2, hj3⟩
          · have hni : dstAt ops.toList i ≠ some t := fun hd => by
              have := hJ2 i hd
              rw [set_eq] at this
              cases this
            refine old val v w' A' m' st.length t u hS' hV (.inl ⟨hJ, fun j hj => ?_⟩) hni
            have := hJ2 j hj
            by_cases h : j = i
            · subst h; exact absurd hj hni
            · rwa [set_ne j h] at this
          · by_cases hji : j = i
            · subst hji
              rw [hdi] at hj2
              rw [hj2] at hv
              have hu : u = v := Option.some.inj (hj3.symm.trans hv)
              subst hu
              exact new_ val u w' A' m' st.length t hS' hV hj2
            · rw [set_ne j hji] at hj1
              exact old val v w' A' m' st.length t u hS' hV (.inr ⟨j, hj1, hj2, hj3⟩) fun hd => hji (huniq _ _ _ hj2 hd)
      unfold OpIs at hop
      split at hop
      · rename_i hg
        rw [guard_sound hE ((cguard_eq _ _ _).trans hg)]
        simp only [if_true]
        refine .inl (op_wp2 hR hE hop fun val w' A' m' st' av k1 k2 k3 ⟨k4, k5⟩ => ?_)
        subst k4; subst k5
        exact next val w' A' m' k1 k2 k3
      · rename_i hg
        rw [guard_sound hE ((cguard_eq _ _ _).trans hg)]
        simp only [Bool.false_eq_true, if_false]
        subst hop
        exact next undef w A m hR (Step.refl _ _ _ _) (.imm (.lit _))
      · exact hop.elim

def ltAll (k : Nat) : List Nat → Bool
  | [] => true
  | x :: l => Nat.blt x k && ltAll k l
theorem ltAll_get {k : Nat} : ∀ {l : List Nat}, ltAll k l = true → ∀ s, memN s l = true → s < k
  | [], _, s, h => by cases h
  | x :: l, h, s, hs => by
    simp only [ltAll, Bool.and_eq_true] at h
    simp only [memN, Bool.or_eq_true] at hs
    rcases hs with h1 | h1
    · rw [← Nat.eq_of_beq_eq_true h1]; exact Nat.le_of_ble_eq_true h.1
    · exact ltAll_get h.2 s h1

theorem sw_region_dt {P : Program} {n nb0 : Nat} {Q : Exit → Ev → St → Prop} {env : Ev} {st : St} {id : Nat} {ops : Array Oper} (ss en : List Nat) (F : Ev) (k : Nat) (hm : P.follows .mixedOrders = true) (hok : anyOk n ops.toList = true) (hss : ltAll ops.size ss = true) (hks : keysIn ops.toList en (keysOf F) = true)
    (h : DT P ops.toList ss env (Q .normal) k [] en F st) : SW P n nb0 (.region id ops true) Q env st := by
  intro A m w a h0 hR hE
  have hg : Grow w { w with drawn := w.drawn + 1 } := ⟨Nat.le_refl _, fun _ _ => rfl, rfl, rfl, rfl⟩
  obtain ⟨hR1, hS1⟩ := hR.grow' hg
  refine wp_region_any hm ?_
  have hf : ∀ j, (Array.replicate ops.size false).getD j false = false := fun j => by simp [Array.getD]
  refine wpAny_dt (n := n) (nb0 := nb0) (A0 := A) (m0 := m) (w0 := w) (K := Q .normal) (Q := fun e a' w' => Onward A m nb0 w n (Q e) a' w') hok (ltAll_get hss) (fun a w h => h) ops.size k [] en F st _ A m _ a h
    (fun i hi => by cases hi) (fun i _ hl => by rw [hf] at hl; cases hl) (fun i hl _ => by rw [hf] at hl; cases hl) (fun s i hs _ => by rw [hf] at hs; cases hs) (fun t v ht => ?_) (fun j t hl _ => by rw [hf] at hl; cases hl) (by simp) ?_ hR1 (hS1.weak h0) hE.size hE.defers ?_
  · obtain ⟨j, _, hj⟩ := keysIn_spec hks t (keysOf_mem ht)
    exact ⟨j, hj⟩
  · refine Nat.le_trans (List.countP_le_length) ?_
    simp
  · intro t v hJ
    rcases hJ with ⟨hJ, _⟩ | ⟨j, hj, _⟩
    · exact (hE.step hR hS1).val t v hJ
    · rw [hf] at hj; cases hj

/-- A drawn region, then the rest, told anew where its ways meet. -/
theorem rd {P : Program} {n nb0 : Nat} {Q : Exit → Ev → St → Prop} {env : Ev} {st : St} {id : Nat} {ops : Array Oper} {y : Code} (E : Ev) (S : St) (ss en : List Nat) (F : Ev) (k : Nat) (hm : P.follows .mixedOrders = true) (hok : anyOk n ops.toList = true) (hss : ltAll ops.size ss = true) (hks : keysIn ops.toList en (keysOf F) = true)
    (h : DT P ops.toList ss env (fun env st => Can nb0 E S env st) k [] en F st) (hy : SW P n nb0 y Q E S) : SW P n nb0 (.seq (.region id ops true) y) Q env st :=
  sw_seq ((sw_region_dt (Q := fun e env st => match e with | .normal => Can nb0 E S env st | _ => False) ss en F k hm hok hss hks h).mono fun e env st h => by
    cases e with
    | normal => exact sw_can h hy
    | _ => exact h.elim)

/-- A drawn region with nothing behind it. -/
theorem rdL {P : Program} {n nb0 : Nat} {Q : Exit → Ev → St → Prop} {env : Ev} {st : St} {id : Nat} {ops : Array Oper} (E : Ev) (S : St) (ss en : List Nat) (F : Ev) (k : Nat) (hm : P.follows .mixedOrders = true) (hok : anyOk n ops.toList = true) (hss : ltAll ops.size ss = true) (hks : keysIn ops.toList en (keysOf F) = true)
    (h : DT P ops.toList ss env (fun env st => Can nb0 E S env st) k [] en F st) (hy : Q .normal E S) : SW P n nb0 (.region id ops true) Q env st := by
  intro A m w a h0 hR hE
  refine wp_mono (sw_region_dt (Q := fun e env st => match e with | .normal => Can nb0 E S env st | _ => False) ss en F k hm hok hss hks h A m w a h0 hR hE) fun e a' w' ho => ?_
  obtain ⟨A', m', e', s', h1, h2, h3, h4⟩ := ho
  cases e with
  | normal =>
    obtain ⟨L, c1, c2, c3, c4, c5⟩ := h4
    have hs := RsSt.of c2 c3
    exact ⟨_, _, E, S, h1.rs hs, h2.rs h1 hs c1, h3.rs hs c4 c5, hy⟩
  | _ => exact h4.elim

/-! ### Words -/
section
variable {P : Program} {all : List Oper} {env0 F env : Ev} {st : St} {ss p en : List Nat} {K : Ev → St → Prop}
theorem sop2 {o : Oper} {K : AV → St → Prop} {t : Nat} (hd : o.dst = some t) (h : SOp P o env st fun env' st' => ∃ v, env' = (t, v) :: env ∧ K v st') : SOp2 P o.op env st K := by
  unfold SOp at h
  unfold SOp2
  rw [hd] at h
  have e : ∀ av st', (∃ v, aput (some t) av env = (t, v) :: env ∧ K v st') → K av st' := fun av st' ⟨v, h1, h2⟩ => by
    have : v = av := by simp [aput] at h1; exact h1.symm
    subst this; exact h2
  generalize isCall o.op = c at h ⊢
  cases c with
  | true =>
    simp only at h ⊢
    generalize acall env o.op = x at h ⊢
    cases x with
    | none => exact h.elim
    | some y => exact h.mono e
  | false =>
    simp only at h ⊢
    generalize aop P env st o.op = x at h ⊢
    cases x with
    | none => exact h.elim
    | some y => exact e _ _ h
theorem sop0 {o : Oper} {K : AV → St → Prop} (hd : o.dst = none) (h : SOp P o env st fun env' st' => ∀ v, K v st') : SOp2 P o.op env st K := by
  unfold SOp at h
  unfold SOp2
  rw [hd] at h
  generalize isCall o.op = c at h ⊢
  cases c with
  | true =>
    simp only at h ⊢
    generalize acall env o.op = x at h ⊢
    cases x with
    | none => exact h.elim
    | some y => exact h.mono fun av st' h => h av
  | false =>
    simp only at h ⊢
    generalize aop P env st o.op = x at h ⊢
    cases x with
    | none => exact h.elim
    | some y => exact h _
/-- An operation that turns nothing, without a guard. -/
theorem pa {i t : Nat} {o : Oper} {v : AV} (ho : all[i]? = some o) (hd : o.dst = some t) (hg : o.guard = none) (hv : look F t = some v) (h : SOp P o (sel F (ea all env0 i) (depsOf all o.after.toList)) st fun env' st' => env' = (t, v) :: sel F (ea all env0 i) (depsOf all o.after.toList) ∧ st' = st) : PureAt P all env0 F st i := by
  unfold PureAt
  rw [ho]
  refine ⟨v, by rw [hd]; exact hv, ?_⟩
  unfold OpIs
  rw [hg]
  exact sop2 hd (h' h)
where
  h' {o : Oper} {t : Nat} {v : AV} {env : Ev} (h : SOp P o env st fun env' st' => env' = (t, v) :: env ∧ st' = st) : SOp P o env st fun env' st' => ∃ u, env' = (t, u) :: env ∧ (u = v ∧ st' = st) := by
    unfold SOp at h ⊢
    generalize isCall o.op = c at h ⊢
    cases c with
    | true =>
      simp only at h ⊢
      generalize acall env o.op = x at h ⊢
      cases x with
      | none => exact h.elim
      | some y => exact h.mono fun av st' ⟨h1, h2⟩ => ⟨v, h1, rfl, h2⟩
    | false =>
      simp only at h ⊢
      generalize aop P env st o.op = x at h ⊢
      cases x with
      | none => exact h.elim
      | some y => exact ⟨v, h.1, rfl, h.2⟩
/-- An operation that turns nothing, whose guard holds. -/
theorem pag {i t : Nat} {o : Oper} {v : AV} {b : Bool} {c : Nat} {want : Bool} (ho : all[i]? = some o) (hd : o.dst = some t) (hg : guardOf all o.guard = some (some c, want)) (hc : look (sel F (ea all env0 i) (depsOf all o.after.toList)) c = some (.lit (.bool b))) (hb : b = want) (hv : look F t = some v)
    (h : SOp P o (sel F (ea all env0 i) (depsOf all o.after.toList)) st fun env' st' => env' = (t, v) :: sel F (ea all env0 i) (depsOf all o.after.toList) ∧ st' = st) : PureAt P all env0 F st i := by
  unfold PureAt
  rw [ho]
  refine ⟨v, by rw [hd]; exact hv, ?_⟩
  unfold OpIs
  rw [hg]
  simp only [cguard, hc, hb, beq_self_eq_true]
  exact sop2 hd (pa.h' h)
/-- Its guard does not hold. -/
theorem pas {i t : Nat} {o : Oper} {b : Bool} {c : Nat} {want : Bool} (ho : all[i]? = some o) (hd : o.dst = some t) (hg : guardOf all o.guard = some (some c, want)) (hc : look (sel F (ea all env0 i) (depsOf all o.after.toList)) c = some (.lit (.bool b))) (hb : b = !want) (hv : look F t = some (.lit undef)) : PureAt P all env0 F st i := by
  unfold PureAt
  rw [ho]
  refine ⟨.lit undef, by rw [hd]; exact hv, ?_⟩
  unfold OpIs
  rw [hg]
  simp only [cguard, hc, hb]
  have : ((!want) == want) = false := by cases want <;> rfl
  rw [this]
  trivial
/-- Its guard was not asked itself. -/
theorem pau {i t : Nat} {o : Oper} {c : Nat} {want : Bool} (ho : all[i]? = some o) (hd : o.dst = some t) (hg : guardOf all o.guard = some (some c, want)) (hc : look (sel F (ea all env0 i) (depsOf all o.after.toList)) c = some (.lit undef)) (hv : look F t = some (.lit undef)) : PureAt P all env0 F st i := by
  unfold PureAt
  rw [ho]
  refine ⟨.lit undef, by rw [hd]; exact hv, ?_⟩
  unfold OpIs
  rw [hg]
  simp only [cguard, hc, undef]

/-- One operation that turns blocks, and what follows. -/
def SStp (P : Program) (all : List Oper) (ss : List Nat) (env0 : Ev) (K : Ev → St → Prop) (n : Nat) (p en : List Nat) (F : Ev) (st : St) (s : Nat) : Prop :=
  ∃ o, all[s]? = some o ∧ cguard (sel F (ea all env0 s) (depsOf all o.after.toList)) (guardOf all o.guard) = some true ∧ SOp P o (sel F (ea all env0 s) (depsOf all o.after.toList)) st fun env' st' => ∃ av en' new, env' = aput o.dst av (sel F (ea all env0 s) (depsOf all o.after.toList)) ∧
    keysOut (keysOf new) F = true ∧ keysIn all ((s :: p) ++ (en' ++ en)) (keysOf new) = true ∧ (match o.dst with | some t => look (new ++ F) t = some av | none => True) ∧ DT P all ss env0 K n (s :: p) (en' ++ en) (new ++ F) st'
def SStps (P : Program) (all : List Oper) (ss : List Nat) (env0 : Ev) (K : Ev → St → Prop) (n : Nat) (p en : List Nat) (F : Ev) (st : St) : List Nat → Prop
  | [] => True
  | s :: r => (memN s p = false → waitsIn all ss p en s = true → SStp P all ss env0 K n p en F st s) ∧ SStps P all ss env0 K n p en F st r
theorem SStps.at {n : Nat} : ∀ {l : List Nat}, SStps P all ss env0 K n p en F st l → ∀ s, memN s l = true → memN s p = false → waitsIn all ss p en s = true → SStp P all ss env0 K n p en F st s
  | [], _, s, h => by cases h
  | x :: l, h, s, hs => by
    simp only [memN, Bool.or_eq_true] at hs
    rcases hs with h1 | h1
    · rw [← Nat.eq_of_beq_eq_true h1]; exact h.1
    · exact SStps.at h.2 s h1
theorem dtS {n : Nat} (h1 : PAll P all env0 F st p en) (h2 : closedB all ss p en = true) (h3 : allIn p ss = false) (h4 : SStps P all ss env0 K n p en F st ss) : DT P all ss env0 K (n + 1) p en F st := by
  refine ⟨h1, h2, h3, fun s a b c => ?_⟩
  obtain ⟨o, ho, hg, hs⟩ := h4.at s a b c
  rw [ho]
  refine ⟨hg, ?_⟩
  unfold SOp at hs
  unfold SOp2
  generalize isCall o.op = cc at hs ⊢
  have e : ∀ av st', (∃ av0 en' new, aput o.dst av (sel F (ea all env0 s) (depsOf all o.after.toList)) = aput o.dst av0 (sel F (ea all env0 s) (depsOf all o.after.toList)) ∧ keysOut (keysOf new) F = true ∧ keysIn all ((s :: p) ++ (en' ++ en)) (keysOf new) = true ∧
      (match o.dst with | some t => look (new ++ F) t = some av0 | none => True) ∧ DT P all ss env0 K n (s :: p) (en' ++ en) (new ++ F) st') →
      ∃ en' new, keysOut (keysOf new) F = true ∧ keysIn all ((s :: p) ++ (en' ++ en)) (keysOf new) = true ∧ (match o.dst with | some t => look (new ++ F) t = some av | none => True) ∧ DT P all ss env0 K n (s :: p) (en' ++ en) (new ++ F) st' := fun av st' ⟨av0, en', new, k1, k2, k3, k4, k5⟩ => by
    refine ⟨en', new, k2, k3, ?_, k5⟩
    cases hd : o.dst with
    | none => trivial
    | some t =>
      rw [hd] at k1 k4
      have : av = av0 := by simpa [aput] using k1
      rw [this]; exact k4
  cases cc with
  | true =>
    simp only at hs ⊢
    generalize acall (sel F (ea all env0 s) (depsOf all o.after.toList)) o.op = x at hs ⊢
    cases x with
    | none => exact hs.elim
    | some y => exact hs.mono e
  | false =>
    simp only at hs ⊢
    generalize aop P (sel F (ea all env0 s) (depsOf all o.after.toList)) st o.op = x at hs ⊢
    cases x with
    | none => exact hs.elim
    | some y => exact e _ _ hs
theorem dt0 (h1 : PAll P all env0 F st p en) (h2 : closedB all ss p en = true) (h3 : allIn p ss = true) (h4 : K (F ++ dropD (dsts all) env0) st) : DT P all ss env0 K 0 p en F st := ⟨h1, h2, h3, h4⟩
theorem bb (b : Bool) : b = true ∨ b = false := by cases b <;> simp
/-- pick, by what is known. -/
theorem pkb {c x y : Operand} {ty : TypeId} {pos : String} {aft : Array Edge} {gu : Option (Nat × Bool)} {d : Nat} {b want : Bool} {v : AV} (hc : ev env c = some (.lit (.bool b))) (hb : b = want) (h : cond want (ev env x) (ev env y) = some v) (k : K ((d, v) :: env) st) :
    SOp P ⟨some d, .pick c x y, ty, pos, aft, gu⟩ env st K := by
  subst hb
  refine o_any rfl ?_ k
  cases b <;> simp only [cond] at h <;> simp [aop, hc, h]
end
/-- A slice of no rows more. -/
theorem sw_ph {P : Program} {n nb0 : Nat} {c : Code} {Q : Exit → Ev → St → Prop} {env : Ev} {st : St} (kk : Nat) (h : SW P n nb0 c Q env (st ++ [some (kk, [])])) : SW P n nb0 c Q env st := by
  intro A m w a h0 hR hE
  have hp := hR.push (Grow.refl w) ⟨false, 0, 0, kk, 0⟩ [] (fun h => by cases h) (fun _ => rfl)
    (fun h => by cases h) (fun h => by cases h) (fun h => by cases h) (fun q hq => by cases hq) (fun h => by cases h)
  have hlen : (st ++ [some (kk, [])]).length = st.length + 1 := by simp
  have hE' := hE.step hR hp.2
  rw [← hlen] at hE'
  exact wp_mono (h A _ w a (by rw [hlen]; omega) hp.1 hE') fun _ _ _ k => k.trans (hp.2.weak h0)
theorem cg {env : Ev} {c : Nat} {b want : Bool} (hc : look env c = some (.lit (.bool b))) (hb : b = want) : cguard env (some (some c, want)) = some true := by
  simp only [cguard, hc, hb, beq_self_eq_true]
end Go.Proofs.YthhkdanpjcnegaaGreat
