/- The abstract layer, part 10: other numbers for the blocks of the call's own: within a function, and between a caller and a callee. -/
import Derived.Test.YthhkdanpjcnegaaGreatAb9
namespace Go.Proofs.YthhkdanpjcnegaaGreat
set_option linter.unusedSimpArgs false
set_option linter.unusedVariables false
set_option linter.unusedSectionVars false

/-- ρ: new number to old number. New value, old value. -/
inductive Rn (ρ : Nat → Option Nat) : AV → AV → Prop
  | any (x) : Rn ρ .any x
  | imm {x} (h : Imm x) : Rn ρ x x
  | nilI {k : Nat} : Rn ρ (.isl k []) (.lit (.slice none 0 0))
  | nil0 {l l' : Nat} (h : ρ l = some l') : Rn ρ (.msl l 0 0) (.lit (.slice none 0 0))
  | msl {l l' i n : Nat} (h : ρ l = some l') : Rn ρ (.msl l i n) (.msl l' i n)
  | mpt {l l' i j : Nat} (h : ρ l = some l') : Rn ρ (.mpt l i j) (.mpt l' i j)
  | agg {cs cs' : List AV} (hl : cs.length = cs'.length) (hr : ∀ i (h : i < cs.length) (h' : i < cs'.length), Rn ρ cs[i] cs'[i]) : Rn ρ (.agg cs) (.agg cs')
  | tup {cs cs' : List AV} (hl : cs.length = cs'.length) (hr : ∀ i (h : i < cs.length) (h' : i < cs'.length), Rn ρ cs[i] cs'[i]) : Rn ρ (.tup cs) (.tup cs')
  | fn {f : Fn} {cs cs' ds ds' : List AV} (hl : cs.length = cs'.length) (hr : ∀ i (h : i < cs.length) (h' : i < cs'.length), Rn ρ cs[i] cs'[i])
      (hl' : ds.length = ds'.length) (hr' : ∀ i (h : i < ds.length) (h' : i < ds'.length), Rn ρ ds[i] ds'[i]) : Rn ρ (.fn f cs ds) (.fn f cs' ds')

theorem Rn.v {ρ A m m' nb nb'} {w : World} (hm : ∀ l l', ρ l = some l' → m' l = m l' ∧ l < nb') {av0 av : AV} (h : Rn ρ av0 av) : ∀ {v}, V A m nb w av v → V A m' nb' w av0 v := by
  induction h with
  | any x => exact fun {v} _ => .imm (.any v)
  | imm h => exact fun {v} hv => .imm (h.vi hv)
  | nilI => intro v hv; rw [hv.lit_inv]; exact .imm (.inil _ _ _)
  | nil0 h =>
    intro v hv
    rw [hv.lit_inv]
    exact .msl _ _ _ _ _ _ (hm _ _ h).2 fun b hb => ⟨rfl, Nat.le_refl _, .inl rfl⟩
  | msl h =>
    intro v hv
    obtain ⟨hl, a, n', cap, rfl, hb⟩ := hv.msl_inv
    obtain ⟨h1, h2⟩ := hm _ _ h
    exact .msl _ _ _ _ _ _ h2 fun b hb' => hb b (h1 ▸ hb')
  | mpt h =>
    intro v hv
    obtain ⟨hl, a, rfl, hb⟩ := hv.mpt_inv
    obtain ⟨h1, h2⟩ := hm _ _ h
    exact .mpt _ _ _ _ h2 fun b hb' => hb b (h1 ▸ hb')
  | agg hl hr ih =>
    intro v hv
    obtain ⟨a, rfl, h1, h2⟩ := hv.agg_inv
    exact .agg _ _ (by omega) fun i hi => ih i hi (by omega) (h2 i (by omega))
  | tup hl hr ih =>
    intro v hv
    obtain ⟨a, rfl, h1, h2⟩ := hv.tup_inv
    exact .tup _ _ (by omega) fun i hi => ih i hi (by omega) (h2 i (by omega))
  | fn hl hr hl' hr' ih ih' =>
    intro v hv
    obtain ⟨a, b, rfl, ⟨h1, h2⟩, ⟨h3, h4⟩⟩ := hv.fn_inv
    exact .fn _ _ _ _ _ (by omega) (fun i hi => ih i hi (by omega) (h2 i (by omega))) (by omega) fun i hi => ih' i hi (by omega) (h4 i (by omega))

def RnRows (ρ : Nat → Option Nat) (els0 els : List (List AV)) : Prop :=
  els0.length = els.length ∧ ∀ i (h : i < els0.length) (h' : i < els.length), els0[i].length = els[i].length ∧ ∀ j (h1 : j < els0[i].length) (h2 : j < els[i].length), Rn ρ els0[i][j] els[i][j]

structure RnSt (ρ : Nat → Option Nat) (st0 st : St) : Prop where
  live : ∀ l l', ρ l = some l' → ∃ k els0 els, st0[l]? = some (some (k, els0)) ∧ st[l']? = some (some (k, els)) ∧ RnRows ρ els0 els
  all : ∀ l k els0, st0[l]? = some (some (k, els0)) → ∃ l', ρ l = some l'
  inj : ∀ l1 l2 x, ρ l1 = some x → ρ l2 = some x → l1 = l2

theorem RnSt.lt {ρ st0 st} (h : RnSt ρ st0 st) {l l'} (hl : ρ l = some l') : l < st0.length ∧ l' < st.length := by
  obtain ⟨k, els0, els, h1, h2, _⟩ := h.live l l' hl
  exact ⟨(List.getElem?_eq_some_iff.1 h1).1, (List.getElem?_eq_some_iff.1 h2).1⟩

theorem R.rn {ρ A m w st st0} (hR : R A m w st) (h : RnSt ρ st0 st) : R A (fun l => (ρ l).bind m) w st0 := by
  have hmm : ∀ l b, (ρ l).bind m = some b → ∃ l', ρ l = some l' ∧ m l' = some b := fun l b hb => by
    cases hl : ρ l with
    | none => rw [hl] at hb; cases hb
    | some l' => rw [hl] at hb; exact ⟨l', rfl, hb⟩
  refine ⟨hR.aLow, fun B l b hA hb hh => ?_, fun l1 l2 b1 b2 h1 h2 hh1 hh2 he => ?_, fun l b hb => ?_, fun l k els0 he => ?_⟩
  · obtain ⟨l', _, h2⟩ := hmm l b hb
    exact hR.aOwn B l' b hA h2 hh
  · obtain ⟨x1, k1, k2⟩ := hmm l1 b1 h1
    obtain ⟨x2, k3, k4⟩ := hmm l2 b2 h2
    have := hR.inj x1 x2 b1 b2 k2 k4 hh1 hh2 he
    subst this
    exact h.inj l1 l2 x1 k1 k3
  · obtain ⟨l', h1, h2⟩ := hmm l b hb
    obtain ⟨k, els0, els, h3, h4, _⟩ := h.live l l' h1
    exact ⟨els0, by rw [h3]; rw [(hR.at h2 h4).1]⟩
  · obtain ⟨l', h1⟩ := h.all l k els0 he
    obtain ⟨k', els0', els, h3, h4, h5⟩ := h.live l l' h1
    rw [he] at h3
    cases h3
    obtain ⟨b, h6, h7, h8, h9⟩ := hR.blk l' k els h4
    refine ⟨b, by rw [h1]; exact h6, h7, fun hh => ?_, fun hh => ?_⟩
    · have hok := h8 hh
      refine ⟨hok.low, hok.there, hok.free, by rw [h5.1]; exact hok.fit, fun i hi => by rw [(h5.2 i hi (by rw [← h5.1]; exact hi)).1]; exact hok.wide _ _, fun i hi j hj => ?_⟩
      have hi' : i < els.length := by rw [← h5.1]; exact hi
      have hr := h5.2 i hi hi'
      obtain ⟨v, h10, h11⟩ := hok.val i hi' j (by rw [← hr.1]; exact hj)
      exact ⟨v, h10, (hr.2 j hj (by rw [← hr.1]; exact hj)).v (fun l l' hl => ⟨by rw [hl]; rfl, (h.lt hl).1⟩) h11⟩
    · have := h9 hh
      subst this
      exact List.eq_nil_of_length_eq_zero h5.1

theorem Step.rn {ρ A m nb0 w A' m' nb' w' st0 st'} (h : RnSt ρ st0 st') (hS : Step A m nb0 w A' m' nb' w') (hid : ∀ l l', ρ l = some l' → l < nb0 → l' = l) (hn : nb0 ≤ st0.length) :
    Step A m nb0 w A' (fun l => (ρ l).bind m') st0.length w' := by
  refine ⟨hn, hS.size, hS.aSub, hS.aNew, fun l hl => ?_, fun l b hb hh => ?_, hS.heap, hS.os, hS.tape, hS.output⟩
  · cases hr : ρ l with
    | none => exact .inr rfl
    | some l' =>
      have := hid l l' hr hl
      subst this
      exact hS.mOld l' hl
  · cases hr : ρ l with
    | none => simp [hr] at hb
    | some l' => simp only [hr, Option.bind_some] at hb; exact hS.mNew l' b hb hh

def EnvRn (ρ : Nat → Option Nat) : Ev → Ev → Prop
  | [], _ => True
  | (t, v0) :: r, env => (∃ v, look env t = some v ∧ Rn ρ v0 v) ∧ EnvRn ρ r env

theorem EnvRn.get {ρ} : ∀ {env0 env : Ev}, EnvRn ρ env0 env → ∀ t v0, look env0 t = some v0 → ∃ v, look env t = some v ∧ Rn ρ v0 v
  | [], _, _, t, v0, h => by cases h
  | (k, x) :: r, env, h, t, v0, hl => by
    simp only [look] at hl
    split at hl
    · rename_i e; subst e; cases hl; exact h.1
    · exact EnvRn.get h.2 t v0 hl

/-- Other numbers, fewer blocks, fewer slots: at any place of a walk. -/
theorem sw_ren {P : Program} {n nb0 : Nat} {c : Code} {Q : Exit → Ev → St → Prop} {env env0 : Ev} {st st0 : St} (ρ : Nat → Option Nat) (he : EnvRn ρ env0 env) (hs : RnSt ρ st0 st)
    (hid : ∀ l l', ρ l = some l' → l < nb0 → l' = l) (hn : nb0 ≤ st0.length) (h : SW P n nb0 c Q env0 st0) : SW P n nb0 c Q env st := by
  intro A m w a h0 hR hE
  have hR' := hR.rn hs
  have hE' : Env A (fun l => (ρ l).bind m) st0.length w n env0 a := ⟨hE.size, fun t v0 hl => by
    obtain ⟨v, h1, h2⟩ := he.get t v0 hl
    obtain ⟨h3, h4⟩ := hE.val t v h1
    exact ⟨h3, h2.v (fun l l' hl => ⟨by rw [hl]; rfl, (hs.lt hl).1⟩) h4⟩, hE.defers⟩
  exact wp_mono (h A _ w a hn hR' hE') fun _ _ _ k => k.trans ((Step.refl0 A m st.length w h0).rn hs hid hn)

/-- The same at a function's end. -/
theorem scall_ren {P : Program} {f : FuncId} {args : List AV} {st : St} {K : AV → St → Prop}
    (h : SCall P f args st fun av st' => ∃ ρ av0 st0, Rn ρ av0 av ∧ RnSt ρ st0 st' ∧ (∀ l l', ρ l = some l' → l < st.length → l' = l) ∧ st.length ≤ st0.length ∧ K av0 st0) : SCall P f args st K := by
  refine ⟨h.1, fun A m w vals hR hv => (h.2 A m w vals hR hv).mono fun e w' ⟨v, A', m', st', av, he, hR', hS, hv', ρ, av0, st0, h1, h2, h3, h4, h5⟩ => ?_⟩
  exact ⟨v, A', _, st0, av0, he, hR'.rn h2, hS.rn h2 h3 h4, h1.v (fun l l' hl => ⟨by rw [hl]; rfl, (h2.lt hl).1⟩) hv', h5⟩

/-! ### A contract over few blocks, in a state of many -/
mutual
def rn (τ : Nat → Nat) : AV → AV
  | .msl l i n => .msl (τ l) i n
  | .mpt l i j => .mpt (τ l) i j
  | .agg cs => .agg (rnL τ cs)
  | .tup cs => .tup (rnL τ cs)
  | .fn f cs ds => .fn f (rnL τ cs) (rnL τ ds)
  | .any => .any
  | .lit v => .lit v
  | .isl k els => .isl k els
  | .ipt k els i j => .ipt k els i j
def rnL (τ : Nat → Nat) : List AV → List AV
  | [] => []
  | x :: l => rn τ x :: rnL τ l
end

theorem rnL_map (τ : Nat → Nat) : ∀ l, rnL τ l = l.map (rn τ)
  | [] => rfl
  | x :: l => by rw [rnL, List.map_cons, rnL_map τ l]

theorem rn_v {τ : Nat → Nat} {A m m' nb nb'} {w : World} (hm : ∀ l, l < nb → m' (τ l) = m l ∧ τ l < nb') {av : AV} {v : Value} (h : V A m nb w av v) : V A m' nb' w (rn τ av) v := by
  have immv : ∀ {av v}, VI A w av v → V A m' nb' w (rn τ av) v := fun {av v} h => by
    induction h with
    | any v => exact .imm (.any v)
    | lit v => exact .imm (.lit v)
    | isl k els B o cap vs hA hcap hk hc hv _ => exact .imm (.isl k els B o cap vs hA hcap hk hc hv)
    | inil k a cap => exact .imm (.inil k a cap)
    | ipt k els i j B o vs hA hk hc hv _ => exact .imm (.ipt k els i j B o vs hA hk hc hv)
    | agg cs a hs _ ih => rw [rn, rnL_map]; exact .agg _ _ (by simpa using hs) fun i hi => by simpa using ih i (by simpa using hi)
    | tup cs a hs _ ih => rw [rn, rnL_map]; exact .tup _ _ (by simpa using hs) fun i hi => by simpa using ih i (by simpa using hi)
    | fn f cs ds a b hs _ hs' _ ih ih' => rw [rn, rnL_map, rnL_map]; exact .fn _ _ _ _ _ (by simpa using hs) (fun i hi => by simpa using ih i (by simpa using hi)) (by simpa using hs') fun i hi => by simpa using ih' i (by simpa using hi)
  induction h with
  | imm h => exact immv h
  | msl l i n a n' cap hl h => exact .msl _ _ _ _ _ _ (hm l hl).2 fun b hb => h b ((hm l hl).1 ▸ hb)
  | mpt l i j a hl h => exact .mpt _ _ _ _ (hm l hl).2 fun b hb => h b ((hm l hl).1 ▸ hb)
  | agg cs a hs _ ih => rw [rn, rnL_map]; exact .agg _ _ (by simpa using hs) fun i hi => by simpa using ih i (by simpa using hi)
  | tup cs a hs _ ih => rw [rn, rnL_map]; exact .tup _ _ (by simpa using hs) fun i hi => by simpa using ih i (by simpa using hi)
  | fn f cs ds a b hs _ hs' _ ih ih' => rw [rn, rnL_map, rnL_map]; exact .fn _ _ _ _ _ (by simpa using hs) (fun i hi => by simpa using ih i (by simpa using hi)) (by simpa using hs') fun i hi => by simpa using ih' i (by simpa using hi)

def rnRows (τ : Nat → Nat) (els : List (List AV)) : List (List AV) := els.map (rnL τ)
def rnBlk (τ : Nat → Nat) : Option (Nat × List (List AV)) → Option (Nat × List (List AV))
  | some (k, els) => some (k, rnRows τ els)
  | none => none

/-- L: where the callee's first blocks lie with the caller, who has nb of them. -/
def tau (L : List Nat) (nb : Nat) (i : Nat) : Nat :=
  match L[i]? with
  | some l => l
  | none => nb + (i - L.length)

def setsAt (τ : Nat → Nat) : St → List Nat → St → St
  | st, l :: L, b :: bs => setsAt τ (st.set l (rnBlk τ b)) L bs
  | st, _, _ => st

/-- The caller's state behind the call. -/
def unframe (L : List Nat) (st st' : St) : St :=
  setsAt (tau L st.length) st L (st'.take L.length) ++ (st'.drop L.length).map (rnBlk (tau L st.length))

theorem setsAt_length (τ : Nat → Nat) : ∀ (L : List Nat) (st bs : St), (setsAt τ st L bs).length = st.length
  | [], _, bs => by cases bs <;> rfl
  | l :: L, st, [] => rfl
  | l :: L, st, b :: bs => by rw [setsAt, setsAt_length τ L]; simp

theorem setsAt_get (τ : Nat → Nat) : ∀ (L : List Nat) (st bs : St) (x : Nat), L.Nodup → L.length = bs.length → (∀ l ∈ L, l < st.length) →
    (x ∉ L → (setsAt τ st L bs)[x]? = st[x]?) ∧ ∀ i : Nat, L[i]? = some x → (setsAt τ st L bs)[x]? = (bs[i]?).map (rnBlk τ)
  | [], st, bs, x, _, _, _ => ⟨fun _ => by cases bs <;> rfl, fun i h => by simp at h⟩
  | l :: L, st, [], x, _, h, _ => by simp at h
  | l :: L, st, b :: bs, x, hn, hl, hlt => by
    obtain ⟨hn1, hn2⟩ := List.nodup_cons.1 hn
    obtain ⟨h1, h2⟩ := setsAt_get τ L (st.set l (rnBlk τ b)) bs x hn2 (by simpa using hl) (fun y hy => by simpa using hlt y (by simp [hy]))
    refine ⟨fun hx => ?_, fun i hi => ?_⟩
    · simp at hx
      rw [setsAt, h1 hx.2, List.getElem?_set_ne (Ne.symm hx.1)]
    · cases i with
      | zero =>
        simp at hi
        subst hi
        rw [setsAt, h1 hn1, List.getElem?_set_self (hlt l (by simp))]
        rfl
      | succ i => rw [setsAt]; simpa using h2 i (by simpa using hi)

theorem scall_frame {P : Program} {f : FuncId} {args args0 : List AV} {st st0 : St} {K0 K : AV → St → Prop} (h : SCall P f args0 st0 K0) (L : List Nat) (hL : L.length = st0.length) (hnd : L.Nodup) (hlt : ∀ l ∈ L, l < st.length)
    (ha : args0.length = args.length) (hargs : ∀ i (h : i < args0.length) (h' : i < args.length), Rn (fun i => L[i]?) args0[i] args[i]) (hs : RnSt (fun i => L[i]?) st0 st)
    (hk : ∀ av st', K0 av st' → K (rn (tau L st.length) av) (unframe L st st')) : SCall P f args st K := by
  refine ⟨h.1, fun A m w vals hR hv => ?_⟩
  have hR0 := hR.rn hs
  refine (h.2 A _ w vals hR0 ⟨by rw [ha]; exact hv.1, fun i hi => (hargs i hi (by omega)).v (fun l l' hl => ⟨by rw [hl]; rfl, (hs.lt hl).1⟩) (hv.2 i (by omega))⟩).mono fun e w' ⟨v, A', m', st', av, he, hR', hS, hv', hK⟩ => ?_
  have hS0 := hS.nbLe
  have hLst : L.length ≤ st'.length := by omega
  classical
  -- the caller's numbering behind the call
  have hLlt : ∀ i l, L[i]? = some l → l < st.length := fun i l h => hlt l (List.mem_of_getElem? h)
  obtain ⟨μ, hμ⟩ : ∃ μ : BM, μ = fun l => if h : ∃ i : Nat, L[i]? = some l then m' h.choose else if l < st.length then m l else m' (L.length + (l - st.length)) := ⟨_, rfl⟩
  have μ1 : ∀ i l, L[i]? = some l → μ l = m' i := fun i l h => by
    have hex : ∃ i : Nat, L[i]? = some l := ⟨i, h⟩
    rw [hμ]
    simp only [dif_pos hex]
    rw [hs.inj hex.choose i l hex.choose_spec h]
  have μ2 : ∀ l, (∀ i, L[i]? ≠ some l) → l < st.length → μ l = m l := fun l h hl => by
    have hex : ¬ ∃ i : Nat, L[i]? = some l := fun ⟨i, hi⟩ => h i hi
    rw [hμ]
    simp only [dif_neg hex, if_pos hl]
  have μ3 : ∀ l, st.length ≤ l → μ l = m' (L.length + (l - st.length)) := fun l hl => by
    have hex : ¬ ∃ i : Nat, L[i]? = some l := fun ⟨i, hi⟩ => by have := hLlt i l hi; omega
    rw [hμ]
    simp only [dif_neg hex, if_neg (by omega : ¬ l < st.length)]
  have τ1 : ∀ i l, L[i]? = some l → tau L st.length i = l := fun i l h => by simp [tau, h]
  have τ2 : ∀ i, L.length ≤ i → tau L st.length i = st.length + (i - L.length) := fun i h => by simp [tau, List.getElem?_eq_none h]
  have hlen : (unframe L st st').length = st.length + (st'.length - L.length) := by simp [unframe, setsAt_length]
  have hbs : L.length = (st'.take L.length).length := by simp; omega
  have U1 : ∀ i l, L[i]? = some l → (unframe L st st')[l]? = (st'[i]?).map (rnBlk (tau L st.length)) := fun i l h => by
    have hi : i < L.length := (List.getElem?_eq_some_iff.1 h).1
    unfold unframe
    rw [List.getElem?_append_left (by rw [setsAt_length]; exact hLlt i l h), (setsAt_get _ L st _ l hnd hbs hlt).2 i h, List.getElem?_take, if_pos hi]
  have U2 : ∀ l, (∀ i, L[i]? ≠ some l) → l < st.length → (unframe L st st')[l]? = st[l]? := fun l h hl => by
    unfold unframe
    rw [List.getElem?_append_left (by rw [setsAt_length]; exact hl), (setsAt_get _ L st _ l hnd hbs hlt).1 fun hm => ?_]
    obtain ⟨i, hi⟩ := List.getElem?_of_mem hm
    exact h i hi
  have U3 : ∀ l, st.length ≤ l → (unframe L st st')[l]? = (st'[L.length + (l - st.length)]?).map (rnBlk (tau L st.length)) := fun l hl => by
    unfold unframe
    rw [List.getElem?_append_right (by rw [setsAt_length]; exact hl), setsAt_length, List.getElem?_map, List.getElem?_drop]
  have hmτ : ∀ i, i < st'.length → μ (tau L st.length i) = m' i ∧ tau L st.length i < (unframe L st st').length := fun i hi => by
    rw [hlen]
    by_cases h1 : i < L.length
    · have h2 := List.getElem?_eq_getElem h1
      rw [τ1 i _ h2]
      exact ⟨μ1 i _ h2, by have := hLlt i _ h2; omega⟩
    · rw [τ2 i (by omega)]
      refine ⟨by rw [μ3 _ (by omega)]; congr 1; omega, by omega⟩
  -- where a block of the new numbering comes from
  have from_ : ∀ l, l < (unframe L st st').length → (∃ i, i < st'.length ∧ tau L st.length i = l ∧ μ l = m' i ∧ (unframe L st st')[l]? = (st'[i]?).map (rnBlk (tau L st.length))) ∨
      ((∀ i : Nat, L[i]? ≠ some l) ∧ l < st.length ∧ μ l = m l ∧ (unframe L st st')[l]? = st[l]?) := fun l hl => by
    by_cases h1 : ∃ i : Nat, L[i]? = some l
    · obtain ⟨i, hi⟩ := h1
      have : i < L.length := (List.getElem?_eq_some_iff.1 hi).1
      exact .inl ⟨i, by omega, τ1 i l hi, μ1 i l hi, U1 i l hi⟩
    · have h1' : ∀ i : Nat, L[i]? ≠ some l := fun i hi => h1 ⟨i, hi⟩
      by_cases h2 : l < st.length
      · exact .inr ⟨h1', h2, μ2 l h1' h2, U2 l h1' h2⟩
      · refine .inl ⟨L.length + (l - st.length), by omega, ?_, μ3 l (by omega), U3 l (by omega)⟩
        rw [τ2 _ (by omega)]; omega
  have μlt : ∀ l b, μ l = some b → l < (unframe L st st').length := fun l b h => by
    rw [hlen]
    by_cases h2 : l < st.length
    · omega
    · rw [μ3 l (by omega)] at h
      have := hR'.lt h
      omega
  have hown0 : ∀ (i : Nat) (b : Blk), (L[i]?).bind m = some b → ∃ l, L[i]? = some l ∧ m l = some b := fun i b h => by
    cases hl : L[i]? with
    | none => rw [hl] at h; cases h
    | some l => rw [hl] at h; exact ⟨l, rfl, h⟩
  have hSB : Step A m st.length w A' μ (unframe L st st').length w' := by
    refine ⟨by omega, hS.size, hS.aSub, fun B hB => (hS.aNew B hB).imp id fun h => h.imp id fun ⟨l0, b0, h4, h5, h6⟩ => (let ⟨x, _, h8⟩ := hown0 l0 b0 h4; ⟨x, b0, h8, h5, h6⟩), fun l hl => ?_, fun l b hb hh => ?_, fun B hB ho => hS.heap B hB fun i b hb hh => ?_, hS.os, hS.tape, hS.output⟩
    · by_cases h1 : ∃ i : Nat, L[i]? = some l
      · obtain ⟨i, hi⟩ := h1
        have hi' : i < st0.length := by rw [← hL]; exact (List.getElem?_eq_some_iff.1 hi).1
        rw [μ1 i l hi]
        have := hS.mOld i hi'
        rw [hi] at this
        exact this
      · exact .inl (μ2 l (fun i hi => h1 ⟨i, hi⟩) hl)
    · rcases from_ l (μlt l b hb) with ⟨i, _, _, h3, _⟩ | ⟨_, _, h3, _⟩
      · rw [h3] at hb
        rcases hS.mNew i b hb hh with h4 | ⟨l0, b0, h4, h5, h6⟩
        · exact .inl h4
        · obtain ⟨x, _, h7⟩ := hown0 l0 b0 h4
          exact .inr ⟨x, b0, h7, h5, h6⟩
      · rw [h3] at hb
        exact .inr ⟨l, b, hb, hh, rfl⟩
    · obtain ⟨x, _, h7⟩ := hown0 i b hb
      exact ho x b h7 hh
  have hfr : ∀ (l : Nat) (b : Blk), (∀ i : Nat, L[i]? ≠ some l) → m l = some b → b.has = true → ∀ (i : Nat) (b' : Blk), m' i = some b' → b'.has = true → b'.B ≠ b.B := fun l b hnl hb hh i b' hb' hh' he => by
    rcases hS.mNew i b' hb' hh' with h4 | ⟨l0, b0, h4, h5, h6⟩
    · have := hR.low hb hh; omega
    · obtain ⟨x, h7, h8⟩ := hown0 l0 b0 h4
      have := hR.inj x l b0 b h8 hb h5 hh (h6.trans he)
      subst this
      exact hnl l0 h7
  have hrows : ∀ {els : List (List AV)} {i : Nat} (hi : i < (rnRows (tau L st.length) els).length) (hi' : i < els.length), (rnRows (tau L st.length) els)[i] = els[i].map (rn (tau L st.length)) := fun hi hi' => by
    simp [rnRows, rnL_map]
  refine ⟨v, A', μ, unframe L st st', rn (tau L st.length) av, he, ⟨hR'.aLow, fun B l b hA hb hh => ?_, fun l1 l2 b1 b2 h1 h2 hh1 hh2 hBB => ?_, fun l b hb => ?_, fun l k els hel => ?_⟩, hSB, rn_v hmτ hv', hk av st' hK⟩
  · rcases from_ l (μlt l b hb) with ⟨i, _, _, h3, _⟩ | ⟨_, _, h3, _⟩
    · rw [h3] at hb; exact hR'.aOwn B i b hA hb hh
    · rw [h3] at hb
      rename_i hnl _ _
      rcases hS.aNew B hA with h4 | h4 | ⟨l0, b0, h4, h5, h6⟩
      · exact hR.aOwn B l b h4 hb hh
      · have := hR.low hb hh; omega
      · obtain ⟨x, h7, h8⟩ := hown0 l0 b0 h4
        intro he
        have := hR.inj x l b0 b h8 hb h5 hh (h6.trans he.symm)
        subst this
        exact hnl l0 h7
  · rcases from_ l1 (μlt l1 b1 h1) with ⟨i1, _, e1, h3, _⟩ | ⟨n1, _, h3, _⟩ <;> rcases from_ l2 (μlt l2 b2 h2) with ⟨i2, _, e2, h4, _⟩ | ⟨n2, _, h4, _⟩ <;> rw [h3] at h1 <;> rw [h4] at h2
    · rw [← e1, ← e2, hR'.inj i1 i2 b1 b2 h1 h2 hh1 hh2 hBB]
    · exact absurd hBB (hfr l2 b2 n2 h2 hh2 i1 b1 h1 hh1)
    · exact absurd hBB.symm (hfr l1 b1 n1 h1 hh1 i2 b2 h2 hh2)
    · exact hR.inj l1 l2 b1 b2 h1 h2 hh1 hh2 hBB
  · rcases from_ l (μlt l b hb) with ⟨i, _, _, h3, h4⟩ | ⟨_, _, h3, h4⟩
    · rw [h3] at hb
      obtain ⟨els, he'⟩ := hR'.live i b hb
      exact ⟨rnRows (tau L st.length) els, by rw [h4, he']; rfl⟩
    · rw [h3] at hb
      obtain ⟨els, he'⟩ := hR.live l b hb
      exact ⟨els, by rw [h4]; exact he'⟩
  · rcases from_ l (List.getElem?_eq_some_iff.1 hel).1 with ⟨i, _, _, h3, h4⟩ | ⟨hn1, _, h3, h4⟩
    · rw [h4] at hel
      cases hi : st'[i]? with
      | none => rw [hi] at hel; cases hel
      | some bl =>
        rw [hi] at hel
        cases bl with
        | none => simp [rnBlk] at hel
        | some kb =>
          obtain ⟨k', els'⟩ := kb
          simp [rnBlk] at hel
          obtain ⟨rfl, rfl⟩ := hel
          obtain ⟨b, h5, h6, h7, h8⟩ := hR'.blk i k' els' hi
          refine ⟨b, by rw [h3]; exact h5, h6, fun hh => ?_, fun hh => by rw [h8 hh]; rfl⟩
          have hok := h7 hh
          refine ⟨hok.low, hok.there, hok.free, by simpa [rnRows] using hok.fit, fun q hq => ?_, fun q hq j hj => ?_⟩
          · have hq' : q < els'.length := by simpa [rnRows] using hq
            rw [hrows hq hq']; simpa using hok.wide q hq'
          · have hq' : q < els'.length := by simpa [rnRows] using hq
            have hj' : j < els'[q].length := by
              have := hrows hq hq'
              rw [this] at hj
              simpa using hj
            obtain ⟨u, h9, h10⟩ := hok.val q hq' j hj'
            refine ⟨u, h9, ?_⟩
            have : (rnRows (tau L st.length) els')[q][j] = rn (tau L st.length) els'[q][j] := by simp [rnRows, rnL_map]
            rw [this]
            exact rn_v hmτ h10
    · rw [h4] at hel
      obtain ⟨b, h5, h6, h7, h8⟩ := hR.blk l k els hel
      refine ⟨b, by rw [h3]; exact h5, h6, fun hh => (h7 hh).keep hS.size (hS.heap _ (h7 hh).low fun i b' hb' hh' => ?_) fun av v hv => hv.step hR hSB, h8⟩
      obtain ⟨x, h9, h10⟩ := hown0 i b' hb'
      intro he'
      have := hR.inj x l b' b h10 h5 hh' hh he'
      subst this
      exact hn1 i h9

end Go.Proofs.YthhkdanpjcnegaaGreat
