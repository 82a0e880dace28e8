/- FileLong: for every input the law returns true, and each argument reads as it read before. No further condition. Part 6 of 7. -/
import Derived.Test.YtdhpdpkcfffpiaaGreatV5
namespace Go.Proofs.YtdhpdpkcfffpiaaGreat
set_option linter.unusedSimpArgs false
set_option linter.unusedVariables false
set_option linter.unusedSectionVars false
def zeroC : ApiClass := ApiClass.mk [] [] false [] [] []
def rdAll (b : List UInt8) : ApiClass × Bool := ((rdClass (reL rdO b false).1 (reL rdO b false).2.1 (reL rdO b false).2.2).1, (rdClass (reL rdO b false).1 (reL rdO b false).2.1 (reL rdO b false).2.2).2.2)
noncomputable def decE (b : List UInt8) (r : ApiClass × Bool) : ApiClass × Int :=
  match encN r.1 with
  | none => (zeroC, 1)
  | some l => cond (r.2 || !(l == b)) (zeroC, 1) (r.1, 0)
noncomputable def decN (b : List UInt8) : ApiClass × Int :=
  cond (decide (6000 < (b.length : Int))) (zeroC, 3) (cond (!(b.take 4 == [74, 65, 86, 65])) (zeroC, 1) (decE b (rdAll (b.drop 4))))
theorem prefix_eq (b : List UInt8) (hb : Len b) : strings_HasPrefix b [74, 65, 86, 65] = some (b.take 4 == [74, 65, 86, 65]) := by
  unfold strings_HasPrefix internal_stringslite_HasPrefix
  cases hd : decide ((([74, 65, 86, 65] : List UInt8).length : Int) ≤ (b.length : Int)) with
  | true =>
    have h := of_decide_eq_true hd
    simp only [cond_true]
    rw [cutP_to (b := ([74, 65, 86, 65] : List UInt8).length) (by omega)]
    rfl
  | false =>
    have h := of_decide_eq_false hd
    have hl : b.length < 4 := by simp at h; omega
    have : (b.take 4 == [74, 65, 86, 65]) = false := beq_eq_false_iff_ne.2 fun e => by
      have := congrArg List.length e
      simp at this
      omega
    rw [this]; rfl
theorem rdPool_in {b : List UInt8} (h : L6 b) : ∀ s ∈ (reL rdO b false).1, FS s := ((reL_ok rdO_ok).q b false h).all
theorem rdAll_in {b : List UInt8} (h : L6 b) : FClass (rdAll b).1 := by
  have h1 := (reL_ok rdO_ok).le b false
  exact (rdClass_ok (rdPool_in h)).q _ _ (by unfold L6 at h; omega)
theorem outB_ne (w : W) : ∃ r, outB w = 74 :: r := ⟨_, rfl⟩
theorem file_Decode_eq (b : List UInt8) (hb : Len b) : file_Decode b = some (decN b) := by
  unfold file_Decode decN
  cases hd : decide (6000 < (b.length : Int)) with
  | true => rfl
  | false =>
    have h0 := of_decide_eq_false hd
    simp only [cond_false]
    rw [prefix_eq b hb, Option.bind_some]
    cases hp : (b.take 4 == [74, 65, 86, 65]) with
    | false => rfl
    | true =>
      have h1 := beq_iff_eq.1 hp
      have h4 : 4 ≤ b.length := by
        have := congrArg List.length h1
        simp at this
        omega
      have hl : L6 (b.drop 4) := by unfold L6; rw [List.length_drop]; omega
      simp only [Bool.not_true, cond_false]
      rw [show cutP b 4 (b.length : Int) = some (b.drop 4) from cutP_from (a := 4) h4, Option.bind_some, g_pool hl, Option.bind_some]
      have h5 := (reL_ok rdO_ok).le (b.drop 4) false
      refine (g_class (rdPool_in hl) (show L6 _ by unfold L6 at hl ⊢; omega) (fun c b' bad => (file_EncodeO c).bind fun v11 => optC v11 (cond ((bad || true) || (!(bytes_Equal [] b))) (some ((ApiClass.mk [] [] false [] [] []), 1)) (some (c, 0)))
        (fun v12 => (cond bad (some true) ((idx v12 0).bind fun v13 => some false)).bind fun v14 => cond (v14 || (!(bytes_Equal v12 b))) (some ((ApiClass.mk [] [] false [] [] []), 1)) (some (c, (0 : Int)))))).trans ?_
      have hc := rdAll_in hl
      rw [show (rdClass (reL rdO (List.drop 4 b) false).1 (reL rdO (List.drop 4 b) false).2.1 (reL rdO (List.drop 4 b) false).2.2).1 = (rdAll (b.drop 4)).1 from rfl,
        show (rdClass (reL rdO (List.drop 4 b) false).1 (reL rdO (List.drop 4 b) false).2.1 (reL rdO (List.drop 4 b) false).2.2).2.2 = (rdAll (b.drop 4)).2 from rfl]
      generalize rdAll (b.drop 4) = r at *
      rw [file_EncodeO_eq hc, Option.bind_some]
      unfold decE
      cases he : encN r.1 with
      | none =>
        show cond ((r.2 || true) || _) _ _ = _
        rw [Bool.or_true]; rfl
      | some l =>
        have hne : ∃ q, l = 74 :: q := by
          unfold encN at he
          cases hm : mayG r.1 with
          | false => rw [hm] at he; cases he
          | true =>
            rw [hm] at he
            simp only [cond_true] at he
            cases hs : decide (6000 < ((bytesC r.1).length : Int)) with
            | true => rw [hs] at he; cases he
            | false =>
              rw [hs] at he
              cases he
              exact outB_ne _
        obtain ⟨q, rfl⟩ := hne
        show ((cond r.2 (some true) ((idx (74 :: q) 0).bind fun v13 => some false)).bind fun v14 => cond (v14 || (!(bytes_Equal (74 :: q) b))) (some ((ApiClass.mk [] [] false [] [] []), 1)) (some (r.1, (0 : Int)))) = _
        rw [idx_zero]
        unfold bytes_Equal
        show _ = some (cond (r.2 || !((74 :: q : List UInt8) == b)) (zeroC, 1) (r.1, 0))
        generalize ((74 :: q : List UInt8) == b) = e
        cases r.2 <;> cases e <;> rfl
def encT (P : List (List UInt8)) : Tok → List UInt8
  | .n x => put x
  | .t s => put (ixN P s : Int)
def OkT (P : List (List UInt8)) : Tok → Prop
  | .n x => I64 x
  | .t s => ixN P s < P.length ∧ P.length ≤ 1000000000
def RT {α : Type} (P : List (List UInt8)) (g : Rea α) (x : α) (l : List Tok) : Prop := (∀ t ∈ l, OkT P t) → ∀ rest, g (l.flatMap (encT P) ++ rest) false = (x, rest, false)
theorem rdN_put {x : Int} (h : I64 x) (rest : List UInt8) : rdN (put x ++ rest) false = (x, rest, false) := by
  unfold rdN
  rw [get_put x rest h.1 h.2]
  simp
section
variable {P : List (List UInt8)}
theorem rt_num {x : Int} : RT P rdN x [.n x] := fun h rest => by
  have h1 : I64 x := h _ (List.mem_singleton.2 rfl)
  rw [List.flatMap_cons, List.flatMap_nil, List.append_nil]
  exact rdN_put h1 rest
theorem rt_truth {v : Bool} : RT P rdB v [tkB v] := fun h rest => by
  have h1 : I64 (cond v 1 0) := h _ (List.mem_singleton.2 rfl)
  rw [List.flatMap_cons, List.flatMap_nil, List.append_nil]
  show (_, _, _) = _
  rw [show encT P (tkB v) = put (cond v 1 0) from rfl, rdN_put h1 rest]
  cases v <;> rfl
theorem rt_text {s : List UInt8} : RT P (rdT P) s [.t s] := fun h rest => by
  obtain ⟨h1, h2⟩ : ixN P s < P.length ∧ P.length ≤ 1000000000 := h _ (List.mem_singleton.2 rfl)
  rw [List.flatMap_cons, List.flatMap_nil, List.append_nil]
  unfold rdT
  rw [show encT P (.t s) = put (ixN P s : Int) from rfl, rdN_put ⟨by omega, by omega⟩ rest]
  simp only
  rw [decide_eq_false (by omega), decide_eq_false (by omega), Int.toNat_natCast, List.getElem?_eq_getElem h1]
  have : (s == P[ixN P s]) = true := List.findIdx_getElem (w := h1)
  rw [← beq_iff_eq.1 this]
  rfl
theorem rt_ret {α : Type} {x : α} : RT P (Rea.ret x) x [] := fun _ rest => rfl
theorem rt_bind {α β : Type} {g : Rea α} {f : α → Rea β} {x : α} {y : β} {l1 l2 : List Tok} (h1 : RT P g x l1) (h2 : RT P (f x) y l2) : RT P (g.bind f) y (l1 ++ l2) := fun h rest => by
  unfold Rea.bind
  rw [List.flatMap_append, List.append_assoc, h1 (fun t ht => h t (List.mem_append_left _ ht))]
  exact h2 (fun t ht => h t (List.mem_append_right _ ht)) rest
theorem rt_cons {α β : Type} {g : Rea α} {f : α → Rea β} {x : α} {y : β} {t : Tok} {l2 : List Tok} (h1 : RT P g x [t]) (h2 : RT P (f x) y l2) : RT P (g.bind f) y (t :: l2) := rt_bind h1 h2
theorem rt_last {α β : Type} {g : Rea α} {x : α} {y : β} {l : List Tok} {f : α → Rea β} (h1 : RT P g x l) (h2 : f x = Rea.ret y) : RT P (g.bind f) y l := by
  have := rt_bind (f := f) h1 (h2 ▸ rt_ret)
  rwa [List.append_nil] at this
theorem rt_list {α : Type} {g : Rea α} {f : α → List Tok} {l : List α} (hl : l.length ≤ 10000) (h : ∀ x ∈ l, RT P g x (f x)) : RT P (reL g) l (tkL f l) := fun hk rest => by
  have key : ∀ (l : List α), (∀ x ∈ l, RT P g x (f x)) → (∀ t ∈ l.flatMap f, OkT P t) → ∀ acc, rdLoop g l.length ((l.flatMap f).flatMap (encT P) ++ rest) false acc = (acc ++ l, rest, false) := by
    intro l
    induction l with
    | nil => intro _ _ acc; simp [rdLoop]
    | cons x l ih =>
      intro h1 h2 acc
      rw [List.length_cons, List.flatMap_cons, List.flatMap_append, List.append_assoc]
      unfold rdLoop
      rw [h1 x (List.mem_cons_self ..) (fun t ht => h2 t (by rw [List.flatMap_cons]; exact List.mem_append_left _ ht))]
      simp only [cond_false]
      rw [ih (fun y hy => h1 y (List.mem_cons_of_mem _ hy)) (fun t ht => h2 t (by rw [List.flatMap_cons]; exact List.mem_append_right _ ht))]
      rw [List.append_assoc]; rfl
  have hn : I64 (l.length : Int) := ⟨by omega, by omega⟩
  unfold reL tkL
  rw [List.flatMap_cons, List.append_assoc, show encT P (.n (l.length : Int)) = put (l.length : Int) from rfl, rdN_put hn]
  simp only [Int.toNat_natCast]
  rw [key l h (fun t ht => hk t (List.mem_cons_of_mem _ ht))]
  rfl
theorem rt_field (f : ApiField) : RT P (rdField P) f (tkField f) := rt_cons rt_text (rt_cons rt_text (rt_last rt_truth rfl))
theorem rt_ins (x : ApiIns) : RT P (rdIns P) x (tkIns x) := rt_cons rt_num (rt_cons rt_num (rt_cons rt_text (rt_last rt_text rfl)))
theorem rt_trap (x : ApiTrap) : RT P (rdTrap P) x (tkTrap x) := rt_cons rt_num (rt_cons rt_num (rt_cons rt_num (rt_last rt_text rfl)))
theorem rt_strings {l : List (List UInt8)} (h : FL FS l) : RT P (reL (rdT P)) l (tkL tkS l) := rt_list h.len fun _ _ => rt_text
theorem rt_map {x : ApiMap} (h : FMap x) : RT P (rdMap P) x (tkMap x) := rt_cons rt_num (rt_bind (rt_strings h.locals) (rt_last (rt_strings h.stack) rfl))
theorem rt_meth {m : ApiMethod} (h : FMeth m) : RT P (rdMeth P) m (tkMeth m) :=
  rt_cons rt_text (rt_bind (rt_strings h.params) (rt_cons rt_text (rt_cons rt_truth (rt_cons rt_truth (rt_cons rt_num (rt_cons rt_num (rt_bind (rt_list h.code.len fun x _ => rt_ins x) (rt_bind (rt_list h.maps.len fun x hx => rt_map (h.maps.all x hx)) (rt_last (rt_list h.traps.len fun x _ => rt_trap x) rfl)))))))))
theorem rt_class {c : ApiClass} (h : FClass c) : RT P (rdClass P) c (tkClass c) :=
  rt_cons rt_text (rt_cons rt_text (rt_cons rt_truth (rt_bind (rt_strings h.impl) (rt_bind (rt_list h.fields.len fun x _ => rt_field x) (rt_last (rt_list h.methods.len fun x hx => rt_meth (h.methods.all x hx)) rfl)))))
end
theorem ixN_app {p q : List (List UInt8)} {s : List UInt8} (h : ixN p s < p.length) : ixN (p ++ q) s = ixN p s := by
  unfold ixN at h ⊢
  rw [List.findIdx_append, if_pos h]
theorem insP_ix (p : List (List UInt8)) (s : List UInt8) : ixN (insP p s) s = ixN p s ∧ ixN p s < (insP p s).length := by
  unfold insP
  cases hd : decide (ixN p s < p.length) with
  | true => exact ⟨rfl, of_decide_eq_true hd⟩
  | false =>
    have h := of_decide_eq_false hd
    have hle := ixN_le p s
    refine ⟨?_, by simp; omega⟩
    unfold ixN at h ⊢
    simp only [cond_false]
    rw [List.findIdx_append, if_neg h]
    simp
    unfold ixN at hle
    omega
theorem pool_ext : ∀ (l : List Tok) (w : W), ∃ q, (wrT w l).1 = w.1 ++ q
  | [], w => ⟨[], by simp [wrT]⟩
  | t :: l, w => by
    obtain ⟨q, h⟩ := pool_ext l (wr1 w t)
    have h1 : ∃ q, (wr1 w t).1 = w.1 ++ q := by
      cases t with
      | n x => exact ⟨[], by simp [wr1]⟩
      | t s =>
        show ∃ q, insP w.1 s = w.1 ++ q
        unfold insP
        cases decide (ixN w.1 s < w.1.length) with
        | true => exact ⟨[], by simp⟩
        | false => exact ⟨[s], rfl⟩
    obtain ⟨q1, h2⟩ := h1
    exact ⟨q1 ++ q, by rw [wrT_cons, h, h2, List.append_assoc]⟩
theorem wr_enc : ∀ (l : List Tok) (w : W) (P : List (List UInt8)), (wrT w l).1 = P → (wrT w l).2 = w.2 ++ l.flatMap (encT P) ∧ ∀ s, Tok.t s ∈ l → ixN P s < P.length
  | [], w, P, _ => ⟨by simp [wrT], fun s h => by cases h⟩
  | t :: l, w, P, h => by
    rw [wrT_cons] at h ⊢
    obtain ⟨h1, h2⟩ := wr_enc l (wr1 w t) P h
    have h3 : (wr1 w t).2 = w.2 ++ encT P t ∧ ∀ s, Tok.t s = t → ixN P s < P.length := by
      cases t with
      | n x => exact ⟨rfl, fun s hs => by cases hs⟩
      | t s =>
        obtain ⟨q, hq⟩ := pool_ext l (wr1 w (.t s))
        rw [h] at hq
        have hq : P = insP w.1 s ++ q := hq
        obtain ⟨k1, k2⟩ := insP_ix w.1 s
        have k3 : ixN P s = ixN w.1 s := by rw [hq, ixN_app (by rw [k1]; exact k2), k1]
        refine ⟨?_, fun s' hs => ?_⟩
        · show w.2 ++ put (ixN w.1 s : Int) = w.2 ++ put (ixN P s : Int)
          rw [k3]
        · cases hs
          rw [k3, hq, List.length_append]
          omega
    refine ⟨by rw [h1, h3.1, List.flatMap_cons, List.append_assoc], fun s hs => ?_⟩
    rcases List.mem_cons.1 hs with hs | hs
    · exact h3.2 s hs
    · exact h2 s hs
theorem rdO_put {s : List UInt8} (h : FS s) (rest : List UInt8) : rdO (putText s ++ rest) false = (s, rest, false) := by
  unfold rdO
  unfold FS at h
  rw [getText_put s rest (by omega)]
  simp
theorem rd_pool {P : List (List UInt8)} (hl : P.length ≤ 1000000000) (hP : ∀ s ∈ P, FS s) (rest : List UInt8) : reL rdO (put (P.length : Int) ++ (P.flatMap putText ++ rest)) false = (P, rest, false) := by
  have key : ∀ (l : List (List UInt8)), (∀ s ∈ l, FS s) → ∀ acc, rdLoop rdO l.length (l.flatMap putText ++ rest) false acc = (acc ++ l, rest, false) := by
    intro l
    induction l with
    | nil => intro _ acc; simp [rdLoop]
    | cons x l ih =>
      intro h1 acc
      rw [List.length_cons, List.flatMap_cons, List.append_assoc]
      unfold rdLoop
      rw [rdO_put (h1 x (List.mem_cons_self ..))]
      simp only [cond_false]
      rw [ih (fun y hy => h1 y (List.mem_cons_of_mem _ hy)), List.append_assoc]; rfl
  unfold reL
  rw [rdN_put ⟨by omega, by omega⟩]
  simp only [Int.toNat_natCast]
  rw [key P hP]
  rfl
theorem rdAll_bytes {c : ApiClass} (h : FClass c) (hm : mayG c = true) : rdAll ((bytesC c).drop 4) = (c, false) ∧ (bytesC c).take 4 = [74, 65, 86, 65] := by
  obtain ⟨l1, l2⟩ := wr_len h hm
  have hp := pool_in (w := ([], [])) (fun s hs => by cases hs) (in_class h)
  obtain ⟨e1, e2⟩ := wr_enc (tkClass c) ([], []) _ rfl
  unfold bytesC
  generalize hw : wrT ([], []) (tkClass c) = w at *
  have e3 : outB w = [74, 65, 86, 65] ++ (put (w.1.length : Int) ++ (w.1.flatMap putText ++ w.2)) := by unfold outB; simp only [List.append_assoc]
  have e4 : (outB w).drop 4 = put (w.1.length : Int) ++ (w.1.flatMap putText ++ w.2) := by rw [e3]; rfl
  refine ⟨?_, by rw [e3]; rfl⟩
  unfold rdAll
  rw [e4, rd_pool (by omega) hp]
  have e5 := rt_class (P := w.1) h (fun t ht => by
    cases t with
    | n x => exact in_class h _ ht
    | t s => exact ⟨e2 s ht, by omega⟩) []
  rw [List.append_nil] at e5
  have e6 : w.2 = (tkClass c).flatMap (encT w.1) := by rw [e1]; rfl
  simp only
  rw [e6, e5]
theorem decN_bytes {c : ApiClass} (h : FClass c) (hm : mayG c = true) (hl : (bytesC c).length ≤ 6000) : decN (bytesC c) = (c, 0) := by
  obtain ⟨h1, h2⟩ := rdAll_bytes h hm
  unfold decN decE encN
  rw [decide_eq_false (by omega), h1, h2]
  simp only
  rw [hm, decide_eq_false (by omega)]
  simp
end Go.Proofs.YtdhpdpkcfffpiaaGreat
namespace Go.Proofs.YtdhpdpkcfffpiaaGreat
set_option linter.unusedSimpArgs false
set_option linter.unusedVariables false
set_option linter.unusedSectionVars false
theorem pair_loop {α : Type} {body : Int → Option (Sum Int (Sum Unit Bool))} {a b : List α} {e : α → α → Bool} (hl : a.length ≤ 9223372036854775807) (hn : a.length = b.length)
    (hb : ∀ (i : Nat) x y, a[i]? = some x → b[i]? = some y → body (i : Int) = cond (!e x y) (some (.inr (.inr false))) (some (.inl (IntKind.i64.wrap ((i : Int) + 1)))))
    (he : body (a.length : Int) = some (.inr (.inl ()))) : loopP body 0 = some (cond (eqL e a b) (.inl ()) (.inr false)) := by
  have key : ∀ (r s pre pre' : List α), pre.length = pre'.length → a = pre ++ r → b = pre' ++ s → loopP body (pre.length : Int) = some (cond (eqL e r s) (.inl ()) (.inr false)) := by
    intro r
    induction r with
    | nil =>
      intro s pre pre' hp h1 h2
      have : s = [] := by
        have : a.length = pre.length := by rw [h1]; simp
        have : b.length = pre'.length + s.length := by rw [h2]; simp
        exact List.eq_nil_of_length_eq_zero (by omega)
      subst this
      rw [List.append_nil] at h1
      subst h1
      rw [loopP_eq, he]
      rfl
    | cons x r ih =>
      intro s pre pre' hp h1 h2
      have hlen : a.length = pre.length + (r.length + 1) := by rw [h1]; simp
      have hlen2 : b.length = pre'.length + s.length := by rw [h2]; simp
      cases s with
      | nil => simp at hlen2; omega
      | cons y s =>
        have hx : a[pre.length]? = some x := by rw [h1]; simp
        have hy : b[pre.length]? = some y := by rw [h2, hp]; simp
        rw [loopP_eq, hb _ x y hx hy]
        show _ = some (cond (e x y && eqL e r s) _ _)
        cases e x y with
        | false => rfl
        | true =>
          rw [wrap_succ (by omega)]
          have := ih s (pre ++ [x]) (pre' ++ [y]) (by simp [hp]) (by rw [h1]; simp) (by rw [h2]; simp)
          rw [show (pre ++ [x]).length = pre.length + 1 by simp] at this
          exact this
  exact key a b [] [] rfl rfl rfl
theorem eqL_iff {α : Type} {e : α → α → Bool} (h : ∀ x y, e x y = true ↔ x = y) : ∀ {a b : List α}, eqL e a b = true ↔ a = b
  | [], [] => by simp [eqL]
  | [], y :: b => by simp [eqL]
  | x :: a, [] => by simp [eqL]
  | x :: a, y :: b => by
    unfold eqL
    rw [Bool.and_eq_true, h, eqL_iff h, List.cons.injEq]
theorem beqS_iff (x y : List UInt8) : beqS x y = true ↔ x = y := beq_iff_eq
theorem beqF_iff (x y : ApiField) : beqF x y = true ↔ x = y := by
  cases x; cases y; simp [beqF]
theorem beqI_iff (x y : ApiIns) : beqI x y = true ↔ x = y := by
  cases x; cases y; simp [beqI]
theorem beqT_iff (x y : ApiTrap) : beqT x y = true ↔ x = y := by
  cases x; cases y; simp [beqT]
theorem beqMap_iff (x y : ApiMap) : beqMap x y = true ↔ x = y := by
  cases x; cases y; simp only [beqMap, Bool.and_eq_true, eqL_iff beqS_iff, beq_iff_eq, ApiMap.mk.injEq, and_assoc]
theorem beqM_iff (x y : ApiMethod) : beqM x y = true ↔ x = y := by
  cases x; cases y
  simp only [beqM, Bool.and_eq_true, eqL_iff beqS_iff, eqL_iff beqI_iff, eqL_iff beqT_iff, eqL_iff beqMap_iff, beq_iff_eq, ApiMethod.mk.injEq]
  constructor
  · rintro ⟨⟨⟨⟨⟨h1, ⟨⟨⟨h2, h3⟩, h4⟩, h5⟩, h6⟩, h7⟩, h8⟩, h9⟩, h10⟩
    exact ⟨h2, h3, h4, h5, h6, h7, h8, h9, h1, h10⟩
  · rintro ⟨h2, h3, h4, h5, h6, h7, h8, h9, h1, h10⟩
    exact ⟨⟨⟨⟨⟨h1, ⟨⟨⟨h2, h3⟩, h4⟩, h5⟩, h6⟩, h7⟩, h8⟩, h9⟩, h10⟩
theorem beqC_iff (x y : ApiClass) : beqC x y = true ↔ x = y := by
  cases x; cases y
  simp only [beqC, Bool.and_eq_true, eqL_iff beqS_iff, eqL_iff beqF_iff, eqL_iff beqM_iff, beq_iff_eq, ApiClass.mk.injEq, and_assoc]
theorem ref3_EqTexts_eq {a b : List (List UInt8)} (hl : LenL a) : ref3_EqTexts a b = some (eqL beqS a b) := by
  unfold ref3_EqTexts
  refine equal_loop hl (fun i x y hx hy => ?_) ?_
  · show ref3_EqTexts_l1 a b (i : Int) = _
    unfold ref3_EqTexts_l1
    rw [here hx, idx_nat, idx_nat, hx, hy]; rfl
  · show ref3_EqTexts_l1 a b (a.length : Int) = _
    unfold ref3_EqTexts_l1
    rw [past]; rfl
theorem ref3_EqIns_eq (x y : ApiIns) : ref3_EqIns x y = beqI x y := by
  have : ref3_EqIns x y = ((((x.Op == y.Op) && (x.A == y.A)) && (x.C == y.C)) && (x.M == y.M)) := by rfl
  rw [this]
  unfold beqI
  cases (x.Op == y.Op) <;> cases (x.A == y.A) <;> cases (x.C == y.C) <;> cases (x.M == y.M) <;> rfl
theorem ref3_eqMethod_eq {x y : ApiMethod} (h : FMeth x) : ref3_eqMethod x y = some (beqM x y) := by
  unfold ref3_eqMethod
  rw [ref3_EqTexts_eq h.params.le]
  rw [show (cond (!(x.Name == y.Name)) (some true) ((some (eqL beqS x.Params y.Params)).bind fun v3 => some (!v3))) = some (!((x.Name == y.Name) && eqL beqS x.Params y.Params)) by cases (x.Name == y.Name) <;> rfl, Option.bind_some]
  cases hc : ((((((((!((x.Name == y.Name) && eqL beqS x.Params y.Params) || (!(x.Ret == y.Ret))) || (!(x.Static == y.Static))) || (!(x.Abstract == y.Abstract))) || (!(x.Locals == y.Locals))) || (!(x.Stack == y.Stack))) || (!((List.length x.Code : Int) == (List.length y.Code : Int)))) || (!((List.length x.Maps : Int) == (List.length y.Maps : Int)))) || (!((List.length x.Traps : Int) == (List.length y.Traps : Int)))) with
  | true =>
    have : beqM x y = false := by
      cases hb : beqM x y with
      | false => rfl
      | true =>
        have := (beqM_iff x y).1 hb
        subst this
        rw [(eqL_iff beqS_iff).2 rfl] at hc
        simp at hc
    rw [this]; rfl
  | false =>
    simp only [Bool.or_eq_false_iff, Bool.not_eq_false', Bool.and_eq_true] at hc
    obtain ⟨⟨⟨⟨⟨⟨⟨⟨⟨h1, h2⟩, h3⟩, h4⟩, h5⟩, h6⟩, h7⟩, h8⟩, h9⟩, h10⟩ := hc
    have l8 : x.Code.length = y.Code.length := by have := beq_iff_eq.1 h8; omega
    have l9 : x.Maps.length = y.Maps.length := by have := beq_iff_eq.1 h9; omega
    have l10 : x.Traps.length = y.Traps.length := by have := beq_iff_eq.1 h10; omega
    simp only [cond_false]
    rw [show loopP (fun z => ref3_eqMethod_l1 x y z) 0 = some (cond (eqL beqI x.Code y.Code) (.inl ()) (.inr false)) from pair_loop h.code.le l8 (fun i u v hu hv => by
      show ref3_eqMethod_l1 x y (i : Int) = _
      unfold ref3_eqMethod_l1
      rw [here hu, idx_nat, idx_nat, hu, hv]
      simp only [Option.bind_some, cond_true]
      rw [ref3_EqIns_eq]) (by show ref3_eqMethod_l1 x y (x.Code.length : Int) = _; unfold ref3_eqMethod_l1; rw [past]; rfl)]
    have k4 : ref3_eqMethod_k4 x y = some (eqL beqT x.Traps y.Traps) := by
      unfold ref3_eqMethod_k4
      rw [show loopP (fun z => ref3_eqMethod_l5 x y z) 0 = some (cond (eqL beqT x.Traps y.Traps) (.inl ()) (.inr false)) from pair_loop h.traps.le l10 (fun i u v hu hv => by
        show ref3_eqMethod_l5 x y (i : Int) = _
        unfold ref3_eqMethod_l5
        rw [here hu, idx_nat, idx_nat, hu, hv]
        simp only [Option.bind_some, cond_true]
        unfold beqT
        cases (u.From == v.From) <;> cases (u.To == v.To) <;> cases (u.At == v.At) <;> cases (u.C == v.C) <;> rfl) (by show ref3_eqMethod_l5 x y (x.Traps.length : Int) = _; unfold ref3_eqMethod_l5; rw [past]; rfl)]
      cases eqL beqT x.Traps y.Traps <;> rfl
    have k2 : ref3_eqMethod_k2 x y = some (eqL beqMap x.Maps y.Maps && eqL beqT x.Traps y.Traps) := by
      unfold ref3_eqMethod_k2
      rw [show loopP (fun z => ref3_eqMethod_l3 x y z) 0 = some (cond (eqL beqMap x.Maps y.Maps) (.inl ()) (.inr false)) from pair_loop h.maps.le l9 (fun i u v hu hv => by
        have hm := h.maps.all u (List.mem_of_getElem? hu)
        show ref3_eqMethod_l3 x y (i : Int) = _
        unfold ref3_eqMethod_l3
        rw [here hu, idx_nat, idx_nat, hu, hv]
        simp only [Option.bind_some, cond_true]
        rw [ref3_EqTexts_eq hm.locals.le, ref3_EqTexts_eq hm.stack.le]
        unfold beqMap
        cases (u.At == v.At) <;> cases eqL beqS u.Locals v.Locals <;> cases eqL beqS u.Stack v.Stack <;> rfl) (by show ref3_eqMethod_l3 x y (x.Maps.length : Int) = _; unfold ref3_eqMethod_l3; rw [past]; rfl)]
      simp only [Option.bind_some]
      cases eqL beqMap x.Maps y.Maps with
      | false => rfl
      | true => exact k4
    unfold beqM
    rw [h1, h2, h3, h4, h5, h6, h7]
    simp only [Option.bind_some, Bool.and_true]
    cases eqL beqI x.Code y.Code with
    | false => rw [Bool.and_false]; rfl
    | true =>
      refine k2.trans ?_
      cases eqL beqMap x.Maps y.Maps <;> rfl
theorem ref3_EqClass_eq {x y : ApiClass} (h : FClass x) : ref3_EqClass x y = some (beqC x y) := by
  unfold ref3_EqClass
  rw [ref3_EqTexts_eq h.impl.le]
  rw [show (cond (((!(x.Name == y.Name)) || (!(x.Super == y.Super))) || (!(x.Interface == y.Interface))) (some true) ((some (eqL beqS x.Impl y.Impl)).bind fun v3 => some (!v3))) = some (!((((x.Name == y.Name) && (x.Super == y.Super)) && (x.Interface == y.Interface)) && eqL beqS x.Impl y.Impl)) by
    cases (x.Name == y.Name) <;> cases (x.Super == y.Super) <;> cases (x.Interface == y.Interface) <;> rfl, Option.bind_some]
  cases hc : (((!((((x.Name == y.Name) && (x.Super == y.Super)) && (x.Interface == y.Interface)) && eqL beqS x.Impl y.Impl)) || (!((List.length x.Fields : Int) == (List.length y.Fields : Int)))) || (!((List.length x.Methods : Int) == (List.length y.Methods : Int)))) with
  | true =>
    have : beqC x y = false := by
      cases hb : beqC x y with
      | false => rfl
      | true =>
        have := (beqC_iff x y).1 hb
        subst this
        rw [(eqL_iff beqS_iff).2 rfl] at hc
        simp at hc
    rw [this]; rfl
  | false =>
    simp only [Bool.or_eq_false_iff, Bool.not_eq_false', Bool.and_eq_true] at hc
    obtain ⟨⟨⟨⟨⟨h1, h2⟩, h3⟩, h4⟩, h5⟩, h6⟩ := hc
    have l5 : x.Fields.length = y.Fields.length := by have := beq_iff_eq.1 h5; omega
    have l6 : x.Methods.length = y.Methods.length := by have := beq_iff_eq.1 h6; omega
    simp only [cond_false]
    rw [show loopP (fun z => ref3_EqClass_l1 x y z) 0 = some (cond (eqL beqF x.Fields y.Fields) (.inl ()) (.inr false)) from pair_loop h.fields.le l5 (fun i u v hu hv => by
      show ref3_EqClass_l1 x y (i : Int) = _
      unfold ref3_EqClass_l1
      rw [here hu, idx_nat, idx_nat, hu, hv]
      simp only [Option.bind_some, cond_true]
      unfold beqF
      cases (u.Name == v.Name) <;> cases (u.Type_ == v.Type_) <;> cases (u.Static == v.Static) <;> rfl) (by show ref3_EqClass_l1 x y (x.Fields.length : Int) = _; unfold ref3_EqClass_l1; rw [past]; rfl)]
    have k2 : ref3_EqClass_k2 x y = some (eqL beqM x.Methods y.Methods) := by
      unfold ref3_EqClass_k2
      rw [show loopP (fun z => ref3_EqClass_l3 x y z) 0 = some (cond (eqL beqM x.Methods y.Methods) (.inl ()) (.inr false)) from pair_loop h.methods.le l6 (fun i u v hu hv => by
        show ref3_EqClass_l3 x y (i : Int) = _
        unfold ref3_EqClass_l3
        rw [here hu, idx_nat, idx_nat, hu, hv]
        simp only [Option.bind_some, cond_true]
        rw [ref3_eqMethod_eq (h.methods.all u (List.mem_of_getElem? hu))]
        rfl) (by show ref3_EqClass_l3 x y (x.Methods.length : Int) = _; unfold ref3_EqClass_l3; rw [past]; rfl)]
      cases eqL beqM x.Methods y.Methods <;> rfl
    unfold beqC
    rw [h1, h2, h3, h4]
    simp only [Option.bind_some, Bool.and_true, Bool.true_and]
    cases eqL beqF x.Fields y.Fields with
    | false => rfl
    | true => exact k2
def oneC : ApiClass := ApiClass.mk [65, 98] [79, 98, 106, 101, 99, 116] false [] ([(ApiField.mk [120] [73] false)]) ([(ApiMethod.mk [109, 97, 105, 110] [] [86] true false 0 0 ([(ApiIns.mk 46 0 [] [])]) [] [])])
theorem oneC_in : FClass oneC := by
  refine ⟨by decide, by decide, ⟨by decide, fun x hx => by cases hx⟩, ⟨by decide, fun x hx => ?_⟩, ⟨by decide, fun x hx => ?_⟩⟩
  · obtain rfl := List.mem_singleton.1 hx
    exact ⟨by decide, by decide⟩
  · obtain rfl := List.mem_singleton.1 hx
    refine ⟨by decide, ⟨by decide, fun x hx => by cases hx⟩, by decide, by decide, by decide, ⟨by decide, fun x hx => ?_⟩, ⟨by decide, fun x hx => by cases hx⟩, ⟨by decide, fun x hx => by cases hx⟩⟩
    obtain rfl := List.mem_singleton.1 hx
    exact ⟨by decide, by decide, by decide, by decide⟩
theorem zeroC_in : FClass zeroC := ⟨by decide, by decide, ⟨by decide, fun x hx => by cases hx⟩, ⟨by decide, fun x hx => by cases hx⟩, ⟨by decide, fun x hx => by cases hx⟩⟩
theorem oneC_may : mayG oneC = true := by decide +kernel
theorem zeroC_may : mayG zeroC = false := by decide +kernel
theorem oneC_len : (bytesC oneC).length ≤ 6000 ∧ 10 < (bytesC oneC).length := by decide +kernel
theorem law6_begun_eq : law6_begun = some true := by
  have e1 : encN oneC = some (bytesC oneC) := by
    have := oneC_len.1
    unfold encN; rw [oneC_may, decide_eq_false (by omega)]; rfl
  have e2 : encN zeroC = none := by unfold encN; rw [zeroC_may]; rfl
  have hb : Len (bytesC oneC) := by have := oneC_len.1; unfold Len; omega
  have e3 : file_Encode oneC = some (bytesC oneC) := by rw [file_Encode_eq oneC_in, e1]; rfl
  have e4 : file_Encode zeroC = some [] := by rw [file_Encode_eq zeroC_in, e2]; rfl
  unfold law6_begun
  rw [show file_Encode (ApiClass.mk [65, 98] [79, 98, 106, 101, 99, 116] false [] ([(ApiField.mk [120] [73] false)]) ([(ApiMethod.mk [109, 97, 105, 110] [] [86] true false 0 0 ([(ApiIns.mk 46 0 [] [])]) [] [])])) = _ from e3,
    show file_Encode (ApiClass.mk [] [] false [] [] []) = _ from e4]
  simp only [Option.bind_some, Option.getD_some, Option.getD_none]
  rw [file_Decode_eq _ hb, decN_bytes oneC_in oneC_may oneC_len.1, show file_Decode [] = _ from file_Decode_eq [] (by decide), show decN [] = (zeroC, 1) from rfl]
  simp only [Option.bind_some]
  rw [show law5_Begun = some true from (by unfold law5_Begun; rw [law5_begun_eq]; rfl)]
  rw [show ref3_EqClass (ApiClass.mk [65, 98] [79, 98, 106, 101, 99, 116] false [] ([(ApiField.mk [120] [73] false)]) ([(ApiMethod.mk [109, 97, 105, 110] [] [86] true false 0 0 ([(ApiIns.mk 46 0 [] [])]) [] [])])) oneC = some true from (ref3_EqClass_eq oneC_in).trans (congrArg some ((beqC_iff oneC oneC).2 rfl))]
  obtain ⟨r, hr⟩ := outB_ne (wrT ([], []) (tkClass oneC))
  have hr : bytesC oneC = 74 :: r := hr
  rw [decide_eq_true (show (10 : Int) < ((bytesC oneC).length : Int) by have := oneC_len.2; omega), hr, idx_zero]
  rfl
end Go.Proofs.YtdhpdpkcfffpiaaGreat
namespace Go.Proofs.YtdhpdpkcfffpiaaGreat
set_option linter.unusedSimpArgs false
set_option linter.unusedVariables false
set_option linter.unusedSectionVars false
theorem FS.take (s : List UInt8) {n : Nat} (hn : n ≤ 100) : FS (s.take n) := by unfold FS; rw [List.length_take]; omega
theorem encN_may {c : ApiClass} (hm : mayG c = true) (hl : (bytesC c).length ≤ 6000) : encN c = some (bytesC c) := by
  unfold encN; rw [hm, decide_eq_false (by omega)]; rfl
theorem encN_long {c : ApiClass} (hm : mayG c = true) (hl : 6000 < (bytesC c).length) : encN c = none := by
  unfold encN; rw [hm, decide_eq_true (by omega)]; rfl
inductive Alike : List Tok → List Tok → Prop
  | nil : Alike [] []
  | same (t : Tok) {l r : List Tok} (h : Alike l r) : Alike (t :: l) (t :: r)
  | b (x y : Bool) {l r : List Tok} (h : Alike l r) : Alike (tkB x :: l) (tkB y :: r)
theorem Alike.refl : ∀ l, Alike l l
  | [] => .nil
  | t :: l => .same t (Alike.refl l)
theorem Alike.app {a b c d : List Tok} (h : Alike a b) (k : Alike c d) : Alike (a ++ c) (b ++ d) := by
  induction h with
  | nil => exact k
  | same t _ ih => exact .same t ih
  | b x y _ ih => exact .b x y ih
end Go.Proofs.YtdhpdpkcfffpiaaGreat
namespace Go.Proofs.YtdhpdpkcfffpiaaGreat
set_option linter.unusedSimpArgs false
set_option linter.unusedVariables false
set_option linter.unusedSectionVars false
theorem grow_loop {α R : Type} {body : List α → Int → Option (Sum (List α × Int) (Sum (List α) R))} {n : Nat} {g : Nat → α}
    (hb : ∀ (k : Nat) l, k < n → l.length = k → body l (k : Int) = some (.inl (l ++ [g k], ((k + 1 : Nat) : Int))))
    (he : ∀ l, body l (n : Int) = some (.inr (.inl l))) : loopP (fun z : List α × Int => body z.1 z.2) ([], 0) = some (.inl ((List.range n).map g)) := by
  have key : ∀ d k, n - k = d → k ≤ n → loopP (fun z : List α × Int => body z.1 z.2) ((List.range k).map g, (k : Int)) = some (.inl ((List.range n).map g)) := by
    intro d
    induction d with
    | zero =>
      intro k hd hk
      have : k = n := by omega
      subst this
      rw [loopP_eq, he]
      rfl
    | succ d ih =>
      intro k hd hk
      have h := ih (k + 1) (by omega) (by omega)
      rw [List.range_succ, List.map_append] at h
      rw [loopP_eq, hb k _ (by omega) (by simp)]
      exact h
  exact key n 0 (by omega) (by omega)
def lIns : ApiIns := ApiIns.mk 38 0 [67, 100, 101, 102, 103, 104, 105, 106] [107, 108, 109, 110, 111, 112, 113, 114]
def lRet : ApiIns := ApiIns.mk 46 0 [] []
def lCode (c : Nat) : List ApiIns := (List.range (c - 1)).map (fun _ => lIns) ++ [lRet]
def lMap (k : Nat) : ApiMap := ApiMap.mk (k : Int) ([[73], [78], [84], [79, 98, 106, 101, 99, 116]]) ([[73], [91, 73]])
def lMeth (c p i : Nat) : ApiMethod := ApiMethod.mk [(109 : UInt8), (tU8 (IntKind.i64.wrap (48 + (i : Int))))] [] [86] true false 4 2 (lCode c) ((List.range p).map lMap) []
def lClass (m c p : Nat) : ApiClass := ApiClass.mk [65, 98] [79, 98, 106, 101, 99, 116] false [] ([(ApiField.mk [120] [73] false)]) ((List.range m).map (lMeth c p))
theorem lCode_len {c : Nat} (h : 1 ≤ c) : (lCode c).length = c := by unfold lCode; simp; omega
theorem lCode_mem {c : Nat} {x : ApiIns} (h : x ∈ lCode c) : x = lIns ∨ x = lRet := by
  unfold lCode at h
  rw [List.mem_append] at h
  rcases h with h | h
  · obtain ⟨_, _, rfl⟩ := List.mem_map.1 h; exact .inl rfl
  · exact .inr (List.mem_singleton.1 h)
theorem l5_eq {c : Nat} (h1 : 1 ≤ c) (h2 : c ≤ 100) : loopP (fun z => law6_FileLong_l5 (c : Int) z.1 z.2) ([], 0) = some (.inl ((List.range (c - 1)).map fun _ => lIns)) := by
  have e : IntKind.i64.wrap ((c : Int) - 1) = ((c - 1 : Nat) : Int) := by rw [wrap_i64 (by omega) (by omega)]; omega
  refine grow_loop (fun k l hk hl => ?_) fun l => ?_
  · unfold law6_FileLong_l5
    rw [e, decide_eq_true (show (k : Int) < ((c - 1 : Nat) : Int) by omega), appP_ok (by simp; omega) (by simp; omega), wrap_succ (by omega)]; rfl
  · unfold law6_FileLong_l5
    rw [e, decide_eq_false (by omega)]; rfl
theorem l7_eq {p : Nat} (h2 : p ≤ 100) : loopP (fun z => law6_FileLong_l7 (p : Int) z.1 z.2) ([], 0) = some (.inl ((List.range p).map lMap)) := by
  refine grow_loop (fun k l hk hl => ?_) fun l => ?_
  · unfold law6_FileLong_l7
    rw [decide_eq_true (show (k : Int) < (p : Int) by omega), appP_ok (by simp; omega) (by simp; omega), wrap_succ (by omega)]; rfl
  · unfold law6_FileLong_l7
    rw [decide_eq_false (by omega)]; rfl
theorem l9_eq {m c p : Nat} (hm : m ≤ 8) (h1 : 1 ≤ c) (h2 : c ≤ 100) (hp : p ≤ 100) : loopP (fun z => law6_FileLong_l9 (m : Int) (c : Int) (p : Int) z.1 z.2) ([], 0) = some (.inl ((List.range m).map (lMeth c p))) := by
  refine grow_loop (fun k l hk hl => ?_) fun l => ?_
  · unfold law6_FileLong_l9
    rw [decide_eq_true (show (k : Int) < (m : Int) by omega), l5_eq h1 h2]
    simp only [cond_true, Option.bind_some, leave]
    unfold law6_FileLong_k6
    rw [appP_ok (by simp; omega) (by simp; omega)]
    simp only [Option.bind_some]
    rw [l7_eq hp]
    simp only [Option.bind_some, leave]
    unfold law6_FileLong_k8
    rw [appP_ok (by simp; omega) (by simp; omega), wrap_succ (by omega)]; rfl
  · unfold law6_FileLong_l9
    rw [decide_eq_false (by omega)]; rfl
theorem gB_none {α : Type} {bad : List α → α → Bool} : ∀ {l pre : List α}, (∀ a x b, l = a ++ x :: b → bad (pre ++ a) x = false) → gB bad pre l = false
  | [], _, _ => rfl
  | x :: r, pre, h => by
    have h1 := h [] x r rfl
    rw [List.append_nil] at h1
    show (bad pre x || gB bad (pre ++ [x]) r) = false
    rw [h1, Bool.false_or]
    exact gB_none fun a y b e => by
      have := h (x :: a) y b (by rw [e]; rfl)
      rwa [show pre ++ x :: a = pre ++ [x] ++ a by simp] at this
theorem uB_none {α : Type} {ok : α → Bool} {nm : α → List UInt8} : ∀ {l pre : List α}, (∀ a x b, l = a ++ x :: b → ok x = true ∧ (pre ++ a).any (fun y => nm x == nm y) = false) → uB ok nm pre l = false
  | [], _, _ => rfl
  | x :: r, pre, h => by
    have h1 := h [] x r rfl
    rw [List.append_nil] at h1
    show ((!ok x || pre.any (fun y => nm x == nm y)) || uB ok nm (pre ++ [x]) r) = false
    rw [h1.1, h1.2, Bool.not_true, Bool.false_or, Bool.false_or]
    exact uB_none fun a y b e => by
      have := h (x :: a) y b (by rw [e]; rfl)
      rwa [show pre ++ x :: a = pre ++ [x] ++ a by simp] at this
theorem range_split {α : Type} {f : Nat → α} {n : Nat} {a b : List α} {x : α} (h : (List.range n).map f = a ++ x :: b) : a.length < n ∧ a = (List.range a.length).map f ∧ x = f a.length := by
  have hl : a.length < n := by
    have := congrArg List.length h
    simp at this; omega
  refine ⟨hl, ?_, ?_⟩
  · have h1 := congrArg (List.take a.length) h
    rw [List.take_left, ← List.map_take, List.take_range, Nat.min_eq_left (by omega)] at h1
    exact h1.symm
  · have h1 := congrArg (fun l => l[a.length]?) h
    simp only [List.getElem?_map, List.getElem?_range hl, List.getElem?_append_right (Nat.le_refl _), Nat.sub_self, Option.map_some] at h1
    exact (Option.some.inj h1).symm
theorem lMaps {c p i : Nat} (h : p ≤ c) (h1 : 1 ≤ c) (h2 : c ≤ 100) : mapsN (lMeth c p i) = true := by
  unfold mapsN
  have hlen : (lMeth c p i).Maps.length = p := by show ((List.range p).map lMap).length = p; simp
  rw [hlen, decide_eq_true (show (p : Int) ≤ 100 by omega), Bool.and_true, Bool.not_eq_true']
  refine gB_none fun a x b e => ?_
  obtain ⟨k1, k2, rfl⟩ := range_split (f := lMap) e
  rw [List.nil_append]
  have hs : (slotsN ([[73], [78], [84], [79, 98, 106, 101, 99, 116]]) && slotsN ([[73], [91, 73]])) = true := by decide +kernel
  rw [Bool.and_eq_true] at hs
  have hg : a.getLast?.elim false (fun y => decide ((lMap a.length).At ≤ y.At)) = false := by
    cases hq : a.getLast? with
    | none => rfl
    | some y =>
      rw [k2, List.getLast?_eq_getElem?] at hq
      simp only [List.length_map, List.length_range, List.getElem?_map] at hq
      have hne : 0 < a.length := by
        rcases Nat.eq_zero_or_pos a.length with h0 | h0
        · rw [h0] at hq; simp at hq
        · exact h0
      rw [List.getElem?_range (by omega)] at hq
      cases hq
      exact decide_eq_false (by show ¬ ((a.length : Int) ≤ ((a.length - 1 : Nat) : Int)); omega)
  unfold mapB
  rw [hg]
  show (((!(decide (0 ≤ (a.length : Int)) && decide ((a.length : Int) < ((lCode c).length : Int)))) || false) || (((!(((4 : Nat) : Int) == 4)) || decide ((2 : Int) < ((2 : Nat) : Int))) || ((!slotsN [[73], [78], [84], [79, 98, 106, 101, 99, 116]] || !slotsN [[73], [91, 73]]) || ([[73], [91, 73]] : List (List UInt8)).any (fun y => [84] == y)))) = false
  rw [hs.1, hs.2, lCode_len h1, decide_eq_true (show (0 : Int) ≤ (a.length : Int) by omega), decide_eq_true (show (a.length : Int) < (c : Int) by omega)]
  rfl
theorem lInstr {c : Nat} (h1 : 1 ≤ c) (h2 : c ≤ 100) : instrN (lCode c) = true := by
  unfold instrN
  have hb : class_between ((lCode c).length : Int) 1 100 = true := by
    rw [lCode_len h1]
    unfold class_between
    rw [decide_eq_true (show (1 : Int) ≤ (c : Int) by omega), decide_eq_true (show (c : Int) ≤ 100 by omega)]; rfl
  have hx : ∀ n : Int, 0 < n → insN n lIns = false ∧ insN n lRet = false := fun n hn => by
    have e1 : (mayIns lIns && mayIns lRet && !op_Jumps 38 && !op_Jumps 46) = true := by decide +kernel
    simp only [Bool.and_eq_true, Bool.not_eq_true'] at e1
    unfold insN
    rw [e1.1.1.1, e1.1.1.2, show lIns.Op = 38 from rfl, show lRet.Op = 46 from rfl, e1.1.2, e1.2]
    exact ⟨rfl, rfl⟩
  have ha : (lCode c).any (insN ((lCode c).length : Int)) = false := by
    rw [List.any_eq_false]
    intro x hm
    rw [lCode_len h1]
    rcases lCode_mem hm with rfl | rfl
    · rw [(hx c (by omega)).1]; decide
    · rw [(hx c (by omega)).2]; decide
  have hl : (lCode c).getLast? = some lRet := by unfold lCode; rw [List.getLast?_append]; rfl
  rw [hb, ha, hl]
  show (true && (op_Ends 46 && !false)) = true
  decide +kernel
theorem lName {i : Nat} (h : i < 8) : nameN [(109 : UInt8), (tU8 (IntKind.i64.wrap (48 + (i : Int))))] = true := by
  have : i = 0 ∨ i = 1 ∨ i = 2 ∨ i = 3 ∨ i = 4 ∨ i = 5 ∨ i = 6 ∨ i = 7 := by omega
  rcases this with rfl | rfl | rfl | rfl | rfl | rfl | rfl | rfl <;> decide +kernel
theorem lMethG {c p i : Nat} (h : p ≤ c) (h1 : 1 ≤ c) (h2 : c ≤ 100) (hi : i < 8) : methodG (lMeth c p i) = true := by
  unfold methodG
  rw [lMaps h h1 h2, show (lMeth c p i).Code = lCode c from rfl, lInstr h1 h2, show (lMeth c p i).Name = [(109 : UInt8), (tU8 (IntKind.i64.wrap (48 + (i : Int))))] from rfl, lName hi]
  show (((!((!true) || decide (6 < ((0 : Nat) : Int)))) && typesN []) && retN [86]) && cond false (class_empty (lMeth c p i)) (!(([(109 : UInt8), (tU8 (IntKind.i64.wrap (48 + (i : Int))))] == [36, 105, 110, 105, 116]) && (((!true) || decide (0 < ((0 : Nat) : Int))) || (!([86] == ([86] : List UInt8))))) && (class_between 4 (class_args (lMeth c p i)) 16 && (class_between 2 0 16 && ((true && trapsN (lMeth c p i)) && true)))) = true
  have e1 : class_args (lMeth c p i) = 0 := by
    unfold class_args
    rfl
  rw [e1]
  have e2 : (typesN [] && retN [86] && class_between 4 0 16 && class_between 2 0 16) = true := by decide +kernel
  simp only [Bool.and_eq_true] at e2
  rw [e2.1.1.1, e2.1.1.2, e2.1.2, e2.2]
  have e3 : trapsN (lMeth c p i) = true := rfl
  rw [e3]
  simp
theorem lNames : ∀ i : Nat, i < 8 → ∀ j : Nat, j < 8 → ([(109 : UInt8), (tU8 (IntKind.i64.wrap (48 + (i : Int))))] == [(109 : UInt8), (tU8 (IntKind.i64.wrap (48 + (j : Int))))]) = true → i = j := by decide +kernel
theorem lClass_may {m c p : Nat} (hm : m ≤ 8) (h : p ≤ c) (h1 : 1 ≤ c) (h2 : c ≤ 100) : mayG (lClass m c p) = true := by
  unfold mayG
  have hu : uB (fun x : ApiMethod => (x.Abstract == false) && methodG x) (·.Name) [] ((List.range m).map (lMeth c p)) = false := by
    refine uB_none fun a x b e => ?_
    obtain ⟨k1, k2, rfl⟩ := range_split e
    refine ⟨?_, ?_⟩
    · rw [lMethG h h1 h2 (by omega)]; rfl
    · rw [List.nil_append, List.any_eq_false]
      intro y hy hq
      rw [k2] at hy
      obtain ⟨j, hj, rfl⟩ := List.mem_map.1 hy
      rw [List.mem_range] at hj
      have := lNames a.length (by omega) j (by omega) hq
      omega
  have hl : (lClass m c p).Methods.length = m := by show ((List.range m).map (lMeth c p)).length = m; simp
  rw [hl, show (lClass m c p).Methods = (List.range m).map (lMeth c p) from rfl, show (lClass m c p).Interface = false from rfl, hu, decide_eq_true (show (m : Int) ≤ 8 by omega)]
  show (!(false && _) && (((((classN [65, 98] && classN [79, 98, 106, 101, 99, 116]) && (!(uB classN id [] []) && decide (((0 : Nat) : Int) ≤ 4))) && (!(uB fieldN (·.Name) [] [(ApiField.mk [120] [73] false)]) && decide (((1 : Nat) : Int) ≤ 8)))) && (!false && true))) = true
  rw [Bool.false_and]
  decide +kernel
theorem lClass_in {m c p : Nat} (hm : m ≤ 8) (h : p ≤ c) (h1 : 1 ≤ c) (h2 : c ≤ 100) : FClass (lClass m c p) := by
  refine ⟨by show FS [65, 98]; decide, by show FS [79, 98, 106, 101, 99, 116]; decide, ⟨by show 0 ≤ 10000; decide, fun x hx => by cases hx⟩, ⟨by show 1 ≤ 10000; decide, fun x hx => ?_⟩, ⟨by show ((List.range m).map (lMeth c p)).length ≤ 10000; simp; omega, fun x hx => ?_⟩⟩
  · obtain rfl := List.mem_singleton.1 hx
    exact ⟨by decide, by decide⟩
  · obtain ⟨i, hi, rfl⟩ := List.mem_map.1 hx
    refine ⟨by show FS [(109 : UInt8), (tU8 (IntKind.i64.wrap (48 + (i : Int))))]; unfold FS; simp, ⟨by show 0 ≤ 10000; decide, fun x hx => by cases hx⟩, by show FS [86]; decide, by show I64 4; decide, by show I64 2; decide, ⟨by rw [show (lMeth c p i).Code = lCode c from rfl, lCode_len h1]; omega, fun x hx => ?_⟩, ⟨by show ((List.range p).map lMap).length ≤ 10000; simp; omega, fun x hx => ?_⟩, ⟨by show 0 ≤ 10000; decide, fun x hx => by cases hx⟩⟩
    · rcases lCode_mem hx with rfl | rfl
      · exact ⟨by decide, by decide, by decide, by decide⟩
      · exact ⟨by decide, by decide, by decide, by decide⟩
    · obtain ⟨k, hk, rfl⟩ := List.mem_map.1 hx
      rw [List.mem_range] at hk
      refine ⟨by show I64 (k : Int); exact ⟨by omega, by omega⟩, ⟨by show 4 ≤ 10000; decide, fun x hx => ?_⟩, ⟨by show 2 ≤ 10000; decide, fun x hx => ?_⟩⟩
      · have : ∀ x ∈ ([[73], [78], [84], [79, 98, 106, 101, 99, 116]] : List (List UInt8)), x.length ≤ 10 := by decide
        have := this x hx
        unfold FS; omega
      · have : ∀ x ∈ ([[73], [91, 73]] : List (List UInt8)), x.length ≤ 10 := by decide
        have := this x hx
        unfold FS; omega
theorem law6_FileLong_eq {m c p : Int} : law6_FileLong m c p = some true := by
  unfold law6_FileLong
  rw [law6_begun_eq]
  simp only [Option.bind_some, Bool.not_true, cond_false]
  cases hq : (((((decide (m < 1)) || (decide (8 < m))) || (decide (c < 1))) || (decide (100 < c))) || (decide (p < 0))) || (decide (c < p)) with
  | true => rfl
  | false =>
    simp only [Bool.or_eq_false_iff, decide_eq_false_iff_not] at hq
    simp only [cond_false]
    obtain ⟨M, rfl⟩ : ∃ M : Nat, m = (M : Int) := ⟨m.toNat, by omega⟩
    obtain ⟨C, rfl⟩ : ∃ C : Nat, c = (C : Int) := ⟨c.toNat, by omega⟩
    obtain ⟨Q, rfl⟩ : ∃ Q : Nat, p = (Q : Int) := ⟨p.toNat, by omega⟩
    have i := lClass_in (m := M) (c := C) (p := Q) (by omega) (by omega) (by omega) (by omega)
    have hm := lClass_may (m := M) (c := C) (p := Q) (by omega) (by omega) (by omega) (by omega)
    rw [l9_eq (by omega) (by omega) (by omega) (by omega)]
    simp only [Option.bind_some, leave]
    unfold law6_FileLong_k10
    rw [show ApiClass.mk [65, 98] [79, 98, 106, 101, 99, 116] false [] ([(ApiField.mk [120] [73] false)]) ((List.range M).map (lMeth C Q)) = lClass M C Q from rfl]
    generalize lClass M C Q = x at *
    rw [file_Encode_eq i, ref3_Bytes_eq i hm]
    simp only [Option.bind_some]
    have hlen := bytesC_le i hm
    cases hd : decide (6000 < ((bytesC x).length : Int)) with
    | true =>
      have h1 := of_decide_eq_true hd
      rw [encN_long hm (by omega)]; rfl
    | false =>
      have h1 := of_decide_eq_false hd
      have hl : (bytesC x).length ≤ 6000 := by omega
      simp only [cond_false]
      rw [encN_may hm hl, Option.getD_some, file_Decode_eq _ (by unfold Len; omega), decN_bytes i hm hl]
      simp only [Option.bind_some]
      rw [ref3_EqClass_eq i, (beqC_iff x x).2 rfl, beq_self_eq_true]
      rfl
theorem fileLong_pure (m c p : Int) (h1 : wI .i64 m) (h2 : wI .i64 c) (h3 : wI .i64 p) : PureC Tryz.prog 7 [iA m, iA c, iA p] (bA true) := law6_FileLong_ok m c p law6_FileLong_eq
end Go.Proofs.YtdhpdpkcfffpiaaGreat
