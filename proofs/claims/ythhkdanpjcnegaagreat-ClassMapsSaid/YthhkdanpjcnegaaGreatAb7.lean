/- The abstract layer, part 7: the step of an operation and its soundness; regions, code, functions. -/
import Derived.Test.YthhkdanpjcnegaaGreatAb6
namespace Go.Proofs.YthhkdanpjcnegaaGreat
set_option linter.unusedSimpArgs false
set_option linter.unusedVariables false
set_option linter.unusedSectionVars false

def elemT (s : TypeId) (a b : TK) : TypeId :=
  match a with
  | .slc e => e
  | _ => match b with | .slc e => e | _ => s

def natOf : AV → Option Nat
  | .lit (.int .i64 n) => if 0 ≤ n then some n.toNat else none
  | _ => none

def bndOf (env : Ev) (dflt : Nat) : Option Operand → Option Nat
  | none => some dflt
  | some x => match ev env x with | some v => natOf v | none => none

def strAt (s : List UInt8) (i : Int) : Option AV :=
  if 0 ≤ i then (s[i.toNat]?).map fun b => .lit (.int .u8 b.toNat) else none

/-- 'len'. -/
def alenOp (P : Program) (env : Ev) (st : St) (x : Operand) (t : TypeId) : Option (AV × St) :=
  match tiOf P t, ev env x with
  | some ti, some v =>
    match v, ti.k with
    | .lit (.string s), .str => some (.lit (.int .i64 s.data.toList.length), st)
    | .isl _ els, .slc _ => some (.lit (.int .i64 els.length), st)
    | .msl l _ n, .slc _ => match st[l]? with | some (some _) => some (.lit (.int .i64 n), st) | _ => none
    | .lit (.slice none 0 0), .slc _ => some (.lit (.int .i64 0), st)
    | _, _ => none
  | _, _ => none

/-- 'append'. -/
def aappOp (P : Program) (env : Ev) (st : St) (s x : Operand) (t tx : TypeId) : Option (AV × St) :=
  match tiOf P t, ev env s, ev env x, tiOf P tx with
  | some ti, some sv, some xv, some tix =>
    match ti.k with
    | .slc e =>
      match tiOf P e with
      | some te =>
        match baseOf st te.size sv with
        | some (old, st1) =>
          match tix.k, xv with
          | .slc _, xv =>
            match rowsOf st te.size xv with
            | some new => if 0 < te.size ∧ allOne new = true ∧ (old.length + new.length) * te.bytes ≤ 140737488355328 ∧ old.length + new.length ≤ 9223372036854775807 then
                some (.msl st.length 0 (old.length + new.length), st1 ++ [some (te.size, old ++ new)]) else none
            | none => none
          | .str, .lit (.string u) => if te.size = 1 ∧ (old.length + u.data.toList.length) * te.bytes ≤ 140737488355328 ∧ old.length + u.data.toList.length ≤ 9223372036854775807 then
                some (.msl st.length 0 (old.length + u.data.toList.length), st1 ++ [some (te.size, old ++ u.data.toList.map byteRow)]) else none
          | _, _ => none
        | none => none
      | none => none
    | _ => none
  | _, _, _, _ => none

/-- A builtin's call. -/
def abuiltin (P : Program) (env : Ev) (st : St) (c : Call) : Option (AV × St) :=
  match c.callee, c.args.toList, c.argTypes.toList with
  | .builtin .len, [x], [t] => alenOp P env st x t
  | .builtin .append, [s, x], [t, tx] => aappOp P env st s x t tx
  | _, _, _ => none

/-- The step of an operation that is no call of a Go function. -/
def aop (P : Program) (env : Ev) (st : St) : Op → Option (AV × St)
  | .move x | .assign x => (ev env x).map fun v => (v, st)
  | .pick c a b =>
    match ev env c with
    | some (.lit (.bool true)) => (ev env a).map fun v => (v, st)
    | some (.lit (.bool false)) => (ev env b).map fun v => (v, st)
    | _ => none
  | .binOp op t x y _ =>
    match tiOf P t, ev env x, ev env y with
    | some ti, some a, some b => (match abin ti.k op a b with | some v => some v | none => aeq P t op a b).map fun v => (v, st)
    | _, _, _ => none
  | .unOp op _ x => match ev env x with | some a => (aun op a).map fun v => (v, st) | none => none
  | .convert s d x =>
    match tiOf P s, tiOf P d, ev env x with
    | some is, some id, some v => match tiOf P (elemT s is.k id.k) with | some ie => aconv st is.k id.k ie.k v | none => none
    | _, _, _ => none
  | .extract t i => match ev env t with | some (.tup vs) => (vs[i]?).map fun v => (v, st) | _ => none
  | .alloc t => match tiOf P t with | some ti => some (.mpt st.length 0 0, st ++ [some (ti.size, [litCells ti.zero])]) | none => none
  | .box _ x => match ev env x with | some v => (cellsA v).map fun cs => (.mpt st.length 0 0, st ++ [some (cs.length, [cs])]) | none => none
  | .load t p => match tiOf P t, ev env p with | some ti, some v => (aload st ti v).map fun r => (r, st) | _, _ => none
  | .store t p x => match tiOf P t, ev env p, ev env x with | some ti, some pv, some xv => (astore st ti pv xv).map fun s => (.lit undef, s) | _, _, _ => none
  | .fieldAddr t x f => match tiOf P t, ev env x with | some ti, some v => if alive st v then (afield ti v f).map fun r => (r, st) else none | _, _ => none
  | .indexAddr t x ix =>
    match tiOf P t, ev env x, ev env ix with
    | some ti, some v, some (.lit (.int _ i)) => match ti.k with | .slc e => (match tiOf P e with | some te => (aindex st te.size v i).map fun r => (r, st) | none => none) | _ => none
    | _, _, _ => none
  | .index t x ix =>
    match tiOf P t, ev env x, ev env ix with
    | some ti, some (.lit (.string s)), some (.lit (.int _ i)) => match ti.k with | .str => (strAt s.data.toList i).map fun r => (r, st) | _ => none
    | _, _, _ => none
  | .slice t x lo hi none =>
    match tiOf P t, ev env x with
    | some ti, some v =>
      match ti.k, alen v with
      | .slc e, some n =>
        match tiOf P e, bndOf env 0 lo, bndOf env n hi with
        | some te, some l, some h => (asub st te.size v l h).map fun r => (r, st)
        | _, _, _ => none
      | .str, some n =>
        match v, bndOf env 0 lo, bndOf env n hi with
        | .lit (.string s), some l, some h => if l ≤ h ∧ h ≤ n then some (.lit (.string ⟨⟨(s.data.toList.drop l).take (h - l)⟩⟩), st) else none
        | _, _, _ => none
      | _, _ => none
    | _, _ => none
  | .build t ps =>
    match tiOf P t, evParts env ps.toList with
    | some ti, some parts =>
      match ti.k with
      | .agg pl => (fillA pl (litCells ti.zero) parts).map fun r => (.agg r, st)
      | .arr n e => match tiOf P e with | some te => (fillA ((List.range n).map fun i => (i * te.size, te.size)) (litCells ti.zero) parts).map fun r => (.agg r, st) | none => none
      | _ => none
    | _, _ => none
  | .buildSlice t len ps =>
    match tiOf P t, evParts env ps.toList with
    | some ti, some parts =>
      match ti.k with
      | .slc e =>
        match tiOf P e with
        | some te => if 0 < te.size ∧ len * te.size ≤ 16777216 then (fillR te.size (List.replicate len (litCells te.zero)) parts).map fun r => (.msl st.length 0 len, st ++ [some (te.size, r)]) else none
        | none => none
      | _ => none
    | _, _ => none
  | .nilCheck x => match ev env x with | some v => if alive st v then some (v, st) else none | none => none
  | .makeFunc (.func f) first caps => match evList env first.toList, evList env caps.toList with | some a, some b => some (.fn (.func f) a b, st) | _, _ => none
  | .call c => abuiltin P env st c
  | _ => none

theorem natOf_inv {v : AV} {n : Nat} (h : natOf v = some n) : v = .lit (.int .i64 n) := by
  unfold natOf at h
  split at h
  · rename_i q
    split at h
    · rename_i hq; cases h; rw [Int.toNat_of_nonneg hq]
    · cases h
  · cases h

theorem bnd_sound {A m nb w n env a} (hE : Env A m nb w n env a) {d q : Nat} {x : Option Operand} (h : bndOf env d x = some q) : x.map a.eval = some (.int .i64 q) ∨ (x.map a.eval = none ∧ q = d) := by
  cases x with
  | none => simp [bndOf] at h; exact .inr ⟨rfl, h.symm⟩
  | some y =>
    simp only [bndOf] at h
    split at h
    · rename_i v hv
      have h1 := ev_sound hE hv
      rw [natOf_inv h] at h1
      exact .inl (by simp [h1.lit_inv])
    · cases h

theorem src_rows {P : Program} {A m w st} {k : Nat} {tx : TypeId} {tix : TI} {e' : TypeId} {xv : AV} {x : Value} {new : List (List AV)} (hR : R A m w st) (ht : tiOf P tx = some tix) (hk : tix.k = .slc e')
    (hr : rowsOf st k xv = some new) (hx : V A m st.length w xv x) (h1 : allOne new = true) : ASrc A m st.length w P k tx x new := by
  obtain ⟨d, i0, hd, _, _, _, _, hdk, _⟩ := tiOf_inv ht
  rw [hk] at hdk
  have := tk_slc hdk
  subst this
  rcases rows_sound hR hr hx with ⟨rfl, a, cap, rfl⟩ | ⟨B, o, cap, rfl, hcap, hrd⟩
  · refine ⟨fun i hi => by simp at hi, [], ?_, fun i hi => by simp at hi⟩
    cases a with
    | none => exact Src.ofNil w hd cap
    | some a => exact Src.ofSlice w hd a 0 cap [] (by simp) (fun j u hu => by cases hu) (fun u hu => by cases hu)
  · obtain ⟨news, n1, n2, n3⟩ := hrd.flat
    refine ⟨hrd.wide, news, Src.ofSlice w hd _ _ cap news n1 (fun j u hu => by rw [addr_add]; exact n2 j u hu) (fun u hu => ?_), n3⟩
    obtain ⟨q, hq, rfl⟩ := List.mem_iff_getElem.1 hu
    have hk0 : 0 < k := by
      rcases Nat.eq_zero_or_pos k with h | h
      · subst h; rw [n1] at hq; omega
      · exact h
    rw [n1] at hq
    have hi : q / k < new.length := by rw [Nat.div_lt_iff_lt_mul hk0]; exact hq
    have hj : q % k < new[q / k].length := by rw [hrd.wide _ hi]; exact Nat.mod_lt _ hk0
    have h4 := n3 (q / k) hi (q % k) hj
    have h5 : q / k * k + q % k = q := by rw [Nat.mul_comm]; exact Nat.div_add_mod q k
    rw [h5, List.getD_eq_getElem?_getD, List.getElem?_eq_getElem (by rw [n1]; exact hq), Option.getD_some] at h4
    refine h4.one ?_
    simp only [allOne, List.all_eq_true] at h1
    exact h1 _ (List.getElem_mem hi) _ (List.getElem_mem hj)

theorem src_str {P : Program} {A m w st} {tx : TypeId} {tix : TI} (s : ByteArray) (ht : tiOf P tx = some tix) (hk : tix.k = .str) : ASrc A m (List.length (α := Option (Nat × List (List AV))) st) w P 1 tx (.string s) (s.data.toList.map byteRow) := by
  obtain ⟨d, i0, hd, _, _, _, _, hdk, _⟩ := tiOf_inv ht
  rw [hk] at hdk
  have := tk_str hdk
  subst this
  refine ⟨fun i hi => by simp [byteRow], byteCells s, ?_, fun i hi j hj => ?_⟩
  · have := Src.ofString w hd s
    have e : (s.data.toList.map byteRow).length = s.size := by simp
    rw [e]; exact this
  · have hi' : i < s.data.toList.length := by simpa using hi
    have h3 : (List.map byteRow s.data.toList)[i] = byteRow s.data.toList[i] := by simp
    have hj0 : j = 0 := by simp [h3, byteRow] at hj; exact hj
    subst hj0
    simp only [h3, byteRow, List.getElem_cons_zero]
    have e : (byteCells s).getD (i * 1 + 0) undef = .int .u8 s.data.toList[i].toNat := by
      have h8 : i < s.data.size := by simpa using hi'
      simp [byteCells, List.getD_eq_getElem?_getD]
      rw [Array.getElem?_eq_getElem h8]; rfl
    rw [e]
    exact .imm (.lit _)

theorem call_builtin (ρ : Operand → Value) (o : Oper) (b : Builtin) (args : Array Operand) (at_ : Array TypeId) (ho : o.op = .call { callee := .builtin b, args := args, argTypes := at_ }) (P : Program) (w : World) :
    ∃ cs, (execOp ρ o).run P w = (builtin b at_ o.type cs (args.map ρ)).run P w := by
  refine ⟨args.map fun | .const _ => true | _ => false, ?_⟩
  · simp only [execOp, ho, resolve, Sem.run_bind, Sem.run_pure, Result.andThen_ok, invoke]
    rfl


theorem opOk_v {P : Program} {A m w st} {s : Sem Value} {av : AV} {st' : St} (h : ∃ v w' m', s.run P w = .ok v w' ∧ R A m' w' st' ∧ Step A m st.length w A m' st'.length w' ∧ V A m' st'.length w' av v) :
    OpOk P A m w st ((do pure (.value (← s)) : Sem Next).run P w) av st' := by
  obtain ⟨v, w', m', h1, h2, h3, h4⟩ := h
  exact ⟨.value v, v, w', m', by simp [h1], .inl rfl, h2, h3, h4⟩

theorem opOk_same {P : Program} {A m w st} {s : Sem Value} {av : AV} (hR : R A m w st) (h : ∃ v, s.run P w = .ok v w ∧ V A m st.length w av v) :
    OpOk P A m w st ((do pure (.value (← s)) : Sem Next).run P w) av st := by
  obtain ⟨v, h1, h4⟩ := h
  exact opOk_v ⟨v, w, m, h1, hR, Step.refl _ _ _ _, h4⟩

theorem map_some {α β : Type} {f : α → β} {o : Option α} {y : β} (h : o.map f = some y) : ∃ x, o = some x ∧ f x = y := by
  cases o with
  | none => cases h
  | some x => exact ⟨x, rfl, Option.some.inj h⟩

theorem len_op_sound {P : Program} {A m w st n env a} {dst : Option Tmp} {ty : TypeId} {pos : String} {after : Array Edge} {guard : Option (Nat × Bool)} {x : Operand} {t : TypeId} {av : AV} {st' : St} (hR : R A m w st) (hE : Env A m st.length w n env a)
    (h : alenOp P env st x t = some (av, st')) : OpOk P A m w st ((execOp a.eval { dst := dst, op := .call { callee := .builtin .len, args := #[x], argTypes := #[t] }, type := ty, pos := pos, after := after, guard := guard }).run P w) av st' := by
  obtain ⟨cs, hrun⟩ := call_builtin a.eval { dst := dst, op := .call { callee := .builtin .len, args := #[x], argTypes := #[t] }, type := ty, pos := pos, after := after, guard := guard } .len #[x] #[t] rfl P w
  rw [hrun]
  unfold alenOp at h
  split at h
  · rename_i ti v ht hv
    have hv' := ev_sound hE hv
    have go : ∀ (q : Nat), (Builtin.len_ #[t] ty #[a.eval x]).run P w = .ok (goInt q) w → OpOk P A m w st ((builtin .len #[t] ty cs (#[x].map a.eval)).run P w) (.lit (.int .i64 q)) st := fun q hq => by
      refine ⟨.value (goInt q), goInt q, w, m, ?_, .inl rfl, hR, Step.refl _ _ _ _, .imm (.lit _)⟩
      simp [builtin, hq]
    split at h
    · rename_i s hk
      cases h
      exact go _ (op_len ht (.inr hk) hv' (by simp [alen]) (fun l i n e => by cases e) ⟨fun _ => hk, fun _ => ⟨s, rfl⟩⟩)
    · rename_i k els e hk
      cases h
      exact go _ (op_len ht (.inl ⟨e, hk⟩) hv' rfl (fun l i n e => by cases e) ⟨(fun ⟨s, e⟩ => (by cases e)), (fun e => (by rw [hk] at e; cases e))⟩)
    · rename_i l i q e hk
      split at h
      · rename_i kk hl
        cases h
        refine go _ (op_len ht (.inl ⟨e, hk⟩) hv' rfl (fun l' i' n' e => ?_) ⟨(fun ⟨s, e⟩ => (by cases e)), (fun e => (by rw [hk] at e; cases e))⟩)
        cases e
        obtain ⟨k2, els⟩ := kk
        obtain ⟨b, h1, _⟩ := hR.blk l k2 els hl
        exact ⟨b, h1⟩
      · cases h
    · rename_i e hk
      cases h
      exact go 0 (op_len ht (.inl ⟨e, hk⟩) hv' rfl (fun l i n e => by cases e) ⟨(fun ⟨s, e⟩ => (by cases e)), (fun e => (by rw [hk] at e; cases e))⟩)
    · cases h
  · cases h

theorem app_op_sound {P : Program} {A m w st n env a} {dst : Option Tmp} {ty : TypeId} {pos : String} {after : Array Edge} {guard : Option (Nat × Bool)} {s x : Operand} {t tx : TypeId} {av : AV} {st' : St} (hR : R A m w st) (hE : Env A m st.length w n env a)
    (h : aappOp P env st s x t tx = some (av, st')) : OpOk P A m w st ((execOp a.eval { dst := dst, op := .call { callee := .builtin .append, args := #[s, x], argTypes := #[t, tx] }, type := ty, pos := pos, after := after, guard := guard }).run P w) av st' := by
  obtain ⟨cs, hrun⟩ := call_builtin a.eval { dst := dst, op := .call { callee := .builtin .append, args := #[s, x], argTypes := #[t, tx] }, type := ty, pos := pos, after := after, guard := guard } .append #[s, x] #[t, tx] rfl P w
  rw [hrun]
  unfold aappOp at h
  split at h
  · rename_i ti sv xv tix ht hs hx htx
    split at h
    · rename_i e hk
      split at h
      · rename_i te he
        split at h
        · rename_i old st1 hb
          have fin : (∃ v w' m', (Builtin.append_ #[t, tx] ty #[a.eval s, a.eval x]).run P w = .ok v w' ∧ R A m' w' st' ∧ Step A m st.length w A m' st'.length w' ∧ V A m' st'.length w' av v) →
              OpOk P A m w st ((builtin .append #[t, tx] ty cs (#[s, x].map a.eval)).run P w) av st' := fun ⟨v, w', m', h1, h2, h3, h4⟩ =>
            ⟨.value v, v, w', m', by simp [builtin, h1], .inl rfl, h2, h3, h4⟩
          split at h
          · rename_i e' hk2
            split at h
            · rename_i new hr
              split at h
              · rename_i hc
                cases h
                exact fin (append_sound hR ht hk he hc.1 (ev_sound hE hs) hb (src_rows hR htx hk2 hr (ev_sound hE hx) hc.2.1) hc.2.2.1 hc.2.2.2)
              · cases h
            · cases h
          · rename_i u hk2
            split at h
            · rename_i hc
              cases h
              have e2 := (ev_sound hE hx).lit_inv
              have hl : (u.data.toList.map byteRow).length = u.data.toList.length := by simp
              have h9 := append_sound (P := P) (ty := ty) (tx := tx) hR ht hk he (by rw [hc.1]; decide) (ev_sound hE hs) hb (x := a.eval x) (new := u.data.toList.map byteRow) (by rw [e2, hc.1]; exact src_str u htx hk2)
                (by rw [hl]; exact hc.2.1) (by rw [hl]; exact hc.2.2)
              rw [hl] at h9
              exact fin h9
            · cases h
          · cases h
        · cases h
      · cases h
    · cases h
  · cases h

set_option maxHeartbeats 1000000 in
theorem aop_sound {P : Program} {A m w st n env a} {o : Oper} {av : AV} {st' : St} (hR : R A m w st) (hE : Env A m st.length w n env a) (h : aop P env st o.op = some (av, st')) :
    OpOk P A m w st ((execOp a.eval o).run P w) av st' := by
  obtain ⟨dst, op, ty, pos, after, guard⟩ := o
  simp only at h
  unfold aop at h
  split at h
  · obtain ⟨x, h1, h2⟩ := map_some h; cases h2
    exact opOk_pure hR (ev_sound hE h1)
  · obtain ⟨x, h1, h2⟩ := map_some h; cases h2
    exact opOk_pure hR (ev_sound hE h1)
  · rename_i c x y
    split at h
    · rename_i hc
      obtain ⟨z, h1, h2⟩ := map_some h; cases h2
      have e := (ev_sound hE hc).lit_inv
      refine ⟨_, _, w, m, ?_, .inl rfl, hR, Step.refl _ _ _ _, ev_sound hE h1⟩
      simp [execOp, e, asBool]
    · rename_i hc
      obtain ⟨z, h1, h2⟩ := map_some h; cases h2
      have e := (ev_sound hE hc).lit_inv
      refine ⟨_, _, w, m, ?_, .inl rfl, hR, Step.refl _ _ _ _, ev_sound hE h1⟩
      simp [execOp, e, asBool]
    · cases h
  · split at h
    · rename_i ti x' y' ht hx hy
      obtain ⟨z, h1, h2⟩ := map_some h; cases h2
      split at h1
      · rename_i hb
        cases h1
        exact opOk_same hR (bin_sound ht (ev_sound hE hx) (ev_sound hE hy) hb)
      · exact opOk_same hR (aeq_sound (ev_sound hE hx) (ev_sound hE hy) h1)
    · cases h
  · split at h
    · rename_i x' hx
      obtain ⟨z, h1, h2⟩ := map_some h; cases h2
      exact opOk_same hR (un_sound (ev_sound hE hx) h1)
    · cases h
  · split at h
    · rename_i is id v hs hd hx
      split at h
      · rename_i ie he
        refine opOk_v (conv_sound hR hs hd ?_ he (ev_sound hE hx) h)
        simp only [elemT]
        cases hk : is.k <;> simp
        all_goals (cases hk2 : id.k <;> simp)
      · cases h
    · cases h
  · split at h
    · rename_i t i o vs hv
      obtain ⟨z, h1, h2⟩ := map_some h; cases h2
      obtain ⟨b, e, h3⟩ := (ev_sound hE hv).tup_inv
      refine opOk_same hR ⟨b.getD i undef, ?_, h3.get h1⟩
      have hi : i < b.size := by rw [h3.1]; exact (List.getElem?_eq_some_iff.1 h1).1
      simp [Instr.extract, e, hi, Array.getD_eq_getD_getElem?]
    · cases h
  · split at h
    · rename_i ti ht
      cases h
      obtain ⟨w', m', h1, h2⟩ := op_alloc hR ht
      exact opOk_v ⟨_, w', m', h1, h2⟩
    · cases h
  · split at h
    · rename_i t x o v hv
      obtain ⟨cs, h1, h2⟩ := map_some h; cases h2
      obtain ⟨w', m', h3, h4⟩ := op_box (P := P) (t := t) hR (ev_sound hE hv) h1
      exact opOk_v ⟨_, w', m', h3, h4⟩
    · cases h
  · split at h
    · rename_i ti v ht hv
      obtain ⟨z, h1, h2⟩ := map_some h; cases h2
      exact opOk_same hR (op_load hR ht (ev_sound hE hv) h1)
    · cases h
  · split at h
    · rename_i ti pv xv ht hp hx
      obtain ⟨z, h1, h2⟩ := map_some h; cases h2
      obtain ⟨w', h3, h4, h5⟩ := op_store hR ht (ev_sound hE hp) (ev_sound hE hx) h1
      refine ⟨.skip, undef, w', m, ?_, .inr ⟨rfl, rfl⟩, h4, h5, .imm (.lit _)⟩
      simp [execOp, h3]
    · cases h
  · split at h
    · rename_i ti v ht hv
      split at h
      · rename_i hal
        obtain ⟨z, h1, h2⟩ := map_some h; cases h2
        exact opOk_same hR (op_field hR ht (ev_sound hE hv) hal h1)
      · cases h
    · cases h
  · split at h
    · rename_i ti v k i ht hv hix
      split at h
      · rename_i e hk
        split at h
        · rename_i te he
          obtain ⟨z, h1, h2⟩ := map_some h; cases h2
          have e1 := (ev_sound hE hix).lit_inv
          refine opOk_same hR ?_
          rw [e1]
          exact op_index hR ht hk he (ev_sound hE hv) h1
        · cases h
      · cases h
    · cases h
  · split at h
    · rename_i ti s k i ht hv hix
      split at h
      · rename_i hk
        obtain ⟨z, h1, h2⟩ := map_some h; cases h2
        have e1 := (ev_sound hE hix).lit_inv
        have e2 := (ev_sound hE hv).lit_inv
        obtain ⟨d, i0, hd, _, _, _, _, hdk, _⟩ := tiOf_inv ht
        rw [hk] at hdk
        have := tk_str hdk
        subst this
        unfold strAt at h1
        split at h1
        · rename_i h0
          obtain ⟨b, h3, h4⟩ := map_some h1; cases h4
          obtain ⟨h5, h6⟩ := List.getElem?_eq_some_iff.1 h3
          refine opOk_same hR ⟨.int .u8 b.toNat, ?_, .imm (.lit _)⟩
          have h7 : s[i.toNat]? = some b := by
            have h8 : i.toNat < s.size := by simpa using h5
            rw [getElem?_pos s i.toNat h8]
            rw [← h6]; rfl
          rw [e1, e2]
          simp [Instr.index, asIntOf, run_underlying hd, h0, h7]
        · cases h1
      · cases h
    · cases h
  · split at h
    · rename_i t x lo hi o1 o2 ti v ht hv
      split at h
      · rename_i e q hk hl
        split at h
        · rename_i te l hh he hlo hhi
          obtain ⟨z, h1, h2⟩ := map_some h; cases h2
          refine opOk_same hR ?_
          refine op_sub hR ht hk he (ev_sound hE hv) h1 _ _ (bnd_sound hE hlo) ?_
          rcases bnd_sound hE hhi with h3 | ⟨h3, rfl⟩
          · exact .inl h3
          · exact .inr ⟨h3, hl⟩
        · cases h
      · rename_i q hk hl
        split at h
        · rename_i s l hh hlo hhi
          split at h
          · rename_i hc
            cases h
            obtain ⟨d, i0, hd, _, _, _, _, hdk, _⟩ := tiOf_inv ht
            rw [hk] at hdk
            have := tk_str hdk
            subst this
            have e2 := (ev_sound hE hv).lit_inv
            simp [alen] at hl
            refine opOk_same hR ⟨_, ?_, .imm (.lit _)⟩
            have hex : s.extract l hh = ⟨⟨(s.data.toList.drop l).take (hh - l)⟩⟩ := by
              apply ByteArray.ext
              apply Array.ext'
              simp [List.extract_eq_take_drop]
            rw [← hex, e2]
            rcases bnd_sound hE hlo with h3 | ⟨h3, rfl⟩ <;> rcases bnd_sound hE hhi with h4 | ⟨h4, rfl⟩ <;>
              simp [Instr.sliceAt, Instr.slice, run_underlying hd, h3, h4, Instr.sliceBounds, Instr.sliceBound, asIntOf, hc.1, hc.2, hl]
            all_goals (first | omega | (apply ByteArray.ext; apply Array.ext'; simp [← hl]))
          · cases h
        · cases h
      · cases h
    · cases h
  · split at h
    · rename_i ti parts ht hp
      split at h
      · rename_i pl hk
        obtain ⟨z, h1, h2⟩ := map_some h; cases h2
        exact opOk_same hR (op_build hE ht (.inl hk) hp h1)
      · rename_i cnt e hk
        split at h
        · rename_i te he
          obtain ⟨z, h1, h2⟩ := map_some h; cases h2
          exact opOk_same hR (op_build hE ht (.inr ⟨cnt, e, te, hk, he, rfl⟩) hp h1)
        · cases h
      · cases h
    · cases h
  · split at h
    · rename_i ti parts ht hp
      split at h
      · rename_i e hk
        split at h
        · rename_i te he
          split at h
          · rename_i hc
            obtain ⟨z, h1, h2⟩ := map_some h; cases h2
            exact opOk_v (op_buildSlice hR hE ht hk he hc.1 hc.2 hp h1)
          · cases h
        · cases h
      · cases h
    · cases h
  · split at h
    · rename_i x o v hv
      split at h
      · rename_i hal
        cases h
        have hv' := ev_sound hE hv
        refine ⟨.value (a.eval x), a.eval x, w, m, ?_, .inl rfl, hR, Step.refl _ _ _ _, hv'⟩
        simp only [execOp]
        generalize a.eval x = u at hv'
        cases av with
        | mpt l i j =>
          obtain ⟨b, _, _, e⟩ := alive_ptr hR hal hv'
          simp [e]
        | ipt k els i j =>
          cases hv'.ipt_inv with
          | ipt _ _ _ _ B o' vs hA hk hc hv2 => rfl
        | fn f cs ds =>
          obtain ⟨p, q, e, _⟩ := hv'.fn_inv
          subst e
          cases f with
          | func g => rfl
          | _ => cases hal
        | _ => cases hal
      · cases h
    · cases h
  · split at h
    · rename_i f first caps o1 o2 p q hp hq
      cases h
      have h1 := evList_sound hE hp
      have h2 := evList_sound hE hq
      refine opOk_same hR ⟨.func (.func f) (first.map a.eval) (caps.map a.eval), rfl, ?_⟩
      have e1 : (first.toList.map a.eval).toArray = first.map a.eval := by apply Array.ext'; simp
      have e2 : (caps.toList.map a.eval).toArray = caps.map a.eval := by apply Array.ext'; simp
      rw [e1] at h1; rw [e2] at h2
      exact .fn _ _ _ _ _ h1.1 h1.2 h2.1 h2.2
    · cases h
  · rename_i c
    obtain ⟨callee, args, argTypes⟩ := c
    unfold abuiltin at h
    split at h
    · rename_i x t hcal hargs hat
      simp only at hcal hargs hat
      subst hcal
      obtain rfl : args = #[x] := by rw [← Array.toArray_toList (xs := args), hargs]
      obtain rfl : argTypes = #[t] := by rw [← Array.toArray_toList (xs := argTypes), hat]
      exact len_op_sound hR hE h
    · rename_i s x t tx hcal hargs hat
      simp only at hcal hargs hat
      subst hcal
      obtain rfl : args = #[s, x] := by rw [← Array.toArray_toList (xs := args), hargs]
      obtain rfl : argTypes = #[t, tx] := by rw [← Array.toArray_toList (xs := argTypes), hat]
      exact app_op_sound hR hE h
    · cases h
  · cases h

end Go.Proofs.YthhkdanpjcnegaaGreat
