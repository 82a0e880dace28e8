/- HierAll: for every input the law returns true, and each argument reads as it read before. No further condition. Part 7 of 8. -/
import Derived.Test.YtooagifeniibcaaGreatYb6
namespace Go.Proofs.YtooagifeniibcaaGreat
set_option linter.unusedSimpArgs false
set_option linter.unusedVariables false
abbrev I64 (n : Int) : Prop := -9223372036854775808 ≤ n ∧ n ≤ 9223372036854775807
abbrev FS (s : List UInt8) : Prop := s.length ≤ 10000
structure FL {α : Type} (Q : α → Prop) (l : List α) : Prop where
  len : l.length ≤ 10000
  all : ∀ x ∈ l, Q x
structure FField (f : ApiField) : Prop where
  name : FS f.Name
  type : FS f.Type_
structure FIns (x : ApiIns) : Prop where
  op : I64 x.Op
  a : I64 x.A
  c : FS x.C
  m : FS x.M
structure FMap (x : ApiMap) : Prop where
  pl : I64 x.At
  locals : FL FS x.Locals
  stack : FL FS x.Stack
structure FTrap (x : ApiTrap) : Prop where
  lo : I64 x.From
  hi : I64 x.To
  pl : I64 x.At
  c : FS x.C
structure FMeth (m : ApiMethod) : Prop where
  name : FS m.Name
  params : FL FS m.Params
  ret : FS m.Ret
  locals : I64 m.Locals
  stack : I64 m.Stack
  code : FL FIns m.Code
  maps : FL FMap m.Maps
  traps : FL FTrap m.Traps
structure FClass (c : ApiClass) : Prop where
  name : FS c.Name
  super : FS c.Super
  impl : FL FS c.Impl
  fields : FL FField c.Fields
  methods : FL FMeth c.Methods
theorem FL.le {α : Type} {Q : α → Prop} {l : List α} (h : FL Q l) : LenL l := by have := h.len; unfold LenL; omega
theorem FS.le {s : List UInt8} (h : FS s) : Len s := by unfold FS at h; unfold Len; omega
theorem FClass.cg {c : ApiClass} (h : FClass c) : CGIn c where
  name := h.name.le
  super := h.super.le
  impl := ⟨h.impl.le, fun s hs => (h.impl.all s hs).le⟩
  fields := ⟨h.fields.le, fun f hf => ⟨(h.fields.all f hf).name.le, (h.fields.all f hf).type.le⟩⟩
  methods := ⟨h.methods.le, fun m hm => by
    have g := h.methods.all m hm
    have g1 := g.params.len
    have g2 := g.code.len
    have g3 := g.maps.len
    have g4 := g.traps.len
    exact ⟨g.name.le, ⟨by omega, fun s hs => (g.params.all s hs).le⟩, g.ret.le,
      ⟨g.maps.le, g.code.le, fun x hx => ⟨⟨(g.maps.all x hx).locals.le, fun s hs => ((g.maps.all x hx).locals.all s hs).le⟩, (g.maps.all x hx).stack.le, fun s hs => ((g.maps.all x hx).stack.all s hs).le⟩⟩,
      ⟨⟨g.code.le, fun x hx => ⟨(g.code.all x hx).c.le, (g.code.all x hx).m.le⟩⟩, ⟨g.traps.le, fun x hx => (g.traps.all x hx).c.le⟩⟩, ⟨by omega, by omega, by omega⟩⟩⟩
def beqS (x y : List UInt8) : Bool := x == y
def beqF (x y : ApiField) : Bool := (x.Name == y.Name) && ((x.Type_ == y.Type_) && ((x.Static == y.Static) && true))
def beqI (x y : ApiIns) : Bool := (x.Op == y.Op) && ((x.A == y.A) && ((x.C == y.C) && ((x.M == y.M) && true)))
def beqT (x y : ApiTrap) : Bool := (x.From == y.From) && ((x.To == y.To) && ((x.At == y.At) && ((x.C == y.C) && true)))
def beqMap (x y : ApiMap) : Bool := ((x.At == y.At) && eqL beqS x.Locals y.Locals) && eqL beqS x.Stack y.Stack
def beqM (x y : ApiMethod) : Bool :=
  ((((eqL beqMap x.Maps y.Maps && (((((x.Name == y.Name) && eqL beqS x.Params y.Params) && (x.Ret == y.Ret)) && (x.Static == y.Static)) && (x.Abstract == y.Abstract))) && (x.Locals == y.Locals)) && (x.Stack == y.Stack)) && eqL beqI x.Code y.Code) && eqL beqT x.Traps y.Traps
def beqC (x y : ApiClass) : Bool := (((((x.Name == y.Name) && (x.Super == y.Super)) && (x.Interface == y.Interface)) && eqL beqS x.Impl y.Impl) && eqL beqF x.Fields y.Fields) && eqL beqM x.Methods y.Methods
theorem pair_loop {α : Type} {body : Int → Option (Sum Int (Sum Unit Bool))} {a b : List α} {e : α → α → Bool} (hl : a.length ≤ 9223372036854775807) (hn : a.length = b.length)
    (hb : ∀ (i : Nat) x y, a[i]? = some x → b[i]? = some y → body (i : Int) = cond (!e x y) (some (.inr (.inr false))) (some (.inl (IntKind.i64.wrap ((i : Int) + 1)))))
    (he : body (a.length : Int) = some (.inr (.inl ()))) : loopP body 0 = some (cond (eqL e a b) (.inl ()) (.inr false)) := by
  have key : ∀ (r s pre pre' : List α), pre.length = pre'.length → a = pre ++ r → b = pre' ++ s → loopP body (pre.length : Int) = some (cond (eqL e r s) (.inl ()) (.inr false)) := by
    intro r
    induction r with
    | nil =>
      intro s pre pre' hp h1 h2
      have : s = [] := by
        have : a.length = pre.length := by rw [h1]; simp
        have : b.length = pre'.length + s.length := by rw [h2]; simp
        exact List.eq_nil_of_length_eq_zero (by omega)
      subst this
      rw [List.append_nil] at h1
      subst h1
      rw [loopP_eq, he]
      rfl
    | cons x r ih =>
      intro s pre pre' hp h1 h2
      have hlen : a.length = pre.length + (r.length + 1) := by rw [h1]; simp
      have hlen2 : b.length = pre'.length + s.length := by rw [h2]; simp
      cases s with
      | nil => simp at hlen2; omega
      | cons y s =>
        have hx : a[pre.length]? = some x := by rw [h1]; simp
        have hy : b[pre.length]? = some y := by rw [h2, hp]; simp
        rw [loopP_eq, hb _ x y hx hy]
        show _ = some (cond (e x y && eqL e r s) _ _)
        cases e x y with
        | false => rfl
        | true =>
          rw [wrap_succ (by omega)]
          have := ih s (pre ++ [x]) (pre' ++ [y]) (by simp [hp]) (by rw [h1]; simp) (by rw [h2]; simp)
          rw [show (pre ++ [x]).length = pre.length + 1 by simp] at this
          exact this
  exact key a b [] [] rfl rfl rfl
theorem eqL_iff {α : Type} {e : α → α → Bool} (h : ∀ x y, e x y = true ↔ x = y) : ∀ {a b : List α}, eqL e a b = true ↔ a = b
  | [], [] => by simp [eqL]
  | [], y :: b => by simp [eqL]
  | x :: a, [] => by simp [eqL]
  | x :: a, y :: b => by
    unfold eqL
    rw [Bool.and_eq_true, h, eqL_iff h, List.cons.injEq]
theorem beqS_iff (x y : List UInt8) : beqS x y = true ↔ x = y := beq_iff_eq
theorem beqF_iff (x y : ApiField) : beqF x y = true ↔ x = y := by
  cases x; cases y; simp [beqF]
theorem beqI_iff (x y : ApiIns) : beqI x y = true ↔ x = y := by
  cases x; cases y; simp [beqI]
theorem beqT_iff (x y : ApiTrap) : beqT x y = true ↔ x = y := by
  cases x; cases y; simp [beqT]
theorem beqMap_iff (x y : ApiMap) : beqMap x y = true ↔ x = y := by
  cases x; cases y; simp only [beqMap, Bool.and_eq_true, eqL_iff beqS_iff, beq_iff_eq, ApiMap.mk.injEq, and_assoc]
theorem beqM_iff (x y : ApiMethod) : beqM x y = true ↔ x = y := by
  cases x; cases y
  simp only [beqM, Bool.and_eq_true, eqL_iff beqS_iff, eqL_iff beqI_iff, eqL_iff beqT_iff, eqL_iff beqMap_iff, beq_iff_eq, ApiMethod.mk.injEq]
  constructor
  · rintro ⟨⟨⟨⟨⟨h1, ⟨⟨⟨h2, h3⟩, h4⟩, h5⟩, h6⟩, h7⟩, h8⟩, h9⟩, h10⟩
    exact ⟨h2, h3, h4, h5, h6, h7, h8, h9, h1, h10⟩
  · rintro ⟨h2, h3, h4, h5, h6, h7, h8, h9, h1, h10⟩
    exact ⟨⟨⟨⟨⟨h1, ⟨⟨⟨h2, h3⟩, h4⟩, h5⟩, h6⟩, h7⟩, h8⟩, h9⟩, h10⟩
theorem beqC_iff (x y : ApiClass) : beqC x y = true ↔ x = y := by
  cases x; cases y
  simp only [beqC, Bool.and_eq_true, eqL_iff beqS_iff, eqL_iff beqF_iff, eqL_iff beqM_iff, beq_iff_eq, ApiClass.mk.injEq, and_assoc]
theorem ref3_EqTexts_eq {a b : List (List UInt8)} (hl : LenL a) : ref3_EqTexts a b = some (eqL beqS a b) := by
  unfold ref3_EqTexts
  refine equal_loop hl (fun i x y hx hy => ?_) ?_
  · show ref3_EqTexts_l1 a b (i : Int) = _
    unfold ref3_EqTexts_l1
    rw [here hx, idx_nat, idx_nat, hx, hy]; rfl
  · show ref3_EqTexts_l1 a b (a.length : Int) = _
    unfold ref3_EqTexts_l1
    rw [past]; rfl
theorem ref3_EqIns_eq (x y : ApiIns) : ref3_EqIns x y = beqI x y := by
  have : ref3_EqIns x y = ((((x.Op == y.Op) && (x.A == y.A)) && (x.C == y.C)) && (x.M == y.M)) := by rfl
  rw [this]
  unfold beqI
  cases (x.Op == y.Op) <;> cases (x.A == y.A) <;> cases (x.C == y.C) <;> cases (x.M == y.M) <;> rfl
theorem ref3_eqMethod_eq {x y : ApiMethod} (h : FMeth x) : ref3_eqMethod x y = some (beqM x y) := by
  unfold ref3_eqMethod
  rw [ref3_EqTexts_eq h.params.le]
  rw [show (cond (!(x.Name == y.Name)) (some true) ((some (eqL beqS x.Params y.Params)).bind fun v3 => some (!v3))) = some (!((x.Name == y.Name) && eqL beqS x.Params y.Params)) by cases (x.Name == y.Name) <;> rfl, Option.bind_some]
  cases hc : ((((((((!((x.Name == y.Name) && eqL beqS x.Params y.Params) || (!(x.Ret == y.Ret))) || (!(x.Static == y.Static))) || (!(x.Abstract == y.Abstract))) || (!(x.Locals == y.Locals))) || (!(x.Stack == y.Stack))) || (!((List.length x.Code : Int) == (List.length y.Code : Int)))) || (!((List.length x.Maps : Int) == (List.length y.Maps : Int)))) || (!((List.length x.Traps : Int) == (List.length y.Traps : Int)))) with
  | true =>
    have : beqM x y = false := by
      cases hb : beqM x y with
      | false => rfl
      | true =>
        have := (beqM_iff x y).1 hb
        subst this
        rw [(eqL_iff beqS_iff).2 rfl] at hc
        simp at hc
    rw [this]; rfl
  | false =>
    simp only [Bool.or_eq_false_iff, Bool.not_eq_false', Bool.and_eq_true] at hc
    obtain ⟨⟨⟨⟨⟨⟨⟨⟨⟨h1, h2⟩, h3⟩, h4⟩, h5⟩, h6⟩, h7⟩, h8⟩, h9⟩, h10⟩ := hc
    have l8 : x.Code.length = y.Code.length := by have := beq_iff_eq.1 h8; omega
    have l9 : x.Maps.length = y.Maps.length := by have := beq_iff_eq.1 h9; omega
    have l10 : x.Traps.length = y.Traps.length := by have := beq_iff_eq.1 h10; omega
    simp only [cond_false]
    rw [show loopP (fun z => ref3_eqMethod_l1 x y z) 0 = some (cond (eqL beqI x.Code y.Code) (.inl ()) (.inr false)) from pair_loop h.code.le l8 (fun i u v hu hv => by
      show ref3_eqMethod_l1 x y (i : Int) = _
      unfold ref3_eqMethod_l1
      rw [here hu, idx_nat, idx_nat, hu, hv]
      simp only [Option.bind_some, cond_true]
      rw [ref3_EqIns_eq]) (by show ref3_eqMethod_l1 x y (x.Code.length : Int) = _; unfold ref3_eqMethod_l1; rw [past]; rfl)]
    have k4 : ref3_eqMethod_k4 x y = some (eqL beqT x.Traps y.Traps) := by
      unfold ref3_eqMethod_k4
      rw [show loopP (fun z => ref3_eqMethod_l5 x y z) 0 = some (cond (eqL beqT x.Traps y.Traps) (.inl ()) (.inr false)) from pair_loop h.traps.le l10 (fun i u v hu hv => by
        show ref3_eqMethod_l5 x y (i : Int) = _
        unfold ref3_eqMethod_l5
        rw [here hu, idx_nat, idx_nat, hu, hv]
        simp only [Option.bind_some, cond_true]
        unfold beqT
        cases (u.From == v.From) <;> cases (u.To == v.To) <;> cases (u.At == v.At) <;> cases (u.C == v.C) <;> rfl) (by show ref3_eqMethod_l5 x y (x.Traps.length : Int) = _; unfold ref3_eqMethod_l5; rw [past]; rfl)]
      cases eqL beqT x.Traps y.Traps <;> rfl
    have k2 : ref3_eqMethod_k2 x y = some (eqL beqMap x.Maps y.Maps && eqL beqT x.Traps y.Traps) := by
      unfold ref3_eqMethod_k2
      rw [show loopP (fun z => ref3_eqMethod_l3 x y z) 0 = some (cond (eqL beqMap x.Maps y.Maps) (.inl ()) (.inr false)) from pair_loop h.maps.le l9 (fun i u v hu hv => by
        have hm := h.maps.all u (List.mem_of_getElem? hu)
        show ref3_eqMethod_l3 x y (i : Int) = _
        unfold ref3_eqMethod_l3
        rw [here hu, idx_nat, idx_nat, hu, hv]
        simp only [Option.bind_some, cond_true]
        rw [ref3_EqTexts_eq hm.locals.le, ref3_EqTexts_eq hm.stack.le]
        unfold beqMap
        cases (u.At == v.At) <;> cases eqL beqS u.Locals v.Locals <;> cases eqL beqS u.Stack v.Stack <;> rfl) (by show ref3_eqMethod_l3 x y (x.Maps.length : Int) = _; unfold ref3_eqMethod_l3; rw [past]; rfl)]
      simp only [Option.bind_some]
      cases eqL beqMap x.Maps y.Maps with
      | false => rfl
      | true => exact k4
    unfold beqM
    rw [h1, h2, h3, h4, h5, h6, h7]
    simp only [Option.bind_some, Bool.and_true]
    cases eqL beqI x.Code y.Code with
    | false => rw [Bool.and_false]; rfl
    | true =>
      refine k2.trans ?_
      cases eqL beqMap x.Maps y.Maps <;> rfl
theorem ref3_EqClass_eq {x y : ApiClass} (h : FClass x) : ref3_EqClass x y = some (beqC x y) := by
  unfold ref3_EqClass
  rw [ref3_EqTexts_eq h.impl.le]
  rw [show (cond (((!(x.Name == y.Name)) || (!(x.Super == y.Super))) || (!(x.Interface == y.Interface))) (some true) ((some (eqL beqS x.Impl y.Impl)).bind fun v3 => some (!v3))) = some (!((((x.Name == y.Name) && (x.Super == y.Super)) && (x.Interface == y.Interface)) && eqL beqS x.Impl y.Impl)) by
    cases (x.Name == y.Name) <;> cases (x.Super == y.Super) <;> cases (x.Interface == y.Interface) <;> rfl, Option.bind_some]
  cases hc : (((!((((x.Name == y.Name) && (x.Super == y.Super)) && (x.Interface == y.Interface)) && eqL beqS x.Impl y.Impl)) || (!((List.length x.Fields : Int) == (List.length y.Fields : Int)))) || (!((List.length x.Methods : Int) == (List.length y.Methods : Int)))) with
  | true =>
    have : beqC x y = false := by
      cases hb : beqC x y with
      | false => rfl
      | true =>
        have := (beqC_iff x y).1 hb
        subst this
        rw [(eqL_iff beqS_iff).2 rfl] at hc
        simp at hc
    rw [this]; rfl
  | false =>
    simp only [Bool.or_eq_false_iff, Bool.not_eq_false', Bool.and_eq_true] at hc
    obtain ⟨⟨⟨⟨⟨h1, h2⟩, h3⟩, h4⟩, h5⟩, h6⟩ := hc
    have l5 : x.Fields.length = y.Fields.length := by have := beq_iff_eq.1 h5; omega
    have l6 : x.Methods.length = y.Methods.length := by have := beq_iff_eq.1 h6; omega
    simp only [cond_false]
    rw [show loopP (fun z => ref3_EqClass_l1 x y z) 0 = some (cond (eqL beqF x.Fields y.Fields) (.inl ()) (.inr false)) from pair_loop h.fields.le l5 (fun i u v hu hv => by
      show ref3_EqClass_l1 x y (i : Int) = _
      unfold ref3_EqClass_l1
      rw [here hu, idx_nat, idx_nat, hu, hv]
      simp only [Option.bind_some, cond_true]
      unfold beqF
      cases (u.Name == v.Name) <;> cases (u.Type_ == v.Type_) <;> cases (u.Static == v.Static) <;> rfl) (by show ref3_EqClass_l1 x y (x.Fields.length : Int) = _; unfold ref3_EqClass_l1; rw [past]; rfl)]
    have k2 : ref3_EqClass_k2 x y = some (eqL beqM x.Methods y.Methods) := by
      unfold ref3_EqClass_k2
      rw [show loopP (fun z => ref3_EqClass_l3 x y z) 0 = some (cond (eqL beqM x.Methods y.Methods) (.inl ()) (.inr false)) from pair_loop h.methods.le l6 (fun i u v hu hv => by
        show ref3_EqClass_l3 x y (i : Int) = _
        unfold ref3_EqClass_l3
        rw [here hu, idx_nat, idx_nat, hu, hv]
        simp only [Option.bind_some, cond_true]
        rw [ref3_eqMethod_eq (h.methods.all u (List.mem_of_getElem? hu))]
        rfl) (by show ref3_EqClass_l3 x y (x.Methods.length : Int) = _; unfold ref3_EqClass_l3; rw [past]; rfl)]
      cases eqL beqM x.Methods y.Methods <;> rfl
    unfold beqC
    rw [h1, h2, h3, h4]
    simp only [Option.bind_some, Bool.and_true, Bool.true_and]
    cases eqL beqF x.Fields y.Fields with
    | false => rfl
    | true => exact k2
theorem law1_Cut_eq {s : List UInt8} {n : Nat} : law1_Cut s (n : Int) = some (s.take n) := by
  unfold law1_Cut
  by_cases h : n < s.length
  · rw [decide_eq_true (show (n : Int) < (s.length : Int) by omega), cutP_to (by omega)]; rfl
  · rw [decide_eq_false (show ¬ (n : Int) < (s.length : Int) by omega), List.take_of_length_le (by omega)]; rfl
theorem take_loop {α β R : Type} {body : List β × Int → Option (Sum (List β × Int) (Sum (List β) R))} {l : List α} {n : Nat} {f : α → β} (hn : n ≤ 1000)
    (hb : ∀ acc (i : Nat) x, l[i]? = some x → i < n → acc.length = i → body (acc, (i : Int)) = some (.inl (acc ++ [f x], IntKind.i64.wrap ((i : Int) + 1))))
    (he : ∀ acc (i : Nat), (decide ((i : Int) < (l.length : Int)) && decide ((i : Int) < (n : Int))) = false → body (acc, (i : Int)) = some (.inr (.inl acc))) : loopP body ([], 0) = some (.inl ((l.take n).map f)) := by
  have key : ∀ d i, (l.take n).length - i = d → i ≤ (l.take n).length → loopP body (((l.take n).take i).map f, (i : Int)) = some (.inl ((l.take n).map f)) := by
    intro d
    induction d with
    | zero =>
      intro i hd hi
      have e : i = (l.take n).length := by omega
      rw [loopP_eq, he _ i (by
        rw [List.length_take] at e
        rw [Bool.and_eq_false_iff]
        rcases Nat.le_total n l.length with h | h
        · exact .inr (decide_eq_false (by omega))
        · exact .inl (decide_eq_false (by omega))), e, List.take_length]
      rfl
    | succ d ih =>
      intro i hd hi
      have hlt : i < (l.take n).length := by omega
      have h2 : i < n ∧ i < l.length := by rw [List.length_take] at hlt; omega
      have hx : l[i]? = some l[i] := List.getElem?_eq_getElem h2.2
      rw [loopP_eq, hb _ i l[i] hx h2.1 (by rw [List.length_map, List.length_take]; omega), wrap_succ (by omega)]
      have := ih (i + 1) (by omega) (by omega)
      rw [List.take_add_one, List.getElem?_take_of_lt h2.1, hx] at this
      simp only [Option.toList_some, List.map_append, List.map_cons, List.map_nil] at this
      exact this
  exact key _ 0 rfl (Nat.zero_le _)
theorem more {α : Type} {l : List α} {n i : Nat} {x : α} (h : l[i]? = some x) (hi : i < n) : (decide ((i : Int) < (l.length : Int)) && decide ((i : Int) < (n : Int))) = true := by
  rw [here h, decide_eq_true (by omega)]; rfl
def cutF (f : ApiField) : ApiField := ApiField.mk (f.Name.take 10) (f.Type_.take 12) f.Static
def cutI (x : ApiIns) : ApiIns := ApiIns.mk x.Op x.A (x.C.take 14) (x.M.take 12)
def cutS (n : Nat) (l : List (List UInt8)) : List (List UInt8) := (l.take n).map (·.take 12)
def cutMap (x : ApiMap) : ApiMap := ApiMap.mk x.At (cutS 20 x.Locals) (cutS 20 x.Stack)
def cutT (x : ApiTrap) : ApiTrap := ApiTrap.mk x.From x.To x.At (x.C.take 10)
def cutM (m : ApiMethod) : ApiMethod := ApiMethod.mk (m.Name.take 10) (cutS 8 m.Params) (m.Ret.take 12) m.Static m.Abstract m.Locals m.Stack ((m.Code.take 104).map cutI) ((m.Maps.take 104).map cutMap) ((m.Traps.take 8).map cutT)
def cutC (c : ApiClass) : ApiClass := ApiClass.mk (c.Name.take 10) (c.Super.take 10) c.Interface (cutS 6 c.Impl) ((c.Fields.take 10).map cutF) ((c.Methods.take 10).map cutM)
theorem law5_texts_eq {l : List (List UInt8)} {n : Nat} (hn : n ≤ 100) : law5_texts l (n : Int) = some (cutS n l) := by
  unfold law5_texts
  rw [show loopP (fun z => law5_texts_l1 l (n : Int) z.1 z.2) ([], 0) = some (.inl (cutS n l)) from take_loop (by omega) (fun acc i x hx hi ha => by
    show law5_texts_l1 l (n : Int) acc (i : Int) = _
    unfold law5_texts_l1
    rw [more hx hi, idx_nat, hx]
    simp only [Option.bind_some, cond_true]
    rw [show law1_Cut x 12 = _ from law1_Cut_eq (n := 12), Option.bind_some, appP_ok (by simp; omega) (by simp; omega)]; rfl) (fun acc i h => by
    show law5_texts_l1 l (n : Int) acc (i : Int) = _
    unfold law5_texts_l1
    rw [h]; rfl)]
  rfl
theorem law4_Cut_eq (x : ApiIns) : law4_Cut x = some (cutI x) := by
  unfold law4_Cut
  rw [show law1_Cut x.C 14 = _ from law1_Cut_eq (n := 14), show law1_Cut x.M 12 = _ from law1_Cut_eq (n := 12)]; rfl
theorem law5_method_eq (m : ApiMethod) : law5_method m = some (cutM m) := by
  unfold law5_method
  rw [show law1_Cut m.Name 10 = _ from law1_Cut_eq (n := 10), show law1_Cut m.Ret 12 = _ from law1_Cut_eq (n := 12), show law5_texts m.Params 8 = _ from law5_texts_eq (n := 8) (by decide)]
  simp only [Option.bind_some]
  rw [show loopP (fun z => law5_method_l1 m z.1 z.2) ([], 0) = some (.inl ((m.Code.take 104).map cutI)) from take_loop (by decide) (fun acc i x hx hi ha => by
    show law5_method_l1 m acc (i : Int) = _
    unfold law5_method_l1
    rw [show (decide ((i : Int) < (m.Code.length : Int)) && decide ((i : Int) < 104)) = true from more hx hi, idx_nat, hx]
    simp only [Option.bind_some, cond_true]
    rw [law4_Cut_eq, Option.bind_some, appP_ok (by simp; omega) (by simp; omega)]; rfl) (fun acc i h => by
    show law5_method_l1 m acc (i : Int) = _
    unfold law5_method_l1
    rw [show (decide ((i : Int) < (m.Code.length : Int)) && decide ((i : Int) < 104)) = false from h]; rfl)]
  simp only [Option.bind_some]
  show law5_method_k2 m _ _ _ _ = _
  unfold law5_method_k2
  rw [show loopP (fun z => law5_method_l3 m z.1 z.2) ([], 0) = some (.inl ((m.Maps.take 104).map cutMap)) from take_loop (by decide) (fun acc i x hx hi ha => by
    show law5_method_l3 m acc (i : Int) = _
    unfold law5_method_l3
    rw [show (decide ((i : Int) < (m.Maps.length : Int)) && decide ((i : Int) < 104)) = true from more hx hi, idx_nat, hx]
    simp only [Option.bind_some, cond_true]
    rw [show law5_texts x.Locals 20 = _ from law5_texts_eq (n := 20) (by decide), show law5_texts x.Stack 20 = _ from law5_texts_eq (n := 20) (by decide)]
    simp only [Option.bind_some]
    rw [appP_ok (by simp; omega) (by simp; omega)]; rfl) (fun acc i h => by
    show law5_method_l3 m acc (i : Int) = _
    unfold law5_method_l3
    rw [show (decide ((i : Int) < (m.Maps.length : Int)) && decide ((i : Int) < 104)) = false from h]; rfl)]
  simp only [Option.bind_some]
  show law5_method_k4 m _ _ _ _ _ = _
  unfold law5_method_k4
  rw [show loopP (fun z => law5_method_l5 m z.1 z.2) ([], 0) = some (.inl ((m.Traps.take 8).map cutT)) from take_loop (by decide) (fun acc i x hx hi ha => by
    show law5_method_l5 m acc (i : Int) = _
    unfold law5_method_l5
    rw [show (decide ((i : Int) < (m.Traps.length : Int)) && decide ((i : Int) < 8)) = true from more hx hi, idx_nat, hx]
    simp only [Option.bind_some, cond_true]
    rw [show law1_Cut x.C 10 = _ from law1_Cut_eq (n := 10), Option.bind_some, appP_ok (by simp; omega) (by simp; omega)]; rfl) (fun acc i h => by
    show law5_method_l5 m acc (i : Int) = _
    unfold law5_method_l5
    rw [show (decide ((i : Int) < (m.Traps.length : Int)) && decide ((i : Int) < 8)) = false from h]; rfl)]
  rfl
theorem law5_Cut_eq (c : ApiClass) : law5_Cut c = some ((cutC c).Name, (cutC c).Super, (cutC c).Impl, (cutC c).Fields, (cutC c).Methods) := by
  unfold law5_Cut
  rw [show law1_Cut c.Name 10 = _ from law1_Cut_eq (n := 10), show law1_Cut c.Super 10 = _ from law1_Cut_eq (n := 10), show law5_texts c.Impl 6 = _ from law5_texts_eq (n := 6) (by decide)]
  simp only [Option.bind_some]
  rw [show loopP (fun z => law5_Cut_l1 c z.1 z.2) ([], 0) = some (.inl ((c.Fields.take 10).map cutF)) from take_loop (by decide) (fun acc i x hx hi ha => by
    show law5_Cut_l1 c acc (i : Int) = _
    unfold law5_Cut_l1
    rw [show (decide ((i : Int) < (c.Fields.length : Int)) && decide ((i : Int) < 10)) = true from more hx hi, idx_nat, hx]
    simp only [Option.bind_some, cond_true]
    rw [show law1_Cut x.Name 10 = _ from law1_Cut_eq (n := 10), show law1_Cut x.Type_ 12 = _ from law1_Cut_eq (n := 12)]
    simp only [Option.bind_some]
    rw [appP_ok (by simp; omega) (by simp; omega)]; rfl) (fun acc i h => by
    show law5_Cut_l1 c acc (i : Int) = _
    unfold law5_Cut_l1
    rw [show (decide ((i : Int) < (c.Fields.length : Int)) && decide ((i : Int) < 10)) = false from h]; rfl)]
  simp only [Option.bind_some]
  show law5_Cut_k2 c _ _ _ _ = _
  unfold law5_Cut_k2
  rw [show loopP (fun z => law5_Cut_l3 c z.1 z.2) ([], 0) = some (.inl ((c.Methods.take 10).map cutM)) from take_loop (by decide) (fun acc i x hx hi ha => by
    show law5_Cut_l3 c acc (i : Int) = _
    unfold law5_Cut_l3
    rw [show (decide ((i : Int) < (c.Methods.length : Int)) && decide ((i : Int) < 10)) = true from more hx hi, idx_nat, hx]
    simp only [Option.bind_some, cond_true]
    rw [law5_method_eq, Option.bind_some, appP_ok (by simp; omega) (by simp; omega)]; rfl) (fun acc i h => by
    show law5_Cut_l3 c acc (i : Int) = _
    unfold law5_Cut_l3
    rw [show (decide ((i : Int) < (c.Methods.length : Int)) && decide ((i : Int) < 10)) = false from h]; rfl)]
  rfl
theorem i64_w {n : Int} (h : wI .i64 n) : I64 n := by
  have h : (Lit.int .i64 n).wf = true := h
  unfold Lit.wf at h
  simp [IntKind.min, IntKind.max, IntKind.bits, IntKind.signed] at h
  exact ⟨by omega, by omega⟩
theorem FS.take (s : List UInt8) {n : Nat} (hn : n ≤ 100) : FS (s.take n) := by unfold FS; rw [List.length_take]; omega
theorem cutS_in {l : List (List UInt8)} {n : Nat} (hn : n ≤ 100) : FL FS (cutS n l) := by
  refine ⟨by unfold cutS; rw [List.length_map, List.length_take]; omega, fun x hx => ?_⟩
  obtain ⟨y, _, rfl⟩ := List.mem_map.1 hx
  exact FS.take y (by decide)
theorem cutL_in {α : Type} {Q : α → Prop} {l : List α} {f : α → α} {n : Nat} (hn : n ≤ 200) (h : ∀ x ∈ l, Q (f x)) : FL Q ((l.take n).map f) := by
  refine ⟨by rw [List.length_map, List.length_take]; omega, fun x hx => ?_⟩
  obtain ⟨y, hy, rfl⟩ := List.mem_map.1 hx
  exact h y (List.mem_of_mem_take hy)
theorem cutM_in {m : ApiMethod} (h : wApiMethod m) : FMeth (cutM m) := by
  obtain ⟨_, _, _, _, _, h1, h2, h3, h4, h5⟩ := h
  exact ⟨FS.take _ (by decide), cutS_in (by decide), FS.take _ (by decide), i64_w h1, i64_w h2,
    cutL_in (by decide) fun x hx => ⟨i64_w (h3.2 x hx).1, i64_w (h3.2 x hx).2.1, FS.take _ (by decide), FS.take _ (by decide)⟩,
    cutL_in (by decide) fun x hx => ⟨i64_w (h4.2 x hx).1, cutS_in (by decide), cutS_in (by decide)⟩,
    cutL_in (by decide) fun x hx => ⟨i64_w (h5.2 x hx).1, i64_w (h5.2 x hx).2.1, i64_w (h5.2 x hx).2.2.1, FS.take _ (by decide)⟩⟩
theorem cutC_in {c : ApiClass} (h : wApiClass c) : FClass (cutC c) := by
  obtain ⟨_, _, _, _, _, h1⟩ := h
  exact ⟨FS.take _ (by decide), FS.take _ (by decide), cutS_in (by decide), cutL_in (by decide) fun x hx => ⟨FS.take _ (by decide), FS.take _ (by decide)⟩, cutL_in (by decide) fun x hx => cutM_in (h1.2 x hx)⟩
def allC (l : List ApiClass) : List ApiClass := (l.take 18).map cutC
theorem law5_All_eq (l : List ApiClass) : law5_All l = some (allC l) := by
  unfold law5_All
  rw [show loopP (fun z => law5_All_l1 l z.1 z.2) ([], 0) = some (.inl (allC l)) from take_loop (by decide) (fun acc i x hx hi ha => by
    show law5_All_l1 l acc (i : Int) = _
    unfold law5_All_l1
    rw [show (decide ((i : Int) < (l.length : Int)) && decide ((i : Int) < 18)) = true from more hx hi, idx_nat, hx]
    simp only [Option.bind_some, cond_true]
    rw [law5_Cut_eq, Option.bind_some, appP_ok (by simp; omega) (by simp; omega)]; rfl) (fun acc i h => by
    show law5_All_l1 l acc (i : Int) = _
    unfold law5_All_l1
    rw [show (decide ((i : Int) < (l.length : Int)) && decide ((i : Int) < 18)) = false from h]; rfl)]
  rfl
structure Short (c : ApiClass) : Prop where
  fc : FClass c
  name : c.Name.length ≤ 10
  super : c.Super.length ≤ 10
  impl : ∀ s ∈ c.Impl, s.length ≤ 12
theorem cutC_short {c : ApiClass} (h : wApiClass c) : Short (cutC c) := by
  refine ⟨cutC_in h, ?_, ?_, fun s hs => ?_⟩
  · show (c.Name.take 10).length ≤ 10; rw [List.length_take]; omega
  · show (c.Super.take 10).length ≤ 10; rw [List.length_take]; omega
  · obtain ⟨y, _, rfl⟩ := List.mem_map.1 (show s ∈ (c.Impl.take 6).map (·.take 12) from hs)
    rw [List.length_take]; omega
theorem allC_short {l : List ApiClass} (h : ∀ c ∈ l, wApiClass c) : ∀ c ∈ allC l, Short c := fun c hc => by
  obtain ⟨d, hd, rfl⟩ := List.mem_map.1 hc
  exact cutC_short (h d (List.mem_of_mem_take hd))
theorem allC_cg {l : List ApiClass} (h : ∀ c ∈ l, wApiClass c) : ∀ c ∈ allC l, CGIn c := fun c hc => (allC_short h c hc).fc.cg
end Go.Proofs.YtooagifeniibcaaGreat
namespace Go.Proofs.YtooagifeniibcaaGreat
set_option linter.unusedSimpArgs false
set_option linter.unusedVariables false
theorem all_loop {α R : Type} {body : Int → Option (Sum Int (Sum Unit R))} {l : List α}
    (hb : ∀ (i : Nat) x, l[i]? = some x → body (i : Int) = some (.inl ((i + 1 : Nat) : Int)))
    (he : body (l.length : Int) = some (.inr (.inl ()))) : loopP body 0 = some (.inl ()) := by
  have := loop_list (body := body) (l := l) (g := fun _ => none) (u := ()) (fun i x hx => hb i x hx) he
  rw [this]
  have : l.findSome? (fun _ => (none : Option R)) = none := by
    induction l with
    | nil => rfl
    | cons x l ih => simp
  rw [this]; rfl
section
variable {l L : List ApiClass} {m : List (Tx × Int)}
end
end Go.Proofs.YtooagifeniibcaaGreat
namespace Go.Proofs.YtooagifeniibcaaGreat
set_option linter.unusedSimpArgs false
set_option linter.unusedVariables false
section
variable {l L : List ApiClass} {m : List (Tx × Int)}
theorem giv_fc : ∀ c ∈ giv, FClass c := by
  intro c hc
  have hg : giv.all (fun c => decide (c.Name.length ≤ 10) && decide (c.Super.length ≤ 10) && (c.Impl == []) && decide (c.Fields.length = 0) && decide (c.Methods.length = 0)) = true := by decide +kernel
  have := List.all_eq_true.1 hg c hc
  simp only [Bool.and_eq_true, decide_eq_true_eq, beq_iff_eq] at this
  obtain ⟨⟨⟨⟨h1, h2⟩, h3⟩, h4⟩, h5⟩ := this
  refine ⟨by unfold FS; omega, by unfold FS; omega, ⟨by rw [h3]; simp, fun s hs => by rw [h3] at hs; cases hs⟩, ⟨by omega, fun s hs => ?_⟩, ⟨by omega, fun s hs => ?_⟩⟩
  · rw [List.eq_nil_of_length_eq_zero h4] at hs; cases hs
  · rw [List.eq_nil_of_length_eq_zero h5] at hs; cases hs
theorem made_fc (h : Made l L) (hs : ∀ c ∈ l, FClass c) : ∀ c ∈ L, FClass c := by
  intro c hc
  rw [h.app] at hc
  rcases List.mem_append.1 hc with e | e
  · exact giv_fc c e
  · exact hs c e
theorem names_eq (hL : L.length ≤ 30) : hier_Hier_Names (some (HierHier.mk L m)) = some (L.map (·.Name)) := by
  show ((loopP (fun z => hier_Hier_Names_l1 (HierHier.mk L m) z.1 z.2) ([], 0)).bind fun o => leave o (fun b => hier_Hier_Names_k2 b) some) = _
  have key : ∀ (r pre : List ApiClass), L = pre ++ r → loopP (fun z => hier_Hier_Names_l1 (HierHier.mk L m) z.1 z.2) (pre.map (·.Name), (pre.length : Int)) = some (.inl (L.map (·.Name))) := by
    intro r
    induction r with
    | nil =>
      intro pre e
      rw [List.append_nil] at e
      rw [loopP_eq]
      show (hier_Hier_Names_l1 (HierHier.mk L m) (pre.map (·.Name)) (pre.length : Int)).bind _ = _
      unfold hier_Hier_Names_l1
      rw [← e, past]; rfl
    | cons c r ih =>
      intro pre e
      have hlen : L.length = pre.length + (r.length + 1) := by rw [e]; simp
      have hx : L[pre.length]? = some c := by rw [e]; simp
      have ih := ih (pre ++ [c]) (by rw [e]; simp)
      rw [show (pre ++ [c]).length = pre.length + 1 by simp] at ih
      rw [loopP_eq]
      show (hier_Hier_Names_l1 (HierHier.mk L m) (pre.map (·.Name)) (pre.length : Int)).bind _ = _
      unfold hier_Hier_Names_l1
      rw [show decide ((pre.length : Int) < ((HierHier.mk L m).l.length : Int)) = true from here hx, show idx (HierHier.mk L m).l (pre.length : Int) = some c from by rw [idx_nat]; exact hx]
      simp only [cond_true, Option.bind_some]
      rw [appP_ok (by simp; omega) (by simp; omega), wrap_succ (by omega)]
      show loopP (fun z => hier_Hier_Names_l1 (HierHier.mk L m) z.1 z.2) (pre.map (·.Name) ++ [c.Name], ((pre.length + 1 : Nat) : Int)) = _
      rw [List.map_append] at ih
      exact ih
  rw [show loopP (fun z => hier_Hier_Names_l1 (HierHier.mk L m) z.1 z.2) ([], 0) = _ from key L [] rfl]
  rfl
def zC : ApiClass := ApiClass.mk [] [] false [] [] []
theorem class_eq (hm : MapOk L m) (n : Tx) : hier_Hier_Class (some (HierHier.mk L m)) n = some (match cl L n with | some c => (c, true) | none => (zC, false)) := by
  show cond (!(hier_Hier_has L m n)) (some (zC, false)) ((hier_Hier_get L m n).bind fun v4 => some (v4, true)) = _
  unfold hier_Hier_has
  rw [hm.has]
  cases hc : cl L n with
  | none => rw [has_not hc]; rfl
  | some c => rw [has_of hc, get_eq hm (has_of hc), hc]; rfl
theorem eqT_self {a : List Tx} (h : a.length ≤ 1000) : ref3_EqTexts a a = some true := by
  rw [ref3_EqTexts_eq (by unfold LenL; omega)]
  congr 1
  exact (eqL_iff beqS_iff).2 rfl
theorem eqC_self {c : ApiClass} (h : FClass c) : ref3_EqClass c c = some true := by
  rw [ref3_EqClass_eq h]
  congr 1
  exact (beqC_iff c c).2 rfl
theorem zC_fc : FClass zC := ⟨by decide, by decide, ⟨by decide, fun x hx => by cases hx⟩, ⟨by decide, fun x hx => by cases hx⟩, ⟨by decide, fun x hx => by cases hx⟩⟩
end
theorem law7_HierAll_eq {l : List ApiClass} (hl : ∀ c ∈ l, wApiClass c) (x : Tx) : law7_HierAll l x = some true := by
  have hs := allC_short hl
  obtain ⟨m, hm, hN⟩ := hier_New_eq (allC_cg hl)
  unfold law7_HierAll
  rw [law5_All_eq]
  simp only [Bool.not_true, cond_false, Option.bind_some]
  rw [hN, ref7_New_eq (allC_cg hl)]
  simp only [Option.bind_some]
  rw [beq_self_eq_true]
  cases hE : (newE (allC l)).1 with
  | none => rfl
  | some L =>
    obtain ⟨hM, hz⟩ := newE_made hE
    have hfc := made_fc hM (fun c hc => (hs c hc).fc)
    have h26 := hM.len
    have hmp := hm L hE
    simp only [Option.map_some, Option.isNone_some, Bool.not_true, Bool.or_self, cond_false, beq_self_eq_true]
    rw [names_eq (by omega)]
    simp only [Option.bind_some]
    show cond (!((((L.map (·.Name)).length : Nat) : Int) == (L.length : Int))) (some false) _ = _
    rw [List.length_map, beq_self_eq_true]
    simp only [Bool.not_true, cond_false]
    rw [show loopP (fun z => law7_HierAll_l3 (some (HierHier.mk L m), (newE (allC l)).2) (L.map (·.Name)) (Ref7Hier.mk L) z) 0 = some (.inl ()) from all_loop (l := L) (fun i c hc => by
      have hi := (List.getElem?_eq_some_iff.1 hc).1
      have hcm := List.mem_of_getElem? hc
      have hcl := hM.nd.cl hcm
      have s1 := supL_len hM c.Name
      have s2 := faces_len hM c.Name
      show law7_HierAll_l3 _ _ _ (i : Int) = _
      unfold law7_HierAll_l3
      rw [List.length_map, here hc, idx_nat, List.getElem?_map, hc]
      simp only [Option.map_some, cond_true, Option.bind_some]
      rw [class_eq hmp, hcl, idx_nat, hc]
      simp only [Option.bind_some]
      rw [eqC_self (hfc c hcm), supers3_eq hM hmp, ref_supers_eq hM]
      simp only [Option.bind_some, beq_self_eq_true, Bool.not_true, cond_false]
      rw [eqT_self (by omega), faces_eq hM hmp, ref_faces_eq hM]
      simp only [Option.bind_some, Bool.not_true, cond_false]
      rw [eqT_self (by omega)]
      simp only [Option.bind_some]
      unfold law7_HierAll_j2
      rw [wrap_succ (by omega)]
      rfl) (by
      show law7_HierAll_l3 _ _ _ (L.length : Int) = _
      unfold law7_HierAll_l3
      rw [List.length_map, past]; rfl)]
    simp only [Option.bind_some, leave]
    unfold law7_HierAll_k4
    rw [show law1_Cut x 12 = _ from law1_Cut_eq (n := 12)]
    simp only [Option.bind_some]
    rw [class_eq hmp, at_eq (by omega)]
    simp only [Option.bind_some]
    rw [at_has]
    cases hcl : cl L (x.take 12) with
    | some c => rw [has_of hcl]; rfl
    | none =>
      rw [has_not hcl, supers3_eq hM hmp, faces_eq hM hmp, supL_none (has_not hcl), facesL_none (has_not hcl)]
      simp only [beq_self_eq_true, cond_true, cond_false]
      rw [show ref3_EqClass zC (ApiClass.mk [] [] false [] [] []) = some true from eqC_self zC_fc]
      rfl
theorem hierAll_pure (l : List ApiClass) (x : List UInt8) (h : wL wApiClass l) (_ : wS x) : PureC Tryz.prog 8 [.isl 6 (List.map rApiClass l), .lit (.string (B x))] (.lit (.bool true)) := law7_HierAll_ok l x (law7_HierAll_eq h.2 x)
end Go.Proofs.YtooagifeniibcaaGreat
