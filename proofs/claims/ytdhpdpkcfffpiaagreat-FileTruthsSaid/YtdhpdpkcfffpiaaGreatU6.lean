/- FileTruths: for every input the law returns true, and each argument reads as it read before. No further condition. Part 6 of 7. -/
import Derived.Test.YtdhpdpkcfffpiaaGreatU5
namespace Go.Proofs.YtdhpdpkcfffpiaaGreat
set_option linter.unusedSimpArgs false
set_option linter.unusedVariables false
inductive Tok where
  | n (x : Int)
  | t (s : List UInt8)
abbrev FS (s : List UInt8) : Prop := s.length ≤ 10000
def TkIn : Tok → Prop
  | .n x => I64 x
  | .t s => FS s
structure FL {α : Type} (Q : α → Prop) (l : List α) : Prop where
  len : l.length ≤ 10000
  all : ∀ x ∈ l, Q x
structure FField (f : ApiField) : Prop where
  name : FS f.Name
  type : FS f.Type_
structure FIns (x : ApiIns) : Prop where
  op : I64 x.Op
  a : I64 x.A
  c : FS x.C
  m : FS x.M
structure FMap (x : ApiMap) : Prop where
  pl : I64 x.At
  locals : FL FS x.Locals
  stack : FL FS x.Stack
structure FTrap (x : ApiTrap) : Prop where
  lo : I64 x.From
  hi : I64 x.To
  pl : I64 x.At
  c : FS x.C
structure FMeth (m : ApiMethod) : Prop where
  name : FS m.Name
  params : FL FS m.Params
  ret : FS m.Ret
  locals : I64 m.Locals
  stack : I64 m.Stack
  code : FL FIns m.Code
  maps : FL FMap m.Maps
  traps : FL FTrap m.Traps
structure FClass (c : ApiClass) : Prop where
  name : FS c.Name
  super : FS c.Super
  impl : FL FS c.Impl
  fields : FL FField c.Fields
  methods : FL FMeth c.Methods
def tkB (b : Bool) : Tok := .n (cond b 1 0)
def tkS (s : List UInt8) : List Tok := [.t s]
def tkL {α : Type} (f : α → List Tok) (l : List α) : List Tok := .n (l.length : Int) :: l.flatMap f
def tkField (f : ApiField) : List Tok := [.t f.Name, .t f.Type_, tkB f.Static]
def tkIns (x : ApiIns) : List Tok := [.n x.Op, .n x.A, .t x.C, .t x.M]
def tkMap (x : ApiMap) : List Tok := .n x.At :: (tkL tkS x.Locals ++ tkL tkS x.Stack)
def tkTrap (x : ApiTrap) : List Tok := [.n x.From, .n x.To, .n x.At, .t x.C]
def tkMeth (m : ApiMethod) : List Tok :=
  .t m.Name :: (tkL tkS m.Params ++ (.t m.Ret :: tkB m.Static :: tkB m.Abstract :: .n m.Locals :: .n m.Stack :: (tkL tkIns m.Code ++ (tkL tkMap m.Maps ++ tkL tkTrap m.Traps))))
def tkClass (c : ApiClass) : List Tok :=
  .t c.Name :: .t c.Super :: tkB c.Interface :: (tkL tkS c.Impl ++ (tkL tkField c.Fields ++ tkL tkMeth c.Methods))
abbrev W := List (List UInt8) × List UInt8
def ixN (p : List (List UInt8)) (s : List UInt8) : Nat := p.findIdx (fun y => s == y)
def insP (p : List (List UInt8)) (s : List UInt8) : List (List UInt8) := cond (decide (ixN p s < p.length)) p (p ++ [s])
def wr1 (w : W) : Tok → W
  | .n x => (w.1, w.2 ++ put x)
  | .t s => (insP w.1 s, w.2 ++ put (ixN w.1 s : Int))
def wrT (w : W) (l : List Tok) : W := l.foldl wr1 w
theorem wrT_app (w : W) (a b : List Tok) : wrT w (a ++ b) = wrT (wrT w a) b := List.foldl_append
theorem wrT_cons (w : W) (t : Tok) (b : List Tok) : wrT w (t :: b) = wrT (wr1 w t) b := rfl
def Fits (w : W) (k : Nat) : Prop := w.1.length + k ≤ 1000000000 ∧ w.2.length + 10 * k ≤ 10000000000
theorem insP_len (p : List (List UInt8)) (s : List UInt8) : (insP p s).length ≤ p.length + 1 := by
  unfold insP; cases decide (ixN p s < p.length) <;> simp
theorem Fits.one {w : W} {k : Nat} (h : Fits w (k + 1)) (t : Tok) : Fits (wr1 w t) k := by
  obtain ⟨h1, h2⟩ := h
  cases t with
  | n x => have := put_length x; refine ⟨?_, ?_⟩ <;> simp only [wr1, List.length_append] <;> omega
  | t s => have := put_length (ixN w.1 s : Int); have := insP_len w.1 s; refine ⟨?_, ?_⟩ <;> simp only [wr1, List.length_append] <;> omega
theorem Fits.app {w : W} : ∀ {a : List Tok} {k : Nat}, Fits w (a.length + k) → Fits (wrT w a) k := by
  intro a
  induction a generalizing w with
  | nil => intro k h; simpa [wrT] using h
  | cons t a ih => intro k h; exact ih (Fits.one (by simpa [Nat.add_right_comm, Nat.add_assoc, Nat.add_comm 1 k] using h) t)
theorem Fits.less {w : W} {k j : Nat} (h : Fits w k) (hj : j ≤ k) : Fits w j := ⟨by have := h.1; omega, by have := h.2; omega⟩
theorem ixF_ixN (s : List UInt8) : ∀ (l : List (List UInt8)) (k : Nat), ixF (fun y => s == y) k l = cond (decide (ixN l s < l.length)) ((k + ixN l s : Nat) : Int) (-1)
  | [], k => rfl
  | x :: l, k => by
    unfold ixF ixN
    rw [List.findIdx_cons]
    cases hx : (s == x) with
    | true => simp
    | false =>
      simp only [cond_false]
      rw [ixF_ixN s l (k + 1)]
      unfold ixN
      have e : decide (List.findIdx (fun y => s == y) l + 1 < (x :: l).length) = decide (List.findIdx (fun y => s == y) l < l.length) := decide_eq_decide.2 (by simp)
      rw [e]
      cases decide (List.findIdx (fun y => s == y) l < l.length) with
      | true => simp only [cond_true]; congr 1; omega
      | false => rfl
theorem ixN_le (p : List (List UInt8)) (s : List UInt8) : ixN p s ≤ p.length := List.findIdx_le_length
theorem fold_loop {R α : Type} {body : List (List UInt8) × List UInt8 × Int → Option (Sum (List (List UInt8) × List UInt8 × Int) (Sum W R))} {l : List α} {f : α → List Tok} (hl : l.length ≤ 1000000000)
    (hb : ∀ (w : W) (i : Nat) x, l[i]? = some x → Fits w (f x).length → body (w.1, w.2, (i : Int)) = some (.inl ((wrT w (f x)).1, (wrT w (f x)).2, IntKind.i64.wrap ((i : Int) + 1))))
    (he : ∀ w : W, body (w.1, w.2, (l.length : Int)) = some (.inr (.inl (w.1, w.2)))) (w : W) (hw : Fits w (l.flatMap f).length) : loopP body (w.1, w.2, 0) = some (.inl (wrT w (l.flatMap f))) := by
  have key : ∀ d i (w : W), l.length - i = d → i ≤ l.length → Fits w ((l.drop i).flatMap f).length → loopP body (w.1, w.2, (i : Int)) = some (.inl (wrT w ((l.drop i).flatMap f))) := by
    intro d
    induction d with
    | zero =>
      intro i w hd hi hf
      have : i = l.length := by omega
      subst this
      rw [loopP_eq, he, List.drop_length]
      rfl
    | succ d ih =>
      intro i w hd hi hf
      have hlt : i < l.length := by omega
      rw [List.drop_eq_getElem_cons hlt, List.flatMap_cons, List.length_append] at hf
      rw [loopP_eq, hb w i l[i] (List.getElem?_eq_getElem hlt) (hf.less (by omega)), wrap_succ (by omega), List.drop_eq_getElem_cons hlt, List.flatMap_cons, wrT_app]
      exact ih (i + 1) _ (by omega) (by omega) hf.app
  exact key _ 0 w rfl (Nat.zero_le _) (by simpa using hw)
theorem w_num {w : W} {x : Int} (h : I64 x) (hf : Fits w 1) : file_writer_num w.1 w.2 x = some (wr1 w (.n x)).2 := by
  unfold file_writer_num
  rw [num_Put_eq h (by have := hf.2; omega)]; rfl
theorem w_len {w : W} {n : Nat} (h : n ≤ 1000000000) (hf : Fits w 1) : file_writer_num w.1 w.2 (n : Int) = some (wr1 w (.n (n : Int))).2 := w_num ⟨by omega, by omega⟩ hf
theorem w_truth {w : W} {b : Bool} (hf : Fits w 1) : file_writer_truth w.1 w.2 b = some (wr1 w (tkB b)).2 := by
  unfold file_writer_truth
  cases b with
  | true => rw [w_num (by decide) hf]; rfl
  | false => rw [w_num (x := 0) (by decide) hf]; rfl
theorem slicesIndex_eq {l : List (List UInt8)} (hl : LenL l) (n : List UInt8) : slices_Index_string_string l n = some (ixF (fun y => n == y) 0 l) := by
  unfold slices_Index_string_string
  exact index_loop (p := fun y : List UInt8 => n == y) hl (fun i x hx => by unfold slices_Index_string_string_l1; rw [here hx, idx_nat, hx]; rfl) (by unfold slices_Index_string_string_l1; rw [past]; rfl)
theorem w_text {w : W} {s : List UInt8} (hf : Fits w 1) : file_writer_text w.1 w.2 s = some (wr1 w (.t s)) := by
  obtain ⟨h1, h2⟩ := hf
  unfold file_writer_text
  rw [slicesIndex_eq (by unfold LenL; omega), ixF_ixN]
  simp only [Option.bind_some, Nat.zero_add]
  have hle := ixN_le w.1 s
  unfold wr1 insP
  cases hd : decide (ixN w.1 s < w.1.length) with
  | true =>
    simp only [cond_true]
    rw [decide_eq_false (show ¬ ((ixN w.1 s : Int) < 0) by omega)]
    unfold file_writer_text_j1 file_writer_num
    simp only [cond_false]
    rw [num_Put_eq ⟨by omega, by omega⟩ (by omega)]
    show _ = some (cond (decide (ixN w.1 s < w.1.length)) w.1 (w.1 ++ [s]), w.2 ++ put (ixN w.1 s : Int))
    rw [hd]; rfl
  | false =>
    simp only [cond_false]
    rw [decide_eq_true (show (-1 : Int) < 0 by decide), appP_ok (by simp; omega) (by simp; omega)]
    have hh := of_decide_eq_false hd
    have e : ixN w.1 s = w.1.length := by omega
    unfold file_writer_text_j1 file_writer_num
    simp only [cond_true, Option.bind_some]
    rw [num_Put_eq ⟨by omega, by omega⟩ (by omega)]
    show _ = some (cond (decide (ixN w.1 s < w.1.length)) w.1 (w.1 ++ [s]), w.2 ++ put (ixN w.1 s : Int))
    rw [hd, e]; rfl
theorem w_strings {w : W} {l : List (List UInt8)} (hl : FL FS l) (hf : Fits w (tkL tkS l).length) : file_list_string w.1 w.2 l = some (wrT w (tkL tkS l)) := by
  have hll := hl.len
  unfold file_list_string
  rw [w_len (by omega) (hf.less (by simp [tkL]))]
  simp only [Option.bind_some]
  rw [show loopP (fun z => file_list_string_l1 l z.1 z.2.1 z.2.2) (w.1, (wr1 w (.n (l.length : Int))).2, 0) = some (.inl (wrT (wr1 w (.n (l.length : Int))) (l.flatMap tkS))) from
    fold_loop (by omega) (fun w i x hx hfx => by
      show file_list_string_l1 l w.1 w.2 (i : Int) = _
      unfold file_list_string_l1
      rw [here hx, idx_nat, hx]
      simp only [Option.bind_some, cond_true]
      rw [w_text hfx]; rfl) (fun w => by show file_list_string_l1 l w.1 w.2 (l.length : Int) = _; unfold file_list_string_l1; rw [past]; rfl) (wr1 w (.n (l.length : Int))) (Fits.one (by simpa [tkL, Nat.add_comm] using hf) _)]
  rfl
theorem w_field {w : W} {f : ApiField} (hf : Fits w (tkField f).length) : file_writer_field w.1 w.2 f = some (wrT w (tkField f)) := by
  have f1 := Fits.one (k := 2) hf (.t f.Name)
  have f2 := Fits.one (k := 1) f1 (.t f.Type_)
  unfold file_writer_field
  rw [w_text (hf.less (by simp [tkField]))]
  simp only [Option.bind_some]
  rw [w_text (f1.less (by omega))]
  simp only [Option.bind_some]
  rw [w_truth f2]
  rfl
theorem w_ins {w : W} {x : ApiIns} (hx : FIns x) (hf : Fits w (tkIns x).length) : file_writer_ins w.1 w.2 x = some (wrT w (tkIns x)) := by
  have f1 := Fits.one (k := 3) hf (.n x.Op)
  have f2 := Fits.one (k := 2) f1 (.n x.A)
  have f3 := Fits.one (k := 1) f2 (.t x.C)
  unfold file_writer_ins
  rw [w_num hx.op (hf.less (by simp [tkIns]))]
  simp only [Option.bind_some]
  rw [show file_writer_num w.1 (wr1 w (.n x.Op)).2 x.A = _ from w_num (w := wr1 w (.n x.Op)) hx.a (f1.less (by omega))]
  simp only [Option.bind_some]
  rw [show file_writer_text w.1 (wr1 (wr1 w (.n x.Op)) (.n x.A)).2 x.C = _ from w_text (w := wr1 (wr1 w (.n x.Op)) (.n x.A)) (f2.less (by omega))]
  simp only [Option.bind_some]
  rw [w_text f3]
  rfl
theorem w_trap {w : W} {x : ApiTrap} (hx : FTrap x) (hf : Fits w (tkTrap x).length) : file_writer_trap w.1 w.2 x = some (wrT w (tkTrap x)) := by
  have f1 := Fits.one (k := 3) hf (.n x.From)
  have f2 := Fits.one (k := 2) f1 (.n x.To)
  have f3 := Fits.one (k := 1) f2 (.n x.At)
  unfold file_writer_trap
  rw [w_num hx.lo (hf.less (by simp [tkTrap]))]
  simp only [Option.bind_some]
  rw [show file_writer_num w.1 (wr1 w (.n x.From)).2 x.To = _ from w_num (w := wr1 w (.n x.From)) hx.hi (f1.less (by omega))]
  simp only [Option.bind_some]
  rw [show file_writer_num w.1 (wr1 (wr1 w (.n x.From)) (.n x.To)).2 x.At = _ from w_num (w := wr1 (wr1 w (.n x.From)) (.n x.To)) hx.pl (f2.less (by omega))]
  simp only [Option.bind_some]
  rw [show file_writer_text w.1 (wr1 (wr1 (wr1 w (.n x.From)) (.n x.To)) (.n x.At)).2 x.C = _ from w_text (w := wr1 (wr1 (wr1 w (.n x.From)) (.n x.To)) (.n x.At)) f3]
  rfl
theorem Fits.left {w : W} {a b : List Tok} (h : Fits w (a ++ b).length) : Fits w a.length := h.less (by simp)
theorem Fits.right {w : W} {a b : List Tok} (h : Fits w (a ++ b).length) : Fits (wrT w a) b.length := Fits.app (by rwa [List.length_append] at h)
theorem Fits.head {w : W} {t : Tok} {b : List Tok} (h : Fits w (t :: b).length) : Fits w 1 := h.less (by simp)
theorem Fits.tail {w : W} {t : Tok} {b : List Tok} (h : Fits w (t :: b).length) : Fits (wr1 w t) b.length := Fits.one (by simpa using h) t
theorem w_map {w : W} {x : ApiMap} (hx : FMap x) (hf : Fits w (tkMap x).length) : file_writer_place w.1 w.2 x = some (wrT w (tkMap x)) := by
  unfold tkMap at hf ⊢
  unfold file_writer_place
  rw [w_num hx.pl hf.head]
  simp only [Option.bind_some]
  rw [show file_list_string w.1 (wr1 w (.n x.At)).2 x.Locals = _ from w_strings (w := wr1 w (.n x.At)) hx.locals hf.tail.left]
  simp only [Option.bind_some]
  rw [w_strings hx.stack hf.tail.right, wrT_cons, wrT_app]
  rfl
theorem w_fields {w : W} {l : List ApiField} (hl : FL FField l) (hf : Fits w (tkL tkField l).length) : file_list_api_Field w.1 w.2 l = some (wrT w (tkL tkField l)) := by
  have hll := hl.len
  unfold file_list_api_Field
  rw [w_len (by omega) hf.head]
  simp only [Option.bind_some]
  rw [show loopP (fun z => file_list_api_Field_l1 l z.1 z.2.1 z.2.2) (w.1, (wr1 w (.n (l.length : Int))).2, 0) = some (.inl (wrT (wr1 w (.n (l.length : Int))) (l.flatMap tkField))) from
    fold_loop (by omega) (fun w i x hx hfx => by
      show file_list_api_Field_l1 l w.1 w.2 (i : Int) = _
      unfold file_list_api_Field_l1
      rw [here hx, idx_nat, hx]
      simp only [Option.bind_some, cond_true]
      rw [w_field hfx]; rfl) (fun w => by show file_list_api_Field_l1 l w.1 w.2 (l.length : Int) = _; unfold file_list_api_Field_l1; rw [past]; rfl) (wr1 w (.n (l.length : Int))) hf.tail]
  rfl
theorem w_code {w : W} {l : List ApiIns} (hl : FL FIns l) (hf : Fits w (tkL tkIns l).length) : file_list_api_Ins w.1 w.2 l = some (wrT w (tkL tkIns l)) := by
  have hll := hl.len
  unfold file_list_api_Ins
  rw [w_len (by omega) hf.head]
  simp only [Option.bind_some]
  rw [show loopP (fun z => file_list_api_Ins_l1 l z.1 z.2.1 z.2.2) (w.1, (wr1 w (.n (l.length : Int))).2, 0) = some (.inl (wrT (wr1 w (.n (l.length : Int))) (l.flatMap tkIns))) from
    fold_loop (by omega) (fun w i x hx hfx => by
      show file_list_api_Ins_l1 l w.1 w.2 (i : Int) = _
      unfold file_list_api_Ins_l1
      rw [here hx, idx_nat, hx]
      simp only [Option.bind_some, cond_true]
      rw [w_ins (hl.all x (List.mem_of_getElem? hx)) hfx]; rfl) (fun w => by show file_list_api_Ins_l1 l w.1 w.2 (l.length : Int) = _; unfold file_list_api_Ins_l1; rw [past]; rfl) (wr1 w (.n (l.length : Int))) hf.tail]
  rfl
theorem w_maps {w : W} {l : List ApiMap} (hl : FL FMap l) (hf : Fits w (tkL tkMap l).length) : file_list_api_Map w.1 w.2 l = some (wrT w (tkL tkMap l)) := by
  have hll := hl.len
  unfold file_list_api_Map
  rw [w_len (by omega) hf.head]
  simp only [Option.bind_some]
  rw [show loopP (fun z => file_list_api_Map_l1 l z.1 z.2.1 z.2.2) (w.1, (wr1 w (.n (l.length : Int))).2, 0) = some (.inl (wrT (wr1 w (.n (l.length : Int))) (l.flatMap tkMap))) from
    fold_loop (by omega) (fun w i x hx hfx => by
      show file_list_api_Map_l1 l w.1 w.2 (i : Int) = _
      unfold file_list_api_Map_l1
      rw [here hx, idx_nat, hx]
      simp only [Option.bind_some, cond_true]
      rw [w_map (hl.all x (List.mem_of_getElem? hx)) hfx]; rfl) (fun w => by show file_list_api_Map_l1 l w.1 w.2 (l.length : Int) = _; unfold file_list_api_Map_l1; rw [past]; rfl) (wr1 w (.n (l.length : Int))) hf.tail]
  rfl
theorem w_traps {w : W} {l : List ApiTrap} (hl : FL FTrap l) (hf : Fits w (tkL tkTrap l).length) : file_list_api_Trap w.1 w.2 l = some (wrT w (tkL tkTrap l)) := by
  have hll := hl.len
  unfold file_list_api_Trap
  rw [w_len (by omega) hf.head]
  simp only [Option.bind_some]
  rw [show loopP (fun z => file_list_api_Trap_l1 l z.1 z.2.1 z.2.2) (w.1, (wr1 w (.n (l.length : Int))).2, 0) = some (.inl (wrT (wr1 w (.n (l.length : Int))) (l.flatMap tkTrap))) from
    fold_loop (by omega) (fun w i x hx hfx => by
      show file_list_api_Trap_l1 l w.1 w.2 (i : Int) = _
      unfold file_list_api_Trap_l1
      rw [here hx, idx_nat, hx]
      simp only [Option.bind_some, cond_true]
      rw [w_trap (hl.all x (List.mem_of_getElem? hx)) hfx]; rfl) (fun w => by show file_list_api_Trap_l1 l w.1 w.2 (l.length : Int) = _; unfold file_list_api_Trap_l1; rw [past]; rfl) (wr1 w (.n (l.length : Int))) hf.tail]
  rfl
theorem w_meth {w : W} {m : ApiMethod} (hm : FMeth m) (hf : Fits w (tkMeth m).length) : file_writer_method w.1 w.2 m = some (wrT w (tkMeth m)) := by
  unfold tkMeth at hf ⊢
  unfold file_writer_method
  rw [wrT_cons, wrT_app, wrT_cons, wrT_cons, wrT_cons, wrT_cons, wrT_cons, wrT_app, wrT_app]
  have f1 := hf.tail
  have f2 := f1.right
  have f3 := f2.tail
  have f4 := f3.tail
  have f5 := f4.tail
  have f6 := f5.tail
  have f7 := f6.tail
  have f8 := f7.right
  have f9 := f8.right
  rw [w_text hf.head]
  simp only [Option.bind_some]
  rw [w_strings hm.params f1.left]
  simp only [Option.bind_some]
  generalize wrT (wr1 w (.t m.Name)) (tkL tkS m.Params) = w2 at *
  rw [w_text f2.head]
  simp only [Option.bind_some]
  rw [w_truth f3.head]
  simp only [Option.bind_some]
  generalize hw3 : wr1 w2 (.t m.Ret) = w3 at *
  rw [show file_writer_truth w3.1 (wr1 w3 (tkB m.Static)).2 m.Abstract = _ from w_truth (w := wr1 w3 (tkB m.Static)) f4.head]
  simp only [Option.bind_some]
  generalize hw4 : wr1 w3 (tkB m.Static) = w4 at *
  have e4 : w3.1 = w4.1 := by rw [← hw4]; rfl
  rw [e4]
  generalize hw5 : wr1 w4 (tkB m.Abstract) = w5 at *
  have e5 : w4.1 = w5.1 := by rw [← hw5]; rfl
  rw [e5, w_num hm.locals f5.head]
  simp only [Option.bind_some]
  generalize hw6 : wr1 w5 (.n m.Locals) = w6 at *
  have e6 : w5.1 = w6.1 := by rw [← hw6]; rfl
  rw [e6, w_num hm.stack f6.head]
  simp only [Option.bind_some]
  generalize hw7 : wr1 w6 (.n m.Stack) = w7 at *
  have e7 : w6.1 = w7.1 := by rw [← hw7]; rfl
  rw [e7, w_code hm.code f7.left]
  simp only [Option.bind_some]
  rw [w_maps hm.maps f8.left]
  simp only [Option.bind_some]
  rw [w_traps hm.traps f9]
  rfl
theorem w_methods {w : W} {l : List ApiMethod} (hl : FL FMeth l) (hf : Fits w (tkL tkMeth l).length) : file_list_api_Method w.1 w.2 l = some (wrT w (tkL tkMeth l)) := by
  have hll := hl.len
  unfold file_list_api_Method
  rw [w_len (by omega) hf.head]
  simp only [Option.bind_some]
  rw [show loopP (fun z => file_list_api_Method_l1 l z.1 z.2.1 z.2.2) (w.1, (wr1 w (.n (l.length : Int))).2, 0) = some (.inl (wrT (wr1 w (.n (l.length : Int))) (l.flatMap tkMeth))) from
    fold_loop (by omega) (fun w i x hx hfx => by
      show file_list_api_Method_l1 l w.1 w.2 (i : Int) = _
      unfold file_list_api_Method_l1
      rw [here hx, idx_nat, hx]
      simp only [Option.bind_some, cond_true]
      rw [w_meth (hl.all x (List.mem_of_getElem? hx)) hfx]; rfl) (fun w => by show file_list_api_Method_l1 l w.1 w.2 (l.length : Int) = _; unfold file_list_api_Method_l1; rw [past]; rfl) (wr1 w (.n (l.length : Int))) hf.tail]
  rfl
end Go.Proofs.YtdhpdpkcfffpiaaGreat
namespace Go.Proofs.YtdhpdpkcfffpiaaGreat
set_option linter.unusedSimpArgs false
set_option linter.unusedVariables false
theorem FL.le {α : Type} {Q : α → Prop} {l : List α} (h : FL Q l) : LenL l := by have := h.len; unfold LenL; omega
theorem FS.le {s : List UInt8} (h : FS s) : Len s := by unfold FS at h; unfold Len; omega
theorem FClass.cg {c : ApiClass} (h : FClass c) : CGIn c where
  name := h.name.le
  super := h.super.le
  impl := ⟨h.impl.le, fun s hs => (h.impl.all s hs).le⟩
  fields := ⟨h.fields.le, fun f hf => ⟨(h.fields.all f hf).name.le, (h.fields.all f hf).type.le⟩⟩
  methods := ⟨h.methods.le, fun m hm => by
    have g := h.methods.all m hm
    have g1 := g.params.len
    have g2 := g.code.len
    have g3 := g.maps.len
    have g4 := g.traps.len
    exact ⟨g.name.le, ⟨by omega, fun s hs => (g.params.all s hs).le⟩, g.ret.le,
      ⟨g.maps.le, g.code.le, fun x hx => ⟨⟨(g.maps.all x hx).locals.le, fun s hs => ((g.maps.all x hx).locals.all s hs).le⟩, (g.maps.all x hx).stack.le, fun s hs => ((g.maps.all x hx).stack.all s hs).le⟩⟩,
      ⟨⟨g.code.le, fun x hx => ⟨(g.code.all x hx).c.le, (g.code.all x hx).m.le⟩⟩, ⟨g.traps.le, fun x hx => (g.traps.all x hx).c.le⟩⟩, ⟨by omega, by omega, by omega⟩⟩⟩
def AllIn (l : List Tok) : Prop := ∀ t ∈ l, TkIn t
theorem AllIn.nil : AllIn [] := fun t h => by cases h
theorem AllIn.cons {t : Tok} {l : List Tok} (h : TkIn t) (hl : AllIn l) : AllIn (t :: l) := fun x hx => by
  rcases List.mem_cons.1 hx with rfl | hx
  · exact h
  · exact hl x hx
theorem AllIn.app {a b : List Tok} (h : AllIn a) (hl : AllIn b) : AllIn (a ++ b) := fun x hx => by
  rcases List.mem_append.1 hx with hx | hx
  · exact h x hx
  · exact hl x hx
theorem in_b (b : Bool) : TkIn (tkB b) := by cases b <;> (show I64 _; decide)
theorem in_l {α : Type} {Q : α → Prop} {f : α → List Tok} {l : List α} (h : FL Q l) (hf : ∀ x, Q x → AllIn (f x)) : AllIn (tkL f l) := by
  have := h.len
  refine AllIn.cons (show I64 _ from ⟨by omega, by omega⟩) fun t ht => ?_
  obtain ⟨x, hx, h1⟩ := List.mem_flatMap.1 ht
  exact hf x (h.all x hx) t h1
theorem in_s {s : List UInt8} (h : FS s) : AllIn (tkS s) := AllIn.cons h AllIn.nil
theorem in_field {f : ApiField} (h : FField f) : AllIn (tkField f) := AllIn.cons h.name (AllIn.cons h.type (AllIn.cons (in_b _) AllIn.nil))
theorem in_ins {x : ApiIns} (h : FIns x) : AllIn (tkIns x) := AllIn.cons h.op (AllIn.cons h.a (AllIn.cons h.c (AllIn.cons h.m AllIn.nil)))
theorem in_trap {x : ApiTrap} (h : FTrap x) : AllIn (tkTrap x) := AllIn.cons h.lo (AllIn.cons h.hi (AllIn.cons h.pl (AllIn.cons h.c AllIn.nil)))
theorem in_map {x : ApiMap} (h : FMap x) : AllIn (tkMap x) := AllIn.cons h.pl (AllIn.app (in_l h.locals fun _ => in_s) (in_l h.stack fun _ => in_s))
theorem in_meth {m : ApiMethod} (h : FMeth m) : AllIn (tkMeth m) :=
  AllIn.cons h.name (AllIn.app (in_l h.params fun _ => in_s) (AllIn.cons h.ret (AllIn.cons (in_b _) (AllIn.cons (in_b _) (AllIn.cons h.locals (AllIn.cons h.stack (AllIn.app (in_l h.code fun _ => in_ins) (AllIn.app (in_l h.maps fun _ => in_map) (in_l h.traps fun _ => in_trap)))))))))
theorem in_class {c : ApiClass} (h : FClass c) : AllIn (tkClass c) :=
  AllIn.cons h.name (AllIn.cons h.super (AllIn.cons (in_b _) (AllIn.app (in_l h.impl fun _ => in_s) (AllIn.app (in_l h.fields fun _ => in_field) (in_l h.methods fun _ => in_meth)))))
theorem uB_all {α : Type} {ok : α → Bool} {nm : α → List UInt8} : ∀ {l pre : List α}, uB ok nm pre l = false → ∀ x ∈ l, ok x = true
  | y :: l, pre, h, x, hx => by
    unfold uB at h
    simp only [Bool.or_eq_false_iff, Bool.not_eq_false'] at h
    rcases List.mem_cons.1 hx with rfl | hx
    · exact h.1.1
    · exact uB_all h.2 x hx
theorem gB_all {α : Type} {bad : List α → α → Bool} : ∀ {l pre : List α}, gB bad pre l = false → ∀ x ∈ l, ∃ p, bad p x = false
  | y :: l, pre, h, x, hx => by
    unfold gB at h
    simp only [Bool.or_eq_false_iff] at h
    rcases List.mem_cons.1 hx with rfl | hx
    · exact ⟨pre, h.1⟩
    · exact gB_all h.2 x hx
structure MSmall (m : ApiMethod) : Prop where
  params : m.Params.length ≤ 6
  code : m.Code.length ≤ 100
  traps : m.Traps.length ≤ 6
  maps : m.Maps.length ≤ 100
  all : ∀ x ∈ m.Maps, x.Locals.length ≤ 16 ∧ x.Stack.length ≤ 16
theorem between_le {x a b : Int} (h : class_between x a b = true) : a ≤ x ∧ x ≤ b := by
  have h : (decide (a ≤ x) && decide (x ≤ b)) = true := h
  simpa using h
theorem methodG_small {m : ApiMethod} (hG : GIn m) (h : methodG m = true) : MSmall m := by
  unfold methodG at h
  rw [Bool.and_eq_true, Bool.and_eq_true, Bool.and_eq_true, Bool.not_eq_true', Bool.or_eq_false_iff] at h
  obtain ⟨⟨⟨⟨_, h1⟩, _⟩, _⟩, h2⟩ := h
  have hp : m.Params.length ≤ 6 := by have := of_decide_eq_false h1; omega
  cases ha : m.Abstract with
  | true =>
    rw [ha, cond_true, empty_eq hG] at h2
    simp only [Bool.and_eq_true, beq_iff_eq] at h2
    obtain ⟨⟨⟨_, h3⟩, h4⟩, h5⟩ := h2
    have e : m.Maps = [] := List.eq_nil_of_length_eq_zero (by omega)
    exact ⟨hp, by omega, by omega, by omega, fun x hx => by rw [e] at hx; cases hx⟩
  | false =>
    rw [ha, cond_false, Bool.and_eq_true, Bool.and_eq_true, Bool.and_eq_true, Bool.and_eq_true, Bool.and_eq_true] at h2
    obtain ⟨_, h3, h4, ⟨h5, h6⟩, h7⟩ := h2
    have l1 := between_le h3
    have l2 := between_le h4
    unfold instrN at h5
    rw [Bool.and_eq_true] at h5
    have l3 := between_le h5.1
    unfold trapsN at h6
    rw [Bool.and_eq_true] at h6
    have l4 := of_decide_eq_true h6.2
    unfold mapsN at h7
    rw [Bool.and_eq_true, Bool.not_eq_true'] at h7
    have l5 := of_decide_eq_true h7.2
    refine ⟨hp, by omega, by omega, by omega, fun x hx => ?_⟩
    obtain ⟨p, hb⟩ := gB_all h7.1 x hx
    unfold mapB at hb
    rw [Bool.or_eq_false_iff, Bool.or_eq_false_iff (x := (!((x.Locals.length : Int) == m.Locals) || decide (m.Stack < (x.Stack.length : Int)))), Bool.or_eq_false_iff (x := !((x.Locals.length : Int) == m.Locals))] at hb
    obtain ⟨_, ⟨h8, h9⟩, _⟩ := hb
    have e8 : (x.Locals.length : Int) = m.Locals := by simpa using h8
    have e9 := of_decide_eq_false h9
    exact ⟨by omega, by omega⟩
theorem flat_le {α : Type} {f : α → List Tok} {k : Nat} : ∀ {l : List α}, (∀ x ∈ l, (f x).length ≤ k) → (l.flatMap f).length ≤ l.length * k
  | [], _ => by simp
  | x :: l, h => by
    rw [List.flatMap_cons, List.length_append, List.length_cons, Nat.succ_mul]
    have h1 := h x (List.mem_cons_self ..)
    have h2 := flat_le (l := l) fun y hy => h y (List.mem_cons_of_mem _ hy)
    omega
theorem tkL_le {α : Type} {f : α → List Tok} {k n : Nat} {l : List α} (hl : l.length ≤ n) (h : ∀ x ∈ l, (f x).length ≤ k) : (tkL f l).length ≤ 1 + n * k := by
  have h1 := flat_le h
  have h2 := Nat.mul_le_mul_right k hl
  unfold tkL
  rw [List.length_cons]
  omega
theorem tkMap_le {x : ApiMap} (h : x.Locals.length ≤ 16 ∧ x.Stack.length ≤ 16) : (tkMap x).length ≤ 35 := by
  have h1 := tkL_le (f := tkS) (k := 1) h.1 fun _ _ => Nat.le_refl 1
  have h2 := tkL_le (f := tkS) (k := 1) h.2 fun _ _ => Nat.le_refl 1
  unfold tkMap
  rw [List.length_cons, List.length_append]
  omega
theorem tkMeth_le {m : ApiMethod} (h : MSmall m) : (tkMeth m).length ≤ 5000 := by
  have h1 := tkL_le (f := tkS) (k := 1) h.params fun _ _ => Nat.le_refl 1
  have h2 := tkL_le (f := tkIns) (k := 4) h.code fun _ _ => Nat.le_refl 4
  have h3 := tkL_le (f := tkMap) (k := 35) h.maps fun x hx => tkMap_le (h.all x hx)
  have h4 := tkL_le (f := tkTrap) (k := 4) h.traps fun _ _ => Nat.le_refl 4
  unfold tkMeth
  simp only [List.length_cons, List.length_append]
  omega
theorem tkClass_le {c : ApiClass} (hc : CGIn c) (h : mayG c = true) : (tkClass c).length ≤ 100000 := by
  unfold mayG at h
  simp only [Bool.and_eq_true, Bool.not_eq_true'] at h
  obtain ⟨_, ⟨⟨_, _, h1⟩, h2, h3⟩, h4, h5⟩ := h
  have l1 := of_decide_eq_true h1
  have l3 := of_decide_eq_true h3
  have l5 := of_decide_eq_true h5
  have k1 := tkL_le (f := tkS) (n := 4) (k := 1) (l := c.Impl) (by omega) fun _ _ => Nat.le_refl 1
  have k2 := tkL_le (f := tkField) (n := 8) (k := 3) (l := c.Fields) (by omega) fun _ _ => Nat.le_refl 3
  have k3 := tkL_le (f := tkMeth) (n := 8) (k := 5000) (l := c.Methods) (by omega) fun m hm => by
    have hm1 := uB_all h4 m hm
    rw [Bool.and_eq_true] at hm1
    exact tkMeth_le (methodG_small (hc.methods.2 m hm) hm1.2)
  unfold tkClass
  simp only [List.length_cons, List.length_append]
  omega
theorem fits0 {c : ApiClass} (hc : CGIn c) (h : mayG c = true) : Fits ([], []) (tkClass c).length := by
  have := tkClass_le hc h
  exact ⟨by simp; omega, by simp; omega⟩
theorem pool_in {w : W} : ∀ {l : List Tok}, (∀ s ∈ w.1, FS s) → AllIn l → ∀ s ∈ (wrT w l).1, FS s := by
  intro l
  induction l generalizing w with
  | nil => intro hw _; exact hw
  | cons t l ih =>
    intro hw hl
    refine ih (w := wr1 w t) ?_ fun x hx => hl x (List.mem_cons_of_mem _ hx)
    cases t with
    | n x => exact hw
    | t s =>
      intro y hy
      have hy : y ∈ insP w.1 s := hy
      unfold insP at hy
      cases hd : decide (ixN w.1 s < w.1.length) with
      | true => rw [hd] at hy; exact hw y hy
      | false =>
        rw [hd] at hy
        rcases List.mem_append.1 hy with h1 | h1
        · exact hw y h1
        · rw [List.mem_singleton.1 h1]; exact hl _ (List.mem_cons_self ..)
def outB (w : W) : List UInt8 := (([74, 65, 86, 65] ++ put (w.1.length : Int)) ++ w.1.flatMap putText) ++ w.2
noncomputable def bytesC (c : ApiClass) : List UInt8 := outB (wrT ([], []) (tkClass c))
theorem puts_loop {R : Type} {body : List UInt8 × Int → Option (Sum (List UInt8 × Int) (Sum (List UInt8) R))} {l : List (List UInt8)} (hl : l.length ≤ 1000000)
    (hb : ∀ (b : List UInt8) (i : Nat) x, l[i]? = some x → b.length ≤ 100000000000 → body (b, (i : Int)) = some (.inl (b ++ putText x, IntKind.i64.wrap ((i : Int) + 1))))
    (he : ∀ b, body (b, (l.length : Int)) = some (.inr (.inl b))) (hs : ∀ s ∈ l, FS s) (b : List UInt8) (h0 : b.length ≤ 1000000000) : loopP body (b, 0) = some (.inl (b ++ l.flatMap putText)) ∧ (b ++ l.flatMap putText).length ≤ 1000000000 + l.length * 10010 := by
  have key : ∀ d i (b : List UInt8), l.length - i = d → i ≤ l.length → b.length ≤ 1000000000 + i * 10010 → loopP body (b, (i : Int)) = some (.inl (b ++ (l.drop i).flatMap putText)) ∧ (b ++ (l.drop i).flatMap putText).length ≤ 1000000000 + l.length * 10010 := by
    intro d
    induction d with
    | zero =>
      intro i b hd hi h1
      have : i = l.length := by omega
      subst this
      rw [loopP_eq, he, List.drop_length]
      exact ⟨by simp, by simpa using h1⟩
    | succ d ih =>
      intro i b hd hi h1
      have hlt : i < l.length := by omega
      have h2 := putText_len l[i]
      have h3 : FS l[i] := hs _ (List.getElem_mem hlt)
      unfold FS at h3
      rw [loopP_eq, hb b i l[i] (List.getElem?_eq_getElem hlt) (by omega), wrap_succ (by omega), List.drop_eq_getElem_cons hlt, List.flatMap_cons, ← List.append_assoc]
      exact ih (i + 1) _ (by omega) (by omega) (by rw [List.length_append]; omega)
  have := key _ 0 b rfl (Nat.zero_le _) (by omega)
  simpa using this
theorem wr_parts {c : ApiClass} (h : FClass c) (hm : mayG c = true) {R : Type} (k : W → Option R) :
    ((file_writer_text [] [] c.Name).bind fun v3 => (file_writer_text v3.1 v3.2 c.Super).bind fun v4 => (file_writer_truth v4.1 v4.2 c.Interface).bind fun v5 => (file_list_string v4.1 v5 c.Impl).bind fun v6 => (file_list_api_Field v6.1 v6.2 c.Fields).bind fun v7 => (file_list_api_Method v7.1 v7.2 c.Methods).bind k)
      = k (wrT ([], []) (tkClass c)) := by
  have f0 := fits0 h.cg hm
  unfold tkClass at f0 ⊢
  have f1 := f0.tail
  have f2 := f1.tail
  have f3 := f2.tail
  have f4 := f3.right
  have f5 := f4.right
  rw [wrT_cons, wrT_cons, wrT_cons, wrT_app, wrT_app]
  rw [show file_writer_text [] [] c.Name = _ from w_text (w := ([], [])) f0.head]
  simp only [Option.bind_some]
  rw [w_text f1.head]
  simp only [Option.bind_some]
  generalize wr1 (wr1 ([], []) (.t c.Name)) (.t c.Super) = w2 at *
  rw [w_truth f2.head]
  simp only [Option.bind_some]
  rw [show file_list_string w2.1 (wr1 w2 (tkB c.Interface)).2 c.Impl = _ from w_strings (w := wr1 w2 (tkB c.Interface)) h.impl f3.left]
  simp only [Option.bind_some]
  rw [w_fields h.fields f4.left]
  simp only [Option.bind_some]
  rw [w_methods h.methods f5]
  rfl
theorem wr_len {c : ApiClass} (h : FClass c) (hm : mayG c = true) : (wrT ([], []) (tkClass c)).1.length ≤ 1000000 ∧ (wrT ([], []) (tkClass c)).2.length ≤ 1000000000 := by
  have h1 := tkClass_le h.cg hm
  have hf : Fits ([], []) ((tkClass c).length + 999900000) := ⟨by simp; omega, by simp; omega⟩
  have h2 := hf.app
  exact ⟨by have := h2.1; omega, by have := h2.2; omega⟩
theorem encode_tail {c : ApiClass} (h : FClass c) (hm : mayG c = true) {R : Type} {w : W} (hw : w = wrT ([], []) (tkClass c)) {body : List UInt8 × Int → Option (Sum (List UInt8 × Int) (Sum (List UInt8) R))} {k k2 : List UInt8 → Option R}
    (hb : ∀ (b : List UInt8) (i : Nat) x, w.1[i]? = some x → b.length ≤ 100000000000 → FS x → body (b, (i : Int)) = some (.inl (b ++ putText x, IntKind.i64.wrap ((i : Int) + 1))))
    (he : ∀ b, body (b, (w.1.length : Int)) = some (.inr (.inl b))) (hk : ∀ b : List UInt8, k b = (appP 1 b w.2).bind k2) :
    ((num_Put [74, 65, 86, 65] (w.1.length : Int)).bind fun v9 => (loopP body (v9, 0)).bind fun o => leave o k some) = k2 (bytesC c) ∧ (bytesC c).length ≤ 100000000000 := by
  obtain ⟨l1, l2⟩ := wr_len h hm
  have hp := pool_in (w := ([], [])) (fun s hs => by cases hs) (in_class h)
  rw [← hw] at l1 l2 hp
  have l3 := put_length (w.1.length : Int)
  obtain ⟨e1, e2⟩ := puts_loop l1 (fun b i x hx hbl => hb b i x hx hbl (hp x (List.mem_of_getElem? hx))) he hp ([74, 65, 86, 65] ++ put (w.1.length : Int)) (by rw [List.length_append]; simp; omega)
  have e3 : bytesC c = outB w := by unfold bytesC; rw [← hw]
  have e4 : (outB w).length ≤ 100000000000 := by
    unfold outB
    rw [List.length_append]
    omega
  rw [e3]
  refine ⟨?_, e4⟩
  rw [num_Put_eq ⟨by omega, by omega⟩ (by simp)]
  simp only [Option.bind_some]
  rw [e1]
  show k _ = _
  rw [hk, appP1 (by omega)]
  rfl
noncomputable def encN (c : ApiClass) : Option (List UInt8) := cond (mayG c) (cond (decide (6000 < ((bytesC c).length : Int))) none (some (bytesC c))) none
theorem file_Encode_eq {c : ApiClass} (h : FClass c) : file_Encode c = some ((encN c).getD []) := by
  unfold file_Encode encN
  rw [class_May_eqG h.cg]
  simp only [Option.bind_some]
  cases hm : mayG c with
  | false => rfl
  | true =>
    simp only [Bool.not_true, cond_false, cond_true]
    rw [wr_parts h hm]
    generalize hw : wrT ([], []) (tkClass c) = w
    refine (encode_tail h hm hw.symm (body := fun z => file_Encode_l1 w z.1 z.2) (k := fun b => file_Encode_k2 w b) (k2 := fun v19 => cond (decide (6000 < ((List.length v19) : Int))) (some []) (some v19)) (fun b i x hx hbl hfx => by
      show file_Encode_l1 w b (i : Int) = _
      unfold file_Encode_l1
      rw [here hx, idx_nat, hx]
      simp only [Option.bind_some, cond_true]
      rw [num_PutText_eq (by omega) (by unfold FS at hfx; omega)]; rfl) (fun b => by
      show file_Encode_l1 w b _ = _
      unfold file_Encode_l1
      rw [past]; rfl) (fun b => rfl)).1.trans ?_
    cases decide (6000 < ((bytesC c).length : Int)) <;> rfl
theorem file_EncodeO_eq {c : ApiClass} (h : FClass c) : file_EncodeO c = some (encN c) := by
  unfold file_EncodeO encN
  rw [class_May_eqG h.cg]
  simp only [Option.bind_some]
  cases hm : mayG c with
  | false => rfl
  | true =>
    simp only [Bool.not_true, cond_false, cond_true]
    rw [wr_parts h hm]
    generalize hw : wrT ([], []) (tkClass c) = w
    refine (encode_tail h hm hw.symm (body := fun z => file_EncodeO_l1 w z.1 z.2) (k := fun b => file_EncodeO_k2 w b) (k2 := fun v19 => cond (decide (6000 < ((List.length v19) : Int))) (some none) (some (some v19))) (fun b i x hx hbl hfx => by
      show file_EncodeO_l1 w b (i : Int) = _
      unfold file_EncodeO_l1
      rw [here hx, idx_nat, hx]
      simp only [Option.bind_some, cond_true]
      rw [num_PutText_eq (by omega) (by unfold FS at hfx; omega)]; rfl) (fun b => by
      show file_EncodeO_l1 w b _ = _
      unfold file_EncodeO_l1
      rw [past]; rfl) (fun b => rfl)).1.trans ?_
    cases decide (6000 < ((bytesC c).length : Int)) <;> rfl
end Go.Proofs.YtdhpdpkcfffpiaaGreat
namespace Go.Proofs.YtdhpdpkcfffpiaaGreat
set_option linter.unusedSimpArgs false
set_option linter.unusedVariables false
set_option linter.unusedSectionVars false
abbrev Rea (α : Type) := List UInt8 → Bool → α × List UInt8 × Bool
structure ReaW {α : Type} (Q : α → Prop) (g : Rea α) : Prop where
  le : ∀ b bad, (g b bad).2.1.length ≤ b.length
  mono : ∀ b bad, (g b bad).2.2 = false → bad = false
  q : ∀ b bad, b.length ≤ 6000 → Q (g b bad).1
structure ReaOk {α : Type} (Q : α → Prop) (g : Rea α) : Prop extends ReaW Q g where
  lt : ∀ b bad, (g b bad).2.2 = false → (g b bad).2.1.length < b.length
def Rea.ret {α : Type} (x : α) : Rea α := fun b bad => (x, b, bad)
def Rea.bind {α β : Type} (g : Rea α) (f : α → Rea β) : Rea β := fun b bad => f (g b bad).1 (g b bad).2.1 (g b bad).2.2
theorem ReaW.ret {α : Type} {Q : α → Prop} {x : α} (h : Q x) : ReaW Q (Rea.ret x) := ⟨fun _ _ => Nat.le_refl _, fun _ _ h => h, fun _ _ _ => h⟩
theorem ReaW.bind {α β : Type} {Q : α → Prop} {S : β → Prop} {g : Rea α} {f : α → Rea β} (hg : ReaW Q g) (hf : ∀ x, Q x → ReaW S (f x)) (hn : ∀ x b bad, (f x b bad).2.1.length ≤ b.length ∧ ((f x b bad).2.2 = false → bad = false)) : ReaW S (g.bind f) where
  le b bad := Nat.le_trans (hn _ _ _).1 (hg.le b bad)
  mono b bad h := hg.mono b bad ((hn _ _ _).2 h)
  q b bad h := (hf _ (hg.q b bad h)).q _ _ (Nat.le_trans (hg.le b bad) h)
theorem ReaOk.bind {α β : Type} {Q : α → Prop} {S : β → Prop} {g : Rea α} {f : α → Rea β} (hg : ReaOk Q g) (hf : ∀ x, Q x → ReaW S (f x)) (hn : ∀ x b bad, (f x b bad).2.1.length ≤ b.length ∧ ((f x b bad).2.2 = false → bad = false)) : ReaOk S (g.bind f) :=
  ⟨ReaW.bind hg.toReaW hf hn, fun b bad h => Nat.lt_of_le_of_lt (hn _ _ _).1 (hg.lt b bad ((hn _ _ _).2 h))⟩
def ReaN {α : Type} (g : Rea α) : Prop := ∀ b bad, (g b bad).2.1.length ≤ b.length ∧ ((g b bad).2.2 = false → bad = false)
theorem ReaN.ret {α : Type} {x : α} : ReaN (Rea.ret x) := fun _ _ => ⟨Nat.le_refl _, fun h => h⟩
theorem ReaN.bind {α β : Type} {g : Rea α} {f : α → Rea β} (hg : ReaN g) (hf : ∀ x, ReaN (f x)) : ReaN (g.bind f) := fun b bad =>
  ⟨Nat.le_trans (hf _ _ _).1 (hg b bad).1, fun h => (hg b bad).2 ((hf _ _ _).2 h)⟩
theorem ReaW.n {α : Type} {Q : α → Prop} {g : Rea α} (h : ReaW Q g) : ReaN g := fun b bad => ⟨h.le b bad, h.mono b bad⟩
def rdN : Rea Int := fun b bad => cond (bad || !((getB b).2.2 == (0 : Int))) (0, b, true) ((getB b).1, b.drop (getB b).2.1.toNat, false)
def rdT (P : List (List UInt8)) : Rea (List UInt8) := fun b bad =>
  cond (((rdN b bad).2.2 || decide ((rdN b bad).1 < 0)) || decide ((P.length : Int) ≤ (rdN b bad).1)) ([], (rdN b bad).2.1, true) ((P[(rdN b bad).1.toNat]?).getD [], (rdN b bad).2.1, (rdN b bad).2.2)
def rdB : Rea Bool := fun b bad => (!((rdN b bad).1 == (0 : Int)), (rdN b bad).2.1, (rdN b bad).2.2)
def rdO : Rea (List UInt8) := fun b bad => cond (bad || !((getText b).2.2 == (0 : Int))) ((getText b).1, b, true) ((getText b).1, b.drop (getText b).2.1.toNat, false)
theorem rdN_ok : ReaOk I64 rdN where
  le b bad := by
    unfold rdN
    cases (bad || !((getB b).2.2 == (0 : Int))) with
    | true => exact Nat.le_refl _
    | false => simp only [cond_false, List.length_drop]; omega
  mono b bad h := by
    unfold rdN at h
    cases hc : (bad || !((getB b).2.2 == (0 : Int))) with
    | true => rw [hc] at h; cases h
    | false => exact (Bool.or_eq_false_iff.1 hc).1
  q b bad _ := by
    unfold rdN
    cases hc : (bad || !((getB b).2.2 == (0 : Int))) with
    | true => show I64 0; decide
    | false =>
      have h1 := (Bool.or_eq_false_iff.1 hc).2
      obtain ⟨j, _, _, _, _, h2, h3⟩ := getB_ok b (by simpa using h1)
      exact ⟨h2, h3⟩
  lt b bad h := by
    unfold rdN at h ⊢
    cases hc : (bad || !((getB b).2.2 == (0 : Int))) with
    | true => rw [hc] at h; cases h
    | false =>
      have h1 := (Bool.or_eq_false_iff.1 hc).2
      obtain ⟨j, h2, h3, h4, _⟩ := getB_ok b (by simpa using h1)
      simp only [cond_false, List.length_drop]
      rw [h2]
      omega
theorem rdB_ok : ReaOk (fun _ => True) rdB where
  le := rdN_ok.le
  mono := rdN_ok.mono
  q _ _ _ := trivial
  lt := rdN_ok.lt
theorem rdT_n (P : List (List UInt8)) : ReaN (rdT P) := fun b bad => by
  unfold rdT
  cases hc : (((rdN b bad).2.2 || decide ((rdN b bad).1 < 0)) || decide ((P.length : Int) ≤ (rdN b bad).1)) with
  | true => exact ⟨rdN_ok.le b bad, fun h => by cases h⟩
  | false => exact ⟨rdN_ok.le b bad, rdN_ok.mono b bad⟩
theorem rdT_ok {P : List (List UInt8)} (hP : ∀ s ∈ P, FS s) : ReaOk FS (rdT P) where
  le b bad := (rdT_n P b bad).1
  mono b bad := (rdT_n P b bad).2
  q b bad _ := by
    unfold rdT
    cases hc : (((rdN b bad).2.2 || decide ((rdN b bad).1 < 0)) || decide ((P.length : Int) ≤ (rdN b bad).1)) with
    | true => show FS []; unfold FS; simp
    | false =>
      show FS ((P[(rdN b bad).1.toNat]?).getD [])
      cases h : P[(rdN b bad).1.toNat]? with
      | none => unfold FS; simp
      | some s => exact hP s (List.mem_of_getElem? h)
  lt b bad h := by
    unfold rdT at h ⊢
    cases hc : (((rdN b bad).2.2 || decide ((rdN b bad).1 < 0)) || decide ((P.length : Int) ≤ (rdN b bad).1)) with
    | true => rw [hc] at h; cases h
    | false => rw [hc] at h; exact rdN_ok.lt b bad h
theorem getText_ok (b : List UInt8) (h : (getText b).2.2 = 0) : ∃ j : Nat, (getText b).2.1 = j ∧ 1 ≤ j ∧ j ≤ b.length := by
  unfold getText at h ⊢
  split
  · rename_i h1; rw [if_pos h1] at h; exact absurd h h1
  · rename_i h1
    rw [if_neg h1] at h
    split
    · rename_i h2; rw [if_pos h2] at h; exact absurd h (by decide)
    · rename_i h2
      rw [if_neg h2] at h
      split
      · rename_i h3; rw [if_pos h3] at h; exact absurd h (by decide)
      · rename_i h3
        obtain ⟨j, h4, h5, h6, _⟩ := getB_ok b (by simpa using h1)
        exact ⟨j + (getB b).1.toNat, by show (getB b).2.1 + (getB b).1 = _; omega, by omega, by omega⟩
theorem getText_len (b : List UInt8) : (getText b).1.length ≤ b.length := by
  unfold getText
  split
  · simp
  · split
    · simp
    · split
      · simp
      · simp only [List.length_take, List.length_drop]; omega
theorem rdO_ok : ReaOk FS rdO where
  le b bad := by
    unfold rdO
    cases (bad || !((getText b).2.2 == (0 : Int))) with
    | true => exact Nat.le_refl _
    | false => simp only [cond_false, List.length_drop]; omega
  mono b bad h := by
    unfold rdO at h
    cases hc : (bad || !((getText b).2.2 == (0 : Int))) with
    | true => rw [hc] at h; cases h
    | false => exact (Bool.or_eq_false_iff.1 hc).1
  q b bad hb := by
    have := getText_len b
    unfold rdO
    cases hc : (bad || !((getText b).2.2 == (0 : Int))) with
    | true => show FS (getText b).1; unfold FS; omega
    | false => show FS (getText b).1; unfold FS; omega
  lt b bad h := by
    unfold rdO at h ⊢
    cases hc : (bad || !((getText b).2.2 == (0 : Int))) with
    | true => rw [hc] at h; cases h
    | false =>
      have h1 := (Bool.or_eq_false_iff.1 hc).2
      obtain ⟨j, h2, h3, h4⟩ := getText_ok b (by simpa using h1)
      simp only [cond_false, List.length_drop]
      rw [h2]
      omega
def rdLoop {α : Type} (g : Rea α) : Nat → List UInt8 → Bool → List α → List α × List UInt8 × Bool
  | 0, b, bad, acc => (acc, b, bad)
  | n + 1, b, bad, acc => cond bad (acc, b, bad) (rdLoop g n (g b bad).2.1 (g b bad).2.2 (acc ++ [(g b bad).1]))
def reL {α : Type} (g : Rea α) : Rea (List α) := fun b bad => rdLoop g (rdN b bad).1.toNat (rdN b bad).2.1 (rdN b bad).2.2 []
theorem rdLoop_n {α : Type} {g : Rea α} (hg : ReaN g) : ∀ n b bad acc, (rdLoop g n b bad acc).2.1.length ≤ b.length ∧ ((rdLoop g n b bad acc).2.2 = false → bad = false)
  | 0, b, bad, acc => ⟨Nat.le_refl _, fun h => h⟩
  | n + 1, b, bad, acc => by
    unfold rdLoop
    cases bad with
    | true => exact ⟨Nat.le_refl _, fun h => by cases h⟩
    | false =>
      have h1 := rdLoop_n hg n (g b false).2.1 (g b false).2.2 (acc ++ [(g b false).1])
      exact ⟨Nat.le_trans h1.1 (hg b false).1, fun _ => rfl⟩
theorem reL_n {α : Type} {g : Rea α} (hg : ReaN g) : ReaN (reL g) := fun b bad => by
  have h1 := rdLoop_n hg (rdN b bad).1.toNat (rdN b bad).2.1 (rdN b bad).2.2 []
  exact ⟨Nat.le_trans h1.1 (rdN_ok.le b bad), fun h => rdN_ok.mono b bad (h1.2 h)⟩
theorem rdLoop_q {α : Type} {Q : α → Prop} {g : Rea α} (hg : ReaOk Q g) : ∀ n b bad acc, b.length ≤ 6000 → (bad = false → acc.length + b.length ≤ 6001) → acc.length ≤ 6002 → (∀ x ∈ acc, Q x) → FL Q (rdLoop g n b bad acc).1
  | 0, b, bad, acc, _, _, h2, h3 => ⟨by show acc.length ≤ 10000; omega, h3⟩
  | n + 1, b, bad, acc, hb, h1, h2, h3 => by
    unfold rdLoop
    cases bad with
    | true => exact ⟨by show acc.length ≤ 10000; omega, h3⟩
    | false =>
      have h1 := h1 rfl
      have hle := hg.le b false
      refine rdLoop_q hg n _ _ _ (by omega) (fun h => ?_) (by simp; omega) fun x hx => ?_
      · have := hg.lt b false h
        simp; omega
      · rcases List.mem_append.1 hx with hx | hx
        · exact h3 x hx
        · rw [List.mem_singleton.1 hx]; exact hg.q b false hb
theorem reL_ok {α : Type} {Q : α → Prop} {g : Rea α} (hg : ReaOk Q g) : ReaOk (FL Q) (reL g) where
  le b bad := (reL_n hg.toReaW.n b bad).1
  mono b bad := (reL_n hg.toReaW.n b bad).2
  q b bad hb := by
    have := rdN_ok.le b bad
    exact rdLoop_q hg _ _ _ _ (by omega) (fun _ => by simp; omega) (by simp) fun x hx => by cases hx
  lt b bad h := by
    have h1 := rdLoop_n hg.toReaW.n (rdN b bad).1.toNat (rdN b bad).2.1 (rdN b bad).2.2 []
    exact Nat.lt_of_le_of_lt h1.1 (rdN_ok.lt b bad (h1.2 h))
theorem read_loop {α R : Type} {Q : α → Prop} {g : Rea α} (hg : ReaOk Q g) {w : Nat} (hw : w ≤ 200) {body : List UInt8 × Bool × List α × Int → Option (Sum (List UInt8 × Bool × List α × Int) (Sum (List α × List UInt8 × Bool) R))}
    (hb : ∀ b bad acc n, b.length ≤ 6000 → body (b, bad, acc, n) = cond (decide (0 < n) && !bad) ((appP w acc [(g b bad).1]).bind fun v => some (.inl ((g b bad).2.1, (g b bad).2.2, v, IntKind.i64.wrap (n - 1)))) (some (.inr (.inl (acc, b, bad))))) :
    ∀ (n : Nat) b bad acc, b.length ≤ 6000 → n ≤ 9223372036854775807 → (bad = false → acc.length + b.length ≤ 6001) → acc.length ≤ 6002 → loopP body (b, bad, acc, (n : Int)) = some (.inl (rdLoop g n b bad acc)) := by
  intro n
  induction n with
  | zero =>
    intro b bad acc h0 _ _ _
    rw [loopP_eq, hb _ _ _ _ h0]; rfl
  | succ n ih =>
    intro b bad acc h0 hn h1 h2
    rw [loopP_eq, hb _ _ _ _ h0]
    unfold rdLoop
    cases bad with
    | true => rw [Bool.not_true, Bool.and_false]; rfl
    | false =>
      rw [decide_eq_true (show (0 : Int) < ((n + 1 : Nat) : Int) by omega)]
      have h1 := h1 rfl
      have hle := hg.le b false
      have hm : (acc.length + 1) * w ≤ 6002 * 200 := Nat.mul_le_mul (by omega) hw
      rw [appP_ok (by simp; omega) (by simp; omega), wrapI (n := ((n + 1 : Nat) : Int) - 1) (by omega) (by omega), show ((n + 1 : Nat) : Int) - 1 = (n : Int) by omega]
      refine ih _ _ _ (by omega) (by omega) (fun h => ?_) (by simp; omega)
      have := hg.lt b false h
      simp; omega
theorem read_list {α R : Type} {Q : α → Prop} {g : Rea α} (hg : ReaOk Q g) {w : Nat} (hw : w ≤ 200) {body : List UInt8 × Bool × List α × Int → Option (Sum (List UInt8 × Bool × List α × Int) (Sum (List α × List UInt8 × Bool) R))}
    (hb : ∀ b bad acc n, b.length ≤ 6000 → body (b, bad, acc, n) = cond (decide (0 < n) && !bad) ((appP w acc [(g b bad).1]).bind fun v => some (.inl ((g b bad).2.1, (g b bad).2.2, v, IntKind.i64.wrap (n - 1)))) (some (.inr (.inl (acc, b, bad)))))
    {b : List UInt8} {bad : Bool} (h0 : b.length ≤ 6000) : loopP body ((rdN b bad).2.1, (rdN b bad).2.2, [], (rdN b bad).1) = some (.inl (reL g b bad)) := by
  have hle := rdN_ok.le b bad
  have hq := rdN_ok.q b bad h0
  unfold reL
  rcases (show 0 < (rdN b bad).1 ∨ (rdN b bad).1 ≤ 0 by omega) with h | h
  · have := read_loop hg hw hb (rdN b bad).1.toNat (rdN b bad).2.1 (rdN b bad).2.2 [] (by omega) (by have := hq.2; omega) (fun _ => by simp; omega) (by simp)
    rw [show (((rdN b bad).1.toNat : Nat) : Int) = (rdN b bad).1 by omega] at this
    exact this
  · have e : (rdN b bad).1.toNat = 0 := by omega
    rw [e, loopP_eq, hb _ _ _ _ (by omega), decide_eq_false (by omega)]
    rfl
def rdField (P : List (List UInt8)) : Rea ApiField := (rdT P).bind fun n => (rdT P).bind fun t => rdB.bind fun s => Rea.ret (ApiField.mk n t s)
def rdIns (P : List (List UInt8)) : Rea ApiIns := rdN.bind fun o => rdN.bind fun a => (rdT P).bind fun c => (rdT P).bind fun m => Rea.ret (ApiIns.mk o a c m)
def rdMap (P : List (List UInt8)) : Rea ApiMap := rdN.bind fun a => (reL (rdT P)).bind fun l => (reL (rdT P)).bind fun s => Rea.ret (ApiMap.mk a l s)
def rdTrap (P : List (List UInt8)) : Rea ApiTrap := rdN.bind fun f => rdN.bind fun t => rdN.bind fun a => (rdT P).bind fun c => Rea.ret (ApiTrap.mk f t a c)
def rdMeth (P : List (List UInt8)) : Rea ApiMethod := (rdT P).bind fun n => (reL (rdT P)).bind fun p => (rdT P).bind fun r => rdB.bind fun s => rdB.bind fun a => rdN.bind fun lo => rdN.bind fun st => (reL (rdIns P)).bind fun c => (reL (rdMap P)).bind fun m => (reL (rdTrap P)).bind fun t =>
  Rea.ret (ApiMethod.mk n p r s a lo st c m t)
def rdClass (P : List (List UInt8)) : Rea ApiClass := (rdT P).bind fun n => (rdT P).bind fun s => rdB.bind fun i => (reL (rdT P)).bind fun im => (reL (rdField P)).bind fun f => (reL (rdMeth P)).bind fun m => Rea.ret (ApiClass.mk n s i im f m)
section
variable {P : List (List UInt8)} (hP : ∀ s ∈ P, FS s)
include hP
theorem rdField_ok : ReaOk FField (rdField P) :=
  (rdT_ok hP).bind (fun n hn => ((rdT_ok hP).toReaW.bind (fun t ht => rdB_ok.toReaW.bind (fun s _ => ReaW.ret ⟨hn, ht⟩) fun _ => ReaN.ret) fun _ => rdB_ok.toReaW.n.bind fun _ => ReaN.ret))
    fun _ => (rdT_n P).bind fun _ => rdB_ok.toReaW.n.bind fun _ => ReaN.ret
theorem rdIns_ok : ReaOk FIns (rdIns P) :=
  rdN_ok.bind (fun o ho => rdN_ok.toReaW.bind (fun a ha => (rdT_ok hP).toReaW.bind (fun c hc => (rdT_ok hP).toReaW.bind (fun m hm => ReaW.ret ⟨ho, ha, hc, hm⟩) fun _ => ReaN.ret) fun _ => (rdT_n P).bind fun _ => ReaN.ret)
      fun _ => (rdT_n P).bind fun _ => (rdT_n P).bind fun _ => ReaN.ret)
    fun _ => rdN_ok.toReaW.n.bind fun _ => (rdT_n P).bind fun _ => (rdT_n P).bind fun _ => ReaN.ret
theorem rdMap_ok : ReaOk FMap (rdMap P) :=
  rdN_ok.bind (fun a ha => (reL_ok (rdT_ok hP)).toReaW.bind (fun l hl => (reL_ok (rdT_ok hP)).toReaW.bind (fun s hs => ReaW.ret ⟨ha, hl, hs⟩) fun _ => ReaN.ret) fun _ => (reL_n (rdT_n P)).bind fun _ => ReaN.ret)
    fun _ => (reL_n (rdT_n P)).bind fun _ => (reL_n (rdT_n P)).bind fun _ => ReaN.ret
theorem rdTrap_ok : ReaOk FTrap (rdTrap P) :=
  rdN_ok.bind (fun f hf => rdN_ok.toReaW.bind (fun t ht => rdN_ok.toReaW.bind (fun a ha => (rdT_ok hP).toReaW.bind (fun c hc => ReaW.ret ⟨hf, ht, ha, hc⟩) fun _ => ReaN.ret) fun _ => (rdT_n P).bind fun _ => ReaN.ret)
      fun _ => rdN_ok.toReaW.n.bind fun _ => (rdT_n P).bind fun _ => ReaN.ret)
    fun _ => rdN_ok.toReaW.n.bind fun _ => rdN_ok.toReaW.n.bind fun _ => (rdT_n P).bind fun _ => ReaN.ret
theorem rdMeth_ok : ReaOk FMeth (rdMeth P) := by
  have nT := rdT_n P
  have nL := reL_n nT
  have nB := rdB_ok.toReaW.n
  have nN := rdN_ok.toReaW.n
  have nI := reL_n (rdIns_ok hP).toReaW.n
  have nM := reL_n (rdMap_ok hP).toReaW.n
  have nR := reL_n (rdTrap_ok hP).toReaW.n
  have wT := (rdT_ok hP).toReaW
  have wL := (reL_ok (rdT_ok hP)).toReaW
  have wB := rdB_ok.toReaW
  have wN := rdN_ok.toReaW
  have wI := (reL_ok (rdIns_ok hP)).toReaW
  have wM := (reL_ok (rdMap_ok hP)).toReaW
  have wR := (reL_ok (rdTrap_ok hP)).toReaW
  refine (rdT_ok hP).bind (fun n hn => wL.bind (fun p hp => wT.bind (fun r hr => wB.bind (fun s _ => wB.bind (fun a _ => wN.bind (fun lo hlo => wN.bind (fun st hst => wI.bind (fun c hc => wM.bind (fun m hm => wR.bind (fun t ht => ReaW.ret ⟨hn, hp, hr, hlo, hst, hc, hm, ht⟩) ?_) ?_) ?_) ?_) ?_) ?_) ?_) ?_) ?_) ?_
  · exact fun _ => ReaN.ret
  · exact fun _ => nR.bind fun _ => ReaN.ret
  · exact fun _ => nM.bind fun _ => nR.bind fun _ => ReaN.ret
  · exact fun _ => nI.bind fun _ => nM.bind fun _ => nR.bind fun _ => ReaN.ret
  · exact fun _ => nN.bind fun _ => nI.bind fun _ => nM.bind fun _ => nR.bind fun _ => ReaN.ret
  · exact fun _ => nN.bind fun _ => nN.bind fun _ => nI.bind fun _ => nM.bind fun _ => nR.bind fun _ => ReaN.ret
  · exact fun _ => nB.bind fun _ => nN.bind fun _ => nN.bind fun _ => nI.bind fun _ => nM.bind fun _ => nR.bind fun _ => ReaN.ret
  · exact fun _ => nB.bind fun _ => nB.bind fun _ => nN.bind fun _ => nN.bind fun _ => nI.bind fun _ => nM.bind fun _ => nR.bind fun _ => ReaN.ret
  · exact fun _ => nT.bind fun _ => nB.bind fun _ => nB.bind fun _ => nN.bind fun _ => nN.bind fun _ => nI.bind fun _ => nM.bind fun _ => nR.bind fun _ => ReaN.ret
  · exact fun _ => nL.bind fun _ => nT.bind fun _ => nB.bind fun _ => nB.bind fun _ => nN.bind fun _ => nN.bind fun _ => nI.bind fun _ => nM.bind fun _ => nR.bind fun _ => ReaN.ret
theorem rdClass_ok : ReaOk FClass (rdClass P) := by
  have nT := rdT_n P
  have nL := reL_n nT
  have nB := rdB_ok.toReaW.n
  have nF := reL_n (rdField_ok hP).toReaW.n
  have nM := reL_n (rdMeth_ok hP).toReaW.n
  have wT := (rdT_ok hP).toReaW
  have wL := (reL_ok (rdT_ok hP)).toReaW
  have wB := rdB_ok.toReaW
  have wF := (reL_ok (rdField_ok hP)).toReaW
  have wM := (reL_ok (rdMeth_ok hP)).toReaW
  refine (rdT_ok hP).bind (fun n hn => wT.bind (fun s hs => wB.bind (fun i _ => wL.bind (fun l hl => wF.bind (fun f hf => wM.bind (fun m hm => ReaW.ret ⟨hn, hs, hl, hf, hm⟩) ?_) ?_) ?_) ?_) ?_) ?_
  · exact fun _ => ReaN.ret
  · exact fun _ => nM.bind fun _ => ReaN.ret
  · exact fun _ => nF.bind fun _ => nM.bind fun _ => ReaN.ret
  · exact fun _ => nL.bind fun _ => nF.bind fun _ => nM.bind fun _ => ReaN.ret
  · exact fun _ => nB.bind fun _ => nL.bind fun _ => nF.bind fun _ => nM.bind fun _ => ReaN.ret
  · exact fun _ => nT.bind fun _ => nB.bind fun _ => nL.bind fun _ => nF.bind fun _ => nM.bind fun _ => ReaN.ret
end
abbrev L6 (b : List UInt8) : Prop := b.length ≤ 6000
theorem skip_eq {P : List (List UInt8)} {b : List UInt8} {bad : Bool} {k e : Int} (h : e = 0 → ∃ j : Nat, k = j ∧ j ≤ b.length) : file_reader_skip P b bad k e = some (cond (bad || !(e == (0 : Int))) b (b.drop k.toNat)) := by
  unfold file_reader_skip
  cases hc : (bad || !(e == (0 : Int))) with
  | true => rfl
  | false =>
    have h1 := (Bool.or_eq_false_iff.1 hc).2
    obtain ⟨j, h2, h3⟩ := h (by simpa using h1)
    subst h2
    simp only [Bool.not_false, cond_true, cond_false]
    rw [cutP_from h3]
    rfl
theorem g_num {P : List (List UInt8)} {b : List UInt8} {bad : Bool} (h : L6 b) : file_reader_num P b bad = some (rdN b bad) := by
  unfold file_reader_num rdN
  unfold L6 at h
  rw [num_Get_eq (by unfold Len; omega), Option.bind_some, skip_eq (fun he => by obtain ⟨j, h1, _, h2, _⟩ := getB_ok b he; exact ⟨j, h1, h2⟩), Option.bind_some]
  cases hc : (bad || !((getB b).2.2 == (0 : Int))) <;> rfl
theorem g_text {P : List (List UInt8)} {b : List UInt8} {bad : Bool} (h : L6 b) : file_reader_text P b bad = some (rdT P b bad) := by
  unfold file_reader_text rdT
  rw [g_num h, Option.bind_some]
  cases hc : (((rdN b bad).2.2 || decide ((rdN b bad).1 < 0)) || decide ((P.length : Int) ≤ (rdN b bad).1)) with
  | true => rfl
  | false =>
    simp only [Bool.or_eq_false_iff, decide_eq_false_iff_not] at hc
    simp only [cond_false]
    have e : (rdN b bad).1 = (((rdN b bad).1.toNat : Nat) : Int) := by omega
    conv => lhs; rw [e, idx_nat]
    rw [List.getElem?_eq_getElem (show (rdN b bad).1.toNat < P.length by omega)]
    rfl
theorem g_truth {P : List (List UInt8)} {b : List UInt8} {bad : Bool} (h : L6 b) : file_reader_truth P b bad = some (rdB b bad) := by
  unfold file_reader_truth
  rw [g_num h]; rfl
theorem g_own {P : List (List UInt8)} {b : List UInt8} {bad : Bool} (h : L6 b) : file_reader_own P b bad = some (rdO b bad) := by
  unfold file_reader_own rdO
  unfold L6 at h
  rw [num_GetText_eq (by unfold Len; omega), Option.bind_some, skip_eq (fun he => by obtain ⟨j, h1, _, h2⟩ := getText_ok b he; exact ⟨j, h1, h2⟩), Option.bind_some]
  cases hc : (bad || !((getText b).2.2 == (0 : Int))) <;> rfl
theorem g_list {α : Type} {Q : α → Prop} {g : Rea α} (hg : ReaOk Q g) {w : Nat} (hw : w ≤ 200) {P : List (List UInt8)} {b : List UInt8} {bad : Bool} {l : List (List UInt8) → List UInt8 → Bool → List α → Int → Option (Sum (List UInt8 × Bool × List α × Int) (Sum (List α × List UInt8 × Bool) (List α × List UInt8 × Bool)))}
    {k : List α → List UInt8 → Bool → Option (List α × List UInt8 × Bool)} {e : List UInt8 → Bool → Option (α × List UInt8 × Bool)}
    (he : ∀ b bad, L6 b → e b bad = some (g b bad))
    (hl : ∀ b bad acc n, l P b bad acc n = cond (decide (0 < n) && !bad) ((e b bad).bind fun v15 => (appP w acc [v15.1]).bind fun v16 => some (.inl (v15.2.1, v15.2.2, v16, (IntKind.i64.wrap (n - 1))))) (some (.inr (.inl (acc, b, bad)))))
    (hk : ∀ a b c, k a b c = some (a, b, c)) (h : L6 b) :
    ((file_reader_num P b bad).bind fun v4 => (loopP (fun z => l P z.1 z.2.1 z.2.2.1 z.2.2.2) (v4.2.1, v4.2.2, [], v4.1)).bind fun o => leave o (fun b => k b.1 b.2.1 b.2.2) some) = some (reL g b bad) := by
  rw [g_num h, Option.bind_some, read_list hg hw (body := fun z => l P z.1 z.2.1 z.2.2.1 z.2.2.2) (fun b bad acc n hb => by
    show l P b bad acc n = _
    rw [hl, he b bad hb]
    rfl) h]
  exact hk _ _ _
theorem g_pool {b : List UInt8} {bad : Bool} (h : L6 b) : file_read_string [] b bad = some (reL rdO b bad) :=
  g_list rdO_ok (by decide) (l := file_read_string_l1) (k := file_read_string_k2) (fun b bad hb => g_own hb) (fun _ _ _ _ => rfl) (fun _ _ _ => rfl) h
section
variable {P : List (List UInt8)} (hP : ∀ s ∈ P, FS s) {b : List UInt8} {bad : Bool} (h : L6 b)
include hP h
theorem g_strings : file_read_string_s2 P b bad = some (reL (rdT P) b bad) :=
  g_list (rdT_ok hP) (by decide) (l := file_read_string_s2_l1) (k := file_read_string_s2_k2) (fun b bad hb => g_text hb) (fun _ _ _ _ => rfl) (fun _ _ _ => rfl) h
theorem g_field : file_reader_field P b bad = some (rdField P b bad) := by
  unfold file_reader_field
  have h1 := (rdT_n P b bad).1
  have h2 := (rdT_n P (rdT P b bad).2.1 (rdT P b bad).2.2).1
  unfold L6 at h
  rw [g_text (by unfold L6; omega)]
  simp only [Option.bind_some]
  rw [g_text (by unfold L6; omega)]
  simp only [Option.bind_some]
  rw [g_truth (by unfold L6; omega)]
  rfl
theorem g_ins : file_reader_ins P b bad = some (rdIns P b bad) := by
  unfold file_reader_ins
  unfold L6 at h
  rw [g_num h]
  simp only [Option.bind_some]
  have h1 := rdN_ok.le b bad
  generalize hr : rdN b bad = r at *
  rw [g_num (by unfold L6; omega)]
  simp only [Option.bind_some]
  have h2 := rdN_ok.le r.2.1 r.2.2
  generalize hr2 : rdN r.2.1 r.2.2 = r2 at *
  rw [g_text (by unfold L6; omega)]
  simp only [Option.bind_some]
  have h3 := (rdT_n P r2.2.1 r2.2.2).1
  generalize hr3 : rdT P r2.2.1 r2.2.2 = r3 at *
  rw [g_text (by unfold L6; omega)]
  subst hr; subst hr2; subst hr3
  rfl
theorem g_trap : file_reader_trap P b bad = some (rdTrap P b bad) := by
  unfold file_reader_trap
  unfold L6 at h
  rw [g_num h]
  simp only [Option.bind_some]
  have h1 := rdN_ok.le b bad
  generalize hr : rdN b bad = r at *
  rw [g_num (by unfold L6; omega)]
  simp only [Option.bind_some]
  have h2 := rdN_ok.le r.2.1 r.2.2
  generalize hr2 : rdN r.2.1 r.2.2 = r2 at *
  rw [g_num (by unfold L6; omega)]
  simp only [Option.bind_some]
  have h3 := rdN_ok.le r2.2.1 r2.2.2
  generalize hr3 : rdN r2.2.1 r2.2.2 = r3 at *
  rw [g_text (by unfold L6; omega)]
  subst hr; subst hr2; subst hr3
  rfl
theorem g_map : file_reader_place P b bad = some (rdMap P b bad) := by
  unfold file_reader_place
  unfold L6 at h
  rw [g_num h]
  simp only [Option.bind_some]
  have h1 := rdN_ok.le b bad
  generalize hr : rdN b bad = r at *
  rw [g_strings hP (by unfold L6; omega)]
  simp only [Option.bind_some]
  have h2 := (reL_n (rdT_n P) r.2.1 r.2.2).1
  generalize hr2 : reL (rdT P) r.2.1 r.2.2 = r2 at *
  rw [g_strings hP (by unfold L6; omega)]
  subst hr; subst hr2
  rfl
theorem g_fields : file_read_api_Field P b bad = some (reL (rdField P) b bad) :=
  g_list (rdField_ok hP) (by decide) (l := file_read_api_Field_l1) (k := file_read_api_Field_k2) (fun b bad hb => g_field hP hb) (fun _ _ _ _ => rfl) (fun _ _ _ => rfl) h
theorem g_code : file_read_api_Ins P b bad = some (reL (rdIns P) b bad) :=
  g_list (rdIns_ok hP) (by decide) (l := file_read_api_Ins_l1) (k := file_read_api_Ins_k2) (fun b bad hb => g_ins hP hb) (fun _ _ _ _ => rfl) (fun _ _ _ => rfl) h
theorem g_maps : file_read_api_Map P b bad = some (reL (rdMap P) b bad) :=
  g_list (rdMap_ok hP) (by decide) (l := file_read_api_Map_l1) (k := file_read_api_Map_k2) (fun b bad hb => g_map hP hb) (fun _ _ _ _ => rfl) (fun _ _ _ => rfl) h
theorem g_traps : file_read_api_Trap P b bad = some (reL (rdTrap P) b bad) :=
  g_list (rdTrap_ok hP) (by decide) (l := file_read_api_Trap_l1) (k := file_read_api_Trap_k2) (fun b bad hb => g_trap hP hb) (fun _ _ _ _ => rfl) (fun _ _ _ => rfl) h
theorem g_meth : file_reader_method P b bad = some (rdMeth P b bad) := by
  unfold file_reader_method
  unfold L6 at h
  rw [g_text h]
  simp only [Option.bind_some]
  have l1 := (rdT_n P b bad).1
  generalize hr1 : rdT P b bad = r1 at *
  rw [g_strings hP (by unfold L6; omega)]
  simp only [Option.bind_some]
  have l2 := (reL_n (rdT_n P) r1.2.1 r1.2.2).1
  generalize hr2 : reL (rdT P) r1.2.1 r1.2.2 = r2 at *
  rw [g_text (by unfold L6; omega)]
  simp only [Option.bind_some]
  have l3 := (rdT_n P r2.2.1 r2.2.2).1
  generalize hr3 : rdT P r2.2.1 r2.2.2 = r3 at *
  rw [g_truth (by unfold L6; omega)]
  simp only [Option.bind_some]
  have l4 := rdB_ok.le r3.2.1 r3.2.2
  generalize hr4 : rdB r3.2.1 r3.2.2 = r4 at *
  rw [g_truth (by unfold L6; omega)]
  simp only [Option.bind_some]
  have l5 := rdB_ok.le r4.2.1 r4.2.2
  generalize hr5 : rdB r4.2.1 r4.2.2 = r5 at *
  rw [g_num (by unfold L6; omega)]
  simp only [Option.bind_some]
  have l6 := rdN_ok.le r5.2.1 r5.2.2
  generalize hr6 : rdN r5.2.1 r5.2.2 = r6 at *
  rw [g_num (by unfold L6; omega)]
  simp only [Option.bind_some]
  have l7 := rdN_ok.le r6.2.1 r6.2.2
  generalize hr7 : rdN r6.2.1 r6.2.2 = r7 at *
  rw [g_code hP (by unfold L6; omega)]
  simp only [Option.bind_some]
  have l8 := (reL_n (rdIns_ok hP).toReaW.n r7.2.1 r7.2.2).1
  generalize hr8 : reL (rdIns P) r7.2.1 r7.2.2 = r8 at *
  rw [g_maps hP (by unfold L6; omega)]
  simp only [Option.bind_some]
  have l9 := (reL_n (rdMap_ok hP).toReaW.n r8.2.1 r8.2.2).1
  generalize hr9 : reL (rdMap P) r8.2.1 r8.2.2 = r9 at *
  rw [g_traps hP (by unfold L6; omega)]
  subst hr1; subst hr2; subst hr3; subst hr4; subst hr5; subst hr6; subst hr7; subst hr8; subst hr9
  rfl
theorem g_methods : file_read_api_Method P b bad = some (reL (rdMeth P) b bad) :=
  g_list (rdMeth_ok hP) (by decide) (l := file_read_api_Method_l1) (k := file_read_api_Method_k2) (fun b bad hb => g_meth hP hb) (fun _ _ _ _ => rfl) (fun _ _ _ => rfl) h
theorem g_class {R : Type} (k : ApiClass → List UInt8 → Bool → Option R) :
    ((file_reader_text P b bad).bind fun v5 => (file_reader_text P v5.2.1 v5.2.2).bind fun v6 => (file_reader_truth P v6.2.1 v6.2.2).bind fun v7 => (file_read_string_s2 P v7.2.1 v7.2.2).bind fun v8 => (file_read_api_Field P v8.2.1 v8.2.2).bind fun v9 => (file_read_api_Method P v9.2.1 v9.2.2).bind fun v10 =>
      k (ApiClass.mk v5.1 v6.1 v7.1 v8.1 v9.1 v10.1) v10.2.1 v10.2.2) = k (rdClass P b bad).1 (rdClass P b bad).2.1 (rdClass P b bad).2.2 := by
  unfold L6 at h
  rw [g_text h]
  simp only [Option.bind_some]
  have l1 := (rdT_n P b bad).1
  generalize hr1 : rdT P b bad = r1 at *
  rw [g_text (by unfold L6; omega)]
  simp only [Option.bind_some]
  have l3 := (rdT_n P r1.2.1 r1.2.2).1
  generalize hr3 : rdT P r1.2.1 r1.2.2 = r3 at *
  rw [g_truth (by unfold L6; omega)]
  simp only [Option.bind_some]
  have l4 := rdB_ok.le r3.2.1 r3.2.2
  generalize hr4 : rdB r3.2.1 r3.2.2 = r4 at *
  rw [g_strings hP (by unfold L6; omega)]
  simp only [Option.bind_some]
  have l2 := (reL_n (rdT_n P) r4.2.1 r4.2.2).1
  generalize hr2 : reL (rdT P) r4.2.1 r4.2.2 = r2 at *
  rw [g_fields hP (by unfold L6; omega)]
  simp only [Option.bind_some]
  have l8 := (reL_n (rdField_ok hP).toReaW.n r2.2.1 r2.2.2).1
  generalize hr8 : reL (rdField P) r2.2.1 r2.2.2 = r8 at *
  rw [g_methods hP (by unfold L6; omega)]
  subst hr1; subst hr3; subst hr4; subst hr2; subst hr8
  rfl
end
end Go.Proofs.YtdhpdpkcfffpiaaGreat
namespace Go.Proofs.YtdhpdpkcfffpiaaGreat
set_option linter.unusedSimpArgs false
set_option linter.unusedVariables false
set_option linter.unusedSectionVars false
def zeroC : ApiClass := ApiClass.mk [] [] false [] [] []
def rdAll (b : List UInt8) : ApiClass × Bool := ((rdClass (reL rdO b false).1 (reL rdO b false).2.1 (reL rdO b false).2.2).1, (rdClass (reL rdO b false).1 (reL rdO b false).2.1 (reL rdO b false).2.2).2.2)
noncomputable def decE (b : List UInt8) (r : ApiClass × Bool) : ApiClass × Int :=
  match encN r.1 with
  | none => (zeroC, 1)
  | some l => cond (r.2 || !(l == b)) (zeroC, 1) (r.1, 0)
noncomputable def decN (b : List UInt8) : ApiClass × Int :=
  cond (decide (6000 < (b.length : Int))) (zeroC, 3) (cond (!(b.take 4 == [74, 65, 86, 65])) (zeroC, 1) (decE b (rdAll (b.drop 4))))
theorem prefix_eq (b : List UInt8) (hb : Len b) : strings_HasPrefix b [74, 65, 86, 65] = some (b.take 4 == [74, 65, 86, 65]) := by
  unfold strings_HasPrefix internal_stringslite_HasPrefix
  cases hd : decide ((([74, 65, 86, 65] : List UInt8).length : Int) ≤ (b.length : Int)) with
  | true =>
    have h := of_decide_eq_true hd
    simp only [cond_true]
    rw [cutP_to (b := ([74, 65, 86, 65] : List UInt8).length) (by omega)]
    rfl
  | false =>
    have h := of_decide_eq_false hd
    have hl : b.length < 4 := by simp at h; omega
    have : (b.take 4 == [74, 65, 86, 65]) = false := beq_eq_false_iff_ne.2 fun e => by
      have := congrArg List.length e
      simp at this
      omega
    rw [this]; rfl
theorem rdPool_in {b : List UInt8} (h : L6 b) : ∀ s ∈ (reL rdO b false).1, FS s := ((reL_ok rdO_ok).q b false h).all
theorem rdAll_in {b : List UInt8} (h : L6 b) : FClass (rdAll b).1 := by
  have h1 := (reL_ok rdO_ok).le b false
  exact (rdClass_ok (rdPool_in h)).q _ _ (by unfold L6 at h; omega)
theorem outB_ne (w : W) : ∃ r, outB w = 74 :: r := ⟨_, rfl⟩
theorem file_Decode_eq (b : List UInt8) (hb : Len b) : file_Decode b = some (decN b) := by
  unfold file_Decode decN
  cases hd : decide (6000 < (b.length : Int)) with
  | true => rfl
  | false =>
    have h0 := of_decide_eq_false hd
    simp only [cond_false]
    rw [prefix_eq b hb, Option.bind_some]
    cases hp : (b.take 4 == [74, 65, 86, 65]) with
    | false => rfl
    | true =>
      have h1 := beq_iff_eq.1 hp
      have h4 : 4 ≤ b.length := by
        have := congrArg List.length h1
        simp at this
        omega
      have hl : L6 (b.drop 4) := by unfold L6; rw [List.length_drop]; omega
      simp only [Bool.not_true, cond_false]
      rw [show cutP b 4 (b.length : Int) = some (b.drop 4) from cutP_from (a := 4) h4, Option.bind_some, g_pool hl, Option.bind_some]
      have h5 := (reL_ok rdO_ok).le (b.drop 4) false
      refine (g_class (rdPool_in hl) (show L6 _ by unfold L6 at hl ⊢; omega) (fun c b' bad => (file_EncodeO c).bind fun v11 => optC v11 (cond ((bad || true) || (!(bytes_Equal [] b))) (some ((ApiClass.mk [] [] false [] [] []), 1)) (some (c, 0)))
        (fun v12 => (cond bad (some true) ((idx v12 0).bind fun v13 => some false)).bind fun v14 => cond (v14 || (!(bytes_Equal v12 b))) (some ((ApiClass.mk [] [] false [] [] []), 1)) (some (c, (0 : Int)))))).trans ?_
      have hc := rdAll_in hl
      rw [show (rdClass (reL rdO (List.drop 4 b) false).1 (reL rdO (List.drop 4 b) false).2.1 (reL rdO (List.drop 4 b) false).2.2).1 = (rdAll (b.drop 4)).1 from rfl,
        show (rdClass (reL rdO (List.drop 4 b) false).1 (reL rdO (List.drop 4 b) false).2.1 (reL rdO (List.drop 4 b) false).2.2).2.2 = (rdAll (b.drop 4)).2 from rfl]
      generalize rdAll (b.drop 4) = r at *
      rw [file_EncodeO_eq hc, Option.bind_some]
      unfold decE
      cases he : encN r.1 with
      | none =>
        show cond ((r.2 || true) || _) _ _ = _
        rw [Bool.or_true]; rfl
      | some l =>
        have hne : ∃ q, l = 74 :: q := by
          unfold encN at he
          cases hm : mayG r.1 with
          | false => rw [hm] at he; cases he
          | true =>
            rw [hm] at he
            simp only [cond_true] at he
            cases hs : decide (6000 < ((bytesC r.1).length : Int)) with
            | true => rw [hs] at he; cases he
            | false =>
              rw [hs] at he
              cases he
              exact outB_ne _
        obtain ⟨q, rfl⟩ := hne
        show ((cond r.2 (some true) ((idx (74 :: q) 0).bind fun v13 => some false)).bind fun v14 => cond (v14 || (!(bytes_Equal (74 :: q) b))) (some ((ApiClass.mk [] [] false [] [] []), 1)) (some (r.1, (0 : Int)))) = _
        rw [idx_zero]
        unfold bytes_Equal
        show _ = some (cond (r.2 || !((74 :: q : List UInt8) == b)) (zeroC, 1) (r.1, 0))
        generalize ((74 :: q : List UInt8) == b) = e
        cases r.2 <;> cases e <;> rfl
def encT (P : List (List UInt8)) : Tok → List UInt8
  | .n x => put x
  | .t s => put (ixN P s : Int)
def OkT (P : List (List UInt8)) : Tok → Prop
  | .n x => I64 x
  | .t s => ixN P s < P.length ∧ P.length ≤ 1000000000
def RT {α : Type} (P : List (List UInt8)) (g : Rea α) (x : α) (l : List Tok) : Prop := (∀ t ∈ l, OkT P t) → ∀ rest, g (l.flatMap (encT P) ++ rest) false = (x, rest, false)
theorem rdN_put {x : Int} (h : I64 x) (rest : List UInt8) : rdN (put x ++ rest) false = (x, rest, false) := by
  unfold rdN
  rw [get_put x rest h.1 h.2]
  simp
section
variable {P : List (List UInt8)}
theorem rt_num {x : Int} : RT P rdN x [.n x] := fun h rest => by
  have h1 : I64 x := h _ (List.mem_singleton.2 rfl)
  rw [List.flatMap_cons, List.flatMap_nil, List.append_nil]
  exact rdN_put h1 rest
theorem rt_truth {v : Bool} : RT P rdB v [tkB v] := fun h rest => by
  have h1 : I64 (cond v 1 0) := h _ (List.mem_singleton.2 rfl)
  rw [List.flatMap_cons, List.flatMap_nil, List.append_nil]
  show (_, _, _) = _
  rw [show encT P (tkB v) = put (cond v 1 0) from rfl, rdN_put h1 rest]
  cases v <;> rfl
theorem rt_text {s : List UInt8} : RT P (rdT P) s [.t s] := fun h rest => by
  obtain ⟨h1, h2⟩ : ixN P s < P.length ∧ P.length ≤ 1000000000 := h _ (List.mem_singleton.2 rfl)
  rw [List.flatMap_cons, List.flatMap_nil, List.append_nil]
  unfold rdT
  rw [show encT P (.t s) = put (ixN P s : Int) from rfl, rdN_put ⟨by omega, by omega⟩ rest]
  simp only
  rw [decide_eq_false (by omega), decide_eq_false (by omega), Int.toNat_natCast, List.getElem?_eq_getElem h1]
  have : (s == P[ixN P s]) = true := List.findIdx_getElem (w := h1)
  rw [← beq_iff_eq.1 this]
  rfl
theorem rt_ret {α : Type} {x : α} : RT P (Rea.ret x) x [] := fun _ rest => rfl
theorem rt_bind {α β : Type} {g : Rea α} {f : α → Rea β} {x : α} {y : β} {l1 l2 : List Tok} (h1 : RT P g x l1) (h2 : RT P (f x) y l2) : RT P (g.bind f) y (l1 ++ l2) := fun h rest => by
  unfold Rea.bind
  rw [List.flatMap_append, List.append_assoc, h1 (fun t ht => h t (List.mem_append_left _ ht))]
  exact h2 (fun t ht => h t (List.mem_append_right _ ht)) rest
theorem rt_cons {α β : Type} {g : Rea α} {f : α → Rea β} {x : α} {y : β} {t : Tok} {l2 : List Tok} (h1 : RT P g x [t]) (h2 : RT P (f x) y l2) : RT P (g.bind f) y (t :: l2) := rt_bind h1 h2
theorem rt_last {α β : Type} {g : Rea α} {x : α} {y : β} {l : List Tok} {f : α → Rea β} (h1 : RT P g x l) (h2 : f x = Rea.ret y) : RT P (g.bind f) y l := by
  have := rt_bind (f := f) h1 (h2 ▸ rt_ret)
  rwa [List.append_nil] at this
theorem rt_list {α : Type} {g : Rea α} {f : α → List Tok} {l : List α} (hl : l.length ≤ 10000) (h : ∀ x ∈ l, RT P g x (f x)) : RT P (reL g) l (tkL f l) := fun hk rest => by
  have key : ∀ (l : List α), (∀ x ∈ l, RT P g x (f x)) → (∀ t ∈ l.flatMap f, OkT P t) → ∀ acc, rdLoop g l.length ((l.flatMap f).flatMap (encT P) ++ rest) false acc = (acc ++ l, rest, false) := by
    intro l
    induction l with
    | nil => intro _ _ acc; simp [rdLoop]
    | cons x l ih =>
      intro h1 h2 acc
      rw [List.length_cons, List.flatMap_cons, List.flatMap_append, List.append_assoc]
      unfold rdLoop
      rw [h1 x (List.mem_cons_self ..) (fun t ht => h2 t (by rw [List.flatMap_cons]; exact List.mem_append_left _ ht))]
      simp only [cond_false]
      rw [ih (fun y hy => h1 y (List.mem_cons_of_mem _ hy)) (fun t ht => h2 t (by rw [List.flatMap_cons]; exact List.mem_append_right _ ht))]
      rw [List.append_assoc]; rfl
  have hn : I64 (l.length : Int) := ⟨by omega, by omega⟩
  unfold reL tkL
  rw [List.flatMap_cons, List.append_assoc, show encT P (.n (l.length : Int)) = put (l.length : Int) from rfl, rdN_put hn]
  simp only [Int.toNat_natCast]
  rw [key l h (fun t ht => hk t (List.mem_cons_of_mem _ ht))]
  rfl
theorem rt_field (f : ApiField) : RT P (rdField P) f (tkField f) := rt_cons rt_text (rt_cons rt_text (rt_last rt_truth rfl))
theorem rt_ins (x : ApiIns) : RT P (rdIns P) x (tkIns x) := rt_cons rt_num (rt_cons rt_num (rt_cons rt_text (rt_last rt_text rfl)))
theorem rt_trap (x : ApiTrap) : RT P (rdTrap P) x (tkTrap x) := rt_cons rt_num (rt_cons rt_num (rt_cons rt_num (rt_last rt_text rfl)))
theorem rt_strings {l : List (List UInt8)} (h : FL FS l) : RT P (reL (rdT P)) l (tkL tkS l) := rt_list h.len fun _ _ => rt_text
theorem rt_map {x : ApiMap} (h : FMap x) : RT P (rdMap P) x (tkMap x) := rt_cons rt_num (rt_bind (rt_strings h.locals) (rt_last (rt_strings h.stack) rfl))
theorem rt_meth {m : ApiMethod} (h : FMeth m) : RT P (rdMeth P) m (tkMeth m) :=
  rt_cons rt_text (rt_bind (rt_strings h.params) (rt_cons rt_text (rt_cons rt_truth (rt_cons rt_truth (rt_cons rt_num (rt_cons rt_num (rt_bind (rt_list h.code.len fun x _ => rt_ins x) (rt_bind (rt_list h.maps.len fun x hx => rt_map (h.maps.all x hx)) (rt_last (rt_list h.traps.len fun x _ => rt_trap x) rfl)))))))))
theorem rt_class {c : ApiClass} (h : FClass c) : RT P (rdClass P) c (tkClass c) :=
  rt_cons rt_text (rt_cons rt_text (rt_cons rt_truth (rt_bind (rt_strings h.impl) (rt_bind (rt_list h.fields.len fun x _ => rt_field x) (rt_last (rt_list h.methods.len fun x hx => rt_meth (h.methods.all x hx)) rfl)))))
end
theorem ixN_app {p q : List (List UInt8)} {s : List UInt8} (h : ixN p s < p.length) : ixN (p ++ q) s = ixN p s := by
  unfold ixN at h ⊢
  rw [List.findIdx_append, if_pos h]
theorem insP_ix (p : List (List UInt8)) (s : List UInt8) : ixN (insP p s) s = ixN p s ∧ ixN p s < (insP p s).length := by
  unfold insP
  cases hd : decide (ixN p s < p.length) with
  | true => exact ⟨rfl, of_decide_eq_true hd⟩
  | false =>
    have h := of_decide_eq_false hd
    have hle := ixN_le p s
    refine ⟨?_, by simp; omega⟩
    unfold ixN at h ⊢
    simp only [cond_false]
    rw [List.findIdx_append, if_neg h]
    simp
    unfold ixN at hle
    omega
theorem pool_ext : ∀ (l : List Tok) (w : W), ∃ q, (wrT w l).1 = w.1 ++ q
  | [], w => ⟨[], by simp [wrT]⟩
  | t :: l, w => by
    obtain ⟨q, h⟩ := pool_ext l (wr1 w t)
    have h1 : ∃ q, (wr1 w t).1 = w.1 ++ q := by
      cases t with
      | n x => exact ⟨[], by simp [wr1]⟩
      | t s =>
        show ∃ q, insP w.1 s = w.1 ++ q
        unfold insP
        cases decide (ixN w.1 s < w.1.length) with
        | true => exact ⟨[], by simp⟩
        | false => exact ⟨[s], rfl⟩
    obtain ⟨q1, h2⟩ := h1
    exact ⟨q1 ++ q, by rw [wrT_cons, h, h2, List.append_assoc]⟩
theorem wr_enc : ∀ (l : List Tok) (w : W) (P : List (List UInt8)), (wrT w l).1 = P → (wrT w l).2 = w.2 ++ l.flatMap (encT P) ∧ ∀ s, Tok.t s ∈ l → ixN P s < P.length
  | [], w, P, _ => ⟨by simp [wrT], fun s h => by cases h⟩
  | t :: l, w, P, h => by
    rw [wrT_cons] at h ⊢
    obtain ⟨h1, h2⟩ := wr_enc l (wr1 w t) P h
    have h3 : (wr1 w t).2 = w.2 ++ encT P t ∧ ∀ s, Tok.t s = t → ixN P s < P.length := by
      cases t with
      | n x => exact ⟨rfl, fun s hs => by cases hs⟩
      | t s =>
        obtain ⟨q, hq⟩ := pool_ext l (wr1 w (.t s))
        rw [h] at hq
        have hq : P = insP w.1 s ++ q := hq
        obtain ⟨k1, k2⟩ := insP_ix w.1 s
        have k3 : ixN P s = ixN w.1 s := by rw [hq, ixN_app (by rw [k1]; exact k2), k1]
        refine ⟨?_, fun s' hs => ?_⟩
        · show w.2 ++ put (ixN w.1 s : Int) = w.2 ++ put (ixN P s : Int)
          rw [k3]
        · cases hs
          rw [k3, hq, List.length_append]
          omega
    refine ⟨by rw [h1, h3.1, List.flatMap_cons, List.append_assoc], fun s hs => ?_⟩
    rcases List.mem_cons.1 hs with hs | hs
    · exact h3.2 s hs
    · exact h2 s hs
theorem rdO_put {s : List UInt8} (h : FS s) (rest : List UInt8) : rdO (putText s ++ rest) false = (s, rest, false) := by
  unfold rdO
  unfold FS at h
  rw [getText_put s rest (by omega)]
  simp
theorem rd_pool {P : List (List UInt8)} (hl : P.length ≤ 1000000000) (hP : ∀ s ∈ P, FS s) (rest : List UInt8) : reL rdO (put (P.length : Int) ++ (P.flatMap putText ++ rest)) false = (P, rest, false) := by
  have key : ∀ (l : List (List UInt8)), (∀ s ∈ l, FS s) → ∀ acc, rdLoop rdO l.length (l.flatMap putText ++ rest) false acc = (acc ++ l, rest, false) := by
    intro l
    induction l with
    | nil => intro _ acc; simp [rdLoop]
    | cons x l ih =>
      intro h1 acc
      rw [List.length_cons, List.flatMap_cons, List.append_assoc]
      unfold rdLoop
      rw [rdO_put (h1 x (List.mem_cons_self ..))]
      simp only [cond_false]
      rw [ih (fun y hy => h1 y (List.mem_cons_of_mem _ hy)), List.append_assoc]; rfl
  unfold reL
  rw [rdN_put ⟨by omega, by omega⟩]
  simp only [Int.toNat_natCast]
  rw [key P hP]
  rfl
theorem rdAll_bytes {c : ApiClass} (h : FClass c) (hm : mayG c = true) : rdAll ((bytesC c).drop 4) = (c, false) ∧ (bytesC c).take 4 = [74, 65, 86, 65] := by
  obtain ⟨l1, l2⟩ := wr_len h hm
  have hp := pool_in (w := ([], [])) (fun s hs => by cases hs) (in_class h)
  obtain ⟨e1, e2⟩ := wr_enc (tkClass c) ([], []) _ rfl
  unfold bytesC
  generalize hw : wrT ([], []) (tkClass c) = w at *
  have e3 : outB w = [74, 65, 86, 65] ++ (put (w.1.length : Int) ++ (w.1.flatMap putText ++ w.2)) := by unfold outB; simp only [List.append_assoc]
  have e4 : (outB w).drop 4 = put (w.1.length : Int) ++ (w.1.flatMap putText ++ w.2) := by rw [e3]; rfl
  refine ⟨?_, by rw [e3]; rfl⟩
  unfold rdAll
  rw [e4, rd_pool (by omega) hp]
  have e5 := rt_class (P := w.1) h (fun t ht => by
    cases t with
    | n x => exact in_class h _ ht
    | t s => exact ⟨e2 s ht, by omega⟩) []
  rw [List.append_nil] at e5
  have e6 : w.2 = (tkClass c).flatMap (encT w.1) := by rw [e1]; rfl
  simp only
  rw [e6, e5]
theorem decN_bytes {c : ApiClass} (h : FClass c) (hm : mayG c = true) (hl : (bytesC c).length ≤ 6000) : decN (bytesC c) = (c, 0) := by
  obtain ⟨h1, h2⟩ := rdAll_bytes h hm
  unfold decN decE encN
  rw [decide_eq_false (by omega), h1, h2]
  simp only
  rw [hm, decide_eq_false (by omega)]
  simp
theorem bytesC_inj {a b : ApiClass} (ha : FClass a) (hma : mayG a = true) (hb : FClass b) (hmb : mayG b = true) (h : bytesC a = bytesC b) : a = b := by
  have h1 := (rdAll_bytes ha hma).1
  rw [h, (rdAll_bytes hb hmb).1] at h1
  exact (congrArg Prod.fst h1).symm
end Go.Proofs.YtdhpdpkcfffpiaaGreat
namespace Go.Proofs.YtdhpdpkcfffpiaaGreat
set_option linter.unusedSimpArgs false
set_option linter.unusedVariables false
set_option linter.unusedSectionVars false
theorem pair_loop {α : Type} {body : Int → Option (Sum Int (Sum Unit Bool))} {a b : List α} {e : α → α → Bool} (hl : a.length ≤ 9223372036854775807) (hn : a.length = b.length)
    (hb : ∀ (i : Nat) x y, a[i]? = some x → b[i]? = some y → body (i : Int) = cond (!e x y) (some (.inr (.inr false))) (some (.inl (IntKind.i64.wrap ((i : Int) + 1)))))
    (he : body (a.length : Int) = some (.inr (.inl ()))) : loopP body 0 = some (cond (eqL e a b) (.inl ()) (.inr false)) := by
  have key : ∀ (r s pre pre' : List α), pre.length = pre'.length → a = pre ++ r → b = pre' ++ s → loopP body (pre.length : Int) = some (cond (eqL e r s) (.inl ()) (.inr false)) := by
    intro r
    induction r with
    | nil =>
      intro s pre pre' hp h1 h2
      have : s = [] := by
        have : a.length = pre.length := by rw [h1]; simp
        have : b.length = pre'.length + s.length := by rw [h2]; simp
        exact List.eq_nil_of_length_eq_zero (by omega)
      subst this
      rw [List.append_nil] at h1
      subst h1
      rw [loopP_eq, he]
      rfl
    | cons x r ih =>
      intro s pre pre' hp h1 h2
      have hlen : a.length = pre.length + (r.length + 1) := by rw [h1]; simp
      have hlen2 : b.length = pre'.length + s.length := by rw [h2]; simp
      cases s with
      | nil => simp at hlen2; omega
      | cons y s =>
        have hx : a[pre.length]? = some x := by rw [h1]; simp
        have hy : b[pre.length]? = some y := by rw [h2, hp]; simp
        rw [loopP_eq, hb _ x y hx hy]
        show _ = some (cond (e x y && eqL e r s) _ _)
        cases e x y with
        | false => rfl
        | true =>
          rw [wrap_succ (by omega)]
          have := ih s (pre ++ [x]) (pre' ++ [y]) (by simp [hp]) (by rw [h1]; simp) (by rw [h2]; simp)
          rw [show (pre ++ [x]).length = pre.length + 1 by simp] at this
          exact this
  exact key a b [] [] rfl rfl rfl
theorem eqL_iff {α : Type} {e : α → α → Bool} (h : ∀ x y, e x y = true ↔ x = y) : ∀ {a b : List α}, eqL e a b = true ↔ a = b
  | [], [] => by simp [eqL]
  | [], y :: b => by simp [eqL]
  | x :: a, [] => by simp [eqL]
  | x :: a, y :: b => by
    unfold eqL
    rw [Bool.and_eq_true, h, eqL_iff h, List.cons.injEq]
theorem beqS_iff (x y : List UInt8) : beqS x y = true ↔ x = y := beq_iff_eq
theorem beqF_iff (x y : ApiField) : beqF x y = true ↔ x = y := by
  cases x; cases y; simp [beqF]
theorem beqI_iff (x y : ApiIns) : beqI x y = true ↔ x = y := by
  cases x; cases y; simp [beqI]
theorem beqT_iff (x y : ApiTrap) : beqT x y = true ↔ x = y := by
  cases x; cases y; simp [beqT]
theorem beqMap_iff (x y : ApiMap) : beqMap x y = true ↔ x = y := by
  cases x; cases y; simp only [beqMap, Bool.and_eq_true, eqL_iff beqS_iff, beq_iff_eq, ApiMap.mk.injEq, and_assoc]
theorem beqM_iff (x y : ApiMethod) : beqM x y = true ↔ x = y := by
  cases x; cases y
  simp only [beqM, Bool.and_eq_true, eqL_iff beqS_iff, eqL_iff beqI_iff, eqL_iff beqT_iff, eqL_iff beqMap_iff, beq_iff_eq, ApiMethod.mk.injEq]
  constructor
  · rintro ⟨⟨⟨⟨⟨h1, ⟨⟨⟨h2, h3⟩, h4⟩, h5⟩, h6⟩, h7⟩, h8⟩, h9⟩, h10⟩
    exact ⟨h2, h3, h4, h5, h6, h7, h8, h9, h1, h10⟩
  · rintro ⟨h2, h3, h4, h5, h6, h7, h8, h9, h1, h10⟩
    exact ⟨⟨⟨⟨⟨h1, ⟨⟨⟨h2, h3⟩, h4⟩, h5⟩, h6⟩, h7⟩, h8⟩, h9⟩, h10⟩
theorem beqC_iff (x y : ApiClass) : beqC x y = true ↔ x = y := by
  cases x; cases y
  simp only [beqC, Bool.and_eq_true, eqL_iff beqS_iff, eqL_iff beqF_iff, eqL_iff beqM_iff, beq_iff_eq, ApiClass.mk.injEq, and_assoc]
theorem ref3_EqTexts_eq {a b : List (List UInt8)} (hl : LenL a) : ref3_EqTexts a b = some (eqL beqS a b) := by
  unfold ref3_EqTexts
  refine equal_loop hl (fun i x y hx hy => ?_) ?_
  · show ref3_EqTexts_l1 a b (i : Int) = _
    unfold ref3_EqTexts_l1
    rw [here hx, idx_nat, idx_nat, hx, hy]; rfl
  · show ref3_EqTexts_l1 a b (a.length : Int) = _
    unfold ref3_EqTexts_l1
    rw [past]; rfl
theorem ref3_EqIns_eq (x y : ApiIns) : ref3_EqIns x y = beqI x y := by
  have : ref3_EqIns x y = ((((x.Op == y.Op) && (x.A == y.A)) && (x.C == y.C)) && (x.M == y.M)) := by rfl
  rw [this]
  unfold beqI
  cases (x.Op == y.Op) <;> cases (x.A == y.A) <;> cases (x.C == y.C) <;> cases (x.M == y.M) <;> rfl
theorem ref3_eqMethod_eq {x y : ApiMethod} (h : FMeth x) : ref3_eqMethod x y = some (beqM x y) := by
  unfold ref3_eqMethod
  rw [ref3_EqTexts_eq h.params.le]
  rw [show (cond (!(x.Name == y.Name)) (some true) ((some (eqL beqS x.Params y.Params)).bind fun v3 => some (!v3))) = some (!((x.Name == y.Name) && eqL beqS x.Params y.Params)) by cases (x.Name == y.Name) <;> rfl, Option.bind_some]
  cases hc : ((((((((!((x.Name == y.Name) && eqL beqS x.Params y.Params) || (!(x.Ret == y.Ret))) || (!(x.Static == y.Static))) || (!(x.Abstract == y.Abstract))) || (!(x.Locals == y.Locals))) || (!(x.Stack == y.Stack))) || (!((List.length x.Code : Int) == (List.length y.Code : Int)))) || (!((List.length x.Maps : Int) == (List.length y.Maps : Int)))) || (!((List.length x.Traps : Int) == (List.length y.Traps : Int)))) with
  | true =>
    have : beqM x y = false := by
      cases hb : beqM x y with
      | false => rfl
      | true =>
        have := (beqM_iff x y).1 hb
        subst this
        rw [(eqL_iff beqS_iff).2 rfl] at hc
        simp at hc
    rw [this]; rfl
  | false =>
    simp only [Bool.or_eq_false_iff, Bool.not_eq_false', Bool.and_eq_true] at hc
    obtain ⟨⟨⟨⟨⟨⟨⟨⟨⟨h1, h2⟩, h3⟩, h4⟩, h5⟩, h6⟩, h7⟩, h8⟩, h9⟩, h10⟩ := hc
    have l8 : x.Code.length = y.Code.length := by have := beq_iff_eq.1 h8; omega
    have l9 : x.Maps.length = y.Maps.length := by have := beq_iff_eq.1 h9; omega
    have l10 : x.Traps.length = y.Traps.length := by have := beq_iff_eq.1 h10; omega
    simp only [cond_false]
    rw [show loopP (fun z => ref3_eqMethod_l1 x y z) 0 = some (cond (eqL beqI x.Code y.Code) (.inl ()) (.inr false)) from pair_loop h.code.le l8 (fun i u v hu hv => by
      show ref3_eqMethod_l1 x y (i : Int) = _
      unfold ref3_eqMethod_l1
      rw [here hu, idx_nat, idx_nat, hu, hv]
      simp only [Option.bind_some, cond_true]
      rw [ref3_EqIns_eq]) (by show ref3_eqMethod_l1 x y (x.Code.length : Int) = _; unfold ref3_eqMethod_l1; rw [past]; rfl)]
    have k4 : ref3_eqMethod_k4 x y = some (eqL beqT x.Traps y.Traps) := by
      unfold ref3_eqMethod_k4
      rw [show loopP (fun z => ref3_eqMethod_l5 x y z) 0 = some (cond (eqL beqT x.Traps y.Traps) (.inl ()) (.inr false)) from pair_loop h.traps.le l10 (fun i u v hu hv => by
        show ref3_eqMethod_l5 x y (i : Int) = _
        unfold ref3_eqMethod_l5
        rw [here hu, idx_nat, idx_nat, hu, hv]
        simp only [Option.bind_some, cond_true]
        unfold beqT
        cases (u.From == v.From) <;> cases (u.To == v.To) <;> cases (u.At == v.At) <;> cases (u.C == v.C) <;> rfl) (by show ref3_eqMethod_l5 x y (x.Traps.length : Int) = _; unfold ref3_eqMethod_l5; rw [past]; rfl)]
      cases eqL beqT x.Traps y.Traps <;> rfl
    have k2 : ref3_eqMethod_k2 x y = some (eqL beqMap x.Maps y.Maps && eqL beqT x.Traps y.Traps) := by
      unfold ref3_eqMethod_k2
      rw [show loopP (fun z => ref3_eqMethod_l3 x y z) 0 = some (cond (eqL beqMap x.Maps y.Maps) (.inl ()) (.inr false)) from pair_loop h.maps.le l9 (fun i u v hu hv => by
        have hm := h.maps.all u (List.mem_of_getElem? hu)
        show ref3_eqMethod_l3 x y (i : Int) = _
        unfold ref3_eqMethod_l3
        rw [here hu, idx_nat, idx_nat, hu, hv]
        simp only [Option.bind_some, cond_true]
        rw [ref3_EqTexts_eq hm.locals.le, ref3_EqTexts_eq hm.stack.le]
        unfold beqMap
        cases (u.At == v.At) <;> cases eqL beqS u.Locals v.Locals <;> cases eqL beqS u.Stack v.Stack <;> rfl) (by show ref3_eqMethod_l3 x y (x.Maps.length : Int) = _; unfold ref3_eqMethod_l3; rw [past]; rfl)]
      simp only [Option.bind_some]
      cases eqL beqMap x.Maps y.Maps with
      | false => rfl
      | true => exact k4
    unfold beqM
    rw [h1, h2, h3, h4, h5, h6, h7]
    simp only [Option.bind_some, Bool.and_true]
    cases eqL beqI x.Code y.Code with
    | false => rw [Bool.and_false]; rfl
    | true =>
      refine k2.trans ?_
      cases eqL beqMap x.Maps y.Maps <;> rfl
theorem ref3_EqClass_eq {x y : ApiClass} (h : FClass x) : ref3_EqClass x y = some (beqC x y) := by
  unfold ref3_EqClass
  rw [ref3_EqTexts_eq h.impl.le]
  rw [show (cond (((!(x.Name == y.Name)) || (!(x.Super == y.Super))) || (!(x.Interface == y.Interface))) (some true) ((some (eqL beqS x.Impl y.Impl)).bind fun v3 => some (!v3))) = some (!((((x.Name == y.Name) && (x.Super == y.Super)) && (x.Interface == y.Interface)) && eqL beqS x.Impl y.Impl)) by
    cases (x.Name == y.Name) <;> cases (x.Super == y.Super) <;> cases (x.Interface == y.Interface) <;> rfl, Option.bind_some]
  cases hc : (((!((((x.Name == y.Name) && (x.Super == y.Super)) && (x.Interface == y.Interface)) && eqL beqS x.Impl y.Impl)) || (!((List.length x.Fields : Int) == (List.length y.Fields : Int)))) || (!((List.length x.Methods : Int) == (List.length y.Methods : Int)))) with
  | true =>
    have : beqC x y = false := by
      cases hb : beqC x y with
      | false => rfl
      | true =>
        have := (beqC_iff x y).1 hb
        subst this
        rw [(eqL_iff beqS_iff).2 rfl] at hc
        simp at hc
    rw [this]; rfl
  | false =>
    simp only [Bool.or_eq_false_iff, Bool.not_eq_false', Bool.and_eq_true] at hc
    obtain ⟨⟨⟨⟨⟨h1, h2⟩, h3⟩, h4⟩, h5⟩, h6⟩ := hc
    have l5 : x.Fields.length = y.Fields.length := by have := beq_iff_eq.1 h5; omega
    have l6 : x.Methods.length = y.Methods.length := by have := beq_iff_eq.1 h6; omega
    simp only [cond_false]
    rw [show loopP (fun z => ref3_EqClass_l1 x y z) 0 = some (cond (eqL beqF x.Fields y.Fields) (.inl ()) (.inr false)) from pair_loop h.fields.le l5 (fun i u v hu hv => by
      show ref3_EqClass_l1 x y (i : Int) = _
      unfold ref3_EqClass_l1
      rw [here hu, idx_nat, idx_nat, hu, hv]
      simp only [Option.bind_some, cond_true]
      unfold beqF
      cases (u.Name == v.Name) <;> cases (u.Type_ == v.Type_) <;> cases (u.Static == v.Static) <;> rfl) (by show ref3_EqClass_l1 x y (x.Fields.length : Int) = _; unfold ref3_EqClass_l1; rw [past]; rfl)]
    have k2 : ref3_EqClass_k2 x y = some (eqL beqM x.Methods y.Methods) := by
      unfold ref3_EqClass_k2
      rw [show loopP (fun z => ref3_EqClass_l3 x y z) 0 = some (cond (eqL beqM x.Methods y.Methods) (.inl ()) (.inr false)) from pair_loop h.methods.le l6 (fun i u v hu hv => by
        show ref3_EqClass_l3 x y (i : Int) = _
        unfold ref3_EqClass_l3
        rw [here hu, idx_nat, idx_nat, hu, hv]
        simp only [Option.bind_some, cond_true]
        rw [ref3_eqMethod_eq (h.methods.all u (List.mem_of_getElem? hu))]
        rfl) (by show ref3_EqClass_l3 x y (x.Methods.length : Int) = _; unfold ref3_EqClass_l3; rw [past]; rfl)]
      cases eqL beqM x.Methods y.Methods <;> rfl
    unfold beqC
    rw [h1, h2, h3, h4]
    simp only [Option.bind_some, Bool.and_true, Bool.true_and]
    cases eqL beqF x.Fields y.Fields with
    | false => rfl
    | true => exact k2
def oneC : ApiClass := ApiClass.mk [65, 98] [79, 98, 106, 101, 99, 116] false [] ([(ApiField.mk [120] [73] false)]) ([(ApiMethod.mk [109, 97, 105, 110] [] [86] true false 0 0 ([(ApiIns.mk 46 0 [] [])]) [] [])])
theorem oneC_in : FClass oneC := by
  refine ⟨by decide, by decide, ⟨by decide, fun x hx => by cases hx⟩, ⟨by decide, fun x hx => ?_⟩, ⟨by decide, fun x hx => ?_⟩⟩
  · obtain rfl := List.mem_singleton.1 hx
    exact ⟨by decide, by decide⟩
  · obtain rfl := List.mem_singleton.1 hx
    refine ⟨by decide, ⟨by decide, fun x hx => by cases hx⟩, by decide, by decide, by decide, ⟨by decide, fun x hx => ?_⟩, ⟨by decide, fun x hx => by cases hx⟩, ⟨by decide, fun x hx => by cases hx⟩⟩
    obtain rfl := List.mem_singleton.1 hx
    exact ⟨by decide, by decide, by decide, by decide⟩
theorem zeroC_in : FClass zeroC := ⟨by decide, by decide, ⟨by decide, fun x hx => by cases hx⟩, ⟨by decide, fun x hx => by cases hx⟩, ⟨by decide, fun x hx => by cases hx⟩⟩
theorem oneC_may : mayG oneC = true := by decide +kernel
theorem zeroC_may : mayG zeroC = false := by decide +kernel
theorem oneC_len : (bytesC oneC).length ≤ 6000 ∧ 10 < (bytesC oneC).length := by decide +kernel
theorem law6_begun_eq : law6_begun = some true := by
  have e1 : encN oneC = some (bytesC oneC) := by
    have := oneC_len.1
    unfold encN; rw [oneC_may, decide_eq_false (by omega)]; rfl
  have e2 : encN zeroC = none := by unfold encN; rw [zeroC_may]; rfl
  have hb : Len (bytesC oneC) := by have := oneC_len.1; unfold Len; omega
  have e3 : file_Encode oneC = some (bytesC oneC) := by rw [file_Encode_eq oneC_in, e1]; rfl
  have e4 : file_Encode zeroC = some [] := by rw [file_Encode_eq zeroC_in, e2]; rfl
  unfold law6_begun
  rw [show file_Encode (ApiClass.mk [65, 98] [79, 98, 106, 101, 99, 116] false [] ([(ApiField.mk [120] [73] false)]) ([(ApiMethod.mk [109, 97, 105, 110] [] [86] true false 0 0 ([(ApiIns.mk 46 0 [] [])]) [] [])])) = _ from e3,
    show file_Encode (ApiClass.mk [] [] false [] [] []) = _ from e4]
  simp only [Option.bind_some, Option.getD_some, Option.getD_none]
  rw [file_Decode_eq _ hb, decN_bytes oneC_in oneC_may oneC_len.1, show file_Decode [] = _ from file_Decode_eq [] (by decide), show decN [] = (zeroC, 1) from rfl]
  simp only [Option.bind_some]
  rw [show law5_Begun = some true from (by unfold law5_Begun; rw [law5_begun_eq]; rfl)]
  rw [show ref3_EqClass (ApiClass.mk [65, 98] [79, 98, 106, 101, 99, 116] false [] ([(ApiField.mk [120] [73] false)]) ([(ApiMethod.mk [109, 97, 105, 110] [] [86] true false 0 0 ([(ApiIns.mk 46 0 [] [])]) [] [])])) oneC = some true from (ref3_EqClass_eq oneC_in).trans (congrArg some ((beqC_iff oneC oneC).2 rfl))]
  obtain ⟨r, hr⟩ := outB_ne (wrT ([], []) (tkClass oneC))
  have hr : bytesC oneC = 74 :: r := hr
  rw [decide_eq_true (show (10 : Int) < ((bytesC oneC).length : Int) by have := oneC_len.2; omega), hr, idx_zero]
  rfl
theorem take_loop {α β R : Type} {body : List β × Int → Option (Sum (List β × Int) (Sum (List β) R))} {l : List α} {n : Nat} {f : α → β} (hn : n ≤ 1000)
    (hb : ∀ acc (i : Nat) x, l[i]? = some x → i < n → acc.length = i → body (acc, (i : Int)) = some (.inl (acc ++ [f x], IntKind.i64.wrap ((i : Int) + 1))))
    (he : ∀ acc (i : Nat), (decide ((i : Int) < (l.length : Int)) && decide ((i : Int) < (n : Int))) = false → body (acc, (i : Int)) = some (.inr (.inl acc))) : loopP body ([], 0) = some (.inl ((l.take n).map f)) := by
  have key : ∀ d i, (l.take n).length - i = d → i ≤ (l.take n).length → loopP body (((l.take n).take i).map f, (i : Int)) = some (.inl ((l.take n).map f)) := by
    intro d
    induction d with
    | zero =>
      intro i hd hi
      have e : i = (l.take n).length := by omega
      rw [loopP_eq, he _ i (by
        rw [List.length_take] at e
        rw [Bool.and_eq_false_iff]
        rcases Nat.le_total n l.length with h | h
        · exact .inr (decide_eq_false (by omega))
        · exact .inl (decide_eq_false (by omega))), e, List.take_length]
      rfl
    | succ d ih =>
      intro i hd hi
      have hlt : i < (l.take n).length := by omega
      have h2 : i < n ∧ i < l.length := by rw [List.length_take] at hlt; omega
      have hx : l[i]? = some l[i] := List.getElem?_eq_getElem h2.2
      rw [loopP_eq, hb _ i l[i] hx h2.1 (by rw [List.length_map, List.length_take]; omega), wrap_succ (by omega)]
      have := ih (i + 1) (by omega) (by omega)
      rw [List.take_add_one, List.getElem?_take_of_lt h2.1, hx] at this
      simp only [Option.toList_some, List.map_append, List.map_cons, List.map_nil] at this
      exact this
  exact key _ 0 rfl (Nat.zero_le _)
theorem more {α : Type} {l : List α} {n i : Nat} {x : α} (h : l[i]? = some x) (hi : i < n) : (decide ((i : Int) < (l.length : Int)) && decide ((i : Int) < (n : Int))) = true := by
  rw [here h, decide_eq_true (by omega)]; rfl
def cutF (f : ApiField) : ApiField := ApiField.mk (f.Name.take 10) (f.Type_.take 12) f.Static
def cutI (x : ApiIns) : ApiIns := ApiIns.mk x.Op x.A (x.C.take 14) (x.M.take 12)
def cutS (n : Nat) (l : List (List UInt8)) : List (List UInt8) := (l.take n).map (·.take 12)
def cutMap (x : ApiMap) : ApiMap := ApiMap.mk x.At (cutS 20 x.Locals) (cutS 20 x.Stack)
def cutT (x : ApiTrap) : ApiTrap := ApiTrap.mk x.From x.To x.At (x.C.take 10)
def cutM (m : ApiMethod) : ApiMethod := ApiMethod.mk (m.Name.take 10) (cutS 8 m.Params) (m.Ret.take 12) m.Static m.Abstract m.Locals m.Stack ((m.Code.take 104).map cutI) ((m.Maps.take 104).map cutMap) ((m.Traps.take 8).map cutT)
def cutC (c : ApiClass) : ApiClass := ApiClass.mk (c.Name.take 10) (c.Super.take 10) c.Interface (cutS 6 c.Impl) ((c.Fields.take 10).map cutF) ((c.Methods.take 10).map cutM)
theorem law5_texts_eq {l : List (List UInt8)} {n : Nat} (hn : n ≤ 100) : law5_texts l (n : Int) = some (cutS n l) := by
  unfold law5_texts
  rw [show loopP (fun z => law5_texts_l1 l (n : Int) z.1 z.2) ([], 0) = some (.inl (cutS n l)) from take_loop (by omega) (fun acc i x hx hi ha => by
    show law5_texts_l1 l (n : Int) acc (i : Int) = _
    unfold law5_texts_l1
    rw [more hx hi, idx_nat, hx]
    simp only [Option.bind_some, cond_true]
    rw [show law1_Cut x 12 = _ from law1_Cut_eq (n := 12), Option.bind_some, appP_ok (by simp; omega) (by simp; omega)]; rfl) (fun acc i h => by
    show law5_texts_l1 l (n : Int) acc (i : Int) = _
    unfold law5_texts_l1
    rw [h]; rfl)]
  rfl
theorem law4_Cut_eq (x : ApiIns) : law4_Cut x = some (cutI x) := by
  unfold law4_Cut
  rw [show law1_Cut x.C 14 = _ from law1_Cut_eq (n := 14), show law1_Cut x.M 12 = _ from law1_Cut_eq (n := 12)]; rfl
theorem law5_method_eq (m : ApiMethod) : law5_method m = some (cutM m) := by
  unfold law5_method
  rw [show law1_Cut m.Name 10 = _ from law1_Cut_eq (n := 10), show law1_Cut m.Ret 12 = _ from law1_Cut_eq (n := 12), show law5_texts m.Params 8 = _ from law5_texts_eq (n := 8) (by decide)]
  simp only [Option.bind_some]
  rw [show loopP (fun z => law5_method_l1 m z.1 z.2) ([], 0) = some (.inl ((m.Code.take 104).map cutI)) from take_loop (by decide) (fun acc i x hx hi ha => by
    show law5_method_l1 m acc (i : Int) = _
    unfold law5_method_l1
    rw [show (decide ((i : Int) < (m.Code.length : Int)) && decide ((i : Int) < 104)) = true from more hx hi, idx_nat, hx]
    simp only [Option.bind_some, cond_true]
    rw [law4_Cut_eq, Option.bind_some, appP_ok (by simp; omega) (by simp; omega)]; rfl) (fun acc i h => by
    show law5_method_l1 m acc (i : Int) = _
    unfold law5_method_l1
    rw [show (decide ((i : Int) < (m.Code.length : Int)) && decide ((i : Int) < 104)) = false from h]; rfl)]
  simp only [Option.bind_some]
  show law5_method_k2 m _ _ _ _ = _
  unfold law5_method_k2
  rw [show loopP (fun z => law5_method_l3 m z.1 z.2) ([], 0) = some (.inl ((m.Maps.take 104).map cutMap)) from take_loop (by decide) (fun acc i x hx hi ha => by
    show law5_method_l3 m acc (i : Int) = _
    unfold law5_method_l3
    rw [show (decide ((i : Int) < (m.Maps.length : Int)) && decide ((i : Int) < 104)) = true from more hx hi, idx_nat, hx]
    simp only [Option.bind_some, cond_true]
    rw [show law5_texts x.Locals 20 = _ from law5_texts_eq (n := 20) (by decide), show law5_texts x.Stack 20 = _ from law5_texts_eq (n := 20) (by decide)]
    simp only [Option.bind_some]
    rw [appP_ok (by simp; omega) (by simp; omega)]; rfl) (fun acc i h => by
    show law5_method_l3 m acc (i : Int) = _
    unfold law5_method_l3
    rw [show (decide ((i : Int) < (m.Maps.length : Int)) && decide ((i : Int) < 104)) = false from h]; rfl)]
  simp only [Option.bind_some]
  show law5_method_k4 m _ _ _ _ _ = _
  unfold law5_method_k4
  rw [show loopP (fun z => law5_method_l5 m z.1 z.2) ([], 0) = some (.inl ((m.Traps.take 8).map cutT)) from take_loop (by decide) (fun acc i x hx hi ha => by
    show law5_method_l5 m acc (i : Int) = _
    unfold law5_method_l5
    rw [show (decide ((i : Int) < (m.Traps.length : Int)) && decide ((i : Int) < 8)) = true from more hx hi, idx_nat, hx]
    simp only [Option.bind_some, cond_true]
    rw [show law1_Cut x.C 10 = _ from law1_Cut_eq (n := 10), Option.bind_some, appP_ok (by simp; omega) (by simp; omega)]; rfl) (fun acc i h => by
    show law5_method_l5 m acc (i : Int) = _
    unfold law5_method_l5
    rw [show (decide ((i : Int) < (m.Traps.length : Int)) && decide ((i : Int) < 8)) = false from h]; rfl)]
  rfl
theorem law5_Cut_eq (c : ApiClass) : law5_Cut c = some ((cutC c).Name, (cutC c).Super, (cutC c).Impl, (cutC c).Fields, (cutC c).Methods) := by
  unfold law5_Cut
  rw [show law1_Cut c.Name 10 = _ from law1_Cut_eq (n := 10), show law1_Cut c.Super 10 = _ from law1_Cut_eq (n := 10), show law5_texts c.Impl 6 = _ from law5_texts_eq (n := 6) (by decide)]
  simp only [Option.bind_some]
  rw [show loopP (fun z => law5_Cut_l1 c z.1 z.2) ([], 0) = some (.inl ((c.Fields.take 10).map cutF)) from take_loop (by decide) (fun acc i x hx hi ha => by
    show law5_Cut_l1 c acc (i : Int) = _
    unfold law5_Cut_l1
    rw [show (decide ((i : Int) < (c.Fields.length : Int)) && decide ((i : Int) < 10)) = true from more hx hi, idx_nat, hx]
    simp only [Option.bind_some, cond_true]
    rw [show law1_Cut x.Name 10 = _ from law1_Cut_eq (n := 10), show law1_Cut x.Type_ 12 = _ from law1_Cut_eq (n := 12)]
    simp only [Option.bind_some]
    rw [appP_ok (by simp; omega) (by simp; omega)]; rfl) (fun acc i h => by
    show law5_Cut_l1 c acc (i : Int) = _
    unfold law5_Cut_l1
    rw [show (decide ((i : Int) < (c.Fields.length : Int)) && decide ((i : Int) < 10)) = false from h]; rfl)]
  simp only [Option.bind_some]
  show law5_Cut_k2 c _ _ _ _ = _
  unfold law5_Cut_k2
  rw [show loopP (fun z => law5_Cut_l3 c z.1 z.2) ([], 0) = some (.inl ((c.Methods.take 10).map cutM)) from take_loop (by decide) (fun acc i x hx hi ha => by
    show law5_Cut_l3 c acc (i : Int) = _
    unfold law5_Cut_l3
    rw [show (decide ((i : Int) < (c.Methods.length : Int)) && decide ((i : Int) < 10)) = true from more hx hi, idx_nat, hx]
    simp only [Option.bind_some, cond_true]
    rw [law5_method_eq, Option.bind_some, appP_ok (by simp; omega) (by simp; omega)]; rfl) (fun acc i h => by
    show law5_Cut_l3 c acc (i : Int) = _
    unfold law5_Cut_l3
    rw [show (decide ((i : Int) < (c.Methods.length : Int)) && decide ((i : Int) < 10)) = false from h]; rfl)]
  rfl
end Go.Proofs.YtdhpdpkcfffpiaaGreat
namespace Go.Proofs.YtdhpdpkcfffpiaaGreat
set_option linter.unusedSimpArgs false
set_option linter.unusedVariables false
set_option linter.unusedSectionVars false
theorem i64_w {n : Int} (h : wI .i64 n) : I64 n := by
  have h : (Lit.int .i64 n).wf = true := h
  unfold Lit.wf at h
  simp [IntKind.min, IntKind.max, IntKind.bits, IntKind.signed] at h
  exact ⟨by omega, by omega⟩
theorem FS.take (s : List UInt8) {n : Nat} (hn : n ≤ 100) : FS (s.take n) := by unfold FS; rw [List.length_take]; omega
theorem cutS_in {l : List (List UInt8)} {n : Nat} (hn : n ≤ 100) : FL FS (cutS n l) := by
  refine ⟨by unfold cutS; rw [List.length_map, List.length_take]; omega, fun x hx => ?_⟩
  obtain ⟨y, _, rfl⟩ := List.mem_map.1 hx
  exact FS.take y (by decide)
theorem cutL_in {α : Type} {Q : α → Prop} {l : List α} {f : α → α} {n : Nat} (hn : n ≤ 200) (h : ∀ x ∈ l, Q (f x)) : FL Q ((l.take n).map f) := by
  refine ⟨by rw [List.length_map, List.length_take]; omega, fun x hx => ?_⟩
  obtain ⟨y, hy, rfl⟩ := List.mem_map.1 hx
  exact h y (List.mem_of_mem_take hy)
theorem cutM_in {m : ApiMethod} (h : wApiMethod m) : FMeth (cutM m) := by
  obtain ⟨_, _, _, _, _, h1, h2, h3, h4, h5⟩ := h
  exact ⟨FS.take _ (by decide), cutS_in (by decide), FS.take _ (by decide), i64_w h1, i64_w h2,
    cutL_in (by decide) fun x hx => ⟨i64_w (h3.2 x hx).1, i64_w (h3.2 x hx).2.1, FS.take _ (by decide), FS.take _ (by decide)⟩,
    cutL_in (by decide) fun x hx => ⟨i64_w (h4.2 x hx).1, cutS_in (by decide), cutS_in (by decide)⟩,
    cutL_in (by decide) fun x hx => ⟨i64_w (h5.2 x hx).1, i64_w (h5.2 x hx).2.1, i64_w (h5.2 x hx).2.2.1, FS.take _ (by decide)⟩⟩
theorem cutC_in {c : ApiClass} (h : wApiClass c) : FClass (cutC c) := by
  obtain ⟨_, _, _, _, _, h1⟩ := h
  exact ⟨FS.take _ (by decide), FS.take _ (by decide), cutS_in (by decide), cutL_in (by decide) fun x hx => ⟨FS.take _ (by decide), FS.take _ (by decide)⟩, cutL_in (by decide) fun x hx => cutM_in (h1.2 x hx)⟩
theorem encN_may {c : ApiClass} (hm : mayG c = true) (hl : (bytesC c).length ≤ 6000) : encN c = some (bytesC c) := by
  unfold encN; rw [hm, decide_eq_false (by omega)]; rfl
theorem encN_long {c : ApiClass} (hm : mayG c = true) (hl : 6000 < (bytesC c).length) : encN c = none := by
  unfold encN; rw [hm, decide_eq_true (by omega)]; rfl
theorem bytesC_ne (c : ApiClass) : ∃ r, bytesC c = 74 :: r := outB_ne _
def flipF (f : ApiField) : ApiField := ApiField.mk f.Name f.Type_ (!f.Static)
def flipC (c : ApiClass) : ApiClass := ApiClass.mk c.Name c.Super c.Interface c.Impl (c.Fields.map flipF) c.Methods
theorem uB_map {α : Type} {ok : α → Bool} {nm : α → List UInt8} {g : α → α} (h1 : ∀ x, ok (g x) = ok x) (h2 : ∀ x, nm (g x) = nm x) : ∀ (l pre pre' : List α), pre'.map nm = pre.map nm → uB ok nm pre' (l.map g) = uB ok nm pre l
  | [], pre, pre', _ => rfl
  | x :: l, pre, pre', hp => by
    show ((!ok (g x) || pre'.any (fun y => nm (g x) == nm y)) || uB ok nm (pre' ++ [g x]) (l.map g)) = ((!ok x || pre.any (fun y => nm x == nm y)) || uB ok nm (pre ++ [x]) l)
    have e : ∀ l : List α, l.any (fun y => nm x == nm y) = (l.map nm).any (fun z => nm x == z) := fun l => by rw [List.any_map]; rfl
    rw [h1, h2, e, e, hp, uB_map h1 h2 l (pre ++ [x]) (pre' ++ [g x]) (by rw [List.map_append, List.map_append, hp]; simp [h2])]
theorem flip_may (c : ApiClass) : mayG (flipC c) = mayG c := by
  unfold mayG flipC
  simp only [List.length_map]
  rw [uB_map (ok := fieldN) (nm := (·.Name)) (g := flipF) (fun x => rfl) (fun x => rfl) c.Fields [] [] rfl]
theorem flip_in {c : ApiClass} (h : FClass c) : FClass (flipC c) :=
  ⟨h.name, h.super, h.impl, ⟨by show (c.Fields.map flipF).length ≤ 10000; rw [List.length_map]; exact h.fields.len, fun x hx => by
    obtain ⟨y, hy, rfl⟩ := List.mem_map.1 hx
    exact ⟨(h.fields.all y hy).name, (h.fields.all y hy).type⟩⟩, h.methods⟩
inductive Alike : List Tok → List Tok → Prop
  | nil : Alike [] []
  | same (t : Tok) {l r : List Tok} (h : Alike l r) : Alike (t :: l) (t :: r)
  | b (x y : Bool) {l r : List Tok} (h : Alike l r) : Alike (tkB x :: l) (tkB y :: r)
theorem Alike.refl : ∀ l, Alike l l
  | [] => .nil
  | t :: l => .same t (Alike.refl l)
theorem Alike.app {a b c d : List Tok} (h : Alike a b) (k : Alike c d) : Alike (a ++ c) (b ++ d) := by
  induction h with
  | nil => exact k
  | same t _ ih => exact .same t ih
  | b x y _ ih => exact .b x y ih
theorem put_b (x : Bool) : (put (cond x 1 0)).length = 1 := by cases x <;> rfl
theorem Alike.wr {l r : List Tok} (h : Alike l r) : ∀ (w v : W), w.1 = v.1 → w.2.length = v.2.length → (wrT w l).1 = (wrT v r).1 ∧ (wrT w l).2.length = (wrT v r).2.length := by
  induction h with
  | nil => exact fun w v h1 h2 => ⟨h1, h2⟩
  | same t _ ih =>
    intro w v h1 h2
    refine ih (wr1 w t) (wr1 v t) ?_ ?_
    · cases t with
      | n x => exact h1
      | t s => show insP w.1 s = insP v.1 s; rw [h1]
    · cases t with
      | n x => show (w.2 ++ _).length = (v.2 ++ _).length; rw [List.length_append, List.length_append, h2]
      | t s => show (w.2 ++ put (ixN w.1 s : Int)).length = (v.2 ++ put (ixN v.1 s : Int)).length; rw [List.length_append, List.length_append, h2, h1]
  | b x y _ ih =>
    intro w v h1 h2
    refine ih (wr1 w (tkB x)) (wr1 v (tkB y)) h1 ?_
    show (w.2 ++ put (cond x 1 0)).length = (v.2 ++ put (cond y 1 0)).length
    rw [List.length_append, List.length_append, h2, put_b, put_b]
theorem flip_alike (c : ApiClass) : Alike (tkClass c) (tkClass (flipC c)) := by
  unfold tkClass
  refine .same _ (.same _ (.same _ (Alike.app (Alike.refl _) (Alike.app ?_ (Alike.refl _)))))
  show Alike (tkL tkField c.Fields) (tkL tkField (c.Fields.map flipF))
  unfold tkL
  rw [List.length_map]
  refine .same _ ?_
  induction c.Fields with
  | nil => exact .nil
  | cons f l ih =>
    rw [List.flatMap_cons, List.map_cons, List.flatMap_cons]
    exact Alike.app (.same _ (.same _ (.b _ _ .nil))) ih
theorem flip_len (c : ApiClass) : (bytesC c).length = (bytesC (flipC c)).length := by
  obtain ⟨h1, h2⟩ := (flip_alike c).wr ([], []) ([], []) rfl rfl
  unfold bytesC outB
  simp only [List.length_append]
  rw [h1, h2]
theorem flip_loop (l : List ApiField) (hl : l.length ≤ 1000000) : loopP (fun z => law6_FileTruths_l1 z.1 z.2) (l, 0) = some (.inl (l.map flipF)) := by
  have key : ∀ (r pre : List ApiField), pre.length + r.length ≤ 1000000 → loopP (fun z => law6_FileTruths_l1 z.1 z.2) (pre.map flipF ++ r, (pre.length : Int)) = some (.inl ((pre ++ r).map flipF)) := by
    intro r
    induction r with
    | nil =>
      intro pre _
      rw [loopP_eq]
      show ((law6_FileTruths_l1 (pre.map flipF ++ []) (pre.length : Int)).bind _) = _
      unfold law6_FileTruths_l1
      rw [decide_eq_false (by simp)]
      simp
    | cons x r ih =>
      intro pre hp
      rw [List.length_cons] at hp
      have hx : (pre.map flipF ++ x :: r)[pre.length]? = some x := by
        rw [List.getElem?_append_right (by simp)]; simp
      rw [loopP_eq]
      show ((law6_FileTruths_l1 (pre.map flipF ++ x :: r) (pre.length : Int)).bind _) = _
      unfold law6_FileTruths_l1
      rw [here hx, idx_nat, hx, wrap_succ (by omega)]
      simp only [Option.bind_some, cond_true, Int.toNat_natCast]
      have hs : List.set (pre.map flipF ++ x :: r) pre.length (ApiField.mk x.Name x.Type_ (!x.Static)) = (pre ++ [x]).map flipF ++ r := by
        rw [List.set_append_right _ _ (by simp)]
        simp [flipF]
      rw [hs]
      have := ih (pre ++ [x]) (by simp; omega)
      rw [show (pre ++ [x]).length = pre.length + 1 by simp, List.append_assoc] at this
      exact this
  exact key l [] (by simpa using hl)
theorem take_twice {α β : Type} {l : List α} {n : Nat} {f : α → β} {g : β → β} (h : ∀ x, g (f x) = f x) : ((((l.take n).map f).take n).map g) = (l.take n).map f := by
  rw [← List.map_take, List.take_take, Nat.min_self, List.map_map]
  exact List.map_congr_left fun x _ => h x
theorem take12 (s : List UInt8) (n : Nat) : (s.take n).take n = s.take n := by rw [List.take_take, Nat.min_self]
theorem cutS_twice (n : Nat) (l : List (List UInt8)) : cutS n (cutS n l) = cutS n l := take_twice fun x => take12 x 12
theorem cutM_twice (m : ApiMethod) : cutM (cutM m) = cutM m := by
  unfold cutM
  simp only [cutS_twice, take12]
  rw [take_twice (f := cutI) (g := cutI) fun x => by unfold cutI; simp only [take12], take_twice (f := cutMap) (g := cutMap) fun x => by unfold cutMap; simp only [cutS_twice], take_twice (f := cutT) (g := cutT) fun x => by unfold cutT; simp only [take12]]
theorem cutC_twice (c : ApiClass) : cutC (cutC c) = cutC c := by
  unfold cutC
  simp only [cutS_twice, take12]
  rw [take_twice (f := cutF) (g := cutF) fun x => by unfold cutF; simp only [take12], take_twice (f := cutM) (g := cutM) fun x => cutM_twice x]
theorem law6_FileTruths_eq {c : ApiClass} (hc : wApiClass c) : law6_FileTruths c = some true := by
  have ic := cutC_in hc
  unfold law6_FileTruths
  rw [law6_begun_eq, law5_Cut_eq]
  simp only [Option.bind_some, Bool.not_true, cond_false]
  rw [show ApiClass.mk (cutC c).Name (cutC c).Super c.Interface (cutC c).Impl (cutC c).Fields (cutC c).Methods = cutC c from rfl, law5_Cut_eq, cutC_twice]
  have key : ∀ b, law6_FileTruths_k2 c ((cutC c).Name, (cutC c).Super, (cutC c).Impl, (cutC c).Fields, (cutC c).Methods) ((cutC c).Name, (cutC c).Super, (cutC c).Impl, (cutC c).Fields, (cutC c).Methods) b = 
      ((file_Encode (cutC c)).bind fun v16 => (file_Encode (ApiClass.mk (cutC c).Name (cutC c).Super (cutC c).Interface (cutC c).Impl b (cutC c).Methods)).bind fun v17 => some ((((((List.length v16) : Int) == (0 : Int)) == (((List.length v17) : Int) == (0 : Int))) && (((List.length v16) : Int) == ((List.length v17) : Int))) && ((v16 == v17) == (((List.length (cutC c).Fields : Int) == (0 : Int)) || (((List.length v16) : Int) == (0 : Int)))))) := fun b => rfl
  rw [ref3_MayClass_eq ic.cg]
  simp only [Option.bind_some]
  cases hm : mayG (cutC c) with
  | false => rfl
  | true =>
    simp only [Bool.not_true, cond_false]
    rw [flip_loop _ (by have := ic.fields.len; omega)]
    simp only [Option.bind_some]
    show law6_FileTruths_k2 c _ _ ((cutC c).Fields.map flipF) = _
    rw [key]
    generalize cutC c = x at *
    rw [show ApiClass.mk x.Name x.Super x.Interface x.Impl (x.Fields.map flipF) x.Methods = flipC x from rfl, file_Encode_eq ic, file_Encode_eq (flip_in ic)]
    simp only [Option.bind_some]
    have hm2 : mayG (flipC x) = true := (flip_may x).trans hm
    have hlen := flip_len x
    rcases Nat.lt_or_ge 6000 (bytesC x).length with h2 | h2
    · rw [encN_long hm h2, encN_long hm2 (by omega)]
      simp
    · rw [encN_may hm h2, encN_may hm2 (by omega)]
      obtain ⟨r, hr⟩ := bytesC_ne x
      have hne : ((bytesC x).length : Int) ≠ 0 := by rw [hr]; simp; omega
      simp only [Option.getD_some]
      rw [← hlen, beq_eq_false_iff_ne.2 hne, Bool.or_false, beq_self_eq_true, beq_self_eq_true, Bool.and_self, Bool.true_and]
      congr 1
      cases hf : x.Fields with
      | nil =>
        have : flipC x = x := by
          cases x
          simp only at hf
          subst hf
          rfl
        rw [this]; simp
      | cons f l =>
        have : (bytesC x == bytesC (flipC x)) = false := beq_eq_false_iff_ne.2 fun e => by
          have e2 := bytesC_inj ic hm (flip_in ic) hm2 e
          have e3 : x.Fields = x.Fields.map flipF := congrArg ApiClass.Fields e2
          rw [hf, List.map_cons] at e3
          have e4 := congrArg (fun y : List ApiField => y.head?.map (·.Static)) e3
          simp [flipF] at e4
        rw [this, beq_eq_false_iff_ne.2 (show (((f :: l).length : Nat) : Int) ≠ 0 by simp; omega)]
        rfl
theorem fileTruths_pure (c : ApiClass) (hc : wApiClass c) : PureC Tryz.prog 6 [.agg (rApiClass c)] (.lit (.bool true)) := law6_FileTruths_ok c (law6_FileTruths_eq hc)
end Go.Proofs.YtdhpdpkcfffpiaaGreat
