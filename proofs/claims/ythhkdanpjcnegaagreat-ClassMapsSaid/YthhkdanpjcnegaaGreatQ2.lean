/- Plain laws, part 2: names and types: the program's and the document's are the same. -/
import Derived.Test.YthhkdanpjcnegaaGreatQ1
import Derived.Test.YthhkdanpjcnegaaGreatG3
namespace Go.Proofs.YthhkdanpjcnegaaGreat
set_option linter.unusedSimpArgs false
set_option linter.unusedVariables false

noncomputable def okC (x : UInt8) : Bool := kind_small x || kind_great x || kind_digit x
def headP (p : UInt8 → Bool) : List UInt8 → Bool
  | [] => false
  | x :: _ => p x
noncomputable def wordN (s : List UInt8) : Bool := s.all okC && (!(s == []) && decide ((s.length : Int) ≤ 8))
noncomputable def classN (s : List UInt8) : Bool := wordN s && decide (1 < (s.length : Int)) && headP kind_great s
noncomputable def nameN (s : List UInt8) : Bool := (s == [36, 105, 110, 105, 116]) || (wordN s && headP kind_small s)
def trim1 : List UInt8 → List UInt8
  | [] => []
  | x :: r => if x = 91 then r else x :: r
noncomputable def mayN (s : List UInt8) : Bool := (trim1 (trim1 s) == [73]) || classN (trim1 (trim1 s))
noncomputable def refN (s : List UInt8) : Bool := !(s == [73]) && mayN s
noncomputable def retN (s : List UInt8) : Bool := (s == [86]) || mayN s

abbrev Len (s : List UInt8) : Prop := s.length ≤ 9223372036854775807

theorem not_all {α : Type} (l : List α) (p : α → Bool) : l.any (fun x => !p x) = !l.all p := by
  induction l with
  | nil => rfl
  | cons x l ih => rw [List.any_cons, List.all_cons, ih]; cases p x <;> rfl

theorem kind_word_eq {s : List UInt8} (h : Len s) : kind_word s = some (wordN s) := by
  have hl : loopP (fun z => kind_word_l1 s z) 0 = _ := loop_list (l := s) (g := fun x => cond (!okC x) (some false) none) (u := ()) (fun i x hx => by
    have hi := (List.getElem?_eq_some_iff.1 hx).1
    show kind_word_l1 s (i : Int) = _
    unfold kind_word_l1
    rw [idx_nat, hx, decide_eq_true (by omega), wrap_succ (by unfold Len at h; omega)]
    unfold okC
    cases h1 : kind_small x <;> cases h2 : kind_great x <;> cases h3 : kind_digit x <;> simp [h1, h2, h3, asks]) (by
    show kind_word_l1 s (s.length : Int) = _
    unfold kind_word_l1
    rw [decide_eq_false (by omega)]
    rfl)
  unfold kind_word
  rw [hl, findSome_any, not_all]
  unfold wordN
  cases s.all okC <;> rfl

theorem headP_cons (p : UInt8 → Bool) (x : UInt8) (r : List UInt8) : headP p (x :: r) = p x := rfl
theorem wordN_ne {s : List UInt8} (h : wordN s = true) : ∃ x r, s = x :: r := by
  cases s with
  | nil => exact absurd h (by decide)
  | cons x r => exact ⟨x, r, rfl⟩

theorem kind_Class_eq {s : List UInt8} (h : Len s) : kind_Class s = some (classN s) := by
  unfold kind_Class
  rw [kind_word_eq h, idx_zero]
  unfold classN
  cases hw : wordN s with
  | false => rfl
  | true =>
    obtain ⟨x, r, rfl⟩ := wordN_ne hw
    simp only [Option.bind_some, Bool.true_and, List.getElem?_cons_zero]
    cases decide (1 < ((x :: r).length : Int)) <;> rfl
theorem kind_Name_eq {s : List UInt8} (h : Len s) : kind_Name s = some (nameN s) := by
  unfold kind_Name
  rw [kind_word_eq h, idx_zero]
  unfold nameN
  cases s == [36, 105, 110, 105, 116] with
  | true => rfl
  | false =>
    cases hw : wordN s with
    | false => rfl
    | true =>
      obtain ⟨x, r, rfl⟩ := wordN_ne hw
      rfl

theorem trim1_cons (x : UInt8) (r : List UInt8) : trim1 (x :: r) = if x = 91 then r else x :: r := rfl
theorem trim1_len (s : List UInt8) : (trim1 s).length ≤ s.length := by
  cases s with
  | nil => exact Nat.le_refl _
  | cons x r => rw [trim1_cons]; split <;> simp

theorem trim_eq {s : List UInt8} (h : Len s) : strings_TrimPrefix s [91] = some (trim1 s) := by
  unfold strings_TrimPrefix internal_stringslite_TrimPrefix internal_stringslite_HasPrefix
  cases s with
  | nil => rfl
  | cons x r =>
    have e1 : decide ((List.length [(91 : UInt8)] : Int) ≤ (List.length (x :: r) : Int)) = true := decide_eq_true (by simp only [List.length_cons, List.length_nil]; omega)
    have e2 : cutP (x :: r) 0 (List.length [(91 : UInt8)] : Int) = some [x] := by
      have := cutP_to (l := x :: r) (b := 1) (by simp)
      simpa using this
    have e3 : cutP (x :: r) (List.length [(91 : UInt8)] : Int) (List.length (x :: r) : Int) = some r := by
      have := cutP_from (l := x :: r) (a := 1) (by simp)
      simpa using this
    rw [e1, e2, e3, trim1_cons]
    by_cases hx : x = 91
    · subst hx; rfl
    · rw [if_neg hx]
      have : ([x] == [(91 : UInt8)]) = false := by simp [hx]
      simp [this]

theorem kind_May_eq {s : List UInt8} (h : Len s) : kind_May s = some (mayN s) := by
  have h1 := trim1_len s
  have h2 := trim1_len (trim1 s)
  unfold kind_May
  rw [trim_eq h, Option.bind_some, trim_eq (by unfold Len at *; omega), Option.bind_some, kind_Class_eq (by unfold Len at *; omega)]
  unfold mayN
  cases trim1 (trim1 s) == [73] <;> rfl
theorem kind_Ref_eq {s : List UInt8} (h : Len s) : kind_Ref s = some (refN s) := by
  unfold kind_Ref
  rw [kind_May_eq h]
  unfold refN
  cases s == [73] <;> rfl
theorem kind_Ret_eq {s : List UInt8} (h : Len s) : kind_Ret s = some (retN s) := by
  unfold kind_Ret
  rw [kind_May_eq h]
  unfold retN
  cases s == [86] <;> rfl

theorem ref_great (x : UInt8) : ref3_great x = kind_great x := rfl
theorem ref_little (x : UInt8) : ref3_little x = kind_small x := rfl
theorem ref_digit (x : UInt8) : ref3_digit x = kind_digit x := rfl

theorem ref3_Class_eq {s : List UInt8} (h : Len s) : ref3_Class s = some (classN s) := by
  unfold ref3_Class
  have hend : ref3_Class_l1 s (s.length : Int) = some (.inr (.inl ())) := by
    unfold ref3_Class_l1; rw [decide_eq_false (by omega)]; rfl
  cases s with
  | nil => rw [loopP_eq]; rfl
  | cons x r =>
    have hrest : loopP (fun z => ref3_Class_l1 (x :: r) z) ((1 : Nat) : Int) = some (ends () (((x :: r).drop 1).findSome? (fun y => cond (!okC y) (some false) none))) :=
      loop_from (k := 1) (g := fun y => cond (!okC y) (some false) none) (fun i y hi hy => by
        have hlt := (List.getElem?_eq_some_iff.1 hy).1
        show ref3_Class_l1 (x :: r) (i : Int) = _
        unfold ref3_Class_l1
        rw [idx_nat, hy, decide_eq_true (by omega), wrap_succ (by unfold Len at h; omega)]
        have e : ((i : Int) == (0 : Int)) = false := by simp; omega
        rw [e]
        simp only [ref_great, ref_little, ref_digit]
        unfold okC
        cases h1 : kind_small y <;> cases h2 : kind_great y <;> cases h3 : kind_digit y <;> simp [h1, h2, h3, asks]) hend (by simp)
    have hfirst : ref3_Class_l1 (x :: r) 0 = some (cond (kind_great x) (.inl 1) (.inr (.inr false))) := by
      unfold ref3_Class_l1
      rw [idx_zero, decide_eq_true (by simp only [List.length_cons, List.length_nil]; omega)]
      simp only [ref_great]
      have : IntKind.i64.wrap (0 + 1) = 1 := by decide
      rw [this]
      simp only [List.getElem?_cons_zero, Option.bind_some]
      cases hg : kind_great x <;> rfl
    rw [loopP_eq, hfirst]
    cases hg : kind_great x with
    | false =>
      have : classN (x :: r) = false := by unfold classN; rw [headP_cons, hg]; simp
      rw [this]
      rfl
    | true =>
      show ((loopP (fun z => ref3_Class_l1 (x :: r) z) ((1 : Nat) : Int)).bind _) = _
      rw [hrest, List.drop_one, List.tail_cons, findSome_any, not_all]
      have : classN (x :: r) = (r.all okC && (decide (2 ≤ (List.length (x :: r) : Int)) && decide ((List.length (x :: r) : Int) ≤ 8))) := by
        unfold classN wordN
        rw [headP_cons]
        have ho : okC x = true := by unfold okC; rw [hg]; simp
        rw [List.all_cons, ho, hg]
        have e : decide (1 < (List.length (x :: r) : Int)) = decide (2 ≤ (List.length (x :: r) : Int)) := by congr 1
        rw [e]
        have e2 : ((x :: r) == []) = false := rfl
        rw [e2]
        cases r.all okC <;> cases decide (2 ≤ (List.length (x :: r) : Int)) <;> cases decide ((List.length (x :: r) : Int) ≤ 8) <;> rfl
      rw [this]
      cases r.all okC <;> rfl

theorem ref3_Name_eq {s : List UInt8} (h : Len s) : ref3_Name s = some (nameN s) := by
  unfold ref3_Name
  have hend : ref3_Name_l1 s (s.length : Int) = some (.inr (.inl ())) := by
    unfold ref3_Name_l1; rw [decide_eq_false (by omega)]; rfl
  unfold nameN
  cases s == [36, 105, 110, 105, 116] with
  | true => rfl
  | false =>
  show (loopP _ _).bind _ = some (wordN s && headP kind_small s)
  cases s with
  | nil => rw [loopP_eq]; rfl
  | cons x r =>
    have hrest : loopP (fun z => ref3_Name_l1 (x :: r) z) ((1 : Nat) : Int) = some (ends () (((x :: r).drop 1).findSome? (fun y => cond (!okC y) (some false) none))) :=
      loop_from (k := 1) (g := fun y => cond (!okC y) (some false) none) (fun i y hi hy => by
        have hlt := (List.getElem?_eq_some_iff.1 hy).1
        show ref3_Name_l1 (x :: r) (i : Int) = _
        unfold ref3_Name_l1
        rw [idx_nat, hy, decide_eq_true (by omega), wrap_succ (by unfold Len at h; omega)]
        have e : ((i : Int) == (0 : Int)) = false := by simp; omega
        rw [e]
        simp only [ref_great, ref_little, ref_digit]
        unfold okC
        cases h1 : kind_small y <;> cases h2 : kind_great y <;> cases h3 : kind_digit y <;> simp [h1, h2, h3, asks]) hend (by simp)
    have hfirst : ref3_Name_l1 (x :: r) 0 = some (cond (kind_small x) (.inl 1) (.inr (.inr false))) := by
      unfold ref3_Name_l1
      rw [idx_zero, decide_eq_true (by simp only [List.length_cons, List.length_nil]; omega)]
      simp only [ref_little]
      have : IntKind.i64.wrap (0 + 1) = 1 := by decide
      rw [this]
      simp only [List.getElem?_cons_zero, Option.bind_some]
      cases hg : kind_small x <;> rfl
    rw [loopP_eq, hfirst]
    cases hg : kind_small x with
    | false =>
      have : (wordN (x :: r) && headP kind_small (x :: r)) = false := by rw [headP_cons, hg]; simp
      rw [this]
      rfl
    | true =>
      show ((loopP (fun z => ref3_Name_l1 (x :: r) z) ((1 : Nat) : Int)).bind _) = _
      rw [hrest, List.drop_one, List.tail_cons, findSome_any, not_all]
      have : (wordN (x :: r) && headP kind_small (x :: r)) = (r.all okC && (decide (1 ≤ (List.length (x :: r) : Int)) && decide ((List.length (x :: r) : Int) ≤ 8))) := by
        unfold wordN
        rw [headP_cons]
        have ho : okC x = true := by unfold okC; rw [hg]; simp
        rw [List.all_cons, ho, hg]
        have e2 : ((x :: r) == []) = false := rfl
        have e3 : decide (1 ≤ (List.length (x :: r) : Int)) = true := decide_eq_true (by simp only [List.length_cons, List.length_nil]; omega)
        rw [e2, e3]
        cases r.all okC <;> cases decide ((List.length (x :: r) : Int) ≤ 8) <;> rfl
      rw [this]
      cases r.all okC <;> rfl

theorem ref3_May_eq {s : List UInt8} (h : Len s) : ref3_May s = some (mayN s) := by
  have step : ∀ (t : List UInt8) (i : Int), i < 2 → ref3_May_l1 t i = some (match t with | [] => .inr (.inl []) | x :: r => if x = 91 then .inl (r, IntKind.i64.wrap (i + 1)) else .inr (.inl (x :: r))) := fun t i hi => by
    unfold ref3_May_l1
    rw [decide_eq_true hi]
    cases t with
    | nil => rfl
    | cons x r =>
      have e1 : decide ((0 : Int) < (List.length (x :: r) : Int)) = true := decide_eq_true (by simp only [List.length_cons, List.length_nil]; omega)
      have e3 : cutP (x :: r) 1 (List.length (x :: r) : Int) = some r := by
        have := cutP_from (l := x :: r) (a := 1) (by simp)
        simpa using this
      rw [e1, idx_zero, e3]
      by_cases hx : x = 91
      · subst hx; rfl
      · have e : ((x.toNat : Int) == (91 : Int)) = false := by
          rw [beq_eq_false_iff_ne]
          intro h
          apply hx
          have : x.toNat = (91 : UInt8).toNat := by simp; omega
          exact UInt8.toNat_inj.1 this
        simp [e, if_neg hx]
  have stop : ∀ t : List UInt8, ref3_May_l1 t 2 = some (.inr (.inl t)) := fun t => by unfold ref3_May_l1; simp
  have hl : loopP (fun z : List UInt8 × Int => ref3_May_l1 z.1 z.2) (s, 0) = some (.inl (trim1 (trim1 s))) := by
    have w1 : IntKind.i64.wrap (0 + 1) = 1 := by decide
    have w2 : IntKind.i64.wrap (1 + 1) = 2 := by decide
    rw [loopP_eq]
    simp only [step s 0 (by omega)]
    cases s with
    | nil => rfl
    | cons x r =>
      rw [trim1_cons]
      by_cases hx : x = 91
      · simp only [if_pos hx, Option.bind_some, Sum.elim_inl, w1]
        rw [loopP_eq]
        simp only [step r 1 (by omega)]
        cases r with
        | nil => rfl
        | cons y q =>
          by_cases hy : y = 91
          · simp only [if_pos hy, Option.bind_some, Sum.elim_inl, w2]
            rw [loopP_eq]
            simp only [stop]
            rw [trim1_cons, if_pos hy]
            rfl
          · simp only [if_neg hy, Option.bind_some, Sum.elim_inr]
            rw [trim1_cons, if_neg hy]
      · simp only [if_neg hx, Option.bind_some, Sum.elim_inr]
        rw [trim1_cons, if_neg hx]
  have h1 := trim1_len s
  have h2 := trim1_len (trim1 s)
  unfold ref3_May
  rw [hl]
  show ref3_May_k2 _ = _
  unfold ref3_May_k2 mayN
  rw [ref3_Class_eq (by unfold Len at *; omega)]
  cases trim1 (trim1 s) == [73] <;> rfl
theorem ref3_Ref_eq {s : List UInt8} (h : Len s) : ref3_Ref s = some (refN s) := by
  unfold ref3_Ref
  rw [ref3_May_eq h]
  unfold refN
  cases s == [73] <;> rfl
end Go.Proofs.YthhkdanpjcnegaaGreat
