/- Plain laws, part 6: the law OpEach. -/
import Derived.Test.YthhkdanpjcnegaaQ5
namespace Go.Proofs.Ythhkdanpjcnegaa
set_option linter.unusedSimpArgs false
set_option linter.unusedVariables false

theorem op_Ends_eq (o : Int) : op_Ends o = ((((o == (20 : Int)) || ((decide (46 ≤ o)) && (decide (o ≤ 48)))) || (o == (58 : Int))) || (o == (61 : Int))) := by
  unfold op_Ends op_Ends_j1
  by_cases h20 : o = 20
  · subst h20; rfl
  by_cases h46 : o = 46
  · subst h46; rfl
  by_cases h47 : o = 47
  · subst h47; rfl
  by_cases h48 : o = 48
  · subst h48; rfl
  by_cases h58 : o = 58
  · subst h58; rfl
  have e : (decide (46 ≤ o) && decide (o ≤ 48)) = false := by
    rw [Bool.and_eq_false_iff]
    by_cases h : 46 ≤ o
    · exact .inr (decide_eq_false (by omega))
    · exact .inl (decide_eq_false h)
  rw [beq_eq_false_iff_ne.2 h20, beq_eq_false_iff_ne.2 h46, beq_eq_false_iff_ne.2 h47, beq_eq_false_iff_ne.2 h48, beq_eq_false_iff_ne.2 h58, e]
  cases (o == (61 : Int)) <;> rfl

theorem law4_OpEach_eq {o a : Int} {c m : List UInt8} : law4_OpEach o a c m = some true := by
  have hT : ∀ s : List UInt8, Len (s.take 10) := fun s => by unfold Len; rw [List.length_take]; omega
  have h0 : Len ([] : List UInt8) := by decide
  have j6 : ∀ (i x : Int) (y z : List UInt8), Len y → Len z → law4_OpEach_j6 o i x y z = some (.inl (IntKind.i64.wrap (i + 1))) := fun i x y z hy hz => by
    unfold law4_OpEach_j6
    rw [op_May_eq (x := ApiIns.mk o x y z) hy hz, ref3_MayIns_eq (x := ApiIns.mk o x y z) hy hz]
    cases mayIns (ApiIns.mk o x y z) <;> rfl
  have j5 : ∀ (i x : Int) (y z : List UInt8), Len y → Len z → law4_OpEach_j5 o z i x y = some (.inl (IntKind.i64.wrap (i + 1))) := fun i x y z hy hz => by
    unfold law4_OpEach_j5
    rw [j6 i x y z hy hz, j6 i x y [] hy h0]
    cases decide (0 < andI .i64 i 4) <;> rfl
  have j4 : ∀ (i x : Int) (y z : List UInt8), Len y → Len z → law4_OpEach_j4 o y z i x = some (.inl (IntKind.i64.wrap (i + 1))) := fun i x y z hy hz => by
    unfold law4_OpEach_j4
    rw [j5 i x y z hy hz, j5 i x [] z h0 hz]
    cases decide (0 < andI .i64 i 2) <;> rfl
  have hl : loopP (fun z => law4_OpEach_l7 o a (c.take 10) (m.take 10) z) 0 = _ := loop_range (n := 8) (g := fun _ => (none : Option Bool)) (u := ()) (fun i hi => by
    show law4_OpEach_l7 o a (c.take 10) (m.take 10) (i : Int) = _
    unfold law4_OpEach_l7
    rw [decide_eq_true (show (i : Int) < 8 by omega), j4 _ _ _ _ (hT c) (hT m), j4 _ _ _ _ (hT c) (hT m), wrap_succ (by omega)]
    cases decide (0 < andI .i64 (i : Int) 1) <;> rfl) rfl
  have hc : law1_Cut c 10 = some (c.take 10) := law1_Cut_eq
  have hm : law1_Cut m 10 = some (m.take 10) := law1_Cut_eq
  unfold law4_OpEach
  rw [law4_begun_eq, hc, hm]
  show (loopP (fun z => law4_OpEach_l7 o a (c.take 10) (m.take 10) z) 0).bind _ = _
  rw [hl]
  show law4_OpEach_k8 o = some true
  unfold law4_OpEach_k8
  rw [op_Ends_eq]
  have : op_Jumps o = (decide (20 ≤ o) && decide (o ≤ 36)) := rfl
  rw [this]
  simp

theorem opEach_pure (o a : Int) (c m : ByteArray) : PureC Try.prog 8 [.lit (.int .i64 o), .lit (.int .i64 a), .lit (.string c), .lit (.string m)] (.lit (.bool true)) :=
  law4_OpEach_ok o a c.data.toList m.data.toList law4_OpEach_eq
end Go.Proofs.Ythhkdanpjcnegaa
