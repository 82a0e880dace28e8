/- Plain laws, part 4: which instructions may be; the first checks of packages num, kind, op. -/
import Derived.Test.YthhkdanpjcnegaaGreatQ3
namespace Go.Proofs.YthhkdanpjcnegaaGreat
set_option linter.unusedSimpArgs false
set_option linter.unusedVariables false

noncomputable def mayCN (o : Int) (s : List UInt8) : Bool := cond (op_typed o) (refN s) (cond (op_c o) (classN s) (s == []))
noncomputable def mayMN (o : Int) (s : List UInt8) : Bool := cond (op_m o) (nameN s && !(s == [36, 105, 110, 105, 116])) (s == [])
noncomputable def mayIns (x : ApiIns) : Bool := (op_known x.Op && op_mayA x.Op x.A) && mayCN x.Op x.C && mayMN x.Op x.M

theorem op_mayC_eq {o : Int} {s : List UInt8} (h : Len s) : op_mayC o s = some (mayCN o s) := by
  unfold op_mayC mayCN
  rw [kind_Ref_eq h, kind_Class_eq h]
  cases op_typed o <;> cases op_c o <;> rfl
theorem op_mayM_eq {o : Int} {s : List UInt8} (h : Len s) : op_mayM o s = some (mayMN o s) := by
  unfold op_mayM mayMN
  rw [kind_Name_eq h]
  cases op_m o <;> rfl
theorem op_May_eq {x : ApiIns} (hC : Len x.C) (hM : Len x.M) : op_May x = some (mayIns x) := by
  unfold op_May mayIns
  rw [op_mayC_eq hC, op_mayM_eq hM]
  cases (op_known x.Op && op_mayA x.Op x.A) <;> cases mayCN x.Op x.C <;> rfl

theorem mayA_eq (o A : Int) : op_mayA o A = cond (op_a o) (ref3_number o A) (A == 0) := by
  have e1 : decide (A ≤ 2147483647) = decide (A < 2147483648) := by congr 1; apply propext; omega
  have e2 : decide (A ≤ 15) = decide (A < 16) := by congr 1; apply propext; omega
  have e3 : decide (A ≤ 99) = decide (A < 100) := by congr 1; apply propext; omega
  unfold op_mayA op_a ref3_number ref3_Jumps op_Jumps op_between
  rw [e1, e2, e3]
  by_cases h1 : o = 1
  · subst h1; rfl
  by_cases h3 : o = 3
  · subst h3; rfl
  by_cases h4 : o = 4
  · subst h4; rfl
  have b1 : (o == (1 : Int)) = false := beq_eq_false_iff_ne.2 h1
  have b3 : (o == (3 : Int)) = false := beq_eq_false_iff_ne.2 h3
  have b4 : (o == (4 : Int)) = false := beq_eq_false_iff_ne.2 h4
  rw [b1, b3, b4]
  cases (decide (20 ≤ o) && decide (o ≤ 36)) <;> rfl

theorem parts_tab : ∀ k : _root_.Fin 62, (ref3_parts (k.val : Int)).1 = op_a (k.val : Int) ∧ (ref3_parts (k.val : Int)).2.1 = cond (op_typed (k.val : Int)) 2 (cond (op_c (k.val : Int)) 1 0) ∧ (ref3_parts (k.val : Int)).2.2 = op_m (k.val : Int) := by
  decide +kernel

theorem ref3_MayIns_eq {x : ApiIns} (hC : Len x.C) (hM : Len x.M) : ref3_MayIns x = some (mayIns x) := by
  unfold ref3_MayIns mayIns op_known op_between
  by_cases hk : 1 ≤ x.Op ∧ x.Op ≤ 61
  · obtain ⟨k, hkk⟩ : ∃ k : Nat, x.Op = k := ⟨x.Op.toNat, by omega⟩
    obtain ⟨p1, p2, p3⟩ := parts_tab ⟨k, by omega⟩
    simp only at p1 p2 p3
    rw [hkk] at hk ⊢
    rw [mayA_eq, p1, p2, p3, decide_eq_false (show ¬ (k : Int) < 1 by omega), decide_eq_false (show ¬ (61 : Int) < k by omega), decide_eq_true hk.1, decide_eq_true hk.2, ref3_Class_eq hC, ref3_Ref_eq hC, ref3_Name_eq hM]
    unfold mayCN mayMN
    cases op_a (k : Int) <;> cases ref3_number (k : Int) x.A <;> cases (x.A == 0) <;> cases op_typed (k : Int) <;> cases op_c (k : Int) <;> cases op_m (k : Int) <;> cases (x.C == []) <;> cases classN x.C <;> cases refN x.C <;> rfl
  · have h1 : (decide (x.Op < 1) || decide (61 < x.Op)) = true := by
      rw [Bool.or_eq_true]
      by_cases h : x.Op < 1
      · exact .inl (decide_eq_true h)
      · exact .inr (decide_eq_true (by omega))
    have h2 : (decide (1 ≤ x.Op) && decide (x.Op ≤ 61)) = false := by
      rw [Bool.and_eq_false_iff]
      by_cases h : 1 ≤ x.Op
      · exact .inr (decide_eq_false (by omega))
      · exact .inl (decide_eq_false h)
    rw [h1, h2]
    rfl
end Go.Proofs.YthhkdanpjcnegaaGreat
