/- Written by program (gen.py): worth and walk of each function. -/
import Derived.Test.YthhkdanpjcnegaaGreatAb17
namespace Go.Proofs.YthhkdanpjcnegaaGreat
set_option linter.unusedSimpArgs false
set_option linter.unusedVariables false
set_option maxRecDepth 100000
set_option maxHeartbeats 4000000

structure ApiIns where
  Op : Int
  A : Int
  C : List UInt8
  M : List UInt8

def rApiIns (x : ApiIns) : List AV := [.lit (.int .i64 x.Op), .lit (.int .i64 x.A), .lit (.string (B x.C)), .lit (.string (B x.M))]

noncomputable def kind_small (v1 : UInt8) : Bool :=
  ((decide (97 ≤ (v1.toNat : Int))) && (decide ((v1.toNat : Int) ≤ 122)))
theorem kind_small_ok (v1 : UInt8) {r : Bool} (h : kind_small v1 = r) : PureC Tryz.prog 86 [.lit (.int .u8 (v1.toNat : Int))] (.lit (.bool r)) := by
  refine pure_fn Tryz.func86 rfl (by kernel_rfl) rfl rfl ?_
  unfold kind_small at h
  refine rg rfl <| u <| asg rfl <| r_nil ?_
  refine rg rfl <| u <| mv rfl <| u <| geq ti5 rfl rfl <| u <| mv rfl <| r_and (x := ((decide (97 ≤ (v1.toNat : Int))) && (decide ((v1.toNat : Int) ≤ 122)))) (j := 2) 2 rfl rfl rfl rfl rfl gpn (fun hb1 => g rfl hb1 <| mv rfl <| g rfl hb1 <| leq ti5 rfl rfl <| r_nil (egA [6, 7] 2 hb1 rfl rfl rfl rfl)) andF <| u <| asg rfl <| r_nil ?_
  refine sw_ret ?_
  obtain rfl := h
  exact ⟨_, rfl, [], ci rfl, rfl, trivial, rfl, Nat.le_of_ble_eq_true rfl⟩

noncomputable def kind_great (v1 : UInt8) : Bool :=
  ((decide (65 ≤ (v1.toNat : Int))) && (decide ((v1.toNat : Int) ≤ 90)))
theorem kind_great_ok (v1 : UInt8) {r : Bool} (h : kind_great v1 = r) : PureC Tryz.prog 98 [.lit (.int .u8 (v1.toNat : Int))] (.lit (.bool r)) := by
  refine pure_fn Tryz.func98 rfl (by kernel_rfl) rfl rfl ?_
  unfold kind_great at h
  refine rg rfl <| u <| asg rfl <| r_nil ?_
  refine rg rfl <| u <| mv rfl <| u <| geq ti5 rfl rfl <| u <| mv rfl <| r_and (x := ((decide (65 ≤ (v1.toNat : Int))) && (decide ((v1.toNat : Int) ≤ 90)))) (j := 2) 2 rfl rfl rfl rfl rfl gpn (fun hb1 => g rfl hb1 <| mv rfl <| g rfl hb1 <| leq ti5 rfl rfl <| r_nil (egA [6, 7] 2 hb1 rfl rfl rfl rfl)) andF <| u <| asg rfl <| r_nil ?_
  refine sw_ret ?_
  obtain rfl := h
  exact ⟨_, rfl, [], ci rfl, rfl, trivial, rfl, Nat.le_of_ble_eq_true rfl⟩

noncomputable def kind_digit (v1 : UInt8) : Bool :=
  ((decide (48 ≤ (v1.toNat : Int))) && (decide ((v1.toNat : Int) ≤ 57)))
theorem kind_digit_ok (v1 : UInt8) {r : Bool} (h : kind_digit v1 = r) : PureC Tryz.prog 137 [.lit (.int .u8 (v1.toNat : Int))] (.lit (.bool r)) := by
  refine pure_fn Tryz.func137 rfl (by kernel_rfl) rfl rfl ?_
  unfold kind_digit at h
  refine rg rfl <| u <| asg rfl <| r_nil ?_
  refine rg rfl <| u <| mv rfl <| u <| geq ti5 rfl rfl <| u <| mv rfl <| r_and (x := ((decide (48 ≤ (v1.toNat : Int))) && (decide ((v1.toNat : Int) ≤ 57)))) (j := 2) 2 rfl rfl rfl rfl rfl gpn (fun hb1 => g rfl hb1 <| mv rfl <| g rfl hb1 <| leq ti5 rfl rfl <| r_nil (egA [6, 7] 2 hb1 rfl rfl rfl rfl)) andF <| u <| asg rfl <| r_nil ?_
  refine sw_ret ?_
  obtain rfl := h
  exact ⟨_, rfl, [], ci rfl, rfl, trivial, rfl, Nat.le_of_ble_eq_true rfl⟩

noncomputable def kind_word_k2 (v1 : List UInt8) : Option (Bool) :=
  some ((!(v1 == [])) && (decide ((List.length v1 : Int) ≤ 8)))
noncomputable def kind_word_l1 (v1 : List UInt8) (v8 : Int) : Option (Sum (Int) (Sum (Unit) (Bool))) :=
  cond (decide (v8 < (List.length v1 : Int))) ((idx v1 v8).bind fun v9 => (cond (!(kind_small v9)) ((idx v1 v8).bind fun v10 => some (!(kind_great v10))) (some false)).bind fun v11 => (cond v11 ((idx v1 v8).bind fun v12 => some (!(kind_digit v12))) (some false)).bind fun v13 => cond v13 (some (.inr (.inr false))) (some (.inl (IntKind.i64.wrap (v8 + 1))))) (some (.inr (.inl ())))
noncomputable def kind_word (v1 : List UInt8) : Option (Bool) :=
  (loopP (fun z => kind_word_l1 v1 z) 0).bind fun o => leave o (fun b => kind_word_k2 v1) some
theorem kind_word_ok (v1 : List UInt8) {r : Bool} (h : kind_word v1 = some r) : PureC Tryz.prog 85 [.lit (.string (B v1))] (.lit (.bool r)) := by
  refine pure_fn Tryz.func85 rfl (by kernel_rfl) rfl rfl ?_
  unfold kind_word at h
  refine rg rfl <| u <| asg rfl <| r_nil ?_
  refine sw_seq ?_
  refine rg rfl <| u <| mv rfl <| u <| lnS ti9 rfl rfl <| u <| mv rfl <| r_nil ?_
  obtain ⟨o, ho, h⟩ := bs h
  refine sw_lpl (X := Int) (B := Unit) (R := Bool) (fun z => [(0, .lit (.string (B v1))), (5, .lit (.int .i64 (List.length v1 : Int))), (6, .lit (.int .i64 z))]) (fun z => []) (fun b => [(0, .lit (.string (B v1)))]) (fun b => []) (fun r env st => PostF Tryz.prog Tryz.f85 0 (.lit (.bool r)) [] env st) ho ⟨[], ce rfl rfl <| ce rfl rfl <| ce rfl rfl <| cn, rfl, trivial, rfl, Nat.le_of_ble_eq_true rfl⟩ ?_ ?_ ?_
  · rintro v8 r h
    replace h : kind_word_l1 v1 v8 = some r := h
    unfold kind_word_l1 at h
    refine rg rfl <| u <| lss ti3 rfl rfl <| r_nil ?_
    refine sw_seq ?_
    refine sw_cond rfl (fun hc10 => ?_) (fun hc10 => ?_)
    · replace h := bT hc10 h
      refine sw_skip ?_
      refine sw_seq ?_
      refine sw_block ?_
      refine rg rfl <| u <| mv rfl <| u <| asg rfl <| r_nil ?_
      obtain ⟨v9, q11, h⟩ := bs h
      obtain ⟨v11, q14, h⟩ := bs h
      obtain ⟨v13, q17, h⟩ := bs h
      refine rg rfl <| u <| mv rfl <| u <| mv rfl <| u <| ixS ti9 rfl rfl rfl q11 <| u <| pc (kind_small_ok v9 rfl) rfl rfl rfl <| u <| nt rfl <| u <| mv rfl <| r_and (x := v11) (j := 5) 5 rfl rfl rfl rfl rfl gpn (fun hb12 => by replace q14 := bT hb12 q14; obtain ⟨v10, q13, q14⟩ := bs q14; obtain rfl := sm q14; exact g rfl hb12 <| mv rfl <| g rfl hb12 <| mv rfl <| g rfl hb12 <| ixS ti9 rfl rfl rfl q13 <| g rfl hb12 <| pc (kind_great_ok v10 rfl) rfl rfl rfl <| g rfl hb12 <| nt rfl <| r_nil (eg [15, 16, 17, 18, 19] 5 rfl rfl rfl rfl)) (fun hb => (sm (bF hb q14)).symm) <| u <| mv rfl <| r_and (x := v13) (j := 12) 5 rfl rfl rfl rfl rfl gpn (fun hb15 => by replace q17 := bT hb15 q17; obtain ⟨v12, q16, q17⟩ := bs q17; obtain rfl := sm q17; exact g rfl hb15 <| mv rfl <| g rfl hb15 <| mv rfl <| g rfl hb15 <| ixS ti9 rfl rfl rfl q16 <| g rfl hb15 <| pc (kind_digit_ok v12 rfl) rfl rfl rfl <| g rfl hb15 <| nt rfl <| r_nil (eg [22, 23, 24, 25, 26] 5 rfl rfl rfl rfl)) (fun hb => (sm (bF hb q17)).symm) <| r_nil ?_
      refine sw_cond rfl (fun hc18 => ?_) (fun hc18 => ?_)
      · replace h := bT hc18 h
        refine rg rfl <| u <| asg rfl <| r_nil ?_
        refine sw_ret ?_
        obtain rfl := sm h
        exact ⟨_, rfl, _, rfl, [], ci rfl, rfl, trivial, rfl, Nat.le_of_ble_eq_true rfl⟩
      · replace h := bF hc18 h
        refine sw_skip ?_
        refine rl rfl <| u <| add ti3 rfl rfl <| u <| mv rfl <| r_nil ?_
        obtain rfl := sm h
        exact ⟨_, rfl, [], ce rfl rfl <| ce rfl rfl <| ce rfl rfl <| cn, rfl, trivial, rfl, Nat.le_of_ble_eq_true rfl⟩
    · replace h := bF hc10 h
      refine sw_exit ?_
      obtain rfl := sm h
      exact ⟨rfl, _, rfl, [], ce rfl rfl <| cn, rfl, trivial, rfl, Nat.le_of_ble_eq_true rfl⟩
  · rintro ⟨⟩ rfl
    replace h : kind_word_k2 v1 = some r := h
    unfold kind_word_k2 at h
    refine ow_intro ?_
    refine rg rfl <| u <| mv rfl <| u <| sne ti9 rfl rfl <| u <| mv rfl <| r_and (x := ((!(v1 == [])) && (decide ((List.length v1 : Int) ≤ 8)))) (j := 2) 3 rfl rfl rfl rfl rfl gpn (fun hb19 => g rfl hb19 <| mv rfl <| g rfl hb19 <| lnS ti9 rfl rfl <| g rfl hb19 <| leq ti3 rfl rfl <| r_nil (egA [32, 33, 34] 3 hb19 rfl rfl rfl rfl)) andF <| u <| asg rfl <| r_nil ?_
    refine sw_ret ?_
    obtain rfl := sm h
    exact ⟨_, rfl, [], ci rfl, rfl, trivial, rfl, Nat.le_of_ble_eq_true rfl⟩
  · rintro r' rfl env st hp
    obtain rfl := sm h
    exact hp

noncomputable def kind_Class (v1 : List UInt8) : Option (Bool) :=
  (kind_word v1).bind fun v2 => (cond (v2 && (decide (1 < (List.length v1 : Int)))) ((idx v1 0).bind fun v3 => some (kind_great v3)) (some false)).bind fun v4 => some v4
theorem kind_Class_ok (v1 : List UInt8) {r : Bool} (h : kind_Class v1 = some r) : PureC Tryz.prog 33 [.lit (.string (B v1))] (.lit (.bool r)) := by
  refine pure_fn Tryz.func33 rfl (by kernel_rfl) rfl rfl ?_
  unfold kind_Class at h
  refine rg rfl <| u <| asg rfl <| r_nil ?_
  obtain ⟨v2, q1, h⟩ := bs h
  obtain ⟨v4, q5, h⟩ := bs h
  refine rg rfl <| u <| mv rfl <| u <| pc (kind_word_ok v1 q1) rfl rfl rfl <| u <| mv rfl <| r_and (x := (v2 && (decide (1 < (List.length v1 : Int))))) (j := 2) 3 rfl rfl rfl rfl rfl gpn (fun hb2 => g rfl hb2 <| mv rfl <| g rfl hb2 <| lnS ti9 rfl rfl <| g rfl hb2 <| gtr ti3 rfl rfl <| r_nil (egA [6, 7, 8] 3 hb2 rfl rfl rfl rfl)) andF <| u <| mv rfl <| r_and (x := v4) (j := 7) 3 rfl rfl rfl rfl rfl gpn (fun hb3 => by replace q5 := bT hb3 q5; obtain ⟨v3, q4, q5⟩ := bs q5; obtain rfl := sm q5; exact g rfl hb3 <| mv rfl <| g rfl hb3 <| ixS ti9 rfl rfl rfl q4 <| g rfl hb3 <| pc (kind_great_ok v3 rfl) rfl rfl rfl <| r_nil (eg [11, 12, 13] 3 rfl rfl rfl rfl)) (fun hb => (sm (bF hb q5)).symm) <| u <| asg rfl <| r_nil ?_
  refine sw_ret ?_
  obtain rfl := sm h
  exact ⟨_, rfl, [], ci rfl, rfl, trivial, rfl, Nat.le_of_ble_eq_true rfl⟩

noncomputable def kind_Name (v1 : List UInt8) : Option (Bool) :=
  (cond (v1 == [36, 105, 110, 105, 116]) (some true) ((kind_word v1).bind fun v2 => (cond v2 ((idx v1 0).bind fun v3 => some (kind_small v3)) (some false)).bind fun v4 => some v4)).bind fun v5 => some v5
theorem kind_Name_ok (v1 : List UInt8) {r : Bool} (h : kind_Name v1 = some r) : PureC Tryz.prog 27 [.lit (.string (B v1))] (.lit (.bool r)) := by
  refine pure_fn Tryz.func27 rfl (by kernel_rfl) rfl rfl ?_
  unfold kind_Name at h
  refine rg rfl <| u <| asg rfl <| r_nil ?_
  obtain ⟨v5, q6, h⟩ := bs h
  refine rg rfl <| u <| mv rfl <| u <| seq ti9 rfl rfl <| u <| mv rfl <| r_or (x := v5) (j := 2) 7 rfl rfl rfl rfl rfl gpn (fun hb1 => by replace q6 := bF hb1 q6; obtain ⟨v2, q2, q6⟩ := bs q6; obtain ⟨v4, q5, q6⟩ := bs q6; obtain rfl := sm q6; exact g rfl hb1 <| mv rfl <| g rfl hb1 <| pc (kind_word_ok v1 q2) rfl rfl rfl <| g rfl hb1 <| mv rfl <| r_and (x := v4) (j := 5) 3 rfl rfl rfl rfl rfl (gps rfl rfl hb1) (fun hb3 => by replace q5 := bT hb3 q5; obtain ⟨v3, q4, q5⟩ := bs q5; obtain rfl := sm q5; exact g rfl hb3 <| mv rfl <| g rfl hb3 <| ixS ti9 rfl rfl rfl q4 <| g rfl hb3 <| pc (kind_small_ok v3 rfl) rfl rfl rfl <| r_nil (eg [9, 10, 11] 3 rfl rfl rfl rfl)) (fun hb => (sm (bF hb q5)).symm) <| r_nil (eg [6, 7, 8, 9, 10, 11, 12] 4 rfl rfl rfl rfl)) (fun hb => (sm (bT hb q6)).symm) <| u <| asg rfl <| r_nil ?_
  refine sw_ret ?_
  obtain rfl := sm h
  exact ⟨_, rfl, [], ci rfl, rfl, trivial, rfl, Nat.le_of_ble_eq_true rfl⟩

noncomputable def internal_stringslite_HasPrefix (v1 : List UInt8) (v2 : List UInt8) : Option (Bool) :=
  (cond (decide ((List.length v2 : Int) ≤ (List.length v1 : Int))) ((cutP v1 0 (List.length v2 : Int)).bind fun v3 => some (v3 == v2)) (some false)).bind fun v4 => some v4
theorem internal_stringslite_HasPrefix_ok (v1 : List UInt8) (v2 : List UInt8) {r : Bool} (h : internal_stringslite_HasPrefix v1 v2 = some r) : PureC Tryz.prog 116 [.lit (.string (B v1)), .lit (.string (B v2))] (.lit (.bool r)) := by
  refine pure_fn Tryz.func116 rfl (by kernel_rfl) rfl rfl ?_
  unfold internal_stringslite_HasPrefix at h
  refine rg rfl <| u <| asg rfl <| r_nil ?_
  obtain ⟨v4, q3, h⟩ := bs h
  refine rg rfl <| u <| mv rfl <| u <| lnS ti9 rfl rfl <| u <| mv rfl <| u <| lnS ti9 rfl rfl <| u <| geq ti3 rfl rfl <| u <| mv rfl <| r_and (x := v4) (j := 5) 6 rfl rfl rfl rfl rfl gpn (fun hb1 => by replace q3 := bT hb1 q3; obtain ⟨v3, q2, q3⟩ := bs q3; obtain rfl := sm q3; exact g rfl hb1 <| mv rfl <| g rfl hb1 <| mv rfl <| g rfl hb1 <| lnS ti9 rfl rfl <| g rfl hb1 <| slS (a := 0) (b := (List.length v2 : Int)) ti9 rfl rfl rfl (bnd_hi rfl q2) q2 <| g rfl hb1 <| mv rfl <| g rfl hb1 <| seq ti9 rfl rfl <| r_nil (eg [11, 12, 13, 14, 15, 16] 6 rfl rfl rfl rfl)) (fun hb => (sm (bF hb q3)).symm) <| u <| asg rfl <| r_nil ?_
  refine sw_ret ?_
  obtain rfl := sm h
  exact ⟨_, rfl, [], ci rfl, rfl, trivial, rfl, Nat.le_of_ble_eq_true rfl⟩

noncomputable def internal_stringslite_TrimPrefix (v1 : List UInt8) (v2 : List UInt8) : Option ((List UInt8)) :=
  (internal_stringslite_HasPrefix v1 v2).bind fun v3 => cond v3 ((cutP v1 (List.length v2 : Int) (List.length v1 : Int)).bind fun v4 => some v4) (some v1)
theorem internal_stringslite_TrimPrefix_ok (v1 : List UInt8) (v2 : List UInt8) {r : (List UInt8)} (h : internal_stringslite_TrimPrefix v1 v2 = some r) : PureC Tryz.prog 138 [.lit (.string (B v1)), .lit (.string (B v2))] (.lit (.string (B r))) := by
  refine pure_fn Tryz.func138 rfl (by kernel_rfl) rfl rfl ?_
  unfold internal_stringslite_TrimPrefix at h
  refine rg rfl <| u <| asg rfl <| r_nil ?_
  refine sw_seq ?_
  obtain ⟨v3, q1, h⟩ := bs h
  refine rg rfl <| u <| mv rfl <| u <| mv rfl <| u <| pc (internal_stringslite_HasPrefix_ok v1 v2 q1) rfl rfl rfl <| r_nil ?_
  refine sw_cond rfl (fun hc2 => ?_) (fun hc2 => ?_)
  · replace h := bT hc2 h
    obtain ⟨v4, q3, h⟩ := bs h
    refine rg rfl <| u <| mv rfl <| u <| mv rfl <| u <| lnS ti9 rfl rfl <| u <| slS (a := (List.length v2 : Int)) (b := (List.length v1 : Int)) ti9 rfl rfl (bnd_lo rfl q3) rfl q3 <| u <| asg rfl <| r_nil ?_
    refine sw_ret ?_
    obtain rfl := sm h
    exact ⟨_, rfl, [], ci rfl, rfl, trivial, rfl, Nat.le_of_ble_eq_true rfl⟩
  · replace h := bF hc2 h
    refine sw_skip ?_
    refine rg rfl <| u <| mv rfl <| u <| asg rfl <| r_nil ?_
    refine sw_ret ?_
    obtain rfl := sm h
    exact ⟨_, rfl, [], ci rfl, rfl, trivial, rfl, Nat.le_of_ble_eq_true rfl⟩

noncomputable def strings_TrimPrefix (v1 : List UInt8) (v2 : List UInt8) : Option ((List UInt8)) :=
  (internal_stringslite_TrimPrefix v1 v2).bind fun v3 => some v3
theorem strings_TrimPrefix_ok (v1 : List UInt8) (v2 : List UInt8) {r : (List UInt8)} (h : strings_TrimPrefix v1 v2 = some r) : PureC Tryz.prog 87 [.lit (.string (B v1)), .lit (.string (B v2))] (.lit (.string (B r))) := by
  refine pure_fn Tryz.func87 rfl (by kernel_rfl) rfl rfl ?_
  unfold strings_TrimPrefix at h
  refine rg rfl <| u <| asg rfl <| r_nil ?_
  obtain ⟨v3, q1, h⟩ := bs h
  refine rg rfl <| u <| mv rfl <| u <| mv rfl <| u <| pc (internal_stringslite_TrimPrefix_ok v1 v2 q1) rfl rfl rfl <| u <| asg rfl <| r_nil ?_
  refine sw_ret ?_
  obtain rfl := sm h
  exact ⟨_, rfl, [], ci rfl, rfl, trivial, rfl, Nat.le_of_ble_eq_true rfl⟩

noncomputable def kind_May (v1 : List UInt8) : Option (Bool) :=
  (strings_TrimPrefix v1 [91]).bind fun v2 => (strings_TrimPrefix v2 [91]).bind fun v3 => (cond (v3 == [73]) (some true) ((kind_Class v3).bind fun v4 => some v4)).bind fun v5 => some v5
theorem kind_May_ok (v1 : List UInt8) {r : Bool} (h : kind_May v1 = some r) : PureC Tryz.prog 28 [.lit (.string (B v1))] (.lit (.bool r)) := by
  refine pure_fn Tryz.func28 rfl (by kernel_rfl) rfl rfl ?_
  unfold kind_May at h
  refine rg rfl <| u <| asg rfl <| r_nil ?_
  obtain ⟨v2, q1, h⟩ := bs h
  obtain ⟨v3, q2, h⟩ := bs h
  refine rg rfl <| u <| mv rfl <| u <| pc (strings_TrimPrefix_ok v1 [91] q1) rfl rfl rfl <| u <| pc (strings_TrimPrefix_ok v2 [91] q2) rfl rfl rfl <| u <| asg rfl <| r_nil ?_
  obtain ⟨v5, q5, h⟩ := bs h
  refine rg rfl <| u <| mv rfl <| u <| seq ti9 rfl rfl <| u <| mv rfl <| r_or (x := v5) (j := 2) 2 rfl rfl rfl rfl rfl gpn (fun hb3 => by replace q5 := bF hb3 q5; obtain ⟨v4, q4, q5⟩ := bs q5; obtain rfl := sm q5; exact g rfl hb3 <| mv rfl <| g rfl hb3 <| pc (kind_Class_ok v3 q4) rfl rfl rfl <| r_nil (eg [9, 10] 2 rfl rfl rfl rfl)) (fun hb => (sm (bT hb q5)).symm) <| u <| asg rfl <| r_nil ?_
  refine sw_ret ?_
  obtain rfl := sm h
  exact ⟨_, rfl, [], ci rfl, rfl, trivial, rfl, Nat.le_of_ble_eq_true rfl⟩

noncomputable def kind_Ref (v1 : List UInt8) : Option (Bool) :=
  (cond (!(v1 == [73])) ((kind_May v1).bind fun v2 => some v2) (some false)).bind fun v3 => some v3
theorem kind_Ref_ok (v1 : List UInt8) {r : Bool} (h : kind_Ref v1 = some r) : PureC Tryz.prog 166 [.lit (.string (B v1))] (.lit (.bool r)) := by
  refine pure_fn Tryz.func166 rfl (by kernel_rfl) rfl rfl ?_
  unfold kind_Ref at h
  refine rg rfl <| u <| asg rfl <| r_nil ?_
  obtain ⟨v3, q3, h⟩ := bs h
  refine rg rfl <| u <| mv rfl <| u <| sne ti9 rfl rfl <| u <| mv rfl <| r_and (x := v3) (j := 2) 2 rfl rfl rfl rfl rfl gpn (fun hb1 => by replace q3 := bT hb1 q3; obtain ⟨v2, q2, q3⟩ := bs q3; obtain rfl := sm q3; exact g rfl hb1 <| mv rfl <| g rfl hb1 <| pc (kind_May_ok v1 q2) rfl rfl rfl <| r_nil (eg [6, 7] 2 rfl rfl rfl rfl)) (fun hb => (sm (bF hb q3)).symm) <| u <| asg rfl <| r_nil ?_
  refine sw_ret ?_
  obtain rfl := sm h
  exact ⟨_, rfl, [], ci rfl, rfl, trivial, rfl, Nat.le_of_ble_eq_true rfl⟩

noncomputable def op_between (v1 : Int) (v2 : Int) (v3 : Int) : Bool :=
  ((decide (v2 ≤ v1)) && (decide (v1 ≤ v3)))
theorem op_between_ok (v1 : Int) (v2 : Int) (v3 : Int) {r : Bool} (h : op_between v1 v2 v3 = r) : PureC Tryz.prog 164 [.lit (.int .i64 v1), .lit (.int .i64 v2), .lit (.int .i64 v3)] (.lit (.bool r)) := by
  refine pure_fn Tryz.func164 rfl (by kernel_rfl) rfl rfl ?_
  unfold op_between at h
  refine rg rfl <| u <| asg rfl <| r_nil ?_
  refine rg rfl <| u <| mv rfl <| u <| mv rfl <| u <| geq ti3 rfl rfl <| u <| mv rfl <| r_and (x := ((decide (v2 ≤ v1)) && (decide (v1 ≤ v3)))) (j := 3) 3 rfl rfl rfl rfl rfl gpn (fun hb1 => g rfl hb1 <| mv rfl <| g rfl hb1 <| mv rfl <| g rfl hb1 <| leq ti3 rfl rfl <| r_nil (egA [11, 12, 13] 3 hb1 rfl rfl rfl rfl)) andF <| u <| asg rfl <| r_nil ?_
  refine sw_ret ?_
  obtain rfl := h
  exact ⟨_, rfl, [], ci rfl, rfl, trivial, rfl, Nat.le_of_ble_eq_true rfl⟩

noncomputable def op_known (v1 : Int) : Bool :=
  (op_between v1 1 61)
theorem op_known_ok (v1 : Int) {r : Bool} (h : op_known v1 = r) : PureC Tryz.prog 155 [.lit (.int .i64 v1)] (.lit (.bool r)) := by
  refine pure_fn Tryz.func155 rfl (by kernel_rfl) rfl rfl ?_
  unfold op_known at h
  refine rg rfl <| u <| asg rfl <| r_nil ?_
  refine rg rfl <| u <| mv rfl <| u <| pc (op_between_ok v1 1 61 rfl) rfl rfl rfl <| u <| asg rfl <| r_nil ?_
  refine sw_ret ?_
  obtain rfl := h
  exact ⟨_, rfl, [], ci rfl, rfl, trivial, rfl, Nat.le_of_ble_eq_true rfl⟩

noncomputable def op_Jumps (v1 : Int) : Bool :=
  (op_between v1 20 36)
theorem op_Jumps_ok (v1 : Int) {r : Bool} (h : op_Jumps v1 = r) : PureC Tryz.prog 131 [.lit (.int .i64 v1)] (.lit (.bool r)) := by
  refine pure_fn Tryz.func131 rfl (by kernel_rfl) rfl rfl ?_
  unfold op_Jumps at h
  refine rg rfl <| u <| asg rfl <| r_nil ?_
  refine rg rfl <| u <| mv rfl <| u <| pc (op_between_ok v1 20 36 rfl) rfl rfl rfl <| u <| asg rfl <| r_nil ?_
  refine sw_ret ?_
  obtain rfl := h
  exact ⟨_, rfl, [], ci rfl, rfl, trivial, rfl, Nat.le_of_ble_eq_true rfl⟩

noncomputable def op_mayA (v1 : Int) (v2 : Int) : Bool :=
  cond (v1 == (1 : Int)) ((op_between v2 (-2147483648) 2147483647)) (cond ((v1 == (3 : Int)) || (v1 == (4 : Int))) ((op_between v2 0 15)) (cond (op_Jumps v1) ((op_between v2 0 99)) ((v2 == (0 : Int)))))
theorem op_mayA_ok (v1 : Int) (v2 : Int) {r : Bool} (h : op_mayA v1 v2 = r) : PureC Tryz.prog 157 [.lit (.int .i64 v1), .lit (.int .i64 v2)] (.lit (.bool r)) := by
  refine pure_fn Tryz.func157 rfl (by kernel_rfl) rfl rfl ?_
  unfold op_mayA at h
  refine rg rfl <| u <| asg rfl <| r_nil ?_
  refine sw_seq ?_
  refine sw_block ?_
  refine rg rfl <| u <| mv rfl <| u <| eql ti3 rfl rfl <| u <| asg rfl <| r_nil ?_
  refine sw_cond rfl (fun hc1 => ?_) (fun hc1 => ?_)
  · replace h := bT hc1 h
    refine rg rfl <| u <| mv rfl <| u <| pc (op_between_ok v2 (-2147483648) 2147483647 rfl) rfl rfl rfl <| u <| asg rfl <| r_nil ?_
    refine sw_ret ?_
    obtain rfl := h
    exact ⟨_, rfl, [], ci rfl, rfl, trivial, rfl, Nat.le_of_ble_eq_true rfl⟩
  · replace h := bF hc1 h
    refine rg rfl <| u <| mv rfl <| u <| eql ti3 rfl rfl <| u <| mv rfl <| r_or (x := ((v1 == (3 : Int)) || (v1 == (4 : Int)))) (j := 2) 2 rfl rfl rfl rfl rfl gpn (fun hb2 => g rfl hb2 <| mv rfl <| g rfl hb2 <| eql ti3 rfl rfl <| r_nil (egO [14, 15] 2 hb2 rfl rfl rfl rfl)) orT <| u <| asg rfl <| r_nil ?_
    refine sw_cond rfl (fun hc3 => ?_) (fun hc3 => ?_)
    · replace h := bT hc3 h
      refine rg rfl <| u <| mv rfl <| u <| pc (op_between_ok v2 0 15 rfl) rfl rfl rfl <| u <| asg rfl <| r_nil ?_
      refine sw_ret ?_
      obtain rfl := h
      exact ⟨_, rfl, [], ci rfl, rfl, trivial, rfl, Nat.le_of_ble_eq_true rfl⟩
    · replace h := bF hc3 h
      refine rg rfl <| u <| mv rfl <| u <| pc (op_Jumps_ok v1 rfl) rfl rfl rfl <| u <| asg rfl <| r_nil ?_
      refine sw_cond rfl (fun hc4 => ?_) (fun hc4 => ?_)
      · replace h := bT hc4 h
        refine rg rfl <| u <| mv rfl <| u <| pc (op_between_ok v2 0 99 rfl) rfl rfl rfl <| u <| asg rfl <| r_nil ?_
        refine sw_ret ?_
        obtain rfl := h
        exact ⟨_, rfl, [], ci rfl, rfl, trivial, rfl, Nat.le_of_ble_eq_true rfl⟩
      · replace h := bF hc4 h
        refine sw_skip ?_
        refine rg rfl <| u <| mv rfl <| u <| eql ti3 rfl rfl <| u <| asg rfl <| r_nil ?_
        refine sw_ret ?_
        obtain rfl := h
        exact ⟨_, rfl, [], ci rfl, rfl, trivial, rfl, Nat.le_of_ble_eq_true rfl⟩

noncomputable def op_typed (v1 : Int) : Bool :=
  (((v1 == (50 : Int)) || (v1 == (56 : Int))) || (v1 == (57 : Int)))
theorem op_typed_ok (v1 : Int) {r : Bool} (h : op_typed v1 = r) : PureC Tryz.prog 171 [.lit (.int .i64 v1)] (.lit (.bool r)) := by
  refine pure_fn Tryz.func171 rfl (by kernel_rfl) rfl rfl ?_
  unfold op_typed at h
  refine rg rfl <| u <| asg rfl <| r_nil ?_
  refine rg rfl <| u <| mv rfl <| u <| eql ti3 rfl rfl <| u <| mv rfl <| r_or (x := ((v1 == (50 : Int)) || (v1 == (56 : Int)))) (j := 2) 2 rfl rfl rfl rfl rfl gpn (fun hb1 => g rfl hb1 <| mv rfl <| g rfl hb1 <| eql ti3 rfl rfl <| r_nil (egO [6, 7] 2 hb1 rfl rfl rfl rfl)) orT <| u <| mv rfl <| r_or (x := (((v1 == (50 : Int)) || (v1 == (56 : Int))) || (v1 == (57 : Int)))) (j := 6) 2 rfl rfl rfl rfl rfl gpn (fun hb2 => g rfl hb2 <| mv rfl <| g rfl hb2 <| eql ti3 rfl rfl <| r_nil (egO [10, 11] 2 hb2 rfl rfl rfl rfl)) orT <| u <| asg rfl <| r_nil ?_
  refine sw_ret ?_
  obtain rfl := h
  exact ⟨_, rfl, [], ci rfl, rfl, trivial, rfl, Nat.le_of_ble_eq_true rfl⟩

noncomputable def op_m (v1 : Int) : Bool :=
  (op_between v1 38 45)
theorem op_m_ok (v1 : Int) {r : Bool} (h : op_m v1 = r) : PureC Tryz.prog 153 [.lit (.int .i64 v1)] (.lit (.bool r)) := by
  refine pure_fn Tryz.func153 rfl (by kernel_rfl) rfl rfl ?_
  unfold op_m at h
  refine rg rfl <| u <| asg rfl <| r_nil ?_
  refine rg rfl <| u <| mv rfl <| u <| pc (op_between_ok v1 38 45 rfl) rfl rfl rfl <| u <| asg rfl <| r_nil ?_
  refine sw_ret ?_
  obtain rfl := h
  exact ⟨_, rfl, [], ci rfl, rfl, trivial, rfl, Nat.le_of_ble_eq_true rfl⟩

noncomputable def op_c (v1 : Int) : Bool :=
  (((v1 == (37 : Int)) || (op_m v1)) || (op_typed v1))
theorem op_c_ok (v1 : Int) {r : Bool} (h : op_c v1 = r) : PureC Tryz.prog 152 [.lit (.int .i64 v1)] (.lit (.bool r)) := by
  refine pure_fn Tryz.func152 rfl (by kernel_rfl) rfl rfl ?_
  unfold op_c at h
  refine rg rfl <| u <| asg rfl <| r_nil ?_
  refine rg rfl <| u <| mv rfl <| u <| eql ti3 rfl rfl <| u <| mv rfl <| r_or (x := ((v1 == (37 : Int)) || (op_m v1))) (j := 2) 2 rfl rfl rfl rfl rfl gpn (fun hb1 => g rfl hb1 <| mv rfl <| g rfl hb1 <| pc (op_m_ok v1 rfl) rfl rfl rfl <| r_nil (egO [6, 7] 2 hb1 rfl rfl rfl rfl)) orT <| u <| mv rfl <| r_or (x := (((v1 == (37 : Int)) || (op_m v1)) || (op_typed v1))) (j := 6) 2 rfl rfl rfl rfl rfl gpn (fun hb2 => g rfl hb2 <| mv rfl <| g rfl hb2 <| pc (op_typed_ok v1 rfl) rfl rfl rfl <| r_nil (egO [10, 11] 2 hb2 rfl rfl rfl rfl)) orT <| u <| asg rfl <| r_nil ?_
  refine sw_ret ?_
  obtain rfl := h
  exact ⟨_, rfl, [], ci rfl, rfl, trivial, rfl, Nat.le_of_ble_eq_true rfl⟩

noncomputable def op_mayC (v1 : Int) (v2 : List UInt8) : Option (Bool) :=
  cond (op_typed v1) ((kind_Ref v2).bind fun v3 => some v3) (cond (op_c v1) ((kind_Class v2).bind fun v4 => some v4) (some (v2 == [])))
theorem op_mayC_ok (v1 : Int) (v2 : List UInt8) {r : Bool} (h : op_mayC v1 v2 = some r) : PureC Tryz.prog 160 [.lit (.int .i64 v1), .lit (.string (B v2))] (.lit (.bool r)) := by
  refine pure_fn Tryz.func160 rfl (by kernel_rfl) rfl rfl ?_
  unfold op_mayC at h
  refine rg rfl <| u <| asg rfl <| r_nil ?_
  refine sw_seq ?_
  refine sw_block ?_
  refine rg rfl <| u <| mv rfl <| u <| pc (op_typed_ok v1 rfl) rfl rfl rfl <| u <| asg rfl <| r_nil ?_
  refine sw_cond rfl (fun hc1 => ?_) (fun hc1 => ?_)
  · replace h := bT hc1 h
    obtain ⟨v3, q2, h⟩ := bs h
    refine rg rfl <| u <| mv rfl <| u <| pc (kind_Ref_ok v2 q2) rfl rfl rfl <| u <| asg rfl <| r_nil ?_
    refine sw_ret ?_
    obtain rfl := sm h
    exact ⟨_, rfl, [], ci rfl, rfl, trivial, rfl, Nat.le_of_ble_eq_true rfl⟩
  · replace h := bF hc1 h
    refine rg rfl <| u <| mv rfl <| u <| pc (op_c_ok v1 rfl) rfl rfl rfl <| u <| asg rfl <| r_nil ?_
    refine sw_cond rfl (fun hc3 => ?_) (fun hc3 => ?_)
    · replace h := bT hc3 h
      obtain ⟨v4, q4, h⟩ := bs h
      refine rg rfl <| u <| mv rfl <| u <| pc (kind_Class_ok v2 q4) rfl rfl rfl <| u <| asg rfl <| r_nil ?_
      refine sw_ret ?_
      obtain rfl := sm h
      exact ⟨_, rfl, [], ci rfl, rfl, trivial, rfl, Nat.le_of_ble_eq_true rfl⟩
    · replace h := bF hc3 h
      refine sw_skip ?_
      refine rg rfl <| u <| mv rfl <| u <| seq ti9 rfl rfl <| u <| asg rfl <| r_nil ?_
      refine sw_ret ?_
      obtain rfl := sm h
      exact ⟨_, rfl, [], ci rfl, rfl, trivial, rfl, Nat.le_of_ble_eq_true rfl⟩

noncomputable def op_mayM (v1 : Int) (v2 : List UInt8) : Option (Bool) :=
  cond (op_m v1) ((kind_Name v2).bind fun v3 => some (v3 && (!(v2 == [36, 105, 110, 105, 116])))) (some (v2 == []))
theorem op_mayM_ok (v1 : Int) (v2 : List UInt8) {r : Bool} (h : op_mayM v1 v2 = some r) : PureC Tryz.prog 162 [.lit (.int .i64 v1), .lit (.string (B v2))] (.lit (.bool r)) := by
  refine pure_fn Tryz.func162 rfl (by kernel_rfl) rfl rfl ?_
  unfold op_mayM at h
  refine rg rfl <| u <| asg rfl <| r_nil ?_
  refine sw_seq ?_
  refine rg rfl <| u <| mv rfl <| u <| pc (op_m_ok v1 rfl) rfl rfl rfl <| r_nil ?_
  refine sw_cond rfl (fun hc1 => ?_) (fun hc1 => ?_)
  · replace h := bT hc1 h
    obtain ⟨v3, q2, h⟩ := bs h
    refine rg rfl <| u <| mv rfl <| u <| pc (kind_Name_ok v2 q2) rfl rfl rfl <| u <| mv rfl <| r_and (x := (v3 && (!(v2 == [36, 105, 110, 105, 116])))) (j := 2) 2 rfl rfl rfl rfl rfl gpn (fun hb3 => g rfl hb3 <| mv rfl <| g rfl hb3 <| sne ti9 rfl rfl <| r_nil (egA [10, 11] 2 hb3 rfl rfl rfl rfl)) andF <| u <| asg rfl <| r_nil ?_
    refine sw_ret ?_
    obtain rfl := sm h
    exact ⟨_, rfl, [], ci rfl, rfl, trivial, rfl, Nat.le_of_ble_eq_true rfl⟩
  · replace h := bF hc1 h
    refine sw_skip ?_
    refine rg rfl <| u <| mv rfl <| u <| seq ti9 rfl rfl <| u <| asg rfl <| r_nil ?_
    refine sw_ret ?_
    obtain rfl := sm h
    exact ⟨_, rfl, [], ci rfl, rfl, trivial, rfl, Nat.le_of_ble_eq_true rfl⟩

noncomputable def op_May (v1 : ApiIns) : Option (Bool) :=
  (cond ((op_known v1.Op) && (op_mayA v1.Op v1.A)) ((op_mayC v1.Op v1.C).bind fun v2 => some v2) (some false)).bind fun v3 => (cond v3 ((op_mayM v1.Op v1.M).bind fun v4 => some v4) (some false)).bind fun v5 => some v5
theorem op_May_ok (v1 : ApiIns) {r : Bool} (h : op_May v1 = some r) : PureC Tryz.prog 130 [.agg [.lit (.int .i64 v1.Op), .lit (.int .i64 v1.A), .lit (.string (B v1.C)), .lit (.string (B v1.M))]] (.lit (.bool r)) := by
  refine pure_fn Tryz.func130 rfl (by kernel_rfl) rfl rfl ?_
  unfold op_May at h
  refine rg rfl <| u <| bx 0 4 rfl rfl rfl rfl <| u <| asg rfl <| r_nil ?_
  obtain ⟨v3, q4, h⟩ := bs h
  obtain ⟨v5, q7, h⟩ := bs h
  refine rg rfl <| u <| fa ti37 rfl rfl rfl <| u <| ld ti3 rfl rfl <| u <| pc (op_known_ok v1.Op rfl) rfl rfl rfl <| u <| mv rfl <| r_and (x := ((op_known v1.Op) && (op_mayA v1.Op v1.A))) (j := 3) 5 rfl rfl rfl rfl rfl gpn (fun hb1 => g rfl hb1 <| fa ti37 rfl rfl rfl <| g rfl hb1 <| ld ti3 rfl rfl <| g rfl hb1 <| fa ti37 rfl rfl rfl <| g rfl hb1 <| ld ti3 rfl rfl <| g rfl hb1 <| pc (op_mayA_ok v1.Op v1.A rfl) rfl rfl rfl <| r_nil (egA [7, 8, 9, 10, 11] 5 hb1 rfl rfl rfl rfl)) andF <| u <| mv rfl <| r_and (x := v3) (j := 10) 5 rfl rfl rfl rfl rfl gpn (fun hb2 => by replace q4 := bT hb2 q4; obtain ⟨v2, q3, q4⟩ := bs q4; obtain rfl := sm q4; exact g rfl hb2 <| fa ti37 rfl rfl rfl <| g rfl hb2 <| ld ti3 rfl rfl <| g rfl hb2 <| fa ti37 rfl rfl rfl <| g rfl hb2 <| ld ti9 rfl rfl <| g rfl hb2 <| pc (op_mayC_ok v1.Op v1.C q3) rfl rfl rfl <| r_nil (eg [14, 15, 16, 17, 18] 5 rfl rfl rfl rfl)) (fun hb => (sm (bF hb q4)).symm) <| u <| mv rfl <| r_and (x := v5) (j := 17) 5 rfl rfl rfl rfl rfl gpn (fun hb5 => by replace q7 := bT hb5 q7; obtain ⟨v4, q6, q7⟩ := bs q7; obtain rfl := sm q7; exact g rfl hb5 <| fa ti37 rfl rfl rfl <| g rfl hb5 <| ld ti3 rfl rfl <| g rfl hb5 <| fa ti37 rfl rfl rfl <| g rfl hb5 <| ld ti9 rfl rfl <| g rfl hb5 <| pc (op_mayM_ok v1.Op v1.M q6) rfl rfl rfl <| r_nil (eg [21, 22, 23, 24, 25] 5 rfl rfl rfl rfl)) (fun hb => (sm (bF hb q7)).symm) <| u <| asg rfl <| r_nil ?_
  refine sw_ret ?_
  obtain rfl := sm h
  exact ⟨_, rfl, [], ci rfl, rfl, trivial, rfl, Nat.le_of_ble_eq_true rfl⟩

noncomputable def ref3_great (v1 : UInt8) : Bool :=
  ((decide (65 ≤ (v1.toNat : Int))) && (decide ((v1.toNat : Int) ≤ 90)))
theorem ref3_great_ok (v1 : UInt8) {r : Bool} (h : ref3_great v1 = r) : PureC Tryz.prog 101 [.lit (.int .u8 (v1.toNat : Int))] (.lit (.bool r)) := by
  refine pure_fn Tryz.func101 rfl (by kernel_rfl) rfl rfl ?_
  unfold ref3_great at h
  refine rg rfl <| u <| asg rfl <| r_nil ?_
  refine rg rfl <| u <| mv rfl <| u <| geq ti5 rfl rfl <| u <| mv rfl <| r_and (x := ((decide (65 ≤ (v1.toNat : Int))) && (decide ((v1.toNat : Int) ≤ 90)))) (j := 2) 2 rfl rfl rfl rfl rfl gpn (fun hb1 => g rfl hb1 <| mv rfl <| g rfl hb1 <| leq ti5 rfl rfl <| r_nil (egA [6, 7] 2 hb1 rfl rfl rfl rfl)) andF <| u <| asg rfl <| r_nil ?_
  refine sw_ret ?_
  obtain rfl := h
  exact ⟨_, rfl, [], ci rfl, rfl, trivial, rfl, Nat.le_of_ble_eq_true rfl⟩

noncomputable def ref3_little (v1 : UInt8) : Bool :=
  ((decide (97 ≤ (v1.toNat : Int))) && (decide ((v1.toNat : Int) ≤ 122)))
theorem ref3_little_ok (v1 : UInt8) {r : Bool} (h : ref3_little v1 = r) : PureC Tryz.prog 102 [.lit (.int .u8 (v1.toNat : Int))] (.lit (.bool r)) := by
  refine pure_fn Tryz.func102 rfl (by kernel_rfl) rfl rfl ?_
  unfold ref3_little at h
  refine rg rfl <| u <| asg rfl <| r_nil ?_
  refine rg rfl <| u <| mv rfl <| u <| geq ti5 rfl rfl <| u <| mv rfl <| r_and (x := ((decide (97 ≤ (v1.toNat : Int))) && (decide ((v1.toNat : Int) ≤ 122)))) (j := 2) 2 rfl rfl rfl rfl rfl gpn (fun hb1 => g rfl hb1 <| mv rfl <| g rfl hb1 <| leq ti5 rfl rfl <| r_nil (egA [6, 7] 2 hb1 rfl rfl rfl rfl)) andF <| u <| asg rfl <| r_nil ?_
  refine sw_ret ?_
  obtain rfl := h
  exact ⟨_, rfl, [], ci rfl, rfl, trivial, rfl, Nat.le_of_ble_eq_true rfl⟩

noncomputable def ref3_digit (v1 : UInt8) : Bool :=
  ((decide (48 ≤ (v1.toNat : Int))) && (decide ((v1.toNat : Int) ≤ 57)))
theorem ref3_digit_ok (v1 : UInt8) {r : Bool} (h : ref3_digit v1 = r) : PureC Tryz.prog 103 [.lit (.int .u8 (v1.toNat : Int))] (.lit (.bool r)) := by
  refine pure_fn Tryz.func103 rfl (by kernel_rfl) rfl rfl ?_
  unfold ref3_digit at h
  refine rg rfl <| u <| asg rfl <| r_nil ?_
  refine rg rfl <| u <| mv rfl <| u <| geq ti5 rfl rfl <| u <| mv rfl <| r_and (x := ((decide (48 ≤ (v1.toNat : Int))) && (decide ((v1.toNat : Int) ≤ 57)))) (j := 2) 2 rfl rfl rfl rfl rfl gpn (fun hb1 => g rfl hb1 <| mv rfl <| g rfl hb1 <| leq ti5 rfl rfl <| r_nil (egA [6, 7] 2 hb1 rfl rfl rfl rfl)) andF <| u <| asg rfl <| r_nil ?_
  refine sw_ret ?_
  obtain rfl := h
  exact ⟨_, rfl, [], ci rfl, rfl, trivial, rfl, Nat.le_of_ble_eq_true rfl⟩

noncomputable def ref3_Class_k2 (v1 : List UInt8) : Option (Bool) :=
  some ((decide (2 ≤ (List.length v1 : Int))) && (decide ((List.length v1 : Int) ≤ 8)))
noncomputable def ref3_Class_l1 (v1 : List UInt8) (v9 : Int) : Option (Sum (Int) (Sum (Unit) (Bool))) :=
  cond (decide (v9 < (List.length v1 : Int))) ((idx v1 v9).bind fun v10 => (cond (!(ref3_great v10)) ((cond (v9 == (0 : Int)) (some true) ((idx v1 v9).bind fun v11 => (cond (!(ref3_little v11)) ((idx v1 v9).bind fun v12 => some (!(ref3_digit v12))) (some false)).bind fun v13 => some v13)).bind fun v14 => some v14) (some false)).bind fun v15 => cond v15 (some (.inr (.inr false))) (some (.inl (IntKind.i64.wrap (v9 + 1))))) (some (.inr (.inl ())))
noncomputable def ref3_Class (v1 : List UInt8) : Option (Bool) :=
  (loopP (fun z => ref3_Class_l1 v1 z) 0).bind fun o => leave o (fun b => ref3_Class_k2 v1) some
theorem ref3_Class_ok (v1 : List UInt8) {r : Bool} (h : ref3_Class v1 = some r) : PureC Tryz.prog 36 [.lit (.string (B v1))] (.lit (.bool r)) := by
  refine pure_fn Tryz.func36 rfl (by kernel_rfl) rfl rfl ?_
  unfold ref3_Class at h
  refine rg rfl <| u <| asg rfl <| r_nil ?_
  refine sw_seq ?_
  refine rg rfl <| u <| asg rfl <| r_nil ?_
  obtain ⟨o, ho, h⟩ := bs h
  refine sw_lpl (X := Int) (B := Unit) (R := Bool) (fun z => [(0, .lit (.string (B v1))), (3, .lit (.int .i64 z))]) (fun z => []) (fun b => [(0, .lit (.string (B v1)))]) (fun b => []) (fun r env st => PostF Tryz.prog Tryz.f36 0 (.lit (.bool r)) [] env st) ho ⟨[], ce rfl rfl <| ce rfl rfl <| cn, rfl, trivial, rfl, Nat.le_of_ble_eq_true rfl⟩ ?_ ?_ ?_
  · rintro v9 r h
    replace h : ref3_Class_l1 v1 v9 = some r := h
    unfold ref3_Class_l1 at h
    refine sw_seq ?_
    refine rg rfl <| u <| mv rfl <| u <| mv rfl <| u <| lnS ti9 rfl rfl <| u <| lss ti3 rfl rfl <| r_nil ?_
    refine sw_cond rfl (fun hc12 => ?_) (fun hc12 => ?_)
    · replace h := bT hc12 h
      refine sw_skip ?_
      refine sw_seq ?_
      refine sw_block ?_
      obtain ⟨v10, q13, h⟩ := bs h
      obtain ⟨v15, q21, h⟩ := bs h
      refine rg rfl <| u <| mv rfl <| u <| mv rfl <| u <| ixS ti9 rfl rfl rfl q13 <| u <| pc (ref3_great_ok v10 rfl) rfl rfl rfl <| u <| nt rfl <| u <| mv rfl <| r_and (x := v15) (j := 5) 16 rfl rfl rfl rfl rfl gpn (fun hb14 => by replace q21 := bT hb14 q21; obtain ⟨v14, q20, q21⟩ := bs q21; obtain rfl := sm q21; exact g rfl hb14 <| mv rfl <| g rfl hb14 <| eql ti3 rfl rfl <| g rfl hb14 <| mv rfl <| r_or (x := v14) (j := 8) 12 rfl rfl rfl rfl rfl (gps rfl rfl hb14) (fun hb15 => by replace q20 := bF hb15 q20; obtain ⟨v11, q16, q20⟩ := bs q20; obtain ⟨v13, q19, q20⟩ := bs q20; obtain rfl := sm q20; exact g rfl hb15 <| mv rfl <| g rfl hb15 <| mv rfl <| g rfl hb15 <| ixS ti9 rfl rfl rfl q16 <| g rfl hb15 <| pc (ref3_little_ok v11 rfl) rfl rfl rfl <| g rfl hb15 <| nt rfl <| g rfl hb15 <| mv rfl <| r_and (x := v13) (j := 14) 5 rfl rfl rfl rfl rfl (gps rfl rfl hb15) (fun hb17 => by replace q19 := bT hb17 q19; obtain ⟨v12, q18, q19⟩ := bs q19; obtain rfl := sm q19; exact g rfl hb17 <| mv rfl <| g rfl hb17 <| mv rfl <| g rfl hb17 <| ixS ti9 rfl rfl rfl q18 <| g rfl hb17 <| pc (ref3_digit_ok v12 rfl) rfl rfl rfl <| g rfl hb17 <| nt rfl <| r_nil (eg [25, 26, 27, 28, 29] 5 rfl rfl rfl rfl)) (fun hb => (sm (bF hb q19)).symm) <| r_nil (eg [19, 20, 21, 22, 23, 24, 25, 26, 27, 28, 29, 30] 7 rfl rfl rfl rfl)) (fun hb => (sm (bT hb q20)).symm) <| r_nil (eg [16, 17, 18, 19, 20, 21, 22, 23, 24, 25, 26, 27, 28, 29, 30, 31] 4 rfl rfl rfl rfl)) (fun hb => (sm (bF hb q21)).symm) <| r_nil ?_
      refine sw_cond rfl (fun hc22 => ?_) (fun hc22 => ?_)
      · replace h := bT hc22 h
        refine rg rfl <| u <| asg rfl <| r_nil ?_
        refine sw_ret ?_
        obtain rfl := sm h
        exact ⟨_, rfl, _, rfl, [], ci rfl, rfl, trivial, rfl, Nat.le_of_ble_eq_true rfl⟩
      · replace h := bF hc22 h
        refine sw_skip ?_
        refine rl rfl <| u <| mv rfl <| u <| add ti3 rfl rfl <| u <| asg rfl <| r_nil ?_
        obtain rfl := sm h
        exact ⟨_, rfl, [], ce rfl rfl <| ce rfl rfl <| cn, rfl, trivial, rfl, Nat.le_of_ble_eq_true rfl⟩
    · replace h := bF hc12 h
      refine sw_exit ?_
      obtain rfl := sm h
      exact ⟨rfl, _, rfl, [], ce rfl rfl <| cn, rfl, trivial, rfl, Nat.le_of_ble_eq_true rfl⟩
  · rintro ⟨⟩ rfl
    replace h : ref3_Class_k2 v1 = some r := h
    unfold ref3_Class_k2 at h
    refine ow_intro ?_
    refine rg rfl <| u <| mv rfl <| u <| lnS ti9 rfl rfl <| u <| geq ti3 rfl rfl <| u <| mv rfl <| r_and (x := ((decide (2 ≤ (List.length v1 : Int))) && (decide ((List.length v1 : Int) ≤ 8)))) (j := 3) 3 rfl rfl rfl rfl rfl gpn (fun hb23 => g rfl hb23 <| mv rfl <| g rfl hb23 <| lnS ti9 rfl rfl <| g rfl hb23 <| leq ti3 rfl rfl <| r_nil (egA [37, 38, 39] 3 hb23 rfl rfl rfl rfl)) andF <| u <| asg rfl <| r_nil ?_
    refine sw_ret ?_
    obtain rfl := sm h
    exact ⟨_, rfl, [], ci rfl, rfl, trivial, rfl, Nat.le_of_ble_eq_true rfl⟩
  · rintro r' rfl env st hp
    obtain rfl := sm h
    exact hp

noncomputable def ref3_Jumps (v1 : Int) : Bool :=
  ((decide (20 ≤ v1)) && (decide (v1 ≤ 36)))
theorem ref3_Jumps_ok (v1 : Int) {r : Bool} (h : ref3_Jumps v1 = r) : PureC Tryz.prog 149 [.lit (.int .i64 v1)] (.lit (.bool r)) := by
  refine pure_fn Tryz.func149 rfl (by kernel_rfl) rfl rfl ?_
  unfold ref3_Jumps at h
  refine rg rfl <| u <| asg rfl <| r_nil ?_
  refine rg rfl <| u <| mv rfl <| u <| geq ti3 rfl rfl <| u <| mv rfl <| r_and (x := ((decide (20 ≤ v1)) && (decide (v1 ≤ 36)))) (j := 2) 2 rfl rfl rfl rfl rfl gpn (fun hb1 => g rfl hb1 <| mv rfl <| g rfl hb1 <| leq ti3 rfl rfl <| r_nil (egA [6, 7] 2 hb1 rfl rfl rfl rfl)) andF <| u <| asg rfl <| r_nil ?_
  refine sw_ret ?_
  obtain rfl := h
  exact ⟨_, rfl, [], ci rfl, rfl, trivial, rfl, Nat.le_of_ble_eq_true rfl⟩

noncomputable def ref3_parts_j2 (v3 : Bool) : Bool × Int × Bool :=
  cond v3 ((false, 2, false)) ((false, 0, false))
noncomputable def ref3_parts_j1 (v1 : Int) (v2 : Bool) : Bool × Int × Bool :=
  cond v2 ((true, 0, false)) (cond (v1 == (37 : Int)) ((false, 1, false)) (cond ((decide (38 ≤ v1)) && (decide (v1 ≤ 45))) ((false, 1, true)) (cond (v1 == (50 : Int)) (ref3_parts_j2 (v1 == (50 : Int))) (cond (v1 == (56 : Int)) (ref3_parts_j2 (v1 == (56 : Int))) (ref3_parts_j2 (v1 == (57 : Int)))))))
noncomputable def ref3_parts (v1 : Int) : Bool × Int × Bool :=
  cond (v1 == (1 : Int)) (ref3_parts_j1 v1 (v1 == (1 : Int))) (cond (v1 == (3 : Int)) (ref3_parts_j1 v1 (v1 == (3 : Int))) (cond (v1 == (4 : Int)) (ref3_parts_j1 v1 (v1 == (4 : Int))) (ref3_parts_j1 v1 (ref3_Jumps v1))))
theorem ref3_parts_ok (v1 : Int) {r : Bool × Int × Bool} (h : ref3_parts v1 = r) : PureC Tryz.prog 168 [.lit (.int .i64 v1)] (.tup [.lit (.bool r.1), .lit (.int .i64 r.2.1), .lit (.bool r.2.2)]) := by
  refine pure_fn Tryz.func168 rfl (by kernel_rfl) rfl rfl ?_
  unfold ref3_parts at h
  refine rg rfl <| u <| asg rfl <| u <| asg rfl <| u <| asg rfl <| r_nil ?_
  refine sw_seq ?_
  refine sw_block ?_
  refine sw_meet (X := Bool) (fun z => [(0, .lit (.int .i64 v1)), (5, .lit (.bool z))]) (fun z => []) (fun z => ref3_parts_j1 v1 z = r) ?_ ?_
  · refine rg rfl <| u <| mv rfl <| u <| eql ti3 rfl rfl <| u <| asg rfl <| r_nil ?_
    refine sw_cond rfl (fun hc1 => ?_) (fun hc1 => ?_)
    · replace h := bT hc1 h
      refine sw_skip ?_
      exact ⟨(v1 == (1 : Int)), h, [], ce rfl rfl <| ce rfl rfl <| cn, rfl, trivial, rfl, Nat.le_of_ble_eq_true rfl⟩
    · replace h := bF hc1 h
      refine rg rfl <| u <| mv rfl <| u <| eql ti3 rfl rfl <| u <| asg rfl <| r_nil ?_
      refine sw_cond rfl (fun hc2 => ?_) (fun hc2 => ?_)
      · replace h := bT hc2 h
        refine sw_skip ?_
        exact ⟨(v1 == (3 : Int)), h, [], ce rfl rfl <| ce rfl rfl <| cn, rfl, trivial, rfl, Nat.le_of_ble_eq_true rfl⟩
      · replace h := bF hc2 h
        refine rg rfl <| u <| mv rfl <| u <| eql ti3 rfl rfl <| u <| asg rfl <| r_nil ?_
        refine sw_cond rfl (fun hc3 => ?_) (fun hc3 => ?_)
        · replace h := bT hc3 h
          refine sw_skip ?_
          exact ⟨(v1 == (4 : Int)), h, [], ce rfl rfl <| ce rfl rfl <| cn, rfl, trivial, rfl, Nat.le_of_ble_eq_true rfl⟩
        · replace h := bF hc3 h
          exact rl rfl <| u <| mv rfl <| u <| pc (ref3_Jumps_ok v1 rfl) rfl rfl rfl <| u <| asg rfl <| r_nil (⟨(ref3_Jumps v1), h, [], ce rfl rfl <| ce rfl rfl <| cn, rfl, trivial, rfl, Nat.le_of_ble_eq_true rfl⟩)
  · rintro v2 h
    replace h : ref3_parts_j1 v1 v2 = r := h
    unfold ref3_parts_j1 at h
    refine sw_cond rfl (fun hc4 => ?_) (fun hc4 => ?_)
    · replace h := bT hc4 h
      refine rg rfl <| u <| asg rfl <| u <| asg rfl <| u <| asg rfl <| r_nil ?_
      refine sw_ret ?_
      obtain rfl := h
      exact ⟨_, rfl, [], rsTup ⟨(ci rfl), (ci rfl), (ci rfl), trivial⟩, rfl, trivial, rfl, Nat.le_of_ble_eq_true rfl⟩
    · replace h := bF hc4 h
      refine rg rfl <| u <| mv rfl <| u <| eql ti3 rfl rfl <| u <| asg rfl <| r_nil ?_
      refine sw_cond rfl (fun hc5 => ?_) (fun hc5 => ?_)
      · replace h := bT hc5 h
        refine rg rfl <| u <| asg rfl <| u <| asg rfl <| u <| asg rfl <| r_nil ?_
        refine sw_ret ?_
        obtain rfl := h
        exact ⟨_, rfl, [], rsTup ⟨(ci rfl), (ci rfl), (ci rfl), trivial⟩, rfl, trivial, rfl, Nat.le_of_ble_eq_true rfl⟩
      · replace h := bF hc5 h
        refine rg rfl <| u <| mv rfl <| u <| geq ti3 rfl rfl <| u <| mv rfl <| r_and (x := ((decide (38 ≤ v1)) && (decide (v1 ≤ 45)))) (j := 2) 2 rfl rfl rfl rfl rfl gpn (fun hb6 => g rfl hb6 <| mv rfl <| g rfl hb6 <| leq ti3 rfl rfl <| r_nil (egA [21, 22] 2 hb6 rfl rfl rfl rfl)) andF <| u <| asg rfl <| r_nil ?_
        refine sw_cond rfl (fun hc7 => ?_) (fun hc7 => ?_)
        · replace h := bT hc7 h
          refine rg rfl <| u <| asg rfl <| u <| asg rfl <| u <| asg rfl <| r_nil ?_
          refine sw_ret ?_
          obtain rfl := h
          exact ⟨_, rfl, [], rsTup ⟨(ci rfl), (ci rfl), (ci rfl), trivial⟩, rfl, trivial, rfl, Nat.le_of_ble_eq_true rfl⟩
        · replace h := bF hc7 h
          refine sw_meet (X := Bool) (fun z => [(24, .lit (.bool z))]) (fun z => []) (fun z => ref3_parts_j2 z = r) ?_ ?_
          · refine rg rfl <| u <| mv rfl <| u <| eql ti3 rfl rfl <| u <| asg rfl <| r_nil ?_
            refine sw_cond rfl (fun hc8 => ?_) (fun hc8 => ?_)
            · replace h := bT hc8 h
              refine sw_skip ?_
              exact ⟨(v1 == (50 : Int)), h, [], ce rfl rfl <| cn, rfl, trivial, rfl, Nat.le_of_ble_eq_true rfl⟩
            · replace h := bF hc8 h
              refine rg rfl <| u <| mv rfl <| u <| eql ti3 rfl rfl <| u <| asg rfl <| r_nil ?_
              refine sw_cond rfl (fun hc9 => ?_) (fun hc9 => ?_)
              · replace h := bT hc9 h
                refine sw_skip ?_
                exact ⟨(v1 == (56 : Int)), h, [], ce rfl rfl <| cn, rfl, trivial, rfl, Nat.le_of_ble_eq_true rfl⟩
              · replace h := bF hc9 h
                exact rl rfl <| u <| mv rfl <| u <| eql ti3 rfl rfl <| u <| asg rfl <| r_nil (⟨(v1 == (57 : Int)), h, [], ce rfl rfl <| cn, rfl, trivial, rfl, Nat.le_of_ble_eq_true rfl⟩)
          · rintro v3 h
            replace h : ref3_parts_j2 v3 = r := h
            unfold ref3_parts_j2 at h
            refine sw_cond rfl (fun hc10 => ?_) (fun hc10 => ?_)
            · replace h := bT hc10 h
              refine rg rfl <| u <| asg rfl <| u <| asg rfl <| u <| asg rfl <| r_nil ?_
              refine sw_ret ?_
              obtain rfl := h
              exact ⟨_, rfl, [], rsTup ⟨(ci rfl), (ci rfl), (ci rfl), trivial⟩, rfl, trivial, rfl, Nat.le_of_ble_eq_true rfl⟩
            · replace h := bF hc10 h
              refine sw_skip ?_
              refine rg rfl <| u <| asg rfl <| u <| asg rfl <| u <| asg rfl <| r_nil ?_
              refine sw_ret ?_
              obtain rfl := h
              exact ⟨_, rfl, [], rsTup ⟨(ci rfl), (ci rfl), (ci rfl), trivial⟩, rfl, trivial, rfl, Nat.le_of_ble_eq_true rfl⟩

noncomputable def ref3_number (v1 : Int) (v2 : Int) : Bool :=
  cond (v1 == (1 : Int)) (((decide ((-2147483648) ≤ v2)) && (decide (v2 < 2147483648)))) (cond (ref3_Jumps v1) (((decide (0 ≤ v2)) && (decide (v2 < 100)))) (((decide (0 ≤ v2)) && (decide (v2 < 16)))))
theorem ref3_number_ok (v1 : Int) (v2 : Int) {r : Bool} (h : ref3_number v1 v2 = r) : PureC Tryz.prog 169 [.lit (.int .i64 v1), .lit (.int .i64 v2)] (.lit (.bool r)) := by
  refine pure_fn Tryz.func169 rfl (by kernel_rfl) rfl rfl ?_
  unfold ref3_number at h
  refine rg rfl <| u <| asg rfl <| r_nil ?_
  refine sw_seq ?_
  refine sw_block ?_
  refine rg rfl <| u <| mv rfl <| u <| eql ti3 rfl rfl <| u <| asg rfl <| r_nil ?_
  refine sw_cond rfl (fun hc1 => ?_) (fun hc1 => ?_)
  · replace h := bT hc1 h
    refine rg rfl <| u <| mv rfl <| u <| geq ti3 rfl rfl <| u <| mv rfl <| r_and (x := ((decide ((-2147483648) ≤ v2)) && (decide (v2 < 2147483648)))) (j := 2) 2 rfl rfl rfl rfl rfl gpn (fun hb2 => g rfl hb2 <| mv rfl <| g rfl hb2 <| lss ti3 rfl rfl <| r_nil (egA [11, 12] 2 hb2 rfl rfl rfl rfl)) andF <| u <| asg rfl <| r_nil ?_
    refine sw_ret ?_
    obtain rfl := h
    exact ⟨_, rfl, [], ci rfl, rfl, trivial, rfl, Nat.le_of_ble_eq_true rfl⟩
  · replace h := bF hc1 h
    refine rg rfl <| u <| mv rfl <| u <| pc (ref3_Jumps_ok v1 rfl) rfl rfl rfl <| u <| asg rfl <| r_nil ?_
    refine sw_cond rfl (fun hc3 => ?_) (fun hc3 => ?_)
    · replace h := bT hc3 h
      refine rg rfl <| u <| mv rfl <| u <| geq ti3 rfl rfl <| u <| mv rfl <| r_and (x := ((decide (0 ≤ v2)) && (decide (v2 < 100)))) (j := 2) 2 rfl rfl rfl rfl rfl gpn (fun hb4 => g rfl hb4 <| mv rfl <| g rfl hb4 <| lss ti3 rfl rfl <| r_nil (egA [20, 21] 2 hb4 rfl rfl rfl rfl)) andF <| u <| asg rfl <| r_nil ?_
      refine sw_ret ?_
      obtain rfl := h
      exact ⟨_, rfl, [], ci rfl, rfl, trivial, rfl, Nat.le_of_ble_eq_true rfl⟩
    · replace h := bF hc3 h
      refine sw_skip ?_
      refine rg rfl <| u <| mv rfl <| u <| geq ti3 rfl rfl <| u <| mv rfl <| r_and (x := ((decide (0 ≤ v2)) && (decide (v2 < 16)))) (j := 2) 2 rfl rfl rfl rfl rfl gpn (fun hb5 => g rfl hb5 <| mv rfl <| g rfl hb5 <| lss ti3 rfl rfl <| r_nil (egA [26, 27] 2 hb5 rfl rfl rfl rfl)) andF <| u <| asg rfl <| r_nil ?_
      refine sw_ret ?_
      obtain rfl := h
      exact ⟨_, rfl, [], ci rfl, rfl, trivial, rfl, Nat.le_of_ble_eq_true rfl⟩

noncomputable def ref3_May_k2 (v12 : List UInt8) : Option (Bool) :=
  (cond (v12 == [73]) (some true) ((ref3_Class v12).bind fun v13 => some v13)).bind fun v14 => some v14
noncomputable def ref3_May_l1 (v7 : List UInt8) (v8 : Int) : Option (Sum ((List UInt8) × Int) (Sum ((List UInt8)) (Bool))) :=
  (cond ((decide (v8 < 2)) && (decide (0 < (List.length v7 : Int)))) ((idx v7 0).bind fun v9 => some ((v9.toNat : Int) == (91 : Int))) (some false)).bind fun v10 => cond v10 ((cutP v7 1 (List.length v7 : Int)).bind fun v11 => some (.inl (v11, (IntKind.i64.wrap (v8 + 1))))) (some (.inr (.inl v7)))
noncomputable def ref3_May (v1 : List UInt8) : Option (Bool) :=
  (loopP (fun z => ref3_May_l1 z.1 z.2) (v1, 0)).bind fun o => leave o (fun b => ref3_May_k2 b) some
theorem ref3_May_ok (v1 : List UInt8) {r : Bool} (h : ref3_May v1 = some r) : PureC Tryz.prog 38 [.lit (.string (B v1))] (.lit (.bool r)) := by
  refine pure_fn Tryz.func38 rfl (by kernel_rfl) rfl rfl ?_
  unfold ref3_May at h
  refine rg rfl <| u <| asg rfl <| r_nil ?_
  refine sw_seq ?_
  refine rg rfl <| u <| asg rfl <| r_nil ?_
  obtain ⟨o, ho, h⟩ := bs h
  refine sw_lpl (X := (List UInt8) × Int) (B := (List UInt8)) (R := Bool) (fun z => [(0, .lit (.string (B z.1))), (3, .lit (.int .i64 z.2))]) (fun z => []) (fun b => [(0, .lit (.string (B b)))]) (fun b => []) (fun r env st => PostF Tryz.prog Tryz.f38 0 (.lit (.bool r)) [] env st) ho ⟨[], ce rfl rfl <| ce rfl rfl <| cn, rfl, trivial, rfl, Nat.le_of_ble_eq_true rfl⟩ ?_ ?_ ?_
  · rintro ⟨v7, v8⟩ r h
    replace h : ref3_May_l1 v7 v8 = some r := h
    unfold ref3_May_l1 at h
    refine sw_seq ?_
    obtain ⟨v10, q10, h⟩ := bs h
    refine rg rfl <| u <| mv rfl <| u <| lss ti3 rfl rfl <| u <| mv rfl <| r_and (x := ((decide (v8 < 2)) && (decide (0 < (List.length v7 : Int))))) (j := 2) 3 rfl rfl rfl rfl rfl gpn (fun hb7 => g rfl hb7 <| mv rfl <| g rfl hb7 <| lnS ti9 rfl rfl <| g rfl hb7 <| gtr ti3 rfl rfl <| r_nil (egA [7, 8, 9] 3 hb7 rfl rfl rfl rfl)) andF <| u <| mv rfl <| r_and (x := v10) (j := 7) 3 rfl rfl rfl rfl rfl gpn (fun hb8 => by replace q10 := bT hb8 q10; obtain ⟨v9, q9, q10⟩ := bs q10; obtain rfl := sm q10; exact g rfl hb8 <| mv rfl <| g rfl hb8 <| ixS ti9 rfl rfl rfl q9 <| g rfl hb8 <| eql ti5 rfl rfl <| r_nil (eg [12, 13, 14] 3 rfl rfl rfl rfl)) (fun hb => (sm (bF hb q10)).symm) <| r_nil ?_
    refine sw_cond rfl (fun hc11 => ?_) (fun hc11 => ?_)
    · replace h := bT hc11 h
      refine sw_skip ?_
      refine sw_seq ?_
      refine sw_block ?_
      obtain ⟨v11, q12, h⟩ := bs h
      refine rl rfl <| u <| mv rfl <| u <| slS (a := 1) (b := (List.length v7 : Int)) ti9 rfl rfl (bnd_lo rfl q12) rfl q12 <| u <| asg rfl <| r_nil ?_
      refine rl rfl <| u <| mv rfl <| u <| add ti3 rfl rfl <| u <| asg rfl <| r_nil ?_
      obtain rfl := sm h
      exact ⟨_, rfl, [], ce rfl rfl <| ce rfl rfl <| cn, rfl, trivial, rfl, Nat.le_of_ble_eq_true rfl⟩
    · replace h := bF hc11 h
      refine sw_exit ?_
      obtain rfl := sm h
      exact ⟨rfl, _, rfl, [], ce rfl rfl <| cn, rfl, trivial, rfl, Nat.le_of_ble_eq_true rfl⟩
  · rintro v12 rfl
    replace h : ref3_May_k2 v12 = some r := h
    unfold ref3_May_k2 at h
    refine ow_intro ?_
    obtain ⟨v14, q15, h⟩ := bs h
    refine rg rfl <| u <| mv rfl <| u <| seq ti9 rfl rfl <| u <| mv rfl <| r_or (x := v14) (j := 2) 2 rfl rfl rfl rfl rfl gpn (fun hb13 => by replace q15 := bF hb13 q15; obtain ⟨v13, q14, q15⟩ := bs q15; obtain rfl := sm q15; exact g rfl hb13 <| mv rfl <| g rfl hb13 <| pc (ref3_Class_ok v12 q14) rfl rfl rfl <| r_nil (eg [23, 24] 2 rfl rfl rfl rfl)) (fun hb => (sm (bT hb q15)).symm) <| u <| asg rfl <| r_nil ?_
    refine sw_ret ?_
    obtain rfl := sm h
    exact ⟨_, rfl, [], ci rfl, rfl, trivial, rfl, Nat.le_of_ble_eq_true rfl⟩
  · rintro r' rfl env st hp
    obtain rfl := sm h
    exact hp

noncomputable def ref3_Ref (v1 : List UInt8) : Option (Bool) :=
  (cond (!(v1 == [73])) ((ref3_May v1).bind fun v2 => some v2) (some false)).bind fun v3 => some v3
theorem ref3_Ref_ok (v1 : List UInt8) {r : Bool} (h : ref3_Ref v1 = some r) : PureC Tryz.prog 170 [.lit (.string (B v1))] (.lit (.bool r)) := by
  refine pure_fn Tryz.func170 rfl (by kernel_rfl) rfl rfl ?_
  unfold ref3_Ref at h
  refine rg rfl <| u <| asg rfl <| r_nil ?_
  obtain ⟨v3, q3, h⟩ := bs h
  refine rg rfl <| u <| mv rfl <| u <| sne ti9 rfl rfl <| u <| mv rfl <| r_and (x := v3) (j := 2) 2 rfl rfl rfl rfl rfl gpn (fun hb1 => by replace q3 := bT hb1 q3; obtain ⟨v2, q2, q3⟩ := bs q3; obtain rfl := sm q3; exact g rfl hb1 <| mv rfl <| g rfl hb1 <| pc (ref3_May_ok v1 q2) rfl rfl rfl <| r_nil (eg [6, 7] 2 rfl rfl rfl rfl)) (fun hb => (sm (bF hb q3)).symm) <| u <| asg rfl <| r_nil ?_
  refine sw_ret ?_
  obtain rfl := sm h
  exact ⟨_, rfl, [], ci rfl, rfl, trivial, rfl, Nat.le_of_ble_eq_true rfl⟩

noncomputable def ref3_Name_k2 (v1 : List UInt8) : Option (Bool) :=
  some ((decide (1 ≤ (List.length v1 : Int))) && (decide ((List.length v1 : Int) ≤ 8)))
noncomputable def ref3_Name_l1 (v1 : List UInt8) (v9 : Int) : Option (Sum (Int) (Sum (Unit) (Bool))) :=
  cond (decide (v9 < (List.length v1 : Int))) ((idx v1 v9).bind fun v10 => (cond (!(ref3_little v10)) ((cond (v9 == (0 : Int)) (some true) ((idx v1 v9).bind fun v11 => (cond (!(ref3_great v11)) ((idx v1 v9).bind fun v12 => some (!(ref3_digit v12))) (some false)).bind fun v13 => some v13)).bind fun v14 => some v14) (some false)).bind fun v15 => cond v15 (some (.inr (.inr false))) (some (.inl (IntKind.i64.wrap (v9 + 1))))) (some (.inr (.inl ())))
noncomputable def ref3_Name (v1 : List UInt8) : Option (Bool) :=
  cond (v1 == [36, 105, 110, 105, 116]) (some true) ((loopP (fun z => ref3_Name_l1 v1 z) 0).bind fun o => leave o (fun b => ref3_Name_k2 v1) some)
theorem ref3_Name_ok (v1 : List UInt8) {r : Bool} (h : ref3_Name v1 = some r) : PureC Tryz.prog 37 [.lit (.string (B v1))] (.lit (.bool r)) := by
  refine pure_fn Tryz.func37 rfl (by kernel_rfl) rfl rfl ?_
  unfold ref3_Name at h
  refine rg rfl <| u <| asg rfl <| r_nil ?_
  refine sw_seq ?_
  refine rg rfl <| u <| mv rfl <| u <| seq ti9 rfl rfl <| r_nil ?_
  refine sw_cond rfl (fun hc1 => ?_) (fun hc1 => ?_)
  · replace h := bT hc1 h
    refine rg rfl <| u <| asg rfl <| r_nil ?_
    refine sw_ret ?_
    obtain rfl := sm h
    exact ⟨_, rfl, [], ci rfl, rfl, trivial, rfl, Nat.le_of_ble_eq_true rfl⟩
  · replace h := bF hc1 h
    refine sw_skip ?_
    refine sw_seq ?_
    refine rg rfl <| u <| asg rfl <| r_nil ?_
    obtain ⟨o, ho, h⟩ := bs h
    refine sw_lpl (X := Int) (B := Unit) (R := Bool) (fun z => [(0, .lit (.string (B v1))), (3, .lit (.int .i64 z))]) (fun z => []) (fun b => [(0, .lit (.string (B v1)))]) (fun b => []) (fun r env st => PostF Tryz.prog Tryz.f37 0 (.lit (.bool r)) [] env st) ho ⟨[], ce rfl rfl <| ce rfl rfl <| cn, rfl, trivial, rfl, Nat.le_of_ble_eq_true rfl⟩ ?_ ?_ ?_
    · rintro v9 r h
      replace h : ref3_Name_l1 v1 v9 = some r := h
      unfold ref3_Name_l1 at h
      refine sw_seq ?_
      refine rg rfl <| u <| mv rfl <| u <| mv rfl <| u <| lnS ti9 rfl rfl <| u <| lss ti3 rfl rfl <| r_nil ?_
      refine sw_cond rfl (fun hc13 => ?_) (fun hc13 => ?_)
      · replace h := bT hc13 h
        refine sw_skip ?_
        refine sw_seq ?_
        refine sw_block ?_
        obtain ⟨v10, q14, h⟩ := bs h
        obtain ⟨v15, q22, h⟩ := bs h
        refine rg rfl <| u <| mv rfl <| u <| mv rfl <| u <| ixS ti9 rfl rfl rfl q14 <| u <| pc (ref3_little_ok v10 rfl) rfl rfl rfl <| u <| nt rfl <| u <| mv rfl <| r_and (x := v15) (j := 5) 16 rfl rfl rfl rfl rfl gpn (fun hb15 => by replace q22 := bT hb15 q22; obtain ⟨v14, q21, q22⟩ := bs q22; obtain rfl := sm q22; exact g rfl hb15 <| mv rfl <| g rfl hb15 <| eql ti3 rfl rfl <| g rfl hb15 <| mv rfl <| r_or (x := v14) (j := 8) 12 rfl rfl rfl rfl rfl (gps rfl rfl hb15) (fun hb16 => by replace q21 := bF hb16 q21; obtain ⟨v11, q17, q21⟩ := bs q21; obtain ⟨v13, q20, q21⟩ := bs q21; obtain rfl := sm q21; exact g rfl hb16 <| mv rfl <| g rfl hb16 <| mv rfl <| g rfl hb16 <| ixS ti9 rfl rfl rfl q17 <| g rfl hb16 <| pc (ref3_great_ok v11 rfl) rfl rfl rfl <| g rfl hb16 <| nt rfl <| g rfl hb16 <| mv rfl <| r_and (x := v13) (j := 14) 5 rfl rfl rfl rfl rfl (gps rfl rfl hb16) (fun hb18 => by replace q20 := bT hb18 q20; obtain ⟨v12, q19, q20⟩ := bs q20; obtain rfl := sm q20; exact g rfl hb18 <| mv rfl <| g rfl hb18 <| mv rfl <| g rfl hb18 <| ixS ti9 rfl rfl rfl q19 <| g rfl hb18 <| pc (ref3_digit_ok v12 rfl) rfl rfl rfl <| g rfl hb18 <| nt rfl <| r_nil (eg [27, 28, 29, 30, 31] 5 rfl rfl rfl rfl)) (fun hb => (sm (bF hb q20)).symm) <| r_nil (eg [21, 22, 23, 24, 25, 26, 27, 28, 29, 30, 31, 32] 7 rfl rfl rfl rfl)) (fun hb => (sm (bT hb q21)).symm) <| r_nil (eg [18, 19, 20, 21, 22, 23, 24, 25, 26, 27, 28, 29, 30, 31, 32, 33] 4 rfl rfl rfl rfl)) (fun hb => (sm (bF hb q22)).symm) <| r_nil ?_
        refine sw_cond rfl (fun hc23 => ?_) (fun hc23 => ?_)
        · replace h := bT hc23 h
          refine rg rfl <| u <| asg rfl <| r_nil ?_
          refine sw_ret ?_
          obtain rfl := sm h
          exact ⟨_, rfl, _, rfl, [], ci rfl, rfl, trivial, rfl, Nat.le_of_ble_eq_true rfl⟩
        · replace h := bF hc23 h
          refine sw_skip ?_
          refine rl rfl <| u <| mv rfl <| u <| add ti3 rfl rfl <| u <| asg rfl <| r_nil ?_
          obtain rfl := sm h
          exact ⟨_, rfl, [], ce rfl rfl <| ce rfl rfl <| cn, rfl, trivial, rfl, Nat.le_of_ble_eq_true rfl⟩
      · replace h := bF hc13 h
        refine sw_exit ?_
        obtain rfl := sm h
        exact ⟨rfl, _, rfl, [], ce rfl rfl <| cn, rfl, trivial, rfl, Nat.le_of_ble_eq_true rfl⟩
    · rintro ⟨⟩ rfl
      replace h : ref3_Name_k2 v1 = some r := h
      unfold ref3_Name_k2 at h
      refine ow_intro ?_
      refine rg rfl <| u <| mv rfl <| u <| lnS ti9 rfl rfl <| u <| geq ti3 rfl rfl <| u <| mv rfl <| r_and (x := ((decide (1 ≤ (List.length v1 : Int))) && (decide ((List.length v1 : Int) ≤ 8)))) (j := 3) 3 rfl rfl rfl rfl rfl gpn (fun hb24 => g rfl hb24 <| mv rfl <| g rfl hb24 <| lnS ti9 rfl rfl <| g rfl hb24 <| leq ti3 rfl rfl <| r_nil (egA [39, 40, 41] 3 hb24 rfl rfl rfl rfl)) andF <| u <| asg rfl <| r_nil ?_
      refine sw_ret ?_
      obtain rfl := sm h
      exact ⟨_, rfl, [], ci rfl, rfl, trivial, rfl, Nat.le_of_ble_eq_true rfl⟩
    · rintro r' rfl env st hp
      obtain rfl := sm h
      exact hp

noncomputable def ref3_MayIns (v1 : ApiIns) : Option (Bool) :=
  cond ((decide (v1.Op < 1)) || (decide (61 < v1.Op))) (some false) (cond ((((ref3_parts v1.Op).1) && (!(ref3_number v1.Op v1.A))) || ((!((ref3_parts v1.Op).1)) && (!(v1.A == (0 : Int))))) (some false) ((cond ((((ref3_parts v1.Op).2.1) == (0 : Int)) && (!(v1.C == []))) (some true) ((cond (((ref3_parts v1.Op).2.1) == (1 : Int)) ((ref3_Class v1.C).bind fun v2 => some (!v2)) (some false)).bind fun v3 => some v3)).bind fun v4 => (cond v4 (some true) ((cond (((ref3_parts v1.Op).2.1) == (2 : Int)) ((ref3_Ref v1.C).bind fun v5 => some (!v5)) (some false)).bind fun v6 => some v6)).bind fun v7 => cond v7 (some false) (cond ((ref3_parts v1.Op).2.2) ((ref3_Name v1.M).bind fun v8 => some (v8 && (!(v1.M == [36, 105, 110, 105, 116])))) (some (v1.M == [])))))
theorem ref3_MayIns_ok (v1 : ApiIns) {r : Bool} (h : ref3_MayIns v1 = some r) : PureC Tryz.prog 148 [.agg [.lit (.int .i64 v1.Op), .lit (.int .i64 v1.A), .lit (.string (B v1.C)), .lit (.string (B v1.M))]] (.lit (.bool r)) := by
  refine pure_fn Tryz.func148 rfl (by kernel_rfl) rfl rfl ?_
  unfold ref3_MayIns at h
  refine rg rfl <| u <| bx 0 4 rfl rfl rfl rfl <| u <| asg rfl <| r_nil ?_
  refine rg rfl <| u <| fa ti37 rfl rfl rfl <| u <| ld ti3 rfl rfl <| u <| pc (ref3_parts_ok v1.Op rfl) rfl rfl rfl <| u <| mv rfl <| u <| ex rfl rfl <| u <| ex rfl rfl <| u <| ex rfl rfl <| u <| asg rfl <| u <| asg rfl <| u <| asg rfl <| r_nil ?_
  refine sw_seq ?_
  refine sw_block ?_
  refine rg rfl <| u <| fa ti37 rfl rfl rfl <| u <| ld ti3 rfl rfl <| u <| lss ti3 rfl rfl <| u <| mv rfl <| r_or (x := ((decide (v1.Op < 1)) || (decide (61 < v1.Op)))) (j := 3) 3 rfl rfl rfl rfl rfl gpn (fun hb1 => g rfl hb1 <| fa ti37 rfl rfl rfl <| g rfl hb1 <| ld ti3 rfl rfl <| g rfl hb1 <| gtr ti3 rfl rfl <| r_nil (egO [18, 19, 20] 3 hb1 rfl rfl rfl rfl)) orT <| u <| asg rfl <| r_nil ?_
  refine sw_cond rfl (fun hc2 => ?_) (fun hc2 => ?_)
  · replace h := bT hc2 h
    refine rg rfl <| u <| asg rfl <| r_nil ?_
    refine sw_ret ?_
    obtain rfl := sm h
    exact ⟨_, rfl, [], ci rfl, rfl, trivial, rfl, Nat.le_of_ble_eq_true rfl⟩
  · replace h := bF hc2 h
    refine rg rfl <| u <| mv rfl <| u <| mv rfl <| r_and (x := (((ref3_parts v1.Op).1) && (!(ref3_number v1.Op v1.A)))) (j := 1) 6 rfl rfl rfl rfl rfl gpn (fun hb3 => g rfl hb3 <| fa ti37 rfl rfl rfl <| g rfl hb3 <| ld ti3 rfl rfl <| g rfl hb3 <| fa ti37 rfl rfl rfl <| g rfl hb3 <| ld ti3 rfl rfl <| g rfl hb3 <| pc (ref3_number_ok v1.Op v1.A rfl) rfl rfl rfl <| g rfl hb3 <| nt rfl <| r_nil (egA [25, 26, 27, 28, 29, 30] 6 hb3 rfl rfl rfl rfl)) andF <| u <| mv rfl <| r_or (x := ((((ref3_parts v1.Op).1) && (!(ref3_number v1.Op v1.A))) || ((!((ref3_parts v1.Op).1)) && (!(v1.A == (0 : Int)))))) (j := 9) 7 rfl rfl rfl rfl rfl gpn (fun hb4 => g rfl hb4 <| mv rfl <| g rfl hb4 <| nt rfl <| g rfl hb4 <| mv rfl <| r_and (x := ((!((ref3_parts v1.Op).1)) && (!(v1.A == (0 : Int))))) (j := 12) 3 rfl rfl rfl rfl rfl (gps rfl rfl hb4) (fun hb5 => g rfl hb5 <| fa ti37 rfl rfl rfl <| g rfl hb5 <| ld ti3 rfl rfl <| g rfl hb5 <| neq ti3 rfl rfl <| r_nil (egA [36, 37, 38] 3 hb5 rfl rfl rfl rfl)) andF <| r_nil (egO [33, 34, 35, 36, 37, 38, 39] 4 hb4 rfl rfl rfl rfl)) orT <| u <| asg rfl <| r_nil ?_
    refine sw_cond rfl (fun hc6 => ?_) (fun hc6 => ?_)
    · replace h := bT hc6 h
      refine rg rfl <| u <| asg rfl <| r_nil ?_
      refine sw_ret ?_
      obtain rfl := sm h
      exact ⟨_, rfl, [], ci rfl, rfl, trivial, rfl, Nat.le_of_ble_eq_true rfl⟩
    · replace h := bF hc6 h
      obtain ⟨v4, q12, h⟩ := bs h
      obtain ⟨v7, q17, h⟩ := bs h
      refine rg rfl <| u <| mv rfl <| u <| eql ti3 rfl rfl <| u <| mv rfl <| r_and (x := ((((ref3_parts v1.Op).2.1) == (0 : Int)) && (!(v1.C == [])))) (j := 2) 3 rfl rfl rfl rfl rfl gpn (fun hb7 => g rfl hb7 <| fa ti37 rfl rfl rfl <| g rfl hb7 <| ld ti9 rfl rfl <| g rfl hb7 <| sne ti9 rfl rfl <| r_nil (egA [45, 46, 47] 3 hb7 rfl rfl rfl rfl)) andF <| u <| mv rfl <| r_or (x := v4) (j := 7) 8 rfl rfl rfl rfl rfl gpn (fun hb8 => by replace q12 := bF hb8 q12; obtain ⟨v3, q11, q12⟩ := bs q12; obtain rfl := sm q12; exact g rfl hb8 <| mv rfl <| g rfl hb8 <| eql ti3 rfl rfl <| g rfl hb8 <| mv rfl <| r_and (x := v3) (j := 10) 4 rfl rfl rfl rfl rfl (gps rfl rfl hb8) (fun hb9 => by replace q11 := bT hb9 q11; obtain ⟨v2, q10, q11⟩ := bs q11; obtain rfl := sm q11; exact g rfl hb9 <| fa ti37 rfl rfl rfl <| g rfl hb9 <| ld ti9 rfl rfl <| g rfl hb9 <| pc (ref3_Class_ok v1.C q10) rfl rfl rfl <| g rfl hb9 <| nt rfl <| r_nil (eg [53, 54, 55, 56] 4 rfl rfl rfl rfl)) (fun hb => (sm (bF hb q11)).symm) <| r_nil (eg [50, 51, 52, 53, 54, 55, 56, 57] 4 rfl rfl rfl rfl)) (fun hb => (sm (bT hb q12)).symm) <| u <| mv rfl <| r_or (x := v7) (j := 17) 8 rfl rfl rfl rfl rfl gpn (fun hb13 => by replace q17 := bF hb13 q17; obtain ⟨v6, q16, q17⟩ := bs q17; obtain rfl := sm q17; exact g rfl hb13 <| mv rfl <| g rfl hb13 <| eql ti3 rfl rfl <| g rfl hb13 <| mv rfl <| r_and (x := v6) (j := 20) 4 rfl rfl rfl rfl rfl (gps rfl rfl hb13) (fun hb14 => by replace q16 := bT hb14 q16; obtain ⟨v5, q15, q16⟩ := bs q16; obtain rfl := sm q16; exact g rfl hb14 <| fa ti37 rfl rfl rfl <| g rfl hb14 <| ld ti9 rfl rfl <| g rfl hb14 <| pc (ref3_Ref_ok v1.C q15) rfl rfl rfl <| g rfl hb14 <| nt rfl <| r_nil (eg [63, 64, 65, 66] 4 rfl rfl rfl rfl)) (fun hb => (sm (bF hb q16)).symm) <| r_nil (eg [60, 61, 62, 63, 64, 65, 66, 67] 4 rfl rfl rfl rfl)) (fun hb => (sm (bT hb q17)).symm) <| u <| asg rfl <| r_nil ?_
      refine sw_cond rfl (fun hc18 => ?_) (fun hc18 => ?_)
      · replace h := bT hc18 h
        refine rg rfl <| u <| asg rfl <| r_nil ?_
        refine sw_ret ?_
        obtain rfl := sm h
        exact ⟨_, rfl, [], ci rfl, rfl, trivial, rfl, Nat.le_of_ble_eq_true rfl⟩
      · replace h := bF hc18 h
        refine rg rfl <| u <| mv rfl <| u <| asg rfl <| r_nil ?_
        refine sw_cond rfl (fun hc19 => ?_) (fun hc19 => ?_)
        · replace h := bT hc19 h
          obtain ⟨v8, q20, h⟩ := bs h
          refine rg rfl <| u <| fa ti37 rfl rfl rfl <| u <| ld ti9 rfl rfl <| u <| pc (ref3_Name_ok v1.M q20) rfl rfl rfl <| u <| mv rfl <| r_and (x := (v8 && (!(v1.M == [36, 105, 110, 105, 116])))) (j := 3) 3 rfl rfl rfl rfl rfl gpn (fun hb21 => g rfl hb21 <| fa ti37 rfl rfl rfl <| g rfl hb21 <| ld ti9 rfl rfl <| g rfl hb21 <| sne ti9 rfl rfl <| r_nil (egA [75, 76, 77] 3 hb21 rfl rfl rfl rfl)) andF <| u <| asg rfl <| r_nil ?_
          refine sw_ret ?_
          obtain rfl := sm h
          exact ⟨_, rfl, [], ci rfl, rfl, trivial, rfl, Nat.le_of_ble_eq_true rfl⟩
        · replace h := bF hc19 h
          refine sw_skip ?_
          refine rg rfl <| u <| fa ti37 rfl rfl rfl <| u <| ld ti9 rfl rfl <| u <| seq ti9 rfl rfl <| u <| asg rfl <| r_nil ?_
          refine sw_ret ?_
          obtain rfl := sm h
          exact ⟨_, rfl, [], ci rfl, rfl, trivial, rfl, Nat.le_of_ble_eq_true rfl⟩

noncomputable def op_Ends_j1 (v2 : Bool) : Bool :=
  cond v2 (true) (false)
noncomputable def op_Ends (v1 : Int) : Bool :=
  cond (v1 == (20 : Int)) (op_Ends_j1 (v1 == (20 : Int))) (cond (v1 == (46 : Int)) (op_Ends_j1 (v1 == (46 : Int))) (cond (v1 == (47 : Int)) (op_Ends_j1 (v1 == (47 : Int))) (cond (v1 == (48 : Int)) (op_Ends_j1 (v1 == (48 : Int))) (cond (v1 == (58 : Int)) (op_Ends_j1 (v1 == (58 : Int))) (op_Ends_j1 (v1 == (61 : Int)))))))
theorem op_Ends_ok (v1 : Int) {r : Bool} (h : op_Ends v1 = r) : PureC Tryz.prog 132 [.lit (.int .i64 v1)] (.lit (.bool r)) := by
  refine pure_fn Tryz.func132 rfl (by kernel_rfl) rfl rfl ?_
  unfold op_Ends at h
  refine rg rfl <| u <| asg rfl <| r_nil ?_
  refine sw_seq ?_
  refine rg rfl <| u <| mv rfl <| r_nil ?_
  refine sw_block ?_
  refine sw_meet (X := Bool) (fun z => [(4, .lit (.bool z))]) (fun z => []) (fun z => op_Ends_j1 z = r) ?_ ?_
  · refine rg rfl <| u <| eql ti3 rfl rfl <| u <| asg rfl <| r_nil ?_
    refine sw_cond rfl (fun hc1 => ?_) (fun hc1 => ?_)
    · replace h := bT hc1 h
      refine sw_skip ?_
      exact ⟨(v1 == (20 : Int)), h, [], ce rfl rfl <| cn, rfl, trivial, rfl, Nat.le_of_ble_eq_true rfl⟩
    · replace h := bF hc1 h
      refine rg rfl <| u <| eql ti3 rfl rfl <| u <| asg rfl <| r_nil ?_
      refine sw_cond rfl (fun hc2 => ?_) (fun hc2 => ?_)
      · replace h := bT hc2 h
        refine sw_skip ?_
        exact ⟨(v1 == (46 : Int)), h, [], ce rfl rfl <| cn, rfl, trivial, rfl, Nat.le_of_ble_eq_true rfl⟩
      · replace h := bF hc2 h
        refine rg rfl <| u <| eql ti3 rfl rfl <| u <| asg rfl <| r_nil ?_
        refine sw_cond rfl (fun hc3 => ?_) (fun hc3 => ?_)
        · replace h := bT hc3 h
          refine sw_skip ?_
          exact ⟨(v1 == (47 : Int)), h, [], ce rfl rfl <| cn, rfl, trivial, rfl, Nat.le_of_ble_eq_true rfl⟩
        · replace h := bF hc3 h
          refine rg rfl <| u <| eql ti3 rfl rfl <| u <| asg rfl <| r_nil ?_
          refine sw_cond rfl (fun hc4 => ?_) (fun hc4 => ?_)
          · replace h := bT hc4 h
            refine sw_skip ?_
            exact ⟨(v1 == (48 : Int)), h, [], ce rfl rfl <| cn, rfl, trivial, rfl, Nat.le_of_ble_eq_true rfl⟩
          · replace h := bF hc4 h
            refine rg rfl <| u <| eql ti3 rfl rfl <| u <| asg rfl <| r_nil ?_
            refine sw_cond rfl (fun hc5 => ?_) (fun hc5 => ?_)
            · replace h := bT hc5 h
              refine sw_skip ?_
              exact ⟨(v1 == (58 : Int)), h, [], ce rfl rfl <| cn, rfl, trivial, rfl, Nat.le_of_ble_eq_true rfl⟩
            · replace h := bF hc5 h
              exact rl rfl <| u <| eql ti3 rfl rfl <| u <| asg rfl <| r_nil (⟨(v1 == (61 : Int)), h, [], ce rfl rfl <| cn, rfl, trivial, rfl, Nat.le_of_ble_eq_true rfl⟩)
  · rintro v2 h
    replace h : op_Ends_j1 v2 = r := h
    unfold op_Ends_j1 at h
    refine sw_cond rfl (fun hc6 => ?_) (fun hc6 => ?_)
    · replace h := bT hc6 h
      refine rg rfl <| u <| asg rfl <| r_nil ?_
      refine sw_ret ?_
      obtain rfl := h
      exact ⟨_, rfl, [], ci rfl, rfl, trivial, rfl, Nat.le_of_ble_eq_true rfl⟩
    · replace h := bF hc6 h
      refine sw_skip ?_
      refine rg rfl <| u <| asg rfl <| r_nil ?_
      refine sw_ret ?_
      obtain rfl := h
      exact ⟨_, rfl, [], ci rfl, rfl, trivial, rfl, Nat.le_of_ble_eq_true rfl⟩

noncomputable def ref3_Ends_j1 (v2 : Bool) : Bool :=
  cond v2 (true) (false)
noncomputable def ref3_Ends (v1 : Int) : Bool :=
  cond (v1 == (20 : Int)) (ref3_Ends_j1 (v1 == (20 : Int))) (cond (v1 == (46 : Int)) (ref3_Ends_j1 (v1 == (46 : Int))) (cond (v1 == (47 : Int)) (ref3_Ends_j1 (v1 == (47 : Int))) (cond (v1 == (48 : Int)) (ref3_Ends_j1 (v1 == (48 : Int))) (cond (v1 == (58 : Int)) (ref3_Ends_j1 (v1 == (58 : Int))) (ref3_Ends_j1 (v1 == (61 : Int)))))))
theorem ref3_Ends_ok (v1 : Int) {r : Bool} (h : ref3_Ends v1 = r) : PureC Tryz.prog 147 [.lit (.int .i64 v1)] (.lit (.bool r)) := by
  refine pure_fn Tryz.func147 rfl (by kernel_rfl) rfl rfl ?_
  unfold ref3_Ends at h
  refine rg rfl <| u <| asg rfl <| r_nil ?_
  refine sw_seq ?_
  refine rg rfl <| u <| mv rfl <| r_nil ?_
  refine sw_block ?_
  refine sw_meet (X := Bool) (fun z => [(4, .lit (.bool z))]) (fun z => []) (fun z => ref3_Ends_j1 z = r) ?_ ?_
  · refine rg rfl <| u <| eql ti3 rfl rfl <| u <| asg rfl <| r_nil ?_
    refine sw_cond rfl (fun hc1 => ?_) (fun hc1 => ?_)
    · replace h := bT hc1 h
      refine sw_skip ?_
      exact ⟨(v1 == (20 : Int)), h, [], ce rfl rfl <| cn, rfl, trivial, rfl, Nat.le_of_ble_eq_true rfl⟩
    · replace h := bF hc1 h
      refine rg rfl <| u <| eql ti3 rfl rfl <| u <| asg rfl <| r_nil ?_
      refine sw_cond rfl (fun hc2 => ?_) (fun hc2 => ?_)
      · replace h := bT hc2 h
        refine sw_skip ?_
        exact ⟨(v1 == (46 : Int)), h, [], ce rfl rfl <| cn, rfl, trivial, rfl, Nat.le_of_ble_eq_true rfl⟩
      · replace h := bF hc2 h
        refine rg rfl <| u <| eql ti3 rfl rfl <| u <| asg rfl <| r_nil ?_
        refine sw_cond rfl (fun hc3 => ?_) (fun hc3 => ?_)
        · replace h := bT hc3 h
          refine sw_skip ?_
          exact ⟨(v1 == (47 : Int)), h, [], ce rfl rfl <| cn, rfl, trivial, rfl, Nat.le_of_ble_eq_true rfl⟩
        · replace h := bF hc3 h
          refine rg rfl <| u <| eql ti3 rfl rfl <| u <| asg rfl <| r_nil ?_
          refine sw_cond rfl (fun hc4 => ?_) (fun hc4 => ?_)
          · replace h := bT hc4 h
            refine sw_skip ?_
            exact ⟨(v1 == (48 : Int)), h, [], ce rfl rfl <| cn, rfl, trivial, rfl, Nat.le_of_ble_eq_true rfl⟩
          · replace h := bF hc4 h
            refine rg rfl <| u <| eql ti3 rfl rfl <| u <| asg rfl <| r_nil ?_
            refine sw_cond rfl (fun hc5 => ?_) (fun hc5 => ?_)
            · replace h := bT hc5 h
              refine sw_skip ?_
              exact ⟨(v1 == (58 : Int)), h, [], ce rfl rfl <| cn, rfl, trivial, rfl, Nat.le_of_ble_eq_true rfl⟩
            · replace h := bF hc5 h
              exact rl rfl <| u <| eql ti3 rfl rfl <| u <| asg rfl <| r_nil (⟨(v1 == (61 : Int)), h, [], ce rfl rfl <| cn, rfl, trivial, rfl, Nat.le_of_ble_eq_true rfl⟩)
  · rintro v2 h
    replace h : ref3_Ends_j1 v2 = r := h
    unfold ref3_Ends_j1 at h
    refine sw_cond rfl (fun hc6 => ?_) (fun hc6 => ?_)
    · replace h := bT hc6 h
      refine rg rfl <| u <| asg rfl <| r_nil ?_
      refine sw_ret ?_
      obtain rfl := h
      exact ⟨_, rfl, [], ci rfl, rfl, trivial, rfl, Nat.le_of_ble_eq_true rfl⟩
    · replace h := bF hc6 h
      refine sw_skip ?_
      refine rg rfl <| u <| asg rfl <| r_nil ?_
      refine sw_ret ?_
      obtain rfl := h
      exact ⟨_, rfl, [], ci rfl, rfl, trivial, rfl, Nat.le_of_ble_eq_true rfl⟩
end Go.Proofs.YthhkdanpjcnegaaGreat
