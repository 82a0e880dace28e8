/- Written by program (gen.py): worth and walk of each function. -/
import Derived.Test.YthhkdanpjcnegaaG4
namespace Go.Proofs.Ythhkdanpjcnegaa
set_option linter.unusedSimpArgs false
set_option linter.unusedVariables false
set_option maxRecDepth 100000
set_option maxHeartbeats 4000000


theorem eqs44 : eqSpec Try.prog 44 = some [(0, .int), (1, .int), (2, .str), (3, .str)] := by kernel_rfl
theorem eqs63 : eqSpec Try.prog 63 = some [(0, .str), (1, .str), (2, .bool)] := by kernel_rfl
theorem eqs69 : eqSpec Try.prog 69 = some [(0, .int), (1, .int), (2, .int), (3, .str)] := by kernel_rfl
noncomputable def slices_Equal_string_string_k2 : Option (Bool) :=
  some true
noncomputable def slices_Equal_string_string_l1 (v1 : List (List UInt8)) (v2 : List (List UInt8)) (v6 : Int) : Option (Sum (Int) (Sum (Unit) (Bool))) :=
  cond (decide (v6 < (List.length v1 : Int))) ((idx v1 v6).bind fun v7 => (idx v2 v6).bind fun v8 => cond (!(v7 == v8)) (some (.inr (.inr false))) (some (.inl (IntKind.i64.wrap (v6 + 1))))) (some (.inr (.inl ())))
noncomputable def slices_Equal_string_string (v1 : List (List UInt8)) (v2 : List (List UInt8)) : Option (Bool) :=
  cond (!((List.length v1 : Int) == (List.length v2 : Int))) (some false) ((loopP (fun z => slices_Equal_string_string_l1 v1 v2 z) 0).bind fun o => leave o (fun b => slices_Equal_string_string_k2) some)
theorem slices_Equal_string_string_ok (v1 : List (List UInt8)) (v2 : List (List UInt8)) {r : Bool} (h : slices_Equal_string_string v1 v2 = some r) : PureC Try.prog 83 [.isl 1 (List.map rStr v1), .isl 1 (List.map rStr v2)] (.lit (.bool r)) := by
  refine pure_fn Try.func83 rfl (by kernel_rfl) rfl rfl ?_
  unfold slices_Equal_string_string at h
  refine rg rfl <| u <| asg rfl <| r_nil ?_
  refine sw_seq ?_
  refine rg rfl <| u <| mv rfl <| u <| lnI ti57 rfl rfl <| u <| mv rfl <| u <| lnI ti57 rfl rfl <| u <| neq ti3 rfl rfl <| r_nil ?_
  refine sw_cond rfl (fun hc1 => ?_) (fun hc1 => ?_)
  · replace h := bT hc1 h
    refine rg rfl <| u <| asg rfl <| r_nil ?_
    refine sw_ret ?_
    obtain rfl := sm h
    exact ⟨_, rfl, [], ci rfl, rfl, trivial, rfl, Nat.le_of_ble_eq_true rfl⟩
  · replace h := bF hc1 h
    refine sw_skip ?_
    refine sw_seq ?_
    refine rg rfl <| u <| mv rfl <| u <| lnI ti57 rfl rfl <| u <| mv rfl <| r_nil ?_
    obtain ⟨o, ho, h⟩ := bs h
    refine sw_lpl (X := Int) (B := Unit) (R := Bool) (fun z => [(0, .isl 1 (List.map rStr v1)), (1, .isl 1 (List.map rStr v2)), (12, .lit (.int .i64 (List.length v1 : Int))), (13, .lit (.int .i64 z))]) (fun z => []) (fun b => []) (fun b => []) (fun r env st => PostF Try.prog Try.f83 0 (.lit (.bool r)) [] env st) ho ⟨[], ce rfl rfl <| ce rfl rfl <| ce rfl rfl <| ce rfl rfl <| cn, rfl, trivial, rfl, Nat.le_of_ble_eq_true rfl⟩ ?_ ?_ ?_
    · rintro v6 r h
      replace h : slices_Equal_string_string_l1 v1 v2 v6 = some r := h
      unfold slices_Equal_string_string_l1 at h
      refine rg rfl <| u <| lss ti3 rfl rfl <| r_nil ?_
      refine sw_seq ?_
      refine sw_cond rfl (fun hc6 => ?_) (fun hc6 => ?_)
      · replace h := bT hc6 h
        refine sw_skip ?_
        refine sw_seq ?_
        refine sw_block ?_
        refine rg rfl <| u <| mv rfl <| u <| asg rfl <| r_nil ?_
        obtain ⟨v7, q7, h⟩ := bs h
        obtain ⟨v8, q8, h⟩ := bs h
        refine rd [(0, .isl 1 (List.map rStr v1)), (1, .isl 1 (List.map rStr v2)), (12, .lit (.int .i64 (List.length v1 : Int))), (13, .lit (.int .i64 v6)), (24, .lit (.bool (!(v7 == v8))))] [] [] [8, 7, 6, 5, 4, 3, 2, 1, 0] [(24, .lit (.bool (!(v7 == v8)))), (23, .lit (.string (B v8))), (22, .ipt 1 (List.map rStr v2) (Int.toNat v6) 0), (21, .lit (.int .i64 v6)), (20, .isl 1 (List.map rStr v2)), (19, .lit (.string (B v7))), (18, .ipt 1 (List.map rStr v1) (Int.toNat v6) 0), (17, .lit (.int .i64 v6)), (16, .isl 1 (List.map rStr v1))] 0 (by kernel_rfl) (by kernel_rfl) rfl (by kernel_rfl) (dt0 ⟨(fun _ => pa rfl rfl rfl rfl (sne ti9 rfl rfl <| ⟨rfl, rfl⟩)), (fun _ => pa rfl rfl rfl rfl (ldI ti9 rfl (idx_some q8).2.2 rfl <| ⟨rfl, rfl⟩)), (fun _ => pa rfl rfl rfl rfl (ixI ti57 rfl ti9 rfl rfl rfl q8 <| ⟨rfl, rfl⟩)), (fun _ => pa rfl rfl rfl rfl (mv rfl <| ⟨rfl, rfl⟩)), (fun _ => pa rfl rfl rfl rfl (mv rfl <| ⟨rfl, rfl⟩)), (fun _ => pa rfl rfl rfl rfl (ldI ti9 rfl (idx_some q7).2.2 rfl <| ⟨rfl, rfl⟩)), (fun _ => pa rfl rfl rfl rfl (ixI ti57 rfl ti9 rfl rfl rfl q7 <| ⟨rfl, rfl⟩)), (fun _ => pa rfl rfl rfl rfl (mv rfl <| ⟨rfl, rfl⟩)), (fun _ => pa rfl rfl rfl rfl (mv rfl <| ⟨rfl, rfl⟩)), trivial⟩ (by kernel_rfl) rfl ⟨[], ce rfl rfl <| ce rfl rfl <| ce rfl rfl <| ce rfl rfl <| ce rfl rfl <| cn, rfl, trivial, rfl, Nat.le_of_ble_eq_true rfl⟩) ?_
        refine sw_cond rfl (fun hc9 => ?_) (fun hc9 => ?_)
        · replace h := bT hc9 h
          refine rg rfl <| u <| asg rfl <| r_nil ?_
          refine sw_ret ?_
          obtain rfl := sm h
          exact ⟨_, rfl, _, rfl, [], ci rfl, rfl, trivial, rfl, Nat.le_of_ble_eq_true rfl⟩
        · replace h := bF hc9 h
          refine sw_skip ?_
          refine rl rfl <| u <| add ti3 rfl rfl <| u <| mv rfl <| r_nil ?_
          obtain rfl := sm h
          exact ⟨_, rfl, [], ce rfl rfl <| ce rfl rfl <| ce rfl rfl <| ce rfl rfl <| cn, rfl, trivial, rfl, Nat.le_of_ble_eq_true rfl⟩
      · replace h := bF hc6 h
        refine sw_exit ?_
        obtain rfl := sm h
        exact ⟨rfl, _, rfl, [], cn, rfl, trivial, rfl, Nat.le_of_ble_eq_true rfl⟩
    · rintro ⟨⟩ rfl
      replace h : slices_Equal_string_string_k2 = some r := h
      unfold slices_Equal_string_string_k2 at h
      refine ow_intro ?_
      refine rg rfl <| u <| asg rfl <| r_nil ?_
      refine sw_ret ?_
      obtain rfl := sm h
      exact ⟨_, rfl, [], ci rfl, rfl, trivial, rfl, Nat.le_of_ble_eq_true rfl⟩
    · rintro r' rfl env st hp
      obtain rfl := sm h
      exact hp

noncomputable def slices_Equal_api_Field_api_Field_k2 : Option (Bool) :=
  some true
noncomputable def slices_Equal_api_Field_api_Field_l1 (v1 : List ApiField) (v2 : List ApiField) (v6 : Int) : Option (Sum (Int) (Sum (Unit) (Bool))) :=
  cond (decide (v6 < (List.length v1 : Int))) ((idx v1 v6).bind fun v7 => (idx v2 v6).bind fun v8 => cond (!((v7.Name == v8.Name) && ((v7.Type_ == v8.Type_) && ((v7.Static == v8.Static) && true)))) (some (.inr (.inr false))) (some (.inl (IntKind.i64.wrap (v6 + 1))))) (some (.inr (.inl ())))
noncomputable def slices_Equal_api_Field_api_Field (v1 : List ApiField) (v2 : List ApiField) : Option (Bool) :=
  cond (!((List.length v1 : Int) == (List.length v2 : Int))) (some false) ((loopP (fun z => slices_Equal_api_Field_api_Field_l1 v1 v2 z) 0).bind fun o => leave o (fun b => slices_Equal_api_Field_api_Field_k2) some)
theorem slices_Equal_api_Field_api_Field_ok (v1 : List ApiField) (v2 : List ApiField) {r : Bool} (h : slices_Equal_api_Field_api_Field v1 v2 = some r) : PureC Try.prog 84 [.isl 3 (List.map rApiField v1), .isl 3 (List.map rApiField v2)] (.lit (.bool r)) := by
  refine pure_fn Try.func84 rfl (by kernel_rfl) rfl rfl ?_
  unfold slices_Equal_api_Field_api_Field at h
  refine rg rfl <| u <| asg rfl <| r_nil ?_
  refine sw_seq ?_
  refine rg rfl <| u <| mv rfl <| u <| lnI ti58 rfl rfl <| u <| mv rfl <| u <| lnI ti58 rfl rfl <| u <| neq ti3 rfl rfl <| r_nil ?_
  refine sw_cond rfl (fun hc1 => ?_) (fun hc1 => ?_)
  · replace h := bT hc1 h
    refine rg rfl <| u <| asg rfl <| r_nil ?_
    refine sw_ret ?_
    obtain rfl := sm h
    exact ⟨_, rfl, [], ci rfl, rfl, trivial, rfl, Nat.le_of_ble_eq_true rfl⟩
  · replace h := bF hc1 h
    refine sw_skip ?_
    refine sw_seq ?_
    refine rg rfl <| u <| mv rfl <| u <| lnI ti58 rfl rfl <| u <| mv rfl <| r_nil ?_
    obtain ⟨o, ho, h⟩ := bs h
    refine sw_lpl (X := Int) (B := Unit) (R := Bool) (fun z => [(0, .isl 3 (List.map rApiField v1)), (1, .isl 3 (List.map rApiField v2)), (12, .lit (.int .i64 (List.length v1 : Int))), (13, .lit (.int .i64 z))]) (fun z => []) (fun b => []) (fun b => []) (fun r env st => PostF Try.prog Try.f84 0 (.lit (.bool r)) [] env st) ho ⟨[], ce rfl rfl <| ce rfl rfl <| ce rfl rfl <| ce rfl rfl <| cn, rfl, trivial, rfl, Nat.le_of_ble_eq_true rfl⟩ ?_ ?_ ?_
    · rintro v6 r h
      replace h : slices_Equal_api_Field_api_Field_l1 v1 v2 v6 = some r := h
      unfold slices_Equal_api_Field_api_Field_l1 at h
      refine rg rfl <| u <| lss ti3 rfl rfl <| r_nil ?_
      refine sw_seq ?_
      refine sw_cond rfl (fun hc6 => ?_) (fun hc6 => ?_)
      · replace h := bT hc6 h
        refine sw_skip ?_
        refine sw_seq ?_
        refine sw_block ?_
        refine rg rfl <| u <| mv rfl <| u <| asg rfl <| r_nil ?_
        obtain ⟨v7, q7, h⟩ := bs h
        obtain ⟨v8, q8, h⟩ := bs h
        refine rd [(0, .isl 3 (List.map rApiField v1)), (1, .isl 3 (List.map rApiField v2)), (12, .lit (.int .i64 (List.length v1 : Int))), (13, .lit (.int .i64 v6)), (24, .lit (.bool (!((v7.Name == v8.Name) && ((v7.Type_ == v8.Type_) && ((v7.Static == v8.Static) && true))))))] [] [] [8, 7, 6, 5, 4, 3, 2, 1, 0] [(24, .lit (.bool (!((v7.Name == v8.Name) && ((v7.Type_ == v8.Type_) && ((v7.Static == v8.Static) && true)))))), (23, .agg [.lit (.string (B v8.Name)), .lit (.string (B v8.Type_)), .lit (.bool v8.Static)]), (22, .ipt 3 (List.map rApiField v2) (Int.toNat v6) 0), (21, .lit (.int .i64 v6)), (20, .isl 3 (List.map rApiField v2)), (19, .agg [.lit (.string (B v7.Name)), .lit (.string (B v7.Type_)), .lit (.bool v7.Static)]), (18, .ipt 3 (List.map rApiField v1) (Int.toNat v6) 0), (17, .lit (.int .i64 v6)), (16, .isl 3 (List.map rApiField v1))] 0 (by kernel_rfl) (by kernel_rfl) rfl (by kernel_rfl) (dt0 ⟨(fun _ => pa rfl rfl rfl rfl (agn ti63 eqs63 rfl rfl rfl <| ⟨rfl, rfl⟩)), (fun _ => pa rfl rfl rfl rfl (ldI ti63 rfl (idx_some q8).2.2 rfl <| ⟨rfl, rfl⟩)), (fun _ => pa rfl rfl rfl rfl (ixI ti58 rfl ti63 rfl rfl rfl q8 <| ⟨rfl, rfl⟩)), (fun _ => pa rfl rfl rfl rfl (mv rfl <| ⟨rfl, rfl⟩)), (fun _ => pa rfl rfl rfl rfl (mv rfl <| ⟨rfl, rfl⟩)), (fun _ => pa rfl rfl rfl rfl (ldI ti63 rfl (idx_some q7).2.2 rfl <| ⟨rfl, rfl⟩)), (fun _ => pa rfl rfl rfl rfl (ixI ti58 rfl ti63 rfl rfl rfl q7 <| ⟨rfl, rfl⟩)), (fun _ => pa rfl rfl rfl rfl (mv rfl <| ⟨rfl, rfl⟩)), (fun _ => pa rfl rfl rfl rfl (mv rfl <| ⟨rfl, rfl⟩)), trivial⟩ (by kernel_rfl) rfl ⟨[], ce rfl rfl <| ce rfl rfl <| ce rfl rfl <| ce rfl rfl <| ce rfl rfl <| cn, rfl, trivial, rfl, Nat.le_of_ble_eq_true rfl⟩) ?_
        refine sw_cond rfl (fun hc9 => ?_) (fun hc9 => ?_)
        · replace h := bT hc9 h
          refine rg rfl <| u <| asg rfl <| r_nil ?_
          refine sw_ret ?_
          obtain rfl := sm h
          exact ⟨_, rfl, _, rfl, [], ci rfl, rfl, trivial, rfl, Nat.le_of_ble_eq_true rfl⟩
        · replace h := bF hc9 h
          refine sw_skip ?_
          refine rl rfl <| u <| add ti3 rfl rfl <| u <| mv rfl <| r_nil ?_
          obtain rfl := sm h
          exact ⟨_, rfl, [], ce rfl rfl <| ce rfl rfl <| ce rfl rfl <| ce rfl rfl <| cn, rfl, trivial, rfl, Nat.le_of_ble_eq_true rfl⟩
      · replace h := bF hc6 h
        refine sw_exit ?_
        obtain rfl := sm h
        exact ⟨rfl, _, rfl, [], cn, rfl, trivial, rfl, Nat.le_of_ble_eq_true rfl⟩
    · rintro ⟨⟩ rfl
      replace h : slices_Equal_api_Field_api_Field_k2 = some r := h
      unfold slices_Equal_api_Field_api_Field_k2 at h
      refine ow_intro ?_
      refine rg rfl <| u <| asg rfl <| r_nil ?_
      refine sw_ret ?_
      obtain rfl := sm h
      exact ⟨_, rfl, [], ci rfl, rfl, trivial, rfl, Nat.le_of_ble_eq_true rfl⟩
    · rintro r' rfl env st hp
      obtain rfl := sm h
      exact hp

noncomputable def class_eqMethod_1 (v1 : ApiMap) (v2 : ApiMap) : Option (Bool) :=
  (cond (v1.At == v2.At) ((slices_Equal_string_string v1.Locals v2.Locals).bind fun v3 => some v3) (some false)).bind fun v4 => (cond v4 ((slices_Equal_string_string v1.Stack v2.Stack).bind fun v5 => some v5) (some false)).bind fun v6 => some v6
theorem class_eqMethod_1_ok (v1 : ApiMap) (v2 : ApiMap) {r : Bool} (h : class_eqMethod_1 v1 v2 = some r) : PureC Try.prog 108 [.agg [.lit (.int .i64 v1.At), .isl 1 (List.map rStr v1.Locals), .isl 1 (List.map rStr v1.Stack)], .agg [.lit (.int .i64 v2.At), .isl 1 (List.map rStr v2.Locals), .isl 1 (List.map rStr v2.Stack)]] (.lit (.bool r)) := by
  refine pure_fn Try.func108 rfl (by kernel_rfl) rfl rfl ?_
  unfold class_eqMethod_1 at h
  refine rg rfl <| u <| bx 0 3 rfl rfl rfl rfl <| u <| bx 1 3 rfl rfl rfl rfl <| u <| asg rfl <| r_nil ?_
  obtain ⟨v4, q3, h⟩ := bs h
  obtain ⟨v6, q6, h⟩ := bs h
  refine rg rfl <| u <| fa ti112 rfl rfl rfl <| u <| ld ti3 rfl rfl <| u <| fa ti112 rfl rfl rfl <| u <| ld ti3 rfl rfl <| u <| eql ti3 rfl rfl <| u <| mv rfl <| r_and (x := v4) (j := 5) 5 rfl rfl rfl rfl rfl gpn (fun hb1 => by replace q3 := bT hb1 q3; obtain ⟨v3, q2, q3⟩ := bs q3; obtain rfl := sm q3; exact g rfl hb1 <| fa ti112 rfl rfl rfl <| g rfl hb1 <| ld ti57 rfl rfl <| g rfl hb1 <| fa ti112 rfl rfl rfl <| g rfl hb1 <| ld ti57 rfl rfl <| g rfl hb1 <| pc (slices_Equal_string_string_ok v1.Locals v2.Locals q2) rfl rfl rfl <| r_nil (eg [11, 12, 13, 14, 15] 5 rfl rfl rfl rfl)) (fun hb => (sm (bF hb q3)).symm) <| u <| mv rfl <| r_and (x := v6) (j := 12) 5 rfl rfl rfl rfl rfl gpn (fun hb4 => by replace q6 := bT hb4 q6; obtain ⟨v5, q5, q6⟩ := bs q6; obtain rfl := sm q6; exact g rfl hb4 <| fa ti112 rfl rfl rfl <| g rfl hb4 <| ld ti57 rfl rfl <| g rfl hb4 <| fa ti112 rfl rfl rfl <| g rfl hb4 <| ld ti57 rfl rfl <| g rfl hb4 <| pc (slices_Equal_string_string_ok v1.Stack v2.Stack q5) rfl rfl rfl <| r_nil (eg [18, 19, 20, 21, 22] 5 rfl rfl rfl rfl)) (fun hb => (sm (bF hb q6)).symm) <| u <| asg rfl <| r_nil ?_
  refine sw_ret ?_
  obtain rfl := sm h
  exact ⟨_, rfl, [], ci rfl, rfl, trivial, rfl, Nat.le_of_ble_eq_true rfl⟩

noncomputable def slices_EqualFunc_api_Map_api_Map_api_Map_api_Map_k2 : Option (Bool) :=
  some true
noncomputable def slices_EqualFunc_api_Map_api_Map_api_Map_api_Map_l1 (v1 : List ApiMap) (v2 : List ApiMap) (v7 : Int) : Option (Sum (Int) (Sum (Unit) (Bool))) :=
  cond (decide (v7 < (List.length v1 : Int))) ((idx v1 v7).bind fun v8 => (idx v2 v7).bind fun v9 => (class_eqMethod_1 v8 v9).bind fun v10 => cond (!v10) (some (.inr (.inr false))) (some (.inl (IntKind.i64.wrap (v7 + 1))))) (some (.inr (.inl ())))
noncomputable def slices_EqualFunc_api_Map_api_Map_api_Map_api_Map (v1 : List ApiMap) (v2 : List ApiMap) : Option (Bool) :=
  cond (!((List.length v1 : Int) == (List.length v2 : Int))) (some false) ((loopP (fun z => slices_EqualFunc_api_Map_api_Map_api_Map_api_Map_l1 v1 v2 z) 0).bind fun o => leave o (fun b => slices_EqualFunc_api_Map_api_Map_api_Map_api_Map_k2) some)
theorem slices_EqualFunc_api_Map_api_Map_api_Map_api_Map_ok (v1 : List ApiMap) (v2 : List ApiMap) {r : Bool} (h : slices_EqualFunc_api_Map_api_Map_api_Map_api_Map v1 v2 = some r) : PureC Try.prog 107 [.isl 3 (List.map rApiMap v1), .isl 3 (List.map rApiMap v2), .fn (.func 108) [] []] (.lit (.bool r)) := by
  refine pure_fn Try.func107 rfl (by kernel_rfl) rfl rfl ?_
  unfold slices_EqualFunc_api_Map_api_Map_api_Map_api_Map at h
  refine rg rfl <| u <| asg rfl <| r_nil ?_
  refine sw_seq ?_
  refine rg rfl <| u <| mv rfl <| u <| lnI ti64 rfl rfl <| u <| mv rfl <| u <| lnI ti64 rfl rfl <| u <| neq ti3 rfl rfl <| r_nil ?_
  refine sw_cond rfl (fun hc1 => ?_) (fun hc1 => ?_)
  · replace h := bT hc1 h
    refine rg rfl <| u <| asg rfl <| r_nil ?_
    refine sw_ret ?_
    obtain rfl := sm h
    exact ⟨_, rfl, [], ci rfl, rfl, trivial, rfl, Nat.le_of_ble_eq_true rfl⟩
  · replace h := bF hc1 h
    refine sw_skip ?_
    refine sw_seq ?_
    refine rg rfl <| u <| mv rfl <| u <| lnI ti64 rfl rfl <| u <| mv rfl <| r_nil ?_
    obtain ⟨o, ho, h⟩ := bs h
    refine sw_lpl (X := Int) (B := Unit) (R := Bool) (fun z => [(1, .isl 3 (List.map rApiMap v2)), (2, .fn (.func 108) [] []), (15, .isl 3 (List.map rApiMap v1)), (16, .lit (.int .i64 (List.length v1 : Int))), (17, .lit (.int .i64 z))]) (fun z => []) (fun b => []) (fun b => []) (fun r env st => PostF Try.prog Try.f107 0 (.lit (.bool r)) [] env st) ho ⟨[], ce rfl rfl <| ce rfl rfl <| ce rfl rfl <| ce rfl rfl <| ce rfl rfl <| cn, rfl, trivial, rfl, Nat.le_of_ble_eq_true rfl⟩ ?_ ?_ ?_
    · rintro v7 r h
      replace h : slices_EqualFunc_api_Map_api_Map_api_Map_api_Map_l1 v1 v2 v7 = some r := h
      unfold slices_EqualFunc_api_Map_api_Map_api_Map_api_Map_l1 at h
      refine rg rfl <| u <| lss ti3 rfl rfl <| r_nil ?_
      refine sw_seq ?_
      refine sw_cond rfl (fun hc7 => ?_) (fun hc7 => ?_)
      · replace h := bT hc7 h
        refine sw_skip ?_
        refine sw_seq ?_
        refine sw_block ?_
        obtain ⟨v8, q8, h⟩ := bs h
        refine rg rfl <| u <| mv rfl <| u <| ixI ti64 rfl ti112 rfl rfl rfl q8 <| u <| ldI ti112 rfl (idx_some q8).2.2 rfl <| u <| al 0 ti112 rfl <| u <| asg rfl <| u <| sto ti112 rfl rfl rfl <| r_nil ?_
        obtain ⟨v9, q9, h⟩ := bs h
        refine rg rfl <| u <| mv rfl <| u <| mv rfl <| u <| ixI ti64 rfl ti112 rfl rfl rfl q9 <| u <| ldI ti112 rfl (idx_some q9).2.2 rfl <| u <| al 1 ti112 rfl <| u <| sto ti112 rfl rfl rfl <| r_nil ?_
        obtain ⟨v10, q10, h⟩ := bs h
        refine rg rfl <| u <| mv rfl <| u <| ld ti112 rfl rfl <| u <| ld ti112 rfl rfl <| u <| pc (class_eqMethod_1_ok v8 v9 q10) rfl rfl rfl <| u <| nt rfl <| r_nil ?_
        refine sw_cond rfl (fun hc11 => ?_) (fun hc11 => ?_)
        · replace h := bT hc11 h
          refine rg rfl <| u <| asg rfl <| r_nil ?_
          refine sw_ret ?_
          obtain rfl := sm h
          exact ⟨_, rfl, _, rfl, [], ci rfl, rfl, trivial, rfl, Nat.le_of_ble_eq_true rfl⟩
        · replace h := bF hc11 h
          refine sw_skip ?_
          refine rl rfl <| u <| add ti3 rfl rfl <| u <| mv rfl <| r_nil ?_
          obtain rfl := sm h
          exact ⟨_, rfl, [], ce rfl rfl <| ce rfl rfl <| ce rfl rfl <| ce rfl rfl <| ce rfl rfl <| cn, rfl, trivial, rfl, Nat.le_of_ble_eq_true rfl⟩
      · replace h := bF hc7 h
        refine sw_exit ?_
        obtain rfl := sm h
        exact ⟨rfl, _, rfl, [], cn, rfl, trivial, rfl, Nat.le_of_ble_eq_true rfl⟩
    · rintro ⟨⟩ rfl
      replace h : slices_EqualFunc_api_Map_api_Map_api_Map_api_Map_k2 = some r := h
      unfold slices_EqualFunc_api_Map_api_Map_api_Map_api_Map_k2 at h
      refine ow_intro ?_
      refine rg rfl <| u <| asg rfl <| r_nil ?_
      refine sw_ret ?_
      obtain rfl := sm h
      exact ⟨_, rfl, [], ci rfl, rfl, trivial, rfl, Nat.le_of_ble_eq_true rfl⟩
    · rintro r' rfl env st hp
      obtain rfl := sm h
      exact hp

noncomputable def slices_Equal_api_Ins_api_Ins_k2 : Option (Bool) :=
  some true
noncomputable def slices_Equal_api_Ins_api_Ins_l1 (v1 : List ApiIns) (v2 : List ApiIns) (v6 : Int) : Option (Sum (Int) (Sum (Unit) (Bool))) :=
  cond (decide (v6 < (List.length v1 : Int))) ((idx v1 v6).bind fun v7 => (idx v2 v6).bind fun v8 => cond (!((v7.Op == v8.Op) && ((v7.A == v8.A) && ((v7.C == v8.C) && ((v7.M == v8.M) && true))))) (some (.inr (.inr false))) (some (.inl (IntKind.i64.wrap (v6 + 1))))) (some (.inr (.inl ())))
noncomputable def slices_Equal_api_Ins_api_Ins (v1 : List ApiIns) (v2 : List ApiIns) : Option (Bool) :=
  cond (!((List.length v1 : Int) == (List.length v2 : Int))) (some false) ((loopP (fun z => slices_Equal_api_Ins_api_Ins_l1 v1 v2 z) 0).bind fun o => leave o (fun b => slices_Equal_api_Ins_api_Ins_k2) some)
theorem slices_Equal_api_Ins_api_Ins_ok (v1 : List ApiIns) (v2 : List ApiIns) {r : Bool} (h : slices_Equal_api_Ins_api_Ins v1 v2 = some r) : PureC Try.prog 109 [.isl 4 (List.map rApiIns v1), .isl 4 (List.map rApiIns v2)] (.lit (.bool r)) := by
  refine pure_fn Try.func109 rfl (by kernel_rfl) rfl rfl ?_
  unfold slices_Equal_api_Ins_api_Ins at h
  refine rg rfl <| u <| asg rfl <| r_nil ?_
  refine sw_seq ?_
  refine rg rfl <| u <| mv rfl <| u <| lnI ti55 rfl rfl <| u <| mv rfl <| u <| lnI ti55 rfl rfl <| u <| neq ti3 rfl rfl <| r_nil ?_
  refine sw_cond rfl (fun hc1 => ?_) (fun hc1 => ?_)
  · replace h := bT hc1 h
    refine rg rfl <| u <| asg rfl <| r_nil ?_
    refine sw_ret ?_
    obtain rfl := sm h
    exact ⟨_, rfl, [], ci rfl, rfl, trivial, rfl, Nat.le_of_ble_eq_true rfl⟩
  · replace h := bF hc1 h
    refine sw_skip ?_
    refine sw_seq ?_
    refine rg rfl <| u <| mv rfl <| u <| lnI ti55 rfl rfl <| u <| mv rfl <| r_nil ?_
    obtain ⟨o, ho, h⟩ := bs h
    refine sw_lpl (X := Int) (B := Unit) (R := Bool) (fun z => [(0, .isl 4 (List.map rApiIns v1)), (1, .isl 4 (List.map rApiIns v2)), (12, .lit (.int .i64 (List.length v1 : Int))), (13, .lit (.int .i64 z))]) (fun z => []) (fun b => []) (fun b => []) (fun r env st => PostF Try.prog Try.f109 0 (.lit (.bool r)) [] env st) ho ⟨[], ce rfl rfl <| ce rfl rfl <| ce rfl rfl <| ce rfl rfl <| cn, rfl, trivial, rfl, Nat.le_of_ble_eq_true rfl⟩ ?_ ?_ ?_
    · rintro v6 r h
      replace h : slices_Equal_api_Ins_api_Ins_l1 v1 v2 v6 = some r := h
      unfold slices_Equal_api_Ins_api_Ins_l1 at h
      refine rg rfl <| u <| lss ti3 rfl rfl <| r_nil ?_
      refine sw_seq ?_
      refine sw_cond rfl (fun hc6 => ?_) (fun hc6 => ?_)
      · replace h := bT hc6 h
        refine sw_skip ?_
        refine sw_seq ?_
        refine sw_block ?_
        refine rg rfl <| u <| mv rfl <| u <| asg rfl <| r_nil ?_
        obtain ⟨v7, q7, h⟩ := bs h
        obtain ⟨v8, q8, h⟩ := bs h
        refine rd [(0, .isl 4 (List.map rApiIns v1)), (1, .isl 4 (List.map rApiIns v2)), (12, .lit (.int .i64 (List.length v1 : Int))), (13, .lit (.int .i64 v6)), (24, .lit (.bool (!((v7.Op == v8.Op) && ((v7.A == v8.A) && ((v7.C == v8.C) && ((v7.M == v8.M) && true)))))))] [] [] [8, 7, 6, 5, 4, 3, 2, 1, 0] [(24, .lit (.bool (!((v7.Op == v8.Op) && ((v7.A == v8.A) && ((v7.C == v8.C) && ((v7.M == v8.M) && true))))))), (23, .agg [.lit (.int .i64 v8.Op), .lit (.int .i64 v8.A), .lit (.string (B v8.C)), .lit (.string (B v8.M))]), (22, .ipt 4 (List.map rApiIns v2) (Int.toNat v6) 0), (21, .lit (.int .i64 v6)), (20, .isl 4 (List.map rApiIns v2)), (19, .agg [.lit (.int .i64 v7.Op), .lit (.int .i64 v7.A), .lit (.string (B v7.C)), .lit (.string (B v7.M))]), (18, .ipt 4 (List.map rApiIns v1) (Int.toNat v6) 0), (17, .lit (.int .i64 v6)), (16, .isl 4 (List.map rApiIns v1))] 0 (by kernel_rfl) (by kernel_rfl) rfl (by kernel_rfl) (dt0 ⟨(fun _ => pa rfl rfl rfl rfl (agn ti44 eqs44 rfl rfl rfl <| ⟨rfl, rfl⟩)), (fun _ => pa rfl rfl rfl rfl (ldI ti44 rfl (idx_some q8).2.2 rfl <| ⟨rfl, rfl⟩)), (fun _ => pa rfl rfl rfl rfl (ixI ti55 rfl ti44 rfl rfl rfl q8 <| ⟨rfl, rfl⟩)), (fun _ => pa rfl rfl rfl rfl (mv rfl <| ⟨rfl, rfl⟩)), (fun _ => pa rfl rfl rfl rfl (mv rfl <| ⟨rfl, rfl⟩)), (fun _ => pa rfl rfl rfl rfl (ldI ti44 rfl (idx_some q7).2.2 rfl <| ⟨rfl, rfl⟩)), (fun _ => pa rfl rfl rfl rfl (ixI ti55 rfl ti44 rfl rfl rfl q7 <| ⟨rfl, rfl⟩)), (fun _ => pa rfl rfl rfl rfl (mv rfl <| ⟨rfl, rfl⟩)), (fun _ => pa rfl rfl rfl rfl (mv rfl <| ⟨rfl, rfl⟩)), trivial⟩ (by kernel_rfl) rfl ⟨[], ce rfl rfl <| ce rfl rfl <| ce rfl rfl <| ce rfl rfl <| ce rfl rfl <| cn, rfl, trivial, rfl, Nat.le_of_ble_eq_true rfl⟩) ?_
        refine sw_cond rfl (fun hc9 => ?_) (fun hc9 => ?_)
        · replace h := bT hc9 h
          refine rg rfl <| u <| asg rfl <| r_nil ?_
          refine sw_ret ?_
          obtain rfl := sm h
          exact ⟨_, rfl, _, rfl, [], ci rfl, rfl, trivial, rfl, Nat.le_of_ble_eq_true rfl⟩
        · replace h := bF hc9 h
          refine sw_skip ?_
          refine rl rfl <| u <| add ti3 rfl rfl <| u <| mv rfl <| r_nil ?_
          obtain rfl := sm h
          exact ⟨_, rfl, [], ce rfl rfl <| ce rfl rfl <| ce rfl rfl <| ce rfl rfl <| cn, rfl, trivial, rfl, Nat.le_of_ble_eq_true rfl⟩
      · replace h := bF hc6 h
        refine sw_exit ?_
        obtain rfl := sm h
        exact ⟨rfl, _, rfl, [], cn, rfl, trivial, rfl, Nat.le_of_ble_eq_true rfl⟩
    · rintro ⟨⟩ rfl
      replace h : slices_Equal_api_Ins_api_Ins_k2 = some r := h
      unfold slices_Equal_api_Ins_api_Ins_k2 at h
      refine ow_intro ?_
      refine rg rfl <| u <| asg rfl <| r_nil ?_
      refine sw_ret ?_
      obtain rfl := sm h
      exact ⟨_, rfl, [], ci rfl, rfl, trivial, rfl, Nat.le_of_ble_eq_true rfl⟩
    · rintro r' rfl env st hp
      obtain rfl := sm h
      exact hp

noncomputable def slices_Equal_api_Trap_api_Trap_k2 : Option (Bool) :=
  some true
noncomputable def slices_Equal_api_Trap_api_Trap_l1 (v1 : List ApiTrap) (v2 : List ApiTrap) (v6 : Int) : Option (Sum (Int) (Sum (Unit) (Bool))) :=
  cond (decide (v6 < (List.length v1 : Int))) ((idx v1 v6).bind fun v7 => (idx v2 v6).bind fun v8 => cond (!((v7.From == v8.From) && ((v7.To == v8.To) && ((v7.At == v8.At) && ((v7.C == v8.C) && true))))) (some (.inr (.inr false))) (some (.inl (IntKind.i64.wrap (v6 + 1))))) (some (.inr (.inl ())))
noncomputable def slices_Equal_api_Trap_api_Trap (v1 : List ApiTrap) (v2 : List ApiTrap) : Option (Bool) :=
  cond (!((List.length v1 : Int) == (List.length v2 : Int))) (some false) ((loopP (fun z => slices_Equal_api_Trap_api_Trap_l1 v1 v2 z) 0).bind fun o => leave o (fun b => slices_Equal_api_Trap_api_Trap_k2) some)
theorem slices_Equal_api_Trap_api_Trap_ok (v1 : List ApiTrap) (v2 : List ApiTrap) {r : Bool} (h : slices_Equal_api_Trap_api_Trap v1 v2 = some r) : PureC Try.prog 110 [.isl 4 (List.map rApiTrap v1), .isl 4 (List.map rApiTrap v2)] (.lit (.bool r)) := by
  refine pure_fn Try.func110 rfl (by kernel_rfl) rfl rfl ?_
  unfold slices_Equal_api_Trap_api_Trap at h
  refine rg rfl <| u <| asg rfl <| r_nil ?_
  refine sw_seq ?_
  refine rg rfl <| u <| mv rfl <| u <| lnI ti65 rfl rfl <| u <| mv rfl <| u <| lnI ti65 rfl rfl <| u <| neq ti3 rfl rfl <| r_nil ?_
  refine sw_cond rfl (fun hc1 => ?_) (fun hc1 => ?_)
  · replace h := bT hc1 h
    refine rg rfl <| u <| asg rfl <| r_nil ?_
    refine sw_ret ?_
    obtain rfl := sm h
    exact ⟨_, rfl, [], ci rfl, rfl, trivial, rfl, Nat.le_of_ble_eq_true rfl⟩
  · replace h := bF hc1 h
    refine sw_skip ?_
    refine sw_seq ?_
    refine rg rfl <| u <| mv rfl <| u <| lnI ti65 rfl rfl <| u <| mv rfl <| r_nil ?_
    obtain ⟨o, ho, h⟩ := bs h
    refine sw_lpl (X := Int) (B := Unit) (R := Bool) (fun z => [(0, .isl 4 (List.map rApiTrap v1)), (1, .isl 4 (List.map rApiTrap v2)), (12, .lit (.int .i64 (List.length v1 : Int))), (13, .lit (.int .i64 z))]) (fun z => []) (fun b => []) (fun b => []) (fun r env st => PostF Try.prog Try.f110 0 (.lit (.bool r)) [] env st) ho ⟨[], ce rfl rfl <| ce rfl rfl <| ce rfl rfl <| ce rfl rfl <| cn, rfl, trivial, rfl, Nat.le_of_ble_eq_true rfl⟩ ?_ ?_ ?_
    · rintro v6 r h
      replace h : slices_Equal_api_Trap_api_Trap_l1 v1 v2 v6 = some r := h
      unfold slices_Equal_api_Trap_api_Trap_l1 at h
      refine rg rfl <| u <| lss ti3 rfl rfl <| r_nil ?_
      refine sw_seq ?_
      refine sw_cond rfl (fun hc6 => ?_) (fun hc6 => ?_)
      · replace h := bT hc6 h
        refine sw_skip ?_
        refine sw_seq ?_
        refine sw_block ?_
        refine rg rfl <| u <| mv rfl <| u <| asg rfl <| r_nil ?_
        obtain ⟨v7, q7, h⟩ := bs h
        obtain ⟨v8, q8, h⟩ := bs h
        refine rd [(0, .isl 4 (List.map rApiTrap v1)), (1, .isl 4 (List.map rApiTrap v2)), (12, .lit (.int .i64 (List.length v1 : Int))), (13, .lit (.int .i64 v6)), (24, .lit (.bool (!((v7.From == v8.From) && ((v7.To == v8.To) && ((v7.At == v8.At) && ((v7.C == v8.C) && true)))))))] [] [] [8, 7, 6, 5, 4, 3, 2, 1, 0] [(24, .lit (.bool (!((v7.From == v8.From) && ((v7.To == v8.To) && ((v7.At == v8.At) && ((v7.C == v8.C) && true))))))), (23, .agg [.lit (.int .i64 v8.From), .lit (.int .i64 v8.To), .lit (.int .i64 v8.At), .lit (.string (B v8.C))]), (22, .ipt 4 (List.map rApiTrap v2) (Int.toNat v6) 0), (21, .lit (.int .i64 v6)), (20, .isl 4 (List.map rApiTrap v2)), (19, .agg [.lit (.int .i64 v7.From), .lit (.int .i64 v7.To), .lit (.int .i64 v7.At), .lit (.string (B v7.C))]), (18, .ipt 4 (List.map rApiTrap v1) (Int.toNat v6) 0), (17, .lit (.int .i64 v6)), (16, .isl 4 (List.map rApiTrap v1))] 0 (by kernel_rfl) (by kernel_rfl) rfl (by kernel_rfl) (dt0 ⟨(fun _ => pa rfl rfl rfl rfl (agn ti69 eqs69 rfl rfl rfl <| ⟨rfl, rfl⟩)), (fun _ => pa rfl rfl rfl rfl (ldI ti69 rfl (idx_some q8).2.2 rfl <| ⟨rfl, rfl⟩)), (fun _ => pa rfl rfl rfl rfl (ixI ti65 rfl ti69 rfl rfl rfl q8 <| ⟨rfl, rfl⟩)), (fun _ => pa rfl rfl rfl rfl (mv rfl <| ⟨rfl, rfl⟩)), (fun _ => pa rfl rfl rfl rfl (mv rfl <| ⟨rfl, rfl⟩)), (fun _ => pa rfl rfl rfl rfl (ldI ti69 rfl (idx_some q7).2.2 rfl <| ⟨rfl, rfl⟩)), (fun _ => pa rfl rfl rfl rfl (ixI ti65 rfl ti69 rfl rfl rfl q7 <| ⟨rfl, rfl⟩)), (fun _ => pa rfl rfl rfl rfl (mv rfl <| ⟨rfl, rfl⟩)), (fun _ => pa rfl rfl rfl rfl (mv rfl <| ⟨rfl, rfl⟩)), trivial⟩ (by kernel_rfl) rfl ⟨[], ce rfl rfl <| ce rfl rfl <| ce rfl rfl <| ce rfl rfl <| ce rfl rfl <| cn, rfl, trivial, rfl, Nat.le_of_ble_eq_true rfl⟩) ?_
        refine sw_cond rfl (fun hc9 => ?_) (fun hc9 => ?_)
        · replace h := bT hc9 h
          refine rg rfl <| u <| asg rfl <| r_nil ?_
          refine sw_ret ?_
          obtain rfl := sm h
          exact ⟨_, rfl, _, rfl, [], ci rfl, rfl, trivial, rfl, Nat.le_of_ble_eq_true rfl⟩
        · replace h := bF hc9 h
          refine sw_skip ?_
          refine rl rfl <| u <| add ti3 rfl rfl <| u <| mv rfl <| r_nil ?_
          obtain rfl := sm h
          exact ⟨_, rfl, [], ce rfl rfl <| ce rfl rfl <| ce rfl rfl <| ce rfl rfl <| cn, rfl, trivial, rfl, Nat.le_of_ble_eq_true rfl⟩
      · replace h := bF hc6 h
        refine sw_exit ?_
        obtain rfl := sm h
        exact ⟨rfl, _, rfl, [], cn, rfl, trivial, rfl, Nat.le_of_ble_eq_true rfl⟩
    · rintro ⟨⟩ rfl
      replace h : slices_Equal_api_Trap_api_Trap_k2 = some r := h
      unfold slices_Equal_api_Trap_api_Trap_k2 at h
      refine ow_intro ?_
      refine rg rfl <| u <| asg rfl <| r_nil ?_
      refine sw_ret ?_
      obtain rfl := sm h
      exact ⟨_, rfl, [], ci rfl, rfl, trivial, rfl, Nat.le_of_ble_eq_true rfl⟩
    · rintro r' rfl env st hp
      obtain rfl := sm h
      exact hp

noncomputable def class_eqMethod (v1 : ApiMethod) (v2 : ApiMethod) : Option (Bool) :=
  (slices_EqualFunc_api_Map_api_Map_api_Map_api_Map v1.Maps v2.Maps).bind fun v3 => (cond (v1.Name == v2.Name) ((slices_Equal_string_string v1.Params v2.Params).bind fun v4 => some v4) (some false)).bind fun v5 => (cond (((v3 && (((v5 && (v1.Ret == v2.Ret)) && (v1.Static == v2.Static)) && (v1.Abstract == v2.Abstract))) && (v1.Locals == v2.Locals)) && (v1.Stack == v2.Stack)) ((slices_Equal_api_Ins_api_Ins v1.Code v2.Code).bind fun v6 => some v6) (some false)).bind fun v7 => (cond v7 ((slices_Equal_api_Trap_api_Trap v1.Traps v2.Traps).bind fun v8 => some v8) (some false)).bind fun v9 => some v9
theorem class_eqMethod_ok (v1 : ApiMethod) (v2 : ApiMethod) {r : Bool} (h : class_eqMethod v1 v2 = some r) : PureC Try.prog 86 [.agg [.lit (.string (B v1.Name)), .isl 1 (List.map rStr v1.Params), .lit (.string (B v1.Ret)), .lit (.bool v1.Static), .lit (.bool v1.Abstract), .lit (.int .i64 v1.Locals), .lit (.int .i64 v1.Stack), .isl 4 (List.map rApiIns v1.Code), .isl 3 (List.map rApiMap v1.Maps), .isl 4 (List.map rApiTrap v1.Traps)], .agg [.lit (.string (B v2.Name)), .isl 1 (List.map rStr v2.Params), .lit (.string (B v2.Ret)), .lit (.bool v2.Static), .lit (.bool v2.Abstract), .lit (.int .i64 v2.Locals), .lit (.int .i64 v2.Stack), .isl 4 (List.map rApiIns v2.Code), .isl 3 (List.map rApiMap v2.Maps), .isl 4 (List.map rApiTrap v2.Traps)]] (.lit (.bool r)) := by
  refine pure_fn Try.func86 rfl (by kernel_rfl) rfl rfl ?_
  unfold class_eqMethod at h
  refine rg rfl <| u <| bx 0 10 rfl rfl rfl rfl <| u <| bx 1 10 rfl rfl rfl rfl <| u <| asg rfl <| r_nil ?_
  obtain ⟨v3, q1, h⟩ := bs h
  refine rg rfl <| u <| fa ti67 rfl rfl rfl <| u <| ld ti64 rfl rfl <| u <| fa ti67 rfl rfl rfl <| u <| ld ti64 rfl rfl <| u <| pc (slices_EqualFunc_api_Map_api_Map_api_Map_api_Map_ok v1.Maps v2.Maps q1) rfl rfl rfl <| u <| asg rfl <| r_nil ?_
  obtain ⟨v5, q4, h⟩ := bs h
  refine rg rfl <| u <| fa ti67 rfl rfl rfl <| u <| ld ti9 rfl rfl <| u <| fa ti67 rfl rfl rfl <| u <| ld ti9 rfl rfl <| u <| seq ti9 rfl rfl <| u <| mv rfl <| r_and (x := v5) (j := 5) 5 rfl rfl rfl rfl rfl gpn (fun hb2 => by replace q4 := bT hb2 q4; obtain ⟨v4, q3, q4⟩ := bs q4; obtain rfl := sm q4; exact g rfl hb2 <| fa ti67 rfl rfl rfl <| g rfl hb2 <| ld ti57 rfl rfl <| g rfl hb2 <| fa ti67 rfl rfl rfl <| g rfl hb2 <| ld ti57 rfl rfl <| g rfl hb2 <| pc (slices_Equal_string_string_ok v1.Params v2.Params q3) rfl rfl rfl <| r_nil (eg [18, 19, 20, 21, 22] 5 rfl rfl rfl rfl)) (fun hb => (sm (bF hb q4)).symm) <| u <| mv rfl <| r_and (x := (v5 && (v1.Ret == v2.Ret))) (j := 12) 5 rfl rfl rfl rfl rfl gpn (fun hb5 => g rfl hb5 <| fa ti67 rfl rfl rfl <| g rfl hb5 <| ld ti9 rfl rfl <| g rfl hb5 <| fa ti67 rfl rfl rfl <| g rfl hb5 <| ld ti9 rfl rfl <| g rfl hb5 <| seq ti9 rfl rfl <| r_nil (egA [25, 26, 27, 28, 29] 5 hb5 rfl rfl rfl rfl)) andF <| u <| mv rfl <| r_and (x := ((v5 && (v1.Ret == v2.Ret)) && (v1.Static == v2.Static))) (j := 19) 5 rfl rfl rfl rfl rfl gpn (fun hb6 => g rfl hb6 <| fa ti67 rfl rfl rfl <| g rfl hb6 <| ld ti4 rfl rfl <| g rfl hb6 <| fa ti67 rfl rfl rfl <| g rfl hb6 <| ld ti4 rfl rfl <| g rfl hb6 <| beq ti4 rfl rfl rfl <| r_nil (egA [32, 33, 34, 35, 36] 5 hb6 rfl rfl rfl rfl)) andF <| u <| mv rfl <| r_and (x := (((v5 && (v1.Ret == v2.Ret)) && (v1.Static == v2.Static)) && (v1.Abstract == v2.Abstract))) (j := 26) 5 rfl rfl rfl rfl rfl gpn (fun hb7 => g rfl hb7 <| fa ti67 rfl rfl rfl <| g rfl hb7 <| ld ti4 rfl rfl <| g rfl hb7 <| fa ti67 rfl rfl rfl <| g rfl hb7 <| ld ti4 rfl rfl <| g rfl hb7 <| beq ti4 rfl rfl rfl <| r_nil (egA [39, 40, 41, 42, 43] 5 hb7 rfl rfl rfl rfl)) andF <| u <| asg rfl <| r_nil ?_
  obtain ⟨v7, q13, h⟩ := bs h
  obtain ⟨v9, q16, h⟩ := bs h
  refine rg rfl <| u <| mv rfl <| u <| mv rfl <| r_and (x := (v3 && (((v5 && (v1.Ret == v2.Ret)) && (v1.Static == v2.Static)) && (v1.Abstract == v2.Abstract)))) (j := 1) 1 rfl rfl rfl rfl rfl gpn (fun hb8 => g rfl hb8 <| mv rfl <| r_nil (egA [47] 1 hb8 rfl rfl rfl rfl)) andF <| u <| mv rfl <| r_and (x := ((v3 && (((v5 && (v1.Ret == v2.Ret)) && (v1.Static == v2.Static)) && (v1.Abstract == v2.Abstract))) && (v1.Locals == v2.Locals))) (j := 4) 5 rfl rfl rfl rfl rfl gpn (fun hb9 => g rfl hb9 <| fa ti67 rfl rfl rfl <| g rfl hb9 <| ld ti3 rfl rfl <| g rfl hb9 <| fa ti67 rfl rfl rfl <| g rfl hb9 <| ld ti3 rfl rfl <| g rfl hb9 <| eql ti3 rfl rfl <| r_nil (egA [50, 51, 52, 53, 54] 5 hb9 rfl rfl rfl rfl)) andF <| u <| mv rfl <| r_and (x := (((v3 && (((v5 && (v1.Ret == v2.Ret)) && (v1.Static == v2.Static)) && (v1.Abstract == v2.Abstract))) && (v1.Locals == v2.Locals)) && (v1.Stack == v2.Stack))) (j := 11) 5 rfl rfl rfl rfl rfl gpn (fun hb10 => g rfl hb10 <| fa ti67 rfl rfl rfl <| g rfl hb10 <| ld ti3 rfl rfl <| g rfl hb10 <| fa ti67 rfl rfl rfl <| g rfl hb10 <| ld ti3 rfl rfl <| g rfl hb10 <| eql ti3 rfl rfl <| r_nil (egA [57, 58, 59, 60, 61] 5 hb10 rfl rfl rfl rfl)) andF <| u <| mv rfl <| r_and (x := v7) (j := 18) 5 rfl rfl rfl rfl rfl gpn (fun hb11 => by replace q13 := bT hb11 q13; obtain ⟨v6, q12, q13⟩ := bs q13; obtain rfl := sm q13; exact g rfl hb11 <| fa ti67 rfl rfl rfl <| g rfl hb11 <| ld ti55 rfl rfl <| g rfl hb11 <| fa ti67 rfl rfl rfl <| g rfl hb11 <| ld ti55 rfl rfl <| g rfl hb11 <| pc (slices_Equal_api_Ins_api_Ins_ok v1.Code v2.Code q12) rfl rfl rfl <| r_nil (eg [64, 65, 66, 67, 68] 5 rfl rfl rfl rfl)) (fun hb => (sm (bF hb q13)).symm) <| u <| mv rfl <| r_and (x := v9) (j := 25) 5 rfl rfl rfl rfl rfl gpn (fun hb14 => by replace q16 := bT hb14 q16; obtain ⟨v8, q15, q16⟩ := bs q16; obtain rfl := sm q16; exact g rfl hb14 <| fa ti67 rfl rfl rfl <| g rfl hb14 <| ld ti65 rfl rfl <| g rfl hb14 <| fa ti67 rfl rfl rfl <| g rfl hb14 <| ld ti65 rfl rfl <| g rfl hb14 <| pc (slices_Equal_api_Trap_api_Trap_ok v1.Traps v2.Traps q15) rfl rfl rfl <| r_nil (eg [71, 72, 73, 74, 75] 5 rfl rfl rfl rfl)) (fun hb => (sm (bF hb q16)).symm) <| u <| asg rfl <| r_nil ?_
  refine sw_ret ?_
  obtain rfl := sm h
  exact ⟨_, rfl, [], ci rfl, rfl, trivial, rfl, Nat.le_of_ble_eq_true rfl⟩

noncomputable def slices_EqualFunc_api_Method_api_Method_api_Method_api_Method_k2 : Option (Bool) :=
  some true
noncomputable def slices_EqualFunc_api_Method_api_Method_api_Method_api_Method_l1 (v1 : List ApiMethod) (v2 : List ApiMethod) (v7 : Int) : Option (Sum (Int) (Sum (Unit) (Bool))) :=
  cond (decide (v7 < (List.length v1 : Int))) ((idx v1 v7).bind fun v8 => (idx v2 v7).bind fun v9 => (class_eqMethod v8 v9).bind fun v10 => cond (!v10) (some (.inr (.inr false))) (some (.inl (IntKind.i64.wrap (v7 + 1))))) (some (.inr (.inl ())))
noncomputable def slices_EqualFunc_api_Method_api_Method_api_Method_api_Method (v1 : List ApiMethod) (v2 : List ApiMethod) : Option (Bool) :=
  cond (!((List.length v1 : Int) == (List.length v2 : Int))) (some false) ((loopP (fun z => slices_EqualFunc_api_Method_api_Method_api_Method_api_Method_l1 v1 v2 z) 0).bind fun o => leave o (fun b => slices_EqualFunc_api_Method_api_Method_api_Method_api_Method_k2) some)
theorem slices_EqualFunc_api_Method_api_Method_api_Method_api_Method_ok (v1 : List ApiMethod) (v2 : List ApiMethod) {r : Bool} (h : slices_EqualFunc_api_Method_api_Method_api_Method_api_Method v1 v2 = some r) : PureC Try.prog 85 [.isl 10 (List.map rApiMethod v1), .isl 10 (List.map rApiMethod v2), .fn (.func 86) [] []] (.lit (.bool r)) := by
  refine pure_fn Try.func85 rfl (by kernel_rfl) rfl rfl ?_
  unfold slices_EqualFunc_api_Method_api_Method_api_Method_api_Method at h
  refine rg rfl <| u <| asg rfl <| r_nil ?_
  refine sw_seq ?_
  refine rg rfl <| u <| mv rfl <| u <| lnI ti59 rfl rfl <| u <| mv rfl <| u <| lnI ti59 rfl rfl <| u <| neq ti3 rfl rfl <| r_nil ?_
  refine sw_cond rfl (fun hc1 => ?_) (fun hc1 => ?_)
  · replace h := bT hc1 h
    refine rg rfl <| u <| asg rfl <| r_nil ?_
    refine sw_ret ?_
    obtain rfl := sm h
    exact ⟨_, rfl, [], ci rfl, rfl, trivial, rfl, Nat.le_of_ble_eq_true rfl⟩
  · replace h := bF hc1 h
    refine sw_skip ?_
    refine sw_seq ?_
    refine rg rfl <| u <| mv rfl <| u <| lnI ti59 rfl rfl <| u <| mv rfl <| r_nil ?_
    obtain ⟨o, ho, h⟩ := bs h
    refine sw_lpl (X := Int) (B := Unit) (R := Bool) (fun z => [(1, .isl 10 (List.map rApiMethod v2)), (2, .fn (.func 86) [] []), (15, .isl 10 (List.map rApiMethod v1)), (16, .lit (.int .i64 (List.length v1 : Int))), (17, .lit (.int .i64 z))]) (fun z => []) (fun b => []) (fun b => []) (fun r env st => PostF Try.prog Try.f85 0 (.lit (.bool r)) [] env st) ho ⟨[], ce rfl rfl <| ce rfl rfl <| ce rfl rfl <| ce rfl rfl <| ce rfl rfl <| cn, rfl, trivial, rfl, Nat.le_of_ble_eq_true rfl⟩ ?_ ?_ ?_
    · rintro v7 r h
      replace h : slices_EqualFunc_api_Method_api_Method_api_Method_api_Method_l1 v1 v2 v7 = some r := h
      unfold slices_EqualFunc_api_Method_api_Method_api_Method_api_Method_l1 at h
      refine rg rfl <| u <| lss ti3 rfl rfl <| r_nil ?_
      refine sw_seq ?_
      refine sw_cond rfl (fun hc7 => ?_) (fun hc7 => ?_)
      · replace h := bT hc7 h
        refine sw_skip ?_
        refine sw_seq ?_
        refine sw_block ?_
        obtain ⟨v8, q8, h⟩ := bs h
        refine rg rfl <| u <| mv rfl <| u <| ixI ti59 rfl ti67 rfl rfl rfl q8 <| u <| ldI ti67 rfl (idx_some q8).2.2 rfl <| u <| al 0 ti67 rfl <| u <| asg rfl <| u <| sto ti67 rfl rfl rfl <| r_nil ?_
        obtain ⟨v9, q9, h⟩ := bs h
        refine rg rfl <| u <| mv rfl <| u <| mv rfl <| u <| ixI ti59 rfl ti67 rfl rfl rfl q9 <| u <| ldI ti67 rfl (idx_some q9).2.2 rfl <| u <| al 1 ti67 rfl <| u <| sto ti67 rfl rfl rfl <| r_nil ?_
        obtain ⟨v10, q10, h⟩ := bs h
        refine rg rfl <| u <| mv rfl <| u <| ld ti67 rfl rfl <| u <| ld ti67 rfl rfl <| u <| pc (class_eqMethod_ok v8 v9 q10) rfl rfl rfl <| u <| nt rfl <| r_nil ?_
        refine sw_cond rfl (fun hc11 => ?_) (fun hc11 => ?_)
        · replace h := bT hc11 h
          refine rg rfl <| u <| asg rfl <| r_nil ?_
          refine sw_ret ?_
          obtain rfl := sm h
          exact ⟨_, rfl, _, rfl, [], ci rfl, rfl, trivial, rfl, Nat.le_of_ble_eq_true rfl⟩
        · replace h := bF hc11 h
          refine sw_skip ?_
          refine rl rfl <| u <| add ti3 rfl rfl <| u <| mv rfl <| r_nil ?_
          obtain rfl := sm h
          exact ⟨_, rfl, [], ce rfl rfl <| ce rfl rfl <| ce rfl rfl <| ce rfl rfl <| ce rfl rfl <| cn, rfl, trivial, rfl, Nat.le_of_ble_eq_true rfl⟩
      · replace h := bF hc7 h
        refine sw_exit ?_
        obtain rfl := sm h
        exact ⟨rfl, _, rfl, [], cn, rfl, trivial, rfl, Nat.le_of_ble_eq_true rfl⟩
    · rintro ⟨⟩ rfl
      replace h : slices_EqualFunc_api_Method_api_Method_api_Method_api_Method_k2 = some r := h
      unfold slices_EqualFunc_api_Method_api_Method_api_Method_api_Method_k2 at h
      refine ow_intro ?_
      refine rg rfl <| u <| asg rfl <| r_nil ?_
      refine sw_ret ?_
      obtain rfl := sm h
      exact ⟨_, rfl, [], ci rfl, rfl, trivial, rfl, Nat.le_of_ble_eq_true rfl⟩
    · rintro r' rfl env st hp
      obtain rfl := sm h
      exact hp

noncomputable def class_Eq (v1 : ApiClass) (v2 : ApiClass) : Option (Bool) :=
  (cond (((v1.Name == v2.Name) && (v1.Super == v2.Super)) && (v1.Interface == v2.Interface)) ((slices_Equal_string_string v1.Impl v2.Impl).bind fun v3 => some v3) (some false)).bind fun v4 => (cond v4 ((slices_Equal_api_Field_api_Field v1.Fields v2.Fields).bind fun v5 => some v5) (some false)).bind fun v6 => (cond v6 ((slices_EqualFunc_api_Method_api_Method_api_Method_api_Method v1.Methods v2.Methods).bind fun v7 => some v7) (some false)).bind fun v8 => some v8
theorem class_Eq_ok (v1 : ApiClass) (v2 : ApiClass) {r : Bool} (h : class_Eq v1 v2 = some r) : PureC Try.prog 59 [.agg [.lit (.string (B v1.Name)), .lit (.string (B v1.Super)), .lit (.bool v1.Interface), .isl 1 (List.map rStr v1.Impl), .isl 3 (List.map rApiField v1.Fields), .isl 10 (List.map rApiMethod v1.Methods)], .agg [.lit (.string (B v2.Name)), .lit (.string (B v2.Super)), .lit (.bool v2.Interface), .isl 1 (List.map rStr v2.Impl), .isl 3 (List.map rApiField v2.Fields), .isl 10 (List.map rApiMethod v2.Methods)]] (.lit (.bool r)) := by
  refine pure_fn Try.func59 rfl (by kernel_rfl) rfl rfl ?_
  unfold class_Eq at h
  refine rg rfl <| u <| bx 0 6 rfl rfl rfl rfl <| u <| bx 1 6 rfl rfl rfl rfl <| u <| asg rfl <| r_nil ?_
  obtain ⟨v4, q5, h⟩ := bs h
  obtain ⟨v6, q8, h⟩ := bs h
  obtain ⟨v8, q11, h⟩ := bs h
  refine rg rfl <| u <| fa ti61 rfl rfl rfl <| u <| ld ti9 rfl rfl <| u <| fa ti61 rfl rfl rfl <| u <| ld ti9 rfl rfl <| u <| seq ti9 rfl rfl <| u <| mv rfl <| r_and (x := ((v1.Name == v2.Name) && (v1.Super == v2.Super))) (j := 5) 5 rfl rfl rfl rfl rfl gpn (fun hb1 => g rfl hb1 <| fa ti61 rfl rfl rfl <| g rfl hb1 <| ld ti9 rfl rfl <| g rfl hb1 <| fa ti61 rfl rfl rfl <| g rfl hb1 <| ld ti9 rfl rfl <| g rfl hb1 <| seq ti9 rfl rfl <| r_nil (egA [11, 12, 13, 14, 15] 5 hb1 rfl rfl rfl rfl)) andF <| u <| mv rfl <| r_and (x := (((v1.Name == v2.Name) && (v1.Super == v2.Super)) && (v1.Interface == v2.Interface))) (j := 12) 5 rfl rfl rfl rfl rfl gpn (fun hb2 => g rfl hb2 <| fa ti61 rfl rfl rfl <| g rfl hb2 <| ld ti4 rfl rfl <| g rfl hb2 <| fa ti61 rfl rfl rfl <| g rfl hb2 <| ld ti4 rfl rfl <| g rfl hb2 <| beq ti4 rfl rfl rfl <| r_nil (egA [18, 19, 20, 21, 22] 5 hb2 rfl rfl rfl rfl)) andF <| u <| mv rfl <| r_and (x := v4) (j := 19) 5 rfl rfl rfl rfl rfl gpn (fun hb3 => by replace q5 := bT hb3 q5; obtain ⟨v3, q4, q5⟩ := bs q5; obtain rfl := sm q5; exact g rfl hb3 <| fa ti61 rfl rfl rfl <| g rfl hb3 <| ld ti57 rfl rfl <| g rfl hb3 <| fa ti61 rfl rfl rfl <| g rfl hb3 <| ld ti57 rfl rfl <| g rfl hb3 <| pc (slices_Equal_string_string_ok v1.Impl v2.Impl q4) rfl rfl rfl <| r_nil (eg [25, 26, 27, 28, 29] 5 rfl rfl rfl rfl)) (fun hb => (sm (bF hb q5)).symm) <| u <| mv rfl <| r_and (x := v6) (j := 26) 5 rfl rfl rfl rfl rfl gpn (fun hb6 => by replace q8 := bT hb6 q8; obtain ⟨v5, q7, q8⟩ := bs q8; obtain rfl := sm q8; exact g rfl hb6 <| fa ti61 rfl rfl rfl <| g rfl hb6 <| ld ti58 rfl rfl <| g rfl hb6 <| fa ti61 rfl rfl rfl <| g rfl hb6 <| ld ti58 rfl rfl <| g rfl hb6 <| pc (slices_Equal_api_Field_api_Field_ok v1.Fields v2.Fields q7) rfl rfl rfl <| r_nil (eg [32, 33, 34, 35, 36] 5 rfl rfl rfl rfl)) (fun hb => (sm (bF hb q8)).symm) <| u <| mv rfl <| r_and (x := v8) (j := 33) 5 rfl rfl rfl rfl rfl gpn (fun hb9 => by replace q11 := bT hb9 q11; obtain ⟨v7, q10, q11⟩ := bs q11; obtain rfl := sm q11; exact g rfl hb9 <| fa ti61 rfl rfl rfl <| g rfl hb9 <| ld ti59 rfl rfl <| g rfl hb9 <| fa ti61 rfl rfl rfl <| g rfl hb9 <| ld ti59 rfl rfl <| g rfl hb9 <| pc (slices_EqualFunc_api_Method_api_Method_api_Method_api_Method_ok v1.Methods v2.Methods q10) rfl rfl rfl <| r_nil (eg [39, 40, 41, 42, 43] 5 rfl rfl rfl rfl)) (fun hb => (sm (bF hb q11)).symm) <| u <| asg rfl <| r_nil ?_
  refine sw_ret ?_
  obtain rfl := sm h
  exact ⟨_, rfl, [], ci rfl, rfl, trivial, rfl, Nat.le_of_ble_eq_true rfl⟩

noncomputable def law5_One (v1 : List UInt8) : Unit :=
  ()
theorem law5_One_ok (v1 : List UInt8) {r : Unit} (h : law5_One v1 = r) : SC Try.prog 37 [.lit (.string (B v1))] [] (.agg [.lit (.string (B v1)), .lit (.string (B [79, 98, 106, 101, 99, 116])), .lit (.bool false), .lit (.slice none 0 0), .msl 0 0 1, .msl 1 0 1]) [.xs 3 [[.lit (.string (B [120])), .lit (.string (B [73])), .lit (.bool false)]], .xs 10 [[.lit (.string (B [109, 97, 105, 110])), .lit (.slice none 0 0), .lit (.string (B [86])), .lit (.bool true), .lit (.bool false), .lit (.int .i64 0), .lit (.int .i64 0), .msl 2 0 1, .lit (.slice none 0 0), .lit (.slice none 0 0)]], .xs 4 [[.lit (.int .i64 46), .lit (.int .i64 0), .lit (.string (B [])), .lit (.string (B []))]]] := by
  refine ⟨⟨trivial, trivial, trivial, trivial⟩, scall_fn Try.func37 rfl (by kernel_rfl) rfl ?_⟩
  unfold law5_One at h
  refine rg rfl <| u <| al 0 ti61 rfl <| r_nil ?_
  refine rg rfl <| u <| mv rfl <| u <| bd ti63 rfl rfl rfl <| u <| bl 1 ti58 rfl ti63 rfl (by decide) (by decide) rfl rfl rfl <| u <| bd ti44 rfl rfl rfl <| u <| bl 2 ti55 rfl ti44 rfl (by decide) (by decide) rfl rfl rfl <| u <| bd ti67 rfl rfl rfl <| u <| bl 3 ti59 rfl ti67 rfl (by decide) (by decide) rfl rfl rfl <| u <| bd ti61 rfl rfl rfl <| u <| sto ti61 rfl rfl rfl <| r_nil ?_
  refine sw_ret ?_
  obtain rfl := h
  exact ⟨_, rfl, [.old 1, .old 3, .old 2], rsAgg ⟨(ci rfl), (ci rfl), (ci rfl), (ci rfl), (.msl rfl), (.msl rfl), trivial⟩, rfl, ⟨⟨_, rfl, rsRows ⟨⟨(ci rfl), (ci rfl), (ci rfl), trivial⟩, trivial⟩⟩, ⟨_, rfl, rsRows ⟨⟨(ci rfl), (ci rfl), (ci rfl), (ci rfl), (ci rfl), (ci rfl), (ci rfl), (.msl rfl), (ci rfl), (ci rfl), trivial⟩, trivial⟩⟩, ⟨_, rfl, rsRows ⟨⟨(ci rfl), (ci rfl), (ci rfl), (ci rfl), trivial⟩, trivial⟩⟩, trivial⟩, rfl, Nat.le_of_ble_eq_true rfl⟩

noncomputable def law5_begun : Option (Bool) :=
  (law4_Begun).bind fun v1 => (cond v1 ((class_May (ApiClass.mk [65, 98] [79, 98, 106, 101, 99, 116] false [] ([(ApiField.mk [120] [73] false)]) ([(ApiMethod.mk [109, 97, 105, 110] [] [86] true false 0 0 ([(ApiIns.mk 46 0 [] [])]) [] [])]))).bind fun v2 => some v2) (some false)).bind fun v3 => (cond v3 ((class_May (ApiClass.mk [65, 98] [] false [] [] [])).bind fun v4 => some (!v4)) (some false)).bind fun v5 => (cond v5 ((class_Eq (ApiClass.mk [65, 98] [79, 98, 106, 101, 99, 116] false [] ([(ApiField.mk [120] [73] false)]) ([(ApiMethod.mk [109, 97, 105, 110] [] [86] true false 0 0 ([(ApiIns.mk 46 0 [] [])]) [] [])])) (ApiClass.mk [65, 98] [79, 98, 106, 101, 99, 116] false [] ([(ApiField.mk [120] [73] false)]) ([(ApiMethod.mk [109, 97, 105, 110] [] [86] true false 0 0 ([(ApiIns.mk 46 0 [] [])]) [] [])]))).bind fun v6 => some v6) (some false)).bind fun v7 => (cond v7 ((class_Eq (ApiClass.mk [65, 98] [79, 98, 106, 101, 99, 116] false [] ([(ApiField.mk [120] [73] false)]) ([(ApiMethod.mk [109, 97, 105, 110] [] [86] true false 0 0 ([(ApiIns.mk 46 0 [] [])]) [] [])])) (ApiClass.mk [65, 98] [79, 98, 106, 101, 99, 116] false [] ([(ApiField.mk [120] [73] false)]) ([(ApiMethod.mk [109, 97, 105, 110] [] [86] true false 1 0 ([(ApiIns.mk 46 0 [] [])]) [] [])]))).bind fun v8 => some (!v8)) (some false)).bind fun v9 => (cond v9 ((class_Method (ApiClass.mk [65, 98] [79, 98, 106, 101, 99, 116] false [] ([(ApiField.mk [120] [73] false)]) ([(ApiMethod.mk [109, 97, 105, 110] [] [86] true false 0 0 ([(ApiIns.mk 46 0 [] [])]) [] [])])) [109, 97, 105, 110]).bind fun v10 => some (v10 == (0 : Int))) (some false)).bind fun v11 => (cond v11 ((class_Method (ApiClass.mk [65, 98] [79, 98, 106, 101, 99, 116] false [] ([(ApiField.mk [120] [73] false)]) ([(ApiMethod.mk [109, 97, 105, 110] [] [86] true false 0 0 ([(ApiIns.mk 46 0 [] [])]) [] [])])) [120]).bind fun v12 => some (v12 == ((-1) : Int))) (some false)).bind fun v13 => (cond v13 ((class_Field (ApiClass.mk [65, 98] [79, 98, 106, 101, 99, 116] false [] ([(ApiField.mk [120] [73] false)]) ([(ApiMethod.mk [109, 97, 105, 110] [] [86] true false 0 0 ([(ApiIns.mk 46 0 [] [])]) [] [])])) [120]).bind fun v14 => some (v14 == (0 : Int))) (some false)).bind fun v15 => (cond v15 ((class_Field (ApiClass.mk [65, 98] [79, 98, 106, 101, 99, 116] false [] ([(ApiField.mk [120] [73] false)]) ([(ApiMethod.mk [109, 97, 105, 110] [] [86] true false 0 0 ([(ApiIns.mk 46 0 [] [])]) [] [])])) [109, 97, 105, 110]).bind fun v16 => some (v16 == ((-1) : Int))) (some false)).bind fun v17 => some v17
theorem law5_begun_ok {r : Bool} (h : law5_begun = some r) : PureC Try.prog 34 [] (.lit (.bool r)) := by
  refine pure_fn Try.func34 rfl (by kernel_rfl) rfl rfl ?_
  unfold law5_begun at h
  refine rg rfl <| u <| asg rfl <| r_nil ?_
  refine rg rfl <| u <| sc [] (law5_One_ok [65, 98] rfl) rfl rfl rfl rfl ⟨rnI rfl, trivial⟩ trivial <| u <| al 3 ti61 rfl <| u <| sto ti61 rfl rfl rfl <| r_nil ?_
  refine rg rfl <| u <| sc [] (law5_One_ok [65, 98] rfl) rfl rfl rfl rfl ⟨rnI rfl, trivial⟩ trivial <| u <| al 7 ti61 rfl <| u <| sto ti61 rfl rfl rfl <| r_nil ?_
  refine rg rfl <| u <| fa ti61 rfl rfl rfl <| u <| ld ti59 rfl rfl <| u <| ixX ti59 rfl ti67 rfl rfl rfl <| u <| fa ti67 rfl rfl rfl <| u <| sto ti3 rfl rfl rfl <| r_nil ?_
  obtain ⟨v1, q1, h⟩ := bs h
  obtain ⟨v3, q4, h⟩ := bs h
  obtain ⟨v5, q7, h⟩ := bs h
  obtain ⟨v7, q10, h⟩ := bs h
  obtain ⟨v9, q13, h⟩ := bs h
  obtain ⟨v11, q16, h⟩ := bs h
  obtain ⟨v13, q19, h⟩ := bs h
  obtain ⟨v15, q22, h⟩ := bs h
  obtain ⟨v17, q25, h⟩ := bs h
  refine rg rfl <| u <| pc (law4_Begun_ok q1) rfl rfl rfl <| u <| mv rfl <| r_and (x := v3) (j := 1) 2 rfl rfl rfl rfl rfl gpn (fun hb2 => by replace q4 := bT hb2 q4; obtain ⟨v2, q3, q4⟩ := bs q4; obtain rfl := sm q4; exact g rfl hb2 <| ld ti61 rfl rfl <| g rfl hb2 <| pcs (class_May_ok (ApiClass.mk [65, 98] [79, 98, 106, 101, 99, 116] false [] ([(ApiField.mk [120] [73] false)]) ([(ApiMethod.mk [109, 97, 105, 110] [] [86] true false 0 0 ([(ApiIns.mk 46 0 [] [])]) [] [])])) q3) rfl rfl (.cons (sealAgg ⟨(si rfl), (si rfl), (si rfl), (.nil), (sealX rfl ⟨⟨(si rfl), (si rfl), (si rfl), trivial⟩, trivial⟩), (sealX rfl ⟨⟨(si rfl), (.nil), (si rfl), (si rfl), (si rfl), (si rfl), (si rfl), (sealX rfl ⟨⟨(si rfl), (si rfl), (si rfl), (si rfl), trivial⟩, trivial⟩), (.nil), (.nil), trivial⟩, trivial⟩), trivial⟩) .nil) plainB <| r_nil (eg [11, 12] 2 rfl rfl rfl rfl)) (fun hb => (sm (bF hb q4)).symm) <| u <| mv rfl <| r_and (x := v5) (j := 5) 3 rfl rfl rfl rfl rfl gpn (fun hb5 => by replace q7 := bT hb5 q7; obtain ⟨v4, q6, q7⟩ := bs q7; obtain rfl := sm q7; exact g rfl hb5 <| bd ti61 rfl rfl rfl <| g rfl hb5 <| pcs (class_May_ok (ApiClass.mk [65, 98] [] false [] [] []) q6) rfl rfl (.cons (sealAgg ⟨(si rfl), (si rfl), (si rfl), (.nil), (.nil), (.nil), trivial⟩) .nil) plainB <| g rfl hb5 <| nt rfl <| r_nil (eg [15, 16, 17] 3 rfl rfl rfl rfl)) (fun hb => (sm (bF hb q7)).symm) <| u <| mv rfl <| r_and (x := v7) (j := 10) 3 rfl rfl rfl rfl rfl gpn (fun hb8 => by replace q10 := bT hb8 q10; obtain ⟨v6, q9, q10⟩ := bs q10; obtain rfl := sm q10; exact g rfl hb8 <| ld ti61 rfl rfl <| g rfl hb8 <| ld ti61 rfl rfl <| g rfl hb8 <| pcs (class_Eq_ok (ApiClass.mk [65, 98] [79, 98, 106, 101, 99, 116] false [] ([(ApiField.mk [120] [73] false)]) ([(ApiMethod.mk [109, 97, 105, 110] [] [86] true false 0 0 ([(ApiIns.mk 46 0 [] [])]) [] [])])) (ApiClass.mk [65, 98] [79, 98, 106, 101, 99, 116] false [] ([(ApiField.mk [120] [73] false)]) ([(ApiMethod.mk [109, 97, 105, 110] [] [86] true false 0 0 ([(ApiIns.mk 46 0 [] [])]) [] [])])) q9) rfl rfl (.cons (sealAgg ⟨(si rfl), (si rfl), (si rfl), (.nil), (sealX rfl ⟨⟨(si rfl), (si rfl), (si rfl), trivial⟩, trivial⟩), (sealX rfl ⟨⟨(si rfl), (.nil), (si rfl), (si rfl), (si rfl), (si rfl), (si rfl), (sealX rfl ⟨⟨(si rfl), (si rfl), (si rfl), (si rfl), trivial⟩, trivial⟩), (.nil), (.nil), trivial⟩, trivial⟩), trivial⟩) (.cons (sealAgg ⟨(si rfl), (si rfl), (si rfl), (.nil), (sealX rfl ⟨⟨(si rfl), (si rfl), (si rfl), trivial⟩, trivial⟩), (sealX rfl ⟨⟨(si rfl), (.nil), (si rfl), (si rfl), (si rfl), (si rfl), (si rfl), (sealX rfl ⟨⟨(si rfl), (si rfl), (si rfl), (si rfl), trivial⟩, trivial⟩), (.nil), (.nil), trivial⟩, trivial⟩), trivial⟩) .nil)) plainB <| r_nil (eg [20, 21, 22] 3 rfl rfl rfl rfl)) (fun hb => (sm (bF hb q10)).symm) <| u <| mv rfl <| r_and (x := v9) (j := 15) 4 rfl rfl rfl rfl rfl gpn (fun hb11 => by replace q13 := bT hb11 q13; obtain ⟨v8, q12, q13⟩ := bs q13; obtain rfl := sm q13; exact g rfl hb11 <| ld ti61 rfl rfl <| g rfl hb11 <| ld ti61 rfl rfl <| g rfl hb11 <| pcs (class_Eq_ok (ApiClass.mk [65, 98] [79, 98, 106, 101, 99, 116] false [] ([(ApiField.mk [120] [73] false)]) ([(ApiMethod.mk [109, 97, 105, 110] [] [86] true false 0 0 ([(ApiIns.mk 46 0 [] [])]) [] [])])) (ApiClass.mk [65, 98] [79, 98, 106, 101, 99, 116] false [] ([(ApiField.mk [120] [73] false)]) ([(ApiMethod.mk [109, 97, 105, 110] [] [86] true false 1 0 ([(ApiIns.mk 46 0 [] [])]) [] [])])) q12) rfl rfl (.cons (sealAgg ⟨(si rfl), (si rfl), (si rfl), (.nil), (sealX rfl ⟨⟨(si rfl), (si rfl), (si rfl), trivial⟩, trivial⟩), (sealX rfl ⟨⟨(si rfl), (.nil), (si rfl), (si rfl), (si rfl), (si rfl), (si rfl), (sealX rfl ⟨⟨(si rfl), (si rfl), (si rfl), (si rfl), trivial⟩, trivial⟩), (.nil), (.nil), trivial⟩, trivial⟩), trivial⟩) (.cons (sealAgg ⟨(si rfl), (si rfl), (si rfl), (.nil), (sealX rfl ⟨⟨(si rfl), (si rfl), (si rfl), trivial⟩, trivial⟩), (sealX rfl ⟨⟨(si rfl), (.nil), (si rfl), (si rfl), (si rfl), (si rfl), (si rfl), (sealX rfl ⟨⟨(si rfl), (si rfl), (si rfl), (si rfl), trivial⟩, trivial⟩), (.nil), (.nil), trivial⟩, trivial⟩), trivial⟩) .nil)) plainB <| g rfl hb11 <| nt rfl <| r_nil (eg [25, 26, 27, 28] 4 rfl rfl rfl rfl)) (fun hb => (sm (bF hb q13)).symm) <| u <| mv rfl <| r_and (x := v11) (j := 21) 3 rfl rfl rfl rfl rfl gpn (fun hb14 => by replace q16 := bT hb14 q16; obtain ⟨v10, q15, q16⟩ := bs q16; obtain rfl := sm q16; exact g rfl hb14 <| ld ti61 rfl rfl <| g rfl hb14 <| pcs (class_Method_ok (ApiClass.mk [65, 98] [79, 98, 106, 101, 99, 116] false [] ([(ApiField.mk [120] [73] false)]) ([(ApiMethod.mk [109, 97, 105, 110] [] [86] true false 0 0 ([(ApiIns.mk 46 0 [] [])]) [] [])])) [109, 97, 105, 110] q15) rfl rfl (.cons (sealAgg ⟨(si rfl), (si rfl), (si rfl), (.nil), (sealX rfl ⟨⟨(si rfl), (si rfl), (si rfl), trivial⟩, trivial⟩), (sealX rfl ⟨⟨(si rfl), (.nil), (si rfl), (si rfl), (si rfl), (si rfl), (si rfl), (sealX rfl ⟨⟨(si rfl), (si rfl), (si rfl), (si rfl), trivial⟩, trivial⟩), (.nil), (.nil), trivial⟩, trivial⟩), trivial⟩) (.cons (si rfl) .nil)) plainB <| g rfl hb14 <| eql ti3 rfl rfl <| r_nil (eg [31, 32, 33] 3 rfl rfl rfl rfl)) (fun hb => (sm (bF hb q16)).symm) <| u <| mv rfl <| r_and (x := v13) (j := 26) 3 rfl rfl rfl rfl rfl gpn (fun hb17 => by replace q19 := bT hb17 q19; obtain ⟨v12, q18, q19⟩ := bs q19; obtain rfl := sm q19; exact g rfl hb17 <| ld ti61 rfl rfl <| g rfl hb17 <| pcs (class_Method_ok (ApiClass.mk [65, 98] [79, 98, 106, 101, 99, 116] false [] ([(ApiField.mk [120] [73] false)]) ([(ApiMethod.mk [109, 97, 105, 110] [] [86] true false 0 0 ([(ApiIns.mk 46 0 [] [])]) [] [])])) [120] q18) rfl rfl (.cons (sealAgg ⟨(si rfl), (si rfl), (si rfl), (.nil), (sealX rfl ⟨⟨(si rfl), (si rfl), (si rfl), trivial⟩, trivial⟩), (sealX rfl ⟨⟨(si rfl), (.nil), (si rfl), (si rfl), (si rfl), (si rfl), (si rfl), (sealX rfl ⟨⟨(si rfl), (si rfl), (si rfl), (si rfl), trivial⟩, trivial⟩), (.nil), (.nil), trivial⟩, trivial⟩), trivial⟩) (.cons (si rfl) .nil)) plainB <| g rfl hb17 <| eql ti3 rfl rfl <| r_nil (eg [36, 37, 38] 3 rfl rfl rfl rfl)) (fun hb => (sm (bF hb q19)).symm) <| u <| mv rfl <| r_and (x := v15) (j := 31) 3 rfl rfl rfl rfl rfl gpn (fun hb20 => by replace q22 := bT hb20 q22; obtain ⟨v14, q21, q22⟩ := bs q22; obtain rfl := sm q22; exact g rfl hb20 <| ld ti61 rfl rfl <| g rfl hb20 <| pcs (class_Field_ok (ApiClass.mk [65, 98] [79, 98, 106, 101, 99, 116] false [] ([(ApiField.mk [120] [73] false)]) ([(ApiMethod.mk [109, 97, 105, 110] [] [86] true false 0 0 ([(ApiIns.mk 46 0 [] [])]) [] [])])) [120] q21) rfl rfl (.cons (sealAgg ⟨(si rfl), (si rfl), (si rfl), (.nil), (sealX rfl ⟨⟨(si rfl), (si rfl), (si rfl), trivial⟩, trivial⟩), (sealX rfl ⟨⟨(si rfl), (.nil), (si rfl), (si rfl), (si rfl), (si rfl), (si rfl), (sealX rfl ⟨⟨(si rfl), (si rfl), (si rfl), (si rfl), trivial⟩, trivial⟩), (.nil), (.nil), trivial⟩, trivial⟩), trivial⟩) (.cons (si rfl) .nil)) plainB <| g rfl hb20 <| eql ti3 rfl rfl <| r_nil (eg [41, 42, 43] 3 rfl rfl rfl rfl)) (fun hb => (sm (bF hb q22)).symm) <| u <| mv rfl <| r_and (x := v17) (j := 36) 3 rfl rfl rfl rfl rfl gpn (fun hb23 => by replace q25 := bT hb23 q25; obtain ⟨v16, q24, q25⟩ := bs q25; obtain rfl := sm q25; exact g rfl hb23 <| ld ti61 rfl rfl <| g rfl hb23 <| pcs (class_Field_ok (ApiClass.mk [65, 98] [79, 98, 106, 101, 99, 116] false [] ([(ApiField.mk [120] [73] false)]) ([(ApiMethod.mk [109, 97, 105, 110] [] [86] true false 0 0 ([(ApiIns.mk 46 0 [] [])]) [] [])])) [109, 97, 105, 110] q24) rfl rfl (.cons (sealAgg ⟨(si rfl), (si rfl), (si rfl), (.nil), (sealX rfl ⟨⟨(si rfl), (si rfl), (si rfl), trivial⟩, trivial⟩), (sealX rfl ⟨⟨(si rfl), (.nil), (si rfl), (si rfl), (si rfl), (si rfl), (si rfl), (sealX rfl ⟨⟨(si rfl), (si rfl), (si rfl), (si rfl), trivial⟩, trivial⟩), (.nil), (.nil), trivial⟩, trivial⟩), trivial⟩) (.cons (si rfl) .nil)) plainB <| g rfl hb23 <| eql ti3 rfl rfl <| r_nil (eg [46, 47, 48] 3 rfl rfl rfl rfl)) (fun hb => (sm (bF hb q25)).symm) <| u <| asg rfl <| r_nil ?_
  refine sw_ret ?_
  obtain rfl := sm h
  exact ⟨_, rfl, [], ci rfl, rfl, trivial, rfl, Nat.le_of_ble_eq_true rfl⟩

noncomputable def law5_ClassLimits_k16 (v1 : Int) (v2 : Int) (v3 : Int) (v4 : Int) (v5 : Int) (v13 : List ApiField) (v62 : List ApiMethod) : Option (Bool) :=
  (class_May (ApiClass.mk [65, 98] [79, 98, 106, 101, 99, 116] false [] v13 v62)).bind fun v63 => some (v63 == (((decide (v1 ≤ 8)) && (decide (v2 ≤ 8))) && ((v2 == (0 : Int)) || (((decide (v3 ≤ 6)) && (decide (v4 ≤ 100))) && (decide (v5 ≤ 6))))))
noncomputable def law5_ClassLimits_k14 (v3 : Int) (v38 : List ApiMethod) (v39 : Int) (v46 : List (List UInt8)) (v53 : List ApiIns) (v60 : List ApiTrap) : Option (Sum ((List ApiMethod) × Int) (Sum ((List ApiMethod)) (Bool))) :=
  (appP 152 v38 ([(ApiMethod.mk [(109 : UInt8), (tU8 (IntKind.i64.wrap (48 + v39)))] v46 [86] true false v3 0 v53 [] v60)])).bind fun v61 => some (.inl (v61, (IntKind.i64.wrap (v39 + 1))))
noncomputable def law5_ClassLimits_l13 (v5 : Int) (v57 : List ApiTrap) (v58 : Int) : Option (Sum ((List ApiTrap) × Int) (Sum ((List ApiTrap)) (Bool))) :=
  cond (decide (v58 < v5)) ((appP 40 v57 ([(ApiTrap.mk 0 1 0 [])])).bind fun v59 => some (.inl (v59, (IntKind.i64.wrap (v58 + 1))))) (some (.inr (.inl v57)))
noncomputable def law5_ClassLimits_k12 (v3 : Int) (v5 : Int) (v38 : List ApiMethod) (v39 : Int) (v46 : List (List UInt8)) (v53 : List ApiIns) : Option (Sum ((List ApiMethod) × Int) (Sum ((List ApiMethod)) (Bool))) :=
  (loopP (fun z => law5_ClassLimits_l13 v5 z.1 z.2) ([], 0)).bind fun o => leave o (fun b => law5_ClassLimits_k14 v3 v38 v39 v46 v53 b) (fun r => some (.inr (.inr r)))
noncomputable def law5_ClassLimits_l11 (v4 : Int) (v50 : List ApiIns) (v51 : Int) : Option (Sum ((List ApiIns) × Int) (Sum ((List ApiIns)) (Bool))) :=
  cond (decide (v51 < v4)) ((appP 48 v50 ([(ApiIns.mk 46 0 [] [])])).bind fun v52 => some (.inl (v52, (IntKind.i64.wrap (v51 + 1))))) (some (.inr (.inl v50)))
noncomputable def law5_ClassLimits_k10 (v3 : Int) (v4 : Int) (v5 : Int) (v38 : List ApiMethod) (v39 : Int) (v46 : List (List UInt8)) : Option (Sum ((List ApiMethod) × Int) (Sum ((List ApiMethod)) (Bool))) :=
  (loopP (fun z => law5_ClassLimits_l11 v4 z.1 z.2) ([], 0)).bind fun o => leave o (fun b => law5_ClassLimits_k12 v3 v5 v38 v39 v46 b) (fun r => some (.inr (.inr r)))
noncomputable def law5_ClassLimits_l9 (v3 : Int) (v43 : List (List UInt8)) (v44 : Int) : Option (Sum ((List (List UInt8)) × Int) (Sum ((List (List UInt8))) (Bool))) :=
  cond (decide (v44 < v3)) ((appP 16 v43 ([[73]])).bind fun v45 => some (.inl (v45, (IntKind.i64.wrap (v44 + 1))))) (some (.inr (.inl v43)))
noncomputable def law5_ClassLimits_l15 (v2 : Int) (v3 : Int) (v4 : Int) (v5 : Int) (v38 : List ApiMethod) (v39 : Int) : Option (Sum ((List ApiMethod) × Int) (Sum ((List ApiMethod)) (Bool))) :=
  cond (decide (v39 < v2)) ((loopP (fun z => law5_ClassLimits_l9 v3 z.1 z.2) ([], 0)).bind fun o => leave o (fun b => law5_ClassLimits_k10 v3 v4 v5 v38 v39 b) (fun r => some (.inr (.inr r)))) (some (.inr (.inl v38)))
noncomputable def law5_ClassLimits_k2 (v1 : Int) (v2 : Int) (v3 : Int) (v4 : Int) (v5 : Int) (v13 : List ApiField) : Option (Bool) :=
  (loopP (fun z => law5_ClassLimits_l15 v2 v3 v4 v5 z.1 z.2) ([], 0)).bind fun o => leave o (fun b => law5_ClassLimits_k16 v1 v2 v3 v4 v5 v13 b) some
noncomputable def law5_ClassLimits_l1 (v1 : Int) (v10 : List ApiField) (v11 : Int) : Option (Sum ((List ApiField) × Int) (Sum ((List ApiField)) (Bool))) :=
  cond (decide (v11 < v1)) ((appP 40 v10 ([(ApiField.mk [(102 : UInt8), (tU8 (IntKind.i64.wrap (48 + v11)))] [73] false)])).bind fun v12 => some (.inl (v12, (IntKind.i64.wrap (v11 + 1))))) (some (.inr (.inl v10)))
noncomputable def law5_ClassLimits (v1 : Int) (v2 : Int) (v3 : Int) (v4 : Int) (v5 : Int) : Option (Bool) :=
  (law5_begun).bind fun v6 => cond (!v6) (some false) (cond ((((((((((decide (v1 < 0)) || (decide (10 < v1))) || (decide (v2 < 0))) || (decide (10 < v2))) || (decide (v3 < 0))) || (decide (8 < v3))) || (decide (v4 < 1))) || (decide (104 < v4))) || (decide (v5 < 0))) || (decide (8 < v5))) (some true) ((loopP (fun z => law5_ClassLimits_l1 v1 z.1 z.2) ([], 0)).bind fun o => leave o (fun b => law5_ClassLimits_k2 v1 v2 v3 v4 v5 b) some))
theorem law5_ClassLimits_ok (v1 : Int) (v2 : Int) (v3 : Int) (v4 : Int) (v5 : Int) {r : Bool} (h : law5_ClassLimits v1 v2 v3 v4 v5 = some r) : PureC Try.prog 10 [.lit (.int .i64 v1), .lit (.int .i64 v2), .lit (.int .i64 v3), .lit (.int .i64 v4), .lit (.int .i64 v5)] (.lit (.bool r)) := by
  refine pure_fn Try.func10 rfl (by kernel_rfl) rfl rfl ?_
  unfold law5_ClassLimits at h
  refine rg rfl <| u <| asg rfl <| r_nil ?_
  obtain ⟨v6, q1, h⟩ := bs h
  refine rg rfl <| u <| pc (law5_begun_ok q1) rfl rfl rfl <| u <| asg rfl <| r_nil ?_
  refine sw_seq ?_
  refine rg rfl <| u <| mv rfl <| u <| nt rfl <| r_nil ?_
  refine sw_cond rfl (fun hc2 => ?_) (fun hc2 => ?_)
  · replace h := bT hc2 h
    refine rg rfl <| u <| asg rfl <| r_nil ?_
    refine sw_ret ?_
    obtain rfl := sm h
    exact ⟨_, rfl, [], ci rfl, rfl, trivial, rfl, Nat.le_of_ble_eq_true rfl⟩
  · replace h := bF hc2 h
    refine sw_skip ?_
    refine sw_seq ?_
    refine rg rfl <| u <| mv rfl <| u <| lss ti3 rfl rfl <| u <| mv rfl <| r_or (x := ((decide (v1 < 0)) || (decide (10 < v1)))) (j := 2) 2 rfl rfl rfl rfl rfl gpn (fun hb3 => g rfl hb3 <| mv rfl <| g rfl hb3 <| gtr ti3 rfl rfl <| r_nil (egO [26, 27] 2 hb3 rfl rfl rfl rfl)) orT <| u <| mv rfl <| r_or (x := (((decide (v1 < 0)) || (decide (10 < v1))) || (decide (v2 < 0)))) (j := 6) 2 rfl rfl rfl rfl rfl gpn (fun hb4 => g rfl hb4 <| mv rfl <| g rfl hb4 <| lss ti3 rfl rfl <| r_nil (egO [30, 31] 2 hb4 rfl rfl rfl rfl)) orT <| u <| mv rfl <| r_or (x := ((((decide (v1 < 0)) || (decide (10 < v1))) || (decide (v2 < 0))) || (decide (10 < v2)))) (j := 10) 2 rfl rfl rfl rfl rfl gpn (fun hb5 => g rfl hb5 <| mv rfl <| g rfl hb5 <| gtr ti3 rfl rfl <| r_nil (egO [34, 35] 2 hb5 rfl rfl rfl rfl)) orT <| u <| mv rfl <| r_or (x := (((((decide (v1 < 0)) || (decide (10 < v1))) || (decide (v2 < 0))) || (decide (10 < v2))) || (decide (v3 < 0)))) (j := 14) 2 rfl rfl rfl rfl rfl gpn (fun hb6 => g rfl hb6 <| mv rfl <| g rfl hb6 <| lss ti3 rfl rfl <| r_nil (egO [38, 39] 2 hb6 rfl rfl rfl rfl)) orT <| u <| mv rfl <| r_or (x := ((((((decide (v1 < 0)) || (decide (10 < v1))) || (decide (v2 < 0))) || (decide (10 < v2))) || (decide (v3 < 0))) || (decide (8 < v3)))) (j := 18) 2 rfl rfl rfl rfl rfl gpn (fun hb7 => g rfl hb7 <| mv rfl <| g rfl hb7 <| gtr ti3 rfl rfl <| r_nil (egO [42, 43] 2 hb7 rfl rfl rfl rfl)) orT <| u <| mv rfl <| r_or (x := (((((((decide (v1 < 0)) || (decide (10 < v1))) || (decide (v2 < 0))) || (decide (10 < v2))) || (decide (v3 < 0))) || (decide (8 < v3))) || (decide (v4 < 1)))) (j := 22) 2 rfl rfl rfl rfl rfl gpn (fun hb8 => g rfl hb8 <| mv rfl <| g rfl hb8 <| lss ti3 rfl rfl <| r_nil (egO [46, 47] 2 hb8 rfl rfl rfl rfl)) orT <| u <| mv rfl <| r_or (x := ((((((((decide (v1 < 0)) || (decide (10 < v1))) || (decide (v2 < 0))) || (decide (10 < v2))) || (decide (v3 < 0))) || (decide (8 < v3))) || (decide (v4 < 1))) || (decide (104 < v4)))) (j := 26) 2 rfl rfl rfl rfl rfl gpn (fun hb9 => g rfl hb9 <| mv rfl <| g rfl hb9 <| gtr ti3 rfl rfl <| r_nil (egO [50, 51] 2 hb9 rfl rfl rfl rfl)) orT <| u <| mv rfl <| r_or (x := (((((((((decide (v1 < 0)) || (decide (10 < v1))) || (decide (v2 < 0))) || (decide (10 < v2))) || (decide (v3 < 0))) || (decide (8 < v3))) || (decide (v4 < 1))) || (decide (104 < v4))) || (decide (v5 < 0)))) (j := 30) 2 rfl rfl rfl rfl rfl gpn (fun hb10 => g rfl hb10 <| mv rfl <| g rfl hb10 <| lss ti3 rfl rfl <| r_nil (egO [54, 55] 2 hb10 rfl rfl rfl rfl)) orT <| u <| mv rfl <| r_or (x := ((((((((((decide (v1 < 0)) || (decide (10 < v1))) || (decide (v2 < 0))) || (decide (10 < v2))) || (decide (v3 < 0))) || (decide (8 < v3))) || (decide (v4 < 1))) || (decide (104 < v4))) || (decide (v5 < 0))) || (decide (8 < v5)))) (j := 34) 2 rfl rfl rfl rfl rfl gpn (fun hb11 => g rfl hb11 <| mv rfl <| g rfl hb11 <| gtr ti3 rfl rfl <| r_nil (egO [58, 59] 2 hb11 rfl rfl rfl rfl)) orT <| r_nil ?_
    refine sw_cond rfl (fun hc12 => ?_) (fun hc12 => ?_)
    · replace h := bT hc12 h
      refine rg rfl <| u <| asg rfl <| r_nil ?_
      refine sw_ret ?_
      obtain rfl := sm h
      exact ⟨_, rfl, [], ci rfl, rfl, trivial, rfl, Nat.le_of_ble_eq_true rfl⟩
    · replace h := bF hc12 h
      refine sw_skip ?_
      refine rg rfl <| u <| bd ti61 rfl rfl rfl <| u <| al 0 ti61 rfl <| u <| sto ti61 rfl rfl rfl <| r_nil ?_
      refine sw_seq ?_
      refine rg rfl <| u <| asg rfl <| r_nil ?_
      obtain ⟨o, ho, h⟩ := bs h
      refine sw_lpl (X := (List ApiField) × Int) (B := (List ApiField)) (R := Bool) (fun z => [(0, .lit (.int .i64 v1)), (1, .lit (.int .i64 v2)), (2, .lit (.int .i64 v3)), (3, .lit (.int .i64 v4)), (4, .lit (.int .i64 v5)), (12, .mpt 0 0 0), (13, .lit (.int .i64 z.2))]) (fun z => [some (6, [[.lit (.string (B [65, 98])), .lit (.string (B [79, 98, 106, 101, 99, 116])), .lit (.bool false), .lit (.slice none 0 0), .msl 1 0 (List.length z.1), .lit (.slice none 0 0)]]), some (3, List.map rApiField z.1)]) (fun b => [(0, .lit (.int .i64 v1)), (1, .lit (.int .i64 v2)), (2, .lit (.int .i64 v3)), (3, .lit (.int .i64 v4)), (4, .lit (.int .i64 v5)), (12, .mpt 0 0 0)]) (fun b => [some (6, [[.lit (.string (B [65, 98])), .lit (.string (B [79, 98, 106, 101, 99, 116])), .lit (.bool false), .lit (.slice none 0 0), .msl 1 0 (List.length b), .lit (.slice none 0 0)]]), some (3, List.map rApiField b)]) (fun r env st => PostF Try.prog Try.f10 0 (.lit (.bool r)) [] env st) ho ⟨[.old 0, .fresh 3], ce rfl rfl <| ce rfl rfl <| ce rfl rfl <| ce rfl rfl <| ce rfl rfl <| cv rfl (.mpt rfl) <| ce rfl rfl <| cn, rfl, ⟨⟨_, rfl, rsOne ⟨ci rfl, ci rfl, ci rfl, ci rfl, .nilown rfl, ci rfl, trivial⟩⟩, ⟨rfl, rfl⟩, trivial⟩, rfl, Nat.le_of_ble_eq_true rfl⟩ ?_ ?_ ?_
      · rintro ⟨v10, v11⟩ r h
        replace h : law5_ClassLimits_l1 v1 v10 v11 = some r := h
        unfold law5_ClassLimits_l1 at h
        refine sw_seq ?_
        refine rg rfl <| u <| mv rfl <| u <| mv rfl <| u <| lss ti3 rfl rfl <| r_nil ?_
        refine sw_cond rfl (fun hc15 => ?_) (fun hc15 => ?_)
        · replace h := bT hc15 h
          refine sw_skip ?_
          refine sw_seq ?_
          refine sw_block ?_
          obtain ⟨v12, q16, h⟩ := bs h
          refine rl rfl <| u <| fa ti61 rfl rfl rfl <| u <| ld ti58 rfl rfl <| u <| mv rfl <| u <| add ti3 rfl rfl <| u <| cv8 ti3 ti5 rfl rfl rfl <| u <| bl 2 ti22 rfl ti5 rfl (by decide) (by decide) rfl rfl rfl <| u <| cvt (l := [(102 : UInt8), (tU8 (IntKind.i64.wrap (48 + v11)))]) ti22 ti9 rfl rfl ti5 rfl rfl (fun _ h => by cases h) (roX (f := byteRow) (z := [(102 : UInt8), (tU8 (IntKind.i64.wrap (48 + v11)))]) rfl rfl) <| u <| bd ti63 rfl rfl rfl <| u <| bl 3 ti58 rfl ti63 rfl (by decide) (by decide) rfl rfl rfl <| u <| apM 4 ti58 rfl ti63 rfl rfl (by decide) ti58 rfl rfl rfl rfl (roX (f := rApiField) (z := [(ApiField.mk [(102 : UInt8), (tU8 (IntKind.i64.wrap (48 + v11)))] [73] false)]) rfl rfl) (fun _ => rfl) rfl q16 <| u <| fa ti61 rfl rfl rfl <| u <| sto ti58 rfl rfl rfl <| r_nil ?_
          refine rl rfl <| u <| mv rfl <| u <| add ti3 rfl rfl <| u <| asg rfl <| r_nil ?_
          obtain rfl := sm h
          exact ⟨_, rfl, [.old 0, .old 4], ce rfl rfl <| ce rfl rfl <| ce rfl rfl <| ce rfl rfl <| ce rfl rfl <| cv rfl (.mpt rfl) <| ce rfl rfl <| cn, rfl, ⟨⟨_, rfl, rsOne ⟨ci rfl, ci rfl, ci rfl, ci rfl, .msl rfl, ci rfl, trivial⟩⟩, ⟨_, rfl, rsMap (fun _ => rfl)⟩, trivial⟩, rfl, Nat.le_of_ble_eq_true rfl⟩
        · replace h := bF hc15 h
          refine sw_exit ?_
          obtain rfl := sm h
          exact ⟨rfl, _, rfl, [.old 0, .old 1], ce rfl rfl <| ce rfl rfl <| ce rfl rfl <| ce rfl rfl <| ce rfl rfl <| cv rfl (.mpt rfl) <| cn, rfl, ⟨⟨_, rfl, rsOne ⟨ci rfl, ci rfl, ci rfl, ci rfl, .msl rfl, ci rfl, trivial⟩⟩, ⟨_, rfl, rsMap (fun _ => rfl)⟩, trivial⟩, rfl, Nat.le_of_ble_eq_true rfl⟩
      · rintro v13 rfl
        replace h : law5_ClassLimits_k2 v1 v2 v3 v4 v5 v13 = some r := h
        unfold law5_ClassLimits_k2 at h
        refine ow_intro ?_
        refine sw_seq ?_
        refine rg rfl <| u <| asg rfl <| r_nil ?_
        obtain ⟨o, ho, h⟩ := bs h
        refine sw_lpl (X := (List ApiMethod) × Int) (B := (List ApiMethod)) (R := Bool) (fun z => [(0, .lit (.int .i64 v1)), (1, .lit (.int .i64 v2)), (2, .lit (.int .i64 v3)), (3, .lit (.int .i64 v4)), (4, .lit (.int .i64 v5)), (12, .mpt 0 0 0), (14, .lit (.int .i64 z.2))]) (fun z => [some (6, [[.lit (.string (B [65, 98])), .lit (.string (B [79, 98, 106, 101, 99, 116])), .lit (.bool false), .lit (.slice none 0 0), .msl 1 0 (List.length v13), .msl 2 0 (List.length z.1)]]), some (3, List.map rApiField v13), some (10, List.map rApiMethod z.1)]) (fun b => [(0, .lit (.int .i64 v1)), (1, .lit (.int .i64 v2)), (2, .lit (.int .i64 v3)), (3, .lit (.int .i64 v4)), (4, .lit (.int .i64 v5)), (12, .mpt 0 0 0)]) (fun b => [some (6, [[.lit (.string (B [65, 98])), .lit (.string (B [79, 98, 106, 101, 99, 116])), .lit (.bool false), .lit (.slice none 0 0), .msl 1 0 (List.length v13), .msl 2 0 (List.length b)]]), some (3, List.map rApiField v13), some (10, List.map rApiMethod b)]) (fun r env st => PostF Try.prog Try.f10 0 (.lit (.bool r)) [] env st) ho ⟨[.old 0, .old 1, .fresh 10], ce rfl rfl <| ce rfl rfl <| ce rfl rfl <| ce rfl rfl <| ce rfl rfl <| cv rfl (.mpt rfl) <| ce rfl rfl <| cn, rfl, ⟨⟨_, rfl, rsOne ⟨ci rfl, ci rfl, ci rfl, ci rfl, .msl rfl, .nilown rfl, trivial⟩⟩, ⟨_, rfl, rsMap (fun _ => rfl)⟩, ⟨rfl, rfl⟩, trivial⟩, rfl, Nat.le_of_ble_eq_true rfl⟩ ?_ ?_ ?_
        · rintro ⟨v38, v39⟩ r h
          replace h : law5_ClassLimits_l15 v2 v3 v4 v5 v38 v39 = some r := h
          unfold law5_ClassLimits_l15 at h
          refine sw_seq ?_
          refine rg rfl <| u <| mv rfl <| u <| mv rfl <| u <| lss ti3 rfl rfl <| r_nil ?_
          refine sw_cond rfl (fun hc31 => ?_) (fun hc31 => ?_)
          · replace h := bT hc31 h
            refine sw_skip ?_
            refine sw_seq ?_
            refine sw_block ?_
            refine rg rfl <| u <| mv rfl <| u <| add ti3 rfl rfl <| u <| cv8 ti3 ti5 rfl rfl rfl <| u <| bl 3 ti22 rfl ti5 rfl (by decide) (by decide) rfl rfl rfl <| u <| cvt (l := [(109 : UInt8), (tU8 (IntKind.i64.wrap (48 + v39)))]) ti22 ti9 rfl rfl ti5 rfl rfl (fun _ h => by cases h) (roX (f := byteRow) (z := [(109 : UInt8), (tU8 (IntKind.i64.wrap (48 + v39)))]) rfl rfl) <| u <| mv rfl <| u <| bd ti67 rfl rfl rfl <| u <| al 4 ti67 rfl <| u <| sto ti67 rfl rfl rfl <| r_nil ?_
            refine sw_seq ?_
            refine rg rfl <| u <| asg rfl <| r_nil ?_
            obtain ⟨o, ho, h⟩ := bs h
            refine sw_lpl (X := (List (List UInt8)) × Int) (B := (List (List UInt8))) (R := Bool) (fun z => [(0, .lit (.int .i64 v1)), (1, .lit (.int .i64 v2)), (2, .lit (.int .i64 v3)), (3, .lit (.int .i64 v4)), (4, .lit (.int .i64 v5)), (12, .mpt 0 0 0), (14, .lit (.int .i64 v39)), (15, .mpt 3 0 0), (16, .lit (.int .i64 z.2))]) (fun z => [some (6, [[.lit (.string (B [65, 98])), .lit (.string (B [79, 98, 106, 101, 99, 116])), .lit (.bool false), .lit (.slice none 0 0), .msl 1 0 (List.length v13), .msl 2 0 (List.length v38)]]), some (3, List.map rApiField v13), some (10, List.map rApiMethod v38), some (10, [[.lit (.string (B [(109 : UInt8), (tU8 (IntKind.i64.wrap (48 + v39)))])), .msl 4 0 (List.length z.1), .lit (.string (B [86])), .lit (.bool true), .lit (.bool false), .lit (.int .i64 v3), .lit (.int .i64 0), .lit (.slice none 0 0), .lit (.slice none 0 0), .lit (.slice none 0 0)]]), some (1, List.map rStr z.1)]) (fun b => [(0, .lit (.int .i64 v1)), (1, .lit (.int .i64 v2)), (2, .lit (.int .i64 v3)), (3, .lit (.int .i64 v4)), (4, .lit (.int .i64 v5)), (12, .mpt 0 0 0), (14, .lit (.int .i64 v39)), (15, .mpt 3 0 0)]) (fun b => [some (6, [[.lit (.string (B [65, 98])), .lit (.string (B [79, 98, 106, 101, 99, 116])), .lit (.bool false), .lit (.slice none 0 0), .msl 1 0 (List.length v13), .msl 2 0 (List.length v38)]]), some (3, List.map rApiField v13), some (10, List.map rApiMethod v38), some (10, [[.lit (.string (B [(109 : UInt8), (tU8 (IntKind.i64.wrap (48 + v39)))])), .msl 4 0 (List.length b), .lit (.string (B [86])), .lit (.bool true), .lit (.bool false), .lit (.int .i64 v3), .lit (.int .i64 0), .lit (.slice none 0 0), .lit (.slice none 0 0), .lit (.slice none 0 0)]]), some (1, List.map rStr b)]) (fun r env st => PostF Try.prog Try.f10 0 (.lit (.bool r)) [] env st) ho ⟨[.old 0, .old 1, .old 2, .old 4, .fresh 1], ce rfl rfl <| ce rfl rfl <| ce rfl rfl <| ce rfl rfl <| ce rfl rfl <| cv rfl (.mpt rfl) <| ce rfl rfl <| cv rfl (.mpt rfl) <| ce rfl rfl <| cn, rfl, ⟨⟨_, rfl, rsOne ⟨ci rfl, ci rfl, ci rfl, ci rfl, .msl rfl, .msl rfl, trivial⟩⟩, ⟨_, rfl, rsMap (fun _ => rfl)⟩, ⟨_, rfl, rsMap (fun _ => rfl)⟩, ⟨_, rfl, rsOne ⟨ci rfl, .nilown rfl, ci rfl, ci rfl, ci rfl, ci rfl, ci rfl, ci rfl, ci rfl, ci rfl, trivial⟩⟩, ⟨rfl, rfl⟩, trivial⟩, rfl, Nat.le_of_ble_eq_true rfl⟩ ?_ ?_ ?_
            · rintro ⟨v43, v44⟩ r h
              replace h : law5_ClassLimits_l9 v3 v43 v44 = some r := h
              unfold law5_ClassLimits_l9 at h
              refine sw_seq ?_
              refine rg rfl <| u <| mv rfl <| u <| mv rfl <| u <| lss ti3 rfl rfl <| r_nil ?_
              refine sw_cond rfl (fun hc34 => ?_) (fun hc34 => ?_)
              · replace h := bT hc34 h
                refine sw_skip ?_
                refine sw_seq ?_
                refine sw_block ?_
                obtain ⟨v45, q35, h⟩ := bs h
                refine rl rfl <| u <| fa ti67 rfl rfl rfl <| u <| ld ti57 rfl rfl <| u <| bl 5 ti57 rfl ti9 rfl (by decide) (by decide) rfl rfl rfl <| u <| apM 6 ti57 rfl ti9 rfl rfl (by decide) ti57 rfl rfl rfl rfl (roX (f := rStr) (z := [[73]]) rfl rfl) (fun _ => rfl) rfl q35 <| u <| fa ti67 rfl rfl rfl <| u <| sto ti57 rfl rfl rfl <| r_nil ?_
                refine rl rfl <| u <| mv rfl <| u <| add ti3 rfl rfl <| u <| asg rfl <| r_nil ?_
                obtain rfl := sm h
                exact ⟨_, rfl, [.old 0, .old 1, .old 2, .old 3, .old 6], ce rfl rfl <| ce rfl rfl <| ce rfl rfl <| ce rfl rfl <| ce rfl rfl <| cv rfl (.mpt rfl) <| ce rfl rfl <| cv rfl (.mpt rfl) <| ce rfl rfl <| cn, rfl, ⟨⟨_, rfl, rsOne ⟨ci rfl, ci rfl, ci rfl, ci rfl, .msl rfl, .msl rfl, trivial⟩⟩, ⟨_, rfl, rsMap (fun _ => rfl)⟩, ⟨_, rfl, rsMap (fun _ => rfl)⟩, ⟨_, rfl, rsOne ⟨ci rfl, .msl rfl, ci rfl, ci rfl, ci rfl, ci rfl, ci rfl, ci rfl, ci rfl, ci rfl, trivial⟩⟩, ⟨_, rfl, rsMap (fun _ => rfl)⟩, trivial⟩, rfl, Nat.le_of_ble_eq_true rfl⟩
              · replace h := bF hc34 h
                refine sw_exit ?_
                obtain rfl := sm h
                exact ⟨rfl, _, rfl, [.old 0, .old 1, .old 2, .old 3, .old 4], ce rfl rfl <| ce rfl rfl <| ce rfl rfl <| ce rfl rfl <| ce rfl rfl <| cv rfl (.mpt rfl) <| ce rfl rfl <| cv rfl (.mpt rfl) <| cn, rfl, ⟨⟨_, rfl, rsOne ⟨ci rfl, ci rfl, ci rfl, ci rfl, .msl rfl, .msl rfl, trivial⟩⟩, ⟨_, rfl, rsMap (fun _ => rfl)⟩, ⟨_, rfl, rsMap (fun _ => rfl)⟩, ⟨_, rfl, rsOne ⟨ci rfl, .msl rfl, ci rfl, ci rfl, ci rfl, ci rfl, ci rfl, ci rfl, ci rfl, ci rfl, trivial⟩⟩, ⟨_, rfl, rsMap (fun _ => rfl)⟩, trivial⟩, rfl, Nat.le_of_ble_eq_true rfl⟩
            · rintro v46 rfl
              replace h : law5_ClassLimits_k10 v3 v4 v5 v38 v39 v46 = some r := h
              unfold law5_ClassLimits_k10 at h
              refine ow_intro ?_
              refine sw_seq ?_
              refine rg rfl <| u <| asg rfl <| r_nil ?_
              obtain ⟨o, ho, h⟩ := bs h
              refine sw_lpl (X := (List ApiIns) × Int) (B := (List ApiIns)) (R := Bool) (fun z => [(0, .lit (.int .i64 v1)), (1, .lit (.int .i64 v2)), (2, .lit (.int .i64 v3)), (3, .lit (.int .i64 v4)), (4, .lit (.int .i64 v5)), (12, .mpt 0 0 0), (14, .lit (.int .i64 v39)), (15, .mpt 3 0 0), (17, .lit (.int .i64 z.2))]) (fun z => [some (6, [[.lit (.string (B [65, 98])), .lit (.string (B [79, 98, 106, 101, 99, 116])), .lit (.bool false), .lit (.slice none 0 0), .msl 1 0 (List.length v13), .msl 2 0 (List.length v38)]]), some (3, List.map rApiField v13), some (10, List.map rApiMethod v38), some (10, [[.lit (.string (B [(109 : UInt8), (tU8 (IntKind.i64.wrap (48 + v39)))])), .msl 4 0 (List.length v46), .lit (.string (B [86])), .lit (.bool true), .lit (.bool false), .lit (.int .i64 v3), .lit (.int .i64 0), .msl 5 0 (List.length z.1), .lit (.slice none 0 0), .lit (.slice none 0 0)]]), some (1, List.map rStr v46), some (4, List.map rApiIns z.1)]) (fun b => [(0, .lit (.int .i64 v1)), (1, .lit (.int .i64 v2)), (2, .lit (.int .i64 v3)), (3, .lit (.int .i64 v4)), (4, .lit (.int .i64 v5)), (12, .mpt 0 0 0), (14, .lit (.int .i64 v39)), (15, .mpt 3 0 0)]) (fun b => [some (6, [[.lit (.string (B [65, 98])), .lit (.string (B [79, 98, 106, 101, 99, 116])), .lit (.bool false), .lit (.slice none 0 0), .msl 1 0 (List.length v13), .msl 2 0 (List.length v38)]]), some (3, List.map rApiField v13), some (10, List.map rApiMethod v38), some (10, [[.lit (.string (B [(109 : UInt8), (tU8 (IntKind.i64.wrap (48 + v39)))])), .msl 4 0 (List.length v46), .lit (.string (B [86])), .lit (.bool true), .lit (.bool false), .lit (.int .i64 v3), .lit (.int .i64 0), .msl 5 0 (List.length b), .lit (.slice none 0 0), .lit (.slice none 0 0)]]), some (1, List.map rStr v46), some (4, List.map rApiIns b)]) (fun r env st => PostF Try.prog Try.f10 0 (.lit (.bool r)) [] env st) ho ⟨[.old 0, .old 1, .old 2, .old 3, .old 4, .fresh 4], ce rfl rfl <| ce rfl rfl <| ce rfl rfl <| ce rfl rfl <| ce rfl rfl <| cv rfl (.mpt rfl) <| ce rfl rfl <| cv rfl (.mpt rfl) <| ce rfl rfl <| cn, rfl, ⟨⟨_, rfl, rsOne ⟨ci rfl, ci rfl, ci rfl, ci rfl, .msl rfl, .msl rfl, trivial⟩⟩, ⟨_, rfl, rsMap (fun _ => rfl)⟩, ⟨_, rfl, rsMap (fun _ => rfl)⟩, ⟨_, rfl, rsOne ⟨ci rfl, .msl rfl, ci rfl, ci rfl, ci rfl, ci rfl, ci rfl, .nilown rfl, ci rfl, ci rfl, trivial⟩⟩, ⟨_, rfl, rsMap (fun _ => rfl)⟩, ⟨rfl, rfl⟩, trivial⟩, rfl, Nat.le_of_ble_eq_true rfl⟩ ?_ ?_ ?_
              · rintro ⟨v50, v51⟩ r h
                replace h : law5_ClassLimits_l11 v4 v50 v51 = some r := h
                unfold law5_ClassLimits_l11 at h
                refine sw_seq ?_
                refine rg rfl <| u <| mv rfl <| u <| mv rfl <| u <| lss ti3 rfl rfl <| r_nil ?_
                refine sw_cond rfl (fun hc38 => ?_) (fun hc38 => ?_)
                · replace h := bT hc38 h
                  refine sw_skip ?_
                  refine sw_seq ?_
                  refine sw_block ?_
                  obtain ⟨v52, q39, h⟩ := bs h
                  refine rl rfl <| u <| fa ti67 rfl rfl rfl <| u <| ld ti55 rfl rfl <| u <| bd ti44 rfl rfl rfl <| u <| bl 6 ti55 rfl ti44 rfl (by decide) (by decide) rfl rfl rfl <| u <| apM 7 ti55 rfl ti44 rfl rfl (by decide) ti55 rfl rfl rfl rfl (roX (f := rApiIns) (z := [(ApiIns.mk 46 0 [] [])]) rfl rfl) (fun _ => rfl) rfl q39 <| u <| fa ti67 rfl rfl rfl <| u <| sto ti55 rfl rfl rfl <| r_nil ?_
                  refine rl rfl <| u <| mv rfl <| u <| add ti3 rfl rfl <| u <| asg rfl <| r_nil ?_
                  obtain rfl := sm h
                  exact ⟨_, rfl, [.old 0, .old 1, .old 2, .old 3, .old 4, .old 7], ce rfl rfl <| ce rfl rfl <| ce rfl rfl <| ce rfl rfl <| ce rfl rfl <| cv rfl (.mpt rfl) <| ce rfl rfl <| cv rfl (.mpt rfl) <| ce rfl rfl <| cn, rfl, ⟨⟨_, rfl, rsOne ⟨ci rfl, ci rfl, ci rfl, ci rfl, .msl rfl, .msl rfl, trivial⟩⟩, ⟨_, rfl, rsMap (fun _ => rfl)⟩, ⟨_, rfl, rsMap (fun _ => rfl)⟩, ⟨_, rfl, rsOne ⟨ci rfl, .msl rfl, ci rfl, ci rfl, ci rfl, ci rfl, ci rfl, .msl rfl, ci rfl, ci rfl, trivial⟩⟩, ⟨_, rfl, rsMap (fun _ => rfl)⟩, ⟨_, rfl, rsMap (fun _ => rfl)⟩, trivial⟩, rfl, Nat.le_of_ble_eq_true rfl⟩
                · replace h := bF hc38 h
                  refine sw_exit ?_
                  obtain rfl := sm h
                  exact ⟨rfl, _, rfl, [.old 0, .old 1, .old 2, .old 3, .old 4, .old 5], ce rfl rfl <| ce rfl rfl <| ce rfl rfl <| ce rfl rfl <| ce rfl rfl <| cv rfl (.mpt rfl) <| ce rfl rfl <| cv rfl (.mpt rfl) <| cn, rfl, ⟨⟨_, rfl, rsOne ⟨ci rfl, ci rfl, ci rfl, ci rfl, .msl rfl, .msl rfl, trivial⟩⟩, ⟨_, rfl, rsMap (fun _ => rfl)⟩, ⟨_, rfl, rsMap (fun _ => rfl)⟩, ⟨_, rfl, rsOne ⟨ci rfl, .msl rfl, ci rfl, ci rfl, ci rfl, ci rfl, ci rfl, .msl rfl, ci rfl, ci rfl, trivial⟩⟩, ⟨_, rfl, rsMap (fun _ => rfl)⟩, ⟨_, rfl, rsMap (fun _ => rfl)⟩, trivial⟩, rfl, Nat.le_of_ble_eq_true rfl⟩
              · rintro v53 rfl
                replace h : law5_ClassLimits_k12 v3 v5 v38 v39 v46 v53 = some r := h
                unfold law5_ClassLimits_k12 at h
                refine ow_intro ?_
                refine sw_seq ?_
                refine rg rfl <| u <| asg rfl <| r_nil ?_
                obtain ⟨o, ho, h⟩ := bs h
                refine sw_lpl (X := (List ApiTrap) × Int) (B := (List ApiTrap)) (R := Bool) (fun z => [(0, .lit (.int .i64 v1)), (1, .lit (.int .i64 v2)), (2, .lit (.int .i64 v3)), (3, .lit (.int .i64 v4)), (4, .lit (.int .i64 v5)), (12, .mpt 0 0 0), (14, .lit (.int .i64 v39)), (15, .mpt 3 0 0), (18, .lit (.int .i64 z.2))]) (fun z => [some (6, [[.lit (.string (B [65, 98])), .lit (.string (B [79, 98, 106, 101, 99, 116])), .lit (.bool false), .lit (.slice none 0 0), .msl 1 0 (List.length v13), .msl 2 0 (List.length v38)]]), some (3, List.map rApiField v13), some (10, List.map rApiMethod v38), some (10, [[.lit (.string (B [(109 : UInt8), (tU8 (IntKind.i64.wrap (48 + v39)))])), .msl 4 0 (List.length v46), .lit (.string (B [86])), .lit (.bool true), .lit (.bool false), .lit (.int .i64 v3), .lit (.int .i64 0), .msl 5 0 (List.length v53), .lit (.slice none 0 0), .msl 6 0 (List.length z.1)]]), some (1, List.map rStr v46), some (4, List.map rApiIns v53), some (4, List.map rApiTrap z.1)]) (fun b => [(0, .lit (.int .i64 v1)), (1, .lit (.int .i64 v2)), (2, .lit (.int .i64 v3)), (3, .lit (.int .i64 v4)), (4, .lit (.int .i64 v5)), (12, .mpt 0 0 0), (14, .lit (.int .i64 v39)), (15, .mpt 3 0 0)]) (fun b => [some (6, [[.lit (.string (B [65, 98])), .lit (.string (B [79, 98, 106, 101, 99, 116])), .lit (.bool false), .lit (.slice none 0 0), .msl 1 0 (List.length v13), .msl 2 0 (List.length v38)]]), some (3, List.map rApiField v13), some (10, List.map rApiMethod v38), some (10, [[.lit (.string (B [(109 : UInt8), (tU8 (IntKind.i64.wrap (48 + v39)))])), .msl 4 0 (List.length v46), .lit (.string (B [86])), .lit (.bool true), .lit (.bool false), .lit (.int .i64 v3), .lit (.int .i64 0), .msl 5 0 (List.length v53), .lit (.slice none 0 0), .msl 6 0 (List.length b)]]), some (1, List.map rStr v46), some (4, List.map rApiIns v53), some (4, List.map rApiTrap b)]) (fun r env st => PostF Try.prog Try.f10 0 (.lit (.bool r)) [] env st) ho ⟨[.old 0, .old 1, .old 2, .old 3, .old 4, .old 5, .fresh 4], ce rfl rfl <| ce rfl rfl <| ce rfl rfl <| ce rfl rfl <| ce rfl rfl <| cv rfl (.mpt rfl) <| ce rfl rfl <| cv rfl (.mpt rfl) <| ce rfl rfl <| cn, rfl, ⟨⟨_, rfl, rsOne ⟨ci rfl, ci rfl, ci rfl, ci rfl, .msl rfl, .msl rfl, trivial⟩⟩, ⟨_, rfl, rsMap (fun _ => rfl)⟩, ⟨_, rfl, rsMap (fun _ => rfl)⟩, ⟨_, rfl, rsOne ⟨ci rfl, .msl rfl, ci rfl, ci rfl, ci rfl, ci rfl, ci rfl, .msl rfl, ci rfl, .nilown rfl, trivial⟩⟩, ⟨_, rfl, rsMap (fun _ => rfl)⟩, ⟨_, rfl, rsMap (fun _ => rfl)⟩, ⟨rfl, rfl⟩, trivial⟩, rfl, Nat.le_of_ble_eq_true rfl⟩ ?_ ?_ ?_
                · rintro ⟨v57, v58⟩ r h
                  replace h : law5_ClassLimits_l13 v5 v57 v58 = some r := h
                  unfold law5_ClassLimits_l13 at h
                  refine sw_seq ?_
                  refine rg rfl <| u <| mv rfl <| u <| mv rfl <| u <| lss ti3 rfl rfl <| r_nil ?_
                  refine sw_cond rfl (fun hc42 => ?_) (fun hc42 => ?_)
                  · replace h := bT hc42 h
                    refine sw_skip ?_
                    refine sw_seq ?_
                    refine sw_block ?_
                    obtain ⟨v59, q43, h⟩ := bs h
                    refine rl rfl <| u <| fa ti67 rfl rfl rfl <| u <| ld ti65 rfl rfl <| u <| bd ti69 rfl rfl rfl <| u <| bl 7 ti65 rfl ti69 rfl (by decide) (by decide) rfl rfl rfl <| u <| apM 8 ti65 rfl ti69 rfl rfl (by decide) ti65 rfl rfl rfl rfl (roX (f := rApiTrap) (z := [(ApiTrap.mk 0 1 0 [])]) rfl rfl) (fun _ => rfl) rfl q43 <| u <| fa ti67 rfl rfl rfl <| u <| sto ti65 rfl rfl rfl <| r_nil ?_
                    refine rl rfl <| u <| mv rfl <| u <| add ti3 rfl rfl <| u <| asg rfl <| r_nil ?_
                    obtain rfl := sm h
                    exact ⟨_, rfl, [.old 0, .old 1, .old 2, .old 3, .old 4, .old 5, .old 8], ce rfl rfl <| ce rfl rfl <| ce rfl rfl <| ce rfl rfl <| ce rfl rfl <| cv rfl (.mpt rfl) <| ce rfl rfl <| cv rfl (.mpt rfl) <| ce rfl rfl <| cn, rfl, ⟨⟨_, rfl, rsOne ⟨ci rfl, ci rfl, ci rfl, ci rfl, .msl rfl, .msl rfl, trivial⟩⟩, ⟨_, rfl, rsMap (fun _ => rfl)⟩, ⟨_, rfl, rsMap (fun _ => rfl)⟩, ⟨_, rfl, rsOne ⟨ci rfl, .msl rfl, ci rfl, ci rfl, ci rfl, ci rfl, ci rfl, .msl rfl, ci rfl, .msl rfl, trivial⟩⟩, ⟨_, rfl, rsMap (fun _ => rfl)⟩, ⟨_, rfl, rsMap (fun _ => rfl)⟩, ⟨_, rfl, rsMap (fun _ => rfl)⟩, trivial⟩, rfl, Nat.le_of_ble_eq_true rfl⟩
                  · replace h := bF hc42 h
                    refine sw_exit ?_
                    obtain rfl := sm h
                    exact ⟨rfl, _, rfl, [.old 0, .old 1, .old 2, .old 3, .old 4, .old 5, .old 6], ce rfl rfl <| ce rfl rfl <| ce rfl rfl <| ce rfl rfl <| ce rfl rfl <| cv rfl (.mpt rfl) <| ce rfl rfl <| cv rfl (.mpt rfl) <| cn, rfl, ⟨⟨_, rfl, rsOne ⟨ci rfl, ci rfl, ci rfl, ci rfl, .msl rfl, .msl rfl, trivial⟩⟩, ⟨_, rfl, rsMap (fun _ => rfl)⟩, ⟨_, rfl, rsMap (fun _ => rfl)⟩, ⟨_, rfl, rsOne ⟨ci rfl, .msl rfl, ci rfl, ci rfl, ci rfl, ci rfl, ci rfl, .msl rfl, ci rfl, .msl rfl, trivial⟩⟩, ⟨_, rfl, rsMap (fun _ => rfl)⟩, ⟨_, rfl, rsMap (fun _ => rfl)⟩, ⟨_, rfl, rsMap (fun _ => rfl)⟩, trivial⟩, rfl, Nat.le_of_ble_eq_true rfl⟩
                · rintro v60 rfl
                  replace h : law5_ClassLimits_k14 v3 v38 v39 v46 v53 v60 = some r := h
                  unfold law5_ClassLimits_k14 at h
                  refine ow_intro ?_
                  obtain ⟨v61, q44, h⟩ := bs h
                  refine rl rfl <| u <| fa ti61 rfl rfl rfl <| u <| ld ti59 rfl rfl <| u <| ld ti67 rfl rfl <| u <| bl 7 ti59 rfl ti67 rfl (by decide) (by decide) rfl rfl rfl <| r_can (env0 := [(0, .lit (.int .i64 v1)), (1, .lit (.int .i64 v2)), (2, .lit (.int .i64 v3)), (3, .lit (.int .i64 v4)), (4, .lit (.int .i64 v5)), (12, .mpt 0 0 0), (14, .lit (.int .i64 v39)), (123, .msl 2 0 (List.length v38)), (125, .msl 3 0 (List.length ([(ApiMethod.mk [(109 : UInt8), (tU8 (IntKind.i64.wrap (48 + v39)))] v46 [86] true false v3 0 v53 [] v60)])))]) (st0 := [some (6, [[.lit (.string (B [65, 98])), .lit (.string (B [79, 98, 106, 101, 99, 116])), .lit (.bool false), .lit (.slice none 0 0), .msl 1 0 (List.length v13), .msl 2 0 (List.length v38)]]), some (3, List.map rApiField v13), some (10, List.map rApiMethod v38), some (10, List.map rApiMethod ([(ApiMethod.mk [(109 : UInt8), (tU8 (IntKind.i64.wrap (48 + v39)))] v46 [86] true false v3 0 v53 [] v60)]))]) ⟨[.old 0, .old 1, .old 2, .old 7], ce rfl rfl <| ce rfl rfl <| ce rfl rfl <| ce rfl rfl <| ce rfl rfl <| cv rfl (.mpt rfl) <| ce rfl rfl <| cv rfl (.msl rfl) <| cv rfl (.msl rfl) <| cn, rfl, ⟨⟨_, rfl, rsOne ⟨ci rfl, ci rfl, ci rfl, ci rfl, .msl rfl, .msl rfl, trivial⟩⟩, ⟨_, rfl, rsMap (fun _ => rfl)⟩, ⟨_, rfl, rsMap (fun _ => rfl)⟩, ⟨_, rfl, rsRows ⟨⟨(ci rfl), (rsSeal rfl rfl (fun _ => rfl)), (ci rfl), (ci rfl), (ci rfl), (ci rfl), (ci rfl), (rsSeal rfl rfl (fun _ => rfl)), (.nil), (rsSeal rfl rfl (fun _ => rfl)), trivial⟩, trivial⟩⟩, trivial⟩, rfl, Nat.le_of_ble_eq_true rfl⟩ <| u <| apM 4 ti59 rfl ti67 rfl rfl (by decide) ti59 rfl rfl rfl rfl (roM rfl) (fun _ => rfl) rfl q44 <| u <| fa ti61 rfl rfl rfl <| u <| sto ti59 rfl rfl rfl <| r_nil ?_
                  refine rl rfl <| u <| mv rfl <| u <| add ti3 rfl rfl <| u <| asg rfl <| r_nil ?_
                  obtain rfl := sm h
                  exact ⟨_, rfl, [.old 0, .old 1, .old 4], ce rfl rfl <| ce rfl rfl <| ce rfl rfl <| ce rfl rfl <| ce rfl rfl <| cv rfl (.mpt rfl) <| ce rfl rfl <| cn, rfl, ⟨⟨_, rfl, rsOne ⟨ci rfl, ci rfl, ci rfl, ci rfl, .msl rfl, .msl rfl, trivial⟩⟩, ⟨_, rfl, rsMap (fun _ => rfl)⟩, ⟨_, rfl, rsMap (fun _ => rfl)⟩, trivial⟩, rfl, Nat.le_of_ble_eq_true rfl⟩
                · rintro r' rfl env st hp
                  obtain rfl := sm h
                  exact ⟨_, rfl, hp⟩
              · rintro r' rfl env st hp
                obtain rfl := sm h
                exact ⟨_, rfl, hp⟩
            · rintro r' rfl env st hp
              obtain rfl := sm h
              exact ⟨_, rfl, hp⟩
          · replace h := bF hc31 h
            refine sw_exit ?_
            obtain rfl := sm h
            exact ⟨rfl, _, rfl, [.old 0, .old 1, .old 2], ce rfl rfl <| ce rfl rfl <| ce rfl rfl <| ce rfl rfl <| ce rfl rfl <| cv rfl (.mpt rfl) <| cn, rfl, ⟨⟨_, rfl, rsOne ⟨ci rfl, ci rfl, ci rfl, ci rfl, .msl rfl, .msl rfl, trivial⟩⟩, ⟨_, rfl, rsMap (fun _ => rfl)⟩, ⟨_, rfl, rsMap (fun _ => rfl)⟩, trivial⟩, rfl, Nat.le_of_ble_eq_true rfl⟩
        · rintro v62 rfl
          replace h : law5_ClassLimits_k16 v1 v2 v3 v4 v5 v13 v62 = some r := h
          unfold law5_ClassLimits_k16 at h
          refine ow_intro ?_
          refine rg rfl <| u <| mv rfl <| u <| leq ti3 rfl rfl <| u <| mv rfl <| r_and (x := ((decide (v1 ≤ 8)) && (decide (v2 ≤ 8)))) (j := 2) 2 rfl rfl rfl rfl rfl gpn (fun hb45 => g rfl hb45 <| mv rfl <| g rfl hb45 <| leq ti3 rfl rfl <| r_nil (egA [131, 132] 2 hb45 rfl rfl rfl rfl)) andF <| u <| mv rfl <| r_and (x := (((decide (v1 ≤ 8)) && (decide (v2 ≤ 8))) && ((v2 == (0 : Int)) || (((decide (v3 ≤ 6)) && (decide (v4 ≤ 100))) && (decide (v5 ≤ 6)))))) (j := 6) 14 rfl rfl rfl rfl rfl gpn (fun hb46 => g rfl hb46 <| mv rfl <| g rfl hb46 <| eql ti3 rfl rfl <| g rfl hb46 <| mv rfl <| r_or (x := ((v2 == (0 : Int)) || (((decide (v3 ≤ 6)) && (decide (v4 ≤ 100))) && (decide (v5 ≤ 6))))) (j := 9) 10 rfl rfl rfl rfl rfl (gps rfl rfl hb46) (fun hb47 => g rfl hb47 <| mv rfl <| g rfl hb47 <| leq ti3 rfl rfl <| g rfl hb47 <| mv rfl <| r_and (x := ((decide (v3 ≤ 6)) && (decide (v4 ≤ 100)))) (j := 12) 2 rfl rfl rfl rfl rfl (gps rfl rfl hb47) (fun hb48 => g rfl hb48 <| mv rfl <| g rfl hb48 <| leq ti3 rfl rfl <| r_nil (egA [141, 142] 2 hb48 rfl rfl rfl rfl)) andF <| g rfl hb47 <| mv rfl <| r_and (x := (((decide (v3 ≤ 6)) && (decide (v4 ≤ 100))) && (decide (v5 ≤ 6)))) (j := 16) 2 rfl rfl rfl rfl rfl (gps rfl rfl hb47) (fun hb49 => g rfl hb49 <| mv rfl <| g rfl hb49 <| leq ti3 rfl rfl <| r_nil (egA [145, 146] 2 hb49 rfl rfl rfl rfl)) andF <| r_nil (egO [138, 139, 140, 141, 142, 143, 144, 145, 146, 147] 6 hb47 rfl rfl rfl rfl)) orT <| r_nil (egA [135, 136, 137, 138, 139, 140, 141, 142, 143, 144, 145, 146, 147, 148] 4 hb46 rfl rfl rfl rfl)) andF <| u <| asg rfl <| r_nil ?_
          obtain ⟨v63, q50, h⟩ := bs h
          refine rg rfl <| u <| ld ti61 rfl rfl <| u <| pcs (class_May_ok (ApiClass.mk [65, 98] [79, 98, 106, 101, 99, 116] false [] v13 v62) q50) rfl rfl (.cons (sealAgg ⟨(si rfl), (si rfl), (si rfl), (.nil), (sealM rfl (fun _ => rfl)), (sealM rfl (fun _ => rfl)), trivial⟩) .nil) plainB <| u <| mv rfl <| u <| beq ti4 rfl rfl rfl <| u <| asg rfl <| r_nil ?_
          refine sw_ret ?_
          obtain rfl := sm h
          exact ⟨_, rfl, [], ci rfl, rfl, trivial, rfl, Nat.le_of_ble_eq_true rfl⟩
        · rintro r' rfl env st hp
          obtain rfl := sm h
          exact hp
      · rintro r' rfl env st hp
        obtain rfl := sm h
        exact hp

noncomputable def law5_ClassNames (v1 : List UInt8) (v2 : List UInt8) (v3 : List UInt8) : Option (Bool) :=
  (law5_begun).bind fun v4 => cond (!v4) (some false) ((cond (((decide (10 < (List.length v1 : Int))) || (decide (10 < (List.length v2 : Int)))) || (decide (10 < (List.length v3 : Int)))) (some true) ((ref3_Name v1).bind fun v5 => some (!v5))).bind fun v6 => (cond v6 (some true) ((ref3_Name v2).bind fun v7 => some (!v7))).bind fun v8 => (cond v8 (some true) ((ref3_Name v3).bind fun v9 => some (!v9))).bind fun v10 => cond (((v10 || (v1 == [36, 105, 110, 105, 116])) || (v2 == [36, 105, 110, 105, 116])) || (v3 == [36, 105, 110, 105, 116])) (some true) ((class_May (ApiClass.mk [65, 98] [79, 98, 106, 101, 99, 116] false [] ([(ApiField.mk v1 [73] false), (ApiField.mk v2 [73] false)]) ([(ApiMethod.mk v3 [] [86] true false 0 0 ([(ApiIns.mk 46 0 [] [])]) [] []), (ApiMethod.mk v1 [] [86] true false 0 0 ([(ApiIns.mk 46 0 [] [])]) [] [])]))).bind fun v11 => (cond (v11 == ((!(v1 == v2)) && (!(v3 == v1)))) ((class_Field (ApiClass.mk [65, 98] [79, 98, 106, 101, 99, 116] false [] ([(ApiField.mk v1 [73] false), (ApiField.mk v2 [73] false)]) ([(ApiMethod.mk v3 [] [86] true false 0 0 ([(ApiIns.mk 46 0 [] [])]) [] []), (ApiMethod.mk v1 [] [86] true false 0 0 ([(ApiIns.mk 46 0 [] [])]) [] [])])) v1).bind fun v12 => some (v12 == (0 : Int))) (some false)).bind fun v13 => (cond v13 ((class_Field (ApiClass.mk [65, 98] [79, 98, 106, 101, 99, 116] false [] ([(ApiField.mk v1 [73] false), (ApiField.mk v2 [73] false)]) ([(ApiMethod.mk v3 [] [86] true false 0 0 ([(ApiIns.mk 46 0 [] [])]) [] []), (ApiMethod.mk v1 [] [86] true false 0 0 ([(ApiIns.mk 46 0 [] [])]) [] [])])) v2).bind fun v14 => some ((v14 == (1 : Int)) == (!(v1 == v2)))) (some false)).bind fun v15 => (cond v15 ((class_Method (ApiClass.mk [65, 98] [79, 98, 106, 101, 99, 116] false [] ([(ApiField.mk v1 [73] false), (ApiField.mk v2 [73] false)]) ([(ApiMethod.mk v3 [] [86] true false 0 0 ([(ApiIns.mk 46 0 [] [])]) [] []), (ApiMethod.mk v1 [] [86] true false 0 0 ([(ApiIns.mk 46 0 [] [])]) [] [])])) v3).bind fun v16 => some (v16 == (0 : Int))) (some false)).bind fun v17 => some v17))
theorem law5_ClassNames_ok (v1 : List UInt8) (v2 : List UInt8) (v3 : List UInt8) {r : Bool} (h : law5_ClassNames v1 v2 v3 = some r) : PureC Try.prog 11 [.lit (.string (B v1)), .lit (.string (B v2)), .lit (.string (B v3))] (.lit (.bool r)) := by
  refine pure_fn Try.func11 rfl (by kernel_rfl) rfl rfl ?_
  unfold law5_ClassNames at h
  refine rg rfl <| u <| asg rfl <| r_nil ?_
  obtain ⟨v4, q1, h⟩ := bs h
  refine rg rfl <| u <| pc (law5_begun_ok q1) rfl rfl rfl <| u <| asg rfl <| r_nil ?_
  refine sw_seq ?_
  refine rg rfl <| u <| mv rfl <| u <| nt rfl <| r_nil ?_
  refine sw_cond rfl (fun hc2 => ?_) (fun hc2 => ?_)
  · replace h := bT hc2 h
    refine rg rfl <| u <| asg rfl <| r_nil ?_
    refine sw_ret ?_
    obtain rfl := sm h
    exact ⟨_, rfl, [], ci rfl, rfl, trivial, rfl, Nat.le_of_ble_eq_true rfl⟩
  · replace h := bF hc2 h
    refine sw_skip ?_
    refine sw_seq ?_
    obtain ⟨v6, q7, h⟩ := bs h
    obtain ⟨v8, q10, h⟩ := bs h
    obtain ⟨v10, q13, h⟩ := bs h
    refine rg rfl <| u <| mv rfl <| u <| lnS ti9 rfl rfl <| u <| gtr ti3 rfl rfl <| u <| mv rfl <| r_or (x := ((decide (10 < (List.length v1 : Int))) || (decide (10 < (List.length v2 : Int))))) (j := 3) 3 rfl rfl rfl rfl rfl gpn (fun hb3 => g rfl hb3 <| mv rfl <| g rfl hb3 <| lnS ti9 rfl rfl <| g rfl hb3 <| gtr ti3 rfl rfl <| r_nil (egO [18, 19, 20] 3 hb3 rfl rfl rfl rfl)) orT <| u <| mv rfl <| r_or (x := (((decide (10 < (List.length v1 : Int))) || (decide (10 < (List.length v2 : Int)))) || (decide (10 < (List.length v3 : Int))))) (j := 8) 3 rfl rfl rfl rfl rfl gpn (fun hb4 => g rfl hb4 <| mv rfl <| g rfl hb4 <| lnS ti9 rfl rfl <| g rfl hb4 <| gtr ti3 rfl rfl <| r_nil (egO [23, 24, 25] 3 hb4 rfl rfl rfl rfl)) orT <| u <| mv rfl <| r_or (x := v6) (j := 13) 3 rfl rfl rfl rfl rfl gpn (fun hb5 => by replace q7 := bF hb5 q7; obtain ⟨v5, q6, q7⟩ := bs q7; obtain rfl := sm q7; exact g rfl hb5 <| mv rfl <| g rfl hb5 <| pc (ref3_Name_ok v1 q6) rfl rfl rfl <| g rfl hb5 <| nt rfl <| r_nil (eg [28, 29, 30] 3 rfl rfl rfl rfl)) (fun hb => (sm (bT hb q7)).symm) <| u <| mv rfl <| r_or (x := v8) (j := 18) 3 rfl rfl rfl rfl rfl gpn (fun hb8 => by replace q10 := bF hb8 q10; obtain ⟨v7, q9, q10⟩ := bs q10; obtain rfl := sm q10; exact g rfl hb8 <| mv rfl <| g rfl hb8 <| pc (ref3_Name_ok v2 q9) rfl rfl rfl <| g rfl hb8 <| nt rfl <| r_nil (eg [33, 34, 35] 3 rfl rfl rfl rfl)) (fun hb => (sm (bT hb q10)).symm) <| u <| mv rfl <| r_or (x := v10) (j := 23) 3 rfl rfl rfl rfl rfl gpn (fun hb11 => by replace q13 := bF hb11 q13; obtain ⟨v9, q12, q13⟩ := bs q13; obtain rfl := sm q13; exact g rfl hb11 <| mv rfl <| g rfl hb11 <| pc (ref3_Name_ok v3 q12) rfl rfl rfl <| g rfl hb11 <| nt rfl <| r_nil (eg [38, 39, 40] 3 rfl rfl rfl rfl)) (fun hb => (sm (bT hb q13)).symm) <| u <| mv rfl <| r_or (x := (v10 || (v1 == [36, 105, 110, 105, 116]))) (j := 28) 2 rfl rfl rfl rfl rfl gpn (fun hb14 => g rfl hb14 <| mv rfl <| g rfl hb14 <| seq ti9 rfl rfl <| r_nil (egO [43, 44] 2 hb14 rfl rfl rfl rfl)) orT <| u <| mv rfl <| r_or (x := ((v10 || (v1 == [36, 105, 110, 105, 116])) || (v2 == [36, 105, 110, 105, 116]))) (j := 32) 2 rfl rfl rfl rfl rfl gpn (fun hb15 => g rfl hb15 <| mv rfl <| g rfl hb15 <| seq ti9 rfl rfl <| r_nil (egO [47, 48] 2 hb15 rfl rfl rfl rfl)) orT <| u <| mv rfl <| r_or (x := (((v10 || (v1 == [36, 105, 110, 105, 116])) || (v2 == [36, 105, 110, 105, 116])) || (v3 == [36, 105, 110, 105, 116]))) (j := 36) 2 rfl rfl rfl rfl rfl gpn (fun hb16 => g rfl hb16 <| mv rfl <| g rfl hb16 <| seq ti9 rfl rfl <| r_nil (egO [51, 52] 2 hb16 rfl rfl rfl rfl)) orT <| r_nil ?_
    refine sw_cond rfl (fun hc17 => ?_) (fun hc17 => ?_)
    · replace h := bT hc17 h
      refine rg rfl <| u <| asg rfl <| r_nil ?_
      refine sw_ret ?_
      obtain rfl := sm h
      exact ⟨_, rfl, [], ci rfl, rfl, trivial, rfl, Nat.le_of_ble_eq_true rfl⟩
    · replace h := bF hc17 h
      refine sw_skip ?_
      refine rg rfl <| u <| sc [] (law5_One_ok [65, 98] rfl) rfl rfl rfl rfl ⟨rnI rfl, trivial⟩ trivial <| u <| al 3 ti61 rfl <| u <| sto ti61 rfl rfl rfl <| r_nil ?_
      refine rg rfl <| u <| mv rfl <| u <| bd ti63 rfl rfl rfl <| u <| mv rfl <| u <| bd ti63 rfl rfl rfl <| u <| bl 4 ti58 rfl ti63 rfl (by decide) (by decide) rfl rfl rfl <| u <| fa ti61 rfl rfl rfl <| u <| sto ti58 rfl rfl rfl <| r_nil ?_
      refine rg rfl <| u <| fa ti61 rfl rfl rfl <| u <| ld ti59 rfl rfl <| u <| ixX ti59 rfl ti67 rfl rfl rfl <| u <| ld ti67 rfl rfl <| u <| al 5 ti67 rfl <| u <| sto ti67 rfl rfl rfl <| r_nil ?_
      refine rg rfl <| u <| mv rfl <| u <| fa ti67 rfl rfl rfl <| u <| sto ti9 rfl rfl rfl <| r_nil ?_
      refine rg rfl <| u <| ld ti67 rfl rfl <| u <| al 6 ti67 rfl <| u <| sto ti67 rfl rfl rfl <| r_nil ?_
      refine rg rfl <| u <| mv rfl <| u <| fa ti67 rfl rfl rfl <| u <| sto ti9 rfl rfl rfl <| r_nil ?_
      refine rg rfl <| u <| ld ti67 rfl rfl <| u <| ld ti67 rfl rfl <| u <| bl 7 ti59 rfl ti67 rfl (by decide) (by decide) rfl rfl rfl <| u <| fa ti61 rfl rfl rfl <| u <| sto ti59 rfl rfl rfl <| r_nil ?_
      obtain ⟨v11, q18, h⟩ := bs h
      obtain ⟨v13, q22, h⟩ := bs h
      obtain ⟨v15, q25, h⟩ := bs h
      obtain ⟨v17, q28, h⟩ := bs h
      refine rg rfl <| u <| ld ti61 rfl rfl <| u <| pcs (class_May_ok (ApiClass.mk [65, 98] [79, 98, 106, 101, 99, 116] false [] ([(ApiField.mk v1 [73] false), (ApiField.mk v2 [73] false)]) ([(ApiMethod.mk v3 [] [86] true false 0 0 ([(ApiIns.mk 46 0 [] [])]) [] []), (ApiMethod.mk v1 [] [86] true false 0 0 ([(ApiIns.mk 46 0 [] [])]) [] [])])) q18) rfl rfl (.cons (sealAgg ⟨(si rfl), (si rfl), (si rfl), (.nil), (sealX rfl ⟨⟨(si rfl), (si rfl), (si rfl), trivial⟩, ⟨(si rfl), (si rfl), (si rfl), trivial⟩, trivial⟩), (sealX rfl ⟨⟨(si rfl), (.nil), (si rfl), (si rfl), (si rfl), (si rfl), (si rfl), (sealX rfl ⟨⟨(si rfl), (si rfl), (si rfl), (si rfl), trivial⟩, trivial⟩), (.nil), (.nil), trivial⟩, ⟨(si rfl), (.nil), (si rfl), (si rfl), (si rfl), (si rfl), (si rfl), (sealX rfl ⟨⟨(si rfl), (si rfl), (si rfl), (si rfl), trivial⟩, trivial⟩), (.nil), (.nil), trivial⟩, trivial⟩), trivial⟩) .nil) plainB <| u <| mv rfl <| u <| mv rfl <| u <| sne ti9 rfl rfl <| u <| mv rfl <| r_and (x := ((!(v1 == v2)) && (!(v3 == v1)))) (j := 5) 3 rfl rfl rfl rfl rfl gpn (fun hb19 => g rfl hb19 <| mv rfl <| g rfl hb19 <| mv rfl <| g rfl hb19 <| sne ti9 rfl rfl <| r_nil (egA [80, 81, 82] 3 hb19 rfl rfl rfl rfl)) andF <| u <| beq ti4 rfl rfl rfl <| u <| mv rfl <| r_and (x := v13) (j := 11) 4 rfl rfl rfl rfl rfl gpn (fun hb20 => by replace q22 := bT hb20 q22; obtain ⟨v12, q21, q22⟩ := bs q22; obtain rfl := sm q22; exact g rfl hb20 <| ld ti61 rfl rfl <| g rfl hb20 <| mv rfl <| g rfl hb20 <| pcs (class_Field_ok (ApiClass.mk [65, 98] [79, 98, 106, 101, 99, 116] false [] ([(ApiField.mk v1 [73] false), (ApiField.mk v2 [73] false)]) ([(ApiMethod.mk v3 [] [86] true false 0 0 ([(ApiIns.mk 46 0 [] [])]) [] []), (ApiMethod.mk v1 [] [86] true false 0 0 ([(ApiIns.mk 46 0 [] [])]) [] [])])) v1 q21) rfl rfl (.cons (sealAgg ⟨(si rfl), (si rfl), (si rfl), (.nil), (sealX rfl ⟨⟨(si rfl), (si rfl), (si rfl), trivial⟩, ⟨(si rfl), (si rfl), (si rfl), trivial⟩, trivial⟩), (sealX rfl ⟨⟨(si rfl), (.nil), (si rfl), (si rfl), (si rfl), (si rfl), (si rfl), (sealX rfl ⟨⟨(si rfl), (si rfl), (si rfl), (si rfl), trivial⟩, trivial⟩), (.nil), (.nil), trivial⟩, ⟨(si rfl), (.nil), (si rfl), (si rfl), (si rfl), (si rfl), (si rfl), (sealX rfl ⟨⟨(si rfl), (si rfl), (si rfl), (si rfl), trivial⟩, trivial⟩), (.nil), (.nil), trivial⟩, trivial⟩), trivial⟩) (.cons (si rfl) .nil)) plainB <| g rfl hb20 <| eql ti3 rfl rfl <| r_nil (eg [86, 87, 88, 89] 4 rfl rfl rfl rfl)) (fun hb => (sm (bF hb q22)).symm) <| u <| mv rfl <| r_and (x := v15) (j := 17) 8 rfl rfl rfl rfl rfl gpn (fun hb23 => by replace q25 := bT hb23 q25; obtain ⟨v14, q24, q25⟩ := bs q25; obtain rfl := sm q25; exact g rfl hb23 <| ld ti61 rfl rfl <| g rfl hb23 <| mv rfl <| g rfl hb23 <| pcs (class_Field_ok (ApiClass.mk [65, 98] [79, 98, 106, 101, 99, 116] false [] ([(ApiField.mk v1 [73] false), (ApiField.mk v2 [73] false)]) ([(ApiMethod.mk v3 [] [86] true false 0 0 ([(ApiIns.mk 46 0 [] [])]) [] []), (ApiMethod.mk v1 [] [86] true false 0 0 ([(ApiIns.mk 46 0 [] [])]) [] [])])) v2 q24) rfl rfl (.cons (sealAgg ⟨(si rfl), (si rfl), (si rfl), (.nil), (sealX rfl ⟨⟨(si rfl), (si rfl), (si rfl), trivial⟩, ⟨(si rfl), (si rfl), (si rfl), trivial⟩, trivial⟩), (sealX rfl ⟨⟨(si rfl), (.nil), (si rfl), (si rfl), (si rfl), (si rfl), (si rfl), (sealX rfl ⟨⟨(si rfl), (si rfl), (si rfl), (si rfl), trivial⟩, trivial⟩), (.nil), (.nil), trivial⟩, ⟨(si rfl), (.nil), (si rfl), (si rfl), (si rfl), (si rfl), (si rfl), (sealX rfl ⟨⟨(si rfl), (si rfl), (si rfl), (si rfl), trivial⟩, trivial⟩), (.nil), (.nil), trivial⟩, trivial⟩), trivial⟩) (.cons (si rfl) .nil)) plainB <| g rfl hb23 <| eql ti3 rfl rfl <| g rfl hb23 <| mv rfl <| g rfl hb23 <| mv rfl <| g rfl hb23 <| sne ti9 rfl rfl <| g rfl hb23 <| beq ti4 rfl rfl rfl <| r_nil (eg [92, 93, 94, 95, 96, 97, 98, 99] 8 rfl rfl rfl rfl)) (fun hb => (sm (bF hb q25)).symm) <| u <| mv rfl <| r_and (x := v17) (j := 27) 4 rfl rfl rfl rfl rfl gpn (fun hb26 => by replace q28 := bT hb26 q28; obtain ⟨v16, q27, q28⟩ := bs q28; obtain rfl := sm q28; exact g rfl hb26 <| ld ti61 rfl rfl <| g rfl hb26 <| mv rfl <| g rfl hb26 <| pcs (class_Method_ok (ApiClass.mk [65, 98] [79, 98, 106, 101, 99, 116] false [] ([(ApiField.mk v1 [73] false), (ApiField.mk v2 [73] false)]) ([(ApiMethod.mk v3 [] [86] true false 0 0 ([(ApiIns.mk 46 0 [] [])]) [] []), (ApiMethod.mk v1 [] [86] true false 0 0 ([(ApiIns.mk 46 0 [] [])]) [] [])])) v3 q27) rfl rfl (.cons (sealAgg ⟨(si rfl), (si rfl), (si rfl), (.nil), (sealX rfl ⟨⟨(si rfl), (si rfl), (si rfl), trivial⟩, ⟨(si rfl), (si rfl), (si rfl), trivial⟩, trivial⟩), (sealX rfl ⟨⟨(si rfl), (.nil), (si rfl), (si rfl), (si rfl), (si rfl), (si rfl), (sealX rfl ⟨⟨(si rfl), (si rfl), (si rfl), (si rfl), trivial⟩, trivial⟩), (.nil), (.nil), trivial⟩, ⟨(si rfl), (.nil), (si rfl), (si rfl), (si rfl), (si rfl), (si rfl), (sealX rfl ⟨⟨(si rfl), (si rfl), (si rfl), (si rfl), trivial⟩, trivial⟩), (.nil), (.nil), trivial⟩, trivial⟩), trivial⟩) (.cons (si rfl) .nil)) plainB <| g rfl hb26 <| eql ti3 rfl rfl <| r_nil (eg [102, 103, 104, 105] 4 rfl rfl rfl rfl)) (fun hb => (sm (bF hb q28)).symm) <| u <| asg rfl <| r_nil ?_
      refine sw_ret ?_
      obtain rfl := sm h
      exact ⟨_, rfl, [], ci rfl, rfl, trivial, rfl, Nat.le_of_ble_eq_true rfl⟩
end Go.Proofs.Ythhkdanpjcnegaa
