/- Written by program (gen.py): worth and walk of each function. -/
import Derived.Test.YthhkdanpjcnegaaGreatG1
namespace Go.Proofs.YthhkdanpjcnegaaGreat
set_option linter.unusedSimpArgs false
set_option linter.unusedVariables false
set_option maxRecDepth 100000
set_option maxHeartbeats 4000000


noncomputable def num_Get_k4 : Option (Int × Int × Int) :=
  some (0, 0, 2)
noncomputable def num_Get_j2 (v9 : Int) (v13 : Int) : Option (Sum (Int × Int) (Sum (Unit) (Int × Int × Int))) :=
  some (.inr (.inr (v13, (IntKind.i64.wrap (v9 + 1)), 0)))
noncomputable def num_Get_l3 (v1 : List UInt8) (v8 : Int) (v9 : Int) : Option (Sum (Int × Int) (Sum (Unit) (Int × Int × Int))) :=
  cond (decide (v9 < (List.length v1 : Int))) ((idx v1 v9).bind fun v10 => cond ((v9 == (9 : Int)) && (decide (1 < (v10.toNat : Int)))) (some (.inr (.inr (0, 0, 1)))) ((shlP .u64 (IntKind.u64.wrap ((v10 &&& (127 : UInt8)).toNat : Int)) (IntKind.i64.wrap (7 * v9))).bind fun v11 => cond (decide (127 < (v10.toNat : Int))) (some (.inl ((orI .u64 v8 v11), (IntKind.i64.wrap (v9 + 1))))) (cond ((decide (0 < v9)) && ((v10.toNat : Int) == (0 : Int))) (some (.inr (.inr (0, 0, 1)))) ((shrP .u64 (orI .u64 v8 v11) 1).bind fun v12 => cond ((andI .u64 (orI .u64 v8 v11) 1) == (1 : Int)) (num_Get_j2 v9 (xorI .i64 (IntKind.i64.wrap v12))) (num_Get_j2 v9 (IntKind.i64.wrap v12)))))) (some (.inr (.inl ())))
noncomputable def num_Get (v1 : List UInt8) : Option (Int × Int × Int) :=
  (loopP (fun z => num_Get_l3 v1 z.1 z.2) (0, 0)).bind fun o => leave o (fun b => num_Get_k4) some
theorem num_Get_ok (v1 : List UInt8) {r : Int × Int × Int} (h : num_Get v1 = some r) : PureC Tryz.prog 150 [.isl 1 (List.map byteRow v1)] (.tup [.lit (.int .i64 r.1), .lit (.int .i64 r.2.1), .lit (.int .i64 r.2.2)]) := by
  refine pure_fn Tryz.func150 rfl (by kernel_rfl) rfl rfl ?_
  unfold num_Get at h
  refine rg rfl <| u <| asg rfl <| u <| asg rfl <| u <| asg rfl <| r_nil ?_
  refine rg rfl <| u <| asg rfl <| r_nil ?_
  refine sw_seq ?_
  refine rg rfl <| u <| mv rfl <| u <| lnI ti43 rfl rfl <| u <| mv rfl <| r_nil ?_
  obtain ⟨o, ho, h⟩ := bs h
  refine sw_lpl (X := Int × Int) (B := Unit) (R := Int × Int × Int) (fun z => [(5, .lit (.int .u64 z.1)), (9, .isl 1 (List.map byteRow v1)), (10, .lit (.int .i64 (List.length v1 : Int))), (11, .lit (.int .i64 z.2))]) (fun z => []) (fun b => []) (fun b => []) (fun r env st => PostF Tryz.prog Tryz.f150 0 (.tup [.lit (.int .i64 r.1), .lit (.int .i64 r.2.1), .lit (.int .i64 r.2.2)]) [] env st) ho ⟨[], ce rfl rfl <| ce rfl rfl <| ce rfl rfl <| ce rfl rfl <| cn, rfl, trivial, rfl, Nat.le_of_ble_eq_true rfl⟩ ?_ ?_ ?_
  · rintro ⟨v8, v9⟩ r h
    replace h : num_Get_l3 v1 v8 v9 = some r := h
    unfold num_Get_l3 at h
    refine rg rfl <| u <| lss ti3 rfl rfl <| r_nil ?_
    refine sw_seq ?_
    refine sw_cond rfl (fun hc11 => ?_) (fun hc11 => ?_)
    · replace h := bT hc11 h
      refine sw_skip ?_
      refine sw_seq ?_
      refine sw_block ?_
      obtain ⟨v10, q12, h⟩ := bs h
      refine rg rfl <| u <| mv rfl <| u <| ixI ti43 rfl ti5 rfl rfl rfl q12 <| u <| ldI ti5 rfl (idx_some q12).2.2 rfl <| u <| asg rfl <| u <| asg rfl <| r_nil ?_
      refine sw_seq ?_
      refine rg rfl <| u <| mv rfl <| u <| eql ti3 rfl rfl <| u <| mv rfl <| r_and (x := ((v9 == (9 : Int)) && (decide (1 < (v10.toNat : Int))))) (j := 2) 2 rfl rfl rfl rfl rfl gpn (fun hb13 => g rfl hb13 <| mv rfl <| g rfl hb13 <| gtr ti5 rfl rfl <| r_nil (egA [19, 20] 2 hb13 rfl rfl rfl rfl)) andF <| r_nil ?_
      refine sw_cond rfl (fun hc14 => ?_) (fun hc14 => ?_)
      · replace h := bT hc14 h
        refine rg rfl <| u <| asg rfl <| u <| asg rfl <| u <| asg rfl <| r_nil ?_
        refine sw_ret ?_
        obtain rfl := sm h
        exact ⟨_, rfl, _, rfl, [], rsTup ⟨(ci rfl), (ci rfl), (ci rfl), trivial⟩, rfl, trivial, rfl, Nat.le_of_ble_eq_true rfl⟩
      · replace h := bF hc14 h
        refine sw_skip ?_
        obtain ⟨v11, q15, h⟩ := bs h
        refine rg rfl <| u <| mv rfl <| u <| mv rfl <| u <| band8 ti5 rfl rfl <| u <| cvi ti5 ti120 rfl rfl rfl <| u <| mv rfl <| u <| mul ti3 rfl rfl <| u <| shl ti120 rfl rfl q15 <| u <| bor ti120 rfl rfl <| u <| asg rfl <| r_nil ?_
        refine sw_seq ?_
        refine rg rfl <| u <| mv rfl <| u <| gtr ti5 rfl rfl <| r_nil ?_
        refine sw_cond rfl (fun hc16 => ?_) (fun hc16 => ?_)
        · replace h := bT hc16 h
          refine sw_exit ?_
          refine rl rfl <| u <| add ti3 rfl rfl <| u <| mv rfl <| r_nil ?_
          obtain rfl := sm h
          exact ⟨_, rfl, [], ce rfl rfl <| ce rfl rfl <| ce rfl rfl <| ce rfl rfl <| cn, rfl, trivial, rfl, Nat.le_of_ble_eq_true rfl⟩
        · replace h := bF hc16 h
          refine sw_skip ?_
          refine sw_seq ?_
          refine rg rfl <| u <| mv rfl <| u <| gtr ti3 rfl rfl <| u <| mv rfl <| r_and (x := ((decide (0 < v9)) && ((v10.toNat : Int) == (0 : Int)))) (j := 2) 2 rfl rfl rfl rfl rfl gpn (fun hb17 => g rfl hb17 <| mv rfl <| g rfl hb17 <| eql ti5 rfl rfl <| r_nil (egA [35, 36] 2 hb17 rfl rfl rfl rfl)) andF <| r_nil ?_
          refine sw_cond rfl (fun hc18 => ?_) (fun hc18 => ?_)
          · replace h := bT hc18 h
            refine rg rfl <| u <| asg rfl <| u <| asg rfl <| u <| asg rfl <| r_nil ?_
            refine sw_ret ?_
            obtain rfl := sm h
            exact ⟨_, rfl, _, rfl, [], rsTup ⟨(ci rfl), (ci rfl), (ci rfl), trivial⟩, rfl, trivial, rfl, Nat.le_of_ble_eq_true rfl⟩
          · replace h := bF hc18 h
            refine sw_skip ?_
            obtain ⟨v12, q19, h⟩ := bs h
            refine rg rfl <| u <| mv rfl <| u <| shr ti120 rfl rfl q19 <| u <| cvi ti120 ti2 rfl rfl rfl <| u <| asg rfl <| r_nil ?_
            refine sw_meet (X := Int) (fun z => [(6, .lit (.int .i64 v9)), (8, .lit (.int .i64 z))]) (fun z => []) (fun z => num_Get_j2 v9 z = some r) ?_ ?_
            · refine rg rfl <| u <| mv rfl <| u <| band ti120 rfl rfl <| u <| eql ti120 rfl rfl <| r_nil ?_
              refine sw_cond rfl (fun hc20 => ?_) (fun hc20 => ?_)
              · replace h := bT hc20 h
                exact rl rfl <| u <| mv rfl <| u <| xo rfl <| u <| asg rfl <| r_nil (⟨(xorI .i64 (IntKind.i64.wrap v12)), h, [], ce rfl rfl <| ce rfl rfl <| cn, rfl, trivial, rfl, Nat.le_of_ble_eq_true rfl⟩)
              · replace h := bF hc20 h
                refine sw_skip ?_
                exact ⟨(IntKind.i64.wrap v12), h, [], ce rfl rfl <| ce rfl rfl <| cn, rfl, trivial, rfl, Nat.le_of_ble_eq_true rfl⟩
            · rintro v13 h
              replace h : num_Get_j2 v9 v13 = some r := h
              unfold num_Get_j2 at h
              refine rg rfl <| u <| mv rfl <| u <| mv rfl <| u <| add ti3 rfl rfl <| u <| asg rfl <| u <| asg rfl <| u <| asg rfl <| r_nil ?_
              refine sw_ret ?_
              obtain rfl := sm h
              exact ⟨_, rfl, _, rfl, [], rsTup ⟨(ci rfl), (ci rfl), (ci rfl), trivial⟩, rfl, trivial, rfl, Nat.le_of_ble_eq_true rfl⟩
    · replace h := bF hc11 h
      refine sw_exit ?_
      obtain rfl := sm h
      exact ⟨rfl, _, rfl, [], cn, rfl, trivial, rfl, Nat.le_of_ble_eq_true rfl⟩
  · rintro ⟨⟩ rfl
    replace h : num_Get_k4 = some r := h
    unfold num_Get_k4 at h
    refine ow_intro ?_
    refine rg rfl <| u <| asg rfl <| u <| asg rfl <| u <| asg rfl <| r_nil ?_
    refine sw_ret ?_
    obtain rfl := sm h
    exact ⟨_, rfl, [], rsTup ⟨(ci rfl), (ci rfl), (ci rfl), trivial⟩, rfl, trivial, rfl, Nat.le_of_ble_eq_true rfl⟩
  · rintro r' rfl env st hp
    obtain rfl := sm h
    exact hp

noncomputable def num_GetText (v1 : List UInt8) : Option ((List UInt8) × Int × Int) :=
  (num_Get v1).bind fun v2 => cond (!(v2.2.2 == (0 : Int))) (some ([], 0, v2.2.2)) (cond ((decide (v2.1 < 0)) || (decide (1048576 < v2.1))) (some ([], 0, 1)) (cond (decide ((IntKind.i64.wrap ((List.length v1 : Int) - v2.2.1)) < v2.1)) (some ([], 0, 2)) ((cutP v1 v2.2.1 (IntKind.i64.wrap (v2.2.1 + v2.1))).bind fun v3 => some (v3, (IntKind.i64.wrap (v2.2.1 + v2.1)), 0))))
theorem num_GetText_ok (v1 : List UInt8) {r : (List UInt8) × Int × Int} (h : num_GetText v1 = some r) : PureC Tryz.prog 118 [.isl 1 (List.map byteRow v1)] (.tup [.lit (.string (B r.1)), .lit (.int .i64 r.2.1), .lit (.int .i64 r.2.2)]) := by
  refine pure_fn Tryz.func118 rfl (by kernel_rfl) rfl rfl ?_
  unfold num_GetText at h
  refine rg rfl <| u <| asg rfl <| u <| asg rfl <| u <| asg rfl <| r_nil ?_
  obtain ⟨v2, q1, h⟩ := bs h
  refine rg rfl <| u <| mv rfl <| u <| pc (num_Get_ok v1 q1) rfl rfl rfl <| u <| mv rfl <| u <| ex rfl rfl <| u <| ex rfl rfl <| u <| ex rfl rfl <| u <| asg rfl <| u <| asg rfl <| u <| asg rfl <| r_nil ?_
  refine sw_seq ?_
  refine sw_block ?_
  refine rg rfl <| u <| mv rfl <| u <| neq ti45 rfl rfl <| u <| asg rfl <| r_nil ?_
  refine sw_cond rfl (fun hc2 => ?_) (fun hc2 => ?_)
  · replace h := bT hc2 h
    refine rg rfl <| u <| mv rfl <| u <| asg rfl <| u <| asg rfl <| u <| asg rfl <| r_nil ?_
    refine sw_ret ?_
    obtain rfl := sm h
    exact ⟨_, rfl, [], rsTup ⟨(ci rfl), (ci rfl), (ci rfl), trivial⟩, rfl, trivial, rfl, Nat.le_of_ble_eq_true rfl⟩
  · replace h := bF hc2 h
    refine rg rfl <| u <| mv rfl <| u <| lss ti2 rfl rfl <| u <| mv rfl <| r_or (x := ((decide (v2.1 < 0)) || (decide (1048576 < v2.1)))) (j := 2) 2 rfl rfl rfl rfl rfl gpn (fun hb3 => g rfl hb3 <| mv rfl <| g rfl hb3 <| gtr ti2 rfl rfl <| r_nil (egO [22, 23] 2 hb3 rfl rfl rfl rfl)) orT <| u <| asg rfl <| r_nil ?_
    refine sw_cond rfl (fun hc4 => ?_) (fun hc4 => ?_)
    · replace h := bT hc4 h
      refine rg rfl <| u <| asg rfl <| u <| asg rfl <| u <| asg rfl <| r_nil ?_
      refine sw_ret ?_
      obtain rfl := sm h
      exact ⟨_, rfl, [], rsTup ⟨(ci rfl), (ci rfl), (ci rfl), trivial⟩, rfl, trivial, rfl, Nat.le_of_ble_eq_true rfl⟩
    · replace h := bF hc4 h
      refine rg rfl <| u <| mv rfl <| u <| mv rfl <| u <| lnI ti43 rfl rfl <| u <| mv rfl <| u <| sub ti3 rfl rfl <| u <| gtr ti3 rfl rfl <| u <| asg rfl <| r_nil ?_
      refine sw_cond rfl (fun hc5 => ?_) (fun hc5 => ?_)
      · replace h := bT hc5 h
        refine rg rfl <| u <| asg rfl <| u <| asg rfl <| u <| asg rfl <| r_nil ?_
        refine sw_ret ?_
        obtain rfl := sm h
        exact ⟨_, rfl, [], rsTup ⟨(ci rfl), (ci rfl), (ci rfl), trivial⟩, rfl, trivial, rfl, Nat.le_of_ble_eq_true rfl⟩
      · replace h := bF hc5 h
        refine sw_skip ?_
        obtain ⟨v3, q6, h⟩ := bs h
        refine rg rfl <| u <| mv rfl <| u <| mv rfl <| u <| mv rfl <| u <| mv rfl <| u <| add ti3 rfl rfl <| u <| slI (a := v2.2.1) (b := (IntKind.i64.wrap (v2.2.1 + v2.1))) ti43 rfl ti5 rfl rfl (bnd_lo rfl q6) (bnd_hi rfl q6) q6 <| u <| cvt (l := v3) ti43 ti9 rfl rfl ti5 rfl rfl (fun _ h => by cases h) roI <| u <| mv rfl <| u <| mv rfl <| u <| add ti3 rfl rfl <| u <| asg rfl <| u <| asg rfl <| u <| asg rfl <| r_nil ?_
        refine sw_ret ?_
        obtain rfl := sm h
        exact ⟨_, rfl, [], rsTup ⟨(ci rfl), (ci rfl), (ci rfl), trivial⟩, rfl, trivial, rfl, Nat.le_of_ble_eq_true rfl⟩

noncomputable def ref1_Put_k3 (v13 : Int) (v14 : List UInt8) : Option ((List UInt8)) :=
  (appP 1 v14 [(tU8 v13)]).bind fun v15 => some v15
noncomputable def ref1_Put_l2 (v8 : Int) (v9 : List UInt8) : Option (Sum (Int × (List UInt8)) (Sum (Int × (List UInt8)) ((List UInt8)))) :=
  cond (decide (128 ≤ v8)) ((remP v8 128).bind fun v10 => (appP 1 v9 [(tU8 (IntKind.u64.wrap (v10 + 128)))]).bind fun v11 => (quoP .u64 v8 128).bind fun v12 => some (.inl (v12, v11))) (some (.inr (.inl (v8, v9))))
noncomputable def ref1_Put_j1 (v2 : Int) : Option ((List UInt8)) :=
  (loopP (fun z => ref1_Put_l2 z.1 z.2) (v2, [])).bind fun o => leave o (fun b => ref1_Put_k3 b.1 b.2) some
noncomputable def ref1_Put (v1 : Int) : Option ((List UInt8)) :=
  cond (decide (v1 < 0)) (ref1_Put_j1 (xorI .u64 (IntKind.u64.wrap ((IntKind.u64.wrap v1) * 2)))) (ref1_Put_j1 (IntKind.u64.wrap ((IntKind.u64.wrap v1) * 2)))
theorem ref1_Put_ok (v1 : Int) {r : (List UInt8)} (h : ref1_Put v1 = some r) : SC Tryz.prog 60 [.lit (.int .i64 v1)] [] (.msl 0 0 (List.length r)) [.many 1 (List.map byteRow r)] := by
  refine ⟨⟨sbOk (sz := 1) (fun _ => rfl), trivial⟩, scall_fn Tryz.func60 rfl (by kernel_rfl) rfl ?_⟩
  unfold ref1_Put at h
  refine rg rfl <| u <| asg rfl <| r_nil ?_
  refine rg rfl <| u <| mv rfl <| u <| cvi ti2 ti120 rfl rfl rfl <| u <| mul ti120 rfl rfl <| u <| asg rfl <| r_nil ?_
  refine sw_meet (X := Int) (fun z => [(3, .lit (.int .u64 z))]) (fun z => []) (fun z => ref1_Put_j1 z = some r) ?_ ?_
  · refine rg rfl <| u <| mv rfl <| u <| lss ti2 rfl rfl <| r_nil ?_
    refine sw_cond rfl (fun hc1 => ?_) (fun hc1 => ?_)
    · replace h := bT hc1 h
      exact rl rfl <| u <| mv rfl <| u <| xo rfl <| u <| asg rfl <| r_nil (⟨(xorI .u64 (IntKind.u64.wrap ((IntKind.u64.wrap v1) * 2))), h, [], ce rfl rfl <| cn, rfl, trivial, rfl, Nat.le_of_ble_eq_true rfl⟩)
    · replace h := bF hc1 h
      refine sw_skip ?_
      exact ⟨(IntKind.u64.wrap ((IntKind.u64.wrap v1) * 2)), h, [], ce rfl rfl <| cn, rfl, trivial, rfl, Nat.le_of_ble_eq_true rfl⟩
  · rintro v2 h
    replace h : ref1_Put_j1 v2 = some r := h
    unfold ref1_Put_j1 at h
    refine rg rfl <| u <| asg rfl <| r_nil ?_
    obtain ⟨o, ho, h⟩ := bs h
    refine sw_lp (X := Int × (List UInt8)) (B := Int × (List UInt8)) (R := (List UInt8)) (fun z => [(3, .lit (.int .u64 z.1)), (4, .msl 0 0 (List.length z.2))]) (fun z => [some (1, List.map byteRow z.2)]) (fun b => [(3, .lit (.int .u64 b.1)), (4, .msl 0 0 (List.length b.2))]) (fun b => [some (1, List.map byteRow b.2)]) (fun r env st => PostF Tryz.prog Tryz.f60 0 (.msl 0 0 (List.length r)) [some (1, List.map byteRow r)] env st) ho ⟨[.fresh 1], ce rfl rfl <| cv rfl (.nilown rfl) <| cn, rfl, ⟨⟨rfl, rfl⟩, trivial⟩, rfl, Nat.le_of_ble_eq_true rfl⟩ ?_ ?_ ?_
    · rintro ⟨v8, v9⟩ r h
      replace h : ref1_Put_l2 v8 v9 = some r := h
      unfold ref1_Put_l2 at h
      refine sw_seq ?_
      refine rg rfl <| u <| mv rfl <| u <| geq ti120 rfl rfl <| r_nil ?_
      refine sw_cond rfl (fun hc6 => ?_) (fun hc6 => ?_)
      · replace h := bT hc6 h
        refine sw_skip ?_
        refine sw_block ?_
        obtain ⟨v10, q7, h⟩ := bs h
        obtain ⟨v11, q8, h⟩ := bs h
        refine rg rfl <| u <| mv rfl <| u <| mv rfl <| u <| rem ti120 rfl rfl q7 <| u <| add ti120 rfl rfl <| u <| cv8 ti120 ti5 rfl rfl rfl <| u <| bl 1 ti43 rfl ti5 rfl (by decide) (by decide) rfl rfl rfl <| u <| apM 2 ti43 rfl ti5 rfl rfl (by decide) ti43 rfl rfl rfl rfl (roX (f := byteRow) (z := [(tU8 (IntKind.u64.wrap (v10 + 128)))]) rfl rfl) (fun _ => rfl) rfl q8 <| u <| asg rfl <| r_nil ?_
        obtain ⟨v12, q9, h⟩ := bs h
        refine rl rfl <| u <| mv rfl <| u <| quo ti120 rfl rfl q9 <| u <| asg rfl <| r_nil ?_
        obtain rfl := sm h
        exact ⟨_, rfl, [.old 2], ce rfl rfl <| cv rfl (.msl rfl) <| cn, rfl, ⟨⟨_, rfl, rsMap (fun _ => rfl)⟩, trivial⟩, rfl, Nat.le_of_ble_eq_true rfl⟩
      · replace h := bF hc6 h
        refine sw_exit ?_
        obtain rfl := sm h
        exact ⟨rfl, _, rfl, [.old 0], ce rfl rfl <| cv rfl (.msl rfl) <| cn, rfl, ⟨⟨_, rfl, rsMap (fun _ => rfl)⟩, trivial⟩, rfl, Nat.le_of_ble_eq_true rfl⟩
    · rintro ⟨v13, v14⟩ rfl
      replace h : ref1_Put_k3 v13 v14 = some r := h
      unfold ref1_Put_k3 at h
      obtain ⟨v15, q10, h⟩ := bs h
      refine rg rfl <| u <| mv rfl <| u <| mv rfl <| u <| cv8 ti120 ti5 rfl rfl rfl <| u <| bl 1 ti43 rfl ti5 rfl (by decide) (by decide) rfl rfl rfl <| u <| apM 2 ti43 rfl ti5 rfl rfl (by decide) ti43 rfl rfl rfl rfl (roX (f := byteRow) (z := [(tU8 v13)]) rfl rfl) (fun _ => rfl) rfl q10 <| u <| asg rfl <| r_nil ?_
      refine sw_ret ?_
      obtain rfl := sm h
      exact ⟨_, rfl, [.old 2], .msl rfl, rfl, ⟨⟨_, rfl, rsMap (fun _ => rfl)⟩, trivial⟩, rfl, Nat.le_of_ble_eq_true rfl⟩
    · rintro r' rfl env st hp
      obtain rfl := sm h
      exact hp

noncomputable def ref1_PutText (v1 : List UInt8) : Option ((List UInt8)) :=
  (ref1_Put (List.length v1 : Int)).bind fun v2 => (appP 1 v2 v1).bind fun v3 => some v3
theorem ref1_PutText_ok (v1 : List UInt8) {r : (List UInt8)} (h : ref1_PutText v1 = some r) : SC Tryz.prog 61 [.lit (.string (B v1))] [] (.msl 0 0 (List.length r)) [.many 1 (List.map byteRow r)] := by
  refine ⟨⟨sbOk (sz := 1) (fun _ => rfl), trivial⟩, scall_fn Tryz.func61 rfl (by kernel_rfl) rfl ?_⟩
  unfold ref1_PutText at h
  refine rg rfl <| u <| asg rfl <| r_nil ?_
  obtain ⟨v2, q1, h⟩ := bs h
  obtain ⟨v3, q2, h⟩ := bs h
  refine rg rfl <| u <| mv rfl <| u <| lnS ti9 rfl rfl <| u <| sc [] (ref1_Put_ok (List.length v1 : Int) q1) rfl rfl rfl rfl ⟨(rnI rfl), trivial⟩ trivial <| u <| mv rfl <| u <| apMS 1 ti43 rfl ti5 rfl rfl ti9 rfl rfl rfl rfl rfl q2 <| u <| asg rfl <| r_nil ?_
  refine sw_ret ?_
  obtain rfl := sm h
  exact ⟨_, rfl, [.old 1], .msl rfl, rfl, ⟨⟨_, rfl, rsMap (fun _ => rfl)⟩, trivial⟩, rfl, Nat.le_of_ble_eq_true rfl⟩

noncomputable def ref3_EqIns (v1 : ApiIns) (v2 : ApiIns) : Bool :=
  ((((v1.Op == v2.Op) && (v1.A == v2.A)) && (v1.C == v2.C)) && (v1.M == v2.M))
theorem ref3_EqIns_ok (v1 : ApiIns) (v2 : ApiIns) {r : Bool} (h : ref3_EqIns v1 v2 = r) : PureC Tryz.prog 126 [.agg [.lit (.int .i64 v1.Op), .lit (.int .i64 v1.A), .lit (.string (B v1.C)), .lit (.string (B v1.M))], .agg [.lit (.int .i64 v2.Op), .lit (.int .i64 v2.A), .lit (.string (B v2.C)), .lit (.string (B v2.M))]] (.lit (.bool r)) := by
  refine pure_fn Tryz.func126 rfl (by kernel_rfl) rfl rfl ?_
  unfold ref3_EqIns at h
  refine rg rfl <| u <| bx 0 4 rfl rfl rfl rfl <| u <| bx 1 4 rfl rfl rfl rfl <| u <| asg rfl <| r_nil ?_
  refine rg rfl <| u <| fa ti37 rfl rfl rfl <| u <| ld ti3 rfl rfl <| u <| fa ti37 rfl rfl rfl <| u <| ld ti3 rfl rfl <| u <| eql ti3 rfl rfl <| u <| mv rfl <| r_and (x := ((v1.Op == v2.Op) && (v1.A == v2.A))) (j := 5) 5 rfl rfl rfl rfl rfl gpn (fun hb1 => g rfl hb1 <| fa ti37 rfl rfl rfl <| g rfl hb1 <| ld ti3 rfl rfl <| g rfl hb1 <| fa ti37 rfl rfl rfl <| g rfl hb1 <| ld ti3 rfl rfl <| g rfl hb1 <| eql ti3 rfl rfl <| r_nil (egA [11, 12, 13, 14, 15] 5 hb1 rfl rfl rfl rfl)) andF <| u <| mv rfl <| r_and (x := (((v1.Op == v2.Op) && (v1.A == v2.A)) && (v1.C == v2.C))) (j := 12) 5 rfl rfl rfl rfl rfl gpn (fun hb2 => g rfl hb2 <| fa ti37 rfl rfl rfl <| g rfl hb2 <| ld ti9 rfl rfl <| g rfl hb2 <| fa ti37 rfl rfl rfl <| g rfl hb2 <| ld ti9 rfl rfl <| g rfl hb2 <| seq ti9 rfl rfl <| r_nil (egA [18, 19, 20, 21, 22] 5 hb2 rfl rfl rfl rfl)) andF <| u <| mv rfl <| r_and (x := ((((v1.Op == v2.Op) && (v1.A == v2.A)) && (v1.C == v2.C)) && (v1.M == v2.M))) (j := 19) 5 rfl rfl rfl rfl rfl gpn (fun hb3 => g rfl hb3 <| fa ti37 rfl rfl rfl <| g rfl hb3 <| ld ti9 rfl rfl <| g rfl hb3 <| fa ti37 rfl rfl rfl <| g rfl hb3 <| ld ti9 rfl rfl <| g rfl hb3 <| seq ti9 rfl rfl <| r_nil (egA [25, 26, 27, 28, 29] 5 hb3 rfl rfl rfl rfl)) andF <| u <| asg rfl <| r_nil ?_
  refine sw_ret ?_
  obtain rfl := h
  exact ⟨_, rfl, [], ci rfl, rfl, trivial, rfl, Nat.le_of_ble_eq_true rfl⟩

noncomputable def law1_Short (v1 : List UInt8) (v2 : Int) : Option ((List UInt8)) :=
  cond (decide (v2 < (List.length v1 : Int))) ((cutP v1 0 v2).bind fun v3 => some v3) (some v1)
theorem law1_Short_ok (v1 : List UInt8) (v2 : Int) {r : (List UInt8)} (h : law1_Short v1 v2 = some r) : PureC Tryz.prog 18 [.isl 1 (List.map byteRow v1), .lit (.int .i64 v2)] (.isl 1 (List.map byteRow r)) := by
  refine pure_fn Tryz.func18 rfl (by kernel_rfl) rfl rfl ?_
  unfold law1_Short at h
  refine rg rfl <| u <| asg rfl <| r_nil ?_
  refine sw_seq ?_
  refine rg rfl <| u <| mv rfl <| u <| lnI ti43 rfl rfl <| u <| mv rfl <| u <| gtr ti3 rfl rfl <| r_nil ?_
  refine sw_cond rfl (fun hc1 => ?_) (fun hc1 => ?_)
  · replace h := bT hc1 h
    obtain ⟨v3, q2, h⟩ := bs h
    refine rg rfl <| u <| mv rfl <| u <| mv rfl <| u <| slI (a := 0) (b := v2) ti43 rfl ti5 rfl rfl rfl (bnd_hi rfl q2) q2 <| u <| asg rfl <| r_nil ?_
    refine sw_ret ?_
    obtain rfl := sm h
    exact ⟨_, rfl, [], ci rfl, rfl, trivial, rfl, Nat.le_of_ble_eq_true rfl⟩
  · replace h := bF hc1 h
    refine sw_skip ?_
    refine rg rfl <| u <| mv rfl <| u <| asg rfl <| r_nil ?_
    refine sw_ret ?_
    obtain rfl := sm h
    exact ⟨_, rfl, [], ci rfl, rfl, trivial, rfl, Nat.le_of_ble_eq_true rfl⟩

noncomputable def law1_Cut (v1 : List UInt8) (v2 : Int) : Option ((List UInt8)) :=
  cond (decide (v2 < (List.length v1 : Int))) ((cutP v1 0 v2).bind fun v3 => some v3) (some v1)
theorem law1_Cut_ok (v1 : List UInt8) (v2 : Int) {r : (List UInt8)} (h : law1_Cut v1 v2 = some r) : PureC Tryz.prog 43 [.lit (.string (B v1)), .lit (.int .i64 v2)] (.lit (.string (B r))) := by
  refine pure_fn Tryz.func43 rfl (by kernel_rfl) rfl rfl ?_
  unfold law1_Cut at h
  refine rg rfl <| u <| asg rfl <| r_nil ?_
  refine sw_seq ?_
  refine rg rfl <| u <| mv rfl <| u <| lnS ti9 rfl rfl <| u <| mv rfl <| u <| gtr ti3 rfl rfl <| r_nil ?_
  refine sw_cond rfl (fun hc1 => ?_) (fun hc1 => ?_)
  · replace h := bT hc1 h
    obtain ⟨v3, q2, h⟩ := bs h
    refine rg rfl <| u <| mv rfl <| u <| mv rfl <| u <| slS (a := 0) (b := v2) ti9 rfl rfl rfl (bnd_hi rfl q2) q2 <| u <| asg rfl <| r_nil ?_
    refine sw_ret ?_
    obtain rfl := sm h
    exact ⟨_, rfl, [], ci rfl, rfl, trivial, rfl, Nat.le_of_ble_eq_true rfl⟩
  · replace h := bF hc1 h
    refine sw_skip ?_
    refine rg rfl <| u <| mv rfl <| u <| asg rfl <| r_nil ?_
    refine sw_ret ?_
    obtain rfl := sm h
    exact ⟨_, rfl, [], ci rfl, rfl, trivial, rfl, Nat.le_of_ble_eq_true rfl⟩

noncomputable def law4_Cut (v1 : ApiIns) : Option (ApiIns) :=
  (law1_Cut v1.C 14).bind fun v2 => (law1_Cut v1.M 12).bind fun v3 => some (ApiIns.mk v1.Op v1.A v2 v3)
theorem law4_Cut_ok (v1 : ApiIns) {r : ApiIns} (h : law4_Cut v1 = some r) : PureC Tryz.prog 107 [.agg [.lit (.int .i64 v1.Op), .lit (.int .i64 v1.A), .lit (.string (B v1.C)), .lit (.string (B v1.M))]] (.agg [.lit (.int .i64 r.Op), .lit (.int .i64 r.A), .lit (.string (B r.C)), .lit (.string (B r.M))]) := by
  refine pure_fn Tryz.func107 rfl (by kernel_rfl) rfl rfl ?_
  unfold law4_Cut at h
  refine rg rfl <| u <| bx 0 4 rfl rfl rfl rfl <| u <| al 1 ti37 rfl <| r_nil ?_
  obtain ⟨v2, q1, h⟩ := bs h
  obtain ⟨v3, q2, h⟩ := bs h
  refine rd [(1, .mpt 0 0 0), (2, .mpt 1 0 0)] [some (4, [[.lit (.int .i64 v1.Op), .lit (.int .i64 v1.A), .lit (.string (B v2)), .lit (.string (B v3))]]), some (4, [[.lit (.int .i64 0), .lit (.int .i64 0), .lit (.string (B [])), .lit (.string (B []))]])] [7, 9] [6, 5, 4, 3, 2, 1, 0] [(9, .mpt 0 0 2), (8, .lit (.string (B v3))), (7, .lit (.string (B v1.M))), (6, .mpt 0 0 3), (5, .lit (.string (B v2))), (4, .lit (.string (B v1.C))), (3, .mpt 0 0 2)] 2 (by kernel_rfl) (by kernel_rfl) rfl (by kernel_rfl) (dtS ⟨(fun _ => pa rfl rfl rfl rfl (fa ti37 rfl rfl rfl <| ⟨rfl, rfl⟩)), (fun _ => pa rfl rfl rfl rfl (pc (law1_Cut_ok v1.M 12 q2) rfl rfl rfl <| ⟨rfl, rfl⟩)), (fun _ => pa rfl rfl rfl rfl (ld ti9 rfl rfl <| ⟨rfl, rfl⟩)), (fun _ => pa rfl rfl rfl rfl (fa ti37 rfl rfl rfl <| ⟨rfl, rfl⟩)), (fun _ => pa rfl rfl rfl rfl (pc (law1_Cut_ok v1.C 14 q1) rfl rfl rfl <| ⟨rfl, rfl⟩)), (fun _ => pa rfl rfl rfl rfl (ld ti9 rfl rfl <| ⟨rfl, rfl⟩)), (fun _ => pa rfl rfl rfl rfl (fa ti37 rfl rfl rfl <| ⟨rfl, rfl⟩)), trivial⟩ (by kernel_rfl) rfl ⟨(fun _ _ => ⟨_, rfl, rfl, sto ti9 rfl rfl rfl <| ⟨.any, [8], [(10, .mpt 0 0 3)], rfl, rfl, by kernel_rfl, trivial, dtS ⟨(fun _ => pa rfl rfl rfl rfl (fa ti37 rfl rfl rfl <| ⟨rfl, rfl⟩)), (fun h => by cases h), (fun h => by cases h), (fun h => by cases h), (fun h => by cases h), (fun h => by cases h), (fun h => by cases h), (fun h => by cases h), trivial⟩ (by kernel_rfl) rfl ⟨(fun h => by cases h), (fun _ _ => ⟨_, rfl, rfl, sto ti9 rfl rfl rfl <| ⟨.any, [], [], rfl, rfl, by kernel_rfl, trivial, dt0 ⟨(fun h => by cases h), (fun h => by cases h), (fun h => by cases h), (fun h => by cases h), (fun h => by cases h), (fun h => by cases h), (fun h => by cases h), (fun h => by cases h), trivial⟩ (by kernel_rfl) rfl ⟨[.old 0, .old 1], cv rfl (.mpt rfl) <| cv rfl (.mpt rfl) <| cn, rfl, ⟨⟨_, rfl, rsOne ⟨ci rfl, ci rfl, ci rfl, ci rfl, trivial⟩⟩, ⟨_, rfl, rsOne ⟨ci rfl, ci rfl, ci rfl, ci rfl, trivial⟩⟩, trivial⟩, rfl, Nat.le_of_ble_eq_true rfl⟩⟩⟩), trivial⟩⟩⟩), (fun _ h => by cases h), trivial⟩) ?_
  refine rg rfl <| u <| ld ti37 rfl rfl <| u <| sto ti37 rfl rfl rfl <| r_nil ?_
  refine sw_ret ?_
  obtain rfl := sm h
  exact ⟨_, rfl, [], ci rfl, rfl, trivial, rfl, Nat.le_of_ble_eq_true rfl⟩

noncomputable def op_reader_num_j1 (v2 : Int) (v5 : Int × Int × Int) (v6 : Int) : Option (Int × Int × Int) :=
  some (v5.1, (IntKind.i64.wrap (v2 + v5.2.1)), v6)
noncomputable def op_reader_num (v1 : List UInt8) (v2 : Int) (v3 : Int) : Option (Int × Int × Int) :=
  cond (!(v3 == (0 : Int))) (some (0, v2, v3)) ((cutP v1 v2 (List.length v1 : Int)).bind fun v4 => (num_Get v4).bind fun v5 => cond ((v5.2.2 == (0 : Int)) && (!(op_known v5.1))) (op_reader_num_j1 v2 v5 1) (op_reader_num_j1 v2 v5 v5.2.2))
theorem op_reader_num_ok (v1 : List UInt8) (v2 : Int) (v3 : Int) {r : Int × Int × Int} (h : op_reader_num v1 v2 v3 = some r) : SC Tryz.prog 154 [.mpt 0 0 0, .fn (.func 155) [] []] [.one 3 [.isl 1 (List.map byteRow v1), .lit (.int .i64 v2), .lit (.int .i64 v3)]] (.lit (.int .i64 r.1)) [.one 3 [.isl 1 (List.map byteRow v1), .lit (.int .i64 r.2.1), .lit (.int .i64 r.2.2)]] := by
  refine ⟨⟨trivial, trivial⟩, scall_fn Tryz.func154 rfl (by kernel_rfl) rfl ?_⟩
  unfold op_reader_num at h
  refine rg rfl <| u <| asg rfl <| r_nil ?_
  refine sw_seq ?_
  refine rg rfl <| u <| mv rfl <| u <| nc rfl rfl <| u <| fa ti151 rfl rfl rfl <| u <| ld ti45 rfl rfl <| u <| neq ti45 rfl rfl <| r_nil ?_
  refine sw_cond rfl (fun hc1 => ?_) (fun hc1 => ?_)
  · replace h := bT hc1 h
    refine rg rfl <| u <| asg rfl <| r_nil ?_
    refine sw_ret ?_
    obtain rfl := sm h
    exact ⟨_, rfl, [.old 0], ci rfl, rfl, ⟨⟨_, rfl, rsOne ⟨ci rfl, ci rfl, ci rfl, trivial⟩⟩, trivial⟩, rfl, Nat.le_of_ble_eq_true rfl⟩
  · replace h := bF hc1 h
    refine sw_skip ?_
    obtain ⟨v4, q2, h⟩ := bs h
    obtain ⟨v5, q3, h⟩ := bs h
    refine rd [(0, .mpt 0 0 0), (1, .fn (.func 155) [] []), (5, .lit (.int .i64 v5.1)), (6, .lit (.int .i64 v5.2.1)), (7, .lit (.int .i64 v5.2.2))] [some (3, [[.isl 1 (List.map byteRow v1), .lit (.int .i64 v2), .lit (.int .i64 v3)]])] [] [16, 15, 14, 13, 12, 11, 10, 9, 8, 7, 6, 5, 4, 3, 2, 1, 0] [(7, .lit (.int .i64 v5.2.2)), (6, .lit (.int .i64 v5.2.1)), (5, .lit (.int .i64 v5.1)), (26, .lit (.int .i64 v5.2.2)), (25, .lit (.int .i64 v5.2.1)), (24, .lit (.int .i64 v5.1)), (13, .tup [.lit (.int .i64 v5.1), .lit (.int .i64 v5.2.1), .lit (.int .i64 v5.2.2)]), (23, .tup [.lit (.int .i64 v5.1), .lit (.int .i64 v5.2.1), .lit (.int .i64 v5.2.2)]), (22, .isl 1 (List.map byteRow v4)), (21, .lit (.int .i64 v2)), (20, .mpt 0 0 1), (19, .mpt 0 0 0), (18, .mpt 0 0 0), (17, .isl 1 (List.map byteRow v1)), (16, .mpt 0 0 0), (15, .mpt 0 0 0), (14, .mpt 0 0 0)] 0 (by kernel_rfl) (by kernel_rfl) rfl (by kernel_rfl) (dt0 ⟨(fun _ => pa rfl rfl rfl rfl (asg rfl <| ⟨rfl, rfl⟩)), (fun _ => pa rfl rfl rfl rfl (asg rfl <| ⟨rfl, rfl⟩)), (fun _ => pa rfl rfl rfl rfl (asg rfl <| ⟨rfl, rfl⟩)), (fun _ => pa rfl rfl rfl rfl (ex rfl rfl <| ⟨rfl, rfl⟩)), (fun _ => pa rfl rfl rfl rfl (ex rfl rfl <| ⟨rfl, rfl⟩)), (fun _ => pa rfl rfl rfl rfl (ex rfl rfl <| ⟨rfl, rfl⟩)), (fun _ => pa rfl rfl rfl rfl (mv rfl <| ⟨rfl, rfl⟩)), (fun _ => pa rfl rfl rfl rfl (pc (num_Get_ok v4 q3) rfl rfl rfl <| ⟨rfl, rfl⟩)), (fun _ => pa rfl rfl rfl rfl (slI (a := v2) (b := (List.length v1 : Int)) ti43 rfl ti5 rfl rfl (bnd_lo rfl q2) rfl q2 <| ⟨rfl, rfl⟩)), (fun _ => pa rfl rfl rfl rfl (ld ti3 rfl rfl <| ⟨rfl, rfl⟩)), (fun _ => pa rfl rfl rfl rfl (fa ti151 rfl rfl rfl <| ⟨rfl, rfl⟩)), (fun _ => pa rfl rfl rfl rfl (nc rfl rfl <| ⟨rfl, rfl⟩)), (fun _ => pa rfl rfl rfl rfl (mv rfl <| ⟨rfl, rfl⟩)), (fun _ => pa rfl rfl rfl rfl (ld ti43 rfl rfl <| ⟨rfl, rfl⟩)), (fun _ => pa rfl rfl rfl rfl (fa ti151 rfl rfl rfl <| ⟨rfl, rfl⟩)), (fun _ => pa rfl rfl rfl rfl (nc rfl rfl <| ⟨rfl, rfl⟩)), (fun _ => pa rfl rfl rfl rfl (mv rfl <| ⟨rfl, rfl⟩)), trivial⟩ (by kernel_rfl) rfl ⟨[.old 0], cv rfl (.mpt rfl) <| ce rfl rfl <| ce rfl rfl <| ce rfl rfl <| ce rfl rfl <| cn, rfl, ⟨⟨_, rfl, rsOne ⟨ci rfl, ci rfl, ci rfl, trivial⟩⟩, trivial⟩, rfl, Nat.le_of_ble_eq_true rfl⟩) ?_
    refine sw_meet (X := Int) (fun z => [(0, .mpt 0 0 0), (5, .lit (.int .i64 v5.1)), (6, .lit (.int .i64 v5.2.1)), (7, .lit (.int .i64 z))]) (fun z => [some (3, [[.isl 1 (List.map byteRow v1), .lit (.int .i64 v2), .lit (.int .i64 v3)]])]) (fun z => op_reader_num_j1 v2 v5 z = some r) ?_ ?_
    · refine rg rfl <| u <| mv rfl <| u <| eql ti45 rfl rfl <| u <| mv rfl <| r_and (x := ((v5.2.2 == (0 : Int)) && (!(op_known v5.1)))) (j := 2) 4 rfl rfl rfl rfl rfl gpn (fun hb4 => g rfl hb4 <| mv rfl <| g rfl hb4 <| mv rfl <| g rfl hb4 <| pc (op_known_ok v5.1 rfl) rfl rfl rfl <| g rfl hb4 <| nt rfl <| r_nil (egA [30, 31, 32, 33] 4 hb4 rfl rfl rfl rfl)) andF <| r_nil ?_
      refine sw_cond rfl (fun hc5 => ?_) (fun hc5 => ?_)
      · replace h := bT hc5 h
        exact rl rfl <| u <| asg rfl <| r_nil (⟨1, h, [.old 0], cv rfl (.mpt rfl) <| ce rfl rfl <| ce rfl rfl <| ce rfl rfl <| cn, rfl, ⟨⟨_, rfl, rsOne ⟨ci rfl, ci rfl, ci rfl, trivial⟩⟩, trivial⟩, rfl, Nat.le_of_ble_eq_true rfl⟩)
      · replace h := bF hc5 h
        refine sw_skip ?_
        exact ⟨v5.2.2, h, [.old 0], cv rfl (.mpt rfl) <| ce rfl rfl <| ce rfl rfl <| ce rfl rfl <| cn, rfl, ⟨⟨_, rfl, rsOne ⟨ci rfl, ci rfl, ci rfl, trivial⟩⟩, trivial⟩, rfl, Nat.le_of_ble_eq_true rfl⟩
    · rintro v6 h
      replace h : op_reader_num_j1 v2 v5 v6 = some r := h
      unfold op_reader_num_j1 at h
      refine rg rfl <| u <| mv rfl <| u <| mv rfl <| u <| mv rfl <| u <| nc rfl rfl <| u <| fa ti151 rfl rfl rfl <| u <| ld ti3 rfl rfl <| u <| mv rfl <| u <| add ti3 rfl rfl <| u <| mv rfl <| u <| nc rfl rfl <| u <| fa ti151 rfl rfl rfl <| u <| sto ti3 rfl rfl rfl <| u <| nc rfl rfl <| u <| fa ti151 rfl rfl rfl <| u <| sto ti45 rfl rfl rfl <| r_nil ?_
      refine rg rfl <| u <| mv rfl <| u <| asg rfl <| r_nil ?_
      refine sw_ret ?_
      obtain rfl := sm h
      exact ⟨_, rfl, [.old 0], ci rfl, rfl, ⟨⟨_, rfl, rsOne ⟨ci rfl, ci rfl, ci rfl, trivial⟩⟩, trivial⟩, rfl, Nat.le_of_ble_eq_true rfl⟩

noncomputable def op_a (v1 : Int) : Bool :=
  ((((v1 == (1 : Int)) || (v1 == (3 : Int))) || (v1 == (4 : Int))) || (op_Jumps v1))
theorem op_a_ok (v1 : Int) {r : Bool} (h : op_a v1 = r) : PureC Tryz.prog 151 [.lit (.int .i64 v1)] (.lit (.bool r)) := by
  refine pure_fn Tryz.func151 rfl (by kernel_rfl) rfl rfl ?_
  unfold op_a at h
  refine rg rfl <| u <| asg rfl <| r_nil ?_
  refine rg rfl <| u <| mv rfl <| u <| eql ti3 rfl rfl <| u <| mv rfl <| r_or (x := ((v1 == (1 : Int)) || (v1 == (3 : Int)))) (j := 2) 2 rfl rfl rfl rfl rfl gpn (fun hb1 => g rfl hb1 <| mv rfl <| g rfl hb1 <| eql ti3 rfl rfl <| r_nil (egO [6, 7] 2 hb1 rfl rfl rfl rfl)) orT <| u <| mv rfl <| r_or (x := (((v1 == (1 : Int)) || (v1 == (3 : Int))) || (v1 == (4 : Int)))) (j := 6) 2 rfl rfl rfl rfl rfl gpn (fun hb2 => g rfl hb2 <| mv rfl <| g rfl hb2 <| eql ti3 rfl rfl <| r_nil (egO [10, 11] 2 hb2 rfl rfl rfl rfl)) orT <| u <| mv rfl <| r_or (x := ((((v1 == (1 : Int)) || (v1 == (3 : Int))) || (v1 == (4 : Int))) || (op_Jumps v1))) (j := 10) 2 rfl rfl rfl rfl rfl gpn (fun hb3 => g rfl hb3 <| mv rfl <| g rfl hb3 <| pc (op_Jumps_ok v1 rfl) rfl rfl rfl <| r_nil (egO [14, 15] 2 hb3 rfl rfl rfl rfl)) orT <| u <| asg rfl <| r_nil ?_
  refine sw_ret ?_
  obtain rfl := h
  exact ⟨_, rfl, [], ci rfl, rfl, trivial, rfl, Nat.le_of_ble_eq_true rfl⟩

noncomputable def op_Get_1 (v1 : Int) (v2 : Int) (v3 : Int) (v4 : List UInt8) (v5 : List UInt8) : Bool :=
  (op_mayA v2 v1)
theorem op_Get_1_ok (v1 : Int) (v2 : Int) (v3 : Int) (v4 : List UInt8) (v5 : List UInt8) {r : Bool} (h : op_Get_1 v1 v2 v3 v4 v5 = r) : PureC Tryz.prog 156 [.lit (.int .i64 v1), .ipt 4 [[.lit (.int .i64 v2), .lit (.int .i64 v3), .lit (.string (B v4)), .lit (.string (B v5))]] 0 0] (.lit (.bool r)) := by
  refine pure_fn Tryz.func156 rfl (by kernel_rfl) rfl rfl ?_
  unfold op_Get_1 at h
  refine rg rfl <| u <| asg rfl <| r_nil ?_
  refine rg rfl <| u <| fa ti37 rfl rfl rfl <| u <| ld ti3 rfl rfl <| u <| mv rfl <| u <| pc (op_mayA_ok v2 v1 rfl) rfl rfl rfl <| u <| asg rfl <| r_nil ?_
  refine sw_ret ?_
  obtain rfl := h
  exact ⟨_, rfl, [], ci rfl, rfl, trivial, rfl, Nat.le_of_ble_eq_true rfl⟩

noncomputable def op_reader_num_s2_j1 (v2 : Int) (v9 : Int × Int × Int) (v10 : Int) : Option (Int × Int × Int) :=
  some (v9.1, (IntKind.i64.wrap (v2 + v9.2.1)), v10)
noncomputable def op_reader_num_s2 (v1 : List UInt8) (v2 : Int) (v3 : Int) (v4 : Int) (v5 : Int) (v6 : List UInt8) (v7 : List UInt8) : Option (Int × Int × Int) :=
  cond (!(v3 == (0 : Int))) (some (0, v2, v3)) ((cutP v1 v2 (List.length v1 : Int)).bind fun v8 => (num_Get v8).bind fun v9 => cond ((v9.2.2 == (0 : Int)) && (!(op_Get_1 v9.1 v4 v5 v6 v7))) (op_reader_num_s2_j1 v2 v9 1) (op_reader_num_s2_j1 v2 v9 v9.2.2))
theorem op_reader_num_s2_ok (v1 : List UInt8) (v2 : Int) (v3 : Int) (v4 : Int) (v5 : Int) (v6 : List UInt8) (v7 : List UInt8) {r : Int × Int × Int} (h : op_reader_num_s2 v1 v2 v3 v4 v5 v6 v7 = some r) : SC Tryz.prog 154 [.mpt 0 0 0, .fn (.func 156) [] [.mpt 1 0 0]] [.one 3 [.isl 1 (List.map byteRow v1), .lit (.int .i64 v2), .lit (.int .i64 v3)], .one 4 [.lit (.int .i64 v4), .lit (.int .i64 v5), .lit (.string (B v6)), .lit (.string (B v7))]] (.lit (.int .i64 r.1)) [.one 3 [.isl 1 (List.map byteRow v1), .lit (.int .i64 r.2.1), .lit (.int .i64 r.2.2)], .one 4 [.lit (.int .i64 v4), .lit (.int .i64 v5), .lit (.string (B v6)), .lit (.string (B v7))]] := by
  refine ⟨⟨trivial, trivial, trivial⟩, scall_fn Tryz.func154 rfl (by kernel_rfl) rfl ?_⟩
  unfold op_reader_num_s2 at h
  refine rg rfl <| u <| asg rfl <| r_nil ?_
  refine sw_seq ?_
  refine rg rfl <| u <| mv rfl <| u <| nc rfl rfl <| u <| fa ti151 rfl rfl rfl <| u <| ld ti45 rfl rfl <| u <| neq ti45 rfl rfl <| r_nil ?_
  refine sw_cond rfl (fun hc1 => ?_) (fun hc1 => ?_)
  · replace h := bT hc1 h
    refine rg rfl <| u <| asg rfl <| r_nil ?_
    refine sw_ret ?_
    obtain rfl := sm h
    exact ⟨_, rfl, [.old 0, .old 1], ci rfl, rfl, ⟨⟨_, rfl, rsOne ⟨ci rfl, ci rfl, ci rfl, trivial⟩⟩, ⟨_, rfl, rsOne ⟨ci rfl, ci rfl, ci rfl, ci rfl, trivial⟩⟩, trivial⟩, rfl, Nat.le_of_ble_eq_true rfl⟩
  · replace h := bF hc1 h
    refine sw_skip ?_
    obtain ⟨v8, q2, h⟩ := bs h
    obtain ⟨v9, q3, h⟩ := bs h
    refine rd [(0, .mpt 0 0 0), (1, .fn (.func 156) [] [.mpt 1 0 0]), (5, .lit (.int .i64 v9.1)), (6, .lit (.int .i64 v9.2.1)), (7, .lit (.int .i64 v9.2.2))] [some (3, [[.isl 1 (List.map byteRow v1), .lit (.int .i64 v2), .lit (.int .i64 v3)]]), some (4, [[.lit (.int .i64 v4), .lit (.int .i64 v5), .lit (.string (B v6)), .lit (.string (B v7))]])] [] [16, 15, 14, 13, 12, 11, 10, 9, 8, 7, 6, 5, 4, 3, 2, 1, 0] [(7, .lit (.int .i64 v9.2.2)), (6, .lit (.int .i64 v9.2.1)), (5, .lit (.int .i64 v9.1)), (26, .lit (.int .i64 v9.2.2)), (25, .lit (.int .i64 v9.2.1)), (24, .lit (.int .i64 v9.1)), (13, .tup [.lit (.int .i64 v9.1), .lit (.int .i64 v9.2.1), .lit (.int .i64 v9.2.2)]), (23, .tup [.lit (.int .i64 v9.1), .lit (.int .i64 v9.2.1), .lit (.int .i64 v9.2.2)]), (22, .isl 1 (List.map byteRow v8)), (21, .lit (.int .i64 v2)), (20, .mpt 0 0 1), (19, .mpt 0 0 0), (18, .mpt 0 0 0), (17, .isl 1 (List.map byteRow v1)), (16, .mpt 0 0 0), (15, .mpt 0 0 0), (14, .mpt 0 0 0)] 0 (by kernel_rfl) (by kernel_rfl) rfl (by kernel_rfl) (dt0 ⟨(fun _ => pa rfl rfl rfl rfl (asg rfl <| ⟨rfl, rfl⟩)), (fun _ => pa rfl rfl rfl rfl (asg rfl <| ⟨rfl, rfl⟩)), (fun _ => pa rfl rfl rfl rfl (asg rfl <| ⟨rfl, rfl⟩)), (fun _ => pa rfl rfl rfl rfl (ex rfl rfl <| ⟨rfl, rfl⟩)), (fun _ => pa rfl rfl rfl rfl (ex rfl rfl <| ⟨rfl, rfl⟩)), (fun _ => pa rfl rfl rfl rfl (ex rfl rfl <| ⟨rfl, rfl⟩)), (fun _ => pa rfl rfl rfl rfl (mv rfl <| ⟨rfl, rfl⟩)), (fun _ => pa rfl rfl rfl rfl (pc (num_Get_ok v8 q3) rfl rfl rfl <| ⟨rfl, rfl⟩)), (fun _ => pa rfl rfl rfl rfl (slI (a := v2) (b := (List.length v1 : Int)) ti43 rfl ti5 rfl rfl (bnd_lo rfl q2) rfl q2 <| ⟨rfl, rfl⟩)), (fun _ => pa rfl rfl rfl rfl (ld ti3 rfl rfl <| ⟨rfl, rfl⟩)), (fun _ => pa rfl rfl rfl rfl (fa ti151 rfl rfl rfl <| ⟨rfl, rfl⟩)), (fun _ => pa rfl rfl rfl rfl (nc rfl rfl <| ⟨rfl, rfl⟩)), (fun _ => pa rfl rfl rfl rfl (mv rfl <| ⟨rfl, rfl⟩)), (fun _ => pa rfl rfl rfl rfl (ld ti43 rfl rfl <| ⟨rfl, rfl⟩)), (fun _ => pa rfl rfl rfl rfl (fa ti151 rfl rfl rfl <| ⟨rfl, rfl⟩)), (fun _ => pa rfl rfl rfl rfl (nc rfl rfl <| ⟨rfl, rfl⟩)), (fun _ => pa rfl rfl rfl rfl (mv rfl <| ⟨rfl, rfl⟩)), trivial⟩ (by kernel_rfl) rfl ⟨[.old 0, .old 1], cv rfl (.mpt rfl) <| cv rfl (rsFn trivial ⟨(.mpt rfl), trivial⟩) <| ce rfl rfl <| ce rfl rfl <| ce rfl rfl <| cn, rfl, ⟨⟨_, rfl, rsOne ⟨ci rfl, ci rfl, ci rfl, trivial⟩⟩, ⟨_, rfl, rsOne ⟨ci rfl, ci rfl, ci rfl, ci rfl, trivial⟩⟩, trivial⟩, rfl, Nat.le_of_ble_eq_true rfl⟩) ?_
    refine sw_meet (X := Int) (fun z => [(0, .mpt 0 0 0), (5, .lit (.int .i64 v9.1)), (6, .lit (.int .i64 v9.2.1)), (7, .lit (.int .i64 z))]) (fun z => [some (3, [[.isl 1 (List.map byteRow v1), .lit (.int .i64 v2), .lit (.int .i64 v3)]]), some (4, [[.lit (.int .i64 v4), .lit (.int .i64 v5), .lit (.string (B v6)), .lit (.string (B v7))]])]) (fun z => op_reader_num_s2_j1 v2 v9 z = some r) ?_ ?_
    · refine rg rfl <| u <| mv rfl <| u <| eql ti45 rfl rfl <| u <| mv rfl <| r_and (x := ((v9.2.2 == (0 : Int)) && (!(op_Get_1 v9.1 v4 v5 v6 v7)))) (j := 2) 4 rfl rfl rfl rfl rfl gpn (fun hb4 => g rfl hb4 <| mv rfl <| g rfl hb4 <| mv rfl <| g rfl hb4 <| pcs (op_Get_1_ok v9.1 v4 v5 v6 v7 rfl) rfl rfl (.cons (si rfl) (.cons (sealBox rfl ⟨(si rfl), (si rfl), (si rfl), (si rfl), trivial⟩) .nil)) plainB <| g rfl hb4 <| nt rfl <| r_nil (egA [30, 31, 32, 33] 4 hb4 rfl rfl rfl rfl)) andF <| r_nil ?_
      refine sw_cond rfl (fun hc5 => ?_) (fun hc5 => ?_)
      · replace h := bT hc5 h
        exact rl rfl <| u <| asg rfl <| r_nil (⟨1, h, [.old 0, .old 1], cv rfl (.mpt rfl) <| ce rfl rfl <| ce rfl rfl <| ce rfl rfl <| cn, rfl, ⟨⟨_, rfl, rsOne ⟨ci rfl, ci rfl, ci rfl, trivial⟩⟩, ⟨_, rfl, rsOne ⟨ci rfl, ci rfl, ci rfl, ci rfl, trivial⟩⟩, trivial⟩, rfl, Nat.le_of_ble_eq_true rfl⟩)
      · replace h := bF hc5 h
        refine sw_skip ?_
        exact ⟨v9.2.2, h, [.old 0, .old 1], cv rfl (.mpt rfl) <| ce rfl rfl <| ce rfl rfl <| ce rfl rfl <| cn, rfl, ⟨⟨_, rfl, rsOne ⟨ci rfl, ci rfl, ci rfl, trivial⟩⟩, ⟨_, rfl, rsOne ⟨ci rfl, ci rfl, ci rfl, ci rfl, trivial⟩⟩, trivial⟩, rfl, Nat.le_of_ble_eq_true rfl⟩
    · rintro v10 h
      replace h : op_reader_num_s2_j1 v2 v9 v10 = some r := h
      unfold op_reader_num_s2_j1 at h
      refine rg rfl <| u <| mv rfl <| u <| mv rfl <| u <| mv rfl <| u <| nc rfl rfl <| u <| fa ti151 rfl rfl rfl <| u <| ld ti3 rfl rfl <| u <| mv rfl <| u <| add ti3 rfl rfl <| u <| mv rfl <| u <| nc rfl rfl <| u <| fa ti151 rfl rfl rfl <| u <| sto ti3 rfl rfl rfl <| u <| nc rfl rfl <| u <| fa ti151 rfl rfl rfl <| u <| sto ti45 rfl rfl rfl <| r_nil ?_
      refine rg rfl <| u <| mv rfl <| u <| asg rfl <| r_nil ?_
      refine sw_ret ?_
      obtain rfl := sm h
      exact ⟨_, rfl, [.old 0, .old 1], ci rfl, rfl, ⟨⟨_, rfl, rsOne ⟨ci rfl, ci rfl, ci rfl, trivial⟩⟩, ⟨_, rfl, rsOne ⟨ci rfl, ci rfl, ci rfl, ci rfl, trivial⟩⟩, trivial⟩, rfl, Nat.le_of_ble_eq_true rfl⟩

noncomputable def op_Get_2 (v1 : List UInt8) (v2 : Int) (v3 : Int) (v4 : List UInt8) (v5 : List UInt8) : Option (Bool) :=
  (op_mayC v2 v1).bind fun v6 => some v6
theorem op_Get_2_ok (v1 : List UInt8) (v2 : Int) (v3 : Int) (v4 : List UInt8) (v5 : List UInt8) {r : Bool} (h : op_Get_2 v1 v2 v3 v4 v5 = some r) : PureC Tryz.prog 159 [.lit (.string (B v1)), .ipt 4 [[.lit (.int .i64 v2), .lit (.int .i64 v3), .lit (.string (B v4)), .lit (.string (B v5))]] 0 0] (.lit (.bool r)) := by
  refine pure_fn Tryz.func159 rfl (by kernel_rfl) rfl rfl ?_
  unfold op_Get_2 at h
  refine rg rfl <| u <| asg rfl <| r_nil ?_
  obtain ⟨v6, q1, h⟩ := bs h
  refine rg rfl <| u <| fa ti37 rfl rfl rfl <| u <| ld ti3 rfl rfl <| u <| mv rfl <| u <| pc (op_mayC_ok v2 v1 q1) rfl rfl rfl <| u <| asg rfl <| r_nil ?_
  refine sw_ret ?_
  obtain rfl := sm h
  exact ⟨_, rfl, [], ci rfl, rfl, trivial, rfl, Nat.le_of_ble_eq_true rfl⟩

noncomputable def op_reader_text_j1 (v2 : Int) (v9 : (List UInt8) × Int × Int) (v12 : Int) : Option ((List UInt8) × Int × Int) :=
  some (v9.1, (IntKind.i64.wrap (v2 + v9.2.1)), v12)
noncomputable def op_reader_text (v1 : List UInt8) (v2 : Int) (v3 : Int) (v4 : Int) (v5 : Int) (v6 : List UInt8) (v7 : List UInt8) : Option ((List UInt8) × Int × Int) :=
  cond (!(v3 == (0 : Int))) (some ([], v2, v3)) ((cutP v1 v2 (List.length v1 : Int)).bind fun v8 => (num_GetText v8).bind fun v9 => (cond (v9.2.2 == (0 : Int)) ((op_Get_2 v9.1 v4 v5 v6 v7).bind fun v10 => some (!v10)) (some false)).bind fun v11 => cond v11 (op_reader_text_j1 v2 v9 1) (op_reader_text_j1 v2 v9 v9.2.2))
theorem op_reader_text_ok (v1 : List UInt8) (v2 : Int) (v3 : Int) (v4 : Int) (v5 : Int) (v6 : List UInt8) (v7 : List UInt8) {r : (List UInt8) × Int × Int} (h : op_reader_text v1 v2 v3 v4 v5 v6 v7 = some r) : SC Tryz.prog 158 [.mpt 0 0 0, .fn (.func 159) [] [.mpt 1 0 0]] [.one 3 [.isl 1 (List.map byteRow v1), .lit (.int .i64 v2), .lit (.int .i64 v3)], .one 4 [.lit (.int .i64 v4), .lit (.int .i64 v5), .lit (.string (B v6)), .lit (.string (B v7))]] (.lit (.string (B r.1))) [.one 3 [.isl 1 (List.map byteRow v1), .lit (.int .i64 r.2.1), .lit (.int .i64 r.2.2)], .one 4 [.lit (.int .i64 v4), .lit (.int .i64 v5), .lit (.string (B v6)), .lit (.string (B v7))]] := by
  refine ⟨⟨trivial, trivial, trivial⟩, scall_fn Tryz.func158 rfl (by kernel_rfl) rfl ?_⟩
  unfold op_reader_text at h
  refine rg rfl <| u <| asg rfl <| r_nil ?_
  refine sw_seq ?_
  refine rg rfl <| u <| mv rfl <| u <| nc rfl rfl <| u <| fa ti151 rfl rfl rfl <| u <| ld ti45 rfl rfl <| u <| neq ti45 rfl rfl <| r_nil ?_
  refine sw_cond rfl (fun hc1 => ?_) (fun hc1 => ?_)
  · replace h := bT hc1 h
    refine rg rfl <| u <| asg rfl <| r_nil ?_
    refine sw_ret ?_
    obtain rfl := sm h
    exact ⟨_, rfl, [.old 0, .old 1], ci rfl, rfl, ⟨⟨_, rfl, rsOne ⟨ci rfl, ci rfl, ci rfl, trivial⟩⟩, ⟨_, rfl, rsOne ⟨ci rfl, ci rfl, ci rfl, ci rfl, trivial⟩⟩, trivial⟩, rfl, Nat.le_of_ble_eq_true rfl⟩
  · replace h := bF hc1 h
    refine sw_skip ?_
    obtain ⟨v8, q2, h⟩ := bs h
    obtain ⟨v9, q3, h⟩ := bs h
    refine rd [(0, .mpt 0 0 0), (1, .fn (.func 159) [] [.mpt 1 0 0]), (5, .lit (.string (B v9.1))), (6, .lit (.int .i64 v9.2.1)), (7, .lit (.int .i64 v9.2.2))] [some (3, [[.isl 1 (List.map byteRow v1), .lit (.int .i64 v2), .lit (.int .i64 v3)]]), some (4, [[.lit (.int .i64 v4), .lit (.int .i64 v5), .lit (.string (B v6)), .lit (.string (B v7))]])] [] [16, 15, 14, 13, 12, 11, 10, 9, 8, 7, 6, 5, 4, 3, 2, 1, 0] [(7, .lit (.int .i64 v9.2.2)), (6, .lit (.int .i64 v9.2.1)), (5, .lit (.string (B v9.1))), (26, .lit (.int .i64 v9.2.2)), (25, .lit (.int .i64 v9.2.1)), (24, .lit (.string (B v9.1))), (13, .tup [.lit (.string (B v9.1)), .lit (.int .i64 v9.2.1), .lit (.int .i64 v9.2.2)]), (23, .tup [.lit (.string (B v9.1)), .lit (.int .i64 v9.2.1), .lit (.int .i64 v9.2.2)]), (22, .isl 1 (List.map byteRow v8)), (21, .lit (.int .i64 v2)), (20, .mpt 0 0 1), (19, .mpt 0 0 0), (18, .mpt 0 0 0), (17, .isl 1 (List.map byteRow v1)), (16, .mpt 0 0 0), (15, .mpt 0 0 0), (14, .mpt 0 0 0)] 0 (by kernel_rfl) (by kernel_rfl) rfl (by kernel_rfl) (dt0 ⟨(fun _ => pa rfl rfl rfl rfl (asg rfl <| ⟨rfl, rfl⟩)), (fun _ => pa rfl rfl rfl rfl (asg rfl <| ⟨rfl, rfl⟩)), (fun _ => pa rfl rfl rfl rfl (asg rfl <| ⟨rfl, rfl⟩)), (fun _ => pa rfl rfl rfl rfl (ex rfl rfl <| ⟨rfl, rfl⟩)), (fun _ => pa rfl rfl rfl rfl (ex rfl rfl <| ⟨rfl, rfl⟩)), (fun _ => pa rfl rfl rfl rfl (ex rfl rfl <| ⟨rfl, rfl⟩)), (fun _ => pa rfl rfl rfl rfl (mv rfl <| ⟨rfl, rfl⟩)), (fun _ => pa rfl rfl rfl rfl (pc (num_GetText_ok v8 q3) rfl rfl rfl <| ⟨rfl, rfl⟩)), (fun _ => pa rfl rfl rfl rfl (slI (a := v2) (b := (List.length v1 : Int)) ti43 rfl ti5 rfl rfl (bnd_lo rfl q2) rfl q2 <| ⟨rfl, rfl⟩)), (fun _ => pa rfl rfl rfl rfl (ld ti3 rfl rfl <| ⟨rfl, rfl⟩)), (fun _ => pa rfl rfl rfl rfl (fa ti151 rfl rfl rfl <| ⟨rfl, rfl⟩)), (fun _ => pa rfl rfl rfl rfl (nc rfl rfl <| ⟨rfl, rfl⟩)), (fun _ => pa rfl rfl rfl rfl (mv rfl <| ⟨rfl, rfl⟩)), (fun _ => pa rfl rfl rfl rfl (ld ti43 rfl rfl <| ⟨rfl, rfl⟩)), (fun _ => pa rfl rfl rfl rfl (fa ti151 rfl rfl rfl <| ⟨rfl, rfl⟩)), (fun _ => pa rfl rfl rfl rfl (nc rfl rfl <| ⟨rfl, rfl⟩)), (fun _ => pa rfl rfl rfl rfl (mv rfl <| ⟨rfl, rfl⟩)), trivial⟩ (by kernel_rfl) rfl ⟨[.old 0, .old 1], cv rfl (.mpt rfl) <| cv rfl (rsFn trivial ⟨(.mpt rfl), trivial⟩) <| ce rfl rfl <| ce rfl rfl <| ce rfl rfl <| cn, rfl, ⟨⟨_, rfl, rsOne ⟨ci rfl, ci rfl, ci rfl, trivial⟩⟩, ⟨_, rfl, rsOne ⟨ci rfl, ci rfl, ci rfl, ci rfl, trivial⟩⟩, trivial⟩, rfl, Nat.le_of_ble_eq_true rfl⟩) ?_
    refine sw_meet (X := Int) (fun z => [(0, .mpt 0 0 0), (5, .lit (.string (B v9.1))), (6, .lit (.int .i64 v9.2.1)), (7, .lit (.int .i64 z))]) (fun z => [some (3, [[.isl 1 (List.map byteRow v1), .lit (.int .i64 v2), .lit (.int .i64 v3)]]), some (4, [[.lit (.int .i64 v4), .lit (.int .i64 v5), .lit (.string (B v6)), .lit (.string (B v7))]])]) (fun z => op_reader_text_j1 v2 v9 z = some r) ?_ ?_
    · obtain ⟨v11, q6, h⟩ := bs h
      refine rg rfl <| u <| mv rfl <| u <| eql ti45 rfl rfl <| u <| mv rfl <| r_and (x := v11) (j := 2) 4 rfl rfl rfl rfl rfl gpn (fun hb4 => by replace q6 := bT hb4 q6; obtain ⟨v10, q5, q6⟩ := bs q6; obtain rfl := sm q6; exact g rfl hb4 <| mv rfl <| g rfl hb4 <| mv rfl <| g rfl hb4 <| pcs (op_Get_2_ok v9.1 v4 v5 v6 v7 q5) rfl rfl (.cons (si rfl) (.cons (sealBox rfl ⟨(si rfl), (si rfl), (si rfl), (si rfl), trivial⟩) .nil)) plainB <| g rfl hb4 <| nt rfl <| r_nil (eg [30, 31, 32, 33] 4 rfl rfl rfl rfl)) (fun hb => (sm (bF hb q6)).symm) <| r_nil ?_
      refine sw_cond rfl (fun hc7 => ?_) (fun hc7 => ?_)
      · replace h := bT hc7 h
        exact rl rfl <| u <| asg rfl <| r_nil (⟨1, h, [.old 0, .old 1], cv rfl (.mpt rfl) <| ce rfl rfl <| ce rfl rfl <| ce rfl rfl <| cn, rfl, ⟨⟨_, rfl, rsOne ⟨ci rfl, ci rfl, ci rfl, trivial⟩⟩, ⟨_, rfl, rsOne ⟨ci rfl, ci rfl, ci rfl, ci rfl, trivial⟩⟩, trivial⟩, rfl, Nat.le_of_ble_eq_true rfl⟩)
      · replace h := bF hc7 h
        refine sw_skip ?_
        exact ⟨v9.2.2, h, [.old 0, .old 1], cv rfl (.mpt rfl) <| ce rfl rfl <| ce rfl rfl <| ce rfl rfl <| cn, rfl, ⟨⟨_, rfl, rsOne ⟨ci rfl, ci rfl, ci rfl, trivial⟩⟩, ⟨_, rfl, rsOne ⟨ci rfl, ci rfl, ci rfl, ci rfl, trivial⟩⟩, trivial⟩, rfl, Nat.le_of_ble_eq_true rfl⟩
    · rintro v12 h
      replace h : op_reader_text_j1 v2 v9 v12 = some r := h
      unfold op_reader_text_j1 at h
      refine rg rfl <| u <| mv rfl <| u <| mv rfl <| u <| mv rfl <| u <| nc rfl rfl <| u <| fa ti151 rfl rfl rfl <| u <| ld ti3 rfl rfl <| u <| mv rfl <| u <| add ti3 rfl rfl <| u <| mv rfl <| u <| nc rfl rfl <| u <| fa ti151 rfl rfl rfl <| u <| sto ti3 rfl rfl rfl <| u <| nc rfl rfl <| u <| fa ti151 rfl rfl rfl <| u <| sto ti45 rfl rfl rfl <| r_nil ?_
      refine rg rfl <| u <| mv rfl <| u <| asg rfl <| r_nil ?_
      refine sw_ret ?_
      obtain rfl := sm h
      exact ⟨_, rfl, [.old 0, .old 1], ci rfl, rfl, ⟨⟨_, rfl, rsOne ⟨ci rfl, ci rfl, ci rfl, trivial⟩⟩, ⟨_, rfl, rsOne ⟨ci rfl, ci rfl, ci rfl, ci rfl, trivial⟩⟩, trivial⟩, rfl, Nat.le_of_ble_eq_true rfl⟩

noncomputable def op_Get_3 (v1 : List UInt8) (v2 : Int) (v3 : Int) (v4 : List UInt8) (v5 : List UInt8) : Option (Bool) :=
  (op_mayM v2 v1).bind fun v6 => some v6
theorem op_Get_3_ok (v1 : List UInt8) (v2 : Int) (v3 : Int) (v4 : List UInt8) (v5 : List UInt8) {r : Bool} (h : op_Get_3 v1 v2 v3 v4 v5 = some r) : PureC Tryz.prog 161 [.lit (.string (B v1)), .ipt 4 [[.lit (.int .i64 v2), .lit (.int .i64 v3), .lit (.string (B v4)), .lit (.string (B v5))]] 0 0] (.lit (.bool r)) := by
  refine pure_fn Tryz.func161 rfl (by kernel_rfl) rfl rfl ?_
  unfold op_Get_3 at h
  refine rg rfl <| u <| asg rfl <| r_nil ?_
  obtain ⟨v6, q1, h⟩ := bs h
  refine rg rfl <| u <| fa ti37 rfl rfl rfl <| u <| ld ti3 rfl rfl <| u <| mv rfl <| u <| pc (op_mayM_ok v2 v1 q1) rfl rfl rfl <| u <| asg rfl <| r_nil ?_
  refine sw_ret ?_
  obtain rfl := sm h
  exact ⟨_, rfl, [], ci rfl, rfl, trivial, rfl, Nat.le_of_ble_eq_true rfl⟩

noncomputable def op_reader_text_s2_j1 (v2 : Int) (v9 : (List UInt8) × Int × Int) (v12 : Int) : Option ((List UInt8) × Int × Int) :=
  some (v9.1, (IntKind.i64.wrap (v2 + v9.2.1)), v12)
noncomputable def op_reader_text_s2 (v1 : List UInt8) (v2 : Int) (v3 : Int) (v4 : Int) (v5 : Int) (v6 : List UInt8) (v7 : List UInt8) : Option ((List UInt8) × Int × Int) :=
  cond (!(v3 == (0 : Int))) (some ([], v2, v3)) ((cutP v1 v2 (List.length v1 : Int)).bind fun v8 => (num_GetText v8).bind fun v9 => (cond (v9.2.2 == (0 : Int)) ((op_Get_3 v9.1 v4 v5 v6 v7).bind fun v10 => some (!v10)) (some false)).bind fun v11 => cond v11 (op_reader_text_s2_j1 v2 v9 1) (op_reader_text_s2_j1 v2 v9 v9.2.2))
theorem op_reader_text_s2_ok (v1 : List UInt8) (v2 : Int) (v3 : Int) (v4 : Int) (v5 : Int) (v6 : List UInt8) (v7 : List UInt8) {r : (List UInt8) × Int × Int} (h : op_reader_text_s2 v1 v2 v3 v4 v5 v6 v7 = some r) : SC Tryz.prog 158 [.mpt 0 0 0, .fn (.func 161) [] [.mpt 1 0 0]] [.one 3 [.isl 1 (List.map byteRow v1), .lit (.int .i64 v2), .lit (.int .i64 v3)], .one 4 [.lit (.int .i64 v4), .lit (.int .i64 v5), .lit (.string (B v6)), .lit (.string (B v7))]] (.lit (.string (B r.1))) [.one 3 [.isl 1 (List.map byteRow v1), .lit (.int .i64 r.2.1), .lit (.int .i64 r.2.2)], .one 4 [.lit (.int .i64 v4), .lit (.int .i64 v5), .lit (.string (B v6)), .lit (.string (B v7))]] := by
  refine ⟨⟨trivial, trivial, trivial⟩, scall_fn Tryz.func158 rfl (by kernel_rfl) rfl ?_⟩
  unfold op_reader_text_s2 at h
  refine rg rfl <| u <| asg rfl <| r_nil ?_
  refine sw_seq ?_
  refine rg rfl <| u <| mv rfl <| u <| nc rfl rfl <| u <| fa ti151 rfl rfl rfl <| u <| ld ti45 rfl rfl <| u <| neq ti45 rfl rfl <| r_nil ?_
  refine sw_cond rfl (fun hc1 => ?_) (fun hc1 => ?_)
  · replace h := bT hc1 h
    refine rg rfl <| u <| asg rfl <| r_nil ?_
    refine sw_ret ?_
    obtain rfl := sm h
    exact ⟨_, rfl, [.old 0, .old 1], ci rfl, rfl, ⟨⟨_, rfl, rsOne ⟨ci rfl, ci rfl, ci rfl, trivial⟩⟩, ⟨_, rfl, rsOne ⟨ci rfl, ci rfl, ci rfl, ci rfl, trivial⟩⟩, trivial⟩, rfl, Nat.le_of_ble_eq_true rfl⟩
  · replace h := bF hc1 h
    refine sw_skip ?_
    obtain ⟨v8, q2, h⟩ := bs h
    obtain ⟨v9, q3, h⟩ := bs h
    refine rd [(0, .mpt 0 0 0), (1, .fn (.func 161) [] [.mpt 1 0 0]), (5, .lit (.string (B v9.1))), (6, .lit (.int .i64 v9.2.1)), (7, .lit (.int .i64 v9.2.2))] [some (3, [[.isl 1 (List.map byteRow v1), .lit (.int .i64 v2), .lit (.int .i64 v3)]]), some (4, [[.lit (.int .i64 v4), .lit (.int .i64 v5), .lit (.string (B v6)), .lit (.string (B v7))]])] [] [16, 15, 14, 13, 12, 11, 10, 9, 8, 7, 6, 5, 4, 3, 2, 1, 0] [(7, .lit (.int .i64 v9.2.2)), (6, .lit (.int .i64 v9.2.1)), (5, .lit (.string (B v9.1))), (26, .lit (.int .i64 v9.2.2)), (25, .lit (.int .i64 v9.2.1)), (24, .lit (.string (B v9.1))), (13, .tup [.lit (.string (B v9.1)), .lit (.int .i64 v9.2.1), .lit (.int .i64 v9.2.2)]), (23, .tup [.lit (.string (B v9.1)), .lit (.int .i64 v9.2.1), .lit (.int .i64 v9.2.2)]), (22, .isl 1 (List.map byteRow v8)), (21, .lit (.int .i64 v2)), (20, .mpt 0 0 1), (19, .mpt 0 0 0), (18, .mpt 0 0 0), (17, .isl 1 (List.map byteRow v1)), (16, .mpt 0 0 0), (15, .mpt 0 0 0), (14, .mpt 0 0 0)] 0 (by kernel_rfl) (by kernel_rfl) rfl (by kernel_rfl) (dt0 ⟨(fun _ => pa rfl rfl rfl rfl (asg rfl <| ⟨rfl, rfl⟩)), (fun _ => pa rfl rfl rfl rfl (asg rfl <| ⟨rfl, rfl⟩)), (fun _ => pa rfl rfl rfl rfl (asg rfl <| ⟨rfl, rfl⟩)), (fun _ => pa rfl rfl rfl rfl (ex rfl rfl <| ⟨rfl, rfl⟩)), (fun _ => pa rfl rfl rfl rfl (ex rfl rfl <| ⟨rfl, rfl⟩)), (fun _ => pa rfl rfl rfl rfl (ex rfl rfl <| ⟨rfl, rfl⟩)), (fun _ => pa rfl rfl rfl rfl (mv rfl <| ⟨rfl, rfl⟩)), (fun _ => pa rfl rfl rfl rfl (pc (num_GetText_ok v8 q3) rfl rfl rfl <| ⟨rfl, rfl⟩)), (fun _ => pa rfl rfl rfl rfl (slI (a := v2) (b := (List.length v1 : Int)) ti43 rfl ti5 rfl rfl (bnd_lo rfl q2) rfl q2 <| ⟨rfl, rfl⟩)), (fun _ => pa rfl rfl rfl rfl (ld ti3 rfl rfl <| ⟨rfl, rfl⟩)), (fun _ => pa rfl rfl rfl rfl (fa ti151 rfl rfl rfl <| ⟨rfl, rfl⟩)), (fun _ => pa rfl rfl rfl rfl (nc rfl rfl <| ⟨rfl, rfl⟩)), (fun _ => pa rfl rfl rfl rfl (mv rfl <| ⟨rfl, rfl⟩)), (fun _ => pa rfl rfl rfl rfl (ld ti43 rfl rfl <| ⟨rfl, rfl⟩)), (fun _ => pa rfl rfl rfl rfl (fa ti151 rfl rfl rfl <| ⟨rfl, rfl⟩)), (fun _ => pa rfl rfl rfl rfl (nc rfl rfl <| ⟨rfl, rfl⟩)), (fun _ => pa rfl rfl rfl rfl (mv rfl <| ⟨rfl, rfl⟩)), trivial⟩ (by kernel_rfl) rfl ⟨[.old 0, .old 1], cv rfl (.mpt rfl) <| cv rfl (rsFn trivial ⟨(.mpt rfl), trivial⟩) <| ce rfl rfl <| ce rfl rfl <| ce rfl rfl <| cn, rfl, ⟨⟨_, rfl, rsOne ⟨ci rfl, ci rfl, ci rfl, trivial⟩⟩, ⟨_, rfl, rsOne ⟨ci rfl, ci rfl, ci rfl, ci rfl, trivial⟩⟩, trivial⟩, rfl, Nat.le_of_ble_eq_true rfl⟩) ?_
    refine sw_meet (X := Int) (fun z => [(0, .mpt 0 0 0), (5, .lit (.string (B v9.1))), (6, .lit (.int .i64 v9.2.1)), (7, .lit (.int .i64 z))]) (fun z => [some (3, [[.isl 1 (List.map byteRow v1), .lit (.int .i64 v2), .lit (.int .i64 v3)]]), some (4, [[.lit (.int .i64 v4), .lit (.int .i64 v5), .lit (.string (B v6)), .lit (.string (B v7))]])]) (fun z => op_reader_text_s2_j1 v2 v9 z = some r) ?_ ?_
    · obtain ⟨v11, q6, h⟩ := bs h
      refine rg rfl <| u <| mv rfl <| u <| eql ti45 rfl rfl <| u <| mv rfl <| r_and (x := v11) (j := 2) 4 rfl rfl rfl rfl rfl gpn (fun hb4 => by replace q6 := bT hb4 q6; obtain ⟨v10, q5, q6⟩ := bs q6; obtain rfl := sm q6; exact g rfl hb4 <| mv rfl <| g rfl hb4 <| mv rfl <| g rfl hb4 <| pcs (op_Get_3_ok v9.1 v4 v5 v6 v7 q5) rfl rfl (.cons (si rfl) (.cons (sealBox rfl ⟨(si rfl), (si rfl), (si rfl), (si rfl), trivial⟩) .nil)) plainB <| g rfl hb4 <| nt rfl <| r_nil (eg [30, 31, 32, 33] 4 rfl rfl rfl rfl)) (fun hb => (sm (bF hb q6)).symm) <| r_nil ?_
      refine sw_cond rfl (fun hc7 => ?_) (fun hc7 => ?_)
      · replace h := bT hc7 h
        exact rl rfl <| u <| asg rfl <| r_nil (⟨1, h, [.old 0, .old 1], cv rfl (.mpt rfl) <| ce rfl rfl <| ce rfl rfl <| ce rfl rfl <| cn, rfl, ⟨⟨_, rfl, rsOne ⟨ci rfl, ci rfl, ci rfl, trivial⟩⟩, ⟨_, rfl, rsOne ⟨ci rfl, ci rfl, ci rfl, ci rfl, trivial⟩⟩, trivial⟩, rfl, Nat.le_of_ble_eq_true rfl⟩)
      · replace h := bF hc7 h
        refine sw_skip ?_
        exact ⟨v9.2.2, h, [.old 0, .old 1], cv rfl (.mpt rfl) <| ce rfl rfl <| ce rfl rfl <| ce rfl rfl <| cn, rfl, ⟨⟨_, rfl, rsOne ⟨ci rfl, ci rfl, ci rfl, trivial⟩⟩, ⟨_, rfl, rsOne ⟨ci rfl, ci rfl, ci rfl, ci rfl, trivial⟩⟩, trivial⟩, rfl, Nat.le_of_ble_eq_true rfl⟩
    · rintro v12 h
      replace h : op_reader_text_s2_j1 v2 v9 v12 = some r := h
      unfold op_reader_text_s2_j1 at h
      refine rg rfl <| u <| mv rfl <| u <| mv rfl <| u <| mv rfl <| u <| nc rfl rfl <| u <| fa ti151 rfl rfl rfl <| u <| ld ti3 rfl rfl <| u <| mv rfl <| u <| add ti3 rfl rfl <| u <| mv rfl <| u <| nc rfl rfl <| u <| fa ti151 rfl rfl rfl <| u <| sto ti3 rfl rfl rfl <| u <| nc rfl rfl <| u <| fa ti151 rfl rfl rfl <| u <| sto ti45 rfl rfl rfl <| r_nil ?_
      refine rg rfl <| u <| mv rfl <| u <| asg rfl <| r_nil ?_
      refine sw_ret ?_
      obtain rfl := sm h
      exact ⟨_, rfl, [.old 0, .old 1], ci rfl, rfl, ⟨⟨_, rfl, rsOne ⟨ci rfl, ci rfl, ci rfl, trivial⟩⟩, ⟨_, rfl, rsOne ⟨ci rfl, ci rfl, ci rfl, ci rfl, trivial⟩⟩, trivial⟩, rfl, Nat.le_of_ble_eq_true rfl⟩

noncomputable def op_Get_j3 (v2 : Int × Int × Int) (v6 : Int) (v10 : List UInt8) (v12 : Int) (v13 : Int) (v14 : List UInt8) : Option (ApiIns × Int × Int) :=
  cond (!(v13 == (0 : Int))) (some ((ApiIns.mk 0 0 [] []), 0, v13)) (some ((ApiIns.mk v2.1 v6 v10 v14), v12, 0))
noncomputable def op_Get_j2 (v1 : List UInt8) (v2 : Int × Int × Int) (v6 : Int) (v8 : Int) (v9 : Int) (v10 : List UInt8) : Option (ApiIns × Int × Int) :=
  cond (op_m v2.1) ((op_reader_text_s2 v1 v8 v9 v2.1 v6 v10 []).bind fun v11 => op_Get_j3 v2 v6 v10 v11.2.1 v11.2.2 v11.1) (op_Get_j3 v2 v6 v10 v8 v9 [])
noncomputable def op_Get_j1 (v1 : List UInt8) (v2 : Int × Int × Int) (v4 : Int) (v5 : Int) (v6 : Int) : Option (ApiIns × Int × Int) :=
  cond (op_c v2.1) ((op_reader_text v1 v4 v5 v2.1 v6 [] []).bind fun v7 => op_Get_j2 v1 v2 v6 v7.2.1 v7.2.2 v7.1) (op_Get_j2 v1 v2 v6 v4 v5 [])
noncomputable def op_Get (v1 : List UInt8) : Option (ApiIns × Int × Int) :=
  (op_reader_num v1 0 0).bind fun v2 => cond (op_a v2.1) ((op_reader_num_s2 v1 v2.2.1 v2.2.2 v2.1 0 [] []).bind fun v3 => op_Get_j1 v1 v2 v3.2.1 v3.2.2 v3.1) (op_Get_j1 v1 v2 v2.2.1 v2.2.2 0)
theorem op_Get_ok (v1 : List UInt8) {r : ApiIns × Int × Int} (h : op_Get v1 = some r) : PureC Tryz.prog 128 [.isl 1 (List.map byteRow v1)] (.tup [.agg [.lit (.int .i64 r.1.Op), .lit (.int .i64 r.1.A), .lit (.string (B r.1.C)), .lit (.string (B r.1.M))], .lit (.int .i64 r.2.1), .lit (.int .i64 r.2.2)]) := by
  refine pure_fn Tryz.func128 rfl (by kernel_rfl) rfl rfl ?_
  unfold op_Get at h
  refine rg rfl <| u <| al 0 ti37 rfl <| u <| asg rfl <| u <| asg rfl <| r_nil ?_
  refine rg rfl <| u <| mv rfl <| u <| bd ti151 rfl rfl rfl <| u <| bx 1 3 rfl rfl rfl rfl <| u <| asg rfl <| r_nil ?_
  obtain ⟨v2, q1, h⟩ := bs h
  refine rg rfl <| u <| mv rfl <| u <| sc [1] (op_reader_num_ok v1 0 0 q1) rfl rfl rfl rfl ⟨(.mpt rfl), (rnFn trivial trivial), trivial⟩ ⟨⟨_, rfl, ⟨(rnI rfl), (rnI rfl), (rnI rfl), trivial⟩⟩, trivial⟩ <| u <| bd ti37 rfl rfl rfl <| u <| al 2 ti37 rfl <| u <| sto ti37 rfl rfl rfl <| r_nil ?_
  refine sw_meet (X := Int × Int × Int) (fun z => [(2, .mpt 0 0 0), (5, .mpt 1 0 0), (6, .mpt 2 0 0)]) (fun z => [some (4, [[.lit (.int .i64 0), .lit (.int .i64 0), .lit (.string (B [])), .lit (.string (B []))]]), some (3, [[.isl 1 (List.map byteRow v1), .lit (.int .i64 z.1), .lit (.int .i64 z.2.1)]]), some (4, [[.lit (.int .i64 v2.1), .lit (.int .i64 z.2.2), .lit (.string (B [])), .lit (.string (B []))]])]) (fun z => op_Get_j1 v1 v2 z.1 z.2.1 z.2.2 = some r) ?_ ?_
  · refine rg rfl <| u <| fa ti37 rfl rfl rfl <| u <| ld ti3 rfl rfl <| u <| pc (op_a_ok v2.1 rfl) rfl rfl rfl <| r_nil ?_
    refine sw_cond rfl (fun hc2 => ?_) (fun hc2 => ?_)
    · replace h := bT hc2 h
      obtain ⟨v3, q3, h⟩ := bs h
      exact rl rfl <| u <| mv rfl <| u <| mf rfl rfl <| u <| sc [1, 2] (op_reader_num_s2_ok v1 v2.2.1 v2.2.2 v2.1 0 [] [] q3) rfl rfl rfl rfl ⟨(.mpt rfl), (rnFn trivial ⟨(.mpt rfl), trivial⟩), trivial⟩ ⟨⟨_, rfl, ⟨(rnI rfl), (rnI rfl), (rnI rfl), trivial⟩⟩, ⟨_, rfl, ⟨(rnI rfl), (rnI rfl), (rnI rfl), (rnI rfl), trivial⟩⟩, trivial⟩ <| u <| fa ti37 rfl rfl rfl <| u <| sto ti3 rfl rfl rfl <| r_nil (⟨⟨v3.2.1, v3.2.2, v3.1⟩, h, [.old 0, .old 1, .old 2], cv rfl (.mpt rfl) <| cv rfl (.mpt rfl) <| cv rfl (.mpt rfl) <| cn, rfl, ⟨⟨_, rfl, rsOne ⟨ci rfl, ci rfl, ci rfl, ci rfl, trivial⟩⟩, ⟨_, rfl, rsOne ⟨ci rfl, ci rfl, ci rfl, trivial⟩⟩, ⟨_, rfl, rsOne ⟨ci rfl, ci rfl, ci rfl, ci rfl, trivial⟩⟩, trivial⟩, rfl, Nat.le_of_ble_eq_true rfl⟩)
    · replace h := bF hc2 h
      refine sw_skip ?_
      exact ⟨⟨v2.2.1, v2.2.2, 0⟩, h, [.old 0, .old 1, .old 2], cv rfl (.mpt rfl) <| cv rfl (.mpt rfl) <| cv rfl (.mpt rfl) <| cn, rfl, ⟨⟨_, rfl, rsOne ⟨ci rfl, ci rfl, ci rfl, ci rfl, trivial⟩⟩, ⟨_, rfl, rsOne ⟨ci rfl, ci rfl, ci rfl, trivial⟩⟩, ⟨_, rfl, rsOne ⟨ci rfl, ci rfl, ci rfl, ci rfl, trivial⟩⟩, trivial⟩, rfl, Nat.le_of_ble_eq_true rfl⟩
  · rintro ⟨v4, v5, v6⟩ h
    replace h : op_Get_j1 v1 v2 v4 v5 v6 = some r := h
    unfold op_Get_j1 at h
    refine sw_meet (X := Int × Int × (List UInt8)) (fun z => [(2, .mpt 0 0 0), (5, .mpt 1 0 0), (6, .mpt 2 0 0)]) (fun z => [some (4, [[.lit (.int .i64 0), .lit (.int .i64 0), .lit (.string (B [])), .lit (.string (B []))]]), some (3, [[.isl 1 (List.map byteRow v1), .lit (.int .i64 z.1), .lit (.int .i64 z.2.1)]]), some (4, [[.lit (.int .i64 v2.1), .lit (.int .i64 v6), .lit (.string (B z.2.2)), .lit (.string (B []))]])]) (fun z => op_Get_j2 v1 v2 v6 z.1 z.2.1 z.2.2 = some r) ?_ ?_
    · refine rg rfl <| u <| fa ti37 rfl rfl rfl <| u <| ld ti3 rfl rfl <| u <| pc (op_c_ok v2.1 rfl) rfl rfl rfl <| r_nil ?_
      refine sw_cond rfl (fun hc4 => ?_) (fun hc4 => ?_)
      · replace h := bT hc4 h
        obtain ⟨v7, q5, h⟩ := bs h
        exact rl rfl <| u <| mv rfl <| u <| mf rfl rfl <| u <| sc [1, 2] (op_reader_text_ok v1 v4 v5 v2.1 v6 [] [] q5) rfl rfl rfl rfl ⟨(.mpt rfl), (rnFn trivial ⟨(.mpt rfl), trivial⟩), trivial⟩ ⟨⟨_, rfl, ⟨(rnI rfl), (rnI rfl), (rnI rfl), trivial⟩⟩, ⟨_, rfl, ⟨(rnI rfl), (rnI rfl), (rnI rfl), (rnI rfl), trivial⟩⟩, trivial⟩ <| u <| fa ti37 rfl rfl rfl <| u <| sto ti9 rfl rfl rfl <| r_nil (⟨⟨v7.2.1, v7.2.2, v7.1⟩, h, [.old 0, .old 1, .old 2], cv rfl (.mpt rfl) <| cv rfl (.mpt rfl) <| cv rfl (.mpt rfl) <| cn, rfl, ⟨⟨_, rfl, rsOne ⟨ci rfl, ci rfl, ci rfl, ci rfl, trivial⟩⟩, ⟨_, rfl, rsOne ⟨ci rfl, ci rfl, ci rfl, trivial⟩⟩, ⟨_, rfl, rsOne ⟨ci rfl, ci rfl, ci rfl, ci rfl, trivial⟩⟩, trivial⟩, rfl, Nat.le_of_ble_eq_true rfl⟩)
      · replace h := bF hc4 h
        refine sw_skip ?_
        exact ⟨⟨v4, v5, []⟩, h, [.old 0, .old 1, .old 2], cv rfl (.mpt rfl) <| cv rfl (.mpt rfl) <| cv rfl (.mpt rfl) <| cn, rfl, ⟨⟨_, rfl, rsOne ⟨ci rfl, ci rfl, ci rfl, ci rfl, trivial⟩⟩, ⟨_, rfl, rsOne ⟨ci rfl, ci rfl, ci rfl, trivial⟩⟩, ⟨_, rfl, rsOne ⟨ci rfl, ci rfl, ci rfl, ci rfl, trivial⟩⟩, trivial⟩, rfl, Nat.le_of_ble_eq_true rfl⟩
    · rintro ⟨v8, v9, v10⟩ h
      replace h : op_Get_j2 v1 v2 v6 v8 v9 v10 = some r := h
      unfold op_Get_j2 at h
      refine sw_meet (X := Int × Int × (List UInt8)) (fun z => [(2, .mpt 0 0 0), (5, .mpt 1 0 0), (6, .mpt 2 0 0)]) (fun z => [some (4, [[.lit (.int .i64 0), .lit (.int .i64 0), .lit (.string (B [])), .lit (.string (B []))]]), some (3, [[.isl 1 (List.map byteRow v1), .lit (.int .i64 z.1), .lit (.int .i64 z.2.1)]]), some (4, [[.lit (.int .i64 v2.1), .lit (.int .i64 v6), .lit (.string (B v10)), .lit (.string (B z.2.2))]])]) (fun z => op_Get_j3 v2 v6 v10 z.1 z.2.1 z.2.2 = some r) ?_ ?_
      · refine rg rfl <| u <| fa ti37 rfl rfl rfl <| u <| ld ti3 rfl rfl <| u <| pc (op_m_ok v2.1 rfl) rfl rfl rfl <| r_nil ?_
        refine sw_cond rfl (fun hc6 => ?_) (fun hc6 => ?_)
        · replace h := bT hc6 h
          obtain ⟨v11, q7, h⟩ := bs h
          exact rl rfl <| u <| mv rfl <| u <| mf rfl rfl <| u <| sc [1, 2] (op_reader_text_s2_ok v1 v8 v9 v2.1 v6 v10 [] q7) rfl rfl rfl rfl ⟨(.mpt rfl), (rnFn trivial ⟨(.mpt rfl), trivial⟩), trivial⟩ ⟨⟨_, rfl, ⟨(rnI rfl), (rnI rfl), (rnI rfl), trivial⟩⟩, ⟨_, rfl, ⟨(rnI rfl), (rnI rfl), (rnI rfl), (rnI rfl), trivial⟩⟩, trivial⟩ <| u <| fa ti37 rfl rfl rfl <| u <| sto ti9 rfl rfl rfl <| r_nil (⟨⟨v11.2.1, v11.2.2, v11.1⟩, h, [.old 0, .old 1, .old 2], cv rfl (.mpt rfl) <| cv rfl (.mpt rfl) <| cv rfl (.mpt rfl) <| cn, rfl, ⟨⟨_, rfl, rsOne ⟨ci rfl, ci rfl, ci rfl, ci rfl, trivial⟩⟩, ⟨_, rfl, rsOne ⟨ci rfl, ci rfl, ci rfl, trivial⟩⟩, ⟨_, rfl, rsOne ⟨ci rfl, ci rfl, ci rfl, ci rfl, trivial⟩⟩, trivial⟩, rfl, Nat.le_of_ble_eq_true rfl⟩)
        · replace h := bF hc6 h
          refine sw_skip ?_
          exact ⟨⟨v8, v9, []⟩, h, [.old 0, .old 1, .old 2], cv rfl (.mpt rfl) <| cv rfl (.mpt rfl) <| cv rfl (.mpt rfl) <| cn, rfl, ⟨⟨_, rfl, rsOne ⟨ci rfl, ci rfl, ci rfl, ci rfl, trivial⟩⟩, ⟨_, rfl, rsOne ⟨ci rfl, ci rfl, ci rfl, trivial⟩⟩, ⟨_, rfl, rsOne ⟨ci rfl, ci rfl, ci rfl, ci rfl, trivial⟩⟩, trivial⟩, rfl, Nat.le_of_ble_eq_true rfl⟩
      · rintro ⟨v12, v13, v14⟩ h
        replace h : op_Get_j3 v2 v6 v10 v12 v13 v14 = some r := h
        unfold op_Get_j3 at h
        refine sw_seq ?_
        refine rg rfl <| u <| mv rfl <| u <| nc rfl rfl <| u <| fa ti151 rfl rfl rfl <| u <| ld ti45 rfl rfl <| u <| neq ti45 rfl rfl <| r_nil ?_
        refine sw_cond rfl (fun hc8 => ?_) (fun hc8 => ?_)
        · replace h := bT hc8 h
          refine rd [(2, .mpt 0 0 0), (3, .lit (.int .i64 0)), (4, .lit (.int .i64 v13))] [some (4, [[.lit (.int .i64 0), .lit (.int .i64 0), .lit (.string (B [])), .lit (.string (B []))]])] [5] [4, 3, 2, 1, 0] [(43, .lit (.int .i64 v13)), (42, .mpt 1 0 2), (41, .mpt 1 0 0), (40, .mpt 1 0 0), (39, .agg [.lit (.int .i64 0), .lit (.int .i64 0), .lit (.string (B [])), .lit (.string (B []))])] 1 (by kernel_rfl) (by kernel_rfl) rfl (by kernel_rfl) (dtS ⟨(fun _ => pa rfl rfl rfl rfl (ld ti45 rfl rfl <| ⟨rfl, rfl⟩)), (fun _ => pa rfl rfl rfl rfl (fa ti151 rfl rfl rfl <| ⟨rfl, rfl⟩)), (fun _ => pa rfl rfl rfl rfl (nc rfl rfl <| ⟨rfl, rfl⟩)), (fun _ => pa rfl rfl rfl rfl (mv rfl <| ⟨rfl, rfl⟩)), (fun _ => pa rfl rfl rfl rfl (bd ti37 rfl rfl rfl <| ⟨rfl, rfl⟩)), trivial⟩ (by kernel_rfl) rfl ⟨(fun _ _ => ⟨_, rfl, rfl, sto ti37 rfl rfl rfl <| ⟨.any, [7, 6], [(4, .lit (.int .i64 v13)), (3, .lit (.int .i64 0))], rfl, rfl, by kernel_rfl, trivial, dt0 ⟨(fun _ => pa rfl rfl rfl rfl (asg rfl <| ⟨rfl, rfl⟩)), (fun _ => pa rfl rfl rfl rfl (asg rfl <| ⟨rfl, rfl⟩)), (fun _ => pa rfl rfl rfl rfl (ld ti45 rfl rfl <| ⟨rfl, rfl⟩)), (fun _ => pa rfl rfl rfl rfl (fa ti151 rfl rfl rfl <| ⟨rfl, rfl⟩)), (fun _ => pa rfl rfl rfl rfl (nc rfl rfl <| ⟨rfl, rfl⟩)), (fun _ => pa rfl rfl rfl rfl (mv rfl <| ⟨rfl, rfl⟩)), (fun h => by cases h), trivial⟩ (by kernel_rfl) rfl ⟨[.old 0], cv rfl (.mpt rfl) <| ce rfl rfl <| ce rfl rfl <| cn, rfl, ⟨⟨_, rfl, rsOne ⟨ci rfl, ci rfl, ci rfl, ci rfl, trivial⟩⟩, trivial⟩, rfl, Nat.le_of_ble_eq_true rfl⟩⟩⟩), trivial⟩) ?_
          refine sw_ret ?_
          obtain rfl := sm h
          exact ⟨_, rfl, [], rsTup ⟨(ci rfl), (ci rfl), (ci rfl), trivial⟩, rfl, trivial, rfl, Nat.le_of_ble_eq_true rfl⟩
        · replace h := bF hc8 h
          refine sw_skip ?_
          refine rd [(2, .mpt 0 0 0), (3, .lit (.int .i64 v12)), (4, .lit (.int .i64 0))] [some (4, [[.lit (.int .i64 v2.1), .lit (.int .i64 v6), .lit (.string (B v10)), .lit (.string (B v14))]])] [5] [4, 3, 2, 1, 0] [(48, .lit (.int .i64 v12)), (47, .mpt 1 0 1), (46, .mpt 1 0 0), (45, .mpt 1 0 0), (44, .agg [.lit (.int .i64 v2.1), .lit (.int .i64 v6), .lit (.string (B v10)), .lit (.string (B v14))])] 1 (by kernel_rfl) (by kernel_rfl) rfl (by kernel_rfl) (dtS ⟨(fun _ => pa rfl rfl rfl rfl (ld ti3 rfl rfl <| ⟨rfl, rfl⟩)), (fun _ => pa rfl rfl rfl rfl (fa ti151 rfl rfl rfl <| ⟨rfl, rfl⟩)), (fun _ => pa rfl rfl rfl rfl (nc rfl rfl <| ⟨rfl, rfl⟩)), (fun _ => pa rfl rfl rfl rfl (mv rfl <| ⟨rfl, rfl⟩)), (fun _ => pa rfl rfl rfl rfl (ld ti37 rfl rfl <| ⟨rfl, rfl⟩)), trivial⟩ (by kernel_rfl) rfl ⟨(fun _ _ => ⟨_, rfl, rfl, sto ti37 rfl rfl rfl <| ⟨.any, [7, 6], [(4, .lit (.int .i64 0)), (3, .lit (.int .i64 v12))], rfl, rfl, by kernel_rfl, trivial, dt0 ⟨(fun _ => pa rfl rfl rfl rfl (asg rfl <| ⟨rfl, rfl⟩)), (fun _ => pa rfl rfl rfl rfl (asg rfl <| ⟨rfl, rfl⟩)), (fun _ => pa rfl rfl rfl rfl (ld ti3 rfl rfl <| ⟨rfl, rfl⟩)), (fun _ => pa rfl rfl rfl rfl (fa ti151 rfl rfl rfl <| ⟨rfl, rfl⟩)), (fun _ => pa rfl rfl rfl rfl (nc rfl rfl <| ⟨rfl, rfl⟩)), (fun _ => pa rfl rfl rfl rfl (mv rfl <| ⟨rfl, rfl⟩)), (fun h => by cases h), trivial⟩ (by kernel_rfl) rfl ⟨[.old 0], cv rfl (.mpt rfl) <| ce rfl rfl <| ce rfl rfl <| cn, rfl, ⟨⟨_, rfl, rsOne ⟨ci rfl, ci rfl, ci rfl, ci rfl, trivial⟩⟩, trivial⟩, rfl, Nat.le_of_ble_eq_true rfl⟩⟩⟩), trivial⟩) ?_
          refine sw_ret ?_
          obtain rfl := sm h
          exact ⟨_, rfl, [], rsTup ⟨(ci rfl), (ci rfl), (ci rfl), trivial⟩, rfl, trivial, rfl, Nat.le_of_ble_eq_true rfl⟩

noncomputable def kind_Elem (v1 : List UInt8) : Option ((List UInt8) × Bool) :=
  (kind_May v1).bind fun v2 => (cond (!v2) (some true) ((idx v1 0).bind fun v3 => some (!((v3.toNat : Int) == (91 : Int))))).bind fun v4 => cond v4 (some ([], false)) ((cutP v1 1 (List.length v1 : Int)).bind fun v5 => some (v5, true))
theorem kind_Elem_ok (v1 : List UInt8) {r : (List UInt8) × Bool} (h : kind_Elem v1 = some r) : PureC Tryz.prog 172 [.lit (.string (B v1))] (.tup [.lit (.string (B r.1)), .lit (.bool r.2)]) := by
  refine pure_fn Tryz.func172 rfl (by kernel_rfl) rfl rfl ?_
  unfold kind_Elem at h
  refine rg rfl <| u <| asg rfl <| u <| asg rfl <| r_nil ?_
  refine sw_seq ?_
  obtain ⟨v2, q1, h⟩ := bs h
  obtain ⟨v4, q4, h⟩ := bs h
  refine rg rfl <| u <| mv rfl <| u <| pc (kind_May_ok v1 q1) rfl rfl rfl <| u <| nt rfl <| u <| mv rfl <| r_or (x := v4) (j := 3) 3 rfl rfl rfl rfl rfl gpn (fun hb2 => by replace q4 := bF hb2 q4; obtain ⟨v3, q3, q4⟩ := bs q4; obtain rfl := sm q4; exact g rfl hb2 <| mv rfl <| g rfl hb2 <| ixS ti9 rfl rfl rfl q3 <| g rfl hb2 <| neq ti5 rfl rfl <| r_nil (eg [8, 9, 10] 3 rfl rfl rfl rfl)) (fun hb => (sm (bT hb q4)).symm) <| r_nil ?_
  refine sw_cond rfl (fun hc5 => ?_) (fun hc5 => ?_)
  · replace h := bT hc5 h
    refine rg rfl <| u <| asg rfl <| u <| asg rfl <| r_nil ?_
    refine sw_ret ?_
    obtain rfl := sm h
    exact ⟨_, rfl, [], rsTup ⟨(ci rfl), (ci rfl), trivial⟩, rfl, trivial, rfl, Nat.le_of_ble_eq_true rfl⟩
  · replace h := bF hc5 h
    refine sw_skip ?_
    obtain ⟨v5, q6, h⟩ := bs h
    refine rg rfl <| u <| mv rfl <| u <| slS (a := 1) (b := (List.length v1 : Int)) ti9 rfl rfl (bnd_lo rfl q6) rfl q6 <| u <| asg rfl <| u <| asg rfl <| r_nil ?_
    refine sw_ret ?_
    obtain rfl := sm h
    exact ⟨_, rfl, [], rsTup ⟨(ci rfl), (ci rfl), trivial⟩, rfl, trivial, rfl, Nat.le_of_ble_eq_true rfl⟩

noncomputable def kind_Ret (v1 : List UInt8) : Option (Bool) :=
  (cond (v1 == [86]) (some true) ((kind_May v1).bind fun v2 => some v2)).bind fun v3 => some v3
theorem kind_Ret_ok (v1 : List UInt8) {r : Bool} (h : kind_Ret v1 = some r) : PureC Tryz.prog 91 [.lit (.string (B v1))] (.lit (.bool r)) := by
  refine pure_fn Tryz.func91 rfl (by kernel_rfl) rfl rfl ?_
  unfold kind_Ret at h
  refine rg rfl <| u <| asg rfl <| r_nil ?_
  obtain ⟨v3, q3, h⟩ := bs h
  refine rg rfl <| u <| mv rfl <| u <| seq ti9 rfl rfl <| u <| mv rfl <| r_or (x := v3) (j := 2) 2 rfl rfl rfl rfl rfl gpn (fun hb1 => by replace q3 := bF hb1 q3; obtain ⟨v2, q2, q3⟩ := bs q3; obtain rfl := sm q3; exact g rfl hb1 <| mv rfl <| g rfl hb1 <| pc (kind_May_ok v1 q2) rfl rfl rfl <| r_nil (eg [6, 7] 2 rfl rfl rfl rfl)) (fun hb => (sm (bT hb q3)).symm) <| u <| asg rfl <| r_nil ?_
  refine sw_ret ?_
  obtain rfl := sm h
  exact ⟨_, rfl, [], ci rfl, rfl, trivial, rfl, Nat.le_of_ble_eq_true rfl⟩

noncomputable def kind_Array (v1 : List UInt8) : Option ((List UInt8)) :=
  (kind_May v1).bind fun v2 => (cond (!v2) (some true) ((catP [91] v1).bind fun v3 => (kind_May v3).bind fun v4 => some (!v4))).bind fun v5 => cond v5 (some []) ((catP [91] v1).bind fun v6 => some v6)
theorem kind_Array_ok (v1 : List UInt8) {r : (List UInt8)} (h : kind_Array v1 = some r) : PureC Tryz.prog 173 [.lit (.string (B v1))] (.lit (.string (B r))) := by
  refine pure_fn Tryz.func173 rfl (by kernel_rfl) rfl rfl ?_
  unfold kind_Array at h
  refine rg rfl <| u <| asg rfl <| r_nil ?_
  refine sw_seq ?_
  obtain ⟨v2, q1, h⟩ := bs h
  obtain ⟨v5, q5, h⟩ := bs h
  refine rg rfl <| u <| mv rfl <| u <| pc (kind_May_ok v1 q1) rfl rfl rfl <| u <| nt rfl <| u <| mv rfl <| r_or (x := v5) (j := 3) 4 rfl rfl rfl rfl rfl gpn (fun hb2 => by replace q5 := bF hb2 q5; obtain ⟨v3, q3, q5⟩ := bs q5; obtain ⟨v4, q4, q5⟩ := bs q5; obtain rfl := sm q5; exact g rfl hb2 <| mv rfl <| g rfl hb2 <| scat ti9 rfl rfl q3 <| g rfl hb2 <| pc (kind_May_ok v3 q4) rfl rfl rfl <| g rfl hb2 <| nt rfl <| r_nil (eg [7, 8, 9, 10] 4 rfl rfl rfl rfl)) (fun hb => (sm (bT hb q5)).symm) <| r_nil ?_
  refine sw_cond rfl (fun hc6 => ?_) (fun hc6 => ?_)
  · replace h := bT hc6 h
    refine rg rfl <| u <| asg rfl <| r_nil ?_
    refine sw_ret ?_
    obtain rfl := sm h
    exact ⟨_, rfl, [], ci rfl, rfl, trivial, rfl, Nat.le_of_ble_eq_true rfl⟩
  · replace h := bF hc6 h
    refine sw_skip ?_
    obtain ⟨v6, q7, h⟩ := bs h
    refine rg rfl <| u <| mv rfl <| u <| scat ti9 rfl rfl q7 <| u <| asg rfl <| r_nil ?_
    refine sw_ret ?_
    obtain rfl := sm h
    exact ⟨_, rfl, [], ci rfl, rfl, trivial, rfl, Nat.le_of_ble_eq_true rfl⟩

noncomputable def law3_begun : Option (Bool) :=
  (kind_Elem [91, 91, 65, 98]).bind fun v1 => (kind_Elem [65, 98]).bind fun v2 => (kind_Class [65, 98]).bind fun v3 => (cond v3 ((kind_Class [65]).bind fun v4 => some (!v4)) (some false)).bind fun v5 => (cond v5 ((kind_Name [97, 98]).bind fun v6 => some v6) (some false)).bind fun v7 => (cond v7 ((kind_Name [36, 105, 110, 105, 116]).bind fun v8 => some v8) (some false)).bind fun v9 => (cond v9 ((kind_Name [65, 98]).bind fun v10 => some (!v10)) (some false)).bind fun v11 => (cond v11 ((kind_May [91, 91, 73]).bind fun v12 => some v12) (some false)).bind fun v13 => (cond v13 ((kind_May [91, 91, 91, 73]).bind fun v14 => some (!v14)) (some false)).bind fun v15 => (cond v15 ((kind_Ret [86]).bind fun v16 => some v16) (some false)).bind fun v17 => (cond v17 ((kind_May [86]).bind fun v18 => some (!v18)) (some false)).bind fun v19 => (cond v19 ((kind_Ref [91, 73]).bind fun v20 => some v20) (some false)).bind fun v21 => (cond v21 ((kind_Ref [73]).bind fun v22 => some (!v22)) (some false)).bind fun v23 => (cond (((v23 && (v1.1 == [91, 65, 98])) && v1.2) && (!v2.2)) ((kind_Array [73]).bind fun v24 => some (v24 == [91, 73])) (some false)).bind fun v25 => (cond v25 ((kind_Array [91, 91, 73]).bind fun v26 => some (v26 == [])) (some false)).bind fun v27 => some v27
theorem law3_begun_ok {r : Bool} (h : law3_begun = some r) : PureC Tryz.prog 163 [] (.lit (.bool r)) := by
  refine pure_fn Tryz.func163 rfl (by kernel_rfl) rfl rfl ?_
  unfold law3_begun at h
  refine rg rfl <| u <| asg rfl <| r_nil ?_
  obtain ⟨v1, q1, h⟩ := bs h
  refine rg rfl <| u <| pc (kind_Elem_ok [91, 91, 65, 98] q1) rfl rfl rfl <| u <| mv rfl <| u <| ex rfl rfl <| u <| ex rfl rfl <| u <| asg rfl <| u <| asg rfl <| r_nil ?_
  obtain ⟨v2, q2, h⟩ := bs h
  refine rg rfl <| u <| pc (kind_Elem_ok [65, 98] q2) rfl rfl rfl <| u <| mv rfl <| u <| ex rfl rfl <| u <| ex rfl rfl <| u <| asg rfl <| u <| asg rfl <| r_nil ?_
  obtain ⟨v3, q3, h⟩ := bs h
  obtain ⟨v5, q6, h⟩ := bs h
  obtain ⟨v7, q9, h⟩ := bs h
  obtain ⟨v9, q12, h⟩ := bs h
  obtain ⟨v11, q15, h⟩ := bs h
  obtain ⟨v13, q18, h⟩ := bs h
  obtain ⟨v15, q21, h⟩ := bs h
  obtain ⟨v17, q24, h⟩ := bs h
  obtain ⟨v19, q27, h⟩ := bs h
  obtain ⟨v21, q30, h⟩ := bs h
  obtain ⟨v23, q33, h⟩ := bs h
  obtain ⟨v25, q39, h⟩ := bs h
  obtain ⟨v27, q42, h⟩ := bs h
  refine rg rfl <| u <| pc (kind_Class_ok [65, 98] q3) rfl rfl rfl <| u <| mv rfl <| r_and (x := v5) (j := 1) 2 rfl rfl rfl rfl rfl gpn (fun hb4 => by replace q6 := bT hb4 q6; obtain ⟨v4, q5, q6⟩ := bs q6; obtain rfl := sm q6; exact g rfl hb4 <| pc (kind_Class_ok [65] q5) rfl rfl rfl <| g rfl hb4 <| nt rfl <| r_nil (eg [15, 16] 2 rfl rfl rfl rfl)) (fun hb => (sm (bF hb q6)).symm) <| u <| mv rfl <| r_and (x := v7) (j := 5) 1 rfl rfl rfl rfl rfl gpn (fun hb7 => by replace q9 := bT hb7 q9; obtain ⟨v6, q8, q9⟩ := bs q9; obtain rfl := sm q9; exact g rfl hb7 <| pc (kind_Name_ok [97, 98] q8) rfl rfl rfl <| r_nil (eg [19] 1 rfl rfl rfl rfl)) (fun hb => (sm (bF hb q9)).symm) <| u <| mv rfl <| r_and (x := v9) (j := 8) 1 rfl rfl rfl rfl rfl gpn (fun hb10 => by replace q12 := bT hb10 q12; obtain ⟨v8, q11, q12⟩ := bs q12; obtain rfl := sm q12; exact g rfl hb10 <| pc (kind_Name_ok [36, 105, 110, 105, 116] q11) rfl rfl rfl <| r_nil (eg [22] 1 rfl rfl rfl rfl)) (fun hb => (sm (bF hb q12)).symm) <| u <| mv rfl <| r_and (x := v11) (j := 11) 2 rfl rfl rfl rfl rfl gpn (fun hb13 => by replace q15 := bT hb13 q15; obtain ⟨v10, q14, q15⟩ := bs q15; obtain rfl := sm q15; exact g rfl hb13 <| pc (kind_Name_ok [65, 98] q14) rfl rfl rfl <| g rfl hb13 <| nt rfl <| r_nil (eg [25, 26] 2 rfl rfl rfl rfl)) (fun hb => (sm (bF hb q15)).symm) <| u <| mv rfl <| r_and (x := v13) (j := 15) 1 rfl rfl rfl rfl rfl gpn (fun hb16 => by replace q18 := bT hb16 q18; obtain ⟨v12, q17, q18⟩ := bs q18; obtain rfl := sm q18; exact g rfl hb16 <| pc (kind_May_ok [91, 91, 73] q17) rfl rfl rfl <| r_nil (eg [29] 1 rfl rfl rfl rfl)) (fun hb => (sm (bF hb q18)).symm) <| u <| mv rfl <| r_and (x := v15) (j := 18) 2 rfl rfl rfl rfl rfl gpn (fun hb19 => by replace q21 := bT hb19 q21; obtain ⟨v14, q20, q21⟩ := bs q21; obtain rfl := sm q21; exact g rfl hb19 <| pc (kind_May_ok [91, 91, 91, 73] q20) rfl rfl rfl <| g rfl hb19 <| nt rfl <| r_nil (eg [32, 33] 2 rfl rfl rfl rfl)) (fun hb => (sm (bF hb q21)).symm) <| u <| mv rfl <| r_and (x := v17) (j := 22) 1 rfl rfl rfl rfl rfl gpn (fun hb22 => by replace q24 := bT hb22 q24; obtain ⟨v16, q23, q24⟩ := bs q24; obtain rfl := sm q24; exact g rfl hb22 <| pc (kind_Ret_ok [86] q23) rfl rfl rfl <| r_nil (eg [36] 1 rfl rfl rfl rfl)) (fun hb => (sm (bF hb q24)).symm) <| u <| mv rfl <| r_and (x := v19) (j := 25) 2 rfl rfl rfl rfl rfl gpn (fun hb25 => by replace q27 := bT hb25 q27; obtain ⟨v18, q26, q27⟩ := bs q27; obtain rfl := sm q27; exact g rfl hb25 <| pc (kind_May_ok [86] q26) rfl rfl rfl <| g rfl hb25 <| nt rfl <| r_nil (eg [39, 40] 2 rfl rfl rfl rfl)) (fun hb => (sm (bF hb q27)).symm) <| u <| mv rfl <| r_and (x := v21) (j := 29) 1 rfl rfl rfl rfl rfl gpn (fun hb28 => by replace q30 := bT hb28 q30; obtain ⟨v20, q29, q30⟩ := bs q30; obtain rfl := sm q30; exact g rfl hb28 <| pc (kind_Ref_ok [91, 73] q29) rfl rfl rfl <| r_nil (eg [43] 1 rfl rfl rfl rfl)) (fun hb => (sm (bF hb q30)).symm) <| u <| mv rfl <| r_and (x := v23) (j := 32) 2 rfl rfl rfl rfl rfl gpn (fun hb31 => by replace q33 := bT hb31 q33; obtain ⟨v22, q32, q33⟩ := bs q33; obtain rfl := sm q33; exact g rfl hb31 <| pc (kind_Ref_ok [73] q32) rfl rfl rfl <| g rfl hb31 <| nt rfl <| r_nil (eg [46, 47] 2 rfl rfl rfl rfl)) (fun hb => (sm (bF hb q33)).symm) <| u <| mv rfl <| r_and (x := (v23 && (v1.1 == [91, 65, 98]))) (j := 36) 2 rfl rfl rfl rfl rfl gpn (fun hb34 => g rfl hb34 <| mv rfl <| g rfl hb34 <| seq ti9 rfl rfl <| r_nil (egA [50, 51] 2 hb34 rfl rfl rfl rfl)) andF <| u <| mv rfl <| r_and (x := ((v23 && (v1.1 == [91, 65, 98])) && v1.2)) (j := 40) 1 rfl rfl rfl rfl rfl gpn (fun hb35 => g rfl hb35 <| mv rfl <| r_nil (egA [54] 1 hb35 rfl rfl rfl rfl)) andF <| u <| mv rfl <| r_and (x := (((v23 && (v1.1 == [91, 65, 98])) && v1.2) && (!v2.2))) (j := 43) 2 rfl rfl rfl rfl rfl gpn (fun hb36 => g rfl hb36 <| mv rfl <| g rfl hb36 <| nt rfl <| r_nil (egA [57, 58] 2 hb36 rfl rfl rfl rfl)) andF <| u <| mv rfl <| r_and (x := v25) (j := 47) 2 rfl rfl rfl rfl rfl gpn (fun hb37 => by replace q39 := bT hb37 q39; obtain ⟨v24, q38, q39⟩ := bs q39; obtain rfl := sm q39; exact g rfl hb37 <| pc (kind_Array_ok [73] q38) rfl rfl rfl <| g rfl hb37 <| seq ti9 rfl rfl <| r_nil (eg [61, 62] 2 rfl rfl rfl rfl)) (fun hb => (sm (bF hb q39)).symm) <| u <| mv rfl <| r_and (x := v27) (j := 51) 2 rfl rfl rfl rfl rfl gpn (fun hb40 => by replace q42 := bT hb40 q42; obtain ⟨v26, q41, q42⟩ := bs q42; obtain rfl := sm q42; exact g rfl hb40 <| pc (kind_Array_ok [91, 91, 73] q41) rfl rfl rfl <| g rfl hb40 <| seq ti9 rfl rfl <| r_nil (eg [65, 66] 2 rfl rfl rfl rfl)) (fun hb => (sm (bF hb q42)).symm) <| u <| asg rfl <| r_nil ?_
  refine sw_ret ?_
  obtain rfl := sm h
  exact ⟨_, rfl, [], ci rfl, rfl, trivial, rfl, Nat.le_of_ble_eq_true rfl⟩

noncomputable def law3_Begun : Option (Bool) :=
  (law3_begun).bind fun v1 => some v1
theorem law3_Begun_ok {r : Bool} (h : law3_Begun = some r) : PureC Tryz.prog 129 [] (.lit (.bool r)) := by
  refine pure_fn Tryz.func129 rfl (by kernel_rfl) rfl rfl ?_
  unfold law3_Begun at h
  refine rg rfl <| u <| asg rfl <| r_nil ?_
  obtain ⟨v1, q1, h⟩ := bs h
  refine rg rfl <| u <| pc (law3_begun_ok q1) rfl rfl rfl <| u <| asg rfl <| r_nil ?_
  refine sw_ret ?_
  obtain rfl := sm h
  exact ⟨_, rfl, [], ci rfl, rfl, trivial, rfl, Nat.le_of_ble_eq_true rfl⟩
end Go.Proofs.YthhkdanpjcnegaaGreat
