/- Written by program (gen.py): worth and walk of each function. -/
import Derived.Test.YthhkdanpjcnegaaGreatG2
namespace Go.Proofs.YthhkdanpjcnegaaGreat
set_option linter.unusedSimpArgs false
set_option linter.unusedVariables false
set_option maxRecDepth 100000
set_option maxHeartbeats 4000000


noncomputable def num_Put_k3 (v13 : List UInt8) (v14 : Int) : Option ((List UInt8)) :=
  (appP 1 v13 [(tU8 v14)]).bind fun v15 => some v15
noncomputable def num_Put_l2 (v9 : List UInt8) (v10 : Int) : Option (Sum ((List UInt8) × Int) (Sum ((List UInt8) × Int) ((List UInt8)))) :=
  cond (decide (127 < v10)) ((appP 1 v9 [((tU8 v10) ||| (128 : UInt8))]).bind fun v11 => (shrP .u64 v10 7).bind fun v12 => some (.inl (v11, v12))) (some (.inr (.inl (v9, v10))))
noncomputable def num_Put_j1 (v1 : List UInt8) (v4 : Int) : Option ((List UInt8)) :=
  (loopP (fun z => num_Put_l2 z.1 z.2) (v1, v4)).bind fun o => leave o (fun b => num_Put_k3 b.1 b.2) some
noncomputable def num_Put (v1 : List UInt8) (v2 : Int) : Option ((List UInt8)) :=
  (shlP .u64 (IntKind.u64.wrap v2) 1).bind fun v3 => cond (decide (v2 < 0)) (num_Put_j1 v1 (xorI .u64 v3)) (num_Put_j1 v1 v3)
theorem num_Put_ok (v1 : List UInt8) (v2 : Int) {r : (List UInt8)} (h : num_Put v1 v2 = some r) : SC Tryz.prog 53 [.msl 0 0 (List.length v1), .lit (.int .i64 v2)] [.many 1 (List.map byteRow v1)] (.msl 1 0 (List.length r)) [.no, .many 1 (List.map byteRow r)] := by
  refine ⟨⟨trivial, sbOk (sz := 1) (fun _ => rfl), trivial⟩, scall_fn Tryz.func53 rfl (by kernel_rfl) rfl ?_⟩
  unfold num_Put at h
  refine rg rfl <| u <| asg rfl <| r_nil ?_
  obtain ⟨v3, q1, h⟩ := bs h
  refine rg rfl <| u <| mv rfl <| u <| cvi ti2 ti120 rfl rfl rfl <| u <| shl ti120 rfl rfl q1 <| u <| asg rfl <| r_nil ?_
  refine sw_meet (X := Int) (fun z => [(0, .msl 0 0 (List.length v1)), (5, .lit (.int .u64 z))]) (fun z => [some (1, List.map byteRow v1)]) (fun z => num_Put_j1 v1 z = some r) ?_ ?_
  · refine rg rfl <| u <| mv rfl <| u <| lss ti2 rfl rfl <| r_nil ?_
    refine sw_cond rfl (fun hc2 => ?_) (fun hc2 => ?_)
    · replace h := bT hc2 h
      exact rl rfl <| u <| mv rfl <| u <| xo rfl <| u <| asg rfl <| r_nil (⟨(xorI .u64 v3), h, [.old 0], cv rfl (.msl rfl) <| ce rfl rfl <| cn, rfl, ⟨⟨_, rfl, rsMap (fun _ => rfl)⟩, trivial⟩, rfl, Nat.le_of_ble_eq_true rfl⟩)
    · replace h := bF hc2 h
      refine sw_skip ?_
      exact ⟨v3, h, [.old 0], cv rfl (.msl rfl) <| ce rfl rfl <| cn, rfl, ⟨⟨_, rfl, rsMap (fun _ => rfl)⟩, trivial⟩, rfl, Nat.le_of_ble_eq_true rfl⟩
  · rintro v4 h
    replace h : num_Put_j1 v1 v4 = some r := h
    unfold num_Put_j1 at h
    obtain ⟨o, ho, h⟩ := bs h
    refine sw_lp (X := (List UInt8) × Int) (B := (List UInt8) × Int) (R := (List UInt8)) (fun z => [(0, .msl 1 0 (List.length z.1)), (5, .lit (.int .u64 z.2))]) (fun z => [none, some (1, List.map byteRow z.1)]) (fun b => [(0, .msl 1 0 (List.length b.1)), (5, .lit (.int .u64 b.2))]) (fun b => [none, some (1, List.map byteRow b.1)]) (fun r env st => PostF Tryz.prog Tryz.f53 1 (.msl 1 0 (List.length r)) [none, some (1, List.map byteRow r)] env st) ho ⟨[.dead, .old 0], cv rfl (.msl rfl) <| ce rfl rfl <| cn, rfl, ⟨⟨_, rfl, rsMap (fun _ => rfl)⟩, trivial⟩, rfl, Nat.le_of_ble_eq_true rfl⟩ ?_ ?_ ?_
    · rintro ⟨v9, v10⟩ r h
      replace h : num_Put_l2 v9 v10 = some r := h
      unfold num_Put_l2 at h
      refine sw_seq ?_
      refine rg rfl <| u <| mv rfl <| u <| gtr ti120 rfl rfl <| r_nil ?_
      refine sw_cond rfl (fun hc6 => ?_) (fun hc6 => ?_)
      · replace h := bT hc6 h
        refine sw_skip ?_
        refine sw_block ?_
        obtain ⟨v11, q7, h⟩ := bs h
        refine rg rfl <| u <| mv rfl <| u <| mv rfl <| u <| cv8 ti120 ti5 rfl rfl rfl <| u <| bor8 ti5 rfl rfl <| u <| bl 2 ti43 rfl ti5 rfl (by decide) (by decide) rfl rfl rfl <| u <| apM 3 ti43 rfl ti5 rfl rfl (by decide) ti43 rfl rfl rfl rfl (roX (f := byteRow) (z := [((tU8 v10) ||| (128 : UInt8))]) rfl rfl) (fun _ => rfl) rfl q7 <| u <| asg rfl <| r_nil ?_
        obtain ⟨v12, q8, h⟩ := bs h
        refine rl rfl <| u <| mv rfl <| u <| shr ti120 rfl rfl q8 <| u <| asg rfl <| r_nil ?_
        obtain rfl := sm h
        exact ⟨_, rfl, [.dead, .old 3], cv rfl (.msl rfl) <| ce rfl rfl <| cn, rfl, ⟨⟨_, rfl, rsMap (fun _ => rfl)⟩, trivial⟩, rfl, Nat.le_of_ble_eq_true rfl⟩
      · replace h := bF hc6 h
        refine sw_exit ?_
        obtain rfl := sm h
        exact ⟨rfl, _, rfl, [.dead, .old 1], cv rfl (.msl rfl) <| ce rfl rfl <| cn, rfl, ⟨⟨_, rfl, rsMap (fun _ => rfl)⟩, trivial⟩, rfl, Nat.le_of_ble_eq_true rfl⟩
    · rintro ⟨v13, v14⟩ rfl
      replace h : num_Put_k3 v13 v14 = some r := h
      unfold num_Put_k3 at h
      obtain ⟨v15, q9, h⟩ := bs h
      refine rg rfl <| u <| mv rfl <| u <| mv rfl <| u <| cv8 ti120 ti5 rfl rfl rfl <| u <| bl 2 ti43 rfl ti5 rfl (by decide) (by decide) rfl rfl rfl <| u <| apM 3 ti43 rfl ti5 rfl rfl (by decide) ti43 rfl rfl rfl rfl (roX (f := byteRow) (z := [(tU8 v14)]) rfl rfl) (fun _ => rfl) rfl q9 <| u <| asg rfl <| r_nil ?_
      refine sw_ret ?_
      obtain rfl := sm h
      exact ⟨_, rfl, [.dead, .old 3], .msl rfl, rfl, ⟨⟨_, rfl, rsMap (fun _ => rfl)⟩, trivial⟩, rfl, Nat.le_of_ble_eq_true rfl⟩
    · rintro r' rfl env st hp
      obtain rfl := sm h
      exact hp

noncomputable def num_PutText (v1 : List UInt8) (v2 : List UInt8) : Option ((List UInt8)) :=
  (num_Put v1 (List.length v2 : Int)).bind fun v3 => (appP 1 v3 v2).bind fun v4 => some v4
theorem num_PutText_ok (v1 : List UInt8) (v2 : List UInt8) {r : (List UInt8)} (h : num_PutText v1 v2 = some r) : SC Tryz.prog 54 [.msl 0 0 (List.length v1), .lit (.string (B v2))] [.many 1 (List.map byteRow v1)] (.msl 1 0 (List.length r)) [.no, .many 1 (List.map byteRow r)] := by
  refine ⟨⟨trivial, sbOk (sz := 1) (fun _ => rfl), trivial⟩, scall_fn Tryz.func54 rfl (by kernel_rfl) rfl ?_⟩
  unfold num_PutText at h
  refine rg rfl <| u <| asg rfl <| r_nil ?_
  obtain ⟨v3, q1, h⟩ := bs h
  obtain ⟨v4, q2, h⟩ := bs h
  refine rg rfl <| u <| mv rfl <| u <| mv rfl <| u <| lnS ti9 rfl rfl <| u <| sc [0] (num_Put_ok v1 (List.length v2 : Int) q1) rfl rfl rfl rfl ⟨(.msl rfl), (rnI rfl), trivial⟩ ⟨⟨rfl, mkI (fun _ => rfl)⟩, trivial⟩ <| u <| mv rfl <| u <| apMS 2 ti43 rfl ti5 rfl rfl ti9 rfl rfl rfl rfl rfl q2 <| u <| asg rfl <| r_nil ?_
  refine sw_ret ?_
  obtain rfl := sm h
  exact ⟨_, rfl, [.dead, .old 2], .msl rfl, rfl, ⟨⟨_, rfl, rsMap (fun _ => rfl)⟩, trivial⟩, rfl, Nat.le_of_ble_eq_true rfl⟩

noncomputable def op_Put_j3 (v9 : List UInt8) : Option ((List UInt8)) :=
  some v9
noncomputable def op_Put_j2 (v2 : ApiIns) (v7 : List UInt8) : Option ((List UInt8)) :=
  cond (op_m v2.Op) ((num_PutText v7 v2.M).bind fun v8 => op_Put_j3 v8) (op_Put_j3 v7)
noncomputable def op_Put_j1 (v2 : ApiIns) (v5 : List UInt8) : Option ((List UInt8)) :=
  cond (op_c v2.Op) ((num_PutText v5 v2.C).bind fun v6 => op_Put_j2 v2 v6) (op_Put_j2 v2 v5)
noncomputable def op_Put (v1 : List UInt8) (v2 : ApiIns) : Option ((List UInt8)) :=
  (num_Put v1 v2.Op).bind fun v3 => cond (op_a v2.Op) ((num_Put v3 v2.A).bind fun v4 => op_Put_j1 v2 v4) (op_Put_j1 v2 v3)
theorem op_Put_ok (v1 : List UInt8) (v2 : ApiIns) {r : (List UInt8)} (h : op_Put v1 v2 = some r) : SC Tryz.prog 127 [.msl 0 0 (List.length v1), .agg [.lit (.int .i64 v2.Op), .lit (.int .i64 v2.A), .lit (.string (B v2.C)), .lit (.string (B v2.M))]] [.many 1 (List.map byteRow v1)] (.msl 1 0 (List.length r)) [.no, .many 1 (List.map byteRow r)] := by
  refine ⟨⟨trivial, sbOk (sz := 1) (fun _ => rfl), trivial⟩, scall_fn Tryz.func127 rfl (by kernel_rfl) rfl ?_⟩
  unfold op_Put at h
  refine rg rfl <| u <| bx 1 4 rfl rfl rfl rfl <| u <| asg rfl <| r_nil ?_
  obtain ⟨v3, q1, h⟩ := bs h
  refine rg rfl <| u <| mv rfl <| u <| fa ti37 rfl rfl rfl <| u <| ld ti3 rfl rfl <| u <| sc [0] (num_Put_ok v1 v2.Op q1) rfl rfl rfl rfl ⟨(.msl rfl), (rnI rfl), trivial⟩ ⟨⟨rfl, mkI (fun _ => rfl)⟩, trivial⟩ <| u <| asg rfl <| r_nil ?_
  refine sw_meet (X := (List UInt8)) (fun z => [(0, .msl 1 0 (List.length z)), (3, .mpt 2 0 0)]) (fun z => [none, some (1, List.map byteRow z), some (4, [[.lit (.int .i64 v2.Op), .lit (.int .i64 v2.A), .lit (.string (B v2.C)), .lit (.string (B v2.M))]])]) (fun z => op_Put_j1 v2 z = some r) ?_ ?_
  · refine rg rfl <| u <| fa ti37 rfl rfl rfl <| u <| ld ti3 rfl rfl <| u <| pc (op_a_ok v2.Op rfl) rfl rfl rfl <| r_nil ?_
    refine sw_cond rfl (fun hc2 => ?_) (fun hc2 => ?_)
    · replace h := bT hc2 h
      obtain ⟨v4, q3, h⟩ := bs h
      exact rl rfl <| u <| mv rfl <| u <| fa ti37 rfl rfl rfl <| u <| ld ti3 rfl rfl <| u <| sc [2] (num_Put_ok v3 v2.A q3) rfl rfl rfl rfl ⟨(.msl rfl), (rnI rfl), trivial⟩ ⟨⟨rfl, mkI (fun _ => rfl)⟩, trivial⟩ <| u <| asg rfl <| r_nil (⟨v4, h, [.dead, .old 3, .old 1], cv rfl (.msl rfl) <| cv rfl (.mpt rfl) <| cn, rfl, ⟨⟨_, rfl, rsMap (fun _ => rfl)⟩, ⟨_, rfl, rsOne ⟨ci rfl, ci rfl, ci rfl, ci rfl, trivial⟩⟩, trivial⟩, rfl, Nat.le_of_ble_eq_true rfl⟩)
    · replace h := bF hc2 h
      refine sw_skip ?_
      exact ⟨v3, h, [.dead, .old 2, .old 1], cv rfl (.msl rfl) <| cv rfl (.mpt rfl) <| cn, rfl, ⟨⟨_, rfl, rsMap (fun _ => rfl)⟩, ⟨_, rfl, rsOne ⟨ci rfl, ci rfl, ci rfl, ci rfl, trivial⟩⟩, trivial⟩, rfl, Nat.le_of_ble_eq_true rfl⟩
  · rintro v5 h
    replace h : op_Put_j1 v2 v5 = some r := h
    unfold op_Put_j1 at h
    refine sw_meet (X := (List UInt8)) (fun z => [(0, .msl 1 0 (List.length z)), (3, .mpt 2 0 0)]) (fun z => [none, some (1, List.map byteRow z), some (4, [[.lit (.int .i64 v2.Op), .lit (.int .i64 v2.A), .lit (.string (B v2.C)), .lit (.string (B v2.M))]])]) (fun z => op_Put_j2 v2 z = some r) ?_ ?_
    · refine rg rfl <| u <| fa ti37 rfl rfl rfl <| u <| ld ti3 rfl rfl <| u <| pc (op_c_ok v2.Op rfl) rfl rfl rfl <| r_nil ?_
      refine sw_cond rfl (fun hc4 => ?_) (fun hc4 => ?_)
      · replace h := bT hc4 h
        obtain ⟨v6, q5, h⟩ := bs h
        exact rl rfl <| u <| mv rfl <| u <| fa ti37 rfl rfl rfl <| u <| ld ti9 rfl rfl <| u <| sc [1] (num_PutText_ok v5 v2.C q5) rfl rfl rfl rfl ⟨(.msl rfl), (rnI rfl), trivial⟩ ⟨⟨rfl, mkI (fun _ => rfl)⟩, trivial⟩ <| u <| asg rfl <| r_nil (⟨v6, h, [.dead, .old 3, .old 2], cv rfl (.msl rfl) <| cv rfl (.mpt rfl) <| cn, rfl, ⟨⟨_, rfl, rsMap (fun _ => rfl)⟩, ⟨_, rfl, rsOne ⟨ci rfl, ci rfl, ci rfl, ci rfl, trivial⟩⟩, trivial⟩, rfl, Nat.le_of_ble_eq_true rfl⟩)
      · replace h := bF hc4 h
        refine sw_skip ?_
        exact ⟨v5, h, [.dead, .old 1, .old 2], cv rfl (.msl rfl) <| cv rfl (.mpt rfl) <| cn, rfl, ⟨⟨_, rfl, rsMap (fun _ => rfl)⟩, ⟨_, rfl, rsOne ⟨ci rfl, ci rfl, ci rfl, ci rfl, trivial⟩⟩, trivial⟩, rfl, Nat.le_of_ble_eq_true rfl⟩
    · rintro v7 h
      replace h : op_Put_j2 v2 v7 = some r := h
      unfold op_Put_j2 at h
      refine sw_meet (X := (List UInt8)) (fun z => [(0, .msl 1 0 (List.length z))]) (fun z => [none, some (1, List.map byteRow z)]) (fun z => op_Put_j3 z = some r) ?_ ?_
      · refine rg rfl <| u <| fa ti37 rfl rfl rfl <| u <| ld ti3 rfl rfl <| u <| pc (op_m_ok v2.Op rfl) rfl rfl rfl <| r_nil ?_
        refine sw_cond rfl (fun hc6 => ?_) (fun hc6 => ?_)
        · replace h := bT hc6 h
          obtain ⟨v8, q7, h⟩ := bs h
          exact rl rfl <| u <| mv rfl <| u <| fa ti37 rfl rfl rfl <| u <| ld ti9 rfl rfl <| u <| sc [1] (num_PutText_ok v7 v2.M q7) rfl rfl rfl rfl ⟨(.msl rfl), (rnI rfl), trivial⟩ ⟨⟨rfl, mkI (fun _ => rfl)⟩, trivial⟩ <| u <| asg rfl <| r_nil (⟨v8, h, [.dead, .old 3], cv rfl (.msl rfl) <| cn, rfl, ⟨⟨_, rfl, rsMap (fun _ => rfl)⟩, trivial⟩, rfl, Nat.le_of_ble_eq_true rfl⟩)
        · replace h := bF hc6 h
          refine sw_skip ?_
          exact ⟨v7, h, [.dead, .old 1], cv rfl (.msl rfl) <| cn, rfl, ⟨⟨_, rfl, rsMap (fun _ => rfl)⟩, trivial⟩, rfl, Nat.le_of_ble_eq_true rfl⟩
      · rintro v9 h
        replace h : op_Put_j3 v9 = some r := h
        unfold op_Put_j3 at h
        refine rg rfl <| u <| mv rfl <| u <| asg rfl <| r_nil ?_
        refine sw_ret ?_
        obtain rfl := sm h
        exact ⟨_, rfl, [.dead, .old 1], .msl rfl, rfl, ⟨⟨_, rfl, rsMap (fun _ => rfl)⟩, trivial⟩, rfl, Nat.le_of_ble_eq_true rfl⟩

noncomputable def law4_begun : Option (Bool) :=
  (op_Put [] (ApiIns.mk 43 0 [65, 98] [102])).bind fun v1 => (appP 1 ([] : List UInt8) v1).bind fun v2 => (appP 1 v2 [(1 : UInt8)]).bind fun v3 => (op_Get v3).bind fun v4 => (op_Get []).bind fun v5 => (op_Get [(0 : UInt8)]).bind fun v6 => (law3_Begun).bind fun v7 => (cond v7 ((op_May (ApiIns.mk 43 0 [65, 98] [102])).bind fun v8 => some v8) (some false)).bind fun v9 => (cond v9 ((op_May (ApiIns.mk 43 0 [] [])).bind fun v10 => some (!v10)) (some false)).bind fun v11 => some ((((((((((v11 && (op_Jumps 20)) && (!(op_Jumps 37))) && (op_Ends 46)) && (!(op_Ends 8))) && (decide (4 < ((List.length v1) : Int)))) && (v4.2.2 == (0 : Int))) && (v4.2.1 == ((List.length v1) : Int))) && (ref3_EqIns (ApiIns.mk 43 0 [65, 98] [102]) v4.1)) && (v5.2.2 == (2 : Int))) && (v6.2.2 == (1 : Int)))
theorem law4_begun_ok {r : Bool} (h : law4_begun = some r) : PureC Tryz.prog 74 [] (.lit (.bool r)) := by
  refine pure_fn Tryz.func74 rfl (by kernel_rfl) rfl rfl ?_
  unfold law4_begun at h
  refine rg rfl <| u <| asg rfl <| r_nil ?_
  refine rg rfl <| u <| bd ti37 rfl rfl rfl <| u <| al 0 ti37 rfl <| u <| sto ti37 rfl rfl rfl <| r_nil ?_
  obtain ⟨v1, q1, h⟩ := bs h
  refine rg rfl <| u <| ld ti37 rfl rfl <| ph 1 <| u <| sc [1] (op_Put_ok [] (ApiIns.mk 43 0 [65, 98] [102]) q1) rfl rfl rfl rfl ⟨(.nil0 rfl), (rnI rfl), trivial⟩ ⟨⟨rfl, mkI (fun _ => rfl)⟩, trivial⟩ <| u <| asg rfl <| r_nil ?_
  obtain ⟨v2, q2, h⟩ := bs h
  obtain ⟨v3, q3, h⟩ := bs h
  obtain ⟨v4, q4, h⟩ := bs h
  refine rg rfl <| u <| mv rfl <| u <| apN (f := byteRow) 3 ti43 rfl ti5 rfl rfl (by decide) ti43 rfl rfl rfl (roM rfl) (fun _ => rfl) rfl q2 <| u <| bl 4 ti43 rfl ti5 rfl (by decide) (by decide) rfl rfl rfl <| u <| apM 5 ti43 rfl ti5 rfl rfl (by decide) ti43 rfl rfl rfl rfl (roX (f := byteRow) (z := [(1 : UInt8)]) rfl rfl) (fun _ => rfl) rfl q3 <| u <| pcs (op_Get_ok v3 q4) rfl rfl (.cons (sealM rfl (fun _ => rfl)) .nil) plainB <| u <| mv rfl <| u <| ex rfl rfl <| u <| ex rfl rfl <| u <| ex rfl rfl <| u <| al 6 ti37 rfl <| u <| sto ti37 rfl rfl rfl <| u <| asg rfl <| u <| asg rfl <| r_nil ?_
  obtain ⟨v5, q5, h⟩ := bs h
  refine rg rfl <| u <| pcs (op_Get_ok [] q5) rfl rfl (.cons (.nil) .nil) plainB <| u <| mv rfl <| u <| ex rfl rfl <| u <| ex rfl rfl <| u <| ex rfl rfl <| u <| al 7 ti37 rfl <| u <| sto ti37 rfl rfl rfl <| u <| asg rfl <| u <| asg rfl <| r_nil ?_
  obtain ⟨v6, q6, h⟩ := bs h
  refine rg rfl <| u <| bl 8 ti43 rfl ti5 rfl (by decide) (by decide) rfl rfl rfl <| u <| pcs (op_Get_ok [(0 : UInt8)] q6) rfl rfl (.cons (sealX rfl ⟨⟨(si rfl), trivial⟩, trivial⟩) .nil) plainB <| u <| mv rfl <| u <| ex rfl rfl <| u <| ex rfl rfl <| u <| ex rfl rfl <| u <| al 9 ti37 rfl <| u <| sto ti37 rfl rfl rfl <| u <| asg rfl <| u <| asg rfl <| r_nil ?_
  obtain ⟨v7, q7, h⟩ := bs h
  obtain ⟨v9, q10, h⟩ := bs h
  obtain ⟨v11, q13, h⟩ := bs h
  refine rg rfl <| u <| pc (law3_Begun_ok q7) rfl rfl rfl <| u <| mv rfl <| r_and (x := v9) (j := 1) 2 rfl rfl rfl rfl rfl gpn (fun hb8 => by replace q10 := bT hb8 q10; obtain ⟨v8, q9, q10⟩ := bs q10; obtain rfl := sm q10; exact g rfl hb8 <| ld ti37 rfl rfl <| g rfl hb8 <| pc (op_May_ok (ApiIns.mk 43 0 [65, 98] [102]) q9) rfl rfl rfl <| r_nil (eg [37, 38] 2 rfl rfl rfl rfl)) (fun hb => (sm (bF hb q10)).symm) <| u <| mv rfl <| r_and (x := v11) (j := 5) 3 rfl rfl rfl rfl rfl gpn (fun hb11 => by replace q13 := bT hb11 q13; obtain ⟨v10, q12, q13⟩ := bs q13; obtain rfl := sm q13; exact g rfl hb11 <| bd ti37 rfl rfl rfl <| g rfl hb11 <| pc (op_May_ok (ApiIns.mk 43 0 [] []) q12) rfl rfl rfl <| g rfl hb11 <| nt rfl <| r_nil (eg [41, 42, 43] 3 rfl rfl rfl rfl)) (fun hb => (sm (bF hb q13)).symm) <| u <| mv rfl <| r_and (x := (v11 && (op_Jumps 20))) (j := 10) 1 rfl rfl rfl rfl rfl gpn (fun hb14 => g rfl hb14 <| pc (op_Jumps_ok 20 rfl) rfl rfl rfl <| r_nil (egA [46] 1 hb14 rfl rfl rfl rfl)) andF <| u <| mv rfl <| r_and (x := ((v11 && (op_Jumps 20)) && (!(op_Jumps 37)))) (j := 13) 2 rfl rfl rfl rfl rfl gpn (fun hb15 => g rfl hb15 <| pc (op_Jumps_ok 37 rfl) rfl rfl rfl <| g rfl hb15 <| nt rfl <| r_nil (egA [49, 50] 2 hb15 rfl rfl rfl rfl)) andF <| u <| mv rfl <| r_and (x := (((v11 && (op_Jumps 20)) && (!(op_Jumps 37))) && (op_Ends 46))) (j := 17) 1 rfl rfl rfl rfl rfl gpn (fun hb16 => g rfl hb16 <| pc (op_Ends_ok 46 rfl) rfl rfl rfl <| r_nil (egA [53] 1 hb16 rfl rfl rfl rfl)) andF <| u <| mv rfl <| r_and (x := ((((v11 && (op_Jumps 20)) && (!(op_Jumps 37))) && (op_Ends 46)) && (!(op_Ends 8)))) (j := 20) 2 rfl rfl rfl rfl rfl gpn (fun hb17 => g rfl hb17 <| pc (op_Ends_ok 8 rfl) rfl rfl rfl <| g rfl hb17 <| nt rfl <| r_nil (egA [56, 57] 2 hb17 rfl rfl rfl rfl)) andF <| u <| mv rfl <| r_and (x := (((((v11 && (op_Jumps 20)) && (!(op_Jumps 37))) && (op_Ends 46)) && (!(op_Ends 8))) && (decide (4 < ((List.length v1) : Int))))) (j := 24) 3 rfl rfl rfl rfl rfl gpn (fun hb18 => g rfl hb18 <| mv rfl <| g rfl hb18 <| lnM ti43 rfl rfl rfl <| g rfl hb18 <| gtr ti3 rfl rfl <| r_nil (egA [60, 61, 62] 3 hb18 rfl rfl rfl rfl)) andF <| u <| mv rfl <| r_and (x := ((((((v11 && (op_Jumps 20)) && (!(op_Jumps 37))) && (op_Ends 46)) && (!(op_Ends 8))) && (decide (4 < ((List.length v1) : Int)))) && (v4.2.2 == (0 : Int)))) (j := 29) 2 rfl rfl rfl rfl rfl gpn (fun hb19 => g rfl hb19 <| mv rfl <| g rfl hb19 <| eql ti45 rfl rfl <| r_nil (egA [65, 66] 2 hb19 rfl rfl rfl rfl)) andF <| u <| mv rfl <| r_and (x := (((((((v11 && (op_Jumps 20)) && (!(op_Jumps 37))) && (op_Ends 46)) && (!(op_Ends 8))) && (decide (4 < ((List.length v1) : Int)))) && (v4.2.2 == (0 : Int))) && (v4.2.1 == ((List.length v1) : Int)))) (j := 33) 4 rfl rfl rfl rfl rfl gpn (fun hb20 => g rfl hb20 <| mv rfl <| g rfl hb20 <| mv rfl <| g rfl hb20 <| lnM ti43 rfl rfl rfl <| g rfl hb20 <| eql ti3 rfl rfl <| r_nil (egA [69, 70, 71, 72] 4 hb20 rfl rfl rfl rfl)) andF <| u <| mv rfl <| r_and (x := ((((((((v11 && (op_Jumps 20)) && (!(op_Jumps 37))) && (op_Ends 46)) && (!(op_Ends 8))) && (decide (4 < ((List.length v1) : Int)))) && (v4.2.2 == (0 : Int))) && (v4.2.1 == ((List.length v1) : Int))) && (ref3_EqIns (ApiIns.mk 43 0 [65, 98] [102]) v4.1))) (j := 39) 3 rfl rfl rfl rfl rfl gpn (fun hb21 => g rfl hb21 <| ld ti37 rfl rfl <| g rfl hb21 <| ld ti37 rfl rfl <| g rfl hb21 <| pc (ref3_EqIns_ok (ApiIns.mk 43 0 [65, 98] [102]) v4.1 rfl) rfl rfl rfl <| r_nil (egA [75, 76, 77] 3 hb21 rfl rfl rfl rfl)) andF <| u <| mv rfl <| r_and (x := (((((((((v11 && (op_Jumps 20)) && (!(op_Jumps 37))) && (op_Ends 46)) && (!(op_Ends 8))) && (decide (4 < ((List.length v1) : Int)))) && (v4.2.2 == (0 : Int))) && (v4.2.1 == ((List.length v1) : Int))) && (ref3_EqIns (ApiIns.mk 43 0 [65, 98] [102]) v4.1)) && (v5.2.2 == (2 : Int)))) (j := 44) 2 rfl rfl rfl rfl rfl gpn (fun hb22 => g rfl hb22 <| mv rfl <| g rfl hb22 <| eql ti45 rfl rfl <| r_nil (egA [80, 81] 2 hb22 rfl rfl rfl rfl)) andF <| u <| mv rfl <| r_and (x := ((((((((((v11 && (op_Jumps 20)) && (!(op_Jumps 37))) && (op_Ends 46)) && (!(op_Ends 8))) && (decide (4 < ((List.length v1) : Int)))) && (v4.2.2 == (0 : Int))) && (v4.2.1 == ((List.length v1) : Int))) && (ref3_EqIns (ApiIns.mk 43 0 [65, 98] [102]) v4.1)) && (v5.2.2 == (2 : Int))) && (v6.2.2 == (1 : Int)))) (j := 48) 2 rfl rfl rfl rfl rfl gpn (fun hb23 => g rfl hb23 <| mv rfl <| g rfl hb23 <| eql ti45 rfl rfl <| r_nil (egA [84, 85] 2 hb23 rfl rfl rfl rfl)) andF <| u <| asg rfl <| r_nil ?_
  refine sw_ret ?_
  obtain rfl := sm h
  exact ⟨_, rfl, [], ci rfl, rfl, trivial, rfl, Nat.le_of_ble_eq_true rfl⟩

noncomputable def law4_Begun : Option (Bool) :=
  (law4_begun).bind fun v1 => some v1
theorem law4_Begun_ok {r : Bool} (h : law4_Begun = some r) : PureC Tryz.prog 20 [] (.lit (.bool r)) := by
  refine pure_fn Tryz.func20 rfl (by kernel_rfl) rfl rfl ?_
  unfold law4_Begun at h
  refine rg rfl <| u <| asg rfl <| r_nil ?_
  obtain ⟨v1, q1, h⟩ := bs h
  refine rg rfl <| u <| pc (law4_begun_ok q1) rfl rfl rfl <| u <| asg rfl <| r_nil ?_
  refine sw_ret ?_
  obtain rfl := sm h
  exact ⟨_, rfl, [], ci rfl, rfl, trivial, rfl, Nat.le_of_ble_eq_true rfl⟩
end Go.Proofs.YthhkdanpjcnegaaGreat
