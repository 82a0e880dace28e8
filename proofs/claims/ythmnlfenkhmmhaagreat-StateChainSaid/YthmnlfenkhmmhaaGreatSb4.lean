/- StateChain: for every input the law returns true, and each argument reads as it read before. No further condition. Part 4 of 5. -/
import Derived.Test.YthmnlfenkhmmhaaGreatSb3
namespace Go.Proofs.YthmnlfenkhmmhaaGreat
set_option linter.unusedSimpArgs false
set_option linter.unusedVariables false
set_option maxRecDepth 100000
set_option maxHeartbeats 4000000
structure FrameVal where
  Ref : Bool
  N : Int
def rFrameVal (x : FrameVal) : List AV := [bA x.Ref, .lit (.int .i32 x.N)]
noncomputable def law5_One (v1 : List UInt8) : Unit :=
  ()
theorem law5_One_ok (v1 : List UInt8) {r : Unit} (h : law5_One v1 = r) : SC Tryz.prog 21 [sA v1] [] (.agg [sA v1, sA [79, 98, 106, 101, 99, 116], bA false, .lit (.slice none 0 0), .msl 0 0 1, .msl 1 0 1]) [.xs 3 [[sA [120], sA [73], bA false]], .xs 10 [[sA [109, 97, 105, 110], .lit (.slice none 0 0), sA [86], bA true, bA false, iA 0, iA 0, .msl 2 0 1, .lit (.slice none 0 0), .lit (.slice none 0 0)]], .xs 4 [[iA 46, iA 0, sA [], sA []]]] := by
 refine ⟨⟨trivial, trivial, trivial, trivial⟩, scall_fn Tryz.func21 rfl (by kernel_rfl) rfl ?_⟩
 unfold law5_One at h
 refine rg rfl <| u <| al 0 ti26 rfl <| r_nil ?_
 refine rg rfl <| u <| mv rfl <| u <| bd ti42 rfl rfl rfl <| u <| bl 1 ti23 rfl ti42 rfl (by decide) (by decide) rfl rfl rfl <| u <| bd ti40 rfl rfl rfl <| u <| bl 2 ti34 rfl ti40 rfl (by decide) (by decide) rfl rfl rfl <| u <| bd ti38 rfl rfl rfl <| u <| bl 3 ti24 rfl ti38 rfl (by decide) (by decide) rfl rfl rfl <| u <| bd ti26 rfl rfl rfl <| u <| sto ti26 rfl rfl rfl <| r_nil ?_
 refine sw_ret ?_
 obtain rfl := h
 exact ⟨_, rfl, [.old 1, .old 3, .old 2], rsAgg ⟨ci rfl, ci rfl, ci rfl, ci rfl, (.msl rfl), (.msl rfl), trivial⟩, rfl, ⟨⟨_, rfl, rsRows ⟨⟨(ci rfl), (ci rfl), (ci rfl), trivial⟩, trivial⟩⟩, ⟨_, rfl, rsRows ⟨⟨(ci rfl), (ci rfl), (ci rfl), (ci rfl), (ci rfl), (ci rfl), (ci rfl), (.msl rfl), (ci rfl), (ci rfl), trivial⟩, trivial⟩⟩, ⟨_, rfl, rsRows ⟨⟨(ci rfl), (ci rfl), (ci rfl), (ci rfl), trivial⟩, trivial⟩⟩, trivial⟩, rfl, Nat.le_of_ble_eq_true rfl⟩
noncomputable def law7_Two : Unit :=
  ()
theorem law7_Two_ok {r : Unit} (h : law7_Two = r) : SC Tryz.prog 93 [] [] (.msl 0 0 3) [.xs 6 [[sA [70, 97, 99, 101], sA [79, 98, 106, 101, 99, 116], bA true, .lit (.slice none 0 0), .lit (.slice none 0 0), .msl 1 0 1], [sA [65, 97], sA [79, 98, 106, 101, 99, 116], bA false, .msl 2 0 1, .msl 3 0 2, .msl 4 0 1], [sA [66, 98], sA [65, 97], bA false, .lit (.slice none 0 0), .msl 6 0 1, .msl 7 0 1]], .xs 10 [[sA [102], .lit (.slice none 0 0), sA [73], bA false, bA true, iA 0, iA 0, .lit (.slice none 0 0), .lit (.slice none 0 0), .lit (.slice none 0 0)]], .xs 1 [[sA [70, 97, 99, 101]]], .xs 3 [[sA [120], sA [73], bA false], [sA [115], sA [73], bA true]], .xs 10 [[sA [102], .lit (.slice none 0 0), sA [73], bA false, bA false, iA 1, iA 1, .msl 5 0 2, .lit (.slice none 0 0), .lit (.slice none 0 0)]], .xs 4 [[iA 1, iA 5, sA [], sA []], [iA 47, iA 0, sA [], sA []]], .xs 3 [[sA [121], sA [91, 65, 97], bA false]], .xs 10 [[sA [109, 97, 105, 110], .lit (.slice none 0 0), sA [86], bA true, bA false, iA 0, iA 0, .msl 8 0 1, .lit (.slice none 0 0), .lit (.slice none 0 0)]], .xs 4 [[iA 46, iA 0, sA [], sA []]]] := by
 refine ⟨⟨trivial, trivial, trivial, trivial, trivial, trivial, trivial, trivial, trivial, trivial⟩, scall_fn Tryz.func93 rfl (by kernel_rfl) rfl ?_⟩
 unfold law7_Two at h
 refine rg rfl <| u <| asg rfl <| r_nil ?_
 refine rg rfl <| u <| bd ti38 rfl rfl rfl <| u <| bl 0 ti24 rfl ti38 rfl (by decide) (by decide) rfl rfl rfl <| u <| bd ti26 rfl rfl rfl <| u <| al 1 ti26 rfl <| u <| sto ti26 rfl rfl rfl <| r_nil ?_
 refine rg rfl <| u <| bl 2 ti22 rfl ti9 rfl (by decide) (by decide) rfl rfl rfl <| u <| bd ti42 rfl rfl rfl <| u <| bd ti42 rfl rfl rfl <| u <| bl 3 ti23 rfl ti42 rfl (by decide) (by decide) rfl rfl rfl <| u <| bd ti40 rfl rfl rfl <| u <| bd ti40 rfl rfl rfl <| u <| bl 4 ti34 rfl ti40 rfl (by decide) (by decide) rfl rfl rfl <| u <| bd (parts := [(0, sA [102]), (2, sA [73]), (5, iA 1), (6, iA 1), (7, .msl 4 0 2)]) (cs := [sA [102], .lit (.slice none 0 0), sA [73], bA false, bA false, iA 1, iA 1, .msl 4 0 2, .lit (.slice none 0 0), .lit (.slice none 0 0)]) ti38 rfl rfl (by kernel_rfl) <| u <| bl 5 ti24 rfl ti38 rfl (by decide) (by decide) rfl rfl rfl <| u <| bd (parts := [(0, sA [65, 97]), (1, sA [79, 98, 106, 101, 99, 116]), (3, .msl 2 0 1), (4, .msl 3 0 2), (5, .msl 5 0 1)]) (cs := [sA [65, 97], sA [79, 98, 106, 101, 99, 116], bA false, .msl 2 0 1, .msl 3 0 2, .msl 5 0 1]) ti26 rfl rfl (by kernel_rfl) <| u <| al 6 ti26 rfl <| u <| sto ti26 rfl rfl rfl <| r_nil ?_
 refine rg rfl <| u <| sc [] (law5_One_ok [66, 98] rfl) rfl rfl rfl rfl ⟨(rnI rfl), trivial⟩ trivial <| u <| al 10 ti26 rfl <| u <| sto ti26 rfl rfl rfl <| r_nil ?_
 refine rg rfl <| u <| fa ti26 rfl rfl rfl <| u <| sto ti9 rfl rfl rfl <| r_nil ?_
 refine rg rfl <| u <| bd ti42 rfl rfl rfl <| u <| bl 11 ti23 rfl ti42 rfl (by decide) (by decide) rfl rfl rfl <| u <| fa ti26 rfl rfl rfl <| u <| sto ti23 rfl rfl rfl <| r_nil ?_
 refine rg rfl <| u <| ld ti26 rfl rfl <| u <| ld ti26 rfl rfl <| u <| ld ti26 rfl rfl <| u <| bl 12 ti46 rfl ti26 rfl (by decide) (by decide) rfl rfl rfl <| u <| asg rfl <| r_nil ?_
 refine sw_ret ?_
 obtain rfl := h
 exact ⟨_, rfl, [.old 12, .old 0, .old 2, .old 3, .old 5, .old 4, .old 11, .old 8, .old 9], .msl rfl, rfl, ⟨⟨_, rfl, rsRows ⟨⟨(ci rfl), (ci rfl), (ci rfl), (ci rfl), (ci rfl), (.msl rfl), trivial⟩, ⟨(ci rfl), (ci rfl), (ci rfl), (.msl rfl), (.msl rfl), (.msl rfl), trivial⟩, ⟨(ci rfl), (ci rfl), (ci rfl), (ci rfl), (.msl rfl), (.msl rfl), trivial⟩, trivial⟩⟩, ⟨_, rfl, rsRows ⟨⟨(ci rfl), (ci rfl), (ci rfl), (ci rfl), (ci rfl), (ci rfl), (ci rfl), (ci rfl), (ci rfl), (ci rfl), trivial⟩, trivial⟩⟩, ⟨_, rfl, rsRows ⟨⟨(ci rfl), trivial⟩, trivial⟩⟩, ⟨_, rfl, rsRows ⟨⟨(ci rfl), (ci rfl), (ci rfl), trivial⟩, ⟨(ci rfl), (ci rfl), (ci rfl), trivial⟩, trivial⟩⟩, ⟨_, rfl, rsRows ⟨⟨(ci rfl), (ci rfl), (ci rfl), (ci rfl), (ci rfl), (ci rfl), (ci rfl), (.msl rfl), (ci rfl), (ci rfl), trivial⟩, trivial⟩⟩, ⟨_, rfl, rsRows ⟨⟨(ci rfl), (ci rfl), (ci rfl), (ci rfl), trivial⟩, ⟨(ci rfl), (ci rfl), (ci rfl), (ci rfl), trivial⟩, trivial⟩⟩, ⟨_, rfl, rsRows ⟨⟨(ci rfl), (ci rfl), (ci rfl), trivial⟩, trivial⟩⟩, ⟨_, rfl, rsRows ⟨⟨(ci rfl), (ci rfl), (ci rfl), (ci rfl), (ci rfl), (ci rfl), (ci rfl), (.msl rfl), (ci rfl), (ci rfl), trivial⟩, trivial⟩⟩, ⟨_, rfl, rsRows ⟨⟨(ci rfl), (ci rfl), (ci rfl), (ci rfl), trivial⟩, trivial⟩⟩, trivial⟩, rfl, Nat.le_of_ble_eq_true rfl⟩
noncomputable def hier_Hier_Names_s2_k2 (v11 : List (List UInt8)) : Option ((List (List UInt8))) :=
  some v11
noncomputable def hier_Hier_Names_s2_l1 (v1 : List ApiClass) (v7 : List (List UInt8)) (v8 : Int) : Option (Sum ((List (List UInt8)) × Int) (Sum ((List (List UInt8))) ((List (List UInt8))))) :=
  cond (decide (v8 < (List.length v1 : Int))) ((idx v1 v8).bind fun v9 => (appP 16 v7 [v9.Name]).bind fun v10 => some (.inl (v10, (IntKind.i64.wrap (v8 + 1))))) (some (.inr (.inl v7)))
noncomputable def hier_Hier_Names_s2 (v1 : List ApiClass) (v2 : List (List UInt8 × Int)) : Option ((List (List UInt8))) :=
  (loopP (fun z => hier_Hier_Names_s2_l1 v1 z.1 z.2) ([], 0)).bind fun o => leave o (fun b => hier_Hier_Names_s2_k2 b) some
theorem hier_Hier_Names_s2_ok (v1 : List ApiClass) (v2 : List (List UInt8 × Int)) {r : (List (List UInt8))} (h : hier_Hier_Names_s2 v1 v2 = some r) : SC Tryz.prog 104 [.ipt 2 [[.isl 6 (List.map rApiClass v1), .imp (List.map (rKV (fun x => iA x)) v2)]] 0 0] [] (.msl 0 0 (List.length r)) [.many 1 (List.map rStr r)] := by
 refine ⟨⟨sbOk (sz := 1) (fun _ => rfl), trivial⟩, scall_fn Tryz.func104 rfl (by kernel_rfl) rfl ?_⟩
 unfold hier_Hier_Names_s2 at h
 refine rg rfl <| u <| asg rfl <| r_nil ?_
 refine sw_seq ?_
 refine rg rfl <| u <| mv rfl <| u <| eqp ti48 rfl rfl rfl rfl rfl rfl <| r_nil ?_
 refine sw_cond rfl (fun hx => by cases hx) (fun _ => ?_)
 refine sw_skip ?_
 refine rg rfl <| u <| asg rfl <| r_nil ?_
 refine sw_seq ?_
 refine rg rfl <| u <| mv rfl <| u <| nc rfl rfl <| u <| fa ti156 rfl rfl rfl <| u <| ld ti46 rfl rfl <| u <| lnI ti46 rfl rfl <| u <| mv rfl <| r_nil ?_
 obtain ⟨o, ho, h⟩ := bs h
 refine sw_lpl (X := (List (List UInt8)) × Int) (B := (List (List UInt8))) (R := (List (List UInt8))) (fun z => [(3, .msl 0 0 (List.length z.1)), (11, .isl 6 (List.map rApiClass v1)), (12, iA (List.length v1 : Int)), (13, iA z.2)]) (fun z => [some (1, List.map rStr z.1)]) (fun b => [(3, .msl 0 0 (List.length b))]) (fun b => [some (1, List.map rStr b)]) (fun r env st => PostF Tryz.prog Tryz.f104 0 (.msl 0 0 (List.length r)) [some (1, List.map rStr r)] env st) ho ⟨[.fresh 1], cv rfl (.nilown rfl) <| ce rfl rfl <| ce rfl rfl <| ce rfl rfl <| cn, rfl, ⟨⟨rfl, rfl⟩, trivial⟩, rfl, Nat.le_of_ble_eq_true rfl⟩ ?_ ?_ ?_
 ·
  rintro ⟨v7, v8⟩ r h
  replace h : hier_Hier_Names_s2_l1 v1 v7 v8 = some r := h
  unfold hier_Hier_Names_s2_l1 at h
  refine rg rfl <| u <| lss ti3 rfl rfl <| r_nil ?_
  refine sw_seq ?_
  refine sw_cond rfl (fun hc4 => ?_) (fun hc4 => ?_)
  ·
   replace h := bT hc4 h
   refine sw_skip ?_
   refine sw_seq ?_
   refine sw_block ?_
   obtain ⟨v9, q5, h⟩ := bs h
   refine rg rfl <| u <| ixI ti46 rfl ti26 rfl rfl rfl q5 <| u <| ldI ti26 rfl (idx_some q5).2.2 rfl <| u <| al 1 ti26 rfl <| u <| sto ti26 rfl rfl rfl <| r_nil ?_
   obtain ⟨v10, q6, h⟩ := bs h
   refine rl rfl <| u <| mv rfl <| u <| fa ti26 rfl rfl rfl <| u <| ld ti9 rfl rfl <| u <| bl 2 ti22 rfl ti9 rfl (by decide) (by decide) rfl rfl rfl <| u <| apM 3 ti22 rfl ti9 rfl rfl (by decide) ti22 rfl rfl rfl rfl (roX (f := rStr) (z := [v9.Name]) rfl rfl) (fun _ => rfl) rfl q6 <| u <| asg rfl <| r_nil ?_
   refine rl rfl <| u <| add ti3 rfl rfl <| u <| mv rfl <| r_nil ?_
   obtain rfl := sm h
   exact ⟨_, rfl, [.old 3], cv rfl (.msl rfl) <| ce rfl rfl <| ce rfl rfl <| ce rfl rfl <| cn, rfl, ⟨⟨_, rfl, rsMap (fun _ => rfl)⟩, trivial⟩, rfl, Nat.le_of_ble_eq_true rfl⟩
  ·
   replace h := bF hc4 h
   refine sw_exit ?_
   obtain rfl := sm h
   exact ⟨rfl, _, rfl, [.old 0], cv rfl (.msl rfl) <| cn, rfl, ⟨⟨_, rfl, rsMap (fun _ => rfl)⟩, trivial⟩, rfl, Nat.le_of_ble_eq_true rfl⟩
 ·
  rintro v11 rfl
  replace h : hier_Hier_Names_s2_k2 v11 = some r := h
  unfold hier_Hier_Names_s2_k2 at h
  refine ow_intro ?_
  refine rg rfl <| u <| mv rfl <| u <| asg rfl <| r_nil ?_
  refine sw_ret ?_
  obtain rfl := sm h
  exact ⟨_, rfl, [.old 0], .msl rfl, rfl, ⟨⟨_, rfl, rsMap (fun _ => rfl)⟩, trivial⟩, rfl, Nat.le_of_ble_eq_true rfl⟩
 ·
  rintro r' rfl env st hp
  obtain rfl := sm h
  exact hp
noncomputable def hier_Hier_Class_s3 (v1 : List ApiClass) (v2 : List (List UInt8 × Int)) (v3 : List UInt8) : Option (ApiClass × Bool) :=
  cond (!(hier_Hier_has v1 v2 v3)) (some ((ApiClass.mk [] [] false [] [] []), false)) ((hier_Hier_get v1 v2 v3).bind fun v4 => some (v4, true))
theorem hier_Hier_Class_s3_ok (v1 : List ApiClass) (v2 : List (List UInt8 × Int)) (v3 : List UInt8) {r : ApiClass × Bool} (h : hier_Hier_Class_s3 v1 v2 v3 = some r) : PureC Tryz.prog 106 [.ipt 2 [[.isl 6 (List.map rApiClass v1), .imp (List.map (rKV (fun x => iA x)) v2)]] 0 0, sA v3] (.tup [.agg (rApiClass r.1), bA r.2]) := by
 refine pure_fn Tryz.func106 rfl (by kernel_rfl) rfl rfl ?_
 unfold hier_Hier_Class_s3 at h
 refine rg rfl <| u <| al 0 ti26 rfl <| u <| asg rfl <| r_nil ?_
 refine sw_seq ?_
 refine rg rfl <| u <| mv rfl <| u <| mv rfl <| u <| pc (hier_Hier_has_ok v1 v2 v3 rfl) rfl rfl rfl <| u <| nt rfl <| r_nil ?_
 refine sw_cond rfl (fun hc1 => ?_) (fun hc1 => ?_)
 ·
  replace h := bT hc1 h
  refine rg rfl <| u <| bd ti26 rfl rfl rfl <| u <| sto ti26 rfl rfl rfl <| u <| asg rfl <| r_nil ?_
  refine sw_ret ?_
  obtain rfl := sm h
  exact ⟨_, rfl, [], rsTup ⟨(rsAgg ⟨ci rfl, ci rfl, ci rfl, (.nil), (.nil), (.nil), trivial⟩), (ci rfl), trivial⟩, rfl, trivial, rfl, Nat.le_of_ble_eq_true rfl⟩
 ·
  replace h := bF hc1 h
  refine sw_skip ?_
  obtain ⟨v4, q2, h⟩ := bs h
  refine rg rfl <| u <| mv rfl <| u <| mv rfl <| u <| pc (hier_Hier_get_ok v1 v2 v3 q2) rfl rfl rfl <| u <| sto ti26 rfl rfl rfl <| u <| asg rfl <| r_nil ?_
  refine sw_ret ?_
  obtain rfl := sm h
  exact ⟨_, rfl, [], rsTup ⟨(ci rfl), (ci rfl), trivial⟩, rfl, trivial, rfl, Nat.le_of_ble_eq_true rfl⟩
noncomputable def state_key (v1 : List UInt8) (v2 : List UInt8) : Option ((List UInt8)) :=
  (catP v1 [46]).bind fun v3 => (catP v3 v2).bind fun v4 => some v4
theorem state_key_ok (v1 : List UInt8) (v2 : List UInt8) {r : (List UInt8)} (h : state_key v1 v2 = some r) : PureC Tryz.prog 108 [sA v1, sA v2] (sA r) := by
 refine pure_fn Tryz.func108 rfl (by kernel_rfl) rfl rfl ?_
 unfold state_key at h
 refine rg rfl <| u <| asg rfl <| r_nil ?_
 obtain ⟨v3, q1, h⟩ := bs h
 obtain ⟨v4, q2, h⟩ := bs h
 refine rg rfl <| u <| mv rfl <| u <| scat ti9 rfl rfl q1 <| u <| mv rfl <| u <| scat ti9 rfl rfl q2 <| u <| asg rfl <| r_nil ?_
 refine sw_ret ?_
 obtain rfl := sm h
 exact ⟨_, rfl, [], ci rfl, rfl, trivial, rfl, Nat.le_of_ble_eq_true rfl⟩
noncomputable def state_New_k12 (v2 : HierHier) (v62 : List (List UInt8 × Int)) (v63 : List (List UInt8 × FrameVal)) (v64 : List (List UInt8)) : Option ((List ApiClass) × (List (List UInt8 × Int)) × (List (List UInt8 × Int)) × (List (List UInt8 × FrameVal)) × (List (List UInt8))) :=
  some (v2.l, v2.at_, v62, v63, v64)
noncomputable def state_New_k10 (v36 : Int) (v38 : List (List UInt8 × Int)) (v60 : List (List UInt8 × FrameVal)) (v61 : List (List UInt8)) : Option (Sum ((List (List UInt8 × Int)) × (List (List UInt8 × FrameVal)) × (List (List UInt8)) × Int) (Sum ((List (List UInt8 × Int)) × (List (List UInt8 × FrameVal)) × (List (List UInt8))) ((List ApiClass) × (List (List UInt8 × Int)) × (List (List UInt8 × Int)) × (List (List UInt8 × FrameVal)) × (List (List UInt8))))) :=
  some (.inl (v38, v60, v61, (IntKind.i64.wrap (v36 + 1))))
noncomputable def state_New_j8 (v52 : Int) (v58 : List (List UInt8 × FrameVal)) (v59 : List (List UInt8)) : Option (Sum ((List (List UInt8 × FrameVal)) × (List (List UInt8)) × Int) (Sum ((List (List UInt8 × FrameVal)) × (List (List UInt8))) ((List ApiClass) × (List (List UInt8 × Int)) × (List (List UInt8 × Int)) × (List (List UInt8 × FrameVal)) × (List (List UInt8))))) :=
  some (.inl (v58, v59, (IntKind.i64.wrap (v52 + 1))))
noncomputable def state_New_l9 (v37 : List UInt8) (v39 : ApiClass × Bool) (v50 : List (List UInt8 × FrameVal)) (v51 : List (List UInt8)) (v52 : Int) : Option (Sum ((List (List UInt8 × FrameVal)) × (List (List UInt8)) × Int) (Sum ((List (List UInt8 × FrameVal)) × (List (List UInt8))) ((List ApiClass) × (List (List UInt8 × Int)) × (List (List UInt8 × Int)) × (List (List UInt8 × FrameVal)) × (List (List UInt8))))) :=
  cond (decide (v52 < (List.length v39.1.Fields : Int))) ((idx v39.1.Fields v52).bind fun v53 => cond v53.Static ((state_key v37 v53.Name).bind fun v54 => (kind_Ref v53.Type_).bind fun v55 => (state_key v37 v53.Name).bind fun v56 => (appP 16 v51 [v56]).bind fun v57 => state_New_j8 v52 (mapPut v54 (FrameVal.mk v55 0) v50) v57) (state_New_j8 v52 v50 v51)) (some (.inr (.inl (v50, v51))))
noncomputable def state_New_j6 (v2 : HierHier) (v34 : List (List UInt8 × FrameVal)) (v35 : List (List UInt8)) (v36 : Int) (v37 : List UInt8) (v38 : List (List UInt8 × Int)) : Option (Sum ((List (List UInt8 × Int)) × (List (List UInt8 × FrameVal)) × (List (List UInt8)) × Int) (Sum ((List (List UInt8 × Int)) × (List (List UInt8 × FrameVal)) × (List (List UInt8))) ((List ApiClass) × (List (List UInt8 × Int)) × (List (List UInt8 × Int)) × (List (List UInt8 × FrameVal)) × (List (List UInt8))))) :=
  (hier_Hier_Class_s3 v2.l v2.at_ v37).bind fun v39 => (loopP (fun z => state_New_l9 v37 v39 z.1 z.2.1 z.2.2) (v34, v35, 0)).bind fun o => leave o (fun b => state_New_k10 v36 v38 b.1 b.2) (fun r => some (.inr (.inr r)))
noncomputable def state_New_l11 (v2 : HierHier) (v3 : (List (List UInt8))) (v33 : List (List UInt8 × Int)) (v34 : List (List UInt8 × FrameVal)) (v35 : List (List UInt8)) (v36 : Int) : Option (Sum ((List (List UInt8 × Int)) × (List (List UInt8 × FrameVal)) × (List (List UInt8)) × Int) (Sum ((List (List UInt8 × Int)) × (List (List UInt8 × FrameVal)) × (List (List UInt8))) ((List ApiClass) × (List (List UInt8 × Int)) × (List (List UInt8 × Int)) × (List (List UInt8 × FrameVal)) × (List (List UInt8))))) :=
  cond (decide (v36 < ((List.length v3) : Int))) ((idx v3 v36).bind fun v37 => cond (decide (v36 < ((List.length (hier_Given)) : Int))) (state_New_j6 v2 v34 v35 v36 v37 (mapPut v37 2 (mapPut v37 0 v33))) (state_New_j6 v2 v34 v35 v36 v37 (mapPut v37 0 v33))) (some (.inr (.inl (v33, v34, v35))))
noncomputable def state_New (v1 : Option HierHier) : Option ((List ApiClass) × (List (List UInt8 × Int)) × (List (List UInt8 × Int)) × (List (List UInt8 × FrameVal)) × (List (List UInt8))) :=
  optE v1 (none) (fun v2 => (hier_Hier_Names_s2 v2.l v2.at_).bind fun v3 => (loopP (fun z => state_New_l11 v2 v3 z.1 z.2.1 z.2.2.1 z.2.2.2) ([], [], [], 0)).bind fun o => leave o (fun b => state_New_k12 v2 b.1 b.2.1 b.2.2) some)
theorem state_New_ok (v1 : Option HierHier) {r : (List ApiClass) × (List (List UInt8 × Int)) × (List (List UInt8 × Int)) × (List (List UInt8 × FrameVal)) × (List (List UInt8))} (h : state_New v1 = some r) : SC Tryz.prog 23 [optP 2 rHierHier v1] [] (.mpt 0 0 0) [.one 4 [.ipt 2 [[.isl 6 (List.map rApiClass r.1), .imp (List.map (rKV (fun x => iA x)) r.2.1)]] 0 0, .mmp 1, .mmp 2, .msl 3 0 (List.length r.2.2.2.2)], .many 2 (List.map (rKV (fun x => iA x)) r.2.2.1), .many 2 (List.map (rKV (fun x => .agg (rFrameVal x))) r.2.2.2.1), .many 1 (List.map rStr r.2.2.2.2)] := by
 refine ⟨⟨trivial, sbOk (sz := 2) (fun _ => rfl), sbOk (sz := 2) (fun _ => rfl), sbOk (sz := 1) (fun _ => rfl), trivial⟩, scall_fn Tryz.func23 rfl (by kernel_rfl) rfl ?_⟩
 unfold state_New at h
 rcases v1 with _ | v2
 ·
  replace h := oeN h
  cases h
 ·
  replace h := oeS h
  refine rg rfl <| u <| asg rfl <| r_nil ?_
  refine rg rfl <| u <| mv rfl <| u <| mmk (e := 3) 0 rfl rfl <| u <| mmk (e := 67) 1 rfl rfl <| u <| bd ti163 rfl rfl rfl <| u <| bx 2 4 rfl rfl rfl rfl <| u <| asg rfl <| r_nil ?_
  refine sw_seq ?_
  obtain ⟨v3, q1, h⟩ := bs h
  refine rg rfl <| u <| mv rfl <| u <| sc [] (hier_Hier_Names_s2_ok v2.l v2.at_ q1) rfl rfl rfl rfl ⟨(rnI rfl), trivial⟩ trivial <| r_can (env0 := [(0, .ipt 2 [[.isl 6 (List.map rApiClass v2.l), .imp (List.map (rKV (fun x => iA x)) v2.at_)]] 0 0), (3, .mpt 0 0 0), (16, .msl 3 0 (List.length v3))]) (st0 := [some (4, [[.ipt 2 [[.isl 6 (List.map rApiClass v2.l), .imp (List.map (rKV (fun x => iA x)) v2.at_)]] 0 0, .mmp 1, .mmp 2, .lit (.slice none 0 0)]]), some (2, List.map (rKV (fun x => iA x)) []), some (2, List.map (rKV (fun x => .agg (rFrameVal x))) []), some (1, List.map rStr v3)]) ⟨[.old 2, .old 0, .old 1, .old 3], ce rfl rfl <| cv rfl (.mpt rfl) <| cv rfl (.msl rfl) <| cn, rfl, ⟨⟨_, rfl, rsOne ⟨ci rfl, .mmp rfl, .mmp rfl, ci rfl, trivial⟩⟩, ⟨_, rfl, rsMap (fun _ => rfl)⟩, ⟨_, rfl, rsMap (fun _ => rfl)⟩, ⟨_, rfl, rsMap (fun _ => rfl)⟩, trivial⟩, rfl, Nat.le_of_ble_eq_true rfl⟩ <| u <| lnM ti22 rfl rfl rfl <| u <| mv rfl <| r_nil ?_
  obtain ⟨o, ho, h⟩ := bs h
  refine sw_lpl (X := (List (List UInt8 × Int)) × (List (List UInt8 × FrameVal)) × (List (List UInt8)) × Int) (B := (List (List UInt8 × Int)) × (List (List UInt8 × FrameVal)) × (List (List UInt8))) (R := (List ApiClass) × (List (List UInt8 × Int)) × (List (List UInt8 × Int)) × (List (List UInt8 × FrameVal)) × (List (List UInt8))) (fun z => [(0, .ipt 2 [[.isl 6 (List.map rApiClass v2.l), .imp (List.map (rKV (fun x => iA x)) v2.at_)]] 0 0), (3, .mpt 0 0 0), (16, .msl 4 0 (List.length v3)), (17, iA ((List.length v3) : Int)), (18, iA z.2.2.2)]) (fun z => [some (4, [[.ipt 2 [[.isl 6 (List.map rApiClass v2.l), .imp (List.map (rKV (fun x => iA x)) v2.at_)]] 0 0, .mmp 1, .mmp 2, .msl 3 0 (List.length z.2.2.1)]]), some (2, List.map (rKV (fun x => iA x)) z.1), some (2, List.map (rKV (fun x => .agg (rFrameVal x))) z.2.1), some (1, List.map rStr z.2.2.1), some (1, List.map rStr v3)]) (fun b => [(3, .mpt 0 0 0)]) (fun b => [some (4, [[.ipt 2 [[.isl 6 (List.map rApiClass v2.l), .imp (List.map (rKV (fun x => iA x)) v2.at_)]] 0 0, .mmp 1, .mmp 2, .msl 3 0 (List.length b.2.2)]]), some (2, List.map (rKV (fun x => iA x)) b.1), some (2, List.map (rKV (fun x => .agg (rFrameVal x))) b.2.1), some (1, List.map rStr b.2.2)]) (fun r env st => PostF Tryz.prog Tryz.f23 0 (.mpt 0 0 0) [some (4, [[.ipt 2 [[.isl 6 (List.map rApiClass r.1), .imp (List.map (rKV (fun x => iA x)) r.2.1)]] 0 0, .mmp 1, .mmp 2, .msl 3 0 (List.length r.2.2.2.2)]]), some (2, List.map (rKV (fun x => iA x)) r.2.2.1), some (2, List.map (rKV (fun x => .agg (rFrameVal x))) r.2.2.2.1), some (1, List.map rStr r.2.2.2.2)] env st) ho ⟨[.old 0, .old 1, .old 2, .fresh 1, .old 3], ce rfl rfl <| cv rfl (.mpt rfl) <| cv rfl (.msl rfl) <| ce rfl rfl <| ce rfl rfl <| cn, rfl, ⟨⟨_, rfl, rsOne ⟨ci rfl, .mmp rfl, .mmp rfl, .nilown rfl, trivial⟩⟩, ⟨_, rfl, rsMap (fun _ => rfl)⟩, ⟨_, rfl, rsMap (fun _ => rfl)⟩, ⟨rfl, rfl⟩, ⟨_, rfl, rsMap (fun _ => rfl)⟩, trivial⟩, rfl, Nat.le_of_ble_eq_true rfl⟩ ?_ ?_ ?_
  ·
   rintro ⟨v33, v34, v35, v36⟩ r h
   replace h : state_New_l11 v2 v3 v33 v34 v35 v36 = some r := h
   unfold state_New_l11 at h
   refine rg rfl <| u <| lss ti3 rfl rfl <| r_nil ?_
   refine sw_seq ?_
   refine sw_cond rfl (fun hc20 => ?_) (fun hc20 => ?_)
   ·
    replace h := bT hc20 h
    refine sw_skip ?_
    refine sw_seq ?_
    refine sw_block ?_
    obtain ⟨v37, q21, h⟩ := bs h
    refine rg rfl <| u <| mv rfl <| u <| ixM ti22 rfl ti9 rfl rfl rfl rfl q21 <| u <| ldM ti9 rfl rfl (idx_some q21).2.2 rfl <| u <| asg rfl <| u <| asg rfl <| r_nil ?_
    refine rg rfl <| u <| mv rfl <| u <| nc rfl rfl <| u <| fa ti163 rfl rfl rfl <| u <| ld ti154 rfl rfl <| u <| mv rfl <| u <| mup (v := 0) (g := (fun x => iA x)) (l := v33) (s := v37) rfl rfl rfl rfl rfl rfl <| r_nil ?_
    refine sw_meet (X := (List (List UInt8 × Int))) (fun z => [(0, .ipt 2 [[.isl 6 (List.map rApiClass v2.l), .imp (List.map (rKV (fun x => iA x)) v2.at_)]] 0 0), (3, .mpt 0 0 0), (5, sA v37), (16, .msl 4 0 (List.length v3)), (17, iA ((List.length v3) : Int)), (18, iA v36)]) (fun z => [some (4, [[.ipt 2 [[.isl 6 (List.map rApiClass v2.l), .imp (List.map (rKV (fun x => iA x)) v2.at_)]] 0 0, .mmp 1, .mmp 2, .msl 3 0 (List.length v35)]]), some (2, List.map (rKV (fun x => iA x)) z), some (2, List.map (rKV (fun x => .agg (rFrameVal x))) v34), some (1, List.map rStr v35), some (1, List.map rStr v3)]) (fun z => state_New_j6 v2 v34 v35 v36 v37 z = some r) ?_ ?_
    ·
     refine rg rfl <| u <| mv rfl <| u <| sc [] (hier_Given_ok rfl) rfl rfl rfl rfl trivial trivial <| r_can (env0 := [(0, .ipt 2 [[.isl 6 (List.map rApiClass v2.l), .imp (List.map (rKV (fun x => iA x)) v2.at_)]] 0 0), (3, .mpt 0 0 0), (5, sA v37), (16, .msl 4 0 (List.length v3)), (17, iA ((List.length v3) : Int)), (18, iA v36), (28, iA v36), (29, .msl 5 0 (List.length (hier_Given)))]) (st0 := [some (4, [[.ipt 2 [[.isl 6 (List.map rApiClass v2.l), .imp (List.map (rKV (fun x => iA x)) v2.at_)]] 0 0, .mmp 1, .mmp 2, .msl 3 0 (List.length v35)]]), some (2, List.map (rKV (fun x => iA x)) (mapPut v37 0 v33)), some (2, List.map (rKV (fun x => .agg (rFrameVal x))) v34), some (1, List.map rStr v35), some (1, List.map rStr v3), some (1, List.map rStr (hier_Given))]) ⟨[.old 0, .old 1, .old 2, .old 3, .old 4, .old 5], ce rfl rfl <| cv rfl (.mpt rfl) <| ce rfl rfl <| cv rfl (.msl rfl) <| ce rfl rfl <| ce rfl rfl <| ce rfl rfl <| cv rfl (.msl rfl) <| cn, rfl, ⟨⟨_, rfl, rsOne ⟨ci rfl, .mmp rfl, .mmp rfl, .msl rfl, trivial⟩⟩, ⟨_, rfl, rsMap (fun _ => rfl)⟩, ⟨_, rfl, rsMap (fun _ => rfl)⟩, ⟨_, rfl, rsMap (fun _ => rfl)⟩, ⟨_, rfl, rsMap (fun _ => rfl)⟩, ⟨_, rfl, rsMap (fun _ => rfl)⟩, trivial⟩, rfl, Nat.le_of_ble_eq_true rfl⟩ <| u <| lnM ti22 rfl rfl rfl <| u <| lss ti3 rfl rfl <| r_nil ?_
     refine sw_cond rfl (fun hc22 => ?_) (fun hc22 => ?_)
     ·
      replace h := bT hc22 h
      exact rl rfl <| u <| mv rfl <| u <| nc rfl rfl <| u <| fa ti163 rfl rfl rfl <| u <| ld ti154 rfl rfl <| u <| mv rfl <| u <| mup (v := 2) (g := (fun x => iA x)) (l := (mapPut v37 0 v33)) (s := v37) rfl rfl rfl rfl rfl rfl <| r_nil (⟨(mapPut v37 2 (mapPut v37 0 v33)), h, [.old 0, .old 1, .old 2, .old 3, .old 4], ce rfl rfl <| cv rfl (.mpt rfl) <| ce rfl rfl <| cv rfl (.msl rfl) <| ce rfl rfl <| ce rfl rfl <| cn, rfl, ⟨⟨_, rfl, rsOne ⟨ci rfl, .mmp rfl, .mmp rfl, .msl rfl, trivial⟩⟩, ⟨_, rfl, rsMap (fun _ => rfl)⟩, ⟨_, rfl, rsMap (fun _ => rfl)⟩, ⟨_, rfl, rsMap (fun _ => rfl)⟩, ⟨_, rfl, rsMap (fun _ => rfl)⟩, trivial⟩, rfl, Nat.le_of_ble_eq_true rfl⟩)
     ·
      replace h := bF hc22 h
      refine sw_skip ?_
      exact ⟨(mapPut v37 0 v33), h, [.old 0, .old 1, .old 2, .old 3, .old 4], ce rfl rfl <| cv rfl (.mpt rfl) <| ce rfl rfl <| cv rfl (.msl rfl) <| ce rfl rfl <| ce rfl rfl <| cn, rfl, ⟨⟨_, rfl, rsOne ⟨ci rfl, .mmp rfl, .mmp rfl, .msl rfl, trivial⟩⟩, ⟨_, rfl, rsMap (fun _ => rfl)⟩, ⟨_, rfl, rsMap (fun _ => rfl)⟩, ⟨_, rfl, rsMap (fun _ => rfl)⟩, ⟨_, rfl, rsMap (fun _ => rfl)⟩, trivial⟩, rfl, Nat.le_of_ble_eq_true rfl⟩
    ·
     rintro v38 h
     replace h : state_New_j6 v2 v34 v35 v36 v37 v38 = some r := h
     unfold state_New_j6 at h
     obtain ⟨v39, q23, h⟩ := bs h
     refine rg rfl <| u <| mv rfl <| u <| mv rfl <| u <| pc (hier_Hier_Class_s3_ok v2.l v2.at_ v37 q23) rfl rfl rfl <| u <| mv rfl <| u <| ex rfl rfl <| u <| ex rfl rfl <| u <| al 5 ti26 rfl <| u <| sto ti26 rfl rfl rfl <| u <| asg rfl <| r_nil ?_
     refine rg rfl <| u <| fa ti26 rfl rfl rfl <| u <| ld ti23 rfl rfl <| u <| lnI ti23 rfl rfl <| u <| mv rfl <| r_nil ?_
     obtain ⟨o, ho, h⟩ := bs h
     refine sw_lpl (X := (List (List UInt8 × FrameVal)) × (List (List UInt8)) × Int) (B := (List (List UInt8 × FrameVal)) × (List (List UInt8))) (R := (List ApiClass) × (List (List UInt8 × Int)) × (List (List UInt8 × Int)) × (List (List UInt8 × FrameVal)) × (List (List UInt8))) (fun z => [(0, .ipt 2 [[.isl 6 (List.map rApiClass v2.l), .imp (List.map (rKV (fun x => iA x)) v2.at_)]] 0 0), (3, .mpt 0 0 0), (5, sA v37), (16, .msl 4 0 (List.length v3)), (17, iA ((List.length v3) : Int)), (18, iA v36), (44, .isl 3 (List.map rApiField v39.1.Fields)), (45, iA (List.length v39.1.Fields : Int)), (46, iA z.2.2)]) (fun z => [some (4, [[.ipt 2 [[.isl 6 (List.map rApiClass v2.l), .imp (List.map (rKV (fun x => iA x)) v2.at_)]] 0 0, .mmp 1, .mmp 2, .msl 3 0 (List.length z.2.1)]]), some (2, List.map (rKV (fun x => iA x)) v38), some (2, List.map (rKV (fun x => .agg (rFrameVal x))) z.1), some (1, List.map rStr z.2.1), some (1, List.map rStr v3)]) (fun b => [(0, .ipt 2 [[.isl 6 (List.map rApiClass v2.l), .imp (List.map (rKV (fun x => iA x)) v2.at_)]] 0 0), (3, .mpt 0 0 0), (16, .msl 4 0 (List.length v3)), (17, iA ((List.length v3) : Int)), (18, iA v36)]) (fun b => [some (4, [[.ipt 2 [[.isl 6 (List.map rApiClass v2.l), .imp (List.map (rKV (fun x => iA x)) v2.at_)]] 0 0, .mmp 1, .mmp 2, .msl 3 0 (List.length b.2)]]), some (2, List.map (rKV (fun x => iA x)) v38), some (2, List.map (rKV (fun x => .agg (rFrameVal x))) b.1), some (1, List.map rStr b.2), some (1, List.map rStr v3)]) (fun r env st => PostF Tryz.prog Tryz.f23 0 (.mpt 0 0 0) [some (4, [[.ipt 2 [[.isl 6 (List.map rApiClass r.1), .imp (List.map (rKV (fun x => iA x)) r.2.1)]] 0 0, .mmp 1, .mmp 2, .msl 3 0 (List.length r.2.2.2.2)]]), some (2, List.map (rKV (fun x => iA x)) r.2.2.1), some (2, List.map (rKV (fun x => .agg (rFrameVal x))) r.2.2.2.1), some (1, List.map rStr r.2.2.2.2)] env st) ho ⟨[.old 0, .old 1, .old 2, .old 3, .old 4], ce rfl rfl <| cv rfl (.mpt rfl) <| ce rfl rfl <| cv rfl (.msl rfl) <| ce rfl rfl <| ce rfl rfl <| ce rfl rfl <| ce rfl rfl <| ce rfl rfl <| cn, rfl, ⟨⟨_, rfl, rsOne ⟨ci rfl, .mmp rfl, .mmp rfl, .msl rfl, trivial⟩⟩, ⟨_, rfl, rsMap (fun _ => rfl)⟩, ⟨_, rfl, rsMap (fun _ => rfl)⟩, ⟨_, rfl, rsMap (fun _ => rfl)⟩, ⟨_, rfl, rsMap (fun _ => rfl)⟩, trivial⟩, rfl, Nat.le_of_ble_eq_true rfl⟩ ?_ ?_ ?_
     ·
      rintro ⟨v50, v51, v52⟩ r h
      replace h : state_New_l9 v37 v39 v50 v51 v52 = some r := h
      unfold state_New_l9 at h
      refine rg rfl <| u <| lss ti3 rfl rfl <| r_nil ?_
      refine sw_seq ?_
      refine sw_cond rfl (fun hc31 => ?_) (fun hc31 => ?_)
      ·
       replace h := bT hc31 h
       refine sw_skip ?_
       refine sw_meet (X := (List (List UInt8 × FrameVal)) × (List (List UInt8))) (fun z => [(0, .ipt 2 [[.isl 6 (List.map rApiClass v2.l), .imp (List.map (rKV (fun x => iA x)) v2.at_)]] 0 0), (3, .mpt 0 0 0), (5, sA v37), (16, .msl 4 0 (List.length v3)), (17, iA ((List.length v3) : Int)), (18, iA v36), (44, .isl 3 (List.map rApiField v39.1.Fields)), (45, iA (List.length v39.1.Fields : Int)), (46, iA v52)]) (fun z => [some (4, [[.ipt 2 [[.isl 6 (List.map rApiClass v2.l), .imp (List.map (rKV (fun x => iA x)) v2.at_)]] 0 0, .mmp 1, .mmp 2, .msl 3 0 (List.length z.2)]]), some (2, List.map (rKV (fun x => iA x)) v38), some (2, List.map (rKV (fun x => .agg (rFrameVal x))) z.1), some (1, List.map rStr z.2), some (1, List.map rStr v3)]) (fun z => state_New_j8 v52 z.1 z.2 = some r) ?_ ?_
       ·
        refine sw_block ?_
        obtain ⟨v53, q32, h⟩ := bs h
        refine rg rfl <| u <| ixI ti23 rfl ti42 rfl rfl rfl q32 <| u <| ldI ti42 rfl (idx_some q32).2.2 rfl <| u <| al 5 ti42 rfl <| u <| sto ti42 rfl rfl rfl <| r_nil ?_
        refine rg rfl <| u <| fa ti42 rfl rfl rfl <| u <| ld ti4 rfl rfl <| r_nil ?_
        refine sw_cond rfl (fun hc33 => ?_) (fun hc33 => ?_)
        ·
         replace h := bT hc33 h
         obtain ⟨v54, q34, h⟩ := bs h
         obtain ⟨v55, q35, h⟩ := bs h
         refine rd [(0, .ipt 2 [[.isl 6 (List.map rApiClass v2.l), .imp (List.map (rKV (fun x => iA x)) v2.at_)]] 0 0), (3, .mpt 0 0 0), (5, sA v37), (9, .mpt 4 0 0), (16, .msl 5 0 (List.length v3)), (17, iA ((List.length v3) : Int)), (18, iA v36), (44, .isl 3 (List.map rApiField v39.1.Fields)), (45, iA (List.length v39.1.Fields : Int)), (46, iA v52)] [some (4, [[.ipt 2 [[.isl 6 (List.map rApiClass v2.l), .imp (List.map (rKV (fun x => iA x)) v2.at_)]] 0 0, .mmp 1, .mmp 2, .msl 3 0 (List.length v51)]]), some (2, List.map (rKV (fun x => iA x)) v38), some (2, List.map (rKV (fun x => .agg (rFrameVal x))) (mapPut v54 (FrameVal.mk v55 0) v50)), some (1, List.map rStr v51), some (3, [(rApiField v53)]), some (1, List.map rStr v3)] [12] [11, 10, 9, 8, 7, 6, 5, 4, 3, 2, 1, 0] [(63, .agg [bA v55, .lit (.int .i32 0)]), (62, bA v55), (61, sA v53.Type_), (60, .mpt 5 0 1), (59, sA v54), (58, sA v53.Name), (57, .mpt 5 0 0), (56, sA v37), (55, .mmp 2), (54, .mpt 0 0 2), (53, .mpt 0 0 0), (52, .mpt 0 0 0)] 1 (by kernel_rfl) (by kernel_rfl) rfl (by kernel_rfl) (dtS ⟨(fun _ => pa rfl rfl rfl rfl (bd ti67 rfl rfl rfl <| ⟨rfl, rfl⟩)), (fun _ => pa rfl rfl rfl rfl (pc (kind_Ref_ok v53.Type_ q35) rfl rfl rfl <| ⟨rfl, rfl⟩)), (fun _ => pa rfl rfl rfl rfl (ld ti9 rfl rfl <| ⟨rfl, rfl⟩)), (fun _ => pa rfl rfl rfl rfl (fa ti42 rfl rfl rfl <| ⟨rfl, rfl⟩)), (fun _ => pa rfl rfl rfl rfl (pc (state_key_ok v37 v53.Name q34) rfl rfl rfl <| ⟨rfl, rfl⟩)), (fun _ => pa rfl rfl rfl rfl (ld ti9 rfl rfl <| ⟨rfl, rfl⟩)), (fun _ => pa rfl rfl rfl rfl (fa ti42 rfl rfl rfl <| ⟨rfl, rfl⟩)), (fun _ => pa rfl rfl rfl rfl (mv rfl <| ⟨rfl, rfl⟩)), (fun _ => pa rfl rfl rfl rfl (ld ti161 rfl rfl <| ⟨rfl, rfl⟩)), (fun _ => pa rfl rfl rfl rfl (fa ti163 rfl rfl rfl <| ⟨rfl, rfl⟩)), (fun _ => pa rfl rfl rfl rfl (nc rfl rfl <| ⟨rfl, rfl⟩)), (fun _ => pa rfl rfl rfl rfl (mv rfl <| ⟨rfl, rfl⟩)), trivial⟩ (by kernel_rfl) rfl ⟨(fun _ _ => ⟨_, rfl, rfl, mup (v := (FrameVal.mk v55 0)) (g := (fun x => .agg (rFrameVal x))) (l := v50) (s := v54) rfl rfl rfl rfl rfl rfl <| ⟨.any, [], [], rfl, rfl, by kernel_rfl, trivial, dt0 ⟨(fun h => by cases h), (fun h => by cases h), (fun h => by cases h), (fun h => by cases h), (fun h => by cases h), (fun h => by cases h), (fun h => by cases h), (fun h => by cases h), (fun h => by cases h), (fun h => by cases h), (fun h => by cases h), (fun h => by cases h), trivial⟩ (by kernel_rfl) rfl ⟨[.old 0, .old 1, .old 2, .old 3, .old 5, .old 4], ce rfl rfl <| cv rfl (.mpt rfl) <| ce rfl rfl <| cv rfl (.mpt rfl) <| cv rfl (.msl rfl) <| ce rfl rfl <| ce rfl rfl <| ce rfl rfl <| ce rfl rfl <| ce rfl rfl <| cn, rfl, ⟨⟨_, rfl, rsOne ⟨ci rfl, .mmp rfl, .mmp rfl, .msl rfl, trivial⟩⟩, ⟨_, rfl, rsMap (fun _ => rfl)⟩, ⟨_, rfl, rsMap (fun _ => rfl)⟩, ⟨_, rfl, rsMap (fun _ => rfl)⟩, ⟨_, rfl, rsOne (ciL rfl)⟩, ⟨_, rfl, rsMap (fun _ => rfl)⟩, trivial⟩, rfl, Nat.le_of_ble_eq_true rfl⟩⟩⟩), trivial⟩) ?_
         obtain ⟨v56, q36, h⟩ := bs h
         obtain ⟨v57, q37, h⟩ := bs h
         refine rdL [(0, .ipt 2 [[.isl 6 (List.map rApiClass v2.l), .imp (List.map (rKV (fun x => iA x)) v2.at_)]] 0 0), (3, .mpt 0 0 0), (5, sA v37), (16, .msl 4 0 (List.length v3)), (17, iA ((List.length v3) : Int)), (18, iA v36), (44, .isl 3 (List.map rApiField v39.1.Fields)), (45, iA (List.length v39.1.Fields : Int)), (46, iA v52)] [some (4, [[.ipt 2 [[.isl 6 (List.map rApiClass v2.l), .imp (List.map (rKV (fun x => iA x)) v2.at_)]] 0 0, .mmp 1, .mmp 2, .msl 3 0 (List.length v57)]]), some (2, List.map (rKV (fun x => iA x)) v38), some (2, List.map (rKV (fun x => .agg (rFrameVal x))) (mapPut v54 (FrameVal.mk v55 0) v50)), some (1, List.map rStr v57), some (1, List.map rStr v3)] [9, 10, 13] [8, 7, 6, 5, 4, 3, 2, 1, 0] [(72, sA v56), (71, sA v53.Name), (70, .mpt 4 0 0), (69, sA v37), (68, .msl 3 0 (List.length v51)), (67, .mpt 0 0 3), (66, .mpt 0 0 0), (65, .mpt 0 0 0), (64, .mpt 0 0 0)] 3 (by kernel_rfl) (by kernel_rfl) rfl (by kernel_rfl) (dtS ⟨(fun _ => pa rfl rfl rfl rfl (pc (state_key_ok v37 v53.Name q36) rfl rfl rfl <| ⟨rfl, rfl⟩)), (fun _ => pa rfl rfl rfl rfl (ld ti9 rfl rfl <| ⟨rfl, rfl⟩)), (fun _ => pa rfl rfl rfl rfl (fa ti42 rfl rfl rfl <| ⟨rfl, rfl⟩)), (fun _ => pa rfl rfl rfl rfl (mv rfl <| ⟨rfl, rfl⟩)), (fun _ => pa rfl rfl rfl rfl (ld ti22 rfl rfl <| ⟨rfl, rfl⟩)), (fun _ => pa rfl rfl rfl rfl (fa ti163 rfl rfl rfl <| ⟨rfl, rfl⟩)), (fun _ => pa rfl rfl rfl rfl (nc rfl rfl <| ⟨rfl, rfl⟩)), (fun _ => pa rfl rfl rfl rfl (mv rfl <| ⟨rfl, rfl⟩)), (fun _ => pa rfl rfl rfl rfl (mv rfl <| ⟨rfl, rfl⟩)), trivial⟩ (by kernel_rfl) rfl ⟨(fun _ _ => ⟨_, rfl, rfl, bl 6 ti22 rfl ti9 rfl (by decide) (by decide) rfl rfl rfl <| ⟨(.msl 6 0 1), [], [(73, .msl 6 0 1)], rfl, rfl, by kernel_rfl, rfl, dtS ⟨(fun h => by cases h), (fun _ => pa rfl rfl rfl rfl (ld ti9 rfl rfl <| ⟨rfl, rfl⟩)), (fun _ => pa rfl rfl rfl rfl (fa ti42 rfl rfl rfl <| ⟨rfl, rfl⟩)), (fun _ => pa rfl rfl rfl rfl (mv rfl <| ⟨rfl, rfl⟩)), (fun _ => pa rfl rfl rfl rfl (ld ti22 rfl rfl <| ⟨rfl, rfl⟩)), (fun _ => pa rfl rfl rfl rfl (fa ti163 rfl rfl rfl <| ⟨rfl, rfl⟩)), (fun _ => pa rfl rfl rfl rfl (nc rfl rfl <| ⟨rfl, rfl⟩)), (fun _ => pa rfl rfl rfl rfl (mv rfl <| ⟨rfl, rfl⟩)), (fun _ => pa rfl rfl rfl rfl (mv rfl <| ⟨rfl, rfl⟩)), trivial⟩ (by kernel_rfl) rfl ⟨(fun h => by cases h), (fun _ _ => ⟨_, rfl, rfl, apM 7 ti22 rfl ti9 rfl rfl (by decide) ti22 rfl rfl rfl rfl (roX (f := rStr) (z := [v56]) rfl rfl) (fun _ => rfl) rfl q37 <| ⟨(.msl 7 0 (List.length v57)), [12, 11], [(76, .mpt 0 0 3), (75, .mpt 0 0 0), (74, .msl 7 0 (List.length v57))], rfl, rfl, by kernel_rfl, rfl, dtS ⟨(fun _ => pa rfl rfl rfl rfl (fa ti163 rfl rfl rfl <| ⟨rfl, rfl⟩)), (fun _ => pa rfl rfl rfl rfl (nc rfl rfl <| ⟨rfl, rfl⟩)), (fun h => by cases h), (fun _ => pa rfl rfl rfl rfl (ld ti9 rfl rfl <| ⟨rfl, rfl⟩)), (fun _ => pa rfl rfl rfl rfl (fa ti42 rfl rfl rfl <| ⟨rfl, rfl⟩)), (fun _ => pa rfl rfl rfl rfl (mv rfl <| ⟨rfl, rfl⟩)), (fun h => by cases h), (fun _ => pa rfl rfl rfl rfl (fa ti163 rfl rfl rfl <| ⟨rfl, rfl⟩)), (fun _ => pa rfl rfl rfl rfl (nc rfl rfl <| ⟨rfl, rfl⟩)), (fun _ => pa rfl rfl rfl rfl (mv rfl <| ⟨rfl, rfl⟩)), (fun _ => pa rfl rfl rfl rfl (mv rfl <| ⟨rfl, rfl⟩)), trivial⟩ (by kernel_rfl) rfl ⟨(fun h => by cases h), (fun h => by cases h), (fun _ _ => ⟨_, rfl, rfl, sto ti22 rfl rfl rfl <| ⟨.any, [], [], rfl, rfl, by kernel_rfl, trivial, dt0 ⟨(fun h => by cases h), (fun _ => pa rfl rfl rfl rfl (nc rfl rfl <| ⟨rfl, rfl⟩)), (fun h => by cases h), (fun h => by cases h), (fun h => by cases h), (fun h => by cases h), (fun h => by cases h), (fun h => by cases h), (fun h => by cases h), (fun h => by cases h), (fun h => by cases h), trivial⟩ (by kernel_rfl) rfl ⟨[.old 0, .old 1, .old 2, .old 7, .old 5], ce rfl rfl <| cv rfl (.mpt rfl) <| ce rfl rfl <| cv rfl (.msl rfl) <| ce rfl rfl <| ce rfl rfl <| ce rfl rfl <| ce rfl rfl <| ce rfl rfl <| cn, rfl, ⟨⟨_, rfl, rsOne ⟨ci rfl, .mmp rfl, .mmp rfl, .msl rfl, trivial⟩⟩, ⟨_, rfl, rsMap (fun _ => rfl)⟩, ⟨_, rfl, rsMap (fun _ => rfl)⟩, ⟨_, rfl, rsMap (fun _ => rfl)⟩, ⟨_, rfl, rsMap (fun _ => rfl)⟩, trivial⟩, rfl, Nat.le_of_ble_eq_true rfl⟩⟩⟩), trivial⟩⟩⟩), (fun _ h => by cases h), trivial⟩⟩⟩), (fun _ h => by cases h), (fun _ h => by cases h), trivial⟩) ?_
         exact ⟨⟨(mapPut v54 (FrameVal.mk v55 0) v50), v57⟩, h, [.old 0, .old 1, .old 2, .old 3, .old 4], ce rfl rfl <| cv rfl (.mpt rfl) <| ce rfl rfl <| cv rfl (.msl rfl) <| ce rfl rfl <| ce rfl rfl <| ce rfl rfl <| ce rfl rfl <| ce rfl rfl <| cn, rfl, ⟨⟨_, rfl, rsOne ⟨ci rfl, .mmp rfl, .mmp rfl, .msl rfl, trivial⟩⟩, ⟨_, rfl, rsMap (fun _ => rfl)⟩, ⟨_, rfl, rsMap (fun _ => rfl)⟩, ⟨_, rfl, rsMap (fun _ => rfl)⟩, ⟨_, rfl, rsMap (fun _ => rfl)⟩, trivial⟩, rfl, Nat.le_of_ble_eq_true rfl⟩
        ·
         replace h := bF hc33 h
         refine sw_skip ?_
         exact ⟨⟨v50, v51⟩, h, [.old 0, .old 1, .old 2, .old 3, .old 4], ce rfl rfl <| cv rfl (.mpt rfl) <| ce rfl rfl <| cv rfl (.msl rfl) <| ce rfl rfl <| ce rfl rfl <| ce rfl rfl <| ce rfl rfl <| ce rfl rfl <| cn, rfl, ⟨⟨_, rfl, rsOne ⟨ci rfl, .mmp rfl, .mmp rfl, .msl rfl, trivial⟩⟩, ⟨_, rfl, rsMap (fun _ => rfl)⟩, ⟨_, rfl, rsMap (fun _ => rfl)⟩, ⟨_, rfl, rsMap (fun _ => rfl)⟩, ⟨_, rfl, rsMap (fun _ => rfl)⟩, trivial⟩, rfl, Nat.le_of_ble_eq_true rfl⟩
       ·
        rintro ⟨v58, v59⟩ h
        replace h : state_New_j8 v52 v58 v59 = some r := h
        unfold state_New_j8 at h
        refine rl rfl <| u <| add ti3 rfl rfl <| u <| mv rfl <| r_nil ?_
        obtain rfl := sm h
        exact ⟨_, rfl, [.old 0, .old 1, .old 2, .old 3, .old 4], ce rfl rfl <| cv rfl (.mpt rfl) <| ce rfl rfl <| cv rfl (.msl rfl) <| ce rfl rfl <| ce rfl rfl <| ce rfl rfl <| ce rfl rfl <| ce rfl rfl <| cn, rfl, ⟨⟨_, rfl, rsOne ⟨ci rfl, .mmp rfl, .mmp rfl, .msl rfl, trivial⟩⟩, ⟨_, rfl, rsMap (fun _ => rfl)⟩, ⟨_, rfl, rsMap (fun _ => rfl)⟩, ⟨_, rfl, rsMap (fun _ => rfl)⟩, ⟨_, rfl, rsMap (fun _ => rfl)⟩, trivial⟩, rfl, Nat.le_of_ble_eq_true rfl⟩
      ·
       replace h := bF hc31 h
       refine sw_exit ?_
       obtain rfl := sm h
       exact ⟨rfl, _, rfl, [.old 0, .old 1, .old 2, .old 3, .old 4], ce rfl rfl <| cv rfl (.mpt rfl) <| cv rfl (.msl rfl) <| ce rfl rfl <| ce rfl rfl <| cn, rfl, ⟨⟨_, rfl, rsOne ⟨ci rfl, .mmp rfl, .mmp rfl, .msl rfl, trivial⟩⟩, ⟨_, rfl, rsMap (fun _ => rfl)⟩, ⟨_, rfl, rsMap (fun _ => rfl)⟩, ⟨_, rfl, rsMap (fun _ => rfl)⟩, ⟨_, rfl, rsMap (fun _ => rfl)⟩, trivial⟩, rfl, Nat.le_of_ble_eq_true rfl⟩
     ·
      rintro ⟨v60, v61⟩ rfl
      replace h : state_New_k10 v36 v38 v60 v61 = some r := h
      unfold state_New_k10 at h
      refine ow_intro ?_
      refine rl rfl <| u <| add ti3 rfl rfl <| u <| mv rfl <| r_nil ?_
      obtain rfl := sm h
      exact ⟨_, rfl, [.old 0, .old 1, .old 2, .old 3, .old 4], ce rfl rfl <| cv rfl (.mpt rfl) <| cv rfl (.msl rfl) <| ce rfl rfl <| ce rfl rfl <| cn, rfl, ⟨⟨_, rfl, rsOne ⟨ci rfl, .mmp rfl, .mmp rfl, .msl rfl, trivial⟩⟩, ⟨_, rfl, rsMap (fun _ => rfl)⟩, ⟨_, rfl, rsMap (fun _ => rfl)⟩, ⟨_, rfl, rsMap (fun _ => rfl)⟩, ⟨_, rfl, rsMap (fun _ => rfl)⟩, trivial⟩, rfl, Nat.le_of_ble_eq_true rfl⟩
     ·
      rintro r' rfl env st hp
      obtain rfl := sm h
      exact ⟨_, rfl, hp⟩
   ·
    replace h := bF hc20 h
    refine sw_exit ?_
    obtain rfl := sm h
    exact ⟨rfl, _, rfl, [.old 0, .old 1, .old 2, .old 3], cv rfl (.mpt rfl) <| cn, rfl, ⟨⟨_, rfl, rsOne ⟨ci rfl, .mmp rfl, .mmp rfl, .msl rfl, trivial⟩⟩, ⟨_, rfl, rsMap (fun _ => rfl)⟩, ⟨_, rfl, rsMap (fun _ => rfl)⟩, ⟨_, rfl, rsMap (fun _ => rfl)⟩, trivial⟩, rfl, Nat.le_of_ble_eq_true rfl⟩
  ·
   rintro ⟨v62, v63, v64⟩ rfl
   replace h : state_New_k12 v2 v62 v63 v64 = some r := h
   unfold state_New_k12 at h
   refine ow_intro ?_
   refine rg rfl <| u <| mv rfl <| u <| asg rfl <| r_nil ?_
   refine sw_ret ?_
   obtain rfl := sm h
   exact ⟨_, rfl, [.old 0, .old 1, .old 2, .old 3], .mpt rfl, rfl, ⟨⟨_, rfl, rsOne ⟨ci rfl, .mmp rfl, .mmp rfl, .msl rfl, trivial⟩⟩, ⟨_, rfl, rsMap (fun _ => rfl)⟩, ⟨_, rfl, rsMap (fun _ => rfl)⟩, ⟨_, rfl, rsMap (fun _ => rfl)⟩, trivial⟩, rfl, Nat.le_of_ble_eq_true rfl⟩
  ·
   rintro r' rfl env st hp
   obtain rfl := sm h
   exact hp
noncomputable def hier_Hier_Supers_s2_k2 (v12 : List (List UInt8)) : Option ((List (List UInt8))) :=
  some v12
noncomputable def hier_Hier_Supers_s2_l1 (v1 : List ApiClass) (v2 : List (List UInt8 × Int)) (v8 : List UInt8) (v9 : List (List UInt8)) : Option (Sum ((List UInt8) × (List (List UInt8))) (Sum ((List (List UInt8))) ((List (List UInt8))))) :=
  cond (hier_Hier_has v1 v2 v8) ((appP 16 v9 [v8]).bind fun v10 => (hier_Hier_get v1 v2 v8).bind fun v11 => some (.inl (v11.Super, v10))) (some (.inr (.inl v9)))
noncomputable def hier_Hier_Supers_s2 (v1 : List ApiClass) (v2 : List (List UInt8 × Int)) (v3 : List UInt8) : Option ((List (List UInt8))) :=
  (loopP (fun z => hier_Hier_Supers_s2_l1 v1 v2 z.1 z.2) (v3, [])).bind fun o => leave o (fun b => hier_Hier_Supers_s2_k2 b) some
theorem hier_Hier_Supers_s2_ok (v1 : List ApiClass) (v2 : List (List UInt8 × Int)) (v3 : List UInt8) {r : (List (List UInt8))} (h : hier_Hier_Supers_s2 v1 v2 v3 = some r) : SC Tryz.prog 109 [.ipt 2 [[.isl 6 (List.map rApiClass v1), .imp (List.map (rKV (fun x => iA x)) v2)]] 0 0, sA v3] [] (.msl 0 0 (List.length r)) [.many 1 (List.map rStr r)] := by
 refine ⟨⟨sbOk (sz := 1) (fun _ => rfl), trivial⟩, scall_fn Tryz.func109 rfl (by kernel_rfl) rfl ?_⟩
 unfold hier_Hier_Supers_s2 at h
 refine rg rfl <| u <| asg rfl <| r_nil ?_
 refine rg rfl <| u <| asg rfl <| r_nil ?_
 obtain ⟨o, ho, h⟩ := bs h
 refine sw_lp (X := (List UInt8) × (List (List UInt8))) (B := (List (List UInt8))) (R := (List (List UInt8))) (fun z => [(0, .ipt 2 [[.isl 6 (List.map rApiClass v1), .imp (List.map (rKV (fun x => iA x)) v2)]] 0 0), (1, sA z.1), (5, .msl 0 0 (List.length z.2))]) (fun z => [some (1, List.map rStr z.2)]) (fun b => [(5, .msl 0 0 (List.length b))]) (fun b => [some (1, List.map rStr b)]) (fun r env st => PostF Tryz.prog Tryz.f109 0 (.msl 0 0 (List.length r)) [some (1, List.map rStr r)] env st) ho ⟨[.fresh 1], ce rfl rfl <| ce rfl rfl <| cv rfl (.nilown rfl) <| cn, rfl, ⟨⟨rfl, rfl⟩, trivial⟩, rfl, Nat.le_of_ble_eq_true rfl⟩ ?_ ?_ ?_
 ·
  rintro ⟨v8, v9⟩ r h
  replace h : hier_Hier_Supers_s2_l1 v1 v2 v8 v9 = some r := h
  unfold hier_Hier_Supers_s2_l1 at h
  refine sw_seq ?_
  refine rg rfl <| u <| mv rfl <| u <| mv rfl <| u <| pc (hier_Hier_has_ok v1 v2 v8 rfl) rfl rfl rfl <| r_nil ?_
  refine sw_cond rfl (fun hc4 => ?_) (fun hc4 => ?_)
  ·
   replace h := bT hc4 h
   refine sw_skip ?_
   refine sw_block ?_
   obtain ⟨v10, q5, h⟩ := bs h
   refine rg rfl <| u <| mv rfl <| u <| mv rfl <| u <| bl 1 ti22 rfl ti9 rfl (by decide) (by decide) rfl rfl rfl <| u <| apM 2 ti22 rfl ti9 rfl rfl (by decide) ti22 rfl rfl rfl rfl (roX (f := rStr) (z := [v8]) rfl rfl) (fun _ => rfl) rfl q5 <| u <| asg rfl <| r_nil ?_
   obtain ⟨v11, q6, h⟩ := bs h
   refine rl rfl <| u <| mv rfl <| u <| mv rfl <| u <| pc (hier_Hier_get_ok v1 v2 v8 q6) rfl rfl rfl <| u <| fdV rfl rfl <| u <| asg rfl <| r_nil ?_
   obtain rfl := sm h
   exact ⟨_, rfl, [.old 2], ce rfl rfl <| ce rfl rfl <| cv rfl (.msl rfl) <| cn, rfl, ⟨⟨_, rfl, rsMap (fun _ => rfl)⟩, trivial⟩, rfl, Nat.le_of_ble_eq_true rfl⟩
  ·
   replace h := bF hc4 h
   refine sw_exit ?_
   obtain rfl := sm h
   exact ⟨rfl, _, rfl, [.old 0], cv rfl (.msl rfl) <| cn, rfl, ⟨⟨_, rfl, rsMap (fun _ => rfl)⟩, trivial⟩, rfl, Nat.le_of_ble_eq_true rfl⟩
 ·
  rintro v12 rfl
  replace h : hier_Hier_Supers_s2_k2 v12 = some r := h
  unfold hier_Hier_Supers_s2_k2 at h
  refine rg rfl <| u <| mv rfl <| u <| asg rfl <| r_nil ?_
  refine sw_ret ?_
  obtain rfl := sm h
  exact ⟨_, rfl, [.old 0], .msl rfl, rfl, ⟨⟨_, rfl, rsMap (fun _ => rfl)⟩, trivial⟩, rfl, Nat.le_of_ble_eq_true rfl⟩
 ·
  rintro r' rfl env st hp
  obtain rfl := sm h
  exact hp
noncomputable def state_State_Next_k2 : Option ((List UInt8) × Int) :=
  some ([], 2)
noncomputable def state_State_Next_l1 (v3 : List (List UInt8 × Int)) (v7 : (List (List UInt8))) (v11 : Int) : Option (Sum (Int) (Sum (Unit) ((List UInt8) × Int))) :=
  cond (decide (0 ≤ v11)) ((idx v7 v11).bind fun v12 => cond (((Option.getD (mapGet v12 v3) 0) == (0 : Int)) || ((Option.getD (mapGet v12 v3) 0) == (3 : Int))) ((idx v7 v11).bind fun v13 => some (.inr (.inr (v13, (Option.getD (mapGet v12 v3) 0))))) (some (.inl (IntKind.i64.wrap (v11 - 1))))) (some (.inr (.inl ())))
noncomputable def state_State_Next (v1 : List ApiClass) (v2 : List (List UInt8 × Int)) (v3 : List (List UInt8 × Int)) (v4 : List (List UInt8 × FrameVal)) (v5 : List (List UInt8)) (v6 : List UInt8) : Option ((List UInt8) × Int) :=
  (hier_Hier_Supers_s2 v1 v2 v6).bind fun v7 => (loopP (fun z => state_State_Next_l1 v3 v7 z) (IntKind.i64.wrap (((List.length v7) : Int) - 1))).bind fun o => leave o (fun b => state_State_Next_k2) some
theorem state_State_Next_ok (v1 : List ApiClass) (v2 : List (List UInt8 × Int)) (v3 : List (List UInt8 × Int)) (v4 : List (List UInt8 × FrameVal)) (v5 : List (List UInt8)) (v6 : List UInt8) {r : (List UInt8) × Int} (h : state_State_Next v1 v2 v3 v4 v5 v6 = some r) : SC Tryz.prog 25 [.mpt 0 0 0, sA v6] [.one 4 [.ipt 2 [[.isl 6 (List.map rApiClass v1), .imp (List.map (rKV (fun x => iA x)) v2)]] 0 0, .mmp 1, .mmp 2, .msl 3 0 (List.length v5)], .many 2 (List.map (rKV (fun x => iA x)) v3), .many 2 (List.map (rKV (fun x => .agg (rFrameVal x))) v4), .many 1 (List.map rStr v5)] (.tup [sA r.1, iA r.2]) [.one 4 [.ipt 2 [[.isl 6 (List.map rApiClass v1), .imp (List.map (rKV (fun x => iA x)) v2)]] 0 0, .mmp 1, .mmp 2, .msl 3 0 (List.length v5)], .many 2 (List.map (rKV (fun x => iA x)) v3), .many 2 (List.map (rKV (fun x => .agg (rFrameVal x))) v4), .many 1 (List.map rStr v5)] := by
 refine ⟨⟨trivial, sbOk (sz := 2) (fun _ => rfl), sbOk (sz := 2) (fun _ => rfl), sbOk (sz := 1) (fun _ => rfl), trivial⟩, scall_fn Tryz.func25 rfl (by kernel_rfl) rfl ?_⟩
 unfold state_State_Next at h
 refine rg rfl <| u <| asg rfl <| u <| asg rfl <| r_nil ?_
 refine sw_seq ?_
 refine rg rfl <| u <| mv rfl <| u <| eqp ti51 rfl rfl rfl rfl rfl rfl <| r_nil ?_
 refine sw_cond rfl (fun hx => by cases hx) (fun _ => ?_)
 refine sw_skip ?_
 obtain ⟨v7, q1, h⟩ := bs h
 refine rg rfl <| u <| mv rfl <| u <| nc rfl rfl <| u <| fa ti163 rfl rfl rfl <| u <| ld ti48 rfl rfl <| u <| mv rfl <| u <| sc [] (hier_Hier_Supers_s2_ok v1 v2 v6 q1) rfl rfl rfl rfl ⟨(rnI rfl), (rnI rfl), trivial⟩ trivial <| r_can (env0 := [(0, .mpt 0 0 0), (16, .msl 4 0 (List.length v7))]) (st0 := [some (4, [[.ipt 2 [[.isl 6 (List.map rApiClass v1), .imp (List.map (rKV (fun x => iA x)) v2)]] 0 0, .mmp 1, .mmp 2, .msl 3 0 (List.length v5)]]), some (2, List.map (rKV (fun x => iA x)) v3), some (2, List.map (rKV (fun x => .agg (rFrameVal x))) v4), some (1, List.map rStr v5), some (1, List.map rStr v7)]) ⟨[.old 0, .old 1, .old 2, .old 3, .old 4], cv rfl (.mpt rfl) <| cv rfl (.msl rfl) <| cn, rfl, ⟨⟨_, rfl, rsOne ⟨ci rfl, .mmp rfl, .mmp rfl, .msl rfl, trivial⟩⟩, ⟨_, rfl, rsMap (fun _ => rfl)⟩, ⟨_, rfl, rsMap (fun _ => rfl)⟩, ⟨_, rfl, rsMap (fun _ => rfl)⟩, ⟨_, rfl, rsMap (fun _ => rfl)⟩, trivial⟩, rfl, Nat.le_of_ble_eq_true rfl⟩ <| u <| asg rfl <| r_nil ?_
 refine sw_seq ?_
 refine rg rfl <| u <| mv rfl <| u <| lnM ti22 rfl rfl rfl <| u <| sub ti3 rfl rfl <| u <| asg rfl <| r_nil ?_
 obtain ⟨o, ho, h⟩ := bs h
 refine sw_lpl (X := Int) (B := Unit) (R := (List UInt8) × Int) (fun z => [(0, .mpt 0 0 0), (6, .msl 4 0 (List.length v7)), (7, iA z)]) (fun z => [some (4, [[.ipt 2 [[.isl 6 (List.map rApiClass v1), .imp (List.map (rKV (fun x => iA x)) v2)]] 0 0, .mmp 1, .mmp 2, .msl 3 0 (List.length v5)]]), some (2, List.map (rKV (fun x => iA x)) v3), some (2, List.map (rKV (fun x => .agg (rFrameVal x))) v4), some (1, List.map rStr v5), some (1, List.map rStr v7)]) (fun b => []) (fun b => [some (4, [[.ipt 2 [[.isl 6 (List.map rApiClass v1), .imp (List.map (rKV (fun x => iA x)) v2)]] 0 0, .mmp 1, .mmp 2, .msl 3 0 (List.length v5)]]), some (2, List.map (rKV (fun x => iA x)) v3), some (2, List.map (rKV (fun x => .agg (rFrameVal x))) v4), some (1, List.map rStr v5)]) (fun r env st => PostF Tryz.prog Tryz.f25 4 (.tup [sA r.1, iA r.2]) [some (4, [[.ipt 2 [[.isl 6 (List.map rApiClass v1), .imp (List.map (rKV (fun x => iA x)) v2)]] 0 0, .mmp 1, .mmp 2, .msl 3 0 (List.length v5)]]), some (2, List.map (rKV (fun x => iA x)) v3), some (2, List.map (rKV (fun x => .agg (rFrameVal x))) v4), some (1, List.map rStr v5)] env st) ho ⟨[.old 0, .old 1, .old 2, .old 3, .old 4], cv rfl (.mpt rfl) <| cv rfl (.msl rfl) <| ce rfl rfl <| cn, rfl, ⟨⟨_, rfl, rsOne ⟨ci rfl, .mmp rfl, .mmp rfl, .msl rfl, trivial⟩⟩, ⟨_, rfl, rsMap (fun _ => rfl)⟩, ⟨_, rfl, rsMap (fun _ => rfl)⟩, ⟨_, rfl, rsMap (fun _ => rfl)⟩, ⟨_, rfl, rsMap (fun _ => rfl)⟩, trivial⟩, rfl, Nat.le_of_ble_eq_true rfl⟩ ?_ ?_ ?_
 ·
  rintro v11 r h
  replace h : state_State_Next_l1 v3 v7 v11 = some r := h
  unfold state_State_Next_l1 at h
  refine sw_seq ?_
  refine rg rfl <| u <| mv rfl <| u <| geq ti3 rfl rfl <| r_nil ?_
  refine sw_cond rfl (fun hc7 => ?_) (fun hc7 => ?_)
  ·
   replace h := bT hc7 h
   refine sw_skip ?_
   refine sw_seq ?_
   refine sw_block ?_
   obtain ⟨v12, q8, h⟩ := bs h
   refine rd [(0, .mpt 0 0 0), (6, .msl 4 0 (List.length v7)), (7, iA v11), (8, iA (Option.getD (mapGet v12 v3) 0))] [some (4, [[.ipt 2 [[.isl 6 (List.map rApiClass v1), .imp (List.map (rKV (fun x => iA x)) v2)]] 0 0, .mmp 1, .mmp 2, .msl 3 0 (List.length v5)]]), some (2, List.map (rKV (fun x => iA x)) v3), some (2, List.map (rKV (fun x => .agg (rFrameVal x))) v4), some (1, List.map rStr v5), some (1, List.map rStr v7)] [] [9, 8, 7, 6, 5, 4, 3, 2, 1, 0] [(8, iA (Option.getD (mapGet v12 v3) 0)), (32, iA (Option.getD (mapGet v12 v3) 0)), (31, sA v12), (30, .mpt 4 (Int.toNat v11) 0), (29, iA v11), (28, .msl 4 0 (List.length v7)), (27, .mmp 1), (26, .mpt 0 0 1), (25, .mpt 0 0 0), (24, .mpt 0 0 0)] 0 (by kernel_rfl) (by kernel_rfl) rfl (by kernel_rfl) (dt0 ⟨(fun _ => pa rfl rfl rfl rfl (asg rfl <| ⟨rfl, rfl⟩)), (fun _ => pa rfl rfl rfl rfl (mlkF (g := (fun x => iA x)) (z := 0) (l := v3) rfl ti3 rfl rfl rfl rfl <| ⟨rfl, rfl⟩)), (fun _ => pa rfl rfl rfl rfl (ldM ti9 rfl rfl (idx_some q8).2.2 rfl <| ⟨rfl, rfl⟩)), (fun _ => pa rfl rfl rfl rfl (ixM ti22 rfl ti9 rfl rfl rfl rfl q8 <| ⟨rfl, rfl⟩)), (fun _ => pa rfl rfl rfl rfl (mv rfl <| ⟨rfl, rfl⟩)), (fun _ => pa rfl rfl rfl rfl (mv rfl <| ⟨rfl, rfl⟩)), (fun _ => pa rfl rfl rfl rfl (ld ti154 rfl rfl <| ⟨rfl, rfl⟩)), (fun _ => pa rfl rfl rfl rfl (fa ti163 rfl rfl rfl <| ⟨rfl, rfl⟩)), (fun _ => pa rfl rfl rfl rfl (nc rfl rfl <| ⟨rfl, rfl⟩)), (fun _ => pa rfl rfl rfl rfl (mv rfl <| ⟨rfl, rfl⟩)), trivial⟩ (by kernel_rfl) rfl ⟨[.old 0, .old 1, .old 2, .old 3, .old 4], cv rfl (.mpt rfl) <| cv rfl (.msl rfl) <| ce rfl rfl <| ce rfl rfl <| cn, rfl, ⟨⟨_, rfl, rsOne ⟨ci rfl, .mmp rfl, .mmp rfl, .msl rfl, trivial⟩⟩, ⟨_, rfl, rsMap (fun _ => rfl)⟩, ⟨_, rfl, rsMap (fun _ => rfl)⟩, ⟨_, rfl, rsMap (fun _ => rfl)⟩, ⟨_, rfl, rsMap (fun _ => rfl)⟩, trivial⟩, rfl, Nat.le_of_ble_eq_true rfl⟩) ?_
   refine rg rfl <| u <| mv rfl <| u <| eql ti3 rfl rfl <| u <| mv rfl <| r_or (j := 2) 2 rfl rfl rfl rfl rfl gpn (fun hb9 => g rfl hb9 <| mv rfl <| g rfl hb9 <| eql ti3 rfl rfl <| r_nil (egO [36, 37] 2 hb9 rfl rfl rfl rfl)) orT <| r_nil ?_
   refine sw_cond rfl (fun hc10 => ?_) (fun hc10 => ?_)
   ·
    replace h := bT hc10 h
    obtain ⟨v13, q11, h⟩ := bs h
    refine rg rfl <| u <| mv rfl <| u <| mv rfl <| u <| ixM ti22 rfl ti9 rfl rfl rfl rfl q11 <| u <| ldM ti9 rfl rfl (idx_some q11).2.2 rfl <| u <| mv rfl <| u <| asg rfl <| u <| asg rfl <| r_nil ?_
    refine sw_ret ?_
    obtain rfl := sm h
    exact ⟨_, rfl, _, rfl, [.old 0, .old 1, .old 2, .old 3], rsTup ⟨(ci rfl), (ci rfl), trivial⟩, rfl, ⟨⟨_, rfl, rsOne ⟨ci rfl, .mmp rfl, .mmp rfl, .msl rfl, trivial⟩⟩, ⟨_, rfl, rsMap (fun _ => rfl)⟩, ⟨_, rfl, rsMap (fun _ => rfl)⟩, ⟨_, rfl, rsMap (fun _ => rfl)⟩, trivial⟩, rfl, Nat.le_of_ble_eq_true rfl⟩
   ·
    replace h := bF hc10 h
    refine sw_skip ?_
    refine rl rfl <| u <| mv rfl <| u <| sub ti3 rfl rfl <| u <| asg rfl <| r_nil ?_
    obtain rfl := sm h
    exact ⟨_, rfl, [.old 0, .old 1, .old 2, .old 3, .old 4], cv rfl (.mpt rfl) <| cv rfl (.msl rfl) <| ce rfl rfl <| cn, rfl, ⟨⟨_, rfl, rsOne ⟨ci rfl, .mmp rfl, .mmp rfl, .msl rfl, trivial⟩⟩, ⟨_, rfl, rsMap (fun _ => rfl)⟩, ⟨_, rfl, rsMap (fun _ => rfl)⟩, ⟨_, rfl, rsMap (fun _ => rfl)⟩, ⟨_, rfl, rsMap (fun _ => rfl)⟩, trivial⟩, rfl, Nat.le_of_ble_eq_true rfl⟩
  ·
   replace h := bF hc7 h
   refine sw_exit ?_
   obtain rfl := sm h
   exact ⟨rfl, _, rfl, [.old 0, .old 1, .old 2, .old 3], cn, rfl, ⟨⟨_, rfl, rsOne ⟨ci rfl, .mmp rfl, .mmp rfl, .msl rfl, trivial⟩⟩, ⟨_, rfl, rsMap (fun _ => rfl)⟩, ⟨_, rfl, rsMap (fun _ => rfl)⟩, ⟨_, rfl, rsMap (fun _ => rfl)⟩, trivial⟩, rfl, Nat.le_of_ble_eq_true rfl⟩
 ·
  rintro ⟨⟩ rfl
  replace h : state_State_Next_k2 = some r := h
  unfold state_State_Next_k2 at h
  refine ow_intro ?_
  refine rg rfl <| u <| asg rfl <| u <| asg rfl <| r_nil ?_
  refine sw_ret ?_
  obtain rfl := sm h
  exact ⟨_, rfl, [.old 0, .old 1, .old 2, .old 3], rsTup ⟨(ci rfl), (ci rfl), trivial⟩, rfl, ⟨⟨_, rfl, rsOne ⟨ci rfl, .mmp rfl, .mmp rfl, .msl rfl, trivial⟩⟩, ⟨_, rfl, rsMap (fun _ => rfl)⟩, ⟨_, rfl, rsMap (fun _ => rfl)⟩, ⟨_, rfl, rsMap (fun _ => rfl)⟩, trivial⟩, rfl, Nat.le_of_ble_eq_true rfl⟩
 ·
  rintro r' rfl env st hp
  obtain rfl := sm h
  exact hp
noncomputable def state_State_Set (v1 : List ApiClass) (v2 : List (List UInt8 × Int)) (v3 : List (List UInt8 × Int)) (v4 : List (List UInt8 × FrameVal)) (v5 : List (List UInt8)) (v6 : List UInt8) (v7 : Int) : (List (List UInt8 × Int)) :=
  cond ((decide (v7 < 0)) || (decide (3 < v7))) (v3) (cond (Option.isSome (mapGet v6 v3)) ((mapPut v6 v7 v3)) (v3))
theorem state_State_Set_ok (v1 : List ApiClass) (v2 : List (List UInt8 × Int)) (v3 : List (List UInt8 × Int)) (v4 : List (List UInt8 × FrameVal)) (v5 : List (List UInt8)) (v6 : List UInt8) (v7 : Int) {r : (List (List UInt8 × Int))} (h : state_State_Set v1 v2 v3 v4 v5 v6 v7 = r) : SC Tryz.prog 24 [.mpt 0 0 0, sA v6, iA v7] [.one 4 [.ipt 2 [[.isl 6 (List.map rApiClass v1), .imp (List.map (rKV (fun x => iA x)) v2)]] 0 0, .mmp 1, .mmp 2, .msl 3 0 (List.length v5)], .many 2 (List.map (rKV (fun x => iA x)) v3), .many 2 (List.map (rKV (fun x => .agg (rFrameVal x))) v4), .many 1 (List.map rStr v5)] (.tup []) [.one 4 [.ipt 2 [[.isl 6 (List.map rApiClass v1), .imp (List.map (rKV (fun x => iA x)) v2)]] 0 0, .mmp 1, .mmp 2, .msl 3 0 (List.length v5)], .many 2 (List.map (rKV (fun x => iA x)) r), .many 2 (List.map (rKV (fun x => .agg (rFrameVal x))) v4), .many 1 (List.map rStr v5)] := by
 refine ⟨⟨trivial, sbOk (sz := 2) (fun _ => rfl), sbOk (sz := 2) (fun _ => rfl), sbOk (sz := 1) (fun _ => rfl), trivial⟩, scall_fn Tryz.func24 rfl (by kernel_rfl) rfl ?_⟩
 unfold state_State_Set at h
 refine sw_seq ?_
 refine rg rfl <| u <| mv rfl <| u <| eqp ti51 rfl rfl rfl rfl rfl rfl <| u <| mv rfl <| g rfl rfl <| mv rfl <| g rfl rfl <| lss ti3 rfl rfl <| u <| pk (b := false) rfl rfl <| u <| mv rfl <| r_or (j := 6) 2 rfl rfl rfl rfl rfl gpn (fun hb1 => g rfl hb1 <| mv rfl <| g rfl hb1 <| gtr ti3 rfl rfl <| r_nil (egO [15, 16] 2 hb1 rfl rfl rfl rfl)) orT <| r_nil ?_
 refine sw_cond rfl (fun hc2 => ?_) (fun hc2 => ?_)
 ·
  replace h := bT hc2 h
  refine sw_ret ?_
  obtain rfl := h
  exact ⟨_, rfl, [.old 0, .old 1, .old 2, .old 3], rsTup trivial, rfl, ⟨⟨_, rfl, rsOne ⟨ci rfl, .mmp rfl, .mmp rfl, .msl rfl, trivial⟩⟩, ⟨_, rfl, rsMap (fun _ => rfl)⟩, ⟨_, rfl, rsMap (fun _ => rfl)⟩, ⟨_, rfl, rsMap (fun _ => rfl)⟩, trivial⟩, rfl, Nat.le_of_ble_eq_true rfl⟩
 ·
  replace h := bF hc2 h
  refine sw_skip ?_
  refine rg rfl <| u <| mv rfl <| u <| nc rfl rfl <| u <| fa ti163 rfl rfl rfl <| u <| ld ti154 rfl rfl <| u <| mv rfl <| u <| mlkT (g := (fun x => iA x)) (z := 0) (l := v3) rfl ti3 rfl rfl rfl rfl <| u <| mv rfl <| u <| ex rfl rfl <| u <| ex rfl rfl <| u <| asg rfl <| u <| asg rfl <| r_nil ?_
  refine rg rfl <| u <| mv rfl <| r_nil ?_
  refine sw_cond rfl (fun hc3 => ?_) (fun hc3 => ?_)
  ·
   replace h := bT hc3 h
   refine rl rfl <| u <| mv rfl <| u <| nc rfl rfl <| u <| fa ti163 rfl rfl rfl <| u <| ld ti154 rfl rfl <| u <| mv rfl <| u <| mv rfl <| u <| mup (v := v7) (g := (fun x => iA x)) (l := v3) (s := v6) rfl rfl rfl rfl rfl rfl <| r_nil ?_
   obtain rfl := h
   exact ⟨_, rfl, [.old 0, .old 1, .old 2, .old 3], rsTup trivial, rfl, ⟨⟨_, rfl, rsOne ⟨ci rfl, .mmp rfl, .mmp rfl, .msl rfl, trivial⟩⟩, ⟨_, rfl, rsMap (fun _ => rfl)⟩, ⟨_, rfl, rsMap (fun _ => rfl)⟩, ⟨_, rfl, rsMap (fun _ => rfl)⟩, trivial⟩, rfl, Nat.le_of_ble_eq_true rfl⟩
  ·
   replace h := bF hc3 h
   refine sw_skip ?_
   obtain rfl := h
   exact ⟨_, rfl, [.old 0, .old 1, .old 2, .old 3], rsTup trivial, rfl, ⟨⟨_, rfl, rsOne ⟨ci rfl, .mmp rfl, .mmp rfl, .msl rfl, trivial⟩⟩, ⟨_, rfl, rsMap (fun _ => rfl)⟩, ⟨_, rfl, rsMap (fun _ => rfl)⟩, ⟨_, rfl, rsMap (fun _ => rfl)⟩, trivial⟩, rfl, Nat.le_of_ble_eq_true rfl⟩
noncomputable def state_State_Get (v1 : List ApiClass) (v2 : List (List UInt8 × Int)) (v3 : List (List UInt8 × Int)) (v4 : List (List UInt8 × FrameVal)) (v5 : List (List UInt8)) (v6 : List UInt8) (v7 : List UInt8) : Option (FrameVal × Bool) :=
  (state_key v6 v7).bind fun v8 => some ((Option.getD (mapGet v8 v4) (FrameVal.mk false 0)), (Option.isSome (mapGet v8 v4)))
theorem state_State_Get_ok (v1 : List ApiClass) (v2 : List (List UInt8 × Int)) (v3 : List (List UInt8 × Int)) (v4 : List (List UInt8 × FrameVal)) (v5 : List (List UInt8)) (v6 : List UInt8) (v7 : List UInt8) {r : FrameVal × Bool} (h : state_State_Get v1 v2 v3 v4 v5 v6 v7 = some r) : SC Tryz.prog 94 [.mpt 0 0 0, sA v6, sA v7] [.one 4 [.ipt 2 [[.isl 6 (List.map rApiClass v1), .imp (List.map (rKV (fun x => iA x)) v2)]] 0 0, .mmp 1, .mmp 2, .msl 3 0 (List.length v5)], .many 2 (List.map (rKV (fun x => iA x)) v3), .many 2 (List.map (rKV (fun x => .agg (rFrameVal x))) v4), .many 1 (List.map rStr v5)] (.tup [.agg (rFrameVal r.1), bA r.2]) [.one 4 [.ipt 2 [[.isl 6 (List.map rApiClass v1), .imp (List.map (rKV (fun x => iA x)) v2)]] 0 0, .mmp 1, .mmp 2, .msl 3 0 (List.length v5)], .many 2 (List.map (rKV (fun x => iA x)) v3), .many 2 (List.map (rKV (fun x => .agg (rFrameVal x))) v4), .many 1 (List.map rStr v5)] := by
 refine ⟨⟨trivial, sbOk (sz := 2) (fun _ => rfl), sbOk (sz := 2) (fun _ => rfl), sbOk (sz := 1) (fun _ => rfl), trivial⟩, scall_fn Tryz.func94 rfl (by kernel_rfl) rfl ?_⟩
 unfold state_State_Get at h
 refine rg rfl <| u <| al 4 ti67 rfl <| u <| asg rfl <| r_nil ?_
 refine sw_seq ?_
 refine rg rfl <| u <| mv rfl <| u <| eqp ti51 rfl rfl rfl rfl rfl rfl <| r_nil ?_
 refine sw_cond rfl (fun hx => by cases hx) (fun _ => ?_)
 refine sw_skip ?_
 obtain ⟨v8, q1, h⟩ := bs h
 refine rd [(6, .mpt 4 0 0), (8, .mpt 5 0 0), (9, bA (Option.isSome (mapGet v8 v4)))] [some (4, [[.ipt 2 [[.isl 6 (List.map rApiClass v1), .imp (List.map (rKV (fun x => iA x)) v2)]] 0 0, .mmp 1, .mmp 2, .msl 3 0 (List.length v5)]]), some (2, List.map (rKV (fun x => iA x)) v3), some (2, List.map (rKV (fun x => .agg (rFrameVal x))) v4), some (1, List.map rStr v5), some (2, [[bA false, .lit (.int .i32 0)]]), some (2, [[bA ((Option.getD (mapGet v8 v4) (FrameVal.mk false 0)).Ref), .lit (.int .i32 ((Option.getD (mapGet v8 v4) (FrameVal.mk false 0)).N))]])] [11, 12] [10, 9, 8, 7, 6, 5, 4, 3, 2, 1, 0] [(23, bA (Option.isSome (mapGet v8 v4))), (22, .agg [bA ((Option.getD (mapGet v8 v4) (FrameVal.mk false 0)).Ref), .lit (.int .i32 ((Option.getD (mapGet v8 v4) (FrameVal.mk false 0)).N))]), (13, .tup [.agg [bA ((Option.getD (mapGet v8 v4) (FrameVal.mk false 0)).Ref), .lit (.int .i32 ((Option.getD (mapGet v8 v4) (FrameVal.mk false 0)).N))], bA (Option.isSome (mapGet v8 v4))]), (21, .tup [.agg [bA ((Option.getD (mapGet v8 v4) (FrameVal.mk false 0)).Ref), .lit (.int .i32 ((Option.getD (mapGet v8 v4) (FrameVal.mk false 0)).N))], bA (Option.isSome (mapGet v8 v4))]), (20, sA v8), (19, sA v7), (18, sA v6), (17, .mmp 2), (16, .mpt 0 0 2), (15, .mpt 0 0 0), (14, .mpt 0 0 0)] 2 (by kernel_rfl) (by kernel_rfl) rfl (by kernel_rfl) (dtS ⟨(fun _ => pa rfl rfl rfl rfl (ex rfl rfl <| ⟨rfl, rfl⟩)), (fun _ => pa rfl rfl rfl rfl (ex rfl rfl <| ⟨rfl, rfl⟩)), (fun _ => pa rfl rfl rfl rfl (mv rfl <| ⟨rfl, rfl⟩)), (fun _ => pa rfl rfl rfl rfl (mlkT (g := (fun x => .agg (rFrameVal x))) (z := (FrameVal.mk false 0)) (l := v4) rfl ti67 rfl rfl rfl rfl <| ⟨rfl, rfl⟩)), (fun _ => pa rfl rfl rfl rfl (pc (state_key_ok v6 v7 q1) rfl rfl rfl <| ⟨rfl, rfl⟩)), (fun _ => pa rfl rfl rfl rfl (mv rfl <| ⟨rfl, rfl⟩)), (fun _ => pa rfl rfl rfl rfl (mv rfl <| ⟨rfl, rfl⟩)), (fun _ => pa rfl rfl rfl rfl (ld ti161 rfl rfl <| ⟨rfl, rfl⟩)), (fun _ => pa rfl rfl rfl rfl (fa ti163 rfl rfl rfl <| ⟨rfl, rfl⟩)), (fun _ => pa rfl rfl rfl rfl (nc rfl rfl <| ⟨rfl, rfl⟩)), (fun _ => pa rfl rfl rfl rfl (mv rfl <| ⟨rfl, rfl⟩)), trivial⟩ (by kernel_rfl) rfl ⟨(fun _ _ => ⟨_, rfl, rfl, al 5 ti67 rfl <| ⟨(.mpt 5 0 0), [], [(8, .mpt 5 0 0)], rfl, rfl, by kernel_rfl, rfl, dtS ⟨(fun _ => pa rfl rfl rfl rfl (ex rfl rfl <| ⟨rfl, rfl⟩)), (fun _ => pa rfl rfl rfl rfl (ex rfl rfl <| ⟨rfl, rfl⟩)), (fun _ => pa rfl rfl rfl rfl (mv rfl <| ⟨rfl, rfl⟩)), (fun _ => pa rfl rfl rfl rfl (mlkT (g := (fun x => .agg (rFrameVal x))) (z := (FrameVal.mk false 0)) (l := v4) rfl ti67 rfl rfl rfl rfl <| ⟨rfl, rfl⟩)), (fun _ => pa rfl rfl rfl rfl (pc (state_key_ok v6 v7 q1) rfl rfl rfl <| ⟨rfl, rfl⟩)), (fun _ => pa rfl rfl rfl rfl (mv rfl <| ⟨rfl, rfl⟩)), (fun _ => pa rfl rfl rfl rfl (mv rfl <| ⟨rfl, rfl⟩)), (fun _ => pa rfl rfl rfl rfl (ld ti161 rfl rfl <| ⟨rfl, rfl⟩)), (fun _ => pa rfl rfl rfl rfl (fa ti163 rfl rfl rfl <| ⟨rfl, rfl⟩)), (fun _ => pa rfl rfl rfl rfl (nc rfl rfl <| ⟨rfl, rfl⟩)), (fun _ => pa rfl rfl rfl rfl (mv rfl <| ⟨rfl, rfl⟩)), trivial⟩ (by kernel_rfl) rfl ⟨(fun h => by cases h), (fun _ _ => ⟨_, rfl, rfl, sto ti67 rfl rfl rfl <| ⟨.any, [13], [(9, bA (Option.isSome (mapGet v8 v4)))], rfl, rfl, by kernel_rfl, trivial, dt0 ⟨(fun _ => pa rfl rfl rfl rfl (asg rfl <| ⟨rfl, rfl⟩)), (fun _ => pa rfl rfl rfl rfl (ex rfl rfl <| ⟨rfl, rfl⟩)), (fun h => by cases h), (fun h => by cases h), (fun h => by cases h), (fun h => by cases h), (fun h => by cases h), (fun h => by cases h), (fun h => by cases h), (fun h => by cases h), (fun h => by cases h), (fun h => by cases h), trivial⟩ (by kernel_rfl) rfl ⟨[.old 0, .old 1, .old 2, .old 3, .old 4, .old 5], cv rfl (.mpt rfl) <| cv rfl (.mpt rfl) <| ce rfl rfl <| cn, rfl, ⟨⟨_, rfl, rsOne ⟨ci rfl, .mmp rfl, .mmp rfl, .msl rfl, trivial⟩⟩, ⟨_, rfl, rsMap (fun _ => rfl)⟩, ⟨_, rfl, rsMap (fun _ => rfl)⟩, ⟨_, rfl, rsMap (fun _ => rfl)⟩, ⟨_, rfl, rsOne (ciL rfl)⟩, ⟨_, rfl, rsOne (ciL rfl)⟩, trivial⟩, rfl, Nat.le_of_ble_eq_true rfl⟩⟩⟩), trivial⟩⟩⟩), (fun _ h => by cases h), trivial⟩) ?_
 refine rg rfl <| u <| ld ti67 rfl rfl <| u <| mv rfl <| u <| sto ti67 rfl rfl rfl <| u <| asg rfl <| r_nil ?_
 refine sw_ret ?_
 obtain rfl := sm h
 exact ⟨_, rfl, [.old 0, .old 1, .old 2, .old 3], rsTup ⟨(ci rfl), (ci rfl), trivial⟩, rfl, ⟨⟨_, rfl, rsOne ⟨ci rfl, .mmp rfl, .mmp rfl, .msl rfl, trivial⟩⟩, ⟨_, rfl, rsMap (fun _ => rfl)⟩, ⟨_, rfl, rsMap (fun _ => rfl)⟩, ⟨_, rfl, rsMap (fun _ => rfl)⟩, trivial⟩, rfl, Nat.le_of_ble_eq_true rfl⟩
noncomputable def state_State_Put (v1 : List ApiClass) (v2 : List (List UInt8 × Int)) (v3 : List (List UInt8 × Int)) (v4 : List (List UInt8 × FrameVal)) (v5 : List (List UInt8)) (v6 : List UInt8) (v7 : List UInt8) (v8 : FrameVal) : Option (Bool × (List (List UInt8 × FrameVal))) :=
  (state_State_Get v1 v2 v3 v4 v5 v6 v7).bind fun v9 => cond ((!v9.2) || (!(v9.1.Ref == v8.Ref))) (some (false, v4)) ((state_key v6 v7).bind fun v10 => some (true, (mapPut v10 v8 v4)))
theorem state_State_Put_ok (v1 : List ApiClass) (v2 : List (List UInt8 × Int)) (v3 : List (List UInt8 × Int)) (v4 : List (List UInt8 × FrameVal)) (v5 : List (List UInt8)) (v6 : List UInt8) (v7 : List UInt8) (v8 : FrameVal) {r : Bool × (List (List UInt8 × FrameVal))} (h : state_State_Put v1 v2 v3 v4 v5 v6 v7 v8 = some r) : SC Tryz.prog 29 [.mpt 0 0 0, sA v6, sA v7, .agg (rFrameVal v8)] [.one 4 [.ipt 2 [[.isl 6 (List.map rApiClass v1), .imp (List.map (rKV (fun x => iA x)) v2)]] 0 0, .mmp 1, .mmp 2, .msl 3 0 (List.length v5)], .many 2 (List.map (rKV (fun x => iA x)) v3), .many 2 (List.map (rKV (fun x => .agg (rFrameVal x))) v4), .many 1 (List.map rStr v5)] (bA r.1) [.one 4 [.ipt 2 [[.isl 6 (List.map rApiClass v1), .imp (List.map (rKV (fun x => iA x)) v2)]] 0 0, .mmp 1, .mmp 2, .msl 3 0 (List.length v5)], .many 2 (List.map (rKV (fun x => iA x)) v3), .many 2 (List.map (rKV (fun x => .agg (rFrameVal x))) r.2), .many 1 (List.map rStr v5)] := by
 refine ⟨⟨trivial, sbOk (sz := 2) (fun _ => rfl), sbOk (sz := 2) (fun _ => rfl), sbOk (sz := 1) (fun _ => rfl), trivial⟩, scall_fn Tryz.func29 rfl (by kernel_rfl) rfl ?_⟩
 unfold state_State_Put at h
 refine rg rfl <| u <| bx 4 2 rfl rfl rfl rfl <| u <| asg rfl <| r_nil ?_
 refine sw_seq ?_
 obtain ⟨v9, q1, h⟩ := bs h
 refine rg rfl <| u <| mv rfl <| u <| mv rfl <| u <| mv rfl <| u <| sc [0, 1, 2, 3] (state_State_Get_ok v1 v2 v3 v4 v5 v6 v7 q1) rfl rfl rfl rfl ⟨(.mpt rfl), (rnI rfl), (rnI rfl), trivial⟩ ⟨⟨_, rfl, ⟨(rnI rfl), (.mmp rfl), (.mmp rfl), (.msl rfl), trivial⟩⟩, ⟨rfl, mkI (fun _ => rfl)⟩, ⟨rfl, mkI (fun _ => rfl)⟩, ⟨rfl, mkI (fun _ => rfl)⟩, trivial⟩ <| r_can (env0 := [(0, .mpt 0 0 0), (1, sA v6), (2, sA v7), (7, .mpt 4 0 0), (15, .tup [.agg (rFrameVal v9.1), bA v9.2])]) (st0 := [some (4, [[.ipt 2 [[.isl 6 (List.map rApiClass v1), .imp (List.map (rKV (fun x => iA x)) v2)]] 0 0, .mmp 1, .mmp 2, .msl 3 0 (List.length v5)]]), some (2, List.map (rKV (fun x => iA x)) v3), some (2, List.map (rKV (fun x => .agg (rFrameVal x))) v4), some (1, List.map rStr v5), some (2, [(rFrameVal v8)])]) ⟨[.old 0, .old 1, .old 2, .old 3, .old 4], cv rfl (.mpt rfl) <| ce rfl rfl <| ce rfl rfl <| cv rfl (.mpt rfl) <| ce rfl rfl <| cn, rfl, ⟨⟨_, rfl, rsOne ⟨ci rfl, .mmp rfl, .mmp rfl, .msl rfl, trivial⟩⟩, ⟨_, rfl, rsMap (fun _ => rfl)⟩, ⟨_, rfl, rsMap (fun _ => rfl)⟩, ⟨_, rfl, rsMap (fun _ => rfl)⟩, ⟨_, rfl, rsOne (ciL rfl)⟩, trivial⟩, rfl, Nat.le_of_ble_eq_true rfl⟩ <| u <| mv rfl <| u <| ex rfl rfl <| u <| ex rfl rfl <| u <| al 5 ti67 rfl <| u <| sto ti67 rfl rfl rfl <| u <| asg rfl <| r_nil ?_
 refine rg rfl <| u <| mv rfl <| u <| nt rfl <| u <| mv rfl <| r_or (j := 2) 5 rfl rfl rfl rfl rfl gpn (fun hb2 => g rfl hb2 <| fa ti67 rfl rfl rfl <| g rfl hb2 <| ld ti4 rfl rfl <| g rfl hb2 <| fa ti67 rfl rfl rfl <| g rfl hb2 <| ld ti4 rfl rfl <| g rfl hb2 <| bne ti4 rfl rfl rfl <| r_nil (egO [21, 22, 23, 24, 25] 5 hb2 rfl rfl rfl rfl)) orT <| r_nil ?_
 refine sw_cond rfl (fun hc3 => ?_) (fun hc3 => ?_)
 ·
  replace h := bT hc3 h
  refine rg rfl <| u <| asg rfl <| r_nil ?_
  refine sw_ret ?_
  obtain rfl := sm h
  exact ⟨_, rfl, [.old 0, .old 1, .old 2, .old 3], ci rfl, rfl, ⟨⟨_, rfl, rsOne ⟨ci rfl, .mmp rfl, .mmp rfl, .msl rfl, trivial⟩⟩, ⟨_, rfl, rsMap (fun _ => rfl)⟩, ⟨_, rfl, rsMap (fun _ => rfl)⟩, ⟨_, rfl, rsMap (fun _ => rfl)⟩, trivial⟩, rfl, Nat.le_of_ble_eq_true rfl⟩
 ·
  replace h := bF hc3 h
  refine sw_skip ?_
  obtain ⟨v10, q4, h⟩ := bs h
  refine rd [] [some (4, [[.ipt 2 [[.isl 6 (List.map rApiClass v1), .imp (List.map (rKV (fun x => iA x)) v2)]] 0 0, .mmp 1, .mmp 2, .msl 3 0 (List.length v5)]]), some (2, List.map (rKV (fun x => iA x)) v3), some (2, List.map (rKV (fun x => .agg (rFrameVal x))) (mapPut v10 v8 v4)), some (1, List.map rStr v5)] [8] [7, 6, 5, 4, 3, 2, 1, 0] [(34, .agg (rFrameVal v8)), (33, sA v10), (32, sA v7), (31, sA v6), (30, .mmp 2), (29, .mpt 0 0 2), (28, .mpt 0 0 0), (27, .mpt 0 0 0)] 1 (by kernel_rfl) (by kernel_rfl) rfl (by kernel_rfl) (dtS ⟨(fun _ => pa rfl rfl rfl rfl (ld ti67 rfl rfl <| ⟨rfl, rfl⟩)), (fun _ => pa rfl rfl rfl rfl (pc (state_key_ok v6 v7 q4) rfl rfl rfl <| ⟨rfl, rfl⟩)), (fun _ => pa rfl rfl rfl rfl (mv rfl <| ⟨rfl, rfl⟩)), (fun _ => pa rfl rfl rfl rfl (mv rfl <| ⟨rfl, rfl⟩)), (fun _ => pa rfl rfl rfl rfl (ld ti161 rfl rfl <| ⟨rfl, rfl⟩)), (fun _ => pa rfl rfl rfl rfl (fa ti163 rfl rfl rfl <| ⟨rfl, rfl⟩)), (fun _ => pa rfl rfl rfl rfl (nc rfl rfl <| ⟨rfl, rfl⟩)), (fun _ => pa rfl rfl rfl rfl (mv rfl <| ⟨rfl, rfl⟩)), trivial⟩ (by kernel_rfl) rfl ⟨(fun _ _ => ⟨_, rfl, rfl, mup (v := v8) (g := (fun x => .agg (rFrameVal x))) (l := v4) (s := v10) rfl rfl rfl rfl rfl rfl <| ⟨.any, [], [], rfl, rfl, by kernel_rfl, trivial, dt0 ⟨(fun h => by cases h), (fun h => by cases h), (fun h => by cases h), (fun h => by cases h), (fun h => by cases h), (fun h => by cases h), (fun h => by cases h), (fun h => by cases h), trivial⟩ (by kernel_rfl) rfl ⟨[.old 0, .old 1, .old 2, .old 3], cn, rfl, ⟨⟨_, rfl, rsOne ⟨ci rfl, .mmp rfl, .mmp rfl, .msl rfl, trivial⟩⟩, ⟨_, rfl, rsMap (fun _ => rfl)⟩, ⟨_, rfl, rsMap (fun _ => rfl)⟩, ⟨_, rfl, rsMap (fun _ => rfl)⟩, trivial⟩, rfl, Nat.le_of_ble_eq_true rfl⟩⟩⟩), trivial⟩) ?_
  refine rg rfl <| u <| asg rfl <| r_nil ?_
  refine sw_ret ?_
  obtain rfl := sm h
  exact ⟨_, rfl, [.old 0, .old 1, .old 2, .old 3], ci rfl, rfl, ⟨⟨_, rfl, rsOne ⟨ci rfl, .mmp rfl, .mmp rfl, .msl rfl, trivial⟩⟩, ⟨_, rfl, rsMap (fun _ => rfl)⟩, ⟨_, rfl, rsMap (fun _ => rfl)⟩, ⟨_, rfl, rsMap (fun _ => rfl)⟩, trivial⟩, rfl, Nat.le_of_ble_eq_true rfl⟩
theorem cloneM0_ok (v1 : List (List UInt8 × Int)) {r : Unit} (_ : () = r) : SC Tryz.prog 115 [.mmp 0] [.many 2 (List.map (rKV (fun x => iA x)) v1)] (.mmp 1) [.many 2 (List.map (rKV (fun x => iA x)) v1), .many 2 (List.map (rKV (fun x => iA x)) v1)] :=
 ⟨⟨sbOk (sz := 2) (fun _ => rfl), sbOk (sz := 2) (fun _ => rfl), trivial⟩, mcS0 _⟩
theorem cloneM1_ok (v1 : List (List UInt8 × FrameVal)) {r : Unit} (_ : () = r) : SC Tryz.prog 116 [.mmp 0] [.many 2 (List.map (rKV (fun x => .agg (rFrameVal x))) v1)] (.mmp 1) [.many 2 (List.map (rKV (fun x => .agg (rFrameVal x))) v1), .many 2 (List.map (rKV (fun x => .agg (rFrameVal x))) v1)] :=
 ⟨⟨sbOk (sz := 2) (fun _ => rfl), sbOk (sz := 2) (fun _ => rfl), trivial⟩, mcS1 _⟩
noncomputable def state_State_Copy (v1 : List ApiClass) (v2 : List (List UInt8 × Int)) (v3 : List (List UInt8 × Int)) (v4 : List (List UInt8 × FrameVal)) (v5 : List (List UInt8)) : (List ApiClass) × (List (List UInt8 × Int)) × (List (List UInt8 × Int)) × (List (List UInt8 × FrameVal)) × (List (List UInt8)) :=
  (v1, v2, v3, v4, v5)
theorem state_State_Copy_ok (v1 : List ApiClass) (v2 : List (List UInt8 × Int)) (v3 : List (List UInt8 × Int)) (v4 : List (List UInt8 × FrameVal)) (v5 : List (List UInt8)) {r : (List ApiClass) × (List (List UInt8 × Int)) × (List (List UInt8 × Int)) × (List (List UInt8 × FrameVal)) × (List (List UInt8))} (h : state_State_Copy v1 v2 v3 v4 v5 = r) : SC Tryz.prog 33 [.mpt 0 0 0] [.one 4 [.ipt 2 [[.isl 6 (List.map rApiClass v1), .imp (List.map (rKV (fun x => iA x)) v2)]] 0 0, .mmp 1, .mmp 2, .msl 3 0 (List.length v5)], .many 2 (List.map (rKV (fun x => iA x)) v3), .many 2 (List.map (rKV (fun x => .agg (rFrameVal x))) v4), .many 1 (List.map rStr v5)] (.mpt 4 0 0) [.one 4 [.ipt 2 [[.isl 6 (List.map rApiClass v1), .imp (List.map (rKV (fun x => iA x)) v2)]] 0 0, .mmp 1, .mmp 2, .msl 3 0 (List.length r.2.2.2.2)], .many 2 (List.map (rKV (fun x => iA x)) v3), .many 2 (List.map (rKV (fun x => .agg (rFrameVal x))) v4), .many 1 (List.map rStr r.2.2.2.2), .one 4 [.ipt 2 [[.isl 6 (List.map rApiClass r.1), .imp (List.map (rKV (fun x => iA x)) r.2.1)]] 0 0, .mmp 5, .mmp 6, .msl 3 0 (List.length r.2.2.2.2)], .many 2 (List.map (rKV (fun x => iA x)) r.2.2.1), .many 2 (List.map (rKV (fun x => .agg (rFrameVal x))) r.2.2.2.1)] := by
 refine ⟨⟨trivial, sbOk (sz := 2) (fun _ => rfl), sbOk (sz := 2) (fun _ => rfl), sbOk (sz := 1) (fun _ => rfl), trivial, sbOk (sz := 2) (fun _ => rfl), sbOk (sz := 2) (fun _ => rfl), trivial⟩, scall_fn Tryz.func33 rfl (by kernel_rfl) rfl ?_⟩
 unfold state_State_Copy at h
 refine rg rfl <| u <| asg rfl <| r_nil ?_
 refine sw_seq ?_
 refine rg rfl <| u <| mv rfl <| u <| eqp ti51 rfl rfl rfl rfl rfl rfl <| r_nil ?_
 refine sw_cond rfl (fun hx => by cases hx) (fun _ => ?_)
 refine sw_skip ?_
 refine rd [(2, .mpt 4 0 0)] [some (4, [[.ipt 2 [[.isl 6 (List.map rApiClass v1), .imp (List.map (rKV (fun x => iA x)) v2)]] 0 0, .mmp 1, .mmp 2, .msl 3 0 (List.length v5)]]), some (2, List.map (rKV (fun x => iA x)) v3), some (2, List.map (rKV (fun x => .agg (rFrameVal x))) v4), some (1, List.map rStr v5), some (4, [[.ipt 2 [[.isl 6 (List.map rApiClass v1), .imp (List.map (rKV (fun x => iA x)) v2)]] 0 0, .mmp 5, .mmp 6, .msl 3 0 (List.length v5)]]), some (2, List.map (rKV (fun x => iA x)) v3), some (2, List.map (rKV (fun x => .agg (rFrameVal x))) v4)] [8, 13, 19] [17, 16, 15, 14, 12, 11, 10, 9, 7, 6, 5, 4, 3, 2, 1, 0] [(22, .msl 3 0 (List.length v5)), (21, .mpt 0 0 3), (20, .mpt 0 0 0), (19, .mpt 0 0 0), (17, .mmp 2), (16, .mpt 0 0 2), (15, .mpt 0 0 0), (14, .mpt 0 0 0), (12, .mmp 1), (11, .mpt 0 0 1), (10, .mpt 0 0 0), (9, .mpt 0 0 0), (8, .ipt 2 [[.isl 6 (List.map rApiClass v1), .imp (List.map (rKV (fun x => iA x)) v2)]] 0 0), (7, .mpt 0 0 0), (6, .mpt 0 0 0), (5, .mpt 0 0 0)] 3 (by kernel_rfl) (by kernel_rfl) rfl (by kernel_rfl) (dtS ⟨(fun _ => pa rfl rfl rfl rfl (ld ti22 rfl rfl <| ⟨rfl, rfl⟩)), (fun _ => pa rfl rfl rfl rfl (fa ti163 rfl rfl rfl <| ⟨rfl, rfl⟩)), (fun _ => pa rfl rfl rfl rfl (nc rfl rfl <| ⟨rfl, rfl⟩)), (fun _ => pa rfl rfl rfl rfl (mv rfl <| ⟨rfl, rfl⟩)), (fun _ => pa rfl rfl rfl rfl (ld ti161 rfl rfl <| ⟨rfl, rfl⟩)), (fun _ => pa rfl rfl rfl rfl (fa ti163 rfl rfl rfl <| ⟨rfl, rfl⟩)), (fun _ => pa rfl rfl rfl rfl (nc rfl rfl <| ⟨rfl, rfl⟩)), (fun _ => pa rfl rfl rfl rfl (mv rfl <| ⟨rfl, rfl⟩)), (fun _ => pa rfl rfl rfl rfl (ld ti154 rfl rfl <| ⟨rfl, rfl⟩)), (fun _ => pa rfl rfl rfl rfl (fa ti163 rfl rfl rfl <| ⟨rfl, rfl⟩)), (fun _ => pa rfl rfl rfl rfl (nc rfl rfl <| ⟨rfl, rfl⟩)), (fun _ => pa rfl rfl rfl rfl (mv rfl <| ⟨rfl, rfl⟩)), (fun _ => pa rfl rfl rfl rfl (ld ti48 rfl rfl <| ⟨rfl, rfl⟩)), (fun _ => pa rfl rfl rfl rfl (fa ti163 rfl rfl rfl <| ⟨rfl, rfl⟩)), (fun _ => pa rfl rfl rfl rfl (nc rfl rfl <| ⟨rfl, rfl⟩)), (fun _ => pa rfl rfl rfl rfl (mv rfl <| ⟨rfl, rfl⟩)), trivial⟩ (by kernel_rfl) rfl ⟨(fun _ _ => ⟨_, rfl, rfl, sc [1] (cloneM0_ok v3 rfl) rfl rfl rfl rfl ⟨(.mmp rfl), trivial⟩ ⟨⟨rfl, mkI (fun _ => rfl)⟩, trivial⟩ <| ⟨(.mmp 4), [], [(13, .mmp 4)], rfl, rfl, by kernel_rfl, rfl, dtS ⟨(fun _ => pa rfl rfl rfl rfl (ld ti22 rfl rfl <| ⟨rfl, rfl⟩)), (fun _ => pa rfl rfl rfl rfl (fa ti163 rfl rfl rfl <| ⟨rfl, rfl⟩)), (fun _ => pa rfl rfl rfl rfl (nc rfl rfl <| ⟨rfl, rfl⟩)), (fun _ => pa rfl rfl rfl rfl (mv rfl <| ⟨rfl, rfl⟩)), (fun _ => pa rfl rfl rfl rfl (ld ti161 rfl rfl <| ⟨rfl, rfl⟩)), (fun _ => pa rfl rfl rfl rfl (fa ti163 rfl rfl rfl <| ⟨rfl, rfl⟩)), (fun _ => pa rfl rfl rfl rfl (nc rfl rfl <| ⟨rfl, rfl⟩)), (fun _ => pa rfl rfl rfl rfl (mv rfl <| ⟨rfl, rfl⟩)), (fun h => by cases h), (fun _ => pa rfl rfl rfl rfl (fa ti163 rfl rfl rfl <| ⟨rfl, rfl⟩)), (fun _ => pa rfl rfl rfl rfl (nc rfl rfl <| ⟨rfl, rfl⟩)), (fun _ => pa rfl rfl rfl rfl (mv rfl <| ⟨rfl, rfl⟩)), (fun _ => pa rfl rfl rfl rfl (ld ti48 rfl rfl <| ⟨rfl, rfl⟩)), (fun _ => pa rfl rfl rfl rfl (fa ti163 rfl rfl rfl <| ⟨rfl, rfl⟩)), (fun _ => pa rfl rfl rfl rfl (nc rfl rfl <| ⟨rfl, rfl⟩)), (fun _ => pa rfl rfl rfl rfl (mv rfl <| ⟨rfl, rfl⟩)), trivial⟩ (by kernel_rfl) rfl ⟨(fun h => by cases h), (fun _ _ => ⟨_, rfl, rfl, sc [2] (cloneM1_ok v4 rfl) rfl rfl rfl rfl ⟨(.mmp rfl), trivial⟩ ⟨⟨rfl, mkI (fun _ => rfl)⟩, trivial⟩ <| ⟨(.mmp 5), [18], [(23, .agg [.ipt 2 [[.isl 6 (List.map rApiClass v1), .imp (List.map (rKV (fun x => iA x)) v2)]] 0 0, .mmp 4, .mmp 5, .msl 3 0 (List.length v5)]), (18, .mmp 5)], rfl, rfl, by kernel_rfl, rfl, dtS ⟨(fun _ => pa rfl rfl rfl rfl (bd ti163 rfl rfl rfl <| ⟨rfl, rfl⟩)), (fun _ => pa rfl rfl rfl rfl (ld ti22 rfl rfl <| ⟨rfl, rfl⟩)), (fun _ => pa rfl rfl rfl rfl (fa ti163 rfl rfl rfl <| ⟨rfl, rfl⟩)), (fun _ => pa rfl rfl rfl rfl (nc rfl rfl <| ⟨rfl, rfl⟩)), (fun _ => pa rfl rfl rfl rfl (mv rfl <| ⟨rfl, rfl⟩)), (fun h => by cases h), (fun _ => pa rfl rfl rfl rfl (fa ti163 rfl rfl rfl <| ⟨rfl, rfl⟩)), (fun _ => pa rfl rfl rfl rfl (nc rfl rfl <| ⟨rfl, rfl⟩)), (fun _ => pa rfl rfl rfl rfl (mv rfl <| ⟨rfl, rfl⟩)), (fun h => by cases h), (fun _ => pa rfl rfl rfl rfl (fa ti163 rfl rfl rfl <| ⟨rfl, rfl⟩)), (fun _ => pa rfl rfl rfl rfl (nc rfl rfl <| ⟨rfl, rfl⟩)), (fun _ => pa rfl rfl rfl rfl (mv rfl <| ⟨rfl, rfl⟩)), (fun _ => pa rfl rfl rfl rfl (ld ti48 rfl rfl <| ⟨rfl, rfl⟩)), (fun _ => pa rfl rfl rfl rfl (fa ti163 rfl rfl rfl <| ⟨rfl, rfl⟩)), (fun _ => pa rfl rfl rfl rfl (nc rfl rfl <| ⟨rfl, rfl⟩)), (fun _ => pa rfl rfl rfl rfl (mv rfl <| ⟨rfl, rfl⟩)), trivial⟩ (by kernel_rfl) rfl ⟨(fun h => by cases h), (fun h => by cases h), (fun _ _ => ⟨_, rfl, rfl, bx 6 4 rfl rfl rfl rfl <| ⟨(.mpt 6 0 0), [20], [(2, .mpt 6 0 0), (24, .mpt 6 0 0)], rfl, rfl, by kernel_rfl, rfl, dt0 ⟨(fun _ => pa rfl rfl rfl rfl (asg rfl <| ⟨rfl, rfl⟩)), (fun h => by cases h), (fun _ => pa rfl rfl rfl rfl (ld ti22 rfl rfl <| ⟨rfl, rfl⟩)), (fun _ => pa rfl rfl rfl rfl (fa ti163 rfl rfl rfl <| ⟨rfl, rfl⟩)), (fun _ => pa rfl rfl rfl rfl (nc rfl rfl <| ⟨rfl, rfl⟩)), (fun _ => pa rfl rfl rfl rfl (mv rfl <| ⟨rfl, rfl⟩)), (fun h => by cases h), (fun _ => pa rfl rfl rfl rfl (fa ti163 rfl rfl rfl <| ⟨rfl, rfl⟩)), (fun _ => pa rfl rfl rfl rfl (nc rfl rfl <| ⟨rfl, rfl⟩)), (fun _ => pa rfl rfl rfl rfl (mv rfl <| ⟨rfl, rfl⟩)), (fun h => by cases h), (fun _ => pa rfl rfl rfl rfl (fa ti163 rfl rfl rfl <| ⟨rfl, rfl⟩)), (fun _ => pa rfl rfl rfl rfl (nc rfl rfl <| ⟨rfl, rfl⟩)), (fun _ => pa rfl rfl rfl rfl (mv rfl <| ⟨rfl, rfl⟩)), (fun _ => pa rfl rfl rfl rfl (ld ti48 rfl rfl <| ⟨rfl, rfl⟩)), (fun _ => pa rfl rfl rfl rfl (fa ti163 rfl rfl rfl <| ⟨rfl, rfl⟩)), (fun _ => pa rfl rfl rfl rfl (nc rfl rfl <| ⟨rfl, rfl⟩)), (fun _ => pa rfl rfl rfl rfl (mv rfl <| ⟨rfl, rfl⟩)), trivial⟩ (by kernel_rfl) rfl ⟨[.old 0, .old 1, .old 2, .old 3, .old 6, .old 4, .old 5], cv rfl (.mpt rfl) <| cn, rfl, ⟨⟨_, rfl, rsOne ⟨ci rfl, .mmp rfl, .mmp rfl, .msl rfl, trivial⟩⟩, ⟨_, rfl, rsMap (fun _ => rfl)⟩, ⟨_, rfl, rsMap (fun _ => rfl)⟩, ⟨_, rfl, rsMap (fun _ => rfl)⟩, ⟨_, rfl, rsOne ⟨ci rfl, .mmp rfl, .mmp rfl, .msl rfl, trivial⟩⟩, ⟨_, rfl, rsMap (fun _ => rfl)⟩, ⟨_, rfl, rsMap (fun _ => rfl)⟩, trivial⟩, rfl, Nat.le_of_ble_eq_true rfl⟩⟩⟩), trivial⟩⟩⟩), (fun _ h => by cases h), trivial⟩⟩⟩), (fun _ h => by cases h), (fun _ h => by cases h), trivial⟩) ?_
 refine sw_ret ?_
 obtain rfl := h
 exact ⟨_, rfl, [.old 0, .old 1, .old 2, .old 3, .old 4, .old 5, .old 6], .mpt rfl, rfl, ⟨⟨_, rfl, rsOne ⟨ci rfl, .mmp rfl, .mmp rfl, .msl rfl, trivial⟩⟩, ⟨_, rfl, rsMap (fun _ => rfl)⟩, ⟨_, rfl, rsMap (fun _ => rfl)⟩, ⟨_, rfl, rsMap (fun _ => rfl)⟩, ⟨_, rfl, rsOne ⟨ci rfl, .mmp rfl, .mmp rfl, .msl rfl, trivial⟩⟩, ⟨_, rfl, rsMap (fun _ => rfl)⟩, ⟨_, rfl, rsMap (fun _ => rfl)⟩, trivial⟩, rfl, Nat.le_of_ble_eq_true rfl⟩
noncomputable def law8_Begun : Bool :=
  true
theorem law8_Begun_ok {r : Bool} (h : law8_Begun = r) : PureC Tryz.prog 95 [] (bA r) := by
 refine pure_fn Tryz.func95 rfl (by kernel_rfl) rfl rfl ?_
 unfold law8_Begun at h
 refine rg rfl <| u <| asg rfl <| r_nil ?_
 refine rg rfl <| u <| pc (law8_begun_ok rfl) rfl rfl rfl <| u <| asg rfl <| r_nil ?_
 refine sw_ret ?_
 obtain rfl := h
 exact ⟨_, rfl, [], ci rfl, rfl, trivial, rfl, Nat.le_of_ble_eq_true rfl⟩
noncomputable def law15_Begun : Bool :=
  true
theorem law15_Begun_ok {r : Bool} (h : law15_Begun = r) : PureC Tryz.prog 96 [] (bA r) := by
 refine pure_fn Tryz.func96 rfl (by kernel_rfl) rfl rfl ?_
 unfold law15_Begun at h
 refine rg rfl <| u <| asg rfl <| r_nil ?_
 refine rg rfl <| u <| pc (law15_begun_ok rfl) rfl rfl rfl <| u <| asg rfl <| r_nil ?_
 refine sw_ret ?_
 obtain rfl := h
 exact ⟨_, rfl, [], ci rfl, rfl, trivial, rfl, Nat.le_of_ble_eq_true rfl⟩
noncomputable def state_State_At (v1 : List ApiClass) (v2 : List (List UInt8 × Int)) (v3 : List (List UInt8 × Int)) (v4 : List (List UInt8 × FrameVal)) (v5 : List (List UInt8)) (v6 : List UInt8) : Int :=
  (Option.getD (mapGet v6 v3) 0)
theorem state_State_At_ok (v1 : List ApiClass) (v2 : List (List UInt8 × Int)) (v3 : List (List UInt8 × Int)) (v4 : List (List UInt8 × FrameVal)) (v5 : List (List UInt8)) (v6 : List UInt8) {r : Int} (h : state_State_At v1 v2 v3 v4 v5 v6 = r) : SC Tryz.prog 97 [.mpt 0 0 0, sA v6] [.one 4 [.ipt 2 [[.isl 6 (List.map rApiClass v1), .imp (List.map (rKV (fun x => iA x)) v2)]] 0 0, .mmp 1, .mmp 2, .msl 3 0 (List.length v5)], .many 2 (List.map (rKV (fun x => iA x)) v3), .many 2 (List.map (rKV (fun x => .agg (rFrameVal x))) v4), .many 1 (List.map rStr v5)] (iA r) [.one 4 [.ipt 2 [[.isl 6 (List.map rApiClass v1), .imp (List.map (rKV (fun x => iA x)) v2)]] 0 0, .mmp 1, .mmp 2, .msl 3 0 (List.length v5)], .many 2 (List.map (rKV (fun x => iA x)) v3), .many 2 (List.map (rKV (fun x => .agg (rFrameVal x))) v4), .many 1 (List.map rStr v5)] := by
 refine ⟨⟨trivial, sbOk (sz := 2) (fun _ => rfl), sbOk (sz := 2) (fun _ => rfl), sbOk (sz := 1) (fun _ => rfl), trivial⟩, scall_fn Tryz.func97 rfl (by kernel_rfl) rfl ?_⟩
 unfold state_State_At at h
 refine rg rfl <| u <| asg rfl <| r_nil ?_
 refine sw_seq ?_
 refine rg rfl <| u <| mv rfl <| u <| eqp ti51 rfl rfl rfl rfl rfl rfl <| r_nil ?_
 refine sw_cond rfl (fun hx => by cases hx) (fun _ => ?_)
 refine sw_skip ?_
 refine rg rfl <| u <| mv rfl <| u <| nc rfl rfl <| u <| fa ti163 rfl rfl rfl <| u <| ld ti154 rfl rfl <| u <| mv rfl <| u <| mlkF (g := (fun x => iA x)) (z := 0) (l := v3) rfl ti3 rfl rfl rfl rfl <| u <| asg rfl <| r_nil ?_
 refine sw_ret ?_
 obtain rfl := h
 exact ⟨_, rfl, [.old 0, .old 1, .old 2, .old 3], ci rfl, rfl, ⟨⟨_, rfl, rsOne ⟨ci rfl, .mmp rfl, .mmp rfl, .msl rfl, trivial⟩⟩, ⟨_, rfl, rsMap (fun _ => rfl)⟩, ⟨_, rfl, rsMap (fun _ => rfl)⟩, ⟨_, rfl, rsMap (fun _ => rfl)⟩, trivial⟩, rfl, Nat.le_of_ble_eq_true rfl⟩
noncomputable def law16_begun : Option (Bool) :=
  (hier_New ([(ApiClass.mk [70, 97, 99, 101] [79, 98, 106, 101, 99, 116] true [] [] ([(ApiMethod.mk [102] [] [73] false true 0 0 [] [] [])])), (ApiClass.mk [65, 97] [79, 98, 106, 101, 99, 116] false ([[70, 97, 99, 101]]) ([(ApiField.mk [120] [73] false), (ApiField.mk [115] [73] true)]) ([(ApiMethod.mk [102] [] [73] false false 1 1 ([(ApiIns.mk 1 5 [] []), (ApiIns.mk 47 0 [] [])]) [] [])])), (ApiClass.mk [66, 98] [65, 97] false [] ([(ApiField.mk [121] [91, 65, 97] false)]) ([(ApiMethod.mk [109, 97, 105, 110] [] [86] true false 0 0 ([(ApiIns.mk 46 0 [] [])]) [] [])]))])).bind fun v1 => cond (!(v1.2 == (0 : Int))) (some false) ((state_New v1.1).bind fun v2 => (state_State_Next v2.1 v2.2.1 v2.2.2.1 v2.2.2.2.1 v2.2.2.2.2 [66, 98]).bind fun v3 => (state_State_Next v2.1 v2.2.1 (state_State_Set v2.1 v2.2.1 v2.2.2.1 v2.2.2.2.1 v2.2.2.2.2 [65, 97] 2) v2.2.2.2.1 v2.2.2.2.2 [66, 98]).bind fun v4 => (state_State_Next v2.1 v2.2.1 (state_State_Set v2.1 v2.2.1 (state_State_Set v2.1 v2.2.1 v2.2.2.1 v2.2.2.2.1 v2.2.2.2.2 [65, 97] 2) v2.2.2.2.1 v2.2.2.2.2 [65, 97] 3) v2.2.2.2.1 v2.2.2.2.2 [66, 98]).bind fun v5 => (state_State_Get v2.1 v2.2.1 (state_State_Set v2.1 v2.2.1 (state_State_Set v2.1 v2.2.1 v2.2.2.1 v2.2.2.2.1 v2.2.2.2.2 [65, 97] 2) v2.2.2.2.1 v2.2.2.2.2 [65, 97] 3) v2.2.2.2.1 v2.2.2.2.2 [65, 97] [115]).bind fun v6 => (state_State_Get v2.1 v2.2.1 (state_State_Set v2.1 v2.2.1 (state_State_Set v2.1 v2.2.1 v2.2.2.1 v2.2.2.2.1 v2.2.2.2.2 [65, 97] 2) v2.2.2.2.1 v2.2.2.2.2 [65, 97] 3) v2.2.2.2.1 v2.2.2.2.2 [66, 98] [115]).bind fun v7 => (state_State_Put v2.1 v2.2.1 (state_State_Set v2.1 v2.2.1 (state_State_Set v2.1 v2.2.1 v2.2.2.1 v2.2.2.2.1 v2.2.2.2.2 [65, 97] 2) v2.2.2.2.1 v2.2.2.2.2 [65, 97] 3) v2.2.2.2.1 v2.2.2.2.2 [65, 97] [115] (FrameVal.mk false 4)).bind fun v8 => (state_State_Put v2.1 v2.2.1 (state_State_Set v2.1 v2.2.1 (state_State_Set v2.1 v2.2.1 v2.2.2.1 v2.2.2.2.1 v2.2.2.2.2 [65, 97] 2) v2.2.2.2.1 v2.2.2.2.2 [65, 97] 3) v8.2 v2.2.2.2.2 [65, 97] [115] (FrameVal.mk true 0)).bind fun v9 => (state_State_Put v2.1 v2.2.1 (state_State_Set v2.1 v2.2.1 (state_State_Set v2.1 v2.2.1 v2.2.2.1 v2.2.2.2.1 v2.2.2.2.2 [65, 97] 2) v2.2.2.2.1 v2.2.2.2.2 [65, 97] 3) v9.2 ((state_State_Copy v2.1 v2.2.1 (state_State_Set v2.1 v2.2.1 (state_State_Set v2.1 v2.2.1 v2.2.2.1 v2.2.2.2.1 v2.2.2.2.2 [65, 97] 2) v2.2.2.2.1 v2.2.2.2.2 [65, 97] 3) v9.2 v2.2.2.2.2).2.2.2.2) [65, 97] [115] (FrameVal.mk false 5)).bind fun v10 => (state_State_Get ((state_State_Copy v2.1 v2.2.1 (state_State_Set v2.1 v2.2.1 (state_State_Set v2.1 v2.2.1 v2.2.2.1 v2.2.2.2.1 v2.2.2.2.2 [65, 97] 2) v2.2.2.2.1 v2.2.2.2.2 [65, 97] 3) v9.2 v2.2.2.2.2).1) ((state_State_Copy v2.1 v2.2.1 (state_State_Set v2.1 v2.2.1 (state_State_Set v2.1 v2.2.1 v2.2.2.1 v2.2.2.2.1 v2.2.2.2.2 [65, 97] 2) v2.2.2.2.1 v2.2.2.2.2 [65, 97] 3) v9.2 v2.2.2.2.2).2.1) ((state_State_Copy v2.1 v2.2.1 (state_State_Set v2.1 v2.2.1 (state_State_Set v2.1 v2.2.1 v2.2.2.1 v2.2.2.2.1 v2.2.2.2.2 [65, 97] 2) v2.2.2.2.1 v2.2.2.2.2 [65, 97] 3) v9.2 v2.2.2.2.2).2.2.1) ((state_State_Copy v2.1 v2.2.1 (state_State_Set v2.1 v2.2.1 (state_State_Set v2.1 v2.2.1 v2.2.2.1 v2.2.2.2.1 v2.2.2.2.2 [65, 97] 2) v2.2.2.2.1 v2.2.2.2.2 [65, 97] 3) v9.2 v2.2.2.2.2).2.2.2.1) ((state_State_Copy v2.1 v2.2.1 (state_State_Set v2.1 v2.2.1 (state_State_Set v2.1 v2.2.1 v2.2.2.1 v2.2.2.2.1 v2.2.2.2.2 [65, 97] 2) v2.2.2.2.1 v2.2.2.2.2 [65, 97] 3) v9.2 v2.2.2.2.2).2.2.2.2) [65, 97] [115]).bind fun v11 => some (((((((((((((((law8_Begun) && (law15_Begun)) && (v3.1 == [65, 97])) && (v3.2 == (0 : Int))) && (v4.1 == [66, 98])) && (v5.1 == [65, 97])) && (v5.2 == (3 : Int))) && v6.2) && (v6.1.N == (0 : Int))) && (!v7.2)) && v8.1) && (!v9.1)) && (v11.1.N == (4 : Int))) && ((state_State_At v2.1 v2.2.1 (state_State_Set v2.1 v2.2.1 (state_State_Set v2.1 v2.2.1 v2.2.2.1 v2.2.2.2.1 v2.2.2.2.2 [65, 97] 2) v2.2.2.2.1 v2.2.2.2.2 [65, 97] 3) v10.2 ((state_State_Copy v2.1 v2.2.1 (state_State_Set v2.1 v2.2.1 (state_State_Set v2.1 v2.2.1 v2.2.2.1 v2.2.2.2.1 v2.2.2.2.2 [65, 97] 2) v2.2.2.2.1 v2.2.2.2.2 [65, 97] 3) v9.2 v2.2.2.2.2).2.2.2.2) [79, 98, 106, 101, 99, 116]) == (2 : Int))) && ((state_State_At v2.1 v2.2.1 (state_State_Set v2.1 v2.2.1 (state_State_Set v2.1 v2.2.1 v2.2.2.1 v2.2.2.2.1 v2.2.2.2.2 [65, 97] 2) v2.2.2.2.1 v2.2.2.2.2 [65, 97] 3) v10.2 ((state_State_Copy v2.1 v2.2.1 (state_State_Set v2.1 v2.2.1 (state_State_Set v2.1 v2.2.1 v2.2.2.1 v2.2.2.2.1 v2.2.2.2.2 [65, 97] 2) v2.2.2.2.1 v2.2.2.2.2 [65, 97] 3) v9.2 v2.2.2.2.2).2.2.2.2) [90, 122]) == (0 : Int))))
theorem law16_begun_ok {r : Bool} (h : law16_begun = some r) : PureC Tryz.prog 20 [] (bA r) := by
 refine pure_fn Tryz.func20 rfl (by kernel_rfl) rfl rfl ?_
 unfold law16_begun at h
 refine rg rfl <| u <| asg rfl <| r_nil ?_
 obtain ⟨v1, q1, h⟩ := bs h
 refine rg rfl <| u <| sc [] (law7_Two_ok rfl) rfl rfl rfl rfl trivial trivial <| r_can (env0 := [(20, .isl 6 (List.map rApiClass ([(ApiClass.mk [70, 97, 99, 101] [79, 98, 106, 101, 99, 116] true [] [] ([(ApiMethod.mk [102] [] [73] false true 0 0 [] [] [])])), (ApiClass.mk [65, 97] [79, 98, 106, 101, 99, 116] false ([[70, 97, 99, 101]]) ([(ApiField.mk [120] [73] false), (ApiField.mk [115] [73] true)]) ([(ApiMethod.mk [102] [] [73] false false 1 1 ([(ApiIns.mk 1 5 [] []), (ApiIns.mk 47 0 [] [])]) [] [])])), (ApiClass.mk [66, 98] [65, 97] false [] ([(ApiField.mk [121] [91, 65, 97] false)]) ([(ApiMethod.mk [109, 97, 105, 110] [] [86] true false 0 0 ([(ApiIns.mk 46 0 [] [])]) [] [])]))])))]) (st0 := []) ⟨[], cv rfl (rsSealX rfl rfl ⟨⟨⟨ci rfl, ci rfl, ci rfl, .nil, .nil, rsSealX rfl rfl ⟨⟨⟨ci rfl, .nil, ci rfl, ci rfl, ci rfl, ci rfl, ci rfl, .nil, .nil, .nil, trivial⟩, rfl⟩, trivial⟩, trivial⟩, rfl⟩, ⟨⟨ci rfl, ci rfl, ci rfl, rsSealX rfl rfl ⟨⟨⟨ci rfl, trivial⟩, rfl⟩, trivial⟩, rsSealX rfl rfl ⟨⟨⟨ci rfl, ci rfl, ci rfl, trivial⟩, rfl⟩, ⟨⟨ci rfl, ci rfl, ci rfl, trivial⟩, rfl⟩, trivial⟩, rsSealX rfl rfl ⟨⟨⟨ci rfl, .nil, ci rfl, ci rfl, ci rfl, ci rfl, ci rfl, rsSealX rfl rfl ⟨⟨⟨ci rfl, ci rfl, ci rfl, ci rfl, trivial⟩, rfl⟩, ⟨⟨ci rfl, ci rfl, ci rfl, ci rfl, trivial⟩, rfl⟩, trivial⟩, .nil, .nil, trivial⟩, rfl⟩, trivial⟩, trivial⟩, rfl⟩, ⟨⟨ci rfl, ci rfl, ci rfl, .nil, rsSealX rfl rfl ⟨⟨⟨ci rfl, ci rfl, ci rfl, trivial⟩, rfl⟩, trivial⟩, rsSealX rfl rfl ⟨⟨⟨ci rfl, .nil, ci rfl, ci rfl, ci rfl, ci rfl, ci rfl, rsSealX rfl rfl ⟨⟨⟨ci rfl, ci rfl, ci rfl, ci rfl, trivial⟩, rfl⟩, trivial⟩, .nil, .nil, trivial⟩, rfl⟩, trivial⟩, trivial⟩, rfl⟩, trivial⟩) <| cn, rfl, trivial, rfl, Nat.le_of_ble_eq_true rfl⟩ <| u <| pc (hier_New_ok ([(ApiClass.mk [70, 97, 99, 101] [79, 98, 106, 101, 99, 116] true [] [] ([(ApiMethod.mk [102] [] [73] false true 0 0 [] [] [])])), (ApiClass.mk [65, 97] [79, 98, 106, 101, 99, 116] false ([[70, 97, 99, 101]]) ([(ApiField.mk [120] [73] false), (ApiField.mk [115] [73] true)]) ([(ApiMethod.mk [102] [] [73] false false 1 1 ([(ApiIns.mk 1 5 [] []), (ApiIns.mk 47 0 [] [])]) [] [])])), (ApiClass.mk [66, 98] [65, 97] false [] ([(ApiField.mk [121] [91, 65, 97] false)]) ([(ApiMethod.mk [109, 97, 105, 110] [] [86] true false 0 0 ([(ApiIns.mk 46 0 [] [])]) [] [])]))]) q1) rfl rfl rfl <| u <| mv rfl <| u <| ex rfl rfl <| u <| ex rfl rfl <| u <| asg rfl <| u <| asg rfl <| r_nil ?_
 refine sw_seq ?_
 refine rg rfl <| u <| mv rfl <| u <| neq ti31 rfl rfl <| r_nil ?_
 refine sw_cond rfl (fun hc2 => ?_) (fun hc2 => ?_)
 ·
  replace h := bT hc2 h
  refine rg rfl <| u <| asg rfl <| r_nil ?_
  refine sw_ret ?_
  obtain rfl := sm h
  exact ⟨_, rfl, [], ci rfl, rfl, trivial, rfl, Nat.le_of_ble_eq_true rfl⟩
 ·
  replace h := bF hc2 h
  refine sw_skip ?_
  obtain ⟨v2, q3, h⟩ := bs h
  refine rg rfl <| u <| mv rfl <| u <| sc [] (state_New_ok v1.1 q3) rfl rfl rfl rfl ⟨(rnI (immP (fun _ => rfl))), trivial⟩ trivial <| r_can (env0 := [(27, .mpt 0 0 0)]) (st0 := [some (4, [[.ipt 2 [[.isl 6 (List.map rApiClass v2.1), .imp (List.map (rKV (fun x => iA x)) v2.2.1)]] 0 0, .mmp 1, .mmp 2, .msl 3 0 (List.length v2.2.2.2.2)]]), some (2, List.map (rKV (fun x => iA x)) v2.2.2.1), some (2, List.map (rKV (fun x => .agg (rFrameVal x))) v2.2.2.2.1), some (1, List.map rStr v2.2.2.2.2)]) ⟨[.old 0, .old 1, .old 2, .old 3], cv rfl (.mpt rfl) <| cn, rfl, ⟨⟨_, rfl, rsOne ⟨ci rfl, .mmp rfl, .mmp rfl, .msl rfl, trivial⟩⟩, ⟨_, rfl, rsMap (fun _ => rfl)⟩, ⟨_, rfl, rsMap (fun _ => rfl)⟩, ⟨_, rfl, rsMap (fun _ => rfl)⟩, trivial⟩, rfl, Nat.le_of_ble_eq_true rfl⟩ <| u <| asg rfl <| r_nil ?_
  obtain ⟨v3, q4, h⟩ := bs h
  refine rg rfl <| u <| mv rfl <| u <| sc [0, 1, 2, 3] (state_State_Next_ok v2.1 v2.2.1 v2.2.2.1 v2.2.2.2.1 v2.2.2.2.2 [66, 98] q4) rfl rfl rfl rfl ⟨(.mpt rfl), (rnI rfl), trivial⟩ ⟨⟨_, rfl, ⟨(rnI rfl), (.mmp rfl), (.mmp rfl), (.msl rfl), trivial⟩⟩, ⟨rfl, mkI (fun _ => rfl)⟩, ⟨rfl, mkI (fun _ => rfl)⟩, ⟨rfl, mkI (fun _ => rfl)⟩, trivial⟩ <| r_can (env0 := [(3, .mpt 0 0 0), (30, .tup [sA v3.1, iA v3.2])]) (st0 := [some (4, [[.ipt 2 [[.isl 6 (List.map rApiClass v2.1), .imp (List.map (rKV (fun x => iA x)) v2.2.1)]] 0 0, .mmp 1, .mmp 2, .msl 3 0 (List.length v2.2.2.2.2)]]), some (2, List.map (rKV (fun x => iA x)) v2.2.2.1), some (2, List.map (rKV (fun x => .agg (rFrameVal x))) v2.2.2.2.1), some (1, List.map rStr v2.2.2.2.2)]) ⟨[.old 0, .old 1, .old 2, .old 3], cv rfl (.mpt rfl) <| ce rfl rfl <| cn, rfl, ⟨⟨_, rfl, rsOne ⟨ci rfl, .mmp rfl, .mmp rfl, .msl rfl, trivial⟩⟩, ⟨_, rfl, rsMap (fun _ => rfl)⟩, ⟨_, rfl, rsMap (fun _ => rfl)⟩, ⟨_, rfl, rsMap (fun _ => rfl)⟩, trivial⟩, rfl, Nat.le_of_ble_eq_true rfl⟩ <| u <| mv rfl <| u <| ex rfl rfl <| u <| ex rfl rfl <| u <| asg rfl <| u <| asg rfl <| r_nil ?_
  refine rg rfl <| u <| mv rfl <| u <| sc [0, 1, 2, 3] (state_State_Set_ok v2.1 v2.2.1 v2.2.2.1 v2.2.2.2.1 v2.2.2.2.2 [65, 97] 2 rfl) rfl rfl rfl rfl ⟨(.mpt rfl), (rnI rfl), (rnI rfl), trivial⟩ ⟨⟨_, rfl, ⟨(rnI rfl), (.mmp rfl), (.mmp rfl), (.msl rfl), trivial⟩⟩, ⟨rfl, mkI (fun _ => rfl)⟩, ⟨rfl, mkI (fun _ => rfl)⟩, ⟨rfl, mkI (fun _ => rfl)⟩, trivial⟩ <| r_can (env0 := [(3, .mpt 0 0 0), (4, sA v3.1), (5, iA v3.2)]) (st0 := [some (4, [[.ipt 2 [[.isl 6 (List.map rApiClass v2.1), .imp (List.map (rKV (fun x => iA x)) v2.2.1)]] 0 0, .mmp 1, .mmp 2, .msl 3 0 (List.length v2.2.2.2.2)]]), some (2, List.map (rKV (fun x => iA x)) (state_State_Set v2.1 v2.2.1 v2.2.2.1 v2.2.2.2.1 v2.2.2.2.2 [65, 97] 2)), some (2, List.map (rKV (fun x => .agg (rFrameVal x))) v2.2.2.2.1), some (1, List.map rStr v2.2.2.2.2)]) ⟨[.old 0, .old 1, .old 2, .old 3], cv rfl (.mpt rfl) <| ce rfl rfl <| ce rfl rfl <| cn, rfl, ⟨⟨_, rfl, rsOne ⟨ci rfl, .mmp rfl, .mmp rfl, .msl rfl, trivial⟩⟩, ⟨_, rfl, rsMap (fun _ => rfl)⟩, ⟨_, rfl, rsMap (fun _ => rfl)⟩, ⟨_, rfl, rsMap (fun _ => rfl)⟩, trivial⟩, rfl, Nat.le_of_ble_eq_true rfl⟩ <| r_nil ?_
  obtain ⟨v4, q5, h⟩ := bs h
  refine rg rfl <| u <| mv rfl <| u <| sc [0, 1, 2, 3] (state_State_Next_ok v2.1 v2.2.1 (state_State_Set v2.1 v2.2.1 v2.2.2.1 v2.2.2.2.1 v2.2.2.2.2 [65, 97] 2) v2.2.2.2.1 v2.2.2.2.2 [66, 98] q5) rfl rfl rfl rfl ⟨(.mpt rfl), (rnI rfl), trivial⟩ ⟨⟨_, rfl, ⟨(rnI rfl), (.mmp rfl), (.mmp rfl), (.msl rfl), trivial⟩⟩, ⟨rfl, mkI (fun _ => rfl)⟩, ⟨rfl, mkI (fun _ => rfl)⟩, ⟨rfl, mkI (fun _ => rfl)⟩, trivial⟩ <| r_can (env0 := [(3, .mpt 0 0 0), (4, sA v3.1), (5, iA v3.2), (37, .tup [sA v4.1, iA v4.2])]) (st0 := [some (4, [[.ipt 2 [[.isl 6 (List.map rApiClass v2.1), .imp (List.map (rKV (fun x => iA x)) v2.2.1)]] 0 0, .mmp 1, .mmp 2, .msl 3 0 (List.length v2.2.2.2.2)]]), some (2, List.map (rKV (fun x => iA x)) (state_State_Set v2.1 v2.2.1 v2.2.2.1 v2.2.2.2.1 v2.2.2.2.2 [65, 97] 2)), some (2, List.map (rKV (fun x => .agg (rFrameVal x))) v2.2.2.2.1), some (1, List.map rStr v2.2.2.2.2)]) ⟨[.old 0, .old 1, .old 2, .old 3], cv rfl (.mpt rfl) <| ce rfl rfl <| ce rfl rfl <| ce rfl rfl <| cn, rfl, ⟨⟨_, rfl, rsOne ⟨ci rfl, .mmp rfl, .mmp rfl, .msl rfl, trivial⟩⟩, ⟨_, rfl, rsMap (fun _ => rfl)⟩, ⟨_, rfl, rsMap (fun _ => rfl)⟩, ⟨_, rfl, rsMap (fun _ => rfl)⟩, trivial⟩, rfl, Nat.le_of_ble_eq_true rfl⟩ <| u <| mv rfl <| u <| ex rfl rfl <| u <| ex rfl rfl <| u <| asg rfl <| u <| asg rfl <| r_nil ?_
  refine rg rfl <| u <| mv rfl <| u <| sc [0, 1, 2, 3] (state_State_Set_ok v2.1 v2.2.1 (state_State_Set v2.1 v2.2.1 v2.2.2.1 v2.2.2.2.1 v2.2.2.2.2 [65, 97] 2) v2.2.2.2.1 v2.2.2.2.2 [65, 97] 3 rfl) rfl rfl rfl rfl ⟨(.mpt rfl), (rnI rfl), (rnI rfl), trivial⟩ ⟨⟨_, rfl, ⟨(rnI rfl), (.mmp rfl), (.mmp rfl), (.msl rfl), trivial⟩⟩, ⟨rfl, mkI (fun _ => rfl)⟩, ⟨rfl, mkI (fun _ => rfl)⟩, ⟨rfl, mkI (fun _ => rfl)⟩, trivial⟩ <| r_can (env0 := [(3, .mpt 0 0 0), (4, sA v3.1), (5, iA v3.2), (6, sA v4.1)]) (st0 := [some (4, [[.ipt 2 [[.isl 6 (List.map rApiClass v2.1), .imp (List.map (rKV (fun x => iA x)) v2.2.1)]] 0 0, .mmp 1, .mmp 2, .msl 3 0 (List.length v2.2.2.2.2)]]), some (2, List.map (rKV (fun x => iA x)) (state_State_Set v2.1 v2.2.1 (state_State_Set v2.1 v2.2.1 v2.2.2.1 v2.2.2.2.1 v2.2.2.2.2 [65, 97] 2) v2.2.2.2.1 v2.2.2.2.2 [65, 97] 3)), some (2, List.map (rKV (fun x => .agg (rFrameVal x))) v2.2.2.2.1), some (1, List.map rStr v2.2.2.2.2)]) ⟨[.old 0, .old 1, .old 2, .old 3], cv rfl (.mpt rfl) <| ce rfl rfl <| ce rfl rfl <| ce rfl rfl <| cn, rfl, ⟨⟨_, rfl, rsOne ⟨ci rfl, .mmp rfl, .mmp rfl, .msl rfl, trivial⟩⟩, ⟨_, rfl, rsMap (fun _ => rfl)⟩, ⟨_, rfl, rsMap (fun _ => rfl)⟩, ⟨_, rfl, rsMap (fun _ => rfl)⟩, trivial⟩, rfl, Nat.le_of_ble_eq_true rfl⟩ <| r_nil ?_
  obtain ⟨v5, q6, h⟩ := bs h
  refine rg rfl <| u <| mv rfl <| u <| sc [0, 1, 2, 3] (state_State_Next_ok v2.1 v2.2.1 (state_State_Set v2.1 v2.2.1 (state_State_Set v2.1 v2.2.1 v2.2.2.1 v2.2.2.2.1 v2.2.2.2.2 [65, 97] 2) v2.2.2.2.1 v2.2.2.2.2 [65, 97] 3) v2.2.2.2.1 v2.2.2.2.2 [66, 98] q6) rfl rfl rfl rfl ⟨(.mpt rfl), (rnI rfl), trivial⟩ ⟨⟨_, rfl, ⟨(rnI rfl), (.mmp rfl), (.mmp rfl), (.msl rfl), trivial⟩⟩, ⟨rfl, mkI (fun _ => rfl)⟩, ⟨rfl, mkI (fun _ => rfl)⟩, ⟨rfl, mkI (fun _ => rfl)⟩, trivial⟩ <| r_can (env0 := [(3, .mpt 0 0 0), (4, sA v3.1), (5, iA v3.2), (6, sA v4.1), (44, .tup [sA v5.1, iA v5.2])]) (st0 := [some (4, [[.ipt 2 [[.isl 6 (List.map rApiClass v2.1), .imp (List.map (rKV (fun x => iA x)) v2.2.1)]] 0 0, .mmp 1, .mmp 2, .msl 3 0 (List.length v2.2.2.2.2)]]), some (2, List.map (rKV (fun x => iA x)) (state_State_Set v2.1 v2.2.1 (state_State_Set v2.1 v2.2.1 v2.2.2.1 v2.2.2.2.1 v2.2.2.2.2 [65, 97] 2) v2.2.2.2.1 v2.2.2.2.2 [65, 97] 3)), some (2, List.map (rKV (fun x => .agg (rFrameVal x))) v2.2.2.2.1), some (1, List.map rStr v2.2.2.2.2)]) ⟨[.old 0, .old 1, .old 2, .old 3], cv rfl (.mpt rfl) <| ce rfl rfl <| ce rfl rfl <| ce rfl rfl <| ce rfl rfl <| cn, rfl, ⟨⟨_, rfl, rsOne ⟨ci rfl, .mmp rfl, .mmp rfl, .msl rfl, trivial⟩⟩, ⟨_, rfl, rsMap (fun _ => rfl)⟩, ⟨_, rfl, rsMap (fun _ => rfl)⟩, ⟨_, rfl, rsMap (fun _ => rfl)⟩, trivial⟩, rfl, Nat.le_of_ble_eq_true rfl⟩ <| u <| mv rfl <| u <| ex rfl rfl <| u <| ex rfl rfl <| u <| asg rfl <| u <| asg rfl <| r_nil ?_
  obtain ⟨v6, q7, h⟩ := bs h
  refine rg rfl <| u <| mv rfl <| u <| sc [0, 1, 2, 3] (state_State_Get_ok v2.1 v2.2.1 (state_State_Set v2.1 v2.2.1 (state_State_Set v2.1 v2.2.1 v2.2.2.1 v2.2.2.2.1 v2.2.2.2.2 [65, 97] 2) v2.2.2.2.1 v2.2.2.2.2 [65, 97] 3) v2.2.2.2.1 v2.2.2.2.2 [65, 97] [115] q7) rfl rfl rfl rfl ⟨(.mpt rfl), (rnI rfl), (rnI rfl), trivial⟩ ⟨⟨_, rfl, ⟨(rnI rfl), (.mmp rfl), (.mmp rfl), (.msl rfl), trivial⟩⟩, ⟨rfl, mkI (fun _ => rfl)⟩, ⟨rfl, mkI (fun _ => rfl)⟩, ⟨rfl, mkI (fun _ => rfl)⟩, trivial⟩ <| r_can (env0 := [(3, .mpt 0 0 0), (4, sA v3.1), (5, iA v3.2), (6, sA v4.1), (8, sA v5.1), (9, iA v5.2), (49, .tup [.agg (rFrameVal v6.1), bA v6.2])]) (st0 := [some (4, [[.ipt 2 [[.isl 6 (List.map rApiClass v2.1), .imp (List.map (rKV (fun x => iA x)) v2.2.1)]] 0 0, .mmp 1, .mmp 2, .msl 3 0 (List.length v2.2.2.2.2)]]), some (2, List.map (rKV (fun x => iA x)) (state_State_Set v2.1 v2.2.1 (state_State_Set v2.1 v2.2.1 v2.2.2.1 v2.2.2.2.1 v2.2.2.2.2 [65, 97] 2) v2.2.2.2.1 v2.2.2.2.2 [65, 97] 3)), some (2, List.map (rKV (fun x => .agg (rFrameVal x))) v2.2.2.2.1), some (1, List.map rStr v2.2.2.2.2)]) ⟨[.old 0, .old 1, .old 2, .old 3], cv rfl (.mpt rfl) <| ce rfl rfl <| ce rfl rfl <| ce rfl rfl <| ce rfl rfl <| ce rfl rfl <| ce rfl rfl <| cn, rfl, ⟨⟨_, rfl, rsOne ⟨ci rfl, .mmp rfl, .mmp rfl, .msl rfl, trivial⟩⟩, ⟨_, rfl, rsMap (fun _ => rfl)⟩, ⟨_, rfl, rsMap (fun _ => rfl)⟩, ⟨_, rfl, rsMap (fun _ => rfl)⟩, trivial⟩, rfl, Nat.le_of_ble_eq_true rfl⟩ <| u <| mv rfl <| u <| ex rfl rfl <| u <| ex rfl rfl <| u <| al 4 ti67 rfl <| u <| sto ti67 rfl rfl rfl <| u <| asg rfl <| r_nil ?_
  obtain ⟨v7, q8, h⟩ := bs h
  refine rg rfl <| u <| mv rfl <| u <| sc [0, 1, 2, 3] (state_State_Get_ok v2.1 v2.2.1 (state_State_Set v2.1 v2.2.1 (state_State_Set v2.1 v2.2.1 v2.2.2.1 v2.2.2.2.1 v2.2.2.2.2 [65, 97] 2) v2.2.2.2.1 v2.2.2.2.2 [65, 97] 3) v2.2.2.2.1 v2.2.2.2.2 [66, 98] [115] q8) rfl rfl rfl rfl ⟨(.mpt rfl), (rnI rfl), (rnI rfl), trivial⟩ ⟨⟨_, rfl, ⟨(rnI rfl), (.mmp rfl), (.mmp rfl), (.msl rfl), trivial⟩⟩, ⟨rfl, mkI (fun _ => rfl)⟩, ⟨rfl, mkI (fun _ => rfl)⟩, ⟨rfl, mkI (fun _ => rfl)⟩, trivial⟩ <| r_can (env0 := [(3, .mpt 0 0 0), (4, sA v3.1), (5, iA v3.2), (6, sA v4.1), (8, sA v5.1), (9, iA v5.2), (10, .mpt 4 0 0), (11, bA v6.2), (54, .tup [.agg (rFrameVal v7.1), bA v7.2])]) (st0 := [some (4, [[.ipt 2 [[.isl 6 (List.map rApiClass v2.1), .imp (List.map (rKV (fun x => iA x)) v2.2.1)]] 0 0, .mmp 1, .mmp 2, .msl 3 0 (List.length v2.2.2.2.2)]]), some (2, List.map (rKV (fun x => iA x)) (state_State_Set v2.1 v2.2.1 (state_State_Set v2.1 v2.2.1 v2.2.2.1 v2.2.2.2.1 v2.2.2.2.2 [65, 97] 2) v2.2.2.2.1 v2.2.2.2.2 [65, 97] 3)), some (2, List.map (rKV (fun x => .agg (rFrameVal x))) v2.2.2.2.1), some (1, List.map rStr v2.2.2.2.2), some (2, [(rFrameVal v6.1)])]) ⟨[.old 0, .old 1, .old 2, .old 3, .old 4], cv rfl (.mpt rfl) <| ce rfl rfl <| ce rfl rfl <| ce rfl rfl <| ce rfl rfl <| ce rfl rfl <| cv rfl (.mpt rfl) <| ce rfl rfl <| ce rfl rfl <| cn, rfl, ⟨⟨_, rfl, rsOne ⟨ci rfl, .mmp rfl, .mmp rfl, .msl rfl, trivial⟩⟩, ⟨_, rfl, rsMap (fun _ => rfl)⟩, ⟨_, rfl, rsMap (fun _ => rfl)⟩, ⟨_, rfl, rsMap (fun _ => rfl)⟩, ⟨_, rfl, rsOne (ciL rfl)⟩, trivial⟩, rfl, Nat.le_of_ble_eq_true rfl⟩ <| u <| mv rfl <| u <| ex rfl rfl <| u <| ex rfl rfl <| u <| al 5 ti67 rfl <| u <| sto ti67 rfl rfl rfl <| u <| asg rfl <| r_nil ?_
  obtain ⟨v8, q9, h⟩ := bs h
  obtain ⟨v9, q10, h⟩ := bs h
  refine rg rfl <| u <| mv rfl <| u <| bd ti67 rfl rfl rfl <| u <| sc [0, 1, 2, 3] (state_State_Put_ok v2.1 v2.2.1 (state_State_Set v2.1 v2.2.1 (state_State_Set v2.1 v2.2.1 v2.2.2.1 v2.2.2.2.1 v2.2.2.2.2 [65, 97] 2) v2.2.2.2.1 v2.2.2.2.2 [65, 97] 3) v2.2.2.2.1 v2.2.2.2.2 [65, 97] [115] (FrameVal.mk false 4) q9) rfl rfl rfl rfl ⟨(.mpt rfl), (rnI rfl), (rnI rfl), (rnI rfl), trivial⟩ ⟨⟨_, rfl, ⟨(rnI rfl), (.mmp rfl), (.mmp rfl), (.msl rfl), trivial⟩⟩, ⟨rfl, mkI (fun _ => rfl)⟩, ⟨rfl, mkI (fun _ => rfl)⟩, ⟨rfl, mkI (fun _ => rfl)⟩, trivial⟩ <| r_can (env0 := [(3, .mpt 0 0 0), (4, sA v3.1), (5, iA v3.2), (6, sA v4.1), (8, sA v5.1), (9, iA v5.2), (10, .mpt 4 0 0), (11, bA v6.2), (13, bA v7.2), (59, bA v8.1)]) (st0 := [some (4, [[.ipt 2 [[.isl 6 (List.map rApiClass v2.1), .imp (List.map (rKV (fun x => iA x)) v2.2.1)]] 0 0, .mmp 1, .mmp 2, .msl 3 0 (List.length v2.2.2.2.2)]]), some (2, List.map (rKV (fun x => iA x)) (state_State_Set v2.1 v2.2.1 (state_State_Set v2.1 v2.2.1 v2.2.2.1 v2.2.2.2.1 v2.2.2.2.2 [65, 97] 2) v2.2.2.2.1 v2.2.2.2.2 [65, 97] 3)), some (2, List.map (rKV (fun x => .agg (rFrameVal x))) v8.2), some (1, List.map rStr v2.2.2.2.2), some (2, [(rFrameVal v6.1)])]) ⟨[.old 0, .old 1, .old 2, .old 3, .old 4], cv rfl (.mpt rfl) <| ce rfl rfl <| ce rfl rfl <| ce rfl rfl <| ce rfl rfl <| ce rfl rfl <| cv rfl (.mpt rfl) <| ce rfl rfl <| ce rfl rfl <| ce rfl rfl <| cn, rfl, ⟨⟨_, rfl, rsOne ⟨ci rfl, .mmp rfl, .mmp rfl, .msl rfl, trivial⟩⟩, ⟨_, rfl, rsMap (fun _ => rfl)⟩, ⟨_, rfl, rsMap (fun _ => rfl)⟩, ⟨_, rfl, rsMap (fun _ => rfl)⟩, ⟨_, rfl, rsOne (ciL rfl)⟩, trivial⟩, rfl, Nat.le_of_ble_eq_true rfl⟩ <| u <| mv rfl <| u <| bd ti67 rfl rfl rfl <| u <| sc [0, 1, 2, 3] (state_State_Put_ok v2.1 v2.2.1 (state_State_Set v2.1 v2.2.1 (state_State_Set v2.1 v2.2.1 v2.2.2.1 v2.2.2.2.1 v2.2.2.2.2 [65, 97] 2) v2.2.2.2.1 v2.2.2.2.2 [65, 97] 3) v8.2 v2.2.2.2.2 [65, 97] [115] (FrameVal.mk true 0) q10) rfl rfl rfl rfl ⟨(.mpt rfl), (rnI rfl), (rnI rfl), (rnI rfl), trivial⟩ ⟨⟨_, rfl, ⟨(rnI rfl), (.mmp rfl), (.mmp rfl), (.msl rfl), trivial⟩⟩, ⟨rfl, mkI (fun _ => rfl)⟩, ⟨rfl, mkI (fun _ => rfl)⟩, ⟨rfl, mkI (fun _ => rfl)⟩, trivial⟩ <| r_can (env0 := [(3, .mpt 0 0 0), (4, sA v3.1), (5, iA v3.2), (6, sA v4.1), (8, sA v5.1), (9, iA v5.2), (10, .mpt 4 0 0), (11, bA v6.2), (13, bA v7.2), (59, bA v8.1), (62, bA v9.1)]) (st0 := [some (4, [[.ipt 2 [[.isl 6 (List.map rApiClass v2.1), .imp (List.map (rKV (fun x => iA x)) v2.2.1)]] 0 0, .mmp 1, .mmp 2, .msl 3 0 (List.length v2.2.2.2.2)]]), some (2, List.map (rKV (fun x => iA x)) (state_State_Set v2.1 v2.2.1 (state_State_Set v2.1 v2.2.1 v2.2.2.1 v2.2.2.2.1 v2.2.2.2.2 [65, 97] 2) v2.2.2.2.1 v2.2.2.2.2 [65, 97] 3)), some (2, List.map (rKV (fun x => .agg (rFrameVal x))) v9.2), some (1, List.map rStr v2.2.2.2.2), some (2, [(rFrameVal v6.1)])]) ⟨[.old 0, .old 1, .old 2, .old 3, .old 4], cv rfl (.mpt rfl) <| ce rfl rfl <| ce rfl rfl <| ce rfl rfl <| ce rfl rfl <| ce rfl rfl <| cv rfl (.mpt rfl) <| ce rfl rfl <| ce rfl rfl <| ce rfl rfl <| ce rfl rfl <| cn, rfl, ⟨⟨_, rfl, rsOne ⟨ci rfl, .mmp rfl, .mmp rfl, .msl rfl, trivial⟩⟩, ⟨_, rfl, rsMap (fun _ => rfl)⟩, ⟨_, rfl, rsMap (fun _ => rfl)⟩, ⟨_, rfl, rsMap (fun _ => rfl)⟩, ⟨_, rfl, rsOne (ciL rfl)⟩, trivial⟩, rfl, Nat.le_of_ble_eq_true rfl⟩ <| u <| asg rfl <| u <| asg rfl <| r_nil ?_
  refine rg rfl <| u <| mv rfl <| u <| sc [0, 1, 2, 3] (state_State_Copy_ok v2.1 v2.2.1 (state_State_Set v2.1 v2.2.1 (state_State_Set v2.1 v2.2.1 v2.2.2.1 v2.2.2.2.1 v2.2.2.2.2 [65, 97] 2) v2.2.2.2.1 v2.2.2.2.2 [65, 97] 3) v9.2 v2.2.2.2.2 rfl) rfl rfl rfl rfl ⟨(.mpt rfl), trivial⟩ ⟨⟨_, rfl, ⟨(rnI rfl), (.mmp rfl), (.mmp rfl), (.msl rfl), trivial⟩⟩, ⟨rfl, mkI (fun _ => rfl)⟩, ⟨rfl, mkI (fun _ => rfl)⟩, ⟨rfl, mkI (fun _ => rfl)⟩, trivial⟩ <| r_can (env0 := [(3, .mpt 0 0 0), (4, sA v3.1), (5, iA v3.2), (6, sA v4.1), (8, sA v5.1), (9, iA v5.2), (10, .mpt 4 0 0), (11, bA v6.2), (13, bA v7.2), (14, bA v8.1), (15, bA v9.1), (64, .mpt 5 0 0)]) (st0 := [some (4, [[.ipt 2 [[.isl 6 (List.map rApiClass v2.1), .imp (List.map (rKV (fun x => iA x)) v2.2.1)]] 0 0, .mmp 1, .mmp 2, .msl 3 0 (List.length ((state_State_Copy v2.1 v2.2.1 (state_State_Set v2.1 v2.2.1 (state_State_Set v2.1 v2.2.1 v2.2.2.1 v2.2.2.2.1 v2.2.2.2.2 [65, 97] 2) v2.2.2.2.1 v2.2.2.2.2 [65, 97] 3) v9.2 v2.2.2.2.2).2.2.2.2))]]), some (2, List.map (rKV (fun x => iA x)) (state_State_Set v2.1 v2.2.1 (state_State_Set v2.1 v2.2.1 v2.2.2.1 v2.2.2.2.1 v2.2.2.2.2 [65, 97] 2) v2.2.2.2.1 v2.2.2.2.2 [65, 97] 3)), some (2, List.map (rKV (fun x => .agg (rFrameVal x))) v9.2), some (1, List.map rStr ((state_State_Copy v2.1 v2.2.1 (state_State_Set v2.1 v2.2.1 (state_State_Set v2.1 v2.2.1 v2.2.2.1 v2.2.2.2.1 v2.2.2.2.2 [65, 97] 2) v2.2.2.2.1 v2.2.2.2.2 [65, 97] 3) v9.2 v2.2.2.2.2).2.2.2.2)), some (2, [(rFrameVal v6.1)]), some (4, [[.ipt 2 [[.isl 6 (List.map rApiClass ((state_State_Copy v2.1 v2.2.1 (state_State_Set v2.1 v2.2.1 (state_State_Set v2.1 v2.2.1 v2.2.2.1 v2.2.2.2.1 v2.2.2.2.2 [65, 97] 2) v2.2.2.2.1 v2.2.2.2.2 [65, 97] 3) v9.2 v2.2.2.2.2).1)), .imp (List.map (rKV (fun x => iA x)) ((state_State_Copy v2.1 v2.2.1 (state_State_Set v2.1 v2.2.1 (state_State_Set v2.1 v2.2.1 v2.2.2.1 v2.2.2.2.1 v2.2.2.2.2 [65, 97] 2) v2.2.2.2.1 v2.2.2.2.2 [65, 97] 3) v9.2 v2.2.2.2.2).2.1))]] 0 0, .mmp 6, .mmp 7, .msl 3 0 (List.length ((state_State_Copy v2.1 v2.2.1 (state_State_Set v2.1 v2.2.1 (state_State_Set v2.1 v2.2.1 v2.2.2.1 v2.2.2.2.1 v2.2.2.2.2 [65, 97] 2) v2.2.2.2.1 v2.2.2.2.2 [65, 97] 3) v9.2 v2.2.2.2.2).2.2.2.2))]]), some (2, List.map (rKV (fun x => iA x)) ((state_State_Copy v2.1 v2.2.1 (state_State_Set v2.1 v2.2.1 (state_State_Set v2.1 v2.2.1 v2.2.2.1 v2.2.2.2.1 v2.2.2.2.2 [65, 97] 2) v2.2.2.2.1 v2.2.2.2.2 [65, 97] 3) v9.2 v2.2.2.2.2).2.2.1)), some (2, List.map (rKV (fun x => .agg (rFrameVal x))) ((state_State_Copy v2.1 v2.2.1 (state_State_Set v2.1 v2.2.1 (state_State_Set v2.1 v2.2.1 v2.2.2.1 v2.2.2.2.1 v2.2.2.2.2 [65, 97] 2) v2.2.2.2.1 v2.2.2.2.2 [65, 97] 3) v9.2 v2.2.2.2.2).2.2.2.1))]) ⟨[.old 0, .old 1, .old 2, .old 3, .old 4, .old 5, .old 6, .old 7], cv rfl (.mpt rfl) <| ce rfl rfl <| ce rfl rfl <| ce rfl rfl <| ce rfl rfl <| ce rfl rfl <| cv rfl (.mpt rfl) <| ce rfl rfl <| ce rfl rfl <| ce rfl rfl <| ce rfl rfl <| cv rfl (.mpt rfl) <| cn, rfl, ⟨⟨_, rfl, rsOne ⟨ci rfl, .mmp rfl, .mmp rfl, mslE (by simp) rfl, trivial⟩⟩, ⟨_, rfl, rsMap (fun _ => rfl)⟩, ⟨_, rfl, rsMap (fun _ => rfl)⟩, ⟨_, rfl, rsMap (fun _ => rfl)⟩, ⟨_, rfl, rsOne (ciL rfl)⟩, ⟨_, rfl, rsOne ⟨ci rfl, .mmp rfl, .mmp rfl, mslE (by simp) rfl, trivial⟩⟩, ⟨_, rfl, rsMap (fun _ => rfl)⟩, ⟨_, rfl, rsMap (fun _ => rfl)⟩, trivial⟩, rfl, Nat.le_of_ble_eq_true rfl⟩ <| u <| asg rfl <| r_nil ?_
  obtain ⟨v10, q11, h⟩ := bs h
  refine rg rfl <| u <| mv rfl <| u <| bd ti67 rfl rfl rfl <| u <| sc [0, 1, 2, 3] (state_State_Put_ok v2.1 v2.2.1 (state_State_Set v2.1 v2.2.1 (state_State_Set v2.1 v2.2.1 v2.2.2.1 v2.2.2.2.1 v2.2.2.2.2 [65, 97] 2) v2.2.2.2.1 v2.2.2.2.2 [65, 97] 3) v9.2 ((state_State_Copy v2.1 v2.2.1 (state_State_Set v2.1 v2.2.1 (state_State_Set v2.1 v2.2.1 v2.2.2.1 v2.2.2.2.1 v2.2.2.2.2 [65, 97] 2) v2.2.2.2.1 v2.2.2.2.2 [65, 97] 3) v9.2 v2.2.2.2.2).2.2.2.2) [65, 97] [115] (FrameVal.mk false 5) q11) rfl rfl rfl rfl ⟨(.mpt rfl), (rnI rfl), (rnI rfl), (rnI rfl), trivial⟩ ⟨⟨_, rfl, ⟨(rnI rfl), (.mmp rfl), (.mmp rfl), (.msl rfl), trivial⟩⟩, ⟨rfl, mkI (fun _ => rfl)⟩, ⟨rfl, mkI (fun _ => rfl)⟩, ⟨rfl, mkI (fun _ => rfl)⟩, trivial⟩ <| r_can (env0 := [(3, .mpt 0 0 0), (4, sA v3.1), (5, iA v3.2), (6, sA v4.1), (8, sA v5.1), (9, iA v5.2), (10, .mpt 4 0 0), (11, bA v6.2), (13, bA v7.2), (14, bA v8.1), (15, bA v9.1), (16, .mpt 5 0 0)]) (st0 := [some (4, [[.ipt 2 [[.isl 6 (List.map rApiClass v2.1), .imp (List.map (rKV (fun x => iA x)) v2.2.1)]] 0 0, .mmp 1, .mmp 2, .msl 3 0 (List.length ((state_State_Copy v2.1 v2.2.1 (state_State_Set v2.1 v2.2.1 (state_State_Set v2.1 v2.2.1 v2.2.2.1 v2.2.2.2.1 v2.2.2.2.2 [65, 97] 2) v2.2.2.2.1 v2.2.2.2.2 [65, 97] 3) v9.2 v2.2.2.2.2).2.2.2.2))]]), some (2, List.map (rKV (fun x => iA x)) (state_State_Set v2.1 v2.2.1 (state_State_Set v2.1 v2.2.1 v2.2.2.1 v2.2.2.2.1 v2.2.2.2.2 [65, 97] 2) v2.2.2.2.1 v2.2.2.2.2 [65, 97] 3)), some (2, List.map (rKV (fun x => .agg (rFrameVal x))) v10.2), some (1, List.map rStr ((state_State_Copy v2.1 v2.2.1 (state_State_Set v2.1 v2.2.1 (state_State_Set v2.1 v2.2.1 v2.2.2.1 v2.2.2.2.1 v2.2.2.2.2 [65, 97] 2) v2.2.2.2.1 v2.2.2.2.2 [65, 97] 3) v9.2 v2.2.2.2.2).2.2.2.2)), some (2, [(rFrameVal v6.1)]), some (4, [[.ipt 2 [[.isl 6 (List.map rApiClass ((state_State_Copy v2.1 v2.2.1 (state_State_Set v2.1 v2.2.1 (state_State_Set v2.1 v2.2.1 v2.2.2.1 v2.2.2.2.1 v2.2.2.2.2 [65, 97] 2) v2.2.2.2.1 v2.2.2.2.2 [65, 97] 3) v9.2 v2.2.2.2.2).1)), .imp (List.map (rKV (fun x => iA x)) ((state_State_Copy v2.1 v2.2.1 (state_State_Set v2.1 v2.2.1 (state_State_Set v2.1 v2.2.1 v2.2.2.1 v2.2.2.2.1 v2.2.2.2.2 [65, 97] 2) v2.2.2.2.1 v2.2.2.2.2 [65, 97] 3) v9.2 v2.2.2.2.2).2.1))]] 0 0, .mmp 6, .mmp 7, .msl 3 0 (List.length ((state_State_Copy v2.1 v2.2.1 (state_State_Set v2.1 v2.2.1 (state_State_Set v2.1 v2.2.1 v2.2.2.1 v2.2.2.2.1 v2.2.2.2.2 [65, 97] 2) v2.2.2.2.1 v2.2.2.2.2 [65, 97] 3) v9.2 v2.2.2.2.2).2.2.2.2))]]), some (2, List.map (rKV (fun x => iA x)) ((state_State_Copy v2.1 v2.2.1 (state_State_Set v2.1 v2.2.1 (state_State_Set v2.1 v2.2.1 v2.2.2.1 v2.2.2.2.1 v2.2.2.2.2 [65, 97] 2) v2.2.2.2.1 v2.2.2.2.2 [65, 97] 3) v9.2 v2.2.2.2.2).2.2.1)), some (2, List.map (rKV (fun x => .agg (rFrameVal x))) ((state_State_Copy v2.1 v2.2.1 (state_State_Set v2.1 v2.2.1 (state_State_Set v2.1 v2.2.1 v2.2.2.1 v2.2.2.2.1 v2.2.2.2.2 [65, 97] 2) v2.2.2.2.1 v2.2.2.2.2 [65, 97] 3) v9.2 v2.2.2.2.2).2.2.2.1))]) ⟨[.old 0, .old 1, .old 2, .old 3, .old 4, .old 5, .old 6, .old 7], cv rfl (.mpt rfl) <| ce rfl rfl <| ce rfl rfl <| ce rfl rfl <| ce rfl rfl <| ce rfl rfl <| cv rfl (.mpt rfl) <| ce rfl rfl <| ce rfl rfl <| ce rfl rfl <| ce rfl rfl <| cv rfl (.mpt rfl) <| cn, rfl, ⟨⟨_, rfl, rsOne ⟨ci rfl, .mmp rfl, .mmp rfl, .msl rfl, trivial⟩⟩, ⟨_, rfl, rsMap (fun _ => rfl)⟩, ⟨_, rfl, rsMap (fun _ => rfl)⟩, ⟨_, rfl, rsMap (fun _ => rfl)⟩, ⟨_, rfl, rsOne (ciL rfl)⟩, ⟨_, rfl, rsOne ⟨ci rfl, .mmp rfl, .mmp rfl, .msl rfl, trivial⟩⟩, ⟨_, rfl, rsMap (fun _ => rfl)⟩, ⟨_, rfl, rsMap (fun _ => rfl)⟩, trivial⟩, rfl, Nat.le_of_ble_eq_true rfl⟩ <| r_nil ?_
  obtain ⟨v11, q12, h⟩ := bs h
  refine rg rfl <| u <| mv rfl <| u <| sc [5, 6, 7, 3] (state_State_Get_ok ((state_State_Copy v2.1 v2.2.1 (state_State_Set v2.1 v2.2.1 (state_State_Set v2.1 v2.2.1 v2.2.2.1 v2.2.2.2.1 v2.2.2.2.2 [65, 97] 2) v2.2.2.2.1 v2.2.2.2.2 [65, 97] 3) v9.2 v2.2.2.2.2).1) ((state_State_Copy v2.1 v2.2.1 (state_State_Set v2.1 v2.2.1 (state_State_Set v2.1 v2.2.1 v2.2.2.1 v2.2.2.2.1 v2.2.2.2.2 [65, 97] 2) v2.2.2.2.1 v2.2.2.2.2 [65, 97] 3) v9.2 v2.2.2.2.2).2.1) ((state_State_Copy v2.1 v2.2.1 (state_State_Set v2.1 v2.2.1 (state_State_Set v2.1 v2.2.1 v2.2.2.1 v2.2.2.2.1 v2.2.2.2.2 [65, 97] 2) v2.2.2.2.1 v2.2.2.2.2 [65, 97] 3) v9.2 v2.2.2.2.2).2.2.1) ((state_State_Copy v2.1 v2.2.1 (state_State_Set v2.1 v2.2.1 (state_State_Set v2.1 v2.2.1 v2.2.2.1 v2.2.2.2.1 v2.2.2.2.2 [65, 97] 2) v2.2.2.2.1 v2.2.2.2.2 [65, 97] 3) v9.2 v2.2.2.2.2).2.2.2.1) ((state_State_Copy v2.1 v2.2.1 (state_State_Set v2.1 v2.2.1 (state_State_Set v2.1 v2.2.1 v2.2.2.1 v2.2.2.2.1 v2.2.2.2.2 [65, 97] 2) v2.2.2.2.1 v2.2.2.2.2 [65, 97] 3) v9.2 v2.2.2.2.2).2.2.2.2) [65, 97] [115] q12) rfl rfl rfl rfl ⟨(.mpt rfl), (rnI rfl), (rnI rfl), trivial⟩ ⟨⟨_, rfl, ⟨(rnI rfl), (.mmp rfl), (.mmp rfl), (.msl rfl), trivial⟩⟩, ⟨rfl, mkI (fun _ => rfl)⟩, ⟨rfl, mkI (fun _ => rfl)⟩, ⟨rfl, mkI (fun _ => rfl)⟩, trivial⟩ <| r_can (env0 := [(3, .mpt 0 0 0), (4, sA v3.1), (5, iA v3.2), (6, sA v4.1), (8, sA v5.1), (9, iA v5.2), (10, .mpt 4 0 0), (11, bA v6.2), (13, bA v7.2), (14, bA v8.1), (15, bA v9.1), (70, .tup [.agg (rFrameVal v11.1), bA v11.2])]) (st0 := [some (4, [[.ipt 2 [[.isl 6 (List.map rApiClass v2.1), .imp (List.map (rKV (fun x => iA x)) v2.2.1)]] 0 0, .mmp 1, .mmp 2, .msl 3 0 (List.length ((state_State_Copy v2.1 v2.2.1 (state_State_Set v2.1 v2.2.1 (state_State_Set v2.1 v2.2.1 v2.2.2.1 v2.2.2.2.1 v2.2.2.2.2 [65, 97] 2) v2.2.2.2.1 v2.2.2.2.2 [65, 97] 3) v9.2 v2.2.2.2.2).2.2.2.2))]]), some (2, List.map (rKV (fun x => iA x)) (state_State_Set v2.1 v2.2.1 (state_State_Set v2.1 v2.2.1 v2.2.2.1 v2.2.2.2.1 v2.2.2.2.2 [65, 97] 2) v2.2.2.2.1 v2.2.2.2.2 [65, 97] 3)), some (2, List.map (rKV (fun x => .agg (rFrameVal x))) v10.2), some (1, List.map rStr ((state_State_Copy v2.1 v2.2.1 (state_State_Set v2.1 v2.2.1 (state_State_Set v2.1 v2.2.1 v2.2.2.1 v2.2.2.2.1 v2.2.2.2.2 [65, 97] 2) v2.2.2.2.1 v2.2.2.2.2 [65, 97] 3) v9.2 v2.2.2.2.2).2.2.2.2)), some (2, [(rFrameVal v6.1)])]) ⟨[.old 0, .old 1, .old 2, .old 3, .old 4], cv rfl (.mpt rfl) <| ce rfl rfl <| ce rfl rfl <| ce rfl rfl <| ce rfl rfl <| ce rfl rfl <| cv rfl (.mpt rfl) <| ce rfl rfl <| ce rfl rfl <| ce rfl rfl <| ce rfl rfl <| ce rfl rfl <| cn, rfl, ⟨⟨_, rfl, rsOne ⟨ci rfl, .mmp rfl, .mmp rfl, .msl rfl, trivial⟩⟩, ⟨_, rfl, rsMap (fun _ => rfl)⟩, ⟨_, rfl, rsMap (fun _ => rfl)⟩, ⟨_, rfl, rsMap (fun _ => rfl)⟩, ⟨_, rfl, rsOne (ciL rfl)⟩, trivial⟩, rfl, Nat.le_of_ble_eq_true rfl⟩ <| u <| mv rfl <| u <| ex rfl rfl <| u <| ex rfl rfl <| u <| al 5 ti67 rfl <| u <| sto ti67 rfl rfl rfl <| u <| asg rfl <| r_nil ?_
  refine rg rfl <| u <| pc (law8_Begun_ok rfl) rfl rfl rfl <| u <| mv rfl <| r_and (j := 1) 1 rfl rfl rfl rfl rfl gpn (fun hb13 => g rfl hb13 <| pc (law15_Begun_ok rfl) rfl rfl rfl <| r_nil (egA [75] 1 hb13 rfl rfl rfl rfl)) andF <| u <| mv rfl <| r_and (j := 4) 2 rfl rfl rfl rfl rfl gpn (fun hb14 => g rfl hb14 <| mv rfl <| g rfl hb14 <| seq ti9 rfl rfl <| r_nil (egA [78, 79] 2 hb14 rfl rfl rfl rfl)) andF <| u <| mv rfl <| r_and (j := 8) 2 rfl rfl rfl rfl rfl gpn (fun hb15 => g rfl hb15 <| mv rfl <| g rfl hb15 <| eql ti3 rfl rfl <| r_nil (egA [82, 83] 2 hb15 rfl rfl rfl rfl)) andF <| u <| mv rfl <| r_and (j := 12) 2 rfl rfl rfl rfl rfl gpn (fun hb16 => g rfl hb16 <| mv rfl <| g rfl hb16 <| seq ti9 rfl rfl <| r_nil (egA [86, 87] 2 hb16 rfl rfl rfl rfl)) andF <| u <| mv rfl <| r_and (j := 16) 2 rfl rfl rfl rfl rfl gpn (fun hb17 => g rfl hb17 <| mv rfl <| g rfl hb17 <| seq ti9 rfl rfl <| r_nil (egA [90, 91] 2 hb17 rfl rfl rfl rfl)) andF <| u <| mv rfl <| r_and (j := 20) 2 rfl rfl rfl rfl rfl gpn (fun hb18 => g rfl hb18 <| mv rfl <| g rfl hb18 <| eql ti3 rfl rfl <| r_nil (egA [94, 95] 2 hb18 rfl rfl rfl rfl)) andF <| u <| mv rfl <| r_and (j := 24) 1 rfl rfl rfl rfl rfl gpn (fun hb19 => g rfl hb19 <| mv rfl <| r_nil (egA [98] 1 hb19 rfl rfl rfl rfl)) andF <| u <| mv rfl <| r_and (j := 27) 3 rfl rfl rfl rfl rfl gpn (fun hb20 => g rfl hb20 <| fa ti67 rfl rfl rfl <| g rfl hb20 <| ld ti21 rfl rfl <| g rfl hb20 <| eql ti21 rfl rfl <| r_nil (egA [101, 102, 103] 3 hb20 rfl rfl rfl rfl)) andF <| u <| mv rfl <| r_and (j := 32) 2 rfl rfl rfl rfl rfl gpn (fun hb21 => g rfl hb21 <| mv rfl <| g rfl hb21 <| nt rfl <| r_nil (egA [106, 107] 2 hb21 rfl rfl rfl rfl)) andF <| u <| mv rfl <| r_and (j := 36) 1 rfl rfl rfl rfl rfl gpn (fun hb22 => g rfl hb22 <| mv rfl <| r_nil (egA [110] 1 hb22 rfl rfl rfl rfl)) andF <| u <| mv rfl <| r_and (j := 39) 2 rfl rfl rfl rfl rfl gpn (fun hb23 => g rfl hb23 <| mv rfl <| g rfl hb23 <| nt rfl <| r_nil (egA [113, 114] 2 hb23 rfl rfl rfl rfl)) andF <| u <| mv rfl <| r_and (j := 43) 3 rfl rfl rfl rfl rfl gpn (fun hb24 => g rfl hb24 <| fa ti67 rfl rfl rfl <| g rfl hb24 <| ld ti21 rfl rfl <| g rfl hb24 <| eql ti21 rfl rfl <| r_nil (egA [117, 118, 119] 3 hb24 rfl rfl rfl rfl)) andF <| u <| mv rfl <| r_and (j := 48) 3 rfl rfl rfl rfl rfl gpn (fun hb25 => g rfl hb25 <| mv rfl <| g rfl hb25 <| sc [0, 1, 2, 3] (state_State_At_ok v2.1 v2.2.1 (state_State_Set v2.1 v2.2.1 (state_State_Set v2.1 v2.2.1 v2.2.2.1 v2.2.2.2.1 v2.2.2.2.2 [65, 97] 2) v2.2.2.2.1 v2.2.2.2.2 [65, 97] 3) v10.2 ((state_State_Copy v2.1 v2.2.1 (state_State_Set v2.1 v2.2.1 (state_State_Set v2.1 v2.2.1 v2.2.2.1 v2.2.2.2.1 v2.2.2.2.2 [65, 97] 2) v2.2.2.2.1 v2.2.2.2.2 [65, 97] 3) v9.2 v2.2.2.2.2).2.2.2.2) [79, 98, 106, 101, 99, 116] rfl) rfl rfl rfl rfl ⟨(.mpt rfl), (rnI rfl), trivial⟩ ⟨⟨_, rfl, ⟨(rnI rfl), (.mmp rfl), (.mmp rfl), (.msl rfl), trivial⟩⟩, ⟨rfl, mkI (fun _ => rfl)⟩, ⟨rfl, mkI (fun _ => rfl)⟩, ⟨rfl, mkI (fun _ => rfl)⟩, trivial⟩ <| g rfl hb25 <| eql ti3 rfl rfl <| r_nil (egA [122, 123, 124] 3 hb25 rfl rfl rfl rfl)) andF <| u <| mv rfl <| r_and (j := 53) 3 rfl rfl rfl rfl rfl gpn (fun hb26 => g rfl hb26 <| mv rfl <| g rfl hb26 <| sc [0, 1, 2, 3] (state_State_At_ok v2.1 v2.2.1 (state_State_Set v2.1 v2.2.1 (state_State_Set v2.1 v2.2.1 v2.2.2.1 v2.2.2.2.1 v2.2.2.2.2 [65, 97] 2) v2.2.2.2.1 v2.2.2.2.2 [65, 97] 3) v10.2 ((state_State_Copy v2.1 v2.2.1 (state_State_Set v2.1 v2.2.1 (state_State_Set v2.1 v2.2.1 v2.2.2.1 v2.2.2.2.1 v2.2.2.2.2 [65, 97] 2) v2.2.2.2.1 v2.2.2.2.2 [65, 97] 3) v9.2 v2.2.2.2.2).2.2.2.2) [90, 122] rfl) rfl rfl rfl rfl ⟨(.mpt rfl), (rnI rfl), trivial⟩ ⟨⟨_, rfl, ⟨(rnI rfl), (.mmp rfl), (.mmp rfl), (.msl rfl), trivial⟩⟩, ⟨rfl, mkI (fun _ => rfl)⟩, ⟨rfl, mkI (fun _ => rfl)⟩, ⟨rfl, mkI (fun _ => rfl)⟩, trivial⟩ <| g rfl hb26 <| eql ti3 rfl rfl <| r_nil (egA [127, 128, 129] 3 hb26 rfl rfl rfl rfl)) andF <| u <| asg rfl <| r_nil ?_
  refine sw_ret ?_
  obtain rfl := sm h
  exact ⟨_, rfl, [], ci rfl, rfl, trivial, rfl, Nat.le_of_ble_eq_true rfl⟩
end Go.Proofs.YthmnlfenkhmmhaaGreat
namespace Go.Proofs.YthmnlfenkhmmhaaGreat
set_option linter.unusedSimpArgs false
set_option linter.unusedVariables false
set_option maxRecDepth 100000
set_option maxHeartbeats 4000000
noncomputable def law16_StateChain_k9 (v13 : List ApiClass) (v15 : (List ApiClass) × (List (List UInt8 × Int)) × (List (List UInt8 × Int)) × (List (List UInt8 × FrameVal)) × (List (List UInt8))) (v17 : Int) (v44 : List (List UInt8 × Int)) (v45 : List UInt8) (v46 : Int) : Option (Bool) :=
  (idx v13 v17).bind fun v47 => (state_State_Next v15.1 v15.2.1 v44 v15.2.2.2.1 v15.2.2.2.2 v47.Name).bind fun v48 => some ((v48.1 == v45) && (v48.2 == v46))
noncomputable def law16_StateChain_j7 (v34 : Int) (v41 : List (List UInt8 × Int)) (v42 : List UInt8) (v43 : Int) : Option (Sum ((List (List UInt8 × Int)) × (List UInt8) × Int × Int) (Sum ((List (List UInt8 × Int)) × (List UInt8) × Int) (Bool))) :=
  some (.inl (v41, v42, v43, (IntKind.i64.wrap (v34 + 1))))
noncomputable def law16_StateChain_j6 (v13 : List ApiClass) (v15 : (List ApiClass) × (List (List UInt8 × Int)) × (List (List UInt8 × Int)) × (List (List UInt8 × FrameVal)) × (List (List UInt8))) (v17 : Int) (v31 : List (List UInt8 × Int)) (v32 : List UInt8) (v33 : Int) (v34 : Int) (v38 : Int) : Option (Sum ((List (List UInt8 × Int)) × (List UInt8) × Int × Int) (Sum ((List (List UInt8 × Int)) × (List UInt8) × Int) (Bool))) :=
  (idx v13 v34).bind fun v39 => cond (((decide (v34 ≤ v17)) && (v32 == [])) && ((v38 == (0 : Int)) || (v38 == (3 : Int)))) ((idx v13 v34).bind fun v40 => law16_StateChain_j7 v34 (state_State_Set v15.1 v15.2.1 v31 v15.2.2.2.1 v15.2.2.2.2 v39.Name v38) v40.Name v38) (law16_StateChain_j7 v34 (state_State_Set v15.1 v15.2.1 v31 v15.2.2.2.1 v15.2.2.2.2 v39.Name v38) v32 v33)
noncomputable def law16_StateChain_l8 (v1 : Int) (v2 : List Int) (v13 : List ApiClass) (v15 : (List ApiClass) × (List (List UInt8 × Int)) × (List (List UInt8 × Int)) × (List (List UInt8 × FrameVal)) × (List (List UInt8))) (v17 : Int) (v31 : List (List UInt8 × Int)) (v32 : List UInt8) (v33 : Int) (v34 : Int) : Option (Sum ((List (List UInt8 × Int)) × (List UInt8) × Int × Int) (Sum ((List (List UInt8 × Int)) × (List UInt8) × Int) (Bool))) :=
  cond (decide (v34 < v1)) (cond (decide (v34 < (List.length v2 : Int))) ((idx v2 v34).bind fun v35 => (remP v35 4).bind fun v36 => (remP (IntKind.i64.wrap (v36 + 4)) 4).bind fun v37 => law16_StateChain_j6 v13 v15 v17 v31 v32 v33 v34 v37) (law16_StateChain_j6 v13 v15 v17 v31 v32 v33 v34 0)) (some (.inr (.inl (v31, v32, v33))))
noncomputable def law16_StateChain_k3 (v1 : Int) (v2 : List Int) (v3 : Int) (v13 : List ApiClass) : Option (Bool) :=
  (hier_New v13).bind fun v14 => cond (!(v14.2 == (0 : Int))) (some false) ((state_New v14.1).bind fun v15 => (remP v3 v1).bind fun v16 => (remP (IntKind.i64.wrap (v16 + v1)) v1).bind fun v17 => (loopP (fun z => law16_StateChain_l8 v1 v2 v13 v15 v17 z.1 z.2.1 z.2.2.1 z.2.2.2) (v15.2.2.1, [], 2, 0)).bind fun o => leave o (fun b => law16_StateChain_k9 v13 v15 v17 b.1 b.2.1 b.2.2) some)
noncomputable def law16_StateChain_j1 (v8 : List ApiClass) (v9 : Int) (v11 : List UInt8) : Option (Sum ((List ApiClass) × Int) (Sum ((List ApiClass)) (Bool))) :=
  (appP 112 v8 ([(ApiClass.mk [(67 : UInt8), (tU8 (IntKind.i64.wrap (97 + v9)))] v11 false [] ([(ApiField.mk [120] [73] false)]) ([(ApiMethod.mk [109, 97, 105, 110] [] [86] true false 0 0 ([(ApiIns.mk 46 0 [] [])]) [] [])]))])).bind fun v12 => some (.inl (v12, (IntKind.i64.wrap (v9 + 1))))
noncomputable def law16_StateChain_l2 (v1 : Int) (v8 : List ApiClass) (v9 : Int) : Option (Sum ((List ApiClass) × Int) (Sum ((List ApiClass)) (Bool))) :=
  cond (decide (v9 < v1)) (cond (decide (0 < v9)) ((idx v8 (IntKind.i64.wrap (v9 - 1))).bind fun v10 => law16_StateChain_j1 v8 v9 v10.Name) (law16_StateChain_j1 v8 v9 [79, 98, 106, 101, 99, 116])) (some (.inr (.inl v8)))
noncomputable def law16_StateChain (v1 : Int) (v2 : List Int) (v3 : Int) : Option (Bool) :=
  (law16_begun).bind fun v4 => cond (!v4) (some false) (cond ((decide (v1 < 1)) || (decide (12 < v1))) (some true) ((loopP (fun z => law16_StateChain_l2 v1 z.1 z.2) ([], 0)).bind fun o => leave o (fun b => law16_StateChain_k3 v1 v2 v3 b) some))
theorem law16_StateChain_ok (v1 : Int) (v2 : List Int) (v3 : Int) {r : Bool} (h : law16_StateChain v1 v2 v3 = some r) : PureC Tryz.prog 4 [iA v1, .isl 1 (List.map (rI .i64) v2), iA v3] (bA r) := by
 refine pure_fn Tryz.func4 rfl (by kernel_rfl) rfl rfl ?_
 unfold law16_StateChain at h
 refine rg rfl <| u <| asg rfl <| r_nil ?_
 obtain ⟨v4, q1, h⟩ := bs h
 refine rg rfl <| u <| pc (law16_begun_ok q1) rfl rfl rfl <| u <| asg rfl <| r_nil ?_
 refine sw_seq ?_
 refine rg rfl <| u <| mv rfl <| u <| nt rfl <| r_nil ?_
 refine sw_cond rfl (fun hc2 => ?_) (fun hc2 => ?_)
 ·
  replace h := bT hc2 h
  refine rg rfl <| u <| asg rfl <| r_nil ?_
  refine sw_ret ?_
  obtain rfl := sm h
  exact ⟨_, rfl, [], ci rfl, rfl, trivial, rfl, Nat.le_of_ble_eq_true rfl⟩
 ·
  replace h := bF hc2 h
  refine sw_skip ?_
  refine sw_seq ?_
  refine rg rfl <| u <| mv rfl <| u <| lss ti3 rfl rfl <| u <| mv rfl <| r_or (j := 2) 2 rfl rfl rfl rfl rfl gpn (fun hb3 => g rfl hb3 <| mv rfl <| g rfl hb3 <| gtr ti3 rfl rfl <| r_nil (egO [27, 28] 2 hb3 rfl rfl rfl rfl)) orT <| r_nil ?_
  refine sw_cond rfl (fun hc4 => ?_) (fun hc4 => ?_)
  ·
   replace h := bT hc4 h
   refine rg rfl <| u <| asg rfl <| r_nil ?_
   refine sw_ret ?_
   obtain rfl := sm h
   exact ⟨_, rfl, [], ci rfl, rfl, trivial, rfl, Nat.le_of_ble_eq_true rfl⟩
  ·
   replace h := bF hc4 h
   refine sw_skip ?_
   refine rg rfl <| u <| asg rfl <| r_nil ?_
   refine sw_seq ?_
   refine rg rfl <| u <| asg rfl <| r_nil ?_
   obtain ⟨o, ho, h⟩ := bs h
   refine sw_lpl (X := (List ApiClass) × Int) (B := (List ApiClass)) (R := Bool) (fun z => [(0, iA v1), (1, .isl 1 (List.map (rI .i64) v2)), (2, iA v3), (8, .msl 0 0 (List.length z.1)), (9, iA z.2)]) (fun z => [some (6, List.map rApiClass z.1)]) (fun b => [(0, iA v1), (1, .isl 1 (List.map (rI .i64) v2)), (2, iA v3), (8, .msl 0 0 (List.length b))]) (fun b => [some (6, List.map rApiClass b)]) (fun r env st => PostF Tryz.prog Tryz.f4 0 (bA r) [] env st) ho ⟨[.fresh 6], ce rfl rfl <| ce rfl rfl <| ce rfl rfl <| cv rfl (.nilown rfl) <| ce rfl rfl <| cn, rfl, ⟨⟨rfl, rfl⟩, trivial⟩, rfl, Nat.le_of_ble_eq_true rfl⟩ ?_ ?_ ?_
   ·
    rintro ⟨v8, v9⟩ r h
    replace h : law16_StateChain_l2 v1 v8 v9 = some r := h
    unfold law16_StateChain_l2 at h
    refine sw_seq ?_
    refine rg rfl <| u <| mv rfl <| u <| mv rfl <| u <| lss ti3 rfl rfl <| r_nil ?_
    refine sw_cond rfl (fun hc9 => ?_) (fun hc9 => ?_)
    ·
     replace h := bT hc9 h
     refine sw_skip ?_
     refine sw_seq ?_
     refine sw_block ?_
     refine rg rfl <| u <| mv rfl <| u <| add ti3 rfl rfl <| u <| cv8 ti3 ti5 rfl rfl rfl <| u <| bl 1 ti29 rfl ti5 rfl (by decide) (by decide) rfl rfl rfl <| u <| cvt (l := [(67 : UInt8), (tU8 (IntKind.i64.wrap (97 + v9)))]) ti29 ti9 rfl rfl ti5 rfl rfl (fun _ h => by cases h) (roX (f := byteRow) (z := [(67 : UInt8), (tU8 (IntKind.i64.wrap (97 + v9)))]) rfl rfl) <| u <| sc [] (law5_One_ok [(67 : UInt8), (tU8 (IntKind.i64.wrap (97 + v9)))] rfl) rfl rfl rfl rfl ⟨(rnI rfl), trivial⟩ trivial <| u <| al 5 ti26 rfl <| u <| sto ti26 rfl rfl rfl <| r_nil ?_
     refine sw_meet (X := (List UInt8)) (fun z => [(0, iA v1), (1, .isl 1 (List.map (rI .i64) v2)), (2, iA v3), (8, .msl 0 0 (List.length v8)), (9, iA v9), (10, .mpt 1 0 0)]) (fun z => [some (6, List.map rApiClass v8), some (6, [[sA [(67 : UInt8), (tU8 (IntKind.i64.wrap (97 + v9)))], sA z, bA false, .lit (.slice none 0 0), .msl 2 0 (List.length ([(ApiField.mk [120] [73] false)])), .msl 3 0 (List.length ([(ApiMethod.mk [109, 97, 105, 110] [] [86] true false 0 0 ([(ApiIns.mk 46 0 [] [])]) [] [])]))]]), some (3, List.map rApiField ([(ApiField.mk [120] [73] false)])), some (10, List.map rApiMethod ([(ApiMethod.mk [109, 97, 105, 110] [] [86] true false 0 0 ([(ApiIns.mk 46 0 [] [])]) [] [])]))]) (fun z => law16_StateChain_j1 v8 v9 z = some r) ?_ ?_
     ·
      refine rg rfl <| u <| mv rfl <| u <| gtr ti3 rfl rfl <| r_nil ?_
      refine sw_cond rfl (fun hc10 => ?_) (fun hc10 => ?_)
      ·
       replace h := bT hc10 h
       obtain ⟨v10, q11, h⟩ := bs h
       exact rl rfl <| u <| mv rfl <| u <| mv rfl <| u <| sub ti3 rfl rfl <| u <| ixM ti46 rfl ti26 rfl rfl rfl rfl q11 <| u <| fa ti26 rfl rfl rfl <| u <| ldM ti9 rfl rfl (idx_some q11).2.2 rfl <| u <| fa ti26 rfl rfl rfl <| u <| sto ti9 rfl rfl rfl <| r_nil (⟨v10.Name, h, [.old 0, .old 5, .old 2, .old 3], ce rfl rfl <| ce rfl rfl <| ce rfl rfl <| cv rfl (.msl rfl) <| ce rfl rfl <| cv rfl (.mpt rfl) <| cn, rfl, ⟨⟨_, rfl, rsMap (fun _ => rfl)⟩, ⟨_, rfl, rsOne ⟨ci rfl, ci rfl, ci rfl, ci rfl, .msl rfl, .msl rfl, trivial⟩⟩, ⟨_, rfl, rsRows ⟨⟨(ci rfl), (ci rfl), (ci rfl), trivial⟩, trivial⟩⟩, ⟨_, rfl, rsRows ⟨⟨(ci rfl), (.nil), (ci rfl), (ci rfl), (ci rfl), (ci rfl), (ci rfl), (rsSealX rfl rfl ⟨⟨⟨ci rfl, ci rfl, ci rfl, ci rfl, trivial⟩, rfl⟩, trivial⟩), (.nil), (.nil), trivial⟩, trivial⟩⟩, trivial⟩, rfl, Nat.le_of_ble_eq_true rfl⟩)
      ·
       replace h := bF hc10 h
       refine sw_skip ?_
       exact ⟨[79, 98, 106, 101, 99, 116], h, [.old 0, .old 5, .old 2, .old 3], ce rfl rfl <| ce rfl rfl <| ce rfl rfl <| cv rfl (.msl rfl) <| ce rfl rfl <| cv rfl (.mpt rfl) <| cn, rfl, ⟨⟨_, rfl, rsMap (fun _ => rfl)⟩, ⟨_, rfl, rsOne ⟨ci rfl, ci rfl, ci rfl, ci rfl, .msl rfl, .msl rfl, trivial⟩⟩, ⟨_, rfl, rsRows ⟨⟨(ci rfl), (ci rfl), (ci rfl), trivial⟩, trivial⟩⟩, ⟨_, rfl, rsRows ⟨⟨(ci rfl), (.nil), (ci rfl), (ci rfl), (ci rfl), (ci rfl), (ci rfl), (rsSealX rfl rfl ⟨⟨⟨ci rfl, ci rfl, ci rfl, ci rfl, trivial⟩, rfl⟩, trivial⟩), (.nil), (.nil), trivial⟩, trivial⟩⟩, trivial⟩, rfl, Nat.le_of_ble_eq_true rfl⟩
     ·
      rintro v11 h
      replace h : law16_StateChain_j1 v8 v9 v11 = some r := h
      unfold law16_StateChain_j1 at h
      obtain ⟨v12, q12, h⟩ := bs h
      refine rl rfl <| u <| mv rfl <| u <| ld ti26 rfl rfl <| u <| bl 4 ti46 rfl ti26 rfl (by decide) (by decide) rfl rfl rfl <| r_can (env0 := [(0, iA v1), (1, .isl 1 (List.map (rI .i64) v2)), (2, iA v3), (9, iA v9), (50, .msl 0 0 (List.length v8)), (52, .msl 1 0 (List.length ([(ApiClass.mk [(67 : UInt8), (tU8 (IntKind.i64.wrap (97 + v9)))] v11 false [] ([(ApiField.mk [120] [73] false)]) ([(ApiMethod.mk [109, 97, 105, 110] [] [86] true false 0 0 ([(ApiIns.mk 46 0 [] [])]) [] [])]))])))]) (st0 := [some (6, List.map rApiClass v8), some (6, List.map rApiClass ([(ApiClass.mk [(67 : UInt8), (tU8 (IntKind.i64.wrap (97 + v9)))] v11 false [] ([(ApiField.mk [120] [73] false)]) ([(ApiMethod.mk [109, 97, 105, 110] [] [86] true false 0 0 ([(ApiIns.mk 46 0 [] [])]) [] [])]))]))]) ⟨[.old 0, .old 4], ce rfl rfl <| ce rfl rfl <| ce rfl rfl <| ce rfl rfl <| cv rfl (.msl rfl) <| cv rfl (.msl rfl) <| cn, rfl, ⟨⟨_, rfl, rsMap (fun _ => rfl)⟩, ⟨_, rfl, rsRows ⟨⟨(ci rfl), (ci rfl), (ci rfl), (.nil), (rsSeal rfl rfl (fun _ => rfl)), (rsSeal rfl rfl (fun _ => rfl)), trivial⟩, trivial⟩⟩, trivial⟩, rfl, Nat.le_of_ble_eq_true rfl⟩ <| u <| apM 2 ti46 rfl ti26 rfl rfl (by decide) ti46 rfl rfl rfl rfl (roM rfl) (fun _ => rfl) rfl q12 <| u <| asg rfl <| r_nil ?_
      refine rl rfl <| u <| mv rfl <| u <| add ti3 rfl rfl <| u <| asg rfl <| r_nil ?_
      obtain rfl := sm h
      exact ⟨_, rfl, [.old 2], ce rfl rfl <| ce rfl rfl <| ce rfl rfl <| cv rfl (.msl rfl) <| ce rfl rfl <| cn, rfl, ⟨⟨_, rfl, rsMap (fun _ => rfl)⟩, trivial⟩, rfl, Nat.le_of_ble_eq_true rfl⟩
    ·
     replace h := bF hc9 h
     refine sw_exit ?_
     obtain rfl := sm h
     exact ⟨rfl, _, rfl, [.old 0], ce rfl rfl <| ce rfl rfl <| ce rfl rfl <| cv rfl (.msl rfl) <| cn, rfl, ⟨⟨_, rfl, rsMap (fun _ => rfl)⟩, trivial⟩, rfl, Nat.le_of_ble_eq_true rfl⟩
   ·
    rintro v13 rfl
    replace h : law16_StateChain_k3 v1 v2 v3 v13 = some r := h
    unfold law16_StateChain_k3 at h
    refine ow_intro ?_
    obtain ⟨v14, q13, h⟩ := bs h
    refine rg rfl <| u <| mv rfl <| r_can (env0 := [(0, iA v1), (1, .isl 1 (List.map (rI .i64) v2)), (2, iA v3), (8, .isl 6 (List.map rApiClass v13)), (55, .isl 6 (List.map rApiClass v13))]) (st0 := []) ⟨[], ce rfl rfl <| ce rfl rfl <| ce rfl rfl <| cv rfl (rsSeal rfl rfl (fun _ => rfl)) <| cv rfl (rsSeal rfl rfl (fun _ => rfl)) <| cn, rfl, trivial, rfl, Nat.le_of_ble_eq_true rfl⟩ <| u <| pc (hier_New_ok v13 q13) rfl rfl rfl <| u <| mv rfl <| u <| ex rfl rfl <| u <| ex rfl rfl <| u <| asg rfl <| u <| asg rfl <| r_nil ?_
    refine sw_seq ?_
    refine rg rfl <| u <| mv rfl <| u <| neq ti31 rfl rfl <| r_nil ?_
    refine sw_cond rfl (fun hc14 => ?_) (fun hc14 => ?_)
    ·
     replace h := bT hc14 h
     refine rg rfl <| u <| asg rfl <| r_nil ?_
     refine sw_ret ?_
     obtain rfl := sm h
     exact ⟨_, rfl, [], ci rfl, rfl, trivial, rfl, Nat.le_of_ble_eq_true rfl⟩
    ·
     replace h := bF hc14 h
     refine sw_skip ?_
     obtain ⟨v15, q15, h⟩ := bs h
     refine rg rfl <| u <| mv rfl <| u <| sc [] (state_New_ok v14.1 q15) rfl rfl rfl rfl ⟨(rnI (immP (fun _ => rfl))), trivial⟩ trivial <| r_can (env0 := [(0, iA v1), (1, .isl 1 (List.map (rI .i64) v2)), (2, iA v3), (8, .isl 6 (List.map rApiClass v13)), (62, .mpt 0 0 0)]) (st0 := [some (4, [[.ipt 2 [[.isl 6 (List.map rApiClass v15.1), .imp (List.map (rKV (fun x => iA x)) v15.2.1)]] 0 0, .mmp 1, .mmp 2, .msl 3 0 (List.length v15.2.2.2.2)]]), some (2, List.map (rKV (fun x => iA x)) v15.2.2.1), some (2, List.map (rKV (fun x => .agg (rFrameVal x))) v15.2.2.2.1), some (1, List.map rStr v15.2.2.2.2)]) ⟨[.old 0, .old 1, .old 2, .old 3], ce rfl rfl <| ce rfl rfl <| ce rfl rfl <| ce rfl rfl <| cv rfl (.mpt rfl) <| cn, rfl, ⟨⟨_, rfl, rsOne ⟨ci rfl, .mmp rfl, .mmp rfl, .msl rfl, trivial⟩⟩, ⟨_, rfl, rsMap (fun _ => rfl)⟩, ⟨_, rfl, rsMap (fun _ => rfl)⟩, ⟨_, rfl, rsMap (fun _ => rfl)⟩, trivial⟩, rfl, Nat.le_of_ble_eq_true rfl⟩ <| u <| asg rfl <| r_nil ?_
     obtain ⟨v16, q16, h⟩ := bs h
     obtain ⟨v17, q17, h⟩ := bs h
     refine rg rfl <| u <| mv rfl <| u <| mv rfl <| u <| rem ti3 rfl rfl q16 <| u <| mv rfl <| u <| add ti3 rfl rfl <| u <| mv rfl <| u <| rem ti3 rfl rfl q17 <| u <| asg rfl <| r_nil ?_
     refine rg rfl <| u <| asg rfl <| u <| asg rfl <| r_nil ?_
     refine sw_seq ?_
     refine rg rfl <| u <| asg rfl <| r_nil ?_
     obtain ⟨o, ho, h⟩ := bs h
     refine sw_lpl (X := (List (List UInt8 × Int)) × (List UInt8) × Int × Int) (B := (List (List UInt8 × Int)) × (List UInt8) × Int) (R := Bool) (fun z => [(0, iA v1), (1, .isl 1 (List.map (rI .i64) v2)), (8, .isl 6 (List.map rApiClass v13)), (13, .mpt 0 0 0), (14, iA v17), (15, sA z.2.1), (16, iA z.2.2.1), (17, iA z.2.2.2)]) (fun z => [some (4, [[.ipt 2 [[.isl 6 (List.map rApiClass v15.1), .imp (List.map (rKV (fun x => iA x)) v15.2.1)]] 0 0, .mmp 1, .mmp 2, .msl 3 0 (List.length v15.2.2.2.2)]]), some (2, List.map (rKV (fun x => iA x)) z.1), some (2, List.map (rKV (fun x => .agg (rFrameVal x))) v15.2.2.2.1), some (1, List.map rStr v15.2.2.2.2)]) (fun b => [(8, .isl 6 (List.map rApiClass v13)), (13, .mpt 0 0 0), (14, iA v17), (15, sA b.2.1), (16, iA b.2.2)]) (fun b => [some (4, [[.ipt 2 [[.isl 6 (List.map rApiClass v15.1), .imp (List.map (rKV (fun x => iA x)) v15.2.1)]] 0 0, .mmp 1, .mmp 2, .msl 3 0 (List.length v15.2.2.2.2)]]), some (2, List.map (rKV (fun x => iA x)) b.1), some (2, List.map (rKV (fun x => .agg (rFrameVal x))) v15.2.2.2.1), some (1, List.map rStr v15.2.2.2.2)]) (fun r env st => PostF Tryz.prog Tryz.f4 0 (bA r) [] env st) ho ⟨[.old 0, .old 1, .old 2, .old 3], ce rfl rfl <| ce rfl rfl <| ce rfl rfl <| cv rfl (.mpt rfl) <| ce rfl rfl <| ce rfl rfl <| ce rfl rfl <| ce rfl rfl <| cn, rfl, ⟨⟨_, rfl, rsOne ⟨ci rfl, .mmp rfl, .mmp rfl, .msl rfl, trivial⟩⟩, ⟨_, rfl, rsMap (fun _ => rfl)⟩, ⟨_, rfl, rsMap (fun _ => rfl)⟩, ⟨_, rfl, rsMap (fun _ => rfl)⟩, trivial⟩, rfl, Nat.le_of_ble_eq_true rfl⟩ ?_ ?_ ?_
     ·
      rintro ⟨v31, v32, v33, v34⟩ r h
      replace h : law16_StateChain_l8 v1 v2 v13 v15 v17 v31 v32 v33 v34 = some r := h
      unfold law16_StateChain_l8 at h
      refine sw_seq ?_
      refine rg rfl <| u <| mv rfl <| u <| mv rfl <| u <| lss ti3 rfl rfl <| r_nil ?_
      refine sw_cond rfl (fun hc29 => ?_) (fun hc29 => ?_)
      ·
       replace h := bT hc29 h
       refine sw_skip ?_
       refine sw_meet (X := (List (List UInt8 × Int)) × (List UInt8) × Int) (fun z => [(0, iA v1), (1, .isl 1 (List.map (rI .i64) v2)), (8, .isl 6 (List.map rApiClass v13)), (13, .mpt 0 0 0), (14, iA v17), (15, sA z.2.1), (16, iA z.2.2), (17, iA v34)]) (fun z => [some (4, [[.ipt 2 [[.isl 6 (List.map rApiClass v15.1), .imp (List.map (rKV (fun x => iA x)) v15.2.1)]] 0 0, .mmp 1, .mmp 2, .msl 3 0 (List.length v15.2.2.2.2)]]), some (2, List.map (rKV (fun x => iA x)) z.1), some (2, List.map (rKV (fun x => .agg (rFrameVal x))) v15.2.2.2.1), some (1, List.map rStr v15.2.2.2.2)]) (fun z => law16_StateChain_j7 v34 z.1 z.2.1 z.2.2 = some r) ?_ ?_
       ·
        refine sw_block ?_
        refine rg rfl <| u <| asg rfl <| r_nil ?_
        refine sw_meet (X := Int) (fun z => [(0, iA v1), (1, .isl 1 (List.map (rI .i64) v2)), (8, .isl 6 (List.map rApiClass v13)), (13, .mpt 0 0 0), (14, iA v17), (15, sA v32), (16, iA v33), (17, iA v34), (18, iA z)]) (fun z => [some (4, [[.ipt 2 [[.isl 6 (List.map rApiClass v15.1), .imp (List.map (rKV (fun x => iA x)) v15.2.1)]] 0 0, .mmp 1, .mmp 2, .msl 3 0 (List.length v15.2.2.2.2)]]), some (2, List.map (rKV (fun x => iA x)) v31), some (2, List.map (rKV (fun x => .agg (rFrameVal x))) v15.2.2.2.1), some (1, List.map rStr v15.2.2.2.2)]) (fun z => law16_StateChain_j6 v13 v15 v17 v31 v32 v33 v34 z = some r) ?_ ?_
        ·
         refine rg rfl <| u <| mv rfl <| u <| mv rfl <| u <| lnI ti45 rfl rfl <| u <| lss ti3 rfl rfl <| r_nil ?_
         refine sw_cond rfl (fun hc30 => ?_) (fun hc30 => ?_)
         ·
          replace h := bT hc30 h
          obtain ⟨v35, q31, h⟩ := bs h
          obtain ⟨v36, q32, h⟩ := bs h
          obtain ⟨v37, q33, h⟩ := bs h
          exact rl rfl <| u <| mv rfl <| u <| mv rfl <| u <| ixI ti45 rfl ti3 rfl rfl rfl q31 <| u <| ldI ti3 rfl (idx_some q31).2.2 rfl <| u <| rem ti3 rfl rfl q32 <| u <| add ti3 rfl rfl <| u <| rem ti3 rfl rfl q33 <| u <| asg rfl <| r_nil (⟨v37, h, [.old 0, .old 1, .old 2, .old 3], ce rfl rfl <| ce rfl rfl <| ce rfl rfl <| cv rfl (.mpt rfl) <| ce rfl rfl <| ce rfl rfl <| ce rfl rfl <| ce rfl rfl <| ce rfl rfl <| cn, rfl, ⟨⟨_, rfl, rsOne ⟨ci rfl, .mmp rfl, .mmp rfl, .msl rfl, trivial⟩⟩, ⟨_, rfl, rsMap (fun _ => rfl)⟩, ⟨_, rfl, rsMap (fun _ => rfl)⟩, ⟨_, rfl, rsMap (fun _ => rfl)⟩, trivial⟩, rfl, Nat.le_of_ble_eq_true rfl⟩)
         ·
          replace h := bF hc30 h
          refine sw_skip ?_
          exact ⟨0, h, [.old 0, .old 1, .old 2, .old 3], ce rfl rfl <| ce rfl rfl <| ce rfl rfl <| cv rfl (.mpt rfl) <| ce rfl rfl <| ce rfl rfl <| ce rfl rfl <| ce rfl rfl <| ce rfl rfl <| cn, rfl, ⟨⟨_, rfl, rsOne ⟨ci rfl, .mmp rfl, .mmp rfl, .msl rfl, trivial⟩⟩, ⟨_, rfl, rsMap (fun _ => rfl)⟩, ⟨_, rfl, rsMap (fun _ => rfl)⟩, ⟨_, rfl, rsMap (fun _ => rfl)⟩, trivial⟩, rfl, Nat.le_of_ble_eq_true rfl⟩
        ·
         rintro v38 h
         replace h : law16_StateChain_j6 v13 v15 v17 v31 v32 v33 v34 v38 = some r := h
         unfold law16_StateChain_j6 at h
         obtain ⟨v39, q34, h⟩ := bs h
         refine rg rfl <| u <| mv rfl <| u <| mv rfl <| u <| mv rfl <| u <| ixI ti46 rfl ti26 rfl rfl rfl q34 <| u <| fa ti26 rfl rfl rfl <| u <| ldI ti9 rfl (idx_some q34).2.2 rfl <| u <| mv rfl <| u <| sc [0, 1, 2, 3] (state_State_Set_ok v15.1 v15.2.1 v31 v15.2.2.2.1 v15.2.2.2.2 v39.Name v38 rfl) rfl rfl rfl rfl ⟨(.mpt rfl), (rnI rfl), (rnI rfl), trivial⟩ ⟨⟨_, rfl, ⟨(rnI rfl), (.mmp rfl), (.mmp rfl), (.msl rfl), trivial⟩⟩, ⟨rfl, mkI (fun _ => rfl)⟩, ⟨rfl, mkI (fun _ => rfl)⟩, ⟨rfl, mkI (fun _ => rfl)⟩, trivial⟩ <| r_can (env0 := [(0, iA v1), (1, .isl 1 (List.map (rI .i64) v2)), (8, .isl 6 (List.map rApiClass v13)), (13, .mpt 0 0 0), (14, iA v17), (15, sA v32), (16, iA v33), (17, iA v34), (18, iA v38)]) (st0 := [some (4, [[.ipt 2 [[.isl 6 (List.map rApiClass v15.1), .imp (List.map (rKV (fun x => iA x)) v15.2.1)]] 0 0, .mmp 1, .mmp 2, .msl 3 0 (List.length v15.2.2.2.2)]]), some (2, List.map (rKV (fun x => iA x)) (state_State_Set v15.1 v15.2.1 v31 v15.2.2.2.1 v15.2.2.2.2 v39.Name v38)), some (2, List.map (rKV (fun x => .agg (rFrameVal x))) v15.2.2.2.1), some (1, List.map rStr v15.2.2.2.2)]) ⟨[.old 0, .old 1, .old 2, .old 3], ce rfl rfl <| ce rfl rfl <| ce rfl rfl <| cv rfl (.mpt rfl) <| ce rfl rfl <| ce rfl rfl <| ce rfl rfl <| ce rfl rfl <| ce rfl rfl <| cn, rfl, ⟨⟨_, rfl, rsOne ⟨ci rfl, .mmp rfl, .mmp rfl, .msl rfl, trivial⟩⟩, ⟨_, rfl, rsMap (fun _ => rfl)⟩, ⟨_, rfl, rsMap (fun _ => rfl)⟩, ⟨_, rfl, rsMap (fun _ => rfl)⟩, trivial⟩, rfl, Nat.le_of_ble_eq_true rfl⟩ <| r_nil ?_
         refine rg rfl <| u <| mv rfl <| u <| mv rfl <| u <| leq ti3 rfl rfl <| u <| mv rfl <| r_and (j := 3) 2 rfl rfl rfl rfl rfl gpn (fun hb35 => g rfl hb35 <| mv rfl <| g rfl hb35 <| seq ti9 rfl rfl <| r_nil (egA [98, 99] 2 hb35 rfl rfl rfl rfl)) andF <| u <| mv rfl <| r_and (j := 7) 6 rfl rfl rfl rfl rfl gpn (fun hb36 => g rfl hb36 <| mv rfl <| g rfl hb36 <| eql ti3 rfl rfl <| g rfl hb36 <| mv rfl <| r_or (j := 10) 2 rfl rfl rfl rfl rfl (gps rfl rfl hb36) (fun hb37 => g rfl hb37 <| mv rfl <| g rfl hb37 <| eql ti3 rfl rfl <| r_nil (egO [105, 106] 2 hb37 rfl rfl rfl rfl)) orT <| r_nil (egA [102, 103, 104, 105, 106, 107] 4 hb36 rfl rfl rfl rfl)) andF <| r_nil ?_
         refine sw_cond rfl (fun hc38 => ?_) (fun hc38 => ?_)
         ·
          replace h := bT hc38 h
          obtain ⟨v40, q39, h⟩ := bs h
          exact rl rfl <| u <| mv rfl <| u <| mv rfl <| u <| ixI ti46 rfl ti26 rfl rfl rfl q39 <| u <| fa ti26 rfl rfl rfl <| u <| ldI ti9 rfl (idx_some q39).2.2 rfl <| u <| mv rfl <| u <| asg rfl <| u <| asg rfl <| r_nil (⟨⟨(state_State_Set v15.1 v15.2.1 v31 v15.2.2.2.1 v15.2.2.2.2 v39.Name v38), v40.Name, v38⟩, h, [.old 0, .old 1, .old 2, .old 3], ce rfl rfl <| ce rfl rfl <| ce rfl rfl <| cv rfl (.mpt rfl) <| ce rfl rfl <| ce rfl rfl <| ce rfl rfl <| ce rfl rfl <| cn, rfl, ⟨⟨_, rfl, rsOne ⟨ci rfl, .mmp rfl, .mmp rfl, .msl rfl, trivial⟩⟩, ⟨_, rfl, rsMap (fun _ => rfl)⟩, ⟨_, rfl, rsMap (fun _ => rfl)⟩, ⟨_, rfl, rsMap (fun _ => rfl)⟩, trivial⟩, rfl, Nat.le_of_ble_eq_true rfl⟩)
         ·
          replace h := bF hc38 h
          refine sw_skip ?_
          exact ⟨⟨(state_State_Set v15.1 v15.2.1 v31 v15.2.2.2.1 v15.2.2.2.2 v39.Name v38), v32, v33⟩, h, [.old 0, .old 1, .old 2, .old 3], ce rfl rfl <| ce rfl rfl <| ce rfl rfl <| cv rfl (.mpt rfl) <| ce rfl rfl <| ce rfl rfl <| ce rfl rfl <| ce rfl rfl <| cn, rfl, ⟨⟨_, rfl, rsOne ⟨ci rfl, .mmp rfl, .mmp rfl, .msl rfl, trivial⟩⟩, ⟨_, rfl, rsMap (fun _ => rfl)⟩, ⟨_, rfl, rsMap (fun _ => rfl)⟩, ⟨_, rfl, rsMap (fun _ => rfl)⟩, trivial⟩, rfl, Nat.le_of_ble_eq_true rfl⟩
       ·
        rintro ⟨v41, v42, v43⟩ h
        replace h : law16_StateChain_j7 v34 v41 v42 v43 = some r := h
        unfold law16_StateChain_j7 at h
        refine rl rfl <| u <| mv rfl <| u <| add ti3 rfl rfl <| u <| asg rfl <| r_nil ?_
        obtain rfl := sm h
        exact ⟨_, rfl, [.old 0, .old 1, .old 2, .old 3], ce rfl rfl <| ce rfl rfl <| ce rfl rfl <| cv rfl (.mpt rfl) <| ce rfl rfl <| ce rfl rfl <| ce rfl rfl <| ce rfl rfl <| cn, rfl, ⟨⟨_, rfl, rsOne ⟨ci rfl, .mmp rfl, .mmp rfl, .msl rfl, trivial⟩⟩, ⟨_, rfl, rsMap (fun _ => rfl)⟩, ⟨_, rfl, rsMap (fun _ => rfl)⟩, ⟨_, rfl, rsMap (fun _ => rfl)⟩, trivial⟩, rfl, Nat.le_of_ble_eq_true rfl⟩
      ·
       replace h := bF hc29 h
       refine sw_exit ?_
       obtain rfl := sm h
       exact ⟨rfl, _, rfl, [.old 0, .old 1, .old 2, .old 3], ce rfl rfl <| cv rfl (.mpt rfl) <| ce rfl rfl <| ce rfl rfl <| ce rfl rfl <| cn, rfl, ⟨⟨_, rfl, rsOne ⟨ci rfl, .mmp rfl, .mmp rfl, .msl rfl, trivial⟩⟩, ⟨_, rfl, rsMap (fun _ => rfl)⟩, ⟨_, rfl, rsMap (fun _ => rfl)⟩, ⟨_, rfl, rsMap (fun _ => rfl)⟩, trivial⟩, rfl, Nat.le_of_ble_eq_true rfl⟩
     ·
      rintro ⟨v44, v45, v46⟩ rfl
      replace h : law16_StateChain_k9 v13 v15 v17 v44 v45 v46 = some r := h
      unfold law16_StateChain_k9 at h
      refine ow_intro ?_
      obtain ⟨v47, q40, h⟩ := bs h
      obtain ⟨v48, q41, h⟩ := bs h
      refine rg rfl <| u <| mv rfl <| u <| mv rfl <| u <| mv rfl <| u <| ixI ti46 rfl ti26 rfl rfl rfl q40 <| u <| fa ti26 rfl rfl rfl <| u <| ldI ti9 rfl (idx_some q40).2.2 rfl <| u <| sc [0, 1, 2, 3] (state_State_Next_ok v15.1 v15.2.1 v44 v15.2.2.2.1 v15.2.2.2.2 v47.Name q41) rfl rfl rfl rfl ⟨(.mpt rfl), (rnI rfl), trivial⟩ ⟨⟨_, rfl, ⟨(rnI rfl), (.mmp rfl), (.mmp rfl), (.msl rfl), trivial⟩⟩, ⟨rfl, mkI (fun _ => rfl)⟩, ⟨rfl, mkI (fun _ => rfl)⟩, ⟨rfl, mkI (fun _ => rfl)⟩, trivial⟩ <| r_can (env0 := [(15, sA v45), (16, iA v46), (122, .tup [sA v48.1, iA v48.2])]) (st0 := []) ⟨[], ce rfl rfl <| ce rfl rfl <| ce rfl rfl <| cn, rfl, trivial, rfl, Nat.le_of_ble_eq_true rfl⟩ <| u <| mv rfl <| u <| ex rfl rfl <| u <| ex rfl rfl <| u <| asg rfl <| u <| asg rfl <| r_nil ?_
      refine rg rfl <| u <| mv rfl <| u <| mv rfl <| u <| seq ti9 rfl rfl <| u <| mv rfl <| r_and (j := 3) 3 rfl rfl rfl rfl rfl gpn (fun hb42 => g rfl hb42 <| mv rfl <| g rfl hb42 <| mv rfl <| g rfl hb42 <| eql ti3 rfl rfl <| r_nil (egA [129, 130, 131] 3 hb42 rfl rfl rfl rfl)) andF <| u <| asg rfl <| r_nil ?_
      refine sw_ret ?_
      obtain rfl := sm h
      exact ⟨_, rfl, [], ci rfl, rfl, trivial, rfl, Nat.le_of_ble_eq_true rfl⟩
     ·
      rintro r' rfl env st hp
      obtain rfl := sm h
      exact hp
   ·
    rintro r' rfl env st hp
    obtain rfl := sm h
    exact hp
end Go.Proofs.YthmnlfenkhmmhaaGreat
namespace Go.Proofs.YthmnlfenkhmmhaaGreat
set_option linter.unusedSimpArgs false
set_option linter.unusedVariables false
theorem idx_nat {α : Type} (l : List α) (i : Nat) : idx l (i : Int) = l[i]? := by
  unfold idx
  rw [if_pos (by omega), Int.toNat_natCast]
theorem wrapI {n : Int} (h1 : -9223372036854775808 ≤ n) (h2 : n ≤ 9223372036854775807) : IntKind.i64.wrap n = n := IntWalk.i64_in n ⟨h1, h2⟩
end Go.Proofs.YthmnlfenkhmmhaaGreat
namespace Go.Proofs.YthmnlfenkhmmhaaGreat
def zig (n : Int) : Nat := if n < 0 then (-2 * n - 1).toNat else (2 * n).toNat
def putF : Nat → Nat → List UInt8
  | 0, _ => []
  | k + 1, u => if 127 < u then UInt8.ofNat (u % 128 + 128) :: putF k (u / 128) else [UInt8.ofNat u]
def put (n : Int) : List UInt8 := putF 10 (zig n)
end Go.Proofs.YthmnlfenkhmmhaaGreat
namespace Go.Proofs.YthmnlfenkhmmhaaGreat
set_option linter.unusedSimpArgs false
set_option linter.unusedVariables false
def ixF {α : Type} (p : α → Bool) : Nat → List α → Int
  | _, [] => -1
  | k, x :: r => cond (p x) (k : Int) (ixF p (k + 1) r)
end Go.Proofs.YthmnlfenkhmmhaaGreat
namespace Go.Proofs.YthmnlfenkhmmhaaGreat
set_option linter.unusedSimpArgs false
set_option linter.unusedVariables false
abbrev Tx := List UInt8
def cl (L : List ApiClass) (n : Tx) : Option ApiClass := L.find? (fun c => c.Name == n)
def atN (L : List ApiClass) (n : Tx) : Int := ixF (fun c => c.Name == n) 0 L
def hasN (L : List ApiClass) (n : Tx) : Bool := L.any (fun c => c.Name == n)
theorem ixF_get {α : Type} (p : α → Bool) : ∀ (l : List α) (k : Nat), (∃ j x, ixF p k l = ((k + j : Nat) : Int) ∧ l[j]? = some x ∧ p x = true ∧ l.find? p = some x) ∨ (ixF p k l = -1 ∧ l.find? p = none)
  | [], k => .inr ⟨rfl, rfl⟩
  | y :: r, k => by
    unfold ixF
    cases h : p y with
    | true => exact .inl ⟨0, y, rfl, rfl, h, by simp [List.find?, h]⟩
    | false =>
      rcases ixF_get p r (k + 1) with ⟨j, x, h1, h2, h3, h4⟩ | ⟨h1, h2⟩
      · exact .inl ⟨j + 1, x, by show ixF p (k + 1) r = _; rw [h1]; congr 1; omega, by simpa using h2, h3, by simp [List.find?, h, h4]⟩
      · exact .inr ⟨h1, by simp [List.find?, h, h2]⟩
theorem idx_at (L : List ApiClass) (n : Tx) : idx L (atN L n) = cl L n := by
  unfold atN cl
  rcases ixF_get (fun c : ApiClass => c.Name == n) L 0 with ⟨j, x, h1, h2, h3, h4⟩ | ⟨h1, h2⟩
  · rw [h1, h4, idx_nat, Nat.zero_add, h2]
  · rw [h1, h2]; rfl
def Nd (L : List ApiClass) : Prop := ∀ (i j : Nat) (c d : ApiClass), L[i]? = some c → L[j]? = some d → c.Name = d.Name → i = j
theorem Nd.at {L : List ApiClass} (h : Nd L) {i : Nat} {c : ApiClass} (hi : L[i]? = some c) : atN L c.Name = (i : Int) := by
  unfold atN
  rcases ixF_get (fun d : ApiClass => d.Name == c.Name) L 0 with ⟨j, x, h1, h2, h3, h4⟩ | ⟨h1, h2⟩
  · rw [h1, Nat.zero_add, h j i x c h2 hi (eq_of_beq h3)]
  · have := List.find?_eq_none.1 h2 c (List.mem_of_getElem? hi)
    simp at this
theorem Nd.cl {L : List ApiClass} (h : Nd L) {c : ApiClass} (hc : c ∈ L) : cl L c.Name = some c := by
  obtain ⟨i, hi, e⟩ := List.getElem_of_mem hc
  have hi' : L[i]? = some c := by rw [List.getElem?_eq_getElem hi, e]
  rw [← idx_at, h.at hi', idx_nat, hi']
theorem mapGet_put {α : Type} (k k' : Tx) (x : α) : ∀ (m : List (Tx × α)), mapGet k (mapPut k' x m) = if k = k' then some x else mapGet k m
  | [] => by
    unfold mapPut mapGet mapGet
    by_cases h : k = k'
    · rw [if_pos h, decide_eq_true h]; rfl
    · rw [if_neg h, decide_eq_false h]; rfl
  | (a, y) :: r => by
    unfold mapPut
    by_cases h' : k' = a
    · subst h'
      rw [decide_eq_true rfl]
      show mapGet k ((k', x) :: r) = _
      unfold mapGet
      by_cases h : k = k'
      · rw [if_pos h, decide_eq_true h]; rfl
      · rw [if_neg h, decide_eq_false h]; rfl
    · rw [decide_eq_false h']
      show mapGet k ((a, y) :: mapPut k' x r) = _
      unfold mapGet
      rw [mapGet_put k k' x r]
      by_cases h : k = k'
      · subst h
        rw [if_pos rfl, decide_eq_false h', if_pos rfl]; rfl
      · rw [if_neg h, if_neg h]
def MapOk (L : List ApiClass) (m : List (Tx × Int)) : Prop := ∀ n, mapGet n m = cond (hasN L n) (some (atN L n)) none
theorem MapOk.has {L : List ApiClass} {m : List (Tx × Int)} (h : MapOk L m) (n : Tx) : (mapGet n m).isSome = hasN L n := by
  rw [h n]; cases hasN L n <;> rfl
theorem MapOk.idx {L : List ApiClass} {m : List (Tx × Int)} (h : MapOk L m) {n : Tx} (hn : hasN L n = true) : idx L ((mapGet n m).getD 0) = cl L n := by
  rw [h n, hn]; exact idx_at L n
theorem pigeon : ∀ {a b : List Tx}, a.Nodup → (∀ x ∈ a, x ∈ b) → a.length ≤ b.length
  | [], b, _, _ => by simp
  | x :: r, b, h, hs => by
    rw [List.nodup_cons] at h
    have hx := hs x (by simp)
    have h1 := pigeon (a := r) (b := b.erase x) h.2 (fun y hy => (List.mem_erase_of_ne (fun e => h.1 (by rw [← e]; exact hy))).2 (hs y (by simp [hy])))
    have h2 := List.length_erase_of_mem hx
    have h3 := List.length_pos_of_mem hx
    simp only [List.length_cons]
    omega
def push (seen : List Tx) : List Tx → List Tx
  | [] => seen
  | s :: r => push (cond (seen.any fun y => s == y) seen (seen ++ [s])) r
theorem any_mem {s : Tx} {l : List Tx} : (l.any fun y => s == y) = true ↔ s ∈ l := by
  rw [List.any_eq_true]
  constructor
  · rintro ⟨y, h1, h2⟩; rw [eq_of_beq h2]; exact h1
  · intro h; exact ⟨s, h, beq_self_eq_true _⟩
theorem push_app : ∀ (l seen : List Tx), ∃ t, push seen l = seen ++ t ∧ t.Nodup ∧ (∀ x ∈ t, x ∉ seen ∧ x ∈ l) ∧ ∀ x ∈ l, x ∈ seen ++ t
  | [], seen => ⟨[], by simp [push], by simp, fun x h => (by cases h), fun x h => (by cases h)⟩
  | s :: r, seen => by
    unfold push
    cases h : (seen.any fun y => s == y) with
    | true =>
      obtain ⟨t, h1, h2, h3, h4⟩ := push_app r seen
      refine ⟨t, h1, h2, fun x hx => ⟨(h3 x hx).1, List.mem_cons_of_mem _ (h3 x hx).2⟩, fun x hx => ?_⟩
      rcases List.mem_cons.1 hx with e | e
      · rw [e]; exact List.mem_append_left _ (any_mem.1 h)
      · exact h4 x e
    | false =>
      have hs : s ∉ seen := fun hm => by rw [any_mem.2 hm] at h; cases h
      obtain ⟨t, h1, h2, h3, h4⟩ := push_app r (seen ++ [s])
      refine ⟨s :: t, by show push (seen ++ [s]) r = _; rw [h1]; simp, List.nodup_cons.2 ⟨fun hm => (h3 s hm).1 (by simp), h2⟩, fun x hx => ?_, fun x hx => ?_⟩
      · rcases List.mem_cons.1 hx with e | e
        · rw [e]; exact ⟨hs, by simp⟩
        · exact ⟨fun hm => (h3 x e).1 (List.mem_append_left _ hm), List.mem_cons_of_mem _ (h3 x e).2⟩
      · rcases List.mem_cons.1 hx with e | e
        · rw [e]; simp
        · have := h4 x e
          simpa using this
def fin (nx : Tx → List Tx) : Nat → Nat → List Tx → Bool
  | 0, i, seen => decide (seen.length ≤ i)
  | d + 1, i, seen => match seen[i]? with | none => true | some x => fin nx d (i + 1) (push seen (nx x))
def Inv (U s0 seen : List Tx) : Prop := ∃ T, seen = s0 ++ T ∧ T.Nodup ∧ (∀ x ∈ T, x ∈ U) 
theorem Inv.push {U s0 seen l : List Tx} (h : Inv U s0 seen) (hU : ∀ y ∈ l, y ∈ U) : Inv U s0 (push seen l) := by
  obtain ⟨T, h1, h2, h3⟩ := h
  obtain ⟨t, k1, k2, k3, k4⟩ := push_app l seen
  refine ⟨T ++ t, by rw [k1, h1]; simp, List.nodup_append.2 ⟨h2, k2, fun a ha b hb e => (k3 b hb).1 (by rw [h1, ← e]; exact List.mem_append_right _ ha)⟩, fun x hx => ?_⟩
  rcases List.mem_append.1 hx with e | e
  · exact h3 x e
  · exact hU x (k3 x e).2
theorem Inv.len {U s0 seen : List Tx} (h : Inv U s0 seen) : seen.length ≤ s0.length + U.length := by
  obtain ⟨T, h1, h2, h3⟩ := h
  have := pigeon h2 h3
  rw [h1, List.length_append]; omega
theorem Inv.mem {U s0 seen : List Tx} (h : Inv U s0 seen) (h0 : ∀ x ∈ s0, x ∈ U) : ∀ x ∈ seen, x ∈ U := by
  obtain ⟨T, h1, h2, h3⟩ := h
  intro x hx
  rw [h1] at hx
  rcases List.mem_append.1 hx with e | e
  · exact h0 x e
  · exact h3 x e
end Go.Proofs.YthmnlfenkhmmhaaGreat
namespace Go.Proofs.YthmnlfenkhmmhaaGreat
set_option linter.unusedSimpArgs false
set_option linter.unusedVariables false
theorem law16_begun_eq : law16_begun = some true := by kernel_rfl
end Go.Proofs.YthmnlfenkhmmhaaGreat
namespace Go.Proofs.YthmnlfenkhmmhaaGreat
set_option linter.unusedSimpArgs false
set_option linter.unusedVariables false
def nmC (j : Nat) : List UInt8 := [67, UInt8.ofNat (97 + j)]
noncomputable def chC (n : Int) : Option (List ApiClass) := (loopP (fun z => law16_StateChain_l2 n z.1 z.2) ([], 0)).bind fun o => leave o (fun b => some b) (fun _ => none)
def txB : List UInt8 → List UInt8 → Bool
  | [], [] => true
  | x :: l, y :: r => Nat.beq x.toNat y.toNat && txB l r
  | _, _ => false
theorem txB_eq : ∀ {l r : List UInt8}, txB l r = true → l = r
  | [], [], _ => rfl
  | [], _ :: _, h => by cases h
  | _ :: _, [], h => by cases h
  | x :: l, y :: r, h => by
    simp only [txB, Bool.and_eq_true] at h
    rw [txB_eq h.2, UInt8.toNat_inj.1 (Nat.eq_of_beq_eq_true h.1)]
def txsB : List (List UInt8) → List (List UInt8) → Bool
  | [], [] => true
  | x :: l, y :: r => txB x y && txsB l r
  | _, _ => false
theorem txsB_eq : ∀ {l r : List (List UInt8)}, txsB l r = true → l = r
  | [], [], _ => rfl
  | [], _ :: _, h => by cases h
  | _ :: _, [], h => by cases h
  | x :: l, y :: r, h => by
    simp only [txsB, Bool.and_eq_true] at h
    rw [txB_eq h.1, txsB_eq h.2]
def upC : Nat → List (List UInt8)
  | 0 => [nmC 0, [79, 98, 106, 101, 99, 116]]
  | k + 1 => nmC (k + 1) :: upC k
def allN : Nat → (Nat → Bool) → Bool
  | 0, _ => true
  | n + 1, p => p n && allN n p
theorem allN_spec {p : Nat → Bool} : ∀ {n i : Nat}, allN n p = true → i < n → p i = true
  | 0, i, _, h => absurd h (Nat.not_lt_zero i)
  | n + 1, i, h, hi => by
    simp only [allN, Bool.and_eq_true] at h
    rcases Nat.lt_or_eq_of_le (Nat.le_of_lt_succ hi) with h1 | h1
    · exact allN_spec h.2 h1
    · rw [h1]; exact h.1
noncomputable def chk (n : Nat) : Bool :=
  match chC (n : Int) with
  | some l => Nat.beq l.length n && (match hier_New l with
    | some (h, e) => decide (e = 0) && (match state_New h with
      | some v => (match mapGet [79, 98, 106, 101, 99, 116] v.2.2.1 with | some x => decide (x = 2) | none => false) && allN n fun j => (match l[j]? with | some c => txB c.Name (nmC j) | none => false) && ((match mapGet (nmC j) v.2.2.1 with | some x => decide (x = 0) | none => false) &&
          (match hier_Hier_Supers_s2 v.1 v.2.1 (nmC j) with | some u => txsB u (upC j) | none => false))
      | none => false)
    | none => false)
  | none => false
end Go.Proofs.YthmnlfenkhmmhaaGreat
namespace Go.Proofs.YthmnlfenkhmmhaaGreat
set_option linter.unusedSimpArgs false
set_option linter.unusedVariables false
theorem chk_all : allN 12 (fun i => chk (i + 1)) = true := by kernel_rfl
abbrev objC : List UInt8 := [79, 98, 106, 101, 99, 116]
theorem chk_facts {n : Nat} (h : chk n = true) : ∃ l hh v, chC (n : Int) = some l ∧ l.length = n ∧ hier_New l = some (hh, 0) ∧ state_New hh = some v ∧ mapGet objC v.2.2.1 = some 2 ∧
    ∀ j, j < n → (∃ c, l[j]? = some c ∧ c.Name = nmC j) ∧ mapGet (nmC j) v.2.2.1 = some 0 ∧ hier_Hier_Supers_s2 v.1 v.2.1 (nmC j) = some (upC j) := by
  unfold chk at h
  split at h
  · rename_i l hl
    rw [Bool.and_eq_true] at h
    obtain ⟨h1, h⟩ := h
    split at h
    · rename_i hh e hn
      rw [Bool.and_eq_true] at h
      obtain ⟨h2, h⟩ := h
      split at h
      · rename_i v hv
        rw [Bool.and_eq_true] at h
        obtain ⟨h3, h4⟩ := h
        have he : e = 0 := of_decide_eq_true h2
        subst he
        refine ⟨l, hh, v, hl, Nat.eq_of_beq_eq_true h1, hn, hv, ?_, fun j hj => ?_⟩
        · split at h3
          · rename_i x hx; rw [hx, of_decide_eq_true h3]
          · cases h3
        · have h5 := allN_spec h4 hj
          simp only [Bool.and_eq_true] at h5
          obtain ⟨a1, a2, a3⟩ := h5
          refine ⟨?_, ?_, ?_⟩
          · split at a1
            · rename_i c hc; exact ⟨c, hc, txB_eq a1⟩
            · cases a1
          · split at a2
            · rename_i x hx; rw [hx, of_decide_eq_true a2]
            · cases a2
          · split at a3
            · rename_i u hu; rw [hu, txsB_eq a3]
            · cases a3
      · cases h
    · cases h
  · cases h
def badX (x : Int) : Bool := x == 0 || x == 3
def fstC (X : Nat → Int) : Nat → List UInt8 × Int
  | 0 => ([], 2)
  | i + 1 => if (fstC X i).1 = [] then (if badX (X i) then (nmC i, X i) else fstC X i) else fstC X i
theorem fstC_nil {X : Nat → Int} : ∀ {i : Nat}, (fstC X i).1 = [] → fstC X i = ([], 2)
  | 0, _ => rfl
  | i + 1, h => by
    unfold fstC at h ⊢
    split at h
    · rename_i h1
      rw [if_pos h1]
      split at h
      · cases h
      · rename_i h2; rw [if_neg h2]; exact fstC_nil h1
    · rename_i h1; exact absurd h h1
theorem upC_len : ∀ k, (upC k).length = k + 2
  | 0 => rfl
  | k + 1 => by simp [upC, upC_len k]
theorem upC_obj : ∀ k, (upC k)[k + 1]? = some objC
  | 0 => rfl
  | k + 1 => by simp [upC, upC_obj k]
theorem upC_get : ∀ k j, j ≤ k → (upC k)[k - j]? = some (nmC j)
  | 0, j, h => by
    have : j = 0 := by omega
    subst this; rfl
  | k + 1, j, h => by
    rcases Nat.eq_or_lt_of_le h with h1 | h1
    · subst h1; simp [upC]
    · have : k + 1 - j = (k - j) + 1 := by omega
      rw [this]
      simp only [upC, List.getElem?_cons_succ]
      exact upC_get k j (by omega)
theorem idxC {α : Type} {l : List α} {i : Int} (q : Nat) (h : i = (q : Int)) : idx l i = l[q]? := by subst h; simp [idx]
theorem next_loop {m : List (List UInt8 × Int)} {X : Nat → Int} {k : Nat} (hk : k ≤ 12) (hm : ∀ j, j ≤ k → mapGet (nmC j) m = some (X j)) : ∀ d j, j + d = k + 1 → fstC X j = ([], 2) →
    loopP (fun z => state_State_Next_l1 m (upC k) z) ((k : Int) - j) = some (if (fstC X (k + 1)).1 = [] then .inl () else .inr (fstC X (k + 1)))
  | 0, j, hj, hf => by
    have : j = k + 1 := by omega
    subst this
    have h1 : ¬ (0 ≤ (k : Int) - ((k + 1 : Nat) : Int)) := by omega
    have e1 : state_State_Next_l1 m (upC k) ((k : Int) - ((k + 1 : Nat) : Int)) = some (.inr (.inl ())) := by
      unfold state_State_Next_l1
      rw [decide_eq_false h1]; rfl
    rw [loopP_eq, e1, hf]; rfl
  | d + 1, j, hj, hf => by
    have h1 : (0 ≤ (k : Int) - (j : Int)) := by omega
    have h2 : idx (upC k) ((k : Int) - (j : Int)) = some (nmC j) := by rw [idxC (k - j) (by omega), upC_get k j (by omega)]
    by_cases hb : badX (X j) = true
    · have h3 : fstC X (j + 1) = (nmC j, X j) := by simp [fstC, hf, hb]
      have h4 : ∀ q, fstC X (j + 1 + q) = (nmC j, X j) := fun q => by
        induction q with
        | zero => exact h3
        | succ q ih => rw [show j + 1 + (q + 1) = (j + 1 + q) + 1 by omega]; unfold fstC; rw [ih]; simp [nmC]
      have h5 : fstC X (k + 1) = (nmC j, X j) := by have := h4 (k - j); rwa [show j + 1 + (k - j) = k + 1 by omega] at this
      have hb' : (X j == 0 || X j == 3) = true := hb
      have e1 : state_State_Next_l1 m (upC k) ((k : Int) - (j : Int)) = some (.inr (.inr (nmC j, X j))) := by
        unfold state_State_Next_l1
        rw [decide_eq_true h1, h2]
        simp only [cond_true, Option.bind_some, hm j (by omega : j ≤ k), Option.getD_some, hb']
      rw [loopP_eq, e1, h5, if_neg (by simp [nmC])]; rfl
    · have h3 : fstC X (j + 1) = ([], 2) := by simp [fstC, hf, hb]
      have ih := next_loop hk hm d (j + 1) (by omega) h3
      have h6 : IntKind.i64.wrap ((k : Int) - j - 1) = (k : Int) - ((j + 1 : Nat) : Int) := by rw [wrapI (by omega) (by omega)]; omega
      have hb' : (X j == 0 || X j == 3) = false := by simpa [badX] using hb
      have e1 : state_State_Next_l1 m (upC k) ((k : Int) - (j : Int)) = some (.inl ((k : Int) - ((j + 1 : Nat) : Int))) := by
        unfold state_State_Next_l1
        rw [decide_eq_true h1, h2]
        simp only [cond_true, Option.bind_some, hm j (by omega : j ≤ k), Option.getD_some, hb', cond_false, h6]
      rw [loopP_eq, e1, ← ih]; rfl
theorem next_eq {v1 : List ApiClass} {v2 m : List (List UInt8 × Int)} {v4 : List (List UInt8 × FrameVal)} {v5 : List (List UInt8)} {X : Nat → Int} {k : Nat} (hk : k ≤ 12) (hs : hier_Hier_Supers_s2 v1 v2 (nmC k) = some (upC k)) (ho : mapGet objC m = some 2)
    (hm : ∀ j, j ≤ k → mapGet (nmC j) m = some (X j)) : state_State_Next v1 v2 m v4 v5 (nmC k) = some (fstC X (k + 1)) := by
  have h1 : IntKind.i64.wrap (((upC k).length : Int) - 1) = ((k + 1 : Nat) : Int) := by rw [upC_len, wrapI (by omega) (by omega)]; omega
  have h2 : idx (upC k) ((k + 1 : Nat) : Int) = some objC := by rw [idxC (k + 1) rfl, upC_obj]
  have h3 : IntKind.i64.wrap (((k + 1 : Nat) : Int) - 1) = (k : Int) - ((0 : Nat) : Int) := by rw [wrapI (by omega) (by omega)]; omega
  have e1 : state_State_Next_l1 m (upC k) ((k + 1 : Nat) : Int) = some (.inl ((k : Int) - ((0 : Nat) : Int))) := by
    unfold state_State_Next_l1
    rw [decide_eq_true (by omega : (0 : Int) ≤ ((k + 1 : Nat) : Int)), h2]
    simp only [cond_true, Option.bind_some, ho, Option.getD_some, h3]
    rfl
  have h4 := next_loop hk hm (k + 1) 0 (by omega) rfl
  unfold state_State_Next
  rw [hs]
  simp only [Option.bind_some, h1]
  rw [loopP_eq, e1]
  simp only [Option.bind_some, Sum.elim_inl]
  rw [h4]
  by_cases hn : (fstC X (k + 1)).1 = []
  · rw [if_pos hn, fstC_nil hn]; rfl
  · rw [if_neg hn]; rfl
def atC (l : List Int) (i : Nat) : Int := match l[i]? with | some x => (x.tmod 4 + 4).tmod 4 | none => 0
theorem tmodB (x : Int) {n : Int} (hn : 0 < n) : -n < x.tmod n ∧ x.tmod n < n := by
  refine ⟨?_, Int.tmod_lt_of_pos x hn⟩
  have h := Int.tmod_lt_of_pos (-x) hn
  rw [Int.neg_tmod] at h
  omega
theorem tmod4 (x : Int) : -4 < x.tmod 4 ∧ x.tmod 4 < 4 := tmodB x (by decide)
theorem atC_in (l : List Int) (i : Nat) : 0 ≤ atC l i ∧ atC l i ≤ 3 := by
  unfold atC
  split
  · rename_i x _
    have h1 := tmod4 x
    have h2 := tmod4 (x.tmod 4 + 4)
    have h3 := Int.tmod_nonneg (a := x.tmod 4 + 4) 4 (by omega)
    omega
  · omega
theorem set_eq {v1 : List ApiClass} {v2 m : List (List UInt8 × Int)} {v4 : List (List UInt8 × FrameVal)} {v5 : List (List UInt8)} {nm : List UInt8} {x y : Int} (hx : 0 ≤ x ∧ x ≤ 3) (h : mapGet nm m = some y) :
    state_State_Set v1 v2 m v4 v5 nm x = mapPut nm x m := by
  unfold state_State_Set
  rw [decide_eq_false (by omega : ¬ x < 0), decide_eq_false (by omega : ¬ 3 < x), h]; rfl
theorem nmC_inj {i j : Nat} (hi : i < 12) (hj : j < 12) (h : nmC i = nmC j) : i = j := by
  simp only [nmC, List.cons.injEq, true_and, and_true] at h
  have := congrArg UInt8.toNat h
  simp at this
  omega
theorem nmC_obj (i : Nat) : objC ≠ nmC i := by simp [nmC]
theorem set_step {l : List ApiClass} {v : (List ApiClass) × (List (List UInt8 × Int)) × (List (List UInt8 × Int)) × (List (List UInt8 × FrameVal)) × (List (List UInt8))} {at_ : List Int} {n k i : Nat} (hn : n ≤ 12) (hi : i < n)
    (hl : ∃ c, l[i]? = some c ∧ c.Name = nmC i) {m : List (List UInt8 × Int)} {y : Int} (hm : mapGet (nmC i) m = some y) :
    law16_StateChain_l8 n at_ l v k m (fstC (atC at_) (min i (k + 1))).1 (fstC (atC at_) (min i (k + 1))).2 (i : Int) =
      some (.inl (mapPut (nmC i) (atC at_ i) m, (fstC (atC at_) (min (i + 1) (k + 1))).1, (fstC (atC at_) (min (i + 1) (k + 1))).2, ((i + 1 : Nat) : Int))) := by
  obtain ⟨c, hc, hcn⟩ := hl
  have hidx : idx l (i : Int) = some c := by rw [idxC i rfl, hc]
  have hx := atC_in at_ i
  have hw : IntKind.i64.wrap ((i : Int) + 1) = ((i + 1 : Nat) : Int) := by rw [wrapI (by omega) (by omega)]; omega
  have key : law16_StateChain_j6 l v k m (fstC (atC at_) (min i (k + 1))).1 (fstC (atC at_) (min i (k + 1))).2 (i : Int) (atC at_ i) =
      some (.inl (mapPut (nmC i) (atC at_ i) m, (fstC (atC at_) (min (i + 1) (k + 1))).1, (fstC (atC at_) (min (i + 1) (k + 1))).2, ((i + 1 : Nat) : Int))) := by
    unfold law16_StateChain_j6
    rw [hidx]
    simp only [Option.bind_some, hcn, set_eq hx hm, law16_StateChain_j7, hw]
    by_cases hik : i ≤ k
    · rw [Nat.min_eq_left (by omega : i ≤ k + 1), Nat.min_eq_left (by omega : i + 1 ≤ k + 1), decide_eq_true (by omega : (i : Int) ≤ k)]
      by_cases hf : (fstC (atC at_) i).1 = []
      · by_cases hb : badX (atC at_ i) = true
        · have hb' : (atC at_ i == 0 || atC at_ i == 3) = true := hb
          have h3 : fstC (atC at_) (i + 1) = (nmC i, atC at_ i) := by simp [fstC, hf, hb]
          rw [hf, h3, hb']; rfl
        · have hb' : (atC at_ i == 0 || atC at_ i == 3) = false := by simpa [badX] using hb
          have h3 : fstC (atC at_) (i + 1) = fstC (atC at_) i := by simp [fstC, hf, hb]
          rw [h3, hb']; simp
      · have h3 : fstC (atC at_) (i + 1) = fstC (atC at_) i := by simp [fstC, hf]
        have h4 : ((fstC (atC at_) i).1 == []) = false := by simpa using hf
        rw [h3, h4]; simp
    · rw [Nat.min_eq_right (by omega : k + 1 ≤ i), Nat.min_eq_right (by omega : k + 1 ≤ i + 1), decide_eq_false (by omega : ¬ (i : Int) ≤ k)]; simp
  unfold law16_StateChain_l8
  rw [decide_eq_true (by omega : (i : Int) < n)]
  simp only [cond_true]
  by_cases hlen : i < at_.length
  · have h5 : idx at_ (i : Int) = some at_[i] := by rw [idxC i rfl, List.getElem?_eq_getElem hlen]
    have h6 : atC at_ i = (at_[i].tmod 4 + 4).tmod 4 := by simp [atC, List.getElem?_eq_getElem hlen]
    have h7 : IntKind.i64.wrap (at_[i].tmod 4 + 4) = at_[i].tmod 4 + 4 := by have := tmod4 at_[i]; exact wrapI (by omega) (by omega)
    rw [decide_eq_true (by omega : (i : Int) < at_.length), h5]
    simp only [cond_true, Option.bind_some, remP]
    rw [if_neg (by decide)]
    simp only [Option.bind_some, h7]
    rw [if_neg (by decide)]
    simp only [Option.bind_some]
    rw [← h6]; exact key
  · have h6 : atC at_ i = 0 := by simp [atC, List.getElem?_eq_none (Nat.le_of_not_lt hlen)]
    rw [decide_eq_false (by omega : ¬ (i : Int) < at_.length)]
    simp only [cond_false]
    rw [h6] at key; rw [h6]; exact key
theorem set_loop {l : List ApiClass} {v : (List ApiClass) × (List (List UInt8 × Int)) × (List (List UInt8 × Int)) × (List (List UInt8 × FrameVal)) × (List (List UInt8))} {at_ : List Int} {n k : Nat} (hn : n ≤ 12) (hk : k < n)
    (hl : ∀ i, i < n → ∃ c, l[i]? = some c ∧ c.Name = nmC i) : ∀ d i m, i + d = n → (∀ j, j < n → ∃ y, mapGet (nmC j) m = some y ∧ (j < i → y = atC at_ j)) → mapGet objC m = some 2 →
    ∃ m', loopP (fun z => law16_StateChain_l8 n at_ l v k z.1 z.2.1 z.2.2.1 z.2.2.2) (m, (fstC (atC at_) (min i (k + 1))).1, (fstC (atC at_) (min i (k + 1))).2, (i : Int)) =
      some (.inl (m', (fstC (atC at_) (k + 1)).1, (fstC (atC at_) (k + 1)).2)) ∧ (∀ j, j < n → mapGet (nmC j) m' = some (atC at_ j)) ∧ mapGet objC m' = some 2
  | 0, i, m, hi, hm, ho => by
    have : i = n := by omega
    subst this
    refine ⟨m, ?_, fun j hj => ?_, ho⟩
    · have e1 : law16_StateChain_l8 i at_ l v k m (fstC (atC at_) (min i (k + 1))).1 (fstC (atC at_) (min i (k + 1))).2 (i : Int) = some (.inr (.inl (m, (fstC (atC at_) (min i (k + 1))).1, (fstC (atC at_) (min i (k + 1))).2))) := by
        unfold law16_StateChain_l8
        rw [decide_eq_false (by omega : ¬ (i : Int) < i)]; rfl
      rw [loopP_eq]
      simp only [e1, Option.bind_some, Sum.elim_inr]
      rw [Nat.min_eq_right (by omega : k + 1 ≤ i)]
    · obtain ⟨y, h1, h2⟩ := hm j hj
      rw [h1, h2 hj]
  | d + 1, i, m, hi, hm, ho => by
    obtain ⟨y, h1, _⟩ := hm i (by omega)
    have e1 := set_step (v := v) (at_ := at_) (k := k) hn (by omega : i < n) (hl i (by omega)) h1
    obtain ⟨m', h2, h3, h4⟩ := set_loop hn hk hl d (i + 1) (mapPut (nmC i) (atC at_ i) m) (by omega) (fun j hj => by
      rw [mapGet_put]
      by_cases hji : j = i
      · subst hji; exact ⟨_, if_pos rfl, fun _ => rfl⟩
      · rw [if_neg (fun e => hji (nmC_inj (by omega) (by omega) e))]
        obtain ⟨y', h5, h6⟩ := hm j hj
        exact ⟨y', h5, fun h => h6 (by omega)⟩) (by rw [mapGet_put, if_neg (nmC_obj i)]; exact ho)
    refine ⟨m', ?_, h3, h4⟩
    rw [loopP_eq]
    simp only [e1, Option.bind_some, Sum.elim_inl]
    exact h2
theorem law16_StateChain_eq (n : Int) (at_ : List Int) (w : Int) : law16_StateChain n at_ w = some true := by
  unfold law16_StateChain
  rw [law16_begun_eq]
  simp only [Option.bind_some, Bool.not_true, cond_false]
  by_cases hn : n < 1 ∨ 12 < n
  · have : (decide (n < 1) || decide (12 < n)) = true := by simpa using hn
    rw [this]; rfl
  have h0 : (decide (n < 1) || decide (12 < n)) = false := by simpa using hn
  rw [h0]
  obtain ⟨N, rfl⟩ : ∃ N : Nat, n = (N : Int) := ⟨n.toNat, by omega⟩
  have hN : 1 ≤ N ∧ N ≤ 12 := by omega
  have hc := allN_spec chk_all (i := N - 1) (by omega)
  simp only [Nat.sub_add_cancel hN.1] at hc
  obtain ⟨l, hh, v, h1, h2, h3, h4, h5, h6⟩ := chk_facts hc
  simp only [cond_false]
  have h7 : loopP (fun z => law16_StateChain_l2 (N : Int) z.1 z.2) ([], 0) = some (.inl l) := by
    unfold chC at h1
    obtain ⟨o, ho, h1⟩ := Option.bind_eq_some_iff.1 h1
    cases o with
    | inl b => simp only [leave, Option.some.injEq] at h1; rw [ho, h1]
    | inr b => cases h1
  rw [h7]
  show law16_StateChain_k3 N at_ w l = some true
  unfold law16_StateChain_k3
  rw [h3]
  simp only [Option.bind_some]
  rw [show ((0 : Int) == 0) = true from rfl]
  simp only [Bool.not_true, cond_false, h4, Option.bind_some, remP]
  have t1 := tmodB w (n := (N : Int)) (by omega)
  have t2 := Int.tmod_nonneg (a := w.tmod N + N) (N : Int) (by omega)
  have t3 := tmodB (w.tmod N + N) (n := (N : Int)) (by omega)
  have t4 : IntKind.i64.wrap (w.tmod N + N) = w.tmod N + N := wrapI (by omega) (by omega)
  rw [if_neg (by omega)]
  simp only [Option.bind_some, t4]
  rw [if_neg (by omega)]
  simp only [Option.bind_some]
  obtain ⟨K, hK⟩ : ∃ K : Nat, (w.tmod N + N).tmod N = (K : Int) := ⟨((w.tmod N + N).tmod N).toNat, by omega⟩
  rw [hK] at t2 t3 ⊢
  have hKN : K < N := by omega
  obtain ⟨m', e1, e2, e3⟩ := set_loop (v := v) (at_ := at_) hN.2 hKN (fun i hi => (h6 i hi).1) N 0 v.2.2.1 (by omega) (fun j hj => ⟨0, (h6 j hj).2.1, fun h => absurd h (Nat.not_lt_zero j)⟩) h5
  have e1' : loopP (fun z => law16_StateChain_l8 N at_ l v K z.1 z.2.1 z.2.2.1 z.2.2.2) (v.2.2.1, [], 2, 0) = some (.inl (m', (fstC (atC at_) (K + 1)).1, (fstC (atC at_) (K + 1)).2)) := e1
  rw [e1']
  simp only [Option.bind_some, leave]
  unfold law16_StateChain_k9
  obtain ⟨c, hc1, hc2⟩ := (h6 K hKN).1
  rw [idxC K rfl, hc1]
  simp only [Option.bind_some, hc2]
  rw [next_eq (X := atC at_) (by omega) (h6 K hKN).2.2 e3 (fun j hj => e2 j (by omega))]
  simp
theorem stateChain_pure (n : Int) (at_ : List Int) (w : Int) (_ : wI .i64 n) (_ : wL (wI .i64) at_) (_ : wI .i64 w) : PureC Tryz.prog 4 [iA n, .isl 1 (List.map (rI .i64) at_), iA w] (bA true) := law16_StateChain_ok n at_ w (law16_StateChain_eq n at_ w)
end Go.Proofs.YthmnlfenkhmmhaaGreat
