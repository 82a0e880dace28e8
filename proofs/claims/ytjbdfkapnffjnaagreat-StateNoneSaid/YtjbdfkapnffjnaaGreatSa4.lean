/- StateNone: for every input the law returns true, and each argument reads as it read before. No further condition. Part 4 of 5. -/
import Derived.Test.YtjbdfkapnffjnaaGreatSa3
namespace Go.Proofs.YtjbdfkapnffjnaaGreat
set_option linter.unusedSimpArgs false
set_option linter.unusedVariables false
set_option maxRecDepth 100000
set_option maxHeartbeats 4000000
structure FrameVal where
  Ref : Bool
  N : Int
def rFrameVal (x : FrameVal) : List AV := [bA x.Ref, .lit (.int .i32 x.N)]
noncomputable def state_State_Set (v1 : List UInt8) (v2 : Int) : Unit :=
  ()
theorem state_State_Set_ok (v1 : List UInt8) (v2 : Int) {r : Unit} (h : state_State_Set v1 v2 = r) : PureC Tryz.prog 25 [.lit (.pointer none), sA v1, iA v2] (.tup []) := by
 refine pure_fn Tryz.func25 rfl (by kernel_rfl) rfl rfl ?_
 unfold state_State_Set at h
 refine sw_seq ?_
 refine rg rfl <| u <| mv rfl <| u <| eqp ti36 rfl rfl rfl rfl rfl rfl <| u <| mv rfl <| r_skip (aguard_of (b := true) rfl) <| r_skip (aguard_of (b := true) rfl) <| u <| pk (b := true) rfl rfl <| u <| mv rfl <| r_skip (aguard_of (b := true) rfl) <| r_skip (aguard_of (b := true) rfl) <| u <| pk (b := true) rfl rfl <| r_nil ?_
 refine sw_cond rfl (fun _ => ?_) (fun hx => by cases hx)
 refine sw_ret ?_
 obtain rfl := h
 exact ⟨_, rfl, [], rsTup trivial, rfl, trivial, rfl, Nat.le_of_ble_eq_true rfl⟩
noncomputable def state_State_refs : (List (List UInt8)) :=
  []
theorem state_State_refs_ok {r : (List (List UInt8))} (h : state_State_refs = r) : PureC Tryz.prog 72 [.lit (.pointer none)] (.isl 1 (List.map rStr r)) := by
 refine pure_fn Tryz.func72 rfl (by kernel_rfl) rfl rfl ?_
 unfold state_State_refs at h
 refine rg rfl <| u <| asg rfl <| r_nil ?_
 refine rg rfl <| u <| asg rfl <| r_nil ?_
 refine sw_seq ?_
 refine rg rfl <| u <| mv rfl <| u <| eqp ti36 rfl rfl rfl rfl rfl rfl <| r_nil ?_
 refine sw_cond rfl (fun _ => ?_) (fun hx => by cases hx)
 refine rg rfl <| u <| asg rfl <| r_nil ?_
 refine sw_ret ?_
 obtain rfl := h
 exact ⟨_, rfl, [], .nil, rfl, trivial, rfl, Nat.le_of_ble_eq_true rfl⟩
noncomputable def state_State_SetRefs_k2 : Option (Unit) :=
  some ()
noncomputable def state_State_SetRefs_l1 (v1 : List Int) : Option (Sum (Unit) (Sum (Unit) (Unit))) :=
  cond (decide (0 < (List.length v1 : Int))) ((idx v1 0).bind fun v2 => none) (some (.inr (.inl ())))
noncomputable def state_State_SetRefs (v1 : List Int) : Option (Unit) :=
  cond (!((List.length (state_State_refs) : Int) == (List.length v1 : Int))) (some ()) ((loopP (fun z => state_State_SetRefs_l1 v1) ()).bind fun o => leave o (fun b => state_State_SetRefs_k2) some)
theorem state_State_SetRefs_ok (v1 : List Int) {r : Unit} (h : state_State_SetRefs v1 = some r) : PureC Tryz.prog 32 [.lit (.pointer none), .isl 1 (List.map (rI .i64) v1)] (.tup []) := by
 refine pure_fn Tryz.func32 rfl (by kernel_rfl) rfl rfl ?_
 unfold state_State_SetRefs at h
 refine rg rfl <| u <| mv rfl <| u <| pc (state_State_refs_ok rfl) rfl rfl rfl <| u <| asg rfl <| r_nil ?_
 refine sw_seq ?_
 refine rg rfl <| u <| mv rfl <| u <| lnI ti25 rfl rfl <| u <| mv rfl <| u <| lnI ti22 rfl rfl <| u <| neq ti3 rfl rfl <| r_nil ?_
 refine sw_cond rfl (fun hc1 => ?_) (fun hc1 => ?_)
 ·
  replace h := bT hc1 h
  refine sw_ret ?_
  obtain rfl := sm h
  exact ⟨_, rfl, [], rsTup trivial, rfl, trivial, rfl, Nat.le_of_ble_eq_true rfl⟩
 ·
  replace h := bF hc1 h
  refine sw_skip ?_
  refine rg rfl <| u <| mv rfl <| u <| lnI ti22 rfl rfl <| u <| mv rfl <| r_nil ?_
  obtain ⟨o, ho, h⟩ := bs h
  refine sw_lpl (X := Unit) (B := Unit) (R := Unit) (fun z => [(0, .lit (.pointer none)), (4, .isl 1 (List.map rStr (state_State_refs))), (14, .isl 1 (List.map (rI .i64) v1)), (15, iA (List.length v1 : Int)), (16, iA 0)]) (fun z => []) (fun b => []) (fun b => []) (fun r env st => PostF Tryz.prog Tryz.f32 0 (.tup []) [] env st) ho ⟨[], ce rfl rfl <| ce rfl rfl <| ce rfl rfl <| ce rfl rfl <| ce rfl rfl <| cn, rfl, trivial, rfl, Nat.le_of_ble_eq_true rfl⟩ ?_ ?_ ?_
  ·
   rintro ⟨⟩ r h
   replace h : state_State_SetRefs_l1 v1 = some r := h
   unfold state_State_SetRefs_l1 at h
   refine rg rfl <| u <| lss ti3 rfl rfl <| r_nil ?_
   refine sw_seq ?_
   refine sw_cond rfl (fun hc2 => ?_) (fun hc2 => ?_)
   ·
    replace h := bT hc2 h
    refine sw_skip ?_
    refine sw_seq ?_
    refine sw_block ?_
    obtain ⟨v2, q3, h⟩ := bs h
    refine rg rfl <| u <| mv rfl <| u <| ixI ti22 rfl ti3 rfl rfl rfl q3 <| u <| ldI ti3 rfl (idx_some q3).2.2 rfl <| u <| asg rfl <| u <| asg rfl <| r_nil ?_
    cases h
   ·
    replace h := bF hc2 h
    refine sw_exit ?_
    obtain rfl := sm h
    exact ⟨rfl, _, rfl, [], cn, rfl, trivial, rfl, Nat.le_of_ble_eq_true rfl⟩
  ·
   rintro ⟨⟩ rfl
   replace h : state_State_SetRefs_k2 = some r := h
   unfold state_State_SetRefs_k2 at h
   refine ow_intro ?_
   obtain rfl := sm h
   exact ⟨_, rfl, [], rsTup trivial, rfl, trivial, rfl, Nat.le_of_ble_eq_true rfl⟩
  ·
   rintro r' rfl env st hp
   obtain rfl := sm h
   exact hp
noncomputable def state_State_Next (v1 : List UInt8) : (List UInt8) × Int :=
  ([], 0)
theorem state_State_Next_ok (v1 : List UInt8) {r : (List UInt8) × Int} (h : state_State_Next v1 = r) : PureC Tryz.prog 26 [.lit (.pointer none), sA v1] (.tup [sA r.1, iA r.2]) := by
 refine pure_fn Tryz.func26 rfl (by kernel_rfl) rfl rfl ?_
 unfold state_State_Next at h
 refine rg rfl <| u <| asg rfl <| u <| asg rfl <| r_nil ?_
 refine sw_seq ?_
 refine rg rfl <| u <| mv rfl <| u <| eqp ti36 rfl rfl rfl rfl rfl rfl <| r_nil ?_
 refine sw_cond rfl (fun _ => ?_) (fun hx => by cases hx)
 refine rg rfl <| u <| asg rfl <| u <| asg rfl <| r_nil ?_
 refine sw_ret ?_
 obtain rfl := h
 exact ⟨_, rfl, [], rsTup ⟨(ci rfl), (ci rfl), trivial⟩, rfl, trivial, rfl, Nat.le_of_ble_eq_true rfl⟩
noncomputable def state_State_Get (v1 : List UInt8) (v2 : List UInt8) : FrameVal × Bool :=
  ((FrameVal.mk false 0), false)
theorem state_State_Get_ok (v1 : List UInt8) (v2 : List UInt8) {r : FrameVal × Bool} (h : state_State_Get v1 v2 = r) : PureC Tryz.prog 35 [.lit (.pointer none), sA v1, sA v2] (.tup [.agg (rFrameVal r.1), bA r.2]) := by
 refine pure_fn Tryz.func35 rfl (by kernel_rfl) rfl rfl ?_
 unfold state_State_Get at h
 refine rg rfl <| u <| al 0 ti54 rfl <| u <| asg rfl <| r_nil ?_
 refine sw_seq ?_
 refine rg rfl <| u <| mv rfl <| u <| eqp ti36 rfl rfl rfl rfl rfl rfl <| r_nil ?_
 refine sw_cond rfl (fun _ => ?_) (fun hx => by cases hx)
 refine rg rfl <| u <| bd ti54 rfl rfl rfl <| u <| sto ti54 rfl rfl rfl <| u <| asg rfl <| r_nil ?_
 refine sw_ret ?_
 obtain rfl := h
 exact ⟨_, rfl, [], rsTup ⟨(ci rfl), (ci rfl), trivial⟩, rfl, trivial, rfl, Nat.le_of_ble_eq_true rfl⟩
noncomputable def state_key (v1 : List UInt8) (v2 : List UInt8) : Option ((List UInt8)) :=
  (catP v1 [46]).bind fun v3 => (catP v3 v2).bind fun v4 => some v4
theorem state_key_ok (v1 : List UInt8) (v2 : List UInt8) {r : (List UInt8)} (h : state_key v1 v2 = some r) : PureC Tryz.prog 65 [sA v1, sA v2] (sA r) := by
 refine pure_fn Tryz.func65 rfl (by kernel_rfl) rfl rfl ?_
 unfold state_key at h
 refine rg rfl <| u <| asg rfl <| r_nil ?_
 obtain ⟨v3, q1, h⟩ := bs h
 obtain ⟨v4, q2, h⟩ := bs h
 refine rg rfl <| u <| mv rfl <| u <| scat ti9 rfl rfl q1 <| u <| mv rfl <| u <| scat ti9 rfl rfl q2 <| u <| asg rfl <| r_nil ?_
 refine sw_ret ?_
 obtain rfl := sm h
 exact ⟨_, rfl, [], ci rfl, rfl, trivial, rfl, Nat.le_of_ble_eq_true rfl⟩
noncomputable def state_New_k12 (v2 : HierHier) (v62 : List (List UInt8 × Int)) (v63 : List (List UInt8 × FrameVal)) (v64 : List (List UInt8)) : Option ((List ApiClass) × (List (List UInt8 × Int)) × (List (List UInt8 × Int)) × (List (List UInt8 × FrameVal)) × (List (List UInt8))) :=
  some (v2.l, v2.at_, v62, v63, v64)
noncomputable def state_New_k10 (v36 : Int) (v38 : List (List UInt8 × Int)) (v60 : List (List UInt8 × FrameVal)) (v61 : List (List UInt8)) : Option (Sum ((List (List UInt8 × Int)) × (List (List UInt8 × FrameVal)) × (List (List UInt8)) × Int) (Sum ((List (List UInt8 × Int)) × (List (List UInt8 × FrameVal)) × (List (List UInt8))) ((List ApiClass) × (List (List UInt8 × Int)) × (List (List UInt8 × Int)) × (List (List UInt8 × FrameVal)) × (List (List UInt8))))) :=
  some (.inl (v38, v60, v61, (IntKind.i64.wrap (v36 + 1))))
noncomputable def state_New_j8 (v52 : Int) (v58 : List (List UInt8 × FrameVal)) (v59 : List (List UInt8)) : Option (Sum ((List (List UInt8 × FrameVal)) × (List (List UInt8)) × Int) (Sum ((List (List UInt8 × FrameVal)) × (List (List UInt8))) ((List ApiClass) × (List (List UInt8 × Int)) × (List (List UInt8 × Int)) × (List (List UInt8 × FrameVal)) × (List (List UInt8))))) :=
  some (.inl (v58, v59, (IntKind.i64.wrap (v52 + 1))))
noncomputable def state_New_l9 (v37 : List UInt8) (v39 : ApiClass × Bool) (v50 : List (List UInt8 × FrameVal)) (v51 : List (List UInt8)) (v52 : Int) : Option (Sum ((List (List UInt8 × FrameVal)) × (List (List UInt8)) × Int) (Sum ((List (List UInt8 × FrameVal)) × (List (List UInt8))) ((List ApiClass) × (List (List UInt8 × Int)) × (List (List UInt8 × Int)) × (List (List UInt8 × FrameVal)) × (List (List UInt8))))) :=
  cond (decide (v52 < (List.length v39.1.Fields : Int))) ((idx v39.1.Fields v52).bind fun v53 => cond v53.Static ((state_key v37 v53.Name).bind fun v54 => (kind_Ref v53.Type_).bind fun v55 => (state_key v37 v53.Name).bind fun v56 => (appP 16 v51 [v56]).bind fun v57 => state_New_j8 v52 (mapPut v54 (FrameVal.mk v55 0) v50) v57) (state_New_j8 v52 v50 v51)) (some (.inr (.inl (v50, v51))))
noncomputable def state_New_j6 (v2 : HierHier) (v34 : List (List UInt8 × FrameVal)) (v35 : List (List UInt8)) (v36 : Int) (v37 : List UInt8) (v38 : List (List UInt8 × Int)) : Option (Sum ((List (List UInt8 × Int)) × (List (List UInt8 × FrameVal)) × (List (List UInt8)) × Int) (Sum ((List (List UInt8 × Int)) × (List (List UInt8 × FrameVal)) × (List (List UInt8))) ((List ApiClass) × (List (List UInt8 × Int)) × (List (List UInt8 × Int)) × (List (List UInt8 × FrameVal)) × (List (List UInt8))))) :=
  (hier_Hier_Class_s3 v2.l v2.at_ v37).bind fun v39 => (loopP (fun z => state_New_l9 v37 v39 z.1 z.2.1 z.2.2) (v34, v35, 0)).bind fun o => leave o (fun b => state_New_k10 v36 v38 b.1 b.2) (fun r => some (.inr (.inr r)))
noncomputable def state_New_l11 (v2 : HierHier) (v3 : (List (List UInt8))) (v33 : List (List UInt8 × Int)) (v34 : List (List UInt8 × FrameVal)) (v35 : List (List UInt8)) (v36 : Int) : Option (Sum ((List (List UInt8 × Int)) × (List (List UInt8 × FrameVal)) × (List (List UInt8)) × Int) (Sum ((List (List UInt8 × Int)) × (List (List UInt8 × FrameVal)) × (List (List UInt8))) ((List ApiClass) × (List (List UInt8 × Int)) × (List (List UInt8 × Int)) × (List (List UInt8 × FrameVal)) × (List (List UInt8))))) :=
  cond (decide (v36 < ((List.length v3) : Int))) ((idx v3 v36).bind fun v37 => cond (decide (v36 < ((List.length (hier_Given)) : Int))) (state_New_j6 v2 v34 v35 v36 v37 (mapPut v37 2 (mapPut v37 0 v33))) (state_New_j6 v2 v34 v35 v36 v37 (mapPut v37 0 v33))) (some (.inr (.inl (v33, v34, v35))))
noncomputable def state_New (v1 : Option HierHier) : Option ((List ApiClass) × (List (List UInt8 × Int)) × (List (List UInt8 × Int)) × (List (List UInt8 × FrameVal)) × (List (List UInt8))) :=
  optE v1 (none) (fun v2 => (hier_Hier_Names_s2 v2.l v2.at_).bind fun v3 => (loopP (fun z => state_New_l11 v2 v3 z.1 z.2.1 z.2.2.1 z.2.2.2) ([], [], [], 0)).bind fun o => leave o (fun b => state_New_k12 v2 b.1 b.2.1 b.2.2) some)
theorem state_New_ok (v1 : Option HierHier) {r : (List ApiClass) × (List (List UInt8 × Int)) × (List (List UInt8 × Int)) × (List (List UInt8 × FrameVal)) × (List (List UInt8))} (h : state_New v1 = some r) : SC Tryz.prog 24 [optP 2 rHierHier v1] [] (.mpt 0 0 0) [.one 4 [.ipt 2 [[.isl 6 (List.map rApiClass r.1), .imp (List.map (rKV (fun x => iA x)) r.2.1)]] 0 0, .mmp 1, .mmp 2, .msl 3 0 (List.length r.2.2.2.2)], .many 2 (List.map (rKV (fun x => iA x)) r.2.2.1), .many 2 (List.map (rKV (fun x => .agg (rFrameVal x))) r.2.2.2.1), .many 1 (List.map rStr r.2.2.2.2)] := by
 refine ⟨⟨trivial, sbOk (sz := 2) (fun _ => rfl), sbOk (sz := 2) (fun _ => rfl), sbOk (sz := 1) (fun _ => rfl), trivial⟩, scall_fn Tryz.func24 rfl (by kernel_rfl) rfl ?_⟩
 unfold state_New at h
 rcases v1 with _ | v2
 ·
  replace h := oeN h
  cases h
 ·
  replace h := oeS h
  refine rg rfl <| u <| asg rfl <| r_nil ?_
  refine rg rfl <| u <| mv rfl <| u <| mmk (e := 3) 0 rfl rfl <| u <| mmk (e := 54) 1 rfl rfl <| u <| bd ti117 rfl rfl rfl <| u <| bx 2 4 rfl rfl rfl rfl <| u <| asg rfl <| r_nil ?_
  refine sw_seq ?_
  obtain ⟨v3, q1, h⟩ := bs h
  refine rg rfl <| u <| mv rfl <| u <| sc [] (hier_Hier_Names_s2_ok v2.l v2.at_ q1) rfl rfl rfl rfl ⟨(rnI rfl), trivial⟩ trivial <| r_can (env0 := [(0, .ipt 2 [[.isl 6 (List.map rApiClass v2.l), .imp (List.map (rKV (fun x => iA x)) v2.at_)]] 0 0), (3, .mpt 0 0 0), (16, .msl 3 0 (List.length v3))]) (st0 := [some (4, [[.ipt 2 [[.isl 6 (List.map rApiClass v2.l), .imp (List.map (rKV (fun x => iA x)) v2.at_)]] 0 0, .mmp 1, .mmp 2, .lit (.slice none 0 0)]]), some (2, List.map (rKV (fun x => iA x)) []), some (2, List.map (rKV (fun x => .agg (rFrameVal x))) []), some (1, List.map rStr v3)]) ⟨[.old 2, .old 0, .old 1, .old 3], ce rfl rfl <| cv rfl (.mpt rfl) <| cv rfl (.msl rfl) <| cn, rfl, ⟨⟨_, rfl, rsOne ⟨ci rfl, .mmp rfl, .mmp rfl, ci rfl, trivial⟩⟩, ⟨_, rfl, rsMap (fun _ => rfl)⟩, ⟨_, rfl, rsMap (fun _ => rfl)⟩, ⟨_, rfl, rsMap (fun _ => rfl)⟩, trivial⟩, rfl, Nat.le_of_ble_eq_true rfl⟩ <| u <| lnM ti25 rfl rfl rfl <| u <| mv rfl <| r_nil ?_
  obtain ⟨o, ho, h⟩ := bs h
  refine sw_lpl (X := (List (List UInt8 × Int)) × (List (List UInt8 × FrameVal)) × (List (List UInt8)) × Int) (B := (List (List UInt8 × Int)) × (List (List UInt8 × FrameVal)) × (List (List UInt8))) (R := (List ApiClass) × (List (List UInt8 × Int)) × (List (List UInt8 × Int)) × (List (List UInt8 × FrameVal)) × (List (List UInt8))) (fun z => [(0, .ipt 2 [[.isl 6 (List.map rApiClass v2.l), .imp (List.map (rKV (fun x => iA x)) v2.at_)]] 0 0), (3, .mpt 0 0 0), (16, .msl 4 0 (List.length v3)), (17, iA ((List.length v3) : Int)), (18, iA z.2.2.2)]) (fun z => [some (4, [[.ipt 2 [[.isl 6 (List.map rApiClass v2.l), .imp (List.map (rKV (fun x => iA x)) v2.at_)]] 0 0, .mmp 1, .mmp 2, .msl 3 0 (List.length z.2.2.1)]]), some (2, List.map (rKV (fun x => iA x)) z.1), some (2, List.map (rKV (fun x => .agg (rFrameVal x))) z.2.1), some (1, List.map rStr z.2.2.1), some (1, List.map rStr v3)]) (fun b => [(3, .mpt 0 0 0)]) (fun b => [some (4, [[.ipt 2 [[.isl 6 (List.map rApiClass v2.l), .imp (List.map (rKV (fun x => iA x)) v2.at_)]] 0 0, .mmp 1, .mmp 2, .msl 3 0 (List.length b.2.2)]]), some (2, List.map (rKV (fun x => iA x)) b.1), some (2, List.map (rKV (fun x => .agg (rFrameVal x))) b.2.1), some (1, List.map rStr b.2.2)]) (fun r env st => PostF Tryz.prog Tryz.f24 0 (.mpt 0 0 0) [some (4, [[.ipt 2 [[.isl 6 (List.map rApiClass r.1), .imp (List.map (rKV (fun x => iA x)) r.2.1)]] 0 0, .mmp 1, .mmp 2, .msl 3 0 (List.length r.2.2.2.2)]]), some (2, List.map (rKV (fun x => iA x)) r.2.2.1), some (2, List.map (rKV (fun x => .agg (rFrameVal x))) r.2.2.2.1), some (1, List.map rStr r.2.2.2.2)] env st) ho ⟨[.old 0, .old 1, .old 2, .fresh 1, .old 3], ce rfl rfl <| cv rfl (.mpt rfl) <| cv rfl (.msl rfl) <| ce rfl rfl <| ce rfl rfl <| cn, rfl, ⟨⟨_, rfl, rsOne ⟨ci rfl, .mmp rfl, .mmp rfl, .nilown rfl, trivial⟩⟩, ⟨_, rfl, rsMap (fun _ => rfl)⟩, ⟨_, rfl, rsMap (fun _ => rfl)⟩, ⟨rfl, rfl⟩, ⟨_, rfl, rsMap (fun _ => rfl)⟩, trivial⟩, rfl, Nat.le_of_ble_eq_true rfl⟩ ?_ ?_ ?_
  ·
   rintro ⟨v33, v34, v35, v36⟩ r h
   replace h : state_New_l11 v2 v3 v33 v34 v35 v36 = some r := h
   unfold state_New_l11 at h
   refine rg rfl <| u <| lss ti3 rfl rfl <| r_nil ?_
   refine sw_seq ?_
   refine sw_cond rfl (fun hc20 => ?_) (fun hc20 => ?_)
   ·
    replace h := bT hc20 h
    refine sw_skip ?_
    refine sw_seq ?_
    refine sw_block ?_
    obtain ⟨v37, q21, h⟩ := bs h
    refine rg rfl <| u <| mv rfl <| u <| ixM ti25 rfl ti9 rfl rfl rfl rfl q21 <| u <| ldM ti9 rfl rfl (idx_some q21).2.2 rfl <| u <| asg rfl <| u <| asg rfl <| r_nil ?_
    refine rg rfl <| u <| mv rfl <| u <| nc rfl rfl <| u <| fa ti117 rfl rfl rfl <| u <| ld ti108 rfl rfl <| u <| mv rfl <| u <| mup (v := 0) (g := (fun x => iA x)) (l := v33) (s := v37) rfl rfl rfl rfl rfl rfl <| r_nil ?_
    refine sw_meet (X := (List (List UInt8 × Int))) (fun z => [(0, .ipt 2 [[.isl 6 (List.map rApiClass v2.l), .imp (List.map (rKV (fun x => iA x)) v2.at_)]] 0 0), (3, .mpt 0 0 0), (5, sA v37), (16, .msl 4 0 (List.length v3)), (17, iA ((List.length v3) : Int)), (18, iA v36)]) (fun z => [some (4, [[.ipt 2 [[.isl 6 (List.map rApiClass v2.l), .imp (List.map (rKV (fun x => iA x)) v2.at_)]] 0 0, .mmp 1, .mmp 2, .msl 3 0 (List.length v35)]]), some (2, List.map (rKV (fun x => iA x)) z), some (2, List.map (rKV (fun x => .agg (rFrameVal x))) v34), some (1, List.map rStr v35), some (1, List.map rStr v3)]) (fun z => state_New_j6 v2 v34 v35 v36 v37 z = some r) ?_ ?_
    ·
     refine rg rfl <| u <| mv rfl <| u <| sc [] (hier_Given_ok rfl) rfl rfl rfl rfl trivial trivial <| r_can (env0 := [(0, .ipt 2 [[.isl 6 (List.map rApiClass v2.l), .imp (List.map (rKV (fun x => iA x)) v2.at_)]] 0 0), (3, .mpt 0 0 0), (5, sA v37), (16, .msl 4 0 (List.length v3)), (17, iA ((List.length v3) : Int)), (18, iA v36), (28, iA v36), (29, .msl 5 0 (List.length (hier_Given)))]) (st0 := [some (4, [[.ipt 2 [[.isl 6 (List.map rApiClass v2.l), .imp (List.map (rKV (fun x => iA x)) v2.at_)]] 0 0, .mmp 1, .mmp 2, .msl 3 0 (List.length v35)]]), some (2, List.map (rKV (fun x => iA x)) (mapPut v37 0 v33)), some (2, List.map (rKV (fun x => .agg (rFrameVal x))) v34), some (1, List.map rStr v35), some (1, List.map rStr v3), some (1, List.map rStr (hier_Given))]) ⟨[.old 0, .old 1, .old 2, .old 3, .old 4, .old 5], ce rfl rfl <| cv rfl (.mpt rfl) <| ce rfl rfl <| cv rfl (.msl rfl) <| ce rfl rfl <| ce rfl rfl <| ce rfl rfl <| cv rfl (.msl rfl) <| cn, rfl, ⟨⟨_, rfl, rsOne ⟨ci rfl, .mmp rfl, .mmp rfl, .msl rfl, trivial⟩⟩, ⟨_, rfl, rsMap (fun _ => rfl)⟩, ⟨_, rfl, rsMap (fun _ => rfl)⟩, ⟨_, rfl, rsMap (fun _ => rfl)⟩, ⟨_, rfl, rsMap (fun _ => rfl)⟩, ⟨_, rfl, rsMap (fun _ => rfl)⟩, trivial⟩, rfl, Nat.le_of_ble_eq_true rfl⟩ <| u <| lnM ti25 rfl rfl rfl <| u <| lss ti3 rfl rfl <| r_nil ?_
     refine sw_cond rfl (fun hc22 => ?_) (fun hc22 => ?_)
     ·
      replace h := bT hc22 h
      exact rl rfl <| u <| mv rfl <| u <| nc rfl rfl <| u <| fa ti117 rfl rfl rfl <| u <| ld ti108 rfl rfl <| u <| mv rfl <| u <| mup (v := 2) (g := (fun x => iA x)) (l := (mapPut v37 0 v33)) (s := v37) rfl rfl rfl rfl rfl rfl <| r_nil (⟨(mapPut v37 2 (mapPut v37 0 v33)), h, [.old 0, .old 1, .old 2, .old 3, .old 4], ce rfl rfl <| cv rfl (.mpt rfl) <| ce rfl rfl <| cv rfl (.msl rfl) <| ce rfl rfl <| ce rfl rfl <| cn, rfl, ⟨⟨_, rfl, rsOne ⟨ci rfl, .mmp rfl, .mmp rfl, .msl rfl, trivial⟩⟩, ⟨_, rfl, rsMap (fun _ => rfl)⟩, ⟨_, rfl, rsMap (fun _ => rfl)⟩, ⟨_, rfl, rsMap (fun _ => rfl)⟩, ⟨_, rfl, rsMap (fun _ => rfl)⟩, trivial⟩, rfl, Nat.le_of_ble_eq_true rfl⟩)
     ·
      replace h := bF hc22 h
      refine sw_skip ?_
      exact ⟨(mapPut v37 0 v33), h, [.old 0, .old 1, .old 2, .old 3, .old 4], ce rfl rfl <| cv rfl (.mpt rfl) <| ce rfl rfl <| cv rfl (.msl rfl) <| ce rfl rfl <| ce rfl rfl <| cn, rfl, ⟨⟨_, rfl, rsOne ⟨ci rfl, .mmp rfl, .mmp rfl, .msl rfl, trivial⟩⟩, ⟨_, rfl, rsMap (fun _ => rfl)⟩, ⟨_, rfl, rsMap (fun _ => rfl)⟩, ⟨_, rfl, rsMap (fun _ => rfl)⟩, ⟨_, rfl, rsMap (fun _ => rfl)⟩, trivial⟩, rfl, Nat.le_of_ble_eq_true rfl⟩
    ·
     rintro v38 h
     replace h : state_New_j6 v2 v34 v35 v36 v37 v38 = some r := h
     unfold state_New_j6 at h
     obtain ⟨v39, q23, h⟩ := bs h
     refine rg rfl <| u <| mv rfl <| u <| mv rfl <| u <| pc (hier_Hier_Class_s3_ok v2.l v2.at_ v37 q23) rfl rfl rfl <| u <| mv rfl <| u <| ex rfl rfl <| u <| ex rfl rfl <| u <| al 5 ti29 rfl <| u <| sto ti29 rfl rfl rfl <| u <| asg rfl <| r_nil ?_
     refine rg rfl <| u <| fa ti29 rfl rfl rfl <| u <| ld ti26 rfl rfl <| u <| lnI ti26 rfl rfl <| u <| mv rfl <| r_nil ?_
     obtain ⟨o, ho, h⟩ := bs h
     refine sw_lpl (X := (List (List UInt8 × FrameVal)) × (List (List UInt8)) × Int) (B := (List (List UInt8 × FrameVal)) × (List (List UInt8))) (R := (List ApiClass) × (List (List UInt8 × Int)) × (List (List UInt8 × Int)) × (List (List UInt8 × FrameVal)) × (List (List UInt8))) (fun z => [(0, .ipt 2 [[.isl 6 (List.map rApiClass v2.l), .imp (List.map (rKV (fun x => iA x)) v2.at_)]] 0 0), (3, .mpt 0 0 0), (5, sA v37), (16, .msl 4 0 (List.length v3)), (17, iA ((List.length v3) : Int)), (18, iA v36), (44, .isl 3 (List.map rApiField v39.1.Fields)), (45, iA (List.length v39.1.Fields : Int)), (46, iA z.2.2)]) (fun z => [some (4, [[.ipt 2 [[.isl 6 (List.map rApiClass v2.l), .imp (List.map (rKV (fun x => iA x)) v2.at_)]] 0 0, .mmp 1, .mmp 2, .msl 3 0 (List.length z.2.1)]]), some (2, List.map (rKV (fun x => iA x)) v38), some (2, List.map (rKV (fun x => .agg (rFrameVal x))) z.1), some (1, List.map rStr z.2.1), some (1, List.map rStr v3)]) (fun b => [(0, .ipt 2 [[.isl 6 (List.map rApiClass v2.l), .imp (List.map (rKV (fun x => iA x)) v2.at_)]] 0 0), (3, .mpt 0 0 0), (16, .msl 4 0 (List.length v3)), (17, iA ((List.length v3) : Int)), (18, iA v36)]) (fun b => [some (4, [[.ipt 2 [[.isl 6 (List.map rApiClass v2.l), .imp (List.map (rKV (fun x => iA x)) v2.at_)]] 0 0, .mmp 1, .mmp 2, .msl 3 0 (List.length b.2)]]), some (2, List.map (rKV (fun x => iA x)) v38), some (2, List.map (rKV (fun x => .agg (rFrameVal x))) b.1), some (1, List.map rStr b.2), some (1, List.map rStr v3)]) (fun r env st => PostF Tryz.prog Tryz.f24 0 (.mpt 0 0 0) [some (4, [[.ipt 2 [[.isl 6 (List.map rApiClass r.1), .imp (List.map (rKV (fun x => iA x)) r.2.1)]] 0 0, .mmp 1, .mmp 2, .msl 3 0 (List.length r.2.2.2.2)]]), some (2, List.map (rKV (fun x => iA x)) r.2.2.1), some (2, List.map (rKV (fun x => .agg (rFrameVal x))) r.2.2.2.1), some (1, List.map rStr r.2.2.2.2)] env st) ho ⟨[.old 0, .old 1, .old 2, .old 3, .old 4], ce rfl rfl <| cv rfl (.mpt rfl) <| ce rfl rfl <| cv rfl (.msl rfl) <| ce rfl rfl <| ce rfl rfl <| ce rfl rfl <| ce rfl rfl <| ce rfl rfl <| cn, rfl, ⟨⟨_, rfl, rsOne ⟨ci rfl, .mmp rfl, .mmp rfl, .msl rfl, trivial⟩⟩, ⟨_, rfl, rsMap (fun _ => rfl)⟩, ⟨_, rfl, rsMap (fun _ => rfl)⟩, ⟨_, rfl, rsMap (fun _ => rfl)⟩, ⟨_, rfl, rsMap (fun _ => rfl)⟩, trivial⟩, rfl, Nat.le_of_ble_eq_true rfl⟩ ?_ ?_ ?_
     ·
      rintro ⟨v50, v51, v52⟩ r h
      replace h : state_New_l9 v37 v39 v50 v51 v52 = some r := h
      unfold state_New_l9 at h
      refine rg rfl <| u <| lss ti3 rfl rfl <| r_nil ?_
      refine sw_seq ?_
      refine sw_cond rfl (fun hc31 => ?_) (fun hc31 => ?_)
      ·
       replace h := bT hc31 h
       refine sw_skip ?_
       refine sw_meet (X := (List (List UInt8 × FrameVal)) × (List (List UInt8))) (fun z => [(0, .ipt 2 [[.isl 6 (List.map rApiClass v2.l), .imp (List.map (rKV (fun x => iA x)) v2.at_)]] 0 0), (3, .mpt 0 0 0), (5, sA v37), (16, .msl 4 0 (List.length v3)), (17, iA ((List.length v3) : Int)), (18, iA v36), (44, .isl 3 (List.map rApiField v39.1.Fields)), (45, iA (List.length v39.1.Fields : Int)), (46, iA v52)]) (fun z => [some (4, [[.ipt 2 [[.isl 6 (List.map rApiClass v2.l), .imp (List.map (rKV (fun x => iA x)) v2.at_)]] 0 0, .mmp 1, .mmp 2, .msl 3 0 (List.length z.2)]]), some (2, List.map (rKV (fun x => iA x)) v38), some (2, List.map (rKV (fun x => .agg (rFrameVal x))) z.1), some (1, List.map rStr z.2), some (1, List.map rStr v3)]) (fun z => state_New_j8 v52 z.1 z.2 = some r) ?_ ?_
       ·
        refine sw_block ?_
        obtain ⟨v53, q32, h⟩ := bs h
        refine rg rfl <| u <| ixI ti26 rfl ti52 rfl rfl rfl q32 <| u <| ldI ti52 rfl (idx_some q32).2.2 rfl <| u <| al 5 ti52 rfl <| u <| sto ti52 rfl rfl rfl <| r_nil ?_
        refine rg rfl <| u <| fa ti52 rfl rfl rfl <| u <| ld ti4 rfl rfl <| r_nil ?_
        refine sw_cond rfl (fun hc33 => ?_) (fun hc33 => ?_)
        ·
         replace h := bT hc33 h
         obtain ⟨v54, q34, h⟩ := bs h
         obtain ⟨v55, q35, h⟩ := bs h
         refine rd [(0, .ipt 2 [[.isl 6 (List.map rApiClass v2.l), .imp (List.map (rKV (fun x => iA x)) v2.at_)]] 0 0), (3, .mpt 0 0 0), (5, sA v37), (9, .mpt 4 0 0), (16, .msl 5 0 (List.length v3)), (17, iA ((List.length v3) : Int)), (18, iA v36), (44, .isl 3 (List.map rApiField v39.1.Fields)), (45, iA (List.length v39.1.Fields : Int)), (46, iA v52)] [some (4, [[.ipt 2 [[.isl 6 (List.map rApiClass v2.l), .imp (List.map (rKV (fun x => iA x)) v2.at_)]] 0 0, .mmp 1, .mmp 2, .msl 3 0 (List.length v51)]]), some (2, List.map (rKV (fun x => iA x)) v38), some (2, List.map (rKV (fun x => .agg (rFrameVal x))) (mapPut v54 (FrameVal.mk v55 0) v50)), some (1, List.map rStr v51), some (3, [(rApiField v53)]), some (1, List.map rStr v3)] [12] [11, 10, 9, 8, 7, 6, 5, 4, 3, 2, 1, 0] [(63, .agg [bA v55, .lit (.int .i32 0)]), (62, bA v55), (61, sA v53.Type_), (60, .mpt 5 0 1), (59, sA v54), (58, sA v53.Name), (57, .mpt 5 0 0), (56, sA v37), (55, .mmp 2), (54, .mpt 0 0 2), (53, .mpt 0 0 0), (52, .mpt 0 0 0)] 1 (by kernel_rfl) (by kernel_rfl) rfl (by kernel_rfl) (dtS ⟨(fun _ => pa rfl rfl rfl rfl (bd ti54 rfl rfl rfl <| ⟨rfl, rfl⟩)), (fun _ => pa rfl rfl rfl rfl (pc (kind_Ref_ok v53.Type_ q35) rfl rfl rfl <| ⟨rfl, rfl⟩)), (fun _ => pa rfl rfl rfl rfl (ld ti9 rfl rfl <| ⟨rfl, rfl⟩)), (fun _ => pa rfl rfl rfl rfl (fa ti52 rfl rfl rfl <| ⟨rfl, rfl⟩)), (fun _ => pa rfl rfl rfl rfl (pc (state_key_ok v37 v53.Name q34) rfl rfl rfl <| ⟨rfl, rfl⟩)), (fun _ => pa rfl rfl rfl rfl (ld ti9 rfl rfl <| ⟨rfl, rfl⟩)), (fun _ => pa rfl rfl rfl rfl (fa ti52 rfl rfl rfl <| ⟨rfl, rfl⟩)), (fun _ => pa rfl rfl rfl rfl (mv rfl <| ⟨rfl, rfl⟩)), (fun _ => pa rfl rfl rfl rfl (ld ti115 rfl rfl <| ⟨rfl, rfl⟩)), (fun _ => pa rfl rfl rfl rfl (fa ti117 rfl rfl rfl <| ⟨rfl, rfl⟩)), (fun _ => pa rfl rfl rfl rfl (nc rfl rfl <| ⟨rfl, rfl⟩)), (fun _ => pa rfl rfl rfl rfl (mv rfl <| ⟨rfl, rfl⟩)), trivial⟩ (by kernel_rfl) rfl ⟨(fun _ _ => ⟨_, rfl, rfl, mup (v := (FrameVal.mk v55 0)) (g := (fun x => .agg (rFrameVal x))) (l := v50) (s := v54) rfl rfl rfl rfl rfl rfl <| ⟨.any, [], [], rfl, rfl, by kernel_rfl, trivial, dt0 ⟨(fun h => by cases h), (fun h => by cases h), (fun h => by cases h), (fun h => by cases h), (fun h => by cases h), (fun h => by cases h), (fun h => by cases h), (fun h => by cases h), (fun h => by cases h), (fun h => by cases h), (fun h => by cases h), (fun h => by cases h), trivial⟩ (by kernel_rfl) rfl ⟨[.old 0, .old 1, .old 2, .old 3, .old 5, .old 4], ce rfl rfl <| cv rfl (.mpt rfl) <| ce rfl rfl <| cv rfl (.mpt rfl) <| cv rfl (.msl rfl) <| ce rfl rfl <| ce rfl rfl <| ce rfl rfl <| ce rfl rfl <| ce rfl rfl <| cn, rfl, ⟨⟨_, rfl, rsOne ⟨ci rfl, .mmp rfl, .mmp rfl, .msl rfl, trivial⟩⟩, ⟨_, rfl, rsMap (fun _ => rfl)⟩, ⟨_, rfl, rsMap (fun _ => rfl)⟩, ⟨_, rfl, rsMap (fun _ => rfl)⟩, ⟨_, rfl, rsOne (ciL rfl)⟩, ⟨_, rfl, rsMap (fun _ => rfl)⟩, trivial⟩, rfl, Nat.le_of_ble_eq_true rfl⟩⟩⟩), trivial⟩) ?_
         obtain ⟨v56, q36, h⟩ := bs h
         obtain ⟨v57, q37, h⟩ := bs h
         refine rdL [(0, .ipt 2 [[.isl 6 (List.map rApiClass v2.l), .imp (List.map (rKV (fun x => iA x)) v2.at_)]] 0 0), (3, .mpt 0 0 0), (5, sA v37), (16, .msl 4 0 (List.length v3)), (17, iA ((List.length v3) : Int)), (18, iA v36), (44, .isl 3 (List.map rApiField v39.1.Fields)), (45, iA (List.length v39.1.Fields : Int)), (46, iA v52)] [some (4, [[.ipt 2 [[.isl 6 (List.map rApiClass v2.l), .imp (List.map (rKV (fun x => iA x)) v2.at_)]] 0 0, .mmp 1, .mmp 2, .msl 3 0 (List.length v57)]]), some (2, List.map (rKV (fun x => iA x)) v38), some (2, List.map (rKV (fun x => .agg (rFrameVal x))) (mapPut v54 (FrameVal.mk v55 0) v50)), some (1, List.map rStr v57), some (1, List.map rStr v3)] [9, 10, 13] [8, 7, 6, 5, 4, 3, 2, 1, 0] [(72, sA v56), (71, sA v53.Name), (70, .mpt 4 0 0), (69, sA v37), (68, .msl 3 0 (List.length v51)), (67, .mpt 0 0 3), (66, .mpt 0 0 0), (65, .mpt 0 0 0), (64, .mpt 0 0 0)] 3 (by kernel_rfl) (by kernel_rfl) rfl (by kernel_rfl) (dtS ⟨(fun _ => pa rfl rfl rfl rfl (pc (state_key_ok v37 v53.Name q36) rfl rfl rfl <| ⟨rfl, rfl⟩)), (fun _ => pa rfl rfl rfl rfl (ld ti9 rfl rfl <| ⟨rfl, rfl⟩)), (fun _ => pa rfl rfl rfl rfl (fa ti52 rfl rfl rfl <| ⟨rfl, rfl⟩)), (fun _ => pa rfl rfl rfl rfl (mv rfl <| ⟨rfl, rfl⟩)), (fun _ => pa rfl rfl rfl rfl (ld ti25 rfl rfl <| ⟨rfl, rfl⟩)), (fun _ => pa rfl rfl rfl rfl (fa ti117 rfl rfl rfl <| ⟨rfl, rfl⟩)), (fun _ => pa rfl rfl rfl rfl (nc rfl rfl <| ⟨rfl, rfl⟩)), (fun _ => pa rfl rfl rfl rfl (mv rfl <| ⟨rfl, rfl⟩)), (fun _ => pa rfl rfl rfl rfl (mv rfl <| ⟨rfl, rfl⟩)), trivial⟩ (by kernel_rfl) rfl ⟨(fun _ _ => ⟨_, rfl, rfl, bl 6 ti25 rfl ti9 rfl (by decide) (by decide) rfl rfl rfl <| ⟨(.msl 6 0 1), [], [(73, .msl 6 0 1)], rfl, rfl, by kernel_rfl, rfl, dtS ⟨(fun h => by cases h), (fun _ => pa rfl rfl rfl rfl (ld ti9 rfl rfl <| ⟨rfl, rfl⟩)), (fun _ => pa rfl rfl rfl rfl (fa ti52 rfl rfl rfl <| ⟨rfl, rfl⟩)), (fun _ => pa rfl rfl rfl rfl (mv rfl <| ⟨rfl, rfl⟩)), (fun _ => pa rfl rfl rfl rfl (ld ti25 rfl rfl <| ⟨rfl, rfl⟩)), (fun _ => pa rfl rfl rfl rfl (fa ti117 rfl rfl rfl <| ⟨rfl, rfl⟩)), (fun _ => pa rfl rfl rfl rfl (nc rfl rfl <| ⟨rfl, rfl⟩)), (fun _ => pa rfl rfl rfl rfl (mv rfl <| ⟨rfl, rfl⟩)), (fun _ => pa rfl rfl rfl rfl (mv rfl <| ⟨rfl, rfl⟩)), trivial⟩ (by kernel_rfl) rfl ⟨(fun h => by cases h), (fun _ _ => ⟨_, rfl, rfl, apM 7 ti25 rfl ti9 rfl rfl (by decide) ti25 rfl rfl rfl rfl (roX (f := rStr) (z := [v56]) rfl rfl) (fun _ => rfl) rfl q37 <| ⟨(.msl 7 0 (List.length v57)), [12, 11], [(76, .mpt 0 0 3), (75, .mpt 0 0 0), (74, .msl 7 0 (List.length v57))], rfl, rfl, by kernel_rfl, rfl, dtS ⟨(fun _ => pa rfl rfl rfl rfl (fa ti117 rfl rfl rfl <| ⟨rfl, rfl⟩)), (fun _ => pa rfl rfl rfl rfl (nc rfl rfl <| ⟨rfl, rfl⟩)), (fun h => by cases h), (fun _ => pa rfl rfl rfl rfl (ld ti9 rfl rfl <| ⟨rfl, rfl⟩)), (fun _ => pa rfl rfl rfl rfl (fa ti52 rfl rfl rfl <| ⟨rfl, rfl⟩)), (fun _ => pa rfl rfl rfl rfl (mv rfl <| ⟨rfl, rfl⟩)), (fun h => by cases h), (fun _ => pa rfl rfl rfl rfl (fa ti117 rfl rfl rfl <| ⟨rfl, rfl⟩)), (fun _ => pa rfl rfl rfl rfl (nc rfl rfl <| ⟨rfl, rfl⟩)), (fun _ => pa rfl rfl rfl rfl (mv rfl <| ⟨rfl, rfl⟩)), (fun _ => pa rfl rfl rfl rfl (mv rfl <| ⟨rfl, rfl⟩)), trivial⟩ (by kernel_rfl) rfl ⟨(fun h => by cases h), (fun h => by cases h), (fun _ _ => ⟨_, rfl, rfl, sto ti25 rfl rfl rfl <| ⟨.any, [], [], rfl, rfl, by kernel_rfl, trivial, dt0 ⟨(fun h => by cases h), (fun _ => pa rfl rfl rfl rfl (nc rfl rfl <| ⟨rfl, rfl⟩)), (fun h => by cases h), (fun h => by cases h), (fun h => by cases h), (fun h => by cases h), (fun h => by cases h), (fun h => by cases h), (fun h => by cases h), (fun h => by cases h), (fun h => by cases h), trivial⟩ (by kernel_rfl) rfl ⟨[.old 0, .old 1, .old 2, .old 7, .old 5], ce rfl rfl <| cv rfl (.mpt rfl) <| ce rfl rfl <| cv rfl (.msl rfl) <| ce rfl rfl <| ce rfl rfl <| ce rfl rfl <| ce rfl rfl <| ce rfl rfl <| cn, rfl, ⟨⟨_, rfl, rsOne ⟨ci rfl, .mmp rfl, .mmp rfl, .msl rfl, trivial⟩⟩, ⟨_, rfl, rsMap (fun _ => rfl)⟩, ⟨_, rfl, rsMap (fun _ => rfl)⟩, ⟨_, rfl, rsMap (fun _ => rfl)⟩, ⟨_, rfl, rsMap (fun _ => rfl)⟩, trivial⟩, rfl, Nat.le_of_ble_eq_true rfl⟩⟩⟩), trivial⟩⟩⟩), (fun _ h => by cases h), trivial⟩⟩⟩), (fun _ h => by cases h), (fun _ h => by cases h), trivial⟩) ?_
         exact ⟨⟨(mapPut v54 (FrameVal.mk v55 0) v50), v57⟩, h, [.old 0, .old 1, .old 2, .old 3, .old 4], ce rfl rfl <| cv rfl (.mpt rfl) <| ce rfl rfl <| cv rfl (.msl rfl) <| ce rfl rfl <| ce rfl rfl <| ce rfl rfl <| ce rfl rfl <| ce rfl rfl <| cn, rfl, ⟨⟨_, rfl, rsOne ⟨ci rfl, .mmp rfl, .mmp rfl, .msl rfl, trivial⟩⟩, ⟨_, rfl, rsMap (fun _ => rfl)⟩, ⟨_, rfl, rsMap (fun _ => rfl)⟩, ⟨_, rfl, rsMap (fun _ => rfl)⟩, ⟨_, rfl, rsMap (fun _ => rfl)⟩, trivial⟩, rfl, Nat.le_of_ble_eq_true rfl⟩
        ·
         replace h := bF hc33 h
         refine sw_skip ?_
         exact ⟨⟨v50, v51⟩, h, [.old 0, .old 1, .old 2, .old 3, .old 4], ce rfl rfl <| cv rfl (.mpt rfl) <| ce rfl rfl <| cv rfl (.msl rfl) <| ce rfl rfl <| ce rfl rfl <| ce rfl rfl <| ce rfl rfl <| ce rfl rfl <| cn, rfl, ⟨⟨_, rfl, rsOne ⟨ci rfl, .mmp rfl, .mmp rfl, .msl rfl, trivial⟩⟩, ⟨_, rfl, rsMap (fun _ => rfl)⟩, ⟨_, rfl, rsMap (fun _ => rfl)⟩, ⟨_, rfl, rsMap (fun _ => rfl)⟩, ⟨_, rfl, rsMap (fun _ => rfl)⟩, trivial⟩, rfl, Nat.le_of_ble_eq_true rfl⟩
       ·
        rintro ⟨v58, v59⟩ h
        replace h : state_New_j8 v52 v58 v59 = some r := h
        unfold state_New_j8 at h
        refine rl rfl <| u <| add ti3 rfl rfl <| u <| mv rfl <| r_nil ?_
        obtain rfl := sm h
        exact ⟨_, rfl, [.old 0, .old 1, .old 2, .old 3, .old 4], ce rfl rfl <| cv rfl (.mpt rfl) <| ce rfl rfl <| cv rfl (.msl rfl) <| ce rfl rfl <| ce rfl rfl <| ce rfl rfl <| ce rfl rfl <| ce rfl rfl <| cn, rfl, ⟨⟨_, rfl, rsOne ⟨ci rfl, .mmp rfl, .mmp rfl, .msl rfl, trivial⟩⟩, ⟨_, rfl, rsMap (fun _ => rfl)⟩, ⟨_, rfl, rsMap (fun _ => rfl)⟩, ⟨_, rfl, rsMap (fun _ => rfl)⟩, ⟨_, rfl, rsMap (fun _ => rfl)⟩, trivial⟩, rfl, Nat.le_of_ble_eq_true rfl⟩
      ·
       replace h := bF hc31 h
       refine sw_exit ?_
       obtain rfl := sm h
       exact ⟨rfl, _, rfl, [.old 0, .old 1, .old 2, .old 3, .old 4], ce rfl rfl <| cv rfl (.mpt rfl) <| cv rfl (.msl rfl) <| ce rfl rfl <| ce rfl rfl <| cn, rfl, ⟨⟨_, rfl, rsOne ⟨ci rfl, .mmp rfl, .mmp rfl, .msl rfl, trivial⟩⟩, ⟨_, rfl, rsMap (fun _ => rfl)⟩, ⟨_, rfl, rsMap (fun _ => rfl)⟩, ⟨_, rfl, rsMap (fun _ => rfl)⟩, ⟨_, rfl, rsMap (fun _ => rfl)⟩, trivial⟩, rfl, Nat.le_of_ble_eq_true rfl⟩
     ·
      rintro ⟨v60, v61⟩ rfl
      replace h : state_New_k10 v36 v38 v60 v61 = some r := h
      unfold state_New_k10 at h
      refine ow_intro ?_
      refine rl rfl <| u <| add ti3 rfl rfl <| u <| mv rfl <| r_nil ?_
      obtain rfl := sm h
      exact ⟨_, rfl, [.old 0, .old 1, .old 2, .old 3, .old 4], ce rfl rfl <| cv rfl (.mpt rfl) <| cv rfl (.msl rfl) <| ce rfl rfl <| ce rfl rfl <| cn, rfl, ⟨⟨_, rfl, rsOne ⟨ci rfl, .mmp rfl, .mmp rfl, .msl rfl, trivial⟩⟩, ⟨_, rfl, rsMap (fun _ => rfl)⟩, ⟨_, rfl, rsMap (fun _ => rfl)⟩, ⟨_, rfl, rsMap (fun _ => rfl)⟩, ⟨_, rfl, rsMap (fun _ => rfl)⟩, trivial⟩, rfl, Nat.le_of_ble_eq_true rfl⟩
     ·
      rintro r' rfl env st hp
      obtain rfl := sm h
      exact ⟨_, rfl, hp⟩
   ·
    replace h := bF hc20 h
    refine sw_exit ?_
    obtain rfl := sm h
    exact ⟨rfl, _, rfl, [.old 0, .old 1, .old 2, .old 3], cv rfl (.mpt rfl) <| cn, rfl, ⟨⟨_, rfl, rsOne ⟨ci rfl, .mmp rfl, .mmp rfl, .msl rfl, trivial⟩⟩, ⟨_, rfl, rsMap (fun _ => rfl)⟩, ⟨_, rfl, rsMap (fun _ => rfl)⟩, ⟨_, rfl, rsMap (fun _ => rfl)⟩, trivial⟩, rfl, Nat.le_of_ble_eq_true rfl⟩
  ·
   rintro ⟨v62, v63, v64⟩ rfl
   replace h : state_New_k12 v2 v62 v63 v64 = some r := h
   unfold state_New_k12 at h
   refine ow_intro ?_
   refine rg rfl <| u <| mv rfl <| u <| asg rfl <| r_nil ?_
   refine sw_ret ?_
   obtain rfl := sm h
   exact ⟨_, rfl, [.old 0, .old 1, .old 2, .old 3], .mpt rfl, rfl, ⟨⟨_, rfl, rsOne ⟨ci rfl, .mmp rfl, .mmp rfl, .msl rfl, trivial⟩⟩, ⟨_, rfl, rsMap (fun _ => rfl)⟩, ⟨_, rfl, rsMap (fun _ => rfl)⟩, ⟨_, rfl, rsMap (fun _ => rfl)⟩, trivial⟩, rfl, Nat.le_of_ble_eq_true rfl⟩
  ·
   rintro r' rfl env st hp
   obtain rfl := sm h
   exact hp
noncomputable def state_State_Next_s2_k2 : Option ((List UInt8) × Int) :=
  some ([], 2)
noncomputable def state_State_Next_s2_l1 (v3 : List (List UInt8 × Int)) (v7 : (List (List UInt8))) (v11 : Int) : Option (Sum (Int) (Sum (Unit) ((List UInt8) × Int))) :=
  cond (decide (0 ≤ v11)) ((idx v7 v11).bind fun v12 => cond (((Option.getD (mapGet v12 v3) 0) == (0 : Int)) || ((Option.getD (mapGet v12 v3) 0) == (3 : Int))) ((idx v7 v11).bind fun v13 => some (.inr (.inr (v13, (Option.getD (mapGet v12 v3) 0))))) (some (.inl (IntKind.i64.wrap (v11 - 1))))) (some (.inr (.inl ())))
noncomputable def state_State_Next_s2 (v1 : List ApiClass) (v2 : List (List UInt8 × Int)) (v3 : List (List UInt8 × Int)) (v4 : List (List UInt8 × FrameVal)) (v5 : List (List UInt8)) (v6 : List UInt8) : Option ((List UInt8) × Int) :=
  (hier_Hier_Supers_s2 v1 v2 v6).bind fun v7 => (loopP (fun z => state_State_Next_s2_l1 v3 v7 z) (IntKind.i64.wrap (((List.length v7) : Int) - 1))).bind fun o => leave o (fun b => state_State_Next_s2_k2) some
theorem state_State_Next_s2_ok (v1 : List ApiClass) (v2 : List (List UInt8 × Int)) (v3 : List (List UInt8 × Int)) (v4 : List (List UInt8 × FrameVal)) (v5 : List (List UInt8)) (v6 : List UInt8) {r : (List UInt8) × Int} (h : state_State_Next_s2 v1 v2 v3 v4 v5 v6 = some r) : SC Tryz.prog 26 [.mpt 0 0 0, sA v6] [.one 4 [.ipt 2 [[.isl 6 (List.map rApiClass v1), .imp (List.map (rKV (fun x => iA x)) v2)]] 0 0, .mmp 1, .mmp 2, .msl 3 0 (List.length v5)], .many 2 (List.map (rKV (fun x => iA x)) v3), .many 2 (List.map (rKV (fun x => .agg (rFrameVal x))) v4), .many 1 (List.map rStr v5)] (.tup [sA r.1, iA r.2]) [.one 4 [.ipt 2 [[.isl 6 (List.map rApiClass v1), .imp (List.map (rKV (fun x => iA x)) v2)]] 0 0, .mmp 1, .mmp 2, .msl 3 0 (List.length v5)], .many 2 (List.map (rKV (fun x => iA x)) v3), .many 2 (List.map (rKV (fun x => .agg (rFrameVal x))) v4), .many 1 (List.map rStr v5)] := by
 refine ⟨⟨trivial, sbOk (sz := 2) (fun _ => rfl), sbOk (sz := 2) (fun _ => rfl), sbOk (sz := 1) (fun _ => rfl), trivial⟩, scall_fn Tryz.func26 rfl (by kernel_rfl) rfl ?_⟩
 unfold state_State_Next_s2 at h
 refine rg rfl <| u <| asg rfl <| u <| asg rfl <| r_nil ?_
 refine sw_seq ?_
 refine rg rfl <| u <| mv rfl <| u <| eqp ti36 rfl rfl rfl rfl rfl rfl <| r_nil ?_
 refine sw_cond rfl (fun hx => by cases hx) (fun _ => ?_)
 refine sw_skip ?_
 obtain ⟨v7, q1, h⟩ := bs h
 refine rg rfl <| u <| mv rfl <| u <| nc rfl rfl <| u <| fa ti117 rfl rfl rfl <| u <| ld ti32 rfl rfl <| u <| mv rfl <| u <| sc [] (hier_Hier_Supers_s2_ok v1 v2 v6 q1) rfl rfl rfl rfl ⟨(rnI rfl), (rnI rfl), trivial⟩ trivial <| r_can (env0 := [(0, .mpt 0 0 0), (16, .msl 4 0 (List.length v7))]) (st0 := [some (4, [[.ipt 2 [[.isl 6 (List.map rApiClass v1), .imp (List.map (rKV (fun x => iA x)) v2)]] 0 0, .mmp 1, .mmp 2, .msl 3 0 (List.length v5)]]), some (2, List.map (rKV (fun x => iA x)) v3), some (2, List.map (rKV (fun x => .agg (rFrameVal x))) v4), some (1, List.map rStr v5), some (1, List.map rStr v7)]) ⟨[.old 0, .old 1, .old 2, .old 3, .old 4], cv rfl (.mpt rfl) <| cv rfl (.msl rfl) <| cn, rfl, ⟨⟨_, rfl, rsOne ⟨ci rfl, .mmp rfl, .mmp rfl, .msl rfl, trivial⟩⟩, ⟨_, rfl, rsMap (fun _ => rfl)⟩, ⟨_, rfl, rsMap (fun _ => rfl)⟩, ⟨_, rfl, rsMap (fun _ => rfl)⟩, ⟨_, rfl, rsMap (fun _ => rfl)⟩, trivial⟩, rfl, Nat.le_of_ble_eq_true rfl⟩ <| u <| asg rfl <| r_nil ?_
 refine sw_seq ?_
 refine rg rfl <| u <| mv rfl <| u <| lnM ti25 rfl rfl rfl <| u <| sub ti3 rfl rfl <| u <| asg rfl <| r_nil ?_
 obtain ⟨o, ho, h⟩ := bs h
 refine sw_lpl (X := Int) (B := Unit) (R := (List UInt8) × Int) (fun z => [(0, .mpt 0 0 0), (6, .msl 4 0 (List.length v7)), (7, iA z)]) (fun z => [some (4, [[.ipt 2 [[.isl 6 (List.map rApiClass v1), .imp (List.map (rKV (fun x => iA x)) v2)]] 0 0, .mmp 1, .mmp 2, .msl 3 0 (List.length v5)]]), some (2, List.map (rKV (fun x => iA x)) v3), some (2, List.map (rKV (fun x => .agg (rFrameVal x))) v4), some (1, List.map rStr v5), some (1, List.map rStr v7)]) (fun b => []) (fun b => [some (4, [[.ipt 2 [[.isl 6 (List.map rApiClass v1), .imp (List.map (rKV (fun x => iA x)) v2)]] 0 0, .mmp 1, .mmp 2, .msl 3 0 (List.length v5)]]), some (2, List.map (rKV (fun x => iA x)) v3), some (2, List.map (rKV (fun x => .agg (rFrameVal x))) v4), some (1, List.map rStr v5)]) (fun r env st => PostF Tryz.prog Tryz.f26 4 (.tup [sA r.1, iA r.2]) [some (4, [[.ipt 2 [[.isl 6 (List.map rApiClass v1), .imp (List.map (rKV (fun x => iA x)) v2)]] 0 0, .mmp 1, .mmp 2, .msl 3 0 (List.length v5)]]), some (2, List.map (rKV (fun x => iA x)) v3), some (2, List.map (rKV (fun x => .agg (rFrameVal x))) v4), some (1, List.map rStr v5)] env st) ho ⟨[.old 0, .old 1, .old 2, .old 3, .old 4], cv rfl (.mpt rfl) <| cv rfl (.msl rfl) <| ce rfl rfl <| cn, rfl, ⟨⟨_, rfl, rsOne ⟨ci rfl, .mmp rfl, .mmp rfl, .msl rfl, trivial⟩⟩, ⟨_, rfl, rsMap (fun _ => rfl)⟩, ⟨_, rfl, rsMap (fun _ => rfl)⟩, ⟨_, rfl, rsMap (fun _ => rfl)⟩, ⟨_, rfl, rsMap (fun _ => rfl)⟩, trivial⟩, rfl, Nat.le_of_ble_eq_true rfl⟩ ?_ ?_ ?_
 ·
  rintro v11 r h
  replace h : state_State_Next_s2_l1 v3 v7 v11 = some r := h
  unfold state_State_Next_s2_l1 at h
  refine sw_seq ?_
  refine rg rfl <| u <| mv rfl <| u <| geq ti3 rfl rfl <| r_nil ?_
  refine sw_cond rfl (fun hc7 => ?_) (fun hc7 => ?_)
  ·
   replace h := bT hc7 h
   refine sw_skip ?_
   refine sw_seq ?_
   refine sw_block ?_
   obtain ⟨v12, q8, h⟩ := bs h
   refine rd [(0, .mpt 0 0 0), (6, .msl 4 0 (List.length v7)), (7, iA v11), (8, iA (Option.getD (mapGet v12 v3) 0))] [some (4, [[.ipt 2 [[.isl 6 (List.map rApiClass v1), .imp (List.map (rKV (fun x => iA x)) v2)]] 0 0, .mmp 1, .mmp 2, .msl 3 0 (List.length v5)]]), some (2, List.map (rKV (fun x => iA x)) v3), some (2, List.map (rKV (fun x => .agg (rFrameVal x))) v4), some (1, List.map rStr v5), some (1, List.map rStr v7)] [] [9, 8, 7, 6, 5, 4, 3, 2, 1, 0] [(8, iA (Option.getD (mapGet v12 v3) 0)), (32, iA (Option.getD (mapGet v12 v3) 0)), (31, sA v12), (30, .mpt 4 (Int.toNat v11) 0), (29, iA v11), (28, .msl 4 0 (List.length v7)), (27, .mmp 1), (26, .mpt 0 0 1), (25, .mpt 0 0 0), (24, .mpt 0 0 0)] 0 (by kernel_rfl) (by kernel_rfl) rfl (by kernel_rfl) (dt0 ⟨(fun _ => pa rfl rfl rfl rfl (asg rfl <| ⟨rfl, rfl⟩)), (fun _ => pa rfl rfl rfl rfl (mlkF (g := (fun x => iA x)) (z := 0) (l := v3) rfl ti3 rfl rfl rfl rfl <| ⟨rfl, rfl⟩)), (fun _ => pa rfl rfl rfl rfl (ldM ti9 rfl rfl (idx_some q8).2.2 rfl <| ⟨rfl, rfl⟩)), (fun _ => pa rfl rfl rfl rfl (ixM ti25 rfl ti9 rfl rfl rfl rfl q8 <| ⟨rfl, rfl⟩)), (fun _ => pa rfl rfl rfl rfl (mv rfl <| ⟨rfl, rfl⟩)), (fun _ => pa rfl rfl rfl rfl (mv rfl <| ⟨rfl, rfl⟩)), (fun _ => pa rfl rfl rfl rfl (ld ti108 rfl rfl <| ⟨rfl, rfl⟩)), (fun _ => pa rfl rfl rfl rfl (fa ti117 rfl rfl rfl <| ⟨rfl, rfl⟩)), (fun _ => pa rfl rfl rfl rfl (nc rfl rfl <| ⟨rfl, rfl⟩)), (fun _ => pa rfl rfl rfl rfl (mv rfl <| ⟨rfl, rfl⟩)), trivial⟩ (by kernel_rfl) rfl ⟨[.old 0, .old 1, .old 2, .old 3, .old 4], cv rfl (.mpt rfl) <| cv rfl (.msl rfl) <| ce rfl rfl <| ce rfl rfl <| cn, rfl, ⟨⟨_, rfl, rsOne ⟨ci rfl, .mmp rfl, .mmp rfl, .msl rfl, trivial⟩⟩, ⟨_, rfl, rsMap (fun _ => rfl)⟩, ⟨_, rfl, rsMap (fun _ => rfl)⟩, ⟨_, rfl, rsMap (fun _ => rfl)⟩, ⟨_, rfl, rsMap (fun _ => rfl)⟩, trivial⟩, rfl, Nat.le_of_ble_eq_true rfl⟩) ?_
   refine rg rfl <| u <| mv rfl <| u <| eql ti3 rfl rfl <| u <| mv rfl <| r_or (j := 2) 2 rfl rfl rfl rfl rfl gpn (fun hb9 => g rfl hb9 <| mv rfl <| g rfl hb9 <| eql ti3 rfl rfl <| r_nil (egO [36, 37] 2 hb9 rfl rfl rfl rfl)) orT <| r_nil ?_
   refine sw_cond rfl (fun hc10 => ?_) (fun hc10 => ?_)
   ·
    replace h := bT hc10 h
    obtain ⟨v13, q11, h⟩ := bs h
    refine rg rfl <| u <| mv rfl <| u <| mv rfl <| u <| ixM ti25 rfl ti9 rfl rfl rfl rfl q11 <| u <| ldM ti9 rfl rfl (idx_some q11).2.2 rfl <| u <| mv rfl <| u <| asg rfl <| u <| asg rfl <| r_nil ?_
    refine sw_ret ?_
    obtain rfl := sm h
    exact ⟨_, rfl, _, rfl, [.old 0, .old 1, .old 2, .old 3], rsTup ⟨(ci rfl), (ci rfl), trivial⟩, rfl, ⟨⟨_, rfl, rsOne ⟨ci rfl, .mmp rfl, .mmp rfl, .msl rfl, trivial⟩⟩, ⟨_, rfl, rsMap (fun _ => rfl)⟩, ⟨_, rfl, rsMap (fun _ => rfl)⟩, ⟨_, rfl, rsMap (fun _ => rfl)⟩, trivial⟩, rfl, Nat.le_of_ble_eq_true rfl⟩
   ·
    replace h := bF hc10 h
    refine sw_skip ?_
    refine rl rfl <| u <| mv rfl <| u <| sub ti3 rfl rfl <| u <| asg rfl <| r_nil ?_
    obtain rfl := sm h
    exact ⟨_, rfl, [.old 0, .old 1, .old 2, .old 3, .old 4], cv rfl (.mpt rfl) <| cv rfl (.msl rfl) <| ce rfl rfl <| cn, rfl, ⟨⟨_, rfl, rsOne ⟨ci rfl, .mmp rfl, .mmp rfl, .msl rfl, trivial⟩⟩, ⟨_, rfl, rsMap (fun _ => rfl)⟩, ⟨_, rfl, rsMap (fun _ => rfl)⟩, ⟨_, rfl, rsMap (fun _ => rfl)⟩, ⟨_, rfl, rsMap (fun _ => rfl)⟩, trivial⟩, rfl, Nat.le_of_ble_eq_true rfl⟩
  ·
   replace h := bF hc7 h
   refine sw_exit ?_
   obtain rfl := sm h
   exact ⟨rfl, _, rfl, [.old 0, .old 1, .old 2, .old 3], cn, rfl, ⟨⟨_, rfl, rsOne ⟨ci rfl, .mmp rfl, .mmp rfl, .msl rfl, trivial⟩⟩, ⟨_, rfl, rsMap (fun _ => rfl)⟩, ⟨_, rfl, rsMap (fun _ => rfl)⟩, ⟨_, rfl, rsMap (fun _ => rfl)⟩, trivial⟩, rfl, Nat.le_of_ble_eq_true rfl⟩
 ·
  rintro ⟨⟩ rfl
  replace h : state_State_Next_s2_k2 = some r := h
  unfold state_State_Next_s2_k2 at h
  refine ow_intro ?_
  refine rg rfl <| u <| asg rfl <| u <| asg rfl <| r_nil ?_
  refine sw_ret ?_
  obtain rfl := sm h
  exact ⟨_, rfl, [.old 0, .old 1, .old 2, .old 3], rsTup ⟨(ci rfl), (ci rfl), trivial⟩, rfl, ⟨⟨_, rfl, rsOne ⟨ci rfl, .mmp rfl, .mmp rfl, .msl rfl, trivial⟩⟩, ⟨_, rfl, rsMap (fun _ => rfl)⟩, ⟨_, rfl, rsMap (fun _ => rfl)⟩, ⟨_, rfl, rsMap (fun _ => rfl)⟩, trivial⟩, rfl, Nat.le_of_ble_eq_true rfl⟩
 ·
  rintro r' rfl env st hp
  obtain rfl := sm h
  exact hp
noncomputable def state_State_Set_s2 (v1 : List ApiClass) (v2 : List (List UInt8 × Int)) (v3 : List (List UInt8 × Int)) (v4 : List (List UInt8 × FrameVal)) (v5 : List (List UInt8)) (v6 : List UInt8) (v7 : Int) : (List (List UInt8 × Int)) :=
  cond ((decide (v7 < 0)) || (decide (3 < v7))) (v3) (cond (Option.isSome (mapGet v6 v3)) ((mapPut v6 v7 v3)) (v3))
theorem state_State_Set_s2_ok (v1 : List ApiClass) (v2 : List (List UInt8 × Int)) (v3 : List (List UInt8 × Int)) (v4 : List (List UInt8 × FrameVal)) (v5 : List (List UInt8)) (v6 : List UInt8) (v7 : Int) {r : (List (List UInt8 × Int))} (h : state_State_Set_s2 v1 v2 v3 v4 v5 v6 v7 = r) : SC Tryz.prog 25 [.mpt 0 0 0, sA v6, iA v7] [.one 4 [.ipt 2 [[.isl 6 (List.map rApiClass v1), .imp (List.map (rKV (fun x => iA x)) v2)]] 0 0, .mmp 1, .mmp 2, .msl 3 0 (List.length v5)], .many 2 (List.map (rKV (fun x => iA x)) v3), .many 2 (List.map (rKV (fun x => .agg (rFrameVal x))) v4), .many 1 (List.map rStr v5)] (.tup []) [.one 4 [.ipt 2 [[.isl 6 (List.map rApiClass v1), .imp (List.map (rKV (fun x => iA x)) v2)]] 0 0, .mmp 1, .mmp 2, .msl 3 0 (List.length v5)], .many 2 (List.map (rKV (fun x => iA x)) r), .many 2 (List.map (rKV (fun x => .agg (rFrameVal x))) v4), .many 1 (List.map rStr v5)] := by
 refine ⟨⟨trivial, sbOk (sz := 2) (fun _ => rfl), sbOk (sz := 2) (fun _ => rfl), sbOk (sz := 1) (fun _ => rfl), trivial⟩, scall_fn Tryz.func25 rfl (by kernel_rfl) rfl ?_⟩
 unfold state_State_Set_s2 at h
 refine sw_seq ?_
 refine rg rfl <| u <| mv rfl <| u <| eqp ti36 rfl rfl rfl rfl rfl rfl <| u <| mv rfl <| g rfl rfl <| mv rfl <| g rfl rfl <| lss ti3 rfl rfl <| u <| pk (b := false) rfl rfl <| u <| mv rfl <| r_or (j := 6) 2 rfl rfl rfl rfl rfl gpn (fun hb1 => g rfl hb1 <| mv rfl <| g rfl hb1 <| gtr ti3 rfl rfl <| r_nil (egO [15, 16] 2 hb1 rfl rfl rfl rfl)) orT <| r_nil ?_
 refine sw_cond rfl (fun hc2 => ?_) (fun hc2 => ?_)
 ·
  replace h := bT hc2 h
  refine sw_ret ?_
  obtain rfl := h
  exact ⟨_, rfl, [.old 0, .old 1, .old 2, .old 3], rsTup trivial, rfl, ⟨⟨_, rfl, rsOne ⟨ci rfl, .mmp rfl, .mmp rfl, .msl rfl, trivial⟩⟩, ⟨_, rfl, rsMap (fun _ => rfl)⟩, ⟨_, rfl, rsMap (fun _ => rfl)⟩, ⟨_, rfl, rsMap (fun _ => rfl)⟩, trivial⟩, rfl, Nat.le_of_ble_eq_true rfl⟩
 ·
  replace h := bF hc2 h
  refine sw_skip ?_
  refine rg rfl <| u <| mv rfl <| u <| nc rfl rfl <| u <| fa ti117 rfl rfl rfl <| u <| ld ti108 rfl rfl <| u <| mv rfl <| u <| mlkT (g := (fun x => iA x)) (z := 0) (l := v3) rfl ti3 rfl rfl rfl rfl <| u <| mv rfl <| u <| ex rfl rfl <| u <| ex rfl rfl <| u <| asg rfl <| u <| asg rfl <| r_nil ?_
  refine rg rfl <| u <| mv rfl <| r_nil ?_
  refine sw_cond rfl (fun hc3 => ?_) (fun hc3 => ?_)
  ·
   replace h := bT hc3 h
   refine rl rfl <| u <| mv rfl <| u <| nc rfl rfl <| u <| fa ti117 rfl rfl rfl <| u <| ld ti108 rfl rfl <| u <| mv rfl <| u <| mv rfl <| u <| mup (v := v7) (g := (fun x => iA x)) (l := v3) (s := v6) rfl rfl rfl rfl rfl rfl <| r_nil ?_
   obtain rfl := h
   exact ⟨_, rfl, [.old 0, .old 1, .old 2, .old 3], rsTup trivial, rfl, ⟨⟨_, rfl, rsOne ⟨ci rfl, .mmp rfl, .mmp rfl, .msl rfl, trivial⟩⟩, ⟨_, rfl, rsMap (fun _ => rfl)⟩, ⟨_, rfl, rsMap (fun _ => rfl)⟩, ⟨_, rfl, rsMap (fun _ => rfl)⟩, trivial⟩, rfl, Nat.le_of_ble_eq_true rfl⟩
  ·
   replace h := bF hc3 h
   refine sw_skip ?_
   obtain rfl := h
   exact ⟨_, rfl, [.old 0, .old 1, .old 2, .old 3], rsTup trivial, rfl, ⟨⟨_, rfl, rsOne ⟨ci rfl, .mmp rfl, .mmp rfl, .msl rfl, trivial⟩⟩, ⟨_, rfl, rsMap (fun _ => rfl)⟩, ⟨_, rfl, rsMap (fun _ => rfl)⟩, ⟨_, rfl, rsMap (fun _ => rfl)⟩, trivial⟩, rfl, Nat.le_of_ble_eq_true rfl⟩
noncomputable def state_State_Get_s2 (v1 : List ApiClass) (v2 : List (List UInt8 × Int)) (v3 : List (List UInt8 × Int)) (v4 : List (List UInt8 × FrameVal)) (v5 : List (List UInt8)) (v6 : List UInt8) (v7 : List UInt8) : Option (FrameVal × Bool) :=
  (state_key v6 v7).bind fun v8 => some ((Option.getD (mapGet v8 v4) (FrameVal.mk false 0)), (Option.isSome (mapGet v8 v4)))
theorem state_State_Get_s2_ok (v1 : List ApiClass) (v2 : List (List UInt8 × Int)) (v3 : List (List UInt8 × Int)) (v4 : List (List UInt8 × FrameVal)) (v5 : List (List UInt8)) (v6 : List UInt8) (v7 : List UInt8) {r : FrameVal × Bool} (h : state_State_Get_s2 v1 v2 v3 v4 v5 v6 v7 = some r) : SC Tryz.prog 35 [.mpt 0 0 0, sA v6, sA v7] [.one 4 [.ipt 2 [[.isl 6 (List.map rApiClass v1), .imp (List.map (rKV (fun x => iA x)) v2)]] 0 0, .mmp 1, .mmp 2, .msl 3 0 (List.length v5)], .many 2 (List.map (rKV (fun x => iA x)) v3), .many 2 (List.map (rKV (fun x => .agg (rFrameVal x))) v4), .many 1 (List.map rStr v5)] (.tup [.agg (rFrameVal r.1), bA r.2]) [.one 4 [.ipt 2 [[.isl 6 (List.map rApiClass v1), .imp (List.map (rKV (fun x => iA x)) v2)]] 0 0, .mmp 1, .mmp 2, .msl 3 0 (List.length v5)], .many 2 (List.map (rKV (fun x => iA x)) v3), .many 2 (List.map (rKV (fun x => .agg (rFrameVal x))) v4), .many 1 (List.map rStr v5)] := by
 refine ⟨⟨trivial, sbOk (sz := 2) (fun _ => rfl), sbOk (sz := 2) (fun _ => rfl), sbOk (sz := 1) (fun _ => rfl), trivial⟩, scall_fn Tryz.func35 rfl (by kernel_rfl) rfl ?_⟩
 unfold state_State_Get_s2 at h
 refine rg rfl <| u <| al 4 ti54 rfl <| u <| asg rfl <| r_nil ?_
 refine sw_seq ?_
 refine rg rfl <| u <| mv rfl <| u <| eqp ti36 rfl rfl rfl rfl rfl rfl <| r_nil ?_
 refine sw_cond rfl (fun hx => by cases hx) (fun _ => ?_)
 refine sw_skip ?_
 obtain ⟨v8, q1, h⟩ := bs h
 refine rd [(6, .mpt 4 0 0), (8, .mpt 5 0 0), (9, bA (Option.isSome (mapGet v8 v4)))] [some (4, [[.ipt 2 [[.isl 6 (List.map rApiClass v1), .imp (List.map (rKV (fun x => iA x)) v2)]] 0 0, .mmp 1, .mmp 2, .msl 3 0 (List.length v5)]]), some (2, List.map (rKV (fun x => iA x)) v3), some (2, List.map (rKV (fun x => .agg (rFrameVal x))) v4), some (1, List.map rStr v5), some (2, [[bA false, .lit (.int .i32 0)]]), some (2, [[bA ((Option.getD (mapGet v8 v4) (FrameVal.mk false 0)).Ref), .lit (.int .i32 ((Option.getD (mapGet v8 v4) (FrameVal.mk false 0)).N))]])] [11, 12] [10, 9, 8, 7, 6, 5, 4, 3, 2, 1, 0] [(23, bA (Option.isSome (mapGet v8 v4))), (22, .agg [bA ((Option.getD (mapGet v8 v4) (FrameVal.mk false 0)).Ref), .lit (.int .i32 ((Option.getD (mapGet v8 v4) (FrameVal.mk false 0)).N))]), (13, .tup [.agg [bA ((Option.getD (mapGet v8 v4) (FrameVal.mk false 0)).Ref), .lit (.int .i32 ((Option.getD (mapGet v8 v4) (FrameVal.mk false 0)).N))], bA (Option.isSome (mapGet v8 v4))]), (21, .tup [.agg [bA ((Option.getD (mapGet v8 v4) (FrameVal.mk false 0)).Ref), .lit (.int .i32 ((Option.getD (mapGet v8 v4) (FrameVal.mk false 0)).N))], bA (Option.isSome (mapGet v8 v4))]), (20, sA v8), (19, sA v7), (18, sA v6), (17, .mmp 2), (16, .mpt 0 0 2), (15, .mpt 0 0 0), (14, .mpt 0 0 0)] 2 (by kernel_rfl) (by kernel_rfl) rfl (by kernel_rfl) (dtS ⟨(fun _ => pa rfl rfl rfl rfl (ex rfl rfl <| ⟨rfl, rfl⟩)), (fun _ => pa rfl rfl rfl rfl (ex rfl rfl <| ⟨rfl, rfl⟩)), (fun _ => pa rfl rfl rfl rfl (mv rfl <| ⟨rfl, rfl⟩)), (fun _ => pa rfl rfl rfl rfl (mlkT (g := (fun x => .agg (rFrameVal x))) (z := (FrameVal.mk false 0)) (l := v4) rfl ti54 rfl rfl rfl rfl <| ⟨rfl, rfl⟩)), (fun _ => pa rfl rfl rfl rfl (pc (state_key_ok v6 v7 q1) rfl rfl rfl <| ⟨rfl, rfl⟩)), (fun _ => pa rfl rfl rfl rfl (mv rfl <| ⟨rfl, rfl⟩)), (fun _ => pa rfl rfl rfl rfl (mv rfl <| ⟨rfl, rfl⟩)), (fun _ => pa rfl rfl rfl rfl (ld ti115 rfl rfl <| ⟨rfl, rfl⟩)), (fun _ => pa rfl rfl rfl rfl (fa ti117 rfl rfl rfl <| ⟨rfl, rfl⟩)), (fun _ => pa rfl rfl rfl rfl (nc rfl rfl <| ⟨rfl, rfl⟩)), (fun _ => pa rfl rfl rfl rfl (mv rfl <| ⟨rfl, rfl⟩)), trivial⟩ (by kernel_rfl) rfl ⟨(fun _ _ => ⟨_, rfl, rfl, al 5 ti54 rfl <| ⟨(.mpt 5 0 0), [], [(8, .mpt 5 0 0)], rfl, rfl, by kernel_rfl, rfl, dtS ⟨(fun _ => pa rfl rfl rfl rfl (ex rfl rfl <| ⟨rfl, rfl⟩)), (fun _ => pa rfl rfl rfl rfl (ex rfl rfl <| ⟨rfl, rfl⟩)), (fun _ => pa rfl rfl rfl rfl (mv rfl <| ⟨rfl, rfl⟩)), (fun _ => pa rfl rfl rfl rfl (mlkT (g := (fun x => .agg (rFrameVal x))) (z := (FrameVal.mk false 0)) (l := v4) rfl ti54 rfl rfl rfl rfl <| ⟨rfl, rfl⟩)), (fun _ => pa rfl rfl rfl rfl (pc (state_key_ok v6 v7 q1) rfl rfl rfl <| ⟨rfl, rfl⟩)), (fun _ => pa rfl rfl rfl rfl (mv rfl <| ⟨rfl, rfl⟩)), (fun _ => pa rfl rfl rfl rfl (mv rfl <| ⟨rfl, rfl⟩)), (fun _ => pa rfl rfl rfl rfl (ld ti115 rfl rfl <| ⟨rfl, rfl⟩)), (fun _ => pa rfl rfl rfl rfl (fa ti117 rfl rfl rfl <| ⟨rfl, rfl⟩)), (fun _ => pa rfl rfl rfl rfl (nc rfl rfl <| ⟨rfl, rfl⟩)), (fun _ => pa rfl rfl rfl rfl (mv rfl <| ⟨rfl, rfl⟩)), trivial⟩ (by kernel_rfl) rfl ⟨(fun h => by cases h), (fun _ _ => ⟨_, rfl, rfl, sto ti54 rfl rfl rfl <| ⟨.any, [13], [(9, bA (Option.isSome (mapGet v8 v4)))], rfl, rfl, by kernel_rfl, trivial, dt0 ⟨(fun _ => pa rfl rfl rfl rfl (asg rfl <| ⟨rfl, rfl⟩)), (fun _ => pa rfl rfl rfl rfl (ex rfl rfl <| ⟨rfl, rfl⟩)), (fun h => by cases h), (fun h => by cases h), (fun h => by cases h), (fun h => by cases h), (fun h => by cases h), (fun h => by cases h), (fun h => by cases h), (fun h => by cases h), (fun h => by cases h), (fun h => by cases h), trivial⟩ (by kernel_rfl) rfl ⟨[.old 0, .old 1, .old 2, .old 3, .old 4, .old 5], cv rfl (.mpt rfl) <| cv rfl (.mpt rfl) <| ce rfl rfl <| cn, rfl, ⟨⟨_, rfl, rsOne ⟨ci rfl, .mmp rfl, .mmp rfl, .msl rfl, trivial⟩⟩, ⟨_, rfl, rsMap (fun _ => rfl)⟩, ⟨_, rfl, rsMap (fun _ => rfl)⟩, ⟨_, rfl, rsMap (fun _ => rfl)⟩, ⟨_, rfl, rsOne (ciL rfl)⟩, ⟨_, rfl, rsOne (ciL rfl)⟩, trivial⟩, rfl, Nat.le_of_ble_eq_true rfl⟩⟩⟩), trivial⟩⟩⟩), (fun _ h => by cases h), trivial⟩) ?_
 refine rg rfl <| u <| ld ti54 rfl rfl <| u <| mv rfl <| u <| sto ti54 rfl rfl rfl <| u <| asg rfl <| r_nil ?_
 refine sw_ret ?_
 obtain rfl := sm h
 exact ⟨_, rfl, [.old 0, .old 1, .old 2, .old 3], rsTup ⟨(ci rfl), (ci rfl), trivial⟩, rfl, ⟨⟨_, rfl, rsOne ⟨ci rfl, .mmp rfl, .mmp rfl, .msl rfl, trivial⟩⟩, ⟨_, rfl, rsMap (fun _ => rfl)⟩, ⟨_, rfl, rsMap (fun _ => rfl)⟩, ⟨_, rfl, rsMap (fun _ => rfl)⟩, trivial⟩, rfl, Nat.le_of_ble_eq_true rfl⟩
noncomputable def state_State_Put (v1 : List ApiClass) (v2 : List (List UInt8 × Int)) (v3 : List (List UInt8 × Int)) (v4 : List (List UInt8 × FrameVal)) (v5 : List (List UInt8)) (v6 : List UInt8) (v7 : List UInt8) (v8 : FrameVal) : Option (Bool × (List (List UInt8 × FrameVal))) :=
  (state_State_Get_s2 v1 v2 v3 v4 v5 v6 v7).bind fun v9 => cond ((!v9.2) || (!(v9.1.Ref == v8.Ref))) (some (false, v4)) ((state_key v6 v7).bind fun v10 => some (true, (mapPut v10 v8 v4)))
theorem state_State_Put_ok (v1 : List ApiClass) (v2 : List (List UInt8 × Int)) (v3 : List (List UInt8 × Int)) (v4 : List (List UInt8 × FrameVal)) (v5 : List (List UInt8)) (v6 : List UInt8) (v7 : List UInt8) (v8 : FrameVal) {r : Bool × (List (List UInt8 × FrameVal))} (h : state_State_Put v1 v2 v3 v4 v5 v6 v7 v8 = some r) : SC Tryz.prog 30 [.mpt 0 0 0, sA v6, sA v7, .agg (rFrameVal v8)] [.one 4 [.ipt 2 [[.isl 6 (List.map rApiClass v1), .imp (List.map (rKV (fun x => iA x)) v2)]] 0 0, .mmp 1, .mmp 2, .msl 3 0 (List.length v5)], .many 2 (List.map (rKV (fun x => iA x)) v3), .many 2 (List.map (rKV (fun x => .agg (rFrameVal x))) v4), .many 1 (List.map rStr v5)] (bA r.1) [.one 4 [.ipt 2 [[.isl 6 (List.map rApiClass v1), .imp (List.map (rKV (fun x => iA x)) v2)]] 0 0, .mmp 1, .mmp 2, .msl 3 0 (List.length v5)], .many 2 (List.map (rKV (fun x => iA x)) v3), .many 2 (List.map (rKV (fun x => .agg (rFrameVal x))) r.2), .many 1 (List.map rStr v5)] := by
 refine ⟨⟨trivial, sbOk (sz := 2) (fun _ => rfl), sbOk (sz := 2) (fun _ => rfl), sbOk (sz := 1) (fun _ => rfl), trivial⟩, scall_fn Tryz.func30 rfl (by kernel_rfl) rfl ?_⟩
 unfold state_State_Put at h
 refine rg rfl <| u <| bx 4 2 rfl rfl rfl rfl <| u <| asg rfl <| r_nil ?_
 refine sw_seq ?_
 obtain ⟨v9, q1, h⟩ := bs h
 refine rg rfl <| u <| mv rfl <| u <| mv rfl <| u <| mv rfl <| u <| sc [0, 1, 2, 3] (state_State_Get_s2_ok v1 v2 v3 v4 v5 v6 v7 q1) rfl rfl rfl rfl ⟨(.mpt rfl), (rnI rfl), (rnI rfl), trivial⟩ ⟨⟨_, rfl, ⟨(rnI rfl), (.mmp rfl), (.mmp rfl), (.msl rfl), trivial⟩⟩, ⟨rfl, mkI (fun _ => rfl)⟩, ⟨rfl, mkI (fun _ => rfl)⟩, ⟨rfl, mkI (fun _ => rfl)⟩, trivial⟩ <| r_can (env0 := [(0, .mpt 0 0 0), (1, sA v6), (2, sA v7), (7, .mpt 4 0 0), (15, .tup [.agg (rFrameVal v9.1), bA v9.2])]) (st0 := [some (4, [[.ipt 2 [[.isl 6 (List.map rApiClass v1), .imp (List.map (rKV (fun x => iA x)) v2)]] 0 0, .mmp 1, .mmp 2, .msl 3 0 (List.length v5)]]), some (2, List.map (rKV (fun x => iA x)) v3), some (2, List.map (rKV (fun x => .agg (rFrameVal x))) v4), some (1, List.map rStr v5), some (2, [(rFrameVal v8)])]) ⟨[.old 0, .old 1, .old 2, .old 3, .old 4], cv rfl (.mpt rfl) <| ce rfl rfl <| ce rfl rfl <| cv rfl (.mpt rfl) <| ce rfl rfl <| cn, rfl, ⟨⟨_, rfl, rsOne ⟨ci rfl, .mmp rfl, .mmp rfl, .msl rfl, trivial⟩⟩, ⟨_, rfl, rsMap (fun _ => rfl)⟩, ⟨_, rfl, rsMap (fun _ => rfl)⟩, ⟨_, rfl, rsMap (fun _ => rfl)⟩, ⟨_, rfl, rsOne (ciL rfl)⟩, trivial⟩, rfl, Nat.le_of_ble_eq_true rfl⟩ <| u <| mv rfl <| u <| ex rfl rfl <| u <| ex rfl rfl <| u <| al 5 ti54 rfl <| u <| sto ti54 rfl rfl rfl <| u <| asg rfl <| r_nil ?_
 refine rg rfl <| u <| mv rfl <| u <| nt rfl <| u <| mv rfl <| r_or (j := 2) 5 rfl rfl rfl rfl rfl gpn (fun hb2 => g rfl hb2 <| fa ti54 rfl rfl rfl <| g rfl hb2 <| ld ti4 rfl rfl <| g rfl hb2 <| fa ti54 rfl rfl rfl <| g rfl hb2 <| ld ti4 rfl rfl <| g rfl hb2 <| bne ti4 rfl rfl rfl <| r_nil (egO [21, 22, 23, 24, 25] 5 hb2 rfl rfl rfl rfl)) orT <| r_nil ?_
 refine sw_cond rfl (fun hc3 => ?_) (fun hc3 => ?_)
 ·
  replace h := bT hc3 h
  refine rg rfl <| u <| asg rfl <| r_nil ?_
  refine sw_ret ?_
  obtain rfl := sm h
  exact ⟨_, rfl, [.old 0, .old 1, .old 2, .old 3], ci rfl, rfl, ⟨⟨_, rfl, rsOne ⟨ci rfl, .mmp rfl, .mmp rfl, .msl rfl, trivial⟩⟩, ⟨_, rfl, rsMap (fun _ => rfl)⟩, ⟨_, rfl, rsMap (fun _ => rfl)⟩, ⟨_, rfl, rsMap (fun _ => rfl)⟩, trivial⟩, rfl, Nat.le_of_ble_eq_true rfl⟩
 ·
  replace h := bF hc3 h
  refine sw_skip ?_
  obtain ⟨v10, q4, h⟩ := bs h
  refine rd [] [some (4, [[.ipt 2 [[.isl 6 (List.map rApiClass v1), .imp (List.map (rKV (fun x => iA x)) v2)]] 0 0, .mmp 1, .mmp 2, .msl 3 0 (List.length v5)]]), some (2, List.map (rKV (fun x => iA x)) v3), some (2, List.map (rKV (fun x => .agg (rFrameVal x))) (mapPut v10 v8 v4)), some (1, List.map rStr v5)] [8] [7, 6, 5, 4, 3, 2, 1, 0] [(34, .agg (rFrameVal v8)), (33, sA v10), (32, sA v7), (31, sA v6), (30, .mmp 2), (29, .mpt 0 0 2), (28, .mpt 0 0 0), (27, .mpt 0 0 0)] 1 (by kernel_rfl) (by kernel_rfl) rfl (by kernel_rfl) (dtS ⟨(fun _ => pa rfl rfl rfl rfl (ld ti54 rfl rfl <| ⟨rfl, rfl⟩)), (fun _ => pa rfl rfl rfl rfl (pc (state_key_ok v6 v7 q4) rfl rfl rfl <| ⟨rfl, rfl⟩)), (fun _ => pa rfl rfl rfl rfl (mv rfl <| ⟨rfl, rfl⟩)), (fun _ => pa rfl rfl rfl rfl (mv rfl <| ⟨rfl, rfl⟩)), (fun _ => pa rfl rfl rfl rfl (ld ti115 rfl rfl <| ⟨rfl, rfl⟩)), (fun _ => pa rfl rfl rfl rfl (fa ti117 rfl rfl rfl <| ⟨rfl, rfl⟩)), (fun _ => pa rfl rfl rfl rfl (nc rfl rfl <| ⟨rfl, rfl⟩)), (fun _ => pa rfl rfl rfl rfl (mv rfl <| ⟨rfl, rfl⟩)), trivial⟩ (by kernel_rfl) rfl ⟨(fun _ _ => ⟨_, rfl, rfl, mup (v := v8) (g := (fun x => .agg (rFrameVal x))) (l := v4) (s := v10) rfl rfl rfl rfl rfl rfl <| ⟨.any, [], [], rfl, rfl, by kernel_rfl, trivial, dt0 ⟨(fun h => by cases h), (fun h => by cases h), (fun h => by cases h), (fun h => by cases h), (fun h => by cases h), (fun h => by cases h), (fun h => by cases h), (fun h => by cases h), trivial⟩ (by kernel_rfl) rfl ⟨[.old 0, .old 1, .old 2, .old 3], cn, rfl, ⟨⟨_, rfl, rsOne ⟨ci rfl, .mmp rfl, .mmp rfl, .msl rfl, trivial⟩⟩, ⟨_, rfl, rsMap (fun _ => rfl)⟩, ⟨_, rfl, rsMap (fun _ => rfl)⟩, ⟨_, rfl, rsMap (fun _ => rfl)⟩, trivial⟩, rfl, Nat.le_of_ble_eq_true rfl⟩⟩⟩), trivial⟩) ?_
  refine rg rfl <| u <| asg rfl <| r_nil ?_
  refine sw_ret ?_
  obtain rfl := sm h
  exact ⟨_, rfl, [.old 0, .old 1, .old 2, .old 3], ci rfl, rfl, ⟨⟨_, rfl, rsOne ⟨ci rfl, .mmp rfl, .mmp rfl, .msl rfl, trivial⟩⟩, ⟨_, rfl, rsMap (fun _ => rfl)⟩, ⟨_, rfl, rsMap (fun _ => rfl)⟩, ⟨_, rfl, rsMap (fun _ => rfl)⟩, trivial⟩, rfl, Nat.le_of_ble_eq_true rfl⟩
theorem cloneM0_ok (v1 : List (List UInt8 × Int)) {r : Unit} (_ : () = r) : SC Tryz.prog 74 [.mmp 0] [.many 2 (List.map (rKV (fun x => iA x)) v1)] (.mmp 1) [.many 2 (List.map (rKV (fun x => iA x)) v1), .many 2 (List.map (rKV (fun x => iA x)) v1)] :=
 ⟨⟨sbOk (sz := 2) (fun _ => rfl), sbOk (sz := 2) (fun _ => rfl), trivial⟩, mcS0 _⟩
theorem cloneM1_ok (v1 : List (List UInt8 × FrameVal)) {r : Unit} (_ : () = r) : SC Tryz.prog 75 [.mmp 0] [.many 2 (List.map (rKV (fun x => .agg (rFrameVal x))) v1)] (.mmp 1) [.many 2 (List.map (rKV (fun x => .agg (rFrameVal x))) v1), .many 2 (List.map (rKV (fun x => .agg (rFrameVal x))) v1)] :=
 ⟨⟨sbOk (sz := 2) (fun _ => rfl), sbOk (sz := 2) (fun _ => rfl), trivial⟩, mcS1 _⟩
noncomputable def state_State_Copy (v1 : List ApiClass) (v2 : List (List UInt8 × Int)) (v3 : List (List UInt8 × Int)) (v4 : List (List UInt8 × FrameVal)) (v5 : List (List UInt8)) : (List ApiClass) × (List (List UInt8 × Int)) × (List (List UInt8 × Int)) × (List (List UInt8 × FrameVal)) × (List (List UInt8)) :=
  (v1, v2, v3, v4, v5)
theorem state_State_Copy_ok (v1 : List ApiClass) (v2 : List (List UInt8 × Int)) (v3 : List (List UInt8 × Int)) (v4 : List (List UInt8 × FrameVal)) (v5 : List (List UInt8)) {r : (List ApiClass) × (List (List UInt8 × Int)) × (List (List UInt8 × Int)) × (List (List UInt8 × FrameVal)) × (List (List UInt8))} (h : state_State_Copy v1 v2 v3 v4 v5 = r) : SC Tryz.prog 34 [.mpt 0 0 0] [.one 4 [.ipt 2 [[.isl 6 (List.map rApiClass v1), .imp (List.map (rKV (fun x => iA x)) v2)]] 0 0, .mmp 1, .mmp 2, .msl 3 0 (List.length v5)], .many 2 (List.map (rKV (fun x => iA x)) v3), .many 2 (List.map (rKV (fun x => .agg (rFrameVal x))) v4), .many 1 (List.map rStr v5)] (.mpt 4 0 0) [.one 4 [.ipt 2 [[.isl 6 (List.map rApiClass v1), .imp (List.map (rKV (fun x => iA x)) v2)]] 0 0, .mmp 1, .mmp 2, .msl 3 0 (List.length r.2.2.2.2)], .many 2 (List.map (rKV (fun x => iA x)) v3), .many 2 (List.map (rKV (fun x => .agg (rFrameVal x))) v4), .many 1 (List.map rStr r.2.2.2.2), .one 4 [.ipt 2 [[.isl 6 (List.map rApiClass r.1), .imp (List.map (rKV (fun x => iA x)) r.2.1)]] 0 0, .mmp 5, .mmp 6, .msl 3 0 (List.length r.2.2.2.2)], .many 2 (List.map (rKV (fun x => iA x)) r.2.2.1), .many 2 (List.map (rKV (fun x => .agg (rFrameVal x))) r.2.2.2.1)] := by
 refine ⟨⟨trivial, sbOk (sz := 2) (fun _ => rfl), sbOk (sz := 2) (fun _ => rfl), sbOk (sz := 1) (fun _ => rfl), trivial, sbOk (sz := 2) (fun _ => rfl), sbOk (sz := 2) (fun _ => rfl), trivial⟩, scall_fn Tryz.func34 rfl (by kernel_rfl) rfl ?_⟩
 unfold state_State_Copy at h
 refine rg rfl <| u <| asg rfl <| r_nil ?_
 refine sw_seq ?_
 refine rg rfl <| u <| mv rfl <| u <| eqp ti36 rfl rfl rfl rfl rfl rfl <| r_nil ?_
 refine sw_cond rfl (fun hx => by cases hx) (fun _ => ?_)
 refine sw_skip ?_
 refine rd [(2, .mpt 4 0 0)] [some (4, [[.ipt 2 [[.isl 6 (List.map rApiClass v1), .imp (List.map (rKV (fun x => iA x)) v2)]] 0 0, .mmp 1, .mmp 2, .msl 3 0 (List.length v5)]]), some (2, List.map (rKV (fun x => iA x)) v3), some (2, List.map (rKV (fun x => .agg (rFrameVal x))) v4), some (1, List.map rStr v5), some (4, [[.ipt 2 [[.isl 6 (List.map rApiClass v1), .imp (List.map (rKV (fun x => iA x)) v2)]] 0 0, .mmp 5, .mmp 6, .msl 3 0 (List.length v5)]]), some (2, List.map (rKV (fun x => iA x)) v3), some (2, List.map (rKV (fun x => .agg (rFrameVal x))) v4)] [8, 13, 19] [17, 16, 15, 14, 12, 11, 10, 9, 7, 6, 5, 4, 3, 2, 1, 0] [(22, .msl 3 0 (List.length v5)), (21, .mpt 0 0 3), (20, .mpt 0 0 0), (19, .mpt 0 0 0), (17, .mmp 2), (16, .mpt 0 0 2), (15, .mpt 0 0 0), (14, .mpt 0 0 0), (12, .mmp 1), (11, .mpt 0 0 1), (10, .mpt 0 0 0), (9, .mpt 0 0 0), (8, .ipt 2 [[.isl 6 (List.map rApiClass v1), .imp (List.map (rKV (fun x => iA x)) v2)]] 0 0), (7, .mpt 0 0 0), (6, .mpt 0 0 0), (5, .mpt 0 0 0)] 3 (by kernel_rfl) (by kernel_rfl) rfl (by kernel_rfl) (dtS ⟨(fun _ => pa rfl rfl rfl rfl (ld ti25 rfl rfl <| ⟨rfl, rfl⟩)), (fun _ => pa rfl rfl rfl rfl (fa ti117 rfl rfl rfl <| ⟨rfl, rfl⟩)), (fun _ => pa rfl rfl rfl rfl (nc rfl rfl <| ⟨rfl, rfl⟩)), (fun _ => pa rfl rfl rfl rfl (mv rfl <| ⟨rfl, rfl⟩)), (fun _ => pa rfl rfl rfl rfl (ld ti115 rfl rfl <| ⟨rfl, rfl⟩)), (fun _ => pa rfl rfl rfl rfl (fa ti117 rfl rfl rfl <| ⟨rfl, rfl⟩)), (fun _ => pa rfl rfl rfl rfl (nc rfl rfl <| ⟨rfl, rfl⟩)), (fun _ => pa rfl rfl rfl rfl (mv rfl <| ⟨rfl, rfl⟩)), (fun _ => pa rfl rfl rfl rfl (ld ti108 rfl rfl <| ⟨rfl, rfl⟩)), (fun _ => pa rfl rfl rfl rfl (fa ti117 rfl rfl rfl <| ⟨rfl, rfl⟩)), (fun _ => pa rfl rfl rfl rfl (nc rfl rfl <| ⟨rfl, rfl⟩)), (fun _ => pa rfl rfl rfl rfl (mv rfl <| ⟨rfl, rfl⟩)), (fun _ => pa rfl rfl rfl rfl (ld ti32 rfl rfl <| ⟨rfl, rfl⟩)), (fun _ => pa rfl rfl rfl rfl (fa ti117 rfl rfl rfl <| ⟨rfl, rfl⟩)), (fun _ => pa rfl rfl rfl rfl (nc rfl rfl <| ⟨rfl, rfl⟩)), (fun _ => pa rfl rfl rfl rfl (mv rfl <| ⟨rfl, rfl⟩)), trivial⟩ (by kernel_rfl) rfl ⟨(fun _ _ => ⟨_, rfl, rfl, sc [1] (cloneM0_ok v3 rfl) rfl rfl rfl rfl ⟨(.mmp rfl), trivial⟩ ⟨⟨rfl, mkI (fun _ => rfl)⟩, trivial⟩ <| ⟨(.mmp 4), [], [(13, .mmp 4)], rfl, rfl, by kernel_rfl, rfl, dtS ⟨(fun _ => pa rfl rfl rfl rfl (ld ti25 rfl rfl <| ⟨rfl, rfl⟩)), (fun _ => pa rfl rfl rfl rfl (fa ti117 rfl rfl rfl <| ⟨rfl, rfl⟩)), (fun _ => pa rfl rfl rfl rfl (nc rfl rfl <| ⟨rfl, rfl⟩)), (fun _ => pa rfl rfl rfl rfl (mv rfl <| ⟨rfl, rfl⟩)), (fun _ => pa rfl rfl rfl rfl (ld ti115 rfl rfl <| ⟨rfl, rfl⟩)), (fun _ => pa rfl rfl rfl rfl (fa ti117 rfl rfl rfl <| ⟨rfl, rfl⟩)), (fun _ => pa rfl rfl rfl rfl (nc rfl rfl <| ⟨rfl, rfl⟩)), (fun _ => pa rfl rfl rfl rfl (mv rfl <| ⟨rfl, rfl⟩)), (fun h => by cases h), (fun _ => pa rfl rfl rfl rfl (fa ti117 rfl rfl rfl <| ⟨rfl, rfl⟩)), (fun _ => pa rfl rfl rfl rfl (nc rfl rfl <| ⟨rfl, rfl⟩)), (fun _ => pa rfl rfl rfl rfl (mv rfl <| ⟨rfl, rfl⟩)), (fun _ => pa rfl rfl rfl rfl (ld ti32 rfl rfl <| ⟨rfl, rfl⟩)), (fun _ => pa rfl rfl rfl rfl (fa ti117 rfl rfl rfl <| ⟨rfl, rfl⟩)), (fun _ => pa rfl rfl rfl rfl (nc rfl rfl <| ⟨rfl, rfl⟩)), (fun _ => pa rfl rfl rfl rfl (mv rfl <| ⟨rfl, rfl⟩)), trivial⟩ (by kernel_rfl) rfl ⟨(fun h => by cases h), (fun _ _ => ⟨_, rfl, rfl, sc [2] (cloneM1_ok v4 rfl) rfl rfl rfl rfl ⟨(.mmp rfl), trivial⟩ ⟨⟨rfl, mkI (fun _ => rfl)⟩, trivial⟩ <| ⟨(.mmp 5), [18], [(23, .agg [.ipt 2 [[.isl 6 (List.map rApiClass v1), .imp (List.map (rKV (fun x => iA x)) v2)]] 0 0, .mmp 4, .mmp 5, .msl 3 0 (List.length v5)]), (18, .mmp 5)], rfl, rfl, by kernel_rfl, rfl, dtS ⟨(fun _ => pa rfl rfl rfl rfl (bd ti117 rfl rfl rfl <| ⟨rfl, rfl⟩)), (fun _ => pa rfl rfl rfl rfl (ld ti25 rfl rfl <| ⟨rfl, rfl⟩)), (fun _ => pa rfl rfl rfl rfl (fa ti117 rfl rfl rfl <| ⟨rfl, rfl⟩)), (fun _ => pa rfl rfl rfl rfl (nc rfl rfl <| ⟨rfl, rfl⟩)), (fun _ => pa rfl rfl rfl rfl (mv rfl <| ⟨rfl, rfl⟩)), (fun h => by cases h), (fun _ => pa rfl rfl rfl rfl (fa ti117 rfl rfl rfl <| ⟨rfl, rfl⟩)), (fun _ => pa rfl rfl rfl rfl (nc rfl rfl <| ⟨rfl, rfl⟩)), (fun _ => pa rfl rfl rfl rfl (mv rfl <| ⟨rfl, rfl⟩)), (fun h => by cases h), (fun _ => pa rfl rfl rfl rfl (fa ti117 rfl rfl rfl <| ⟨rfl, rfl⟩)), (fun _ => pa rfl rfl rfl rfl (nc rfl rfl <| ⟨rfl, rfl⟩)), (fun _ => pa rfl rfl rfl rfl (mv rfl <| ⟨rfl, rfl⟩)), (fun _ => pa rfl rfl rfl rfl (ld ti32 rfl rfl <| ⟨rfl, rfl⟩)), (fun _ => pa rfl rfl rfl rfl (fa ti117 rfl rfl rfl <| ⟨rfl, rfl⟩)), (fun _ => pa rfl rfl rfl rfl (nc rfl rfl <| ⟨rfl, rfl⟩)), (fun _ => pa rfl rfl rfl rfl (mv rfl <| ⟨rfl, rfl⟩)), trivial⟩ (by kernel_rfl) rfl ⟨(fun h => by cases h), (fun h => by cases h), (fun _ _ => ⟨_, rfl, rfl, bx 6 4 rfl rfl rfl rfl <| ⟨(.mpt 6 0 0), [20], [(2, .mpt 6 0 0), (24, .mpt 6 0 0)], rfl, rfl, by kernel_rfl, rfl, dt0 ⟨(fun _ => pa rfl rfl rfl rfl (asg rfl <| ⟨rfl, rfl⟩)), (fun h => by cases h), (fun _ => pa rfl rfl rfl rfl (ld ti25 rfl rfl <| ⟨rfl, rfl⟩)), (fun _ => pa rfl rfl rfl rfl (fa ti117 rfl rfl rfl <| ⟨rfl, rfl⟩)), (fun _ => pa rfl rfl rfl rfl (nc rfl rfl <| ⟨rfl, rfl⟩)), (fun _ => pa rfl rfl rfl rfl (mv rfl <| ⟨rfl, rfl⟩)), (fun h => by cases h), (fun _ => pa rfl rfl rfl rfl (fa ti117 rfl rfl rfl <| ⟨rfl, rfl⟩)), (fun _ => pa rfl rfl rfl rfl (nc rfl rfl <| ⟨rfl, rfl⟩)), (fun _ => pa rfl rfl rfl rfl (mv rfl <| ⟨rfl, rfl⟩)), (fun h => by cases h), (fun _ => pa rfl rfl rfl rfl (fa ti117 rfl rfl rfl <| ⟨rfl, rfl⟩)), (fun _ => pa rfl rfl rfl rfl (nc rfl rfl <| ⟨rfl, rfl⟩)), (fun _ => pa rfl rfl rfl rfl (mv rfl <| ⟨rfl, rfl⟩)), (fun _ => pa rfl rfl rfl rfl (ld ti32 rfl rfl <| ⟨rfl, rfl⟩)), (fun _ => pa rfl rfl rfl rfl (fa ti117 rfl rfl rfl <| ⟨rfl, rfl⟩)), (fun _ => pa rfl rfl rfl rfl (nc rfl rfl <| ⟨rfl, rfl⟩)), (fun _ => pa rfl rfl rfl rfl (mv rfl <| ⟨rfl, rfl⟩)), trivial⟩ (by kernel_rfl) rfl ⟨[.old 0, .old 1, .old 2, .old 3, .old 6, .old 4, .old 5], cv rfl (.mpt rfl) <| cn, rfl, ⟨⟨_, rfl, rsOne ⟨ci rfl, .mmp rfl, .mmp rfl, .msl rfl, trivial⟩⟩, ⟨_, rfl, rsMap (fun _ => rfl)⟩, ⟨_, rfl, rsMap (fun _ => rfl)⟩, ⟨_, rfl, rsMap (fun _ => rfl)⟩, ⟨_, rfl, rsOne ⟨ci rfl, .mmp rfl, .mmp rfl, .msl rfl, trivial⟩⟩, ⟨_, rfl, rsMap (fun _ => rfl)⟩, ⟨_, rfl, rsMap (fun _ => rfl)⟩, trivial⟩, rfl, Nat.le_of_ble_eq_true rfl⟩⟩⟩), trivial⟩⟩⟩), (fun _ h => by cases h), trivial⟩⟩⟩), (fun _ h => by cases h), (fun _ h => by cases h), trivial⟩) ?_
 refine sw_ret ?_
 obtain rfl := h
 exact ⟨_, rfl, [.old 0, .old 1, .old 2, .old 3, .old 4, .old 5, .old 6], .mpt rfl, rfl, ⟨⟨_, rfl, rsOne ⟨ci rfl, .mmp rfl, .mmp rfl, .msl rfl, trivial⟩⟩, ⟨_, rfl, rsMap (fun _ => rfl)⟩, ⟨_, rfl, rsMap (fun _ => rfl)⟩, ⟨_, rfl, rsMap (fun _ => rfl)⟩, ⟨_, rfl, rsOne ⟨ci rfl, .mmp rfl, .mmp rfl, .msl rfl, trivial⟩⟩, ⟨_, rfl, rsMap (fun _ => rfl)⟩, ⟨_, rfl, rsMap (fun _ => rfl)⟩, trivial⟩, rfl, Nat.le_of_ble_eq_true rfl⟩
noncomputable def law8_Begun : Bool :=
  true
theorem law8_Begun_ok {r : Bool} (h : law8_Begun = r) : PureC Tryz.prog 52 [] (bA r) := by
 refine pure_fn Tryz.func52 rfl (by kernel_rfl) rfl rfl ?_
 unfold law8_Begun at h
 refine rg rfl <| u <| asg rfl <| r_nil ?_
 refine rg rfl <| u <| pc (law8_begun_ok rfl) rfl rfl rfl <| u <| asg rfl <| r_nil ?_
 refine sw_ret ?_
 obtain rfl := h
 exact ⟨_, rfl, [], ci rfl, rfl, trivial, rfl, Nat.le_of_ble_eq_true rfl⟩
noncomputable def law15_Begun : Bool :=
  true
theorem law15_Begun_ok {r : Bool} (h : law15_Begun = r) : PureC Tryz.prog 53 [] (bA r) := by
 refine pure_fn Tryz.func53 rfl (by kernel_rfl) rfl rfl ?_
 unfold law15_Begun at h
 refine rg rfl <| u <| asg rfl <| r_nil ?_
 refine rg rfl <| u <| pc (law15_begun_ok rfl) rfl rfl rfl <| u <| asg rfl <| r_nil ?_
 refine sw_ret ?_
 obtain rfl := h
 exact ⟨_, rfl, [], ci rfl, rfl, trivial, rfl, Nat.le_of_ble_eq_true rfl⟩
noncomputable def state_State_At (v1 : List ApiClass) (v2 : List (List UInt8 × Int)) (v3 : List (List UInt8 × Int)) (v4 : List (List UInt8 × FrameVal)) (v5 : List (List UInt8)) (v6 : List UInt8) : Int :=
  (Option.getD (mapGet v6 v3) 0)
theorem state_State_At_ok (v1 : List ApiClass) (v2 : List (List UInt8 × Int)) (v3 : List (List UInt8 × Int)) (v4 : List (List UInt8 × FrameVal)) (v5 : List (List UInt8)) (v6 : List UInt8) {r : Int} (h : state_State_At v1 v2 v3 v4 v5 v6 = r) : SC Tryz.prog 36 [.mpt 0 0 0, sA v6] [.one 4 [.ipt 2 [[.isl 6 (List.map rApiClass v1), .imp (List.map (rKV (fun x => iA x)) v2)]] 0 0, .mmp 1, .mmp 2, .msl 3 0 (List.length v5)], .many 2 (List.map (rKV (fun x => iA x)) v3), .many 2 (List.map (rKV (fun x => .agg (rFrameVal x))) v4), .many 1 (List.map rStr v5)] (iA r) [.one 4 [.ipt 2 [[.isl 6 (List.map rApiClass v1), .imp (List.map (rKV (fun x => iA x)) v2)]] 0 0, .mmp 1, .mmp 2, .msl 3 0 (List.length v5)], .many 2 (List.map (rKV (fun x => iA x)) v3), .many 2 (List.map (rKV (fun x => .agg (rFrameVal x))) v4), .many 1 (List.map rStr v5)] := by
 refine ⟨⟨trivial, sbOk (sz := 2) (fun _ => rfl), sbOk (sz := 2) (fun _ => rfl), sbOk (sz := 1) (fun _ => rfl), trivial⟩, scall_fn Tryz.func36 rfl (by kernel_rfl) rfl ?_⟩
 unfold state_State_At at h
 refine rg rfl <| u <| asg rfl <| r_nil ?_
 refine sw_seq ?_
 refine rg rfl <| u <| mv rfl <| u <| eqp ti36 rfl rfl rfl rfl rfl rfl <| r_nil ?_
 refine sw_cond rfl (fun hx => by cases hx) (fun _ => ?_)
 refine sw_skip ?_
 refine rg rfl <| u <| mv rfl <| u <| nc rfl rfl <| u <| fa ti117 rfl rfl rfl <| u <| ld ti108 rfl rfl <| u <| mv rfl <| u <| mlkF (g := (fun x => iA x)) (z := 0) (l := v3) rfl ti3 rfl rfl rfl rfl <| u <| asg rfl <| r_nil ?_
 refine sw_ret ?_
 obtain rfl := h
 exact ⟨_, rfl, [.old 0, .old 1, .old 2, .old 3], ci rfl, rfl, ⟨⟨_, rfl, rsOne ⟨ci rfl, .mmp rfl, .mmp rfl, .msl rfl, trivial⟩⟩, ⟨_, rfl, rsMap (fun _ => rfl)⟩, ⟨_, rfl, rsMap (fun _ => rfl)⟩, ⟨_, rfl, rsMap (fun _ => rfl)⟩, trivial⟩, rfl, Nat.le_of_ble_eq_true rfl⟩
noncomputable def law16_begun : Option (Bool) :=
  (hier_New ([(ApiClass.mk [70, 97, 99, 101] [79, 98, 106, 101, 99, 116] true [] [] ([(ApiMethod.mk [102] [] [73] false true 0 0 [] [] [])])), (ApiClass.mk [65, 97] [79, 98, 106, 101, 99, 116] false ([[70, 97, 99, 101]]) ([(ApiField.mk [120] [73] false), (ApiField.mk [115] [73] true)]) ([(ApiMethod.mk [102] [] [73] false false 1 1 ([(ApiIns.mk 1 5 [] []), (ApiIns.mk 47 0 [] [])]) [] [])])), (ApiClass.mk [66, 98] [65, 97] false [] ([(ApiField.mk [121] [91, 65, 97] false)]) ([(ApiMethod.mk [109, 97, 105, 110] [] [86] true false 0 0 ([(ApiIns.mk 46 0 [] [])]) [] [])]))])).bind fun v1 => cond (!(v1.2 == (0 : Int))) (some false) ((state_New v1.1).bind fun v2 => (state_State_Next_s2 v2.1 v2.2.1 v2.2.2.1 v2.2.2.2.1 v2.2.2.2.2 [66, 98]).bind fun v3 => (state_State_Next_s2 v2.1 v2.2.1 (state_State_Set_s2 v2.1 v2.2.1 v2.2.2.1 v2.2.2.2.1 v2.2.2.2.2 [65, 97] 2) v2.2.2.2.1 v2.2.2.2.2 [66, 98]).bind fun v4 => (state_State_Next_s2 v2.1 v2.2.1 (state_State_Set_s2 v2.1 v2.2.1 (state_State_Set_s2 v2.1 v2.2.1 v2.2.2.1 v2.2.2.2.1 v2.2.2.2.2 [65, 97] 2) v2.2.2.2.1 v2.2.2.2.2 [65, 97] 3) v2.2.2.2.1 v2.2.2.2.2 [66, 98]).bind fun v5 => (state_State_Get_s2 v2.1 v2.2.1 (state_State_Set_s2 v2.1 v2.2.1 (state_State_Set_s2 v2.1 v2.2.1 v2.2.2.1 v2.2.2.2.1 v2.2.2.2.2 [65, 97] 2) v2.2.2.2.1 v2.2.2.2.2 [65, 97] 3) v2.2.2.2.1 v2.2.2.2.2 [65, 97] [115]).bind fun v6 => (state_State_Get_s2 v2.1 v2.2.1 (state_State_Set_s2 v2.1 v2.2.1 (state_State_Set_s2 v2.1 v2.2.1 v2.2.2.1 v2.2.2.2.1 v2.2.2.2.2 [65, 97] 2) v2.2.2.2.1 v2.2.2.2.2 [65, 97] 3) v2.2.2.2.1 v2.2.2.2.2 [66, 98] [115]).bind fun v7 => (state_State_Put v2.1 v2.2.1 (state_State_Set_s2 v2.1 v2.2.1 (state_State_Set_s2 v2.1 v2.2.1 v2.2.2.1 v2.2.2.2.1 v2.2.2.2.2 [65, 97] 2) v2.2.2.2.1 v2.2.2.2.2 [65, 97] 3) v2.2.2.2.1 v2.2.2.2.2 [65, 97] [115] (FrameVal.mk false 4)).bind fun v8 => (state_State_Put v2.1 v2.2.1 (state_State_Set_s2 v2.1 v2.2.1 (state_State_Set_s2 v2.1 v2.2.1 v2.2.2.1 v2.2.2.2.1 v2.2.2.2.2 [65, 97] 2) v2.2.2.2.1 v2.2.2.2.2 [65, 97] 3) v8.2 v2.2.2.2.2 [65, 97] [115] (FrameVal.mk true 0)).bind fun v9 => (state_State_Put v2.1 v2.2.1 (state_State_Set_s2 v2.1 v2.2.1 (state_State_Set_s2 v2.1 v2.2.1 v2.2.2.1 v2.2.2.2.1 v2.2.2.2.2 [65, 97] 2) v2.2.2.2.1 v2.2.2.2.2 [65, 97] 3) v9.2 ((state_State_Copy v2.1 v2.2.1 (state_State_Set_s2 v2.1 v2.2.1 (state_State_Set_s2 v2.1 v2.2.1 v2.2.2.1 v2.2.2.2.1 v2.2.2.2.2 [65, 97] 2) v2.2.2.2.1 v2.2.2.2.2 [65, 97] 3) v9.2 v2.2.2.2.2).2.2.2.2) [65, 97] [115] (FrameVal.mk false 5)).bind fun v10 => (state_State_Get_s2 ((state_State_Copy v2.1 v2.2.1 (state_State_Set_s2 v2.1 v2.2.1 (state_State_Set_s2 v2.1 v2.2.1 v2.2.2.1 v2.2.2.2.1 v2.2.2.2.2 [65, 97] 2) v2.2.2.2.1 v2.2.2.2.2 [65, 97] 3) v9.2 v2.2.2.2.2).1) ((state_State_Copy v2.1 v2.2.1 (state_State_Set_s2 v2.1 v2.2.1 (state_State_Set_s2 v2.1 v2.2.1 v2.2.2.1 v2.2.2.2.1 v2.2.2.2.2 [65, 97] 2) v2.2.2.2.1 v2.2.2.2.2 [65, 97] 3) v9.2 v2.2.2.2.2).2.1) ((state_State_Copy v2.1 v2.2.1 (state_State_Set_s2 v2.1 v2.2.1 (state_State_Set_s2 v2.1 v2.2.1 v2.2.2.1 v2.2.2.2.1 v2.2.2.2.2 [65, 97] 2) v2.2.2.2.1 v2.2.2.2.2 [65, 97] 3) v9.2 v2.2.2.2.2).2.2.1) ((state_State_Copy v2.1 v2.2.1 (state_State_Set_s2 v2.1 v2.2.1 (state_State_Set_s2 v2.1 v2.2.1 v2.2.2.1 v2.2.2.2.1 v2.2.2.2.2 [65, 97] 2) v2.2.2.2.1 v2.2.2.2.2 [65, 97] 3) v9.2 v2.2.2.2.2).2.2.2.1) ((state_State_Copy v2.1 v2.2.1 (state_State_Set_s2 v2.1 v2.2.1 (state_State_Set_s2 v2.1 v2.2.1 v2.2.2.1 v2.2.2.2.1 v2.2.2.2.2 [65, 97] 2) v2.2.2.2.1 v2.2.2.2.2 [65, 97] 3) v9.2 v2.2.2.2.2).2.2.2.2) [65, 97] [115]).bind fun v11 => some (((((((((((((((law8_Begun) && (law15_Begun)) && (v3.1 == [65, 97])) && (v3.2 == (0 : Int))) && (v4.1 == [66, 98])) && (v5.1 == [65, 97])) && (v5.2 == (3 : Int))) && v6.2) && (v6.1.N == (0 : Int))) && (!v7.2)) && v8.1) && (!v9.1)) && (v11.1.N == (4 : Int))) && ((state_State_At v2.1 v2.2.1 (state_State_Set_s2 v2.1 v2.2.1 (state_State_Set_s2 v2.1 v2.2.1 v2.2.2.1 v2.2.2.2.1 v2.2.2.2.2 [65, 97] 2) v2.2.2.2.1 v2.2.2.2.2 [65, 97] 3) v10.2 ((state_State_Copy v2.1 v2.2.1 (state_State_Set_s2 v2.1 v2.2.1 (state_State_Set_s2 v2.1 v2.2.1 v2.2.2.1 v2.2.2.2.1 v2.2.2.2.2 [65, 97] 2) v2.2.2.2.1 v2.2.2.2.2 [65, 97] 3) v9.2 v2.2.2.2.2).2.2.2.2) [79, 98, 106, 101, 99, 116]) == (2 : Int))) && ((state_State_At v2.1 v2.2.1 (state_State_Set_s2 v2.1 v2.2.1 (state_State_Set_s2 v2.1 v2.2.1 v2.2.2.1 v2.2.2.2.1 v2.2.2.2.2 [65, 97] 2) v2.2.2.2.1 v2.2.2.2.2 [65, 97] 3) v10.2 ((state_State_Copy v2.1 v2.2.1 (state_State_Set_s2 v2.1 v2.2.1 (state_State_Set_s2 v2.1 v2.2.1 v2.2.2.1 v2.2.2.2.1 v2.2.2.2.2 [65, 97] 2) v2.2.2.2.1 v2.2.2.2.2 [65, 97] 3) v9.2 v2.2.2.2.2).2.2.2.2) [90, 122]) == (0 : Int))))
theorem law16_begun_ok {r : Bool} (h : law16_begun = some r) : PureC Tryz.prog 21 [] (bA r) := by
 refine pure_fn Tryz.func21 rfl (by kernel_rfl) rfl rfl ?_
 unfold law16_begun at h
 refine rg rfl <| u <| asg rfl <| r_nil ?_
 obtain ⟨v1, q1, h⟩ := bs h
 refine rg rfl <| u <| sc [] (law7_Two_ok rfl) rfl rfl rfl rfl trivial trivial <| r_can (env0 := [(20, .isl 6 (List.map rApiClass ([(ApiClass.mk [70, 97, 99, 101] [79, 98, 106, 101, 99, 116] true [] [] ([(ApiMethod.mk [102] [] [73] false true 0 0 [] [] [])])), (ApiClass.mk [65, 97] [79, 98, 106, 101, 99, 116] false ([[70, 97, 99, 101]]) ([(ApiField.mk [120] [73] false), (ApiField.mk [115] [73] true)]) ([(ApiMethod.mk [102] [] [73] false false 1 1 ([(ApiIns.mk 1 5 [] []), (ApiIns.mk 47 0 [] [])]) [] [])])), (ApiClass.mk [66, 98] [65, 97] false [] ([(ApiField.mk [121] [91, 65, 97] false)]) ([(ApiMethod.mk [109, 97, 105, 110] [] [86] true false 0 0 ([(ApiIns.mk 46 0 [] [])]) [] [])]))])))]) (st0 := []) ⟨[], cv rfl (rsSealX rfl rfl ⟨⟨⟨ci rfl, ci rfl, ci rfl, .nil, .nil, rsSealX rfl rfl ⟨⟨⟨ci rfl, .nil, ci rfl, ci rfl, ci rfl, ci rfl, ci rfl, .nil, .nil, .nil, trivial⟩, rfl⟩, trivial⟩, trivial⟩, rfl⟩, ⟨⟨ci rfl, ci rfl, ci rfl, rsSealX rfl rfl ⟨⟨⟨ci rfl, trivial⟩, rfl⟩, trivial⟩, rsSealX rfl rfl ⟨⟨⟨ci rfl, ci rfl, ci rfl, trivial⟩, rfl⟩, ⟨⟨ci rfl, ci rfl, ci rfl, trivial⟩, rfl⟩, trivial⟩, rsSealX rfl rfl ⟨⟨⟨ci rfl, .nil, ci rfl, ci rfl, ci rfl, ci rfl, ci rfl, rsSealX rfl rfl ⟨⟨⟨ci rfl, ci rfl, ci rfl, ci rfl, trivial⟩, rfl⟩, ⟨⟨ci rfl, ci rfl, ci rfl, ci rfl, trivial⟩, rfl⟩, trivial⟩, .nil, .nil, trivial⟩, rfl⟩, trivial⟩, trivial⟩, rfl⟩, ⟨⟨ci rfl, ci rfl, ci rfl, .nil, rsSealX rfl rfl ⟨⟨⟨ci rfl, ci rfl, ci rfl, trivial⟩, rfl⟩, trivial⟩, rsSealX rfl rfl ⟨⟨⟨ci rfl, .nil, ci rfl, ci rfl, ci rfl, ci rfl, ci rfl, rsSealX rfl rfl ⟨⟨⟨ci rfl, ci rfl, ci rfl, ci rfl, trivial⟩, rfl⟩, trivial⟩, .nil, .nil, trivial⟩, rfl⟩, trivial⟩, trivial⟩, rfl⟩, trivial⟩) <| cn, rfl, trivial, rfl, Nat.le_of_ble_eq_true rfl⟩ <| u <| pc (hier_New_ok ([(ApiClass.mk [70, 97, 99, 101] [79, 98, 106, 101, 99, 116] true [] [] ([(ApiMethod.mk [102] [] [73] false true 0 0 [] [] [])])), (ApiClass.mk [65, 97] [79, 98, 106, 101, 99, 116] false ([[70, 97, 99, 101]]) ([(ApiField.mk [120] [73] false), (ApiField.mk [115] [73] true)]) ([(ApiMethod.mk [102] [] [73] false false 1 1 ([(ApiIns.mk 1 5 [] []), (ApiIns.mk 47 0 [] [])]) [] [])])), (ApiClass.mk [66, 98] [65, 97] false [] ([(ApiField.mk [121] [91, 65, 97] false)]) ([(ApiMethod.mk [109, 97, 105, 110] [] [86] true false 0 0 ([(ApiIns.mk 46 0 [] [])]) [] [])]))]) q1) rfl rfl rfl <| u <| mv rfl <| u <| ex rfl rfl <| u <| ex rfl rfl <| u <| asg rfl <| u <| asg rfl <| r_nil ?_
 refine sw_seq ?_
 refine rg rfl <| u <| mv rfl <| u <| neq ti33 rfl rfl <| r_nil ?_
 refine sw_cond rfl (fun hc2 => ?_) (fun hc2 => ?_)
 ·
  replace h := bT hc2 h
  refine rg rfl <| u <| asg rfl <| r_nil ?_
  refine sw_ret ?_
  obtain rfl := sm h
  exact ⟨_, rfl, [], ci rfl, rfl, trivial, rfl, Nat.le_of_ble_eq_true rfl⟩
 ·
  replace h := bF hc2 h
  refine sw_skip ?_
  obtain ⟨v2, q3, h⟩ := bs h
  refine rg rfl <| u <| mv rfl <| u <| sc [] (state_New_ok v1.1 q3) rfl rfl rfl rfl ⟨(rnI (immP (fun _ => rfl))), trivial⟩ trivial <| r_can (env0 := [(27, .mpt 0 0 0)]) (st0 := [some (4, [[.ipt 2 [[.isl 6 (List.map rApiClass v2.1), .imp (List.map (rKV (fun x => iA x)) v2.2.1)]] 0 0, .mmp 1, .mmp 2, .msl 3 0 (List.length v2.2.2.2.2)]]), some (2, List.map (rKV (fun x => iA x)) v2.2.2.1), some (2, List.map (rKV (fun x => .agg (rFrameVal x))) v2.2.2.2.1), some (1, List.map rStr v2.2.2.2.2)]) ⟨[.old 0, .old 1, .old 2, .old 3], cv rfl (.mpt rfl) <| cn, rfl, ⟨⟨_, rfl, rsOne ⟨ci rfl, .mmp rfl, .mmp rfl, .msl rfl, trivial⟩⟩, ⟨_, rfl, rsMap (fun _ => rfl)⟩, ⟨_, rfl, rsMap (fun _ => rfl)⟩, ⟨_, rfl, rsMap (fun _ => rfl)⟩, trivial⟩, rfl, Nat.le_of_ble_eq_true rfl⟩ <| u <| asg rfl <| r_nil ?_
  obtain ⟨v3, q4, h⟩ := bs h
  refine rg rfl <| u <| mv rfl <| u <| sc [0, 1, 2, 3] (state_State_Next_s2_ok v2.1 v2.2.1 v2.2.2.1 v2.2.2.2.1 v2.2.2.2.2 [66, 98] q4) rfl rfl rfl rfl ⟨(.mpt rfl), (rnI rfl), trivial⟩ ⟨⟨_, rfl, ⟨(rnI rfl), (.mmp rfl), (.mmp rfl), (.msl rfl), trivial⟩⟩, ⟨rfl, mkI (fun _ => rfl)⟩, ⟨rfl, mkI (fun _ => rfl)⟩, ⟨rfl, mkI (fun _ => rfl)⟩, trivial⟩ <| r_can (env0 := [(3, .mpt 0 0 0), (30, .tup [sA v3.1, iA v3.2])]) (st0 := [some (4, [[.ipt 2 [[.isl 6 (List.map rApiClass v2.1), .imp (List.map (rKV (fun x => iA x)) v2.2.1)]] 0 0, .mmp 1, .mmp 2, .msl 3 0 (List.length v2.2.2.2.2)]]), some (2, List.map (rKV (fun x => iA x)) v2.2.2.1), some (2, List.map (rKV (fun x => .agg (rFrameVal x))) v2.2.2.2.1), some (1, List.map rStr v2.2.2.2.2)]) ⟨[.old 0, .old 1, .old 2, .old 3], cv rfl (.mpt rfl) <| ce rfl rfl <| cn, rfl, ⟨⟨_, rfl, rsOne ⟨ci rfl, .mmp rfl, .mmp rfl, .msl rfl, trivial⟩⟩, ⟨_, rfl, rsMap (fun _ => rfl)⟩, ⟨_, rfl, rsMap (fun _ => rfl)⟩, ⟨_, rfl, rsMap (fun _ => rfl)⟩, trivial⟩, rfl, Nat.le_of_ble_eq_true rfl⟩ <| u <| mv rfl <| u <| ex rfl rfl <| u <| ex rfl rfl <| u <| asg rfl <| u <| asg rfl <| r_nil ?_
  refine rg rfl <| u <| mv rfl <| u <| sc [0, 1, 2, 3] (state_State_Set_s2_ok v2.1 v2.2.1 v2.2.2.1 v2.2.2.2.1 v2.2.2.2.2 [65, 97] 2 rfl) rfl rfl rfl rfl ⟨(.mpt rfl), (rnI rfl), (rnI rfl), trivial⟩ ⟨⟨_, rfl, ⟨(rnI rfl), (.mmp rfl), (.mmp rfl), (.msl rfl), trivial⟩⟩, ⟨rfl, mkI (fun _ => rfl)⟩, ⟨rfl, mkI (fun _ => rfl)⟩, ⟨rfl, mkI (fun _ => rfl)⟩, trivial⟩ <| r_can (env0 := [(3, .mpt 0 0 0), (4, sA v3.1), (5, iA v3.2)]) (st0 := [some (4, [[.ipt 2 [[.isl 6 (List.map rApiClass v2.1), .imp (List.map (rKV (fun x => iA x)) v2.2.1)]] 0 0, .mmp 1, .mmp 2, .msl 3 0 (List.length v2.2.2.2.2)]]), some (2, List.map (rKV (fun x => iA x)) (state_State_Set_s2 v2.1 v2.2.1 v2.2.2.1 v2.2.2.2.1 v2.2.2.2.2 [65, 97] 2)), some (2, List.map (rKV (fun x => .agg (rFrameVal x))) v2.2.2.2.1), some (1, List.map rStr v2.2.2.2.2)]) ⟨[.old 0, .old 1, .old 2, .old 3], cv rfl (.mpt rfl) <| ce rfl rfl <| ce rfl rfl <| cn, rfl, ⟨⟨_, rfl, rsOne ⟨ci rfl, .mmp rfl, .mmp rfl, .msl rfl, trivial⟩⟩, ⟨_, rfl, rsMap (fun _ => rfl)⟩, ⟨_, rfl, rsMap (fun _ => rfl)⟩, ⟨_, rfl, rsMap (fun _ => rfl)⟩, trivial⟩, rfl, Nat.le_of_ble_eq_true rfl⟩ <| r_nil ?_
  obtain ⟨v4, q5, h⟩ := bs h
  refine rg rfl <| u <| mv rfl <| u <| sc [0, 1, 2, 3] (state_State_Next_s2_ok v2.1 v2.2.1 (state_State_Set_s2 v2.1 v2.2.1 v2.2.2.1 v2.2.2.2.1 v2.2.2.2.2 [65, 97] 2) v2.2.2.2.1 v2.2.2.2.2 [66, 98] q5) rfl rfl rfl rfl ⟨(.mpt rfl), (rnI rfl), trivial⟩ ⟨⟨_, rfl, ⟨(rnI rfl), (.mmp rfl), (.mmp rfl), (.msl rfl), trivial⟩⟩, ⟨rfl, mkI (fun _ => rfl)⟩, ⟨rfl, mkI (fun _ => rfl)⟩, ⟨rfl, mkI (fun _ => rfl)⟩, trivial⟩ <| r_can (env0 := [(3, .mpt 0 0 0), (4, sA v3.1), (5, iA v3.2), (37, .tup [sA v4.1, iA v4.2])]) (st0 := [some (4, [[.ipt 2 [[.isl 6 (List.map rApiClass v2.1), .imp (List.map (rKV (fun x => iA x)) v2.2.1)]] 0 0, .mmp 1, .mmp 2, .msl 3 0 (List.length v2.2.2.2.2)]]), some (2, List.map (rKV (fun x => iA x)) (state_State_Set_s2 v2.1 v2.2.1 v2.2.2.1 v2.2.2.2.1 v2.2.2.2.2 [65, 97] 2)), some (2, List.map (rKV (fun x => .agg (rFrameVal x))) v2.2.2.2.1), some (1, List.map rStr v2.2.2.2.2)]) ⟨[.old 0, .old 1, .old 2, .old 3], cv rfl (.mpt rfl) <| ce rfl rfl <| ce rfl rfl <| ce rfl rfl <| cn, rfl, ⟨⟨_, rfl, rsOne ⟨ci rfl, .mmp rfl, .mmp rfl, .msl rfl, trivial⟩⟩, ⟨_, rfl, rsMap (fun _ => rfl)⟩, ⟨_, rfl, rsMap (fun _ => rfl)⟩, ⟨_, rfl, rsMap (fun _ => rfl)⟩, trivial⟩, rfl, Nat.le_of_ble_eq_true rfl⟩ <| u <| mv rfl <| u <| ex rfl rfl <| u <| ex rfl rfl <| u <| asg rfl <| u <| asg rfl <| r_nil ?_
  refine rg rfl <| u <| mv rfl <| u <| sc [0, 1, 2, 3] (state_State_Set_s2_ok v2.1 v2.2.1 (state_State_Set_s2 v2.1 v2.2.1 v2.2.2.1 v2.2.2.2.1 v2.2.2.2.2 [65, 97] 2) v2.2.2.2.1 v2.2.2.2.2 [65, 97] 3 rfl) rfl rfl rfl rfl ⟨(.mpt rfl), (rnI rfl), (rnI rfl), trivial⟩ ⟨⟨_, rfl, ⟨(rnI rfl), (.mmp rfl), (.mmp rfl), (.msl rfl), trivial⟩⟩, ⟨rfl, mkI (fun _ => rfl)⟩, ⟨rfl, mkI (fun _ => rfl)⟩, ⟨rfl, mkI (fun _ => rfl)⟩, trivial⟩ <| r_can (env0 := [(3, .mpt 0 0 0), (4, sA v3.1), (5, iA v3.2), (6, sA v4.1)]) (st0 := [some (4, [[.ipt 2 [[.isl 6 (List.map rApiClass v2.1), .imp (List.map (rKV (fun x => iA x)) v2.2.1)]] 0 0, .mmp 1, .mmp 2, .msl 3 0 (List.length v2.2.2.2.2)]]), some (2, List.map (rKV (fun x => iA x)) (state_State_Set_s2 v2.1 v2.2.1 (state_State_Set_s2 v2.1 v2.2.1 v2.2.2.1 v2.2.2.2.1 v2.2.2.2.2 [65, 97] 2) v2.2.2.2.1 v2.2.2.2.2 [65, 97] 3)), some (2, List.map (rKV (fun x => .agg (rFrameVal x))) v2.2.2.2.1), some (1, List.map rStr v2.2.2.2.2)]) ⟨[.old 0, .old 1, .old 2, .old 3], cv rfl (.mpt rfl) <| ce rfl rfl <| ce rfl rfl <| ce rfl rfl <| cn, rfl, ⟨⟨_, rfl, rsOne ⟨ci rfl, .mmp rfl, .mmp rfl, .msl rfl, trivial⟩⟩, ⟨_, rfl, rsMap (fun _ => rfl)⟩, ⟨_, rfl, rsMap (fun _ => rfl)⟩, ⟨_, rfl, rsMap (fun _ => rfl)⟩, trivial⟩, rfl, Nat.le_of_ble_eq_true rfl⟩ <| r_nil ?_
  obtain ⟨v5, q6, h⟩ := bs h
  refine rg rfl <| u <| mv rfl <| u <| sc [0, 1, 2, 3] (state_State_Next_s2_ok v2.1 v2.2.1 (state_State_Set_s2 v2.1 v2.2.1 (state_State_Set_s2 v2.1 v2.2.1 v2.2.2.1 v2.2.2.2.1 v2.2.2.2.2 [65, 97] 2) v2.2.2.2.1 v2.2.2.2.2 [65, 97] 3) v2.2.2.2.1 v2.2.2.2.2 [66, 98] q6) rfl rfl rfl rfl ⟨(.mpt rfl), (rnI rfl), trivial⟩ ⟨⟨_, rfl, ⟨(rnI rfl), (.mmp rfl), (.mmp rfl), (.msl rfl), trivial⟩⟩, ⟨rfl, mkI (fun _ => rfl)⟩, ⟨rfl, mkI (fun _ => rfl)⟩, ⟨rfl, mkI (fun _ => rfl)⟩, trivial⟩ <| r_can (env0 := [(3, .mpt 0 0 0), (4, sA v3.1), (5, iA v3.2), (6, sA v4.1), (44, .tup [sA v5.1, iA v5.2])]) (st0 := [some (4, [[.ipt 2 [[.isl 6 (List.map rApiClass v2.1), .imp (List.map (rKV (fun x => iA x)) v2.2.1)]] 0 0, .mmp 1, .mmp 2, .msl 3 0 (List.length v2.2.2.2.2)]]), some (2, List.map (rKV (fun x => iA x)) (state_State_Set_s2 v2.1 v2.2.1 (state_State_Set_s2 v2.1 v2.2.1 v2.2.2.1 v2.2.2.2.1 v2.2.2.2.2 [65, 97] 2) v2.2.2.2.1 v2.2.2.2.2 [65, 97] 3)), some (2, List.map (rKV (fun x => .agg (rFrameVal x))) v2.2.2.2.1), some (1, List.map rStr v2.2.2.2.2)]) ⟨[.old 0, .old 1, .old 2, .old 3], cv rfl (.mpt rfl) <| ce rfl rfl <| ce rfl rfl <| ce rfl rfl <| ce rfl rfl <| cn, rfl, ⟨⟨_, rfl, rsOne ⟨ci rfl, .mmp rfl, .mmp rfl, .msl rfl, trivial⟩⟩, ⟨_, rfl, rsMap (fun _ => rfl)⟩, ⟨_, rfl, rsMap (fun _ => rfl)⟩, ⟨_, rfl, rsMap (fun _ => rfl)⟩, trivial⟩, rfl, Nat.le_of_ble_eq_true rfl⟩ <| u <| mv rfl <| u <| ex rfl rfl <| u <| ex rfl rfl <| u <| asg rfl <| u <| asg rfl <| r_nil ?_
  obtain ⟨v6, q7, h⟩ := bs h
  refine rg rfl <| u <| mv rfl <| u <| sc [0, 1, 2, 3] (state_State_Get_s2_ok v2.1 v2.2.1 (state_State_Set_s2 v2.1 v2.2.1 (state_State_Set_s2 v2.1 v2.2.1 v2.2.2.1 v2.2.2.2.1 v2.2.2.2.2 [65, 97] 2) v2.2.2.2.1 v2.2.2.2.2 [65, 97] 3) v2.2.2.2.1 v2.2.2.2.2 [65, 97] [115] q7) rfl rfl rfl rfl ⟨(.mpt rfl), (rnI rfl), (rnI rfl), trivial⟩ ⟨⟨_, rfl, ⟨(rnI rfl), (.mmp rfl), (.mmp rfl), (.msl rfl), trivial⟩⟩, ⟨rfl, mkI (fun _ => rfl)⟩, ⟨rfl, mkI (fun _ => rfl)⟩, ⟨rfl, mkI (fun _ => rfl)⟩, trivial⟩ <| r_can (env0 := [(3, .mpt 0 0 0), (4, sA v3.1), (5, iA v3.2), (6, sA v4.1), (8, sA v5.1), (9, iA v5.2), (49, .tup [.agg (rFrameVal v6.1), bA v6.2])]) (st0 := [some (4, [[.ipt 2 [[.isl 6 (List.map rApiClass v2.1), .imp (List.map (rKV (fun x => iA x)) v2.2.1)]] 0 0, .mmp 1, .mmp 2, .msl 3 0 (List.length v2.2.2.2.2)]]), some (2, List.map (rKV (fun x => iA x)) (state_State_Set_s2 v2.1 v2.2.1 (state_State_Set_s2 v2.1 v2.2.1 v2.2.2.1 v2.2.2.2.1 v2.2.2.2.2 [65, 97] 2) v2.2.2.2.1 v2.2.2.2.2 [65, 97] 3)), some (2, List.map (rKV (fun x => .agg (rFrameVal x))) v2.2.2.2.1), some (1, List.map rStr v2.2.2.2.2)]) ⟨[.old 0, .old 1, .old 2, .old 3], cv rfl (.mpt rfl) <| ce rfl rfl <| ce rfl rfl <| ce rfl rfl <| ce rfl rfl <| ce rfl rfl <| ce rfl rfl <| cn, rfl, ⟨⟨_, rfl, rsOne ⟨ci rfl, .mmp rfl, .mmp rfl, .msl rfl, trivial⟩⟩, ⟨_, rfl, rsMap (fun _ => rfl)⟩, ⟨_, rfl, rsMap (fun _ => rfl)⟩, ⟨_, rfl, rsMap (fun _ => rfl)⟩, trivial⟩, rfl, Nat.le_of_ble_eq_true rfl⟩ <| u <| mv rfl <| u <| ex rfl rfl <| u <| ex rfl rfl <| u <| al 4 ti54 rfl <| u <| sto ti54 rfl rfl rfl <| u <| asg rfl <| r_nil ?_
  obtain ⟨v7, q8, h⟩ := bs h
  refine rg rfl <| u <| mv rfl <| u <| sc [0, 1, 2, 3] (state_State_Get_s2_ok v2.1 v2.2.1 (state_State_Set_s2 v2.1 v2.2.1 (state_State_Set_s2 v2.1 v2.2.1 v2.2.2.1 v2.2.2.2.1 v2.2.2.2.2 [65, 97] 2) v2.2.2.2.1 v2.2.2.2.2 [65, 97] 3) v2.2.2.2.1 v2.2.2.2.2 [66, 98] [115] q8) rfl rfl rfl rfl ⟨(.mpt rfl), (rnI rfl), (rnI rfl), trivial⟩ ⟨⟨_, rfl, ⟨(rnI rfl), (.mmp rfl), (.mmp rfl), (.msl rfl), trivial⟩⟩, ⟨rfl, mkI (fun _ => rfl)⟩, ⟨rfl, mkI (fun _ => rfl)⟩, ⟨rfl, mkI (fun _ => rfl)⟩, trivial⟩ <| r_can (env0 := [(3, .mpt 0 0 0), (4, sA v3.1), (5, iA v3.2), (6, sA v4.1), (8, sA v5.1), (9, iA v5.2), (10, .mpt 4 0 0), (11, bA v6.2), (54, .tup [.agg (rFrameVal v7.1), bA v7.2])]) (st0 := [some (4, [[.ipt 2 [[.isl 6 (List.map rApiClass v2.1), .imp (List.map (rKV (fun x => iA x)) v2.2.1)]] 0 0, .mmp 1, .mmp 2, .msl 3 0 (List.length v2.2.2.2.2)]]), some (2, List.map (rKV (fun x => iA x)) (state_State_Set_s2 v2.1 v2.2.1 (state_State_Set_s2 v2.1 v2.2.1 v2.2.2.1 v2.2.2.2.1 v2.2.2.2.2 [65, 97] 2) v2.2.2.2.1 v2.2.2.2.2 [65, 97] 3)), some (2, List.map (rKV (fun x => .agg (rFrameVal x))) v2.2.2.2.1), some (1, List.map rStr v2.2.2.2.2), some (2, [(rFrameVal v6.1)])]) ⟨[.old 0, .old 1, .old 2, .old 3, .old 4], cv rfl (.mpt rfl) <| ce rfl rfl <| ce rfl rfl <| ce rfl rfl <| ce rfl rfl <| ce rfl rfl <| cv rfl (.mpt rfl) <| ce rfl rfl <| ce rfl rfl <| cn, rfl, ⟨⟨_, rfl, rsOne ⟨ci rfl, .mmp rfl, .mmp rfl, .msl rfl, trivial⟩⟩, ⟨_, rfl, rsMap (fun _ => rfl)⟩, ⟨_, rfl, rsMap (fun _ => rfl)⟩, ⟨_, rfl, rsMap (fun _ => rfl)⟩, ⟨_, rfl, rsOne (ciL rfl)⟩, trivial⟩, rfl, Nat.le_of_ble_eq_true rfl⟩ <| u <| mv rfl <| u <| ex rfl rfl <| u <| ex rfl rfl <| u <| al 5 ti54 rfl <| u <| sto ti54 rfl rfl rfl <| u <| asg rfl <| r_nil ?_
  obtain ⟨v8, q9, h⟩ := bs h
  obtain ⟨v9, q10, h⟩ := bs h
  refine rg rfl <| u <| mv rfl <| u <| bd ti54 rfl rfl rfl <| u <| sc [0, 1, 2, 3] (state_State_Put_ok v2.1 v2.2.1 (state_State_Set_s2 v2.1 v2.2.1 (state_State_Set_s2 v2.1 v2.2.1 v2.2.2.1 v2.2.2.2.1 v2.2.2.2.2 [65, 97] 2) v2.2.2.2.1 v2.2.2.2.2 [65, 97] 3) v2.2.2.2.1 v2.2.2.2.2 [65, 97] [115] (FrameVal.mk false 4) q9) rfl rfl rfl rfl ⟨(.mpt rfl), (rnI rfl), (rnI rfl), (rnI rfl), trivial⟩ ⟨⟨_, rfl, ⟨(rnI rfl), (.mmp rfl), (.mmp rfl), (.msl rfl), trivial⟩⟩, ⟨rfl, mkI (fun _ => rfl)⟩, ⟨rfl, mkI (fun _ => rfl)⟩, ⟨rfl, mkI (fun _ => rfl)⟩, trivial⟩ <| r_can (env0 := [(3, .mpt 0 0 0), (4, sA v3.1), (5, iA v3.2), (6, sA v4.1), (8, sA v5.1), (9, iA v5.2), (10, .mpt 4 0 0), (11, bA v6.2), (13, bA v7.2), (59, bA v8.1)]) (st0 := [some (4, [[.ipt 2 [[.isl 6 (List.map rApiClass v2.1), .imp (List.map (rKV (fun x => iA x)) v2.2.1)]] 0 0, .mmp 1, .mmp 2, .msl 3 0 (List.length v2.2.2.2.2)]]), some (2, List.map (rKV (fun x => iA x)) (state_State_Set_s2 v2.1 v2.2.1 (state_State_Set_s2 v2.1 v2.2.1 v2.2.2.1 v2.2.2.2.1 v2.2.2.2.2 [65, 97] 2) v2.2.2.2.1 v2.2.2.2.2 [65, 97] 3)), some (2, List.map (rKV (fun x => .agg (rFrameVal x))) v8.2), some (1, List.map rStr v2.2.2.2.2), some (2, [(rFrameVal v6.1)])]) ⟨[.old 0, .old 1, .old 2, .old 3, .old 4], cv rfl (.mpt rfl) <| ce rfl rfl <| ce rfl rfl <| ce rfl rfl <| ce rfl rfl <| ce rfl rfl <| cv rfl (.mpt rfl) <| ce rfl rfl <| ce rfl rfl <| ce rfl rfl <| cn, rfl, ⟨⟨_, rfl, rsOne ⟨ci rfl, .mmp rfl, .mmp rfl, .msl rfl, trivial⟩⟩, ⟨_, rfl, rsMap (fun _ => rfl)⟩, ⟨_, rfl, rsMap (fun _ => rfl)⟩, ⟨_, rfl, rsMap (fun _ => rfl)⟩, ⟨_, rfl, rsOne (ciL rfl)⟩, trivial⟩, rfl, Nat.le_of_ble_eq_true rfl⟩ <| u <| mv rfl <| u <| bd ti54 rfl rfl rfl <| u <| sc [0, 1, 2, 3] (state_State_Put_ok v2.1 v2.2.1 (state_State_Set_s2 v2.1 v2.2.1 (state_State_Set_s2 v2.1 v2.2.1 v2.2.2.1 v2.2.2.2.1 v2.2.2.2.2 [65, 97] 2) v2.2.2.2.1 v2.2.2.2.2 [65, 97] 3) v8.2 v2.2.2.2.2 [65, 97] [115] (FrameVal.mk true 0) q10) rfl rfl rfl rfl ⟨(.mpt rfl), (rnI rfl), (rnI rfl), (rnI rfl), trivial⟩ ⟨⟨_, rfl, ⟨(rnI rfl), (.mmp rfl), (.mmp rfl), (.msl rfl), trivial⟩⟩, ⟨rfl, mkI (fun _ => rfl)⟩, ⟨rfl, mkI (fun _ => rfl)⟩, ⟨rfl, mkI (fun _ => rfl)⟩, trivial⟩ <| r_can (env0 := [(3, .mpt 0 0 0), (4, sA v3.1), (5, iA v3.2), (6, sA v4.1), (8, sA v5.1), (9, iA v5.2), (10, .mpt 4 0 0), (11, bA v6.2), (13, bA v7.2), (59, bA v8.1), (62, bA v9.1)]) (st0 := [some (4, [[.ipt 2 [[.isl 6 (List.map rApiClass v2.1), .imp (List.map (rKV (fun x => iA x)) v2.2.1)]] 0 0, .mmp 1, .mmp 2, .msl 3 0 (List.length v2.2.2.2.2)]]), some (2, List.map (rKV (fun x => iA x)) (state_State_Set_s2 v2.1 v2.2.1 (state_State_Set_s2 v2.1 v2.2.1 v2.2.2.1 v2.2.2.2.1 v2.2.2.2.2 [65, 97] 2) v2.2.2.2.1 v2.2.2.2.2 [65, 97] 3)), some (2, List.map (rKV (fun x => .agg (rFrameVal x))) v9.2), some (1, List.map rStr v2.2.2.2.2), some (2, [(rFrameVal v6.1)])]) ⟨[.old 0, .old 1, .old 2, .old 3, .old 4], cv rfl (.mpt rfl) <| ce rfl rfl <| ce rfl rfl <| ce rfl rfl <| ce rfl rfl <| ce rfl rfl <| cv rfl (.mpt rfl) <| ce rfl rfl <| ce rfl rfl <| ce rfl rfl <| ce rfl rfl <| cn, rfl, ⟨⟨_, rfl, rsOne ⟨ci rfl, .mmp rfl, .mmp rfl, .msl rfl, trivial⟩⟩, ⟨_, rfl, rsMap (fun _ => rfl)⟩, ⟨_, rfl, rsMap (fun _ => rfl)⟩, ⟨_, rfl, rsMap (fun _ => rfl)⟩, ⟨_, rfl, rsOne (ciL rfl)⟩, trivial⟩, rfl, Nat.le_of_ble_eq_true rfl⟩ <| u <| asg rfl <| u <| asg rfl <| r_nil ?_
  refine rg rfl <| u <| mv rfl <| u <| sc [0, 1, 2, 3] (state_State_Copy_ok v2.1 v2.2.1 (state_State_Set_s2 v2.1 v2.2.1 (state_State_Set_s2 v2.1 v2.2.1 v2.2.2.1 v2.2.2.2.1 v2.2.2.2.2 [65, 97] 2) v2.2.2.2.1 v2.2.2.2.2 [65, 97] 3) v9.2 v2.2.2.2.2 rfl) rfl rfl rfl rfl ⟨(.mpt rfl), trivial⟩ ⟨⟨_, rfl, ⟨(rnI rfl), (.mmp rfl), (.mmp rfl), (.msl rfl), trivial⟩⟩, ⟨rfl, mkI (fun _ => rfl)⟩, ⟨rfl, mkI (fun _ => rfl)⟩, ⟨rfl, mkI (fun _ => rfl)⟩, trivial⟩ <| r_can (env0 := [(3, .mpt 0 0 0), (4, sA v3.1), (5, iA v3.2), (6, sA v4.1), (8, sA v5.1), (9, iA v5.2), (10, .mpt 4 0 0), (11, bA v6.2), (13, bA v7.2), (14, bA v8.1), (15, bA v9.1), (64, .mpt 5 0 0)]) (st0 := [some (4, [[.ipt 2 [[.isl 6 (List.map rApiClass v2.1), .imp (List.map (rKV (fun x => iA x)) v2.2.1)]] 0 0, .mmp 1, .mmp 2, .msl 3 0 (List.length ((state_State_Copy v2.1 v2.2.1 (state_State_Set_s2 v2.1 v2.2.1 (state_State_Set_s2 v2.1 v2.2.1 v2.2.2.1 v2.2.2.2.1 v2.2.2.2.2 [65, 97] 2) v2.2.2.2.1 v2.2.2.2.2 [65, 97] 3) v9.2 v2.2.2.2.2).2.2.2.2))]]), some (2, List.map (rKV (fun x => iA x)) (state_State_Set_s2 v2.1 v2.2.1 (state_State_Set_s2 v2.1 v2.2.1 v2.2.2.1 v2.2.2.2.1 v2.2.2.2.2 [65, 97] 2) v2.2.2.2.1 v2.2.2.2.2 [65, 97] 3)), some (2, List.map (rKV (fun x => .agg (rFrameVal x))) v9.2), some (1, List.map rStr ((state_State_Copy v2.1 v2.2.1 (state_State_Set_s2 v2.1 v2.2.1 (state_State_Set_s2 v2.1 v2.2.1 v2.2.2.1 v2.2.2.2.1 v2.2.2.2.2 [65, 97] 2) v2.2.2.2.1 v2.2.2.2.2 [65, 97] 3) v9.2 v2.2.2.2.2).2.2.2.2)), some (2, [(rFrameVal v6.1)]), some (4, [[.ipt 2 [[.isl 6 (List.map rApiClass ((state_State_Copy v2.1 v2.2.1 (state_State_Set_s2 v2.1 v2.2.1 (state_State_Set_s2 v2.1 v2.2.1 v2.2.2.1 v2.2.2.2.1 v2.2.2.2.2 [65, 97] 2) v2.2.2.2.1 v2.2.2.2.2 [65, 97] 3) v9.2 v2.2.2.2.2).1)), .imp (List.map (rKV (fun x => iA x)) ((state_State_Copy v2.1 v2.2.1 (state_State_Set_s2 v2.1 v2.2.1 (state_State_Set_s2 v2.1 v2.2.1 v2.2.2.1 v2.2.2.2.1 v2.2.2.2.2 [65, 97] 2) v2.2.2.2.1 v2.2.2.2.2 [65, 97] 3) v9.2 v2.2.2.2.2).2.1))]] 0 0, .mmp 6, .mmp 7, .msl 3 0 (List.length ((state_State_Copy v2.1 v2.2.1 (state_State_Set_s2 v2.1 v2.2.1 (state_State_Set_s2 v2.1 v2.2.1 v2.2.2.1 v2.2.2.2.1 v2.2.2.2.2 [65, 97] 2) v2.2.2.2.1 v2.2.2.2.2 [65, 97] 3) v9.2 v2.2.2.2.2).2.2.2.2))]]), some (2, List.map (rKV (fun x => iA x)) ((state_State_Copy v2.1 v2.2.1 (state_State_Set_s2 v2.1 v2.2.1 (state_State_Set_s2 v2.1 v2.2.1 v2.2.2.1 v2.2.2.2.1 v2.2.2.2.2 [65, 97] 2) v2.2.2.2.1 v2.2.2.2.2 [65, 97] 3) v9.2 v2.2.2.2.2).2.2.1)), some (2, List.map (rKV (fun x => .agg (rFrameVal x))) ((state_State_Copy v2.1 v2.2.1 (state_State_Set_s2 v2.1 v2.2.1 (state_State_Set_s2 v2.1 v2.2.1 v2.2.2.1 v2.2.2.2.1 v2.2.2.2.2 [65, 97] 2) v2.2.2.2.1 v2.2.2.2.2 [65, 97] 3) v9.2 v2.2.2.2.2).2.2.2.1))]) ⟨[.old 0, .old 1, .old 2, .old 3, .old 4, .old 5, .old 6, .old 7], cv rfl (.mpt rfl) <| ce rfl rfl <| ce rfl rfl <| ce rfl rfl <| ce rfl rfl <| ce rfl rfl <| cv rfl (.mpt rfl) <| ce rfl rfl <| ce rfl rfl <| ce rfl rfl <| ce rfl rfl <| cv rfl (.mpt rfl) <| cn, rfl, ⟨⟨_, rfl, rsOne ⟨ci rfl, .mmp rfl, .mmp rfl, mslE (by simp) rfl, trivial⟩⟩, ⟨_, rfl, rsMap (fun _ => rfl)⟩, ⟨_, rfl, rsMap (fun _ => rfl)⟩, ⟨_, rfl, rsMap (fun _ => rfl)⟩, ⟨_, rfl, rsOne (ciL rfl)⟩, ⟨_, rfl, rsOne ⟨ci rfl, .mmp rfl, .mmp rfl, mslE (by simp) rfl, trivial⟩⟩, ⟨_, rfl, rsMap (fun _ => rfl)⟩, ⟨_, rfl, rsMap (fun _ => rfl)⟩, trivial⟩, rfl, Nat.le_of_ble_eq_true rfl⟩ <| u <| asg rfl <| r_nil ?_
  obtain ⟨v10, q11, h⟩ := bs h
  refine rg rfl <| u <| mv rfl <| u <| bd ti54 rfl rfl rfl <| u <| sc [0, 1, 2, 3] (state_State_Put_ok v2.1 v2.2.1 (state_State_Set_s2 v2.1 v2.2.1 (state_State_Set_s2 v2.1 v2.2.1 v2.2.2.1 v2.2.2.2.1 v2.2.2.2.2 [65, 97] 2) v2.2.2.2.1 v2.2.2.2.2 [65, 97] 3) v9.2 ((state_State_Copy v2.1 v2.2.1 (state_State_Set_s2 v2.1 v2.2.1 (state_State_Set_s2 v2.1 v2.2.1 v2.2.2.1 v2.2.2.2.1 v2.2.2.2.2 [65, 97] 2) v2.2.2.2.1 v2.2.2.2.2 [65, 97] 3) v9.2 v2.2.2.2.2).2.2.2.2) [65, 97] [115] (FrameVal.mk false 5) q11) rfl rfl rfl rfl ⟨(.mpt rfl), (rnI rfl), (rnI rfl), (rnI rfl), trivial⟩ ⟨⟨_, rfl, ⟨(rnI rfl), (.mmp rfl), (.mmp rfl), (.msl rfl), trivial⟩⟩, ⟨rfl, mkI (fun _ => rfl)⟩, ⟨rfl, mkI (fun _ => rfl)⟩, ⟨rfl, mkI (fun _ => rfl)⟩, trivial⟩ <| r_can (env0 := [(3, .mpt 0 0 0), (4, sA v3.1), (5, iA v3.2), (6, sA v4.1), (8, sA v5.1), (9, iA v5.2), (10, .mpt 4 0 0), (11, bA v6.2), (13, bA v7.2), (14, bA v8.1), (15, bA v9.1), (16, .mpt 5 0 0)]) (st0 := [some (4, [[.ipt 2 [[.isl 6 (List.map rApiClass v2.1), .imp (List.map (rKV (fun x => iA x)) v2.2.1)]] 0 0, .mmp 1, .mmp 2, .msl 3 0 (List.length ((state_State_Copy v2.1 v2.2.1 (state_State_Set_s2 v2.1 v2.2.1 (state_State_Set_s2 v2.1 v2.2.1 v2.2.2.1 v2.2.2.2.1 v2.2.2.2.2 [65, 97] 2) v2.2.2.2.1 v2.2.2.2.2 [65, 97] 3) v9.2 v2.2.2.2.2).2.2.2.2))]]), some (2, List.map (rKV (fun x => iA x)) (state_State_Set_s2 v2.1 v2.2.1 (state_State_Set_s2 v2.1 v2.2.1 v2.2.2.1 v2.2.2.2.1 v2.2.2.2.2 [65, 97] 2) v2.2.2.2.1 v2.2.2.2.2 [65, 97] 3)), some (2, List.map (rKV (fun x => .agg (rFrameVal x))) v10.2), some (1, List.map rStr ((state_State_Copy v2.1 v2.2.1 (state_State_Set_s2 v2.1 v2.2.1 (state_State_Set_s2 v2.1 v2.2.1 v2.2.2.1 v2.2.2.2.1 v2.2.2.2.2 [65, 97] 2) v2.2.2.2.1 v2.2.2.2.2 [65, 97] 3) v9.2 v2.2.2.2.2).2.2.2.2)), some (2, [(rFrameVal v6.1)]), some (4, [[.ipt 2 [[.isl 6 (List.map rApiClass ((state_State_Copy v2.1 v2.2.1 (state_State_Set_s2 v2.1 v2.2.1 (state_State_Set_s2 v2.1 v2.2.1 v2.2.2.1 v2.2.2.2.1 v2.2.2.2.2 [65, 97] 2) v2.2.2.2.1 v2.2.2.2.2 [65, 97] 3) v9.2 v2.2.2.2.2).1)), .imp (List.map (rKV (fun x => iA x)) ((state_State_Copy v2.1 v2.2.1 (state_State_Set_s2 v2.1 v2.2.1 (state_State_Set_s2 v2.1 v2.2.1 v2.2.2.1 v2.2.2.2.1 v2.2.2.2.2 [65, 97] 2) v2.2.2.2.1 v2.2.2.2.2 [65, 97] 3) v9.2 v2.2.2.2.2).2.1))]] 0 0, .mmp 6, .mmp 7, .msl 3 0 (List.length ((state_State_Copy v2.1 v2.2.1 (state_State_Set_s2 v2.1 v2.2.1 (state_State_Set_s2 v2.1 v2.2.1 v2.2.2.1 v2.2.2.2.1 v2.2.2.2.2 [65, 97] 2) v2.2.2.2.1 v2.2.2.2.2 [65, 97] 3) v9.2 v2.2.2.2.2).2.2.2.2))]]), some (2, List.map (rKV (fun x => iA x)) ((state_State_Copy v2.1 v2.2.1 (state_State_Set_s2 v2.1 v2.2.1 (state_State_Set_s2 v2.1 v2.2.1 v2.2.2.1 v2.2.2.2.1 v2.2.2.2.2 [65, 97] 2) v2.2.2.2.1 v2.2.2.2.2 [65, 97] 3) v9.2 v2.2.2.2.2).2.2.1)), some (2, List.map (rKV (fun x => .agg (rFrameVal x))) ((state_State_Copy v2.1 v2.2.1 (state_State_Set_s2 v2.1 v2.2.1 (state_State_Set_s2 v2.1 v2.2.1 v2.2.2.1 v2.2.2.2.1 v2.2.2.2.2 [65, 97] 2) v2.2.2.2.1 v2.2.2.2.2 [65, 97] 3) v9.2 v2.2.2.2.2).2.2.2.1))]) ⟨[.old 0, .old 1, .old 2, .old 3, .old 4, .old 5, .old 6, .old 7], cv rfl (.mpt rfl) <| ce rfl rfl <| ce rfl rfl <| ce rfl rfl <| ce rfl rfl <| ce rfl rfl <| cv rfl (.mpt rfl) <| ce rfl rfl <| ce rfl rfl <| ce rfl rfl <| ce rfl rfl <| cv rfl (.mpt rfl) <| cn, rfl, ⟨⟨_, rfl, rsOne ⟨ci rfl, .mmp rfl, .mmp rfl, .msl rfl, trivial⟩⟩, ⟨_, rfl, rsMap (fun _ => rfl)⟩, ⟨_, rfl, rsMap (fun _ => rfl)⟩, ⟨_, rfl, rsMap (fun _ => rfl)⟩, ⟨_, rfl, rsOne (ciL rfl)⟩, ⟨_, rfl, rsOne ⟨ci rfl, .mmp rfl, .mmp rfl, .msl rfl, trivial⟩⟩, ⟨_, rfl, rsMap (fun _ => rfl)⟩, ⟨_, rfl, rsMap (fun _ => rfl)⟩, trivial⟩, rfl, Nat.le_of_ble_eq_true rfl⟩ <| r_nil ?_
  obtain ⟨v11, q12, h⟩ := bs h
  refine rg rfl <| u <| mv rfl <| u <| sc [5, 6, 7, 3] (state_State_Get_s2_ok ((state_State_Copy v2.1 v2.2.1 (state_State_Set_s2 v2.1 v2.2.1 (state_State_Set_s2 v2.1 v2.2.1 v2.2.2.1 v2.2.2.2.1 v2.2.2.2.2 [65, 97] 2) v2.2.2.2.1 v2.2.2.2.2 [65, 97] 3) v9.2 v2.2.2.2.2).1) ((state_State_Copy v2.1 v2.2.1 (state_State_Set_s2 v2.1 v2.2.1 (state_State_Set_s2 v2.1 v2.2.1 v2.2.2.1 v2.2.2.2.1 v2.2.2.2.2 [65, 97] 2) v2.2.2.2.1 v2.2.2.2.2 [65, 97] 3) v9.2 v2.2.2.2.2).2.1) ((state_State_Copy v2.1 v2.2.1 (state_State_Set_s2 v2.1 v2.2.1 (state_State_Set_s2 v2.1 v2.2.1 v2.2.2.1 v2.2.2.2.1 v2.2.2.2.2 [65, 97] 2) v2.2.2.2.1 v2.2.2.2.2 [65, 97] 3) v9.2 v2.2.2.2.2).2.2.1) ((state_State_Copy v2.1 v2.2.1 (state_State_Set_s2 v2.1 v2.2.1 (state_State_Set_s2 v2.1 v2.2.1 v2.2.2.1 v2.2.2.2.1 v2.2.2.2.2 [65, 97] 2) v2.2.2.2.1 v2.2.2.2.2 [65, 97] 3) v9.2 v2.2.2.2.2).2.2.2.1) ((state_State_Copy v2.1 v2.2.1 (state_State_Set_s2 v2.1 v2.2.1 (state_State_Set_s2 v2.1 v2.2.1 v2.2.2.1 v2.2.2.2.1 v2.2.2.2.2 [65, 97] 2) v2.2.2.2.1 v2.2.2.2.2 [65, 97] 3) v9.2 v2.2.2.2.2).2.2.2.2) [65, 97] [115] q12) rfl rfl rfl rfl ⟨(.mpt rfl), (rnI rfl), (rnI rfl), trivial⟩ ⟨⟨_, rfl, ⟨(rnI rfl), (.mmp rfl), (.mmp rfl), (.msl rfl), trivial⟩⟩, ⟨rfl, mkI (fun _ => rfl)⟩, ⟨rfl, mkI (fun _ => rfl)⟩, ⟨rfl, mkI (fun _ => rfl)⟩, trivial⟩ <| r_can (env0 := [(3, .mpt 0 0 0), (4, sA v3.1), (5, iA v3.2), (6, sA v4.1), (8, sA v5.1), (9, iA v5.2), (10, .mpt 4 0 0), (11, bA v6.2), (13, bA v7.2), (14, bA v8.1), (15, bA v9.1), (70, .tup [.agg (rFrameVal v11.1), bA v11.2])]) (st0 := [some (4, [[.ipt 2 [[.isl 6 (List.map rApiClass v2.1), .imp (List.map (rKV (fun x => iA x)) v2.2.1)]] 0 0, .mmp 1, .mmp 2, .msl 3 0 (List.length ((state_State_Copy v2.1 v2.2.1 (state_State_Set_s2 v2.1 v2.2.1 (state_State_Set_s2 v2.1 v2.2.1 v2.2.2.1 v2.2.2.2.1 v2.2.2.2.2 [65, 97] 2) v2.2.2.2.1 v2.2.2.2.2 [65, 97] 3) v9.2 v2.2.2.2.2).2.2.2.2))]]), some (2, List.map (rKV (fun x => iA x)) (state_State_Set_s2 v2.1 v2.2.1 (state_State_Set_s2 v2.1 v2.2.1 v2.2.2.1 v2.2.2.2.1 v2.2.2.2.2 [65, 97] 2) v2.2.2.2.1 v2.2.2.2.2 [65, 97] 3)), some (2, List.map (rKV (fun x => .agg (rFrameVal x))) v10.2), some (1, List.map rStr ((state_State_Copy v2.1 v2.2.1 (state_State_Set_s2 v2.1 v2.2.1 (state_State_Set_s2 v2.1 v2.2.1 v2.2.2.1 v2.2.2.2.1 v2.2.2.2.2 [65, 97] 2) v2.2.2.2.1 v2.2.2.2.2 [65, 97] 3) v9.2 v2.2.2.2.2).2.2.2.2)), some (2, [(rFrameVal v6.1)])]) ⟨[.old 0, .old 1, .old 2, .old 3, .old 4], cv rfl (.mpt rfl) <| ce rfl rfl <| ce rfl rfl <| ce rfl rfl <| ce rfl rfl <| ce rfl rfl <| cv rfl (.mpt rfl) <| ce rfl rfl <| ce rfl rfl <| ce rfl rfl <| ce rfl rfl <| ce rfl rfl <| cn, rfl, ⟨⟨_, rfl, rsOne ⟨ci rfl, .mmp rfl, .mmp rfl, .msl rfl, trivial⟩⟩, ⟨_, rfl, rsMap (fun _ => rfl)⟩, ⟨_, rfl, rsMap (fun _ => rfl)⟩, ⟨_, rfl, rsMap (fun _ => rfl)⟩, ⟨_, rfl, rsOne (ciL rfl)⟩, trivial⟩, rfl, Nat.le_of_ble_eq_true rfl⟩ <| u <| mv rfl <| u <| ex rfl rfl <| u <| ex rfl rfl <| u <| al 5 ti54 rfl <| u <| sto ti54 rfl rfl rfl <| u <| asg rfl <| r_nil ?_
  refine rg rfl <| u <| pc (law8_Begun_ok rfl) rfl rfl rfl <| u <| mv rfl <| r_and (j := 1) 1 rfl rfl rfl rfl rfl gpn (fun hb13 => g rfl hb13 <| pc (law15_Begun_ok rfl) rfl rfl rfl <| r_nil (egA [75] 1 hb13 rfl rfl rfl rfl)) andF <| u <| mv rfl <| r_and (j := 4) 2 rfl rfl rfl rfl rfl gpn (fun hb14 => g rfl hb14 <| mv rfl <| g rfl hb14 <| seq ti9 rfl rfl <| r_nil (egA [78, 79] 2 hb14 rfl rfl rfl rfl)) andF <| u <| mv rfl <| r_and (j := 8) 2 rfl rfl rfl rfl rfl gpn (fun hb15 => g rfl hb15 <| mv rfl <| g rfl hb15 <| eql ti3 rfl rfl <| r_nil (egA [82, 83] 2 hb15 rfl rfl rfl rfl)) andF <| u <| mv rfl <| r_and (j := 12) 2 rfl rfl rfl rfl rfl gpn (fun hb16 => g rfl hb16 <| mv rfl <| g rfl hb16 <| seq ti9 rfl rfl <| r_nil (egA [86, 87] 2 hb16 rfl rfl rfl rfl)) andF <| u <| mv rfl <| r_and (j := 16) 2 rfl rfl rfl rfl rfl gpn (fun hb17 => g rfl hb17 <| mv rfl <| g rfl hb17 <| seq ti9 rfl rfl <| r_nil (egA [90, 91] 2 hb17 rfl rfl rfl rfl)) andF <| u <| mv rfl <| r_and (j := 20) 2 rfl rfl rfl rfl rfl gpn (fun hb18 => g rfl hb18 <| mv rfl <| g rfl hb18 <| eql ti3 rfl rfl <| r_nil (egA [94, 95] 2 hb18 rfl rfl rfl rfl)) andF <| u <| mv rfl <| r_and (j := 24) 1 rfl rfl rfl rfl rfl gpn (fun hb19 => g rfl hb19 <| mv rfl <| r_nil (egA [98] 1 hb19 rfl rfl rfl rfl)) andF <| u <| mv rfl <| r_and (j := 27) 3 rfl rfl rfl rfl rfl gpn (fun hb20 => g rfl hb20 <| fa ti54 rfl rfl rfl <| g rfl hb20 <| ld ti21 rfl rfl <| g rfl hb20 <| eql ti21 rfl rfl <| r_nil (egA [101, 102, 103] 3 hb20 rfl rfl rfl rfl)) andF <| u <| mv rfl <| r_and (j := 32) 2 rfl rfl rfl rfl rfl gpn (fun hb21 => g rfl hb21 <| mv rfl <| g rfl hb21 <| nt rfl <| r_nil (egA [106, 107] 2 hb21 rfl rfl rfl rfl)) andF <| u <| mv rfl <| r_and (j := 36) 1 rfl rfl rfl rfl rfl gpn (fun hb22 => g rfl hb22 <| mv rfl <| r_nil (egA [110] 1 hb22 rfl rfl rfl rfl)) andF <| u <| mv rfl <| r_and (j := 39) 2 rfl rfl rfl rfl rfl gpn (fun hb23 => g rfl hb23 <| mv rfl <| g rfl hb23 <| nt rfl <| r_nil (egA [113, 114] 2 hb23 rfl rfl rfl rfl)) andF <| u <| mv rfl <| r_and (j := 43) 3 rfl rfl rfl rfl rfl gpn (fun hb24 => g rfl hb24 <| fa ti54 rfl rfl rfl <| g rfl hb24 <| ld ti21 rfl rfl <| g rfl hb24 <| eql ti21 rfl rfl <| r_nil (egA [117, 118, 119] 3 hb24 rfl rfl rfl rfl)) andF <| u <| mv rfl <| r_and (j := 48) 3 rfl rfl rfl rfl rfl gpn (fun hb25 => g rfl hb25 <| mv rfl <| g rfl hb25 <| sc [0, 1, 2, 3] (state_State_At_ok v2.1 v2.2.1 (state_State_Set_s2 v2.1 v2.2.1 (state_State_Set_s2 v2.1 v2.2.1 v2.2.2.1 v2.2.2.2.1 v2.2.2.2.2 [65, 97] 2) v2.2.2.2.1 v2.2.2.2.2 [65, 97] 3) v10.2 ((state_State_Copy v2.1 v2.2.1 (state_State_Set_s2 v2.1 v2.2.1 (state_State_Set_s2 v2.1 v2.2.1 v2.2.2.1 v2.2.2.2.1 v2.2.2.2.2 [65, 97] 2) v2.2.2.2.1 v2.2.2.2.2 [65, 97] 3) v9.2 v2.2.2.2.2).2.2.2.2) [79, 98, 106, 101, 99, 116] rfl) rfl rfl rfl rfl ⟨(.mpt rfl), (rnI rfl), trivial⟩ ⟨⟨_, rfl, ⟨(rnI rfl), (.mmp rfl), (.mmp rfl), (.msl rfl), trivial⟩⟩, ⟨rfl, mkI (fun _ => rfl)⟩, ⟨rfl, mkI (fun _ => rfl)⟩, ⟨rfl, mkI (fun _ => rfl)⟩, trivial⟩ <| g rfl hb25 <| eql ti3 rfl rfl <| r_nil (egA [122, 123, 124] 3 hb25 rfl rfl rfl rfl)) andF <| u <| mv rfl <| r_and (j := 53) 3 rfl rfl rfl rfl rfl gpn (fun hb26 => g rfl hb26 <| mv rfl <| g rfl hb26 <| sc [0, 1, 2, 3] (state_State_At_ok v2.1 v2.2.1 (state_State_Set_s2 v2.1 v2.2.1 (state_State_Set_s2 v2.1 v2.2.1 v2.2.2.1 v2.2.2.2.1 v2.2.2.2.2 [65, 97] 2) v2.2.2.2.1 v2.2.2.2.2 [65, 97] 3) v10.2 ((state_State_Copy v2.1 v2.2.1 (state_State_Set_s2 v2.1 v2.2.1 (state_State_Set_s2 v2.1 v2.2.1 v2.2.2.1 v2.2.2.2.1 v2.2.2.2.2 [65, 97] 2) v2.2.2.2.1 v2.2.2.2.2 [65, 97] 3) v9.2 v2.2.2.2.2).2.2.2.2) [90, 122] rfl) rfl rfl rfl rfl ⟨(.mpt rfl), (rnI rfl), trivial⟩ ⟨⟨_, rfl, ⟨(rnI rfl), (.mmp rfl), (.mmp rfl), (.msl rfl), trivial⟩⟩, ⟨rfl, mkI (fun _ => rfl)⟩, ⟨rfl, mkI (fun _ => rfl)⟩, ⟨rfl, mkI (fun _ => rfl)⟩, trivial⟩ <| g rfl hb26 <| eql ti3 rfl rfl <| r_nil (egA [127, 128, 129] 3 hb26 rfl rfl rfl rfl)) andF <| u <| asg rfl <| r_nil ?_
  refine sw_ret ?_
  obtain rfl := sm h
  exact ⟨_, rfl, [], ci rfl, rfl, trivial, rfl, Nat.le_of_ble_eq_true rfl⟩
noncomputable def state_State_At_s2 (v1 : List UInt8) : Int :=
  0
theorem state_State_At_s2_ok (v1 : List UInt8) {r : Int} (h : state_State_At_s2 v1 = r) : PureC Tryz.prog 36 [.lit (.pointer none), sA v1] (iA r) := by
 refine pure_fn Tryz.func36 rfl (by kernel_rfl) rfl rfl ?_
 unfold state_State_At_s2 at h
 refine rg rfl <| u <| asg rfl <| r_nil ?_
 refine sw_seq ?_
 refine rg rfl <| u <| mv rfl <| u <| eqp ti36 rfl rfl rfl rfl rfl rfl <| r_nil ?_
 refine sw_cond rfl (fun _ => ?_) (fun hx => by cases hx)
 refine rg rfl <| u <| asg rfl <| r_nil ?_
 refine sw_ret ?_
 obtain rfl := h
 exact ⟨_, rfl, [], ci rfl, rfl, trivial, rfl, Nat.le_of_ble_eq_true rfl⟩
noncomputable def state_State_Put_s2 (v1 : List UInt8) (v2 : List UInt8) (v3 : FrameVal) : Option (Bool) :=
  cond ((!((state_State_Get v1 v2).2)) || (!(((state_State_Get v1 v2).1.Ref) == v3.Ref))) (some false) (none)
theorem state_State_Put_s2_ok (v1 : List UInt8) (v2 : List UInt8) (v3 : FrameVal) {r : Bool} (h : state_State_Put_s2 v1 v2 v3 = some r) : PureC Tryz.prog 30 [.lit (.pointer none), sA v1, sA v2, .agg (rFrameVal v3)] (bA r) := by
 refine pure_fn Tryz.func30 rfl (by kernel_rfl) rfl rfl ?_
 unfold state_State_Put_s2 at h
 refine rg rfl <| u <| bx 0 2 rfl rfl rfl rfl <| u <| asg rfl <| r_nil ?_
 refine sw_seq ?_
 refine rg rfl <| u <| mv rfl <| u <| mv rfl <| u <| mv rfl <| u <| pc (state_State_Get_ok v1 v2 rfl) rfl rfl rfl <| u <| mv rfl <| u <| ex rfl rfl <| u <| ex rfl rfl <| u <| al 1 ti54 rfl <| u <| sto ti54 rfl rfl rfl <| u <| asg rfl <| r_nil ?_
 refine rg rfl <| u <| mv rfl <| u <| nt rfl <| u <| mv rfl <| r_or (j := 2) 5 rfl rfl rfl rfl rfl gpn (fun hb1 => g rfl hb1 <| fa ti54 rfl rfl rfl <| g rfl hb1 <| ld ti4 rfl rfl <| g rfl hb1 <| fa ti54 rfl rfl rfl <| g rfl hb1 <| ld ti4 rfl rfl <| g rfl hb1 <| bne ti4 rfl rfl rfl <| r_nil (egO [21, 22, 23, 24, 25] 5 hb1 rfl rfl rfl rfl)) orT <| r_nil ?_
 refine sw_cond rfl (fun hc2 => ?_) (fun hc2 => ?_)
 ·
  replace h := bT hc2 h
  refine rg rfl <| u <| asg rfl <| r_nil ?_
  refine sw_ret ?_
  obtain rfl := sm h
  exact ⟨_, rfl, [], ci rfl, rfl, trivial, rfl, Nat.le_of_ble_eq_true rfl⟩
 ·
  replace h := bF hc2 h
  refine sw_skip ?_
  cases h
noncomputable def state_State_Refs_k2 : Option ((List Int)) :=
  some []
noncomputable def state_State_Refs_l1 : Option (Sum (Unit) (Sum (Unit) ((List Int)))) :=
  cond (decide (0 < (List.length (state_State_refs) : Int))) ((idx (state_State_refs) 0).bind fun v1 => none) (some (.inr (.inl ())))
noncomputable def state_State_Refs : Option ((List Int)) :=
  (loopP (fun z => state_State_Refs_l1) ()).bind fun o => leave o (fun b => state_State_Refs_k2) some
theorem state_State_Refs_ok {r : (List Int)} (h : state_State_Refs = some r) : PureC Tryz.prog 31 [.lit (.pointer none)] (.isl 1 (List.map (rI .i64) r)) := by
 refine pure_fn Tryz.func31 rfl (by kernel_rfl) rfl rfl ?_
 unfold state_State_Refs at h
 refine rg rfl <| u <| asg rfl <| r_nil ?_
 refine rg rfl <| u <| asg rfl <| r_nil ?_
 refine sw_seq ?_
 refine rg rfl <| u <| mv rfl <| u <| pc (state_State_refs_ok rfl) rfl rfl rfl <| u <| lnI ti25 rfl rfl <| u <| mv rfl <| r_nil ?_
 obtain ⟨o, ho, h⟩ := bs h
 refine sw_lpl (X := Unit) (B := Unit) (R := (List Int)) (fun z => [(0, .lit (.pointer none)), (3, .lit (.slice none 0 0)), (7, .isl 1 (List.map rStr (state_State_refs))), (8, iA (List.length (state_State_refs) : Int)), (9, iA 0)]) (fun z => []) (fun b => [(3, .lit (.slice none 0 0))]) (fun b => []) (fun r env st => PostF Tryz.prog Tryz.f31 0 (.isl 1 (List.map (rI .i64) r)) [] env st) ho ⟨[], ce rfl rfl <| ce rfl rfl <| ce rfl rfl <| ce rfl rfl <| ce rfl rfl <| cn, rfl, trivial, rfl, Nat.le_of_ble_eq_true rfl⟩ ?_ ?_ ?_
 ·
  rintro ⟨⟩ r h
  replace h : state_State_Refs_l1 = some r := h
  unfold state_State_Refs_l1 at h
  refine rg rfl <| u <| lss ti3 rfl rfl <| r_nil ?_
  refine sw_seq ?_
  refine sw_cond rfl (fun hc1 => ?_) (fun hc1 => ?_)
  ·
   replace h := bT hc1 h
   refine sw_skip ?_
   refine sw_seq ?_
   refine sw_block ?_
   obtain ⟨v1, q2, h⟩ := bs h
   refine rg rfl <| u <| ixI ti25 rfl ti9 rfl rfl rfl q2 <| u <| ldI ti9 rfl (idx_some q2).2.2 rfl <| u <| asg rfl <| r_nil ?_
   cases h
  ·
   replace h := bF hc1 h
   refine sw_exit ?_
   obtain rfl := sm h
   exact ⟨rfl, _, rfl, [], ce rfl rfl <| cn, rfl, trivial, rfl, Nat.le_of_ble_eq_true rfl⟩
 ·
  rintro ⟨⟩ rfl
  replace h : state_State_Refs_k2 = some r := h
  unfold state_State_Refs_k2 at h
  refine ow_intro ?_
  refine rg rfl <| u <| mv rfl <| u <| asg rfl <| r_nil ?_
  refine sw_ret ?_
  obtain rfl := sm h
  exact ⟨_, rfl, [], .nil, rfl, trivial, rfl, Nat.le_of_ble_eq_true rfl⟩
 ·
  rintro r' rfl env st hp
  obtain rfl := sm h
  exact hp
noncomputable def state_State_Copy_s2 : Unit :=
  ()
theorem state_State_Copy_s2_ok {r : Unit} (h : state_State_Copy_s2 = r) : PureC Tryz.prog 34 [.lit (.pointer none)] (.lit (.pointer none)) := by
 refine pure_fn Tryz.func34 rfl (by kernel_rfl) rfl rfl ?_
 unfold state_State_Copy_s2 at h
 refine rg rfl <| u <| asg rfl <| r_nil ?_
 refine sw_seq ?_
 refine rg rfl <| u <| mv rfl <| u <| eqp ti36 rfl rfl rfl rfl rfl rfl <| r_nil ?_
 refine sw_cond rfl (fun _ => ?_) (fun hx => by cases hx)
 refine rg rfl <| u <| asg rfl <| r_nil ?_
 refine sw_ret ?_
 obtain rfl := h
 exact ⟨_, rfl, [], ci rfl, rfl, trivial, rfl, Nat.le_of_ble_eq_true rfl⟩
noncomputable def law16_StateNone : Option (Bool) :=
  (state_State_SetRefs []).bind fun v1 => (law16_begun).bind fun v2 => (cond ((((v2 && ((state_State_At_s2 [79, 98, 106, 101, 99, 116]) == (0 : Int))) && (((state_State_Next [79, 98, 106, 101, 99, 116]).1) == [])) && (((state_State_Next [79, 98, 106, 101, 99, 116]).2) == (0 : Int))) && (!((state_State_Get [79, 98, 106, 101, 99, 116] [120]).2))) ((state_State_Put_s2 [79, 98, 106, 101, 99, 116] [120] (FrameVal.mk false 0)).bind fun v3 => some (!v3)) (some false)).bind fun v4 => (cond v4 ((state_State_Refs).bind fun v5 => some ((List.length v5 : Int) == (0 : Int))) (some false)).bind fun v6 => some (v6 && true)
theorem law16_StateNone_ok {r : Bool} (h : law16_StateNone = some r) : PureC Tryz.prog 5 [] (bA r) := by
 refine pure_fn Tryz.func5 rfl (by kernel_rfl) rfl rfl ?_
 unfold law16_StateNone at h
 refine rg rfl <| u <| asg rfl <| r_nil ?_
 refine rg rfl <| u <| asg rfl <| r_nil ?_
 refine rg rfl <| u <| mv rfl <| u <| pc (state_State_Set_ok [79, 98, 106, 101, 99, 116] 1 rfl) rfl rfl rfl <| r_nil ?_
 obtain ⟨v1, q1, h⟩ := bs h
 refine rg rfl <| u <| mv rfl <| u <| pcs (state_State_SetRefs_ok [] q1) rfl rfl (.cons (si rfl) (.cons (.nil) .nil)) plainB <| r_nil ?_
 refine rg rfl <| u <| mv rfl <| u <| pc (state_State_Next_ok [79, 98, 106, 101, 99, 116] rfl) rfl rfl rfl <| u <| mv rfl <| u <| ex rfl rfl <| u <| ex rfl rfl <| u <| asg rfl <| u <| asg rfl <| r_nil ?_
 refine rg rfl <| u <| mv rfl <| u <| pc (state_State_Get_ok [79, 98, 106, 101, 99, 116] [120] rfl) rfl rfl rfl <| u <| mv rfl <| u <| ex rfl rfl <| u <| ex rfl rfl <| u <| al 0 ti54 rfl <| u <| sto ti54 rfl rfl rfl <| u <| asg rfl <| r_nil ?_
 obtain ⟨v2, q2, h⟩ := bs h
 obtain ⟨v4, q9, h⟩ := bs h
 obtain ⟨v6, q12, h⟩ := bs h
 refine rg rfl <| u <| pc (law16_begun_ok q2) rfl rfl rfl <| u <| mv rfl <| r_and (j := 1) 3 rfl rfl rfl rfl rfl gpn (fun hb3 => g rfl hb3 <| mv rfl <| g rfl hb3 <| pc (state_State_At_s2_ok [79, 98, 106, 101, 99, 116] rfl) rfl rfl rfl <| g rfl hb3 <| eql ti3 rfl rfl <| r_nil (egA [22, 23, 24] 3 hb3 rfl rfl rfl rfl)) andF <| u <| mv rfl <| r_and (j := 6) 2 rfl rfl rfl rfl rfl gpn (fun hb4 => g rfl hb4 <| mv rfl <| g rfl hb4 <| seq ti9 rfl rfl <| r_nil (egA [27, 28] 2 hb4 rfl rfl rfl rfl)) andF <| u <| mv rfl <| r_and (j := 10) 2 rfl rfl rfl rfl rfl gpn (fun hb5 => g rfl hb5 <| mv rfl <| g rfl hb5 <| eql ti3 rfl rfl <| r_nil (egA [31, 32] 2 hb5 rfl rfl rfl rfl)) andF <| u <| mv rfl <| r_and (j := 14) 2 rfl rfl rfl rfl rfl gpn (fun hb6 => g rfl hb6 <| mv rfl <| g rfl hb6 <| nt rfl <| r_nil (egA [35, 36] 2 hb6 rfl rfl rfl rfl)) andF <| u <| mv rfl <| r_and (x := v4) (j := 18) 4 rfl rfl rfl rfl rfl gpn (fun hb7 => by replace q9 := bT hb7 q9; obtain ⟨v3, q8, q9⟩ := bs q9; obtain rfl := sm q9; exact g rfl hb7 <| mv rfl <| g rfl hb7 <| bd ti54 rfl rfl rfl <| g rfl hb7 <| pc (state_State_Put_s2_ok [79, 98, 106, 101, 99, 116] [120] (FrameVal.mk false 0) q8) rfl rfl rfl <| g rfl hb7 <| nt rfl <| r_nil (eg [39, 40, 41, 42] 4 rfl rfl rfl rfl)) (fun hb => (sm (bF hb q9)).symm) <| u <| mv rfl <| r_and (x := v6) (j := 24) 4 rfl rfl rfl rfl rfl gpn (fun hb10 => by replace q12 := bT hb10 q12; obtain ⟨v5, q11, q12⟩ := bs q12; obtain rfl := sm q12; exact g rfl hb10 <| mv rfl <| g rfl hb10 <| pc (state_State_Refs_ok q11) rfl rfl rfl <| g rfl hb10 <| lnI ti22 rfl rfl <| g rfl hb10 <| eql ti3 rfl rfl <| r_nil (eg [45, 46, 47, 48] 4 rfl rfl rfl rfl)) (fun hb => (sm (bF hb q12)).symm) <| u <| mv rfl <| r_and (j := 30) 3 rfl rfl rfl rfl rfl gpn (fun hb13 => g rfl hb13 <| mv rfl <| g rfl hb13 <| pc (state_State_Copy_s2_ok rfl) rfl rfl rfl <| g rfl hb13 <| eqp ti36 rfl rfl rfl rfl rfl rfl <| r_nil (egA [51, 52, 53] 3 hb13 rfl rfl rfl rfl)) andF <| u <| asg rfl <| r_nil ?_
 refine sw_ret ?_
 obtain rfl := sm h
 exact ⟨_, rfl, [], ci rfl, rfl, trivial, rfl, Nat.le_of_ble_eq_true rfl⟩
end Go.Proofs.YtjbdfkapnffjnaaGreat
namespace Go.Proofs.YtjbdfkapnffjnaaGreat
set_option linter.unusedSimpArgs false
set_option linter.unusedVariables false
theorem law16_begun_eq : law16_begun = some true := by kernel_rfl
theorem law16_StateNone_eq : law16_StateNone = some true := by
  unfold law16_StateNone
  rw [law16_begun_eq]
  kernel_rfl
theorem stateNone_pure : PureC Tryz.prog 5 [] (bA true) := law16_StateNone_ok law16_StateNone_eq
end Go.Proofs.YtjbdfkapnffjnaaGreat
