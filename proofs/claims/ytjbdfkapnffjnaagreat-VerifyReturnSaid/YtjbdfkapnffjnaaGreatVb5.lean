/- VerifyReturn: for every input the law returns true, and each argument reads as it read before. No further condition. Part 5 of 6. -/
import Derived.Test.YtjbdfkapnffjnaaGreatVb4
namespace Go.Proofs.YtjbdfkapnffjnaaGreat
noncomputable section
set_option linter.unusedSimpArgs false
set_option linter.unusedVariables false
set_option maxRecDepth 100000
set_option maxHeartbeats 4000000
def verify_Method_k10 (v55 : List (List UInt8)) (v56 : List (List UInt8)) (v57 : Bool) : Option (Bool) :=
  some (!v57)
def verify_Method_j8 (v8 : ApiMethod) (v48 : Int) (v49 : ApiIns) (v52 : (List (List UInt8)) × (List (List UInt8)) × Bool) (v54 : Bool) : Option (Sum ((List (List UInt8)) × (List (List UInt8)) × Bool × Bool × Int) (Sum ((List (List UInt8)) × (List (List UInt8)) × Bool) (Bool))) :=
  some (.inl (v52.1,v52.2.1,(v54 || (!(decide (((List.length v52.2.1) : Int) ≤ v8.Stack)))),(!(op_Ends v49.Op)),(IntKind.i64.wrap (v48 + 1))))
def verify_Method_l9 (v2 : List UInt8) (v4 : HierHier) (v8 : ApiMethod) (v44 : List (List UInt8)) (v45 : List (List UInt8)) (v46 : Bool) (v47 : Bool) (v48 : Int) : Option (Sum ((List (List UInt8)) × (List (List UInt8)) × Bool × Bool × Int) (Sum ((List (List UInt8)) × (List (List UInt8)) × Bool) (Bool))) :=
  cond (decide (v48 < (List.length v8.Code : Int))) ((idx v8.Code v48).bind fun v49=>(verify_checker_enter v4.l v4.at_ v2 v8 v44 v45 v46 v48 v47).bind fun v50=>cond v50.2.2 (some (.inr (.inr false))) ((verify_checker_traps v4.l v4.at_ v2 v8 v50.1 v50.2.1 v50.2.2 v48).bind fun v51=>(verify_checker_one v4.l v4.at_ v2 v8 v50.1 v50.2.1 v51 v49).bind fun v52=>cond (op_Jumps v49.Op) ((verify_checker_goes v4.l v4.at_ v2 v8 v52.1 v52.2.1 v52.2.2 v49.A).bind fun v53=>verify_Method_j8 v8 v48 v49 v52 v53) (verify_Method_j8 v8 v48 v49 v52 v52.2.2))) (some (.inr (.inl (v44,v45,v46))))
def verify_Method_k6 (v2 : List UInt8) (v4 : HierHier) (v8 : ApiMethod) (v23 : Bool) (v24 : Bool) (v32 : List (List UInt8)) : Option (Bool) :=
  (loopP (fun z=>verify_Method_l9 v2 v4 v8 z.1 z.2.1 z.2.2.1 z.2.2.2.1 z.2.2.2.2) (v32,[],(v23 || (!v24)),true,0)).bind fun o=>leave o (fun b=>verify_Method_k10 b.1 b.2.1 b.2.2) some
def verify_Method_l5 (v8 : ApiMethod) (v30 : List (List UInt8)) : Option (Sum ((List (List UInt8))) (Sum ((List (List UInt8))) (Bool))) :=
  cond (decide (((List.length v30) : Int) < v8.Locals)) ((appP 16 v30 ([[84]])).bind fun v31=>some (.inl v31)) (some (.inr (.inl v30)))
def verify_Method_j4 (v2 : List UInt8) (v4 : HierHier) (v8 : ApiMethod) (v23 : Bool) (v24 : Bool) (v26 : List (List UInt8)) : Option (Bool) :=
  (appP 16 v26 v8.Params).bind fun v27=>(loopP (fun z=>verify_Method_l5 v8 z) v27).bind fun o=>leave o (fun b=>verify_Method_k6 v2 v4 v8 v23 v24 b) some
def verify_Method_j3 (v2 : List UInt8) (v4 : HierHier) (v8 : ApiMethod) (v23 : Bool) : Option (Bool) :=
  (verify_all_s2 v8.Params v4.l v4.at_).bind fun v24=>cond (!v8.Static) ((appP 16 ([] : List (List UInt8)) [v2]).bind fun v25=>verify_Method_j4 v2 v4 v8 v23 v24 v25) (verify_Method_j4 v2 v4 v8 v23 v24 [])
def verify_Method_k2 (v2 : List UInt8) (v4 : HierHier) (v8 : ApiMethod) (v21 : Bool) : Option (Bool) :=
  cond (v8.Ret == [86]) (verify_Method_j3 v2 v4 v8 (v21 || (!true))) ((hier_Hier_Sub_s3 v4.l v4.at_ v8.Ret v8.Ret).bind fun v22=>verify_Method_j3 v2 v4 v8 (v21 || (!v22)))
def verify_Method_l1 (v4 : HierHier) (v8 : ApiMethod) (v15 : Bool) (v16 : Int) : Option (Sum (Bool × Int) (Sum (Bool) (Bool))) :=
  cond (decide (v16 < (List.length v8.Maps : Int))) ((idx v8.Maps v16).bind fun v17=>(verify_all v17.Locals v4.l v4.at_).bind fun v18=>(cond v18 ((verify_all v17.Stack v4.l v4.at_).bind fun v19=>some v19) (some false)).bind fun v20=>some (.inl ((v15 || (!v20)),(IntKind.i64.wrap (v16 + 1))))) (some (.inr (.inl v15)))
def verify_Method (v1 : Option HierHier) (v2 : List UInt8) (v3 : Int) : Option (Bool) :=
  optE v1 (none) (fun v4=>(hier_Hier_Class_s3 v4.l v4.at_ v2).bind fun v5=>(cond (((!v5.2) || (decide (v3 < 0))) || (decide ((List.length v5.1.Methods : Int) ≤ v3))) (some true) ((idx v5.1.Methods v3).bind fun v6=>some v6.Abstract)).bind fun v7=>cond v7 (some false) ((idx v5.1.Methods v3).bind fun v8=>(loopP (fun z=>verify_Method_l1 v4 v8 z.1 z.2) (false,0)).bind fun o=>leave o (fun b=>verify_Method_k2 v2 v4 v8 b) some))
theorem verify_Method_ok (v1 : Option HierHier) (v2 : List UInt8) (v3 : Int) {r : Bool} (h : verify_Method v1 v2 v3 = some r) : PureC Tryz.prog 40 [optP 2 rHierHier v1,sA v2,iA v3] (bA r):=by
 refine pure_fn Tryz.func40 j0 (by kernel_rfl) j0 j0 ?_
 unfold verify_Method at h
 rcases v1 with _ | v4
 ·
  replace h:=oeN h
  cases h
 ·
  replace h:=oeS h
  refine rg j0<|u<|bx 0 1 j0 j0 j0 j0<|u<|asg j0<|r_nil ?_
  obtain ⟨v5,q1,h⟩:=bs h
  refine rg j0<|u<|ld ti32 j0 j0<|u<|mv j0<|u<|pc (hier_Hier_Class_s3_ok v4.l v4.at_ v2 q1) j0 j0 j0<|u<|mv j0<|u<|ex j0 j0<|u<|ex j0 j0<|u<|al 1 ti29 j0<|u<|sto ti29 j0 j0 j0<|u<|asg j0<|r_nil ?_
  refine sw_seq ?_
  obtain ⟨v7,q6,h⟩:=bs h
  refine rg j0<|u<|mv j0<|u<|nt j0<|u<|mv j0<|r_or (j:=2) 2 j0 j0 j0 j0 j0 gpn (fun hb2=>g j0 hb2<|mv j0<|g j0 hb2<|lss ti3 j0 j0<|r_nil (egO [25,26] 2 hb2 j0 j0 j0 j0)) orT<|u<|mv j0<|r_or (j:=6) 5 j0 j0 j0 j0 j0 gpn (fun hb3=>g j0 hb3<|mv j0<|g j0 hb3<|fa ti29 j0 j0 j0<|g j0 hb3<|ld ti27 j0 j0<|g j0 hb3<|lnI ti27 j0 j0<|g j0 hb3<|geq ti3 j0 j0<|r_nil (egO [29,30,31,32,33] 5 hb3 j0 j0 j0 j0)) orT<|u<|mv j0<|r_or (x:=v7) (j:=13) 6 j0 j0 j0 j0 j0 gpn (fun hb4=>by replace q6:=bF hb4 q6; obtain ⟨v6,q5,q6⟩:=bs q6; obtain rfl:=sm q6; exact g j0 hb4<|fa ti29 j0 j0 j0<|g j0 hb4<|ld ti27 j0 j0<|g j0 hb4<|mv j0<|g j0 hb4<|ixI ti27 j0 ti76 j0 j0 j0 q5<|g j0 hb4<|fa ti76 j0 j0 j0<|g j0 hb4<|ldI ti4 j0 (idx_some q5).2.2 j0<|r_nil (eg [36,37,38,39,40,41] 6 j0 j0 j0 j0)) (fun hb=>(sm (bT hb q6)).symm)<|r_nil ?_
  refine sw_cond j0 (fun hc7=>?_) (fun hc7=>?_)
  ·
   replace h:=bT hc7 h
   refine rg j0<|u<|asg j0<|r_nil ?_
   refine sw_ret ?_
   obtain rfl:=sm h
   exact ⟨_,j0,[],ci j0,j0,j5,j0,j1⟩
  ·
   replace h:=bF hc7 h
   refine sw_skip ?_
   obtain ⟨v8,q8,h⟩:=bs h
   refine rd [(1,sA v2),(3,.mpt 0 0 0),(9,.mpt 1 0 0)] [some (1,[[.ipt 2 [[.isl 6 (List.map rApiClass v4.l),.imp (List.map (rKV (fun x=>iA x)) v4.at_)]] 0 0]]),some (15,[(vK v4.l v4.at_ v2 v8 (.lit (.slice none 0 0)) (.lit (.slice none 0 0)) (bA false))])] [8] [7,6,5,4,3,2,1,0] [(50,.agg [.ipt 2 [[.isl 6 (List.map rApiClass v4.l),.imp (List.map (rKV (fun x=>iA x)) v4.at_)]] 0 0,sA v2,sA v8.Name,.isl 1 (List.map rStr v8.Params),sA v8.Ret,bA v8.Static,bA v8.Abstract,iA v8.Locals,iA v8.Stack,.isl 4 (List.map rApiIns v8.Code),.isl 3 (List.map rApiMap v8.Maps),.isl 4 (List.map rApiTrap v8.Traps),.lit (.slice none 0 0),.lit (.slice none 0 0),bA false]),(49,.agg (rApiMethod v8)),(48,.ipt 10 (List.map rApiMethod v5.1.Methods) (Int.toNat v3) 0),(47,iA v3),(46,.isl 10 (List.map rApiMethod v5.1.Methods)),(45,.mpt 1 0 5),(44,sA v2),(43,.ipt 2 [[.isl 6 (List.map rApiClass v4.l),.imp (List.map (rKV (fun x=>iA x)) v4.at_)]] 0 0)] 1 (by kernel_rfl) (by kernel_rfl) j0 (by kernel_rfl) (dtS ⟨(fun _=>pa j0 j0 j0 j0 (bd ti131 j0 j0 j0<|j4)),(fun _=>pa j0 j0 j0 j0 (ldI ti76 j0 (idx_some q8).2.2 j0<|j4)),(fun _=>pa j0 j0 j0 j0 (ixI ti27 j0 ti76 j0 j0 j0 q8<|j4)),(fun _=>pa j0 j0 j0 j0 (mv j0<|j4)),(fun _=>pa j0 j0 j0 j0 (ld ti27 j0 j0<|j4)),(fun _=>pa j0 j0 j0 j0 (fa ti29 j0 j0 j0<|j4)),(fun _=>pa j0 j0 j0 j0 (mv j0<|j4)),(fun _=>pa j0 j0 j0 j0 (ld ti32 j0 j0<|j4)),j5⟩ (by kernel_rfl) j0 ⟨(fun _ _=>⟨_,j0,j0,bx 2 15 j0 j0 j0 j0<|⟨(.mpt 2 0 0),[9],[(9,.mpt 2 0 0),(51,.mpt 2 0 0)],j0,j0,by kernel_rfl,j0,dt0 ⟨(fun _=>pa j0 j0 j0 j0 (asg j0<|j4)),(fun h=>by cases h),(fun _=>pa j0 j0 j0 j0 (ldI ti76 j0 (idx_some q8).2.2 j0<|j4)),(fun _=>pa j0 j0 j0 j0 (ixI ti27 j0 ti76 j0 j0 j0 q8<|j4)),(fun _=>pa j0 j0 j0 j0 (mv j0<|j4)),(fun _=>pa j0 j0 j0 j0 (ld ti27 j0 j0<|j4)),(fun _=>pa j0 j0 j0 j0 (fa ti29 j0 j0 j0<|j4)),(fun _=>pa j0 j0 j0 j0 (mv j0<|j4)),(fun _=>pa j0 j0 j0 j0 (ld ti32 j0 j0<|j4)),j5⟩ (by kernel_rfl) j0 ⟨[.old 0,.old 2],ce j0 j0<|cv j0 (.mpt j0)<|cv j0 (.mpt j0)<|cn,j0,⟨⟨_,j0,rsOne ⟨ci j0,j5⟩⟩,⟨_,j0,rsOne (ciL j0)⟩,j5⟩,j0,j1⟩⟩⟩),j5⟩) ?_
   refine sw_seq ?_
   refine rg j0<|u<|mv j0<|u<|nc j0 j0<|u<|fa ti131 j0 j0 j0<|u<|fa ti76 j0 j0 j0<|u<|ld ti73 j0 j0<|u<|lnI ti73 j0 j0<|u<|mv j0<|r_nil ?_
   obtain ⟨o,ho,h⟩:=bs h
   refine sw_lpl (X:=Bool × Int) (B:=Bool) (R:=Bool) (fun z=>[(1,sA v2),(3,.mpt 0 0 0),(9,.mpt 1 0 0),(56,.isl 3 (List.map rApiMap v8.Maps)),(57,iA (List.length v8.Maps : Int)),(58,iA z.2)]) (fun z=>[some (1,[[.ipt 2 [[.isl 6 (List.map rApiClass v4.l),.imp (List.map (rKV (fun x=>iA x)) v4.at_)]] 0 0]]),some (15,[(vK v4.l v4.at_ v2 v8 (.msl 2 0 0) (.msl 3 0 0) (bA z.1))]),some (1,List.map rStr []),some (1,List.map rStr [])]) (fun b=>[(1,sA v2),(3,.mpt 0 0 0),(9,.mpt 1 0 0)]) (fun b=>[some (1,[[.ipt 2 [[.isl 6 (List.map rApiClass v4.l),.imp (List.map (rKV (fun x=>iA x)) v4.at_)]] 0 0]]),some (15,[(vK v4.l v4.at_ v2 v8 (.msl 2 0 0) (.msl 3 0 0) (bA b))]),some (1,List.map rStr []),some (1,List.map rStr [])]) (fun r env st=>PostF Tryz.prog Tryz.f40 0 (bA r) [] env st) ho ⟨[.old 0,.old 1,.fresh 1,.fresh 1],ce j0 j0<|cv j0 (.mpt j0)<|cv j0 (.mpt j0)<|ce j0 j0<|ce j0 j0<|ce j0 j0<|cn,j0,⟨⟨_,j0,rsOne ⟨ci j0,j5⟩⟩,⟨_,j0,rsOne (cc12 j0 (by exact ⟨.nilown j0,.nilown j0,ci j0,j5⟩))⟩,j4,j4,j5⟩,j0,j1⟩ ?_ ?_ ?_
   ·
    rintro ⟨v15,v16⟩ r h
    replace h : verify_Method_l1 v4 v8 v15 v16 = some r:=h
    unfold verify_Method_l1 at h
    refine rg j0<|u<|lss ti3 j0 j0<|r_nil ?_
    refine sw_seq ?_
    refine sw_cond j0 (fun hc15=>?_) (fun hc15=>?_)
    ·
     replace h:=bT hc15 h
     refine sw_skip ?_
     refine sw_seq ?_
     refine sw_block ?_
     obtain ⟨v17,q16,h⟩:=bs h
     refine rg j0<|u<|ixI ti73 j0 ti78 j0 j0 j0 q16<|u<|ldI ti78 j0 (idx_some q16).2.2 j0<|u<|al 4 ti78 j0<|u<|sto ti78 j0 j0 j0<|r_nil ?_
     refine rg j0<|u<|mf j0 j0<|u<|asg j0<|r_nil ?_
     obtain ⟨v18,q17,h⟩:=bs h
     obtain ⟨v20,q20,h⟩:=bs h
     refine rl j0<|u<|mv j0<|u<|fa ti78 j0 j0 j0<|u<|ld ti25 j0 j0<|u<|mv j0<|u<|pcs (verify_all_ok v17.Locals v4.l v4.at_ q17) j0 j0 (.cons (si j0) (.cons (sealFn j5 ⟨(sealBox j0 ⟨(si j0),j5⟩),j5⟩) .nil)) plainB<|u<|mv j0<|r_and (x:=v20) (j:=5) 4 j0 j0 j0 j0 j0 gpn (fun hb18=>by replace q20:=bT hb18 q20; obtain ⟨v19,q19,q20⟩:=bs q20; obtain rfl:=sm q20; exact g j0 hb18<|fa ti78 j0 j0 j0<|g j0 hb18<|ld ti25 j0 j0<|g j0 hb18<|mv j0<|g j0 hb18<|pcs (verify_all_ok v17.Stack v4.l v4.at_ q19) j0 j0 (.cons (si j0) (.cons (sealFn j5 ⟨(sealBox j0 ⟨(si j0),j5⟩),j5⟩) .nil)) plainB<|r_nil (eg [69,70,71,72] 4 j0 j0 j0 j0)) (fun hb=>(sm (bF hb q20)).symm)<|u<|sc [1,2,3] (verify_checker_need_ok v4.l v4.at_ v2 v8 [] [] v15 v20 j0) j0 j0 j0 j0 ⟨(.mpt j0),(rnI j0),j5⟩ ⟨⟨_,j0,(rr12 j0 ⟨(.msl j0),(.msl j0),(rnI j0),j5⟩)⟩,⟨j0,mkI (fun _=>j0)⟩,⟨j0,mkI (fun _=>j0)⟩,j5⟩<|r_can (env0:=[(1,sA v2),(3,.mpt 0 0 0),(9,.mpt 1 0 0),(56,.isl 3 (List.map rApiMap v8.Maps)),(57,iA (List.length v8.Maps : Int)),(58,iA v16)]) (st0:=[some (1,[[.ipt 2 [[.isl 6 (List.map rApiClass v4.l),.imp (List.map (rKV (fun x=>iA x)) v4.at_)]] 0 0]]),some (15,[(vK v4.l v4.at_ v2 v8 (.msl 2 0 0) (.msl 3 0 0) (bA (v15 || (!v20))))]),some (1,List.map rStr []),some (1,List.map rStr [])]) ⟨[.old 0,.old 1,.old 2,.old 3],ce j0 j0<|cv j0 (.mpt j0)<|cv j0 (.mpt j0)<|ce j0 j0<|ce j0 j0<|ce j0 j0<|cn,j0,⟨⟨_,j0,rsOne ⟨ci j0,j5⟩⟩,⟨_,j0,rsOne (cc12 j0 (by exact ⟨.msl j0,.msl j0,ci j0,j5⟩))⟩,⟨_,j0,rsMap (fun _=>j0)⟩,⟨_,j0,rsMap (fun _=>j0)⟩,j5⟩,j0,j1⟩<|r_nil ?_
     refine rl j0<|u<|add ti3 j0 j0<|u<|mv j0<|r_nil ?_
     obtain rfl:=sm h
     exact ⟨_,j0,[.old 0,.old 1,.old 2,.old 3],ce j0 j0<|cv j0 (.mpt j0)<|cv j0 (.mpt j0)<|ce j0 j0<|ce j0 j0<|ce j0 j0<|cn,j0,⟨⟨_,j0,rsOne ⟨ci j0,j5⟩⟩,⟨_,j0,rsOne (cc12 j0 (by exact ⟨.msl j0,.msl j0,ci j0,j5⟩))⟩,⟨_,j0,rsMap (fun _=>j0)⟩,⟨_,j0,rsMap (fun _=>j0)⟩,j5⟩,j0,j1⟩
    ·
     replace h:=bF hc15 h
     refine sw_exit ?_
     obtain rfl:=sm h
     exact ⟨j0,_,j0,[.old 0,.old 1,.old 2,.old 3],ce j0 j0<|cv j0 (.mpt j0)<|cv j0 (.mpt j0)<|cn,j0,⟨⟨_,j0,rsOne ⟨ci j0,j5⟩⟩,⟨_,j0,rsOne (cc12 j0 (by exact ⟨.msl j0,.msl j0,ci j0,j5⟩))⟩,⟨_,j0,rsMap (fun _=>j0)⟩,⟨_,j0,rsMap (fun _=>j0)⟩,j5⟩,j0,j1⟩
   ·
    rintro v21 rfl
    replace h : verify_Method_k2 v2 v4 v8 v21 = some r:=h
    unfold verify_Method_k2 at h
    refine ow_intro ?_
    refine sw_meet (X:=Bool) (fun z=>[(1,sA v2),(3,.mpt 0 0 0),(9,.mpt 1 0 0)]) (fun z=>[some (1,[[.ipt 2 [[.isl 6 (List.map rApiClass v4.l),.imp (List.map (rKV (fun x=>iA x)) v4.at_)]] 0 0]]),some (15,[(vK v4.l v4.at_ v2 v8 (.msl 2 0 0) (.msl 3 0 0) (bA z))]),some (1,List.map rStr []),some (1,List.map rStr [])]) (fun z=>verify_Method_j3 v2 v4 v8 z = some r) ?_ ?_
    ·
     rcases bb (v8.Ret == [86]) with hb21 | hb21
     ·
      replace h:=bT hb21 h
      exact sw_region_dt [21] [20,19,18,17,16,15,14,13,12,11,10,9,8,7,6,5,4,3,2,1,0] [(96,bA true),(95,.lit undef),(94,.lit undef),(93,.lit undef),(92,.lit undef),(91,.lit undef),(90,.lit undef),(89,.lit undef),(88,.lit undef),(87,.lit undef),(86,.lit undef),(85,.lit undef),(84,.lit undef),(83,bA (v8.Ret == [86])),(82,bA (v8.Ret == [86])),(81,sA v8.Ret),(80,.mpt 1 0 4),(79,.mpt 1 0 2),(78,.mpt 1 0 0),(77,.mpt 1 0 0),(76,.mpt 1 0 0)] 1 (by kernel_rfl) (by kernel_rfl) j0 (by kernel_rfl) (dtS ⟨(fun _=>pa j0 j0 j0 j0 (pkb j0 hb21 j0<|j4)),(fun _=>pas (b:=(v8.Ret == [86])) j0 j0 j0 j0 hb21 j0),(fun _=>pas (b:=(v8.Ret == [86])) j0 j0 j0 j0 hb21 j0),(fun _=>pas (b:=(v8.Ret == [86])) j0 j0 j0 j0 hb21 j0),(fun _=>pas (b:=(v8.Ret == [86])) j0 j0 j0 j0 hb21 j0),(fun _=>pas (b:=(v8.Ret == [86])) j0 j0 j0 j0 hb21 j0),(fun _=>pas (b:=(v8.Ret == [86])) j0 j0 j0 j0 hb21 j0),(fun _=>pas (b:=(v8.Ret == [86])) j0 j0 j0 j0 hb21 j0),(fun _=>pas (b:=(v8.Ret == [86])) j0 j0 j0 j0 hb21 j0),(fun _=>pas (b:=(v8.Ret == [86])) j0 j0 j0 j0 hb21 j0),(fun _=>pas (b:=(v8.Ret == [86])) j0 j0 j0 j0 hb21 j0),(fun _=>pas (b:=(v8.Ret == [86])) j0 j0 j0 j0 hb21 j0),(fun _=>pas (b:=(v8.Ret == [86])) j0 j0 j0 j0 hb21 j0),(fun _=>pa j0 j0 j0 j0 (mv j0<|j4)),(fun _=>pa j0 j0 j0 j0 (seq ti9 j0 j0<|j4)),(fun _=>pa j0 j0 j0 j0 (ld ti9 j0 j0<|j4)),(fun _=>pa j0 j0 j0 j0 (fa ti76 j0 j0 j0<|j4)),(fun _=>pa j0 j0 j0 j0 (fa ti131 j0 j0 j0<|j4)),(fun _=>pa j0 j0 j0 j0 (nc j0 j0<|j4)),(fun _=>pa j0 j0 j0 j0 (mv j0<|j4)),(fun _=>pa j0 j0 j0 j0 (mv j0<|j4)),j5⟩ (by kernel_rfl) j0 ⟨(fun _ _=>⟨_,j0,j0,sc [1,2,3] (args:=[.mpt 1 0 0,bA true]) (verify_checker_need_ok v4.l v4.at_ v2 v8 [] [] v21 true j0) j0 j0 j0 j0 ⟨(.mpt j0),(rnI j0),j5⟩ ⟨⟨_,j0,(rr12 j0 ⟨(.msl j0),(.msl j0),(rnI j0),j5⟩)⟩,⟨j0,mkI (fun _=>j0)⟩,⟨j0,mkI (fun _=>j0)⟩,j5⟩<|⟨(.tup []),[],[(97,.tup [])],j0,j0,by kernel_rfl,j0,dt0 ⟨(fun h=>by cases h),(fun h=>by cases h),(fun _=>pas (b:=(v8.Ret == [86])) j0 j0 j0 j0 hb21 j0),(fun _=>pas (b:=(v8.Ret == [86])) j0 j0 j0 j0 hb21 j0),(fun _=>pas (b:=(v8.Ret == [86])) j0 j0 j0 j0 hb21 j0),(fun _=>pas (b:=(v8.Ret == [86])) j0 j0 j0 j0 hb21 j0),(fun _=>pas (b:=(v8.Ret == [86])) j0 j0 j0 j0 hb21 j0),(fun _=>pas (b:=(v8.Ret == [86])) j0 j0 j0 j0 hb21 j0),(fun _=>pas (b:=(v8.Ret == [86])) j0 j0 j0 j0 hb21 j0),(fun _=>pas (b:=(v8.Ret == [86])) j0 j0 j0 j0 hb21 j0),(fun _=>pas (b:=(v8.Ret == [86])) j0 j0 j0 j0 hb21 j0),(fun _=>pas (b:=(v8.Ret == [86])) j0 j0 j0 j0 hb21 j0),(fun _=>pas (b:=(v8.Ret == [86])) j0 j0 j0 j0 hb21 j0),(fun _=>pa j0 j0 j0 j0 (mv j0<|j4)),(fun _=>pa j0 j0 j0 j0 (seq ti9 j0 j0<|j4)),(fun _=>pa j0 j0 j0 j0 (ld ti9 j0 j0<|j4)),(fun _=>pa j0 j0 j0 j0 (fa ti76 j0 j0 j0<|j4)),(fun _=>pa j0 j0 j0 j0 (fa ti131 j0 j0 j0<|j4)),(fun _=>pa j0 j0 j0 j0 (nc j0 j0<|j4)),(fun _=>pa j0 j0 j0 j0 (mv j0<|j4)),(fun h=>by cases h),j5⟩ (by kernel_rfl) j0 ⟨(v21 || (!true)),h,[.old 0,.old 1,.old 2,.old 3],ce j0 j0<|cv j0 (.mpt j0)<|cv j0 (.mpt j0)<|cn,j0,⟨⟨_,j0,rsOne ⟨ci j0,j5⟩⟩,⟨_,j0,rsOne (cc12 j0 (by exact ⟨.msl j0,.msl j0,ci j0,j5⟩))⟩,⟨_,j0,rsMap (fun _=>j0)⟩,⟨_,j0,rsMap (fun _=>j0)⟩,j5⟩,j0,j1⟩⟩⟩),j5⟩)
     ·
      replace h:=bF hb21 h
      obtain ⟨v22,q22,h⟩:=bs h
      exact sw_region_dt [21] [20,19,18,17,16,15,14,13,12,11,10,9,8,7,6,5,4,3,2,1,0] [(96,bA v22),(95,bA v22),(94,sA v8.Ret),(93,.mpt 1 0 4),(92,.mpt 1 0 2),(91,.mpt 1 0 0),(90,.mpt 1 0 0),(89,sA v8.Ret),(88,.mpt 1 0 4),(87,.mpt 1 0 2),(86,.mpt 1 0 0),(85,.mpt 1 0 0),(84,.ipt 2 [[.isl 6 (List.map rApiClass v4.l),.imp (List.map (rKV (fun x=>iA x)) v4.at_)]] 0 0),(83,bA (v8.Ret == [86])),(82,bA (v8.Ret == [86])),(81,sA v8.Ret),(80,.mpt 1 0 4),(79,.mpt 1 0 2),(78,.mpt 1 0 0),(77,.mpt 1 0 0),(76,.mpt 1 0 0)] 1 (by kernel_rfl) (by kernel_rfl) j0 (by kernel_rfl) (dtS ⟨(fun _=>pa j0 j0 j0 j0 (pkb j0 hb21 j0<|j4)),(fun _=>pag (b:=(v8.Ret == [86])) j0 j0 j0 j0 hb21 j0 (pc (hier_Hier_Sub_s3_ok v4.l v4.at_ v8.Ret v8.Ret q22) j0 j0 j0<|j4)),(fun _=>pag (b:=(v8.Ret == [86])) j0 j0 j0 j0 hb21 j0 (ld ti9 j0 j0<|j4)),(fun _=>pag (b:=(v8.Ret == [86])) j0 j0 j0 j0 hb21 j0 (fa ti76 j0 j0 j0<|j4)),(fun _=>pag (b:=(v8.Ret == [86])) j0 j0 j0 j0 hb21 j0 (fa ti131 j0 j0 j0<|j4)),(fun _=>pag (b:=(v8.Ret == [86])) j0 j0 j0 j0 hb21 j0 (nc j0 j0<|j4)),(fun _=>pag (b:=(v8.Ret == [86])) j0 j0 j0 j0 hb21 j0 (mv j0<|j4)),(fun _=>pag (b:=(v8.Ret == [86])) j0 j0 j0 j0 hb21 j0 (ld ti9 j0 j0<|j4)),(fun _=>pag (b:=(v8.Ret == [86])) j0 j0 j0 j0 hb21 j0 (fa ti76 j0 j0 j0<|j4)),(fun _=>pag (b:=(v8.Ret == [86])) j0 j0 j0 j0 hb21 j0 (fa ti131 j0 j0 j0<|j4)),(fun _=>pag (b:=(v8.Ret == [86])) j0 j0 j0 j0 hb21 j0 (nc j0 j0<|j4)),(fun _=>pag (b:=(v8.Ret == [86])) j0 j0 j0 j0 hb21 j0 (mv j0<|j4)),(fun _=>pag (b:=(v8.Ret == [86])) j0 j0 j0 j0 hb21 j0 (ld ti32 j0 j0<|j4)),(fun _=>pa j0 j0 j0 j0 (mv j0<|j4)),(fun _=>pa j0 j0 j0 j0 (seq ti9 j0 j0<|j4)),(fun _=>pa j0 j0 j0 j0 (ld ti9 j0 j0<|j4)),(fun _=>pa j0 j0 j0 j0 (fa ti76 j0 j0 j0<|j4)),(fun _=>pa j0 j0 j0 j0 (fa ti131 j0 j0 j0<|j4)),(fun _=>pa j0 j0 j0 j0 (nc j0 j0<|j4)),(fun _=>pa j0 j0 j0 j0 (mv j0<|j4)),(fun _=>pa j0 j0 j0 j0 (mv j0<|j4)),j5⟩ (by kernel_rfl) j0 ⟨(fun _ _=>⟨_,j0,j0,sc [1,2,3] (args:=[.mpt 1 0 0,bA v22]) (verify_checker_need_ok v4.l v4.at_ v2 v8 [] [] v21 v22 j0) j0 j0 j0 j0 ⟨(.mpt j0),(rnI j0),j5⟩ ⟨⟨_,j0,(rr12 j0 ⟨(.msl j0),(.msl j0),(rnI j0),j5⟩)⟩,⟨j0,mkI (fun _=>j0)⟩,⟨j0,mkI (fun _=>j0)⟩,j5⟩<|⟨(.tup []),[],[(97,.tup [])],j0,j0,by kernel_rfl,j0,dt0 ⟨(fun h=>by cases h),(fun h=>by cases h),(fun _=>pag (b:=(v8.Ret == [86])) j0 j0 j0 j0 hb21 j0 (ld ti9 j0 j0<|j4)),(fun _=>pag (b:=(v8.Ret == [86])) j0 j0 j0 j0 hb21 j0 (fa ti76 j0 j0 j0<|j4)),(fun _=>pag (b:=(v8.Ret == [86])) j0 j0 j0 j0 hb21 j0 (fa ti131 j0 j0 j0<|j4)),(fun _=>pag (b:=(v8.Ret == [86])) j0 j0 j0 j0 hb21 j0 (nc j0 j0<|j4)),(fun _=>pag (b:=(v8.Ret == [86])) j0 j0 j0 j0 hb21 j0 (mv j0<|j4)),(fun _=>pag (b:=(v8.Ret == [86])) j0 j0 j0 j0 hb21 j0 (ld ti9 j0 j0<|j4)),(fun _=>pag (b:=(v8.Ret == [86])) j0 j0 j0 j0 hb21 j0 (fa ti76 j0 j0 j0<|j4)),(fun _=>pag (b:=(v8.Ret == [86])) j0 j0 j0 j0 hb21 j0 (fa ti131 j0 j0 j0<|j4)),(fun _=>pag (b:=(v8.Ret == [86])) j0 j0 j0 j0 hb21 j0 (nc j0 j0<|j4)),(fun _=>pag (b:=(v8.Ret == [86])) j0 j0 j0 j0 hb21 j0 (mv j0<|j4)),(fun _=>pag (b:=(v8.Ret == [86])) j0 j0 j0 j0 hb21 j0 (ld ti32 j0 j0<|j4)),(fun _=>pa j0 j0 j0 j0 (mv j0<|j4)),(fun _=>pa j0 j0 j0 j0 (seq ti9 j0 j0<|j4)),(fun _=>pa j0 j0 j0 j0 (ld ti9 j0 j0<|j4)),(fun _=>pa j0 j0 j0 j0 (fa ti76 j0 j0 j0<|j4)),(fun _=>pa j0 j0 j0 j0 (fa ti131 j0 j0 j0<|j4)),(fun _=>pa j0 j0 j0 j0 (nc j0 j0<|j4)),(fun _=>pa j0 j0 j0 j0 (mv j0<|j4)),(fun h=>by cases h),j5⟩ (by kernel_rfl) j0 ⟨(v21 || (!v22)),h,[.old 0,.old 1,.old 2,.old 3],ce j0 j0<|cv j0 (.mpt j0)<|cv j0 (.mpt j0)<|cn,j0,⟨⟨_,j0,rsOne ⟨ci j0,j5⟩⟩,⟨_,j0,rsOne (cc12 j0 (by exact ⟨.msl j0,.msl j0,ci j0,j5⟩))⟩,⟨_,j0,rsMap (fun _=>j0)⟩,⟨_,j0,rsMap (fun _=>j0)⟩,j5⟩,j0,j1⟩⟩⟩),j5⟩)
    ·
     rintro v23 h
     replace h : verify_Method_j3 v2 v4 v8 v23 = some r:=h
     unfold verify_Method_j3 at h
     obtain ⟨v24,q23,h⟩:=bs h
     refine rg j0<|u<|mv j0<|u<|mv j0<|u<|nc j0 j0<|u<|fa ti131 j0 j0 j0<|u<|fa ti76 j0 j0 j0<|u<|ld ti25 j0 j0<|u<|mf j0 j0<|u<|pcs (verify_all_s2_ok v8.Params v4.l v4.at_ q23) j0 j0 (.cons (si j0) (.cons (sealFn j5 ⟨(sealBox j0 ⟨(si j0),j5⟩),j5⟩) .nil)) plainB<|u<|sc [1,2,3] (verify_checker_need_ok v4.l v4.at_ v2 v8 [] [] v23 v24 j0) j0 j0 j0 j0 ⟨(.mpt j0),(rnI j0),j5⟩ ⟨⟨_,j0,(rr12 j0 ⟨(.msl j0),(.msl j0),(rnI j0),j5⟩)⟩,⟨j0,mkI (fun _=>j0)⟩,⟨j0,mkI (fun _=>j0)⟩,j5⟩<|r_can (env0:=[(1,sA v2),(9,.mpt 0 0 0)]) (st0:=[some (15,[(vK v4.l v4.at_ v2 v8 (.msl 1 0 0) (.msl 2 0 0) (bA (v23 || (!v24))))]),some (1,List.map rStr []),some (1,List.map rStr [])]) ⟨[.old 1,.old 2,.old 3],ce j0 j0<|cv j0 (.mpt j0)<|cn,j0,⟨⟨_,j0,rsOne (cc12 j0 (by exact ⟨.msl j0,.msl j0,ci j0,j5⟩))⟩,⟨_,j0,rsMap (fun _=>j0)⟩,⟨_,j0,rsMap (fun _=>j0)⟩,j5⟩,j0,j1⟩<|r_nil ?_
     refine sw_meet (X:=(List (List UInt8))) (fun z=>[(9,.mpt 0 0 0)]) (fun z=>[some (15,[(vK v4.l v4.at_ v2 v8 (.msl 1 0 (List.length z)) (.msl 2 0 0) (bA (v23 || (!v24))))]),some (1,List.map rStr z),some (1,List.map rStr [])]) (fun z=>verify_Method_j4 v2 v4 v8 v23 v24 z = some r) ?_ ?_
     ·
      refine rg j0<|u<|mv j0<|u<|nc j0 j0<|u<|fa ti131 j0 j0 j0<|u<|fa ti76 j0 j0 j0<|u<|ld ti4 j0 j0<|u<|nt j0<|r_nil ?_
      refine sw_cond j0 (fun hc24=>?_) (fun hc24=>?_)
      ·
       replace h:=bT hc24 h
       obtain ⟨v25,q25,h⟩:=bs h
       exact rl j0<|u<|mv j0<|u<|mv j0<|u<|nc j0 j0<|u<|fa ti131 j0 j0 j0<|u<|ld ti25 j0 j0<|u<|mv j0<|u<|bl 3 ti25 j0 ti9 j0 (by decide) (by decide) j0 j0 j0<|u<|apM 4 ti25 j0 ti9 j0 j0 (by decide) ti25 j0 j0 j0 j0 (roX (f:=rStr) (z:=[v2]) j0 j0) (fun _=>j0) j0 q25<|u<|nc j0 j0<|u<|fa ti131 j0 j0 j0<|u<|sto ti25 j0 j0 j0<|r_nil (⟨v25,h,[.old 0,.old 4,.old 2],cv j0 (.mpt j0)<|cn,j0,⟨⟨_,j0,rsOne (cc12 j0 (by exact ⟨.msl j0,.msl j0,ci j0,j5⟩))⟩,⟨_,j0,rsMap (fun _=>j0)⟩,⟨_,j0,rsMap (fun _=>j0)⟩,j5⟩,j0,j1⟩)
      ·
       replace h:=bF hc24 h
       refine sw_skip ?_
       exact ⟨[],h,[.old 0,.old 1,.old 2],cv j0 (.mpt j0)<|cn,j0,⟨⟨_,j0,rsOne (cc12 j0 (by exact ⟨.msl j0,.msl j0,ci j0,j5⟩))⟩,⟨_,j0,rsMap (fun _=>j0)⟩,⟨_,j0,rsMap (fun _=>j0)⟩,j5⟩,j0,j1⟩
     ·
      rintro v26 h
      replace h : verify_Method_j4 v2 v4 v8 v23 v24 v26 = some r:=h
      unfold verify_Method_j4 at h
      obtain ⟨v27,q26,h⟩:=bs h
      refine rd [(9,.mpt 0 0 0)] [some (15,[(vK v4.l v4.at_ v2 v8 (.msl 1 0 (List.length v27)) (.msl 2 0 0) (bA (v23 || (!v24))))]),some (1,List.map rStr v27),some (1,List.map rStr [])] [10,13] [9,8,7,6,5,4,3,2,1,0] [(132,.isl 1 (List.map rStr v8.Params)),(131,.mpt 0 0 3),(130,.mpt 0 0 2),(129,.mpt 0 0 0),(128,.mpt 0 0 0),(127,.msl 1 0 (List.length v26)),(126,.mpt 0 0 12),(125,.mpt 0 0 0),(124,.mpt 0 0 0),(123,.mpt 0 0 0)] 2 (by kernel_rfl) (by kernel_rfl) j0 (by kernel_rfl) (dtS ⟨(fun _=>pa j0 j0 j0 j0 (ld ti25 j0 j0<|j4)),(fun _=>pa j0 j0 j0 j0 (fa ti76 j0 j0 j0<|j4)),(fun _=>pa j0 j0 j0 j0 (fa ti131 j0 j0 j0<|j4)),(fun _=>pa j0 j0 j0 j0 (nc j0 j0<|j4)),(fun _=>pa j0 j0 j0 j0 (mv j0<|j4)),(fun _=>pa j0 j0 j0 j0 (ld ti25 j0 j0<|j4)),(fun _=>pa j0 j0 j0 j0 (fa ti131 j0 j0 j0<|j4)),(fun _=>pa j0 j0 j0 j0 (nc j0 j0<|j4)),(fun _=>pa j0 j0 j0 j0 (mv j0<|j4)),(fun _=>pa j0 j0 j0 j0 (mv j0<|j4)),j5⟩ (by kernel_rfl) j0 ⟨(fun _ _=>⟨_,j0,j0,apM 3 ti25 j0 ti9 j0 j0 (by decide) ti25 j0 j0 j0 j0 roI (fun _=>j0) j0 q26<|⟨(.msl 3 0 (List.length v27)),[12,11],[(135,.mpt 0 0 12),(134,.mpt 0 0 0),(133,.msl 3 0 (List.length v27))],j0,j0,by kernel_rfl,j0,dtS ⟨(fun _=>pa j0 j0 j0 j0 (fa ti131 j0 j0 j0<|j4)),(fun _=>pa j0 j0 j0 j0 (nc j0 j0<|j4)),(fun h=>by cases h),(fun _=>pa j0 j0 j0 j0 (fa ti76 j0 j0 j0<|j4)),(fun _=>pa j0 j0 j0 j0 (fa ti131 j0 j0 j0<|j4)),(fun _=>pa j0 j0 j0 j0 (nc j0 j0<|j4)),(fun _=>pa j0 j0 j0 j0 (mv j0<|j4)),(fun h=>by cases h),(fun _=>pa j0 j0 j0 j0 (fa ti131 j0 j0 j0<|j4)),(fun _=>pa j0 j0 j0 j0 (nc j0 j0<|j4)),(fun _=>pa j0 j0 j0 j0 (mv j0<|j4)),(fun _=>pa j0 j0 j0 j0 (mv j0<|j4)),j5⟩ (by kernel_rfl) j0 ⟨(fun h=>by cases h),(fun _ _=>⟨_,j0,j0,sto ti25 j0 j0 j0<|⟨.any,[],[],j0,j0,by kernel_rfl,j5,dt0 ⟨(fun h=>by cases h),(fun _=>pa j0 j0 j0 j0 (nc j0 j0<|j4)),(fun h=>by cases h),(fun h=>by cases h),(fun h=>by cases h),(fun h=>by cases h),(fun h=>by cases h),(fun h=>by cases h),(fun h=>by cases h),(fun h=>by cases h),(fun h=>by cases h),(fun h=>by cases h),j5⟩ (by kernel_rfl) j0 ⟨[.old 0,.old 3,.old 2],cv j0 (.mpt j0)<|cn,j0,⟨⟨_,j0,rsOne (cc12 j0 (by exact ⟨.msl j0,.msl j0,ci j0,j5⟩))⟩,⟨_,j0,rsMap (fun _=>j0)⟩,⟨_,j0,rsMap (fun _=>j0)⟩,j5⟩,j0,j1⟩⟩⟩),j5⟩⟩⟩),(fun _ h=>by cases h),j5⟩) ?_
      obtain ⟨o,ho,h⟩:=bs h
      refine sw_lp (X:=(List (List UInt8))) (B:=(List (List UInt8))) (R:=Bool) (fun z=>[(9,.mpt 0 0 0)]) (fun z=>[some (15,[(vK v4.l v4.at_ v2 v8 (.msl 1 0 (List.length z)) (.msl 2 0 0) (bA (v23 || (!v24))))]),some (1,List.map rStr z),some (1,List.map rStr [])]) (fun b=>[(9,.mpt 0 0 0)]) (fun b=>[some (15,[(vK v4.l v4.at_ v2 v8 (.msl 1 0 (List.length b)) (.msl 2 0 0) (bA (v23 || (!v24))))]),some (1,List.map rStr b),some (1,List.map rStr [])]) (fun r env st=>PostF Tryz.prog Tryz.f40 0 (bA r) [] env st) ho ⟨[.old 0,.old 1,.old 2],cv j0 (.mpt j0)<|cn,j0,⟨⟨_,j0,rsOne (cc12 j0 (by exact ⟨.msl j0,.msl j0,ci j0,j5⟩))⟩,⟨_,j0,rsMap (fun _=>j0)⟩,⟨_,j0,rsMap (fun _=>j0)⟩,j5⟩,j0,j1⟩ ?_ ?_ ?_
      ·
       rintro v30 r h
       replace h : verify_Method_l5 v8 v30 = some r:=h
       unfold verify_Method_l5 at h
       refine sw_seq ?_
       refine rd [(9,.mpt 0 0 0),(146,bA (decide (((List.length v30) : Int) < v8.Locals)))] [some (15,[(vK v4.l v4.at_ v2 v8 (.msl 1 0 (List.length v30)) (.msl 2 0 0) (bA (v23 || (!v24))))]),some (1,List.map rStr v30),some (1,List.map rStr [])] [] [10,9,8,7,6,5,4,3,2,1,0] [(146,bA (decide (((List.length v30) : Int) < v8.Locals))),(145,iA v8.Locals),(144,.mpt 0 0 7),(143,.mpt 0 0 2),(142,.mpt 0 0 0),(141,.mpt 0 0 0),(140,iA ((List.length v30) : Int)),(139,.msl 1 0 (List.length v30)),(138,.mpt 0 0 12),(137,.mpt 0 0 0),(136,.mpt 0 0 0)] 0 (by kernel_rfl) (by kernel_rfl) j0 (by kernel_rfl) (dt0 ⟨(fun _=>pa j0 j0 j0 j0 (lss ti3 j0 j0<|j4)),(fun _=>pa j0 j0 j0 j0 (ld ti3 j0 j0<|j4)),(fun _=>pa j0 j0 j0 j0 (fa ti76 j0 j0 j0<|j4)),(fun _=>pa j0 j0 j0 j0 (fa ti131 j0 j0 j0<|j4)),(fun _=>pa j0 j0 j0 j0 (nc j0 j0<|j4)),(fun _=>pa j0 j0 j0 j0 (mv j0<|j4)),(fun _=>pa j0 j0 j0 j0 (lnM ti25 j0 j0 j0<|j4)),(fun _=>pa j0 j0 j0 j0 (ld ti25 j0 j0<|j4)),(fun _=>pa j0 j0 j0 j0 (fa ti131 j0 j0 j0<|j4)),(fun _=>pa j0 j0 j0 j0 (nc j0 j0<|j4)),(fun _=>pa j0 j0 j0 j0 (mv j0<|j4)),j5⟩ (by kernel_rfl) j0 ⟨[.old 0,.old 1,.old 2],cv j0 (.mpt j0)<|ce j0 j0<|cn,j0,⟨⟨_,j0,rsOne (cc12 j0 (by exact ⟨.msl j0,.msl j0,ci j0,j5⟩))⟩,⟨_,j0,rsMap (fun _=>j0)⟩,⟨_,j0,rsMap (fun _=>j0)⟩,j5⟩,j0,j1⟩) ?_
       refine sw_cond j0 (fun hc29=>?_) (fun hc29=>?_)
       ·
        replace h:=bT hc29 h
        refine sw_skip ?_
        refine sw_block ?_
        obtain ⟨v31,q30,h⟩:=bs h
        refine rl j0<|u<|mv j0<|u<|mv j0<|u<|nc j0 j0<|u<|fa ti131 j0 j0 j0<|u<|ld ti25 j0 j0<|u<|bl 3 ti25 j0 ti9 j0 (by decide) (by decide) j0 j0 j0<|u<|apM 4 ti25 j0 ti9 j0 j0 (by decide) ti25 j0 j0 j0 j0 (roX (f:=rStr) (z:=[[84]]) j0 j0) (fun _=>j0) j0 q30<|u<|nc j0 j0<|u<|fa ti131 j0 j0 j0<|u<|sto ti25 j0 j0 j0<|r_nil ?_
        obtain rfl:=sm h
        exact ⟨_,j0,[.old 0,.old 4,.old 2],cv j0 (.mpt j0)<|cn,j0,⟨⟨_,j0,rsOne (cc12 j0 (by exact ⟨.msl j0,.msl j0,ci j0,j5⟩))⟩,⟨_,j0,rsMap (fun _=>j0)⟩,⟨_,j0,rsMap (fun _=>j0)⟩,j5⟩,j0,j1⟩
       ·
        replace h:=bF hc29 h
        refine sw_exit ?_
        obtain rfl:=sm h
        exact ⟨j0,_,j0,[.old 0,.old 1,.old 2],cv j0 (.mpt j0)<|cn,j0,⟨⟨_,j0,rsOne (cc12 j0 (by exact ⟨.msl j0,.msl j0,ci j0,j5⟩))⟩,⟨_,j0,rsMap (fun _=>j0)⟩,⟨_,j0,rsMap (fun _=>j0)⟩,j5⟩,j0,j1⟩
      ·
       rintro v32 rfl
       replace h : verify_Method_k6 v2 v4 v8 v23 v24 v32 = some r:=h
       unfold verify_Method_k6 at h
       refine rg j0<|u<|asg j0<|r_nil ?_
       refine sw_seq ?_
       refine rg j0<|u<|mv j0<|u<|nc j0 j0<|u<|fa ti131 j0 j0 j0<|u<|fa ti76 j0 j0 j0<|u<|ld ti72 j0 j0<|u<|lnI ti72 j0 j0<|u<|mv j0<|r_nil ?_
       obtain ⟨o,ho,h⟩:=bs h
       refine sw_lpl (X:=(List (List UInt8)) × (List (List UInt8)) × Bool × Bool × Int) (B:=(List (List UInt8)) × (List (List UInt8)) × Bool) (R:=Bool) (fun z=>[(9,.mpt 0 0 0),(13,bA z.2.2.2.1),(160,.isl 4 (List.map rApiIns v8.Code)),(161,iA (List.length v8.Code : Int)),(162,iA z.2.2.2.2)]) (fun z=>[some (15,[(vK v4.l v4.at_ v2 v8 (.msl 1 0 (List.length z.1)) (.msl 2 0 (List.length z.2.1)) (bA z.2.2.1))]),some (1,List.map rStr z.1),some (1,List.map rStr z.2.1)]) (fun b=>[(9,.mpt 0 0 0)]) (fun b=>[some (15,[(vK v4.l v4.at_ v2 v8 (.msl 1 0 (List.length b.1)) (.msl 2 0 (List.length b.2.1)) (bA b.2.2))]),some (1,List.map rStr b.1),some (1,List.map rStr b.2.1)]) (fun r env st=>PostF Tryz.prog Tryz.f40 0 (bA r) [] env st) ho ⟨[.old 0,.old 1,.old 2],cv j0 (.mpt j0)<|ce j0 j0<|ce j0 j0<|ce j0 j0<|ce j0 j0<|cn,j0,⟨⟨_,j0,rsOne (cc12 j0 (by exact ⟨.msl j0,.msl j0,ci j0,j5⟩))⟩,⟨_,j0,rsMap (fun _=>j0)⟩,⟨_,j0,rsMap (fun _=>j0)⟩,j5⟩,j0,j1⟩ ?_ ?_ ?_
       ·
        rintro ⟨v44,v45,v46,v47,v48⟩ r h
        replace h : verify_Method_l9 v2 v4 v8 v44 v45 v46 v47 v48 = some r:=h
        unfold verify_Method_l9 at h
        refine rg j0<|u<|lss ti3 j0 j0<|r_nil ?_
        refine sw_seq ?_
        refine sw_cond j0 (fun hc39=>?_) (fun hc39=>?_)
        ·
         replace h:=bT hc39 h
         refine sw_skip ?_
         refine sw_seq ?_
         refine sw_block ?_
         obtain ⟨v49,q40,h⟩:=bs h
         refine rg j0<|u<|mv j0<|u<|ixI ti72 j0 ti69 j0 j0 j0 q40<|u<|ldI ti69 j0 (idx_some q40).2.2 j0<|u<|al 3 ti69 j0<|u<|asg j0<|u<|sto ti69 j0 j0 j0<|r_nil ?_
         obtain ⟨v50,q41,h⟩:=bs h
         refine rg j0<|u<|mv j0<|u<|mv j0<|u<|mv j0<|u<|sc [0,1,2] (verify_checker_enter_ok v4.l v4.at_ v2 v8 v44 v45 v46 v48 v47 q41) j0 j0 j0 j0 ⟨(.mpt j0),(rnI j0),(rnI j0),j5⟩ ⟨⟨_,j0,(rr12 j0 ⟨(.msl j0),(.msl j0),(rnI j0),j5⟩)⟩,⟨j0,mkI (fun _=>j0)⟩,⟨j0,mkI (fun _=>j0)⟩,j5⟩<|r_can (env0:=[(9,.mpt 0 0 0),(14,iA v48),(15,.mpt 3 0 0),(160,.isl 4 (List.map rApiIns v8.Code)),(161,iA (List.length v8.Code : Int)),(162,iA v48)]) (st0:=[some (15,[(vK v4.l v4.at_ v2 v8 (.msl 1 0 (List.length v50.1)) (.msl 2 0 (List.length v50.2.1)) (bA v50.2.2))]),some (1,List.map rStr v50.1),some (1,List.map rStr v50.2.1),some (4,[(rApiIns v49)])]) ⟨[.old 0,.old 4,.old 5,.old 3],cv j0 (.mpt j0)<|ce j0 j0<|cv j0 (.mpt j0)<|ce j0 j0<|ce j0 j0<|ce j0 j0<|cn,j0,⟨⟨_,j0,rsOne (cc12 j0 (by exact ⟨.msl j0,.msl j0,ci j0,j5⟩))⟩,⟨_,j0,rsMap (fun _=>j0)⟩,⟨_,j0,rsMap (fun _=>j0)⟩,⟨_,j0,rsOne (ciL j0)⟩,j5⟩,j0,j1⟩<|r_nil ?_
         refine sw_seq ?_
         refine rg j0<|u<|mv j0<|u<|nc j0 j0<|u<|fa ti131 j0 j0 j0<|u<|ld ti4 j0 j0<|r_nil ?_
         refine sw_cond j0 (fun hc42=>?_) (fun hc42=>?_)
         ·
          replace h:=bT hc42 h
          refine rg j0<|u<|asg j0<|r_nil ?_
          refine sw_ret ?_
          obtain rfl:=sm h
          exact ⟨_,j0,_,j0,[],ci j0,j0,j5,j0,j1⟩
         ·
          replace h:=bF hc42 h
          refine sw_skip ?_
          obtain ⟨v51,q43,h⟩:=bs h
          refine rg j0<|u<|mv j0<|u<|mv j0<|u<|sc [0,1,2] (verify_checker_traps_ok v4.l v4.at_ v2 v8 v50.1 v50.2.1 v50.2.2 v48 q43) j0 j0 j0 j0 ⟨(.mpt j0),(rnI j0),j5⟩ ⟨⟨_,j0,(rr12 j0 ⟨(.msl j0),(.msl j0),(rnI j0),j5⟩)⟩,⟨j0,mkI (fun _=>j0)⟩,⟨j0,mkI (fun _=>j0)⟩,j5⟩<|r_can (env0:=[(9,.mpt 0 0 0),(15,.mpt 3 0 0),(160,.isl 4 (List.map rApiIns v8.Code)),(161,iA (List.length v8.Code : Int)),(162,iA v48)]) (st0:=[some (15,[(vK v4.l v4.at_ v2 v8 (.msl 1 0 (List.length v50.1)) (.msl 2 0 (List.length v50.2.1)) (bA v51))]),some (1,List.map rStr v50.1),some (1,List.map rStr v50.2.1),some (4,[(rApiIns v49)])]) ⟨[.old 0,.old 1,.old 2,.old 3],cv j0 (.mpt j0)<|cv j0 (.mpt j0)<|ce j0 j0<|ce j0 j0<|ce j0 j0<|cn,j0,⟨⟨_,j0,rsOne (cc12 j0 (by exact ⟨.msl j0,.msl j0,ci j0,j5⟩))⟩,⟨_,j0,rsMap (fun _=>j0)⟩,⟨_,j0,rsMap (fun _=>j0)⟩,⟨_,j0,rsOne (ciL j0)⟩,j5⟩,j0,j1⟩<|r_nil ?_
          obtain ⟨v52,q44,h⟩:=bs h
          refine rg j0<|u<|mv j0<|u<|ld ti69 j0 j0<|u<|sc [0,1,2] (verify_checker_one_ok v4.l v4.at_ v2 v8 v50.1 v50.2.1 v51 v49 q44) j0 j0 j0 j0 ⟨(.mpt j0),(rnI j0),j5⟩ ⟨⟨_,j0,(rr12 j0 ⟨(.msl j0),(.msl j0),(rnI j0),j5⟩)⟩,⟨j0,mkI (fun _=>j0)⟩,⟨j0,mkI (fun _=>j0)⟩,j5⟩<|r_can (env0:=[(9,.mpt 0 0 0),(15,.mpt 3 0 0),(160,.isl 4 (List.map rApiIns v8.Code)),(161,iA (List.length v8.Code : Int)),(162,iA v48)]) (st0:=[some (15,[(vK v4.l v4.at_ v2 v8 (.msl 1 0 (List.length v52.1)) (.msl 2 0 (List.length v52.2.1)) (bA v52.2.2))]),some (1,List.map rStr v52.1),some (1,List.map rStr v52.2.1),some (4,[(rApiIns v49)])]) ⟨[.old 0,.old 4,.old 5,.old 3],cv j0 (.mpt j0)<|cv j0 (.mpt j0)<|ce j0 j0<|ce j0 j0<|ce j0 j0<|cn,j0,⟨⟨_,j0,rsOne (cc12 j0 (by exact ⟨.msl j0,.msl j0,ci j0,j5⟩))⟩,⟨_,j0,rsMap (fun _=>j0)⟩,⟨_,j0,rsMap (fun _=>j0)⟩,⟨_,j0,rsOne (ciL j0)⟩,j5⟩,j0,j1⟩<|r_nil ?_
          refine sw_meet (X:=Bool) (fun z=>[(9,.mpt 0 0 0),(15,.mpt 3 0 0),(160,.isl 4 (List.map rApiIns v8.Code)),(161,iA (List.length v8.Code : Int)),(162,iA v48)]) (fun z=>[some (15,[(vK v4.l v4.at_ v2 v8 (.msl 1 0 (List.length v52.1)) (.msl 2 0 (List.length v52.2.1)) (bA z))]),some (1,List.map rStr v52.1),some (1,List.map rStr v52.2.1),some (4,[(rApiIns v49)])]) (fun z=>verify_Method_j8 v8 v48 v49 v52 z = some r) ?_ ?_
          ·
           refine rg j0<|u<|fa ti69 j0 j0 j0<|u<|ld ti3 j0 j0<|u<|pc (op_Jumps_ok v49.Op j0) j0 j0 j0<|r_nil ?_
           refine sw_cond j0 (fun hc45=>?_) (fun hc45=>?_)
           ·
            replace h:=bT hc45 h
            obtain ⟨v53,q46,h⟩:=bs h
            refine rdL [(9,.mpt 0 0 0),(15,.mpt 3 0 0),(160,.isl 4 (List.map rApiIns v8.Code)),(161,iA (List.length v8.Code : Int)),(162,iA v48)] [some (15,[(vK v4.l v4.at_ v2 v8 (.msl 1 0 (List.length v52.1)) (.msl 2 0 (List.length v52.2.1)) (bA v53))]),some (1,List.map rStr v52.1),some (1,List.map rStr v52.2.1),some (4,[(rApiIns v49)])] [7] [6,5,4,3,2,1,0] [(190,.msl 2 0 (List.length v52.2.1)),(189,.mpt 0 0 13),(188,.mpt 0 0 0),(187,.mpt 0 0 0),(186,iA v49.A),(185,.mpt 3 0 1),(184,.mpt 0 0 0)] 1 (by kernel_rfl) (by kernel_rfl) j0 (by kernel_rfl) (dtS ⟨(fun _=>pa j0 j0 j0 j0 (ld ti25 j0 j0<|j4)),(fun _=>pa j0 j0 j0 j0 (fa ti131 j0 j0 j0<|j4)),(fun _=>pa j0 j0 j0 j0 (nc j0 j0<|j4)),(fun _=>pa j0 j0 j0 j0 (mv j0<|j4)),(fun _=>pa j0 j0 j0 j0 (ld ti3 j0 j0<|j4)),(fun _=>pa j0 j0 j0 j0 (fa ti69 j0 j0 j0<|j4)),(fun _=>pa j0 j0 j0 j0 (mv j0<|j4)),j5⟩ (by kernel_rfl) j0 ⟨(fun _ _=>⟨_,j0,j0,sc [0,1,2] (verify_checker_goes_ok v4.l v4.at_ v2 v8 v52.1 v52.2.1 v52.2.2 v49.A q46) j0 j0 j0 j0 ⟨(.mpt j0),(rnI j0),(.msl j0),j5⟩ ⟨⟨_,j0,(rr12 j0 ⟨(.msl j0),(.msl j0),(rnI j0),j5⟩)⟩,⟨j0,mkI (fun _=>j0)⟩,⟨j0,mkI (fun _=>j0)⟩,j5⟩<|⟨(.tup []),[],[(191,.tup [])],j0,j0,by kernel_rfl,j0,dt0 ⟨(fun h=>by cases h),(fun _=>pa j0 j0 j0 j0 (fa ti131 j0 j0 j0<|j4)),(fun _=>pa j0 j0 j0 j0 (nc j0 j0<|j4)),(fun _=>pa j0 j0 j0 j0 (mv j0<|j4)),(fun h=>by cases h),(fun _=>pa j0 j0 j0 j0 (fa ti69 j0 j0 j0<|j4)),(fun h=>by cases h),j5⟩ (by kernel_rfl) j0 ⟨[.old 0,.old 1,.old 2,.old 3],cv j0 (.mpt j0)<|cv j0 (.mpt j0)<|ce j0 j0<|ce j0 j0<|ce j0 j0<|cn,j0,⟨⟨_,j0,rsOne (cc12 j0 (by exact ⟨.msl j0,.msl j0,ci j0,j5⟩))⟩,⟨_,j0,rsMap (fun _=>j0)⟩,⟨_,j0,rsMap (fun _=>j0)⟩,⟨_,j0,rsOne (ciL j0)⟩,j5⟩,j0,j1⟩⟩⟩),j5⟩) ?_
            exact ⟨v53,h,[.old 0,.old 1,.old 2,.old 3],cv j0 (.mpt j0)<|cv j0 (.mpt j0)<|ce j0 j0<|ce j0 j0<|ce j0 j0<|cn,j0,⟨⟨_,j0,rsOne (cc12 j0 (by exact ⟨.msl j0,.msl j0,ci j0,j5⟩))⟩,⟨_,j0,rsMap (fun _=>j0)⟩,⟨_,j0,rsMap (fun _=>j0)⟩,⟨_,j0,rsOne (ciL j0)⟩,j5⟩,j0,j1⟩
           ·
            replace h:=bF hc45 h
            refine sw_skip ?_
            exact ⟨v52.2.2,h,[.old 0,.old 1,.old 2,.old 3],cv j0 (.mpt j0)<|cv j0 (.mpt j0)<|ce j0 j0<|ce j0 j0<|ce j0 j0<|cn,j0,⟨⟨_,j0,rsOne (cc12 j0 (by exact ⟨.msl j0,.msl j0,ci j0,j5⟩))⟩,⟨_,j0,rsMap (fun _=>j0)⟩,⟨_,j0,rsMap (fun _=>j0)⟩,⟨_,j0,rsOne (ciL j0)⟩,j5⟩,j0,j1⟩
          ·
           rintro v54 h
           replace h : verify_Method_j8 v8 v48 v49 v52 v54 = some r:=h
           unfold verify_Method_j8 at h
           refine rd [(9,.mpt 0 0 0),(15,.mpt 3 0 0),(160,.isl 4 (List.map rApiIns v8.Code)),(161,iA (List.length v8.Code : Int)),(162,iA v48)] [some (15,[(vK v4.l v4.at_ v2 v8 (.msl 1 0 (List.length v52.1)) (.msl 2 0 (List.length v52.2.1)) (bA (v54 || (!(decide (((List.length v52.2.1) : Int) ≤ v8.Stack))))))]),some (1,List.map rStr v52.1),some (1,List.map rStr v52.2.1),some (4,[(rApiIns v49)])] [12] [11,10,9,8,7,6,5,4,3,2,1,0] [(203,bA (decide (((List.length v52.2.1) : Int) ≤ v8.Stack))),(202,iA v8.Stack),(201,.mpt 0 0 8),(200,.mpt 0 0 2),(199,.mpt 0 0 0),(198,.mpt 0 0 0),(197,iA ((List.length v52.2.1) : Int)),(196,.msl 2 0 (List.length v52.2.1)),(195,.mpt 0 0 13),(194,.mpt 0 0 0),(193,.mpt 0 0 0),(192,.mpt 0 0 0)] 1 (by kernel_rfl) (by kernel_rfl) j0 (by kernel_rfl) (dtS ⟨(fun _=>pa j0 j0 j0 j0 (leq ti3 j0 j0<|j4)),(fun _=>pa j0 j0 j0 j0 (ld ti3 j0 j0<|j4)),(fun _=>pa j0 j0 j0 j0 (fa ti76 j0 j0 j0<|j4)),(fun _=>pa j0 j0 j0 j0 (fa ti131 j0 j0 j0<|j4)),(fun _=>pa j0 j0 j0 j0 (nc j0 j0<|j4)),(fun _=>pa j0 j0 j0 j0 (mv j0<|j4)),(fun _=>pa j0 j0 j0 j0 (lnM ti25 j0 j0 j0<|j4)),(fun _=>pa j0 j0 j0 j0 (ld ti25 j0 j0<|j4)),(fun _=>pa j0 j0 j0 j0 (fa ti131 j0 j0 j0<|j4)),(fun _=>pa j0 j0 j0 j0 (nc j0 j0<|j4)),(fun _=>pa j0 j0 j0 j0 (mv j0<|j4)),(fun _=>pa j0 j0 j0 j0 (mv j0<|j4)),j5⟩ (by kernel_rfl) j0 ⟨(fun _ _=>⟨_,j0,j0,sc [0,1,2] (verify_checker_need_ok v4.l v4.at_ v2 v8 v52.1 v52.2.1 v54 (decide (((List.length v52.2.1) : Int) ≤ v8.Stack)) j0) j0 j0 j0 j0 ⟨(.mpt j0),(rnI j0),j5⟩ ⟨⟨_,j0,(rr12 j0 ⟨(.msl j0),(.msl j0),(rnI j0),j5⟩)⟩,⟨j0,mkI (fun _=>j0)⟩,⟨j0,mkI (fun _=>j0)⟩,j5⟩<|⟨(.tup []),[],[(204,.tup [])],j0,j0,by kernel_rfl,j0,dt0 ⟨(fun h=>by cases h),(fun _=>pa j0 j0 j0 j0 (ld ti3 j0 j0<|j4)),(fun _=>pa j0 j0 j0 j0 (fa ti76 j0 j0 j0<|j4)),(fun _=>pa j0 j0 j0 j0 (fa ti131 j0 j0 j0<|j4)),(fun _=>pa j0 j0 j0 j0 (nc j0 j0<|j4)),(fun _=>pa j0 j0 j0 j0 (mv j0<|j4)),(fun _=>pa j0 j0 j0 j0 (lnM ti25 j0 j0 j0<|j4)),(fun _=>pa j0 j0 j0 j0 (ld ti25 j0 j0<|j4)),(fun _=>pa j0 j0 j0 j0 (fa ti131 j0 j0 j0<|j4)),(fun _=>pa j0 j0 j0 j0 (nc j0 j0<|j4)),(fun _=>pa j0 j0 j0 j0 (mv j0<|j4)),(fun h=>by cases h),j5⟩ (by kernel_rfl) j0 ⟨[.old 0,.old 1,.old 2,.old 3],cv j0 (.mpt j0)<|cv j0 (.mpt j0)<|ce j0 j0<|ce j0 j0<|ce j0 j0<|cn,j0,⟨⟨_,j0,rsOne (cc12 j0 (by exact ⟨.msl j0,.msl j0,ci j0,j5⟩))⟩,⟨_,j0,rsMap (fun _=>j0)⟩,⟨_,j0,rsMap (fun _=>j0)⟩,⟨_,j0,rsOne (ciL j0)⟩,j5⟩,j0,j1⟩⟩⟩),j5⟩) ?_
           refine rl j0<|u<|fa ti69 j0 j0 j0<|u<|ld ti3 j0 j0<|u<|pc (op_Ends_ok v49.Op j0) j0 j0 j0<|u<|nt j0<|u<|asg j0<|r_nil ?_
           refine rl j0<|u<|add ti3 j0 j0<|u<|mv j0<|r_nil ?_
           obtain rfl:=sm h
           exact ⟨_,j0,[.old 0,.old 1,.old 2],cv j0 (.mpt j0)<|ce j0 j0<|ce j0 j0<|ce j0 j0<|ce j0 j0<|cn,j0,⟨⟨_,j0,rsOne (cc12 j0 (by exact ⟨.msl j0,.msl j0,ci j0,j5⟩))⟩,⟨_,j0,rsMap (fun _=>j0)⟩,⟨_,j0,rsMap (fun _=>j0)⟩,j5⟩,j0,j1⟩
        ·
         replace h:=bF hc39 h
         refine sw_exit ?_
         obtain rfl:=sm h
         exact ⟨j0,_,j0,[.old 0,.old 1,.old 2],cv j0 (.mpt j0)<|cn,j0,⟨⟨_,j0,rsOne (cc12 j0 (by exact ⟨.msl j0,.msl j0,ci j0,j5⟩))⟩,⟨_,j0,rsMap (fun _=>j0)⟩,⟨_,j0,rsMap (fun _=>j0)⟩,j5⟩,j0,j1⟩
       ·
        rintro ⟨v55,v56,v57⟩ rfl
        replace h : verify_Method_k10 v55 v56 v57 = some r:=h
        unfold verify_Method_k10 at h
        refine ow_intro ?_
        refine rg j0<|u<|mv j0<|u<|nc j0 j0<|u<|fa ti131 j0 j0 j0<|u<|ld ti4 j0 j0<|u<|nt j0<|u<|asg j0<|r_nil ?_
        refine sw_ret ?_
        obtain rfl:=sm h
        exact ⟨_,j0,[],ci j0,j0,j5,j0,j1⟩
       ·
        rintro r' rfl env st hp
        obtain rfl:=sm h
        exact hp
      ·
       rintro r' rfl env st hp
       obtain rfl:=sm h
       exact hp
   ·
    rintro r' rfl env st hp
    obtain rfl:=sm h
    exact hp
end
end Go.Proofs.YtjbdfkapnffjnaaGreat
namespace Go.Proofs.YtjbdfkapnffjnaaGreat
noncomputable section
set_option linter.unusedSimpArgs false
set_option linter.unusedVariables false
set_option maxRecDepth 100000
set_option maxHeartbeats 4000000
def law10_begun : Option (Bool) :=
  (hier_New ([(ApiClass.mk [70,97,99,101] [79,98,106,101,99,116] true [] [] ([(ApiMethod.mk [102] [] [73] false true 0 0 [] [] [])])),(ApiClass.mk [65,97] [79,98,106,101,99,116] false ([[70,97,99,101]]) ([(ApiField.mk [120] [73] false),(ApiField.mk [115] [73] true)]) ([(ApiMethod.mk [102] [] [73] false false 1 1 ([(ApiIns.mk 1 5 [] []),(ApiIns.mk 47 0 [] [])]) [] [])])),(ApiClass.mk [66,98] [65,97] false [] ([(ApiField.mk [121] [91,65,97] false)]) ([(ApiMethod.mk [109,97,105,110] [] [86] true false 0 0 ([(ApiIns.mk 46 0 [] [])]) [] [])]))])).bind fun v1=>(hier_New ([(ApiClass.mk [70,97,99,101] [79,98,106,101,99,116] true [] [] ([(ApiMethod.mk [102] [] [73] false true 0 0 [] [] [])])),(ApiClass.mk [65,97] [79,98,106,101,99,116] false ([[70,97,99,101]]) ([(ApiField.mk [120] [73] false),(ApiField.mk [115] [73] true)]) ([(ApiMethod.mk [102] [] [73] false false 1 1 ([(ApiIns.mk 2 0 [] []),(ApiIns.mk 47 0 [] [])]) [] [])])),(ApiClass.mk [66,98] [65,97] false [] ([(ApiField.mk [121] [91,65,97] false)]) ([(ApiMethod.mk [109,97,105,110] [] [86] true false 0 0 ([(ApiIns.mk 46 0 [] [])]) [] [])]))])).bind fun v2=>cond ((!(v1.2 == (0 : Int))) || (!(v2.2 == (0 : Int)))) (some false) ((cond (law9_Begun) ((verify_Method v1.1 [65,97] 0).bind fun v3=>some v3) (some false)).bind fun v4=>(cond v4 ((verify_Method v1.1 [66,98] 0).bind fun v5=>some v5) (some false)).bind fun v6=>(cond v6 ((verify_Method v2.1 [65,97] 0).bind fun v7=>some (!v7)) (some false)).bind fun v8=>(cond v8 ((verify_Method v1.1 [70,97,99,101] 0).bind fun v9=>some (!v9)) (some false)).bind fun v10=>(cond v10 ((verify_Method v1.1 [65,97] 1).bind fun v11=>some (!v11)) (some false)).bind fun v12=>(cond v12 ((verify_Method v1.1 [90,122] 0).bind fun v13=>some (!v13)) (some false)).bind fun v14=>some v14)
theorem law10_begun_ok {r : Bool} (h : law10_begun = some r) : PureC Tryz.prog 37 [] (bA r):=by
 refine pure_fn Tryz.func37 j0 (by kernel_rfl) j0 j0 ?_
 unfold law10_begun at h
 refine rg j0<|u<|asg j0<|r_nil ?_
 obtain ⟨v1,q1,h⟩:=bs h
 refine rg j0<|u<|sc [] (law7_Two_ok j0) j0 j0 j0 j0 j5 j5<|r_can (env0:=[(7,.msl 0 0 3)]) (st0:=[some (6,[[sA [70,97,99,101],sA [79,98,106,101,99,116],bA true,.lit (.slice none 0 0),.lit (.slice none 0 0),.msl 1 0 1],[sA [65,97],sA [79,98,106,101,99,116],bA false,.msl 2 0 1,.msl 3 0 2,.msl 4 0 1],[sA [66,98],sA [65,97],bA false,.lit (.slice none 0 0),.msl 6 0 1,.msl 7 0 1]]),some (10,[[sA [102],.lit (.slice none 0 0),sA [73],bA false,bA true,iA 0,iA 0,.lit (.slice none 0 0),.lit (.slice none 0 0),.lit (.slice none 0 0)]]),some (1,[[sA [70,97,99,101]]]),some (3,[[sA [120],sA [73],bA false],[sA [115],sA [73],bA true]]),some (10,[[sA [102],.lit (.slice none 0 0),sA [73],bA false,bA false,iA 1,iA 1,.msl 5 0 2,.lit (.slice none 0 0),.lit (.slice none 0 0)]]),some (4,[[iA 1,iA 5,sA [],sA []],[iA 47,iA 0,sA [],sA []]]),some (3,[[sA [121],sA [91,65,97],bA false]]),some (10,[[sA [109,97,105,110],.lit (.slice none 0 0),sA [86],bA true,bA false,iA 0,iA 0,.msl 8 0 1,.lit (.slice none 0 0),.lit (.slice none 0 0)]]),some (4,[[iA 46,iA 0,sA [],sA []]])]) ⟨[.old 0,.old 1,.old 2,.old 3,.old 4,.old 5,.old 6,.old 7,.old 8],cv j0 (.msl j0)<|cn,j0,⟨⟨_,j0,rsRows ⟨⟨(ci j0),(ci j0),(ci j0),(ci j0),(ci j0),(.msl j0),j5⟩,⟨(ci j0),(ci j0),(ci j0),(.msl j0),(.msl j0),(.msl j0),j5⟩,⟨(ci j0),(ci j0),(ci j0),(ci j0),(.msl j0),(.msl j0),j5⟩,j5⟩⟩,⟨_,j0,rsRows ⟨⟨(ci j0),(ci j0),(ci j0),(ci j0),(ci j0),(ci j0),(ci j0),(ci j0),(ci j0),(ci j0),j5⟩,j5⟩⟩,⟨_,j0,rsRows ⟨⟨(ci j0),j5⟩,j5⟩⟩,⟨_,j0,rsRows ⟨⟨(ci j0),(ci j0),(ci j0),j5⟩,⟨(ci j0),(ci j0),(ci j0),j5⟩,j5⟩⟩,⟨_,j0,rsRows ⟨⟨(ci j0),(ci j0),(ci j0),(ci j0),(ci j0),(ci j0),(ci j0),(.msl j0),(ci j0),(ci j0),j5⟩,j5⟩⟩,⟨_,j0,rsRows ⟨⟨(ci j0),(ci j0),(ci j0),(ci j0),j5⟩,⟨(ci j0),(ci j0),(ci j0),(ci j0),j5⟩,j5⟩⟩,⟨_,j0,rsRows ⟨⟨(ci j0),(ci j0),(ci j0),j5⟩,j5⟩⟩,⟨_,j0,rsRows ⟨⟨(ci j0),(ci j0),(ci j0),(ci j0),(ci j0),(ci j0),(ci j0),(.msl j0),(ci j0),(ci j0),j5⟩,j5⟩⟩,⟨_,j0,rsRows ⟨⟨(ci j0),(ci j0),(ci j0),(ci j0),j5⟩,j5⟩⟩,j5⟩,j0,j1⟩<|r_can (env0:=[(7,.isl 6 (List.map rApiClass ([(ApiClass.mk [70,97,99,101] [79,98,106,101,99,116] true [] [] ([(ApiMethod.mk [102] [] [73] false true 0 0 [] [] [])])),(ApiClass.mk [65,97] [79,98,106,101,99,116] false ([[70,97,99,101]]) ([(ApiField.mk [120] [73] false),(ApiField.mk [115] [73] true)]) ([(ApiMethod.mk [102] [] [73] false false 1 1 ([(ApiIns.mk 1 5 [] []),(ApiIns.mk 47 0 [] [])]) [] [])])),(ApiClass.mk [66,98] [65,97] false [] ([(ApiField.mk [121] [91,65,97] false)]) ([(ApiMethod.mk [109,97,105,110] [] [86] true false 0 0 ([(ApiIns.mk 46 0 [] [])]) [] [])]))])))]) (st0:=[]) ⟨[],cv j0 (rsSealX j0 j0 ⟨⟨⟨ci j0,ci j0,ci j0,.nil,.nil,rsSealX j0 j0 ⟨⟨⟨ci j0,.nil,ci j0,ci j0,ci j0,ci j0,ci j0,.nil,.nil,.nil,j5⟩,j0⟩,j5⟩,j5⟩,j0⟩,⟨⟨ci j0,ci j0,ci j0,rsSealX j0 j0 ⟨⟨⟨ci j0,j5⟩,j0⟩,j5⟩,rsSealX j0 j0 ⟨⟨⟨ci j0,ci j0,ci j0,j5⟩,j0⟩,⟨⟨ci j0,ci j0,ci j0,j5⟩,j0⟩,j5⟩,rsSealX j0 j0 ⟨⟨⟨ci j0,.nil,ci j0,ci j0,ci j0,ci j0,ci j0,rsSealX j0 j0 ⟨⟨⟨ci j0,ci j0,ci j0,ci j0,j5⟩,j0⟩,⟨⟨ci j0,ci j0,ci j0,ci j0,j5⟩,j0⟩,j5⟩,.nil,.nil,j5⟩,j0⟩,j5⟩,j5⟩,j0⟩,⟨⟨ci j0,ci j0,ci j0,.nil,rsSealX j0 j0 ⟨⟨⟨ci j0,ci j0,ci j0,j5⟩,j0⟩,j5⟩,rsSealX j0 j0 ⟨⟨⟨ci j0,.nil,ci j0,ci j0,ci j0,ci j0,ci j0,rsSealX j0 j0 ⟨⟨⟨ci j0,ci j0,ci j0,ci j0,j5⟩,j0⟩,j5⟩,.nil,.nil,j5⟩,j0⟩,j5⟩,j5⟩,j0⟩,j5⟩)<|cn,j0,j5,j0,j1⟩<|u<|pc (hier_New_ok ([(ApiClass.mk [70,97,99,101] [79,98,106,101,99,116] true [] [] ([(ApiMethod.mk [102] [] [73] false true 0 0 [] [] [])])),(ApiClass.mk [65,97] [79,98,106,101,99,116] false ([[70,97,99,101]]) ([(ApiField.mk [120] [73] false),(ApiField.mk [115] [73] true)]) ([(ApiMethod.mk [102] [] [73] false false 1 1 ([(ApiIns.mk 1 5 [] []),(ApiIns.mk 47 0 [] [])]) [] [])])),(ApiClass.mk [66,98] [65,97] false [] ([(ApiField.mk [121] [91,65,97] false)]) ([(ApiMethod.mk [109,97,105,110] [] [86] true false 0 0 ([(ApiIns.mk 46 0 [] [])]) [] [])]))]) q1) j0 j0 j0<|u<|mv j0<|u<|ex j0 j0<|u<|ex j0 j0<|u<|asg j0<|u<|asg j0<|r_nil ?_
 refine rg j0<|u<|sc [] (law7_Two_ok j0) j0 j0 j0 j0 j5 j5<|r_can (env0:=[(1,optP 2 rHierHier v1.1),(2,iA v1.2),(11,.msl 0 0 3)]) (st0:=[some (6,[[sA [70,97,99,101],sA [79,98,106,101,99,116],bA true,.lit (.slice none 0 0),.lit (.slice none 0 0),.msl 1 0 1],[sA [65,97],sA [79,98,106,101,99,116],bA false,.msl 2 0 1,.msl 3 0 2,.msl 4 0 1],[sA [66,98],sA [65,97],bA false,.lit (.slice none 0 0),.msl 6 0 1,.msl 7 0 1]]),some (10,[[sA [102],.lit (.slice none 0 0),sA [73],bA false,bA true,iA 0,iA 0,.lit (.slice none 0 0),.lit (.slice none 0 0),.lit (.slice none 0 0)]]),some (1,[[sA [70,97,99,101]]]),some (3,[[sA [120],sA [73],bA false],[sA [115],sA [73],bA true]]),some (10,[[sA [102],.lit (.slice none 0 0),sA [73],bA false,bA false,iA 1,iA 1,.msl 5 0 2,.lit (.slice none 0 0),.lit (.slice none 0 0)]]),some (4,[[iA 1,iA 5,sA [],sA []],[iA 47,iA 0,sA [],sA []]]),some (3,[[sA [121],sA [91,65,97],bA false]]),some (10,[[sA [109,97,105,110],.lit (.slice none 0 0),sA [86],bA true,bA false,iA 0,iA 0,.msl 8 0 1,.lit (.slice none 0 0),.lit (.slice none 0 0)]]),some (4,[[iA 46,iA 0,sA [],sA []]])]) ⟨[.old 0,.old 1,.old 2,.old 3,.old 4,.old 5,.old 6,.old 7,.old 8],cv j0 (ci (immP (fun _=>j0)))<|ce j0 j0<|cv j0 (.msl j0)<|cn,j0,⟨⟨_,j0,rsRows ⟨⟨(ci j0),(ci j0),(ci j0),(ci j0),(ci j0),(.msl j0),j5⟩,⟨(ci j0),(ci j0),(ci j0),(.msl j0),(.msl j0),(.msl j0),j5⟩,⟨(ci j0),(ci j0),(ci j0),(ci j0),(.msl j0),(.msl j0),j5⟩,j5⟩⟩,⟨_,j0,rsRows ⟨⟨(ci j0),(ci j0),(ci j0),(ci j0),(ci j0),(ci j0),(ci j0),(ci j0),(ci j0),(ci j0),j5⟩,j5⟩⟩,⟨_,j0,rsRows ⟨⟨(ci j0),j5⟩,j5⟩⟩,⟨_,j0,rsRows ⟨⟨(ci j0),(ci j0),(ci j0),j5⟩,⟨(ci j0),(ci j0),(ci j0),j5⟩,j5⟩⟩,⟨_,j0,rsRows ⟨⟨(ci j0),(ci j0),(ci j0),(ci j0),(ci j0),(ci j0),(ci j0),(.msl j0),(ci j0),(ci j0),j5⟩,j5⟩⟩,⟨_,j0,rsRows ⟨⟨(ci j0),(ci j0),(ci j0),(ci j0),j5⟩,⟨(ci j0),(ci j0),(ci j0),(ci j0),j5⟩,j5⟩⟩,⟨_,j0,rsRows ⟨⟨(ci j0),(ci j0),(ci j0),j5⟩,j5⟩⟩,⟨_,j0,rsRows ⟨⟨(ci j0),(ci j0),(ci j0),(ci j0),(ci j0),(ci j0),(ci j0),(.msl j0),(ci j0),(ci j0),j5⟩,j5⟩⟩,⟨_,j0,rsRows ⟨⟨(ci j0),(ci j0),(ci j0),(ci j0),j5⟩,j5⟩⟩,j5⟩,j0,j1⟩<|u<|asg j0<|r_nil ?_
 refine rg j0<|u<|mv j0<|u<|ixX ti24 j0 ti29 j0 j0 j0<|u<|fa ti29 j0 j0 j0<|u<|ld ti27 j0 j0<|u<|ixX ti27 j0 ti76 j0 j0 j0<|u<|fa ti76 j0 j0 j0<|u<|ld ti72 j0 j0<|u<|bd ti69 j0 j0 j0<|u<|ixX ti72 j0 ti69 j0 j0 j0<|u<|sto ti69 j0 j0 j0<|r_nil ?_
 obtain ⟨v2,q2,h⟩:=bs h
 refine rg j0<|u<|mv j0<|r_can (env0:=[(1,optP 2 rHierHier v1.1),(2,iA v1.2),(22,.isl 6 (List.map rApiClass ([(ApiClass.mk [70,97,99,101] [79,98,106,101,99,116] true [] [] ([(ApiMethod.mk [102] [] [73] false true 0 0 [] [] [])])),(ApiClass.mk [65,97] [79,98,106,101,99,116] false ([[70,97,99,101]]) ([(ApiField.mk [120] [73] false),(ApiField.mk [115] [73] true)]) ([(ApiMethod.mk [102] [] [73] false false 1 1 ([(ApiIns.mk 2 0 [] []),(ApiIns.mk 47 0 [] [])]) [] [])])),(ApiClass.mk [66,98] [65,97] false [] ([(ApiField.mk [121] [91,65,97] false)]) ([(ApiMethod.mk [109,97,105,110] [] [86] true false 0 0 ([(ApiIns.mk 46 0 [] [])]) [] [])]))])))]) (st0:=[]) ⟨[],cv j0 (ci (immP (fun _=>j0)))<|ce j0 j0<|cv j0 (rsSealX j0 j0 ⟨⟨⟨ci j0,ci j0,ci j0,.nil,.nil,rsSealX j0 j0 ⟨⟨⟨ci j0,.nil,ci j0,ci j0,ci j0,ci j0,ci j0,.nil,.nil,.nil,j5⟩,j0⟩,j5⟩,j5⟩,j0⟩,⟨⟨ci j0,ci j0,ci j0,rsSealX j0 j0 ⟨⟨⟨ci j0,j5⟩,j0⟩,j5⟩,rsSealX j0 j0 ⟨⟨⟨ci j0,ci j0,ci j0,j5⟩,j0⟩,⟨⟨ci j0,ci j0,ci j0,j5⟩,j0⟩,j5⟩,rsSealX j0 j0 ⟨⟨⟨ci j0,.nil,ci j0,ci j0,ci j0,ci j0,ci j0,rsSealX j0 j0 ⟨⟨⟨ci j0,ci j0,ci j0,ci j0,j5⟩,j0⟩,⟨⟨ci j0,ci j0,ci j0,ci j0,j5⟩,j0⟩,j5⟩,.nil,.nil,j5⟩,j0⟩,j5⟩,j5⟩,j0⟩,⟨⟨ci j0,ci j0,ci j0,.nil,rsSealX j0 j0 ⟨⟨⟨ci j0,ci j0,ci j0,j5⟩,j0⟩,j5⟩,rsSealX j0 j0 ⟨⟨⟨ci j0,.nil,ci j0,ci j0,ci j0,ci j0,ci j0,rsSealX j0 j0 ⟨⟨⟨ci j0,ci j0,ci j0,ci j0,j5⟩,j0⟩,j5⟩,.nil,.nil,j5⟩,j0⟩,j5⟩,j5⟩,j0⟩,j5⟩)<|cn,j0,j5,j0,j1⟩<|u<|pc (hier_New_ok ([(ApiClass.mk [70,97,99,101] [79,98,106,101,99,116] true [] [] ([(ApiMethod.mk [102] [] [73] false true 0 0 [] [] [])])),(ApiClass.mk [65,97] [79,98,106,101,99,116] false ([[70,97,99,101]]) ([(ApiField.mk [120] [73] false),(ApiField.mk [115] [73] true)]) ([(ApiMethod.mk [102] [] [73] false false 1 1 ([(ApiIns.mk 2 0 [] []),(ApiIns.mk 47 0 [] [])]) [] [])])),(ApiClass.mk [66,98] [65,97] false [] ([(ApiField.mk [121] [91,65,97] false)]) ([(ApiMethod.mk [109,97,105,110] [] [86] true false 0 0 ([(ApiIns.mk 46 0 [] [])]) [] [])]))]) q2) j0 j0 j0<|u<|mv j0<|u<|ex j0 j0<|u<|ex j0 j0<|u<|asg j0<|u<|asg j0<|r_nil ?_
 refine sw_seq ?_
 refine rg j0<|u<|mv j0<|u<|neq ti33 j0 j0<|u<|mv j0<|r_or (j:=2) 2 j0 j0 j0 j0 j0 gpn (fun hb3=>g j0 hb3<|mv j0<|g j0 hb3<|neq ti33 j0 j0<|r_nil (egO [29,30] 2 hb3 j0 j0 j0 j0)) orT<|r_nil ?_
 refine sw_cond j0 (fun hc4=>?_) (fun hc4=>?_)
 ·
  replace h:=bT hc4 h
  refine rg j0<|u<|asg j0<|r_nil ?_
  refine sw_ret ?_
  obtain rfl:=sm h
  exact ⟨_,j0,[],ci j0,j0,j5,j0,j1⟩
 ·
  replace h:=bF hc4 h
  refine sw_skip ?_
  obtain ⟨v4,q7,h⟩:=bs h
  obtain ⟨v6,q10,h⟩:=bs h
  obtain ⟨v8,q13,h⟩:=bs h
  obtain ⟨v10,q16,h⟩:=bs h
  obtain ⟨v12,q19,h⟩:=bs h
  obtain ⟨v14,q22,h⟩:=bs h
  refine rg j0<|u<|pc (law9_Begun_ok j0) j0 j0 j0<|u<|mv j0<|r_and (x:=v4) (j:=1) 2 j0 j0 j0 j0 j0 gpn (fun hb5=>by replace q7:=bT hb5 q7; obtain ⟨v3,q6,q7⟩:=bs q7; obtain rfl:=sm q7; exact g j0 hb5<|mv j0<|g j0 hb5<|pc (verify_Method_ok v1.1 [65,97] 0 q6) j0 j0 (immC (immP (fun _=>j0)) (j0))<|r_nil (eg [34,35] 2 j0 j0 j0 j0)) (fun hb=>(sm (bF hb q7)).symm)<|u<|mv j0<|r_and (x:=v6) (j:=5) 2 j0 j0 j0 j0 j0 gpn (fun hb8=>by replace q10:=bT hb8 q10; obtain ⟨v5,q9,q10⟩:=bs q10; obtain rfl:=sm q10; exact g j0 hb8<|mv j0<|g j0 hb8<|pc (verify_Method_ok v1.1 [66,98] 0 q9) j0 j0 (immC (immP (fun _=>j0)) (j0))<|r_nil (eg [38,39] 2 j0 j0 j0 j0)) (fun hb=>(sm (bF hb q10)).symm)<|u<|mv j0<|r_and (x:=v8) (j:=9) 3 j0 j0 j0 j0 j0 gpn (fun hb11=>by replace q13:=bT hb11 q13; obtain ⟨v7,q12,q13⟩:=bs q13; obtain rfl:=sm q13; exact g j0 hb11<|mv j0<|g j0 hb11<|pc (verify_Method_ok v2.1 [65,97] 0 q12) j0 j0 (immC (immP (fun _=>j0)) (j0))<|g j0 hb11<|nt j0<|r_nil (eg [42,43,44] 3 j0 j0 j0 j0)) (fun hb=>(sm (bF hb q13)).symm)<|u<|mv j0<|r_and (x:=v10) (j:=14) 3 j0 j0 j0 j0 j0 gpn (fun hb14=>by replace q16:=bT hb14 q16; obtain ⟨v9,q15,q16⟩:=bs q16; obtain rfl:=sm q16; exact g j0 hb14<|mv j0<|g j0 hb14<|pc (verify_Method_ok v1.1 [70,97,99,101] 0 q15) j0 j0 (immC (immP (fun _=>j0)) (j0))<|g j0 hb14<|nt j0<|r_nil (eg [47,48,49] 3 j0 j0 j0 j0)) (fun hb=>(sm (bF hb q16)).symm)<|u<|mv j0<|r_and (x:=v12) (j:=19) 3 j0 j0 j0 j0 j0 gpn (fun hb17=>by replace q19:=bT hb17 q19; obtain ⟨v11,q18,q19⟩:=bs q19; obtain rfl:=sm q19; exact g j0 hb17<|mv j0<|g j0 hb17<|pc (verify_Method_ok v1.1 [65,97] 1 q18) j0 j0 (immC (immP (fun _=>j0)) (j0))<|g j0 hb17<|nt j0<|r_nil (eg [52,53,54] 3 j0 j0 j0 j0)) (fun hb=>(sm (bF hb q19)).symm)<|u<|mv j0<|r_and (x:=v14) (j:=24) 3 j0 j0 j0 j0 j0 gpn (fun hb20=>by replace q22:=bT hb20 q22; obtain ⟨v13,q21,q22⟩:=bs q22; obtain rfl:=sm q22; exact g j0 hb20<|mv j0<|g j0 hb20<|pc (verify_Method_ok v1.1 [90,122] 0 q21) j0 j0 (immC (immP (fun _=>j0)) (j0))<|g j0 hb20<|nt j0<|r_nil (eg [57,58,59] 3 j0 j0 j0 j0)) (fun hb=>(sm (bF hb q22)).symm)<|u<|asg j0<|r_nil ?_
  refine sw_ret ?_
  obtain rfl:=sm h
  exact ⟨_,j0,[],ci j0,j0,j5,j0,j1⟩
def law10_one (v1 : List (List UInt8)) (v2 : List UInt8) (v3 : Int) (v4 : Int) (v5 : List ApiIns) (v6 : List ApiMap) (v7 : List ApiTrap) : Option ((List ApiMethod)) :=
  (appP 152 ([(ApiMethod.mk [109,97,105,110] [] [86] true false 0 0 ([(ApiIns.mk 46 0 [] [])]) [] [])]) ([(ApiMethod.mk [103] v1 v2 false false v3 v4 v5 v6 v7)])).bind fun v8=>some v8
theorem law10_one_ok (v1 : List (List UInt8)) (v2 : List UInt8) (v3 : Int) (v4 : Int) (v5 : List ApiIns) (v6 : List ApiMap) (v7 : List ApiTrap) {r : (List ApiMethod)} (h : law10_one v1 v2 v3 v4 v5 v6 v7 = some r) : SC Tryz.prog 39 [.isl 1 (List.map rStr v1),sA v2,iA v3,iA v4,.isl 4 (List.map rApiIns v5),.isl 3 (List.map rApiMap v6),.isl 4 (List.map rApiTrap v7)] [] (.msl 0 0 3) [.xs 6 [[sA [70,97,99,101],sA [79,98,106,101,99,116],bA true,.lit (.slice none 0 0),.lit (.slice none 0 0),.msl 1 0 1],[sA [65,97],sA [79,98,106,101,99,116],bA false,.msl 2 0 1,.msl 3 0 2,.msl 4 0 1],[sA [66,98],sA [65,97],bA false,.lit (.slice none 0 0),.msl 6 0 1,.msl 7 0 (List.length r)]],.xs 10 [[sA [102],.lit (.slice none 0 0),sA [73],bA false,bA true,iA 0,iA 0,.lit (.slice none 0 0),.lit (.slice none 0 0),.lit (.slice none 0 0)]],.xs 1 [[sA [70,97,99,101]]],.xs 3 [[sA [120],sA [73],bA false],[sA [115],sA [73],bA true]],.xs 10 [[sA [102],.lit (.slice none 0 0),sA [73],bA false,bA false,iA 1,iA 1,.msl 5 0 2,.lit (.slice none 0 0),.lit (.slice none 0 0)]],.xs 4 [[iA 1,iA 5,sA [],sA []],[iA 47,iA 0,sA [],sA []]],.xs 3 [[sA [121],sA [91,65,97],bA false]],.many 10 (List.map rApiMethod r)]:=by
 refine ⟨⟨j5,j5,j5,j5,j5,j5,j5,sbOk (sz:=10) (fun _=>j0),j5⟩,scall_fn Tryz.func39 j0 (by kernel_rfl) j0 ?_⟩
 unfold law10_one at h
 refine rg j0<|u<|asg j0<|r_nil ?_
 refine rg j0<|u<|sc [] (law7_Two_ok j0) j0 j0 j0 j0 j5 j5<|r_can (env0:=[(0,.isl 1 (List.map rStr v1)),(1,sA v2),(2,iA v3),(3,iA v4),(4,.isl 4 (List.map rApiIns v5)),(5,.isl 3 (List.map rApiMap v6)),(6,.isl 4 (List.map rApiTrap v7)),(16,.msl 0 0 3)]) (st0:=[some (6,[[sA [70,97,99,101],sA [79,98,106,101,99,116],bA true,.lit (.slice none 0 0),.lit (.slice none 0 0),.msl 1 0 1],[sA [65,97],sA [79,98,106,101,99,116],bA false,.msl 2 0 1,.msl 3 0 2,.msl 4 0 1],[sA [66,98],sA [65,97],bA false,.lit (.slice none 0 0),.msl 6 0 1,.msl 7 0 1]]),some (10,[[sA [102],.lit (.slice none 0 0),sA [73],bA false,bA true,iA 0,iA 0,.lit (.slice none 0 0),.lit (.slice none 0 0),.lit (.slice none 0 0)]]),some (1,[[sA [70,97,99,101]]]),some (3,[[sA [120],sA [73],bA false],[sA [115],sA [73],bA true]]),some (10,[[sA [102],.lit (.slice none 0 0),sA [73],bA false,bA false,iA 1,iA 1,.msl 5 0 2,.lit (.slice none 0 0),.lit (.slice none 0 0)]]),some (4,[[iA 1,iA 5,sA [],sA []],[iA 47,iA 0,sA [],sA []]]),some (3,[[sA [121],sA [91,65,97],bA false]]),some (10,[[sA [109,97,105,110],.lit (.slice none 0 0),sA [86],bA true,bA false,iA 0,iA 0,.msl 8 0 1,.lit (.slice none 0 0),.lit (.slice none 0 0)]]),some (4,[[iA 46,iA 0,sA [],sA []]])]) ⟨[.old 0,.old 1,.old 2,.old 3,.old 4,.old 5,.old 6,.old 7,.old 8],ce j0 j0<|ce j0 j0<|ce j0 j0<|ce j0 j0<|ce j0 j0<|ce j0 j0<|ce j0 j0<|cv j0 (.msl j0)<|cn,j0,⟨⟨_,j0,rsRows ⟨⟨(ci j0),(ci j0),(ci j0),(ci j0),(ci j0),(.msl j0),j5⟩,⟨(ci j0),(ci j0),(ci j0),(.msl j0),(.msl j0),(.msl j0),j5⟩,⟨(ci j0),(ci j0),(ci j0),(ci j0),(.msl j0),(.msl j0),j5⟩,j5⟩⟩,⟨_,j0,rsRows ⟨⟨(ci j0),(ci j0),(ci j0),(ci j0),(ci j0),(ci j0),(ci j0),(ci j0),(ci j0),(ci j0),j5⟩,j5⟩⟩,⟨_,j0,rsRows ⟨⟨(ci j0),j5⟩,j5⟩⟩,⟨_,j0,rsRows ⟨⟨(ci j0),(ci j0),(ci j0),j5⟩,⟨(ci j0),(ci j0),(ci j0),j5⟩,j5⟩⟩,⟨_,j0,rsRows ⟨⟨(ci j0),(ci j0),(ci j0),(ci j0),(ci j0),(ci j0),(ci j0),(.msl j0),(ci j0),(ci j0),j5⟩,j5⟩⟩,⟨_,j0,rsRows ⟨⟨(ci j0),(ci j0),(ci j0),(ci j0),j5⟩,⟨(ci j0),(ci j0),(ci j0),(ci j0),j5⟩,j5⟩⟩,⟨_,j0,rsRows ⟨⟨(ci j0),(ci j0),(ci j0),j5⟩,j5⟩⟩,⟨_,j0,rsRows ⟨⟨(ci j0),(ci j0),(ci j0),(ci j0),(ci j0),(ci j0),(ci j0),(.msl j0),(ci j0),(ci j0),j5⟩,j5⟩⟩,⟨_,j0,rsRows ⟨⟨(ci j0),(ci j0),(ci j0),(ci j0),j5⟩,j5⟩⟩,j5⟩,j0,j1⟩<|u<|asg j0<|r_nil ?_
 obtain ⟨v8,q1,h⟩:=bs h
 refine rg j0<|u<|mv j0<|u<|mv j0<|u<|ixX ti24 j0 ti29 j0 j0 j0<|u<|fa ti29 j0 j0 j0<|u<|ld ti27 j0 j0<|u<|mv j0<|u<|mv j0<|u<|mv j0<|u<|mv j0<|u<|mv j0<|u<|mv j0<|u<|mv j0<|u<|bd (parts:=[(0,sA [103]),(1,.isl 1 (List.map rStr v1)),(2,sA v2),(5,iA v3),(6,iA v4),(7,.isl 4 (List.map rApiIns v5)),(8,.isl 3 (List.map rApiMap v6)),(9,.isl 4 (List.map rApiTrap v7))]) (cs:=[sA [103],.isl 1 (List.map rStr v1),sA v2,bA false,bA false,iA v3,iA v4,.isl 4 (List.map rApiIns v5),.isl 3 (List.map rApiMap v6),.isl 4 (List.map rApiTrap v7)]) ti76 j0 j0 (by kernel_rfl)<|u<|bl 9 ti27 j0 ti76 j0 (by decide) (by decide) j0 j0 j0<|r_can (env0:=[(15,.msl 0 0 3),(17,.msl 0 0 3),(21,.msl 7 0 (List.length ([(ApiMethod.mk [109,97,105,110] [] [86] true false 0 0 ([(ApiIns.mk 46 0 [] [])]) [] [])]))),(30,.msl 8 0 (List.length ([(ApiMethod.mk [103] v1 v2 false false v3 v4 v5 v6 v7)])))]) (st0:=[some (6,[[sA [70,97,99,101],sA [79,98,106,101,99,116],bA true,.lit (.slice none 0 0),.lit (.slice none 0 0),.msl 1 0 1],[sA [65,97],sA [79,98,106,101,99,116],bA false,.msl 2 0 1,.msl 3 0 2,.msl 4 0 1],[sA [66,98],sA [65,97],bA false,.lit (.slice none 0 0),.msl 6 0 1,.msl 7 0 (List.length ([(ApiMethod.mk [109,97,105,110] [] [86] true false 0 0 ([(ApiIns.mk 46 0 [] [])]) [] [])]))]]),some (10,[[sA [102],.lit (.slice none 0 0),sA [73],bA false,bA true,iA 0,iA 0,.lit (.slice none 0 0),.lit (.slice none 0 0),.lit (.slice none 0 0)]]),some (1,[[sA [70,97,99,101]]]),some (3,[[sA [120],sA [73],bA false],[sA [115],sA [73],bA true]]),some (10,[[sA [102],.lit (.slice none 0 0),sA [73],bA false,bA false,iA 1,iA 1,.msl 5 0 2,.lit (.slice none 0 0),.lit (.slice none 0 0)]]),some (4,[[iA 1,iA 5,sA [],sA []],[iA 47,iA 0,sA [],sA []]]),some (3,[[sA [121],sA [91,65,97],bA false]]),some (10,List.map rApiMethod ([(ApiMethod.mk [109,97,105,110] [] [86] true false 0 0 ([(ApiIns.mk 46 0 [] [])]) [] [])])),some (10,List.map rApiMethod ([(ApiMethod.mk [103] v1 v2 false false v3 v4 v5 v6 v7)]))]) ⟨[.old 0,.old 1,.old 2,.old 3,.old 4,.old 5,.old 6,.old 7,.old 9],cv j0 (.msl j0)<|cv j0 (.msl j0)<|cv j0 (.msl j0)<|cv j0 (.msl j0)<|cn,j0,⟨⟨_,j0,rsRows ⟨⟨(ci j0),(ci j0),(ci j0),(ci j0),(ci j0),(.msl j0),j5⟩,⟨(ci j0),(ci j0),(ci j0),(.msl j0),(.msl j0),(.msl j0),j5⟩,⟨(ci j0),(ci j0),(ci j0),(ci j0),(.msl j0),(.msl j0),j5⟩,j5⟩⟩,⟨_,j0,rsRows ⟨⟨(ci j0),(ci j0),(ci j0),(ci j0),(ci j0),(ci j0),(ci j0),(ci j0),(ci j0),(ci j0),j5⟩,j5⟩⟩,⟨_,j0,rsRows ⟨⟨(ci j0),j5⟩,j5⟩⟩,⟨_,j0,rsRows ⟨⟨(ci j0),(ci j0),(ci j0),j5⟩,⟨(ci j0),(ci j0),(ci j0),j5⟩,j5⟩⟩,⟨_,j0,rsRows ⟨⟨(ci j0),(ci j0),(ci j0),(ci j0),(ci j0),(ci j0),(ci j0),(.msl j0),(ci j0),(ci j0),j5⟩,j5⟩⟩,⟨_,j0,rsRows ⟨⟨(ci j0),(ci j0),(ci j0),(ci j0),j5⟩,⟨(ci j0),(ci j0),(ci j0),(ci j0),j5⟩,j5⟩⟩,⟨_,j0,rsRows ⟨⟨(ci j0),(ci j0),(ci j0),j5⟩,j5⟩⟩,⟨_,j0,rsRows ⟨⟨(ci j0),(.nil),(ci j0),(ci j0),(ci j0),(ci j0),(ci j0),(rsSealX j0 j0 ⟨⟨⟨ci j0,ci j0,ci j0,ci j0,j5⟩,j0⟩,j5⟩),(.nil),(.nil),j5⟩,j5⟩⟩,⟨_,j0,rsRows ⟨⟨(ci j0),(ci j0),(ci j0),(ci j0),(ci j0),(ci j0),(ci j0),(ci j0),(ci j0),(ci j0),j5⟩,j5⟩⟩,j5⟩,j0,j1⟩<|u<|apM 9 ti27 j0 ti76 j0 j0 (by decide) ti27 j0 j0 j0 j0 (roM j0) (fun _=>j0) j0 q1<|u<|ixX ti24 j0 ti29 j0 j0 j0<|u<|fa ti29 j0 j0 j0<|u<|sto ti27 j0 j0 j0<|r_nil ?_
 refine rg j0<|u<|mv j0<|u<|asg j0<|r_nil ?_
 refine sw_ret ?_
 obtain rfl:=sm h
 exact ⟨_,j0,[.old 0,.old 1,.old 2,.old 3,.old 4,.old 5,.old 6,.old 9],.msl j0,j0,⟨⟨_,j0,rsRows ⟨⟨(ci j0),(ci j0),(ci j0),(ci j0),(ci j0),(.msl j0),j5⟩,⟨(ci j0),(ci j0),(ci j0),(.msl j0),(.msl j0),(.msl j0),j5⟩,⟨(ci j0),(ci j0),(ci j0),(ci j0),(.msl j0),(.msl j0),j5⟩,j5⟩⟩,⟨_,j0,rsRows ⟨⟨(ci j0),(ci j0),(ci j0),(ci j0),(ci j0),(ci j0),(ci j0),(ci j0),(ci j0),(ci j0),j5⟩,j5⟩⟩,⟨_,j0,rsRows ⟨⟨(ci j0),j5⟩,j5⟩⟩,⟨_,j0,rsRows ⟨⟨(ci j0),(ci j0),(ci j0),j5⟩,⟨(ci j0),(ci j0),(ci j0),j5⟩,j5⟩⟩,⟨_,j0,rsRows ⟨⟨(ci j0),(ci j0),(ci j0),(ci j0),(ci j0),(ci j0),(ci j0),(.msl j0),(ci j0),(ci j0),j5⟩,j5⟩⟩,⟨_,j0,rsRows ⟨⟨(ci j0),(ci j0),(ci j0),(ci j0),j5⟩,⟨(ci j0),(ci j0),(ci j0),(ci j0),j5⟩,j5⟩⟩,⟨_,j0,rsRows ⟨⟨(ci j0),(ci j0),(ci j0),j5⟩,j5⟩⟩,⟨_,j0,rsMap (fun _=>j0)⟩,j5⟩,j0,j1⟩
def law10_runs (v1 : List ApiClass) : Option (Bool × Bool) :=
  (hier_New v1).bind fun v2=>(verify_Method v2.1 [66,98] 1).bind fun v3=>some (v3,(v2.2 == (0 : Int)))
theorem law10_runs_ok (v1 : List ApiClass) {r : Bool × Bool} (h : law10_runs v1 = some r) : PureC Tryz.prog 42 [.isl 6 (List.map rApiClass v1)] (.tup [bA r.1,bA r.2]):=by
 refine pure_fn Tryz.func42 j0 (by kernel_rfl) j0 j0 ?_
 unfold law10_runs at h
 refine rg j0<|u<|asg j0<|u<|asg j0<|r_nil ?_
 obtain ⟨v2,q1,h⟩:=bs h
 refine rg j0<|u<|mv j0<|u<|pc (hier_New_ok v1 q1) j0 j0 j0<|u<|mv j0<|u<|ex j0 j0<|u<|ex j0 j0<|u<|asg j0<|u<|asg j0<|r_nil ?_
 obtain ⟨v3,q2,h⟩:=bs h
 refine rg j0<|u<|mv j0<|u<|pc (verify_Method_ok v2.1 [66,98] 1 q2) j0 j0 (immC (immP (fun _=>j0)) (j0))<|u<|mv j0<|u<|eql ti33 j0 j0<|u<|asg j0<|u<|asg j0<|r_nil ?_
 refine sw_ret ?_
 obtain rfl:=sm h
 exact ⟨_,j0,[],rsTup ⟨(ci j0),(ci j0),j5⟩,j0,j5,j0,j1⟩
end
end Go.Proofs.YtjbdfkapnffjnaaGreat
namespace Go.Proofs.YtjbdfkapnffjnaaGreat
noncomputable section
set_option linter.unusedSimpArgs false
set_option linter.unusedVariables false
set_option maxRecDepth 100000
set_option maxHeartbeats 4000000
def law10_small (v1 : Int) : Option (Int) :=
  (remP v1 8).bind fun v2=>(remP (IntKind.i64.wrap (v2 + 8)) 8).bind fun v3=>some v3
theorem law10_small_ok (v1 : Int) {r : Int} (h : law10_small v1 = some r) : PureC Tryz.prog 41 [iA v1] (iA r):=by
 refine pure_fn Tryz.func41 j0 (by kernel_rfl) j0 j0 ?_
 unfold law10_small at h
 refine rg j0<|u<|asg j0<|r_nil ?_
 obtain ⟨v2,q1,h⟩:=bs h
 obtain ⟨v3,q2,h⟩:=bs h
 refine rg j0<|u<|mv j0<|u<|rem ti3 j0 j0 q1<|u<|add ti3 j0 j0<|u<|rem ti3 j0 j0 q2<|u<|asg j0<|r_nil ?_
 refine sw_ret ?_
 obtain rfl:=sm h
 exact ⟨_,j0,[],ci j0,j0,j5,j0,j1⟩
def law10_VerifyReturn (v1 : Int) (v2 : Int) (v3 : Int) : Option (Bool) :=
  (law10_begun).bind fun v4=>cond (!v4) (some false) ((law10_small v1).bind fun v6=>(idx ([[86],[73],[79,98,106,101,99,116],[65,97],[66,98],[91,73],[91,65,97],[91,66,98]]) v6).bind fun v7=>(law10_small v2).bind fun v8=>(idx ([[86],[73],[79,98,106,101,99,116],[65,97],[66,98],[91,73],[91,65,97],[91,66,98]]) v8).bind fun v9=>cond (v9 == [86]) (some true) ((remP v3 3).bind fun v10=>(remP (IntKind.i64.wrap (v10 + 3)) 3).bind fun v11=>(idx [46,47,48] v11).bind fun v12=>(law10_one [v9] v7 2 2 ([(ApiIns.mk 3 1 [] []),(ApiIns.mk v12 0 [] [])]) [] []).bind fun v13=>(law10_runs ([(ApiClass.mk [70,97,99,101] [79,98,106,101,99,116] true [] [] ([(ApiMethod.mk [102] [] [73] false true 0 0 [] [] [])])),(ApiClass.mk [65,97] [79,98,106,101,99,116] false ([[70,97,99,101]]) ([(ApiField.mk [120] [73] false),(ApiField.mk [115] [73] true)]) ([(ApiMethod.mk [102] [] [73] false false 1 1 ([(ApiIns.mk 1 5 [] []),(ApiIns.mk 47 0 [] [])]) [] [])])),(ApiClass.mk [66,98] [65,97] false [] ([(ApiField.mk [121] [91,65,97] false)]) v13)])).bind fun v14=>some (v14.2 && (v14.1 == ((((v12 == (46 : Int)) && (v7 == [86])) || (((v12 == (47 : Int)) && (v7 == [73])) && (v9 == [73]))) || (((((v12 == (48 : Int)) && (!(v7 == [86]))) && (!(v7 == [73]))) && (!(v9 == [73]))) && ((((v7 == v9) || ((v7 == [79,98,106,101,99,116]) && (!(v9 == [73])))) || ((v7 == [65,97]) && (v9 == [66,98]))) || ((v7 == [91,65,97]) && (v9 == [91,66,98])))))))))
theorem law10_VerifyReturn_ok (v1 : Int) (v2 : Int) (v3 : Int) {r : Bool} (h : law10_VerifyReturn v1 v2 v3 = some r) : PureC Tryz.prog 11 [iA v1,iA v2,iA v3] (bA r):=by
 refine pure_fn Tryz.func11 j0 (by kernel_rfl) j0 j0 ?_
 unfold law10_VerifyReturn at h
 refine rg j0<|u<|asg j0<|r_nil ?_
 obtain ⟨v4,q1,h⟩:=bs h
 refine rg j0<|u<|pc (law10_begun_ok q1) j0 j0 j0<|u<|asg j0<|r_nil ?_
 refine sw_seq ?_
 refine rg j0<|u<|mv j0<|u<|nt j0<|r_nil ?_
 refine sw_cond j0 (fun hc2=>?_) (fun hc2=>?_)
 ·
  replace h:=bT hc2 h
  refine rg j0<|u<|asg j0<|r_nil ?_
  refine sw_ret ?_
  obtain rfl:=sm h
  exact ⟨_,j0,[],ci j0,j0,j5,j0,j1⟩
 ·
  replace h:=bF hc2 h
  refine sw_skip ?_
  refine rg j0<|u<|bl 0 ti25 j0 ti9 j0 (by decide) (by decide) j0 j0 j0<|u<|asg j0<|r_nil ?_
  refine sw_can (env0:=[(0,iA v1),(1,iA v2),(2,iA v3),(8,.msl 0 0 (List.length ([[86],[73],[79,98,106,101,99,116],[65,97],[66,98],[91,73],[91,65,97],[91,66,98]])))]) (st0:=[some (1,List.map rStr ([[86],[73],[79,98,106,101,99,116],[65,97],[66,98],[91,73],[91,65,97],[91,66,98]]))]) ⟨[.old 0],ce j0 j0<|ce j0 j0<|ce j0 j0<|cv j0 (.msl j0)<|cn,j0,⟨⟨_,j0,rsRows ⟨⟨(ci j0),j5⟩,⟨(ci j0),j5⟩,⟨(ci j0),j5⟩,⟨(ci j0),j5⟩,⟨(ci j0),j5⟩,⟨(ci j0),j5⟩,⟨(ci j0),j5⟩,⟨(ci j0),j5⟩,j5⟩⟩,j5⟩,j0,j1⟩ ?_
  obtain ⟨v6,q4,h⟩:=bs h
  obtain ⟨v7,q5,h⟩:=bs h
  obtain ⟨v8,q6,h⟩:=bs h
  obtain ⟨v9,q7,h⟩:=bs h
  refine rd [(2,iA v3),(9,sA v7),(10,sA v9)] [] [] [11,10,9,8,7,6,5,4,3,2,1,0] [(10,sA v9),(9,sA v7),(30,sA v9),(29,.mpt 0 (Int.toNat v8) 0),(28,iA v8),(27,iA v2),(26,.msl 0 0 (List.length ([[86],[73],[79,98,106,101,99,116],[65,97],[66,98],[91,73],[91,65,97],[91,66,98]]))),(25,sA v7),(24,.mpt 0 (Int.toNat v6) 0),(23,iA v6),(22,iA v1),(21,.msl 0 0 (List.length ([[86],[73],[79,98,106,101,99,116],[65,97],[66,98],[91,73],[91,65,97],[91,66,98]])))] 0 (by kernel_rfl) (by kernel_rfl) j0 (by kernel_rfl) (dt0 ⟨(fun _=>pa j0 j0 j0 j0 (asg j0<|j4)),(fun _=>pa j0 j0 j0 j0 (asg j0<|j4)),(fun _=>pa j0 j0 j0 j0 (ldM ti9 j0 j0 (idx_some q7).2.2 j0<|j4)),(fun _=>pa j0 j0 j0 j0 (ixM ti25 j0 ti9 j0 j0 j0 j0 q7<|j4)),(fun _=>pa j0 j0 j0 j0 (pc (law10_small_ok v2 q6) j0 j0 j0<|j4)),(fun _=>pa j0 j0 j0 j0 (mv j0<|j4)),(fun _=>pa j0 j0 j0 j0 (mv j0<|j4)),(fun _=>pa j0 j0 j0 j0 (ldM ti9 j0 j0 (idx_some q5).2.2 j0<|j4)),(fun _=>pa j0 j0 j0 j0 (ixM ti25 j0 ti9 j0 j0 j0 j0 q5<|j4)),(fun _=>pa j0 j0 j0 j0 (pc (law10_small_ok v1 q4) j0 j0 j0<|j4)),(fun _=>pa j0 j0 j0 j0 (mv j0<|j4)),(fun _=>pa j0 j0 j0 j0 (mv j0<|j4)),j5⟩ (by kernel_rfl) j0 ⟨[],ce j0 j0<|ce j0 j0<|ce j0 j0<|cn,j0,j5,j0,j1⟩) ?_
  refine sw_seq ?_
  refine rg j0<|u<|mv j0<|u<|seq ti9 j0 j0<|r_nil ?_
  refine sw_cond j0 (fun hc8=>?_) (fun hc8=>?_)
  ·
   replace h:=bT hc8 h
   refine rg j0<|u<|asg j0<|r_nil ?_
   refine sw_ret ?_
   obtain rfl:=sm h
   exact ⟨_,j0,[],ci j0,j0,j5,j0,j1⟩
  ·
   replace h:=bF hc8 h
   refine sw_skip ?_
   refine rg j0<|u<|bl 0 ti22 j0 ti3 j0 (by decide) (by decide) j0 j0 j0<|u<|asg j0<|r_nil ?_
   obtain ⟨v10,q9,h⟩:=bs h
   obtain ⟨v11,q10,h⟩:=bs h
   obtain ⟨v12,q11,h⟩:=bs h
   refine rg j0<|u<|mv j0<|u<|mv j0<|u<|rem ti3 j0 j0 q9<|u<|add ti3 j0 j0<|u<|rem ti3 j0 j0 q10<|r_can (env0:=[(9,sA v7),(10,sA v9),(34,.msl 0 0 (List.length [46,47,48])),(38,iA v11)]) (st0:=[some (1,List.map (rI .i64) [46,47,48])]) ⟨[.old 0],ce j0 j0<|ce j0 j0<|cv j0 (.msl j0)<|ce j0 j0<|cn,j0,⟨⟨_,j0,rsRows ⟨⟨(ci j0),j5⟩,⟨(ci j0),j5⟩,⟨(ci j0),j5⟩,j5⟩⟩,j5⟩,j0,j1⟩<|u<|ixM ti22 j0 ti3 j0 j0 j0 j0 q11<|u<|ldM ti3 j0 j0 (idx_some q11).2.2 j0<|u<|asg j0<|r_nil ?_
   obtain ⟨v13,q12,h⟩:=bs h
   obtain ⟨v14,q13,h⟩:=bs h
   refine rg j0<|u<|mv j0<|u<|bl 1 ti25 j0 ti9 j0 (by decide) (by decide) j0 j0 j0<|u<|mv j0<|u<|bd ti69 j0 j0 j0<|u<|mv j0<|u<|bd ti69 j0 j0 j0<|u<|bl 2 ti72 j0 ti69 j0 (by decide) (by decide) j0 j0 j0<|r_can (env0:=[(9,sA v7),(10,sA v9),(12,iA v12),(43,.isl 1 (List.map rStr [v9])),(44,sA v7),(48,.isl 4 (List.map rApiIns ([(ApiIns.mk 3 1 [] []),(ApiIns.mk v12 0 [] [])])))]) (st0:=[]) ⟨[],ce j0 j0<|ce j0 j0<|ce j0 j0<|cv j0 (rsSealX j0 j0 ⟨⟨⟨ci j0,j5⟩,j0⟩,j5⟩)<|ce j0 j0<|cv j0 (rsSealX j0 j0 ⟨⟨⟨ci j0,ci j0,ci j0,ci j0,j5⟩,j0⟩,⟨⟨ci j0,ci j0,ci j0,ci j0,j5⟩,j0⟩,j5⟩)<|cn,j0,j5,j0,j1⟩<|u<|sc [] (law10_one_ok [v9] v7 2 2 ([(ApiIns.mk 3 1 [] []),(ApiIns.mk v12 0 [] [])]) [] [] q12) j0 j0 j0 j0 ⟨(rnI j0),(rnI j0),(rnI j0),(rnI j0),(rnI j0),(.nilI),(.nilI),j5⟩ j5<|u<|pcs (law10_runs_ok ([(ApiClass.mk [70,97,99,101] [79,98,106,101,99,116] true [] [] ([(ApiMethod.mk [102] [] [73] false true 0 0 [] [] [])])),(ApiClass.mk [65,97] [79,98,106,101,99,116] false ([[70,97,99,101]]) ([(ApiField.mk [120] [73] false),(ApiField.mk [115] [73] true)]) ([(ApiMethod.mk [102] [] [73] false false 1 1 ([(ApiIns.mk 1 5 [] []),(ApiIns.mk 47 0 [] [])]) [] [])])),(ApiClass.mk [66,98] [65,97] false [] ([(ApiField.mk [121] [91,65,97] false)]) v13)]) q13) j0 j0 (.cons (sealX j0 ⟨⟨(si j0),(si j0),(si j0),(.nil),(.nil),(sealX j0 ⟨⟨(si j0),(.nil),(si j0),(si j0),(si j0),(si j0),(si j0),(.nil),(.nil),(.nil),j5⟩,j5⟩),j5⟩,⟨(si j0),(si j0),(si j0),(sealX j0 ⟨⟨(si j0),j5⟩,j5⟩),(sealX j0 ⟨⟨(si j0),(si j0),(si j0),j5⟩,⟨(si j0),(si j0),(si j0),j5⟩,j5⟩),(sealX j0 ⟨⟨(si j0),(.nil),(si j0),(si j0),(si j0),(si j0),(si j0),(sealX j0 ⟨⟨(si j0),(si j0),(si j0),(si j0),j5⟩,⟨(si j0),(si j0),(si j0),(si j0),j5⟩,j5⟩),(.nil),(.nil),j5⟩,j5⟩),j5⟩,⟨(si j0),(si j0),(si j0),(.nil),(sealX j0 ⟨⟨(si j0),(si j0),(si j0),j5⟩,j5⟩),(sealM j0 (fun _=>j0)),j5⟩,j5⟩) .nil) plainB<|u<|mv j0<|u<|ex j0 j0<|u<|ex j0 j0<|u<|asg j0<|u<|asg j0<|r_nil ?_
   refine rg j0<|u<|mv j0<|u<|mv j0<|u<|seq ti9 j0 j0<|u<|mv j0<|r_or (j:=3) 6 j0 j0 j0 j0 j0 gpn (fun hb14=>g j0 hb14<|mv j0<|g j0 hb14<|seq ti9 j0 j0<|g j0 hb14<|mv j0<|r_and (j:=6) 2 j0 j0 j0 j0 j0 (gps j0 j0 hb14) (fun hb15=>g j0 hb15<|mv j0<|g j0 hb15<|sne ti9 j0 j0<|r_nil (egA [60,61] 2 hb15 j0 j0 j0 j0)) andF<|r_nil (egO [57,58,59,60,61,62] 4 hb14 j0 j0 j0 j0)) orT<|u<|mv j0<|r_or (j:=11) 6 j0 j0 j0 j0 j0 gpn (fun hb16=>g j0 hb16<|mv j0<|g j0 hb16<|seq ti9 j0 j0<|g j0 hb16<|mv j0<|r_and (j:=14) 2 j0 j0 j0 j0 j0 (gps j0 j0 hb16) (fun hb17=>g j0 hb17<|mv j0<|g j0 hb17<|seq ti9 j0 j0<|r_nil (egA [68,69] 2 hb17 j0 j0 j0 j0)) andF<|r_nil (egO [65,66,67,68,69,70] 4 hb16 j0 j0 j0 j0)) orT<|u<|mv j0<|r_or (j:=19) 6 j0 j0 j0 j0 j0 gpn (fun hb18=>g j0 hb18<|mv j0<|g j0 hb18<|seq ti9 j0 j0<|g j0 hb18<|mv j0<|r_and (j:=22) 2 j0 j0 j0 j0 j0 (gps j0 j0 hb18) (fun hb19=>g j0 hb19<|mv j0<|g j0 hb19<|seq ti9 j0 j0<|r_nil (egA [76,77] 2 hb19 j0 j0 j0 j0)) andF<|r_nil (egO [73,74,75,76,77,78] 4 hb18 j0 j0 j0 j0)) orT<|u<|asg j0<|r_nil ?_
   refine rg j0<|u<|mv j0<|u<|eql ti3 j0 j0<|u<|mv j0<|r_and (j:=2) 2 j0 j0 j0 j0 j0 gpn (fun hb20=>g j0 hb20<|mv j0<|g j0 hb20<|seq ti9 j0 j0<|r_nil (egA [83,84] 2 hb20 j0 j0 j0 j0)) andF<|u<|mv j0<|r_or (j:=6) 10 j0 j0 j0 j0 j0 gpn (fun hb21=>g j0 hb21<|mv j0<|g j0 hb21<|eql ti3 j0 j0<|g j0 hb21<|mv j0<|r_and (j:=9) 2 j0 j0 j0 j0 j0 (gps j0 j0 hb21) (fun hb22=>g j0 hb22<|mv j0<|g j0 hb22<|seq ti9 j0 j0<|r_nil (egA [90,91] 2 hb22 j0 j0 j0 j0)) andF<|g j0 hb21<|mv j0<|r_and (j:=13) 2 j0 j0 j0 j0 j0 (gps j0 j0 hb21) (fun hb23=>g j0 hb23<|mv j0<|g j0 hb23<|seq ti9 j0 j0<|r_nil (egA [94,95] 2 hb23 j0 j0 j0 j0)) andF<|r_nil (egO [87,88,89,90,91,92,93,94,95,96] 6 hb21 j0 j0 j0 j0)) orT<|u<|mv j0<|r_or (j:=18) 17 j0 j0 j0 j0 j0 gpn (fun hb24=>g j0 hb24<|mv j0<|g j0 hb24<|eql ti3 j0 j0<|g j0 hb24<|mv j0<|r_and (j:=21) 2 j0 j0 j0 j0 j0 (gps j0 j0 hb24) (fun hb25=>g j0 hb25<|mv j0<|g j0 hb25<|sne ti9 j0 j0<|r_nil (egA [102,103] 2 hb25 j0 j0 j0 j0)) andF<|g j0 hb24<|mv j0<|r_and (j:=25) 2 j0 j0 j0 j0 j0 (gps j0 j0 hb24) (fun hb26=>g j0 hb26<|mv j0<|g j0 hb26<|sne ti9 j0 j0<|r_nil (egA [106,107] 2 hb26 j0 j0 j0 j0)) andF<|g j0 hb24<|mv j0<|r_and (j:=29) 2 j0 j0 j0 j0 j0 (gps j0 j0 hb24) (fun hb27=>g j0 hb27<|mv j0<|g j0 hb27<|sne ti9 j0 j0<|r_nil (egA [110,111] 2 hb27 j0 j0 j0 j0)) andF<|g j0 hb24<|mv j0<|r_and (j:=33) 1 j0 j0 j0 j0 j0 (gps j0 j0 hb24) (fun hb28=>g j0 hb28<|mv j0<|r_nil (egA [114] 1 hb28 j0 j0 j0 j0)) andF<|r_nil (egO [99,100,101,102,103,104,105,106,107,108,109,110,111,112,113,114,115] 10 hb24 j0 j0 j0 j0)) orT<|u<|asg j0<|r_nil ?_
   refine rg j0<|u<|mv j0<|u<|mv j0<|r_and (j:=1) 3 j0 j0 j0 j0 j0 gpn (fun hb29=>g j0 hb29<|mv j0<|g j0 hb29<|mv j0<|g j0 hb29<|beq ti4 j0 j0 j0<|r_nil (egA [119,120,121] 3 hb29 j0 j0 j0 j0)) andF<|u<|asg j0<|r_nil ?_
   refine sw_ret ?_
   obtain rfl:=sm h
   exact ⟨_,j0,[],ci j0,j0,j5,j0,j1⟩
end
end Go.Proofs.YtjbdfkapnffjnaaGreat
namespace Go.Proofs.YtjbdfkapnffjnaaGreat
set_option linter.unusedSimpArgs false
set_option linter.unusedVariables false
theorem wrapI {n : Int} (h1 : -9223372036854775808 ≤ n) (h2 : n ≤ 9223372036854775807) : IntKind.i64.wrap n = n := IntWalk.i64_in n ⟨h1, h2⟩
end Go.Proofs.YtjbdfkapnffjnaaGreat
namespace Go.Proofs.YtjbdfkapnffjnaaGreat
set_option linter.unusedSimpArgs false
set_option linter.unusedVariables false
def allB : Nat → (Nat → Bool) → Bool
  | 0, _ => true
  | n + 1, p => allB n p && p n
theorem allB_spec {p : Nat → Bool} : ∀ {n i : Nat}, allB n p = true → i < n → p i = true
  | 0, i, _, h => absurd h (Nat.not_lt_zero i)
  | n + 1, i, h, hi => by
    simp only [allB, Bool.and_eq_true] at h
    rcases Nat.lt_or_eq_of_le (Nat.le_of_lt_succ hi) with h1 | h1
    · exact allB_spec h.1 h1
    · rw [h1]; exact h.2
def isYes (o : Option Bool) : Bool := match o with | some true => true | _ => false
theorem isYes_eq {o : Option Bool} (h : isYes o = true) : o = some true := by
  cases o with
  | none => cases h
  | some b =>
    cases b with
    | false => cases h
    | true => rfl
end Go.Proofs.YtjbdfkapnffjnaaGreat
namespace Go.Proofs.YtjbdfkapnffjnaaGreat
set_option linter.unusedSimpArgs false
set_option linter.unusedVariables false
theorem pickI (x : Int) {k : Int} (h1 : 1 ≤ k) (h2 : k ≤ 1000) : ∃ (i : Nat) (q : Int), (i : Int) < k ∧ remP x k = some q ∧ remP (IntKind.i64.wrap (q + k)) k = some (i : Int) := by
  have hb := Int.tmod_lt_of_pos x (show (0 : Int) < k by omega)
  have hb2 : -k < x.tmod k := by
    have := Int.lt_tmod_of_pos x (show (0 : Int) < k by omega)
    omega
  have hw : IntKind.i64.wrap (x.tmod k + k) = x.tmod k + k := wrapI (by omega) (by omega)
  have h3 := Int.tmod_nonneg k (show 0 ≤ x.tmod k + k by omega)
  have h4 := Int.tmod_lt_of_pos (x.tmod k + k) (show (0 : Int) < k by omega)
  refine ⟨((x.tmod k + k).tmod k).toNat, x.tmod k, by omega, ?_, ?_⟩
  · unfold remP
    rw [if_neg (by omega)]
  · unfold remP
    rw [hw, if_neg (by omega)]
    congr 1
    omega
theorem pick_self {i : Nat} {k : Int} (hi : (i : Int) < k) (h2 : k ≤ 1000) : remP (i : Int) k = some (i : Int) ∧ remP (IntKind.i64.wrap ((i : Int) + k)) k = some (i : Int) := by
  have hw : IntKind.i64.wrap ((i : Int) + k) = (i : Int) + k := wrapI (by omega) (by omega)
  have h1 : (i : Int).tmod k = (i : Int) := Int.tmod_eq_of_lt (by omega) hi
  have h3 : ((i : Int) + k).tmod k = (i : Int) := by
    rw [Int.tmod_eq_emod_of_nonneg (by omega), Int.add_emod_right, Int.emod_eq_of_lt (by omega) hi]
  constructor
  · unfold remP; rw [if_neg (by omega), h1]
  · unfold remP; rw [hw, if_neg (by omega), h3]
theorem vr_red (a b c : Int) : ∃ i j k : Nat, i < 8 ∧ j < 8 ∧ k < 3 ∧ law10_VerifyReturn a b c = law10_VerifyReturn i j k := by
  obtain ⟨i, q, hi, h1, h2⟩ := pickI a (k := 8) (by omega) (by omega)
  obtain ⟨j, q', hj, h3, h4⟩ := pickI b (k := 8) (by omega) (by omega)
  obtain ⟨k, q'', hk, h5, h6⟩ := pickI c (k := 3) (by omega) (by omega)
  have g1 := pick_self hi (by omega)
  have g2 := pick_self hj (by omega)
  have g3 := pick_self hk (by omega)
  refine ⟨i, j, k, by omega, by omega, by omega, ?_⟩
  have s1 : law10_small a = law10_small (i : Int) := by
    unfold law10_small
    rw [h1, g1.1]
    simp only [Option.bind_some]
    rw [h2, g1.2]
  have s2 : law10_small b = law10_small (j : Int) := by
    unfold law10_small
    rw [h3, g2.1]
    simp only [Option.bind_some]
    rw [h4, g2.2]
  unfold law10_VerifyReturn
  rw [s1, s2, h5, g3.1]
  simp only [Option.bind_some]
  rw [h6, g3.2]
noncomputable def vrB (i : Nat) : Bool := allB 8 fun j => allB 3 fun k => isYes (law10_VerifyReturn (i : Int) (j : Int) (k : Int))
theorem vr0 : vrB 0 = true := by kernel_rfl
theorem vr1 : vrB 1 = true := by kernel_rfl
theorem vr2 : vrB 2 = true := by kernel_rfl
theorem vr3 : vrB 3 = true := by kernel_rfl
theorem vr4 : vrB 4 = true := by kernel_rfl
theorem vr5 : vrB 5 = true := by kernel_rfl
theorem vr6 : vrB 6 = true := by kernel_rfl
theorem vr7 : vrB 7 = true := by kernel_rfl
theorem vr_all {i : Nat} (h : i < 8) : vrB i = true := by
  match i, h with
  | 0, _ => exact vr0
  | 1, _ => exact vr1
  | 2, _ => exact vr2
  | 3, _ => exact vr3
  | 4, _ => exact vr4
  | 5, _ => exact vr5
  | 6, _ => exact vr6
  | 7, _ => exact vr7
theorem law10_VerifyReturn_eq (a b c : Int) : law10_VerifyReturn a b c = some true := by
  obtain ⟨i, j, k, hi, hj, hk, e⟩ := vr_red a b c
  rw [e]
  exact isYes_eq (allB_spec (allB_spec (vr_all hi) hj) hk)
theorem verifyReturn_pure (a b c : Int) (_ : wI .i64 a) (_ : wI .i64 b) (_ : wI .i64 c) : PureC Tryz.prog 11 [iA a, iA b, iA c] (bA true) := law10_VerifyReturn_ok a b c (law10_VerifyReturn_eq a b c)
end Go.Proofs.YtjbdfkapnffjnaaGreat
