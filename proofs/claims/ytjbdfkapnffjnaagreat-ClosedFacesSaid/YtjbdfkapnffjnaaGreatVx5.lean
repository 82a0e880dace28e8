/- What the proofs of this seat's laws rest on: how the program's functions compute, each for every input. No further condition. Part 5 of 7. -/
import Derived.Test.YtjbdfkapnffjnaaGreatVx4
namespace Go.Proofs.YtjbdfkapnffjnaaGreat
noncomputable section
set_option linter.unusedSimpArgs false
set_option linter.unusedVariables false
set_option maxRecDepth 100000
set_option maxHeartbeats 4000000
def verify_Method_k10 (v55 : List (List UInt8)) (v56 : List (List UInt8)) (v57 : Bool) : Option (Bool) :=
  some (!v57)
def verify_Method_j8 (v8 : ApiMethod) (v48 : Int) (v49 : ApiIns) (v52 : (List (List UInt8)) × (List (List UInt8)) × Bool) (v54 : Bool) : Option (Sum ((List (List UInt8)) × (List (List UInt8)) × Bool × Bool × Int) (Sum ((List (List UInt8)) × (List (List UInt8)) × Bool) (Bool))) :=
  some (.inl (v52.1,v52.2.1,(v54 || (!(decide (((List.length v52.2.1) : Int) ≤ v8.Stack)))),(!(op_Ends v49.Op)),(IntKind.i64.wrap (v48 + 1))))
def verify_Method_l9 (v2 : List UInt8) (v4 : HierHier) (v8 : ApiMethod) (v44 : List (List UInt8)) (v45 : List (List UInt8)) (v46 : Bool) (v47 : Bool) (v48 : Int) : Option (Sum ((List (List UInt8)) × (List (List UInt8)) × Bool × Bool × Int) (Sum ((List (List UInt8)) × (List (List UInt8)) × Bool) (Bool))) :=
  cond (decide (v48 < (List.length v8.Code : Int))) ((idx v8.Code v48).bind fun v49=>(verify_checker_enter v4.l v4.at_ v2 v8 v44 v45 v46 v48 v47).bind fun v50=>cond v50.2.2 (some (.inr (.inr false))) ((verify_checker_traps v4.l v4.at_ v2 v8 v50.1 v50.2.1 v50.2.2 v48).bind fun v51=>(verify_checker_one v4.l v4.at_ v2 v8 v50.1 v50.2.1 v51 v49).bind fun v52=>cond (op_Jumps v49.Op) ((verify_checker_goes v4.l v4.at_ v2 v8 v52.1 v52.2.1 v52.2.2 v49.A).bind fun v53=>verify_Method_j8 v8 v48 v49 v52 v53) (verify_Method_j8 v8 v48 v49 v52 v52.2.2))) (some (.inr (.inl (v44,v45,v46))))
def verify_Method_k6 (v2 : List UInt8) (v4 : HierHier) (v8 : ApiMethod) (v23 : Bool) (v24 : Bool) (v32 : List (List UInt8)) : Option (Bool) :=
  (loopP (fun z=>verify_Method_l9 v2 v4 v8 z.1 z.2.1 z.2.2.1 z.2.2.2.1 z.2.2.2.2) (v32,[],(v23 || (!v24)),true,0)).bind fun o=>leave o (fun b=>verify_Method_k10 b.1 b.2.1 b.2.2) some
def verify_Method_l5 (v8 : ApiMethod) (v30 : List (List UInt8)) : Option (Sum ((List (List UInt8))) (Sum ((List (List UInt8))) (Bool))) :=
  cond (decide (((List.length v30) : Int) < v8.Locals)) ((appP 16 v30 ([[84]])).bind fun v31=>some (.inl v31)) (some (.inr (.inl v30)))
def verify_Method_j4 (v2 : List UInt8) (v4 : HierHier) (v8 : ApiMethod) (v23 : Bool) (v24 : Bool) (v26 : List (List UInt8)) : Option (Bool) :=
  (appP 16 v26 v8.Params).bind fun v27=>(loopP (fun z=>verify_Method_l5 v8 z) v27).bind fun o=>leave o (fun b=>verify_Method_k6 v2 v4 v8 v23 v24 b) some
def verify_Method_j3 (v2 : List UInt8) (v4 : HierHier) (v8 : ApiMethod) (v23 : Bool) : Option (Bool) :=
  (verify_all_s2 v8.Params v4.l v4.at_).bind fun v24=>cond (!v8.Static) ((appP 16 ([] : List (List UInt8)) [v2]).bind fun v25=>verify_Method_j4 v2 v4 v8 v23 v24 v25) (verify_Method_j4 v2 v4 v8 v23 v24 [])
def verify_Method_k2 (v2 : List UInt8) (v4 : HierHier) (v8 : ApiMethod) (v21 : Bool) : Option (Bool) :=
  cond (v8.Ret == [86]) (verify_Method_j3 v2 v4 v8 (v21 || (!true))) ((hier_Hier_Sub_s3 v4.l v4.at_ v8.Ret v8.Ret).bind fun v22=>verify_Method_j3 v2 v4 v8 (v21 || (!v22)))
def verify_Method_l1 (v4 : HierHier) (v8 : ApiMethod) (v15 : Bool) (v16 : Int) : Option (Sum (Bool × Int) (Sum (Bool) (Bool))) :=
  cond (decide (v16 < (List.length v8.Maps : Int))) ((idx v8.Maps v16).bind fun v17=>(verify_all v17.Locals v4.l v4.at_).bind fun v18=>(cond v18 ((verify_all v17.Stack v4.l v4.at_).bind fun v19=>some v19) (some false)).bind fun v20=>some (.inl ((v15 || (!v20)),(IntKind.i64.wrap (v16 + 1))))) (some (.inr (.inl v15)))
def verify_Method (v1 : Option HierHier) (v2 : List UInt8) (v3 : Int) : Option (Bool) :=
  optE v1 (none) (fun v4=>(hier_Hier_Class_s3 v4.l v4.at_ v2).bind fun v5=>(cond (((!v5.2) || (decide (v3 < 0))) || (decide ((List.length v5.1.Methods : Int) ≤ v3))) (some true) ((idx v5.1.Methods v3).bind fun v6=>some v6.Abstract)).bind fun v7=>cond v7 (some false) ((idx v5.1.Methods v3).bind fun v8=>(loopP (fun z=>verify_Method_l1 v4 v8 z.1 z.2) (false,0)).bind fun o=>leave o (fun b=>verify_Method_k2 v2 v4 v8 b) some))
theorem verify_Method_ok (v1 : Option HierHier) (v2 : List UInt8) (v3 : Int) {r : Bool} (h : verify_Method v1 v2 v3 = some r) : PureC Tryz.prog 40 [optP 2 rHierHier v1,sA v2,iA v3] (bA r):=by
 refine pure_fn Tryz.func40 j0 (by kernel_rfl) j0 j0 ?_
 unfold verify_Method at h
 rcases v1 with _ | v4
 ·
  replace h:=oeN h
  cases h
 ·
  replace h:=oeS h
  refine rg j0<|u<|bx 0 1 j0 j0 j0 j0<|u<|asg j0<|r_nil ?_
  obtain ⟨v5,q1,h⟩:=bs h
  refine rg j0<|u<|ld ti32 j0 j0<|u<|mv j0<|u<|pc (hier_Hier_Class_s3_ok v4.l v4.at_ v2 q1) j0 j0 j0<|u<|mv j0<|u<|ex j0 j0<|u<|ex j0 j0<|u<|al 1 ti29 j0<|u<|sto ti29 j0 j0 j0<|u<|asg j0<|r_nil ?_
  refine sw_seq ?_
  obtain ⟨v7,q6,h⟩:=bs h
  refine rg j0<|u<|mv j0<|u<|nt j0<|u<|mv j0<|r_or (j:=2) 2 j0 j0 j0 j0 j0 gpn (fun hb2=>g j0 hb2<|mv j0<|g j0 hb2<|lss ti3 j0 j0<|r_nil (egO [25,26] 2 hb2 j0 j0 j0 j0)) orT<|u<|mv j0<|r_or (j:=6) 5 j0 j0 j0 j0 j0 gpn (fun hb3=>g j0 hb3<|mv j0<|g j0 hb3<|fa ti29 j0 j0 j0<|g j0 hb3<|ld ti27 j0 j0<|g j0 hb3<|lnI ti27 j0 j0<|g j0 hb3<|geq ti3 j0 j0<|r_nil (egO [29,30,31,32,33] 5 hb3 j0 j0 j0 j0)) orT<|u<|mv j0<|r_or (x:=v7) (j:=13) 6 j0 j0 j0 j0 j0 gpn (fun hb4=>by replace q6:=bF hb4 q6; obtain ⟨v6,q5,q6⟩:=bs q6; obtain rfl:=sm q6; exact g j0 hb4<|fa ti29 j0 j0 j0<|g j0 hb4<|ld ti27 j0 j0<|g j0 hb4<|mv j0<|g j0 hb4<|ixI ti27 j0 ti76 j0 j0 j0 q5<|g j0 hb4<|fa ti76 j0 j0 j0<|g j0 hb4<|ldI ti4 j0 (idx_some q5).2.2 j0<|r_nil (eg [36,37,38,39,40,41] 6 j0 j0 j0 j0)) (fun hb=>(sm (bT hb q6)).symm)<|r_nil ?_
  refine sw_cond j0 (fun hc7=>?_) (fun hc7=>?_)
  ·
   replace h:=bT hc7 h
   refine rg j0<|u<|asg j0<|r_nil ?_
   refine sw_ret ?_
   obtain rfl:=sm h
   exact ⟨_,j0,[],ci j0,j0,j5,j0,j1⟩
  ·
   replace h:=bF hc7 h
   refine sw_skip ?_
   obtain ⟨v8,q8,h⟩:=bs h
   refine rd [(1,sA v2),(3,.mpt 0 0 0),(9,.mpt 1 0 0)] [some (1,[[.ipt 2 [[.isl 6 (List.map rApiClass v4.l),.imp (List.map (rKV (fun x=>iA x)) v4.at_)]] 0 0]]),some (15,[(vK v4.l v4.at_ v2 v8 (.lit (.slice none 0 0)) (.lit (.slice none 0 0)) (bA false))])] [8] [7,6,5,4,3,2,1,0] [(50,.agg [.ipt 2 [[.isl 6 (List.map rApiClass v4.l),.imp (List.map (rKV (fun x=>iA x)) v4.at_)]] 0 0,sA v2,sA v8.Name,.isl 1 (List.map rStr v8.Params),sA v8.Ret,bA v8.Static,bA v8.Abstract,iA v8.Locals,iA v8.Stack,.isl 4 (List.map rApiIns v8.Code),.isl 3 (List.map rApiMap v8.Maps),.isl 4 (List.map rApiTrap v8.Traps),.lit (.slice none 0 0),.lit (.slice none 0 0),bA false]),(49,.agg (rApiMethod v8)),(48,.ipt 10 (List.map rApiMethod v5.1.Methods) (Int.toNat v3) 0),(47,iA v3),(46,.isl 10 (List.map rApiMethod v5.1.Methods)),(45,.mpt 1 0 5),(44,sA v2),(43,.ipt 2 [[.isl 6 (List.map rApiClass v4.l),.imp (List.map (rKV (fun x=>iA x)) v4.at_)]] 0 0)] 1 (by kernel_rfl) (by kernel_rfl) j0 (by kernel_rfl) (dtS ⟨(fun _=>pa j0 j0 j0 j0 (bd ti131 j0 j0 j0<|j4)),(fun _=>pa j0 j0 j0 j0 (ldI ti76 j0 (idx_some q8).2.2 j0<|j4)),(fun _=>pa j0 j0 j0 j0 (ixI ti27 j0 ti76 j0 j0 j0 q8<|j4)),(fun _=>pa j0 j0 j0 j0 (mv j0<|j4)),(fun _=>pa j0 j0 j0 j0 (ld ti27 j0 j0<|j4)),(fun _=>pa j0 j0 j0 j0 (fa ti29 j0 j0 j0<|j4)),(fun _=>pa j0 j0 j0 j0 (mv j0<|j4)),(fun _=>pa j0 j0 j0 j0 (ld ti32 j0 j0<|j4)),j5⟩ (by kernel_rfl) j0 ⟨(fun _ _=>⟨_,j0,j0,bx 2 15 j0 j0 j0 j0<|⟨(.mpt 2 0 0),[9],[(9,.mpt 2 0 0),(51,.mpt 2 0 0)],j0,j0,by kernel_rfl,j0,dt0 ⟨(fun _=>pa j0 j0 j0 j0 (asg j0<|j4)),(fun h=>by cases h),(fun _=>pa j0 j0 j0 j0 (ldI ti76 j0 (idx_some q8).2.2 j0<|j4)),(fun _=>pa j0 j0 j0 j0 (ixI ti27 j0 ti76 j0 j0 j0 q8<|j4)),(fun _=>pa j0 j0 j0 j0 (mv j0<|j4)),(fun _=>pa j0 j0 j0 j0 (ld ti27 j0 j0<|j4)),(fun _=>pa j0 j0 j0 j0 (fa ti29 j0 j0 j0<|j4)),(fun _=>pa j0 j0 j0 j0 (mv j0<|j4)),(fun _=>pa j0 j0 j0 j0 (ld ti32 j0 j0<|j4)),j5⟩ (by kernel_rfl) j0 ⟨[.old 0,.old 2],ce j0 j0<|cv j0 (.mpt j0)<|cv j0 (.mpt j0)<|cn,j0,⟨⟨_,j0,rsOne ⟨ci j0,j5⟩⟩,⟨_,j0,rsOne (ciL j0)⟩,j5⟩,j0,j1⟩⟩⟩),j5⟩) ?_
   refine sw_seq ?_
   refine rg j0<|u<|mv j0<|u<|nc j0 j0<|u<|fa ti131 j0 j0 j0<|u<|fa ti76 j0 j0 j0<|u<|ld ti73 j0 j0<|u<|lnI ti73 j0 j0<|u<|mv j0<|r_nil ?_
   obtain ⟨o,ho,h⟩:=bs h
   refine sw_lpl (X:=Bool × Int) (B:=Bool) (R:=Bool) (fun z=>[(1,sA v2),(3,.mpt 0 0 0),(9,.mpt 1 0 0),(56,.isl 3 (List.map rApiMap v8.Maps)),(57,iA (List.length v8.Maps : Int)),(58,iA z.2)]) (fun z=>[some (1,[[.ipt 2 [[.isl 6 (List.map rApiClass v4.l),.imp (List.map (rKV (fun x=>iA x)) v4.at_)]] 0 0]]),some (15,[(vK v4.l v4.at_ v2 v8 (.msl 2 0 0) (.msl 3 0 0) (bA z.1))]),some (1,List.map rStr []),some (1,List.map rStr [])]) (fun b=>[(1,sA v2),(3,.mpt 0 0 0),(9,.mpt 1 0 0)]) (fun b=>[some (1,[[.ipt 2 [[.isl 6 (List.map rApiClass v4.l),.imp (List.map (rKV (fun x=>iA x)) v4.at_)]] 0 0]]),some (15,[(vK v4.l v4.at_ v2 v8 (.msl 2 0 0) (.msl 3 0 0) (bA b))]),some (1,List.map rStr []),some (1,List.map rStr [])]) (fun r env st=>PostF Tryz.prog Tryz.f40 0 (bA r) [] env st) ho ⟨[.old 0,.old 1,.fresh 1,.fresh 1],ce j0 j0<|cv j0 (.mpt j0)<|cv j0 (.mpt j0)<|ce j0 j0<|ce j0 j0<|ce j0 j0<|cn,j0,⟨⟨_,j0,rsOne ⟨ci j0,j5⟩⟩,⟨_,j0,rsOne (cc12 j0 (by exact ⟨.nilown j0,.nilown j0,ci j0,j5⟩))⟩,j4,j4,j5⟩,j0,j1⟩ ?_ ?_ ?_
   ·
    rintro ⟨v15,v16⟩ r h
    replace h : verify_Method_l1 v4 v8 v15 v16 = some r:=h
    unfold verify_Method_l1 at h
    refine rg j0<|u<|lss ti3 j0 j0<|r_nil ?_
    refine sw_seq ?_
    refine sw_cond j0 (fun hc15=>?_) (fun hc15=>?_)
    ·
     replace h:=bT hc15 h
     refine sw_skip ?_
     refine sw_seq ?_
     refine sw_block ?_
     obtain ⟨v17,q16,h⟩:=bs h
     refine rg j0<|u<|ixI ti73 j0 ti78 j0 j0 j0 q16<|u<|ldI ti78 j0 (idx_some q16).2.2 j0<|u<|al 4 ti78 j0<|u<|sto ti78 j0 j0 j0<|r_nil ?_
     refine rg j0<|u<|mf j0 j0<|u<|asg j0<|r_nil ?_
     obtain ⟨v18,q17,h⟩:=bs h
     obtain ⟨v20,q20,h⟩:=bs h
     refine rl j0<|u<|mv j0<|u<|fa ti78 j0 j0 j0<|u<|ld ti25 j0 j0<|u<|mv j0<|u<|pcs (verify_all_ok v17.Locals v4.l v4.at_ q17) j0 j0 (.cons (si j0) (.cons (sealFn j5 ⟨(sealBox j0 ⟨(si j0),j5⟩),j5⟩) .nil)) plainB<|u<|mv j0<|r_and (x:=v20) (j:=5) 4 j0 j0 j0 j0 j0 gpn (fun hb18=>by replace q20:=bT hb18 q20; obtain ⟨v19,q19,q20⟩:=bs q20; obtain rfl:=sm q20; exact g j0 hb18<|fa ti78 j0 j0 j0<|g j0 hb18<|ld ti25 j0 j0<|g j0 hb18<|mv j0<|g j0 hb18<|pcs (verify_all_ok v17.Stack v4.l v4.at_ q19) j0 j0 (.cons (si j0) (.cons (sealFn j5 ⟨(sealBox j0 ⟨(si j0),j5⟩),j5⟩) .nil)) plainB<|r_nil (eg [69,70,71,72] 4 j0 j0 j0 j0)) (fun hb=>(sm (bF hb q20)).symm)<|u<|sc [1,2,3] (verify_checker_need_ok v4.l v4.at_ v2 v8 [] [] v15 v20 j0) j0 j0 j0 j0 ⟨(.mpt j0),(rnI j0),j5⟩ ⟨⟨_,j0,(rr12 j0 ⟨(.msl j0),(.msl j0),(rnI j0),j5⟩)⟩,⟨j0,mkI (fun _=>j0)⟩,⟨j0,mkI (fun _=>j0)⟩,j5⟩<|r_can (env0:=[(1,sA v2),(3,.mpt 0 0 0),(9,.mpt 1 0 0),(56,.isl 3 (List.map rApiMap v8.Maps)),(57,iA (List.length v8.Maps : Int)),(58,iA v16)]) (st0:=[some (1,[[.ipt 2 [[.isl 6 (List.map rApiClass v4.l),.imp (List.map (rKV (fun x=>iA x)) v4.at_)]] 0 0]]),some (15,[(vK v4.l v4.at_ v2 v8 (.msl 2 0 0) (.msl 3 0 0) (bA (v15 || (!v20))))]),some (1,List.map rStr []),some (1,List.map rStr [])]) ⟨[.old 0,.old 1,.old 2,.old 3],ce j0 j0<|cv j0 (.mpt j0)<|cv j0 (.mpt j0)<|ce j0 j0<|ce j0 j0<|ce j0 j0<|cn,j0,⟨⟨_,j0,rsOne ⟨ci j0,j5⟩⟩,⟨_,j0,rsOne (cc12 j0 (by exact ⟨.msl j0,.msl j0,ci j0,j5⟩))⟩,⟨_,j0,rsMap (fun _=>j0)⟩,⟨_,j0,rsMap (fun _=>j0)⟩,j5⟩,j0,j1⟩<|r_nil ?_
     refine rl j0<|u<|add ti3 j0 j0<|u<|mv j0<|r_nil ?_
     obtain rfl:=sm h
     exact ⟨_,j0,[.old 0,.old 1,.old 2,.old 3],ce j0 j0<|cv j0 (.mpt j0)<|cv j0 (.mpt j0)<|ce j0 j0<|ce j0 j0<|ce j0 j0<|cn,j0,⟨⟨_,j0,rsOne ⟨ci j0,j5⟩⟩,⟨_,j0,rsOne (cc12 j0 (by exact ⟨.msl j0,.msl j0,ci j0,j5⟩))⟩,⟨_,j0,rsMap (fun _=>j0)⟩,⟨_,j0,rsMap (fun _=>j0)⟩,j5⟩,j0,j1⟩
    ·
     replace h:=bF hc15 h
     refine sw_exit ?_
     obtain rfl:=sm h
     exact ⟨j0,_,j0,[.old 0,.old 1,.old 2,.old 3],ce j0 j0<|cv j0 (.mpt j0)<|cv j0 (.mpt j0)<|cn,j0,⟨⟨_,j0,rsOne ⟨ci j0,j5⟩⟩,⟨_,j0,rsOne (cc12 j0 (by exact ⟨.msl j0,.msl j0,ci j0,j5⟩))⟩,⟨_,j0,rsMap (fun _=>j0)⟩,⟨_,j0,rsMap (fun _=>j0)⟩,j5⟩,j0,j1⟩
   ·
    rintro v21 rfl
    replace h : verify_Method_k2 v2 v4 v8 v21 = some r:=h
    unfold verify_Method_k2 at h
    refine ow_intro ?_
    refine sw_meet (X:=Bool) (fun z=>[(1,sA v2),(3,.mpt 0 0 0),(9,.mpt 1 0 0)]) (fun z=>[some (1,[[.ipt 2 [[.isl 6 (List.map rApiClass v4.l),.imp (List.map (rKV (fun x=>iA x)) v4.at_)]] 0 0]]),some (15,[(vK v4.l v4.at_ v2 v8 (.msl 2 0 0) (.msl 3 0 0) (bA z))]),some (1,List.map rStr []),some (1,List.map rStr [])]) (fun z=>verify_Method_j3 v2 v4 v8 z = some r) ?_ ?_
    ·
     rcases bb (v8.Ret == [86]) with hb21 | hb21
     ·
      replace h:=bT hb21 h
      exact sw_region_dt [21] [20,19,18,17,16,15,14,13,12,11,10,9,8,7,6,5,4,3,2,1,0] [(96,bA true),(95,.lit undef),(94,.lit undef),(93,.lit undef),(92,.lit undef),(91,.lit undef),(90,.lit undef),(89,.lit undef),(88,.lit undef),(87,.lit undef),(86,.lit undef),(85,.lit undef),(84,.lit undef),(83,bA (v8.Ret == [86])),(82,bA (v8.Ret == [86])),(81,sA v8.Ret),(80,.mpt 1 0 4),(79,.mpt 1 0 2),(78,.mpt 1 0 0),(77,.mpt 1 0 0),(76,.mpt 1 0 0)] 1 (by kernel_rfl) (by kernel_rfl) j0 (by kernel_rfl) (dtS ⟨(fun _=>pa j0 j0 j0 j0 (pkb j0 hb21 j0<|j4)),(fun _=>pas (b:=(v8.Ret == [86])) j0 j0 j0 j0 hb21 j0),(fun _=>pas (b:=(v8.Ret == [86])) j0 j0 j0 j0 hb21 j0),(fun _=>pas (b:=(v8.Ret == [86])) j0 j0 j0 j0 hb21 j0),(fun _=>pas (b:=(v8.Ret == [86])) j0 j0 j0 j0 hb21 j0),(fun _=>pas (b:=(v8.Ret == [86])) j0 j0 j0 j0 hb21 j0),(fun _=>pas (b:=(v8.Ret == [86])) j0 j0 j0 j0 hb21 j0),(fun _=>pas (b:=(v8.Ret == [86])) j0 j0 j0 j0 hb21 j0),(fun _=>pas (b:=(v8.Ret == [86])) j0 j0 j0 j0 hb21 j0),(fun _=>pas (b:=(v8.Ret == [86])) j0 j0 j0 j0 hb21 j0),(fun _=>pas (b:=(v8.Ret == [86])) j0 j0 j0 j0 hb21 j0),(fun _=>pas (b:=(v8.Ret == [86])) j0 j0 j0 j0 hb21 j0),(fun _=>pas (b:=(v8.Ret == [86])) j0 j0 j0 j0 hb21 j0),(fun _=>pa j0 j0 j0 j0 (mv j0<|j4)),(fun _=>pa j0 j0 j0 j0 (seq ti9 j0 j0<|j4)),(fun _=>pa j0 j0 j0 j0 (ld ti9 j0 j0<|j4)),(fun _=>pa j0 j0 j0 j0 (fa ti76 j0 j0 j0<|j4)),(fun _=>pa j0 j0 j0 j0 (fa ti131 j0 j0 j0<|j4)),(fun _=>pa j0 j0 j0 j0 (nc j0 j0<|j4)),(fun _=>pa j0 j0 j0 j0 (mv j0<|j4)),(fun _=>pa j0 j0 j0 j0 (mv j0<|j4)),j5⟩ (by kernel_rfl) j0 ⟨(fun _ _=>⟨_,j0,j0,sc [1,2,3] (args:=[.mpt 1 0 0,bA true]) (verify_checker_need_ok v4.l v4.at_ v2 v8 [] [] v21 true j0) j0 j0 j0 j0 ⟨(.mpt j0),(rnI j0),j5⟩ ⟨⟨_,j0,(rr12 j0 ⟨(.msl j0),(.msl j0),(rnI j0),j5⟩)⟩,⟨j0,mkI (fun _=>j0)⟩,⟨j0,mkI (fun _=>j0)⟩,j5⟩<|⟨(.tup []),[],[(97,.tup [])],j0,j0,by kernel_rfl,j0,dt0 ⟨(fun h=>by cases h),(fun h=>by cases h),(fun _=>pas (b:=(v8.Ret == [86])) j0 j0 j0 j0 hb21 j0),(fun _=>pas (b:=(v8.Ret == [86])) j0 j0 j0 j0 hb21 j0),(fun _=>pas (b:=(v8.Ret == [86])) j0 j0 j0 j0 hb21 j0),(fun _=>pas (b:=(v8.Ret == [86])) j0 j0 j0 j0 hb21 j0),(fun _=>pas (b:=(v8.Ret == [86])) j0 j0 j0 j0 hb21 j0),(fun _=>pas (b:=(v8.Ret == [86])) j0 j0 j0 j0 hb21 j0),(fun _=>pas (b:=(v8.Ret == [86])) j0 j0 j0 j0 hb21 j0),(fun _=>pas (b:=(v8.Ret == [86])) j0 j0 j0 j0 hb21 j0),(fun _=>pas (b:=(v8.Ret == [86])) j0 j0 j0 j0 hb21 j0),(fun _=>pas (b:=(v8.Ret == [86])) j0 j0 j0 j0 hb21 j0),(fun _=>pas (b:=(v8.Ret == [86])) j0 j0 j0 j0 hb21 j0),(fun _=>pa j0 j0 j0 j0 (mv j0<|j4)),(fun _=>pa j0 j0 j0 j0 (seq ti9 j0 j0<|j4)),(fun _=>pa j0 j0 j0 j0 (ld ti9 j0 j0<|j4)),(fun _=>pa j0 j0 j0 j0 (fa ti76 j0 j0 j0<|j4)),(fun _=>pa j0 j0 j0 j0 (fa ti131 j0 j0 j0<|j4)),(fun _=>pa j0 j0 j0 j0 (nc j0 j0<|j4)),(fun _=>pa j0 j0 j0 j0 (mv j0<|j4)),(fun h=>by cases h),j5⟩ (by kernel_rfl) j0 ⟨(v21 || (!true)),h,[.old 0,.old 1,.old 2,.old 3],ce j0 j0<|cv j0 (.mpt j0)<|cv j0 (.mpt j0)<|cn,j0,⟨⟨_,j0,rsOne ⟨ci j0,j5⟩⟩,⟨_,j0,rsOne (cc12 j0 (by exact ⟨.msl j0,.msl j0,ci j0,j5⟩))⟩,⟨_,j0,rsMap (fun _=>j0)⟩,⟨_,j0,rsMap (fun _=>j0)⟩,j5⟩,j0,j1⟩⟩⟩),j5⟩)
     ·
      replace h:=bF hb21 h
      obtain ⟨v22,q22,h⟩:=bs h
      exact sw_region_dt [21] [20,19,18,17,16,15,14,13,12,11,10,9,8,7,6,5,4,3,2,1,0] [(96,bA v22),(95,bA v22),(94,sA v8.Ret),(93,.mpt 1 0 4),(92,.mpt 1 0 2),(91,.mpt 1 0 0),(90,.mpt 1 0 0),(89,sA v8.Ret),(88,.mpt 1 0 4),(87,.mpt 1 0 2),(86,.mpt 1 0 0),(85,.mpt 1 0 0),(84,.ipt 2 [[.isl 6 (List.map rApiClass v4.l),.imp (List.map (rKV (fun x=>iA x)) v4.at_)]] 0 0),(83,bA (v8.Ret == [86])),(82,bA (v8.Ret == [86])),(81,sA v8.Ret),(80,.mpt 1 0 4),(79,.mpt 1 0 2),(78,.mpt 1 0 0),(77,.mpt 1 0 0),(76,.mpt 1 0 0)] 1 (by kernel_rfl) (by kernel_rfl) j0 (by kernel_rfl) (dtS ⟨(fun _=>pa j0 j0 j0 j0 (pkb j0 hb21 j0<|j4)),(fun _=>pag (b:=(v8.Ret == [86])) j0 j0 j0 j0 hb21 j0 (pc (hier_Hier_Sub_s3_ok v4.l v4.at_ v8.Ret v8.Ret q22) j0 j0 j0<|j4)),(fun _=>pag (b:=(v8.Ret == [86])) j0 j0 j0 j0 hb21 j0 (ld ti9 j0 j0<|j4)),(fun _=>pag (b:=(v8.Ret == [86])) j0 j0 j0 j0 hb21 j0 (fa ti76 j0 j0 j0<|j4)),(fun _=>pag (b:=(v8.Ret == [86])) j0 j0 j0 j0 hb21 j0 (fa ti131 j0 j0 j0<|j4)),(fun _=>pag (b:=(v8.Ret == [86])) j0 j0 j0 j0 hb21 j0 (nc j0 j0<|j4)),(fun _=>pag (b:=(v8.Ret == [86])) j0 j0 j0 j0 hb21 j0 (mv j0<|j4)),(fun _=>pag (b:=(v8.Ret == [86])) j0 j0 j0 j0 hb21 j0 (ld ti9 j0 j0<|j4)),(fun _=>pag (b:=(v8.Ret == [86])) j0 j0 j0 j0 hb21 j0 (fa ti76 j0 j0 j0<|j4)),(fun _=>pag (b:=(v8.Ret == [86])) j0 j0 j0 j0 hb21 j0 (fa ti131 j0 j0 j0<|j4)),(fun _=>pag (b:=(v8.Ret == [86])) j0 j0 j0 j0 hb21 j0 (nc j0 j0<|j4)),(fun _=>pag (b:=(v8.Ret == [86])) j0 j0 j0 j0 hb21 j0 (mv j0<|j4)),(fun _=>pag (b:=(v8.Ret == [86])) j0 j0 j0 j0 hb21 j0 (ld ti32 j0 j0<|j4)),(fun _=>pa j0 j0 j0 j0 (mv j0<|j4)),(fun _=>pa j0 j0 j0 j0 (seq ti9 j0 j0<|j4)),(fun _=>pa j0 j0 j0 j0 (ld ti9 j0 j0<|j4)),(fun _=>pa j0 j0 j0 j0 (fa ti76 j0 j0 j0<|j4)),(fun _=>pa j0 j0 j0 j0 (fa ti131 j0 j0 j0<|j4)),(fun _=>pa j0 j0 j0 j0 (nc j0 j0<|j4)),(fun _=>pa j0 j0 j0 j0 (mv j0<|j4)),(fun _=>pa j0 j0 j0 j0 (mv j0<|j4)),j5⟩ (by kernel_rfl) j0 ⟨(fun _ _=>⟨_,j0,j0,sc [1,2,3] (args:=[.mpt 1 0 0,bA v22]) (verify_checker_need_ok v4.l v4.at_ v2 v8 [] [] v21 v22 j0) j0 j0 j0 j0 ⟨(.mpt j0),(rnI j0),j5⟩ ⟨⟨_,j0,(rr12 j0 ⟨(.msl j0),(.msl j0),(rnI j0),j5⟩)⟩,⟨j0,mkI (fun _=>j0)⟩,⟨j0,mkI (fun _=>j0)⟩,j5⟩<|⟨(.tup []),[],[(97,.tup [])],j0,j0,by kernel_rfl,j0,dt0 ⟨(fun h=>by cases h),(fun h=>by cases h),(fun _=>pag (b:=(v8.Ret == [86])) j0 j0 j0 j0 hb21 j0 (ld ti9 j0 j0<|j4)),(fun _=>pag (b:=(v8.Ret == [86])) j0 j0 j0 j0 hb21 j0 (fa ti76 j0 j0 j0<|j4)),(fun _=>pag (b:=(v8.Ret == [86])) j0 j0 j0 j0 hb21 j0 (fa ti131 j0 j0 j0<|j4)),(fun _=>pag (b:=(v8.Ret == [86])) j0 j0 j0 j0 hb21 j0 (nc j0 j0<|j4)),(fun _=>pag (b:=(v8.Ret == [86])) j0 j0 j0 j0 hb21 j0 (mv j0<|j4)),(fun _=>pag (b:=(v8.Ret == [86])) j0 j0 j0 j0 hb21 j0 (ld ti9 j0 j0<|j4)),(fun _=>pag (b:=(v8.Ret == [86])) j0 j0 j0 j0 hb21 j0 (fa ti76 j0 j0 j0<|j4)),(fun _=>pag (b:=(v8.Ret == [86])) j0 j0 j0 j0 hb21 j0 (fa ti131 j0 j0 j0<|j4)),(fun _=>pag (b:=(v8.Ret == [86])) j0 j0 j0 j0 hb21 j0 (nc j0 j0<|j4)),(fun _=>pag (b:=(v8.Ret == [86])) j0 j0 j0 j0 hb21 j0 (mv j0<|j4)),(fun _=>pag (b:=(v8.Ret == [86])) j0 j0 j0 j0 hb21 j0 (ld ti32 j0 j0<|j4)),(fun _=>pa j0 j0 j0 j0 (mv j0<|j4)),(fun _=>pa j0 j0 j0 j0 (seq ti9 j0 j0<|j4)),(fun _=>pa j0 j0 j0 j0 (ld ti9 j0 j0<|j4)),(fun _=>pa j0 j0 j0 j0 (fa ti76 j0 j0 j0<|j4)),(fun _=>pa j0 j0 j0 j0 (fa ti131 j0 j0 j0<|j4)),(fun _=>pa j0 j0 j0 j0 (nc j0 j0<|j4)),(fun _=>pa j0 j0 j0 j0 (mv j0<|j4)),(fun h=>by cases h),j5⟩ (by kernel_rfl) j0 ⟨(v21 || (!v22)),h,[.old 0,.old 1,.old 2,.old 3],ce j0 j0<|cv j0 (.mpt j0)<|cv j0 (.mpt j0)<|cn,j0,⟨⟨_,j0,rsOne ⟨ci j0,j5⟩⟩,⟨_,j0,rsOne (cc12 j0 (by exact ⟨.msl j0,.msl j0,ci j0,j5⟩))⟩,⟨_,j0,rsMap (fun _=>j0)⟩,⟨_,j0,rsMap (fun _=>j0)⟩,j5⟩,j0,j1⟩⟩⟩),j5⟩)
    ·
     rintro v23 h
     replace h : verify_Method_j3 v2 v4 v8 v23 = some r:=h
     unfold verify_Method_j3 at h
     obtain ⟨v24,q23,h⟩:=bs h
     refine rg j0<|u<|mv j0<|u<|mv j0<|u<|nc j0 j0<|u<|fa ti131 j0 j0 j0<|u<|fa ti76 j0 j0 j0<|u<|ld ti25 j0 j0<|u<|mf j0 j0<|u<|pcs (verify_all_s2_ok v8.Params v4.l v4.at_ q23) j0 j0 (.cons (si j0) (.cons (sealFn j5 ⟨(sealBox j0 ⟨(si j0),j5⟩),j5⟩) .nil)) plainB<|u<|sc [1,2,3] (verify_checker_need_ok v4.l v4.at_ v2 v8 [] [] v23 v24 j0) j0 j0 j0 j0 ⟨(.mpt j0),(rnI j0),j5⟩ ⟨⟨_,j0,(rr12 j0 ⟨(.msl j0),(.msl j0),(rnI j0),j5⟩)⟩,⟨j0,mkI (fun _=>j0)⟩,⟨j0,mkI (fun _=>j0)⟩,j5⟩<|r_can (env0:=[(1,sA v2),(9,.mpt 0 0 0)]) (st0:=[some (15,[(vK v4.l v4.at_ v2 v8 (.msl 1 0 0) (.msl 2 0 0) (bA (v23 || (!v24))))]),some (1,List.map rStr []),some (1,List.map rStr [])]) ⟨[.old 1,.old 2,.old 3],ce j0 j0<|cv j0 (.mpt j0)<|cn,j0,⟨⟨_,j0,rsOne (cc12 j0 (by exact ⟨.msl j0,.msl j0,ci j0,j5⟩))⟩,⟨_,j0,rsMap (fun _=>j0)⟩,⟨_,j0,rsMap (fun _=>j0)⟩,j5⟩,j0,j1⟩<|r_nil ?_
     refine sw_meet (X:=(List (List UInt8))) (fun z=>[(9,.mpt 0 0 0)]) (fun z=>[some (15,[(vK v4.l v4.at_ v2 v8 (.msl 1 0 (List.length z)) (.msl 2 0 0) (bA (v23 || (!v24))))]),some (1,List.map rStr z),some (1,List.map rStr [])]) (fun z=>verify_Method_j4 v2 v4 v8 v23 v24 z = some r) ?_ ?_
     ·
      refine rg j0<|u<|mv j0<|u<|nc j0 j0<|u<|fa ti131 j0 j0 j0<|u<|fa ti76 j0 j0 j0<|u<|ld ti4 j0 j0<|u<|nt j0<|r_nil ?_
      refine sw_cond j0 (fun hc24=>?_) (fun hc24=>?_)
      ·
       replace h:=bT hc24 h
       obtain ⟨v25,q25,h⟩:=bs h
       exact rl j0<|u<|mv j0<|u<|mv j0<|u<|nc j0 j0<|u<|fa ti131 j0 j0 j0<|u<|ld ti25 j0 j0<|u<|mv j0<|u<|bl 3 ti25 j0 ti9 j0 (by decide) (by decide) j0 j0 j0<|u<|apM 4 ti25 j0 ti9 j0 j0 (by decide) ti25 j0 j0 j0 j0 (roX (f:=rStr) (z:=[v2]) j0 j0) (fun _=>j0) j0 q25<|u<|nc j0 j0<|u<|fa ti131 j0 j0 j0<|u<|sto ti25 j0 j0 j0<|r_nil (⟨v25,h,[.old 0,.old 4,.old 2],cv j0 (.mpt j0)<|cn,j0,⟨⟨_,j0,rsOne (cc12 j0 (by exact ⟨.msl j0,.msl j0,ci j0,j5⟩))⟩,⟨_,j0,rsMap (fun _=>j0)⟩,⟨_,j0,rsMap (fun _=>j0)⟩,j5⟩,j0,j1⟩)
      ·
       replace h:=bF hc24 h
       refine sw_skip ?_
       exact ⟨[],h,[.old 0,.old 1,.old 2],cv j0 (.mpt j0)<|cn,j0,⟨⟨_,j0,rsOne (cc12 j0 (by exact ⟨.msl j0,.msl j0,ci j0,j5⟩))⟩,⟨_,j0,rsMap (fun _=>j0)⟩,⟨_,j0,rsMap (fun _=>j0)⟩,j5⟩,j0,j1⟩
     ·
      rintro v26 h
      replace h : verify_Method_j4 v2 v4 v8 v23 v24 v26 = some r:=h
      unfold verify_Method_j4 at h
      obtain ⟨v27,q26,h⟩:=bs h
      refine rd [(9,.mpt 0 0 0)] [some (15,[(vK v4.l v4.at_ v2 v8 (.msl 1 0 (List.length v27)) (.msl 2 0 0) (bA (v23 || (!v24))))]),some (1,List.map rStr v27),some (1,List.map rStr [])] [10,13] [9,8,7,6,5,4,3,2,1,0] [(132,.isl 1 (List.map rStr v8.Params)),(131,.mpt 0 0 3),(130,.mpt 0 0 2),(129,.mpt 0 0 0),(128,.mpt 0 0 0),(127,.msl 1 0 (List.length v26)),(126,.mpt 0 0 12),(125,.mpt 0 0 0),(124,.mpt 0 0 0),(123,.mpt 0 0 0)] 2 (by kernel_rfl) (by kernel_rfl) j0 (by kernel_rfl) (dtS ⟨(fun _=>pa j0 j0 j0 j0 (ld ti25 j0 j0<|j4)),(fun _=>pa j0 j0 j0 j0 (fa ti76 j0 j0 j0<|j4)),(fun _=>pa j0 j0 j0 j0 (fa ti131 j0 j0 j0<|j4)),(fun _=>pa j0 j0 j0 j0 (nc j0 j0<|j4)),(fun _=>pa j0 j0 j0 j0 (mv j0<|j4)),(fun _=>pa j0 j0 j0 j0 (ld ti25 j0 j0<|j4)),(fun _=>pa j0 j0 j0 j0 (fa ti131 j0 j0 j0<|j4)),(fun _=>pa j0 j0 j0 j0 (nc j0 j0<|j4)),(fun _=>pa j0 j0 j0 j0 (mv j0<|j4)),(fun _=>pa j0 j0 j0 j0 (mv j0<|j4)),j5⟩ (by kernel_rfl) j0 ⟨(fun _ _=>⟨_,j0,j0,apM 3 ti25 j0 ti9 j0 j0 (by decide) ti25 j0 j0 j0 j0 roI (fun _=>j0) j0 q26<|⟨(.msl 3 0 (List.length v27)),[12,11],[(135,.mpt 0 0 12),(134,.mpt 0 0 0),(133,.msl 3 0 (List.length v27))],j0,j0,by kernel_rfl,j0,dtS ⟨(fun _=>pa j0 j0 j0 j0 (fa ti131 j0 j0 j0<|j4)),(fun _=>pa j0 j0 j0 j0 (nc j0 j0<|j4)),(fun h=>by cases h),(fun _=>pa j0 j0 j0 j0 (fa ti76 j0 j0 j0<|j4)),(fun _=>pa j0 j0 j0 j0 (fa ti131 j0 j0 j0<|j4)),(fun _=>pa j0 j0 j0 j0 (nc j0 j0<|j4)),(fun _=>pa j0 j0 j0 j0 (mv j0<|j4)),(fun h=>by cases h),(fun _=>pa j0 j0 j0 j0 (fa ti131 j0 j0 j0<|j4)),(fun _=>pa j0 j0 j0 j0 (nc j0 j0<|j4)),(fun _=>pa j0 j0 j0 j0 (mv j0<|j4)),(fun _=>pa j0 j0 j0 j0 (mv j0<|j4)),j5⟩ (by kernel_rfl) j0 ⟨(fun h=>by cases h),(fun _ _=>⟨_,j0,j0,sto ti25 j0 j0 j0<|⟨.any,[],[],j0,j0,by kernel_rfl,j5,dt0 ⟨(fun h=>by cases h),(fun _=>pa j0 j0 j0 j0 (nc j0 j0<|j4)),(fun h=>by cases h),(fun h=>by cases h),(fun h=>by cases h),(fun h=>by cases h),(fun h=>by cases h),(fun h=>by cases h),(fun h=>by cases h),(fun h=>by cases h),(fun h=>by cases h),(fun h=>by cases h),j5⟩ (by kernel_rfl) j0 ⟨[.old 0,.old 3,.old 2],cv j0 (.mpt j0)<|cn,j0,⟨⟨_,j0,rsOne (cc12 j0 (by exact ⟨.msl j0,.msl j0,ci j0,j5⟩))⟩,⟨_,j0,rsMap (fun _=>j0)⟩,⟨_,j0,rsMap (fun _=>j0)⟩,j5⟩,j0,j1⟩⟩⟩),j5⟩⟩⟩),(fun _ h=>by cases h),j5⟩) ?_
      obtain ⟨o,ho,h⟩:=bs h
      refine sw_lp (X:=(List (List UInt8))) (B:=(List (List UInt8))) (R:=Bool) (fun z=>[(9,.mpt 0 0 0)]) (fun z=>[some (15,[(vK v4.l v4.at_ v2 v8 (.msl 1 0 (List.length z)) (.msl 2 0 0) (bA (v23 || (!v24))))]),some (1,List.map rStr z),some (1,List.map rStr [])]) (fun b=>[(9,.mpt 0 0 0)]) (fun b=>[some (15,[(vK v4.l v4.at_ v2 v8 (.msl 1 0 (List.length b)) (.msl 2 0 0) (bA (v23 || (!v24))))]),some (1,List.map rStr b),some (1,List.map rStr [])]) (fun r env st=>PostF Tryz.prog Tryz.f40 0 (bA r) [] env st) ho ⟨[.old 0,.old 1,.old 2],cv j0 (.mpt j0)<|cn,j0,⟨⟨_,j0,rsOne (cc12 j0 (by exact ⟨.msl j0,.msl j0,ci j0,j5⟩))⟩,⟨_,j0,rsMap (fun _=>j0)⟩,⟨_,j0,rsMap (fun _=>j0)⟩,j5⟩,j0,j1⟩ ?_ ?_ ?_
      ·
       rintro v30 r h
       replace h : verify_Method_l5 v8 v30 = some r:=h
       unfold verify_Method_l5 at h
       refine sw_seq ?_
       refine rd [(9,.mpt 0 0 0),(146,bA (decide (((List.length v30) : Int) < v8.Locals)))] [some (15,[(vK v4.l v4.at_ v2 v8 (.msl 1 0 (List.length v30)) (.msl 2 0 0) (bA (v23 || (!v24))))]),some (1,List.map rStr v30),some (1,List.map rStr [])] [] [10,9,8,7,6,5,4,3,2,1,0] [(146,bA (decide (((List.length v30) : Int) < v8.Locals))),(145,iA v8.Locals),(144,.mpt 0 0 7),(143,.mpt 0 0 2),(142,.mpt 0 0 0),(141,.mpt 0 0 0),(140,iA ((List.length v30) : Int)),(139,.msl 1 0 (List.length v30)),(138,.mpt 0 0 12),(137,.mpt 0 0 0),(136,.mpt 0 0 0)] 0 (by kernel_rfl) (by kernel_rfl) j0 (by kernel_rfl) (dt0 ⟨(fun _=>pa j0 j0 j0 j0 (lss ti3 j0 j0<|j4)),(fun _=>pa j0 j0 j0 j0 (ld ti3 j0 j0<|j4)),(fun _=>pa j0 j0 j0 j0 (fa ti76 j0 j0 j0<|j4)),(fun _=>pa j0 j0 j0 j0 (fa ti131 j0 j0 j0<|j4)),(fun _=>pa j0 j0 j0 j0 (nc j0 j0<|j4)),(fun _=>pa j0 j0 j0 j0 (mv j0<|j4)),(fun _=>pa j0 j0 j0 j0 (lnM ti25 j0 j0 j0<|j4)),(fun _=>pa j0 j0 j0 j0 (ld ti25 j0 j0<|j4)),(fun _=>pa j0 j0 j0 j0 (fa ti131 j0 j0 j0<|j4)),(fun _=>pa j0 j0 j0 j0 (nc j0 j0<|j4)),(fun _=>pa j0 j0 j0 j0 (mv j0<|j4)),j5⟩ (by kernel_rfl) j0 ⟨[.old 0,.old 1,.old 2],cv j0 (.mpt j0)<|ce j0 j0<|cn,j0,⟨⟨_,j0,rsOne (cc12 j0 (by exact ⟨.msl j0,.msl j0,ci j0,j5⟩))⟩,⟨_,j0,rsMap (fun _=>j0)⟩,⟨_,j0,rsMap (fun _=>j0)⟩,j5⟩,j0,j1⟩) ?_
       refine sw_cond j0 (fun hc29=>?_) (fun hc29=>?_)
       ·
        replace h:=bT hc29 h
        refine sw_skip ?_
        refine sw_block ?_
        obtain ⟨v31,q30,h⟩:=bs h
        refine rl j0<|u<|mv j0<|u<|mv j0<|u<|nc j0 j0<|u<|fa ti131 j0 j0 j0<|u<|ld ti25 j0 j0<|u<|bl 3 ti25 j0 ti9 j0 (by decide) (by decide) j0 j0 j0<|u<|apM 4 ti25 j0 ti9 j0 j0 (by decide) ti25 j0 j0 j0 j0 (roX (f:=rStr) (z:=[[84]]) j0 j0) (fun _=>j0) j0 q30<|u<|nc j0 j0<|u<|fa ti131 j0 j0 j0<|u<|sto ti25 j0 j0 j0<|r_nil ?_
        obtain rfl:=sm h
        exact ⟨_,j0,[.old 0,.old 4,.old 2],cv j0 (.mpt j0)<|cn,j0,⟨⟨_,j0,rsOne (cc12 j0 (by exact ⟨.msl j0,.msl j0,ci j0,j5⟩))⟩,⟨_,j0,rsMap (fun _=>j0)⟩,⟨_,j0,rsMap (fun _=>j0)⟩,j5⟩,j0,j1⟩
       ·
        replace h:=bF hc29 h
        refine sw_exit ?_
        obtain rfl:=sm h
        exact ⟨j0,_,j0,[.old 0,.old 1,.old 2],cv j0 (.mpt j0)<|cn,j0,⟨⟨_,j0,rsOne (cc12 j0 (by exact ⟨.msl j0,.msl j0,ci j0,j5⟩))⟩,⟨_,j0,rsMap (fun _=>j0)⟩,⟨_,j0,rsMap (fun _=>j0)⟩,j5⟩,j0,j1⟩
      ·
       rintro v32 rfl
       replace h : verify_Method_k6 v2 v4 v8 v23 v24 v32 = some r:=h
       unfold verify_Method_k6 at h
       refine rg j0<|u<|asg j0<|r_nil ?_
       refine sw_seq ?_
       refine rg j0<|u<|mv j0<|u<|nc j0 j0<|u<|fa ti131 j0 j0 j0<|u<|fa ti76 j0 j0 j0<|u<|ld ti72 j0 j0<|u<|lnI ti72 j0 j0<|u<|mv j0<|r_nil ?_
       obtain ⟨o,ho,h⟩:=bs h
       refine sw_lpl (X:=(List (List UInt8)) × (List (List UInt8)) × Bool × Bool × Int) (B:=(List (List UInt8)) × (List (List UInt8)) × Bool) (R:=Bool) (fun z=>[(9,.mpt 0 0 0),(13,bA z.2.2.2.1),(160,.isl 4 (List.map rApiIns v8.Code)),(161,iA (List.length v8.Code : Int)),(162,iA z.2.2.2.2)]) (fun z=>[some (15,[(vK v4.l v4.at_ v2 v8 (.msl 1 0 (List.length z.1)) (.msl 2 0 (List.length z.2.1)) (bA z.2.2.1))]),some (1,List.map rStr z.1),some (1,List.map rStr z.2.1)]) (fun b=>[(9,.mpt 0 0 0)]) (fun b=>[some (15,[(vK v4.l v4.at_ v2 v8 (.msl 1 0 (List.length b.1)) (.msl 2 0 (List.length b.2.1)) (bA b.2.2))]),some (1,List.map rStr b.1),some (1,List.map rStr b.2.1)]) (fun r env st=>PostF Tryz.prog Tryz.f40 0 (bA r) [] env st) ho ⟨[.old 0,.old 1,.old 2],cv j0 (.mpt j0)<|ce j0 j0<|ce j0 j0<|ce j0 j0<|ce j0 j0<|cn,j0,⟨⟨_,j0,rsOne (cc12 j0 (by exact ⟨.msl j0,.msl j0,ci j0,j5⟩))⟩,⟨_,j0,rsMap (fun _=>j0)⟩,⟨_,j0,rsMap (fun _=>j0)⟩,j5⟩,j0,j1⟩ ?_ ?_ ?_
       ·
        rintro ⟨v44,v45,v46,v47,v48⟩ r h
        replace h : verify_Method_l9 v2 v4 v8 v44 v45 v46 v47 v48 = some r:=h
        unfold verify_Method_l9 at h
        refine rg j0<|u<|lss ti3 j0 j0<|r_nil ?_
        refine sw_seq ?_
        refine sw_cond j0 (fun hc39=>?_) (fun hc39=>?_)
        ·
         replace h:=bT hc39 h
         refine sw_skip ?_
         refine sw_seq ?_
         refine sw_block ?_
         obtain ⟨v49,q40,h⟩:=bs h
         refine rg j0<|u<|mv j0<|u<|ixI ti72 j0 ti69 j0 j0 j0 q40<|u<|ldI ti69 j0 (idx_some q40).2.2 j0<|u<|al 3 ti69 j0<|u<|asg j0<|u<|sto ti69 j0 j0 j0<|r_nil ?_
         obtain ⟨v50,q41,h⟩:=bs h
         refine rg j0<|u<|mv j0<|u<|mv j0<|u<|mv j0<|u<|sc [0,1,2] (verify_checker_enter_ok v4.l v4.at_ v2 v8 v44 v45 v46 v48 v47 q41) j0 j0 j0 j0 ⟨(.mpt j0),(rnI j0),(rnI j0),j5⟩ ⟨⟨_,j0,(rr12 j0 ⟨(.msl j0),(.msl j0),(rnI j0),j5⟩)⟩,⟨j0,mkI (fun _=>j0)⟩,⟨j0,mkI (fun _=>j0)⟩,j5⟩<|r_can (env0:=[(9,.mpt 0 0 0),(14,iA v48),(15,.mpt 3 0 0),(160,.isl 4 (List.map rApiIns v8.Code)),(161,iA (List.length v8.Code : Int)),(162,iA v48)]) (st0:=[some (15,[(vK v4.l v4.at_ v2 v8 (.msl 1 0 (List.length v50.1)) (.msl 2 0 (List.length v50.2.1)) (bA v50.2.2))]),some (1,List.map rStr v50.1),some (1,List.map rStr v50.2.1),some (4,[(rApiIns v49)])]) ⟨[.old 0,.old 4,.old 5,.old 3],cv j0 (.mpt j0)<|ce j0 j0<|cv j0 (.mpt j0)<|ce j0 j0<|ce j0 j0<|ce j0 j0<|cn,j0,⟨⟨_,j0,rsOne (cc12 j0 (by exact ⟨.msl j0,.msl j0,ci j0,j5⟩))⟩,⟨_,j0,rsMap (fun _=>j0)⟩,⟨_,j0,rsMap (fun _=>j0)⟩,⟨_,j0,rsOne (ciL j0)⟩,j5⟩,j0,j1⟩<|r_nil ?_
         refine sw_seq ?_
         refine rg j0<|u<|mv j0<|u<|nc j0 j0<|u<|fa ti131 j0 j0 j0<|u<|ld ti4 j0 j0<|r_nil ?_
         refine sw_cond j0 (fun hc42=>?_) (fun hc42=>?_)
         ·
          replace h:=bT hc42 h
          refine rg j0<|u<|asg j0<|r_nil ?_
          refine sw_ret ?_
          obtain rfl:=sm h
          exact ⟨_,j0,_,j0,[],ci j0,j0,j5,j0,j1⟩
         ·
          replace h:=bF hc42 h
          refine sw_skip ?_
          obtain ⟨v51,q43,h⟩:=bs h
          refine rg j0<|u<|mv j0<|u<|mv j0<|u<|sc [0,1,2] (verify_checker_traps_ok v4.l v4.at_ v2 v8 v50.1 v50.2.1 v50.2.2 v48 q43) j0 j0 j0 j0 ⟨(.mpt j0),(rnI j0),j5⟩ ⟨⟨_,j0,(rr12 j0 ⟨(.msl j0),(.msl j0),(rnI j0),j5⟩)⟩,⟨j0,mkI (fun _=>j0)⟩,⟨j0,mkI (fun _=>j0)⟩,j5⟩<|r_can (env0:=[(9,.mpt 0 0 0),(15,.mpt 3 0 0),(160,.isl 4 (List.map rApiIns v8.Code)),(161,iA (List.length v8.Code : Int)),(162,iA v48)]) (st0:=[some (15,[(vK v4.l v4.at_ v2 v8 (.msl 1 0 (List.length v50.1)) (.msl 2 0 (List.length v50.2.1)) (bA v51))]),some (1,List.map rStr v50.1),some (1,List.map rStr v50.2.1),some (4,[(rApiIns v49)])]) ⟨[.old 0,.old 1,.old 2,.old 3],cv j0 (.mpt j0)<|cv j0 (.mpt j0)<|ce j0 j0<|ce j0 j0<|ce j0 j0<|cn,j0,⟨⟨_,j0,rsOne (cc12 j0 (by exact ⟨.msl j0,.msl j0,ci j0,j5⟩))⟩,⟨_,j0,rsMap (fun _=>j0)⟩,⟨_,j0,rsMap (fun _=>j0)⟩,⟨_,j0,rsOne (ciL j0)⟩,j5⟩,j0,j1⟩<|r_nil ?_
          obtain ⟨v52,q44,h⟩:=bs h
          refine rg j0<|u<|mv j0<|u<|ld ti69 j0 j0<|u<|sc [0,1,2] (verify_checker_one_ok v4.l v4.at_ v2 v8 v50.1 v50.2.1 v51 v49 q44) j0 j0 j0 j0 ⟨(.mpt j0),(rnI j0),j5⟩ ⟨⟨_,j0,(rr12 j0 ⟨(.msl j0),(.msl j0),(rnI j0),j5⟩)⟩,⟨j0,mkI (fun _=>j0)⟩,⟨j0,mkI (fun _=>j0)⟩,j5⟩<|r_can (env0:=[(9,.mpt 0 0 0),(15,.mpt 3 0 0),(160,.isl 4 (List.map rApiIns v8.Code)),(161,iA (List.length v8.Code : Int)),(162,iA v48)]) (st0:=[some (15,[(vK v4.l v4.at_ v2 v8 (.msl 1 0 (List.length v52.1)) (.msl 2 0 (List.length v52.2.1)) (bA v52.2.2))]),some (1,List.map rStr v52.1),some (1,List.map rStr v52.2.1),some (4,[(rApiIns v49)])]) ⟨[.old 0,.old 4,.old 5,.old 3],cv j0 (.mpt j0)<|cv j0 (.mpt j0)<|ce j0 j0<|ce j0 j0<|ce j0 j0<|cn,j0,⟨⟨_,j0,rsOne (cc12 j0 (by exact ⟨.msl j0,.msl j0,ci j0,j5⟩))⟩,⟨_,j0,rsMap (fun _=>j0)⟩,⟨_,j0,rsMap (fun _=>j0)⟩,⟨_,j0,rsOne (ciL j0)⟩,j5⟩,j0,j1⟩<|r_nil ?_
          refine sw_meet (X:=Bool) (fun z=>[(9,.mpt 0 0 0),(15,.mpt 3 0 0),(160,.isl 4 (List.map rApiIns v8.Code)),(161,iA (List.length v8.Code : Int)),(162,iA v48)]) (fun z=>[some (15,[(vK v4.l v4.at_ v2 v8 (.msl 1 0 (List.length v52.1)) (.msl 2 0 (List.length v52.2.1)) (bA z))]),some (1,List.map rStr v52.1),some (1,List.map rStr v52.2.1),some (4,[(rApiIns v49)])]) (fun z=>verify_Method_j8 v8 v48 v49 v52 z = some r) ?_ ?_
          ·
           refine rg j0<|u<|fa ti69 j0 j0 j0<|u<|ld ti3 j0 j0<|u<|pc (op_Jumps_ok v49.Op j0) j0 j0 j0<|r_nil ?_
           refine sw_cond j0 (fun hc45=>?_) (fun hc45=>?_)
           ·
            replace h:=bT hc45 h
            obtain ⟨v53,q46,h⟩:=bs h
            refine rdL [(9,.mpt 0 0 0),(15,.mpt 3 0 0),(160,.isl 4 (List.map rApiIns v8.Code)),(161,iA (List.length v8.Code : Int)),(162,iA v48)] [some (15,[(vK v4.l v4.at_ v2 v8 (.msl 1 0 (List.length v52.1)) (.msl 2 0 (List.length v52.2.1)) (bA v53))]),some (1,List.map rStr v52.1),some (1,List.map rStr v52.2.1),some (4,[(rApiIns v49)])] [7] [6,5,4,3,2,1,0] [(190,.msl 2 0 (List.length v52.2.1)),(189,.mpt 0 0 13),(188,.mpt 0 0 0),(187,.mpt 0 0 0),(186,iA v49.A),(185,.mpt 3 0 1),(184,.mpt 0 0 0)] 1 (by kernel_rfl) (by kernel_rfl) j0 (by kernel_rfl) (dtS ⟨(fun _=>pa j0 j0 j0 j0 (ld ti25 j0 j0<|j4)),(fun _=>pa j0 j0 j0 j0 (fa ti131 j0 j0 j0<|j4)),(fun _=>pa j0 j0 j0 j0 (nc j0 j0<|j4)),(fun _=>pa j0 j0 j0 j0 (mv j0<|j4)),(fun _=>pa j0 j0 j0 j0 (ld ti3 j0 j0<|j4)),(fun _=>pa j0 j0 j0 j0 (fa ti69 j0 j0 j0<|j4)),(fun _=>pa j0 j0 j0 j0 (mv j0<|j4)),j5⟩ (by kernel_rfl) j0 ⟨(fun _ _=>⟨_,j0,j0,sc [0,1,2] (verify_checker_goes_ok v4.l v4.at_ v2 v8 v52.1 v52.2.1 v52.2.2 v49.A q46) j0 j0 j0 j0 ⟨(.mpt j0),(rnI j0),(.msl j0),j5⟩ ⟨⟨_,j0,(rr12 j0 ⟨(.msl j0),(.msl j0),(rnI j0),j5⟩)⟩,⟨j0,mkI (fun _=>j0)⟩,⟨j0,mkI (fun _=>j0)⟩,j5⟩<|⟨(.tup []),[],[(191,.tup [])],j0,j0,by kernel_rfl,j0,dt0 ⟨(fun h=>by cases h),(fun _=>pa j0 j0 j0 j0 (fa ti131 j0 j0 j0<|j4)),(fun _=>pa j0 j0 j0 j0 (nc j0 j0<|j4)),(fun _=>pa j0 j0 j0 j0 (mv j0<|j4)),(fun h=>by cases h),(fun _=>pa j0 j0 j0 j0 (fa ti69 j0 j0 j0<|j4)),(fun h=>by cases h),j5⟩ (by kernel_rfl) j0 ⟨[.old 0,.old 1,.old 2,.old 3],cv j0 (.mpt j0)<|cv j0 (.mpt j0)<|ce j0 j0<|ce j0 j0<|ce j0 j0<|cn,j0,⟨⟨_,j0,rsOne (cc12 j0 (by exact ⟨.msl j0,.msl j0,ci j0,j5⟩))⟩,⟨_,j0,rsMap (fun _=>j0)⟩,⟨_,j0,rsMap (fun _=>j0)⟩,⟨_,j0,rsOne (ciL j0)⟩,j5⟩,j0,j1⟩⟩⟩),j5⟩) ?_
            exact ⟨v53,h,[.old 0,.old 1,.old 2,.old 3],cv j0 (.mpt j0)<|cv j0 (.mpt j0)<|ce j0 j0<|ce j0 j0<|ce j0 j0<|cn,j0,⟨⟨_,j0,rsOne (cc12 j0 (by exact ⟨.msl j0,.msl j0,ci j0,j5⟩))⟩,⟨_,j0,rsMap (fun _=>j0)⟩,⟨_,j0,rsMap (fun _=>j0)⟩,⟨_,j0,rsOne (ciL j0)⟩,j5⟩,j0,j1⟩
           ·
            replace h:=bF hc45 h
            refine sw_skip ?_
            exact ⟨v52.2.2,h,[.old 0,.old 1,.old 2,.old 3],cv j0 (.mpt j0)<|cv j0 (.mpt j0)<|ce j0 j0<|ce j0 j0<|ce j0 j0<|cn,j0,⟨⟨_,j0,rsOne (cc12 j0 (by exact ⟨.msl j0,.msl j0,ci j0,j5⟩))⟩,⟨_,j0,rsMap (fun _=>j0)⟩,⟨_,j0,rsMap (fun _=>j0)⟩,⟨_,j0,rsOne (ciL j0)⟩,j5⟩,j0,j1⟩
          ·
           rintro v54 h
           replace h : verify_Method_j8 v8 v48 v49 v52 v54 = some r:=h
           unfold verify_Method_j8 at h
           refine rd [(9,.mpt 0 0 0),(15,.mpt 3 0 0),(160,.isl 4 (List.map rApiIns v8.Code)),(161,iA (List.length v8.Code : Int)),(162,iA v48)] [some (15,[(vK v4.l v4.at_ v2 v8 (.msl 1 0 (List.length v52.1)) (.msl 2 0 (List.length v52.2.1)) (bA (v54 || (!(decide (((List.length v52.2.1) : Int) ≤ v8.Stack))))))]),some (1,List.map rStr v52.1),some (1,List.map rStr v52.2.1),some (4,[(rApiIns v49)])] [12] [11,10,9,8,7,6,5,4,3,2,1,0] [(203,bA (decide (((List.length v52.2.1) : Int) ≤ v8.Stack))),(202,iA v8.Stack),(201,.mpt 0 0 8),(200,.mpt 0 0 2),(199,.mpt 0 0 0),(198,.mpt 0 0 0),(197,iA ((List.length v52.2.1) : Int)),(196,.msl 2 0 (List.length v52.2.1)),(195,.mpt 0 0 13),(194,.mpt 0 0 0),(193,.mpt 0 0 0),(192,.mpt 0 0 0)] 1 (by kernel_rfl) (by kernel_rfl) j0 (by kernel_rfl) (dtS ⟨(fun _=>pa j0 j0 j0 j0 (leq ti3 j0 j0<|j4)),(fun _=>pa j0 j0 j0 j0 (ld ti3 j0 j0<|j4)),(fun _=>pa j0 j0 j0 j0 (fa ti76 j0 j0 j0<|j4)),(fun _=>pa j0 j0 j0 j0 (fa ti131 j0 j0 j0<|j4)),(fun _=>pa j0 j0 j0 j0 (nc j0 j0<|j4)),(fun _=>pa j0 j0 j0 j0 (mv j0<|j4)),(fun _=>pa j0 j0 j0 j0 (lnM ti25 j0 j0 j0<|j4)),(fun _=>pa j0 j0 j0 j0 (ld ti25 j0 j0<|j4)),(fun _=>pa j0 j0 j0 j0 (fa ti131 j0 j0 j0<|j4)),(fun _=>pa j0 j0 j0 j0 (nc j0 j0<|j4)),(fun _=>pa j0 j0 j0 j0 (mv j0<|j4)),(fun _=>pa j0 j0 j0 j0 (mv j0<|j4)),j5⟩ (by kernel_rfl) j0 ⟨(fun _ _=>⟨_,j0,j0,sc [0,1,2] (verify_checker_need_ok v4.l v4.at_ v2 v8 v52.1 v52.2.1 v54 (decide (((List.length v52.2.1) : Int) ≤ v8.Stack)) j0) j0 j0 j0 j0 ⟨(.mpt j0),(rnI j0),j5⟩ ⟨⟨_,j0,(rr12 j0 ⟨(.msl j0),(.msl j0),(rnI j0),j5⟩)⟩,⟨j0,mkI (fun _=>j0)⟩,⟨j0,mkI (fun _=>j0)⟩,j5⟩<|⟨(.tup []),[],[(204,.tup [])],j0,j0,by kernel_rfl,j0,dt0 ⟨(fun h=>by cases h),(fun _=>pa j0 j0 j0 j0 (ld ti3 j0 j0<|j4)),(fun _=>pa j0 j0 j0 j0 (fa ti76 j0 j0 j0<|j4)),(fun _=>pa j0 j0 j0 j0 (fa ti131 j0 j0 j0<|j4)),(fun _=>pa j0 j0 j0 j0 (nc j0 j0<|j4)),(fun _=>pa j0 j0 j0 j0 (mv j0<|j4)),(fun _=>pa j0 j0 j0 j0 (lnM ti25 j0 j0 j0<|j4)),(fun _=>pa j0 j0 j0 j0 (ld ti25 j0 j0<|j4)),(fun _=>pa j0 j0 j0 j0 (fa ti131 j0 j0 j0<|j4)),(fun _=>pa j0 j0 j0 j0 (nc j0 j0<|j4)),(fun _=>pa j0 j0 j0 j0 (mv j0<|j4)),(fun h=>by cases h),j5⟩ (by kernel_rfl) j0 ⟨[.old 0,.old 1,.old 2,.old 3],cv j0 (.mpt j0)<|cv j0 (.mpt j0)<|ce j0 j0<|ce j0 j0<|ce j0 j0<|cn,j0,⟨⟨_,j0,rsOne (cc12 j0 (by exact ⟨.msl j0,.msl j0,ci j0,j5⟩))⟩,⟨_,j0,rsMap (fun _=>j0)⟩,⟨_,j0,rsMap (fun _=>j0)⟩,⟨_,j0,rsOne (ciL j0)⟩,j5⟩,j0,j1⟩⟩⟩),j5⟩) ?_
           refine rl j0<|u<|fa ti69 j0 j0 j0<|u<|ld ti3 j0 j0<|u<|pc (op_Ends_ok v49.Op j0) j0 j0 j0<|u<|nt j0<|u<|asg j0<|r_nil ?_
           refine rl j0<|u<|add ti3 j0 j0<|u<|mv j0<|r_nil ?_
           obtain rfl:=sm h
           exact ⟨_,j0,[.old 0,.old 1,.old 2],cv j0 (.mpt j0)<|ce j0 j0<|ce j0 j0<|ce j0 j0<|ce j0 j0<|cn,j0,⟨⟨_,j0,rsOne (cc12 j0 (by exact ⟨.msl j0,.msl j0,ci j0,j5⟩))⟩,⟨_,j0,rsMap (fun _=>j0)⟩,⟨_,j0,rsMap (fun _=>j0)⟩,j5⟩,j0,j1⟩
        ·
         replace h:=bF hc39 h
         refine sw_exit ?_
         obtain rfl:=sm h
         exact ⟨j0,_,j0,[.old 0,.old 1,.old 2],cv j0 (.mpt j0)<|cn,j0,⟨⟨_,j0,rsOne (cc12 j0 (by exact ⟨.msl j0,.msl j0,ci j0,j5⟩))⟩,⟨_,j0,rsMap (fun _=>j0)⟩,⟨_,j0,rsMap (fun _=>j0)⟩,j5⟩,j0,j1⟩
       ·
        rintro ⟨v55,v56,v57⟩ rfl
        replace h : verify_Method_k10 v55 v56 v57 = some r:=h
        unfold verify_Method_k10 at h
        refine ow_intro ?_
        refine rg j0<|u<|mv j0<|u<|nc j0 j0<|u<|fa ti131 j0 j0 j0<|u<|ld ti4 j0 j0<|u<|nt j0<|u<|asg j0<|r_nil ?_
        refine sw_ret ?_
        obtain rfl:=sm h
        exact ⟨_,j0,[],ci j0,j0,j5,j0,j1⟩
       ·
        rintro r' rfl env st hp
        obtain rfl:=sm h
        exact hp
      ·
       rintro r' rfl env st hp
       obtain rfl:=sm h
       exact hp
   ·
    rintro r' rfl env st hp
    obtain rfl:=sm h
    exact hp
end
end Go.Proofs.YtjbdfkapnffjnaaGreat
namespace Go.Proofs.YtjbdfkapnffjnaaGreat
noncomputable section
set_option linter.unusedSimpArgs false
set_option linter.unusedVariables false
set_option maxRecDepth 100000
set_option maxHeartbeats 4000000
def law10_begun : Option (Bool) :=
  (hier_New ([(ApiClass.mk [70,97,99,101] [79,98,106,101,99,116] true [] [] ([(ApiMethod.mk [102] [] [73] false true 0 0 [] [] [])])),(ApiClass.mk [65,97] [79,98,106,101,99,116] false ([[70,97,99,101]]) ([(ApiField.mk [120] [73] false),(ApiField.mk [115] [73] true)]) ([(ApiMethod.mk [102] [] [73] false false 1 1 ([(ApiIns.mk 1 5 [] []),(ApiIns.mk 47 0 [] [])]) [] [])])),(ApiClass.mk [66,98] [65,97] false [] ([(ApiField.mk [121] [91,65,97] false)]) ([(ApiMethod.mk [109,97,105,110] [] [86] true false 0 0 ([(ApiIns.mk 46 0 [] [])]) [] [])]))])).bind fun v1=>(hier_New ([(ApiClass.mk [70,97,99,101] [79,98,106,101,99,116] true [] [] ([(ApiMethod.mk [102] [] [73] false true 0 0 [] [] [])])),(ApiClass.mk [65,97] [79,98,106,101,99,116] false ([[70,97,99,101]]) ([(ApiField.mk [120] [73] false),(ApiField.mk [115] [73] true)]) ([(ApiMethod.mk [102] [] [73] false false 1 1 ([(ApiIns.mk 2 0 [] []),(ApiIns.mk 47 0 [] [])]) [] [])])),(ApiClass.mk [66,98] [65,97] false [] ([(ApiField.mk [121] [91,65,97] false)]) ([(ApiMethod.mk [109,97,105,110] [] [86] true false 0 0 ([(ApiIns.mk 46 0 [] [])]) [] [])]))])).bind fun v2=>cond ((!(v1.2 == (0 : Int))) || (!(v2.2 == (0 : Int)))) (some false) ((cond (law9_Begun) ((verify_Method v1.1 [65,97] 0).bind fun v3=>some v3) (some false)).bind fun v4=>(cond v4 ((verify_Method v1.1 [66,98] 0).bind fun v5=>some v5) (some false)).bind fun v6=>(cond v6 ((verify_Method v2.1 [65,97] 0).bind fun v7=>some (!v7)) (some false)).bind fun v8=>(cond v8 ((verify_Method v1.1 [70,97,99,101] 0).bind fun v9=>some (!v9)) (some false)).bind fun v10=>(cond v10 ((verify_Method v1.1 [65,97] 1).bind fun v11=>some (!v11)) (some false)).bind fun v12=>(cond v12 ((verify_Method v1.1 [90,122] 0).bind fun v13=>some (!v13)) (some false)).bind fun v14=>some v14)
theorem law10_begun_ok {r : Bool} (h : law10_begun = some r) : PureC Tryz.prog 37 [] (bA r):=by
 refine pure_fn Tryz.func37 j0 (by kernel_rfl) j0 j0 ?_
 unfold law10_begun at h
 refine rg j0<|u<|asg j0<|r_nil ?_
 obtain ⟨v1,q1,h⟩:=bs h
 refine rg j0<|u<|sc [] (law7_Two_ok j0) j0 j0 j0 j0 j5 j5<|r_can (env0:=[(7,.msl 0 0 3)]) (st0:=[some (6,[[sA [70,97,99,101],sA [79,98,106,101,99,116],bA true,.lit (.slice none 0 0),.lit (.slice none 0 0),.msl 1 0 1],[sA [65,97],sA [79,98,106,101,99,116],bA false,.msl 2 0 1,.msl 3 0 2,.msl 4 0 1],[sA [66,98],sA [65,97],bA false,.lit (.slice none 0 0),.msl 6 0 1,.msl 7 0 1]]),some (10,[[sA [102],.lit (.slice none 0 0),sA [73],bA false,bA true,iA 0,iA 0,.lit (.slice none 0 0),.lit (.slice none 0 0),.lit (.slice none 0 0)]]),some (1,[[sA [70,97,99,101]]]),some (3,[[sA [120],sA [73],bA false],[sA [115],sA [73],bA true]]),some (10,[[sA [102],.lit (.slice none 0 0),sA [73],bA false,bA false,iA 1,iA 1,.msl 5 0 2,.lit (.slice none 0 0),.lit (.slice none 0 0)]]),some (4,[[iA 1,iA 5,sA [],sA []],[iA 47,iA 0,sA [],sA []]]),some (3,[[sA [121],sA [91,65,97],bA false]]),some (10,[[sA [109,97,105,110],.lit (.slice none 0 0),sA [86],bA true,bA false,iA 0,iA 0,.msl 8 0 1,.lit (.slice none 0 0),.lit (.slice none 0 0)]]),some (4,[[iA 46,iA 0,sA [],sA []]])]) ⟨[.old 0,.old 1,.old 2,.old 3,.old 4,.old 5,.old 6,.old 7,.old 8],cv j0 (.msl j0)<|cn,j0,⟨⟨_,j0,rsRows ⟨⟨(ci j0),(ci j0),(ci j0),(ci j0),(ci j0),(.msl j0),j5⟩,⟨(ci j0),(ci j0),(ci j0),(.msl j0),(.msl j0),(.msl j0),j5⟩,⟨(ci j0),(ci j0),(ci j0),(ci j0),(.msl j0),(.msl j0),j5⟩,j5⟩⟩,⟨_,j0,rsRows ⟨⟨(ci j0),(ci j0),(ci j0),(ci j0),(ci j0),(ci j0),(ci j0),(ci j0),(ci j0),(ci j0),j5⟩,j5⟩⟩,⟨_,j0,rsRows ⟨⟨(ci j0),j5⟩,j5⟩⟩,⟨_,j0,rsRows ⟨⟨(ci j0),(ci j0),(ci j0),j5⟩,⟨(ci j0),(ci j0),(ci j0),j5⟩,j5⟩⟩,⟨_,j0,rsRows ⟨⟨(ci j0),(ci j0),(ci j0),(ci j0),(ci j0),(ci j0),(ci j0),(.msl j0),(ci j0),(ci j0),j5⟩,j5⟩⟩,⟨_,j0,rsRows ⟨⟨(ci j0),(ci j0),(ci j0),(ci j0),j5⟩,⟨(ci j0),(ci j0),(ci j0),(ci j0),j5⟩,j5⟩⟩,⟨_,j0,rsRows ⟨⟨(ci j0),(ci j0),(ci j0),j5⟩,j5⟩⟩,⟨_,j0,rsRows ⟨⟨(ci j0),(ci j0),(ci j0),(ci j0),(ci j0),(ci j0),(ci j0),(.msl j0),(ci j0),(ci j0),j5⟩,j5⟩⟩,⟨_,j0,rsRows ⟨⟨(ci j0),(ci j0),(ci j0),(ci j0),j5⟩,j5⟩⟩,j5⟩,j0,j1⟩<|r_can (env0:=[(7,.isl 6 (List.map rApiClass ([(ApiClass.mk [70,97,99,101] [79,98,106,101,99,116] true [] [] ([(ApiMethod.mk [102] [] [73] false true 0 0 [] [] [])])),(ApiClass.mk [65,97] [79,98,106,101,99,116] false ([[70,97,99,101]]) ([(ApiField.mk [120] [73] false),(ApiField.mk [115] [73] true)]) ([(ApiMethod.mk [102] [] [73] false false 1 1 ([(ApiIns.mk 1 5 [] []),(ApiIns.mk 47 0 [] [])]) [] [])])),(ApiClass.mk [66,98] [65,97] false [] ([(ApiField.mk [121] [91,65,97] false)]) ([(ApiMethod.mk [109,97,105,110] [] [86] true false 0 0 ([(ApiIns.mk 46 0 [] [])]) [] [])]))])))]) (st0:=[]) ⟨[],cv j0 (rsSealX j0 j0 ⟨⟨⟨ci j0,ci j0,ci j0,.nil,.nil,rsSealX j0 j0 ⟨⟨⟨ci j0,.nil,ci j0,ci j0,ci j0,ci j0,ci j0,.nil,.nil,.nil,j5⟩,j0⟩,j5⟩,j5⟩,j0⟩,⟨⟨ci j0,ci j0,ci j0,rsSealX j0 j0 ⟨⟨⟨ci j0,j5⟩,j0⟩,j5⟩,rsSealX j0 j0 ⟨⟨⟨ci j0,ci j0,ci j0,j5⟩,j0⟩,⟨⟨ci j0,ci j0,ci j0,j5⟩,j0⟩,j5⟩,rsSealX j0 j0 ⟨⟨⟨ci j0,.nil,ci j0,ci j0,ci j0,ci j0,ci j0,rsSealX j0 j0 ⟨⟨⟨ci j0,ci j0,ci j0,ci j0,j5⟩,j0⟩,⟨⟨ci j0,ci j0,ci j0,ci j0,j5⟩,j0⟩,j5⟩,.nil,.nil,j5⟩,j0⟩,j5⟩,j5⟩,j0⟩,⟨⟨ci j0,ci j0,ci j0,.nil,rsSealX j0 j0 ⟨⟨⟨ci j0,ci j0,ci j0,j5⟩,j0⟩,j5⟩,rsSealX j0 j0 ⟨⟨⟨ci j0,.nil,ci j0,ci j0,ci j0,ci j0,ci j0,rsSealX j0 j0 ⟨⟨⟨ci j0,ci j0,ci j0,ci j0,j5⟩,j0⟩,j5⟩,.nil,.nil,j5⟩,j0⟩,j5⟩,j5⟩,j0⟩,j5⟩)<|cn,j0,j5,j0,j1⟩<|u<|pc (hier_New_ok ([(ApiClass.mk [70,97,99,101] [79,98,106,101,99,116] true [] [] ([(ApiMethod.mk [102] [] [73] false true 0 0 [] [] [])])),(ApiClass.mk [65,97] [79,98,106,101,99,116] false ([[70,97,99,101]]) ([(ApiField.mk [120] [73] false),(ApiField.mk [115] [73] true)]) ([(ApiMethod.mk [102] [] [73] false false 1 1 ([(ApiIns.mk 1 5 [] []),(ApiIns.mk 47 0 [] [])]) [] [])])),(ApiClass.mk [66,98] [65,97] false [] ([(ApiField.mk [121] [91,65,97] false)]) ([(ApiMethod.mk [109,97,105,110] [] [86] true false 0 0 ([(ApiIns.mk 46 0 [] [])]) [] [])]))]) q1) j0 j0 j0<|u<|mv j0<|u<|ex j0 j0<|u<|ex j0 j0<|u<|asg j0<|u<|asg j0<|r_nil ?_
 refine rg j0<|u<|sc [] (law7_Two_ok j0) j0 j0 j0 j0 j5 j5<|r_can (env0:=[(1,optP 2 rHierHier v1.1),(2,iA v1.2),(11,.msl 0 0 3)]) (st0:=[some (6,[[sA [70,97,99,101],sA [79,98,106,101,99,116],bA true,.lit (.slice none 0 0),.lit (.slice none 0 0),.msl 1 0 1],[sA [65,97],sA [79,98,106,101,99,116],bA false,.msl 2 0 1,.msl 3 0 2,.msl 4 0 1],[sA [66,98],sA [65,97],bA false,.lit (.slice none 0 0),.msl 6 0 1,.msl 7 0 1]]),some (10,[[sA [102],.lit (.slice none 0 0),sA [73],bA false,bA true,iA 0,iA 0,.lit (.slice none 0 0),.lit (.slice none 0 0),.lit (.slice none 0 0)]]),some (1,[[sA [70,97,99,101]]]),some (3,[[sA [120],sA [73],bA false],[sA [115],sA [73],bA true]]),some (10,[[sA [102],.lit (.slice none 0 0),sA [73],bA false,bA false,iA 1,iA 1,.msl 5 0 2,.lit (.slice none 0 0),.lit (.slice none 0 0)]]),some (4,[[iA 1,iA 5,sA [],sA []],[iA 47,iA 0,sA [],sA []]]),some (3,[[sA [121],sA [91,65,97],bA false]]),some (10,[[sA [109,97,105,110],.lit (.slice none 0 0),sA [86],bA true,bA false,iA 0,iA 0,.msl 8 0 1,.lit (.slice none 0 0),.lit (.slice none 0 0)]]),some (4,[[iA 46,iA 0,sA [],sA []]])]) ⟨[.old 0,.old 1,.old 2,.old 3,.old 4,.old 5,.old 6,.old 7,.old 8],cv j0 (ci (immP (fun _=>j0)))<|ce j0 j0<|cv j0 (.msl j0)<|cn,j0,⟨⟨_,j0,rsRows ⟨⟨(ci j0),(ci j0),(ci j0),(ci j0),(ci j0),(.msl j0),j5⟩,⟨(ci j0),(ci j0),(ci j0),(.msl j0),(.msl j0),(.msl j0),j5⟩,⟨(ci j0),(ci j0),(ci j0),(ci j0),(.msl j0),(.msl j0),j5⟩,j5⟩⟩,⟨_,j0,rsRows ⟨⟨(ci j0),(ci j0),(ci j0),(ci j0),(ci j0),(ci j0),(ci j0),(ci j0),(ci j0),(ci j0),j5⟩,j5⟩⟩,⟨_,j0,rsRows ⟨⟨(ci j0),j5⟩,j5⟩⟩,⟨_,j0,rsRows ⟨⟨(ci j0),(ci j0),(ci j0),j5⟩,⟨(ci j0),(ci j0),(ci j0),j5⟩,j5⟩⟩,⟨_,j0,rsRows ⟨⟨(ci j0),(ci j0),(ci j0),(ci j0),(ci j0),(ci j0),(ci j0),(.msl j0),(ci j0),(ci j0),j5⟩,j5⟩⟩,⟨_,j0,rsRows ⟨⟨(ci j0),(ci j0),(ci j0),(ci j0),j5⟩,⟨(ci j0),(ci j0),(ci j0),(ci j0),j5⟩,j5⟩⟩,⟨_,j0,rsRows ⟨⟨(ci j0),(ci j0),(ci j0),j5⟩,j5⟩⟩,⟨_,j0,rsRows ⟨⟨(ci j0),(ci j0),(ci j0),(ci j0),(ci j0),(ci j0),(ci j0),(.msl j0),(ci j0),(ci j0),j5⟩,j5⟩⟩,⟨_,j0,rsRows ⟨⟨(ci j0),(ci j0),(ci j0),(ci j0),j5⟩,j5⟩⟩,j5⟩,j0,j1⟩<|u<|asg j0<|r_nil ?_
 refine rg j0<|u<|mv j0<|u<|ixX ti24 j0 ti29 j0 j0 j0<|u<|fa ti29 j0 j0 j0<|u<|ld ti27 j0 j0<|u<|ixX ti27 j0 ti76 j0 j0 j0<|u<|fa ti76 j0 j0 j0<|u<|ld ti72 j0 j0<|u<|bd ti69 j0 j0 j0<|u<|ixX ti72 j0 ti69 j0 j0 j0<|u<|sto ti69 j0 j0 j0<|r_nil ?_
 obtain ⟨v2,q2,h⟩:=bs h
 refine rg j0<|u<|mv j0<|r_can (env0:=[(1,optP 2 rHierHier v1.1),(2,iA v1.2),(22,.isl 6 (List.map rApiClass ([(ApiClass.mk [70,97,99,101] [79,98,106,101,99,116] true [] [] ([(ApiMethod.mk [102] [] [73] false true 0 0 [] [] [])])),(ApiClass.mk [65,97] [79,98,106,101,99,116] false ([[70,97,99,101]]) ([(ApiField.mk [120] [73] false),(ApiField.mk [115] [73] true)]) ([(ApiMethod.mk [102] [] [73] false false 1 1 ([(ApiIns.mk 2 0 [] []),(ApiIns.mk 47 0 [] [])]) [] [])])),(ApiClass.mk [66,98] [65,97] false [] ([(ApiField.mk [121] [91,65,97] false)]) ([(ApiMethod.mk [109,97,105,110] [] [86] true false 0 0 ([(ApiIns.mk 46 0 [] [])]) [] [])]))])))]) (st0:=[]) ⟨[],cv j0 (ci (immP (fun _=>j0)))<|ce j0 j0<|cv j0 (rsSealX j0 j0 ⟨⟨⟨ci j0,ci j0,ci j0,.nil,.nil,rsSealX j0 j0 ⟨⟨⟨ci j0,.nil,ci j0,ci j0,ci j0,ci j0,ci j0,.nil,.nil,.nil,j5⟩,j0⟩,j5⟩,j5⟩,j0⟩,⟨⟨ci j0,ci j0,ci j0,rsSealX j0 j0 ⟨⟨⟨ci j0,j5⟩,j0⟩,j5⟩,rsSealX j0 j0 ⟨⟨⟨ci j0,ci j0,ci j0,j5⟩,j0⟩,⟨⟨ci j0,ci j0,ci j0,j5⟩,j0⟩,j5⟩,rsSealX j0 j0 ⟨⟨⟨ci j0,.nil,ci j0,ci j0,ci j0,ci j0,ci j0,rsSealX j0 j0 ⟨⟨⟨ci j0,ci j0,ci j0,ci j0,j5⟩,j0⟩,⟨⟨ci j0,ci j0,ci j0,ci j0,j5⟩,j0⟩,j5⟩,.nil,.nil,j5⟩,j0⟩,j5⟩,j5⟩,j0⟩,⟨⟨ci j0,ci j0,ci j0,.nil,rsSealX j0 j0 ⟨⟨⟨ci j0,ci j0,ci j0,j5⟩,j0⟩,j5⟩,rsSealX j0 j0 ⟨⟨⟨ci j0,.nil,ci j0,ci j0,ci j0,ci j0,ci j0,rsSealX j0 j0 ⟨⟨⟨ci j0,ci j0,ci j0,ci j0,j5⟩,j0⟩,j5⟩,.nil,.nil,j5⟩,j0⟩,j5⟩,j5⟩,j0⟩,j5⟩)<|cn,j0,j5,j0,j1⟩<|u<|pc (hier_New_ok ([(ApiClass.mk [70,97,99,101] [79,98,106,101,99,116] true [] [] ([(ApiMethod.mk [102] [] [73] false true 0 0 [] [] [])])),(ApiClass.mk [65,97] [79,98,106,101,99,116] false ([[70,97,99,101]]) ([(ApiField.mk [120] [73] false),(ApiField.mk [115] [73] true)]) ([(ApiMethod.mk [102] [] [73] false false 1 1 ([(ApiIns.mk 2 0 [] []),(ApiIns.mk 47 0 [] [])]) [] [])])),(ApiClass.mk [66,98] [65,97] false [] ([(ApiField.mk [121] [91,65,97] false)]) ([(ApiMethod.mk [109,97,105,110] [] [86] true false 0 0 ([(ApiIns.mk 46 0 [] [])]) [] [])]))]) q2) j0 j0 j0<|u<|mv j0<|u<|ex j0 j0<|u<|ex j0 j0<|u<|asg j0<|u<|asg j0<|r_nil ?_
 refine sw_seq ?_
 refine rg j0<|u<|mv j0<|u<|neq ti33 j0 j0<|u<|mv j0<|r_or (j:=2) 2 j0 j0 j0 j0 j0 gpn (fun hb3=>g j0 hb3<|mv j0<|g j0 hb3<|neq ti33 j0 j0<|r_nil (egO [29,30] 2 hb3 j0 j0 j0 j0)) orT<|r_nil ?_
 refine sw_cond j0 (fun hc4=>?_) (fun hc4=>?_)
 ·
  replace h:=bT hc4 h
  refine rg j0<|u<|asg j0<|r_nil ?_
  refine sw_ret ?_
  obtain rfl:=sm h
  exact ⟨_,j0,[],ci j0,j0,j5,j0,j1⟩
 ·
  replace h:=bF hc4 h
  refine sw_skip ?_
  obtain ⟨v4,q7,h⟩:=bs h
  obtain ⟨v6,q10,h⟩:=bs h
  obtain ⟨v8,q13,h⟩:=bs h
  obtain ⟨v10,q16,h⟩:=bs h
  obtain ⟨v12,q19,h⟩:=bs h
  obtain ⟨v14,q22,h⟩:=bs h
  refine rg j0<|u<|pc (law9_Begun_ok j0) j0 j0 j0<|u<|mv j0<|r_and (x:=v4) (j:=1) 2 j0 j0 j0 j0 j0 gpn (fun hb5=>by replace q7:=bT hb5 q7; obtain ⟨v3,q6,q7⟩:=bs q7; obtain rfl:=sm q7; exact g j0 hb5<|mv j0<|g j0 hb5<|pc (verify_Method_ok v1.1 [65,97] 0 q6) j0 j0 (immC (immP (fun _=>j0)) (j0))<|r_nil (eg [34,35] 2 j0 j0 j0 j0)) (fun hb=>(sm (bF hb q7)).symm)<|u<|mv j0<|r_and (x:=v6) (j:=5) 2 j0 j0 j0 j0 j0 gpn (fun hb8=>by replace q10:=bT hb8 q10; obtain ⟨v5,q9,q10⟩:=bs q10; obtain rfl:=sm q10; exact g j0 hb8<|mv j0<|g j0 hb8<|pc (verify_Method_ok v1.1 [66,98] 0 q9) j0 j0 (immC (immP (fun _=>j0)) (j0))<|r_nil (eg [38,39] 2 j0 j0 j0 j0)) (fun hb=>(sm (bF hb q10)).symm)<|u<|mv j0<|r_and (x:=v8) (j:=9) 3 j0 j0 j0 j0 j0 gpn (fun hb11=>by replace q13:=bT hb11 q13; obtain ⟨v7,q12,q13⟩:=bs q13; obtain rfl:=sm q13; exact g j0 hb11<|mv j0<|g j0 hb11<|pc (verify_Method_ok v2.1 [65,97] 0 q12) j0 j0 (immC (immP (fun _=>j0)) (j0))<|g j0 hb11<|nt j0<|r_nil (eg [42,43,44] 3 j0 j0 j0 j0)) (fun hb=>(sm (bF hb q13)).symm)<|u<|mv j0<|r_and (x:=v10) (j:=14) 3 j0 j0 j0 j0 j0 gpn (fun hb14=>by replace q16:=bT hb14 q16; obtain ⟨v9,q15,q16⟩:=bs q16; obtain rfl:=sm q16; exact g j0 hb14<|mv j0<|g j0 hb14<|pc (verify_Method_ok v1.1 [70,97,99,101] 0 q15) j0 j0 (immC (immP (fun _=>j0)) (j0))<|g j0 hb14<|nt j0<|r_nil (eg [47,48,49] 3 j0 j0 j0 j0)) (fun hb=>(sm (bF hb q16)).symm)<|u<|mv j0<|r_and (x:=v12) (j:=19) 3 j0 j0 j0 j0 j0 gpn (fun hb17=>by replace q19:=bT hb17 q19; obtain ⟨v11,q18,q19⟩:=bs q19; obtain rfl:=sm q19; exact g j0 hb17<|mv j0<|g j0 hb17<|pc (verify_Method_ok v1.1 [65,97] 1 q18) j0 j0 (immC (immP (fun _=>j0)) (j0))<|g j0 hb17<|nt j0<|r_nil (eg [52,53,54] 3 j0 j0 j0 j0)) (fun hb=>(sm (bF hb q19)).symm)<|u<|mv j0<|r_and (x:=v14) (j:=24) 3 j0 j0 j0 j0 j0 gpn (fun hb20=>by replace q22:=bT hb20 q22; obtain ⟨v13,q21,q22⟩:=bs q22; obtain rfl:=sm q22; exact g j0 hb20<|mv j0<|g j0 hb20<|pc (verify_Method_ok v1.1 [90,122] 0 q21) j0 j0 (immC (immP (fun _=>j0)) (j0))<|g j0 hb20<|nt j0<|r_nil (eg [57,58,59] 3 j0 j0 j0 j0)) (fun hb=>(sm (bF hb q22)).symm)<|u<|asg j0<|r_nil ?_
  refine sw_ret ?_
  obtain rfl:=sm h
  exact ⟨_,j0,[],ci j0,j0,j5,j0,j1⟩
def law10_one (v1 : List (List UInt8)) (v2 : List UInt8) (v3 : Int) (v4 : Int) (v5 : List ApiIns) (v6 : List ApiMap) (v7 : List ApiTrap) : Option ((List ApiMethod)) :=
  (appP 152 ([(ApiMethod.mk [109,97,105,110] [] [86] true false 0 0 ([(ApiIns.mk 46 0 [] [])]) [] [])]) ([(ApiMethod.mk [103] v1 v2 false false v3 v4 v5 v6 v7)])).bind fun v8=>some v8
theorem law10_one_ok (v1 : List (List UInt8)) (v2 : List UInt8) (v3 : Int) (v4 : Int) (v5 : List ApiIns) (v6 : List ApiMap) (v7 : List ApiTrap) {r : (List ApiMethod)} (h : law10_one v1 v2 v3 v4 v5 v6 v7 = some r) : SC Tryz.prog 39 [.isl 1 (List.map rStr v1),sA v2,iA v3,iA v4,.isl 4 (List.map rApiIns v5),.isl 3 (List.map rApiMap v6),.isl 4 (List.map rApiTrap v7)] [] (.msl 0 0 3) [.xs 6 [[sA [70,97,99,101],sA [79,98,106,101,99,116],bA true,.lit (.slice none 0 0),.lit (.slice none 0 0),.msl 1 0 1],[sA [65,97],sA [79,98,106,101,99,116],bA false,.msl 2 0 1,.msl 3 0 2,.msl 4 0 1],[sA [66,98],sA [65,97],bA false,.lit (.slice none 0 0),.msl 6 0 1,.msl 7 0 (List.length r)]],.xs 10 [[sA [102],.lit (.slice none 0 0),sA [73],bA false,bA true,iA 0,iA 0,.lit (.slice none 0 0),.lit (.slice none 0 0),.lit (.slice none 0 0)]],.xs 1 [[sA [70,97,99,101]]],.xs 3 [[sA [120],sA [73],bA false],[sA [115],sA [73],bA true]],.xs 10 [[sA [102],.lit (.slice none 0 0),sA [73],bA false,bA false,iA 1,iA 1,.msl 5 0 2,.lit (.slice none 0 0),.lit (.slice none 0 0)]],.xs 4 [[iA 1,iA 5,sA [],sA []],[iA 47,iA 0,sA [],sA []]],.xs 3 [[sA [121],sA [91,65,97],bA false]],.many 10 (List.map rApiMethod r)]:=by
 refine ⟨⟨j5,j5,j5,j5,j5,j5,j5,sbOk (sz:=10) (fun _=>j0),j5⟩,scall_fn Tryz.func39 j0 (by kernel_rfl) j0 ?_⟩
 unfold law10_one at h
 refine rg j0<|u<|asg j0<|r_nil ?_
 refine rg j0<|u<|sc [] (law7_Two_ok j0) j0 j0 j0 j0 j5 j5<|r_can (env0:=[(0,.isl 1 (List.map rStr v1)),(1,sA v2),(2,iA v3),(3,iA v4),(4,.isl 4 (List.map rApiIns v5)),(5,.isl 3 (List.map rApiMap v6)),(6,.isl 4 (List.map rApiTrap v7)),(16,.msl 0 0 3)]) (st0:=[some (6,[[sA [70,97,99,101],sA [79,98,106,101,99,116],bA true,.lit (.slice none 0 0),.lit (.slice none 0 0),.msl 1 0 1],[sA [65,97],sA [79,98,106,101,99,116],bA false,.msl 2 0 1,.msl 3 0 2,.msl 4 0 1],[sA [66,98],sA [65,97],bA false,.lit (.slice none 0 0),.msl 6 0 1,.msl 7 0 1]]),some (10,[[sA [102],.lit (.slice none 0 0),sA [73],bA false,bA true,iA 0,iA 0,.lit (.slice none 0 0),.lit (.slice none 0 0),.lit (.slice none 0 0)]]),some (1,[[sA [70,97,99,101]]]),some (3,[[sA [120],sA [73],bA false],[sA [115],sA [73],bA true]]),some (10,[[sA [102],.lit (.slice none 0 0),sA [73],bA false,bA false,iA 1,iA 1,.msl 5 0 2,.lit (.slice none 0 0),.lit (.slice none 0 0)]]),some (4,[[iA 1,iA 5,sA [],sA []],[iA 47,iA 0,sA [],sA []]]),some (3,[[sA [121],sA [91,65,97],bA false]]),some (10,[[sA [109,97,105,110],.lit (.slice none 0 0),sA [86],bA true,bA false,iA 0,iA 0,.msl 8 0 1,.lit (.slice none 0 0),.lit (.slice none 0 0)]]),some (4,[[iA 46,iA 0,sA [],sA []]])]) ⟨[.old 0,.old 1,.old 2,.old 3,.old 4,.old 5,.old 6,.old 7,.old 8],ce j0 j0<|ce j0 j0<|ce j0 j0<|ce j0 j0<|ce j0 j0<|ce j0 j0<|ce j0 j0<|cv j0 (.msl j0)<|cn,j0,⟨⟨_,j0,rsRows ⟨⟨(ci j0),(ci j0),(ci j0),(ci j0),(ci j0),(.msl j0),j5⟩,⟨(ci j0),(ci j0),(ci j0),(.msl j0),(.msl j0),(.msl j0),j5⟩,⟨(ci j0),(ci j0),(ci j0),(ci j0),(.msl j0),(.msl j0),j5⟩,j5⟩⟩,⟨_,j0,rsRows ⟨⟨(ci j0),(ci j0),(ci j0),(ci j0),(ci j0),(ci j0),(ci j0),(ci j0),(ci j0),(ci j0),j5⟩,j5⟩⟩,⟨_,j0,rsRows ⟨⟨(ci j0),j5⟩,j5⟩⟩,⟨_,j0,rsRows ⟨⟨(ci j0),(ci j0),(ci j0),j5⟩,⟨(ci j0),(ci j0),(ci j0),j5⟩,j5⟩⟩,⟨_,j0,rsRows ⟨⟨(ci j0),(ci j0),(ci j0),(ci j0),(ci j0),(ci j0),(ci j0),(.msl j0),(ci j0),(ci j0),j5⟩,j5⟩⟩,⟨_,j0,rsRows ⟨⟨(ci j0),(ci j0),(ci j0),(ci j0),j5⟩,⟨(ci j0),(ci j0),(ci j0),(ci j0),j5⟩,j5⟩⟩,⟨_,j0,rsRows ⟨⟨(ci j0),(ci j0),(ci j0),j5⟩,j5⟩⟩,⟨_,j0,rsRows ⟨⟨(ci j0),(ci j0),(ci j0),(ci j0),(ci j0),(ci j0),(ci j0),(.msl j0),(ci j0),(ci j0),j5⟩,j5⟩⟩,⟨_,j0,rsRows ⟨⟨(ci j0),(ci j0),(ci j0),(ci j0),j5⟩,j5⟩⟩,j5⟩,j0,j1⟩<|u<|asg j0<|r_nil ?_
 obtain ⟨v8,q1,h⟩:=bs h
 refine rg j0<|u<|mv j0<|u<|mv j0<|u<|ixX ti24 j0 ti29 j0 j0 j0<|u<|fa ti29 j0 j0 j0<|u<|ld ti27 j0 j0<|u<|mv j0<|u<|mv j0<|u<|mv j0<|u<|mv j0<|u<|mv j0<|u<|mv j0<|u<|mv j0<|u<|bd (parts:=[(0,sA [103]),(1,.isl 1 (List.map rStr v1)),(2,sA v2),(5,iA v3),(6,iA v4),(7,.isl 4 (List.map rApiIns v5)),(8,.isl 3 (List.map rApiMap v6)),(9,.isl 4 (List.map rApiTrap v7))]) (cs:=[sA [103],.isl 1 (List.map rStr v1),sA v2,bA false,bA false,iA v3,iA v4,.isl 4 (List.map rApiIns v5),.isl 3 (List.map rApiMap v6),.isl 4 (List.map rApiTrap v7)]) ti76 j0 j0 (by kernel_rfl)<|u<|bl 9 ti27 j0 ti76 j0 (by decide) (by decide) j0 j0 j0<|r_can (env0:=[(15,.msl 0 0 3),(17,.msl 0 0 3),(21,.msl 7 0 (List.length ([(ApiMethod.mk [109,97,105,110] [] [86] true false 0 0 ([(ApiIns.mk 46 0 [] [])]) [] [])]))),(30,.msl 8 0 (List.length ([(ApiMethod.mk [103] v1 v2 false false v3 v4 v5 v6 v7)])))]) (st0:=[some (6,[[sA [70,97,99,101],sA [79,98,106,101,99,116],bA true,.lit (.slice none 0 0),.lit (.slice none 0 0),.msl 1 0 1],[sA [65,97],sA [79,98,106,101,99,116],bA false,.msl 2 0 1,.msl 3 0 2,.msl 4 0 1],[sA [66,98],sA [65,97],bA false,.lit (.slice none 0 0),.msl 6 0 1,.msl 7 0 (List.length ([(ApiMethod.mk [109,97,105,110] [] [86] true false 0 0 ([(ApiIns.mk 46 0 [] [])]) [] [])]))]]),some (10,[[sA [102],.lit (.slice none 0 0),sA [73],bA false,bA true,iA 0,iA 0,.lit (.slice none 0 0),.lit (.slice none 0 0),.lit (.slice none 0 0)]]),some (1,[[sA [70,97,99,101]]]),some (3,[[sA [120],sA [73],bA false],[sA [115],sA [73],bA true]]),some (10,[[sA [102],.lit (.slice none 0 0),sA [73],bA false,bA false,iA 1,iA 1,.msl 5 0 2,.lit (.slice none 0 0),.lit (.slice none 0 0)]]),some (4,[[iA 1,iA 5,sA [],sA []],[iA 47,iA 0,sA [],sA []]]),some (3,[[sA [121],sA [91,65,97],bA false]]),some (10,List.map rApiMethod ([(ApiMethod.mk [109,97,105,110] [] [86] true false 0 0 ([(ApiIns.mk 46 0 [] [])]) [] [])])),some (10,List.map rApiMethod ([(ApiMethod.mk [103] v1 v2 false false v3 v4 v5 v6 v7)]))]) ⟨[.old 0,.old 1,.old 2,.old 3,.old 4,.old 5,.old 6,.old 7,.old 9],cv j0 (.msl j0)<|cv j0 (.msl j0)<|cv j0 (.msl j0)<|cv j0 (.msl j0)<|cn,j0,⟨⟨_,j0,rsRows ⟨⟨(ci j0),(ci j0),(ci j0),(ci j0),(ci j0),(.msl j0),j5⟩,⟨(ci j0),(ci j0),(ci j0),(.msl j0),(.msl j0),(.msl j0),j5⟩,⟨(ci j0),(ci j0),(ci j0),(ci j0),(.msl j0),(.msl j0),j5⟩,j5⟩⟩,⟨_,j0,rsRows ⟨⟨(ci j0),(ci j0),(ci j0),(ci j0),(ci j0),(ci j0),(ci j0),(ci j0),(ci j0),(ci j0),j5⟩,j5⟩⟩,⟨_,j0,rsRows ⟨⟨(ci j0),j5⟩,j5⟩⟩,⟨_,j0,rsRows ⟨⟨(ci j0),(ci j0),(ci j0),j5⟩,⟨(ci j0),(ci j0),(ci j0),j5⟩,j5⟩⟩,⟨_,j0,rsRows ⟨⟨(ci j0),(ci j0),(ci j0),(ci j0),(ci j0),(ci j0),(ci j0),(.msl j0),(ci j0),(ci j0),j5⟩,j5⟩⟩,⟨_,j0,rsRows ⟨⟨(ci j0),(ci j0),(ci j0),(ci j0),j5⟩,⟨(ci j0),(ci j0),(ci j0),(ci j0),j5⟩,j5⟩⟩,⟨_,j0,rsRows ⟨⟨(ci j0),(ci j0),(ci j0),j5⟩,j5⟩⟩,⟨_,j0,rsRows ⟨⟨(ci j0),(.nil),(ci j0),(ci j0),(ci j0),(ci j0),(ci j0),(rsSealX j0 j0 ⟨⟨⟨ci j0,ci j0,ci j0,ci j0,j5⟩,j0⟩,j5⟩),(.nil),(.nil),j5⟩,j5⟩⟩,⟨_,j0,rsRows ⟨⟨(ci j0),(ci j0),(ci j0),(ci j0),(ci j0),(ci j0),(ci j0),(ci j0),(ci j0),(ci j0),j5⟩,j5⟩⟩,j5⟩,j0,j1⟩<|u<|apM 9 ti27 j0 ti76 j0 j0 (by decide) ti27 j0 j0 j0 j0 (roM j0) (fun _=>j0) j0 q1<|u<|ixX ti24 j0 ti29 j0 j0 j0<|u<|fa ti29 j0 j0 j0<|u<|sto ti27 j0 j0 j0<|r_nil ?_
 refine rg j0<|u<|mv j0<|u<|asg j0<|r_nil ?_
 refine sw_ret ?_
 obtain rfl:=sm h
 exact ⟨_,j0,[.old 0,.old 1,.old 2,.old 3,.old 4,.old 5,.old 6,.old 9],.msl j0,j0,⟨⟨_,j0,rsRows ⟨⟨(ci j0),(ci j0),(ci j0),(ci j0),(ci j0),(.msl j0),j5⟩,⟨(ci j0),(ci j0),(ci j0),(.msl j0),(.msl j0),(.msl j0),j5⟩,⟨(ci j0),(ci j0),(ci j0),(ci j0),(.msl j0),(.msl j0),j5⟩,j5⟩⟩,⟨_,j0,rsRows ⟨⟨(ci j0),(ci j0),(ci j0),(ci j0),(ci j0),(ci j0),(ci j0),(ci j0),(ci j0),(ci j0),j5⟩,j5⟩⟩,⟨_,j0,rsRows ⟨⟨(ci j0),j5⟩,j5⟩⟩,⟨_,j0,rsRows ⟨⟨(ci j0),(ci j0),(ci j0),j5⟩,⟨(ci j0),(ci j0),(ci j0),j5⟩,j5⟩⟩,⟨_,j0,rsRows ⟨⟨(ci j0),(ci j0),(ci j0),(ci j0),(ci j0),(ci j0),(ci j0),(.msl j0),(ci j0),(ci j0),j5⟩,j5⟩⟩,⟨_,j0,rsRows ⟨⟨(ci j0),(ci j0),(ci j0),(ci j0),j5⟩,⟨(ci j0),(ci j0),(ci j0),(ci j0),j5⟩,j5⟩⟩,⟨_,j0,rsRows ⟨⟨(ci j0),(ci j0),(ci j0),j5⟩,j5⟩⟩,⟨_,j0,rsMap (fun _=>j0)⟩,j5⟩,j0,j1⟩
def law10_runs (v1 : List ApiClass) : Option (Bool × Bool) :=
  (hier_New v1).bind fun v2=>(verify_Method v2.1 [66,98] 1).bind fun v3=>some (v3,(v2.2 == (0 : Int)))
theorem law10_runs_ok (v1 : List ApiClass) {r : Bool × Bool} (h : law10_runs v1 = some r) : PureC Tryz.prog 42 [.isl 6 (List.map rApiClass v1)] (.tup [bA r.1,bA r.2]):=by
 refine pure_fn Tryz.func42 j0 (by kernel_rfl) j0 j0 ?_
 unfold law10_runs at h
 refine rg j0<|u<|asg j0<|u<|asg j0<|r_nil ?_
 obtain ⟨v2,q1,h⟩:=bs h
 refine rg j0<|u<|mv j0<|u<|pc (hier_New_ok v1 q1) j0 j0 j0<|u<|mv j0<|u<|ex j0 j0<|u<|ex j0 j0<|u<|asg j0<|u<|asg j0<|r_nil ?_
 obtain ⟨v3,q2,h⟩:=bs h
 refine rg j0<|u<|mv j0<|u<|pc (verify_Method_ok v2.1 [66,98] 1 q2) j0 j0 (immC (immP (fun _=>j0)) (j0))<|u<|mv j0<|u<|eql ti33 j0 j0<|u<|asg j0<|u<|asg j0<|r_nil ?_
 refine sw_ret ?_
 obtain rfl:=sm h
 exact ⟨_,j0,[],rsTup ⟨(ci j0),(ci j0),j5⟩,j0,j5,j0,j1⟩
def law10_VerifyDead_j4 (v2 : Bool) (v8 : List ApiIns) (v9 : List ApiMap) : Option (Bool) :=
  (law10_one [] [86] 1 2 v8 v9 []).bind fun v10=>(law10_runs ([(ApiClass.mk [70,97,99,101] [79,98,106,101,99,116] true [] [] ([(ApiMethod.mk [102] [] [73] false true 0 0 [] [] [])])),(ApiClass.mk [65,97] [79,98,106,101,99,116] false ([[70,97,99,101]]) ([(ApiField.mk [120] [73] false),(ApiField.mk [115] [73] true)]) ([(ApiMethod.mk [102] [] [73] false false 1 1 ([(ApiIns.mk 1 5 [] []),(ApiIns.mk 47 0 [] [])]) [] [])])),(ApiClass.mk [66,98] [65,97] false [] ([(ApiField.mk [121] [91,65,97] false)]) v10)])).bind fun v11=>some (v11.2 && (v11.1 == v2))
def law10_VerifyDead_j3 (v2 : Bool) (v6 : List ApiIns) (v8 : List ApiIns) : Option (Bool) :=
  cond v2 (law10_VerifyDead_j4 v2 v8 ([(ApiMap.mk (IntKind.i64.wrap (((List.length v6) : Int) - 1)) ([[66,98]]) [])])) (law10_VerifyDead_j4 v2 v8 [])
def law10_VerifyDead_j2 (v1 : Int) (v2 : Bool) (v6 : List ApiIns) : Option (Bool) :=
  cond (v1 == (20 : Int)) ((idx v6 2).bind fun v7=>law10_VerifyDead_j3 v2 v6 (List.set v6 (Int.toNat 2) (ApiIns.mk v7.Op (IntKind.i64.wrap (((List.length v6) : Int) - 1)) v7.C v7.M))) (law10_VerifyDead_j3 v2 v6 v6)
def law10_VerifyDead_j1 (v1 : Int) (v2 : Bool) (v5 : List ApiIns) : Option (Bool) :=
  cond (v1 == (61 : Int)) (law10_VerifyDead_j2 v1 v2 ([(ApiIns.mk 1 0 [] []),(ApiIns.mk 61 0 [] []),(ApiIns.mk 46 0 [] [])])) (law10_VerifyDead_j2 v1 v2 v5)
def law10_VerifyDead (v1 : Int) (v2 : Bool) (v3 : Int) : Option (Bool) :=
  (law10_begun).bind fun v4=>cond (!v4) (some false) (cond ((((!(v1 == (46 : Int))) && (!(v1 == (58 : Int)))) && (!(v1 == (61 : Int)))) && (!(v1 == (20 : Int)))) (some true) (cond (v1 == (58 : Int)) (law10_VerifyDead_j1 v1 v2 ([(ApiIns.mk 2 0 [] []),(ApiIns.mk 58 0 [] []),(ApiIns.mk 46 0 [] [])])) (law10_VerifyDead_j1 v1 v2 ([(ApiIns.mk 1 0 [] []),(ApiIns.mk 5 0 [] []),(ApiIns.mk v1 0 [] []),(ApiIns.mk 46 0 [] [])]))))
theorem law10_VerifyDead_ok (v1 : Int) (v2 : Bool) (v3 : Int) {r : Bool} (h : law10_VerifyDead v1 v2 v3 = some r) : PureC Tryz.prog 13 [iA v1,bA v2,iA v3] (bA r):=by
 refine pure_fn Tryz.func13 j0 (by kernel_rfl) j0 j0 ?_
 unfold law10_VerifyDead at h
 refine rg j0<|u<|asg j0<|r_nil ?_
 obtain ⟨v4,q1,h⟩:=bs h
 refine rg j0<|u<|pc (law10_begun_ok q1) j0 j0 j0<|u<|asg j0<|r_nil ?_
 refine sw_seq ?_
 refine rg j0<|u<|mv j0<|u<|nt j0<|r_nil ?_
 refine sw_cond j0 (fun hc2=>?_) (fun hc2=>?_)
 ·
  replace h:=bT hc2 h
  refine rg j0<|u<|asg j0<|r_nil ?_
  refine sw_ret ?_
  obtain rfl:=sm h
  exact ⟨_,j0,[],ci j0,j0,j5,j0,j1⟩
 ·
  replace h:=bF hc2 h
  refine sw_skip ?_
  refine sw_seq ?_
  refine rg j0<|u<|mv j0<|u<|neq ti3 j0 j0<|u<|mv j0<|r_and (j:=2) 2 j0 j0 j0 j0 j0 gpn (fun hb3=>g j0 hb3<|mv j0<|g j0 hb3<|neq ti3 j0 j0<|r_nil (egA [19,20] 2 hb3 j0 j0 j0 j0)) andF<|u<|mv j0<|r_and (j:=6) 2 j0 j0 j0 j0 j0 gpn (fun hb4=>g j0 hb4<|mv j0<|g j0 hb4<|neq ti3 j0 j0<|r_nil (egA [23,24] 2 hb4 j0 j0 j0 j0)) andF<|u<|mv j0<|r_and (j:=10) 2 j0 j0 j0 j0 j0 gpn (fun hb5=>g j0 hb5<|mv j0<|g j0 hb5<|neq ti3 j0 j0<|r_nil (egA [27,28] 2 hb5 j0 j0 j0 j0)) andF<|r_nil ?_
  refine sw_cond j0 (fun hc6=>?_) (fun hc6=>?_)
  ·
   replace h:=bT hc6 h
   refine rg j0<|u<|asg j0<|r_nil ?_
   refine sw_ret ?_
   obtain rfl:=sm h
   exact ⟨_,j0,[],ci j0,j0,j5,j0,j1⟩
  ·
   replace h:=bF hc6 h
   refine sw_skip ?_
   refine rg j0<|u<|bd ti69 j0 j0 j0<|u<|bd ti69 j0 j0 j0<|u<|mv j0<|u<|bd ti69 j0 j0 j0<|u<|bd ti69 j0 j0 j0<|u<|bl 0 ti72 j0 ti69 j0 (by decide) (by decide) j0 j0 j0<|u<|asg j0<|r_nil ?_
   refine sw_meet (X:=(List ApiIns)) (fun z=>[(0,iA v1),(1,bA v2),(8,.msl 0 0 (List.length z))]) (fun z=>[some (4,List.map rApiIns z)]) (fun z=>law10_VerifyDead_j1 v1 v2 z = some r) ?_ ?_
   ·
    refine rg j0<|u<|mv j0<|u<|eql ti3 j0 j0<|r_nil ?_
    refine sw_cond j0 (fun hc7=>?_) (fun hc7=>?_)
    ·
     replace h:=bT hc7 h
     exact rl j0<|u<|bd ti69 j0 j0 j0<|u<|bd ti69 j0 j0 j0<|u<|bd ti69 j0 j0 j0<|u<|bl 1 ti72 j0 ti69 j0 (by decide) (by decide) j0 j0 j0<|u<|asg j0<|r_nil (⟨[(ApiIns.mk 2 0 [] []),(ApiIns.mk 58 0 [] []),(ApiIns.mk 46 0 [] [])],h,[.old 1],ce j0 j0<|ce j0 j0<|cv j0 (.msl j0)<|cn,j0,⟨⟨_,j0,rsRows ⟨⟨(ci j0),(ci j0),(ci j0),(ci j0),j5⟩,⟨(ci j0),(ci j0),(ci j0),(ci j0),j5⟩,⟨(ci j0),(ci j0),(ci j0),(ci j0),j5⟩,j5⟩⟩,j5⟩,j0,j1⟩)
    ·
     replace h:=bF hc7 h
     refine sw_skip ?_
     exact ⟨[(ApiIns.mk 1 0 [] []),(ApiIns.mk 5 0 [] []),(ApiIns.mk v1 0 [] []),(ApiIns.mk 46 0 [] [])],h,[.old 0],ce j0 j0<|ce j0 j0<|cv j0 (.msl j0)<|cn,j0,⟨⟨_,j0,rsRows ⟨⟨(ci j0),(ci j0),(ci j0),(ci j0),j5⟩,⟨(ci j0),(ci j0),(ci j0),(ci j0),j5⟩,⟨(ci j0),(ci j0),(ci j0),(ci j0),j5⟩,⟨(ci j0),(ci j0),(ci j0),(ci j0),j5⟩,j5⟩⟩,j5⟩,j0,j1⟩
   ·
    rintro v5 h
    replace h : law10_VerifyDead_j1 v1 v2 v5 = some r:=h
    unfold law10_VerifyDead_j1 at h
    refine sw_meet (X:=(List ApiIns)) (fun z=>[(0,iA v1),(1,bA v2),(8,.msl 0 0 (List.length z))]) (fun z=>[some (4,List.map rApiIns z)]) (fun z=>law10_VerifyDead_j2 v1 v2 z = some r) ?_ ?_
    ·
     refine rg j0<|u<|mv j0<|u<|eql ti3 j0 j0<|r_nil ?_
     refine sw_cond j0 (fun hc8=>?_) (fun hc8=>?_)
     ·
      replace h:=bT hc8 h
      exact rl j0<|u<|bd ti69 j0 j0 j0<|u<|bd ti69 j0 j0 j0<|u<|bd ti69 j0 j0 j0<|u<|bl 1 ti72 j0 ti69 j0 (by decide) (by decide) j0 j0 j0<|u<|asg j0<|r_nil (⟨[(ApiIns.mk 1 0 [] []),(ApiIns.mk 61 0 [] []),(ApiIns.mk 46 0 [] [])],h,[.old 1],ce j0 j0<|ce j0 j0<|cv j0 (.msl j0)<|cn,j0,⟨⟨_,j0,rsRows ⟨⟨(ci j0),(ci j0),(ci j0),(ci j0),j5⟩,⟨(ci j0),(ci j0),(ci j0),(ci j0),j5⟩,⟨(ci j0),(ci j0),(ci j0),(ci j0),j5⟩,j5⟩⟩,j5⟩,j0,j1⟩)
     ·
      replace h:=bF hc8 h
      refine sw_skip ?_
      exact ⟨v5,h,[.old 0],ce j0 j0<|ce j0 j0<|cv j0 (.msl j0)<|cn,j0,⟨⟨_,j0,rsMap (fun _=>j0)⟩,j5⟩,j0,j1⟩
    ·
     rintro v6 h
     replace h : law10_VerifyDead_j2 v1 v2 v6 = some r:=h
     unfold law10_VerifyDead_j2 at h
     refine rg j0<|u<|mv j0<|u<|lnM ti72 j0 j0 j0<|u<|sub ti3 j0 j0<|u<|asg j0<|r_nil ?_
     refine sw_meet (X:=(List ApiIns)) (fun z=>[(1,bA v2),(8,.msl 0 0 (List.length z)),(9,iA (IntKind.i64.wrap (((List.length v6) : Int) - 1)))]) (fun z=>[some (4,List.map rApiIns z)]) (fun z=>law10_VerifyDead_j3 v2 v6 z = some r) ?_ ?_
     ·
      refine rg j0<|u<|mv j0<|u<|eql ti3 j0 j0<|r_nil ?_
      refine sw_cond j0 (fun hc9=>?_) (fun hc9=>?_)
      ·
       replace h:=bT hc9 h
       obtain ⟨v7,q10,h⟩:=bs h
       exact rl j0<|u<|mv j0<|u<|mv j0<|u<|ixM ti72 j0 ti69 j0 j0 j0 j0 q10<|u<|fa ti69 j0 j0 j0<|u<|stoM (c':=(ApiIns.mk v7.Op (IntKind.i64.wrap (((List.length v6) : Int) - 1)) v7.C v7.M)) ti3 j0 j0 (idx_some q10).2.2 j0 j0 j0 j0 j0<|r_nil (⟨(List.set v6 (Int.toNat 2) (ApiIns.mk v7.Op (IntKind.i64.wrap (((List.length v6) : Int) - 1)) v7.C v7.M)),h,[.old 0],ce j0 j0<|cv j0 (mslE (by simp) j0)<|ce j0 j0<|cn,j0,⟨⟨_,j0,rsMap (fun _=>j0)⟩,j5⟩,j0,j1⟩)
      ·
       replace h:=bF hc9 h
       refine sw_skip ?_
       exact ⟨v6,h,[.old 0],ce j0 j0<|cv j0 (.msl j0)<|ce j0 j0<|cn,j0,⟨⟨_,j0,rsMap (fun _=>j0)⟩,j5⟩,j0,j1⟩
     ·
      rintro v8 h
      replace h : law10_VerifyDead_j3 v2 v6 v8 = some r:=h
      unfold law10_VerifyDead_j3 at h
      refine rg j0<|u<|asg j0<|r_nil ?_
      refine sw_meet (X:=(List ApiMap)) (fun z=>[(1,bA v2),(8,.msl 0 0 (List.length v8)),(10,.msl 1 0 (List.length z))]) (fun z=>[some (4,List.map rApiIns v8),some (3,List.map rApiMap z)]) (fun z=>law10_VerifyDead_j4 v2 v8 z = some r) ?_ ?_
      ·
       refine rg j0<|u<|mv j0<|r_nil ?_
       refine sw_cond j0 (fun hc11=>?_) (fun hc11=>?_)
       ·
        replace h:=bT hc11 h
        exact rl j0<|u<|mv j0<|u<|bl 1 ti25 j0 ti9 j0 (by decide) (by decide) j0 j0 j0<|u<|bd ti78 j0 j0 j0<|u<|bl 2 ti73 j0 ti78 j0 (by decide) (by decide) j0 j0 j0<|u<|asg j0<|r_nil (⟨[(ApiMap.mk (IntKind.i64.wrap (((List.length v6) : Int) - 1)) ([[66,98]]) [])],h,[.old 0,.old 2],ce j0 j0<|cv j0 (.msl j0)<|cv j0 (.msl j0)<|cn,j0,⟨⟨_,j0,rsMap (fun _=>j0)⟩,⟨_,j0,rsRows ⟨⟨(ci j0),(rsSealX j0 j0 ⟨⟨⟨ci j0,j5⟩,j0⟩,j5⟩),(.nil),j5⟩,j5⟩⟩,j5⟩,j0,j1⟩)
       ·
        replace h:=bF hc11 h
        refine sw_skip ?_
        exact ⟨[],h,[.old 0,.fresh 3],ce j0 j0<|cv j0 (.msl j0)<|cv j0 (.nilown j0)<|cn,j0,⟨⟨_,j0,rsMap (fun _=>j0)⟩,j4,j5⟩,j0,j1⟩
      ·
       rintro v9 h
       replace h : law10_VerifyDead_j4 v2 v8 v9 = some r:=h
       unfold law10_VerifyDead_j4 at h
       obtain ⟨v10,q12,h⟩:=bs h
       obtain ⟨v11,q13,h⟩:=bs h
       refine rg j0<|u<|mv j0<|u<|mv j0<|r_can (env0:=[(1,bA v2),(63,.isl 4 (List.map rApiIns v8)),(64,.isl 3 (List.map rApiMap v9))]) (st0:=[]) ⟨[],ce j0 j0<|cv j0 (rsSeal j0 j0 (fun _=>j0))<|cv j0 (rsSeal j0 j0 (fun _=>j0))<|cn,j0,j5,j0,j1⟩<|u<|sc [] (law10_one_ok [] [86] 1 2 v8 v9 [] q12) j0 j0 j0 j0 ⟨(.nilI),(rnI j0),(rnI j0),(rnI j0),(rnI j0),(rnI j0),(.nilI),j5⟩ j5<|u<|pcs (law10_runs_ok ([(ApiClass.mk [70,97,99,101] [79,98,106,101,99,116] true [] [] ([(ApiMethod.mk [102] [] [73] false true 0 0 [] [] [])])),(ApiClass.mk [65,97] [79,98,106,101,99,116] false ([[70,97,99,101]]) ([(ApiField.mk [120] [73] false),(ApiField.mk [115] [73] true)]) ([(ApiMethod.mk [102] [] [73] false false 1 1 ([(ApiIns.mk 1 5 [] []),(ApiIns.mk 47 0 [] [])]) [] [])])),(ApiClass.mk [66,98] [65,97] false [] ([(ApiField.mk [121] [91,65,97] false)]) v10)]) q13) j0 j0 (.cons (sealX j0 ⟨⟨(si j0),(si j0),(si j0),(.nil),(.nil),(sealX j0 ⟨⟨(si j0),(.nil),(si j0),(si j0),(si j0),(si j0),(si j0),(.nil),(.nil),(.nil),j5⟩,j5⟩),j5⟩,⟨(si j0),(si j0),(si j0),(sealX j0 ⟨⟨(si j0),j5⟩,j5⟩),(sealX j0 ⟨⟨(si j0),(si j0),(si j0),j5⟩,⟨(si j0),(si j0),(si j0),j5⟩,j5⟩),(sealX j0 ⟨⟨(si j0),(.nil),(si j0),(si j0),(si j0),(si j0),(si j0),(sealX j0 ⟨⟨(si j0),(si j0),(si j0),(si j0),j5⟩,⟨(si j0),(si j0),(si j0),(si j0),j5⟩,j5⟩),(.nil),(.nil),j5⟩,j5⟩),j5⟩,⟨(si j0),(si j0),(si j0),(.nil),(sealX j0 ⟨⟨(si j0),(si j0),(si j0),j5⟩,j5⟩),(sealM j0 (fun _=>j0)),j5⟩,j5⟩) .nil) plainB<|u<|mv j0<|u<|ex j0 j0<|u<|ex j0 j0<|u<|asg j0<|u<|asg j0<|r_nil ?_
       refine rg j0<|u<|mv j0<|u<|mv j0<|r_and (j:=1) 3 j0 j0 j0 j0 j0 gpn (fun hb14=>g j0 hb14<|mv j0<|g j0 hb14<|mv j0<|g j0 hb14<|beq ti4 j0 j0 j0<|r_nil (egA [71,72,73] 3 hb14 j0 j0 j0 j0)) andF<|u<|asg j0<|r_nil ?_
       refine sw_ret ?_
       obtain rfl:=sm h
       exact ⟨_,j0,[],ci j0,j0,j5,j0,j1⟩
end
end Go.Proofs.YtjbdfkapnffjnaaGreat
namespace Go.Proofs.YtjbdfkapnffjnaaGreat
noncomputable section
set_option linter.unusedSimpArgs false
set_option linter.unusedVariables false
set_option maxRecDepth 100000
set_option maxHeartbeats 4000000
def law10_small (v1 : Int) : Option (Int) :=
  (remP v1 8).bind fun v2=>(remP (IntKind.i64.wrap (v2 + 8)) 8).bind fun v3=>some v3
theorem law10_small_ok (v1 : Int) {r : Int} (h : law10_small v1 = some r) : PureC Tryz.prog 41 [iA v1] (iA r):=by
 refine pure_fn Tryz.func41 j0 (by kernel_rfl) j0 j0 ?_
 unfold law10_small at h
 refine rg j0<|u<|asg j0<|r_nil ?_
 obtain ⟨v2,q1,h⟩:=bs h
 obtain ⟨v3,q2,h⟩:=bs h
 refine rg j0<|u<|mv j0<|u<|rem ti3 j0 j0 q1<|u<|add ti3 j0 j0<|u<|rem ti3 j0 j0 q2<|u<|asg j0<|r_nil ?_
 refine sw_ret ?_
 obtain rfl:=sm h
 exact ⟨_,j0,[],ci j0,j0,j5,j0,j1⟩
def law10_VerifyReturn (v1 : Int) (v2 : Int) (v3 : Int) : Option (Bool) :=
  (law10_begun).bind fun v4=>cond (!v4) (some false) ((law10_small v1).bind fun v6=>(idx ([[86],[73],[79,98,106,101,99,116],[65,97],[66,98],[91,73],[91,65,97],[91,66,98]]) v6).bind fun v7=>(law10_small v2).bind fun v8=>(idx ([[86],[73],[79,98,106,101,99,116],[65,97],[66,98],[91,73],[91,65,97],[91,66,98]]) v8).bind fun v9=>cond (v9 == [86]) (some true) ((remP v3 3).bind fun v10=>(remP (IntKind.i64.wrap (v10 + 3)) 3).bind fun v11=>(idx [46,47,48] v11).bind fun v12=>(law10_one [v9] v7 2 2 ([(ApiIns.mk 3 1 [] []),(ApiIns.mk v12 0 [] [])]) [] []).bind fun v13=>(law10_runs ([(ApiClass.mk [70,97,99,101] [79,98,106,101,99,116] true [] [] ([(ApiMethod.mk [102] [] [73] false true 0 0 [] [] [])])),(ApiClass.mk [65,97] [79,98,106,101,99,116] false ([[70,97,99,101]]) ([(ApiField.mk [120] [73] false),(ApiField.mk [115] [73] true)]) ([(ApiMethod.mk [102] [] [73] false false 1 1 ([(ApiIns.mk 1 5 [] []),(ApiIns.mk 47 0 [] [])]) [] [])])),(ApiClass.mk [66,98] [65,97] false [] ([(ApiField.mk [121] [91,65,97] false)]) v13)])).bind fun v14=>some (v14.2 && (v14.1 == ((((v12 == (46 : Int)) && (v7 == [86])) || (((v12 == (47 : Int)) && (v7 == [73])) && (v9 == [73]))) || (((((v12 == (48 : Int)) && (!(v7 == [86]))) && (!(v7 == [73]))) && (!(v9 == [73]))) && ((((v7 == v9) || ((v7 == [79,98,106,101,99,116]) && (!(v9 == [73])))) || ((v7 == [65,97]) && (v9 == [66,98]))) || ((v7 == [91,65,97]) && (v9 == [91,66,98])))))))))
theorem law10_VerifyReturn_ok (v1 : Int) (v2 : Int) (v3 : Int) {r : Bool} (h : law10_VerifyReturn v1 v2 v3 = some r) : PureC Tryz.prog 11 [iA v1,iA v2,iA v3] (bA r):=by
 refine pure_fn Tryz.func11 j0 (by kernel_rfl) j0 j0 ?_
 unfold law10_VerifyReturn at h
 refine rg j0<|u<|asg j0<|r_nil ?_
 obtain ⟨v4,q1,h⟩:=bs h
 refine rg j0<|u<|pc (law10_begun_ok q1) j0 j0 j0<|u<|asg j0<|r_nil ?_
 refine sw_seq ?_
 refine rg j0<|u<|mv j0<|u<|nt j0<|r_nil ?_
 refine sw_cond j0 (fun hc2=>?_) (fun hc2=>?_)
 ·
  replace h:=bT hc2 h
  refine rg j0<|u<|asg j0<|r_nil ?_
  refine sw_ret ?_
  obtain rfl:=sm h
  exact ⟨_,j0,[],ci j0,j0,j5,j0,j1⟩
 ·
  replace h:=bF hc2 h
  refine sw_skip ?_
  refine rg j0<|u<|bl 0 ti25 j0 ti9 j0 (by decide) (by decide) j0 j0 j0<|u<|asg j0<|r_nil ?_
  refine sw_can (env0:=[(0,iA v1),(1,iA v2),(2,iA v3),(8,.msl 0 0 (List.length ([[86],[73],[79,98,106,101,99,116],[65,97],[66,98],[91,73],[91,65,97],[91,66,98]])))]) (st0:=[some (1,List.map rStr ([[86],[73],[79,98,106,101,99,116],[65,97],[66,98],[91,73],[91,65,97],[91,66,98]]))]) ⟨[.old 0],ce j0 j0<|ce j0 j0<|ce j0 j0<|cv j0 (.msl j0)<|cn,j0,⟨⟨_,j0,rsRows ⟨⟨(ci j0),j5⟩,⟨(ci j0),j5⟩,⟨(ci j0),j5⟩,⟨(ci j0),j5⟩,⟨(ci j0),j5⟩,⟨(ci j0),j5⟩,⟨(ci j0),j5⟩,⟨(ci j0),j5⟩,j5⟩⟩,j5⟩,j0,j1⟩ ?_
  obtain ⟨v6,q4,h⟩:=bs h
  obtain ⟨v7,q5,h⟩:=bs h
  obtain ⟨v8,q6,h⟩:=bs h
  obtain ⟨v9,q7,h⟩:=bs h
  refine rd [(2,iA v3),(9,sA v7),(10,sA v9)] [] [] [11,10,9,8,7,6,5,4,3,2,1,0] [(10,sA v9),(9,sA v7),(30,sA v9),(29,.mpt 0 (Int.toNat v8) 0),(28,iA v8),(27,iA v2),(26,.msl 0 0 (List.length ([[86],[73],[79,98,106,101,99,116],[65,97],[66,98],[91,73],[91,65,97],[91,66,98]]))),(25,sA v7),(24,.mpt 0 (Int.toNat v6) 0),(23,iA v6),(22,iA v1),(21,.msl 0 0 (List.length ([[86],[73],[79,98,106,101,99,116],[65,97],[66,98],[91,73],[91,65,97],[91,66,98]])))] 0 (by kernel_rfl) (by kernel_rfl) j0 (by kernel_rfl) (dt0 ⟨(fun _=>pa j0 j0 j0 j0 (asg j0<|j4)),(fun _=>pa j0 j0 j0 j0 (asg j0<|j4)),(fun _=>pa j0 j0 j0 j0 (ldM ti9 j0 j0 (idx_some q7).2.2 j0<|j4)),(fun _=>pa j0 j0 j0 j0 (ixM ti25 j0 ti9 j0 j0 j0 j0 q7<|j4)),(fun _=>pa j0 j0 j0 j0 (pc (law10_small_ok v2 q6) j0 j0 j0<|j4)),(fun _=>pa j0 j0 j0 j0 (mv j0<|j4)),(fun _=>pa j0 j0 j0 j0 (mv j0<|j4)),(fun _=>pa j0 j0 j0 j0 (ldM ti9 j0 j0 (idx_some q5).2.2 j0<|j4)),(fun _=>pa j0 j0 j0 j0 (ixM ti25 j0 ti9 j0 j0 j0 j0 q5<|j4)),(fun _=>pa j0 j0 j0 j0 (pc (law10_small_ok v1 q4) j0 j0 j0<|j4)),(fun _=>pa j0 j0 j0 j0 (mv j0<|j4)),(fun _=>pa j0 j0 j0 j0 (mv j0<|j4)),j5⟩ (by kernel_rfl) j0 ⟨[],ce j0 j0<|ce j0 j0<|ce j0 j0<|cn,j0,j5,j0,j1⟩) ?_
  refine sw_seq ?_
  refine rg j0<|u<|mv j0<|u<|seq ti9 j0 j0<|r_nil ?_
  refine sw_cond j0 (fun hc8=>?_) (fun hc8=>?_)
  ·
   replace h:=bT hc8 h
   refine rg j0<|u<|asg j0<|r_nil ?_
   refine sw_ret ?_
   obtain rfl:=sm h
   exact ⟨_,j0,[],ci j0,j0,j5,j0,j1⟩
  ·
   replace h:=bF hc8 h
   refine sw_skip ?_
   refine rg j0<|u<|bl 0 ti22 j0 ti3 j0 (by decide) (by decide) j0 j0 j0<|u<|asg j0<|r_nil ?_
   obtain ⟨v10,q9,h⟩:=bs h
   obtain ⟨v11,q10,h⟩:=bs h
   obtain ⟨v12,q11,h⟩:=bs h
   refine rg j0<|u<|mv j0<|u<|mv j0<|u<|rem ti3 j0 j0 q9<|u<|add ti3 j0 j0<|u<|rem ti3 j0 j0 q10<|r_can (env0:=[(9,sA v7),(10,sA v9),(34,.msl 0 0 (List.length [46,47,48])),(38,iA v11)]) (st0:=[some (1,List.map (rI .i64) [46,47,48])]) ⟨[.old 0],ce j0 j0<|ce j0 j0<|cv j0 (.msl j0)<|ce j0 j0<|cn,j0,⟨⟨_,j0,rsRows ⟨⟨(ci j0),j5⟩,⟨(ci j0),j5⟩,⟨(ci j0),j5⟩,j5⟩⟩,j5⟩,j0,j1⟩<|u<|ixM ti22 j0 ti3 j0 j0 j0 j0 q11<|u<|ldM ti3 j0 j0 (idx_some q11).2.2 j0<|u<|asg j0<|r_nil ?_
   obtain ⟨v13,q12,h⟩:=bs h
   obtain ⟨v14,q13,h⟩:=bs h
   refine rg j0<|u<|mv j0<|u<|bl 1 ti25 j0 ti9 j0 (by decide) (by decide) j0 j0 j0<|u<|mv j0<|u<|bd ti69 j0 j0 j0<|u<|mv j0<|u<|bd ti69 j0 j0 j0<|u<|bl 2 ti72 j0 ti69 j0 (by decide) (by decide) j0 j0 j0<|r_can (env0:=[(9,sA v7),(10,sA v9),(12,iA v12),(43,.isl 1 (List.map rStr [v9])),(44,sA v7),(48,.isl 4 (List.map rApiIns ([(ApiIns.mk 3 1 [] []),(ApiIns.mk v12 0 [] [])])))]) (st0:=[]) ⟨[],ce j0 j0<|ce j0 j0<|ce j0 j0<|cv j0 (rsSealX j0 j0 ⟨⟨⟨ci j0,j5⟩,j0⟩,j5⟩)<|ce j0 j0<|cv j0 (rsSealX j0 j0 ⟨⟨⟨ci j0,ci j0,ci j0,ci j0,j5⟩,j0⟩,⟨⟨ci j0,ci j0,ci j0,ci j0,j5⟩,j0⟩,j5⟩)<|cn,j0,j5,j0,j1⟩<|u<|sc [] (law10_one_ok [v9] v7 2 2 ([(ApiIns.mk 3 1 [] []),(ApiIns.mk v12 0 [] [])]) [] [] q12) j0 j0 j0 j0 ⟨(rnI j0),(rnI j0),(rnI j0),(rnI j0),(rnI j0),(.nilI),(.nilI),j5⟩ j5<|u<|pcs (law10_runs_ok ([(ApiClass.mk [70,97,99,101] [79,98,106,101,99,116] true [] [] ([(ApiMethod.mk [102] [] [73] false true 0 0 [] [] [])])),(ApiClass.mk [65,97] [79,98,106,101,99,116] false ([[70,97,99,101]]) ([(ApiField.mk [120] [73] false),(ApiField.mk [115] [73] true)]) ([(ApiMethod.mk [102] [] [73] false false 1 1 ([(ApiIns.mk 1 5 [] []),(ApiIns.mk 47 0 [] [])]) [] [])])),(ApiClass.mk [66,98] [65,97] false [] ([(ApiField.mk [121] [91,65,97] false)]) v13)]) q13) j0 j0 (.cons (sealX j0 ⟨⟨(si j0),(si j0),(si j0),(.nil),(.nil),(sealX j0 ⟨⟨(si j0),(.nil),(si j0),(si j0),(si j0),(si j0),(si j0),(.nil),(.nil),(.nil),j5⟩,j5⟩),j5⟩,⟨(si j0),(si j0),(si j0),(sealX j0 ⟨⟨(si j0),j5⟩,j5⟩),(sealX j0 ⟨⟨(si j0),(si j0),(si j0),j5⟩,⟨(si j0),(si j0),(si j0),j5⟩,j5⟩),(sealX j0 ⟨⟨(si j0),(.nil),(si j0),(si j0),(si j0),(si j0),(si j0),(sealX j0 ⟨⟨(si j0),(si j0),(si j0),(si j0),j5⟩,⟨(si j0),(si j0),(si j0),(si j0),j5⟩,j5⟩),(.nil),(.nil),j5⟩,j5⟩),j5⟩,⟨(si j0),(si j0),(si j0),(.nil),(sealX j0 ⟨⟨(si j0),(si j0),(si j0),j5⟩,j5⟩),(sealM j0 (fun _=>j0)),j5⟩,j5⟩) .nil) plainB<|u<|mv j0<|u<|ex j0 j0<|u<|ex j0 j0<|u<|asg j0<|u<|asg j0<|r_nil ?_
   refine rg j0<|u<|mv j0<|u<|mv j0<|u<|seq ti9 j0 j0<|u<|mv j0<|r_or (j:=3) 6 j0 j0 j0 j0 j0 gpn (fun hb14=>g j0 hb14<|mv j0<|g j0 hb14<|seq ti9 j0 j0<|g j0 hb14<|mv j0<|r_and (j:=6) 2 j0 j0 j0 j0 j0 (gps j0 j0 hb14) (fun hb15=>g j0 hb15<|mv j0<|g j0 hb15<|sne ti9 j0 j0<|r_nil (egA [60,61] 2 hb15 j0 j0 j0 j0)) andF<|r_nil (egO [57,58,59,60,61,62] 4 hb14 j0 j0 j0 j0)) orT<|u<|mv j0<|r_or (j:=11) 6 j0 j0 j0 j0 j0 gpn (fun hb16=>g j0 hb16<|mv j0<|g j0 hb16<|seq ti9 j0 j0<|g j0 hb16<|mv j0<|r_and (j:=14) 2 j0 j0 j0 j0 j0 (gps j0 j0 hb16) (fun hb17=>g j0 hb17<|mv j0<|g j0 hb17<|seq ti9 j0 j0<|r_nil (egA [68,69] 2 hb17 j0 j0 j0 j0)) andF<|r_nil (egO [65,66,67,68,69,70] 4 hb16 j0 j0 j0 j0)) orT<|u<|mv j0<|r_or (j:=19) 6 j0 j0 j0 j0 j0 gpn (fun hb18=>g j0 hb18<|mv j0<|g j0 hb18<|seq ti9 j0 j0<|g j0 hb18<|mv j0<|r_and (j:=22) 2 j0 j0 j0 j0 j0 (gps j0 j0 hb18) (fun hb19=>g j0 hb19<|mv j0<|g j0 hb19<|seq ti9 j0 j0<|r_nil (egA [76,77] 2 hb19 j0 j0 j0 j0)) andF<|r_nil (egO [73,74,75,76,77,78] 4 hb18 j0 j0 j0 j0)) orT<|u<|asg j0<|r_nil ?_
   refine rg j0<|u<|mv j0<|u<|eql ti3 j0 j0<|u<|mv j0<|r_and (j:=2) 2 j0 j0 j0 j0 j0 gpn (fun hb20=>g j0 hb20<|mv j0<|g j0 hb20<|seq ti9 j0 j0<|r_nil (egA [83,84] 2 hb20 j0 j0 j0 j0)) andF<|u<|mv j0<|r_or (j:=6) 10 j0 j0 j0 j0 j0 gpn (fun hb21=>g j0 hb21<|mv j0<|g j0 hb21<|eql ti3 j0 j0<|g j0 hb21<|mv j0<|r_and (j:=9) 2 j0 j0 j0 j0 j0 (gps j0 j0 hb21) (fun hb22=>g j0 hb22<|mv j0<|g j0 hb22<|seq ti9 j0 j0<|r_nil (egA [90,91] 2 hb22 j0 j0 j0 j0)) andF<|g j0 hb21<|mv j0<|r_and (j:=13) 2 j0 j0 j0 j0 j0 (gps j0 j0 hb21) (fun hb23=>g j0 hb23<|mv j0<|g j0 hb23<|seq ti9 j0 j0<|r_nil (egA [94,95] 2 hb23 j0 j0 j0 j0)) andF<|r_nil (egO [87,88,89,90,91,92,93,94,95,96] 6 hb21 j0 j0 j0 j0)) orT<|u<|mv j0<|r_or (j:=18) 17 j0 j0 j0 j0 j0 gpn (fun hb24=>g j0 hb24<|mv j0<|g j0 hb24<|eql ti3 j0 j0<|g j0 hb24<|mv j0<|r_and (j:=21) 2 j0 j0 j0 j0 j0 (gps j0 j0 hb24) (fun hb25=>g j0 hb25<|mv j0<|g j0 hb25<|sne ti9 j0 j0<|r_nil (egA [102,103] 2 hb25 j0 j0 j0 j0)) andF<|g j0 hb24<|mv j0<|r_and (j:=25) 2 j0 j0 j0 j0 j0 (gps j0 j0 hb24) (fun hb26=>g j0 hb26<|mv j0<|g j0 hb26<|sne ti9 j0 j0<|r_nil (egA [106,107] 2 hb26 j0 j0 j0 j0)) andF<|g j0 hb24<|mv j0<|r_and (j:=29) 2 j0 j0 j0 j0 j0 (gps j0 j0 hb24) (fun hb27=>g j0 hb27<|mv j0<|g j0 hb27<|sne ti9 j0 j0<|r_nil (egA [110,111] 2 hb27 j0 j0 j0 j0)) andF<|g j0 hb24<|mv j0<|r_and (j:=33) 1 j0 j0 j0 j0 j0 (gps j0 j0 hb24) (fun hb28=>g j0 hb28<|mv j0<|r_nil (egA [114] 1 hb28 j0 j0 j0 j0)) andF<|r_nil (egO [99,100,101,102,103,104,105,106,107,108,109,110,111,112,113,114,115] 10 hb24 j0 j0 j0 j0)) orT<|u<|asg j0<|r_nil ?_
   refine rg j0<|u<|mv j0<|u<|mv j0<|r_and (j:=1) 3 j0 j0 j0 j0 j0 gpn (fun hb29=>g j0 hb29<|mv j0<|g j0 hb29<|mv j0<|g j0 hb29<|beq ti4 j0 j0 j0<|r_nil (egA [119,120,121] 3 hb29 j0 j0 j0 j0)) andF<|u<|asg j0<|r_nil ?_
   refine sw_ret ?_
   obtain rfl:=sm h
   exact ⟨_,j0,[],ci j0,j0,j5,j0,j1⟩
def law10_VerifySpace_j1 (v1 : Int) (v2 : Int) (v5 : Int) (v6 : Int) : Option (Bool) :=
  (law10_one [] [86] v1 2 ([(ApiIns.mk v5 v6 [] []),(ApiIns.mk 4 (andI .i64 v2 15) [] []),(ApiIns.mk 3 (andI .i64 v2 15) [] []),(ApiIns.mk 5 0 [] []),(ApiIns.mk 46 0 [] [])]) [] []).bind fun v7=>(law10_runs ([(ApiClass.mk [70,97,99,101] [79,98,106,101,99,116] true [] [] ([(ApiMethod.mk [102] [] [73] false true 0 0 [] [] [])])),(ApiClass.mk [65,97] [79,98,106,101,99,116] false ([[70,97,99,101]]) ([(ApiField.mk [120] [73] false),(ApiField.mk [115] [73] true)]) ([(ApiMethod.mk [102] [] [73] false false 1 1 ([(ApiIns.mk 1 5 [] []),(ApiIns.mk 47 0 [] [])]) [] [])])),(ApiClass.mk [66,98] [65,97] false [] ([(ApiField.mk [121] [91,65,97] false)]) v7)])).bind fun v8=>(law10_one [] [86] v1 2 ([(ApiIns.mk 3 (andI .i64 v2 15) [] []),(ApiIns.mk 5 0 [] []),(ApiIns.mk 46 0 [] [])]) [] []).bind fun v9=>(law10_runs ([(ApiClass.mk [70,97,99,101] [79,98,106,101,99,116] true [] [] ([(ApiMethod.mk [102] [] [73] false true 0 0 [] [] [])])),(ApiClass.mk [65,97] [79,98,106,101,99,116] false ([[70,97,99,101]]) ([(ApiField.mk [120] [73] false),(ApiField.mk [115] [73] true)]) ([(ApiMethod.mk [102] [] [73] false false 1 1 ([(ApiIns.mk 1 5 [] []),(ApiIns.mk 47 0 [] [])]) [] [])])),(ApiClass.mk [66,98] [65,97] false [] ([(ApiField.mk [121] [91,65,97] false)]) v9)])).bind fun v10=>some ((v8.2 && (v8.1 == (decide ((andI .i64 v2 15) < v1)))) && (v10.1 == ((andI .i64 v2 15) == (0 : Int))))
def law10_VerifySpace (v1 : Int) (v2 : Int) (v3 : Int) : Option (Bool) :=
  (law10_begun).bind fun v4=>cond (!v4) (some false) (cond ((((decide (v1 < 1)) || (decide (16 < v1))) || (decide (v2 < 0))) || (decide (16 < v2))) (some true) (cond ((andI .i64 v3 1) == (1 : Int)) (law10_VerifySpace_j1 v1 v2 2 0) (law10_VerifySpace_j1 v1 v2 1 4)))
theorem law10_VerifySpace_ok (v1 : Int) (v2 : Int) (v3 : Int) {r : Bool} (h : law10_VerifySpace v1 v2 v3 = some r) : PureC Tryz.prog 14 [iA v1,iA v2,iA v3] (bA r):=by
 refine pure_fn Tryz.func14 j0 (by kernel_rfl) j0 j0 ?_
 unfold law10_VerifySpace at h
 refine rg j0<|u<|asg j0<|r_nil ?_
 obtain ⟨v4,q1,h⟩:=bs h
 refine rg j0<|u<|pc (law10_begun_ok q1) j0 j0 j0<|u<|asg j0<|r_nil ?_
 refine sw_seq ?_
 refine rg j0<|u<|mv j0<|u<|nt j0<|r_nil ?_
 refine sw_cond j0 (fun hc2=>?_) (fun hc2=>?_)
 ·
  replace h:=bT hc2 h
  refine rg j0<|u<|asg j0<|r_nil ?_
  refine sw_ret ?_
  obtain rfl:=sm h
  exact ⟨_,j0,[],ci j0,j0,j5,j0,j1⟩
 ·
  replace h:=bF hc2 h
  refine sw_skip ?_
  refine sw_seq ?_
  refine rg j0<|u<|mv j0<|u<|lss ti3 j0 j0<|u<|mv j0<|r_or (j:=2) 2 j0 j0 j0 j0 j0 gpn (fun hb3=>g j0 hb3<|mv j0<|g j0 hb3<|gtr ti3 j0 j0<|r_nil (egO [19,20] 2 hb3 j0 j0 j0 j0)) orT<|u<|mv j0<|r_or (j:=6) 2 j0 j0 j0 j0 j0 gpn (fun hb4=>g j0 hb4<|mv j0<|g j0 hb4<|lss ti3 j0 j0<|r_nil (egO [23,24] 2 hb4 j0 j0 j0 j0)) orT<|u<|mv j0<|r_or (j:=10) 2 j0 j0 j0 j0 j0 gpn (fun hb5=>g j0 hb5<|mv j0<|g j0 hb5<|gtr ti3 j0 j0<|r_nil (egO [27,28] 2 hb5 j0 j0 j0 j0)) orT<|r_nil ?_
  refine sw_cond j0 (fun hc6=>?_) (fun hc6=>?_)
  ·
   replace h:=bT hc6 h
   refine rg j0<|u<|asg j0<|r_nil ?_
   refine sw_ret ?_
   obtain rfl:=sm h
   exact ⟨_,j0,[],ci j0,j0,j5,j0,j1⟩
  ·
   replace h:=bF hc6 h
   refine sw_skip ?_
   refine rg j0<|u<|bd ti69 j0 j0 j0<|u<|al 0 ti69 j0<|u<|sto ti69 j0 j0 j0<|r_nil ?_
   refine sw_meet (X:=Int × Int) (fun z=>[(0,iA v1),(1,iA v2),(8,.mpt 0 0 0)]) (fun z=>[some (4,[[iA z.1,iA z.2,sA [],sA []]])]) (fun z=>law10_VerifySpace_j1 v1 v2 z.1 z.2 = some r) ?_ ?_
   ·
    refine rg j0<|u<|mv j0<|u<|band ti3 j0 j0<|u<|eql ti3 j0 j0<|r_nil ?_
    refine sw_cond j0 (fun hc7=>?_) (fun hc7=>?_)
    ·
     replace h:=bT hc7 h
     exact rl j0<|u<|bd ti69 j0 j0 j0<|u<|sto ti69 j0 j0 j0<|r_nil (⟨⟨2,0⟩,h,[.old 0],ce j0 j0<|ce j0 j0<|cv j0 (.mpt j0)<|cn,j0,⟨⟨_,j0,rsOne (ciL j0)⟩,j5⟩,j0,j1⟩)
    ·
     replace h:=bF hc7 h
     refine sw_skip ?_
     exact ⟨⟨1,4⟩,h,[.old 0],ce j0 j0<|ce j0 j0<|cv j0 (.mpt j0)<|cn,j0,⟨⟨_,j0,rsOne (ciL j0)⟩,j5⟩,j0,j1⟩
   ·
    rintro ⟨v5,v6⟩ h
    replace h : law10_VerifySpace_j1 v1 v2 v5 v6 = some r:=h
    unfold law10_VerifySpace_j1 at h
    obtain ⟨v7,q8,h⟩:=bs h
    obtain ⟨v8,q9,h⟩:=bs h
    refine rg j0<|u<|mv j0<|u<|ld ti69 j0 j0<|u<|mv j0<|u<|band ti3 j0 j0<|u<|bd ti69 j0 j0 j0<|u<|mv j0<|u<|band ti3 j0 j0<|u<|bd ti69 j0 j0 j0<|u<|bd ti69 j0 j0 j0<|u<|bd ti69 j0 j0 j0<|u<|bl 1 ti72 j0 ti69 j0 (by decide) (by decide) j0 j0 j0<|r_can (env0:=[(0,iA v1),(1,iA v2),(36,iA v1),(46,.isl 4 (List.map rApiIns ([(ApiIns.mk v5 v6 [] []),(ApiIns.mk 4 (andI .i64 v2 15) [] []),(ApiIns.mk 3 (andI .i64 v2 15) [] []),(ApiIns.mk 5 0 [] []),(ApiIns.mk 46 0 [] [])])))]) (st0:=[]) ⟨[],ce j0 j0<|ce j0 j0<|ce j0 j0<|cv j0 (rsSealX j0 j0 ⟨⟨⟨ci j0,ci j0,ci j0,ci j0,j5⟩,j0⟩,⟨⟨ci j0,ci j0,ci j0,ci j0,j5⟩,j0⟩,⟨⟨ci j0,ci j0,ci j0,ci j0,j5⟩,j0⟩,⟨⟨ci j0,ci j0,ci j0,ci j0,j5⟩,j0⟩,⟨⟨ci j0,ci j0,ci j0,ci j0,j5⟩,j0⟩,j5⟩)<|cn,j0,j5,j0,j1⟩<|u<|sc [] (law10_one_ok [] [86] v1 2 ([(ApiIns.mk v5 v6 [] []),(ApiIns.mk 4 (andI .i64 v2 15) [] []),(ApiIns.mk 3 (andI .i64 v2 15) [] []),(ApiIns.mk 5 0 [] []),(ApiIns.mk 46 0 [] [])]) [] [] q8) j0 j0 j0 j0 ⟨(.nilI),(rnI j0),(rnI j0),(rnI j0),(rnI j0),(.nilI),(.nilI),j5⟩ j5<|u<|pcs (law10_runs_ok ([(ApiClass.mk [70,97,99,101] [79,98,106,101,99,116] true [] [] ([(ApiMethod.mk [102] [] [73] false true 0 0 [] [] [])])),(ApiClass.mk [65,97] [79,98,106,101,99,116] false ([[70,97,99,101]]) ([(ApiField.mk [120] [73] false),(ApiField.mk [115] [73] true)]) ([(ApiMethod.mk [102] [] [73] false false 1 1 ([(ApiIns.mk 1 5 [] []),(ApiIns.mk 47 0 [] [])]) [] [])])),(ApiClass.mk [66,98] [65,97] false [] ([(ApiField.mk [121] [91,65,97] false)]) v7)]) q9) j0 j0 (.cons (sealX j0 ⟨⟨(si j0),(si j0),(si j0),(.nil),(.nil),(sealX j0 ⟨⟨(si j0),(.nil),(si j0),(si j0),(si j0),(si j0),(si j0),(.nil),(.nil),(.nil),j5⟩,j5⟩),j5⟩,⟨(si j0),(si j0),(si j0),(sealX j0 ⟨⟨(si j0),j5⟩,j5⟩),(sealX j0 ⟨⟨(si j0),(si j0),(si j0),j5⟩,⟨(si j0),(si j0),(si j0),j5⟩,j5⟩),(sealX j0 ⟨⟨(si j0),(.nil),(si j0),(si j0),(si j0),(si j0),(si j0),(sealX j0 ⟨⟨(si j0),(si j0),(si j0),(si j0),j5⟩,⟨(si j0),(si j0),(si j0),(si j0),j5⟩,j5⟩),(.nil),(.nil),j5⟩,j5⟩),j5⟩,⟨(si j0),(si j0),(si j0),(.nil),(sealX j0 ⟨⟨(si j0),(si j0),(si j0),j5⟩,j5⟩),(sealM j0 (fun _=>j0)),j5⟩,j5⟩) .nil) plainB<|u<|mv j0<|u<|ex j0 j0<|u<|ex j0 j0<|u<|asg j0<|u<|asg j0<|r_nil ?_
    obtain ⟨v9,q10,h⟩:=bs h
    obtain ⟨v10,q11,h⟩:=bs h
    refine rg j0<|u<|mv j0<|u<|mv j0<|u<|band ti3 j0 j0<|u<|bd ti69 j0 j0 j0<|u<|bd ti69 j0 j0 j0<|u<|bd ti69 j0 j0 j0<|u<|bl 8 ti72 j0 ti69 j0 (by decide) (by decide) j0 j0 j0<|r_can (env0:=[(0,iA v1),(1,iA v2),(9,bA v8.1),(10,bA v8.2),(52,iA v1),(58,.isl 4 (List.map rApiIns ([(ApiIns.mk 3 (andI .i64 v2 15) [] []),(ApiIns.mk 5 0 [] []),(ApiIns.mk 46 0 [] [])])))]) (st0:=[]) ⟨[],ce j0 j0<|ce j0 j0<|ce j0 j0<|ce j0 j0<|ce j0 j0<|cv j0 (rsSealX j0 j0 ⟨⟨⟨ci j0,ci j0,ci j0,ci j0,j5⟩,j0⟩,⟨⟨ci j0,ci j0,ci j0,ci j0,j5⟩,j0⟩,⟨⟨ci j0,ci j0,ci j0,ci j0,j5⟩,j0⟩,j5⟩)<|cn,j0,j5,j0,j1⟩<|u<|sc [] (law10_one_ok [] [86] v1 2 ([(ApiIns.mk 3 (andI .i64 v2 15) [] []),(ApiIns.mk 5 0 [] []),(ApiIns.mk 46 0 [] [])]) [] [] q10) j0 j0 j0 j0 ⟨(.nilI),(rnI j0),(rnI j0),(rnI j0),(rnI j0),(.nilI),(.nilI),j5⟩ j5<|u<|pcs (law10_runs_ok ([(ApiClass.mk [70,97,99,101] [79,98,106,101,99,116] true [] [] ([(ApiMethod.mk [102] [] [73] false true 0 0 [] [] [])])),(ApiClass.mk [65,97] [79,98,106,101,99,116] false ([[70,97,99,101]]) ([(ApiField.mk [120] [73] false),(ApiField.mk [115] [73] true)]) ([(ApiMethod.mk [102] [] [73] false false 1 1 ([(ApiIns.mk 1 5 [] []),(ApiIns.mk 47 0 [] [])]) [] [])])),(ApiClass.mk [66,98] [65,97] false [] ([(ApiField.mk [121] [91,65,97] false)]) v9)]) q11) j0 j0 (.cons (sealX j0 ⟨⟨(si j0),(si j0),(si j0),(.nil),(.nil),(sealX j0 ⟨⟨(si j0),(.nil),(si j0),(si j0),(si j0),(si j0),(si j0),(.nil),(.nil),(.nil),j5⟩,j5⟩),j5⟩,⟨(si j0),(si j0),(si j0),(sealX j0 ⟨⟨(si j0),j5⟩,j5⟩),(sealX j0 ⟨⟨(si j0),(si j0),(si j0),j5⟩,⟨(si j0),(si j0),(si j0),j5⟩,j5⟩),(sealX j0 ⟨⟨(si j0),(.nil),(si j0),(si j0),(si j0),(si j0),(si j0),(sealX j0 ⟨⟨(si j0),(si j0),(si j0),(si j0),j5⟩,⟨(si j0),(si j0),(si j0),(si j0),j5⟩,j5⟩),(.nil),(.nil),j5⟩,j5⟩),j5⟩,⟨(si j0),(si j0),(si j0),(.nil),(sealX j0 ⟨⟨(si j0),(si j0),(si j0),j5⟩,j5⟩),(sealM j0 (fun _=>j0)),j5⟩,j5⟩) .nil) plainB<|u<|mv j0<|u<|ex j0 j0<|u<|ex j0 j0<|u<|asg j0<|u<|asg j0<|r_nil ?_
    refine rg j0<|u<|mv j0<|u<|mv j0<|r_and (j:=1) 6 j0 j0 j0 j0 j0 gpn (fun hb12=>g j0 hb12<|mv j0<|g j0 hb12<|mv j0<|g j0 hb12<|band ti3 j0 j0<|g j0 hb12<|mv j0<|g j0 hb12<|lss ti3 j0 j0<|g j0 hb12<|beq ti4 j0 j0 j0<|r_nil (egA [65,66,67,68,69,70] 6 hb12 j0 j0 j0 j0)) andF<|u<|mv j0<|r_and (j:=9) 5 j0 j0 j0 j0 j0 gpn (fun hb13=>g j0 hb13<|mv j0<|g j0 hb13<|mv j0<|g j0 hb13<|band ti3 j0 j0<|g j0 hb13<|eql ti3 j0 j0<|g j0 hb13<|beq ti4 j0 j0 j0<|r_nil (egA [73,74,75,76,77] 5 hb13 j0 j0 j0 j0)) andF<|u<|asg j0<|r_nil ?_
    refine sw_ret ?_
    obtain rfl:=sm h
    exact ⟨_,j0,[],ci j0,j0,j5,j0,j1⟩
end
end Go.Proofs.YtjbdfkapnffjnaaGreat
namespace Go.Proofs.YtjbdfkapnffjnaaGreat
noncomputable section
set_option linter.unusedSimpArgs false
set_option linter.unusedVariables false
set_option maxRecDepth 100000
set_option maxHeartbeats 4000000
def law10_VerifyStack_k4 (v1 : Int) (v2 : Int) (v3 : Int) (v18 : List ApiIns) : Option (Bool) :=
  (appP 48 v18 ([(ApiIns.mk 46 0 [] [])])).bind fun v19=>(law10_one [] [86] 1 v2 v19 [] []).bind fun v20=>(hier_New ([(ApiClass.mk [70,97,99,101] [79,98,106,101,99,116] true [] [] ([(ApiMethod.mk [102] [] [73] false true 0 0 [] [] [])])),(ApiClass.mk [65,97] [79,98,106,101,99,116] false ([[70,97,99,101]]) ([(ApiField.mk [120] [73] false),(ApiField.mk [115] [73] true)]) ([(ApiMethod.mk [102] [] [73] false false 1 1 ([(ApiIns.mk 1 5 [] []),(ApiIns.mk 47 0 [] [])]) [] [])])),(ApiClass.mk [66,98] [65,97] false [] ([(ApiField.mk [121] [91,65,97] false)]) v20)])).bind fun v21=>(cond (v21.2 == (0 : Int)) ((verify_Method v21.1 [66,98] 1).bind fun v22=>some (v22 == ((decide (v1 ≤ v2)) && (decide (v3 ≤ v1))))) (some false)).bind fun v23=>some v23
def law10_VerifyStack_l3 (v3 : Int) (v15 : List ApiIns) (v16 : Int) : Option (Sum ((List ApiIns) × Int) (Sum ((List ApiIns)) (Bool))) :=
  cond (decide (v16 < v3)) ((appP 48 v15 ([(ApiIns.mk 5 0 [] [])])).bind fun v17=>some (.inl (v17,(IntKind.i64.wrap (v16 + 1))))) (some (.inr (.inl v15)))
def law10_VerifyStack_k2 (v1 : Int) (v2 : Int) (v3 : Int) (v11 : List ApiIns) : Option (Bool) :=
  (loopP (fun z=>law10_VerifyStack_l3 v3 z.1 z.2) (v11,0)).bind fun o=>leave o (fun b=>law10_VerifyStack_k4 v1 v2 v3 b) some
def law10_VerifyStack_l1 (v1 : Int) (v8 : List ApiIns) (v9 : Int) : Option (Sum ((List ApiIns) × Int) (Sum ((List ApiIns)) (Bool))) :=
  cond (decide (v9 < v1)) ((appP 48 v8 ([(ApiIns.mk 1 v9 [] [])])).bind fun v10=>some (.inl (v10,(IntKind.i64.wrap (v9 + 1))))) (some (.inr (.inl v8)))
def law10_VerifyStack (v1 : Int) (v2 : Int) (v3 : Int) : Option (Bool) :=
  (law10_begun).bind fun v4=>cond (!v4) (some false) (cond ((((((decide (v1 < 0)) || (decide (20 < v1))) || (decide (v2 < 0))) || (decide (16 < v2))) || (decide (v3 < 0))) || (decide (20 < v3))) (some true) ((loopP (fun z=>law10_VerifyStack_l1 v1 z.1 z.2) ([],0)).bind fun o=>leave o (fun b=>law10_VerifyStack_k2 v1 v2 v3 b) some))
theorem law10_VerifyStack_ok (v1 : Int) (v2 : Int) (v3 : Int) {r : Bool} (h : law10_VerifyStack v1 v2 v3 = some r) : PureC Tryz.prog 8 [iA v1,iA v2,iA v3] (bA r):=by
 refine pure_fn Tryz.func8 j0 (by kernel_rfl) j0 j0 ?_
 unfold law10_VerifyStack at h
 refine rg j0<|u<|asg j0<|r_nil ?_
 obtain ⟨v4,q1,h⟩:=bs h
 refine rg j0<|u<|pc (law10_begun_ok q1) j0 j0 j0<|u<|asg j0<|r_nil ?_
 refine sw_seq ?_
 refine rg j0<|u<|mv j0<|u<|nt j0<|r_nil ?_
 refine sw_cond j0 (fun hc2=>?_) (fun hc2=>?_)
 ·
  replace h:=bT hc2 h
  refine rg j0<|u<|asg j0<|r_nil ?_
  refine sw_ret ?_
  obtain rfl:=sm h
  exact ⟨_,j0,[],ci j0,j0,j5,j0,j1⟩
 ·
  replace h:=bF hc2 h
  refine sw_skip ?_
  refine sw_seq ?_
  refine rg j0<|u<|mv j0<|u<|lss ti3 j0 j0<|u<|mv j0<|r_or (j:=2) 2 j0 j0 j0 j0 j0 gpn (fun hb3=>g j0 hb3<|mv j0<|g j0 hb3<|gtr ti3 j0 j0<|r_nil (egO [20,21] 2 hb3 j0 j0 j0 j0)) orT<|u<|mv j0<|r_or (j:=6) 2 j0 j0 j0 j0 j0 gpn (fun hb4=>g j0 hb4<|mv j0<|g j0 hb4<|lss ti3 j0 j0<|r_nil (egO [24,25] 2 hb4 j0 j0 j0 j0)) orT<|u<|mv j0<|r_or (j:=10) 2 j0 j0 j0 j0 j0 gpn (fun hb5=>g j0 hb5<|mv j0<|g j0 hb5<|gtr ti3 j0 j0<|r_nil (egO [28,29] 2 hb5 j0 j0 j0 j0)) orT<|u<|mv j0<|r_or (j:=14) 2 j0 j0 j0 j0 j0 gpn (fun hb6=>g j0 hb6<|mv j0<|g j0 hb6<|lss ti3 j0 j0<|r_nil (egO [32,33] 2 hb6 j0 j0 j0 j0)) orT<|u<|mv j0<|r_or (j:=18) 2 j0 j0 j0 j0 j0 gpn (fun hb7=>g j0 hb7<|mv j0<|g j0 hb7<|gtr ti3 j0 j0<|r_nil (egO [36,37] 2 hb7 j0 j0 j0 j0)) orT<|r_nil ?_
  refine sw_cond j0 (fun hc8=>?_) (fun hc8=>?_)
  ·
   replace h:=bT hc8 h
   refine rg j0<|u<|asg j0<|r_nil ?_
   refine sw_ret ?_
   obtain rfl:=sm h
   exact ⟨_,j0,[],ci j0,j0,j5,j0,j1⟩
  ·
   replace h:=bF hc8 h
   refine sw_skip ?_
   refine rg j0<|u<|asg j0<|r_nil ?_
   refine sw_seq ?_
   refine rg j0<|u<|asg j0<|r_nil ?_
   obtain ⟨o,ho,h⟩:=bs h
   refine sw_lpl (X:=(List ApiIns) × Int) (B:=(List ApiIns)) (R:=Bool) (fun z=>[(0,iA v1),(1,iA v2),(2,iA v3),(8,.msl 0 0 (List.length z.1)),(9,iA z.2)]) (fun z=>[some (4,List.map rApiIns z.1)]) (fun b=>[(0,iA v1),(1,iA v2),(2,iA v3),(8,.msl 0 0 (List.length b))]) (fun b=>[some (4,List.map rApiIns b)]) (fun r env st=>PostF Tryz.prog Tryz.f8 0 (bA r) [] env st) ho ⟨[.fresh 4],ce j0 j0<|ce j0 j0<|ce j0 j0<|cv j0 (.nilown j0)<|ce j0 j0<|cn,j0,⟨j4,j5⟩,j0,j1⟩ ?_ ?_ ?_
   ·
    rintro ⟨v8,v9⟩ r h
    replace h : law10_VerifyStack_l1 v1 v8 v9 = some r:=h
    unfold law10_VerifyStack_l1 at h
    refine sw_seq ?_
    refine rg j0<|u<|mv j0<|u<|mv j0<|u<|lss ti3 j0 j0<|r_nil ?_
    refine sw_cond j0 (fun hc11=>?_) (fun hc11=>?_)
    ·
     replace h:=bT hc11 h
     refine sw_skip ?_
     refine sw_seq ?_
     refine sw_block ?_
     obtain ⟨v10,q12,h⟩:=bs h
     refine rl j0<|u<|mv j0<|u<|mv j0<|u<|bd ti69 j0 j0 j0<|u<|bl 1 ti72 j0 ti69 j0 (by decide) (by decide) j0 j0 j0<|u<|apM 2 ti72 j0 ti69 j0 j0 (by decide) ti72 j0 j0 j0 j0 (roX (f:=rApiIns) (z:=[(ApiIns.mk 1 v9 [] [])]) j0 j0) (fun _=>j0) j0 q12<|u<|asg j0<|r_nil ?_
     refine rl j0<|u<|mv j0<|u<|add ti3 j0 j0<|u<|asg j0<|r_nil ?_
     obtain rfl:=sm h
     exact ⟨_,j0,[.old 2],ce j0 j0<|ce j0 j0<|ce j0 j0<|cv j0 (.msl j0)<|ce j0 j0<|cn,j0,⟨⟨_,j0,rsMap (fun _=>j0)⟩,j5⟩,j0,j1⟩
    ·
     replace h:=bF hc11 h
     refine sw_exit ?_
     obtain rfl:=sm h
     exact ⟨j0,_,j0,[.old 0],ce j0 j0<|ce j0 j0<|ce j0 j0<|cv j0 (.msl j0)<|cn,j0,⟨⟨_,j0,rsMap (fun _=>j0)⟩,j5⟩,j0,j1⟩
   ·
    rintro v11 rfl
    replace h : law10_VerifyStack_k2 v1 v2 v3 v11 = some r:=h
    unfold law10_VerifyStack_k2 at h
    refine ow_intro ?_
    refine sw_seq ?_
    refine rg j0<|u<|asg j0<|r_nil ?_
    obtain ⟨o,ho,h⟩:=bs h
    refine sw_lpl (X:=(List ApiIns) × Int) (B:=(List ApiIns)) (R:=Bool) (fun z=>[(0,iA v1),(1,iA v2),(2,iA v3),(8,.msl 0 0 (List.length z.1)),(10,iA z.2)]) (fun z=>[some (4,List.map rApiIns z.1)]) (fun b=>[(0,iA v1),(1,iA v2),(2,iA v3),(8,.msl 0 0 (List.length b))]) (fun b=>[some (4,List.map rApiIns b)]) (fun r env st=>PostF Tryz.prog Tryz.f8 0 (bA r) [] env st) ho ⟨[.old 0],ce j0 j0<|ce j0 j0<|ce j0 j0<|cv j0 (.msl j0)<|ce j0 j0<|cn,j0,⟨⟨_,j0,rsMap (fun _=>j0)⟩,j5⟩,j0,j1⟩ ?_ ?_ ?_
    ·
     rintro ⟨v15,v16⟩ r h
     replace h : law10_VerifyStack_l3 v3 v15 v16 = some r:=h
     unfold law10_VerifyStack_l3 at h
     refine sw_seq ?_
     refine rg j0<|u<|mv j0<|u<|mv j0<|u<|lss ti3 j0 j0<|r_nil ?_
     refine sw_cond j0 (fun hc15=>?_) (fun hc15=>?_)
     ·
      replace h:=bT hc15 h
      refine sw_skip ?_
      refine sw_seq ?_
      refine sw_block ?_
      obtain ⟨v17,q16,h⟩:=bs h
      refine rl j0<|u<|mv j0<|u<|bd ti69 j0 j0 j0<|u<|bl 1 ti72 j0 ti69 j0 (by decide) (by decide) j0 j0 j0<|u<|apM 2 ti72 j0 ti69 j0 j0 (by decide) ti72 j0 j0 j0 j0 (roX (f:=rApiIns) (z:=[(ApiIns.mk 5 0 [] [])]) j0 j0) (fun _=>j0) j0 q16<|u<|asg j0<|r_nil ?_
      refine rl j0<|u<|mv j0<|u<|add ti3 j0 j0<|u<|asg j0<|r_nil ?_
      obtain rfl:=sm h
      exact ⟨_,j0,[.old 2],ce j0 j0<|ce j0 j0<|ce j0 j0<|cv j0 (.msl j0)<|ce j0 j0<|cn,j0,⟨⟨_,j0,rsMap (fun _=>j0)⟩,j5⟩,j0,j1⟩
     ·
      replace h:=bF hc15 h
      refine sw_exit ?_
      obtain rfl:=sm h
      exact ⟨j0,_,j0,[.old 0],ce j0 j0<|ce j0 j0<|ce j0 j0<|cv j0 (.msl j0)<|cn,j0,⟨⟨_,j0,rsMap (fun _=>j0)⟩,j5⟩,j0,j1⟩
    ·
     rintro v18 rfl
     replace h : law10_VerifyStack_k4 v1 v2 v3 v18 = some r:=h
     unfold law10_VerifyStack_k4 at h
     refine ow_intro ?_
     obtain ⟨v19,q17,h⟩:=bs h
     refine rg j0<|u<|mv j0<|u<|bd ti69 j0 j0 j0<|u<|bl 1 ti72 j0 ti69 j0 (by decide) (by decide) j0 j0 j0<|u<|apM 2 ti72 j0 ti69 j0 j0 (by decide) ti72 j0 j0 j0 j0 (roX (f:=rApiIns) (z:=[(ApiIns.mk 46 0 [] [])]) j0 j0) (fun _=>j0) j0 q17<|u<|asg j0<|r_nil ?_
     obtain ⟨v20,q18,h⟩:=bs h
     refine rg j0<|u<|mv j0<|u<|mv j0<|r_can (env0:=[(0,iA v1),(1,iA v2),(2,iA v3),(62,iA v2),(63,.isl 4 (List.map rApiIns v19))]) (st0:=[]) ⟨[],ce j0 j0<|ce j0 j0<|ce j0 j0<|ce j0 j0<|cv j0 (rsSeal j0 j0 (fun _=>j0))<|cn,j0,j5,j0,j1⟩<|u<|sc [] (law10_one_ok [] [86] 1 v2 v19 [] [] q18) j0 j0 j0 j0 ⟨(.nilI),(rnI j0),(rnI j0),(rnI j0),(rnI j0),(.nilI),(.nilI),j5⟩ j5<|u<|asg j0<|r_nil ?_
     obtain ⟨v21,q19,h⟩:=bs h
     refine rg j0<|u<|mv j0<|r_can (env0:=[(0,iA v1),(1,iA v2),(2,iA v3),(66,.isl 6 (List.map rApiClass ([(ApiClass.mk [70,97,99,101] [79,98,106,101,99,116] true [] [] ([(ApiMethod.mk [102] [] [73] false true 0 0 [] [] [])])),(ApiClass.mk [65,97] [79,98,106,101,99,116] false ([[70,97,99,101]]) ([(ApiField.mk [120] [73] false),(ApiField.mk [115] [73] true)]) ([(ApiMethod.mk [102] [] [73] false false 1 1 ([(ApiIns.mk 1 5 [] []),(ApiIns.mk 47 0 [] [])]) [] [])])),(ApiClass.mk [66,98] [65,97] false [] ([(ApiField.mk [121] [91,65,97] false)]) v20)])))]) (st0:=[]) ⟨[],ce j0 j0<|ce j0 j0<|ce j0 j0<|cv j0 (rsSealX j0 j0 ⟨⟨⟨ci j0,ci j0,ci j0,.nil,.nil,rsSealX j0 j0 ⟨⟨⟨ci j0,.nil,ci j0,ci j0,ci j0,ci j0,ci j0,.nil,.nil,.nil,j5⟩,j0⟩,j5⟩,j5⟩,j0⟩,⟨⟨ci j0,ci j0,ci j0,rsSealX j0 j0 ⟨⟨⟨ci j0,j5⟩,j0⟩,j5⟩,rsSealX j0 j0 ⟨⟨⟨ci j0,ci j0,ci j0,j5⟩,j0⟩,⟨⟨ci j0,ci j0,ci j0,j5⟩,j0⟩,j5⟩,rsSealX j0 j0 ⟨⟨⟨ci j0,.nil,ci j0,ci j0,ci j0,ci j0,ci j0,rsSealX j0 j0 ⟨⟨⟨ci j0,ci j0,ci j0,ci j0,j5⟩,j0⟩,⟨⟨ci j0,ci j0,ci j0,ci j0,j5⟩,j0⟩,j5⟩,.nil,.nil,j5⟩,j0⟩,j5⟩,j5⟩,j0⟩,⟨⟨ci j0,ci j0,ci j0,.nil,rsSealX j0 j0 ⟨⟨⟨ci j0,ci j0,ci j0,j5⟩,j0⟩,j5⟩,rsSeal j0 j0 (fun _=>j0),j5⟩,j0⟩,j5⟩)<|cn,j0,j5,j0,j1⟩<|u<|pc (hier_New_ok ([(ApiClass.mk [70,97,99,101] [79,98,106,101,99,116] true [] [] ([(ApiMethod.mk [102] [] [73] false true 0 0 [] [] [])])),(ApiClass.mk [65,97] [79,98,106,101,99,116] false ([[70,97,99,101]]) ([(ApiField.mk [120] [73] false),(ApiField.mk [115] [73] true)]) ([(ApiMethod.mk [102] [] [73] false false 1 1 ([(ApiIns.mk 1 5 [] []),(ApiIns.mk 47 0 [] [])]) [] [])])),(ApiClass.mk [66,98] [65,97] false [] ([(ApiField.mk [121] [91,65,97] false)]) v20)]) q19) j0 j0 j0<|u<|mv j0<|u<|ex j0 j0<|u<|ex j0 j0<|u<|asg j0<|u<|asg j0<|r_nil ?_
     obtain ⟨v23,q23,h⟩:=bs h
     refine rg j0<|u<|mv j0<|u<|eql ti33 j0 j0<|u<|mv j0<|r_and (x:=v23) (j:=2) 11 j0 j0 j0 j0 j0 gpn (fun hb20=>by replace q23:=bT hb20 q23; obtain ⟨v22,q21,q23⟩:=bs q23; obtain rfl:=sm q23; exact g j0 hb20<|mv j0<|g j0 hb20<|pc (verify_Method_ok v21.1 [66,98] 1 q21) j0 j0 (immC (immP (fun _=>j0)) (j0))<|g j0 hb20<|mv j0<|g j0 hb20<|mv j0<|g j0 hb20<|leq ti3 j0 j0<|g j0 hb20<|mv j0<|r_and (j:=8) 3 j0 j0 j0 j0 j0 (gps j0 j0 hb20) (fun hb22=>g j0 hb22<|mv j0<|g j0 hb22<|mv j0<|g j0 hb22<|leq ti3 j0 j0<|r_nil (egA [79,80,81] 3 hb22 j0 j0 j0 j0)) andF<|g j0 hb20<|beq ti4 j0 j0 j0<|r_nil (eg [73,74,75,76,77,78,79,80,81,82,83] 8 j0 j0 j0 j0)) (fun hb=>(sm (bF hb q23)).symm)<|u<|asg j0<|r_nil ?_
     refine sw_ret ?_
     obtain rfl:=sm h
     exact ⟨_,j0,[],ci j0,j0,j5,j0,j1⟩
    ·
     rintro r' rfl env st hp
     obtain rfl:=sm h
     exact hp
   ·
    rintro r' rfl env st hp
    obtain rfl:=sm h
    exact hp
end
end Go.Proofs.YtjbdfkapnffjnaaGreat
namespace Go.Proofs.YtjbdfkapnffjnaaGreat
noncomputable section
set_option linter.unusedSimpArgs false
set_option linter.unusedVariables false
set_option maxRecDepth 100000
set_option maxHeartbeats 4000000
structure ApiEntry where
  C : List UInt8
  M : List UInt8
def rApiEntry (x : ApiEntry) : List AV:=[sA x.C,sA x.M]
def hier_Hier_Names_s2_k2 (v11 : List (List UInt8)) : Option ((List (List UInt8))) :=
  some v11
def hier_Hier_Names_s2_l1 (v1 : List ApiClass) (v7 : List (List UInt8)) (v8 : Int) : Option (Sum ((List (List UInt8)) × Int) (Sum ((List (List UInt8))) ((List (List UInt8))))) :=
  cond (decide (v8 < (List.length v1 : Int))) ((idx v1 v8).bind fun v9=>(appP 16 v7 [v9.Name]).bind fun v10=>some (.inl (v10,(IntKind.i64.wrap (v8 + 1))))) (some (.inr (.inl v7)))
def hier_Hier_Names_s2 (v1 : List ApiClass) (v2 : List (List UInt8 × Int)) : Option ((List (List UInt8))) :=
  (loopP (fun z=>hier_Hier_Names_s2_l1 v1 z.1 z.2) ([],0)).bind fun o=>leave o (fun b=>hier_Hier_Names_s2_k2 b) some
theorem hier_Hier_Names_s2_ok (v1 : List ApiClass) (v2 : List (List UInt8 × Int)) {r : (List (List UInt8))} (h : hier_Hier_Names_s2 v1 v2 = some r) : SC Tryz.prog 61 [.ipt 2 [[.isl 6 (List.map rApiClass v1),.imp (List.map (rKV (fun x=>iA x)) v2)]] 0 0] [] (.msl 0 0 (List.length r)) [.many 1 (List.map rStr r)]:=by
 refine ⟨⟨sbOk (sz:=1) (fun _=>j0),j5⟩,scall_fn Tryz.func61 j0 (by kernel_rfl) j0 ?_⟩
 unfold hier_Hier_Names_s2 at h
 refine rg j0<|u<|asg j0<|r_nil ?_
 refine sw_seq ?_
 refine rg j0<|u<|mv j0<|u<|eqp ti32 j0 j0 j0 j0 j0 j0<|r_nil ?_
 refine sw_cond j0 (fun hx=>by cases hx) (fun _=>?_)
 refine sw_skip ?_
 refine rg j0<|u<|asg j0<|r_nil ?_
 refine sw_seq ?_
 refine rg j0<|u<|mv j0<|u<|nc j0 j0<|u<|fa ti110 j0 j0 j0<|u<|ld ti24 j0 j0<|u<|lnI ti24 j0 j0<|u<|mv j0<|r_nil ?_
 obtain ⟨o,ho,h⟩:=bs h
 refine sw_lpl (X:=(List (List UInt8)) × Int) (B:=(List (List UInt8))) (R:=(List (List UInt8))) (fun z=>[(3,.msl 0 0 (List.length z.1)),(11,.isl 6 (List.map rApiClass v1)),(12,iA (List.length v1 : Int)),(13,iA z.2)]) (fun z=>[some (1,List.map rStr z.1)]) (fun b=>[(3,.msl 0 0 (List.length b))]) (fun b=>[some (1,List.map rStr b)]) (fun r env st=>PostF Tryz.prog Tryz.f61 0 (.msl 0 0 (List.length r)) [some (1,List.map rStr r)] env st) ho ⟨[.fresh 1],cv j0 (.nilown j0)<|ce j0 j0<|ce j0 j0<|ce j0 j0<|cn,j0,⟨j4,j5⟩,j0,j1⟩ ?_ ?_ ?_
 ·
  rintro ⟨v7,v8⟩ r h
  replace h : hier_Hier_Names_s2_l1 v1 v7 v8 = some r:=h
  unfold hier_Hier_Names_s2_l1 at h
  refine rg j0<|u<|lss ti3 j0 j0<|r_nil ?_
  refine sw_seq ?_
  refine sw_cond j0 (fun hc4=>?_) (fun hc4=>?_)
  ·
   replace h:=bT hc4 h
   refine sw_skip ?_
   refine sw_seq ?_
   refine sw_block ?_
   obtain ⟨v9,q5,h⟩:=bs h
   refine rg j0<|u<|ixI ti24 j0 ti29 j0 j0 j0 q5<|u<|ldI ti29 j0 (idx_some q5).2.2 j0<|u<|al 1 ti29 j0<|u<|sto ti29 j0 j0 j0<|r_nil ?_
   obtain ⟨v10,q6,h⟩:=bs h
   refine rl j0<|u<|mv j0<|u<|fa ti29 j0 j0 j0<|u<|ld ti9 j0 j0<|u<|bl 2 ti25 j0 ti9 j0 (by decide) (by decide) j0 j0 j0<|u<|apM 3 ti25 j0 ti9 j0 j0 (by decide) ti25 j0 j0 j0 j0 (roX (f:=rStr) (z:=[v9.Name]) j0 j0) (fun _=>j0) j0 q6<|u<|asg j0<|r_nil ?_
   refine rl j0<|u<|add ti3 j0 j0<|u<|mv j0<|r_nil ?_
   obtain rfl:=sm h
   exact ⟨_,j0,[.old 3],cv j0 (.msl j0)<|ce j0 j0<|ce j0 j0<|ce j0 j0<|cn,j0,⟨⟨_,j0,rsMap (fun _=>j0)⟩,j5⟩,j0,j1⟩
  ·
   replace h:=bF hc4 h
   refine sw_exit ?_
   obtain rfl:=sm h
   exact ⟨j0,_,j0,[.old 0],cv j0 (.msl j0)<|cn,j0,⟨⟨_,j0,rsMap (fun _=>j0)⟩,j5⟩,j0,j1⟩
 ·
  rintro v11 rfl
  replace h : hier_Hier_Names_s2_k2 v11 = some r:=h
  unfold hier_Hier_Names_s2_k2 at h
  refine ow_intro ?_
  refine rg j0<|u<|mv j0<|u<|asg j0<|r_nil ?_
  refine sw_ret ?_
  obtain rfl:=sm h
  exact ⟨_,j0,[.old 0],.msl j0,j0,⟨⟨_,j0,rsMap (fun _=>j0)⟩,j5⟩,j0,j1⟩
 ·
  rintro r' rfl env st hp
  obtain rfl:=sm h
  exact hp
def closed_whole_1 (v1 : List UInt8) (v2 : List ApiClass) (v3 : List (List UInt8 × Int)) : Option (Bool) :=
  (cond ((!(v1 == [86])) && (!(v1 == []))) ((types_There_s2 v2 v3 v1).bind fun v4=>some (!v4)) (some false)).bind fun v5=>some v5
theorem closed_whole_1_ok (v1 : List UInt8) (v2 : List ApiClass) (v3 : List (List UInt8 × Int)) {r : Bool} (h : closed_whole_1 v1 v2 v3 = some r) : PureC Tryz.prog 216 [sA v1,.ipt 1 [[.ipt 2 [[.isl 6 (List.map rApiClass v2),.imp (List.map (rKV (fun x=>iA x)) v3)]] 0 0]] 0 0] (bA r):=by
 refine pure_fn Tryz.func216 j0 (by kernel_rfl) j0 j0 ?_
 unfold closed_whole_1 at h
 refine rg j0<|u<|asg j0<|r_nil ?_
 obtain ⟨v5,q4,h⟩:=bs h
 refine rg j0<|u<|mv j0<|u<|sne ti9 j0 j0<|u<|mv j0<|r_and (j:=2) 2 j0 j0 j0 j0 j0 gpn (fun hb1=>g j0 hb1<|mv j0<|g j0 hb1<|sne ti9 j0 j0<|r_nil (egA [7,8] 2 hb1 j0 j0 j0 j0)) andF<|u<|mv j0<|r_and (x:=v5) (j:=6) 4 j0 j0 j0 j0 j0 gpn (fun hb2=>by replace q4:=bT hb2 q4; obtain ⟨v4,q3,q4⟩:=bs q4; obtain rfl:=sm q4; exact g j0 hb2<|ld ti32 j0 j0<|g j0 hb2<|mv j0<|g j0 hb2<|pc (types_There_s2_ok v2 v3 v1 q3) j0 j0 j0<|g j0 hb2<|nt j0<|r_nil (eg [11,12,13,14] 4 j0 j0 j0 j0)) (fun hb=>(sm (bF hb q4)).symm)<|u<|asg j0<|r_nil ?_
 refine sw_ret ?_
 obtain rfl:=sm h
 exact ⟨_,j0,[],ci j0,j0,j5,j0,j1⟩
def closed_whole_2 (v1 : ApiField) (v2 : List ApiClass) (v3 : List (List UInt8 × Int)) : Option (Bool) :=
  (closed_whole_1 v1.Type_ v2 v3).bind fun v4=>some v4
theorem closed_whole_2_ok (v1 : ApiField) (v2 : List ApiClass) (v3 : List (List UInt8 × Int)) {r : Bool} (h : closed_whole_2 v1 v2 v3 = some r) : PureC Tryz.prog 217 [.agg (rApiField v1),.ipt 1 [[.fn (.func 216) [] [.ipt 1 [[.ipt 2 [[.isl 6 (List.map rApiClass v2),.imp (List.map (rKV (fun x=>iA x)) v3)]] 0 0]] 0 0]]] 0 0] (bA r):=by
 refine pure_fn Tryz.func217 j0 (by kernel_rfl) j0 j0 ?_
 unfold closed_whole_2 at h
 refine rg j0<|u<|bx 0 3 j0 j0 j0 j0<|u<|asg j0<|r_nil ?_
 obtain ⟨v4,q1,h⟩:=bs h
 refine rg j0<|u<|ld ti90 j0 j0<|u<|fa ti52 j0 j0 j0<|u<|ld ti9 j0 j0<|u<|pc (closed_whole_1_ok v1.Type_ v2 v3 q1) j0 j0 j0<|u<|asg j0<|r_nil ?_
 refine sw_ret ?_
 obtain rfl:=sm h
 exact ⟨_,j0,[],ci j0,j0,j5,j0,j1⟩
def slices_IndexFunc_api_Field_api_Field_s3_k2 : Option (Int) :=
  some (-1)
def slices_IndexFunc_api_Field_api_Field_s3_l1 (v1 : List ApiField) (v2 : List ApiClass) (v3 : List (List UInt8 × Int)) (v7 : Int) : Option (Sum (Int) (Sum (Unit) (Int))) :=
  cond (decide (v7 < (List.length v1 : Int))) ((idx v1 v7).bind fun v8=>(closed_whole_2 v8 v2 v3).bind fun v9=>cond v9 (some (.inr (.inr v7))) (some (.inl (IntKind.i64.wrap (v7 + 1))))) (some (.inr (.inl ())))
def slices_IndexFunc_api_Field_api_Field_s3 (v1 : List ApiField) (v2 : List ApiClass) (v3 : List (List UInt8 × Int)) : Option (Int) :=
  (loopP (fun z=>slices_IndexFunc_api_Field_api_Field_s3_l1 v1 v2 v3 z) 0).bind fun o=>leave o (fun b=>slices_IndexFunc_api_Field_api_Field_s3_k2) some
theorem slices_IndexFunc_api_Field_api_Field_s3_ok (v1 : List ApiField) (v2 : List ApiClass) (v3 : List (List UInt8 × Int)) {r : Int} (h : slices_IndexFunc_api_Field_api_Field_s3 v1 v2 v3 = some r) : PureC Tryz.prog 241 [.isl 3 (List.map rApiField v1),.fn (.func 217) [] [.ipt 1 [[.fn (.func 216) [] [.ipt 1 [[.ipt 2 [[.isl 6 (List.map rApiClass v2),.imp (List.map (rKV (fun x=>iA x)) v3)]] 0 0]] 0 0]]] 0 0]] (iA r):=by
 refine pure_fn Tryz.func241 j0 (by kernel_rfl) j0 j0 ?_
 unfold slices_IndexFunc_api_Field_api_Field_s3 at h
 refine rg j0<|u<|asg j0<|r_nil ?_
 refine sw_seq ?_
 refine rg j0<|u<|mv j0<|u<|lnI ti26 j0 j0<|u<|mv j0<|r_nil ?_
 obtain ⟨o,ho,h⟩:=bs h
 refine sw_lpl (X:=Int) (B:=Unit) (R:=Int) (fun z=>[(0,.isl 3 (List.map rApiField v1)),(1,.fn (.func 217) [] [.ipt 1 [[.fn (.func 216) [] [.ipt 1 [[.ipt 2 [[.isl 6 (List.map rApiClass v2),.imp (List.map (rKV (fun x=>iA x)) v3)]] 0 0]] 0 0]]] 0 0]),(7,iA (List.length v1 : Int)),(8,iA z)]) (fun z=>[]) (fun b=>[]) (fun b=>[]) (fun r env st=>PostF Tryz.prog Tryz.f241 0 (iA r) [] env st) ho ⟨[],ce j0 j0<|ce j0 j0<|ce j0 j0<|ce j0 j0<|cn,j0,j5,j0,j1⟩ ?_ ?_ ?_
 ·
  rintro v7 r h
  replace h : slices_IndexFunc_api_Field_api_Field_s3_l1 v1 v2 v3 v7 = some r:=h
  unfold slices_IndexFunc_api_Field_api_Field_s3_l1 at h
  refine rg j0<|u<|lss ti3 j0 j0<|r_nil ?_
  refine sw_seq ?_
  refine sw_cond j0 (fun hc5=>?_) (fun hc5=>?_)
  ·
   replace h:=bT hc5 h
   refine sw_skip ?_
   refine sw_seq ?_
   refine sw_block ?_
   refine rg j0<|u<|mv j0<|u<|asg j0<|r_nil ?_
   obtain ⟨v8,q6,h⟩:=bs h
   obtain ⟨v9,q7,h⟩:=bs h
   refine rg j0<|u<|mv j0<|u<|mv j0<|u<|mv j0<|u<|ixI ti26 j0 ti52 j0 j0 j0 q6<|u<|ldI ti52 j0 (idx_some q6).2.2 j0<|u<|pc (closed_whole_2_ok v8 v2 v3 q7) j0 j0 j0<|r_nil ?_
   refine sw_cond j0 (fun hc8=>?_) (fun hc8=>?_)
   ·
    replace h:=bT hc8 h
    refine rg j0<|u<|mv j0<|u<|asg j0<|r_nil ?_
    refine sw_ret ?_
    obtain rfl:=sm h
    exact ⟨_,j0,_,j0,[],ci j0,j0,j5,j0,j1⟩
   ·
    replace h:=bF hc8 h
    refine sw_skip ?_
    refine rl j0<|u<|add ti3 j0 j0<|u<|mv j0<|r_nil ?_
    obtain rfl:=sm h
    exact ⟨_,j0,[],ce j0 j0<|ce j0 j0<|ce j0 j0<|ce j0 j0<|cn,j0,j5,j0,j1⟩
  ·
   replace h:=bF hc5 h
   refine sw_exit ?_
   obtain rfl:=sm h
   exact ⟨j0,_,j0,[],cn,j0,j5,j0,j1⟩
 ·
  rintro ⟨⟩ rfl
  replace h : slices_IndexFunc_api_Field_api_Field_s3_k2 = some r:=h
  unfold slices_IndexFunc_api_Field_api_Field_s3_k2 at h
  refine ow_intro ?_
  refine rg j0<|u<|asg j0<|r_nil ?_
  refine sw_ret ?_
  obtain rfl:=sm h
  exact ⟨_,j0,[],ci j0,j0,j5,j0,j1⟩
 ·
  rintro r' rfl env st hp
  obtain rfl:=sm h
  exact hp
def slices_ContainsFunc_api_Field_api_Field_s2 (v1 : List ApiField) (v2 : List ApiClass) (v3 : List (List UInt8 × Int)) : Option (Bool) :=
  (slices_IndexFunc_api_Field_api_Field_s3 v1 v2 v3).bind fun v4=>some (decide (0 ≤ v4))
theorem slices_ContainsFunc_api_Field_api_Field_s2_ok (v1 : List ApiField) (v2 : List ApiClass) (v3 : List (List UInt8 × Int)) {r : Bool} (h : slices_ContainsFunc_api_Field_api_Field_s2 v1 v2 v3 = some r) : PureC Tryz.prog 176 [.isl 3 (List.map rApiField v1),.fn (.func 217) [] [.ipt 1 [[.fn (.func 216) [] [.ipt 1 [[.ipt 2 [[.isl 6 (List.map rApiClass v2),.imp (List.map (rKV (fun x=>iA x)) v3)]] 0 0]] 0 0]]] 0 0]] (bA r):=by
 refine pure_fn Tryz.func176 j0 (by kernel_rfl) j0 j0 ?_
 unfold slices_ContainsFunc_api_Field_api_Field_s2 at h
 refine rg j0<|u<|asg j0<|r_nil ?_
 obtain ⟨v4,q1,h⟩:=bs h
 refine rg j0<|u<|mv j0<|u<|mv j0<|u<|pc (slices_IndexFunc_api_Field_api_Field_s3_ok v1 v2 v3 q1) j0 j0 j0<|u<|geq ti3 j0 j0<|u<|asg j0<|r_nil ?_
 refine sw_ret ?_
 obtain rfl:=sm h
 exact ⟨_,j0,[],ci j0,j0,j5,j0,j1⟩
def closed_whole_3_1 (v1 : ApiTrap) (v2 : List ApiClass) (v3 : List (List UInt8 × Int)) : Option (Bool) :=
  (closed_whole_1 v1.C v2 v3).bind fun v4=>some v4
theorem closed_whole_3_1_ok (v1 : ApiTrap) (v2 : List ApiClass) (v3 : List (List UInt8 × Int)) {r : Bool} (h : closed_whole_3_1 v1 v2 v3 = some r) : PureC Tryz.prog 220 [.agg (rApiTrap v1),.ipt 1 [[.fn (.func 216) [] [.ipt 1 [[.ipt 2 [[.isl 6 (List.map rApiClass v2),.imp (List.map (rKV (fun x=>iA x)) v3)]] 0 0]] 0 0]]] 0 0] (bA r):=by
 refine pure_fn Tryz.func220 j0 (by kernel_rfl) j0 j0 ?_
 unfold closed_whole_3_1 at h
 refine rg j0<|u<|bx 0 4 j0 j0 j0 j0<|u<|asg j0<|r_nil ?_
 obtain ⟨v4,q1,h⟩:=bs h
 refine rg j0<|u<|ld ti90 j0 j0<|u<|fa ti85 j0 j0 j0<|u<|ld ti9 j0 j0<|u<|pc (closed_whole_1_ok v1.C v2 v3 q1) j0 j0 j0<|u<|asg j0<|r_nil ?_
 refine sw_ret ?_
 obtain rfl:=sm h
 exact ⟨_,j0,[],ci j0,j0,j5,j0,j1⟩
def slices_IndexFunc_api_Trap_api_Trap_s2_k2 : Option (Int) :=
  some (-1)
def slices_IndexFunc_api_Trap_api_Trap_s2_l1 (v1 : List ApiTrap) (v2 : List ApiClass) (v3 : List (List UInt8 × Int)) (v7 : Int) : Option (Sum (Int) (Sum (Unit) (Int))) :=
  cond (decide (v7 < (List.length v1 : Int))) ((idx v1 v7).bind fun v8=>(closed_whole_3_1 v8 v2 v3).bind fun v9=>cond v9 (some (.inr (.inr v7))) (some (.inl (IntKind.i64.wrap (v7 + 1))))) (some (.inr (.inl ())))
def slices_IndexFunc_api_Trap_api_Trap_s2 (v1 : List ApiTrap) (v2 : List ApiClass) (v3 : List (List UInt8 × Int)) : Option (Int) :=
  (loopP (fun z=>slices_IndexFunc_api_Trap_api_Trap_s2_l1 v1 v2 v3 z) 0).bind fun o=>leave o (fun b=>slices_IndexFunc_api_Trap_api_Trap_s2_k2) some
theorem slices_IndexFunc_api_Trap_api_Trap_s2_ok (v1 : List ApiTrap) (v2 : List ApiClass) (v3 : List (List UInt8 × Int)) {r : Int} (h : slices_IndexFunc_api_Trap_api_Trap_s2 v1 v2 v3 = some r) : PureC Tryz.prog 263 [.isl 4 (List.map rApiTrap v1),.fn (.func 220) [] [.ipt 1 [[.fn (.func 216) [] [.ipt 1 [[.ipt 2 [[.isl 6 (List.map rApiClass v2),.imp (List.map (rKV (fun x=>iA x)) v3)]] 0 0]] 0 0]]] 0 0]] (iA r):=by
 refine pure_fn Tryz.func263 j0 (by kernel_rfl) j0 j0 ?_
 unfold slices_IndexFunc_api_Trap_api_Trap_s2 at h
 refine rg j0<|u<|asg j0<|r_nil ?_
 refine sw_seq ?_
 refine rg j0<|u<|mv j0<|u<|lnI ti74 j0 j0<|u<|mv j0<|r_nil ?_
 obtain ⟨o,ho,h⟩:=bs h
 refine sw_lpl (X:=Int) (B:=Unit) (R:=Int) (fun z=>[(0,.isl 4 (List.map rApiTrap v1)),(1,.fn (.func 220) [] [.ipt 1 [[.fn (.func 216) [] [.ipt 1 [[.ipt 2 [[.isl 6 (List.map rApiClass v2),.imp (List.map (rKV (fun x=>iA x)) v3)]] 0 0]] 0 0]]] 0 0]),(7,iA (List.length v1 : Int)),(8,iA z)]) (fun z=>[]) (fun b=>[]) (fun b=>[]) (fun r env st=>PostF Tryz.prog Tryz.f263 0 (iA r) [] env st) ho ⟨[],ce j0 j0<|ce j0 j0<|ce j0 j0<|ce j0 j0<|cn,j0,j5,j0,j1⟩ ?_ ?_ ?_
 ·
  rintro v7 r h
  replace h : slices_IndexFunc_api_Trap_api_Trap_s2_l1 v1 v2 v3 v7 = some r:=h
  unfold slices_IndexFunc_api_Trap_api_Trap_s2_l1 at h
  refine rg j0<|u<|lss ti3 j0 j0<|r_nil ?_
  refine sw_seq ?_
  refine sw_cond j0 (fun hc5=>?_) (fun hc5=>?_)
  ·
   replace h:=bT hc5 h
   refine sw_skip ?_
   refine sw_seq ?_
   refine sw_block ?_
   refine rg j0<|u<|mv j0<|u<|asg j0<|r_nil ?_
   obtain ⟨v8,q6,h⟩:=bs h
   obtain ⟨v9,q7,h⟩:=bs h
   refine rg j0<|u<|mv j0<|u<|mv j0<|u<|mv j0<|u<|ixI ti74 j0 ti85 j0 j0 j0 q6<|u<|ldI ti85 j0 (idx_some q6).2.2 j0<|u<|pc (closed_whole_3_1_ok v8 v2 v3 q7) j0 j0 j0<|r_nil ?_
   refine sw_cond j0 (fun hc8=>?_) (fun hc8=>?_)
   ·
    replace h:=bT hc8 h
    refine rg j0<|u<|mv j0<|u<|asg j0<|r_nil ?_
    refine sw_ret ?_
    obtain rfl:=sm h
    exact ⟨_,j0,_,j0,[],ci j0,j0,j5,j0,j1⟩
   ·
    replace h:=bF hc8 h
    refine sw_skip ?_
    refine rl j0<|u<|add ti3 j0 j0<|u<|mv j0<|r_nil ?_
    obtain rfl:=sm h
    exact ⟨_,j0,[],ce j0 j0<|ce j0 j0<|ce j0 j0<|ce j0 j0<|cn,j0,j5,j0,j1⟩
  ·
   replace h:=bF hc5 h
   refine sw_exit ?_
   obtain rfl:=sm h
   exact ⟨j0,_,j0,[],cn,j0,j5,j0,j1⟩
 ·
  rintro ⟨⟩ rfl
  replace h : slices_IndexFunc_api_Trap_api_Trap_s2_k2 = some r:=h
  unfold slices_IndexFunc_api_Trap_api_Trap_s2_k2 at h
  refine ow_intro ?_
  refine rg j0<|u<|asg j0<|r_nil ?_
  refine sw_ret ?_
  obtain rfl:=sm h
  exact ⟨_,j0,[],ci j0,j0,j5,j0,j1⟩
 ·
  rintro r' rfl env st hp
  obtain rfl:=sm h
  exact hp
def slices_ContainsFunc_api_Trap_api_Trap_s2 (v1 : List ApiTrap) (v2 : List ApiClass) (v3 : List (List UInt8 × Int)) : Option (Bool) :=
  (slices_IndexFunc_api_Trap_api_Trap_s2 v1 v2 v3).bind fun v4=>some (decide (0 ≤ v4))
theorem slices_ContainsFunc_api_Trap_api_Trap_s2_ok (v1 : List ApiTrap) (v2 : List ApiClass) (v3 : List (List UInt8 × Int)) {r : Bool} (h : slices_ContainsFunc_api_Trap_api_Trap_s2 v1 v2 v3 = some r) : PureC Tryz.prog 219 [.isl 4 (List.map rApiTrap v1),.fn (.func 220) [] [.ipt 1 [[.fn (.func 216) [] [.ipt 1 [[.ipt 2 [[.isl 6 (List.map rApiClass v2),.imp (List.map (rKV (fun x=>iA x)) v3)]] 0 0]] 0 0]]] 0 0]] (bA r):=by
 refine pure_fn Tryz.func219 j0 (by kernel_rfl) j0 j0 ?_
 unfold slices_ContainsFunc_api_Trap_api_Trap_s2 at h
 refine rg j0<|u<|asg j0<|r_nil ?_
 obtain ⟨v4,q1,h⟩:=bs h
 refine rg j0<|u<|mv j0<|u<|mv j0<|u<|pc (slices_IndexFunc_api_Trap_api_Trap_s2_ok v1 v2 v3 q1) j0 j0 j0<|u<|geq ti3 j0 j0<|u<|asg j0<|r_nil ?_
 refine sw_ret ?_
 obtain rfl:=sm h
 exact ⟨_,j0,[],ci j0,j0,j5,j0,j1⟩
def closed_named_j3 (v10 : Bool) : Option (Bool) :=
  some v10
def closed_named_j2 (v1 : List ApiClass) (v2 : List (List UInt8 × Int)) (v3 : ApiIns) (v4 : ApiClass × Bool) (v7 : Bool) : Option (Bool) :=
  cond v7 ((link_Method_s3 v1 v2 v3.C v3.M).bind fun v8=>closed_named_j3 (v8.2.2 && (!v4.1.Interface))) (cond (v3.Op == (45 : Int)) ((link_Face_s3 v1 v2 v3.C v3.M).bind fun v9=>closed_named_j3 v9.2.2) (closed_named_j3 true))
def closed_named_j1 (v1 : List ApiClass) (v2 : List (List UInt8 × Int)) (v3 : ApiIns) (v4 : ApiClass × Bool) (v5 : Bool) : Option (Bool) :=
  cond v5 ((link_Field_s2 v1 v2 v3.C v3.M).bind fun v6=>closed_named_j3 v6.2.2) (cond (v3.Op == (42 : Int)) (closed_named_j2 v1 v2 v3 v4 (v3.Op == (42 : Int))) (cond (v3.Op == (43 : Int)) (closed_named_j2 v1 v2 v3 v4 (v3.Op == (43 : Int))) (closed_named_j2 v1 v2 v3 v4 (v3.Op == (44 : Int)))))
def closed_named (v1 : List ApiClass) (v2 : List (List UInt8 × Int)) (v3 : ApiIns) : Option (Bool) :=
  (hier_Hier_Class_s3 v1 v2 v3.C).bind fun v4=>cond (v3.Op == (38 : Int)) (closed_named_j1 v1 v2 v3 v4 (v3.Op == (38 : Int))) (cond (v3.Op == (39 : Int)) (closed_named_j1 v1 v2 v3 v4 (v3.Op == (39 : Int))) (cond (v3.Op == (40 : Int)) (closed_named_j1 v1 v2 v3 v4 (v3.Op == (40 : Int))) (closed_named_j1 v1 v2 v3 v4 (v3.Op == (41 : Int)))))
theorem closed_named_ok (v1 : List ApiClass) (v2 : List (List UInt8 × Int)) (v3 : ApiIns) {r : Bool} (h : closed_named v1 v2 v3 = some r) : PureC Tryz.prog 223 [.ipt 2 [[.isl 6 (List.map rApiClass v1),.imp (List.map (rKV (fun x=>iA x)) v2)]] 0 0,.agg (rApiIns v3)] (bA r):=by
 refine pure_fn Tryz.func223 j0 (by kernel_rfl) j0 j0 ?_
 unfold closed_named at h
 refine rg j0<|u<|bx 0 4 j0 j0 j0 j0<|u<|asg j0<|r_nil ?_
 obtain ⟨v4,q1,h⟩:=bs h
 refine rg j0<|u<|mv j0<|u<|fa ti69 j0 j0 j0<|u<|ld ti9 j0 j0<|u<|pc (hier_Hier_Class_s3_ok v1 v2 v3.C q1) j0 j0 j0<|u<|mv j0<|u<|ex j0 j0<|u<|ex j0 j0<|u<|al 1 ti29 j0<|u<|sto ti29 j0 j0 j0<|u<|asg j0<|r_nil ?_
 refine rg j0<|u<|asg j0<|r_nil ?_
 refine sw_meet (X:=Bool) (fun z=>[(7,bA z)]) (fun z=>[]) (fun z=>closed_named_j3 z = some r) ?_ ?_
 ·
  refine rg j0<|u<|fa ti69 j0 j0 j0<|u<|ld ti3 j0 j0<|r_nil ?_
  refine sw_block ?_
  refine sw_meet (X:=Bool) (fun z=>[(0,.ipt 2 [[.isl 6 (List.map rApiClass v1),.imp (List.map (rKV (fun x=>iA x)) v2)]] 0 0),(3,.mpt 0 0 0),(5,.mpt 1 0 0),(7,bA true),(16,iA v3.Op),(17,bA z)]) (fun z=>[some (4,[(rApiIns v3)]),some (6,[(rApiClass v4.1)])]) (fun z=>closed_named_j1 v1 v2 v3 v4 z = some r) ?_ ?_
  ·
   refine rg j0<|u<|eql ti3 j0 j0<|u<|asg j0<|r_nil ?_
   refine sw_cond j0 (fun hc2=>?_) (fun hc2=>?_)
   ·
    replace h:=bT hc2 h
    refine sw_skip ?_
    exact ⟨(v3.Op == (38 : Int)),h,[.old 0,.old 1],ce j0 j0<|cv j0 (.mpt j0)<|cv j0 (.mpt j0)<|ce j0 j0<|ce j0 j0<|ce j0 j0<|cn,j0,⟨⟨_,j0,rsOne (ciL j0)⟩,⟨_,j0,rsOne (ciL j0)⟩,j5⟩,j0,j1⟩
   ·
    replace h:=bF hc2 h
    refine rg j0<|u<|eql ti3 j0 j0<|u<|asg j0<|r_nil ?_
    refine sw_cond j0 (fun hc3=>?_) (fun hc3=>?_)
    ·
     replace h:=bT hc3 h
     refine sw_skip ?_
     exact ⟨(v3.Op == (39 : Int)),h,[.old 0,.old 1],ce j0 j0<|cv j0 (.mpt j0)<|cv j0 (.mpt j0)<|ce j0 j0<|ce j0 j0<|ce j0 j0<|cn,j0,⟨⟨_,j0,rsOne (ciL j0)⟩,⟨_,j0,rsOne (ciL j0)⟩,j5⟩,j0,j1⟩
    ·
     replace h:=bF hc3 h
     refine rg j0<|u<|eql ti3 j0 j0<|u<|asg j0<|r_nil ?_
     refine sw_cond j0 (fun hc4=>?_) (fun hc4=>?_)
     ·
      replace h:=bT hc4 h
      refine sw_skip ?_
      exact ⟨(v3.Op == (40 : Int)),h,[.old 0,.old 1],ce j0 j0<|cv j0 (.mpt j0)<|cv j0 (.mpt j0)<|ce j0 j0<|ce j0 j0<|ce j0 j0<|cn,j0,⟨⟨_,j0,rsOne (ciL j0)⟩,⟨_,j0,rsOne (ciL j0)⟩,j5⟩,j0,j1⟩
     ·
      replace h:=bF hc4 h
      exact rl j0<|u<|eql ti3 j0 j0<|u<|asg j0<|r_nil (⟨(v3.Op == (41 : Int)),h,[.old 0,.old 1],ce j0 j0<|cv j0 (.mpt j0)<|cv j0 (.mpt j0)<|ce j0 j0<|ce j0 j0<|ce j0 j0<|cn,j0,⟨⟨_,j0,rsOne (ciL j0)⟩,⟨_,j0,rsOne (ciL j0)⟩,j5⟩,j0,j1⟩)
  ·
   rintro v5 h
   replace h : closed_named_j1 v1 v2 v3 v4 v5 = some r:=h
   unfold closed_named_j1 at h
   refine sw_cond j0 (fun hc5=>?_) (fun hc5=>?_)
   ·
    replace h:=bT hc5 h
    obtain ⟨v6,q6,h⟩:=bs h
    exact rl j0<|u<|mv j0<|u<|fa ti69 j0 j0 j0<|u<|ld ti9 j0 j0<|u<|fa ti69 j0 j0 j0<|u<|ld ti9 j0 j0<|u<|pc (link_Field_s2_ok v1 v2 v3.C v3.M q6) j0 j0 j0<|u<|mv j0<|u<|ex j0 j0<|u<|ex j0 j0<|u<|ex j0 j0<|u<|asg j0<|r_nil (⟨v6.2.2,h,[],ce j0 j0<|cn,j0,j5,j0,j1⟩)
   ·
    replace h:=bF hc5 h
    refine sw_meet (X:=Bool) (fun z=>[(0,.ipt 2 [[.isl 6 (List.map rApiClass v1),.imp (List.map (rKV (fun x=>iA x)) v2)]] 0 0),(3,.mpt 0 0 0),(5,.mpt 1 0 0),(7,bA true),(16,iA v3.Op),(32,bA z)]) (fun z=>[some (4,[(rApiIns v3)]),some (6,[(rApiClass v4.1)])]) (fun z=>closed_named_j2 v1 v2 v3 v4 z = some r) ?_ ?_
    ·
     refine rg j0<|u<|eql ti3 j0 j0<|u<|asg j0<|r_nil ?_
     refine sw_cond j0 (fun hc7=>?_) (fun hc7=>?_)
     ·
      replace h:=bT hc7 h
      refine sw_skip ?_
      exact ⟨(v3.Op == (42 : Int)),h,[.old 0,.old 1],ce j0 j0<|cv j0 (.mpt j0)<|cv j0 (.mpt j0)<|ce j0 j0<|ce j0 j0<|ce j0 j0<|cn,j0,⟨⟨_,j0,rsOne (ciL j0)⟩,⟨_,j0,rsOne (ciL j0)⟩,j5⟩,j0,j1⟩
     ·
      replace h:=bF hc7 h
      refine rg j0<|u<|eql ti3 j0 j0<|u<|asg j0<|r_nil ?_
      refine sw_cond j0 (fun hc8=>?_) (fun hc8=>?_)
      ·
       replace h:=bT hc8 h
       refine sw_skip ?_
       exact ⟨(v3.Op == (43 : Int)),h,[.old 0,.old 1],ce j0 j0<|cv j0 (.mpt j0)<|cv j0 (.mpt j0)<|ce j0 j0<|ce j0 j0<|ce j0 j0<|cn,j0,⟨⟨_,j0,rsOne (ciL j0)⟩,⟨_,j0,rsOne (ciL j0)⟩,j5⟩,j0,j1⟩
      ·
       replace h:=bF hc8 h
       exact rl j0<|u<|eql ti3 j0 j0<|u<|asg j0<|r_nil (⟨(v3.Op == (44 : Int)),h,[.old 0,.old 1],ce j0 j0<|cv j0 (.mpt j0)<|cv j0 (.mpt j0)<|ce j0 j0<|ce j0 j0<|ce j0 j0<|cn,j0,⟨⟨_,j0,rsOne (ciL j0)⟩,⟨_,j0,rsOne (ciL j0)⟩,j5⟩,j0,j1⟩)
    ·
     rintro v7 h
     replace h : closed_named_j2 v1 v2 v3 v4 v7 = some r:=h
     unfold closed_named_j2 at h
     refine sw_cond j0 (fun hc9=>?_) (fun hc9=>?_)
     ·
      replace h:=bT hc9 h
      obtain ⟨v8,q10,h⟩:=bs h
      refine rg j0<|u<|mv j0<|u<|fa ti69 j0 j0 j0<|u<|ld ti9 j0 j0<|u<|fa ti69 j0 j0 j0<|u<|ld ti9 j0 j0<|u<|pc (link_Method_s3_ok v1 v2 v3.C v3.M q10) j0 j0 j0<|u<|mv j0<|u<|ex j0 j0<|u<|ex j0 j0<|u<|ex j0 j0<|u<|asg j0<|r_nil ?_
      exact rl j0<|u<|mv j0<|u<|mv j0<|r_and (j:=1) 3 j0 j0 j0 j0 j0 gpn (fun hb11=>g j0 hb11<|fa ti29 j0 j0 j0<|g j0 hb11<|ld ti4 j0 j0<|g j0 hb11<|nt j0<|r_nil (egA [48,49,50] 3 hb11 j0 j0 j0 j0)) andF<|u<|asg j0<|r_nil (⟨(v8.2.2 && (!v4.1.Interface)),h,[],ce j0 j0<|cn,j0,j5,j0,j1⟩)
     ·
      replace h:=bF hc9 h
      refine rg j0<|u<|eql ti3 j0 j0<|u<|asg j0<|r_nil ?_
      refine sw_cond j0 (fun hc12=>?_) (fun hc12=>?_)
      ·
       replace h:=bT hc12 h
       obtain ⟨v9,q13,h⟩:=bs h
       exact rl j0<|u<|mv j0<|u<|fa ti69 j0 j0 j0<|u<|ld ti9 j0 j0<|u<|fa ti69 j0 j0 j0<|u<|ld ti9 j0 j0<|u<|pc (link_Face_s3_ok v1 v2 v3.C v3.M q13) j0 j0 j0<|u<|mv j0<|u<|ex j0 j0<|u<|ex j0 j0<|u<|ex j0 j0<|u<|asg j0<|r_nil (⟨v9.2.2,h,[],ce j0 j0<|cn,j0,j5,j0,j1⟩)
      ·
       replace h:=bF hc12 h
       refine sw_skip ?_
       exact ⟨true,h,[],ce j0 j0<|cn,j0,j5,j0,j1⟩
 ·
  rintro v10 h
  replace h : closed_named_j3 v10 = some r:=h
  unfold closed_named_j3 at h
  refine rg j0<|u<|mv j0<|u<|asg j0<|r_nil ?_
  refine sw_ret ?_
  obtain rfl:=sm h
  exact ⟨_,j0,[],ci j0,j0,j5,j0,j1⟩
def closed_whole_3_2 (v1 : ApiIns) (v2 : List ApiClass) (v3 : List (List UInt8 × Int)) (v4 : List ApiClass) (v5 : List (List UInt8 × Int)) : Option (Bool) :=
  (closed_whole_1 v1.C v2 v3).bind fun v6=>(cond v6 (some true) ((closed_named v4 v5 v1).bind fun v7=>some (!v7))).bind fun v8=>some v8
theorem closed_whole_3_2_ok (v1 : ApiIns) (v2 : List ApiClass) (v3 : List (List UInt8 × Int)) (v4 : List ApiClass) (v5 : List (List UInt8 × Int)) {r : Bool} (h : closed_whole_3_2 v1 v2 v3 v4 v5 = some r) : PureC Tryz.prog 222 [.agg (rApiIns v1),.ipt 1 [[.fn (.func 216) [] [.ipt 1 [[.ipt 2 [[.isl 6 (List.map rApiClass v2),.imp (List.map (rKV (fun x=>iA x)) v3)]] 0 0]] 0 0]]] 0 0,.ipt 1 [[.ipt 2 [[.isl 6 (List.map rApiClass v4),.imp (List.map (rKV (fun x=>iA x)) v5)]] 0 0]] 0 0] (bA r):=by
 refine pure_fn Tryz.func222 j0 (by kernel_rfl) j0 j0 ?_
 unfold closed_whole_3_2 at h
 refine rg j0<|u<|bx 0 4 j0 j0 j0 j0<|u<|asg j0<|r_nil ?_
 obtain ⟨v6,q1,h⟩:=bs h
 obtain ⟨v8,q4,h⟩:=bs h
 refine rg j0<|u<|ld ti90 j0 j0<|u<|fa ti69 j0 j0 j0<|u<|ld ti9 j0 j0<|u<|pc (closed_whole_1_ok v1.C v2 v3 q1) j0 j0 j0<|u<|mv j0<|r_or (x:=v8) (j:=4) 4 j0 j0 j0 j0 j0 gpn (fun hb2=>by replace q4:=bF hb2 q4; obtain ⟨v7,q3,q4⟩:=bs q4; obtain rfl:=sm q4; exact g j0 hb2<|ld ti32 j0 j0<|g j0 hb2<|ld ti69 j0 j0<|g j0 hb2<|pc (closed_named_ok v4 v5 v1 q3) j0 j0 j0<|g j0 hb2<|nt j0<|r_nil (eg [10,11,12,13] 4 j0 j0 j0 j0)) (fun hb=>(sm (bT hb q4)).symm)<|u<|asg j0<|r_nil ?_
 refine sw_ret ?_
 obtain rfl:=sm h
 exact ⟨_,j0,[],ci j0,j0,j5,j0,j1⟩
def slices_IndexFunc_api_Ins_api_Ins_s2_k2 : Option (Int) :=
  some (-1)
def slices_IndexFunc_api_Ins_api_Ins_s2_l1 (v1 : List ApiIns) (v2 : List ApiClass) (v3 : List (List UInt8 × Int)) (v4 : List ApiClass) (v5 : List (List UInt8 × Int)) (v9 : Int) : Option (Sum (Int) (Sum (Unit) (Int))) :=
  cond (decide (v9 < (List.length v1 : Int))) ((idx v1 v9).bind fun v10=>(closed_whole_3_2 v10 v2 v3 v4 v5).bind fun v11=>cond v11 (some (.inr (.inr v9))) (some (.inl (IntKind.i64.wrap (v9 + 1))))) (some (.inr (.inl ())))
def slices_IndexFunc_api_Ins_api_Ins_s2 (v1 : List ApiIns) (v2 : List ApiClass) (v3 : List (List UInt8 × Int)) (v4 : List ApiClass) (v5 : List (List UInt8 × Int)) : Option (Int) :=
  (loopP (fun z=>slices_IndexFunc_api_Ins_api_Ins_s2_l1 v1 v2 v3 v4 v5 z) 0).bind fun o=>leave o (fun b=>slices_IndexFunc_api_Ins_api_Ins_s2_k2) some
theorem slices_IndexFunc_api_Ins_api_Ins_s2_ok (v1 : List ApiIns) (v2 : List ApiClass) (v3 : List (List UInt8 × Int)) (v4 : List ApiClass) (v5 : List (List UInt8 × Int)) {r : Int} (h : slices_IndexFunc_api_Ins_api_Ins_s2 v1 v2 v3 v4 v5 = some r) : PureC Tryz.prog 264 [.isl 4 (List.map rApiIns v1),.fn (.func 222) [] [.ipt 1 [[.fn (.func 216) [] [.ipt 1 [[.ipt 2 [[.isl 6 (List.map rApiClass v2),.imp (List.map (rKV (fun x=>iA x)) v3)]] 0 0]] 0 0]]] 0 0,.ipt 1 [[.ipt 2 [[.isl 6 (List.map rApiClass v4),.imp (List.map (rKV (fun x=>iA x)) v5)]] 0 0]] 0 0]] (iA r):=by
 refine pure_fn Tryz.func264 j0 (by kernel_rfl) j0 j0 ?_
 unfold slices_IndexFunc_api_Ins_api_Ins_s2 at h
 refine rg j0<|u<|asg j0<|r_nil ?_
 refine sw_seq ?_
 refine rg j0<|u<|mv j0<|u<|lnI ti72 j0 j0<|u<|mv j0<|r_nil ?_
 obtain ⟨o,ho,h⟩:=bs h
 refine sw_lpl (X:=Int) (B:=Unit) (R:=Int) (fun z=>[(0,.isl 4 (List.map rApiIns v1)),(1,.fn (.func 222) [] [.ipt 1 [[.fn (.func 216) [] [.ipt 1 [[.ipt 2 [[.isl 6 (List.map rApiClass v2),.imp (List.map (rKV (fun x=>iA x)) v3)]] 0 0]] 0 0]]] 0 0,.ipt 1 [[.ipt 2 [[.isl 6 (List.map rApiClass v4),.imp (List.map (rKV (fun x=>iA x)) v5)]] 0 0]] 0 0]),(7,iA (List.length v1 : Int)),(8,iA z)]) (fun z=>[]) (fun b=>[]) (fun b=>[]) (fun r env st=>PostF Tryz.prog Tryz.f264 0 (iA r) [] env st) ho ⟨[],ce j0 j0<|ce j0 j0<|ce j0 j0<|ce j0 j0<|cn,j0,j5,j0,j1⟩ ?_ ?_ ?_
 ·
  rintro v9 r h
  replace h : slices_IndexFunc_api_Ins_api_Ins_s2_l1 v1 v2 v3 v4 v5 v9 = some r:=h
  unfold slices_IndexFunc_api_Ins_api_Ins_s2_l1 at h
  refine rg j0<|u<|lss ti3 j0 j0<|r_nil ?_
  refine sw_seq ?_
  refine sw_cond j0 (fun hc5=>?_) (fun hc5=>?_)
  ·
   replace h:=bT hc5 h
   refine sw_skip ?_
   refine sw_seq ?_
   refine sw_block ?_
   refine rg j0<|u<|mv j0<|u<|asg j0<|r_nil ?_
   obtain ⟨v10,q6,h⟩:=bs h
   obtain ⟨v11,q7,h⟩:=bs h
   refine rg j0<|u<|mv j0<|u<|mv j0<|u<|mv j0<|u<|ixI ti72 j0 ti69 j0 j0 j0 q6<|u<|ldI ti69 j0 (idx_some q6).2.2 j0<|u<|pc (closed_whole_3_2_ok v10 v2 v3 v4 v5 q7) j0 j0 j0<|r_nil ?_
   refine sw_cond j0 (fun hc8=>?_) (fun hc8=>?_)
   ·
    replace h:=bT hc8 h
    refine rg j0<|u<|mv j0<|u<|asg j0<|r_nil ?_
    refine sw_ret ?_
    obtain rfl:=sm h
    exact ⟨_,j0,_,j0,[],ci j0,j0,j5,j0,j1⟩
   ·
    replace h:=bF hc8 h
    refine sw_skip ?_
    refine rl j0<|u<|add ti3 j0 j0<|u<|mv j0<|r_nil ?_
    obtain rfl:=sm h
    exact ⟨_,j0,[],ce j0 j0<|ce j0 j0<|ce j0 j0<|ce j0 j0<|cn,j0,j5,j0,j1⟩
  ·
   replace h:=bF hc5 h
   refine sw_exit ?_
   obtain rfl:=sm h
   exact ⟨j0,_,j0,[],cn,j0,j5,j0,j1⟩
 ·
  rintro ⟨⟩ rfl
  replace h : slices_IndexFunc_api_Ins_api_Ins_s2_k2 = some r:=h
  unfold slices_IndexFunc_api_Ins_api_Ins_s2_k2 at h
  refine ow_intro ?_
  refine rg j0<|u<|asg j0<|r_nil ?_
  refine sw_ret ?_
  obtain rfl:=sm h
  exact ⟨_,j0,[],ci j0,j0,j5,j0,j1⟩
 ·
  rintro r' rfl env st hp
  obtain rfl:=sm h
  exact hp
def slices_ContainsFunc_api_Ins_api_Ins_s2 (v1 : List ApiIns) (v2 : List ApiClass) (v3 : List (List UInt8 × Int)) (v4 : List ApiClass) (v5 : List (List UInt8 × Int)) : Option (Bool) :=
  (slices_IndexFunc_api_Ins_api_Ins_s2 v1 v2 v3 v4 v5).bind fun v6=>some (decide (0 ≤ v6))
theorem slices_ContainsFunc_api_Ins_api_Ins_s2_ok (v1 : List ApiIns) (v2 : List ApiClass) (v3 : List (List UInt8 × Int)) (v4 : List ApiClass) (v5 : List (List UInt8 × Int)) {r : Bool} (h : slices_ContainsFunc_api_Ins_api_Ins_s2 v1 v2 v3 v4 v5 = some r) : PureC Tryz.prog 221 [.isl 4 (List.map rApiIns v1),.fn (.func 222) [] [.ipt 1 [[.fn (.func 216) [] [.ipt 1 [[.ipt 2 [[.isl 6 (List.map rApiClass v2),.imp (List.map (rKV (fun x=>iA x)) v3)]] 0 0]] 0 0]]] 0 0,.ipt 1 [[.ipt 2 [[.isl 6 (List.map rApiClass v4),.imp (List.map (rKV (fun x=>iA x)) v5)]] 0 0]] 0 0]] (bA r):=by
 refine pure_fn Tryz.func221 j0 (by kernel_rfl) j0 j0 ?_
 unfold slices_ContainsFunc_api_Ins_api_Ins_s2 at h
 refine rg j0<|u<|asg j0<|r_nil ?_
 obtain ⟨v6,q1,h⟩:=bs h
 refine rg j0<|u<|mv j0<|u<|mv j0<|u<|pc (slices_IndexFunc_api_Ins_api_Ins_s2_ok v1 v2 v3 v4 v5 q1) j0 j0 j0<|u<|geq ti3 j0 j0<|u<|asg j0<|r_nil ?_
 refine sw_ret ?_
 obtain rfl:=sm h
 exact ⟨_,j0,[],ci j0,j0,j5,j0,j1⟩
def slices_IndexFunc_string_string_s8_k2 : Option (Int) :=
  some (-1)
def slices_IndexFunc_string_string_s8_l1 (v1 : List (List UInt8)) (v2 : List ApiClass) (v3 : List (List UInt8 × Int)) (v7 : Int) : Option (Sum (Int) (Sum (Unit) (Int))) :=
  cond (decide (v7 < (List.length v1 : Int))) ((idx v1 v7).bind fun v8=>(closed_whole_1 v8 v2 v3).bind fun v9=>cond v9 (some (.inr (.inr v7))) (some (.inl (IntKind.i64.wrap (v7 + 1))))) (some (.inr (.inl ())))
def slices_IndexFunc_string_string_s8 (v1 : List (List UInt8)) (v2 : List ApiClass) (v3 : List (List UInt8 × Int)) : Option (Int) :=
  (loopP (fun z=>slices_IndexFunc_string_string_s8_l1 v1 v2 v3 z) 0).bind fun o=>leave o (fun b=>slices_IndexFunc_string_string_s8_k2) some
theorem slices_IndexFunc_string_string_s8_ok (v1 : List (List UInt8)) (v2 : List ApiClass) (v3 : List (List UInt8 × Int)) {r : Int} (h : slices_IndexFunc_string_string_s8 v1 v2 v3 = some r) : PureC Tryz.prog 110 [.isl 1 (List.map rStr v1),.fn (.func 216) [] [.ipt 1 [[.ipt 2 [[.isl 6 (List.map rApiClass v2),.imp (List.map (rKV (fun x=>iA x)) v3)]] 0 0]] 0 0]] (iA r):=by
 refine pure_fn Tryz.func110 j0 (by kernel_rfl) j0 j0 ?_
 unfold slices_IndexFunc_string_string_s8 at h
 refine rg j0<|u<|asg j0<|r_nil ?_
 refine sw_seq ?_
 refine rg j0<|u<|mv j0<|u<|lnI ti25 j0 j0<|u<|mv j0<|r_nil ?_
 obtain ⟨o,ho,h⟩:=bs h
 refine sw_lpl (X:=Int) (B:=Unit) (R:=Int) (fun z=>[(0,.isl 1 (List.map rStr v1)),(1,.fn (.func 216) [] [.ipt 1 [[.ipt 2 [[.isl 6 (List.map rApiClass v2),.imp (List.map (rKV (fun x=>iA x)) v3)]] 0 0]] 0 0]),(7,iA (List.length v1 : Int)),(8,iA z)]) (fun z=>[]) (fun b=>[]) (fun b=>[]) (fun r env st=>PostF Tryz.prog Tryz.f110 0 (iA r) [] env st) ho ⟨[],ce j0 j0<|ce j0 j0<|ce j0 j0<|ce j0 j0<|cn,j0,j5,j0,j1⟩ ?_ ?_ ?_
 ·
  rintro v7 r h
  replace h : slices_IndexFunc_string_string_s8_l1 v1 v2 v3 v7 = some r:=h
  unfold slices_IndexFunc_string_string_s8_l1 at h
  refine rg j0<|u<|lss ti3 j0 j0<|r_nil ?_
  refine sw_seq ?_
  refine sw_cond j0 (fun hc5=>?_) (fun hc5=>?_)
  ·
   replace h:=bT hc5 h
   refine sw_skip ?_
   refine sw_seq ?_
   refine sw_block ?_
   refine rg j0<|u<|mv j0<|u<|asg j0<|r_nil ?_
   obtain ⟨v8,q6,h⟩:=bs h
   obtain ⟨v9,q7,h⟩:=bs h
   refine rg j0<|u<|mv j0<|u<|mv j0<|u<|mv j0<|u<|ixI ti25 j0 ti9 j0 j0 j0 q6<|u<|ldI ti9 j0 (idx_some q6).2.2 j0<|u<|pc (closed_whole_1_ok v8 v2 v3 q7) j0 j0 j0<|r_nil ?_
   refine sw_cond j0 (fun hc8=>?_) (fun hc8=>?_)
   ·
    replace h:=bT hc8 h
    refine rg j0<|u<|mv j0<|u<|asg j0<|r_nil ?_
    refine sw_ret ?_
    obtain rfl:=sm h
    exact ⟨_,j0,_,j0,[],ci j0,j0,j5,j0,j1⟩
   ·
    replace h:=bF hc8 h
    refine sw_skip ?_
    refine rl j0<|u<|add ti3 j0 j0<|u<|mv j0<|r_nil ?_
    obtain rfl:=sm h
    exact ⟨_,j0,[],ce j0 j0<|ce j0 j0<|ce j0 j0<|ce j0 j0<|cn,j0,j5,j0,j1⟩
  ·
   replace h:=bF hc5 h
   refine sw_exit ?_
   obtain rfl:=sm h
   exact ⟨j0,_,j0,[],cn,j0,j5,j0,j1⟩
 ·
  rintro ⟨⟩ rfl
  replace h : slices_IndexFunc_string_string_s8_k2 = some r:=h
  unfold slices_IndexFunc_string_string_s8_k2 at h
  refine ow_intro ?_
  refine rg j0<|u<|asg j0<|r_nil ?_
  refine sw_ret ?_
  obtain rfl:=sm h
  exact ⟨_,j0,[],ci j0,j0,j5,j0,j1⟩
 ·
  rintro r' rfl env st hp
  obtain rfl:=sm h
  exact hp
def slices_ContainsFunc_string_string_s8 (v1 : List (List UInt8)) (v2 : List ApiClass) (v3 : List (List UInt8 × Int)) : Option (Bool) :=
  (slices_IndexFunc_string_string_s8 v1 v2 v3).bind fun v4=>some (decide (0 ≤ v4))
theorem slices_ContainsFunc_string_string_s8_ok (v1 : List (List UInt8)) (v2 : List ApiClass) (v3 : List (List UInt8 × Int)) {r : Bool} (h : slices_ContainsFunc_string_string_s8 v1 v2 v3 = some r) : PureC Tryz.prog 56 [.isl 1 (List.map rStr v1),.fn (.func 216) [] [.ipt 1 [[.ipt 2 [[.isl 6 (List.map rApiClass v2),.imp (List.map (rKV (fun x=>iA x)) v3)]] 0 0]] 0 0]] (bA r):=by
 refine pure_fn Tryz.func56 j0 (by kernel_rfl) j0 j0 ?_
 unfold slices_ContainsFunc_string_string_s8 at h
 refine rg j0<|u<|asg j0<|r_nil ?_
 obtain ⟨v4,q1,h⟩:=bs h
 refine rg j0<|u<|mv j0<|u<|mv j0<|u<|pc (slices_IndexFunc_string_string_s8_ok v1 v2 v3 q1) j0 j0 j0<|u<|geq ti3 j0 j0<|u<|asg j0<|r_nil ?_
 refine sw_ret ?_
 obtain rfl:=sm h
 exact ⟨_,j0,[],ci j0,j0,j5,j0,j1⟩
def closed_whole_3 (v1 : ApiMethod) (v2 : List ApiClass) (v3 : List (List UInt8 × Int)) (v4 : List ApiClass) (v5 : List (List UInt8 × Int)) : Option (Bool) :=
  (slices_ContainsFunc_api_Trap_api_Trap_s2 v1.Traps v2 v3).bind fun v6=>(slices_ContainsFunc_api_Ins_api_Ins_s2 v1.Code v2 v3 v4 v5).bind fun v7=>(closed_whole_1 v1.Ret v2 v3).bind fun v8=>(cond v8 (some true) ((slices_ContainsFunc_string_string_s8 v1.Params v2 v3).bind fun v9=>some v9)).bind fun v10=>some ((v10 || v6) || v7)
theorem closed_whole_3_ok (v1 : ApiMethod) (v2 : List ApiClass) (v3 : List (List UInt8 × Int)) (v4 : List ApiClass) (v5 : List (List UInt8 × Int)) {r : Bool} (h : closed_whole_3 v1 v2 v3 v4 v5 = some r) : PureC Tryz.prog 218 [.agg (rApiMethod v1),.ipt 1 [[.fn (.func 216) [] [.ipt 1 [[.ipt 2 [[.isl 6 (List.map rApiClass v2),.imp (List.map (rKV (fun x=>iA x)) v3)]] 0 0]] 0 0]]] 0 0,.ipt 1 [[.ipt 2 [[.isl 6 (List.map rApiClass v4),.imp (List.map (rKV (fun x=>iA x)) v5)]] 0 0]] 0 0] (bA r):=by
 refine pure_fn Tryz.func218 j0 (by kernel_rfl) j0 j0 ?_
 unfold closed_whole_3 at h
 refine rg j0<|u<|bx 0 10 j0 j0 j0 j0<|u<|asg j0<|r_nil ?_
 obtain ⟨v6,q1,h⟩:=bs h
 refine rg j0<|u<|fa ti76 j0 j0 j0<|u<|ld ti74 j0 j0<|u<|mf j0 j0<|u<|pc (slices_ContainsFunc_api_Trap_api_Trap_s2_ok v1.Traps v2 v3 q1) j0 j0 j0<|u<|asg j0<|r_nil ?_
 obtain ⟨v7,q2,h⟩:=bs h
 refine rg j0<|u<|fa ti76 j0 j0 j0<|u<|ld ti72 j0 j0<|u<|mf j0 j0<|u<|pc (slices_ContainsFunc_api_Ins_api_Ins_s2_ok v1.Code v2 v3 v4 v5 q2) j0 j0 j0<|u<|asg j0<|r_nil ?_
 obtain ⟨v8,q3,h⟩:=bs h
 obtain ⟨v10,q6,h⟩:=bs h
 refine rg j0<|u<|ld ti90 j0 j0<|u<|fa ti76 j0 j0 j0<|u<|ld ti9 j0 j0<|u<|pc (closed_whole_1_ok v1.Ret v2 v3 q3) j0 j0 j0<|u<|mv j0<|r_or (x:=v10) (j:=4) 4 j0 j0 j0 j0 j0 gpn (fun hb4=>by replace q6:=bF hb4 q6; obtain ⟨v9,q5,q6⟩:=bs q6; obtain rfl:=sm q6; exact g j0 hb4<|fa ti76 j0 j0 j0<|g j0 hb4<|ld ti25 j0 j0<|g j0 hb4<|ld ti90 j0 j0<|g j0 hb4<|pc (slices_ContainsFunc_string_string_s8_ok v1.Params v2 v3 q5) j0 j0 j0<|r_nil (eg [20,21,22,23] 4 j0 j0 j0 j0)) (fun hb=>(sm (bT hb q6)).symm)<|u<|mv j0<|r_or (j:=10) 1 j0 j0 j0 j0 j0 gpn (fun hb7=>g j0 hb7<|mv j0<|r_nil (egO [26] 1 hb7 j0 j0 j0 j0)) orT<|u<|mv j0<|r_or (j:=13) 1 j0 j0 j0 j0 j0 gpn (fun hb8=>g j0 hb8<|mv j0<|r_nil (egO [29] 1 hb8 j0 j0 j0 j0)) orT<|u<|asg j0<|r_nil ?_
 refine sw_ret ?_
 obtain rfl:=sm h
 exact ⟨_,j0,[],ci j0,j0,j5,j0,j1⟩
def slices_IndexFunc_api_Method_api_Method_s3_k2 : Option (Int) :=
  some (-1)
def slices_IndexFunc_api_Method_api_Method_s3_l1 (v1 : List ApiMethod) (v2 : List ApiClass) (v3 : List (List UInt8 × Int)) (v4 : List ApiClass) (v5 : List (List UInt8 × Int)) (v9 : Int) : Option (Sum (Int) (Sum (Unit) (Int))) :=
  cond (decide (v9 < (List.length v1 : Int))) ((idx v1 v9).bind fun v10=>(closed_whole_3 v10 v2 v3 v4 v5).bind fun v11=>cond v11 (some (.inr (.inr v9))) (some (.inl (IntKind.i64.wrap (v9 + 1))))) (some (.inr (.inl ())))
def slices_IndexFunc_api_Method_api_Method_s3 (v1 : List ApiMethod) (v2 : List ApiClass) (v3 : List (List UInt8 × Int)) (v4 : List ApiClass) (v5 : List (List UInt8 × Int)) : Option (Int) :=
  (loopP (fun z=>slices_IndexFunc_api_Method_api_Method_s3_l1 v1 v2 v3 v4 v5 z) 0).bind fun o=>leave o (fun b=>slices_IndexFunc_api_Method_api_Method_s3_k2) some
theorem slices_IndexFunc_api_Method_api_Method_s3_ok (v1 : List ApiMethod) (v2 : List ApiClass) (v3 : List (List UInt8 × Int)) (v4 : List ApiClass) (v5 : List (List UInt8 × Int)) {r : Int} (h : slices_IndexFunc_api_Method_api_Method_s3 v1 v2 v3 v4 v5 = some r) : PureC Tryz.prog 244 [.isl 10 (List.map rApiMethod v1),.fn (.func 218) [] [.ipt 1 [[.fn (.func 216) [] [.ipt 1 [[.ipt 2 [[.isl 6 (List.map rApiClass v2),.imp (List.map (rKV (fun x=>iA x)) v3)]] 0 0]] 0 0]]] 0 0,.ipt 1 [[.ipt 2 [[.isl 6 (List.map rApiClass v4),.imp (List.map (rKV (fun x=>iA x)) v5)]] 0 0]] 0 0]] (iA r):=by
 refine pure_fn Tryz.func244 j0 (by kernel_rfl) j0 j0 ?_
 unfold slices_IndexFunc_api_Method_api_Method_s3 at h
 refine rg j0<|u<|asg j0<|r_nil ?_
 refine sw_seq ?_
 refine rg j0<|u<|mv j0<|u<|lnI ti27 j0 j0<|u<|mv j0<|r_nil ?_
 obtain ⟨o,ho,h⟩:=bs h
 refine sw_lpl (X:=Int) (B:=Unit) (R:=Int) (fun z=>[(0,.isl 10 (List.map rApiMethod v1)),(1,.fn (.func 218) [] [.ipt 1 [[.fn (.func 216) [] [.ipt 1 [[.ipt 2 [[.isl 6 (List.map rApiClass v2),.imp (List.map (rKV (fun x=>iA x)) v3)]] 0 0]] 0 0]]] 0 0,.ipt 1 [[.ipt 2 [[.isl 6 (List.map rApiClass v4),.imp (List.map (rKV (fun x=>iA x)) v5)]] 0 0]] 0 0]),(7,iA (List.length v1 : Int)),(8,iA z)]) (fun z=>[]) (fun b=>[]) (fun b=>[]) (fun r env st=>PostF Tryz.prog Tryz.f244 0 (iA r) [] env st) ho ⟨[],ce j0 j0<|ce j0 j0<|ce j0 j0<|ce j0 j0<|cn,j0,j5,j0,j1⟩ ?_ ?_ ?_
 ·
  rintro v9 r h
  replace h : slices_IndexFunc_api_Method_api_Method_s3_l1 v1 v2 v3 v4 v5 v9 = some r:=h
  unfold slices_IndexFunc_api_Method_api_Method_s3_l1 at h
  refine rg j0<|u<|lss ti3 j0 j0<|r_nil ?_
  refine sw_seq ?_
  refine sw_cond j0 (fun hc5=>?_) (fun hc5=>?_)
  ·
   replace h:=bT hc5 h
   refine sw_skip ?_
   refine sw_seq ?_
   refine sw_block ?_
   refine rg j0<|u<|mv j0<|u<|asg j0<|r_nil ?_
   obtain ⟨v10,q6,h⟩:=bs h
   obtain ⟨v11,q7,h⟩:=bs h
   refine rg j0<|u<|mv j0<|u<|mv j0<|u<|mv j0<|u<|ixI ti27 j0 ti76 j0 j0 j0 q6<|u<|ldI ti76 j0 (idx_some q6).2.2 j0<|u<|pc (closed_whole_3_ok v10 v2 v3 v4 v5 q7) j0 j0 j0<|r_nil ?_
   refine sw_cond j0 (fun hc8=>?_) (fun hc8=>?_)
   ·
    replace h:=bT hc8 h
    refine rg j0<|u<|mv j0<|u<|asg j0<|r_nil ?_
    refine sw_ret ?_
    obtain rfl:=sm h
    exact ⟨_,j0,_,j0,[],ci j0,j0,j5,j0,j1⟩
   ·
    replace h:=bF hc8 h
    refine sw_skip ?_
    refine rl j0<|u<|add ti3 j0 j0<|u<|mv j0<|r_nil ?_
    obtain rfl:=sm h
    exact ⟨_,j0,[],ce j0 j0<|ce j0 j0<|ce j0 j0<|ce j0 j0<|cn,j0,j5,j0,j1⟩
  ·
   replace h:=bF hc5 h
   refine sw_exit ?_
   obtain rfl:=sm h
   exact ⟨j0,_,j0,[],cn,j0,j5,j0,j1⟩
 ·
  rintro ⟨⟩ rfl
  replace h : slices_IndexFunc_api_Method_api_Method_s3_k2 = some r:=h
  unfold slices_IndexFunc_api_Method_api_Method_s3_k2 at h
  refine ow_intro ?_
  refine rg j0<|u<|asg j0<|r_nil ?_
  refine sw_ret ?_
  obtain rfl:=sm h
  exact ⟨_,j0,[],ci j0,j0,j5,j0,j1⟩
 ·
  rintro r' rfl env st hp
  obtain rfl:=sm h
  exact hp
def slices_ContainsFunc_api_Method_api_Method_s2 (v1 : List ApiMethod) (v2 : List ApiClass) (v3 : List (List UInt8 × Int)) (v4 : List ApiClass) (v5 : List (List UInt8 × Int)) : Option (Bool) :=
  (slices_IndexFunc_api_Method_api_Method_s3 v1 v2 v3 v4 v5).bind fun v6=>some (decide (0 ≤ v6))
theorem slices_ContainsFunc_api_Method_api_Method_s2_ok (v1 : List ApiMethod) (v2 : List ApiClass) (v3 : List (List UInt8 × Int)) (v4 : List ApiClass) (v5 : List (List UInt8 × Int)) {r : Bool} (h : slices_ContainsFunc_api_Method_api_Method_s2 v1 v2 v3 v4 v5 = some r) : PureC Tryz.prog 181 [.isl 10 (List.map rApiMethod v1),.fn (.func 218) [] [.ipt 1 [[.fn (.func 216) [] [.ipt 1 [[.ipt 2 [[.isl 6 (List.map rApiClass v2),.imp (List.map (rKV (fun x=>iA x)) v3)]] 0 0]] 0 0]]] 0 0,.ipt 1 [[.ipt 2 [[.isl 6 (List.map rApiClass v4),.imp (List.map (rKV (fun x=>iA x)) v5)]] 0 0]] 0 0]] (bA r):=by
 refine pure_fn Tryz.func181 j0 (by kernel_rfl) j0 j0 ?_
 unfold slices_ContainsFunc_api_Method_api_Method_s2 at h
 refine rg j0<|u<|asg j0<|r_nil ?_
 obtain ⟨v6,q1,h⟩:=bs h
 refine rg j0<|u<|mv j0<|u<|mv j0<|u<|pc (slices_IndexFunc_api_Method_api_Method_s3_ok v1 v2 v3 v4 v5 q1) j0 j0 j0<|u<|geq ti3 j0 j0<|u<|asg j0<|r_nil ?_
 refine sw_ret ?_
 obtain rfl:=sm h
 exact ⟨_,j0,[],ci j0,j0,j5,j0,j1⟩
def closed_whole (v1 : List ApiClass) (v2 : List (List UInt8 × Int)) (v3 : ApiClass) : Option (Bool) :=
  (slices_ContainsFunc_api_Field_api_Field_s2 v3.Fields v1 v2).bind fun v4=>(slices_ContainsFunc_api_Method_api_Method_s2 v3.Methods v1 v2 v1 v2).bind fun v5=>some ((!v4) && (!v5))
theorem closed_whole_ok (v1 : List ApiClass) (v2 : List (List UInt8 × Int)) (v3 : ApiClass) {r : Bool} (h : closed_whole v1 v2 v3 = some r) : PureC Tryz.prog 154 [.ipt 2 [[.isl 6 (List.map rApiClass v1),.imp (List.map (rKV (fun x=>iA x)) v2)]] 0 0,.agg (rApiClass v3)] (bA r):=by
 refine pure_fn Tryz.func154 j0 (by kernel_rfl) j0 j0 ?_
 unfold closed_whole at h
 refine rg j0<|u<|bx 0 1 j0 j0 j0 j0<|u<|bx 1 6 j0 j0 j0 j0<|u<|asg j0<|r_nil ?_
 refine rg j0<|u<|mf j0 j0<|u<|al 2 ti90 j0<|u<|sto ti90 j0 j0 j0<|r_nil ?_
 obtain ⟨v4,q1,h⟩:=bs h
 refine rg j0<|u<|fa ti29 j0 j0 j0<|u<|ld ti26 j0 j0<|u<|mf j0 j0<|u<|pcs (slices_ContainsFunc_api_Field_api_Field_s2_ok v3.Fields v1 v2 q1) j0 j0 (.cons (si j0) (.cons (sealFn j5 ⟨(sealBox j0 ⟨(sealFn j5 ⟨(sealBox j0 ⟨(si j0),j5⟩),j5⟩),j5⟩),j5⟩) .nil)) plainB<|u<|asg j0<|r_nil ?_
 obtain ⟨v5,q2,h⟩:=bs h
 refine rg j0<|u<|fa ti29 j0 j0 j0<|u<|ld ti27 j0 j0<|u<|mf j0 j0<|u<|pcs (slices_ContainsFunc_api_Method_api_Method_s2_ok v3.Methods v1 v2 v1 v2 q2) j0 j0 (.cons (si j0) (.cons (sealFn j5 ⟨(sealBox j0 ⟨(sealFn j5 ⟨(sealBox j0 ⟨(si j0),j5⟩),j5⟩),j5⟩),(sealBox j0 ⟨(si j0),j5⟩),j5⟩) .nil)) plainB<|u<|asg j0<|r_nil ?_
 refine rg j0<|u<|mv j0<|u<|nt j0<|u<|mv j0<|r_and (j:=2) 2 j0 j0 j0 j0 j0 gpn (fun hb3=>g j0 hb3<|mv j0<|g j0 hb3<|nt j0<|r_nil (egA [20,21] 2 hb3 j0 j0 j0 j0)) andF<|u<|asg j0<|r_nil ?_
 refine sw_ret ?_
 obtain rfl:=sm h
 exact ⟨_,j0,[],ci j0,j0,j5,j0,j1⟩
def slices_Equal_string_string_k2 : Option (Bool) :=
  some true
def slices_Equal_string_string_l1 (v1 : List (List UInt8)) (v2 : List (List UInt8)) (v6 : Int) : Option (Sum (Int) (Sum (Unit) (Bool))) :=
  cond (decide (v6 < (List.length v1 : Int))) ((idx v1 v6).bind fun v7=>(idx v2 v6).bind fun v8=>cond (!(v7 == v8)) (some (.inr (.inr false))) (some (.inl (IntKind.i64.wrap (v6 + 1))))) (some (.inr (.inl ())))
def slices_Equal_string_string (v1 : List (List UInt8)) (v2 : List (List UInt8)) : Option (Bool) :=
  cond (!((List.length v1 : Int) == (List.length v2 : Int))) (some false) ((loopP (fun z=>slices_Equal_string_string_l1 v1 v2 z) 0).bind fun o=>leave o (fun b=>slices_Equal_string_string_k2) some)
theorem slices_Equal_string_string_ok (v1 : List (List UInt8)) (v2 : List (List UInt8)) {r : Bool} (h : slices_Equal_string_string v1 v2 = some r) : PureC Tryz.prog 237 [.isl 1 (List.map rStr v1),.isl 1 (List.map rStr v2)] (bA r):=by
 refine pure_fn Tryz.func237 j0 (by kernel_rfl) j0 j0 ?_
 unfold slices_Equal_string_string at h
 refine rg j0<|u<|asg j0<|r_nil ?_
 refine sw_seq ?_
 refine rg j0<|u<|mv j0<|u<|lnI ti25 j0 j0<|u<|mv j0<|u<|lnI ti25 j0 j0<|u<|neq ti3 j0 j0<|r_nil ?_
 refine sw_cond j0 (fun hc1=>?_) (fun hc1=>?_)
 ·
  replace h:=bT hc1 h
  refine rg j0<|u<|asg j0<|r_nil ?_
  refine sw_ret ?_
  obtain rfl:=sm h
  exact ⟨_,j0,[],ci j0,j0,j5,j0,j1⟩
 ·
  replace h:=bF hc1 h
  refine sw_skip ?_
  refine sw_seq ?_
  refine rg j0<|u<|mv j0<|u<|lnI ti25 j0 j0<|u<|mv j0<|r_nil ?_
  obtain ⟨o,ho,h⟩:=bs h
  refine sw_lpl (X:=Int) (B:=Unit) (R:=Bool) (fun z=>[(0,.isl 1 (List.map rStr v1)),(1,.isl 1 (List.map rStr v2)),(12,iA (List.length v1 : Int)),(13,iA z)]) (fun z=>[]) (fun b=>[]) (fun b=>[]) (fun r env st=>PostF Tryz.prog Tryz.f237 0 (bA r) [] env st) ho ⟨[],ce j0 j0<|ce j0 j0<|ce j0 j0<|ce j0 j0<|cn,j0,j5,j0,j1⟩ ?_ ?_ ?_
  ·
   rintro v6 r h
   replace h : slices_Equal_string_string_l1 v1 v2 v6 = some r:=h
   unfold slices_Equal_string_string_l1 at h
   refine rg j0<|u<|lss ti3 j0 j0<|r_nil ?_
   refine sw_seq ?_
   refine sw_cond j0 (fun hc6=>?_) (fun hc6=>?_)
   ·
    replace h:=bT hc6 h
    refine sw_skip ?_
    refine sw_seq ?_
    refine sw_block ?_
    refine rg j0<|u<|mv j0<|u<|asg j0<|r_nil ?_
    obtain ⟨v7,q7,h⟩:=bs h
    obtain ⟨v8,q8,h⟩:=bs h
    refine rd [(0,.isl 1 (List.map rStr v1)),(1,.isl 1 (List.map rStr v2)),(12,iA (List.length v1 : Int)),(13,iA v6),(24,bA (!(v7 == v8)))] [] [] [8,7,6,5,4,3,2,1,0] [(24,bA (!(v7 == v8))),(23,sA v8),(22,.ipt 1 (List.map rStr v2) (Int.toNat v6) 0),(21,iA v6),(20,.isl 1 (List.map rStr v2)),(19,sA v7),(18,.ipt 1 (List.map rStr v1) (Int.toNat v6) 0),(17,iA v6),(16,.isl 1 (List.map rStr v1))] 0 (by kernel_rfl) (by kernel_rfl) j0 (by kernel_rfl) (dt0 ⟨(fun _=>pa j0 j0 j0 j0 (sne ti9 j0 j0<|j4)),(fun _=>pa j0 j0 j0 j0 (ldI ti9 j0 (idx_some q8).2.2 j0<|j4)),(fun _=>pa j0 j0 j0 j0 (ixI ti25 j0 ti9 j0 j0 j0 q8<|j4)),(fun _=>pa j0 j0 j0 j0 (mv j0<|j4)),(fun _=>pa j0 j0 j0 j0 (mv j0<|j4)),(fun _=>pa j0 j0 j0 j0 (ldI ti9 j0 (idx_some q7).2.2 j0<|j4)),(fun _=>pa j0 j0 j0 j0 (ixI ti25 j0 ti9 j0 j0 j0 q7<|j4)),(fun _=>pa j0 j0 j0 j0 (mv j0<|j4)),(fun _=>pa j0 j0 j0 j0 (mv j0<|j4)),j5⟩ (by kernel_rfl) j0 ⟨[],ce j0 j0<|ce j0 j0<|ce j0 j0<|ce j0 j0<|ce j0 j0<|cn,j0,j5,j0,j1⟩) ?_
    refine sw_cond j0 (fun hc9=>?_) (fun hc9=>?_)
    ·
     replace h:=bT hc9 h
     refine rg j0<|u<|asg j0<|r_nil ?_
     refine sw_ret ?_
     obtain rfl:=sm h
     exact ⟨_,j0,_,j0,[],ci j0,j0,j5,j0,j1⟩
    ·
     replace h:=bF hc9 h
     refine sw_skip ?_
     refine rl j0<|u<|add ti3 j0 j0<|u<|mv j0<|r_nil ?_
     obtain rfl:=sm h
     exact ⟨_,j0,[],ce j0 j0<|ce j0 j0<|ce j0 j0<|ce j0 j0<|cn,j0,j5,j0,j1⟩
   ·
    replace h:=bF hc6 h
    refine sw_exit ?_
    obtain rfl:=sm h
    exact ⟨j0,_,j0,[],cn,j0,j5,j0,j1⟩
  ·
   rintro ⟨⟩ rfl
   replace h : slices_Equal_string_string_k2 = some r:=h
   unfold slices_Equal_string_string_k2 at h
   refine ow_intro ?_
   refine rg j0<|u<|asg j0<|r_nil ?_
   refine sw_ret ?_
   obtain rfl:=sm h
   exact ⟨_,j0,[],ci j0,j0,j5,j0,j1⟩
  ·
   rintro r' rfl env st hp
   obtain rfl:=sm h
   exact hp
def link_Alike (v1 : ApiMethod) (v2 : ApiMethod) : Option (Bool) :=
  (slices_Equal_string_string v1.Params v2.Params).bind fun v3=>some (v3 && (v1.Ret == v2.Ret))
theorem link_Alike_ok (v1 : ApiMethod) (v2 : ApiMethod) {r : Bool} (h : link_Alike v1 v2 = some r) : PureC Tryz.prog 166 [.agg (rApiMethod v1),.agg (rApiMethod v2)] (bA r):=by
 refine pure_fn Tryz.func166 j0 (by kernel_rfl) j0 j0 ?_
 unfold link_Alike at h
 refine rg j0<|u<|bx 0 10 j0 j0 j0 j0<|u<|bx 1 10 j0 j0 j0 j0<|u<|asg j0<|r_nil ?_
 obtain ⟨v3,q1,h⟩:=bs h
 refine rg j0<|u<|fa ti76 j0 j0 j0<|u<|ld ti25 j0 j0<|u<|fa ti76 j0 j0 j0<|u<|ld ti25 j0 j0<|u<|pc (slices_Equal_string_string_ok v1.Params v2.Params q1) j0 j0 j0<|u<|mv j0<|r_and (j:=5) 5 j0 j0 j0 j0 j0 gpn (fun hb2=>g j0 hb2<|fa ti76 j0 j0 j0<|g j0 hb2<|ld ti9 j0 j0<|g j0 hb2<|fa ti76 j0 j0 j0<|g j0 hb2<|ld ti9 j0 j0<|g j0 hb2<|seq ti9 j0 j0<|r_nil (egA [11,12,13,14,15] 5 hb2 j0 j0 j0 j0)) andF<|u<|asg j0<|r_nil ?_
 refine sw_ret ?_
 obtain rfl:=sm h
 exact ⟨_,j0,[],ci j0,j0,j5,j0,j1⟩
def closed_overrides_1 (v1 : ApiMethod) (v2 : List UInt8) (v3 : List (List UInt8)) (v4 : List UInt8) (v5 : Bool) (v6 : Bool) (v7 : Int) (v8 : Int) (v9 : List ApiIns) (v10 : List ApiMap) (v11 : List ApiTrap) : Option (Bool) :=
  (cond ((v1.Name == v2) && (!(v2 == [36,105,110,105,116]))) ((link_Alike (ApiMethod.mk v2 v3 v4 v5 v6 v7 v8 v9 v10 v11) v1).bind fun v12=>some (((!v12) || v5) || v1.Static)) (some false)).bind fun v13=>some v13
theorem closed_overrides_1_ok (v1 : ApiMethod) (v2 : List UInt8) (v3 : List (List UInt8)) (v4 : List UInt8) (v5 : Bool) (v6 : Bool) (v7 : Int) (v8 : Int) (v9 : List ApiIns) (v10 : List ApiMap) (v11 : List ApiTrap) {r : Bool} (h : closed_overrides_1 v1 v2 v3 v4 v5 v6 v7 v8 v9 v10 v11 = some r) : PureC Tryz.prog 224 [.agg (rApiMethod v1),.ipt 10 [[sA v2,.isl 1 (List.map rStr v3),sA v4,bA v5,bA v6,iA v7,iA v8,.isl 4 (List.map rApiIns v9),.isl 3 (List.map rApiMap v10),.isl 4 (List.map rApiTrap v11)]] 0 0] (bA r):=by
 refine pure_fn Tryz.func224 j0 (by kernel_rfl) j0 j0 ?_
 unfold closed_overrides_1 at h
 refine rg j0<|u<|bx 0 10 j0 j0 j0 j0<|u<|asg j0<|r_nil ?_
 obtain ⟨v13,q6,h⟩:=bs h
 refine rg j0<|u<|fa ti76 j0 j0 j0<|u<|ld ti9 j0 j0<|u<|fa ti76 j0 j0 j0<|u<|ld ti9 j0 j0<|u<|seq ti9 j0 j0<|u<|mv j0<|r_and (j:=5) 3 j0 j0 j0 j0 j0 gpn (fun hb1=>g j0 hb1<|fa ti76 j0 j0 j0<|g j0 hb1<|ld ti9 j0 j0<|g j0 hb1<|sne ti9 j0 j0<|r_nil (egA [10,11,12] 3 hb1 j0 j0 j0 j0)) andF<|u<|mv j0<|r_and (x:=v13) (j:=10) 12 j0 j0 j0 j0 j0 gpn (fun hb2=>by replace q6:=bT hb2 q6; obtain ⟨v12,q3,q6⟩:=bs q6; obtain rfl:=sm q6; exact g j0 hb2<|ld ti76 j0 j0<|g j0 hb2<|ld ti76 j0 j0<|g j0 hb2<|pc (link_Alike_ok (ApiMethod.mk v2 v3 v4 v5 v6 v7 v8 v9 v10 v11) v1 q3) j0 j0 j0<|g j0 hb2<|nt j0<|g j0 hb2<|mv j0<|r_or (j:=15) 2 j0 j0 j0 j0 j0 (gps j0 j0 hb2) (fun hb4=>g j0 hb4<|fa ti76 j0 j0 j0<|g j0 hb4<|ld ti4 j0 j0<|r_nil (egO [20,21] 2 hb4 j0 j0 j0 j0)) orT<|g j0 hb2<|mv j0<|r_or (j:=19) 2 j0 j0 j0 j0 j0 (gps j0 j0 hb2) (fun hb5=>g j0 hb5<|fa ti76 j0 j0 j0<|g j0 hb5<|ld ti4 j0 j0<|r_nil (egO [24,25] 2 hb5 j0 j0 j0 j0)) orT<|r_nil (eg [15,16,17,18,19,20,21,22,23,24,25,26] 8 j0 j0 j0 j0)) (fun hb=>(sm (bF hb q6)).symm)<|u<|asg j0<|r_nil ?_
 refine sw_ret ?_
 obtain rfl:=sm h
 exact ⟨_,j0,[],ci j0,j0,j5,j0,j1⟩
def slices_IndexFunc_api_Method_api_Method_s4_k2 : Option (Int) :=
  some (-1)
def slices_IndexFunc_api_Method_api_Method_s4_l1 (v1 : List ApiMethod) (v2 : List UInt8) (v3 : List (List UInt8)) (v4 : List UInt8) (v5 : Bool) (v6 : Bool) (v7 : Int) (v8 : Int) (v9 : List ApiIns) (v10 : List ApiMap) (v11 : List ApiTrap) (v15 : Int) : Option (Sum (Int) (Sum (Unit) (Int))) :=
  cond (decide (v15 < (List.length v1 : Int))) ((idx v1 v15).bind fun v16=>(closed_overrides_1 v16 v2 v3 v4 v5 v6 v7 v8 v9 v10 v11).bind fun v17=>cond v17 (some (.inr (.inr v15))) (some (.inl (IntKind.i64.wrap (v15 + 1))))) (some (.inr (.inl ())))
def slices_IndexFunc_api_Method_api_Method_s4 (v1 : List ApiMethod) (v2 : List UInt8) (v3 : List (List UInt8)) (v4 : List UInt8) (v5 : Bool) (v6 : Bool) (v7 : Int) (v8 : Int) (v9 : List ApiIns) (v10 : List ApiMap) (v11 : List ApiTrap) : Option (Int) :=
  (loopP (fun z=>slices_IndexFunc_api_Method_api_Method_s4_l1 v1 v2 v3 v4 v5 v6 v7 v8 v9 v10 v11 z) 0).bind fun o=>leave o (fun b=>slices_IndexFunc_api_Method_api_Method_s4_k2) some
theorem slices_IndexFunc_api_Method_api_Method_s4_ok (v1 : List ApiMethod) (v2 : List UInt8) (v3 : List (List UInt8)) (v4 : List UInt8) (v5 : Bool) (v6 : Bool) (v7 : Int) (v8 : Int) (v9 : List ApiIns) (v10 : List ApiMap) (v11 : List ApiTrap) {r : Int} (h : slices_IndexFunc_api_Method_api_Method_s4 v1 v2 v3 v4 v5 v6 v7 v8 v9 v10 v11 = some r) : PureC Tryz.prog 244 [.isl 10 (List.map rApiMethod v1),.fn (.func 224) [] [.ipt 10 [[sA v2,.isl 1 (List.map rStr v3),sA v4,bA v5,bA v6,iA v7,iA v8,.isl 4 (List.map rApiIns v9),.isl 3 (List.map rApiMap v10),.isl 4 (List.map rApiTrap v11)]] 0 0]] (iA r):=by
 refine pure_fn Tryz.func244 j0 (by kernel_rfl) j0 j0 ?_
 unfold slices_IndexFunc_api_Method_api_Method_s4 at h
 refine rg j0<|u<|asg j0<|r_nil ?_
 refine sw_seq ?_
 refine rg j0<|u<|mv j0<|u<|lnI ti27 j0 j0<|u<|mv j0<|r_nil ?_
 obtain ⟨o,ho,h⟩:=bs h
 refine sw_lpl (X:=Int) (B:=Unit) (R:=Int) (fun z=>[(0,.isl 10 (List.map rApiMethod v1)),(1,.fn (.func 224) [] [.ipt 10 [[sA v2,.isl 1 (List.map rStr v3),sA v4,bA v5,bA v6,iA v7,iA v8,.isl 4 (List.map rApiIns v9),.isl 3 (List.map rApiMap v10),.isl 4 (List.map rApiTrap v11)]] 0 0]),(7,iA (List.length v1 : Int)),(8,iA z)]) (fun z=>[]) (fun b=>[]) (fun b=>[]) (fun r env st=>PostF Tryz.prog Tryz.f244 0 (iA r) [] env st) ho ⟨[],ce j0 j0<|ce j0 j0<|ce j0 j0<|ce j0 j0<|cn,j0,j5,j0,j1⟩ ?_ ?_ ?_
 ·
  rintro v15 r h
  replace h : slices_IndexFunc_api_Method_api_Method_s4_l1 v1 v2 v3 v4 v5 v6 v7 v8 v9 v10 v11 v15 = some r:=h
  unfold slices_IndexFunc_api_Method_api_Method_s4_l1 at h
  refine rg j0<|u<|lss ti3 j0 j0<|r_nil ?_
  refine sw_seq ?_
  refine sw_cond j0 (fun hc5=>?_) (fun hc5=>?_)
  ·
   replace h:=bT hc5 h
   refine sw_skip ?_
   refine sw_seq ?_
   refine sw_block ?_
   refine rg j0<|u<|mv j0<|u<|asg j0<|r_nil ?_
   obtain ⟨v16,q6,h⟩:=bs h
   obtain ⟨v17,q7,h⟩:=bs h
   refine rg j0<|u<|mv j0<|u<|mv j0<|u<|mv j0<|u<|ixI ti27 j0 ti76 j0 j0 j0 q6<|u<|ldI ti76 j0 (idx_some q6).2.2 j0<|u<|pc (closed_overrides_1_ok v16 v2 v3 v4 v5 v6 v7 v8 v9 v10 v11 q7) j0 j0 j0<|r_nil ?_
   refine sw_cond j0 (fun hc8=>?_) (fun hc8=>?_)
   ·
    replace h:=bT hc8 h
    refine rg j0<|u<|mv j0<|u<|asg j0<|r_nil ?_
    refine sw_ret ?_
    obtain rfl:=sm h
    exact ⟨_,j0,_,j0,[],ci j0,j0,j5,j0,j1⟩
   ·
    replace h:=bF hc8 h
    refine sw_skip ?_
    refine rl j0<|u<|add ti3 j0 j0<|u<|mv j0<|r_nil ?_
    obtain rfl:=sm h
    exact ⟨_,j0,[],ce j0 j0<|ce j0 j0<|ce j0 j0<|ce j0 j0<|cn,j0,j5,j0,j1⟩
  ·
   replace h:=bF hc5 h
   refine sw_exit ?_
   obtain rfl:=sm h
   exact ⟨j0,_,j0,[],cn,j0,j5,j0,j1⟩
 ·
  rintro ⟨⟩ rfl
  replace h : slices_IndexFunc_api_Method_api_Method_s4_k2 = some r:=h
  unfold slices_IndexFunc_api_Method_api_Method_s4_k2 at h
  refine ow_intro ?_
  refine rg j0<|u<|asg j0<|r_nil ?_
  refine sw_ret ?_
  obtain rfl:=sm h
  exact ⟨_,j0,[],ci j0,j0,j5,j0,j1⟩
 ·
  rintro r' rfl env st hp
  obtain rfl:=sm h
  exact hp
def slices_ContainsFunc_api_Method_api_Method_s3 (v1 : List ApiMethod) (v2 : List UInt8) (v3 : List (List UInt8)) (v4 : List UInt8) (v5 : Bool) (v6 : Bool) (v7 : Int) (v8 : Int) (v9 : List ApiIns) (v10 : List ApiMap) (v11 : List ApiTrap) : Option (Bool) :=
  (slices_IndexFunc_api_Method_api_Method_s4 v1 v2 v3 v4 v5 v6 v7 v8 v9 v10 v11).bind fun v12=>some (decide (0 ≤ v12))
theorem slices_ContainsFunc_api_Method_api_Method_s3_ok (v1 : List ApiMethod) (v2 : List UInt8) (v3 : List (List UInt8)) (v4 : List UInt8) (v5 : Bool) (v6 : Bool) (v7 : Int) (v8 : Int) (v9 : List ApiIns) (v10 : List ApiMap) (v11 : List ApiTrap) {r : Bool} (h : slices_ContainsFunc_api_Method_api_Method_s3 v1 v2 v3 v4 v5 v6 v7 v8 v9 v10 v11 = some r) : PureC Tryz.prog 181 [.isl 10 (List.map rApiMethod v1),.fn (.func 224) [] [.ipt 10 [[sA v2,.isl 1 (List.map rStr v3),sA v4,bA v5,bA v6,iA v7,iA v8,.isl 4 (List.map rApiIns v9),.isl 3 (List.map rApiMap v10),.isl 4 (List.map rApiTrap v11)]] 0 0]] (bA r):=by
 refine pure_fn Tryz.func181 j0 (by kernel_rfl) j0 j0 ?_
 unfold slices_ContainsFunc_api_Method_api_Method_s3 at h
 refine rg j0<|u<|asg j0<|r_nil ?_
 obtain ⟨v12,q1,h⟩:=bs h
 refine rg j0<|u<|mv j0<|u<|mv j0<|u<|pc (slices_IndexFunc_api_Method_api_Method_s4_ok v1 v2 v3 v4 v5 v6 v7 v8 v9 v10 v11 q1) j0 j0 j0<|u<|geq ti3 j0 j0<|u<|asg j0<|r_nil ?_
 refine sw_ret ?_
 obtain rfl:=sm h
 exact ⟨_,j0,[],ci j0,j0,j5,j0,j1⟩
def closed_overrides_k6 : Option (Bool) :=
  some true
def closed_overrides_k4 (v16 : Int) : Option (Sum (Int) (Sum (Unit) (Bool))) :=
  some (.inl (IntKind.i64.wrap (v16 + 1)))
def closed_overrides_l3 (v1 : List ApiClass) (v2 : List (List UInt8 × Int)) (v17 : ApiMethod) (v19 : List (List UInt8)) (v24 : Int) : Option (Sum (Int) (Sum (Unit) (Bool))) :=
  cond (decide (v24 < (List.length v19 : Int))) ((idx v19 v24).bind fun v25=>(hier_Hier_Class_s3 v1 v2 v25).bind fun v26=>(slices_ContainsFunc_api_Method_api_Method_s3 v26.1.Methods v17.Name v17.Params v17.Ret v17.Static v17.Abstract v17.Locals v17.Stack v17.Code v17.Maps v17.Traps).bind fun v27=>cond v27 (some (.inr (.inr false))) (some (.inl (IntKind.i64.wrap (v24 + 1))))) (some (.inr (.inl ())))
def closed_overrides_l5 (v1 : List ApiClass) (v2 : List (List UInt8 × Int)) (v3 : ApiClass) (v16 : Int) : Option (Sum (Int) (Sum (Unit) (Bool))) :=
  cond (decide (v16 < (List.length v3.Methods : Int))) ((idx v3.Methods v16).bind fun v17=>(hier_Hier_Supers_s2 v1 v2 v3.Name).bind fun v18=>(cutP v18 1 (List.length v18 : Int)).bind fun v19=>(loopP (fun z=>closed_overrides_l3 v1 v2 v17 v19 z) 0).bind fun o=>leave o (fun b=>closed_overrides_k4 v16) (fun r=>some (.inr (.inr r)))) (some (.inr (.inl ())))
def closed_overrides (v1 : List ApiClass) (v2 : List (List UInt8 × Int)) (v3 : ApiClass) : Option (Bool) :=
  (loopP (fun z=>closed_overrides_l5 v1 v2 v3 z) 0).bind fun o=>leave o (fun b=>closed_overrides_k6) some
theorem closed_overrides_ok (v1 : List ApiClass) (v2 : List (List UInt8 × Int)) (v3 : ApiClass) {r : Bool} (h : closed_overrides v1 v2 v3 = some r) : PureC Tryz.prog 155 [.ipt 2 [[.isl 6 (List.map rApiClass v1),.imp (List.map (rKV (fun x=>iA x)) v2)]] 0 0,.agg (rApiClass v3)] (bA r):=by
 refine pure_fn Tryz.func155 j0 (by kernel_rfl) j0 j0 ?_
 unfold closed_overrides at h
 refine rg j0<|u<|bx 0 6 j0 j0 j0 j0<|u<|asg j0<|r_nil ?_
 refine sw_seq ?_
 refine rg j0<|u<|fa ti29 j0 j0 j0<|u<|ld ti27 j0 j0<|u<|lnI ti27 j0 j0<|u<|mv j0<|r_nil ?_
 obtain ⟨o,ho,h⟩:=bs h
 refine sw_lpl (X:=Int) (B:=Unit) (R:=Bool) (fun z=>[(0,.ipt 2 [[.isl 6 (List.map rApiClass v1),.imp (List.map (rKV (fun x=>iA x)) v2)]] 0 0),(3,.mpt 0 0 0),(12,.isl 10 (List.map rApiMethod v3.Methods)),(13,iA (List.length v3.Methods : Int)),(14,iA z)]) (fun z=>[some (6,[(rApiClass v3)])]) (fun b=>[]) (fun b=>[]) (fun r env st=>PostF Tryz.prog Tryz.f155 0 (bA r) [] env st) ho ⟨[.old 0],ce j0 j0<|cv j0 (.mpt j0)<|ce j0 j0<|ce j0 j0<|ce j0 j0<|cn,j0,⟨⟨_,j0,rsOne (ciL j0)⟩,j5⟩,j0,j1⟩ ?_ ?_ ?_
 ·
  rintro v16 r h
  replace h : closed_overrides_l5 v1 v2 v3 v16 = some r:=h
  unfold closed_overrides_l5 at h
  refine rg j0<|u<|lss ti3 j0 j0<|r_nil ?_
  refine sw_seq ?_
  refine sw_cond j0 (fun hc15=>?_) (fun hc15=>?_)
  ·
   replace h:=bT hc15 h
   refine sw_skip ?_
   refine sw_seq ?_
   refine sw_block ?_
   obtain ⟨v17,q16,h⟩:=bs h
   refine rg j0<|u<|ixI ti27 j0 ti76 j0 j0 j0 q16<|u<|ldI ti76 j0 (idx_some q16).2.2 j0<|u<|al 1 ti76 j0<|u<|sto ti76 j0 j0 j0<|r_nil ?_
   obtain ⟨v18,q17,h⟩:=bs h
   obtain ⟨v19,q18,h⟩:=bs h
   refine rg j0<|u<|mv j0<|u<|fa ti29 j0 j0 j0<|u<|ld ti9 j0 j0<|u<|sc [] (hier_Hier_Supers_s2_ok v1 v2 v3.Name q17) j0 j0 j0 j0 ⟨(rnI j0),(rnI j0),j5⟩ j5<|r_can (env0:=[(0,.ipt 2 [[.isl 6 (List.map rApiClass v1),.imp (List.map (rKV (fun x=>iA x)) v2)]] 0 0),(3,.mpt 0 0 0),(6,.mpt 1 0 0),(12,.isl 10 (List.map rApiMethod v3.Methods)),(13,iA (List.length v3.Methods : Int)),(14,iA v16),(21,.msl 2 0 (List.length v18))]) (st0:=[some (6,[(rApiClass v3)]),some (10,[(rApiMethod v17)]),some (1,List.map rStr v18)]) ⟨[.old 0,.old 1,.old 2],ce j0 j0<|cv j0 (.mpt j0)<|cv j0 (.mpt j0)<|ce j0 j0<|ce j0 j0<|ce j0 j0<|cv j0 (.msl j0)<|cn,j0,⟨⟨_,j0,rsOne (ciL j0)⟩,⟨_,j0,rsOne (ciL j0)⟩,⟨_,j0,rsMap (fun _=>j0)⟩,j5⟩,j0,j1⟩<|r_can (env0:=[(0,.ipt 2 [[.isl 6 (List.map rApiClass v1),.imp (List.map (rKV (fun x=>iA x)) v2)]] 0 0),(3,.mpt 0 0 0),(6,.mpt 1 0 0),(12,.isl 10 (List.map rApiMethod v3.Methods)),(13,iA (List.length v3.Methods : Int)),(14,iA v16),(21,.isl 1 (List.map rStr v18))]) (st0:=[some (6,[(rApiClass v3)]),some (10,[(rApiMethod v17)])]) ⟨[.old 0,.old 1],ce j0 j0<|cv j0 (.mpt j0)<|cv j0 (.mpt j0)<|ce j0 j0<|ce j0 j0<|ce j0 j0<|cv j0 (rsSeal j0 j0 (fun _=>j0))<|cn,j0,⟨⟨_,j0,rsOne (ciL j0)⟩,⟨_,j0,rsOne (ciL j0)⟩,j5⟩,j0,j1⟩<|u<|slI (a:=1) (b:=(List.length v18 : Int)) ti25 j0 ti9 j0 j0 (bnd_lo j0 q18) j0 q18<|u<|lnI ti25 j0 j0<|u<|mv j0<|r_nil ?_
   obtain ⟨o,ho,h⟩:=bs h
   refine sw_lpl (X:=Int) (B:=Unit) (R:=Bool) (fun z=>[(0,.ipt 2 [[.isl 6 (List.map rApiClass v1),.imp (List.map (rKV (fun x=>iA x)) v2)]] 0 0),(3,.mpt 0 0 0),(6,.mpt 1 0 0),(12,.isl 10 (List.map rApiMethod v3.Methods)),(13,iA (List.length v3.Methods : Int)),(14,iA v16),(22,.isl 1 (List.map rStr v19)),(23,iA (List.length v19 : Int)),(24,iA z)]) (fun z=>[some (6,[(rApiClass v3)]),some (10,[(rApiMethod v17)])]) (fun b=>[(0,.ipt 2 [[.isl 6 (List.map rApiClass v1),.imp (List.map (rKV (fun x=>iA x)) v2)]] 0 0),(3,.mpt 0 0 0),(12,.isl 10 (List.map rApiMethod v3.Methods)),(13,iA (List.length v3.Methods : Int)),(14,iA v16)]) (fun b=>[some (6,[(rApiClass v3)])]) (fun r env st=>PostF Tryz.prog Tryz.f155 0 (bA r) [] env st) ho ⟨[.old 0,.old 1],ce j0 j0<|cv j0 (.mpt j0)<|cv j0 (.mpt j0)<|ce j0 j0<|ce j0 j0<|ce j0 j0<|ce j0 j0<|ce j0 j0<|ce j0 j0<|cn,j0,⟨⟨_,j0,rsOne (ciL j0)⟩,⟨_,j0,rsOne (ciL j0)⟩,j5⟩,j0,j1⟩ ?_ ?_ ?_
   ·
    rintro v24 r h
    replace h : closed_overrides_l3 v1 v2 v17 v19 v24 = some r:=h
    unfold closed_overrides_l3 at h
    refine rg j0<|u<|lss ti3 j0 j0<|r_nil ?_
    refine sw_seq ?_
    refine sw_cond j0 (fun hc24=>?_) (fun hc24=>?_)
    ·
     replace h:=bT hc24 h
     refine sw_skip ?_
     refine sw_seq ?_
     refine sw_block ?_
     obtain ⟨v25,q25,h⟩:=bs h
     refine rg j0<|u<|ixI ti25 j0 ti9 j0 j0 j0 q25<|u<|ldI ti9 j0 (idx_some q25).2.2 j0<|u<|asg j0<|r_nil ?_
     obtain ⟨v26,q26,h⟩:=bs h
     refine rg j0<|u<|mv j0<|u<|mv j0<|u<|pc (hier_Hier_Class_s3_ok v1 v2 v25 q26) j0 j0 j0<|u<|mv j0<|u<|ex j0 j0<|u<|ex j0 j0<|u<|al 2 ti29 j0<|u<|sto ti29 j0 j0 j0<|u<|asg j0<|r_nil ?_
     obtain ⟨v27,q27,h⟩:=bs h
     refine rg j0<|u<|fa ti29 j0 j0 j0<|u<|ld ti27 j0 j0<|u<|mf j0 j0<|u<|pcs (slices_ContainsFunc_api_Method_api_Method_s3_ok v26.1.Methods v17.Name v17.Params v17.Ret v17.Static v17.Abstract v17.Locals v17.Stack v17.Code v17.Maps v17.Traps q27) j0 j0 (.cons (si j0) (.cons (sealFn j5 ⟨(sealBox j0 ⟨(si j0),(si j0),(si j0),(si j0),(si j0),(si j0),(si j0),(si j0),(si j0),(si j0),j5⟩),j5⟩) .nil)) plainB<|r_nil ?_
     refine sw_cond j0 (fun hc28=>?_) (fun hc28=>?_)
     ·
      replace h:=bT hc28 h
      refine rg j0<|u<|asg j0<|r_nil ?_
      refine sw_ret ?_
      obtain rfl:=sm h
      exact ⟨_,j0,_,j0,[],ci j0,j0,j5,j0,j1⟩
     ·
      replace h:=bF hc28 h
      refine sw_skip ?_
      refine rl j0<|u<|add ti3 j0 j0<|u<|mv j0<|r_nil ?_
      obtain rfl:=sm h
      exact ⟨_,j0,[.old 0,.old 1],ce j0 j0<|cv j0 (.mpt j0)<|cv j0 (.mpt j0)<|ce j0 j0<|ce j0 j0<|ce j0 j0<|ce j0 j0<|ce j0 j0<|ce j0 j0<|cn,j0,⟨⟨_,j0,rsOne (ciL j0)⟩,⟨_,j0,rsOne (ciL j0)⟩,j5⟩,j0,j1⟩
    ·
     replace h:=bF hc24 h
     refine sw_exit ?_
     obtain rfl:=sm h
     exact ⟨j0,_,j0,[.old 0],ce j0 j0<|cv j0 (.mpt j0)<|ce j0 j0<|ce j0 j0<|ce j0 j0<|cn,j0,⟨⟨_,j0,rsOne (ciL j0)⟩,j5⟩,j0,j1⟩
   ·
    rintro ⟨⟩ rfl
    replace h : closed_overrides_k4 v16 = some r:=h
    unfold closed_overrides_k4 at h
    refine ow_intro ?_
    refine rl j0<|u<|add ti3 j0 j0<|u<|mv j0<|r_nil ?_
    obtain rfl:=sm h
    exact ⟨_,j0,[.old 0],ce j0 j0<|cv j0 (.mpt j0)<|ce j0 j0<|ce j0 j0<|ce j0 j0<|cn,j0,⟨⟨_,j0,rsOne (ciL j0)⟩,j5⟩,j0,j1⟩
   ·
    rintro r' rfl env st hp
    obtain rfl:=sm h
    exact ⟨_,j0,hp⟩
  ·
   replace h:=bF hc15 h
   refine sw_exit ?_
   obtain rfl:=sm h
   exact ⟨j0,_,j0,[],cn,j0,j5,j0,j1⟩
 ·
  rintro ⟨⟩ rfl
  replace h : closed_overrides_k6 = some r:=h
  unfold closed_overrides_k6 at h
  refine ow_intro ?_
  refine rg j0<|u<|asg j0<|r_nil ?_
  refine sw_ret ?_
  obtain rfl:=sm h
  exact ⟨_,j0,[],ci j0,j0,j5,j0,j1⟩
 ·
  rintro r' rfl env st hp
  obtain rfl:=sm h
  exact hp
def closed_faces_1 (v1 : ApiMethod) (v2 : List UInt8) (v3 : List (List UInt8)) (v4 : List UInt8) (v5 : Bool) (v6 : Bool) (v7 : Int) (v8 : Int) (v9 : List ApiIns) (v10 : List ApiMap) (v11 : List ApiTrap) : Option (Bool) :=
  (cond (v1.Name == v2) ((link_Alike (ApiMethod.mk v2 v3 v4 v5 v6 v7 v8 v9 v10 v11) v1).bind fun v12=>some (!v12)) (some false)).bind fun v13=>some v13
theorem closed_faces_1_ok (v1 : ApiMethod) (v2 : List UInt8) (v3 : List (List UInt8)) (v4 : List UInt8) (v5 : Bool) (v6 : Bool) (v7 : Int) (v8 : Int) (v9 : List ApiIns) (v10 : List ApiMap) (v11 : List ApiTrap) {r : Bool} (h : closed_faces_1 v1 v2 v3 v4 v5 v6 v7 v8 v9 v10 v11 = some r) : PureC Tryz.prog 225 [.agg (rApiMethod v1),.ipt 10 [[sA v2,.isl 1 (List.map rStr v3),sA v4,bA v5,bA v6,iA v7,iA v8,.isl 4 (List.map rApiIns v9),.isl 3 (List.map rApiMap v10),.isl 4 (List.map rApiTrap v11)]] 0 0] (bA r):=by
 refine pure_fn Tryz.func225 j0 (by kernel_rfl) j0 j0 ?_
 unfold closed_faces_1 at h
 refine rg j0<|u<|bx 0 10 j0 j0 j0 j0<|u<|asg j0<|r_nil ?_
 obtain ⟨v13,q3,h⟩:=bs h
 refine rg j0<|u<|fa ti76 j0 j0 j0<|u<|ld ti9 j0 j0<|u<|fa ti76 j0 j0 j0<|u<|ld ti9 j0 j0<|u<|seq ti9 j0 j0<|u<|mv j0<|r_and (x:=v13) (j:=5) 4 j0 j0 j0 j0 j0 gpn (fun hb1=>by replace q3:=bT hb1 q3; obtain ⟨v12,q2,q3⟩:=bs q3; obtain rfl:=sm q3; exact g j0 hb1<|ld ti76 j0 j0<|g j0 hb1<|ld ti76 j0 j0<|g j0 hb1<|pc (link_Alike_ok (ApiMethod.mk v2 v3 v4 v5 v6 v7 v8 v9 v10 v11) v1 q2) j0 j0 j0<|g j0 hb1<|nt j0<|r_nil (eg [10,11,12,13] 4 j0 j0 j0 j0)) (fun hb=>(sm (bF hb q3)).symm)<|u<|asg j0<|r_nil ?_
 refine sw_ret ?_
 obtain rfl:=sm h
 exact ⟨_,j0,[],ci j0,j0,j5,j0,j1⟩
def slices_IndexFunc_api_Method_api_Method_s5_k2 : Option (Int) :=
  some (-1)
def slices_IndexFunc_api_Method_api_Method_s5_l1 (v1 : List ApiMethod) (v2 : List UInt8) (v3 : List (List UInt8)) (v4 : List UInt8) (v5 : Bool) (v6 : Bool) (v7 : Int) (v8 : Int) (v9 : List ApiIns) (v10 : List ApiMap) (v11 : List ApiTrap) (v15 : Int) : Option (Sum (Int) (Sum (Unit) (Int))) :=
  cond (decide (v15 < (List.length v1 : Int))) ((idx v1 v15).bind fun v16=>(closed_faces_1 v16 v2 v3 v4 v5 v6 v7 v8 v9 v10 v11).bind fun v17=>cond v17 (some (.inr (.inr v15))) (some (.inl (IntKind.i64.wrap (v15 + 1))))) (some (.inr (.inl ())))
def slices_IndexFunc_api_Method_api_Method_s5 (v1 : List ApiMethod) (v2 : List UInt8) (v3 : List (List UInt8)) (v4 : List UInt8) (v5 : Bool) (v6 : Bool) (v7 : Int) (v8 : Int) (v9 : List ApiIns) (v10 : List ApiMap) (v11 : List ApiTrap) : Option (Int) :=
  (loopP (fun z=>slices_IndexFunc_api_Method_api_Method_s5_l1 v1 v2 v3 v4 v5 v6 v7 v8 v9 v10 v11 z) 0).bind fun o=>leave o (fun b=>slices_IndexFunc_api_Method_api_Method_s5_k2) some
theorem slices_IndexFunc_api_Method_api_Method_s5_ok (v1 : List ApiMethod) (v2 : List UInt8) (v3 : List (List UInt8)) (v4 : List UInt8) (v5 : Bool) (v6 : Bool) (v7 : Int) (v8 : Int) (v9 : List ApiIns) (v10 : List ApiMap) (v11 : List ApiTrap) {r : Int} (h : slices_IndexFunc_api_Method_api_Method_s5 v1 v2 v3 v4 v5 v6 v7 v8 v9 v10 v11 = some r) : PureC Tryz.prog 244 [.isl 10 (List.map rApiMethod v1),.fn (.func 225) [] [.ipt 10 [[sA v2,.isl 1 (List.map rStr v3),sA v4,bA v5,bA v6,iA v7,iA v8,.isl 4 (List.map rApiIns v9),.isl 3 (List.map rApiMap v10),.isl 4 (List.map rApiTrap v11)]] 0 0]] (iA r):=by
 refine pure_fn Tryz.func244 j0 (by kernel_rfl) j0 j0 ?_
 unfold slices_IndexFunc_api_Method_api_Method_s5 at h
 refine rg j0<|u<|asg j0<|r_nil ?_
 refine sw_seq ?_
 refine rg j0<|u<|mv j0<|u<|lnI ti27 j0 j0<|u<|mv j0<|r_nil ?_
 obtain ⟨o,ho,h⟩:=bs h
 refine sw_lpl (X:=Int) (B:=Unit) (R:=Int) (fun z=>[(0,.isl 10 (List.map rApiMethod v1)),(1,.fn (.func 225) [] [.ipt 10 [[sA v2,.isl 1 (List.map rStr v3),sA v4,bA v5,bA v6,iA v7,iA v8,.isl 4 (List.map rApiIns v9),.isl 3 (List.map rApiMap v10),.isl 4 (List.map rApiTrap v11)]] 0 0]),(7,iA (List.length v1 : Int)),(8,iA z)]) (fun z=>[]) (fun b=>[]) (fun b=>[]) (fun r env st=>PostF Tryz.prog Tryz.f244 0 (iA r) [] env st) ho ⟨[],ce j0 j0<|ce j0 j0<|ce j0 j0<|ce j0 j0<|cn,j0,j5,j0,j1⟩ ?_ ?_ ?_
 ·
  rintro v15 r h
  replace h : slices_IndexFunc_api_Method_api_Method_s5_l1 v1 v2 v3 v4 v5 v6 v7 v8 v9 v10 v11 v15 = some r:=h
  unfold slices_IndexFunc_api_Method_api_Method_s5_l1 at h
  refine rg j0<|u<|lss ti3 j0 j0<|r_nil ?_
  refine sw_seq ?_
  refine sw_cond j0 (fun hc5=>?_) (fun hc5=>?_)
  ·
   replace h:=bT hc5 h
   refine sw_skip ?_
   refine sw_seq ?_
   refine sw_block ?_
   refine rg j0<|u<|mv j0<|u<|asg j0<|r_nil ?_
   obtain ⟨v16,q6,h⟩:=bs h
   obtain ⟨v17,q7,h⟩:=bs h
   refine rg j0<|u<|mv j0<|u<|mv j0<|u<|mv j0<|u<|ixI ti27 j0 ti76 j0 j0 j0 q6<|u<|ldI ti76 j0 (idx_some q6).2.2 j0<|u<|pc (closed_faces_1_ok v16 v2 v3 v4 v5 v6 v7 v8 v9 v10 v11 q7) j0 j0 j0<|r_nil ?_
   refine sw_cond j0 (fun hc8=>?_) (fun hc8=>?_)
   ·
    replace h:=bT hc8 h
    refine rg j0<|u<|mv j0<|u<|asg j0<|r_nil ?_
    refine sw_ret ?_
    obtain rfl:=sm h
    exact ⟨_,j0,_,j0,[],ci j0,j0,j5,j0,j1⟩
   ·
    replace h:=bF hc8 h
    refine sw_skip ?_
    refine rl j0<|u<|add ti3 j0 j0<|u<|mv j0<|r_nil ?_
    obtain rfl:=sm h
    exact ⟨_,j0,[],ce j0 j0<|ce j0 j0<|ce j0 j0<|ce j0 j0<|cn,j0,j5,j0,j1⟩
  ·
   replace h:=bF hc5 h
   refine sw_exit ?_
   obtain rfl:=sm h
   exact ⟨j0,_,j0,[],cn,j0,j5,j0,j1⟩
 ·
  rintro ⟨⟩ rfl
  replace h : slices_IndexFunc_api_Method_api_Method_s5_k2 = some r:=h
  unfold slices_IndexFunc_api_Method_api_Method_s5_k2 at h
  refine ow_intro ?_
  refine rg j0<|u<|asg j0<|r_nil ?_
  refine sw_ret ?_
  obtain rfl:=sm h
  exact ⟨_,j0,[],ci j0,j0,j5,j0,j1⟩
 ·
  rintro r' rfl env st hp
  obtain rfl:=sm h
  exact hp
end
end Go.Proofs.YtjbdfkapnffjnaaGreat
namespace Go.Proofs.YtjbdfkapnffjnaaGreat
noncomputable section
set_option linter.unusedSimpArgs false
set_option linter.unusedVariables false
set_option maxRecDepth 100000
set_option maxHeartbeats 4000000
def slices_ContainsFunc_api_Method_api_Method_s4 (v1 : List ApiMethod) (v2 : List UInt8) (v3 : List (List UInt8)) (v4 : List UInt8) (v5 : Bool) (v6 : Bool) (v7 : Int) (v8 : Int) (v9 : List ApiIns) (v10 : List ApiMap) (v11 : List ApiTrap) : Option (Bool) :=
  (slices_IndexFunc_api_Method_api_Method_s5 v1 v2 v3 v4 v5 v6 v7 v8 v9 v10 v11).bind fun v12=>some (decide (0 ≤ v12))
theorem slices_ContainsFunc_api_Method_api_Method_s4_ok (v1 : List ApiMethod) (v2 : List UInt8) (v3 : List (List UInt8)) (v4 : List UInt8) (v5 : Bool) (v6 : Bool) (v7 : Int) (v8 : Int) (v9 : List ApiIns) (v10 : List ApiMap) (v11 : List ApiTrap) {r : Bool} (h : slices_ContainsFunc_api_Method_api_Method_s4 v1 v2 v3 v4 v5 v6 v7 v8 v9 v10 v11 = some r) : PureC Tryz.prog 181 [.isl 10 (List.map rApiMethod v1),.fn (.func 225) [] [.ipt 10 [[sA v2,.isl 1 (List.map rStr v3),sA v4,bA v5,bA v6,iA v7,iA v8,.isl 4 (List.map rApiIns v9),.isl 3 (List.map rApiMap v10),.isl 4 (List.map rApiTrap v11)]] 0 0]] (bA r):=by
 refine pure_fn Tryz.func181 j0 (by kernel_rfl) j0 j0 ?_
 unfold slices_ContainsFunc_api_Method_api_Method_s4 at h
 refine rg j0<|u<|asg j0<|r_nil ?_
 obtain ⟨v12,q1,h⟩:=bs h
 refine rg j0<|u<|mv j0<|u<|mv j0<|u<|pc (slices_IndexFunc_api_Method_api_Method_s5_ok v1 v2 v3 v4 v5 v6 v7 v8 v9 v10 v11 q1) j0 j0 j0<|u<|geq ti3 j0 j0<|u<|asg j0<|r_nil ?_
 refine sw_ret ?_
 obtain rfl:=sm h
 exact ⟨_,j0,[],ci j0,j0,j5,j0,j1⟩
def link_Chosen_1 (v1 : ApiMethod) : Bool :=
  ((!v1.Static) && (!v1.Abstract))
theorem link_Chosen_1_ok (v1 : ApiMethod) {r : Bool} (h : link_Chosen_1 v1 = r) : PureC Tryz.prog 235 [.agg (rApiMethod v1)] (bA r):=by
 refine pure_fn Tryz.func235 j0 (by kernel_rfl) j0 j0 ?_
 unfold link_Chosen_1 at h
 refine rg j0<|u<|bx 0 10 j0 j0 j0 j0<|u<|asg j0<|r_nil ?_
 refine rg j0<|u<|fa ti76 j0 j0 j0<|u<|ld ti4 j0 j0<|u<|nt j0<|u<|mv j0<|r_and (j:=3) 3 j0 j0 j0 j0 j0 gpn (fun hb1=>g j0 hb1<|fa ti76 j0 j0 j0<|g j0 hb1<|ld ti4 j0 j0<|g j0 hb1<|nt j0<|r_nil (egA [7,8,9] 3 hb1 j0 j0 j0 j0)) andF<|u<|asg j0<|r_nil ?_
 refine sw_ret ?_
 obtain rfl:=h
 exact ⟨_,j0,[],ci j0,j0,j5,j0,j1⟩
def link_find_s2_k2 : Option ((List UInt8) × ApiMethod × Bool) :=
  some ([],(ApiMethod.mk [] [] [] false false 0 0 [] [] []),false)
def link_find_s2_l1 (v1 : List ApiClass) (v2 : List (List UInt8 × Int)) (v3 : List (List UInt8)) (v4 : List UInt8) (v12 : Int) : Option (Sum (Int) (Sum (Unit) ((List UInt8) × ApiMethod × Bool))) :=
  cond (decide (v12 < (List.length v3 : Int))) ((idx v3 v12).bind fun v13=>(hier_Hier_Class_s3 v1 v2 v13).bind fun v14=>(class_Method v14.1 v4).bind fun v15=>(cond (decide (0 ≤ v15)) ((idx v14.1.Methods v15).bind fun v16=>some (link_Chosen_1 v16)) (some false)).bind fun v17=>cond v17 ((idx v14.1.Methods v15).bind fun v18=>some (.inr (.inr (v13,v18,true)))) (some (.inl (IntKind.i64.wrap (v12 + 1))))) (some (.inr (.inl ())))
def link_find_s2 (v1 : List ApiClass) (v2 : List (List UInt8 × Int)) (v3 : List (List UInt8)) (v4 : List UInt8) : Option ((List UInt8) × ApiMethod × Bool) :=
  (loopP (fun z=>link_find_s2_l1 v1 v2 v3 v4 z) 0).bind fun o=>leave o (fun b=>link_find_s2_k2) some
theorem link_find_s2_ok (v1 : List ApiClass) (v2 : List (List UInt8 × Int)) (v3 : List (List UInt8)) (v4 : List UInt8) {r : (List UInt8) × ApiMethod × Bool} (h : link_find_s2 v1 v2 v3 v4 = some r) : PureC Tryz.prog 160 [.ipt 2 [[.isl 6 (List.map rApiClass v1),.imp (List.map (rKV (fun x=>iA x)) v2)]] 0 0,.isl 1 (List.map rStr v3),sA v4,.fn (.func 235) [] []] (.tup [sA r.1,.agg (rApiMethod r.2.1),bA r.2.2]):=by
 refine pure_fn Tryz.func160 j0 (by kernel_rfl) j0 j0 ?_
 unfold link_find_s2 at h
 refine rg j0<|u<|asg j0<|u<|al 0 ti76 j0<|u<|asg j0<|r_nil ?_
 refine sw_seq ?_
 refine rg j0<|u<|mv j0<|u<|lnI ti25 j0 j0<|u<|mv j0<|r_nil ?_
 obtain ⟨o,ho,h⟩:=bs h
 refine sw_lpl (X:=Int) (B:=Unit) (R:=(List UInt8) × ApiMethod × Bool) (fun z=>[(0,.ipt 2 [[.isl 6 (List.map rApiClass v1),.imp (List.map (rKV (fun x=>iA x)) v2)]] 0 0),(2,sA v4),(3,.fn (.func 235) [] []),(9,.mpt 0 0 0),(16,.isl 1 (List.map rStr v3)),(17,iA (List.length v3 : Int)),(18,iA z)]) (fun z=>[some (10,[[sA [],.lit (.slice none 0 0),sA [],bA false,bA false,iA 0,iA 0,.lit (.slice none 0 0),.lit (.slice none 0 0),.lit (.slice none 0 0)]])]) (fun b=>[(9,.mpt 0 0 0)]) (fun b=>[some (10,[[sA [],.lit (.slice none 0 0),sA [],bA false,bA false,iA 0,iA 0,.lit (.slice none 0 0),.lit (.slice none 0 0),.lit (.slice none 0 0)]])]) (fun r env st=>PostF Tryz.prog Tryz.f160 0 (.tup [sA r.1,.agg (rApiMethod r.2.1),bA r.2.2]) [] env st) ho ⟨[.old 0],ce j0 j0<|ce j0 j0<|ce j0 j0<|cv j0 (.mpt j0)<|ce j0 j0<|ce j0 j0<|ce j0 j0<|cn,j0,⟨⟨_,j0,rsOne (ciL j0)⟩,j5⟩,j0,j1⟩ ?_ ?_ ?_
 ·
  rintro v12 r h
  replace h : link_find_s2_l1 v1 v2 v3 v4 v12 = some r:=h
  unfold link_find_s2_l1 at h
  refine rg j0<|u<|lss ti3 j0 j0<|r_nil ?_
  refine sw_seq ?_
  refine sw_cond j0 (fun hc10=>?_) (fun hc10=>?_)
  ·
   replace h:=bT hc10 h
   refine sw_skip ?_
   refine sw_seq ?_
   refine sw_block ?_
   obtain ⟨v13,q11,h⟩:=bs h
   refine rg j0<|u<|ixI ti25 j0 ti9 j0 j0 j0 q11<|u<|ldI ti9 j0 (idx_some q11).2.2 j0<|u<|asg j0<|r_nil ?_
   obtain ⟨v14,q12,h⟩:=bs h
   refine rg j0<|u<|mv j0<|u<|mv j0<|u<|pc (hier_Hier_Class_s3_ok v1 v2 v13 q12) j0 j0 j0<|u<|mv j0<|u<|ex j0 j0<|u<|ex j0 j0<|u<|al 1 ti29 j0<|u<|sto ti29 j0 j0 j0<|u<|asg j0<|r_nil ?_
   obtain ⟨v15,q13,h⟩:=bs h
   refine rg j0<|u<|ld ti29 j0 j0<|u<|mv j0<|u<|pc (class_Method_ok v14.1 v4 q13) j0 j0 j0<|u<|asg j0<|r_nil ?_
   obtain ⟨v17,q16,h⟩:=bs h
   refine rg j0<|u<|mv j0<|u<|geq ti3 j0 j0<|u<|mv j0<|r_and (x:=v17) (j:=2) 7 j0 j0 j0 j0 j0 gpn (fun hb14=>by replace q16:=bT hb14 q16; obtain ⟨v16,q15,q16⟩:=bs q16; obtain rfl:=sm q16; exact g j0 hb14<|mv j0<|g j0 hb14<|fa ti29 j0 j0 j0<|g j0 hb14<|ld ti27 j0 j0<|g j0 hb14<|mv j0<|g j0 hb14<|ixI ti27 j0 ti76 j0 j0 j0 q15<|g j0 hb14<|ldI ti76 j0 (idx_some q15).2.2 j0<|g j0 hb14<|pc (link_Chosen_1_ok v16 j0) j0 j0 j0<|r_nil (eg [34,35,36,37,38,39,40] 7 j0 j0 j0 j0)) (fun hb=>(sm (bF hb q16)).symm)<|r_nil ?_
   refine sw_cond j0 (fun hc17=>?_) (fun hc17=>?_)
   ·
    replace h:=bT hc17 h
    obtain ⟨v18,q18,h⟩:=bs h
    refine rd [(8,sA v13),(9,.mpt 0 0 0),(10,bA true)] [some (10,[(rApiMethod v18)])] [7] [6,5,4,3,2,1,0] [(8,sA v13),(47,.agg (rApiMethod v18)),(46,.ipt 10 (List.map rApiMethod v14.1.Methods) (Int.toNat v15) 0),(45,iA v15),(44,.isl 10 (List.map rApiMethod v14.1.Methods)),(43,.mpt 1 0 5),(42,sA v13)] 1 (by kernel_rfl) (by kernel_rfl) j0 (by kernel_rfl) (dtS ⟨(fun _=>pa j0 j0 j0 j0 (asg j0<|j4)),(fun _=>pa j0 j0 j0 j0 (ldI ti76 j0 (idx_some q18).2.2 j0<|j4)),(fun _=>pa j0 j0 j0 j0 (ixI ti27 j0 ti76 j0 j0 j0 q18<|j4)),(fun _=>pa j0 j0 j0 j0 (mv j0<|j4)),(fun _=>pa j0 j0 j0 j0 (ld ti27 j0 j0<|j4)),(fun _=>pa j0 j0 j0 j0 (fa ti29 j0 j0 j0<|j4)),(fun _=>pa j0 j0 j0 j0 (mv j0<|j4)),j5⟩ (by kernel_rfl) j0 ⟨(fun _ _=>⟨_,j0,j0,sto ti76 j0 j0 j0<|⟨.any,[8],[(10,bA true)],j0,j0,by kernel_rfl,j5,dt0 ⟨(fun _=>pa j0 j0 j0 j0 (asg j0<|j4)),(fun h=>by cases h),(fun h=>by cases h),(fun h=>by cases h),(fun h=>by cases h),(fun h=>by cases h),(fun h=>by cases h),(fun h=>by cases h),j5⟩ (by kernel_rfl) j0 ⟨[.old 0],ce j0 j0<|cv j0 (.mpt j0)<|ce j0 j0<|cn,j0,⟨⟨_,j0,rsOne (ciL j0)⟩,j5⟩,j0,j1⟩⟩⟩),j5⟩) ?_
    refine sw_ret ?_
    obtain rfl:=sm h
    exact ⟨_,j0,_,j0,[],rsTup ⟨(ci j0),(ci j0),(ci j0),j5⟩,j0,j5,j0,j1⟩
   ·
    replace h:=bF hc17 h
    refine sw_skip ?_
    refine rl j0<|u<|add ti3 j0 j0<|u<|mv j0<|r_nil ?_
    obtain rfl:=sm h
    exact ⟨_,j0,[.old 0],ce j0 j0<|ce j0 j0<|ce j0 j0<|cv j0 (.mpt j0)<|ce j0 j0<|ce j0 j0<|ce j0 j0<|cn,j0,⟨⟨_,j0,rsOne (ciL j0)⟩,j5⟩,j0,j1⟩
  ·
   replace h:=bF hc10 h
   refine sw_exit ?_
   obtain rfl:=sm h
   exact ⟨j0,_,j0,[.old 0],cv j0 (.mpt j0)<|cn,j0,⟨⟨_,j0,rsOne (ciL j0)⟩,j5⟩,j0,j1⟩
 ·
  rintro ⟨⟩ rfl
  replace h : link_find_s2_k2 = some r:=h
  unfold link_find_s2_k2 at h
  refine ow_intro ?_
  refine rg j0<|u<|bd ti76 j0 j0 j0<|u<|asg j0<|u<|sto ti76 j0 j0 j0<|u<|asg j0<|r_nil ?_
  refine sw_ret ?_
  obtain rfl:=sm h
  exact ⟨_,j0,[],rsTup ⟨(ci j0),(rsAgg ⟨ci j0,(.nil),ci j0,ci j0,ci j0,ci j0,ci j0,(.nil),(.nil),(.nil),j5⟩),(ci j0),j5⟩,j0,j5,j0,j1⟩
 ·
  rintro r' rfl env st hp
  obtain rfl:=sm h
  exact hp
def link_Chosen_s3 (v1 : List ApiClass) (v2 : List (List UInt8 × Int)) (v3 : List UInt8) (v4 : List UInt8) : Option ((List UInt8) × Bool) :=
  (hier_Hier_Supers_s2 v1 v2 v3).bind fun v5=>(link_find_s2 v1 v2 v5 v4).bind fun v6=>some (v6.1,v6.2.2)
theorem link_Chosen_s3_ok (v1 : List ApiClass) (v2 : List (List UInt8 × Int)) (v3 : List UInt8) (v4 : List UInt8) {r : (List UInt8) × Bool} (h : link_Chosen_s3 v1 v2 v3 v4 = some r) : PureC Tryz.prog 164 [.ipt 2 [[.isl 6 (List.map rApiClass v1),.imp (List.map (rKV (fun x=>iA x)) v2)]] 0 0,sA v3,sA v4] (.tup [sA r.1,bA r.2]):=by
 refine pure_fn Tryz.func164 j0 (by kernel_rfl) j0 j0 ?_
 unfold link_Chosen_s3 at h
 refine rg j0<|u<|asg j0<|u<|asg j0<|r_nil ?_
 obtain ⟨v5,q1,h⟩:=bs h
 obtain ⟨v6,q2,h⟩:=bs h
 refine rg j0<|u<|mv j0<|u<|mv j0<|u<|mv j0<|u<|sc [] (hier_Hier_Supers_s2_ok v1 v2 v3 q1) j0 j0 j0 j0 ⟨(rnI j0),(rnI j0),j5⟩ j5<|r_can (env0:=[(2,sA v4),(12,.ipt 2 [[.isl 6 (List.map rApiClass v1),.imp (List.map (rKV (fun x=>iA x)) v2)]] 0 0),(15,.msl 0 0 (List.length v5))]) (st0:=[some (1,List.map rStr v5)]) ⟨[.old 0],ce j0 j0<|ce j0 j0<|cv j0 (.msl j0)<|cn,j0,⟨⟨_,j0,rsMap (fun _=>j0)⟩,j5⟩,j0,j1⟩<|u<|mv j0<|r_can (env0:=[(12,.ipt 2 [[.isl 6 (List.map rApiClass v1),.imp (List.map (rKV (fun x=>iA x)) v2)]] 0 0),(15,.isl 1 (List.map rStr v5)),(16,sA v4)]) (st0:=[]) ⟨[],ce j0 j0<|cv j0 (rsSeal j0 j0 (fun _=>j0))<|ce j0 j0<|cn,j0,j5,j0,j1⟩<|u<|pc (link_find_s2_ok v1 v2 v5 v4 q2) j0 j0 j0<|u<|mv j0<|u<|ex j0 j0<|u<|ex j0 j0<|u<|ex j0 j0<|u<|al 0 ti76 j0<|u<|asg j0<|u<|sto ti76 j0 j0 j0<|u<|asg j0<|r_nil ?_
 refine rg j0<|u<|mv j0<|u<|mv j0<|u<|asg j0<|u<|asg j0<|r_nil ?_
 refine sw_ret ?_
 obtain rfl:=sm h
 exact ⟨_,j0,[],rsTup ⟨(ci j0),(ci j0),j5⟩,j0,j5,j0,j1⟩
def closed_has_1 (v1 : ApiMethod) (v2 : List UInt8) (v3 : List (List UInt8)) (v4 : List UInt8) (v5 : Bool) (v6 : Bool) (v7 : Int) (v8 : Int) (v9 : List ApiIns) (v10 : List ApiMap) (v11 : List ApiTrap) : Option (Bool) :=
  (cond (v1.Name == v2) ((link_Alike (ApiMethod.mk v2 v3 v4 v5 v6 v7 v8 v9 v10 v11) v1).bind fun v12=>some v12) (some false)).bind fun v13=>some v13
theorem closed_has_1_ok (v1 : ApiMethod) (v2 : List UInt8) (v3 : List (List UInt8)) (v4 : List UInt8) (v5 : Bool) (v6 : Bool) (v7 : Int) (v8 : Int) (v9 : List ApiIns) (v10 : List ApiMap) (v11 : List ApiTrap) {r : Bool} (h : closed_has_1 v1 v2 v3 v4 v5 v6 v7 v8 v9 v10 v11 = some r) : PureC Tryz.prog 265 [.agg (rApiMethod v1),.ipt 10 [[sA v2,.isl 1 (List.map rStr v3),sA v4,bA v5,bA v6,iA v7,iA v8,.isl 4 (List.map rApiIns v9),.isl 3 (List.map rApiMap v10),.isl 4 (List.map rApiTrap v11)]] 0 0] (bA r):=by
 refine pure_fn Tryz.func265 j0 (by kernel_rfl) j0 j0 ?_
 unfold closed_has_1 at h
 refine rg j0<|u<|bx 0 10 j0 j0 j0 j0<|u<|asg j0<|r_nil ?_
 obtain ⟨v13,q3,h⟩:=bs h
 refine rg j0<|u<|fa ti76 j0 j0 j0<|u<|ld ti9 j0 j0<|u<|fa ti76 j0 j0 j0<|u<|ld ti9 j0 j0<|u<|seq ti9 j0 j0<|u<|mv j0<|r_and (x:=v13) (j:=5) 3 j0 j0 j0 j0 j0 gpn (fun hb1=>by replace q3:=bT hb1 q3; obtain ⟨v12,q2,q3⟩:=bs q3; obtain rfl:=sm q3; exact g j0 hb1<|ld ti76 j0 j0<|g j0 hb1<|ld ti76 j0 j0<|g j0 hb1<|pc (link_Alike_ok (ApiMethod.mk v2 v3 v4 v5 v6 v7 v8 v9 v10 v11) v1 q2) j0 j0 j0<|r_nil (eg [10,11,12] 3 j0 j0 j0 j0)) (fun hb=>(sm (bF hb q3)).symm)<|u<|asg j0<|r_nil ?_
 refine sw_ret ?_
 obtain rfl:=sm h
 exact ⟨_,j0,[],ci j0,j0,j5,j0,j1⟩
def slices_IndexFunc_api_Method_api_Method_s7_k2 : Option (Int) :=
  some (-1)
def slices_IndexFunc_api_Method_api_Method_s7_l1 (v1 : List ApiMethod) (v2 : List UInt8) (v3 : List (List UInt8)) (v4 : List UInt8) (v5 : Bool) (v6 : Bool) (v7 : Int) (v8 : Int) (v9 : List ApiIns) (v10 : List ApiMap) (v11 : List ApiTrap) (v15 : Int) : Option (Sum (Int) (Sum (Unit) (Int))) :=
  cond (decide (v15 < (List.length v1 : Int))) ((idx v1 v15).bind fun v16=>(closed_has_1 v16 v2 v3 v4 v5 v6 v7 v8 v9 v10 v11).bind fun v17=>cond v17 (some (.inr (.inr v15))) (some (.inl (IntKind.i64.wrap (v15 + 1))))) (some (.inr (.inl ())))
def slices_IndexFunc_api_Method_api_Method_s7 (v1 : List ApiMethod) (v2 : List UInt8) (v3 : List (List UInt8)) (v4 : List UInt8) (v5 : Bool) (v6 : Bool) (v7 : Int) (v8 : Int) (v9 : List ApiIns) (v10 : List ApiMap) (v11 : List ApiTrap) : Option (Int) :=
  (loopP (fun z=>slices_IndexFunc_api_Method_api_Method_s7_l1 v1 v2 v3 v4 v5 v6 v7 v8 v9 v10 v11 z) 0).bind fun o=>leave o (fun b=>slices_IndexFunc_api_Method_api_Method_s7_k2) some
theorem slices_IndexFunc_api_Method_api_Method_s7_ok (v1 : List ApiMethod) (v2 : List UInt8) (v3 : List (List UInt8)) (v4 : List UInt8) (v5 : Bool) (v6 : Bool) (v7 : Int) (v8 : Int) (v9 : List ApiIns) (v10 : List ApiMap) (v11 : List ApiTrap) {r : Int} (h : slices_IndexFunc_api_Method_api_Method_s7 v1 v2 v3 v4 v5 v6 v7 v8 v9 v10 v11 = some r) : PureC Tryz.prog 244 [.isl 10 (List.map rApiMethod v1),.fn (.func 265) [] [.ipt 10 [[sA v2,.isl 1 (List.map rStr v3),sA v4,bA v5,bA v6,iA v7,iA v8,.isl 4 (List.map rApiIns v9),.isl 3 (List.map rApiMap v10),.isl 4 (List.map rApiTrap v11)]] 0 0]] (iA r):=by
 refine pure_fn Tryz.func244 j0 (by kernel_rfl) j0 j0 ?_
 unfold slices_IndexFunc_api_Method_api_Method_s7 at h
 refine rg j0<|u<|asg j0<|r_nil ?_
 refine sw_seq ?_
 refine rg j0<|u<|mv j0<|u<|lnI ti27 j0 j0<|u<|mv j0<|r_nil ?_
 obtain ⟨o,ho,h⟩:=bs h
 refine sw_lpl (X:=Int) (B:=Unit) (R:=Int) (fun z=>[(0,.isl 10 (List.map rApiMethod v1)),(1,.fn (.func 265) [] [.ipt 10 [[sA v2,.isl 1 (List.map rStr v3),sA v4,bA v5,bA v6,iA v7,iA v8,.isl 4 (List.map rApiIns v9),.isl 3 (List.map rApiMap v10),.isl 4 (List.map rApiTrap v11)]] 0 0]),(7,iA (List.length v1 : Int)),(8,iA z)]) (fun z=>[]) (fun b=>[]) (fun b=>[]) (fun r env st=>PostF Tryz.prog Tryz.f244 0 (iA r) [] env st) ho ⟨[],ce j0 j0<|ce j0 j0<|ce j0 j0<|ce j0 j0<|cn,j0,j5,j0,j1⟩ ?_ ?_ ?_
 ·
  rintro v15 r h
  replace h : slices_IndexFunc_api_Method_api_Method_s7_l1 v1 v2 v3 v4 v5 v6 v7 v8 v9 v10 v11 v15 = some r:=h
  unfold slices_IndexFunc_api_Method_api_Method_s7_l1 at h
  refine rg j0<|u<|lss ti3 j0 j0<|r_nil ?_
  refine sw_seq ?_
  refine sw_cond j0 (fun hc5=>?_) (fun hc5=>?_)
  ·
   replace h:=bT hc5 h
   refine sw_skip ?_
   refine sw_seq ?_
   refine sw_block ?_
   refine rg j0<|u<|mv j0<|u<|asg j0<|r_nil ?_
   obtain ⟨v16,q6,h⟩:=bs h
   obtain ⟨v17,q7,h⟩:=bs h
   refine rg j0<|u<|mv j0<|u<|mv j0<|u<|mv j0<|u<|ixI ti27 j0 ti76 j0 j0 j0 q6<|u<|ldI ti76 j0 (idx_some q6).2.2 j0<|u<|pc (closed_has_1_ok v16 v2 v3 v4 v5 v6 v7 v8 v9 v10 v11 q7) j0 j0 j0<|r_nil ?_
   refine sw_cond j0 (fun hc8=>?_) (fun hc8=>?_)
   ·
    replace h:=bT hc8 h
    refine rg j0<|u<|mv j0<|u<|asg j0<|r_nil ?_
    refine sw_ret ?_
    obtain rfl:=sm h
    exact ⟨_,j0,_,j0,[],ci j0,j0,j5,j0,j1⟩
   ·
    replace h:=bF hc8 h
    refine sw_skip ?_
    refine rl j0<|u<|add ti3 j0 j0<|u<|mv j0<|r_nil ?_
    obtain rfl:=sm h
    exact ⟨_,j0,[],ce j0 j0<|ce j0 j0<|ce j0 j0<|ce j0 j0<|cn,j0,j5,j0,j1⟩
  ·
   replace h:=bF hc5 h
   refine sw_exit ?_
   obtain rfl:=sm h
   exact ⟨j0,_,j0,[],cn,j0,j5,j0,j1⟩
 ·
  rintro ⟨⟩ rfl
  replace h : slices_IndexFunc_api_Method_api_Method_s7_k2 = some r:=h
  unfold slices_IndexFunc_api_Method_api_Method_s7_k2 at h
  refine ow_intro ?_
  refine rg j0<|u<|asg j0<|r_nil ?_
  refine sw_ret ?_
  obtain rfl:=sm h
  exact ⟨_,j0,[],ci j0,j0,j5,j0,j1⟩
 ·
  rintro r' rfl env st hp
  obtain rfl:=sm h
  exact hp
def slices_ContainsFunc_api_Method_api_Method_s6 (v1 : List ApiMethod) (v2 : List UInt8) (v3 : List (List UInt8)) (v4 : List UInt8) (v5 : Bool) (v6 : Bool) (v7 : Int) (v8 : Int) (v9 : List ApiIns) (v10 : List ApiMap) (v11 : List ApiTrap) : Option (Bool) :=
  (slices_IndexFunc_api_Method_api_Method_s7 v1 v2 v3 v4 v5 v6 v7 v8 v9 v10 v11).bind fun v12=>some (decide (0 ≤ v12))
theorem slices_ContainsFunc_api_Method_api_Method_s6_ok (v1 : List ApiMethod) (v2 : List UInt8) (v3 : List (List UInt8)) (v4 : List UInt8) (v5 : Bool) (v6 : Bool) (v7 : Int) (v8 : Int) (v9 : List ApiIns) (v10 : List ApiMap) (v11 : List ApiTrap) {r : Bool} (h : slices_ContainsFunc_api_Method_api_Method_s6 v1 v2 v3 v4 v5 v6 v7 v8 v9 v10 v11 = some r) : PureC Tryz.prog 181 [.isl 10 (List.map rApiMethod v1),.fn (.func 265) [] [.ipt 10 [[sA v2,.isl 1 (List.map rStr v3),sA v4,bA v5,bA v6,iA v7,iA v8,.isl 4 (List.map rApiIns v9),.isl 3 (List.map rApiMap v10),.isl 4 (List.map rApiTrap v11)]] 0 0]] (bA r):=by
 refine pure_fn Tryz.func181 j0 (by kernel_rfl) j0 j0 ?_
 unfold slices_ContainsFunc_api_Method_api_Method_s6 at h
 refine rg j0<|u<|asg j0<|r_nil ?_
 obtain ⟨v12,q1,h⟩:=bs h
 refine rg j0<|u<|mv j0<|u<|mv j0<|u<|pc (slices_IndexFunc_api_Method_api_Method_s7_ok v1 v2 v3 v4 v5 v6 v7 v8 v9 v10 v11 q1) j0 j0 j0<|u<|geq ti3 j0 j0<|u<|asg j0<|r_nil ?_
 refine sw_ret ?_
 obtain rfl:=sm h
 exact ⟨_,j0,[],ci j0,j0,j5,j0,j1⟩
def closed_has (v1 : List ApiClass) (v2 : List (List UInt8 × Int)) (v3 : List UInt8) (v4 : ApiMethod) : Option (Bool) :=
  (link_Chosen_s3 v1 v2 v3 v4.Name).bind fun v5=>cond (!v5.2) (some false) ((hier_Hier_Class_s3 v1 v2 v5.1).bind fun v6=>(slices_ContainsFunc_api_Method_api_Method_s6 v6.1.Methods v4.Name v4.Params v4.Ret v4.Static v4.Abstract v4.Locals v4.Stack v4.Code v4.Maps v4.Traps).bind fun v7=>some v7)
theorem closed_has_ok (v1 : List ApiClass) (v2 : List (List UInt8 × Int)) (v3 : List UInt8) (v4 : ApiMethod) {r : Bool} (h : closed_has v1 v2 v3 v4 = some r) : PureC Tryz.prog 227 [.ipt 2 [[.isl 6 (List.map rApiClass v1),.imp (List.map (rKV (fun x=>iA x)) v2)]] 0 0,sA v3,.agg (rApiMethod v4)] (bA r):=by
 refine pure_fn Tryz.func227 j0 (by kernel_rfl) j0 j0 ?_
 unfold closed_has at h
 refine rg j0<|u<|bx 0 10 j0 j0 j0 j0<|u<|asg j0<|r_nil ?_
 obtain ⟨v5,q1,h⟩:=bs h
 refine rg j0<|u<|mv j0<|u<|mv j0<|u<|fa ti76 j0 j0 j0<|u<|ld ti9 j0 j0<|u<|pc (link_Chosen_s3_ok v1 v2 v3 v4.Name q1) j0 j0 j0<|u<|mv j0<|u<|ex j0 j0<|u<|ex j0 j0<|u<|asg j0<|u<|asg j0<|r_nil ?_
 refine sw_seq ?_
 refine rg j0<|u<|mv j0<|u<|nt j0<|r_nil ?_
 refine sw_cond j0 (fun hc2=>?_) (fun hc2=>?_)
 ·
  replace h:=bT hc2 h
  refine rg j0<|u<|asg j0<|r_nil ?_
  refine sw_ret ?_
  obtain rfl:=sm h
  exact ⟨_,j0,[],ci j0,j0,j5,j0,j1⟩
 ·
  replace h:=bF hc2 h
  refine sw_skip ?_
  obtain ⟨v6,q3,h⟩:=bs h
  refine rg j0<|u<|mv j0<|u<|mv j0<|u<|pc (hier_Hier_Class_s3_ok v1 v2 v5.1 q3) j0 j0 j0<|u<|mv j0<|u<|ex j0 j0<|u<|ex j0 j0<|u<|al 1 ti29 j0<|u<|sto ti29 j0 j0 j0<|u<|asg j0<|r_nil ?_
  obtain ⟨v7,q4,h⟩:=bs h
  refine rg j0<|u<|fa ti29 j0 j0 j0<|u<|ld ti27 j0 j0<|u<|mf j0 j0<|u<|pcs (slices_ContainsFunc_api_Method_api_Method_s6_ok v6.1.Methods v4.Name v4.Params v4.Ret v4.Static v4.Abstract v4.Locals v4.Stack v4.Code v4.Maps v4.Traps q4) j0 j0 (.cons (si j0) (.cons (sealFn j5 ⟨(sealBox j0 ⟨(si j0),(si j0),(si j0),(si j0),(si j0),(si j0),(si j0),(si j0),(si j0),(si j0),j5⟩),j5⟩) .nil)) plainB<|u<|asg j0<|r_nil ?_
  refine sw_ret ?_
  obtain rfl:=sm h
  exact ⟨_,j0,[],ci j0,j0,j5,j0,j1⟩
def closed_faces_2 (v1 : ApiMethod) (v2 : List ApiClass) (v3 : List (List UInt8 × Int)) (v4 : List UInt8) (v5 : List UInt8) (v6 : Bool) (v7 : List (List UInt8)) (v8 : List ApiField) (v9 : List ApiMethod) : Option (Bool) :=
  (closed_has v2 v3 v4 v1).bind fun v10=>some (!v10)
theorem closed_faces_2_ok (v1 : ApiMethod) (v2 : List ApiClass) (v3 : List (List UInt8 × Int)) (v4 : List UInt8) (v5 : List UInt8) (v6 : Bool) (v7 : List (List UInt8)) (v8 : List ApiField) (v9 : List ApiMethod) {r : Bool} (h : closed_faces_2 v1 v2 v3 v4 v5 v6 v7 v8 v9 = some r) : PureC Tryz.prog 226 [.agg (rApiMethod v1),.ipt 1 [[.ipt 2 [[.isl 6 (List.map rApiClass v2),.imp (List.map (rKV (fun x=>iA x)) v3)]] 0 0]] 0 0,.ipt 6 [[sA v4,sA v5,bA v6,.isl 1 (List.map rStr v7),.isl 3 (List.map rApiField v8),.isl 10 (List.map rApiMethod v9)]] 0 0] (bA r):=by
 refine pure_fn Tryz.func226 j0 (by kernel_rfl) j0 j0 ?_
 unfold closed_faces_2 at h
 refine rg j0<|u<|bx 0 10 j0 j0 j0 j0<|u<|asg j0<|r_nil ?_
 obtain ⟨v10,q1,h⟩:=bs h
 refine rg j0<|u<|ld ti32 j0 j0<|u<|fa ti29 j0 j0 j0<|u<|ld ti9 j0 j0<|u<|ld ti76 j0 j0<|u<|pc (closed_has_ok v2 v3 v4 v1 q1) j0 j0 j0<|u<|nt j0<|u<|asg j0<|r_nil ?_
 refine sw_ret ?_
 obtain rfl:=sm h
 exact ⟨_,j0,[],ci j0,j0,j5,j0,j1⟩
def slices_IndexFunc_api_Method_api_Method_s6_k2 : Option (Int) :=
  some (-1)
def slices_IndexFunc_api_Method_api_Method_s6_l1 (v1 : List ApiMethod) (v2 : List ApiClass) (v3 : List (List UInt8 × Int)) (v4 : List UInt8) (v5 : List UInt8) (v6 : Bool) (v7 : List (List UInt8)) (v8 : List ApiField) (v9 : List ApiMethod) (v13 : Int) : Option (Sum (Int) (Sum (Unit) (Int))) :=
  cond (decide (v13 < (List.length v1 : Int))) ((idx v1 v13).bind fun v14=>(closed_faces_2 v14 v2 v3 v4 v5 v6 v7 v8 v9).bind fun v15=>cond v15 (some (.inr (.inr v13))) (some (.inl (IntKind.i64.wrap (v13 + 1))))) (some (.inr (.inl ())))
def slices_IndexFunc_api_Method_api_Method_s6 (v1 : List ApiMethod) (v2 : List ApiClass) (v3 : List (List UInt8 × Int)) (v4 : List UInt8) (v5 : List UInt8) (v6 : Bool) (v7 : List (List UInt8)) (v8 : List ApiField) (v9 : List ApiMethod) : Option (Int) :=
  (loopP (fun z=>slices_IndexFunc_api_Method_api_Method_s6_l1 v1 v2 v3 v4 v5 v6 v7 v8 v9 z) 0).bind fun o=>leave o (fun b=>slices_IndexFunc_api_Method_api_Method_s6_k2) some
theorem slices_IndexFunc_api_Method_api_Method_s6_ok (v1 : List ApiMethod) (v2 : List ApiClass) (v3 : List (List UInt8 × Int)) (v4 : List UInt8) (v5 : List UInt8) (v6 : Bool) (v7 : List (List UInt8)) (v8 : List ApiField) (v9 : List ApiMethod) {r : Int} (h : slices_IndexFunc_api_Method_api_Method_s6 v1 v2 v3 v4 v5 v6 v7 v8 v9 = some r) : PureC Tryz.prog 244 [.isl 10 (List.map rApiMethod v1),.fn (.func 226) [] [.ipt 1 [[.ipt 2 [[.isl 6 (List.map rApiClass v2),.imp (List.map (rKV (fun x=>iA x)) v3)]] 0 0]] 0 0,.ipt 6 [[sA v4,sA v5,bA v6,.isl 1 (List.map rStr v7),.isl 3 (List.map rApiField v8),.isl 10 (List.map rApiMethod v9)]] 0 0]] (iA r):=by
 refine pure_fn Tryz.func244 j0 (by kernel_rfl) j0 j0 ?_
 unfold slices_IndexFunc_api_Method_api_Method_s6 at h
 refine rg j0<|u<|asg j0<|r_nil ?_
 refine sw_seq ?_
 refine rg j0<|u<|mv j0<|u<|lnI ti27 j0 j0<|u<|mv j0<|r_nil ?_
 obtain ⟨o,ho,h⟩:=bs h
 refine sw_lpl (X:=Int) (B:=Unit) (R:=Int) (fun z=>[(0,.isl 10 (List.map rApiMethod v1)),(1,.fn (.func 226) [] [.ipt 1 [[.ipt 2 [[.isl 6 (List.map rApiClass v2),.imp (List.map (rKV (fun x=>iA x)) v3)]] 0 0]] 0 0,.ipt 6 [[sA v4,sA v5,bA v6,.isl 1 (List.map rStr v7),.isl 3 (List.map rApiField v8),.isl 10 (List.map rApiMethod v9)]] 0 0]),(7,iA (List.length v1 : Int)),(8,iA z)]) (fun z=>[]) (fun b=>[]) (fun b=>[]) (fun r env st=>PostF Tryz.prog Tryz.f244 0 (iA r) [] env st) ho ⟨[],ce j0 j0<|ce j0 j0<|ce j0 j0<|ce j0 j0<|cn,j0,j5,j0,j1⟩ ?_ ?_ ?_
 ·
  rintro v13 r h
  replace h : slices_IndexFunc_api_Method_api_Method_s6_l1 v1 v2 v3 v4 v5 v6 v7 v8 v9 v13 = some r:=h
  unfold slices_IndexFunc_api_Method_api_Method_s6_l1 at h
  refine rg j0<|u<|lss ti3 j0 j0<|r_nil ?_
  refine sw_seq ?_
  refine sw_cond j0 (fun hc5=>?_) (fun hc5=>?_)
  ·
   replace h:=bT hc5 h
   refine sw_skip ?_
   refine sw_seq ?_
   refine sw_block ?_
   refine rg j0<|u<|mv j0<|u<|asg j0<|r_nil ?_
   obtain ⟨v14,q6,h⟩:=bs h
   obtain ⟨v15,q7,h⟩:=bs h
   refine rg j0<|u<|mv j0<|u<|mv j0<|u<|mv j0<|u<|ixI ti27 j0 ti76 j0 j0 j0 q6<|u<|ldI ti76 j0 (idx_some q6).2.2 j0<|u<|pc (closed_faces_2_ok v14 v2 v3 v4 v5 v6 v7 v8 v9 q7) j0 j0 j0<|r_nil ?_
   refine sw_cond j0 (fun hc8=>?_) (fun hc8=>?_)
   ·
    replace h:=bT hc8 h
    refine rg j0<|u<|mv j0<|u<|asg j0<|r_nil ?_
    refine sw_ret ?_
    obtain rfl:=sm h
    exact ⟨_,j0,_,j0,[],ci j0,j0,j5,j0,j1⟩
   ·
    replace h:=bF hc8 h
    refine sw_skip ?_
    refine rl j0<|u<|add ti3 j0 j0<|u<|mv j0<|r_nil ?_
    obtain rfl:=sm h
    exact ⟨_,j0,[],ce j0 j0<|ce j0 j0<|ce j0 j0<|ce j0 j0<|cn,j0,j5,j0,j1⟩
  ·
   replace h:=bF hc5 h
   refine sw_exit ?_
   obtain rfl:=sm h
   exact ⟨j0,_,j0,[],cn,j0,j5,j0,j1⟩
 ·
  rintro ⟨⟩ rfl
  replace h : slices_IndexFunc_api_Method_api_Method_s6_k2 = some r:=h
  unfold slices_IndexFunc_api_Method_api_Method_s6_k2 at h
  refine ow_intro ?_
  refine rg j0<|u<|asg j0<|r_nil ?_
  refine sw_ret ?_
  obtain rfl:=sm h
  exact ⟨_,j0,[],ci j0,j0,j5,j0,j1⟩
 ·
  rintro r' rfl env st hp
  obtain rfl:=sm h
  exact hp
def slices_ContainsFunc_api_Method_api_Method_s5 (v1 : List ApiMethod) (v2 : List ApiClass) (v3 : List (List UInt8 × Int)) (v4 : List UInt8) (v5 : List UInt8) (v6 : Bool) (v7 : List (List UInt8)) (v8 : List ApiField) (v9 : List ApiMethod) : Option (Bool) :=
  (slices_IndexFunc_api_Method_api_Method_s6 v1 v2 v3 v4 v5 v6 v7 v8 v9).bind fun v10=>some (decide (0 ≤ v10))
theorem slices_ContainsFunc_api_Method_api_Method_s5_ok (v1 : List ApiMethod) (v2 : List ApiClass) (v3 : List (List UInt8 × Int)) (v4 : List UInt8) (v5 : List UInt8) (v6 : Bool) (v7 : List (List UInt8)) (v8 : List ApiField) (v9 : List ApiMethod) {r : Bool} (h : slices_ContainsFunc_api_Method_api_Method_s5 v1 v2 v3 v4 v5 v6 v7 v8 v9 = some r) : PureC Tryz.prog 181 [.isl 10 (List.map rApiMethod v1),.fn (.func 226) [] [.ipt 1 [[.ipt 2 [[.isl 6 (List.map rApiClass v2),.imp (List.map (rKV (fun x=>iA x)) v3)]] 0 0]] 0 0,.ipt 6 [[sA v4,sA v5,bA v6,.isl 1 (List.map rStr v7),.isl 3 (List.map rApiField v8),.isl 10 (List.map rApiMethod v9)]] 0 0]] (bA r):=by
 refine pure_fn Tryz.func181 j0 (by kernel_rfl) j0 j0 ?_
 unfold slices_ContainsFunc_api_Method_api_Method_s5 at h
 refine rg j0<|u<|asg j0<|r_nil ?_
 obtain ⟨v10,q1,h⟩:=bs h
 refine rg j0<|u<|mv j0<|u<|mv j0<|u<|pc (slices_IndexFunc_api_Method_api_Method_s6_ok v1 v2 v3 v4 v5 v6 v7 v8 v9 q1) j0 j0 j0<|u<|geq ti3 j0 j0<|u<|asg j0<|r_nil ?_
 refine sw_ret ?_
 obtain rfl:=sm h
 exact ⟨_,j0,[],ci j0,j0,j5,j0,j1⟩
def closed_faces_k6 (v1 : List ApiClass) (v2 : List (List UInt8 × Int)) (v3 : ApiClass) (v35 : List ApiMethod) : Option (Bool) :=
  cond v3.Interface (some true) ((slices_ContainsFunc_api_Method_api_Method_s5 v35 v1 v2 v3.Name v3.Super v3.Interface v3.Impl v3.Fields v3.Methods).bind fun v36=>some (!v36))
def closed_faces_k4 (v21 : Int) (v34 : List ApiMethod) : Option (Sum ((List ApiMethod) × Int) (Sum ((List ApiMethod)) (Bool))) :=
  some (.inl (v34,(IntKind.i64.wrap (v21 + 1))))
def closed_faces_l3 (v23 : ApiClass × Bool) (v29 : List ApiMethod) (v30 : Int) : Option (Sum ((List ApiMethod) × Int) (Sum ((List ApiMethod)) (Bool))) :=
  cond (decide (v30 < (List.length v23.1.Methods : Int))) ((idx v23.1.Methods v30).bind fun v31=>(slices_ContainsFunc_api_Method_api_Method_s4 v29 v31.Name v31.Params v31.Ret v31.Static v31.Abstract v31.Locals v31.Stack v31.Code v31.Maps v31.Traps).bind fun v32=>cond v32 (some (.inr (.inr false))) ((appP 152 v29 [v31]).bind fun v33=>some (.inl (v33,(IntKind.i64.wrap (v30 + 1)))))) (some (.inr (.inl v29)))
def closed_faces_l5 (v1 : List ApiClass) (v2 : List (List UInt8 × Int)) (v4 : (List (List UInt8))) (v20 : List ApiMethod) (v21 : Int) : Option (Sum ((List ApiMethod) × Int) (Sum ((List ApiMethod)) (Bool))) :=
  cond (decide (v21 < ((List.length v4) : Int))) ((idx v4 v21).bind fun v22=>(hier_Hier_Class_s3 v1 v2 v22).bind fun v23=>(loopP (fun z=>closed_faces_l3 v23 z.1 z.2) (v20,0)).bind fun o=>leave o (fun b=>closed_faces_k4 v21 b) (fun r=>some (.inr (.inr r)))) (some (.inr (.inl v20)))
def closed_faces (v1 : List ApiClass) (v2 : List (List UInt8 × Int)) (v3 : ApiClass) : Option (Bool) :=
  (hier_Hier_Faces_s3 v1 v2 v3.Name).bind fun v4=>(loopP (fun z=>closed_faces_l5 v1 v2 v4 z.1 z.2) ([],0)).bind fun o=>leave o (fun b=>closed_faces_k6 v1 v2 v3 b) some
theorem closed_faces_ok (v1 : List ApiClass) (v2 : List (List UInt8 × Int)) (v3 : ApiClass) {r : Bool} (h : closed_faces v1 v2 v3 = some r) : PureC Tryz.prog 156 [.ipt 2 [[.isl 6 (List.map rApiClass v1),.imp (List.map (rKV (fun x=>iA x)) v2)]] 0 0,.agg (rApiClass v3)] (bA r):=by
 refine pure_fn Tryz.func156 j0 (by kernel_rfl) j0 j0 ?_
 unfold closed_faces at h
 refine rg j0<|u<|bx 0 1 j0 j0 j0 j0<|u<|bx 1 6 j0 j0 j0 j0<|u<|asg j0<|r_nil ?_
 refine rg j0<|u<|asg j0<|r_nil ?_
 refine sw_seq ?_
 obtain ⟨v4,q1,h⟩:=bs h
 refine rg j0<|u<|ld ti32 j0 j0<|u<|fa ti29 j0 j0 j0<|u<|ld ti9 j0 j0<|u<|sc [] (hier_Hier_Faces_s3_ok v1 v2 v3.Name q1) j0 j0 j0 j0 ⟨(rnI j0),(rnI j0),j5⟩ j5<|r_can (env0:=[(2,.mpt 0 0 0),(3,.mpt 1 0 0),(5,.lit (.slice none 0 0)),(15,.msl 2 0 (List.length v4))]) (st0:=[some (1,[[.ipt 2 [[.isl 6 (List.map rApiClass v1),.imp (List.map (rKV (fun x=>iA x)) v2)]] 0 0]]),some (6,[(rApiClass v3)]),some (1,List.map rStr v4)]) ⟨[.old 0,.old 1,.old 2],cv j0 (.mpt j0)<|cv j0 (.mpt j0)<|ce j0 j0<|cv j0 (.msl j0)<|cn,j0,⟨⟨_,j0,rsOne ⟨ci j0,j5⟩⟩,⟨_,j0,rsOne (ciL j0)⟩,⟨_,j0,rsMap (fun _=>j0)⟩,j5⟩,j0,j1⟩<|u<|lnM ti25 j0 j0 j0<|u<|mv j0<|r_nil ?_
 obtain ⟨o,ho,h⟩:=bs h
 refine sw_lpl (X:=(List ApiMethod) × Int) (B:=(List ApiMethod)) (R:=Bool) (fun z=>[(2,.mpt 0 0 0),(3,.mpt 1 0 0),(5,.msl 2 0 (List.length z.1)),(15,.msl 3 0 (List.length v4)),(16,iA ((List.length v4) : Int)),(17,iA z.2)]) (fun z=>[some (1,[[.ipt 2 [[.isl 6 (List.map rApiClass v1),.imp (List.map (rKV (fun x=>iA x)) v2)]] 0 0]]),some (6,[(rApiClass v3)]),some (10,List.map rApiMethod z.1),some (1,List.map rStr v4)]) (fun b=>[(2,.mpt 0 0 0),(3,.mpt 1 0 0),(5,.msl 2 0 (List.length b))]) (fun b=>[some (1,[[.ipt 2 [[.isl 6 (List.map rApiClass v1),.imp (List.map (rKV (fun x=>iA x)) v2)]] 0 0]]),some (6,[(rApiClass v3)]),some (10,List.map rApiMethod b)]) (fun r env st=>PostF Tryz.prog Tryz.f156 0 (bA r) [] env st) ho ⟨[.old 0,.old 1,.fresh 10,.old 2],cv j0 (.mpt j0)<|cv j0 (.mpt j0)<|cv j0 (.nilown j0)<|cv j0 (.msl j0)<|ce j0 j0<|ce j0 j0<|cn,j0,⟨⟨_,j0,rsOne ⟨ci j0,j5⟩⟩,⟨_,j0,rsOne (ciL j0)⟩,j4,⟨_,j0,rsMap (fun _=>j0)⟩,j5⟩,j0,j1⟩ ?_ ?_ ?_
 ·
  rintro ⟨v20,v21⟩ r h
  replace h : closed_faces_l5 v1 v2 v4 v20 v21 = some r:=h
  unfold closed_faces_l5 at h
  refine rg j0<|u<|lss ti3 j0 j0<|r_nil ?_
  refine sw_seq ?_
  refine sw_cond j0 (fun hc15=>?_) (fun hc15=>?_)
  ·
   replace h:=bT hc15 h
   refine sw_skip ?_
   refine sw_seq ?_
   refine sw_block ?_
   obtain ⟨v22,q16,h⟩:=bs h
   refine rg j0<|u<|ixM ti25 j0 ti9 j0 j0 j0 j0 q16<|u<|ldM ti9 j0 j0 (idx_some q16).2.2 j0<|u<|asg j0<|r_nil ?_
   obtain ⟨v23,q17,h⟩:=bs h
   refine rg j0<|u<|ld ti32 j0 j0<|u<|mv j0<|u<|pc (hier_Hier_Class_s3_ok v1 v2 v22 q17) j0 j0 j0<|u<|mv j0<|u<|ex j0 j0<|u<|ex j0 j0<|u<|al 4 ti29 j0<|u<|sto ti29 j0 j0 j0<|u<|asg j0<|r_nil ?_
   refine rg j0<|u<|fa ti29 j0 j0 j0<|u<|ld ti27 j0 j0<|u<|lnI ti27 j0 j0<|u<|mv j0<|r_nil ?_
   obtain ⟨o,ho,h⟩:=bs h
   refine sw_lpl (X:=(List ApiMethod) × Int) (B:=(List ApiMethod)) (R:=Bool) (fun z=>[(2,.mpt 0 0 0),(3,.mpt 1 0 0),(5,.msl 2 0 (List.length z.1)),(15,.msl 3 0 (List.length v4)),(16,iA ((List.length v4) : Int)),(17,iA v21),(28,.isl 10 (List.map rApiMethod v23.1.Methods)),(29,iA (List.length v23.1.Methods : Int)),(30,iA z.2)]) (fun z=>[some (1,[[.ipt 2 [[.isl 6 (List.map rApiClass v1),.imp (List.map (rKV (fun x=>iA x)) v2)]] 0 0]]),some (6,[(rApiClass v3)]),some (10,List.map rApiMethod z.1),some (1,List.map rStr v4)]) (fun b=>[(2,.mpt 0 0 0),(3,.mpt 1 0 0),(5,.msl 2 0 (List.length b)),(15,.msl 3 0 (List.length v4)),(16,iA ((List.length v4) : Int)),(17,iA v21)]) (fun b=>[some (1,[[.ipt 2 [[.isl 6 (List.map rApiClass v1),.imp (List.map (rKV (fun x=>iA x)) v2)]] 0 0]]),some (6,[(rApiClass v3)]),some (10,List.map rApiMethod b),some (1,List.map rStr v4)]) (fun r env st=>PostF Tryz.prog Tryz.f156 0 (bA r) [] env st) ho ⟨[.old 0,.old 1,.old 2,.old 3],cv j0 (.mpt j0)<|cv j0 (.mpt j0)<|cv j0 (.msl j0)<|cv j0 (.msl j0)<|ce j0 j0<|ce j0 j0<|ce j0 j0<|ce j0 j0<|ce j0 j0<|cn,j0,⟨⟨_,j0,rsOne ⟨ci j0,j5⟩⟩,⟨_,j0,rsOne (ciL j0)⟩,⟨_,j0,rsMap (fun _=>j0)⟩,⟨_,j0,rsMap (fun _=>j0)⟩,j5⟩,j0,j1⟩ ?_ ?_ ?_
   ·
    rintro ⟨v29,v30⟩ r h
    replace h : closed_faces_l3 v23 v29 v30 = some r:=h
    unfold closed_faces_l3 at h
    refine rg j0<|u<|lss ti3 j0 j0<|r_nil ?_
    refine sw_seq ?_
    refine sw_cond j0 (fun hc23=>?_) (fun hc23=>?_)
    ·
     replace h:=bT hc23 h
     refine sw_skip ?_
     refine sw_seq ?_
     refine sw_block ?_
     obtain ⟨v31,q24,h⟩:=bs h
     refine rg j0<|u<|ixI ti27 j0 ti76 j0 j0 j0 q24<|u<|ldI ti76 j0 (idx_some q24).2.2 j0<|u<|al 4 ti76 j0<|u<|sto ti76 j0 j0 j0<|r_nil ?_
     refine sw_seq ?_
     obtain ⟨v32,q25,h⟩:=bs h
     refine rg j0<|u<|mv j0<|u<|mf j0 j0<|u<|pcs (slices_ContainsFunc_api_Method_api_Method_s4_ok v29 v31.Name v31.Params v31.Ret v31.Static v31.Abstract v31.Locals v31.Stack v31.Code v31.Maps v31.Traps q25) j0 j0 (.cons (sealM j0 (fun _=>j0)) (.cons (sealFn j5 ⟨(sealBox j0 ⟨(si j0),(si j0),(si j0),(si j0),(si j0),(si j0),(si j0),(si j0),(si j0),(si j0),j5⟩),j5⟩) .nil)) plainB<|r_nil ?_
     refine sw_cond j0 (fun hc26=>?_) (fun hc26=>?_)
     ·
      replace h:=bT hc26 h
      refine rg j0<|u<|asg j0<|r_nil ?_
      refine sw_ret ?_
      obtain rfl:=sm h
      exact ⟨_,j0,_,j0,[],ci j0,j0,j5,j0,j1⟩
     ·
      replace h:=bF hc26 h
      refine sw_skip ?_
      obtain ⟨v33,q27,h⟩:=bs h
      refine rl j0<|u<|mv j0<|u<|ld ti76 j0 j0<|u<|bl 5 ti27 j0 ti76 j0 (by decide) (by decide) j0 j0 j0<|u<|apM 6 ti27 j0 ti76 j0 j0 (by decide) ti27 j0 j0 j0 j0 (roX (f:=rApiMethod) (z:=[v31]) j0 j0) (fun _=>j0) j0 q27<|u<|asg j0<|r_nil ?_
      refine rl j0<|u<|add ti3 j0 j0<|u<|mv j0<|r_nil ?_
      obtain rfl:=sm h
      exact ⟨_,j0,[.old 0,.old 1,.old 6,.old 3],cv j0 (.mpt j0)<|cv j0 (.mpt j0)<|cv j0 (.msl j0)<|cv j0 (.msl j0)<|ce j0 j0<|ce j0 j0<|ce j0 j0<|ce j0 j0<|ce j0 j0<|cn,j0,⟨⟨_,j0,rsOne ⟨ci j0,j5⟩⟩,⟨_,j0,rsOne (ciL j0)⟩,⟨_,j0,rsMap (fun _=>j0)⟩,⟨_,j0,rsMap (fun _=>j0)⟩,j5⟩,j0,j1⟩
    ·
     replace h:=bF hc23 h
     refine sw_exit ?_
     obtain rfl:=sm h
     exact ⟨j0,_,j0,[.old 0,.old 1,.old 2,.old 3],cv j0 (.mpt j0)<|cv j0 (.mpt j0)<|cv j0 (.msl j0)<|cv j0 (.msl j0)<|ce j0 j0<|ce j0 j0<|cn,j0,⟨⟨_,j0,rsOne ⟨ci j0,j5⟩⟩,⟨_,j0,rsOne (ciL j0)⟩,⟨_,j0,rsMap (fun _=>j0)⟩,⟨_,j0,rsMap (fun _=>j0)⟩,j5⟩,j0,j1⟩
   ·
    rintro v34 rfl
    replace h : closed_faces_k4 v21 v34 = some r:=h
    unfold closed_faces_k4 at h
    refine ow_intro ?_
    refine rl j0<|u<|add ti3 j0 j0<|u<|mv j0<|r_nil ?_
    obtain rfl:=sm h
    exact ⟨_,j0,[.old 0,.old 1,.old 2,.old 3],cv j0 (.mpt j0)<|cv j0 (.mpt j0)<|cv j0 (.msl j0)<|cv j0 (.msl j0)<|ce j0 j0<|ce j0 j0<|cn,j0,⟨⟨_,j0,rsOne ⟨ci j0,j5⟩⟩,⟨_,j0,rsOne (ciL j0)⟩,⟨_,j0,rsMap (fun _=>j0)⟩,⟨_,j0,rsMap (fun _=>j0)⟩,j5⟩,j0,j1⟩
   ·
    rintro r' rfl env st hp
    obtain rfl:=sm h
    exact ⟨_,j0,hp⟩
  ·
   replace h:=bF hc15 h
   refine sw_exit ?_
   obtain rfl:=sm h
   exact ⟨j0,_,j0,[.old 0,.old 1,.old 2],cv j0 (.mpt j0)<|cv j0 (.mpt j0)<|cv j0 (.msl j0)<|cn,j0,⟨⟨_,j0,rsOne ⟨ci j0,j5⟩⟩,⟨_,j0,rsOne (ciL j0)⟩,⟨_,j0,rsMap (fun _=>j0)⟩,j5⟩,j0,j1⟩
 ·
  rintro v35 rfl
  replace h : closed_faces_k6 v1 v2 v3 v35 = some r:=h
  unfold closed_faces_k6 at h
  refine ow_intro ?_
  refine sw_seq ?_
  refine rg j0<|u<|fa ti29 j0 j0 j0<|u<|ld ti4 j0 j0<|r_nil ?_
  refine sw_cond j0 (fun hc28=>?_) (fun hc28=>?_)
  ·
   replace h:=bT hc28 h
   refine rg j0<|u<|asg j0<|r_nil ?_
   refine sw_ret ?_
   obtain rfl:=sm h
   exact ⟨_,j0,[],ci j0,j0,j5,j0,j1⟩
  ·
   replace h:=bF hc28 h
   refine sw_skip ?_
   obtain ⟨v36,q29,h⟩:=bs h
   refine rg j0<|u<|mv j0<|u<|mf j0 j0<|u<|pcs (slices_ContainsFunc_api_Method_api_Method_s5_ok v35 v1 v2 v3.Name v3.Super v3.Interface v3.Impl v3.Fields v3.Methods q29) j0 j0 (.cons (sealM j0 (fun _=>j0)) (.cons (sealFn j5 ⟨(sealBox j0 ⟨(si j0),j5⟩),(sealBox j0 ⟨(si j0),(si j0),(si j0),(si j0),(si j0),(si j0),j5⟩),j5⟩) .nil)) plainB<|u<|nt j0<|u<|asg j0<|r_nil ?_
   refine sw_ret ?_
   obtain rfl:=sm h
   exact ⟨_,j0,[],ci j0,j0,j5,j0,j1⟩
 ·
  rintro r' rfl env st hp
  obtain rfl:=sm h
  exact hp
def closed_Linked_k4 : Option (Int) :=
  some 0
def closed_Linked_l3 (v2 : HierHier) (v12 : (List (List UInt8))) (v19 : Int) : Option (Sum (Int) (Sum (Unit) (Int))) :=
  cond (decide (v19 < ((List.length v12) : Int))) ((idx v12 v19).bind fun v20=>(hier_Hier_Class_s3 v2.l v2.at_ v20).bind fun v21=>(closed_overrides v2.l v2.at_ v21.1).bind fun v22=>(cond (!v22) (some true) ((closed_faces v2.l v2.at_ v21.1).bind fun v23=>some (!v23))).bind fun v24=>cond v24 (some (.inr (.inr 1))) (some (.inl (IntKind.i64.wrap (v19 + 1))))) (some (.inr (.inl ())))
def closed_Linked_k2 (v2 : HierHier) : Option (Int) :=
  (hier_Hier_Names_s2 v2.l v2.at_).bind fun v12=>(loopP (fun z=>closed_Linked_l3 v2 v12 z) 0).bind fun o=>leave o (fun b=>closed_Linked_k4) some
def closed_Linked_l1 (v2 : HierHier) (v3 : (List (List UInt8))) (v8 : Int) : Option (Sum (Int) (Sum (Unit) (Int))) :=
  cond (decide (v8 < ((List.length v3) : Int))) ((idx v3 v8).bind fun v9=>(hier_Hier_Class_s3 v2.l v2.at_ v9).bind fun v10=>(closed_whole v2.l v2.at_ v10.1).bind fun v11=>cond (!v11) (some (.inr (.inr 4))) (some (.inl (IntKind.i64.wrap (v8 + 1))))) (some (.inr (.inl ())))
def closed_Linked (v1 : Option HierHier) : Option (Int) :=
  optE v1 (none) (fun v2=>(hier_Hier_Names_s2 v2.l v2.at_).bind fun v3=>(loopP (fun z=>closed_Linked_l1 v2 v3 z) 0).bind fun o=>leave o (fun b=>closed_Linked_k2 v2) some)
theorem closed_Linked_ok (v1 : Option HierHier) {r : Int} (h : closed_Linked v1 = some r) : PureC Tryz.prog 92 [optP 2 rHierHier v1] (iA r):=by
 refine pure_fn Tryz.func92 j0 (by kernel_rfl) j0 j0 ?_
 unfold closed_Linked at h
 rcases v1 with _ | v2
 ·
  replace h:=oeN h
  cases h
 ·
  replace h:=oeS h
  refine rg j0<|u<|asg j0<|r_nil ?_
  refine sw_seq ?_
  obtain ⟨v3,q1,h⟩:=bs h
  refine rg j0<|u<|mv j0<|u<|sc [] (hier_Hier_Names_s2_ok v2.l v2.at_ q1) j0 j0 j0 j0 ⟨(rnI j0),j5⟩ j5<|r_can (env0:=[(0,.ipt 2 [[.isl 6 (List.map rApiClass v2.l),.imp (List.map (rKV (fun x=>iA x)) v2.at_)]] 0 0),(12,.msl 0 0 (List.length v3))]) (st0:=[some (1,List.map rStr v3)]) ⟨[.old 0],ce j0 j0<|cv j0 (.msl j0)<|cn,j0,⟨⟨_,j0,rsMap (fun _=>j0)⟩,j5⟩,j0,j1⟩<|u<|lnM ti25 j0 j0 j0<|u<|mv j0<|r_nil ?_
  obtain ⟨o,ho,h⟩:=bs h
  refine sw_lpl (X:=Int) (B:=Unit) (R:=Int) (fun z=>[(0,.ipt 2 [[.isl 6 (List.map rApiClass v2.l),.imp (List.map (rKV (fun x=>iA x)) v2.at_)]] 0 0),(12,.msl 0 0 (List.length v3)),(13,iA ((List.length v3) : Int)),(14,iA z)]) (fun z=>[some (1,List.map rStr v3)]) (fun b=>[(0,.ipt 2 [[.isl 6 (List.map rApiClass v2.l),.imp (List.map (rKV (fun x=>iA x)) v2.at_)]] 0 0)]) (fun b=>[]) (fun r env st=>PostF Tryz.prog Tryz.f92 0 (iA r) [] env st) ho ⟨[.old 0],ce j0 j0<|cv j0 (.msl j0)<|ce j0 j0<|ce j0 j0<|cn,j0,⟨⟨_,j0,rsMap (fun _=>j0)⟩,j5⟩,j0,j1⟩ ?_ ?_ ?_
  ·
   rintro v8 r h
   replace h : closed_Linked_l1 v2 v3 v8 = some r:=h
   unfold closed_Linked_l1 at h
   refine rg j0<|u<|lss ti3 j0 j0<|r_nil ?_
   refine sw_seq ?_
   refine sw_cond j0 (fun hc7=>?_) (fun hc7=>?_)
   ·
    replace h:=bT hc7 h
    refine sw_skip ?_
    refine sw_seq ?_
    refine sw_block ?_
    obtain ⟨v9,q8,h⟩:=bs h
    refine rg j0<|u<|ixM ti25 j0 ti9 j0 j0 j0 j0 q8<|u<|ldM ti9 j0 j0 (idx_some q8).2.2 j0<|u<|asg j0<|r_nil ?_
    obtain ⟨v10,q9,h⟩:=bs h
    refine rg j0<|u<|mv j0<|u<|mv j0<|u<|pc (hier_Hier_Class_s3_ok v2.l v2.at_ v9 q9) j0 j0 j0<|u<|mv j0<|u<|ex j0 j0<|u<|ex j0 j0<|u<|al 1 ti29 j0<|u<|sto ti29 j0 j0 j0<|u<|asg j0<|r_nil ?_
    obtain ⟨v11,q10,h⟩:=bs h
    refine rg j0<|u<|mv j0<|u<|ld ti29 j0 j0<|u<|pc (closed_whole_ok v2.l v2.at_ v10.1 q10) j0 j0 j0<|u<|nt j0<|r_nil ?_
    refine sw_cond j0 (fun hc11=>?_) (fun hc11=>?_)
    ·
     replace h:=bT hc11 h
     refine rg j0<|u<|asg j0<|r_nil ?_
     refine sw_ret ?_
     obtain rfl:=sm h
     exact ⟨_,j0,_,j0,[],ci j0,j0,j5,j0,j1⟩
    ·
     replace h:=bF hc11 h
     refine sw_skip ?_
     refine rl j0<|u<|add ti3 j0 j0<|u<|mv j0<|r_nil ?_
     obtain rfl:=sm h
     exact ⟨_,j0,[.old 0],ce j0 j0<|cv j0 (.msl j0)<|ce j0 j0<|ce j0 j0<|cn,j0,⟨⟨_,j0,rsMap (fun _=>j0)⟩,j5⟩,j0,j1⟩
   ·
    replace h:=bF hc7 h
    refine sw_exit ?_
    obtain rfl:=sm h
    exact ⟨j0,_,j0,[],ce j0 j0<|cn,j0,j5,j0,j1⟩
  ·
   rintro ⟨⟩ rfl
   replace h : closed_Linked_k2 v2 = some r:=h
   unfold closed_Linked_k2 at h
   refine ow_intro ?_
   refine sw_seq ?_
   obtain ⟨v12,q12,h⟩:=bs h
   refine rg j0<|u<|mv j0<|u<|sc [] (hier_Hier_Names_s2_ok v2.l v2.at_ q12) j0 j0 j0 j0 ⟨(rnI j0),j5⟩ j5<|r_can (env0:=[(0,.ipt 2 [[.isl 6 (List.map rApiClass v2.l),.imp (List.map (rKV (fun x=>iA x)) v2.at_)]] 0 0),(30,.msl 0 0 (List.length v12))]) (st0:=[some (1,List.map rStr v12)]) ⟨[.old 0],ce j0 j0<|cv j0 (.msl j0)<|cn,j0,⟨⟨_,j0,rsMap (fun _=>j0)⟩,j5⟩,j0,j1⟩<|u<|lnM ti25 j0 j0 j0<|u<|mv j0<|r_nil ?_
   obtain ⟨o,ho,h⟩:=bs h
   refine sw_lpl (X:=Int) (B:=Unit) (R:=Int) (fun z=>[(0,.ipt 2 [[.isl 6 (List.map rApiClass v2.l),.imp (List.map (rKV (fun x=>iA x)) v2.at_)]] 0 0),(30,.msl 0 0 (List.length v12)),(31,iA ((List.length v12) : Int)),(32,iA z)]) (fun z=>[some (1,List.map rStr v12)]) (fun b=>[]) (fun b=>[]) (fun r env st=>PostF Tryz.prog Tryz.f92 0 (iA r) [] env st) ho ⟨[.old 0],ce j0 j0<|cv j0 (.msl j0)<|ce j0 j0<|ce j0 j0<|cn,j0,⟨⟨_,j0,rsMap (fun _=>j0)⟩,j5⟩,j0,j1⟩ ?_ ?_ ?_
   ·
    rintro v19 r h
    replace h : closed_Linked_l3 v2 v12 v19 = some r:=h
    unfold closed_Linked_l3 at h
    refine rg j0<|u<|lss ti3 j0 j0<|r_nil ?_
    refine sw_seq ?_
    refine sw_cond j0 (fun hc21=>?_) (fun hc21=>?_)
    ·
     replace h:=bT hc21 h
     refine sw_skip ?_
     refine sw_seq ?_
     refine sw_block ?_
     obtain ⟨v20,q22,h⟩:=bs h
     refine rg j0<|u<|ixM ti25 j0 ti9 j0 j0 j0 j0 q22<|u<|ldM ti9 j0 j0 (idx_some q22).2.2 j0<|u<|asg j0<|r_nil ?_
     obtain ⟨v21,q23,h⟩:=bs h
     refine rg j0<|u<|mv j0<|u<|mv j0<|u<|pc (hier_Hier_Class_s3_ok v2.l v2.at_ v20 q23) j0 j0 j0<|u<|mv j0<|u<|ex j0 j0<|u<|ex j0 j0<|u<|al 1 ti29 j0<|u<|sto ti29 j0 j0 j0<|u<|asg j0<|r_nil ?_
     obtain ⟨v22,q24,h⟩:=bs h
     obtain ⟨v24,q27,h⟩:=bs h
     refine rg j0<|u<|mv j0<|u<|ld ti29 j0 j0<|u<|pc (closed_overrides_ok v2.l v2.at_ v21.1 q24) j0 j0 j0<|u<|nt j0<|u<|mv j0<|r_or (x:=v24) (j:=4) 4 j0 j0 j0 j0 j0 gpn (fun hb25=>by replace q27:=bF hb25 q27; obtain ⟨v23,q26,q27⟩:=bs q27; obtain rfl:=sm q27; exact g j0 hb25<|mv j0<|g j0 hb25<|ld ti29 j0 j0<|g j0 hb25<|pc (closed_faces_ok v2.l v2.at_ v21.1 q26) j0 j0 j0<|g j0 hb25<|nt j0<|r_nil (eg [47,48,49,50] 4 j0 j0 j0 j0)) (fun hb=>(sm (bT hb q27)).symm)<|r_nil ?_
     refine sw_cond j0 (fun hc28=>?_) (fun hc28=>?_)
     ·
      replace h:=bT hc28 h
      refine rg j0<|u<|asg j0<|r_nil ?_
      refine sw_ret ?_
      obtain rfl:=sm h
      exact ⟨_,j0,_,j0,[],ci j0,j0,j5,j0,j1⟩
     ·
      replace h:=bF hc28 h
      refine sw_skip ?_
      refine rl j0<|u<|add ti3 j0 j0<|u<|mv j0<|r_nil ?_
      obtain rfl:=sm h
      exact ⟨_,j0,[.old 0],ce j0 j0<|cv j0 (.msl j0)<|ce j0 j0<|ce j0 j0<|cn,j0,⟨⟨_,j0,rsMap (fun _=>j0)⟩,j5⟩,j0,j1⟩
    ·
     replace h:=bF hc21 h
     refine sw_exit ?_
     obtain rfl:=sm h
     exact ⟨j0,_,j0,[],cn,j0,j5,j0,j1⟩
   ·
    rintro ⟨⟩ rfl
    replace h : closed_Linked_k4 = some r:=h
    unfold closed_Linked_k4 at h
    refine ow_intro ?_
    refine rg j0<|u<|asg j0<|r_nil ?_
    refine sw_ret ?_
    obtain rfl:=sm h
    exact ⟨_,j0,[],ci j0,j0,j5,j0,j1⟩
   ·
    rintro r' rfl env st hp
    obtain rfl:=sm h
    exact hp
  ·
   rintro r' rfl env st hp
   obtain rfl:=sm h
   exact hp
def hier_Hier_has_s2 (v1 : List UInt8) : Bool :=
  false
theorem hier_Hier_has_s2_ok (v1 : List UInt8) {r : Bool} (h : hier_Hier_has_s2 v1 = r) : PureC Tryz.prog 59 [.lit (.pointer none),sA v1] (bA r):=by
 refine pure_fn Tryz.func59 j0 (by kernel_rfl) j0 j0 ?_
 unfold hier_Hier_has_s2 at h
 refine rg j0<|u<|asg j0<|r_nil ?_
 refine sw_seq ?_
 refine rg j0<|u<|mv j0<|u<|eqp ti32 j0 j0 j0 j0 j0 j0<|r_nil ?_
 refine sw_cond j0 (fun _=>?_) (fun hx=>by cases hx)
 refine rg j0<|u<|asg j0<|r_nil ?_
 refine sw_ret ?_
 obtain rfl:=h
 exact ⟨_,j0,[],ci j0,j0,j5,j0,j1⟩
def hier_Hier_Supers_k2 : Option ((List (List UInt8))) :=
  some []
def hier_Hier_Supers_l1 (v1 : List UInt8) : Option (Sum (Unit) (Sum (Unit) ((List (List UInt8))))) :=
  cond (hier_Hier_has_s2 v1) ((appP 16 ([] : List (List UInt8)) [v1]).bind fun v2=>none) (some (.inr (.inl ())))
def hier_Hier_Supers (v1 : List UInt8) : Option ((List (List UInt8))) :=
  (loopP (fun z=>hier_Hier_Supers_l1 v1) ()).bind fun o=>leave o (fun b=>hier_Hier_Supers_k2) some
theorem hier_Hier_Supers_ok (v1 : List UInt8) {r : (List (List UInt8))} (h : hier_Hier_Supers v1 = some r) : PureC Tryz.prog 66 [.lit (.pointer none),sA v1] (.isl 1 (List.map rStr r)):=by
 refine pure_fn Tryz.func66 j0 (by kernel_rfl) j0 j0 ?_
 unfold hier_Hier_Supers at h
 refine rg j0<|u<|asg j0<|r_nil ?_
 refine rg j0<|u<|asg j0<|r_nil ?_
 obtain ⟨o,ho,h⟩:=bs h
 refine sw_lp (X:=Unit) (B:=Unit) (R:=(List (List UInt8))) (fun z=>[(0,.lit (.pointer none)),(1,sA v1),(5,.lit (.slice none 0 0))]) (fun z=>[]) (fun b=>[(5,.lit (.slice none 0 0))]) (fun b=>[]) (fun r env st=>PostF Tryz.prog Tryz.f66 0 (.isl 1 (List.map rStr r)) [] env st) ho ⟨[],ce j0 j0<|ce j0 j0<|ce j0 j0<|cn,j0,j5,j0,j1⟩ ?_ ?_ ?_
 ·
  rintro ⟨⟩ r h
  replace h : hier_Hier_Supers_l1 v1 = some r:=h
  unfold hier_Hier_Supers_l1 at h
  refine sw_seq ?_
  refine rg j0<|u<|mv j0<|u<|mv j0<|u<|pc (hier_Hier_has_s2_ok v1 j0) j0 j0 j0<|r_nil ?_
  refine sw_cond j0 (fun hc1=>?_) (fun hc1=>?_)
  ·
   replace h:=bT hc1 h
   refine sw_skip ?_
   refine sw_block ?_
   obtain ⟨v2,q2,h⟩:=bs h
   refine rg j0<|u<|mv j0<|u<|mv j0<|u<|bl 0 ti25 j0 ti9 j0 (by decide) (by decide) j0 j0 j0<|u<|apN (f:=rStr) 1 ti25 j0 ti9 j0 j0 (by decide) ti25 j0 j0 j0 (roX (f:=rStr) (z:=[v1]) j0 j0) (fun _=>j0) j0 q2<|u<|asg j0<|r_nil ?_
   cases h
  ·
   replace h:=bF hc1 h
   refine sw_exit ?_
   obtain rfl:=sm h
   exact ⟨j0,_,j0,[],ce j0 j0<|cn,j0,j5,j0,j1⟩
 ·
  rintro ⟨⟩ rfl
  replace h : hier_Hier_Supers_k2 = some r:=h
  unfold hier_Hier_Supers_k2 at h
  refine rg j0<|u<|mv j0<|u<|asg j0<|r_nil ?_
  refine sw_ret ?_
  obtain rfl:=sm h
  exact ⟨_,j0,[],.nil,j0,j5,j0,j1⟩
 ·
  rintro r' rfl env st hp
  obtain rfl:=sm h
  exact hp
def hier_Hier_Class_s2 (v1 : List UInt8) : Option (ApiClass × Bool) :=
  cond (!(hier_Hier_has_s2 v1)) (some ((ApiClass.mk [] [] false [] [] []),false)) (none)
theorem hier_Hier_Class_s2_ok (v1 : List UInt8) {r : ApiClass × Bool} (h : hier_Hier_Class_s2 v1 = some r) : PureC Tryz.prog 63 [.lit (.pointer none),sA v1] (.tup [.agg (rApiClass r.1),bA r.2]):=by
 refine pure_fn Tryz.func63 j0 (by kernel_rfl) j0 j0 ?_
 unfold hier_Hier_Class_s2 at h
 refine rg j0<|u<|al 0 ti29 j0<|u<|asg j0<|r_nil ?_
 refine sw_seq ?_
 refine rg j0<|u<|mv j0<|u<|mv j0<|u<|pc (hier_Hier_has_s2_ok v1 j0) j0 j0 j0<|u<|nt j0<|r_nil ?_
 refine sw_cond j0 (fun hc1=>?_) (fun hc1=>?_)
 ·
  replace h:=bT hc1 h
  refine rg j0<|u<|bd ti29 j0 j0 j0<|u<|sto ti29 j0 j0 j0<|u<|asg j0<|r_nil ?_
  refine sw_ret ?_
  obtain rfl:=sm h
  exact ⟨_,j0,[],rsTup ⟨(rsAgg ⟨ci j0,ci j0,ci j0,(.nil),(.nil),(.nil),j5⟩),(ci j0),j5⟩,j0,j5,j0,j1⟩
 ·
  replace h:=bF hc1 h
  refine sw_skip ?_
  cases h
def link_find_s3_k2 : Option ((List UInt8) × ApiMethod × Bool) :=
  some ([],(ApiMethod.mk [] [] [] false false 0 0 [] [] []),false)
def link_find_s3_l1 (v1 : List (List UInt8)) (v2 : List UInt8) (v10 : Int) : Option (Sum (Int) (Sum (Unit) ((List UInt8) × ApiMethod × Bool))) :=
  cond (decide (v10 < (List.length v1 : Int))) ((idx v1 v10).bind fun v11=>(hier_Hier_Class_s2 v11).bind fun v12=>(class_Method v12.1 v2).bind fun v13=>(cond (decide (0 ≤ v13)) ((idx v12.1.Methods v13).bind fun v14=>some (link_Method_1 v14)) (some false)).bind fun v15=>cond v15 ((idx v12.1.Methods v13).bind fun v16=>some (.inr (.inr (v11,v16,true)))) (some (.inl (IntKind.i64.wrap (v10 + 1))))) (some (.inr (.inl ())))
def link_find_s3 (v1 : List (List UInt8)) (v2 : List UInt8) : Option ((List UInt8) × ApiMethod × Bool) :=
  (loopP (fun z=>link_find_s3_l1 v1 v2 z) 0).bind fun o=>leave o (fun b=>link_find_s3_k2) some
theorem link_find_s3_ok (v1 : List (List UInt8)) (v2 : List UInt8) {r : (List UInt8) × ApiMethod × Bool} (h : link_find_s3 v1 v2 = some r) : PureC Tryz.prog 160 [.lit (.pointer none),.isl 1 (List.map rStr v1),sA v2,.fn (.func 161) [] []] (.tup [sA r.1,.agg (rApiMethod r.2.1),bA r.2.2]):=by
 refine pure_fn Tryz.func160 j0 (by kernel_rfl) j0 j0 ?_
 unfold link_find_s3 at h
 refine rg j0<|u<|asg j0<|u<|al 0 ti76 j0<|u<|asg j0<|r_nil ?_
 refine sw_seq ?_
 refine rg j0<|u<|mv j0<|u<|lnI ti25 j0 j0<|u<|mv j0<|r_nil ?_
 obtain ⟨o,ho,h⟩:=bs h
 refine sw_lpl (X:=Int) (B:=Unit) (R:=(List UInt8) × ApiMethod × Bool) (fun z=>[(0,.lit (.pointer none)),(2,sA v2),(3,.fn (.func 161) [] []),(9,.mpt 0 0 0),(16,.isl 1 (List.map rStr v1)),(17,iA (List.length v1 : Int)),(18,iA z)]) (fun z=>[some (10,[[sA [],.lit (.slice none 0 0),sA [],bA false,bA false,iA 0,iA 0,.lit (.slice none 0 0),.lit (.slice none 0 0),.lit (.slice none 0 0)]])]) (fun b=>[(9,.mpt 0 0 0)]) (fun b=>[some (10,[[sA [],.lit (.slice none 0 0),sA [],bA false,bA false,iA 0,iA 0,.lit (.slice none 0 0),.lit (.slice none 0 0),.lit (.slice none 0 0)]])]) (fun r env st=>PostF Tryz.prog Tryz.f160 0 (.tup [sA r.1,.agg (rApiMethod r.2.1),bA r.2.2]) [] env st) ho ⟨[.old 0],ce j0 j0<|ce j0 j0<|ce j0 j0<|cv j0 (.mpt j0)<|ce j0 j0<|ce j0 j0<|ce j0 j0<|cn,j0,⟨⟨_,j0,rsOne (ciL j0)⟩,j5⟩,j0,j1⟩ ?_ ?_ ?_
 ·
  rintro v10 r h
  replace h : link_find_s3_l1 v1 v2 v10 = some r:=h
  unfold link_find_s3_l1 at h
  refine rg j0<|u<|lss ti3 j0 j0<|r_nil ?_
  refine sw_seq ?_
  refine sw_cond j0 (fun hc10=>?_) (fun hc10=>?_)
  ·
   replace h:=bT hc10 h
   refine sw_skip ?_
   refine sw_seq ?_
   refine sw_block ?_
   obtain ⟨v11,q11,h⟩:=bs h
   refine rg j0<|u<|ixI ti25 j0 ti9 j0 j0 j0 q11<|u<|ldI ti9 j0 (idx_some q11).2.2 j0<|u<|asg j0<|r_nil ?_
   obtain ⟨v12,q12,h⟩:=bs h
   refine rg j0<|u<|mv j0<|u<|mv j0<|u<|pc (hier_Hier_Class_s2_ok v11 q12) j0 j0 j0<|u<|mv j0<|u<|ex j0 j0<|u<|ex j0 j0<|u<|al 1 ti29 j0<|u<|sto ti29 j0 j0 j0<|u<|asg j0<|r_nil ?_
   obtain ⟨v13,q13,h⟩:=bs h
   refine rg j0<|u<|ld ti29 j0 j0<|u<|mv j0<|u<|pc (class_Method_ok v12.1 v2 q13) j0 j0 j0<|u<|asg j0<|r_nil ?_
   obtain ⟨v15,q16,h⟩:=bs h
   refine rg j0<|u<|mv j0<|u<|geq ti3 j0 j0<|u<|mv j0<|r_and (x:=v15) (j:=2) 7 j0 j0 j0 j0 j0 gpn (fun hb14=>by replace q16:=bT hb14 q16; obtain ⟨v14,q15,q16⟩:=bs q16; obtain rfl:=sm q16; exact g j0 hb14<|mv j0<|g j0 hb14<|fa ti29 j0 j0 j0<|g j0 hb14<|ld ti27 j0 j0<|g j0 hb14<|mv j0<|g j0 hb14<|ixI ti27 j0 ti76 j0 j0 j0 q15<|g j0 hb14<|ldI ti76 j0 (idx_some q15).2.2 j0<|g j0 hb14<|pc (link_Method_1_ok v14 j0) j0 j0 j0<|r_nil (eg [34,35,36,37,38,39,40] 7 j0 j0 j0 j0)) (fun hb=>(sm (bF hb q16)).symm)<|r_nil ?_
   refine sw_cond j0 (fun hc17=>?_) (fun hc17=>?_)
   ·
    replace h:=bT hc17 h
    obtain ⟨v16,q18,h⟩:=bs h
    refine rd [(8,sA v11),(9,.mpt 0 0 0),(10,bA true)] [some (10,[(rApiMethod v16)])] [7] [6,5,4,3,2,1,0] [(8,sA v11),(47,.agg (rApiMethod v16)),(46,.ipt 10 (List.map rApiMethod v12.1.Methods) (Int.toNat v13) 0),(45,iA v13),(44,.isl 10 (List.map rApiMethod v12.1.Methods)),(43,.mpt 1 0 5),(42,sA v11)] 1 (by kernel_rfl) (by kernel_rfl) j0 (by kernel_rfl) (dtS ⟨(fun _=>pa j0 j0 j0 j0 (asg j0<|j4)),(fun _=>pa j0 j0 j0 j0 (ldI ti76 j0 (idx_some q18).2.2 j0<|j4)),(fun _=>pa j0 j0 j0 j0 (ixI ti27 j0 ti76 j0 j0 j0 q18<|j4)),(fun _=>pa j0 j0 j0 j0 (mv j0<|j4)),(fun _=>pa j0 j0 j0 j0 (ld ti27 j0 j0<|j4)),(fun _=>pa j0 j0 j0 j0 (fa ti29 j0 j0 j0<|j4)),(fun _=>pa j0 j0 j0 j0 (mv j0<|j4)),j5⟩ (by kernel_rfl) j0 ⟨(fun _ _=>⟨_,j0,j0,sto ti76 j0 j0 j0<|⟨.any,[8],[(10,bA true)],j0,j0,by kernel_rfl,j5,dt0 ⟨(fun _=>pa j0 j0 j0 j0 (asg j0<|j4)),(fun h=>by cases h),(fun h=>by cases h),(fun h=>by cases h),(fun h=>by cases h),(fun h=>by cases h),(fun h=>by cases h),(fun h=>by cases h),j5⟩ (by kernel_rfl) j0 ⟨[.old 0],ce j0 j0<|cv j0 (.mpt j0)<|ce j0 j0<|cn,j0,⟨⟨_,j0,rsOne (ciL j0)⟩,j5⟩,j0,j1⟩⟩⟩),j5⟩) ?_
    refine sw_ret ?_
    obtain rfl:=sm h
    exact ⟨_,j0,_,j0,[],rsTup ⟨(ci j0),(ci j0),(ci j0),j5⟩,j0,j5,j0,j1⟩
   ·
    replace h:=bF hc17 h
    refine sw_skip ?_
    refine rl j0<|u<|add ti3 j0 j0<|u<|mv j0<|r_nil ?_
    obtain rfl:=sm h
    exact ⟨_,j0,[.old 0],ce j0 j0<|ce j0 j0<|ce j0 j0<|cv j0 (.mpt j0)<|ce j0 j0<|ce j0 j0<|ce j0 j0<|cn,j0,⟨⟨_,j0,rsOne (ciL j0)⟩,j5⟩,j0,j1⟩
  ·
   replace h:=bF hc10 h
   refine sw_exit ?_
   obtain rfl:=sm h
   exact ⟨j0,_,j0,[.old 0],cv j0 (.mpt j0)<|cn,j0,⟨⟨_,j0,rsOne (ciL j0)⟩,j5⟩,j0,j1⟩
 ·
  rintro ⟨⟩ rfl
  replace h : link_find_s3_k2 = some r:=h
  unfold link_find_s3_k2 at h
  refine ow_intro ?_
  refine rg j0<|u<|bd ti76 j0 j0 j0<|u<|asg j0<|u<|sto ti76 j0 j0 j0<|u<|asg j0<|r_nil ?_
  refine sw_ret ?_
  obtain rfl:=sm h
  exact ⟨_,j0,[],rsTup ⟨(ci j0),(rsAgg ⟨ci j0,(.nil),ci j0,ci j0,ci j0,ci j0,ci j0,(.nil),(.nil),(.nil),j5⟩),(ci j0),j5⟩,j0,j5,j0,j1⟩
 ·
  rintro r' rfl env st hp
  obtain rfl:=sm h
  exact hp
def link_Method (v1 : Option HierHier) (v2 : List UInt8) (v3 : List UInt8) : Option ((List UInt8) × ApiMethod × Bool) :=
  optE v1 ((hier_Hier_Supers v2).bind fun v5=>(link_find_s3 v5 v3).bind fun v6=>some (v6.1,v6.2.1,v6.2.2)) (fun v4=>(hier_Hier_Supers_s2 v4.l v4.at_ v2).bind fun v7=>(link_find_s4 v4.l v4.at_ v7 v3).bind fun v8=>some (v8.1,v8.2.1,v8.2.2))
theorem link_Method_ok (v1 : Option HierHier) (v2 : List UInt8) (v3 : List UInt8) {r : (List UInt8) × ApiMethod × Bool} (h : link_Method v1 v2 v3 = some r) : PureC Tryz.prog 95 [optP 2 rHierHier v1,sA v2,sA v3] (.tup [sA r.1,.agg (rApiMethod r.2.1),bA r.2.2]):=by
 refine pure_fn Tryz.func95 j0 (by kernel_rfl) j0 j0 ?_
 unfold link_Method at h
 rcases v1 with _ | v4
 ·
  replace h:=oeN h
  refine rg j0<|u<|asg j0<|u<|al 0 ti76 j0<|u<|asg j0<|r_nil ?_
  obtain ⟨v5,q1,h⟩:=bs h
  obtain ⟨v6,q2,h⟩:=bs h
  refine rg j0<|u<|mv j0<|u<|mv j0<|u<|mv j0<|u<|pc (hier_Hier_Supers_ok v2 q1) j0 j0 j0<|u<|mv j0<|u<|pc (link_find_s3_ok v5 v3 q2) j0 j0 j0<|u<|ex j0 j0<|u<|ex j0 j0<|u<|ex j0 j0<|u<|asg j0<|u<|sto ti76 j0 j0 j0<|u<|asg j0<|r_nil ?_
  refine sw_ret ?_
  obtain rfl:=sm h
  exact ⟨_,j0,[],rsTup ⟨(ci j0),(ci j0),(ci j0),j5⟩,j0,j5,j0,j1⟩
 ·
  replace h:=oeS h
  refine rg j0<|u<|asg j0<|u<|al 0 ti76 j0<|u<|asg j0<|r_nil ?_
  obtain ⟨v7,q3,h⟩:=bs h
  obtain ⟨v8,q4,h⟩:=bs h
  refine rg j0<|u<|mv j0<|u<|mv j0<|u<|mv j0<|u<|sc [] (hier_Hier_Supers_s2_ok v4.l v4.at_ v2 q3) j0 j0 j0 j0 ⟨(rnI j0),(rnI j0),j5⟩ j5<|r_can (env0:=[(2,sA v3),(7,.mpt 0 0 0),(9,.ipt 2 [[.isl 6 (List.map rApiClass v4.l),.imp (List.map (rKV (fun x=>iA x)) v4.at_)]] 0 0),(12,.msl 1 0 (List.length v7))]) (st0:=[some (10,[[sA [],.lit (.slice none 0 0),sA [],bA false,bA false,iA 0,iA 0,.lit (.slice none 0 0),.lit (.slice none 0 0),.lit (.slice none 0 0)]]),some (1,List.map rStr v7)]) ⟨[.old 0,.old 1],ce j0 j0<|cv j0 (.mpt j0)<|ce j0 j0<|cv j0 (.msl j0)<|cn,j0,⟨⟨_,j0,rsOne (ciL j0)⟩,⟨_,j0,rsMap (fun _=>j0)⟩,j5⟩,j0,j1⟩<|u<|mv j0<|r_can (env0:=[(7,.mpt 0 0 0),(9,.ipt 2 [[.isl 6 (List.map rApiClass v4.l),.imp (List.map (rKV (fun x=>iA x)) v4.at_)]] 0 0),(12,.isl 1 (List.map rStr v7)),(13,sA v3)]) (st0:=[some (10,[[sA [],.lit (.slice none 0 0),sA [],bA false,bA false,iA 0,iA 0,.lit (.slice none 0 0),.lit (.slice none 0 0),.lit (.slice none 0 0)]])]) ⟨[.old 0],cv j0 (.mpt j0)<|ce j0 j0<|cv j0 (rsSeal j0 j0 (fun _=>j0))<|ce j0 j0<|cn,j0,⟨⟨_,j0,rsOne (ciL j0)⟩,j5⟩,j0,j1⟩<|u<|pc (link_find_s4_ok v4.l v4.at_ v7 v3 q4) j0 j0 j0<|u<|ex j0 j0<|u<|ex j0 j0<|u<|ex j0 j0<|u<|asg j0<|u<|sto ti76 j0 j0 j0<|u<|asg j0<|r_nil ?_
  refine sw_ret ?_
  obtain rfl:=sm h
  exact ⟨_,j0,[],rsTup ⟨(ci j0),(ci j0),(ci j0),j5⟩,j0,j5,j0,j1⟩
def closed_Check_k6 (v3 : (Option HierHier) × Int) : Option ((Option HierHier) × Int) :=
  some (v3.1,0)
def closed_Check_k4 (v16 : Int) : Option (Sum (Int) (Sum (Unit) ((Option HierHier) × Int))) :=
  some (.inl (IntKind.i64.wrap (v16 + 1)))
def closed_Check_l3 (v3 : (Option HierHier) × Int) (v17 : ApiClass) (v22 : Int) : Option (Sum (Int) (Sum (Unit) ((Option HierHier) × Int))) :=
  cond (decide (v22 < (List.length v17.Methods : Int))) ((idx v17.Methods v22).bind fun v23=>(cond (!v23.Abstract) ((verify_Method v3.1 v17.Name v22).bind fun v24=>some (!v24)) (some false)).bind fun v25=>cond v25 (some (.inr (.inr (none,5)))) (some (.inl (IntKind.i64.wrap (v22 + 1))))) (some (.inr (.inl ())))
def closed_Check_l5 (v1 : List ApiClass) (v3 : (Option HierHier) × Int) (v16 : Int) : Option (Sum (Int) (Sum (Unit) ((Option HierHier) × Int))) :=
  cond (decide (v16 < (List.length v1 : Int))) ((idx v1 v16).bind fun v17=>(loopP (fun z=>closed_Check_l3 v3 v17 z) 0).bind fun o=>leave o (fun b=>closed_Check_k4 v16) (fun r=>some (.inr (.inr r)))) (some (.inr (.inl ())))
def closed_Check (v1 : List ApiClass) (v2 : ApiEntry) : Option ((Option HierHier) × Int) :=
  (hier_New v1).bind fun v3=>cond (!(v3.2 == (0 : Int))) (some (none,v3.2)) ((closed_Linked v3.1).bind fun v4=>cond (!(v4 == (0 : Int))) (some (none,v4)) ((link_Method v3.1 v2.C v2.M).bind fun v5=>cond ((((!v5.2.2) || (!v5.2.1.Static)) || (decide (0 < (List.length v5.2.1.Params : Int)))) || (!(v5.2.1.Ret == [86]))) (some (none,4)) ((loopP (fun z=>closed_Check_l5 v1 v3 z) 0).bind fun o=>leave o (fun b=>closed_Check_k6 v3) some)))
theorem closed_Check_ok (v1 : List ApiClass) (v2 : ApiEntry) {r : (Option HierHier) × Int} (h : closed_Check v1 v2 = some r) : PureC Tryz.prog 49 [.isl 6 (List.map rApiClass v1),.agg (rApiEntry v2)] (.tup [optP 2 rHierHier r.1,iA r.2]):=by
 refine pure_fn Tryz.func49 j0 (by kernel_rfl) j0 (immTup (immC (immP (fun _=>j0)) (j0))) ?_
 unfold closed_Check at h
 refine rg j0<|u<|bx 0 2 j0 j0 j0 j0<|u<|asg j0<|u<|asg j0<|r_nil ?_
 obtain ⟨v3,q1,h⟩:=bs h
 refine rg j0<|u<|mv j0<|u<|pc (hier_New_ok v1 q1) j0 j0 j0<|u<|mv j0<|u<|ex j0 j0<|u<|ex j0 j0<|u<|asg j0<|u<|asg j0<|r_nil ?_
 refine sw_seq ?_
 refine rg j0<|u<|mv j0<|u<|neq ti33 j0 j0<|r_nil ?_
 refine sw_cond j0 (fun hc2=>?_) (fun hc2=>?_)
 ·
  replace h:=bT hc2 h
  refine rg j0<|u<|mv j0<|u<|asg j0<|u<|asg j0<|r_nil ?_
  refine sw_ret ?_
  obtain rfl:=sm h
  exact ⟨_,j0,[],rsTup ⟨(ci j0),(ci j0),j5⟩,j0,j5,j0,j1⟩
 ·
  replace h:=bF hc2 h
  refine sw_skip ?_
  refine sw_seq ?_
  obtain ⟨v4,q3,h⟩:=bs h
  refine rg j0<|u<|mv j0<|u<|pc (closed_Linked_ok v3.1 q3) j0 j0 (immC (immP (fun _=>j0)) (j0))<|u<|asg j0<|r_nil ?_
  refine rg j0<|u<|mv j0<|u<|neq ti33 j0 j0<|r_nil ?_
  refine sw_cond j0 (fun hc4=>?_) (fun hc4=>?_)
  ·
   replace h:=bT hc4 h
   refine rg j0<|u<|mv j0<|u<|asg j0<|u<|asg j0<|r_nil ?_
   refine sw_ret ?_
   obtain rfl:=sm h
   exact ⟨_,j0,[],rsTup ⟨(ci j0),(ci j0),j5⟩,j0,j5,j0,j1⟩
  ·
   replace h:=bF hc4 h
   refine sw_skip ?_
   refine sw_seq ?_
   obtain ⟨v5,q5,h⟩:=bs h
   refine rg j0<|u<|mv j0<|u<|fa ti94 j0 j0 j0<|u<|ld ti9 j0 j0<|u<|fa ti94 j0 j0 j0<|u<|ld ti9 j0 j0<|u<|pc (link_Method_ok v3.1 v2.C v2.M q5) j0 j0 (immC (immP (fun _=>j0)) (j0))<|u<|mv j0<|u<|ex j0 j0<|u<|ex j0 j0<|u<|ex j0 j0<|u<|al 1 ti76 j0<|u<|asg j0<|u<|sto ti76 j0 j0 j0<|u<|asg j0<|r_nil ?_
   refine rg j0<|u<|mv j0<|u<|nt j0<|u<|mv j0<|r_or (j:=2) 3 j0 j0 j0 j0 j0 gpn (fun hb6=>g j0 hb6<|fa ti76 j0 j0 j0<|g j0 hb6<|ld ti4 j0 j0<|g j0 hb6<|nt j0<|r_nil (egO [42,43,44] 3 hb6 j0 j0 j0 j0)) orT<|u<|mv j0<|r_or (j:=7) 4 j0 j0 j0 j0 j0 gpn (fun hb7=>g j0 hb7<|fa ti76 j0 j0 j0<|g j0 hb7<|ld ti25 j0 j0<|g j0 hb7<|lnI ti25 j0 j0<|g j0 hb7<|gtr ti3 j0 j0<|r_nil (egO [47,48,49,50] 4 hb7 j0 j0 j0 j0)) orT<|u<|mv j0<|r_or (j:=13) 3 j0 j0 j0 j0 j0 gpn (fun hb8=>g j0 hb8<|fa ti76 j0 j0 j0<|g j0 hb8<|ld ti9 j0 j0<|g j0 hb8<|sne ti9 j0 j0<|r_nil (egO [53,54,55] 3 hb8 j0 j0 j0 j0)) orT<|r_nil ?_
   refine sw_cond j0 (fun hc9=>?_) (fun hc9=>?_)
   ·
    replace h:=bT hc9 h
    refine rg j0<|u<|asg j0<|u<|asg j0<|r_nil ?_
    refine sw_ret ?_
    obtain rfl:=sm h
    exact ⟨_,j0,[],rsTup ⟨(ci j0),(ci j0),j5⟩,j0,j5,j0,j1⟩
   ·
    replace h:=bF hc9 h
    refine sw_skip ?_
    refine sw_seq ?_
    refine rg j0<|u<|mv j0<|u<|lnI ti24 j0 j0<|u<|mv j0<|r_nil ?_
    obtain ⟨o,ho,h⟩:=bs h
    refine sw_lpl (X:=Int) (B:=Unit) (R:=(Option HierHier) × Int) (fun z=>[(6,optP 2 rHierHier v3.1),(57,.isl 6 (List.map rApiClass v1)),(58,iA (List.length v1 : Int)),(59,iA z)]) (fun z=>[]) (fun b=>[(6,optP 2 rHierHier v3.1)]) (fun b=>[]) (fun r env st=>PostF Tryz.prog Tryz.f49 0 (.tup [optP 2 rHierHier r.1,iA r.2]) [] env st) ho ⟨[],cv j0 (ci (immP (fun _=>j0)))<|ce j0 j0<|ce j0 j0<|ce j0 j0<|cn,j0,j5,j0,j1⟩ ?_ ?_ ?_
    ·
     rintro v16 r h
     replace h : closed_Check_l5 v1 v3 v16 = some r:=h
     unfold closed_Check_l5 at h
     refine rg j0<|u<|lss ti3 j0 j0<|r_nil ?_
     refine sw_seq ?_
     refine sw_cond j0 (fun hc24=>?_) (fun hc24=>?_)
     ·
      replace h:=bT hc24 h
      refine sw_skip ?_
      refine sw_seq ?_
      refine sw_block ?_
      obtain ⟨v17,q25,h⟩:=bs h
      refine rg j0<|u<|ixI ti24 j0 ti29 j0 j0 j0 q25<|u<|ldI ti29 j0 (idx_some q25).2.2 j0<|u<|al 0 ti29 j0<|u<|sto ti29 j0 j0 j0<|r_nil ?_
      refine rg j0<|u<|fa ti29 j0 j0 j0<|u<|ld ti27 j0 j0<|u<|lnI ti27 j0 j0<|u<|mv j0<|r_nil ?_
      obtain ⟨o,ho,h⟩:=bs h
      refine sw_lpl (X:=Int) (B:=Unit) (R:=(Option HierHier) × Int) (fun z=>[(6,optP 2 rHierHier v3.1),(13,.mpt 0 0 0),(57,.isl 6 (List.map rApiClass v1)),(58,iA (List.length v1 : Int)),(59,iA v16),(64,.isl 10 (List.map rApiMethod v17.Methods)),(65,iA (List.length v17.Methods : Int)),(66,iA z)]) (fun z=>[some (6,[(rApiClass v17)])]) (fun b=>[(6,optP 2 rHierHier v3.1),(57,.isl 6 (List.map rApiClass v1)),(58,iA (List.length v1 : Int)),(59,iA v16)]) (fun b=>[]) (fun r env st=>PostF Tryz.prog Tryz.f49 0 (.tup [optP 2 rHierHier r.1,iA r.2]) [] env st) ho ⟨[.old 0],cv j0 (ci (immP (fun _=>j0)))<|cv j0 (.mpt j0)<|ce j0 j0<|ce j0 j0<|ce j0 j0<|ce j0 j0<|ce j0 j0<|ce j0 j0<|cn,j0,⟨⟨_,j0,rsOne (ciL j0)⟩,j5⟩,j0,j1⟩ ?_ ?_ ?_
      ·
       rintro v22 r h
       replace h : closed_Check_l3 v3 v17 v22 = some r:=h
       unfold closed_Check_l3 at h
       refine rg j0<|u<|lss ti3 j0 j0<|r_nil ?_
       refine sw_seq ?_
       refine sw_cond j0 (fun hc32=>?_) (fun hc32=>?_)
       ·
        replace h:=bT hc32 h
        refine sw_skip ?_
        refine sw_seq ?_
        refine sw_block ?_
        obtain ⟨v23,q33,h⟩:=bs h
        refine rg j0<|u<|mv j0<|u<|ixI ti27 j0 ti76 j0 j0 j0 q33<|u<|ldI ti76 j0 (idx_some q33).2.2 j0<|u<|al 1 ti76 j0<|u<|asg j0<|u<|sto ti76 j0 j0 j0<|r_nil ?_
        obtain ⟨v25,q36,h⟩:=bs h
        refine rg j0<|u<|fa ti76 j0 j0 j0<|u<|ld ti4 j0 j0<|u<|nt j0<|u<|mv j0<|r_and (x:=v25) (j:=3) 6 j0 j0 j0 j0 j0 gpn (fun hb34=>by replace q36:=bT hb34 q36; obtain ⟨v24,q35,q36⟩:=bs q36; obtain rfl:=sm q36; exact g j0 hb34<|mv j0<|g j0 hb34<|fa ti29 j0 j0 j0<|g j0 hb34<|ld ti9 j0 j0<|g j0 hb34<|mv j0<|g j0 hb34<|pc (verify_Method_ok v3.1 v17.Name v22 q35) j0 j0 (immC (immP (fun _=>j0)) (j0))<|g j0 hb34<|nt j0<|r_nil (eg [75,76,77,78,79,80] 6 j0 j0 j0 j0)) (fun hb=>(sm (bF hb q36)).symm)<|r_nil ?_
        refine sw_cond j0 (fun hc37=>?_) (fun hc37=>?_)
        ·
         replace h:=bT hc37 h
         refine rg j0<|u<|asg j0<|u<|asg j0<|r_nil ?_
         refine sw_ret ?_
         obtain rfl:=sm h
         exact ⟨_,j0,_,j0,[],rsTup ⟨(ci j0),(ci j0),j5⟩,j0,j5,j0,j1⟩
        ·
         replace h:=bF hc37 h
         refine sw_skip ?_
         refine rl j0<|u<|add ti3 j0 j0<|u<|mv j0<|r_nil ?_
         obtain rfl:=sm h
         exact ⟨_,j0,[.old 0],cv j0 (ci (immP (fun _=>j0)))<|cv j0 (.mpt j0)<|ce j0 j0<|ce j0 j0<|ce j0 j0<|ce j0 j0<|ce j0 j0<|ce j0 j0<|cn,j0,⟨⟨_,j0,rsOne (ciL j0)⟩,j5⟩,j0,j1⟩
       ·
        replace h:=bF hc32 h
        refine sw_exit ?_
        obtain rfl:=sm h
        exact ⟨j0,_,j0,[],cv j0 (ci (immP (fun _=>j0)))<|ce j0 j0<|ce j0 j0<|ce j0 j0<|cn,j0,j5,j0,j1⟩
      ·
       rintro ⟨⟩ rfl
       replace h : closed_Check_k4 v16 = some r:=h
       unfold closed_Check_k4 at h
       refine ow_intro ?_
       refine rl j0<|u<|add ti3 j0 j0<|u<|mv j0<|r_nil ?_
       obtain rfl:=sm h
       exact ⟨_,j0,[],cv j0 (ci (immP (fun _=>j0)))<|ce j0 j0<|ce j0 j0<|ce j0 j0<|cn,j0,j5,j0,j1⟩
      ·
       rintro r' rfl env st hp
       obtain rfl:=sm h
       exact ⟨_,j0,hp⟩
     ·
      replace h:=bF hc24 h
      refine sw_exit ?_
      obtain rfl:=sm h
      exact ⟨j0,_,j0,[],cv j0 (ci (immP (fun _=>j0)))<|cn,j0,j5,j0,j1⟩
    ·
     rintro ⟨⟩ rfl
     replace h : closed_Check_k6 v3 = some r:=h
     unfold closed_Check_k6 at h
     refine ow_intro ?_
     refine rg j0<|u<|mv j0<|u<|asg j0<|u<|asg j0<|r_nil ?_
     refine sw_ret ?_
     obtain rfl:=sm h
     exact ⟨_,j0,[],rsTup ⟨(ci (immP (fun _=>j0))),(ci j0),j5⟩,j0,j5,j0,j1⟩
    ·
     rintro r' rfl env st hp
     obtain rfl:=sm h
     exact hp
def law10_Begun : Option (Bool) :=
  (law10_begun).bind fun v1=>some v1
theorem law10_Begun_ok {r : Bool} (h : law10_Begun = some r) : PureC Tryz.prog 91 [] (bA r):=by
 refine pure_fn Tryz.func91 j0 (by kernel_rfl) j0 j0 ?_
 unfold law10_Begun at h
 refine rg j0<|u<|asg j0<|r_nil ?_
 obtain ⟨v1,q1,h⟩:=bs h
 refine rg j0<|u<|pc (law10_begun_ok q1) j0 j0 j0<|u<|asg j0<|r_nil ?_
 refine sw_ret ?_
 obtain rfl:=sm h
 exact ⟨_,j0,[],ci j0,j0,j5,j0,j1⟩
end
end Go.Proofs.YtjbdfkapnffjnaaGreat
