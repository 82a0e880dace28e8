/- What the proofs of this seat's laws rest on: how the program's functions compute, each for every input. No further condition. Part 4 of 7. -/
import Derived.Test.YtjbdfkapnffjnaaGreatVx3
namespace Go.Proofs.YtjbdfkapnffjnaaGreat
noncomputable section
set_option linter.unusedSimpArgs false
set_option linter.unusedVariables false
set_option maxRecDepth 100000
set_option maxHeartbeats 4000000
def verify_checker_find (v1 : List ApiClass) (v2 : List (List UInt8 × Int)) (v3 : List UInt8) (v4 : ApiMethod) (v5 : List (List UInt8)) (v6 : List (List UInt8)) (v7 : Bool) (v8 : Int) : Option ((Option ApiMap)) :=
  (slices_IndexFunc_api_Map_api_Map v4.Maps v8).bind fun v9=>cond (decide (v9 < 0)) (some none) ((idx v4.Maps v9).bind fun v10=>some (some v10))
theorem verify_checker_find_ok (v1 : List ApiClass) (v2 : List (List UInt8 × Int)) (v3 : List UInt8) (v4 : ApiMethod) (v5 : List (List UInt8)) (v6 : List (List UInt8)) (v7 : Bool) (v8 : Int) {r : (Option ApiMap)} (h : verify_checker_find v1 v2 v3 v4 v5 v6 v7 v8 = some r) : SC Tryz.prog 137 [.mpt 0 0 0,iA v8] [.one 15 (vK v1 v2 v3 v4 (.msl 1 0 (List.length v5)) (.msl 2 0 (List.length v6)) (bA v7)),.many 1 (List.map rStr v5),.many 1 (List.map rStr v6)] (optP 3 rApiMap r) [.one 15 (vK v1 v2 v3 v4 (.msl 1 0 (List.length v5)) (.msl 2 0 (List.length v6)) (bA v7)),.many 1 (List.map rStr v5),.many 1 (List.map rStr v6)]:=by
 refine ⟨⟨j5,sbOk (sz:=1) (fun _=>j0),sbOk (sz:=1) (fun _=>j0),j5⟩,scall_fn Tryz.func137 j0 (by kernel_rfl) j0 ?_⟩
 unfold verify_checker_find at h
 refine rg j0<|u<|bx 3 1 j0 j0 j0 j0<|u<|asg j0<|r_nil ?_
 obtain ⟨v9,q1,h⟩:=bs h
 refine rg j0<|u<|mv j0<|u<|nc j0 j0<|u<|fa ti131 j0 j0 j0<|u<|fa ti76 j0 j0 j0<|u<|ld ti73 j0 j0<|u<|mf j0 j0<|u<|pcs (slices_IndexFunc_api_Map_api_Map_ok v4.Maps v8 q1) j0 j0 (.cons (si j0) (.cons (sealFn j5 ⟨(sealBox j0 ⟨(si j0),j5⟩),j5⟩) .nil)) plainB<|u<|asg j0<|r_nil ?_
 refine sw_seq ?_
 refine rg j0<|u<|mv j0<|u<|lss ti3 j0 j0<|r_nil ?_
 refine sw_cond j0 (fun hc2=>?_) (fun hc2=>?_)
 ·
  replace h:=bT hc2 h
  refine rg j0<|u<|asg j0<|r_nil ?_
  refine sw_ret ?_
  obtain rfl:=sm h
  exact ⟨_,j0,[.old 0,.old 1,.old 2],ci j0,j0,⟨⟨_,j0,rsOne (cc12 j0 (by exact ⟨.msl j0,.msl j0,ci j0,j5⟩))⟩,⟨_,j0,rsMap (fun _=>j0)⟩,⟨_,j0,rsMap (fun _=>j0)⟩,j5⟩,j0,j1⟩
 ·
  replace h:=bF hc2 h
  refine sw_skip ?_
  obtain ⟨v10,q3,h⟩:=bs h
  refine rg j0<|u<|mv j0<|u<|nc j0 j0<|u<|fa ti131 j0 j0 j0<|u<|fa ti76 j0 j0 j0<|u<|ld ti73 j0 j0<|u<|mv j0<|u<|ixI ti73 j0 ti78 j0 j0 j0 q3<|r_pt q3<|u<|asg j0<|r_nil ?_
  refine sw_ret ?_
  obtain rfl:=sm h
  exact ⟨_,j0,[.old 0,.old 1,.old 2],ci j0,j0,⟨⟨_,j0,rsOne (cc12 j0 (by exact ⟨.msl j0,.msl j0,ci j0,j5⟩))⟩,⟨_,j0,rsMap (fun _=>j0)⟩,⟨_,j0,rsMap (fun _=>j0)⟩,j5⟩,j0,j1⟩
def types_ref_s2 (v1 : List ApiClass) (v2 : List (List UInt8 × Int)) (v3 : List UInt8) : Option (Bool) :=
  (cond (!(v3 == [73])) ((hier_Hier_Sub_s3 v1 v2 v3 v3).bind fun v4=>some v4) (some false)).bind fun v5=>some v5
theorem types_ref_s2_ok (v1 : List ApiClass) (v2 : List (List UInt8 × Int)) (v3 : List UInt8) {r : Bool} (h : types_ref_s2 v1 v2 v3 = some r) : PureC Tryz.prog 252 [.ipt 2 [[.isl 6 (List.map rApiClass v1),.imp (List.map (rKV (fun x=>iA x)) v2)]] 0 0,sA v3] (bA r):=by
 refine pure_fn Tryz.func252 j0 (by kernel_rfl) j0 j0 ?_
 unfold types_ref_s2 at h
 refine rg j0<|u<|asg j0<|r_nil ?_
 obtain ⟨v5,q3,h⟩:=bs h
 refine rg j0<|u<|mv j0<|u<|sne ti9 j0 j0<|u<|mv j0<|r_and (x:=v5) (j:=2) 4 j0 j0 j0 j0 j0 gpn (fun hb1=>by replace q3:=bT hb1 q3; obtain ⟨v4,q2,q3⟩:=bs q3; obtain rfl:=sm q3; exact g j0 hb1<|mv j0<|g j0 hb1<|mv j0<|g j0 hb1<|mv j0<|g j0 hb1<|pc (hier_Hier_Sub_s3_ok v1 v2 v3 v3 q2) j0 j0 j0<|r_nil (eg [8,9,10,11] 4 j0 j0 j0 j0)) (fun hb=>(sm (bF hb q3)).symm)<|u<|asg j0<|r_nil ?_
 refine sw_ret ?_
 obtain rfl:=sm h
 exact ⟨_,j0,[],ci j0,j0,j5,j0,j1⟩
def types_Fits_s3 (v1 : List ApiClass) (v2 : List (List UInt8 × Int)) (v3 : List UInt8) (v4 : List UInt8) : Option (Bool) :=
  (types_There_s2 v1 v2 v3).bind fun v5=>(cond (!v5) (some true) ((types_There_s2 v1 v2 v4).bind fun v6=>some (!v6))).bind fun v7=>cond v7 (some false) (cond ((v4 == [84]) || (v3 == v4)) (some true) (cond (v3 == [78]) ((types_ref_s2 v1 v2 v4).bind fun v8=>some v8) ((types_ref_s2 v1 v2 v3).bind fun v9=>(cond (!v9) (some true) ((types_ref_s2 v1 v2 v4).bind fun v10=>some (!v10))).bind fun v11=>cond v11 (some false) ((hier_Hier_Class_s3 v1 v2 v4).bind fun v12=>(cond v12.1.Interface (some true) ((hier_Hier_Sub_s3 v1 v2 v3 v4).bind fun v13=>some v13)).bind fun v14=>some v14))))
theorem types_Fits_s3_ok (v1 : List ApiClass) (v2 : List (List UInt8 × Int)) (v3 : List UInt8) (v4 : List UInt8) {r : Bool} (h : types_Fits_s3 v1 v2 v3 v4 = some r) : PureC Tryz.prog 198 [.ipt 2 [[.isl 6 (List.map rApiClass v1),.imp (List.map (rKV (fun x=>iA x)) v2)]] 0 0,sA v3,sA v4] (bA r):=by
 refine pure_fn Tryz.func198 j0 (by kernel_rfl) j0 j0 ?_
 unfold types_Fits_s3 at h
 refine rg j0<|u<|asg j0<|r_nil ?_
 refine sw_seq ?_
 refine sw_block ?_
 obtain ⟨v5,q1,h⟩:=bs h
 obtain ⟨v7,q4,h⟩:=bs h
 refine rg j0<|u<|mv j0<|u<|mv j0<|u<|pc (types_There_s2_ok v1 v2 v3 q1) j0 j0 j0<|u<|nt j0<|u<|mv j0<|r_or (x:=v7) (j:=4) 4 j0 j0 j0 j0 j0 gpn (fun hb2=>by replace q4:=bF hb2 q4; obtain ⟨v6,q3,q4⟩:=bs q4; obtain rfl:=sm q4; exact g j0 hb2<|mv j0<|g j0 hb2<|mv j0<|g j0 hb2<|pc (types_There_s2_ok v1 v2 v4 q3) j0 j0 j0<|g j0 hb2<|nt j0<|r_nil (eg [15,16,17,18] 4 j0 j0 j0 j0)) (fun hb=>(sm (bT hb q4)).symm)<|u<|asg j0<|r_nil ?_
 refine sw_cond j0 (fun hc5=>?_) (fun hc5=>?_)
 ·
  replace h:=bT hc5 h
  refine rg j0<|u<|asg j0<|r_nil ?_
  refine sw_ret ?_
  obtain rfl:=sm h
  exact ⟨_,j0,[],ci j0,j0,j5,j0,j1⟩
 ·
  replace h:=bF hc5 h
  refine rg j0<|u<|mv j0<|u<|seq ti9 j0 j0<|u<|mv j0<|r_or (j:=2) 3 j0 j0 j0 j0 j0 gpn (fun hb6=>g j0 hb6<|mv j0<|g j0 hb6<|mv j0<|g j0 hb6<|seq ti9 j0 j0<|r_nil (egO [24,25,26] 3 hb6 j0 j0 j0 j0)) orT<|u<|asg j0<|r_nil ?_
  refine sw_cond j0 (fun hc7=>?_) (fun hc7=>?_)
  ·
   replace h:=bT hc7 h
   refine rg j0<|u<|asg j0<|r_nil ?_
   refine sw_ret ?_
   obtain rfl:=sm h
   exact ⟨_,j0,[],ci j0,j0,j5,j0,j1⟩
  ·
   replace h:=bF hc7 h
   refine rg j0<|u<|mv j0<|u<|seq ti9 j0 j0<|u<|asg j0<|r_nil ?_
   refine sw_cond j0 (fun hc8=>?_) (fun hc8=>?_)
   ·
    replace h:=bT hc8 h
    obtain ⟨v8,q9,h⟩:=bs h
    refine rg j0<|u<|mv j0<|u<|mv j0<|u<|pc (types_ref_s2_ok v1 v2 v4 q9) j0 j0 j0<|u<|asg j0<|r_nil ?_
    refine sw_ret ?_
    obtain rfl:=sm h
    exact ⟨_,j0,[],ci j0,j0,j5,j0,j1⟩
   ·
    replace h:=bF hc8 h
    obtain ⟨v9,q10,h⟩:=bs h
    obtain ⟨v11,q13,h⟩:=bs h
    refine rg j0<|u<|mv j0<|u<|mv j0<|u<|pc (types_ref_s2_ok v1 v2 v3 q10) j0 j0 j0<|u<|nt j0<|u<|mv j0<|r_or (x:=v11) (j:=4) 4 j0 j0 j0 j0 j0 gpn (fun hb11=>by replace q13:=bF hb11 q13; obtain ⟨v10,q12,q13⟩:=bs q13; obtain rfl:=sm q13; exact g j0 hb11<|mv j0<|g j0 hb11<|mv j0<|g j0 hb11<|pc (types_ref_s2_ok v1 v2 v4 q12) j0 j0 j0<|g j0 hb11<|nt j0<|r_nil (eg [40,41,42,43] 4 j0 j0 j0 j0)) (fun hb=>(sm (bT hb q13)).symm)<|u<|asg j0<|r_nil ?_
    refine sw_cond j0 (fun hc14=>?_) (fun hc14=>?_)
    ·
     replace h:=bT hc14 h
     refine rg j0<|u<|asg j0<|r_nil ?_
     refine sw_ret ?_
     obtain rfl:=sm h
     exact ⟨_,j0,[],ci j0,j0,j5,j0,j1⟩
    ·
     replace h:=bF hc14 h
     refine sw_skip ?_
     obtain ⟨v12,q15,h⟩:=bs h
     refine rg j0<|u<|mv j0<|u<|mv j0<|u<|pc (hier_Hier_Class_s3_ok v1 v2 v4 q15) j0 j0 j0<|u<|mv j0<|u<|ex j0 j0<|u<|ex j0 j0<|u<|al 0 ti29 j0<|u<|sto ti29 j0 j0 j0<|u<|asg j0<|r_nil ?_
     obtain ⟨v14,q18,h⟩:=bs h
     refine rg j0<|u<|fa ti29 j0 j0 j0<|u<|ld ti4 j0 j0<|u<|mv j0<|r_or (x:=v14) (j:=2) 4 j0 j0 j0 j0 j0 gpn (fun hb16=>by replace q18:=bF hb16 q18; obtain ⟨v13,q17,q18⟩:=bs q18; obtain rfl:=sm q18; exact g j0 hb16<|mv j0<|g j0 hb16<|mv j0<|g j0 hb16<|mv j0<|g j0 hb16<|pc (hier_Hier_Sub_s3_ok v1 v2 v3 v4 q17) j0 j0 j0<|r_nil (eg [54,55,56,57] 4 j0 j0 j0 j0)) (fun hb=>(sm (bT hb q18)).symm)<|u<|asg j0<|r_nil ?_
     refine sw_ret ?_
     obtain rfl:=sm h
     exact ⟨_,j0,[],ci j0,j0,j5,j0,j1⟩
def types_All_s3_k2 : Option (Bool) :=
  some true
def types_All_s3_l1 (v1 : List ApiClass) (v2 : List (List UInt8 × Int)) (v3 : List (List UInt8)) (v4 : List (List UInt8)) (v9 : Int) : Option (Sum (Int) (Sum (Unit) (Bool))) :=
  cond (decide (v9 < (List.length v3 : Int))) ((idx v3 v9).bind fun v10=>(idx v4 v9).bind fun v11=>(types_Fits_s3 v1 v2 v10 v11).bind fun v12=>cond (!v12) (some (.inr (.inr false))) (some (.inl (IntKind.i64.wrap (v9 + 1))))) (some (.inr (.inl ())))
def types_All_s3 (v1 : List ApiClass) (v2 : List (List UInt8 × Int)) (v3 : List (List UInt8)) (v4 : List (List UInt8)) : Option (Bool) :=
  cond (!((List.length v3 : Int) == (List.length v4 : Int))) (some false) ((loopP (fun z=>types_All_s3_l1 v1 v2 v3 v4 z) 0).bind fun o=>leave o (fun b=>types_All_s3_k2) some)
theorem types_All_s3_ok (v1 : List ApiClass) (v2 : List (List UInt8 × Int)) (v3 : List (List UInt8)) (v4 : List (List UInt8)) {r : Bool} (h : types_All_s3 v1 v2 v3 v4 = some r) : PureC Tryz.prog 199 [.ipt 2 [[.isl 6 (List.map rApiClass v1),.imp (List.map (rKV (fun x=>iA x)) v2)]] 0 0,.isl 1 (List.map rStr v3),.isl 1 (List.map rStr v4)] (bA r):=by
 refine pure_fn Tryz.func199 j0 (by kernel_rfl) j0 j0 ?_
 unfold types_All_s3 at h
 refine rg j0<|u<|asg j0<|r_nil ?_
 refine sw_seq ?_
 refine rg j0<|u<|mv j0<|u<|lnI ti25 j0 j0<|u<|mv j0<|u<|lnI ti25 j0 j0<|u<|neq ti3 j0 j0<|r_nil ?_
 refine sw_cond j0 (fun hc1=>?_) (fun hc1=>?_)
 ·
  replace h:=bT hc1 h
  refine rg j0<|u<|asg j0<|r_nil ?_
  refine sw_ret ?_
  obtain rfl:=sm h
  exact ⟨_,j0,[],ci j0,j0,j5,j0,j1⟩
 ·
  replace h:=bF hc1 h
  refine sw_skip ?_
  refine sw_seq ?_
  refine rg j0<|u<|mv j0<|u<|lnI ti25 j0 j0<|u<|mv j0<|r_nil ?_
  obtain ⟨o,ho,h⟩:=bs h
  refine sw_lpl (X:=Int) (B:=Unit) (R:=Bool) (fun z=>[(0,.ipt 2 [[.isl 6 (List.map rApiClass v1),.imp (List.map (rKV (fun x=>iA x)) v2)]] 0 0),(1,.isl 1 (List.map rStr v3)),(2,.isl 1 (List.map rStr v4)),(14,iA (List.length v3 : Int)),(15,iA z)]) (fun z=>[]) (fun b=>[]) (fun b=>[]) (fun r env st=>PostF Tryz.prog Tryz.f199 0 (bA r) [] env st) ho ⟨[],ce j0 j0<|ce j0 j0<|ce j0 j0<|ce j0 j0<|ce j0 j0<|cn,j0,j5,j0,j1⟩ ?_ ?_ ?_
  ·
   rintro v9 r h
   replace h : types_All_s3_l1 v1 v2 v3 v4 v9 = some r:=h
   unfold types_All_s3_l1 at h
   refine rg j0<|u<|lss ti3 j0 j0<|r_nil ?_
   refine sw_seq ?_
   refine sw_cond j0 (fun hc7=>?_) (fun hc7=>?_)
   ·
    replace h:=bT hc7 h
    refine sw_skip ?_
    refine sw_seq ?_
    refine sw_block ?_
    refine rg j0<|u<|mv j0<|u<|asg j0<|r_nil ?_
    obtain ⟨v10,q8,h⟩:=bs h
    obtain ⟨v11,q9,h⟩:=bs h
    obtain ⟨v12,q10,h⟩:=bs h
    refine rd [(0,.ipt 2 [[.isl 6 (List.map rApiClass v1),.imp (List.map (rKV (fun x=>iA x)) v2)]] 0 0),(1,.isl 1 (List.map rStr v3)),(2,.isl 1 (List.map rStr v4)),(14,iA (List.length v3 : Int)),(15,iA v9),(28,bA (!v12))] [] [] [10,9,8,7,6,5,4,3,2,1,0] [(28,bA (!v12)),(27,bA v12),(26,sA v11),(25,.ipt 1 (List.map rStr v4) (Int.toNat v9) 0),(24,iA v9),(23,.isl 1 (List.map rStr v4)),(22,sA v10),(21,.ipt 1 (List.map rStr v3) (Int.toNat v9) 0),(20,iA v9),(19,.isl 1 (List.map rStr v3)),(18,.ipt 2 [[.isl 6 (List.map rApiClass v1),.imp (List.map (rKV (fun x=>iA x)) v2)]] 0 0)] 0 (by kernel_rfl) (by kernel_rfl) j0 (by kernel_rfl) (dt0 ⟨(fun _=>pa j0 j0 j0 j0 (nt j0<|j4)),(fun _=>pa j0 j0 j0 j0 (pc (types_Fits_s3_ok v1 v2 v10 v11 q10) j0 j0 j0<|j4)),(fun _=>pa j0 j0 j0 j0 (ldI ti9 j0 (idx_some q9).2.2 j0<|j4)),(fun _=>pa j0 j0 j0 j0 (ixI ti25 j0 ti9 j0 j0 j0 q9<|j4)),(fun _=>pa j0 j0 j0 j0 (mv j0<|j4)),(fun _=>pa j0 j0 j0 j0 (mv j0<|j4)),(fun _=>pa j0 j0 j0 j0 (ldI ti9 j0 (idx_some q8).2.2 j0<|j4)),(fun _=>pa j0 j0 j0 j0 (ixI ti25 j0 ti9 j0 j0 j0 q8<|j4)),(fun _=>pa j0 j0 j0 j0 (mv j0<|j4)),(fun _=>pa j0 j0 j0 j0 (mv j0<|j4)),(fun _=>pa j0 j0 j0 j0 (mv j0<|j4)),j5⟩ (by kernel_rfl) j0 ⟨[],ce j0 j0<|ce j0 j0<|ce j0 j0<|ce j0 j0<|ce j0 j0<|ce j0 j0<|cn,j0,j5,j0,j1⟩) ?_
    refine sw_cond j0 (fun hc11=>?_) (fun hc11=>?_)
    ·
     replace h:=bT hc11 h
     refine rg j0<|u<|asg j0<|r_nil ?_
     refine sw_ret ?_
     obtain rfl:=sm h
     exact ⟨_,j0,_,j0,[],ci j0,j0,j5,j0,j1⟩
    ·
     replace h:=bF hc11 h
     refine sw_skip ?_
     refine rl j0<|u<|add ti3 j0 j0<|u<|mv j0<|r_nil ?_
     obtain rfl:=sm h
     exact ⟨_,j0,[],ce j0 j0<|ce j0 j0<|ce j0 j0<|ce j0 j0<|ce j0 j0<|cn,j0,j5,j0,j1⟩
   ·
    replace h:=bF hc7 h
    refine sw_exit ?_
    obtain rfl:=sm h
    exact ⟨j0,_,j0,[],cn,j0,j5,j0,j1⟩
  ·
   rintro ⟨⟩ rfl
   replace h : types_All_s3_k2 = some r:=h
   unfold types_All_s3_k2 at h
   refine ow_intro ?_
   refine rg j0<|u<|asg j0<|r_nil ?_
   refine sw_ret ?_
   obtain rfl:=sm h
   exact ⟨_,j0,[],ci j0,j0,j5,j0,j1⟩
  ·
   rintro r' rfl env st hp
   obtain rfl:=sm h
   exact hp
def types_Goes_s2 (v1 : List ApiClass) (v2 : List (List UInt8 × Int)) (v3 : ApiMap) (v4 : List (List UInt8)) (v5 : List (List UInt8)) : Option (Bool) :=
  (types_All_s3 v1 v2 v4 v3.Locals).bind fun v6=>(cond v6 ((types_All_s3 v1 v2 v5 v3.Stack).bind fun v7=>some v7) (some false)).bind fun v8=>some v8
theorem types_Goes_s2_ok (v1 : List ApiClass) (v2 : List (List UInt8 × Int)) (v3 : ApiMap) (v4 : List (List UInt8)) (v5 : List (List UInt8)) {r : Bool} (h : types_Goes_s2 v1 v2 v3 v4 v5 = some r) : PureC Tryz.prog 150 [.ipt 2 [[.isl 6 (List.map rApiClass v1),.imp (List.map (rKV (fun x=>iA x)) v2)]] 0 0,.agg (rApiMap v3),.isl 1 (List.map rStr v4),.isl 1 (List.map rStr v5)] (bA r):=by
 refine pure_fn Tryz.func150 j0 (by kernel_rfl) j0 j0 ?_
 unfold types_Goes_s2 at h
 refine rg j0<|u<|bx 0 3 j0 j0 j0 j0<|u<|asg j0<|r_nil ?_
 obtain ⟨v6,q1,h⟩:=bs h
 obtain ⟨v8,q4,h⟩:=bs h
 refine rg j0<|u<|mv j0<|u<|mv j0<|u<|fa ti78 j0 j0 j0<|u<|ld ti25 j0 j0<|u<|pc (types_All_s3_ok v1 v2 v4 v3.Locals q1) j0 j0 j0<|u<|mv j0<|r_and (x:=v8) (j:=5) 5 j0 j0 j0 j0 j0 gpn (fun hb2=>by replace q4:=bT hb2 q4; obtain ⟨v7,q3,q4⟩:=bs q4; obtain rfl:=sm q4; exact g j0 hb2<|mv j0<|g j0 hb2<|mv j0<|g j0 hb2<|fa ti78 j0 j0 j0<|g j0 hb2<|ld ti25 j0 j0<|g j0 hb2<|pc (types_All_s3_ok v1 v2 v5 v3.Stack q3) j0 j0 j0<|r_nil (eg [15,16,17,18,19] 5 j0 j0 j0 j0)) (fun hb=>(sm (bF hb q4)).symm)<|u<|asg j0<|r_nil ?_
 refine sw_ret ?_
 obtain rfl:=sm h
 exact ⟨_,j0,[],ci j0,j0,j5,j0,j1⟩
def verify_checker_goes (v1 : List ApiClass) (v2 : List (List UInt8 × Int)) (v3 : List UInt8) (v4 : ApiMethod) (v5 : List (List UInt8)) (v6 : List (List UInt8)) (v7 : Bool) (v8 : Int) : Option (Bool) :=
  (verify_checker_find v1 v2 v3 v4 v5 v6 v7 v8).bind fun v9=>optE v9 (some (v7 || (!false))) (fun v10=>(types_Goes_s2 v1 v2 v10 v5 v6).bind fun v11=>some (v7 || (!v11)))
theorem verify_checker_goes_ok (v1 : List ApiClass) (v2 : List (List UInt8 × Int)) (v3 : List UInt8) (v4 : ApiMethod) (v5 : List (List UInt8)) (v6 : List (List UInt8)) (v7 : Bool) (v8 : Int) {r : Bool} (h : verify_checker_goes v1 v2 v3 v4 v5 v6 v7 v8 = some r) : SC Tryz.prog 88 [.mpt 0 0 0,iA v8,.msl 2 0 (List.length v6)] [.one 15 (vK v1 v2 v3 v4 (.msl 1 0 (List.length v5)) (.msl 2 0 (List.length v6)) (bA v7)),.many 1 (List.map rStr v5),.many 1 (List.map rStr v6)] (.tup []) [.one 15 (vK v1 v2 v3 v4 (.msl 1 0 (List.length v5)) (.msl 2 0 (List.length v6)) (bA r)),.many 1 (List.map rStr v5),.many 1 (List.map rStr v6)]:=by
 refine ⟨⟨j5,sbOk (sz:=1) (fun _=>j0),sbOk (sz:=1) (fun _=>j0),j5⟩,scall_fn Tryz.func88 j0 (by kernel_rfl) j0 ?_⟩
 unfold verify_checker_goes at h
 obtain ⟨v9,q1,h⟩:=bs h
 refine rg j0<|u<|mv j0<|u<|mv j0<|u<|sc [0,1,2] (verify_checker_find_ok v1 v2 v3 v4 v5 v6 v7 v8 q1) j0 j0 j0 j0 ⟨(.mpt j0),(rnI j0),j5⟩ ⟨⟨_,j0,(rr12 j0 ⟨(.msl j0),(.msl j0),(rnI j0),j5⟩)⟩,⟨j0,mkI (fun _=>j0)⟩,⟨j0,mkI (fun _=>j0)⟩,j5⟩<|r_ve rn_opt<|r_can (env0:=[(0,.mpt 0 0 0),(2,.msl 2 0 (List.length v6)),(9,optP 3 rApiMap v9)]) (st0:=[some (15,[(vK v1 v2 v3 v4 (.msl 1 0 (List.length v5)) (.msl 2 0 (List.length v6)) (bA v7))]),some (1,List.map rStr v5),some (1,List.map rStr v6)]) ⟨[.old 0,.old 1,.old 2],cv j0 (.mpt j0)<|cv j0 (.msl j0)<|cv j0 (ci (immP (fun _=>j0)))<|cn,j0,⟨⟨_,j0,rsOne (cc12 j0 (by exact ⟨.msl j0,.msl j0,ci j0,j5⟩))⟩,⟨_,j0,rsMap (fun _=>j0)⟩,⟨_,j0,rsMap (fun _=>j0)⟩,j5⟩,j0,j1⟩<|u<|asg j0<|r_nil ?_
 rcases v9 with _ | v10
 ·
  replace h:=oeN h
  refine rdL [] [some (15,[(vK v1 v2 v3 v4 (.msl 1 0 (List.length v5)) (.msl 2 0 (List.length v6)) (bA (v7 || (!false))))]),some (1,List.map rStr v5),some (1,List.map rStr v6)] [18] [17,16,15,14,13,12,11,10,9,8,7,6,5,4,3,2,1,0] [(27,bA false),(26,.lit undef),(25,.lit undef),(24,.lit undef),(23,.lit undef),(22,.lit undef),(21,.lit undef),(20,.lit undef),(19,.lit undef),(18,.lit undef),(17,.lit undef),(16,.lit undef),(15,.lit undef),(14,.lit undef),(13,bA false),(12,bA false),(11,.lit (.pointer none)),(10,.mpt 0 0 0)] 1 (by kernel_rfl) (by kernel_rfl) j0 (by kernel_rfl) (dtS ⟨(fun _=>pa j0 j0 j0 j0 (pk (b:=false) j0 j0<|j4)),(fun _=>pas (b:=false) j0 j0 j0 j0 j0 j0),(fun _=>pas (b:=false) j0 j0 j0 j0 j0 j0),(fun _=>pas (b:=false) j0 j0 j0 j0 j0 j0),(fun _=>pas (b:=false) j0 j0 j0 j0 j0 j0),(fun _=>pas (b:=false) j0 j0 j0 j0 j0 j0),(fun _=>pas (b:=false) j0 j0 j0 j0 j0 j0),(fun _=>pas (b:=false) j0 j0 j0 j0 j0 j0),(fun _=>pas (b:=false) j0 j0 j0 j0 j0 j0),(fun _=>pas (b:=false) j0 j0 j0 j0 j0 j0),(fun _=>pas (b:=false) j0 j0 j0 j0 j0 j0),(fun _=>pas (b:=false) j0 j0 j0 j0 j0 j0),(fun _=>pas (b:=false) j0 j0 j0 j0 j0 j0),(fun _=>pas (b:=false) j0 j0 j0 j0 j0 j0),(fun _=>pa j0 j0 j0 j0 (mv j0<|j4)),(fun _=>pa j0 j0 j0 j0 (nep ti169 j0 j0 j0 j0 j0 j0<|j4)),(fun _=>pa j0 j0 j0 j0 (mv j0<|j4)),(fun _=>pa j0 j0 j0 j0 (mv j0<|j4)),j5⟩ (by kernel_rfl) j0 ⟨(fun _ _=>⟨_,j0,j0,sc [0,1,2] (args:=[.mpt 0 0 0,bA false]) (verify_checker_need_ok v1 v2 v3 v4 v5 v6 v7 false j0) j0 j0 j0 j0 ⟨(.mpt j0),(rnI j0),j5⟩ ⟨⟨_,j0,(rr12 j0 ⟨(.msl j0),(.msl j0),(rnI j0),j5⟩)⟩,⟨j0,mkI (fun _=>j0)⟩,⟨j0,mkI (fun _=>j0)⟩,j5⟩<|⟨(.tup []),[],[(28,.tup [])],j0,j0,by kernel_rfl,j0,dt0 ⟨(fun h=>by cases h),(fun h=>by cases h),(fun _=>pas (b:=false) j0 j0 j0 j0 j0 j0),(fun _=>pas (b:=false) j0 j0 j0 j0 j0 j0),(fun _=>pas (b:=false) j0 j0 j0 j0 j0 j0),(fun _=>pas (b:=false) j0 j0 j0 j0 j0 j0),(fun _=>pas (b:=false) j0 j0 j0 j0 j0 j0),(fun _=>pas (b:=false) j0 j0 j0 j0 j0 j0),(fun _=>pas (b:=false) j0 j0 j0 j0 j0 j0),(fun _=>pas (b:=false) j0 j0 j0 j0 j0 j0),(fun _=>pas (b:=false) j0 j0 j0 j0 j0 j0),(fun _=>pas (b:=false) j0 j0 j0 j0 j0 j0),(fun _=>pas (b:=false) j0 j0 j0 j0 j0 j0),(fun _=>pas (b:=false) j0 j0 j0 j0 j0 j0),(fun _=>pa j0 j0 j0 j0 (mv j0<|j4)),(fun _=>pa j0 j0 j0 j0 (nep ti169 j0 j0 j0 j0 j0 j0<|j4)),(fun _=>pa j0 j0 j0 j0 (mv j0<|j4)),(fun h=>by cases h),j5⟩ (by kernel_rfl) j0 ⟨[.old 0,.old 1,.old 2],cn,j0,⟨⟨_,j0,rsOne (cc12 j0 (by exact ⟨.msl j0,.msl j0,ci j0,j5⟩))⟩,⟨_,j0,rsMap (fun _=>j0)⟩,⟨_,j0,rsMap (fun _=>j0)⟩,j5⟩,j0,j1⟩⟩⟩),j5⟩) ?_
  obtain rfl:=sm h
  exact ⟨_,j0,[.old 0,.old 1,.old 2],rsTup j5,j0,⟨⟨_,j0,rsOne (cc12 j0 (by exact ⟨.msl j0,.msl j0,ci j0,j5⟩))⟩,⟨_,j0,rsMap (fun _=>j0)⟩,⟨_,j0,rsMap (fun _=>j0)⟩,j5⟩,j0,j1⟩
 ·
  replace h:=oeS h
  obtain ⟨v11,q3,h⟩:=bs h
  refine rdL [] [some (15,[(vK v1 v2 v3 v4 (.msl 1 0 (List.length v5)) (.msl 2 0 (List.length v6)) (bA (v7 || (!v11))))]),some (1,List.map rStr v5),some (1,List.map rStr v6)] [18] [17,16,15,14,13,12,11,10,9,8,7,6,5,4,3,2,1,0] [(27,bA v11),(26,bA v11),(25,.msl 2 0 (List.length v6)),(24,.msl 1 0 (List.length v5)),(23,.mpt 0 0 12),(22,.mpt 0 0 0),(21,.mpt 0 0 0),(20,.agg (rApiMap v10)),(19,.ipt 3 [[iA v10.At,.isl 1 (List.map rStr v10.Locals),.isl 1 (List.map rStr v10.Stack)]] 0 0),(18,.ipt 3 [[iA v10.At,.isl 1 (List.map rStr v10.Locals),.isl 1 (List.map rStr v10.Stack)]] 0 0),(17,.ipt 2 [[.isl 6 (List.map rApiClass v1),.imp (List.map (rKV (fun x=>iA x)) v2)]] 0 0),(16,.mpt 0 0 0),(15,.mpt 0 0 0),(14,.mpt 0 0 0),(13,bA true),(12,bA true),(11,.ipt 3 [[iA v10.At,.isl 1 (List.map rStr v10.Locals),.isl 1 (List.map rStr v10.Stack)]] 0 0),(10,.mpt 0 0 0)] 1 (by kernel_rfl) (by kernel_rfl) j0 (by kernel_rfl) (dtS ⟨(fun _=>pa j0 j0 j0 j0 (pk (b:=true) j0 j0<|j4)),(fun _=>pag (b:=true) j0 j0 j0 j0 j0 j0 (pcs (types_Goes_s2_ok v1 v2 v10 v5 v6 q3) j0 j0 (.cons (si j0) (.cons (si j0) (.cons (sealM j0 (fun _=>j0)) (.cons (sealM j0 (fun _=>j0)) .nil)))) plainB<|j4)),(fun _=>pag (b:=true) j0 j0 j0 j0 j0 j0 (mv j0<|j4)),(fun _=>pag (b:=true) j0 j0 j0 j0 j0 j0 (ld ti25 j0 j0<|j4)),(fun _=>pag (b:=true) j0 j0 j0 j0 j0 j0 (fa ti131 j0 j0 j0<|j4)),(fun _=>pag (b:=true) j0 j0 j0 j0 j0 j0 (nc j0 j0<|j4)),(fun _=>pag (b:=true) j0 j0 j0 j0 j0 j0 (mv j0<|j4)),(fun _=>pag (b:=true) j0 j0 j0 j0 j0 j0 (ld ti78 j0 j0<|j4)),(fun _=>pag (b:=true) j0 j0 j0 j0 j0 j0 (nc j0 j0<|j4)),(fun _=>pag (b:=true) j0 j0 j0 j0 j0 j0 (mv j0<|j4)),(fun _=>pag (b:=true) j0 j0 j0 j0 j0 j0 (ld ti32 j0 j0<|j4)),(fun _=>pag (b:=true) j0 j0 j0 j0 j0 j0 (fa ti131 j0 j0 j0<|j4)),(fun _=>pag (b:=true) j0 j0 j0 j0 j0 j0 (nc j0 j0<|j4)),(fun _=>pag (b:=true) j0 j0 j0 j0 j0 j0 (mv j0<|j4)),(fun _=>pa j0 j0 j0 j0 (mv j0<|j4)),(fun _=>pa j0 j0 j0 j0 (nep ti169 j0 j0 j0 j0 j0 j0<|j4)),(fun _=>pa j0 j0 j0 j0 (mv j0<|j4)),(fun _=>pa j0 j0 j0 j0 (mv j0<|j4)),j5⟩ (by kernel_rfl) j0 ⟨(fun _ _=>⟨_,j0,j0,sc [0,1,2] (args:=[.mpt 0 0 0,bA v11]) (verify_checker_need_ok v1 v2 v3 v4 v5 v6 v7 v11 j0) j0 j0 j0 j0 ⟨(.mpt j0),(rnI j0),j5⟩ ⟨⟨_,j0,(rr12 j0 ⟨(.msl j0),(.msl j0),(rnI j0),j5⟩)⟩,⟨j0,mkI (fun _=>j0)⟩,⟨j0,mkI (fun _=>j0)⟩,j5⟩<|⟨(.tup []),[],[(28,.tup [])],j0,j0,by kernel_rfl,j0,dt0 ⟨(fun h=>by cases h),(fun h=>by cases h),(fun _=>pag (b:=true) j0 j0 j0 j0 j0 j0 (mv j0<|j4)),(fun _=>pag (b:=true) j0 j0 j0 j0 j0 j0 (ld ti25 j0 j0<|j4)),(fun _=>pag (b:=true) j0 j0 j0 j0 j0 j0 (fa ti131 j0 j0 j0<|j4)),(fun _=>pag (b:=true) j0 j0 j0 j0 j0 j0 (nc j0 j0<|j4)),(fun _=>pag (b:=true) j0 j0 j0 j0 j0 j0 (mv j0<|j4)),(fun _=>pag (b:=true) j0 j0 j0 j0 j0 j0 (ld ti78 j0 j0<|j4)),(fun _=>pag (b:=true) j0 j0 j0 j0 j0 j0 (nc j0 j0<|j4)),(fun _=>pag (b:=true) j0 j0 j0 j0 j0 j0 (mv j0<|j4)),(fun _=>pag (b:=true) j0 j0 j0 j0 j0 j0 (ld ti32 j0 j0<|j4)),(fun _=>pag (b:=true) j0 j0 j0 j0 j0 j0 (fa ti131 j0 j0 j0<|j4)),(fun _=>pag (b:=true) j0 j0 j0 j0 j0 j0 (nc j0 j0<|j4)),(fun _=>pag (b:=true) j0 j0 j0 j0 j0 j0 (mv j0<|j4)),(fun _=>pa j0 j0 j0 j0 (mv j0<|j4)),(fun _=>pa j0 j0 j0 j0 (nep ti169 j0 j0 j0 j0 j0 j0<|j4)),(fun _=>pa j0 j0 j0 j0 (mv j0<|j4)),(fun h=>by cases h),j5⟩ (by kernel_rfl) j0 ⟨[.old 0,.old 1,.old 2],cn,j0,⟨⟨_,j0,rsOne (cc12 j0 (by exact ⟨.msl j0,.msl j0,ci j0,j5⟩))⟩,⟨_,j0,rsMap (fun _=>j0)⟩,⟨_,j0,rsMap (fun _=>j0)⟩,j5⟩,j0,j1⟩⟩⟩),j5⟩) ?_
  obtain rfl:=sm h
  exact ⟨_,j0,[.old 0,.old 1,.old 2],rsTup j5,j0,⟨⟨_,j0,rsOne (cc12 j0 (by exact ⟨.msl j0,.msl j0,ci j0,j5⟩))⟩,⟨_,j0,rsMap (fun _=>j0)⟩,⟨_,j0,rsMap (fun _=>j0)⟩,j5⟩,j0,j1⟩
def cloneW (v1 : List (List UInt8)) : Option (List (List UInt8)):=appP 16 ([] : List (List UInt8)) v1
theorem cloneW_ok (v1 : List (List UInt8)) {r : List (List UInt8)} (h : cloneW v1 = some r) : SC Tryz.prog 138 [.isl 1 (List.map rStr v1)] [] (.msl 0 0 (List.length r)) [.many 1 (List.map rStr r)]:=by
 refine ⟨⟨sbOk (sz:=1) (fun _=>j0),j5⟩,scall_fn Tryz.func138 j0 (by kernel_rfl) j0 ?_⟩
 unfold cloneW at h
 refine rg j0<|u<|asg j0<|r_nil ?_
 refine sw_seq ?_
 refine rg j0<|u<|mv j0<|r_eqi ti25 j0 j0 j0<|And.intro ?_ ?_
 · intro hl
   refine r_nil ?_
   subst hl
   obtain rfl : [] = r:=by simpa [appP] using h
   refine sw_cond j0 (fun _=>?_) (fun hx=>by cases hx)
   refine rg j0<|u<|asg j0<|r_nil ?_
   refine sw_ret ?_
   exact ⟨_,j0,[.fresh 1],.nilown j0,j0,⟨j4,j5⟩,j0,j1⟩
 · refine r_nil ?_
   refine sw_cond j0 (fun hx=>by cases hx) (fun _=>?_)
   refine sw_skip ?_
   refine rg j0<|u<|bl 0 ti25 j0 ti9 j0 (by decide) (by decide) j0 j0 j0<|u<|mv j0<|u<|apM (l:=([] : List (List UInt8))) (f:=rStr) 1 ti25 j0 ti9 j0 j0 (by decide) ti25 j0 j0 j0 j0 roI (fun _=>j0) j0 h<|u<|asg j0<|r_nil ?_
   refine sw_ret ?_
   exact ⟨_,j0,[.old 1],.msl j0,j0,⟨⟨_,j0,rsMap (fun _=>j0)⟩,j5⟩,j0,j1⟩
def verify_checker_enter_j1 (v10 : (Option ApiMap)) (v12 : Bool) : Option ((List (List UInt8)) × (List (List UInt8)) × Bool) :=
  optE v10 (none) (fun v13=>(cloneW v13.Locals).bind fun v14=>(cloneW v13.Stack).bind fun v15=>some (v14,v15,v12))
def verify_checker_enter (v1 : List ApiClass) (v2 : List (List UInt8 × Int)) (v3 : List UInt8) (v4 : ApiMethod) (v5 : List (List UInt8)) (v6 : List (List UInt8)) (v7 : Bool) (v8 : Int) (v9 : Bool) : Option ((List (List UInt8)) × (List (List UInt8)) × Bool) :=
  (verify_checker_find v1 v2 v3 v4 v5 v6 v7 v8).bind fun v10=>cond (Option.isNone v10) (some (v5,v6,(v7 || (!v9)))) (cond v9 ((verify_checker_goes v1 v2 v3 v4 v5 v6 v7 v8).bind fun v11=>verify_checker_enter_j1 v10 v11) (verify_checker_enter_j1 v10 v7))
theorem verify_checker_enter_ok (v1 : List ApiClass) (v2 : List (List UInt8 × Int)) (v3 : List UInt8) (v4 : ApiMethod) (v5 : List (List UInt8)) (v6 : List (List UInt8)) (v7 : Bool) (v8 : Int) (v9 : Bool) {r : (List (List UInt8)) × (List (List UInt8)) × Bool} (h : verify_checker_enter v1 v2 v3 v4 v5 v6 v7 v8 v9 = some r) : SC Tryz.prog 84 [.mpt 0 0 0,iA v8,bA v9] [.one 15 (vK v1 v2 v3 v4 (.msl 1 0 (List.length v5)) (.msl 2 0 (List.length v6)) (bA v7)),.many 1 (List.map rStr v5),.many 1 (List.map rStr v6)] (.tup []) [.one 15 (vK v1 v2 v3 v4 (.msl 3 0 (List.length r.1)) (.msl 4 0 (List.length r.2.1)) (bA r.2.2)),.no,.no,.many 1 (List.map rStr r.1),.many 1 (List.map rStr r.2.1)]:=by
 refine ⟨⟨j5,j5,j5,sbOk (sz:=1) (fun _=>j0),sbOk (sz:=1) (fun _=>j0),j5⟩,scall_fn Tryz.func84 j0 (by kernel_rfl) j0 ?_⟩
 unfold verify_checker_enter at h
 obtain ⟨v10,q1,h⟩:=bs h
 refine rg j0<|u<|mv j0<|u<|mv j0<|u<|sc [0,1,2] (verify_checker_find_ok v1 v2 v3 v4 v5 v6 v7 v8 q1) j0 j0 j0 j0 ⟨(.mpt j0),(rnI j0),j5⟩ ⟨⟨_,j0,(rr12 j0 ⟨(.msl j0),(.msl j0),(rnI j0),j5⟩)⟩,⟨j0,mkI (fun _=>j0)⟩,⟨j0,mkI (fun _=>j0)⟩,j5⟩<|r_ve rn_opt<|r_can (env0:=[(0,.mpt 0 0 0),(1,iA v8),(2,bA v9),(9,optP 3 rApiMap v10)]) (st0:=[some (15,[(vK v1 v2 v3 v4 (.msl 1 0 (List.length v5)) (.msl 2 0 (List.length v6)) (bA v7))]),some (1,List.map rStr v5),some (1,List.map rStr v6)]) ⟨[.old 0,.old 1,.old 2],cv j0 (.mpt j0)<|ce j0 j0<|ce j0 j0<|cv j0 (ci (immP (fun _=>j0)))<|cn,j0,⟨⟨_,j0,rsOne (cc12 j0 (by exact ⟨.msl j0,.msl j0,ci j0,j5⟩))⟩,⟨_,j0,rsMap (fun _=>j0)⟩,⟨_,j0,rsMap (fun _=>j0)⟩,j5⟩,j0,j1⟩<|u<|asg j0<|r_nil ?_
 refine sw_seq ?_
 refine rg j0<|u<|mv j0<|u<|eqpO ti169 j0 j0 j0<|r_nil ?_
 refine sw_cond j0 (fun hc2=>?_) (fun hc2=>?_)
 ·
  replace h:=bT hc2 h
  refine rg j0<|u<|mv j0<|u<|mv j0<|u<|sc [0,1,2] (verify_checker_need_ok v1 v2 v3 v4 v5 v6 v7 v9 j0) j0 j0 j0 j0 ⟨(.mpt j0),(rnI j0),j5⟩ ⟨⟨_,j0,(rr12 j0 ⟨(.msl j0),(.msl j0),(rnI j0),j5⟩)⟩,⟨j0,mkI (fun _=>j0)⟩,⟨j0,mkI (fun _=>j0)⟩,j5⟩<|r_can (env0:=[]) (st0:=[some (15,[(vK v1 v2 v3 v4 (.msl 1 0 (List.length v5)) (.msl 2 0 (List.length v6)) (bA (v7 || (!v9))))]),some (1,List.map rStr v5),some (1,List.map rStr v6)]) ⟨[.old 0,.old 1,.old 2],cn,j0,⟨⟨_,j0,rsOne (cc12 j0 (by exact ⟨.msl j0,.msl j0,ci j0,j5⟩))⟩,⟨_,j0,rsMap (fun _=>j0)⟩,⟨_,j0,rsMap (fun _=>j0)⟩,j5⟩,j0,j1⟩<|r_nil ?_
  refine sw_ret ?_
  obtain rfl:=sm h
  exact ⟨_,j0,[.old 0,.dead,.dead,.old 1,.old 2],rsTup j5,j0,⟨⟨_,j0,rsOne (cc12 j0 (by exact ⟨.msl j0,.msl j0,ci j0,j5⟩))⟩,⟨_,j0,rsMap (fun _=>j0)⟩,⟨_,j0,rsMap (fun _=>j0)⟩,j5⟩,j0,j1⟩
 ·
  replace h:=bF hc2 h
  refine sw_skip ?_
  refine sw_meet (X:=Bool) (fun z=>[(0,.mpt 0 0 0),(6,optP 3 rApiMap v10)]) (fun z=>[some (15,[(vK v1 v2 v3 v4 (.msl 1 0 (List.length v5)) (.msl 2 0 (List.length v6)) (bA z))]),some (1,List.map rStr v5),some (1,List.map rStr v6)]) (fun z=>verify_checker_enter_j1 v10 z = some r) ?_ ?_
  ·
   refine rg j0<|u<|mv j0<|r_nil ?_
   refine sw_cond j0 (fun hc3=>?_) (fun hc3=>?_)
   ·
    replace h:=bT hc3 h
    obtain ⟨v11,q4,h⟩:=bs h
    exact rl j0<|u<|mv j0<|u<|mv j0<|u<|mv j0<|u<|nc j0 j0<|u<|fa ti131 j0 j0 j0<|u<|ld ti25 j0 j0<|u<|sc [0,1,2] (verify_checker_goes_ok v1 v2 v3 v4 v5 v6 v7 v8 q4) j0 j0 j0 j0 ⟨(.mpt j0),(rnI j0),(.msl j0),j5⟩ ⟨⟨_,j0,(rr12 j0 ⟨(.msl j0),(.msl j0),(rnI j0),j5⟩)⟩,⟨j0,mkI (fun _=>j0)⟩,⟨j0,mkI (fun _=>j0)⟩,j5⟩<|r_can (env0:=[(0,.mpt 0 0 0),(6,optP 3 rApiMap v10)]) (st0:=[some (15,[(vK v1 v2 v3 v4 (.msl 1 0 (List.length v5)) (.msl 2 0 (List.length v6)) (bA v11))]),some (1,List.map rStr v5),some (1,List.map rStr v6)]) ⟨[.old 0,.old 1,.old 2],cv j0 (.mpt j0)<|cv j0 (ci (immP (fun _=>j0)))<|cn,j0,⟨⟨_,j0,rsOne (cc12 j0 (by exact ⟨.msl j0,.msl j0,ci j0,j5⟩))⟩,⟨_,j0,rsMap (fun _=>j0)⟩,⟨_,j0,rsMap (fun _=>j0)⟩,j5⟩,j0,j1⟩<|r_nil (⟨v11,h,[.old 0,.old 1,.old 2],cv j0 (.mpt j0)<|cv j0 (ci (immP (fun _=>j0)))<|cn,j0,⟨⟨_,j0,rsOne (cc12 j0 (by exact ⟨.msl j0,.msl j0,ci j0,j5⟩))⟩,⟨_,j0,rsMap (fun _=>j0)⟩,⟨_,j0,rsMap (fun _=>j0)⟩,j5⟩,j0,j1⟩)
   ·
    replace h:=bF hc3 h
    refine sw_skip ?_
    exact ⟨v7,h,[.old 0,.old 1,.old 2],cv j0 (.mpt j0)<|cv j0 (ci (immP (fun _=>j0)))<|cn,j0,⟨⟨_,j0,rsOne (cc12 j0 (by exact ⟨.msl j0,.msl j0,ci j0,j5⟩))⟩,⟨_,j0,rsMap (fun _=>j0)⟩,⟨_,j0,rsMap (fun _=>j0)⟩,j5⟩,j0,j1⟩
  ·
   rintro v12 h
   replace h : verify_checker_enter_j1 v10 v12 = some r:=h
   unfold verify_checker_enter_j1 at h
   rcases v10 with _ | v13
   ·
    replace h:=oeN h
    cases h
   ·
    replace h:=oeS h
    obtain ⟨v14,q5,h⟩:=bs h
    obtain ⟨v15,q6,h⟩:=bs h
    refine rdL [] [some (15,[(vK v1 v2 v3 v4 (.msl 3 0 (List.length v14)) (.msl 4 0 (List.length v15)) (bA v12))]),some (1,List.map rStr v5),some (1,List.map rStr v6),some (1,List.map rStr v14),some (1,List.map rStr v15)] [6,11,14,17] [10,9,8,7,5,4,3,2,1,0] [(33,.isl 1 (List.map rStr v13.Stack)),(32,.ipt 3 [[iA v13.At,.isl 1 (List.map rStr v13.Locals),.isl 1 (List.map rStr v13.Stack)]] 0 2),(31,.ipt 3 [[iA v13.At,.isl 1 (List.map rStr v13.Locals),.isl 1 (List.map rStr v13.Stack)]] 0 0),(30,.ipt 3 [[iA v13.At,.isl 1 (List.map rStr v13.Locals),.isl 1 (List.map rStr v13.Stack)]] 0 0),(28,.isl 1 (List.map rStr v13.Locals)),(27,.ipt 3 [[iA v13.At,.isl 1 (List.map rStr v13.Locals),.isl 1 (List.map rStr v13.Stack)]] 0 1),(26,.ipt 3 [[iA v13.At,.isl 1 (List.map rStr v13.Locals),.isl 1 (List.map rStr v13.Stack)]] 0 0),(25,.ipt 3 [[iA v13.At,.isl 1 (List.map rStr v13.Locals),.isl 1 (List.map rStr v13.Stack)]] 0 0),(24,.mpt 0 0 0),(23,.mpt 0 0 0)] 4 (by kernel_rfl) (by kernel_rfl) j0 (by kernel_rfl) (dtS ⟨(fun _=>pa j0 j0 j0 j0 (ld ti25 j0 j0<|j4)),(fun _=>pa j0 j0 j0 j0 (fa ti78 j0 j0 j0<|j4)),(fun _=>pa j0 j0 j0 j0 (nc j0 j0<|j4)),(fun _=>pa j0 j0 j0 j0 (mv j0<|j4)),(fun _=>pa j0 j0 j0 j0 (ld ti25 j0 j0<|j4)),(fun _=>pa j0 j0 j0 j0 (fa ti78 j0 j0 j0<|j4)),(fun _=>pa j0 j0 j0 j0 (nc j0 j0<|j4)),(fun _=>pa j0 j0 j0 j0 (mv j0<|j4)),(fun _=>pa j0 j0 j0 j0 (mv j0<|j4)),(fun _=>pa j0 j0 j0 j0 (mv j0<|j4)),j5⟩ (by kernel_rfl) j0 ⟨(fun _ _=>⟨_,j0,j0,sc [] (cloneW_ok v13.Locals q5) j0 j0 j0 j0 ⟨(rnI j0),j5⟩ j5<|⟨(.msl 3 0 (List.length v14)),[],[(29,.msl 3 0 (List.length v14))],j0,j0,by kernel_rfl,j0,dtS ⟨(fun _=>pa j0 j0 j0 j0 (ld ti25 j0 j0<|j4)),(fun _=>pa j0 j0 j0 j0 (fa ti78 j0 j0 j0<|j4)),(fun _=>pa j0 j0 j0 j0 (nc j0 j0<|j4)),(fun _=>pa j0 j0 j0 j0 (mv j0<|j4)),(fun h=>by cases h),(fun _=>pa j0 j0 j0 j0 (fa ti78 j0 j0 j0<|j4)),(fun _=>pa j0 j0 j0 j0 (nc j0 j0<|j4)),(fun _=>pa j0 j0 j0 j0 (mv j0<|j4)),(fun _=>pa j0 j0 j0 j0 (mv j0<|j4)),(fun _=>pa j0 j0 j0 j0 (mv j0<|j4)),j5⟩ (by kernel_rfl) j0 ⟨(fun h=>by cases h),(fun _ _=>⟨_,j0,j0,sc [] (cloneW_ok v13.Stack q6) j0 j0 j0 j0 ⟨(rnI j0),j5⟩ j5<|⟨(.msl 4 0 (List.length v15)),[13,12],[(36,.mpt 0 0 12),(35,.mpt 0 0 0),(34,.msl 4 0 (List.length v15))],j0,j0,by kernel_rfl,j0,dtS ⟨(fun _=>pa j0 j0 j0 j0 (fa ti131 j0 j0 j0<|j4)),(fun _=>pa j0 j0 j0 j0 (nc j0 j0<|j4)),(fun h=>by cases h),(fun _=>pa j0 j0 j0 j0 (fa ti78 j0 j0 j0<|j4)),(fun _=>pa j0 j0 j0 j0 (nc j0 j0<|j4)),(fun _=>pa j0 j0 j0 j0 (mv j0<|j4)),(fun h=>by cases h),(fun _=>pa j0 j0 j0 j0 (fa ti78 j0 j0 j0<|j4)),(fun _=>pa j0 j0 j0 j0 (nc j0 j0<|j4)),(fun _=>pa j0 j0 j0 j0 (mv j0<|j4)),(fun _=>pa j0 j0 j0 j0 (mv j0<|j4)),(fun _=>pa j0 j0 j0 j0 (mv j0<|j4)),j5⟩ (by kernel_rfl) j0 ⟨(fun h=>by cases h),(fun h=>by cases h),(fun _ _=>⟨_,j0,j0,sto ti25 j0 j0 j0<|⟨.any,[16,15],[(38,.mpt 0 0 13),(37,.mpt 0 0 0)],j0,j0,by kernel_rfl,j5,dtS ⟨(fun _=>pa j0 j0 j0 j0 (fa ti131 j0 j0 j0<|j4)),(fun _=>pa j0 j0 j0 j0 (nc j0 j0<|j4)),(fun h=>by cases h),(fun _=>pa j0 j0 j0 j0 (nc j0 j0<|j4)),(fun h=>by cases h),(fun _=>pa j0 j0 j0 j0 (fa ti78 j0 j0 j0<|j4)),(fun _=>pa j0 j0 j0 j0 (nc j0 j0<|j4)),(fun _=>pa j0 j0 j0 j0 (mv j0<|j4)),(fun h=>by cases h),(fun h=>by cases h),(fun h=>by cases h),(fun h=>by cases h),(fun _=>pa j0 j0 j0 j0 (mv j0<|j4)),(fun h=>by cases h),j5⟩ (by kernel_rfl) j0 ⟨(fun h=>by cases h),(fun h=>by cases h),(fun h=>by cases h),(fun _ _=>⟨_,j0,j0,sto ti25 j0 j0 j0<|⟨.any,[],[],j0,j0,by kernel_rfl,j5,dt0 ⟨(fun h=>by cases h),(fun _=>pa j0 j0 j0 j0 (nc j0 j0<|j4)),(fun h=>by cases h),(fun h=>by cases h),(fun h=>by cases h),(fun h=>by cases h),(fun h=>by cases h),(fun h=>by cases h),(fun h=>by cases h),(fun h=>by cases h),(fun h=>by cases h),(fun h=>by cases h),(fun h=>by cases h),(fun h=>by cases h),j5⟩ (by kernel_rfl) j0 ⟨[.old 0,.old 1,.old 2,.old 3,.old 4],cn,j0,⟨⟨_,j0,rsOne (cc12 j0 (by exact ⟨.msl j0,.msl j0,ci j0,j5⟩))⟩,⟨_,j0,rsMap (fun _=>j0)⟩,⟨_,j0,rsMap (fun _=>j0)⟩,⟨_,j0,rsMap (fun _=>j0)⟩,⟨_,j0,rsMap (fun _=>j0)⟩,j5⟩,j0,j1⟩⟩⟩),j5⟩⟩⟩),(fun _ h=>by cases h),j5⟩⟩⟩),(fun _ h=>by cases h),(fun _ h=>by cases h),j5⟩⟩⟩),(fun _ h=>by cases h),(fun _ h=>by cases h),(fun _ h=>by cases h),j5⟩) ?_
    obtain rfl:=sm h
    exact ⟨_,j0,[.old 0,.dead,.dead,.old 3,.old 4],rsTup j5,j0,⟨⟨_,j0,rsOne (cc12 j0 (by exact ⟨.msl j0,.msl j0,ci j0,j5⟩))⟩,⟨_,j0,rsMap (fun _=>j0)⟩,⟨_,j0,rsMap (fun _=>j0)⟩,j5⟩,j0,j1⟩
def verify_checker_goes_s2 (v1 : List ApiClass) (v2 : List (List UInt8 × Int)) (v3 : List UInt8) (v4 : ApiMethod) (v5 : List (List UInt8)) (v6 : List (List UInt8)) (v7 : Bool) (v8 : Int) (v9 : List (List UInt8)) : Option (Bool) :=
  (verify_checker_find v1 v2 v3 v4 v5 v6 v7 v8).bind fun v10=>optE v10 (some (v7 || (!false))) (fun v11=>(types_Goes_s2 v1 v2 v11 v5 v9).bind fun v12=>some (v7 || (!v12)))
theorem verify_checker_goes_s2_ok (v1 : List ApiClass) (v2 : List (List UInt8 × Int)) (v3 : List UInt8) (v4 : ApiMethod) (v5 : List (List UInt8)) (v6 : List (List UInt8)) (v7 : Bool) (v8 : Int) (v9 : List (List UInt8)) {r : Bool} (h : verify_checker_goes_s2 v1 v2 v3 v4 v5 v6 v7 v8 v9 = some r) : SC Tryz.prog 88 [.mpt 0 0 0,iA v8,.msl 3 0 (List.length v9)] [.one 15 (vK v1 v2 v3 v4 (.msl 1 0 (List.length v5)) (.msl 2 0 (List.length v6)) (bA v7)),.many 1 (List.map rStr v5),.many 1 (List.map rStr v6),.many 1 (List.map rStr v9)] (.tup []) [.one 15 (vK v1 v2 v3 v4 (.msl 1 0 (List.length v5)) (.msl 2 0 (List.length v6)) (bA r)),.many 1 (List.map rStr v5),.many 1 (List.map rStr v6),.many 1 (List.map rStr v9)]:=by
 refine ⟨⟨j5,sbOk (sz:=1) (fun _=>j0),sbOk (sz:=1) (fun _=>j0),sbOk (sz:=1) (fun _=>j0),j5⟩,scall_fn Tryz.func88 j0 (by kernel_rfl) j0 ?_⟩
 unfold verify_checker_goes_s2 at h
 obtain ⟨v10,q1,h⟩:=bs h
 refine rg j0<|u<|mv j0<|u<|mv j0<|u<|sc [0,1,2] (verify_checker_find_ok v1 v2 v3 v4 v5 v6 v7 v8 q1) j0 j0 j0 j0 ⟨(.mpt j0),(rnI j0),j5⟩ ⟨⟨_,j0,(rr12 j0 ⟨(.msl j0),(.msl j0),(rnI j0),j5⟩)⟩,⟨j0,mkI (fun _=>j0)⟩,⟨j0,mkI (fun _=>j0)⟩,j5⟩<|r_ve rn_opt<|r_can (env0:=[(0,.mpt 0 0 0),(2,.msl 3 0 (List.length v9)),(9,optP 3 rApiMap v10)]) (st0:=[some (15,[(vK v1 v2 v3 v4 (.msl 1 0 (List.length v5)) (.msl 2 0 (List.length v6)) (bA v7))]),some (1,List.map rStr v5),some (1,List.map rStr v6),some (1,List.map rStr v9)]) ⟨[.old 0,.old 1,.old 2,.old 3],cv j0 (.mpt j0)<|cv j0 (.msl j0)<|cv j0 (ci (immP (fun _=>j0)))<|cn,j0,⟨⟨_,j0,rsOne (cc12 j0 (by exact ⟨.msl j0,.msl j0,ci j0,j5⟩))⟩,⟨_,j0,rsMap (fun _=>j0)⟩,⟨_,j0,rsMap (fun _=>j0)⟩,⟨_,j0,rsMap (fun _=>j0)⟩,j5⟩,j0,j1⟩<|u<|asg j0<|r_nil ?_
 rcases v10 with _ | v11
 ·
  replace h:=oeN h
  refine rdL [] [some (15,[(vK v1 v2 v3 v4 (.msl 1 0 (List.length v5)) (.msl 2 0 (List.length v6)) (bA (v7 || (!false))))]),some (1,List.map rStr v5),some (1,List.map rStr v6),some (1,List.map rStr v9)] [18] [17,16,15,14,13,12,11,10,9,8,7,6,5,4,3,2,1,0] [(27,bA false),(26,.lit undef),(25,.lit undef),(24,.lit undef),(23,.lit undef),(22,.lit undef),(21,.lit undef),(20,.lit undef),(19,.lit undef),(18,.lit undef),(17,.lit undef),(16,.lit undef),(15,.lit undef),(14,.lit undef),(13,bA false),(12,bA false),(11,.lit (.pointer none)),(10,.mpt 0 0 0)] 1 (by kernel_rfl) (by kernel_rfl) j0 (by kernel_rfl) (dtS ⟨(fun _=>pa j0 j0 j0 j0 (pk (b:=false) j0 j0<|j4)),(fun _=>pas (b:=false) j0 j0 j0 j0 j0 j0),(fun _=>pas (b:=false) j0 j0 j0 j0 j0 j0),(fun _=>pas (b:=false) j0 j0 j0 j0 j0 j0),(fun _=>pas (b:=false) j0 j0 j0 j0 j0 j0),(fun _=>pas (b:=false) j0 j0 j0 j0 j0 j0),(fun _=>pas (b:=false) j0 j0 j0 j0 j0 j0),(fun _=>pas (b:=false) j0 j0 j0 j0 j0 j0),(fun _=>pas (b:=false) j0 j0 j0 j0 j0 j0),(fun _=>pas (b:=false) j0 j0 j0 j0 j0 j0),(fun _=>pas (b:=false) j0 j0 j0 j0 j0 j0),(fun _=>pas (b:=false) j0 j0 j0 j0 j0 j0),(fun _=>pas (b:=false) j0 j0 j0 j0 j0 j0),(fun _=>pas (b:=false) j0 j0 j0 j0 j0 j0),(fun _=>pa j0 j0 j0 j0 (mv j0<|j4)),(fun _=>pa j0 j0 j0 j0 (nep ti169 j0 j0 j0 j0 j0 j0<|j4)),(fun _=>pa j0 j0 j0 j0 (mv j0<|j4)),(fun _=>pa j0 j0 j0 j0 (mv j0<|j4)),j5⟩ (by kernel_rfl) j0 ⟨(fun _ _=>⟨_,j0,j0,sc [0,1,2] (args:=[.mpt 0 0 0,bA false]) (verify_checker_need_ok v1 v2 v3 v4 v5 v6 v7 false j0) j0 j0 j0 j0 ⟨(.mpt j0),(rnI j0),j5⟩ ⟨⟨_,j0,(rr12 j0 ⟨(.msl j0),(.msl j0),(rnI j0),j5⟩)⟩,⟨j0,mkI (fun _=>j0)⟩,⟨j0,mkI (fun _=>j0)⟩,j5⟩<|⟨(.tup []),[],[(28,.tup [])],j0,j0,by kernel_rfl,j0,dt0 ⟨(fun h=>by cases h),(fun h=>by cases h),(fun _=>pas (b:=false) j0 j0 j0 j0 j0 j0),(fun _=>pas (b:=false) j0 j0 j0 j0 j0 j0),(fun _=>pas (b:=false) j0 j0 j0 j0 j0 j0),(fun _=>pas (b:=false) j0 j0 j0 j0 j0 j0),(fun _=>pas (b:=false) j0 j0 j0 j0 j0 j0),(fun _=>pas (b:=false) j0 j0 j0 j0 j0 j0),(fun _=>pas (b:=false) j0 j0 j0 j0 j0 j0),(fun _=>pas (b:=false) j0 j0 j0 j0 j0 j0),(fun _=>pas (b:=false) j0 j0 j0 j0 j0 j0),(fun _=>pas (b:=false) j0 j0 j0 j0 j0 j0),(fun _=>pas (b:=false) j0 j0 j0 j0 j0 j0),(fun _=>pas (b:=false) j0 j0 j0 j0 j0 j0),(fun _=>pa j0 j0 j0 j0 (mv j0<|j4)),(fun _=>pa j0 j0 j0 j0 (nep ti169 j0 j0 j0 j0 j0 j0<|j4)),(fun _=>pa j0 j0 j0 j0 (mv j0<|j4)),(fun h=>by cases h),j5⟩ (by kernel_rfl) j0 ⟨[.old 0,.old 1,.old 2,.old 3],cn,j0,⟨⟨_,j0,rsOne (cc12 j0 (by exact ⟨.msl j0,.msl j0,ci j0,j5⟩))⟩,⟨_,j0,rsMap (fun _=>j0)⟩,⟨_,j0,rsMap (fun _=>j0)⟩,⟨_,j0,rsMap (fun _=>j0)⟩,j5⟩,j0,j1⟩⟩⟩),j5⟩) ?_
  obtain rfl:=sm h
  exact ⟨_,j0,[.old 0,.old 1,.old 2,.old 3],rsTup j5,j0,⟨⟨_,j0,rsOne (cc12 j0 (by exact ⟨.msl j0,.msl j0,ci j0,j5⟩))⟩,⟨_,j0,rsMap (fun _=>j0)⟩,⟨_,j0,rsMap (fun _=>j0)⟩,⟨_,j0,rsMap (fun _=>j0)⟩,j5⟩,j0,j1⟩
 ·
  replace h:=oeS h
  obtain ⟨v12,q3,h⟩:=bs h
  refine rdL [] [some (15,[(vK v1 v2 v3 v4 (.msl 1 0 (List.length v5)) (.msl 2 0 (List.length v6)) (bA (v7 || (!v12))))]),some (1,List.map rStr v5),some (1,List.map rStr v6),some (1,List.map rStr v9)] [18] [17,16,15,14,13,12,11,10,9,8,7,6,5,4,3,2,1,0] [(27,bA v12),(26,bA v12),(25,.msl 3 0 (List.length v9)),(24,.msl 1 0 (List.length v5)),(23,.mpt 0 0 12),(22,.mpt 0 0 0),(21,.mpt 0 0 0),(20,.agg (rApiMap v11)),(19,.ipt 3 [[iA v11.At,.isl 1 (List.map rStr v11.Locals),.isl 1 (List.map rStr v11.Stack)]] 0 0),(18,.ipt 3 [[iA v11.At,.isl 1 (List.map rStr v11.Locals),.isl 1 (List.map rStr v11.Stack)]] 0 0),(17,.ipt 2 [[.isl 6 (List.map rApiClass v1),.imp (List.map (rKV (fun x=>iA x)) v2)]] 0 0),(16,.mpt 0 0 0),(15,.mpt 0 0 0),(14,.mpt 0 0 0),(13,bA true),(12,bA true),(11,.ipt 3 [[iA v11.At,.isl 1 (List.map rStr v11.Locals),.isl 1 (List.map rStr v11.Stack)]] 0 0),(10,.mpt 0 0 0)] 1 (by kernel_rfl) (by kernel_rfl) j0 (by kernel_rfl) (dtS ⟨(fun _=>pa j0 j0 j0 j0 (pk (b:=true) j0 j0<|j4)),(fun _=>pag (b:=true) j0 j0 j0 j0 j0 j0 (pcs (types_Goes_s2_ok v1 v2 v11 v5 v9 q3) j0 j0 (.cons (si j0) (.cons (si j0) (.cons (sealM j0 (fun _=>j0)) (.cons (sealM j0 (fun _=>j0)) .nil)))) plainB<|j4)),(fun _=>pag (b:=true) j0 j0 j0 j0 j0 j0 (mv j0<|j4)),(fun _=>pag (b:=true) j0 j0 j0 j0 j0 j0 (ld ti25 j0 j0<|j4)),(fun _=>pag (b:=true) j0 j0 j0 j0 j0 j0 (fa ti131 j0 j0 j0<|j4)),(fun _=>pag (b:=true) j0 j0 j0 j0 j0 j0 (nc j0 j0<|j4)),(fun _=>pag (b:=true) j0 j0 j0 j0 j0 j0 (mv j0<|j4)),(fun _=>pag (b:=true) j0 j0 j0 j0 j0 j0 (ld ti78 j0 j0<|j4)),(fun _=>pag (b:=true) j0 j0 j0 j0 j0 j0 (nc j0 j0<|j4)),(fun _=>pag (b:=true) j0 j0 j0 j0 j0 j0 (mv j0<|j4)),(fun _=>pag (b:=true) j0 j0 j0 j0 j0 j0 (ld ti32 j0 j0<|j4)),(fun _=>pag (b:=true) j0 j0 j0 j0 j0 j0 (fa ti131 j0 j0 j0<|j4)),(fun _=>pag (b:=true) j0 j0 j0 j0 j0 j0 (nc j0 j0<|j4)),(fun _=>pag (b:=true) j0 j0 j0 j0 j0 j0 (mv j0<|j4)),(fun _=>pa j0 j0 j0 j0 (mv j0<|j4)),(fun _=>pa j0 j0 j0 j0 (nep ti169 j0 j0 j0 j0 j0 j0<|j4)),(fun _=>pa j0 j0 j0 j0 (mv j0<|j4)),(fun _=>pa j0 j0 j0 j0 (mv j0<|j4)),j5⟩ (by kernel_rfl) j0 ⟨(fun _ _=>⟨_,j0,j0,sc [0,1,2] (args:=[.mpt 0 0 0,bA v12]) (verify_checker_need_ok v1 v2 v3 v4 v5 v6 v7 v12 j0) j0 j0 j0 j0 ⟨(.mpt j0),(rnI j0),j5⟩ ⟨⟨_,j0,(rr12 j0 ⟨(.msl j0),(.msl j0),(rnI j0),j5⟩)⟩,⟨j0,mkI (fun _=>j0)⟩,⟨j0,mkI (fun _=>j0)⟩,j5⟩<|⟨(.tup []),[],[(28,.tup [])],j0,j0,by kernel_rfl,j0,dt0 ⟨(fun h=>by cases h),(fun h=>by cases h),(fun _=>pag (b:=true) j0 j0 j0 j0 j0 j0 (mv j0<|j4)),(fun _=>pag (b:=true) j0 j0 j0 j0 j0 j0 (ld ti25 j0 j0<|j4)),(fun _=>pag (b:=true) j0 j0 j0 j0 j0 j0 (fa ti131 j0 j0 j0<|j4)),(fun _=>pag (b:=true) j0 j0 j0 j0 j0 j0 (nc j0 j0<|j4)),(fun _=>pag (b:=true) j0 j0 j0 j0 j0 j0 (mv j0<|j4)),(fun _=>pag (b:=true) j0 j0 j0 j0 j0 j0 (ld ti78 j0 j0<|j4)),(fun _=>pag (b:=true) j0 j0 j0 j0 j0 j0 (nc j0 j0<|j4)),(fun _=>pag (b:=true) j0 j0 j0 j0 j0 j0 (mv j0<|j4)),(fun _=>pag (b:=true) j0 j0 j0 j0 j0 j0 (ld ti32 j0 j0<|j4)),(fun _=>pag (b:=true) j0 j0 j0 j0 j0 j0 (fa ti131 j0 j0 j0<|j4)),(fun _=>pag (b:=true) j0 j0 j0 j0 j0 j0 (nc j0 j0<|j4)),(fun _=>pag (b:=true) j0 j0 j0 j0 j0 j0 (mv j0<|j4)),(fun _=>pa j0 j0 j0 j0 (mv j0<|j4)),(fun _=>pa j0 j0 j0 j0 (nep ti169 j0 j0 j0 j0 j0 j0<|j4)),(fun _=>pa j0 j0 j0 j0 (mv j0<|j4)),(fun h=>by cases h),j5⟩ (by kernel_rfl) j0 ⟨[.old 0,.old 1,.old 2,.old 3],cn,j0,⟨⟨_,j0,rsOne (cc12 j0 (by exact ⟨.msl j0,.msl j0,ci j0,j5⟩))⟩,⟨_,j0,rsMap (fun _=>j0)⟩,⟨_,j0,rsMap (fun _=>j0)⟩,⟨_,j0,rsMap (fun _=>j0)⟩,j5⟩,j0,j1⟩⟩⟩),j5⟩) ?_
  obtain rfl:=sm h
  exact ⟨_,j0,[.old 0,.old 1,.old 2,.old 3],rsTup j5,j0,⟨⟨_,j0,rsOne (cc12 j0 (by exact ⟨.msl j0,.msl j0,ci j0,j5⟩))⟩,⟨_,j0,rsMap (fun _=>j0)⟩,⟨_,j0,rsMap (fun _=>j0)⟩,⟨_,j0,rsMap (fun _=>j0)⟩,j5⟩,j0,j1⟩
end
end Go.Proofs.YtjbdfkapnffjnaaGreat
namespace Go.Proofs.YtjbdfkapnffjnaaGreat
noncomputable section
set_option linter.unusedSimpArgs false
set_option linter.unusedVariables false
set_option maxRecDepth 100000
set_option maxHeartbeats 4000000
def verify_checker_traps_k6 (v23 : Bool) : Option (Bool) :=
  some v23
def verify_checker_traps_j4 (v17 : Int) (v22 : Bool) : Option (Sum (Bool × Int) (Sum (Bool) (Bool))) :=
  some (.inl (v22,(IntKind.i64.wrap (v17 + 1))))
def verify_checker_traps_j3 (v1 : List ApiClass) (v2 : List (List UInt8 × Int)) (v3 : List UInt8) (v4 : ApiMethod) (v5 : List (List UInt8)) (v6 : List (List UInt8)) (v8 : Int) (v16 : Bool) (v17 : Int) (v18 : ApiTrap) (v19 : List UInt8) : Option (Sum (Bool × Int) (Sum (Bool) (Bool))) :=
  (hier_Hier_Sub_s3 v1 v2 v19 [84,104,114,111,119,110]).bind fun v20=>cond ((decide (v18.From ≤ v8)) && (decide (v8 < v18.To))) ((verify_checker_goes_s2 v1 v2 v3 v4 v5 v6 (v16 || (!v20)) v18.At [v19]).bind fun v21=>verify_checker_traps_j4 v17 v21) (verify_checker_traps_j4 v17 (v16 || (!v20)))
def verify_checker_traps_l5 (v1 : List ApiClass) (v2 : List (List UInt8 × Int)) (v3 : List UInt8) (v4 : ApiMethod) (v5 : List (List UInt8)) (v6 : List (List UInt8)) (v8 : Int) (v16 : Bool) (v17 : Int) : Option (Sum (Bool × Int) (Sum (Bool) (Bool))) :=
  cond (decide (v17 < (List.length v4.Traps : Int))) ((idx v4.Traps v17).bind fun v18=>cond (v18.C == []) (verify_checker_traps_j3 v1 v2 v3 v4 v5 v6 v8 v16 v17 v18 [84,104,114,111,119,110]) (verify_checker_traps_j3 v1 v2 v3 v4 v5 v6 v8 v16 v17 v18 v18.C)) (some (.inr (.inl v16)))
def verify_checker_traps (v1 : List ApiClass) (v2 : List (List UInt8 × Int)) (v3 : List UInt8) (v4 : ApiMethod) (v5 : List (List UInt8)) (v6 : List (List UInt8)) (v7 : Bool) (v8 : Int) : Option (Bool) :=
  (loopP (fun z=>verify_checker_traps_l5 v1 v2 v3 v4 v5 v6 v8 z.1 z.2) (v7,0)).bind fun o=>leave o (fun b=>verify_checker_traps_k6 b) some
theorem verify_checker_traps_ok (v1 : List ApiClass) (v2 : List (List UInt8 × Int)) (v3 : List UInt8) (v4 : ApiMethod) (v5 : List (List UInt8)) (v6 : List (List UInt8)) (v7 : Bool) (v8 : Int) {r : Bool} (h : verify_checker_traps v1 v2 v3 v4 v5 v6 v7 v8 = some r) : SC Tryz.prog 85 [.mpt 0 0 0,iA v8] [.one 15 (vK v1 v2 v3 v4 (.msl 1 0 (List.length v5)) (.msl 2 0 (List.length v6)) (bA v7)),.many 1 (List.map rStr v5),.many 1 (List.map rStr v6)] (.tup []) [.one 15 (vK v1 v2 v3 v4 (.msl 1 0 (List.length v5)) (.msl 2 0 (List.length v6)) (bA r)),.many 1 (List.map rStr v5),.many 1 (List.map rStr v6)]:=by
 refine ⟨⟨j5,sbOk (sz:=1) (fun _=>j0),sbOk (sz:=1) (fun _=>j0),j5⟩,scall_fn Tryz.func85 j0 (by kernel_rfl) j0 ?_⟩
 unfold verify_checker_traps at h
 refine rg j0<|u<|mv j0<|u<|nc j0 j0<|u<|fa ti131 j0 j0 j0<|u<|fa ti76 j0 j0 j0<|u<|ld ti74 j0 j0<|u<|lnI ti74 j0 j0<|u<|mv j0<|r_nil ?_
 obtain ⟨o,ho,h⟩:=bs h
 refine sw_lpl (X:=Bool × Int) (B:=Bool) (R:=Bool) (fun z=>[(0,.mpt 0 0 0),(1,iA v8),(11,.isl 4 (List.map rApiTrap v4.Traps)),(12,iA (List.length v4.Traps : Int)),(13,iA z.2)]) (fun z=>[some (15,[(vK v1 v2 v3 v4 (.msl 1 0 (List.length v5)) (.msl 2 0 (List.length v6)) (bA z.1))]),some (1,List.map rStr v5),some (1,List.map rStr v6)]) (fun b=>[]) (fun b=>[some (15,[(vK v1 v2 v3 v4 (.msl 1 0 (List.length v5)) (.msl 2 0 (List.length v6)) (bA b))]),some (1,List.map rStr v5),some (1,List.map rStr v6)]) (fun r env st=>PostF Tryz.prog Tryz.f85 3 (.tup []) [some (15,[(vK v1 v2 v3 v4 (.msl 1 0 (List.length v5)) (.msl 2 0 (List.length v6)) (bA r))]),some (1,List.map rStr v5),some (1,List.map rStr v6)] env st) ho ⟨[.old 0,.old 1,.old 2],cv j0 (.mpt j0)<|ce j0 j0<|ce j0 j0<|ce j0 j0<|ce j0 j0<|cn,j0,⟨⟨_,j0,rsOne (cc12 j0 (by exact ⟨.msl j0,.msl j0,ci j0,j5⟩))⟩,⟨_,j0,rsMap (fun _=>j0)⟩,⟨_,j0,rsMap (fun _=>j0)⟩,j5⟩,j0,j1⟩ ?_ ?_ ?_
 ·
  rintro ⟨v16,v17⟩ r h
  replace h : verify_checker_traps_l5 v1 v2 v3 v4 v5 v6 v8 v16 v17 = some r:=h
  unfold verify_checker_traps_l5 at h
  refine rg j0<|u<|lss ti3 j0 j0<|r_nil ?_
  refine sw_seq ?_
  refine sw_cond j0 (fun hc8=>?_) (fun hc8=>?_)
  ·
   replace h:=bT hc8 h
   refine sw_skip ?_
   refine sw_meet (X:=Bool) (fun z=>[(0,.mpt 0 0 0),(1,iA v8),(11,.isl 4 (List.map rApiTrap v4.Traps)),(12,iA (List.length v4.Traps : Int)),(13,iA v17)]) (fun z=>[some (15,[(vK v1 v2 v3 v4 (.msl 1 0 (List.length v5)) (.msl 2 0 (List.length v6)) (bA z))]),some (1,List.map rStr v5),some (1,List.map rStr v6)]) (fun z=>verify_checker_traps_j4 v17 z = some r) ?_ ?_
   ·
    refine sw_block ?_
    obtain ⟨v18,q9,h⟩:=bs h
    refine rg j0<|u<|ixI ti74 j0 ti85 j0 j0 j0 q9<|u<|ldI ti85 j0 (idx_some q9).2.2 j0<|u<|al 3 ti85 j0<|u<|sto ti85 j0 j0 j0<|r_nil ?_
    refine rg j0<|u<|fa ti85 j0 j0 j0<|u<|ld ti9 j0 j0<|u<|asg j0<|r_nil ?_
    refine sw_meet (X:=(List UInt8)) (fun z=>[(0,.mpt 0 0 0),(1,iA v8),(5,.mpt 3 0 0),(6,sA z),(11,.isl 4 (List.map rApiTrap v4.Traps)),(12,iA (List.length v4.Traps : Int)),(13,iA v17)]) (fun z=>[some (15,[(vK v1 v2 v3 v4 (.msl 1 0 (List.length v5)) (.msl 2 0 (List.length v6)) (bA v16))]),some (1,List.map rStr v5),some (1,List.map rStr v6),some (4,[(rApiTrap v18)])]) (fun z=>verify_checker_traps_j3 v1 v2 v3 v4 v5 v6 v8 v16 v17 v18 z = some r) ?_ ?_
    ·
     refine rg j0<|u<|mv j0<|u<|seq ti9 j0 j0<|r_nil ?_
     refine sw_cond j0 (fun hc10=>?_) (fun hc10=>?_)
     ·
      replace h:=bT hc10 h
      exact rl j0<|u<|asg j0<|r_nil (⟨[84,104,114,111,119,110],h,[.old 0,.old 1,.old 2,.old 3],cv j0 (.mpt j0)<|ce j0 j0<|cv j0 (.mpt j0)<|ce j0 j0<|ce j0 j0<|ce j0 j0<|ce j0 j0<|cn,j0,⟨⟨_,j0,rsOne (cc12 j0 (by exact ⟨.msl j0,.msl j0,ci j0,j5⟩))⟩,⟨_,j0,rsMap (fun _=>j0)⟩,⟨_,j0,rsMap (fun _=>j0)⟩,⟨_,j0,rsOne (ciL j0)⟩,j5⟩,j0,j1⟩)
     ·
      replace h:=bF hc10 h
      refine sw_skip ?_
      exact ⟨v18.C,h,[.old 0,.old 1,.old 2,.old 3],cv j0 (.mpt j0)<|ce j0 j0<|cv j0 (.mpt j0)<|ce j0 j0<|ce j0 j0<|ce j0 j0<|ce j0 j0<|cn,j0,⟨⟨_,j0,rsOne (cc12 j0 (by exact ⟨.msl j0,.msl j0,ci j0,j5⟩))⟩,⟨_,j0,rsMap (fun _=>j0)⟩,⟨_,j0,rsMap (fun _=>j0)⟩,⟨_,j0,rsOne (ciL j0)⟩,j5⟩,j0,j1⟩
    ·
     rintro v19 h
     replace h : verify_checker_traps_j3 v1 v2 v3 v4 v5 v6 v8 v16 v17 v18 v19 = some r:=h
     unfold verify_checker_traps_j3 at h
     obtain ⟨v20,q11,h⟩:=bs h
     refine rg j0<|u<|mv j0<|u<|mv j0<|u<|nc j0 j0<|u<|fa ti131 j0 j0 j0<|u<|ld ti32 j0 j0<|u<|mv j0<|u<|pc (hier_Hier_Sub_s3_ok v1 v2 v19 [84,104,114,111,119,110] q11) j0 j0 j0<|u<|sc [0,1,2] (verify_checker_need_ok v1 v2 v3 v4 v5 v6 v16 v20 j0) j0 j0 j0 j0 ⟨(.mpt j0),(rnI j0),j5⟩ ⟨⟨_,j0,(rr12 j0 ⟨(.msl j0),(.msl j0),(rnI j0),j5⟩)⟩,⟨j0,mkI (fun _=>j0)⟩,⟨j0,mkI (fun _=>j0)⟩,j5⟩<|r_can (env0:=[(0,.mpt 0 0 0),(1,iA v8),(5,.mpt 3 0 0),(6,sA v19),(11,.isl 4 (List.map rApiTrap v4.Traps)),(12,iA (List.length v4.Traps : Int)),(13,iA v17)]) (st0:=[some (15,[(vK v1 v2 v3 v4 (.msl 1 0 (List.length v5)) (.msl 2 0 (List.length v6)) (bA (v16 || (!v20))))]),some (1,List.map rStr v5),some (1,List.map rStr v6),some (4,[(rApiTrap v18)])]) ⟨[.old 0,.old 1,.old 2,.old 3],cv j0 (.mpt j0)<|ce j0 j0<|cv j0 (.mpt j0)<|ce j0 j0<|ce j0 j0<|ce j0 j0<|ce j0 j0<|cn,j0,⟨⟨_,j0,rsOne (cc12 j0 (by exact ⟨.msl j0,.msl j0,ci j0,j5⟩))⟩,⟨_,j0,rsMap (fun _=>j0)⟩,⟨_,j0,rsMap (fun _=>j0)⟩,⟨_,j0,rsOne (ciL j0)⟩,j5⟩,j0,j1⟩<|r_nil ?_
     refine rg j0<|u<|fa ti85 j0 j0 j0<|u<|ld ti3 j0 j0<|u<|mv j0<|u<|leq ti3 j0 j0<|u<|mv j0<|r_and (j:=4) 4 j0 j0 j0 j0 j0 gpn (fun hb12=>g j0 hb12<|mv j0<|g j0 hb12<|fa ti85 j0 j0 j0<|g j0 hb12<|ld ti3 j0 j0<|g j0 hb12<|lss ti3 j0 j0<|r_nil (egA [34,35,36,37] 4 hb12 j0 j0 j0 j0)) andF<|r_nil ?_
     refine sw_cond j0 (fun hc13=>?_) (fun hc13=>?_)
     ·
      replace h:=bT hc13 h
      obtain ⟨v21,q14,h⟩:=bs h
      exact rl j0<|u<|mv j0<|u<|fa ti85 j0 j0 j0<|u<|ld ti3 j0 j0<|u<|mv j0<|u<|bl 4 ti25 j0 ti9 j0 (by decide) (by decide) j0 j0 j0<|u<|sc [0,1,2,4] (verify_checker_goes_s2_ok v1 v2 v3 v4 v5 v6 (v16 || (!v20)) v18.At [v19] q14) j0 j0 j0 j0 ⟨(.mpt j0),(rnI j0),(.msl j0),j5⟩ ⟨⟨_,j0,(rr12 j0 ⟨(.msl j0),(.msl j0),(rnI j0),j5⟩)⟩,⟨j0,mkI (fun _=>j0)⟩,⟨j0,mkI (fun _=>j0)⟩,⟨j0,mkI (fun _=>j0)⟩,j5⟩<|r_can (env0:=[(0,.mpt 0 0 0),(1,iA v8),(11,.isl 4 (List.map rApiTrap v4.Traps)),(12,iA (List.length v4.Traps : Int)),(13,iA v17)]) (st0:=[some (15,[(vK v1 v2 v3 v4 (.msl 1 0 (List.length v5)) (.msl 2 0 (List.length v6)) (bA v21))]),some (1,List.map rStr v5),some (1,List.map rStr v6)]) ⟨[.old 0,.old 1,.old 2],cv j0 (.mpt j0)<|ce j0 j0<|ce j0 j0<|ce j0 j0<|ce j0 j0<|cn,j0,⟨⟨_,j0,rsOne (cc12 j0 (by exact ⟨.msl j0,.msl j0,ci j0,j5⟩))⟩,⟨_,j0,rsMap (fun _=>j0)⟩,⟨_,j0,rsMap (fun _=>j0)⟩,j5⟩,j0,j1⟩<|r_nil (⟨v21,h,[.old 0,.old 1,.old 2],cv j0 (.mpt j0)<|ce j0 j0<|ce j0 j0<|ce j0 j0<|ce j0 j0<|cn,j0,⟨⟨_,j0,rsOne (cc12 j0 (by exact ⟨.msl j0,.msl j0,ci j0,j5⟩))⟩,⟨_,j0,rsMap (fun _=>j0)⟩,⟨_,j0,rsMap (fun _=>j0)⟩,j5⟩,j0,j1⟩)
     ·
      replace h:=bF hc13 h
      refine sw_skip ?_
      exact ⟨(v16 || (!v20)),h,[.old 0,.old 1,.old 2],cv j0 (.mpt j0)<|ce j0 j0<|ce j0 j0<|ce j0 j0<|ce j0 j0<|cn,j0,⟨⟨_,j0,rsOne (cc12 j0 (by exact ⟨.msl j0,.msl j0,ci j0,j5⟩))⟩,⟨_,j0,rsMap (fun _=>j0)⟩,⟨_,j0,rsMap (fun _=>j0)⟩,j5⟩,j0,j1⟩
   ·
    rintro v22 h
    replace h : verify_checker_traps_j4 v17 v22 = some r:=h
    unfold verify_checker_traps_j4 at h
    refine rl j0<|u<|add ti3 j0 j0<|u<|mv j0<|r_nil ?_
    obtain rfl:=sm h
    exact ⟨_,j0,[.old 0,.old 1,.old 2],cv j0 (.mpt j0)<|ce j0 j0<|ce j0 j0<|ce j0 j0<|ce j0 j0<|cn,j0,⟨⟨_,j0,rsOne (cc12 j0 (by exact ⟨.msl j0,.msl j0,ci j0,j5⟩))⟩,⟨_,j0,rsMap (fun _=>j0)⟩,⟨_,j0,rsMap (fun _=>j0)⟩,j5⟩,j0,j1⟩
  ·
   replace h:=bF hc8 h
   refine sw_exit ?_
   obtain rfl:=sm h
   exact ⟨j0,_,j0,[.old 0,.old 1,.old 2],cn,j0,⟨⟨_,j0,rsOne (cc12 j0 (by exact ⟨.msl j0,.msl j0,ci j0,j5⟩))⟩,⟨_,j0,rsMap (fun _=>j0)⟩,⟨_,j0,rsMap (fun _=>j0)⟩,j5⟩,j0,j1⟩
 ·
  rintro v23 rfl
  replace h : verify_checker_traps_k6 v23 = some r:=h
  unfold verify_checker_traps_k6 at h
  refine ow_intro ?_
  obtain rfl:=sm h
  exact ⟨_,j0,[.old 0,.old 1,.old 2],rsTup j5,j0,⟨⟨_,j0,rsOne (cc12 j0 (by exact ⟨.msl j0,.msl j0,ci j0,j5⟩))⟩,⟨_,j0,rsMap (fun _=>j0)⟩,⟨_,j0,rsMap (fun _=>j0)⟩,j5⟩,j0,j1⟩
 ·
  rintro r' rfl env st hp
  obtain rfl:=sm h
  exact hp
def verify_between (v1 : Int) (v2 : Int) (v3 : Int) : Bool :=
  ((decide (v2 ≤ v1)) && (decide (v1 ≤ v3)))
theorem verify_between_ok (v1 : Int) (v2 : Int) (v3 : Int) {r : Bool} (h : verify_between v1 v2 v3 = r) : PureC Tryz.prog 139 [iA v1,iA v2,iA v3] (bA r):=by
 refine pure_fn Tryz.func139 j0 (by kernel_rfl) j0 j0 ?_
 unfold verify_between at h
 refine rg j0<|u<|asg j0<|r_nil ?_
 refine rg j0<|u<|mv j0<|u<|mv j0<|u<|geq ti3 j0 j0<|u<|mv j0<|r_and (j:=3) 3 j0 j0 j0 j0 j0 gpn (fun hb1=>g j0 hb1<|mv j0<|g j0 hb1<|mv j0<|g j0 hb1<|leq ti3 j0 j0<|r_nil (egA [11,12,13] 3 hb1 j0 j0 j0 j0)) andF<|u<|asg j0<|r_nil ?_
 refine sw_ret ?_
 obtain rfl:=h
 exact ⟨_,j0,[],ci j0,j0,j5,j0,j1⟩
def verify_checker_push (v1 : List ApiClass) (v2 : List (List UInt8 × Int)) (v3 : List UInt8) (v4 : ApiMethod) (v5 : List (List UInt8)) (v6 : List (List UInt8)) (v7 : Bool) (v8 : List UInt8) : Option ((List (List UInt8))) :=
  (appP 16 v6 [v8]).bind fun v9=>some v9
theorem verify_checker_push_ok (v1 : List ApiClass) (v2 : List (List UInt8 × Int)) (v3 : List UInt8) (v4 : ApiMethod) (v5 : List (List UInt8)) (v6 : List (List UInt8)) (v7 : Bool) (v8 : List UInt8) {r : (List (List UInt8))} (h : verify_checker_push v1 v2 v3 v4 v5 v6 v7 v8 = some r) : SC Tryz.prog 142 [.mpt 0 0 0,sA v8] [.one 15 (vK v1 v2 v3 v4 (.msl 1 0 (List.length v5)) (.msl 2 0 (List.length v6)) (bA v7)),.many 1 (List.map rStr v5),.many 1 (List.map rStr v6)] (.tup []) [.one 15 (vK v1 v2 v3 v4 (.msl 1 0 (List.length v5)) (.msl 3 0 (List.length r)) (bA v7)),.many 1 (List.map rStr v5),.no,.many 1 (List.map rStr r)]:=by
 refine ⟨⟨j5,sbOk (sz:=1) (fun _=>j0),j5,sbOk (sz:=1) (fun _=>j0),j5⟩,scall_fn Tryz.func142 j0 (by kernel_rfl) j0 ?_⟩
 unfold verify_checker_push at h
 obtain ⟨v9,q1,h⟩:=bs h
 refine rl j0<|u<|mv j0<|u<|mv j0<|u<|nc j0 j0<|u<|fa ti131 j0 j0 j0<|u<|ld ti25 j0 j0<|u<|mv j0<|u<|bl 3 ti25 j0 ti9 j0 (by decide) (by decide) j0 j0 j0<|u<|apM 4 ti25 j0 ti9 j0 j0 (by decide) ti25 j0 j0 j0 j0 (roX (f:=rStr) (z:=[v8]) j0 j0) (fun _=>j0) j0 q1<|u<|nc j0 j0<|u<|fa ti131 j0 j0 j0<|u<|sto ti25 j0 j0 j0<|r_nil ?_
 obtain rfl:=sm h
 exact ⟨_,j0,[.old 0,.old 1,.dead,.old 4],rsTup j5,j0,⟨⟨_,j0,rsOne (cc12 j0 (by exact ⟨.msl j0,.msl j0,ci j0,j5⟩))⟩,⟨_,j0,rsMap (fun _=>j0)⟩,⟨_,j0,rsMap (fun _=>j0)⟩,j5⟩,j0,j1⟩
def verify_checker_pop (v1 : List ApiClass) (v2 : List (List UInt8 × Int)) (v3 : List UInt8) (v4 : ApiMethod) (v5 : List (List UInt8)) (v6 : List (List UInt8)) (v7 : Bool) : Option ((List UInt8) × (List (List UInt8)) × Bool) :=
  cond (((List.length v6) : Int) == (0 : Int)) (some ([84],v6,true)) ((idx v6 (IntKind.i64.wrap (((List.length v6) : Int) - 1))).bind fun v8=>(cutP v6 0 (IntKind.i64.wrap (((List.length v6) : Int) - 1))).bind fun v9=>some (v8,v9,v7))
theorem verify_checker_pop_ok (v1 : List ApiClass) (v2 : List (List UInt8 × Int)) (v3 : List UInt8) (v4 : ApiMethod) (v5 : List (List UInt8)) (v6 : List (List UInt8)) (v7 : Bool) {r : (List UInt8) × (List (List UInt8)) × Bool} (h : verify_checker_pop v1 v2 v3 v4 v5 v6 v7 = some r) : SC Tryz.prog 213 [.mpt 0 0 0] [.one 15 (vK v1 v2 v3 v4 (.msl 1 0 (List.length v5)) (.msl 2 0 (List.length v6)) (bA v7)),.many 1 (List.map rStr v5),.many 1 (List.map rStr v6)] (sA r.1) [.one 15 (vK v1 v2 v3 v4 (.msl 1 0 (List.length v5)) (.msl 2 0 (List.length r.2.1)) (bA r.2.2)),.many 1 (List.map rStr v5),.many 1 (List.map rStr r.2.1)]:=by
 refine ⟨⟨j5,sbOk (sz:=1) (fun _=>j0),sbOk (sz:=1) (fun _=>j0),j5⟩,scall_fn Tryz.func213 j0 (by kernel_rfl) j0 ?_⟩
 unfold verify_checker_pop at h
 refine rg j0<|u<|asg j0<|r_nil ?_
 refine sw_seq ?_
 refine rg j0<|u<|mv j0<|u<|nc j0 j0<|u<|fa ti131 j0 j0 j0<|u<|ld ti25 j0 j0<|u<|lnM ti25 j0 j0 j0<|u<|eql ti3 j0 j0<|r_nil ?_
 refine sw_cond j0 (fun hc1=>?_) (fun hc1=>?_)
 ·
  replace h:=bT hc1 h
  refine rg j0<|u<|mv j0<|u<|nc j0 j0<|u<|fa ti131 j0 j0 j0<|u<|sto ti4 j0 j0 j0<|r_nil ?_
  refine rg j0<|u<|asg j0<|r_nil ?_
  refine sw_ret ?_
  obtain rfl:=sm h
  exact ⟨_,j0,[.old 0,.old 1,.old 2],ci j0,j0,⟨⟨_,j0,rsOne (cc12 j0 (by exact ⟨.msl j0,.msl j0,ci j0,j5⟩))⟩,⟨_,j0,rsMap (fun _=>j0)⟩,⟨_,j0,rsMap (fun _=>j0)⟩,j5⟩,j0,j1⟩
 ·
  replace h:=bF hc1 h
  refine sw_skip ?_
  obtain ⟨v8,q2,h⟩:=bs h
  refine rd [(0,.mpt 0 0 0),(3,sA v8)] [some (15,[(vK v1 v2 v3 v4 (.msl 1 0 (List.length v5)) (.msl 2 0 (List.length v6)) (bA v7))]),some (1,List.map rStr v5),some (1,List.map rStr v6)] [] [12,11,10,9,8,7,6,5,4,3,2,1,0] [(3,sA v8),(24,sA v8),(23,.mpt 2 (Int.toNat (IntKind.i64.wrap (((List.length v6) : Int) - 1))) 0),(22,iA (IntKind.i64.wrap (((List.length v6) : Int) - 1))),(21,iA ((List.length v6) : Int)),(20,.msl 2 0 (List.length v6)),(19,.mpt 0 0 13),(18,.mpt 0 0 0),(17,.mpt 0 0 0),(16,.msl 2 0 (List.length v6)),(15,.mpt 0 0 13),(14,.mpt 0 0 0),(13,.mpt 0 0 0)] 0 (by kernel_rfl) (by kernel_rfl) j0 (by kernel_rfl) (dt0 ⟨(fun _=>pa j0 j0 j0 j0 (asg j0<|j4)),(fun _=>pa j0 j0 j0 j0 (ldM ti9 j0 j0 (idx_some q2).2.2 j0<|j4)),(fun _=>pa j0 j0 j0 j0 (ixM ti25 j0 ti9 j0 j0 j0 j0 q2<|j4)),(fun _=>pa j0 j0 j0 j0 (sub ti3 j0 j0<|j4)),(fun _=>pa j0 j0 j0 j0 (lnM ti25 j0 j0 j0<|j4)),(fun _=>pa j0 j0 j0 j0 (ld ti25 j0 j0<|j4)),(fun _=>pa j0 j0 j0 j0 (fa ti131 j0 j0 j0<|j4)),(fun _=>pa j0 j0 j0 j0 (nc j0 j0<|j4)),(fun _=>pa j0 j0 j0 j0 (mv j0<|j4)),(fun _=>pa j0 j0 j0 j0 (ld ti25 j0 j0<|j4)),(fun _=>pa j0 j0 j0 j0 (fa ti131 j0 j0 j0<|j4)),(fun _=>pa j0 j0 j0 j0 (nc j0 j0<|j4)),(fun _=>pa j0 j0 j0 j0 (mv j0<|j4)),j5⟩ (by kernel_rfl) j0 ⟨[.old 0,.old 1,.old 2],cv j0 (.mpt j0)<|ce j0 j0<|cn,j0,⟨⟨_,j0,rsOne (cc12 j0 (by exact ⟨.msl j0,.msl j0,ci j0,j5⟩))⟩,⟨_,j0,rsMap (fun _=>j0)⟩,⟨_,j0,rsMap (fun _=>j0)⟩,j5⟩,j0,j1⟩) ?_
  obtain ⟨v9,q3,h⟩:=bs h
  refine rd [(3,sA v8)] [some (15,[(vK v1 v2 v3 v4 (.msl 1 0 (List.length v5)) (.msl 2 0 (List.length v9)) (bA v7))]),some (1,List.map rStr v5),some (1,List.map rStr v6)] [14] [13,12,11,10,9,8,7,6,5,4,3,2,1,0] [(38,.mpt 0 0 13),(37,.mpt 0 0 0),(36,.msl 2 0 (List.length v9)),(35,iA (IntKind.i64.wrap (((List.length v6) : Int) - 1))),(34,iA ((List.length v6) : Int)),(33,.msl 2 0 (List.length v6)),(32,.mpt 0 0 13),(31,.mpt 0 0 0),(30,.mpt 0 0 0),(29,.msl 2 0 (List.length v6)),(28,.mpt 0 0 13),(27,.mpt 0 0 0),(26,.mpt 0 0 0),(25,.mpt 0 0 0)] 1 (by kernel_rfl) (by kernel_rfl) j0 (by kernel_rfl) (dtS ⟨(fun _=>pa j0 j0 j0 j0 (fa ti131 j0 j0 j0<|j4)),(fun _=>pa j0 j0 j0 j0 (nc j0 j0<|j4)),(fun _=>pa j0 j0 j0 j0 (slM (l:=v6) (c:=(IntKind.i64.wrap (((List.length v6) : Int) - 1))) ti25 j0 ti9 j0 j0 j0 (bnd_hi j0 q3) q3<|j4)),(fun _=>pa j0 j0 j0 j0 (sub ti3 j0 j0<|j4)),(fun _=>pa j0 j0 j0 j0 (lnM ti25 j0 j0 j0<|j4)),(fun _=>pa j0 j0 j0 j0 (ld ti25 j0 j0<|j4)),(fun _=>pa j0 j0 j0 j0 (fa ti131 j0 j0 j0<|j4)),(fun _=>pa j0 j0 j0 j0 (nc j0 j0<|j4)),(fun _=>pa j0 j0 j0 j0 (mv j0<|j4)),(fun _=>pa j0 j0 j0 j0 (ld ti25 j0 j0<|j4)),(fun _=>pa j0 j0 j0 j0 (fa ti131 j0 j0 j0<|j4)),(fun _=>pa j0 j0 j0 j0 (nc j0 j0<|j4)),(fun _=>pa j0 j0 j0 j0 (mv j0<|j4)),(fun _=>pa j0 j0 j0 j0 (mv j0<|j4)),j5⟩ (by kernel_rfl) j0 ⟨(fun _ _=>⟨_,j0,j0,sto ti25 j0 j0 j0<|⟨.any,[],[],j0,j0,by kernel_rfl,j5,dt0 ⟨(fun h=>by cases h),(fun _=>pa j0 j0 j0 j0 (nc j0 j0<|j4)),(fun h=>by cases h),(fun h=>by cases h),(fun h=>by cases h),(fun h=>by cases h),(fun h=>by cases h),(fun h=>by cases h),(fun h=>by cases h),(fun h=>by cases h),(fun h=>by cases h),(fun h=>by cases h),(fun h=>by cases h),(fun h=>by cases h),j5⟩ (by kernel_rfl) j0 ⟨[.old 0,.old 1,.old 2],ce j0 j0<|cn,j0,⟨⟨_,j0,rsOne (cc12 j0 (by exact ⟨.msl j0,.msl j0,ci j0,j5⟩))⟩,⟨_,j0,rsMap (fun _=>j0)⟩,⟨_,j0,rsMap (fun _=>j0)⟩,j5⟩,j0,j1⟩⟩⟩),j5⟩) ?_
  refine sw_tr (b:=2) (l:=v6) (f:=rStr) (c:=(IntKind.i64.wrap (((List.length v6) : Int) - 1))) j0 j0 q3 ?_
  refine rg j0<|u<|mv j0<|u<|asg j0<|r_nil ?_
  refine sw_ret ?_
  obtain rfl:=sm h
  exact ⟨_,j0,[.old 0,.old 1,.old 2],ci j0,j0,⟨⟨_,j0,rsOne (cc12 j0 (by exact ⟨.msl j0,.msl j0,ci j0,j5⟩))⟩,⟨_,j0,rsMap (fun _=>j0)⟩,⟨_,j0,rsMap (fun _=>j0)⟩,j5⟩,j0,j1⟩
def verify_checker_move_j1 (v1 : List ApiClass) (v2 : List (List UInt8 × Int)) (v3 : List UInt8) (v4 : ApiMethod) (v5 : List (List UInt8)) (v6 : List (List UInt8)) (v7 : Bool) (v8 : ApiIns) (v12 : Bool) : Option ((List (List UInt8)) × (List (List UInt8)) × Bool) :=
  cond v12 (some (v5,v6,true)) ((idx v5 v8.A).bind fun v13=>(verify_checker_push v1 v2 v3 v4 v5 v6 v7 v13).bind fun v14=>some (v5,v14,v7))
def verify_checker_move (v1 : List ApiClass) (v2 : List (List UInt8 × Int)) (v3 : List UInt8) (v4 : ApiMethod) (v5 : List (List UInt8)) (v6 : List (List UInt8)) (v7 : Bool) (v8 : ApiIns) : Option ((List (List UInt8)) × (List (List UInt8)) × Bool) :=
  cond (v8.Op == (1 : Int)) ((verify_checker_push v1 v2 v3 v4 v5 v6 v7 [73]).bind fun v9=>some (v5,v9,v7)) (cond (v8.Op == (2 : Int)) ((verify_checker_push v1 v2 v3 v4 v5 v6 v7 [78]).bind fun v10=>some (v5,v10,v7)) (cond (v8.Op == (3 : Int)) (cond (decide (((List.length v5) : Int) ≤ v8.A)) (verify_checker_move_j1 v1 v2 v3 v4 v5 v6 v7 v8 true) ((idx v5 v8.A).bind fun v11=>verify_checker_move_j1 v1 v2 v3 v4 v5 v6 v7 v8 (v11 == [84]))) (cond (v8.Op == (4 : Int)) ((verify_checker_pop v1 v2 v3 v4 v5 v6 v7).bind fun v15=>cond (decide (((List.length v5) : Int) ≤ v8.A)) (some (v5,v15.2.1,true)) ((cloneW v5).bind fun v16=>(idx v16 v8.A).bind fun v17=>some ((List.set v16 (Int.toNat v8.A) v15.1),v15.2.1,v15.2.2))) (cond (v8.Op == (5 : Int)) ((verify_checker_pop v1 v2 v3 v4 v5 v6 v7).bind fun v18=>some (v5,v18.2.1,v18.2.2)) (cond (v8.Op == (6 : Int)) ((verify_checker_pop v1 v2 v3 v4 v5 v6 v7).bind fun v19=>(verify_checker_push v1 v2 v3 v4 v5 v19.2.1 v19.2.2 v19.1).bind fun v20=>(verify_checker_push v1 v2 v3 v4 v5 v20 v19.2.2 v19.1).bind fun v21=>some (v5,v21,v19.2.2)) (cond (v8.Op == (7 : Int)) ((verify_checker_pop v1 v2 v3 v4 v5 v6 v7).bind fun v22=>(verify_checker_pop v1 v2 v3 v4 v5 v22.2.1 v22.2.2).bind fun v23=>(verify_checker_push v1 v2 v3 v4 v5 v23.2.1 v23.2.2 v22.1).bind fun v24=>(verify_checker_push v1 v2 v3 v4 v5 v24 v23.2.2 v23.1).bind fun v25=>some (v5,v25,v23.2.2)) (some (v5,v6,v7))))))))
theorem verify_checker_move_ok (v1 : List ApiClass) (v2 : List (List UInt8 × Int)) (v3 : List UInt8) (v4 : ApiMethod) (v5 : List (List UInt8)) (v6 : List (List UInt8)) (v7 : Bool) (v8 : ApiIns) {r : (List (List UInt8)) × (List (List UInt8)) × Bool} (h : verify_checker_move v1 v2 v3 v4 v5 v6 v7 v8 = some r) : SC Tryz.prog 140 [.mpt 0 0 0,.agg (rApiIns v8)] [.one 15 (vK v1 v2 v3 v4 (.msl 1 0 (List.length v5)) (.msl 2 0 (List.length v6)) (bA v7)),.many 1 (List.map rStr v5),.many 1 (List.map rStr v6)] (.tup []) [.one 15 (vK v1 v2 v3 v4 (.msl 3 0 (List.length r.1)) (.msl 4 0 (List.length r.2.1)) (bA r.2.2)),.no,.no,.many 1 (List.map rStr r.1),.many 1 (List.map rStr r.2.1)]:=by
 refine ⟨⟨j5,j5,j5,sbOk (sz:=1) (fun _=>j0),sbOk (sz:=1) (fun _=>j0),j5⟩,scall_fn Tryz.func140 j0 (by kernel_rfl) j0 ?_⟩
 unfold verify_checker_move at h
 refine rg j0<|u<|bx 3 4 j0 j0 j0 j0<|r_nil ?_
 refine rg j0<|u<|fa ti69 j0 j0 j0<|u<|ld ti3 j0 j0<|r_nil ?_
 refine sw_block ?_
 refine rg j0<|u<|eql ti3 j0 j0<|u<|asg j0<|r_nil ?_
 refine sw_cond j0 (fun hc1=>?_) (fun hc1=>?_)
 ·
  replace h:=bT hc1 h
  obtain ⟨v9,q2,h⟩:=bs h
  refine rl j0<|u<|mv j0<|u<|sc [0,1,2] (verify_checker_push_ok v1 v2 v3 v4 v5 v6 v7 [73] q2) j0 j0 j0 j0 ⟨(.mpt j0),(rnI j0),j5⟩ ⟨⟨_,j0,(rr12 j0 ⟨(.msl j0),(.msl j0),(rnI j0),j5⟩)⟩,⟨j0,mkI (fun _=>j0)⟩,⟨j0,mkI (fun _=>j0)⟩,j5⟩<|r_can (env0:=[]) (st0:=[some (15,[(vK v1 v2 v3 v4 (.msl 1 0 (List.length v5)) (.msl 3 0 (List.length v9)) (bA v7))]),some (1,List.map rStr v5),none,some (1,List.map rStr v9)]) ⟨[.old 0,.old 1,.dead,.old 4],cn,j0,⟨⟨_,j0,rsOne (cc12 j0 (by exact ⟨.msl j0,.msl j0,ci j0,j5⟩))⟩,⟨_,j0,rsMap (fun _=>j0)⟩,⟨_,j0,rsMap (fun _=>j0)⟩,j5⟩,j0,j1⟩<|r_nil ?_
  obtain rfl:=sm h
  exact ⟨_,j0,[.old 0,.dead,.dead,.old 1,.old 3],rsTup j5,j0,⟨⟨_,j0,rsOne (cc12 j0 (by exact ⟨.msl j0,.msl j0,ci j0,j5⟩))⟩,⟨_,j0,rsMap (fun _=>j0)⟩,⟨_,j0,rsMap (fun _=>j0)⟩,j5⟩,j0,j1⟩
 ·
  replace h:=bF hc1 h
  refine rg j0<|u<|eql ti3 j0 j0<|u<|asg j0<|r_nil ?_
  refine sw_cond j0 (fun hc3=>?_) (fun hc3=>?_)
  ·
   replace h:=bT hc3 h
   obtain ⟨v10,q4,h⟩:=bs h
   refine rl j0<|u<|mv j0<|u<|sc [0,1,2] (verify_checker_push_ok v1 v2 v3 v4 v5 v6 v7 [78] q4) j0 j0 j0 j0 ⟨(.mpt j0),(rnI j0),j5⟩ ⟨⟨_,j0,(rr12 j0 ⟨(.msl j0),(.msl j0),(rnI j0),j5⟩)⟩,⟨j0,mkI (fun _=>j0)⟩,⟨j0,mkI (fun _=>j0)⟩,j5⟩<|r_can (env0:=[]) (st0:=[some (15,[(vK v1 v2 v3 v4 (.msl 1 0 (List.length v5)) (.msl 3 0 (List.length v10)) (bA v7))]),some (1,List.map rStr v5),none,some (1,List.map rStr v10)]) ⟨[.old 0,.old 1,.dead,.old 4],cn,j0,⟨⟨_,j0,rsOne (cc12 j0 (by exact ⟨.msl j0,.msl j0,ci j0,j5⟩))⟩,⟨_,j0,rsMap (fun _=>j0)⟩,⟨_,j0,rsMap (fun _=>j0)⟩,j5⟩,j0,j1⟩<|r_nil ?_
   obtain rfl:=sm h
   exact ⟨_,j0,[.old 0,.dead,.dead,.old 1,.old 3],rsTup j5,j0,⟨⟨_,j0,rsOne (cc12 j0 (by exact ⟨.msl j0,.msl j0,ci j0,j5⟩))⟩,⟨_,j0,rsMap (fun _=>j0)⟩,⟨_,j0,rsMap (fun _=>j0)⟩,j5⟩,j0,j1⟩
  ·
   replace h:=bF hc3 h
   refine rg j0<|u<|eql ti3 j0 j0<|u<|asg j0<|r_nil ?_
   refine sw_cond j0 (fun hc5=>?_) (fun hc5=>?_)
   ·
    replace h:=bT hc5 h
    refine sw_seq ?_
    refine sw_meet (X:=Bool) (fun z=>[(0,.mpt 0 0 0),(3,.mpt 3 0 0),(38,bA z)]) (fun z=>[some (15,[(vK v1 v2 v3 v4 (.msl 1 0 (List.length v5)) (.msl 2 0 (List.length v6)) (bA v7))]),some (1,List.map rStr v5),some (1,List.map rStr v6),some (4,[(rApiIns v8)])]) (fun z=>verify_checker_move_j1 v1 v2 v3 v4 v5 v6 v7 v8 z = some r) ?_ ?_
    ·
     rcases bb (decide (((List.length v5) : Int) ≤ v8.A)) with hb6 | hb6
     ·
      replace h:=bT hb6 h
      exact sw_region_dt [] [18,17,16,15,14,13,12,11,10,9,8,7,6,5,4,3,2,1,0] [(38,bA true),(37,.lit undef),(36,.lit undef),(35,.lit undef),(34,.lit undef),(33,.lit undef),(32,.lit undef),(31,.lit undef),(30,.lit undef),(29,.lit undef),(28,bA (decide (((List.length v5) : Int) ≤ v8.A))),(27,bA (decide (((List.length v5) : Int) ≤ v8.A))),(26,iA ((List.length v5) : Int)),(25,.msl 1 0 (List.length v5)),(24,.mpt 0 0 12),(23,.mpt 0 0 0),(22,.mpt 0 0 0),(21,iA v8.A),(20,.mpt 3 0 1)] 0 (by kernel_rfl) (by kernel_rfl) j0 (by kernel_rfl) (dt0 ⟨(fun _=>pa j0 j0 j0 j0 (pkb j0 hb6 j0<|j4)),(fun _=>pas (b:=(decide (((List.length v5) : Int) ≤ v8.A))) j0 j0 j0 j0 hb6 j0),(fun _=>pas (b:=(decide (((List.length v5) : Int) ≤ v8.A))) j0 j0 j0 j0 hb6 j0),(fun _=>pas (b:=(decide (((List.length v5) : Int) ≤ v8.A))) j0 j0 j0 j0 hb6 j0),(fun _=>pas (b:=(decide (((List.length v5) : Int) ≤ v8.A))) j0 j0 j0 j0 hb6 j0),(fun _=>pas (b:=(decide (((List.length v5) : Int) ≤ v8.A))) j0 j0 j0 j0 hb6 j0),(fun _=>pas (b:=(decide (((List.length v5) : Int) ≤ v8.A))) j0 j0 j0 j0 hb6 j0),(fun _=>pas (b:=(decide (((List.length v5) : Int) ≤ v8.A))) j0 j0 j0 j0 hb6 j0),(fun _=>pas (b:=(decide (((List.length v5) : Int) ≤ v8.A))) j0 j0 j0 j0 hb6 j0),(fun _=>pas (b:=(decide (((List.length v5) : Int) ≤ v8.A))) j0 j0 j0 j0 hb6 j0),(fun _=>pa j0 j0 j0 j0 (mv j0<|j4)),(fun _=>pa j0 j0 j0 j0 (geq ti3 j0 j0<|j4)),(fun _=>pa j0 j0 j0 j0 (lnM ti25 j0 j0 j0<|j4)),(fun _=>pa j0 j0 j0 j0 (ld ti25 j0 j0<|j4)),(fun _=>pa j0 j0 j0 j0 (fa ti131 j0 j0 j0<|j4)),(fun _=>pa j0 j0 j0 j0 (nc j0 j0<|j4)),(fun _=>pa j0 j0 j0 j0 (mv j0<|j4)),(fun _=>pa j0 j0 j0 j0 (ld ti3 j0 j0<|j4)),(fun _=>pa j0 j0 j0 j0 (fa ti69 j0 j0 j0<|j4)),j5⟩ (by kernel_rfl) j0 ⟨true,h,[.old 0,.old 1,.old 2,.old 3],cv j0 (.mpt j0)<|cv j0 (.mpt j0)<|ce j0 j0<|cn,j0,⟨⟨_,j0,rsOne (cc12 j0 (by exact ⟨.msl j0,.msl j0,ci j0,j5⟩))⟩,⟨_,j0,rsMap (fun _=>j0)⟩,⟨_,j0,rsMap (fun _=>j0)⟩,⟨_,j0,rsOne (ciL j0)⟩,j5⟩,j0,j1⟩)
     ·
      replace h:=bF hb6 h
      obtain ⟨v11,q7,h⟩:=bs h
      exact sw_region_dt [] [18,17,16,15,14,13,12,11,10,9,8,7,6,5,4,3,2,1,0] [(38,bA (v11 == [84])),(37,bA (v11 == [84])),(36,sA v11),(35,.mpt 1 (Int.toNat v8.A) 0),(34,iA v8.A),(33,.mpt 3 0 1),(32,.msl 1 0 (List.length v5)),(31,.mpt 0 0 12),(30,.mpt 0 0 0),(29,.mpt 0 0 0),(28,bA (decide (((List.length v5) : Int) ≤ v8.A))),(27,bA (decide (((List.length v5) : Int) ≤ v8.A))),(26,iA ((List.length v5) : Int)),(25,.msl 1 0 (List.length v5)),(24,.mpt 0 0 12),(23,.mpt 0 0 0),(22,.mpt 0 0 0),(21,iA v8.A),(20,.mpt 3 0 1)] 0 (by kernel_rfl) (by kernel_rfl) j0 (by kernel_rfl) (dt0 ⟨(fun _=>pa j0 j0 j0 j0 (pkb j0 hb6 j0<|j4)),(fun _=>pag (b:=(decide (((List.length v5) : Int) ≤ v8.A))) j0 j0 j0 j0 hb6 j0 (seq ti9 j0 j0<|j4)),(fun _=>pag (b:=(decide (((List.length v5) : Int) ≤ v8.A))) j0 j0 j0 j0 hb6 j0 (ldM ti9 j0 j0 (idx_some q7).2.2 j0<|j4)),(fun _=>pag (b:=(decide (((List.length v5) : Int) ≤ v8.A))) j0 j0 j0 j0 hb6 j0 (ixM ti25 j0 ti9 j0 j0 j0 j0 q7<|j4)),(fun _=>pag (b:=(decide (((List.length v5) : Int) ≤ v8.A))) j0 j0 j0 j0 hb6 j0 (ld ti3 j0 j0<|j4)),(fun _=>pag (b:=(decide (((List.length v5) : Int) ≤ v8.A))) j0 j0 j0 j0 hb6 j0 (fa ti69 j0 j0 j0<|j4)),(fun _=>pag (b:=(decide (((List.length v5) : Int) ≤ v8.A))) j0 j0 j0 j0 hb6 j0 (ld ti25 j0 j0<|j4)),(fun _=>pag (b:=(decide (((List.length v5) : Int) ≤ v8.A))) j0 j0 j0 j0 hb6 j0 (fa ti131 j0 j0 j0<|j4)),(fun _=>pag (b:=(decide (((List.length v5) : Int) ≤ v8.A))) j0 j0 j0 j0 hb6 j0 (nc j0 j0<|j4)),(fun _=>pag (b:=(decide (((List.length v5) : Int) ≤ v8.A))) j0 j0 j0 j0 hb6 j0 (mv j0<|j4)),(fun _=>pa j0 j0 j0 j0 (mv j0<|j4)),(fun _=>pa j0 j0 j0 j0 (geq ti3 j0 j0<|j4)),(fun _=>pa j0 j0 j0 j0 (lnM ti25 j0 j0 j0<|j4)),(fun _=>pa j0 j0 j0 j0 (ld ti25 j0 j0<|j4)),(fun _=>pa j0 j0 j0 j0 (fa ti131 j0 j0 j0<|j4)),(fun _=>pa j0 j0 j0 j0 (nc j0 j0<|j4)),(fun _=>pa j0 j0 j0 j0 (mv j0<|j4)),(fun _=>pa j0 j0 j0 j0 (ld ti3 j0 j0<|j4)),(fun _=>pa j0 j0 j0 j0 (fa ti69 j0 j0 j0<|j4)),j5⟩ (by kernel_rfl) j0 ⟨(v11 == [84]),h,[.old 0,.old 1,.old 2,.old 3],cv j0 (.mpt j0)<|cv j0 (.mpt j0)<|ce j0 j0<|cn,j0,⟨⟨_,j0,rsOne (cc12 j0 (by exact ⟨.msl j0,.msl j0,ci j0,j5⟩))⟩,⟨_,j0,rsMap (fun _=>j0)⟩,⟨_,j0,rsMap (fun _=>j0)⟩,⟨_,j0,rsOne (ciL j0)⟩,j5⟩,j0,j1⟩)
    ·
     rintro v12 h
     replace h : verify_checker_move_j1 v1 v2 v3 v4 v5 v6 v7 v8 v12 = some r:=h
     unfold verify_checker_move_j1 at h
     refine sw_cond j0 (fun hc8=>?_) (fun hc8=>?_)
     ·
      replace h:=bT hc8 h
      refine rg j0<|u<|mv j0<|u<|nc j0 j0<|u<|fa ti131 j0 j0 j0<|u<|sto ti4 j0 j0 j0<|r_nil ?_
      refine sw_ret ?_
      obtain rfl:=sm h
      exact ⟨_,j0,[.old 0,.dead,.dead,.old 1,.old 2],rsTup j5,j0,⟨⟨_,j0,rsOne (cc12 j0 (by exact ⟨.msl j0,.msl j0,ci j0,j5⟩))⟩,⟨_,j0,rsMap (fun _=>j0)⟩,⟨_,j0,rsMap (fun _=>j0)⟩,j5⟩,j0,j1⟩
     ·
      replace h:=bF hc8 h
      refine sw_skip ?_
      obtain ⟨v13,q9,h⟩:=bs h
      obtain ⟨v14,q10,h⟩:=bs h
      refine rdL [] [some (15,[(vK v1 v2 v3 v4 (.msl 1 0 (List.length v5)) (.msl 3 0 (List.length v14)) (bA v7))]),some (1,List.map rStr v5),none,some (1,List.map rStr v14)] [9] [8,7,6,5,4,3,2,1,0] [(50,sA v13),(49,.mpt 1 (Int.toNat v8.A) 0),(48,iA v8.A),(47,.mpt 3 0 1),(46,.msl 1 0 (List.length v5)),(45,.mpt 0 0 12),(44,.mpt 0 0 0),(43,.mpt 0 0 0),(42,.mpt 0 0 0)] 1 (by kernel_rfl) (by kernel_rfl) j0 (by kernel_rfl) (dtS ⟨(fun _=>pa j0 j0 j0 j0 (ldM ti9 j0 j0 (idx_some q9).2.2 j0<|j4)),(fun _=>pa j0 j0 j0 j0 (ixM ti25 j0 ti9 j0 j0 j0 j0 q9<|j4)),(fun _=>pa j0 j0 j0 j0 (ld ti3 j0 j0<|j4)),(fun _=>pa j0 j0 j0 j0 (fa ti69 j0 j0 j0<|j4)),(fun _=>pa j0 j0 j0 j0 (ld ti25 j0 j0<|j4)),(fun _=>pa j0 j0 j0 j0 (fa ti131 j0 j0 j0<|j4)),(fun _=>pa j0 j0 j0 j0 (nc j0 j0<|j4)),(fun _=>pa j0 j0 j0 j0 (mv j0<|j4)),(fun _=>pa j0 j0 j0 j0 (mv j0<|j4)),j5⟩ (by kernel_rfl) j0 ⟨(fun _ _=>⟨_,j0,j0,sc [0,1,2] (verify_checker_push_ok v1 v2 v3 v4 v5 v6 v7 v13 q10) j0 j0 j0 j0 ⟨(.mpt j0),(rnI j0),j5⟩ ⟨⟨_,j0,(rr12 j0 ⟨(.msl j0),(.msl j0),(rnI j0),j5⟩)⟩,⟨j0,mkI (fun _=>j0)⟩,⟨j0,mkI (fun _=>j0)⟩,j5⟩<|⟨(.tup []),[],[(51,.tup [])],j0,j0,by kernel_rfl,j0,dt0 ⟨(fun h=>by cases h),(fun _=>pa j0 j0 j0 j0 (ixM ti25 j0 ti9 j0 j0 j0 j0 q9<|j4)),(fun _=>pa j0 j0 j0 j0 (ld ti3 j0 j0<|j4)),(fun _=>pa j0 j0 j0 j0 (fa ti69 j0 j0 j0<|j4)),(fun _=>pa j0 j0 j0 j0 (ld ti25 j0 j0<|j4)),(fun _=>pa j0 j0 j0 j0 (fa ti131 j0 j0 j0<|j4)),(fun _=>pa j0 j0 j0 j0 (nc j0 j0<|j4)),(fun _=>pa j0 j0 j0 j0 (mv j0<|j4)),(fun h=>by cases h),j5⟩ (by kernel_rfl) j0 ⟨[.old 0,.old 1,.dead,.old 4],cn,j0,⟨⟨_,j0,rsOne (cc12 j0 (by exact ⟨.msl j0,.msl j0,ci j0,j5⟩))⟩,⟨_,j0,rsMap (fun _=>j0)⟩,⟨_,j0,rsMap (fun _=>j0)⟩,j5⟩,j0,j1⟩⟩⟩),j5⟩) ?_
      obtain rfl:=sm h
      exact ⟨_,j0,[.old 0,.dead,.dead,.old 1,.old 3],rsTup j5,j0,⟨⟨_,j0,rsOne (cc12 j0 (by exact ⟨.msl j0,.msl j0,ci j0,j5⟩))⟩,⟨_,j0,rsMap (fun _=>j0)⟩,⟨_,j0,rsMap (fun _=>j0)⟩,j5⟩,j0,j1⟩
   ·
    replace h:=bF hc5 h
    refine rg j0<|u<|eql ti3 j0 j0<|u<|asg j0<|r_nil ?_
    refine sw_cond j0 (fun hc11=>?_) (fun hc11=>?_)
    ·
     replace h:=bT hc11 h
     obtain ⟨v15,q12,h⟩:=bs h
     refine rg j0<|u<|mv j0<|u<|sc [0,1,2] (verify_checker_pop_ok v1 v2 v3 v4 v5 v6 v7 q12) j0 j0 j0 j0 ⟨(.mpt j0),j5⟩ ⟨⟨_,j0,(rr12 j0 ⟨(.msl j0),(.msl j0),(rnI j0),j5⟩)⟩,⟨j0,mkI (fun _=>j0)⟩,⟨j0,mkI (fun _=>j0)⟩,j5⟩<|r_can (env0:=[(0,.mpt 0 0 0),(3,.mpt 3 0 0),(55,sA v15.1)]) (st0:=[some (15,[(vK v1 v2 v3 v4 (.msl 1 0 (List.length v5)) (.msl 2 0 (List.length v15.2.1)) (bA v15.2.2))]),some (1,List.map rStr v5),some (1,List.map rStr v15.2.1),some (4,[(rApiIns v8)])]) ⟨[.old 0,.old 1,.old 2,.old 3],cv j0 (.mpt j0)<|cv j0 (.mpt j0)<|ce j0 j0<|cn,j0,⟨⟨_,j0,rsOne (cc12 j0 (by exact ⟨.msl j0,.msl j0,ci j0,j5⟩))⟩,⟨_,j0,rsMap (fun _=>j0)⟩,⟨_,j0,rsMap (fun _=>j0)⟩,⟨_,j0,rsOne (ciL j0)⟩,j5⟩,j0,j1⟩<|u<|asg j0<|r_nil ?_
     refine sw_seq ?_
     refine rd [(0,.mpt 0 0 0),(3,.mpt 3 0 0),(4,sA v15.1),(63,bA (decide (((List.length v5) : Int) ≤ v8.A)))] [some (15,[(vK v1 v2 v3 v4 (.msl 1 0 (List.length v5)) (.msl 2 0 (List.length v15.2.1)) (bA v15.2.2))]),some (1,List.map rStr v5),some (1,List.map rStr v15.2.1),some (4,[(rApiIns v8)])] [] [7,6,5,4,3,2,1,0] [(63,bA (decide (((List.length v5) : Int) ≤ v8.A))),(62,iA ((List.length v5) : Int)),(61,.msl 1 0 (List.length v5)),(60,.mpt 0 0 12),(59,.mpt 0 0 0),(58,.mpt 0 0 0),(57,iA v8.A),(56,.mpt 3 0 1)] 0 (by kernel_rfl) (by kernel_rfl) j0 (by kernel_rfl) (dt0 ⟨(fun _=>pa j0 j0 j0 j0 (geq ti3 j0 j0<|j4)),(fun _=>pa j0 j0 j0 j0 (lnM ti25 j0 j0 j0<|j4)),(fun _=>pa j0 j0 j0 j0 (ld ti25 j0 j0<|j4)),(fun _=>pa j0 j0 j0 j0 (fa ti131 j0 j0 j0<|j4)),(fun _=>pa j0 j0 j0 j0 (nc j0 j0<|j4)),(fun _=>pa j0 j0 j0 j0 (mv j0<|j4)),(fun _=>pa j0 j0 j0 j0 (ld ti3 j0 j0<|j4)),(fun _=>pa j0 j0 j0 j0 (fa ti69 j0 j0 j0<|j4)),j5⟩ (by kernel_rfl) j0 ⟨[.old 0,.old 1,.old 2,.old 3],cv j0 (.mpt j0)<|cv j0 (.mpt j0)<|ce j0 j0<|ce j0 j0<|cn,j0,⟨⟨_,j0,rsOne (cc12 j0 (by exact ⟨.msl j0,.msl j0,ci j0,j5⟩))⟩,⟨_,j0,rsMap (fun _=>j0)⟩,⟨_,j0,rsMap (fun _=>j0)⟩,⟨_,j0,rsOne (ciL j0)⟩,j5⟩,j0,j1⟩) ?_
     refine sw_cond j0 (fun hc13=>?_) (fun hc13=>?_)
     ·
      replace h:=bT hc13 h
      refine rg j0<|u<|mv j0<|u<|nc j0 j0<|u<|fa ti131 j0 j0 j0<|u<|sto ti4 j0 j0 j0<|r_nil ?_
      refine sw_ret ?_
      obtain rfl:=sm h
      exact ⟨_,j0,[.old 0,.dead,.dead,.old 1,.old 2],rsTup j5,j0,⟨⟨_,j0,rsOne (cc12 j0 (by exact ⟨.msl j0,.msl j0,ci j0,j5⟩))⟩,⟨_,j0,rsMap (fun _=>j0)⟩,⟨_,j0,rsMap (fun _=>j0)⟩,j5⟩,j0,j1⟩
     ·
      replace h:=bF hc13 h
      refine sw_skip ?_
      obtain ⟨v16,q14,h⟩:=bs h
      refine rg j0<|u<|mv j0<|u<|mv j0<|u<|nc j0 j0<|u<|fa ti131 j0 j0 j0<|u<|ld ti25 j0 j0<|r_can (env0:=[(0,.mpt 0 0 0),(3,.mpt 3 0 0),(4,sA v15.1),(67,.mpt 0 0 0),(71,.isl 1 (List.map rStr v5))]) (st0:=[some (15,[(vK v1 v2 v3 v4 (.isl 1 (List.map rStr v5)) (.msl 2 0 (List.length v15.2.1)) (bA v15.2.2))]),none,some (1,List.map rStr v15.2.1),some (4,[(rApiIns v8)])]) ⟨[.old 0,.dead,.old 2,.old 3],cv j0 (.mpt j0)<|cv j0 (.mpt j0)<|ce j0 j0<|cv j0 (.mpt j0)<|cv j0 (rsSeal j0 j0 (fun _=>j0))<|cn,j0,⟨⟨_,j0,rsOne (cc12 j0 (by exact ⟨rsSeal j0 j0 (fun _=>j0),.msl j0,ci j0,j5⟩))⟩,⟨_,j0,rsMap (fun _=>j0)⟩,⟨_,j0,rsOne (ciL j0)⟩,j5⟩,j0,j1⟩<|u<|sc [] (cloneW_ok v5 q14) j0 j0 j0 j0 ⟨(rnI j0),j5⟩ j5<|r_can (env0:=[(0,.mpt 0 0 0),(3,.mpt 3 0 0),(4,sA v15.1),(67,.mpt 0 0 0),(72,.msl 4 0 (List.length v16))]) (st0:=[some (15,[(vK v1 v2 v3 v4 (.isl 1 (List.map rStr v5)) (.msl 2 0 (List.length v15.2.1)) (bA v15.2.2))]),none,some (1,List.map rStr v15.2.1),some (4,[(rApiIns v8)]),some (1,List.map rStr v16)]) ⟨[.old 0,.dead,.old 2,.old 3,.old 4],cv j0 (.mpt j0)<|cv j0 (.mpt j0)<|ce j0 j0<|cv j0 (.mpt j0)<|cv j0 (.msl j0)<|cn,j0,⟨⟨_,j0,rsOne (cc12 j0 (by exact ⟨ci j0,.msl j0,ci j0,j5⟩))⟩,⟨_,j0,rsMap (fun _=>j0)⟩,⟨_,j0,rsOne (ciL j0)⟩,⟨_,j0,rsMap (fun _=>j0)⟩,j5⟩,j0,j1⟩<|u<|nc j0 j0<|u<|fa ti131 j0 j0 j0<|u<|sto ti25 j0 j0 j0<|r_nil ?_
      obtain ⟨v17,q15,h⟩:=bs h
      refine rdL [] [some (15,[(vK v1 v2 v3 v4 (.msl 3 0 (List.length (List.set v16 (Int.toNat v8.A) v15.1))) (.msl 2 0 (List.length v15.2.1)) (bA v15.2.2))]),none,some (1,List.map rStr v15.2.1),some (1,List.map rStr (List.set v16 (Int.toNat v8.A) v15.1))] [8] [7,6,5,4,3,2,1,0] [(82,.mpt 4 (Int.toNat v8.A) 0),(81,sA v15.1),(80,iA v8.A),(79,.mpt 3 0 1),(78,.msl 4 0 (List.length v16)),(77,.mpt 0 0 12),(76,.mpt 0 0 0),(75,.mpt 0 0 0)] 1 (by kernel_rfl) (by kernel_rfl) j0 (by kernel_rfl) (dtS ⟨(fun _=>pa j0 j0 j0 j0 (ixM ti25 j0 ti9 j0 j0 j0 j0 q15<|j4)),(fun _=>pa j0 j0 j0 j0 (mv j0<|j4)),(fun _=>pa j0 j0 j0 j0 (ld ti3 j0 j0<|j4)),(fun _=>pa j0 j0 j0 j0 (fa ti69 j0 j0 j0<|j4)),(fun _=>pa j0 j0 j0 j0 (ld ti25 j0 j0<|j4)),(fun _=>pa j0 j0 j0 j0 (fa ti131 j0 j0 j0<|j4)),(fun _=>pa j0 j0 j0 j0 (nc j0 j0<|j4)),(fun _=>pa j0 j0 j0 j0 (mv j0<|j4)),j5⟩ (by kernel_rfl) j0 ⟨(fun _ _=>⟨_,j0,j0,stoM (c':=v15.1) ti9 j0 j0 (idx_some q15).2.2 j0 j0 j0 j0 j0<|⟨.any,[],[],j0,j0,by kernel_rfl,j5,dt0 ⟨(fun h=>by cases h),(fun h=>by cases h),(fun h=>by cases h),(fun h=>by cases h),(fun h=>by cases h),(fun h=>by cases h),(fun h=>by cases h),(fun h=>by cases h),j5⟩ (by kernel_rfl) j0 ⟨[.old 0,.dead,.old 2,.old 4],cn,j0,⟨⟨_,j0,rsOne (cc12 j0 (by exact ⟨mslE (by simp) j0,.msl j0,ci j0,j5⟩))⟩,⟨_,j0,rsMap (fun _=>j0)⟩,⟨_,j0,rsMap (fun _=>j0)⟩,j5⟩,j0,j1⟩⟩⟩),j5⟩) ?_
      obtain rfl:=sm h
      exact ⟨_,j0,[.old 0,.dead,.dead,.old 3,.old 2],rsTup j5,j0,⟨⟨_,j0,rsOne (cc12 j0 (by exact ⟨.msl j0,.msl j0,ci j0,j5⟩))⟩,⟨_,j0,rsMap (fun _=>j0)⟩,⟨_,j0,rsMap (fun _=>j0)⟩,j5⟩,j0,j1⟩
    ·
     replace h:=bF hc11 h
     refine rg j0<|u<|eql ti3 j0 j0<|u<|asg j0<|r_nil ?_
     refine sw_cond j0 (fun hc16=>?_) (fun hc16=>?_)
     ·
      replace h:=bT hc16 h
      obtain ⟨v18,q17,h⟩:=bs h
      refine rl j0<|u<|mv j0<|u<|sc [0,1,2] (verify_checker_pop_ok v1 v2 v3 v4 v5 v6 v7 q17) j0 j0 j0 j0 ⟨(.mpt j0),j5⟩ ⟨⟨_,j0,(rr12 j0 ⟨(.msl j0),(.msl j0),(rnI j0),j5⟩)⟩,⟨j0,mkI (fun _=>j0)⟩,⟨j0,mkI (fun _=>j0)⟩,j5⟩<|r_can (env0:=[]) (st0:=[some (15,[(vK v1 v2 v3 v4 (.msl 1 0 (List.length v5)) (.msl 2 0 (List.length v18.2.1)) (bA v18.2.2))]),some (1,List.map rStr v5),some (1,List.map rStr v18.2.1)]) ⟨[.old 0,.old 1,.old 2],cn,j0,⟨⟨_,j0,rsOne (cc12 j0 (by exact ⟨.msl j0,.msl j0,ci j0,j5⟩))⟩,⟨_,j0,rsMap (fun _=>j0)⟩,⟨_,j0,rsMap (fun _=>j0)⟩,j5⟩,j0,j1⟩<|r_nil ?_
      obtain rfl:=sm h
      exact ⟨_,j0,[.old 0,.dead,.dead,.old 1,.old 2],rsTup j5,j0,⟨⟨_,j0,rsOne (cc12 j0 (by exact ⟨.msl j0,.msl j0,ci j0,j5⟩))⟩,⟨_,j0,rsMap (fun _=>j0)⟩,⟨_,j0,rsMap (fun _=>j0)⟩,j5⟩,j0,j1⟩
     ·
      replace h:=bF hc16 h
      refine rg j0<|u<|eql ti3 j0 j0<|u<|asg j0<|r_nil ?_
      refine sw_cond j0 (fun hc18=>?_) (fun hc18=>?_)
      ·
       replace h:=bT hc18 h
       obtain ⟨v19,q19,h⟩:=bs h
       refine rg j0<|u<|mv j0<|u<|sc [0,1,2] (verify_checker_pop_ok v1 v2 v3 v4 v5 v6 v7 q19) j0 j0 j0 j0 ⟨(.mpt j0),j5⟩ ⟨⟨_,j0,(rr12 j0 ⟨(.msl j0),(.msl j0),(rnI j0),j5⟩)⟩,⟨j0,mkI (fun _=>j0)⟩,⟨j0,mkI (fun _=>j0)⟩,j5⟩<|r_can (env0:=[(0,.mpt 0 0 0),(90,sA v19.1)]) (st0:=[some (15,[(vK v1 v2 v3 v4 (.msl 1 0 (List.length v5)) (.msl 2 0 (List.length v19.2.1)) (bA v19.2.2))]),some (1,List.map rStr v5),some (1,List.map rStr v19.2.1)]) ⟨[.old 0,.old 1,.old 2],cv j0 (.mpt j0)<|ce j0 j0<|cn,j0,⟨⟨_,j0,rsOne (cc12 j0 (by exact ⟨.msl j0,.msl j0,ci j0,j5⟩))⟩,⟨_,j0,rsMap (fun _=>j0)⟩,⟨_,j0,rsMap (fun _=>j0)⟩,j5⟩,j0,j1⟩<|u<|asg j0<|r_nil ?_
       obtain ⟨v20,q20,h⟩:=bs h
       refine rg j0<|u<|mv j0<|u<|mv j0<|u<|sc [0,1,2] (verify_checker_push_ok v1 v2 v3 v4 v5 v19.2.1 v19.2.2 v19.1 q20) j0 j0 j0 j0 ⟨(.mpt j0),(rnI j0),j5⟩ ⟨⟨_,j0,(rr12 j0 ⟨(.msl j0),(.msl j0),(rnI j0),j5⟩)⟩,⟨j0,mkI (fun _=>j0)⟩,⟨j0,mkI (fun _=>j0)⟩,j5⟩<|r_can (env0:=[(0,.mpt 0 0 0),(5,sA v19.1)]) (st0:=[some (15,[(vK v1 v2 v3 v4 (.msl 1 0 (List.length v5)) (.msl 3 0 (List.length v20)) (bA v19.2.2))]),some (1,List.map rStr v5),none,some (1,List.map rStr v20)]) ⟨[.old 0,.old 1,.dead,.old 3],cv j0 (.mpt j0)<|ce j0 j0<|cn,j0,⟨⟨_,j0,rsOne (cc12 j0 (by exact ⟨.msl j0,.msl j0,ci j0,j5⟩))⟩,⟨_,j0,rsMap (fun _=>j0)⟩,⟨_,j0,rsMap (fun _=>j0)⟩,j5⟩,j0,j1⟩<|r_nil ?_
       obtain ⟨v21,q21,h⟩:=bs h
       refine rl j0<|u<|mv j0<|u<|mv j0<|u<|sc [0,1,3] (verify_checker_push_ok v1 v2 v3 v4 v5 v20 v19.2.2 v19.1 q21) j0 j0 j0 j0 ⟨(.mpt j0),(rnI j0),j5⟩ ⟨⟨_,j0,(rr12 j0 ⟨(.msl j0),(.msl j0),(rnI j0),j5⟩)⟩,⟨j0,mkI (fun _=>j0)⟩,⟨j0,mkI (fun _=>j0)⟩,j5⟩<|r_can (env0:=[]) (st0:=[some (15,[(vK v1 v2 v3 v4 (.msl 1 0 (List.length v5)) (.msl 3 0 (List.length v21)) (bA v19.2.2))]),some (1,List.map rStr v5),none,some (1,List.map rStr v21)]) ⟨[.old 0,.old 1,.dead,.old 4],cn,j0,⟨⟨_,j0,rsOne (cc12 j0 (by exact ⟨.msl j0,.msl j0,ci j0,j5⟩))⟩,⟨_,j0,rsMap (fun _=>j0)⟩,⟨_,j0,rsMap (fun _=>j0)⟩,j5⟩,j0,j1⟩<|r_nil ?_
       obtain rfl:=sm h
       exact ⟨_,j0,[.old 0,.dead,.dead,.old 1,.old 3],rsTup j5,j0,⟨⟨_,j0,rsOne (cc12 j0 (by exact ⟨.msl j0,.msl j0,ci j0,j5⟩))⟩,⟨_,j0,rsMap (fun _=>j0)⟩,⟨_,j0,rsMap (fun _=>j0)⟩,j5⟩,j0,j1⟩
      ·
       replace h:=bF hc18 h
       refine rg j0<|u<|eql ti3 j0 j0<|u<|asg j0<|r_nil ?_
       refine sw_cond j0 (fun hc22=>?_) (fun hc22=>?_)
       ·
        replace h:=bT hc22 h
        obtain ⟨v22,q23,h⟩:=bs h
        obtain ⟨v23,q24,h⟩:=bs h
        refine rg j0<|u<|mv j0<|u<|sc [0,1,2] (verify_checker_pop_ok v1 v2 v3 v4 v5 v6 v7 q23) j0 j0 j0 j0 ⟨(.mpt j0),j5⟩ ⟨⟨_,j0,(rr12 j0 ⟨(.msl j0),(.msl j0),(rnI j0),j5⟩)⟩,⟨j0,mkI (fun _=>j0)⟩,⟨j0,mkI (fun _=>j0)⟩,j5⟩<|r_can (env0:=[(0,.mpt 0 0 0),(100,sA v22.1)]) (st0:=[some (15,[(vK v1 v2 v3 v4 (.msl 1 0 (List.length v5)) (.msl 2 0 (List.length v22.2.1)) (bA v22.2.2))]),some (1,List.map rStr v5),some (1,List.map rStr v22.2.1)]) ⟨[.old 0,.old 1,.old 2],cv j0 (.mpt j0)<|ce j0 j0<|cn,j0,⟨⟨_,j0,rsOne (cc12 j0 (by exact ⟨.msl j0,.msl j0,ci j0,j5⟩))⟩,⟨_,j0,rsMap (fun _=>j0)⟩,⟨_,j0,rsMap (fun _=>j0)⟩,j5⟩,j0,j1⟩<|u<|mv j0<|u<|sc [0,1,2] (verify_checker_pop_ok v1 v2 v3 v4 v5 v22.2.1 v22.2.2 q24) j0 j0 j0 j0 ⟨(.mpt j0),j5⟩ ⟨⟨_,j0,(rr12 j0 ⟨(.msl j0),(.msl j0),(rnI j0),j5⟩)⟩,⟨j0,mkI (fun _=>j0)⟩,⟨j0,mkI (fun _=>j0)⟩,j5⟩<|r_can (env0:=[(0,.mpt 0 0 0),(100,sA v22.1),(102,sA v23.1)]) (st0:=[some (15,[(vK v1 v2 v3 v4 (.msl 1 0 (List.length v5)) (.msl 2 0 (List.length v23.2.1)) (bA v23.2.2))]),some (1,List.map rStr v5),some (1,List.map rStr v23.2.1)]) ⟨[.old 0,.old 1,.old 2],cv j0 (.mpt j0)<|ce j0 j0<|ce j0 j0<|cn,j0,⟨⟨_,j0,rsOne (cc12 j0 (by exact ⟨.msl j0,.msl j0,ci j0,j5⟩))⟩,⟨_,j0,rsMap (fun _=>j0)⟩,⟨_,j0,rsMap (fun _=>j0)⟩,j5⟩,j0,j1⟩<|u<|asg j0<|u<|asg j0<|r_nil ?_
        obtain ⟨v24,q25,h⟩:=bs h
        refine rg j0<|u<|mv j0<|u<|mv j0<|u<|sc [0,1,2] (verify_checker_push_ok v1 v2 v3 v4 v5 v23.2.1 v23.2.2 v22.1 q25) j0 j0 j0 j0 ⟨(.mpt j0),(rnI j0),j5⟩ ⟨⟨_,j0,(rr12 j0 ⟨(.msl j0),(.msl j0),(rnI j0),j5⟩)⟩,⟨j0,mkI (fun _=>j0)⟩,⟨j0,mkI (fun _=>j0)⟩,j5⟩<|r_can (env0:=[(0,.mpt 0 0 0),(7,sA v23.1)]) (st0:=[some (15,[(vK v1 v2 v3 v4 (.msl 1 0 (List.length v5)) (.msl 3 0 (List.length v24)) (bA v23.2.2))]),some (1,List.map rStr v5),none,some (1,List.map rStr v24)]) ⟨[.old 0,.old 1,.dead,.old 3],cv j0 (.mpt j0)<|ce j0 j0<|cn,j0,⟨⟨_,j0,rsOne (cc12 j0 (by exact ⟨.msl j0,.msl j0,ci j0,j5⟩))⟩,⟨_,j0,rsMap (fun _=>j0)⟩,⟨_,j0,rsMap (fun _=>j0)⟩,j5⟩,j0,j1⟩<|r_nil ?_
        obtain ⟨v25,q26,h⟩:=bs h
        refine rl j0<|u<|mv j0<|u<|mv j0<|u<|sc [0,1,3] (verify_checker_push_ok v1 v2 v3 v4 v5 v24 v23.2.2 v23.1 q26) j0 j0 j0 j0 ⟨(.mpt j0),(rnI j0),j5⟩ ⟨⟨_,j0,(rr12 j0 ⟨(.msl j0),(.msl j0),(rnI j0),j5⟩)⟩,⟨j0,mkI (fun _=>j0)⟩,⟨j0,mkI (fun _=>j0)⟩,j5⟩<|r_can (env0:=[]) (st0:=[some (15,[(vK v1 v2 v3 v4 (.msl 1 0 (List.length v5)) (.msl 3 0 (List.length v25)) (bA v23.2.2))]),some (1,List.map rStr v5),none,some (1,List.map rStr v25)]) ⟨[.old 0,.old 1,.dead,.old 4],cn,j0,⟨⟨_,j0,rsOne (cc12 j0 (by exact ⟨.msl j0,.msl j0,ci j0,j5⟩))⟩,⟨_,j0,rsMap (fun _=>j0)⟩,⟨_,j0,rsMap (fun _=>j0)⟩,j5⟩,j0,j1⟩<|r_nil ?_
        obtain rfl:=sm h
        exact ⟨_,j0,[.old 0,.dead,.dead,.old 1,.old 3],rsTup j5,j0,⟨⟨_,j0,rsOne (cc12 j0 (by exact ⟨.msl j0,.msl j0,ci j0,j5⟩))⟩,⟨_,j0,rsMap (fun _=>j0)⟩,⟨_,j0,rsMap (fun _=>j0)⟩,j5⟩,j0,j1⟩
       ·
        replace h:=bF hc22 h
        refine sw_skip ?_
        obtain rfl:=sm h
        exact ⟨_,j0,[.old 0,.dead,.dead,.old 1,.old 2],rsTup j5,j0,⟨⟨_,j0,rsOne (cc12 j0 (by exact ⟨.msl j0,.msl j0,ci j0,j5⟩))⟩,⟨_,j0,rsMap (fun _=>j0)⟩,⟨_,j0,rsMap (fun _=>j0)⟩,j5⟩,j0,j1⟩
def verify_checker_take_k2 (v21 : List (List UInt8)) (v22 : Bool) : Option ((List (List UInt8)) × Bool) :=
  some (v21,v22)
def verify_checker_take_l1 (v1 : List ApiClass) (v2 : List (List UInt8 × Int)) (v3 : List UInt8) (v4 : ApiMethod) (v5 : List (List UInt8)) (v8 : List (List UInt8)) (v15 : List (List UInt8)) (v16 : Bool) (v17 : Int) : Option (Sum ((List (List UInt8)) × Bool × Int) (Sum ((List (List UInt8)) × Bool) ((List (List UInt8)) × Bool))) :=
  cond (decide (0 ≤ v17)) ((idx v8 v17).bind fun v18=>(verify_checker_pop v1 v2 v3 v4 v5 v15 v16).bind fun v19=>(types_Fits_s3 v1 v2 v19.1 v18).bind fun v20=>some (.inl (v19.2.1,(v19.2.2 || (!v20)),(IntKind.i64.wrap (v17 - 1))))) (some (.inr (.inl (v15,v16))))
def verify_checker_take (v1 : List ApiClass) (v2 : List (List UInt8 × Int)) (v3 : List UInt8) (v4 : ApiMethod) (v5 : List (List UInt8)) (v6 : List (List UInt8)) (v7 : Bool) (v8 : List (List UInt8)) : Option ((List (List UInt8)) × Bool) :=
  (loopP (fun z=>verify_checker_take_l1 v1 v2 v3 v4 v5 v8 z.1 z.2.1 z.2.2) (v6,v7,(IntKind.i64.wrap ((List.length v8 : Int) - 1)))).bind fun o=>leave o (fun b=>verify_checker_take_k2 b.1 b.2) some
theorem verify_checker_take_ok (v1 : List ApiClass) (v2 : List (List UInt8 × Int)) (v3 : List UInt8) (v4 : ApiMethod) (v5 : List (List UInt8)) (v6 : List (List UInt8)) (v7 : Bool) (v8 : List (List UInt8)) {r : (List (List UInt8)) × Bool} (h : verify_checker_take v1 v2 v3 v4 v5 v6 v7 v8 = some r) : SC Tryz.prog 141 [.mpt 0 0 0,.isl 1 (List.map rStr v8)] [.one 15 (vK v1 v2 v3 v4 (.msl 1 0 (List.length v5)) (.msl 2 0 (List.length v6)) (bA v7)),.many 1 (List.map rStr v5),.many 1 (List.map rStr v6)] (.tup []) [.one 15 (vK v1 v2 v3 v4 (.msl 1 0 (List.length v5)) (.msl 2 0 (List.length r.1)) (bA r.2)),.many 1 (List.map rStr v5),.many 1 (List.map rStr r.1)]:=by
 refine ⟨⟨j5,sbOk (sz:=1) (fun _=>j0),sbOk (sz:=1) (fun _=>j0),j5⟩,scall_fn Tryz.func141 j0 (by kernel_rfl) j0 ?_⟩
 unfold verify_checker_take at h
 refine rg j0<|u<|mv j0<|u<|lnI ti25 j0 j0<|u<|sub ti3 j0 j0<|u<|asg j0<|r_nil ?_
 obtain ⟨o,ho,h⟩:=bs h
 refine sw_lpl (X:=(List (List UInt8)) × Bool × Int) (B:=(List (List UInt8)) × Bool) (R:=(List (List UInt8)) × Bool) (fun z=>[(0,.mpt 0 0 0),(1,.isl 1 (List.map rStr v8)),(4,iA z.2.2)]) (fun z=>[some (15,[(vK v1 v2 v3 v4 (.msl 1 0 (List.length v5)) (.msl 2 0 (List.length z.1)) (bA z.2.1))]),some (1,List.map rStr v5),some (1,List.map rStr z.1)]) (fun b=>[]) (fun b=>[some (15,[(vK v1 v2 v3 v4 (.msl 1 0 (List.length v5)) (.msl 2 0 (List.length b.1)) (bA b.2))]),some (1,List.map rStr v5),some (1,List.map rStr b.1)]) (fun r env st=>PostF Tryz.prog Tryz.f141 3 (.tup []) [some (15,[(vK v1 v2 v3 v4 (.msl 1 0 (List.length v5)) (.msl 2 0 (List.length r.1)) (bA r.2))]),some (1,List.map rStr v5),some (1,List.map rStr r.1)] env st) ho ⟨[.old 0,.old 1,.old 2],cv j0 (.mpt j0)<|ce j0 j0<|ce j0 j0<|cn,j0,⟨⟨_,j0,rsOne (cc12 j0 (by exact ⟨.msl j0,.msl j0,ci j0,j5⟩))⟩,⟨_,j0,rsMap (fun _=>j0)⟩,⟨_,j0,rsMap (fun _=>j0)⟩,j5⟩,j0,j1⟩ ?_ ?_ ?_
 ·
  rintro ⟨v15,v16,v17⟩ r h
  replace h : verify_checker_take_l1 v1 v2 v3 v4 v5 v8 v15 v16 v17 = some r:=h
  unfold verify_checker_take_l1 at h
  refine sw_seq ?_
  refine rg j0<|u<|mv j0<|u<|geq ti3 j0 j0<|r_nil ?_
  refine sw_cond j0 (fun hc5=>?_) (fun hc5=>?_)
  ·
   replace h:=bT hc5 h
   refine sw_skip ?_
   refine sw_seq ?_
   refine sw_block ?_
   obtain ⟨v18,q6,h⟩:=bs h
   obtain ⟨v19,q7,h⟩:=bs h
   obtain ⟨v20,q8,h⟩:=bs h
   refine rdL [(0,.mpt 0 0 0),(1,.isl 1 (List.map rStr v8)),(4,iA v17)] [some (15,[(vK v1 v2 v3 v4 (.msl 1 0 (List.length v5)) (.msl 2 0 (List.length v19.2.1)) (bA (v19.2.2 || (!v20))))]),some (1,List.map rStr v5),some (1,List.map rStr v19.2.1)] [6,12] [10,9,8,7,5,4,3,2,1,0] [(22,sA v18),(21,.ipt 1 (List.map rStr v8) (Int.toNat v17) 0),(20,iA v17),(19,.isl 1 (List.map rStr v8)),(17,.mpt 0 0 0),(16,.ipt 2 [[.isl 6 (List.map rApiClass v1),.imp (List.map (rKV (fun x=>iA x)) v2)]] 0 0),(15,.mpt 0 0 0),(14,.mpt 0 0 0),(13,.mpt 0 0 0),(12,.mpt 0 0 0)] 2 (by kernel_rfl) (by kernel_rfl) j0 (by kernel_rfl) (dtS ⟨(fun _=>pa j0 j0 j0 j0 (ldI ti9 j0 (idx_some q6).2.2 j0<|j4)),(fun _=>pa j0 j0 j0 j0 (ixI ti25 j0 ti9 j0 j0 j0 q6<|j4)),(fun _=>pa j0 j0 j0 j0 (mv j0<|j4)),(fun _=>pa j0 j0 j0 j0 (mv j0<|j4)),(fun _=>pa j0 j0 j0 j0 (mv j0<|j4)),(fun _=>pa j0 j0 j0 j0 (ld ti32 j0 j0<|j4)),(fun _=>pa j0 j0 j0 j0 (fa ti131 j0 j0 j0<|j4)),(fun _=>pa j0 j0 j0 j0 (nc j0 j0<|j4)),(fun _=>pa j0 j0 j0 j0 (mv j0<|j4)),(fun _=>pa j0 j0 j0 j0 (mv j0<|j4)),j5⟩ (by kernel_rfl) j0 ⟨(fun _ _=>⟨_,j0,j0,sc [0,1,2] (verify_checker_pop_ok v1 v2 v3 v4 v5 v15 v16 q7) j0 j0 j0 j0 ⟨(.mpt j0),j5⟩ ⟨⟨_,j0,(rr12 j0 ⟨(.msl j0),(.msl j0),(rnI j0),j5⟩)⟩,⟨j0,mkI (fun _=>j0)⟩,⟨j0,mkI (fun _=>j0)⟩,j5⟩<|⟨(sA v19.1),[11],[(23,bA v20),(18,sA v19.1)],j0,j0,by kernel_rfl,j0,dtS ⟨(fun _=>pa j0 j0 j0 j0 (pc (types_Fits_s3_ok v1 v2 v19.1 v18 q8) j0 j0 j0<|j4)),(fun _=>pa j0 j0 j0 j0 (ldI ti9 j0 (idx_some q6).2.2 j0<|j4)),(fun _=>pa j0 j0 j0 j0 (ixI ti25 j0 ti9 j0 j0 j0 q6<|j4)),(fun _=>pa j0 j0 j0 j0 (mv j0<|j4)),(fun _=>pa j0 j0 j0 j0 (mv j0<|j4)),(fun h=>by cases h),(fun _=>pa j0 j0 j0 j0 (ld ti32 j0 j0<|j4)),(fun _=>pa j0 j0 j0 j0 (fa ti131 j0 j0 j0<|j4)),(fun _=>pa j0 j0 j0 j0 (nc j0 j0<|j4)),(fun _=>pa j0 j0 j0 j0 (mv j0<|j4)),(fun _=>pa j0 j0 j0 j0 (mv j0<|j4)),j5⟩ (by kernel_rfl) j0 ⟨(fun h=>by cases h),(fun _ _=>⟨_,j0,j0,sc [0,1,2] (verify_checker_need_ok v1 v2 v3 v4 v5 v19.2.1 v19.2.2 v20 j0) j0 j0 j0 j0 ⟨(.mpt j0),(rnI j0),j5⟩ ⟨⟨_,j0,(rr12 j0 ⟨(.msl j0),(.msl j0),(rnI j0),j5⟩)⟩,⟨j0,mkI (fun _=>j0)⟩,⟨j0,mkI (fun _=>j0)⟩,j5⟩<|⟨(.tup []),[],[(24,.tup [])],j0,j0,by kernel_rfl,j0,dt0 ⟨(fun h=>by cases h),(fun _=>pa j0 j0 j0 j0 (ldI ti9 j0 (idx_some q6).2.2 j0<|j4)),(fun _=>pa j0 j0 j0 j0 (ixI ti25 j0 ti9 j0 j0 j0 q6<|j4)),(fun _=>pa j0 j0 j0 j0 (mv j0<|j4)),(fun _=>pa j0 j0 j0 j0 (mv j0<|j4)),(fun h=>by cases h),(fun _=>pa j0 j0 j0 j0 (ld ti32 j0 j0<|j4)),(fun _=>pa j0 j0 j0 j0 (fa ti131 j0 j0 j0<|j4)),(fun _=>pa j0 j0 j0 j0 (nc j0 j0<|j4)),(fun _=>pa j0 j0 j0 j0 (mv j0<|j4)),(fun h=>by cases h),j5⟩ (by kernel_rfl) j0 ⟨[.old 0,.old 1,.old 2],cv j0 (.mpt j0)<|ce j0 j0<|ce j0 j0<|cn,j0,⟨⟨_,j0,rsOne (cc12 j0 (by exact ⟨.msl j0,.msl j0,ci j0,j5⟩))⟩,⟨_,j0,rsMap (fun _=>j0)⟩,⟨_,j0,rsMap (fun _=>j0)⟩,j5⟩,j0,j1⟩⟩⟩),j5⟩⟩⟩),(fun _ h=>by cases h),j5⟩) ?_
   refine rl j0<|u<|mv j0<|u<|sub ti3 j0 j0<|u<|asg j0<|r_nil ?_
   obtain rfl:=sm h
   exact ⟨_,j0,[.old 0,.old 1,.old 2],cv j0 (.mpt j0)<|ce j0 j0<|ce j0 j0<|cn,j0,⟨⟨_,j0,rsOne (cc12 j0 (by exact ⟨.msl j0,.msl j0,ci j0,j5⟩))⟩,⟨_,j0,rsMap (fun _=>j0)⟩,⟨_,j0,rsMap (fun _=>j0)⟩,j5⟩,j0,j1⟩
  ·
   replace h:=bF hc5 h
   refine sw_exit ?_
   obtain rfl:=sm h
   exact ⟨j0,_,j0,[.old 0,.old 1,.old 2],cn,j0,⟨⟨_,j0,rsOne (cc12 j0 (by exact ⟨.msl j0,.msl j0,ci j0,j5⟩))⟩,⟨_,j0,rsMap (fun _=>j0)⟩,⟨_,j0,rsMap (fun _=>j0)⟩,j5⟩,j0,j1⟩
 ·
  rintro ⟨v21,v22⟩ rfl
  replace h : verify_checker_take_k2 v21 v22 = some r:=h
  unfold verify_checker_take_k2 at h
  refine ow_intro ?_
  obtain rfl:=sm h
  exact ⟨_,j0,[.old 0,.old 1,.old 2],rsTup j5,j0,⟨⟨_,j0,rsOne (cc12 j0 (by exact ⟨.msl j0,.msl j0,ci j0,j5⟩))⟩,⟨_,j0,rsMap (fun _=>j0)⟩,⟨_,j0,rsMap (fun _=>j0)⟩,j5⟩,j0,j1⟩
 ·
  rintro r' rfl env st hp
  obtain rfl:=sm h
  exact hp
end
end Go.Proofs.YtjbdfkapnffjnaaGreat
namespace Go.Proofs.YtjbdfkapnffjnaaGreat
noncomputable section
set_option linter.unusedSimpArgs false
set_option linter.unusedVariables false
set_option maxRecDepth 100000
set_option maxHeartbeats 4000000
def verify_checker_ref (v1 : List ApiClass) (v2 : List (List UInt8 × Int)) (v3 : List UInt8) (v4 : ApiMethod) (v5 : List (List UInt8)) (v6 : List (List UInt8)) (v7 : Bool) : Option ((List UInt8) × (List (List UInt8)) × Bool) :=
  (verify_checker_pop v1 v2 v3 v4 v5 v6 v7).bind fun v8=>(cond (v8.1 == [78]) (some true) ((kind_Ref v8.1).bind fun v9=>some v9)).bind fun v10=>some (v8.1,v8.2.1,(v8.2.2 || (!v10)))
theorem verify_checker_ref_ok (v1 : List ApiClass) (v2 : List (List UInt8 × Int)) (v3 : List UInt8) (v4 : ApiMethod) (v5 : List (List UInt8)) (v6 : List (List UInt8)) (v7 : Bool) {r : (List UInt8) × (List (List UInt8)) × Bool} (h : verify_checker_ref v1 v2 v3 v4 v5 v6 v7 = some r) : SC Tryz.prog 143 [.mpt 0 0 0] [.one 15 (vK v1 v2 v3 v4 (.msl 1 0 (List.length v5)) (.msl 2 0 (List.length v6)) (bA v7)),.many 1 (List.map rStr v5),.many 1 (List.map rStr v6)] (sA r.1) [.one 15 (vK v1 v2 v3 v4 (.msl 1 0 (List.length v5)) (.msl 2 0 (List.length r.2.1)) (bA r.2.2)),.many 1 (List.map rStr v5),.many 1 (List.map rStr r.2.1)]:=by
 refine ⟨⟨j5,sbOk (sz:=1) (fun _=>j0),sbOk (sz:=1) (fun _=>j0),j5⟩,scall_fn Tryz.func143 j0 (by kernel_rfl) j0 ?_⟩
 unfold verify_checker_ref at h
 refine rg j0<|u<|asg j0<|r_nil ?_
 obtain ⟨v8,q1,h⟩:=bs h
 refine rg j0<|u<|mv j0<|u<|sc [0,1,2] (verify_checker_pop_ok v1 v2 v3 v4 v5 v6 v7 q1) j0 j0 j0 j0 ⟨(.mpt j0),j5⟩ ⟨⟨_,j0,(rr12 j0 ⟨(.msl j0),(.msl j0),(rnI j0),j5⟩)⟩,⟨j0,mkI (fun _=>j0)⟩,⟨j0,mkI (fun _=>j0)⟩,j5⟩<|r_can (env0:=[(0,.mpt 0 0 0),(5,sA v8.1)]) (st0:=[some (15,[(vK v1 v2 v3 v4 (.msl 1 0 (List.length v5)) (.msl 2 0 (List.length v8.2.1)) (bA v8.2.2))]),some (1,List.map rStr v5),some (1,List.map rStr v8.2.1)]) ⟨[.old 0,.old 1,.old 2],cv j0 (.mpt j0)<|ce j0 j0<|cn,j0,⟨⟨_,j0,rsOne (cc12 j0 (by exact ⟨.msl j0,.msl j0,ci j0,j5⟩))⟩,⟨_,j0,rsMap (fun _=>j0)⟩,⟨_,j0,rsMap (fun _=>j0)⟩,j5⟩,j0,j1⟩<|u<|asg j0<|r_nil ?_
 obtain ⟨v10,q4,h⟩:=bs h
 refine rg j0<|u<|mv j0<|u<|mv j0<|u<|seq ti9 j0 j0<|u<|mv j0<|r_or (x:=v10) (j:=3) 2 j0 j0 j0 j0 j0 gpn (fun hb2=>by replace q4:=bF hb2 q4; obtain ⟨v9,q3,q4⟩:=bs q4; obtain rfl:=sm q4; exact g j0 hb2<|mv j0<|g j0 hb2<|pc (kind_Ref_ok v8.1 q3) j0 j0 j0<|r_nil (eg [10,11] 2 j0 j0 j0 j0)) (fun hb=>(sm (bT hb q4)).symm)<|u<|sc [0,1,2] (verify_checker_need_ok v1 v2 v3 v4 v5 v8.2.1 v8.2.2 v10 j0) j0 j0 j0 j0 ⟨(.mpt j0),(rnI j0),j5⟩ ⟨⟨_,j0,(rr12 j0 ⟨(.msl j0),(.msl j0),(rnI j0),j5⟩)⟩,⟨j0,mkI (fun _=>j0)⟩,⟨j0,mkI (fun _=>j0)⟩,j5⟩<|r_can (env0:=[(3,sA v8.1)]) (st0:=[some (15,[(vK v1 v2 v3 v4 (.msl 1 0 (List.length v5)) (.msl 2 0 (List.length v8.2.1)) (bA (v8.2.2 || (!v10))))]),some (1,List.map rStr v5),some (1,List.map rStr v8.2.1)]) ⟨[.old 0,.old 1,.old 2],ce j0 j0<|cn,j0,⟨⟨_,j0,rsOne (cc12 j0 (by exact ⟨.msl j0,.msl j0,ci j0,j5⟩))⟩,⟨_,j0,rsMap (fun _=>j0)⟩,⟨_,j0,rsMap (fun _=>j0)⟩,j5⟩,j0,j1⟩<|r_nil ?_
 refine rg j0<|u<|mv j0<|u<|asg j0<|r_nil ?_
 refine sw_ret ?_
 obtain rfl:=sm h
 exact ⟨_,j0,[.old 0,.old 1,.old 2],ci j0,j0,⟨⟨_,j0,rsOne (cc12 j0 (by exact ⟨.msl j0,.msl j0,ci j0,j5⟩))⟩,⟨_,j0,rsMap (fun _=>j0)⟩,⟨_,j0,rsMap (fun _=>j0)⟩,j5⟩,j0,j1⟩
def link_Field_s2_k2 : Option ((List UInt8) × ApiField × Bool) :=
  some ([],(ApiField.mk [] [] false),false)
def link_Field_s2_l1 (v1 : List ApiClass) (v2 : List (List UInt8 × Int)) (v4 : List UInt8) (v5 : (List (List UInt8))) (v11 : Int) : Option (Sum (Int) (Sum (Unit) ((List UInt8) × ApiField × Bool))) :=
  cond (decide (v11 < ((List.length v5) : Int))) ((idx v5 v11).bind fun v12=>(hier_Hier_Class_s3 v1 v2 v12).bind fun v13=>(class_Field v13.1 v4).bind fun v14=>cond (decide (0 ≤ v14)) ((idx v13.1.Fields v14).bind fun v15=>some (.inr (.inr (v12,v15,true)))) (some (.inl (IntKind.i64.wrap (v11 + 1))))) (some (.inr (.inl ())))
def link_Field_s2 (v1 : List ApiClass) (v2 : List (List UInt8 × Int)) (v3 : List UInt8) (v4 : List UInt8) : Option ((List UInt8) × ApiField × Bool) :=
  (hier_Hier_Supers_s2 v1 v2 v3).bind fun v5=>(loopP (fun z=>link_Field_s2_l1 v1 v2 v4 v5 z) 0).bind fun o=>leave o (fun b=>link_Field_s2_k2) some
theorem link_Field_s2_ok (v1 : List ApiClass) (v2 : List (List UInt8 × Int)) (v3 : List UInt8) (v4 : List UInt8) {r : (List UInt8) × ApiField × Bool} (h : link_Field_s2 v1 v2 v3 v4 = some r) : PureC Tryz.prog 162 [.ipt 2 [[.isl 6 (List.map rApiClass v1),.imp (List.map (rKV (fun x=>iA x)) v2)]] 0 0,sA v3,sA v4] (.tup [sA r.1,.agg (rApiField r.2.1),bA r.2.2]):=by
 refine pure_fn Tryz.func162 j0 (by kernel_rfl) j0 j0 ?_
 unfold link_Field_s2 at h
 refine rg j0<|u<|asg j0<|u<|al 0 ti52 j0<|u<|asg j0<|r_nil ?_
 refine sw_seq ?_
 obtain ⟨v5,q1,h⟩:=bs h
 refine rg j0<|u<|mv j0<|u<|mv j0<|u<|sc [] (hier_Hier_Supers_s2_ok v1 v2 v3 q1) j0 j0 j0 j0 ⟨(rnI j0),(rnI j0),j5⟩ j5<|r_can (env0:=[(0,.ipt 2 [[.isl 6 (List.map rApiClass v1),.imp (List.map (rKV (fun x=>iA x)) v2)]] 0 0),(2,sA v4),(7,.mpt 0 0 0),(16,.msl 1 0 (List.length v5))]) (st0:=[some (3,[[sA [],sA [],bA false]]),some (1,List.map rStr v5)]) ⟨[.old 0,.old 1],ce j0 j0<|ce j0 j0<|cv j0 (.mpt j0)<|cv j0 (.msl j0)<|cn,j0,⟨⟨_,j0,rsOne (ciL j0)⟩,⟨_,j0,rsMap (fun _=>j0)⟩,j5⟩,j0,j1⟩<|u<|lnM ti25 j0 j0 j0<|u<|mv j0<|r_nil ?_
 obtain ⟨o,ho,h⟩:=bs h
 refine sw_lpl (X:=Int) (B:=Unit) (R:=(List UInt8) × ApiField × Bool) (fun z=>[(0,.ipt 2 [[.isl 6 (List.map rApiClass v1),.imp (List.map (rKV (fun x=>iA x)) v2)]] 0 0),(2,sA v4),(7,.mpt 0 0 0),(16,.msl 1 0 (List.length v5)),(17,iA ((List.length v5) : Int)),(18,iA z)]) (fun z=>[some (3,[[sA [],sA [],bA false]]),some (1,List.map rStr v5)]) (fun b=>[(7,.mpt 0 0 0)]) (fun b=>[some (3,[[sA [],sA [],bA false]])]) (fun r env st=>PostF Tryz.prog Tryz.f162 0 (.tup [sA r.1,.agg (rApiField r.2.1),bA r.2.2]) [] env st) ho ⟨[.old 0,.old 1],ce j0 j0<|ce j0 j0<|cv j0 (.mpt j0)<|cv j0 (.msl j0)<|ce j0 j0<|ce j0 j0<|cn,j0,⟨⟨_,j0,rsOne (ciL j0)⟩,⟨_,j0,rsMap (fun _=>j0)⟩,j5⟩,j0,j1⟩ ?_ ?_ ?_
 ·
  rintro v11 r h
  replace h : link_Field_s2_l1 v1 v2 v4 v5 v11 = some r:=h
  unfold link_Field_s2_l1 at h
  refine rg j0<|u<|lss ti3 j0 j0<|r_nil ?_
  refine sw_seq ?_
  refine sw_cond j0 (fun hc8=>?_) (fun hc8=>?_)
  ·
   replace h:=bT hc8 h
   refine sw_skip ?_
   refine sw_seq ?_
   refine sw_block ?_
   obtain ⟨v12,q9,h⟩:=bs h
   refine rg j0<|u<|ixM ti25 j0 ti9 j0 j0 j0 j0 q9<|u<|ldM ti9 j0 j0 (idx_some q9).2.2 j0<|u<|asg j0<|r_nil ?_
   obtain ⟨v13,q10,h⟩:=bs h
   refine rg j0<|u<|mv j0<|u<|mv j0<|u<|pc (hier_Hier_Class_s3_ok v1 v2 v12 q10) j0 j0 j0<|u<|mv j0<|u<|ex j0 j0<|u<|ex j0 j0<|u<|al 2 ti29 j0<|u<|sto ti29 j0 j0 j0<|u<|asg j0<|r_nil ?_
   obtain ⟨v14,q11,h⟩:=bs h
   refine rg j0<|u<|ld ti29 j0 j0<|u<|mv j0<|u<|pc (class_Field_ok v13.1 v4 q11) j0 j0 j0<|u<|asg j0<|r_nil ?_
   refine rg j0<|u<|mv j0<|u<|geq ti3 j0 j0<|r_nil ?_
   refine sw_cond j0 (fun hc12=>?_) (fun hc12=>?_)
   ·
    replace h:=bT hc12 h
    obtain ⟨v15,q13,h⟩:=bs h
    refine rd [(6,sA v12),(7,.mpt 0 0 0),(8,bA true)] [some (3,[(rApiField v15)])] [7] [6,5,4,3,2,1,0] [(6,sA v12),(38,.agg (rApiField v15)),(37,.ipt 3 (List.map rApiField v13.1.Fields) (Int.toNat v14) 0),(36,iA v14),(35,.isl 3 (List.map rApiField v13.1.Fields)),(34,.mpt 2 0 4),(33,sA v12)] 1 (by kernel_rfl) (by kernel_rfl) j0 (by kernel_rfl) (dtS ⟨(fun _=>pa j0 j0 j0 j0 (asg j0<|j4)),(fun _=>pa j0 j0 j0 j0 (ldI ti52 j0 (idx_some q13).2.2 j0<|j4)),(fun _=>pa j0 j0 j0 j0 (ixI ti26 j0 ti52 j0 j0 j0 q13<|j4)),(fun _=>pa j0 j0 j0 j0 (mv j0<|j4)),(fun _=>pa j0 j0 j0 j0 (ld ti26 j0 j0<|j4)),(fun _=>pa j0 j0 j0 j0 (fa ti29 j0 j0 j0<|j4)),(fun _=>pa j0 j0 j0 j0 (mv j0<|j4)),j5⟩ (by kernel_rfl) j0 ⟨(fun _ _=>⟨_,j0,j0,sto ti52 j0 j0 j0<|⟨.any,[8],[(8,bA true)],j0,j0,by kernel_rfl,j5,dt0 ⟨(fun _=>pa j0 j0 j0 j0 (asg j0<|j4)),(fun h=>by cases h),(fun h=>by cases h),(fun h=>by cases h),(fun h=>by cases h),(fun h=>by cases h),(fun h=>by cases h),(fun h=>by cases h),j5⟩ (by kernel_rfl) j0 ⟨[.old 0],ce j0 j0<|cv j0 (.mpt j0)<|ce j0 j0<|cn,j0,⟨⟨_,j0,rsOne (ciL j0)⟩,j5⟩,j0,j1⟩⟩⟩),j5⟩) ?_
    refine sw_ret ?_
    obtain rfl:=sm h
    exact ⟨_,j0,_,j0,[],rsTup ⟨(ci j0),(ci j0),(ci j0),j5⟩,j0,j5,j0,j1⟩
   ·
    replace h:=bF hc12 h
    refine sw_skip ?_
    refine rl j0<|u<|add ti3 j0 j0<|u<|mv j0<|r_nil ?_
    obtain rfl:=sm h
    exact ⟨_,j0,[.old 0,.old 1],ce j0 j0<|ce j0 j0<|cv j0 (.mpt j0)<|cv j0 (.msl j0)<|ce j0 j0<|ce j0 j0<|cn,j0,⟨⟨_,j0,rsOne (ciL j0)⟩,⟨_,j0,rsMap (fun _=>j0)⟩,j5⟩,j0,j1⟩
  ·
   replace h:=bF hc8 h
   refine sw_exit ?_
   obtain rfl:=sm h
   exact ⟨j0,_,j0,[.old 0],cv j0 (.mpt j0)<|cn,j0,⟨⟨_,j0,rsOne (ciL j0)⟩,j5⟩,j0,j1⟩
 ·
  rintro ⟨⟩ rfl
  replace h : link_Field_s2_k2 = some r:=h
  unfold link_Field_s2_k2 at h
  refine ow_intro ?_
  refine rg j0<|u<|bd ti52 j0 j0 j0<|u<|asg j0<|u<|sto ti52 j0 j0 j0<|u<|asg j0<|r_nil ?_
  refine sw_ret ?_
  obtain rfl:=sm h
  exact ⟨_,j0,[],rsTup ⟨(ci j0),(ci j0),(ci j0),j5⟩,j0,j5,j0,j1⟩
 ·
  rintro r' rfl env st hp
  obtain rfl:=sm h
  exact hp
def verify_checker_field (v1 : List ApiClass) (v2 : List (List UInt8 × Int)) (v3 : List UInt8) (v4 : ApiMethod) (v5 : List (List UInt8)) (v6 : List (List UInt8)) (v7 : Bool) (v8 : ApiIns) : Option ((List (List UInt8)) × Bool) :=
  cond (v8.Op == (37 : Int)) ((hier_Hier_Class_s3 v1 v2 v8.C).bind fun v9=>(verify_checker_push v1 v2 v3 v4 v5 v6 (v7 || (!(v9.2 && (!v9.1.Interface)))) v8.C).bind fun v10=>some (v10,(v7 || (!(v9.2 && (!v9.1.Interface)))))) ((link_Field_s2 v1 v2 v8.C v8.M).bind fun v11=>cond (v8.Op == (38 : Int)) ((verify_checker_take v1 v2 v3 v4 v5 v6 (v7 || (!(v11.2.2 && (v11.2.1.Static == ((v8.Op == (40 : Int)) || (v8.Op == (41 : Int))))))) [v8.C]).bind fun v12=>(verify_checker_push v1 v2 v3 v4 v5 v12.1 v12.2 v11.2.1.Type_).bind fun v13=>some (v13,v12.2)) (cond (v8.Op == (39 : Int)) ((verify_checker_take v1 v2 v3 v4 v5 v6 (v7 || (!(v11.2.2 && (v11.2.1.Static == ((v8.Op == (40 : Int)) || (v8.Op == (41 : Int))))))) [v8.C,v11.2.1.Type_]).bind fun v14=>some (v14.1,v14.2)) (cond (v8.Op == (40 : Int)) ((verify_checker_push v1 v2 v3 v4 v5 v6 (v7 || (!(v11.2.2 && (v11.2.1.Static == ((v8.Op == (40 : Int)) || (v8.Op == (41 : Int))))))) v11.2.1.Type_).bind fun v15=>some (v15,(v7 || (!(v11.2.2 && (v11.2.1.Static == ((v8.Op == (40 : Int)) || (v8.Op == (41 : Int))))))))) ((verify_checker_take v1 v2 v3 v4 v5 v6 (v7 || (!(v11.2.2 && (v11.2.1.Static == ((v8.Op == (40 : Int)) || (v8.Op == (41 : Int))))))) [v11.2.1.Type_]).bind fun v16=>some (v16.1,v16.2)))))
theorem verify_checker_field_ok (v1 : List ApiClass) (v2 : List (List UInt8 × Int)) (v3 : List UInt8) (v4 : ApiMethod) (v5 : List (List UInt8)) (v6 : List (List UInt8)) (v7 : Bool) (v8 : ApiIns) {r : (List (List UInt8)) × Bool} (h : verify_checker_field v1 v2 v3 v4 v5 v6 v7 v8 = some r) : SC Tryz.prog 144 [.mpt 0 0 0,.agg (rApiIns v8)] [.one 15 (vK v1 v2 v3 v4 (.msl 1 0 (List.length v5)) (.msl 2 0 (List.length v6)) (bA v7)),.many 1 (List.map rStr v5),.many 1 (List.map rStr v6)] (.tup []) [.one 15 (vK v1 v2 v3 v4 (.msl 1 0 (List.length v5)) (.msl 3 0 (List.length r.1)) (bA r.2)),.many 1 (List.map rStr v5),.no,.many 1 (List.map rStr r.1)]:=by
 refine ⟨⟨j5,sbOk (sz:=1) (fun _=>j0),j5,sbOk (sz:=1) (fun _=>j0),j5⟩,scall_fn Tryz.func144 j0 (by kernel_rfl) j0 ?_⟩
 unfold verify_checker_field at h
 refine rg j0<|u<|bx 3 4 j0 j0 j0 j0<|r_nil ?_
 refine sw_seq ?_
 refine rg j0<|u<|fa ti69 j0 j0 j0<|u<|ld ti3 j0 j0<|u<|eql ti3 j0 j0<|r_nil ?_
 refine sw_cond j0 (fun hc1=>?_) (fun hc1=>?_)
 ·
  replace h:=bT hc1 h
  obtain ⟨v9,q2,h⟩:=bs h
  refine rd [(0,.mpt 0 0 0),(3,.mpt 3 0 0),(4,.mpt 4 0 0),(5,bA v9.2)] [some (15,[(vK v1 v2 v3 v4 (.msl 1 0 (List.length v5)) (.msl 2 0 (List.length v6)) (bA v7))]),some (1,List.map rStr v5),some (1,List.map rStr v6),some (4,[(rApiIns v8)]),some (6,[(rApiClass v9.1)])] [10,11] [9,8,7,6,5,4,3,2,1,0] [(21,bA v9.2),(20,.agg (rApiClass v9.1)),(12,.tup [.agg (rApiClass v9.1),bA v9.2]),(19,.tup [.agg (rApiClass v9.1),bA v9.2]),(18,sA v8.C),(17,.mpt 3 0 2),(16,.ipt 2 [[.isl 6 (List.map rApiClass v1),.imp (List.map (rKV (fun x=>iA x)) v2)]] 0 0),(15,.mpt 0 0 0),(14,.mpt 0 0 0),(13,.mpt 0 0 0)] 2 (by kernel_rfl) (by kernel_rfl) j0 (by kernel_rfl) (dtS ⟨(fun _=>pa j0 j0 j0 j0 (ex j0 j0<|j4)),(fun _=>pa j0 j0 j0 j0 (ex j0 j0<|j4)),(fun _=>pa j0 j0 j0 j0 (mv j0<|j4)),(fun _=>pa j0 j0 j0 j0 (pc (hier_Hier_Class_s3_ok v1 v2 v8.C q2) j0 j0 j0<|j4)),(fun _=>pa j0 j0 j0 j0 (ld ti9 j0 j0<|j4)),(fun _=>pa j0 j0 j0 j0 (fa ti69 j0 j0 j0<|j4)),(fun _=>pa j0 j0 j0 j0 (ld ti32 j0 j0<|j4)),(fun _=>pa j0 j0 j0 j0 (fa ti131 j0 j0 j0<|j4)),(fun _=>pa j0 j0 j0 j0 (nc j0 j0<|j4)),(fun _=>pa j0 j0 j0 j0 (mv j0<|j4)),j5⟩ (by kernel_rfl) j0 ⟨(fun _ _=>⟨_,j0,j0,al 4 ti29 j0<|⟨(.mpt 4 0 0),[],[(4,.mpt 4 0 0)],j0,j0,by kernel_rfl,j0,dtS ⟨(fun _=>pa j0 j0 j0 j0 (ex j0 j0<|j4)),(fun _=>pa j0 j0 j0 j0 (ex j0 j0<|j4)),(fun _=>pa j0 j0 j0 j0 (mv j0<|j4)),(fun _=>pa j0 j0 j0 j0 (pc (hier_Hier_Class_s3_ok v1 v2 v8.C q2) j0 j0 j0<|j4)),(fun _=>pa j0 j0 j0 j0 (ld ti9 j0 j0<|j4)),(fun _=>pa j0 j0 j0 j0 (fa ti69 j0 j0 j0<|j4)),(fun _=>pa j0 j0 j0 j0 (ld ti32 j0 j0<|j4)),(fun _=>pa j0 j0 j0 j0 (fa ti131 j0 j0 j0<|j4)),(fun _=>pa j0 j0 j0 j0 (nc j0 j0<|j4)),(fun _=>pa j0 j0 j0 j0 (mv j0<|j4)),j5⟩ (by kernel_rfl) j0 ⟨(fun h=>by cases h),(fun _ _=>⟨_,j0,j0,sto ti29 j0 j0 j0<|⟨.any,[12],[(5,bA v9.2)],j0,j0,by kernel_rfl,j5,dt0 ⟨(fun _=>pa j0 j0 j0 j0 (asg j0<|j4)),(fun _=>pa j0 j0 j0 j0 (ex j0 j0<|j4)),(fun h=>by cases h),(fun h=>by cases h),(fun h=>by cases h),(fun h=>by cases h),(fun h=>by cases h),(fun h=>by cases h),(fun h=>by cases h),(fun h=>by cases h),(fun h=>by cases h),j5⟩ (by kernel_rfl) j0 ⟨[.old 0,.old 1,.old 2,.old 3,.old 4],cv j0 (.mpt j0)<|cv j0 (.mpt j0)<|cv j0 (.mpt j0)<|ce j0 j0<|cn,j0,⟨⟨_,j0,rsOne (cc12 j0 (by exact ⟨.msl j0,.msl j0,ci j0,j5⟩))⟩,⟨_,j0,rsMap (fun _=>j0)⟩,⟨_,j0,rsMap (fun _=>j0)⟩,⟨_,j0,rsOne (ciL j0)⟩,⟨_,j0,rsOne (ciL j0)⟩,j5⟩,j0,j1⟩⟩⟩),j5⟩⟩⟩),(fun _ h=>by cases h),j5⟩) ?_
  refine rg j0<|u<|mv j0<|u<|mv j0<|u<|mv j0<|r_and (j:=2) 3 j0 j0 j0 j0 j0 gpn (fun hb3=>g j0 hb3<|fa ti29 j0 j0 j0<|g j0 hb3<|ld ti4 j0 j0<|g j0 hb3<|nt j0<|r_nil (egA [25,26,27] 3 hb3 j0 j0 j0 j0)) andF<|u<|sc [0,1,2] (verify_checker_need_ok v1 v2 v3 v4 v5 v6 v7 (v9.2 && (!v9.1.Interface)) j0) j0 j0 j0 j0 ⟨(.mpt j0),(rnI j0),j5⟩ ⟨⟨_,j0,(rr12 j0 ⟨(.msl j0),(.msl j0),(rnI j0),j5⟩)⟩,⟨j0,mkI (fun _=>j0)⟩,⟨j0,mkI (fun _=>j0)⟩,j5⟩<|r_can (env0:=[(0,.mpt 0 0 0),(3,.mpt 3 0 0)]) (st0:=[some (15,[(vK v1 v2 v3 v4 (.msl 1 0 (List.length v5)) (.msl 2 0 (List.length v6)) (bA (v7 || (!(v9.2 && (!v9.1.Interface))))))]),some (1,List.map rStr v5),some (1,List.map rStr v6),some (4,[(rApiIns v8)])]) ⟨[.old 0,.old 1,.old 2,.old 3],cv j0 (.mpt j0)<|cv j0 (.mpt j0)<|cn,j0,⟨⟨_,j0,rsOne (cc12 j0 (by exact ⟨.msl j0,.msl j0,ci j0,j5⟩))⟩,⟨_,j0,rsMap (fun _=>j0)⟩,⟨_,j0,rsMap (fun _=>j0)⟩,⟨_,j0,rsOne (ciL j0)⟩,j5⟩,j0,j1⟩<|r_nil ?_
  obtain ⟨v10,q4,h⟩:=bs h
  refine rg j0<|u<|mv j0<|u<|fa ti69 j0 j0 j0<|u<|ld ti9 j0 j0<|u<|sc [0,1,2] (verify_checker_push_ok v1 v2 v3 v4 v5 v6 (v7 || (!(v9.2 && (!v9.1.Interface)))) v8.C q4) j0 j0 j0 j0 ⟨(.mpt j0),(rnI j0),j5⟩ ⟨⟨_,j0,(rr12 j0 ⟨(.msl j0),(.msl j0),(rnI j0),j5⟩)⟩,⟨j0,mkI (fun _=>j0)⟩,⟨j0,mkI (fun _=>j0)⟩,j5⟩<|r_can (env0:=[]) (st0:=[some (15,[(vK v1 v2 v3 v4 (.msl 1 0 (List.length v5)) (.msl 3 0 (List.length v10)) (bA (v7 || (!(v9.2 && (!v9.1.Interface))))))]),some (1,List.map rStr v5),none,some (1,List.map rStr v10)]) ⟨[.old 0,.old 1,.dead,.old 4],cn,j0,⟨⟨_,j0,rsOne (cc12 j0 (by exact ⟨.msl j0,.msl j0,ci j0,j5⟩))⟩,⟨_,j0,rsMap (fun _=>j0)⟩,⟨_,j0,rsMap (fun _=>j0)⟩,j5⟩,j0,j1⟩<|r_nil ?_
  refine sw_ret ?_
  obtain rfl:=sm h
  exact ⟨_,j0,[.old 0,.old 1,.dead,.old 3],rsTup j5,j0,⟨⟨_,j0,rsOne (cc12 j0 (by exact ⟨.msl j0,.msl j0,ci j0,j5⟩))⟩,⟨_,j0,rsMap (fun _=>j0)⟩,⟨_,j0,rsMap (fun _=>j0)⟩,j5⟩,j0,j1⟩
 ·
  replace h:=bF hc1 h
  refine sw_skip ?_
  obtain ⟨v11,q5,h⟩:=bs h
  refine rd [(0,.mpt 0 0 0),(3,.mpt 3 0 0),(7,.mpt 4 0 0),(8,bA v11.2.2)] [some (15,[(vK v1 v2 v3 v4 (.msl 1 0 (List.length v5)) (.msl 2 0 (List.length v6)) (bA v7))]),some (1,List.map rStr v5),some (1,List.map rStr v6),some (4,[(rApiIns v8)]),some (3,[(rApiField v11.2.1)])] [13,15] [12,11,10,9,8,7,6,5,4,3,2,1,0] [(46,bA v11.2.2),(45,.agg (rApiField v11.2.1)),(44,sA v11.1),(34,.tup [sA v11.1,.agg (rApiField v11.2.1),bA v11.2.2]),(43,.tup [sA v11.1,.agg (rApiField v11.2.1),bA v11.2.2]),(42,sA v8.M),(41,.mpt 3 0 3),(40,sA v8.C),(39,.mpt 3 0 2),(38,.ipt 2 [[.isl 6 (List.map rApiClass v1),.imp (List.map (rKV (fun x=>iA x)) v2)]] 0 0),(37,.mpt 0 0 0),(36,.mpt 0 0 0),(35,.mpt 0 0 0)] 2 (by kernel_rfl) (by kernel_rfl) j0 (by kernel_rfl) (dtS ⟨(fun _=>pa j0 j0 j0 j0 (ex j0 j0<|j4)),(fun _=>pa j0 j0 j0 j0 (ex j0 j0<|j4)),(fun _=>pa j0 j0 j0 j0 (ex j0 j0<|j4)),(fun _=>pa j0 j0 j0 j0 (mv j0<|j4)),(fun _=>pa j0 j0 j0 j0 (pc (link_Field_s2_ok v1 v2 v8.C v8.M q5) j0 j0 j0<|j4)),(fun _=>pa j0 j0 j0 j0 (ld ti9 j0 j0<|j4)),(fun _=>pa j0 j0 j0 j0 (fa ti69 j0 j0 j0<|j4)),(fun _=>pa j0 j0 j0 j0 (ld ti9 j0 j0<|j4)),(fun _=>pa j0 j0 j0 j0 (fa ti69 j0 j0 j0<|j4)),(fun _=>pa j0 j0 j0 j0 (ld ti32 j0 j0<|j4)),(fun _=>pa j0 j0 j0 j0 (fa ti131 j0 j0 j0<|j4)),(fun _=>pa j0 j0 j0 j0 (nc j0 j0<|j4)),(fun _=>pa j0 j0 j0 j0 (mv j0<|j4)),j5⟩ (by kernel_rfl) j0 ⟨(fun _ _=>⟨_,j0,j0,al 4 ti52 j0<|⟨(.mpt 4 0 0),[14],[(6,sA v11.1),(7,.mpt 4 0 0)],j0,j0,by kernel_rfl,j0,dtS ⟨(fun _=>pa j0 j0 j0 j0 (asg j0<|j4)),(fun _=>pa j0 j0 j0 j0 (ex j0 j0<|j4)),(fun _=>pa j0 j0 j0 j0 (ex j0 j0<|j4)),(fun _=>pa j0 j0 j0 j0 (ex j0 j0<|j4)),(fun _=>pa j0 j0 j0 j0 (mv j0<|j4)),(fun _=>pa j0 j0 j0 j0 (pc (link_Field_s2_ok v1 v2 v8.C v8.M q5) j0 j0 j0<|j4)),(fun _=>pa j0 j0 j0 j0 (ld ti9 j0 j0<|j4)),(fun _=>pa j0 j0 j0 j0 (fa ti69 j0 j0 j0<|j4)),(fun _=>pa j0 j0 j0 j0 (ld ti9 j0 j0<|j4)),(fun _=>pa j0 j0 j0 j0 (fa ti69 j0 j0 j0<|j4)),(fun _=>pa j0 j0 j0 j0 (ld ti32 j0 j0<|j4)),(fun _=>pa j0 j0 j0 j0 (fa ti131 j0 j0 j0<|j4)),(fun _=>pa j0 j0 j0 j0 (nc j0 j0<|j4)),(fun _=>pa j0 j0 j0 j0 (mv j0<|j4)),j5⟩ (by kernel_rfl) j0 ⟨(fun h=>by cases h),(fun _ _=>⟨_,j0,j0,sto ti52 j0 j0 j0<|⟨.any,[16],[(8,bA v11.2.2)],j0,j0,by kernel_rfl,j5,dt0 ⟨(fun _=>pa j0 j0 j0 j0 (asg j0<|j4)),(fun h=>by cases h),(fun _=>pa j0 j0 j0 j0 (ex j0 j0<|j4)),(fun h=>by cases h),(fun h=>by cases h),(fun h=>by cases h),(fun h=>by cases h),(fun h=>by cases h),(fun h=>by cases h),(fun h=>by cases h),(fun h=>by cases h),(fun h=>by cases h),(fun h=>by cases h),(fun h=>by cases h),(fun h=>by cases h),j5⟩ (by kernel_rfl) j0 ⟨[.old 0,.old 1,.old 2,.old 3,.old 4],cv j0 (.mpt j0)<|cv j0 (.mpt j0)<|cv j0 (.mpt j0)<|ce j0 j0<|cn,j0,⟨⟨_,j0,rsOne (cc12 j0 (by exact ⟨.msl j0,.msl j0,ci j0,j5⟩))⟩,⟨_,j0,rsMap (fun _=>j0)⟩,⟨_,j0,rsMap (fun _=>j0)⟩,⟨_,j0,rsOne (ciL j0)⟩,⟨_,j0,rsOne (ciL j0)⟩,j5⟩,j0,j1⟩⟩⟩),j5⟩⟩⟩),(fun _ h=>by cases h),j5⟩) ?_
  refine rg j0<|u<|mv j0<|u<|mv j0<|u<|mv j0<|r_and (j:=2) 11 j0 j0 j0 j0 j0 gpn (fun hb6=>g j0 hb6<|fa ti52 j0 j0 j0<|g j0 hb6<|ld ti4 j0 j0<|g j0 hb6<|fa ti69 j0 j0 j0<|g j0 hb6<|ld ti3 j0 j0<|g j0 hb6<|eql ti3 j0 j0<|g j0 hb6<|mv j0<|r_or (j:=8) 3 j0 j0 j0 j0 j0 (gps j0 j0 hb6) (fun hb7=>g j0 hb7<|fa ti69 j0 j0 j0<|g j0 hb7<|ld ti3 j0 j0<|g j0 hb7<|eql ti3 j0 j0<|r_nil (egO [56,57,58] 3 hb7 j0 j0 j0 j0)) orT<|g j0 hb6<|beq ti4 j0 j0 j0<|r_nil (egA [50,51,52,53,54,55,56,57,58,59,60] 8 hb6 j0 j0 j0 j0)) andF<|u<|sc [0,1,2] (verify_checker_need_ok v1 v2 v3 v4 v5 v6 v7 (v11.2.2 && (v11.2.1.Static == ((v8.Op == (40 : Int)) || (v8.Op == (41 : Int))))) j0) j0 j0 j0 j0 ⟨(.mpt j0),(rnI j0),j5⟩ ⟨⟨_,j0,(rr12 j0 ⟨(.msl j0),(.msl j0),(rnI j0),j5⟩)⟩,⟨j0,mkI (fun _=>j0)⟩,⟨j0,mkI (fun _=>j0)⟩,j5⟩<|r_can (env0:=[(0,.mpt 0 0 0),(3,.mpt 3 0 0),(7,.mpt 4 0 0)]) (st0:=[some (15,[(vK v1 v2 v3 v4 (.msl 1 0 (List.length v5)) (.msl 2 0 (List.length v6)) (bA (v7 || (!(v11.2.2 && (v11.2.1.Static == ((v8.Op == (40 : Int)) || (v8.Op == (41 : Int)))))))))]),some (1,List.map rStr v5),some (1,List.map rStr v6),some (4,[(rApiIns v8)]),some (3,[(rApiField v11.2.1)])]) ⟨[.old 0,.old 1,.old 2,.old 3,.old 4],cv j0 (.mpt j0)<|cv j0 (.mpt j0)<|cv j0 (.mpt j0)<|cn,j0,⟨⟨_,j0,rsOne (cc12 j0 (by exact ⟨.msl j0,.msl j0,ci j0,j5⟩))⟩,⟨_,j0,rsMap (fun _=>j0)⟩,⟨_,j0,rsMap (fun _=>j0)⟩,⟨_,j0,rsOne (ciL j0)⟩,⟨_,j0,rsOne (ciL j0)⟩,j5⟩,j0,j1⟩<|r_nil ?_
  refine rg j0<|u<|fa ti69 j0 j0 j0<|u<|ld ti3 j0 j0<|r_nil ?_
  refine sw_block ?_
  refine rg j0<|u<|eql ti3 j0 j0<|u<|asg j0<|r_nil ?_
  refine sw_cond j0 (fun hc8=>?_) (fun hc8=>?_)
  ·
   replace h:=bT hc8 h
   obtain ⟨v12,q9,h⟩:=bs h
   refine rg j0<|u<|mv j0<|u<|fa ti69 j0 j0 j0<|u<|ld ti9 j0 j0<|u<|bl 5 ti25 j0 ti9 j0 (by decide) (by decide) j0 j0 j0<|r_can (env0:=[(0,.mpt 0 0 0),(7,.mpt 3 0 0),(72,.mpt 0 0 0),(75,.isl 1 (List.map rStr [v8.C]))]) (st0:=[some (15,[(vK v1 v2 v3 v4 (.msl 1 0 (List.length v5)) (.msl 2 0 (List.length v6)) (bA (v7 || (!(v11.2.2 && (v11.2.1.Static == ((v8.Op == (40 : Int)) || (v8.Op == (41 : Int)))))))))]),some (1,List.map rStr v5),some (1,List.map rStr v6),some (3,[(rApiField v11.2.1)])]) ⟨[.old 0,.old 1,.old 2,.old 4],cv j0 (.mpt j0)<|cv j0 (.mpt j0)<|cv j0 (.mpt j0)<|cv j0 (rsSealX j0 j0 ⟨⟨⟨ci j0,j5⟩,j0⟩,j5⟩)<|cn,j0,⟨⟨_,j0,rsOne (cc12 j0 (by exact ⟨.msl j0,.msl j0,ci j0,j5⟩))⟩,⟨_,j0,rsMap (fun _=>j0)⟩,⟨_,j0,rsMap (fun _=>j0)⟩,⟨_,j0,rsOne (ciL j0)⟩,j5⟩,j0,j1⟩<|u<|sc [0,1,2] (verify_checker_take_ok v1 v2 v3 v4 v5 v6 (v7 || (!(v11.2.2 && (v11.2.1.Static == ((v8.Op == (40 : Int)) || (v8.Op == (41 : Int))))))) [v8.C] q9) j0 j0 j0 j0 ⟨(.mpt j0),(rnI j0),j5⟩ ⟨⟨_,j0,(rr12 j0 ⟨(.msl j0),(.msl j0),(rnI j0),j5⟩)⟩,⟨j0,mkI (fun _=>j0)⟩,⟨j0,mkI (fun _=>j0)⟩,j5⟩<|r_can (env0:=[(0,.mpt 0 0 0),(7,.mpt 3 0 0)]) (st0:=[some (15,[(vK v1 v2 v3 v4 (.msl 1 0 (List.length v5)) (.msl 2 0 (List.length v12.1)) (bA v12.2))]),some (1,List.map rStr v5),some (1,List.map rStr v12.1),some (3,[(rApiField v11.2.1)])]) ⟨[.old 0,.old 1,.old 2,.old 3],cv j0 (.mpt j0)<|cv j0 (.mpt j0)<|cn,j0,⟨⟨_,j0,rsOne (cc12 j0 (by exact ⟨.msl j0,.msl j0,ci j0,j5⟩))⟩,⟨_,j0,rsMap (fun _=>j0)⟩,⟨_,j0,rsMap (fun _=>j0)⟩,⟨_,j0,rsOne (ciL j0)⟩,j5⟩,j0,j1⟩<|r_nil ?_
   obtain ⟨v13,q10,h⟩:=bs h
   refine rl j0<|u<|mv j0<|u<|fa ti52 j0 j0 j0<|u<|ld ti9 j0 j0<|u<|sc [0,1,2] (verify_checker_push_ok v1 v2 v3 v4 v5 v12.1 v12.2 v11.2.1.Type_ q10) j0 j0 j0 j0 ⟨(.mpt j0),(rnI j0),j5⟩ ⟨⟨_,j0,(rr12 j0 ⟨(.msl j0),(.msl j0),(rnI j0),j5⟩)⟩,⟨j0,mkI (fun _=>j0)⟩,⟨j0,mkI (fun _=>j0)⟩,j5⟩<|r_can (env0:=[]) (st0:=[some (15,[(vK v1 v2 v3 v4 (.msl 1 0 (List.length v5)) (.msl 3 0 (List.length v13)) (bA v12.2))]),some (1,List.map rStr v5),none,some (1,List.map rStr v13)]) ⟨[.old 0,.old 1,.dead,.old 4],cn,j0,⟨⟨_,j0,rsOne (cc12 j0 (by exact ⟨.msl j0,.msl j0,ci j0,j5⟩))⟩,⟨_,j0,rsMap (fun _=>j0)⟩,⟨_,j0,rsMap (fun _=>j0)⟩,j5⟩,j0,j1⟩<|r_nil ?_
   obtain rfl:=sm h
   exact ⟨_,j0,[.old 0,.old 1,.dead,.old 3],rsTup j5,j0,⟨⟨_,j0,rsOne (cc12 j0 (by exact ⟨.msl j0,.msl j0,ci j0,j5⟩))⟩,⟨_,j0,rsMap (fun _=>j0)⟩,⟨_,j0,rsMap (fun _=>j0)⟩,j5⟩,j0,j1⟩
  ·
   replace h:=bF hc8 h
   refine rg j0<|u<|eql ti3 j0 j0<|u<|asg j0<|r_nil ?_
   refine sw_cond j0 (fun hc11=>?_) (fun hc11=>?_)
   ·
    replace h:=bT hc11 h
    obtain ⟨v14,q12,h⟩:=bs h
    refine rl j0<|u<|mv j0<|u<|fa ti69 j0 j0 j0<|u<|ld ti9 j0 j0<|u<|fa ti52 j0 j0 j0<|u<|ld ti9 j0 j0<|u<|bl 5 ti25 j0 ti9 j0 (by decide) (by decide) j0 j0 j0<|r_can (env0:=[(83,.mpt 0 0 0),(88,.isl 1 (List.map rStr [v8.C,v11.2.1.Type_]))]) (st0:=[some (15,[(vK v1 v2 v3 v4 (.msl 1 0 (List.length v5)) (.msl 2 0 (List.length v6)) (bA (v7 || (!(v11.2.2 && (v11.2.1.Static == ((v8.Op == (40 : Int)) || (v8.Op == (41 : Int)))))))))]),some (1,List.map rStr v5),some (1,List.map rStr v6)]) ⟨[.old 0,.old 1,.old 2],cv j0 (.mpt j0)<|cv j0 (rsSealX j0 j0 ⟨⟨⟨ci j0,j5⟩,j0⟩,⟨⟨ci j0,j5⟩,j0⟩,j5⟩)<|cn,j0,⟨⟨_,j0,rsOne (cc12 j0 (by exact ⟨.msl j0,.msl j0,ci j0,j5⟩))⟩,⟨_,j0,rsMap (fun _=>j0)⟩,⟨_,j0,rsMap (fun _=>j0)⟩,j5⟩,j0,j1⟩<|u<|sc [0,1,2] (verify_checker_take_ok v1 v2 v3 v4 v5 v6 (v7 || (!(v11.2.2 && (v11.2.1.Static == ((v8.Op == (40 : Int)) || (v8.Op == (41 : Int))))))) [v8.C,v11.2.1.Type_] q12) j0 j0 j0 j0 ⟨(.mpt j0),(rnI j0),j5⟩ ⟨⟨_,j0,(rr12 j0 ⟨(.msl j0),(.msl j0),(rnI j0),j5⟩)⟩,⟨j0,mkI (fun _=>j0)⟩,⟨j0,mkI (fun _=>j0)⟩,j5⟩<|r_can (env0:=[]) (st0:=[some (15,[(vK v1 v2 v3 v4 (.msl 1 0 (List.length v5)) (.msl 2 0 (List.length v14.1)) (bA v14.2))]),some (1,List.map rStr v5),some (1,List.map rStr v14.1)]) ⟨[.old 0,.old 1,.old 2],cn,j0,⟨⟨_,j0,rsOne (cc12 j0 (by exact ⟨.msl j0,.msl j0,ci j0,j5⟩))⟩,⟨_,j0,rsMap (fun _=>j0)⟩,⟨_,j0,rsMap (fun _=>j0)⟩,j5⟩,j0,j1⟩<|r_nil ?_
    obtain rfl:=sm h
    exact ⟨_,j0,[.old 0,.old 1,.dead,.old 2],rsTup j5,j0,⟨⟨_,j0,rsOne (cc12 j0 (by exact ⟨.msl j0,.msl j0,ci j0,j5⟩))⟩,⟨_,j0,rsMap (fun _=>j0)⟩,⟨_,j0,rsMap (fun _=>j0)⟩,j5⟩,j0,j1⟩
   ·
    replace h:=bF hc11 h
    refine rg j0<|u<|eql ti3 j0 j0<|u<|asg j0<|r_nil ?_
    refine sw_cond j0 (fun hc13=>?_) (fun hc13=>?_)
    ·
     replace h:=bT hc13 h
     obtain ⟨v15,q14,h⟩:=bs h
     refine rl j0<|u<|mv j0<|u<|fa ti52 j0 j0 j0<|u<|ld ti9 j0 j0<|u<|sc [0,1,2] (verify_checker_push_ok v1 v2 v3 v4 v5 v6 (v7 || (!(v11.2.2 && (v11.2.1.Static == ((v8.Op == (40 : Int)) || (v8.Op == (41 : Int))))))) v11.2.1.Type_ q14) j0 j0 j0 j0 ⟨(.mpt j0),(rnI j0),j5⟩ ⟨⟨_,j0,(rr12 j0 ⟨(.msl j0),(.msl j0),(rnI j0),j5⟩)⟩,⟨j0,mkI (fun _=>j0)⟩,⟨j0,mkI (fun _=>j0)⟩,j5⟩<|r_can (env0:=[]) (st0:=[some (15,[(vK v1 v2 v3 v4 (.msl 1 0 (List.length v5)) (.msl 3 0 (List.length v15)) (bA (v7 || (!(v11.2.2 && (v11.2.1.Static == ((v8.Op == (40 : Int)) || (v8.Op == (41 : Int)))))))))]),some (1,List.map rStr v5),none,some (1,List.map rStr v15)]) ⟨[.old 0,.old 1,.dead,.old 5],cn,j0,⟨⟨_,j0,rsOne (cc12 j0 (by exact ⟨.msl j0,.msl j0,ci j0,j5⟩))⟩,⟨_,j0,rsMap (fun _=>j0)⟩,⟨_,j0,rsMap (fun _=>j0)⟩,j5⟩,j0,j1⟩<|r_nil ?_
     obtain rfl:=sm h
     exact ⟨_,j0,[.old 0,.old 1,.dead,.old 3],rsTup j5,j0,⟨⟨_,j0,rsOne (cc12 j0 (by exact ⟨.msl j0,.msl j0,ci j0,j5⟩))⟩,⟨_,j0,rsMap (fun _=>j0)⟩,⟨_,j0,rsMap (fun _=>j0)⟩,j5⟩,j0,j1⟩
    ·
     replace h:=bF hc13 h
     obtain ⟨v16,q15,h⟩:=bs h
     refine rl j0<|u<|mv j0<|u<|fa ti52 j0 j0 j0<|u<|ld ti9 j0 j0<|u<|bl 5 ti25 j0 ti9 j0 (by decide) (by decide) j0 j0 j0<|r_can (env0:=[(65,.mpt 0 0 0),(68,.isl 1 (List.map rStr [v11.2.1.Type_]))]) (st0:=[some (15,[(vK v1 v2 v3 v4 (.msl 1 0 (List.length v5)) (.msl 2 0 (List.length v6)) (bA (v7 || (!(v11.2.2 && (v11.2.1.Static == ((v8.Op == (40 : Int)) || (v8.Op == (41 : Int)))))))))]),some (1,List.map rStr v5),some (1,List.map rStr v6)]) ⟨[.old 0,.old 1,.old 2],cv j0 (.mpt j0)<|cv j0 (rsSealX j0 j0 ⟨⟨⟨ci j0,j5⟩,j0⟩,j5⟩)<|cn,j0,⟨⟨_,j0,rsOne (cc12 j0 (by exact ⟨.msl j0,.msl j0,ci j0,j5⟩))⟩,⟨_,j0,rsMap (fun _=>j0)⟩,⟨_,j0,rsMap (fun _=>j0)⟩,j5⟩,j0,j1⟩<|u<|sc [0,1,2] (verify_checker_take_ok v1 v2 v3 v4 v5 v6 (v7 || (!(v11.2.2 && (v11.2.1.Static == ((v8.Op == (40 : Int)) || (v8.Op == (41 : Int))))))) [v11.2.1.Type_] q15) j0 j0 j0 j0 ⟨(.mpt j0),(rnI j0),j5⟩ ⟨⟨_,j0,(rr12 j0 ⟨(.msl j0),(.msl j0),(rnI j0),j5⟩)⟩,⟨j0,mkI (fun _=>j0)⟩,⟨j0,mkI (fun _=>j0)⟩,j5⟩<|r_can (env0:=[]) (st0:=[some (15,[(vK v1 v2 v3 v4 (.msl 1 0 (List.length v5)) (.msl 2 0 (List.length v16.1)) (bA v16.2))]),some (1,List.map rStr v5),some (1,List.map rStr v16.1)]) ⟨[.old 0,.old 1,.old 2],cn,j0,⟨⟨_,j0,rsOne (cc12 j0 (by exact ⟨.msl j0,.msl j0,ci j0,j5⟩))⟩,⟨_,j0,rsMap (fun _=>j0)⟩,⟨_,j0,rsMap (fun _=>j0)⟩,j5⟩,j0,j1⟩<|r_nil ?_
     obtain rfl:=sm h
     exact ⟨_,j0,[.old 0,.old 1,.dead,.old 2],rsTup j5,j0,⟨⟨_,j0,rsOne (cc12 j0 (by exact ⟨.msl j0,.msl j0,ci j0,j5⟩))⟩,⟨_,j0,rsMap (fun _=>j0)⟩,⟨_,j0,rsMap (fun _=>j0)⟩,j5⟩,j0,j1⟩
def link_Method_1 (v1 : ApiMethod) : Bool :=
  (!(v1.Name == [36,105,110,105,116]))
theorem link_Method_1_ok (v1 : ApiMethod) {r : Bool} (h : link_Method_1 v1 = r) : PureC Tryz.prog 161 [.agg (rApiMethod v1)] (bA r):=by
 refine pure_fn Tryz.func161 j0 (by kernel_rfl) j0 j0 ?_
 unfold link_Method_1 at h
 refine rg j0<|u<|bx 0 10 j0 j0 j0 j0<|u<|asg j0<|r_nil ?_
 refine rg j0<|u<|fa ti76 j0 j0 j0<|u<|ld ti9 j0 j0<|u<|sne ti9 j0 j0<|u<|asg j0<|r_nil ?_
 refine sw_ret ?_
 obtain rfl:=h
 exact ⟨_,j0,[],ci j0,j0,j5,j0,j1⟩
def link_find_s4_k2 : Option ((List UInt8) × ApiMethod × Bool) :=
  some ([],(ApiMethod.mk [] [] [] false false 0 0 [] [] []),false)
def link_find_s4_l1 (v1 : List ApiClass) (v2 : List (List UInt8 × Int)) (v3 : List (List UInt8)) (v4 : List UInt8) (v12 : Int) : Option (Sum (Int) (Sum (Unit) ((List UInt8) × ApiMethod × Bool))) :=
  cond (decide (v12 < (List.length v3 : Int))) ((idx v3 v12).bind fun v13=>(hier_Hier_Class_s3 v1 v2 v13).bind fun v14=>(class_Method v14.1 v4).bind fun v15=>(cond (decide (0 ≤ v15)) ((idx v14.1.Methods v15).bind fun v16=>some (link_Method_1 v16)) (some false)).bind fun v17=>cond v17 ((idx v14.1.Methods v15).bind fun v18=>some (.inr (.inr (v13,v18,true)))) (some (.inl (IntKind.i64.wrap (v12 + 1))))) (some (.inr (.inl ())))
def link_find_s4 (v1 : List ApiClass) (v2 : List (List UInt8 × Int)) (v3 : List (List UInt8)) (v4 : List UInt8) : Option ((List UInt8) × ApiMethod × Bool) :=
  (loopP (fun z=>link_find_s4_l1 v1 v2 v3 v4 z) 0).bind fun o=>leave o (fun b=>link_find_s4_k2) some
theorem link_find_s4_ok (v1 : List ApiClass) (v2 : List (List UInt8 × Int)) (v3 : List (List UInt8)) (v4 : List UInt8) {r : (List UInt8) × ApiMethod × Bool} (h : link_find_s4 v1 v2 v3 v4 = some r) : PureC Tryz.prog 160 [.ipt 2 [[.isl 6 (List.map rApiClass v1),.imp (List.map (rKV (fun x=>iA x)) v2)]] 0 0,.isl 1 (List.map rStr v3),sA v4,.fn (.func 161) [] []] (.tup [sA r.1,.agg (rApiMethod r.2.1),bA r.2.2]):=by
 refine pure_fn Tryz.func160 j0 (by kernel_rfl) j0 j0 ?_
 unfold link_find_s4 at h
 refine rg j0<|u<|asg j0<|u<|al 0 ti76 j0<|u<|asg j0<|r_nil ?_
 refine sw_seq ?_
 refine rg j0<|u<|mv j0<|u<|lnI ti25 j0 j0<|u<|mv j0<|r_nil ?_
 obtain ⟨o,ho,h⟩:=bs h
 refine sw_lpl (X:=Int) (B:=Unit) (R:=(List UInt8) × ApiMethod × Bool) (fun z=>[(0,.ipt 2 [[.isl 6 (List.map rApiClass v1),.imp (List.map (rKV (fun x=>iA x)) v2)]] 0 0),(2,sA v4),(3,.fn (.func 161) [] []),(9,.mpt 0 0 0),(16,.isl 1 (List.map rStr v3)),(17,iA (List.length v3 : Int)),(18,iA z)]) (fun z=>[some (10,[[sA [],.lit (.slice none 0 0),sA [],bA false,bA false,iA 0,iA 0,.lit (.slice none 0 0),.lit (.slice none 0 0),.lit (.slice none 0 0)]])]) (fun b=>[(9,.mpt 0 0 0)]) (fun b=>[some (10,[[sA [],.lit (.slice none 0 0),sA [],bA false,bA false,iA 0,iA 0,.lit (.slice none 0 0),.lit (.slice none 0 0),.lit (.slice none 0 0)]])]) (fun r env st=>PostF Tryz.prog Tryz.f160 0 (.tup [sA r.1,.agg (rApiMethod r.2.1),bA r.2.2]) [] env st) ho ⟨[.old 0],ce j0 j0<|ce j0 j0<|ce j0 j0<|cv j0 (.mpt j0)<|ce j0 j0<|ce j0 j0<|ce j0 j0<|cn,j0,⟨⟨_,j0,rsOne (ciL j0)⟩,j5⟩,j0,j1⟩ ?_ ?_ ?_
 ·
  rintro v12 r h
  replace h : link_find_s4_l1 v1 v2 v3 v4 v12 = some r:=h
  unfold link_find_s4_l1 at h
  refine rg j0<|u<|lss ti3 j0 j0<|r_nil ?_
  refine sw_seq ?_
  refine sw_cond j0 (fun hc10=>?_) (fun hc10=>?_)
  ·
   replace h:=bT hc10 h
   refine sw_skip ?_
   refine sw_seq ?_
   refine sw_block ?_
   obtain ⟨v13,q11,h⟩:=bs h
   refine rg j0<|u<|ixI ti25 j0 ti9 j0 j0 j0 q11<|u<|ldI ti9 j0 (idx_some q11).2.2 j0<|u<|asg j0<|r_nil ?_
   obtain ⟨v14,q12,h⟩:=bs h
   refine rg j0<|u<|mv j0<|u<|mv j0<|u<|pc (hier_Hier_Class_s3_ok v1 v2 v13 q12) j0 j0 j0<|u<|mv j0<|u<|ex j0 j0<|u<|ex j0 j0<|u<|al 1 ti29 j0<|u<|sto ti29 j0 j0 j0<|u<|asg j0<|r_nil ?_
   obtain ⟨v15,q13,h⟩:=bs h
   refine rg j0<|u<|ld ti29 j0 j0<|u<|mv j0<|u<|pc (class_Method_ok v14.1 v4 q13) j0 j0 j0<|u<|asg j0<|r_nil ?_
   obtain ⟨v17,q16,h⟩:=bs h
   refine rg j0<|u<|mv j0<|u<|geq ti3 j0 j0<|u<|mv j0<|r_and (x:=v17) (j:=2) 7 j0 j0 j0 j0 j0 gpn (fun hb14=>by replace q16:=bT hb14 q16; obtain ⟨v16,q15,q16⟩:=bs q16; obtain rfl:=sm q16; exact g j0 hb14<|mv j0<|g j0 hb14<|fa ti29 j0 j0 j0<|g j0 hb14<|ld ti27 j0 j0<|g j0 hb14<|mv j0<|g j0 hb14<|ixI ti27 j0 ti76 j0 j0 j0 q15<|g j0 hb14<|ldI ti76 j0 (idx_some q15).2.2 j0<|g j0 hb14<|pc (link_Method_1_ok v16 j0) j0 j0 j0<|r_nil (eg [34,35,36,37,38,39,40] 7 j0 j0 j0 j0)) (fun hb=>(sm (bF hb q16)).symm)<|r_nil ?_
   refine sw_cond j0 (fun hc17=>?_) (fun hc17=>?_)
   ·
    replace h:=bT hc17 h
    obtain ⟨v18,q18,h⟩:=bs h
    refine rd [(8,sA v13),(9,.mpt 0 0 0),(10,bA true)] [some (10,[(rApiMethod v18)])] [7] [6,5,4,3,2,1,0] [(8,sA v13),(47,.agg (rApiMethod v18)),(46,.ipt 10 (List.map rApiMethod v14.1.Methods) (Int.toNat v15) 0),(45,iA v15),(44,.isl 10 (List.map rApiMethod v14.1.Methods)),(43,.mpt 1 0 5),(42,sA v13)] 1 (by kernel_rfl) (by kernel_rfl) j0 (by kernel_rfl) (dtS ⟨(fun _=>pa j0 j0 j0 j0 (asg j0<|j4)),(fun _=>pa j0 j0 j0 j0 (ldI ti76 j0 (idx_some q18).2.2 j0<|j4)),(fun _=>pa j0 j0 j0 j0 (ixI ti27 j0 ti76 j0 j0 j0 q18<|j4)),(fun _=>pa j0 j0 j0 j0 (mv j0<|j4)),(fun _=>pa j0 j0 j0 j0 (ld ti27 j0 j0<|j4)),(fun _=>pa j0 j0 j0 j0 (fa ti29 j0 j0 j0<|j4)),(fun _=>pa j0 j0 j0 j0 (mv j0<|j4)),j5⟩ (by kernel_rfl) j0 ⟨(fun _ _=>⟨_,j0,j0,sto ti76 j0 j0 j0<|⟨.any,[8],[(10,bA true)],j0,j0,by kernel_rfl,j5,dt0 ⟨(fun _=>pa j0 j0 j0 j0 (asg j0<|j4)),(fun h=>by cases h),(fun h=>by cases h),(fun h=>by cases h),(fun h=>by cases h),(fun h=>by cases h),(fun h=>by cases h),(fun h=>by cases h),j5⟩ (by kernel_rfl) j0 ⟨[.old 0],ce j0 j0<|cv j0 (.mpt j0)<|ce j0 j0<|cn,j0,⟨⟨_,j0,rsOne (ciL j0)⟩,j5⟩,j0,j1⟩⟩⟩),j5⟩) ?_
    refine sw_ret ?_
    obtain rfl:=sm h
    exact ⟨_,j0,_,j0,[],rsTup ⟨(ci j0),(ci j0),(ci j0),j5⟩,j0,j5,j0,j1⟩
   ·
    replace h:=bF hc17 h
    refine sw_skip ?_
    refine rl j0<|u<|add ti3 j0 j0<|u<|mv j0<|r_nil ?_
    obtain rfl:=sm h
    exact ⟨_,j0,[.old 0],ce j0 j0<|ce j0 j0<|ce j0 j0<|cv j0 (.mpt j0)<|ce j0 j0<|ce j0 j0<|ce j0 j0<|cn,j0,⟨⟨_,j0,rsOne (ciL j0)⟩,j5⟩,j0,j1⟩
  ·
   replace h:=bF hc10 h
   refine sw_exit ?_
   obtain rfl:=sm h
   exact ⟨j0,_,j0,[.old 0],cv j0 (.mpt j0)<|cn,j0,⟨⟨_,j0,rsOne (ciL j0)⟩,j5⟩,j0,j1⟩
 ·
  rintro ⟨⟩ rfl
  replace h : link_find_s4_k2 = some r:=h
  unfold link_find_s4_k2 at h
  refine ow_intro ?_
  refine rg j0<|u<|bd ti76 j0 j0 j0<|u<|asg j0<|u<|sto ti76 j0 j0 j0<|u<|asg j0<|r_nil ?_
  refine sw_ret ?_
  obtain rfl:=sm h
  exact ⟨_,j0,[],rsTup ⟨(ci j0),(rsAgg ⟨ci j0,(.nil),ci j0,ci j0,ci j0,ci j0,ci j0,(.nil),(.nil),(.nil),j5⟩),(ci j0),j5⟩,j0,j5,j0,j1⟩
 ·
  rintro r' rfl env st hp
  obtain rfl:=sm h
  exact hp
def link_Method_s3 (v1 : List ApiClass) (v2 : List (List UInt8 × Int)) (v3 : List UInt8) (v4 : List UInt8) : Option ((List UInt8) × ApiMethod × Bool) :=
  (hier_Hier_Supers_s2 v1 v2 v3).bind fun v5=>(link_find_s4 v1 v2 v5 v4).bind fun v6=>some (v6.1,v6.2.1,v6.2.2)
theorem link_Method_s3_ok (v1 : List ApiClass) (v2 : List (List UInt8 × Int)) (v3 : List UInt8) (v4 : List UInt8) {r : (List UInt8) × ApiMethod × Bool} (h : link_Method_s3 v1 v2 v3 v4 = some r) : PureC Tryz.prog 95 [.ipt 2 [[.isl 6 (List.map rApiClass v1),.imp (List.map (rKV (fun x=>iA x)) v2)]] 0 0,sA v3,sA v4] (.tup [sA r.1,.agg (rApiMethod r.2.1),bA r.2.2]):=by
 refine pure_fn Tryz.func95 j0 (by kernel_rfl) j0 j0 ?_
 unfold link_Method_s3 at h
 refine rg j0<|u<|asg j0<|u<|al 0 ti76 j0<|u<|asg j0<|r_nil ?_
 obtain ⟨v5,q1,h⟩:=bs h
 obtain ⟨v6,q2,h⟩:=bs h
 refine rg j0<|u<|mv j0<|u<|mv j0<|u<|mv j0<|u<|sc [] (hier_Hier_Supers_s2_ok v1 v2 v3 q1) j0 j0 j0 j0 ⟨(rnI j0),(rnI j0),j5⟩ j5<|r_can (env0:=[(2,sA v4),(7,.mpt 0 0 0),(9,.ipt 2 [[.isl 6 (List.map rApiClass v1),.imp (List.map (rKV (fun x=>iA x)) v2)]] 0 0),(12,.msl 1 0 (List.length v5))]) (st0:=[some (10,[[sA [],.lit (.slice none 0 0),sA [],bA false,bA false,iA 0,iA 0,.lit (.slice none 0 0),.lit (.slice none 0 0),.lit (.slice none 0 0)]]),some (1,List.map rStr v5)]) ⟨[.old 0,.old 1],ce j0 j0<|cv j0 (.mpt j0)<|ce j0 j0<|cv j0 (.msl j0)<|cn,j0,⟨⟨_,j0,rsOne (ciL j0)⟩,⟨_,j0,rsMap (fun _=>j0)⟩,j5⟩,j0,j1⟩<|u<|mv j0<|r_can (env0:=[(7,.mpt 0 0 0),(9,.ipt 2 [[.isl 6 (List.map rApiClass v1),.imp (List.map (rKV (fun x=>iA x)) v2)]] 0 0),(12,.isl 1 (List.map rStr v5)),(13,sA v4)]) (st0:=[some (10,[[sA [],.lit (.slice none 0 0),sA [],bA false,bA false,iA 0,iA 0,.lit (.slice none 0 0),.lit (.slice none 0 0),.lit (.slice none 0 0)]])]) ⟨[.old 0],cv j0 (.mpt j0)<|ce j0 j0<|cv j0 (rsSeal j0 j0 (fun _=>j0))<|ce j0 j0<|cn,j0,⟨⟨_,j0,rsOne (ciL j0)⟩,j5⟩,j0,j1⟩<|u<|pc (link_find_s4_ok v1 v2 v5 v4 q2) j0 j0 j0<|u<|ex j0 j0<|u<|ex j0 j0<|u<|ex j0 j0<|u<|asg j0<|u<|sto ti76 j0 j0 j0<|u<|asg j0<|r_nil ?_
 refine sw_ret ?_
 obtain rfl:=sm h
 exact ⟨_,j0,[],rsTup ⟨(ci j0),(ci j0),(ci j0),j5⟩,j0,j5,j0,j1⟩
def link_Face_1 (v1 : ApiMethod) : Bool :=
  true
theorem link_Face_1_ok (v1 : ApiMethod) {r : Bool} (h : link_Face_1 v1 = r) : PureC Tryz.prog 234 [.agg (rApiMethod v1)] (bA r):=by
 refine pure_fn Tryz.func234 j0 (by kernel_rfl) j0 j0 ?_
 unfold link_Face_1 at h
 refine rg j0<|u<|bx 0 10 j0 j0 j0 j0<|u<|asg j0<|r_nil ?_
 refine rg j0<|u<|asg j0<|r_nil ?_
 refine sw_ret ?_
 obtain rfl:=h
 exact ⟨_,j0,[],ci j0,j0,j5,j0,j1⟩
def link_find_s6_k2 : Option ((List UInt8) × ApiMethod × Bool) :=
  some ([],(ApiMethod.mk [] [] [] false false 0 0 [] [] []),false)
def link_find_s6_l1 (v1 : List ApiClass) (v2 : List (List UInt8 × Int)) (v3 : List (List UInt8)) (v4 : List UInt8) (v12 : Int) : Option (Sum (Int) (Sum (Unit) ((List UInt8) × ApiMethod × Bool))) :=
  cond (decide (v12 < (List.length v3 : Int))) ((idx v3 v12).bind fun v13=>(hier_Hier_Class_s3 v1 v2 v13).bind fun v14=>(class_Method v14.1 v4).bind fun v15=>(cond (decide (0 ≤ v15)) ((idx v14.1.Methods v15).bind fun v16=>some (link_Face_1 v16)) (some false)).bind fun v17=>cond v17 ((idx v14.1.Methods v15).bind fun v18=>some (.inr (.inr (v13,v18,true)))) (some (.inl (IntKind.i64.wrap (v12 + 1))))) (some (.inr (.inl ())))
def link_find_s6 (v1 : List ApiClass) (v2 : List (List UInt8 × Int)) (v3 : List (List UInt8)) (v4 : List UInt8) : Option ((List UInt8) × ApiMethod × Bool) :=
  (loopP (fun z=>link_find_s6_l1 v1 v2 v3 v4 z) 0).bind fun o=>leave o (fun b=>link_find_s6_k2) some
theorem link_find_s6_ok (v1 : List ApiClass) (v2 : List (List UInt8 × Int)) (v3 : List (List UInt8)) (v4 : List UInt8) {r : (List UInt8) × ApiMethod × Bool} (h : link_find_s6 v1 v2 v3 v4 = some r) : PureC Tryz.prog 160 [.ipt 2 [[.isl 6 (List.map rApiClass v1),.imp (List.map (rKV (fun x=>iA x)) v2)]] 0 0,.isl 1 (List.map rStr v3),sA v4,.fn (.func 234) [] []] (.tup [sA r.1,.agg (rApiMethod r.2.1),bA r.2.2]):=by
 refine pure_fn Tryz.func160 j0 (by kernel_rfl) j0 j0 ?_
 unfold link_find_s6 at h
 refine rg j0<|u<|asg j0<|u<|al 0 ti76 j0<|u<|asg j0<|r_nil ?_
 refine sw_seq ?_
 refine rg j0<|u<|mv j0<|u<|lnI ti25 j0 j0<|u<|mv j0<|r_nil ?_
 obtain ⟨o,ho,h⟩:=bs h
 refine sw_lpl (X:=Int) (B:=Unit) (R:=(List UInt8) × ApiMethod × Bool) (fun z=>[(0,.ipt 2 [[.isl 6 (List.map rApiClass v1),.imp (List.map (rKV (fun x=>iA x)) v2)]] 0 0),(2,sA v4),(3,.fn (.func 234) [] []),(9,.mpt 0 0 0),(16,.isl 1 (List.map rStr v3)),(17,iA (List.length v3 : Int)),(18,iA z)]) (fun z=>[some (10,[[sA [],.lit (.slice none 0 0),sA [],bA false,bA false,iA 0,iA 0,.lit (.slice none 0 0),.lit (.slice none 0 0),.lit (.slice none 0 0)]])]) (fun b=>[(9,.mpt 0 0 0)]) (fun b=>[some (10,[[sA [],.lit (.slice none 0 0),sA [],bA false,bA false,iA 0,iA 0,.lit (.slice none 0 0),.lit (.slice none 0 0),.lit (.slice none 0 0)]])]) (fun r env st=>PostF Tryz.prog Tryz.f160 0 (.tup [sA r.1,.agg (rApiMethod r.2.1),bA r.2.2]) [] env st) ho ⟨[.old 0],ce j0 j0<|ce j0 j0<|ce j0 j0<|cv j0 (.mpt j0)<|ce j0 j0<|ce j0 j0<|ce j0 j0<|cn,j0,⟨⟨_,j0,rsOne (ciL j0)⟩,j5⟩,j0,j1⟩ ?_ ?_ ?_
 ·
  rintro v12 r h
  replace h : link_find_s6_l1 v1 v2 v3 v4 v12 = some r:=h
  unfold link_find_s6_l1 at h
  refine rg j0<|u<|lss ti3 j0 j0<|r_nil ?_
  refine sw_seq ?_
  refine sw_cond j0 (fun hc10=>?_) (fun hc10=>?_)
  ·
   replace h:=bT hc10 h
   refine sw_skip ?_
   refine sw_seq ?_
   refine sw_block ?_
   obtain ⟨v13,q11,h⟩:=bs h
   refine rg j0<|u<|ixI ti25 j0 ti9 j0 j0 j0 q11<|u<|ldI ti9 j0 (idx_some q11).2.2 j0<|u<|asg j0<|r_nil ?_
   obtain ⟨v14,q12,h⟩:=bs h
   refine rg j0<|u<|mv j0<|u<|mv j0<|u<|pc (hier_Hier_Class_s3_ok v1 v2 v13 q12) j0 j0 j0<|u<|mv j0<|u<|ex j0 j0<|u<|ex j0 j0<|u<|al 1 ti29 j0<|u<|sto ti29 j0 j0 j0<|u<|asg j0<|r_nil ?_
   obtain ⟨v15,q13,h⟩:=bs h
   refine rg j0<|u<|ld ti29 j0 j0<|u<|mv j0<|u<|pc (class_Method_ok v14.1 v4 q13) j0 j0 j0<|u<|asg j0<|r_nil ?_
   obtain ⟨v17,q16,h⟩:=bs h
   refine rg j0<|u<|mv j0<|u<|geq ti3 j0 j0<|u<|mv j0<|r_and (x:=v17) (j:=2) 7 j0 j0 j0 j0 j0 gpn (fun hb14=>by replace q16:=bT hb14 q16; obtain ⟨v16,q15,q16⟩:=bs q16; obtain rfl:=sm q16; exact g j0 hb14<|mv j0<|g j0 hb14<|fa ti29 j0 j0 j0<|g j0 hb14<|ld ti27 j0 j0<|g j0 hb14<|mv j0<|g j0 hb14<|ixI ti27 j0 ti76 j0 j0 j0 q15<|g j0 hb14<|ldI ti76 j0 (idx_some q15).2.2 j0<|g j0 hb14<|pc (link_Face_1_ok v16 j0) j0 j0 j0<|r_nil (eg [34,35,36,37,38,39,40] 7 j0 j0 j0 j0)) (fun hb=>(sm (bF hb q16)).symm)<|r_nil ?_
   refine sw_cond j0 (fun hc17=>?_) (fun hc17=>?_)
   ·
    replace h:=bT hc17 h
    obtain ⟨v18,q18,h⟩:=bs h
    refine rd [(8,sA v13),(9,.mpt 0 0 0),(10,bA true)] [some (10,[(rApiMethod v18)])] [7] [6,5,4,3,2,1,0] [(8,sA v13),(47,.agg (rApiMethod v18)),(46,.ipt 10 (List.map rApiMethod v14.1.Methods) (Int.toNat v15) 0),(45,iA v15),(44,.isl 10 (List.map rApiMethod v14.1.Methods)),(43,.mpt 1 0 5),(42,sA v13)] 1 (by kernel_rfl) (by kernel_rfl) j0 (by kernel_rfl) (dtS ⟨(fun _=>pa j0 j0 j0 j0 (asg j0<|j4)),(fun _=>pa j0 j0 j0 j0 (ldI ti76 j0 (idx_some q18).2.2 j0<|j4)),(fun _=>pa j0 j0 j0 j0 (ixI ti27 j0 ti76 j0 j0 j0 q18<|j4)),(fun _=>pa j0 j0 j0 j0 (mv j0<|j4)),(fun _=>pa j0 j0 j0 j0 (ld ti27 j0 j0<|j4)),(fun _=>pa j0 j0 j0 j0 (fa ti29 j0 j0 j0<|j4)),(fun _=>pa j0 j0 j0 j0 (mv j0<|j4)),j5⟩ (by kernel_rfl) j0 ⟨(fun _ _=>⟨_,j0,j0,sto ti76 j0 j0 j0<|⟨.any,[8],[(10,bA true)],j0,j0,by kernel_rfl,j5,dt0 ⟨(fun _=>pa j0 j0 j0 j0 (asg j0<|j4)),(fun h=>by cases h),(fun h=>by cases h),(fun h=>by cases h),(fun h=>by cases h),(fun h=>by cases h),(fun h=>by cases h),(fun h=>by cases h),j5⟩ (by kernel_rfl) j0 ⟨[.old 0],ce j0 j0<|cv j0 (.mpt j0)<|ce j0 j0<|cn,j0,⟨⟨_,j0,rsOne (ciL j0)⟩,j5⟩,j0,j1⟩⟩⟩),j5⟩) ?_
    refine sw_ret ?_
    obtain rfl:=sm h
    exact ⟨_,j0,_,j0,[],rsTup ⟨(ci j0),(ci j0),(ci j0),j5⟩,j0,j5,j0,j1⟩
   ·
    replace h:=bF hc17 h
    refine sw_skip ?_
    refine rl j0<|u<|add ti3 j0 j0<|u<|mv j0<|r_nil ?_
    obtain rfl:=sm h
    exact ⟨_,j0,[.old 0],ce j0 j0<|ce j0 j0<|ce j0 j0<|cv j0 (.mpt j0)<|ce j0 j0<|ce j0 j0<|ce j0 j0<|cn,j0,⟨⟨_,j0,rsOne (ciL j0)⟩,j5⟩,j0,j1⟩
  ·
   replace h:=bF hc10 h
   refine sw_exit ?_
   obtain rfl:=sm h
   exact ⟨j0,_,j0,[.old 0],cv j0 (.mpt j0)<|cn,j0,⟨⟨_,j0,rsOne (ciL j0)⟩,j5⟩,j0,j1⟩
 ·
  rintro ⟨⟩ rfl
  replace h : link_find_s6_k2 = some r:=h
  unfold link_find_s6_k2 at h
  refine ow_intro ?_
  refine rg j0<|u<|bd ti76 j0 j0 j0<|u<|asg j0<|u<|sto ti76 j0 j0 j0<|u<|asg j0<|r_nil ?_
  refine sw_ret ?_
  obtain rfl:=sm h
  exact ⟨_,j0,[],rsTup ⟨(ci j0),(rsAgg ⟨ci j0,(.nil),ci j0,ci j0,ci j0,ci j0,ci j0,(.nil),(.nil),(.nil),j5⟩),(ci j0),j5⟩,j0,j5,j0,j1⟩
 ·
  rintro r' rfl env st hp
  obtain rfl:=sm h
  exact hp
def link_Face_s3 (v1 : List ApiClass) (v2 : List (List UInt8 × Int)) (v3 : List UInt8) (v4 : List UInt8) : Option ((List UInt8) × ApiMethod × Bool) :=
  (hier_Hier_Class_s3 v1 v2 v3).bind fun v5=>cond (!v5.1.Interface) (some ([],(ApiMethod.mk [] [] [] false false 0 0 [] [] []),false)) ((hier_Hier_Faces_s3 v1 v2 v3).bind fun v6=>(appP 16 [v3] v6).bind fun v7=>(link_find_s6 v1 v2 v7 v4).bind fun v8=>some (v8.1,v8.2.1,v8.2.2))
theorem link_Face_s3_ok (v1 : List ApiClass) (v2 : List (List UInt8 × Int)) (v3 : List UInt8) (v4 : List UInt8) {r : (List UInt8) × ApiMethod × Bool} (h : link_Face_s3 v1 v2 v3 v4 = some r) : PureC Tryz.prog 163 [.ipt 2 [[.isl 6 (List.map rApiClass v1),.imp (List.map (rKV (fun x=>iA x)) v2)]] 0 0,sA v3,sA v4] (.tup [sA r.1,.agg (rApiMethod r.2.1),bA r.2.2]):=by
 refine pure_fn Tryz.func163 j0 (by kernel_rfl) j0 j0 ?_
 unfold link_Face_s3 at h
 refine rg j0<|u<|asg j0<|u<|al 0 ti76 j0<|u<|asg j0<|r_nil ?_
 obtain ⟨v5,q1,h⟩:=bs h
 refine rg j0<|u<|mv j0<|u<|mv j0<|u<|pc (hier_Hier_Class_s3_ok v1 v2 v3 q1) j0 j0 j0<|u<|mv j0<|u<|ex j0 j0<|u<|ex j0 j0<|u<|al 1 ti29 j0<|u<|sto ti29 j0 j0 j0<|u<|asg j0<|r_nil ?_
 refine sw_seq ?_
 refine rg j0<|u<|fa ti29 j0 j0 j0<|u<|ld ti4 j0 j0<|u<|nt j0<|r_nil ?_
 refine sw_cond j0 (fun hc2=>?_) (fun hc2=>?_)
 ·
  replace h:=bT hc2 h
  refine rg j0<|u<|bd ti76 j0 j0 j0<|u<|asg j0<|u<|sto ti76 j0 j0 j0<|u<|asg j0<|r_nil ?_
  refine sw_ret ?_
  obtain rfl:=sm h
  exact ⟨_,j0,[],rsTup ⟨(ci j0),(rsAgg ⟨ci j0,(.nil),ci j0,ci j0,ci j0,ci j0,ci j0,(.nil),(.nil),(.nil),j5⟩),(ci j0),j5⟩,j0,j5,j0,j1⟩
 ·
  replace h:=bF hc2 h
  refine sw_skip ?_
  obtain ⟨v6,q3,h⟩:=bs h
  obtain ⟨v7,q4,h⟩:=bs h
  obtain ⟨v8,q5,h⟩:=bs h
  refine rg j0<|u<|mv j0<|u<|mv j0<|u<|bl 2 ti25 j0 ti9 j0 (by decide) (by decide) j0 j0 j0<|u<|mv j0<|u<|mv j0<|u<|sc [] (hier_Hier_Faces_s3_ok v1 v2 v3 q3) j0 j0 j0 j0 ⟨(rnI j0),(rnI j0),j5⟩ j5<|u<|apM (l:=[v3]) (f:=rStr) 4 ti25 j0 ti9 j0 j0 (by decide) ti25 j0 j0 j0 j0 (roM j0) (fun _=>j0) j0 q4<|u<|mv j0<|r_can (env0:=[(7,.mpt 0 0 0),(21,.ipt 2 [[.isl 6 (List.map rApiClass v1),.imp (List.map (rKV (fun x=>iA x)) v2)]] 0 0),(27,.isl 1 (List.map rStr v7)),(28,sA v4)]) (st0:=[some (10,[[sA [],.lit (.slice none 0 0),sA [],bA false,bA false,iA 0,iA 0,.lit (.slice none 0 0),.lit (.slice none 0 0),.lit (.slice none 0 0)]])]) ⟨[.old 0],cv j0 (.mpt j0)<|ce j0 j0<|cv j0 (rsSeal j0 j0 (fun _=>j0))<|ce j0 j0<|cn,j0,⟨⟨_,j0,rsOne (ciL j0)⟩,j5⟩,j0,j1⟩<|u<|pc (link_find_s6_ok v1 v2 v7 v4 q5) j0 j0 j0<|u<|ex j0 j0<|u<|ex j0 j0<|u<|ex j0 j0<|u<|asg j0<|u<|sto ti76 j0 j0 j0<|u<|asg j0<|r_nil ?_
  refine sw_ret ?_
  obtain rfl:=sm h
  exact ⟨_,j0,[],rsTup ⟨(ci j0),(ci j0),(ci j0),j5⟩,j0,j5,j0,j1⟩
end
end Go.Proofs.YtjbdfkapnffjnaaGreat
namespace Go.Proofs.YtjbdfkapnffjnaaGreat
noncomputable section
set_option linter.unusedSimpArgs false
set_option linter.unusedVariables false
set_option maxRecDepth 100000
set_option maxHeartbeats 4000000
def verify_checker_call_j3 (v1 : List ApiClass) (v2 : List (List UInt8 × Int)) (v3 : List UInt8) (v4 : ApiMethod) (v5 : List (List UInt8)) (v12 : ApiMethod) (v22 : List (List UInt8)) (v23 : Bool) : Option ((List (List UInt8)) × Bool) :=
  cond (!(v12.Ret == [86])) ((verify_checker_push v1 v2 v3 v4 v5 v22 v23 v12.Ret).bind fun v24=>some (v24,v23)) (some (v22,v23))
def verify_checker_call_j2 (v1 : List ApiClass) (v2 : List (List UInt8 × Int)) (v3 : List UInt8) (v4 : ApiMethod) (v5 : List (List UInt8)) (v8 : ApiIns) (v11 : List UInt8) (v12 : ApiMethod) (v14 : (List (List UInt8)) × Bool) (v15 : Bool) : Option ((List (List UInt8)) × Bool) :=
  cond v15 ((verify_checker_take v1 v2 v3 v4 v5 v14.1 v14.2 [v8.C]).bind fun v16=>verify_checker_call_j3 v1 v2 v3 v4 v5 v12 v16.1 v16.2) (cond (v8.Op == (44 : Int)) ((verify_checker_pop v1 v2 v3 v4 v5 v14.1 v14.2).bind fun v17=>(types_Fits_s3 v1 v2 v17.1 v8.C).bind fun v18=>cond v18 ((types_Fits_s3 v1 v2 v17.1 v3).bind fun v19=>cond v19 ((hier_Hier_Supers_s2 v1 v2 v3).bind fun v20=>(slices_Contains_string_string v20 v11).bind fun v21=>verify_checker_call_j3 v1 v2 v3 v4 v5 v12 v17.2.1 (v17.2.2 || (!v21))) (verify_checker_call_j3 v1 v2 v3 v4 v5 v12 v17.2.1 (v17.2.2 || (!false)))) (verify_checker_call_j3 v1 v2 v3 v4 v5 v12 v17.2.1 (v17.2.2 || (!false)))) (verify_checker_call_j3 v1 v2 v3 v4 v5 v12 v14.1 v14.2))
def verify_checker_call_j1 (v1 : List ApiClass) (v2 : List (List UInt8 × Int)) (v3 : List UInt8) (v4 : ApiMethod) (v5 : List (List UInt8)) (v6 : List (List UInt8)) (v7 : Bool) (v8 : ApiIns) (v11 : List UInt8) (v12 : ApiMethod) (v13 : Bool) : Option ((List (List UInt8)) × Bool) :=
  (verify_checker_take v1 v2 v3 v4 v5 v6 (v7 || (!(v13 && (v12.Static == (v8.Op == (42 : Int)))))) v12.Params).bind fun v14=>cond (v8.Op == (43 : Int)) (verify_checker_call_j2 v1 v2 v3 v4 v5 v8 v11 v12 v14 (v8.Op == (43 : Int))) (verify_checker_call_j2 v1 v2 v3 v4 v5 v8 v11 v12 v14 (v8.Op == (45 : Int)))
def verify_checker_call (v1 : List ApiClass) (v2 : List (List UInt8 × Int)) (v3 : List UInt8) (v4 : ApiMethod) (v5 : List (List UInt8)) (v6 : List (List UInt8)) (v7 : Bool) (v8 : ApiIns) : Option ((List (List UInt8)) × Bool) :=
  (link_Method_s3 v1 v2 v8.C v8.M).bind fun v9=>cond (v8.Op == (45 : Int)) ((link_Face_s3 v1 v2 v8.C v8.M).bind fun v10=>verify_checker_call_j1 v1 v2 v3 v4 v5 v6 v7 v8 v10.1 v10.2.1 v10.2.2) (verify_checker_call_j1 v1 v2 v3 v4 v5 v6 v7 v8 v9.1 v9.2.1 (v9.2.2 && (!v9.2.1.Abstract)))
theorem verify_checker_call_ok (v1 : List ApiClass) (v2 : List (List UInt8 × Int)) (v3 : List UInt8) (v4 : ApiMethod) (v5 : List (List UInt8)) (v6 : List (List UInt8)) (v7 : Bool) (v8 : ApiIns) {r : (List (List UInt8)) × Bool} (h : verify_checker_call v1 v2 v3 v4 v5 v6 v7 v8 = some r) : SC Tryz.prog 145 [.mpt 0 0 0,.agg (rApiIns v8)] [.one 15 (vK v1 v2 v3 v4 (.msl 1 0 (List.length v5)) (.msl 2 0 (List.length v6)) (bA v7)),.many 1 (List.map rStr v5),.many 1 (List.map rStr v6)] (.tup []) [.one 15 (vK v1 v2 v3 v4 (.msl 1 0 (List.length v5)) (.msl 3 0 (List.length r.1)) (bA r.2)),.many 1 (List.map rStr v5),.no,.many 1 (List.map rStr r.1)]:=by
 refine ⟨⟨j5,sbOk (sz:=1) (fun _=>j0),j5,sbOk (sz:=1) (fun _=>j0),j5⟩,scall_fn Tryz.func145 j0 (by kernel_rfl) j0 ?_⟩
 unfold verify_checker_call at h
 refine rg j0<|u<|bx 3 4 j0 j0 j0 j0<|r_nil ?_
 obtain ⟨v9,q1,h⟩:=bs h
 refine rd [(0,.mpt 0 0 0),(3,.mpt 3 0 0),(4,sA v9.1),(5,.mpt 4 0 0),(6,bA v9.2.2)] [some (15,[(vK v1 v2 v3 v4 (.msl 1 0 (List.length v5)) (.msl 2 0 (List.length v6)) (bA v7))]),some (1,List.map rStr v5),some (1,List.map rStr v6),some (4,[(rApiIns v8)]),some (10,[(rApiMethod v9.2.1)])] [13,15] [12,11,10,9,8,7,6,5,4,3,2,1,0] [(20,bA v9.2.2),(19,.agg (rApiMethod v9.2.1)),(18,sA v9.1),(8,.tup [sA v9.1,.agg (rApiMethod v9.2.1),bA v9.2.2]),(17,.tup [sA v9.1,.agg (rApiMethod v9.2.1),bA v9.2.2]),(16,sA v8.M),(15,.mpt 3 0 3),(14,sA v8.C),(13,.mpt 3 0 2),(12,.ipt 2 [[.isl 6 (List.map rApiClass v1),.imp (List.map (rKV (fun x=>iA x)) v2)]] 0 0),(11,.mpt 0 0 0),(10,.mpt 0 0 0),(9,.mpt 0 0 0)] 2 (by kernel_rfl) (by kernel_rfl) j0 (by kernel_rfl) (dtS ⟨(fun _=>pa j0 j0 j0 j0 (ex j0 j0<|j4)),(fun _=>pa j0 j0 j0 j0 (ex j0 j0<|j4)),(fun _=>pa j0 j0 j0 j0 (ex j0 j0<|j4)),(fun _=>pa j0 j0 j0 j0 (mv j0<|j4)),(fun _=>pa j0 j0 j0 j0 (pc (link_Method_s3_ok v1 v2 v8.C v8.M q1) j0 j0 j0<|j4)),(fun _=>pa j0 j0 j0 j0 (ld ti9 j0 j0<|j4)),(fun _=>pa j0 j0 j0 j0 (fa ti69 j0 j0 j0<|j4)),(fun _=>pa j0 j0 j0 j0 (ld ti9 j0 j0<|j4)),(fun _=>pa j0 j0 j0 j0 (fa ti69 j0 j0 j0<|j4)),(fun _=>pa j0 j0 j0 j0 (ld ti32 j0 j0<|j4)),(fun _=>pa j0 j0 j0 j0 (fa ti131 j0 j0 j0<|j4)),(fun _=>pa j0 j0 j0 j0 (nc j0 j0<|j4)),(fun _=>pa j0 j0 j0 j0 (mv j0<|j4)),j5⟩ (by kernel_rfl) j0 ⟨(fun _ _=>⟨_,j0,j0,al 4 ti76 j0<|⟨(.mpt 4 0 0),[14],[(4,sA v9.1),(5,.mpt 4 0 0)],j0,j0,by kernel_rfl,j0,dtS ⟨(fun _=>pa j0 j0 j0 j0 (asg j0<|j4)),(fun _=>pa j0 j0 j0 j0 (ex j0 j0<|j4)),(fun _=>pa j0 j0 j0 j0 (ex j0 j0<|j4)),(fun _=>pa j0 j0 j0 j0 (ex j0 j0<|j4)),(fun _=>pa j0 j0 j0 j0 (mv j0<|j4)),(fun _=>pa j0 j0 j0 j0 (pc (link_Method_s3_ok v1 v2 v8.C v8.M q1) j0 j0 j0<|j4)),(fun _=>pa j0 j0 j0 j0 (ld ti9 j0 j0<|j4)),(fun _=>pa j0 j0 j0 j0 (fa ti69 j0 j0 j0<|j4)),(fun _=>pa j0 j0 j0 j0 (ld ti9 j0 j0<|j4)),(fun _=>pa j0 j0 j0 j0 (fa ti69 j0 j0 j0<|j4)),(fun _=>pa j0 j0 j0 j0 (ld ti32 j0 j0<|j4)),(fun _=>pa j0 j0 j0 j0 (fa ti131 j0 j0 j0<|j4)),(fun _=>pa j0 j0 j0 j0 (nc j0 j0<|j4)),(fun _=>pa j0 j0 j0 j0 (mv j0<|j4)),j5⟩ (by kernel_rfl) j0 ⟨(fun h=>by cases h),(fun _ _=>⟨_,j0,j0,sto ti76 j0 j0 j0<|⟨.any,[16],[(6,bA v9.2.2)],j0,j0,by kernel_rfl,j5,dt0 ⟨(fun _=>pa j0 j0 j0 j0 (asg j0<|j4)),(fun h=>by cases h),(fun _=>pa j0 j0 j0 j0 (ex j0 j0<|j4)),(fun h=>by cases h),(fun h=>by cases h),(fun h=>by cases h),(fun h=>by cases h),(fun h=>by cases h),(fun h=>by cases h),(fun h=>by cases h),(fun h=>by cases h),(fun h=>by cases h),(fun h=>by cases h),(fun h=>by cases h),(fun h=>by cases h),j5⟩ (by kernel_rfl) j0 ⟨[.old 0,.old 1,.old 2,.old 3,.old 4],cv j0 (.mpt j0)<|cv j0 (.mpt j0)<|ce j0 j0<|cv j0 (.mpt j0)<|ce j0 j0<|cn,j0,⟨⟨_,j0,rsOne (cc12 j0 (by exact ⟨.msl j0,.msl j0,ci j0,j5⟩))⟩,⟨_,j0,rsMap (fun _=>j0)⟩,⟨_,j0,rsMap (fun _=>j0)⟩,⟨_,j0,rsOne (ciL j0)⟩,⟨_,j0,rsOne (ciL j0)⟩,j5⟩,j0,j1⟩⟩⟩),j5⟩⟩⟩),(fun _ h=>by cases h),j5⟩) ?_
 refine rg j0<|u<|mv j0<|u<|mv j0<|r_and (j:=1) 3 j0 j0 j0 j0 j0 gpn (fun hb2=>g j0 hb2<|fa ti76 j0 j0 j0<|g j0 hb2<|ld ti4 j0 j0<|g j0 hb2<|nt j0<|r_nil (egA [23,24,25] 3 hb2 j0 j0 j0 j0)) andF<|u<|asg j0<|r_nil ?_
 refine sw_meet (X:=(List UInt8) × ApiMethod × Bool) (fun z=>[(0,.mpt 0 0 0),(3,.mpt 3 0 0),(4,sA z.1),(5,.mpt 4 0 0),(6,bA z.2.2)]) (fun z=>[some (15,[(vK v1 v2 v3 v4 (.msl 1 0 (List.length v5)) (.msl 2 0 (List.length v6)) (bA v7))]),some (1,List.map rStr v5),some (1,List.map rStr v6),some (4,[(rApiIns v8)]),some (10,[(rApiMethod z.2.1)])]) (fun z=>verify_checker_call_j1 v1 v2 v3 v4 v5 v6 v7 v8 z.1 z.2.1 z.2.2 = some r) ?_ ?_
 ·
  refine rg j0<|u<|fa ti69 j0 j0 j0<|u<|ld ti3 j0 j0<|u<|eql ti3 j0 j0<|r_nil ?_
  refine sw_cond j0 (fun hc3=>?_) (fun hc3=>?_)
  ·
   replace h:=bT hc3 h
   obtain ⟨v10,q4,h⟩:=bs h
   refine rdL [(0,.mpt 0 0 0),(3,.mpt 3 0 0),(4,sA v10.1),(5,.mpt 4 0 0),(6,bA v10.2.2)] [some (15,[(vK v1 v2 v3 v4 (.msl 1 0 (List.length v5)) (.msl 2 0 (List.length v6)) (bA v7))]),some (1,List.map rStr v5),some (1,List.map rStr v6),some (4,[(rApiIns v8)]),some (10,[(rApiMethod v10.2.1)])] [14] [13,12,11,10,9,8,7,6,5,4,3,2,1,0] [(4,sA v10.1),(42,bA v10.2.2),(41,.agg (rApiMethod v10.2.1)),(40,sA v10.1),(30,.tup [sA v10.1,.agg (rApiMethod v10.2.1),bA v10.2.2]),(39,.tup [sA v10.1,.agg (rApiMethod v10.2.1),bA v10.2.2]),(38,sA v8.M),(37,.mpt 3 0 3),(36,sA v8.C),(35,.mpt 3 0 2),(34,.ipt 2 [[.isl 6 (List.map rApiClass v1),.imp (List.map (rKV (fun x=>iA x)) v2)]] 0 0),(33,.mpt 0 0 0),(32,.mpt 0 0 0),(31,.mpt 0 0 0)] 1 (by kernel_rfl) (by kernel_rfl) j0 (by kernel_rfl) (dtS ⟨(fun _=>pa j0 j0 j0 j0 (asg j0<|j4)),(fun _=>pa j0 j0 j0 j0 (ex j0 j0<|j4)),(fun _=>pa j0 j0 j0 j0 (ex j0 j0<|j4)),(fun _=>pa j0 j0 j0 j0 (ex j0 j0<|j4)),(fun _=>pa j0 j0 j0 j0 (mv j0<|j4)),(fun _=>pa j0 j0 j0 j0 (pc (link_Face_s3_ok v1 v2 v8.C v8.M q4) j0 j0 j0<|j4)),(fun _=>pa j0 j0 j0 j0 (ld ti9 j0 j0<|j4)),(fun _=>pa j0 j0 j0 j0 (fa ti69 j0 j0 j0<|j4)),(fun _=>pa j0 j0 j0 j0 (ld ti9 j0 j0<|j4)),(fun _=>pa j0 j0 j0 j0 (fa ti69 j0 j0 j0<|j4)),(fun _=>pa j0 j0 j0 j0 (ld ti32 j0 j0<|j4)),(fun _=>pa j0 j0 j0 j0 (fa ti131 j0 j0 j0<|j4)),(fun _=>pa j0 j0 j0 j0 (nc j0 j0<|j4)),(fun _=>pa j0 j0 j0 j0 (mv j0<|j4)),j5⟩ (by kernel_rfl) j0 ⟨(fun _ _=>⟨_,j0,j0,sto ti76 j0 j0 j0<|⟨.any,[15],[(6,bA v10.2.2)],j0,j0,by kernel_rfl,j5,dt0 ⟨(fun _=>pa j0 j0 j0 j0 (asg j0<|j4)),(fun h=>by cases h),(fun _=>pa j0 j0 j0 j0 (ex j0 j0<|j4)),(fun h=>by cases h),(fun h=>by cases h),(fun h=>by cases h),(fun h=>by cases h),(fun h=>by cases h),(fun h=>by cases h),(fun h=>by cases h),(fun h=>by cases h),(fun h=>by cases h),(fun h=>by cases h),(fun h=>by cases h),(fun h=>by cases h),j5⟩ (by kernel_rfl) j0 ⟨[.old 0,.old 1,.old 2,.old 3,.old 4],cv j0 (.mpt j0)<|cv j0 (.mpt j0)<|ce j0 j0<|cv j0 (.mpt j0)<|ce j0 j0<|cn,j0,⟨⟨_,j0,rsOne (cc12 j0 (by exact ⟨.msl j0,.msl j0,ci j0,j5⟩))⟩,⟨_,j0,rsMap (fun _=>j0)⟩,⟨_,j0,rsMap (fun _=>j0)⟩,⟨_,j0,rsOne (ciL j0)⟩,⟨_,j0,rsOne (ciL j0)⟩,j5⟩,j0,j1⟩⟩⟩),j5⟩) ?_
   exact ⟨⟨v10.1,v10.2.1,v10.2.2⟩,h,[.old 0,.old 1,.old 2,.old 3,.old 4],cv j0 (.mpt j0)<|cv j0 (.mpt j0)<|ce j0 j0<|cv j0 (.mpt j0)<|ce j0 j0<|cn,j0,⟨⟨_,j0,rsOne (cc12 j0 (by exact ⟨.msl j0,.msl j0,ci j0,j5⟩))⟩,⟨_,j0,rsMap (fun _=>j0)⟩,⟨_,j0,rsMap (fun _=>j0)⟩,⟨_,j0,rsOne (ciL j0)⟩,⟨_,j0,rsOne (ciL j0)⟩,j5⟩,j0,j1⟩
  ·
   replace h:=bF hc3 h
   refine sw_skip ?_
   exact ⟨⟨v9.1,v9.2.1,(v9.2.2 && (!v9.2.1.Abstract))⟩,h,[.old 0,.old 1,.old 2,.old 3,.old 4],cv j0 (.mpt j0)<|cv j0 (.mpt j0)<|ce j0 j0<|cv j0 (.mpt j0)<|ce j0 j0<|cn,j0,⟨⟨_,j0,rsOne (cc12 j0 (by exact ⟨.msl j0,.msl j0,ci j0,j5⟩))⟩,⟨_,j0,rsMap (fun _=>j0)⟩,⟨_,j0,rsMap (fun _=>j0)⟩,⟨_,j0,rsOne (ciL j0)⟩,⟨_,j0,rsOne (ciL j0)⟩,j5⟩,j0,j1⟩
 ·
  rintro ⟨v11,v12,v13⟩ h
  replace h : verify_checker_call_j1 v1 v2 v3 v4 v5 v6 v7 v8 v11 v12 v13 = some r:=h
  unfold verify_checker_call_j1 at h
  refine rg j0<|u<|mv j0<|u<|mv j0<|u<|mv j0<|r_and (j:=2) 6 j0 j0 j0 j0 j0 gpn (fun hb5=>g j0 hb5<|fa ti76 j0 j0 j0<|g j0 hb5<|ld ti4 j0 j0<|g j0 hb5<|fa ti69 j0 j0 j0<|g j0 hb5<|ld ti3 j0 j0<|g j0 hb5<|eql ti3 j0 j0<|g j0 hb5<|beq ti4 j0 j0 j0<|r_nil (egA [46,47,48,49,50,51] 6 hb5 j0 j0 j0 j0)) andF<|u<|sc [0,1,2] (verify_checker_need_ok v1 v2 v3 v4 v5 v6 v7 (v13 && (v12.Static == (v8.Op == (42 : Int)))) j0) j0 j0 j0 j0 ⟨(.mpt j0),(rnI j0),j5⟩ ⟨⟨_,j0,(rr12 j0 ⟨(.msl j0),(.msl j0),(rnI j0),j5⟩)⟩,⟨j0,mkI (fun _=>j0)⟩,⟨j0,mkI (fun _=>j0)⟩,j5⟩<|r_can (env0:=[(0,.mpt 0 0 0),(3,.mpt 3 0 0),(4,sA v11),(5,.mpt 4 0 0)]) (st0:=[some (15,[(vK v1 v2 v3 v4 (.msl 1 0 (List.length v5)) (.msl 2 0 (List.length v6)) (bA (v7 || (!(v13 && (v12.Static == (v8.Op == (42 : Int))))))))]),some (1,List.map rStr v5),some (1,List.map rStr v6),some (4,[(rApiIns v8)]),some (10,[(rApiMethod v12)])]) ⟨[.old 0,.old 1,.old 2,.old 3,.old 4],cv j0 (.mpt j0)<|cv j0 (.mpt j0)<|ce j0 j0<|cv j0 (.mpt j0)<|cn,j0,⟨⟨_,j0,rsOne (cc12 j0 (by exact ⟨.msl j0,.msl j0,ci j0,j5⟩))⟩,⟨_,j0,rsMap (fun _=>j0)⟩,⟨_,j0,rsMap (fun _=>j0)⟩,⟨_,j0,rsOne (ciL j0)⟩,⟨_,j0,rsOne (ciL j0)⟩,j5⟩,j0,j1⟩<|r_nil ?_
  obtain ⟨v14,q6,h⟩:=bs h
  refine rg j0<|u<|mv j0<|u<|fa ti76 j0 j0 j0<|u<|ld ti25 j0 j0<|u<|sc [0,1,2] (verify_checker_take_ok v1 v2 v3 v4 v5 v6 (v7 || (!(v13 && (v12.Static == (v8.Op == (42 : Int)))))) v12.Params q6) j0 j0 j0 j0 ⟨(.mpt j0),(rnI j0),j5⟩ ⟨⟨_,j0,(rr12 j0 ⟨(.msl j0),(.msl j0),(rnI j0),j5⟩)⟩,⟨j0,mkI (fun _=>j0)⟩,⟨j0,mkI (fun _=>j0)⟩,j5⟩<|r_can (env0:=[(0,.mpt 0 0 0),(3,.mpt 3 0 0),(4,sA v11),(5,.mpt 4 0 0)]) (st0:=[some (15,[(vK v1 v2 v3 v4 (.msl 1 0 (List.length v5)) (.msl 2 0 (List.length v14.1)) (bA v14.2))]),some (1,List.map rStr v5),some (1,List.map rStr v14.1),some (4,[(rApiIns v8)]),some (10,[(rApiMethod v12)])]) ⟨[.old 0,.old 1,.old 2,.old 3,.old 4],cv j0 (.mpt j0)<|cv j0 (.mpt j0)<|ce j0 j0<|cv j0 (.mpt j0)<|cn,j0,⟨⟨_,j0,rsOne (cc12 j0 (by exact ⟨.msl j0,.msl j0,ci j0,j5⟩))⟩,⟨_,j0,rsMap (fun _=>j0)⟩,⟨_,j0,rsMap (fun _=>j0)⟩,⟨_,j0,rsOne (ciL j0)⟩,⟨_,j0,rsOne (ciL j0)⟩,j5⟩,j0,j1⟩<|r_nil ?_
  refine sw_meet (X:=(List (List UInt8)) × Bool) (fun z=>[(0,.mpt 0 0 0),(5,.mpt 3 0 0)]) (fun z=>[some (15,[(vK v1 v2 v3 v4 (.msl 1 0 (List.length v5)) (.msl 2 0 (List.length z.1)) (bA z.2))]),some (1,List.map rStr v5),some (1,List.map rStr z.1),some (10,[(rApiMethod v12)])]) (fun z=>verify_checker_call_j3 v1 v2 v3 v4 v5 v12 z.1 z.2 = some r) ?_ ?_
  ·
   refine rg j0<|u<|fa ti69 j0 j0 j0<|u<|ld ti3 j0 j0<|r_nil ?_
   refine sw_block ?_
   refine sw_meet (X:=Bool) (fun z=>[(0,.mpt 0 0 0),(3,.mpt 3 0 0),(4,sA v11),(5,.mpt 4 0 0),(59,iA v8.Op),(60,bA z)]) (fun z=>[some (15,[(vK v1 v2 v3 v4 (.msl 1 0 (List.length v5)) (.msl 2 0 (List.length v14.1)) (bA v14.2))]),some (1,List.map rStr v5),some (1,List.map rStr v14.1),some (4,[(rApiIns v8)]),some (10,[(rApiMethod v12)])]) (fun z=>verify_checker_call_j2 v1 v2 v3 v4 v5 v8 v11 v12 v14 z = some r) ?_ ?_
   ·
    refine rg j0<|u<|eql ti3 j0 j0<|u<|asg j0<|r_nil ?_
    refine sw_cond j0 (fun hc7=>?_) (fun hc7=>?_)
    ·
     replace h:=bT hc7 h
     refine sw_skip ?_
     exact ⟨(v8.Op == (43 : Int)),h,[.old 0,.old 1,.old 2,.old 3,.old 4],cv j0 (.mpt j0)<|cv j0 (.mpt j0)<|ce j0 j0<|cv j0 (.mpt j0)<|ce j0 j0<|ce j0 j0<|cn,j0,⟨⟨_,j0,rsOne (cc12 j0 (by exact ⟨.msl j0,.msl j0,ci j0,j5⟩))⟩,⟨_,j0,rsMap (fun _=>j0)⟩,⟨_,j0,rsMap (fun _=>j0)⟩,⟨_,j0,rsOne (ciL j0)⟩,⟨_,j0,rsOne (ciL j0)⟩,j5⟩,j0,j1⟩
    ·
     replace h:=bF hc7 h
     exact rl j0<|u<|eql ti3 j0 j0<|u<|asg j0<|r_nil (⟨(v8.Op == (45 : Int)),h,[.old 0,.old 1,.old 2,.old 3,.old 4],cv j0 (.mpt j0)<|cv j0 (.mpt j0)<|ce j0 j0<|cv j0 (.mpt j0)<|ce j0 j0<|ce j0 j0<|cn,j0,⟨⟨_,j0,rsOne (cc12 j0 (by exact ⟨.msl j0,.msl j0,ci j0,j5⟩))⟩,⟨_,j0,rsMap (fun _=>j0)⟩,⟨_,j0,rsMap (fun _=>j0)⟩,⟨_,j0,rsOne (ciL j0)⟩,⟨_,j0,rsOne (ciL j0)⟩,j5⟩,j0,j1⟩)
   ·
    rintro v15 h
    replace h : verify_checker_call_j2 v1 v2 v3 v4 v5 v8 v11 v12 v14 v15 = some r:=h
    unfold verify_checker_call_j2 at h
    refine sw_cond j0 (fun hc8=>?_) (fun hc8=>?_)
    ·
     replace h:=bT hc8 h
     obtain ⟨v16,q9,h⟩:=bs h
     exact rl j0<|u<|mv j0<|u<|fa ti69 j0 j0 j0<|u<|ld ti9 j0 j0<|u<|bl 5 ti25 j0 ti9 j0 (by decide) (by decide) j0 j0 j0<|r_can (env0:=[(0,.mpt 0 0 0),(5,.mpt 3 0 0),(63,.mpt 0 0 0),(66,.isl 1 (List.map rStr [v8.C]))]) (st0:=[some (15,[(vK v1 v2 v3 v4 (.msl 1 0 (List.length v5)) (.msl 2 0 (List.length v14.1)) (bA v14.2))]),some (1,List.map rStr v5),some (1,List.map rStr v14.1),some (10,[(rApiMethod v12)])]) ⟨[.old 0,.old 1,.old 2,.old 4],cv j0 (.mpt j0)<|cv j0 (.mpt j0)<|cv j0 (.mpt j0)<|cv j0 (rsSealX j0 j0 ⟨⟨⟨ci j0,j5⟩,j0⟩,j5⟩)<|cn,j0,⟨⟨_,j0,rsOne (cc12 j0 (by exact ⟨.msl j0,.msl j0,ci j0,j5⟩))⟩,⟨_,j0,rsMap (fun _=>j0)⟩,⟨_,j0,rsMap (fun _=>j0)⟩,⟨_,j0,rsOne (ciL j0)⟩,j5⟩,j0,j1⟩<|u<|sc [0,1,2] (verify_checker_take_ok v1 v2 v3 v4 v5 v14.1 v14.2 [v8.C] q9) j0 j0 j0 j0 ⟨(.mpt j0),(rnI j0),j5⟩ ⟨⟨_,j0,(rr12 j0 ⟨(.msl j0),(.msl j0),(rnI j0),j5⟩)⟩,⟨j0,mkI (fun _=>j0)⟩,⟨j0,mkI (fun _=>j0)⟩,j5⟩<|r_can (env0:=[(0,.mpt 0 0 0),(5,.mpt 3 0 0)]) (st0:=[some (15,[(vK v1 v2 v3 v4 (.msl 1 0 (List.length v5)) (.msl 2 0 (List.length v16.1)) (bA v16.2))]),some (1,List.map rStr v5),some (1,List.map rStr v16.1),some (10,[(rApiMethod v12)])]) ⟨[.old 0,.old 1,.old 2,.old 3],cv j0 (.mpt j0)<|cv j0 (.mpt j0)<|cn,j0,⟨⟨_,j0,rsOne (cc12 j0 (by exact ⟨.msl j0,.msl j0,ci j0,j5⟩))⟩,⟨_,j0,rsMap (fun _=>j0)⟩,⟨_,j0,rsMap (fun _=>j0)⟩,⟨_,j0,rsOne (ciL j0)⟩,j5⟩,j0,j1⟩<|r_nil (⟨⟨v16.1,v16.2⟩,h,[.old 0,.old 1,.old 2,.old 3],cv j0 (.mpt j0)<|cv j0 (.mpt j0)<|cn,j0,⟨⟨_,j0,rsOne (cc12 j0 (by exact ⟨.msl j0,.msl j0,ci j0,j5⟩))⟩,⟨_,j0,rsMap (fun _=>j0)⟩,⟨_,j0,rsMap (fun _=>j0)⟩,⟨_,j0,rsOne (ciL j0)⟩,j5⟩,j0,j1⟩)
    ·
     replace h:=bF hc8 h
     refine rg j0<|u<|eql ti3 j0 j0<|u<|asg j0<|r_nil ?_
     refine sw_cond j0 (fun hc10=>?_) (fun hc10=>?_)
     ·
      replace h:=bT hc10 h
      obtain ⟨v17,q11,h⟩:=bs h
      refine rg j0<|u<|mv j0<|u<|sc [0,1,2] (verify_checker_pop_ok v1 v2 v3 v4 v5 v14.1 v14.2 q11) j0 j0 j0 j0 ⟨(.mpt j0),j5⟩ ⟨⟨_,j0,(rr12 j0 ⟨(.msl j0),(.msl j0),(rnI j0),j5⟩)⟩,⟨j0,mkI (fun _=>j0)⟩,⟨j0,mkI (fun _=>j0)⟩,j5⟩<|r_can (env0:=[(0,.mpt 0 0 0),(3,.mpt 3 0 0),(4,sA v11),(5,.mpt 4 0 0),(71,sA v17.1)]) (st0:=[some (15,[(vK v1 v2 v3 v4 (.msl 1 0 (List.length v5)) (.msl 2 0 (List.length v17.2.1)) (bA v17.2.2))]),some (1,List.map rStr v5),some (1,List.map rStr v17.2.1),some (4,[(rApiIns v8)]),some (10,[(rApiMethod v12)])]) ⟨[.old 0,.old 1,.old 2,.old 3,.old 4],cv j0 (.mpt j0)<|cv j0 (.mpt j0)<|ce j0 j0<|cv j0 (.mpt j0)<|ce j0 j0<|cn,j0,⟨⟨_,j0,rsOne (cc12 j0 (by exact ⟨.msl j0,.msl j0,ci j0,j5⟩))⟩,⟨_,j0,rsMap (fun _=>j0)⟩,⟨_,j0,rsMap (fun _=>j0)⟩,⟨_,j0,rsOne (ciL j0)⟩,⟨_,j0,rsOne (ciL j0)⟩,j5⟩,j0,j1⟩<|u<|asg j0<|r_nil ?_
      obtain ⟨v18,q12,h⟩:=bs h
      rcases bb v18 with hb13 | hb13
      ·
       replace h:=bT hb13 h
       obtain ⟨v19,q14,h⟩:=bs h
       rcases bb v19 with hb15 | hb15
       ·
        replace h:=bT hb15 h
        obtain ⟨v20,q16,h⟩:=bs h
        obtain ⟨v21,q17,h⟩:=bs h
        refine rdL [(0,.mpt 0 0 0),(5,.mpt 3 0 0)] [some (15,[(vK v1 v2 v3 v4 (.msl 1 0 (List.length v5)) (.msl 2 0 (List.length v17.2.1)) (bA (v17.2.2 || (!v21))))]),some (1,List.map rStr v5),some (1,List.map rStr v17.2.1),some (10,[(rApiMethod v12)])] [30,34] [31,29,28,27,26,25,24,23,22,21,20,19,18,17,16,15,14,13,12,11,10,9,8,7,6,5,4,3,2,1,0] [(103,sA v11),(101,sA v3),(100,.mpt 0 0 1),(99,.mpt 0 0 0),(98,.mpt 0 0 0),(97,.ipt 2 [[.isl 6 (List.map rApiClass v1),.imp (List.map (rKV (fun x=>iA x)) v2)]] 0 0),(96,.mpt 0 0 0),(95,.mpt 0 0 0),(94,.mpt 0 0 0),(93,bA v19),(92,bA v19),(91,bA v19),(90,sA v3),(89,.mpt 0 0 1),(88,.mpt 0 0 0),(87,.mpt 0 0 0),(86,sA v17.1),(85,.ipt 2 [[.isl 6 (List.map rApiClass v1),.imp (List.map (rKV (fun x=>iA x)) v2)]] 0 0),(84,.mpt 0 0 0),(83,.mpt 0 0 0),(82,.mpt 0 0 0),(81,bA v18),(80,bA v18),(79,sA v8.C),(78,.mpt 3 0 2),(77,sA v17.1),(76,.ipt 2 [[.isl 6 (List.map rApiClass v1),.imp (List.map (rKV (fun x=>iA x)) v2)]] 0 0),(75,.mpt 0 0 0),(74,.mpt 0 0 0),(73,.mpt 0 0 0),(72,.mpt 0 0 0)] 2 (by kernel_rfl) (by kernel_rfl) j0 (by kernel_rfl) (dtS ⟨(fun _=>pag (b:=v19) j0 j0 j0 j0 hb15 j0 (mv j0<|j4)),(fun _=>pag (b:=v19) j0 j0 j0 j0 hb15 j0 (ld ti9 j0 j0<|j4)),(fun _=>pag (b:=v19) j0 j0 j0 j0 hb15 j0 (fa ti131 j0 j0 j0<|j4)),(fun _=>pag (b:=v19) j0 j0 j0 j0 hb15 j0 (nc j0 j0<|j4)),(fun _=>pag (b:=v19) j0 j0 j0 j0 hb15 j0 (mv j0<|j4)),(fun _=>pag (b:=v19) j0 j0 j0 j0 hb15 j0 (ld ti32 j0 j0<|j4)),(fun _=>pag (b:=v19) j0 j0 j0 j0 hb15 j0 (fa ti131 j0 j0 j0<|j4)),(fun _=>pag (b:=v19) j0 j0 j0 j0 hb15 j0 (nc j0 j0<|j4)),(fun _=>pag (b:=v19) j0 j0 j0 j0 hb15 j0 (mv j0<|j4)),(fun _=>pa j0 j0 j0 j0 (mv j0<|j4)),(fun _=>pa j0 j0 j0 j0 (pkb j0 hb13 j0<|j4)),(fun _=>pag (b:=v18) j0 j0 j0 j0 hb13 j0 (pc (types_Fits_s3_ok v1 v2 v17.1 v3 q14) j0 j0 j0<|j4)),(fun _=>pag (b:=v18) j0 j0 j0 j0 hb13 j0 (ld ti9 j0 j0<|j4)),(fun _=>pag (b:=v18) j0 j0 j0 j0 hb13 j0 (fa ti131 j0 j0 j0<|j4)),(fun _=>pag (b:=v18) j0 j0 j0 j0 hb13 j0 (nc j0 j0<|j4)),(fun _=>pag (b:=v18) j0 j0 j0 j0 hb13 j0 (mv j0<|j4)),(fun _=>pag (b:=v18) j0 j0 j0 j0 hb13 j0 (mv j0<|j4)),(fun _=>pag (b:=v18) j0 j0 j0 j0 hb13 j0 (ld ti32 j0 j0<|j4)),(fun _=>pag (b:=v18) j0 j0 j0 j0 hb13 j0 (fa ti131 j0 j0 j0<|j4)),(fun _=>pag (b:=v18) j0 j0 j0 j0 hb13 j0 (nc j0 j0<|j4)),(fun _=>pag (b:=v18) j0 j0 j0 j0 hb13 j0 (mv j0<|j4)),(fun _=>pa j0 j0 j0 j0 (mv j0<|j4)),(fun _=>pa j0 j0 j0 j0 (pc (types_Fits_s3_ok v1 v2 v17.1 v8.C q12) j0 j0 j0<|j4)),(fun _=>pa j0 j0 j0 j0 (ld ti9 j0 j0<|j4)),(fun _=>pa j0 j0 j0 j0 (fa ti69 j0 j0 j0<|j4)),(fun _=>pa j0 j0 j0 j0 (mv j0<|j4)),(fun _=>pa j0 j0 j0 j0 (ld ti32 j0 j0<|j4)),(fun _=>pa j0 j0 j0 j0 (fa ti131 j0 j0 j0<|j4)),(fun _=>pa j0 j0 j0 j0 (nc j0 j0<|j4)),(fun _=>pa j0 j0 j0 j0 (mv j0<|j4)),(fun _=>pa j0 j0 j0 j0 (mv j0<|j4)),j5⟩ (by kernel_rfl) j0 ⟨(fun _ _=>⟨_,j0,cg (b:=v19) j0 hb15,sc [] (hier_Hier_Supers_s2_ok v1 v2 v3 q16) j0 j0 j0 j0 ⟨(rnI j0),(rnI j0),j5⟩ j5<|⟨(.msl 5 0 (List.length v20)),[33,32],[(105,bA v21),(104,bA v21),(102,.msl 5 0 (List.length v20))],j0,j0,by kernel_rfl,j0,dtS ⟨(fun _=>pa j0 j0 j0 j0 (pkb j0 hb15 j0<|j4)),(fun _=>pag (b:=v19) j0 j0 j0 j0 hb15 j0 (pcs (slices_Contains_string_string_ok v20 v11 q17) j0 j0 (.cons (sealM j0 (fun _=>j0)) (.cons (si j0) .nil)) plainB<|j4)),(fun _=>pag (b:=v19) j0 j0 j0 j0 hb15 j0 (mv j0<|j4)),(fun h=>by cases h),(fun _=>pag (b:=v19) j0 j0 j0 j0 hb15 j0 (fa ti131 j0 j0 j0<|j4)),(fun _=>pag (b:=v19) j0 j0 j0 j0 hb15 j0 (nc j0 j0<|j4)),(fun _=>pag (b:=v19) j0 j0 j0 j0 hb15 j0 (mv j0<|j4)),(fun h=>by cases h),(fun _=>pag (b:=v19) j0 j0 j0 j0 hb15 j0 (fa ti131 j0 j0 j0<|j4)),(fun _=>pag (b:=v19) j0 j0 j0 j0 hb15 j0 (nc j0 j0<|j4)),(fun _=>pag (b:=v19) j0 j0 j0 j0 hb15 j0 (mv j0<|j4)),(fun h=>by cases h),(fun _=>pa j0 j0 j0 j0 (pkb j0 hb13 j0<|j4)),(fun _=>pag (b:=v18) j0 j0 j0 j0 hb13 j0 (pc (types_Fits_s3_ok v1 v2 v17.1 v3 q14) j0 j0 j0<|j4)),(fun _=>pag (b:=v18) j0 j0 j0 j0 hb13 j0 (ld ti9 j0 j0<|j4)),(fun _=>pag (b:=v18) j0 j0 j0 j0 hb13 j0 (fa ti131 j0 j0 j0<|j4)),(fun _=>pag (b:=v18) j0 j0 j0 j0 hb13 j0 (nc j0 j0<|j4)),(fun _=>pag (b:=v18) j0 j0 j0 j0 hb13 j0 (mv j0<|j4)),(fun _=>pag (b:=v18) j0 j0 j0 j0 hb13 j0 (mv j0<|j4)),(fun _=>pag (b:=v18) j0 j0 j0 j0 hb13 j0 (ld ti32 j0 j0<|j4)),(fun _=>pag (b:=v18) j0 j0 j0 j0 hb13 j0 (fa ti131 j0 j0 j0<|j4)),(fun _=>pag (b:=v18) j0 j0 j0 j0 hb13 j0 (nc j0 j0<|j4)),(fun _=>pag (b:=v18) j0 j0 j0 j0 hb13 j0 (mv j0<|j4)),(fun _=>pa j0 j0 j0 j0 (mv j0<|j4)),(fun _=>pa j0 j0 j0 j0 (pc (types_Fits_s3_ok v1 v2 v17.1 v8.C q12) j0 j0 j0<|j4)),(fun _=>pa j0 j0 j0 j0 (ld ti9 j0 j0<|j4)),(fun _=>pa j0 j0 j0 j0 (fa ti69 j0 j0 j0<|j4)),(fun _=>pa j0 j0 j0 j0 (mv j0<|j4)),(fun _=>pa j0 j0 j0 j0 (ld ti32 j0 j0<|j4)),(fun _=>pa j0 j0 j0 j0 (fa ti131 j0 j0 j0<|j4)),(fun _=>pa j0 j0 j0 j0 (nc j0 j0<|j4)),(fun _=>pa j0 j0 j0 j0 (mv j0<|j4)),(fun _=>pa j0 j0 j0 j0 (mv j0<|j4)),j5⟩ (by kernel_rfl) j0 ⟨(fun h=>by cases h),(fun _ _=>⟨_,j0,j0,sc [0,1,2] (args:=[.mpt 0 0 0,bA v21]) (verify_checker_need_ok v1 v2 v3 v4 v5 v17.2.1 v17.2.2 v21 j0) j0 j0 j0 j0 ⟨(.mpt j0),(rnI j0),j5⟩ ⟨⟨_,j0,(rr12 j0 ⟨(.msl j0),(.msl j0),(rnI j0),j5⟩)⟩,⟨j0,mkI (fun _=>j0)⟩,⟨j0,mkI (fun _=>j0)⟩,j5⟩<|⟨(.tup []),[],[(106,.tup [])],j0,j0,by kernel_rfl,j0,dt0 ⟨(fun h=>by cases h),(fun h=>by cases h),(fun _=>pag (b:=v19) j0 j0 j0 j0 hb15 j0 (mv j0<|j4)),(fun h=>by cases h),(fun _=>pag (b:=v19) j0 j0 j0 j0 hb15 j0 (fa ti131 j0 j0 j0<|j4)),(fun _=>pag (b:=v19) j0 j0 j0 j0 hb15 j0 (nc j0 j0<|j4)),(fun _=>pag (b:=v19) j0 j0 j0 j0 hb15 j0 (mv j0<|j4)),(fun h=>by cases h),(fun _=>pag (b:=v19) j0 j0 j0 j0 hb15 j0 (fa ti131 j0 j0 j0<|j4)),(fun _=>pag (b:=v19) j0 j0 j0 j0 hb15 j0 (nc j0 j0<|j4)),(fun _=>pag (b:=v19) j0 j0 j0 j0 hb15 j0 (mv j0<|j4)),(fun h=>by cases h),(fun _=>pa j0 j0 j0 j0 (pkb j0 hb13 j0<|j4)),(fun _=>pag (b:=v18) j0 j0 j0 j0 hb13 j0 (pc (types_Fits_s3_ok v1 v2 v17.1 v3 q14) j0 j0 j0<|j4)),(fun _=>pag (b:=v18) j0 j0 j0 j0 hb13 j0 (ld ti9 j0 j0<|j4)),(fun _=>pag (b:=v18) j0 j0 j0 j0 hb13 j0 (fa ti131 j0 j0 j0<|j4)),(fun _=>pag (b:=v18) j0 j0 j0 j0 hb13 j0 (nc j0 j0<|j4)),(fun _=>pag (b:=v18) j0 j0 j0 j0 hb13 j0 (mv j0<|j4)),(fun _=>pag (b:=v18) j0 j0 j0 j0 hb13 j0 (mv j0<|j4)),(fun _=>pag (b:=v18) j0 j0 j0 j0 hb13 j0 (ld ti32 j0 j0<|j4)),(fun _=>pag (b:=v18) j0 j0 j0 j0 hb13 j0 (fa ti131 j0 j0 j0<|j4)),(fun _=>pag (b:=v18) j0 j0 j0 j0 hb13 j0 (nc j0 j0<|j4)),(fun _=>pag (b:=v18) j0 j0 j0 j0 hb13 j0 (mv j0<|j4)),(fun _=>pa j0 j0 j0 j0 (mv j0<|j4)),(fun _=>pa j0 j0 j0 j0 (pc (types_Fits_s3_ok v1 v2 v17.1 v8.C q12) j0 j0 j0<|j4)),(fun _=>pa j0 j0 j0 j0 (ld ti9 j0 j0<|j4)),(fun _=>pa j0 j0 j0 j0 (fa ti69 j0 j0 j0<|j4)),(fun _=>pa j0 j0 j0 j0 (mv j0<|j4)),(fun _=>pa j0 j0 j0 j0 (ld ti32 j0 j0<|j4)),(fun _=>pa j0 j0 j0 j0 (fa ti131 j0 j0 j0<|j4)),(fun _=>pa j0 j0 j0 j0 (nc j0 j0<|j4)),(fun _=>pa j0 j0 j0 j0 (mv j0<|j4)),(fun h=>by cases h),j5⟩ (by kernel_rfl) j0 ⟨[.old 0,.old 1,.old 2,.old 4],cv j0 (.mpt j0)<|cv j0 (.mpt j0)<|cn,j0,⟨⟨_,j0,rsOne (cc12 j0 (by exact ⟨.msl j0,.msl j0,ci j0,j5⟩))⟩,⟨_,j0,rsMap (fun _=>j0)⟩,⟨_,j0,rsMap (fun _=>j0)⟩,⟨_,j0,rsOne (ciL j0)⟩,j5⟩,j0,j1⟩⟩⟩),j5⟩⟩⟩),(fun _ h=>by cases h),j5⟩) ?_
        exact ⟨⟨v17.2.1,(v17.2.2 || (!v21))⟩,h,[.old 0,.old 1,.old 2,.old 3],cv j0 (.mpt j0)<|cv j0 (.mpt j0)<|cn,j0,⟨⟨_,j0,rsOne (cc12 j0 (by exact ⟨.msl j0,.msl j0,ci j0,j5⟩))⟩,⟨_,j0,rsMap (fun _=>j0)⟩,⟨_,j0,rsMap (fun _=>j0)⟩,⟨_,j0,rsOne (ciL j0)⟩,j5⟩,j0,j1⟩
       ·
        replace h:=bF hb15 h
        refine rdL [(0,.mpt 0 0 0),(5,.mpt 3 0 0)] [some (15,[(vK v1 v2 v3 v4 (.msl 1 0 (List.length v5)) (.msl 2 0 (List.length v17.2.1)) (bA (v17.2.2 || (!false))))]),some (1,List.map rStr v5),some (1,List.map rStr v17.2.1),some (10,[(rApiMethod v12)])] [34] [33,32,31,30,29,28,27,26,25,24,23,22,21,20,19,18,17,16,15,14,13,12,11,10,9,8,7,6,5,4,3,2,1,0] [(105,bA false),(104,.lit undef),(103,.lit undef),(102,.lit undef),(101,.lit undef),(100,.lit undef),(99,.lit undef),(98,.lit undef),(97,.lit undef),(96,.lit undef),(95,.lit undef),(94,.lit undef),(93,bA v19),(92,bA v19),(91,bA v19),(90,sA v3),(89,.mpt 0 0 1),(88,.mpt 0 0 0),(87,.mpt 0 0 0),(86,sA v17.1),(85,.ipt 2 [[.isl 6 (List.map rApiClass v1),.imp (List.map (rKV (fun x=>iA x)) v2)]] 0 0),(84,.mpt 0 0 0),(83,.mpt 0 0 0),(82,.mpt 0 0 0),(81,bA v18),(80,bA v18),(79,sA v8.C),(78,.mpt 3 0 2),(77,sA v17.1),(76,.ipt 2 [[.isl 6 (List.map rApiClass v1),.imp (List.map (rKV (fun x=>iA x)) v2)]] 0 0),(75,.mpt 0 0 0),(74,.mpt 0 0 0),(73,.mpt 0 0 0),(72,.mpt 0 0 0)] 1 (by kernel_rfl) (by kernel_rfl) j0 (by kernel_rfl) (dtS ⟨(fun _=>pa j0 j0 j0 j0 (pkb j0 hb15 j0<|j4)),(fun _=>pas (b:=v19) j0 j0 j0 j0 hb15 j0),(fun _=>pas (b:=v19) j0 j0 j0 j0 hb15 j0),(fun _=>pas (b:=v19) j0 j0 j0 j0 hb15 j0),(fun _=>pas (b:=v19) j0 j0 j0 j0 hb15 j0),(fun _=>pas (b:=v19) j0 j0 j0 j0 hb15 j0),(fun _=>pas (b:=v19) j0 j0 j0 j0 hb15 j0),(fun _=>pas (b:=v19) j0 j0 j0 j0 hb15 j0),(fun _=>pas (b:=v19) j0 j0 j0 j0 hb15 j0),(fun _=>pas (b:=v19) j0 j0 j0 j0 hb15 j0),(fun _=>pas (b:=v19) j0 j0 j0 j0 hb15 j0),(fun _=>pas (b:=v19) j0 j0 j0 j0 hb15 j0),(fun _=>pa j0 j0 j0 j0 (mv j0<|j4)),(fun _=>pa j0 j0 j0 j0 (pkb j0 hb13 j0<|j4)),(fun _=>pag (b:=v18) j0 j0 j0 j0 hb13 j0 (pc (types_Fits_s3_ok v1 v2 v17.1 v3 q14) j0 j0 j0<|j4)),(fun _=>pag (b:=v18) j0 j0 j0 j0 hb13 j0 (ld ti9 j0 j0<|j4)),(fun _=>pag (b:=v18) j0 j0 j0 j0 hb13 j0 (fa ti131 j0 j0 j0<|j4)),(fun _=>pag (b:=v18) j0 j0 j0 j0 hb13 j0 (nc j0 j0<|j4)),(fun _=>pag (b:=v18) j0 j0 j0 j0 hb13 j0 (mv j0<|j4)),(fun _=>pag (b:=v18) j0 j0 j0 j0 hb13 j0 (mv j0<|j4)),(fun _=>pag (b:=v18) j0 j0 j0 j0 hb13 j0 (ld ti32 j0 j0<|j4)),(fun _=>pag (b:=v18) j0 j0 j0 j0 hb13 j0 (fa ti131 j0 j0 j0<|j4)),(fun _=>pag (b:=v18) j0 j0 j0 j0 hb13 j0 (nc j0 j0<|j4)),(fun _=>pag (b:=v18) j0 j0 j0 j0 hb13 j0 (mv j0<|j4)),(fun _=>pa j0 j0 j0 j0 (mv j0<|j4)),(fun _=>pa j0 j0 j0 j0 (pc (types_Fits_s3_ok v1 v2 v17.1 v8.C q12) j0 j0 j0<|j4)),(fun _=>pa j0 j0 j0 j0 (ld ti9 j0 j0<|j4)),(fun _=>pa j0 j0 j0 j0 (fa ti69 j0 j0 j0<|j4)),(fun _=>pa j0 j0 j0 j0 (mv j0<|j4)),(fun _=>pa j0 j0 j0 j0 (ld ti32 j0 j0<|j4)),(fun _=>pa j0 j0 j0 j0 (fa ti131 j0 j0 j0<|j4)),(fun _=>pa j0 j0 j0 j0 (nc j0 j0<|j4)),(fun _=>pa j0 j0 j0 j0 (mv j0<|j4)),(fun _=>pa j0 j0 j0 j0 (mv j0<|j4)),j5⟩ (by kernel_rfl) j0 ⟨(fun _ _=>⟨_,j0,j0,sc [0,1,2] (args:=[.mpt 0 0 0,bA false]) (verify_checker_need_ok v1 v2 v3 v4 v5 v17.2.1 v17.2.2 false j0) j0 j0 j0 j0 ⟨(.mpt j0),(rnI j0),j5⟩ ⟨⟨_,j0,(rr12 j0 ⟨(.msl j0),(.msl j0),(rnI j0),j5⟩)⟩,⟨j0,mkI (fun _=>j0)⟩,⟨j0,mkI (fun _=>j0)⟩,j5⟩<|⟨(.tup []),[],[(106,.tup [])],j0,j0,by kernel_rfl,j0,dt0 ⟨(fun h=>by cases h),(fun h=>by cases h),(fun _=>pas (b:=v19) j0 j0 j0 j0 hb15 j0),(fun _=>pas (b:=v19) j0 j0 j0 j0 hb15 j0),(fun _=>pas (b:=v19) j0 j0 j0 j0 hb15 j0),(fun _=>pas (b:=v19) j0 j0 j0 j0 hb15 j0),(fun _=>pas (b:=v19) j0 j0 j0 j0 hb15 j0),(fun _=>pas (b:=v19) j0 j0 j0 j0 hb15 j0),(fun _=>pas (b:=v19) j0 j0 j0 j0 hb15 j0),(fun _=>pas (b:=v19) j0 j0 j0 j0 hb15 j0),(fun _=>pas (b:=v19) j0 j0 j0 j0 hb15 j0),(fun _=>pas (b:=v19) j0 j0 j0 j0 hb15 j0),(fun _=>pa j0 j0 j0 j0 (mv j0<|j4)),(fun _=>pa j0 j0 j0 j0 (pkb j0 hb13 j0<|j4)),(fun _=>pag (b:=v18) j0 j0 j0 j0 hb13 j0 (pc (types_Fits_s3_ok v1 v2 v17.1 v3 q14) j0 j0 j0<|j4)),(fun _=>pag (b:=v18) j0 j0 j0 j0 hb13 j0 (ld ti9 j0 j0<|j4)),(fun _=>pag (b:=v18) j0 j0 j0 j0 hb13 j0 (fa ti131 j0 j0 j0<|j4)),(fun _=>pag (b:=v18) j0 j0 j0 j0 hb13 j0 (nc j0 j0<|j4)),(fun _=>pag (b:=v18) j0 j0 j0 j0 hb13 j0 (mv j0<|j4)),(fun _=>pag (b:=v18) j0 j0 j0 j0 hb13 j0 (mv j0<|j4)),(fun _=>pag (b:=v18) j0 j0 j0 j0 hb13 j0 (ld ti32 j0 j0<|j4)),(fun _=>pag (b:=v18) j0 j0 j0 j0 hb13 j0 (fa ti131 j0 j0 j0<|j4)),(fun _=>pag (b:=v18) j0 j0 j0 j0 hb13 j0 (nc j0 j0<|j4)),(fun _=>pag (b:=v18) j0 j0 j0 j0 hb13 j0 (mv j0<|j4)),(fun _=>pa j0 j0 j0 j0 (mv j0<|j4)),(fun _=>pa j0 j0 j0 j0 (pc (types_Fits_s3_ok v1 v2 v17.1 v8.C q12) j0 j0 j0<|j4)),(fun _=>pa j0 j0 j0 j0 (ld ti9 j0 j0<|j4)),(fun _=>pa j0 j0 j0 j0 (fa ti69 j0 j0 j0<|j4)),(fun _=>pa j0 j0 j0 j0 (mv j0<|j4)),(fun _=>pa j0 j0 j0 j0 (ld ti32 j0 j0<|j4)),(fun _=>pa j0 j0 j0 j0 (fa ti131 j0 j0 j0<|j4)),(fun _=>pa j0 j0 j0 j0 (nc j0 j0<|j4)),(fun _=>pa j0 j0 j0 j0 (mv j0<|j4)),(fun h=>by cases h),j5⟩ (by kernel_rfl) j0 ⟨[.old 0,.old 1,.old 2,.old 4],cv j0 (.mpt j0)<|cv j0 (.mpt j0)<|cn,j0,⟨⟨_,j0,rsOne (cc12 j0 (by exact ⟨.msl j0,.msl j0,ci j0,j5⟩))⟩,⟨_,j0,rsMap (fun _=>j0)⟩,⟨_,j0,rsMap (fun _=>j0)⟩,⟨_,j0,rsOne (ciL j0)⟩,j5⟩,j0,j1⟩⟩⟩),j5⟩) ?_
        exact ⟨⟨v17.2.1,(v17.2.2 || (!false))⟩,h,[.old 0,.old 1,.old 2,.old 3],cv j0 (.mpt j0)<|cv j0 (.mpt j0)<|cn,j0,⟨⟨_,j0,rsOne (cc12 j0 (by exact ⟨.msl j0,.msl j0,ci j0,j5⟩))⟩,⟨_,j0,rsMap (fun _=>j0)⟩,⟨_,j0,rsMap (fun _=>j0)⟩,⟨_,j0,rsOne (ciL j0)⟩,j5⟩,j0,j1⟩
      ·
       replace h:=bF hb13 h
       refine rdL [(0,.mpt 0 0 0),(5,.mpt 3 0 0)] [some (15,[(vK v1 v2 v3 v4 (.msl 1 0 (List.length v5)) (.msl 2 0 (List.length v17.2.1)) (bA (v17.2.2 || (!false))))]),some (1,List.map rStr v5),some (1,List.map rStr v17.2.1),some (10,[(rApiMethod v12)])] [34] [33,32,31,30,29,28,27,26,25,24,23,22,21,20,19,18,17,16,15,14,13,12,11,10,9,8,7,6,5,4,3,2,1,0] [(105,bA false),(104,.lit undef),(103,.lit undef),(102,.lit undef),(101,.lit undef),(100,.lit undef),(99,.lit undef),(98,.lit undef),(97,.lit undef),(96,.lit undef),(95,.lit undef),(94,.lit undef),(93,bA false),(92,bA false),(91,.lit undef),(90,.lit undef),(89,.lit undef),(88,.lit undef),(87,.lit undef),(86,.lit undef),(85,.lit undef),(84,.lit undef),(83,.lit undef),(82,.lit undef),(81,bA v18),(80,bA v18),(79,sA v8.C),(78,.mpt 3 0 2),(77,sA v17.1),(76,.ipt 2 [[.isl 6 (List.map rApiClass v1),.imp (List.map (rKV (fun x=>iA x)) v2)]] 0 0),(75,.mpt 0 0 0),(74,.mpt 0 0 0),(73,.mpt 0 0 0),(72,.mpt 0 0 0)] 1 (by kernel_rfl) (by kernel_rfl) j0 (by kernel_rfl) (dtS ⟨(fun _=>pa j0 j0 j0 j0 (pk (b:=false) j0 j0<|j4)),(fun _=>pas (b:=false) j0 j0 j0 j0 j0 j0),(fun _=>pas (b:=false) j0 j0 j0 j0 j0 j0),(fun _=>pas (b:=false) j0 j0 j0 j0 j0 j0),(fun _=>pas (b:=false) j0 j0 j0 j0 j0 j0),(fun _=>pas (b:=false) j0 j0 j0 j0 j0 j0),(fun _=>pas (b:=false) j0 j0 j0 j0 j0 j0),(fun _=>pas (b:=false) j0 j0 j0 j0 j0 j0),(fun _=>pas (b:=false) j0 j0 j0 j0 j0 j0),(fun _=>pas (b:=false) j0 j0 j0 j0 j0 j0),(fun _=>pas (b:=false) j0 j0 j0 j0 j0 j0),(fun _=>pas (b:=false) j0 j0 j0 j0 j0 j0),(fun _=>pa j0 j0 j0 j0 (mv j0<|j4)),(fun _=>pa j0 j0 j0 j0 (pkb j0 hb13 j0<|j4)),(fun _=>pas (b:=v18) j0 j0 j0 j0 hb13 j0),(fun _=>pas (b:=v18) j0 j0 j0 j0 hb13 j0),(fun _=>pas (b:=v18) j0 j0 j0 j0 hb13 j0),(fun _=>pas (b:=v18) j0 j0 j0 j0 hb13 j0),(fun _=>pas (b:=v18) j0 j0 j0 j0 hb13 j0),(fun _=>pas (b:=v18) j0 j0 j0 j0 hb13 j0),(fun _=>pas (b:=v18) j0 j0 j0 j0 hb13 j0),(fun _=>pas (b:=v18) j0 j0 j0 j0 hb13 j0),(fun _=>pas (b:=v18) j0 j0 j0 j0 hb13 j0),(fun _=>pas (b:=v18) j0 j0 j0 j0 hb13 j0),(fun _=>pa j0 j0 j0 j0 (mv j0<|j4)),(fun _=>pa j0 j0 j0 j0 (pc (types_Fits_s3_ok v1 v2 v17.1 v8.C q12) j0 j0 j0<|j4)),(fun _=>pa j0 j0 j0 j0 (ld ti9 j0 j0<|j4)),(fun _=>pa j0 j0 j0 j0 (fa ti69 j0 j0 j0<|j4)),(fun _=>pa j0 j0 j0 j0 (mv j0<|j4)),(fun _=>pa j0 j0 j0 j0 (ld ti32 j0 j0<|j4)),(fun _=>pa j0 j0 j0 j0 (fa ti131 j0 j0 j0<|j4)),(fun _=>pa j0 j0 j0 j0 (nc j0 j0<|j4)),(fun _=>pa j0 j0 j0 j0 (mv j0<|j4)),(fun _=>pa j0 j0 j0 j0 (mv j0<|j4)),j5⟩ (by kernel_rfl) j0 ⟨(fun _ _=>⟨_,j0,j0,sc [0,1,2] (args:=[.mpt 0 0 0,bA false]) (verify_checker_need_ok v1 v2 v3 v4 v5 v17.2.1 v17.2.2 false j0) j0 j0 j0 j0 ⟨(.mpt j0),(rnI j0),j5⟩ ⟨⟨_,j0,(rr12 j0 ⟨(.msl j0),(.msl j0),(rnI j0),j5⟩)⟩,⟨j0,mkI (fun _=>j0)⟩,⟨j0,mkI (fun _=>j0)⟩,j5⟩<|⟨(.tup []),[],[(106,.tup [])],j0,j0,by kernel_rfl,j0,dt0 ⟨(fun h=>by cases h),(fun h=>by cases h),(fun _=>pas (b:=false) j0 j0 j0 j0 j0 j0),(fun _=>pas (b:=false) j0 j0 j0 j0 j0 j0),(fun _=>pas (b:=false) j0 j0 j0 j0 j0 j0),(fun _=>pas (b:=false) j0 j0 j0 j0 j0 j0),(fun _=>pas (b:=false) j0 j0 j0 j0 j0 j0),(fun _=>pas (b:=false) j0 j0 j0 j0 j0 j0),(fun _=>pas (b:=false) j0 j0 j0 j0 j0 j0),(fun _=>pas (b:=false) j0 j0 j0 j0 j0 j0),(fun _=>pas (b:=false) j0 j0 j0 j0 j0 j0),(fun _=>pas (b:=false) j0 j0 j0 j0 j0 j0),(fun _=>pa j0 j0 j0 j0 (mv j0<|j4)),(fun _=>pa j0 j0 j0 j0 (pkb j0 hb13 j0<|j4)),(fun _=>pas (b:=v18) j0 j0 j0 j0 hb13 j0),(fun _=>pas (b:=v18) j0 j0 j0 j0 hb13 j0),(fun _=>pas (b:=v18) j0 j0 j0 j0 hb13 j0),(fun _=>pas (b:=v18) j0 j0 j0 j0 hb13 j0),(fun _=>pas (b:=v18) j0 j0 j0 j0 hb13 j0),(fun _=>pas (b:=v18) j0 j0 j0 j0 hb13 j0),(fun _=>pas (b:=v18) j0 j0 j0 j0 hb13 j0),(fun _=>pas (b:=v18) j0 j0 j0 j0 hb13 j0),(fun _=>pas (b:=v18) j0 j0 j0 j0 hb13 j0),(fun _=>pas (b:=v18) j0 j0 j0 j0 hb13 j0),(fun _=>pa j0 j0 j0 j0 (mv j0<|j4)),(fun _=>pa j0 j0 j0 j0 (pc (types_Fits_s3_ok v1 v2 v17.1 v8.C q12) j0 j0 j0<|j4)),(fun _=>pa j0 j0 j0 j0 (ld ti9 j0 j0<|j4)),(fun _=>pa j0 j0 j0 j0 (fa ti69 j0 j0 j0<|j4)),(fun _=>pa j0 j0 j0 j0 (mv j0<|j4)),(fun _=>pa j0 j0 j0 j0 (ld ti32 j0 j0<|j4)),(fun _=>pa j0 j0 j0 j0 (fa ti131 j0 j0 j0<|j4)),(fun _=>pa j0 j0 j0 j0 (nc j0 j0<|j4)),(fun _=>pa j0 j0 j0 j0 (mv j0<|j4)),(fun h=>by cases h),j5⟩ (by kernel_rfl) j0 ⟨[.old 0,.old 1,.old 2,.old 4],cv j0 (.mpt j0)<|cv j0 (.mpt j0)<|cn,j0,⟨⟨_,j0,rsOne (cc12 j0 (by exact ⟨.msl j0,.msl j0,ci j0,j5⟩))⟩,⟨_,j0,rsMap (fun _=>j0)⟩,⟨_,j0,rsMap (fun _=>j0)⟩,⟨_,j0,rsOne (ciL j0)⟩,j5⟩,j0,j1⟩⟩⟩),j5⟩) ?_
       exact ⟨⟨v17.2.1,(v17.2.2 || (!false))⟩,h,[.old 0,.old 1,.old 2,.old 3],cv j0 (.mpt j0)<|cv j0 (.mpt j0)<|cn,j0,⟨⟨_,j0,rsOne (cc12 j0 (by exact ⟨.msl j0,.msl j0,ci j0,j5⟩))⟩,⟨_,j0,rsMap (fun _=>j0)⟩,⟨_,j0,rsMap (fun _=>j0)⟩,⟨_,j0,rsOne (ciL j0)⟩,j5⟩,j0,j1⟩
     ·
      replace h:=bF hc10 h
      refine sw_skip ?_
      exact ⟨⟨v14.1,v14.2⟩,h,[.old 0,.old 1,.old 2,.old 4],cv j0 (.mpt j0)<|cv j0 (.mpt j0)<|cn,j0,⟨⟨_,j0,rsOne (cc12 j0 (by exact ⟨.msl j0,.msl j0,ci j0,j5⟩))⟩,⟨_,j0,rsMap (fun _=>j0)⟩,⟨_,j0,rsMap (fun _=>j0)⟩,⟨_,j0,rsOne (ciL j0)⟩,j5⟩,j0,j1⟩
  ·
   rintro ⟨v22,v23⟩ h
   replace h : verify_checker_call_j3 v1 v2 v3 v4 v5 v12 v22 v23 = some r:=h
   unfold verify_checker_call_j3 at h
   refine rg j0<|u<|fa ti76 j0 j0 j0<|u<|ld ti9 j0 j0<|u<|sne ti9 j0 j0<|r_nil ?_
   refine sw_cond j0 (fun hc18=>?_) (fun hc18=>?_)
   ·
    replace h:=bT hc18 h
    obtain ⟨v24,q19,h⟩:=bs h
    refine rl j0<|u<|mv j0<|u<|fa ti76 j0 j0 j0<|u<|ld ti9 j0 j0<|u<|sc [0,1,2] (verify_checker_push_ok v1 v2 v3 v4 v5 v22 v23 v12.Ret q19) j0 j0 j0 j0 ⟨(.mpt j0),(rnI j0),j5⟩ ⟨⟨_,j0,(rr12 j0 ⟨(.msl j0),(.msl j0),(rnI j0),j5⟩)⟩,⟨j0,mkI (fun _=>j0)⟩,⟨j0,mkI (fun _=>j0)⟩,j5⟩<|r_can (env0:=[]) (st0:=[some (15,[(vK v1 v2 v3 v4 (.msl 1 0 (List.length v5)) (.msl 3 0 (List.length v24)) (bA v23))]),some (1,List.map rStr v5),none,some (1,List.map rStr v24)]) ⟨[.old 0,.old 1,.dead,.old 4],cn,j0,⟨⟨_,j0,rsOne (cc12 j0 (by exact ⟨.msl j0,.msl j0,ci j0,j5⟩))⟩,⟨_,j0,rsMap (fun _=>j0)⟩,⟨_,j0,rsMap (fun _=>j0)⟩,j5⟩,j0,j1⟩<|r_nil ?_
    obtain rfl:=sm h
    exact ⟨_,j0,[.old 0,.old 1,.dead,.old 3],rsTup j5,j0,⟨⟨_,j0,rsOne (cc12 j0 (by exact ⟨.msl j0,.msl j0,ci j0,j5⟩))⟩,⟨_,j0,rsMap (fun _=>j0)⟩,⟨_,j0,rsMap (fun _=>j0)⟩,j5⟩,j0,j1⟩
   ·
    replace h:=bF hc18 h
    refine sw_skip ?_
    obtain rfl:=sm h
    exact ⟨_,j0,[.old 0,.old 1,.dead,.old 2],rsTup j5,j0,⟨⟨_,j0,rsOne (cc12 j0 (by exact ⟨.msl j0,.msl j0,ci j0,j5⟩))⟩,⟨_,j0,rsMap (fun _=>j0)⟩,⟨_,j0,rsMap (fun _=>j0)⟩,j5⟩,j0,j1⟩
def verify_checker_ret (v1 : List ApiClass) (v2 : List (List UInt8 × Int)) (v3 : List UInt8) (v4 : ApiMethod) (v5 : List (List UInt8)) (v6 : List (List UInt8)) (v7 : Bool) (v8 : Int) : Option ((List (List UInt8)) × Bool) :=
  cond (v8 == (46 : Int)) (some (v6,(v7 || (!(v4.Ret == [86]))))) (cond (v8 == (47 : Int)) ((verify_checker_take v1 v2 v3 v4 v5 v6 (v7 || (!(v4.Ret == [73]))) ([[73]])).bind fun v9=>some (v9.1,v9.2)) ((kind_Ref v4.Ret).bind fun v10=>(verify_checker_take v1 v2 v3 v4 v5 v6 (v7 || (!v10)) [v4.Ret]).bind fun v11=>some (v11.1,v11.2)))
theorem verify_checker_ret_ok (v1 : List ApiClass) (v2 : List (List UInt8 × Int)) (v3 : List UInt8) (v4 : ApiMethod) (v5 : List (List UInt8)) (v6 : List (List UInt8)) (v7 : Bool) (v8 : Int) {r : (List (List UInt8)) × Bool} (h : verify_checker_ret v1 v2 v3 v4 v5 v6 v7 v8 = some r) : SC Tryz.prog 146 [.mpt 0 0 0,iA v8] [.one 15 (vK v1 v2 v3 v4 (.msl 1 0 (List.length v5)) (.msl 2 0 (List.length v6)) (bA v7)),.many 1 (List.map rStr v5),.many 1 (List.map rStr v6)] (.tup []) [.one 15 (vK v1 v2 v3 v4 (.msl 1 0 (List.length v5)) (.msl 2 0 (List.length r.1)) (bA r.2)),.many 1 (List.map rStr v5),.many 1 (List.map rStr r.1)]:=by
 refine ⟨⟨j5,sbOk (sz:=1) (fun _=>j0),sbOk (sz:=1) (fun _=>j0),j5⟩,scall_fn Tryz.func146 j0 (by kernel_rfl) j0 ?_⟩
 unfold verify_checker_ret at h
 refine sw_block ?_
 refine rg j0<|u<|mv j0<|u<|eql ti3 j0 j0<|u<|asg j0<|r_nil ?_
 refine sw_cond j0 (fun hc1=>?_) (fun hc1=>?_)
 ·
  replace h:=bT hc1 h
  refine rl j0<|u<|mv j0<|u<|mv j0<|u<|nc j0 j0<|u<|fa ti131 j0 j0 j0<|u<|fa ti76 j0 j0 j0<|u<|ld ti9 j0 j0<|u<|seq ti9 j0 j0<|u<|sc [0,1,2] (verify_checker_need_ok v1 v2 v3 v4 v5 v6 v7 (v4.Ret == [86]) j0) j0 j0 j0 j0 ⟨(.mpt j0),(rnI j0),j5⟩ ⟨⟨_,j0,(rr12 j0 ⟨(.msl j0),(.msl j0),(rnI j0),j5⟩)⟩,⟨j0,mkI (fun _=>j0)⟩,⟨j0,mkI (fun _=>j0)⟩,j5⟩<|r_can (env0:=[]) (st0:=[some (15,[(vK v1 v2 v3 v4 (.msl 1 0 (List.length v5)) (.msl 2 0 (List.length v6)) (bA (v7 || (!(v4.Ret == [86])))))]),some (1,List.map rStr v5),some (1,List.map rStr v6)]) ⟨[.old 0,.old 1,.old 2],cn,j0,⟨⟨_,j0,rsOne (cc12 j0 (by exact ⟨.msl j0,.msl j0,ci j0,j5⟩))⟩,⟨_,j0,rsMap (fun _=>j0)⟩,⟨_,j0,rsMap (fun _=>j0)⟩,j5⟩,j0,j1⟩<|r_nil ?_
  obtain rfl:=sm h
  exact ⟨_,j0,[.old 0,.old 1,.old 2],rsTup j5,j0,⟨⟨_,j0,rsOne (cc12 j0 (by exact ⟨.msl j0,.msl j0,ci j0,j5⟩))⟩,⟨_,j0,rsMap (fun _=>j0)⟩,⟨_,j0,rsMap (fun _=>j0)⟩,j5⟩,j0,j1⟩
 ·
  replace h:=bF hc1 h
  refine rg j0<|u<|mv j0<|u<|eql ti3 j0 j0<|u<|asg j0<|r_nil ?_
  refine sw_cond j0 (fun hc2=>?_) (fun hc2=>?_)
  ·
   replace h:=bT hc2 h
   refine rg j0<|u<|mv j0<|u<|mv j0<|u<|nc j0 j0<|u<|fa ti131 j0 j0 j0<|u<|fa ti76 j0 j0 j0<|u<|ld ti9 j0 j0<|u<|seq ti9 j0 j0<|u<|sc [0,1,2] (verify_checker_need_ok v1 v2 v3 v4 v5 v6 v7 (v4.Ret == [73]) j0) j0 j0 j0 j0 ⟨(.mpt j0),(rnI j0),j5⟩ ⟨⟨_,j0,(rr12 j0 ⟨(.msl j0),(.msl j0),(rnI j0),j5⟩)⟩,⟨j0,mkI (fun _=>j0)⟩,⟨j0,mkI (fun _=>j0)⟩,j5⟩<|r_can (env0:=[(0,.mpt 0 0 0)]) (st0:=[some (15,[(vK v1 v2 v3 v4 (.msl 1 0 (List.length v5)) (.msl 2 0 (List.length v6)) (bA (v7 || (!(v4.Ret == [73])))))]),some (1,List.map rStr v5),some (1,List.map rStr v6)]) ⟨[.old 0,.old 1,.old 2],cv j0 (.mpt j0)<|cn,j0,⟨⟨_,j0,rsOne (cc12 j0 (by exact ⟨.msl j0,.msl j0,ci j0,j5⟩))⟩,⟨_,j0,rsMap (fun _=>j0)⟩,⟨_,j0,rsMap (fun _=>j0)⟩,j5⟩,j0,j1⟩<|r_nil ?_
   obtain ⟨v9,q3,h⟩:=bs h
   refine rl j0<|u<|mv j0<|u<|bl 3 ti25 j0 ti9 j0 (by decide) (by decide) j0 j0 j0<|r_can (env0:=[(42,.mpt 0 0 0),(43,.isl 1 (List.map rStr ([[73]])))]) (st0:=[some (15,[(vK v1 v2 v3 v4 (.msl 1 0 (List.length v5)) (.msl 2 0 (List.length v6)) (bA (v7 || (!(v4.Ret == [73])))))]),some (1,List.map rStr v5),some (1,List.map rStr v6)]) ⟨[.old 0,.old 1,.old 2],cv j0 (.mpt j0)<|cv j0 (rsSealX j0 j0 ⟨⟨⟨ci j0,j5⟩,j0⟩,j5⟩)<|cn,j0,⟨⟨_,j0,rsOne (cc12 j0 (by exact ⟨.msl j0,.msl j0,ci j0,j5⟩))⟩,⟨_,j0,rsMap (fun _=>j0)⟩,⟨_,j0,rsMap (fun _=>j0)⟩,j5⟩,j0,j1⟩<|u<|sc [0,1,2] (verify_checker_take_ok v1 v2 v3 v4 v5 v6 (v7 || (!(v4.Ret == [73]))) ([[73]]) q3) j0 j0 j0 j0 ⟨(.mpt j0),(rnI j0),j5⟩ ⟨⟨_,j0,(rr12 j0 ⟨(.msl j0),(.msl j0),(rnI j0),j5⟩)⟩,⟨j0,mkI (fun _=>j0)⟩,⟨j0,mkI (fun _=>j0)⟩,j5⟩<|r_can (env0:=[]) (st0:=[some (15,[(vK v1 v2 v3 v4 (.msl 1 0 (List.length v5)) (.msl 2 0 (List.length v9.1)) (bA v9.2))]),some (1,List.map rStr v5),some (1,List.map rStr v9.1)]) ⟨[.old 0,.old 1,.old 2],cn,j0,⟨⟨_,j0,rsOne (cc12 j0 (by exact ⟨.msl j0,.msl j0,ci j0,j5⟩))⟩,⟨_,j0,rsMap (fun _=>j0)⟩,⟨_,j0,rsMap (fun _=>j0)⟩,j5⟩,j0,j1⟩<|r_nil ?_
   obtain rfl:=sm h
   exact ⟨_,j0,[.old 0,.old 1,.old 2],rsTup j5,j0,⟨⟨_,j0,rsOne (cc12 j0 (by exact ⟨.msl j0,.msl j0,ci j0,j5⟩))⟩,⟨_,j0,rsMap (fun _=>j0)⟩,⟨_,j0,rsMap (fun _=>j0)⟩,j5⟩,j0,j1⟩
  ·
   replace h:=bF hc2 h
   obtain ⟨v10,q4,h⟩:=bs h
   refine rg j0<|u<|mv j0<|u<|mv j0<|u<|nc j0 j0<|u<|fa ti131 j0 j0 j0<|u<|fa ti76 j0 j0 j0<|u<|ld ti9 j0 j0<|u<|pc (kind_Ref_ok v4.Ret q4) j0 j0 j0<|u<|sc [0,1,2] (verify_checker_need_ok v1 v2 v3 v4 v5 v6 v7 v10 j0) j0 j0 j0 j0 ⟨(.mpt j0),(rnI j0),j5⟩ ⟨⟨_,j0,(rr12 j0 ⟨(.msl j0),(.msl j0),(rnI j0),j5⟩)⟩,⟨j0,mkI (fun _=>j0)⟩,⟨j0,mkI (fun _=>j0)⟩,j5⟩<|r_can (env0:=[(0,.mpt 0 0 0)]) (st0:=[some (15,[(vK v1 v2 v3 v4 (.msl 1 0 (List.length v5)) (.msl 2 0 (List.length v6)) (bA (v7 || (!v10))))]),some (1,List.map rStr v5),some (1,List.map rStr v6)]) ⟨[.old 0,.old 1,.old 2],cv j0 (.mpt j0)<|cn,j0,⟨⟨_,j0,rsOne (cc12 j0 (by exact ⟨.msl j0,.msl j0,ci j0,j5⟩))⟩,⟨_,j0,rsMap (fun _=>j0)⟩,⟨_,j0,rsMap (fun _=>j0)⟩,j5⟩,j0,j1⟩<|r_nil ?_
   obtain ⟨v11,q5,h⟩:=bs h
   refine rl j0<|u<|mv j0<|u<|mv j0<|u<|nc j0 j0<|u<|fa ti131 j0 j0 j0<|u<|fa ti76 j0 j0 j0<|u<|ld ti9 j0 j0<|u<|bl 3 ti25 j0 ti9 j0 (by decide) (by decide) j0 j0 j0<|r_can (env0:=[(12,.mpt 0 0 0),(18,.isl 1 (List.map rStr [v4.Ret]))]) (st0:=[some (15,[(vK v1 v2 v3 v4 (.msl 1 0 (List.length v5)) (.msl 2 0 (List.length v6)) (bA (v7 || (!v10))))]),some (1,List.map rStr v5),some (1,List.map rStr v6)]) ⟨[.old 0,.old 1,.old 2],cv j0 (.mpt j0)<|cv j0 (rsSealX j0 j0 ⟨⟨⟨ci j0,j5⟩,j0⟩,j5⟩)<|cn,j0,⟨⟨_,j0,rsOne (cc12 j0 (by exact ⟨.msl j0,.msl j0,ci j0,j5⟩))⟩,⟨_,j0,rsMap (fun _=>j0)⟩,⟨_,j0,rsMap (fun _=>j0)⟩,j5⟩,j0,j1⟩<|u<|sc [0,1,2] (verify_checker_take_ok v1 v2 v3 v4 v5 v6 (v7 || (!v10)) [v4.Ret] q5) j0 j0 j0 j0 ⟨(.mpt j0),(rnI j0),j5⟩ ⟨⟨_,j0,(rr12 j0 ⟨(.msl j0),(.msl j0),(rnI j0),j5⟩)⟩,⟨j0,mkI (fun _=>j0)⟩,⟨j0,mkI (fun _=>j0)⟩,j5⟩<|r_can (env0:=[]) (st0:=[some (15,[(vK v1 v2 v3 v4 (.msl 1 0 (List.length v5)) (.msl 2 0 (List.length v11.1)) (bA v11.2))]),some (1,List.map rStr v5),some (1,List.map rStr v11.1)]) ⟨[.old 0,.old 1,.old 2],cn,j0,⟨⟨_,j0,rsOne (cc12 j0 (by exact ⟨.msl j0,.msl j0,ci j0,j5⟩))⟩,⟨_,j0,rsMap (fun _=>j0)⟩,⟨_,j0,rsMap (fun _=>j0)⟩,j5⟩,j0,j1⟩<|r_nil ?_
   obtain rfl:=sm h
   exact ⟨_,j0,[.old 0,.old 1,.old 2],rsTup j5,j0,⟨⟨_,j0,rsOne (cc12 j0 (by exact ⟨.msl j0,.msl j0,ci j0,j5⟩))⟩,⟨_,j0,rsMap (fun _=>j0)⟩,⟨_,j0,rsMap (fun _=>j0)⟩,j5⟩,j0,j1⟩
def kind_Array (v1 : List UInt8) : Option ((List UInt8)) :=
  (kind_May v1).bind fun v2=>(cond (!v2) (some true) ((catP [91] v1).bind fun v3=>(kind_May v3).bind fun v4=>some (!v4))).bind fun v5=>cond v5 (some []) ((catP [91] v1).bind fun v6=>some v6)
theorem kind_Array_ok (v1 : List UInt8) {r : (List UInt8)} (h : kind_Array v1 = some r) : PureC Tryz.prog 214 [sA v1] (sA r):=by
 refine pure_fn Tryz.func214 j0 (by kernel_rfl) j0 j0 ?_
 unfold kind_Array at h
 refine rg j0<|u<|asg j0<|r_nil ?_
 refine sw_seq ?_
 obtain ⟨v2,q1,h⟩:=bs h
 obtain ⟨v5,q5,h⟩:=bs h
 refine rg j0<|u<|mv j0<|u<|pc (kind_May_ok v1 q1) j0 j0 j0<|u<|nt j0<|u<|mv j0<|r_or (x:=v5) (j:=3) 4 j0 j0 j0 j0 j0 gpn (fun hb2=>by replace q5:=bF hb2 q5; obtain ⟨v3,q3,q5⟩:=bs q5; obtain ⟨v4,q4,q5⟩:=bs q5; obtain rfl:=sm q5; exact g j0 hb2<|mv j0<|g j0 hb2<|scat ti9 j0 j0 q3<|g j0 hb2<|pc (kind_May_ok v3 q4) j0 j0 j0<|g j0 hb2<|nt j0<|r_nil (eg [7,8,9,10] 4 j0 j0 j0 j0)) (fun hb=>(sm (bT hb q5)).symm)<|r_nil ?_
 refine sw_cond j0 (fun hc6=>?_) (fun hc6=>?_)
 ·
  replace h:=bT hc6 h
  refine rg j0<|u<|asg j0<|r_nil ?_
  refine sw_ret ?_
  obtain rfl:=sm h
  exact ⟨_,j0,[],ci j0,j0,j5,j0,j1⟩
 ·
  replace h:=bF hc6 h
  refine sw_skip ?_
  obtain ⟨v6,q7,h⟩:=bs h
  refine rg j0<|u<|mv j0<|u<|scat ti9 j0 j0 q7<|u<|asg j0<|r_nil ?_
  refine sw_ret ?_
  obtain rfl:=sm h
  exact ⟨_,j0,[],ci j0,j0,j5,j0,j1⟩
def verify_checker_array (v1 : List ApiClass) (v2 : List (List UInt8 × Int)) (v3 : List UInt8) (v4 : ApiMethod) (v5 : List (List UInt8)) (v6 : List (List UInt8)) (v7 : Bool) : Option ((List UInt8) × (List (List UInt8)) × Bool) :=
  (verify_checker_pop v1 v2 v3 v4 v5 v6 v7).bind fun v8=>(kind_Elem v8.1).bind fun v9=>cond (v8.1 == [78]) (some (v8.1,v8.2.1,(v8.2.2 || (!((v8.1 == [78]) || (v9.2 && (!(v9.1 == [73])))))))) (some (v9.1,v8.2.1,(v8.2.2 || (!((v8.1 == [78]) || (v9.2 && (!(v9.1 == [73]))))))))
theorem verify_checker_array_ok (v1 : List ApiClass) (v2 : List (List UInt8 × Int)) (v3 : List UInt8) (v4 : ApiMethod) (v5 : List (List UInt8)) (v6 : List (List UInt8)) (v7 : Bool) {r : (List UInt8) × (List (List UInt8)) × Bool} (h : verify_checker_array v1 v2 v3 v4 v5 v6 v7 = some r) : SC Tryz.prog 215 [.mpt 0 0 0] [.one 15 (vK v1 v2 v3 v4 (.msl 1 0 (List.length v5)) (.msl 2 0 (List.length v6)) (bA v7)),.many 1 (List.map rStr v5),.many 1 (List.map rStr v6)] (sA r.1) [.one 15 (vK v1 v2 v3 v4 (.msl 1 0 (List.length v5)) (.msl 2 0 (List.length r.2.1)) (bA r.2.2)),.many 1 (List.map rStr v5),.many 1 (List.map rStr r.2.1)]:=by
 refine ⟨⟨j5,sbOk (sz:=1) (fun _=>j0),sbOk (sz:=1) (fun _=>j0),j5⟩,scall_fn Tryz.func215 j0 (by kernel_rfl) j0 ?_⟩
 unfold verify_checker_array at h
 refine rg j0<|u<|asg j0<|r_nil ?_
 obtain ⟨v8,q1,h⟩:=bs h
 refine rg j0<|u<|mv j0<|u<|sc [0,1,2] (verify_checker_pop_ok v1 v2 v3 v4 v5 v6 v7 q1) j0 j0 j0 j0 ⟨(.mpt j0),j5⟩ ⟨⟨_,j0,(rr12 j0 ⟨(.msl j0),(.msl j0),(rnI j0),j5⟩)⟩,⟨j0,mkI (fun _=>j0)⟩,⟨j0,mkI (fun _=>j0)⟩,j5⟩<|r_can (env0:=[(0,.mpt 0 0 0),(7,sA v8.1)]) (st0:=[some (15,[(vK v1 v2 v3 v4 (.msl 1 0 (List.length v5)) (.msl 2 0 (List.length v8.2.1)) (bA v8.2.2))]),some (1,List.map rStr v5),some (1,List.map rStr v8.2.1)]) ⟨[.old 0,.old 1,.old 2],cv j0 (.mpt j0)<|ce j0 j0<|cn,j0,⟨⟨_,j0,rsOne (cc12 j0 (by exact ⟨.msl j0,.msl j0,ci j0,j5⟩))⟩,⟨_,j0,rsMap (fun _=>j0)⟩,⟨_,j0,rsMap (fun _=>j0)⟩,j5⟩,j0,j1⟩<|u<|asg j0<|r_nil ?_
 obtain ⟨v9,q2,h⟩:=bs h
 refine rg j0<|u<|mv j0<|u<|pc (kind_Elem_ok v8.1 q2) j0 j0 j0<|u<|mv j0<|u<|ex j0 j0<|u<|ex j0 j0<|u<|asg j0<|u<|asg j0<|r_nil ?_
 refine rg j0<|u<|mv j0<|u<|mv j0<|u<|seq ti9 j0 j0<|u<|mv j0<|r_or (j:=3) 5 j0 j0 j0 j0 j0 gpn (fun hb3=>g j0 hb3<|mv j0<|g j0 hb3<|mv j0<|r_and (j:=5) 2 j0 j0 j0 j0 j0 (gps j0 j0 hb3) (fun hb4=>g j0 hb4<|mv j0<|g j0 hb4<|sne ti9 j0 j0<|r_nil (egA [19,20] 2 hb4 j0 j0 j0 j0)) andF<|r_nil (egO [17,18,19,20,21] 3 hb3 j0 j0 j0 j0)) orT<|u<|sc [0,1,2] (verify_checker_need_ok v1 v2 v3 v4 v5 v8.2.1 v8.2.2 ((v8.1 == [78]) || (v9.2 && (!(v9.1 == [73])))) j0) j0 j0 j0 j0 ⟨(.mpt j0),(rnI j0),j5⟩ ⟨⟨_,j0,(rr12 j0 ⟨(.msl j0),(.msl j0),(rnI j0),j5⟩)⟩,⟨j0,mkI (fun _=>j0)⟩,⟨j0,mkI (fun _=>j0)⟩,j5⟩<|r_can (env0:=[(3,sA v8.1),(4,sA v9.1)]) (st0:=[some (15,[(vK v1 v2 v3 v4 (.msl 1 0 (List.length v5)) (.msl 2 0 (List.length v8.2.1)) (bA (v8.2.2 || (!((v8.1 == [78]) || (v9.2 && (!(v9.1 == [73]))))))))]),some (1,List.map rStr v5),some (1,List.map rStr v8.2.1)]) ⟨[.old 0,.old 1,.old 2],ce j0 j0<|ce j0 j0<|cn,j0,⟨⟨_,j0,rsOne (cc12 j0 (by exact ⟨.msl j0,.msl j0,ci j0,j5⟩))⟩,⟨_,j0,rsMap (fun _=>j0)⟩,⟨_,j0,rsMap (fun _=>j0)⟩,j5⟩,j0,j1⟩<|r_nil ?_
 refine sw_seq ?_
 refine rg j0<|u<|mv j0<|u<|seq ti9 j0 j0<|r_nil ?_
 refine sw_cond j0 (fun hc5=>?_) (fun hc5=>?_)
 ·
  replace h:=bT hc5 h
  refine rg j0<|u<|mv j0<|u<|asg j0<|r_nil ?_
  refine sw_ret ?_
  obtain rfl:=sm h
  exact ⟨_,j0,[.old 0,.old 1,.old 2],ci j0,j0,⟨⟨_,j0,rsOne (cc12 j0 (by exact ⟨.msl j0,.msl j0,ci j0,j5⟩))⟩,⟨_,j0,rsMap (fun _=>j0)⟩,⟨_,j0,rsMap (fun _=>j0)⟩,j5⟩,j0,j1⟩
 ·
  replace h:=bF hc5 h
  refine sw_skip ?_
  refine rg j0<|u<|mv j0<|u<|asg j0<|r_nil ?_
  refine sw_ret ?_
  obtain rfl:=sm h
  exact ⟨_,j0,[.old 0,.old 1,.old 2],ci j0,j0,⟨⟨_,j0,rsOne (cc12 j0 (by exact ⟨.msl j0,.msl j0,ci j0,j5⟩))⟩,⟨_,j0,rsMap (fun _=>j0)⟩,⟨_,j0,rsMap (fun _=>j0)⟩,j5⟩,j0,j1⟩
end
end Go.Proofs.YtjbdfkapnffjnaaGreat
namespace Go.Proofs.YtjbdfkapnffjnaaGreat
noncomputable section
set_option linter.unusedSimpArgs false
set_option linter.unusedVariables false
set_option maxRecDepth 100000
set_option maxHeartbeats 4000000
def verify_checker_arrays (v1 : List ApiClass) (v2 : List (List UInt8 × Int)) (v3 : List UInt8) (v4 : ApiMethod) (v5 : List (List UInt8)) (v6 : List (List UInt8)) (v7 : Bool) (v8 : ApiIns) : Option ((List (List UInt8)) × Bool) :=
  cond (v8.Op == (49 : Int)) ((verify_checker_take v1 v2 v3 v4 v5 v6 v7 ([[73]])).bind fun v9=>(verify_checker_push v1 v2 v3 v4 v5 v9.1 v9.2 [91,73]).bind fun v10=>some (v10,v9.2)) (cond (v8.Op == (50 : Int)) ((kind_Array v8.C).bind fun v11=>(cond (!(v11 == [])) ((types_There_s2 v1 v2 v11).bind fun v12=>some v12) (some false)).bind fun v13=>(verify_checker_take v1 v2 v3 v4 v5 v6 (v7 || (!v13)) ([[73]])).bind fun v14=>(verify_checker_push v1 v2 v3 v4 v5 v14.1 v14.2 v11).bind fun v15=>some (v15,v14.2)) (cond (v8.Op == (51 : Int)) ((verify_checker_pop v1 v2 v3 v4 v5 v6 v7).bind fun v16=>(kind_Elem v16.1).bind fun v17=>(verify_checker_push v1 v2 v3 v4 v5 v16.2.1 (v16.2.2 || (!(v17.2 || (v16.1 == [78])))) [73]).bind fun v18=>some (v18,(v16.2.2 || (!(v17.2 || (v16.1 == [78])))))) (cond (v8.Op == (52 : Int)) ((verify_checker_take v1 v2 v3 v4 v5 v6 v7 ([[91,73],[73]])).bind fun v19=>(verify_checker_push v1 v2 v3 v4 v5 v19.1 v19.2 [73]).bind fun v20=>some (v20,v19.2)) (cond (v8.Op == (53 : Int)) ((verify_checker_take v1 v2 v3 v4 v5 v6 v7 ([[91,73],[73],[73]])).bind fun v21=>some (v21.1,v21.2)) (cond (v8.Op == (54 : Int)) ((verify_checker_take v1 v2 v3 v4 v5 v6 v7 ([[73]])).bind fun v22=>(verify_checker_array v1 v2 v3 v4 v5 v22.1 v22.2).bind fun v23=>(verify_checker_push v1 v2 v3 v4 v5 v23.2.1 v23.2.2 v23.1).bind fun v24=>some (v24,v23.2.2)) ((verify_checker_ref v1 v2 v3 v4 v5 v6 v7).bind fun v25=>(verify_checker_take v1 v2 v3 v4 v5 v25.2.1 v25.2.2 ([[73]])).bind fun v26=>(verify_checker_array v1 v2 v3 v4 v5 v26.1 v26.2).bind fun v27=>some (v27.2.1,v27.2.2)))))))
theorem verify_checker_arrays_ok (v1 : List ApiClass) (v2 : List (List UInt8 × Int)) (v3 : List UInt8) (v4 : ApiMethod) (v5 : List (List UInt8)) (v6 : List (List UInt8)) (v7 : Bool) (v8 : ApiIns) {r : (List (List UInt8)) × Bool} (h : verify_checker_arrays v1 v2 v3 v4 v5 v6 v7 v8 = some r) : SC Tryz.prog 147 [.mpt 0 0 0,.agg (rApiIns v8)] [.one 15 (vK v1 v2 v3 v4 (.msl 1 0 (List.length v5)) (.msl 2 0 (List.length v6)) (bA v7)),.many 1 (List.map rStr v5),.many 1 (List.map rStr v6)] (.tup []) [.one 15 (vK v1 v2 v3 v4 (.msl 1 0 (List.length v5)) (.msl 3 0 (List.length r.1)) (bA r.2)),.many 1 (List.map rStr v5),.no,.many 1 (List.map rStr r.1)]:=by
 refine ⟨⟨j5,sbOk (sz:=1) (fun _=>j0),j5,sbOk (sz:=1) (fun _=>j0),j5⟩,scall_fn Tryz.func147 j0 (by kernel_rfl) j0 ?_⟩
 unfold verify_checker_arrays at h
 refine rg j0<|u<|bx 3 4 j0 j0 j0 j0<|r_nil ?_
 refine rg j0<|u<|fa ti69 j0 j0 j0<|u<|ld ti3 j0 j0<|r_nil ?_
 refine sw_block ?_
 refine rg j0<|u<|eql ti3 j0 j0<|u<|asg j0<|r_nil ?_
 refine sw_cond j0 (fun hc1=>?_) (fun hc1=>?_)
 ·
  replace h:=bT hc1 h
  obtain ⟨v9,q2,h⟩:=bs h
  refine rg j0<|u<|mv j0<|u<|bl 4 ti25 j0 ti9 j0 (by decide) (by decide) j0 j0 j0<|r_can (env0:=[(0,.mpt 0 0 0),(19,.mpt 0 0 0),(20,.isl 1 (List.map rStr ([[73]])))]) (st0:=[some (15,[(vK v1 v2 v3 v4 (.msl 1 0 (List.length v5)) (.msl 2 0 (List.length v6)) (bA v7))]),some (1,List.map rStr v5),some (1,List.map rStr v6)]) ⟨[.old 0,.old 1,.old 2],cv j0 (.mpt j0)<|cv j0 (.mpt j0)<|cv j0 (rsSealX j0 j0 ⟨⟨⟨ci j0,j5⟩,j0⟩,j5⟩)<|cn,j0,⟨⟨_,j0,rsOne (cc12 j0 (by exact ⟨.msl j0,.msl j0,ci j0,j5⟩))⟩,⟨_,j0,rsMap (fun _=>j0)⟩,⟨_,j0,rsMap (fun _=>j0)⟩,j5⟩,j0,j1⟩<|u<|sc [0,1,2] (verify_checker_take_ok v1 v2 v3 v4 v5 v6 v7 ([[73]]) q2) j0 j0 j0 j0 ⟨(.mpt j0),(rnI j0),j5⟩ ⟨⟨_,j0,(rr12 j0 ⟨(.msl j0),(.msl j0),(rnI j0),j5⟩)⟩,⟨j0,mkI (fun _=>j0)⟩,⟨j0,mkI (fun _=>j0)⟩,j5⟩<|r_can (env0:=[(0,.mpt 0 0 0)]) (st0:=[some (15,[(vK v1 v2 v3 v4 (.msl 1 0 (List.length v5)) (.msl 2 0 (List.length v9.1)) (bA v9.2))]),some (1,List.map rStr v5),some (1,List.map rStr v9.1)]) ⟨[.old 0,.old 1,.old 2],cv j0 (.mpt j0)<|cn,j0,⟨⟨_,j0,rsOne (cc12 j0 (by exact ⟨.msl j0,.msl j0,ci j0,j5⟩))⟩,⟨_,j0,rsMap (fun _=>j0)⟩,⟨_,j0,rsMap (fun _=>j0)⟩,j5⟩,j0,j1⟩<|r_nil ?_
  obtain ⟨v10,q3,h⟩:=bs h
  refine rl j0<|u<|mv j0<|u<|sc [0,1,2] (verify_checker_push_ok v1 v2 v3 v4 v5 v9.1 v9.2 [91,73] q3) j0 j0 j0 j0 ⟨(.mpt j0),(rnI j0),j5⟩ ⟨⟨_,j0,(rr12 j0 ⟨(.msl j0),(.msl j0),(rnI j0),j5⟩)⟩,⟨j0,mkI (fun _=>j0)⟩,⟨j0,mkI (fun _=>j0)⟩,j5⟩<|r_can (env0:=[]) (st0:=[some (15,[(vK v1 v2 v3 v4 (.msl 1 0 (List.length v5)) (.msl 3 0 (List.length v10)) (bA v9.2))]),some (1,List.map rStr v5),none,some (1,List.map rStr v10)]) ⟨[.old 0,.old 1,.dead,.old 3],cn,j0,⟨⟨_,j0,rsOne (cc12 j0 (by exact ⟨.msl j0,.msl j0,ci j0,j5⟩))⟩,⟨_,j0,rsMap (fun _=>j0)⟩,⟨_,j0,rsMap (fun _=>j0)⟩,j5⟩,j0,j1⟩<|r_nil ?_
  obtain rfl:=sm h
  exact ⟨_,j0,[.old 0,.old 1,.dead,.old 3],rsTup j5,j0,⟨⟨_,j0,rsOne (cc12 j0 (by exact ⟨.msl j0,.msl j0,ci j0,j5⟩))⟩,⟨_,j0,rsMap (fun _=>j0)⟩,⟨_,j0,rsMap (fun _=>j0)⟩,j5⟩,j0,j1⟩
 ·
  replace h:=bF hc1 h
  refine rg j0<|u<|eql ti3 j0 j0<|u<|asg j0<|r_nil ?_
  refine sw_cond j0 (fun hc4=>?_) (fun hc4=>?_)
  ·
   replace h:=bT hc4 h
   obtain ⟨v11,q5,h⟩:=bs h
   refine rg j0<|u<|fa ti69 j0 j0 j0<|u<|ld ti9 j0 j0<|u<|pc (kind_Array_ok v8.C q5) j0 j0 j0<|u<|asg j0<|r_nil ?_
   obtain ⟨v13,q8,h⟩:=bs h
   refine rg j0<|u<|mv j0<|u<|mv j0<|u<|sne ti9 j0 j0<|u<|mv j0<|r_and (x:=v13) (j:=3) 6 j0 j0 j0 j0 j0 gpn (fun hb6=>by replace q8:=bT hb6 q8; obtain ⟨v12,q7,q8⟩:=bs q8; obtain rfl:=sm q8; exact g j0 hb6<|mv j0<|g j0 hb6<|nc j0 j0<|g j0 hb6<|fa ti131 j0 j0 j0<|g j0 hb6<|ld ti32 j0 j0<|g j0 hb6<|mv j0<|g j0 hb6<|pc (types_There_s2_ok v1 v2 v11 q7) j0 j0 j0<|r_nil (eg [33,34,35,36,37,38] 6 j0 j0 j0 j0)) (fun hb=>(sm (bF hb q8)).symm)<|u<|sc [0,1,2] (verify_checker_need_ok v1 v2 v3 v4 v5 v6 v7 v13 j0) j0 j0 j0 j0 ⟨(.mpt j0),(rnI j0),j5⟩ ⟨⟨_,j0,(rr12 j0 ⟨(.msl j0),(.msl j0),(rnI j0),j5⟩)⟩,⟨j0,mkI (fun _=>j0)⟩,⟨j0,mkI (fun _=>j0)⟩,j5⟩<|r_can (env0:=[(0,.mpt 0 0 0),(4,sA v11)]) (st0:=[some (15,[(vK v1 v2 v3 v4 (.msl 1 0 (List.length v5)) (.msl 2 0 (List.length v6)) (bA (v7 || (!v13))))]),some (1,List.map rStr v5),some (1,List.map rStr v6)]) ⟨[.old 0,.old 1,.old 2],cv j0 (.mpt j0)<|ce j0 j0<|cn,j0,⟨⟨_,j0,rsOne (cc12 j0 (by exact ⟨.msl j0,.msl j0,ci j0,j5⟩))⟩,⟨_,j0,rsMap (fun _=>j0)⟩,⟨_,j0,rsMap (fun _=>j0)⟩,j5⟩,j0,j1⟩<|r_nil ?_
   obtain ⟨v14,q9,h⟩:=bs h
   refine rg j0<|u<|mv j0<|u<|bl 3 ti25 j0 ti9 j0 (by decide) (by decide) j0 j0 j0<|r_can (env0:=[(0,.mpt 0 0 0),(4,sA v11),(41,.mpt 0 0 0),(42,.isl 1 (List.map rStr ([[73]])))]) (st0:=[some (15,[(vK v1 v2 v3 v4 (.msl 1 0 (List.length v5)) (.msl 2 0 (List.length v6)) (bA (v7 || (!v13))))]),some (1,List.map rStr v5),some (1,List.map rStr v6)]) ⟨[.old 0,.old 1,.old 2],cv j0 (.mpt j0)<|ce j0 j0<|cv j0 (.mpt j0)<|cv j0 (rsSealX j0 j0 ⟨⟨⟨ci j0,j5⟩,j0⟩,j5⟩)<|cn,j0,⟨⟨_,j0,rsOne (cc12 j0 (by exact ⟨.msl j0,.msl j0,ci j0,j5⟩))⟩,⟨_,j0,rsMap (fun _=>j0)⟩,⟨_,j0,rsMap (fun _=>j0)⟩,j5⟩,j0,j1⟩<|u<|sc [0,1,2] (verify_checker_take_ok v1 v2 v3 v4 v5 v6 (v7 || (!v13)) ([[73]]) q9) j0 j0 j0 j0 ⟨(.mpt j0),(rnI j0),j5⟩ ⟨⟨_,j0,(rr12 j0 ⟨(.msl j0),(.msl j0),(rnI j0),j5⟩)⟩,⟨j0,mkI (fun _=>j0)⟩,⟨j0,mkI (fun _=>j0)⟩,j5⟩<|r_can (env0:=[(0,.mpt 0 0 0),(4,sA v11)]) (st0:=[some (15,[(vK v1 v2 v3 v4 (.msl 1 0 (List.length v5)) (.msl 2 0 (List.length v14.1)) (bA v14.2))]),some (1,List.map rStr v5),some (1,List.map rStr v14.1)]) ⟨[.old 0,.old 1,.old 2],cv j0 (.mpt j0)<|ce j0 j0<|cn,j0,⟨⟨_,j0,rsOne (cc12 j0 (by exact ⟨.msl j0,.msl j0,ci j0,j5⟩))⟩,⟨_,j0,rsMap (fun _=>j0)⟩,⟨_,j0,rsMap (fun _=>j0)⟩,j5⟩,j0,j1⟩<|r_nil ?_
   obtain ⟨v15,q10,h⟩:=bs h
   refine rl j0<|u<|mv j0<|u<|mv j0<|u<|sc [0,1,2] (verify_checker_push_ok v1 v2 v3 v4 v5 v14.1 v14.2 v11 q10) j0 j0 j0 j0 ⟨(.mpt j0),(rnI j0),j5⟩ ⟨⟨_,j0,(rr12 j0 ⟨(.msl j0),(.msl j0),(rnI j0),j5⟩)⟩,⟨j0,mkI (fun _=>j0)⟩,⟨j0,mkI (fun _=>j0)⟩,j5⟩<|r_can (env0:=[]) (st0:=[some (15,[(vK v1 v2 v3 v4 (.msl 1 0 (List.length v5)) (.msl 3 0 (List.length v15)) (bA v14.2))]),some (1,List.map rStr v5),none,some (1,List.map rStr v15)]) ⟨[.old 0,.old 1,.dead,.old 3],cn,j0,⟨⟨_,j0,rsOne (cc12 j0 (by exact ⟨.msl j0,.msl j0,ci j0,j5⟩))⟩,⟨_,j0,rsMap (fun _=>j0)⟩,⟨_,j0,rsMap (fun _=>j0)⟩,j5⟩,j0,j1⟩<|r_nil ?_
   obtain rfl:=sm h
   exact ⟨_,j0,[.old 0,.old 1,.dead,.old 3],rsTup j5,j0,⟨⟨_,j0,rsOne (cc12 j0 (by exact ⟨.msl j0,.msl j0,ci j0,j5⟩))⟩,⟨_,j0,rsMap (fun _=>j0)⟩,⟨_,j0,rsMap (fun _=>j0)⟩,j5⟩,j0,j1⟩
  ·
   replace h:=bF hc4 h
   refine rg j0<|u<|eql ti3 j0 j0<|u<|asg j0<|r_nil ?_
   refine sw_cond j0 (fun hc11=>?_) (fun hc11=>?_)
   ·
    replace h:=bT hc11 h
    obtain ⟨v16,q12,h⟩:=bs h
    refine rg j0<|u<|mv j0<|u<|sc [0,1,2] (verify_checker_pop_ok v1 v2 v3 v4 v5 v6 v7 q12) j0 j0 j0 j0 ⟨(.mpt j0),j5⟩ ⟨⟨_,j0,(rr12 j0 ⟨(.msl j0),(.msl j0),(rnI j0),j5⟩)⟩,⟨j0,mkI (fun _=>j0)⟩,⟨j0,mkI (fun _=>j0)⟩,j5⟩<|r_can (env0:=[(0,.mpt 0 0 0),(50,sA v16.1)]) (st0:=[some (15,[(vK v1 v2 v3 v4 (.msl 1 0 (List.length v5)) (.msl 2 0 (List.length v16.2.1)) (bA v16.2.2))]),some (1,List.map rStr v5),some (1,List.map rStr v16.2.1)]) ⟨[.old 0,.old 1,.old 2],cv j0 (.mpt j0)<|ce j0 j0<|cn,j0,⟨⟨_,j0,rsOne (cc12 j0 (by exact ⟨.msl j0,.msl j0,ci j0,j5⟩))⟩,⟨_,j0,rsMap (fun _=>j0)⟩,⟨_,j0,rsMap (fun _=>j0)⟩,j5⟩,j0,j1⟩<|u<|asg j0<|r_nil ?_
    obtain ⟨v17,q13,h⟩:=bs h
    refine rg j0<|u<|mv j0<|u<|pc (kind_Elem_ok v16.1 q13) j0 j0 j0<|u<|mv j0<|u<|ex j0 j0<|u<|ex j0 j0<|u<|asg j0<|u<|asg j0<|r_nil ?_
    refine rg j0<|u<|mv j0<|u<|mv j0<|u<|mv j0<|r_or (j:=2) 2 j0 j0 j0 j0 j0 gpn (fun hb14=>g j0 hb14<|mv j0<|g j0 hb14<|seq ti9 j0 j0<|r_nil (egO [59,60] 2 hb14 j0 j0 j0 j0)) orT<|u<|sc [0,1,2] (verify_checker_need_ok v1 v2 v3 v4 v5 v16.2.1 v16.2.2 (v17.2 || (v16.1 == [78])) j0) j0 j0 j0 j0 ⟨(.mpt j0),(rnI j0),j5⟩ ⟨⟨_,j0,(rr12 j0 ⟨(.msl j0),(.msl j0),(rnI j0),j5⟩)⟩,⟨j0,mkI (fun _=>j0)⟩,⟨j0,mkI (fun _=>j0)⟩,j5⟩<|r_can (env0:=[(0,.mpt 0 0 0)]) (st0:=[some (15,[(vK v1 v2 v3 v4 (.msl 1 0 (List.length v5)) (.msl 2 0 (List.length v16.2.1)) (bA (v16.2.2 || (!(v17.2 || (v16.1 == [78]))))))]),some (1,List.map rStr v5),some (1,List.map rStr v16.2.1)]) ⟨[.old 0,.old 1,.old 2],cv j0 (.mpt j0)<|cn,j0,⟨⟨_,j0,rsOne (cc12 j0 (by exact ⟨.msl j0,.msl j0,ci j0,j5⟩))⟩,⟨_,j0,rsMap (fun _=>j0)⟩,⟨_,j0,rsMap (fun _=>j0)⟩,j5⟩,j0,j1⟩<|r_nil ?_
    obtain ⟨v18,q15,h⟩:=bs h
    refine rl j0<|u<|mv j0<|u<|sc [0,1,2] (verify_checker_push_ok v1 v2 v3 v4 v5 v16.2.1 (v16.2.2 || (!(v17.2 || (v16.1 == [78])))) [73] q15) j0 j0 j0 j0 ⟨(.mpt j0),(rnI j0),j5⟩ ⟨⟨_,j0,(rr12 j0 ⟨(.msl j0),(.msl j0),(rnI j0),j5⟩)⟩,⟨j0,mkI (fun _=>j0)⟩,⟨j0,mkI (fun _=>j0)⟩,j5⟩<|r_can (env0:=[]) (st0:=[some (15,[(vK v1 v2 v3 v4 (.msl 1 0 (List.length v5)) (.msl 3 0 (List.length v18)) (bA (v16.2.2 || (!(v17.2 || (v16.1 == [78]))))))]),some (1,List.map rStr v5),none,some (1,List.map rStr v18)]) ⟨[.old 0,.old 1,.dead,.old 3],cn,j0,⟨⟨_,j0,rsOne (cc12 j0 (by exact ⟨.msl j0,.msl j0,ci j0,j5⟩))⟩,⟨_,j0,rsMap (fun _=>j0)⟩,⟨_,j0,rsMap (fun _=>j0)⟩,j5⟩,j0,j1⟩<|r_nil ?_
    obtain rfl:=sm h
    exact ⟨_,j0,[.old 0,.old 1,.dead,.old 3],rsTup j5,j0,⟨⟨_,j0,rsOne (cc12 j0 (by exact ⟨.msl j0,.msl j0,ci j0,j5⟩))⟩,⟨_,j0,rsMap (fun _=>j0)⟩,⟨_,j0,rsMap (fun _=>j0)⟩,j5⟩,j0,j1⟩
   ·
    replace h:=bF hc11 h
    refine rg j0<|u<|eql ti3 j0 j0<|u<|asg j0<|r_nil ?_
    refine sw_cond j0 (fun hc16=>?_) (fun hc16=>?_)
    ·
     replace h:=bT hc16 h
     obtain ⟨v19,q17,h⟩:=bs h
     refine rg j0<|u<|mv j0<|u<|bl 4 ti25 j0 ti9 j0 (by decide) (by decide) j0 j0 j0<|r_can (env0:=[(0,.mpt 0 0 0),(67,.mpt 0 0 0),(68,.isl 1 (List.map rStr ([[91,73],[73]])))]) (st0:=[some (15,[(vK v1 v2 v3 v4 (.msl 1 0 (List.length v5)) (.msl 2 0 (List.length v6)) (bA v7))]),some (1,List.map rStr v5),some (1,List.map rStr v6)]) ⟨[.old 0,.old 1,.old 2],cv j0 (.mpt j0)<|cv j0 (.mpt j0)<|cv j0 (rsSealX j0 j0 ⟨⟨⟨ci j0,j5⟩,j0⟩,⟨⟨ci j0,j5⟩,j0⟩,j5⟩)<|cn,j0,⟨⟨_,j0,rsOne (cc12 j0 (by exact ⟨.msl j0,.msl j0,ci j0,j5⟩))⟩,⟨_,j0,rsMap (fun _=>j0)⟩,⟨_,j0,rsMap (fun _=>j0)⟩,j5⟩,j0,j1⟩<|u<|sc [0,1,2] (verify_checker_take_ok v1 v2 v3 v4 v5 v6 v7 ([[91,73],[73]]) q17) j0 j0 j0 j0 ⟨(.mpt j0),(rnI j0),j5⟩ ⟨⟨_,j0,(rr12 j0 ⟨(.msl j0),(.msl j0),(rnI j0),j5⟩)⟩,⟨j0,mkI (fun _=>j0)⟩,⟨j0,mkI (fun _=>j0)⟩,j5⟩<|r_can (env0:=[(0,.mpt 0 0 0)]) (st0:=[some (15,[(vK v1 v2 v3 v4 (.msl 1 0 (List.length v5)) (.msl 2 0 (List.length v19.1)) (bA v19.2))]),some (1,List.map rStr v5),some (1,List.map rStr v19.1)]) ⟨[.old 0,.old 1,.old 2],cv j0 (.mpt j0)<|cn,j0,⟨⟨_,j0,rsOne (cc12 j0 (by exact ⟨.msl j0,.msl j0,ci j0,j5⟩))⟩,⟨_,j0,rsMap (fun _=>j0)⟩,⟨_,j0,rsMap (fun _=>j0)⟩,j5⟩,j0,j1⟩<|r_nil ?_
     obtain ⟨v20,q18,h⟩:=bs h
     refine rl j0<|u<|mv j0<|u<|sc [0,1,2] (verify_checker_push_ok v1 v2 v3 v4 v5 v19.1 v19.2 [73] q18) j0 j0 j0 j0 ⟨(.mpt j0),(rnI j0),j5⟩ ⟨⟨_,j0,(rr12 j0 ⟨(.msl j0),(.msl j0),(rnI j0),j5⟩)⟩,⟨j0,mkI (fun _=>j0)⟩,⟨j0,mkI (fun _=>j0)⟩,j5⟩<|r_can (env0:=[]) (st0:=[some (15,[(vK v1 v2 v3 v4 (.msl 1 0 (List.length v5)) (.msl 3 0 (List.length v20)) (bA v19.2))]),some (1,List.map rStr v5),none,some (1,List.map rStr v20)]) ⟨[.old 0,.old 1,.dead,.old 3],cn,j0,⟨⟨_,j0,rsOne (cc12 j0 (by exact ⟨.msl j0,.msl j0,ci j0,j5⟩))⟩,⟨_,j0,rsMap (fun _=>j0)⟩,⟨_,j0,rsMap (fun _=>j0)⟩,j5⟩,j0,j1⟩<|r_nil ?_
     obtain rfl:=sm h
     exact ⟨_,j0,[.old 0,.old 1,.dead,.old 3],rsTup j5,j0,⟨⟨_,j0,rsOne (cc12 j0 (by exact ⟨.msl j0,.msl j0,ci j0,j5⟩))⟩,⟨_,j0,rsMap (fun _=>j0)⟩,⟨_,j0,rsMap (fun _=>j0)⟩,j5⟩,j0,j1⟩
    ·
     replace h:=bF hc16 h
     refine rg j0<|u<|eql ti3 j0 j0<|u<|asg j0<|r_nil ?_
     refine sw_cond j0 (fun hc19=>?_) (fun hc19=>?_)
     ·
      replace h:=bT hc19 h
      obtain ⟨v21,q20,h⟩:=bs h
      refine rl j0<|u<|mv j0<|u<|bl 4 ti25 j0 ti9 j0 (by decide) (by decide) j0 j0 j0<|r_can (env0:=[(74,.mpt 0 0 0),(75,.isl 1 (List.map rStr ([[91,73],[73],[73]])))]) (st0:=[some (15,[(vK v1 v2 v3 v4 (.msl 1 0 (List.length v5)) (.msl 2 0 (List.length v6)) (bA v7))]),some (1,List.map rStr v5),some (1,List.map rStr v6)]) ⟨[.old 0,.old 1,.old 2],cv j0 (.mpt j0)<|cv j0 (rsSealX j0 j0 ⟨⟨⟨ci j0,j5⟩,j0⟩,⟨⟨ci j0,j5⟩,j0⟩,⟨⟨ci j0,j5⟩,j0⟩,j5⟩)<|cn,j0,⟨⟨_,j0,rsOne (cc12 j0 (by exact ⟨.msl j0,.msl j0,ci j0,j5⟩))⟩,⟨_,j0,rsMap (fun _=>j0)⟩,⟨_,j0,rsMap (fun _=>j0)⟩,j5⟩,j0,j1⟩<|u<|sc [0,1,2] (verify_checker_take_ok v1 v2 v3 v4 v5 v6 v7 ([[91,73],[73],[73]]) q20) j0 j0 j0 j0 ⟨(.mpt j0),(rnI j0),j5⟩ ⟨⟨_,j0,(rr12 j0 ⟨(.msl j0),(.msl j0),(rnI j0),j5⟩)⟩,⟨j0,mkI (fun _=>j0)⟩,⟨j0,mkI (fun _=>j0)⟩,j5⟩<|r_can (env0:=[]) (st0:=[some (15,[(vK v1 v2 v3 v4 (.msl 1 0 (List.length v5)) (.msl 2 0 (List.length v21.1)) (bA v21.2))]),some (1,List.map rStr v5),some (1,List.map rStr v21.1)]) ⟨[.old 0,.old 1,.old 2],cn,j0,⟨⟨_,j0,rsOne (cc12 j0 (by exact ⟨.msl j0,.msl j0,ci j0,j5⟩))⟩,⟨_,j0,rsMap (fun _=>j0)⟩,⟨_,j0,rsMap (fun _=>j0)⟩,j5⟩,j0,j1⟩<|r_nil ?_
      obtain rfl:=sm h
      exact ⟨_,j0,[.old 0,.old 1,.dead,.old 2],rsTup j5,j0,⟨⟨_,j0,rsOne (cc12 j0 (by exact ⟨.msl j0,.msl j0,ci j0,j5⟩))⟩,⟨_,j0,rsMap (fun _=>j0)⟩,⟨_,j0,rsMap (fun _=>j0)⟩,j5⟩,j0,j1⟩
     ·
      replace h:=bF hc19 h
      refine rg j0<|u<|eql ti3 j0 j0<|u<|asg j0<|r_nil ?_
      refine sw_cond j0 (fun hc21=>?_) (fun hc21=>?_)
      ·
       replace h:=bT hc21 h
       obtain ⟨v22,q22,h⟩:=bs h
       refine rg j0<|u<|mv j0<|u<|bl 4 ti25 j0 ti9 j0 (by decide) (by decide) j0 j0 j0<|r_can (env0:=[(0,.mpt 0 0 0),(79,.mpt 0 0 0),(80,.isl 1 (List.map rStr ([[73]])))]) (st0:=[some (15,[(vK v1 v2 v3 v4 (.msl 1 0 (List.length v5)) (.msl 2 0 (List.length v6)) (bA v7))]),some (1,List.map rStr v5),some (1,List.map rStr v6)]) ⟨[.old 0,.old 1,.old 2],cv j0 (.mpt j0)<|cv j0 (.mpt j0)<|cv j0 (rsSealX j0 j0 ⟨⟨⟨ci j0,j5⟩,j0⟩,j5⟩)<|cn,j0,⟨⟨_,j0,rsOne (cc12 j0 (by exact ⟨.msl j0,.msl j0,ci j0,j5⟩))⟩,⟨_,j0,rsMap (fun _=>j0)⟩,⟨_,j0,rsMap (fun _=>j0)⟩,j5⟩,j0,j1⟩<|u<|sc [0,1,2] (verify_checker_take_ok v1 v2 v3 v4 v5 v6 v7 ([[73]]) q22) j0 j0 j0 j0 ⟨(.mpt j0),(rnI j0),j5⟩ ⟨⟨_,j0,(rr12 j0 ⟨(.msl j0),(.msl j0),(rnI j0),j5⟩)⟩,⟨j0,mkI (fun _=>j0)⟩,⟨j0,mkI (fun _=>j0)⟩,j5⟩<|r_can (env0:=[(0,.mpt 0 0 0)]) (st0:=[some (15,[(vK v1 v2 v3 v4 (.msl 1 0 (List.length v5)) (.msl 2 0 (List.length v22.1)) (bA v22.2))]),some (1,List.map rStr v5),some (1,List.map rStr v22.1)]) ⟨[.old 0,.old 1,.old 2],cv j0 (.mpt j0)<|cn,j0,⟨⟨_,j0,rsOne (cc12 j0 (by exact ⟨.msl j0,.msl j0,ci j0,j5⟩))⟩,⟨_,j0,rsMap (fun _=>j0)⟩,⟨_,j0,rsMap (fun _=>j0)⟩,j5⟩,j0,j1⟩<|r_nil ?_
       obtain ⟨v23,q23,h⟩:=bs h
       obtain ⟨v24,q24,h⟩:=bs h
       refine rl j0<|u<|mv j0<|u<|mv j0<|u<|sc [0,1,2] (verify_checker_array_ok v1 v2 v3 v4 v5 v22.1 v22.2 q23) j0 j0 j0 j0 ⟨(.mpt j0),j5⟩ ⟨⟨_,j0,(rr12 j0 ⟨(.msl j0),(.msl j0),(rnI j0),j5⟩)⟩,⟨j0,mkI (fun _=>j0)⟩,⟨j0,mkI (fun _=>j0)⟩,j5⟩<|r_can (env0:=[(82,.mpt 0 0 0),(84,sA v23.1)]) (st0:=[some (15,[(vK v1 v2 v3 v4 (.msl 1 0 (List.length v5)) (.msl 2 0 (List.length v23.2.1)) (bA v23.2.2))]),some (1,List.map rStr v5),some (1,List.map rStr v23.2.1)]) ⟨[.old 0,.old 1,.old 2],cv j0 (.mpt j0)<|ce j0 j0<|cn,j0,⟨⟨_,j0,rsOne (cc12 j0 (by exact ⟨.msl j0,.msl j0,ci j0,j5⟩))⟩,⟨_,j0,rsMap (fun _=>j0)⟩,⟨_,j0,rsMap (fun _=>j0)⟩,j5⟩,j0,j1⟩<|u<|sc [0,1,2] (verify_checker_push_ok v1 v2 v3 v4 v5 v23.2.1 v23.2.2 v23.1 q24) j0 j0 j0 j0 ⟨(.mpt j0),(rnI j0),j5⟩ ⟨⟨_,j0,(rr12 j0 ⟨(.msl j0),(.msl j0),(rnI j0),j5⟩)⟩,⟨j0,mkI (fun _=>j0)⟩,⟨j0,mkI (fun _=>j0)⟩,j5⟩<|r_can (env0:=[]) (st0:=[some (15,[(vK v1 v2 v3 v4 (.msl 1 0 (List.length v5)) (.msl 3 0 (List.length v24)) (bA v23.2.2))]),some (1,List.map rStr v5),none,some (1,List.map rStr v24)]) ⟨[.old 0,.old 1,.dead,.old 3],cn,j0,⟨⟨_,j0,rsOne (cc12 j0 (by exact ⟨.msl j0,.msl j0,ci j0,j5⟩))⟩,⟨_,j0,rsMap (fun _=>j0)⟩,⟨_,j0,rsMap (fun _=>j0)⟩,j5⟩,j0,j1⟩<|r_nil ?_
       obtain rfl:=sm h
       exact ⟨_,j0,[.old 0,.old 1,.dead,.old 3],rsTup j5,j0,⟨⟨_,j0,rsOne (cc12 j0 (by exact ⟨.msl j0,.msl j0,ci j0,j5⟩))⟩,⟨_,j0,rsMap (fun _=>j0)⟩,⟨_,j0,rsMap (fun _=>j0)⟩,j5⟩,j0,j1⟩
      ·
       replace h:=bF hc21 h
       obtain ⟨v25,q25,h⟩:=bs h
       refine rg j0<|u<|mv j0<|u<|sc [0,1,2] (verify_checker_ref_ok v1 v2 v3 v4 v5 v6 v7 q25) j0 j0 j0 j0 ⟨(.mpt j0),j5⟩ ⟨⟨_,j0,(rr12 j0 ⟨(.msl j0),(.msl j0),(rnI j0),j5⟩)⟩,⟨j0,mkI (fun _=>j0)⟩,⟨j0,mkI (fun _=>j0)⟩,j5⟩<|r_can (env0:=[(0,.mpt 0 0 0)]) (st0:=[some (15,[(vK v1 v2 v3 v4 (.msl 1 0 (List.length v5)) (.msl 2 0 (List.length v25.2.1)) (bA v25.2.2))]),some (1,List.map rStr v5),some (1,List.map rStr v25.2.1)]) ⟨[.old 0,.old 1,.old 2],cv j0 (.mpt j0)<|cn,j0,⟨⟨_,j0,rsOne (cc12 j0 (by exact ⟨.msl j0,.msl j0,ci j0,j5⟩))⟩,⟨_,j0,rsMap (fun _=>j0)⟩,⟨_,j0,rsMap (fun _=>j0)⟩,j5⟩,j0,j1⟩<|r_nil ?_
       obtain ⟨v26,q26,h⟩:=bs h
       refine rg j0<|u<|mv j0<|u<|bl 3 ti25 j0 ti9 j0 (by decide) (by decide) j0 j0 j0<|r_can (env0:=[(0,.mpt 0 0 0),(12,.mpt 0 0 0),(13,.isl 1 (List.map rStr ([[73]])))]) (st0:=[some (15,[(vK v1 v2 v3 v4 (.msl 1 0 (List.length v5)) (.msl 2 0 (List.length v25.2.1)) (bA v25.2.2))]),some (1,List.map rStr v5),some (1,List.map rStr v25.2.1)]) ⟨[.old 0,.old 1,.old 2],cv j0 (.mpt j0)<|cv j0 (.mpt j0)<|cv j0 (rsSealX j0 j0 ⟨⟨⟨ci j0,j5⟩,j0⟩,j5⟩)<|cn,j0,⟨⟨_,j0,rsOne (cc12 j0 (by exact ⟨.msl j0,.msl j0,ci j0,j5⟩))⟩,⟨_,j0,rsMap (fun _=>j0)⟩,⟨_,j0,rsMap (fun _=>j0)⟩,j5⟩,j0,j1⟩<|u<|sc [0,1,2] (verify_checker_take_ok v1 v2 v3 v4 v5 v25.2.1 v25.2.2 ([[73]]) q26) j0 j0 j0 j0 ⟨(.mpt j0),(rnI j0),j5⟩ ⟨⟨_,j0,(rr12 j0 ⟨(.msl j0),(.msl j0),(rnI j0),j5⟩)⟩,⟨j0,mkI (fun _=>j0)⟩,⟨j0,mkI (fun _=>j0)⟩,j5⟩<|r_can (env0:=[(0,.mpt 0 0 0)]) (st0:=[some (15,[(vK v1 v2 v3 v4 (.msl 1 0 (List.length v5)) (.msl 2 0 (List.length v26.1)) (bA v26.2))]),some (1,List.map rStr v5),some (1,List.map rStr v26.1)]) ⟨[.old 0,.old 1,.old 2],cv j0 (.mpt j0)<|cn,j0,⟨⟨_,j0,rsOne (cc12 j0 (by exact ⟨.msl j0,.msl j0,ci j0,j5⟩))⟩,⟨_,j0,rsMap (fun _=>j0)⟩,⟨_,j0,rsMap (fun _=>j0)⟩,j5⟩,j0,j1⟩<|r_nil ?_
       obtain ⟨v27,q27,h⟩:=bs h
       refine rl j0<|u<|mv j0<|u<|sc [0,1,2] (verify_checker_array_ok v1 v2 v3 v4 v5 v26.1 v26.2 q27) j0 j0 j0 j0 ⟨(.mpt j0),j5⟩ ⟨⟨_,j0,(rr12 j0 ⟨(.msl j0),(.msl j0),(rnI j0),j5⟩)⟩,⟨j0,mkI (fun _=>j0)⟩,⟨j0,mkI (fun _=>j0)⟩,j5⟩<|r_can (env0:=[]) (st0:=[some (15,[(vK v1 v2 v3 v4 (.msl 1 0 (List.length v5)) (.msl 2 0 (List.length v27.2.1)) (bA v27.2.2))]),some (1,List.map rStr v5),some (1,List.map rStr v27.2.1)]) ⟨[.old 0,.old 1,.old 2],cn,j0,⟨⟨_,j0,rsOne (cc12 j0 (by exact ⟨.msl j0,.msl j0,ci j0,j5⟩))⟩,⟨_,j0,rsMap (fun _=>j0)⟩,⟨_,j0,rsMap (fun _=>j0)⟩,j5⟩,j0,j1⟩<|r_nil ?_
       obtain rfl:=sm h
       exact ⟨_,j0,[.old 0,.old 1,.dead,.old 2],rsTup j5,j0,⟨⟨_,j0,rsOne (cc12 j0 (by exact ⟨.msl j0,.msl j0,ci j0,j5⟩))⟩,⟨_,j0,rsMap (fun _=>j0)⟩,⟨_,j0,rsMap (fun _=>j0)⟩,j5⟩,j0,j1⟩
def verify_checker_rest_j1 (v1 : List ApiClass) (v2 : List (List UInt8 × Int)) (v3 : List UInt8) (v4 : ApiMethod) (v5 : List (List UInt8)) (v6 : List (List UInt8)) (v7 : Bool) (v8 : ApiIns) (v9 : Bool) : Option ((List (List UInt8)) × Bool) :=
  cond v9 ((verify_checker_ref v1 v2 v3 v4 v5 v6 v7).bind fun v10=>(types_There_s2 v1 v2 v8.C).bind fun v11=>cond (v8.Op == (56 : Int)) ((verify_checker_push v1 v2 v3 v4 v5 v10.2.1 (v10.2.2 || (!v11)) v8.C).bind fun v12=>some (v12,(v10.2.2 || (!v11)))) ((verify_checker_push v1 v2 v3 v4 v5 v10.2.1 (v10.2.2 || (!v11)) [73]).bind fun v13=>some (v13,(v10.2.2 || (!v11))))) (cond (v8.Op == (58 : Int)) ((verify_checker_take v1 v2 v3 v4 v5 v6 v7 ([[84,104,114,111,119,110]])).bind fun v14=>some (v14.1,v14.2)) (cond (v8.Op == (59 : Int)) ((verify_checker_push v1 v2 v3 v4 v5 v6 v7 [73]).bind fun v15=>some (v15,v7)) ((verify_checker_take v1 v2 v3 v4 v5 v6 v7 ([[73]])).bind fun v16=>some (v16.1,v16.2))))
def verify_checker_rest (v1 : List ApiClass) (v2 : List (List UInt8 × Int)) (v3 : List UInt8) (v4 : ApiMethod) (v5 : List (List UInt8)) (v6 : List (List UInt8)) (v7 : Bool) (v8 : ApiIns) : Option ((List (List UInt8)) × Bool) :=
  cond (v8.Op == (56 : Int)) (verify_checker_rest_j1 v1 v2 v3 v4 v5 v6 v7 v8 (v8.Op == (56 : Int))) (verify_checker_rest_j1 v1 v2 v3 v4 v5 v6 v7 v8 (v8.Op == (57 : Int)))
theorem verify_checker_rest_ok (v1 : List ApiClass) (v2 : List (List UInt8 × Int)) (v3 : List UInt8) (v4 : ApiMethod) (v5 : List (List UInt8)) (v6 : List (List UInt8)) (v7 : Bool) (v8 : ApiIns) {r : (List (List UInt8)) × Bool} (h : verify_checker_rest v1 v2 v3 v4 v5 v6 v7 v8 = some r) : SC Tryz.prog 148 [.mpt 0 0 0,.agg (rApiIns v8)] [.one 15 (vK v1 v2 v3 v4 (.msl 1 0 (List.length v5)) (.msl 2 0 (List.length v6)) (bA v7)),.many 1 (List.map rStr v5),.many 1 (List.map rStr v6)] (.tup []) [.one 15 (vK v1 v2 v3 v4 (.msl 1 0 (List.length v5)) (.msl 3 0 (List.length r.1)) (bA r.2)),.many 1 (List.map rStr v5),.no,.many 1 (List.map rStr r.1)]:=by
 refine ⟨⟨j5,sbOk (sz:=1) (fun _=>j0),j5,sbOk (sz:=1) (fun _=>j0),j5⟩,scall_fn Tryz.func148 j0 (by kernel_rfl) j0 ?_⟩
 unfold verify_checker_rest at h
 refine rg j0<|u<|bx 3 4 j0 j0 j0 j0<|r_nil ?_
 refine rg j0<|u<|fa ti69 j0 j0 j0<|u<|ld ti3 j0 j0<|r_nil ?_
 refine sw_block ?_
 refine sw_meet (X:=Bool) (fun z=>[(0,.mpt 0 0 0),(3,.mpt 3 0 0),(5,iA v8.Op),(9,bA z)]) (fun z=>[some (15,[(vK v1 v2 v3 v4 (.msl 1 0 (List.length v5)) (.msl 2 0 (List.length v6)) (bA v7))]),some (1,List.map rStr v5),some (1,List.map rStr v6),some (4,[(rApiIns v8)])]) (fun z=>verify_checker_rest_j1 v1 v2 v3 v4 v5 v6 v7 v8 z = some r) ?_ ?_
 ·
  refine rg j0<|u<|eql ti3 j0 j0<|u<|asg j0<|r_nil ?_
  refine sw_cond j0 (fun hc1=>?_) (fun hc1=>?_)
  ·
   replace h:=bT hc1 h
   refine sw_skip ?_
   exact ⟨(v8.Op == (56 : Int)),h,[.old 0,.old 1,.old 2,.old 3],cv j0 (.mpt j0)<|cv j0 (.mpt j0)<|ce j0 j0<|ce j0 j0<|cn,j0,⟨⟨_,j0,rsOne (cc12 j0 (by exact ⟨.msl j0,.msl j0,ci j0,j5⟩))⟩,⟨_,j0,rsMap (fun _=>j0)⟩,⟨_,j0,rsMap (fun _=>j0)⟩,⟨_,j0,rsOne (ciL j0)⟩,j5⟩,j0,j1⟩
  ·
   replace h:=bF hc1 h
   exact rl j0<|u<|eql ti3 j0 j0<|u<|asg j0<|r_nil (⟨(v8.Op == (57 : Int)),h,[.old 0,.old 1,.old 2,.old 3],cv j0 (.mpt j0)<|cv j0 (.mpt j0)<|ce j0 j0<|ce j0 j0<|cn,j0,⟨⟨_,j0,rsOne (cc12 j0 (by exact ⟨.msl j0,.msl j0,ci j0,j5⟩))⟩,⟨_,j0,rsMap (fun _=>j0)⟩,⟨_,j0,rsMap (fun _=>j0)⟩,⟨_,j0,rsOne (ciL j0)⟩,j5⟩,j0,j1⟩)
 ·
  rintro v9 h
  replace h : verify_checker_rest_j1 v1 v2 v3 v4 v5 v6 v7 v8 v9 = some r:=h
  unfold verify_checker_rest_j1 at h
  refine sw_cond j0 (fun hc2=>?_) (fun hc2=>?_)
  ·
   replace h:=bT hc2 h
   obtain ⟨v10,q3,h⟩:=bs h
   refine rg j0<|u<|mv j0<|u<|sc [0,1,2] (verify_checker_ref_ok v1 v2 v3 v4 v5 v6 v7 q3) j0 j0 j0 j0 ⟨(.mpt j0),j5⟩ ⟨⟨_,j0,(rr12 j0 ⟨(.msl j0),(.msl j0),(rnI j0),j5⟩)⟩,⟨j0,mkI (fun _=>j0)⟩,⟨j0,mkI (fun _=>j0)⟩,j5⟩<|r_can (env0:=[(0,.mpt 0 0 0),(3,.mpt 3 0 0)]) (st0:=[some (15,[(vK v1 v2 v3 v4 (.msl 1 0 (List.length v5)) (.msl 2 0 (List.length v10.2.1)) (bA v10.2.2))]),some (1,List.map rStr v5),some (1,List.map rStr v10.2.1),some (4,[(rApiIns v8)])]) ⟨[.old 0,.old 1,.old 2,.old 3],cv j0 (.mpt j0)<|cv j0 (.mpt j0)<|cn,j0,⟨⟨_,j0,rsOne (cc12 j0 (by exact ⟨.msl j0,.msl j0,ci j0,j5⟩))⟩,⟨_,j0,rsMap (fun _=>j0)⟩,⟨_,j0,rsMap (fun _=>j0)⟩,⟨_,j0,rsOne (ciL j0)⟩,j5⟩,j0,j1⟩<|r_nil ?_
   obtain ⟨v11,q4,h⟩:=bs h
   refine rd [(0,.mpt 0 0 0),(3,.mpt 3 0 0)] [some (15,[(vK v1 v2 v3 v4 (.msl 1 0 (List.length v5)) (.msl 2 0 (List.length v10.2.1)) (bA (v10.2.2 || (!v11))))]),some (1,List.map rStr v5),some (1,List.map rStr v10.2.1),some (4,[(rApiIns v8)])] [8] [7,6,5,4,3,2,1,0] [(21,bA v11),(20,sA v8.C),(19,.mpt 3 0 2),(18,.ipt 2 [[.isl 6 (List.map rApiClass v1),.imp (List.map (rKV (fun x=>iA x)) v2)]] 0 0),(17,.mpt 0 0 0),(16,.mpt 0 0 0),(15,.mpt 0 0 0),(14,.mpt 0 0 0)] 1 (by kernel_rfl) (by kernel_rfl) j0 (by kernel_rfl) (dtS ⟨(fun _=>pa j0 j0 j0 j0 (pc (types_There_s2_ok v1 v2 v8.C q4) j0 j0 j0<|j4)),(fun _=>pa j0 j0 j0 j0 (ld ti9 j0 j0<|j4)),(fun _=>pa j0 j0 j0 j0 (fa ti69 j0 j0 j0<|j4)),(fun _=>pa j0 j0 j0 j0 (ld ti32 j0 j0<|j4)),(fun _=>pa j0 j0 j0 j0 (fa ti131 j0 j0 j0<|j4)),(fun _=>pa j0 j0 j0 j0 (nc j0 j0<|j4)),(fun _=>pa j0 j0 j0 j0 (mv j0<|j4)),(fun _=>pa j0 j0 j0 j0 (mv j0<|j4)),j5⟩ (by kernel_rfl) j0 ⟨(fun _ _=>⟨_,j0,j0,sc [0,1,2] (verify_checker_need_ok v1 v2 v3 v4 v5 v10.2.1 v10.2.2 v11 j0) j0 j0 j0 j0 ⟨(.mpt j0),(rnI j0),j5⟩ ⟨⟨_,j0,(rr12 j0 ⟨(.msl j0),(.msl j0),(rnI j0),j5⟩)⟩,⟨j0,mkI (fun _=>j0)⟩,⟨j0,mkI (fun _=>j0)⟩,j5⟩<|⟨(.tup []),[],[(22,.tup [])],j0,j0,by kernel_rfl,j0,dt0 ⟨(fun h=>by cases h),(fun _=>pa j0 j0 j0 j0 (ld ti9 j0 j0<|j4)),(fun _=>pa j0 j0 j0 j0 (fa ti69 j0 j0 j0<|j4)),(fun _=>pa j0 j0 j0 j0 (ld ti32 j0 j0<|j4)),(fun _=>pa j0 j0 j0 j0 (fa ti131 j0 j0 j0<|j4)),(fun _=>pa j0 j0 j0 j0 (nc j0 j0<|j4)),(fun _=>pa j0 j0 j0 j0 (mv j0<|j4)),(fun h=>by cases h),j5⟩ (by kernel_rfl) j0 ⟨[.old 0,.old 1,.old 2,.old 3],cv j0 (.mpt j0)<|cv j0 (.mpt j0)<|cn,j0,⟨⟨_,j0,rsOne (cc12 j0 (by exact ⟨.msl j0,.msl j0,ci j0,j5⟩))⟩,⟨_,j0,rsMap (fun _=>j0)⟩,⟨_,j0,rsMap (fun _=>j0)⟩,⟨_,j0,rsOne (ciL j0)⟩,j5⟩,j0,j1⟩⟩⟩),j5⟩) ?_
   refine rg j0<|u<|fa ti69 j0 j0 j0<|u<|ld ti3 j0 j0<|u<|eql ti3 j0 j0<|r_nil ?_
   refine sw_cond j0 (fun hc5=>?_) (fun hc5=>?_)
   ·
    replace h:=bT hc5 h
    obtain ⟨v12,q6,h⟩:=bs h
    refine rl j0<|u<|mv j0<|u<|fa ti69 j0 j0 j0<|u<|ld ti9 j0 j0<|u<|sc [0,1,2] (verify_checker_push_ok v1 v2 v3 v4 v5 v10.2.1 (v10.2.2 || (!v11)) v8.C q6) j0 j0 j0 j0 ⟨(.mpt j0),(rnI j0),j5⟩ ⟨⟨_,j0,(rr12 j0 ⟨(.msl j0),(.msl j0),(rnI j0),j5⟩)⟩,⟨j0,mkI (fun _=>j0)⟩,⟨j0,mkI (fun _=>j0)⟩,j5⟩<|r_can (env0:=[]) (st0:=[some (15,[(vK v1 v2 v3 v4 (.msl 1 0 (List.length v5)) (.msl 3 0 (List.length v12)) (bA (v10.2.2 || (!v11))))]),some (1,List.map rStr v5),none,some (1,List.map rStr v12)]) ⟨[.old 0,.old 1,.dead,.old 4],cn,j0,⟨⟨_,j0,rsOne (cc12 j0 (by exact ⟨.msl j0,.msl j0,ci j0,j5⟩))⟩,⟨_,j0,rsMap (fun _=>j0)⟩,⟨_,j0,rsMap (fun _=>j0)⟩,j5⟩,j0,j1⟩<|r_nil ?_
    obtain rfl:=sm h
    exact ⟨_,j0,[.old 0,.old 1,.dead,.old 3],rsTup j5,j0,⟨⟨_,j0,rsOne (cc12 j0 (by exact ⟨.msl j0,.msl j0,ci j0,j5⟩))⟩,⟨_,j0,rsMap (fun _=>j0)⟩,⟨_,j0,rsMap (fun _=>j0)⟩,j5⟩,j0,j1⟩
   ·
    replace h:=bF hc5 h
    obtain ⟨v13,q7,h⟩:=bs h
    refine rl j0<|u<|mv j0<|u<|sc [0,1,2] (verify_checker_push_ok v1 v2 v3 v4 v5 v10.2.1 (v10.2.2 || (!v11)) [73] q7) j0 j0 j0 j0 ⟨(.mpt j0),(rnI j0),j5⟩ ⟨⟨_,j0,(rr12 j0 ⟨(.msl j0),(.msl j0),(rnI j0),j5⟩)⟩,⟨j0,mkI (fun _=>j0)⟩,⟨j0,mkI (fun _=>j0)⟩,j5⟩<|r_can (env0:=[]) (st0:=[some (15,[(vK v1 v2 v3 v4 (.msl 1 0 (List.length v5)) (.msl 3 0 (List.length v13)) (bA (v10.2.2 || (!v11))))]),some (1,List.map rStr v5),none,some (1,List.map rStr v13)]) ⟨[.old 0,.old 1,.dead,.old 4],cn,j0,⟨⟨_,j0,rsOne (cc12 j0 (by exact ⟨.msl j0,.msl j0,ci j0,j5⟩))⟩,⟨_,j0,rsMap (fun _=>j0)⟩,⟨_,j0,rsMap (fun _=>j0)⟩,j5⟩,j0,j1⟩<|r_nil ?_
    obtain rfl:=sm h
    exact ⟨_,j0,[.old 0,.old 1,.dead,.old 3],rsTup j5,j0,⟨⟨_,j0,rsOne (cc12 j0 (by exact ⟨.msl j0,.msl j0,ci j0,j5⟩))⟩,⟨_,j0,rsMap (fun _=>j0)⟩,⟨_,j0,rsMap (fun _=>j0)⟩,j5⟩,j0,j1⟩
  ·
   replace h:=bF hc2 h
   refine rg j0<|u<|eql ti3 j0 j0<|u<|asg j0<|r_nil ?_
   refine sw_cond j0 (fun hc8=>?_) (fun hc8=>?_)
   ·
    replace h:=bT hc8 h
    obtain ⟨v14,q9,h⟩:=bs h
    refine rl j0<|u<|mv j0<|u<|bl 4 ti25 j0 ti9 j0 (by decide) (by decide) j0 j0 j0<|r_can (env0:=[(34,.mpt 0 0 0),(35,.isl 1 (List.map rStr ([[84,104,114,111,119,110]])))]) (st0:=[some (15,[(vK v1 v2 v3 v4 (.msl 1 0 (List.length v5)) (.msl 2 0 (List.length v6)) (bA v7))]),some (1,List.map rStr v5),some (1,List.map rStr v6)]) ⟨[.old 0,.old 1,.old 2],cv j0 (.mpt j0)<|cv j0 (rsSealX j0 j0 ⟨⟨⟨ci j0,j5⟩,j0⟩,j5⟩)<|cn,j0,⟨⟨_,j0,rsOne (cc12 j0 (by exact ⟨.msl j0,.msl j0,ci j0,j5⟩))⟩,⟨_,j0,rsMap (fun _=>j0)⟩,⟨_,j0,rsMap (fun _=>j0)⟩,j5⟩,j0,j1⟩<|u<|sc [0,1,2] (verify_checker_take_ok v1 v2 v3 v4 v5 v6 v7 ([[84,104,114,111,119,110]]) q9) j0 j0 j0 j0 ⟨(.mpt j0),(rnI j0),j5⟩ ⟨⟨_,j0,(rr12 j0 ⟨(.msl j0),(.msl j0),(rnI j0),j5⟩)⟩,⟨j0,mkI (fun _=>j0)⟩,⟨j0,mkI (fun _=>j0)⟩,j5⟩<|r_can (env0:=[]) (st0:=[some (15,[(vK v1 v2 v3 v4 (.msl 1 0 (List.length v5)) (.msl 2 0 (List.length v14.1)) (bA v14.2))]),some (1,List.map rStr v5),some (1,List.map rStr v14.1)]) ⟨[.old 0,.old 1,.old 2],cn,j0,⟨⟨_,j0,rsOne (cc12 j0 (by exact ⟨.msl j0,.msl j0,ci j0,j5⟩))⟩,⟨_,j0,rsMap (fun _=>j0)⟩,⟨_,j0,rsMap (fun _=>j0)⟩,j5⟩,j0,j1⟩<|r_nil ?_
    obtain rfl:=sm h
    exact ⟨_,j0,[.old 0,.old 1,.dead,.old 2],rsTup j5,j0,⟨⟨_,j0,rsOne (cc12 j0 (by exact ⟨.msl j0,.msl j0,ci j0,j5⟩))⟩,⟨_,j0,rsMap (fun _=>j0)⟩,⟨_,j0,rsMap (fun _=>j0)⟩,j5⟩,j0,j1⟩
   ·
    replace h:=bF hc8 h
    refine rg j0<|u<|eql ti3 j0 j0<|u<|asg j0<|r_nil ?_
    refine sw_cond j0 (fun hc10=>?_) (fun hc10=>?_)
    ·
     replace h:=bT hc10 h
     obtain ⟨v15,q11,h⟩:=bs h
     refine rl j0<|u<|mv j0<|u<|sc [0,1,2] (verify_checker_push_ok v1 v2 v3 v4 v5 v6 v7 [73] q11) j0 j0 j0 j0 ⟨(.mpt j0),(rnI j0),j5⟩ ⟨⟨_,j0,(rr12 j0 ⟨(.msl j0),(.msl j0),(rnI j0),j5⟩)⟩,⟨j0,mkI (fun _=>j0)⟩,⟨j0,mkI (fun _=>j0)⟩,j5⟩<|r_can (env0:=[]) (st0:=[some (15,[(vK v1 v2 v3 v4 (.msl 1 0 (List.length v5)) (.msl 3 0 (List.length v15)) (bA v7))]),some (1,List.map rStr v5),none,some (1,List.map rStr v15)]) ⟨[.old 0,.old 1,.dead,.old 4],cn,j0,⟨⟨_,j0,rsOne (cc12 j0 (by exact ⟨.msl j0,.msl j0,ci j0,j5⟩))⟩,⟨_,j0,rsMap (fun _=>j0)⟩,⟨_,j0,rsMap (fun _=>j0)⟩,j5⟩,j0,j1⟩<|r_nil ?_
     obtain rfl:=sm h
     exact ⟨_,j0,[.old 0,.old 1,.dead,.old 3],rsTup j5,j0,⟨⟨_,j0,rsOne (cc12 j0 (by exact ⟨.msl j0,.msl j0,ci j0,j5⟩))⟩,⟨_,j0,rsMap (fun _=>j0)⟩,⟨_,j0,rsMap (fun _=>j0)⟩,j5⟩,j0,j1⟩
    ·
     replace h:=bF hc10 h
     obtain ⟨v16,q12,h⟩:=bs h
     refine rl j0<|u<|mv j0<|u<|bl 4 ti25 j0 ti9 j0 (by decide) (by decide) j0 j0 j0<|r_can (env0:=[(6,.mpt 0 0 0),(7,.isl 1 (List.map rStr ([[73]])))]) (st0:=[some (15,[(vK v1 v2 v3 v4 (.msl 1 0 (List.length v5)) (.msl 2 0 (List.length v6)) (bA v7))]),some (1,List.map rStr v5),some (1,List.map rStr v6)]) ⟨[.old 0,.old 1,.old 2],cv j0 (.mpt j0)<|cv j0 (rsSealX j0 j0 ⟨⟨⟨ci j0,j5⟩,j0⟩,j5⟩)<|cn,j0,⟨⟨_,j0,rsOne (cc12 j0 (by exact ⟨.msl j0,.msl j0,ci j0,j5⟩))⟩,⟨_,j0,rsMap (fun _=>j0)⟩,⟨_,j0,rsMap (fun _=>j0)⟩,j5⟩,j0,j1⟩<|u<|sc [0,1,2] (verify_checker_take_ok v1 v2 v3 v4 v5 v6 v7 ([[73]]) q12) j0 j0 j0 j0 ⟨(.mpt j0),(rnI j0),j5⟩ ⟨⟨_,j0,(rr12 j0 ⟨(.msl j0),(.msl j0),(rnI j0),j5⟩)⟩,⟨j0,mkI (fun _=>j0)⟩,⟨j0,mkI (fun _=>j0)⟩,j5⟩<|r_can (env0:=[]) (st0:=[some (15,[(vK v1 v2 v3 v4 (.msl 1 0 (List.length v5)) (.msl 2 0 (List.length v16.1)) (bA v16.2))]),some (1,List.map rStr v5),some (1,List.map rStr v16.1)]) ⟨[.old 0,.old 1,.old 2],cn,j0,⟨⟨_,j0,rsOne (cc12 j0 (by exact ⟨.msl j0,.msl j0,ci j0,j5⟩))⟩,⟨_,j0,rsMap (fun _=>j0)⟩,⟨_,j0,rsMap (fun _=>j0)⟩,j5⟩,j0,j1⟩<|r_nil ?_
     obtain rfl:=sm h
     exact ⟨_,j0,[.old 0,.old 1,.dead,.old 2],rsTup j5,j0,⟨⟨_,j0,rsOne (cc12 j0 (by exact ⟨.msl j0,.msl j0,ci j0,j5⟩))⟩,⟨_,j0,rsMap (fun _=>j0)⟩,⟨_,j0,rsMap (fun _=>j0)⟩,j5⟩,j0,j1⟩
end
end Go.Proofs.YtjbdfkapnffjnaaGreat
namespace Go.Proofs.YtjbdfkapnffjnaaGreat
noncomputable section
set_option linter.unusedSimpArgs false
set_option linter.unusedVariables false
set_option maxRecDepth 100000
set_option maxHeartbeats 4000000
def verify_checker_one (v1 : List ApiClass) (v2 : List (List UInt8 × Int)) (v3 : List UInt8) (v4 : ApiMethod) (v5 : List (List UInt8)) (v6 : List (List UInt8)) (v7 : Bool) (v8 : ApiIns) : Option ((List (List UInt8)) × (List (List UInt8)) × Bool) :=
  cond (verify_between v8.Op 1 7) ((verify_checker_move v1 v2 v3 v4 v5 v6 v7 v8).bind fun v9=>some (v9.1,v9.2.1,v9.2.2)) (cond (v8.Op == (13 : Int)) ((verify_checker_take v1 v2 v3 v4 v5 v6 v7 ([[73]])).bind fun v10=>(verify_checker_push v1 v2 v3 v4 v5 v10.1 v10.2 [73]).bind fun v11=>some (v5,v11,v10.2)) (cond (verify_between v8.Op 8 19) ((verify_checker_take v1 v2 v3 v4 v5 v6 v7 ([[73],[73]])).bind fun v12=>(verify_checker_push v1 v2 v3 v4 v5 v12.1 v12.2 [73]).bind fun v13=>some (v5,v13,v12.2)) (cond (v8.Op == (20 : Int)) (some (v5,v6,v7)) (cond (verify_between v8.Op 21 26) ((verify_checker_take v1 v2 v3 v4 v5 v6 v7 ([[73]])).bind fun v14=>some (v5,v14.1,v14.2)) (cond (verify_between v8.Op 27 32) ((verify_checker_take v1 v2 v3 v4 v5 v6 v7 ([[73],[73]])).bind fun v15=>some (v5,v15.1,v15.2)) (cond (verify_between v8.Op 33 34) ((verify_checker_ref v1 v2 v3 v4 v5 v6 v7).bind fun v16=>some (v5,v16.2.1,v16.2.2)) (cond (verify_between v8.Op 35 36) ((verify_checker_ref v1 v2 v3 v4 v5 v6 v7).bind fun v17=>(verify_checker_ref v1 v2 v3 v4 v5 v17.2.1 v17.2.2).bind fun v18=>some (v5,v18.2.1,v18.2.2)) (cond ((v8.Op == (37 : Int)) || (verify_between v8.Op 38 41)) ((verify_checker_field v1 v2 v3 v4 v5 v6 v7 v8).bind fun v19=>some (v5,v19.1,v19.2)) (cond (verify_between v8.Op 42 45) ((verify_checker_call v1 v2 v3 v4 v5 v6 v7 v8).bind fun v20=>some (v5,v20.1,v20.2)) (cond (verify_between v8.Op 46 48) ((verify_checker_ret v1 v2 v3 v4 v5 v6 v7 v8.Op).bind fun v21=>some (v5,v21.1,v21.2)) (cond (verify_between v8.Op 49 55) ((verify_checker_arrays v1 v2 v3 v4 v5 v6 v7 v8).bind fun v22=>some (v5,v22.1,v22.2)) ((verify_checker_rest v1 v2 v3 v4 v5 v6 v7 v8).bind fun v23=>some (v5,v23.1,v23.2)))))))))))))
theorem verify_checker_one_ok (v1 : List ApiClass) (v2 : List (List UInt8 × Int)) (v3 : List UInt8) (v4 : ApiMethod) (v5 : List (List UInt8)) (v6 : List (List UInt8)) (v7 : Bool) (v8 : ApiIns) {r : (List (List UInt8)) × (List (List UInt8)) × Bool} (h : verify_checker_one v1 v2 v3 v4 v5 v6 v7 v8 = some r) : SC Tryz.prog 86 [.mpt 0 0 0,.agg (rApiIns v8)] [.one 15 (vK v1 v2 v3 v4 (.msl 1 0 (List.length v5)) (.msl 2 0 (List.length v6)) (bA v7)),.many 1 (List.map rStr v5),.many 1 (List.map rStr v6)] (.tup []) [.one 15 (vK v1 v2 v3 v4 (.msl 3 0 (List.length r.1)) (.msl 4 0 (List.length r.2.1)) (bA r.2.2)),.no,.no,.many 1 (List.map rStr r.1),.many 1 (List.map rStr r.2.1)]:=by
 refine ⟨⟨j5,j5,j5,sbOk (sz:=1) (fun _=>j0),sbOk (sz:=1) (fun _=>j0),j5⟩,scall_fn Tryz.func86 j0 (by kernel_rfl) j0 ?_⟩
 unfold verify_checker_one at h
 refine rg j0<|u<|bx 3 4 j0 j0 j0 j0<|r_nil ?_
 refine rg j0<|u<|fa ti69 j0 j0 j0<|u<|ld ti3 j0 j0<|u<|asg j0<|r_nil ?_
 refine sw_block ?_
 refine rg j0<|u<|mv j0<|u<|pc (verify_between_ok v8.Op 1 7 j0) j0 j0 j0<|u<|asg j0<|r_nil ?_
 refine sw_cond j0 (fun hc1=>?_) (fun hc1=>?_)
 ·
  replace h:=bT hc1 h
  obtain ⟨v9,q2,h⟩:=bs h
  refine rl j0<|u<|mv j0<|u<|ld ti69 j0 j0<|u<|sc [0,1,2] (verify_checker_move_ok v1 v2 v3 v4 v5 v6 v7 v8 q2) j0 j0 j0 j0 ⟨(.mpt j0),(rnI j0),j5⟩ ⟨⟨_,j0,(rr12 j0 ⟨(.msl j0),(.msl j0),(rnI j0),j5⟩)⟩,⟨j0,mkI (fun _=>j0)⟩,⟨j0,mkI (fun _=>j0)⟩,j5⟩<|r_can (env0:=[]) (st0:=[some (15,[(vK v1 v2 v3 v4 (.msl 3 0 (List.length v9.1)) (.msl 4 0 (List.length v9.2.1)) (bA v9.2.2))]),none,none,some (1,List.map rStr v9.1),some (1,List.map rStr v9.2.1)]) ⟨[.old 0,.dead,.dead,.old 4,.old 5],cn,j0,⟨⟨_,j0,rsOne (cc12 j0 (by exact ⟨.msl j0,.msl j0,ci j0,j5⟩))⟩,⟨_,j0,rsMap (fun _=>j0)⟩,⟨_,j0,rsMap (fun _=>j0)⟩,j5⟩,j0,j1⟩<|r_nil ?_
  obtain rfl:=sm h
  exact ⟨_,j0,[.old 0,.dead,.dead,.old 3,.old 4],rsTup j5,j0,⟨⟨_,j0,rsOne (cc12 j0 (by exact ⟨.msl j0,.msl j0,ci j0,j5⟩))⟩,⟨_,j0,rsMap (fun _=>j0)⟩,⟨_,j0,rsMap (fun _=>j0)⟩,j5⟩,j0,j1⟩
 ·
  replace h:=bF hc1 h
  refine rg j0<|u<|mv j0<|u<|eql ti3 j0 j0<|u<|asg j0<|r_nil ?_
  refine sw_cond j0 (fun hc3=>?_) (fun hc3=>?_)
  ·
   replace h:=bT hc3 h
   obtain ⟨v10,q4,h⟩:=bs h
   refine rg j0<|u<|mv j0<|u<|bl 4 ti25 j0 ti9 j0 (by decide) (by decide) j0 j0 j0<|r_can (env0:=[(0,.mpt 0 0 0),(19,.mpt 0 0 0),(20,.isl 1 (List.map rStr ([[73]])))]) (st0:=[some (15,[(vK v1 v2 v3 v4 (.msl 1 0 (List.length v5)) (.msl 2 0 (List.length v6)) (bA v7))]),some (1,List.map rStr v5),some (1,List.map rStr v6)]) ⟨[.old 0,.old 1,.old 2],cv j0 (.mpt j0)<|cv j0 (.mpt j0)<|cv j0 (rsSealX j0 j0 ⟨⟨⟨ci j0,j5⟩,j0⟩,j5⟩)<|cn,j0,⟨⟨_,j0,rsOne (cc12 j0 (by exact ⟨.msl j0,.msl j0,ci j0,j5⟩))⟩,⟨_,j0,rsMap (fun _=>j0)⟩,⟨_,j0,rsMap (fun _=>j0)⟩,j5⟩,j0,j1⟩<|u<|sc [0,1,2] (verify_checker_take_ok v1 v2 v3 v4 v5 v6 v7 ([[73]]) q4) j0 j0 j0 j0 ⟨(.mpt j0),(rnI j0),j5⟩ ⟨⟨_,j0,(rr12 j0 ⟨(.msl j0),(.msl j0),(rnI j0),j5⟩)⟩,⟨j0,mkI (fun _=>j0)⟩,⟨j0,mkI (fun _=>j0)⟩,j5⟩<|r_can (env0:=[(0,.mpt 0 0 0)]) (st0:=[some (15,[(vK v1 v2 v3 v4 (.msl 1 0 (List.length v5)) (.msl 2 0 (List.length v10.1)) (bA v10.2))]),some (1,List.map rStr v5),some (1,List.map rStr v10.1)]) ⟨[.old 0,.old 1,.old 2],cv j0 (.mpt j0)<|cn,j0,⟨⟨_,j0,rsOne (cc12 j0 (by exact ⟨.msl j0,.msl j0,ci j0,j5⟩))⟩,⟨_,j0,rsMap (fun _=>j0)⟩,⟨_,j0,rsMap (fun _=>j0)⟩,j5⟩,j0,j1⟩<|r_nil ?_
   obtain ⟨v11,q5,h⟩:=bs h
   refine rl j0<|u<|mv j0<|u<|sc [0,1,2] (verify_checker_push_ok v1 v2 v3 v4 v5 v10.1 v10.2 [73] q5) j0 j0 j0 j0 ⟨(.mpt j0),(rnI j0),j5⟩ ⟨⟨_,j0,(rr12 j0 ⟨(.msl j0),(.msl j0),(rnI j0),j5⟩)⟩,⟨j0,mkI (fun _=>j0)⟩,⟨j0,mkI (fun _=>j0)⟩,j5⟩<|r_can (env0:=[]) (st0:=[some (15,[(vK v1 v2 v3 v4 (.msl 1 0 (List.length v5)) (.msl 3 0 (List.length v11)) (bA v10.2))]),some (1,List.map rStr v5),none,some (1,List.map rStr v11)]) ⟨[.old 0,.old 1,.dead,.old 3],cn,j0,⟨⟨_,j0,rsOne (cc12 j0 (by exact ⟨.msl j0,.msl j0,ci j0,j5⟩))⟩,⟨_,j0,rsMap (fun _=>j0)⟩,⟨_,j0,rsMap (fun _=>j0)⟩,j5⟩,j0,j1⟩<|r_nil ?_
   obtain rfl:=sm h
   exact ⟨_,j0,[.old 0,.dead,.dead,.old 1,.old 3],rsTup j5,j0,⟨⟨_,j0,rsOne (cc12 j0 (by exact ⟨.msl j0,.msl j0,ci j0,j5⟩))⟩,⟨_,j0,rsMap (fun _=>j0)⟩,⟨_,j0,rsMap (fun _=>j0)⟩,j5⟩,j0,j1⟩
  ·
   replace h:=bF hc3 h
   refine rg j0<|u<|mv j0<|u<|pc (verify_between_ok v8.Op 8 19 j0) j0 j0 j0<|u<|asg j0<|r_nil ?_
   refine sw_cond j0 (fun hc6=>?_) (fun hc6=>?_)
   ·
    replace h:=bT hc6 h
    obtain ⟨v12,q7,h⟩:=bs h
    refine rg j0<|u<|mv j0<|u<|bl 4 ti25 j0 ti9 j0 (by decide) (by decide) j0 j0 j0<|r_can (env0:=[(0,.mpt 0 0 0),(27,.mpt 0 0 0),(28,.isl 1 (List.map rStr ([[73],[73]])))]) (st0:=[some (15,[(vK v1 v2 v3 v4 (.msl 1 0 (List.length v5)) (.msl 2 0 (List.length v6)) (bA v7))]),some (1,List.map rStr v5),some (1,List.map rStr v6)]) ⟨[.old 0,.old 1,.old 2],cv j0 (.mpt j0)<|cv j0 (.mpt j0)<|cv j0 (rsSealX j0 j0 ⟨⟨⟨ci j0,j5⟩,j0⟩,⟨⟨ci j0,j5⟩,j0⟩,j5⟩)<|cn,j0,⟨⟨_,j0,rsOne (cc12 j0 (by exact ⟨.msl j0,.msl j0,ci j0,j5⟩))⟩,⟨_,j0,rsMap (fun _=>j0)⟩,⟨_,j0,rsMap (fun _=>j0)⟩,j5⟩,j0,j1⟩<|u<|sc [0,1,2] (verify_checker_take_ok v1 v2 v3 v4 v5 v6 v7 ([[73],[73]]) q7) j0 j0 j0 j0 ⟨(.mpt j0),(rnI j0),j5⟩ ⟨⟨_,j0,(rr12 j0 ⟨(.msl j0),(.msl j0),(rnI j0),j5⟩)⟩,⟨j0,mkI (fun _=>j0)⟩,⟨j0,mkI (fun _=>j0)⟩,j5⟩<|r_can (env0:=[(0,.mpt 0 0 0)]) (st0:=[some (15,[(vK v1 v2 v3 v4 (.msl 1 0 (List.length v5)) (.msl 2 0 (List.length v12.1)) (bA v12.2))]),some (1,List.map rStr v5),some (1,List.map rStr v12.1)]) ⟨[.old 0,.old 1,.old 2],cv j0 (.mpt j0)<|cn,j0,⟨⟨_,j0,rsOne (cc12 j0 (by exact ⟨.msl j0,.msl j0,ci j0,j5⟩))⟩,⟨_,j0,rsMap (fun _=>j0)⟩,⟨_,j0,rsMap (fun _=>j0)⟩,j5⟩,j0,j1⟩<|r_nil ?_
    obtain ⟨v13,q8,h⟩:=bs h
    refine rl j0<|u<|mv j0<|u<|sc [0,1,2] (verify_checker_push_ok v1 v2 v3 v4 v5 v12.1 v12.2 [73] q8) j0 j0 j0 j0 ⟨(.mpt j0),(rnI j0),j5⟩ ⟨⟨_,j0,(rr12 j0 ⟨(.msl j0),(.msl j0),(rnI j0),j5⟩)⟩,⟨j0,mkI (fun _=>j0)⟩,⟨j0,mkI (fun _=>j0)⟩,j5⟩<|r_can (env0:=[]) (st0:=[some (15,[(vK v1 v2 v3 v4 (.msl 1 0 (List.length v5)) (.msl 3 0 (List.length v13)) (bA v12.2))]),some (1,List.map rStr v5),none,some (1,List.map rStr v13)]) ⟨[.old 0,.old 1,.dead,.old 3],cn,j0,⟨⟨_,j0,rsOne (cc12 j0 (by exact ⟨.msl j0,.msl j0,ci j0,j5⟩))⟩,⟨_,j0,rsMap (fun _=>j0)⟩,⟨_,j0,rsMap (fun _=>j0)⟩,j5⟩,j0,j1⟩<|r_nil ?_
    obtain rfl:=sm h
    exact ⟨_,j0,[.old 0,.dead,.dead,.old 1,.old 3],rsTup j5,j0,⟨⟨_,j0,rsOne (cc12 j0 (by exact ⟨.msl j0,.msl j0,ci j0,j5⟩))⟩,⟨_,j0,rsMap (fun _=>j0)⟩,⟨_,j0,rsMap (fun _=>j0)⟩,j5⟩,j0,j1⟩
   ·
    replace h:=bF hc6 h
    refine rg j0<|u<|mv j0<|u<|eql ti3 j0 j0<|u<|asg j0<|r_nil ?_
    refine sw_cond j0 (fun hc9=>?_) (fun hc9=>?_)
    ·
     replace h:=bT hc9 h
     refine sw_skip ?_
     obtain rfl:=sm h
     exact ⟨_,j0,[.old 0,.dead,.dead,.old 1,.old 2],rsTup j5,j0,⟨⟨_,j0,rsOne (cc12 j0 (by exact ⟨.msl j0,.msl j0,ci j0,j5⟩))⟩,⟨_,j0,rsMap (fun _=>j0)⟩,⟨_,j0,rsMap (fun _=>j0)⟩,j5⟩,j0,j1⟩
    ·
     replace h:=bF hc9 h
     refine rg j0<|u<|mv j0<|u<|pc (verify_between_ok v8.Op 21 26 j0) j0 j0 j0<|u<|asg j0<|r_nil ?_
     refine sw_cond j0 (fun hc10=>?_) (fun hc10=>?_)
     ·
      replace h:=bT hc10 h
      obtain ⟨v14,q11,h⟩:=bs h
      refine rl j0<|u<|mv j0<|u<|bl 4 ti25 j0 ti9 j0 (by decide) (by decide) j0 j0 j0<|r_can (env0:=[(38,.mpt 0 0 0),(39,.isl 1 (List.map rStr ([[73]])))]) (st0:=[some (15,[(vK v1 v2 v3 v4 (.msl 1 0 (List.length v5)) (.msl 2 0 (List.length v6)) (bA v7))]),some (1,List.map rStr v5),some (1,List.map rStr v6)]) ⟨[.old 0,.old 1,.old 2],cv j0 (.mpt j0)<|cv j0 (rsSealX j0 j0 ⟨⟨⟨ci j0,j5⟩,j0⟩,j5⟩)<|cn,j0,⟨⟨_,j0,rsOne (cc12 j0 (by exact ⟨.msl j0,.msl j0,ci j0,j5⟩))⟩,⟨_,j0,rsMap (fun _=>j0)⟩,⟨_,j0,rsMap (fun _=>j0)⟩,j5⟩,j0,j1⟩<|u<|sc [0,1,2] (verify_checker_take_ok v1 v2 v3 v4 v5 v6 v7 ([[73]]) q11) j0 j0 j0 j0 ⟨(.mpt j0),(rnI j0),j5⟩ ⟨⟨_,j0,(rr12 j0 ⟨(.msl j0),(.msl j0),(rnI j0),j5⟩)⟩,⟨j0,mkI (fun _=>j0)⟩,⟨j0,mkI (fun _=>j0)⟩,j5⟩<|r_can (env0:=[]) (st0:=[some (15,[(vK v1 v2 v3 v4 (.msl 1 0 (List.length v5)) (.msl 2 0 (List.length v14.1)) (bA v14.2))]),some (1,List.map rStr v5),some (1,List.map rStr v14.1)]) ⟨[.old 0,.old 1,.old 2],cn,j0,⟨⟨_,j0,rsOne (cc12 j0 (by exact ⟨.msl j0,.msl j0,ci j0,j5⟩))⟩,⟨_,j0,rsMap (fun _=>j0)⟩,⟨_,j0,rsMap (fun _=>j0)⟩,j5⟩,j0,j1⟩<|r_nil ?_
      obtain rfl:=sm h
      exact ⟨_,j0,[.old 0,.dead,.dead,.old 1,.old 2],rsTup j5,j0,⟨⟨_,j0,rsOne (cc12 j0 (by exact ⟨.msl j0,.msl j0,ci j0,j5⟩))⟩,⟨_,j0,rsMap (fun _=>j0)⟩,⟨_,j0,rsMap (fun _=>j0)⟩,j5⟩,j0,j1⟩
     ·
      replace h:=bF hc10 h
      refine rg j0<|u<|mv j0<|u<|pc (verify_between_ok v8.Op 27 32 j0) j0 j0 j0<|u<|asg j0<|r_nil ?_
      refine sw_cond j0 (fun hc12=>?_) (fun hc12=>?_)
      ·
       replace h:=bT hc12 h
       obtain ⟨v15,q13,h⟩:=bs h
       refine rl j0<|u<|mv j0<|u<|bl 4 ti25 j0 ti9 j0 (by decide) (by decide) j0 j0 j0<|r_can (env0:=[(44,.mpt 0 0 0),(45,.isl 1 (List.map rStr ([[73],[73]])))]) (st0:=[some (15,[(vK v1 v2 v3 v4 (.msl 1 0 (List.length v5)) (.msl 2 0 (List.length v6)) (bA v7))]),some (1,List.map rStr v5),some (1,List.map rStr v6)]) ⟨[.old 0,.old 1,.old 2],cv j0 (.mpt j0)<|cv j0 (rsSealX j0 j0 ⟨⟨⟨ci j0,j5⟩,j0⟩,⟨⟨ci j0,j5⟩,j0⟩,j5⟩)<|cn,j0,⟨⟨_,j0,rsOne (cc12 j0 (by exact ⟨.msl j0,.msl j0,ci j0,j5⟩))⟩,⟨_,j0,rsMap (fun _=>j0)⟩,⟨_,j0,rsMap (fun _=>j0)⟩,j5⟩,j0,j1⟩<|u<|sc [0,1,2] (verify_checker_take_ok v1 v2 v3 v4 v5 v6 v7 ([[73],[73]]) q13) j0 j0 j0 j0 ⟨(.mpt j0),(rnI j0),j5⟩ ⟨⟨_,j0,(rr12 j0 ⟨(.msl j0),(.msl j0),(rnI j0),j5⟩)⟩,⟨j0,mkI (fun _=>j0)⟩,⟨j0,mkI (fun _=>j0)⟩,j5⟩<|r_can (env0:=[]) (st0:=[some (15,[(vK v1 v2 v3 v4 (.msl 1 0 (List.length v5)) (.msl 2 0 (List.length v15.1)) (bA v15.2))]),some (1,List.map rStr v5),some (1,List.map rStr v15.1)]) ⟨[.old 0,.old 1,.old 2],cn,j0,⟨⟨_,j0,rsOne (cc12 j0 (by exact ⟨.msl j0,.msl j0,ci j0,j5⟩))⟩,⟨_,j0,rsMap (fun _=>j0)⟩,⟨_,j0,rsMap (fun _=>j0)⟩,j5⟩,j0,j1⟩<|r_nil ?_
       obtain rfl:=sm h
       exact ⟨_,j0,[.old 0,.dead,.dead,.old 1,.old 2],rsTup j5,j0,⟨⟨_,j0,rsOne (cc12 j0 (by exact ⟨.msl j0,.msl j0,ci j0,j5⟩))⟩,⟨_,j0,rsMap (fun _=>j0)⟩,⟨_,j0,rsMap (fun _=>j0)⟩,j5⟩,j0,j1⟩
      ·
       replace h:=bF hc12 h
       refine rg j0<|u<|mv j0<|u<|pc (verify_between_ok v8.Op 33 34 j0) j0 j0 j0<|u<|asg j0<|r_nil ?_
       refine sw_cond j0 (fun hc14=>?_) (fun hc14=>?_)
       ·
        replace h:=bT hc14 h
        obtain ⟨v16,q15,h⟩:=bs h
        refine rl j0<|u<|mv j0<|u<|sc [0,1,2] (verify_checker_ref_ok v1 v2 v3 v4 v5 v6 v7 q15) j0 j0 j0 j0 ⟨(.mpt j0),j5⟩ ⟨⟨_,j0,(rr12 j0 ⟨(.msl j0),(.msl j0),(rnI j0),j5⟩)⟩,⟨j0,mkI (fun _=>j0)⟩,⟨j0,mkI (fun _=>j0)⟩,j5⟩<|r_can (env0:=[]) (st0:=[some (15,[(vK v1 v2 v3 v4 (.msl 1 0 (List.length v5)) (.msl 2 0 (List.length v16.2.1)) (bA v16.2.2))]),some (1,List.map rStr v5),some (1,List.map rStr v16.2.1)]) ⟨[.old 0,.old 1,.old 2],cn,j0,⟨⟨_,j0,rsOne (cc12 j0 (by exact ⟨.msl j0,.msl j0,ci j0,j5⟩))⟩,⟨_,j0,rsMap (fun _=>j0)⟩,⟨_,j0,rsMap (fun _=>j0)⟩,j5⟩,j0,j1⟩<|r_nil ?_
        obtain rfl:=sm h
        exact ⟨_,j0,[.old 0,.dead,.dead,.old 1,.old 2],rsTup j5,j0,⟨⟨_,j0,rsOne (cc12 j0 (by exact ⟨.msl j0,.msl j0,ci j0,j5⟩))⟩,⟨_,j0,rsMap (fun _=>j0)⟩,⟨_,j0,rsMap (fun _=>j0)⟩,j5⟩,j0,j1⟩
       ·
        replace h:=bF hc14 h
        refine rg j0<|u<|mv j0<|u<|pc (verify_between_ok v8.Op 35 36 j0) j0 j0 j0<|u<|asg j0<|r_nil ?_
        refine sw_cond j0 (fun hc16=>?_) (fun hc16=>?_)
        ·
         replace h:=bT hc16 h
         obtain ⟨v17,q17,h⟩:=bs h
         refine rg j0<|u<|mv j0<|u<|sc [0,1,2] (verify_checker_ref_ok v1 v2 v3 v4 v5 v6 v7 q17) j0 j0 j0 j0 ⟨(.mpt j0),j5⟩ ⟨⟨_,j0,(rr12 j0 ⟨(.msl j0),(.msl j0),(rnI j0),j5⟩)⟩,⟨j0,mkI (fun _=>j0)⟩,⟨j0,mkI (fun _=>j0)⟩,j5⟩<|r_can (env0:=[(0,.mpt 0 0 0)]) (st0:=[some (15,[(vK v1 v2 v3 v4 (.msl 1 0 (List.length v5)) (.msl 2 0 (List.length v17.2.1)) (bA v17.2.2))]),some (1,List.map rStr v5),some (1,List.map rStr v17.2.1)]) ⟨[.old 0,.old 1,.old 2],cv j0 (.mpt j0)<|cn,j0,⟨⟨_,j0,rsOne (cc12 j0 (by exact ⟨.msl j0,.msl j0,ci j0,j5⟩))⟩,⟨_,j0,rsMap (fun _=>j0)⟩,⟨_,j0,rsMap (fun _=>j0)⟩,j5⟩,j0,j1⟩<|r_nil ?_
         obtain ⟨v18,q18,h⟩:=bs h
         refine rl j0<|u<|mv j0<|u<|sc [0,1,2] (verify_checker_ref_ok v1 v2 v3 v4 v5 v17.2.1 v17.2.2 q18) j0 j0 j0 j0 ⟨(.mpt j0),j5⟩ ⟨⟨_,j0,(rr12 j0 ⟨(.msl j0),(.msl j0),(rnI j0),j5⟩)⟩,⟨j0,mkI (fun _=>j0)⟩,⟨j0,mkI (fun _=>j0)⟩,j5⟩<|r_can (env0:=[]) (st0:=[some (15,[(vK v1 v2 v3 v4 (.msl 1 0 (List.length v5)) (.msl 2 0 (List.length v18.2.1)) (bA v18.2.2))]),some (1,List.map rStr v5),some (1,List.map rStr v18.2.1)]) ⟨[.old 0,.old 1,.old 2],cn,j0,⟨⟨_,j0,rsOne (cc12 j0 (by exact ⟨.msl j0,.msl j0,ci j0,j5⟩))⟩,⟨_,j0,rsMap (fun _=>j0)⟩,⟨_,j0,rsMap (fun _=>j0)⟩,j5⟩,j0,j1⟩<|r_nil ?_
         obtain rfl:=sm h
         exact ⟨_,j0,[.old 0,.dead,.dead,.old 1,.old 2],rsTup j5,j0,⟨⟨_,j0,rsOne (cc12 j0 (by exact ⟨.msl j0,.msl j0,ci j0,j5⟩))⟩,⟨_,j0,rsMap (fun _=>j0)⟩,⟨_,j0,rsMap (fun _=>j0)⟩,j5⟩,j0,j1⟩
        ·
         replace h:=bF hc16 h
         refine rg j0<|u<|mv j0<|u<|eql ti3 j0 j0<|u<|mv j0<|r_or (j:=2) 2 j0 j0 j0 j0 j0 gpn (fun hb19=>g j0 hb19<|mv j0<|g j0 hb19<|pc (verify_between_ok v8.Op 38 41 j0) j0 j0 j0<|r_nil (egO [63,64] 2 hb19 j0 j0 j0 j0)) orT<|u<|asg j0<|r_nil ?_
         refine sw_cond j0 (fun hc20=>?_) (fun hc20=>?_)
         ·
          replace h:=bT hc20 h
          obtain ⟨v19,q21,h⟩:=bs h
          refine rl j0<|u<|mv j0<|u<|ld ti69 j0 j0<|u<|sc [0,1,2] (verify_checker_field_ok v1 v2 v3 v4 v5 v6 v7 v8 q21) j0 j0 j0 j0 ⟨(.mpt j0),(rnI j0),j5⟩ ⟨⟨_,j0,(rr12 j0 ⟨(.msl j0),(.msl j0),(rnI j0),j5⟩)⟩,⟨j0,mkI (fun _=>j0)⟩,⟨j0,mkI (fun _=>j0)⟩,j5⟩<|r_can (env0:=[]) (st0:=[some (15,[(vK v1 v2 v3 v4 (.msl 1 0 (List.length v5)) (.msl 3 0 (List.length v19.1)) (bA v19.2))]),some (1,List.map rStr v5),none,some (1,List.map rStr v19.1)]) ⟨[.old 0,.old 1,.dead,.old 4],cn,j0,⟨⟨_,j0,rsOne (cc12 j0 (by exact ⟨.msl j0,.msl j0,ci j0,j5⟩))⟩,⟨_,j0,rsMap (fun _=>j0)⟩,⟨_,j0,rsMap (fun _=>j0)⟩,j5⟩,j0,j1⟩<|r_nil ?_
          obtain rfl:=sm h
          exact ⟨_,j0,[.old 0,.dead,.dead,.old 1,.old 3],rsTup j5,j0,⟨⟨_,j0,rsOne (cc12 j0 (by exact ⟨.msl j0,.msl j0,ci j0,j5⟩))⟩,⟨_,j0,rsMap (fun _=>j0)⟩,⟨_,j0,rsMap (fun _=>j0)⟩,j5⟩,j0,j1⟩
         ·
          replace h:=bF hc20 h
          refine rg j0<|u<|mv j0<|u<|pc (verify_between_ok v8.Op 42 45 j0) j0 j0 j0<|u<|asg j0<|r_nil ?_
          refine sw_cond j0 (fun hc22=>?_) (fun hc22=>?_)
          ·
           replace h:=bT hc22 h
           obtain ⟨v20,q23,h⟩:=bs h
           refine rl j0<|u<|mv j0<|u<|ld ti69 j0 j0<|u<|sc [0,1,2] (verify_checker_call_ok v1 v2 v3 v4 v5 v6 v7 v8 q23) j0 j0 j0 j0 ⟨(.mpt j0),(rnI j0),j5⟩ ⟨⟨_,j0,(rr12 j0 ⟨(.msl j0),(.msl j0),(rnI j0),j5⟩)⟩,⟨j0,mkI (fun _=>j0)⟩,⟨j0,mkI (fun _=>j0)⟩,j5⟩<|r_can (env0:=[]) (st0:=[some (15,[(vK v1 v2 v3 v4 (.msl 1 0 (List.length v5)) (.msl 3 0 (List.length v20.1)) (bA v20.2))]),some (1,List.map rStr v5),none,some (1,List.map rStr v20.1)]) ⟨[.old 0,.old 1,.dead,.old 4],cn,j0,⟨⟨_,j0,rsOne (cc12 j0 (by exact ⟨.msl j0,.msl j0,ci j0,j5⟩))⟩,⟨_,j0,rsMap (fun _=>j0)⟩,⟨_,j0,rsMap (fun _=>j0)⟩,j5⟩,j0,j1⟩<|r_nil ?_
           obtain rfl:=sm h
           exact ⟨_,j0,[.old 0,.dead,.dead,.old 1,.old 3],rsTup j5,j0,⟨⟨_,j0,rsOne (cc12 j0 (by exact ⟨.msl j0,.msl j0,ci j0,j5⟩))⟩,⟨_,j0,rsMap (fun _=>j0)⟩,⟨_,j0,rsMap (fun _=>j0)⟩,j5⟩,j0,j1⟩
          ·
           replace h:=bF hc22 h
           refine rg j0<|u<|mv j0<|u<|pc (verify_between_ok v8.Op 46 48 j0) j0 j0 j0<|u<|asg j0<|r_nil ?_
           refine sw_cond j0 (fun hc24=>?_) (fun hc24=>?_)
           ·
            replace h:=bT hc24 h
            obtain ⟨v21,q25,h⟩:=bs h
            refine rl j0<|u<|mv j0<|u<|mv j0<|u<|sc [0,1,2] (verify_checker_ret_ok v1 v2 v3 v4 v5 v6 v7 v8.Op q25) j0 j0 j0 j0 ⟨(.mpt j0),(rnI j0),j5⟩ ⟨⟨_,j0,(rr12 j0 ⟨(.msl j0),(.msl j0),(rnI j0),j5⟩)⟩,⟨j0,mkI (fun _=>j0)⟩,⟨j0,mkI (fun _=>j0)⟩,j5⟩<|r_can (env0:=[]) (st0:=[some (15,[(vK v1 v2 v3 v4 (.msl 1 0 (List.length v5)) (.msl 2 0 (List.length v21.1)) (bA v21.2))]),some (1,List.map rStr v5),some (1,List.map rStr v21.1)]) ⟨[.old 0,.old 1,.old 2],cn,j0,⟨⟨_,j0,rsOne (cc12 j0 (by exact ⟨.msl j0,.msl j0,ci j0,j5⟩))⟩,⟨_,j0,rsMap (fun _=>j0)⟩,⟨_,j0,rsMap (fun _=>j0)⟩,j5⟩,j0,j1⟩<|r_nil ?_
            obtain rfl:=sm h
            exact ⟨_,j0,[.old 0,.dead,.dead,.old 1,.old 2],rsTup j5,j0,⟨⟨_,j0,rsOne (cc12 j0 (by exact ⟨.msl j0,.msl j0,ci j0,j5⟩))⟩,⟨_,j0,rsMap (fun _=>j0)⟩,⟨_,j0,rsMap (fun _=>j0)⟩,j5⟩,j0,j1⟩
           ·
            replace h:=bF hc24 h
            refine rg j0<|u<|mv j0<|u<|pc (verify_between_ok v8.Op 49 55 j0) j0 j0 j0<|u<|asg j0<|r_nil ?_
            refine sw_cond j0 (fun hc26=>?_) (fun hc26=>?_)
            ·
             replace h:=bT hc26 h
             obtain ⟨v22,q27,h⟩:=bs h
             refine rl j0<|u<|mv j0<|u<|ld ti69 j0 j0<|u<|sc [0,1,2] (verify_checker_arrays_ok v1 v2 v3 v4 v5 v6 v7 v8 q27) j0 j0 j0 j0 ⟨(.mpt j0),(rnI j0),j5⟩ ⟨⟨_,j0,(rr12 j0 ⟨(.msl j0),(.msl j0),(rnI j0),j5⟩)⟩,⟨j0,mkI (fun _=>j0)⟩,⟨j0,mkI (fun _=>j0)⟩,j5⟩<|r_can (env0:=[]) (st0:=[some (15,[(vK v1 v2 v3 v4 (.msl 1 0 (List.length v5)) (.msl 3 0 (List.length v22.1)) (bA v22.2))]),some (1,List.map rStr v5),none,some (1,List.map rStr v22.1)]) ⟨[.old 0,.old 1,.dead,.old 4],cn,j0,⟨⟨_,j0,rsOne (cc12 j0 (by exact ⟨.msl j0,.msl j0,ci j0,j5⟩))⟩,⟨_,j0,rsMap (fun _=>j0)⟩,⟨_,j0,rsMap (fun _=>j0)⟩,j5⟩,j0,j1⟩<|r_nil ?_
             obtain rfl:=sm h
             exact ⟨_,j0,[.old 0,.dead,.dead,.old 1,.old 3],rsTup j5,j0,⟨⟨_,j0,rsOne (cc12 j0 (by exact ⟨.msl j0,.msl j0,ci j0,j5⟩))⟩,⟨_,j0,rsMap (fun _=>j0)⟩,⟨_,j0,rsMap (fun _=>j0)⟩,j5⟩,j0,j1⟩
            ·
             replace h:=bF hc26 h
             obtain ⟨v23,q28,h⟩:=bs h
             refine rl j0<|u<|mv j0<|u<|ld ti69 j0 j0<|u<|sc [0,1,2] (verify_checker_rest_ok v1 v2 v3 v4 v5 v6 v7 v8 q28) j0 j0 j0 j0 ⟨(.mpt j0),(rnI j0),j5⟩ ⟨⟨_,j0,(rr12 j0 ⟨(.msl j0),(.msl j0),(rnI j0),j5⟩)⟩,⟨j0,mkI (fun _=>j0)⟩,⟨j0,mkI (fun _=>j0)⟩,j5⟩<|r_can (env0:=[]) (st0:=[some (15,[(vK v1 v2 v3 v4 (.msl 1 0 (List.length v5)) (.msl 3 0 (List.length v23.1)) (bA v23.2))]),some (1,List.map rStr v5),none,some (1,List.map rStr v23.1)]) ⟨[.old 0,.old 1,.dead,.old 4],cn,j0,⟨⟨_,j0,rsOne (cc12 j0 (by exact ⟨.msl j0,.msl j0,ci j0,j5⟩))⟩,⟨_,j0,rsMap (fun _=>j0)⟩,⟨_,j0,rsMap (fun _=>j0)⟩,j5⟩,j0,j1⟩<|r_nil ?_
             obtain rfl:=sm h
             exact ⟨_,j0,[.old 0,.dead,.dead,.old 1,.old 3],rsTup j5,j0,⟨⟨_,j0,rsOne (cc12 j0 (by exact ⟨.msl j0,.msl j0,ci j0,j5⟩))⟩,⟨_,j0,rsMap (fun _=>j0)⟩,⟨_,j0,rsMap (fun _=>j0)⟩,j5⟩,j0,j1⟩
end
end Go.Proofs.YtjbdfkapnffjnaaGreat
