/- HierAll: for every input the law returns true, and each argument reads as it read before. No further condition. Part 4 of 8. -/
import Derived.Test.YtooagifeniibcaaGreatYb3
namespace Go.Proofs.YtooagifeniibcaaGreat
noncomputable section
set_option linter.unusedSimpArgs false
set_option linter.unusedVariables false
set_option maxRecDepth 100000
set_option maxHeartbeats 4000000
def ref3_Field_k2 : Option (Int) :=
  some (-1)
def ref3_Field_l1 (v1 : ApiClass) (v2 : List UInt8) (v5 : Int) : Option (Sum (Int) (Sum (Unit) (Int))) :=
  cond (decide (v5 < (List.length v1.Fields : Int))) ((idx v1.Fields v5).bind fun v6=>cond (v6.Name == v2) (some (.inr (.inr v5))) (some (.inl (IntKind.i64.wrap (v5 + 1))))) (some (.inr (.inl ())))
def ref3_Field (v1 : ApiClass) (v2 : List UInt8) : Option (Int) :=
  (loopP (fun z=>ref3_Field_l1 v1 v2 z) 0).bind fun o=>leave o (fun b=>ref3_Field_k2) some
theorem ref3_Field_ok (v1 : ApiClass) (v2 : List UInt8) {r : Int} (h : ref3_Field v1 v2 = some r) : PureC Tryz.prog 109 [.agg [sA v1.Name,sA v1.Super,bA v1.Interface,.isl 1 (List.map rStr v1.Impl),.isl 3 (List.map rApiField v1.Fields),.isl 10 (List.map rApiMethod v1.Methods)],sA v2] (iA r):=by
 refine pure_fn Tryz.func109 j0 (by kernel_rfl) j0 j0 ?_
 unfold ref3_Field at h
 refine rg j0<|u<|bx 0 6 j0 j0 j0 j0<|u<|asg j0<|r_nil ?_
 refine sw_seq ?_
 refine rg j0<|u<|asg j0<|r_nil ?_
 obtain ⟨o,ho,h⟩:=bs h
 refine sw_lpl (X:=Int) (B:=Unit) (R:=Int) (fun z=>[(1,sA v2),(2,.mpt 0 0 0),(5,iA z)]) (fun z=>[some (6,[[sA v1.Name,sA v1.Super,bA v1.Interface,.isl 1 (List.map rStr v1.Impl),.isl 3 (List.map rApiField v1.Fields),.isl 10 (List.map rApiMethod v1.Methods)]])]) (fun b=>[]) (fun b=>[]) (fun r env st=>PostF Tryz.prog Tryz.f109 0 (iA r) [] env st) ho ⟨[.old 0],ce j0 j0<|cv j0 (.mpt j0)<|ce j0 j0<|cn,j0,⟨⟨_,j0,rsOne ⟨ci j0,ci j0,ci j0,ci j0,ci j0,ci j0,j5⟩⟩,j5⟩,j0,j1⟩ ?_ ?_ ?_
 ·
  rintro v5 r h
  replace h : ref3_Field_l1 v1 v2 v5 = some r:=h
  unfold ref3_Field_l1 at h
  refine sw_seq ?_
  refine rg j0<|u<|mv j0<|u<|fa ti42 j0 j0 j0<|u<|ld ti39 j0 j0<|u<|lnI ti39 j0 j0<|u<|lss ti3 j0 j0<|r_nil ?_
  refine sw_cond j0 (fun hc4=>?_) (fun hc4=>?_)
  ·
   replace h:=bT hc4 h
   refine sw_skip ?_
   refine sw_seq ?_
   refine sw_block ?_
   obtain ⟨v6,q5,h⟩:=bs h
   refine rg j0<|u<|fa ti42 j0 j0 j0<|u<|ld ti39 j0 j0<|u<|mv j0<|u<|ixI ti39 j0 ti57 j0 j0 j0 q5<|u<|fa ti57 j0 j0 j0<|u<|ldI ti9 j0 (idx_some q5).2.2 j0<|u<|mv j0<|u<|seq ti9 j0 j0<|r_nil ?_
   refine sw_cond j0 (fun hc6=>?_) (fun hc6=>?_)
   ·
    replace h:=bT hc6 h
    refine rg j0<|u<|mv j0<|u<|asg j0<|r_nil ?_
    refine sw_ret ?_
    obtain rfl:=sm h
    exact ⟨_,j0,_,j0,[],ci j0,j0,j5,j0,j1⟩
   ·
    replace h:=bF hc6 h
    refine sw_skip ?_
    refine rl j0<|u<|mv j0<|u<|add ti3 j0 j0<|u<|asg j0<|r_nil ?_
    obtain rfl:=sm h
    exact ⟨_,j0,[.old 0],ce j0 j0<|cv j0 (.mpt j0)<|ce j0 j0<|cn,j0,⟨⟨_,j0,rsOne ⟨ci j0,ci j0,ci j0,ci j0,ci j0,ci j0,j5⟩⟩,j5⟩,j0,j1⟩
  ·
   replace h:=bF hc4 h
   refine sw_exit ?_
   obtain rfl:=sm h
   exact ⟨j0,_,j0,[],cn,j0,j5,j0,j1⟩
 ·
  rintro ⟨⟩ rfl
  replace h : ref3_Field_k2 = some r:=h
  unfold ref3_Field_k2 at h
  refine ow_intro ?_
  refine rg j0<|u<|asg j0<|r_nil ?_
  refine sw_ret ?_
  obtain rfl:=sm h
  exact ⟨_,j0,[],ci j0,j0,j5,j0,j1⟩
 ·
  rintro r' rfl env st hp
  obtain rfl:=sm h
  exact hp
def ref3_Method_k2 : Option (Int) :=
  some (-1)
def ref3_Method_l1 (v1 : ApiClass) (v2 : List UInt8) (v5 : Int) : Option (Sum (Int) (Sum (Unit) (Int))) :=
  cond (decide (v5 < (List.length v1.Methods : Int))) ((idx v1.Methods v5).bind fun v6=>cond (v6.Name == v2) (some (.inr (.inr v5))) (some (.inl (IntKind.i64.wrap (v5 + 1))))) (some (.inr (.inl ())))
def ref3_Method (v1 : ApiClass) (v2 : List UInt8) : Option (Int) :=
  (loopP (fun z=>ref3_Method_l1 v1 v2 z) 0).bind fun o=>leave o (fun b=>ref3_Method_k2) some
theorem ref3_Method_ok (v1 : ApiClass) (v2 : List UInt8) {r : Int} (h : ref3_Method v1 v2 = some r) : PureC Tryz.prog 110 [.agg [sA v1.Name,sA v1.Super,bA v1.Interface,.isl 1 (List.map rStr v1.Impl),.isl 3 (List.map rApiField v1.Fields),.isl 10 (List.map rApiMethod v1.Methods)],sA v2] (iA r):=by
 refine pure_fn Tryz.func110 j0 (by kernel_rfl) j0 j0 ?_
 unfold ref3_Method at h
 refine rg j0<|u<|bx 0 6 j0 j0 j0 j0<|u<|asg j0<|r_nil ?_
 refine sw_seq ?_
 refine rg j0<|u<|asg j0<|r_nil ?_
 obtain ⟨o,ho,h⟩:=bs h
 refine sw_lpl (X:=Int) (B:=Unit) (R:=Int) (fun z=>[(1,sA v2),(2,.mpt 0 0 0),(5,iA z)]) (fun z=>[some (6,[[sA v1.Name,sA v1.Super,bA v1.Interface,.isl 1 (List.map rStr v1.Impl),.isl 3 (List.map rApiField v1.Fields),.isl 10 (List.map rApiMethod v1.Methods)]])]) (fun b=>[]) (fun b=>[]) (fun r env st=>PostF Tryz.prog Tryz.f110 0 (iA r) [] env st) ho ⟨[.old 0],ce j0 j0<|cv j0 (.mpt j0)<|ce j0 j0<|cn,j0,⟨⟨_,j0,rsOne ⟨ci j0,ci j0,ci j0,ci j0,ci j0,ci j0,j5⟩⟩,j5⟩,j0,j1⟩ ?_ ?_ ?_
 ·
  rintro v5 r h
  replace h : ref3_Method_l1 v1 v2 v5 = some r:=h
  unfold ref3_Method_l1 at h
  refine sw_seq ?_
  refine rg j0<|u<|mv j0<|u<|fa ti42 j0 j0 j0<|u<|ld ti40 j0 j0<|u<|lnI ti40 j0 j0<|u<|lss ti3 j0 j0<|r_nil ?_
  refine sw_cond j0 (fun hc4=>?_) (fun hc4=>?_)
  ·
   replace h:=bT hc4 h
   refine sw_skip ?_
   refine sw_seq ?_
   refine sw_block ?_
   obtain ⟨v6,q5,h⟩:=bs h
   refine rg j0<|u<|fa ti42 j0 j0 j0<|u<|ld ti40 j0 j0<|u<|mv j0<|u<|ixI ti40 j0 ti62 j0 j0 j0 q5<|u<|fa ti62 j0 j0 j0<|u<|ldI ti9 j0 (idx_some q5).2.2 j0<|u<|mv j0<|u<|seq ti9 j0 j0<|r_nil ?_
   refine sw_cond j0 (fun hc6=>?_) (fun hc6=>?_)
   ·
    replace h:=bT hc6 h
    refine rg j0<|u<|mv j0<|u<|asg j0<|r_nil ?_
    refine sw_ret ?_
    obtain rfl:=sm h
    exact ⟨_,j0,_,j0,[],ci j0,j0,j5,j0,j1⟩
   ·
    replace h:=bF hc6 h
    refine sw_skip ?_
    refine rl j0<|u<|mv j0<|u<|add ti3 j0 j0<|u<|asg j0<|r_nil ?_
    obtain rfl:=sm h
    exact ⟨_,j0,[.old 0],ce j0 j0<|cv j0 (.mpt j0)<|ce j0 j0<|cn,j0,⟨⟨_,j0,rsOne ⟨ci j0,ci j0,ci j0,ci j0,ci j0,ci j0,j5⟩⟩,j5⟩,j0,j1⟩
  ·
   replace h:=bF hc4 h
   refine sw_exit ?_
   obtain rfl:=sm h
   exact ⟨j0,_,j0,[],cn,j0,j5,j0,j1⟩
 ·
  rintro ⟨⟩ rfl
  replace h : ref3_Method_k2 = some r:=h
  unfold ref3_Method_k2 at h
  refine ow_intro ?_
  refine rg j0<|u<|asg j0<|r_nil ?_
  refine sw_ret ?_
  obtain rfl:=sm h
  exact ⟨_,j0,[],ci j0,j0,j5,j0,j1⟩
 ·
  rintro r' rfl env st hp
  obtain rfl:=sm h
  exact hp
def ref3_Ret (v1 : List UInt8) : Option (Bool) :=
  (cond (v1 == [86]) (some true) ((ref3_May v1).bind fun v2=>some v2)).bind fun v3=>some v3
theorem ref3_Ret_ok (v1 : List UInt8) {r : Bool} (h : ref3_Ret v1 = some r) : PureC Tryz.prog 142 [sA v1] (bA r):=by
 refine pure_fn Tryz.func142 j0 (by kernel_rfl) j0 j0 ?_
 unfold ref3_Ret at h
 refine rg j0<|u<|asg j0<|r_nil ?_
 obtain ⟨v3,q3,h⟩:=bs h
 refine rg j0<|u<|mv j0<|u<|seq ti9 j0 j0<|u<|mv j0<|r_or (x:=v3) (j:=2) 2 j0 j0 j0 j0 j0 gpn (fun hb1=>by replace q3:=bF hb1 q3; obtain ⟨v2,q2,q3⟩:=bs q3; obtain rfl:=sm q3; exact g j0 hb1<|mv j0<|g j0 hb1<|pc (ref3_May_ok v1 q2) j0 j0 j0<|r_nil (eg [6,7] 2 j0 j0 j0 j0)) (fun hb=>(sm (bT hb q3)).symm)<|u<|asg j0<|r_nil ?_
 refine sw_ret ?_
 obtain rfl:=sm h
 exact ⟨_,j0,[],ci j0,j0,j5,j0,j1⟩
def ref3_body_k4 : Option (Bool) :=
  some true
def ref3_body_l3 (v1 : ApiMethod) (v15 : Int) : Option (Sum (Int) (Sum (Unit) (Bool))) :=
  cond (decide (v15 < (List.length v1.Traps : Int))) ((idx v1.Traps v15).bind fun v16=>(cond (((((decide (v16.From < 0)) || (decide (v16.To ≤ v16.From))) || (decide ((List.length v1.Code : Int) < v16.To))) || (decide (v16.At < 0))) || (decide ((List.length v1.Code : Int) ≤ v16.At))) (some true) ((cond (!(v16.C == [])) ((ref3_Class v16.C).bind fun v17=>some (!v17)) (some false)).bind fun v18=>some v18)).bind fun v19=>cond v19 (some (.inr (.inr false))) (some (.inl (IntKind.i64.wrap (v15 + 1))))) (some (.inr (.inl ())))
def ref3_body_k2 (v1 : ApiMethod) : Option (Bool) :=
  (loopP (fun z=>ref3_body_l3 v1 z) 0).bind fun o=>leave o (fun b=>ref3_body_k4) some
def ref3_body_l1 (v1 : ApiMethod) (v7 : Int) : Option (Sum (Int) (Sum (Unit) (Bool))) :=
  cond (decide (v7 < (List.length v1.Code : Int))) ((idx v1.Code v7).bind fun v8=>(ref3_MayIns v8).bind fun v9=>cond ((!v9) || ((ref3_Jumps v8.Op) && (decide ((List.length v1.Code : Int) ≤ v8.A)))) (some (.inr (.inr false))) (some (.inl (IntKind.i64.wrap (v7 + 1))))) (some (.inr (.inl ())))
def ref3_body (v1 : ApiMethod) : Option (Bool) :=
  (cond ((decide ((List.length v1.Code : Int) < 1)) || (decide (100 < (List.length v1.Code : Int)))) (some true) ((idx v1.Code (IntKind.i64.wrap ((List.length v1.Code : Int) - 1))).bind fun v2=>some (!(ref3_Ends v2.Op)))).bind fun v3=>cond (v3 || (decide (6 < (List.length v1.Traps : Int)))) (some false) ((loopP (fun z=>ref3_body_l1 v1 z) 0).bind fun o=>leave o (fun b=>ref3_body_k2 v1) some)
theorem ref3_body_ok (v1 : ApiMethod) {r : Bool} (h : ref3_body v1 = some r) : PureC Tryz.prog 143 [.agg [sA v1.Name,.isl 1 (List.map rStr v1.Params),sA v1.Ret,bA v1.Static,bA v1.Abstract,iA v1.Locals,iA v1.Stack,.isl 4 (List.map rApiIns v1.Code),.isl 3 (List.map rApiMap v1.Maps),.isl 4 (List.map rApiTrap v1.Traps)]] (bA r):=by
 refine pure_fn Tryz.func143 j0 (by kernel_rfl) j0 j0 ?_
 unfold ref3_body at h
 refine rg j0<|u<|bx 0 10 j0 j0 j0 j0<|u<|asg j0<|r_nil ?_
 refine rg j0<|u<|fa ti62 j0 j0 j0<|u<|ld ti58 j0 j0<|u<|lnI ti58 j0 j0<|u<|asg j0<|r_nil ?_
 refine sw_seq ?_
 obtain ⟨v3,q4,h⟩:=bs h
 refine rg j0<|u<|mv j0<|u<|lss ti3 j0 j0<|u<|mv j0<|r_or (j:=2) 2 j0 j0 j0 j0 j0 gpn (fun hb1=>g j0 hb1<|mv j0<|g j0 hb1<|gtr ti3 j0 j0<|r_nil (egO [14,15] 2 hb1 j0 j0 j0 j0)) orT<|u<|mv j0<|r_or (x:=v3) (j:=6) 9 j0 j0 j0 j0 j0 gpn (fun hb2=>by replace q4:=bF hb2 q4; obtain ⟨v2,q3,q4⟩:=bs q4; obtain rfl:=sm q4; exact g j0 hb2<|fa ti62 j0 j0 j0<|g j0 hb2<|ld ti58 j0 j0<|g j0 hb2<|mv j0<|g j0 hb2<|sub ti3 j0 j0<|g j0 hb2<|ixI ti58 j0 ti66 j0 j0 j0 q3<|g j0 hb2<|fa ti66 j0 j0 j0<|g j0 hb2<|ldI ti3 j0 (idx_some q3).2.2 j0<|g j0 hb2<|pc (ref3_Ends_ok v2.Op j0) j0 j0 j0<|g j0 hb2<|nt j0<|r_nil (eg [18,19,20,21,22,23,24,25,26] 9 j0 j0 j0 j0)) (fun hb=>(sm (bT hb q4)).symm)<|u<|mv j0<|r_or (j:=17) 4 j0 j0 j0 j0 j0 gpn (fun hb5=>g j0 hb5<|fa ti62 j0 j0 j0<|g j0 hb5<|ld ti60 j0 j0<|g j0 hb5<|lnI ti60 j0 j0<|g j0 hb5<|gtr ti3 j0 j0<|r_nil (egO [29,30,31,32] 4 hb5 j0 j0 j0 j0)) orT<|r_nil ?_
 refine sw_cond j0 (fun hc6=>?_) (fun hc6=>?_)
 ·
  replace h:=bT hc6 h
  refine rg j0<|u<|asg j0<|r_nil ?_
  refine sw_ret ?_
  obtain rfl:=sm h
  exact ⟨_,j0,[],ci j0,j0,j5,j0,j1⟩
 ·
  replace h:=bF hc6 h
  refine sw_skip ?_
  refine sw_seq ?_
  refine rg j0<|u<|asg j0<|r_nil ?_
  obtain ⟨o,ho,h⟩:=bs h
  refine sw_lpl (X:=Int) (B:=Unit) (R:=Bool) (fun z=>[(1,.mpt 0 0 0),(3,iA (List.length v1.Code : Int)),(4,iA z)]) (fun z=>[some (10,[[sA v1.Name,.isl 1 (List.map rStr v1.Params),sA v1.Ret,bA v1.Static,bA v1.Abstract,iA v1.Locals,iA v1.Stack,.isl 4 (List.map rApiIns v1.Code),.isl 3 (List.map rApiMap v1.Maps),.isl 4 (List.map rApiTrap v1.Traps)]])]) (fun b=>[(1,.mpt 0 0 0),(3,iA (List.length v1.Code : Int))]) (fun b=>[some (10,[[sA v1.Name,.isl 1 (List.map rStr v1.Params),sA v1.Ret,bA v1.Static,bA v1.Abstract,iA v1.Locals,iA v1.Stack,.isl 4 (List.map rApiIns v1.Code),.isl 3 (List.map rApiMap v1.Maps),.isl 4 (List.map rApiTrap v1.Traps)]])]) (fun r env st=>PostF Tryz.prog Tryz.f143 0 (bA r) [] env st) ho ⟨[.old 0],cv j0 (.mpt j0)<|ce j0 j0<|ce j0 j0<|cn,j0,⟨⟨_,j0,rsOne ⟨ci j0,ci j0,ci j0,ci j0,ci j0,ci j0,ci j0,ci j0,ci j0,ci j0,j5⟩⟩,j5⟩,j0,j1⟩ ?_ ?_ ?_
  ·
   rintro v7 r h
   replace h : ref3_body_l1 v1 v7 = some r:=h
   unfold ref3_body_l1 at h
   refine sw_seq ?_
   refine rg j0<|u<|mv j0<|u<|mv j0<|u<|lss ti3 j0 j0<|r_nil ?_
   refine sw_cond j0 (fun hc13=>?_) (fun hc13=>?_)
   ·
    replace h:=bT hc13 h
    refine sw_skip ?_
    refine sw_seq ?_
    refine sw_block ?_
    obtain ⟨v8,q14,h⟩:=bs h
    refine rg j0<|u<|fa ti62 j0 j0 j0<|u<|ld ti58 j0 j0<|u<|mv j0<|u<|ixI ti58 j0 ti66 j0 j0 j0 q14<|u<|ldI ti66 j0 (idx_some q14).2.2 j0<|u<|al 1 ti66 j0<|u<|sto ti66 j0 j0 j0<|r_nil ?_
    obtain ⟨v9,q15,h⟩:=bs h
    refine rg j0<|u<|ld ti66 j0 j0<|u<|pc (ref3_MayIns_ok v8 q15) j0 j0 j0<|u<|nt j0<|u<|mv j0<|r_or (j:=3) 9 j0 j0 j0 j0 j0 gpn (fun hb16=>g j0 hb16<|fa ti66 j0 j0 j0<|g j0 hb16<|ld ti3 j0 j0<|g j0 hb16<|pc (ref3_Jumps_ok v8.Op j0) j0 j0 j0<|g j0 hb16<|mv j0<|r_and (j:=7) 4 j0 j0 j0 j0 j0 (gps j0 j0 hb16) (fun hb17=>g j0 hb17<|fa ti66 j0 j0 j0<|g j0 hb17<|ld ti3 j0 j0<|g j0 hb17<|mv j0<|g j0 hb17<|geq ti3 j0 j0<|r_nil (egA [52,53,54,55] 4 hb17 j0 j0 j0 j0)) andF<|r_nil (egO [48,49,50,51,52,53,54,55,56] 5 hb16 j0 j0 j0 j0)) orT<|r_nil ?_
    refine sw_cond j0 (fun hc18=>?_) (fun hc18=>?_)
    ·
     replace h:=bT hc18 h
     refine rg j0<|u<|asg j0<|r_nil ?_
     refine sw_ret ?_
     obtain rfl:=sm h
     exact ⟨_,j0,_,j0,[],ci j0,j0,j5,j0,j1⟩
    ·
     replace h:=bF hc18 h
     refine sw_skip ?_
     refine rl j0<|u<|mv j0<|u<|add ti3 j0 j0<|u<|asg j0<|r_nil ?_
     obtain rfl:=sm h
     exact ⟨_,j0,[.old 0],cv j0 (.mpt j0)<|ce j0 j0<|ce j0 j0<|cn,j0,⟨⟨_,j0,rsOne ⟨ci j0,ci j0,ci j0,ci j0,ci j0,ci j0,ci j0,ci j0,ci j0,ci j0,j5⟩⟩,j5⟩,j0,j1⟩
   ·
    replace h:=bF hc13 h
    refine sw_exit ?_
    obtain rfl:=sm h
    exact ⟨j0,_,j0,[.old 0],cv j0 (.mpt j0)<|ce j0 j0<|cn,j0,⟨⟨_,j0,rsOne ⟨ci j0,ci j0,ci j0,ci j0,ci j0,ci j0,ci j0,ci j0,ci j0,ci j0,j5⟩⟩,j5⟩,j0,j1⟩
  ·
   rintro ⟨⟩ rfl
   replace h : ref3_body_k2 v1 = some r:=h
   unfold ref3_body_k2 at h
   refine ow_intro ?_
   refine sw_seq ?_
   refine rg j0<|u<|asg j0<|r_nil ?_
   obtain ⟨o,ho,h⟩:=bs h
   refine sw_lpl (X:=Int) (B:=Unit) (R:=Bool) (fun z=>[(1,.mpt 0 0 0),(3,iA (List.length v1.Code : Int)),(6,iA z)]) (fun z=>[some (10,[[sA v1.Name,.isl 1 (List.map rStr v1.Params),sA v1.Ret,bA v1.Static,bA v1.Abstract,iA v1.Locals,iA v1.Stack,.isl 4 (List.map rApiIns v1.Code),.isl 3 (List.map rApiMap v1.Maps),.isl 4 (List.map rApiTrap v1.Traps)]])]) (fun b=>[]) (fun b=>[]) (fun r env st=>PostF Tryz.prog Tryz.f143 0 (bA r) [] env st) ho ⟨[.old 0],cv j0 (.mpt j0)<|ce j0 j0<|ce j0 j0<|cn,j0,⟨⟨_,j0,rsOne ⟨ci j0,ci j0,ci j0,ci j0,ci j0,ci j0,ci j0,ci j0,ci j0,ci j0,j5⟩⟩,j5⟩,j0,j1⟩ ?_ ?_ ?_
   ·
    rintro v15 r h
    replace h : ref3_body_l3 v1 v15 = some r:=h
    unfold ref3_body_l3 at h
    refine sw_seq ?_
    refine rg j0<|u<|mv j0<|u<|fa ti62 j0 j0 j0<|u<|ld ti60 j0 j0<|u<|lnI ti60 j0 j0<|u<|lss ti3 j0 j0<|r_nil ?_
    refine sw_cond j0 (fun hc31=>?_) (fun hc31=>?_)
    ·
     replace h:=bT hc31 h
     refine sw_skip ?_
     refine sw_seq ?_
     refine sw_block ?_
     obtain ⟨v16,q32,h⟩:=bs h
     refine rg j0<|u<|fa ti62 j0 j0 j0<|u<|ld ti60 j0 j0<|u<|mv j0<|u<|ixI ti60 j0 ti127 j0 j0 j0 q32<|u<|ldI ti127 j0 (idx_some q32).2.2 j0<|u<|al 1 ti127 j0<|u<|sto ti127 j0 j0 j0<|r_nil ?_
     obtain ⟨v19,q41,h⟩:=bs h
     refine rg j0<|u<|fa ti127 j0 j0 j0<|u<|ld ti3 j0 j0<|u<|lss ti3 j0 j0<|u<|mv j0<|r_or (j:=3) 5 j0 j0 j0 j0 j0 gpn (fun hb33=>g j0 hb33<|fa ti127 j0 j0 j0<|g j0 hb33<|ld ti3 j0 j0<|g j0 hb33<|fa ti127 j0 j0 j0<|g j0 hb33<|ld ti3 j0 j0<|g j0 hb33<|geq ti3 j0 j0<|r_nil (egO [74,75,76,77,78] 5 hb33 j0 j0 j0 j0)) orT<|u<|mv j0<|r_or (j:=10) 4 j0 j0 j0 j0 j0 gpn (fun hb34=>g j0 hb34<|fa ti127 j0 j0 j0<|g j0 hb34<|ld ti3 j0 j0<|g j0 hb34<|mv j0<|g j0 hb34<|gtr ti3 j0 j0<|r_nil (egO [81,82,83,84] 4 hb34 j0 j0 j0 j0)) orT<|u<|mv j0<|r_or (j:=16) 3 j0 j0 j0 j0 j0 gpn (fun hb35=>g j0 hb35<|fa ti127 j0 j0 j0<|g j0 hb35<|ld ti3 j0 j0<|g j0 hb35<|lss ti3 j0 j0<|r_nil (egO [87,88,89] 3 hb35 j0 j0 j0 j0)) orT<|u<|mv j0<|r_or (j:=21) 4 j0 j0 j0 j0 j0 gpn (fun hb36=>g j0 hb36<|fa ti127 j0 j0 j0<|g j0 hb36<|ld ti3 j0 j0<|g j0 hb36<|mv j0<|g j0 hb36<|geq ti3 j0 j0<|r_nil (egO [92,93,94,95] 4 hb36 j0 j0 j0 j0)) orT<|u<|mv j0<|r_or (x:=v19) (j:=27) 9 j0 j0 j0 j0 j0 gpn (fun hb37=>by replace q41:=bF hb37 q41; obtain ⟨v18,q40,q41⟩:=bs q41; obtain rfl:=sm q41; exact g j0 hb37<|fa ti127 j0 j0 j0<|g j0 hb37<|ld ti9 j0 j0<|g j0 hb37<|sne ti9 j0 j0<|g j0 hb37<|mv j0<|r_and (x:=v18) (j:=31) 4 j0 j0 j0 j0 j0 (gps j0 j0 hb37) (fun hb38=>by replace q40:=bT hb38 q40; obtain ⟨v17,q39,q40⟩:=bs q40; obtain rfl:=sm q40; exact g j0 hb38<|fa ti127 j0 j0 j0<|g j0 hb38<|ld ti9 j0 j0<|g j0 hb38<|pc (ref3_Class_ok v16.C q39) j0 j0 j0<|g j0 hb38<|nt j0<|r_nil (eg [102,103,104,105] 4 j0 j0 j0 j0)) (fun hb=>(sm (bF hb q40)).symm)<|r_nil (eg [98,99,100,101,102,103,104,105,106] 5 j0 j0 j0 j0)) (fun hb=>(sm (bT hb q41)).symm)<|r_nil ?_
     refine sw_cond j0 (fun hc42=>?_) (fun hc42=>?_)
     ·
      replace h:=bT hc42 h
      refine rg j0<|u<|asg j0<|r_nil ?_
      refine sw_ret ?_
      obtain rfl:=sm h
      exact ⟨_,j0,_,j0,[],ci j0,j0,j5,j0,j1⟩
     ·
      replace h:=bF hc42 h
      refine sw_skip ?_
      refine rl j0<|u<|mv j0<|u<|add ti3 j0 j0<|u<|asg j0<|r_nil ?_
      obtain rfl:=sm h
      exact ⟨_,j0,[.old 0],cv j0 (.mpt j0)<|ce j0 j0<|ce j0 j0<|cn,j0,⟨⟨_,j0,rsOne ⟨ci j0,ci j0,ci j0,ci j0,ci j0,ci j0,ci j0,ci j0,ci j0,ci j0,j5⟩⟩,j5⟩,j0,j1⟩
    ·
     replace h:=bF hc31 h
     refine sw_exit ?_
     obtain rfl:=sm h
     exact ⟨j0,_,j0,[],cn,j0,j5,j0,j1⟩
   ·
    rintro ⟨⟩ rfl
    replace h : ref3_body_k4 = some r:=h
    unfold ref3_body_k4 at h
    refine ow_intro ?_
    refine rg j0<|u<|asg j0<|r_nil ?_
    refine sw_ret ?_
    obtain rfl:=sm h
    exact ⟨_,j0,[],ci j0,j0,j5,j0,j1⟩
   ·
    rintro r' rfl env st hp
    obtain rfl:=sm h
    exact hp
  ·
   rintro r' rfl env st hp
   obtain rfl:=sm h
   exact hp
def ref3_maps_k12 : Option (Bool) :=
  some true
def ref3_maps_k10 (v22 : Int) : Option (Sum (Int) (Sum (Unit) (Bool))) :=
  some (.inl (IntKind.i64.wrap (v22 + 1)))
def ref3_maps_l9 (v23 : ApiMap) (v38 : Int) : Option (Sum (Int) (Sum (Unit) (Bool))) :=
  cond (decide (v38 < (List.length v23.Stack : Int))) ((idx v23.Stack v38).bind fun v39=>(cond (!(v39 == [78])) ((ref3_May v39).bind fun v40=>some (!v40)) (some false)).bind fun v41=>cond v41 (some (.inr (.inr false))) (some (.inl (IntKind.i64.wrap (v38 + 1))))) (some (.inr (.inl ())))
def ref3_maps_k8 (v22 : Int) (v23 : ApiMap) : Option (Sum (Int) (Sum (Unit) (Bool))) :=
  (loopP (fun z=>ref3_maps_l9 v23 z) 0).bind fun o=>leave o (fun b=>ref3_maps_k10 v22) (fun r=>some (.inr (.inr r)))
def ref3_maps_l7 (v23 : ApiMap) (v30 : Int) : Option (Sum (Int) (Sum (Unit) (Bool))) :=
  cond (decide (v30 < (List.length v23.Locals : Int))) ((idx v23.Locals v30).bind fun v31=>(cond ((!(v31 == [84])) && (!(v31 == [78]))) ((ref3_May v31).bind fun v32=>some (!v32)) (some false)).bind fun v33=>cond v33 (some (.inr (.inr false))) (some (.inl (IntKind.i64.wrap (v30 + 1))))) (some (.inr (.inl ())))
def ref3_maps_j6 (v22 : Int) (v23 : ApiMap) (v25 : Bool) : Option (Sum (Int) (Sum (Unit) (Bool))) :=
  cond v25 (some (.inr (.inr false))) ((loopP (fun z=>ref3_maps_l7 v23 z) 0).bind fun o=>leave o (fun b=>ref3_maps_k8 v22 v23) (fun r=>some (.inr (.inr r))))
def ref3_maps_l11 (v1 : ApiMethod) (v22 : Int) : Option (Sum (Int) (Sum (Unit) (Bool))) :=
  cond (decide (v22 < (List.length v1.Maps : Int))) ((idx v1.Maps v22).bind fun v23=>cond (decide (v23.At < 0)) (ref3_maps_j6 v22 v23 true) (cond (decide ((List.length v1.Code : Int) ≤ v23.At)) (ref3_maps_j6 v22 v23 true) (cond (decide (0 < v22)) ((idx v1.Maps (IntKind.i64.wrap (v22 - 1))).bind fun v24=>cond (decide (v23.At ≤ v24.At)) (ref3_maps_j6 v22 v23 true) (cond (!((List.length v23.Locals : Int) == v1.Locals)) (ref3_maps_j6 v22 v23 true) (ref3_maps_j6 v22 v23 (decide (v1.Stack < (List.length v23.Stack : Int)))))) (cond (!((List.length v23.Locals : Int) == v1.Locals)) (ref3_maps_j6 v22 v23 true) (ref3_maps_j6 v22 v23 (decide (v1.Stack < (List.length v23.Stack : Int)))))))) (some (.inr (.inl ())))
def ref3_maps (v1 : ApiMethod) : Option (Bool) :=
  cond (decide (100 < (List.length v1.Maps : Int))) (some false) ((loopP (fun z=>ref3_maps_l11 v1 z) 0).bind fun o=>leave o (fun b=>ref3_maps_k12) some)
theorem ref3_maps_ok (v1 : ApiMethod) {r : Bool} (h : ref3_maps v1 = some r) : PureC Tryz.prog 144 [.agg [sA v1.Name,.isl 1 (List.map rStr v1.Params),sA v1.Ret,bA v1.Static,bA v1.Abstract,iA v1.Locals,iA v1.Stack,.isl 4 (List.map rApiIns v1.Code),.isl 3 (List.map rApiMap v1.Maps),.isl 4 (List.map rApiTrap v1.Traps)]] (bA r):=by
 refine pure_fn Tryz.func144 j0 (by kernel_rfl) j0 j0 ?_
 unfold ref3_maps at h
 refine rg j0<|u<|bx 0 10 j0 j0 j0 j0<|u<|asg j0<|r_nil ?_
 refine sw_seq ?_
 refine rg j0<|u<|fa ti62 j0 j0 j0<|u<|ld ti59 j0 j0<|u<|lnI ti59 j0 j0<|u<|gtr ti3 j0 j0<|r_nil ?_
 refine sw_cond j0 (fun hc1=>?_) (fun hc1=>?_)
 ·
  replace h:=bT hc1 h
  refine rg j0<|u<|asg j0<|r_nil ?_
  refine sw_ret ?_
  obtain rfl:=sm h
  exact ⟨_,j0,[],ci j0,j0,j5,j0,j1⟩
 ·
  replace h:=bF hc1 h
  refine sw_skip ?_
  refine sw_seq ?_
  refine rg j0<|u<|asg j0<|r_nil ?_
  obtain ⟨o,ho,h⟩:=bs h
  refine sw_lpl (X:=Int) (B:=Unit) (R:=Bool) (fun z=>[(1,.mpt 0 0 0),(3,iA z)]) (fun z=>[some (10,[[sA v1.Name,.isl 1 (List.map rStr v1.Params),sA v1.Ret,bA v1.Static,bA v1.Abstract,iA v1.Locals,iA v1.Stack,.isl 4 (List.map rApiIns v1.Code),.isl 3 (List.map rApiMap v1.Maps),.isl 4 (List.map rApiTrap v1.Traps)]])]) (fun b=>[]) (fun b=>[]) (fun r env st=>PostF Tryz.prog Tryz.f144 0 (bA r) [] env st) ho ⟨[.old 0],cv j0 (.mpt j0)<|ce j0 j0<|cn,j0,⟨⟨_,j0,rsOne ⟨ci j0,ci j0,ci j0,ci j0,ci j0,ci j0,ci j0,ci j0,ci j0,ci j0,j5⟩⟩,j5⟩,j0,j1⟩ ?_ ?_ ?_
  ·
   rintro v22 r h
   replace h : ref3_maps_l11 v1 v22 = some r:=h
   unfold ref3_maps_l11 at h
   refine sw_seq ?_
   refine rg j0<|u<|mv j0<|u<|fa ti62 j0 j0 j0<|u<|ld ti59 j0 j0<|u<|lnI ti59 j0 j0<|u<|lss ti3 j0 j0<|r_nil ?_
   refine sw_cond j0 (fun hc38=>?_) (fun hc38=>?_)
   ·
    replace h:=bT hc38 h
    refine sw_skip ?_
    refine sw_seq ?_
    refine sw_block ?_
    obtain ⟨v23,q39,h⟩:=bs h
    refine rg j0<|u<|fa ti62 j0 j0 j0<|u<|ld ti59 j0 j0<|u<|mv j0<|u<|ixI ti59 j0 ti81 j0 j0 j0 q39<|u<|ldI ti81 j0 (idx_some q39).2.2 j0<|u<|al 1 ti81 j0<|u<|sto ti81 j0 j0 j0<|r_nil ?_
    refine sw_seq ?_
    refine sw_meet (X:=Bool) (fun z=>[(1,.mpt 0 0 0),(3,iA v22),(4,.mpt 1 0 0),(67,bA z)]) (fun z=>[some (10,[[sA v1.Name,.isl 1 (List.map rStr v1.Params),sA v1.Ret,bA v1.Static,bA v1.Abstract,iA v1.Locals,iA v1.Stack,.isl 4 (List.map rApiIns v1.Code),.isl 3 (List.map rApiMap v1.Maps),.isl 4 (List.map rApiTrap v1.Traps)]]),some (3,[[iA v23.At,.isl 1 (List.map rStr v23.Locals),.isl 1 (List.map rStr v23.Stack)]])]) (fun z=>ref3_maps_j6 v22 v23 z = some r) ?_ ?_
    ·
     rcases bb (decide (v23.At < 0)) with hb40 | hb40
     ·
      replace h:=bT hb40 h
      exact sw_region_dt [] [42,41,40,39,38,37,36,35,34,33,32,31,30,29,28,27,26,25,24,23,22,21,20,19,18,17,16,15,14,13,12,11,10,9,8,7,6,5,4,3,2,1,0] [(67,bA true),(66,.lit undef),(65,.lit undef),(64,.lit undef),(63,.lit undef),(62,.lit undef),(61,.lit undef),(60,bA true),(59,bA true),(58,.lit undef),(57,.lit undef),(56,.lit undef),(55,.lit undef),(54,.lit undef),(53,.lit undef),(52,bA true),(51,bA true),(50,.lit undef),(49,.lit undef),(48,.lit undef),(47,.lit undef),(46,.lit undef),(45,.lit undef),(44,.lit undef),(43,.lit undef),(42,.lit undef),(41,.lit undef),(40,.lit undef),(39,.lit undef),(38,.lit undef),(37,.lit undef),(36,bA true),(35,bA true),(34,.lit undef),(33,.lit undef),(32,.lit undef),(31,.lit undef),(30,.lit undef),(29,.lit undef),(28,bA (decide (v23.At < 0))),(27,bA (decide (v23.At < 0))),(26,iA v23.At),(25,.mpt 1 0 0)] 0 (by kernel_rfl) (by kernel_rfl) j0 (by kernel_rfl) (dt0 ⟨(fun _=>pa j0 j0 j0 j0 (pk (b:=true) j0 j0<|j4)),(fun _=>pas (b:=true) j0 j0 j0 j0 j0 j0),(fun _=>pas (b:=true) j0 j0 j0 j0 j0 j0),(fun _=>pas (b:=true) j0 j0 j0 j0 j0 j0),(fun _=>pas (b:=true) j0 j0 j0 j0 j0 j0),(fun _=>pas (b:=true) j0 j0 j0 j0 j0 j0),(fun _=>pas (b:=true) j0 j0 j0 j0 j0 j0),(fun _=>pa j0 j0 j0 j0 (mv j0<|j4)),(fun _=>pa j0 j0 j0 j0 (pk (b:=true) j0 j0<|j4)),(fun _=>pas (b:=true) j0 j0 j0 j0 j0 j0),(fun _=>pas (b:=true) j0 j0 j0 j0 j0 j0),(fun _=>pas (b:=true) j0 j0 j0 j0 j0 j0),(fun _=>pas (b:=true) j0 j0 j0 j0 j0 j0),(fun _=>pas (b:=true) j0 j0 j0 j0 j0 j0),(fun _=>pas (b:=true) j0 j0 j0 j0 j0 j0),(fun _=>pa j0 j0 j0 j0 (mv j0<|j4)),(fun _=>pa j0 j0 j0 j0 (pk (b:=true) j0 j0<|j4)),(fun _=>pas (b:=true) j0 j0 j0 j0 j0 j0),(fun _=>pau j0 j0 j0 j0 j0),(fun _=>pau j0 j0 j0 j0 j0),(fun _=>pau j0 j0 j0 j0 j0),(fun _=>pau j0 j0 j0 j0 j0),(fun _=>pau j0 j0 j0 j0 j0),(fun _=>pau j0 j0 j0 j0 j0),(fun _=>pau j0 j0 j0 j0 j0),(fun _=>pau j0 j0 j0 j0 j0),(fun _=>pau j0 j0 j0 j0 j0),(fun _=>pau j0 j0 j0 j0 j0),(fun _=>pas (b:=true) j0 j0 j0 j0 j0 j0),(fun _=>pas (b:=true) j0 j0 j0 j0 j0 j0),(fun _=>pas (b:=true) j0 j0 j0 j0 j0 j0),(fun _=>pa j0 j0 j0 j0 (mv j0<|j4)),(fun _=>pa j0 j0 j0 j0 (pkb j0 hb40 j0<|j4)),(fun _=>pas (b:=(decide (v23.At < 0))) j0 j0 j0 j0 hb40 j0),(fun _=>pas (b:=(decide (v23.At < 0))) j0 j0 j0 j0 hb40 j0),(fun _=>pas (b:=(decide (v23.At < 0))) j0 j0 j0 j0 hb40 j0),(fun _=>pas (b:=(decide (v23.At < 0))) j0 j0 j0 j0 hb40 j0),(fun _=>pas (b:=(decide (v23.At < 0))) j0 j0 j0 j0 hb40 j0),(fun _=>pas (b:=(decide (v23.At < 0))) j0 j0 j0 j0 hb40 j0),(fun _=>pa j0 j0 j0 j0 (mv j0<|j4)),(fun _=>pa j0 j0 j0 j0 (lss ti3 j0 j0<|j4)),(fun _=>pa j0 j0 j0 j0 (ld ti3 j0 j0<|j4)),(fun _=>pa j0 j0 j0 j0 (fa ti81 j0 j0 j0<|j4)),j5⟩ (by kernel_rfl) j0 ⟨true,h,[.old 0,.old 1],cv j0 (.mpt j0)<|ce j0 j0<|cv j0 (.mpt j0)<|ce j0 j0<|cn,j0,⟨⟨_,j0,rsOne ⟨ci j0,ci j0,ci j0,ci j0,ci j0,ci j0,ci j0,ci j0,ci j0,ci j0,j5⟩⟩,⟨_,j0,rsOne ⟨ci j0,ci j0,ci j0,j5⟩⟩,j5⟩,j0,j1⟩)
     ·
      replace h:=bF hb40 h
      rcases bb (decide ((List.length v1.Code : Int) ≤ v23.At)) with hb41 | hb41
      ·
       replace h:=bT hb41 h
       exact sw_region_dt [] [42,41,40,39,38,37,36,35,34,33,32,31,30,29,28,27,26,25,24,23,22,21,20,19,18,17,16,15,14,13,12,11,10,9,8,7,6,5,4,3,2,1,0] [(67,bA true),(66,.lit undef),(65,.lit undef),(64,.lit undef),(63,.lit undef),(62,.lit undef),(61,.lit undef),(60,bA true),(59,bA true),(58,.lit undef),(57,.lit undef),(56,.lit undef),(55,.lit undef),(54,.lit undef),(53,.lit undef),(52,bA true),(51,bA true),(50,.lit undef),(49,.lit undef),(48,.lit undef),(47,.lit undef),(46,.lit undef),(45,.lit undef),(44,.lit undef),(43,.lit undef),(42,.lit undef),(41,.lit undef),(40,.lit undef),(39,.lit undef),(38,.lit undef),(37,.lit undef),(36,bA (decide ((List.length v1.Code : Int) ≤ v23.At))),(35,bA (decide ((List.length v1.Code : Int) ≤ v23.At))),(34,bA (decide ((List.length v1.Code : Int) ≤ v23.At))),(33,iA (List.length v1.Code : Int)),(32,.isl 4 (List.map rApiIns v1.Code)),(31,.mpt 0 0 7),(30,iA v23.At),(29,.mpt 1 0 0),(28,bA (decide (v23.At < 0))),(27,bA (decide (v23.At < 0))),(26,iA v23.At),(25,.mpt 1 0 0)] 0 (by kernel_rfl) (by kernel_rfl) j0 (by kernel_rfl) (dt0 ⟨(fun _=>pa j0 j0 j0 j0 (pk (b:=true) j0 j0<|j4)),(fun _=>pas (b:=true) j0 j0 j0 j0 j0 j0),(fun _=>pas (b:=true) j0 j0 j0 j0 j0 j0),(fun _=>pas (b:=true) j0 j0 j0 j0 j0 j0),(fun _=>pas (b:=true) j0 j0 j0 j0 j0 j0),(fun _=>pas (b:=true) j0 j0 j0 j0 j0 j0),(fun _=>pas (b:=true) j0 j0 j0 j0 j0 j0),(fun _=>pa j0 j0 j0 j0 (mv j0<|j4)),(fun _=>pa j0 j0 j0 j0 (pk (b:=true) j0 j0<|j4)),(fun _=>pas (b:=true) j0 j0 j0 j0 j0 j0),(fun _=>pas (b:=true) j0 j0 j0 j0 j0 j0),(fun _=>pas (b:=true) j0 j0 j0 j0 j0 j0),(fun _=>pas (b:=true) j0 j0 j0 j0 j0 j0),(fun _=>pas (b:=true) j0 j0 j0 j0 j0 j0),(fun _=>pas (b:=true) j0 j0 j0 j0 j0 j0),(fun _=>pa j0 j0 j0 j0 (mv j0<|j4)),(fun _=>pa j0 j0 j0 j0 (pkb j0 hb41 j0<|j4)),(fun _=>pas (b:=(decide ((List.length v1.Code : Int) ≤ v23.At))) j0 j0 j0 j0 hb41 j0),(fun _=>pau j0 j0 j0 j0 j0),(fun _=>pau j0 j0 j0 j0 j0),(fun _=>pau j0 j0 j0 j0 j0),(fun _=>pau j0 j0 j0 j0 j0),(fun _=>pau j0 j0 j0 j0 j0),(fun _=>pau j0 j0 j0 j0 j0),(fun _=>pau j0 j0 j0 j0 j0),(fun _=>pau j0 j0 j0 j0 j0),(fun _=>pau j0 j0 j0 j0 j0),(fun _=>pau j0 j0 j0 j0 j0),(fun _=>pas (b:=(decide ((List.length v1.Code : Int) ≤ v23.At))) j0 j0 j0 j0 hb41 j0),(fun _=>pas (b:=(decide ((List.length v1.Code : Int) ≤ v23.At))) j0 j0 j0 j0 hb41 j0),(fun _=>pas (b:=(decide ((List.length v1.Code : Int) ≤ v23.At))) j0 j0 j0 j0 hb41 j0),(fun _=>pa j0 j0 j0 j0 (mv j0<|j4)),(fun _=>pa j0 j0 j0 j0 (pkb j0 hb40 j0<|j4)),(fun _=>pag (b:=(decide (v23.At < 0))) j0 j0 j0 j0 hb40 j0 (geq ti3 j0 j0<|j4)),(fun _=>pag (b:=(decide (v23.At < 0))) j0 j0 j0 j0 hb40 j0 (lnI ti58 j0 j0<|j4)),(fun _=>pag (b:=(decide (v23.At < 0))) j0 j0 j0 j0 hb40 j0 (ld ti58 j0 j0<|j4)),(fun _=>pag (b:=(decide (v23.At < 0))) j0 j0 j0 j0 hb40 j0 (fa ti62 j0 j0 j0<|j4)),(fun _=>pag (b:=(decide (v23.At < 0))) j0 j0 j0 j0 hb40 j0 (ld ti3 j0 j0<|j4)),(fun _=>pag (b:=(decide (v23.At < 0))) j0 j0 j0 j0 hb40 j0 (fa ti81 j0 j0 j0<|j4)),(fun _=>pa j0 j0 j0 j0 (mv j0<|j4)),(fun _=>pa j0 j0 j0 j0 (lss ti3 j0 j0<|j4)),(fun _=>pa j0 j0 j0 j0 (ld ti3 j0 j0<|j4)),(fun _=>pa j0 j0 j0 j0 (fa ti81 j0 j0 j0<|j4)),j5⟩ (by kernel_rfl) j0 ⟨true,h,[.old 0,.old 1],cv j0 (.mpt j0)<|ce j0 j0<|cv j0 (.mpt j0)<|ce j0 j0<|cn,j0,⟨⟨_,j0,rsOne ⟨ci j0,ci j0,ci j0,ci j0,ci j0,ci j0,ci j0,ci j0,ci j0,ci j0,j5⟩⟩,⟨_,j0,rsOne ⟨ci j0,ci j0,ci j0,j5⟩⟩,j5⟩,j0,j1⟩)
      ·
       replace h:=bF hb41 h
       rcases bb (decide (0 < v22)) with hb42 | hb42
       ·
        replace h:=bT hb42 h
        obtain ⟨v24,q43,h⟩:=bs h
        rcases bb (decide (v23.At ≤ v24.At)) with hb44 | hb44
        ·
         replace h:=bT hb44 h
         exact sw_region_dt [] [42,41,40,39,38,37,36,35,34,33,32,31,30,29,28,27,26,25,24,23,22,21,20,19,18,17,16,15,14,13,12,11,10,9,8,7,6,5,4,3,2,1,0] [(67,bA true),(66,.lit undef),(65,.lit undef),(64,.lit undef),(63,.lit undef),(62,.lit undef),(61,.lit undef),(60,bA true),(59,bA true),(58,.lit undef),(57,.lit undef),(56,.lit undef),(55,.lit undef),(54,.lit undef),(53,.lit undef),(52,bA (decide (v23.At ≤ v24.At))),(51,bA (decide (v23.At ≤ v24.At))),(50,bA (decide (v23.At ≤ v24.At))),(49,bA (decide (v23.At ≤ v24.At))),(48,iA v24.At),(47,.ipt 3 (List.map rApiMap v1.Maps) (Int.toNat (IntKind.i64.wrap (v22 - 1))) 0),(46,.ipt 3 (List.map rApiMap v1.Maps) (Int.toNat (IntKind.i64.wrap (v22 - 1))) 0),(45,iA (IntKind.i64.wrap (v22 - 1))),(44,iA v22),(43,.isl 3 (List.map rApiMap v1.Maps)),(42,.mpt 0 0 8),(41,iA v23.At),(40,.mpt 1 0 0),(39,bA (decide (0 < v22))),(38,bA (decide (0 < v22))),(37,iA v22),(36,bA (decide ((List.length v1.Code : Int) ≤ v23.At))),(35,bA (decide ((List.length v1.Code : Int) ≤ v23.At))),(34,bA (decide ((List.length v1.Code : Int) ≤ v23.At))),(33,iA (List.length v1.Code : Int)),(32,.isl 4 (List.map rApiIns v1.Code)),(31,.mpt 0 0 7),(30,iA v23.At),(29,.mpt 1 0 0),(28,bA (decide (v23.At < 0))),(27,bA (decide (v23.At < 0))),(26,iA v23.At),(25,.mpt 1 0 0)] 0 (by kernel_rfl) (by kernel_rfl) j0 (by kernel_rfl) (dt0 ⟨(fun _=>pa j0 j0 j0 j0 (pk (b:=true) j0 j0<|j4)),(fun _=>pas (b:=true) j0 j0 j0 j0 j0 j0),(fun _=>pas (b:=true) j0 j0 j0 j0 j0 j0),(fun _=>pas (b:=true) j0 j0 j0 j0 j0 j0),(fun _=>pas (b:=true) j0 j0 j0 j0 j0 j0),(fun _=>pas (b:=true) j0 j0 j0 j0 j0 j0),(fun _=>pas (b:=true) j0 j0 j0 j0 j0 j0),(fun _=>pa j0 j0 j0 j0 (mv j0<|j4)),(fun _=>pa j0 j0 j0 j0 (pkb j0 hb44 j0<|j4)),(fun _=>pas (b:=(decide (v23.At ≤ v24.At))) j0 j0 j0 j0 hb44 j0),(fun _=>pas (b:=(decide (v23.At ≤ v24.At))) j0 j0 j0 j0 hb44 j0),(fun _=>pas (b:=(decide (v23.At ≤ v24.At))) j0 j0 j0 j0 hb44 j0),(fun _=>pas (b:=(decide (v23.At ≤ v24.At))) j0 j0 j0 j0 hb44 j0),(fun _=>pas (b:=(decide (v23.At ≤ v24.At))) j0 j0 j0 j0 hb44 j0),(fun _=>pas (b:=(decide (v23.At ≤ v24.At))) j0 j0 j0 j0 hb44 j0),(fun _=>pa j0 j0 j0 j0 (mv j0<|j4)),(fun _=>pa j0 j0 j0 j0 (pkb j0 hb41 j0<|j4)),(fun _=>pag (b:=(decide ((List.length v1.Code : Int) ≤ v23.At))) j0 j0 j0 j0 hb41 j0 (pkb j0 hb42 j0<|j4)),(fun _=>pag (b:=(decide (0 < v22))) j0 j0 j0 j0 hb42 j0 (leq ti3 j0 j0<|j4)),(fun _=>pag (b:=(decide (0 < v22))) j0 j0 j0 j0 hb42 j0 (ldI ti3 j0 (idx_some q43).2.2 j0<|j4)),(fun _=>pag (b:=(decide (0 < v22))) j0 j0 j0 j0 hb42 j0 (fa ti81 j0 j0 j0<|j4)),(fun _=>pag (b:=(decide (0 < v22))) j0 j0 j0 j0 hb42 j0 (ixI ti59 j0 ti81 j0 j0 j0 q43<|j4)),(fun _=>pag (b:=(decide (0 < v22))) j0 j0 j0 j0 hb42 j0 (sub ti3 j0 j0<|j4)),(fun _=>pag (b:=(decide (0 < v22))) j0 j0 j0 j0 hb42 j0 (mv j0<|j4)),(fun _=>pag (b:=(decide (0 < v22))) j0 j0 j0 j0 hb42 j0 (ld ti59 j0 j0<|j4)),(fun _=>pag (b:=(decide (0 < v22))) j0 j0 j0 j0 hb42 j0 (fa ti62 j0 j0 j0<|j4)),(fun _=>pag (b:=(decide (0 < v22))) j0 j0 j0 j0 hb42 j0 (ld ti3 j0 j0<|j4)),(fun _=>pag (b:=(decide (0 < v22))) j0 j0 j0 j0 hb42 j0 (fa ti81 j0 j0 j0<|j4)),(fun _=>pag (b:=(decide ((List.length v1.Code : Int) ≤ v23.At))) j0 j0 j0 j0 hb41 j0 (mv j0<|j4)),(fun _=>pag (b:=(decide ((List.length v1.Code : Int) ≤ v23.At))) j0 j0 j0 j0 hb41 j0 (gtr ti3 j0 j0<|j4)),(fun _=>pag (b:=(decide ((List.length v1.Code : Int) ≤ v23.At))) j0 j0 j0 j0 hb41 j0 (mv j0<|j4)),(fun _=>pa j0 j0 j0 j0 (mv j0<|j4)),(fun _=>pa j0 j0 j0 j0 (pkb j0 hb40 j0<|j4)),(fun _=>pag (b:=(decide (v23.At < 0))) j0 j0 j0 j0 hb40 j0 (geq ti3 j0 j0<|j4)),(fun _=>pag (b:=(decide (v23.At < 0))) j0 j0 j0 j0 hb40 j0 (lnI ti58 j0 j0<|j4)),(fun _=>pag (b:=(decide (v23.At < 0))) j0 j0 j0 j0 hb40 j0 (ld ti58 j0 j0<|j4)),(fun _=>pag (b:=(decide (v23.At < 0))) j0 j0 j0 j0 hb40 j0 (fa ti62 j0 j0 j0<|j4)),(fun _=>pag (b:=(decide (v23.At < 0))) j0 j0 j0 j0 hb40 j0 (ld ti3 j0 j0<|j4)),(fun _=>pag (b:=(decide (v23.At < 0))) j0 j0 j0 j0 hb40 j0 (fa ti81 j0 j0 j0<|j4)),(fun _=>pa j0 j0 j0 j0 (mv j0<|j4)),(fun _=>pa j0 j0 j0 j0 (lss ti3 j0 j0<|j4)),(fun _=>pa j0 j0 j0 j0 (ld ti3 j0 j0<|j4)),(fun _=>pa j0 j0 j0 j0 (fa ti81 j0 j0 j0<|j4)),j5⟩ (by kernel_rfl) j0 ⟨true,h,[.old 0,.old 1],cv j0 (.mpt j0)<|ce j0 j0<|cv j0 (.mpt j0)<|ce j0 j0<|cn,j0,⟨⟨_,j0,rsOne ⟨ci j0,ci j0,ci j0,ci j0,ci j0,ci j0,ci j0,ci j0,ci j0,ci j0,j5⟩⟩,⟨_,j0,rsOne ⟨ci j0,ci j0,ci j0,j5⟩⟩,j5⟩,j0,j1⟩)
        ·
         replace h:=bF hb44 h
         rcases bb (!((List.length v23.Locals : Int) == v1.Locals)) with hb45 | hb45
         ·
          replace h:=bT hb45 h
          exact sw_region_dt [] [42,41,40,39,38,37,36,35,34,33,32,31,30,29,28,27,26,25,24,23,22,21,20,19,18,17,16,15,14,13,12,11,10,9,8,7,6,5,4,3,2,1,0] [(67,bA true),(66,.lit undef),(65,.lit undef),(64,.lit undef),(63,.lit undef),(62,.lit undef),(61,.lit undef),(60,bA (!((List.length v23.Locals : Int) == v1.Locals))),(59,bA (!((List.length v23.Locals : Int) == v1.Locals))),(58,bA (!((List.length v23.Locals : Int) == v1.Locals))),(57,iA v1.Locals),(56,.mpt 0 0 5),(55,iA (List.length v23.Locals : Int)),(54,.isl 1 (List.map rStr v23.Locals)),(53,.mpt 1 0 1),(52,bA (decide (v23.At ≤ v24.At))),(51,bA (decide (v23.At ≤ v24.At))),(50,bA (decide (v23.At ≤ v24.At))),(49,bA (decide (v23.At ≤ v24.At))),(48,iA v24.At),(47,.ipt 3 (List.map rApiMap v1.Maps) (Int.toNat (IntKind.i64.wrap (v22 - 1))) 0),(46,.ipt 3 (List.map rApiMap v1.Maps) (Int.toNat (IntKind.i64.wrap (v22 - 1))) 0),(45,iA (IntKind.i64.wrap (v22 - 1))),(44,iA v22),(43,.isl 3 (List.map rApiMap v1.Maps)),(42,.mpt 0 0 8),(41,iA v23.At),(40,.mpt 1 0 0),(39,bA (decide (0 < v22))),(38,bA (decide (0 < v22))),(37,iA v22),(36,bA (decide ((List.length v1.Code : Int) ≤ v23.At))),(35,bA (decide ((List.length v1.Code : Int) ≤ v23.At))),(34,bA (decide ((List.length v1.Code : Int) ≤ v23.At))),(33,iA (List.length v1.Code : Int)),(32,.isl 4 (List.map rApiIns v1.Code)),(31,.mpt 0 0 7),(30,iA v23.At),(29,.mpt 1 0 0),(28,bA (decide (v23.At < 0))),(27,bA (decide (v23.At < 0))),(26,iA v23.At),(25,.mpt 1 0 0)] 0 (by kernel_rfl) (by kernel_rfl) j0 (by kernel_rfl) (dt0 ⟨(fun _=>pa j0 j0 j0 j0 (pkb j0 hb45 j0<|j4)),(fun _=>pas (b:=(!((List.length v23.Locals : Int) == v1.Locals))) j0 j0 j0 j0 hb45 j0),(fun _=>pas (b:=(!((List.length v23.Locals : Int) == v1.Locals))) j0 j0 j0 j0 hb45 j0),(fun _=>pas (b:=(!((List.length v23.Locals : Int) == v1.Locals))) j0 j0 j0 j0 hb45 j0),(fun _=>pas (b:=(!((List.length v23.Locals : Int) == v1.Locals))) j0 j0 j0 j0 hb45 j0),(fun _=>pas (b:=(!((List.length v23.Locals : Int) == v1.Locals))) j0 j0 j0 j0 hb45 j0),(fun _=>pas (b:=(!((List.length v23.Locals : Int) == v1.Locals))) j0 j0 j0 j0 hb45 j0),(fun _=>pa j0 j0 j0 j0 (mv j0<|j4)),(fun _=>pa j0 j0 j0 j0 (pkb j0 hb44 j0<|j4)),(fun _=>pag (b:=(decide (v23.At ≤ v24.At))) j0 j0 j0 j0 hb44 j0 (neq ti3 j0 j0<|j4)),(fun _=>pag (b:=(decide (v23.At ≤ v24.At))) j0 j0 j0 j0 hb44 j0 (ld ti3 j0 j0<|j4)),(fun _=>pag (b:=(decide (v23.At ≤ v24.At))) j0 j0 j0 j0 hb44 j0 (fa ti62 j0 j0 j0<|j4)),(fun _=>pag (b:=(decide (v23.At ≤ v24.At))) j0 j0 j0 j0 hb44 j0 (lnI ti32 j0 j0<|j4)),(fun _=>pag (b:=(decide (v23.At ≤ v24.At))) j0 j0 j0 j0 hb44 j0 (ld ti32 j0 j0<|j4)),(fun _=>pag (b:=(decide (v23.At ≤ v24.At))) j0 j0 j0 j0 hb44 j0 (fa ti81 j0 j0 j0<|j4)),(fun _=>pa j0 j0 j0 j0 (mv j0<|j4)),(fun _=>pa j0 j0 j0 j0 (pkb j0 hb41 j0<|j4)),(fun _=>pag (b:=(decide ((List.length v1.Code : Int) ≤ v23.At))) j0 j0 j0 j0 hb41 j0 (pkb j0 hb42 j0<|j4)),(fun _=>pag (b:=(decide (0 < v22))) j0 j0 j0 j0 hb42 j0 (leq ti3 j0 j0<|j4)),(fun _=>pag (b:=(decide (0 < v22))) j0 j0 j0 j0 hb42 j0 (ldI ti3 j0 (idx_some q43).2.2 j0<|j4)),(fun _=>pag (b:=(decide (0 < v22))) j0 j0 j0 j0 hb42 j0 (fa ti81 j0 j0 j0<|j4)),(fun _=>pag (b:=(decide (0 < v22))) j0 j0 j0 j0 hb42 j0 (ixI ti59 j0 ti81 j0 j0 j0 q43<|j4)),(fun _=>pag (b:=(decide (0 < v22))) j0 j0 j0 j0 hb42 j0 (sub ti3 j0 j0<|j4)),(fun _=>pag (b:=(decide (0 < v22))) j0 j0 j0 j0 hb42 j0 (mv j0<|j4)),(fun _=>pag (b:=(decide (0 < v22))) j0 j0 j0 j0 hb42 j0 (ld ti59 j0 j0<|j4)),(fun _=>pag (b:=(decide (0 < v22))) j0 j0 j0 j0 hb42 j0 (fa ti62 j0 j0 j0<|j4)),(fun _=>pag (b:=(decide (0 < v22))) j0 j0 j0 j0 hb42 j0 (ld ti3 j0 j0<|j4)),(fun _=>pag (b:=(decide (0 < v22))) j0 j0 j0 j0 hb42 j0 (fa ti81 j0 j0 j0<|j4)),(fun _=>pag (b:=(decide ((List.length v1.Code : Int) ≤ v23.At))) j0 j0 j0 j0 hb41 j0 (mv j0<|j4)),(fun _=>pag (b:=(decide ((List.length v1.Code : Int) ≤ v23.At))) j0 j0 j0 j0 hb41 j0 (gtr ti3 j0 j0<|j4)),(fun _=>pag (b:=(decide ((List.length v1.Code : Int) ≤ v23.At))) j0 j0 j0 j0 hb41 j0 (mv j0<|j4)),(fun _=>pa j0 j0 j0 j0 (mv j0<|j4)),(fun _=>pa j0 j0 j0 j0 (pkb j0 hb40 j0<|j4)),(fun _=>pag (b:=(decide (v23.At < 0))) j0 j0 j0 j0 hb40 j0 (geq ti3 j0 j0<|j4)),(fun _=>pag (b:=(decide (v23.At < 0))) j0 j0 j0 j0 hb40 j0 (lnI ti58 j0 j0<|j4)),(fun _=>pag (b:=(decide (v23.At < 0))) j0 j0 j0 j0 hb40 j0 (ld ti58 j0 j0<|j4)),(fun _=>pag (b:=(decide (v23.At < 0))) j0 j0 j0 j0 hb40 j0 (fa ti62 j0 j0 j0<|j4)),(fun _=>pag (b:=(decide (v23.At < 0))) j0 j0 j0 j0 hb40 j0 (ld ti3 j0 j0<|j4)),(fun _=>pag (b:=(decide (v23.At < 0))) j0 j0 j0 j0 hb40 j0 (fa ti81 j0 j0 j0<|j4)),(fun _=>pa j0 j0 j0 j0 (mv j0<|j4)),(fun _=>pa j0 j0 j0 j0 (lss ti3 j0 j0<|j4)),(fun _=>pa j0 j0 j0 j0 (ld ti3 j0 j0<|j4)),(fun _=>pa j0 j0 j0 j0 (fa ti81 j0 j0 j0<|j4)),j5⟩ (by kernel_rfl) j0 ⟨true,h,[.old 0,.old 1],cv j0 (.mpt j0)<|ce j0 j0<|cv j0 (.mpt j0)<|ce j0 j0<|cn,j0,⟨⟨_,j0,rsOne ⟨ci j0,ci j0,ci j0,ci j0,ci j0,ci j0,ci j0,ci j0,ci j0,ci j0,j5⟩⟩,⟨_,j0,rsOne ⟨ci j0,ci j0,ci j0,j5⟩⟩,j5⟩,j0,j1⟩)
         ·
          replace h:=bF hb45 h
          exact sw_region_dt [] [42,41,40,39,38,37,36,35,34,33,32,31,30,29,28,27,26,25,24,23,22,21,20,19,18,17,16,15,14,13,12,11,10,9,8,7,6,5,4,3,2,1,0] [(67,bA (decide (v1.Stack < (List.length v23.Stack : Int)))),(66,bA (decide (v1.Stack < (List.length v23.Stack : Int)))),(65,iA v1.Stack),(64,.mpt 0 0 6),(63,iA (List.length v23.Stack : Int)),(62,.isl 1 (List.map rStr v23.Stack)),(61,.mpt 1 0 2),(60,bA (!((List.length v23.Locals : Int) == v1.Locals))),(59,bA (!((List.length v23.Locals : Int) == v1.Locals))),(58,bA (!((List.length v23.Locals : Int) == v1.Locals))),(57,iA v1.Locals),(56,.mpt 0 0 5),(55,iA (List.length v23.Locals : Int)),(54,.isl 1 (List.map rStr v23.Locals)),(53,.mpt 1 0 1),(52,bA (decide (v23.At ≤ v24.At))),(51,bA (decide (v23.At ≤ v24.At))),(50,bA (decide (v23.At ≤ v24.At))),(49,bA (decide (v23.At ≤ v24.At))),(48,iA v24.At),(47,.ipt 3 (List.map rApiMap v1.Maps) (Int.toNat (IntKind.i64.wrap (v22 - 1))) 0),(46,.ipt 3 (List.map rApiMap v1.Maps) (Int.toNat (IntKind.i64.wrap (v22 - 1))) 0),(45,iA (IntKind.i64.wrap (v22 - 1))),(44,iA v22),(43,.isl 3 (List.map rApiMap v1.Maps)),(42,.mpt 0 0 8),(41,iA v23.At),(40,.mpt 1 0 0),(39,bA (decide (0 < v22))),(38,bA (decide (0 < v22))),(37,iA v22),(36,bA (decide ((List.length v1.Code : Int) ≤ v23.At))),(35,bA (decide ((List.length v1.Code : Int) ≤ v23.At))),(34,bA (decide ((List.length v1.Code : Int) ≤ v23.At))),(33,iA (List.length v1.Code : Int)),(32,.isl 4 (List.map rApiIns v1.Code)),(31,.mpt 0 0 7),(30,iA v23.At),(29,.mpt 1 0 0),(28,bA (decide (v23.At < 0))),(27,bA (decide (v23.At < 0))),(26,iA v23.At),(25,.mpt 1 0 0)] 0 (by kernel_rfl) (by kernel_rfl) j0 (by kernel_rfl) (dt0 ⟨(fun _=>pa j0 j0 j0 j0 (pkb j0 hb45 j0<|j4)),(fun _=>pag (b:=(!((List.length v23.Locals : Int) == v1.Locals))) j0 j0 j0 j0 hb45 j0 (gtr ti3 j0 j0<|j4)),(fun _=>pag (b:=(!((List.length v23.Locals : Int) == v1.Locals))) j0 j0 j0 j0 hb45 j0 (ld ti3 j0 j0<|j4)),(fun _=>pag (b:=(!((List.length v23.Locals : Int) == v1.Locals))) j0 j0 j0 j0 hb45 j0 (fa ti62 j0 j0 j0<|j4)),(fun _=>pag (b:=(!((List.length v23.Locals : Int) == v1.Locals))) j0 j0 j0 j0 hb45 j0 (lnI ti32 j0 j0<|j4)),(fun _=>pag (b:=(!((List.length v23.Locals : Int) == v1.Locals))) j0 j0 j0 j0 hb45 j0 (ld ti32 j0 j0<|j4)),(fun _=>pag (b:=(!((List.length v23.Locals : Int) == v1.Locals))) j0 j0 j0 j0 hb45 j0 (fa ti81 j0 j0 j0<|j4)),(fun _=>pa j0 j0 j0 j0 (mv j0<|j4)),(fun _=>pa j0 j0 j0 j0 (pkb j0 hb44 j0<|j4)),(fun _=>pag (b:=(decide (v23.At ≤ v24.At))) j0 j0 j0 j0 hb44 j0 (neq ti3 j0 j0<|j4)),(fun _=>pag (b:=(decide (v23.At ≤ v24.At))) j0 j0 j0 j0 hb44 j0 (ld ti3 j0 j0<|j4)),(fun _=>pag (b:=(decide (v23.At ≤ v24.At))) j0 j0 j0 j0 hb44 j0 (fa ti62 j0 j0 j0<|j4)),(fun _=>pag (b:=(decide (v23.At ≤ v24.At))) j0 j0 j0 j0 hb44 j0 (lnI ti32 j0 j0<|j4)),(fun _=>pag (b:=(decide (v23.At ≤ v24.At))) j0 j0 j0 j0 hb44 j0 (ld ti32 j0 j0<|j4)),(fun _=>pag (b:=(decide (v23.At ≤ v24.At))) j0 j0 j0 j0 hb44 j0 (fa ti81 j0 j0 j0<|j4)),(fun _=>pa j0 j0 j0 j0 (mv j0<|j4)),(fun _=>pa j0 j0 j0 j0 (pkb j0 hb41 j0<|j4)),(fun _=>pag (b:=(decide ((List.length v1.Code : Int) ≤ v23.At))) j0 j0 j0 j0 hb41 j0 (pkb j0 hb42 j0<|j4)),(fun _=>pag (b:=(decide (0 < v22))) j0 j0 j0 j0 hb42 j0 (leq ti3 j0 j0<|j4)),(fun _=>pag (b:=(decide (0 < v22))) j0 j0 j0 j0 hb42 j0 (ldI ti3 j0 (idx_some q43).2.2 j0<|j4)),(fun _=>pag (b:=(decide (0 < v22))) j0 j0 j0 j0 hb42 j0 (fa ti81 j0 j0 j0<|j4)),(fun _=>pag (b:=(decide (0 < v22))) j0 j0 j0 j0 hb42 j0 (ixI ti59 j0 ti81 j0 j0 j0 q43<|j4)),(fun _=>pag (b:=(decide (0 < v22))) j0 j0 j0 j0 hb42 j0 (sub ti3 j0 j0<|j4)),(fun _=>pag (b:=(decide (0 < v22))) j0 j0 j0 j0 hb42 j0 (mv j0<|j4)),(fun _=>pag (b:=(decide (0 < v22))) j0 j0 j0 j0 hb42 j0 (ld ti59 j0 j0<|j4)),(fun _=>pag (b:=(decide (0 < v22))) j0 j0 j0 j0 hb42 j0 (fa ti62 j0 j0 j0<|j4)),(fun _=>pag (b:=(decide (0 < v22))) j0 j0 j0 j0 hb42 j0 (ld ti3 j0 j0<|j4)),(fun _=>pag (b:=(decide (0 < v22))) j0 j0 j0 j0 hb42 j0 (fa ti81 j0 j0 j0<|j4)),(fun _=>pag (b:=(decide ((List.length v1.Code : Int) ≤ v23.At))) j0 j0 j0 j0 hb41 j0 (mv j0<|j4)),(fun _=>pag (b:=(decide ((List.length v1.Code : Int) ≤ v23.At))) j0 j0 j0 j0 hb41 j0 (gtr ti3 j0 j0<|j4)),(fun _=>pag (b:=(decide ((List.length v1.Code : Int) ≤ v23.At))) j0 j0 j0 j0 hb41 j0 (mv j0<|j4)),(fun _=>pa j0 j0 j0 j0 (mv j0<|j4)),(fun _=>pa j0 j0 j0 j0 (pkb j0 hb40 j0<|j4)),(fun _=>pag (b:=(decide (v23.At < 0))) j0 j0 j0 j0 hb40 j0 (geq ti3 j0 j0<|j4)),(fun _=>pag (b:=(decide (v23.At < 0))) j0 j0 j0 j0 hb40 j0 (lnI ti58 j0 j0<|j4)),(fun _=>pag (b:=(decide (v23.At < 0))) j0 j0 j0 j0 hb40 j0 (ld ti58 j0 j0<|j4)),(fun _=>pag (b:=(decide (v23.At < 0))) j0 j0 j0 j0 hb40 j0 (fa ti62 j0 j0 j0<|j4)),(fun _=>pag (b:=(decide (v23.At < 0))) j0 j0 j0 j0 hb40 j0 (ld ti3 j0 j0<|j4)),(fun _=>pag (b:=(decide (v23.At < 0))) j0 j0 j0 j0 hb40 j0 (fa ti81 j0 j0 j0<|j4)),(fun _=>pa j0 j0 j0 j0 (mv j0<|j4)),(fun _=>pa j0 j0 j0 j0 (lss ti3 j0 j0<|j4)),(fun _=>pa j0 j0 j0 j0 (ld ti3 j0 j0<|j4)),(fun _=>pa j0 j0 j0 j0 (fa ti81 j0 j0 j0<|j4)),j5⟩ (by kernel_rfl) j0 ⟨(decide (v1.Stack < (List.length v23.Stack : Int))),h,[.old 0,.old 1],cv j0 (.mpt j0)<|ce j0 j0<|cv j0 (.mpt j0)<|ce j0 j0<|cn,j0,⟨⟨_,j0,rsOne ⟨ci j0,ci j0,ci j0,ci j0,ci j0,ci j0,ci j0,ci j0,ci j0,ci j0,j5⟩⟩,⟨_,j0,rsOne ⟨ci j0,ci j0,ci j0,j5⟩⟩,j5⟩,j0,j1⟩)
       ·
        replace h:=bF hb42 h
        rcases bb (!((List.length v23.Locals : Int) == v1.Locals)) with hb46 | hb46
        ·
         replace h:=bT hb46 h
         exact sw_region_dt [] [42,41,40,39,38,37,36,35,34,33,32,31,30,29,28,27,26,25,24,23,22,21,20,19,18,17,16,15,14,13,12,11,10,9,8,7,6,5,4,3,2,1,0] [(67,bA true),(66,.lit undef),(65,.lit undef),(64,.lit undef),(63,.lit undef),(62,.lit undef),(61,.lit undef),(60,bA (!((List.length v23.Locals : Int) == v1.Locals))),(59,bA (!((List.length v23.Locals : Int) == v1.Locals))),(58,bA (!((List.length v23.Locals : Int) == v1.Locals))),(57,iA v1.Locals),(56,.mpt 0 0 5),(55,iA (List.length v23.Locals : Int)),(54,.isl 1 (List.map rStr v23.Locals)),(53,.mpt 1 0 1),(52,bA false),(51,bA false),(50,bA false),(49,.lit undef),(48,.lit undef),(47,.lit undef),(46,.lit undef),(45,.lit undef),(44,.lit undef),(43,.lit undef),(42,.lit undef),(41,.lit undef),(40,.lit undef),(39,bA (decide (0 < v22))),(38,bA (decide (0 < v22))),(37,iA v22),(36,bA (decide ((List.length v1.Code : Int) ≤ v23.At))),(35,bA (decide ((List.length v1.Code : Int) ≤ v23.At))),(34,bA (decide ((List.length v1.Code : Int) ≤ v23.At))),(33,iA (List.length v1.Code : Int)),(32,.isl 4 (List.map rApiIns v1.Code)),(31,.mpt 0 0 7),(30,iA v23.At),(29,.mpt 1 0 0),(28,bA (decide (v23.At < 0))),(27,bA (decide (v23.At < 0))),(26,iA v23.At),(25,.mpt 1 0 0)] 0 (by kernel_rfl) (by kernel_rfl) j0 (by kernel_rfl) (dt0 ⟨(fun _=>pa j0 j0 j0 j0 (pkb j0 hb46 j0<|j4)),(fun _=>pas (b:=(!((List.length v23.Locals : Int) == v1.Locals))) j0 j0 j0 j0 hb46 j0),(fun _=>pas (b:=(!((List.length v23.Locals : Int) == v1.Locals))) j0 j0 j0 j0 hb46 j0),(fun _=>pas (b:=(!((List.length v23.Locals : Int) == v1.Locals))) j0 j0 j0 j0 hb46 j0),(fun _=>pas (b:=(!((List.length v23.Locals : Int) == v1.Locals))) j0 j0 j0 j0 hb46 j0),(fun _=>pas (b:=(!((List.length v23.Locals : Int) == v1.Locals))) j0 j0 j0 j0 hb46 j0),(fun _=>pas (b:=(!((List.length v23.Locals : Int) == v1.Locals))) j0 j0 j0 j0 hb46 j0),(fun _=>pa j0 j0 j0 j0 (mv j0<|j4)),(fun _=>pa j0 j0 j0 j0 (pk (b:=false) j0 j0<|j4)),(fun _=>pag (b:=false) j0 j0 j0 j0 j0 j0 (neq ti3 j0 j0<|j4)),(fun _=>pag (b:=false) j0 j0 j0 j0 j0 j0 (ld ti3 j0 j0<|j4)),(fun _=>pag (b:=false) j0 j0 j0 j0 j0 j0 (fa ti62 j0 j0 j0<|j4)),(fun _=>pag (b:=false) j0 j0 j0 j0 j0 j0 (lnI ti32 j0 j0<|j4)),(fun _=>pag (b:=false) j0 j0 j0 j0 j0 j0 (ld ti32 j0 j0<|j4)),(fun _=>pag (b:=false) j0 j0 j0 j0 j0 j0 (fa ti81 j0 j0 j0<|j4)),(fun _=>pa j0 j0 j0 j0 (mv j0<|j4)),(fun _=>pa j0 j0 j0 j0 (pkb j0 hb41 j0<|j4)),(fun _=>pag (b:=(decide ((List.length v1.Code : Int) ≤ v23.At))) j0 j0 j0 j0 hb41 j0 (pkb j0 hb42 j0<|j4)),(fun _=>pas (b:=(decide (0 < v22))) j0 j0 j0 j0 hb42 j0),(fun _=>pas (b:=(decide (0 < v22))) j0 j0 j0 j0 hb42 j0),(fun _=>pas (b:=(decide (0 < v22))) j0 j0 j0 j0 hb42 j0),(fun _=>pas (b:=(decide (0 < v22))) j0 j0 j0 j0 hb42 j0),(fun _=>pas (b:=(decide (0 < v22))) j0 j0 j0 j0 hb42 j0),(fun _=>pas (b:=(decide (0 < v22))) j0 j0 j0 j0 hb42 j0),(fun _=>pas (b:=(decide (0 < v22))) j0 j0 j0 j0 hb42 j0),(fun _=>pas (b:=(decide (0 < v22))) j0 j0 j0 j0 hb42 j0),(fun _=>pas (b:=(decide (0 < v22))) j0 j0 j0 j0 hb42 j0),(fun _=>pas (b:=(decide (0 < v22))) j0 j0 j0 j0 hb42 j0),(fun _=>pag (b:=(decide ((List.length v1.Code : Int) ≤ v23.At))) j0 j0 j0 j0 hb41 j0 (mv j0<|j4)),(fun _=>pag (b:=(decide ((List.length v1.Code : Int) ≤ v23.At))) j0 j0 j0 j0 hb41 j0 (gtr ti3 j0 j0<|j4)),(fun _=>pag (b:=(decide ((List.length v1.Code : Int) ≤ v23.At))) j0 j0 j0 j0 hb41 j0 (mv j0<|j4)),(fun _=>pa j0 j0 j0 j0 (mv j0<|j4)),(fun _=>pa j0 j0 j0 j0 (pkb j0 hb40 j0<|j4)),(fun _=>pag (b:=(decide (v23.At < 0))) j0 j0 j0 j0 hb40 j0 (geq ti3 j0 j0<|j4)),(fun _=>pag (b:=(decide (v23.At < 0))) j0 j0 j0 j0 hb40 j0 (lnI ti58 j0 j0<|j4)),(fun _=>pag (b:=(decide (v23.At < 0))) j0 j0 j0 j0 hb40 j0 (ld ti58 j0 j0<|j4)),(fun _=>pag (b:=(decide (v23.At < 0))) j0 j0 j0 j0 hb40 j0 (fa ti62 j0 j0 j0<|j4)),(fun _=>pag (b:=(decide (v23.At < 0))) j0 j0 j0 j0 hb40 j0 (ld ti3 j0 j0<|j4)),(fun _=>pag (b:=(decide (v23.At < 0))) j0 j0 j0 j0 hb40 j0 (fa ti81 j0 j0 j0<|j4)),(fun _=>pa j0 j0 j0 j0 (mv j0<|j4)),(fun _=>pa j0 j0 j0 j0 (lss ti3 j0 j0<|j4)),(fun _=>pa j0 j0 j0 j0 (ld ti3 j0 j0<|j4)),(fun _=>pa j0 j0 j0 j0 (fa ti81 j0 j0 j0<|j4)),j5⟩ (by kernel_rfl) j0 ⟨true,h,[.old 0,.old 1],cv j0 (.mpt j0)<|ce j0 j0<|cv j0 (.mpt j0)<|ce j0 j0<|cn,j0,⟨⟨_,j0,rsOne ⟨ci j0,ci j0,ci j0,ci j0,ci j0,ci j0,ci j0,ci j0,ci j0,ci j0,j5⟩⟩,⟨_,j0,rsOne ⟨ci j0,ci j0,ci j0,j5⟩⟩,j5⟩,j0,j1⟩)
        ·
         replace h:=bF hb46 h
         exact sw_region_dt [] [42,41,40,39,38,37,36,35,34,33,32,31,30,29,28,27,26,25,24,23,22,21,20,19,18,17,16,15,14,13,12,11,10,9,8,7,6,5,4,3,2,1,0] [(67,bA (decide (v1.Stack < (List.length v23.Stack : Int)))),(66,bA (decide (v1.Stack < (List.length v23.Stack : Int)))),(65,iA v1.Stack),(64,.mpt 0 0 6),(63,iA (List.length v23.Stack : Int)),(62,.isl 1 (List.map rStr v23.Stack)),(61,.mpt 1 0 2),(60,bA (!((List.length v23.Locals : Int) == v1.Locals))),(59,bA (!((List.length v23.Locals : Int) == v1.Locals))),(58,bA (!((List.length v23.Locals : Int) == v1.Locals))),(57,iA v1.Locals),(56,.mpt 0 0 5),(55,iA (List.length v23.Locals : Int)),(54,.isl 1 (List.map rStr v23.Locals)),(53,.mpt 1 0 1),(52,bA false),(51,bA false),(50,bA false),(49,.lit undef),(48,.lit undef),(47,.lit undef),(46,.lit undef),(45,.lit undef),(44,.lit undef),(43,.lit undef),(42,.lit undef),(41,.lit undef),(40,.lit undef),(39,bA (decide (0 < v22))),(38,bA (decide (0 < v22))),(37,iA v22),(36,bA (decide ((List.length v1.Code : Int) ≤ v23.At))),(35,bA (decide ((List.length v1.Code : Int) ≤ v23.At))),(34,bA (decide ((List.length v1.Code : Int) ≤ v23.At))),(33,iA (List.length v1.Code : Int)),(32,.isl 4 (List.map rApiIns v1.Code)),(31,.mpt 0 0 7),(30,iA v23.At),(29,.mpt 1 0 0),(28,bA (decide (v23.At < 0))),(27,bA (decide (v23.At < 0))),(26,iA v23.At),(25,.mpt 1 0 0)] 0 (by kernel_rfl) (by kernel_rfl) j0 (by kernel_rfl) (dt0 ⟨(fun _=>pa j0 j0 j0 j0 (pkb j0 hb46 j0<|j4)),(fun _=>pag (b:=(!((List.length v23.Locals : Int) == v1.Locals))) j0 j0 j0 j0 hb46 j0 (gtr ti3 j0 j0<|j4)),(fun _=>pag (b:=(!((List.length v23.Locals : Int) == v1.Locals))) j0 j0 j0 j0 hb46 j0 (ld ti3 j0 j0<|j4)),(fun _=>pag (b:=(!((List.length v23.Locals : Int) == v1.Locals))) j0 j0 j0 j0 hb46 j0 (fa ti62 j0 j0 j0<|j4)),(fun _=>pag (b:=(!((List.length v23.Locals : Int) == v1.Locals))) j0 j0 j0 j0 hb46 j0 (lnI ti32 j0 j0<|j4)),(fun _=>pag (b:=(!((List.length v23.Locals : Int) == v1.Locals))) j0 j0 j0 j0 hb46 j0 (ld ti32 j0 j0<|j4)),(fun _=>pag (b:=(!((List.length v23.Locals : Int) == v1.Locals))) j0 j0 j0 j0 hb46 j0 (fa ti81 j0 j0 j0<|j4)),(fun _=>pa j0 j0 j0 j0 (mv j0<|j4)),(fun _=>pa j0 j0 j0 j0 (pk (b:=false) j0 j0<|j4)),(fun _=>pag (b:=false) j0 j0 j0 j0 j0 j0 (neq ti3 j0 j0<|j4)),(fun _=>pag (b:=false) j0 j0 j0 j0 j0 j0 (ld ti3 j0 j0<|j4)),(fun _=>pag (b:=false) j0 j0 j0 j0 j0 j0 (fa ti62 j0 j0 j0<|j4)),(fun _=>pag (b:=false) j0 j0 j0 j0 j0 j0 (lnI ti32 j0 j0<|j4)),(fun _=>pag (b:=false) j0 j0 j0 j0 j0 j0 (ld ti32 j0 j0<|j4)),(fun _=>pag (b:=false) j0 j0 j0 j0 j0 j0 (fa ti81 j0 j0 j0<|j4)),(fun _=>pa j0 j0 j0 j0 (mv j0<|j4)),(fun _=>pa j0 j0 j0 j0 (pkb j0 hb41 j0<|j4)),(fun _=>pag (b:=(decide ((List.length v1.Code : Int) ≤ v23.At))) j0 j0 j0 j0 hb41 j0 (pkb j0 hb42 j0<|j4)),(fun _=>pas (b:=(decide (0 < v22))) j0 j0 j0 j0 hb42 j0),(fun _=>pas (b:=(decide (0 < v22))) j0 j0 j0 j0 hb42 j0),(fun _=>pas (b:=(decide (0 < v22))) j0 j0 j0 j0 hb42 j0),(fun _=>pas (b:=(decide (0 < v22))) j0 j0 j0 j0 hb42 j0),(fun _=>pas (b:=(decide (0 < v22))) j0 j0 j0 j0 hb42 j0),(fun _=>pas (b:=(decide (0 < v22))) j0 j0 j0 j0 hb42 j0),(fun _=>pas (b:=(decide (0 < v22))) j0 j0 j0 j0 hb42 j0),(fun _=>pas (b:=(decide (0 < v22))) j0 j0 j0 j0 hb42 j0),(fun _=>pas (b:=(decide (0 < v22))) j0 j0 j0 j0 hb42 j0),(fun _=>pas (b:=(decide (0 < v22))) j0 j0 j0 j0 hb42 j0),(fun _=>pag (b:=(decide ((List.length v1.Code : Int) ≤ v23.At))) j0 j0 j0 j0 hb41 j0 (mv j0<|j4)),(fun _=>pag (b:=(decide ((List.length v1.Code : Int) ≤ v23.At))) j0 j0 j0 j0 hb41 j0 (gtr ti3 j0 j0<|j4)),(fun _=>pag (b:=(decide ((List.length v1.Code : Int) ≤ v23.At))) j0 j0 j0 j0 hb41 j0 (mv j0<|j4)),(fun _=>pa j0 j0 j0 j0 (mv j0<|j4)),(fun _=>pa j0 j0 j0 j0 (pkb j0 hb40 j0<|j4)),(fun _=>pag (b:=(decide (v23.At < 0))) j0 j0 j0 j0 hb40 j0 (geq ti3 j0 j0<|j4)),(fun _=>pag (b:=(decide (v23.At < 0))) j0 j0 j0 j0 hb40 j0 (lnI ti58 j0 j0<|j4)),(fun _=>pag (b:=(decide (v23.At < 0))) j0 j0 j0 j0 hb40 j0 (ld ti58 j0 j0<|j4)),(fun _=>pag (b:=(decide (v23.At < 0))) j0 j0 j0 j0 hb40 j0 (fa ti62 j0 j0 j0<|j4)),(fun _=>pag (b:=(decide (v23.At < 0))) j0 j0 j0 j0 hb40 j0 (ld ti3 j0 j0<|j4)),(fun _=>pag (b:=(decide (v23.At < 0))) j0 j0 j0 j0 hb40 j0 (fa ti81 j0 j0 j0<|j4)),(fun _=>pa j0 j0 j0 j0 (mv j0<|j4)),(fun _=>pa j0 j0 j0 j0 (lss ti3 j0 j0<|j4)),(fun _=>pa j0 j0 j0 j0 (ld ti3 j0 j0<|j4)),(fun _=>pa j0 j0 j0 j0 (fa ti81 j0 j0 j0<|j4)),j5⟩ (by kernel_rfl) j0 ⟨(decide (v1.Stack < (List.length v23.Stack : Int))),h,[.old 0,.old 1],cv j0 (.mpt j0)<|ce j0 j0<|cv j0 (.mpt j0)<|ce j0 j0<|cn,j0,⟨⟨_,j0,rsOne ⟨ci j0,ci j0,ci j0,ci j0,ci j0,ci j0,ci j0,ci j0,ci j0,ci j0,j5⟩⟩,⟨_,j0,rsOne ⟨ci j0,ci j0,ci j0,j5⟩⟩,j5⟩,j0,j1⟩)
    ·
     rintro v25 h
     replace h : ref3_maps_j6 v22 v23 v25 = some r:=h
     unfold ref3_maps_j6 at h
     refine sw_cond j0 (fun hc47=>?_) (fun hc47=>?_)
     ·
      replace h:=bT hc47 h
      refine rg j0<|u<|asg j0<|r_nil ?_
      refine sw_ret ?_
      obtain rfl:=sm h
      exact ⟨_,j0,_,j0,[],ci j0,j0,j5,j0,j1⟩
     ·
      replace h:=bF hc47 h
      refine sw_skip ?_
      refine sw_seq ?_
      refine rg j0<|u<|asg j0<|r_nil ?_
      obtain ⟨o,ho,h⟩:=bs h
      refine sw_lpl (X:=Int) (B:=Unit) (R:=Bool) (fun z=>[(1,.mpt 0 0 0),(3,iA v22),(4,.mpt 1 0 0),(5,iA z)]) (fun z=>[some (10,[[sA v1.Name,.isl 1 (List.map rStr v1.Params),sA v1.Ret,bA v1.Static,bA v1.Abstract,iA v1.Locals,iA v1.Stack,.isl 4 (List.map rApiIns v1.Code),.isl 3 (List.map rApiMap v1.Maps),.isl 4 (List.map rApiTrap v1.Traps)]]),some (3,[[iA v23.At,.isl 1 (List.map rStr v23.Locals),.isl 1 (List.map rStr v23.Stack)]])]) (fun b=>[(1,.mpt 0 0 0),(3,iA v22),(4,.mpt 1 0 0)]) (fun b=>[some (10,[[sA v1.Name,.isl 1 (List.map rStr v1.Params),sA v1.Ret,bA v1.Static,bA v1.Abstract,iA v1.Locals,iA v1.Stack,.isl 4 (List.map rApiIns v1.Code),.isl 3 (List.map rApiMap v1.Maps),.isl 4 (List.map rApiTrap v1.Traps)]]),some (3,[[iA v23.At,.isl 1 (List.map rStr v23.Locals),.isl 1 (List.map rStr v23.Stack)]])]) (fun r env st=>PostF Tryz.prog Tryz.f144 0 (bA r) [] env st) ho ⟨[.old 0,.old 1],cv j0 (.mpt j0)<|ce j0 j0<|cv j0 (.mpt j0)<|ce j0 j0<|cn,j0,⟨⟨_,j0,rsOne ⟨ci j0,ci j0,ci j0,ci j0,ci j0,ci j0,ci j0,ci j0,ci j0,ci j0,j5⟩⟩,⟨_,j0,rsOne ⟨ci j0,ci j0,ci j0,j5⟩⟩,j5⟩,j0,j1⟩ ?_ ?_ ?_
      ·
       rintro v30 r h
       replace h : ref3_maps_l7 v23 v30 = some r:=h
       unfold ref3_maps_l7 at h
       refine sw_seq ?_
       refine rg j0<|u<|mv j0<|u<|fa ti81 j0 j0 j0<|u<|ld ti32 j0 j0<|u<|lnI ti32 j0 j0<|u<|lss ti3 j0 j0<|r_nil ?_
       refine sw_cond j0 (fun hc55=>?_) (fun hc55=>?_)
       ·
        replace h:=bT hc55 h
        refine sw_skip ?_
        refine sw_seq ?_
        refine sw_block ?_
        obtain ⟨v31,q56,h⟩:=bs h
        refine rg j0<|u<|fa ti81 j0 j0 j0<|u<|ld ti32 j0 j0<|u<|mv j0<|u<|ixI ti32 j0 ti9 j0 j0 j0 q56<|u<|ldI ti9 j0 (idx_some q56).2.2 j0<|u<|asg j0<|r_nil ?_
        obtain ⟨v33,q60,h⟩:=bs h
        refine rg j0<|u<|mv j0<|u<|sne ti9 j0 j0<|u<|mv j0<|r_and (j:=2) 2 j0 j0 j0 j0 j0 gpn (fun hb57=>g j0 hb57<|mv j0<|g j0 hb57<|sne ti9 j0 j0<|r_nil (egA [83,84] 2 hb57 j0 j0 j0 j0)) andF<|u<|mv j0<|r_and (x:=v33) (j:=6) 3 j0 j0 j0 j0 j0 gpn (fun hb58=>by replace q60:=bT hb58 q60; obtain ⟨v32,q59,q60⟩:=bs q60; obtain rfl:=sm q60; exact g j0 hb58<|mv j0<|g j0 hb58<|pc (ref3_May_ok v31 q59) j0 j0 j0<|g j0 hb58<|nt j0<|r_nil (eg [87,88,89] 3 j0 j0 j0 j0)) (fun hb=>(sm (bF hb q60)).symm)<|r_nil ?_
        refine sw_cond j0 (fun hc61=>?_) (fun hc61=>?_)
        ·
         replace h:=bT hc61 h
         refine rg j0<|u<|asg j0<|r_nil ?_
         refine sw_ret ?_
         obtain rfl:=sm h
         exact ⟨_,j0,_,j0,[],ci j0,j0,j5,j0,j1⟩
        ·
         replace h:=bF hc61 h
         refine sw_skip ?_
         refine rl j0<|u<|mv j0<|u<|add ti3 j0 j0<|u<|asg j0<|r_nil ?_
         obtain rfl:=sm h
         exact ⟨_,j0,[.old 0,.old 1],cv j0 (.mpt j0)<|ce j0 j0<|cv j0 (.mpt j0)<|ce j0 j0<|cn,j0,⟨⟨_,j0,rsOne ⟨ci j0,ci j0,ci j0,ci j0,ci j0,ci j0,ci j0,ci j0,ci j0,ci j0,j5⟩⟩,⟨_,j0,rsOne ⟨ci j0,ci j0,ci j0,j5⟩⟩,j5⟩,j0,j1⟩
       ·
        replace h:=bF hc55 h
        refine sw_exit ?_
        obtain rfl:=sm h
        exact ⟨j0,_,j0,[.old 0,.old 1],cv j0 (.mpt j0)<|ce j0 j0<|cv j0 (.mpt j0)<|cn,j0,⟨⟨_,j0,rsOne ⟨ci j0,ci j0,ci j0,ci j0,ci j0,ci j0,ci j0,ci j0,ci j0,ci j0,j5⟩⟩,⟨_,j0,rsOne ⟨ci j0,ci j0,ci j0,j5⟩⟩,j5⟩,j0,j1⟩
      ·
       rintro ⟨⟩ rfl
       replace h : ref3_maps_k8 v22 v23 = some r:=h
       unfold ref3_maps_k8 at h
       refine ow_intro ?_
       refine rg j0<|u<|asg j0<|r_nil ?_
       obtain ⟨o,ho,h⟩:=bs h
       refine sw_lpl (X:=Int) (B:=Unit) (R:=Bool) (fun z=>[(1,.mpt 0 0 0),(3,iA v22),(4,.mpt 1 0 0),(7,iA z)]) (fun z=>[some (10,[[sA v1.Name,.isl 1 (List.map rStr v1.Params),sA v1.Ret,bA v1.Static,bA v1.Abstract,iA v1.Locals,iA v1.Stack,.isl 4 (List.map rApiIns v1.Code),.isl 3 (List.map rApiMap v1.Maps),.isl 4 (List.map rApiTrap v1.Traps)]]),some (3,[[iA v23.At,.isl 1 (List.map rStr v23.Locals),.isl 1 (List.map rStr v23.Stack)]])]) (fun b=>[(1,.mpt 0 0 0),(3,iA v22)]) (fun b=>[some (10,[[sA v1.Name,.isl 1 (List.map rStr v1.Params),sA v1.Ret,bA v1.Static,bA v1.Abstract,iA v1.Locals,iA v1.Stack,.isl 4 (List.map rApiIns v1.Code),.isl 3 (List.map rApiMap v1.Maps),.isl 4 (List.map rApiTrap v1.Traps)]])]) (fun r env st=>PostF Tryz.prog Tryz.f144 0 (bA r) [] env st) ho ⟨[.old 0,.old 1],cv j0 (.mpt j0)<|ce j0 j0<|cv j0 (.mpt j0)<|ce j0 j0<|cn,j0,⟨⟨_,j0,rsOne ⟨ci j0,ci j0,ci j0,ci j0,ci j0,ci j0,ci j0,ci j0,ci j0,ci j0,j5⟩⟩,⟨_,j0,rsOne ⟨ci j0,ci j0,ci j0,j5⟩⟩,j5⟩,j0,j1⟩ ?_ ?_ ?_
       ·
        rintro v38 r h
        replace h : ref3_maps_l9 v23 v38 = some r:=h
        unfold ref3_maps_l9 at h
        refine sw_seq ?_
        refine rg j0<|u<|mv j0<|u<|fa ti81 j0 j0 j0<|u<|ld ti32 j0 j0<|u<|lnI ti32 j0 j0<|u<|lss ti3 j0 j0<|r_nil ?_
        refine sw_cond j0 (fun hc68=>?_) (fun hc68=>?_)
        ·
         replace h:=bT hc68 h
         refine sw_skip ?_
         refine sw_seq ?_
         refine sw_block ?_
         obtain ⟨v39,q69,h⟩:=bs h
         refine rg j0<|u<|fa ti81 j0 j0 j0<|u<|ld ti32 j0 j0<|u<|mv j0<|u<|ixI ti32 j0 ti9 j0 j0 j0 q69<|u<|ldI ti9 j0 (idx_some q69).2.2 j0<|u<|asg j0<|r_nil ?_
         obtain ⟨v41,q72,h⟩:=bs h
         refine rg j0<|u<|mv j0<|u<|sne ti9 j0 j0<|u<|mv j0<|r_and (x:=v41) (j:=2) 3 j0 j0 j0 j0 j0 gpn (fun hb70=>by replace q72:=bT hb70 q72; obtain ⟨v40,q71,q72⟩:=bs q72; obtain rfl:=sm q72; exact g j0 hb70<|mv j0<|g j0 hb70<|pc (ref3_May_ok v39 q71) j0 j0 j0<|g j0 hb70<|nt j0<|r_nil (eg [106,107,108] 3 j0 j0 j0 j0)) (fun hb=>(sm (bF hb q72)).symm)<|r_nil ?_
         refine sw_cond j0 (fun hc73=>?_) (fun hc73=>?_)
         ·
          replace h:=bT hc73 h
          refine rg j0<|u<|asg j0<|r_nil ?_
          refine sw_ret ?_
          obtain rfl:=sm h
          exact ⟨_,j0,_,j0,[],ci j0,j0,j5,j0,j1⟩
         ·
          replace h:=bF hc73 h
          refine sw_skip ?_
          refine rl j0<|u<|mv j0<|u<|add ti3 j0 j0<|u<|asg j0<|r_nil ?_
          obtain rfl:=sm h
          exact ⟨_,j0,[.old 0,.old 1],cv j0 (.mpt j0)<|ce j0 j0<|cv j0 (.mpt j0)<|ce j0 j0<|cn,j0,⟨⟨_,j0,rsOne ⟨ci j0,ci j0,ci j0,ci j0,ci j0,ci j0,ci j0,ci j0,ci j0,ci j0,j5⟩⟩,⟨_,j0,rsOne ⟨ci j0,ci j0,ci j0,j5⟩⟩,j5⟩,j0,j1⟩
        ·
         replace h:=bF hc68 h
         refine sw_exit ?_
         obtain rfl:=sm h
         exact ⟨j0,_,j0,[.old 0],cv j0 (.mpt j0)<|ce j0 j0<|cn,j0,⟨⟨_,j0,rsOne ⟨ci j0,ci j0,ci j0,ci j0,ci j0,ci j0,ci j0,ci j0,ci j0,ci j0,j5⟩⟩,j5⟩,j0,j1⟩
       ·
        rintro ⟨⟩ rfl
        replace h : ref3_maps_k10 v22 = some r:=h
        unfold ref3_maps_k10 at h
        refine ow_intro ?_
        refine rl j0<|u<|mv j0<|u<|add ti3 j0 j0<|u<|asg j0<|r_nil ?_
        obtain rfl:=sm h
        exact ⟨_,j0,[.old 0],cv j0 (.mpt j0)<|ce j0 j0<|cn,j0,⟨⟨_,j0,rsOne ⟨ci j0,ci j0,ci j0,ci j0,ci j0,ci j0,ci j0,ci j0,ci j0,ci j0,j5⟩⟩,j5⟩,j0,j1⟩
       ·
        rintro r' rfl env st hp
        obtain rfl:=sm h
        exact ⟨_,j0,hp⟩
      ·
       rintro r' rfl env st hp
       obtain rfl:=sm h
       exact ⟨_,j0,hp⟩
   ·
    replace h:=bF hc38 h
    refine sw_exit ?_
    obtain rfl:=sm h
    exact ⟨j0,_,j0,[],cn,j0,j5,j0,j1⟩
  ·
   rintro ⟨⟩ rfl
   replace h : ref3_maps_k12 = some r:=h
   unfold ref3_maps_k12 at h
   refine ow_intro ?_
   refine rg j0<|u<|asg j0<|r_nil ?_
   refine sw_ret ?_
   obtain rfl:=sm h
   exact ⟨_,j0,[],ci j0,j0,j5,j0,j1⟩
  ·
   rintro r' rfl env st hp
   obtain rfl:=sm h
   exact hp
def ref3_MayMethod_j3 (v1 : ApiMethod) (v11 : Int) : Option (Bool) :=
  cond ((((decide (v1.Locals < v11)) || (decide (16 < v1.Locals))) || (decide (v1.Stack < 0))) || (decide (16 < v1.Stack))) (some false) ((ref3_body v1).bind fun v12=>(cond v12 ((ref3_maps v1).bind fun v13=>some v13) (some false)).bind fun v14=>some v14)
def ref3_MayMethod_k2 (v1 : ApiMethod) : Option (Bool) :=
  cond v1.Abstract (some (((((((!v1.Static) && (!(v1.Name == [36,105,110,105,116]))) && (v1.Locals == (0 : Int))) && (v1.Stack == (0 : Int))) && ((List.length v1.Code : Int) == (0 : Int))) && ((List.length v1.Maps : Int) == (0 : Int))) && ((List.length v1.Traps : Int) == (0 : Int)))) (cond ((v1.Name == [36,105,110,105,116]) && (((!v1.Static) || (decide (0 < (List.length v1.Params : Int)))) || (!(v1.Ret == [86])))) (some false) (cond (!v1.Static) (ref3_MayMethod_j3 v1 (IntKind.i64.wrap ((List.length v1.Params : Int) + 1))) (ref3_MayMethod_j3 v1 (List.length v1.Params : Int))))
def ref3_MayMethod_l1 (v1 : ApiMethod) (v8 : Int) : Option (Sum (Int) (Sum (Unit) (Bool))) :=
  cond (decide (v8 < (List.length v1.Params : Int))) ((idx v1.Params v8).bind fun v9=>(ref3_May v9).bind fun v10=>cond (!v10) (some (.inr (.inr false))) (some (.inl (IntKind.i64.wrap (v8 + 1))))) (some (.inr (.inl ())))
def ref3_MayMethod (v1 : ApiMethod) : Option (Bool) :=
  (ref3_Name v1.Name).bind fun v2=>(cond ((!v2) || (decide (6 < (List.length v1.Params : Int)))) (some true) ((ref3_Ret v1.Ret).bind fun v3=>some (!v3))).bind fun v4=>cond v4 (some false) ((loopP (fun z=>ref3_MayMethod_l1 v1 z) 0).bind fun o=>leave o (fun b=>ref3_MayMethod_k2 v1) some)
theorem ref3_MayMethod_ok (v1 : ApiMethod) {r : Bool} (h : ref3_MayMethod v1 = some r) : PureC Tryz.prog 111 [.agg [sA v1.Name,.isl 1 (List.map rStr v1.Params),sA v1.Ret,bA v1.Static,bA v1.Abstract,iA v1.Locals,iA v1.Stack,.isl 4 (List.map rApiIns v1.Code),.isl 3 (List.map rApiMap v1.Maps),.isl 4 (List.map rApiTrap v1.Traps)]] (bA r):=by
 refine pure_fn Tryz.func111 j0 (by kernel_rfl) j0 j0 ?_
 unfold ref3_MayMethod at h
 refine rg j0<|u<|bx 0 10 j0 j0 j0 j0<|u<|asg j0<|r_nil ?_
 refine sw_seq ?_
 obtain ⟨v2,q1,h⟩:=bs h
 obtain ⟨v4,q5,h⟩:=bs h
 refine rg j0<|u<|fa ti62 j0 j0 j0<|u<|ld ti9 j0 j0<|u<|pc (ref3_Name_ok v1.Name q1) j0 j0 j0<|u<|nt j0<|u<|mv j0<|r_or (j:=4) 4 j0 j0 j0 j0 j0 gpn (fun hb2=>g j0 hb2<|fa ti62 j0 j0 j0<|g j0 hb2<|ld ti32 j0 j0<|g j0 hb2<|lnI ti32 j0 j0<|g j0 hb2<|gtr ti3 j0 j0<|r_nil (egO [10,11,12,13] 4 hb2 j0 j0 j0 j0)) orT<|u<|mv j0<|r_or (x:=v4) (j:=10) 4 j0 j0 j0 j0 j0 gpn (fun hb3=>by replace q5:=bF hb3 q5; obtain ⟨v3,q4,q5⟩:=bs q5; obtain rfl:=sm q5; exact g j0 hb3<|fa ti62 j0 j0 j0<|g j0 hb3<|ld ti9 j0 j0<|g j0 hb3<|pc (ref3_Ret_ok v1.Ret q4) j0 j0 j0<|g j0 hb3<|nt j0<|r_nil (eg [16,17,18,19] 4 j0 j0 j0 j0)) (fun hb=>(sm (bT hb q5)).symm)<|r_nil ?_
 refine sw_cond j0 (fun hc6=>?_) (fun hc6=>?_)
 ·
  replace h:=bT hc6 h
  refine rg j0<|u<|asg j0<|r_nil ?_
  refine sw_ret ?_
  obtain rfl:=sm h
  exact ⟨_,j0,[],ci j0,j0,j5,j0,j1⟩
 ·
  replace h:=bF hc6 h
  refine sw_skip ?_
  refine sw_seq ?_
  refine rg j0<|u<|asg j0<|r_nil ?_
  obtain ⟨o,ho,h⟩:=bs h
  refine sw_lpl (X:=Int) (B:=Unit) (R:=Bool) (fun z=>[(1,.mpt 0 0 0),(3,iA z)]) (fun z=>[some (10,[[sA v1.Name,.isl 1 (List.map rStr v1.Params),sA v1.Ret,bA v1.Static,bA v1.Abstract,iA v1.Locals,iA v1.Stack,.isl 4 (List.map rApiIns v1.Code),.isl 3 (List.map rApiMap v1.Maps),.isl 4 (List.map rApiTrap v1.Traps)]])]) (fun b=>[(1,.mpt 0 0 0)]) (fun b=>[some (10,[[sA v1.Name,.isl 1 (List.map rStr v1.Params),sA v1.Ret,bA v1.Static,bA v1.Abstract,iA v1.Locals,iA v1.Stack,.isl 4 (List.map rApiIns v1.Code),.isl 3 (List.map rApiMap v1.Maps),.isl 4 (List.map rApiTrap v1.Traps)]])]) (fun r env st=>PostF Tryz.prog Tryz.f111 0 (bA r) [] env st) ho ⟨[.old 0],cv j0 (.mpt j0)<|ce j0 j0<|cn,j0,⟨⟨_,j0,rsOne ⟨ci j0,ci j0,ci j0,ci j0,ci j0,ci j0,ci j0,ci j0,ci j0,ci j0,j5⟩⟩,j5⟩,j0,j1⟩ ?_ ?_ ?_
  ·
   rintro v8 r h
   replace h : ref3_MayMethod_l1 v1 v8 = some r:=h
   unfold ref3_MayMethod_l1 at h
   refine sw_seq ?_
   refine rg j0<|u<|mv j0<|u<|fa ti62 j0 j0 j0<|u<|ld ti32 j0 j0<|u<|lnI ti32 j0 j0<|u<|lss ti3 j0 j0<|r_nil ?_
   refine sw_cond j0 (fun hc11=>?_) (fun hc11=>?_)
   ·
    replace h:=bT hc11 h
    refine sw_skip ?_
    refine sw_seq ?_
    refine sw_block ?_
    obtain ⟨v9,q12,h⟩:=bs h
    obtain ⟨v10,q13,h⟩:=bs h
    refine rg j0<|u<|fa ti62 j0 j0 j0<|u<|ld ti32 j0 j0<|u<|mv j0<|u<|ixI ti32 j0 ti9 j0 j0 j0 q12<|u<|ldI ti9 j0 (idx_some q12).2.2 j0<|u<|pc (ref3_May_ok v9 q13) j0 j0 j0<|u<|nt j0<|r_nil ?_
    refine sw_cond j0 (fun hc14=>?_) (fun hc14=>?_)
    ·
     replace h:=bT hc14 h
     refine rg j0<|u<|asg j0<|r_nil ?_
     refine sw_ret ?_
     obtain rfl:=sm h
     exact ⟨_,j0,_,j0,[],ci j0,j0,j5,j0,j1⟩
    ·
     replace h:=bF hc14 h
     refine sw_skip ?_
     refine rl j0<|u<|mv j0<|u<|add ti3 j0 j0<|u<|asg j0<|r_nil ?_
     obtain rfl:=sm h
     exact ⟨_,j0,[.old 0],cv j0 (.mpt j0)<|ce j0 j0<|cn,j0,⟨⟨_,j0,rsOne ⟨ci j0,ci j0,ci j0,ci j0,ci j0,ci j0,ci j0,ci j0,ci j0,ci j0,j5⟩⟩,j5⟩,j0,j1⟩
   ·
    replace h:=bF hc11 h
    refine sw_exit ?_
    obtain rfl:=sm h
    exact ⟨j0,_,j0,[.old 0],cv j0 (.mpt j0)<|cn,j0,⟨⟨_,j0,rsOne ⟨ci j0,ci j0,ci j0,ci j0,ci j0,ci j0,ci j0,ci j0,ci j0,ci j0,j5⟩⟩,j5⟩,j0,j1⟩
  ·
   rintro ⟨⟩ rfl
   replace h : ref3_MayMethod_k2 v1 = some r:=h
   unfold ref3_MayMethod_k2 at h
   refine ow_intro ?_
   refine sw_seq ?_
   refine rg j0<|u<|fa ti62 j0 j0 j0<|u<|ld ti4 j0 j0<|r_nil ?_
   refine sw_cond j0 (fun hc15=>?_) (fun hc15=>?_)
   ·
    replace h:=bT hc15 h
    refine rg j0<|u<|fa ti62 j0 j0 j0<|u<|ld ti4 j0 j0<|u<|nt j0<|u<|mv j0<|r_and (j:=3) 3 j0 j0 j0 j0 j0 gpn (fun hb16=>g j0 hb16<|fa ti62 j0 j0 j0<|g j0 hb16<|ld ti9 j0 j0<|g j0 hb16<|sne ti9 j0 j0<|r_nil (egA [41,42,43] 3 hb16 j0 j0 j0 j0)) andF<|u<|mv j0<|r_and (j:=8) 3 j0 j0 j0 j0 j0 gpn (fun hb17=>g j0 hb17<|fa ti62 j0 j0 j0<|g j0 hb17<|ld ti3 j0 j0<|g j0 hb17<|eql ti3 j0 j0<|r_nil (egA [46,47,48] 3 hb17 j0 j0 j0 j0)) andF<|u<|mv j0<|r_and (j:=13) 3 j0 j0 j0 j0 j0 gpn (fun hb18=>g j0 hb18<|fa ti62 j0 j0 j0<|g j0 hb18<|ld ti3 j0 j0<|g j0 hb18<|eql ti3 j0 j0<|r_nil (egA [51,52,53] 3 hb18 j0 j0 j0 j0)) andF<|u<|mv j0<|r_and (j:=18) 4 j0 j0 j0 j0 j0 gpn (fun hb19=>g j0 hb19<|fa ti62 j0 j0 j0<|g j0 hb19<|ld ti58 j0 j0<|g j0 hb19<|lnI ti58 j0 j0<|g j0 hb19<|eql ti3 j0 j0<|r_nil (egA [56,57,58,59] 4 hb19 j0 j0 j0 j0)) andF<|u<|mv j0<|r_and (j:=24) 4 j0 j0 j0 j0 j0 gpn (fun hb20=>g j0 hb20<|fa ti62 j0 j0 j0<|g j0 hb20<|ld ti59 j0 j0<|g j0 hb20<|lnI ti59 j0 j0<|g j0 hb20<|eql ti3 j0 j0<|r_nil (egA [62,63,64,65] 4 hb20 j0 j0 j0 j0)) andF<|u<|mv j0<|r_and (j:=30) 4 j0 j0 j0 j0 j0 gpn (fun hb21=>g j0 hb21<|fa ti62 j0 j0 j0<|g j0 hb21<|ld ti60 j0 j0<|g j0 hb21<|lnI ti60 j0 j0<|g j0 hb21<|eql ti3 j0 j0<|r_nil (egA [68,69,70,71] 4 hb21 j0 j0 j0 j0)) andF<|u<|asg j0<|r_nil ?_
    refine sw_ret ?_
    obtain rfl:=sm h
    exact ⟨_,j0,[],ci j0,j0,j5,j0,j1⟩
   ·
    replace h:=bF hc15 h
    refine sw_skip ?_
    refine sw_seq ?_
    refine rg j0<|u<|fa ti62 j0 j0 j0<|u<|ld ti9 j0 j0<|u<|seq ti9 j0 j0<|u<|mv j0<|r_and (j:=3) 14 j0 j0 j0 j0 j0 gpn (fun hb22=>g j0 hb22<|fa ti62 j0 j0 j0<|g j0 hb22<|ld ti4 j0 j0<|g j0 hb22<|nt j0<|g j0 hb22<|mv j0<|r_or (j:=7) 4 j0 j0 j0 j0 j0 (gps j0 j0 hb22) (fun hb23=>g j0 hb23<|fa ti62 j0 j0 j0<|g j0 hb23<|ld ti32 j0 j0<|g j0 hb23<|lnI ti32 j0 j0<|g j0 hb23<|gtr ti3 j0 j0<|r_nil (egO [81,82,83,84] 4 hb23 j0 j0 j0 j0)) orT<|g j0 hb22<|mv j0<|r_or (j:=13) 3 j0 j0 j0 j0 j0 (gps j0 j0 hb22) (fun hb24=>g j0 hb24<|fa ti62 j0 j0 j0<|g j0 hb24<|ld ti9 j0 j0<|g j0 hb24<|sne ti9 j0 j0<|r_nil (egO [87,88,89] 3 hb24 j0 j0 j0 j0)) orT<|r_nil (egA [77,78,79,80,81,82,83,84,85,86,87,88,89,90] 7 hb22 j0 j0 j0 j0)) andF<|r_nil ?_
    refine sw_cond j0 (fun hc25=>?_) (fun hc25=>?_)
    ·
     replace h:=bT hc25 h
     refine rg j0<|u<|asg j0<|r_nil ?_
     refine sw_ret ?_
     obtain rfl:=sm h
     exact ⟨_,j0,[],ci j0,j0,j5,j0,j1⟩
    ·
     replace h:=bF hc25 h
     refine sw_skip ?_
     refine rg j0<|u<|fa ti62 j0 j0 j0<|u<|ld ti32 j0 j0<|u<|lnI ti32 j0 j0<|u<|asg j0<|r_nil ?_
     refine sw_meet (X:=Int) (fun z=>[(1,.mpt 0 0 0),(4,iA z)]) (fun z=>[some (10,[[sA v1.Name,.isl 1 (List.map rStr v1.Params),sA v1.Ret,bA v1.Static,bA v1.Abstract,iA v1.Locals,iA v1.Stack,.isl 4 (List.map rApiIns v1.Code),.isl 3 (List.map rApiMap v1.Maps),.isl 4 (List.map rApiTrap v1.Traps)]])]) (fun z=>ref3_MayMethod_j3 v1 z = some r) ?_ ?_
     ·
      refine rg j0<|u<|fa ti62 j0 j0 j0<|u<|ld ti4 j0 j0<|u<|nt j0<|r_nil ?_
      refine sw_cond j0 (fun hc26=>?_) (fun hc26=>?_)
      ·
       replace h:=bT hc26 h
       exact rl j0<|u<|mv j0<|u<|add ti3 j0 j0<|u<|asg j0<|r_nil (⟨(IntKind.i64.wrap ((List.length v1.Params : Int) + 1)),h,[.old 0],cv j0 (.mpt j0)<|ce j0 j0<|cn,j0,⟨⟨_,j0,rsOne ⟨ci j0,ci j0,ci j0,ci j0,ci j0,ci j0,ci j0,ci j0,ci j0,ci j0,j5⟩⟩,j5⟩,j0,j1⟩)
      ·
       replace h:=bF hc26 h
       refine sw_skip ?_
       exact ⟨(List.length v1.Params : Int),h,[.old 0],cv j0 (.mpt j0)<|ce j0 j0<|cn,j0,⟨⟨_,j0,rsOne ⟨ci j0,ci j0,ci j0,ci j0,ci j0,ci j0,ci j0,ci j0,ci j0,ci j0,j5⟩⟩,j5⟩,j0,j1⟩
     ·
      rintro v11 h
      replace h : ref3_MayMethod_j3 v1 v11 = some r:=h
      unfold ref3_MayMethod_j3 at h
      refine sw_seq ?_
      refine rg j0<|u<|fa ti62 j0 j0 j0<|u<|ld ti3 j0 j0<|u<|mv j0<|u<|lss ti3 j0 j0<|u<|mv j0<|r_or (j:=4) 3 j0 j0 j0 j0 j0 gpn (fun hb27=>g j0 hb27<|fa ti62 j0 j0 j0<|g j0 hb27<|ld ti3 j0 j0<|g j0 hb27<|gtr ti3 j0 j0<|r_nil (egO [105,106,107] 3 hb27 j0 j0 j0 j0)) orT<|u<|mv j0<|r_or (j:=9) 3 j0 j0 j0 j0 j0 gpn (fun hb28=>g j0 hb28<|fa ti62 j0 j0 j0<|g j0 hb28<|ld ti3 j0 j0<|g j0 hb28<|lss ti3 j0 j0<|r_nil (egO [110,111,112] 3 hb28 j0 j0 j0 j0)) orT<|u<|mv j0<|r_or (j:=14) 3 j0 j0 j0 j0 j0 gpn (fun hb29=>g j0 hb29<|fa ti62 j0 j0 j0<|g j0 hb29<|ld ti3 j0 j0<|g j0 hb29<|gtr ti3 j0 j0<|r_nil (egO [115,116,117] 3 hb29 j0 j0 j0 j0)) orT<|r_nil ?_
      refine sw_cond j0 (fun hc30=>?_) (fun hc30=>?_)
      ·
       replace h:=bT hc30 h
       refine rg j0<|u<|asg j0<|r_nil ?_
       refine sw_ret ?_
       obtain rfl:=sm h
       exact ⟨_,j0,[],ci j0,j0,j5,j0,j1⟩
      ·
       replace h:=bF hc30 h
       refine sw_skip ?_
       obtain ⟨v12,q31,h⟩:=bs h
       obtain ⟨v14,q34,h⟩:=bs h
       refine rg j0<|u<|ld ti62 j0 j0<|u<|pc (ref3_body_ok v1 q31) j0 j0 j0<|u<|mv j0<|r_and (x:=v14) (j:=2) 2 j0 j0 j0 j0 j0 gpn (fun hb32=>by replace q34:=bT hb32 q34; obtain ⟨v13,q33,q34⟩:=bs q34; obtain rfl:=sm q34; exact g j0 hb32<|ld ti62 j0 j0<|g j0 hb32<|pc (ref3_maps_ok v1 q33) j0 j0 j0<|r_nil (eg [122,123] 2 j0 j0 j0 j0)) (fun hb=>(sm (bF hb q34)).symm)<|u<|asg j0<|r_nil ?_
       refine sw_ret ?_
       obtain rfl:=sm h
       exact ⟨_,j0,[],ci j0,j0,j5,j0,j1⟩
  ·
   rintro r' rfl env st hp
   obtain rfl:=sm h
   exact hp
def ref3_MayClass_k10 : Option (Bool) :=
  some true
def ref3_MayClass_l9 (v1 : ApiClass) (v43 : Int) : Option (Sum (Int) (Sum (Unit) (Bool))) :=
  cond (decide (v43 < (List.length v1.Methods : Int))) ((idx v1.Methods v43).bind fun v44=>(cond (!(v44.Abstract == v1.Interface)) (some true) ((ref3_Method v1 v44.Name).bind fun v45=>some (!(v45 == v43)))).bind fun v46=>(cond v46 (some true) ((ref3_MayMethod v44).bind fun v47=>some (!v47))).bind fun v48=>cond v48 (some (.inr (.inr false))) (some (.inl (IntKind.i64.wrap (v43 + 1))))) (some (.inr (.inl ())))
def ref3_MayClass_k8 (v1 : ApiClass) : Option (Bool) :=
  (loopP (fun z=>ref3_MayClass_l9 v1 z) 0).bind fun o=>leave o (fun b=>ref3_MayClass_k10) some
def ref3_MayClass_l7 (v1 : ApiClass) (v30 : Int) : Option (Sum (Int) (Sum (Unit) (Bool))) :=
  cond (decide (v30 < (List.length v1.Fields : Int))) ((idx v1.Fields v30).bind fun v31=>(ref3_Name v31.Name).bind fun v32=>(cond ((!v32) || (v31.Name == [36,105,110,105,116])) (some true) ((ref3_May v31.Type_).bind fun v33=>some (!v33))).bind fun v34=>(cond v34 (some true) ((ref3_Field v1 v31.Name).bind fun v35=>some (!(v35 == v30)))).bind fun v36=>cond v36 (some (.inr (.inr false))) (some (.inl (IntKind.i64.wrap (v30 + 1))))) (some (.inr (.inl ())))
def ref3_MayClass_k6 (v1 : ApiClass) : Option (Bool) :=
  (loopP (fun z=>ref3_MayClass_l7 v1 z) 0).bind fun o=>leave o (fun b=>ref3_MayClass_k8 v1) some
def ref3_MayClass_k4 (v14 : Int) : Option (Sum (Int) (Sum (Unit) (Bool))) :=
  some (.inl (IntKind.i64.wrap (v14 + 1)))
def ref3_MayClass_l3 (v1 : ApiClass) (v14 : Int) (v20 : Int) : Option (Sum (Int) (Sum (Unit) (Bool))) :=
  cond (decide (v20 < v14)) ((idx v1.Impl v20).bind fun v21=>(idx v1.Impl v14).bind fun v22=>cond (v21 == v22) (some (.inr (.inr false))) (some (.inl (IntKind.i64.wrap (v20 + 1))))) (some (.inr (.inl ())))
def ref3_MayClass_l5 (v1 : ApiClass) (v14 : Int) : Option (Sum (Int) (Sum (Unit) (Bool))) :=
  cond (decide (v14 < (List.length v1.Impl : Int))) ((idx v1.Impl v14).bind fun v15=>(ref3_Class v15).bind fun v16=>cond (!v16) (some (.inr (.inr false))) ((loopP (fun z=>ref3_MayClass_l3 v1 v14 z) 0).bind fun o=>leave o (fun b=>ref3_MayClass_k4 v14) (fun r=>some (.inr (.inr r))))) (some (.inr (.inl ())))
def ref3_MayClass (v1 : ApiClass) : Option (Bool) :=
  (ref3_Class v1.Name).bind fun v2=>(cond (!v2) (some true) ((ref3_Class v1.Super).bind fun v3=>some (!v3))).bind fun v4=>cond (((v4 || (decide (4 < (List.length v1.Impl : Int)))) || (decide (8 < (List.length v1.Fields : Int)))) || (decide (8 < (List.length v1.Methods : Int)))) (some false) (cond (v1.Interface && ((!(v1.Super == [79,98,106,101,99,116])) || (decide (0 < (List.length v1.Fields : Int))))) (some false) ((loopP (fun z=>ref3_MayClass_l5 v1 z) 0).bind fun o=>leave o (fun b=>ref3_MayClass_k6 v1) some))
theorem ref3_MayClass_ok (v1 : ApiClass) {r : Bool} (h : ref3_MayClass v1 = some r) : PureC Tryz.prog 65 [.agg [sA v1.Name,sA v1.Super,bA v1.Interface,.isl 1 (List.map rStr v1.Impl),.isl 3 (List.map rApiField v1.Fields),.isl 10 (List.map rApiMethod v1.Methods)]] (bA r):=by
 refine pure_fn Tryz.func65 j0 (by kernel_rfl) j0 j0 ?_
 unfold ref3_MayClass at h
 refine rg j0<|u<|bx 0 6 j0 j0 j0 j0<|u<|asg j0<|r_nil ?_
 refine sw_seq ?_
 obtain ⟨v2,q1,h⟩:=bs h
 obtain ⟨v4,q4,h⟩:=bs h
 refine rg j0<|u<|fa ti42 j0 j0 j0<|u<|ld ti9 j0 j0<|u<|pc (ref3_Class_ok v1.Name q1) j0 j0 j0<|u<|nt j0<|u<|mv j0<|r_or (x:=v4) (j:=4) 4 j0 j0 j0 j0 j0 gpn (fun hb2=>by replace q4:=bF hb2 q4; obtain ⟨v3,q3,q4⟩:=bs q4; obtain rfl:=sm q4; exact g j0 hb2<|fa ti42 j0 j0 j0<|g j0 hb2<|ld ti9 j0 j0<|g j0 hb2<|pc (ref3_Class_ok v1.Super q3) j0 j0 j0<|g j0 hb2<|nt j0<|r_nil (eg [14,15,16,17] 4 j0 j0 j0 j0)) (fun hb=>(sm (bT hb q4)).symm)<|u<|mv j0<|r_or (j:=10) 4 j0 j0 j0 j0 j0 gpn (fun hb5=>g j0 hb5<|fa ti42 j0 j0 j0<|g j0 hb5<|ld ti32 j0 j0<|g j0 hb5<|lnI ti32 j0 j0<|g j0 hb5<|gtr ti3 j0 j0<|r_nil (egO [20,21,22,23] 4 hb5 j0 j0 j0 j0)) orT<|u<|mv j0<|r_or (j:=16) 4 j0 j0 j0 j0 j0 gpn (fun hb6=>g j0 hb6<|fa ti42 j0 j0 j0<|g j0 hb6<|ld ti39 j0 j0<|g j0 hb6<|lnI ti39 j0 j0<|g j0 hb6<|gtr ti3 j0 j0<|r_nil (egO [26,27,28,29] 4 hb6 j0 j0 j0 j0)) orT<|u<|mv j0<|r_or (j:=22) 4 j0 j0 j0 j0 j0 gpn (fun hb7=>g j0 hb7<|fa ti42 j0 j0 j0<|g j0 hb7<|ld ti40 j0 j0<|g j0 hb7<|lnI ti40 j0 j0<|g j0 hb7<|gtr ti3 j0 j0<|r_nil (egO [32,33,34,35] 4 hb7 j0 j0 j0 j0)) orT<|r_nil ?_
 refine sw_cond j0 (fun hc8=>?_) (fun hc8=>?_)
 ·
  replace h:=bT hc8 h
  refine rg j0<|u<|asg j0<|r_nil ?_
  refine sw_ret ?_
  obtain rfl:=sm h
  exact ⟨_,j0,[],ci j0,j0,j5,j0,j1⟩
 ·
  replace h:=bF hc8 h
  refine sw_skip ?_
  refine sw_seq ?_
  refine rg j0<|u<|fa ti42 j0 j0 j0<|u<|ld ti4 j0 j0<|u<|mv j0<|r_and (j:=2) 9 j0 j0 j0 j0 j0 gpn (fun hb9=>g j0 hb9<|fa ti42 j0 j0 j0<|g j0 hb9<|ld ti9 j0 j0<|g j0 hb9<|sne ti9 j0 j0<|g j0 hb9<|mv j0<|r_or (j:=6) 4 j0 j0 j0 j0 j0 (gps j0 j0 hb9) (fun hb10=>g j0 hb10<|fa ti42 j0 j0 j0<|g j0 hb10<|ld ti39 j0 j0<|g j0 hb10<|lnI ti39 j0 j0<|g j0 hb10<|gtr ti3 j0 j0<|r_nil (egO [44,45,46,47] 4 hb10 j0 j0 j0 j0)) orT<|r_nil (egA [40,41,42,43,44,45,46,47,48] 5 hb9 j0 j0 j0 j0)) andF<|r_nil ?_
  refine sw_cond j0 (fun hc11=>?_) (fun hc11=>?_)
  ·
   replace h:=bT hc11 h
   refine rg j0<|u<|asg j0<|r_nil ?_
   refine sw_ret ?_
   obtain rfl:=sm h
   exact ⟨_,j0,[],ci j0,j0,j5,j0,j1⟩
  ·
   replace h:=bF hc11 h
   refine sw_skip ?_
   refine sw_seq ?_
   refine rg j0<|u<|asg j0<|r_nil ?_
   obtain ⟨o,ho,h⟩:=bs h
   refine sw_lpl (X:=Int) (B:=Unit) (R:=Bool) (fun z=>[(1,.mpt 0 0 0),(3,iA z)]) (fun z=>[some (6,[[sA v1.Name,sA v1.Super,bA v1.Interface,.isl 1 (List.map rStr v1.Impl),.isl 3 (List.map rApiField v1.Fields),.isl 10 (List.map rApiMethod v1.Methods)]])]) (fun b=>[(1,.mpt 0 0 0)]) (fun b=>[some (6,[[sA v1.Name,sA v1.Super,bA v1.Interface,.isl 1 (List.map rStr v1.Impl),.isl 3 (List.map rApiField v1.Fields),.isl 10 (List.map rApiMethod v1.Methods)]])]) (fun r env st=>PostF Tryz.prog Tryz.f65 0 (bA r) [] env st) ho ⟨[.old 0],cv j0 (.mpt j0)<|ce j0 j0<|cn,j0,⟨⟨_,j0,rsOne ⟨ci j0,ci j0,ci j0,ci j0,ci j0,ci j0,j5⟩⟩,j5⟩,j0,j1⟩ ?_ ?_ ?_
   ·
    rintro v14 r h
    replace h : ref3_MayClass_l5 v1 v14 = some r:=h
    unfold ref3_MayClass_l5 at h
    refine sw_seq ?_
    refine rg j0<|u<|mv j0<|u<|fa ti42 j0 j0 j0<|u<|ld ti32 j0 j0<|u<|lnI ti32 j0 j0<|u<|lss ti3 j0 j0<|r_nil ?_
    refine sw_cond j0 (fun hc24=>?_) (fun hc24=>?_)
    ·
     replace h:=bT hc24 h
     refine sw_skip ?_
     refine sw_seq ?_
     refine sw_block ?_
     refine sw_seq ?_
     obtain ⟨v15,q25,h⟩:=bs h
     obtain ⟨v16,q26,h⟩:=bs h
     refine rg j0<|u<|fa ti42 j0 j0 j0<|u<|ld ti32 j0 j0<|u<|mv j0<|u<|ixI ti32 j0 ti9 j0 j0 j0 q25<|u<|ldI ti9 j0 (idx_some q25).2.2 j0<|u<|pc (ref3_Class_ok v15 q26) j0 j0 j0<|u<|nt j0<|r_nil ?_
     refine sw_cond j0 (fun hc27=>?_) (fun hc27=>?_)
     ·
      replace h:=bT hc27 h
      refine rg j0<|u<|asg j0<|r_nil ?_
      refine sw_ret ?_
      obtain rfl:=sm h
      exact ⟨_,j0,_,j0,[],ci j0,j0,j5,j0,j1⟩
     ·
      replace h:=bF hc27 h
      refine sw_skip ?_
      refine rg j0<|u<|asg j0<|r_nil ?_
      obtain ⟨o,ho,h⟩:=bs h
      refine sw_lpl (X:=Int) (B:=Unit) (R:=Bool) (fun z=>[(1,.mpt 0 0 0),(3,iA v14),(4,iA z)]) (fun z=>[some (6,[[sA v1.Name,sA v1.Super,bA v1.Interface,.isl 1 (List.map rStr v1.Impl),.isl 3 (List.map rApiField v1.Fields),.isl 10 (List.map rApiMethod v1.Methods)]])]) (fun b=>[(1,.mpt 0 0 0),(3,iA v14)]) (fun b=>[some (6,[[sA v1.Name,sA v1.Super,bA v1.Interface,.isl 1 (List.map rStr v1.Impl),.isl 3 (List.map rApiField v1.Fields),.isl 10 (List.map rApiMethod v1.Methods)]])]) (fun r env st=>PostF Tryz.prog Tryz.f65 0 (bA r) [] env st) ho ⟨[.old 0],cv j0 (.mpt j0)<|ce j0 j0<|ce j0 j0<|cn,j0,⟨⟨_,j0,rsOne ⟨ci j0,ci j0,ci j0,ci j0,ci j0,ci j0,j5⟩⟩,j5⟩,j0,j1⟩ ?_ ?_ ?_
      ·
       rintro v20 r h
       replace h : ref3_MayClass_l3 v1 v14 v20 = some r:=h
       unfold ref3_MayClass_l3 at h
       refine sw_seq ?_
       refine rg j0<|u<|mv j0<|u<|mv j0<|u<|lss ti3 j0 j0<|r_nil ?_
       refine sw_cond j0 (fun hc32=>?_) (fun hc32=>?_)
       ·
        replace h:=bT hc32 h
        refine sw_skip ?_
        refine sw_seq ?_
        refine sw_block ?_
        obtain ⟨v21,q33,h⟩:=bs h
        obtain ⟨v22,q34,h⟩:=bs h
        refine rd [(1,.mpt 0 0 0),(3,iA v14),(4,iA v20),(79,bA (v21 == v22))] [some (6,[[sA v1.Name,sA v1.Super,bA v1.Interface,.isl 1 (List.map rStr v1.Impl),.isl 3 (List.map rApiField v1.Fields),.isl 10 (List.map rApiMethod v1.Methods)]])] [] [10,9,8,7,6,5,4,3,2,1,0] [(79,bA (v21 == v22)),(78,sA v22),(77,.ipt 1 (List.map rStr v1.Impl) (Int.toNat v14) 0),(76,iA v14),(75,.isl 1 (List.map rStr v1.Impl)),(74,.mpt 0 0 3),(73,sA v21),(72,.ipt 1 (List.map rStr v1.Impl) (Int.toNat v20) 0),(71,iA v20),(70,.isl 1 (List.map rStr v1.Impl)),(69,.mpt 0 0 3)] 0 (by kernel_rfl) (by kernel_rfl) j0 (by kernel_rfl) (dt0 ⟨(fun _=>pa j0 j0 j0 j0 (seq ti9 j0 j0<|j4)),(fun _=>pa j0 j0 j0 j0 (ldI ti9 j0 (idx_some q34).2.2 j0<|j4)),(fun _=>pa j0 j0 j0 j0 (ixI ti32 j0 ti9 j0 j0 j0 q34<|j4)),(fun _=>pa j0 j0 j0 j0 (mv j0<|j4)),(fun _=>pa j0 j0 j0 j0 (ld ti32 j0 j0<|j4)),(fun _=>pa j0 j0 j0 j0 (fa ti42 j0 j0 j0<|j4)),(fun _=>pa j0 j0 j0 j0 (ldI ti9 j0 (idx_some q33).2.2 j0<|j4)),(fun _=>pa j0 j0 j0 j0 (ixI ti32 j0 ti9 j0 j0 j0 q33<|j4)),(fun _=>pa j0 j0 j0 j0 (mv j0<|j4)),(fun _=>pa j0 j0 j0 j0 (ld ti32 j0 j0<|j4)),(fun _=>pa j0 j0 j0 j0 (fa ti42 j0 j0 j0<|j4)),j5⟩ (by kernel_rfl) j0 ⟨[.old 0],cv j0 (.mpt j0)<|ce j0 j0<|ce j0 j0<|ce j0 j0<|cn,j0,⟨⟨_,j0,rsOne ⟨ci j0,ci j0,ci j0,ci j0,ci j0,ci j0,j5⟩⟩,j5⟩,j0,j1⟩) ?_
        refine sw_cond j0 (fun hc35=>?_) (fun hc35=>?_)
        ·
         replace h:=bT hc35 h
         refine rg j0<|u<|asg j0<|r_nil ?_
         refine sw_ret ?_
         obtain rfl:=sm h
         exact ⟨_,j0,_,j0,[],ci j0,j0,j5,j0,j1⟩
        ·
         replace h:=bF hc35 h
         refine sw_skip ?_
         refine rl j0<|u<|mv j0<|u<|add ti3 j0 j0<|u<|asg j0<|r_nil ?_
         obtain rfl:=sm h
         exact ⟨_,j0,[.old 0],cv j0 (.mpt j0)<|ce j0 j0<|ce j0 j0<|cn,j0,⟨⟨_,j0,rsOne ⟨ci j0,ci j0,ci j0,ci j0,ci j0,ci j0,j5⟩⟩,j5⟩,j0,j1⟩
       ·
        replace h:=bF hc32 h
        refine sw_exit ?_
        obtain rfl:=sm h
        exact ⟨j0,_,j0,[.old 0],cv j0 (.mpt j0)<|ce j0 j0<|cn,j0,⟨⟨_,j0,rsOne ⟨ci j0,ci j0,ci j0,ci j0,ci j0,ci j0,j5⟩⟩,j5⟩,j0,j1⟩
      ·
       rintro ⟨⟩ rfl
       replace h : ref3_MayClass_k4 v14 = some r:=h
       unfold ref3_MayClass_k4 at h
       refine ow_intro ?_
       refine rl j0<|u<|mv j0<|u<|add ti3 j0 j0<|u<|asg j0<|r_nil ?_
       obtain rfl:=sm h
       exact ⟨_,j0,[.old 0],cv j0 (.mpt j0)<|ce j0 j0<|cn,j0,⟨⟨_,j0,rsOne ⟨ci j0,ci j0,ci j0,ci j0,ci j0,ci j0,j5⟩⟩,j5⟩,j0,j1⟩
      ·
       rintro r' rfl env st hp
       obtain rfl:=sm h
       exact ⟨_,j0,hp⟩
    ·
     replace h:=bF hc24 h
     refine sw_exit ?_
     obtain rfl:=sm h
     exact ⟨j0,_,j0,[.old 0],cv j0 (.mpt j0)<|cn,j0,⟨⟨_,j0,rsOne ⟨ci j0,ci j0,ci j0,ci j0,ci j0,ci j0,j5⟩⟩,j5⟩,j0,j1⟩
   ·
    rintro ⟨⟩ rfl
    replace h : ref3_MayClass_k6 v1 = some r:=h
    unfold ref3_MayClass_k6 at h
    refine ow_intro ?_
    refine sw_seq ?_
    refine rg j0<|u<|asg j0<|r_nil ?_
    obtain ⟨o,ho,h⟩:=bs h
    refine sw_lpl (X:=Int) (B:=Unit) (R:=Bool) (fun z=>[(1,.mpt 0 0 0),(5,iA z)]) (fun z=>[some (6,[[sA v1.Name,sA v1.Super,bA v1.Interface,.isl 1 (List.map rStr v1.Impl),.isl 3 (List.map rApiField v1.Fields),.isl 10 (List.map rApiMethod v1.Methods)]])]) (fun b=>[(1,.mpt 0 0 0)]) (fun b=>[some (6,[[sA v1.Name,sA v1.Super,bA v1.Interface,.isl 1 (List.map rStr v1.Impl),.isl 3 (List.map rApiField v1.Fields),.isl 10 (List.map rApiMethod v1.Methods)]])]) (fun r env st=>PostF Tryz.prog Tryz.f65 0 (bA r) [] env st) ho ⟨[.old 0],cv j0 (.mpt j0)<|ce j0 j0<|cn,j0,⟨⟨_,j0,rsOne ⟨ci j0,ci j0,ci j0,ci j0,ci j0,ci j0,j5⟩⟩,j5⟩,j0,j1⟩ ?_ ?_ ?_
    ·
     rintro v30 r h
     replace h : ref3_MayClass_l7 v1 v30 = some r:=h
     unfold ref3_MayClass_l7 at h
     refine sw_seq ?_
     refine rg j0<|u<|mv j0<|u<|fa ti42 j0 j0 j0<|u<|ld ti39 j0 j0<|u<|lnI ti39 j0 j0<|u<|lss ti3 j0 j0<|r_nil ?_
     refine sw_cond j0 (fun hc47=>?_) (fun hc47=>?_)
     ·
      replace h:=bT hc47 h
      refine sw_skip ?_
      refine sw_seq ?_
      refine sw_block ?_
      obtain ⟨v31,q48,h⟩:=bs h
      refine rg j0<|u<|fa ti42 j0 j0 j0<|u<|ld ti39 j0 j0<|u<|mv j0<|u<|ixI ti39 j0 ti57 j0 j0 j0 q48<|u<|ldI ti57 j0 (idx_some q48).2.2 j0<|u<|al 1 ti57 j0<|u<|sto ti57 j0 j0 j0<|r_nil ?_
      obtain ⟨v32,q49,h⟩:=bs h
      obtain ⟨v34,q53,h⟩:=bs h
      obtain ⟨v36,q56,h⟩:=bs h
      refine rg j0<|u<|fa ti57 j0 j0 j0<|u<|ld ti9 j0 j0<|u<|pc (ref3_Name_ok v31.Name q49) j0 j0 j0<|u<|nt j0<|u<|mv j0<|r_or (j:=4) 3 j0 j0 j0 j0 j0 gpn (fun hb50=>g j0 hb50<|fa ti57 j0 j0 j0<|g j0 hb50<|ld ti9 j0 j0<|g j0 hb50<|seq ti9 j0 j0<|r_nil (egO [97,98,99] 3 hb50 j0 j0 j0 j0)) orT<|u<|mv j0<|r_or (x:=v34) (j:=9) 4 j0 j0 j0 j0 j0 gpn (fun hb51=>by replace q53:=bF hb51 q53; obtain ⟨v33,q52,q53⟩:=bs q53; obtain rfl:=sm q53; exact g j0 hb51<|fa ti57 j0 j0 j0<|g j0 hb51<|ld ti9 j0 j0<|g j0 hb51<|pc (ref3_May_ok v31.Type_ q52) j0 j0 j0<|g j0 hb51<|nt j0<|r_nil (eg [102,103,104,105] 4 j0 j0 j0 j0)) (fun hb=>(sm (bT hb q53)).symm)<|u<|mv j0<|r_or (x:=v36) (j:=15) 6 j0 j0 j0 j0 j0 gpn (fun hb54=>by replace q56:=bF hb54 q56; obtain ⟨v35,q55,q56⟩:=bs q56; obtain rfl:=sm q56; exact g j0 hb54<|ld ti42 j0 j0<|g j0 hb54<|fa ti57 j0 j0 j0<|g j0 hb54<|ld ti9 j0 j0<|g j0 hb54<|pc (ref3_Field_ok v1 v31.Name q55) j0 j0 j0<|g j0 hb54<|mv j0<|g j0 hb54<|neq ti3 j0 j0<|r_nil (eg [108,109,110,111,112,113] 6 j0 j0 j0 j0)) (fun hb=>(sm (bT hb q56)).symm)<|r_nil ?_
      refine sw_cond j0 (fun hc57=>?_) (fun hc57=>?_)
      ·
       replace h:=bT hc57 h
       refine rg j0<|u<|asg j0<|r_nil ?_
       refine sw_ret ?_
       obtain rfl:=sm h
       exact ⟨_,j0,_,j0,[],ci j0,j0,j5,j0,j1⟩
      ·
       replace h:=bF hc57 h
       refine sw_skip ?_
       refine rl j0<|u<|mv j0<|u<|add ti3 j0 j0<|u<|asg j0<|r_nil ?_
       obtain rfl:=sm h
       exact ⟨_,j0,[.old 0],cv j0 (.mpt j0)<|ce j0 j0<|cn,j0,⟨⟨_,j0,rsOne ⟨ci j0,ci j0,ci j0,ci j0,ci j0,ci j0,j5⟩⟩,j5⟩,j0,j1⟩
     ·
      replace h:=bF hc47 h
      refine sw_exit ?_
      obtain rfl:=sm h
      exact ⟨j0,_,j0,[.old 0],cv j0 (.mpt j0)<|cn,j0,⟨⟨_,j0,rsOne ⟨ci j0,ci j0,ci j0,ci j0,ci j0,ci j0,j5⟩⟩,j5⟩,j0,j1⟩
    ·
     rintro ⟨⟩ rfl
     replace h : ref3_MayClass_k8 v1 = some r:=h
     unfold ref3_MayClass_k8 at h
     refine ow_intro ?_
     refine sw_seq ?_
     refine rg j0<|u<|asg j0<|r_nil ?_
     obtain ⟨o,ho,h⟩:=bs h
     refine sw_lpl (X:=Int) (B:=Unit) (R:=Bool) (fun z=>[(1,.mpt 0 0 0),(7,iA z)]) (fun z=>[some (6,[[sA v1.Name,sA v1.Super,bA v1.Interface,.isl 1 (List.map rStr v1.Impl),.isl 3 (List.map rApiField v1.Fields),.isl 10 (List.map rApiMethod v1.Methods)]])]) (fun b=>[]) (fun b=>[]) (fun r env st=>PostF Tryz.prog Tryz.f65 0 (bA r) [] env st) ho ⟨[.old 0],cv j0 (.mpt j0)<|ce j0 j0<|cn,j0,⟨⟨_,j0,rsOne ⟨ci j0,ci j0,ci j0,ci j0,ci j0,ci j0,j5⟩⟩,j5⟩,j0,j1⟩ ?_ ?_ ?_
     ·
      rintro v43 r h
      replace h : ref3_MayClass_l9 v1 v43 = some r:=h
      unfold ref3_MayClass_l9 at h
      refine sw_seq ?_
      refine rg j0<|u<|mv j0<|u<|fa ti42 j0 j0 j0<|u<|ld ti40 j0 j0<|u<|lnI ti40 j0 j0<|u<|lss ti3 j0 j0<|r_nil ?_
      refine sw_cond j0 (fun hc67=>?_) (fun hc67=>?_)
      ·
       replace h:=bT hc67 h
       refine sw_skip ?_
       refine sw_seq ?_
       refine sw_block ?_
       obtain ⟨v44,q68,h⟩:=bs h
       refine rg j0<|u<|fa ti42 j0 j0 j0<|u<|ld ti40 j0 j0<|u<|mv j0<|u<|ixI ti40 j0 ti62 j0 j0 j0 q68<|u<|ldI ti62 j0 (idx_some q68).2.2 j0<|u<|al 1 ti62 j0<|u<|sto ti62 j0 j0 j0<|r_nil ?_
       obtain ⟨v46,q71,h⟩:=bs h
       obtain ⟨v48,q74,h⟩:=bs h
       refine rg j0<|u<|fa ti62 j0 j0 j0<|u<|ld ti4 j0 j0<|u<|fa ti42 j0 j0 j0<|u<|ld ti4 j0 j0<|u<|bne ti4 j0 j0 j0<|u<|mv j0<|r_or (x:=v46) (j:=5) 6 j0 j0 j0 j0 j0 gpn (fun hb69=>by replace q71:=bF hb69 q71; obtain ⟨v45,q70,q71⟩:=bs q71; obtain rfl:=sm q71; exact g j0 hb69<|ld ti42 j0 j0<|g j0 hb69<|fa ti62 j0 j0 j0<|g j0 hb69<|ld ti9 j0 j0<|g j0 hb69<|pc (ref3_Method_ok v1 v44.Name q70) j0 j0 j0<|g j0 hb69<|mv j0<|g j0 hb69<|neq ti3 j0 j0<|r_nil (eg [133,134,135,136,137,138] 6 j0 j0 j0 j0)) (fun hb=>(sm (bT hb q71)).symm)<|u<|mv j0<|r_or (x:=v48) (j:=13) 3 j0 j0 j0 j0 j0 gpn (fun hb72=>by replace q74:=bF hb72 q74; obtain ⟨v47,q73,q74⟩:=bs q74; obtain rfl:=sm q74; exact g j0 hb72<|ld ti62 j0 j0<|g j0 hb72<|pc (ref3_MayMethod_ok v44 q73) j0 j0 j0<|g j0 hb72<|nt j0<|r_nil (eg [141,142,143] 3 j0 j0 j0 j0)) (fun hb=>(sm (bT hb q74)).symm)<|r_nil ?_
       refine sw_cond j0 (fun hc75=>?_) (fun hc75=>?_)
       ·
        replace h:=bT hc75 h
        refine rg j0<|u<|asg j0<|r_nil ?_
        refine sw_ret ?_
        obtain rfl:=sm h
        exact ⟨_,j0,_,j0,[],ci j0,j0,j5,j0,j1⟩
       ·
        replace h:=bF hc75 h
        refine sw_skip ?_
        refine rl j0<|u<|mv j0<|u<|add ti3 j0 j0<|u<|asg j0<|r_nil ?_
        obtain rfl:=sm h
        exact ⟨_,j0,[.old 0],cv j0 (.mpt j0)<|ce j0 j0<|cn,j0,⟨⟨_,j0,rsOne ⟨ci j0,ci j0,ci j0,ci j0,ci j0,ci j0,j5⟩⟩,j5⟩,j0,j1⟩
      ·
       replace h:=bF hc67 h
       refine sw_exit ?_
       obtain rfl:=sm h
       exact ⟨j0,_,j0,[],cn,j0,j5,j0,j1⟩
     ·
      rintro ⟨⟩ rfl
      replace h : ref3_MayClass_k10 = some r:=h
      unfold ref3_MayClass_k10 at h
      refine ow_intro ?_
      refine rg j0<|u<|asg j0<|r_nil ?_
      refine sw_ret ?_
      obtain rfl:=sm h
      exact ⟨_,j0,[],ci j0,j0,j5,j0,j1⟩
     ·
      rintro r' rfl env st hp
      obtain rfl:=sm h
      exact hp
    ·
     rintro r' rfl env st hp
     obtain rfl:=sm h
     exact hp
   ·
    rintro r' rfl env st hp
    obtain rfl:=sm h
    exact hp
def ref3_EqTexts_k2 : Option (Bool) :=
  some true
def ref3_EqTexts_l1 (v1 : List (List UInt8)) (v2 : List (List UInt8)) (v6 : Int) : Option (Sum (Int) (Sum (Unit) (Bool))) :=
  cond (decide (v6 < (List.length v1 : Int))) ((idx v1 v6).bind fun v7=>(idx v2 v6).bind fun v8=>cond (!(v7 == v8)) (some (.inr (.inr false))) (some (.inl (IntKind.i64.wrap (v6 + 1))))) (some (.inr (.inl ())))
def ref3_EqTexts (v1 : List (List UInt8)) (v2 : List (List UInt8)) : Option (Bool) :=
  cond (!((List.length v1 : Int) == (List.length v2 : Int))) (some false) ((loopP (fun z=>ref3_EqTexts_l1 v1 v2 z) 0).bind fun o=>leave o (fun b=>ref3_EqTexts_k2) some)
theorem ref3_EqTexts_ok (v1 : List (List UInt8)) (v2 : List (List UInt8)) {r : Bool} (h : ref3_EqTexts v1 v2 = some r) : PureC Tryz.prog 29 [.isl 1 (List.map rStr v1),.isl 1 (List.map rStr v2)] (bA r):=by
 refine pure_fn Tryz.func29 j0 (by kernel_rfl) j0 j0 ?_
 unfold ref3_EqTexts at h
 refine rg j0<|u<|asg j0<|r_nil ?_
 refine sw_seq ?_
 refine rg j0<|u<|mv j0<|u<|lnI ti32 j0 j0<|u<|mv j0<|u<|lnI ti32 j0 j0<|u<|neq ti3 j0 j0<|r_nil ?_
 refine sw_cond j0 (fun hc1=>?_) (fun hc1=>?_)
 ·
  replace h:=bT hc1 h
  refine rg j0<|u<|asg j0<|r_nil ?_
  refine sw_ret ?_
  obtain rfl:=sm h
  exact ⟨_,j0,[],ci j0,j0,j5,j0,j1⟩
 ·
  replace h:=bF hc1 h
  refine sw_skip ?_
  refine sw_seq ?_
  refine rg j0<|u<|asg j0<|r_nil ?_
  obtain ⟨o,ho,h⟩:=bs h
  refine sw_lpl (X:=Int) (B:=Unit) (R:=Bool) (fun z=>[(0,.isl 1 (List.map rStr v1)),(1,.isl 1 (List.map rStr v2)),(5,iA z)]) (fun z=>[]) (fun b=>[]) (fun b=>[]) (fun r env st=>PostF Tryz.prog Tryz.f29 0 (bA r) [] env st) ho ⟨[],ce j0 j0<|ce j0 j0<|ce j0 j0<|cn,j0,j5,j0,j1⟩ ?_ ?_ ?_
  ·
   rintro v6 r h
   replace h : ref3_EqTexts_l1 v1 v2 v6 = some r:=h
   unfold ref3_EqTexts_l1 at h
   refine sw_seq ?_
   refine rg j0<|u<|mv j0<|u<|mv j0<|u<|lnI ti32 j0 j0<|u<|lss ti3 j0 j0<|r_nil ?_
   refine sw_cond j0 (fun hc6=>?_) (fun hc6=>?_)
   ·
    replace h:=bT hc6 h
    refine sw_skip ?_
    refine sw_seq ?_
    refine sw_block ?_
    obtain ⟨v7,q7,h⟩:=bs h
    obtain ⟨v8,q8,h⟩:=bs h
    refine rd [(0,.isl 1 (List.map rStr v1)),(1,.isl 1 (List.map rStr v2)),(5,iA v6),(25,bA (!(v7 == v8)))] [] [] [8,7,6,5,4,3,2,1,0] [(25,bA (!(v7 == v8))),(24,sA v8),(23,.ipt 1 (List.map rStr v2) (Int.toNat v6) 0),(22,iA v6),(21,.isl 1 (List.map rStr v2)),(20,sA v7),(19,.ipt 1 (List.map rStr v1) (Int.toNat v6) 0),(18,iA v6),(17,.isl 1 (List.map rStr v1))] 0 (by kernel_rfl) (by kernel_rfl) j0 (by kernel_rfl) (dt0 ⟨(fun _=>pa j0 j0 j0 j0 (sne ti9 j0 j0<|j4)),(fun _=>pa j0 j0 j0 j0 (ldI ti9 j0 (idx_some q8).2.2 j0<|j4)),(fun _=>pa j0 j0 j0 j0 (ixI ti32 j0 ti9 j0 j0 j0 q8<|j4)),(fun _=>pa j0 j0 j0 j0 (mv j0<|j4)),(fun _=>pa j0 j0 j0 j0 (mv j0<|j4)),(fun _=>pa j0 j0 j0 j0 (ldI ti9 j0 (idx_some q7).2.2 j0<|j4)),(fun _=>pa j0 j0 j0 j0 (ixI ti32 j0 ti9 j0 j0 j0 q7<|j4)),(fun _=>pa j0 j0 j0 j0 (mv j0<|j4)),(fun _=>pa j0 j0 j0 j0 (mv j0<|j4)),j5⟩ (by kernel_rfl) j0 ⟨[],ce j0 j0<|ce j0 j0<|ce j0 j0<|ce j0 j0<|cn,j0,j5,j0,j1⟩) ?_
    refine sw_cond j0 (fun hc9=>?_) (fun hc9=>?_)
    ·
     replace h:=bT hc9 h
     refine rg j0<|u<|asg j0<|r_nil ?_
     refine sw_ret ?_
     obtain rfl:=sm h
     exact ⟨_,j0,_,j0,[],ci j0,j0,j5,j0,j1⟩
    ·
     replace h:=bF hc9 h
     refine sw_skip ?_
     refine rl j0<|u<|mv j0<|u<|add ti3 j0 j0<|u<|asg j0<|r_nil ?_
     obtain rfl:=sm h
     exact ⟨_,j0,[],ce j0 j0<|ce j0 j0<|ce j0 j0<|cn,j0,j5,j0,j1⟩
   ·
    replace h:=bF hc6 h
    refine sw_exit ?_
    obtain rfl:=sm h
    exact ⟨j0,_,j0,[],cn,j0,j5,j0,j1⟩
  ·
   rintro ⟨⟩ rfl
   replace h : ref3_EqTexts_k2 = some r:=h
   unfold ref3_EqTexts_k2 at h
   refine ow_intro ?_
   refine rg j0<|u<|asg j0<|r_nil ?_
   refine sw_ret ?_
   obtain rfl:=sm h
   exact ⟨_,j0,[],ci j0,j0,j5,j0,j1⟩
  ·
   rintro r' rfl env st hp
   obtain rfl:=sm h
   exact hp
def ref3_EqIns (v1 : ApiIns) (v2 : ApiIns) : Bool :=
  ((((v1.Op == v2.Op) && (v1.A == v2.A)) && (v1.C == v2.C)) && (v1.M == v2.M))
theorem ref3_EqIns_ok (v1 : ApiIns) (v2 : ApiIns) {r : Bool} (h : ref3_EqIns v1 v2 = r) : PureC Tryz.prog 115 [.agg [iA v1.Op,iA v1.A,sA v1.C,sA v1.M],.agg [iA v2.Op,iA v2.A,sA v2.C,sA v2.M]] (bA r):=by
 refine pure_fn Tryz.func115 j0 (by kernel_rfl) j0 j0 ?_
 unfold ref3_EqIns at h
 refine rg j0<|u<|bx 0 4 j0 j0 j0 j0<|u<|bx 1 4 j0 j0 j0 j0<|u<|asg j0<|r_nil ?_
 refine rg j0<|u<|fa ti66 j0 j0 j0<|u<|ld ti3 j0 j0<|u<|fa ti66 j0 j0 j0<|u<|ld ti3 j0 j0<|u<|eql ti3 j0 j0<|u<|mv j0<|r_and (j:=5) 5 j0 j0 j0 j0 j0 gpn (fun hb1=>g j0 hb1<|fa ti66 j0 j0 j0<|g j0 hb1<|ld ti3 j0 j0<|g j0 hb1<|fa ti66 j0 j0 j0<|g j0 hb1<|ld ti3 j0 j0<|g j0 hb1<|eql ti3 j0 j0<|r_nil (egA [11,12,13,14,15] 5 hb1 j0 j0 j0 j0)) andF<|u<|mv j0<|r_and (j:=12) 5 j0 j0 j0 j0 j0 gpn (fun hb2=>g j0 hb2<|fa ti66 j0 j0 j0<|g j0 hb2<|ld ti9 j0 j0<|g j0 hb2<|fa ti66 j0 j0 j0<|g j0 hb2<|ld ti9 j0 j0<|g j0 hb2<|seq ti9 j0 j0<|r_nil (egA [18,19,20,21,22] 5 hb2 j0 j0 j0 j0)) andF<|u<|mv j0<|r_and (j:=19) 5 j0 j0 j0 j0 j0 gpn (fun hb3=>g j0 hb3<|fa ti66 j0 j0 j0<|g j0 hb3<|ld ti9 j0 j0<|g j0 hb3<|fa ti66 j0 j0 j0<|g j0 hb3<|ld ti9 j0 j0<|g j0 hb3<|seq ti9 j0 j0<|r_nil (egA [25,26,27,28,29] 5 hb3 j0 j0 j0 j0)) andF<|u<|asg j0<|r_nil ?_
 refine sw_ret ?_
 obtain rfl:=h
 exact ⟨_,j0,[],ci j0,j0,j5,j0,j1⟩
def ref3_eqMethod_k6 : Option (Bool) :=
  some true
def ref3_eqMethod_l5 (v1 : ApiMethod) (v2 : ApiMethod) (v28 : Int) : Option (Sum (Int) (Sum (Unit) (Bool))) :=
  cond (decide (v28 < (List.length v1.Traps : Int))) ((idx v1.Traps v28).bind fun v29=>(idx v2.Traps v28).bind fun v30=>cond ((((!(v29.From == v30.From)) || (!(v29.To == v30.To))) || (!(v29.At == v30.At))) || (!(v29.C == v30.C))) (some (.inr (.inr false))) (some (.inl (IntKind.i64.wrap (v28 + 1))))) (some (.inr (.inl ())))
def ref3_eqMethod_k4 (v1 : ApiMethod) (v2 : ApiMethod) : Option (Bool) :=
  (loopP (fun z=>ref3_eqMethod_l5 v1 v2 z) 0).bind fun o=>leave o (fun b=>ref3_eqMethod_k6) some
def ref3_eqMethod_l3 (v1 : ApiMethod) (v2 : ApiMethod) (v18 : Int) : Option (Sum (Int) (Sum (Unit) (Bool))) :=
  cond (decide (v18 < (List.length v1.Maps : Int))) ((idx v1.Maps v18).bind fun v19=>(idx v2.Maps v18).bind fun v20=>(cond (!(v19.At == v20.At)) (some true) ((ref3_EqTexts v19.Locals v20.Locals).bind fun v21=>some (!v21))).bind fun v22=>(cond v22 (some true) ((ref3_EqTexts v19.Stack v20.Stack).bind fun v23=>some (!v23))).bind fun v24=>cond v24 (some (.inr (.inr false))) (some (.inl (IntKind.i64.wrap (v18 + 1))))) (some (.inr (.inl ())))
def ref3_eqMethod_k2 (v1 : ApiMethod) (v2 : ApiMethod) : Option (Bool) :=
  (loopP (fun z=>ref3_eqMethod_l3 v1 v2 z) 0).bind fun o=>leave o (fun b=>ref3_eqMethod_k4 v1 v2) some
def ref3_eqMethod_l1 (v1 : ApiMethod) (v2 : ApiMethod) (v8 : Int) : Option (Sum (Int) (Sum (Unit) (Bool))) :=
  cond (decide (v8 < (List.length v1.Code : Int))) ((idx v1.Code v8).bind fun v9=>(idx v2.Code v8).bind fun v10=>cond (!(ref3_EqIns v9 v10)) (some (.inr (.inr false))) (some (.inl (IntKind.i64.wrap (v8 + 1))))) (some (.inr (.inl ())))
def ref3_eqMethod (v1 : ApiMethod) (v2 : ApiMethod) : Option (Bool) :=
  (cond (!(v1.Name == v2.Name)) (some true) ((ref3_EqTexts v1.Params v2.Params).bind fun v3=>some (!v3))).bind fun v4=>cond ((((((((v4 || (!(v1.Ret == v2.Ret))) || (!(v1.Static == v2.Static))) || (!(v1.Abstract == v2.Abstract))) || (!(v1.Locals == v2.Locals))) || (!(v1.Stack == v2.Stack))) || (!((List.length v1.Code : Int) == (List.length v2.Code : Int)))) || (!((List.length v1.Maps : Int) == (List.length v2.Maps : Int)))) || (!((List.length v1.Traps : Int) == (List.length v2.Traps : Int)))) (some false) ((loopP (fun z=>ref3_eqMethod_l1 v1 v2 z) 0).bind fun o=>leave o (fun b=>ref3_eqMethod_k2 v1 v2) some)
theorem ref3_eqMethod_ok (v1 : ApiMethod) (v2 : ApiMethod) {r : Bool} (h : ref3_eqMethod v1 v2 = some r) : PureC Tryz.prog 74 [.agg [sA v1.Name,.isl 1 (List.map rStr v1.Params),sA v1.Ret,bA v1.Static,bA v1.Abstract,iA v1.Locals,iA v1.Stack,.isl 4 (List.map rApiIns v1.Code),.isl 3 (List.map rApiMap v1.Maps),.isl 4 (List.map rApiTrap v1.Traps)],.agg [sA v2.Name,.isl 1 (List.map rStr v2.Params),sA v2.Ret,bA v2.Static,bA v2.Abstract,iA v2.Locals,iA v2.Stack,.isl 4 (List.map rApiIns v2.Code),.isl 3 (List.map rApiMap v2.Maps),.isl 4 (List.map rApiTrap v2.Traps)]] (bA r):=by
 refine pure_fn Tryz.func74 j0 (by kernel_rfl) j0 j0 ?_
 unfold ref3_eqMethod at h
 refine rg j0<|u<|bx 0 10 j0 j0 j0 j0<|u<|bx 1 10 j0 j0 j0 j0<|u<|asg j0<|r_nil ?_
 refine sw_seq ?_
 obtain ⟨v4,q3,h⟩:=bs h
 refine rg j0<|u<|fa ti62 j0 j0 j0<|u<|ld ti9 j0 j0<|u<|fa ti62 j0 j0 j0<|u<|ld ti9 j0 j0<|u<|sne ti9 j0 j0<|u<|mv j0<|r_or (x:=v4) (j:=5) 6 j0 j0 j0 j0 j0 gpn (fun hb1=>by replace q3:=bF hb1 q3; obtain ⟨v3,q2,q3⟩:=bs q3; obtain rfl:=sm q3; exact g j0 hb1<|fa ti62 j0 j0 j0<|g j0 hb1<|ld ti32 j0 j0<|g j0 hb1<|fa ti62 j0 j0 j0<|g j0 hb1<|ld ti32 j0 j0<|g j0 hb1<|pc (ref3_EqTexts_ok v1.Params v2.Params q2) j0 j0 j0<|g j0 hb1<|nt j0<|r_nil (eg [18,19,20,21,22,23] 6 j0 j0 j0 j0)) (fun hb=>(sm (bT hb q3)).symm)<|u<|mv j0<|r_or (j:=13) 5 j0 j0 j0 j0 j0 gpn (fun hb4=>g j0 hb4<|fa ti62 j0 j0 j0<|g j0 hb4<|ld ti9 j0 j0<|g j0 hb4<|fa ti62 j0 j0 j0<|g j0 hb4<|ld ti9 j0 j0<|g j0 hb4<|sne ti9 j0 j0<|r_nil (egO [26,27,28,29,30] 5 hb4 j0 j0 j0 j0)) orT<|u<|mv j0<|r_or (j:=20) 5 j0 j0 j0 j0 j0 gpn (fun hb5=>g j0 hb5<|fa ti62 j0 j0 j0<|g j0 hb5<|ld ti4 j0 j0<|g j0 hb5<|fa ti62 j0 j0 j0<|g j0 hb5<|ld ti4 j0 j0<|g j0 hb5<|bne ti4 j0 j0 j0<|r_nil (egO [33,34,35,36,37] 5 hb5 j0 j0 j0 j0)) orT<|u<|mv j0<|r_or (j:=27) 5 j0 j0 j0 j0 j0 gpn (fun hb6=>g j0 hb6<|fa ti62 j0 j0 j0<|g j0 hb6<|ld ti4 j0 j0<|g j0 hb6<|fa ti62 j0 j0 j0<|g j0 hb6<|ld ti4 j0 j0<|g j0 hb6<|bne ti4 j0 j0 j0<|r_nil (egO [40,41,42,43,44] 5 hb6 j0 j0 j0 j0)) orT<|u<|mv j0<|r_or (j:=34) 5 j0 j0 j0 j0 j0 gpn (fun hb7=>g j0 hb7<|fa ti62 j0 j0 j0<|g j0 hb7<|ld ti3 j0 j0<|g j0 hb7<|fa ti62 j0 j0 j0<|g j0 hb7<|ld ti3 j0 j0<|g j0 hb7<|neq ti3 j0 j0<|r_nil (egO [47,48,49,50,51] 5 hb7 j0 j0 j0 j0)) orT<|u<|mv j0<|r_or (j:=41) 5 j0 j0 j0 j0 j0 gpn (fun hb8=>g j0 hb8<|fa ti62 j0 j0 j0<|g j0 hb8<|ld ti3 j0 j0<|g j0 hb8<|fa ti62 j0 j0 j0<|g j0 hb8<|ld ti3 j0 j0<|g j0 hb8<|neq ti3 j0 j0<|r_nil (egO [54,55,56,57,58] 5 hb8 j0 j0 j0 j0)) orT<|u<|mv j0<|r_or (j:=48) 7 j0 j0 j0 j0 j0 gpn (fun hb9=>g j0 hb9<|fa ti62 j0 j0 j0<|g j0 hb9<|ld ti58 j0 j0<|g j0 hb9<|lnI ti58 j0 j0<|g j0 hb9<|fa ti62 j0 j0 j0<|g j0 hb9<|ld ti58 j0 j0<|g j0 hb9<|lnI ti58 j0 j0<|g j0 hb9<|neq ti3 j0 j0<|r_nil (egO [61,62,63,64,65,66,67] 7 hb9 j0 j0 j0 j0)) orT<|u<|mv j0<|r_or (j:=57) 7 j0 j0 j0 j0 j0 gpn (fun hb10=>g j0 hb10<|fa ti62 j0 j0 j0<|g j0 hb10<|ld ti59 j0 j0<|g j0 hb10<|lnI ti59 j0 j0<|g j0 hb10<|fa ti62 j0 j0 j0<|g j0 hb10<|ld ti59 j0 j0<|g j0 hb10<|lnI ti59 j0 j0<|g j0 hb10<|neq ti3 j0 j0<|r_nil (egO [70,71,72,73,74,75,76] 7 hb10 j0 j0 j0 j0)) orT<|u<|mv j0<|r_or (j:=66) 7 j0 j0 j0 j0 j0 gpn (fun hb11=>g j0 hb11<|fa ti62 j0 j0 j0<|g j0 hb11<|ld ti60 j0 j0<|g j0 hb11<|lnI ti60 j0 j0<|g j0 hb11<|fa ti62 j0 j0 j0<|g j0 hb11<|ld ti60 j0 j0<|g j0 hb11<|lnI ti60 j0 j0<|g j0 hb11<|neq ti3 j0 j0<|r_nil (egO [79,80,81,82,83,84,85] 7 hb11 j0 j0 j0 j0)) orT<|r_nil ?_
 refine sw_cond j0 (fun hc12=>?_) (fun hc12=>?_)
 ·
  replace h:=bT hc12 h
  refine rg j0<|u<|asg j0<|r_nil ?_
  refine sw_ret ?_
  obtain rfl:=sm h
  exact ⟨_,j0,[],ci j0,j0,j5,j0,j1⟩
 ·
  replace h:=bF hc12 h
  refine sw_skip ?_
  refine sw_seq ?_
  refine rg j0<|u<|asg j0<|r_nil ?_
  obtain ⟨o,ho,h⟩:=bs h
  refine sw_lpl (X:=Int) (B:=Unit) (R:=Bool) (fun z=>[(2,.mpt 0 0 0),(3,.mpt 1 0 0),(5,iA z)]) (fun z=>[some (10,[[sA v1.Name,.isl 1 (List.map rStr v1.Params),sA v1.Ret,bA v1.Static,bA v1.Abstract,iA v1.Locals,iA v1.Stack,.isl 4 (List.map rApiIns v1.Code),.isl 3 (List.map rApiMap v1.Maps),.isl 4 (List.map rApiTrap v1.Traps)]]),some (10,[[sA v2.Name,.isl 1 (List.map rStr v2.Params),sA v2.Ret,bA v2.Static,bA v2.Abstract,iA v2.Locals,iA v2.Stack,.isl 4 (List.map rApiIns v2.Code),.isl 3 (List.map rApiMap v2.Maps),.isl 4 (List.map rApiTrap v2.Traps)]])]) (fun b=>[(2,.mpt 0 0 0),(3,.mpt 1 0 0)]) (fun b=>[some (10,[[sA v1.Name,.isl 1 (List.map rStr v1.Params),sA v1.Ret,bA v1.Static,bA v1.Abstract,iA v1.Locals,iA v1.Stack,.isl 4 (List.map rApiIns v1.Code),.isl 3 (List.map rApiMap v1.Maps),.isl 4 (List.map rApiTrap v1.Traps)]]),some (10,[[sA v2.Name,.isl 1 (List.map rStr v2.Params),sA v2.Ret,bA v2.Static,bA v2.Abstract,iA v2.Locals,iA v2.Stack,.isl 4 (List.map rApiIns v2.Code),.isl 3 (List.map rApiMap v2.Maps),.isl 4 (List.map rApiTrap v2.Traps)]])]) (fun r env st=>PostF Tryz.prog Tryz.f74 0 (bA r) [] env st) ho ⟨[.old 0,.old 1],cv j0 (.mpt j0)<|cv j0 (.mpt j0)<|ce j0 j0<|cn,j0,⟨⟨_,j0,rsOne ⟨ci j0,ci j0,ci j0,ci j0,ci j0,ci j0,ci j0,ci j0,ci j0,ci j0,j5⟩⟩,⟨_,j0,rsOne ⟨ci j0,ci j0,ci j0,ci j0,ci j0,ci j0,ci j0,ci j0,ci j0,ci j0,j5⟩⟩,j5⟩,j0,j1⟩ ?_ ?_ ?_
  ·
   rintro v8 r h
   replace h : ref3_eqMethod_l1 v1 v2 v8 = some r:=h
   unfold ref3_eqMethod_l1 at h
   refine sw_seq ?_
   refine rg j0<|u<|mv j0<|u<|fa ti62 j0 j0 j0<|u<|ld ti58 j0 j0<|u<|lnI ti58 j0 j0<|u<|lss ti3 j0 j0<|r_nil ?_
   refine sw_cond j0 (fun hc17=>?_) (fun hc17=>?_)
   ·
    replace h:=bT hc17 h
    refine sw_skip ?_
    refine sw_seq ?_
    refine sw_block ?_
    obtain ⟨v9,q18,h⟩:=bs h
    obtain ⟨v10,q19,h⟩:=bs h
    refine rd [(2,.mpt 0 0 0),(3,.mpt 1 0 0),(5,iA v8),(105,bA (!(ref3_EqIns v9 v10)))] [some (10,[[sA v1.Name,.isl 1 (List.map rStr v1.Params),sA v1.Ret,bA v1.Static,bA v1.Abstract,iA v1.Locals,iA v1.Stack,.isl 4 (List.map rApiIns v1.Code),.isl 3 (List.map rApiMap v1.Maps),.isl 4 (List.map rApiTrap v1.Traps)]]),some (10,[[sA v2.Name,.isl 1 (List.map rStr v2.Params),sA v2.Ret,bA v2.Static,bA v2.Abstract,iA v2.Locals,iA v2.Stack,.isl 4 (List.map rApiIns v2.Code),.isl 3 (List.map rApiMap v2.Maps),.isl 4 (List.map rApiTrap v2.Traps)]])] [] [11,10,9,8,7,6,5,4,3,2,1,0] [(105,bA (!(ref3_EqIns v9 v10))),(104,bA (ref3_EqIns v9 v10)),(103,.agg [iA v10.Op,iA v10.A,sA v10.C,sA v10.M]),(102,.ipt 4 (List.map rApiIns v2.Code) (Int.toNat v8) 0),(101,iA v8),(100,.isl 4 (List.map rApiIns v2.Code)),(99,.mpt 1 0 7),(98,.agg [iA v9.Op,iA v9.A,sA v9.C,sA v9.M]),(97,.ipt 4 (List.map rApiIns v1.Code) (Int.toNat v8) 0),(96,iA v8),(95,.isl 4 (List.map rApiIns v1.Code)),(94,.mpt 0 0 7)] 0 (by kernel_rfl) (by kernel_rfl) j0 (by kernel_rfl) (dt0 ⟨(fun _=>pa j0 j0 j0 j0 (nt j0<|j4)),(fun _=>pa j0 j0 j0 j0 (pc (ref3_EqIns_ok v9 v10 j0) j0 j0 j0<|j4)),(fun _=>pa j0 j0 j0 j0 (ldI ti66 j0 (idx_some q19).2.2 j0<|j4)),(fun _=>pa j0 j0 j0 j0 (ixI ti58 j0 ti66 j0 j0 j0 q19<|j4)),(fun _=>pa j0 j0 j0 j0 (mv j0<|j4)),(fun _=>pa j0 j0 j0 j0 (ld ti58 j0 j0<|j4)),(fun _=>pa j0 j0 j0 j0 (fa ti62 j0 j0 j0<|j4)),(fun _=>pa j0 j0 j0 j0 (ldI ti66 j0 (idx_some q18).2.2 j0<|j4)),(fun _=>pa j0 j0 j0 j0 (ixI ti58 j0 ti66 j0 j0 j0 q18<|j4)),(fun _=>pa j0 j0 j0 j0 (mv j0<|j4)),(fun _=>pa j0 j0 j0 j0 (ld ti58 j0 j0<|j4)),(fun _=>pa j0 j0 j0 j0 (fa ti62 j0 j0 j0<|j4)),j5⟩ (by kernel_rfl) j0 ⟨[.old 0,.old 1],cv j0 (.mpt j0)<|cv j0 (.mpt j0)<|ce j0 j0<|ce j0 j0<|cn,j0,⟨⟨_,j0,rsOne ⟨ci j0,ci j0,ci j0,ci j0,ci j0,ci j0,ci j0,ci j0,ci j0,ci j0,j5⟩⟩,⟨_,j0,rsOne ⟨ci j0,ci j0,ci j0,ci j0,ci j0,ci j0,ci j0,ci j0,ci j0,ci j0,j5⟩⟩,j5⟩,j0,j1⟩) ?_
    refine sw_cond j0 (fun hc20=>?_) (fun hc20=>?_)
    ·
     replace h:=bT hc20 h
     refine rg j0<|u<|asg j0<|r_nil ?_
     refine sw_ret ?_
     obtain rfl:=sm h
     exact ⟨_,j0,_,j0,[],ci j0,j0,j5,j0,j1⟩
    ·
     replace h:=bF hc20 h
     refine sw_skip ?_
     refine rl j0<|u<|mv j0<|u<|add ti3 j0 j0<|u<|asg j0<|r_nil ?_
     obtain rfl:=sm h
     exact ⟨_,j0,[.old 0,.old 1],cv j0 (.mpt j0)<|cv j0 (.mpt j0)<|ce j0 j0<|cn,j0,⟨⟨_,j0,rsOne ⟨ci j0,ci j0,ci j0,ci j0,ci j0,ci j0,ci j0,ci j0,ci j0,ci j0,j5⟩⟩,⟨_,j0,rsOne ⟨ci j0,ci j0,ci j0,ci j0,ci j0,ci j0,ci j0,ci j0,ci j0,ci j0,j5⟩⟩,j5⟩,j0,j1⟩
   ·
    replace h:=bF hc17 h
    refine sw_exit ?_
    obtain rfl:=sm h
    exact ⟨j0,_,j0,[.old 0,.old 1],cv j0 (.mpt j0)<|cv j0 (.mpt j0)<|cn,j0,⟨⟨_,j0,rsOne ⟨ci j0,ci j0,ci j0,ci j0,ci j0,ci j0,ci j0,ci j0,ci j0,ci j0,j5⟩⟩,⟨_,j0,rsOne ⟨ci j0,ci j0,ci j0,ci j0,ci j0,ci j0,ci j0,ci j0,ci j0,ci j0,j5⟩⟩,j5⟩,j0,j1⟩
  ·
   rintro ⟨⟩ rfl
   replace h : ref3_eqMethod_k2 v1 v2 = some r:=h
   unfold ref3_eqMethod_k2 at h
   refine ow_intro ?_
   refine sw_seq ?_
   refine rg j0<|u<|asg j0<|r_nil ?_
   obtain ⟨o,ho,h⟩:=bs h
   refine sw_lpl (X:=Int) (B:=Unit) (R:=Bool) (fun z=>[(2,.mpt 0 0 0),(3,.mpt 1 0 0),(6,iA z)]) (fun z=>[some (10,[[sA v1.Name,.isl 1 (List.map rStr v1.Params),sA v1.Ret,bA v1.Static,bA v1.Abstract,iA v1.Locals,iA v1.Stack,.isl 4 (List.map rApiIns v1.Code),.isl 3 (List.map rApiMap v1.Maps),.isl 4 (List.map rApiTrap v1.Traps)]]),some (10,[[sA v2.Name,.isl 1 (List.map rStr v2.Params),sA v2.Ret,bA v2.Static,bA v2.Abstract,iA v2.Locals,iA v2.Stack,.isl 4 (List.map rApiIns v2.Code),.isl 3 (List.map rApiMap v2.Maps),.isl 4 (List.map rApiTrap v2.Traps)]])]) (fun b=>[(2,.mpt 0 0 0),(3,.mpt 1 0 0)]) (fun b=>[some (10,[[sA v1.Name,.isl 1 (List.map rStr v1.Params),sA v1.Ret,bA v1.Static,bA v1.Abstract,iA v1.Locals,iA v1.Stack,.isl 4 (List.map rApiIns v1.Code),.isl 3 (List.map rApiMap v1.Maps),.isl 4 (List.map rApiTrap v1.Traps)]]),some (10,[[sA v2.Name,.isl 1 (List.map rStr v2.Params),sA v2.Ret,bA v2.Static,bA v2.Abstract,iA v2.Locals,iA v2.Stack,.isl 4 (List.map rApiIns v2.Code),.isl 3 (List.map rApiMap v2.Maps),.isl 4 (List.map rApiTrap v2.Traps)]])]) (fun r env st=>PostF Tryz.prog Tryz.f74 0 (bA r) [] env st) ho ⟨[.old 0,.old 1],cv j0 (.mpt j0)<|cv j0 (.mpt j0)<|ce j0 j0<|cn,j0,⟨⟨_,j0,rsOne ⟨ci j0,ci j0,ci j0,ci j0,ci j0,ci j0,ci j0,ci j0,ci j0,ci j0,j5⟩⟩,⟨_,j0,rsOne ⟨ci j0,ci j0,ci j0,ci j0,ci j0,ci j0,ci j0,ci j0,ci j0,ci j0,j5⟩⟩,j5⟩,j0,j1⟩ ?_ ?_ ?_
   ·
    rintro v18 r h
    replace h : ref3_eqMethod_l3 v1 v2 v18 = some r:=h
    unfold ref3_eqMethod_l3 at h
    refine sw_seq ?_
    refine rg j0<|u<|mv j0<|u<|fa ti62 j0 j0 j0<|u<|ld ti59 j0 j0<|u<|lnI ti59 j0 j0<|u<|lss ti3 j0 j0<|r_nil ?_
    refine sw_cond j0 (fun hc31=>?_) (fun hc31=>?_)
    ·
     replace h:=bT hc31 h
     refine sw_skip ?_
     refine sw_seq ?_
     refine sw_block ?_
     obtain ⟨v19,q32,h⟩:=bs h
     obtain ⟨v20,q33,h⟩:=bs h
     refine rd [(2,.mpt 0 0 0),(3,.mpt 1 0 0),(6,iA v18),(7,.mpt 2 0 0),(8,.mpt 3 0 0)] [some (10,[[sA v1.Name,.isl 1 (List.map rStr v1.Params),sA v1.Ret,bA v1.Static,bA v1.Abstract,iA v1.Locals,iA v1.Stack,.isl 4 (List.map rApiIns v1.Code),.isl 3 (List.map rApiMap v1.Maps),.isl 4 (List.map rApiTrap v1.Traps)]]),some (10,[[sA v2.Name,.isl 1 (List.map rStr v2.Params),sA v2.Ret,bA v2.Static,bA v2.Abstract,iA v2.Locals,iA v2.Stack,.isl 4 (List.map rApiIns v2.Code),.isl 3 (List.map rApiMap v2.Maps),.isl 4 (List.map rApiTrap v2.Traps)]]),some (3,[[iA v19.At,.isl 1 (List.map rStr v19.Locals),.isl 1 (List.map rStr v19.Stack)]]),some (3,[[iA v20.At,.isl 1 (List.map rStr v20.Locals),.isl 1 (List.map rStr v20.Stack)]])] [10,11,12,13] [9,8,7,6,5,4,3,2,1,0] [(122,.agg [iA v20.At,.isl 1 (List.map rStr v20.Locals),.isl 1 (List.map rStr v20.Stack)]),(121,.ipt 3 (List.map rApiMap v2.Maps) (Int.toNat v18) 0),(120,iA v18),(119,.isl 3 (List.map rApiMap v2.Maps)),(118,.mpt 1 0 8),(117,.agg [iA v19.At,.isl 1 (List.map rStr v19.Locals),.isl 1 (List.map rStr v19.Stack)]),(116,.ipt 3 (List.map rApiMap v1.Maps) (Int.toNat v18) 0),(115,iA v18),(114,.isl 3 (List.map rApiMap v1.Maps)),(113,.mpt 0 0 8)] 4 (by kernel_rfl) (by kernel_rfl) j0 (by kernel_rfl) (dtS ⟨(fun _=>pa j0 j0 j0 j0 (ldI ti81 j0 (idx_some q33).2.2 j0<|j4)),(fun _=>pa j0 j0 j0 j0 (ixI ti59 j0 ti81 j0 j0 j0 q33<|j4)),(fun _=>pa j0 j0 j0 j0 (mv j0<|j4)),(fun _=>pa j0 j0 j0 j0 (ld ti59 j0 j0<|j4)),(fun _=>pa j0 j0 j0 j0 (fa ti62 j0 j0 j0<|j4)),(fun _=>pa j0 j0 j0 j0 (ldI ti81 j0 (idx_some q32).2.2 j0<|j4)),(fun _=>pa j0 j0 j0 j0 (ixI ti59 j0 ti81 j0 j0 j0 q32<|j4)),(fun _=>pa j0 j0 j0 j0 (mv j0<|j4)),(fun _=>pa j0 j0 j0 j0 (ld ti59 j0 j0<|j4)),(fun _=>pa j0 j0 j0 j0 (fa ti62 j0 j0 j0<|j4)),j5⟩ (by kernel_rfl) j0 ⟨(fun _ _=>⟨_,j0,j0,al 2 ti81 j0<|⟨(.mpt 2 0 0),[],[(7,.mpt 2 0 0)],j0,j0,by kernel_rfl,j0,dtS ⟨(fun _=>pa j0 j0 j0 j0 (ldI ti81 j0 (idx_some q33).2.2 j0<|j4)),(fun _=>pa j0 j0 j0 j0 (ixI ti59 j0 ti81 j0 j0 j0 q33<|j4)),(fun _=>pa j0 j0 j0 j0 (mv j0<|j4)),(fun _=>pa j0 j0 j0 j0 (ld ti59 j0 j0<|j4)),(fun _=>pa j0 j0 j0 j0 (fa ti62 j0 j0 j0<|j4)),(fun _=>pa j0 j0 j0 j0 (ldI ti81 j0 (idx_some q32).2.2 j0<|j4)),(fun _=>pa j0 j0 j0 j0 (ixI ti59 j0 ti81 j0 j0 j0 q32<|j4)),(fun _=>pa j0 j0 j0 j0 (mv j0<|j4)),(fun _=>pa j0 j0 j0 j0 (ld ti59 j0 j0<|j4)),(fun _=>pa j0 j0 j0 j0 (fa ti62 j0 j0 j0<|j4)),j5⟩ (by kernel_rfl) j0 ⟨(fun h=>by cases h),(fun _ _=>⟨_,j0,j0,al 3 ti81 j0<|⟨(.mpt 3 0 0),[],[(8,.mpt 3 0 0)],j0,j0,by kernel_rfl,j0,dtS ⟨(fun _=>pa j0 j0 j0 j0 (ldI ti81 j0 (idx_some q33).2.2 j0<|j4)),(fun _=>pa j0 j0 j0 j0 (ixI ti59 j0 ti81 j0 j0 j0 q33<|j4)),(fun _=>pa j0 j0 j0 j0 (mv j0<|j4)),(fun _=>pa j0 j0 j0 j0 (ld ti59 j0 j0<|j4)),(fun _=>pa j0 j0 j0 j0 (fa ti62 j0 j0 j0<|j4)),(fun _=>pa j0 j0 j0 j0 (ldI ti81 j0 (idx_some q32).2.2 j0<|j4)),(fun _=>pa j0 j0 j0 j0 (ixI ti59 j0 ti81 j0 j0 j0 q32<|j4)),(fun _=>pa j0 j0 j0 j0 (mv j0<|j4)),(fun _=>pa j0 j0 j0 j0 (ld ti59 j0 j0<|j4)),(fun _=>pa j0 j0 j0 j0 (fa ti62 j0 j0 j0<|j4)),j5⟩ (by kernel_rfl) j0 ⟨(fun h=>by cases h),(fun h=>by cases h),(fun _ _=>⟨_,j0,j0,sto ti81 j0 j0 j0<|⟨.any,[],[],j0,j0,by kernel_rfl,j5,dtS ⟨(fun _=>pa j0 j0 j0 j0 (ldI ti81 j0 (idx_some q33).2.2 j0<|j4)),(fun _=>pa j0 j0 j0 j0 (ixI ti59 j0 ti81 j0 j0 j0 q33<|j4)),(fun _=>pa j0 j0 j0 j0 (mv j0<|j4)),(fun _=>pa j0 j0 j0 j0 (ld ti59 j0 j0<|j4)),(fun _=>pa j0 j0 j0 j0 (fa ti62 j0 j0 j0<|j4)),(fun h=>by cases h),(fun h=>by cases h),(fun h=>by cases h),(fun h=>by cases h),(fun h=>by cases h),j5⟩ (by kernel_rfl) j0 ⟨(fun h=>by cases h),(fun h=>by cases h),(fun h=>by cases h),(fun _ _=>⟨_,j0,j0,sto ti81 j0 j0 j0<|⟨.any,[],[],j0,j0,by kernel_rfl,j5,dt0 ⟨(fun h=>by cases h),(fun h=>by cases h),(fun h=>by cases h),(fun h=>by cases h),(fun h=>by cases h),(fun h=>by cases h),(fun h=>by cases h),(fun h=>by cases h),(fun h=>by cases h),(fun h=>by cases h),j5⟩ (by kernel_rfl) j0 ⟨[.old 0,.old 1,.old 2,.old 3],cv j0 (.mpt j0)<|cv j0 (.mpt j0)<|ce j0 j0<|cv j0 (.mpt j0)<|cv j0 (.mpt j0)<|cn,j0,⟨⟨_,j0,rsOne ⟨ci j0,ci j0,ci j0,ci j0,ci j0,ci j0,ci j0,ci j0,ci j0,ci j0,j5⟩⟩,⟨_,j0,rsOne ⟨ci j0,ci j0,ci j0,ci j0,ci j0,ci j0,ci j0,ci j0,ci j0,ci j0,j5⟩⟩,⟨_,j0,rsOne ⟨ci j0,ci j0,ci j0,j5⟩⟩,⟨_,j0,rsOne ⟨ci j0,ci j0,ci j0,j5⟩⟩,j5⟩,j0,j1⟩⟩⟩),j5⟩⟩⟩),(fun _ h=>by cases h),j5⟩⟩⟩),(fun _ h=>by cases h),(fun _ h=>by cases h),j5⟩⟩⟩),(fun _ _=>⟨_,j0,j0,al 2 ti81 j0<|⟨(.mpt 2 0 0),[],[(8,.mpt 2 0 0)],j0,j0,by kernel_rfl,j0,dtS ⟨(fun _=>pa j0 j0 j0 j0 (ldI ti81 j0 (idx_some q33).2.2 j0<|j4)),(fun _=>pa j0 j0 j0 j0 (ixI ti59 j0 ti81 j0 j0 j0 q33<|j4)),(fun _=>pa j0 j0 j0 j0 (mv j0<|j4)),(fun _=>pa j0 j0 j0 j0 (ld ti59 j0 j0<|j4)),(fun _=>pa j0 j0 j0 j0 (fa ti62 j0 j0 j0<|j4)),(fun _=>pa j0 j0 j0 j0 (ldI ti81 j0 (idx_some q32).2.2 j0<|j4)),(fun _=>pa j0 j0 j0 j0 (ixI ti59 j0 ti81 j0 j0 j0 q32<|j4)),(fun _=>pa j0 j0 j0 j0 (mv j0<|j4)),(fun _=>pa j0 j0 j0 j0 (ld ti59 j0 j0<|j4)),(fun _=>pa j0 j0 j0 j0 (fa ti62 j0 j0 j0<|j4)),j5⟩ (by kernel_rfl) j0 ⟨(fun _ _=>⟨_,j0,j0,al 3 ti81 j0<|⟨(.mpt 3 0 0),[],[(7,.mpt 3 0 0)],j0,j0,by kernel_rfl,j0,dtS ⟨(fun _=>pa j0 j0 j0 j0 (ldI ti81 j0 (idx_some q33).2.2 j0<|j4)),(fun _=>pa j0 j0 j0 j0 (ixI ti59 j0 ti81 j0 j0 j0 q33<|j4)),(fun _=>pa j0 j0 j0 j0 (mv j0<|j4)),(fun _=>pa j0 j0 j0 j0 (ld ti59 j0 j0<|j4)),(fun _=>pa j0 j0 j0 j0 (fa ti62 j0 j0 j0<|j4)),(fun _=>pa j0 j0 j0 j0 (ldI ti81 j0 (idx_some q32).2.2 j0<|j4)),(fun _=>pa j0 j0 j0 j0 (ixI ti59 j0 ti81 j0 j0 j0 q32<|j4)),(fun _=>pa j0 j0 j0 j0 (mv j0<|j4)),(fun _=>pa j0 j0 j0 j0 (ld ti59 j0 j0<|j4)),(fun _=>pa j0 j0 j0 j0 (fa ti62 j0 j0 j0<|j4)),j5⟩ (by kernel_rfl) j0 ⟨(fun h=>by cases h),(fun h=>by cases h),(fun _ _=>⟨_,j0,j0,sto ti81 j0 j0 j0<|⟨.any,[],[],j0,j0,by kernel_rfl,j5,dtS ⟨(fun _=>pa j0 j0 j0 j0 (ldI ti81 j0 (idx_some q33).2.2 j0<|j4)),(fun _=>pa j0 j0 j0 j0 (ixI ti59 j0 ti81 j0 j0 j0 q33<|j4)),(fun _=>pa j0 j0 j0 j0 (mv j0<|j4)),(fun _=>pa j0 j0 j0 j0 (ld ti59 j0 j0<|j4)),(fun _=>pa j0 j0 j0 j0 (fa ti62 j0 j0 j0<|j4)),(fun h=>by cases h),(fun h=>by cases h),(fun h=>by cases h),(fun h=>by cases h),(fun h=>by cases h),j5⟩ (by kernel_rfl) j0 ⟨(fun h=>by cases h),(fun h=>by cases h),(fun h=>by cases h),(fun _ _=>⟨_,j0,j0,sto ti81 j0 j0 j0<|⟨.any,[],[],j0,j0,by kernel_rfl,j5,dt0 ⟨(fun h=>by cases h),(fun h=>by cases h),(fun h=>by cases h),(fun h=>by cases h),(fun h=>by cases h),(fun h=>by cases h),(fun h=>by cases h),(fun h=>by cases h),(fun h=>by cases h),(fun h=>by cases h),j5⟩ (by kernel_rfl) j0 ⟨[.old 0,.old 1,.old 3,.old 2],cv j0 (.mpt j0)<|cv j0 (.mpt j0)<|ce j0 j0<|cv j0 (.mpt j0)<|cv j0 (.mpt j0)<|cn,j0,⟨⟨_,j0,rsOne ⟨ci j0,ci j0,ci j0,ci j0,ci j0,ci j0,ci j0,ci j0,ci j0,ci j0,j5⟩⟩,⟨_,j0,rsOne ⟨ci j0,ci j0,ci j0,ci j0,ci j0,ci j0,ci j0,ci j0,ci j0,ci j0,j5⟩⟩,⟨_,j0,rsOne ⟨ci j0,ci j0,ci j0,j5⟩⟩,⟨_,j0,rsOne ⟨ci j0,ci j0,ci j0,j5⟩⟩,j5⟩,j0,j1⟩⟩⟩),j5⟩⟩⟩),(fun _ h=>by cases h),j5⟩⟩⟩),(fun h=>by cases h),(fun _ h=>by cases h),(fun _ h=>by cases h),j5⟩⟩⟩),(fun _ h=>by cases h),(fun _ h=>by cases h),j5⟩) ?_
     obtain ⟨v22,q36,h⟩:=bs h
     obtain ⟨v24,q39,h⟩:=bs h
     refine rg j0<|u<|fa ti81 j0 j0 j0<|u<|ld ti3 j0 j0<|u<|fa ti81 j0 j0 j0<|u<|ld ti3 j0 j0<|u<|neq ti3 j0 j0<|u<|mv j0<|r_or (x:=v22) (j:=5) 6 j0 j0 j0 j0 j0 gpn (fun hb34=>by replace q36:=bF hb34 q36; obtain ⟨v21,q35,q36⟩:=bs q36; obtain rfl:=sm q36; exact g j0 hb34<|fa ti81 j0 j0 j0<|g j0 hb34<|ld ti32 j0 j0<|g j0 hb34<|fa ti81 j0 j0 j0<|g j0 hb34<|ld ti32 j0 j0<|g j0 hb34<|pc (ref3_EqTexts_ok v19.Locals v20.Locals q35) j0 j0 j0<|g j0 hb34<|nt j0<|r_nil (eg [129,130,131,132,133,134] 6 j0 j0 j0 j0)) (fun hb=>(sm (bT hb q36)).symm)<|u<|mv j0<|r_or (x:=v24) (j:=13) 6 j0 j0 j0 j0 j0 gpn (fun hb37=>by replace q39:=bF hb37 q39; obtain ⟨v23,q38,q39⟩:=bs q39; obtain rfl:=sm q39; exact g j0 hb37<|fa ti81 j0 j0 j0<|g j0 hb37<|ld ti32 j0 j0<|g j0 hb37<|fa ti81 j0 j0 j0<|g j0 hb37<|ld ti32 j0 j0<|g j0 hb37<|pc (ref3_EqTexts_ok v19.Stack v20.Stack q38) j0 j0 j0<|g j0 hb37<|nt j0<|r_nil (eg [137,138,139,140,141,142] 6 j0 j0 j0 j0)) (fun hb=>(sm (bT hb q39)).symm)<|r_nil ?_
     refine sw_cond j0 (fun hc40=>?_) (fun hc40=>?_)
     ·
      replace h:=bT hc40 h
      refine rg j0<|u<|asg j0<|r_nil ?_
      refine sw_ret ?_
      obtain rfl:=sm h
      exact ⟨_,j0,_,j0,[],ci j0,j0,j5,j0,j1⟩
     ·
      replace h:=bF hc40 h
      refine sw_skip ?_
      refine rl j0<|u<|mv j0<|u<|add ti3 j0 j0<|u<|asg j0<|r_nil ?_
      obtain rfl:=sm h
      exact ⟨_,j0,[.old 0,.old 1],cv j0 (.mpt j0)<|cv j0 (.mpt j0)<|ce j0 j0<|cn,j0,⟨⟨_,j0,rsOne ⟨ci j0,ci j0,ci j0,ci j0,ci j0,ci j0,ci j0,ci j0,ci j0,ci j0,j5⟩⟩,⟨_,j0,rsOne ⟨ci j0,ci j0,ci j0,ci j0,ci j0,ci j0,ci j0,ci j0,ci j0,ci j0,j5⟩⟩,j5⟩,j0,j1⟩
    ·
     replace h:=bF hc31 h
     refine sw_exit ?_
     obtain rfl:=sm h
     exact ⟨j0,_,j0,[.old 0,.old 1],cv j0 (.mpt j0)<|cv j0 (.mpt j0)<|cn,j0,⟨⟨_,j0,rsOne ⟨ci j0,ci j0,ci j0,ci j0,ci j0,ci j0,ci j0,ci j0,ci j0,ci j0,j5⟩⟩,⟨_,j0,rsOne ⟨ci j0,ci j0,ci j0,ci j0,ci j0,ci j0,ci j0,ci j0,ci j0,ci j0,j5⟩⟩,j5⟩,j0,j1⟩
   ·
    rintro ⟨⟩ rfl
    replace h : ref3_eqMethod_k4 v1 v2 = some r:=h
    unfold ref3_eqMethod_k4 at h
    refine ow_intro ?_
    refine sw_seq ?_
    refine rg j0<|u<|asg j0<|r_nil ?_
    obtain ⟨o,ho,h⟩:=bs h
    refine sw_lpl (X:=Int) (B:=Unit) (R:=Bool) (fun z=>[(2,.mpt 0 0 0),(3,.mpt 1 0 0),(9,iA z)]) (fun z=>[some (10,[[sA v1.Name,.isl 1 (List.map rStr v1.Params),sA v1.Ret,bA v1.Static,bA v1.Abstract,iA v1.Locals,iA v1.Stack,.isl 4 (List.map rApiIns v1.Code),.isl 3 (List.map rApiMap v1.Maps),.isl 4 (List.map rApiTrap v1.Traps)]]),some (10,[[sA v2.Name,.isl 1 (List.map rStr v2.Params),sA v2.Ret,bA v2.Static,bA v2.Abstract,iA v2.Locals,iA v2.Stack,.isl 4 (List.map rApiIns v2.Code),.isl 3 (List.map rApiMap v2.Maps),.isl 4 (List.map rApiTrap v2.Traps)]])]) (fun b=>[]) (fun b=>[]) (fun r env st=>PostF Tryz.prog Tryz.f74 0 (bA r) [] env st) ho ⟨[.old 0,.old 1],cv j0 (.mpt j0)<|cv j0 (.mpt j0)<|ce j0 j0<|cn,j0,⟨⟨_,j0,rsOne ⟨ci j0,ci j0,ci j0,ci j0,ci j0,ci j0,ci j0,ci j0,ci j0,ci j0,j5⟩⟩,⟨_,j0,rsOne ⟨ci j0,ci j0,ci j0,ci j0,ci j0,ci j0,ci j0,ci j0,ci j0,ci j0,j5⟩⟩,j5⟩,j0,j1⟩ ?_ ?_ ?_
    ·
     rintro v28 r h
     replace h : ref3_eqMethod_l5 v1 v2 v28 = some r:=h
     unfold ref3_eqMethod_l5 at h
     refine sw_seq ?_
     refine rg j0<|u<|mv j0<|u<|fa ti62 j0 j0 j0<|u<|ld ti60 j0 j0<|u<|lnI ti60 j0 j0<|u<|lss ti3 j0 j0<|r_nil ?_
     refine sw_cond j0 (fun hc48=>?_) (fun hc48=>?_)
     ·
      replace h:=bT hc48 h
      refine sw_skip ?_
      refine sw_seq ?_
      refine sw_block ?_
      obtain ⟨v29,q49,h⟩:=bs h
      obtain ⟨v30,q50,h⟩:=bs h
      refine rd [(2,.mpt 0 0 0),(3,.mpt 1 0 0),(9,iA v28),(10,.mpt 2 0 0),(11,.mpt 3 0 0)] [some (10,[[sA v1.Name,.isl 1 (List.map rStr v1.Params),sA v1.Ret,bA v1.Static,bA v1.Abstract,iA v1.Locals,iA v1.Stack,.isl 4 (List.map rApiIns v1.Code),.isl 3 (List.map rApiMap v1.Maps),.isl 4 (List.map rApiTrap v1.Traps)]]),some (10,[[sA v2.Name,.isl 1 (List.map rStr v2.Params),sA v2.Ret,bA v2.Static,bA v2.Abstract,iA v2.Locals,iA v2.Stack,.isl 4 (List.map rApiIns v2.Code),.isl 3 (List.map rApiMap v2.Maps),.isl 4 (List.map rApiTrap v2.Traps)]]),some (4,[[iA v29.From,iA v29.To,iA v29.At,sA v29.C]]),some (4,[[iA v30.From,iA v30.To,iA v30.At,sA v30.C]])] [10,11,12,13] [9,8,7,6,5,4,3,2,1,0] [(160,.agg [iA v30.From,iA v30.To,iA v30.At,sA v30.C]),(159,.ipt 4 (List.map rApiTrap v2.Traps) (Int.toNat v28) 0),(158,iA v28),(157,.isl 4 (List.map rApiTrap v2.Traps)),(156,.mpt 1 0 9),(155,.agg [iA v29.From,iA v29.To,iA v29.At,sA v29.C]),(154,.ipt 4 (List.map rApiTrap v1.Traps) (Int.toNat v28) 0),(153,iA v28),(152,.isl 4 (List.map rApiTrap v1.Traps)),(151,.mpt 0 0 9)] 4 (by kernel_rfl) (by kernel_rfl) j0 (by kernel_rfl) (dtS ⟨(fun _=>pa j0 j0 j0 j0 (ldI ti127 j0 (idx_some q50).2.2 j0<|j4)),(fun _=>pa j0 j0 j0 j0 (ixI ti60 j0 ti127 j0 j0 j0 q50<|j4)),(fun _=>pa j0 j0 j0 j0 (mv j0<|j4)),(fun _=>pa j0 j0 j0 j0 (ld ti60 j0 j0<|j4)),(fun _=>pa j0 j0 j0 j0 (fa ti62 j0 j0 j0<|j4)),(fun _=>pa j0 j0 j0 j0 (ldI ti127 j0 (idx_some q49).2.2 j0<|j4)),(fun _=>pa j0 j0 j0 j0 (ixI ti60 j0 ti127 j0 j0 j0 q49<|j4)),(fun _=>pa j0 j0 j0 j0 (mv j0<|j4)),(fun _=>pa j0 j0 j0 j0 (ld ti60 j0 j0<|j4)),(fun _=>pa j0 j0 j0 j0 (fa ti62 j0 j0 j0<|j4)),j5⟩ (by kernel_rfl) j0 ⟨(fun _ _=>⟨_,j0,j0,al 2 ti127 j0<|⟨(.mpt 2 0 0),[],[(10,.mpt 2 0 0)],j0,j0,by kernel_rfl,j0,dtS ⟨(fun _=>pa j0 j0 j0 j0 (ldI ti127 j0 (idx_some q50).2.2 j0<|j4)),(fun _=>pa j0 j0 j0 j0 (ixI ti60 j0 ti127 j0 j0 j0 q50<|j4)),(fun _=>pa j0 j0 j0 j0 (mv j0<|j4)),(fun _=>pa j0 j0 j0 j0 (ld ti60 j0 j0<|j4)),(fun _=>pa j0 j0 j0 j0 (fa ti62 j0 j0 j0<|j4)),(fun _=>pa j0 j0 j0 j0 (ldI ti127 j0 (idx_some q49).2.2 j0<|j4)),(fun _=>pa j0 j0 j0 j0 (ixI ti60 j0 ti127 j0 j0 j0 q49<|j4)),(fun _=>pa j0 j0 j0 j0 (mv j0<|j4)),(fun _=>pa j0 j0 j0 j0 (ld ti60 j0 j0<|j4)),(fun _=>pa j0 j0 j0 j0 (fa ti62 j0 j0 j0<|j4)),j5⟩ (by kernel_rfl) j0 ⟨(fun h=>by cases h),(fun _ _=>⟨_,j0,j0,al 3 ti127 j0<|⟨(.mpt 3 0 0),[],[(11,.mpt 3 0 0)],j0,j0,by kernel_rfl,j0,dtS ⟨(fun _=>pa j0 j0 j0 j0 (ldI ti127 j0 (idx_some q50).2.2 j0<|j4)),(fun _=>pa j0 j0 j0 j0 (ixI ti60 j0 ti127 j0 j0 j0 q50<|j4)),(fun _=>pa j0 j0 j0 j0 (mv j0<|j4)),(fun _=>pa j0 j0 j0 j0 (ld ti60 j0 j0<|j4)),(fun _=>pa j0 j0 j0 j0 (fa ti62 j0 j0 j0<|j4)),(fun _=>pa j0 j0 j0 j0 (ldI ti127 j0 (idx_some q49).2.2 j0<|j4)),(fun _=>pa j0 j0 j0 j0 (ixI ti60 j0 ti127 j0 j0 j0 q49<|j4)),(fun _=>pa j0 j0 j0 j0 (mv j0<|j4)),(fun _=>pa j0 j0 j0 j0 (ld ti60 j0 j0<|j4)),(fun _=>pa j0 j0 j0 j0 (fa ti62 j0 j0 j0<|j4)),j5⟩ (by kernel_rfl) j0 ⟨(fun h=>by cases h),(fun h=>by cases h),(fun _ _=>⟨_,j0,j0,sto ti127 j0 j0 j0<|⟨.any,[],[],j0,j0,by kernel_rfl,j5,dtS ⟨(fun _=>pa j0 j0 j0 j0 (ldI ti127 j0 (idx_some q50).2.2 j0<|j4)),(fun _=>pa j0 j0 j0 j0 (ixI ti60 j0 ti127 j0 j0 j0 q50<|j4)),(fun _=>pa j0 j0 j0 j0 (mv j0<|j4)),(fun _=>pa j0 j0 j0 j0 (ld ti60 j0 j0<|j4)),(fun _=>pa j0 j0 j0 j0 (fa ti62 j0 j0 j0<|j4)),(fun h=>by cases h),(fun h=>by cases h),(fun h=>by cases h),(fun h=>by cases h),(fun h=>by cases h),j5⟩ (by kernel_rfl) j0 ⟨(fun h=>by cases h),(fun h=>by cases h),(fun h=>by cases h),(fun _ _=>⟨_,j0,j0,sto ti127 j0 j0 j0<|⟨.any,[],[],j0,j0,by kernel_rfl,j5,dt0 ⟨(fun h=>by cases h),(fun h=>by cases h),(fun h=>by cases h),(fun h=>by cases h),(fun h=>by cases h),(fun h=>by cases h),(fun h=>by cases h),(fun h=>by cases h),(fun h=>by cases h),(fun h=>by cases h),j5⟩ (by kernel_rfl) j0 ⟨[.old 0,.old 1,.old 2,.old 3],cv j0 (.mpt j0)<|cv j0 (.mpt j0)<|ce j0 j0<|cv j0 (.mpt j0)<|cv j0 (.mpt j0)<|cn,j0,⟨⟨_,j0,rsOne ⟨ci j0,ci j0,ci j0,ci j0,ci j0,ci j0,ci j0,ci j0,ci j0,ci j0,j5⟩⟩,⟨_,j0,rsOne ⟨ci j0,ci j0,ci j0,ci j0,ci j0,ci j0,ci j0,ci j0,ci j0,ci j0,j5⟩⟩,⟨_,j0,rsOne ⟨ci j0,ci j0,ci j0,ci j0,j5⟩⟩,⟨_,j0,rsOne ⟨ci j0,ci j0,ci j0,ci j0,j5⟩⟩,j5⟩,j0,j1⟩⟩⟩),j5⟩⟩⟩),(fun _ h=>by cases h),j5⟩⟩⟩),(fun _ h=>by cases h),(fun _ h=>by cases h),j5⟩⟩⟩),(fun _ _=>⟨_,j0,j0,al 2 ti127 j0<|⟨(.mpt 2 0 0),[],[(11,.mpt 2 0 0)],j0,j0,by kernel_rfl,j0,dtS ⟨(fun _=>pa j0 j0 j0 j0 (ldI ti127 j0 (idx_some q50).2.2 j0<|j4)),(fun _=>pa j0 j0 j0 j0 (ixI ti60 j0 ti127 j0 j0 j0 q50<|j4)),(fun _=>pa j0 j0 j0 j0 (mv j0<|j4)),(fun _=>pa j0 j0 j0 j0 (ld ti60 j0 j0<|j4)),(fun _=>pa j0 j0 j0 j0 (fa ti62 j0 j0 j0<|j4)),(fun _=>pa j0 j0 j0 j0 (ldI ti127 j0 (idx_some q49).2.2 j0<|j4)),(fun _=>pa j0 j0 j0 j0 (ixI ti60 j0 ti127 j0 j0 j0 q49<|j4)),(fun _=>pa j0 j0 j0 j0 (mv j0<|j4)),(fun _=>pa j0 j0 j0 j0 (ld ti60 j0 j0<|j4)),(fun _=>pa j0 j0 j0 j0 (fa ti62 j0 j0 j0<|j4)),j5⟩ (by kernel_rfl) j0 ⟨(fun _ _=>⟨_,j0,j0,al 3 ti127 j0<|⟨(.mpt 3 0 0),[],[(10,.mpt 3 0 0)],j0,j0,by kernel_rfl,j0,dtS ⟨(fun _=>pa j0 j0 j0 j0 (ldI ti127 j0 (idx_some q50).2.2 j0<|j4)),(fun _=>pa j0 j0 j0 j0 (ixI ti60 j0 ti127 j0 j0 j0 q50<|j4)),(fun _=>pa j0 j0 j0 j0 (mv j0<|j4)),(fun _=>pa j0 j0 j0 j0 (ld ti60 j0 j0<|j4)),(fun _=>pa j0 j0 j0 j0 (fa ti62 j0 j0 j0<|j4)),(fun _=>pa j0 j0 j0 j0 (ldI ti127 j0 (idx_some q49).2.2 j0<|j4)),(fun _=>pa j0 j0 j0 j0 (ixI ti60 j0 ti127 j0 j0 j0 q49<|j4)),(fun _=>pa j0 j0 j0 j0 (mv j0<|j4)),(fun _=>pa j0 j0 j0 j0 (ld ti60 j0 j0<|j4)),(fun _=>pa j0 j0 j0 j0 (fa ti62 j0 j0 j0<|j4)),j5⟩ (by kernel_rfl) j0 ⟨(fun h=>by cases h),(fun h=>by cases h),(fun _ _=>⟨_,j0,j0,sto ti127 j0 j0 j0<|⟨.any,[],[],j0,j0,by kernel_rfl,j5,dtS ⟨(fun _=>pa j0 j0 j0 j0 (ldI ti127 j0 (idx_some q50).2.2 j0<|j4)),(fun _=>pa j0 j0 j0 j0 (ixI ti60 j0 ti127 j0 j0 j0 q50<|j4)),(fun _=>pa j0 j0 j0 j0 (mv j0<|j4)),(fun _=>pa j0 j0 j0 j0 (ld ti60 j0 j0<|j4)),(fun _=>pa j0 j0 j0 j0 (fa ti62 j0 j0 j0<|j4)),(fun h=>by cases h),(fun h=>by cases h),(fun h=>by cases h),(fun h=>by cases h),(fun h=>by cases h),j5⟩ (by kernel_rfl) j0 ⟨(fun h=>by cases h),(fun h=>by cases h),(fun h=>by cases h),(fun _ _=>⟨_,j0,j0,sto ti127 j0 j0 j0<|⟨.any,[],[],j0,j0,by kernel_rfl,j5,dt0 ⟨(fun h=>by cases h),(fun h=>by cases h),(fun h=>by cases h),(fun h=>by cases h),(fun h=>by cases h),(fun h=>by cases h),(fun h=>by cases h),(fun h=>by cases h),(fun h=>by cases h),(fun h=>by cases h),j5⟩ (by kernel_rfl) j0 ⟨[.old 0,.old 1,.old 3,.old 2],cv j0 (.mpt j0)<|cv j0 (.mpt j0)<|ce j0 j0<|cv j0 (.mpt j0)<|cv j0 (.mpt j0)<|cn,j0,⟨⟨_,j0,rsOne ⟨ci j0,ci j0,ci j0,ci j0,ci j0,ci j0,ci j0,ci j0,ci j0,ci j0,j5⟩⟩,⟨_,j0,rsOne ⟨ci j0,ci j0,ci j0,ci j0,ci j0,ci j0,ci j0,ci j0,ci j0,ci j0,j5⟩⟩,⟨_,j0,rsOne ⟨ci j0,ci j0,ci j0,ci j0,j5⟩⟩,⟨_,j0,rsOne ⟨ci j0,ci j0,ci j0,ci j0,j5⟩⟩,j5⟩,j0,j1⟩⟩⟩),j5⟩⟩⟩),(fun _ h=>by cases h),j5⟩⟩⟩),(fun h=>by cases h),(fun _ h=>by cases h),(fun _ h=>by cases h),j5⟩⟩⟩),(fun _ h=>by cases h),(fun _ h=>by cases h),j5⟩) ?_
      refine rg j0<|u<|fa ti127 j0 j0 j0<|u<|ld ti3 j0 j0<|u<|fa ti127 j0 j0 j0<|u<|ld ti3 j0 j0<|u<|neq ti3 j0 j0<|u<|mv j0<|r_or (j:=5) 5 j0 j0 j0 j0 j0 gpn (fun hb51=>g j0 hb51<|fa ti127 j0 j0 j0<|g j0 hb51<|ld ti3 j0 j0<|g j0 hb51<|fa ti127 j0 j0 j0<|g j0 hb51<|ld ti3 j0 j0<|g j0 hb51<|neq ti3 j0 j0<|r_nil (egO [167,168,169,170,171] 5 hb51 j0 j0 j0 j0)) orT<|u<|mv j0<|r_or (j:=12) 5 j0 j0 j0 j0 j0 gpn (fun hb52=>g j0 hb52<|fa ti127 j0 j0 j0<|g j0 hb52<|ld ti3 j0 j0<|g j0 hb52<|fa ti127 j0 j0 j0<|g j0 hb52<|ld ti3 j0 j0<|g j0 hb52<|neq ti3 j0 j0<|r_nil (egO [174,175,176,177,178] 5 hb52 j0 j0 j0 j0)) orT<|u<|mv j0<|r_or (j:=19) 5 j0 j0 j0 j0 j0 gpn (fun hb53=>g j0 hb53<|fa ti127 j0 j0 j0<|g j0 hb53<|ld ti9 j0 j0<|g j0 hb53<|fa ti127 j0 j0 j0<|g j0 hb53<|ld ti9 j0 j0<|g j0 hb53<|sne ti9 j0 j0<|r_nil (egO [181,182,183,184,185] 5 hb53 j0 j0 j0 j0)) orT<|r_nil ?_
      refine sw_cond j0 (fun hc54=>?_) (fun hc54=>?_)
      ·
       replace h:=bT hc54 h
       refine rg j0<|u<|asg j0<|r_nil ?_
       refine sw_ret ?_
       obtain rfl:=sm h
       exact ⟨_,j0,_,j0,[],ci j0,j0,j5,j0,j1⟩
      ·
       replace h:=bF hc54 h
       refine sw_skip ?_
       refine rl j0<|u<|mv j0<|u<|add ti3 j0 j0<|u<|asg j0<|r_nil ?_
       obtain rfl:=sm h
       exact ⟨_,j0,[.old 0,.old 1],cv j0 (.mpt j0)<|cv j0 (.mpt j0)<|ce j0 j0<|cn,j0,⟨⟨_,j0,rsOne ⟨ci j0,ci j0,ci j0,ci j0,ci j0,ci j0,ci j0,ci j0,ci j0,ci j0,j5⟩⟩,⟨_,j0,rsOne ⟨ci j0,ci j0,ci j0,ci j0,ci j0,ci j0,ci j0,ci j0,ci j0,ci j0,j5⟩⟩,j5⟩,j0,j1⟩
     ·
      replace h:=bF hc48 h
      refine sw_exit ?_
      obtain rfl:=sm h
      exact ⟨j0,_,j0,[],cn,j0,j5,j0,j1⟩
    ·
     rintro ⟨⟩ rfl
     replace h : ref3_eqMethod_k6 = some r:=h
     unfold ref3_eqMethod_k6 at h
     refine ow_intro ?_
     refine rg j0<|u<|asg j0<|r_nil ?_
     refine sw_ret ?_
     obtain rfl:=sm h
     exact ⟨_,j0,[],ci j0,j0,j5,j0,j1⟩
    ·
     rintro r' rfl env st hp
     obtain rfl:=sm h
     exact hp
   ·
    rintro r' rfl env st hp
    obtain rfl:=sm h
    exact hp
  ·
   rintro r' rfl env st hp
   obtain rfl:=sm h
   exact hp
def ref3_EqClass_k4 : Option (Bool) :=
  some true
def ref3_EqClass_l3 (v1 : ApiClass) (v2 : ApiClass) (v15 : Int) : Option (Sum (Int) (Sum (Unit) (Bool))) :=
  cond (decide (v15 < (List.length v1.Methods : Int))) ((idx v1.Methods v15).bind fun v16=>(idx v2.Methods v15).bind fun v17=>(ref3_eqMethod v16 v17).bind fun v18=>cond (!v18) (some (.inr (.inr false))) (some (.inl (IntKind.i64.wrap (v15 + 1))))) (some (.inr (.inl ())))
def ref3_EqClass_k2 (v1 : ApiClass) (v2 : ApiClass) : Option (Bool) :=
  (loopP (fun z=>ref3_EqClass_l3 v1 v2 z) 0).bind fun o=>leave o (fun b=>ref3_EqClass_k4) some
def ref3_EqClass_l1 (v1 : ApiClass) (v2 : ApiClass) (v8 : Int) : Option (Sum (Int) (Sum (Unit) (Bool))) :=
  cond (decide (v8 < (List.length v1.Fields : Int))) ((idx v1.Fields v8).bind fun v9=>(idx v2.Fields v8).bind fun v10=>cond (((!(v9.Name == v10.Name)) || (!(v9.Type_ == v10.Type_))) || (!(v9.Static == v10.Static))) (some (.inr (.inr false))) (some (.inl (IntKind.i64.wrap (v8 + 1))))) (some (.inr (.inl ())))
def ref3_EqClass (v1 : ApiClass) (v2 : ApiClass) : Option (Bool) :=
  (cond (((!(v1.Name == v2.Name)) || (!(v1.Super == v2.Super))) || (!(v1.Interface == v2.Interface))) (some true) ((ref3_EqTexts v1.Impl v2.Impl).bind fun v3=>some (!v3))).bind fun v4=>cond ((v4 || (!((List.length v1.Fields : Int) == (List.length v2.Fields : Int)))) || (!((List.length v1.Methods : Int) == (List.length v2.Methods : Int)))) (some false) ((loopP (fun z=>ref3_EqClass_l1 v1 v2 z) 0).bind fun o=>leave o (fun b=>ref3_EqClass_k2 v1 v2) some)
theorem ref3_EqClass_ok (v1 : ApiClass) (v2 : ApiClass) {r : Bool} (h : ref3_EqClass v1 v2 = some r) : PureC Tryz.prog 34 [.agg [sA v1.Name,sA v1.Super,bA v1.Interface,.isl 1 (List.map rStr v1.Impl),.isl 3 (List.map rApiField v1.Fields),.isl 10 (List.map rApiMethod v1.Methods)],.agg [sA v2.Name,sA v2.Super,bA v2.Interface,.isl 1 (List.map rStr v2.Impl),.isl 3 (List.map rApiField v2.Fields),.isl 10 (List.map rApiMethod v2.Methods)]] (bA r):=by
 refine pure_fn Tryz.func34 j0 (by kernel_rfl) j0 j0 ?_
 unfold ref3_EqClass at h
 refine rg j0<|u<|bx 0 6 j0 j0 j0 j0<|u<|bx 1 6 j0 j0 j0 j0<|u<|asg j0<|r_nil ?_
 refine sw_seq ?_
 obtain ⟨v4,q5,h⟩:=bs h
 refine rg j0<|u<|fa ti42 j0 j0 j0<|u<|ld ti9 j0 j0<|u<|fa ti42 j0 j0 j0<|u<|ld ti9 j0 j0<|u<|sne ti9 j0 j0<|u<|mv j0<|r_or (j:=5) 5 j0 j0 j0 j0 j0 gpn (fun hb1=>g j0 hb1<|fa ti42 j0 j0 j0<|g j0 hb1<|ld ti9 j0 j0<|g j0 hb1<|fa ti42 j0 j0 j0<|g j0 hb1<|ld ti9 j0 j0<|g j0 hb1<|sne ti9 j0 j0<|r_nil (egO [15,16,17,18,19] 5 hb1 j0 j0 j0 j0)) orT<|u<|mv j0<|r_or (j:=12) 5 j0 j0 j0 j0 j0 gpn (fun hb2=>g j0 hb2<|fa ti42 j0 j0 j0<|g j0 hb2<|ld ti4 j0 j0<|g j0 hb2<|fa ti42 j0 j0 j0<|g j0 hb2<|ld ti4 j0 j0<|g j0 hb2<|bne ti4 j0 j0 j0<|r_nil (egO [22,23,24,25,26] 5 hb2 j0 j0 j0 j0)) orT<|u<|mv j0<|r_or (x:=v4) (j:=19) 6 j0 j0 j0 j0 j0 gpn (fun hb3=>by replace q5:=bF hb3 q5; obtain ⟨v3,q4,q5⟩:=bs q5; obtain rfl:=sm q5; exact g j0 hb3<|fa ti42 j0 j0 j0<|g j0 hb3<|ld ti32 j0 j0<|g j0 hb3<|fa ti42 j0 j0 j0<|g j0 hb3<|ld ti32 j0 j0<|g j0 hb3<|pc (ref3_EqTexts_ok v1.Impl v2.Impl q4) j0 j0 j0<|g j0 hb3<|nt j0<|r_nil (eg [29,30,31,32,33,34] 6 j0 j0 j0 j0)) (fun hb=>(sm (bT hb q5)).symm)<|u<|mv j0<|r_or (j:=27) 7 j0 j0 j0 j0 j0 gpn (fun hb6=>g j0 hb6<|fa ti42 j0 j0 j0<|g j0 hb6<|ld ti39 j0 j0<|g j0 hb6<|lnI ti39 j0 j0<|g j0 hb6<|fa ti42 j0 j0 j0<|g j0 hb6<|ld ti39 j0 j0<|g j0 hb6<|lnI ti39 j0 j0<|g j0 hb6<|neq ti3 j0 j0<|r_nil (egO [37,38,39,40,41,42,43] 7 hb6 j0 j0 j0 j0)) orT<|u<|mv j0<|r_or (j:=36) 7 j0 j0 j0 j0 j0 gpn (fun hb7=>g j0 hb7<|fa ti42 j0 j0 j0<|g j0 hb7<|ld ti40 j0 j0<|g j0 hb7<|lnI ti40 j0 j0<|g j0 hb7<|fa ti42 j0 j0 j0<|g j0 hb7<|ld ti40 j0 j0<|g j0 hb7<|lnI ti40 j0 j0<|g j0 hb7<|neq ti3 j0 j0<|r_nil (egO [46,47,48,49,50,51,52] 7 hb7 j0 j0 j0 j0)) orT<|r_nil ?_
 refine sw_cond j0 (fun hc8=>?_) (fun hc8=>?_)
 ·
  replace h:=bT hc8 h
  refine rg j0<|u<|asg j0<|r_nil ?_
  refine sw_ret ?_
  obtain rfl:=sm h
  exact ⟨_,j0,[],ci j0,j0,j5,j0,j1⟩
 ·
  replace h:=bF hc8 h
  refine sw_skip ?_
  refine sw_seq ?_
  refine rg j0<|u<|asg j0<|r_nil ?_
  obtain ⟨o,ho,h⟩:=bs h
  refine sw_lpl (X:=Int) (B:=Unit) (R:=Bool) (fun z=>[(2,.mpt 0 0 0),(3,.mpt 1 0 0),(5,iA z)]) (fun z=>[some (6,[[sA v1.Name,sA v1.Super,bA v1.Interface,.isl 1 (List.map rStr v1.Impl),.isl 3 (List.map rApiField v1.Fields),.isl 10 (List.map rApiMethod v1.Methods)]]),some (6,[[sA v2.Name,sA v2.Super,bA v2.Interface,.isl 1 (List.map rStr v2.Impl),.isl 3 (List.map rApiField v2.Fields),.isl 10 (List.map rApiMethod v2.Methods)]])]) (fun b=>[(2,.mpt 0 0 0),(3,.mpt 1 0 0)]) (fun b=>[some (6,[[sA v1.Name,sA v1.Super,bA v1.Interface,.isl 1 (List.map rStr v1.Impl),.isl 3 (List.map rApiField v1.Fields),.isl 10 (List.map rApiMethod v1.Methods)]]),some (6,[[sA v2.Name,sA v2.Super,bA v2.Interface,.isl 1 (List.map rStr v2.Impl),.isl 3 (List.map rApiField v2.Fields),.isl 10 (List.map rApiMethod v2.Methods)]])]) (fun r env st=>PostF Tryz.prog Tryz.f34 0 (bA r) [] env st) ho ⟨[.old 0,.old 1],cv j0 (.mpt j0)<|cv j0 (.mpt j0)<|ce j0 j0<|cn,j0,⟨⟨_,j0,rsOne ⟨ci j0,ci j0,ci j0,ci j0,ci j0,ci j0,j5⟩⟩,⟨_,j0,rsOne ⟨ci j0,ci j0,ci j0,ci j0,ci j0,ci j0,j5⟩⟩,j5⟩,j0,j1⟩ ?_ ?_ ?_
  ·
   rintro v8 r h
   replace h : ref3_EqClass_l1 v1 v2 v8 = some r:=h
   unfold ref3_EqClass_l1 at h
   refine sw_seq ?_
   refine rg j0<|u<|mv j0<|u<|fa ti42 j0 j0 j0<|u<|ld ti39 j0 j0<|u<|lnI ti39 j0 j0<|u<|lss ti3 j0 j0<|r_nil ?_
   refine sw_cond j0 (fun hc15=>?_) (fun hc15=>?_)
   ·
    replace h:=bT hc15 h
    refine sw_skip ?_
    refine sw_seq ?_
    refine sw_block ?_
    obtain ⟨v9,q16,h⟩:=bs h
    obtain ⟨v10,q17,h⟩:=bs h
    refine rd [(2,.mpt 0 0 0),(3,.mpt 1 0 0),(5,iA v8),(6,.mpt 2 0 0),(7,.mpt 3 0 0)] [some (6,[[sA v1.Name,sA v1.Super,bA v1.Interface,.isl 1 (List.map rStr v1.Impl),.isl 3 (List.map rApiField v1.Fields),.isl 10 (List.map rApiMethod v1.Methods)]]),some (6,[[sA v2.Name,sA v2.Super,bA v2.Interface,.isl 1 (List.map rStr v2.Impl),.isl 3 (List.map rApiField v2.Fields),.isl 10 (List.map rApiMethod v2.Methods)]]),some (3,[[sA v9.Name,sA v9.Type_,bA v9.Static]]),some (3,[[sA v10.Name,sA v10.Type_,bA v10.Static]])] [10,11,12,13] [9,8,7,6,5,4,3,2,1,0] [(70,.agg [sA v10.Name,sA v10.Type_,bA v10.Static]),(69,.ipt 3 (List.map rApiField v2.Fields) (Int.toNat v8) 0),(68,iA v8),(67,.isl 3 (List.map rApiField v2.Fields)),(66,.mpt 1 0 4),(65,.agg [sA v9.Name,sA v9.Type_,bA v9.Static]),(64,.ipt 3 (List.map rApiField v1.Fields) (Int.toNat v8) 0),(63,iA v8),(62,.isl 3 (List.map rApiField v1.Fields)),(61,.mpt 0 0 4)] 4 (by kernel_rfl) (by kernel_rfl) j0 (by kernel_rfl) (dtS ⟨(fun _=>pa j0 j0 j0 j0 (ldI ti57 j0 (idx_some q17).2.2 j0<|j4)),(fun _=>pa j0 j0 j0 j0 (ixI ti39 j0 ti57 j0 j0 j0 q17<|j4)),(fun _=>pa j0 j0 j0 j0 (mv j0<|j4)),(fun _=>pa j0 j0 j0 j0 (ld ti39 j0 j0<|j4)),(fun _=>pa j0 j0 j0 j0 (fa ti42 j0 j0 j0<|j4)),(fun _=>pa j0 j0 j0 j0 (ldI ti57 j0 (idx_some q16).2.2 j0<|j4)),(fun _=>pa j0 j0 j0 j0 (ixI ti39 j0 ti57 j0 j0 j0 q16<|j4)),(fun _=>pa j0 j0 j0 j0 (mv j0<|j4)),(fun _=>pa j0 j0 j0 j0 (ld ti39 j0 j0<|j4)),(fun _=>pa j0 j0 j0 j0 (fa ti42 j0 j0 j0<|j4)),j5⟩ (by kernel_rfl) j0 ⟨(fun _ _=>⟨_,j0,j0,al 2 ti57 j0<|⟨(.mpt 2 0 0),[],[(6,.mpt 2 0 0)],j0,j0,by kernel_rfl,j0,dtS ⟨(fun _=>pa j0 j0 j0 j0 (ldI ti57 j0 (idx_some q17).2.2 j0<|j4)),(fun _=>pa j0 j0 j0 j0 (ixI ti39 j0 ti57 j0 j0 j0 q17<|j4)),(fun _=>pa j0 j0 j0 j0 (mv j0<|j4)),(fun _=>pa j0 j0 j0 j0 (ld ti39 j0 j0<|j4)),(fun _=>pa j0 j0 j0 j0 (fa ti42 j0 j0 j0<|j4)),(fun _=>pa j0 j0 j0 j0 (ldI ti57 j0 (idx_some q16).2.2 j0<|j4)),(fun _=>pa j0 j0 j0 j0 (ixI ti39 j0 ti57 j0 j0 j0 q16<|j4)),(fun _=>pa j0 j0 j0 j0 (mv j0<|j4)),(fun _=>pa j0 j0 j0 j0 (ld ti39 j0 j0<|j4)),(fun _=>pa j0 j0 j0 j0 (fa ti42 j0 j0 j0<|j4)),j5⟩ (by kernel_rfl) j0 ⟨(fun h=>by cases h),(fun _ _=>⟨_,j0,j0,al 3 ti57 j0<|⟨(.mpt 3 0 0),[],[(7,.mpt 3 0 0)],j0,j0,by kernel_rfl,j0,dtS ⟨(fun _=>pa j0 j0 j0 j0 (ldI ti57 j0 (idx_some q17).2.2 j0<|j4)),(fun _=>pa j0 j0 j0 j0 (ixI ti39 j0 ti57 j0 j0 j0 q17<|j4)),(fun _=>pa j0 j0 j0 j0 (mv j0<|j4)),(fun _=>pa j0 j0 j0 j0 (ld ti39 j0 j0<|j4)),(fun _=>pa j0 j0 j0 j0 (fa ti42 j0 j0 j0<|j4)),(fun _=>pa j0 j0 j0 j0 (ldI ti57 j0 (idx_some q16).2.2 j0<|j4)),(fun _=>pa j0 j0 j0 j0 (ixI ti39 j0 ti57 j0 j0 j0 q16<|j4)),(fun _=>pa j0 j0 j0 j0 (mv j0<|j4)),(fun _=>pa j0 j0 j0 j0 (ld ti39 j0 j0<|j4)),(fun _=>pa j0 j0 j0 j0 (fa ti42 j0 j0 j0<|j4)),j5⟩ (by kernel_rfl) j0 ⟨(fun h=>by cases h),(fun h=>by cases h),(fun _ _=>⟨_,j0,j0,sto ti57 j0 j0 j0<|⟨.any,[],[],j0,j0,by kernel_rfl,j5,dtS ⟨(fun _=>pa j0 j0 j0 j0 (ldI ti57 j0 (idx_some q17).2.2 j0<|j4)),(fun _=>pa j0 j0 j0 j0 (ixI ti39 j0 ti57 j0 j0 j0 q17<|j4)),(fun _=>pa j0 j0 j0 j0 (mv j0<|j4)),(fun _=>pa j0 j0 j0 j0 (ld ti39 j0 j0<|j4)),(fun _=>pa j0 j0 j0 j0 (fa ti42 j0 j0 j0<|j4)),(fun h=>by cases h),(fun h=>by cases h),(fun h=>by cases h),(fun h=>by cases h),(fun h=>by cases h),j5⟩ (by kernel_rfl) j0 ⟨(fun h=>by cases h),(fun h=>by cases h),(fun h=>by cases h),(fun _ _=>⟨_,j0,j0,sto ti57 j0 j0 j0<|⟨.any,[],[],j0,j0,by kernel_rfl,j5,dt0 ⟨(fun h=>by cases h),(fun h=>by cases h),(fun h=>by cases h),(fun h=>by cases h),(fun h=>by cases h),(fun h=>by cases h),(fun h=>by cases h),(fun h=>by cases h),(fun h=>by cases h),(fun h=>by cases h),j5⟩ (by kernel_rfl) j0 ⟨[.old 0,.old 1,.old 2,.old 3],cv j0 (.mpt j0)<|cv j0 (.mpt j0)<|ce j0 j0<|cv j0 (.mpt j0)<|cv j0 (.mpt j0)<|cn,j0,⟨⟨_,j0,rsOne ⟨ci j0,ci j0,ci j0,ci j0,ci j0,ci j0,j5⟩⟩,⟨_,j0,rsOne ⟨ci j0,ci j0,ci j0,ci j0,ci j0,ci j0,j5⟩⟩,⟨_,j0,rsOne ⟨ci j0,ci j0,ci j0,j5⟩⟩,⟨_,j0,rsOne ⟨ci j0,ci j0,ci j0,j5⟩⟩,j5⟩,j0,j1⟩⟩⟩),j5⟩⟩⟩),(fun _ h=>by cases h),j5⟩⟩⟩),(fun _ h=>by cases h),(fun _ h=>by cases h),j5⟩⟩⟩),(fun _ _=>⟨_,j0,j0,al 2 ti57 j0<|⟨(.mpt 2 0 0),[],[(7,.mpt 2 0 0)],j0,j0,by kernel_rfl,j0,dtS ⟨(fun _=>pa j0 j0 j0 j0 (ldI ti57 j0 (idx_some q17).2.2 j0<|j4)),(fun _=>pa j0 j0 j0 j0 (ixI ti39 j0 ti57 j0 j0 j0 q17<|j4)),(fun _=>pa j0 j0 j0 j0 (mv j0<|j4)),(fun _=>pa j0 j0 j0 j0 (ld ti39 j0 j0<|j4)),(fun _=>pa j0 j0 j0 j0 (fa ti42 j0 j0 j0<|j4)),(fun _=>pa j0 j0 j0 j0 (ldI ti57 j0 (idx_some q16).2.2 j0<|j4)),(fun _=>pa j0 j0 j0 j0 (ixI ti39 j0 ti57 j0 j0 j0 q16<|j4)),(fun _=>pa j0 j0 j0 j0 (mv j0<|j4)),(fun _=>pa j0 j0 j0 j0 (ld ti39 j0 j0<|j4)),(fun _=>pa j0 j0 j0 j0 (fa ti42 j0 j0 j0<|j4)),j5⟩ (by kernel_rfl) j0 ⟨(fun _ _=>⟨_,j0,j0,al 3 ti57 j0<|⟨(.mpt 3 0 0),[],[(6,.mpt 3 0 0)],j0,j0,by kernel_rfl,j0,dtS ⟨(fun _=>pa j0 j0 j0 j0 (ldI ti57 j0 (idx_some q17).2.2 j0<|j4)),(fun _=>pa j0 j0 j0 j0 (ixI ti39 j0 ti57 j0 j0 j0 q17<|j4)),(fun _=>pa j0 j0 j0 j0 (mv j0<|j4)),(fun _=>pa j0 j0 j0 j0 (ld ti39 j0 j0<|j4)),(fun _=>pa j0 j0 j0 j0 (fa ti42 j0 j0 j0<|j4)),(fun _=>pa j0 j0 j0 j0 (ldI ti57 j0 (idx_some q16).2.2 j0<|j4)),(fun _=>pa j0 j0 j0 j0 (ixI ti39 j0 ti57 j0 j0 j0 q16<|j4)),(fun _=>pa j0 j0 j0 j0 (mv j0<|j4)),(fun _=>pa j0 j0 j0 j0 (ld ti39 j0 j0<|j4)),(fun _=>pa j0 j0 j0 j0 (fa ti42 j0 j0 j0<|j4)),j5⟩ (by kernel_rfl) j0 ⟨(fun h=>by cases h),(fun h=>by cases h),(fun _ _=>⟨_,j0,j0,sto ti57 j0 j0 j0<|⟨.any,[],[],j0,j0,by kernel_rfl,j5,dtS ⟨(fun _=>pa j0 j0 j0 j0 (ldI ti57 j0 (idx_some q17).2.2 j0<|j4)),(fun _=>pa j0 j0 j0 j0 (ixI ti39 j0 ti57 j0 j0 j0 q17<|j4)),(fun _=>pa j0 j0 j0 j0 (mv j0<|j4)),(fun _=>pa j0 j0 j0 j0 (ld ti39 j0 j0<|j4)),(fun _=>pa j0 j0 j0 j0 (fa ti42 j0 j0 j0<|j4)),(fun h=>by cases h),(fun h=>by cases h),(fun h=>by cases h),(fun h=>by cases h),(fun h=>by cases h),j5⟩ (by kernel_rfl) j0 ⟨(fun h=>by cases h),(fun h=>by cases h),(fun h=>by cases h),(fun _ _=>⟨_,j0,j0,sto ti57 j0 j0 j0<|⟨.any,[],[],j0,j0,by kernel_rfl,j5,dt0 ⟨(fun h=>by cases h),(fun h=>by cases h),(fun h=>by cases h),(fun h=>by cases h),(fun h=>by cases h),(fun h=>by cases h),(fun h=>by cases h),(fun h=>by cases h),(fun h=>by cases h),(fun h=>by cases h),j5⟩ (by kernel_rfl) j0 ⟨[.old 0,.old 1,.old 3,.old 2],cv j0 (.mpt j0)<|cv j0 (.mpt j0)<|ce j0 j0<|cv j0 (.mpt j0)<|cv j0 (.mpt j0)<|cn,j0,⟨⟨_,j0,rsOne ⟨ci j0,ci j0,ci j0,ci j0,ci j0,ci j0,j5⟩⟩,⟨_,j0,rsOne ⟨ci j0,ci j0,ci j0,ci j0,ci j0,ci j0,j5⟩⟩,⟨_,j0,rsOne ⟨ci j0,ci j0,ci j0,j5⟩⟩,⟨_,j0,rsOne ⟨ci j0,ci j0,ci j0,j5⟩⟩,j5⟩,j0,j1⟩⟩⟩),j5⟩⟩⟩),(fun _ h=>by cases h),j5⟩⟩⟩),(fun h=>by cases h),(fun _ h=>by cases h),(fun _ h=>by cases h),j5⟩⟩⟩),(fun _ h=>by cases h),(fun _ h=>by cases h),j5⟩) ?_
    refine rg j0<|u<|fa ti57 j0 j0 j0<|u<|ld ti9 j0 j0<|u<|fa ti57 j0 j0 j0<|u<|ld ti9 j0 j0<|u<|sne ti9 j0 j0<|u<|mv j0<|r_or (j:=5) 5 j0 j0 j0 j0 j0 gpn (fun hb18=>g j0 hb18<|fa ti57 j0 j0 j0<|g j0 hb18<|ld ti9 j0 j0<|g j0 hb18<|fa ti57 j0 j0 j0<|g j0 hb18<|ld ti9 j0 j0<|g j0 hb18<|sne ti9 j0 j0<|r_nil (egO [77,78,79,80,81] 5 hb18 j0 j0 j0 j0)) orT<|u<|mv j0<|r_or (j:=12) 5 j0 j0 j0 j0 j0 gpn (fun hb19=>g j0 hb19<|fa ti57 j0 j0 j0<|g j0 hb19<|ld ti4 j0 j0<|g j0 hb19<|fa ti57 j0 j0 j0<|g j0 hb19<|ld ti4 j0 j0<|g j0 hb19<|bne ti4 j0 j0 j0<|r_nil (egO [84,85,86,87,88] 5 hb19 j0 j0 j0 j0)) orT<|r_nil ?_
    refine sw_cond j0 (fun hc20=>?_) (fun hc20=>?_)
    ·
     replace h:=bT hc20 h
     refine rg j0<|u<|asg j0<|r_nil ?_
     refine sw_ret ?_
     obtain rfl:=sm h
     exact ⟨_,j0,_,j0,[],ci j0,j0,j5,j0,j1⟩
    ·
     replace h:=bF hc20 h
     refine sw_skip ?_
     refine rl j0<|u<|mv j0<|u<|add ti3 j0 j0<|u<|asg j0<|r_nil ?_
     obtain rfl:=sm h
     exact ⟨_,j0,[.old 0,.old 1],cv j0 (.mpt j0)<|cv j0 (.mpt j0)<|ce j0 j0<|cn,j0,⟨⟨_,j0,rsOne ⟨ci j0,ci j0,ci j0,ci j0,ci j0,ci j0,j5⟩⟩,⟨_,j0,rsOne ⟨ci j0,ci j0,ci j0,ci j0,ci j0,ci j0,j5⟩⟩,j5⟩,j0,j1⟩
   ·
    replace h:=bF hc15 h
    refine sw_exit ?_
    obtain rfl:=sm h
    exact ⟨j0,_,j0,[.old 0,.old 1],cv j0 (.mpt j0)<|cv j0 (.mpt j0)<|cn,j0,⟨⟨_,j0,rsOne ⟨ci j0,ci j0,ci j0,ci j0,ci j0,ci j0,j5⟩⟩,⟨_,j0,rsOne ⟨ci j0,ci j0,ci j0,ci j0,ci j0,ci j0,j5⟩⟩,j5⟩,j0,j1⟩
  ·
   rintro ⟨⟩ rfl
   replace h : ref3_EqClass_k2 v1 v2 = some r:=h
   unfold ref3_EqClass_k2 at h
   refine ow_intro ?_
   refine sw_seq ?_
   refine rg j0<|u<|asg j0<|r_nil ?_
   obtain ⟨o,ho,h⟩:=bs h
   refine sw_lpl (X:=Int) (B:=Unit) (R:=Bool) (fun z=>[(2,.mpt 0 0 0),(3,.mpt 1 0 0),(8,iA z)]) (fun z=>[some (6,[[sA v1.Name,sA v1.Super,bA v1.Interface,.isl 1 (List.map rStr v1.Impl),.isl 3 (List.map rApiField v1.Fields),.isl 10 (List.map rApiMethod v1.Methods)]]),some (6,[[sA v2.Name,sA v2.Super,bA v2.Interface,.isl 1 (List.map rStr v2.Impl),.isl 3 (List.map rApiField v2.Fields),.isl 10 (List.map rApiMethod v2.Methods)]])]) (fun b=>[]) (fun b=>[]) (fun r env st=>PostF Tryz.prog Tryz.f34 0 (bA r) [] env st) ho ⟨[.old 0,.old 1],cv j0 (.mpt j0)<|cv j0 (.mpt j0)<|ce j0 j0<|cn,j0,⟨⟨_,j0,rsOne ⟨ci j0,ci j0,ci j0,ci j0,ci j0,ci j0,j5⟩⟩,⟨_,j0,rsOne ⟨ci j0,ci j0,ci j0,ci j0,ci j0,ci j0,j5⟩⟩,j5⟩,j0,j1⟩ ?_ ?_ ?_
   ·
    rintro v15 r h
    replace h : ref3_EqClass_l3 v1 v2 v15 = some r:=h
    unfold ref3_EqClass_l3 at h
    refine sw_seq ?_
    refine rg j0<|u<|mv j0<|u<|fa ti42 j0 j0 j0<|u<|ld ti40 j0 j0<|u<|lnI ti40 j0 j0<|u<|lss ti3 j0 j0<|r_nil ?_
    refine sw_cond j0 (fun hc26=>?_) (fun hc26=>?_)
    ·
     replace h:=bT hc26 h
     refine sw_skip ?_
     refine sw_seq ?_
     refine sw_block ?_
     obtain ⟨v16,q27,h⟩:=bs h
     obtain ⟨v17,q28,h⟩:=bs h
     obtain ⟨v18,q29,h⟩:=bs h
     refine rd [(2,.mpt 0 0 0),(3,.mpt 1 0 0),(8,iA v15),(108,bA (!v18))] [some (6,[[sA v1.Name,sA v1.Super,bA v1.Interface,.isl 1 (List.map rStr v1.Impl),.isl 3 (List.map rApiField v1.Fields),.isl 10 (List.map rApiMethod v1.Methods)]]),some (6,[[sA v2.Name,sA v2.Super,bA v2.Interface,.isl 1 (List.map rStr v2.Impl),.isl 3 (List.map rApiField v2.Fields),.isl 10 (List.map rApiMethod v2.Methods)]])] [] [11,10,9,8,7,6,5,4,3,2,1,0] [(108,bA (!v18)),(107,bA v18),(106,.agg [sA v17.Name,.isl 1 (List.map rStr v17.Params),sA v17.Ret,bA v17.Static,bA v17.Abstract,iA v17.Locals,iA v17.Stack,.isl 4 (List.map rApiIns v17.Code),.isl 3 (List.map rApiMap v17.Maps),.isl 4 (List.map rApiTrap v17.Traps)]),(105,.ipt 10 (List.map rApiMethod v2.Methods) (Int.toNat v15) 0),(104,iA v15),(103,.isl 10 (List.map rApiMethod v2.Methods)),(102,.mpt 1 0 5),(101,.agg [sA v16.Name,.isl 1 (List.map rStr v16.Params),sA v16.Ret,bA v16.Static,bA v16.Abstract,iA v16.Locals,iA v16.Stack,.isl 4 (List.map rApiIns v16.Code),.isl 3 (List.map rApiMap v16.Maps),.isl 4 (List.map rApiTrap v16.Traps)]),(100,.ipt 10 (List.map rApiMethod v1.Methods) (Int.toNat v15) 0),(99,iA v15),(98,.isl 10 (List.map rApiMethod v1.Methods)),(97,.mpt 0 0 5)] 0 (by kernel_rfl) (by kernel_rfl) j0 (by kernel_rfl) (dt0 ⟨(fun _=>pa j0 j0 j0 j0 (nt j0<|j4)),(fun _=>pa j0 j0 j0 j0 (pc (ref3_eqMethod_ok v16 v17 q29) j0 j0 j0<|j4)),(fun _=>pa j0 j0 j0 j0 (ldI ti62 j0 (idx_some q28).2.2 j0<|j4)),(fun _=>pa j0 j0 j0 j0 (ixI ti40 j0 ti62 j0 j0 j0 q28<|j4)),(fun _=>pa j0 j0 j0 j0 (mv j0<|j4)),(fun _=>pa j0 j0 j0 j0 (ld ti40 j0 j0<|j4)),(fun _=>pa j0 j0 j0 j0 (fa ti42 j0 j0 j0<|j4)),(fun _=>pa j0 j0 j0 j0 (ldI ti62 j0 (idx_some q27).2.2 j0<|j4)),(fun _=>pa j0 j0 j0 j0 (ixI ti40 j0 ti62 j0 j0 j0 q27<|j4)),(fun _=>pa j0 j0 j0 j0 (mv j0<|j4)),(fun _=>pa j0 j0 j0 j0 (ld ti40 j0 j0<|j4)),(fun _=>pa j0 j0 j0 j0 (fa ti42 j0 j0 j0<|j4)),j5⟩ (by kernel_rfl) j0 ⟨[.old 0,.old 1],cv j0 (.mpt j0)<|cv j0 (.mpt j0)<|ce j0 j0<|ce j0 j0<|cn,j0,⟨⟨_,j0,rsOne ⟨ci j0,ci j0,ci j0,ci j0,ci j0,ci j0,j5⟩⟩,⟨_,j0,rsOne ⟨ci j0,ci j0,ci j0,ci j0,ci j0,ci j0,j5⟩⟩,j5⟩,j0,j1⟩) ?_
     refine sw_cond j0 (fun hc30=>?_) (fun hc30=>?_)
     ·
      replace h:=bT hc30 h
      refine rg j0<|u<|asg j0<|r_nil ?_
      refine sw_ret ?_
      obtain rfl:=sm h
      exact ⟨_,j0,_,j0,[],ci j0,j0,j5,j0,j1⟩
     ·
      replace h:=bF hc30 h
      refine sw_skip ?_
      refine rl j0<|u<|mv j0<|u<|add ti3 j0 j0<|u<|asg j0<|r_nil ?_
      obtain rfl:=sm h
      exact ⟨_,j0,[.old 0,.old 1],cv j0 (.mpt j0)<|cv j0 (.mpt j0)<|ce j0 j0<|cn,j0,⟨⟨_,j0,rsOne ⟨ci j0,ci j0,ci j0,ci j0,ci j0,ci j0,j5⟩⟩,⟨_,j0,rsOne ⟨ci j0,ci j0,ci j0,ci j0,ci j0,ci j0,j5⟩⟩,j5⟩,j0,j1⟩
    ·
     replace h:=bF hc26 h
     refine sw_exit ?_
     obtain rfl:=sm h
     exact ⟨j0,_,j0,[],cn,j0,j5,j0,j1⟩
   ·
    rintro ⟨⟩ rfl
    replace h : ref3_EqClass_k4 = some r:=h
    unfold ref3_EqClass_k4 at h
    refine ow_intro ?_
    refine rg j0<|u<|asg j0<|r_nil ?_
    refine sw_ret ?_
    obtain rfl:=sm h
    exact ⟨_,j0,[],ci j0,j0,j5,j0,j1⟩
   ·
    rintro r' rfl env st hp
    obtain rfl:=sm h
    exact hp
  ·
   rintro r' rfl env st hp
   obtain rfl:=sm h
   exact hp
end
end Go.Proofs.YtooagifeniibcaaGreat
