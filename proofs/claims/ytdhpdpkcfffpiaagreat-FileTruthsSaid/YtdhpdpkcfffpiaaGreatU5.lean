/- FileTruths: for every input the law returns true, and each argument reads as it read before. No further condition. Part 5 of 7. -/
import Derived.Test.YtdhpdpkcfffpiaaGreatU4
namespace Go.Proofs.YtdhpdpkcfffpiaaGreat
noncomputable section
set_option linter.unusedSimpArgs false
set_option linter.unusedVariables false
set_option maxRecDepth 100000
set_option maxHeartbeats 4000000
def ref3_EqTexts_k2 : Option (Bool) :=
  some true
def ref3_EqTexts_l1 (v1 : List (List UInt8)) (v2 : List (List UInt8)) (v6 : Int) : Option (Sum (Int) (Sum (Unit) (Bool))) :=
  cond (decide (v6 < (List.length v1 : Int))) ((idx v1 v6).bind fun v7=>(idx v2 v6).bind fun v8=>cond (!(v7 == v8)) (some (.inr (.inr false))) (some (.inl (IntKind.i64.wrap (v6 + 1))))) (some (.inr (.inl ())))
def ref3_EqTexts (v1 : List (List UInt8)) (v2 : List (List UInt8)) : Option (Bool) :=
  cond (!((List.length v1 : Int) == (List.length v2 : Int))) (some false) ((loopP (fun z=>ref3_EqTexts_l1 v1 v2 z) 0).bind fun o=>leave o (fun b=>ref3_EqTexts_k2) some)
theorem ref3_EqTexts_ok (v1 : List (List UInt8)) (v2 : List (List UInt8)) {r : Bool} (h : ref3_EqTexts v1 v2 = some r) : PureC Tryz.prog 73 [.isl 1 (List.map rStr v1),.isl 1 (List.map rStr v2)] (bA r):=by
 refine pure_fn Tryz.func73 j0 (by kernel_rfl) j0 j0 ?_
 unfold ref3_EqTexts at h
 refine rg j0<|u<|asg j0<|r_nil ?_
 refine sw_seq ?_
 refine rg j0<|u<|mv j0<|u<|lnI ti24 j0 j0<|u<|mv j0<|u<|lnI ti24 j0 j0<|u<|neq ti3 j0 j0<|r_nil ?_
 refine sw_cond j0 (fun hc1=>?_) (fun hc1=>?_)
 ·
  replace h:=bT hc1 h
  refine rg j0<|u<|asg j0<|r_nil ?_
  refine sw_ret ?_
  obtain rfl:=sm h
  exact ⟨_,j0,[],ci j0,j0,j5,j0,j1⟩
 ·
  replace h:=bF hc1 h
  refine sw_skip ?_
  refine sw_seq ?_
  refine rg j0<|u<|asg j0<|r_nil ?_
  obtain ⟨o,ho,h⟩:=bs h
  refine sw_lpl (X:=Int) (B:=Unit) (R:=Bool) (fun z=>[(0,.isl 1 (List.map rStr v1)),(1,.isl 1 (List.map rStr v2)),(5,iA z)]) (fun z=>[]) (fun b=>[]) (fun b=>[]) (fun r env st=>PostF Tryz.prog Tryz.f73 0 (bA r) [] env st) ho ⟨[],ce j0 j0<|ce j0 j0<|ce j0 j0<|cn,j0,j5,j0,j1⟩ ?_ ?_ ?_
  ·
   rintro v6 r h
   replace h : ref3_EqTexts_l1 v1 v2 v6 = some r:=h
   unfold ref3_EqTexts_l1 at h
   refine sw_seq ?_
   refine rg j0<|u<|mv j0<|u<|mv j0<|u<|lnI ti24 j0 j0<|u<|lss ti3 j0 j0<|r_nil ?_
   refine sw_cond j0 (fun hc6=>?_) (fun hc6=>?_)
   ·
    replace h:=bT hc6 h
    refine sw_skip ?_
    refine sw_seq ?_
    refine sw_block ?_
    obtain ⟨v7,q7,h⟩:=bs h
    obtain ⟨v8,q8,h⟩:=bs h
    refine rd [(0,.isl 1 (List.map rStr v1)),(1,.isl 1 (List.map rStr v2)),(5,iA v6),(25,bA (!(v7 == v8)))] [] [] [8,7,6,5,4,3,2,1,0] [(25,bA (!(v7 == v8))),(24,sA v8),(23,.ipt 1 (List.map rStr v2) (Int.toNat v6) 0),(22,iA v6),(21,.isl 1 (List.map rStr v2)),(20,sA v7),(19,.ipt 1 (List.map rStr v1) (Int.toNat v6) 0),(18,iA v6),(17,.isl 1 (List.map rStr v1))] 0 (by kernel_rfl) (by kernel_rfl) j0 (by kernel_rfl) (dt0 ⟨(fun _=>pa j0 j0 j0 j0 (sne ti9 j0 j0<|j4)),(fun _=>pa j0 j0 j0 j0 (ldI ti9 j0 (idx_some q8).2.2 j0<|j4)),(fun _=>pa j0 j0 j0 j0 (ixI ti24 j0 ti9 j0 j0 j0 q8<|j4)),(fun _=>pa j0 j0 j0 j0 (mv j0<|j4)),(fun _=>pa j0 j0 j0 j0 (mv j0<|j4)),(fun _=>pa j0 j0 j0 j0 (ldI ti9 j0 (idx_some q7).2.2 j0<|j4)),(fun _=>pa j0 j0 j0 j0 (ixI ti24 j0 ti9 j0 j0 j0 q7<|j4)),(fun _=>pa j0 j0 j0 j0 (mv j0<|j4)),(fun _=>pa j0 j0 j0 j0 (mv j0<|j4)),j5⟩ (by kernel_rfl) j0 ⟨[],ce j0 j0<|ce j0 j0<|ce j0 j0<|ce j0 j0<|cn,j0,j5,j0,j1⟩) ?_
    refine sw_cond j0 (fun hc9=>?_) (fun hc9=>?_)
    ·
     replace h:=bT hc9 h
     refine rg j0<|u<|asg j0<|r_nil ?_
     refine sw_ret ?_
     obtain rfl:=sm h
     exact ⟨_,j0,_,j0,[],ci j0,j0,j5,j0,j1⟩
    ·
     replace h:=bF hc9 h
     refine sw_skip ?_
     refine rl j0<|u<|mv j0<|u<|add ti3 j0 j0<|u<|asg j0<|r_nil ?_
     obtain rfl:=sm h
     exact ⟨_,j0,[],ce j0 j0<|ce j0 j0<|ce j0 j0<|cn,j0,j5,j0,j1⟩
   ·
    replace h:=bF hc6 h
    refine sw_exit ?_
    obtain rfl:=sm h
    exact ⟨j0,_,j0,[],cn,j0,j5,j0,j1⟩
  ·
   rintro ⟨⟩ rfl
   replace h : ref3_EqTexts_k2 = some r:=h
   unfold ref3_EqTexts_k2 at h
   refine ow_intro ?_
   refine rg j0<|u<|asg j0<|r_nil ?_
   refine sw_ret ?_
   obtain rfl:=sm h
   exact ⟨_,j0,[],ci j0,j0,j5,j0,j1⟩
  ·
   rintro r' rfl env st hp
   obtain rfl:=sm h
   exact hp
def ref3_eqMethod_k6 : Option (Bool) :=
  some true
def ref3_eqMethod_l5 (v1 : ApiMethod) (v2 : ApiMethod) (v28 : Int) : Option (Sum (Int) (Sum (Unit) (Bool))) :=
  cond (decide (v28 < (List.length v1.Traps : Int))) ((idx v1.Traps v28).bind fun v29=>(idx v2.Traps v28).bind fun v30=>cond ((((!(v29.From == v30.From)) || (!(v29.To == v30.To))) || (!(v29.At == v30.At))) || (!(v29.C == v30.C))) (some (.inr (.inr false))) (some (.inl (IntKind.i64.wrap (v28 + 1))))) (some (.inr (.inl ())))
def ref3_eqMethod_k4 (v1 : ApiMethod) (v2 : ApiMethod) : Option (Bool) :=
  (loopP (fun z=>ref3_eqMethod_l5 v1 v2 z) 0).bind fun o=>leave o (fun b=>ref3_eqMethod_k6) some
def ref3_eqMethod_l3 (v1 : ApiMethod) (v2 : ApiMethod) (v18 : Int) : Option (Sum (Int) (Sum (Unit) (Bool))) :=
  cond (decide (v18 < (List.length v1.Maps : Int))) ((idx v1.Maps v18).bind fun v19=>(idx v2.Maps v18).bind fun v20=>(cond (!(v19.At == v20.At)) (some true) ((ref3_EqTexts v19.Locals v20.Locals).bind fun v21=>some (!v21))).bind fun v22=>(cond v22 (some true) ((ref3_EqTexts v19.Stack v20.Stack).bind fun v23=>some (!v23))).bind fun v24=>cond v24 (some (.inr (.inr false))) (some (.inl (IntKind.i64.wrap (v18 + 1))))) (some (.inr (.inl ())))
def ref3_eqMethod_k2 (v1 : ApiMethod) (v2 : ApiMethod) : Option (Bool) :=
  (loopP (fun z=>ref3_eqMethod_l3 v1 v2 z) 0).bind fun o=>leave o (fun b=>ref3_eqMethod_k4 v1 v2) some
def ref3_eqMethod_l1 (v1 : ApiMethod) (v2 : ApiMethod) (v8 : Int) : Option (Sum (Int) (Sum (Unit) (Bool))) :=
  cond (decide (v8 < (List.length v1.Code : Int))) ((idx v1.Code v8).bind fun v9=>(idx v2.Code v8).bind fun v10=>cond (!(ref3_EqIns v9 v10)) (some (.inr (.inr false))) (some (.inl (IntKind.i64.wrap (v8 + 1))))) (some (.inr (.inl ())))
def ref3_eqMethod (v1 : ApiMethod) (v2 : ApiMethod) : Option (Bool) :=
  (cond (!(v1.Name == v2.Name)) (some true) ((ref3_EqTexts v1.Params v2.Params).bind fun v3=>some (!v3))).bind fun v4=>cond ((((((((v4 || (!(v1.Ret == v2.Ret))) || (!(v1.Static == v2.Static))) || (!(v1.Abstract == v2.Abstract))) || (!(v1.Locals == v2.Locals))) || (!(v1.Stack == v2.Stack))) || (!((List.length v1.Code : Int) == (List.length v2.Code : Int)))) || (!((List.length v1.Maps : Int) == (List.length v2.Maps : Int)))) || (!((List.length v1.Traps : Int) == (List.length v2.Traps : Int)))) (some false) ((loopP (fun z=>ref3_eqMethod_l1 v1 v2 z) 0).bind fun o=>leave o (fun b=>ref3_eqMethod_k2 v1 v2) some)
theorem ref3_eqMethod_ok (v1 : ApiMethod) (v2 : ApiMethod) {r : Bool} (h : ref3_eqMethod v1 v2 = some r) : PureC Tryz.prog 74 [.agg [sA v1.Name,.isl 1 (List.map rStr v1.Params),sA v1.Ret,bA v1.Static,bA v1.Abstract,iA v1.Locals,iA v1.Stack,.isl 4 (List.map rApiIns v1.Code),.isl 3 (List.map rApiMap v1.Maps),.isl 4 (List.map rApiTrap v1.Traps)],.agg [sA v2.Name,.isl 1 (List.map rStr v2.Params),sA v2.Ret,bA v2.Static,bA v2.Abstract,iA v2.Locals,iA v2.Stack,.isl 4 (List.map rApiIns v2.Code),.isl 3 (List.map rApiMap v2.Maps),.isl 4 (List.map rApiTrap v2.Traps)]] (bA r):=by
 refine pure_fn Tryz.func74 j0 (by kernel_rfl) j0 j0 ?_
 unfold ref3_eqMethod at h
 refine rg j0<|u<|bx 0 10 j0 j0 j0 j0<|u<|bx 1 10 j0 j0 j0 j0<|u<|asg j0<|r_nil ?_
 refine sw_seq ?_
 obtain ⟨v4,q3,h⟩:=bs h
 refine rg j0<|u<|fa ti35 j0 j0 j0<|u<|ld ti9 j0 j0<|u<|fa ti35 j0 j0 j0<|u<|ld ti9 j0 j0<|u<|sne ti9 j0 j0<|u<|mv j0<|r_or (x:=v4) (j:=5) 6 j0 j0 j0 j0 j0 gpn (fun hb1=>by replace q3:=bF hb1 q3; obtain ⟨v3,q2,q3⟩:=bs q3; obtain rfl:=sm q3; exact g j0 hb1<|fa ti35 j0 j0 j0<|g j0 hb1<|ld ti24 j0 j0<|g j0 hb1<|fa ti35 j0 j0 j0<|g j0 hb1<|ld ti24 j0 j0<|g j0 hb1<|pc (ref3_EqTexts_ok v1.Params v2.Params q2) j0 j0 j0<|g j0 hb1<|nt j0<|r_nil (eg [18,19,20,21,22,23] 6 j0 j0 j0 j0)) (fun hb=>(sm (bT hb q3)).symm)<|u<|mv j0<|r_or (j:=13) 5 j0 j0 j0 j0 j0 gpn (fun hb4=>g j0 hb4<|fa ti35 j0 j0 j0<|g j0 hb4<|ld ti9 j0 j0<|g j0 hb4<|fa ti35 j0 j0 j0<|g j0 hb4<|ld ti9 j0 j0<|g j0 hb4<|sne ti9 j0 j0<|r_nil (egO [26,27,28,29,30] 5 hb4 j0 j0 j0 j0)) orT<|u<|mv j0<|r_or (j:=20) 5 j0 j0 j0 j0 j0 gpn (fun hb5=>g j0 hb5<|fa ti35 j0 j0 j0<|g j0 hb5<|ld ti4 j0 j0<|g j0 hb5<|fa ti35 j0 j0 j0<|g j0 hb5<|ld ti4 j0 j0<|g j0 hb5<|bne ti4 j0 j0 j0<|r_nil (egO [33,34,35,36,37] 5 hb5 j0 j0 j0 j0)) orT<|u<|mv j0<|r_or (j:=27) 5 j0 j0 j0 j0 j0 gpn (fun hb6=>g j0 hb6<|fa ti35 j0 j0 j0<|g j0 hb6<|ld ti4 j0 j0<|g j0 hb6<|fa ti35 j0 j0 j0<|g j0 hb6<|ld ti4 j0 j0<|g j0 hb6<|bne ti4 j0 j0 j0<|r_nil (egO [40,41,42,43,44] 5 hb6 j0 j0 j0 j0)) orT<|u<|mv j0<|r_or (j:=34) 5 j0 j0 j0 j0 j0 gpn (fun hb7=>g j0 hb7<|fa ti35 j0 j0 j0<|g j0 hb7<|ld ti3 j0 j0<|g j0 hb7<|fa ti35 j0 j0 j0<|g j0 hb7<|ld ti3 j0 j0<|g j0 hb7<|neq ti3 j0 j0<|r_nil (egO [47,48,49,50,51] 5 hb7 j0 j0 j0 j0)) orT<|u<|mv j0<|r_or (j:=41) 5 j0 j0 j0 j0 j0 gpn (fun hb8=>g j0 hb8<|fa ti35 j0 j0 j0<|g j0 hb8<|ld ti3 j0 j0<|g j0 hb8<|fa ti35 j0 j0 j0<|g j0 hb8<|ld ti3 j0 j0<|g j0 hb8<|neq ti3 j0 j0<|r_nil (egO [54,55,56,57,58] 5 hb8 j0 j0 j0 j0)) orT<|u<|mv j0<|r_or (j:=48) 7 j0 j0 j0 j0 j0 gpn (fun hb9=>g j0 hb9<|fa ti35 j0 j0 j0<|g j0 hb9<|ld ti31 j0 j0<|g j0 hb9<|lnI ti31 j0 j0<|g j0 hb9<|fa ti35 j0 j0 j0<|g j0 hb9<|ld ti31 j0 j0<|g j0 hb9<|lnI ti31 j0 j0<|g j0 hb9<|neq ti3 j0 j0<|r_nil (egO [61,62,63,64,65,66,67] 7 hb9 j0 j0 j0 j0)) orT<|u<|mv j0<|r_or (j:=57) 7 j0 j0 j0 j0 j0 gpn (fun hb10=>g j0 hb10<|fa ti35 j0 j0 j0<|g j0 hb10<|ld ti32 j0 j0<|g j0 hb10<|lnI ti32 j0 j0<|g j0 hb10<|fa ti35 j0 j0 j0<|g j0 hb10<|ld ti32 j0 j0<|g j0 hb10<|lnI ti32 j0 j0<|g j0 hb10<|neq ti3 j0 j0<|r_nil (egO [70,71,72,73,74,75,76] 7 hb10 j0 j0 j0 j0)) orT<|u<|mv j0<|r_or (j:=66) 7 j0 j0 j0 j0 j0 gpn (fun hb11=>g j0 hb11<|fa ti35 j0 j0 j0<|g j0 hb11<|ld ti33 j0 j0<|g j0 hb11<|lnI ti33 j0 j0<|g j0 hb11<|fa ti35 j0 j0 j0<|g j0 hb11<|ld ti33 j0 j0<|g j0 hb11<|lnI ti33 j0 j0<|g j0 hb11<|neq ti3 j0 j0<|r_nil (egO [79,80,81,82,83,84,85] 7 hb11 j0 j0 j0 j0)) orT<|r_nil ?_
 refine sw_cond j0 (fun hc12=>?_) (fun hc12=>?_)
 ·
  replace h:=bT hc12 h
  refine rg j0<|u<|asg j0<|r_nil ?_
  refine sw_ret ?_
  obtain rfl:=sm h
  exact ⟨_,j0,[],ci j0,j0,j5,j0,j1⟩
 ·
  replace h:=bF hc12 h
  refine sw_skip ?_
  refine sw_seq ?_
  refine rg j0<|u<|asg j0<|r_nil ?_
  obtain ⟨o,ho,h⟩:=bs h
  refine sw_lpl (X:=Int) (B:=Unit) (R:=Bool) (fun z=>[(2,.mpt 0 0 0),(3,.mpt 1 0 0),(5,iA z)]) (fun z=>[some (10,[[sA v1.Name,.isl 1 (List.map rStr v1.Params),sA v1.Ret,bA v1.Static,bA v1.Abstract,iA v1.Locals,iA v1.Stack,.isl 4 (List.map rApiIns v1.Code),.isl 3 (List.map rApiMap v1.Maps),.isl 4 (List.map rApiTrap v1.Traps)]]),some (10,[[sA v2.Name,.isl 1 (List.map rStr v2.Params),sA v2.Ret,bA v2.Static,bA v2.Abstract,iA v2.Locals,iA v2.Stack,.isl 4 (List.map rApiIns v2.Code),.isl 3 (List.map rApiMap v2.Maps),.isl 4 (List.map rApiTrap v2.Traps)]])]) (fun b=>[(2,.mpt 0 0 0),(3,.mpt 1 0 0)]) (fun b=>[some (10,[[sA v1.Name,.isl 1 (List.map rStr v1.Params),sA v1.Ret,bA v1.Static,bA v1.Abstract,iA v1.Locals,iA v1.Stack,.isl 4 (List.map rApiIns v1.Code),.isl 3 (List.map rApiMap v1.Maps),.isl 4 (List.map rApiTrap v1.Traps)]]),some (10,[[sA v2.Name,.isl 1 (List.map rStr v2.Params),sA v2.Ret,bA v2.Static,bA v2.Abstract,iA v2.Locals,iA v2.Stack,.isl 4 (List.map rApiIns v2.Code),.isl 3 (List.map rApiMap v2.Maps),.isl 4 (List.map rApiTrap v2.Traps)]])]) (fun r env st=>PostF Tryz.prog Tryz.f74 0 (bA r) [] env st) ho ⟨[.old 0,.old 1],cv j0 (.mpt j0)<|cv j0 (.mpt j0)<|ce j0 j0<|cn,j0,⟨⟨_,j0,rsOne ⟨ci j0,ci j0,ci j0,ci j0,ci j0,ci j0,ci j0,ci j0,ci j0,ci j0,j5⟩⟩,⟨_,j0,rsOne ⟨ci j0,ci j0,ci j0,ci j0,ci j0,ci j0,ci j0,ci j0,ci j0,ci j0,j5⟩⟩,j5⟩,j0,j1⟩ ?_ ?_ ?_
  ·
   rintro v8 r h
   replace h : ref3_eqMethod_l1 v1 v2 v8 = some r:=h
   unfold ref3_eqMethod_l1 at h
   refine sw_seq ?_
   refine rg j0<|u<|mv j0<|u<|fa ti35 j0 j0 j0<|u<|ld ti31 j0 j0<|u<|lnI ti31 j0 j0<|u<|lss ti3 j0 j0<|r_nil ?_
   refine sw_cond j0 (fun hc17=>?_) (fun hc17=>?_)
   ·
    replace h:=bT hc17 h
    refine sw_skip ?_
    refine sw_seq ?_
    refine sw_block ?_
    obtain ⟨v9,q18,h⟩:=bs h
    obtain ⟨v10,q19,h⟩:=bs h
    refine rd [(2,.mpt 0 0 0),(3,.mpt 1 0 0),(5,iA v8),(105,bA (!(ref3_EqIns v9 v10)))] [some (10,[[sA v1.Name,.isl 1 (List.map rStr v1.Params),sA v1.Ret,bA v1.Static,bA v1.Abstract,iA v1.Locals,iA v1.Stack,.isl 4 (List.map rApiIns v1.Code),.isl 3 (List.map rApiMap v1.Maps),.isl 4 (List.map rApiTrap v1.Traps)]]),some (10,[[sA v2.Name,.isl 1 (List.map rStr v2.Params),sA v2.Ret,bA v2.Static,bA v2.Abstract,iA v2.Locals,iA v2.Stack,.isl 4 (List.map rApiIns v2.Code),.isl 3 (List.map rApiMap v2.Maps),.isl 4 (List.map rApiTrap v2.Traps)]])] [] [11,10,9,8,7,6,5,4,3,2,1,0] [(105,bA (!(ref3_EqIns v9 v10))),(104,bA (ref3_EqIns v9 v10)),(103,.agg [iA v10.Op,iA v10.A,sA v10.C,sA v10.M]),(102,.ipt 4 (List.map rApiIns v2.Code) (Int.toNat v8) 0),(101,iA v8),(100,.isl 4 (List.map rApiIns v2.Code)),(99,.mpt 1 0 7),(98,.agg [iA v9.Op,iA v9.A,sA v9.C,sA v9.M]),(97,.ipt 4 (List.map rApiIns v1.Code) (Int.toNat v8) 0),(96,iA v8),(95,.isl 4 (List.map rApiIns v1.Code)),(94,.mpt 0 0 7)] 0 (by kernel_rfl) (by kernel_rfl) j0 (by kernel_rfl) (dt0 ⟨(fun _=>pa j0 j0 j0 j0 (nt j0<|j4)),(fun _=>pa j0 j0 j0 j0 (pc (ref3_EqIns_ok v9 v10 j0) j0 j0 j0<|j4)),(fun _=>pa j0 j0 j0 j0 (ldI ti37 j0 (idx_some q19).2.2 j0<|j4)),(fun _=>pa j0 j0 j0 j0 (ixI ti31 j0 ti37 j0 j0 j0 q19<|j4)),(fun _=>pa j0 j0 j0 j0 (mv j0<|j4)),(fun _=>pa j0 j0 j0 j0 (ld ti31 j0 j0<|j4)),(fun _=>pa j0 j0 j0 j0 (fa ti35 j0 j0 j0<|j4)),(fun _=>pa j0 j0 j0 j0 (ldI ti37 j0 (idx_some q18).2.2 j0<|j4)),(fun _=>pa j0 j0 j0 j0 (ixI ti31 j0 ti37 j0 j0 j0 q18<|j4)),(fun _=>pa j0 j0 j0 j0 (mv j0<|j4)),(fun _=>pa j0 j0 j0 j0 (ld ti31 j0 j0<|j4)),(fun _=>pa j0 j0 j0 j0 (fa ti35 j0 j0 j0<|j4)),j5⟩ (by kernel_rfl) j0 ⟨[.old 0,.old 1],cv j0 (.mpt j0)<|cv j0 (.mpt j0)<|ce j0 j0<|ce j0 j0<|cn,j0,⟨⟨_,j0,rsOne ⟨ci j0,ci j0,ci j0,ci j0,ci j0,ci j0,ci j0,ci j0,ci j0,ci j0,j5⟩⟩,⟨_,j0,rsOne ⟨ci j0,ci j0,ci j0,ci j0,ci j0,ci j0,ci j0,ci j0,ci j0,ci j0,j5⟩⟩,j5⟩,j0,j1⟩) ?_
    refine sw_cond j0 (fun hc20=>?_) (fun hc20=>?_)
    ·
     replace h:=bT hc20 h
     refine rg j0<|u<|asg j0<|r_nil ?_
     refine sw_ret ?_
     obtain rfl:=sm h
     exact ⟨_,j0,_,j0,[],ci j0,j0,j5,j0,j1⟩
    ·
     replace h:=bF hc20 h
     refine sw_skip ?_
     refine rl j0<|u<|mv j0<|u<|add ti3 j0 j0<|u<|asg j0<|r_nil ?_
     obtain rfl:=sm h
     exact ⟨_,j0,[.old 0,.old 1],cv j0 (.mpt j0)<|cv j0 (.mpt j0)<|ce j0 j0<|cn,j0,⟨⟨_,j0,rsOne ⟨ci j0,ci j0,ci j0,ci j0,ci j0,ci j0,ci j0,ci j0,ci j0,ci j0,j5⟩⟩,⟨_,j0,rsOne ⟨ci j0,ci j0,ci j0,ci j0,ci j0,ci j0,ci j0,ci j0,ci j0,ci j0,j5⟩⟩,j5⟩,j0,j1⟩
   ·
    replace h:=bF hc17 h
    refine sw_exit ?_
    obtain rfl:=sm h
    exact ⟨j0,_,j0,[.old 0,.old 1],cv j0 (.mpt j0)<|cv j0 (.mpt j0)<|cn,j0,⟨⟨_,j0,rsOne ⟨ci j0,ci j0,ci j0,ci j0,ci j0,ci j0,ci j0,ci j0,ci j0,ci j0,j5⟩⟩,⟨_,j0,rsOne ⟨ci j0,ci j0,ci j0,ci j0,ci j0,ci j0,ci j0,ci j0,ci j0,ci j0,j5⟩⟩,j5⟩,j0,j1⟩
  ·
   rintro ⟨⟩ rfl
   replace h : ref3_eqMethod_k2 v1 v2 = some r:=h
   unfold ref3_eqMethod_k2 at h
   refine ow_intro ?_
   refine sw_seq ?_
   refine rg j0<|u<|asg j0<|r_nil ?_
   obtain ⟨o,ho,h⟩:=bs h
   refine sw_lpl (X:=Int) (B:=Unit) (R:=Bool) (fun z=>[(2,.mpt 0 0 0),(3,.mpt 1 0 0),(6,iA z)]) (fun z=>[some (10,[[sA v1.Name,.isl 1 (List.map rStr v1.Params),sA v1.Ret,bA v1.Static,bA v1.Abstract,iA v1.Locals,iA v1.Stack,.isl 4 (List.map rApiIns v1.Code),.isl 3 (List.map rApiMap v1.Maps),.isl 4 (List.map rApiTrap v1.Traps)]]),some (10,[[sA v2.Name,.isl 1 (List.map rStr v2.Params),sA v2.Ret,bA v2.Static,bA v2.Abstract,iA v2.Locals,iA v2.Stack,.isl 4 (List.map rApiIns v2.Code),.isl 3 (List.map rApiMap v2.Maps),.isl 4 (List.map rApiTrap v2.Traps)]])]) (fun b=>[(2,.mpt 0 0 0),(3,.mpt 1 0 0)]) (fun b=>[some (10,[[sA v1.Name,.isl 1 (List.map rStr v1.Params),sA v1.Ret,bA v1.Static,bA v1.Abstract,iA v1.Locals,iA v1.Stack,.isl 4 (List.map rApiIns v1.Code),.isl 3 (List.map rApiMap v1.Maps),.isl 4 (List.map rApiTrap v1.Traps)]]),some (10,[[sA v2.Name,.isl 1 (List.map rStr v2.Params),sA v2.Ret,bA v2.Static,bA v2.Abstract,iA v2.Locals,iA v2.Stack,.isl 4 (List.map rApiIns v2.Code),.isl 3 (List.map rApiMap v2.Maps),.isl 4 (List.map rApiTrap v2.Traps)]])]) (fun r env st=>PostF Tryz.prog Tryz.f74 0 (bA r) [] env st) ho ⟨[.old 0,.old 1],cv j0 (.mpt j0)<|cv j0 (.mpt j0)<|ce j0 j0<|cn,j0,⟨⟨_,j0,rsOne ⟨ci j0,ci j0,ci j0,ci j0,ci j0,ci j0,ci j0,ci j0,ci j0,ci j0,j5⟩⟩,⟨_,j0,rsOne ⟨ci j0,ci j0,ci j0,ci j0,ci j0,ci j0,ci j0,ci j0,ci j0,ci j0,j5⟩⟩,j5⟩,j0,j1⟩ ?_ ?_ ?_
   ·
    rintro v18 r h
    replace h : ref3_eqMethod_l3 v1 v2 v18 = some r:=h
    unfold ref3_eqMethod_l3 at h
    refine sw_seq ?_
    refine rg j0<|u<|mv j0<|u<|fa ti35 j0 j0 j0<|u<|ld ti32 j0 j0<|u<|lnI ti32 j0 j0<|u<|lss ti3 j0 j0<|r_nil ?_
    refine sw_cond j0 (fun hc31=>?_) (fun hc31=>?_)
    ·
     replace h:=bT hc31 h
     refine sw_skip ?_
     refine sw_seq ?_
     refine sw_block ?_
     obtain ⟨v19,q32,h⟩:=bs h
     obtain ⟨v20,q33,h⟩:=bs h
     refine rd [(2,.mpt 0 0 0),(3,.mpt 1 0 0),(6,iA v18),(7,.mpt 2 0 0),(8,.mpt 3 0 0)] [some (10,[[sA v1.Name,.isl 1 (List.map rStr v1.Params),sA v1.Ret,bA v1.Static,bA v1.Abstract,iA v1.Locals,iA v1.Stack,.isl 4 (List.map rApiIns v1.Code),.isl 3 (List.map rApiMap v1.Maps),.isl 4 (List.map rApiTrap v1.Traps)]]),some (10,[[sA v2.Name,.isl 1 (List.map rStr v2.Params),sA v2.Ret,bA v2.Static,bA v2.Abstract,iA v2.Locals,iA v2.Stack,.isl 4 (List.map rApiIns v2.Code),.isl 3 (List.map rApiMap v2.Maps),.isl 4 (List.map rApiTrap v2.Traps)]]),some (3,[[iA v19.At,.isl 1 (List.map rStr v19.Locals),.isl 1 (List.map rStr v19.Stack)]]),some (3,[[iA v20.At,.isl 1 (List.map rStr v20.Locals),.isl 1 (List.map rStr v20.Stack)]])] [10,11,12,13] [9,8,7,6,5,4,3,2,1,0] [(122,.agg [iA v20.At,.isl 1 (List.map rStr v20.Locals),.isl 1 (List.map rStr v20.Stack)]),(121,.ipt 3 (List.map rApiMap v2.Maps) (Int.toNat v18) 0),(120,iA v18),(119,.isl 3 (List.map rApiMap v2.Maps)),(118,.mpt 1 0 8),(117,.agg [iA v19.At,.isl 1 (List.map rStr v19.Locals),.isl 1 (List.map rStr v19.Stack)]),(116,.ipt 3 (List.map rApiMap v1.Maps) (Int.toNat v18) 0),(115,iA v18),(114,.isl 3 (List.map rApiMap v1.Maps)),(113,.mpt 0 0 8)] 4 (by kernel_rfl) (by kernel_rfl) j0 (by kernel_rfl) (dtS ⟨(fun _=>pa j0 j0 j0 j0 (ldI ti39 j0 (idx_some q33).2.2 j0<|j4)),(fun _=>pa j0 j0 j0 j0 (ixI ti32 j0 ti39 j0 j0 j0 q33<|j4)),(fun _=>pa j0 j0 j0 j0 (mv j0<|j4)),(fun _=>pa j0 j0 j0 j0 (ld ti32 j0 j0<|j4)),(fun _=>pa j0 j0 j0 j0 (fa ti35 j0 j0 j0<|j4)),(fun _=>pa j0 j0 j0 j0 (ldI ti39 j0 (idx_some q32).2.2 j0<|j4)),(fun _=>pa j0 j0 j0 j0 (ixI ti32 j0 ti39 j0 j0 j0 q32<|j4)),(fun _=>pa j0 j0 j0 j0 (mv j0<|j4)),(fun _=>pa j0 j0 j0 j0 (ld ti32 j0 j0<|j4)),(fun _=>pa j0 j0 j0 j0 (fa ti35 j0 j0 j0<|j4)),j5⟩ (by kernel_rfl) j0 ⟨(fun _ _=>⟨_,j0,j0,al 2 ti39 j0<|⟨(.mpt 2 0 0),[],[(7,.mpt 2 0 0)],j0,j0,by kernel_rfl,j0,dtS ⟨(fun _=>pa j0 j0 j0 j0 (ldI ti39 j0 (idx_some q33).2.2 j0<|j4)),(fun _=>pa j0 j0 j0 j0 (ixI ti32 j0 ti39 j0 j0 j0 q33<|j4)),(fun _=>pa j0 j0 j0 j0 (mv j0<|j4)),(fun _=>pa j0 j0 j0 j0 (ld ti32 j0 j0<|j4)),(fun _=>pa j0 j0 j0 j0 (fa ti35 j0 j0 j0<|j4)),(fun _=>pa j0 j0 j0 j0 (ldI ti39 j0 (idx_some q32).2.2 j0<|j4)),(fun _=>pa j0 j0 j0 j0 (ixI ti32 j0 ti39 j0 j0 j0 q32<|j4)),(fun _=>pa j0 j0 j0 j0 (mv j0<|j4)),(fun _=>pa j0 j0 j0 j0 (ld ti32 j0 j0<|j4)),(fun _=>pa j0 j0 j0 j0 (fa ti35 j0 j0 j0<|j4)),j5⟩ (by kernel_rfl) j0 ⟨(fun h=>by cases h),(fun _ _=>⟨_,j0,j0,al 3 ti39 j0<|⟨(.mpt 3 0 0),[],[(8,.mpt 3 0 0)],j0,j0,by kernel_rfl,j0,dtS ⟨(fun _=>pa j0 j0 j0 j0 (ldI ti39 j0 (idx_some q33).2.2 j0<|j4)),(fun _=>pa j0 j0 j0 j0 (ixI ti32 j0 ti39 j0 j0 j0 q33<|j4)),(fun _=>pa j0 j0 j0 j0 (mv j0<|j4)),(fun _=>pa j0 j0 j0 j0 (ld ti32 j0 j0<|j4)),(fun _=>pa j0 j0 j0 j0 (fa ti35 j0 j0 j0<|j4)),(fun _=>pa j0 j0 j0 j0 (ldI ti39 j0 (idx_some q32).2.2 j0<|j4)),(fun _=>pa j0 j0 j0 j0 (ixI ti32 j0 ti39 j0 j0 j0 q32<|j4)),(fun _=>pa j0 j0 j0 j0 (mv j0<|j4)),(fun _=>pa j0 j0 j0 j0 (ld ti32 j0 j0<|j4)),(fun _=>pa j0 j0 j0 j0 (fa ti35 j0 j0 j0<|j4)),j5⟩ (by kernel_rfl) j0 ⟨(fun h=>by cases h),(fun h=>by cases h),(fun _ _=>⟨_,j0,j0,sto ti39 j0 j0 j0<|⟨.any,[],[],j0,j0,by kernel_rfl,j5,dtS ⟨(fun _=>pa j0 j0 j0 j0 (ldI ti39 j0 (idx_some q33).2.2 j0<|j4)),(fun _=>pa j0 j0 j0 j0 (ixI ti32 j0 ti39 j0 j0 j0 q33<|j4)),(fun _=>pa j0 j0 j0 j0 (mv j0<|j4)),(fun _=>pa j0 j0 j0 j0 (ld ti32 j0 j0<|j4)),(fun _=>pa j0 j0 j0 j0 (fa ti35 j0 j0 j0<|j4)),(fun h=>by cases h),(fun h=>by cases h),(fun h=>by cases h),(fun h=>by cases h),(fun h=>by cases h),j5⟩ (by kernel_rfl) j0 ⟨(fun h=>by cases h),(fun h=>by cases h),(fun h=>by cases h),(fun _ _=>⟨_,j0,j0,sto ti39 j0 j0 j0<|⟨.any,[],[],j0,j0,by kernel_rfl,j5,dt0 ⟨(fun h=>by cases h),(fun h=>by cases h),(fun h=>by cases h),(fun h=>by cases h),(fun h=>by cases h),(fun h=>by cases h),(fun h=>by cases h),(fun h=>by cases h),(fun h=>by cases h),(fun h=>by cases h),j5⟩ (by kernel_rfl) j0 ⟨[.old 0,.old 1,.old 2,.old 3],cv j0 (.mpt j0)<|cv j0 (.mpt j0)<|ce j0 j0<|cv j0 (.mpt j0)<|cv j0 (.mpt j0)<|cn,j0,⟨⟨_,j0,rsOne ⟨ci j0,ci j0,ci j0,ci j0,ci j0,ci j0,ci j0,ci j0,ci j0,ci j0,j5⟩⟩,⟨_,j0,rsOne ⟨ci j0,ci j0,ci j0,ci j0,ci j0,ci j0,ci j0,ci j0,ci j0,ci j0,j5⟩⟩,⟨_,j0,rsOne ⟨ci j0,ci j0,ci j0,j5⟩⟩,⟨_,j0,rsOne ⟨ci j0,ci j0,ci j0,j5⟩⟩,j5⟩,j0,j1⟩⟩⟩),j5⟩⟩⟩),(fun _ h=>by cases h),j5⟩⟩⟩),(fun _ h=>by cases h),(fun _ h=>by cases h),j5⟩⟩⟩),(fun _ _=>⟨_,j0,j0,al 2 ti39 j0<|⟨(.mpt 2 0 0),[],[(8,.mpt 2 0 0)],j0,j0,by kernel_rfl,j0,dtS ⟨(fun _=>pa j0 j0 j0 j0 (ldI ti39 j0 (idx_some q33).2.2 j0<|j4)),(fun _=>pa j0 j0 j0 j0 (ixI ti32 j0 ti39 j0 j0 j0 q33<|j4)),(fun _=>pa j0 j0 j0 j0 (mv j0<|j4)),(fun _=>pa j0 j0 j0 j0 (ld ti32 j0 j0<|j4)),(fun _=>pa j0 j0 j0 j0 (fa ti35 j0 j0 j0<|j4)),(fun _=>pa j0 j0 j0 j0 (ldI ti39 j0 (idx_some q32).2.2 j0<|j4)),(fun _=>pa j0 j0 j0 j0 (ixI ti32 j0 ti39 j0 j0 j0 q32<|j4)),(fun _=>pa j0 j0 j0 j0 (mv j0<|j4)),(fun _=>pa j0 j0 j0 j0 (ld ti32 j0 j0<|j4)),(fun _=>pa j0 j0 j0 j0 (fa ti35 j0 j0 j0<|j4)),j5⟩ (by kernel_rfl) j0 ⟨(fun _ _=>⟨_,j0,j0,al 3 ti39 j0<|⟨(.mpt 3 0 0),[],[(7,.mpt 3 0 0)],j0,j0,by kernel_rfl,j0,dtS ⟨(fun _=>pa j0 j0 j0 j0 (ldI ti39 j0 (idx_some q33).2.2 j0<|j4)),(fun _=>pa j0 j0 j0 j0 (ixI ti32 j0 ti39 j0 j0 j0 q33<|j4)),(fun _=>pa j0 j0 j0 j0 (mv j0<|j4)),(fun _=>pa j0 j0 j0 j0 (ld ti32 j0 j0<|j4)),(fun _=>pa j0 j0 j0 j0 (fa ti35 j0 j0 j0<|j4)),(fun _=>pa j0 j0 j0 j0 (ldI ti39 j0 (idx_some q32).2.2 j0<|j4)),(fun _=>pa j0 j0 j0 j0 (ixI ti32 j0 ti39 j0 j0 j0 q32<|j4)),(fun _=>pa j0 j0 j0 j0 (mv j0<|j4)),(fun _=>pa j0 j0 j0 j0 (ld ti32 j0 j0<|j4)),(fun _=>pa j0 j0 j0 j0 (fa ti35 j0 j0 j0<|j4)),j5⟩ (by kernel_rfl) j0 ⟨(fun h=>by cases h),(fun h=>by cases h),(fun _ _=>⟨_,j0,j0,sto ti39 j0 j0 j0<|⟨.any,[],[],j0,j0,by kernel_rfl,j5,dtS ⟨(fun _=>pa j0 j0 j0 j0 (ldI ti39 j0 (idx_some q33).2.2 j0<|j4)),(fun _=>pa j0 j0 j0 j0 (ixI ti32 j0 ti39 j0 j0 j0 q33<|j4)),(fun _=>pa j0 j0 j0 j0 (mv j0<|j4)),(fun _=>pa j0 j0 j0 j0 (ld ti32 j0 j0<|j4)),(fun _=>pa j0 j0 j0 j0 (fa ti35 j0 j0 j0<|j4)),(fun h=>by cases h),(fun h=>by cases h),(fun h=>by cases h),(fun h=>by cases h),(fun h=>by cases h),j5⟩ (by kernel_rfl) j0 ⟨(fun h=>by cases h),(fun h=>by cases h),(fun h=>by cases h),(fun _ _=>⟨_,j0,j0,sto ti39 j0 j0 j0<|⟨.any,[],[],j0,j0,by kernel_rfl,j5,dt0 ⟨(fun h=>by cases h),(fun h=>by cases h),(fun h=>by cases h),(fun h=>by cases h),(fun h=>by cases h),(fun h=>by cases h),(fun h=>by cases h),(fun h=>by cases h),(fun h=>by cases h),(fun h=>by cases h),j5⟩ (by kernel_rfl) j0 ⟨[.old 0,.old 1,.old 3,.old 2],cv j0 (.mpt j0)<|cv j0 (.mpt j0)<|ce j0 j0<|cv j0 (.mpt j0)<|cv j0 (.mpt j0)<|cn,j0,⟨⟨_,j0,rsOne ⟨ci j0,ci j0,ci j0,ci j0,ci j0,ci j0,ci j0,ci j0,ci j0,ci j0,j5⟩⟩,⟨_,j0,rsOne ⟨ci j0,ci j0,ci j0,ci j0,ci j0,ci j0,ci j0,ci j0,ci j0,ci j0,j5⟩⟩,⟨_,j0,rsOne ⟨ci j0,ci j0,ci j0,j5⟩⟩,⟨_,j0,rsOne ⟨ci j0,ci j0,ci j0,j5⟩⟩,j5⟩,j0,j1⟩⟩⟩),j5⟩⟩⟩),(fun _ h=>by cases h),j5⟩⟩⟩),(fun h=>by cases h),(fun _ h=>by cases h),(fun _ h=>by cases h),j5⟩⟩⟩),(fun _ h=>by cases h),(fun _ h=>by cases h),j5⟩) ?_
     obtain ⟨v22,q36,h⟩:=bs h
     obtain ⟨v24,q39,h⟩:=bs h
     refine rg j0<|u<|fa ti39 j0 j0 j0<|u<|ld ti3 j0 j0<|u<|fa ti39 j0 j0 j0<|u<|ld ti3 j0 j0<|u<|neq ti3 j0 j0<|u<|mv j0<|r_or (x:=v22) (j:=5) 6 j0 j0 j0 j0 j0 gpn (fun hb34=>by replace q36:=bF hb34 q36; obtain ⟨v21,q35,q36⟩:=bs q36; obtain rfl:=sm q36; exact g j0 hb34<|fa ti39 j0 j0 j0<|g j0 hb34<|ld ti24 j0 j0<|g j0 hb34<|fa ti39 j0 j0 j0<|g j0 hb34<|ld ti24 j0 j0<|g j0 hb34<|pc (ref3_EqTexts_ok v19.Locals v20.Locals q35) j0 j0 j0<|g j0 hb34<|nt j0<|r_nil (eg [129,130,131,132,133,134] 6 j0 j0 j0 j0)) (fun hb=>(sm (bT hb q36)).symm)<|u<|mv j0<|r_or (x:=v24) (j:=13) 6 j0 j0 j0 j0 j0 gpn (fun hb37=>by replace q39:=bF hb37 q39; obtain ⟨v23,q38,q39⟩:=bs q39; obtain rfl:=sm q39; exact g j0 hb37<|fa ti39 j0 j0 j0<|g j0 hb37<|ld ti24 j0 j0<|g j0 hb37<|fa ti39 j0 j0 j0<|g j0 hb37<|ld ti24 j0 j0<|g j0 hb37<|pc (ref3_EqTexts_ok v19.Stack v20.Stack q38) j0 j0 j0<|g j0 hb37<|nt j0<|r_nil (eg [137,138,139,140,141,142] 6 j0 j0 j0 j0)) (fun hb=>(sm (bT hb q39)).symm)<|r_nil ?_
     refine sw_cond j0 (fun hc40=>?_) (fun hc40=>?_)
     ·
      replace h:=bT hc40 h
      refine rg j0<|u<|asg j0<|r_nil ?_
      refine sw_ret ?_
      obtain rfl:=sm h
      exact ⟨_,j0,_,j0,[],ci j0,j0,j5,j0,j1⟩
     ·
      replace h:=bF hc40 h
      refine sw_skip ?_
      refine rl j0<|u<|mv j0<|u<|add ti3 j0 j0<|u<|asg j0<|r_nil ?_
      obtain rfl:=sm h
      exact ⟨_,j0,[.old 0,.old 1],cv j0 (.mpt j0)<|cv j0 (.mpt j0)<|ce j0 j0<|cn,j0,⟨⟨_,j0,rsOne ⟨ci j0,ci j0,ci j0,ci j0,ci j0,ci j0,ci j0,ci j0,ci j0,ci j0,j5⟩⟩,⟨_,j0,rsOne ⟨ci j0,ci j0,ci j0,ci j0,ci j0,ci j0,ci j0,ci j0,ci j0,ci j0,j5⟩⟩,j5⟩,j0,j1⟩
    ·
     replace h:=bF hc31 h
     refine sw_exit ?_
     obtain rfl:=sm h
     exact ⟨j0,_,j0,[.old 0,.old 1],cv j0 (.mpt j0)<|cv j0 (.mpt j0)<|cn,j0,⟨⟨_,j0,rsOne ⟨ci j0,ci j0,ci j0,ci j0,ci j0,ci j0,ci j0,ci j0,ci j0,ci j0,j5⟩⟩,⟨_,j0,rsOne ⟨ci j0,ci j0,ci j0,ci j0,ci j0,ci j0,ci j0,ci j0,ci j0,ci j0,j5⟩⟩,j5⟩,j0,j1⟩
   ·
    rintro ⟨⟩ rfl
    replace h : ref3_eqMethod_k4 v1 v2 = some r:=h
    unfold ref3_eqMethod_k4 at h
    refine ow_intro ?_
    refine sw_seq ?_
    refine rg j0<|u<|asg j0<|r_nil ?_
    obtain ⟨o,ho,h⟩:=bs h
    refine sw_lpl (X:=Int) (B:=Unit) (R:=Bool) (fun z=>[(2,.mpt 0 0 0),(3,.mpt 1 0 0),(9,iA z)]) (fun z=>[some (10,[[sA v1.Name,.isl 1 (List.map rStr v1.Params),sA v1.Ret,bA v1.Static,bA v1.Abstract,iA v1.Locals,iA v1.Stack,.isl 4 (List.map rApiIns v1.Code),.isl 3 (List.map rApiMap v1.Maps),.isl 4 (List.map rApiTrap v1.Traps)]]),some (10,[[sA v2.Name,.isl 1 (List.map rStr v2.Params),sA v2.Ret,bA v2.Static,bA v2.Abstract,iA v2.Locals,iA v2.Stack,.isl 4 (List.map rApiIns v2.Code),.isl 3 (List.map rApiMap v2.Maps),.isl 4 (List.map rApiTrap v2.Traps)]])]) (fun b=>[]) (fun b=>[]) (fun r env st=>PostF Tryz.prog Tryz.f74 0 (bA r) [] env st) ho ⟨[.old 0,.old 1],cv j0 (.mpt j0)<|cv j0 (.mpt j0)<|ce j0 j0<|cn,j0,⟨⟨_,j0,rsOne ⟨ci j0,ci j0,ci j0,ci j0,ci j0,ci j0,ci j0,ci j0,ci j0,ci j0,j5⟩⟩,⟨_,j0,rsOne ⟨ci j0,ci j0,ci j0,ci j0,ci j0,ci j0,ci j0,ci j0,ci j0,ci j0,j5⟩⟩,j5⟩,j0,j1⟩ ?_ ?_ ?_
    ·
     rintro v28 r h
     replace h : ref3_eqMethod_l5 v1 v2 v28 = some r:=h
     unfold ref3_eqMethod_l5 at h
     refine sw_seq ?_
     refine rg j0<|u<|mv j0<|u<|fa ti35 j0 j0 j0<|u<|ld ti33 j0 j0<|u<|lnI ti33 j0 j0<|u<|lss ti3 j0 j0<|r_nil ?_
     refine sw_cond j0 (fun hc48=>?_) (fun hc48=>?_)
     ·
      replace h:=bT hc48 h
      refine sw_skip ?_
      refine sw_seq ?_
      refine sw_block ?_
      obtain ⟨v29,q49,h⟩:=bs h
      obtain ⟨v30,q50,h⟩:=bs h
      refine rd [(2,.mpt 0 0 0),(3,.mpt 1 0 0),(9,iA v28),(10,.mpt 2 0 0),(11,.mpt 3 0 0)] [some (10,[[sA v1.Name,.isl 1 (List.map rStr v1.Params),sA v1.Ret,bA v1.Static,bA v1.Abstract,iA v1.Locals,iA v1.Stack,.isl 4 (List.map rApiIns v1.Code),.isl 3 (List.map rApiMap v1.Maps),.isl 4 (List.map rApiTrap v1.Traps)]]),some (10,[[sA v2.Name,.isl 1 (List.map rStr v2.Params),sA v2.Ret,bA v2.Static,bA v2.Abstract,iA v2.Locals,iA v2.Stack,.isl 4 (List.map rApiIns v2.Code),.isl 3 (List.map rApiMap v2.Maps),.isl 4 (List.map rApiTrap v2.Traps)]]),some (4,[[iA v29.From,iA v29.To,iA v29.At,sA v29.C]]),some (4,[[iA v30.From,iA v30.To,iA v30.At,sA v30.C]])] [10,11,12,13] [9,8,7,6,5,4,3,2,1,0] [(160,.agg [iA v30.From,iA v30.To,iA v30.At,sA v30.C]),(159,.ipt 4 (List.map rApiTrap v2.Traps) (Int.toNat v28) 0),(158,iA v28),(157,.isl 4 (List.map rApiTrap v2.Traps)),(156,.mpt 1 0 9),(155,.agg [iA v29.From,iA v29.To,iA v29.At,sA v29.C]),(154,.ipt 4 (List.map rApiTrap v1.Traps) (Int.toNat v28) 0),(153,iA v28),(152,.isl 4 (List.map rApiTrap v1.Traps)),(151,.mpt 0 0 9)] 4 (by kernel_rfl) (by kernel_rfl) j0 (by kernel_rfl) (dtS ⟨(fun _=>pa j0 j0 j0 j0 (ldI ti113 j0 (idx_some q50).2.2 j0<|j4)),(fun _=>pa j0 j0 j0 j0 (ixI ti33 j0 ti113 j0 j0 j0 q50<|j4)),(fun _=>pa j0 j0 j0 j0 (mv j0<|j4)),(fun _=>pa j0 j0 j0 j0 (ld ti33 j0 j0<|j4)),(fun _=>pa j0 j0 j0 j0 (fa ti35 j0 j0 j0<|j4)),(fun _=>pa j0 j0 j0 j0 (ldI ti113 j0 (idx_some q49).2.2 j0<|j4)),(fun _=>pa j0 j0 j0 j0 (ixI ti33 j0 ti113 j0 j0 j0 q49<|j4)),(fun _=>pa j0 j0 j0 j0 (mv j0<|j4)),(fun _=>pa j0 j0 j0 j0 (ld ti33 j0 j0<|j4)),(fun _=>pa j0 j0 j0 j0 (fa ti35 j0 j0 j0<|j4)),j5⟩ (by kernel_rfl) j0 ⟨(fun _ _=>⟨_,j0,j0,al 2 ti113 j0<|⟨(.mpt 2 0 0),[],[(10,.mpt 2 0 0)],j0,j0,by kernel_rfl,j0,dtS ⟨(fun _=>pa j0 j0 j0 j0 (ldI ti113 j0 (idx_some q50).2.2 j0<|j4)),(fun _=>pa j0 j0 j0 j0 (ixI ti33 j0 ti113 j0 j0 j0 q50<|j4)),(fun _=>pa j0 j0 j0 j0 (mv j0<|j4)),(fun _=>pa j0 j0 j0 j0 (ld ti33 j0 j0<|j4)),(fun _=>pa j0 j0 j0 j0 (fa ti35 j0 j0 j0<|j4)),(fun _=>pa j0 j0 j0 j0 (ldI ti113 j0 (idx_some q49).2.2 j0<|j4)),(fun _=>pa j0 j0 j0 j0 (ixI ti33 j0 ti113 j0 j0 j0 q49<|j4)),(fun _=>pa j0 j0 j0 j0 (mv j0<|j4)),(fun _=>pa j0 j0 j0 j0 (ld ti33 j0 j0<|j4)),(fun _=>pa j0 j0 j0 j0 (fa ti35 j0 j0 j0<|j4)),j5⟩ (by kernel_rfl) j0 ⟨(fun h=>by cases h),(fun _ _=>⟨_,j0,j0,al 3 ti113 j0<|⟨(.mpt 3 0 0),[],[(11,.mpt 3 0 0)],j0,j0,by kernel_rfl,j0,dtS ⟨(fun _=>pa j0 j0 j0 j0 (ldI ti113 j0 (idx_some q50).2.2 j0<|j4)),(fun _=>pa j0 j0 j0 j0 (ixI ti33 j0 ti113 j0 j0 j0 q50<|j4)),(fun _=>pa j0 j0 j0 j0 (mv j0<|j4)),(fun _=>pa j0 j0 j0 j0 (ld ti33 j0 j0<|j4)),(fun _=>pa j0 j0 j0 j0 (fa ti35 j0 j0 j0<|j4)),(fun _=>pa j0 j0 j0 j0 (ldI ti113 j0 (idx_some q49).2.2 j0<|j4)),(fun _=>pa j0 j0 j0 j0 (ixI ti33 j0 ti113 j0 j0 j0 q49<|j4)),(fun _=>pa j0 j0 j0 j0 (mv j0<|j4)),(fun _=>pa j0 j0 j0 j0 (ld ti33 j0 j0<|j4)),(fun _=>pa j0 j0 j0 j0 (fa ti35 j0 j0 j0<|j4)),j5⟩ (by kernel_rfl) j0 ⟨(fun h=>by cases h),(fun h=>by cases h),(fun _ _=>⟨_,j0,j0,sto ti113 j0 j0 j0<|⟨.any,[],[],j0,j0,by kernel_rfl,j5,dtS ⟨(fun _=>pa j0 j0 j0 j0 (ldI ti113 j0 (idx_some q50).2.2 j0<|j4)),(fun _=>pa j0 j0 j0 j0 (ixI ti33 j0 ti113 j0 j0 j0 q50<|j4)),(fun _=>pa j0 j0 j0 j0 (mv j0<|j4)),(fun _=>pa j0 j0 j0 j0 (ld ti33 j0 j0<|j4)),(fun _=>pa j0 j0 j0 j0 (fa ti35 j0 j0 j0<|j4)),(fun h=>by cases h),(fun h=>by cases h),(fun h=>by cases h),(fun h=>by cases h),(fun h=>by cases h),j5⟩ (by kernel_rfl) j0 ⟨(fun h=>by cases h),(fun h=>by cases h),(fun h=>by cases h),(fun _ _=>⟨_,j0,j0,sto ti113 j0 j0 j0<|⟨.any,[],[],j0,j0,by kernel_rfl,j5,dt0 ⟨(fun h=>by cases h),(fun h=>by cases h),(fun h=>by cases h),(fun h=>by cases h),(fun h=>by cases h),(fun h=>by cases h),(fun h=>by cases h),(fun h=>by cases h),(fun h=>by cases h),(fun h=>by cases h),j5⟩ (by kernel_rfl) j0 ⟨[.old 0,.old 1,.old 2,.old 3],cv j0 (.mpt j0)<|cv j0 (.mpt j0)<|ce j0 j0<|cv j0 (.mpt j0)<|cv j0 (.mpt j0)<|cn,j0,⟨⟨_,j0,rsOne ⟨ci j0,ci j0,ci j0,ci j0,ci j0,ci j0,ci j0,ci j0,ci j0,ci j0,j5⟩⟩,⟨_,j0,rsOne ⟨ci j0,ci j0,ci j0,ci j0,ci j0,ci j0,ci j0,ci j0,ci j0,ci j0,j5⟩⟩,⟨_,j0,rsOne ⟨ci j0,ci j0,ci j0,ci j0,j5⟩⟩,⟨_,j0,rsOne ⟨ci j0,ci j0,ci j0,ci j0,j5⟩⟩,j5⟩,j0,j1⟩⟩⟩),j5⟩⟩⟩),(fun _ h=>by cases h),j5⟩⟩⟩),(fun _ h=>by cases h),(fun _ h=>by cases h),j5⟩⟩⟩),(fun _ _=>⟨_,j0,j0,al 2 ti113 j0<|⟨(.mpt 2 0 0),[],[(11,.mpt 2 0 0)],j0,j0,by kernel_rfl,j0,dtS ⟨(fun _=>pa j0 j0 j0 j0 (ldI ti113 j0 (idx_some q50).2.2 j0<|j4)),(fun _=>pa j0 j0 j0 j0 (ixI ti33 j0 ti113 j0 j0 j0 q50<|j4)),(fun _=>pa j0 j0 j0 j0 (mv j0<|j4)),(fun _=>pa j0 j0 j0 j0 (ld ti33 j0 j0<|j4)),(fun _=>pa j0 j0 j0 j0 (fa ti35 j0 j0 j0<|j4)),(fun _=>pa j0 j0 j0 j0 (ldI ti113 j0 (idx_some q49).2.2 j0<|j4)),(fun _=>pa j0 j0 j0 j0 (ixI ti33 j0 ti113 j0 j0 j0 q49<|j4)),(fun _=>pa j0 j0 j0 j0 (mv j0<|j4)),(fun _=>pa j0 j0 j0 j0 (ld ti33 j0 j0<|j4)),(fun _=>pa j0 j0 j0 j0 (fa ti35 j0 j0 j0<|j4)),j5⟩ (by kernel_rfl) j0 ⟨(fun _ _=>⟨_,j0,j0,al 3 ti113 j0<|⟨(.mpt 3 0 0),[],[(10,.mpt 3 0 0)],j0,j0,by kernel_rfl,j0,dtS ⟨(fun _=>pa j0 j0 j0 j0 (ldI ti113 j0 (idx_some q50).2.2 j0<|j4)),(fun _=>pa j0 j0 j0 j0 (ixI ti33 j0 ti113 j0 j0 j0 q50<|j4)),(fun _=>pa j0 j0 j0 j0 (mv j0<|j4)),(fun _=>pa j0 j0 j0 j0 (ld ti33 j0 j0<|j4)),(fun _=>pa j0 j0 j0 j0 (fa ti35 j0 j0 j0<|j4)),(fun _=>pa j0 j0 j0 j0 (ldI ti113 j0 (idx_some q49).2.2 j0<|j4)),(fun _=>pa j0 j0 j0 j0 (ixI ti33 j0 ti113 j0 j0 j0 q49<|j4)),(fun _=>pa j0 j0 j0 j0 (mv j0<|j4)),(fun _=>pa j0 j0 j0 j0 (ld ti33 j0 j0<|j4)),(fun _=>pa j0 j0 j0 j0 (fa ti35 j0 j0 j0<|j4)),j5⟩ (by kernel_rfl) j0 ⟨(fun h=>by cases h),(fun h=>by cases h),(fun _ _=>⟨_,j0,j0,sto ti113 j0 j0 j0<|⟨.any,[],[],j0,j0,by kernel_rfl,j5,dtS ⟨(fun _=>pa j0 j0 j0 j0 (ldI ti113 j0 (idx_some q50).2.2 j0<|j4)),(fun _=>pa j0 j0 j0 j0 (ixI ti33 j0 ti113 j0 j0 j0 q50<|j4)),(fun _=>pa j0 j0 j0 j0 (mv j0<|j4)),(fun _=>pa j0 j0 j0 j0 (ld ti33 j0 j0<|j4)),(fun _=>pa j0 j0 j0 j0 (fa ti35 j0 j0 j0<|j4)),(fun h=>by cases h),(fun h=>by cases h),(fun h=>by cases h),(fun h=>by cases h),(fun h=>by cases h),j5⟩ (by kernel_rfl) j0 ⟨(fun h=>by cases h),(fun h=>by cases h),(fun h=>by cases h),(fun _ _=>⟨_,j0,j0,sto ti113 j0 j0 j0<|⟨.any,[],[],j0,j0,by kernel_rfl,j5,dt0 ⟨(fun h=>by cases h),(fun h=>by cases h),(fun h=>by cases h),(fun h=>by cases h),(fun h=>by cases h),(fun h=>by cases h),(fun h=>by cases h),(fun h=>by cases h),(fun h=>by cases h),(fun h=>by cases h),j5⟩ (by kernel_rfl) j0 ⟨[.old 0,.old 1,.old 3,.old 2],cv j0 (.mpt j0)<|cv j0 (.mpt j0)<|ce j0 j0<|cv j0 (.mpt j0)<|cv j0 (.mpt j0)<|cn,j0,⟨⟨_,j0,rsOne ⟨ci j0,ci j0,ci j0,ci j0,ci j0,ci j0,ci j0,ci j0,ci j0,ci j0,j5⟩⟩,⟨_,j0,rsOne ⟨ci j0,ci j0,ci j0,ci j0,ci j0,ci j0,ci j0,ci j0,ci j0,ci j0,j5⟩⟩,⟨_,j0,rsOne ⟨ci j0,ci j0,ci j0,ci j0,j5⟩⟩,⟨_,j0,rsOne ⟨ci j0,ci j0,ci j0,ci j0,j5⟩⟩,j5⟩,j0,j1⟩⟩⟩),j5⟩⟩⟩),(fun _ h=>by cases h),j5⟩⟩⟩),(fun h=>by cases h),(fun _ h=>by cases h),(fun _ h=>by cases h),j5⟩⟩⟩),(fun _ h=>by cases h),(fun _ h=>by cases h),j5⟩) ?_
      refine rg j0<|u<|fa ti113 j0 j0 j0<|u<|ld ti3 j0 j0<|u<|fa ti113 j0 j0 j0<|u<|ld ti3 j0 j0<|u<|neq ti3 j0 j0<|u<|mv j0<|r_or (j:=5) 5 j0 j0 j0 j0 j0 gpn (fun hb51=>g j0 hb51<|fa ti113 j0 j0 j0<|g j0 hb51<|ld ti3 j0 j0<|g j0 hb51<|fa ti113 j0 j0 j0<|g j0 hb51<|ld ti3 j0 j0<|g j0 hb51<|neq ti3 j0 j0<|r_nil (egO [167,168,169,170,171] 5 hb51 j0 j0 j0 j0)) orT<|u<|mv j0<|r_or (j:=12) 5 j0 j0 j0 j0 j0 gpn (fun hb52=>g j0 hb52<|fa ti113 j0 j0 j0<|g j0 hb52<|ld ti3 j0 j0<|g j0 hb52<|fa ti113 j0 j0 j0<|g j0 hb52<|ld ti3 j0 j0<|g j0 hb52<|neq ti3 j0 j0<|r_nil (egO [174,175,176,177,178] 5 hb52 j0 j0 j0 j0)) orT<|u<|mv j0<|r_or (j:=19) 5 j0 j0 j0 j0 j0 gpn (fun hb53=>g j0 hb53<|fa ti113 j0 j0 j0<|g j0 hb53<|ld ti9 j0 j0<|g j0 hb53<|fa ti113 j0 j0 j0<|g j0 hb53<|ld ti9 j0 j0<|g j0 hb53<|sne ti9 j0 j0<|r_nil (egO [181,182,183,184,185] 5 hb53 j0 j0 j0 j0)) orT<|r_nil ?_
      refine sw_cond j0 (fun hc54=>?_) (fun hc54=>?_)
      ·
       replace h:=bT hc54 h
       refine rg j0<|u<|asg j0<|r_nil ?_
       refine sw_ret ?_
       obtain rfl:=sm h
       exact ⟨_,j0,_,j0,[],ci j0,j0,j5,j0,j1⟩
      ·
       replace h:=bF hc54 h
       refine sw_skip ?_
       refine rl j0<|u<|mv j0<|u<|add ti3 j0 j0<|u<|asg j0<|r_nil ?_
       obtain rfl:=sm h
       exact ⟨_,j0,[.old 0,.old 1],cv j0 (.mpt j0)<|cv j0 (.mpt j0)<|ce j0 j0<|cn,j0,⟨⟨_,j0,rsOne ⟨ci j0,ci j0,ci j0,ci j0,ci j0,ci j0,ci j0,ci j0,ci j0,ci j0,j5⟩⟩,⟨_,j0,rsOne ⟨ci j0,ci j0,ci j0,ci j0,ci j0,ci j0,ci j0,ci j0,ci j0,ci j0,j5⟩⟩,j5⟩,j0,j1⟩
     ·
      replace h:=bF hc48 h
      refine sw_exit ?_
      obtain rfl:=sm h
      exact ⟨j0,_,j0,[],cn,j0,j5,j0,j1⟩
    ·
     rintro ⟨⟩ rfl
     replace h : ref3_eqMethod_k6 = some r:=h
     unfold ref3_eqMethod_k6 at h
     refine ow_intro ?_
     refine rg j0<|u<|asg j0<|r_nil ?_
     refine sw_ret ?_
     obtain rfl:=sm h
     exact ⟨_,j0,[],ci j0,j0,j5,j0,j1⟩
    ·
     rintro r' rfl env st hp
     obtain rfl:=sm h
     exact hp
   ·
    rintro r' rfl env st hp
    obtain rfl:=sm h
    exact hp
  ·
   rintro r' rfl env st hp
   obtain rfl:=sm h
   exact hp
def ref3_EqClass_k4 : Option (Bool) :=
  some true
def ref3_EqClass_l3 (v1 : ApiClass) (v2 : ApiClass) (v15 : Int) : Option (Sum (Int) (Sum (Unit) (Bool))) :=
  cond (decide (v15 < (List.length v1.Methods : Int))) ((idx v1.Methods v15).bind fun v16=>(idx v2.Methods v15).bind fun v17=>(ref3_eqMethod v16 v17).bind fun v18=>cond (!v18) (some (.inr (.inr false))) (some (.inl (IntKind.i64.wrap (v15 + 1))))) (some (.inr (.inl ())))
def ref3_EqClass_k2 (v1 : ApiClass) (v2 : ApiClass) : Option (Bool) :=
  (loopP (fun z=>ref3_EqClass_l3 v1 v2 z) 0).bind fun o=>leave o (fun b=>ref3_EqClass_k4) some
def ref3_EqClass_l1 (v1 : ApiClass) (v2 : ApiClass) (v8 : Int) : Option (Sum (Int) (Sum (Unit) (Bool))) :=
  cond (decide (v8 < (List.length v1.Fields : Int))) ((idx v1.Fields v8).bind fun v9=>(idx v2.Fields v8).bind fun v10=>cond (((!(v9.Name == v10.Name)) || (!(v9.Type_ == v10.Type_))) || (!(v9.Static == v10.Static))) (some (.inr (.inr false))) (some (.inl (IntKind.i64.wrap (v8 + 1))))) (some (.inr (.inl ())))
def ref3_EqClass (v1 : ApiClass) (v2 : ApiClass) : Option (Bool) :=
  (cond (((!(v1.Name == v2.Name)) || (!(v1.Super == v2.Super))) || (!(v1.Interface == v2.Interface))) (some true) ((ref3_EqTexts v1.Impl v2.Impl).bind fun v3=>some (!v3))).bind fun v4=>cond ((v4 || (!((List.length v1.Fields : Int) == (List.length v2.Fields : Int)))) || (!((List.length v1.Methods : Int) == (List.length v2.Methods : Int)))) (some false) ((loopP (fun z=>ref3_EqClass_l1 v1 v2 z) 0).bind fun o=>leave o (fun b=>ref3_EqClass_k2 v1 v2) some)
theorem ref3_EqClass_ok (v1 : ApiClass) (v2 : ApiClass) {r : Bool} (h : ref3_EqClass v1 v2 = some r) : PureC Tryz.prog 18 [.agg [sA v1.Name,sA v1.Super,bA v1.Interface,.isl 1 (List.map rStr v1.Impl),.isl 3 (List.map rApiField v1.Fields),.isl 10 (List.map rApiMethod v1.Methods)],.agg [sA v2.Name,sA v2.Super,bA v2.Interface,.isl 1 (List.map rStr v2.Impl),.isl 3 (List.map rApiField v2.Fields),.isl 10 (List.map rApiMethod v2.Methods)]] (bA r):=by
 refine pure_fn Tryz.func18 j0 (by kernel_rfl) j0 j0 ?_
 unfold ref3_EqClass at h
 refine rg j0<|u<|bx 0 6 j0 j0 j0 j0<|u<|bx 1 6 j0 j0 j0 j0<|u<|asg j0<|r_nil ?_
 refine sw_seq ?_
 obtain ⟨v4,q5,h⟩:=bs h
 refine rg j0<|u<|fa ti28 j0 j0 j0<|u<|ld ti9 j0 j0<|u<|fa ti28 j0 j0 j0<|u<|ld ti9 j0 j0<|u<|sne ti9 j0 j0<|u<|mv j0<|r_or (j:=5) 5 j0 j0 j0 j0 j0 gpn (fun hb1=>g j0 hb1<|fa ti28 j0 j0 j0<|g j0 hb1<|ld ti9 j0 j0<|g j0 hb1<|fa ti28 j0 j0 j0<|g j0 hb1<|ld ti9 j0 j0<|g j0 hb1<|sne ti9 j0 j0<|r_nil (egO [15,16,17,18,19] 5 hb1 j0 j0 j0 j0)) orT<|u<|mv j0<|r_or (j:=12) 5 j0 j0 j0 j0 j0 gpn (fun hb2=>g j0 hb2<|fa ti28 j0 j0 j0<|g j0 hb2<|ld ti4 j0 j0<|g j0 hb2<|fa ti28 j0 j0 j0<|g j0 hb2<|ld ti4 j0 j0<|g j0 hb2<|bne ti4 j0 j0 j0<|r_nil (egO [22,23,24,25,26] 5 hb2 j0 j0 j0 j0)) orT<|u<|mv j0<|r_or (x:=v4) (j:=19) 6 j0 j0 j0 j0 j0 gpn (fun hb3=>by replace q5:=bF hb3 q5; obtain ⟨v3,q4,q5⟩:=bs q5; obtain rfl:=sm q5; exact g j0 hb3<|fa ti28 j0 j0 j0<|g j0 hb3<|ld ti24 j0 j0<|g j0 hb3<|fa ti28 j0 j0 j0<|g j0 hb3<|ld ti24 j0 j0<|g j0 hb3<|pc (ref3_EqTexts_ok v1.Impl v2.Impl q4) j0 j0 j0<|g j0 hb3<|nt j0<|r_nil (eg [29,30,31,32,33,34] 6 j0 j0 j0 j0)) (fun hb=>(sm (bT hb q5)).symm)<|u<|mv j0<|r_or (j:=27) 7 j0 j0 j0 j0 j0 gpn (fun hb6=>g j0 hb6<|fa ti28 j0 j0 j0<|g j0 hb6<|ld ti25 j0 j0<|g j0 hb6<|lnI ti25 j0 j0<|g j0 hb6<|fa ti28 j0 j0 j0<|g j0 hb6<|ld ti25 j0 j0<|g j0 hb6<|lnI ti25 j0 j0<|g j0 hb6<|neq ti3 j0 j0<|r_nil (egO [37,38,39,40,41,42,43] 7 hb6 j0 j0 j0 j0)) orT<|u<|mv j0<|r_or (j:=36) 7 j0 j0 j0 j0 j0 gpn (fun hb7=>g j0 hb7<|fa ti28 j0 j0 j0<|g j0 hb7<|ld ti26 j0 j0<|g j0 hb7<|lnI ti26 j0 j0<|g j0 hb7<|fa ti28 j0 j0 j0<|g j0 hb7<|ld ti26 j0 j0<|g j0 hb7<|lnI ti26 j0 j0<|g j0 hb7<|neq ti3 j0 j0<|r_nil (egO [46,47,48,49,50,51,52] 7 hb7 j0 j0 j0 j0)) orT<|r_nil ?_
 refine sw_cond j0 (fun hc8=>?_) (fun hc8=>?_)
 ·
  replace h:=bT hc8 h
  refine rg j0<|u<|asg j0<|r_nil ?_
  refine sw_ret ?_
  obtain rfl:=sm h
  exact ⟨_,j0,[],ci j0,j0,j5,j0,j1⟩
 ·
  replace h:=bF hc8 h
  refine sw_skip ?_
  refine sw_seq ?_
  refine rg j0<|u<|asg j0<|r_nil ?_
  obtain ⟨o,ho,h⟩:=bs h
  refine sw_lpl (X:=Int) (B:=Unit) (R:=Bool) (fun z=>[(2,.mpt 0 0 0),(3,.mpt 1 0 0),(5,iA z)]) (fun z=>[some (6,[[sA v1.Name,sA v1.Super,bA v1.Interface,.isl 1 (List.map rStr v1.Impl),.isl 3 (List.map rApiField v1.Fields),.isl 10 (List.map rApiMethod v1.Methods)]]),some (6,[[sA v2.Name,sA v2.Super,bA v2.Interface,.isl 1 (List.map rStr v2.Impl),.isl 3 (List.map rApiField v2.Fields),.isl 10 (List.map rApiMethod v2.Methods)]])]) (fun b=>[(2,.mpt 0 0 0),(3,.mpt 1 0 0)]) (fun b=>[some (6,[[sA v1.Name,sA v1.Super,bA v1.Interface,.isl 1 (List.map rStr v1.Impl),.isl 3 (List.map rApiField v1.Fields),.isl 10 (List.map rApiMethod v1.Methods)]]),some (6,[[sA v2.Name,sA v2.Super,bA v2.Interface,.isl 1 (List.map rStr v2.Impl),.isl 3 (List.map rApiField v2.Fields),.isl 10 (List.map rApiMethod v2.Methods)]])]) (fun r env st=>PostF Tryz.prog Tryz.f18 0 (bA r) [] env st) ho ⟨[.old 0,.old 1],cv j0 (.mpt j0)<|cv j0 (.mpt j0)<|ce j0 j0<|cn,j0,⟨⟨_,j0,rsOne ⟨ci j0,ci j0,ci j0,ci j0,ci j0,ci j0,j5⟩⟩,⟨_,j0,rsOne ⟨ci j0,ci j0,ci j0,ci j0,ci j0,ci j0,j5⟩⟩,j5⟩,j0,j1⟩ ?_ ?_ ?_
  ·
   rintro v8 r h
   replace h : ref3_EqClass_l1 v1 v2 v8 = some r:=h
   unfold ref3_EqClass_l1 at h
   refine sw_seq ?_
   refine rg j0<|u<|mv j0<|u<|fa ti28 j0 j0 j0<|u<|ld ti25 j0 j0<|u<|lnI ti25 j0 j0<|u<|lss ti3 j0 j0<|r_nil ?_
   refine sw_cond j0 (fun hc15=>?_) (fun hc15=>?_)
   ·
    replace h:=bT hc15 h
    refine sw_skip ?_
    refine sw_seq ?_
    refine sw_block ?_
    obtain ⟨v9,q16,h⟩:=bs h
    obtain ⟨v10,q17,h⟩:=bs h
    refine rd [(2,.mpt 0 0 0),(3,.mpt 1 0 0),(5,iA v8),(6,.mpt 2 0 0),(7,.mpt 3 0 0)] [some (6,[[sA v1.Name,sA v1.Super,bA v1.Interface,.isl 1 (List.map rStr v1.Impl),.isl 3 (List.map rApiField v1.Fields),.isl 10 (List.map rApiMethod v1.Methods)]]),some (6,[[sA v2.Name,sA v2.Super,bA v2.Interface,.isl 1 (List.map rStr v2.Impl),.isl 3 (List.map rApiField v2.Fields),.isl 10 (List.map rApiMethod v2.Methods)]]),some (3,[[sA v9.Name,sA v9.Type_,bA v9.Static]]),some (3,[[sA v10.Name,sA v10.Type_,bA v10.Static]])] [10,11,12,13] [9,8,7,6,5,4,3,2,1,0] [(70,.agg [sA v10.Name,sA v10.Type_,bA v10.Static]),(69,.ipt 3 (List.map rApiField v2.Fields) (Int.toNat v8) 0),(68,iA v8),(67,.isl 3 (List.map rApiField v2.Fields)),(66,.mpt 1 0 4),(65,.agg [sA v9.Name,sA v9.Type_,bA v9.Static]),(64,.ipt 3 (List.map rApiField v1.Fields) (Int.toNat v8) 0),(63,iA v8),(62,.isl 3 (List.map rApiField v1.Fields)),(61,.mpt 0 0 4)] 4 (by kernel_rfl) (by kernel_rfl) j0 (by kernel_rfl) (dtS ⟨(fun _=>pa j0 j0 j0 j0 (ldI ti53 j0 (idx_some q17).2.2 j0<|j4)),(fun _=>pa j0 j0 j0 j0 (ixI ti25 j0 ti53 j0 j0 j0 q17<|j4)),(fun _=>pa j0 j0 j0 j0 (mv j0<|j4)),(fun _=>pa j0 j0 j0 j0 (ld ti25 j0 j0<|j4)),(fun _=>pa j0 j0 j0 j0 (fa ti28 j0 j0 j0<|j4)),(fun _=>pa j0 j0 j0 j0 (ldI ti53 j0 (idx_some q16).2.2 j0<|j4)),(fun _=>pa j0 j0 j0 j0 (ixI ti25 j0 ti53 j0 j0 j0 q16<|j4)),(fun _=>pa j0 j0 j0 j0 (mv j0<|j4)),(fun _=>pa j0 j0 j0 j0 (ld ti25 j0 j0<|j4)),(fun _=>pa j0 j0 j0 j0 (fa ti28 j0 j0 j0<|j4)),j5⟩ (by kernel_rfl) j0 ⟨(fun _ _=>⟨_,j0,j0,al 2 ti53 j0<|⟨(.mpt 2 0 0),[],[(6,.mpt 2 0 0)],j0,j0,by kernel_rfl,j0,dtS ⟨(fun _=>pa j0 j0 j0 j0 (ldI ti53 j0 (idx_some q17).2.2 j0<|j4)),(fun _=>pa j0 j0 j0 j0 (ixI ti25 j0 ti53 j0 j0 j0 q17<|j4)),(fun _=>pa j0 j0 j0 j0 (mv j0<|j4)),(fun _=>pa j0 j0 j0 j0 (ld ti25 j0 j0<|j4)),(fun _=>pa j0 j0 j0 j0 (fa ti28 j0 j0 j0<|j4)),(fun _=>pa j0 j0 j0 j0 (ldI ti53 j0 (idx_some q16).2.2 j0<|j4)),(fun _=>pa j0 j0 j0 j0 (ixI ti25 j0 ti53 j0 j0 j0 q16<|j4)),(fun _=>pa j0 j0 j0 j0 (mv j0<|j4)),(fun _=>pa j0 j0 j0 j0 (ld ti25 j0 j0<|j4)),(fun _=>pa j0 j0 j0 j0 (fa ti28 j0 j0 j0<|j4)),j5⟩ (by kernel_rfl) j0 ⟨(fun h=>by cases h),(fun _ _=>⟨_,j0,j0,al 3 ti53 j0<|⟨(.mpt 3 0 0),[],[(7,.mpt 3 0 0)],j0,j0,by kernel_rfl,j0,dtS ⟨(fun _=>pa j0 j0 j0 j0 (ldI ti53 j0 (idx_some q17).2.2 j0<|j4)),(fun _=>pa j0 j0 j0 j0 (ixI ti25 j0 ti53 j0 j0 j0 q17<|j4)),(fun _=>pa j0 j0 j0 j0 (mv j0<|j4)),(fun _=>pa j0 j0 j0 j0 (ld ti25 j0 j0<|j4)),(fun _=>pa j0 j0 j0 j0 (fa ti28 j0 j0 j0<|j4)),(fun _=>pa j0 j0 j0 j0 (ldI ti53 j0 (idx_some q16).2.2 j0<|j4)),(fun _=>pa j0 j0 j0 j0 (ixI ti25 j0 ti53 j0 j0 j0 q16<|j4)),(fun _=>pa j0 j0 j0 j0 (mv j0<|j4)),(fun _=>pa j0 j0 j0 j0 (ld ti25 j0 j0<|j4)),(fun _=>pa j0 j0 j0 j0 (fa ti28 j0 j0 j0<|j4)),j5⟩ (by kernel_rfl) j0 ⟨(fun h=>by cases h),(fun h=>by cases h),(fun _ _=>⟨_,j0,j0,sto ti53 j0 j0 j0<|⟨.any,[],[],j0,j0,by kernel_rfl,j5,dtS ⟨(fun _=>pa j0 j0 j0 j0 (ldI ti53 j0 (idx_some q17).2.2 j0<|j4)),(fun _=>pa j0 j0 j0 j0 (ixI ti25 j0 ti53 j0 j0 j0 q17<|j4)),(fun _=>pa j0 j0 j0 j0 (mv j0<|j4)),(fun _=>pa j0 j0 j0 j0 (ld ti25 j0 j0<|j4)),(fun _=>pa j0 j0 j0 j0 (fa ti28 j0 j0 j0<|j4)),(fun h=>by cases h),(fun h=>by cases h),(fun h=>by cases h),(fun h=>by cases h),(fun h=>by cases h),j5⟩ (by kernel_rfl) j0 ⟨(fun h=>by cases h),(fun h=>by cases h),(fun h=>by cases h),(fun _ _=>⟨_,j0,j0,sto ti53 j0 j0 j0<|⟨.any,[],[],j0,j0,by kernel_rfl,j5,dt0 ⟨(fun h=>by cases h),(fun h=>by cases h),(fun h=>by cases h),(fun h=>by cases h),(fun h=>by cases h),(fun h=>by cases h),(fun h=>by cases h),(fun h=>by cases h),(fun h=>by cases h),(fun h=>by cases h),j5⟩ (by kernel_rfl) j0 ⟨[.old 0,.old 1,.old 2,.old 3],cv j0 (.mpt j0)<|cv j0 (.mpt j0)<|ce j0 j0<|cv j0 (.mpt j0)<|cv j0 (.mpt j0)<|cn,j0,⟨⟨_,j0,rsOne ⟨ci j0,ci j0,ci j0,ci j0,ci j0,ci j0,j5⟩⟩,⟨_,j0,rsOne ⟨ci j0,ci j0,ci j0,ci j0,ci j0,ci j0,j5⟩⟩,⟨_,j0,rsOne ⟨ci j0,ci j0,ci j0,j5⟩⟩,⟨_,j0,rsOne ⟨ci j0,ci j0,ci j0,j5⟩⟩,j5⟩,j0,j1⟩⟩⟩),j5⟩⟩⟩),(fun _ h=>by cases h),j5⟩⟩⟩),(fun _ h=>by cases h),(fun _ h=>by cases h),j5⟩⟩⟩),(fun _ _=>⟨_,j0,j0,al 2 ti53 j0<|⟨(.mpt 2 0 0),[],[(7,.mpt 2 0 0)],j0,j0,by kernel_rfl,j0,dtS ⟨(fun _=>pa j0 j0 j0 j0 (ldI ti53 j0 (idx_some q17).2.2 j0<|j4)),(fun _=>pa j0 j0 j0 j0 (ixI ti25 j0 ti53 j0 j0 j0 q17<|j4)),(fun _=>pa j0 j0 j0 j0 (mv j0<|j4)),(fun _=>pa j0 j0 j0 j0 (ld ti25 j0 j0<|j4)),(fun _=>pa j0 j0 j0 j0 (fa ti28 j0 j0 j0<|j4)),(fun _=>pa j0 j0 j0 j0 (ldI ti53 j0 (idx_some q16).2.2 j0<|j4)),(fun _=>pa j0 j0 j0 j0 (ixI ti25 j0 ti53 j0 j0 j0 q16<|j4)),(fun _=>pa j0 j0 j0 j0 (mv j0<|j4)),(fun _=>pa j0 j0 j0 j0 (ld ti25 j0 j0<|j4)),(fun _=>pa j0 j0 j0 j0 (fa ti28 j0 j0 j0<|j4)),j5⟩ (by kernel_rfl) j0 ⟨(fun _ _=>⟨_,j0,j0,al 3 ti53 j0<|⟨(.mpt 3 0 0),[],[(6,.mpt 3 0 0)],j0,j0,by kernel_rfl,j0,dtS ⟨(fun _=>pa j0 j0 j0 j0 (ldI ti53 j0 (idx_some q17).2.2 j0<|j4)),(fun _=>pa j0 j0 j0 j0 (ixI ti25 j0 ti53 j0 j0 j0 q17<|j4)),(fun _=>pa j0 j0 j0 j0 (mv j0<|j4)),(fun _=>pa j0 j0 j0 j0 (ld ti25 j0 j0<|j4)),(fun _=>pa j0 j0 j0 j0 (fa ti28 j0 j0 j0<|j4)),(fun _=>pa j0 j0 j0 j0 (ldI ti53 j0 (idx_some q16).2.2 j0<|j4)),(fun _=>pa j0 j0 j0 j0 (ixI ti25 j0 ti53 j0 j0 j0 q16<|j4)),(fun _=>pa j0 j0 j0 j0 (mv j0<|j4)),(fun _=>pa j0 j0 j0 j0 (ld ti25 j0 j0<|j4)),(fun _=>pa j0 j0 j0 j0 (fa ti28 j0 j0 j0<|j4)),j5⟩ (by kernel_rfl) j0 ⟨(fun h=>by cases h),(fun h=>by cases h),(fun _ _=>⟨_,j0,j0,sto ti53 j0 j0 j0<|⟨.any,[],[],j0,j0,by kernel_rfl,j5,dtS ⟨(fun _=>pa j0 j0 j0 j0 (ldI ti53 j0 (idx_some q17).2.2 j0<|j4)),(fun _=>pa j0 j0 j0 j0 (ixI ti25 j0 ti53 j0 j0 j0 q17<|j4)),(fun _=>pa j0 j0 j0 j0 (mv j0<|j4)),(fun _=>pa j0 j0 j0 j0 (ld ti25 j0 j0<|j4)),(fun _=>pa j0 j0 j0 j0 (fa ti28 j0 j0 j0<|j4)),(fun h=>by cases h),(fun h=>by cases h),(fun h=>by cases h),(fun h=>by cases h),(fun h=>by cases h),j5⟩ (by kernel_rfl) j0 ⟨(fun h=>by cases h),(fun h=>by cases h),(fun h=>by cases h),(fun _ _=>⟨_,j0,j0,sto ti53 j0 j0 j0<|⟨.any,[],[],j0,j0,by kernel_rfl,j5,dt0 ⟨(fun h=>by cases h),(fun h=>by cases h),(fun h=>by cases h),(fun h=>by cases h),(fun h=>by cases h),(fun h=>by cases h),(fun h=>by cases h),(fun h=>by cases h),(fun h=>by cases h),(fun h=>by cases h),j5⟩ (by kernel_rfl) j0 ⟨[.old 0,.old 1,.old 3,.old 2],cv j0 (.mpt j0)<|cv j0 (.mpt j0)<|ce j0 j0<|cv j0 (.mpt j0)<|cv j0 (.mpt j0)<|cn,j0,⟨⟨_,j0,rsOne ⟨ci j0,ci j0,ci j0,ci j0,ci j0,ci j0,j5⟩⟩,⟨_,j0,rsOne ⟨ci j0,ci j0,ci j0,ci j0,ci j0,ci j0,j5⟩⟩,⟨_,j0,rsOne ⟨ci j0,ci j0,ci j0,j5⟩⟩,⟨_,j0,rsOne ⟨ci j0,ci j0,ci j0,j5⟩⟩,j5⟩,j0,j1⟩⟩⟩),j5⟩⟩⟩),(fun _ h=>by cases h),j5⟩⟩⟩),(fun h=>by cases h),(fun _ h=>by cases h),(fun _ h=>by cases h),j5⟩⟩⟩),(fun _ h=>by cases h),(fun _ h=>by cases h),j5⟩) ?_
    refine rg j0<|u<|fa ti53 j0 j0 j0<|u<|ld ti9 j0 j0<|u<|fa ti53 j0 j0 j0<|u<|ld ti9 j0 j0<|u<|sne ti9 j0 j0<|u<|mv j0<|r_or (j:=5) 5 j0 j0 j0 j0 j0 gpn (fun hb18=>g j0 hb18<|fa ti53 j0 j0 j0<|g j0 hb18<|ld ti9 j0 j0<|g j0 hb18<|fa ti53 j0 j0 j0<|g j0 hb18<|ld ti9 j0 j0<|g j0 hb18<|sne ti9 j0 j0<|r_nil (egO [77,78,79,80,81] 5 hb18 j0 j0 j0 j0)) orT<|u<|mv j0<|r_or (j:=12) 5 j0 j0 j0 j0 j0 gpn (fun hb19=>g j0 hb19<|fa ti53 j0 j0 j0<|g j0 hb19<|ld ti4 j0 j0<|g j0 hb19<|fa ti53 j0 j0 j0<|g j0 hb19<|ld ti4 j0 j0<|g j0 hb19<|bne ti4 j0 j0 j0<|r_nil (egO [84,85,86,87,88] 5 hb19 j0 j0 j0 j0)) orT<|r_nil ?_
    refine sw_cond j0 (fun hc20=>?_) (fun hc20=>?_)
    ·
     replace h:=bT hc20 h
     refine rg j0<|u<|asg j0<|r_nil ?_
     refine sw_ret ?_
     obtain rfl:=sm h
     exact ⟨_,j0,_,j0,[],ci j0,j0,j5,j0,j1⟩
    ·
     replace h:=bF hc20 h
     refine sw_skip ?_
     refine rl j0<|u<|mv j0<|u<|add ti3 j0 j0<|u<|asg j0<|r_nil ?_
     obtain rfl:=sm h
     exact ⟨_,j0,[.old 0,.old 1],cv j0 (.mpt j0)<|cv j0 (.mpt j0)<|ce j0 j0<|cn,j0,⟨⟨_,j0,rsOne ⟨ci j0,ci j0,ci j0,ci j0,ci j0,ci j0,j5⟩⟩,⟨_,j0,rsOne ⟨ci j0,ci j0,ci j0,ci j0,ci j0,ci j0,j5⟩⟩,j5⟩,j0,j1⟩
   ·
    replace h:=bF hc15 h
    refine sw_exit ?_
    obtain rfl:=sm h
    exact ⟨j0,_,j0,[.old 0,.old 1],cv j0 (.mpt j0)<|cv j0 (.mpt j0)<|cn,j0,⟨⟨_,j0,rsOne ⟨ci j0,ci j0,ci j0,ci j0,ci j0,ci j0,j5⟩⟩,⟨_,j0,rsOne ⟨ci j0,ci j0,ci j0,ci j0,ci j0,ci j0,j5⟩⟩,j5⟩,j0,j1⟩
  ·
   rintro ⟨⟩ rfl
   replace h : ref3_EqClass_k2 v1 v2 = some r:=h
   unfold ref3_EqClass_k2 at h
   refine ow_intro ?_
   refine sw_seq ?_
   refine rg j0<|u<|asg j0<|r_nil ?_
   obtain ⟨o,ho,h⟩:=bs h
   refine sw_lpl (X:=Int) (B:=Unit) (R:=Bool) (fun z=>[(2,.mpt 0 0 0),(3,.mpt 1 0 0),(8,iA z)]) (fun z=>[some (6,[[sA v1.Name,sA v1.Super,bA v1.Interface,.isl 1 (List.map rStr v1.Impl),.isl 3 (List.map rApiField v1.Fields),.isl 10 (List.map rApiMethod v1.Methods)]]),some (6,[[sA v2.Name,sA v2.Super,bA v2.Interface,.isl 1 (List.map rStr v2.Impl),.isl 3 (List.map rApiField v2.Fields),.isl 10 (List.map rApiMethod v2.Methods)]])]) (fun b=>[]) (fun b=>[]) (fun r env st=>PostF Tryz.prog Tryz.f18 0 (bA r) [] env st) ho ⟨[.old 0,.old 1],cv j0 (.mpt j0)<|cv j0 (.mpt j0)<|ce j0 j0<|cn,j0,⟨⟨_,j0,rsOne ⟨ci j0,ci j0,ci j0,ci j0,ci j0,ci j0,j5⟩⟩,⟨_,j0,rsOne ⟨ci j0,ci j0,ci j0,ci j0,ci j0,ci j0,j5⟩⟩,j5⟩,j0,j1⟩ ?_ ?_ ?_
   ·
    rintro v15 r h
    replace h : ref3_EqClass_l3 v1 v2 v15 = some r:=h
    unfold ref3_EqClass_l3 at h
    refine sw_seq ?_
    refine rg j0<|u<|mv j0<|u<|fa ti28 j0 j0 j0<|u<|ld ti26 j0 j0<|u<|lnI ti26 j0 j0<|u<|lss ti3 j0 j0<|r_nil ?_
    refine sw_cond j0 (fun hc26=>?_) (fun hc26=>?_)
    ·
     replace h:=bT hc26 h
     refine sw_skip ?_
     refine sw_seq ?_
     refine sw_block ?_
     obtain ⟨v16,q27,h⟩:=bs h
     obtain ⟨v17,q28,h⟩:=bs h
     obtain ⟨v18,q29,h⟩:=bs h
     refine rd [(2,.mpt 0 0 0),(3,.mpt 1 0 0),(8,iA v15),(108,bA (!v18))] [some (6,[[sA v1.Name,sA v1.Super,bA v1.Interface,.isl 1 (List.map rStr v1.Impl),.isl 3 (List.map rApiField v1.Fields),.isl 10 (List.map rApiMethod v1.Methods)]]),some (6,[[sA v2.Name,sA v2.Super,bA v2.Interface,.isl 1 (List.map rStr v2.Impl),.isl 3 (List.map rApiField v2.Fields),.isl 10 (List.map rApiMethod v2.Methods)]])] [] [11,10,9,8,7,6,5,4,3,2,1,0] [(108,bA (!v18)),(107,bA v18),(106,.agg [sA v17.Name,.isl 1 (List.map rStr v17.Params),sA v17.Ret,bA v17.Static,bA v17.Abstract,iA v17.Locals,iA v17.Stack,.isl 4 (List.map rApiIns v17.Code),.isl 3 (List.map rApiMap v17.Maps),.isl 4 (List.map rApiTrap v17.Traps)]),(105,.ipt 10 (List.map rApiMethod v2.Methods) (Int.toNat v15) 0),(104,iA v15),(103,.isl 10 (List.map rApiMethod v2.Methods)),(102,.mpt 1 0 5),(101,.agg [sA v16.Name,.isl 1 (List.map rStr v16.Params),sA v16.Ret,bA v16.Static,bA v16.Abstract,iA v16.Locals,iA v16.Stack,.isl 4 (List.map rApiIns v16.Code),.isl 3 (List.map rApiMap v16.Maps),.isl 4 (List.map rApiTrap v16.Traps)]),(100,.ipt 10 (List.map rApiMethod v1.Methods) (Int.toNat v15) 0),(99,iA v15),(98,.isl 10 (List.map rApiMethod v1.Methods)),(97,.mpt 0 0 5)] 0 (by kernel_rfl) (by kernel_rfl) j0 (by kernel_rfl) (dt0 ⟨(fun _=>pa j0 j0 j0 j0 (nt j0<|j4)),(fun _=>pa j0 j0 j0 j0 (pc (ref3_eqMethod_ok v16 v17 q29) j0 j0 j0<|j4)),(fun _=>pa j0 j0 j0 j0 (ldI ti35 j0 (idx_some q28).2.2 j0<|j4)),(fun _=>pa j0 j0 j0 j0 (ixI ti26 j0 ti35 j0 j0 j0 q28<|j4)),(fun _=>pa j0 j0 j0 j0 (mv j0<|j4)),(fun _=>pa j0 j0 j0 j0 (ld ti26 j0 j0<|j4)),(fun _=>pa j0 j0 j0 j0 (fa ti28 j0 j0 j0<|j4)),(fun _=>pa j0 j0 j0 j0 (ldI ti35 j0 (idx_some q27).2.2 j0<|j4)),(fun _=>pa j0 j0 j0 j0 (ixI ti26 j0 ti35 j0 j0 j0 q27<|j4)),(fun _=>pa j0 j0 j0 j0 (mv j0<|j4)),(fun _=>pa j0 j0 j0 j0 (ld ti26 j0 j0<|j4)),(fun _=>pa j0 j0 j0 j0 (fa ti28 j0 j0 j0<|j4)),j5⟩ (by kernel_rfl) j0 ⟨[.old 0,.old 1],cv j0 (.mpt j0)<|cv j0 (.mpt j0)<|ce j0 j0<|ce j0 j0<|cn,j0,⟨⟨_,j0,rsOne ⟨ci j0,ci j0,ci j0,ci j0,ci j0,ci j0,j5⟩⟩,⟨_,j0,rsOne ⟨ci j0,ci j0,ci j0,ci j0,ci j0,ci j0,j5⟩⟩,j5⟩,j0,j1⟩) ?_
     refine sw_cond j0 (fun hc30=>?_) (fun hc30=>?_)
     ·
      replace h:=bT hc30 h
      refine rg j0<|u<|asg j0<|r_nil ?_
      refine sw_ret ?_
      obtain rfl:=sm h
      exact ⟨_,j0,_,j0,[],ci j0,j0,j5,j0,j1⟩
     ·
      replace h:=bF hc30 h
      refine sw_skip ?_
      refine rl j0<|u<|mv j0<|u<|add ti3 j0 j0<|u<|asg j0<|r_nil ?_
      obtain rfl:=sm h
      exact ⟨_,j0,[.old 0,.old 1],cv j0 (.mpt j0)<|cv j0 (.mpt j0)<|ce j0 j0<|cn,j0,⟨⟨_,j0,rsOne ⟨ci j0,ci j0,ci j0,ci j0,ci j0,ci j0,j5⟩⟩,⟨_,j0,rsOne ⟨ci j0,ci j0,ci j0,ci j0,ci j0,ci j0,j5⟩⟩,j5⟩,j0,j1⟩
    ·
     replace h:=bF hc26 h
     refine sw_exit ?_
     obtain rfl:=sm h
     exact ⟨j0,_,j0,[],cn,j0,j5,j0,j1⟩
   ·
    rintro ⟨⟩ rfl
    replace h : ref3_EqClass_k4 = some r:=h
    unfold ref3_EqClass_k4 at h
    refine ow_intro ?_
    refine rg j0<|u<|asg j0<|r_nil ?_
    refine sw_ret ?_
    obtain rfl:=sm h
    exact ⟨_,j0,[],ci j0,j0,j5,j0,j1⟩
   ·
    rintro r' rfl env st hp
    obtain rfl:=sm h
    exact hp
  ·
   rintro r' rfl env st hp
   obtain rfl:=sm h
   exact hp
def law5_Begun : Option (Bool) :=
  (law5_begun).bind fun v1=>some v1
theorem law5_Begun_ok {r : Bool} (h : law5_Begun = some r) : PureC Tryz.prog 43 [] (bA r):=by
 refine pure_fn Tryz.func43 j0 (by kernel_rfl) j0 j0 ?_
 unfold law5_Begun at h
 refine rg j0<|u<|asg j0<|r_nil ?_
 obtain ⟨v1,q1,h⟩:=bs h
 refine rg j0<|u<|pc (law5_begun_ok q1) j0 j0 j0<|u<|asg j0<|r_nil ?_
 refine sw_ret ?_
 obtain rfl:=sm h
 exact ⟨_,j0,[],ci j0,j0,j5,j0,j1⟩
def law6_begun : Option (Bool) :=
  (file_Encode (ApiClass.mk [65,98] [79,98,106,101,99,116] false [] ([(ApiField.mk [120] [73] false)]) ([(ApiMethod.mk [109,97,105,110] [] [86] true false 0 0 ([(ApiIns.mk 46 0 [] [])]) [] [])]))).bind fun v1=>(file_Decode v1).bind fun v2=>(file_Decode []).bind fun v3=>(law5_Begun).bind fun v4=>(cond (v4 && (decide (10 < (List.length v1 : Int)))) ((idx v1 0).bind fun v5=>some ((v5.toNat : Int) == (74 : Int))) (some false)).bind fun v6=>(cond (v6 && (v2.2 == (0 : Int))) ((ref3_EqClass (ApiClass.mk [65,98] [79,98,106,101,99,116] false [] ([(ApiField.mk [120] [73] false)]) ([(ApiMethod.mk [109,97,105,110] [] [86] true false 0 0 ([(ApiIns.mk 46 0 [] [])]) [] [])])) v2.1).bind fun v7=>some v7) (some false)).bind fun v8=>(cond (v8 && (v3.2 == (1 : Int))) ((file_Encode (ApiClass.mk [] [] false [] [] [])).bind fun v9=>some (((List.length v9) : Int) == (0 : Int))) (some false)).bind fun v10=>some v10
theorem law6_begun_ok {r : Bool} (h : law6_begun = some r) : PureC Tryz.prog 13 [] (bA r):=by
 refine pure_fn Tryz.func13 j0 (by kernel_rfl) j0 j0 ?_
 unfold law6_begun at h
 refine rg j0<|u<|asg j0<|r_nil ?_
 refine rg j0<|u<|sc [] (law5_One_ok [65,98] j0) j0 j0 j0 j0 ⟨(rnI j0),j5⟩ j5<|u<|al 3 ti28 j0<|u<|sto ti28 j0 j0 j0<|r_nil ?_
 obtain ⟨v1,q1,h⟩:=bs h
 refine rg j0<|u<|ld ti28 j0 j0<|r_can (env0:=[(1,.mpt 0 0 0),(8,.agg [sA [65,98],sA [79,98,106,101,99,116],bA false,.lit (.slice none 0 0),.isl 3 (List.map rApiField ([(ApiField.mk [120] [73] false)])),.isl 10 (List.map rApiMethod ([(ApiMethod.mk [109,97,105,110] [] [86] true false 0 0 ([(ApiIns.mk 46 0 [] [])]) [] [])]))])]) (st0:=[some (6,[[sA [65,98],sA [79,98,106,101,99,116],bA false,.lit (.slice none 0 0),.isl 3 (List.map rApiField ([(ApiField.mk [120] [73] false)])),.isl 10 (List.map rApiMethod ([(ApiMethod.mk [109,97,105,110] [] [86] true false 0 0 ([(ApiIns.mk 46 0 [] [])]) [] [])]))]])]) ⟨[.old 3],cv j0 (.mpt j0)<|cv j0 (rsAgg ⟨(ci j0),(ci j0),(ci j0),(ci j0),(rsSealX j0 j0 ⟨⟨⟨ci j0,ci j0,ci j0,j5⟩,j0⟩,j5⟩),(rsSealX j0 j0 ⟨⟨⟨ci j0,.nil,ci j0,ci j0,ci j0,ci j0,ci j0,rsSealX j0 j0 ⟨⟨⟨ci j0,ci j0,ci j0,ci j0,j5⟩,j0⟩,j5⟩,.nil,.nil,j5⟩,j0⟩,j5⟩),j5⟩)<|cn,j0,⟨⟨_,j0,rsOne ⟨ci j0,ci j0,ci j0,ci j0,rsSealX j0 j0 ⟨⟨⟨ci j0,ci j0,ci j0,j5⟩,j0⟩,j5⟩,rsSealX j0 j0 ⟨⟨⟨ci j0,.nil,ci j0,ci j0,ci j0,ci j0,ci j0,rsSealX j0 j0 ⟨⟨⟨ci j0,ci j0,ci j0,ci j0,j5⟩,j0⟩,j5⟩,.nil,.nil,j5⟩,j0⟩,j5⟩,j5⟩⟩,j5⟩,j0,j1⟩<|u<|sc [] (file_Encode_ok (ApiClass.mk [65,98] [79,98,106,101,99,116] false [] ([(ApiField.mk [120] [73] false)]) ([(ApiMethod.mk [109,97,105,110] [] [86] true false 0 0 ([(ApiIns.mk 46 0 [] [])]) [] [])])) q1) j0 j0 j0 j0 ⟨(rnAgg ⟨(rnI j0),(rnI j0),(rnI j0),(.nilI),(rnI j0),(rnI j0),j5⟩),j5⟩ j5<|r_can (env0:=[(1,.mpt 0 0 0),(9,.msl 1 0 (List.length v1))]) (st0:=[some (6,[[sA [65,98],sA [79,98,106,101,99,116],bA false,.lit (.slice none 0 0),.isl 3 (List.map rApiField ([(ApiField.mk [120] [73] false)])),.isl 10 (List.map rApiMethod ([(ApiMethod.mk [109,97,105,110] [] [86] true false 0 0 ([(ApiIns.mk 46 0 [] [])]) [] [])]))]]),some (1,List.map byteRow v1)]) ⟨[.old 0,.old 1],cv j0 (.mpt j0)<|cv j0 (.msl j0)<|cn,j0,⟨⟨_,j0,rsOne ⟨ci j0,ci j0,ci j0,ci j0,ci j0,ci j0,j5⟩⟩,⟨_,j0,rsMap (fun _=>j0)⟩,j5⟩,j0,j1⟩<|u<|asg j0<|r_nil ?_
 obtain ⟨v2,q2,h⟩:=bs h
 refine rg j0<|u<|mv j0<|r_can (env0:=[(1,.mpt 0 0 0),(2,.isl 1 (List.map byteRow v1)),(11,.isl 1 (List.map byteRow v1))]) (st0:=[some (6,[[sA [65,98],sA [79,98,106,101,99,116],bA false,.lit (.slice none 0 0),.isl 3 (List.map rApiField ([(ApiField.mk [120] [73] false)])),.isl 10 (List.map rApiMethod ([(ApiMethod.mk [109,97,105,110] [] [86] true false 0 0 ([(ApiIns.mk 46 0 [] [])]) [] [])]))]])]) ⟨[.old 0],cv j0 (.mpt j0)<|cv j0 (rsSeal j0 j0 (fun _=>j0))<|cv j0 (rsSeal j0 j0 (fun _=>j0))<|cn,j0,⟨⟨_,j0,rsOne ⟨ci j0,ci j0,ci j0,ci j0,ci j0,ci j0,j5⟩⟩,j5⟩,j0,j1⟩<|u<|pc (file_Decode_ok v1 q2) j0 j0 j0<|u<|mv j0<|u<|ex j0 j0<|u<|ex j0 j0<|u<|al 1 ti28 j0<|u<|sto ti28 j0 j0 j0<|u<|asg j0<|r_nil ?_
 obtain ⟨v3,q3,h⟩:=bs h
 refine rg j0<|u<|pcn (file_Decode_ok [] q3) j0 j0 ⟨(nlN),j5⟩<|u<|mv j0<|u<|ex j0 j0<|u<|ex j0 j0<|u<|al 2 ti28 j0<|u<|sto ti28 j0 j0 j0<|u<|asg j0<|r_nil ?_
 obtain ⟨v4,q4,h⟩:=bs h
 obtain ⟨v6,q8,h⟩:=bs h
 obtain ⟨v8,q12,h⟩:=bs h
 obtain ⟨v10,q16,h⟩:=bs h
 refine rg j0<|u<|pc (law5_Begun_ok q4) j0 j0 j0<|u<|mv j0<|r_and (j:=1) 3 j0 j0 j0 j0 j0 gpn (fun hb5=>g j0 hb5<|mv j0<|g j0 hb5<|lnI ti43 j0 j0<|g j0 hb5<|gtr ti3 j0 j0<|r_nil (egA [21,22,23] 3 hb5 j0 j0 j0 j0)) andF<|u<|mv j0<|r_and (x:=v6) (j:=6) 4 j0 j0 j0 j0 j0 gpn (fun hb6=>by replace q8:=bT hb6 q8; obtain ⟨v5,q7,q8⟩:=bs q8; obtain rfl:=sm q8; exact g j0 hb6<|mv j0<|g j0 hb6<|ixI ti43 j0 ti5 j0 j0 j0 q7<|g j0 hb6<|ldI ti5 j0 (idx_some q7).2.2 j0<|g j0 hb6<|eql ti5 j0 j0<|r_nil (eg [26,27,28,29] 4 j0 j0 j0 j0)) (fun hb=>(sm (bF hb q8)).symm)<|u<|mv j0<|r_and (j:=12) 2 j0 j0 j0 j0 j0 gpn (fun hb9=>g j0 hb9<|mv j0<|g j0 hb9<|eql ti45 j0 j0<|r_nil (egA [32,33] 2 hb9 j0 j0 j0 j0)) andF<|u<|mv j0<|r_and (x:=v8) (j:=16) 3 j0 j0 j0 j0 j0 gpn (fun hb10=>by replace q12:=bT hb10 q12; obtain ⟨v7,q11,q12⟩:=bs q12; obtain rfl:=sm q12; exact g j0 hb10<|ld ti28 j0 j0<|g j0 hb10<|ld ti28 j0 j0<|g j0 hb10<|pcs (ref3_EqClass_ok (ApiClass.mk [65,98] [79,98,106,101,99,116] false [] ([(ApiField.mk [120] [73] false)]) ([(ApiMethod.mk [109,97,105,110] [] [86] true false 0 0 ([(ApiIns.mk 46 0 [] [])]) [] [])])) v2.1 q11) j0 j0 (.cons (sealAgg ⟨(si j0),(si j0),(si j0),(.nil),(si j0),(si j0),j5⟩) (.cons (si j0) .nil)) plainB<|r_nil (eg [36,37,38] 3 j0 j0 j0 j0)) (fun hb=>(sm (bF hb q12)).symm)<|u<|mv j0<|r_and (j:=21) 2 j0 j0 j0 j0 j0 gpn (fun hb13=>g j0 hb13<|mv j0<|g j0 hb13<|eql ti45 j0 j0<|r_nil (egA [41,42] 2 hb13 j0 j0 j0 j0)) andF<|u<|mv j0<|r_andX (x:=v10) (j:=25) 4 1 j0 j0 j0 j0 j0 gpn (fun hb14=>by replace q16:=bT hb14 q16; obtain ⟨v9,q15,q16⟩:=bs q16; obtain rfl:=sm q16; exact g j0 hb14<|bd ti28 j0 j0 j0<|g j0 hb14<|sc [] (file_Encode_ok (ApiClass.mk [] [] false [] [] []) q15) j0 j0 j0 j0 ⟨(rnAgg ⟨(rnI j0),(rnI j0),(rnI j0),(.nilI),(.nilI),(.nilI),j5⟩),j5⟩ j5<|g j0 hb14<|lnM ti43 j0 j0 j0<|g j0 hb14<|eql ti3 j0 j0<|r_nil (xg [45,46,47,48] 4 j0 j0 j0 j0 j0 j0)) (fun hb=>(sm (bF hb q16)).symm)<|u<|asg j0<|r_nil ?_
 refine sw_ret ?_
 obtain rfl:=sm h
 exact ⟨_,j0,[],ci j0,j0,j5,j0,j1⟩
def law5_texts_k2 (v13 : List (List UInt8)) : Option ((List (List UInt8))) :=
  some v13
def law5_texts_l1 (v1 : List (List UInt8)) (v2 : Int) (v8 : List (List UInt8)) (v9 : Int) : Option (Sum ((List (List UInt8)) × Int) (Sum ((List (List UInt8))) ((List (List UInt8))))) :=
  cond ((decide (v9 < (List.length v1 : Int))) && (decide (v9 < v2))) ((idx v1 v9).bind fun v10=>(law1_Cut v10 12).bind fun v11=>(appP 16 v8 [v11]).bind fun v12=>some (.inl (v12,(IntKind.i64.wrap (v9 + 1))))) (some (.inr (.inl v8)))
def law5_texts (v1 : List (List UInt8)) (v2 : Int) : Option ((List (List UInt8))) :=
  (loopP (fun z=>law5_texts_l1 v1 v2 z.1 z.2) ([],0)).bind fun o=>leave o (fun b=>law5_texts_k2 b) some
theorem law5_texts_ok (v1 : List (List UInt8)) (v2 : Int) {r : (List (List UInt8))} (h : law5_texts v1 v2 = some r) : PureC Tryz.prog 45 [.isl 1 (List.map rStr v1),iA v2] (.isl 1 (List.map rStr r)):=by
 refine pure_fn Tryz.func45 j0 (by kernel_rfl) j0 j0 ?_
 unfold law5_texts at h
 refine rg j0<|u<|asg j0<|r_nil ?_
 refine rg j0<|u<|asg j0<|r_nil ?_
 refine sw_seq ?_
 refine rg j0<|u<|asg j0<|r_nil ?_
 obtain ⟨o,ho,h⟩:=bs h
 refine sw_lpl (X:=(List (List UInt8)) × Int) (B:=(List (List UInt8))) (R:=(List (List UInt8))) (fun z=>[(0,.isl 1 (List.map rStr v1)),(1,iA v2),(5,.msl 0 0 (List.length z.1)),(6,iA z.2)]) (fun z=>[some (1,List.map rStr z.1)]) (fun b=>[(5,.msl 0 0 (List.length b))]) (fun b=>[some (1,List.map rStr b)]) (fun r env st=>PostF Tryz.prog Tryz.f45 0 (.isl 1 (List.map rStr r)) [] env st) ho ⟨[.fresh 1],ce j0 j0<|ce j0 j0<|cv j0 (.nilown j0)<|ce j0 j0<|cn,j0,⟨j4,j5⟩,j0,j1⟩ ?_ ?_ ?_
 ·
  rintro ⟨v8,v9⟩ r h
  replace h : law5_texts_l1 v1 v2 v8 v9 = some r:=h
  unfold law5_texts_l1 at h
  refine sw_seq ?_
  refine rg j0<|u<|mv j0<|u<|mv j0<|u<|lnI ti24 j0 j0<|u<|lss ti3 j0 j0<|u<|mv j0<|r_and (j:=4) 3 j0 j0 j0 j0 j0 gpn (fun hb6=>g j0 hb6<|mv j0<|g j0 hb6<|mv j0<|g j0 hb6<|lss ti3 j0 j0<|r_nil (egA [12,13,14] 3 hb6 j0 j0 j0 j0)) andF<|r_nil ?_
  refine sw_cond j0 (fun hc7=>?_) (fun hc7=>?_)
  ·
   replace h:=bT hc7 h
   refine sw_skip ?_
   refine sw_seq ?_
   refine sw_block ?_
   obtain ⟨v10,q8,h⟩:=bs h
   obtain ⟨v11,q9,h⟩:=bs h
   obtain ⟨v12,q10,h⟩:=bs h
   refine rl j0<|u<|mv j0<|u<|mv j0<|u<|mv j0<|u<|ixI ti24 j0 ti9 j0 j0 j0 q8<|u<|ldI ti9 j0 (idx_some q8).2.2 j0<|u<|pc (law1_Cut_ok v10 12 q9) j0 j0 j0<|u<|bl 1 ti24 j0 ti9 j0 (by decide) (by decide) j0 j0 j0<|u<|apM 2 ti24 j0 ti9 j0 j0 (by decide) ti24 j0 j0 j0 j0 (roX (f:=rStr) (z:=[v11]) j0 j0) (fun _=>j0) j0 q10<|u<|asg j0<|r_nil ?_
   refine rl j0<|u<|mv j0<|u<|add ti3 j0 j0<|u<|asg j0<|r_nil ?_
   obtain rfl:=sm h
   exact ⟨_,j0,[.old 2],ce j0 j0<|ce j0 j0<|cv j0 (.msl j0)<|ce j0 j0<|cn,j0,⟨⟨_,j0,rsMap (fun _=>j0)⟩,j5⟩,j0,j1⟩
  ·
   replace h:=bF hc7 h
   refine sw_exit ?_
   obtain rfl:=sm h
   exact ⟨j0,_,j0,[.old 0],cv j0 (.msl j0)<|cn,j0,⟨⟨_,j0,rsMap (fun _=>j0)⟩,j5⟩,j0,j1⟩
 ·
  rintro v13 rfl
  replace h : law5_texts_k2 v13 = some r:=h
  unfold law5_texts_k2 at h
  refine ow_intro ?_
  refine rg j0<|u<|mv j0<|u<|asg j0<|r_nil ?_
  refine sw_ret ?_
  obtain rfl:=sm h
  exact ⟨_,j0,[],rsSeal j0 j0 (fun _=>j0),j0,j5,j0,j1⟩
 ·
  rintro r' rfl env st hp
  obtain rfl:=sm h
  exact hp
def law5_method_k6 (v1 : ApiMethod) (v2 : (List UInt8)) (v3 : (List (List UInt8))) (v4 : (List UInt8)) (v15 : List ApiIns) (v32 : List ApiMap) (v43 : List ApiTrap) : Option (ApiMethod) :=
  some (ApiMethod.mk v2 v3 v4 v1.Static v1.Abstract v1.Locals v1.Stack v15 v32 v43)
def law5_method_l5 (v1 : ApiMethod) (v38 : List ApiTrap) (v39 : Int) : Option (Sum ((List ApiTrap) × Int) (Sum ((List ApiTrap)) (ApiMethod))) :=
  cond ((decide (v39 < (List.length v1.Traps : Int))) && (decide (v39 < 8))) ((idx v1.Traps v39).bind fun v40=>(law1_Cut v40.C 10).bind fun v41=>(appP 40 v38 [(ApiTrap.mk v40.From v40.To v40.At v41)]).bind fun v42=>some (.inl (v42,(IntKind.i64.wrap (v39 + 1))))) (some (.inr (.inl v38)))
def law5_method_k4 (v1 : ApiMethod) (v2 : (List UInt8)) (v3 : (List (List UInt8))) (v4 : (List UInt8)) (v15 : List ApiIns) (v32 : List ApiMap) : Option (ApiMethod) :=
  (loopP (fun z=>law5_method_l5 v1 z.1 z.2) ([],0)).bind fun o=>leave o (fun b=>law5_method_k6 v1 v2 v3 v4 v15 v32 b) some
def law5_method_l3 (v1 : ApiMethod) (v24 : List ApiMap) (v25 : Int) : Option (Sum ((List ApiMap) × Int) (Sum ((List ApiMap)) (ApiMethod))) :=
  cond ((decide (v25 < (List.length v1.Maps : Int))) && (decide (v25 < 104))) ((idx v1.Maps v25).bind fun v26=>(idx v1.Maps v25).bind fun v27=>(law5_texts v27.Locals 20).bind fun v28=>(idx v1.Maps v25).bind fun v29=>(law5_texts v29.Stack 20).bind fun v30=>(appP 56 v24 [(ApiMap.mk v26.At v28 v30)]).bind fun v31=>some (.inl (v31,(IntKind.i64.wrap (v25 + 1))))) (some (.inr (.inl v24)))
def law5_method_k2 (v1 : ApiMethod) (v2 : (List UInt8)) (v3 : (List (List UInt8))) (v4 : (List UInt8)) (v15 : List ApiIns) : Option (ApiMethod) :=
  (loopP (fun z=>law5_method_l3 v1 z.1 z.2) ([],0)).bind fun o=>leave o (fun b=>law5_method_k4 v1 v2 v3 v4 v15 b) some
def law5_method_l1 (v1 : ApiMethod) (v10 : List ApiIns) (v11 : Int) : Option (Sum ((List ApiIns) × Int) (Sum ((List ApiIns)) (ApiMethod))) :=
  cond ((decide (v11 < (List.length v1.Code : Int))) && (decide (v11 < 104))) ((idx v1.Code v11).bind fun v12=>(law4_Cut v12).bind fun v13=>(appP 48 v10 [v13]).bind fun v14=>some (.inl (v14,(IntKind.i64.wrap (v11 + 1))))) (some (.inr (.inl v10)))
def law5_method (v1 : ApiMethod) : Option (ApiMethod) :=
  (law1_Cut v1.Name 10).bind fun v2=>(law5_texts v1.Params 8).bind fun v3=>(law1_Cut v1.Ret 12).bind fun v4=>(loopP (fun z=>law5_method_l1 v1 z.1 z.2) ([],0)).bind fun o=>leave o (fun b=>law5_method_k2 v1 v2 v3 v4 b) some
theorem law5_method_ok (v1 : ApiMethod) {r : ApiMethod} (h : law5_method v1 = some r) : PureC Tryz.prog 46 [.agg [sA v1.Name,.isl 1 (List.map rStr v1.Params),sA v1.Ret,bA v1.Static,bA v1.Abstract,iA v1.Locals,iA v1.Stack,.isl 4 (List.map rApiIns v1.Code),.isl 3 (List.map rApiMap v1.Maps),.isl 4 (List.map rApiTrap v1.Traps)]] (.agg [sA r.Name,.isl 1 (List.map rStr r.Params),sA r.Ret,bA r.Static,bA r.Abstract,iA r.Locals,iA r.Stack,.isl 4 (List.map rApiIns r.Code),.isl 3 (List.map rApiMap r.Maps),.isl 4 (List.map rApiTrap r.Traps)]):=by
 refine pure_fn Tryz.func46 j0 (by kernel_rfl) j0 j0 ?_
 unfold law5_method at h
 refine rg j0<|u<|bx 0 10 j0 j0 j0 j0<|u<|al 1 ti35 j0<|r_nil ?_
 obtain ⟨v2,q1,h⟩:=bs h
 obtain ⟨v3,q2,h⟩:=bs h
 obtain ⟨v4,q3,h⟩:=bs h
 refine rd [(1,.mpt 0 0 0),(2,.mpt 1 0 0),(3,.mpt 2 0 0)] [some (10,[[sA v1.Name,.isl 1 (List.map rStr v1.Params),sA v1.Ret,bA v1.Static,bA v1.Abstract,iA v1.Locals,iA v1.Stack,.isl 4 (List.map rApiIns v1.Code),.isl 3 (List.map rApiMap v1.Maps),.isl 4 (List.map rApiTrap v1.Traps)]]),some (10,[[sA [],.lit (.slice none 0 0),sA [],bA false,bA false,iA 0,iA 0,.lit (.slice none 0 0),.lit (.slice none 0 0),.lit (.slice none 0 0)]]),some (10,[[sA v2,.isl 1 (List.map rStr v3),sA v4,bA v1.Static,bA v1.Abstract,iA v1.Locals,iA v1.Stack,.lit (.slice none 0 0),.lit (.slice none 0 0),.lit (.slice none 0 0)]])] [18,19] [17,16,15,14,13,12,11,10,9,8,7,6,5,4,3,2,1,0] [(25,.agg [sA v2,.isl 1 (List.map rStr v3),sA v4,bA v1.Static,bA v1.Abstract,iA v1.Locals,iA v1.Stack,.lit (.slice none 0 0),.lit (.slice none 0 0),.lit (.slice none 0 0)]),(24,iA v1.Stack),(23,.mpt 0 0 6),(22,iA v1.Locals),(21,.mpt 0 0 5),(20,bA v1.Abstract),(19,.mpt 0 0 4),(18,bA v1.Static),(17,.mpt 0 0 3),(16,sA v4),(15,sA v1.Ret),(14,.mpt 0 0 2),(13,.isl 1 (List.map rStr v3)),(12,.isl 1 (List.map rStr v1.Params)),(11,.mpt 0 0 1),(10,sA v2),(9,sA v1.Name),(8,.mpt 0 0 0)] 2 (by kernel_rfl) (by kernel_rfl) j0 (by kernel_rfl) (dtS ⟨(fun _=>pa j0 j0 j0 j0 (bd ti35 j0 j0 j0<|j4)),(fun _=>pa j0 j0 j0 j0 (ld ti3 j0 j0<|j4)),(fun _=>pa j0 j0 j0 j0 (fa ti35 j0 j0 j0<|j4)),(fun _=>pa j0 j0 j0 j0 (ld ti3 j0 j0<|j4)),(fun _=>pa j0 j0 j0 j0 (fa ti35 j0 j0 j0<|j4)),(fun _=>pa j0 j0 j0 j0 (ld ti4 j0 j0<|j4)),(fun _=>pa j0 j0 j0 j0 (fa ti35 j0 j0 j0<|j4)),(fun _=>pa j0 j0 j0 j0 (ld ti4 j0 j0<|j4)),(fun _=>pa j0 j0 j0 j0 (fa ti35 j0 j0 j0<|j4)),(fun _=>pa j0 j0 j0 j0 (pc (law1_Cut_ok v1.Ret 12 q3) j0 j0 j0<|j4)),(fun _=>pa j0 j0 j0 j0 (ld ti9 j0 j0<|j4)),(fun _=>pa j0 j0 j0 j0 (fa ti35 j0 j0 j0<|j4)),(fun _=>pa j0 j0 j0 j0 (pc (law5_texts_ok v1.Params 8 q2) j0 j0 j0<|j4)),(fun _=>pa j0 j0 j0 j0 (ld ti24 j0 j0<|j4)),(fun _=>pa j0 j0 j0 j0 (fa ti35 j0 j0 j0<|j4)),(fun _=>pa j0 j0 j0 j0 (pc (law1_Cut_ok v1.Name 10 q1) j0 j0 j0<|j4)),(fun _=>pa j0 j0 j0 j0 (ld ti9 j0 j0<|j4)),(fun _=>pa j0 j0 j0 j0 (fa ti35 j0 j0 j0<|j4)),j5⟩ (by kernel_rfl) j0 ⟨(fun _ _=>⟨_,j0,j0,al 2 ti35 j0<|⟨(.mpt 2 0 0),[],[(3,.mpt 2 0 0)],j0,j0,by kernel_rfl,j0,dtS ⟨(fun _=>pa j0 j0 j0 j0 (bd ti35 j0 j0 j0<|j4)),(fun _=>pa j0 j0 j0 j0 (ld ti3 j0 j0<|j4)),(fun _=>pa j0 j0 j0 j0 (fa ti35 j0 j0 j0<|j4)),(fun _=>pa j0 j0 j0 j0 (ld ti3 j0 j0<|j4)),(fun _=>pa j0 j0 j0 j0 (fa ti35 j0 j0 j0<|j4)),(fun _=>pa j0 j0 j0 j0 (ld ti4 j0 j0<|j4)),(fun _=>pa j0 j0 j0 j0 (fa ti35 j0 j0 j0<|j4)),(fun _=>pa j0 j0 j0 j0 (ld ti4 j0 j0<|j4)),(fun _=>pa j0 j0 j0 j0 (fa ti35 j0 j0 j0<|j4)),(fun _=>pa j0 j0 j0 j0 (pc (law1_Cut_ok v1.Ret 12 q3) j0 j0 j0<|j4)),(fun _=>pa j0 j0 j0 j0 (ld ti9 j0 j0<|j4)),(fun _=>pa j0 j0 j0 j0 (fa ti35 j0 j0 j0<|j4)),(fun _=>pa j0 j0 j0 j0 (pc (law5_texts_ok v1.Params 8 q2) j0 j0 j0<|j4)),(fun _=>pa j0 j0 j0 j0 (ld ti24 j0 j0<|j4)),(fun _=>pa j0 j0 j0 j0 (fa ti35 j0 j0 j0<|j4)),(fun _=>pa j0 j0 j0 j0 (pc (law1_Cut_ok v1.Name 10 q1) j0 j0 j0<|j4)),(fun _=>pa j0 j0 j0 j0 (ld ti9 j0 j0<|j4)),(fun _=>pa j0 j0 j0 j0 (fa ti35 j0 j0 j0<|j4)),j5⟩ (by kernel_rfl) j0 ⟨(fun h=>by cases h),(fun _ _=>⟨_,j0,j0,sto ti35 j0 j0 j0<|⟨.any,[],[],j0,j0,by kernel_rfl,j5,dt0 ⟨(fun h=>by cases h),(fun h=>by cases h),(fun h=>by cases h),(fun h=>by cases h),(fun h=>by cases h),(fun h=>by cases h),(fun h=>by cases h),(fun h=>by cases h),(fun h=>by cases h),(fun h=>by cases h),(fun h=>by cases h),(fun h=>by cases h),(fun h=>by cases h),(fun h=>by cases h),(fun h=>by cases h),(fun h=>by cases h),(fun h=>by cases h),(fun h=>by cases h),j5⟩ (by kernel_rfl) j0 ⟨[.old 0,.old 1,.old 2],cv j0 (.mpt j0)<|cv j0 (.mpt j0)<|cv j0 (.mpt j0)<|cn,j0,⟨⟨_,j0,rsOne ⟨ci j0,ci j0,ci j0,ci j0,ci j0,ci j0,ci j0,ci j0,ci j0,ci j0,j5⟩⟩,⟨_,j0,rsOne ⟨ci j0,ci j0,ci j0,ci j0,ci j0,ci j0,ci j0,ci j0,ci j0,ci j0,j5⟩⟩,⟨_,j0,rsOne ⟨ci j0,ci j0,ci j0,ci j0,ci j0,ci j0,ci j0,ci j0,ci j0,ci j0,j5⟩⟩,j5⟩,j0,j1⟩⟩⟩),j5⟩⟩⟩),(fun _ h=>by cases h),j5⟩) ?_
 refine sw_seq ?_
 refine rg j0<|u<|asg j0<|r_nil ?_
 obtain ⟨o,ho,h⟩:=bs h
 refine sw_lpl (X:=(List ApiIns) × Int) (B:=(List ApiIns)) (R:=ApiMethod) (fun z=>[(1,.mpt 0 0 0),(2,.mpt 1 0 0),(3,.mpt 2 0 0),(4,iA z.2)]) (fun z=>[some (10,[[sA v1.Name,.isl 1 (List.map rStr v1.Params),sA v1.Ret,bA v1.Static,bA v1.Abstract,iA v1.Locals,iA v1.Stack,.isl 4 (List.map rApiIns v1.Code),.isl 3 (List.map rApiMap v1.Maps),.isl 4 (List.map rApiTrap v1.Traps)]]),some (10,[[sA [],.lit (.slice none 0 0),sA [],bA false,bA false,iA 0,iA 0,.lit (.slice none 0 0),.lit (.slice none 0 0),.lit (.slice none 0 0)]]),some (10,[[sA v2,.isl 1 (List.map rStr v3),sA v4,bA v1.Static,bA v1.Abstract,iA v1.Locals,iA v1.Stack,.msl 3 0 (List.length z.1),.lit (.slice none 0 0),.lit (.slice none 0 0)]]),some (4,List.map rApiIns z.1)]) (fun b=>[(1,.mpt 0 0 0),(2,.mpt 1 0 0),(3,.mpt 2 0 0)]) (fun b=>[some (10,[[sA v1.Name,.isl 1 (List.map rStr v1.Params),sA v1.Ret,bA v1.Static,bA v1.Abstract,iA v1.Locals,iA v1.Stack,.isl 4 (List.map rApiIns v1.Code),.isl 3 (List.map rApiMap v1.Maps),.isl 4 (List.map rApiTrap v1.Traps)]]),some (10,[[sA [],.lit (.slice none 0 0),sA [],bA false,bA false,iA 0,iA 0,.lit (.slice none 0 0),.lit (.slice none 0 0),.lit (.slice none 0 0)]]),some (10,[[sA v2,.isl 1 (List.map rStr v3),sA v4,bA v1.Static,bA v1.Abstract,iA v1.Locals,iA v1.Stack,.msl 3 0 (List.length b),.lit (.slice none 0 0),.lit (.slice none 0 0)]]),some (4,List.map rApiIns b)]) (fun r env st=>PostF Tryz.prog Tryz.f46 0 (.agg [sA r.Name,.isl 1 (List.map rStr r.Params),sA r.Ret,bA r.Static,bA r.Abstract,iA r.Locals,iA r.Stack,.isl 4 (List.map rApiIns r.Code),.isl 3 (List.map rApiMap r.Maps),.isl 4 (List.map rApiTrap r.Traps)]) [] env st) ho ⟨[.old 0,.old 1,.old 2,.fresh 4],cv j0 (.mpt j0)<|cv j0 (.mpt j0)<|cv j0 (.mpt j0)<|ce j0 j0<|cn,j0,⟨⟨_,j0,rsOne ⟨ci j0,ci j0,ci j0,ci j0,ci j0,ci j0,ci j0,ci j0,ci j0,ci j0,j5⟩⟩,⟨_,j0,rsOne ⟨ci j0,ci j0,ci j0,ci j0,ci j0,ci j0,ci j0,ci j0,ci j0,ci j0,j5⟩⟩,⟨_,j0,rsOne ⟨ci j0,ci j0,ci j0,ci j0,ci j0,ci j0,ci j0,.nilown j0,ci j0,ci j0,j5⟩⟩,j4,j5⟩,j0,j1⟩ ?_ ?_ ?_
 ·
  rintro ⟨v10,v11⟩ r h
  replace h : law5_method_l1 v1 v10 v11 = some r:=h
  unfold law5_method_l1 at h
  refine sw_seq ?_
  refine rg j0<|u<|mv j0<|u<|fa ti35 j0 j0 j0<|u<|ld ti31 j0 j0<|u<|lnI ti31 j0 j0<|u<|lss ti3 j0 j0<|u<|mv j0<|r_and (j:=5) 2 j0 j0 j0 j0 j0 gpn (fun hb9=>g j0 hb9<|mv j0<|g j0 hb9<|lss ti3 j0 j0<|r_nil (egA [32,33] 2 hb9 j0 j0 j0 j0)) andF<|r_nil ?_
  refine sw_cond j0 (fun hc10=>?_) (fun hc10=>?_)
  ·
   replace h:=bT hc10 h
   refine sw_skip ?_
   refine sw_seq ?_
   refine sw_block ?_
   obtain ⟨v12,q11,h⟩:=bs h
   obtain ⟨v13,q12,h⟩:=bs h
   obtain ⟨v14,q13,h⟩:=bs h
   refine rdL [(1,.mpt 0 0 0),(2,.mpt 1 0 0),(3,.mpt 2 0 0),(4,iA v11)] [some (10,[[sA v1.Name,.isl 1 (List.map rStr v1.Params),sA v1.Ret,bA v1.Static,bA v1.Abstract,iA v1.Locals,iA v1.Stack,.isl 4 (List.map rApiIns v1.Code),.isl 3 (List.map rApiMap v1.Maps),.isl 4 (List.map rApiTrap v1.Traps)]]),some (10,[[sA [],.lit (.slice none 0 0),sA [],bA false,bA false,iA 0,iA 0,.lit (.slice none 0 0),.lit (.slice none 0 0),.lit (.slice none 0 0)]]),some (10,[[sA v2,.isl 1 (List.map rStr v3),sA v4,bA v1.Static,bA v1.Abstract,iA v1.Locals,iA v1.Stack,.msl 3 0 (List.length v14),.lit (.slice none 0 0),.lit (.slice none 0 0)]]),some (4,List.map rApiIns v14)] [8,9,11] [7,6,5,4,3,2,1,0] [(44,.agg [iA v13.Op,iA v13.A,sA v13.C,sA v13.M]),(43,.agg [iA v12.Op,iA v12.A,sA v12.C,sA v12.M]),(42,.ipt 4 (List.map rApiIns v1.Code) (Int.toNat v11) 0),(41,iA v11),(40,.isl 4 (List.map rApiIns v1.Code)),(39,.mpt 0 0 7),(38,.msl 3 0 (List.length v10)),(37,.mpt 2 0 7)] 3 (by kernel_rfl) (by kernel_rfl) j0 (by kernel_rfl) (dtS ⟨(fun _=>pa j0 j0 j0 j0 (pc (law4_Cut_ok v12 q12) j0 j0 j0<|j4)),(fun _=>pa j0 j0 j0 j0 (ldI ti37 j0 (idx_some q11).2.2 j0<|j4)),(fun _=>pa j0 j0 j0 j0 (ixI ti31 j0 ti37 j0 j0 j0 q11<|j4)),(fun _=>pa j0 j0 j0 j0 (mv j0<|j4)),(fun _=>pa j0 j0 j0 j0 (ld ti31 j0 j0<|j4)),(fun _=>pa j0 j0 j0 j0 (fa ti35 j0 j0 j0<|j4)),(fun _=>pa j0 j0 j0 j0 (ld ti31 j0 j0<|j4)),(fun _=>pa j0 j0 j0 j0 (fa ti35 j0 j0 j0<|j4)),j5⟩ (by kernel_rfl) j0 ⟨(fun _ _=>⟨_,j0,j0,bl 4 ti31 j0 ti37 j0 (by decide) (by decide) j0 j0 j0<|⟨(.msl 4 0 1),[],[(45,.msl 4 0 1)],j0,j0,by kernel_rfl,j0,dtS ⟨(fun h=>by cases h),(fun _=>pa j0 j0 j0 j0 (ldI ti37 j0 (idx_some q11).2.2 j0<|j4)),(fun _=>pa j0 j0 j0 j0 (ixI ti31 j0 ti37 j0 j0 j0 q11<|j4)),(fun _=>pa j0 j0 j0 j0 (mv j0<|j4)),(fun _=>pa j0 j0 j0 j0 (ld ti31 j0 j0<|j4)),(fun _=>pa j0 j0 j0 j0 (fa ti35 j0 j0 j0<|j4)),(fun _=>pa j0 j0 j0 j0 (ld ti31 j0 j0<|j4)),(fun _=>pa j0 j0 j0 j0 (fa ti35 j0 j0 j0<|j4)),j5⟩ (by kernel_rfl) j0 ⟨(fun h=>by cases h),(fun _ _=>⟨_,j0,j0,apM 5 ti31 j0 ti37 j0 j0 (by decide) ti31 j0 j0 j0 j0 (roX (f:=rApiIns) (z:=[v13]) j0 j0) (fun _=>j0) j0 q13<|⟨(.msl 5 0 (List.length v14)),[10],[(47,.mpt 2 0 7),(46,.msl 5 0 (List.length v14))],j0,j0,by kernel_rfl,j0,dtS ⟨(fun _=>pa j0 j0 j0 j0 (fa ti35 j0 j0 j0<|j4)),(fun h=>by cases h),(fun _=>pa j0 j0 j0 j0 (ldI ti37 j0 (idx_some q11).2.2 j0<|j4)),(fun _=>pa j0 j0 j0 j0 (ixI ti31 j0 ti37 j0 j0 j0 q11<|j4)),(fun _=>pa j0 j0 j0 j0 (mv j0<|j4)),(fun _=>pa j0 j0 j0 j0 (ld ti31 j0 j0<|j4)),(fun _=>pa j0 j0 j0 j0 (fa ti35 j0 j0 j0<|j4)),(fun h=>by cases h),(fun _=>pa j0 j0 j0 j0 (fa ti35 j0 j0 j0<|j4)),j5⟩ (by kernel_rfl) j0 ⟨(fun h=>by cases h),(fun h=>by cases h),(fun _ _=>⟨_,j0,j0,sto ti31 j0 j0 j0<|⟨.any,[],[],j0,j0,by kernel_rfl,j5,dt0 ⟨(fun h=>by cases h),(fun h=>by cases h),(fun h=>by cases h),(fun h=>by cases h),(fun h=>by cases h),(fun h=>by cases h),(fun h=>by cases h),(fun h=>by cases h),(fun h=>by cases h),j5⟩ (by kernel_rfl) j0 ⟨[.old 0,.old 1,.old 2,.old 5],cv j0 (.mpt j0)<|cv j0 (.mpt j0)<|cv j0 (.mpt j0)<|ce j0 j0<|cn,j0,⟨⟨_,j0,rsOne ⟨ci j0,ci j0,ci j0,ci j0,ci j0,ci j0,ci j0,ci j0,ci j0,ci j0,j5⟩⟩,⟨_,j0,rsOne ⟨ci j0,ci j0,ci j0,ci j0,ci j0,ci j0,ci j0,ci j0,ci j0,ci j0,j5⟩⟩,⟨_,j0,rsOne ⟨ci j0,ci j0,ci j0,ci j0,ci j0,ci j0,ci j0,.msl j0,ci j0,ci j0,j5⟩⟩,⟨_,j0,rsMap (fun _=>j0)⟩,j5⟩,j0,j1⟩⟩⟩),j5⟩⟩⟩),(fun _ h=>by cases h),j5⟩⟩⟩),(fun _ h=>by cases h),(fun _ h=>by cases h),j5⟩) ?_
   refine rl j0<|u<|mv j0<|u<|add ti3 j0 j0<|u<|asg j0<|r_nil ?_
   obtain rfl:=sm h
   exact ⟨_,j0,[.old 0,.old 1,.old 2,.old 3],cv j0 (.mpt j0)<|cv j0 (.mpt j0)<|cv j0 (.mpt j0)<|ce j0 j0<|cn,j0,⟨⟨_,j0,rsOne ⟨ci j0,ci j0,ci j0,ci j0,ci j0,ci j0,ci j0,ci j0,ci j0,ci j0,j5⟩⟩,⟨_,j0,rsOne ⟨ci j0,ci j0,ci j0,ci j0,ci j0,ci j0,ci j0,ci j0,ci j0,ci j0,j5⟩⟩,⟨_,j0,rsOne ⟨ci j0,ci j0,ci j0,ci j0,ci j0,ci j0,ci j0,.msl j0,ci j0,ci j0,j5⟩⟩,⟨_,j0,rsMap (fun _=>j0)⟩,j5⟩,j0,j1⟩
  ·
   replace h:=bF hc10 h
   refine sw_exit ?_
   obtain rfl:=sm h
   exact ⟨j0,_,j0,[.old 0,.old 1,.old 2,.old 3],cv j0 (.mpt j0)<|cv j0 (.mpt j0)<|cv j0 (.mpt j0)<|cn,j0,⟨⟨_,j0,rsOne ⟨ci j0,ci j0,ci j0,ci j0,ci j0,ci j0,ci j0,ci j0,ci j0,ci j0,j5⟩⟩,⟨_,j0,rsOne ⟨ci j0,ci j0,ci j0,ci j0,ci j0,ci j0,ci j0,ci j0,ci j0,ci j0,j5⟩⟩,⟨_,j0,rsOne ⟨ci j0,ci j0,ci j0,ci j0,ci j0,ci j0,ci j0,.msl j0,ci j0,ci j0,j5⟩⟩,⟨_,j0,rsMap (fun _=>j0)⟩,j5⟩,j0,j1⟩
 ·
  rintro v15 rfl
  replace h : law5_method_k2 v1 v2 v3 v4 v15 = some r:=h
  unfold law5_method_k2 at h
  refine ow_intro ?_
  refine sw_seq ?_
  refine rg j0<|u<|asg j0<|r_nil ?_
  obtain ⟨o,ho,h⟩:=bs h
  refine sw_lpl (X:=(List ApiMap) × Int) (B:=(List ApiMap)) (R:=ApiMethod) (fun z=>[(1,.mpt 0 0 0),(2,.mpt 1 0 0),(3,.mpt 2 0 0),(5,iA z.2)]) (fun z=>[some (10,[[sA v1.Name,.isl 1 (List.map rStr v1.Params),sA v1.Ret,bA v1.Static,bA v1.Abstract,iA v1.Locals,iA v1.Stack,.isl 4 (List.map rApiIns v1.Code),.isl 3 (List.map rApiMap v1.Maps),.isl 4 (List.map rApiTrap v1.Traps)]]),some (10,[[sA [],.lit (.slice none 0 0),sA [],bA false,bA false,iA 0,iA 0,.lit (.slice none 0 0),.lit (.slice none 0 0),.lit (.slice none 0 0)]]),some (10,[[sA v2,.isl 1 (List.map rStr v3),sA v4,bA v1.Static,bA v1.Abstract,iA v1.Locals,iA v1.Stack,.msl 3 0 (List.length v15),.msl 4 0 (List.length z.1),.lit (.slice none 0 0)]]),some (4,List.map rApiIns v15),some (3,List.map rApiMap z.1)]) (fun b=>[(1,.mpt 0 0 0),(2,.mpt 1 0 0),(3,.mpt 2 0 0)]) (fun b=>[some (10,[[sA v1.Name,.isl 1 (List.map rStr v1.Params),sA v1.Ret,bA v1.Static,bA v1.Abstract,iA v1.Locals,iA v1.Stack,.isl 4 (List.map rApiIns v1.Code),.isl 3 (List.map rApiMap v1.Maps),.isl 4 (List.map rApiTrap v1.Traps)]]),some (10,[[sA [],.lit (.slice none 0 0),sA [],bA false,bA false,iA 0,iA 0,.lit (.slice none 0 0),.lit (.slice none 0 0),.lit (.slice none 0 0)]]),some (10,[[sA v2,.isl 1 (List.map rStr v3),sA v4,bA v1.Static,bA v1.Abstract,iA v1.Locals,iA v1.Stack,.msl 3 0 (List.length v15),.msl 4 0 (List.length b),.lit (.slice none 0 0)]]),some (4,List.map rApiIns v15),some (3,List.map rApiMap b)]) (fun r env st=>PostF Tryz.prog Tryz.f46 0 (.agg [sA r.Name,.isl 1 (List.map rStr r.Params),sA r.Ret,bA r.Static,bA r.Abstract,iA r.Locals,iA r.Stack,.isl 4 (List.map rApiIns r.Code),.isl 3 (List.map rApiMap r.Maps),.isl 4 (List.map rApiTrap r.Traps)]) [] env st) ho ⟨[.old 0,.old 1,.old 2,.old 3,.fresh 3],cv j0 (.mpt j0)<|cv j0 (.mpt j0)<|cv j0 (.mpt j0)<|ce j0 j0<|cn,j0,⟨⟨_,j0,rsOne ⟨ci j0,ci j0,ci j0,ci j0,ci j0,ci j0,ci j0,ci j0,ci j0,ci j0,j5⟩⟩,⟨_,j0,rsOne ⟨ci j0,ci j0,ci j0,ci j0,ci j0,ci j0,ci j0,ci j0,ci j0,ci j0,j5⟩⟩,⟨_,j0,rsOne ⟨ci j0,ci j0,ci j0,ci j0,ci j0,ci j0,ci j0,.msl j0,.nilown j0,ci j0,j5⟩⟩,⟨_,j0,rsMap (fun _=>j0)⟩,j4,j5⟩,j0,j1⟩ ?_ ?_ ?_
  ·
   rintro ⟨v24,v25⟩ r h
   replace h : law5_method_l3 v1 v24 v25 = some r:=h
   unfold law5_method_l3 at h
   refine sw_seq ?_
   refine rg j0<|u<|mv j0<|u<|fa ti35 j0 j0 j0<|u<|ld ti32 j0 j0<|u<|lnI ti32 j0 j0<|u<|lss ti3 j0 j0<|u<|mv j0<|r_and (j:=5) 2 j0 j0 j0 j0 j0 gpn (fun hb22=>g j0 hb22<|mv j0<|g j0 hb22<|lss ti3 j0 j0<|r_nil (egA [54,55] 2 hb22 j0 j0 j0 j0)) andF<|r_nil ?_
   refine sw_cond j0 (fun hc23=>?_) (fun hc23=>?_)
   ·
    replace h:=bT hc23 h
    refine sw_skip ?_
    refine sw_seq ?_
    refine sw_block ?_
    obtain ⟨v26,q24,h⟩:=bs h
    obtain ⟨v27,q25,h⟩:=bs h
    obtain ⟨v28,q26,h⟩:=bs h
    obtain ⟨v29,q27,h⟩:=bs h
    obtain ⟨v30,q28,h⟩:=bs h
    obtain ⟨v31,q29,h⟩:=bs h
    refine rdL [(1,.mpt 0 0 0),(2,.mpt 1 0 0),(3,.mpt 2 0 0),(5,iA v25)] [some (10,[[sA v1.Name,.isl 1 (List.map rStr v1.Params),sA v1.Ret,bA v1.Static,bA v1.Abstract,iA v1.Locals,iA v1.Stack,.isl 4 (List.map rApiIns v1.Code),.isl 3 (List.map rApiMap v1.Maps),.isl 4 (List.map rApiTrap v1.Traps)]]),some (10,[[sA [],.lit (.slice none 0 0),sA [],bA false,bA false,iA 0,iA 0,.lit (.slice none 0 0),.lit (.slice none 0 0),.lit (.slice none 0 0)]]),some (10,[[sA v2,.isl 1 (List.map rStr v3),sA v4,bA v1.Static,bA v1.Abstract,iA v1.Locals,iA v1.Stack,.msl 3 0 (List.length v15),.msl 4 0 (List.length v31),.lit (.slice none 0 0)]]),some (4,List.map rApiIns v15),some (3,List.map rApiMap v31)] [23,24,26] [22,21,20,19,18,17,16,15,14,13,12,11,10,9,8,7,6,5,4,3,2,1,0] [(81,.agg [iA v26.At,.isl 1 (List.map rStr v28),.isl 1 (List.map rStr v30)]),(80,.isl 1 (List.map rStr v30)),(79,.isl 1 (List.map rStr v29.Stack)),(78,.ipt 3 (List.map rApiMap v1.Maps) (Int.toNat v25) 2),(77,.ipt 3 (List.map rApiMap v1.Maps) (Int.toNat v25) 0),(76,iA v25),(75,.isl 3 (List.map rApiMap v1.Maps)),(74,.mpt 0 0 8),(73,.isl 1 (List.map rStr v28)),(72,.isl 1 (List.map rStr v27.Locals)),(71,.ipt 3 (List.map rApiMap v1.Maps) (Int.toNat v25) 1),(70,.ipt 3 (List.map rApiMap v1.Maps) (Int.toNat v25) 0),(69,iA v25),(68,.isl 3 (List.map rApiMap v1.Maps)),(67,.mpt 0 0 8),(66,iA v26.At),(65,.ipt 3 (List.map rApiMap v1.Maps) (Int.toNat v25) 0),(64,.ipt 3 (List.map rApiMap v1.Maps) (Int.toNat v25) 0),(63,iA v25),(62,.isl 3 (List.map rApiMap v1.Maps)),(61,.mpt 0 0 8),(60,.msl 4 0 (List.length v24)),(59,.mpt 2 0 8)] 3 (by kernel_rfl) (by kernel_rfl) j0 (by kernel_rfl) (dtS ⟨(fun _=>pa j0 j0 j0 j0 (bd ti39 j0 j0 j0<|j4)),(fun _=>pa j0 j0 j0 j0 (pc (law5_texts_ok v29.Stack 20 q28) j0 j0 j0<|j4)),(fun _=>pa j0 j0 j0 j0 (ldI ti24 j0 (idx_some q27).2.2 j0<|j4)),(fun _=>pa j0 j0 j0 j0 (fa ti39 j0 j0 j0<|j4)),(fun _=>pa j0 j0 j0 j0 (ixI ti32 j0 ti39 j0 j0 j0 q27<|j4)),(fun _=>pa j0 j0 j0 j0 (mv j0<|j4)),(fun _=>pa j0 j0 j0 j0 (ld ti32 j0 j0<|j4)),(fun _=>pa j0 j0 j0 j0 (fa ti35 j0 j0 j0<|j4)),(fun _=>pa j0 j0 j0 j0 (pc (law5_texts_ok v27.Locals 20 q26) j0 j0 j0<|j4)),(fun _=>pa j0 j0 j0 j0 (ldI ti24 j0 (idx_some q25).2.2 j0<|j4)),(fun _=>pa j0 j0 j0 j0 (fa ti39 j0 j0 j0<|j4)),(fun _=>pa j0 j0 j0 j0 (ixI ti32 j0 ti39 j0 j0 j0 q25<|j4)),(fun _=>pa j0 j0 j0 j0 (mv j0<|j4)),(fun _=>pa j0 j0 j0 j0 (ld ti32 j0 j0<|j4)),(fun _=>pa j0 j0 j0 j0 (fa ti35 j0 j0 j0<|j4)),(fun _=>pa j0 j0 j0 j0 (ldI ti3 j0 (idx_some q24).2.2 j0<|j4)),(fun _=>pa j0 j0 j0 j0 (fa ti39 j0 j0 j0<|j4)),(fun _=>pa j0 j0 j0 j0 (ixI ti32 j0 ti39 j0 j0 j0 q24<|j4)),(fun _=>pa j0 j0 j0 j0 (mv j0<|j4)),(fun _=>pa j0 j0 j0 j0 (ld ti32 j0 j0<|j4)),(fun _=>pa j0 j0 j0 j0 (fa ti35 j0 j0 j0<|j4)),(fun _=>pa j0 j0 j0 j0 (ld ti32 j0 j0<|j4)),(fun _=>pa j0 j0 j0 j0 (fa ti35 j0 j0 j0<|j4)),j5⟩ (by kernel_rfl) j0 ⟨(fun _ _=>⟨_,j0,j0,bl 5 ti32 j0 ti39 j0 (by decide) (by decide) j0 j0 j0<|⟨(.msl 5 0 1),[],[(82,.msl 5 0 1)],j0,j0,by kernel_rfl,j0,dtS ⟨(fun h=>by cases h),(fun _=>pa j0 j0 j0 j0 (pc (law5_texts_ok v29.Stack 20 q28) j0 j0 j0<|j4)),(fun _=>pa j0 j0 j0 j0 (ldI ti24 j0 (idx_some q27).2.2 j0<|j4)),(fun _=>pa j0 j0 j0 j0 (fa ti39 j0 j0 j0<|j4)),(fun _=>pa j0 j0 j0 j0 (ixI ti32 j0 ti39 j0 j0 j0 q27<|j4)),(fun _=>pa j0 j0 j0 j0 (mv j0<|j4)),(fun _=>pa j0 j0 j0 j0 (ld ti32 j0 j0<|j4)),(fun _=>pa j0 j0 j0 j0 (fa ti35 j0 j0 j0<|j4)),(fun _=>pa j0 j0 j0 j0 (pc (law5_texts_ok v27.Locals 20 q26) j0 j0 j0<|j4)),(fun _=>pa j0 j0 j0 j0 (ldI ti24 j0 (idx_some q25).2.2 j0<|j4)),(fun _=>pa j0 j0 j0 j0 (fa ti39 j0 j0 j0<|j4)),(fun _=>pa j0 j0 j0 j0 (ixI ti32 j0 ti39 j0 j0 j0 q25<|j4)),(fun _=>pa j0 j0 j0 j0 (mv j0<|j4)),(fun _=>pa j0 j0 j0 j0 (ld ti32 j0 j0<|j4)),(fun _=>pa j0 j0 j0 j0 (fa ti35 j0 j0 j0<|j4)),(fun _=>pa j0 j0 j0 j0 (ldI ti3 j0 (idx_some q24).2.2 j0<|j4)),(fun _=>pa j0 j0 j0 j0 (fa ti39 j0 j0 j0<|j4)),(fun _=>pa j0 j0 j0 j0 (ixI ti32 j0 ti39 j0 j0 j0 q24<|j4)),(fun _=>pa j0 j0 j0 j0 (mv j0<|j4)),(fun _=>pa j0 j0 j0 j0 (ld ti32 j0 j0<|j4)),(fun _=>pa j0 j0 j0 j0 (fa ti35 j0 j0 j0<|j4)),(fun _=>pa j0 j0 j0 j0 (ld ti32 j0 j0<|j4)),(fun _=>pa j0 j0 j0 j0 (fa ti35 j0 j0 j0<|j4)),j5⟩ (by kernel_rfl) j0 ⟨(fun h=>by cases h),(fun _ _=>⟨_,j0,j0,apM 6 ti32 j0 ti39 j0 j0 (by decide) ti32 j0 j0 j0 j0 (roX (f:=rApiMap) (z:=[(ApiMap.mk v26.At v28 v30)]) j0 j0) (fun _=>j0) j0 q29<|⟨(.msl 6 0 (List.length v31)),[25],[(84,.mpt 2 0 8),(83,.msl 6 0 (List.length v31))],j0,j0,by kernel_rfl,j0,dtS ⟨(fun _=>pa j0 j0 j0 j0 (fa ti35 j0 j0 j0<|j4)),(fun h=>by cases h),(fun h=>by cases h),(fun _=>pa j0 j0 j0 j0 (ldI ti24 j0 (idx_some q27).2.2 j0<|j4)),(fun _=>pa j0 j0 j0 j0 (fa ti39 j0 j0 j0<|j4)),(fun _=>pa j0 j0 j0 j0 (ixI ti32 j0 ti39 j0 j0 j0 q27<|j4)),(fun _=>pa j0 j0 j0 j0 (mv j0<|j4)),(fun _=>pa j0 j0 j0 j0 (ld ti32 j0 j0<|j4)),(fun _=>pa j0 j0 j0 j0 (fa ti35 j0 j0 j0<|j4)),(fun _=>pa j0 j0 j0 j0 (pc (law5_texts_ok v27.Locals 20 q26) j0 j0 j0<|j4)),(fun _=>pa j0 j0 j0 j0 (ldI ti24 j0 (idx_some q25).2.2 j0<|j4)),(fun _=>pa j0 j0 j0 j0 (fa ti39 j0 j0 j0<|j4)),(fun _=>pa j0 j0 j0 j0 (ixI ti32 j0 ti39 j0 j0 j0 q25<|j4)),(fun _=>pa j0 j0 j0 j0 (mv j0<|j4)),(fun _=>pa j0 j0 j0 j0 (ld ti32 j0 j0<|j4)),(fun _=>pa j0 j0 j0 j0 (fa ti35 j0 j0 j0<|j4)),(fun _=>pa j0 j0 j0 j0 (ldI ti3 j0 (idx_some q24).2.2 j0<|j4)),(fun _=>pa j0 j0 j0 j0 (fa ti39 j0 j0 j0<|j4)),(fun _=>pa j0 j0 j0 j0 (ixI ti32 j0 ti39 j0 j0 j0 q24<|j4)),(fun _=>pa j0 j0 j0 j0 (mv j0<|j4)),(fun _=>pa j0 j0 j0 j0 (ld ti32 j0 j0<|j4)),(fun _=>pa j0 j0 j0 j0 (fa ti35 j0 j0 j0<|j4)),(fun h=>by cases h),(fun _=>pa j0 j0 j0 j0 (fa ti35 j0 j0 j0<|j4)),j5⟩ (by kernel_rfl) j0 ⟨(fun h=>by cases h),(fun h=>by cases h),(fun _ _=>⟨_,j0,j0,sto ti32 j0 j0 j0<|⟨.any,[],[],j0,j0,by kernel_rfl,j5,dt0 ⟨(fun h=>by cases h),(fun h=>by cases h),(fun h=>by cases h),(fun h=>by cases h),(fun h=>by cases h),(fun h=>by cases h),(fun h=>by cases h),(fun h=>by cases h),(fun h=>by cases h),(fun h=>by cases h),(fun h=>by cases h),(fun h=>by cases h),(fun h=>by cases h),(fun h=>by cases h),(fun h=>by cases h),(fun h=>by cases h),(fun h=>by cases h),(fun h=>by cases h),(fun h=>by cases h),(fun h=>by cases h),(fun h=>by cases h),(fun h=>by cases h),(fun h=>by cases h),(fun h=>by cases h),j5⟩ (by kernel_rfl) j0 ⟨[.old 0,.old 1,.old 2,.old 3,.old 6],cv j0 (.mpt j0)<|cv j0 (.mpt j0)<|cv j0 (.mpt j0)<|ce j0 j0<|cn,j0,⟨⟨_,j0,rsOne ⟨ci j0,ci j0,ci j0,ci j0,ci j0,ci j0,ci j0,ci j0,ci j0,ci j0,j5⟩⟩,⟨_,j0,rsOne ⟨ci j0,ci j0,ci j0,ci j0,ci j0,ci j0,ci j0,ci j0,ci j0,ci j0,j5⟩⟩,⟨_,j0,rsOne ⟨ci j0,ci j0,ci j0,ci j0,ci j0,ci j0,ci j0,.msl j0,.msl j0,ci j0,j5⟩⟩,⟨_,j0,rsMap (fun _=>j0)⟩,⟨_,j0,rsMap (fun _=>j0)⟩,j5⟩,j0,j1⟩⟩⟩),j5⟩⟩⟩),(fun _ h=>by cases h),j5⟩⟩⟩),(fun _ h=>by cases h),(fun _ h=>by cases h),j5⟩) ?_
    refine rl j0<|u<|mv j0<|u<|add ti3 j0 j0<|u<|asg j0<|r_nil ?_
    obtain rfl:=sm h
    exact ⟨_,j0,[.old 0,.old 1,.old 2,.old 3,.old 4],cv j0 (.mpt j0)<|cv j0 (.mpt j0)<|cv j0 (.mpt j0)<|ce j0 j0<|cn,j0,⟨⟨_,j0,rsOne ⟨ci j0,ci j0,ci j0,ci j0,ci j0,ci j0,ci j0,ci j0,ci j0,ci j0,j5⟩⟩,⟨_,j0,rsOne ⟨ci j0,ci j0,ci j0,ci j0,ci j0,ci j0,ci j0,ci j0,ci j0,ci j0,j5⟩⟩,⟨_,j0,rsOne ⟨ci j0,ci j0,ci j0,ci j0,ci j0,ci j0,ci j0,.msl j0,.msl j0,ci j0,j5⟩⟩,⟨_,j0,rsMap (fun _=>j0)⟩,⟨_,j0,rsMap (fun _=>j0)⟩,j5⟩,j0,j1⟩
   ·
    replace h:=bF hc23 h
    refine sw_exit ?_
    obtain rfl:=sm h
    exact ⟨j0,_,j0,[.old 0,.old 1,.old 2,.old 3,.old 4],cv j0 (.mpt j0)<|cv j0 (.mpt j0)<|cv j0 (.mpt j0)<|cn,j0,⟨⟨_,j0,rsOne ⟨ci j0,ci j0,ci j0,ci j0,ci j0,ci j0,ci j0,ci j0,ci j0,ci j0,j5⟩⟩,⟨_,j0,rsOne ⟨ci j0,ci j0,ci j0,ci j0,ci j0,ci j0,ci j0,ci j0,ci j0,ci j0,j5⟩⟩,⟨_,j0,rsOne ⟨ci j0,ci j0,ci j0,ci j0,ci j0,ci j0,ci j0,.msl j0,.msl j0,ci j0,j5⟩⟩,⟨_,j0,rsMap (fun _=>j0)⟩,⟨_,j0,rsMap (fun _=>j0)⟩,j5⟩,j0,j1⟩
  ·
   rintro v32 rfl
   replace h : law5_method_k4 v1 v2 v3 v4 v15 v32 = some r:=h
   unfold law5_method_k4 at h
   refine ow_intro ?_
   refine sw_seq ?_
   refine rg j0<|u<|asg j0<|r_nil ?_
   obtain ⟨o,ho,h⟩:=bs h
   refine sw_lpl (X:=(List ApiTrap) × Int) (B:=(List ApiTrap)) (R:=ApiMethod) (fun z=>[(1,.mpt 0 0 0),(2,.mpt 1 0 0),(3,.mpt 2 0 0),(6,iA z.2)]) (fun z=>[some (10,[[sA v1.Name,.isl 1 (List.map rStr v1.Params),sA v1.Ret,bA v1.Static,bA v1.Abstract,iA v1.Locals,iA v1.Stack,.isl 4 (List.map rApiIns v1.Code),.isl 3 (List.map rApiMap v1.Maps),.isl 4 (List.map rApiTrap v1.Traps)]]),some (10,[[sA [],.lit (.slice none 0 0),sA [],bA false,bA false,iA 0,iA 0,.lit (.slice none 0 0),.lit (.slice none 0 0),.lit (.slice none 0 0)]]),some (10,[[sA v2,.isl 1 (List.map rStr v3),sA v4,bA v1.Static,bA v1.Abstract,iA v1.Locals,iA v1.Stack,.msl 3 0 (List.length v15),.msl 4 0 (List.length v32),.msl 5 0 (List.length z.1)]]),some (4,List.map rApiIns v15),some (3,List.map rApiMap v32),some (4,List.map rApiTrap z.1)]) (fun b=>[(2,.mpt 0 0 0),(3,.mpt 1 0 0)]) (fun b=>[some (10,[[sA [],.lit (.slice none 0 0),sA [],bA false,bA false,iA 0,iA 0,.lit (.slice none 0 0),.lit (.slice none 0 0),.lit (.slice none 0 0)]]),some (10,[[sA v2,.isl 1 (List.map rStr v3),sA v4,bA v1.Static,bA v1.Abstract,iA v1.Locals,iA v1.Stack,.msl 2 0 (List.length v15),.msl 3 0 (List.length v32),.msl 4 0 (List.length b)]]),some (4,List.map rApiIns v15),some (3,List.map rApiMap v32),some (4,List.map rApiTrap b)]) (fun r env st=>PostF Tryz.prog Tryz.f46 0 (.agg [sA r.Name,.isl 1 (List.map rStr r.Params),sA r.Ret,bA r.Static,bA r.Abstract,iA r.Locals,iA r.Stack,.isl 4 (List.map rApiIns r.Code),.isl 3 (List.map rApiMap r.Maps),.isl 4 (List.map rApiTrap r.Traps)]) [] env st) ho ⟨[.old 0,.old 1,.old 2,.old 3,.old 4,.fresh 4],cv j0 (.mpt j0)<|cv j0 (.mpt j0)<|cv j0 (.mpt j0)<|ce j0 j0<|cn,j0,⟨⟨_,j0,rsOne ⟨ci j0,ci j0,ci j0,ci j0,ci j0,ci j0,ci j0,ci j0,ci j0,ci j0,j5⟩⟩,⟨_,j0,rsOne ⟨ci j0,ci j0,ci j0,ci j0,ci j0,ci j0,ci j0,ci j0,ci j0,ci j0,j5⟩⟩,⟨_,j0,rsOne ⟨ci j0,ci j0,ci j0,ci j0,ci j0,ci j0,ci j0,.msl j0,.msl j0,.nilown j0,j5⟩⟩,⟨_,j0,rsMap (fun _=>j0)⟩,⟨_,j0,rsMap (fun _=>j0)⟩,j4,j5⟩,j0,j1⟩ ?_ ?_ ?_
   ·
    rintro ⟨v38,v39⟩ r h
    replace h : law5_method_l5 v1 v38 v39 = some r:=h
    unfold law5_method_l5 at h
    refine sw_seq ?_
    refine rg j0<|u<|mv j0<|u<|fa ti35 j0 j0 j0<|u<|ld ti33 j0 j0<|u<|lnI ti33 j0 j0<|u<|lss ti3 j0 j0<|u<|mv j0<|r_and (j:=5) 2 j0 j0 j0 j0 j0 gpn (fun hb35=>g j0 hb35<|mv j0<|g j0 hb35<|lss ti3 j0 j0<|r_nil (egA [91,92] 2 hb35 j0 j0 j0 j0)) andF<|r_nil ?_
    refine sw_cond j0 (fun hc36=>?_) (fun hc36=>?_)
    ·
     replace h:=bT hc36 h
     refine sw_skip ?_
     refine sw_seq ?_
     refine sw_block ?_
     obtain ⟨v40,q37,h⟩:=bs h
     refine rg j0<|u<|fa ti35 j0 j0 j0<|u<|ld ti33 j0 j0<|u<|mv j0<|u<|ixI ti33 j0 ti113 j0 j0 j0 q37<|u<|ldI ti113 j0 (idx_some q37).2.2 j0<|u<|al 6 ti113 j0<|u<|sto ti113 j0 j0 j0<|r_nil ?_
     obtain ⟨v41,q38,h⟩:=bs h
     refine rg j0<|u<|fa ti113 j0 j0 j0<|u<|ld ti9 j0 j0<|u<|pc (law1_Cut_ok v40.C 10 q38) j0 j0 j0<|u<|fa ti113 j0 j0 j0<|u<|sto ti9 j0 j0 j0<|r_nil ?_
     obtain ⟨v42,q39,h⟩:=bs h
     refine rl j0<|u<|fa ti35 j0 j0 j0<|u<|ld ti33 j0 j0<|u<|ld ti113 j0 j0<|u<|bl 7 ti33 j0 ti113 j0 (by decide) (by decide) j0 j0 j0<|u<|apM 8 ti33 j0 ti113 j0 j0 (by decide) ti33 j0 j0 j0 j0 (roX (f:=rApiTrap) (z:=[(ApiTrap.mk v40.From v40.To v40.At v41)]) j0 j0) (fun _=>j0) j0 q39<|u<|fa ti35 j0 j0 j0<|u<|sto ti33 j0 j0 j0<|r_nil ?_
     refine rl j0<|u<|mv j0<|u<|add ti3 j0 j0<|u<|asg j0<|r_nil ?_
     obtain rfl:=sm h
     exact ⟨_,j0,[.old 0,.old 1,.old 2,.old 3,.old 4,.old 8],cv j0 (.mpt j0)<|cv j0 (.mpt j0)<|cv j0 (.mpt j0)<|ce j0 j0<|cn,j0,⟨⟨_,j0,rsOne ⟨ci j0,ci j0,ci j0,ci j0,ci j0,ci j0,ci j0,ci j0,ci j0,ci j0,j5⟩⟩,⟨_,j0,rsOne ⟨ci j0,ci j0,ci j0,ci j0,ci j0,ci j0,ci j0,ci j0,ci j0,ci j0,j5⟩⟩,⟨_,j0,rsOne ⟨ci j0,ci j0,ci j0,ci j0,ci j0,ci j0,ci j0,.msl j0,.msl j0,.msl j0,j5⟩⟩,⟨_,j0,rsMap (fun _=>j0)⟩,⟨_,j0,rsMap (fun _=>j0)⟩,⟨_,j0,rsMap (fun _=>j0)⟩,j5⟩,j0,j1⟩
    ·
     replace h:=bF hc36 h
     refine sw_exit ?_
     obtain rfl:=sm h
     exact ⟨j0,_,j0,[.old 1,.old 2,.old 3,.old 4,.old 5],cv j0 (.mpt j0)<|cv j0 (.mpt j0)<|cn,j0,⟨⟨_,j0,rsOne ⟨ci j0,ci j0,ci j0,ci j0,ci j0,ci j0,ci j0,ci j0,ci j0,ci j0,j5⟩⟩,⟨_,j0,rsOne ⟨ci j0,ci j0,ci j0,ci j0,ci j0,ci j0,ci j0,.msl j0,.msl j0,.msl j0,j5⟩⟩,⟨_,j0,rsMap (fun _=>j0)⟩,⟨_,j0,rsMap (fun _=>j0)⟩,⟨_,j0,rsMap (fun _=>j0)⟩,j5⟩,j0,j1⟩
   ·
    rintro v43 rfl
    replace h : law5_method_k6 v1 v2 v3 v4 v15 v32 v43 = some r:=h
    unfold law5_method_k6 at h
    refine ow_intro ?_
    refine rg j0<|u<|ld ti35 j0 j0<|u<|sto ti35 j0 j0 j0<|r_nil ?_
    refine sw_ret ?_
    obtain rfl:=sm h
    exact ⟨_,j0,[],rsAgg ⟨(ci j0),(ci j0),(ci j0),(ci j0),(ci j0),(ci j0),(ci j0),(rsSeal j0 j0 (fun _=>j0)),(rsSeal j0 j0 (fun _=>j0)),(rsSeal j0 j0 (fun _=>j0)),j5⟩,j0,j5,j0,j1⟩
   ·
    rintro r' rfl env st hp
    obtain rfl:=sm h
    exact hp
  ·
   rintro r' rfl env st hp
   obtain rfl:=sm h
   exact hp
 ·
  rintro r' rfl env st hp
  obtain rfl:=sm h
  exact hp
def law5_Cut_k4 (v2 : (List UInt8)) (v3 : (List UInt8)) (v4 : (List (List UInt8))) (v17 : List ApiField) (v28 : List ApiMethod) : Option ((List UInt8) × (List UInt8) × (List (List UInt8)) × (List ApiField) × (List ApiMethod)) :=
  some (v2,v3,v4,v17,v28)
def law5_Cut_l3 (v1 : ApiClass) (v23 : List ApiMethod) (v24 : Int) : Option (Sum ((List ApiMethod) × Int) (Sum ((List ApiMethod)) ((List UInt8) × (List UInt8) × (List (List UInt8)) × (List ApiField) × (List ApiMethod)))) :=
  cond ((decide (v24 < (List.length v1.Methods : Int))) && (decide (v24 < 10))) ((idx v1.Methods v24).bind fun v25=>(law5_method v25).bind fun v26=>(appP 152 v23 [v26]).bind fun v27=>some (.inl (v27,(IntKind.i64.wrap (v24 + 1))))) (some (.inr (.inl v23)))
def law5_Cut_k2 (v1 : ApiClass) (v2 : (List UInt8)) (v3 : (List UInt8)) (v4 : (List (List UInt8))) (v17 : List ApiField) : Option ((List UInt8) × (List UInt8) × (List (List UInt8)) × (List ApiField) × (List ApiMethod)) :=
  (loopP (fun z=>law5_Cut_l3 v1 z.1 z.2) ([],0)).bind fun o=>leave o (fun b=>law5_Cut_k4 v2 v3 v4 v17 b) some
def law5_Cut_l1 (v1 : ApiClass) (v11 : List ApiField) (v12 : Int) : Option (Sum ((List ApiField) × Int) (Sum ((List ApiField)) ((List UInt8) × (List UInt8) × (List (List UInt8)) × (List ApiField) × (List ApiMethod)))) :=
  cond ((decide (v12 < (List.length v1.Fields : Int))) && (decide (v12 < 10))) ((idx v1.Fields v12).bind fun v13=>(law1_Cut v13.Name 10).bind fun v14=>(law1_Cut v13.Type_ 12).bind fun v15=>(appP 40 v11 [(ApiField.mk v14 v15 v13.Static)]).bind fun v16=>some (.inl (v16,(IntKind.i64.wrap (v12 + 1))))) (some (.inr (.inl v11)))
def law5_Cut (v1 : ApiClass) : Option ((List UInt8) × (List UInt8) × (List (List UInt8)) × (List ApiField) × (List ApiMethod)) :=
  (law1_Cut v1.Name 10).bind fun v2=>(law1_Cut v1.Super 10).bind fun v3=>(law5_texts v1.Impl 6).bind fun v4=>(loopP (fun z=>law5_Cut_l1 v1 z.1 z.2) ([],0)).bind fun o=>leave o (fun b=>law5_Cut_k2 v1 v2 v3 v4 b) some
theorem law5_Cut_ok (v1 : ApiClass) {r : (List UInt8) × (List UInt8) × (List (List UInt8)) × (List ApiField) × (List ApiMethod)} (h : law5_Cut v1 = some r) : SC Tryz.prog 14 [.agg [sA v1.Name,sA v1.Super,bA v1.Interface,.isl 1 (List.map rStr v1.Impl),.isl 3 (List.map rApiField v1.Fields),.isl 10 (List.map rApiMethod v1.Methods)]] [] (.agg [sA r.1,sA r.2.1,bA v1.Interface,.isl 1 (List.map rStr r.2.2.1),.msl 0 0 (List.length r.2.2.2.1),.msl 1 0 (List.length r.2.2.2.2)]) [.many 3 (List.map rApiField r.2.2.2.1),.many 10 (List.map rApiMethod r.2.2.2.2)]:=by
 refine ⟨⟨sbOk (sz:=3) (fun _=>j0),sbOk (sz:=10) (fun _=>j0),j5⟩,scall_fn Tryz.func14 j0 (by kernel_rfl) j0 ?_⟩
 unfold law5_Cut at h
 refine rg j0<|u<|bx 0 6 j0 j0 j0 j0<|u<|al 1 ti28 j0<|r_nil ?_
 obtain ⟨v2,q1,h⟩:=bs h
 obtain ⟨v3,q2,h⟩:=bs h
 obtain ⟨v4,q3,h⟩:=bs h
 refine rd [(1,.mpt 0 0 0),(2,.mpt 1 0 0),(3,.mpt 2 0 0)] [some (6,[[sA v1.Name,sA v1.Super,bA v1.Interface,.isl 1 (List.map rStr v1.Impl),.isl 3 (List.map rApiField v1.Fields),.isl 10 (List.map rApiMethod v1.Methods)]]),some (6,[[sA [],sA [],bA false,.lit (.slice none 0 0),.lit (.slice none 0 0),.lit (.slice none 0 0)]]),some (6,[[sA v2,sA v3,bA v1.Interface,.isl 1 (List.map rStr v4),.lit (.slice none 0 0),.lit (.slice none 0 0)]])] [12,13] [11,10,9,8,7,6,5,4,3,2,1,0] [(18,.agg [sA v2,sA v3,bA v1.Interface,.isl 1 (List.map rStr v4),.lit (.slice none 0 0),.lit (.slice none 0 0)]),(17,.isl 1 (List.map rStr v4)),(16,.isl 1 (List.map rStr v1.Impl)),(15,.mpt 0 0 3),(14,bA v1.Interface),(13,.mpt 0 0 2),(12,sA v3),(11,sA v1.Super),(10,.mpt 0 0 1),(9,sA v2),(8,sA v1.Name),(7,.mpt 0 0 0)] 2 (by kernel_rfl) (by kernel_rfl) j0 (by kernel_rfl) (dtS ⟨(fun _=>pa j0 j0 j0 j0 (bd ti28 j0 j0 j0<|j4)),(fun _=>pa j0 j0 j0 j0 (pc (law5_texts_ok v1.Impl 6 q3) j0 j0 j0<|j4)),(fun _=>pa j0 j0 j0 j0 (ld ti24 j0 j0<|j4)),(fun _=>pa j0 j0 j0 j0 (fa ti28 j0 j0 j0<|j4)),(fun _=>pa j0 j0 j0 j0 (ld ti4 j0 j0<|j4)),(fun _=>pa j0 j0 j0 j0 (fa ti28 j0 j0 j0<|j4)),(fun _=>pa j0 j0 j0 j0 (pc (law1_Cut_ok v1.Super 10 q2) j0 j0 j0<|j4)),(fun _=>pa j0 j0 j0 j0 (ld ti9 j0 j0<|j4)),(fun _=>pa j0 j0 j0 j0 (fa ti28 j0 j0 j0<|j4)),(fun _=>pa j0 j0 j0 j0 (pc (law1_Cut_ok v1.Name 10 q1) j0 j0 j0<|j4)),(fun _=>pa j0 j0 j0 j0 (ld ti9 j0 j0<|j4)),(fun _=>pa j0 j0 j0 j0 (fa ti28 j0 j0 j0<|j4)),j5⟩ (by kernel_rfl) j0 ⟨(fun _ _=>⟨_,j0,j0,al 2 ti28 j0<|⟨(.mpt 2 0 0),[],[(3,.mpt 2 0 0)],j0,j0,by kernel_rfl,j0,dtS ⟨(fun _=>pa j0 j0 j0 j0 (bd ti28 j0 j0 j0<|j4)),(fun _=>pa j0 j0 j0 j0 (pc (law5_texts_ok v1.Impl 6 q3) j0 j0 j0<|j4)),(fun _=>pa j0 j0 j0 j0 (ld ti24 j0 j0<|j4)),(fun _=>pa j0 j0 j0 j0 (fa ti28 j0 j0 j0<|j4)),(fun _=>pa j0 j0 j0 j0 (ld ti4 j0 j0<|j4)),(fun _=>pa j0 j0 j0 j0 (fa ti28 j0 j0 j0<|j4)),(fun _=>pa j0 j0 j0 j0 (pc (law1_Cut_ok v1.Super 10 q2) j0 j0 j0<|j4)),(fun _=>pa j0 j0 j0 j0 (ld ti9 j0 j0<|j4)),(fun _=>pa j0 j0 j0 j0 (fa ti28 j0 j0 j0<|j4)),(fun _=>pa j0 j0 j0 j0 (pc (law1_Cut_ok v1.Name 10 q1) j0 j0 j0<|j4)),(fun _=>pa j0 j0 j0 j0 (ld ti9 j0 j0<|j4)),(fun _=>pa j0 j0 j0 j0 (fa ti28 j0 j0 j0<|j4)),j5⟩ (by kernel_rfl) j0 ⟨(fun h=>by cases h),(fun _ _=>⟨_,j0,j0,sto ti28 j0 j0 j0<|⟨.any,[],[],j0,j0,by kernel_rfl,j5,dt0 ⟨(fun h=>by cases h),(fun h=>by cases h),(fun h=>by cases h),(fun h=>by cases h),(fun h=>by cases h),(fun h=>by cases h),(fun h=>by cases h),(fun h=>by cases h),(fun h=>by cases h),(fun h=>by cases h),(fun h=>by cases h),(fun h=>by cases h),j5⟩ (by kernel_rfl) j0 ⟨[.old 0,.old 1,.old 2],cv j0 (.mpt j0)<|cv j0 (.mpt j0)<|cv j0 (.mpt j0)<|cn,j0,⟨⟨_,j0,rsOne ⟨ci j0,ci j0,ci j0,ci j0,ci j0,ci j0,j5⟩⟩,⟨_,j0,rsOne ⟨ci j0,ci j0,ci j0,ci j0,ci j0,ci j0,j5⟩⟩,⟨_,j0,rsOne ⟨ci j0,ci j0,ci j0,ci j0,ci j0,ci j0,j5⟩⟩,j5⟩,j0,j1⟩⟩⟩),j5⟩⟩⟩),(fun _ h=>by cases h),j5⟩) ?_
 refine sw_seq ?_
 refine rg j0<|u<|asg j0<|r_nil ?_
 obtain ⟨o,ho,h⟩:=bs h
 refine sw_lpl (X:=(List ApiField) × Int) (B:=(List ApiField)) (R:=(List UInt8) × (List UInt8) × (List (List UInt8)) × (List ApiField) × (List ApiMethod)) (fun z=>[(1,.mpt 0 0 0),(2,.mpt 1 0 0),(3,.mpt 2 0 0),(4,iA z.2)]) (fun z=>[some (6,[[sA v1.Name,sA v1.Super,bA v1.Interface,.isl 1 (List.map rStr v1.Impl),.isl 3 (List.map rApiField v1.Fields),.isl 10 (List.map rApiMethod v1.Methods)]]),some (6,[[sA [],sA [],bA false,.lit (.slice none 0 0),.lit (.slice none 0 0),.lit (.slice none 0 0)]]),some (6,[[sA v2,sA v3,bA v1.Interface,.isl 1 (List.map rStr v4),.msl 3 0 (List.length z.1),.lit (.slice none 0 0)]]),some (3,List.map rApiField z.1)]) (fun b=>[(1,.mpt 0 0 0),(2,.mpt 1 0 0),(3,.mpt 2 0 0)]) (fun b=>[some (6,[[sA v1.Name,sA v1.Super,bA v1.Interface,.isl 1 (List.map rStr v1.Impl),.isl 3 (List.map rApiField v1.Fields),.isl 10 (List.map rApiMethod v1.Methods)]]),some (6,[[sA [],sA [],bA false,.lit (.slice none 0 0),.lit (.slice none 0 0),.lit (.slice none 0 0)]]),some (6,[[sA v2,sA v3,bA v1.Interface,.isl 1 (List.map rStr v4),.msl 3 0 (List.length b),.lit (.slice none 0 0)]]),some (3,List.map rApiField b)]) (fun r env st=>PostF Tryz.prog Tryz.f14 0 (.agg [sA r.1,sA r.2.1,bA v1.Interface,.isl 1 (List.map rStr r.2.2.1),.msl 0 0 (List.length r.2.2.2.1),.msl 1 0 (List.length r.2.2.2.2)]) [some (3,List.map rApiField r.2.2.2.1),some (10,List.map rApiMethod r.2.2.2.2)] env st) ho ⟨[.old 0,.old 1,.old 2,.fresh 3],cv j0 (.mpt j0)<|cv j0 (.mpt j0)<|cv j0 (.mpt j0)<|ce j0 j0<|cn,j0,⟨⟨_,j0,rsOne ⟨ci j0,ci j0,ci j0,ci j0,ci j0,ci j0,j5⟩⟩,⟨_,j0,rsOne ⟨ci j0,ci j0,ci j0,ci j0,ci j0,ci j0,j5⟩⟩,⟨_,j0,rsOne ⟨ci j0,ci j0,ci j0,ci j0,.nilown j0,ci j0,j5⟩⟩,j4,j5⟩,j0,j1⟩ ?_ ?_ ?_
 ·
  rintro ⟨v11,v12⟩ r h
  replace h : law5_Cut_l1 v1 v11 v12 = some r:=h
  unfold law5_Cut_l1 at h
  refine sw_seq ?_
  refine rg j0<|u<|mv j0<|u<|fa ti28 j0 j0 j0<|u<|ld ti25 j0 j0<|u<|lnI ti25 j0 j0<|u<|lss ti3 j0 j0<|u<|mv j0<|r_and (j:=5) 2 j0 j0 j0 j0 j0 gpn (fun hb10=>g j0 hb10<|mv j0<|g j0 hb10<|lss ti3 j0 j0<|r_nil (egA [25,26] 2 hb10 j0 j0 j0 j0)) andF<|r_nil ?_
  refine sw_cond j0 (fun hc11=>?_) (fun hc11=>?_)
  ·
   replace h:=bT hc11 h
   refine sw_skip ?_
   refine sw_seq ?_
   refine sw_block ?_
   obtain ⟨v13,q12,h⟩:=bs h
   refine rg j0<|u<|fa ti28 j0 j0 j0<|u<|ld ti25 j0 j0<|u<|mv j0<|u<|ixI ti25 j0 ti53 j0 j0 j0 q12<|u<|ldI ti53 j0 (idx_some q12).2.2 j0<|u<|al 4 ti53 j0<|u<|sto ti53 j0 j0 j0<|r_nil ?_
   obtain ⟨v14,q13,h⟩:=bs h
   obtain ⟨v15,q14,h⟩:=bs h
   obtain ⟨v16,q15,h⟩:=bs h
   refine rdL [(1,.mpt 0 0 0),(2,.mpt 1 0 0),(3,.mpt 2 0 0),(4,iA v12)] [some (6,[[sA v1.Name,sA v1.Super,bA v1.Interface,.isl 1 (List.map rStr v1.Impl),.isl 3 (List.map rApiField v1.Fields),.isl 10 (List.map rApiMethod v1.Methods)]]),some (6,[[sA [],sA [],bA false,.lit (.slice none 0 0),.lit (.slice none 0 0),.lit (.slice none 0 0)]]),some (6,[[sA v2,sA v3,bA v1.Interface,.isl 1 (List.map rStr v4),.msl 3 0 (List.length v16),.lit (.slice none 0 0)]]),some (3,List.map rApiField v16)] [11,12,14] [10,9,8,7,6,5,4,3,2,1,0] [(45,.agg [sA v14,sA v15,bA v13.Static]),(44,bA v13.Static),(43,.mpt 4 0 2),(42,sA v15),(41,sA v13.Type_),(40,.mpt 4 0 1),(39,sA v14),(38,sA v13.Name),(37,.mpt 4 0 0),(36,.msl 3 0 (List.length v11)),(35,.mpt 2 0 4)] 3 (by kernel_rfl) (by kernel_rfl) j0 (by kernel_rfl) (dtS ⟨(fun _=>pa j0 j0 j0 j0 (bd ti53 j0 j0 j0<|j4)),(fun _=>pa j0 j0 j0 j0 (ld ti4 j0 j0<|j4)),(fun _=>pa j0 j0 j0 j0 (fa ti53 j0 j0 j0<|j4)),(fun _=>pa j0 j0 j0 j0 (pc (law1_Cut_ok v13.Type_ 12 q14) j0 j0 j0<|j4)),(fun _=>pa j0 j0 j0 j0 (ld ti9 j0 j0<|j4)),(fun _=>pa j0 j0 j0 j0 (fa ti53 j0 j0 j0<|j4)),(fun _=>pa j0 j0 j0 j0 (pc (law1_Cut_ok v13.Name 10 q13) j0 j0 j0<|j4)),(fun _=>pa j0 j0 j0 j0 (ld ti9 j0 j0<|j4)),(fun _=>pa j0 j0 j0 j0 (fa ti53 j0 j0 j0<|j4)),(fun _=>pa j0 j0 j0 j0 (ld ti25 j0 j0<|j4)),(fun _=>pa j0 j0 j0 j0 (fa ti28 j0 j0 j0<|j4)),j5⟩ (by kernel_rfl) j0 ⟨(fun _ _=>⟨_,j0,j0,bl 5 ti25 j0 ti53 j0 (by decide) (by decide) j0 j0 j0<|⟨(.msl 5 0 1),[],[(46,.msl 5 0 1)],j0,j0,by kernel_rfl,j0,dtS ⟨(fun h=>by cases h),(fun _=>pa j0 j0 j0 j0 (ld ti4 j0 j0<|j4)),(fun _=>pa j0 j0 j0 j0 (fa ti53 j0 j0 j0<|j4)),(fun _=>pa j0 j0 j0 j0 (pc (law1_Cut_ok v13.Type_ 12 q14) j0 j0 j0<|j4)),(fun _=>pa j0 j0 j0 j0 (ld ti9 j0 j0<|j4)),(fun _=>pa j0 j0 j0 j0 (fa ti53 j0 j0 j0<|j4)),(fun _=>pa j0 j0 j0 j0 (pc (law1_Cut_ok v13.Name 10 q13) j0 j0 j0<|j4)),(fun _=>pa j0 j0 j0 j0 (ld ti9 j0 j0<|j4)),(fun _=>pa j0 j0 j0 j0 (fa ti53 j0 j0 j0<|j4)),(fun _=>pa j0 j0 j0 j0 (ld ti25 j0 j0<|j4)),(fun _=>pa j0 j0 j0 j0 (fa ti28 j0 j0 j0<|j4)),j5⟩ (by kernel_rfl) j0 ⟨(fun h=>by cases h),(fun _ _=>⟨_,j0,j0,apM 6 ti25 j0 ti53 j0 j0 (by decide) ti25 j0 j0 j0 j0 (roX (f:=rApiField) (z:=[(ApiField.mk v14 v15 v13.Static)]) j0 j0) (fun _=>j0) j0 q15<|⟨(.msl 6 0 (List.length v16)),[13],[(48,.mpt 2 0 4),(47,.msl 6 0 (List.length v16))],j0,j0,by kernel_rfl,j0,dtS ⟨(fun _=>pa j0 j0 j0 j0 (fa ti28 j0 j0 j0<|j4)),(fun h=>by cases h),(fun _=>pa j0 j0 j0 j0 (ld ti4 j0 j0<|j4)),(fun _=>pa j0 j0 j0 j0 (fa ti53 j0 j0 j0<|j4)),(fun h=>by cases h),(fun _=>pa j0 j0 j0 j0 (ld ti9 j0 j0<|j4)),(fun _=>pa j0 j0 j0 j0 (fa ti53 j0 j0 j0<|j4)),(fun _=>pa j0 j0 j0 j0 (pc (law1_Cut_ok v13.Name 10 q13) j0 j0 j0<|j4)),(fun _=>pa j0 j0 j0 j0 (ld ti9 j0 j0<|j4)),(fun _=>pa j0 j0 j0 j0 (fa ti53 j0 j0 j0<|j4)),(fun h=>by cases h),(fun _=>pa j0 j0 j0 j0 (fa ti28 j0 j0 j0<|j4)),j5⟩ (by kernel_rfl) j0 ⟨(fun h=>by cases h),(fun h=>by cases h),(fun _ _=>⟨_,j0,j0,sto ti25 j0 j0 j0<|⟨.any,[],[],j0,j0,by kernel_rfl,j5,dt0 ⟨(fun h=>by cases h),(fun h=>by cases h),(fun h=>by cases h),(fun h=>by cases h),(fun h=>by cases h),(fun h=>by cases h),(fun h=>by cases h),(fun h=>by cases h),(fun h=>by cases h),(fun h=>by cases h),(fun h=>by cases h),(fun h=>by cases h),j5⟩ (by kernel_rfl) j0 ⟨[.old 0,.old 1,.old 2,.old 6],cv j0 (.mpt j0)<|cv j0 (.mpt j0)<|cv j0 (.mpt j0)<|ce j0 j0<|cn,j0,⟨⟨_,j0,rsOne ⟨ci j0,ci j0,ci j0,ci j0,ci j0,ci j0,j5⟩⟩,⟨_,j0,rsOne ⟨ci j0,ci j0,ci j0,ci j0,ci j0,ci j0,j5⟩⟩,⟨_,j0,rsOne ⟨ci j0,ci j0,ci j0,ci j0,.msl j0,ci j0,j5⟩⟩,⟨_,j0,rsMap (fun _=>j0)⟩,j5⟩,j0,j1⟩⟩⟩),j5⟩⟩⟩),(fun _ h=>by cases h),j5⟩⟩⟩),(fun _ h=>by cases h),(fun _ h=>by cases h),j5⟩) ?_
   refine rl j0<|u<|mv j0<|u<|add ti3 j0 j0<|u<|asg j0<|r_nil ?_
   obtain rfl:=sm h
   exact ⟨_,j0,[.old 0,.old 1,.old 2,.old 3],cv j0 (.mpt j0)<|cv j0 (.mpt j0)<|cv j0 (.mpt j0)<|ce j0 j0<|cn,j0,⟨⟨_,j0,rsOne ⟨ci j0,ci j0,ci j0,ci j0,ci j0,ci j0,j5⟩⟩,⟨_,j0,rsOne ⟨ci j0,ci j0,ci j0,ci j0,ci j0,ci j0,j5⟩⟩,⟨_,j0,rsOne ⟨ci j0,ci j0,ci j0,ci j0,.msl j0,ci j0,j5⟩⟩,⟨_,j0,rsMap (fun _=>j0)⟩,j5⟩,j0,j1⟩
  ·
   replace h:=bF hc11 h
   refine sw_exit ?_
   obtain rfl:=sm h
   exact ⟨j0,_,j0,[.old 0,.old 1,.old 2,.old 3],cv j0 (.mpt j0)<|cv j0 (.mpt j0)<|cv j0 (.mpt j0)<|cn,j0,⟨⟨_,j0,rsOne ⟨ci j0,ci j0,ci j0,ci j0,ci j0,ci j0,j5⟩⟩,⟨_,j0,rsOne ⟨ci j0,ci j0,ci j0,ci j0,ci j0,ci j0,j5⟩⟩,⟨_,j0,rsOne ⟨ci j0,ci j0,ci j0,ci j0,.msl j0,ci j0,j5⟩⟩,⟨_,j0,rsMap (fun _=>j0)⟩,j5⟩,j0,j1⟩
 ·
  rintro v17 rfl
  replace h : law5_Cut_k2 v1 v2 v3 v4 v17 = some r:=h
  unfold law5_Cut_k2 at h
  refine ow_intro ?_
  refine sw_seq ?_
  refine rg j0<|u<|asg j0<|r_nil ?_
  obtain ⟨o,ho,h⟩:=bs h
  refine sw_lpl (X:=(List ApiMethod) × Int) (B:=(List ApiMethod)) (R:=(List UInt8) × (List UInt8) × (List (List UInt8)) × (List ApiField) × (List ApiMethod)) (fun z=>[(1,.mpt 0 0 0),(2,.mpt 1 0 0),(3,.mpt 2 0 0),(6,iA z.2)]) (fun z=>[some (6,[[sA v1.Name,sA v1.Super,bA v1.Interface,.isl 1 (List.map rStr v1.Impl),.isl 3 (List.map rApiField v1.Fields),.isl 10 (List.map rApiMethod v1.Methods)]]),some (6,[[sA [],sA [],bA false,.lit (.slice none 0 0),.lit (.slice none 0 0),.lit (.slice none 0 0)]]),some (6,[[sA v2,sA v3,bA v1.Interface,.isl 1 (List.map rStr v4),.msl 3 0 (List.length v17),.msl 4 0 (List.length z.1)]]),some (3,List.map rApiField v17),some (10,List.map rApiMethod z.1)]) (fun b=>[(2,.mpt 0 0 0),(3,.mpt 1 0 0)]) (fun b=>[some (6,[[sA [],sA [],bA false,.lit (.slice none 0 0),.lit (.slice none 0 0),.lit (.slice none 0 0)]]),some (6,[[sA v2,sA v3,bA v1.Interface,.isl 1 (List.map rStr v4),.msl 2 0 (List.length v17),.msl 3 0 (List.length b)]]),some (3,List.map rApiField v17),some (10,List.map rApiMethod b)]) (fun r env st=>PostF Tryz.prog Tryz.f14 0 (.agg [sA r.1,sA r.2.1,bA v1.Interface,.isl 1 (List.map rStr r.2.2.1),.msl 0 0 (List.length r.2.2.2.1),.msl 1 0 (List.length r.2.2.2.2)]) [some (3,List.map rApiField r.2.2.2.1),some (10,List.map rApiMethod r.2.2.2.2)] env st) ho ⟨[.old 0,.old 1,.old 2,.old 3,.fresh 10],cv j0 (.mpt j0)<|cv j0 (.mpt j0)<|cv j0 (.mpt j0)<|ce j0 j0<|cn,j0,⟨⟨_,j0,rsOne ⟨ci j0,ci j0,ci j0,ci j0,ci j0,ci j0,j5⟩⟩,⟨_,j0,rsOne ⟨ci j0,ci j0,ci j0,ci j0,ci j0,ci j0,j5⟩⟩,⟨_,j0,rsOne ⟨ci j0,ci j0,ci j0,ci j0,.msl j0,.nilown j0,j5⟩⟩,⟨_,j0,rsMap (fun _=>j0)⟩,j4,j5⟩,j0,j1⟩ ?_ ?_ ?_
  ·
   rintro ⟨v23,v24⟩ r h
   replace h : law5_Cut_l3 v1 v23 v24 = some r:=h
   unfold law5_Cut_l3 at h
   refine sw_seq ?_
   refine rg j0<|u<|mv j0<|u<|fa ti28 j0 j0 j0<|u<|ld ti26 j0 j0<|u<|lnI ti26 j0 j0<|u<|lss ti3 j0 j0<|u<|mv j0<|r_and (j:=5) 2 j0 j0 j0 j0 j0 gpn (fun hb21=>g j0 hb21<|mv j0<|g j0 hb21<|lss ti3 j0 j0<|r_nil (egA [55,56] 2 hb21 j0 j0 j0 j0)) andF<|r_nil ?_
   refine sw_cond j0 (fun hc22=>?_) (fun hc22=>?_)
   ·
    replace h:=bT hc22 h
    refine sw_skip ?_
    refine sw_seq ?_
    refine sw_block ?_
    obtain ⟨v25,q23,h⟩:=bs h
    obtain ⟨v26,q24,h⟩:=bs h
    obtain ⟨v27,q25,h⟩:=bs h
    refine rdL [(1,.mpt 0 0 0),(2,.mpt 1 0 0),(3,.mpt 2 0 0),(6,iA v24)] [some (6,[[sA v1.Name,sA v1.Super,bA v1.Interface,.isl 1 (List.map rStr v1.Impl),.isl 3 (List.map rApiField v1.Fields),.isl 10 (List.map rApiMethod v1.Methods)]]),some (6,[[sA [],sA [],bA false,.lit (.slice none 0 0),.lit (.slice none 0 0),.lit (.slice none 0 0)]]),some (6,[[sA v2,sA v3,bA v1.Interface,.isl 1 (List.map rStr v4),.msl 3 0 (List.length v17),.msl 4 0 (List.length v27)]]),some (3,List.map rApiField v17),some (10,List.map rApiMethod v27)] [8,9,11] [7,6,5,4,3,2,1,0] [(67,.agg [sA v26.Name,.isl 1 (List.map rStr v26.Params),sA v26.Ret,bA v26.Static,bA v26.Abstract,iA v26.Locals,iA v26.Stack,.isl 4 (List.map rApiIns v26.Code),.isl 3 (List.map rApiMap v26.Maps),.isl 4 (List.map rApiTrap v26.Traps)]),(66,.agg [sA v25.Name,.isl 1 (List.map rStr v25.Params),sA v25.Ret,bA v25.Static,bA v25.Abstract,iA v25.Locals,iA v25.Stack,.isl 4 (List.map rApiIns v25.Code),.isl 3 (List.map rApiMap v25.Maps),.isl 4 (List.map rApiTrap v25.Traps)]),(65,.ipt 10 (List.map rApiMethod v1.Methods) (Int.toNat v24) 0),(64,iA v24),(63,.isl 10 (List.map rApiMethod v1.Methods)),(62,.mpt 0 0 5),(61,.msl 4 0 (List.length v23)),(60,.mpt 2 0 5)] 3 (by kernel_rfl) (by kernel_rfl) j0 (by kernel_rfl) (dtS ⟨(fun _=>pa j0 j0 j0 j0 (pc (law5_method_ok v25 q24) j0 j0 j0<|j4)),(fun _=>pa j0 j0 j0 j0 (ldI ti35 j0 (idx_some q23).2.2 j0<|j4)),(fun _=>pa j0 j0 j0 j0 (ixI ti26 j0 ti35 j0 j0 j0 q23<|j4)),(fun _=>pa j0 j0 j0 j0 (mv j0<|j4)),(fun _=>pa j0 j0 j0 j0 (ld ti26 j0 j0<|j4)),(fun _=>pa j0 j0 j0 j0 (fa ti28 j0 j0 j0<|j4)),(fun _=>pa j0 j0 j0 j0 (ld ti26 j0 j0<|j4)),(fun _=>pa j0 j0 j0 j0 (fa ti28 j0 j0 j0<|j4)),j5⟩ (by kernel_rfl) j0 ⟨(fun _ _=>⟨_,j0,j0,bl 5 ti26 j0 ti35 j0 (by decide) (by decide) j0 j0 j0<|⟨(.msl 5 0 1),[],[(68,.msl 5 0 1)],j0,j0,by kernel_rfl,j0,dtS ⟨(fun h=>by cases h),(fun _=>pa j0 j0 j0 j0 (ldI ti35 j0 (idx_some q23).2.2 j0<|j4)),(fun _=>pa j0 j0 j0 j0 (ixI ti26 j0 ti35 j0 j0 j0 q23<|j4)),(fun _=>pa j0 j0 j0 j0 (mv j0<|j4)),(fun _=>pa j0 j0 j0 j0 (ld ti26 j0 j0<|j4)),(fun _=>pa j0 j0 j0 j0 (fa ti28 j0 j0 j0<|j4)),(fun _=>pa j0 j0 j0 j0 (ld ti26 j0 j0<|j4)),(fun _=>pa j0 j0 j0 j0 (fa ti28 j0 j0 j0<|j4)),j5⟩ (by kernel_rfl) j0 ⟨(fun h=>by cases h),(fun _ _=>⟨_,j0,j0,apM 6 ti26 j0 ti35 j0 j0 (by decide) ti26 j0 j0 j0 j0 (roX (f:=rApiMethod) (z:=[v26]) j0 j0) (fun _=>j0) j0 q25<|⟨(.msl 6 0 (List.length v27)),[10],[(70,.mpt 2 0 5),(69,.msl 6 0 (List.length v27))],j0,j0,by kernel_rfl,j0,dtS ⟨(fun _=>pa j0 j0 j0 j0 (fa ti28 j0 j0 j0<|j4)),(fun h=>by cases h),(fun _=>pa j0 j0 j0 j0 (ldI ti35 j0 (idx_some q23).2.2 j0<|j4)),(fun _=>pa j0 j0 j0 j0 (ixI ti26 j0 ti35 j0 j0 j0 q23<|j4)),(fun _=>pa j0 j0 j0 j0 (mv j0<|j4)),(fun _=>pa j0 j0 j0 j0 (ld ti26 j0 j0<|j4)),(fun _=>pa j0 j0 j0 j0 (fa ti28 j0 j0 j0<|j4)),(fun h=>by cases h),(fun _=>pa j0 j0 j0 j0 (fa ti28 j0 j0 j0<|j4)),j5⟩ (by kernel_rfl) j0 ⟨(fun h=>by cases h),(fun h=>by cases h),(fun _ _=>⟨_,j0,j0,sto ti26 j0 j0 j0<|⟨.any,[],[],j0,j0,by kernel_rfl,j5,dt0 ⟨(fun h=>by cases h),(fun h=>by cases h),(fun h=>by cases h),(fun h=>by cases h),(fun h=>by cases h),(fun h=>by cases h),(fun h=>by cases h),(fun h=>by cases h),(fun h=>by cases h),j5⟩ (by kernel_rfl) j0 ⟨[.old 0,.old 1,.old 2,.old 3,.old 6],cv j0 (.mpt j0)<|cv j0 (.mpt j0)<|cv j0 (.mpt j0)<|ce j0 j0<|cn,j0,⟨⟨_,j0,rsOne ⟨ci j0,ci j0,ci j0,ci j0,ci j0,ci j0,j5⟩⟩,⟨_,j0,rsOne ⟨ci j0,ci j0,ci j0,ci j0,ci j0,ci j0,j5⟩⟩,⟨_,j0,rsOne ⟨ci j0,ci j0,ci j0,ci j0,.msl j0,.msl j0,j5⟩⟩,⟨_,j0,rsMap (fun _=>j0)⟩,⟨_,j0,rsMap (fun _=>j0)⟩,j5⟩,j0,j1⟩⟩⟩),j5⟩⟩⟩),(fun _ h=>by cases h),j5⟩⟩⟩),(fun _ h=>by cases h),(fun _ h=>by cases h),j5⟩) ?_
    refine rl j0<|u<|mv j0<|u<|add ti3 j0 j0<|u<|asg j0<|r_nil ?_
    obtain rfl:=sm h
    exact ⟨_,j0,[.old 0,.old 1,.old 2,.old 3,.old 4],cv j0 (.mpt j0)<|cv j0 (.mpt j0)<|cv j0 (.mpt j0)<|ce j0 j0<|cn,j0,⟨⟨_,j0,rsOne ⟨ci j0,ci j0,ci j0,ci j0,ci j0,ci j0,j5⟩⟩,⟨_,j0,rsOne ⟨ci j0,ci j0,ci j0,ci j0,ci j0,ci j0,j5⟩⟩,⟨_,j0,rsOne ⟨ci j0,ci j0,ci j0,ci j0,.msl j0,.msl j0,j5⟩⟩,⟨_,j0,rsMap (fun _=>j0)⟩,⟨_,j0,rsMap (fun _=>j0)⟩,j5⟩,j0,j1⟩
   ·
    replace h:=bF hc22 h
    refine sw_exit ?_
    obtain rfl:=sm h
    exact ⟨j0,_,j0,[.old 1,.old 2,.old 3,.old 4],cv j0 (.mpt j0)<|cv j0 (.mpt j0)<|cn,j0,⟨⟨_,j0,rsOne ⟨ci j0,ci j0,ci j0,ci j0,ci j0,ci j0,j5⟩⟩,⟨_,j0,rsOne ⟨ci j0,ci j0,ci j0,ci j0,.msl j0,.msl j0,j5⟩⟩,⟨_,j0,rsMap (fun _=>j0)⟩,⟨_,j0,rsMap (fun _=>j0)⟩,j5⟩,j0,j1⟩
  ·
   rintro v28 rfl
   replace h : law5_Cut_k4 v2 v3 v4 v17 v28 = some r:=h
   unfold law5_Cut_k4 at h
   refine ow_intro ?_
   refine rg j0<|u<|ld ti28 j0 j0<|u<|sto ti28 j0 j0 j0<|r_nil ?_
   refine sw_ret ?_
   obtain rfl:=sm h
   exact ⟨_,j0,[.old 2,.old 3],rsAgg ⟨(ci j0),(ci j0),(ci j0),(ci j0),(.msl j0),(.msl j0),j5⟩,j0,⟨⟨_,j0,rsMap (fun _=>j0)⟩,⟨_,j0,rsMap (fun _=>j0)⟩,j5⟩,j0,j1⟩
  ·
   rintro r' rfl env st hp
   obtain rfl:=sm h
   exact hp
 ·
  rintro r' rfl env st hp
  obtain rfl:=sm h
  exact hp
def law6_FileTruths_k2 (v1 : ApiClass) (v3 : (List UInt8) × (List UInt8) × (List (List UInt8)) × (List ApiField) × (List ApiMethod)) (v5 : (List UInt8) × (List UInt8) × (List (List UInt8)) × (List ApiField) × (List ApiMethod)) (v14 : List ApiField) : Option (Bool) :=
  (file_Encode (ApiClass.mk v3.1 v3.2.1 v1.Interface v3.2.2.1 v3.2.2.2.1 v3.2.2.2.2)).bind fun v16=>(file_Encode (ApiClass.mk v5.1 v5.2.1 ((ApiClass.mk v3.1 v3.2.1 v1.Interface v3.2.2.1 v3.2.2.2.1 v3.2.2.2.2).Interface) v5.2.2.1 v14 v5.2.2.2.2)).bind fun v17=>some ((((((List.length v16) : Int) == (0 : Int)) == (((List.length v17) : Int) == (0 : Int))) && (((List.length v16) : Int) == ((List.length v17) : Int))) && ((v16 == v17) == (((List.length v3.2.2.2.1 : Int) == (0 : Int)) || (((List.length v16) : Int) == (0 : Int)))))
def law6_FileTruths_l1 (v10 : List ApiField) (v11 : Int) : Option (Sum ((List ApiField) × Int) (Sum ((List ApiField)) (Bool))) :=
  cond (decide (v11 < ((List.length v10) : Int))) ((idx v10 v11).bind fun v12=>(idx v10 v11).bind fun v13=>some (.inl ((List.set v10 (Int.toNat v11) (ApiField.mk v13.Name v13.Type_ (!v12.Static))),(IntKind.i64.wrap (v11 + 1))))) (some (.inr (.inl v10)))
def law6_FileTruths (v1 : ApiClass) : Option (Bool) :=
  (law6_begun).bind fun v2=>cond (!v2) (some false) ((law5_Cut v1).bind fun v3=>(ref3_MayClass (ApiClass.mk v3.1 v3.2.1 v1.Interface v3.2.2.1 v3.2.2.2.1 v3.2.2.2.2)).bind fun v4=>cond (!v4) (some true) ((law5_Cut (ApiClass.mk v3.1 v3.2.1 v1.Interface v3.2.2.1 v3.2.2.2.1 v3.2.2.2.2)).bind fun v5=>(loopP (fun z=>law6_FileTruths_l1 z.1 z.2) (v5.2.2.2.1,0)).bind fun o=>leave o (fun b=>law6_FileTruths_k2 v1 v3 v5 b) some))
theorem law6_FileTruths_ok (v1 : ApiClass) {r : Bool} (h : law6_FileTruths v1 = some r) : PureC Tryz.prog 6 [.agg [sA v1.Name,sA v1.Super,bA v1.Interface,.isl 1 (List.map rStr v1.Impl),.isl 3 (List.map rApiField v1.Fields),.isl 10 (List.map rApiMethod v1.Methods)]] (bA r):=by
 refine pure_fn Tryz.func6 j0 (by kernel_rfl) j0 j0 ?_
 unfold law6_FileTruths at h
 refine rg j0<|u<|bx 0 6 j0 j0 j0 j0<|u<|asg j0<|r_nil ?_
 obtain ⟨v2,q1,h⟩:=bs h
 refine rg j0<|u<|pc (law6_begun_ok q1) j0 j0 j0<|u<|asg j0<|r_nil ?_
 refine sw_seq ?_
 refine rg j0<|u<|mv j0<|u<|nt j0<|r_nil ?_
 refine sw_cond j0 (fun hc2=>?_) (fun hc2=>?_)
 ·
  replace h:=bT hc2 h
  refine rg j0<|u<|asg j0<|r_nil ?_
  refine sw_ret ?_
  obtain rfl:=sm h
  exact ⟨_,j0,[],ci j0,j0,j5,j0,j1⟩
 ·
  replace h:=bF hc2 h
  refine sw_skip ?_
  obtain ⟨v3,q3,h⟩:=bs h
  refine rg j0<|u<|ld ti28 j0 j0<|u<|sc [] (law5_Cut_ok v1 q3) j0 j0 j0 j0 ⟨(rnI j0),j5⟩ j5<|r_can (env0:=[(1,.mpt 0 0 0),(12,.agg [sA v3.1,sA v3.2.1,bA v1.Interface,.isl 1 (List.map rStr v3.2.2.1),.msl 1 0 (List.length v3.2.2.2.1),.msl 2 0 (List.length v3.2.2.2.2)])]) (st0:=[some (6,[[sA v1.Name,sA v1.Super,bA v1.Interface,.isl 1 (List.map rStr v1.Impl),.isl 3 (List.map rApiField v1.Fields),.isl 10 (List.map rApiMethod v1.Methods)]]),some (3,List.map rApiField v3.2.2.2.1),some (10,List.map rApiMethod v3.2.2.2.2)]) ⟨[.old 0,.old 1,.old 2],cv j0 (.mpt j0)<|cv j0 (rsAgg ⟨(ci j0),(ci j0),(ci j0),(ci j0),(.msl j0),(.msl j0),j5⟩)<|cn,j0,⟨⟨_,j0,rsOne ⟨ci j0,ci j0,ci j0,ci j0,ci j0,ci j0,j5⟩⟩,⟨_,j0,rsMap (fun _=>j0)⟩,⟨_,j0,rsMap (fun _=>j0)⟩,j5⟩,j0,j1⟩<|u<|sto ti28 j0 j0 j0<|r_nil ?_
  refine sw_seq ?_
  obtain ⟨v4,q4,h⟩:=bs h
  refine rg j0<|u<|ld ti28 j0 j0<|u<|pcs (ref3_MayClass_ok (ApiClass.mk v3.1 v3.2.1 v1.Interface v3.2.2.1 v3.2.2.2.1 v3.2.2.2.2) q4) j0 j0 (.cons (sealAgg ⟨(si j0),(si j0),(si j0),(si j0),(sealM j0 (fun _=>j0)),(sealM j0 (fun _=>j0)),j5⟩) .nil) plainB<|u<|nt j0<|r_nil ?_
  refine sw_cond j0 (fun hc5=>?_) (fun hc5=>?_)
  ·
   replace h:=bT hc5 h
   refine rg j0<|u<|asg j0<|r_nil ?_
   refine sw_ret ?_
   obtain rfl:=sm h
   exact ⟨_,j0,[],ci j0,j0,j5,j0,j1⟩
  ·
   replace h:=bF hc5 h
   refine sw_skip ?_
   obtain ⟨v5,q6,h⟩:=bs h
   refine rg j0<|u<|ld ti28 j0 j0<|r_can (env0:=[(1,.mpt 0 0 0),(16,.agg [sA v3.1,sA v3.2.1,bA v1.Interface,.isl 1 (List.map rStr v3.2.2.1),.isl 3 (List.map rApiField v3.2.2.2.1),.isl 10 (List.map rApiMethod v3.2.2.2.2)])]) (st0:=[some (6,[[sA v3.1,sA v3.2.1,bA v1.Interface,.isl 1 (List.map rStr v3.2.2.1),.isl 3 (List.map rApiField v3.2.2.2.1),.isl 10 (List.map rApiMethod v3.2.2.2.2)]])]) ⟨[.old 0],cv j0 (.mpt j0)<|cv j0 (rsAgg ⟨(ci j0),(ci j0),(ci j0),(ci j0),(rsSeal j0 j0 (fun _=>j0)),(rsSeal j0 j0 (fun _=>j0)),j5⟩)<|cn,j0,⟨⟨_,j0,rsOne ⟨ci j0,ci j0,ci j0,ci j0,rsSeal j0 j0 (fun _=>j0),rsSeal j0 j0 (fun _=>j0),j5⟩⟩,j5⟩,j0,j1⟩<|u<|sc [] (law5_Cut_ok (ApiClass.mk v3.1 v3.2.1 v1.Interface v3.2.2.1 v3.2.2.2.1 v3.2.2.2.2) q6) j0 j0 j0 j0 ⟨(rnI j0),j5⟩ j5<|r_can (env0:=[(1,.mpt 0 0 0),(17,.agg [sA v5.1,sA v5.2.1,bA ((ApiClass.mk v3.1 v3.2.1 v1.Interface v3.2.2.1 v3.2.2.2.1 v3.2.2.2.2).Interface),.isl 1 (List.map rStr v5.2.2.1),.msl 1 0 (List.length v5.2.2.2.1),.msl 2 0 (List.length v5.2.2.2.2)])]) (st0:=[some (6,[[sA v3.1,sA v3.2.1,bA v1.Interface,.isl 1 (List.map rStr v3.2.2.1),.isl 3 (List.map rApiField v3.2.2.2.1),.isl 10 (List.map rApiMethod v3.2.2.2.2)]]),some (3,List.map rApiField v5.2.2.2.1),some (10,List.map rApiMethod v5.2.2.2.2)]) ⟨[.old 0,.old 1,.old 2],cv j0 (.mpt j0)<|cv j0 (rsAgg ⟨(ci j0),(ci j0),(ci j0),(ci j0),(.msl j0),(.msl j0),j5⟩)<|cn,j0,⟨⟨_,j0,rsOne ⟨ci j0,ci j0,ci j0,ci j0,ci j0,ci j0,j5⟩⟩,⟨_,j0,rsMap (fun _=>j0)⟩,⟨_,j0,rsMap (fun _=>j0)⟩,j5⟩,j0,j1⟩<|u<|al 3 ti28 j0<|u<|sto ti28 j0 j0 j0<|r_nil ?_
   refine sw_seq ?_
   refine rg j0<|u<|asg j0<|r_nil ?_
   obtain ⟨o,ho,h⟩:=bs h
   refine sw_lpl (X:=(List ApiField) × Int) (B:=(List ApiField)) (R:=Bool) (fun z=>[(1,.mpt 0 0 0),(4,.mpt 1 0 0),(5,iA z.2)]) (fun z=>[some (6,[[sA v3.1,sA v3.2.1,bA v1.Interface,.isl 1 (List.map rStr v3.2.2.1),.isl 3 (List.map rApiField v3.2.2.2.1),.isl 10 (List.map rApiMethod v3.2.2.2.2)]]),some (6,[[sA v5.1,sA v5.2.1,bA ((ApiClass.mk v3.1 v3.2.1 v1.Interface v3.2.2.1 v3.2.2.2.1 v3.2.2.2.2).Interface),.isl 1 (List.map rStr v5.2.2.1),.msl 2 0 (List.length z.1),.msl 3 0 (List.length v5.2.2.2.2)]]),some (3,List.map rApiField z.1),some (10,List.map rApiMethod v5.2.2.2.2)]) (fun b=>[(1,.mpt 0 0 0),(4,.mpt 1 0 0)]) (fun b=>[some (6,[[sA v3.1,sA v3.2.1,bA v1.Interface,.isl 1 (List.map rStr v3.2.2.1),.isl 3 (List.map rApiField v3.2.2.2.1),.isl 10 (List.map rApiMethod v3.2.2.2.2)]]),some (6,[[sA v5.1,sA v5.2.1,bA ((ApiClass.mk v3.1 v3.2.1 v1.Interface v3.2.2.1 v3.2.2.2.1 v3.2.2.2.2).Interface),.isl 1 (List.map rStr v5.2.2.1),.msl 2 0 (List.length b),.msl 3 0 (List.length v5.2.2.2.2)]]),some (3,List.map rApiField b),some (10,List.map rApiMethod v5.2.2.2.2)]) (fun r env st=>PostF Tryz.prog Tryz.f6 0 (bA r) [] env st) ho ⟨[.old 0,.old 3,.old 1,.old 2],cv j0 (.mpt j0)<|cv j0 (.mpt j0)<|ce j0 j0<|cn,j0,⟨⟨_,j0,rsOne ⟨ci j0,ci j0,ci j0,ci j0,ci j0,ci j0,j5⟩⟩,⟨_,j0,rsOne ⟨ci j0,ci j0,ci j0,ci j0,.msl j0,.msl j0,j5⟩⟩,⟨_,j0,rsMap (fun _=>j0)⟩,⟨_,j0,rsMap (fun _=>j0)⟩,j5⟩,j0,j1⟩ ?_ ?_ ?_
   ·
    rintro ⟨v10,v11⟩ r h
    replace h : law6_FileTruths_l1 v10 v11 = some r:=h
    unfold law6_FileTruths_l1 at h
    refine sw_seq ?_
    refine rg j0<|u<|mv j0<|u<|fa ti28 j0 j0 j0<|u<|ld ti25 j0 j0<|u<|lnM ti25 j0 j0 j0<|u<|lss ti3 j0 j0<|r_nil ?_
    refine sw_cond j0 (fun hc10=>?_) (fun hc10=>?_)
    ·
     replace h:=bT hc10 h
     refine sw_skip ?_
     refine sw_seq ?_
     refine sw_block ?_
     obtain ⟨v12,q11,h⟩:=bs h
     obtain ⟨v13,q12,h⟩:=bs h
     refine rdL [(1,.mpt 0 0 0),(4,.mpt 1 0 0),(5,iA v11)] [some (6,[[sA v3.1,sA v3.2.1,bA v1.Interface,.isl 1 (List.map rStr v3.2.2.1),.isl 3 (List.map rApiField v3.2.2.2.1),.isl 10 (List.map rApiMethod v3.2.2.2.2)]]),some (6,[[sA v5.1,sA v5.2.1,bA ((ApiClass.mk v3.1 v3.2.1 v1.Interface v3.2.2.1 v3.2.2.2.1 v3.2.2.2.2).Interface),.isl 1 (List.map rStr v5.2.2.1),.msl 2 0 (List.length (List.set v10 (Int.toNat v11) (ApiField.mk v13.Name v13.Type_ (!v12.Static)))),.msl 3 0 (List.length v5.2.2.2.2)]]),some (3,List.map rApiField (List.set v10 (Int.toNat v11) (ApiField.mk v13.Name v13.Type_ (!v12.Static)))),some (10,List.map rApiMethod v5.2.2.2.2)] [12] [11,10,9,8,7,6,5,4,3,2,1,0] [(36,.mpt 2 (Int.toNat v11) 2),(35,.mpt 2 (Int.toNat v11) 0),(34,bA (!v12.Static)),(33,bA v12.Static),(32,.mpt 2 (Int.toNat v11) 2),(31,.mpt 2 (Int.toNat v11) 0),(30,iA v11),(29,.msl 2 0 (List.length v10)),(28,.mpt 1 0 4),(27,iA v11),(26,.msl 2 0 (List.length v10)),(25,.mpt 1 0 4)] 1 (by kernel_rfl) (by kernel_rfl) j0 (by kernel_rfl) (dtS ⟨(fun _=>pa j0 j0 j0 j0 (fa ti53 j0 j0 j0<|j4)),(fun _=>pa j0 j0 j0 j0 (ixM ti25 j0 ti53 j0 j0 j0 j0 q12<|j4)),(fun _=>pa j0 j0 j0 j0 (nt j0<|j4)),(fun _=>pa j0 j0 j0 j0 (ldM ti4 j0 j0 (idx_some q11).2.2 j0<|j4)),(fun _=>pa j0 j0 j0 j0 (fa ti53 j0 j0 j0<|j4)),(fun _=>pa j0 j0 j0 j0 (ixM ti25 j0 ti53 j0 j0 j0 j0 q11<|j4)),(fun _=>pa j0 j0 j0 j0 (mv j0<|j4)),(fun _=>pa j0 j0 j0 j0 (ld ti25 j0 j0<|j4)),(fun _=>pa j0 j0 j0 j0 (fa ti28 j0 j0 j0<|j4)),(fun _=>pa j0 j0 j0 j0 (mv j0<|j4)),(fun _=>pa j0 j0 j0 j0 (ld ti25 j0 j0<|j4)),(fun _=>pa j0 j0 j0 j0 (fa ti28 j0 j0 j0<|j4)),j5⟩ (by kernel_rfl) j0 ⟨(fun _ _=>⟨_,j0,j0,stoM (c':=(ApiField.mk v13.Name v13.Type_ (!v12.Static))) ti4 j0 j0 (idx_some q12).2.2 j0 j0 j0 j0 j0<|⟨.any,[],[],j0,j0,by kernel_rfl,j5,dt0 ⟨(fun h=>by cases h),(fun _=>pa j0 j0 j0 j0 (ixMS (by simp) ti25 j0 ti53 j0 j0 j0 j0 (idx_set q12)<|j4)),(fun h=>by cases h),(fun h=>by cases h),(fun h=>by cases h),(fun h=>by cases h),(fun h=>by cases h),(fun h=>by cases h),(fun h=>by cases h),(fun h=>by cases h),(fun h=>by cases h),(fun h=>by cases h),j5⟩ (by kernel_rfl) j0 ⟨[.old 0,.old 1,.old 2,.old 3],cv j0 (.mpt j0)<|cv j0 (.mpt j0)<|ce j0 j0<|cn,j0,⟨⟨_,j0,rsOne ⟨ci j0,ci j0,ci j0,ci j0,ci j0,ci j0,j5⟩⟩,⟨_,j0,rsOne ⟨ci j0,ci j0,ci j0,ci j0,mslE (by simp) j0,.msl j0,j5⟩⟩,⟨_,j0,rsMap (fun _=>j0)⟩,⟨_,j0,rsMap (fun _=>j0)⟩,j5⟩,j0,j1⟩⟩⟩),j5⟩) ?_
     refine rl j0<|u<|mv j0<|u<|add ti3 j0 j0<|u<|asg j0<|r_nil ?_
     obtain rfl:=sm h
     exact ⟨_,j0,[.old 0,.old 1,.old 2,.old 3],cv j0 (.mpt j0)<|cv j0 (.mpt j0)<|ce j0 j0<|cn,j0,⟨⟨_,j0,rsOne ⟨ci j0,ci j0,ci j0,ci j0,ci j0,ci j0,j5⟩⟩,⟨_,j0,rsOne ⟨ci j0,ci j0,ci j0,ci j0,.msl j0,.msl j0,j5⟩⟩,⟨_,j0,rsMap (fun _=>j0)⟩,⟨_,j0,rsMap (fun _=>j0)⟩,j5⟩,j0,j1⟩
    ·
     replace h:=bF hc10 h
     refine sw_exit ?_
     obtain rfl:=sm h
     exact ⟨j0,_,j0,[.old 0,.old 1,.old 2,.old 3],cv j0 (.mpt j0)<|cv j0 (.mpt j0)<|cn,j0,⟨⟨_,j0,rsOne ⟨ci j0,ci j0,ci j0,ci j0,ci j0,ci j0,j5⟩⟩,⟨_,j0,rsOne ⟨ci j0,ci j0,ci j0,ci j0,.msl j0,.msl j0,j5⟩⟩,⟨_,j0,rsMap (fun _=>j0)⟩,⟨_,j0,rsMap (fun _=>j0)⟩,j5⟩,j0,j1⟩
   ·
    rintro v14 rfl
    replace h : law6_FileTruths_k2 v1 v3 v5 v14 = some r:=h
    unfold law6_FileTruths_k2 at h
    refine ow_intro ?_
    refine sw_can (env0:=[(1,.mpt 0 0 0),(4,.mpt 1 0 0)]) (st0:=[some (6,[[sA v3.1,sA v3.2.1,bA v1.Interface,.isl 1 (List.map rStr v3.2.2.1),.isl 3 (List.map rApiField v3.2.2.2.1),.isl 10 (List.map rApiMethod v3.2.2.2.2)]]),some (6,[[sA v5.1,sA v5.2.1,bA ((ApiClass.mk v3.1 v3.2.1 v1.Interface v3.2.2.1 v3.2.2.2.1 v3.2.2.2.2).Interface),.isl 1 (List.map rStr v5.2.2.1),.isl 3 (List.map rApiField v14),.isl 10 (List.map rApiMethod v5.2.2.2.2)]])]) ⟨[.old 0,.old 1],cv j0 (.mpt j0)<|cv j0 (.mpt j0)<|cn,j0,⟨⟨_,j0,rsOne ⟨ci j0,ci j0,ci j0,ci j0,ci j0,ci j0,j5⟩⟩,⟨_,j0,rsOne ⟨ci j0,ci j0,ci j0,ci j0,rsSeal j0 j0 (fun _=>j0),rsSeal j0 j0 (fun _=>j0),j5⟩⟩,j5⟩,j0,j1⟩ ?_
    obtain ⟨v16,q14,h⟩:=bs h
    obtain ⟨v17,q15,h⟩:=bs h
    refine rd [(1,.mpt 0 0 0),(6,.msl 1 0 (List.length v16)),(7,.msl 2 0 (List.length v17))] [some (6,[[sA v3.1,sA v3.2.1,bA v1.Interface,.isl 1 (List.map rStr v3.2.2.1),.isl 3 (List.map rApiField v3.2.2.2.1),.isl 10 (List.map rApiMethod v3.2.2.2.2)]]),some (1,List.map byteRow v16),some (1,List.map byteRow v17)] [1,3] [2,0] [(39,.agg [sA v5.1,sA v5.2.1,bA ((ApiClass.mk v3.1 v3.2.1 v1.Interface v3.2.2.1 v3.2.2.2.1 v3.2.2.2.2).Interface),.isl 1 (List.map rStr v5.2.2.1),.isl 3 (List.map rApiField v14),.isl 10 (List.map rApiMethod v5.2.2.2.2)]),(37,.agg [sA v3.1,sA v3.2.1,bA v1.Interface,.isl 1 (List.map rStr v3.2.2.1),.isl 3 (List.map rApiField v3.2.2.2.1),.isl 10 (List.map rApiMethod v3.2.2.2.2)])] 2 (by kernel_rfl) (by kernel_rfl) j0 (by kernel_rfl) (dtS ⟨(fun _=>pa j0 j0 j0 j0 (ld ti28 j0 j0<|j4)),(fun _=>pa j0 j0 j0 j0 (ld ti28 j0 j0<|j4)),j5⟩ (by kernel_rfl) j0 ⟨(fun _ _=>⟨_,j0,j0,sc [] (file_Encode_ok (ApiClass.mk v3.1 v3.2.1 v1.Interface v3.2.2.1 v3.2.2.2.1 v3.2.2.2.2) q14) j0 j0 j0 j0 ⟨(rnI j0),j5⟩ j5<|⟨(.msl 2 0 (List.length v16)),[],[(38,.msl 2 0 (List.length v16))],j0,j0,by kernel_rfl,j0,dtS ⟨(fun _=>pa j0 j0 j0 j0 (ld ti28 j0 j0<|j4)),(fun h=>by cases h),j5⟩ (by kernel_rfl) j0 ⟨(fun h=>by cases h),(fun _ _=>⟨_,j0,j0,sc [] (file_Encode_ok (ApiClass.mk v5.1 v5.2.1 ((ApiClass.mk v3.1 v3.2.1 v1.Interface v3.2.2.1 v3.2.2.2.1 v3.2.2.2.2).Interface) v5.2.2.1 v14 v5.2.2.2.2) q15) j0 j0 j0 j0 ⟨(rnI j0),j5⟩ j5<|⟨(.msl 3 0 (List.length v17)),[5,4],[(7,.msl 3 0 (List.length v17)),(6,.msl 2 0 (List.length v16)),(40,.msl 3 0 (List.length v17))],j0,j0,by kernel_rfl,j0,dt0 ⟨(fun _=>pa j0 j0 j0 j0 (asg j0<|j4)),(fun _=>pa j0 j0 j0 j0 (asg j0<|j4)),(fun h=>by cases h),(fun h=>by cases h),j5⟩ (by kernel_rfl) j0 ⟨[.old 0,.old 2,.old 3],cv j0 (.mpt j0)<|cv j0 (.msl j0)<|cv j0 (.msl j0)<|cn,j0,⟨⟨_,j0,rsOne ⟨ci j0,ci j0,ci j0,ci j0,ci j0,ci j0,j5⟩⟩,⟨_,j0,rsMap (fun _=>j0)⟩,⟨_,j0,rsMap (fun _=>j0)⟩,j5⟩,j0,j1⟩⟩⟩),j5⟩⟩⟩),(fun _ h=>by cases h),j5⟩) ?_
    refine rg j0<|u<|mv j0<|u<|lnM ti43 j0 j0 j0<|u<|eql ti3 j0 j0<|u<|mv j0<|u<|lnM ti43 j0 j0 j0<|u<|eql ti3 j0 j0<|u<|beq ti4 j0 j0 j0<|u<|mv j0<|r_and (j:=7) 5 j0 j0 j0 j0 j0 gpn (fun hb16=>g j0 hb16<|mv j0<|g j0 hb16<|lnM ti43 j0 j0 j0<|g j0 hb16<|mv j0<|g j0 hb16<|lnM ti43 j0 j0 j0<|g j0 hb16<|eql ti3 j0 j0<|r_nil (egA [49,50,51,52,53] 5 hb16 j0 j0 j0 j0)) andF<|u<|mv j0<|r_and (j:=14) 15 j0 j0 j0 j0 j0 gpn (fun hb17=>g j0 hb17<|mv j0<|g j0 hb17<|cvt (l:=v16) ti43 ti9 j0 j0 ti5 j0 j0 (fun _ h=>by cases h) (roM j0)<|g j0 hb17<|mv j0<|g j0 hb17<|cvt (l:=v17) ti43 ti9 j0 j0 ti5 j0 j0 (fun _ h=>by cases h) (roM j0)<|g j0 hb17<|seq ti9 j0 j0<|g j0 hb17<|fa ti28 j0 j0 j0<|g j0 hb17<|ld ti25 j0 j0<|g j0 hb17<|lnI ti25 j0 j0<|g j0 hb17<|eql ti3 j0 j0<|g j0 hb17<|mv j0<|r_or (j:=24) 3 j0 j0 j0 j0 j0 (gps j0 j0 hb17) (fun hb18=>g j0 hb18<|mv j0<|g j0 hb18<|lnM ti43 j0 j0 j0<|g j0 hb18<|eql ti3 j0 j0<|r_nil (egO [66,67,68] 3 hb18 j0 j0 j0 j0)) orT<|g j0 hb17<|beq ti4 j0 j0 j0<|r_nil (egA [56,57,58,59,60,61,62,63,64,65,66,67,68,69,70] 12 hb17 j0 j0 j0 j0)) andF<|u<|asg j0<|r_nil ?_
    refine sw_ret ?_
    obtain rfl:=sm h
    exact ⟨_,j0,[],ci j0,j0,j5,j0,j1⟩
   ·
    rintro r' rfl env st hp
    obtain rfl:=sm h
    exact hp
end
end Go.Proofs.YtdhpdpkcfffpiaaGreat
namespace Go.Proofs.YtdhpdpkcfffpiaaGreat
set_option linter.unusedVariables false
set_option maxRecDepth 100000
set_option maxHeartbeats 4000000
def wApiField (x : ApiField) : Prop := (wS) x.Name ∧ (wS) x.Type_ ∧ (wT) x.Static
theorem gdApiField {n : Nat} {avs : List AV} (h : Good Tryz.prog (n + 2) 53 avs) : ∃ x : ApiField, avs = rApiField x ∧ wApiField x := by
  obtain ⟨parts, rfl, hl, hg⟩ := gdF Tryz.underlying53 h
  match parts, hl with
  | [p0, p1, p2], _ =>
    obtain ⟨x0, rfl, w0⟩ := gdS Tryz.underlying9 (hg 0 _ p0 rfl rfl)
    obtain ⟨x1, rfl, w1⟩ := gdS Tryz.underlying9 (hg 1 _ p1 rfl rfl)
    obtain ⟨x2, rfl, w2⟩ := gdB Tryz.underlying4 (hg 2 _ p2 rfl rfl)
    exact ⟨⟨x0, x1, x2⟩, rfl, w0, w1, w2⟩
def wApiIns (x : ApiIns) : Prop := (wI .i64) x.Op ∧ (wI .i64) x.A ∧ (wS) x.C ∧ (wS) x.M
theorem gdApiIns {n : Nat} {avs : List AV} (h : Good Tryz.prog (n + 2) 37 avs) : ∃ x : ApiIns, avs = rApiIns x ∧ wApiIns x := by
  obtain ⟨parts, rfl, hl, hg⟩ := gdF Tryz.underlying37 h
  match parts, hl with
  | [p0, p1, p2, p3], _ =>
    obtain ⟨x0, rfl, w0⟩ := gdI Tryz.underlying3 (hg 0 _ p0 rfl rfl)
    obtain ⟨x1, rfl, w1⟩ := gdI Tryz.underlying3 (hg 1 _ p1 rfl rfl)
    obtain ⟨x2, rfl, w2⟩ := gdS Tryz.underlying9 (hg 2 _ p2 rfl rfl)
    obtain ⟨x3, rfl, w3⟩ := gdS Tryz.underlying9 (hg 3 _ p3 rfl rfl)
    exact ⟨⟨x0, x1, x2, x3⟩, rfl, w0, w1, w2, w3⟩
def wApiMap (x : ApiMap) : Prop := (wI .i64) x.At ∧ (wL (wS)) x.Locals ∧ (wL (wS)) x.Stack
theorem gdApiMap {n : Nat} {avs : List AV} (h : Good Tryz.prog (n + 3) 39 avs) : ∃ x : ApiMap, avs = rApiMap x ∧ wApiMap x := by
  obtain ⟨parts, rfl, hl, hg⟩ := gdF Tryz.underlying39 h
  match parts, hl with
  | [p0, p1, p2], _ =>
    obtain ⟨x0, rfl, w0⟩ := gdI Tryz.underlying3 (hg 0 _ p0 rfl rfl)
    obtain ⟨x1, rfl, w1⟩ := gdL (k := 1) Tryz.underlying24 (by kernel_rfl) (fun h => gdS Tryz.underlying9 h) (hg 1 _ p1 rfl rfl)
    obtain ⟨x2, rfl, w2⟩ := gdL (k := 1) Tryz.underlying24 (by kernel_rfl) (fun h => gdS Tryz.underlying9 h) (hg 2 _ p2 rfl rfl)
    exact ⟨⟨x0, x1, x2⟩, rfl, w0, w1, w2⟩
def wApiTrap (x : ApiTrap) : Prop := (wI .i64) x.From ∧ (wI .i64) x.To ∧ (wI .i64) x.At ∧ (wS) x.C
theorem gdApiTrap {n : Nat} {avs : List AV} (h : Good Tryz.prog (n + 2) 113 avs) : ∃ x : ApiTrap, avs = rApiTrap x ∧ wApiTrap x := by
  obtain ⟨parts, rfl, hl, hg⟩ := gdF Tryz.underlying113 h
  match parts, hl with
  | [p0, p1, p2, p3], _ =>
    obtain ⟨x0, rfl, w0⟩ := gdI Tryz.underlying3 (hg 0 _ p0 rfl rfl)
    obtain ⟨x1, rfl, w1⟩ := gdI Tryz.underlying3 (hg 1 _ p1 rfl rfl)
    obtain ⟨x2, rfl, w2⟩ := gdI Tryz.underlying3 (hg 2 _ p2 rfl rfl)
    obtain ⟨x3, rfl, w3⟩ := gdS Tryz.underlying9 (hg 3 _ p3 rfl rfl)
    exact ⟨⟨x0, x1, x2, x3⟩, rfl, w0, w1, w2, w3⟩
def wApiMethod (x : ApiMethod) : Prop := (wS) x.Name ∧ (wL (wS)) x.Params ∧ (wS) x.Ret ∧ (wT) x.Static ∧ (wT) x.Abstract ∧ (wI .i64) x.Locals ∧ (wI .i64) x.Stack ∧ (wL (wApiIns)) x.Code ∧ (wL (wApiMap)) x.Maps ∧ (wL (wApiTrap)) x.Traps
theorem gdApiMethod {n : Nat} {avs : List AV} (h : Good Tryz.prog (n + 5) 35 avs) : ∃ x : ApiMethod, avs = rApiMethod x ∧ wApiMethod x := by
  obtain ⟨parts, rfl, hl, hg⟩ := gdF Tryz.underlying35 h
  match parts, hl with
  | [p0, p1, p2, p3, p4, p5, p6, p7, p8, p9], _ =>
    obtain ⟨x0, rfl, w0⟩ := gdS Tryz.underlying9 (hg 0 _ p0 rfl rfl)
    obtain ⟨x1, rfl, w1⟩ := gdL (k := 1) Tryz.underlying24 (by kernel_rfl) (fun h => gdS Tryz.underlying9 h) (hg 1 _ p1 rfl rfl)
    obtain ⟨x2, rfl, w2⟩ := gdS Tryz.underlying9 (hg 2 _ p2 rfl rfl)
    obtain ⟨x3, rfl, w3⟩ := gdB Tryz.underlying4 (hg 3 _ p3 rfl rfl)
    obtain ⟨x4, rfl, w4⟩ := gdB Tryz.underlying4 (hg 4 _ p4 rfl rfl)
    obtain ⟨x5, rfl, w5⟩ := gdI Tryz.underlying3 (hg 5 _ p5 rfl rfl)
    obtain ⟨x6, rfl, w6⟩ := gdI Tryz.underlying3 (hg 6 _ p6 rfl rfl)
    obtain ⟨x7, rfl, w7⟩ := gdL (k := 4) Tryz.underlying31 (by kernel_rfl) (fun h => gdApiIns h) (hg 7 _ p7 rfl rfl)
    obtain ⟨x8, rfl, w8⟩ := gdL (k := 3) Tryz.underlying32 (by kernel_rfl) (fun h => gdApiMap h) (hg 8 _ p8 rfl rfl)
    obtain ⟨x9, rfl, w9⟩ := gdL (k := 4) Tryz.underlying33 (by kernel_rfl) (fun h => gdApiTrap h) (hg 9 _ p9 rfl rfl)
    exact ⟨⟨x0, x1, x2, x3, x4, x5, x6, x7, x8, x9⟩, rfl, w0, w1, w2, w3, w4, w5, w6, w7, w8, w9⟩
def wApiClass (x : ApiClass) : Prop := (wS) x.Name ∧ (wS) x.Super ∧ (wT) x.Interface ∧ (wL (wS)) x.Impl ∧ (wL (wApiField)) x.Fields ∧ (wL (wApiMethod)) x.Methods
theorem gdApiClass {n : Nat} {avs : List AV} (h : Good Tryz.prog (n + 7) 28 avs) : ∃ x : ApiClass, avs = rApiClass x ∧ wApiClass x := by
  obtain ⟨parts, rfl, hl, hg⟩ := gdF Tryz.underlying28 h
  match parts, hl with
  | [p0, p1, p2, p3, p4, p5], _ =>
    obtain ⟨x0, rfl, w0⟩ := gdS Tryz.underlying9 (hg 0 _ p0 rfl rfl)
    obtain ⟨x1, rfl, w1⟩ := gdS Tryz.underlying9 (hg 1 _ p1 rfl rfl)
    obtain ⟨x2, rfl, w2⟩ := gdB Tryz.underlying4 (hg 2 _ p2 rfl rfl)
    obtain ⟨x3, rfl, w3⟩ := gdL (k := 1) Tryz.underlying24 (by kernel_rfl) (fun h => gdS Tryz.underlying9 h) (hg 3 _ p3 rfl rfl)
    obtain ⟨x4, rfl, w4⟩ := gdL (k := 3) Tryz.underlying25 (by kernel_rfl) (fun h => gdApiField h) (hg 4 _ p4 rfl rfl)
    obtain ⟨x5, rfl, w5⟩ := gdL (k := 10) Tryz.underlying26 (by kernel_rfl) (fun h => gdApiMethod h) (hg 5 _ p5 rfl rfl)
    exact ⟨⟨x0, x1, x2, x3, x4, x5⟩, rfl, w0, w1, w2, w3, w4, w5⟩
end Go.Proofs.YtdhpdpkcfffpiaaGreat
namespace Go.Proofs.YtdhpdpkcfffpiaaGreat
set_option linter.unusedSimpArgs false
set_option linter.unusedVariables false
theorem idx_nat {α : Type} (l : List α) (i : Nat) : idx l (i : Int) = l[i]? := by
  unfold idx
  rw [if_pos (by omega), Int.toNat_natCast]
theorem idx_zero {α : Type} (l : List α) : idx l 0 = l[0]? := idx_nat l 0
theorem wrapI {n : Int} (h1 : -9223372036854775808 ≤ n) (h2 : n ≤ 9223372036854775807) : IntKind.i64.wrap n = n := IntWalk.i64_in n ⟨h1, h2⟩
theorem wrap_succ {i : Nat} (h : i < 9223372036854775807) : IntKind.i64.wrap ((i : Int) + 1) = ((i + 1 : Nat) : Int) := by
  rw [wrapI (by omega) (by omega)]; omega
theorem cutP_some {α : Type} {l : List α} {a b : Int} (h0 : 0 ≤ a) (h1 : a ≤ b) (h2 : b ≤ l.length) : cutP l a b = some ((l.drop a.toNat).take (b.toNat - a.toNat)) := by
  unfold cutP; rw [if_pos ⟨h0, h1, h2⟩]
theorem cutP_to {α : Type} {l : List α} {b : Nat} (h : b ≤ l.length) : cutP l 0 (b : Int) = some (l.take b) := by
  rw [cutP_some (by omega) (by omega) (by omega)]; simp
theorem cutP_from {α : Type} {l : List α} {a : Nat} (h : a ≤ l.length) : cutP l (a : Int) (l.length : Int) = some (l.drop a) := by
  rw [cutP_some (by omega) (by omega) (by omega)]
  simp only [Int.toNat_natCast]
  rw [List.take_of_length_le (by simp)]
theorem appP_ok {α : Type} {w : Nat} {l x : List α} (h : (l.length + x.length) * w ≤ 140737488355328) (h2 : l.length + x.length ≤ 9223372036854775807) : appP w l x = some (l ++ x) := by
  unfold appP; rw [if_pos ⟨h, h2⟩]
theorem appP1 {l x : List UInt8} (h : l.length + x.length ≤ 140737488355328) : appP 1 l x = some (l ++ x) := appP_ok (by omega) (by omega)
def ends {R U : Type} (u : U) : Option R → Sum U R
  | some r => .inr r
  | none => .inl u
def asks {R U : Type} (i : Nat) : Option R → Sum Int (Sum U R)
  | some r => .inr (.inr r)
  | none => .inl ((i + 1 : Nat) : Int)
theorem loop_from {α R U : Type} {body : Int → Option (Sum Int (Sum U R))} {l : List α} {g : α → Option R} {u : U} {k : Nat}
    (hb : ∀ (i : Nat) x, k ≤ i → l[i]? = some x → body (i : Int) = some (asks i (g x)))
    (he : body (l.length : Int) = some (.inr (.inl u))) (hk : k ≤ l.length) : loopP body (k : Int) = some (ends u ((l.drop k).findSome? g)) := by
  have key : ∀ d i, l.length - i = d → k ≤ i → i ≤ l.length → loopP body (i : Int) = some (ends u ((l.drop i).findSome? g)) := by
    intro d
    induction d with
    | zero =>
      intro i hd hki hi
      have : i = l.length := by omega
      subst this
      rw [loopP_eq, he, List.drop_length]
      rfl
    | succ d ih =>
      intro i hd hki hi
      have hlt : i < l.length := by omega
      rw [loopP_eq, hb i l[i] hki (List.getElem?_eq_getElem hlt), List.drop_eq_getElem_cons hlt, List.findSome?_cons]
      cases g l[i] with
      | some r => rfl
      | none =>
        show loopP body ((i + 1 : Nat) : Int) = _
        exact ih (i + 1) (by omega) (by omega) (by omega)
  exact key _ k rfl (Nat.le_refl _) hk
theorem loop_list {α R U : Type} {body : Int → Option (Sum Int (Sum U R))} {l : List α} {g : α → Option R} {u : U}
    (hb : ∀ (i : Nat) x, l[i]? = some x → body (i : Int) = some (asks i (g x)))
    (he : body (l.length : Int) = some (.inr (.inl u))) : loopP body 0 = some (ends u (l.findSome? g)) :=
  loop_from (k := 0) (fun i x _ => hb i x) he (Nat.zero_le _)
theorem findSome_any {α R : Type} (l : List α) (p : α → Bool) (r : R) : l.findSome? (fun x => cond (p x) (some r) none) = cond (l.any p) (some r) none := by
  induction l with
  | nil => rfl
  | cons x l ih =>
    rw [List.findSome?_cons, List.any_cons]
    cases p x with
    | true => rfl
    | false => simpa using ih
end Go.Proofs.YtdhpdpkcfffpiaaGreat
namespace Go.Proofs.YtdhpdpkcfffpiaaGreat
def zig (n : Int) : Nat := if n < 0 then (-2 * n - 1).toNat else (2 * n).toNat
def putF : Nat → Nat → List UInt8
  | 0, _ => []
  | k + 1, u => if 127 < u then UInt8.ofNat (u % 128 + 128) :: putF k (u / 128) else [UInt8.ofNat u]
def put (n : Int) : List UInt8 := putF 10 (zig n)
theorem zig_lt {n : Int} (h1 : -9223372036854775808 ≤ n) (h2 : n ≤ 9223372036854775807) : zig n < 18446744073709551616 := by
  unfold zig; split <;> omega
theorem putF_length (k u : Nat) : (putF k u).length ≤ k := by
  induction k generalizing u with
  | zero => simp [putF]
  | succ k ih => simp only [putF]; split <;> simp; exact ih _
theorem put_length (n : Int) : (put n).length ≤ 10 := putF_length _ _
theorem wrap_u64 (n : Int) : IntKind.u64.wrap n = n % 18446744073709551616 := by
  simp [IntKind.wrap, IntKind.bits, IntKind.signed]
theorem wrap_i64 {n : Int} (h1 : -9223372036854775808 ≤ n) (h2 : n ≤ 9223372036854775807) : IntKind.i64.wrap n = n := IntWalk.i64_in n ⟨h1, h2⟩
theorem zig_pos {n : Int} (h1 : 0 ≤ n) (h2 : n ≤ 9223372036854775807) : IntKind.u64.wrap (IntKind.u64.wrap n * 2 ^ (min 1 64)) = ((zig n : Nat) : Int) := by
  rw [wrap_u64, wrap_u64]; unfold zig; rw [if_neg (by omega)]
  have : (2 : Int) ^ (min 1 64) = 2 := by decide
  rw [this]; omega
theorem zig_neg {n : Int} (h1 : -9223372036854775808 ≤ n) (h2 : n < 0) :
    IntKind.u64.wrap (BitVec.ofInt 64 IntKind.u64.max ^^^ BitVec.ofInt 64 (IntKind.u64.wrap (IntKind.u64.wrap n * 2 ^ (min 1 64)))).toNat = ((zig n : Nat) : Int) := by
  have e1 : (2 : Int) ^ (min 1 64) = 2 := by decide
  rw [e1, wrap_u64, wrap_u64, wrap_u64]
  obtain ⟨q, hq⟩ : ∃ q : Nat, n % 18446744073709551616 * 2 % 18446744073709551616 = q ∧ q < 18446744073709551616 := ⟨(n % 18446744073709551616 * 2 % 18446744073709551616).toNat, by omega, by omega⟩
  rw [hq.1]
  have e2 : BitVec.ofInt 64 IntKind.u64.max = BitVec.allOnes 64 := by decide
  have e3 : BitVec.ofInt 64 (q : Int) = BitVec.ofNat 64 q := by simp
  rw [e2, e3, BitVec.allOnes_xor]
  have e4 : (~~~(BitVec.ofNat 64 q)).toNat = 18446744073709551615 - q := by
    rw [BitVec.toNat_not, BitVec.toNat_ofNat, Nat.mod_eq_of_lt hq.2]
  rw [e4]
  unfold zig; rw [if_pos h2]
  omega
theorem shr7 (u : Nat) : (u : Int).fdiv (2 ^ (min (7 : Int).toNat 64)) = ((u / 128 : Nat) : Int) := by
  have : (2 : Int) ^ (min (7 : Int).toNat 64) = 128 := by decide
  rw [this, Int.fdiv_eq_ediv_of_nonneg _ (by decide)]
  omega
theorem shr7' (u : Nat) : (u : Int).fdiv (2 ^ min 7 IntKind.u64.bits) = ((u / 128 : Nat) : Int) := shr7 u
def unzig (u : Nat) : Int := if u % 2 = 1 then -((u / 2 : Nat) : Int) - 1 else ((u / 2 : Nat) : Int)
theorem unzig_zig (n : Int) : unzig (zig n) = n := by
  unfold unzig zig
  split <;> split <;> omega
def getL : Nat → Nat → List UInt8 → Int × Int × Int
  | _, _, [] => (0, 0, 2)
  | i, u, c :: r =>
    if i = 9 ∧ 1 < c.toNat then (0, 0, 1)
    else if 127 < c.toNat then getL (i + 1) (u + c.toNat % 128 * 128 ^ i) r
    else if 0 < i ∧ c.toNat = 0 then (0, 0, 1)
    else (unzig (u + c.toNat % 128 * 128 ^ i), (i : Int) + 1, 0)
def getB (bs : List UInt8) : Int × Int × Int := getL 0 0 bs
theorem shl_lt {u d i : Nat} (hu : u < 128 ^ i) (hd : d < 128) (hi : i ≤ 9) (h9 : i = 9 → d ≤ 1) : u + d * 128 ^ i < 18446744073709551616 := by
  have e128 : 128 ^ i = 2 ^ (7 * i) := by rw [Nat.pow_mul]
  rw [e128] at hu ⊢
  have h64 : (2 : Nat) ^ 64 = 18446744073709551616 := by decide
  have h1 : d * 2 ^ (7 * i) + 2 ^ (7 * i) ≤ 2 ^ 64 := by
    by_cases h : i = 9
    · subst h
      have := h9 rfl
      have h2 : (d + 1) * 2 ^ (7 * 9) ≤ 2 * 2 ^ (7 * 9) := Nat.mul_le_mul_right _ (by omega)
      rw [Nat.add_mul, Nat.one_mul] at h2
      exact Nat.le_trans h2 (by decide)
    · have h2 : (d + 1) * 2 ^ (7 * i) ≤ 2 ^ 7 * 2 ^ (7 * i) := Nat.mul_le_mul_right _ (by omega)
      rw [Nat.add_mul, Nat.one_mul, ← Nat.pow_add] at h2
      exact Nat.le_trans h2 (Nat.pow_le_pow_right (by decide) (by omega))
  omega
theorem or_shl {u d i : Nat} (hu : u < 128 ^ i) (hd : d < 128) (hi : i ≤ 9) (h9 : i = 9 → d ≤ 1) :
    IntKind.u64.wrap (BitVec.ofInt IntKind.u64.bits (u : Int) ||| BitVec.ofInt IntKind.u64.bits (IntKind.u64.wrap ((d : Int) * 2 ^ (min (7 * i) 64)))).toNat = ((u + d * 128 ^ i : Nat) : Int) := by
  have e128 : 128 ^ i = 2 ^ (7 * i) := by rw [Nat.pow_mul]
  have hmin : min (7 * i) 64 = 7 * i := by omega
  rw [e128] at hu ⊢
  have htot : u + d * 2 ^ (7 * i) < 2 ^ 64 := by
    have h1 : d * 2 ^ (7 * i) + 2 ^ (7 * i) ≤ 2 ^ 64 := by
      by_cases h : i = 9
      · subst h
        have := h9 rfl
        have h2 : (d + 1) * 2 ^ (7 * 9) ≤ 2 * 2 ^ (7 * 9) := Nat.mul_le_mul_right _ (by omega)
        rw [Nat.add_mul, Nat.one_mul] at h2
        exact Nat.le_trans h2 (by decide)
      · have h2 : (d + 1) * 2 ^ (7 * i) ≤ 2 ^ 7 * 2 ^ (7 * i) := Nat.mul_le_mul_right _ (by omega)
        rw [Nat.add_mul, Nat.one_mul, ← Nat.pow_add] at h2
        exact Nat.le_trans h2 (Nat.pow_le_pow_right (by decide) (by omega))
    omega
  have e1 : ((d : Int) * 2 ^ (min (7 * i) 64)) = ((d * 2 ^ (7 * i) : Nat) : Int) := by
    rw [hmin]
    simp
  rw [e1, wrap_u64, wrap_u64]
  have e2 : ((d * 2 ^ (7 * i) : Nat) : Int) % 18446744073709551616 = ((d * 2 ^ (7 * i) : Nat) : Int) := by
    have h64 : (2 : Nat) ^ 64 = 18446744073709551616 := by decide
    have : d * 2 ^ (7 * i) < 18446744073709551616 := by omega
    omega
  rw [e2]
  show ((BitVec.ofInt 64 (u : Int) ||| BitVec.ofInt 64 ((d * 2 ^ (7 * i) : Nat) : Int)).toNat : Int) % 18446744073709551616 = _
  have h64 : (2 : Nat) ^ 64 = 18446744073709551616 := by decide
  rw [h64] at htot
  rw [BitVec.ofInt_natCast, BitVec.ofInt_natCast, BitVec.toNat_or, BitVec.toNat_ofNat, BitVec.toNat_ofNat, h64, Nat.mod_eq_of_lt (by omega), Nat.mod_eq_of_lt (by omega)]
  have e3 : u ||| d * 2 ^ (7 * i) = u + d * 2 ^ (7 * i) := by
    rw [Nat.or_comm, Nat.mul_comm, ← Nat.two_pow_add_eq_or_of_lt hu, Nat.add_comm]
  rw [e3]
  omega
theorem shr1 {u : Nat} (hu : u < 18446744073709551616) : IntKind.i64.wrap ((u : Int).fdiv (2 ^ (min 1 IntKind.u64.bits))) = ((u / 2 : Nat) : Int) := by
  have : (2 : Int) ^ (min 1 IntKind.u64.bits) = 2 := by decide
  rw [this, Int.fdiv_eq_ediv_of_nonneg _ (by decide), wrap_i64 (by omega) (by omega)]
  omega
theorem and1 (u : Nat) : IntKind.u64.wrap (BitVec.ofInt IntKind.u64.bits (u : Int) &&& BitVec.ofInt IntKind.u64.bits 1).toNat = ((u % 2 : Nat) : Int) := by
  rw [wrap_u64]
  show ((BitVec.ofInt 64 (u : Int) &&& BitVec.ofInt 64 1).toNat : Int) % 18446744073709551616 = _
  have e : BitVec.ofInt 64 1 = BitVec.ofNat 64 1 := by decide
  rw [BitVec.ofInt_natCast, e, BitVec.toNat_and, BitVec.toNat_ofNat, BitVec.toNat_ofNat]
  have : (2 : Nat) ^ 64 = 18446744073709551616 := by decide
  rw [this, Nat.mod_eq_of_lt (by decide : 1 < 18446744073709551616), Nat.and_one_is_mod]
  omega
theorem not64 {q : Nat} (hq : q < 9223372036854775808) : IntKind.i64.wrap (BitVec.ofInt IntKind.i64.bits (-1) ^^^ BitVec.ofInt IntKind.i64.bits (q : Int)).toNat = -(q : Int) - 1 := by
  have e1 : BitVec.ofInt 64 (-1) = BitVec.allOnes 64 := by decide
  show IntKind.i64.wrap (BitVec.ofInt 64 (-1) ^^^ BitVec.ofInt 64 (q : Int)).toNat = _
  have h64 : (2 : Nat) ^ 64 = 18446744073709551616 := by decide
  rw [e1, BitVec.ofInt_natCast, BitVec.allOnes_xor, BitVec.toNat_not, BitVec.toNat_ofNat, h64, Nat.mod_eq_of_lt (by omega)]
  simp [IntKind.wrap, IntKind.bits, IntKind.signed]
  omega
theorem or_shl' {u d i : Nat} (hu : u < 128 ^ i) (hd : d < 128) (hi : i ≤ 9) (h9 : i = 9 → d ≤ 1) :
    IntKind.u64.wrap (BitVec.ofInt IntKind.u64.bits (u : Int) ||| BitVec.ofInt IntKind.u64.bits (IntKind.u64.wrap ((d : Int) * 2 ^ (min (7 * i) IntKind.u64.bits)))).toNat = ((u + d * 128 ^ i : Nat) : Int) := or_shl hu hd hi h9
end Go.Proofs.YtdhpdpkcfffpiaaGreat
namespace Go.Proofs.YtdhpdpkcfffpiaaGreat
theorem getL_put : ∀ (k i u v : Nat) (rest : List UInt8), v < 128 ^ k → 0 < k → i + k ≤ 10 → u + v * 128 ^ i < 18446744073709551616 → (0 < i → 0 < v) →
    getL i u (putF k v ++ rest) = (unzig (u + v * 128 ^ i), ((i + (putF k v).length : Nat) : Int), 0)
  | 0, _, _, _, _, _, h, _, _, _ => by omega
  | k + 1, i, u, v, rest, hv, _, hik, htot, hpos => by
    have h63 : (128 : Nat) ^ 9 = 9223372036854775808 := by decide
    simp only [putF]
    by_cases h : 127 < v
    · rw [if_pos h]
      have hi9 : i ≠ 9 := fun e => by subst e; rw [h63] at htot; omega
      have hc : (UInt8.ofNat (v % 128 + 128)).toNat = v % 128 + 128 := by
        rw [UInt8.toNat_ofNat']; omega
      have hk : 0 < k := by
        rcases Nat.eq_zero_or_pos k with rfl | h9
        · simp at hv; omega
        · exact h9
      have e1 : (v % 128 + 128) % 128 = v % 128 := by omega
      have e2 : u + v % 128 * 128 ^ i + v / 128 * 128 ^ (i + 1) = u + v * 128 ^ i := by
        have : v * 128 ^ i = (v % 128 + 128 * (v / 128)) * 128 ^ i := by rw [Nat.mod_add_div]
        rw [this, Nat.add_mul, Nat.pow_succ]
        have : 128 * (v / 128) * 128 ^ i = v / 128 * (128 ^ i * 128) := by
          rw [Nat.mul_comm 128 (v / 128), Nat.mul_assoc, Nat.mul_comm 128 (128 ^ i)]
        omega
      have ih := getL_put k (i + 1) (u + v % 128 * 128 ^ i) (v / 128) rest (by rw [Nat.pow_succ] at hv; omega) hk (by omega) (by rw [e2]; exact htot) (fun _ => by omega)
      simp only [List.cons_append, getL]
      rw [if_neg (fun e => hi9 e.1), hc, if_pos (by omega), e1, ih, e2]
      simp only [List.length_cons]
      congr 2
      omega
    · rw [if_neg h]
      have hc : (UInt8.ofNat v).toNat = v := by rw [UInt8.toNat_ofNat']; omega
      simp only [List.cons_append, List.nil_append, getL]
      rw [hc, if_neg, if_neg (by omega), if_neg, Nat.mod_eq_of_lt (by omega)]
      · simp
      · exact fun e => by have := hpos e.1; omega
      · intro e
        obtain ⟨rfl, h1⟩ := e
        rw [h63] at htot; omega
theorem get_put (n : Int) (rest : List UInt8) (h1 : -9223372036854775808 ≤ n) (h2 : n ≤ 9223372036854775807) : getB (put n ++ rest) = (n, ((put n).length : Int), 0) := by
  have hz := zig_lt h1 h2
  have := getL_put 10 0 0 (zig n) rest (by omega) (by decide) (by decide) (by simpa using hz) (fun h => by omega)
  simp only [Nat.zero_add, Nat.pow_zero, Nat.mul_one, unzig_zig] at this
  exact this
theorem getL_ok : ∀ (l : List UInt8) (i u : Nat), i ≤ 9 → u < 128 ^ i → (getL i u l).2.2 = 0 → ∃ j : Nat, (getL i u l).2.1 = j ∧ i + 1 ≤ j ∧ j ≤ i + l.length ∧ j ≤ 10 ∧ -9223372036854775808 ≤ (getL i u l).1 ∧ (getL i u l).1 ≤ 9223372036854775807
  | [], i, u, _, _, h => by simp [getL] at h
  | c :: l, i, u, hi, hu, h => by
    have hcl := c.toNat_lt
    unfold getL at h ⊢
    by_cases h1 : i = 9 ∧ 1 < c.toNat
    · rw [if_pos h1] at h; simp at h
    · rw [if_neg h1] at h ⊢
      by_cases h2 : 127 < c.toNat
      · rw [if_pos h2] at h ⊢
        have hlt : u + c.toNat % 128 * 128 ^ i < 128 ^ (i + 1) := by
          rw [Nat.pow_succ]
          have : c.toNat % 128 * 128 ^ i + 128 ^ i ≤ 128 * 128 ^ i := by
            have h3 : (c.toNat % 128 + 1) * 128 ^ i ≤ 128 * 128 ^ i := Nat.mul_le_mul_right _ (by omega)
            rw [Nat.add_mul, Nat.one_mul] at h3; exact h3
          omega
        obtain ⟨j, k1, k2, k3, k4, k5⟩ := getL_ok l (i + 1) _ (by omega) hlt h
        exact ⟨j, k1, by omega, by simp; omega, k4, k5⟩
      · rw [if_neg h2] at h ⊢
        by_cases h3 : 0 < i ∧ c.toNat = 0
        · rw [if_pos h3] at h; simp at h
        · rw [if_neg h3]
          have hb := shl_lt (d := c.toNat % 128) hu (Nat.mod_lt _ (by decide)) hi (fun e => by
            have : c.toNat ≤ 1 := by omega
            omega)
          refine ⟨i + 1, by simp, by omega, by simp, by omega, ?_, ?_⟩ <;> (simp only []; unfold unzig; split <;> omega)
theorem getB_ok (l : List UInt8) (h : (getB l).2.2 = 0) : ∃ j : Nat, (getB l).2.1 = j ∧ 1 ≤ j ∧ j ≤ l.length ∧ j ≤ 10 ∧ -9223372036854775808 ≤ (getB l).1 ∧ (getB l).1 ≤ 9223372036854775807 := by
  obtain ⟨j, h1, h2, h3, h4, h5⟩ := getL_ok l 0 0 (by decide) (by decide) h
  exact ⟨j, h1, by omega, by omega, h4, h5⟩
def putText (s : List UInt8) : List UInt8 := put s.length ++ s
def getText (bs : List UInt8) : List UInt8 × Int × Int :=
  if (getB bs).2.2 ≠ 0 then ([], 0, (getB bs).2.2)
  else if (getB bs).1 < 0 ∨ 1048576 < (getB bs).1 then ([], 0, 1)
  else if (bs.length : Int) - (getB bs).2.1 < (getB bs).1 then ([], 0, 2)
  else ((bs.drop (getB bs).2.1.toNat).take (getB bs).1.toNat, (getB bs).2.1 + (getB bs).1, 0)
theorem getText_put (s rest : List UInt8) (hs : s.length ≤ 1048576) : getText (putText s ++ rest) = (s, ((putText s).length : Int), 0) := by
  have h := get_put s.length (s ++ rest) (by omega) (by omega)
  unfold getText putText
  rw [List.append_assoc, h]
  simp only [ne_eq, not_true_eq_false, if_false]
  rw [if_neg (by omega), if_neg (by simp only [List.length_append]; omega)]
  simp only [Int.toNat_natCast, List.length_append]
  refine Prod.ext ?_ (Prod.ext (by simp) rfl)
  rw [List.drop_left, List.take_left]
end Go.Proofs.YtdhpdpkcfffpiaaGreat
namespace Go.Proofs.YtdhpdpkcfffpiaaGreat
set_option linter.unusedSimpArgs false
set_option linter.unusedVariables false
noncomputable def okC (x : UInt8) : Bool := kind_small x || kind_great x || kind_digit x
def headP (p : UInt8 → Bool) : List UInt8 → Bool
  | [] => false
  | x :: _ => p x
noncomputable def wordN (s : List UInt8) : Bool := s.all okC && (!(s == []) && decide ((s.length : Int) ≤ 8))
noncomputable def classN (s : List UInt8) : Bool := wordN s && decide (1 < (s.length : Int)) && headP kind_great s
noncomputable def nameN (s : List UInt8) : Bool := (s == [36, 105, 110, 105, 116]) || (wordN s && headP kind_small s)
def trim1 : List UInt8 → List UInt8
  | [] => []
  | x :: r => if x = 91 then r else x :: r
noncomputable def mayN (s : List UInt8) : Bool := (trim1 (trim1 s) == [73]) || classN (trim1 (trim1 s))
noncomputable def refN (s : List UInt8) : Bool := !(s == [73]) && mayN s
noncomputable def retN (s : List UInt8) : Bool := (s == [86]) || mayN s
abbrev Len (s : List UInt8) : Prop := s.length ≤ 9223372036854775807
theorem not_all {α : Type} (l : List α) (p : α → Bool) : l.any (fun x => !p x) = !l.all p := by
  induction l with
  | nil => rfl
  | cons x l ih => rw [List.any_cons, List.all_cons, ih]; cases p x <;> rfl
theorem kind_word_eq {s : List UInt8} (h : Len s) : kind_word s = some (wordN s) := by
  have hl : loopP (fun z => kind_word_l1 s z) 0 = _ := loop_list (l := s) (g := fun x => cond (!okC x) (some false) none) (u := ()) (fun i x hx => by
    have hi := (List.getElem?_eq_some_iff.1 hx).1
    show kind_word_l1 s (i : Int) = _
    unfold kind_word_l1
    rw [idx_nat, hx, decide_eq_true (by omega), wrap_succ (by unfold Len at h; omega)]
    unfold okC
    cases h1 : kind_small x <;> cases h2 : kind_great x <;> cases h3 : kind_digit x <;> simp [h1, h2, h3, asks]) (by
    show kind_word_l1 s (s.length : Int) = _
    unfold kind_word_l1
    rw [decide_eq_false (by omega)]
    rfl)
  unfold kind_word
  rw [hl, findSome_any, not_all]
  unfold wordN
  cases s.all okC <;> rfl
theorem headP_cons (p : UInt8 → Bool) (x : UInt8) (r : List UInt8) : headP p (x :: r) = p x := rfl
theorem wordN_ne {s : List UInt8} (h : wordN s = true) : ∃ x r, s = x :: r := by
  cases s with
  | nil => exact absurd h (by decide)
  | cons x r => exact ⟨x, r, rfl⟩
theorem kind_Class_eq {s : List UInt8} (h : Len s) : kind_Class s = some (classN s) := by
  unfold kind_Class
  rw [kind_word_eq h, idx_zero]
  unfold classN
  cases hw : wordN s with
  | false => rfl
  | true =>
    obtain ⟨x, r, rfl⟩ := wordN_ne hw
    simp only [Option.bind_some, Bool.true_and, List.getElem?_cons_zero]
    cases decide (1 < ((x :: r).length : Int)) <;> rfl
theorem kind_Name_eq {s : List UInt8} (h : Len s) : kind_Name s = some (nameN s) := by
  unfold kind_Name
  rw [kind_word_eq h, idx_zero]
  unfold nameN
  cases s == [36, 105, 110, 105, 116] with
  | true => rfl
  | false =>
    cases hw : wordN s with
    | false => rfl
    | true =>
      obtain ⟨x, r, rfl⟩ := wordN_ne hw
      rfl
theorem trim1_cons (x : UInt8) (r : List UInt8) : trim1 (x :: r) = if x = 91 then r else x :: r := rfl
theorem trim1_len (s : List UInt8) : (trim1 s).length ≤ s.length := by
  cases s with
  | nil => exact Nat.le_refl _
  | cons x r => rw [trim1_cons]; split <;> simp
theorem trim_eq {s : List UInt8} (h : Len s) : strings_TrimPrefix s [91] = some (trim1 s) := by
  unfold strings_TrimPrefix internal_stringslite_TrimPrefix internal_stringslite_HasPrefix
  cases s with
  | nil => rfl
  | cons x r =>
    have e1 : decide ((List.length [(91 : UInt8)] : Int) ≤ (List.length (x :: r) : Int)) = true := decide_eq_true (by simp only [List.length_cons, List.length_nil]; omega)
    have e2 : cutP (x :: r) 0 (List.length [(91 : UInt8)] : Int) = some [x] := by
      have := cutP_to (l := x :: r) (b := 1) (by simp)
      simpa using this
    have e3 : cutP (x :: r) (List.length [(91 : UInt8)] : Int) (List.length (x :: r) : Int) = some r := by
      have := cutP_from (l := x :: r) (a := 1) (by simp)
      simpa using this
    rw [e1, e2, e3, trim1_cons]
    by_cases hx : x = 91
    · subst hx; rfl
    · rw [if_neg hx]
      have : ([x] == [(91 : UInt8)]) = false := by simp [hx]
      simp [this]
theorem kind_May_eq {s : List UInt8} (h : Len s) : kind_May s = some (mayN s) := by
  have h1 := trim1_len s
  have h2 := trim1_len (trim1 s)
  unfold kind_May
  rw [trim_eq h, Option.bind_some, trim_eq (by unfold Len at *; omega), Option.bind_some, kind_Class_eq (by unfold Len at *; omega)]
  unfold mayN
  cases trim1 (trim1 s) == [73] <;> rfl
theorem kind_Ref_eq {s : List UInt8} (h : Len s) : kind_Ref s = some (refN s) := by
  unfold kind_Ref
  rw [kind_May_eq h]
  unfold refN
  cases s == [73] <;> rfl
theorem kind_Ret_eq {s : List UInt8} (h : Len s) : kind_Ret s = some (retN s) := by
  unfold kind_Ret
  rw [kind_May_eq h]
  unfold retN
  cases s == [86] <;> rfl
theorem ref_great (x : UInt8) : ref3_great x = kind_great x := rfl
theorem ref_little (x : UInt8) : ref3_little x = kind_small x := rfl
theorem ref_digit (x : UInt8) : ref3_digit x = kind_digit x := rfl
theorem ref3_Class_eq {s : List UInt8} (h : Len s) : ref3_Class s = some (classN s) := by
  unfold ref3_Class
  have hend : ref3_Class_l1 s (s.length : Int) = some (.inr (.inl ())) := by
    unfold ref3_Class_l1; rw [decide_eq_false (by omega)]; rfl
  cases s with
  | nil => rw [loopP_eq]; rfl
  | cons x r =>
    have hrest : loopP (fun z => ref3_Class_l1 (x :: r) z) ((1 : Nat) : Int) = some (ends () (((x :: r).drop 1).findSome? (fun y => cond (!okC y) (some false) none))) :=
      loop_from (k := 1) (g := fun y => cond (!okC y) (some false) none) (fun i y hi hy => by
        have hlt := (List.getElem?_eq_some_iff.1 hy).1
        show ref3_Class_l1 (x :: r) (i : Int) = _
        unfold ref3_Class_l1
        rw [idx_nat, hy, decide_eq_true (by omega), wrap_succ (by unfold Len at h; omega)]
        have e : ((i : Int) == (0 : Int)) = false := by simp; omega
        rw [e]
        simp only [ref_great, ref_little, ref_digit]
        unfold okC
        cases h1 : kind_small y <;> cases h2 : kind_great y <;> cases h3 : kind_digit y <;> simp [h1, h2, h3, asks]) hend (by simp)
    have hfirst : ref3_Class_l1 (x :: r) 0 = some (cond (kind_great x) (.inl 1) (.inr (.inr false))) := by
      unfold ref3_Class_l1
      rw [idx_zero, decide_eq_true (by simp only [List.length_cons, List.length_nil]; omega)]
      simp only [ref_great]
      have : IntKind.i64.wrap (0 + 1) = 1 := by decide
      rw [this]
      simp only [List.getElem?_cons_zero, Option.bind_some]
      cases hg : kind_great x <;> rfl
    rw [loopP_eq, hfirst]
    cases hg : kind_great x with
    | false =>
      have : classN (x :: r) = false := by unfold classN; rw [headP_cons, hg]; simp
      rw [this]
      rfl
    | true =>
      show ((loopP (fun z => ref3_Class_l1 (x :: r) z) ((1 : Nat) : Int)).bind _) = _
      rw [hrest, List.drop_one, List.tail_cons, findSome_any, not_all]
      have : classN (x :: r) = (r.all okC && (decide (2 ≤ (List.length (x :: r) : Int)) && decide ((List.length (x :: r) : Int) ≤ 8))) := by
        unfold classN wordN
        rw [headP_cons]
        have ho : okC x = true := by unfold okC; rw [hg]; simp
        rw [List.all_cons, ho, hg]
        have e : decide (1 < (List.length (x :: r) : Int)) = decide (2 ≤ (List.length (x :: r) : Int)) := by congr 1
        rw [e]
        have e2 : ((x :: r) == []) = false := rfl
        rw [e2]
        cases r.all okC <;> cases decide (2 ≤ (List.length (x :: r) : Int)) <;> cases decide ((List.length (x :: r) : Int) ≤ 8) <;> rfl
      rw [this]
      cases r.all okC <;> rfl
theorem ref3_Name_eq {s : List UInt8} (h : Len s) : ref3_Name s = some (nameN s) := by
  unfold ref3_Name
  have hend : ref3_Name_l1 s (s.length : Int) = some (.inr (.inl ())) := by
    unfold ref3_Name_l1; rw [decide_eq_false (by omega)]; rfl
  unfold nameN
  cases s == [36, 105, 110, 105, 116] with
  | true => rfl
  | false =>
  show (loopP _ _).bind _ = some (wordN s && headP kind_small s)
  cases s with
  | nil => rw [loopP_eq]; rfl
  | cons x r =>
    have hrest : loopP (fun z => ref3_Name_l1 (x :: r) z) ((1 : Nat) : Int) = some (ends () (((x :: r).drop 1).findSome? (fun y => cond (!okC y) (some false) none))) :=
      loop_from (k := 1) (g := fun y => cond (!okC y) (some false) none) (fun i y hi hy => by
        have hlt := (List.getElem?_eq_some_iff.1 hy).1
        show ref3_Name_l1 (x :: r) (i : Int) = _
        unfold ref3_Name_l1
        rw [idx_nat, hy, decide_eq_true (by omega), wrap_succ (by unfold Len at h; omega)]
        have e : ((i : Int) == (0 : Int)) = false := by simp; omega
        rw [e]
        simp only [ref_great, ref_little, ref_digit]
        unfold okC
        cases h1 : kind_small y <;> cases h2 : kind_great y <;> cases h3 : kind_digit y <;> simp [h1, h2, h3, asks]) hend (by simp)
    have hfirst : ref3_Name_l1 (x :: r) 0 = some (cond (kind_small x) (.inl 1) (.inr (.inr false))) := by
      unfold ref3_Name_l1
      rw [idx_zero, decide_eq_true (by simp only [List.length_cons, List.length_nil]; omega)]
      simp only [ref_little]
      have : IntKind.i64.wrap (0 + 1) = 1 := by decide
      rw [this]
      simp only [List.getElem?_cons_zero, Option.bind_some]
      cases hg : kind_small x <;> rfl
    rw [loopP_eq, hfirst]
    cases hg : kind_small x with
    | false =>
      have : (wordN (x :: r) && headP kind_small (x :: r)) = false := by rw [headP_cons, hg]; simp
      rw [this]
      rfl
    | true =>
      show ((loopP (fun z => ref3_Name_l1 (x :: r) z) ((1 : Nat) : Int)).bind _) = _
      rw [hrest, List.drop_one, List.tail_cons, findSome_any, not_all]
      have : (wordN (x :: r) && headP kind_small (x :: r)) = (r.all okC && (decide (1 ≤ (List.length (x :: r) : Int)) && decide ((List.length (x :: r) : Int) ≤ 8))) := by
        unfold wordN
        rw [headP_cons]
        have ho : okC x = true := by unfold okC; rw [hg]; simp
        rw [List.all_cons, ho, hg]
        have e2 : ((x :: r) == []) = false := rfl
        have e3 : decide (1 ≤ (List.length (x :: r) : Int)) = true := decide_eq_true (by simp only [List.length_cons, List.length_nil]; omega)
        rw [e2, e3]
        cases r.all okC <;> cases decide ((List.length (x :: r) : Int) ≤ 8) <;> rfl
      rw [this]
      cases r.all okC <;> rfl
theorem ref3_May_eq {s : List UInt8} (h : Len s) : ref3_May s = some (mayN s) := by
  have step : ∀ (t : List UInt8) (i : Int), i < 2 → ref3_May_l1 t i = some (match t with | [] => .inr (.inl []) | x :: r => if x = 91 then .inl (r, IntKind.i64.wrap (i + 1)) else .inr (.inl (x :: r))) := fun t i hi => by
    unfold ref3_May_l1
    rw [decide_eq_true hi]
    cases t with
    | nil => rfl
    | cons x r =>
      have e1 : decide ((0 : Int) < (List.length (x :: r) : Int)) = true := decide_eq_true (by simp only [List.length_cons, List.length_nil]; omega)
      have e3 : cutP (x :: r) 1 (List.length (x :: r) : Int) = some r := by
        have := cutP_from (l := x :: r) (a := 1) (by simp)
        simpa using this
      rw [e1, idx_zero, e3]
      by_cases hx : x = 91
      · subst hx; rfl
      · have e : ((x.toNat : Int) == (91 : Int)) = false := by
          rw [beq_eq_false_iff_ne]
          intro h
          apply hx
          have : x.toNat = (91 : UInt8).toNat := by simp; omega
          exact UInt8.toNat_inj.1 this
        simp [e, if_neg hx]
  have stop : ∀ t : List UInt8, ref3_May_l1 t 2 = some (.inr (.inl t)) := fun t => by unfold ref3_May_l1; simp
  have hl : loopP (fun z : List UInt8 × Int => ref3_May_l1 z.1 z.2) (s, 0) = some (.inl (trim1 (trim1 s))) := by
    have w1 : IntKind.i64.wrap (0 + 1) = 1 := by decide
    have w2 : IntKind.i64.wrap (1 + 1) = 2 := by decide
    rw [loopP_eq]
    simp only [step s 0 (by omega)]
    cases s with
    | nil => rfl
    | cons x r =>
      rw [trim1_cons]
      by_cases hx : x = 91
      · simp only [if_pos hx, Option.bind_some, Sum.elim_inl, w1]
        rw [loopP_eq]
        simp only [step r 1 (by omega)]
        cases r with
        | nil => rfl
        | cons y q =>
          by_cases hy : y = 91
          · simp only [if_pos hy, Option.bind_some, Sum.elim_inl, w2]
            rw [loopP_eq]
            simp only [stop]
            rw [trim1_cons, if_pos hy]
            rfl
          · simp only [if_neg hy, Option.bind_some, Sum.elim_inr]
            rw [trim1_cons, if_neg hy]
      · simp only [if_neg hx, Option.bind_some, Sum.elim_inr]
        rw [trim1_cons, if_neg hx]
  have h1 := trim1_len s
  have h2 := trim1_len (trim1 s)
  unfold ref3_May
  rw [hl]
  show ref3_May_k2 _ = _
  unfold ref3_May_k2 mayN
  rw [ref3_Class_eq (by unfold Len at *; omega)]
  cases trim1 (trim1 s) == [73] <;> rfl
theorem ref3_Ref_eq {s : List UInt8} (h : Len s) : ref3_Ref s = some (refN s) := by
  unfold ref3_Ref
  rw [ref3_May_eq h]
  unfold refN
  cases s == [73] <;> rfl
end Go.Proofs.YtdhpdpkcfffpiaaGreat
namespace Go.Proofs.YtdhpdpkcfffpiaaGreat
set_option linter.unusedSimpArgs false
set_option linter.unusedVariables false
abbrev I64 (n : Int) : Prop := -9223372036854775808 ≤ n ∧ n ≤ 9223372036854775807
theorem tU8_nat (u : Nat) : tU8 (u : Int) = UInt8.ofNat u := by
  unfold tU8
  have : ((u : Int) % 256).toNat = u % 256 := by omega
  rw [this]
  apply UInt8.toNat_inj.1
  simp
theorem or128_8 (u : Nat) : (tU8 (u : Int) ||| (128 : UInt8)) = UInt8.ofNat (u % 128 + 128) := by
  rw [tU8_nat]
  have key : ∀ k : Fin 256, (UInt8.ofNat k.val ||| (128 : UInt8)) = UInt8.ofNat (k.val % 128 + 128) := by decide +kernel
  have h := key ⟨u % 256, Nat.mod_lt _ (by decide)⟩
  have e1 : UInt8.ofNat (u % 256) = UInt8.ofNat u := by apply UInt8.toNat_inj.1; simp
  have e2 : u % 256 % 128 = u % 128 := by omega
  simp only [e1, e2] at h
  exact h
theorem and127_8 (c : UInt8) : IntKind.u64.wrap ((c &&& (127 : UInt8)).toNat : Int) = ((c.toNat % 128 : Nat) : Int) := by
  have key : ∀ k : Fin 256, (UInt8.ofNat k.val &&& (127 : UInt8)).toNat = k.val % 128 := by decide +kernel
  have h := key ⟨c.toNat, c.toNat_lt⟩
  have e1 : UInt8.ofNat c.toNat = c := by simp
  simp only [e1] at h
  rw [h, wrap_u64]
  omega
theorem shrP7 (u : Nat) : shrP .u64 (u : Int) 7 = some ((u / 128 : Nat) : Int) := by
  unfold shrP
  rw [if_neg (by decide)]
  congr 1
  exact shr7' u
theorem putL (k : Nat) : ∀ (acc : List UInt8) (u : Nat), 0 < k → u < 128 ^ k → acc.length + k ≤ 140737488355328 →
    ∃ acc' v, loopP (fun z : List UInt8 × Int => num_Put_l2 z.1 z.2) (acc, (u : Int)) = some (.inl (acc', v)) ∧ num_Put_k3 acc' v = some (acc ++ putF k u) := by
  induction k with
  | zero => intro _ _ h; omega
  | succ k ih =>
    intro acc u _ hu hl
    rw [loopP_eq]
    by_cases h127 : 127 < u
    · have hk : 0 < k := by
        rcases Nat.eq_zero_or_pos k with rfl | h
        · simp at hu; omega
        · exact h
      have hstep : num_Put_l2 acc (u : Int) = some (.inl (acc ++ [UInt8.ofNat (u % 128 + 128)], ((u / 128 : Nat) : Int))) := by
        unfold num_Put_l2
        rw [decide_eq_true (by omega), or128_8, appP1 (by simp; omega), shrP7]
        rfl
      simp only [hstep, Option.bind_some, Sum.elim_inl]
      obtain ⟨acc', v, h1, h2⟩ := ih (acc ++ [UInt8.ofNat (u % 128 + 128)]) (u / 128) hk (by rw [Nat.pow_succ] at hu; omega) (by simp; omega)
      refine ⟨acc', v, h1, ?_⟩
      rw [h2]
      simp only [putF, if_pos h127]
      simp
    · have hstep : num_Put_l2 acc (u : Int) = some (.inr (.inl (acc, (u : Int)))) := by
        unfold num_Put_l2
        rw [decide_eq_false (by omega)]
        rfl
      simp only [hstep, Option.bind_some, Sum.elim_inr]
      refine ⟨acc, u, rfl, ?_⟩
      unfold num_Put_k3
      rw [tU8_nat, appP1 (by simp; omega)]
      simp only [putF, if_neg h127]
      rfl
theorem zigP {n : Int} (h : I64 n) : shlP .u64 (IntKind.u64.wrap n) 1 = some (IntKind.u64.wrap (IntKind.u64.wrap n * 2 ^ (min 1 64))) := by
  unfold shlP
  rw [if_neg (by decide)]
  rfl
theorem num_Put_eq {bs : List UInt8} {n : Int} (h : I64 n) (hb : bs.length ≤ 1000000000000) : num_Put bs n = some (bs ++ put n) := by
  have hz := zig_lt h.1 h.2
  have key : num_Put_j1 bs ((zig n : Nat) : Int) = some (bs ++ put n) := by
    obtain ⟨acc, v, h1, h2⟩ := putL 10 bs (zig n) (by decide) (by omega) (by omega)
    unfold num_Put_j1
    rw [h1]
    exact h2
  unfold num_Put
  rw [zigP h, Option.bind_some]
  by_cases hn : n < 0
  · rw [decide_eq_true hn]
    have : xorI .u64 (IntKind.u64.wrap (IntKind.u64.wrap n * 2 ^ (min 1 64))) = ((zig n : Nat) : Int) := zig_neg h.1 hn
    rw [this]; exact key
  · rw [decide_eq_false hn, zig_pos (by omega) h.2]; exact key
theorem getLp (bs : List UInt8) (hl : bs.length ≤ 9223372036854775807) : ∀ (rest : List UInt8) (i u : Nat), bs.drop i = rest → i ≤ 9 → i ≤ bs.length → u < 128 ^ i →
    ((loopP (fun z : Int × Int => num_Get_l3 bs z.1 z.2) ((u : Int), (i : Int))).bind fun o => leave o (fun b => num_Get_k4) some) = some (getL i u rest) := by
  intro rest
  induction rest with
  | nil =>
    intro i u hd hi hib hu
    have hlen : i = bs.length := by
      have := congrArg List.length hd
      simp at this; omega
    have hstep : num_Get_l3 bs (u : Int) (i : Int) = some (.inr (.inl ())) := by
      unfold num_Get_l3
      rw [decide_eq_false (by omega)]; rfl
    rw [loopP_eq]
    simp only [hstep, Option.bind_some, Sum.elim_inr]
    rfl
  | cons c r ih =>
    intro i u hd hi hib hu
    have hlt : i < bs.length := by
      have := congrArg List.length hd
      simp at this; omega
    have hc : bs[i]? = some c := by
      have : (bs.drop i)[0]? = some c := by rw [hd]; rfl
      simpa using this
    have hd' : bs.drop (i + 1) = r := by
      have := congrArg List.tail hd
      simpa [List.tail_drop] using this
    have e7 : IntKind.i64.wrap (7 * (i : Int)) = ((7 * i : Nat) : Int) := by rw [wrapI (by omega) (by omega)]; omega
    have hsh : shlP .u64 (IntKind.u64.wrap ((c &&& (127 : UInt8)).toNat : Int)) (IntKind.i64.wrap (7 * (i : Int))) = some (IntKind.u64.wrap (((c.toNat % 128 : Nat) : Int) * 2 ^ (min (7 * i) IntKind.u64.bits))) := by
      rw [and127_8, e7]
      unfold shlP
      rw [if_neg (by omega), Int.toNat_natCast]
    have hws : IntKind.i64.wrap ((i : Int) + 1) = ((i + 1 : Nat) : Int) := wrap_succ (by omega)
    have hcl := c.toNat_lt
    have hb : num_Get_l3 bs (u : Int) (i : Int) = cond (((i : Int) == (9 : Int)) && decide (1 < (c.toNat : Int))) (some (.inr (.inr (0, 0, 1)))) (cond (decide (127 < (c.toNat : Int)))
        (some (.inl (orI .u64 (u : Int) (IntKind.u64.wrap (((c.toNat % 128 : Nat) : Int) * 2 ^ (min (7 * i) IntKind.u64.bits))), ((i + 1 : Nat) : Int))))
        (cond (decide ((0 : Int) < (i : Int)) && ((c.toNat : Int) == (0 : Int))) (some (.inr (.inr (0, 0, 1)))) ((shrP .u64 (orI .u64 (u : Int) (IntKind.u64.wrap (((c.toNat % 128 : Nat) : Int) * 2 ^ (min (7 * i) IntKind.u64.bits)))) 1).bind fun v12 =>
          cond ((andI .u64 (orI .u64 (u : Int) (IntKind.u64.wrap (((c.toNat % 128 : Nat) : Int) * 2 ^ (min (7 * i) IntKind.u64.bits)))) 1) == (1 : Int)) (num_Get_j2 (i : Int) (xorI .i64 (IntKind.i64.wrap v12))) (num_Get_j2 (i : Int) (IntKind.i64.wrap v12))))) := by
      unfold num_Get_l3
      rw [idx_nat, hc, decide_eq_true (show (i : Int) < (bs.length : Int) by omega), hws]
      simp only [Option.bind_some, cond_true, hsh]
    have hd9 : ¬ (i = 9 ∧ 1 < c.toNat) → i = 9 → c.toNat % 128 ≤ 1 := fun h e => by omega
    rw [loopP_eq]
    simp only [hb]
    clear hb
    by_cases h9 : i = 9 ∧ 1 < c.toNat
    · have e1 : (((i : Int) == (9 : Int)) && decide (1 < (c.toNat : Int))) = true := by
        rw [Bool.and_eq_true]; exact ⟨by rw [beq_iff_eq]; omega, decide_eq_true (by omega)⟩
      rw [e1]
      unfold getL
      rw [if_pos h9]
      rfl
    · have e1 : (((i : Int) == (9 : Int)) && decide (1 < (c.toNat : Int))) = false := by
        rw [Bool.and_eq_false_iff]
        by_cases h : i = 9
        · exact .inr (decide_eq_false (by omega))
        · exact .inl (by rw [beq_eq_false_iff_ne]; omega)
      rw [e1]
      have hor : orI .u64 (u : Int) (IntKind.u64.wrap (((c.toNat % 128 : Nat) : Int) * 2 ^ (min (7 * i) IntKind.u64.bits))) = ((u + c.toNat % 128 * 128 ^ i : Nat) : Int) := or_shl' hu (Nat.mod_lt _ (by decide)) hi (hd9 h9)
      have hu' : u + c.toNat % 128 * 128 ^ i < 18446744073709551616 := shl_lt hu (Nat.mod_lt _ (by decide)) hi (hd9 h9)
      rw [hor]
      simp only [cond_false]
      unfold getL
      rw [if_neg h9]
      by_cases h127 : 127 < c.toNat
      · rw [decide_eq_true (show (127 : Int) < (c.toNat : Int) by omega), if_pos h127]
        simp only [cond_true, Option.bind_some, Sum.elim_inl]
        refine ih (i + 1) _ hd' (by omega) (by omega) ?_
        have h2 : (c.toNat % 128 + 1) * 128 ^ i ≤ 128 * 128 ^ i := Nat.mul_le_mul_right _ (by omega)
        rw [Nat.add_mul, Nat.one_mul] at h2
        rw [Nat.pow_succ]
        omega
      · rw [decide_eq_false (show ¬ (127 : Int) < (c.toNat : Int) by omega), if_neg h127]
        simp only [cond_false]
        by_cases h0 : 0 < i ∧ c.toNat = 0
        · have e2 : (decide ((0 : Int) < (i : Int)) && ((c.toNat : Int) == (0 : Int))) = true := by
            rw [Bool.and_eq_true]; exact ⟨decide_eq_true (by omega), by rw [beq_iff_eq]; omega⟩
          rw [e2, if_pos h0]
          rfl
        · have e2 : (decide ((0 : Int) < (i : Int)) && ((c.toNat : Int) == (0 : Int))) = false := by
            rw [Bool.and_eq_false_iff]
            by_cases h : 0 < i
            · exact .inr (by rw [beq_eq_false_iff_ne]; omega)
            · exact .inl (decide_eq_false (by omega))
          rw [e2, if_neg h0]
          simp only [cond_false]
          generalize u + c.toNat % 128 * 128 ^ i = q at hu'
          have hs1 : shrP .u64 (q : Int) 1 = some ((q : Int).fdiv (2 ^ (min 1 IntKind.u64.bits))) := by unfold shrP; rw [if_neg (by decide)]; rfl
          rw [hs1]
          simp only [Option.bind_some]
          rw [shr1 hu']
          have ha : andI .u64 (q : Int) 1 = ((q % 2 : Nat) : Int) := and1 q
          rw [ha]
          unfold num_Get_j2
          rw [hws]
          by_cases hp : q % 2 = 1
          · rw [hp]
            have hx : xorI .i64 ((q / 2 : Nat) : Int) = -((q / 2 : Nat) : Int) - 1 := not64 (by omega)
            rw [hx]
            unfold unzig
            rw [if_pos hp]
            rfl
          · have h00 : q % 2 = 0 := by omega
            rw [h00]
            unfold unzig
            rw [if_neg hp]
            rfl
theorem num_Get_eq {bs : List UInt8} (h : Len bs) : num_Get bs = some (getB bs) := by
  unfold num_Get
  exact getLp bs h bs 0 0 rfl (Nat.zero_le _) (Nat.zero_le _) (by decide)
theorem num_PutText_eq {bs s : List UInt8} (hb : bs.length ≤ 100000000000) (hs : s.length ≤ 100000000000) : num_PutText bs s = some (bs ++ putText s) := by
  have hp := put_length (s.length : Int)
  unfold num_PutText
  rw [num_Put_eq ⟨by omega, by omega⟩ (by omega), Option.bind_some, appP1 (by simp; omega)]
  unfold putText
  simp
theorem num_GetText_eq {bs : List UInt8} (h : Len bs) : num_GetText bs = some (getText bs) := by
  unfold num_GetText
  rw [num_Get_eq h, Option.bind_some]
  unfold getText
  by_cases h0 : (getB bs).2.2 = 0
  · obtain ⟨j, h1, h2, h3, h4, h5, h6⟩ := getB_ok bs h0
    unfold Len at h
    rw [h1, h0]
    simp only [ne_eq, not_true_eq_false, if_false]
    by_cases hn : (getB bs).1 < 0 ∨ 1048576 < (getB bs).1
    · rw [if_pos hn]
      have : (decide ((getB bs).1 < 0) || decide (1048576 < (getB bs).1)) = true := by rw [Bool.or_eq_true]; exact hn.imp (fun h => decide_eq_true h) (fun h => decide_eq_true h)
      rw [this]; rfl
    · rw [if_neg hn]
      have : (decide ((getB bs).1 < 0) || decide (1048576 < (getB bs).1)) = false := by
        rw [Bool.or_eq_false_iff]; exact ⟨decide_eq_false fun h => hn (.inl h), decide_eq_false fun h => hn (.inr h)⟩
      rw [this, wrapI (by omega) (by omega)]
      by_cases hl : (bs.length : Int) - (j : Int) < (getB bs).1
      · rw [if_pos hl, decide_eq_true hl]; rfl
      · rw [if_neg hl, decide_eq_false hl, wrapI (by omega) (by omega), cutP_some (by omega) (by omega) (by omega)]
        have : ((j : Int) + (getB bs).1).toNat - (j : Int).toNat = (getB bs).1.toNat := by omega
        rw [this]
        rfl
  · rw [if_pos h0]
    have : ((getB bs).2.2 == (0 : Int)) = false := by rw [beq_eq_false_iff_ne]; exact h0
    rw [this]
    rfl
end Go.Proofs.YtdhpdpkcfffpiaaGreat
namespace Go.Proofs.YtdhpdpkcfffpiaaGreat
set_option linter.unusedSimpArgs false
set_option linter.unusedVariables false
noncomputable def mayCN (o : Int) (s : List UInt8) : Bool := cond (op_typed o) (refN s) (cond (op_c o) (classN s) (s == []))
noncomputable def mayMN (o : Int) (s : List UInt8) : Bool := cond (op_m o) (nameN s && !(s == [36, 105, 110, 105, 116])) (s == [])
noncomputable def mayIns (x : ApiIns) : Bool := (op_known x.Op && op_mayA x.Op x.A) && mayCN x.Op x.C && mayMN x.Op x.M
theorem op_mayC_eq {o : Int} {s : List UInt8} (h : Len s) : op_mayC o s = some (mayCN o s) := by
  unfold op_mayC mayCN
  rw [kind_Ref_eq h, kind_Class_eq h]
  cases op_typed o <;> cases op_c o <;> rfl
theorem op_mayM_eq {o : Int} {s : List UInt8} (h : Len s) : op_mayM o s = some (mayMN o s) := by
  unfold op_mayM mayMN
  rw [kind_Name_eq h]
  cases op_m o <;> rfl
theorem op_May_eq {x : ApiIns} (hC : Len x.C) (hM : Len x.M) : op_May x = some (mayIns x) := by
  unfold op_May mayIns
  rw [op_mayC_eq hC, op_mayM_eq hM]
  cases (op_known x.Op && op_mayA x.Op x.A) <;> cases mayCN x.Op x.C <;> rfl
theorem mayA_eq (o A : Int) : op_mayA o A = cond (op_a o) (ref3_number o A) (A == 0) := by
  have e1 : decide (A ≤ 2147483647) = decide (A < 2147483648) := by congr 1; apply propext; omega
  have e2 : decide (A ≤ 15) = decide (A < 16) := by congr 1; apply propext; omega
  have e3 : decide (A ≤ 99) = decide (A < 100) := by congr 1; apply propext; omega
  unfold op_mayA op_a ref3_number ref3_Jumps op_Jumps op_between
  rw [e1, e2, e3]
  by_cases h1 : o = 1
  · subst h1; rfl
  by_cases h3 : o = 3
  · subst h3; rfl
  by_cases h4 : o = 4
  · subst h4; rfl
  have b1 : (o == (1 : Int)) = false := beq_eq_false_iff_ne.2 h1
  have b3 : (o == (3 : Int)) = false := beq_eq_false_iff_ne.2 h3
  have b4 : (o == (4 : Int)) = false := beq_eq_false_iff_ne.2 h4
  rw [b1, b3, b4]
  cases (decide (20 ≤ o) && decide (o ≤ 36)) <;> rfl
theorem parts_tab : ∀ k : _root_.Fin 62, (ref3_parts (k.val : Int)).1 = op_a (k.val : Int) ∧ (ref3_parts (k.val : Int)).2.1 = cond (op_typed (k.val : Int)) 2 (cond (op_c (k.val : Int)) 1 0) ∧ (ref3_parts (k.val : Int)).2.2 = op_m (k.val : Int) := by
  decide +kernel
theorem ref3_MayIns_eq {x : ApiIns} (hC : Len x.C) (hM : Len x.M) : ref3_MayIns x = some (mayIns x) := by
  unfold ref3_MayIns mayIns op_known op_between
  by_cases hk : 1 ≤ x.Op ∧ x.Op ≤ 61
  · obtain ⟨k, hkk⟩ : ∃ k : Nat, x.Op = k := ⟨x.Op.toNat, by omega⟩
    obtain ⟨p1, p2, p3⟩ := parts_tab ⟨k, by omega⟩
    simp only at p1 p2 p3
    rw [hkk] at hk ⊢
    rw [mayA_eq, p1, p2, p3, decide_eq_false (show ¬ (k : Int) < 1 by omega), decide_eq_false (show ¬ (61 : Int) < k by omega), decide_eq_true hk.1, decide_eq_true hk.2, ref3_Class_eq hC, ref3_Ref_eq hC, ref3_Name_eq hM]
    unfold mayCN mayMN
    cases op_a (k : Int) <;> cases ref3_number (k : Int) x.A <;> cases (x.A == 0) <;> cases op_typed (k : Int) <;> cases op_c (k : Int) <;> cases op_m (k : Int) <;> cases (x.C == []) <;> cases classN x.C <;> cases refN x.C <;> rfl
  · have h1 : (decide (x.Op < 1) || decide (61 < x.Op)) = true := by
      rw [Bool.or_eq_true]
      by_cases h : x.Op < 1
      · exact .inl (decide_eq_true h)
      · exact .inr (decide_eq_true (by omega))
    have h2 : (decide (1 ≤ x.Op) && decide (x.Op ≤ 61)) = false := by
      rw [Bool.and_eq_false_iff]
      by_cases h : 1 ≤ x.Op
      · exact .inr (decide_eq_false (by omega))
      · exact .inl (decide_eq_false h)
    rw [h1, h2]
    rfl
end Go.Proofs.YtdhpdpkcfffpiaaGreat
namespace Go.Proofs.YtdhpdpkcfffpiaaGreat
set_option linter.unusedSimpArgs false
set_option linter.unusedVariables false
noncomputable def putIns (x : ApiIns) : List UInt8 := put x.Op ++ (cond (op_a x.Op) (put x.A) [] ++ (cond (op_c x.Op) (putText x.C) [] ++ cond (op_m x.Op) (putText x.M) []))
structure InsIn (x : ApiIns) : Prop where
  op : I64 x.Op
  a : I64 x.A
  c : x.C.length ≤ 1000000
  m : x.M.length ≤ 1000000
theorem putText_len (s : List UInt8) : (putText s).length ≤ s.length + 10 := by
  have := put_length (s.length : Int)
  unfold putText
  simp; omega
theorem op_Put_eq {bs : List UInt8} {x : ApiIns} (hx : InsIn x) (hb : bs.length ≤ 10000000000) : op_Put bs x = some (bs ++ putIns x) := by
  have h1 := put_length x.Op
  have h2 := put_length x.A
  have h3 := putText_len x.C
  have hc := hx.c
  have hm := hx.m
  have e1 : ∀ b : List UInt8, b.length ≤ 20000000000 → op_Put_j2 x b = some (b ++ cond (op_m x.Op) (putText x.M) []) := fun b hb => by
    unfold op_Put_j2 op_Put_j3
    cases op_m x.Op with
    | true => simp only [cond_true]; rw [num_PutText_eq (by omega) (by omega)]; rfl
    | false => simp
  have e2 : ∀ b : List UInt8, b.length ≤ 15000000000 → op_Put_j1 x b = some (b ++ (cond (op_c x.Op) (putText x.C) [] ++ cond (op_m x.Op) (putText x.M) [])) := fun b hb => by
    unfold op_Put_j1
    cases op_c x.Op with
    | true => simp only [cond_true]; rw [num_PutText_eq (by omega) (by omega), Option.bind_some, e1 _ (by simp; omega)]; simp
    | false => simp only [cond_false]; rw [e1 _ (by omega)]; simp
  unfold op_Put putIns
  rw [num_Put_eq hx.op (by omega), Option.bind_some]
  cases op_a x.Op with
  | true => simp only [cond_true]; rw [num_Put_eq hx.a (by simp; omega), Option.bind_some, e2 _ (by simp; omega)]; simp
  | false => simp only [cond_false]; rw [e2 _ (by simp; omega)]; simp
theorem cut_pre {pre t : List UInt8} : cutP (pre ++ t) ((pre.length : Nat) : Int) ((pre ++ t).length : Int) = some t := by
  have h := cutP_from (l := pre ++ t) (a := pre.length) (by simp)
  rw [h]; simp
theorem may_parts {x : ApiIns} (h : mayIns x = true) : (op_known x.Op = true ∧ op_mayA x.Op x.A = true) ∧ mayCN x.Op x.C = true ∧ mayMN x.Op x.M = true := by
  unfold mayIns at h
  simp only [Bool.and_eq_true] at h
  exact ⟨h.1.1, h.1.2, h.2⟩
theorem op_Get_put {x : ApiIns} {rest : List UInt8} (hx : InsIn x) (hm : mayIns x = true) (hr : rest.length ≤ 1000000000) : op_Get (putIns x ++ rest) = some (x, (((putIns x).length : Nat) : Int), 0) := by
  obtain ⟨⟨m1, m2⟩, m3, m4⟩ := may_parts hm
  have l1 := put_length x.Op
  have l2 := put_length x.A
  have l3 := putText_len x.C
  have l4 := putText_len x.M
  have hc := hx.c
  have hmm := hx.m
  have bnd : (putIns x).length ≤ 3000000 := by
    unfold putIns
    cases op_a x.Op <;> cases op_c x.Op <;> cases op_m x.Op <;> simp <;> omega
  have hty : op_c x.Op = false → op_typed x.Op = false := fun h => by unfold op_c at h; simp only [Bool.or_eq_false_iff] at h; exact h.2
  obtain ⟨all, hall⟩ : ∃ all, all = putIns x ++ rest := ⟨_, rfl⟩
  have hlen : all.length ≤ 2000000000 := by rw [hall, List.length_append]; omega
  have g3 : ∀ pre : List UInt8, all = pre ++ (cond (op_m x.Op) (putText x.M) [] ++ rest) → op_Get_j2 all (x.Op, ((put x.Op).length : Int), 0) x.A (pre.length : Nat) 0 x.C = some (x, (((putIns x).length : Nat) : Int), 0) := fun pre hp => by
    unfold op_Get_j2 op_Get_j3
    have hpl : all.length = pre.length + (cond (op_m x.Op) (putText x.M) [] ++ rest).length := by rw [hp, List.length_append]
    have hpi : (putIns x).length + rest.length = all.length := by rw [hall, List.length_append]
    cases h : op_m x.Op with
    | false =>
      rw [h] at hp hpl
      simp only [cond_false, List.nil_append] at hpl
      have hM : x.M = [] := by
        unfold mayMN at m4; rw [h] at m4; exact beq_iff_eq.1 m4
      have : pre.length = (putIns x).length := by omega
      simp only [cond_false]
      rw [this, ← hM]
      rfl
    | true =>
      rw [h] at hp hpl
      simp only [cond_true] at hp hpl ⊢
      unfold op_reader_text_s2 op_reader_text_s2_j1 op_Get_3
      have hcut : cutP all ((pre.length : Nat) : Int) (all.length : Int) = some (putText x.M ++ rest) := by rw [hp]; exact cut_pre
      have hget : num_GetText (putText x.M ++ rest) = some (x.M, ((putText x.M).length : Int), 0) := by
        rw [num_GetText_eq (by unfold Len; simp; omega), getText_put _ _ (by omega)]
      have hw : IntKind.i64.wrap ((pre.length : Nat) + ((putText x.M).length : Int)) = ((putIns x).length : Nat) := by
        rw [List.length_append] at hpl
        rw [wrapI (by omega) (by omega)]; omega
      rw [hcut, Option.bind_some, hget, Option.bind_some]
      simp only
      rw [op_mayM_eq (by unfold Len; omega), m4, hw]
      rfl
  have g2 : ∀ pre : List UInt8, all = pre ++ (cond (op_c x.Op) (putText x.C) [] ++ (cond (op_m x.Op) (putText x.M) [] ++ rest)) → op_Get_j1 all (x.Op, ((put x.Op).length : Int), 0) (pre.length : Nat) 0 x.A = some (x, (((putIns x).length : Nat) : Int), 0) := fun pre hp => by
    unfold op_Get_j1
    cases h : op_c x.Op with
    | false =>
      rw [h] at hp
      have hC : x.C = [] := by
        unfold mayCN at m3; rw [hty h, h] at m3; exact beq_iff_eq.1 m3
      simp only [cond_false]
      rw [← hC]
      exact g3 pre (by simpa using hp)
    | true =>
      rw [h] at hp
      simp only [cond_true] at hp ⊢
      unfold op_reader_text op_reader_text_j1 op_Get_2
      have hcut : cutP all ((pre.length : Nat) : Int) (all.length : Int) = some (putText x.C ++ (cond (op_m x.Op) (putText x.M) [] ++ rest)) := by rw [hp]; exact cut_pre
      have hle : (cond (op_m x.Op) (putText x.M) [] ++ rest).length ≤ 1001000010 := by cases op_m x.Op <;> simp <;> omega
      have hget : num_GetText (putText x.C ++ (cond (op_m x.Op) (putText x.M) [] ++ rest)) = some (x.C, ((putText x.C).length : Int), 0) := by
        rw [num_GetText_eq (by unfold Len; rw [List.length_append]; omega), getText_put _ _ (by omega)]
      have hpl : all.length = pre.length + ((putText x.C).length + (cond (op_m x.Op) (putText x.M) [] ++ rest).length) := by rw [hp, List.length_append, List.length_append]
      have hw : IntKind.i64.wrap ((pre.length : Nat) + ((putText x.C).length : Int)) = ((pre ++ putText x.C).length : Nat) := by
        rw [wrapI (by omega) (by omega), List.length_append]; omega
      rw [hcut, Option.bind_some, hget, Option.bind_some]
      simp only
      rw [op_mayC_eq (by unfold Len; omega), m3, hw]
      exact g3 (pre ++ putText x.C) (by rw [hp]; simp)
  have k0 : cutP all 0 (all.length : Int) = some all := by
    have := cutP_from (l := all) (a := 0) (by simp)
    simpa using this
  have hfirst : op_reader_num all 0 0 = some (x.Op, (((put x.Op).length : Nat) : Int), 0) := by
    unfold op_reader_num op_reader_num_j1
    rw [k0, Option.bind_some]
    have : num_Get all = some (x.Op, ((put x.Op).length : Int), 0) := by
      rw [num_Get_eq (by unfold Len; omega), hall]
      unfold putIns
      rw [List.append_assoc, get_put _ _ hx.op.1 hx.op.2]
    rw [this, Option.bind_some]
    simp only
    rw [m1, wrapI (by omega) (by omega)]
    simp
  rw [← hall]
  unfold op_Get
  rw [hfirst, Option.bind_some]
  simp only
  have h0 : all = put x.Op ++ (cond (op_a x.Op) (put x.A) [] ++ (cond (op_c x.Op) (putText x.C) [] ++ (cond (op_m x.Op) (putText x.M) [] ++ rest))) := by rw [hall]; unfold putIns; simp
  cases h : op_a x.Op with
  | false =>
    have hA : x.A = 0 := by
      rw [mayA_eq, h] at m2; exact beq_iff_eq.1 m2
    rw [h] at h0
    have := g2 (put x.Op) (by simpa using h0)
    rw [hA] at this
    exact this
  | true =>
    rw [h] at h0
    simp only [cond_true] at h0 ⊢
    have hn : op_reader_num_s2 all ((put x.Op).length : Nat) 0 x.Op 0 [] [] = some (x.A, (((put x.Op ++ put x.A).length : Nat) : Int), 0) := by
      unfold op_reader_num_s2 op_reader_num_s2_j1 op_Get_1
      have hcut : cutP all (((put x.Op).length : Nat) : Int) (all.length : Int) = some (put x.A ++ (cond (op_c x.Op) (putText x.C) [] ++ (cond (op_m x.Op) (putText x.M) [] ++ rest))) := by rw [h0]; exact cut_pre
      have hle : (put x.A ++ (cond (op_c x.Op) (putText x.C) [] ++ (cond (op_m x.Op) (putText x.M) [] ++ rest))).length ≤ all.length := by
        have := congrArg List.length h0
        rw [List.length_append] at this
        omega
      have : num_Get (put x.A ++ (cond (op_c x.Op) (putText x.C) [] ++ (cond (op_m x.Op) (putText x.M) [] ++ rest))) = some (x.A, ((put x.A).length : Int), 0) := by
        rw [num_Get_eq (by unfold Len; omega), get_put _ _ hx.a.1 hx.a.2]
      rw [hcut, Option.bind_some, this, Option.bind_some]
      simp only
      rw [m2, wrapI (by omega) (by omega), List.length_append]
      simp
    rw [hn, Option.bind_some]
    exact g2 (put x.Op ++ put x.A) (by rw [h0]; simp)
theorem law3_begun_eq : law3_begun = some true := by
  have c1 : kind_May [91, 91, 65, 98] = some true := by rw [kind_May_eq (by decide)]; rfl
  have c2 : kind_May [65, 98] = some true := by rw [kind_May_eq (by decide)]; rfl
  have c3 : kind_Class [65, 98] = some true := by rw [kind_Class_eq (by decide)]; rfl
  have c4 : kind_Class [65] = some false := by rw [kind_Class_eq (by decide)]; rfl
  have c5 : kind_Name [97, 98] = some true := by rw [kind_Name_eq (by decide)]; rfl
  have c6 : kind_Name [36, 105, 110, 105, 116] = some true := by rw [kind_Name_eq (by decide)]; rfl
  have c7 : kind_Name [65, 98] = some false := by rw [kind_Name_eq (by decide)]; rfl
  have c8 : kind_May [91, 91, 73] = some true := by rw [kind_May_eq (by decide)]; rfl
  have c9 : kind_May [91, 91, 91, 73] = some false := by rw [kind_May_eq (by decide)]; rfl
  have c10 : kind_Ret [86] = some true := by rw [kind_Ret_eq (by decide)]; rfl
  have c11 : kind_May [86] = some false := by rw [kind_May_eq (by decide)]; rfl
  have c12 : kind_Ref [91, 73] = some true := by rw [kind_Ref_eq (by decide)]; rfl
  have c13 : kind_Ref [73] = some false := by rw [kind_Ref_eq (by decide)]; rfl
  have c14 : kind_May [73] = some true := by rw [kind_May_eq (by decide)]; rfl
  have c15 : kind_May [91, 73] = some true := by rw [kind_May_eq (by decide)]; rfl
  have e1 : kind_Elem [91, 91, 65, 98] = some ([91, 65, 98], true) := by unfold kind_Elem; rw [c1]; rfl
  have e2 : kind_Elem [65, 98] = some ([], false) := by unfold kind_Elem; rw [c2]; rfl
  have e3 : kind_Array [73] = some [91, 73] := by
    unfold kind_Array
    rw [c14, show catP [91] [73] = some [91, 73] from rfl, Option.bind_some, Option.bind_some, c15]; rfl
  have e4 : kind_Array [91, 91, 73] = some [] := by
    unfold kind_Array
    rw [c8, show catP [91] [91, 91, 73] = some [91, 91, 91, 73] from rfl, Option.bind_some, Option.bind_some, c9]; rfl
  unfold law3_begun
  rw [e1, e2, c3, c4, c5, c6, c7, c8, c9, c10, c11, c12, c13, e3, e4]
  rfl
theorem law3_Begun_eq : law3_Begun = some true := by unfold law3_Begun; rw [law3_begun_eq]; rfl
theorem law4_begun_eq : law4_begun = some true := by
  have hx : InsIn (ApiIns.mk 43 0 [65, 98] [102]) := ⟨by decide, by decide, by decide, by decide⟩
  have hm : mayIns (ApiIns.mk 43 0 [65, 98] [102]) = true := by decide +kernel
  have hp : putIns (ApiIns.mk 43 0 [65, 98] [102]) = [86, 4, 65, 98, 2, 102] := by decide +kernel
  have g1 := op_Get_put (rest := [1]) hx hm (by decide)
  have p1 := op_Put_eq (bs := []) hx (by decide)
  rw [hp] at g1 p1
  have m1 : op_May (ApiIns.mk 43 0 [65, 98] [102]) = some true := by rw [op_May_eq (by decide) (by decide), hm]
  have m2 : op_May (ApiIns.mk 43 0 [] []) = some false := by
    rw [op_May_eq (by decide) (by decide)]
    exact congrArg some (by decide +kernel)
  have ge : op_Get [] = some (ApiIns.mk 0 0 [] [], 0, 2) := by
    have : op_reader_num [] 0 0 = some (0, 0, 2) := by
      unfold op_reader_num
      rw [show cutP ([] : List UInt8) 0 (List.length ([] : List UInt8) : Int) = some [] from rfl, Option.bind_some, num_Get_eq (by decide)]
      rfl
    unfold op_Get
    rw [this]
    rfl
  have g0 : op_Get [(0 : UInt8)] = some (ApiIns.mk 0 0 [] [], 0, 1) := by
    have : op_reader_num [(0 : UInt8)] 0 0 = some (0, 1, 1) := by
      unfold op_reader_num
      rw [show cutP [(0 : UInt8)] 0 (List.length [(0 : UInt8)] : Int) = some [0] from rfl, Option.bind_some, num_Get_eq (by decide)]
      rfl
    unfold op_Get
    rw [this]
    rfl
  unfold law4_begun
  rw [p1, Option.bind_some, show appP 1 ([] : List UInt8) ([] ++ [86, 4, 65, 98, 2, 102]) = some [86, 4, 65, 98, 2, 102] from rfl, Option.bind_some, show appP 1 ([86, 4, 65, 98, 2, 102] : List UInt8) [(1 : UInt8)] = some ([86, 4, 65, 98, 2, 102] ++ [1]) from rfl, Option.bind_some, g1, ge, g0, law3_Begun_eq, m1, m2]
  decide +kernel
theorem law1_Cut_eq {s : List UInt8} {n : Nat} : law1_Cut s (n : Int) = some (s.take n) := by
  unfold law1_Cut
  by_cases h : n < s.length
  · rw [decide_eq_true (show (n : Int) < (s.length : Int) by omega), cutP_to (by omega)]; rfl
  · rw [decide_eq_false (show ¬ (n : Int) < (s.length : Int) by omega), List.take_of_length_le (by omega)]; rfl
end Go.Proofs.YtdhpdpkcfffpiaaGreat
namespace Go.Proofs.YtdhpdpkcfffpiaaGreat
set_option linter.unusedSimpArgs false
set_option linter.unusedVariables false
def ixF {α : Type} (p : α → Bool) : Nat → List α → Int
  | _, [] => -1
  | k, x :: r => cond (p x) (k : Int) (ixF p (k + 1) r)
theorem ixF_any {α : Type} (p : α → Bool) : ∀ (k : Nat) (l : List α), decide (0 ≤ ixF p k l) = l.any p
  | _, [] => rfl
  | k, x :: r => by
    unfold ixF
    rw [List.any_cons]
    cases p x with
    | true => exact decide_eq_true (show (0 : Int) ≤ (k : Int) by omega)
    | false => exact ixF_any p (k + 1) r
theorem index_loop {α : Type} {body : Int → Option (Sum Int (Sum Unit Int))} {l : List α} {p : α → Bool} (hl : l.length ≤ 9223372036854775807)
    (hb : ∀ (i : Nat) x, l[i]? = some x → body (i : Int) = cond (p x) (some (.inr (.inr (i : Int)))) (some (.inl (IntKind.i64.wrap ((i : Int) + 1)))))
    (he : body (l.length : Int) = some (.inr (.inl ()))) :
    (loopP body 0).bind (fun o => leave o (fun _ => some (-1 : Int)) some) = some (ixF p 0 l) := by
  have key : ∀ (r pre : List α), l = pre ++ r → (loopP body (pre.length : Int)).bind (fun o => leave o (fun _ => some (-1 : Int)) some) = some (ixF p pre.length r) := by
    intro r
    induction r with
    | nil =>
      intro pre h
      rw [List.append_nil] at h
      subst h
      rw [loopP_eq, he]
      rfl
    | cons x r ih =>
      intro pre h
      have hlen : l.length = pre.length + (r.length + 1) := by rw [h]; simp
      have hx : l[pre.length]? = some x := by rw [h]; simp
      rw [loopP_eq, hb _ x hx]
      unfold ixF
      cases p x with
      | true => rfl
      | false =>
        rw [wrap_succ (by omega)]
        have := ih (pre ++ [x]) (by rw [h]; simp)
        rw [show (pre ++ [x]).length = pre.length + 1 by simp] at this
        exact this
  exact key l [] rfl
def uB {α : Type} (ok : α → Bool) (nm : α → List UInt8) : List α → List α → Bool
  | _, [] => false
  | pre, x :: r => (!ok x || pre.any (fun y => nm x == nm y)) || uB ok nm (pre ++ [x]) r
theorem uniq_loop {α : Type} {body : Int → Option (Sum Int (Sum Unit Bool))} {l : List α} {ok : α → Bool} {nm : α → List UInt8} (hl : l.length ≤ 9223372036854775807)
    (hb : ∀ (i : Nat) x, l[i]? = some x → body (i : Int) = cond (!ok x || (l.take i).any (fun y => nm x == nm y)) (some (.inr (.inr false))) (some (.inl (IntKind.i64.wrap ((i : Int) + 1)))))
    (he : body (l.length : Int) = some (.inr (.inl ()))) {k : Option Bool} :
    (loopP body 0).bind (fun o => leave o (fun _ => k) some) = cond (uB ok nm [] l) (some false) k := by
  have key : ∀ (r pre : List α), l = pre ++ r → (loopP body (pre.length : Int)).bind (fun o => leave o (fun _ => k) some) = cond (uB ok nm pre r) (some false) k := by
    intro r
    induction r with
    | nil =>
      intro pre h
      rw [List.append_nil] at h
      subst h
      rw [loopP_eq, he]
      rfl
    | cons x r ih =>
      intro pre h
      have hlen : l.length = pre.length + (r.length + 1) := by rw [h]; simp
      have hx : l[pre.length]? = some x := by rw [h]; simp
      have ht : l.take pre.length = pre := by rw [h]; simp
      rw [loopP_eq, hb _ x hx, ht]
      unfold uB
      cases !ok x || pre.any (fun y => nm x == nm y) with
      | true => rfl
      | false =>
        rw [wrap_succ (by omega)]
        have := ih (pre ++ [x]) (by rw [h]; simp)
        rw [show (pre ++ [x]).length = pre.length + 1 by simp] at this
        exact this
  exact key l [] rfl
def eqL {α : Type} (e : α → α → Bool) : List α → List α → Bool
  | [], [] => true
  | x :: a, y :: b => e x y && eqL e a b
  | _, _ => false
theorem eqL_len {α : Type} (e : α → α → Bool) : ∀ (a b : List α), a.length ≠ b.length → eqL e a b = false
  | [], [], h => absurd rfl h
  | [], _ :: _, _ => rfl
  | _ :: _, [], _ => rfl
  | x :: a, y :: b, h => by
    show (e x y && eqL e a b) = false
    rw [eqL_len e a b (fun hh => h (by simp [hh])), Bool.and_false]
theorem equal_loop {α : Type} {body : Int → Option (Sum Int (Sum Unit Bool))} {a b : List α} {e : α → α → Bool} (hl : a.length ≤ 9223372036854775807)
    (hb : ∀ (i : Nat) x y, a[i]? = some x → b[i]? = some y → body (i : Int) = cond (!e x y) (some (.inr (.inr false))) (some (.inl (IntKind.i64.wrap ((i : Int) + 1)))))
    (he : body (a.length : Int) = some (.inr (.inl ()))) :
    cond (!((a.length : Int) == (b.length : Int))) (some false) ((loopP body 0).bind (fun o => leave o (fun _ => some true) some)) = some (eqL e a b) := by
  by_cases hn : a.length = b.length
  · have key : ∀ (r s pre pre' : List α), pre.length = pre'.length → a = pre ++ r → b = pre' ++ s → (loopP body (pre.length : Int)).bind (fun o => leave o (fun _ => some true) some) = some (eqL e r s) := by
      intro r
      induction r with
      | nil =>
        intro s pre pre' hp h1 h2
        have : s = [] := by
          have : a.length = pre.length := by rw [h1]; simp
          have : b.length = pre'.length + s.length := by rw [h2]; simp
          exact List.eq_nil_of_length_eq_zero (by omega)
        subst this
        rw [List.append_nil] at h1
        subst h1
        rw [loopP_eq, he]
        rfl
      | cons x r ih =>
        intro s pre pre' hp h1 h2
        have hlen : a.length = pre.length + (r.length + 1) := by rw [h1]; simp
        have hlen2 : b.length = pre'.length + s.length := by rw [h2]; simp
        cases s with
        | nil => simp at hlen2; omega
        | cons y s =>
          have hx : a[pre.length]? = some x := by rw [h1]; simp
          have hy : b[pre.length]? = some y := by rw [h2, hp]; simp
          rw [loopP_eq, hb _ x y hx hy]
          show _ = some (e x y && eqL e r s)
          cases e x y with
          | false => rfl
          | true =>
            rw [wrap_succ (by omega)]
            have := ih s (pre ++ [x]) (pre' ++ [y]) (by simp [hp]) (by rw [h1]; simp) (by rw [h2]; simp)
            rw [show (pre ++ [x]).length = pre.length + 1 by simp] at this
            exact this
    rw [show ((a.length : Int) == (b.length : Int)) = true from beq_iff_eq.2 (by omega)]
    exact key a b [] [] rfl rfl rfl
  · rw [eqL_len e a b hn, show ((a.length : Int) == (b.length : Int)) = false from beq_eq_false_iff_ne.2 (by omega)]
    rfl
abbrev LenL {α : Type} (l : List α) : Prop := l.length ≤ 9223372036854775807
theorem here {α : Type} {l : List α} {i : Nat} {x : α} (h : l[i]? = some x) : decide ((i : Int) < (l.length : Int)) = true :=
  decide_eq_true (by have := (List.getElem?_eq_some_iff.1 h).1; omega)
theorem past {α : Type} (l : List α) : decide ((l.length : Int) < (l.length : Int)) = false := decide_eq_false (by omega)
theorem hasField {l : List ApiField} (hl : LenL l) (n t : List UInt8) (s : Bool) : slices_ContainsFunc_api_Field_api_Field l n t s = some (l.any fun y => n == y.Name) := by
  unfold slices_ContainsFunc_api_Field_api_Field slices_IndexFunc_api_Field_api_Field
  rw [show ((loopP (fun z => slices_IndexFunc_api_Field_api_Field_l1 l n t s z) 0).bind fun o => leave o (fun b => slices_IndexFunc_api_Field_api_Field_k2) some) = _ from index_loop (p := fun y : ApiField => n == y.Name) hl
    (fun i x hx => by unfold slices_IndexFunc_api_Field_api_Field_l1; rw [here hx, idx_nat, hx]; rfl) (by unfold slices_IndexFunc_api_Field_api_Field_l1; rw [past]; rfl)]
  exact congrArg some (ixF_any _ 0 l)
theorem hasMethod {l : List ApiMethod} (hl : LenL l) (n : List UInt8) (a b c d e f g h i) : slices_ContainsFunc_api_Method_api_Method l n a b c d e f g h i = some (l.any fun y => n == y.Name) := by
  unfold slices_ContainsFunc_api_Method_api_Method slices_IndexFunc_api_Method_api_Method
  rw [show ((loopP (fun z => slices_IndexFunc_api_Method_api_Method_l1 l n a b c d e f g h i z) 0).bind fun o => leave o (fun b => slices_IndexFunc_api_Method_api_Method_k2) some) = _ from index_loop (p := fun y : ApiMethod => n == y.Name) hl
    (fun i x hx => by unfold slices_IndexFunc_api_Method_api_Method_l1; rw [here hx, idx_nat, hx]; rfl) (by unfold slices_IndexFunc_api_Method_api_Method_l1; rw [past]; rfl)]
  exact congrArg some (ixF_any _ 0 l)
theorem hasName {l : List (List UInt8)} (hl : LenL l) (n : List UInt8) : slices_ContainsFunc_string_string_s3 l n = some (l.any fun y => n == y) := by
  unfold slices_ContainsFunc_string_string_s3 slices_IndexFunc_string_string_s3
  rw [show ((loopP (fun z => slices_IndexFunc_string_string_s3_l1 l n z) 0).bind fun o => leave o (fun b => slices_IndexFunc_string_string_s3_k2) some) = _ from index_loop (p := fun y : List UInt8 => n == y) hl
    (fun i x hx => by unfold slices_IndexFunc_string_string_s3_l1; rw [here hx, idx_nat, hx]; rfl) (by unfold slices_IndexFunc_string_string_s3_l1; rw [past]; rfl)]
  exact congrArg some (ixF_any _ 0 l)
theorem class_Method_eq {c : ApiClass} (hl : LenL c.Methods) (n : List UInt8) : class_Method c n = some (ixF (fun y => y.Name == n) 0 c.Methods) := by
  unfold class_Method slices_IndexFunc_api_Method_api_Method_s2
  rw [show ((loopP (fun z => slices_IndexFunc_api_Method_api_Method_s2_l1 c.Methods n z) 0).bind fun o => leave o (fun b => slices_IndexFunc_api_Method_api_Method_s2_k2) some) = _ from index_loop (p := fun y : ApiMethod => y.Name == n) hl
    (fun i x hx => by unfold slices_IndexFunc_api_Method_api_Method_s2_l1; rw [here hx, idx_nat, hx]; rfl) (by unfold slices_IndexFunc_api_Method_api_Method_s2_l1; rw [past]; rfl)]
  rfl
theorem class_Field_eq {c : ApiClass} (hl : LenL c.Fields) (n : List UInt8) : class_Field c n = some (ixF (fun y => y.Name == n) 0 c.Fields) := by
  unfold class_Field slices_IndexFunc_api_Field_api_Field_s2
  rw [show ((loopP (fun z => slices_IndexFunc_api_Field_api_Field_s2_l1 c.Fields n z) 0).bind fun o => leave o (fun b => slices_IndexFunc_api_Field_api_Field_s2_k2) some) = _ from index_loop (p := fun y : ApiField => y.Name == n) hl
    (fun i x hx => by unfold slices_IndexFunc_api_Field_api_Field_s2_l1; rw [here hx, idx_nat, hx]; rfl) (by unfold slices_IndexFunc_api_Field_api_Field_s2_l1; rw [past]; rfl)]
  rfl
noncomputable def fieldN (f : ApiField) : Bool := (nameN f.Name && !(f.Name == [36, 105, 110, 105, 116])) && mayN f.Type_
theorem class_May_2_eq {f : ApiField} (h1 : Len f.Name) (h2 : Len f.Type_) : class_May_2 f = some (fieldN f) := by
  unfold class_May_2 fieldN
  rw [kind_Name_eq h1, kind_May_eq h2, Option.bind_some]
  cases (nameN f.Name && !(f.Name == [36, 105, 110, 105, 116])) <;> rfl
theorem allFields {l : List ApiField} (hl : LenL l) (h : ∀ f ∈ l, Len f.Name ∧ Len f.Type_) (n : Int) : class_all_api_Field l n = cond (uB fieldN (·.Name) [] l) (some false) (some (decide ((l.length : Int) ≤ n))) := by
  unfold class_all_api_Field
  refine uniq_loop (ok := fieldN) (nm := (·.Name)) hl (fun i x hx => ?_) ?_
  · have hm := h x (List.mem_of_getElem? hx)
    have hi := (List.getElem?_eq_some_iff.1 hx).1
    unfold class_all_api_Field_l1
    rw [here hx, idx_nat, hx]
    simp only [Option.bind_some, cond_true]
    rw [class_May_2_eq hm.1 hm.2, Option.bind_some, cutP_to (by omega), Option.bind_some, hasField (by unfold LenL at *; rw [List.length_take]; omega)]
    cases fieldN x <;> rfl
  · unfold class_all_api_Field_l1
    rw [past]; rfl
theorem allNames {l : List (List UInt8)} (hl : LenL l) (h : ∀ s ∈ l, Len s) (n : Int) : class_all_string l n = cond (uB classN id [] l) (some false) (some (decide ((l.length : Int) ≤ n))) := by
  unfold class_all_string
  refine uniq_loop (ok := classN) (nm := id) hl (fun i x hx => ?_) ?_
  · have hm := h x (List.mem_of_getElem? hx)
    have hi := (List.getElem?_eq_some_iff.1 hx).1
    unfold class_all_string_l1
    rw [here hx, idx_nat, hx]
    simp only [Option.bind_some, cond_true]
    rw [kind_Class_eq hm, Option.bind_some, cutP_to (by omega), Option.bind_some, hasName (by unfold LenL at *; rw [List.length_take]; omega)]
    cases classN x <;> rfl
  · unfold class_all_string_l1
    rw [past]; rfl
noncomputable def typesN (l : List (List UInt8)) : Bool := !(l.any fun s => !mayN s)
theorem class_types_eq {l : List (List UInt8)} (hl : LenL l) (h : ∀ s ∈ l, Len s) : class_types l = some (typesN l) := by
  unfold class_types slices_ContainsFunc_string_string slices_IndexFunc_string_string
  rw [show ((loopP (fun z => slices_IndexFunc_string_string_l1 l z) 0).bind fun o => leave o (fun b => slices_IndexFunc_string_string_k2) some) = _ from index_loop (p := fun s => !mayN s) hl
    (fun i x hx => by
      unfold slices_IndexFunc_string_string_l1 class_types_1
      rw [here hx, idx_nat, hx]
      simp only [Option.bind_some, cond_true]
      rw [kind_May_eq (h x (List.mem_of_getElem? hx))]
      rfl) (by unfold slices_IndexFunc_string_string_l1; rw [past]; rfl)]
  rw [Option.bind_some, ixF_any]
  rfl
noncomputable def insN (n : Int) (x : ApiIns) : Bool := (!mayIns x) || (op_Jumps x.Op && decide (n ≤ x.A))
noncomputable def instrN (c : List ApiIns) : Bool := class_between (c.length : Int) 1 100 && (c.getLast?.elim false (fun y => op_Ends y.Op) && !(c.any (insN (c.length : Int))))
theorem class_instructions_eq {m : ApiMethod} (hl : LenL m.Code) (h : ∀ x ∈ m.Code, Len x.C ∧ Len x.M) : class_instructions m = some (instrN m.Code) := by
  have hc : slices_ContainsFunc_api_Ins_api_Ins m.Code (m.Code.length : Int) = some (m.Code.any (insN (m.Code.length : Int))) := by
    unfold slices_ContainsFunc_api_Ins_api_Ins slices_IndexFunc_api_Ins_api_Ins
    rw [show ((loopP (fun z => slices_IndexFunc_api_Ins_api_Ins_l1 m.Code (m.Code.length : Int) z) 0).bind fun o => leave o (fun b => slices_IndexFunc_api_Ins_api_Ins_k2) some) = _ from index_loop (p := insN (m.Code.length : Int)) hl
      (fun i x hx => by
        have hm := h x (List.mem_of_getElem? hx)
        unfold slices_IndexFunc_api_Ins_api_Ins_l1 class_instructions_1
        rw [here hx, idx_nat, hx]
        simp only [Option.bind_some, cond_true]
        rw [op_May_eq hm.1 hm.2]
        rfl) (by unfold slices_IndexFunc_api_Ins_api_Ins_l1; rw [past]; rfl)]
    exact congrArg some (ixF_any _ 0 _)
  unfold class_instructions instrN
  rw [hc]
  cases hb : class_between (m.Code.length : Int) 1 100 with
  | false => rfl
  | true =>
    have hb' : (decide (1 ≤ (m.Code.length : Int)) && decide ((m.Code.length : Int) ≤ 100)) = true := hb
    simp only [Bool.and_eq_true, decide_eq_true_eq] at hb'
    have e : IntKind.i64.wrap ((m.Code.length : Int) - 1) = ((m.Code.length - 1 : Nat) : Int) := by
      rw [wrapI (by omega) (by omega)]; omega
    rw [e, idx_nat, ← List.getLast?_eq_getElem?]
    cases hg : m.Code.getLast? with
    | none =>
      rw [List.getLast?_eq_none_iff] at hg
      rw [hg] at hb'
      simp at hb'
    | some y =>
      simp only [Option.bind_some, Bool.not_true, cond_false, Option.elim_some, Bool.true_and]
      cases op_Ends y.Op <;> rfl
noncomputable def trapN (n : Int) (y : ApiTrap) : Bool := (((decide (y.From < 0) || decide (y.To ≤ y.From)) || decide (n < y.To)) || !(class_between y.At 0 (IntKind.i64.wrap (n - 1)))) || (!(y.C == []) && !classN y.C)
noncomputable def trapsN (m : ApiMethod) : Bool := !(m.Traps.any (trapN (m.Code.length : Int))) && decide ((m.Traps.length : Int) ≤ 6)
theorem class_traps_eq {m : ApiMethod} (hl : LenL m.Traps) (h : ∀ x ∈ m.Traps, Len x.C) : class_traps m = some (trapsN m) := by
  unfold class_traps slices_ContainsFunc_api_Trap_api_Trap slices_IndexFunc_api_Trap_api_Trap
  rw [show ((loopP (fun z => slices_IndexFunc_api_Trap_api_Trap_l1 m.Traps m.Name m.Params m.Ret m.Static m.Abstract m.Locals m.Stack m.Code m.Maps m.Traps z) 0).bind fun o => leave o (fun b => slices_IndexFunc_api_Trap_api_Trap_k2) some) = _ from index_loop (p := trapN (m.Code.length : Int)) hl
    (fun i x hx => by
      have hm := h x (List.mem_of_getElem? hx)
      unfold slices_IndexFunc_api_Trap_api_Trap_l1 class_traps_1 trapN
      rw [here hx, idx_nat, hx]
      simp only [Option.bind_some, cond_true]
      rw [kind_Class_eq hm]
      cases (((decide (x.From < 0) || decide (x.To ≤ x.From)) || decide ((m.Code.length : Int) < x.To)) || !(class_between x.At 0 (IntKind.i64.wrap ((m.Code.length : Int) - 1)))) with
      | true => rfl
      | false => cases (x.C == []) <;> rfl) (by unfold slices_IndexFunc_api_Trap_api_Trap_l1; rw [past]; rfl)]
  rw [Option.bind_some, ixF_any]
  rfl
structure MIn (m : ApiMethod) : Prop where
  name : Len m.Name
  params : LenL m.Params ∧ ∀ s ∈ m.Params, Len s
  ret : Len m.Ret
  code : LenL m.Code ∧ ∀ x ∈ m.Code, Len x.C ∧ Len x.M
  maps : m.Maps = []
  traps : LenL m.Traps ∧ ∀ x ∈ m.Traps, Len x.C
noncomputable def methodN (m : ApiMethod) : Bool :=
  ((!((!nameN m.Name) || decide (6 < (m.Params.length : Int))) && typesN m.Params) && retN m.Ret) && cond m.Abstract (class_empty m)
    (!((m.Name == [36, 105, 110, 105, 116]) && (((!m.Static) || decide (0 < (m.Params.length : Int))) || (!(m.Ret == [86])))) && (class_between m.Locals (class_args m) 16 && (class_between m.Stack 0 16 && (instrN m.Code && trapsN m))))
theorem class_method_eq {m : ApiMethod} (h : MIn m) : class_method m = some (methodN m) := by
  have hm : class_maps m = some true := by
    unfold class_maps
    rw [loopP_eq]
    show ((class_maps_l3 m 0).bind _).bind _ = _
    unfold class_maps_l3 class_maps_k4
    rw [h.maps]
    rfl
  unfold class_method methodN
  rw [kind_Name_eq h.name, Option.bind_some, class_types_eq h.params.1 h.params.2, kind_Ret_eq h.ret, class_instructions_eq h.code.1 h.code.2, hm, class_traps_eq h.traps.1 h.traps.2]
  cases ((!nameN m.Name) || decide (6 < (m.Params.length : Int))) with
  | true => rfl
  | false =>
    cases typesN m.Params with
    | false => rfl
    | true =>
      cases retN m.Ret with
      | false => rfl
      | true =>
        cases m.Abstract with
        | true => rfl
        | false =>
          cases ((m.Name == [36, 105, 110, 105, 116]) && (((!m.Static) || decide (0 < (m.Params.length : Int))) || (!(m.Ret == [86])))) with
          | true => rfl
          | false =>
            cases class_between m.Locals (class_args m) 16 with
            | false => rfl
            | true =>
              cases class_between m.Stack 0 16 with
              | false => rfl
              | true => cases instrN m.Code <;> rfl
theorem allMethods {l : List ApiMethod} (hl : LenL l) (h : ∀ m ∈ l, MIn m) (n : Int) (a b : List UInt8) (i : Bool) (c : List (List UInt8)) (d : List ApiField) (e : List ApiMethod) :
    class_all_api_Method l n a b i c d e = cond (uB (fun m => (m.Abstract == i) && methodN m) (·.Name) [] l) (some false) (some (decide ((l.length : Int) ≤ n))) := by
  unfold class_all_api_Method
  refine uniq_loop (ok := fun m => (m.Abstract == i) && methodN m) (nm := (·.Name)) hl (fun j x hx => ?_) ?_
  · have hm := h x (List.mem_of_getElem? hx)
    have hi := (List.getElem?_eq_some_iff.1 hx).1
    unfold class_all_api_Method_l1 class_May_4
    rw [here hx, idx_nat, hx]
    simp only [Option.bind_some, cond_true]
    rw [class_method_eq hm, cutP_to (by omega)]
    simp only [Option.bind_some]
    rw [hasMethod (by unfold LenL at *; rw [List.length_take]; omega)]
    cases (x.Abstract == i) with
    | false => rfl
    | true => cases methodN x <;> rfl
  · unfold class_all_api_Method_l1
    rw [past]; rfl
structure CIn (c : ApiClass) : Prop where
  name : Len c.Name
  super : Len c.Super
  impl : LenL c.Impl ∧ ∀ s ∈ c.Impl, Len s
  fields : LenL c.Fields ∧ ∀ f ∈ c.Fields, Len f.Name ∧ Len f.Type_
  methods : LenL c.Methods ∧ ∀ m ∈ c.Methods, MIn m
noncomputable def mayClass (c : ApiClass) : Bool :=
  !(c.Interface && ((!(c.Super == [79, 98, 106, 101, 99, 116])) || decide (0 < (c.Fields.length : Int)))) &&
  (((((classN c.Name && classN c.Super) && (!(uB classN id [] c.Impl) && decide ((c.Impl.length : Int) ≤ 4))) && (!(uB fieldN (·.Name) [] c.Fields) && decide ((c.Fields.length : Int) ≤ 8)))) &&
    (!(uB (fun m => (m.Abstract == c.Interface) && methodN m) (·.Name) [] c.Methods) && decide ((c.Methods.length : Int) ≤ 8)))
theorem class_May_eq {c : ApiClass} (h : CIn c) : class_May c = some (mayClass c) := by
  have e : ∀ (b d : Bool), cond b (some false) (some d) = some (!b && d) := fun b d => by cases b <;> rfl
  unfold class_May mayClass
  rw [allFields h.fields.1 h.fields.2, allMethods h.methods.1 h.methods.2, kind_Class_eq h.name, kind_Class_eq h.super, allNames h.impl.1 h.impl.2, e, e, e]
  cases (c.Interface && ((!(c.Super == [79, 98, 106, 101, 99, 116])) || decide (0 < (c.Fields.length : Int)))) with
  | true => rfl
  | false =>
    cases classN c.Name with
    | false => rfl
    | true => cases classN c.Super <;> rfl
end Go.Proofs.YtdhpdpkcfffpiaaGreat
namespace Go.Proofs.YtdhpdpkcfffpiaaGreat
set_option linter.unusedSimpArgs false
set_option linter.unusedVariables false
def beqS (x y : List UInt8) : Bool := x == y
theorem eqStr {a b : List (List UInt8)} (hl : LenL a) : slices_Equal_string_string a b = some (eqL beqS a b) := by
  unfold slices_Equal_string_string
  refine equal_loop hl (fun i x y hx hy => ?_) ?_
  · unfold slices_Equal_string_string_l1
    rw [here hx, idx_nat, idx_nat, hx, hy]; rfl
  · unfold slices_Equal_string_string_l1
    rw [past]; rfl
def beqF (x y : ApiField) : Bool := (x.Name == y.Name) && ((x.Type_ == y.Type_) && ((x.Static == y.Static) && true))
theorem eqFields {a b : List ApiField} (hl : LenL a) : slices_Equal_api_Field_api_Field a b = some (eqL beqF a b) := by
  unfold slices_Equal_api_Field_api_Field
  refine equal_loop hl (fun i x y hx hy => ?_) ?_
  · unfold slices_Equal_api_Field_api_Field_l1
    rw [here hx, idx_nat, idx_nat, hx, hy]; rfl
  · unfold slices_Equal_api_Field_api_Field_l1
    rw [past]; rfl
def beqI (x y : ApiIns) : Bool := (x.Op == y.Op) && ((x.A == y.A) && ((x.C == y.C) && ((x.M == y.M) && true)))
theorem eqCode {a b : List ApiIns} (hl : LenL a) : slices_Equal_api_Ins_api_Ins a b = some (eqL beqI a b) := by
  unfold slices_Equal_api_Ins_api_Ins
  refine equal_loop hl (fun i x y hx hy => ?_) ?_
  · unfold slices_Equal_api_Ins_api_Ins_l1
    rw [here hx, idx_nat, idx_nat, hx, hy]; rfl
  · unfold slices_Equal_api_Ins_api_Ins_l1
    rw [past]; rfl
def beqT (x y : ApiTrap) : Bool := (x.From == y.From) && ((x.To == y.To) && ((x.At == y.At) && ((x.C == y.C) && true)))
theorem eqTraps {a b : List ApiTrap} (hl : LenL a) : slices_Equal_api_Trap_api_Trap a b = some (eqL beqT a b) := by
  unfold slices_Equal_api_Trap_api_Trap
  refine equal_loop hl (fun i x y hx hy => ?_) ?_
  · unfold slices_Equal_api_Trap_api_Trap_l1
    rw [here hx, idx_nat, idx_nat, hx, hy]; rfl
  · unfold slices_Equal_api_Trap_api_Trap_l1
    rw [past]; rfl
def beqMap (x y : ApiMap) : Bool := ((x.At == y.At) && eqL beqS x.Locals y.Locals) && eqL beqS x.Stack y.Stack
theorem class_eqMethod_1_eq {x y : ApiMap} (h1 : LenL x.Locals) (h2 : LenL x.Stack) : class_eqMethod_1 x y = some (beqMap x y) := by
  unfold class_eqMethod_1 beqMap
  rw [eqStr h1, eqStr h2]
  cases (x.At == y.At) with
  | false => rfl
  | true => cases eqL beqS x.Locals y.Locals <;> rfl
theorem eqMaps {a b : List ApiMap} (hl : LenL a) (h : ∀ x ∈ a, LenL x.Locals ∧ LenL x.Stack) : slices_EqualFunc_api_Map_api_Map_api_Map_api_Map a b = some (eqL beqMap a b) := by
  unfold slices_EqualFunc_api_Map_api_Map_api_Map_api_Map
  refine equal_loop hl (fun i x y hx hy => ?_) ?_
  · have hm := h x (List.mem_of_getElem? hx)
    unfold slices_EqualFunc_api_Map_api_Map_api_Map_api_Map_l1
    rw [here hx, idx_nat, idx_nat, hx, hy]
    simp only [Option.bind_some, cond_true]
    rw [class_eqMethod_1_eq hm.1 hm.2]
    rfl
  · unfold slices_EqualFunc_api_Map_api_Map_api_Map_api_Map_l1
    rw [past]; rfl
structure EIn (m : ApiMethod) : Prop where
  params : LenL m.Params
  code : LenL m.Code
  maps : LenL m.Maps ∧ ∀ x ∈ m.Maps, LenL x.Locals ∧ LenL x.Stack
  traps : LenL m.Traps
def beqM (x y : ApiMethod) : Bool :=
  ((((eqL beqMap x.Maps y.Maps && (((((x.Name == y.Name) && eqL beqS x.Params y.Params) && (x.Ret == y.Ret)) && (x.Static == y.Static)) && (x.Abstract == y.Abstract))) && (x.Locals == y.Locals)) && (x.Stack == y.Stack)) && eqL beqI x.Code y.Code) && eqL beqT x.Traps y.Traps
theorem class_eqMethod_eq {x y : ApiMethod} (h : EIn x) : class_eqMethod x y = some (beqM x y) := by
  unfold class_eqMethod beqM
  rw [eqMaps h.maps.1 h.maps.2, eqStr h.params, eqCode h.code, eqTraps h.traps]
  simp only [Option.bind_some]
  simp only [show ∀ b d : Bool, (cond b (some d) (some false)) = some (b && d) from fun b d => by cases b <;> rfl, Option.bind_some]
theorem eqMethods {a b : List ApiMethod} (hl : LenL a) (h : ∀ x ∈ a, EIn x) : slices_EqualFunc_api_Method_api_Method_api_Method_api_Method a b = some (eqL beqM a b) := by
  unfold slices_EqualFunc_api_Method_api_Method_api_Method_api_Method
  refine equal_loop hl (fun i x y hx hy => ?_) ?_
  · have hm := h x (List.mem_of_getElem? hx)
    unfold slices_EqualFunc_api_Method_api_Method_api_Method_api_Method_l1
    rw [here hx, idx_nat, idx_nat, hx, hy]
    simp only [Option.bind_some, cond_true]
    rw [class_eqMethod_eq hm]
    rfl
  · unfold slices_EqualFunc_api_Method_api_Method_api_Method_api_Method_l1
    rw [past]; rfl
structure ECIn (c : ApiClass) : Prop where
  impl : LenL c.Impl
  fields : LenL c.Fields
  methods : LenL c.Methods ∧ ∀ m ∈ c.Methods, EIn m
def beqC (x y : ApiClass) : Bool := (((((x.Name == y.Name) && (x.Super == y.Super)) && (x.Interface == y.Interface)) && eqL beqS x.Impl y.Impl) && eqL beqF x.Fields y.Fields) && eqL beqM x.Methods y.Methods
theorem class_Eq_eq {x y : ApiClass} (h : ECIn x) : class_Eq x y = some (beqC x y) := by
  unfold class_Eq beqC
  rw [eqStr h.impl, eqFields h.fields, eqMethods h.methods.1 h.methods.2]
  simp only [Option.bind_some]
  simp only [show ∀ b d : Bool, (cond b (some d) (some false)) = some (b && d) from fun b d => by cases b <;> rfl, Option.bind_some]
def meth (n : List UInt8) : ApiMethod := ApiMethod.mk n [] [86] true false 0 0 [ApiIns.mk 46 0 [] []] [] []
theorem meth_in {n : List UInt8} (h : Len n) : MIn (meth n) := by
  refine ⟨h, ⟨(Nat.le_of_ble_eq_true rfl), fun s hs => by cases hs⟩, (Nat.le_of_ble_eq_true rfl), ⟨(Nat.le_of_ble_eq_true rfl), fun x hx => ?_⟩, rfl, ⟨(Nat.le_of_ble_eq_true rfl), fun x hx => by cases hx⟩⟩
  obtain rfl : x = ApiIns.mk 46 0 [] [] := List.mem_singleton.1 hx
  exact ⟨by decide, by decide⟩
theorem law5_begun_eq : law5_begun = some true := by
  have i0 : ∀ n k, CIn (ApiClass.mk n k false [] [ApiField.mk [120] [73] false] [meth [109, 97, 105, 110]]) → True := fun _ _ _ => trivial
  have c0 : CIn (ApiClass.mk [65, 98] [79, 98, 106, 101, 99, 116] false [] [ApiField.mk [120] [73] false] [meth [109, 97, 105, 110]]) := by
    refine ⟨by decide, by decide, ⟨by decide, fun s hs => by cases hs⟩, ⟨by decide, fun f hf => ?_⟩, ⟨by decide, fun f hf => ?_⟩⟩
    · obtain rfl := List.mem_singleton.1 hf
      exact ⟨by decide, by decide⟩
    · obtain rfl := List.mem_singleton.1 hf
      exact meth_in (by decide)
  have c1 : CIn (ApiClass.mk [65, 98] [] false [] [] []) := by
    refine ⟨by decide, by decide, ⟨by decide, fun s hs => by cases hs⟩, ⟨by decide, fun f hf => by cases hf⟩, ⟨by decide, fun f hf => by cases hf⟩⟩
  have e0 : ECIn (ApiClass.mk [65, 98] [79, 98, 106, 101, 99, 116] false [] [ApiField.mk [120] [73] false] [meth [109, 97, 105, 110]]) := by
    refine ⟨by decide, by decide, ⟨by decide, fun f hf => ?_⟩⟩
    obtain rfl := List.mem_singleton.1 hf
    exact ⟨by decide, by decide, ⟨by decide, fun x hx => by cases hx⟩, by decide⟩
  have m0 := class_May_eq c0
  have m1 := class_May_eq c1
  have q0 := class_Eq_eq (y := ApiClass.mk [65, 98] [79, 98, 106, 101, 99, 116] false [] [ApiField.mk [120] [73] false] [meth [109, 97, 105, 110]]) e0
  have q1 := class_Eq_eq (y := ApiClass.mk [65, 98] [79, 98, 106, 101, 99, 116] false [] [ApiField.mk [120] [73] false] [ApiMethod.mk [109, 97, 105, 110] [] [86] true false 1 0 [ApiIns.mk 46 0 [] []] [] []]) e0
  have f0 := fun n => class_Field_eq (n := n) c0.fields.1
  have g0 := fun n => class_Method_eq (n := n) c0.methods.1
  unfold meth at m0 q0 q1 f0 g0
  unfold law5_begun
  rw [show law4_Begun = some true from (by unfold law4_Begun; rw [law4_begun_eq]; rfl), m0, m1, q0, q1, f0, f0, g0, g0]
  decide +kernel
end Go.Proofs.YtdhpdpkcfffpiaaGreat
namespace Go.Proofs.YtdhpdpkcfffpiaaGreat
set_option linter.unusedSimpArgs false
set_option linter.unusedVariables false
def gB {α : Type} (bad : List α → α → Bool) : List α → List α → Bool
  | _, [] => false
  | pre, x :: r => bad pre x || gB bad (pre ++ [x]) r
theorem gen_loop {α : Type} {body : Int → Option (Sum Int (Sum Unit Bool))} {l : List α} {bad : List α → α → Bool} (hl : l.length ≤ 9223372036854775807)
    (hb : ∀ (i : Nat) x, l[i]? = some x → body (i : Int) = cond (bad (l.take i) x) (some (.inr (.inr false))) (some (.inl (IntKind.i64.wrap ((i : Int) + 1)))))
    (he : body (l.length : Int) = some (.inr (.inl ()))) : loopP body 0 = some (cond (gB bad [] l) (.inr false) (.inl ())) := by
  have key : ∀ (r pre : List α), l = pre ++ r → loopP body (pre.length : Int) = some (cond (gB bad pre r) (.inr false) (.inl ())) := by
    intro r
    induction r with
    | nil =>
      intro pre h
      rw [List.append_nil] at h
      subst h
      rw [loopP_eq, he]
      rfl
    | cons x r ih =>
      intro pre h
      have hlen : l.length = pre.length + (r.length + 1) := by rw [h]; simp
      have hx : l[pre.length]? = some x := by rw [h]; simp
      have ht : l.take pre.length = pre := by rw [h]; simp
      rw [loopP_eq, hb _ x hx, ht]
      unfold gB
      cases bad pre x with
      | true => rfl
      | false =>
        rw [wrap_succ (by omega)]
        have := ih (pre ++ [x]) (by rw [h]; simp)
        rw [show (pre ++ [x]).length = pre.length + 1 by simp] at this
        exact this
  exact key l [] rfl
theorem gB_any {α : Type} (p : α → Bool) : ∀ (pre r : List α), gB (fun _ x => p x) pre r = r.any p
  | _, [] => rfl
  | pre, x :: r => by
    show (p x || gB _ _ r) = _
    rw [gB_any p (pre ++ [x]) r, List.any_cons]
theorem uB_gB {α : Type} (ok : α → Bool) (nm : α → List UInt8) : ∀ (pre r : List α), uB ok nm pre r = gB (fun pre x => !ok x || pre.any (fun y => nm x == nm y)) pre r
  | _, [] => rfl
  | pre, x :: r => by
    show (_ || uB ok nm (pre ++ [x]) r) = (_ || gB _ (pre ++ [x]) r)
    rw [uB_gB ok nm (pre ++ [x]) r]
theorem list_loop {α : Type} {body : Int → Option (Sum Int (Sum Unit Bool))} {l : List α} {bad : α → Bool} (hl : l.length ≤ 9223372036854775807)
    (hb : ∀ (i : Nat) x, l[i]? = some x → body (i : Int) = cond (bad x) (some (.inr (.inr false))) (some (.inl (IntKind.i64.wrap ((i : Int) + 1)))))
    (he : body (l.length : Int) = some (.inr (.inl ()))) : loopP body 0 = some (cond (l.any bad) (.inr false) (.inl ())) := by
  rw [gen_loop (bad := fun _ x => bad x) hl hb he, gB_any]
noncomputable def slotN (v : List UInt8) : Bool := (((v == [73]) || (v == [78])) || (v == [84])) || refN v
theorem class_slot_eq {s : List UInt8} (h : Len s) : class_slot s = some (slotN s) := by
  unfold class_slot slotN
  rw [kind_Ref_eq h]
  cases (((s == [73]) || (s == [78])) || (s == [84])) <;> rfl
noncomputable def slotsN (l : List (List UInt8)) : Bool := !(l.any fun s => !slotN s)
theorem class_types_s2_eq {l : List (List UInt8)} (hl : LenL l) (h : ∀ s ∈ l, Len s) : class_types_s2 l = some (slotsN l) := by
  unfold class_types_s2 slices_ContainsFunc_string_string_s2 slices_IndexFunc_string_string_s2
  rw [show ((loopP (fun z => slices_IndexFunc_string_string_s2_l1 l z) 0).bind fun o => leave o (fun b => slices_IndexFunc_string_string_s2_k2) some) = _ from index_loop (p := fun s => !slotN s) hl
    (fun i x hx => by
      unfold slices_IndexFunc_string_string_s2_l1 class_types_1_s2
      rw [here hx, idx_nat, hx]
      simp only [Option.bind_some, cond_true]
      rw [class_slot_eq (h x (List.mem_of_getElem? hx))]
      rfl) (by unfold slices_IndexFunc_string_string_s2_l1; rw [past]; rfl)]
  rw [Option.bind_some, ixF_any]
  rfl
theorem hasText {l : List (List UInt8)} (hl : LenL l) (n : List UInt8) : slices_Contains_string_string l n = some (l.any fun y => n == y) := by
  unfold slices_Contains_string_string slices_Index_string_string
  rw [show ((loopP (fun z => slices_Index_string_string_l1 l n z) 0).bind fun o => leave o (fun b => slices_Index_string_string_k2) some) = _ from index_loop (p := fun y : List UInt8 => n == y) hl
    (fun i x hx => by unfold slices_Index_string_string_l1; rw [here hx, idx_nat, hx]; rfl) (by unfold slices_Index_string_string_l1; rw [past]; rfl)]
  exact congrArg some (ixF_any _ 0 l)
noncomputable def mapB (m : ApiMethod) (pre : List ApiMap) (x : ApiMap) : Bool :=
  ((!(decide (0 ≤ x.At) && decide (x.At < (m.Code.length : Int)))) || (pre.getLast?.elim false (fun y => decide (x.At ≤ y.At)))) ||
  (((!((x.Locals.length : Int) == m.Locals)) || decide (m.Stack < (x.Stack.length : Int))) || ((!slotsN x.Locals || !slotsN x.Stack) || x.Stack.any (fun y => [84] == y)))
noncomputable def mapsN (m : ApiMethod) : Bool := !(gB (mapB m) [] m.Maps) && decide ((m.Maps.length : Int) ≤ 100)
structure MapsIn (m : ApiMethod) : Prop where
  len : LenL m.Maps
  code : LenL m.Code
  all : ∀ x ∈ m.Maps, (LenL x.Locals ∧ ∀ s ∈ x.Locals, Len s) ∧ (LenL x.Stack ∧ ∀ s ∈ x.Stack, Len s)
theorem take_last {α : Type} {l : List α} {i : Nat} (h : i < l.length) (h0 : 0 < i) : (l.take i).getLast? = l[i - 1]? := by
  rw [List.getLast?_eq_getElem?, List.getElem?_take_of_lt (by simp; omega)]
  congr 1
  simp; omega
theorem class_maps_eq {m : ApiMethod} (h : MapsIn m) : class_maps m = some (mapsN m) := by
  have j2 : ∀ (i : Nat) (x : ApiMap) (b : Bool), x ∈ m.Maps → class_maps_j2 m (i : Int) x b = cond (b || (((!((x.Locals.length : Int) == m.Locals)) || decide (m.Stack < (x.Stack.length : Int))) || ((!slotsN x.Locals || !slotsN x.Stack) || x.Stack.any (fun y => [84] == y)))) (some (.inr (.inr false))) (some (.inl (IntKind.i64.wrap ((i : Int) + 1)))) := fun i x b hx => by
    obtain ⟨⟨h1, h2⟩, h3, h4⟩ := h.all x hx
    unfold class_maps_j2
    rw [class_types_s2_eq h1 h2, class_types_s2_eq h3 h4, hasText h3]
    cases b with
    | true => rfl
    | false =>
      cases ((!((x.Locals.length : Int) == m.Locals)) || decide (m.Stack < (x.Stack.length : Int))) with
      | true => rfl
      | false =>
        cases slotsN x.Locals with
        | false => rfl
        | true => cases slotsN x.Stack <;> rfl
  have hl : loopP (fun z => class_maps_l3 m z) 0 = _ := gen_loop (bad := mapB m) h.len (fun i x hx => by
    have hm := List.mem_of_getElem? hx
    have hi := (List.getElem?_eq_some_iff.1 hx).1
    have hlen := h.len
    have hcode := h.code
    unfold LenL at hlen hcode
    show class_maps_l3 m (i : Int) = _
    unfold class_maps_l3 mapB
    rw [here hx, idx_nat, hx]
    simp only [Option.bind_some, cond_true]
    have hb : class_between x.At 0 (IntKind.i64.wrap ((m.Code.length : Int) - 1)) = (decide (0 ≤ x.At) && decide (x.At < (m.Code.length : Int))) := by
      show (decide (0 ≤ x.At) && decide (x.At ≤ IntKind.i64.wrap ((m.Code.length : Int) - 1))) = _
      rw [wrapI (by omega) (by omega)]
      congr 1
      exact decide_eq_decide.2 (by omega)
    rw [hb]
    cases (decide (0 ≤ x.At) && decide (x.At < (m.Code.length : Int))) with
    | false => exact j2 i x true hm
    | true =>
      rcases Nat.eq_zero_or_pos i with h0 | h0
      · subst h0
        exact j2 0 x false hm
      · rw [decide_eq_true (show (0 : Int) < (i : Int) by omega), take_last hi h0]
        have e : IntKind.i64.wrap ((i : Int) - 1) = ((i - 1 : Nat) : Int) := by
          rw [wrapI (by omega) (by omega)]; omega
        rw [e, idx_nat, List.getElem?_eq_getElem (show i - 1 < m.Maps.length by omega)]
        exact j2 i x _ hm) (by show class_maps_l3 m (m.Maps.length : Int) = _; unfold class_maps_l3; rw [past]; rfl)
  unfold class_maps mapsN
  rw [hl]
  cases gB (mapB m) [] m.Maps <;> rfl
end Go.Proofs.YtdhpdpkcfffpiaaGreat
namespace Go.Proofs.YtdhpdpkcfffpiaaGreat
set_option linter.unusedSimpArgs false
set_option linter.unusedVariables false
theorem slot_loc (v : List UInt8) : (cond (!(v == [84]) && !(v == [78])) (!mayN v) false) = !slotN v := by
  by_cases h1 : v = [73]
  · subst h1; decide +kernel
  by_cases h2 : v = [78]
  · subst h2; decide +kernel
  by_cases h3 : v = [84]
  · subst h3; decide +kernel
  unfold slotN refN
  rw [beq_eq_false_iff_ne.2 h1, beq_eq_false_iff_ne.2 h2, beq_eq_false_iff_ne.2 h3]
  simp
theorem slot_stk (v : List UInt8) : (cond (!(v == [78])) (!mayN v) false) = (!slotN v || ([84] == v)) := by
  by_cases h1 : v = [73]
  · subst h1; decide +kernel
  by_cases h2 : v = [78]
  · subst h2; decide +kernel
  by_cases h3 : v = [84]
  · subst h3; decide +kernel
  unfold slotN refN
  rw [beq_eq_false_iff_ne.2 h1, beq_eq_false_iff_ne.2 h2, beq_eq_false_iff_ne.2 h3, beq_eq_false_iff_ne.2 (Ne.symm h3)]
  simp
theorem any_or {α : Type} (l : List α) (p q : α → Bool) : l.any (fun x => p x || q x) = (l.any p || l.any q) := by
  induction l with
  | nil => rfl
  | cons x l ih =>
    simp only [List.any_cons, ih]
    cases p x <;> cases q x <;> simp
theorem ref3_maps_eq {m : ApiMethod} (h : MapsIn m) : ref3_maps m = some (mapsN m) := by
  have l7 : ∀ x : ApiMap, x ∈ m.Maps → loopP (fun z => ref3_maps_l7 x z) 0 = some (cond (!slotsN x.Locals) (.inr false) (.inl ())) := fun x hx => by
    obtain ⟨⟨h1, h2⟩, h3, h4⟩ := h.all x hx
    have := list_loop (body := fun z => ref3_maps_l7 x z) (bad := fun v => !slotN v) h1 (fun i v hv => by
      show ref3_maps_l7 x (i : Int) = _
      unfold ref3_maps_l7
      rw [here hv, idx_nat, hv]
      simp only [Option.bind_some, cond_true]
      rw [ref3_May_eq (h2 v (List.mem_of_getElem? hv)), ← slot_loc]
      cases (!(v == [84]) && !(v == [78])) <;> rfl) (by show ref3_maps_l7 x (x.Locals.length : Int) = _; unfold ref3_maps_l7; rw [past]; rfl)
    rw [this]
    unfold slotsN
    rw [Bool.not_not]
  have l9 : ∀ x : ApiMap, x ∈ m.Maps → loopP (fun z => ref3_maps_l9 x z) 0 = some (cond (!slotsN x.Stack || x.Stack.any (fun y => [84] == y)) (.inr false) (.inl ())) := fun x hx => by
    obtain ⟨⟨h1, h2⟩, h3, h4⟩ := h.all x hx
    have := list_loop (body := fun z => ref3_maps_l9 x z) (bad := fun v => !slotN v || ([84] == v)) h3 (fun i v hv => by
      show ref3_maps_l9 x (i : Int) = _
      unfold ref3_maps_l9
      rw [here hv, idx_nat, hv]
      simp only [Option.bind_some, cond_true]
      rw [ref3_May_eq (h4 v (List.mem_of_getElem? hv)), ← slot_stk]
      cases (!(v == [78])) <;> rfl) (by show ref3_maps_l9 x (x.Stack.length : Int) = _; unfold ref3_maps_l9; rw [past]; rfl)
    rw [this, any_or]
    unfold slotsN
    rw [Bool.not_not]
  have j6 : ∀ (i : Nat) (x : ApiMap) (b : Bool), x ∈ m.Maps → ref3_maps_j6 (i : Int) x b = cond (b || ((!slotsN x.Locals || !slotsN x.Stack) || x.Stack.any (fun y => [84] == y))) (some (.inr (.inr false))) (some (.inl (IntKind.i64.wrap ((i : Int) + 1)))) := fun i x b hx => by
    unfold ref3_maps_j6
    rw [l7 x hx]
    cases b with
    | true => rfl
    | false =>
      cases slotsN x.Locals with
      | false => rfl
      | true =>
        show ref3_maps_k8 (i : Int) x = _
        unfold ref3_maps_k8
        rw [l9 x hx]
        cases slotsN x.Stack with
        | false => rfl
        | true => cases x.Stack.any (fun y => [84] == y) <;> rfl
  have hl : loopP (fun z => ref3_maps_l11 m z) 0 = _ := gen_loop (bad := mapB m) h.len (fun i x hx => by
    have hm := List.mem_of_getElem? hx
    have hi := (List.getElem?_eq_some_iff.1 hx).1
    have hlen := h.len
    have hcode := h.code
    unfold LenL at hlen hcode
    show ref3_maps_l11 m (i : Int) = _
    unfold ref3_maps_l11 mapB
    rw [here hx, idx_nat, hx]
    simp only [Option.bind_some, cond_true]
    by_cases h1 : x.At < 0
    · rw [decide_eq_true h1, decide_eq_false (show ¬ 0 ≤ x.At by omega)]
      exact j6 i x true hm
    rw [decide_eq_false h1, decide_eq_true (show 0 ≤ x.At by omega)]
    by_cases h2 : (m.Code.length : Int) ≤ x.At
    · rw [decide_eq_true h2, decide_eq_false (show ¬ x.At < (m.Code.length : Int) by omega)]
      exact j6 i x true hm
    rw [decide_eq_false h2, decide_eq_true (show x.At < (m.Code.length : Int) by omega)]
    rcases Nat.eq_zero_or_pos i with h0 | h0
    · subst h0
      show cond (!((x.Locals.length : Int) == m.Locals)) (ref3_maps_j6 ((0 : Nat) : Int) x true) (ref3_maps_j6 ((0 : Nat) : Int) x (decide (m.Stack < (x.Stack.length : Int)))) = _
      cases (!((x.Locals.length : Int) == m.Locals)) with
      | true => exact j6 0 x true hm
      | false => exact j6 0 x _ hm
    · rw [decide_eq_true (show (0 : Int) < (i : Int) by omega), take_last hi h0]
      have e : IntKind.i64.wrap ((i : Int) - 1) = ((i - 1 : Nat) : Int) := by
        rw [wrapI (by omega) (by omega)]; omega
      rw [e, idx_nat, List.getElem?_eq_getElem (show i - 1 < m.Maps.length by omega)]
      simp only [cond_true, cond_false, Option.bind_some, Option.elim_some]
      cases decide (x.At ≤ m.Maps[i - 1].At) with
      | true => exact j6 i x true hm
      | false =>
        cases (!((x.Locals.length : Int) == m.Locals)) with
        | true => exact j6 i x true hm
        | false => exact j6 i x _ hm) (by show ref3_maps_l11 m (m.Maps.length : Int) = _; unfold ref3_maps_l11; rw [past]; rfl)
  unfold ref3_maps mapsN
  rw [hl]
  by_cases hn : (m.Maps.length : Int) ≤ 100
  · rw [decide_eq_true hn, decide_eq_false (show ¬ 100 < (m.Maps.length : Int) by omega)]
    cases gB (mapB m) [] m.Maps <;> rfl
  · rw [decide_eq_false hn, decide_eq_true (show 100 < (m.Maps.length : Int) by omega), Bool.and_false]
    rfl
structure BodyIn (m : ApiMethod) : Prop where
  code : LenL m.Code ∧ ∀ x ∈ m.Code, Len x.C ∧ Len x.M
  traps : LenL m.Traps ∧ ∀ x ∈ m.Traps, Len x.C
theorem ref3_body_eq {m : ApiMethod} (h : BodyIn m) : ref3_body m = some (instrN m.Code && trapsN m) := by
  have hcl := h.code.1
  unfold LenL at hcl
  have lc : loopP (fun z => ref3_body_l1 m z) 0 = some (cond (m.Code.any (insN (m.Code.length : Int))) (.inr false) (.inl ())) :=
    list_loop h.code.1 (fun i x hx => by
      have hm := h.code.2 x (List.mem_of_getElem? hx)
      show ref3_body_l1 m (i : Int) = _
      unfold ref3_body_l1
      rw [here hx, idx_nat, hx]
      simp only [Option.bind_some, cond_true]
      rw [ref3_MayIns_eq hm.1 hm.2]
      rfl) (by show ref3_body_l1 m (m.Code.length : Int) = _; unfold ref3_body_l1; rw [past]; rfl)
  have lt : loopP (fun z => ref3_body_l3 m z) 0 = some (cond (m.Traps.any (trapN (m.Code.length : Int))) (.inr false) (.inl ())) :=
    list_loop h.traps.1 (fun i x hx => by
      have hm := h.traps.2 x (List.mem_of_getElem? hx)
      show ref3_body_l3 m (i : Int) = _
      unfold ref3_body_l3
      rw [here hx, idx_nat, hx]
      simp only [Option.bind_some, cond_true]
      rw [ref3_Class_eq hm]
      have hb : (!(class_between x.At 0 (IntKind.i64.wrap ((m.Code.length : Int) - 1)))) = (decide (x.At < 0) || decide ((m.Code.length : Int) ≤ x.At)) := by
        show (!(decide (0 ≤ x.At) && decide (x.At ≤ IntKind.i64.wrap ((m.Code.length : Int) - 1)))) = _
        rw [wrapI (by omega) (by omega)]
        by_cases h1 : x.At < 0
        · rw [decide_eq_true h1, decide_eq_false (show ¬ 0 ≤ x.At by omega)]; rfl
        · rw [decide_eq_false h1, decide_eq_true (show 0 ≤ x.At by omega)]
          by_cases h2 : (m.Code.length : Int) ≤ x.At
          · rw [decide_eq_true h2, decide_eq_false (show ¬ x.At ≤ (m.Code.length : Int) - 1 by omega)]; rfl
          · rw [decide_eq_false h2, decide_eq_true (show x.At ≤ (m.Code.length : Int) - 1 by omega)]; rfl
      unfold trapN
      rw [hb]
      cases decide (x.From < 0) <;> cases decide (x.To ≤ x.From) <;> cases decide ((m.Code.length : Int) < x.To) <;> cases decide (x.At < 0) <;> cases decide ((m.Code.length : Int) ≤ x.At) <;> cases (x.C == []) <;> rfl) (by show ref3_body_l3 m (m.Traps.length : Int) = _; unfold ref3_body_l3; rw [past]; rfl)
  have hn : decide (6 < (m.Traps.length : Int)) = !decide ((m.Traps.length : Int) ≤ 6) := by
    by_cases h6 : (m.Traps.length : Int) ≤ 6
    · rw [decide_eq_true h6, decide_eq_false (show ¬ 6 < (m.Traps.length : Int) by omega)]; rfl
    · rw [decide_eq_false h6, decide_eq_true (show 6 < (m.Traps.length : Int) by omega)]; rfl
  have k2 : ref3_body_k2 m = some (!m.Traps.any (trapN (m.Code.length : Int))) := by
    unfold ref3_body_k2
    rw [lt]
    cases m.Traps.any (trapN (m.Code.length : Int)) <;> rfl
  unfold ref3_body trapsN instrN
  rw [lc, hn]
  by_cases h1 : (m.Code.length : Int) < 1
  · rw [decide_eq_true h1, show class_between (m.Code.length : Int) 1 100 = false from by show (decide (1 ≤ (m.Code.length : Int)) && _) = false; rw [decide_eq_false (show ¬ 1 ≤ (m.Code.length : Int) by omega)]; rfl]
    rfl
  by_cases h2 : 100 < (m.Code.length : Int)
  · rw [decide_eq_true h2, show class_between (m.Code.length : Int) 1 100 = false from by show (decide (1 ≤ (m.Code.length : Int)) && decide ((m.Code.length : Int) ≤ 100)) = false; rw [decide_eq_false (show ¬ (m.Code.length : Int) ≤ 100 by omega), Bool.and_false], Bool.or_true]
    rfl
  rw [decide_eq_false h1, decide_eq_false h2, show class_between (m.Code.length : Int) 1 100 = true from by show (decide (1 ≤ (m.Code.length : Int)) && decide ((m.Code.length : Int) ≤ 100)) = true; rw [decide_eq_true (show 1 ≤ (m.Code.length : Int) by omega), decide_eq_true (show (m.Code.length : Int) ≤ 100 by omega)]; rfl]
  have e : IntKind.i64.wrap ((m.Code.length : Int) - 1) = ((m.Code.length - 1 : Nat) : Int) := by
    rw [wrapI (by omega) (by omega)]; omega
  rw [e, idx_nat, ← List.getLast?_eq_getElem?]
  cases hg : m.Code.getLast? with
  | none =>
    rw [List.getLast?_eq_none_iff] at hg
    rw [hg] at h1
    simp at h1
  | some y =>
    simp only [Option.bind_some, Option.elim_some]
    rw [show ref3_Ends y.Op = op_Ends y.Op from rfl]
    cases op_Ends y.Op with
    | false => rfl
    | true =>
      cases decide ((m.Traps.length : Int) ≤ 6) with
      | false =>
        cases m.Code.any (insN (m.Code.length : Int)) <;> cases m.Traps.any (trapN (m.Code.length : Int)) <;> rfl
      | true =>
        cases m.Code.any (insN (m.Code.length : Int)) with
        | true => rfl
        | false =>
          show ref3_body_k2 m = _
          rw [k2]
          cases m.Traps.any (trapN (m.Code.length : Int)) <;> rfl
end Go.Proofs.YtdhpdpkcfffpiaaGreat
namespace Go.Proofs.YtdhpdpkcfffpiaaGreat
set_option linter.unusedSimpArgs false
set_option linter.unusedVariables false
structure GIn (m : ApiMethod) : Prop where
  name : Len m.Name
  params : m.Params.length ≤ 1000000000000 ∧ ∀ s ∈ m.Params, Len s
  ret : Len m.Ret
  maps : MapsIn m
  body : BodyIn m
  small : m.Code.length ≤ 1000000000000 ∧ m.Maps.length ≤ 1000000000000 ∧ m.Traps.length ≤ 1000000000000
noncomputable def methodG (m : ApiMethod) : Bool :=
  ((!((!nameN m.Name) || decide (6 < (m.Params.length : Int))) && typesN m.Params) && retN m.Ret) && cond m.Abstract (class_empty m)
    (!((m.Name == [36, 105, 110, 105, 116]) && (((!m.Static) || decide (0 < (m.Params.length : Int))) || (!(m.Ret == [86])))) && (class_between m.Locals (class_args m) 16 && (class_between m.Stack 0 16 && ((instrN m.Code && trapsN m) && mapsN m))))
theorem lenP {m : ApiMethod} (h : GIn m) : LenL m.Params := by have := h.params.1; unfold LenL; omega
theorem class_method_eqG {m : ApiMethod} (h : GIn m) : class_method m = some (methodG m) := by
  unfold class_method methodG
  rw [kind_Name_eq h.name, Option.bind_some, class_types_eq (lenP h) h.params.2, kind_Ret_eq h.ret, class_instructions_eq h.body.code.1 h.body.code.2, class_maps_eq h.maps, class_traps_eq h.body.traps.1 h.body.traps.2]
  cases ((!nameN m.Name) || decide (6 < (m.Params.length : Int))) with
  | true => rfl
  | false =>
    cases typesN m.Params with
    | false => rfl
    | true =>
      cases retN m.Ret with
      | false => rfl
      | true =>
        cases m.Abstract with
        | true => rfl
        | false =>
          cases ((m.Name == [36, 105, 110, 105, 116]) && (((!m.Static) || decide (0 < (m.Params.length : Int))) || (!(m.Ret == [86])))) with
          | true => rfl
          | false =>
            cases class_between m.Locals (class_args m) 16 with
            | false => rfl
            | true =>
              cases class_between m.Stack 0 16 with
              | false => rfl
              | true => cases instrN m.Code <;> cases mapsN m <;> cases trapsN m <;> rfl
theorem ref3_Ret_eq {s : List UInt8} (h : Len s) : ref3_Ret s = some (retN s) := by
  unfold ref3_Ret retN
  rw [ref3_May_eq h]
  cases (s == [86]) <;> rfl
theorem empty_eq {m : ApiMethod} (h : GIn m) : class_empty m = (((((((!m.Static) && (!(m.Name == [36, 105, 110, 105, 116]))) && (m.Locals == (0 : Int))) && (m.Stack == (0 : Int))) && ((m.Code.length : Int) == (0 : Int))) && ((m.Maps.length : Int) == (0 : Int))) && ((m.Traps.length : Int) == (0 : Int))) := by
  obtain ⟨h1, h2, h3⟩ := h.small
  have key : (((m.Code.length : Int) + (m.Maps.length : Int) + (m.Traps.length : Int)) == (0 : Int)) = ((((m.Code.length : Int) == 0) && ((m.Maps.length : Int) == 0)) && ((m.Traps.length : Int) == 0)) := by
    by_cases a : (m.Code.length : Int) = 0
    · by_cases b : (m.Maps.length : Int) = 0
      · rw [a, b, Int.zero_add, Int.zero_add]; rfl
      · rw [beq_eq_false_iff_ne.2 (show ((m.Code.length : Int) + m.Maps.length + m.Traps.length) ≠ 0 by omega), beq_eq_false_iff_ne.2 b, Bool.and_false, Bool.false_and]
    · rw [beq_eq_false_iff_ne.2 (show ((m.Code.length : Int) + m.Maps.length + m.Traps.length) ≠ 0 by omega), beq_eq_false_iff_ne.2 a, Bool.false_and, Bool.false_and]
  unfold class_empty
  rw [wrapI (n := (m.Code.length : Int) + (m.Maps.length : Int)) (by omega) (by omega), wrapI (by omega) (by omega), key]
  simp only [Bool.and_assoc]
theorem between_ref (x a b : Int) : (decide (x < a) || decide (b < x)) = !(class_between x a b) := by
  show _ = !(decide (a ≤ x) && decide (x ≤ b))
  by_cases h1 : x < a
  · rw [decide_eq_true h1, decide_eq_false (show ¬ a ≤ x by omega)]; rfl
  · rw [decide_eq_false h1, decide_eq_true (show a ≤ x by omega)]
    by_cases h2 : b < x
    · rw [decide_eq_true h2, decide_eq_false (show ¬ x ≤ b by omega)]; rfl
    · rw [decide_eq_false h2, decide_eq_true (show x ≤ b by omega)]; rfl
theorem ref3_MayMethod_eq {m : ApiMethod} (h : GIn m) : ref3_MayMethod m = some (methodG m) := by
  have lp : loopP (fun z => ref3_MayMethod_l1 m z) 0 = some (cond (m.Params.any fun s => !mayN s) (.inr false) (.inl ())) :=
    list_loop (lenP h) (fun i x hx => by
      show ref3_MayMethod_l1 m (i : Int) = _
      unfold ref3_MayMethod_l1
      rw [here hx, idx_nat, hx]
      simp only [Option.bind_some, cond_true]
      rw [ref3_May_eq (h.params.2 x (List.mem_of_getElem? hx))]
      rfl) (by show ref3_MayMethod_l1 m (m.Params.length : Int) = _; unfold ref3_MayMethod_l1; rw [past]; rfl)
  have j3 : ∀ a, ref3_MayMethod_j3 m a = some (class_between m.Locals a 16 && (class_between m.Stack 0 16 && ((instrN m.Code && trapsN m) && mapsN m))) := fun a => by
    unfold ref3_MayMethod_j3
    rw [between_ref, Bool.or_assoc, between_ref, ref3_body_eq h.body, ref3_maps_eq h.maps]
    cases class_between m.Locals a 16 with
    | false => rfl
    | true =>
      cases class_between m.Stack 0 16 with
      | false => rfl
      | true => cases (instrN m.Code && trapsN m) <;> rfl
  have k2 : ref3_MayMethod_k2 m = some (cond m.Abstract (class_empty m)
    (!((m.Name == [36, 105, 110, 105, 116]) && (((!m.Static) || decide (0 < (m.Params.length : Int))) || (!(m.Ret == [86])))) && (class_between m.Locals (class_args m) 16 && (class_between m.Stack 0 16 && ((instrN m.Code && trapsN m) && mapsN m))))) := by
    unfold ref3_MayMethod_k2 class_args
    rw [j3, j3, empty_eq h]
    cases m.Abstract with
    | true => rfl
    | false =>
      cases ((m.Name == [36, 105, 110, 105, 116]) && (((!m.Static) || decide (0 < (m.Params.length : Int))) || (!(m.Ret == [86])))) with
      | true => rfl
      | false => cases m.Static <;> rfl
  unfold ref3_MayMethod methodG typesN
  rw [ref3_Name_eq h.name, Option.bind_some, ref3_Ret_eq h.ret, lp]
  cases ((!nameN m.Name) || decide (6 < (m.Params.length : Int))) with
  | true => rfl
  | false =>
    cases retN m.Ret with
    | false => rw [Bool.and_false]; rfl
    | true =>
      cases m.Params.any fun s => !mayN s with
      | true => rfl
      | false => exact k2
theorem allMethodsG {l : List ApiMethod} (hl : LenL l) (h : ∀ m ∈ l, GIn m) (n : Int) (a b : List UInt8) (i : Bool) (c : List (List UInt8)) (d : List ApiField) (e : List ApiMethod) :
    class_all_api_Method l n a b i c d e = cond (uB (fun m => (m.Abstract == i) && methodG m) (·.Name) [] l) (some false) (some (decide ((l.length : Int) ≤ n))) := by
  unfold class_all_api_Method
  refine uniq_loop (ok := fun m => (m.Abstract == i) && methodG m) (nm := (·.Name)) hl (fun j x hx => ?_) ?_
  · have hm := h x (List.mem_of_getElem? hx)
    have hi := (List.getElem?_eq_some_iff.1 hx).1
    unfold class_all_api_Method_l1 class_May_4
    rw [here hx, idx_nat, hx]
    simp only [Option.bind_some, cond_true]
    rw [class_method_eqG hm, cutP_to (by omega)]
    simp only [Option.bind_some]
    rw [hasMethod (by unfold LenL at *; rw [List.length_take]; omega)]
    cases (x.Abstract == i) with
    | false => rfl
    | true => cases methodG x <;> rfl
  · unfold class_all_api_Method_l1
    rw [past]; rfl
structure CGIn (c : ApiClass) : Prop where
  name : Len c.Name
  super : Len c.Super
  impl : LenL c.Impl ∧ ∀ s ∈ c.Impl, Len s
  fields : LenL c.Fields ∧ ∀ f ∈ c.Fields, Len f.Name ∧ Len f.Type_
  methods : LenL c.Methods ∧ ∀ m ∈ c.Methods, GIn m
noncomputable def mayG (c : ApiClass) : Bool :=
  !(c.Interface && ((!(c.Super == [79, 98, 106, 101, 99, 116])) || decide (0 < (c.Fields.length : Int)))) &&
  (((((classN c.Name && classN c.Super) && (!(uB classN id [] c.Impl) && decide ((c.Impl.length : Int) ≤ 4))) && (!(uB fieldN (·.Name) [] c.Fields) && decide ((c.Fields.length : Int) ≤ 8)))) &&
    (!(uB (fun m => (m.Abstract == c.Interface) && methodG m) (·.Name) [] c.Methods) && decide ((c.Methods.length : Int) ≤ 8)))
theorem class_May_eqG {c : ApiClass} (h : CGIn c) : class_May c = some (mayG c) := by
  have e : ∀ (b d : Bool), cond b (some false) (some d) = some (!b && d) := fun b d => by cases b <;> rfl
  unfold class_May mayG
  rw [allFields h.fields.1 h.fields.2, allMethodsG h.methods.1 h.methods.2, kind_Class_eq h.name, kind_Class_eq h.super, allNames h.impl.1 h.impl.2, e, e, e]
  cases (c.Interface && ((!(c.Super == [79, 98, 106, 101, 99, 116])) || decide (0 < (c.Fields.length : Int)))) with
  | true => rfl
  | false =>
    cases classN c.Name with
    | false => rfl
    | true => cases classN c.Super <;> rfl
theorem first_ix {α : Type} (p : α → Bool) : ∀ (l : List α) (k i : Nat) (x : α), l[i]? = some x → p x = true → (ixF p k l == ((k + i : Nat) : Int)) = !((l.take i).any p)
  | [], k, i, x, h, _ => by simp at h
  | y :: r, k, 0, x, h, hp => by
    have : y = x := by simpa using h
    subst this
    show (cond (p y) (k : Int) (ixF p (k + 1) r) == (k : Int)) = true
    rw [hp]
    exact beq_self_eq_true _
  | y :: r, k, i + 1, x, h, hp => by
    have h' : r[i]? = some x := by simpa using h
    show (cond (p y) (k : Int) (ixF p (k + 1) r) == ((k + (i + 1) : Nat) : Int)) = !(p y || (r.take i).any p)
    cases p y with
    | true => exact beq_eq_false_iff_ne.2 (show (k : Int) ≠ ((k + (i + 1) : Nat) : Int) by omega)
    | false =>
      have := first_ix p r (k + 1) i x h' hp
      rw [show k + 1 + i = k + (i + 1) by omega] at this
      exact this
theorem ref3_Field_eq {c : ApiClass} (hl : LenL c.Fields) (n : List UInt8) : ref3_Field c n = some (ixF (fun y => y.Name == n) 0 c.Fields) := by
  unfold ref3_Field
  rw [show ((loopP (fun z => ref3_Field_l1 c n z) 0).bind fun o => leave o (fun b => ref3_Field_k2) some) = _ from index_loop (p := fun y : ApiField => y.Name == n) hl
    (fun i x hx => by unfold ref3_Field_l1; rw [here hx, idx_nat, hx]; rfl) (by unfold ref3_Field_l1; rw [past]; rfl)]
theorem ref3_Method_eq {c : ApiClass} (hl : LenL c.Methods) (n : List UInt8) : ref3_Method c n = some (ixF (fun y => y.Name == n) 0 c.Methods) := by
  unfold ref3_Method
  rw [show ((loopP (fun z => ref3_Method_l1 c n z) 0).bind fun o => leave o (fun b => ref3_Method_k2) some) = _ from index_loop (p := fun y : ApiMethod => y.Name == n) hl
    (fun i x hx => by unfold ref3_Method_l1; rw [here hx, idx_nat, hx]; rfl) (by unfold ref3_Method_l1; rw [past]; rfl)]
theorem beqC2 (x y : List UInt8) : (x == y) = (y == x) := by
  by_cases h : x = y
  · rw [h]
  · rw [beq_eq_false_iff_ne.2 h, beq_eq_false_iff_ne.2 (Ne.symm h)]
theorem sameAny {α : Type} (l : List α) (f : α → List UInt8) (n : List UInt8) : (l.any fun y => f y == n) = l.any fun y => n == f y := by
  congr 1
  funext y
  exact beqC2 _ _
theorem ref3_MayClass_eq {c : ApiClass} (h : CGIn c) : ref3_MayClass c = some (mayG c) := by
  have himp := h.impl.1
  unfold LenL at himp
  have lf : loopP (fun z => ref3_MayClass_l7 c z) 0 = some (cond (uB fieldN (·.Name) [] c.Fields) (.inr false) (.inl ())) := by
    rw [uB_gB]
    refine gen_loop h.fields.1 (fun i x hx => ?_) (by show ref3_MayClass_l7 c (c.Fields.length : Int) = _; unfold ref3_MayClass_l7; rw [past]; rfl)
    have hm := h.fields.2 x (List.mem_of_getElem? hx)
    have hfi := first_ix (fun y : ApiField => y.Name == x.Name) c.Fields 0 i x hx (beq_self_eq_true _)
    rw [Nat.zero_add, sameAny] at hfi
    show ref3_MayClass_l7 c (i : Int) = _
    unfold ref3_MayClass_l7 fieldN
    rw [here hx, idx_nat, hx]
    simp only [Option.bind_some, cond_true]
    rw [ref3_Name_eq hm.1, ref3_May_eq hm.2, ref3_Field_eq h.fields.1]
    simp only [Option.bind_some]
    rw [hfi]
    cases nameN x.Name with
    | false => rfl
    | true =>
      cases (x.Name == [36, 105, 110, 105, 116]) with
      | true => rfl
      | false =>
        cases mayN x.Type_ with
        | false => rfl
        | true => cases (c.Fields.take i).any fun y => x.Name == y.Name <;> rfl
  have lm : loopP (fun z => ref3_MayClass_l9 c z) 0 = some (cond (uB (fun m => (m.Abstract == c.Interface) && methodG m) (·.Name) [] c.Methods) (.inr false) (.inl ())) := by
    rw [uB_gB]
    refine gen_loop h.methods.1 (fun i x hx => ?_) (by show ref3_MayClass_l9 c (c.Methods.length : Int) = _; unfold ref3_MayClass_l9; rw [past]; rfl)
    have hm := h.methods.2 x (List.mem_of_getElem? hx)
    have hfi := first_ix (fun y : ApiMethod => y.Name == x.Name) c.Methods 0 i x hx (beq_self_eq_true _)
    rw [Nat.zero_add, sameAny] at hfi
    show ref3_MayClass_l9 c (i : Int) = _
    unfold ref3_MayClass_l9
    rw [here hx, idx_nat, hx]
    simp only [Option.bind_some, cond_true]
    rw [ref3_MayMethod_eq hm, ref3_Method_eq h.methods.1]
    simp only [Option.bind_some]
    rw [hfi]
    cases (x.Abstract == c.Interface) with
    | false => rfl
    | true =>
      cases methodG x with
      | false => cases (c.Methods.take i).any fun y => x.Name == y.Name <;> rfl
      | true => cases (c.Methods.take i).any fun y => x.Name == y.Name <;> rfl
  have li : loopP (fun z => ref3_MayClass_l5 c z) 0 = some (cond (uB classN id [] c.Impl) (.inr false) (.inl ())) := by
    rw [uB_gB]
    refine gen_loop h.impl.1 (fun i x hx => ?_) (by show ref3_MayClass_l5 c (c.Impl.length : Int) = _; unfold ref3_MayClass_l5; rw [past]; rfl)
    have hm := h.impl.2 x (List.mem_of_getElem? hx)
    have hi := (List.getElem?_eq_some_iff.1 hx).1
    have hin : loopP (fun z => ref3_MayClass_l3 c (i : Int) z) 0 = some (cond ((c.Impl.take i).any fun y => y == x) (.inr false) (.inl ())) := by
      have ht : (c.Impl.take i).length = i := by rw [List.length_take]; omega
      refine list_loop (by omega) (fun j y hy => ?_) ?_
      · have hj := (List.getElem?_eq_some_iff.1 hy).1
        rw [ht] at hj
        rw [List.getElem?_take_of_lt hj] at hy
        show ref3_MayClass_l3 c (i : Int) (j : Int) = _
        unfold ref3_MayClass_l3
        rw [decide_eq_true (show (j : Int) < (i : Int) by omega), idx_nat, hy, idx_nat, hx]
        rfl
      · rw [ht]
        show ref3_MayClass_l3 c (i : Int) (i : Int) = _
        unfold ref3_MayClass_l3
        rw [decide_eq_false (show ¬ (i : Int) < (i : Int) by omega)]; rfl
    show ref3_MayClass_l5 c (i : Int) = _
    unfold ref3_MayClass_l5
    rw [here hx, idx_nat, hx]
    simp only [Option.bind_some, cond_true]
    rw [ref3_Class_eq hm, hin, show ((c.Impl.take i).any fun y => y == x) = (c.Impl.take i).any fun y => id x == id y from sameAny _ id x]
    cases classN x with
    | false => rfl
    | true => cases (c.Impl.take i).any fun y => id x == id y <;> rfl
  have hle : ∀ (n : Nat) (b : Int), decide (b < (n : Int)) = !decide ((n : Int) ≤ b) := fun n b => by
    by_cases hb : (n : Int) ≤ b
    · rw [decide_eq_true hb, decide_eq_false (show ¬ b < (n : Int) by omega)]; rfl
    · rw [decide_eq_false hb, decide_eq_true (show b < (n : Int) by omega)]; rfl
  unfold ref3_MayClass ref3_MayClass_k6 ref3_MayClass_k8 mayG
  rw [ref3_Class_eq h.name, ref3_Class_eq h.super, li, lf, lm, hle c.Impl.length 4, hle c.Fields.length 8, hle c.Methods.length 8]
  generalize (c.Interface && ((!(c.Super == [79, 98, 106, 101, 99, 116])) || decide (0 < (c.Fields.length : Int)))) = B
  generalize uB classN id [] c.Impl = u1
  generalize uB fieldN (·.Name) [] c.Fields = u2
  generalize uB (fun m => (m.Abstract == c.Interface) && methodG m) (·.Name) [] c.Methods = u3
  generalize decide ((c.Impl.length : Int) ≤ 4) = d1
  generalize decide ((c.Fields.length : Int) ≤ 8) = d2
  generalize decide ((c.Methods.length : Int) ≤ 8) = d3
  cases classN c.Name with
  | false => cases B <;> rfl
  | true =>
    cases classN c.Super with
    | false => cases B <;> rfl
    | true => cases B <;> cases u1 <;> cases u2 <;> cases u3 <;> cases d1 <;> cases d2 <;> cases d3 <;> rfl
end Go.Proofs.YtdhpdpkcfffpiaaGreat
