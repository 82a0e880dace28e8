/- FileLong: for every input the law returns true, and each argument reads as it read before. No further condition. Part 5 of 7. -/
import Derived.Test.YtdhpdpkcfffpiaaGreatV4
namespace Go.Proofs.YtdhpdpkcfffpiaaGreat
noncomputable section
set_option linter.unusedSimpArgs false
set_option linter.unusedVariables false
set_option maxRecDepth 100000
set_option maxHeartbeats 4000000
def ref3_EqTexts_k2 : Option (Bool) :=
  some true
def ref3_EqTexts_l1 (v1 : List (List UInt8)) (v2 : List (List UInt8)) (v6 : Int) : Option (Sum (Int) (Sum (Unit) (Bool))) :=
  cond (decide (v6 < (List.length v1 : Int))) ((idx v1 v6).bind fun v7=>(idx v2 v6).bind fun v8=>cond (!(v7 == v8)) (some (.inr (.inr false))) (some (.inl (IntKind.i64.wrap (v6 + 1))))) (some (.inr (.inl ())))
def ref3_EqTexts (v1 : List (List UInt8)) (v2 : List (List UInt8)) : Option (Bool) :=
  cond (!((List.length v1 : Int) == (List.length v2 : Int))) (some false) ((loopP (fun z=>ref3_EqTexts_l1 v1 v2 z) 0).bind fun o=>leave o (fun b=>ref3_EqTexts_k2) some)
theorem ref3_EqTexts_ok (v1 : List (List UInt8)) (v2 : List (List UInt8)) {r : Bool} (h : ref3_EqTexts v1 v2 = some r) : PureC Tryz.prog 73 [.isl 1 (List.map rStr v1),.isl 1 (List.map rStr v2)] (bA r):=by
 refine pure_fn Tryz.func73 j0 (by kernel_rfl) j0 j0 ?_
 unfold ref3_EqTexts at h
 refine rg j0<|u<|asg j0<|r_nil ?_
 refine sw_seq ?_
 refine rg j0<|u<|mv j0<|u<|lnI ti24 j0 j0<|u<|mv j0<|u<|lnI ti24 j0 j0<|u<|neq ti3 j0 j0<|r_nil ?_
 refine sw_cond j0 (fun hc1=>?_) (fun hc1=>?_)
 ·
  replace h:=bT hc1 h
  refine rg j0<|u<|asg j0<|r_nil ?_
  refine sw_ret ?_
  obtain rfl:=sm h
  exact ⟨_,j0,[],ci j0,j0,j5,j0,j1⟩
 ·
  replace h:=bF hc1 h
  refine sw_skip ?_
  refine sw_seq ?_
  refine rg j0<|u<|asg j0<|r_nil ?_
  obtain ⟨o,ho,h⟩:=bs h
  refine sw_lpl (X:=Int) (B:=Unit) (R:=Bool) (fun z=>[(0,.isl 1 (List.map rStr v1)),(1,.isl 1 (List.map rStr v2)),(5,iA z)]) (fun z=>[]) (fun b=>[]) (fun b=>[]) (fun r env st=>PostF Tryz.prog Tryz.f73 0 (bA r) [] env st) ho ⟨[],ce j0 j0<|ce j0 j0<|ce j0 j0<|cn,j0,j5,j0,j1⟩ ?_ ?_ ?_
  ·
   rintro v6 r h
   replace h : ref3_EqTexts_l1 v1 v2 v6 = some r:=h
   unfold ref3_EqTexts_l1 at h
   refine sw_seq ?_
   refine rg j0<|u<|mv j0<|u<|mv j0<|u<|lnI ti24 j0 j0<|u<|lss ti3 j0 j0<|r_nil ?_
   refine sw_cond j0 (fun hc6=>?_) (fun hc6=>?_)
   ·
    replace h:=bT hc6 h
    refine sw_skip ?_
    refine sw_seq ?_
    refine sw_block ?_
    obtain ⟨v7,q7,h⟩:=bs h
    obtain ⟨v8,q8,h⟩:=bs h
    refine rd [(0,.isl 1 (List.map rStr v1)),(1,.isl 1 (List.map rStr v2)),(5,iA v6),(25,bA (!(v7 == v8)))] [] [] [8,7,6,5,4,3,2,1,0] [(25,bA (!(v7 == v8))),(24,sA v8),(23,.ipt 1 (List.map rStr v2) (Int.toNat v6) 0),(22,iA v6),(21,.isl 1 (List.map rStr v2)),(20,sA v7),(19,.ipt 1 (List.map rStr v1) (Int.toNat v6) 0),(18,iA v6),(17,.isl 1 (List.map rStr v1))] 0 (by kernel_rfl) (by kernel_rfl) j0 (by kernel_rfl) (dt0 ⟨(fun _=>pa j0 j0 j0 j0 (sne ti9 j0 j0<|j4)),(fun _=>pa j0 j0 j0 j0 (ldI ti9 j0 (idx_some q8).2.2 j0<|j4)),(fun _=>pa j0 j0 j0 j0 (ixI ti24 j0 ti9 j0 j0 j0 q8<|j4)),(fun _=>pa j0 j0 j0 j0 (mv j0<|j4)),(fun _=>pa j0 j0 j0 j0 (mv j0<|j4)),(fun _=>pa j0 j0 j0 j0 (ldI ti9 j0 (idx_some q7).2.2 j0<|j4)),(fun _=>pa j0 j0 j0 j0 (ixI ti24 j0 ti9 j0 j0 j0 q7<|j4)),(fun _=>pa j0 j0 j0 j0 (mv j0<|j4)),(fun _=>pa j0 j0 j0 j0 (mv j0<|j4)),j5⟩ (by kernel_rfl) j0 ⟨[],ce j0 j0<|ce j0 j0<|ce j0 j0<|ce j0 j0<|cn,j0,j5,j0,j1⟩) ?_
    refine sw_cond j0 (fun hc9=>?_) (fun hc9=>?_)
    ·
     replace h:=bT hc9 h
     refine rg j0<|u<|asg j0<|r_nil ?_
     refine sw_ret ?_
     obtain rfl:=sm h
     exact ⟨_,j0,_,j0,[],ci j0,j0,j5,j0,j1⟩
    ·
     replace h:=bF hc9 h
     refine sw_skip ?_
     refine rl j0<|u<|mv j0<|u<|add ti3 j0 j0<|u<|asg j0<|r_nil ?_
     obtain rfl:=sm h
     exact ⟨_,j0,[],ce j0 j0<|ce j0 j0<|ce j0 j0<|cn,j0,j5,j0,j1⟩
   ·
    replace h:=bF hc6 h
    refine sw_exit ?_
    obtain rfl:=sm h
    exact ⟨j0,_,j0,[],cn,j0,j5,j0,j1⟩
  ·
   rintro ⟨⟩ rfl
   replace h : ref3_EqTexts_k2 = some r:=h
   unfold ref3_EqTexts_k2 at h
   refine ow_intro ?_
   refine rg j0<|u<|asg j0<|r_nil ?_
   refine sw_ret ?_
   obtain rfl:=sm h
   exact ⟨_,j0,[],ci j0,j0,j5,j0,j1⟩
  ·
   rintro r' rfl env st hp
   obtain rfl:=sm h
   exact hp
def ref3_eqMethod_k6 : Option (Bool) :=
  some true
def ref3_eqMethod_l5 (v1 : ApiMethod) (v2 : ApiMethod) (v28 : Int) : Option (Sum (Int) (Sum (Unit) (Bool))) :=
  cond (decide (v28 < (List.length v1.Traps : Int))) ((idx v1.Traps v28).bind fun v29=>(idx v2.Traps v28).bind fun v30=>cond ((((!(v29.From == v30.From)) || (!(v29.To == v30.To))) || (!(v29.At == v30.At))) || (!(v29.C == v30.C))) (some (.inr (.inr false))) (some (.inl (IntKind.i64.wrap (v28 + 1))))) (some (.inr (.inl ())))
def ref3_eqMethod_k4 (v1 : ApiMethod) (v2 : ApiMethod) : Option (Bool) :=
  (loopP (fun z=>ref3_eqMethod_l5 v1 v2 z) 0).bind fun o=>leave o (fun b=>ref3_eqMethod_k6) some
def ref3_eqMethod_l3 (v1 : ApiMethod) (v2 : ApiMethod) (v18 : Int) : Option (Sum (Int) (Sum (Unit) (Bool))) :=
  cond (decide (v18 < (List.length v1.Maps : Int))) ((idx v1.Maps v18).bind fun v19=>(idx v2.Maps v18).bind fun v20=>(cond (!(v19.At == v20.At)) (some true) ((ref3_EqTexts v19.Locals v20.Locals).bind fun v21=>some (!v21))).bind fun v22=>(cond v22 (some true) ((ref3_EqTexts v19.Stack v20.Stack).bind fun v23=>some (!v23))).bind fun v24=>cond v24 (some (.inr (.inr false))) (some (.inl (IntKind.i64.wrap (v18 + 1))))) (some (.inr (.inl ())))
def ref3_eqMethod_k2 (v1 : ApiMethod) (v2 : ApiMethod) : Option (Bool) :=
  (loopP (fun z=>ref3_eqMethod_l3 v1 v2 z) 0).bind fun o=>leave o (fun b=>ref3_eqMethod_k4 v1 v2) some
def ref3_eqMethod_l1 (v1 : ApiMethod) (v2 : ApiMethod) (v8 : Int) : Option (Sum (Int) (Sum (Unit) (Bool))) :=
  cond (decide (v8 < (List.length v1.Code : Int))) ((idx v1.Code v8).bind fun v9=>(idx v2.Code v8).bind fun v10=>cond (!(ref3_EqIns v9 v10)) (some (.inr (.inr false))) (some (.inl (IntKind.i64.wrap (v8 + 1))))) (some (.inr (.inl ())))
def ref3_eqMethod (v1 : ApiMethod) (v2 : ApiMethod) : Option (Bool) :=
  (cond (!(v1.Name == v2.Name)) (some true) ((ref3_EqTexts v1.Params v2.Params).bind fun v3=>some (!v3))).bind fun v4=>cond ((((((((v4 || (!(v1.Ret == v2.Ret))) || (!(v1.Static == v2.Static))) || (!(v1.Abstract == v2.Abstract))) || (!(v1.Locals == v2.Locals))) || (!(v1.Stack == v2.Stack))) || (!((List.length v1.Code : Int) == (List.length v2.Code : Int)))) || (!((List.length v1.Maps : Int) == (List.length v2.Maps : Int)))) || (!((List.length v1.Traps : Int) == (List.length v2.Traps : Int)))) (some false) ((loopP (fun z=>ref3_eqMethod_l1 v1 v2 z) 0).bind fun o=>leave o (fun b=>ref3_eqMethod_k2 v1 v2) some)
theorem ref3_eqMethod_ok (v1 : ApiMethod) (v2 : ApiMethod) {r : Bool} (h : ref3_eqMethod v1 v2 = some r) : PureC Tryz.prog 74 [.agg [sA v1.Name,.isl 1 (List.map rStr v1.Params),sA v1.Ret,bA v1.Static,bA v1.Abstract,iA v1.Locals,iA v1.Stack,.isl 4 (List.map rApiIns v1.Code),.isl 3 (List.map rApiMap v1.Maps),.isl 4 (List.map rApiTrap v1.Traps)],.agg [sA v2.Name,.isl 1 (List.map rStr v2.Params),sA v2.Ret,bA v2.Static,bA v2.Abstract,iA v2.Locals,iA v2.Stack,.isl 4 (List.map rApiIns v2.Code),.isl 3 (List.map rApiMap v2.Maps),.isl 4 (List.map rApiTrap v2.Traps)]] (bA r):=by
 refine pure_fn Tryz.func74 j0 (by kernel_rfl) j0 j0 ?_
 unfold ref3_eqMethod at h
 refine rg j0<|u<|bx 0 10 j0 j0 j0 j0<|u<|bx 1 10 j0 j0 j0 j0<|u<|asg j0<|r_nil ?_
 refine sw_seq ?_
 obtain ⟨v4,q3,h⟩:=bs h
 refine rg j0<|u<|fa ti35 j0 j0 j0<|u<|ld ti9 j0 j0<|u<|fa ti35 j0 j0 j0<|u<|ld ti9 j0 j0<|u<|sne ti9 j0 j0<|u<|mv j0<|r_or (x:=v4) (j:=5) 6 j0 j0 j0 j0 j0 gpn (fun hb1=>by replace q3:=bF hb1 q3; obtain ⟨v3,q2,q3⟩:=bs q3; obtain rfl:=sm q3; exact g j0 hb1<|fa ti35 j0 j0 j0<|g j0 hb1<|ld ti24 j0 j0<|g j0 hb1<|fa ti35 j0 j0 j0<|g j0 hb1<|ld ti24 j0 j0<|g j0 hb1<|pc (ref3_EqTexts_ok v1.Params v2.Params q2) j0 j0 j0<|g j0 hb1<|nt j0<|r_nil (eg [18,19,20,21,22,23] 6 j0 j0 j0 j0)) (fun hb=>(sm (bT hb q3)).symm)<|u<|mv j0<|r_or (j:=13) 5 j0 j0 j0 j0 j0 gpn (fun hb4=>g j0 hb4<|fa ti35 j0 j0 j0<|g j0 hb4<|ld ti9 j0 j0<|g j0 hb4<|fa ti35 j0 j0 j0<|g j0 hb4<|ld ti9 j0 j0<|g j0 hb4<|sne ti9 j0 j0<|r_nil (egO [26,27,28,29,30] 5 hb4 j0 j0 j0 j0)) orT<|u<|mv j0<|r_or (j:=20) 5 j0 j0 j0 j0 j0 gpn (fun hb5=>g j0 hb5<|fa ti35 j0 j0 j0<|g j0 hb5<|ld ti4 j0 j0<|g j0 hb5<|fa ti35 j0 j0 j0<|g j0 hb5<|ld ti4 j0 j0<|g j0 hb5<|bne ti4 j0 j0 j0<|r_nil (egO [33,34,35,36,37] 5 hb5 j0 j0 j0 j0)) orT<|u<|mv j0<|r_or (j:=27) 5 j0 j0 j0 j0 j0 gpn (fun hb6=>g j0 hb6<|fa ti35 j0 j0 j0<|g j0 hb6<|ld ti4 j0 j0<|g j0 hb6<|fa ti35 j0 j0 j0<|g j0 hb6<|ld ti4 j0 j0<|g j0 hb6<|bne ti4 j0 j0 j0<|r_nil (egO [40,41,42,43,44] 5 hb6 j0 j0 j0 j0)) orT<|u<|mv j0<|r_or (j:=34) 5 j0 j0 j0 j0 j0 gpn (fun hb7=>g j0 hb7<|fa ti35 j0 j0 j0<|g j0 hb7<|ld ti3 j0 j0<|g j0 hb7<|fa ti35 j0 j0 j0<|g j0 hb7<|ld ti3 j0 j0<|g j0 hb7<|neq ti3 j0 j0<|r_nil (egO [47,48,49,50,51] 5 hb7 j0 j0 j0 j0)) orT<|u<|mv j0<|r_or (j:=41) 5 j0 j0 j0 j0 j0 gpn (fun hb8=>g j0 hb8<|fa ti35 j0 j0 j0<|g j0 hb8<|ld ti3 j0 j0<|g j0 hb8<|fa ti35 j0 j0 j0<|g j0 hb8<|ld ti3 j0 j0<|g j0 hb8<|neq ti3 j0 j0<|r_nil (egO [54,55,56,57,58] 5 hb8 j0 j0 j0 j0)) orT<|u<|mv j0<|r_or (j:=48) 7 j0 j0 j0 j0 j0 gpn (fun hb9=>g j0 hb9<|fa ti35 j0 j0 j0<|g j0 hb9<|ld ti31 j0 j0<|g j0 hb9<|lnI ti31 j0 j0<|g j0 hb9<|fa ti35 j0 j0 j0<|g j0 hb9<|ld ti31 j0 j0<|g j0 hb9<|lnI ti31 j0 j0<|g j0 hb9<|neq ti3 j0 j0<|r_nil (egO [61,62,63,64,65,66,67] 7 hb9 j0 j0 j0 j0)) orT<|u<|mv j0<|r_or (j:=57) 7 j0 j0 j0 j0 j0 gpn (fun hb10=>g j0 hb10<|fa ti35 j0 j0 j0<|g j0 hb10<|ld ti32 j0 j0<|g j0 hb10<|lnI ti32 j0 j0<|g j0 hb10<|fa ti35 j0 j0 j0<|g j0 hb10<|ld ti32 j0 j0<|g j0 hb10<|lnI ti32 j0 j0<|g j0 hb10<|neq ti3 j0 j0<|r_nil (egO [70,71,72,73,74,75,76] 7 hb10 j0 j0 j0 j0)) orT<|u<|mv j0<|r_or (j:=66) 7 j0 j0 j0 j0 j0 gpn (fun hb11=>g j0 hb11<|fa ti35 j0 j0 j0<|g j0 hb11<|ld ti33 j0 j0<|g j0 hb11<|lnI ti33 j0 j0<|g j0 hb11<|fa ti35 j0 j0 j0<|g j0 hb11<|ld ti33 j0 j0<|g j0 hb11<|lnI ti33 j0 j0<|g j0 hb11<|neq ti3 j0 j0<|r_nil (egO [79,80,81,82,83,84,85] 7 hb11 j0 j0 j0 j0)) orT<|r_nil ?_
 refine sw_cond j0 (fun hc12=>?_) (fun hc12=>?_)
 ·
  replace h:=bT hc12 h
  refine rg j0<|u<|asg j0<|r_nil ?_
  refine sw_ret ?_
  obtain rfl:=sm h
  exact ⟨_,j0,[],ci j0,j0,j5,j0,j1⟩
 ·
  replace h:=bF hc12 h
  refine sw_skip ?_
  refine sw_seq ?_
  refine rg j0<|u<|asg j0<|r_nil ?_
  obtain ⟨o,ho,h⟩:=bs h
  refine sw_lpl (X:=Int) (B:=Unit) (R:=Bool) (fun z=>[(2,.mpt 0 0 0),(3,.mpt 1 0 0),(5,iA z)]) (fun z=>[some (10,[[sA v1.Name,.isl 1 (List.map rStr v1.Params),sA v1.Ret,bA v1.Static,bA v1.Abstract,iA v1.Locals,iA v1.Stack,.isl 4 (List.map rApiIns v1.Code),.isl 3 (List.map rApiMap v1.Maps),.isl 4 (List.map rApiTrap v1.Traps)]]),some (10,[[sA v2.Name,.isl 1 (List.map rStr v2.Params),sA v2.Ret,bA v2.Static,bA v2.Abstract,iA v2.Locals,iA v2.Stack,.isl 4 (List.map rApiIns v2.Code),.isl 3 (List.map rApiMap v2.Maps),.isl 4 (List.map rApiTrap v2.Traps)]])]) (fun b=>[(2,.mpt 0 0 0),(3,.mpt 1 0 0)]) (fun b=>[some (10,[[sA v1.Name,.isl 1 (List.map rStr v1.Params),sA v1.Ret,bA v1.Static,bA v1.Abstract,iA v1.Locals,iA v1.Stack,.isl 4 (List.map rApiIns v1.Code),.isl 3 (List.map rApiMap v1.Maps),.isl 4 (List.map rApiTrap v1.Traps)]]),some (10,[[sA v2.Name,.isl 1 (List.map rStr v2.Params),sA v2.Ret,bA v2.Static,bA v2.Abstract,iA v2.Locals,iA v2.Stack,.isl 4 (List.map rApiIns v2.Code),.isl 3 (List.map rApiMap v2.Maps),.isl 4 (List.map rApiTrap v2.Traps)]])]) (fun r env st=>PostF Tryz.prog Tryz.f74 0 (bA r) [] env st) ho ⟨[.old 0,.old 1],cv j0 (.mpt j0)<|cv j0 (.mpt j0)<|ce j0 j0<|cn,j0,⟨⟨_,j0,rsOne ⟨ci j0,ci j0,ci j0,ci j0,ci j0,ci j0,ci j0,ci j0,ci j0,ci j0,j5⟩⟩,⟨_,j0,rsOne ⟨ci j0,ci j0,ci j0,ci j0,ci j0,ci j0,ci j0,ci j0,ci j0,ci j0,j5⟩⟩,j5⟩,j0,j1⟩ ?_ ?_ ?_
  ·
   rintro v8 r h
   replace h : ref3_eqMethod_l1 v1 v2 v8 = some r:=h
   unfold ref3_eqMethod_l1 at h
   refine sw_seq ?_
   refine rg j0<|u<|mv j0<|u<|fa ti35 j0 j0 j0<|u<|ld ti31 j0 j0<|u<|lnI ti31 j0 j0<|u<|lss ti3 j0 j0<|r_nil ?_
   refine sw_cond j0 (fun hc17=>?_) (fun hc17=>?_)
   ·
    replace h:=bT hc17 h
    refine sw_skip ?_
    refine sw_seq ?_
    refine sw_block ?_
    obtain ⟨v9,q18,h⟩:=bs h
    obtain ⟨v10,q19,h⟩:=bs h
    refine rd [(2,.mpt 0 0 0),(3,.mpt 1 0 0),(5,iA v8),(105,bA (!(ref3_EqIns v9 v10)))] [some (10,[[sA v1.Name,.isl 1 (List.map rStr v1.Params),sA v1.Ret,bA v1.Static,bA v1.Abstract,iA v1.Locals,iA v1.Stack,.isl 4 (List.map rApiIns v1.Code),.isl 3 (List.map rApiMap v1.Maps),.isl 4 (List.map rApiTrap v1.Traps)]]),some (10,[[sA v2.Name,.isl 1 (List.map rStr v2.Params),sA v2.Ret,bA v2.Static,bA v2.Abstract,iA v2.Locals,iA v2.Stack,.isl 4 (List.map rApiIns v2.Code),.isl 3 (List.map rApiMap v2.Maps),.isl 4 (List.map rApiTrap v2.Traps)]])] [] [11,10,9,8,7,6,5,4,3,2,1,0] [(105,bA (!(ref3_EqIns v9 v10))),(104,bA (ref3_EqIns v9 v10)),(103,.agg [iA v10.Op,iA v10.A,sA v10.C,sA v10.M]),(102,.ipt 4 (List.map rApiIns v2.Code) (Int.toNat v8) 0),(101,iA v8),(100,.isl 4 (List.map rApiIns v2.Code)),(99,.mpt 1 0 7),(98,.agg [iA v9.Op,iA v9.A,sA v9.C,sA v9.M]),(97,.ipt 4 (List.map rApiIns v1.Code) (Int.toNat v8) 0),(96,iA v8),(95,.isl 4 (List.map rApiIns v1.Code)),(94,.mpt 0 0 7)] 0 (by kernel_rfl) (by kernel_rfl) j0 (by kernel_rfl) (dt0 ⟨(fun _=>pa j0 j0 j0 j0 (nt j0<|j4)),(fun _=>pa j0 j0 j0 j0 (pc (ref3_EqIns_ok v9 v10 j0) j0 j0 j0<|j4)),(fun _=>pa j0 j0 j0 j0 (ldI ti37 j0 (idx_some q19).2.2 j0<|j4)),(fun _=>pa j0 j0 j0 j0 (ixI ti31 j0 ti37 j0 j0 j0 q19<|j4)),(fun _=>pa j0 j0 j0 j0 (mv j0<|j4)),(fun _=>pa j0 j0 j0 j0 (ld ti31 j0 j0<|j4)),(fun _=>pa j0 j0 j0 j0 (fa ti35 j0 j0 j0<|j4)),(fun _=>pa j0 j0 j0 j0 (ldI ti37 j0 (idx_some q18).2.2 j0<|j4)),(fun _=>pa j0 j0 j0 j0 (ixI ti31 j0 ti37 j0 j0 j0 q18<|j4)),(fun _=>pa j0 j0 j0 j0 (mv j0<|j4)),(fun _=>pa j0 j0 j0 j0 (ld ti31 j0 j0<|j4)),(fun _=>pa j0 j0 j0 j0 (fa ti35 j0 j0 j0<|j4)),j5⟩ (by kernel_rfl) j0 ⟨[.old 0,.old 1],cv j0 (.mpt j0)<|cv j0 (.mpt j0)<|ce j0 j0<|ce j0 j0<|cn,j0,⟨⟨_,j0,rsOne ⟨ci j0,ci j0,ci j0,ci j0,ci j0,ci j0,ci j0,ci j0,ci j0,ci j0,j5⟩⟩,⟨_,j0,rsOne ⟨ci j0,ci j0,ci j0,ci j0,ci j0,ci j0,ci j0,ci j0,ci j0,ci j0,j5⟩⟩,j5⟩,j0,j1⟩) ?_
    refine sw_cond j0 (fun hc20=>?_) (fun hc20=>?_)
    ·
     replace h:=bT hc20 h
     refine rg j0<|u<|asg j0<|r_nil ?_
     refine sw_ret ?_
     obtain rfl:=sm h
     exact ⟨_,j0,_,j0,[],ci j0,j0,j5,j0,j1⟩
    ·
     replace h:=bF hc20 h
     refine sw_skip ?_
     refine rl j0<|u<|mv j0<|u<|add ti3 j0 j0<|u<|asg j0<|r_nil ?_
     obtain rfl:=sm h
     exact ⟨_,j0,[.old 0,.old 1],cv j0 (.mpt j0)<|cv j0 (.mpt j0)<|ce j0 j0<|cn,j0,⟨⟨_,j0,rsOne ⟨ci j0,ci j0,ci j0,ci j0,ci j0,ci j0,ci j0,ci j0,ci j0,ci j0,j5⟩⟩,⟨_,j0,rsOne ⟨ci j0,ci j0,ci j0,ci j0,ci j0,ci j0,ci j0,ci j0,ci j0,ci j0,j5⟩⟩,j5⟩,j0,j1⟩
   ·
    replace h:=bF hc17 h
    refine sw_exit ?_
    obtain rfl:=sm h
    exact ⟨j0,_,j0,[.old 0,.old 1],cv j0 (.mpt j0)<|cv j0 (.mpt j0)<|cn,j0,⟨⟨_,j0,rsOne ⟨ci j0,ci j0,ci j0,ci j0,ci j0,ci j0,ci j0,ci j0,ci j0,ci j0,j5⟩⟩,⟨_,j0,rsOne ⟨ci j0,ci j0,ci j0,ci j0,ci j0,ci j0,ci j0,ci j0,ci j0,ci j0,j5⟩⟩,j5⟩,j0,j1⟩
  ·
   rintro ⟨⟩ rfl
   replace h : ref3_eqMethod_k2 v1 v2 = some r:=h
   unfold ref3_eqMethod_k2 at h
   refine ow_intro ?_
   refine sw_seq ?_
   refine rg j0<|u<|asg j0<|r_nil ?_
   obtain ⟨o,ho,h⟩:=bs h
   refine sw_lpl (X:=Int) (B:=Unit) (R:=Bool) (fun z=>[(2,.mpt 0 0 0),(3,.mpt 1 0 0),(6,iA z)]) (fun z=>[some (10,[[sA v1.Name,.isl 1 (List.map rStr v1.Params),sA v1.Ret,bA v1.Static,bA v1.Abstract,iA v1.Locals,iA v1.Stack,.isl 4 (List.map rApiIns v1.Code),.isl 3 (List.map rApiMap v1.Maps),.isl 4 (List.map rApiTrap v1.Traps)]]),some (10,[[sA v2.Name,.isl 1 (List.map rStr v2.Params),sA v2.Ret,bA v2.Static,bA v2.Abstract,iA v2.Locals,iA v2.Stack,.isl 4 (List.map rApiIns v2.Code),.isl 3 (List.map rApiMap v2.Maps),.isl 4 (List.map rApiTrap v2.Traps)]])]) (fun b=>[(2,.mpt 0 0 0),(3,.mpt 1 0 0)]) (fun b=>[some (10,[[sA v1.Name,.isl 1 (List.map rStr v1.Params),sA v1.Ret,bA v1.Static,bA v1.Abstract,iA v1.Locals,iA v1.Stack,.isl 4 (List.map rApiIns v1.Code),.isl 3 (List.map rApiMap v1.Maps),.isl 4 (List.map rApiTrap v1.Traps)]]),some (10,[[sA v2.Name,.isl 1 (List.map rStr v2.Params),sA v2.Ret,bA v2.Static,bA v2.Abstract,iA v2.Locals,iA v2.Stack,.isl 4 (List.map rApiIns v2.Code),.isl 3 (List.map rApiMap v2.Maps),.isl 4 (List.map rApiTrap v2.Traps)]])]) (fun r env st=>PostF Tryz.prog Tryz.f74 0 (bA r) [] env st) ho ⟨[.old 0,.old 1],cv j0 (.mpt j0)<|cv j0 (.mpt j0)<|ce j0 j0<|cn,j0,⟨⟨_,j0,rsOne ⟨ci j0,ci j0,ci j0,ci j0,ci j0,ci j0,ci j0,ci j0,ci j0,ci j0,j5⟩⟩,⟨_,j0,rsOne ⟨ci j0,ci j0,ci j0,ci j0,ci j0,ci j0,ci j0,ci j0,ci j0,ci j0,j5⟩⟩,j5⟩,j0,j1⟩ ?_ ?_ ?_
   ·
    rintro v18 r h
    replace h : ref3_eqMethod_l3 v1 v2 v18 = some r:=h
    unfold ref3_eqMethod_l3 at h
    refine sw_seq ?_
    refine rg j0<|u<|mv j0<|u<|fa ti35 j0 j0 j0<|u<|ld ti32 j0 j0<|u<|lnI ti32 j0 j0<|u<|lss ti3 j0 j0<|r_nil ?_
    refine sw_cond j0 (fun hc31=>?_) (fun hc31=>?_)
    ·
     replace h:=bT hc31 h
     refine sw_skip ?_
     refine sw_seq ?_
     refine sw_block ?_
     obtain ⟨v19,q32,h⟩:=bs h
     obtain ⟨v20,q33,h⟩:=bs h
     refine rd [(2,.mpt 0 0 0),(3,.mpt 1 0 0),(6,iA v18),(7,.mpt 2 0 0),(8,.mpt 3 0 0)] [some (10,[[sA v1.Name,.isl 1 (List.map rStr v1.Params),sA v1.Ret,bA v1.Static,bA v1.Abstract,iA v1.Locals,iA v1.Stack,.isl 4 (List.map rApiIns v1.Code),.isl 3 (List.map rApiMap v1.Maps),.isl 4 (List.map rApiTrap v1.Traps)]]),some (10,[[sA v2.Name,.isl 1 (List.map rStr v2.Params),sA v2.Ret,bA v2.Static,bA v2.Abstract,iA v2.Locals,iA v2.Stack,.isl 4 (List.map rApiIns v2.Code),.isl 3 (List.map rApiMap v2.Maps),.isl 4 (List.map rApiTrap v2.Traps)]]),some (3,[[iA v19.At,.isl 1 (List.map rStr v19.Locals),.isl 1 (List.map rStr v19.Stack)]]),some (3,[[iA v20.At,.isl 1 (List.map rStr v20.Locals),.isl 1 (List.map rStr v20.Stack)]])] [10,11,12,13] [9,8,7,6,5,4,3,2,1,0] [(122,.agg [iA v20.At,.isl 1 (List.map rStr v20.Locals),.isl 1 (List.map rStr v20.Stack)]),(121,.ipt 3 (List.map rApiMap v2.Maps) (Int.toNat v18) 0),(120,iA v18),(119,.isl 3 (List.map rApiMap v2.Maps)),(118,.mpt 1 0 8),(117,.agg [iA v19.At,.isl 1 (List.map rStr v19.Locals),.isl 1 (List.map rStr v19.Stack)]),(116,.ipt 3 (List.map rApiMap v1.Maps) (Int.toNat v18) 0),(115,iA v18),(114,.isl 3 (List.map rApiMap v1.Maps)),(113,.mpt 0 0 8)] 4 (by kernel_rfl) (by kernel_rfl) j0 (by kernel_rfl) (dtS ⟨(fun _=>pa j0 j0 j0 j0 (ldI ti39 j0 (idx_some q33).2.2 j0<|j4)),(fun _=>pa j0 j0 j0 j0 (ixI ti32 j0 ti39 j0 j0 j0 q33<|j4)),(fun _=>pa j0 j0 j0 j0 (mv j0<|j4)),(fun _=>pa j0 j0 j0 j0 (ld ti32 j0 j0<|j4)),(fun _=>pa j0 j0 j0 j0 (fa ti35 j0 j0 j0<|j4)),(fun _=>pa j0 j0 j0 j0 (ldI ti39 j0 (idx_some q32).2.2 j0<|j4)),(fun _=>pa j0 j0 j0 j0 (ixI ti32 j0 ti39 j0 j0 j0 q32<|j4)),(fun _=>pa j0 j0 j0 j0 (mv j0<|j4)),(fun _=>pa j0 j0 j0 j0 (ld ti32 j0 j0<|j4)),(fun _=>pa j0 j0 j0 j0 (fa ti35 j0 j0 j0<|j4)),j5⟩ (by kernel_rfl) j0 ⟨(fun _ _=>⟨_,j0,j0,al 2 ti39 j0<|⟨(.mpt 2 0 0),[],[(7,.mpt 2 0 0)],j0,j0,by kernel_rfl,j0,dtS ⟨(fun _=>pa j0 j0 j0 j0 (ldI ti39 j0 (idx_some q33).2.2 j0<|j4)),(fun _=>pa j0 j0 j0 j0 (ixI ti32 j0 ti39 j0 j0 j0 q33<|j4)),(fun _=>pa j0 j0 j0 j0 (mv j0<|j4)),(fun _=>pa j0 j0 j0 j0 (ld ti32 j0 j0<|j4)),(fun _=>pa j0 j0 j0 j0 (fa ti35 j0 j0 j0<|j4)),(fun _=>pa j0 j0 j0 j0 (ldI ti39 j0 (idx_some q32).2.2 j0<|j4)),(fun _=>pa j0 j0 j0 j0 (ixI ti32 j0 ti39 j0 j0 j0 q32<|j4)),(fun _=>pa j0 j0 j0 j0 (mv j0<|j4)),(fun _=>pa j0 j0 j0 j0 (ld ti32 j0 j0<|j4)),(fun _=>pa j0 j0 j0 j0 (fa ti35 j0 j0 j0<|j4)),j5⟩ (by kernel_rfl) j0 ⟨(fun h=>by cases h),(fun _ _=>⟨_,j0,j0,al 3 ti39 j0<|⟨(.mpt 3 0 0),[],[(8,.mpt 3 0 0)],j0,j0,by kernel_rfl,j0,dtS ⟨(fun _=>pa j0 j0 j0 j0 (ldI ti39 j0 (idx_some q33).2.2 j0<|j4)),(fun _=>pa j0 j0 j0 j0 (ixI ti32 j0 ti39 j0 j0 j0 q33<|j4)),(fun _=>pa j0 j0 j0 j0 (mv j0<|j4)),(fun _=>pa j0 j0 j0 j0 (ld ti32 j0 j0<|j4)),(fun _=>pa j0 j0 j0 j0 (fa ti35 j0 j0 j0<|j4)),(fun _=>pa j0 j0 j0 j0 (ldI ti39 j0 (idx_some q32).2.2 j0<|j4)),(fun _=>pa j0 j0 j0 j0 (ixI ti32 j0 ti39 j0 j0 j0 q32<|j4)),(fun _=>pa j0 j0 j0 j0 (mv j0<|j4)),(fun _=>pa j0 j0 j0 j0 (ld ti32 j0 j0<|j4)),(fun _=>pa j0 j0 j0 j0 (fa ti35 j0 j0 j0<|j4)),j5⟩ (by kernel_rfl) j0 ⟨(fun h=>by cases h),(fun h=>by cases h),(fun _ _=>⟨_,j0,j0,sto ti39 j0 j0 j0<|⟨.any,[],[],j0,j0,by kernel_rfl,j5,dtS ⟨(fun _=>pa j0 j0 j0 j0 (ldI ti39 j0 (idx_some q33).2.2 j0<|j4)),(fun _=>pa j0 j0 j0 j0 (ixI ti32 j0 ti39 j0 j0 j0 q33<|j4)),(fun _=>pa j0 j0 j0 j0 (mv j0<|j4)),(fun _=>pa j0 j0 j0 j0 (ld ti32 j0 j0<|j4)),(fun _=>pa j0 j0 j0 j0 (fa ti35 j0 j0 j0<|j4)),(fun h=>by cases h),(fun h=>by cases h),(fun h=>by cases h),(fun h=>by cases h),(fun h=>by cases h),j5⟩ (by kernel_rfl) j0 ⟨(fun h=>by cases h),(fun h=>by cases h),(fun h=>by cases h),(fun _ _=>⟨_,j0,j0,sto ti39 j0 j0 j0<|⟨.any,[],[],j0,j0,by kernel_rfl,j5,dt0 ⟨(fun h=>by cases h),(fun h=>by cases h),(fun h=>by cases h),(fun h=>by cases h),(fun h=>by cases h),(fun h=>by cases h),(fun h=>by cases h),(fun h=>by cases h),(fun h=>by cases h),(fun h=>by cases h),j5⟩ (by kernel_rfl) j0 ⟨[.old 0,.old 1,.old 2,.old 3],cv j0 (.mpt j0)<|cv j0 (.mpt j0)<|ce j0 j0<|cv j0 (.mpt j0)<|cv j0 (.mpt j0)<|cn,j0,⟨⟨_,j0,rsOne ⟨ci j0,ci j0,ci j0,ci j0,ci j0,ci j0,ci j0,ci j0,ci j0,ci j0,j5⟩⟩,⟨_,j0,rsOne ⟨ci j0,ci j0,ci j0,ci j0,ci j0,ci j0,ci j0,ci j0,ci j0,ci j0,j5⟩⟩,⟨_,j0,rsOne ⟨ci j0,ci j0,ci j0,j5⟩⟩,⟨_,j0,rsOne ⟨ci j0,ci j0,ci j0,j5⟩⟩,j5⟩,j0,j1⟩⟩⟩),j5⟩⟩⟩),(fun _ h=>by cases h),j5⟩⟩⟩),(fun _ h=>by cases h),(fun _ h=>by cases h),j5⟩⟩⟩),(fun _ _=>⟨_,j0,j0,al 2 ti39 j0<|⟨(.mpt 2 0 0),[],[(8,.mpt 2 0 0)],j0,j0,by kernel_rfl,j0,dtS ⟨(fun _=>pa j0 j0 j0 j0 (ldI ti39 j0 (idx_some q33).2.2 j0<|j4)),(fun _=>pa j0 j0 j0 j0 (ixI ti32 j0 ti39 j0 j0 j0 q33<|j4)),(fun _=>pa j0 j0 j0 j0 (mv j0<|j4)),(fun _=>pa j0 j0 j0 j0 (ld ti32 j0 j0<|j4)),(fun _=>pa j0 j0 j0 j0 (fa ti35 j0 j0 j0<|j4)),(fun _=>pa j0 j0 j0 j0 (ldI ti39 j0 (idx_some q32).2.2 j0<|j4)),(fun _=>pa j0 j0 j0 j0 (ixI ti32 j0 ti39 j0 j0 j0 q32<|j4)),(fun _=>pa j0 j0 j0 j0 (mv j0<|j4)),(fun _=>pa j0 j0 j0 j0 (ld ti32 j0 j0<|j4)),(fun _=>pa j0 j0 j0 j0 (fa ti35 j0 j0 j0<|j4)),j5⟩ (by kernel_rfl) j0 ⟨(fun _ _=>⟨_,j0,j0,al 3 ti39 j0<|⟨(.mpt 3 0 0),[],[(7,.mpt 3 0 0)],j0,j0,by kernel_rfl,j0,dtS ⟨(fun _=>pa j0 j0 j0 j0 (ldI ti39 j0 (idx_some q33).2.2 j0<|j4)),(fun _=>pa j0 j0 j0 j0 (ixI ti32 j0 ti39 j0 j0 j0 q33<|j4)),(fun _=>pa j0 j0 j0 j0 (mv j0<|j4)),(fun _=>pa j0 j0 j0 j0 (ld ti32 j0 j0<|j4)),(fun _=>pa j0 j0 j0 j0 (fa ti35 j0 j0 j0<|j4)),(fun _=>pa j0 j0 j0 j0 (ldI ti39 j0 (idx_some q32).2.2 j0<|j4)),(fun _=>pa j0 j0 j0 j0 (ixI ti32 j0 ti39 j0 j0 j0 q32<|j4)),(fun _=>pa j0 j0 j0 j0 (mv j0<|j4)),(fun _=>pa j0 j0 j0 j0 (ld ti32 j0 j0<|j4)),(fun _=>pa j0 j0 j0 j0 (fa ti35 j0 j0 j0<|j4)),j5⟩ (by kernel_rfl) j0 ⟨(fun h=>by cases h),(fun h=>by cases h),(fun _ _=>⟨_,j0,j0,sto ti39 j0 j0 j0<|⟨.any,[],[],j0,j0,by kernel_rfl,j5,dtS ⟨(fun _=>pa j0 j0 j0 j0 (ldI ti39 j0 (idx_some q33).2.2 j0<|j4)),(fun _=>pa j0 j0 j0 j0 (ixI ti32 j0 ti39 j0 j0 j0 q33<|j4)),(fun _=>pa j0 j0 j0 j0 (mv j0<|j4)),(fun _=>pa j0 j0 j0 j0 (ld ti32 j0 j0<|j4)),(fun _=>pa j0 j0 j0 j0 (fa ti35 j0 j0 j0<|j4)),(fun h=>by cases h),(fun h=>by cases h),(fun h=>by cases h),(fun h=>by cases h),(fun h=>by cases h),j5⟩ (by kernel_rfl) j0 ⟨(fun h=>by cases h),(fun h=>by cases h),(fun h=>by cases h),(fun _ _=>⟨_,j0,j0,sto ti39 j0 j0 j0<|⟨.any,[],[],j0,j0,by kernel_rfl,j5,dt0 ⟨(fun h=>by cases h),(fun h=>by cases h),(fun h=>by cases h),(fun h=>by cases h),(fun h=>by cases h),(fun h=>by cases h),(fun h=>by cases h),(fun h=>by cases h),(fun h=>by cases h),(fun h=>by cases h),j5⟩ (by kernel_rfl) j0 ⟨[.old 0,.old 1,.old 3,.old 2],cv j0 (.mpt j0)<|cv j0 (.mpt j0)<|ce j0 j0<|cv j0 (.mpt j0)<|cv j0 (.mpt j0)<|cn,j0,⟨⟨_,j0,rsOne ⟨ci j0,ci j0,ci j0,ci j0,ci j0,ci j0,ci j0,ci j0,ci j0,ci j0,j5⟩⟩,⟨_,j0,rsOne ⟨ci j0,ci j0,ci j0,ci j0,ci j0,ci j0,ci j0,ci j0,ci j0,ci j0,j5⟩⟩,⟨_,j0,rsOne ⟨ci j0,ci j0,ci j0,j5⟩⟩,⟨_,j0,rsOne ⟨ci j0,ci j0,ci j0,j5⟩⟩,j5⟩,j0,j1⟩⟩⟩),j5⟩⟩⟩),(fun _ h=>by cases h),j5⟩⟩⟩),(fun h=>by cases h),(fun _ h=>by cases h),(fun _ h=>by cases h),j5⟩⟩⟩),(fun _ h=>by cases h),(fun _ h=>by cases h),j5⟩) ?_
     obtain ⟨v22,q36,h⟩:=bs h
     obtain ⟨v24,q39,h⟩:=bs h
     refine rg j0<|u<|fa ti39 j0 j0 j0<|u<|ld ti3 j0 j0<|u<|fa ti39 j0 j0 j0<|u<|ld ti3 j0 j0<|u<|neq ti3 j0 j0<|u<|mv j0<|r_or (x:=v22) (j:=5) 6 j0 j0 j0 j0 j0 gpn (fun hb34=>by replace q36:=bF hb34 q36; obtain ⟨v21,q35,q36⟩:=bs q36; obtain rfl:=sm q36; exact g j0 hb34<|fa ti39 j0 j0 j0<|g j0 hb34<|ld ti24 j0 j0<|g j0 hb34<|fa ti39 j0 j0 j0<|g j0 hb34<|ld ti24 j0 j0<|g j0 hb34<|pc (ref3_EqTexts_ok v19.Locals v20.Locals q35) j0 j0 j0<|g j0 hb34<|nt j0<|r_nil (eg [129,130,131,132,133,134] 6 j0 j0 j0 j0)) (fun hb=>(sm (bT hb q36)).symm)<|u<|mv j0<|r_or (x:=v24) (j:=13) 6 j0 j0 j0 j0 j0 gpn (fun hb37=>by replace q39:=bF hb37 q39; obtain ⟨v23,q38,q39⟩:=bs q39; obtain rfl:=sm q39; exact g j0 hb37<|fa ti39 j0 j0 j0<|g j0 hb37<|ld ti24 j0 j0<|g j0 hb37<|fa ti39 j0 j0 j0<|g j0 hb37<|ld ti24 j0 j0<|g j0 hb37<|pc (ref3_EqTexts_ok v19.Stack v20.Stack q38) j0 j0 j0<|g j0 hb37<|nt j0<|r_nil (eg [137,138,139,140,141,142] 6 j0 j0 j0 j0)) (fun hb=>(sm (bT hb q39)).symm)<|r_nil ?_
     refine sw_cond j0 (fun hc40=>?_) (fun hc40=>?_)
     ·
      replace h:=bT hc40 h
      refine rg j0<|u<|asg j0<|r_nil ?_
      refine sw_ret ?_
      obtain rfl:=sm h
      exact ⟨_,j0,_,j0,[],ci j0,j0,j5,j0,j1⟩
     ·
      replace h:=bF hc40 h
      refine sw_skip ?_
      refine rl j0<|u<|mv j0<|u<|add ti3 j0 j0<|u<|asg j0<|r_nil ?_
      obtain rfl:=sm h
      exact ⟨_,j0,[.old 0,.old 1],cv j0 (.mpt j0)<|cv j0 (.mpt j0)<|ce j0 j0<|cn,j0,⟨⟨_,j0,rsOne ⟨ci j0,ci j0,ci j0,ci j0,ci j0,ci j0,ci j0,ci j0,ci j0,ci j0,j5⟩⟩,⟨_,j0,rsOne ⟨ci j0,ci j0,ci j0,ci j0,ci j0,ci j0,ci j0,ci j0,ci j0,ci j0,j5⟩⟩,j5⟩,j0,j1⟩
    ·
     replace h:=bF hc31 h
     refine sw_exit ?_
     obtain rfl:=sm h
     exact ⟨j0,_,j0,[.old 0,.old 1],cv j0 (.mpt j0)<|cv j0 (.mpt j0)<|cn,j0,⟨⟨_,j0,rsOne ⟨ci j0,ci j0,ci j0,ci j0,ci j0,ci j0,ci j0,ci j0,ci j0,ci j0,j5⟩⟩,⟨_,j0,rsOne ⟨ci j0,ci j0,ci j0,ci j0,ci j0,ci j0,ci j0,ci j0,ci j0,ci j0,j5⟩⟩,j5⟩,j0,j1⟩
   ·
    rintro ⟨⟩ rfl
    replace h : ref3_eqMethod_k4 v1 v2 = some r:=h
    unfold ref3_eqMethod_k4 at h
    refine ow_intro ?_
    refine sw_seq ?_
    refine rg j0<|u<|asg j0<|r_nil ?_
    obtain ⟨o,ho,h⟩:=bs h
    refine sw_lpl (X:=Int) (B:=Unit) (R:=Bool) (fun z=>[(2,.mpt 0 0 0),(3,.mpt 1 0 0),(9,iA z)]) (fun z=>[some (10,[[sA v1.Name,.isl 1 (List.map rStr v1.Params),sA v1.Ret,bA v1.Static,bA v1.Abstract,iA v1.Locals,iA v1.Stack,.isl 4 (List.map rApiIns v1.Code),.isl 3 (List.map rApiMap v1.Maps),.isl 4 (List.map rApiTrap v1.Traps)]]),some (10,[[sA v2.Name,.isl 1 (List.map rStr v2.Params),sA v2.Ret,bA v2.Static,bA v2.Abstract,iA v2.Locals,iA v2.Stack,.isl 4 (List.map rApiIns v2.Code),.isl 3 (List.map rApiMap v2.Maps),.isl 4 (List.map rApiTrap v2.Traps)]])]) (fun b=>[]) (fun b=>[]) (fun r env st=>PostF Tryz.prog Tryz.f74 0 (bA r) [] env st) ho ⟨[.old 0,.old 1],cv j0 (.mpt j0)<|cv j0 (.mpt j0)<|ce j0 j0<|cn,j0,⟨⟨_,j0,rsOne ⟨ci j0,ci j0,ci j0,ci j0,ci j0,ci j0,ci j0,ci j0,ci j0,ci j0,j5⟩⟩,⟨_,j0,rsOne ⟨ci j0,ci j0,ci j0,ci j0,ci j0,ci j0,ci j0,ci j0,ci j0,ci j0,j5⟩⟩,j5⟩,j0,j1⟩ ?_ ?_ ?_
    ·
     rintro v28 r h
     replace h : ref3_eqMethod_l5 v1 v2 v28 = some r:=h
     unfold ref3_eqMethod_l5 at h
     refine sw_seq ?_
     refine rg j0<|u<|mv j0<|u<|fa ti35 j0 j0 j0<|u<|ld ti33 j0 j0<|u<|lnI ti33 j0 j0<|u<|lss ti3 j0 j0<|r_nil ?_
     refine sw_cond j0 (fun hc48=>?_) (fun hc48=>?_)
     ·
      replace h:=bT hc48 h
      refine sw_skip ?_
      refine sw_seq ?_
      refine sw_block ?_
      obtain ⟨v29,q49,h⟩:=bs h
      obtain ⟨v30,q50,h⟩:=bs h
      refine rd [(2,.mpt 0 0 0),(3,.mpt 1 0 0),(9,iA v28),(10,.mpt 2 0 0),(11,.mpt 3 0 0)] [some (10,[[sA v1.Name,.isl 1 (List.map rStr v1.Params),sA v1.Ret,bA v1.Static,bA v1.Abstract,iA v1.Locals,iA v1.Stack,.isl 4 (List.map rApiIns v1.Code),.isl 3 (List.map rApiMap v1.Maps),.isl 4 (List.map rApiTrap v1.Traps)]]),some (10,[[sA v2.Name,.isl 1 (List.map rStr v2.Params),sA v2.Ret,bA v2.Static,bA v2.Abstract,iA v2.Locals,iA v2.Stack,.isl 4 (List.map rApiIns v2.Code),.isl 3 (List.map rApiMap v2.Maps),.isl 4 (List.map rApiTrap v2.Traps)]]),some (4,[[iA v29.From,iA v29.To,iA v29.At,sA v29.C]]),some (4,[[iA v30.From,iA v30.To,iA v30.At,sA v30.C]])] [10,11,12,13] [9,8,7,6,5,4,3,2,1,0] [(160,.agg [iA v30.From,iA v30.To,iA v30.At,sA v30.C]),(159,.ipt 4 (List.map rApiTrap v2.Traps) (Int.toNat v28) 0),(158,iA v28),(157,.isl 4 (List.map rApiTrap v2.Traps)),(156,.mpt 1 0 9),(155,.agg [iA v29.From,iA v29.To,iA v29.At,sA v29.C]),(154,.ipt 4 (List.map rApiTrap v1.Traps) (Int.toNat v28) 0),(153,iA v28),(152,.isl 4 (List.map rApiTrap v1.Traps)),(151,.mpt 0 0 9)] 4 (by kernel_rfl) (by kernel_rfl) j0 (by kernel_rfl) (dtS ⟨(fun _=>pa j0 j0 j0 j0 (ldI ti113 j0 (idx_some q50).2.2 j0<|j4)),(fun _=>pa j0 j0 j0 j0 (ixI ti33 j0 ti113 j0 j0 j0 q50<|j4)),(fun _=>pa j0 j0 j0 j0 (mv j0<|j4)),(fun _=>pa j0 j0 j0 j0 (ld ti33 j0 j0<|j4)),(fun _=>pa j0 j0 j0 j0 (fa ti35 j0 j0 j0<|j4)),(fun _=>pa j0 j0 j0 j0 (ldI ti113 j0 (idx_some q49).2.2 j0<|j4)),(fun _=>pa j0 j0 j0 j0 (ixI ti33 j0 ti113 j0 j0 j0 q49<|j4)),(fun _=>pa j0 j0 j0 j0 (mv j0<|j4)),(fun _=>pa j0 j0 j0 j0 (ld ti33 j0 j0<|j4)),(fun _=>pa j0 j0 j0 j0 (fa ti35 j0 j0 j0<|j4)),j5⟩ (by kernel_rfl) j0 ⟨(fun _ _=>⟨_,j0,j0,al 2 ti113 j0<|⟨(.mpt 2 0 0),[],[(10,.mpt 2 0 0)],j0,j0,by kernel_rfl,j0,dtS ⟨(fun _=>pa j0 j0 j0 j0 (ldI ti113 j0 (idx_some q50).2.2 j0<|j4)),(fun _=>pa j0 j0 j0 j0 (ixI ti33 j0 ti113 j0 j0 j0 q50<|j4)),(fun _=>pa j0 j0 j0 j0 (mv j0<|j4)),(fun _=>pa j0 j0 j0 j0 (ld ti33 j0 j0<|j4)),(fun _=>pa j0 j0 j0 j0 (fa ti35 j0 j0 j0<|j4)),(fun _=>pa j0 j0 j0 j0 (ldI ti113 j0 (idx_some q49).2.2 j0<|j4)),(fun _=>pa j0 j0 j0 j0 (ixI ti33 j0 ti113 j0 j0 j0 q49<|j4)),(fun _=>pa j0 j0 j0 j0 (mv j0<|j4)),(fun _=>pa j0 j0 j0 j0 (ld ti33 j0 j0<|j4)),(fun _=>pa j0 j0 j0 j0 (fa ti35 j0 j0 j0<|j4)),j5⟩ (by kernel_rfl) j0 ⟨(fun h=>by cases h),(fun _ _=>⟨_,j0,j0,al 3 ti113 j0<|⟨(.mpt 3 0 0),[],[(11,.mpt 3 0 0)],j0,j0,by kernel_rfl,j0,dtS ⟨(fun _=>pa j0 j0 j0 j0 (ldI ti113 j0 (idx_some q50).2.2 j0<|j4)),(fun _=>pa j0 j0 j0 j0 (ixI ti33 j0 ti113 j0 j0 j0 q50<|j4)),(fun _=>pa j0 j0 j0 j0 (mv j0<|j4)),(fun _=>pa j0 j0 j0 j0 (ld ti33 j0 j0<|j4)),(fun _=>pa j0 j0 j0 j0 (fa ti35 j0 j0 j0<|j4)),(fun _=>pa j0 j0 j0 j0 (ldI ti113 j0 (idx_some q49).2.2 j0<|j4)),(fun _=>pa j0 j0 j0 j0 (ixI ti33 j0 ti113 j0 j0 j0 q49<|j4)),(fun _=>pa j0 j0 j0 j0 (mv j0<|j4)),(fun _=>pa j0 j0 j0 j0 (ld ti33 j0 j0<|j4)),(fun _=>pa j0 j0 j0 j0 (fa ti35 j0 j0 j0<|j4)),j5⟩ (by kernel_rfl) j0 ⟨(fun h=>by cases h),(fun h=>by cases h),(fun _ _=>⟨_,j0,j0,sto ti113 j0 j0 j0<|⟨.any,[],[],j0,j0,by kernel_rfl,j5,dtS ⟨(fun _=>pa j0 j0 j0 j0 (ldI ti113 j0 (idx_some q50).2.2 j0<|j4)),(fun _=>pa j0 j0 j0 j0 (ixI ti33 j0 ti113 j0 j0 j0 q50<|j4)),(fun _=>pa j0 j0 j0 j0 (mv j0<|j4)),(fun _=>pa j0 j0 j0 j0 (ld ti33 j0 j0<|j4)),(fun _=>pa j0 j0 j0 j0 (fa ti35 j0 j0 j0<|j4)),(fun h=>by cases h),(fun h=>by cases h),(fun h=>by cases h),(fun h=>by cases h),(fun h=>by cases h),j5⟩ (by kernel_rfl) j0 ⟨(fun h=>by cases h),(fun h=>by cases h),(fun h=>by cases h),(fun _ _=>⟨_,j0,j0,sto ti113 j0 j0 j0<|⟨.any,[],[],j0,j0,by kernel_rfl,j5,dt0 ⟨(fun h=>by cases h),(fun h=>by cases h),(fun h=>by cases h),(fun h=>by cases h),(fun h=>by cases h),(fun h=>by cases h),(fun h=>by cases h),(fun h=>by cases h),(fun h=>by cases h),(fun h=>by cases h),j5⟩ (by kernel_rfl) j0 ⟨[.old 0,.old 1,.old 2,.old 3],cv j0 (.mpt j0)<|cv j0 (.mpt j0)<|ce j0 j0<|cv j0 (.mpt j0)<|cv j0 (.mpt j0)<|cn,j0,⟨⟨_,j0,rsOne ⟨ci j0,ci j0,ci j0,ci j0,ci j0,ci j0,ci j0,ci j0,ci j0,ci j0,j5⟩⟩,⟨_,j0,rsOne ⟨ci j0,ci j0,ci j0,ci j0,ci j0,ci j0,ci j0,ci j0,ci j0,ci j0,j5⟩⟩,⟨_,j0,rsOne ⟨ci j0,ci j0,ci j0,ci j0,j5⟩⟩,⟨_,j0,rsOne ⟨ci j0,ci j0,ci j0,ci j0,j5⟩⟩,j5⟩,j0,j1⟩⟩⟩),j5⟩⟩⟩),(fun _ h=>by cases h),j5⟩⟩⟩),(fun _ h=>by cases h),(fun _ h=>by cases h),j5⟩⟩⟩),(fun _ _=>⟨_,j0,j0,al 2 ti113 j0<|⟨(.mpt 2 0 0),[],[(11,.mpt 2 0 0)],j0,j0,by kernel_rfl,j0,dtS ⟨(fun _=>pa j0 j0 j0 j0 (ldI ti113 j0 (idx_some q50).2.2 j0<|j4)),(fun _=>pa j0 j0 j0 j0 (ixI ti33 j0 ti113 j0 j0 j0 q50<|j4)),(fun _=>pa j0 j0 j0 j0 (mv j0<|j4)),(fun _=>pa j0 j0 j0 j0 (ld ti33 j0 j0<|j4)),(fun _=>pa j0 j0 j0 j0 (fa ti35 j0 j0 j0<|j4)),(fun _=>pa j0 j0 j0 j0 (ldI ti113 j0 (idx_some q49).2.2 j0<|j4)),(fun _=>pa j0 j0 j0 j0 (ixI ti33 j0 ti113 j0 j0 j0 q49<|j4)),(fun _=>pa j0 j0 j0 j0 (mv j0<|j4)),(fun _=>pa j0 j0 j0 j0 (ld ti33 j0 j0<|j4)),(fun _=>pa j0 j0 j0 j0 (fa ti35 j0 j0 j0<|j4)),j5⟩ (by kernel_rfl) j0 ⟨(fun _ _=>⟨_,j0,j0,al 3 ti113 j0<|⟨(.mpt 3 0 0),[],[(10,.mpt 3 0 0)],j0,j0,by kernel_rfl,j0,dtS ⟨(fun _=>pa j0 j0 j0 j0 (ldI ti113 j0 (idx_some q50).2.2 j0<|j4)),(fun _=>pa j0 j0 j0 j0 (ixI ti33 j0 ti113 j0 j0 j0 q50<|j4)),(fun _=>pa j0 j0 j0 j0 (mv j0<|j4)),(fun _=>pa j0 j0 j0 j0 (ld ti33 j0 j0<|j4)),(fun _=>pa j0 j0 j0 j0 (fa ti35 j0 j0 j0<|j4)),(fun _=>pa j0 j0 j0 j0 (ldI ti113 j0 (idx_some q49).2.2 j0<|j4)),(fun _=>pa j0 j0 j0 j0 (ixI ti33 j0 ti113 j0 j0 j0 q49<|j4)),(fun _=>pa j0 j0 j0 j0 (mv j0<|j4)),(fun _=>pa j0 j0 j0 j0 (ld ti33 j0 j0<|j4)),(fun _=>pa j0 j0 j0 j0 (fa ti35 j0 j0 j0<|j4)),j5⟩ (by kernel_rfl) j0 ⟨(fun h=>by cases h),(fun h=>by cases h),(fun _ _=>⟨_,j0,j0,sto ti113 j0 j0 j0<|⟨.any,[],[],j0,j0,by kernel_rfl,j5,dtS ⟨(fun _=>pa j0 j0 j0 j0 (ldI ti113 j0 (idx_some q50).2.2 j0<|j4)),(fun _=>pa j0 j0 j0 j0 (ixI ti33 j0 ti113 j0 j0 j0 q50<|j4)),(fun _=>pa j0 j0 j0 j0 (mv j0<|j4)),(fun _=>pa j0 j0 j0 j0 (ld ti33 j0 j0<|j4)),(fun _=>pa j0 j0 j0 j0 (fa ti35 j0 j0 j0<|j4)),(fun h=>by cases h),(fun h=>by cases h),(fun h=>by cases h),(fun h=>by cases h),(fun h=>by cases h),j5⟩ (by kernel_rfl) j0 ⟨(fun h=>by cases h),(fun h=>by cases h),(fun h=>by cases h),(fun _ _=>⟨_,j0,j0,sto ti113 j0 j0 j0<|⟨.any,[],[],j0,j0,by kernel_rfl,j5,dt0 ⟨(fun h=>by cases h),(fun h=>by cases h),(fun h=>by cases h),(fun h=>by cases h),(fun h=>by cases h),(fun h=>by cases h),(fun h=>by cases h),(fun h=>by cases h),(fun h=>by cases h),(fun h=>by cases h),j5⟩ (by kernel_rfl) j0 ⟨[.old 0,.old 1,.old 3,.old 2],cv j0 (.mpt j0)<|cv j0 (.mpt j0)<|ce j0 j0<|cv j0 (.mpt j0)<|cv j0 (.mpt j0)<|cn,j0,⟨⟨_,j0,rsOne ⟨ci j0,ci j0,ci j0,ci j0,ci j0,ci j0,ci j0,ci j0,ci j0,ci j0,j5⟩⟩,⟨_,j0,rsOne ⟨ci j0,ci j0,ci j0,ci j0,ci j0,ci j0,ci j0,ci j0,ci j0,ci j0,j5⟩⟩,⟨_,j0,rsOne ⟨ci j0,ci j0,ci j0,ci j0,j5⟩⟩,⟨_,j0,rsOne ⟨ci j0,ci j0,ci j0,ci j0,j5⟩⟩,j5⟩,j0,j1⟩⟩⟩),j5⟩⟩⟩),(fun _ h=>by cases h),j5⟩⟩⟩),(fun h=>by cases h),(fun _ h=>by cases h),(fun _ h=>by cases h),j5⟩⟩⟩),(fun _ h=>by cases h),(fun _ h=>by cases h),j5⟩) ?_
      refine rg j0<|u<|fa ti113 j0 j0 j0<|u<|ld ti3 j0 j0<|u<|fa ti113 j0 j0 j0<|u<|ld ti3 j0 j0<|u<|neq ti3 j0 j0<|u<|mv j0<|r_or (j:=5) 5 j0 j0 j0 j0 j0 gpn (fun hb51=>g j0 hb51<|fa ti113 j0 j0 j0<|g j0 hb51<|ld ti3 j0 j0<|g j0 hb51<|fa ti113 j0 j0 j0<|g j0 hb51<|ld ti3 j0 j0<|g j0 hb51<|neq ti3 j0 j0<|r_nil (egO [167,168,169,170,171] 5 hb51 j0 j0 j0 j0)) orT<|u<|mv j0<|r_or (j:=12) 5 j0 j0 j0 j0 j0 gpn (fun hb52=>g j0 hb52<|fa ti113 j0 j0 j0<|g j0 hb52<|ld ti3 j0 j0<|g j0 hb52<|fa ti113 j0 j0 j0<|g j0 hb52<|ld ti3 j0 j0<|g j0 hb52<|neq ti3 j0 j0<|r_nil (egO [174,175,176,177,178] 5 hb52 j0 j0 j0 j0)) orT<|u<|mv j0<|r_or (j:=19) 5 j0 j0 j0 j0 j0 gpn (fun hb53=>g j0 hb53<|fa ti113 j0 j0 j0<|g j0 hb53<|ld ti9 j0 j0<|g j0 hb53<|fa ti113 j0 j0 j0<|g j0 hb53<|ld ti9 j0 j0<|g j0 hb53<|sne ti9 j0 j0<|r_nil (egO [181,182,183,184,185] 5 hb53 j0 j0 j0 j0)) orT<|r_nil ?_
      refine sw_cond j0 (fun hc54=>?_) (fun hc54=>?_)
      ·
       replace h:=bT hc54 h
       refine rg j0<|u<|asg j0<|r_nil ?_
       refine sw_ret ?_
       obtain rfl:=sm h
       exact ⟨_,j0,_,j0,[],ci j0,j0,j5,j0,j1⟩
      ·
       replace h:=bF hc54 h
       refine sw_skip ?_
       refine rl j0<|u<|mv j0<|u<|add ti3 j0 j0<|u<|asg j0<|r_nil ?_
       obtain rfl:=sm h
       exact ⟨_,j0,[.old 0,.old 1],cv j0 (.mpt j0)<|cv j0 (.mpt j0)<|ce j0 j0<|cn,j0,⟨⟨_,j0,rsOne ⟨ci j0,ci j0,ci j0,ci j0,ci j0,ci j0,ci j0,ci j0,ci j0,ci j0,j5⟩⟩,⟨_,j0,rsOne ⟨ci j0,ci j0,ci j0,ci j0,ci j0,ci j0,ci j0,ci j0,ci j0,ci j0,j5⟩⟩,j5⟩,j0,j1⟩
     ·
      replace h:=bF hc48 h
      refine sw_exit ?_
      obtain rfl:=sm h
      exact ⟨j0,_,j0,[],cn,j0,j5,j0,j1⟩
    ·
     rintro ⟨⟩ rfl
     replace h : ref3_eqMethod_k6 = some r:=h
     unfold ref3_eqMethod_k6 at h
     refine ow_intro ?_
     refine rg j0<|u<|asg j0<|r_nil ?_
     refine sw_ret ?_
     obtain rfl:=sm h
     exact ⟨_,j0,[],ci j0,j0,j5,j0,j1⟩
    ·
     rintro r' rfl env st hp
     obtain rfl:=sm h
     exact hp
   ·
    rintro r' rfl env st hp
    obtain rfl:=sm h
    exact hp
  ·
   rintro r' rfl env st hp
   obtain rfl:=sm h
   exact hp
def ref3_EqClass_k4 : Option (Bool) :=
  some true
def ref3_EqClass_l3 (v1 : ApiClass) (v2 : ApiClass) (v15 : Int) : Option (Sum (Int) (Sum (Unit) (Bool))) :=
  cond (decide (v15 < (List.length v1.Methods : Int))) ((idx v1.Methods v15).bind fun v16=>(idx v2.Methods v15).bind fun v17=>(ref3_eqMethod v16 v17).bind fun v18=>cond (!v18) (some (.inr (.inr false))) (some (.inl (IntKind.i64.wrap (v15 + 1))))) (some (.inr (.inl ())))
def ref3_EqClass_k2 (v1 : ApiClass) (v2 : ApiClass) : Option (Bool) :=
  (loopP (fun z=>ref3_EqClass_l3 v1 v2 z) 0).bind fun o=>leave o (fun b=>ref3_EqClass_k4) some
def ref3_EqClass_l1 (v1 : ApiClass) (v2 : ApiClass) (v8 : Int) : Option (Sum (Int) (Sum (Unit) (Bool))) :=
  cond (decide (v8 < (List.length v1.Fields : Int))) ((idx v1.Fields v8).bind fun v9=>(idx v2.Fields v8).bind fun v10=>cond (((!(v9.Name == v10.Name)) || (!(v9.Type_ == v10.Type_))) || (!(v9.Static == v10.Static))) (some (.inr (.inr false))) (some (.inl (IntKind.i64.wrap (v8 + 1))))) (some (.inr (.inl ())))
def ref3_EqClass (v1 : ApiClass) (v2 : ApiClass) : Option (Bool) :=
  (cond (((!(v1.Name == v2.Name)) || (!(v1.Super == v2.Super))) || (!(v1.Interface == v2.Interface))) (some true) ((ref3_EqTexts v1.Impl v2.Impl).bind fun v3=>some (!v3))).bind fun v4=>cond ((v4 || (!((List.length v1.Fields : Int) == (List.length v2.Fields : Int)))) || (!((List.length v1.Methods : Int) == (List.length v2.Methods : Int)))) (some false) ((loopP (fun z=>ref3_EqClass_l1 v1 v2 z) 0).bind fun o=>leave o (fun b=>ref3_EqClass_k2 v1 v2) some)
theorem ref3_EqClass_ok (v1 : ApiClass) (v2 : ApiClass) {r : Bool} (h : ref3_EqClass v1 v2 = some r) : PureC Tryz.prog 18 [.agg [sA v1.Name,sA v1.Super,bA v1.Interface,.isl 1 (List.map rStr v1.Impl),.isl 3 (List.map rApiField v1.Fields),.isl 10 (List.map rApiMethod v1.Methods)],.agg [sA v2.Name,sA v2.Super,bA v2.Interface,.isl 1 (List.map rStr v2.Impl),.isl 3 (List.map rApiField v2.Fields),.isl 10 (List.map rApiMethod v2.Methods)]] (bA r):=by
 refine pure_fn Tryz.func18 j0 (by kernel_rfl) j0 j0 ?_
 unfold ref3_EqClass at h
 refine rg j0<|u<|bx 0 6 j0 j0 j0 j0<|u<|bx 1 6 j0 j0 j0 j0<|u<|asg j0<|r_nil ?_
 refine sw_seq ?_
 obtain ⟨v4,q5,h⟩:=bs h
 refine rg j0<|u<|fa ti28 j0 j0 j0<|u<|ld ti9 j0 j0<|u<|fa ti28 j0 j0 j0<|u<|ld ti9 j0 j0<|u<|sne ti9 j0 j0<|u<|mv j0<|r_or (j:=5) 5 j0 j0 j0 j0 j0 gpn (fun hb1=>g j0 hb1<|fa ti28 j0 j0 j0<|g j0 hb1<|ld ti9 j0 j0<|g j0 hb1<|fa ti28 j0 j0 j0<|g j0 hb1<|ld ti9 j0 j0<|g j0 hb1<|sne ti9 j0 j0<|r_nil (egO [15,16,17,18,19] 5 hb1 j0 j0 j0 j0)) orT<|u<|mv j0<|r_or (j:=12) 5 j0 j0 j0 j0 j0 gpn (fun hb2=>g j0 hb2<|fa ti28 j0 j0 j0<|g j0 hb2<|ld ti4 j0 j0<|g j0 hb2<|fa ti28 j0 j0 j0<|g j0 hb2<|ld ti4 j0 j0<|g j0 hb2<|bne ti4 j0 j0 j0<|r_nil (egO [22,23,24,25,26] 5 hb2 j0 j0 j0 j0)) orT<|u<|mv j0<|r_or (x:=v4) (j:=19) 6 j0 j0 j0 j0 j0 gpn (fun hb3=>by replace q5:=bF hb3 q5; obtain ⟨v3,q4,q5⟩:=bs q5; obtain rfl:=sm q5; exact g j0 hb3<|fa ti28 j0 j0 j0<|g j0 hb3<|ld ti24 j0 j0<|g j0 hb3<|fa ti28 j0 j0 j0<|g j0 hb3<|ld ti24 j0 j0<|g j0 hb3<|pc (ref3_EqTexts_ok v1.Impl v2.Impl q4) j0 j0 j0<|g j0 hb3<|nt j0<|r_nil (eg [29,30,31,32,33,34] 6 j0 j0 j0 j0)) (fun hb=>(sm (bT hb q5)).symm)<|u<|mv j0<|r_or (j:=27) 7 j0 j0 j0 j0 j0 gpn (fun hb6=>g j0 hb6<|fa ti28 j0 j0 j0<|g j0 hb6<|ld ti25 j0 j0<|g j0 hb6<|lnI ti25 j0 j0<|g j0 hb6<|fa ti28 j0 j0 j0<|g j0 hb6<|ld ti25 j0 j0<|g j0 hb6<|lnI ti25 j0 j0<|g j0 hb6<|neq ti3 j0 j0<|r_nil (egO [37,38,39,40,41,42,43] 7 hb6 j0 j0 j0 j0)) orT<|u<|mv j0<|r_or (j:=36) 7 j0 j0 j0 j0 j0 gpn (fun hb7=>g j0 hb7<|fa ti28 j0 j0 j0<|g j0 hb7<|ld ti26 j0 j0<|g j0 hb7<|lnI ti26 j0 j0<|g j0 hb7<|fa ti28 j0 j0 j0<|g j0 hb7<|ld ti26 j0 j0<|g j0 hb7<|lnI ti26 j0 j0<|g j0 hb7<|neq ti3 j0 j0<|r_nil (egO [46,47,48,49,50,51,52] 7 hb7 j0 j0 j0 j0)) orT<|r_nil ?_
 refine sw_cond j0 (fun hc8=>?_) (fun hc8=>?_)
 ·
  replace h:=bT hc8 h
  refine rg j0<|u<|asg j0<|r_nil ?_
  refine sw_ret ?_
  obtain rfl:=sm h
  exact ⟨_,j0,[],ci j0,j0,j5,j0,j1⟩
 ·
  replace h:=bF hc8 h
  refine sw_skip ?_
  refine sw_seq ?_
  refine rg j0<|u<|asg j0<|r_nil ?_
  obtain ⟨o,ho,h⟩:=bs h
  refine sw_lpl (X:=Int) (B:=Unit) (R:=Bool) (fun z=>[(2,.mpt 0 0 0),(3,.mpt 1 0 0),(5,iA z)]) (fun z=>[some (6,[[sA v1.Name,sA v1.Super,bA v1.Interface,.isl 1 (List.map rStr v1.Impl),.isl 3 (List.map rApiField v1.Fields),.isl 10 (List.map rApiMethod v1.Methods)]]),some (6,[[sA v2.Name,sA v2.Super,bA v2.Interface,.isl 1 (List.map rStr v2.Impl),.isl 3 (List.map rApiField v2.Fields),.isl 10 (List.map rApiMethod v2.Methods)]])]) (fun b=>[(2,.mpt 0 0 0),(3,.mpt 1 0 0)]) (fun b=>[some (6,[[sA v1.Name,sA v1.Super,bA v1.Interface,.isl 1 (List.map rStr v1.Impl),.isl 3 (List.map rApiField v1.Fields),.isl 10 (List.map rApiMethod v1.Methods)]]),some (6,[[sA v2.Name,sA v2.Super,bA v2.Interface,.isl 1 (List.map rStr v2.Impl),.isl 3 (List.map rApiField v2.Fields),.isl 10 (List.map rApiMethod v2.Methods)]])]) (fun r env st=>PostF Tryz.prog Tryz.f18 0 (bA r) [] env st) ho ⟨[.old 0,.old 1],cv j0 (.mpt j0)<|cv j0 (.mpt j0)<|ce j0 j0<|cn,j0,⟨⟨_,j0,rsOne ⟨ci j0,ci j0,ci j0,ci j0,ci j0,ci j0,j5⟩⟩,⟨_,j0,rsOne ⟨ci j0,ci j0,ci j0,ci j0,ci j0,ci j0,j5⟩⟩,j5⟩,j0,j1⟩ ?_ ?_ ?_
  ·
   rintro v8 r h
   replace h : ref3_EqClass_l1 v1 v2 v8 = some r:=h
   unfold ref3_EqClass_l1 at h
   refine sw_seq ?_
   refine rg j0<|u<|mv j0<|u<|fa ti28 j0 j0 j0<|u<|ld ti25 j0 j0<|u<|lnI ti25 j0 j0<|u<|lss ti3 j0 j0<|r_nil ?_
   refine sw_cond j0 (fun hc15=>?_) (fun hc15=>?_)
   ·
    replace h:=bT hc15 h
    refine sw_skip ?_
    refine sw_seq ?_
    refine sw_block ?_
    obtain ⟨v9,q16,h⟩:=bs h
    obtain ⟨v10,q17,h⟩:=bs h
    refine rd [(2,.mpt 0 0 0),(3,.mpt 1 0 0),(5,iA v8),(6,.mpt 2 0 0),(7,.mpt 3 0 0)] [some (6,[[sA v1.Name,sA v1.Super,bA v1.Interface,.isl 1 (List.map rStr v1.Impl),.isl 3 (List.map rApiField v1.Fields),.isl 10 (List.map rApiMethod v1.Methods)]]),some (6,[[sA v2.Name,sA v2.Super,bA v2.Interface,.isl 1 (List.map rStr v2.Impl),.isl 3 (List.map rApiField v2.Fields),.isl 10 (List.map rApiMethod v2.Methods)]]),some (3,[[sA v9.Name,sA v9.Type_,bA v9.Static]]),some (3,[[sA v10.Name,sA v10.Type_,bA v10.Static]])] [10,11,12,13] [9,8,7,6,5,4,3,2,1,0] [(70,.agg [sA v10.Name,sA v10.Type_,bA v10.Static]),(69,.ipt 3 (List.map rApiField v2.Fields) (Int.toNat v8) 0),(68,iA v8),(67,.isl 3 (List.map rApiField v2.Fields)),(66,.mpt 1 0 4),(65,.agg [sA v9.Name,sA v9.Type_,bA v9.Static]),(64,.ipt 3 (List.map rApiField v1.Fields) (Int.toNat v8) 0),(63,iA v8),(62,.isl 3 (List.map rApiField v1.Fields)),(61,.mpt 0 0 4)] 4 (by kernel_rfl) (by kernel_rfl) j0 (by kernel_rfl) (dtS ⟨(fun _=>pa j0 j0 j0 j0 (ldI ti53 j0 (idx_some q17).2.2 j0<|j4)),(fun _=>pa j0 j0 j0 j0 (ixI ti25 j0 ti53 j0 j0 j0 q17<|j4)),(fun _=>pa j0 j0 j0 j0 (mv j0<|j4)),(fun _=>pa j0 j0 j0 j0 (ld ti25 j0 j0<|j4)),(fun _=>pa j0 j0 j0 j0 (fa ti28 j0 j0 j0<|j4)),(fun _=>pa j0 j0 j0 j0 (ldI ti53 j0 (idx_some q16).2.2 j0<|j4)),(fun _=>pa j0 j0 j0 j0 (ixI ti25 j0 ti53 j0 j0 j0 q16<|j4)),(fun _=>pa j0 j0 j0 j0 (mv j0<|j4)),(fun _=>pa j0 j0 j0 j0 (ld ti25 j0 j0<|j4)),(fun _=>pa j0 j0 j0 j0 (fa ti28 j0 j0 j0<|j4)),j5⟩ (by kernel_rfl) j0 ⟨(fun _ _=>⟨_,j0,j0,al 2 ti53 j0<|⟨(.mpt 2 0 0),[],[(6,.mpt 2 0 0)],j0,j0,by kernel_rfl,j0,dtS ⟨(fun _=>pa j0 j0 j0 j0 (ldI ti53 j0 (idx_some q17).2.2 j0<|j4)),(fun _=>pa j0 j0 j0 j0 (ixI ti25 j0 ti53 j0 j0 j0 q17<|j4)),(fun _=>pa j0 j0 j0 j0 (mv j0<|j4)),(fun _=>pa j0 j0 j0 j0 (ld ti25 j0 j0<|j4)),(fun _=>pa j0 j0 j0 j0 (fa ti28 j0 j0 j0<|j4)),(fun _=>pa j0 j0 j0 j0 (ldI ti53 j0 (idx_some q16).2.2 j0<|j4)),(fun _=>pa j0 j0 j0 j0 (ixI ti25 j0 ti53 j0 j0 j0 q16<|j4)),(fun _=>pa j0 j0 j0 j0 (mv j0<|j4)),(fun _=>pa j0 j0 j0 j0 (ld ti25 j0 j0<|j4)),(fun _=>pa j0 j0 j0 j0 (fa ti28 j0 j0 j0<|j4)),j5⟩ (by kernel_rfl) j0 ⟨(fun h=>by cases h),(fun _ _=>⟨_,j0,j0,al 3 ti53 j0<|⟨(.mpt 3 0 0),[],[(7,.mpt 3 0 0)],j0,j0,by kernel_rfl,j0,dtS ⟨(fun _=>pa j0 j0 j0 j0 (ldI ti53 j0 (idx_some q17).2.2 j0<|j4)),(fun _=>pa j0 j0 j0 j0 (ixI ti25 j0 ti53 j0 j0 j0 q17<|j4)),(fun _=>pa j0 j0 j0 j0 (mv j0<|j4)),(fun _=>pa j0 j0 j0 j0 (ld ti25 j0 j0<|j4)),(fun _=>pa j0 j0 j0 j0 (fa ti28 j0 j0 j0<|j4)),(fun _=>pa j0 j0 j0 j0 (ldI ti53 j0 (idx_some q16).2.2 j0<|j4)),(fun _=>pa j0 j0 j0 j0 (ixI ti25 j0 ti53 j0 j0 j0 q16<|j4)),(fun _=>pa j0 j0 j0 j0 (mv j0<|j4)),(fun _=>pa j0 j0 j0 j0 (ld ti25 j0 j0<|j4)),(fun _=>pa j0 j0 j0 j0 (fa ti28 j0 j0 j0<|j4)),j5⟩ (by kernel_rfl) j0 ⟨(fun h=>by cases h),(fun h=>by cases h),(fun _ _=>⟨_,j0,j0,sto ti53 j0 j0 j0<|⟨.any,[],[],j0,j0,by kernel_rfl,j5,dtS ⟨(fun _=>pa j0 j0 j0 j0 (ldI ti53 j0 (idx_some q17).2.2 j0<|j4)),(fun _=>pa j0 j0 j0 j0 (ixI ti25 j0 ti53 j0 j0 j0 q17<|j4)),(fun _=>pa j0 j0 j0 j0 (mv j0<|j4)),(fun _=>pa j0 j0 j0 j0 (ld ti25 j0 j0<|j4)),(fun _=>pa j0 j0 j0 j0 (fa ti28 j0 j0 j0<|j4)),(fun h=>by cases h),(fun h=>by cases h),(fun h=>by cases h),(fun h=>by cases h),(fun h=>by cases h),j5⟩ (by kernel_rfl) j0 ⟨(fun h=>by cases h),(fun h=>by cases h),(fun h=>by cases h),(fun _ _=>⟨_,j0,j0,sto ti53 j0 j0 j0<|⟨.any,[],[],j0,j0,by kernel_rfl,j5,dt0 ⟨(fun h=>by cases h),(fun h=>by cases h),(fun h=>by cases h),(fun h=>by cases h),(fun h=>by cases h),(fun h=>by cases h),(fun h=>by cases h),(fun h=>by cases h),(fun h=>by cases h),(fun h=>by cases h),j5⟩ (by kernel_rfl) j0 ⟨[.old 0,.old 1,.old 2,.old 3],cv j0 (.mpt j0)<|cv j0 (.mpt j0)<|ce j0 j0<|cv j0 (.mpt j0)<|cv j0 (.mpt j0)<|cn,j0,⟨⟨_,j0,rsOne ⟨ci j0,ci j0,ci j0,ci j0,ci j0,ci j0,j5⟩⟩,⟨_,j0,rsOne ⟨ci j0,ci j0,ci j0,ci j0,ci j0,ci j0,j5⟩⟩,⟨_,j0,rsOne ⟨ci j0,ci j0,ci j0,j5⟩⟩,⟨_,j0,rsOne ⟨ci j0,ci j0,ci j0,j5⟩⟩,j5⟩,j0,j1⟩⟩⟩),j5⟩⟩⟩),(fun _ h=>by cases h),j5⟩⟩⟩),(fun _ h=>by cases h),(fun _ h=>by cases h),j5⟩⟩⟩),(fun _ _=>⟨_,j0,j0,al 2 ti53 j0<|⟨(.mpt 2 0 0),[],[(7,.mpt 2 0 0)],j0,j0,by kernel_rfl,j0,dtS ⟨(fun _=>pa j0 j0 j0 j0 (ldI ti53 j0 (idx_some q17).2.2 j0<|j4)),(fun _=>pa j0 j0 j0 j0 (ixI ti25 j0 ti53 j0 j0 j0 q17<|j4)),(fun _=>pa j0 j0 j0 j0 (mv j0<|j4)),(fun _=>pa j0 j0 j0 j0 (ld ti25 j0 j0<|j4)),(fun _=>pa j0 j0 j0 j0 (fa ti28 j0 j0 j0<|j4)),(fun _=>pa j0 j0 j0 j0 (ldI ti53 j0 (idx_some q16).2.2 j0<|j4)),(fun _=>pa j0 j0 j0 j0 (ixI ti25 j0 ti53 j0 j0 j0 q16<|j4)),(fun _=>pa j0 j0 j0 j0 (mv j0<|j4)),(fun _=>pa j0 j0 j0 j0 (ld ti25 j0 j0<|j4)),(fun _=>pa j0 j0 j0 j0 (fa ti28 j0 j0 j0<|j4)),j5⟩ (by kernel_rfl) j0 ⟨(fun _ _=>⟨_,j0,j0,al 3 ti53 j0<|⟨(.mpt 3 0 0),[],[(6,.mpt 3 0 0)],j0,j0,by kernel_rfl,j0,dtS ⟨(fun _=>pa j0 j0 j0 j0 (ldI ti53 j0 (idx_some q17).2.2 j0<|j4)),(fun _=>pa j0 j0 j0 j0 (ixI ti25 j0 ti53 j0 j0 j0 q17<|j4)),(fun _=>pa j0 j0 j0 j0 (mv j0<|j4)),(fun _=>pa j0 j0 j0 j0 (ld ti25 j0 j0<|j4)),(fun _=>pa j0 j0 j0 j0 (fa ti28 j0 j0 j0<|j4)),(fun _=>pa j0 j0 j0 j0 (ldI ti53 j0 (idx_some q16).2.2 j0<|j4)),(fun _=>pa j0 j0 j0 j0 (ixI ti25 j0 ti53 j0 j0 j0 q16<|j4)),(fun _=>pa j0 j0 j0 j0 (mv j0<|j4)),(fun _=>pa j0 j0 j0 j0 (ld ti25 j0 j0<|j4)),(fun _=>pa j0 j0 j0 j0 (fa ti28 j0 j0 j0<|j4)),j5⟩ (by kernel_rfl) j0 ⟨(fun h=>by cases h),(fun h=>by cases h),(fun _ _=>⟨_,j0,j0,sto ti53 j0 j0 j0<|⟨.any,[],[],j0,j0,by kernel_rfl,j5,dtS ⟨(fun _=>pa j0 j0 j0 j0 (ldI ti53 j0 (idx_some q17).2.2 j0<|j4)),(fun _=>pa j0 j0 j0 j0 (ixI ti25 j0 ti53 j0 j0 j0 q17<|j4)),(fun _=>pa j0 j0 j0 j0 (mv j0<|j4)),(fun _=>pa j0 j0 j0 j0 (ld ti25 j0 j0<|j4)),(fun _=>pa j0 j0 j0 j0 (fa ti28 j0 j0 j0<|j4)),(fun h=>by cases h),(fun h=>by cases h),(fun h=>by cases h),(fun h=>by cases h),(fun h=>by cases h),j5⟩ (by kernel_rfl) j0 ⟨(fun h=>by cases h),(fun h=>by cases h),(fun h=>by cases h),(fun _ _=>⟨_,j0,j0,sto ti53 j0 j0 j0<|⟨.any,[],[],j0,j0,by kernel_rfl,j5,dt0 ⟨(fun h=>by cases h),(fun h=>by cases h),(fun h=>by cases h),(fun h=>by cases h),(fun h=>by cases h),(fun h=>by cases h),(fun h=>by cases h),(fun h=>by cases h),(fun h=>by cases h),(fun h=>by cases h),j5⟩ (by kernel_rfl) j0 ⟨[.old 0,.old 1,.old 3,.old 2],cv j0 (.mpt j0)<|cv j0 (.mpt j0)<|ce j0 j0<|cv j0 (.mpt j0)<|cv j0 (.mpt j0)<|cn,j0,⟨⟨_,j0,rsOne ⟨ci j0,ci j0,ci j0,ci j0,ci j0,ci j0,j5⟩⟩,⟨_,j0,rsOne ⟨ci j0,ci j0,ci j0,ci j0,ci j0,ci j0,j5⟩⟩,⟨_,j0,rsOne ⟨ci j0,ci j0,ci j0,j5⟩⟩,⟨_,j0,rsOne ⟨ci j0,ci j0,ci j0,j5⟩⟩,j5⟩,j0,j1⟩⟩⟩),j5⟩⟩⟩),(fun _ h=>by cases h),j5⟩⟩⟩),(fun h=>by cases h),(fun _ h=>by cases h),(fun _ h=>by cases h),j5⟩⟩⟩),(fun _ h=>by cases h),(fun _ h=>by cases h),j5⟩) ?_
    refine rg j0<|u<|fa ti53 j0 j0 j0<|u<|ld ti9 j0 j0<|u<|fa ti53 j0 j0 j0<|u<|ld ti9 j0 j0<|u<|sne ti9 j0 j0<|u<|mv j0<|r_or (j:=5) 5 j0 j0 j0 j0 j0 gpn (fun hb18=>g j0 hb18<|fa ti53 j0 j0 j0<|g j0 hb18<|ld ti9 j0 j0<|g j0 hb18<|fa ti53 j0 j0 j0<|g j0 hb18<|ld ti9 j0 j0<|g j0 hb18<|sne ti9 j0 j0<|r_nil (egO [77,78,79,80,81] 5 hb18 j0 j0 j0 j0)) orT<|u<|mv j0<|r_or (j:=12) 5 j0 j0 j0 j0 j0 gpn (fun hb19=>g j0 hb19<|fa ti53 j0 j0 j0<|g j0 hb19<|ld ti4 j0 j0<|g j0 hb19<|fa ti53 j0 j0 j0<|g j0 hb19<|ld ti4 j0 j0<|g j0 hb19<|bne ti4 j0 j0 j0<|r_nil (egO [84,85,86,87,88] 5 hb19 j0 j0 j0 j0)) orT<|r_nil ?_
    refine sw_cond j0 (fun hc20=>?_) (fun hc20=>?_)
    ·
     replace h:=bT hc20 h
     refine rg j0<|u<|asg j0<|r_nil ?_
     refine sw_ret ?_
     obtain rfl:=sm h
     exact ⟨_,j0,_,j0,[],ci j0,j0,j5,j0,j1⟩
    ·
     replace h:=bF hc20 h
     refine sw_skip ?_
     refine rl j0<|u<|mv j0<|u<|add ti3 j0 j0<|u<|asg j0<|r_nil ?_
     obtain rfl:=sm h
     exact ⟨_,j0,[.old 0,.old 1],cv j0 (.mpt j0)<|cv j0 (.mpt j0)<|ce j0 j0<|cn,j0,⟨⟨_,j0,rsOne ⟨ci j0,ci j0,ci j0,ci j0,ci j0,ci j0,j5⟩⟩,⟨_,j0,rsOne ⟨ci j0,ci j0,ci j0,ci j0,ci j0,ci j0,j5⟩⟩,j5⟩,j0,j1⟩
   ·
    replace h:=bF hc15 h
    refine sw_exit ?_
    obtain rfl:=sm h
    exact ⟨j0,_,j0,[.old 0,.old 1],cv j0 (.mpt j0)<|cv j0 (.mpt j0)<|cn,j0,⟨⟨_,j0,rsOne ⟨ci j0,ci j0,ci j0,ci j0,ci j0,ci j0,j5⟩⟩,⟨_,j0,rsOne ⟨ci j0,ci j0,ci j0,ci j0,ci j0,ci j0,j5⟩⟩,j5⟩,j0,j1⟩
  ·
   rintro ⟨⟩ rfl
   replace h : ref3_EqClass_k2 v1 v2 = some r:=h
   unfold ref3_EqClass_k2 at h
   refine ow_intro ?_
   refine sw_seq ?_
   refine rg j0<|u<|asg j0<|r_nil ?_
   obtain ⟨o,ho,h⟩:=bs h
   refine sw_lpl (X:=Int) (B:=Unit) (R:=Bool) (fun z=>[(2,.mpt 0 0 0),(3,.mpt 1 0 0),(8,iA z)]) (fun z=>[some (6,[[sA v1.Name,sA v1.Super,bA v1.Interface,.isl 1 (List.map rStr v1.Impl),.isl 3 (List.map rApiField v1.Fields),.isl 10 (List.map rApiMethod v1.Methods)]]),some (6,[[sA v2.Name,sA v2.Super,bA v2.Interface,.isl 1 (List.map rStr v2.Impl),.isl 3 (List.map rApiField v2.Fields),.isl 10 (List.map rApiMethod v2.Methods)]])]) (fun b=>[]) (fun b=>[]) (fun r env st=>PostF Tryz.prog Tryz.f18 0 (bA r) [] env st) ho ⟨[.old 0,.old 1],cv j0 (.mpt j0)<|cv j0 (.mpt j0)<|ce j0 j0<|cn,j0,⟨⟨_,j0,rsOne ⟨ci j0,ci j0,ci j0,ci j0,ci j0,ci j0,j5⟩⟩,⟨_,j0,rsOne ⟨ci j0,ci j0,ci j0,ci j0,ci j0,ci j0,j5⟩⟩,j5⟩,j0,j1⟩ ?_ ?_ ?_
   ·
    rintro v15 r h
    replace h : ref3_EqClass_l3 v1 v2 v15 = some r:=h
    unfold ref3_EqClass_l3 at h
    refine sw_seq ?_
    refine rg j0<|u<|mv j0<|u<|fa ti28 j0 j0 j0<|u<|ld ti26 j0 j0<|u<|lnI ti26 j0 j0<|u<|lss ti3 j0 j0<|r_nil ?_
    refine sw_cond j0 (fun hc26=>?_) (fun hc26=>?_)
    ·
     replace h:=bT hc26 h
     refine sw_skip ?_
     refine sw_seq ?_
     refine sw_block ?_
     obtain ⟨v16,q27,h⟩:=bs h
     obtain ⟨v17,q28,h⟩:=bs h
     obtain ⟨v18,q29,h⟩:=bs h
     refine rd [(2,.mpt 0 0 0),(3,.mpt 1 0 0),(8,iA v15),(108,bA (!v18))] [some (6,[[sA v1.Name,sA v1.Super,bA v1.Interface,.isl 1 (List.map rStr v1.Impl),.isl 3 (List.map rApiField v1.Fields),.isl 10 (List.map rApiMethod v1.Methods)]]),some (6,[[sA v2.Name,sA v2.Super,bA v2.Interface,.isl 1 (List.map rStr v2.Impl),.isl 3 (List.map rApiField v2.Fields),.isl 10 (List.map rApiMethod v2.Methods)]])] [] [11,10,9,8,7,6,5,4,3,2,1,0] [(108,bA (!v18)),(107,bA v18),(106,.agg [sA v17.Name,.isl 1 (List.map rStr v17.Params),sA v17.Ret,bA v17.Static,bA v17.Abstract,iA v17.Locals,iA v17.Stack,.isl 4 (List.map rApiIns v17.Code),.isl 3 (List.map rApiMap v17.Maps),.isl 4 (List.map rApiTrap v17.Traps)]),(105,.ipt 10 (List.map rApiMethod v2.Methods) (Int.toNat v15) 0),(104,iA v15),(103,.isl 10 (List.map rApiMethod v2.Methods)),(102,.mpt 1 0 5),(101,.agg [sA v16.Name,.isl 1 (List.map rStr v16.Params),sA v16.Ret,bA v16.Static,bA v16.Abstract,iA v16.Locals,iA v16.Stack,.isl 4 (List.map rApiIns v16.Code),.isl 3 (List.map rApiMap v16.Maps),.isl 4 (List.map rApiTrap v16.Traps)]),(100,.ipt 10 (List.map rApiMethod v1.Methods) (Int.toNat v15) 0),(99,iA v15),(98,.isl 10 (List.map rApiMethod v1.Methods)),(97,.mpt 0 0 5)] 0 (by kernel_rfl) (by kernel_rfl) j0 (by kernel_rfl) (dt0 ⟨(fun _=>pa j0 j0 j0 j0 (nt j0<|j4)),(fun _=>pa j0 j0 j0 j0 (pc (ref3_eqMethod_ok v16 v17 q29) j0 j0 j0<|j4)),(fun _=>pa j0 j0 j0 j0 (ldI ti35 j0 (idx_some q28).2.2 j0<|j4)),(fun _=>pa j0 j0 j0 j0 (ixI ti26 j0 ti35 j0 j0 j0 q28<|j4)),(fun _=>pa j0 j0 j0 j0 (mv j0<|j4)),(fun _=>pa j0 j0 j0 j0 (ld ti26 j0 j0<|j4)),(fun _=>pa j0 j0 j0 j0 (fa ti28 j0 j0 j0<|j4)),(fun _=>pa j0 j0 j0 j0 (ldI ti35 j0 (idx_some q27).2.2 j0<|j4)),(fun _=>pa j0 j0 j0 j0 (ixI ti26 j0 ti35 j0 j0 j0 q27<|j4)),(fun _=>pa j0 j0 j0 j0 (mv j0<|j4)),(fun _=>pa j0 j0 j0 j0 (ld ti26 j0 j0<|j4)),(fun _=>pa j0 j0 j0 j0 (fa ti28 j0 j0 j0<|j4)),j5⟩ (by kernel_rfl) j0 ⟨[.old 0,.old 1],cv j0 (.mpt j0)<|cv j0 (.mpt j0)<|ce j0 j0<|ce j0 j0<|cn,j0,⟨⟨_,j0,rsOne ⟨ci j0,ci j0,ci j0,ci j0,ci j0,ci j0,j5⟩⟩,⟨_,j0,rsOne ⟨ci j0,ci j0,ci j0,ci j0,ci j0,ci j0,j5⟩⟩,j5⟩,j0,j1⟩) ?_
     refine sw_cond j0 (fun hc30=>?_) (fun hc30=>?_)
     ·
      replace h:=bT hc30 h
      refine rg j0<|u<|asg j0<|r_nil ?_
      refine sw_ret ?_
      obtain rfl:=sm h
      exact ⟨_,j0,_,j0,[],ci j0,j0,j5,j0,j1⟩
     ·
      replace h:=bF hc30 h
      refine sw_skip ?_
      refine rl j0<|u<|mv j0<|u<|add ti3 j0 j0<|u<|asg j0<|r_nil ?_
      obtain rfl:=sm h
      exact ⟨_,j0,[.old 0,.old 1],cv j0 (.mpt j0)<|cv j0 (.mpt j0)<|ce j0 j0<|cn,j0,⟨⟨_,j0,rsOne ⟨ci j0,ci j0,ci j0,ci j0,ci j0,ci j0,j5⟩⟩,⟨_,j0,rsOne ⟨ci j0,ci j0,ci j0,ci j0,ci j0,ci j0,j5⟩⟩,j5⟩,j0,j1⟩
    ·
     replace h:=bF hc26 h
     refine sw_exit ?_
     obtain rfl:=sm h
     exact ⟨j0,_,j0,[],cn,j0,j5,j0,j1⟩
   ·
    rintro ⟨⟩ rfl
    replace h : ref3_EqClass_k4 = some r:=h
    unfold ref3_EqClass_k4 at h
    refine ow_intro ?_
    refine rg j0<|u<|asg j0<|r_nil ?_
    refine sw_ret ?_
    obtain rfl:=sm h
    exact ⟨_,j0,[],ci j0,j0,j5,j0,j1⟩
   ·
    rintro r' rfl env st hp
    obtain rfl:=sm h
    exact hp
  ·
   rintro r' rfl env st hp
   obtain rfl:=sm h
   exact hp
def law5_Begun : Option (Bool) :=
  (law5_begun).bind fun v1=>some v1
theorem law5_Begun_ok {r : Bool} (h : law5_Begun = some r) : PureC Tryz.prog 43 [] (bA r):=by
 refine pure_fn Tryz.func43 j0 (by kernel_rfl) j0 j0 ?_
 unfold law5_Begun at h
 refine rg j0<|u<|asg j0<|r_nil ?_
 obtain ⟨v1,q1,h⟩:=bs h
 refine rg j0<|u<|pc (law5_begun_ok q1) j0 j0 j0<|u<|asg j0<|r_nil ?_
 refine sw_ret ?_
 obtain rfl:=sm h
 exact ⟨_,j0,[],ci j0,j0,j5,j0,j1⟩
def law6_begun : Option (Bool) :=
  (file_Encode (ApiClass.mk [65,98] [79,98,106,101,99,116] false [] ([(ApiField.mk [120] [73] false)]) ([(ApiMethod.mk [109,97,105,110] [] [86] true false 0 0 ([(ApiIns.mk 46 0 [] [])]) [] [])]))).bind fun v1=>(file_Decode v1).bind fun v2=>(file_Decode []).bind fun v3=>(law5_Begun).bind fun v4=>(cond (v4 && (decide (10 < (List.length v1 : Int)))) ((idx v1 0).bind fun v5=>some ((v5.toNat : Int) == (74 : Int))) (some false)).bind fun v6=>(cond (v6 && (v2.2 == (0 : Int))) ((ref3_EqClass (ApiClass.mk [65,98] [79,98,106,101,99,116] false [] ([(ApiField.mk [120] [73] false)]) ([(ApiMethod.mk [109,97,105,110] [] [86] true false 0 0 ([(ApiIns.mk 46 0 [] [])]) [] [])])) v2.1).bind fun v7=>some v7) (some false)).bind fun v8=>(cond (v8 && (v3.2 == (1 : Int))) ((file_Encode (ApiClass.mk [] [] false [] [] [])).bind fun v9=>some (((List.length v9) : Int) == (0 : Int))) (some false)).bind fun v10=>some v10
theorem law6_begun_ok {r : Bool} (h : law6_begun = some r) : PureC Tryz.prog 13 [] (bA r):=by
 refine pure_fn Tryz.func13 j0 (by kernel_rfl) j0 j0 ?_
 unfold law6_begun at h
 refine rg j0<|u<|asg j0<|r_nil ?_
 refine rg j0<|u<|sc [] (law5_One_ok [65,98] j0) j0 j0 j0 j0 ⟨(rnI j0),j5⟩ j5<|u<|al 3 ti28 j0<|u<|sto ti28 j0 j0 j0<|r_nil ?_
 obtain ⟨v1,q1,h⟩:=bs h
 refine rg j0<|u<|ld ti28 j0 j0<|r_can (env0:=[(1,.mpt 0 0 0),(8,.agg [sA [65,98],sA [79,98,106,101,99,116],bA false,.lit (.slice none 0 0),.isl 3 (List.map rApiField ([(ApiField.mk [120] [73] false)])),.isl 10 (List.map rApiMethod ([(ApiMethod.mk [109,97,105,110] [] [86] true false 0 0 ([(ApiIns.mk 46 0 [] [])]) [] [])]))])]) (st0:=[some (6,[[sA [65,98],sA [79,98,106,101,99,116],bA false,.lit (.slice none 0 0),.isl 3 (List.map rApiField ([(ApiField.mk [120] [73] false)])),.isl 10 (List.map rApiMethod ([(ApiMethod.mk [109,97,105,110] [] [86] true false 0 0 ([(ApiIns.mk 46 0 [] [])]) [] [])]))]])]) ⟨[.old 3],cv j0 (.mpt j0)<|cv j0 (rsAgg ⟨(ci j0),(ci j0),(ci j0),(ci j0),(rsSealX j0 j0 ⟨⟨⟨ci j0,ci j0,ci j0,j5⟩,j0⟩,j5⟩),(rsSealX j0 j0 ⟨⟨⟨ci j0,.nil,ci j0,ci j0,ci j0,ci j0,ci j0,rsSealX j0 j0 ⟨⟨⟨ci j0,ci j0,ci j0,ci j0,j5⟩,j0⟩,j5⟩,.nil,.nil,j5⟩,j0⟩,j5⟩),j5⟩)<|cn,j0,⟨⟨_,j0,rsOne ⟨ci j0,ci j0,ci j0,ci j0,rsSealX j0 j0 ⟨⟨⟨ci j0,ci j0,ci j0,j5⟩,j0⟩,j5⟩,rsSealX j0 j0 ⟨⟨⟨ci j0,.nil,ci j0,ci j0,ci j0,ci j0,ci j0,rsSealX j0 j0 ⟨⟨⟨ci j0,ci j0,ci j0,ci j0,j5⟩,j0⟩,j5⟩,.nil,.nil,j5⟩,j0⟩,j5⟩,j5⟩⟩,j5⟩,j0,j1⟩<|u<|sc [] (file_Encode_ok (ApiClass.mk [65,98] [79,98,106,101,99,116] false [] ([(ApiField.mk [120] [73] false)]) ([(ApiMethod.mk [109,97,105,110] [] [86] true false 0 0 ([(ApiIns.mk 46 0 [] [])]) [] [])])) q1) j0 j0 j0 j0 ⟨(rnAgg ⟨(rnI j0),(rnI j0),(rnI j0),(.nilI),(rnI j0),(rnI j0),j5⟩),j5⟩ j5<|r_can (env0:=[(1,.mpt 0 0 0),(9,.msl 1 0 (List.length v1))]) (st0:=[some (6,[[sA [65,98],sA [79,98,106,101,99,116],bA false,.lit (.slice none 0 0),.isl 3 (List.map rApiField ([(ApiField.mk [120] [73] false)])),.isl 10 (List.map rApiMethod ([(ApiMethod.mk [109,97,105,110] [] [86] true false 0 0 ([(ApiIns.mk 46 0 [] [])]) [] [])]))]]),some (1,List.map byteRow v1)]) ⟨[.old 0,.old 1],cv j0 (.mpt j0)<|cv j0 (.msl j0)<|cn,j0,⟨⟨_,j0,rsOne ⟨ci j0,ci j0,ci j0,ci j0,ci j0,ci j0,j5⟩⟩,⟨_,j0,rsMap (fun _=>j0)⟩,j5⟩,j0,j1⟩<|u<|asg j0<|r_nil ?_
 obtain ⟨v2,q2,h⟩:=bs h
 refine rg j0<|u<|mv j0<|r_can (env0:=[(1,.mpt 0 0 0),(2,.isl 1 (List.map byteRow v1)),(11,.isl 1 (List.map byteRow v1))]) (st0:=[some (6,[[sA [65,98],sA [79,98,106,101,99,116],bA false,.lit (.slice none 0 0),.isl 3 (List.map rApiField ([(ApiField.mk [120] [73] false)])),.isl 10 (List.map rApiMethod ([(ApiMethod.mk [109,97,105,110] [] [86] true false 0 0 ([(ApiIns.mk 46 0 [] [])]) [] [])]))]])]) ⟨[.old 0],cv j0 (.mpt j0)<|cv j0 (rsSeal j0 j0 (fun _=>j0))<|cv j0 (rsSeal j0 j0 (fun _=>j0))<|cn,j0,⟨⟨_,j0,rsOne ⟨ci j0,ci j0,ci j0,ci j0,ci j0,ci j0,j5⟩⟩,j5⟩,j0,j1⟩<|u<|pc (file_Decode_ok v1 q2) j0 j0 j0<|u<|mv j0<|u<|ex j0 j0<|u<|ex j0 j0<|u<|al 1 ti28 j0<|u<|sto ti28 j0 j0 j0<|u<|asg j0<|r_nil ?_
 obtain ⟨v3,q3,h⟩:=bs h
 refine rg j0<|u<|pcn (file_Decode_ok [] q3) j0 j0 ⟨(nlN),j5⟩<|u<|mv j0<|u<|ex j0 j0<|u<|ex j0 j0<|u<|al 2 ti28 j0<|u<|sto ti28 j0 j0 j0<|u<|asg j0<|r_nil ?_
 obtain ⟨v4,q4,h⟩:=bs h
 obtain ⟨v6,q8,h⟩:=bs h
 obtain ⟨v8,q12,h⟩:=bs h
 obtain ⟨v10,q16,h⟩:=bs h
 refine rg j0<|u<|pc (law5_Begun_ok q4) j0 j0 j0<|u<|mv j0<|r_and (j:=1) 3 j0 j0 j0 j0 j0 gpn (fun hb5=>g j0 hb5<|mv j0<|g j0 hb5<|lnI ti43 j0 j0<|g j0 hb5<|gtr ti3 j0 j0<|r_nil (egA [21,22,23] 3 hb5 j0 j0 j0 j0)) andF<|u<|mv j0<|r_and (x:=v6) (j:=6) 4 j0 j0 j0 j0 j0 gpn (fun hb6=>by replace q8:=bT hb6 q8; obtain ⟨v5,q7,q8⟩:=bs q8; obtain rfl:=sm q8; exact g j0 hb6<|mv j0<|g j0 hb6<|ixI ti43 j0 ti5 j0 j0 j0 q7<|g j0 hb6<|ldI ti5 j0 (idx_some q7).2.2 j0<|g j0 hb6<|eql ti5 j0 j0<|r_nil (eg [26,27,28,29] 4 j0 j0 j0 j0)) (fun hb=>(sm (bF hb q8)).symm)<|u<|mv j0<|r_and (j:=12) 2 j0 j0 j0 j0 j0 gpn (fun hb9=>g j0 hb9<|mv j0<|g j0 hb9<|eql ti45 j0 j0<|r_nil (egA [32,33] 2 hb9 j0 j0 j0 j0)) andF<|u<|mv j0<|r_and (x:=v8) (j:=16) 3 j0 j0 j0 j0 j0 gpn (fun hb10=>by replace q12:=bT hb10 q12; obtain ⟨v7,q11,q12⟩:=bs q12; obtain rfl:=sm q12; exact g j0 hb10<|ld ti28 j0 j0<|g j0 hb10<|ld ti28 j0 j0<|g j0 hb10<|pcs (ref3_EqClass_ok (ApiClass.mk [65,98] [79,98,106,101,99,116] false [] ([(ApiField.mk [120] [73] false)]) ([(ApiMethod.mk [109,97,105,110] [] [86] true false 0 0 ([(ApiIns.mk 46 0 [] [])]) [] [])])) v2.1 q11) j0 j0 (.cons (sealAgg ⟨(si j0),(si j0),(si j0),(.nil),(si j0),(si j0),j5⟩) (.cons (si j0) .nil)) plainB<|r_nil (eg [36,37,38] 3 j0 j0 j0 j0)) (fun hb=>(sm (bF hb q12)).symm)<|u<|mv j0<|r_and (j:=21) 2 j0 j0 j0 j0 j0 gpn (fun hb13=>g j0 hb13<|mv j0<|g j0 hb13<|eql ti45 j0 j0<|r_nil (egA [41,42] 2 hb13 j0 j0 j0 j0)) andF<|u<|mv j0<|r_andX (x:=v10) (j:=25) 4 1 j0 j0 j0 j0 j0 gpn (fun hb14=>by replace q16:=bT hb14 q16; obtain ⟨v9,q15,q16⟩:=bs q16; obtain rfl:=sm q16; exact g j0 hb14<|bd ti28 j0 j0 j0<|g j0 hb14<|sc [] (file_Encode_ok (ApiClass.mk [] [] false [] [] []) q15) j0 j0 j0 j0 ⟨(rnAgg ⟨(rnI j0),(rnI j0),(rnI j0),(.nilI),(.nilI),(.nilI),j5⟩),j5⟩ j5<|g j0 hb14<|lnM ti43 j0 j0 j0<|g j0 hb14<|eql ti3 j0 j0<|r_nil (xg [45,46,47,48] 4 j0 j0 j0 j0 j0 j0)) (fun hb=>(sm (bF hb q16)).symm)<|u<|asg j0<|r_nil ?_
 refine sw_ret ?_
 obtain rfl:=sm h
 exact ⟨_,j0,[],ci j0,j0,j5,j0,j1⟩
def law6_FileLong_k10 (v41 : List ApiMethod) : Option (Bool) :=
  (file_Encode (ApiClass.mk [65,98] [79,98,106,101,99,116] false [] ([(ApiField.mk [120] [73] false)]) v41)).bind fun v42=>(ref3_Bytes (ApiClass.mk [65,98] [79,98,106,101,99,116] false [] ([(ApiField.mk [120] [73] false)]) v41)).bind fun v43=>cond (decide (6000 < ((List.length v43) : Int))) (some (((List.length v42) : Int) == (0 : Int))) ((file_Decode v42).bind fun v44=>(cond ((v42 == v43) && (v44.2 == (0 : Int))) ((ref3_EqClass (ApiClass.mk [65,98] [79,98,106,101,99,116] false [] ([(ApiField.mk [120] [73] false)]) v41) v44.1).bind fun v45=>some v45) (some false)).bind fun v46=>some v46)
def law6_FileLong_k8 (v23 : List ApiMethod) (v24 : Int) (v32 : List ApiIns) (v39 : List ApiMap) : Option (Sum ((List ApiMethod) × Int) (Sum ((List ApiMethod)) (Bool))) :=
  (appP 152 v23 ([(ApiMethod.mk [(109 : UInt8),(tU8 (IntKind.i64.wrap (48 + v24)))] [] [86] true false 4 2 v32 v39 [])])).bind fun v40=>some (.inl (v40,(IntKind.i64.wrap (v24 + 1))))
def law6_FileLong_l7 (v3 : Int) (v36 : List ApiMap) (v37 : Int) : Option (Sum ((List ApiMap) × Int) (Sum ((List ApiMap)) (Bool))) :=
  cond (decide (v37 < v3)) ((appP 56 v36 ([(ApiMap.mk v37 ([[73],[78],[84],[79,98,106,101,99,116]]) ([[73],[91,73]]))])).bind fun v38=>some (.inl (v38,(IntKind.i64.wrap (v37 + 1))))) (some (.inr (.inl v36)))
def law6_FileLong_k6 (v3 : Int) (v23 : List ApiMethod) (v24 : Int) (v31 : List ApiIns) : Option (Sum ((List ApiMethod) × Int) (Sum ((List ApiMethod)) (Bool))) :=
  (appP 48 v31 ([(ApiIns.mk 46 0 [] [])])).bind fun v32=>(loopP (fun z=>law6_FileLong_l7 v3 z.1 z.2) ([],0)).bind fun o=>leave o (fun b=>law6_FileLong_k8 v23 v24 v32 b) (fun r=>some (.inr (.inr r)))
def law6_FileLong_l5 (v2 : Int) (v28 : List ApiIns) (v29 : Int) : Option (Sum ((List ApiIns) × Int) (Sum ((List ApiIns)) (Bool))) :=
  cond (decide (v29 < (IntKind.i64.wrap (v2 - 1)))) ((appP 48 v28 ([(ApiIns.mk 38 0 [67,100,101,102,103,104,105,106] [107,108,109,110,111,112,113,114])])).bind fun v30=>some (.inl (v30,(IntKind.i64.wrap (v29 + 1))))) (some (.inr (.inl v28)))
def law6_FileLong_l9 (v1 : Int) (v2 : Int) (v3 : Int) (v23 : List ApiMethod) (v24 : Int) : Option (Sum ((List ApiMethod) × Int) (Sum ((List ApiMethod)) (Bool))) :=
  cond (decide (v24 < v1)) ((loopP (fun z=>law6_FileLong_l5 v2 z.1 z.2) ([],0)).bind fun o=>leave o (fun b=>law6_FileLong_k6 v3 v23 v24 b) (fun r=>some (.inr (.inr r)))) (some (.inr (.inl v23)))
def law6_FileLong (v1 : Int) (v2 : Int) (v3 : Int) : Option (Bool) :=
  (law6_begun).bind fun v4=>cond (!v4) (some false) (cond ((((((decide (v1 < 1)) || (decide (8 < v1))) || (decide (v2 < 1))) || (decide (100 < v2))) || (decide (v3 < 0))) || (decide (v2 < v3))) (some true) ((loopP (fun z=>law6_FileLong_l9 v1 v2 v3 z.1 z.2) ([],0)).bind fun o=>leave o (fun b=>law6_FileLong_k10 b) some))
theorem law6_FileLong_ok (v1 : Int) (v2 : Int) (v3 : Int) {r : Bool} (h : law6_FileLong v1 v2 v3 = some r) : PureC Tryz.prog 7 [iA v1,iA v2,iA v3] (bA r):=by
 refine pure_fn Tryz.func7 j0 (by kernel_rfl) j0 j0 ?_
 unfold law6_FileLong at h
 refine rg j0<|u<|asg j0<|r_nil ?_
 obtain ⟨v4,q1,h⟩:=bs h
 refine rg j0<|u<|pc (law6_begun_ok q1) j0 j0 j0<|u<|asg j0<|r_nil ?_
 refine sw_seq ?_
 refine rg j0<|u<|mv j0<|u<|nt j0<|r_nil ?_
 refine sw_cond j0 (fun hc2=>?_) (fun hc2=>?_)
 ·
  replace h:=bT hc2 h
  refine rg j0<|u<|asg j0<|r_nil ?_
  refine sw_ret ?_
  obtain rfl:=sm h
  exact ⟨_,j0,[],ci j0,j0,j5,j0,j1⟩
 ·
  replace h:=bF hc2 h
  refine sw_skip ?_
  refine sw_seq ?_
  refine rg j0<|u<|mv j0<|u<|lss ti3 j0 j0<|u<|mv j0<|r_or (j:=2) 2 j0 j0 j0 j0 j0 gpn (fun hb3=>g j0 hb3<|mv j0<|g j0 hb3<|gtr ti3 j0 j0<|r_nil (egO [23,24] 2 hb3 j0 j0 j0 j0)) orT<|u<|mv j0<|r_or (j:=6) 2 j0 j0 j0 j0 j0 gpn (fun hb4=>g j0 hb4<|mv j0<|g j0 hb4<|lss ti3 j0 j0<|r_nil (egO [27,28] 2 hb4 j0 j0 j0 j0)) orT<|u<|mv j0<|r_or (j:=10) 2 j0 j0 j0 j0 j0 gpn (fun hb5=>g j0 hb5<|mv j0<|g j0 hb5<|gtr ti3 j0 j0<|r_nil (egO [31,32] 2 hb5 j0 j0 j0 j0)) orT<|u<|mv j0<|r_or (j:=14) 2 j0 j0 j0 j0 j0 gpn (fun hb6=>g j0 hb6<|mv j0<|g j0 hb6<|lss ti3 j0 j0<|r_nil (egO [35,36] 2 hb6 j0 j0 j0 j0)) orT<|u<|mv j0<|r_or (j:=18) 3 j0 j0 j0 j0 j0 gpn (fun hb7=>g j0 hb7<|mv j0<|g j0 hb7<|mv j0<|g j0 hb7<|gtr ti3 j0 j0<|r_nil (egO [39,40,41] 3 hb7 j0 j0 j0 j0)) orT<|r_nil ?_
  refine sw_cond j0 (fun hc8=>?_) (fun hc8=>?_)
  ·
   replace h:=bT hc8 h
   refine rg j0<|u<|asg j0<|r_nil ?_
   refine sw_ret ?_
   obtain rfl:=sm h
   exact ⟨_,j0,[],ci j0,j0,j5,j0,j1⟩
  ·
   replace h:=bF hc8 h
   refine sw_skip ?_
   refine rg j0<|u<|sc [] (law5_One_ok [65,98] j0) j0 j0 j0 j0 ⟨(rnI j0),j5⟩ j5<|u<|al 3 ti28 j0<|u<|sto ti28 j0 j0 j0<|r_nil ?_
   refine rg j0<|u<|fa ti28 j0 j0 j0<|u<|sto ti26 j0 j0 j0<|r_nil ?_
   refine sw_seq ?_
   refine rg j0<|u<|asg j0<|r_nil ?_
   obtain ⟨o,ho,h⟩:=bs h
   refine sw_lpl (X:=(List ApiMethod) × Int) (B:=(List ApiMethod)) (R:=Bool) (fun z=>[(0,iA v1),(1,iA v2),(2,iA v3),(8,.mpt 0 0 0),(9,iA z.2)]) (fun z=>[some (6,[[sA [65,98],sA [79,98,106,101,99,116],bA false,.lit (.slice none 0 0),.msl 1 0 (List.length ([(ApiField.mk [120] [73] false)])),.msl 2 0 (List.length z.1)]]),some (3,List.map rApiField ([(ApiField.mk [120] [73] false)])),some (10,List.map rApiMethod z.1)]) (fun b=>[(8,.mpt 0 0 0)]) (fun b=>[some (6,[[sA [65,98],sA [79,98,106,101,99,116],bA false,.lit (.slice none 0 0),.msl 1 0 (List.length ([(ApiField.mk [120] [73] false)])),.msl 2 0 (List.length b)]]),some (3,List.map rApiField ([(ApiField.mk [120] [73] false)])),some (10,List.map rApiMethod b)]) (fun r env st=>PostF Tryz.prog Tryz.f7 0 (bA r) [] env st) ho ⟨[.old 3,.old 0,.fresh 10],ce j0 j0<|ce j0 j0<|ce j0 j0<|cv j0 (.mpt j0)<|ce j0 j0<|cn,j0,⟨⟨_,j0,rsOne ⟨ci j0,ci j0,ci j0,ci j0,.msl j0,.nilown j0,j5⟩⟩,⟨_,j0,rsMap (fun _=>j0)⟩,j4,j5⟩,j0,j1⟩ ?_ ?_ ?_
   ·
    rintro ⟨v23,v24⟩ r h
    replace h : law6_FileLong_l9 v1 v2 v3 v23 v24 = some r:=h
    unfold law6_FileLong_l9 at h
    refine sw_seq ?_
    refine rg j0<|u<|mv j0<|u<|mv j0<|u<|lss ti3 j0 j0<|r_nil ?_
    refine sw_cond j0 (fun hc20=>?_) (fun hc20=>?_)
    ·
     replace h:=bT hc20 h
     refine sw_skip ?_
     refine sw_seq ?_
     refine sw_block ?_
     refine rg j0<|u<|mv j0<|u<|add ti3 j0 j0<|u<|cv8 ti3 ti5 j0 j0 j0<|u<|bl 3 ti43 j0 ti5 j0 (by decide) (by decide) j0 j0 j0<|u<|cvt (l:=[(109 : UInt8),(tU8 (IntKind.i64.wrap (48 + v24)))]) ti43 ti9 j0 j0 ti5 j0 j0 (fun _ h=>by cases h) (roX (f:=byteRow) (z:=[(109 : UInt8),(tU8 (IntKind.i64.wrap (48 + v24)))]) j0 j0)<|u<|bd ti35 j0 j0 j0<|u<|al 4 ti35 j0<|u<|sto ti35 j0 j0 j0<|r_nil ?_
     refine sw_seq ?_
     refine rg j0<|u<|asg j0<|r_nil ?_
     obtain ⟨o,ho,h⟩:=bs h
     refine sw_lpl (X:=(List ApiIns) × Int) (B:=(List ApiIns)) (R:=Bool) (fun z=>[(0,iA v1),(1,iA v2),(2,iA v3),(8,.mpt 0 0 0),(9,iA v24),(10,.mpt 3 0 0),(11,iA z.2)]) (fun z=>[some (6,[[sA [65,98],sA [79,98,106,101,99,116],bA false,.lit (.slice none 0 0),.msl 1 0 (List.length ([(ApiField.mk [120] [73] false)])),.msl 2 0 (List.length v23)]]),some (3,List.map rApiField ([(ApiField.mk [120] [73] false)])),some (10,List.map rApiMethod v23),some (10,[[sA [(109 : UInt8),(tU8 (IntKind.i64.wrap (48 + v24)))],.lit (.slice none 0 0),sA [86],bA true,bA false,iA 4,iA 2,.msl 4 0 (List.length z.1),.lit (.slice none 0 0),.lit (.slice none 0 0)]]),some (4,List.map rApiIns z.1)]) (fun b=>[(0,iA v1),(1,iA v2),(2,iA v3),(8,.mpt 0 0 0),(9,iA v24),(10,.mpt 3 0 0)]) (fun b=>[some (6,[[sA [65,98],sA [79,98,106,101,99,116],bA false,.lit (.slice none 0 0),.msl 1 0 (List.length ([(ApiField.mk [120] [73] false)])),.msl 2 0 (List.length v23)]]),some (3,List.map rApiField ([(ApiField.mk [120] [73] false)])),some (10,List.map rApiMethod v23),some (10,[[sA [(109 : UInt8),(tU8 (IntKind.i64.wrap (48 + v24)))],.lit (.slice none 0 0),sA [86],bA true,bA false,iA 4,iA 2,.msl 4 0 (List.length b),.lit (.slice none 0 0),.lit (.slice none 0 0)]]),some (4,List.map rApiIns b)]) (fun r env st=>PostF Tryz.prog Tryz.f7 0 (bA r) [] env st) ho ⟨[.old 0,.old 1,.old 2,.old 4,.fresh 4],ce j0 j0<|ce j0 j0<|ce j0 j0<|cv j0 (.mpt j0)<|ce j0 j0<|cv j0 (.mpt j0)<|ce j0 j0<|cn,j0,⟨⟨_,j0,rsOne ⟨ci j0,ci j0,ci j0,ci j0,.msl j0,.msl j0,j5⟩⟩,⟨_,j0,rsMap (fun _=>j0)⟩,⟨_,j0,rsMap (fun _=>j0)⟩,⟨_,j0,rsOne ⟨ci j0,ci j0,ci j0,ci j0,ci j0,ci j0,ci j0,.nilown j0,ci j0,ci j0,j5⟩⟩,j4,j5⟩,j0,j1⟩ ?_ ?_ ?_
     ·
      rintro ⟨v28,v29⟩ r h
      replace h : law6_FileLong_l5 v2 v28 v29 = some r:=h
      unfold law6_FileLong_l5 at h
      refine sw_seq ?_
      refine rg j0<|u<|mv j0<|u<|mv j0<|u<|sub ti3 j0 j0<|u<|lss ti3 j0 j0<|r_nil ?_
      refine sw_cond j0 (fun hc23=>?_) (fun hc23=>?_)
      ·
       replace h:=bT hc23 h
       refine sw_skip ?_
       refine sw_seq ?_
       refine sw_block ?_
       obtain ⟨v30,q24,h⟩:=bs h
       refine rl j0<|u<|fa ti35 j0 j0 j0<|u<|ld ti31 j0 j0<|u<|bd ti37 j0 j0 j0<|u<|bl 5 ti31 j0 ti37 j0 (by decide) (by decide) j0 j0 j0<|u<|apM 6 ti31 j0 ti37 j0 j0 (by decide) ti31 j0 j0 j0 j0 (roX (f:=rApiIns) (z:=[(ApiIns.mk 38 0 [67,100,101,102,103,104,105,106] [107,108,109,110,111,112,113,114])]) j0 j0) (fun _=>j0) j0 q24<|u<|fa ti35 j0 j0 j0<|u<|sto ti31 j0 j0 j0<|r_nil ?_
       refine rl j0<|u<|mv j0<|u<|add ti3 j0 j0<|u<|asg j0<|r_nil ?_
       obtain rfl:=sm h
       exact ⟨_,j0,[.old 0,.old 1,.old 2,.old 3,.old 6],ce j0 j0<|ce j0 j0<|ce j0 j0<|cv j0 (.mpt j0)<|ce j0 j0<|cv j0 (.mpt j0)<|ce j0 j0<|cn,j0,⟨⟨_,j0,rsOne ⟨ci j0,ci j0,ci j0,ci j0,.msl j0,.msl j0,j5⟩⟩,⟨_,j0,rsMap (fun _=>j0)⟩,⟨_,j0,rsMap (fun _=>j0)⟩,⟨_,j0,rsOne ⟨ci j0,ci j0,ci j0,ci j0,ci j0,ci j0,ci j0,.msl j0,ci j0,ci j0,j5⟩⟩,⟨_,j0,rsMap (fun _=>j0)⟩,j5⟩,j0,j1⟩
      ·
       replace h:=bF hc23 h
       refine sw_exit ?_
       obtain rfl:=sm h
       exact ⟨j0,_,j0,[.old 0,.old 1,.old 2,.old 3,.old 4],ce j0 j0<|ce j0 j0<|ce j0 j0<|cv j0 (.mpt j0)<|ce j0 j0<|cv j0 (.mpt j0)<|cn,j0,⟨⟨_,j0,rsOne ⟨ci j0,ci j0,ci j0,ci j0,.msl j0,.msl j0,j5⟩⟩,⟨_,j0,rsMap (fun _=>j0)⟩,⟨_,j0,rsMap (fun _=>j0)⟩,⟨_,j0,rsOne ⟨ci j0,ci j0,ci j0,ci j0,ci j0,ci j0,ci j0,.msl j0,ci j0,ci j0,j5⟩⟩,⟨_,j0,rsMap (fun _=>j0)⟩,j5⟩,j0,j1⟩
     ·
      rintro v31 rfl
      replace h : law6_FileLong_k6 v3 v23 v24 v31 = some r:=h
      unfold law6_FileLong_k6 at h
      refine ow_intro ?_
      obtain ⟨v32,q25,h⟩:=bs h
      refine rg j0<|u<|fa ti35 j0 j0 j0<|u<|ld ti31 j0 j0<|u<|bd ti37 j0 j0 j0<|u<|bl 5 ti31 j0 ti37 j0 (by decide) (by decide) j0 j0 j0<|u<|apM 6 ti31 j0 ti37 j0 j0 (by decide) ti31 j0 j0 j0 j0 (roX (f:=rApiIns) (z:=[(ApiIns.mk 46 0 [] [])]) j0 j0) (fun _=>j0) j0 q25<|u<|fa ti35 j0 j0 j0<|u<|sto ti31 j0 j0 j0<|r_nil ?_
      refine sw_seq ?_
      refine rg j0<|u<|asg j0<|r_nil ?_
      obtain ⟨o,ho,h⟩:=bs h
      refine sw_lpl (X:=(List ApiMap) × Int) (B:=(List ApiMap)) (R:=Bool) (fun z=>[(0,iA v1),(1,iA v2),(2,iA v3),(8,.mpt 0 0 0),(9,iA v24),(10,.mpt 3 0 0),(12,iA z.2)]) (fun z=>[some (6,[[sA [65,98],sA [79,98,106,101,99,116],bA false,.lit (.slice none 0 0),.msl 1 0 (List.length ([(ApiField.mk [120] [73] false)])),.msl 2 0 (List.length v23)]]),some (3,List.map rApiField ([(ApiField.mk [120] [73] false)])),some (10,List.map rApiMethod v23),some (10,[[sA [(109 : UInt8),(tU8 (IntKind.i64.wrap (48 + v24)))],.lit (.slice none 0 0),sA [86],bA true,bA false,iA 4,iA 2,.msl 4 0 (List.length v32),.msl 5 0 (List.length z.1),.lit (.slice none 0 0)]]),some (4,List.map rApiIns v32),some (3,List.map rApiMap z.1)]) (fun b=>[(0,iA v1),(1,iA v2),(2,iA v3),(8,.mpt 0 0 0),(9,iA v24),(10,.mpt 3 0 0)]) (fun b=>[some (6,[[sA [65,98],sA [79,98,106,101,99,116],bA false,.lit (.slice none 0 0),.msl 1 0 (List.length ([(ApiField.mk [120] [73] false)])),.msl 2 0 (List.length v23)]]),some (3,List.map rApiField ([(ApiField.mk [120] [73] false)])),some (10,List.map rApiMethod v23),some (10,[[sA [(109 : UInt8),(tU8 (IntKind.i64.wrap (48 + v24)))],.lit (.slice none 0 0),sA [86],bA true,bA false,iA 4,iA 2,.msl 4 0 (List.length v32),.msl 5 0 (List.length b),.lit (.slice none 0 0)]]),some (4,List.map rApiIns v32),some (3,List.map rApiMap b)]) (fun r env st=>PostF Tryz.prog Tryz.f7 0 (bA r) [] env st) ho ⟨[.old 0,.old 1,.old 2,.old 3,.old 6,.fresh 3],ce j0 j0<|ce j0 j0<|ce j0 j0<|cv j0 (.mpt j0)<|ce j0 j0<|cv j0 (.mpt j0)<|ce j0 j0<|cn,j0,⟨⟨_,j0,rsOne ⟨ci j0,ci j0,ci j0,ci j0,.msl j0,.msl j0,j5⟩⟩,⟨_,j0,rsMap (fun _=>j0)⟩,⟨_,j0,rsMap (fun _=>j0)⟩,⟨_,j0,rsOne ⟨ci j0,ci j0,ci j0,ci j0,ci j0,ci j0,ci j0,.msl j0,.nilown j0,ci j0,j5⟩⟩,⟨_,j0,rsMap (fun _=>j0)⟩,j4,j5⟩,j0,j1⟩ ?_ ?_ ?_
      ·
       rintro ⟨v36,v37⟩ r h
       replace h : law6_FileLong_l7 v3 v36 v37 = some r:=h
       unfold law6_FileLong_l7 at h
       refine sw_seq ?_
       refine rg j0<|u<|mv j0<|u<|mv j0<|u<|lss ti3 j0 j0<|r_nil ?_
       refine sw_cond j0 (fun hc28=>?_) (fun hc28=>?_)
       ·
        replace h:=bT hc28 h
        refine sw_skip ?_
        refine sw_seq ?_
        refine sw_block ?_
        obtain ⟨v38,q29,h⟩:=bs h
        refine rl j0<|u<|fa ti35 j0 j0 j0<|u<|ld ti32 j0 j0<|u<|mv j0<|u<|bl 6 ti24 j0 ti9 j0 (by decide) (by decide) j0 j0 j0<|u<|bl 7 ti24 j0 ti9 j0 (by decide) (by decide) j0 j0 j0<|u<|bd ti39 j0 j0 j0<|u<|bl 8 ti32 j0 ti39 j0 (by decide) (by decide) j0 j0 j0<|r_can (env0:=[(0,iA v1),(1,iA v2),(2,iA v3),(8,.mpt 0 0 0),(9,iA v24),(10,.mpt 3 0 0),(12,iA v37),(80,.msl 5 0 (List.length v36)),(85,.msl 6 0 (List.length ([(ApiMap.mk v37 ([[73],[78],[84],[79,98,106,101,99,116]]) ([[73],[91,73]]))])))]) (st0:=[some (6,[[sA [65,98],sA [79,98,106,101,99,116],bA false,.lit (.slice none 0 0),.msl 1 0 (List.length ([(ApiField.mk [120] [73] false)])),.msl 2 0 (List.length v23)]]),some (3,List.map rApiField ([(ApiField.mk [120] [73] false)])),some (10,List.map rApiMethod v23),some (10,[[sA [(109 : UInt8),(tU8 (IntKind.i64.wrap (48 + v24)))],.lit (.slice none 0 0),sA [86],bA true,bA false,iA 4,iA 2,.msl 4 0 (List.length v32),.msl 5 0 (List.length v36),.lit (.slice none 0 0)]]),some (4,List.map rApiIns v32),some (3,List.map rApiMap v36),some (3,List.map rApiMap ([(ApiMap.mk v37 ([[73],[78],[84],[79,98,106,101,99,116]]) ([[73],[91,73]]))]))]) ⟨[.old 0,.old 1,.old 2,.old 3,.old 4,.old 5,.old 8],ce j0 j0<|ce j0 j0<|ce j0 j0<|cv j0 (.mpt j0)<|ce j0 j0<|cv j0 (.mpt j0)<|ce j0 j0<|cv j0 (.msl j0)<|cv j0 (.msl j0)<|cn,j0,⟨⟨_,j0,rsOne ⟨ci j0,ci j0,ci j0,ci j0,.msl j0,.msl j0,j5⟩⟩,⟨_,j0,rsMap (fun _=>j0)⟩,⟨_,j0,rsMap (fun _=>j0)⟩,⟨_,j0,rsOne ⟨ci j0,ci j0,ci j0,ci j0,ci j0,ci j0,ci j0,.msl j0,.msl j0,ci j0,j5⟩⟩,⟨_,j0,rsMap (fun _=>j0)⟩,⟨_,j0,rsMap (fun _=>j0)⟩,⟨_,j0,rsRows ⟨⟨(ci j0),(rsSealX j0 j0 ⟨⟨⟨ci j0,j5⟩,j0⟩,⟨⟨ci j0,j5⟩,j0⟩,⟨⟨ci j0,j5⟩,j0⟩,⟨⟨ci j0,j5⟩,j0⟩,j5⟩),(rsSealX j0 j0 ⟨⟨⟨ci j0,j5⟩,j0⟩,⟨⟨ci j0,j5⟩,j0⟩,j5⟩),j5⟩,j5⟩⟩,j5⟩,j0,j1⟩<|u<|apM 7 ti32 j0 ti39 j0 j0 (by decide) ti32 j0 j0 j0 j0 (roM j0) (fun _=>j0) j0 q29<|u<|fa ti35 j0 j0 j0<|u<|sto ti32 j0 j0 j0<|r_nil ?_
        refine rl j0<|u<|mv j0<|u<|add ti3 j0 j0<|u<|asg j0<|r_nil ?_
        obtain rfl:=sm h
        exact ⟨_,j0,[.old 0,.old 1,.old 2,.old 3,.old 4,.old 7],ce j0 j0<|ce j0 j0<|ce j0 j0<|cv j0 (.mpt j0)<|ce j0 j0<|cv j0 (.mpt j0)<|ce j0 j0<|cn,j0,⟨⟨_,j0,rsOne ⟨ci j0,ci j0,ci j0,ci j0,.msl j0,.msl j0,j5⟩⟩,⟨_,j0,rsMap (fun _=>j0)⟩,⟨_,j0,rsMap (fun _=>j0)⟩,⟨_,j0,rsOne ⟨ci j0,ci j0,ci j0,ci j0,ci j0,ci j0,ci j0,.msl j0,.msl j0,ci j0,j5⟩⟩,⟨_,j0,rsMap (fun _=>j0)⟩,⟨_,j0,rsMap (fun _=>j0)⟩,j5⟩,j0,j1⟩
       ·
        replace h:=bF hc28 h
        refine sw_exit ?_
        obtain rfl:=sm h
        exact ⟨j0,_,j0,[.old 0,.old 1,.old 2,.old 3,.old 4,.old 5],ce j0 j0<|ce j0 j0<|ce j0 j0<|cv j0 (.mpt j0)<|ce j0 j0<|cv j0 (.mpt j0)<|cn,j0,⟨⟨_,j0,rsOne ⟨ci j0,ci j0,ci j0,ci j0,.msl j0,.msl j0,j5⟩⟩,⟨_,j0,rsMap (fun _=>j0)⟩,⟨_,j0,rsMap (fun _=>j0)⟩,⟨_,j0,rsOne ⟨ci j0,ci j0,ci j0,ci j0,ci j0,ci j0,ci j0,.msl j0,.msl j0,ci j0,j5⟩⟩,⟨_,j0,rsMap (fun _=>j0)⟩,⟨_,j0,rsMap (fun _=>j0)⟩,j5⟩,j0,j1⟩
      ·
       rintro v39 rfl
       replace h : law6_FileLong_k8 v23 v24 v32 v39 = some r:=h
       unfold law6_FileLong_k8 at h
       refine ow_intro ?_
       obtain ⟨v40,q30,h⟩:=bs h
       refine rl j0<|u<|fa ti28 j0 j0 j0<|u<|ld ti26 j0 j0<|u<|ld ti35 j0 j0<|u<|bl 6 ti26 j0 ti35 j0 (by decide) (by decide) j0 j0 j0<|r_can (env0:=[(0,iA v1),(1,iA v2),(2,iA v3),(8,.mpt 0 0 0),(9,iA v24),(89,.msl 2 0 (List.length v23)),(91,.msl 3 0 (List.length ([(ApiMethod.mk [(109 : UInt8),(tU8 (IntKind.i64.wrap (48 + v24)))] [] [86] true false 4 2 v32 v39 [])])))]) (st0:=[some (6,[[sA [65,98],sA [79,98,106,101,99,116],bA false,.lit (.slice none 0 0),.msl 1 0 (List.length ([(ApiField.mk [120] [73] false)])),.msl 2 0 (List.length v23)]]),some (3,List.map rApiField ([(ApiField.mk [120] [73] false)])),some (10,List.map rApiMethod v23),some (10,List.map rApiMethod ([(ApiMethod.mk [(109 : UInt8),(tU8 (IntKind.i64.wrap (48 + v24)))] [] [86] true false 4 2 v32 v39 [])]))]) ⟨[.old 0,.old 1,.old 2,.old 6],ce j0 j0<|ce j0 j0<|ce j0 j0<|cv j0 (.mpt j0)<|ce j0 j0<|cv j0 (.msl j0)<|cv j0 (.msl j0)<|cn,j0,⟨⟨_,j0,rsOne ⟨ci j0,ci j0,ci j0,ci j0,.msl j0,.msl j0,j5⟩⟩,⟨_,j0,rsMap (fun _=>j0)⟩,⟨_,j0,rsMap (fun _=>j0)⟩,⟨_,j0,rsRows ⟨⟨(ci j0),(.nil),(ci j0),(ci j0),(ci j0),(ci j0),(ci j0),(rsSeal j0 j0 (fun _=>j0)),(rsSeal j0 j0 (fun _=>j0)),(.nil),j5⟩,j5⟩⟩,j5⟩,j0,j1⟩<|u<|apM 4 ti26 j0 ti35 j0 j0 (by decide) ti26 j0 j0 j0 j0 (roM j0) (fun _=>j0) j0 q30<|u<|fa ti28 j0 j0 j0<|u<|sto ti26 j0 j0 j0<|r_nil ?_
       refine rl j0<|u<|mv j0<|u<|add ti3 j0 j0<|u<|asg j0<|r_nil ?_
       obtain rfl:=sm h
       exact ⟨_,j0,[.old 0,.old 1,.old 4],ce j0 j0<|ce j0 j0<|ce j0 j0<|cv j0 (.mpt j0)<|ce j0 j0<|cn,j0,⟨⟨_,j0,rsOne ⟨ci j0,ci j0,ci j0,ci j0,.msl j0,.msl j0,j5⟩⟩,⟨_,j0,rsMap (fun _=>j0)⟩,⟨_,j0,rsMap (fun _=>j0)⟩,j5⟩,j0,j1⟩
      ·
       rintro r' rfl env st hp
       obtain rfl:=sm h
       exact ⟨_,j0,hp⟩
     ·
      rintro r' rfl env st hp
      obtain rfl:=sm h
      exact ⟨_,j0,hp⟩
    ·
     replace h:=bF hc20 h
     refine sw_exit ?_
     obtain rfl:=sm h
     exact ⟨j0,_,j0,[.old 0,.old 1,.old 2],cv j0 (.mpt j0)<|cn,j0,⟨⟨_,j0,rsOne ⟨ci j0,ci j0,ci j0,ci j0,.msl j0,.msl j0,j5⟩⟩,⟨_,j0,rsMap (fun _=>j0)⟩,⟨_,j0,rsMap (fun _=>j0)⟩,j5⟩,j0,j1⟩
   ·
    rintro v41 rfl
    replace h : law6_FileLong_k10 v41 = some r:=h
    unfold law6_FileLong_k10 at h
    refine ow_intro ?_
    refine sw_can (env0:=[(8,.mpt 0 0 0)]) (st0:=[some (6,[[sA [65,98],sA [79,98,106,101,99,116],bA false,.lit (.slice none 0 0),.isl 3 (List.map rApiField ([(ApiField.mk [120] [73] false)])),.isl 10 (List.map rApiMethod v41)]])]) ⟨[.old 0],cv j0 (.mpt j0)<|cn,j0,⟨⟨_,j0,rsOne ⟨ci j0,ci j0,ci j0,ci j0,rsSeal j0 j0 (fun _=>j0),rsSeal j0 j0 (fun _=>j0),j5⟩⟩,j5⟩,j0,j1⟩ ?_
    obtain ⟨v42,q31,h⟩:=bs h
    obtain ⟨v43,q32,h⟩:=bs h
    refine rd [(8,.mpt 0 0 0),(13,.msl 1 0 (List.length v42)),(14,.msl 2 0 (List.length v43))] [some (6,[[sA [65,98],sA [79,98,106,101,99,116],bA false,.lit (.slice none 0 0),.isl 3 (List.map rApiField ([(ApiField.mk [120] [73] false)])),.isl 10 (List.map rApiMethod v41)]]),some (1,List.map byteRow v42),some (1,List.map byteRow v43)] [1,3] [2,0] [(96,.agg [sA [65,98],sA [79,98,106,101,99,116],bA false,.lit (.slice none 0 0),.isl 3 (List.map rApiField ([(ApiField.mk [120] [73] false)])),.isl 10 (List.map rApiMethod v41)]),(94,.agg [sA [65,98],sA [79,98,106,101,99,116],bA false,.lit (.slice none 0 0),.isl 3 (List.map rApiField ([(ApiField.mk [120] [73] false)])),.isl 10 (List.map rApiMethod v41)])] 2 (by kernel_rfl) (by kernel_rfl) j0 (by kernel_rfl) (dtS ⟨(fun _=>pa j0 j0 j0 j0 (ld ti28 j0 j0<|j4)),(fun _=>pa j0 j0 j0 j0 (ld ti28 j0 j0<|j4)),j5⟩ (by kernel_rfl) j0 ⟨(fun _ _=>⟨_,j0,j0,sc [] (file_Encode_ok (ApiClass.mk [65,98] [79,98,106,101,99,116] false [] ([(ApiField.mk [120] [73] false)]) v41) q31) j0 j0 j0 j0 ⟨(rnAgg ⟨(rnI j0),(rnI j0),(rnI j0),(.nilI),(rnI j0),(rnI j0),j5⟩),j5⟩ j5<|⟨(.msl 1 0 (List.length v42)),[],[(95,.msl 1 0 (List.length v42))],j0,j0,by kernel_rfl,j0,dtS ⟨(fun _=>pa j0 j0 j0 j0 (ld ti28 j0 j0<|j4)),(fun h=>by cases h),j5⟩ (by kernel_rfl) j0 ⟨(fun h=>by cases h),(fun _ _=>⟨_,j0,j0,sc [] (ref3_Bytes_ok (ApiClass.mk [65,98] [79,98,106,101,99,116] false [] ([(ApiField.mk [120] [73] false)]) v41) q32) j0 j0 j0 j0 ⟨(rnAgg ⟨(rnI j0),(rnI j0),(rnI j0),(.nilI),(rnI j0),(rnI j0),j5⟩),j5⟩ j5<|⟨(.msl 2 0 (List.length v43)),[5,4],[(14,.msl 2 0 (List.length v43)),(13,.msl 1 0 (List.length v42)),(97,.msl 2 0 (List.length v43))],j0,j0,by kernel_rfl,j0,dt0 ⟨(fun _=>pa j0 j0 j0 j0 (asg j0<|j4)),(fun _=>pa j0 j0 j0 j0 (asg j0<|j4)),(fun h=>by cases h),(fun h=>by cases h),j5⟩ (by kernel_rfl) j0 ⟨[.old 0,.old 1,.old 2],cv j0 (.mpt j0)<|cv j0 (.msl j0)<|cv j0 (.msl j0)<|cn,j0,⟨⟨_,j0,rsOne ⟨ci j0,ci j0,ci j0,ci j0,ci j0,ci j0,j5⟩⟩,⟨_,j0,rsMap (fun _=>j0)⟩,⟨_,j0,rsMap (fun _=>j0)⟩,j5⟩,j0,j1⟩⟩⟩),j5⟩⟩⟩),(fun _ h=>by cases h),j5⟩) ?_
    refine sw_seq ?_
    refine rg j0<|u<|mv j0<|u<|lnM ti43 j0 j0 j0<|u<|gtr ti3 j0 j0<|r_nil ?_
    refine sw_cond j0 (fun hc33=>?_) (fun hc33=>?_)
    ·
     replace h:=bT hc33 h
     refine rg j0<|u<|mv j0<|u<|lnM ti43 j0 j0 j0<|u<|eql ti3 j0 j0<|u<|asg j0<|r_nil ?_
     refine sw_ret ?_
     obtain rfl:=sm h
     exact ⟨_,j0,[],ci j0,j0,j5,j0,j1⟩
    ·
     replace h:=bF hc33 h
     refine sw_skip ?_
     obtain ⟨v44,q34,h⟩:=bs h
     refine rg j0<|u<|mv j0<|r_can (env0:=[(8,.mpt 0 0 0),(13,.isl 1 (List.map byteRow v42)),(14,.msl 1 0 (List.length v43)),(105,.isl 1 (List.map byteRow v42))]) (st0:=[some (6,[[sA [65,98],sA [79,98,106,101,99,116],bA false,.lit (.slice none 0 0),.isl 3 (List.map rApiField ([(ApiField.mk [120] [73] false)])),.isl 10 (List.map rApiMethod v41)]]),some (1,List.map byteRow v43)]) ⟨[.old 0,.old 2],cv j0 (.mpt j0)<|cv j0 (rsSeal j0 j0 (fun _=>j0))<|cv j0 (.msl j0)<|cv j0 (rsSeal j0 j0 (fun _=>j0))<|cn,j0,⟨⟨_,j0,rsOne ⟨ci j0,ci j0,ci j0,ci j0,ci j0,ci j0,j5⟩⟩,⟨_,j0,rsMap (fun _=>j0)⟩,j5⟩,j0,j1⟩<|u<|pc (file_Decode_ok v42 q34) j0 j0 j0<|u<|mv j0<|u<|ex j0 j0<|u<|ex j0 j0<|u<|al 2 ti28 j0<|u<|sto ti28 j0 j0 j0<|u<|asg j0<|r_nil ?_
     obtain ⟨v46,q38,h⟩:=bs h
     refine rg j0<|u<|mv j0<|u<|cvt (l:=v42) ti43 ti9 j0 j0 ti5 j0 j0 (fun _ h=>by cases h) roI<|u<|mv j0<|u<|cvt (l:=v43) ti43 ti9 j0 j0 ti5 j0 j0 (fun _ h=>by cases h) (roM j0)<|u<|seq ti9 j0 j0<|u<|mv j0<|r_and (j:=5) 2 j0 j0 j0 j0 j0 gpn (fun hb35=>g j0 hb35<|mv j0<|g j0 hb35<|eql ti45 j0 j0<|r_nil (egA [115,116] 2 hb35 j0 j0 j0 j0)) andF<|u<|mv j0<|r_and (x:=v46) (j:=9) 3 j0 j0 j0 j0 j0 gpn (fun hb36=>by replace q38:=bT hb36 q38; obtain ⟨v45,q37,q38⟩:=bs q38; obtain rfl:=sm q38; exact g j0 hb36<|ld ti28 j0 j0<|g j0 hb36<|ld ti28 j0 j0<|g j0 hb36<|pcs (ref3_EqClass_ok (ApiClass.mk [65,98] [79,98,106,101,99,116] false [] ([(ApiField.mk [120] [73] false)]) v41) v44.1 q37) j0 j0 (.cons (sealAgg ⟨(si j0),(si j0),(si j0),(.nil),(si j0),(si j0),j5⟩) (.cons (si j0) .nil)) plainB<|r_nil (eg [119,120,121] 3 j0 j0 j0 j0)) (fun hb=>(sm (bF hb q38)).symm)<|u<|asg j0<|r_nil ?_
     refine sw_ret ?_
     obtain rfl:=sm h
     exact ⟨_,j0,[],ci j0,j0,j5,j0,j1⟩
   ·
    rintro r' rfl env st hp
    obtain rfl:=sm h
    exact hp
end
end Go.Proofs.YtdhpdpkcfffpiaaGreat
namespace Go.Proofs.YtdhpdpkcfffpiaaGreat
set_option linter.unusedSimpArgs false
set_option linter.unusedVariables false
theorem idx_nat {α : Type} (l : List α) (i : Nat) : idx l (i : Int) = l[i]? := by
  unfold idx
  rw [if_pos (by omega), Int.toNat_natCast]
theorem idx_zero {α : Type} (l : List α) : idx l 0 = l[0]? := idx_nat l 0
theorem wrapI {n : Int} (h1 : -9223372036854775808 ≤ n) (h2 : n ≤ 9223372036854775807) : IntKind.i64.wrap n = n := IntWalk.i64_in n ⟨h1, h2⟩
theorem wrap_succ {i : Nat} (h : i < 9223372036854775807) : IntKind.i64.wrap ((i : Int) + 1) = ((i + 1 : Nat) : Int) := by
  rw [wrapI (by omega) (by omega)]; omega
theorem cutP_some {α : Type} {l : List α} {a b : Int} (h0 : 0 ≤ a) (h1 : a ≤ b) (h2 : b ≤ l.length) : cutP l a b = some ((l.drop a.toNat).take (b.toNat - a.toNat)) := by
  unfold cutP; rw [if_pos ⟨h0, h1, h2⟩]
theorem cutP_to {α : Type} {l : List α} {b : Nat} (h : b ≤ l.length) : cutP l 0 (b : Int) = some (l.take b) := by
  rw [cutP_some (by omega) (by omega) (by omega)]; simp
theorem cutP_from {α : Type} {l : List α} {a : Nat} (h : a ≤ l.length) : cutP l (a : Int) (l.length : Int) = some (l.drop a) := by
  rw [cutP_some (by omega) (by omega) (by omega)]
  simp only [Int.toNat_natCast]
  rw [List.take_of_length_le (by simp)]
theorem appP_ok {α : Type} {w : Nat} {l x : List α} (h : (l.length + x.length) * w ≤ 140737488355328) (h2 : l.length + x.length ≤ 9223372036854775807) : appP w l x = some (l ++ x) := by
  unfold appP; rw [if_pos ⟨h, h2⟩]
theorem appP1 {l x : List UInt8} (h : l.length + x.length ≤ 140737488355328) : appP 1 l x = some (l ++ x) := appP_ok (by omega) (by omega)
def ends {R U : Type} (u : U) : Option R → Sum U R
  | some r => .inr r
  | none => .inl u
def asks {R U : Type} (i : Nat) : Option R → Sum Int (Sum U R)
  | some r => .inr (.inr r)
  | none => .inl ((i + 1 : Nat) : Int)
theorem loop_from {α R U : Type} {body : Int → Option (Sum Int (Sum U R))} {l : List α} {g : α → Option R} {u : U} {k : Nat}
    (hb : ∀ (i : Nat) x, k ≤ i → l[i]? = some x → body (i : Int) = some (asks i (g x)))
    (he : body (l.length : Int) = some (.inr (.inl u))) (hk : k ≤ l.length) : loopP body (k : Int) = some (ends u ((l.drop k).findSome? g)) := by
  have key : ∀ d i, l.length - i = d → k ≤ i → i ≤ l.length → loopP body (i : Int) = some (ends u ((l.drop i).findSome? g)) := by
    intro d
    induction d with
    | zero =>
      intro i hd hki hi
      have : i = l.length := by omega
      subst this
      rw [loopP_eq, he, List.drop_length]
      rfl
    | succ d ih =>
      intro i hd hki hi
      have hlt : i < l.length := by omega
      rw [loopP_eq, hb i l[i] hki (List.getElem?_eq_getElem hlt), List.drop_eq_getElem_cons hlt, List.findSome?_cons]
      cases g l[i] with
      | some r => rfl
      | none =>
        show loopP body ((i + 1 : Nat) : Int) = _
        exact ih (i + 1) (by omega) (by omega) (by omega)
  exact key _ k rfl (Nat.le_refl _) hk
theorem loop_list {α R U : Type} {body : Int → Option (Sum Int (Sum U R))} {l : List α} {g : α → Option R} {u : U}
    (hb : ∀ (i : Nat) x, l[i]? = some x → body (i : Int) = some (asks i (g x)))
    (he : body (l.length : Int) = some (.inr (.inl u))) : loopP body 0 = some (ends u (l.findSome? g)) :=
  loop_from (k := 0) (fun i x _ => hb i x) he (Nat.zero_le _)
theorem findSome_any {α R : Type} (l : List α) (p : α → Bool) (r : R) : l.findSome? (fun x => cond (p x) (some r) none) = cond (l.any p) (some r) none := by
  induction l with
  | nil => rfl
  | cons x l ih =>
    rw [List.findSome?_cons, List.any_cons]
    cases p x with
    | true => rfl
    | false => simpa using ih
end Go.Proofs.YtdhpdpkcfffpiaaGreat
namespace Go.Proofs.YtdhpdpkcfffpiaaGreat
def zig (n : Int) : Nat := if n < 0 then (-2 * n - 1).toNat else (2 * n).toNat
def putF : Nat → Nat → List UInt8
  | 0, _ => []
  | k + 1, u => if 127 < u then UInt8.ofNat (u % 128 + 128) :: putF k (u / 128) else [UInt8.ofNat u]
def put (n : Int) : List UInt8 := putF 10 (zig n)
theorem zig_lt {n : Int} (h1 : -9223372036854775808 ≤ n) (h2 : n ≤ 9223372036854775807) : zig n < 18446744073709551616 := by
  unfold zig; split <;> omega
theorem putF_length (k u : Nat) : (putF k u).length ≤ k := by
  induction k generalizing u with
  | zero => simp [putF]
  | succ k ih => simp only [putF]; split <;> simp; exact ih _
theorem put_length (n : Int) : (put n).length ≤ 10 := putF_length _ _
theorem wrap_u64 (n : Int) : IntKind.u64.wrap n = n % 18446744073709551616 := by
  simp [IntKind.wrap, IntKind.bits, IntKind.signed]
theorem wrap_i64 {n : Int} (h1 : -9223372036854775808 ≤ n) (h2 : n ≤ 9223372036854775807) : IntKind.i64.wrap n = n := IntWalk.i64_in n ⟨h1, h2⟩
theorem zig_pos {n : Int} (h1 : 0 ≤ n) (h2 : n ≤ 9223372036854775807) : IntKind.u64.wrap (IntKind.u64.wrap n * 2 ^ (min 1 64)) = ((zig n : Nat) : Int) := by
  rw [wrap_u64, wrap_u64]; unfold zig; rw [if_neg (by omega)]
  have : (2 : Int) ^ (min 1 64) = 2 := by decide
  rw [this]; omega
theorem zig_neg {n : Int} (h1 : -9223372036854775808 ≤ n) (h2 : n < 0) :
    IntKind.u64.wrap (BitVec.ofInt 64 IntKind.u64.max ^^^ BitVec.ofInt 64 (IntKind.u64.wrap (IntKind.u64.wrap n * 2 ^ (min 1 64)))).toNat = ((zig n : Nat) : Int) := by
  have e1 : (2 : Int) ^ (min 1 64) = 2 := by decide
  rw [e1, wrap_u64, wrap_u64, wrap_u64]
  obtain ⟨q, hq⟩ : ∃ q : Nat, n % 18446744073709551616 * 2 % 18446744073709551616 = q ∧ q < 18446744073709551616 := ⟨(n % 18446744073709551616 * 2 % 18446744073709551616).toNat, by omega, by omega⟩
  rw [hq.1]
  have e2 : BitVec.ofInt 64 IntKind.u64.max = BitVec.allOnes 64 := by decide
  have e3 : BitVec.ofInt 64 (q : Int) = BitVec.ofNat 64 q := by simp
  rw [e2, e3, BitVec.allOnes_xor]
  have e4 : (~~~(BitVec.ofNat 64 q)).toNat = 18446744073709551615 - q := by
    rw [BitVec.toNat_not, BitVec.toNat_ofNat, Nat.mod_eq_of_lt hq.2]
  rw [e4]
  unfold zig; rw [if_pos h2]
  omega
theorem shr7 (u : Nat) : (u : Int).fdiv (2 ^ (min (7 : Int).toNat 64)) = ((u / 128 : Nat) : Int) := by
  have : (2 : Int) ^ (min (7 : Int).toNat 64) = 128 := by decide
  rw [this, Int.fdiv_eq_ediv_of_nonneg _ (by decide)]
  omega
theorem shr7' (u : Nat) : (u : Int).fdiv (2 ^ min 7 IntKind.u64.bits) = ((u / 128 : Nat) : Int) := shr7 u
def unzig (u : Nat) : Int := if u % 2 = 1 then -((u / 2 : Nat) : Int) - 1 else ((u / 2 : Nat) : Int)
theorem unzig_zig (n : Int) : unzig (zig n) = n := by
  unfold unzig zig
  split <;> split <;> omega
def getL : Nat → Nat → List UInt8 → Int × Int × Int
  | _, _, [] => (0, 0, 2)
  | i, u, c :: r =>
    if i = 9 ∧ 1 < c.toNat then (0, 0, 1)
    else if 127 < c.toNat then getL (i + 1) (u + c.toNat % 128 * 128 ^ i) r
    else if 0 < i ∧ c.toNat = 0 then (0, 0, 1)
    else (unzig (u + c.toNat % 128 * 128 ^ i), (i : Int) + 1, 0)
def getB (bs : List UInt8) : Int × Int × Int := getL 0 0 bs
theorem shl_lt {u d i : Nat} (hu : u < 128 ^ i) (hd : d < 128) (hi : i ≤ 9) (h9 : i = 9 → d ≤ 1) : u + d * 128 ^ i < 18446744073709551616 := by
  have e128 : 128 ^ i = 2 ^ (7 * i) := by rw [Nat.pow_mul]
  rw [e128] at hu ⊢
  have h64 : (2 : Nat) ^ 64 = 18446744073709551616 := by decide
  have h1 : d * 2 ^ (7 * i) + 2 ^ (7 * i) ≤ 2 ^ 64 := by
    by_cases h : i = 9
    · subst h
      have := h9 rfl
      have h2 : (d + 1) * 2 ^ (7 * 9) ≤ 2 * 2 ^ (7 * 9) := Nat.mul_le_mul_right _ (by omega)
      rw [Nat.add_mul, Nat.one_mul] at h2
      exact Nat.le_trans h2 (by decide)
    · have h2 : (d + 1) * 2 ^ (7 * i) ≤ 2 ^ 7 * 2 ^ (7 * i) := Nat.mul_le_mul_right _ (by omega)
      rw [Nat.add_mul, Nat.one_mul, ← Nat.pow_add] at h2
      exact Nat.le_trans h2 (Nat.pow_le_pow_right (by decide) (by omega))
  omega
theorem or_shl {u d i : Nat} (hu : u < 128 ^ i) (hd : d < 128) (hi : i ≤ 9) (h9 : i = 9 → d ≤ 1) :
    IntKind.u64.wrap (BitVec.ofInt IntKind.u64.bits (u : Int) ||| BitVec.ofInt IntKind.u64.bits (IntKind.u64.wrap ((d : Int) * 2 ^ (min (7 * i) 64)))).toNat = ((u + d * 128 ^ i : Nat) : Int) := by
  have e128 : 128 ^ i = 2 ^ (7 * i) := by rw [Nat.pow_mul]
  have hmin : min (7 * i) 64 = 7 * i := by omega
  rw [e128] at hu ⊢
  have htot : u + d * 2 ^ (7 * i) < 2 ^ 64 := by
    have h1 : d * 2 ^ (7 * i) + 2 ^ (7 * i) ≤ 2 ^ 64 := by
      by_cases h : i = 9
      · subst h
        have := h9 rfl
        have h2 : (d + 1) * 2 ^ (7 * 9) ≤ 2 * 2 ^ (7 * 9) := Nat.mul_le_mul_right _ (by omega)
        rw [Nat.add_mul, Nat.one_mul] at h2
        exact Nat.le_trans h2 (by decide)
      · have h2 : (d + 1) * 2 ^ (7 * i) ≤ 2 ^ 7 * 2 ^ (7 * i) := Nat.mul_le_mul_right _ (by omega)
        rw [Nat.add_mul, Nat.one_mul, ← Nat.pow_add] at h2
        exact Nat.le_trans h2 (Nat.pow_le_pow_right (by decide) (by omega))
    omega
  have e1 : ((d : Int) * 2 ^ (min (7 * i) 64)) = ((d * 2 ^ (7 * i) : Nat) : Int) := by
    rw [hmin]
    simp
  rw [e1, wrap_u64, wrap_u64]
  have e2 : ((d * 2 ^ (7 * i) : Nat) : Int) % 18446744073709551616 = ((d * 2 ^ (7 * i) : Nat) : Int) := by
    have h64 : (2 : Nat) ^ 64 = 18446744073709551616 := by decide
    have : d * 2 ^ (7 * i) < 18446744073709551616 := by omega
    omega
  rw [e2]
  show ((BitVec.ofInt 64 (u : Int) ||| BitVec.ofInt 64 ((d * 2 ^ (7 * i) : Nat) : Int)).toNat : Int) % 18446744073709551616 = _
  have h64 : (2 : Nat) ^ 64 = 18446744073709551616 := by decide
  rw [h64] at htot
  rw [BitVec.ofInt_natCast, BitVec.ofInt_natCast, BitVec.toNat_or, BitVec.toNat_ofNat, BitVec.toNat_ofNat, h64, Nat.mod_eq_of_lt (by omega), Nat.mod_eq_of_lt (by omega)]
  have e3 : u ||| d * 2 ^ (7 * i) = u + d * 2 ^ (7 * i) := by
    rw [Nat.or_comm, Nat.mul_comm, ← Nat.two_pow_add_eq_or_of_lt hu, Nat.add_comm]
  rw [e3]
  omega
theorem shr1 {u : Nat} (hu : u < 18446744073709551616) : IntKind.i64.wrap ((u : Int).fdiv (2 ^ (min 1 IntKind.u64.bits))) = ((u / 2 : Nat) : Int) := by
  have : (2 : Int) ^ (min 1 IntKind.u64.bits) = 2 := by decide
  rw [this, Int.fdiv_eq_ediv_of_nonneg _ (by decide), wrap_i64 (by omega) (by omega)]
  omega
theorem and1 (u : Nat) : IntKind.u64.wrap (BitVec.ofInt IntKind.u64.bits (u : Int) &&& BitVec.ofInt IntKind.u64.bits 1).toNat = ((u % 2 : Nat) : Int) := by
  rw [wrap_u64]
  show ((BitVec.ofInt 64 (u : Int) &&& BitVec.ofInt 64 1).toNat : Int) % 18446744073709551616 = _
  have e : BitVec.ofInt 64 1 = BitVec.ofNat 64 1 := by decide
  rw [BitVec.ofInt_natCast, e, BitVec.toNat_and, BitVec.toNat_ofNat, BitVec.toNat_ofNat]
  have : (2 : Nat) ^ 64 = 18446744073709551616 := by decide
  rw [this, Nat.mod_eq_of_lt (by decide : 1 < 18446744073709551616), Nat.and_one_is_mod]
  omega
theorem not64 {q : Nat} (hq : q < 9223372036854775808) : IntKind.i64.wrap (BitVec.ofInt IntKind.i64.bits (-1) ^^^ BitVec.ofInt IntKind.i64.bits (q : Int)).toNat = -(q : Int) - 1 := by
  have e1 : BitVec.ofInt 64 (-1) = BitVec.allOnes 64 := by decide
  show IntKind.i64.wrap (BitVec.ofInt 64 (-1) ^^^ BitVec.ofInt 64 (q : Int)).toNat = _
  have h64 : (2 : Nat) ^ 64 = 18446744073709551616 := by decide
  rw [e1, BitVec.ofInt_natCast, BitVec.allOnes_xor, BitVec.toNat_not, BitVec.toNat_ofNat, h64, Nat.mod_eq_of_lt (by omega)]
  simp [IntKind.wrap, IntKind.bits, IntKind.signed]
  omega
theorem or_shl' {u d i : Nat} (hu : u < 128 ^ i) (hd : d < 128) (hi : i ≤ 9) (h9 : i = 9 → d ≤ 1) :
    IntKind.u64.wrap (BitVec.ofInt IntKind.u64.bits (u : Int) ||| BitVec.ofInt IntKind.u64.bits (IntKind.u64.wrap ((d : Int) * 2 ^ (min (7 * i) IntKind.u64.bits)))).toNat = ((u + d * 128 ^ i : Nat) : Int) := or_shl hu hd hi h9
end Go.Proofs.YtdhpdpkcfffpiaaGreat
namespace Go.Proofs.YtdhpdpkcfffpiaaGreat
theorem getL_put : ∀ (k i u v : Nat) (rest : List UInt8), v < 128 ^ k → 0 < k → i + k ≤ 10 → u + v * 128 ^ i < 18446744073709551616 → (0 < i → 0 < v) →
    getL i u (putF k v ++ rest) = (unzig (u + v * 128 ^ i), ((i + (putF k v).length : Nat) : Int), 0)
  | 0, _, _, _, _, _, h, _, _, _ => by omega
  | k + 1, i, u, v, rest, hv, _, hik, htot, hpos => by
    have h63 : (128 : Nat) ^ 9 = 9223372036854775808 := by decide
    simp only [putF]
    by_cases h : 127 < v
    · rw [if_pos h]
      have hi9 : i ≠ 9 := fun e => by subst e; rw [h63] at htot; omega
      have hc : (UInt8.ofNat (v % 128 + 128)).toNat = v % 128 + 128 := by
        rw [UInt8.toNat_ofNat']; omega
      have hk : 0 < k := by
        rcases Nat.eq_zero_or_pos k with rfl | h9
        · simp at hv; omega
        · exact h9
      have e1 : (v % 128 + 128) % 128 = v % 128 := by omega
      have e2 : u + v % 128 * 128 ^ i + v / 128 * 128 ^ (i + 1) = u + v * 128 ^ i := by
        have : v * 128 ^ i = (v % 128 + 128 * (v / 128)) * 128 ^ i := by rw [Nat.mod_add_div]
        rw [this, Nat.add_mul, Nat.pow_succ]
        have : 128 * (v / 128) * 128 ^ i = v / 128 * (128 ^ i * 128) := by
          rw [Nat.mul_comm 128 (v / 128), Nat.mul_assoc, Nat.mul_comm 128 (128 ^ i)]
        omega
      have ih := getL_put k (i + 1) (u + v % 128 * 128 ^ i) (v / 128) rest (by rw [Nat.pow_succ] at hv; omega) hk (by omega) (by rw [e2]; exact htot) (fun _ => by omega)
      simp only [List.cons_append, getL]
      rw [if_neg (fun e => hi9 e.1), hc, if_pos (by omega), e1, ih, e2]
      simp only [List.length_cons]
      congr 2
      omega
    · rw [if_neg h]
      have hc : (UInt8.ofNat v).toNat = v := by rw [UInt8.toNat_ofNat']; omega
      simp only [List.cons_append, List.nil_append, getL]
      rw [hc, if_neg, if_neg (by omega), if_neg, Nat.mod_eq_of_lt (by omega)]
      · simp
      · exact fun e => by have := hpos e.1; omega
      · intro e
        obtain ⟨rfl, h1⟩ := e
        rw [h63] at htot; omega
theorem get_put (n : Int) (rest : List UInt8) (h1 : -9223372036854775808 ≤ n) (h2 : n ≤ 9223372036854775807) : getB (put n ++ rest) = (n, ((put n).length : Int), 0) := by
  have hz := zig_lt h1 h2
  have := getL_put 10 0 0 (zig n) rest (by omega) (by decide) (by decide) (by simpa using hz) (fun h => by omega)
  simp only [Nat.zero_add, Nat.pow_zero, Nat.mul_one, unzig_zig] at this
  exact this
theorem getL_ok : ∀ (l : List UInt8) (i u : Nat), i ≤ 9 → u < 128 ^ i → (getL i u l).2.2 = 0 → ∃ j : Nat, (getL i u l).2.1 = j ∧ i + 1 ≤ j ∧ j ≤ i + l.length ∧ j ≤ 10 ∧ -9223372036854775808 ≤ (getL i u l).1 ∧ (getL i u l).1 ≤ 9223372036854775807
  | [], i, u, _, _, h => by simp [getL] at h
  | c :: l, i, u, hi, hu, h => by
    have hcl := c.toNat_lt
    unfold getL at h ⊢
    by_cases h1 : i = 9 ∧ 1 < c.toNat
    · rw [if_pos h1] at h; simp at h
    · rw [if_neg h1] at h ⊢
      by_cases h2 : 127 < c.toNat
      · rw [if_pos h2] at h ⊢
        have hlt : u + c.toNat % 128 * 128 ^ i < 128 ^ (i + 1) := by
          rw [Nat.pow_succ]
          have : c.toNat % 128 * 128 ^ i + 128 ^ i ≤ 128 * 128 ^ i := by
            have h3 : (c.toNat % 128 + 1) * 128 ^ i ≤ 128 * 128 ^ i := Nat.mul_le_mul_right _ (by omega)
            rw [Nat.add_mul, Nat.one_mul] at h3; exact h3
          omega
        obtain ⟨j, k1, k2, k3, k4, k5⟩ := getL_ok l (i + 1) _ (by omega) hlt h
        exact ⟨j, k1, by omega, by simp; omega, k4, k5⟩
      · rw [if_neg h2] at h ⊢
        by_cases h3 : 0 < i ∧ c.toNat = 0
        · rw [if_pos h3] at h; simp at h
        · rw [if_neg h3]
          have hb := shl_lt (d := c.toNat % 128) hu (Nat.mod_lt _ (by decide)) hi (fun e => by
            have : c.toNat ≤ 1 := by omega
            omega)
          refine ⟨i + 1, by simp, by omega, by simp, by omega, ?_, ?_⟩ <;> (simp only []; unfold unzig; split <;> omega)
theorem getB_ok (l : List UInt8) (h : (getB l).2.2 = 0) : ∃ j : Nat, (getB l).2.1 = j ∧ 1 ≤ j ∧ j ≤ l.length ∧ j ≤ 10 ∧ -9223372036854775808 ≤ (getB l).1 ∧ (getB l).1 ≤ 9223372036854775807 := by
  obtain ⟨j, h1, h2, h3, h4, h5⟩ := getL_ok l 0 0 (by decide) (by decide) h
  exact ⟨j, h1, by omega, by omega, h4, h5⟩
def putText (s : List UInt8) : List UInt8 := put s.length ++ s
def getText (bs : List UInt8) : List UInt8 × Int × Int :=
  if (getB bs).2.2 ≠ 0 then ([], 0, (getB bs).2.2)
  else if (getB bs).1 < 0 ∨ 1048576 < (getB bs).1 then ([], 0, 1)
  else if (bs.length : Int) - (getB bs).2.1 < (getB bs).1 then ([], 0, 2)
  else ((bs.drop (getB bs).2.1.toNat).take (getB bs).1.toNat, (getB bs).2.1 + (getB bs).1, 0)
theorem getText_put (s rest : List UInt8) (hs : s.length ≤ 1048576) : getText (putText s ++ rest) = (s, ((putText s).length : Int), 0) := by
  have h := get_put s.length (s ++ rest) (by omega) (by omega)
  unfold getText putText
  rw [List.append_assoc, h]
  simp only [ne_eq, not_true_eq_false, if_false]
  rw [if_neg (by omega), if_neg (by simp only [List.length_append]; omega)]
  simp only [Int.toNat_natCast, List.length_append]
  refine Prod.ext ?_ (Prod.ext (by simp) rfl)
  rw [List.drop_left, List.take_left]
end Go.Proofs.YtdhpdpkcfffpiaaGreat
namespace Go.Proofs.YtdhpdpkcfffpiaaGreat
set_option linter.unusedSimpArgs false
set_option linter.unusedVariables false
noncomputable def okC (x : UInt8) : Bool := kind_small x || kind_great x || kind_digit x
def headP (p : UInt8 → Bool) : List UInt8 → Bool
  | [] => false
  | x :: _ => p x
noncomputable def wordN (s : List UInt8) : Bool := s.all okC && (!(s == []) && decide ((s.length : Int) ≤ 8))
noncomputable def classN (s : List UInt8) : Bool := wordN s && decide (1 < (s.length : Int)) && headP kind_great s
noncomputable def nameN (s : List UInt8) : Bool := (s == [36, 105, 110, 105, 116]) || (wordN s && headP kind_small s)
def trim1 : List UInt8 → List UInt8
  | [] => []
  | x :: r => if x = 91 then r else x :: r
noncomputable def mayN (s : List UInt8) : Bool := (trim1 (trim1 s) == [73]) || classN (trim1 (trim1 s))
noncomputable def refN (s : List UInt8) : Bool := !(s == [73]) && mayN s
noncomputable def retN (s : List UInt8) : Bool := (s == [86]) || mayN s
abbrev Len (s : List UInt8) : Prop := s.length ≤ 9223372036854775807
theorem not_all {α : Type} (l : List α) (p : α → Bool) : l.any (fun x => !p x) = !l.all p := by
  induction l with
  | nil => rfl
  | cons x l ih => rw [List.any_cons, List.all_cons, ih]; cases p x <;> rfl
theorem kind_word_eq {s : List UInt8} (h : Len s) : kind_word s = some (wordN s) := by
  have hl : loopP (fun z => kind_word_l1 s z) 0 = _ := loop_list (l := s) (g := fun x => cond (!okC x) (some false) none) (u := ()) (fun i x hx => by
    have hi := (List.getElem?_eq_some_iff.1 hx).1
    show kind_word_l1 s (i : Int) = _
    unfold kind_word_l1
    rw [idx_nat, hx, decide_eq_true (by omega), wrap_succ (by unfold Len at h; omega)]
    unfold okC
    cases h1 : kind_small x <;> cases h2 : kind_great x <;> cases h3 : kind_digit x <;> simp [h1, h2, h3, asks]) (by
    show kind_word_l1 s (s.length : Int) = _
    unfold kind_word_l1
    rw [decide_eq_false (by omega)]
    rfl)
  unfold kind_word
  rw [hl, findSome_any, not_all]
  unfold wordN
  cases s.all okC <;> rfl
theorem wordN_ne {s : List UInt8} (h : wordN s = true) : ∃ x r, s = x :: r := by
  cases s with
  | nil => exact absurd h (by decide)
  | cons x r => exact ⟨x, r, rfl⟩
theorem kind_Class_eq {s : List UInt8} (h : Len s) : kind_Class s = some (classN s) := by
  unfold kind_Class
  rw [kind_word_eq h, idx_zero]
  unfold classN
  cases hw : wordN s with
  | false => rfl
  | true =>
    obtain ⟨x, r, rfl⟩ := wordN_ne hw
    simp only [Option.bind_some, Bool.true_and, List.getElem?_cons_zero]
    cases decide (1 < ((x :: r).length : Int)) <;> rfl
theorem kind_Name_eq {s : List UInt8} (h : Len s) : kind_Name s = some (nameN s) := by
  unfold kind_Name
  rw [kind_word_eq h, idx_zero]
  unfold nameN
  cases s == [36, 105, 110, 105, 116] with
  | true => rfl
  | false =>
    cases hw : wordN s with
    | false => rfl
    | true =>
      obtain ⟨x, r, rfl⟩ := wordN_ne hw
      rfl
theorem trim1_cons (x : UInt8) (r : List UInt8) : trim1 (x :: r) = if x = 91 then r else x :: r := rfl
theorem trim1_len (s : List UInt8) : (trim1 s).length ≤ s.length := by
  cases s with
  | nil => exact Nat.le_refl _
  | cons x r => rw [trim1_cons]; split <;> simp
theorem trim_eq {s : List UInt8} (h : Len s) : strings_TrimPrefix s [91] = some (trim1 s) := by
  unfold strings_TrimPrefix internal_stringslite_TrimPrefix internal_stringslite_HasPrefix
  cases s with
  | nil => rfl
  | cons x r =>
    have e1 : decide ((List.length [(91 : UInt8)] : Int) ≤ (List.length (x :: r) : Int)) = true := decide_eq_true (by simp only [List.length_cons, List.length_nil]; omega)
    have e2 : cutP (x :: r) 0 (List.length [(91 : UInt8)] : Int) = some [x] := by
      have := cutP_to (l := x :: r) (b := 1) (by simp)
      simpa using this
    have e3 : cutP (x :: r) (List.length [(91 : UInt8)] : Int) (List.length (x :: r) : Int) = some r := by
      have := cutP_from (l := x :: r) (a := 1) (by simp)
      simpa using this
    rw [e1, e2, e3, trim1_cons]
    by_cases hx : x = 91
    · subst hx; rfl
    · rw [if_neg hx]
      have : ([x] == [(91 : UInt8)]) = false := by simp [hx]
      simp [this]
theorem kind_May_eq {s : List UInt8} (h : Len s) : kind_May s = some (mayN s) := by
  have h1 := trim1_len s
  have h2 := trim1_len (trim1 s)
  unfold kind_May
  rw [trim_eq h, Option.bind_some, trim_eq (by unfold Len at *; omega), Option.bind_some, kind_Class_eq (by unfold Len at *; omega)]
  unfold mayN
  cases trim1 (trim1 s) == [73] <;> rfl
theorem kind_Ref_eq {s : List UInt8} (h : Len s) : kind_Ref s = some (refN s) := by
  unfold kind_Ref
  rw [kind_May_eq h]
  unfold refN
  cases s == [73] <;> rfl
theorem kind_Ret_eq {s : List UInt8} (h : Len s) : kind_Ret s = some (retN s) := by
  unfold kind_Ret
  rw [kind_May_eq h]
  unfold retN
  cases s == [86] <;> rfl
end Go.Proofs.YtdhpdpkcfffpiaaGreat
namespace Go.Proofs.YtdhpdpkcfffpiaaGreat
set_option linter.unusedSimpArgs false
set_option linter.unusedVariables false
abbrev I64 (n : Int) : Prop := -9223372036854775808 ≤ n ∧ n ≤ 9223372036854775807
theorem tU8_nat (u : Nat) : tU8 (u : Int) = UInt8.ofNat u := by
  unfold tU8
  have : ((u : Int) % 256).toNat = u % 256 := by omega
  rw [this]
  apply UInt8.toNat_inj.1
  simp
theorem or128_8 (u : Nat) : (tU8 (u : Int) ||| (128 : UInt8)) = UInt8.ofNat (u % 128 + 128) := by
  rw [tU8_nat]
  have key : ∀ k : Fin 256, (UInt8.ofNat k.val ||| (128 : UInt8)) = UInt8.ofNat (k.val % 128 + 128) := by decide +kernel
  have h := key ⟨u % 256, Nat.mod_lt _ (by decide)⟩
  have e1 : UInt8.ofNat (u % 256) = UInt8.ofNat u := by apply UInt8.toNat_inj.1; simp
  have e2 : u % 256 % 128 = u % 128 := by omega
  simp only [e1, e2] at h
  exact h
theorem and127_8 (c : UInt8) : IntKind.u64.wrap ((c &&& (127 : UInt8)).toNat : Int) = ((c.toNat % 128 : Nat) : Int) := by
  have key : ∀ k : Fin 256, (UInt8.ofNat k.val &&& (127 : UInt8)).toNat = k.val % 128 := by decide +kernel
  have h := key ⟨c.toNat, c.toNat_lt⟩
  have e1 : UInt8.ofNat c.toNat = c := by simp
  simp only [e1] at h
  rw [h, wrap_u64]
  omega
theorem shrP7 (u : Nat) : shrP .u64 (u : Int) 7 = some ((u / 128 : Nat) : Int) := by
  unfold shrP
  rw [if_neg (by decide)]
  congr 1
  exact shr7' u
theorem putL (k : Nat) : ∀ (acc : List UInt8) (u : Nat), 0 < k → u < 128 ^ k → acc.length + k ≤ 140737488355328 →
    ∃ acc' v, loopP (fun z : List UInt8 × Int => num_Put_l2 z.1 z.2) (acc, (u : Int)) = some (.inl (acc', v)) ∧ num_Put_k3 acc' v = some (acc ++ putF k u) := by
  induction k with
  | zero => intro _ _ h; omega
  | succ k ih =>
    intro acc u _ hu hl
    rw [loopP_eq]
    by_cases h127 : 127 < u
    · have hk : 0 < k := by
        rcases Nat.eq_zero_or_pos k with rfl | h
        · simp at hu; omega
        · exact h
      have hstep : num_Put_l2 acc (u : Int) = some (.inl (acc ++ [UInt8.ofNat (u % 128 + 128)], ((u / 128 : Nat) : Int))) := by
        unfold num_Put_l2
        rw [decide_eq_true (by omega), or128_8, appP1 (by simp; omega), shrP7]
        rfl
      simp only [hstep, Option.bind_some, Sum.elim_inl]
      obtain ⟨acc', v, h1, h2⟩ := ih (acc ++ [UInt8.ofNat (u % 128 + 128)]) (u / 128) hk (by rw [Nat.pow_succ] at hu; omega) (by simp; omega)
      refine ⟨acc', v, h1, ?_⟩
      rw [h2]
      simp only [putF, if_pos h127]
      simp
    · have hstep : num_Put_l2 acc (u : Int) = some (.inr (.inl (acc, (u : Int)))) := by
        unfold num_Put_l2
        rw [decide_eq_false (by omega)]
        rfl
      simp only [hstep, Option.bind_some, Sum.elim_inr]
      refine ⟨acc, u, rfl, ?_⟩
      unfold num_Put_k3
      rw [tU8_nat, appP1 (by simp; omega)]
      simp only [putF, if_neg h127]
      rfl
theorem zigP {n : Int} (h : I64 n) : shlP .u64 (IntKind.u64.wrap n) 1 = some (IntKind.u64.wrap (IntKind.u64.wrap n * 2 ^ (min 1 64))) := by
  unfold shlP
  rw [if_neg (by decide)]
  rfl
theorem num_Put_eq {bs : List UInt8} {n : Int} (h : I64 n) (hb : bs.length ≤ 1000000000000) : num_Put bs n = some (bs ++ put n) := by
  have hz := zig_lt h.1 h.2
  have key : num_Put_j1 bs ((zig n : Nat) : Int) = some (bs ++ put n) := by
    obtain ⟨acc, v, h1, h2⟩ := putL 10 bs (zig n) (by decide) (by omega) (by omega)
    unfold num_Put_j1
    rw [h1]
    exact h2
  unfold num_Put
  rw [zigP h, Option.bind_some]
  by_cases hn : n < 0
  · rw [decide_eq_true hn]
    have : xorI .u64 (IntKind.u64.wrap (IntKind.u64.wrap n * 2 ^ (min 1 64))) = ((zig n : Nat) : Int) := zig_neg h.1 hn
    rw [this]; exact key
  · rw [decide_eq_false hn, zig_pos (by omega) h.2]; exact key
theorem getLp (bs : List UInt8) (hl : bs.length ≤ 9223372036854775807) : ∀ (rest : List UInt8) (i u : Nat), bs.drop i = rest → i ≤ 9 → i ≤ bs.length → u < 128 ^ i →
    ((loopP (fun z : Int × Int => num_Get_l3 bs z.1 z.2) ((u : Int), (i : Int))).bind fun o => leave o (fun b => num_Get_k4) some) = some (getL i u rest) := by
  intro rest
  induction rest with
  | nil =>
    intro i u hd hi hib hu
    have hlen : i = bs.length := by
      have := congrArg List.length hd
      simp at this; omega
    have hstep : num_Get_l3 bs (u : Int) (i : Int) = some (.inr (.inl ())) := by
      unfold num_Get_l3
      rw [decide_eq_false (by omega)]; rfl
    rw [loopP_eq]
    simp only [hstep, Option.bind_some, Sum.elim_inr]
    rfl
  | cons c r ih =>
    intro i u hd hi hib hu
    have hlt : i < bs.length := by
      have := congrArg List.length hd
      simp at this; omega
    have hc : bs[i]? = some c := by
      have : (bs.drop i)[0]? = some c := by rw [hd]; rfl
      simpa using this
    have hd' : bs.drop (i + 1) = r := by
      have := congrArg List.tail hd
      simpa [List.tail_drop] using this
    have e7 : IntKind.i64.wrap (7 * (i : Int)) = ((7 * i : Nat) : Int) := by rw [wrapI (by omega) (by omega)]; omega
    have hsh : shlP .u64 (IntKind.u64.wrap ((c &&& (127 : UInt8)).toNat : Int)) (IntKind.i64.wrap (7 * (i : Int))) = some (IntKind.u64.wrap (((c.toNat % 128 : Nat) : Int) * 2 ^ (min (7 * i) IntKind.u64.bits))) := by
      rw [and127_8, e7]
      unfold shlP
      rw [if_neg (by omega), Int.toNat_natCast]
    have hws : IntKind.i64.wrap ((i : Int) + 1) = ((i + 1 : Nat) : Int) := wrap_succ (by omega)
    have hcl := c.toNat_lt
    have hb : num_Get_l3 bs (u : Int) (i : Int) = cond (((i : Int) == (9 : Int)) && decide (1 < (c.toNat : Int))) (some (.inr (.inr (0, 0, 1)))) (cond (decide (127 < (c.toNat : Int)))
        (some (.inl (orI .u64 (u : Int) (IntKind.u64.wrap (((c.toNat % 128 : Nat) : Int) * 2 ^ (min (7 * i) IntKind.u64.bits))), ((i + 1 : Nat) : Int))))
        (cond (decide ((0 : Int) < (i : Int)) && ((c.toNat : Int) == (0 : Int))) (some (.inr (.inr (0, 0, 1)))) ((shrP .u64 (orI .u64 (u : Int) (IntKind.u64.wrap (((c.toNat % 128 : Nat) : Int) * 2 ^ (min (7 * i) IntKind.u64.bits)))) 1).bind fun v12 =>
          cond ((andI .u64 (orI .u64 (u : Int) (IntKind.u64.wrap (((c.toNat % 128 : Nat) : Int) * 2 ^ (min (7 * i) IntKind.u64.bits)))) 1) == (1 : Int)) (num_Get_j2 (i : Int) (xorI .i64 (IntKind.i64.wrap v12))) (num_Get_j2 (i : Int) (IntKind.i64.wrap v12))))) := by
      unfold num_Get_l3
      rw [idx_nat, hc, decide_eq_true (show (i : Int) < (bs.length : Int) by omega), hws]
      simp only [Option.bind_some, cond_true, hsh]
    have hd9 : ¬ (i = 9 ∧ 1 < c.toNat) → i = 9 → c.toNat % 128 ≤ 1 := fun h e => by omega
    rw [loopP_eq]
    simp only [hb]
    clear hb
    by_cases h9 : i = 9 ∧ 1 < c.toNat
    · have e1 : (((i : Int) == (9 : Int)) && decide (1 < (c.toNat : Int))) = true := by
        rw [Bool.and_eq_true]; exact ⟨by rw [beq_iff_eq]; omega, decide_eq_true (by omega)⟩
      rw [e1]
      unfold getL
      rw [if_pos h9]
      rfl
    · have e1 : (((i : Int) == (9 : Int)) && decide (1 < (c.toNat : Int))) = false := by
        rw [Bool.and_eq_false_iff]
        by_cases h : i = 9
        · exact .inr (decide_eq_false (by omega))
        · exact .inl (by rw [beq_eq_false_iff_ne]; omega)
      rw [e1]
      have hor : orI .u64 (u : Int) (IntKind.u64.wrap (((c.toNat % 128 : Nat) : Int) * 2 ^ (min (7 * i) IntKind.u64.bits))) = ((u + c.toNat % 128 * 128 ^ i : Nat) : Int) := or_shl' hu (Nat.mod_lt _ (by decide)) hi (hd9 h9)
      have hu' : u + c.toNat % 128 * 128 ^ i < 18446744073709551616 := shl_lt hu (Nat.mod_lt _ (by decide)) hi (hd9 h9)
      rw [hor]
      simp only [cond_false]
      unfold getL
      rw [if_neg h9]
      by_cases h127 : 127 < c.toNat
      · rw [decide_eq_true (show (127 : Int) < (c.toNat : Int) by omega), if_pos h127]
        simp only [cond_true, Option.bind_some, Sum.elim_inl]
        refine ih (i + 1) _ hd' (by omega) (by omega) ?_
        have h2 : (c.toNat % 128 + 1) * 128 ^ i ≤ 128 * 128 ^ i := Nat.mul_le_mul_right _ (by omega)
        rw [Nat.add_mul, Nat.one_mul] at h2
        rw [Nat.pow_succ]
        omega
      · rw [decide_eq_false (show ¬ (127 : Int) < (c.toNat : Int) by omega), if_neg h127]
        simp only [cond_false]
        by_cases h0 : 0 < i ∧ c.toNat = 0
        · have e2 : (decide ((0 : Int) < (i : Int)) && ((c.toNat : Int) == (0 : Int))) = true := by
            rw [Bool.and_eq_true]; exact ⟨decide_eq_true (by omega), by rw [beq_iff_eq]; omega⟩
          rw [e2, if_pos h0]
          rfl
        · have e2 : (decide ((0 : Int) < (i : Int)) && ((c.toNat : Int) == (0 : Int))) = false := by
            rw [Bool.and_eq_false_iff]
            by_cases h : 0 < i
            · exact .inr (by rw [beq_eq_false_iff_ne]; omega)
            · exact .inl (decide_eq_false (by omega))
          rw [e2, if_neg h0]
          simp only [cond_false]
          generalize u + c.toNat % 128 * 128 ^ i = q at hu'
          have hs1 : shrP .u64 (q : Int) 1 = some ((q : Int).fdiv (2 ^ (min 1 IntKind.u64.bits))) := by unfold shrP; rw [if_neg (by decide)]; rfl
          rw [hs1]
          simp only [Option.bind_some]
          rw [shr1 hu']
          have ha : andI .u64 (q : Int) 1 = ((q % 2 : Nat) : Int) := and1 q
          rw [ha]
          unfold num_Get_j2
          rw [hws]
          by_cases hp : q % 2 = 1
          · rw [hp]
            have hx : xorI .i64 ((q / 2 : Nat) : Int) = -((q / 2 : Nat) : Int) - 1 := not64 (by omega)
            rw [hx]
            unfold unzig
            rw [if_pos hp]
            rfl
          · have h00 : q % 2 = 0 := by omega
            rw [h00]
            unfold unzig
            rw [if_neg hp]
            rfl
theorem num_Get_eq {bs : List UInt8} (h : Len bs) : num_Get bs = some (getB bs) := by
  unfold num_Get
  exact getLp bs h bs 0 0 rfl (Nat.zero_le _) (Nat.zero_le _) (by decide)
theorem ref1_putL (k : Nat) : ∀ (acc : List UInt8) (u : Nat), 0 < k → u < 128 ^ k → u < 18446744073709551616 → acc.length + k ≤ 140737488355328 →
    ∃ acc' v, loopP (fun z : Int × List UInt8 => ref1_Put_l2 z.1 z.2) ((u : Int), acc) = some (.inl (v, acc')) ∧ ref1_Put_k3 v acc' = some (acc ++ putF k u) := by
  induction k with
  | zero => intro _ _ h; omega
  | succ k ih =>
    intro acc u _ hu h64 hl
    rw [loopP_eq]
    by_cases h127 : 127 < u
    · have hk : 0 < k := by
        rcases Nat.eq_zero_or_pos k with rfl | h
        · simp at hu; omega
        · exact h
      have hr : remP (u : Int) 128 = some ((u % 128 : Nat) : Int) := by
        unfold remP
        rw [if_neg (by decide)]
        congr 1
      have hq : quoP .u64 (u : Int) 128 = some ((u / 128 : Nat) : Int) := by
        unfold quoP
        rw [if_neg (by decide)]
        have : (u : Int).tdiv 128 = ((u / 128 : Nat) : Int) := rfl
        rw [this, wrap_u64]
        congr 1
        omega
      have hw : IntKind.u64.wrap (((u % 128 : Nat) : Int) + 128) = ((u % 128 + 128 : Nat) : Int) := by rw [wrap_u64]; omega
      have hstep : ref1_Put_l2 (u : Int) acc = some (.inl (((u / 128 : Nat) : Int), acc ++ [UInt8.ofNat (u % 128 + 128)])) := by
        unfold ref1_Put_l2
        rw [decide_eq_true (by omega), hr, Option.bind_some, hw, tU8_nat, appP1 (by simp; omega), hq]
        rfl
      simp only [hstep, Option.bind_some, Sum.elim_inl]
      obtain ⟨acc', v, h1, h2⟩ := ih (acc ++ [UInt8.ofNat (u % 128 + 128)]) (u / 128) hk (by rw [Nat.pow_succ] at hu; omega) (by omega) (by simp; omega)
      refine ⟨acc', v, h1, ?_⟩
      rw [h2]
      simp only [putF, if_pos h127]
      simp
    · have hstep : ref1_Put_l2 (u : Int) acc = some (.inr (.inl ((u : Int), acc))) := by
        unfold ref1_Put_l2
        rw [decide_eq_false (by omega)]
        rfl
      simp only [hstep, Option.bind_some, Sum.elim_inr]
      refine ⟨acc, u, rfl, ?_⟩
      unfold ref1_Put_k3
      rw [tU8_nat, appP1 (by simp; omega)]
      simp only [putF, if_neg h127]
      rfl
theorem ref1_Put_eq {n : Int} (h : I64 n) : ref1_Put n = some (put n) := by
  have hz := zig_lt h.1 h.2
  have key : ref1_Put_j1 ((zig n : Nat) : Int) = some (put n) := by
    obtain ⟨acc, v, h1, h2⟩ := ref1_putL 10 [] (zig n) (by decide) (by omega) hz (by simp)
    unfold ref1_Put_j1
    rw [h1]
    exact h2
  have e2 : IntKind.u64.wrap (IntKind.u64.wrap n * 2) = IntKind.u64.wrap (IntKind.u64.wrap n * 2 ^ (min 1 64)) := by
    have : (2 : Int) ^ (min 1 64) = 2 := by decide
    rw [this]
  unfold ref1_Put
  rw [e2]
  by_cases hn : n < 0
  · rw [decide_eq_true hn]
    have : xorI .u64 (IntKind.u64.wrap (IntKind.u64.wrap n * 2 ^ (min 1 64))) = ((zig n : Nat) : Int) := zig_neg h.1 hn
    rw [this]; exact key
  · rw [decide_eq_false hn, zig_pos (by omega) h.2]; exact key
theorem num_PutText_eq {bs s : List UInt8} (hb : bs.length ≤ 100000000000) (hs : s.length ≤ 100000000000) : num_PutText bs s = some (bs ++ putText s) := by
  have hp := put_length (s.length : Int)
  unfold num_PutText
  rw [num_Put_eq ⟨by omega, by omega⟩ (by omega), Option.bind_some, appP1 (by simp; omega)]
  unfold putText
  simp
theorem ref1_PutText_eq {s : List UInt8} (hs : s.length ≤ 100000000000) : ref1_PutText s = some (putText s) := by
  have hp := put_length (s.length : Int)
  unfold ref1_PutText
  rw [ref1_Put_eq ⟨by omega, by omega⟩, Option.bind_some, appP1 (by omega)]
  rfl
theorem num_GetText_eq {bs : List UInt8} (h : Len bs) : num_GetText bs = some (getText bs) := by
  unfold num_GetText
  rw [num_Get_eq h, Option.bind_some]
  unfold getText
  by_cases h0 : (getB bs).2.2 = 0
  · obtain ⟨j, h1, h2, h3, h4, h5, h6⟩ := getB_ok bs h0
    unfold Len at h
    rw [h1, h0]
    simp only [ne_eq, not_true_eq_false, if_false]
    by_cases hn : (getB bs).1 < 0 ∨ 1048576 < (getB bs).1
    · rw [if_pos hn]
      have : (decide ((getB bs).1 < 0) || decide (1048576 < (getB bs).1)) = true := by rw [Bool.or_eq_true]; exact hn.imp (fun h => decide_eq_true h) (fun h => decide_eq_true h)
      rw [this]; rfl
    · rw [if_neg hn]
      have : (decide ((getB bs).1 < 0) || decide (1048576 < (getB bs).1)) = false := by
        rw [Bool.or_eq_false_iff]; exact ⟨decide_eq_false fun h => hn (.inl h), decide_eq_false fun h => hn (.inr h)⟩
      rw [this, wrapI (by omega) (by omega)]
      by_cases hl : (bs.length : Int) - (j : Int) < (getB bs).1
      · rw [if_pos hl, decide_eq_true hl]; rfl
      · rw [if_neg hl, decide_eq_false hl, wrapI (by omega) (by omega), cutP_some (by omega) (by omega) (by omega)]
        have : ((j : Int) + (getB bs).1).toNat - (j : Int).toNat = (getB bs).1.toNat := by omega
        rw [this]
        rfl
  · rw [if_pos h0]
    have : ((getB bs).2.2 == (0 : Int)) = false := by rw [beq_eq_false_iff_ne]; exact h0
    rw [this]
    rfl
end Go.Proofs.YtdhpdpkcfffpiaaGreat
namespace Go.Proofs.YtdhpdpkcfffpiaaGreat
set_option linter.unusedSimpArgs false
set_option linter.unusedVariables false
noncomputable def mayCN (o : Int) (s : List UInt8) : Bool := cond (op_typed o) (refN s) (cond (op_c o) (classN s) (s == []))
noncomputable def mayMN (o : Int) (s : List UInt8) : Bool := cond (op_m o) (nameN s && !(s == [36, 105, 110, 105, 116])) (s == [])
noncomputable def mayIns (x : ApiIns) : Bool := (op_known x.Op && op_mayA x.Op x.A) && mayCN x.Op x.C && mayMN x.Op x.M
theorem op_mayC_eq {o : Int} {s : List UInt8} (h : Len s) : op_mayC o s = some (mayCN o s) := by
  unfold op_mayC mayCN
  rw [kind_Ref_eq h, kind_Class_eq h]
  cases op_typed o <;> cases op_c o <;> rfl
theorem op_mayM_eq {o : Int} {s : List UInt8} (h : Len s) : op_mayM o s = some (mayMN o s) := by
  unfold op_mayM mayMN
  rw [kind_Name_eq h]
  cases op_m o <;> rfl
theorem op_May_eq {x : ApiIns} (hC : Len x.C) (hM : Len x.M) : op_May x = some (mayIns x) := by
  unfold op_May mayIns
  rw [op_mayC_eq hC, op_mayM_eq hM]
  cases (op_known x.Op && op_mayA x.Op x.A) <;> cases mayCN x.Op x.C <;> rfl
theorem mayA_eq (o A : Int) : op_mayA o A = cond (op_a o) (ref3_number o A) (A == 0) := by
  have e1 : decide (A ≤ 2147483647) = decide (A < 2147483648) := by congr 1; apply propext; omega
  have e2 : decide (A ≤ 15) = decide (A < 16) := by congr 1; apply propext; omega
  have e3 : decide (A ≤ 99) = decide (A < 100) := by congr 1; apply propext; omega
  unfold op_mayA op_a ref3_number ref3_Jumps op_Jumps op_between
  rw [e1, e2, e3]
  by_cases h1 : o = 1
  · subst h1; rfl
  by_cases h3 : o = 3
  · subst h3; rfl
  by_cases h4 : o = 4
  · subst h4; rfl
  have b1 : (o == (1 : Int)) = false := beq_eq_false_iff_ne.2 h1
  have b3 : (o == (3 : Int)) = false := beq_eq_false_iff_ne.2 h3
  have b4 : (o == (4 : Int)) = false := beq_eq_false_iff_ne.2 h4
  rw [b1, b3, b4]
  cases (decide (20 ≤ o) && decide (o ≤ 36)) <;> rfl
end Go.Proofs.YtdhpdpkcfffpiaaGreat
namespace Go.Proofs.YtdhpdpkcfffpiaaGreat
set_option linter.unusedSimpArgs false
set_option linter.unusedVariables false
noncomputable def putIns (x : ApiIns) : List UInt8 := put x.Op ++ (cond (op_a x.Op) (put x.A) [] ++ (cond (op_c x.Op) (putText x.C) [] ++ cond (op_m x.Op) (putText x.M) []))
structure InsIn (x : ApiIns) : Prop where
  op : I64 x.Op
  a : I64 x.A
  c : x.C.length ≤ 1000000
  m : x.M.length ≤ 1000000
theorem putText_len (s : List UInt8) : (putText s).length ≤ s.length + 10 := by
  have := put_length (s.length : Int)
  unfold putText
  simp; omega
theorem op_Put_eq {bs : List UInt8} {x : ApiIns} (hx : InsIn x) (hb : bs.length ≤ 10000000000) : op_Put bs x = some (bs ++ putIns x) := by
  have h1 := put_length x.Op
  have h2 := put_length x.A
  have h3 := putText_len x.C
  have hc := hx.c
  have hm := hx.m
  have e1 : ∀ b : List UInt8, b.length ≤ 20000000000 → op_Put_j2 x b = some (b ++ cond (op_m x.Op) (putText x.M) []) := fun b hb => by
    unfold op_Put_j2 op_Put_j3
    cases op_m x.Op with
    | true => simp only [cond_true]; rw [num_PutText_eq (by omega) (by omega)]; rfl
    | false => simp
  have e2 : ∀ b : List UInt8, b.length ≤ 15000000000 → op_Put_j1 x b = some (b ++ (cond (op_c x.Op) (putText x.C) [] ++ cond (op_m x.Op) (putText x.M) [])) := fun b hb => by
    unfold op_Put_j1
    cases op_c x.Op with
    | true => simp only [cond_true]; rw [num_PutText_eq (by omega) (by omega), Option.bind_some, e1 _ (by simp; omega)]; simp
    | false => simp only [cond_false]; rw [e1 _ (by omega)]; simp
  unfold op_Put putIns
  rw [num_Put_eq hx.op (by omega), Option.bind_some]
  cases op_a x.Op with
  | true => simp only [cond_true]; rw [num_Put_eq hx.a (by simp; omega), Option.bind_some, e2 _ (by simp; omega)]; simp
  | false => simp only [cond_false]; rw [e2 _ (by simp; omega)]; simp
theorem cut_pre {pre t : List UInt8} : cutP (pre ++ t) ((pre.length : Nat) : Int) ((pre ++ t).length : Int) = some t := by
  have h := cutP_from (l := pre ++ t) (a := pre.length) (by simp)
  rw [h]; simp
theorem may_parts {x : ApiIns} (h : mayIns x = true) : (op_known x.Op = true ∧ op_mayA x.Op x.A = true) ∧ mayCN x.Op x.C = true ∧ mayMN x.Op x.M = true := by
  unfold mayIns at h
  simp only [Bool.and_eq_true] at h
  exact ⟨h.1.1, h.1.2, h.2⟩
theorem op_Get_put {x : ApiIns} {rest : List UInt8} (hx : InsIn x) (hm : mayIns x = true) (hr : rest.length ≤ 1000000000) : op_Get (putIns x ++ rest) = some (x, (((putIns x).length : Nat) : Int), 0) := by
  obtain ⟨⟨m1, m2⟩, m3, m4⟩ := may_parts hm
  have l1 := put_length x.Op
  have l2 := put_length x.A
  have l3 := putText_len x.C
  have l4 := putText_len x.M
  have hc := hx.c
  have hmm := hx.m
  have bnd : (putIns x).length ≤ 3000000 := by
    unfold putIns
    cases op_a x.Op <;> cases op_c x.Op <;> cases op_m x.Op <;> simp <;> omega
  have hty : op_c x.Op = false → op_typed x.Op = false := fun h => by unfold op_c at h; simp only [Bool.or_eq_false_iff] at h; exact h.2
  obtain ⟨all, hall⟩ : ∃ all, all = putIns x ++ rest := ⟨_, rfl⟩
  have hlen : all.length ≤ 2000000000 := by rw [hall, List.length_append]; omega
  have g3 : ∀ pre : List UInt8, all = pre ++ (cond (op_m x.Op) (putText x.M) [] ++ rest) → op_Get_j2 all (x.Op, ((put x.Op).length : Int), 0) x.A (pre.length : Nat) 0 x.C = some (x, (((putIns x).length : Nat) : Int), 0) := fun pre hp => by
    unfold op_Get_j2 op_Get_j3
    have hpl : all.length = pre.length + (cond (op_m x.Op) (putText x.M) [] ++ rest).length := by rw [hp, List.length_append]
    have hpi : (putIns x).length + rest.length = all.length := by rw [hall, List.length_append]
    cases h : op_m x.Op with
    | false =>
      rw [h] at hp hpl
      simp only [cond_false, List.nil_append] at hpl
      have hM : x.M = [] := by
        unfold mayMN at m4; rw [h] at m4; exact beq_iff_eq.1 m4
      have : pre.length = (putIns x).length := by omega
      simp only [cond_false]
      rw [this, ← hM]
      rfl
    | true =>
      rw [h] at hp hpl
      simp only [cond_true] at hp hpl ⊢
      unfold op_reader_text_s2 op_reader_text_s2_j1 op_Get_3
      have hcut : cutP all ((pre.length : Nat) : Int) (all.length : Int) = some (putText x.M ++ rest) := by rw [hp]; exact cut_pre
      have hget : num_GetText (putText x.M ++ rest) = some (x.M, ((putText x.M).length : Int), 0) := by
        rw [num_GetText_eq (by unfold Len; simp; omega), getText_put _ _ (by omega)]
      have hw : IntKind.i64.wrap ((pre.length : Nat) + ((putText x.M).length : Int)) = ((putIns x).length : Nat) := by
        rw [List.length_append] at hpl
        rw [wrapI (by omega) (by omega)]; omega
      rw [hcut, Option.bind_some, hget, Option.bind_some]
      simp only
      rw [op_mayM_eq (by unfold Len; omega), m4, hw]
      rfl
  have g2 : ∀ pre : List UInt8, all = pre ++ (cond (op_c x.Op) (putText x.C) [] ++ (cond (op_m x.Op) (putText x.M) [] ++ rest)) → op_Get_j1 all (x.Op, ((put x.Op).length : Int), 0) (pre.length : Nat) 0 x.A = some (x, (((putIns x).length : Nat) : Int), 0) := fun pre hp => by
    unfold op_Get_j1
    cases h : op_c x.Op with
    | false =>
      rw [h] at hp
      have hC : x.C = [] := by
        unfold mayCN at m3; rw [hty h, h] at m3; exact beq_iff_eq.1 m3
      simp only [cond_false]
      rw [← hC]
      exact g3 pre (by simpa using hp)
    | true =>
      rw [h] at hp
      simp only [cond_true] at hp ⊢
      unfold op_reader_text op_reader_text_j1 op_Get_2
      have hcut : cutP all ((pre.length : Nat) : Int) (all.length : Int) = some (putText x.C ++ (cond (op_m x.Op) (putText x.M) [] ++ rest)) := by rw [hp]; exact cut_pre
      have hle : (cond (op_m x.Op) (putText x.M) [] ++ rest).length ≤ 1001000010 := by cases op_m x.Op <;> simp <;> omega
      have hget : num_GetText (putText x.C ++ (cond (op_m x.Op) (putText x.M) [] ++ rest)) = some (x.C, ((putText x.C).length : Int), 0) := by
        rw [num_GetText_eq (by unfold Len; rw [List.length_append]; omega), getText_put _ _ (by omega)]
      have hpl : all.length = pre.length + ((putText x.C).length + (cond (op_m x.Op) (putText x.M) [] ++ rest).length) := by rw [hp, List.length_append, List.length_append]
      have hw : IntKind.i64.wrap ((pre.length : Nat) + ((putText x.C).length : Int)) = ((pre ++ putText x.C).length : Nat) := by
        rw [wrapI (by omega) (by omega), List.length_append]; omega
      rw [hcut, Option.bind_some, hget, Option.bind_some]
      simp only
      rw [op_mayC_eq (by unfold Len; omega), m3, hw]
      exact g3 (pre ++ putText x.C) (by rw [hp]; simp)
  have k0 : cutP all 0 (all.length : Int) = some all := by
    have := cutP_from (l := all) (a := 0) (by simp)
    simpa using this
  have hfirst : op_reader_num all 0 0 = some (x.Op, (((put x.Op).length : Nat) : Int), 0) := by
    unfold op_reader_num op_reader_num_j1
    rw [k0, Option.bind_some]
    have : num_Get all = some (x.Op, ((put x.Op).length : Int), 0) := by
      rw [num_Get_eq (by unfold Len; omega), hall]
      unfold putIns
      rw [List.append_assoc, get_put _ _ hx.op.1 hx.op.2]
    rw [this, Option.bind_some]
    simp only
    rw [m1, wrapI (by omega) (by omega)]
    simp
  rw [← hall]
  unfold op_Get
  rw [hfirst, Option.bind_some]
  simp only
  have h0 : all = put x.Op ++ (cond (op_a x.Op) (put x.A) [] ++ (cond (op_c x.Op) (putText x.C) [] ++ (cond (op_m x.Op) (putText x.M) [] ++ rest))) := by rw [hall]; unfold putIns; simp
  cases h : op_a x.Op with
  | false =>
    have hA : x.A = 0 := by
      rw [mayA_eq, h] at m2; exact beq_iff_eq.1 m2
    rw [h] at h0
    have := g2 (put x.Op) (by simpa using h0)
    rw [hA] at this
    exact this
  | true =>
    rw [h] at h0
    simp only [cond_true] at h0 ⊢
    have hn : op_reader_num_s2 all ((put x.Op).length : Nat) 0 x.Op 0 [] [] = some (x.A, (((put x.Op ++ put x.A).length : Nat) : Int), 0) := by
      unfold op_reader_num_s2 op_reader_num_s2_j1 op_Get_1
      have hcut : cutP all (((put x.Op).length : Nat) : Int) (all.length : Int) = some (put x.A ++ (cond (op_c x.Op) (putText x.C) [] ++ (cond (op_m x.Op) (putText x.M) [] ++ rest))) := by rw [h0]; exact cut_pre
      have hle : (put x.A ++ (cond (op_c x.Op) (putText x.C) [] ++ (cond (op_m x.Op) (putText x.M) [] ++ rest))).length ≤ all.length := by
        have := congrArg List.length h0
        rw [List.length_append] at this
        omega
      have : num_Get (put x.A ++ (cond (op_c x.Op) (putText x.C) [] ++ (cond (op_m x.Op) (putText x.M) [] ++ rest))) = some (x.A, ((put x.A).length : Int), 0) := by
        rw [num_Get_eq (by unfold Len; omega), get_put _ _ hx.a.1 hx.a.2]
      rw [hcut, Option.bind_some, this, Option.bind_some]
      simp only
      rw [m2, wrapI (by omega) (by omega), List.length_append]
      simp
    rw [hn, Option.bind_some]
    exact g2 (put x.Op ++ put x.A) (by rw [h0]; simp)
theorem law3_begun_eq : law3_begun = some true := by
  have c1 : kind_May [91, 91, 65, 98] = some true := by rw [kind_May_eq (by decide)]; rfl
  have c2 : kind_May [65, 98] = some true := by rw [kind_May_eq (by decide)]; rfl
  have c3 : kind_Class [65, 98] = some true := by rw [kind_Class_eq (by decide)]; rfl
  have c4 : kind_Class [65] = some false := by rw [kind_Class_eq (by decide)]; rfl
  have c5 : kind_Name [97, 98] = some true := by rw [kind_Name_eq (by decide)]; rfl
  have c6 : kind_Name [36, 105, 110, 105, 116] = some true := by rw [kind_Name_eq (by decide)]; rfl
  have c7 : kind_Name [65, 98] = some false := by rw [kind_Name_eq (by decide)]; rfl
  have c8 : kind_May [91, 91, 73] = some true := by rw [kind_May_eq (by decide)]; rfl
  have c9 : kind_May [91, 91, 91, 73] = some false := by rw [kind_May_eq (by decide)]; rfl
  have c10 : kind_Ret [86] = some true := by rw [kind_Ret_eq (by decide)]; rfl
  have c11 : kind_May [86] = some false := by rw [kind_May_eq (by decide)]; rfl
  have c12 : kind_Ref [91, 73] = some true := by rw [kind_Ref_eq (by decide)]; rfl
  have c13 : kind_Ref [73] = some false := by rw [kind_Ref_eq (by decide)]; rfl
  have c14 : kind_May [73] = some true := by rw [kind_May_eq (by decide)]; rfl
  have c15 : kind_May [91, 73] = some true := by rw [kind_May_eq (by decide)]; rfl
  have e1 : kind_Elem [91, 91, 65, 98] = some ([91, 65, 98], true) := by unfold kind_Elem; rw [c1]; rfl
  have e2 : kind_Elem [65, 98] = some ([], false) := by unfold kind_Elem; rw [c2]; rfl
  have e3 : kind_Array [73] = some [91, 73] := by
    unfold kind_Array
    rw [c14, show catP [91] [73] = some [91, 73] from rfl, Option.bind_some, Option.bind_some, c15]; rfl
  have e4 : kind_Array [91, 91, 73] = some [] := by
    unfold kind_Array
    rw [c8, show catP [91] [91, 91, 73] = some [91, 91, 91, 73] from rfl, Option.bind_some, Option.bind_some, c9]; rfl
  unfold law3_begun
  rw [e1, e2, c3, c4, c5, c6, c7, c8, c9, c10, c11, c12, c13, e3, e4]
  rfl
theorem law3_Begun_eq : law3_Begun = some true := by unfold law3_Begun; rw [law3_begun_eq]; rfl
theorem law4_begun_eq : law4_begun = some true := by
  have hx : InsIn (ApiIns.mk 43 0 [65, 98] [102]) := ⟨by decide, by decide, by decide, by decide⟩
  have hm : mayIns (ApiIns.mk 43 0 [65, 98] [102]) = true := by decide +kernel
  have hp : putIns (ApiIns.mk 43 0 [65, 98] [102]) = [86, 4, 65, 98, 2, 102] := by decide +kernel
  have g1 := op_Get_put (rest := [1]) hx hm (by decide)
  have p1 := op_Put_eq (bs := []) hx (by decide)
  rw [hp] at g1 p1
  have m1 : op_May (ApiIns.mk 43 0 [65, 98] [102]) = some true := by rw [op_May_eq (by decide) (by decide), hm]
  have m2 : op_May (ApiIns.mk 43 0 [] []) = some false := by
    rw [op_May_eq (by decide) (by decide)]
    exact congrArg some (by decide +kernel)
  have ge : op_Get [] = some (ApiIns.mk 0 0 [] [], 0, 2) := by
    have : op_reader_num [] 0 0 = some (0, 0, 2) := by
      unfold op_reader_num
      rw [show cutP ([] : List UInt8) 0 (List.length ([] : List UInt8) : Int) = some [] from rfl, Option.bind_some, num_Get_eq (by decide)]
      rfl
    unfold op_Get
    rw [this]
    rfl
  have g0 : op_Get [(0 : UInt8)] = some (ApiIns.mk 0 0 [] [], 0, 1) := by
    have : op_reader_num [(0 : UInt8)] 0 0 = some (0, 1, 1) := by
      unfold op_reader_num
      rw [show cutP [(0 : UInt8)] 0 (List.length [(0 : UInt8)] : Int) = some [0] from rfl, Option.bind_some, num_Get_eq (by decide)]
      rfl
    unfold op_Get
    rw [this]
    rfl
  unfold law4_begun
  rw [p1, Option.bind_some, show appP 1 ([] : List UInt8) ([] ++ [86, 4, 65, 98, 2, 102]) = some [86, 4, 65, 98, 2, 102] from rfl, Option.bind_some, show appP 1 ([86, 4, 65, 98, 2, 102] : List UInt8) [(1 : UInt8)] = some ([86, 4, 65, 98, 2, 102] ++ [1]) from rfl, Option.bind_some, g1, ge, g0, law3_Begun_eq, m1, m2]
  decide +kernel
end Go.Proofs.YtdhpdpkcfffpiaaGreat
namespace Go.Proofs.YtdhpdpkcfffpiaaGreat
set_option linter.unusedSimpArgs false
set_option linter.unusedVariables false
def ixF {α : Type} (p : α → Bool) : Nat → List α → Int
  | _, [] => -1
  | k, x :: r => cond (p x) (k : Int) (ixF p (k + 1) r)
theorem ixF_any {α : Type} (p : α → Bool) : ∀ (k : Nat) (l : List α), decide (0 ≤ ixF p k l) = l.any p
  | _, [] => rfl
  | k, x :: r => by
    unfold ixF
    rw [List.any_cons]
    cases p x with
    | true => exact decide_eq_true (show (0 : Int) ≤ (k : Int) by omega)
    | false => exact ixF_any p (k + 1) r
theorem index_loop {α : Type} {body : Int → Option (Sum Int (Sum Unit Int))} {l : List α} {p : α → Bool} (hl : l.length ≤ 9223372036854775807)
    (hb : ∀ (i : Nat) x, l[i]? = some x → body (i : Int) = cond (p x) (some (.inr (.inr (i : Int)))) (some (.inl (IntKind.i64.wrap ((i : Int) + 1)))))
    (he : body (l.length : Int) = some (.inr (.inl ()))) :
    (loopP body 0).bind (fun o => leave o (fun _ => some (-1 : Int)) some) = some (ixF p 0 l) := by
  have key : ∀ (r pre : List α), l = pre ++ r → (loopP body (pre.length : Int)).bind (fun o => leave o (fun _ => some (-1 : Int)) some) = some (ixF p pre.length r) := by
    intro r
    induction r with
    | nil =>
      intro pre h
      rw [List.append_nil] at h
      subst h
      rw [loopP_eq, he]
      rfl
    | cons x r ih =>
      intro pre h
      have hlen : l.length = pre.length + (r.length + 1) := by rw [h]; simp
      have hx : l[pre.length]? = some x := by rw [h]; simp
      rw [loopP_eq, hb _ x hx]
      unfold ixF
      cases p x with
      | true => rfl
      | false =>
        rw [wrap_succ (by omega)]
        have := ih (pre ++ [x]) (by rw [h]; simp)
        rw [show (pre ++ [x]).length = pre.length + 1 by simp] at this
        exact this
  exact key l [] rfl
def uB {α : Type} (ok : α → Bool) (nm : α → List UInt8) : List α → List α → Bool
  | _, [] => false
  | pre, x :: r => (!ok x || pre.any (fun y => nm x == nm y)) || uB ok nm (pre ++ [x]) r
theorem uniq_loop {α : Type} {body : Int → Option (Sum Int (Sum Unit Bool))} {l : List α} {ok : α → Bool} {nm : α → List UInt8} (hl : l.length ≤ 9223372036854775807)
    (hb : ∀ (i : Nat) x, l[i]? = some x → body (i : Int) = cond (!ok x || (l.take i).any (fun y => nm x == nm y)) (some (.inr (.inr false))) (some (.inl (IntKind.i64.wrap ((i : Int) + 1)))))
    (he : body (l.length : Int) = some (.inr (.inl ()))) {k : Option Bool} :
    (loopP body 0).bind (fun o => leave o (fun _ => k) some) = cond (uB ok nm [] l) (some false) k := by
  have key : ∀ (r pre : List α), l = pre ++ r → (loopP body (pre.length : Int)).bind (fun o => leave o (fun _ => k) some) = cond (uB ok nm pre r) (some false) k := by
    intro r
    induction r with
    | nil =>
      intro pre h
      rw [List.append_nil] at h
      subst h
      rw [loopP_eq, he]
      rfl
    | cons x r ih =>
      intro pre h
      have hlen : l.length = pre.length + (r.length + 1) := by rw [h]; simp
      have hx : l[pre.length]? = some x := by rw [h]; simp
      have ht : l.take pre.length = pre := by rw [h]; simp
      rw [loopP_eq, hb _ x hx, ht]
      unfold uB
      cases !ok x || pre.any (fun y => nm x == nm y) with
      | true => rfl
      | false =>
        rw [wrap_succ (by omega)]
        have := ih (pre ++ [x]) (by rw [h]; simp)
        rw [show (pre ++ [x]).length = pre.length + 1 by simp] at this
        exact this
  exact key l [] rfl
def eqL {α : Type} (e : α → α → Bool) : List α → List α → Bool
  | [], [] => true
  | x :: a, y :: b => e x y && eqL e a b
  | _, _ => false
theorem eqL_len {α : Type} (e : α → α → Bool) : ∀ (a b : List α), a.length ≠ b.length → eqL e a b = false
  | [], [], h => absurd rfl h
  | [], _ :: _, _ => rfl
  | _ :: _, [], _ => rfl
  | x :: a, y :: b, h => by
    show (e x y && eqL e a b) = false
    rw [eqL_len e a b (fun hh => h (by simp [hh])), Bool.and_false]
theorem equal_loop {α : Type} {body : Int → Option (Sum Int (Sum Unit Bool))} {a b : List α} {e : α → α → Bool} (hl : a.length ≤ 9223372036854775807)
    (hb : ∀ (i : Nat) x y, a[i]? = some x → b[i]? = some y → body (i : Int) = cond (!e x y) (some (.inr (.inr false))) (some (.inl (IntKind.i64.wrap ((i : Int) + 1)))))
    (he : body (a.length : Int) = some (.inr (.inl ()))) :
    cond (!((a.length : Int) == (b.length : Int))) (some false) ((loopP body 0).bind (fun o => leave o (fun _ => some true) some)) = some (eqL e a b) := by
  by_cases hn : a.length = b.length
  · have key : ∀ (r s pre pre' : List α), pre.length = pre'.length → a = pre ++ r → b = pre' ++ s → (loopP body (pre.length : Int)).bind (fun o => leave o (fun _ => some true) some) = some (eqL e r s) := by
      intro r
      induction r with
      | nil =>
        intro s pre pre' hp h1 h2
        have : s = [] := by
          have : a.length = pre.length := by rw [h1]; simp
          have : b.length = pre'.length + s.length := by rw [h2]; simp
          exact List.eq_nil_of_length_eq_zero (by omega)
        subst this
        rw [List.append_nil] at h1
        subst h1
        rw [loopP_eq, he]
        rfl
      | cons x r ih =>
        intro s pre pre' hp h1 h2
        have hlen : a.length = pre.length + (r.length + 1) := by rw [h1]; simp
        have hlen2 : b.length = pre'.length + s.length := by rw [h2]; simp
        cases s with
        | nil => simp at hlen2; omega
        | cons y s =>
          have hx : a[pre.length]? = some x := by rw [h1]; simp
          have hy : b[pre.length]? = some y := by rw [h2, hp]; simp
          rw [loopP_eq, hb _ x y hx hy]
          show _ = some (e x y && eqL e r s)
          cases e x y with
          | false => rfl
          | true =>
            rw [wrap_succ (by omega)]
            have := ih s (pre ++ [x]) (pre' ++ [y]) (by simp [hp]) (by rw [h1]; simp) (by rw [h2]; simp)
            rw [show (pre ++ [x]).length = pre.length + 1 by simp] at this
            exact this
    rw [show ((a.length : Int) == (b.length : Int)) = true from beq_iff_eq.2 (by omega)]
    exact key a b [] [] rfl rfl rfl
  · rw [eqL_len e a b hn, show ((a.length : Int) == (b.length : Int)) = false from beq_eq_false_iff_ne.2 (by omega)]
    rfl
abbrev LenL {α : Type} (l : List α) : Prop := l.length ≤ 9223372036854775807
theorem here {α : Type} {l : List α} {i : Nat} {x : α} (h : l[i]? = some x) : decide ((i : Int) < (l.length : Int)) = true :=
  decide_eq_true (by have := (List.getElem?_eq_some_iff.1 h).1; omega)
theorem past {α : Type} (l : List α) : decide ((l.length : Int) < (l.length : Int)) = false := decide_eq_false (by omega)
theorem hasField {l : List ApiField} (hl : LenL l) (n t : List UInt8) (s : Bool) : slices_ContainsFunc_api_Field_api_Field l n t s = some (l.any fun y => n == y.Name) := by
  unfold slices_ContainsFunc_api_Field_api_Field slices_IndexFunc_api_Field_api_Field
  rw [show ((loopP (fun z => slices_IndexFunc_api_Field_api_Field_l1 l n t s z) 0).bind fun o => leave o (fun b => slices_IndexFunc_api_Field_api_Field_k2) some) = _ from index_loop (p := fun y : ApiField => n == y.Name) hl
    (fun i x hx => by unfold slices_IndexFunc_api_Field_api_Field_l1; rw [here hx, idx_nat, hx]; rfl) (by unfold slices_IndexFunc_api_Field_api_Field_l1; rw [past]; rfl)]
  exact congrArg some (ixF_any _ 0 l)
theorem hasMethod {l : List ApiMethod} (hl : LenL l) (n : List UInt8) (a b c d e f g h i) : slices_ContainsFunc_api_Method_api_Method l n a b c d e f g h i = some (l.any fun y => n == y.Name) := by
  unfold slices_ContainsFunc_api_Method_api_Method slices_IndexFunc_api_Method_api_Method
  rw [show ((loopP (fun z => slices_IndexFunc_api_Method_api_Method_l1 l n a b c d e f g h i z) 0).bind fun o => leave o (fun b => slices_IndexFunc_api_Method_api_Method_k2) some) = _ from index_loop (p := fun y : ApiMethod => n == y.Name) hl
    (fun i x hx => by unfold slices_IndexFunc_api_Method_api_Method_l1; rw [here hx, idx_nat, hx]; rfl) (by unfold slices_IndexFunc_api_Method_api_Method_l1; rw [past]; rfl)]
  exact congrArg some (ixF_any _ 0 l)
theorem hasName {l : List (List UInt8)} (hl : LenL l) (n : List UInt8) : slices_ContainsFunc_string_string_s3 l n = some (l.any fun y => n == y) := by
  unfold slices_ContainsFunc_string_string_s3 slices_IndexFunc_string_string_s3
  rw [show ((loopP (fun z => slices_IndexFunc_string_string_s3_l1 l n z) 0).bind fun o => leave o (fun b => slices_IndexFunc_string_string_s3_k2) some) = _ from index_loop (p := fun y : List UInt8 => n == y) hl
    (fun i x hx => by unfold slices_IndexFunc_string_string_s3_l1; rw [here hx, idx_nat, hx]; rfl) (by unfold slices_IndexFunc_string_string_s3_l1; rw [past]; rfl)]
  exact congrArg some (ixF_any _ 0 l)
theorem class_Method_eq {c : ApiClass} (hl : LenL c.Methods) (n : List UInt8) : class_Method c n = some (ixF (fun y => y.Name == n) 0 c.Methods) := by
  unfold class_Method slices_IndexFunc_api_Method_api_Method_s2
  rw [show ((loopP (fun z => slices_IndexFunc_api_Method_api_Method_s2_l1 c.Methods n z) 0).bind fun o => leave o (fun b => slices_IndexFunc_api_Method_api_Method_s2_k2) some) = _ from index_loop (p := fun y : ApiMethod => y.Name == n) hl
    (fun i x hx => by unfold slices_IndexFunc_api_Method_api_Method_s2_l1; rw [here hx, idx_nat, hx]; rfl) (by unfold slices_IndexFunc_api_Method_api_Method_s2_l1; rw [past]; rfl)]
  rfl
theorem class_Field_eq {c : ApiClass} (hl : LenL c.Fields) (n : List UInt8) : class_Field c n = some (ixF (fun y => y.Name == n) 0 c.Fields) := by
  unfold class_Field slices_IndexFunc_api_Field_api_Field_s2
  rw [show ((loopP (fun z => slices_IndexFunc_api_Field_api_Field_s2_l1 c.Fields n z) 0).bind fun o => leave o (fun b => slices_IndexFunc_api_Field_api_Field_s2_k2) some) = _ from index_loop (p := fun y : ApiField => y.Name == n) hl
    (fun i x hx => by unfold slices_IndexFunc_api_Field_api_Field_s2_l1; rw [here hx, idx_nat, hx]; rfl) (by unfold slices_IndexFunc_api_Field_api_Field_s2_l1; rw [past]; rfl)]
  rfl
noncomputable def fieldN (f : ApiField) : Bool := (nameN f.Name && !(f.Name == [36, 105, 110, 105, 116])) && mayN f.Type_
theorem class_May_2_eq {f : ApiField} (h1 : Len f.Name) (h2 : Len f.Type_) : class_May_2 f = some (fieldN f) := by
  unfold class_May_2 fieldN
  rw [kind_Name_eq h1, kind_May_eq h2, Option.bind_some]
  cases (nameN f.Name && !(f.Name == [36, 105, 110, 105, 116])) <;> rfl
theorem allFields {l : List ApiField} (hl : LenL l) (h : ∀ f ∈ l, Len f.Name ∧ Len f.Type_) (n : Int) : class_all_api_Field l n = cond (uB fieldN (·.Name) [] l) (some false) (some (decide ((l.length : Int) ≤ n))) := by
  unfold class_all_api_Field
  refine uniq_loop (ok := fieldN) (nm := (·.Name)) hl (fun i x hx => ?_) ?_
  · have hm := h x (List.mem_of_getElem? hx)
    have hi := (List.getElem?_eq_some_iff.1 hx).1
    unfold class_all_api_Field_l1
    rw [here hx, idx_nat, hx]
    simp only [Option.bind_some, cond_true]
    rw [class_May_2_eq hm.1 hm.2, Option.bind_some, cutP_to (by omega), Option.bind_some, hasField (by unfold LenL at *; rw [List.length_take]; omega)]
    cases fieldN x <;> rfl
  · unfold class_all_api_Field_l1
    rw [past]; rfl
theorem allNames {l : List (List UInt8)} (hl : LenL l) (h : ∀ s ∈ l, Len s) (n : Int) : class_all_string l n = cond (uB classN id [] l) (some false) (some (decide ((l.length : Int) ≤ n))) := by
  unfold class_all_string
  refine uniq_loop (ok := classN) (nm := id) hl (fun i x hx => ?_) ?_
  · have hm := h x (List.mem_of_getElem? hx)
    have hi := (List.getElem?_eq_some_iff.1 hx).1
    unfold class_all_string_l1
    rw [here hx, idx_nat, hx]
    simp only [Option.bind_some, cond_true]
    rw [kind_Class_eq hm, Option.bind_some, cutP_to (by omega), Option.bind_some, hasName (by unfold LenL at *; rw [List.length_take]; omega)]
    cases classN x <;> rfl
  · unfold class_all_string_l1
    rw [past]; rfl
noncomputable def typesN (l : List (List UInt8)) : Bool := !(l.any fun s => !mayN s)
theorem class_types_eq {l : List (List UInt8)} (hl : LenL l) (h : ∀ s ∈ l, Len s) : class_types l = some (typesN l) := by
  unfold class_types slices_ContainsFunc_string_string slices_IndexFunc_string_string
  rw [show ((loopP (fun z => slices_IndexFunc_string_string_l1 l z) 0).bind fun o => leave o (fun b => slices_IndexFunc_string_string_k2) some) = _ from index_loop (p := fun s => !mayN s) hl
    (fun i x hx => by
      unfold slices_IndexFunc_string_string_l1 class_types_1
      rw [here hx, idx_nat, hx]
      simp only [Option.bind_some, cond_true]
      rw [kind_May_eq (h x (List.mem_of_getElem? hx))]
      rfl) (by unfold slices_IndexFunc_string_string_l1; rw [past]; rfl)]
  rw [Option.bind_some, ixF_any]
  rfl
noncomputable def insN (n : Int) (x : ApiIns) : Bool := (!mayIns x) || (op_Jumps x.Op && decide (n ≤ x.A))
noncomputable def instrN (c : List ApiIns) : Bool := class_between (c.length : Int) 1 100 && (c.getLast?.elim false (fun y => op_Ends y.Op) && !(c.any (insN (c.length : Int))))
theorem class_instructions_eq {m : ApiMethod} (hl : LenL m.Code) (h : ∀ x ∈ m.Code, Len x.C ∧ Len x.M) : class_instructions m = some (instrN m.Code) := by
  have hc : slices_ContainsFunc_api_Ins_api_Ins m.Code (m.Code.length : Int) = some (m.Code.any (insN (m.Code.length : Int))) := by
    unfold slices_ContainsFunc_api_Ins_api_Ins slices_IndexFunc_api_Ins_api_Ins
    rw [show ((loopP (fun z => slices_IndexFunc_api_Ins_api_Ins_l1 m.Code (m.Code.length : Int) z) 0).bind fun o => leave o (fun b => slices_IndexFunc_api_Ins_api_Ins_k2) some) = _ from index_loop (p := insN (m.Code.length : Int)) hl
      (fun i x hx => by
        have hm := h x (List.mem_of_getElem? hx)
        unfold slices_IndexFunc_api_Ins_api_Ins_l1 class_instructions_1
        rw [here hx, idx_nat, hx]
        simp only [Option.bind_some, cond_true]
        rw [op_May_eq hm.1 hm.2]
        rfl) (by unfold slices_IndexFunc_api_Ins_api_Ins_l1; rw [past]; rfl)]
    exact congrArg some (ixF_any _ 0 _)
  unfold class_instructions instrN
  rw [hc]
  cases hb : class_between (m.Code.length : Int) 1 100 with
  | false => rfl
  | true =>
    have hb' : (decide (1 ≤ (m.Code.length : Int)) && decide ((m.Code.length : Int) ≤ 100)) = true := hb
    simp only [Bool.and_eq_true, decide_eq_true_eq] at hb'
    have e : IntKind.i64.wrap ((m.Code.length : Int) - 1) = ((m.Code.length - 1 : Nat) : Int) := by
      rw [wrapI (by omega) (by omega)]; omega
    rw [e, idx_nat, ← List.getLast?_eq_getElem?]
    cases hg : m.Code.getLast? with
    | none =>
      rw [List.getLast?_eq_none_iff] at hg
      rw [hg] at hb'
      simp at hb'
    | some y =>
      simp only [Option.bind_some, Bool.not_true, cond_false, Option.elim_some, Bool.true_and]
      cases op_Ends y.Op <;> rfl
noncomputable def trapN (n : Int) (y : ApiTrap) : Bool := (((decide (y.From < 0) || decide (y.To ≤ y.From)) || decide (n < y.To)) || !(class_between y.At 0 (IntKind.i64.wrap (n - 1)))) || (!(y.C == []) && !classN y.C)
noncomputable def trapsN (m : ApiMethod) : Bool := !(m.Traps.any (trapN (m.Code.length : Int))) && decide ((m.Traps.length : Int) ≤ 6)
theorem class_traps_eq {m : ApiMethod} (hl : LenL m.Traps) (h : ∀ x ∈ m.Traps, Len x.C) : class_traps m = some (trapsN m) := by
  unfold class_traps slices_ContainsFunc_api_Trap_api_Trap slices_IndexFunc_api_Trap_api_Trap
  rw [show ((loopP (fun z => slices_IndexFunc_api_Trap_api_Trap_l1 m.Traps m.Name m.Params m.Ret m.Static m.Abstract m.Locals m.Stack m.Code m.Maps m.Traps z) 0).bind fun o => leave o (fun b => slices_IndexFunc_api_Trap_api_Trap_k2) some) = _ from index_loop (p := trapN (m.Code.length : Int)) hl
    (fun i x hx => by
      have hm := h x (List.mem_of_getElem? hx)
      unfold slices_IndexFunc_api_Trap_api_Trap_l1 class_traps_1 trapN
      rw [here hx, idx_nat, hx]
      simp only [Option.bind_some, cond_true]
      rw [kind_Class_eq hm]
      cases (((decide (x.From < 0) || decide (x.To ≤ x.From)) || decide ((m.Code.length : Int) < x.To)) || !(class_between x.At 0 (IntKind.i64.wrap ((m.Code.length : Int) - 1)))) with
      | true => rfl
      | false => cases (x.C == []) <;> rfl) (by unfold slices_IndexFunc_api_Trap_api_Trap_l1; rw [past]; rfl)]
  rw [Option.bind_some, ixF_any]
  rfl
structure MIn (m : ApiMethod) : Prop where
  name : Len m.Name
  params : LenL m.Params ∧ ∀ s ∈ m.Params, Len s
  ret : Len m.Ret
  code : LenL m.Code ∧ ∀ x ∈ m.Code, Len x.C ∧ Len x.M
  maps : m.Maps = []
  traps : LenL m.Traps ∧ ∀ x ∈ m.Traps, Len x.C
noncomputable def methodN (m : ApiMethod) : Bool :=
  ((!((!nameN m.Name) || decide (6 < (m.Params.length : Int))) && typesN m.Params) && retN m.Ret) && cond m.Abstract (class_empty m)
    (!((m.Name == [36, 105, 110, 105, 116]) && (((!m.Static) || decide (0 < (m.Params.length : Int))) || (!(m.Ret == [86])))) && (class_between m.Locals (class_args m) 16 && (class_between m.Stack 0 16 && (instrN m.Code && trapsN m))))
theorem class_method_eq {m : ApiMethod} (h : MIn m) : class_method m = some (methodN m) := by
  have hm : class_maps m = some true := by
    unfold class_maps
    rw [loopP_eq]
    show ((class_maps_l3 m 0).bind _).bind _ = _
    unfold class_maps_l3 class_maps_k4
    rw [h.maps]
    rfl
  unfold class_method methodN
  rw [kind_Name_eq h.name, Option.bind_some, class_types_eq h.params.1 h.params.2, kind_Ret_eq h.ret, class_instructions_eq h.code.1 h.code.2, hm, class_traps_eq h.traps.1 h.traps.2]
  cases ((!nameN m.Name) || decide (6 < (m.Params.length : Int))) with
  | true => rfl
  | false =>
    cases typesN m.Params with
    | false => rfl
    | true =>
      cases retN m.Ret with
      | false => rfl
      | true =>
        cases m.Abstract with
        | true => rfl
        | false =>
          cases ((m.Name == [36, 105, 110, 105, 116]) && (((!m.Static) || decide (0 < (m.Params.length : Int))) || (!(m.Ret == [86])))) with
          | true => rfl
          | false =>
            cases class_between m.Locals (class_args m) 16 with
            | false => rfl
            | true =>
              cases class_between m.Stack 0 16 with
              | false => rfl
              | true => cases instrN m.Code <;> rfl
theorem allMethods {l : List ApiMethod} (hl : LenL l) (h : ∀ m ∈ l, MIn m) (n : Int) (a b : List UInt8) (i : Bool) (c : List (List UInt8)) (d : List ApiField) (e : List ApiMethod) :
    class_all_api_Method l n a b i c d e = cond (uB (fun m => (m.Abstract == i) && methodN m) (·.Name) [] l) (some false) (some (decide ((l.length : Int) ≤ n))) := by
  unfold class_all_api_Method
  refine uniq_loop (ok := fun m => (m.Abstract == i) && methodN m) (nm := (·.Name)) hl (fun j x hx => ?_) ?_
  · have hm := h x (List.mem_of_getElem? hx)
    have hi := (List.getElem?_eq_some_iff.1 hx).1
    unfold class_all_api_Method_l1 class_May_4
    rw [here hx, idx_nat, hx]
    simp only [Option.bind_some, cond_true]
    rw [class_method_eq hm, cutP_to (by omega)]
    simp only [Option.bind_some]
    rw [hasMethod (by unfold LenL at *; rw [List.length_take]; omega)]
    cases (x.Abstract == i) with
    | false => rfl
    | true => cases methodN x <;> rfl
  · unfold class_all_api_Method_l1
    rw [past]; rfl
structure CIn (c : ApiClass) : Prop where
  name : Len c.Name
  super : Len c.Super
  impl : LenL c.Impl ∧ ∀ s ∈ c.Impl, Len s
  fields : LenL c.Fields ∧ ∀ f ∈ c.Fields, Len f.Name ∧ Len f.Type_
  methods : LenL c.Methods ∧ ∀ m ∈ c.Methods, MIn m
noncomputable def mayClass (c : ApiClass) : Bool :=
  !(c.Interface && ((!(c.Super == [79, 98, 106, 101, 99, 116])) || decide (0 < (c.Fields.length : Int)))) &&
  (((((classN c.Name && classN c.Super) && (!(uB classN id [] c.Impl) && decide ((c.Impl.length : Int) ≤ 4))) && (!(uB fieldN (·.Name) [] c.Fields) && decide ((c.Fields.length : Int) ≤ 8)))) &&
    (!(uB (fun m => (m.Abstract == c.Interface) && methodN m) (·.Name) [] c.Methods) && decide ((c.Methods.length : Int) ≤ 8)))
theorem class_May_eq {c : ApiClass} (h : CIn c) : class_May c = some (mayClass c) := by
  have e : ∀ (b d : Bool), cond b (some false) (some d) = some (!b && d) := fun b d => by cases b <;> rfl
  unfold class_May mayClass
  rw [allFields h.fields.1 h.fields.2, allMethods h.methods.1 h.methods.2, kind_Class_eq h.name, kind_Class_eq h.super, allNames h.impl.1 h.impl.2, e, e, e]
  cases (c.Interface && ((!(c.Super == [79, 98, 106, 101, 99, 116])) || decide (0 < (c.Fields.length : Int)))) with
  | true => rfl
  | false =>
    cases classN c.Name with
    | false => rfl
    | true => cases classN c.Super <;> rfl
end Go.Proofs.YtdhpdpkcfffpiaaGreat
namespace Go.Proofs.YtdhpdpkcfffpiaaGreat
set_option linter.unusedSimpArgs false
set_option linter.unusedVariables false
def beqS (x y : List UInt8) : Bool := x == y
theorem eqStr {a b : List (List UInt8)} (hl : LenL a) : slices_Equal_string_string a b = some (eqL beqS a b) := by
  unfold slices_Equal_string_string
  refine equal_loop hl (fun i x y hx hy => ?_) ?_
  · unfold slices_Equal_string_string_l1
    rw [here hx, idx_nat, idx_nat, hx, hy]; rfl
  · unfold slices_Equal_string_string_l1
    rw [past]; rfl
def beqF (x y : ApiField) : Bool := (x.Name == y.Name) && ((x.Type_ == y.Type_) && ((x.Static == y.Static) && true))
theorem eqFields {a b : List ApiField} (hl : LenL a) : slices_Equal_api_Field_api_Field a b = some (eqL beqF a b) := by
  unfold slices_Equal_api_Field_api_Field
  refine equal_loop hl (fun i x y hx hy => ?_) ?_
  · unfold slices_Equal_api_Field_api_Field_l1
    rw [here hx, idx_nat, idx_nat, hx, hy]; rfl
  · unfold slices_Equal_api_Field_api_Field_l1
    rw [past]; rfl
def beqI (x y : ApiIns) : Bool := (x.Op == y.Op) && ((x.A == y.A) && ((x.C == y.C) && ((x.M == y.M) && true)))
theorem eqCode {a b : List ApiIns} (hl : LenL a) : slices_Equal_api_Ins_api_Ins a b = some (eqL beqI a b) := by
  unfold slices_Equal_api_Ins_api_Ins
  refine equal_loop hl (fun i x y hx hy => ?_) ?_
  · unfold slices_Equal_api_Ins_api_Ins_l1
    rw [here hx, idx_nat, idx_nat, hx, hy]; rfl
  · unfold slices_Equal_api_Ins_api_Ins_l1
    rw [past]; rfl
def beqT (x y : ApiTrap) : Bool := (x.From == y.From) && ((x.To == y.To) && ((x.At == y.At) && ((x.C == y.C) && true)))
theorem eqTraps {a b : List ApiTrap} (hl : LenL a) : slices_Equal_api_Trap_api_Trap a b = some (eqL beqT a b) := by
  unfold slices_Equal_api_Trap_api_Trap
  refine equal_loop hl (fun i x y hx hy => ?_) ?_
  · unfold slices_Equal_api_Trap_api_Trap_l1
    rw [here hx, idx_nat, idx_nat, hx, hy]; rfl
  · unfold slices_Equal_api_Trap_api_Trap_l1
    rw [past]; rfl
def beqMap (x y : ApiMap) : Bool := ((x.At == y.At) && eqL beqS x.Locals y.Locals) && eqL beqS x.Stack y.Stack
theorem class_eqMethod_1_eq {x y : ApiMap} (h1 : LenL x.Locals) (h2 : LenL x.Stack) : class_eqMethod_1 x y = some (beqMap x y) := by
  unfold class_eqMethod_1 beqMap
  rw [eqStr h1, eqStr h2]
  cases (x.At == y.At) with
  | false => rfl
  | true => cases eqL beqS x.Locals y.Locals <;> rfl
theorem eqMaps {a b : List ApiMap} (hl : LenL a) (h : ∀ x ∈ a, LenL x.Locals ∧ LenL x.Stack) : slices_EqualFunc_api_Map_api_Map_api_Map_api_Map a b = some (eqL beqMap a b) := by
  unfold slices_EqualFunc_api_Map_api_Map_api_Map_api_Map
  refine equal_loop hl (fun i x y hx hy => ?_) ?_
  · have hm := h x (List.mem_of_getElem? hx)
    unfold slices_EqualFunc_api_Map_api_Map_api_Map_api_Map_l1
    rw [here hx, idx_nat, idx_nat, hx, hy]
    simp only [Option.bind_some, cond_true]
    rw [class_eqMethod_1_eq hm.1 hm.2]
    rfl
  · unfold slices_EqualFunc_api_Map_api_Map_api_Map_api_Map_l1
    rw [past]; rfl
structure EIn (m : ApiMethod) : Prop where
  params : LenL m.Params
  code : LenL m.Code
  maps : LenL m.Maps ∧ ∀ x ∈ m.Maps, LenL x.Locals ∧ LenL x.Stack
  traps : LenL m.Traps
def beqM (x y : ApiMethod) : Bool :=
  ((((eqL beqMap x.Maps y.Maps && (((((x.Name == y.Name) && eqL beqS x.Params y.Params) && (x.Ret == y.Ret)) && (x.Static == y.Static)) && (x.Abstract == y.Abstract))) && (x.Locals == y.Locals)) && (x.Stack == y.Stack)) && eqL beqI x.Code y.Code) && eqL beqT x.Traps y.Traps
theorem class_eqMethod_eq {x y : ApiMethod} (h : EIn x) : class_eqMethod x y = some (beqM x y) := by
  unfold class_eqMethod beqM
  rw [eqMaps h.maps.1 h.maps.2, eqStr h.params, eqCode h.code, eqTraps h.traps]
  simp only [Option.bind_some]
  simp only [show ∀ b d : Bool, (cond b (some d) (some false)) = some (b && d) from fun b d => by cases b <;> rfl, Option.bind_some]
theorem eqMethods {a b : List ApiMethod} (hl : LenL a) (h : ∀ x ∈ a, EIn x) : slices_EqualFunc_api_Method_api_Method_api_Method_api_Method a b = some (eqL beqM a b) := by
  unfold slices_EqualFunc_api_Method_api_Method_api_Method_api_Method
  refine equal_loop hl (fun i x y hx hy => ?_) ?_
  · have hm := h x (List.mem_of_getElem? hx)
    unfold slices_EqualFunc_api_Method_api_Method_api_Method_api_Method_l1
    rw [here hx, idx_nat, idx_nat, hx, hy]
    simp only [Option.bind_some, cond_true]
    rw [class_eqMethod_eq hm]
    rfl
  · unfold slices_EqualFunc_api_Method_api_Method_api_Method_api_Method_l1
    rw [past]; rfl
structure ECIn (c : ApiClass) : Prop where
  impl : LenL c.Impl
  fields : LenL c.Fields
  methods : LenL c.Methods ∧ ∀ m ∈ c.Methods, EIn m
def beqC (x y : ApiClass) : Bool := (((((x.Name == y.Name) && (x.Super == y.Super)) && (x.Interface == y.Interface)) && eqL beqS x.Impl y.Impl) && eqL beqF x.Fields y.Fields) && eqL beqM x.Methods y.Methods
theorem class_Eq_eq {x y : ApiClass} (h : ECIn x) : class_Eq x y = some (beqC x y) := by
  unfold class_Eq beqC
  rw [eqStr h.impl, eqFields h.fields, eqMethods h.methods.1 h.methods.2]
  simp only [Option.bind_some]
  simp only [show ∀ b d : Bool, (cond b (some d) (some false)) = some (b && d) from fun b d => by cases b <;> rfl, Option.bind_some]
def meth (n : List UInt8) : ApiMethod := ApiMethod.mk n [] [86] true false 0 0 [ApiIns.mk 46 0 [] []] [] []
theorem meth_in {n : List UInt8} (h : Len n) : MIn (meth n) := by
  refine ⟨h, ⟨(Nat.le_of_ble_eq_true rfl), fun s hs => by cases hs⟩, (Nat.le_of_ble_eq_true rfl), ⟨(Nat.le_of_ble_eq_true rfl), fun x hx => ?_⟩, rfl, ⟨(Nat.le_of_ble_eq_true rfl), fun x hx => by cases hx⟩⟩
  obtain rfl : x = ApiIns.mk 46 0 [] [] := List.mem_singleton.1 hx
  exact ⟨by decide, by decide⟩
theorem law5_begun_eq : law5_begun = some true := by
  have i0 : ∀ n k, CIn (ApiClass.mk n k false [] [ApiField.mk [120] [73] false] [meth [109, 97, 105, 110]]) → True := fun _ _ _ => trivial
  have c0 : CIn (ApiClass.mk [65, 98] [79, 98, 106, 101, 99, 116] false [] [ApiField.mk [120] [73] false] [meth [109, 97, 105, 110]]) := by
    refine ⟨by decide, by decide, ⟨by decide, fun s hs => by cases hs⟩, ⟨by decide, fun f hf => ?_⟩, ⟨by decide, fun f hf => ?_⟩⟩
    · obtain rfl := List.mem_singleton.1 hf
      exact ⟨by decide, by decide⟩
    · obtain rfl := List.mem_singleton.1 hf
      exact meth_in (by decide)
  have c1 : CIn (ApiClass.mk [65, 98] [] false [] [] []) := by
    refine ⟨by decide, by decide, ⟨by decide, fun s hs => by cases hs⟩, ⟨by decide, fun f hf => by cases hf⟩, ⟨by decide, fun f hf => by cases hf⟩⟩
  have e0 : ECIn (ApiClass.mk [65, 98] [79, 98, 106, 101, 99, 116] false [] [ApiField.mk [120] [73] false] [meth [109, 97, 105, 110]]) := by
    refine ⟨by decide, by decide, ⟨by decide, fun f hf => ?_⟩⟩
    obtain rfl := List.mem_singleton.1 hf
    exact ⟨by decide, by decide, ⟨by decide, fun x hx => by cases hx⟩, by decide⟩
  have m0 := class_May_eq c0
  have m1 := class_May_eq c1
  have q0 := class_Eq_eq (y := ApiClass.mk [65, 98] [79, 98, 106, 101, 99, 116] false [] [ApiField.mk [120] [73] false] [meth [109, 97, 105, 110]]) e0
  have q1 := class_Eq_eq (y := ApiClass.mk [65, 98] [79, 98, 106, 101, 99, 116] false [] [ApiField.mk [120] [73] false] [ApiMethod.mk [109, 97, 105, 110] [] [86] true false 1 0 [ApiIns.mk 46 0 [] []] [] []]) e0
  have f0 := fun n => class_Field_eq (n := n) c0.fields.1
  have g0 := fun n => class_Method_eq (n := n) c0.methods.1
  unfold meth at m0 q0 q1 f0 g0
  unfold law5_begun
  rw [show law4_Begun = some true from (by unfold law4_Begun; rw [law4_begun_eq]; rfl), m0, m1, q0, q1, f0, f0, g0, g0]
  decide +kernel
end Go.Proofs.YtdhpdpkcfffpiaaGreat
namespace Go.Proofs.YtdhpdpkcfffpiaaGreat
set_option linter.unusedSimpArgs false
set_option linter.unusedVariables false
def gB {α : Type} (bad : List α → α → Bool) : List α → List α → Bool
  | _, [] => false
  | pre, x :: r => bad pre x || gB bad (pre ++ [x]) r
theorem gen_loop {α : Type} {body : Int → Option (Sum Int (Sum Unit Bool))} {l : List α} {bad : List α → α → Bool} (hl : l.length ≤ 9223372036854775807)
    (hb : ∀ (i : Nat) x, l[i]? = some x → body (i : Int) = cond (bad (l.take i) x) (some (.inr (.inr false))) (some (.inl (IntKind.i64.wrap ((i : Int) + 1)))))
    (he : body (l.length : Int) = some (.inr (.inl ()))) : loopP body 0 = some (cond (gB bad [] l) (.inr false) (.inl ())) := by
  have key : ∀ (r pre : List α), l = pre ++ r → loopP body (pre.length : Int) = some (cond (gB bad pre r) (.inr false) (.inl ())) := by
    intro r
    induction r with
    | nil =>
      intro pre h
      rw [List.append_nil] at h
      subst h
      rw [loopP_eq, he]
      rfl
    | cons x r ih =>
      intro pre h
      have hlen : l.length = pre.length + (r.length + 1) := by rw [h]; simp
      have hx : l[pre.length]? = some x := by rw [h]; simp
      have ht : l.take pre.length = pre := by rw [h]; simp
      rw [loopP_eq, hb _ x hx, ht]
      unfold gB
      cases bad pre x with
      | true => rfl
      | false =>
        rw [wrap_succ (by omega)]
        have := ih (pre ++ [x]) (by rw [h]; simp)
        rw [show (pre ++ [x]).length = pre.length + 1 by simp] at this
        exact this
  exact key l [] rfl
noncomputable def slotN (v : List UInt8) : Bool := (((v == [73]) || (v == [78])) || (v == [84])) || refN v
theorem class_slot_eq {s : List UInt8} (h : Len s) : class_slot s = some (slotN s) := by
  unfold class_slot slotN
  rw [kind_Ref_eq h]
  cases (((s == [73]) || (s == [78])) || (s == [84])) <;> rfl
noncomputable def slotsN (l : List (List UInt8)) : Bool := !(l.any fun s => !slotN s)
theorem class_types_s2_eq {l : List (List UInt8)} (hl : LenL l) (h : ∀ s ∈ l, Len s) : class_types_s2 l = some (slotsN l) := by
  unfold class_types_s2 slices_ContainsFunc_string_string_s2 slices_IndexFunc_string_string_s2
  rw [show ((loopP (fun z => slices_IndexFunc_string_string_s2_l1 l z) 0).bind fun o => leave o (fun b => slices_IndexFunc_string_string_s2_k2) some) = _ from index_loop (p := fun s => !slotN s) hl
    (fun i x hx => by
      unfold slices_IndexFunc_string_string_s2_l1 class_types_1_s2
      rw [here hx, idx_nat, hx]
      simp only [Option.bind_some, cond_true]
      rw [class_slot_eq (h x (List.mem_of_getElem? hx))]
      rfl) (by unfold slices_IndexFunc_string_string_s2_l1; rw [past]; rfl)]
  rw [Option.bind_some, ixF_any]
  rfl
theorem hasText {l : List (List UInt8)} (hl : LenL l) (n : List UInt8) : slices_Contains_string_string l n = some (l.any fun y => n == y) := by
  unfold slices_Contains_string_string slices_Index_string_string
  rw [show ((loopP (fun z => slices_Index_string_string_l1 l n z) 0).bind fun o => leave o (fun b => slices_Index_string_string_k2) some) = _ from index_loop (p := fun y : List UInt8 => n == y) hl
    (fun i x hx => by unfold slices_Index_string_string_l1; rw [here hx, idx_nat, hx]; rfl) (by unfold slices_Index_string_string_l1; rw [past]; rfl)]
  exact congrArg some (ixF_any _ 0 l)
noncomputable def mapB (m : ApiMethod) (pre : List ApiMap) (x : ApiMap) : Bool :=
  ((!(decide (0 ≤ x.At) && decide (x.At < (m.Code.length : Int)))) || (pre.getLast?.elim false (fun y => decide (x.At ≤ y.At)))) ||
  (((!((x.Locals.length : Int) == m.Locals)) || decide (m.Stack < (x.Stack.length : Int))) || ((!slotsN x.Locals || !slotsN x.Stack) || x.Stack.any (fun y => [84] == y)))
noncomputable def mapsN (m : ApiMethod) : Bool := !(gB (mapB m) [] m.Maps) && decide ((m.Maps.length : Int) ≤ 100)
structure MapsIn (m : ApiMethod) : Prop where
  len : LenL m.Maps
  code : LenL m.Code
  all : ∀ x ∈ m.Maps, (LenL x.Locals ∧ ∀ s ∈ x.Locals, Len s) ∧ (LenL x.Stack ∧ ∀ s ∈ x.Stack, Len s)
theorem take_last {α : Type} {l : List α} {i : Nat} (h : i < l.length) (h0 : 0 < i) : (l.take i).getLast? = l[i - 1]? := by
  rw [List.getLast?_eq_getElem?, List.getElem?_take_of_lt (by simp; omega)]
  congr 1
  simp; omega
theorem class_maps_eq {m : ApiMethod} (h : MapsIn m) : class_maps m = some (mapsN m) := by
  have j2 : ∀ (i : Nat) (x : ApiMap) (b : Bool), x ∈ m.Maps → class_maps_j2 m (i : Int) x b = cond (b || (((!((x.Locals.length : Int) == m.Locals)) || decide (m.Stack < (x.Stack.length : Int))) || ((!slotsN x.Locals || !slotsN x.Stack) || x.Stack.any (fun y => [84] == y)))) (some (.inr (.inr false))) (some (.inl (IntKind.i64.wrap ((i : Int) + 1)))) := fun i x b hx => by
    obtain ⟨⟨h1, h2⟩, h3, h4⟩ := h.all x hx
    unfold class_maps_j2
    rw [class_types_s2_eq h1 h2, class_types_s2_eq h3 h4, hasText h3]
    cases b with
    | true => rfl
    | false =>
      cases ((!((x.Locals.length : Int) == m.Locals)) || decide (m.Stack < (x.Stack.length : Int))) with
      | true => rfl
      | false =>
        cases slotsN x.Locals with
        | false => rfl
        | true => cases slotsN x.Stack <;> rfl
  have hl : loopP (fun z => class_maps_l3 m z) 0 = _ := gen_loop (bad := mapB m) h.len (fun i x hx => by
    have hm := List.mem_of_getElem? hx
    have hi := (List.getElem?_eq_some_iff.1 hx).1
    have hlen := h.len
    have hcode := h.code
    unfold LenL at hlen hcode
    show class_maps_l3 m (i : Int) = _
    unfold class_maps_l3 mapB
    rw [here hx, idx_nat, hx]
    simp only [Option.bind_some, cond_true]
    have hb : class_between x.At 0 (IntKind.i64.wrap ((m.Code.length : Int) - 1)) = (decide (0 ≤ x.At) && decide (x.At < (m.Code.length : Int))) := by
      show (decide (0 ≤ x.At) && decide (x.At ≤ IntKind.i64.wrap ((m.Code.length : Int) - 1))) = _
      rw [wrapI (by omega) (by omega)]
      congr 1
      exact decide_eq_decide.2 (by omega)
    rw [hb]
    cases (decide (0 ≤ x.At) && decide (x.At < (m.Code.length : Int))) with
    | false => exact j2 i x true hm
    | true =>
      rcases Nat.eq_zero_or_pos i with h0 | h0
      · subst h0
        exact j2 0 x false hm
      · rw [decide_eq_true (show (0 : Int) < (i : Int) by omega), take_last hi h0]
        have e : IntKind.i64.wrap ((i : Int) - 1) = ((i - 1 : Nat) : Int) := by
          rw [wrapI (by omega) (by omega)]; omega
        rw [e, idx_nat, List.getElem?_eq_getElem (show i - 1 < m.Maps.length by omega)]
        exact j2 i x _ hm) (by show class_maps_l3 m (m.Maps.length : Int) = _; unfold class_maps_l3; rw [past]; rfl)
  unfold class_maps mapsN
  rw [hl]
  cases gB (mapB m) [] m.Maps <;> rfl
end Go.Proofs.YtdhpdpkcfffpiaaGreat
namespace Go.Proofs.YtdhpdpkcfffpiaaGreat
set_option linter.unusedSimpArgs false
set_option linter.unusedVariables false
structure BodyIn (m : ApiMethod) : Prop where
  code : LenL m.Code ∧ ∀ x ∈ m.Code, Len x.C ∧ Len x.M
  traps : LenL m.Traps ∧ ∀ x ∈ m.Traps, Len x.C
end Go.Proofs.YtdhpdpkcfffpiaaGreat
namespace Go.Proofs.YtdhpdpkcfffpiaaGreat
set_option linter.unusedSimpArgs false
set_option linter.unusedVariables false
structure GIn (m : ApiMethod) : Prop where
  name : Len m.Name
  params : m.Params.length ≤ 1000000000000 ∧ ∀ s ∈ m.Params, Len s
  ret : Len m.Ret
  maps : MapsIn m
  body : BodyIn m
  small : m.Code.length ≤ 1000000000000 ∧ m.Maps.length ≤ 1000000000000 ∧ m.Traps.length ≤ 1000000000000
noncomputable def methodG (m : ApiMethod) : Bool :=
  ((!((!nameN m.Name) || decide (6 < (m.Params.length : Int))) && typesN m.Params) && retN m.Ret) && cond m.Abstract (class_empty m)
    (!((m.Name == [36, 105, 110, 105, 116]) && (((!m.Static) || decide (0 < (m.Params.length : Int))) || (!(m.Ret == [86])))) && (class_between m.Locals (class_args m) 16 && (class_between m.Stack 0 16 && ((instrN m.Code && trapsN m) && mapsN m))))
theorem lenP {m : ApiMethod} (h : GIn m) : LenL m.Params := by have := h.params.1; unfold LenL; omega
theorem class_method_eqG {m : ApiMethod} (h : GIn m) : class_method m = some (methodG m) := by
  unfold class_method methodG
  rw [kind_Name_eq h.name, Option.bind_some, class_types_eq (lenP h) h.params.2, kind_Ret_eq h.ret, class_instructions_eq h.body.code.1 h.body.code.2, class_maps_eq h.maps, class_traps_eq h.body.traps.1 h.body.traps.2]
  cases ((!nameN m.Name) || decide (6 < (m.Params.length : Int))) with
  | true => rfl
  | false =>
    cases typesN m.Params with
    | false => rfl
    | true =>
      cases retN m.Ret with
      | false => rfl
      | true =>
        cases m.Abstract with
        | true => rfl
        | false =>
          cases ((m.Name == [36, 105, 110, 105, 116]) && (((!m.Static) || decide (0 < (m.Params.length : Int))) || (!(m.Ret == [86])))) with
          | true => rfl
          | false =>
            cases class_between m.Locals (class_args m) 16 with
            | false => rfl
            | true =>
              cases class_between m.Stack 0 16 with
              | false => rfl
              | true => cases instrN m.Code <;> cases mapsN m <;> cases trapsN m <;> rfl
theorem empty_eq {m : ApiMethod} (h : GIn m) : class_empty m = (((((((!m.Static) && (!(m.Name == [36, 105, 110, 105, 116]))) && (m.Locals == (0 : Int))) && (m.Stack == (0 : Int))) && ((m.Code.length : Int) == (0 : Int))) && ((m.Maps.length : Int) == (0 : Int))) && ((m.Traps.length : Int) == (0 : Int))) := by
  obtain ⟨h1, h2, h3⟩ := h.small
  have key : (((m.Code.length : Int) + (m.Maps.length : Int) + (m.Traps.length : Int)) == (0 : Int)) = ((((m.Code.length : Int) == 0) && ((m.Maps.length : Int) == 0)) && ((m.Traps.length : Int) == 0)) := by
    by_cases a : (m.Code.length : Int) = 0
    · by_cases b : (m.Maps.length : Int) = 0
      · rw [a, b, Int.zero_add, Int.zero_add]; rfl
      · rw [beq_eq_false_iff_ne.2 (show ((m.Code.length : Int) + m.Maps.length + m.Traps.length) ≠ 0 by omega), beq_eq_false_iff_ne.2 b, Bool.and_false, Bool.false_and]
    · rw [beq_eq_false_iff_ne.2 (show ((m.Code.length : Int) + m.Maps.length + m.Traps.length) ≠ 0 by omega), beq_eq_false_iff_ne.2 a, Bool.false_and, Bool.false_and]
  unfold class_empty
  rw [wrapI (n := (m.Code.length : Int) + (m.Maps.length : Int)) (by omega) (by omega), wrapI (by omega) (by omega), key]
  simp only [Bool.and_assoc]
theorem allMethodsG {l : List ApiMethod} (hl : LenL l) (h : ∀ m ∈ l, GIn m) (n : Int) (a b : List UInt8) (i : Bool) (c : List (List UInt8)) (d : List ApiField) (e : List ApiMethod) :
    class_all_api_Method l n a b i c d e = cond (uB (fun m => (m.Abstract == i) && methodG m) (·.Name) [] l) (some false) (some (decide ((l.length : Int) ≤ n))) := by
  unfold class_all_api_Method
  refine uniq_loop (ok := fun m => (m.Abstract == i) && methodG m) (nm := (·.Name)) hl (fun j x hx => ?_) ?_
  · have hm := h x (List.mem_of_getElem? hx)
    have hi := (List.getElem?_eq_some_iff.1 hx).1
    unfold class_all_api_Method_l1 class_May_4
    rw [here hx, idx_nat, hx]
    simp only [Option.bind_some, cond_true]
    rw [class_method_eqG hm, cutP_to (by omega)]
    simp only [Option.bind_some]
    rw [hasMethod (by unfold LenL at *; rw [List.length_take]; omega)]
    cases (x.Abstract == i) with
    | false => rfl
    | true => cases methodG x <;> rfl
  · unfold class_all_api_Method_l1
    rw [past]; rfl
structure CGIn (c : ApiClass) : Prop where
  name : Len c.Name
  super : Len c.Super
  impl : LenL c.Impl ∧ ∀ s ∈ c.Impl, Len s
  fields : LenL c.Fields ∧ ∀ f ∈ c.Fields, Len f.Name ∧ Len f.Type_
  methods : LenL c.Methods ∧ ∀ m ∈ c.Methods, GIn m
noncomputable def mayG (c : ApiClass) : Bool :=
  !(c.Interface && ((!(c.Super == [79, 98, 106, 101, 99, 116])) || decide (0 < (c.Fields.length : Int)))) &&
  (((((classN c.Name && classN c.Super) && (!(uB classN id [] c.Impl) && decide ((c.Impl.length : Int) ≤ 4))) && (!(uB fieldN (·.Name) [] c.Fields) && decide ((c.Fields.length : Int) ≤ 8)))) &&
    (!(uB (fun m => (m.Abstract == c.Interface) && methodG m) (·.Name) [] c.Methods) && decide ((c.Methods.length : Int) ≤ 8)))
theorem class_May_eqG {c : ApiClass} (h : CGIn c) : class_May c = some (mayG c) := by
  have e : ∀ (b d : Bool), cond b (some false) (some d) = some (!b && d) := fun b d => by cases b <;> rfl
  unfold class_May mayG
  rw [allFields h.fields.1 h.fields.2, allMethodsG h.methods.1 h.methods.2, kind_Class_eq h.name, kind_Class_eq h.super, allNames h.impl.1 h.impl.2, e, e, e]
  cases (c.Interface && ((!(c.Super == [79, 98, 106, 101, 99, 116])) || decide (0 < (c.Fields.length : Int)))) with
  | true => rfl
  | false =>
    cases classN c.Name with
    | false => rfl
    | true => cases classN c.Super <;> rfl
theorem beqC2 (x y : List UInt8) : (x == y) = (y == x) := by
  by_cases h : x = y
  · rw [h]
  · rw [beq_eq_false_iff_ne.2 h, beq_eq_false_iff_ne.2 (Ne.symm h)]
end Go.Proofs.YtdhpdpkcfffpiaaGreat
namespace Go.Proofs.YtdhpdpkcfffpiaaGreat
set_option linter.unusedSimpArgs false
set_option linter.unusedVariables false
inductive Tok where
  | n (x : Int)
  | t (s : List UInt8)
abbrev FS (s : List UInt8) : Prop := s.length ≤ 10000
def TkIn : Tok → Prop
  | .n x => I64 x
  | .t s => FS s
structure FL {α : Type} (Q : α → Prop) (l : List α) : Prop where
  len : l.length ≤ 10000
  all : ∀ x ∈ l, Q x
structure FField (f : ApiField) : Prop where
  name : FS f.Name
  type : FS f.Type_
structure FIns (x : ApiIns) : Prop where
  op : I64 x.Op
  a : I64 x.A
  c : FS x.C
  m : FS x.M
structure FMap (x : ApiMap) : Prop where
  pl : I64 x.At
  locals : FL FS x.Locals
  stack : FL FS x.Stack
structure FTrap (x : ApiTrap) : Prop where
  lo : I64 x.From
  hi : I64 x.To
  pl : I64 x.At
  c : FS x.C
structure FMeth (m : ApiMethod) : Prop where
  name : FS m.Name
  params : FL FS m.Params
  ret : FS m.Ret
  locals : I64 m.Locals
  stack : I64 m.Stack
  code : FL FIns m.Code
  maps : FL FMap m.Maps
  traps : FL FTrap m.Traps
structure FClass (c : ApiClass) : Prop where
  name : FS c.Name
  super : FS c.Super
  impl : FL FS c.Impl
  fields : FL FField c.Fields
  methods : FL FMeth c.Methods
def tkB (b : Bool) : Tok := .n (cond b 1 0)
def tkS (s : List UInt8) : List Tok := [.t s]
def tkL {α : Type} (f : α → List Tok) (l : List α) : List Tok := .n (l.length : Int) :: l.flatMap f
def tkField (f : ApiField) : List Tok := [.t f.Name, .t f.Type_, tkB f.Static]
def tkIns (x : ApiIns) : List Tok := [.n x.Op, .n x.A, .t x.C, .t x.M]
def tkMap (x : ApiMap) : List Tok := .n x.At :: (tkL tkS x.Locals ++ tkL tkS x.Stack)
def tkTrap (x : ApiTrap) : List Tok := [.n x.From, .n x.To, .n x.At, .t x.C]
def tkMeth (m : ApiMethod) : List Tok :=
  .t m.Name :: (tkL tkS m.Params ++ (.t m.Ret :: tkB m.Static :: tkB m.Abstract :: .n m.Locals :: .n m.Stack :: (tkL tkIns m.Code ++ (tkL tkMap m.Maps ++ tkL tkTrap m.Traps))))
def tkClass (c : ApiClass) : List Tok :=
  .t c.Name :: .t c.Super :: tkB c.Interface :: (tkL tkS c.Impl ++ (tkL tkField c.Fields ++ tkL tkMeth c.Methods))
abbrev W := List (List UInt8) × List UInt8
def ixN (p : List (List UInt8)) (s : List UInt8) : Nat := p.findIdx (fun y => s == y)
def insP (p : List (List UInt8)) (s : List UInt8) : List (List UInt8) := cond (decide (ixN p s < p.length)) p (p ++ [s])
def wr1 (w : W) : Tok → W
  | .n x => (w.1, w.2 ++ put x)
  | .t s => (insP w.1 s, w.2 ++ put (ixN w.1 s : Int))
def wrT (w : W) (l : List Tok) : W := l.foldl wr1 w
theorem wrT_app (w : W) (a b : List Tok) : wrT w (a ++ b) = wrT (wrT w a) b := List.foldl_append
theorem wrT_cons (w : W) (t : Tok) (b : List Tok) : wrT w (t :: b) = wrT (wr1 w t) b := rfl
def Fits (w : W) (k : Nat) : Prop := w.1.length + k ≤ 1000000000 ∧ w.2.length + 10 * k ≤ 10000000000
theorem insP_len (p : List (List UInt8)) (s : List UInt8) : (insP p s).length ≤ p.length + 1 := by
  unfold insP; cases decide (ixN p s < p.length) <;> simp
theorem Fits.one {w : W} {k : Nat} (h : Fits w (k + 1)) (t : Tok) : Fits (wr1 w t) k := by
  obtain ⟨h1, h2⟩ := h
  cases t with
  | n x => have := put_length x; refine ⟨?_, ?_⟩ <;> simp only [wr1, List.length_append] <;> omega
  | t s => have := put_length (ixN w.1 s : Int); have := insP_len w.1 s; refine ⟨?_, ?_⟩ <;> simp only [wr1, List.length_append] <;> omega
theorem Fits.app {w : W} : ∀ {a : List Tok} {k : Nat}, Fits w (a.length + k) → Fits (wrT w a) k := by
  intro a
  induction a generalizing w with
  | nil => intro k h; simpa [wrT] using h
  | cons t a ih => intro k h; exact ih (Fits.one (by simpa [Nat.add_right_comm, Nat.add_assoc, Nat.add_comm 1 k] using h) t)
theorem Fits.less {w : W} {k j : Nat} (h : Fits w k) (hj : j ≤ k) : Fits w j := ⟨by have := h.1; omega, by have := h.2; omega⟩
theorem ixF_ixN (s : List UInt8) : ∀ (l : List (List UInt8)) (k : Nat), ixF (fun y => s == y) k l = cond (decide (ixN l s < l.length)) ((k + ixN l s : Nat) : Int) (-1)
  | [], k => rfl
  | x :: l, k => by
    unfold ixF ixN
    rw [List.findIdx_cons]
    cases hx : (s == x) with
    | true => simp
    | false =>
      simp only [cond_false]
      rw [ixF_ixN s l (k + 1)]
      unfold ixN
      have e : decide (List.findIdx (fun y => s == y) l + 1 < (x :: l).length) = decide (List.findIdx (fun y => s == y) l < l.length) := decide_eq_decide.2 (by simp)
      rw [e]
      cases decide (List.findIdx (fun y => s == y) l < l.length) with
      | true => simp only [cond_true]; congr 1; omega
      | false => rfl
theorem ixN_le (p : List (List UInt8)) (s : List UInt8) : ixN p s ≤ p.length := List.findIdx_le_length
theorem fold_loop {R α : Type} {body : List (List UInt8) × List UInt8 × Int → Option (Sum (List (List UInt8) × List UInt8 × Int) (Sum W R))} {l : List α} {f : α → List Tok} (hl : l.length ≤ 1000000000)
    (hb : ∀ (w : W) (i : Nat) x, l[i]? = some x → Fits w (f x).length → body (w.1, w.2, (i : Int)) = some (.inl ((wrT w (f x)).1, (wrT w (f x)).2, IntKind.i64.wrap ((i : Int) + 1))))
    (he : ∀ w : W, body (w.1, w.2, (l.length : Int)) = some (.inr (.inl (w.1, w.2)))) (w : W) (hw : Fits w (l.flatMap f).length) : loopP body (w.1, w.2, 0) = some (.inl (wrT w (l.flatMap f))) := by
  have key : ∀ d i (w : W), l.length - i = d → i ≤ l.length → Fits w ((l.drop i).flatMap f).length → loopP body (w.1, w.2, (i : Int)) = some (.inl (wrT w ((l.drop i).flatMap f))) := by
    intro d
    induction d with
    | zero =>
      intro i w hd hi hf
      have : i = l.length := by omega
      subst this
      rw [loopP_eq, he, List.drop_length]
      rfl
    | succ d ih =>
      intro i w hd hi hf
      have hlt : i < l.length := by omega
      rw [List.drop_eq_getElem_cons hlt, List.flatMap_cons, List.length_append] at hf
      rw [loopP_eq, hb w i l[i] (List.getElem?_eq_getElem hlt) (hf.less (by omega)), wrap_succ (by omega), List.drop_eq_getElem_cons hlt, List.flatMap_cons, wrT_app]
      exact ih (i + 1) _ (by omega) (by omega) hf.app
  exact key _ 0 w rfl (Nat.zero_le _) (by simpa using hw)
theorem w_num {w : W} {x : Int} (h : I64 x) (hf : Fits w 1) : file_writer_num w.1 w.2 x = some (wr1 w (.n x)).2 := by
  unfold file_writer_num
  rw [num_Put_eq h (by have := hf.2; omega)]; rfl
theorem w_len {w : W} {n : Nat} (h : n ≤ 1000000000) (hf : Fits w 1) : file_writer_num w.1 w.2 (n : Int) = some (wr1 w (.n (n : Int))).2 := w_num ⟨by omega, by omega⟩ hf
theorem w_truth {w : W} {b : Bool} (hf : Fits w 1) : file_writer_truth w.1 w.2 b = some (wr1 w (tkB b)).2 := by
  unfold file_writer_truth
  cases b with
  | true => rw [w_num (by decide) hf]; rfl
  | false => rw [w_num (x := 0) (by decide) hf]; rfl
theorem slicesIndex_eq {l : List (List UInt8)} (hl : LenL l) (n : List UInt8) : slices_Index_string_string l n = some (ixF (fun y => n == y) 0 l) := by
  unfold slices_Index_string_string
  exact index_loop (p := fun y : List UInt8 => n == y) hl (fun i x hx => by unfold slices_Index_string_string_l1; rw [here hx, idx_nat, hx]; rfl) (by unfold slices_Index_string_string_l1; rw [past]; rfl)
theorem w_text {w : W} {s : List UInt8} (hf : Fits w 1) : file_writer_text w.1 w.2 s = some (wr1 w (.t s)) := by
  obtain ⟨h1, h2⟩ := hf
  unfold file_writer_text
  rw [slicesIndex_eq (by unfold LenL; omega), ixF_ixN]
  simp only [Option.bind_some, Nat.zero_add]
  have hle := ixN_le w.1 s
  unfold wr1 insP
  cases hd : decide (ixN w.1 s < w.1.length) with
  | true =>
    simp only [cond_true]
    rw [decide_eq_false (show ¬ ((ixN w.1 s : Int) < 0) by omega)]
    unfold file_writer_text_j1 file_writer_num
    simp only [cond_false]
    rw [num_Put_eq ⟨by omega, by omega⟩ (by omega)]
    show _ = some (cond (decide (ixN w.1 s < w.1.length)) w.1 (w.1 ++ [s]), w.2 ++ put (ixN w.1 s : Int))
    rw [hd]; rfl
  | false =>
    simp only [cond_false]
    rw [decide_eq_true (show (-1 : Int) < 0 by decide), appP_ok (by simp; omega) (by simp; omega)]
    have hh := of_decide_eq_false hd
    have e : ixN w.1 s = w.1.length := by omega
    unfold file_writer_text_j1 file_writer_num
    simp only [cond_true, Option.bind_some]
    rw [num_Put_eq ⟨by omega, by omega⟩ (by omega)]
    show _ = some (cond (decide (ixN w.1 s < w.1.length)) w.1 (w.1 ++ [s]), w.2 ++ put (ixN w.1 s : Int))
    rw [hd, e]; rfl
theorem w_strings {w : W} {l : List (List UInt8)} (hl : FL FS l) (hf : Fits w (tkL tkS l).length) : file_list_string w.1 w.2 l = some (wrT w (tkL tkS l)) := by
  have hll := hl.len
  unfold file_list_string
  rw [w_len (by omega) (hf.less (by simp [tkL]))]
  simp only [Option.bind_some]
  rw [show loopP (fun z => file_list_string_l1 l z.1 z.2.1 z.2.2) (w.1, (wr1 w (.n (l.length : Int))).2, 0) = some (.inl (wrT (wr1 w (.n (l.length : Int))) (l.flatMap tkS))) from
    fold_loop (by omega) (fun w i x hx hfx => by
      show file_list_string_l1 l w.1 w.2 (i : Int) = _
      unfold file_list_string_l1
      rw [here hx, idx_nat, hx]
      simp only [Option.bind_some, cond_true]
      rw [w_text hfx]; rfl) (fun w => by show file_list_string_l1 l w.1 w.2 (l.length : Int) = _; unfold file_list_string_l1; rw [past]; rfl) (wr1 w (.n (l.length : Int))) (Fits.one (by simpa [tkL, Nat.add_comm] using hf) _)]
  rfl
theorem w_field {w : W} {f : ApiField} (hf : Fits w (tkField f).length) : file_writer_field w.1 w.2 f = some (wrT w (tkField f)) := by
  have f1 := Fits.one (k := 2) hf (.t f.Name)
  have f2 := Fits.one (k := 1) f1 (.t f.Type_)
  unfold file_writer_field
  rw [w_text (hf.less (by simp [tkField]))]
  simp only [Option.bind_some]
  rw [w_text (f1.less (by omega))]
  simp only [Option.bind_some]
  rw [w_truth f2]
  rfl
theorem w_ins {w : W} {x : ApiIns} (hx : FIns x) (hf : Fits w (tkIns x).length) : file_writer_ins w.1 w.2 x = some (wrT w (tkIns x)) := by
  have f1 := Fits.one (k := 3) hf (.n x.Op)
  have f2 := Fits.one (k := 2) f1 (.n x.A)
  have f3 := Fits.one (k := 1) f2 (.t x.C)
  unfold file_writer_ins
  rw [w_num hx.op (hf.less (by simp [tkIns]))]
  simp only [Option.bind_some]
  rw [show file_writer_num w.1 (wr1 w (.n x.Op)).2 x.A = _ from w_num (w := wr1 w (.n x.Op)) hx.a (f1.less (by omega))]
  simp only [Option.bind_some]
  rw [show file_writer_text w.1 (wr1 (wr1 w (.n x.Op)) (.n x.A)).2 x.C = _ from w_text (w := wr1 (wr1 w (.n x.Op)) (.n x.A)) (f2.less (by omega))]
  simp only [Option.bind_some]
  rw [w_text f3]
  rfl
theorem w_trap {w : W} {x : ApiTrap} (hx : FTrap x) (hf : Fits w (tkTrap x).length) : file_writer_trap w.1 w.2 x = some (wrT w (tkTrap x)) := by
  have f1 := Fits.one (k := 3) hf (.n x.From)
  have f2 := Fits.one (k := 2) f1 (.n x.To)
  have f3 := Fits.one (k := 1) f2 (.n x.At)
  unfold file_writer_trap
  rw [w_num hx.lo (hf.less (by simp [tkTrap]))]
  simp only [Option.bind_some]
  rw [show file_writer_num w.1 (wr1 w (.n x.From)).2 x.To = _ from w_num (w := wr1 w (.n x.From)) hx.hi (f1.less (by omega))]
  simp only [Option.bind_some]
  rw [show file_writer_num w.1 (wr1 (wr1 w (.n x.From)) (.n x.To)).2 x.At = _ from w_num (w := wr1 (wr1 w (.n x.From)) (.n x.To)) hx.pl (f2.less (by omega))]
  simp only [Option.bind_some]
  rw [show file_writer_text w.1 (wr1 (wr1 (wr1 w (.n x.From)) (.n x.To)) (.n x.At)).2 x.C = _ from w_text (w := wr1 (wr1 (wr1 w (.n x.From)) (.n x.To)) (.n x.At)) f3]
  rfl
theorem Fits.left {w : W} {a b : List Tok} (h : Fits w (a ++ b).length) : Fits w a.length := h.less (by simp)
theorem Fits.right {w : W} {a b : List Tok} (h : Fits w (a ++ b).length) : Fits (wrT w a) b.length := Fits.app (by rwa [List.length_append] at h)
theorem Fits.head {w : W} {t : Tok} {b : List Tok} (h : Fits w (t :: b).length) : Fits w 1 := h.less (by simp)
theorem Fits.tail {w : W} {t : Tok} {b : List Tok} (h : Fits w (t :: b).length) : Fits (wr1 w t) b.length := Fits.one (by simpa using h) t
theorem w_map {w : W} {x : ApiMap} (hx : FMap x) (hf : Fits w (tkMap x).length) : file_writer_place w.1 w.2 x = some (wrT w (tkMap x)) := by
  unfold tkMap at hf ⊢
  unfold file_writer_place
  rw [w_num hx.pl hf.head]
  simp only [Option.bind_some]
  rw [show file_list_string w.1 (wr1 w (.n x.At)).2 x.Locals = _ from w_strings (w := wr1 w (.n x.At)) hx.locals hf.tail.left]
  simp only [Option.bind_some]
  rw [w_strings hx.stack hf.tail.right, wrT_cons, wrT_app]
  rfl
theorem w_fields {w : W} {l : List ApiField} (hl : FL FField l) (hf : Fits w (tkL tkField l).length) : file_list_api_Field w.1 w.2 l = some (wrT w (tkL tkField l)) := by
  have hll := hl.len
  unfold file_list_api_Field
  rw [w_len (by omega) hf.head]
  simp only [Option.bind_some]
  rw [show loopP (fun z => file_list_api_Field_l1 l z.1 z.2.1 z.2.2) (w.1, (wr1 w (.n (l.length : Int))).2, 0) = some (.inl (wrT (wr1 w (.n (l.length : Int))) (l.flatMap tkField))) from
    fold_loop (by omega) (fun w i x hx hfx => by
      show file_list_api_Field_l1 l w.1 w.2 (i : Int) = _
      unfold file_list_api_Field_l1
      rw [here hx, idx_nat, hx]
      simp only [Option.bind_some, cond_true]
      rw [w_field hfx]; rfl) (fun w => by show file_list_api_Field_l1 l w.1 w.2 (l.length : Int) = _; unfold file_list_api_Field_l1; rw [past]; rfl) (wr1 w (.n (l.length : Int))) hf.tail]
  rfl
theorem w_code {w : W} {l : List ApiIns} (hl : FL FIns l) (hf : Fits w (tkL tkIns l).length) : file_list_api_Ins w.1 w.2 l = some (wrT w (tkL tkIns l)) := by
  have hll := hl.len
  unfold file_list_api_Ins
  rw [w_len (by omega) hf.head]
  simp only [Option.bind_some]
  rw [show loopP (fun z => file_list_api_Ins_l1 l z.1 z.2.1 z.2.2) (w.1, (wr1 w (.n (l.length : Int))).2, 0) = some (.inl (wrT (wr1 w (.n (l.length : Int))) (l.flatMap tkIns))) from
    fold_loop (by omega) (fun w i x hx hfx => by
      show file_list_api_Ins_l1 l w.1 w.2 (i : Int) = _
      unfold file_list_api_Ins_l1
      rw [here hx, idx_nat, hx]
      simp only [Option.bind_some, cond_true]
      rw [w_ins (hl.all x (List.mem_of_getElem? hx)) hfx]; rfl) (fun w => by show file_list_api_Ins_l1 l w.1 w.2 (l.length : Int) = _; unfold file_list_api_Ins_l1; rw [past]; rfl) (wr1 w (.n (l.length : Int))) hf.tail]
  rfl
theorem w_maps {w : W} {l : List ApiMap} (hl : FL FMap l) (hf : Fits w (tkL tkMap l).length) : file_list_api_Map w.1 w.2 l = some (wrT w (tkL tkMap l)) := by
  have hll := hl.len
  unfold file_list_api_Map
  rw [w_len (by omega) hf.head]
  simp only [Option.bind_some]
  rw [show loopP (fun z => file_list_api_Map_l1 l z.1 z.2.1 z.2.2) (w.1, (wr1 w (.n (l.length : Int))).2, 0) = some (.inl (wrT (wr1 w (.n (l.length : Int))) (l.flatMap tkMap))) from
    fold_loop (by omega) (fun w i x hx hfx => by
      show file_list_api_Map_l1 l w.1 w.2 (i : Int) = _
      unfold file_list_api_Map_l1
      rw [here hx, idx_nat, hx]
      simp only [Option.bind_some, cond_true]
      rw [w_map (hl.all x (List.mem_of_getElem? hx)) hfx]; rfl) (fun w => by show file_list_api_Map_l1 l w.1 w.2 (l.length : Int) = _; unfold file_list_api_Map_l1; rw [past]; rfl) (wr1 w (.n (l.length : Int))) hf.tail]
  rfl
theorem w_traps {w : W} {l : List ApiTrap} (hl : FL FTrap l) (hf : Fits w (tkL tkTrap l).length) : file_list_api_Trap w.1 w.2 l = some (wrT w (tkL tkTrap l)) := by
  have hll := hl.len
  unfold file_list_api_Trap
  rw [w_len (by omega) hf.head]
  simp only [Option.bind_some]
  rw [show loopP (fun z => file_list_api_Trap_l1 l z.1 z.2.1 z.2.2) (w.1, (wr1 w (.n (l.length : Int))).2, 0) = some (.inl (wrT (wr1 w (.n (l.length : Int))) (l.flatMap tkTrap))) from
    fold_loop (by omega) (fun w i x hx hfx => by
      show file_list_api_Trap_l1 l w.1 w.2 (i : Int) = _
      unfold file_list_api_Trap_l1
      rw [here hx, idx_nat, hx]
      simp only [Option.bind_some, cond_true]
      rw [w_trap (hl.all x (List.mem_of_getElem? hx)) hfx]; rfl) (fun w => by show file_list_api_Trap_l1 l w.1 w.2 (l.length : Int) = _; unfold file_list_api_Trap_l1; rw [past]; rfl) (wr1 w (.n (l.length : Int))) hf.tail]
  rfl
theorem w_meth {w : W} {m : ApiMethod} (hm : FMeth m) (hf : Fits w (tkMeth m).length) : file_writer_method w.1 w.2 m = some (wrT w (tkMeth m)) := by
  unfold tkMeth at hf ⊢
  unfold file_writer_method
  rw [wrT_cons, wrT_app, wrT_cons, wrT_cons, wrT_cons, wrT_cons, wrT_cons, wrT_app, wrT_app]
  have f1 := hf.tail
  have f2 := f1.right
  have f3 := f2.tail
  have f4 := f3.tail
  have f5 := f4.tail
  have f6 := f5.tail
  have f7 := f6.tail
  have f8 := f7.right
  have f9 := f8.right
  rw [w_text hf.head]
  simp only [Option.bind_some]
  rw [w_strings hm.params f1.left]
  simp only [Option.bind_some]
  generalize wrT (wr1 w (.t m.Name)) (tkL tkS m.Params) = w2 at *
  rw [w_text f2.head]
  simp only [Option.bind_some]
  rw [w_truth f3.head]
  simp only [Option.bind_some]
  generalize hw3 : wr1 w2 (.t m.Ret) = w3 at *
  rw [show file_writer_truth w3.1 (wr1 w3 (tkB m.Static)).2 m.Abstract = _ from w_truth (w := wr1 w3 (tkB m.Static)) f4.head]
  simp only [Option.bind_some]
  generalize hw4 : wr1 w3 (tkB m.Static) = w4 at *
  have e4 : w3.1 = w4.1 := by rw [← hw4]; rfl
  rw [e4]
  generalize hw5 : wr1 w4 (tkB m.Abstract) = w5 at *
  have e5 : w4.1 = w5.1 := by rw [← hw5]; rfl
  rw [e5, w_num hm.locals f5.head]
  simp only [Option.bind_some]
  generalize hw6 : wr1 w5 (.n m.Locals) = w6 at *
  have e6 : w5.1 = w6.1 := by rw [← hw6]; rfl
  rw [e6, w_num hm.stack f6.head]
  simp only [Option.bind_some]
  generalize hw7 : wr1 w6 (.n m.Stack) = w7 at *
  have e7 : w6.1 = w7.1 := by rw [← hw7]; rfl
  rw [e7, w_code hm.code f7.left]
  simp only [Option.bind_some]
  rw [w_maps hm.maps f8.left]
  simp only [Option.bind_some]
  rw [w_traps hm.traps f9]
  rfl
theorem w_methods {w : W} {l : List ApiMethod} (hl : FL FMeth l) (hf : Fits w (tkL tkMeth l).length) : file_list_api_Method w.1 w.2 l = some (wrT w (tkL tkMeth l)) := by
  have hll := hl.len
  unfold file_list_api_Method
  rw [w_len (by omega) hf.head]
  simp only [Option.bind_some]
  rw [show loopP (fun z => file_list_api_Method_l1 l z.1 z.2.1 z.2.2) (w.1, (wr1 w (.n (l.length : Int))).2, 0) = some (.inl (wrT (wr1 w (.n (l.length : Int))) (l.flatMap tkMeth))) from
    fold_loop (by omega) (fun w i x hx hfx => by
      show file_list_api_Method_l1 l w.1 w.2 (i : Int) = _
      unfold file_list_api_Method_l1
      rw [here hx, idx_nat, hx]
      simp only [Option.bind_some, cond_true]
      rw [w_meth (hl.all x (List.mem_of_getElem? hx)) hfx]; rfl) (fun w => by show file_list_api_Method_l1 l w.1 w.2 (l.length : Int) = _; unfold file_list_api_Method_l1; rw [past]; rfl) (wr1 w (.n (l.length : Int))) hf.tail]
  rfl
end Go.Proofs.YtdhpdpkcfffpiaaGreat
namespace Go.Proofs.YtdhpdpkcfffpiaaGreat
set_option linter.unusedSimpArgs false
set_option linter.unusedVariables false
theorem FL.le {α : Type} {Q : α → Prop} {l : List α} (h : FL Q l) : LenL l := by have := h.len; unfold LenL; omega
theorem FS.le {s : List UInt8} (h : FS s) : Len s := by unfold FS at h; unfold Len; omega
theorem FClass.cg {c : ApiClass} (h : FClass c) : CGIn c where
  name := h.name.le
  super := h.super.le
  impl := ⟨h.impl.le, fun s hs => (h.impl.all s hs).le⟩
  fields := ⟨h.fields.le, fun f hf => ⟨(h.fields.all f hf).name.le, (h.fields.all f hf).type.le⟩⟩
  methods := ⟨h.methods.le, fun m hm => by
    have g := h.methods.all m hm
    have g1 := g.params.len
    have g2 := g.code.len
    have g3 := g.maps.len
    have g4 := g.traps.len
    exact ⟨g.name.le, ⟨by omega, fun s hs => (g.params.all s hs).le⟩, g.ret.le,
      ⟨g.maps.le, g.code.le, fun x hx => ⟨⟨(g.maps.all x hx).locals.le, fun s hs => ((g.maps.all x hx).locals.all s hs).le⟩, (g.maps.all x hx).stack.le, fun s hs => ((g.maps.all x hx).stack.all s hs).le⟩⟩,
      ⟨⟨g.code.le, fun x hx => ⟨(g.code.all x hx).c.le, (g.code.all x hx).m.le⟩⟩, ⟨g.traps.le, fun x hx => (g.traps.all x hx).c.le⟩⟩, ⟨by omega, by omega, by omega⟩⟩⟩
def AllIn (l : List Tok) : Prop := ∀ t ∈ l, TkIn t
theorem AllIn.nil : AllIn [] := fun t h => by cases h
theorem AllIn.cons {t : Tok} {l : List Tok} (h : TkIn t) (hl : AllIn l) : AllIn (t :: l) := fun x hx => by
  rcases List.mem_cons.1 hx with rfl | hx
  · exact h
  · exact hl x hx
theorem AllIn.app {a b : List Tok} (h : AllIn a) (hl : AllIn b) : AllIn (a ++ b) := fun x hx => by
  rcases List.mem_append.1 hx with hx | hx
  · exact h x hx
  · exact hl x hx
theorem in_b (b : Bool) : TkIn (tkB b) := by cases b <;> (show I64 _; decide)
theorem in_l {α : Type} {Q : α → Prop} {f : α → List Tok} {l : List α} (h : FL Q l) (hf : ∀ x, Q x → AllIn (f x)) : AllIn (tkL f l) := by
  have := h.len
  refine AllIn.cons (show I64 _ from ⟨by omega, by omega⟩) fun t ht => ?_
  obtain ⟨x, hx, h1⟩ := List.mem_flatMap.1 ht
  exact hf x (h.all x hx) t h1
theorem in_s {s : List UInt8} (h : FS s) : AllIn (tkS s) := AllIn.cons h AllIn.nil
theorem in_field {f : ApiField} (h : FField f) : AllIn (tkField f) := AllIn.cons h.name (AllIn.cons h.type (AllIn.cons (in_b _) AllIn.nil))
theorem in_ins {x : ApiIns} (h : FIns x) : AllIn (tkIns x) := AllIn.cons h.op (AllIn.cons h.a (AllIn.cons h.c (AllIn.cons h.m AllIn.nil)))
theorem in_trap {x : ApiTrap} (h : FTrap x) : AllIn (tkTrap x) := AllIn.cons h.lo (AllIn.cons h.hi (AllIn.cons h.pl (AllIn.cons h.c AllIn.nil)))
theorem in_map {x : ApiMap} (h : FMap x) : AllIn (tkMap x) := AllIn.cons h.pl (AllIn.app (in_l h.locals fun _ => in_s) (in_l h.stack fun _ => in_s))
theorem in_meth {m : ApiMethod} (h : FMeth m) : AllIn (tkMeth m) :=
  AllIn.cons h.name (AllIn.app (in_l h.params fun _ => in_s) (AllIn.cons h.ret (AllIn.cons (in_b _) (AllIn.cons (in_b _) (AllIn.cons h.locals (AllIn.cons h.stack (AllIn.app (in_l h.code fun _ => in_ins) (AllIn.app (in_l h.maps fun _ => in_map) (in_l h.traps fun _ => in_trap)))))))))
theorem in_class {c : ApiClass} (h : FClass c) : AllIn (tkClass c) :=
  AllIn.cons h.name (AllIn.cons h.super (AllIn.cons (in_b _) (AllIn.app (in_l h.impl fun _ => in_s) (AllIn.app (in_l h.fields fun _ => in_field) (in_l h.methods fun _ => in_meth)))))
theorem uB_all {α : Type} {ok : α → Bool} {nm : α → List UInt8} : ∀ {l pre : List α}, uB ok nm pre l = false → ∀ x ∈ l, ok x = true
  | y :: l, pre, h, x, hx => by
    unfold uB at h
    simp only [Bool.or_eq_false_iff, Bool.not_eq_false'] at h
    rcases List.mem_cons.1 hx with rfl | hx
    · exact h.1.1
    · exact uB_all h.2 x hx
theorem gB_all {α : Type} {bad : List α → α → Bool} : ∀ {l pre : List α}, gB bad pre l = false → ∀ x ∈ l, ∃ p, bad p x = false
  | y :: l, pre, h, x, hx => by
    unfold gB at h
    simp only [Bool.or_eq_false_iff] at h
    rcases List.mem_cons.1 hx with rfl | hx
    · exact ⟨pre, h.1⟩
    · exact gB_all h.2 x hx
structure MSmall (m : ApiMethod) : Prop where
  params : m.Params.length ≤ 6
  code : m.Code.length ≤ 100
  traps : m.Traps.length ≤ 6
  maps : m.Maps.length ≤ 100
  all : ∀ x ∈ m.Maps, x.Locals.length ≤ 16 ∧ x.Stack.length ≤ 16
theorem between_le {x a b : Int} (h : class_between x a b = true) : a ≤ x ∧ x ≤ b := by
  have h : (decide (a ≤ x) && decide (x ≤ b)) = true := h
  simpa using h
theorem methodG_small {m : ApiMethod} (hG : GIn m) (h : methodG m = true) : MSmall m := by
  unfold methodG at h
  rw [Bool.and_eq_true, Bool.and_eq_true, Bool.and_eq_true, Bool.not_eq_true', Bool.or_eq_false_iff] at h
  obtain ⟨⟨⟨⟨_, h1⟩, _⟩, _⟩, h2⟩ := h
  have hp : m.Params.length ≤ 6 := by have := of_decide_eq_false h1; omega
  cases ha : m.Abstract with
  | true =>
    rw [ha, cond_true, empty_eq hG] at h2
    simp only [Bool.and_eq_true, beq_iff_eq] at h2
    obtain ⟨⟨⟨_, h3⟩, h4⟩, h5⟩ := h2
    have e : m.Maps = [] := List.eq_nil_of_length_eq_zero (by omega)
    exact ⟨hp, by omega, by omega, by omega, fun x hx => by rw [e] at hx; cases hx⟩
  | false =>
    rw [ha, cond_false, Bool.and_eq_true, Bool.and_eq_true, Bool.and_eq_true, Bool.and_eq_true, Bool.and_eq_true] at h2
    obtain ⟨_, h3, h4, ⟨h5, h6⟩, h7⟩ := h2
    have l1 := between_le h3
    have l2 := between_le h4
    unfold instrN at h5
    rw [Bool.and_eq_true] at h5
    have l3 := between_le h5.1
    unfold trapsN at h6
    rw [Bool.and_eq_true] at h6
    have l4 := of_decide_eq_true h6.2
    unfold mapsN at h7
    rw [Bool.and_eq_true, Bool.not_eq_true'] at h7
    have l5 := of_decide_eq_true h7.2
    refine ⟨hp, by omega, by omega, by omega, fun x hx => ?_⟩
    obtain ⟨p, hb⟩ := gB_all h7.1 x hx
    unfold mapB at hb
    rw [Bool.or_eq_false_iff, Bool.or_eq_false_iff (x := (!((x.Locals.length : Int) == m.Locals) || decide (m.Stack < (x.Stack.length : Int)))), Bool.or_eq_false_iff (x := !((x.Locals.length : Int) == m.Locals))] at hb
    obtain ⟨_, ⟨h8, h9⟩, _⟩ := hb
    have e8 : (x.Locals.length : Int) = m.Locals := by simpa using h8
    have e9 := of_decide_eq_false h9
    exact ⟨by omega, by omega⟩
theorem flat_le {α : Type} {f : α → List Tok} {k : Nat} : ∀ {l : List α}, (∀ x ∈ l, (f x).length ≤ k) → (l.flatMap f).length ≤ l.length * k
  | [], _ => by simp
  | x :: l, h => by
    rw [List.flatMap_cons, List.length_append, List.length_cons, Nat.succ_mul]
    have h1 := h x (List.mem_cons_self ..)
    have h2 := flat_le (l := l) fun y hy => h y (List.mem_cons_of_mem _ hy)
    omega
theorem tkL_le {α : Type} {f : α → List Tok} {k n : Nat} {l : List α} (hl : l.length ≤ n) (h : ∀ x ∈ l, (f x).length ≤ k) : (tkL f l).length ≤ 1 + n * k := by
  have h1 := flat_le h
  have h2 := Nat.mul_le_mul_right k hl
  unfold tkL
  rw [List.length_cons]
  omega
theorem tkMap_le {x : ApiMap} (h : x.Locals.length ≤ 16 ∧ x.Stack.length ≤ 16) : (tkMap x).length ≤ 35 := by
  have h1 := tkL_le (f := tkS) (k := 1) h.1 fun _ _ => Nat.le_refl 1
  have h2 := tkL_le (f := tkS) (k := 1) h.2 fun _ _ => Nat.le_refl 1
  unfold tkMap
  rw [List.length_cons, List.length_append]
  omega
theorem tkMeth_le {m : ApiMethod} (h : MSmall m) : (tkMeth m).length ≤ 5000 := by
  have h1 := tkL_le (f := tkS) (k := 1) h.params fun _ _ => Nat.le_refl 1
  have h2 := tkL_le (f := tkIns) (k := 4) h.code fun _ _ => Nat.le_refl 4
  have h3 := tkL_le (f := tkMap) (k := 35) h.maps fun x hx => tkMap_le (h.all x hx)
  have h4 := tkL_le (f := tkTrap) (k := 4) h.traps fun _ _ => Nat.le_refl 4
  unfold tkMeth
  simp only [List.length_cons, List.length_append]
  omega
theorem tkClass_le {c : ApiClass} (hc : CGIn c) (h : mayG c = true) : (tkClass c).length ≤ 100000 := by
  unfold mayG at h
  simp only [Bool.and_eq_true, Bool.not_eq_true'] at h
  obtain ⟨_, ⟨⟨_, _, h1⟩, h2, h3⟩, h4, h5⟩ := h
  have l1 := of_decide_eq_true h1
  have l3 := of_decide_eq_true h3
  have l5 := of_decide_eq_true h5
  have k1 := tkL_le (f := tkS) (n := 4) (k := 1) (l := c.Impl) (by omega) fun _ _ => Nat.le_refl 1
  have k2 := tkL_le (f := tkField) (n := 8) (k := 3) (l := c.Fields) (by omega) fun _ _ => Nat.le_refl 3
  have k3 := tkL_le (f := tkMeth) (n := 8) (k := 5000) (l := c.Methods) (by omega) fun m hm => by
    have hm1 := uB_all h4 m hm
    rw [Bool.and_eq_true] at hm1
    exact tkMeth_le (methodG_small (hc.methods.2 m hm) hm1.2)
  unfold tkClass
  simp only [List.length_cons, List.length_append]
  omega
theorem fits0 {c : ApiClass} (hc : CGIn c) (h : mayG c = true) : Fits ([], []) (tkClass c).length := by
  have := tkClass_le hc h
  exact ⟨by simp; omega, by simp; omega⟩
theorem pool_in {w : W} : ∀ {l : List Tok}, (∀ s ∈ w.1, FS s) → AllIn l → ∀ s ∈ (wrT w l).1, FS s := by
  intro l
  induction l generalizing w with
  | nil => intro hw _; exact hw
  | cons t l ih =>
    intro hw hl
    refine ih (w := wr1 w t) ?_ fun x hx => hl x (List.mem_cons_of_mem _ hx)
    cases t with
    | n x => exact hw
    | t s =>
      intro y hy
      have hy : y ∈ insP w.1 s := hy
      unfold insP at hy
      cases hd : decide (ixN w.1 s < w.1.length) with
      | true => rw [hd] at hy; exact hw y hy
      | false =>
        rw [hd] at hy
        rcases List.mem_append.1 hy with h1 | h1
        · exact hw y h1
        · rw [List.mem_singleton.1 h1]; exact hl _ (List.mem_cons_self ..)
def outB (w : W) : List UInt8 := (([74, 65, 86, 65] ++ put (w.1.length : Int)) ++ w.1.flatMap putText) ++ w.2
noncomputable def bytesC (c : ApiClass) : List UInt8 := outB (wrT ([], []) (tkClass c))
theorem puts_loop {R : Type} {body : List UInt8 × Int → Option (Sum (List UInt8 × Int) (Sum (List UInt8) R))} {l : List (List UInt8)} (hl : l.length ≤ 1000000)
    (hb : ∀ (b : List UInt8) (i : Nat) x, l[i]? = some x → b.length ≤ 100000000000 → body (b, (i : Int)) = some (.inl (b ++ putText x, IntKind.i64.wrap ((i : Int) + 1))))
    (he : ∀ b, body (b, (l.length : Int)) = some (.inr (.inl b))) (hs : ∀ s ∈ l, FS s) (b : List UInt8) (h0 : b.length ≤ 1000000000) : loopP body (b, 0) = some (.inl (b ++ l.flatMap putText)) ∧ (b ++ l.flatMap putText).length ≤ 1000000000 + l.length * 10010 := by
  have key : ∀ d i (b : List UInt8), l.length - i = d → i ≤ l.length → b.length ≤ 1000000000 + i * 10010 → loopP body (b, (i : Int)) = some (.inl (b ++ (l.drop i).flatMap putText)) ∧ (b ++ (l.drop i).flatMap putText).length ≤ 1000000000 + l.length * 10010 := by
    intro d
    induction d with
    | zero =>
      intro i b hd hi h1
      have : i = l.length := by omega
      subst this
      rw [loopP_eq, he, List.drop_length]
      exact ⟨by simp, by simpa using h1⟩
    | succ d ih =>
      intro i b hd hi h1
      have hlt : i < l.length := by omega
      have h2 := putText_len l[i]
      have h3 : FS l[i] := hs _ (List.getElem_mem hlt)
      unfold FS at h3
      rw [loopP_eq, hb b i l[i] (List.getElem?_eq_getElem hlt) (by omega), wrap_succ (by omega), List.drop_eq_getElem_cons hlt, List.flatMap_cons, ← List.append_assoc]
      exact ih (i + 1) _ (by omega) (by omega) (by rw [List.length_append]; omega)
  have := key _ 0 b rfl (Nat.zero_le _) (by omega)
  simpa using this
theorem wr_parts {c : ApiClass} (h : FClass c) (hm : mayG c = true) {R : Type} (k : W → Option R) :
    ((file_writer_text [] [] c.Name).bind fun v3 => (file_writer_text v3.1 v3.2 c.Super).bind fun v4 => (file_writer_truth v4.1 v4.2 c.Interface).bind fun v5 => (file_list_string v4.1 v5 c.Impl).bind fun v6 => (file_list_api_Field v6.1 v6.2 c.Fields).bind fun v7 => (file_list_api_Method v7.1 v7.2 c.Methods).bind k)
      = k (wrT ([], []) (tkClass c)) := by
  have f0 := fits0 h.cg hm
  unfold tkClass at f0 ⊢
  have f1 := f0.tail
  have f2 := f1.tail
  have f3 := f2.tail
  have f4 := f3.right
  have f5 := f4.right
  rw [wrT_cons, wrT_cons, wrT_cons, wrT_app, wrT_app]
  rw [show file_writer_text [] [] c.Name = _ from w_text (w := ([], [])) f0.head]
  simp only [Option.bind_some]
  rw [w_text f1.head]
  simp only [Option.bind_some]
  generalize wr1 (wr1 ([], []) (.t c.Name)) (.t c.Super) = w2 at *
  rw [w_truth f2.head]
  simp only [Option.bind_some]
  rw [show file_list_string w2.1 (wr1 w2 (tkB c.Interface)).2 c.Impl = _ from w_strings (w := wr1 w2 (tkB c.Interface)) h.impl f3.left]
  simp only [Option.bind_some]
  rw [w_fields h.fields f4.left]
  simp only [Option.bind_some]
  rw [w_methods h.methods f5]
  rfl
theorem wr_len {c : ApiClass} (h : FClass c) (hm : mayG c = true) : (wrT ([], []) (tkClass c)).1.length ≤ 1000000 ∧ (wrT ([], []) (tkClass c)).2.length ≤ 1000000000 := by
  have h1 := tkClass_le h.cg hm
  have hf : Fits ([], []) ((tkClass c).length + 999900000) := ⟨by simp; omega, by simp; omega⟩
  have h2 := hf.app
  exact ⟨by have := h2.1; omega, by have := h2.2; omega⟩
theorem encode_tail {c : ApiClass} (h : FClass c) (hm : mayG c = true) {R : Type} {w : W} (hw : w = wrT ([], []) (tkClass c)) {body : List UInt8 × Int → Option (Sum (List UInt8 × Int) (Sum (List UInt8) R))} {k k2 : List UInt8 → Option R}
    (hb : ∀ (b : List UInt8) (i : Nat) x, w.1[i]? = some x → b.length ≤ 100000000000 → FS x → body (b, (i : Int)) = some (.inl (b ++ putText x, IntKind.i64.wrap ((i : Int) + 1))))
    (he : ∀ b, body (b, (w.1.length : Int)) = some (.inr (.inl b))) (hk : ∀ b : List UInt8, k b = (appP 1 b w.2).bind k2) :
    ((num_Put [74, 65, 86, 65] (w.1.length : Int)).bind fun v9 => (loopP body (v9, 0)).bind fun o => leave o k some) = k2 (bytesC c) ∧ (bytesC c).length ≤ 100000000000 := by
  obtain ⟨l1, l2⟩ := wr_len h hm
  have hp := pool_in (w := ([], [])) (fun s hs => by cases hs) (in_class h)
  rw [← hw] at l1 l2 hp
  have l3 := put_length (w.1.length : Int)
  obtain ⟨e1, e2⟩ := puts_loop l1 (fun b i x hx hbl => hb b i x hx hbl (hp x (List.mem_of_getElem? hx))) he hp ([74, 65, 86, 65] ++ put (w.1.length : Int)) (by rw [List.length_append]; simp; omega)
  have e3 : bytesC c = outB w := by unfold bytesC; rw [← hw]
  have e4 : (outB w).length ≤ 100000000000 := by
    unfold outB
    rw [List.length_append]
    omega
  rw [e3]
  refine ⟨?_, e4⟩
  rw [num_Put_eq ⟨by omega, by omega⟩ (by simp)]
  simp only [Option.bind_some]
  rw [e1]
  show k _ = _
  rw [hk, appP1 (by omega)]
  rfl
theorem bytesC_le {c : ApiClass} (h : FClass c) (hm : mayG c = true) : (bytesC c).length ≤ 100000000000 := by
  obtain ⟨l1, l2⟩ := wr_len h hm
  have hp := pool_in (w := ([], [])) (fun s hs => by cases hs) (in_class h)
  have l3 := put_length ((wrT ([], []) (tkClass c)).1.length : Int)
  have key : ∀ l : List (List UInt8), (∀ s ∈ l, FS s) → (l.flatMap putText).length ≤ l.length * 10010 := by
    intro l
    induction l with
    | nil => intro _; simp
    | cons x l ih =>
      intro hl
      have h1 := ih fun s hs => hl s (List.mem_cons_of_mem _ hs)
      have h2 := putText_len x
      have h3 : x.length ≤ 10000 := hl x (List.mem_cons_self ..)
      rw [List.flatMap_cons, List.length_append, List.length_cons]
      omega
  have h4 := key _ hp
  unfold bytesC outB
  simp only [List.length_append, List.length_cons, List.length_nil]
  omega
noncomputable def encN (c : ApiClass) : Option (List UInt8) := cond (mayG c) (cond (decide (6000 < ((bytesC c).length : Int))) none (some (bytesC c))) none
theorem file_Encode_eq {c : ApiClass} (h : FClass c) : file_Encode c = some ((encN c).getD []) := by
  unfold file_Encode encN
  rw [class_May_eqG h.cg]
  simp only [Option.bind_some]
  cases hm : mayG c with
  | false => rfl
  | true =>
    simp only [Bool.not_true, cond_false, cond_true]
    rw [wr_parts h hm]
    generalize hw : wrT ([], []) (tkClass c) = w
    refine (encode_tail h hm hw.symm (body := fun z => file_Encode_l1 w z.1 z.2) (k := fun b => file_Encode_k2 w b) (k2 := fun v19 => cond (decide (6000 < ((List.length v19) : Int))) (some []) (some v19)) (fun b i x hx hbl hfx => by
      show file_Encode_l1 w b (i : Int) = _
      unfold file_Encode_l1
      rw [here hx, idx_nat, hx]
      simp only [Option.bind_some, cond_true]
      rw [num_PutText_eq (by omega) (by unfold FS at hfx; omega)]; rfl) (fun b => by
      show file_Encode_l1 w b _ = _
      unfold file_Encode_l1
      rw [past]; rfl) (fun b => rfl)).1.trans ?_
    cases decide (6000 < ((bytesC c).length : Int)) <;> rfl
theorem file_EncodeO_eq {c : ApiClass} (h : FClass c) : file_EncodeO c = some (encN c) := by
  unfold file_EncodeO encN
  rw [class_May_eqG h.cg]
  simp only [Option.bind_some]
  cases hm : mayG c with
  | false => rfl
  | true =>
    simp only [Bool.not_true, cond_false, cond_true]
    rw [wr_parts h hm]
    generalize hw : wrT ([], []) (tkClass c) = w
    refine (encode_tail h hm hw.symm (body := fun z => file_EncodeO_l1 w z.1 z.2) (k := fun b => file_EncodeO_k2 w b) (k2 := fun v19 => cond (decide (6000 < ((List.length v19) : Int))) (some none) (some (some v19))) (fun b i x hx hbl hfx => by
      show file_EncodeO_l1 w b (i : Int) = _
      unfold file_EncodeO_l1
      rw [here hx, idx_nat, hx]
      simp only [Option.bind_some, cond_true]
      rw [num_PutText_eq (by omega) (by unfold FS at hfx; omega)]; rfl) (fun b => by
      show file_EncodeO_l1 w b _ = _
      unfold file_EncodeO_l1
      rw [past]; rfl) (fun b => rfl)).1.trans ?_
    cases decide (6000 < ((bytesC c).length : Int)) <;> rfl
end Go.Proofs.YtdhpdpkcfffpiaaGreat
namespace Go.Proofs.YtdhpdpkcfffpiaaGreat
set_option linter.unusedSimpArgs false
set_option linter.unusedVariables false
theorem r_num {w : W} {x : Int} (h : I64 x) (hf : Fits w 1) : ref3_writer_num w.1 w.2 x = some (wr1 w (.n x)).2 := by
  unfold ref3_writer_num
  have := put_length x
  have := hf.2
  rw [ref1_Put_eq h, Option.bind_some, appP1 (by omega)]; rfl
theorem r_len {w : W} {n : Nat} (h : n ≤ 1000000000) (hf : Fits w 1) : ref3_writer_num w.1 w.2 (n : Int) = some (wr1 w (.n (n : Int))).2 := r_num ⟨by omega, by omega⟩ hf
theorem r_truth {w : W} {b : Bool} (hf : Fits w 1) : ref3_writer_truth w.1 w.2 b = some (wr1 w (tkB b)).2 := by
  unfold ref3_writer_truth
  cases b with
  | true => rw [r_num (by decide) hf]; rfl
  | false => rw [r_num (x := 0) (by decide) hf]; rfl
theorem r_ix {l : List (List UInt8)} (hl : l.length ≤ 1000000000) (s : List UInt8) : loopP (fun z => ref3_writer_text_l1 l s z) 0 = some (.inl (ixN l s : Int)) := by
  have key : ∀ (r pre : List (List UInt8)), l = pre ++ r → loopP (fun z => ref3_writer_text_l1 l s z) (pre.length : Int) = some (.inl ((pre.length + ixN r s : Nat) : Int)) := by
    intro r
    induction r with
    | nil =>
      intro pre h
      rw [List.append_nil] at h
      subst h
      rw [loopP_eq]
      unfold ref3_writer_text_l1
      rw [past]; rfl
    | cons x r ih =>
      intro pre h
      have hlen : l.length = pre.length + (r.length + 1) := by rw [h]; simp
      have hx : l[pre.length]? = some x := by rw [h]; simp
      rw [loopP_eq]
      unfold ref3_writer_text_l1
      rw [here hx, idx_nat, hx]
      simp only [Option.bind_some, cond_true]
      unfold ixN
      rw [List.findIdx_cons]
      cases hs : (s == x) with
      | true =>
        have : x = s := (by simpa using hs : s = x).symm
        subst this
        simp
      | false =>
        have : (x == s) = false := by rw [beqC2]; exact hs
        rw [this]
        simp only [Bool.not_false, cond_true, cond_false]
        rw [wrap_succ (by omega)]
        have := ih (pre ++ [x]) (by rw [h]; simp)
        rw [show (pre ++ [x]).length = pre.length + 1 by simp] at this
        show loopP _ _ = _
        refine this.trans ?_
        unfold ixN
        rw [Nat.add_assoc, Nat.add_comm 1]
  have := key l [] rfl
  simpa using this
theorem r_text {w : W} {s : List UInt8} (hf : Fits w 1) : ref3_writer_text w.1 w.2 s = some (wr1 w (.t s)) := by
  obtain ⟨h1, h2⟩ := hf
  have hle := ixN_le w.1 s
  have hl := put_length (ixN w.1 s : Int)
  unfold ref3_writer_text
  rw [r_ix (by omega)]
  show ref3_writer_text_k2 w.1 w.2 s (ixN w.1 s : Int) = some (cond (decide (ixN w.1 s < w.1.length)) w.1 (w.1 ++ [s]), w.2 ++ put (ixN w.1 s : Int))
  unfold ref3_writer_text_k2
  have hn : ∀ p, ref3_writer_text_j3 w.2 (ixN w.1 s : Int) p = some (p, w.2 ++ put (ixN w.1 s : Int)) := fun p => by
    unfold ref3_writer_text_j3 ref3_writer_num
    rw [ref1_Put_eq ⟨by omega, by omega⟩, Option.bind_some, appP1 (by omega)]; rfl
  cases hd : decide (ixN w.1 s < w.1.length) with
  | true =>
    have h3 := of_decide_eq_true hd
    rw [beq_eq_false_iff_ne.2 (show ((ixN w.1 s : Nat) : Int) ≠ ((w.1.length : Nat) : Int) by omega)]
    exact hn w.1
  | false =>
    have h3 := of_decide_eq_false hd
    rw [show ((ixN w.1 s : Int) == (w.1.length : Int)) = true from beq_iff_eq.2 (by omega), appP_ok (by simp; omega) (by simp; omega)]
    exact hn _
theorem r_strings {w : W} {l : List (List UInt8)} (hl : FL FS l) (hf : Fits w (tkL tkS l).length) : ref3_writer_texts w.1 w.2 l = some (wrT w (tkL tkS l)) := by
  have hll := hl.len
  unfold ref3_writer_texts
  rw [r_len (by omega) hf.head]
  simp only [Option.bind_some]
  rw [show loopP (fun z => ref3_writer_texts_l1 l z.1 z.2.1 z.2.2) (w.1, (wr1 w (.n (l.length : Int))).2, 0) = some (.inl (wrT (wr1 w (.n (l.length : Int))) (l.flatMap tkS))) from
    fold_loop (by omega) (fun w i x hx hfx => by
      show ref3_writer_texts_l1 l w.1 w.2 (i : Int) = _
      unfold ref3_writer_texts_l1
      rw [here hx, idx_nat, hx]
      simp only [Option.bind_some, cond_true]
      rw [r_text hfx]; rfl) (fun w => by show ref3_writer_texts_l1 l w.1 w.2 (l.length : Int) = _; unfold ref3_writer_texts_l1; rw [past]; rfl) (wr1 w (.n (l.length : Int))) hf.tail]
  rfl
theorem r_traps {m : ApiMethod} {w : W} (hl : FL FTrap m.Traps) (hf : Fits w (tkL tkTrap m.Traps).length) : ref3_writer_method_k4 m w.1 w.2 = some (wrT w (tkL tkTrap m.Traps)) := by
  have hll := hl.len
  unfold ref3_writer_method_k4
  rw [r_len (by omega) hf.head]
  simp only [Option.bind_some]
  rw [show loopP (fun z => ref3_writer_method_l5 m z.1 z.2.1 z.2.2) (w.1, (wr1 w (.n (m.Traps.length : Int))).2, 0) = some (.inl (wrT (wr1 w (.n (m.Traps.length : Int))) (m.Traps.flatMap tkTrap))) from
    fold_loop (by omega) (fun w i x hx hfx => by
      have hxx := hl.all x (List.mem_of_getElem? hx)
      have f1 := Fits.one (k := 3) hfx (.n x.From)
      have f2 := Fits.one (k := 2) f1 (.n x.To)
      have f3 := Fits.one (k := 1) f2 (.n x.At)
      show ref3_writer_method_l5 m w.1 w.2 (i : Int) = _
      unfold ref3_writer_method_l5
      rw [here hx, idx_nat, hx]
      simp only [Option.bind_some, cond_true]
      rw [r_num hxx.lo (hfx.less (by simp [tkTrap]))]
      simp only [Option.bind_some]
      rw [show ref3_writer_num w.1 (wr1 w (.n x.From)).2 x.To = _ from r_num (w := wr1 w (.n x.From)) hxx.hi (f1.less (by omega))]
      simp only [Option.bind_some]
      rw [show ref3_writer_num w.1 (wr1 (wr1 w (.n x.From)) (.n x.To)).2 x.At = _ from r_num (w := wr1 (wr1 w (.n x.From)) (.n x.To)) hxx.pl (f2.less (by omega))]
      simp only [Option.bind_some]
      rw [show ref3_writer_text w.1 (wr1 (wr1 (wr1 w (.n x.From)) (.n x.To)) (.n x.At)).2 x.C = _ from r_text (w := wr1 (wr1 (wr1 w (.n x.From)) (.n x.To)) (.n x.At)) f3]
      rfl) (fun w => by show ref3_writer_method_l5 m w.1 w.2 (m.Traps.length : Int) = _; unfold ref3_writer_method_l5; rw [past]; rfl) (wr1 w (.n (m.Traps.length : Int))) hf.tail]
  rfl
theorem r_maps {m : ApiMethod} {w : W} (hl : FL FMap m.Maps) (ht : FL FTrap m.Traps) (hf : Fits w (tkL tkMap m.Maps ++ tkL tkTrap m.Traps).length) : ref3_writer_method_k2 m w.1 w.2 = some (wrT w (tkL tkMap m.Maps ++ tkL tkTrap m.Traps)) := by
  have hll := hl.len
  have hfl := hf.left
  unfold ref3_writer_method_k2
  rw [r_len (by omega) hfl.head]
  simp only [Option.bind_some]
  rw [show loopP (fun z => ref3_writer_method_l3 m z.1 z.2.1 z.2.2) (w.1, (wr1 w (.n (m.Maps.length : Int))).2, 0) = some (.inl (wrT (wr1 w (.n (m.Maps.length : Int))) (m.Maps.flatMap tkMap))) from
    fold_loop (by omega) (fun w i x hx hfx => by
      have hxx := hl.all x (List.mem_of_getElem? hx)
      show ref3_writer_method_l3 m w.1 w.2 (i : Int) = _
      unfold ref3_writer_method_l3
      rw [here hx, idx_nat, hx]
      simp only [Option.bind_some, cond_true]
      unfold tkMap at hfx ⊢
      rw [r_num hxx.pl hfx.head]
      simp only [Option.bind_some]
      rw [show ref3_writer_texts w.1 (wr1 w (.n x.At)).2 x.Locals = _ from r_strings (w := wr1 w (.n x.At)) hxx.locals hfx.tail.left]
      simp only [Option.bind_some]
      rw [r_strings hxx.stack hfx.tail.right, wrT_cons, wrT_app]
      rfl) (fun w => by show ref3_writer_method_l3 m w.1 w.2 (m.Maps.length : Int) = _; unfold ref3_writer_method_l3; rw [past]; rfl) (wr1 w (.n (m.Maps.length : Int))) hfl.tail]
  rw [wrT_app]
  exact r_traps ht hf.right
theorem r_meth {w : W} {m : ApiMethod} (hm : FMeth m) (hf : Fits w (tkMeth m).length) : ref3_writer_method w.1 w.2 m = some (wrT w (tkMeth m)) := by
  unfold tkMeth at hf ⊢
  unfold ref3_writer_method
  rw [wrT_cons, wrT_app, wrT_cons, wrT_cons, wrT_cons, wrT_cons, wrT_cons, wrT_app]
  have hll := hm.code.len
  have f1 := hf.tail
  have f2 := f1.right
  have f3 := f2.tail
  have f4 := f3.tail
  have f5 := f4.tail
  have f6 := f5.tail
  have f7 := f6.tail
  have f8 := f7.right
  rw [r_text hf.head]
  simp only [Option.bind_some]
  rw [r_strings hm.params f1.left]
  simp only [Option.bind_some]
  generalize wrT (wr1 w (.t m.Name)) (tkL tkS m.Params) = w2 at *
  rw [r_text f2.head]
  simp only [Option.bind_some]
  rw [r_truth f3.head]
  simp only [Option.bind_some]
  generalize hw3 : wr1 w2 (.t m.Ret) = w3 at *
  rw [show ref3_writer_truth w3.1 (wr1 w3 (tkB m.Static)).2 m.Abstract = _ from r_truth (w := wr1 w3 (tkB m.Static)) f4.head]
  simp only [Option.bind_some]
  generalize hw4 : wr1 w3 (tkB m.Static) = w4 at *
  have e4 : w3.1 = w4.1 := by rw [← hw4]; rfl
  rw [e4]
  generalize hw5 : wr1 w4 (tkB m.Abstract) = w5 at *
  have e5 : w4.1 = w5.1 := by rw [← hw5]; rfl
  rw [e5, r_num hm.locals f5.head]
  simp only [Option.bind_some]
  generalize hw6 : wr1 w5 (.n m.Locals) = w6 at *
  have e6 : w5.1 = w6.1 := by rw [← hw6]; rfl
  rw [e6, r_num hm.stack f6.head]
  simp only [Option.bind_some]
  generalize hw7 : wr1 w6 (.n m.Stack) = w7 at *
  have e7 : w6.1 = w7.1 := by rw [← hw7]; rfl
  rw [e7, r_len (by omega) f7.left.head]
  simp only [Option.bind_some]
  rw [show loopP (fun z => ref3_writer_method_l1 m z.1 z.2.1 z.2.2) (w7.1, (wr1 w7 (.n (m.Code.length : Int))).2, 0) = some (.inl (wrT (wr1 w7 (.n (m.Code.length : Int))) (m.Code.flatMap tkIns))) from
    fold_loop (by omega) (fun w i x hx hfx => by
      have hxx := hm.code.all x (List.mem_of_getElem? hx)
      have f1 := Fits.one (k := 3) hfx (.n x.Op)
      have f2 := Fits.one (k := 2) f1 (.n x.A)
      have f3 := Fits.one (k := 1) f2 (.t x.C)
      show ref3_writer_method_l1 m w.1 w.2 (i : Int) = _
      unfold ref3_writer_method_l1
      rw [here hx, idx_nat, hx]
      simp only [Option.bind_some, cond_true]
      rw [r_num hxx.op (hfx.less (by simp [tkIns]))]
      simp only [Option.bind_some]
      rw [show ref3_writer_num w.1 (wr1 w (.n x.Op)).2 x.A = _ from r_num (w := wr1 w (.n x.Op)) hxx.a (f1.less (by omega))]
      simp only [Option.bind_some]
      rw [show ref3_writer_text w.1 (wr1 (wr1 w (.n x.Op)) (.n x.A)).2 x.C = _ from r_text (w := wr1 (wr1 w (.n x.Op)) (.n x.A)) (f2.less (by omega))]
      simp only [Option.bind_some]
      rw [r_text f3]
      rfl) (fun w => by show ref3_writer_method_l1 m w.1 w.2 (m.Code.length : Int) = _; unfold ref3_writer_method_l1; rw [past]; rfl) (wr1 w7 (.n (m.Code.length : Int))) f7.left.tail]
  exact r_maps hm.maps hm.traps f8
theorem r_pool {l : List (List UInt8)} (hl : l.length ≤ 1000000) (hs : ∀ s ∈ l, FS s) {b : List UInt8} (hb : b.length ≤ 1000000000) : ref3_Bytes_k4 l b = some (outB (l, b)) := by
  have l3 := put_length (l.length : Int)
  unfold ref3_Bytes_k4
  rw [ref1_Put_eq ⟨by omega, by omega⟩, Option.bind_some, appP1 (by simp; omega), Option.bind_some]
  obtain ⟨e1, e2⟩ := puts_loop (R := List UInt8) (body := fun z => ref3_Bytes_l5 l z.1 z.2) hl (fun b i x hx hbl => by
    have hfx := hs x (List.mem_of_getElem? hx)
    have := putText_len x
    show ref3_Bytes_l5 l b (i : Int) = _
    unfold ref3_Bytes_l5
    unfold FS at hfx
    rw [here hx, idx_nat, hx]
    simp only [Option.bind_some, cond_true]
    rw [ref1_PutText_eq (by omega), Option.bind_some, appP1 (by omega)]; rfl) (fun b => by
    show ref3_Bytes_l5 l b (l.length : Int) = _
    unfold ref3_Bytes_l5
    rw [past]; rfl) hs ([74, 65, 86, 65] ++ put (l.length : Int)) (by rw [List.length_append]; simp; omega)
  rw [show loopP (fun z => ref3_Bytes_l5 l z.1 z.2) ([74, 65, 86, 65] ++ put (l.length : Int), 0) = _ from e1]
  show ref3_Bytes_k6 b _ = _
  unfold ref3_Bytes_k6
  rw [appP1 (by omega)]
  rfl
theorem ref3_Bytes_eq {c : ApiClass} (h : FClass c) (hm : mayG c = true) : ref3_Bytes c = some (bytesC c) := by
  obtain ⟨l1, l2⟩ := wr_len h hm
  have hp := pool_in (w := ([], [])) (fun s hs => by cases hs) (in_class h)
  have f0 := fits0 h.cg hm
  unfold bytesC
  unfold tkClass at f0 l1 l2 hp ⊢
  have f1 := f0.tail
  have f2 := f1.tail
  have f3 := f2.tail
  have f4 := f3.right
  have f5 := f4.right
  have hl4 := h.fields.len
  have hl5 := h.methods.len
  rw [wrT_cons, wrT_cons, wrT_cons, wrT_app, wrT_app] at l1 l2 hp ⊢
  unfold ref3_Bytes
  rw [show ref3_writer_text [] [] c.Name = _ from r_text (w := ([], [])) f0.head]
  simp only [Option.bind_some]
  rw [r_text f1.head]
  simp only [Option.bind_some]
  generalize wr1 (wr1 ([], []) (.t c.Name)) (.t c.Super) = w2 at *
  rw [r_truth f2.head]
  simp only [Option.bind_some]
  rw [show ref3_writer_texts w2.1 (wr1 w2 (tkB c.Interface)).2 c.Impl = _ from r_strings (w := wr1 w2 (tkB c.Interface)) h.impl f3.left]
  simp only [Option.bind_some]
  generalize wrT (wr1 w2 (tkB c.Interface)) (tkL tkS c.Impl) = w4 at *
  rw [r_len (by omega) f4.head]
  simp only [Option.bind_some]
  rw [show loopP (fun z => ref3_Bytes_l1 c z.1 z.2.1 z.2.2) (w4.1, (wr1 w4 (.n (c.Fields.length : Int))).2, 0) = some (.inl (wrT (wr1 w4 (.n (c.Fields.length : Int))) (c.Fields.flatMap tkField))) from
    fold_loop (by omega) (fun w i x hx hfx => by
      have f1 := Fits.one (k := 2) hfx (.t x.Name)
      have f2 := Fits.one (k := 1) f1 (.t x.Type_)
      show ref3_Bytes_l1 c w.1 w.2 (i : Int) = _
      unfold ref3_Bytes_l1
      rw [here hx, idx_nat, hx]
      simp only [Option.bind_some, cond_true]
      rw [r_text (hfx.less (by simp [tkField]))]
      simp only [Option.bind_some]
      rw [r_text (f1.less (by omega))]
      simp only [Option.bind_some]
      rw [r_truth f2]
      rfl) (fun w => by show ref3_Bytes_l1 c w.1 w.2 (c.Fields.length : Int) = _; unfold ref3_Bytes_l1; rw [past]; rfl) (wr1 w4 (.n (c.Fields.length : Int))) f4.left.tail]
  simp only [Option.bind_some]
  show ref3_Bytes_k2 c (wrT w4 (tkL tkField c.Fields)).1 (wrT w4 (tkL tkField c.Fields)).2 = _
  generalize wrT w4 (tkL tkField c.Fields) = w5 at *
  unfold ref3_Bytes_k2
  rw [r_len (by omega) f5.head]
  simp only [Option.bind_some]
  rw [show loopP (fun z => ref3_Bytes_l3 c z.1 z.2.1 z.2.2) (w5.1, (wr1 w5 (.n (c.Methods.length : Int))).2, 0) = some (.inl (wrT (wr1 w5 (.n (c.Methods.length : Int))) (c.Methods.flatMap tkMeth))) from
    fold_loop (by omega) (fun w i x hx hfx => by
      show ref3_Bytes_l3 c w.1 w.2 (i : Int) = _
      unfold ref3_Bytes_l3
      rw [here hx, idx_nat, hx]
      simp only [Option.bind_some, cond_true]
      rw [r_meth (h.methods.all x (List.mem_of_getElem? hx)) hfx]
      rfl) (fun w => by show ref3_Bytes_l3 c w.1 w.2 (c.Methods.length : Int) = _; unfold ref3_Bytes_l3; rw [past]; rfl) (wr1 w5 (.n (c.Methods.length : Int))) f5.tail]
  simp only [Option.bind_some]
  show ref3_Bytes_k4 (wrT w5 (tkL tkMeth c.Methods)).1 (wrT w5 (tkL tkMeth c.Methods)).2 = _
  exact r_pool l1 hp l2
end Go.Proofs.YtdhpdpkcfffpiaaGreat
namespace Go.Proofs.YtdhpdpkcfffpiaaGreat
set_option linter.unusedSimpArgs false
set_option linter.unusedVariables false
set_option linter.unusedSectionVars false
abbrev Rea (α : Type) := List UInt8 → Bool → α × List UInt8 × Bool
structure ReaW {α : Type} (Q : α → Prop) (g : Rea α) : Prop where
  le : ∀ b bad, (g b bad).2.1.length ≤ b.length
  mono : ∀ b bad, (g b bad).2.2 = false → bad = false
  q : ∀ b bad, b.length ≤ 6000 → Q (g b bad).1
structure ReaOk {α : Type} (Q : α → Prop) (g : Rea α) : Prop extends ReaW Q g where
  lt : ∀ b bad, (g b bad).2.2 = false → (g b bad).2.1.length < b.length
def Rea.ret {α : Type} (x : α) : Rea α := fun b bad => (x, b, bad)
def Rea.bind {α β : Type} (g : Rea α) (f : α → Rea β) : Rea β := fun b bad => f (g b bad).1 (g b bad).2.1 (g b bad).2.2
theorem ReaW.ret {α : Type} {Q : α → Prop} {x : α} (h : Q x) : ReaW Q (Rea.ret x) := ⟨fun _ _ => Nat.le_refl _, fun _ _ h => h, fun _ _ _ => h⟩
theorem ReaW.bind {α β : Type} {Q : α → Prop} {S : β → Prop} {g : Rea α} {f : α → Rea β} (hg : ReaW Q g) (hf : ∀ x, Q x → ReaW S (f x)) (hn : ∀ x b bad, (f x b bad).2.1.length ≤ b.length ∧ ((f x b bad).2.2 = false → bad = false)) : ReaW S (g.bind f) where
  le b bad := Nat.le_trans (hn _ _ _).1 (hg.le b bad)
  mono b bad h := hg.mono b bad ((hn _ _ _).2 h)
  q b bad h := (hf _ (hg.q b bad h)).q _ _ (Nat.le_trans (hg.le b bad) h)
theorem ReaOk.bind {α β : Type} {Q : α → Prop} {S : β → Prop} {g : Rea α} {f : α → Rea β} (hg : ReaOk Q g) (hf : ∀ x, Q x → ReaW S (f x)) (hn : ∀ x b bad, (f x b bad).2.1.length ≤ b.length ∧ ((f x b bad).2.2 = false → bad = false)) : ReaOk S (g.bind f) :=
  ⟨ReaW.bind hg.toReaW hf hn, fun b bad h => Nat.lt_of_le_of_lt (hn _ _ _).1 (hg.lt b bad ((hn _ _ _).2 h))⟩
def ReaN {α : Type} (g : Rea α) : Prop := ∀ b bad, (g b bad).2.1.length ≤ b.length ∧ ((g b bad).2.2 = false → bad = false)
theorem ReaN.ret {α : Type} {x : α} : ReaN (Rea.ret x) := fun _ _ => ⟨Nat.le_refl _, fun h => h⟩
theorem ReaN.bind {α β : Type} {g : Rea α} {f : α → Rea β} (hg : ReaN g) (hf : ∀ x, ReaN (f x)) : ReaN (g.bind f) := fun b bad =>
  ⟨Nat.le_trans (hf _ _ _).1 (hg b bad).1, fun h => (hg b bad).2 ((hf _ _ _).2 h)⟩
theorem ReaW.n {α : Type} {Q : α → Prop} {g : Rea α} (h : ReaW Q g) : ReaN g := fun b bad => ⟨h.le b bad, h.mono b bad⟩
def rdN : Rea Int := fun b bad => cond (bad || !((getB b).2.2 == (0 : Int))) (0, b, true) ((getB b).1, b.drop (getB b).2.1.toNat, false)
def rdT (P : List (List UInt8)) : Rea (List UInt8) := fun b bad =>
  cond (((rdN b bad).2.2 || decide ((rdN b bad).1 < 0)) || decide ((P.length : Int) ≤ (rdN b bad).1)) ([], (rdN b bad).2.1, true) ((P[(rdN b bad).1.toNat]?).getD [], (rdN b bad).2.1, (rdN b bad).2.2)
def rdB : Rea Bool := fun b bad => (!((rdN b bad).1 == (0 : Int)), (rdN b bad).2.1, (rdN b bad).2.2)
def rdO : Rea (List UInt8) := fun b bad => cond (bad || !((getText b).2.2 == (0 : Int))) ((getText b).1, b, true) ((getText b).1, b.drop (getText b).2.1.toNat, false)
theorem rdN_ok : ReaOk I64 rdN where
  le b bad := by
    unfold rdN
    cases (bad || !((getB b).2.2 == (0 : Int))) with
    | true => exact Nat.le_refl _
    | false => simp only [cond_false, List.length_drop]; omega
  mono b bad h := by
    unfold rdN at h
    cases hc : (bad || !((getB b).2.2 == (0 : Int))) with
    | true => rw [hc] at h; cases h
    | false => exact (Bool.or_eq_false_iff.1 hc).1
  q b bad _ := by
    unfold rdN
    cases hc : (bad || !((getB b).2.2 == (0 : Int))) with
    | true => show I64 0; decide
    | false =>
      have h1 := (Bool.or_eq_false_iff.1 hc).2
      obtain ⟨j, _, _, _, _, h2, h3⟩ := getB_ok b (by simpa using h1)
      exact ⟨h2, h3⟩
  lt b bad h := by
    unfold rdN at h ⊢
    cases hc : (bad || !((getB b).2.2 == (0 : Int))) with
    | true => rw [hc] at h; cases h
    | false =>
      have h1 := (Bool.or_eq_false_iff.1 hc).2
      obtain ⟨j, h2, h3, h4, _⟩ := getB_ok b (by simpa using h1)
      simp only [cond_false, List.length_drop]
      rw [h2]
      omega
theorem rdB_ok : ReaOk (fun _ => True) rdB where
  le := rdN_ok.le
  mono := rdN_ok.mono
  q _ _ _ := trivial
  lt := rdN_ok.lt
theorem rdT_n (P : List (List UInt8)) : ReaN (rdT P) := fun b bad => by
  unfold rdT
  cases hc : (((rdN b bad).2.2 || decide ((rdN b bad).1 < 0)) || decide ((P.length : Int) ≤ (rdN b bad).1)) with
  | true => exact ⟨rdN_ok.le b bad, fun h => by cases h⟩
  | false => exact ⟨rdN_ok.le b bad, rdN_ok.mono b bad⟩
theorem rdT_ok {P : List (List UInt8)} (hP : ∀ s ∈ P, FS s) : ReaOk FS (rdT P) where
  le b bad := (rdT_n P b bad).1
  mono b bad := (rdT_n P b bad).2
  q b bad _ := by
    unfold rdT
    cases hc : (((rdN b bad).2.2 || decide ((rdN b bad).1 < 0)) || decide ((P.length : Int) ≤ (rdN b bad).1)) with
    | true => show FS []; unfold FS; simp
    | false =>
      show FS ((P[(rdN b bad).1.toNat]?).getD [])
      cases h : P[(rdN b bad).1.toNat]? with
      | none => unfold FS; simp
      | some s => exact hP s (List.mem_of_getElem? h)
  lt b bad h := by
    unfold rdT at h ⊢
    cases hc : (((rdN b bad).2.2 || decide ((rdN b bad).1 < 0)) || decide ((P.length : Int) ≤ (rdN b bad).1)) with
    | true => rw [hc] at h; cases h
    | false => rw [hc] at h; exact rdN_ok.lt b bad h
theorem getText_ok (b : List UInt8) (h : (getText b).2.2 = 0) : ∃ j : Nat, (getText b).2.1 = j ∧ 1 ≤ j ∧ j ≤ b.length := by
  unfold getText at h ⊢
  split
  · rename_i h1; rw [if_pos h1] at h; exact absurd h h1
  · rename_i h1
    rw [if_neg h1] at h
    split
    · rename_i h2; rw [if_pos h2] at h; exact absurd h (by decide)
    · rename_i h2
      rw [if_neg h2] at h
      split
      · rename_i h3; rw [if_pos h3] at h; exact absurd h (by decide)
      · rename_i h3
        obtain ⟨j, h4, h5, h6, _⟩ := getB_ok b (by simpa using h1)
        exact ⟨j + (getB b).1.toNat, by show (getB b).2.1 + (getB b).1 = _; omega, by omega, by omega⟩
theorem getText_len (b : List UInt8) : (getText b).1.length ≤ b.length := by
  unfold getText
  split
  · simp
  · split
    · simp
    · split
      · simp
      · simp only [List.length_take, List.length_drop]; omega
theorem rdO_ok : ReaOk FS rdO where
  le b bad := by
    unfold rdO
    cases (bad || !((getText b).2.2 == (0 : Int))) with
    | true => exact Nat.le_refl _
    | false => simp only [cond_false, List.length_drop]; omega
  mono b bad h := by
    unfold rdO at h
    cases hc : (bad || !((getText b).2.2 == (0 : Int))) with
    | true => rw [hc] at h; cases h
    | false => exact (Bool.or_eq_false_iff.1 hc).1
  q b bad hb := by
    have := getText_len b
    unfold rdO
    cases hc : (bad || !((getText b).2.2 == (0 : Int))) with
    | true => show FS (getText b).1; unfold FS; omega
    | false => show FS (getText b).1; unfold FS; omega
  lt b bad h := by
    unfold rdO at h ⊢
    cases hc : (bad || !((getText b).2.2 == (0 : Int))) with
    | true => rw [hc] at h; cases h
    | false =>
      have h1 := (Bool.or_eq_false_iff.1 hc).2
      obtain ⟨j, h2, h3, h4⟩ := getText_ok b (by simpa using h1)
      simp only [cond_false, List.length_drop]
      rw [h2]
      omega
def rdLoop {α : Type} (g : Rea α) : Nat → List UInt8 → Bool → List α → List α × List UInt8 × Bool
  | 0, b, bad, acc => (acc, b, bad)
  | n + 1, b, bad, acc => cond bad (acc, b, bad) (rdLoop g n (g b bad).2.1 (g b bad).2.2 (acc ++ [(g b bad).1]))
def reL {α : Type} (g : Rea α) : Rea (List α) := fun b bad => rdLoop g (rdN b bad).1.toNat (rdN b bad).2.1 (rdN b bad).2.2 []
theorem rdLoop_n {α : Type} {g : Rea α} (hg : ReaN g) : ∀ n b bad acc, (rdLoop g n b bad acc).2.1.length ≤ b.length ∧ ((rdLoop g n b bad acc).2.2 = false → bad = false)
  | 0, b, bad, acc => ⟨Nat.le_refl _, fun h => h⟩
  | n + 1, b, bad, acc => by
    unfold rdLoop
    cases bad with
    | true => exact ⟨Nat.le_refl _, fun h => by cases h⟩
    | false =>
      have h1 := rdLoop_n hg n (g b false).2.1 (g b false).2.2 (acc ++ [(g b false).1])
      exact ⟨Nat.le_trans h1.1 (hg b false).1, fun _ => rfl⟩
theorem reL_n {α : Type} {g : Rea α} (hg : ReaN g) : ReaN (reL g) := fun b bad => by
  have h1 := rdLoop_n hg (rdN b bad).1.toNat (rdN b bad).2.1 (rdN b bad).2.2 []
  exact ⟨Nat.le_trans h1.1 (rdN_ok.le b bad), fun h => rdN_ok.mono b bad (h1.2 h)⟩
theorem rdLoop_q {α : Type} {Q : α → Prop} {g : Rea α} (hg : ReaOk Q g) : ∀ n b bad acc, b.length ≤ 6000 → (bad = false → acc.length + b.length ≤ 6001) → acc.length ≤ 6002 → (∀ x ∈ acc, Q x) → FL Q (rdLoop g n b bad acc).1
  | 0, b, bad, acc, _, _, h2, h3 => ⟨by show acc.length ≤ 10000; omega, h3⟩
  | n + 1, b, bad, acc, hb, h1, h2, h3 => by
    unfold rdLoop
    cases bad with
    | true => exact ⟨by show acc.length ≤ 10000; omega, h3⟩
    | false =>
      have h1 := h1 rfl
      have hle := hg.le b false
      refine rdLoop_q hg n _ _ _ (by omega) (fun h => ?_) (by simp; omega) fun x hx => ?_
      · have := hg.lt b false h
        simp; omega
      · rcases List.mem_append.1 hx with hx | hx
        · exact h3 x hx
        · rw [List.mem_singleton.1 hx]; exact hg.q b false hb
theorem reL_ok {α : Type} {Q : α → Prop} {g : Rea α} (hg : ReaOk Q g) : ReaOk (FL Q) (reL g) where
  le b bad := (reL_n hg.toReaW.n b bad).1
  mono b bad := (reL_n hg.toReaW.n b bad).2
  q b bad hb := by
    have := rdN_ok.le b bad
    exact rdLoop_q hg _ _ _ _ (by omega) (fun _ => by simp; omega) (by simp) fun x hx => by cases hx
  lt b bad h := by
    have h1 := rdLoop_n hg.toReaW.n (rdN b bad).1.toNat (rdN b bad).2.1 (rdN b bad).2.2 []
    exact Nat.lt_of_le_of_lt h1.1 (rdN_ok.lt b bad (h1.2 h))
theorem read_loop {α R : Type} {Q : α → Prop} {g : Rea α} (hg : ReaOk Q g) {w : Nat} (hw : w ≤ 200) {body : List UInt8 × Bool × List α × Int → Option (Sum (List UInt8 × Bool × List α × Int) (Sum (List α × List UInt8 × Bool) R))}
    (hb : ∀ b bad acc n, b.length ≤ 6000 → body (b, bad, acc, n) = cond (decide (0 < n) && !bad) ((appP w acc [(g b bad).1]).bind fun v => some (.inl ((g b bad).2.1, (g b bad).2.2, v, IntKind.i64.wrap (n - 1)))) (some (.inr (.inl (acc, b, bad))))) :
    ∀ (n : Nat) b bad acc, b.length ≤ 6000 → n ≤ 9223372036854775807 → (bad = false → acc.length + b.length ≤ 6001) → acc.length ≤ 6002 → loopP body (b, bad, acc, (n : Int)) = some (.inl (rdLoop g n b bad acc)) := by
  intro n
  induction n with
  | zero =>
    intro b bad acc h0 _ _ _
    rw [loopP_eq, hb _ _ _ _ h0]; rfl
  | succ n ih =>
    intro b bad acc h0 hn h1 h2
    rw [loopP_eq, hb _ _ _ _ h0]
    unfold rdLoop
    cases bad with
    | true => rw [Bool.not_true, Bool.and_false]; rfl
    | false =>
      rw [decide_eq_true (show (0 : Int) < ((n + 1 : Nat) : Int) by omega)]
      have h1 := h1 rfl
      have hle := hg.le b false
      have hm : (acc.length + 1) * w ≤ 6002 * 200 := Nat.mul_le_mul (by omega) hw
      rw [appP_ok (by simp; omega) (by simp; omega), wrapI (n := ((n + 1 : Nat) : Int) - 1) (by omega) (by omega), show ((n + 1 : Nat) : Int) - 1 = (n : Int) by omega]
      refine ih _ _ _ (by omega) (by omega) (fun h => ?_) (by simp; omega)
      have := hg.lt b false h
      simp; omega
theorem read_list {α R : Type} {Q : α → Prop} {g : Rea α} (hg : ReaOk Q g) {w : Nat} (hw : w ≤ 200) {body : List UInt8 × Bool × List α × Int → Option (Sum (List UInt8 × Bool × List α × Int) (Sum (List α × List UInt8 × Bool) R))}
    (hb : ∀ b bad acc n, b.length ≤ 6000 → body (b, bad, acc, n) = cond (decide (0 < n) && !bad) ((appP w acc [(g b bad).1]).bind fun v => some (.inl ((g b bad).2.1, (g b bad).2.2, v, IntKind.i64.wrap (n - 1)))) (some (.inr (.inl (acc, b, bad)))))
    {b : List UInt8} {bad : Bool} (h0 : b.length ≤ 6000) : loopP body ((rdN b bad).2.1, (rdN b bad).2.2, [], (rdN b bad).1) = some (.inl (reL g b bad)) := by
  have hle := rdN_ok.le b bad
  have hq := rdN_ok.q b bad h0
  unfold reL
  rcases (show 0 < (rdN b bad).1 ∨ (rdN b bad).1 ≤ 0 by omega) with h | h
  · have := read_loop hg hw hb (rdN b bad).1.toNat (rdN b bad).2.1 (rdN b bad).2.2 [] (by omega) (by have := hq.2; omega) (fun _ => by simp; omega) (by simp)
    rw [show (((rdN b bad).1.toNat : Nat) : Int) = (rdN b bad).1 by omega] at this
    exact this
  · have e : (rdN b bad).1.toNat = 0 := by omega
    rw [e, loopP_eq, hb _ _ _ _ (by omega), decide_eq_false (by omega)]
    rfl
def rdField (P : List (List UInt8)) : Rea ApiField := (rdT P).bind fun n => (rdT P).bind fun t => rdB.bind fun s => Rea.ret (ApiField.mk n t s)
def rdIns (P : List (List UInt8)) : Rea ApiIns := rdN.bind fun o => rdN.bind fun a => (rdT P).bind fun c => (rdT P).bind fun m => Rea.ret (ApiIns.mk o a c m)
def rdMap (P : List (List UInt8)) : Rea ApiMap := rdN.bind fun a => (reL (rdT P)).bind fun l => (reL (rdT P)).bind fun s => Rea.ret (ApiMap.mk a l s)
def rdTrap (P : List (List UInt8)) : Rea ApiTrap := rdN.bind fun f => rdN.bind fun t => rdN.bind fun a => (rdT P).bind fun c => Rea.ret (ApiTrap.mk f t a c)
def rdMeth (P : List (List UInt8)) : Rea ApiMethod := (rdT P).bind fun n => (reL (rdT P)).bind fun p => (rdT P).bind fun r => rdB.bind fun s => rdB.bind fun a => rdN.bind fun lo => rdN.bind fun st => (reL (rdIns P)).bind fun c => (reL (rdMap P)).bind fun m => (reL (rdTrap P)).bind fun t =>
  Rea.ret (ApiMethod.mk n p r s a lo st c m t)
def rdClass (P : List (List UInt8)) : Rea ApiClass := (rdT P).bind fun n => (rdT P).bind fun s => rdB.bind fun i => (reL (rdT P)).bind fun im => (reL (rdField P)).bind fun f => (reL (rdMeth P)).bind fun m => Rea.ret (ApiClass.mk n s i im f m)
section
variable {P : List (List UInt8)} (hP : ∀ s ∈ P, FS s)
include hP
theorem rdField_ok : ReaOk FField (rdField P) :=
  (rdT_ok hP).bind (fun n hn => ((rdT_ok hP).toReaW.bind (fun t ht => rdB_ok.toReaW.bind (fun s _ => ReaW.ret ⟨hn, ht⟩) fun _ => ReaN.ret) fun _ => rdB_ok.toReaW.n.bind fun _ => ReaN.ret))
    fun _ => (rdT_n P).bind fun _ => rdB_ok.toReaW.n.bind fun _ => ReaN.ret
theorem rdIns_ok : ReaOk FIns (rdIns P) :=
  rdN_ok.bind (fun o ho => rdN_ok.toReaW.bind (fun a ha => (rdT_ok hP).toReaW.bind (fun c hc => (rdT_ok hP).toReaW.bind (fun m hm => ReaW.ret ⟨ho, ha, hc, hm⟩) fun _ => ReaN.ret) fun _ => (rdT_n P).bind fun _ => ReaN.ret)
      fun _ => (rdT_n P).bind fun _ => (rdT_n P).bind fun _ => ReaN.ret)
    fun _ => rdN_ok.toReaW.n.bind fun _ => (rdT_n P).bind fun _ => (rdT_n P).bind fun _ => ReaN.ret
theorem rdMap_ok : ReaOk FMap (rdMap P) :=
  rdN_ok.bind (fun a ha => (reL_ok (rdT_ok hP)).toReaW.bind (fun l hl => (reL_ok (rdT_ok hP)).toReaW.bind (fun s hs => ReaW.ret ⟨ha, hl, hs⟩) fun _ => ReaN.ret) fun _ => (reL_n (rdT_n P)).bind fun _ => ReaN.ret)
    fun _ => (reL_n (rdT_n P)).bind fun _ => (reL_n (rdT_n P)).bind fun _ => ReaN.ret
theorem rdTrap_ok : ReaOk FTrap (rdTrap P) :=
  rdN_ok.bind (fun f hf => rdN_ok.toReaW.bind (fun t ht => rdN_ok.toReaW.bind (fun a ha => (rdT_ok hP).toReaW.bind (fun c hc => ReaW.ret ⟨hf, ht, ha, hc⟩) fun _ => ReaN.ret) fun _ => (rdT_n P).bind fun _ => ReaN.ret)
      fun _ => rdN_ok.toReaW.n.bind fun _ => (rdT_n P).bind fun _ => ReaN.ret)
    fun _ => rdN_ok.toReaW.n.bind fun _ => rdN_ok.toReaW.n.bind fun _ => (rdT_n P).bind fun _ => ReaN.ret
theorem rdMeth_ok : ReaOk FMeth (rdMeth P) := by
  have nT := rdT_n P
  have nL := reL_n nT
  have nB := rdB_ok.toReaW.n
  have nN := rdN_ok.toReaW.n
  have nI := reL_n (rdIns_ok hP).toReaW.n
  have nM := reL_n (rdMap_ok hP).toReaW.n
  have nR := reL_n (rdTrap_ok hP).toReaW.n
  have wT := (rdT_ok hP).toReaW
  have wL := (reL_ok (rdT_ok hP)).toReaW
  have wB := rdB_ok.toReaW
  have wN := rdN_ok.toReaW
  have wI := (reL_ok (rdIns_ok hP)).toReaW
  have wM := (reL_ok (rdMap_ok hP)).toReaW
  have wR := (reL_ok (rdTrap_ok hP)).toReaW
  refine (rdT_ok hP).bind (fun n hn => wL.bind (fun p hp => wT.bind (fun r hr => wB.bind (fun s _ => wB.bind (fun a _ => wN.bind (fun lo hlo => wN.bind (fun st hst => wI.bind (fun c hc => wM.bind (fun m hm => wR.bind (fun t ht => ReaW.ret ⟨hn, hp, hr, hlo, hst, hc, hm, ht⟩) ?_) ?_) ?_) ?_) ?_) ?_) ?_) ?_) ?_) ?_
  · exact fun _ => ReaN.ret
  · exact fun _ => nR.bind fun _ => ReaN.ret
  · exact fun _ => nM.bind fun _ => nR.bind fun _ => ReaN.ret
  · exact fun _ => nI.bind fun _ => nM.bind fun _ => nR.bind fun _ => ReaN.ret
  · exact fun _ => nN.bind fun _ => nI.bind fun _ => nM.bind fun _ => nR.bind fun _ => ReaN.ret
  · exact fun _ => nN.bind fun _ => nN.bind fun _ => nI.bind fun _ => nM.bind fun _ => nR.bind fun _ => ReaN.ret
  · exact fun _ => nB.bind fun _ => nN.bind fun _ => nN.bind fun _ => nI.bind fun _ => nM.bind fun _ => nR.bind fun _ => ReaN.ret
  · exact fun _ => nB.bind fun _ => nB.bind fun _ => nN.bind fun _ => nN.bind fun _ => nI.bind fun _ => nM.bind fun _ => nR.bind fun _ => ReaN.ret
  · exact fun _ => nT.bind fun _ => nB.bind fun _ => nB.bind fun _ => nN.bind fun _ => nN.bind fun _ => nI.bind fun _ => nM.bind fun _ => nR.bind fun _ => ReaN.ret
  · exact fun _ => nL.bind fun _ => nT.bind fun _ => nB.bind fun _ => nB.bind fun _ => nN.bind fun _ => nN.bind fun _ => nI.bind fun _ => nM.bind fun _ => nR.bind fun _ => ReaN.ret
theorem rdClass_ok : ReaOk FClass (rdClass P) := by
  have nT := rdT_n P
  have nL := reL_n nT
  have nB := rdB_ok.toReaW.n
  have nF := reL_n (rdField_ok hP).toReaW.n
  have nM := reL_n (rdMeth_ok hP).toReaW.n
  have wT := (rdT_ok hP).toReaW
  have wL := (reL_ok (rdT_ok hP)).toReaW
  have wB := rdB_ok.toReaW
  have wF := (reL_ok (rdField_ok hP)).toReaW
  have wM := (reL_ok (rdMeth_ok hP)).toReaW
  refine (rdT_ok hP).bind (fun n hn => wT.bind (fun s hs => wB.bind (fun i _ => wL.bind (fun l hl => wF.bind (fun f hf => wM.bind (fun m hm => ReaW.ret ⟨hn, hs, hl, hf, hm⟩) ?_) ?_) ?_) ?_) ?_) ?_
  · exact fun _ => ReaN.ret
  · exact fun _ => nM.bind fun _ => ReaN.ret
  · exact fun _ => nF.bind fun _ => nM.bind fun _ => ReaN.ret
  · exact fun _ => nL.bind fun _ => nF.bind fun _ => nM.bind fun _ => ReaN.ret
  · exact fun _ => nB.bind fun _ => nL.bind fun _ => nF.bind fun _ => nM.bind fun _ => ReaN.ret
  · exact fun _ => nT.bind fun _ => nB.bind fun _ => nL.bind fun _ => nF.bind fun _ => nM.bind fun _ => ReaN.ret
end
abbrev L6 (b : List UInt8) : Prop := b.length ≤ 6000
theorem skip_eq {P : List (List UInt8)} {b : List UInt8} {bad : Bool} {k e : Int} (h : e = 0 → ∃ j : Nat, k = j ∧ j ≤ b.length) : file_reader_skip P b bad k e = some (cond (bad || !(e == (0 : Int))) b (b.drop k.toNat)) := by
  unfold file_reader_skip
  cases hc : (bad || !(e == (0 : Int))) with
  | true => rfl
  | false =>
    have h1 := (Bool.or_eq_false_iff.1 hc).2
    obtain ⟨j, h2, h3⟩ := h (by simpa using h1)
    subst h2
    simp only [Bool.not_false, cond_true, cond_false]
    rw [cutP_from h3]
    rfl
theorem g_num {P : List (List UInt8)} {b : List UInt8} {bad : Bool} (h : L6 b) : file_reader_num P b bad = some (rdN b bad) := by
  unfold file_reader_num rdN
  unfold L6 at h
  rw [num_Get_eq (by unfold Len; omega), Option.bind_some, skip_eq (fun he => by obtain ⟨j, h1, _, h2, _⟩ := getB_ok b he; exact ⟨j, h1, h2⟩), Option.bind_some]
  cases hc : (bad || !((getB b).2.2 == (0 : Int))) <;> rfl
theorem g_text {P : List (List UInt8)} {b : List UInt8} {bad : Bool} (h : L6 b) : file_reader_text P b bad = some (rdT P b bad) := by
  unfold file_reader_text rdT
  rw [g_num h, Option.bind_some]
  cases hc : (((rdN b bad).2.2 || decide ((rdN b bad).1 < 0)) || decide ((P.length : Int) ≤ (rdN b bad).1)) with
  | true => rfl
  | false =>
    simp only [Bool.or_eq_false_iff, decide_eq_false_iff_not] at hc
    simp only [cond_false]
    have e : (rdN b bad).1 = (((rdN b bad).1.toNat : Nat) : Int) := by omega
    conv => lhs; rw [e, idx_nat]
    rw [List.getElem?_eq_getElem (show (rdN b bad).1.toNat < P.length by omega)]
    rfl
theorem g_truth {P : List (List UInt8)} {b : List UInt8} {bad : Bool} (h : L6 b) : file_reader_truth P b bad = some (rdB b bad) := by
  unfold file_reader_truth
  rw [g_num h]; rfl
theorem g_own {P : List (List UInt8)} {b : List UInt8} {bad : Bool} (h : L6 b) : file_reader_own P b bad = some (rdO b bad) := by
  unfold file_reader_own rdO
  unfold L6 at h
  rw [num_GetText_eq (by unfold Len; omega), Option.bind_some, skip_eq (fun he => by obtain ⟨j, h1, _, h2⟩ := getText_ok b he; exact ⟨j, h1, h2⟩), Option.bind_some]
  cases hc : (bad || !((getText b).2.2 == (0 : Int))) <;> rfl
theorem g_list {α : Type} {Q : α → Prop} {g : Rea α} (hg : ReaOk Q g) {w : Nat} (hw : w ≤ 200) {P : List (List UInt8)} {b : List UInt8} {bad : Bool} {l : List (List UInt8) → List UInt8 → Bool → List α → Int → Option (Sum (List UInt8 × Bool × List α × Int) (Sum (List α × List UInt8 × Bool) (List α × List UInt8 × Bool)))}
    {k : List α → List UInt8 → Bool → Option (List α × List UInt8 × Bool)} {e : List UInt8 → Bool → Option (α × List UInt8 × Bool)}
    (he : ∀ b bad, L6 b → e b bad = some (g b bad))
    (hl : ∀ b bad acc n, l P b bad acc n = cond (decide (0 < n) && !bad) ((e b bad).bind fun v15 => (appP w acc [v15.1]).bind fun v16 => some (.inl (v15.2.1, v15.2.2, v16, (IntKind.i64.wrap (n - 1))))) (some (.inr (.inl (acc, b, bad)))))
    (hk : ∀ a b c, k a b c = some (a, b, c)) (h : L6 b) :
    ((file_reader_num P b bad).bind fun v4 => (loopP (fun z => l P z.1 z.2.1 z.2.2.1 z.2.2.2) (v4.2.1, v4.2.2, [], v4.1)).bind fun o => leave o (fun b => k b.1 b.2.1 b.2.2) some) = some (reL g b bad) := by
  rw [g_num h, Option.bind_some, read_list hg hw (body := fun z => l P z.1 z.2.1 z.2.2.1 z.2.2.2) (fun b bad acc n hb => by
    show l P b bad acc n = _
    rw [hl, he b bad hb]
    rfl) h]
  exact hk _ _ _
theorem g_pool {b : List UInt8} {bad : Bool} (h : L6 b) : file_read_string [] b bad = some (reL rdO b bad) :=
  g_list rdO_ok (by decide) (l := file_read_string_l1) (k := file_read_string_k2) (fun b bad hb => g_own hb) (fun _ _ _ _ => rfl) (fun _ _ _ => rfl) h
section
variable {P : List (List UInt8)} (hP : ∀ s ∈ P, FS s) {b : List UInt8} {bad : Bool} (h : L6 b)
include hP h
theorem g_strings : file_read_string_s2 P b bad = some (reL (rdT P) b bad) :=
  g_list (rdT_ok hP) (by decide) (l := file_read_string_s2_l1) (k := file_read_string_s2_k2) (fun b bad hb => g_text hb) (fun _ _ _ _ => rfl) (fun _ _ _ => rfl) h
theorem g_field : file_reader_field P b bad = some (rdField P b bad) := by
  unfold file_reader_field
  have h1 := (rdT_n P b bad).1
  have h2 := (rdT_n P (rdT P b bad).2.1 (rdT P b bad).2.2).1
  unfold L6 at h
  rw [g_text (by unfold L6; omega)]
  simp only [Option.bind_some]
  rw [g_text (by unfold L6; omega)]
  simp only [Option.bind_some]
  rw [g_truth (by unfold L6; omega)]
  rfl
theorem g_ins : file_reader_ins P b bad = some (rdIns P b bad) := by
  unfold file_reader_ins
  unfold L6 at h
  rw [g_num h]
  simp only [Option.bind_some]
  have h1 := rdN_ok.le b bad
  generalize hr : rdN b bad = r at *
  rw [g_num (by unfold L6; omega)]
  simp only [Option.bind_some]
  have h2 := rdN_ok.le r.2.1 r.2.2
  generalize hr2 : rdN r.2.1 r.2.2 = r2 at *
  rw [g_text (by unfold L6; omega)]
  simp only [Option.bind_some]
  have h3 := (rdT_n P r2.2.1 r2.2.2).1
  generalize hr3 : rdT P r2.2.1 r2.2.2 = r3 at *
  rw [g_text (by unfold L6; omega)]
  subst hr; subst hr2; subst hr3
  rfl
theorem g_trap : file_reader_trap P b bad = some (rdTrap P b bad) := by
  unfold file_reader_trap
  unfold L6 at h
  rw [g_num h]
  simp only [Option.bind_some]
  have h1 := rdN_ok.le b bad
  generalize hr : rdN b bad = r at *
  rw [g_num (by unfold L6; omega)]
  simp only [Option.bind_some]
  have h2 := rdN_ok.le r.2.1 r.2.2
  generalize hr2 : rdN r.2.1 r.2.2 = r2 at *
  rw [g_num (by unfold L6; omega)]
  simp only [Option.bind_some]
  have h3 := rdN_ok.le r2.2.1 r2.2.2
  generalize hr3 : rdN r2.2.1 r2.2.2 = r3 at *
  rw [g_text (by unfold L6; omega)]
  subst hr; subst hr2; subst hr3
  rfl
theorem g_map : file_reader_place P b bad = some (rdMap P b bad) := by
  unfold file_reader_place
  unfold L6 at h
  rw [g_num h]
  simp only [Option.bind_some]
  have h1 := rdN_ok.le b bad
  generalize hr : rdN b bad = r at *
  rw [g_strings hP (by unfold L6; omega)]
  simp only [Option.bind_some]
  have h2 := (reL_n (rdT_n P) r.2.1 r.2.2).1
  generalize hr2 : reL (rdT P) r.2.1 r.2.2 = r2 at *
  rw [g_strings hP (by unfold L6; omega)]
  subst hr; subst hr2
  rfl
theorem g_fields : file_read_api_Field P b bad = some (reL (rdField P) b bad) :=
  g_list (rdField_ok hP) (by decide) (l := file_read_api_Field_l1) (k := file_read_api_Field_k2) (fun b bad hb => g_field hP hb) (fun _ _ _ _ => rfl) (fun _ _ _ => rfl) h
theorem g_code : file_read_api_Ins P b bad = some (reL (rdIns P) b bad) :=
  g_list (rdIns_ok hP) (by decide) (l := file_read_api_Ins_l1) (k := file_read_api_Ins_k2) (fun b bad hb => g_ins hP hb) (fun _ _ _ _ => rfl) (fun _ _ _ => rfl) h
theorem g_maps : file_read_api_Map P b bad = some (reL (rdMap P) b bad) :=
  g_list (rdMap_ok hP) (by decide) (l := file_read_api_Map_l1) (k := file_read_api_Map_k2) (fun b bad hb => g_map hP hb) (fun _ _ _ _ => rfl) (fun _ _ _ => rfl) h
theorem g_traps : file_read_api_Trap P b bad = some (reL (rdTrap P) b bad) :=
  g_list (rdTrap_ok hP) (by decide) (l := file_read_api_Trap_l1) (k := file_read_api_Trap_k2) (fun b bad hb => g_trap hP hb) (fun _ _ _ _ => rfl) (fun _ _ _ => rfl) h
theorem g_meth : file_reader_method P b bad = some (rdMeth P b bad) := by
  unfold file_reader_method
  unfold L6 at h
  rw [g_text h]
  simp only [Option.bind_some]
  have l1 := (rdT_n P b bad).1
  generalize hr1 : rdT P b bad = r1 at *
  rw [g_strings hP (by unfold L6; omega)]
  simp only [Option.bind_some]
  have l2 := (reL_n (rdT_n P) r1.2.1 r1.2.2).1
  generalize hr2 : reL (rdT P) r1.2.1 r1.2.2 = r2 at *
  rw [g_text (by unfold L6; omega)]
  simp only [Option.bind_some]
  have l3 := (rdT_n P r2.2.1 r2.2.2).1
  generalize hr3 : rdT P r2.2.1 r2.2.2 = r3 at *
  rw [g_truth (by unfold L6; omega)]
  simp only [Option.bind_some]
  have l4 := rdB_ok.le r3.2.1 r3.2.2
  generalize hr4 : rdB r3.2.1 r3.2.2 = r4 at *
  rw [g_truth (by unfold L6; omega)]
  simp only [Option.bind_some]
  have l5 := rdB_ok.le r4.2.1 r4.2.2
  generalize hr5 : rdB r4.2.1 r4.2.2 = r5 at *
  rw [g_num (by unfold L6; omega)]
  simp only [Option.bind_some]
  have l6 := rdN_ok.le r5.2.1 r5.2.2
  generalize hr6 : rdN r5.2.1 r5.2.2 = r6 at *
  rw [g_num (by unfold L6; omega)]
  simp only [Option.bind_some]
  have l7 := rdN_ok.le r6.2.1 r6.2.2
  generalize hr7 : rdN r6.2.1 r6.2.2 = r7 at *
  rw [g_code hP (by unfold L6; omega)]
  simp only [Option.bind_some]
  have l8 := (reL_n (rdIns_ok hP).toReaW.n r7.2.1 r7.2.2).1
  generalize hr8 : reL (rdIns P) r7.2.1 r7.2.2 = r8 at *
  rw [g_maps hP (by unfold L6; omega)]
  simp only [Option.bind_some]
  have l9 := (reL_n (rdMap_ok hP).toReaW.n r8.2.1 r8.2.2).1
  generalize hr9 : reL (rdMap P) r8.2.1 r8.2.2 = r9 at *
  rw [g_traps hP (by unfold L6; omega)]
  subst hr1; subst hr2; subst hr3; subst hr4; subst hr5; subst hr6; subst hr7; subst hr8; subst hr9
  rfl
theorem g_methods : file_read_api_Method P b bad = some (reL (rdMeth P) b bad) :=
  g_list (rdMeth_ok hP) (by decide) (l := file_read_api_Method_l1) (k := file_read_api_Method_k2) (fun b bad hb => g_meth hP hb) (fun _ _ _ _ => rfl) (fun _ _ _ => rfl) h
theorem g_class {R : Type} (k : ApiClass → List UInt8 → Bool → Option R) :
    ((file_reader_text P b bad).bind fun v5 => (file_reader_text P v5.2.1 v5.2.2).bind fun v6 => (file_reader_truth P v6.2.1 v6.2.2).bind fun v7 => (file_read_string_s2 P v7.2.1 v7.2.2).bind fun v8 => (file_read_api_Field P v8.2.1 v8.2.2).bind fun v9 => (file_read_api_Method P v9.2.1 v9.2.2).bind fun v10 =>
      k (ApiClass.mk v5.1 v6.1 v7.1 v8.1 v9.1 v10.1) v10.2.1 v10.2.2) = k (rdClass P b bad).1 (rdClass P b bad).2.1 (rdClass P b bad).2.2 := by
  unfold L6 at h
  rw [g_text h]
  simp only [Option.bind_some]
  have l1 := (rdT_n P b bad).1
  generalize hr1 : rdT P b bad = r1 at *
  rw [g_text (by unfold L6; omega)]
  simp only [Option.bind_some]
  have l3 := (rdT_n P r1.2.1 r1.2.2).1
  generalize hr3 : rdT P r1.2.1 r1.2.2 = r3 at *
  rw [g_truth (by unfold L6; omega)]
  simp only [Option.bind_some]
  have l4 := rdB_ok.le r3.2.1 r3.2.2
  generalize hr4 : rdB r3.2.1 r3.2.2 = r4 at *
  rw [g_strings hP (by unfold L6; omega)]
  simp only [Option.bind_some]
  have l2 := (reL_n (rdT_n P) r4.2.1 r4.2.2).1
  generalize hr2 : reL (rdT P) r4.2.1 r4.2.2 = r2 at *
  rw [g_fields hP (by unfold L6; omega)]
  simp only [Option.bind_some]
  have l8 := (reL_n (rdField_ok hP).toReaW.n r2.2.1 r2.2.2).1
  generalize hr8 : reL (rdField P) r2.2.1 r2.2.2 = r8 at *
  rw [g_methods hP (by unfold L6; omega)]
  subst hr1; subst hr3; subst hr4; subst hr2; subst hr8
  rfl
end
end Go.Proofs.YtdhpdpkcfffpiaaGreat
