/- FileSame: for every input the law returns true, and each argument reads as it read before. No further condition. Part 5 of 7. -/
import Derived.Test.YthmnlfenkhmmhaaGreatTg4
namespace Go.Proofs.YthmnlfenkhmmhaaGreat
noncomputable section
set_option linter.unusedSimpArgs false
set_option linter.unusedVariables false
set_option maxRecDepth 100000
set_option maxHeartbeats 4000000
def law5_texts_k2 (v13 : List (List UInt8)) : Option ((List (List UInt8))) :=
  some v13
def law5_texts_l1 (v1 : List (List UInt8)) (v2 : Int) (v8 : List (List UInt8)) (v9 : Int) : Option (Sum ((List (List UInt8)) × Int) (Sum ((List (List UInt8))) ((List (List UInt8))))) :=
  cond ((decide (v9 < (List.length v1 : Int))) && (decide (v9 < v2))) ((idx v1 v9).bind fun v10=>(law1_Cut v10 12).bind fun v11=>(appP 16 v8 [v11]).bind fun v12=>some (.inl (v12,(IntKind.i64.wrap (v9 + 1))))) (some (.inr (.inl v8)))
def law5_texts (v1 : List (List UInt8)) (v2 : Int) : Option ((List (List UInt8))) :=
  (loopP (fun z=>law5_texts_l1 v1 v2 z.1 z.2) ([],0)).bind fun o=>leave o (fun b=>law5_texts_k2 b) some
theorem law5_texts_ok (v1 : List (List UInt8)) (v2 : Int) {r : (List (List UInt8))} (h : law5_texts v1 v2 = some r) : PureC Tryz.prog 70 [.isl 1 (List.map rStr v1),iA v2] (.isl 1 (List.map rStr r)):=by
 refine pure_fn Tryz.func70 j0 (by kernel_rfl) j0 j0 ?_
 unfold law5_texts at h
 refine rg j0<|u<|asg j0<|r_nil ?_
 refine rg j0<|u<|asg j0<|r_nil ?_
 refine sw_seq ?_
 refine rg j0<|u<|asg j0<|r_nil ?_
 obtain ⟨o,ho,h⟩:=bs h
 refine sw_lpl (X:=(List (List UInt8)) × Int) (B:=(List (List UInt8))) (R:=(List (List UInt8))) (fun z=>[(0,.isl 1 (List.map rStr v1)),(1,iA v2),(5,.msl 0 0 (List.length z.1)),(6,iA z.2)]) (fun z=>[some (1,List.map rStr z.1)]) (fun b=>[(5,.msl 0 0 (List.length b))]) (fun b=>[some (1,List.map rStr b)]) (fun r env st=>PostF Tryz.prog Tryz.f70 0 (.isl 1 (List.map rStr r)) [] env st) ho ⟨[.fresh 1],ce j0 j0<|ce j0 j0<|cv j0 (.nilown j0)<|ce j0 j0<|cn,j0,⟨j4,j5⟩,j0,j1⟩ ?_ ?_ ?_
 ·
  rintro ⟨v8,v9⟩ r h
  replace h : law5_texts_l1 v1 v2 v8 v9 = some r:=h
  unfold law5_texts_l1 at h
  refine sw_seq ?_
  refine rg j0<|u<|mv j0<|u<|mv j0<|u<|lnI ti22 j0 j0<|u<|lss ti3 j0 j0<|u<|mv j0<|r_and (j:=4) 3 j0 j0 j0 j0 j0 gpn (fun hb6=>g j0 hb6<|mv j0<|g j0 hb6<|mv j0<|g j0 hb6<|lss ti3 j0 j0<|r_nil (egA [12,13,14] 3 hb6 j0 j0 j0 j0)) andF<|r_nil ?_
  refine sw_cond j0 (fun hc7=>?_) (fun hc7=>?_)
  ·
   replace h:=bT hc7 h
   refine sw_skip ?_
   refine sw_seq ?_
   refine sw_block ?_
   obtain ⟨v10,q8,h⟩:=bs h
   obtain ⟨v11,q9,h⟩:=bs h
   obtain ⟨v12,q10,h⟩:=bs h
   refine rl j0<|u<|mv j0<|u<|mv j0<|u<|mv j0<|u<|ixI ti22 j0 ti9 j0 j0 j0 q8<|u<|ldI ti9 j0 (idx_some q8).2.2 j0<|u<|pc (law1_Cut_ok v10 12 q9) j0 j0 j0<|u<|bl 1 ti22 j0 ti9 j0 (by decide) (by decide) j0 j0 j0<|u<|apM 2 ti22 j0 ti9 j0 j0 (by decide) ti22 j0 j0 j0 j0 (roX (f:=rStr) (z:=[v11]) j0 j0) (fun _=>j0) j0 q10<|u<|asg j0<|r_nil ?_
   refine rl j0<|u<|mv j0<|u<|add ti3 j0 j0<|u<|asg j0<|r_nil ?_
   obtain rfl:=sm h
   exact ⟨_,j0,[.old 2],ce j0 j0<|ce j0 j0<|cv j0 (.msl j0)<|ce j0 j0<|cn,j0,⟨⟨_,j0,rsMap (fun _=>j0)⟩,j5⟩,j0,j1⟩
  ·
   replace h:=bF hc7 h
   refine sw_exit ?_
   obtain rfl:=sm h
   exact ⟨j0,_,j0,[.old 0],cv j0 (.msl j0)<|cn,j0,⟨⟨_,j0,rsMap (fun _=>j0)⟩,j5⟩,j0,j1⟩
 ·
  rintro v13 rfl
  replace h : law5_texts_k2 v13 = some r:=h
  unfold law5_texts_k2 at h
  refine ow_intro ?_
  refine rg j0<|u<|mv j0<|u<|asg j0<|r_nil ?_
  refine sw_ret ?_
  obtain rfl:=sm h
  exact ⟨_,j0,[],rsSeal j0 j0 (fun _=>j0),j0,j5,j0,j1⟩
 ·
  rintro r' rfl env st hp
  obtain rfl:=sm h
  exact hp
def law5_method_k6 (v1 : ApiMethod) (v2 : (List UInt8)) (v3 : (List (List UInt8))) (v4 : (List UInt8)) (v15 : List ApiIns) (v32 : List ApiMap) (v43 : List ApiTrap) : Option (ApiMethod) :=
  some (ApiMethod.mk v2 v3 v4 v1.Static v1.Abstract v1.Locals v1.Stack v15 v32 v43)
def law5_method_l5 (v1 : ApiMethod) (v38 : List ApiTrap) (v39 : Int) : Option (Sum ((List ApiTrap) × Int) (Sum ((List ApiTrap)) (ApiMethod))) :=
  cond ((decide (v39 < (List.length v1.Traps : Int))) && (decide (v39 < 8))) ((idx v1.Traps v39).bind fun v40=>(law1_Cut v40.C 10).bind fun v41=>(appP 40 v38 [(ApiTrap.mk v40.From v40.To v40.At v41)]).bind fun v42=>some (.inl (v42,(IntKind.i64.wrap (v39 + 1))))) (some (.inr (.inl v38)))
def law5_method_k4 (v1 : ApiMethod) (v2 : (List UInt8)) (v3 : (List (List UInt8))) (v4 : (List UInt8)) (v15 : List ApiIns) (v32 : List ApiMap) : Option (ApiMethod) :=
  (loopP (fun z=>law5_method_l5 v1 z.1 z.2) ([],0)).bind fun o=>leave o (fun b=>law5_method_k6 v1 v2 v3 v4 v15 v32 b) some
def law5_method_l3 (v1 : ApiMethod) (v24 : List ApiMap) (v25 : Int) : Option (Sum ((List ApiMap) × Int) (Sum ((List ApiMap)) (ApiMethod))) :=
  cond ((decide (v25 < (List.length v1.Maps : Int))) && (decide (v25 < 104))) ((idx v1.Maps v25).bind fun v26=>(idx v1.Maps v25).bind fun v27=>(law5_texts v27.Locals 20).bind fun v28=>(idx v1.Maps v25).bind fun v29=>(law5_texts v29.Stack 20).bind fun v30=>(appP 56 v24 [(ApiMap.mk v26.At v28 v30)]).bind fun v31=>some (.inl (v31,(IntKind.i64.wrap (v25 + 1))))) (some (.inr (.inl v24)))
def law5_method_k2 (v1 : ApiMethod) (v2 : (List UInt8)) (v3 : (List (List UInt8))) (v4 : (List UInt8)) (v15 : List ApiIns) : Option (ApiMethod) :=
  (loopP (fun z=>law5_method_l3 v1 z.1 z.2) ([],0)).bind fun o=>leave o (fun b=>law5_method_k4 v1 v2 v3 v4 v15 b) some
def law5_method_l1 (v1 : ApiMethod) (v10 : List ApiIns) (v11 : Int) : Option (Sum ((List ApiIns) × Int) (Sum ((List ApiIns)) (ApiMethod))) :=
  cond ((decide (v11 < (List.length v1.Code : Int))) && (decide (v11 < 104))) ((idx v1.Code v11).bind fun v12=>(law4_Cut v12).bind fun v13=>(appP 48 v10 [v13]).bind fun v14=>some (.inl (v14,(IntKind.i64.wrap (v11 + 1))))) (some (.inr (.inl v10)))
def law5_method (v1 : ApiMethod) : Option (ApiMethod) :=
  (law1_Cut v1.Name 10).bind fun v2=>(law5_texts v1.Params 8).bind fun v3=>(law1_Cut v1.Ret 12).bind fun v4=>(loopP (fun z=>law5_method_l1 v1 z.1 z.2) ([],0)).bind fun o=>leave o (fun b=>law5_method_k2 v1 v2 v3 v4 b) some
theorem law5_method_ok (v1 : ApiMethod) {r : ApiMethod} (h : law5_method v1 = some r) : PureC Tryz.prog 71 [.agg [sA v1.Name,.isl 1 (List.map rStr v1.Params),sA v1.Ret,bA v1.Static,bA v1.Abstract,iA v1.Locals,iA v1.Stack,.isl 4 (List.map rApiIns v1.Code),.isl 3 (List.map rApiMap v1.Maps),.isl 4 (List.map rApiTrap v1.Traps)]] (.agg [sA r.Name,.isl 1 (List.map rStr r.Params),sA r.Ret,bA r.Static,bA r.Abstract,iA r.Locals,iA r.Stack,.isl 4 (List.map rApiIns r.Code),.isl 3 (List.map rApiMap r.Maps),.isl 4 (List.map rApiTrap r.Traps)]):=by
 refine pure_fn Tryz.func71 j0 (by kernel_rfl) j0 j0 ?_
 unfold law5_method at h
 refine rg j0<|u<|bx 0 10 j0 j0 j0 j0<|u<|al 1 ti38 j0<|r_nil ?_
 obtain ⟨v2,q1,h⟩:=bs h
 obtain ⟨v3,q2,h⟩:=bs h
 obtain ⟨v4,q3,h⟩:=bs h
 refine rd [(1,.mpt 0 0 0),(2,.mpt 1 0 0),(3,.mpt 2 0 0)] [some (10,[[sA v1.Name,.isl 1 (List.map rStr v1.Params),sA v1.Ret,bA v1.Static,bA v1.Abstract,iA v1.Locals,iA v1.Stack,.isl 4 (List.map rApiIns v1.Code),.isl 3 (List.map rApiMap v1.Maps),.isl 4 (List.map rApiTrap v1.Traps)]]),some (10,[[sA [],.lit (.slice none 0 0),sA [],bA false,bA false,iA 0,iA 0,.lit (.slice none 0 0),.lit (.slice none 0 0),.lit (.slice none 0 0)]]),some (10,[[sA v2,.isl 1 (List.map rStr v3),sA v4,bA v1.Static,bA v1.Abstract,iA v1.Locals,iA v1.Stack,.lit (.slice none 0 0),.lit (.slice none 0 0),.lit (.slice none 0 0)]])] [18,19] [17,16,15,14,13,12,11,10,9,8,7,6,5,4,3,2,1,0] [(25,.agg [sA v2,.isl 1 (List.map rStr v3),sA v4,bA v1.Static,bA v1.Abstract,iA v1.Locals,iA v1.Stack,.lit (.slice none 0 0),.lit (.slice none 0 0),.lit (.slice none 0 0)]),(24,iA v1.Stack),(23,.mpt 0 0 6),(22,iA v1.Locals),(21,.mpt 0 0 5),(20,bA v1.Abstract),(19,.mpt 0 0 4),(18,bA v1.Static),(17,.mpt 0 0 3),(16,sA v4),(15,sA v1.Ret),(14,.mpt 0 0 2),(13,.isl 1 (List.map rStr v3)),(12,.isl 1 (List.map rStr v1.Params)),(11,.mpt 0 0 1),(10,sA v2),(9,sA v1.Name),(8,.mpt 0 0 0)] 2 (by kernel_rfl) (by kernel_rfl) j0 (by kernel_rfl) (dtS ⟨(fun _=>pa j0 j0 j0 j0 (bd (parts:=[(0,sA v2),(1,.isl 1 (List.map rStr v3)),(2,sA v4),(3,bA v1.Static),(4,bA v1.Abstract),(5,iA v1.Locals),(6,iA v1.Stack)]) (cs:=[sA v2,.isl 1 (List.map rStr v3),sA v4,bA v1.Static,bA v1.Abstract,iA v1.Locals,iA v1.Stack,.lit (.slice none 0 0),.lit (.slice none 0 0),.lit (.slice none 0 0)]) ti38 j0 j0 (by kernel_rfl)<|j4)),(fun _=>pa j0 j0 j0 j0 (ld ti3 j0 j0<|j4)),(fun _=>pa j0 j0 j0 j0 (fa ti38 j0 j0 j0<|j4)),(fun _=>pa j0 j0 j0 j0 (ld ti3 j0 j0<|j4)),(fun _=>pa j0 j0 j0 j0 (fa ti38 j0 j0 j0<|j4)),(fun _=>pa j0 j0 j0 j0 (ld ti4 j0 j0<|j4)),(fun _=>pa j0 j0 j0 j0 (fa ti38 j0 j0 j0<|j4)),(fun _=>pa j0 j0 j0 j0 (ld ti4 j0 j0<|j4)),(fun _=>pa j0 j0 j0 j0 (fa ti38 j0 j0 j0<|j4)),(fun _=>pa j0 j0 j0 j0 (pc (law1_Cut_ok v1.Ret 12 q3) j0 j0 j0<|j4)),(fun _=>pa j0 j0 j0 j0 (ld ti9 j0 j0<|j4)),(fun _=>pa j0 j0 j0 j0 (fa ti38 j0 j0 j0<|j4)),(fun _=>pa j0 j0 j0 j0 (pc (law5_texts_ok v1.Params 8 q2) j0 j0 j0<|j4)),(fun _=>pa j0 j0 j0 j0 (ld ti22 j0 j0<|j4)),(fun _=>pa j0 j0 j0 j0 (fa ti38 j0 j0 j0<|j4)),(fun _=>pa j0 j0 j0 j0 (pc (law1_Cut_ok v1.Name 10 q1) j0 j0 j0<|j4)),(fun _=>pa j0 j0 j0 j0 (ld ti9 j0 j0<|j4)),(fun _=>pa j0 j0 j0 j0 (fa ti38 j0 j0 j0<|j4)),j5⟩ (by kernel_rfl) j0 ⟨(fun _ _=>⟨_,j0,j0,al 2 ti38 j0<|⟨(.mpt 2 0 0),[],[(3,.mpt 2 0 0)],j0,j0,by kernel_rfl,j0,dtS ⟨(fun _=>pa j0 j0 j0 j0 (bd (parts:=[(0,sA v2),(1,.isl 1 (List.map rStr v3)),(2,sA v4),(3,bA v1.Static),(4,bA v1.Abstract),(5,iA v1.Locals),(6,iA v1.Stack)]) (cs:=[sA v2,.isl 1 (List.map rStr v3),sA v4,bA v1.Static,bA v1.Abstract,iA v1.Locals,iA v1.Stack,.lit (.slice none 0 0),.lit (.slice none 0 0),.lit (.slice none 0 0)]) ti38 j0 j0 (by kernel_rfl)<|j4)),(fun _=>pa j0 j0 j0 j0 (ld ti3 j0 j0<|j4)),(fun _=>pa j0 j0 j0 j0 (fa ti38 j0 j0 j0<|j4)),(fun _=>pa j0 j0 j0 j0 (ld ti3 j0 j0<|j4)),(fun _=>pa j0 j0 j0 j0 (fa ti38 j0 j0 j0<|j4)),(fun _=>pa j0 j0 j0 j0 (ld ti4 j0 j0<|j4)),(fun _=>pa j0 j0 j0 j0 (fa ti38 j0 j0 j0<|j4)),(fun _=>pa j0 j0 j0 j0 (ld ti4 j0 j0<|j4)),(fun _=>pa j0 j0 j0 j0 (fa ti38 j0 j0 j0<|j4)),(fun _=>pa j0 j0 j0 j0 (pc (law1_Cut_ok v1.Ret 12 q3) j0 j0 j0<|j4)),(fun _=>pa j0 j0 j0 j0 (ld ti9 j0 j0<|j4)),(fun _=>pa j0 j0 j0 j0 (fa ti38 j0 j0 j0<|j4)),(fun _=>pa j0 j0 j0 j0 (pc (law5_texts_ok v1.Params 8 q2) j0 j0 j0<|j4)),(fun _=>pa j0 j0 j0 j0 (ld ti22 j0 j0<|j4)),(fun _=>pa j0 j0 j0 j0 (fa ti38 j0 j0 j0<|j4)),(fun _=>pa j0 j0 j0 j0 (pc (law1_Cut_ok v1.Name 10 q1) j0 j0 j0<|j4)),(fun _=>pa j0 j0 j0 j0 (ld ti9 j0 j0<|j4)),(fun _=>pa j0 j0 j0 j0 (fa ti38 j0 j0 j0<|j4)),j5⟩ (by kernel_rfl) j0 ⟨(fun h=>by cases h),(fun _ _=>⟨_,j0,j0,sto ti38 j0 j0 j0<|⟨.any,[],[],j0,j0,by kernel_rfl,j5,dt0 ⟨(fun h=>by cases h),(fun h=>by cases h),(fun h=>by cases h),(fun h=>by cases h),(fun h=>by cases h),(fun h=>by cases h),(fun h=>by cases h),(fun h=>by cases h),(fun h=>by cases h),(fun h=>by cases h),(fun h=>by cases h),(fun h=>by cases h),(fun h=>by cases h),(fun h=>by cases h),(fun h=>by cases h),(fun h=>by cases h),(fun h=>by cases h),(fun h=>by cases h),j5⟩ (by kernel_rfl) j0 ⟨[.old 0,.old 1,.old 2],cv j0 (.mpt j0)<|cv j0 (.mpt j0)<|cv j0 (.mpt j0)<|cn,j0,⟨⟨_,j0,rsOne ⟨ci j0,ci j0,ci j0,ci j0,ci j0,ci j0,ci j0,ci j0,ci j0,ci j0,j5⟩⟩,⟨_,j0,rsOne ⟨ci j0,ci j0,ci j0,ci j0,ci j0,ci j0,ci j0,ci j0,ci j0,ci j0,j5⟩⟩,⟨_,j0,rsOne ⟨ci j0,ci j0,ci j0,ci j0,ci j0,ci j0,ci j0,ci j0,ci j0,ci j0,j5⟩⟩,j5⟩,j0,j1⟩⟩⟩),j5⟩⟩⟩),(fun _ h=>by cases h),j5⟩) ?_
 refine sw_seq ?_
 refine rg j0<|u<|asg j0<|r_nil ?_
 obtain ⟨o,ho,h⟩:=bs h
 refine sw_lpl (X:=(List ApiIns) × Int) (B:=(List ApiIns)) (R:=ApiMethod) (fun z=>[(1,.mpt 0 0 0),(2,.mpt 1 0 0),(3,.mpt 2 0 0),(4,iA z.2)]) (fun z=>[some (10,[[sA v1.Name,.isl 1 (List.map rStr v1.Params),sA v1.Ret,bA v1.Static,bA v1.Abstract,iA v1.Locals,iA v1.Stack,.isl 4 (List.map rApiIns v1.Code),.isl 3 (List.map rApiMap v1.Maps),.isl 4 (List.map rApiTrap v1.Traps)]]),some (10,[[sA [],.lit (.slice none 0 0),sA [],bA false,bA false,iA 0,iA 0,.lit (.slice none 0 0),.lit (.slice none 0 0),.lit (.slice none 0 0)]]),some (10,[[sA v2,.isl 1 (List.map rStr v3),sA v4,bA v1.Static,bA v1.Abstract,iA v1.Locals,iA v1.Stack,.msl 3 0 (List.length z.1),.lit (.slice none 0 0),.lit (.slice none 0 0)]]),some (4,List.map rApiIns z.1)]) (fun b=>[(1,.mpt 0 0 0),(2,.mpt 1 0 0),(3,.mpt 2 0 0)]) (fun b=>[some (10,[[sA v1.Name,.isl 1 (List.map rStr v1.Params),sA v1.Ret,bA v1.Static,bA v1.Abstract,iA v1.Locals,iA v1.Stack,.isl 4 (List.map rApiIns v1.Code),.isl 3 (List.map rApiMap v1.Maps),.isl 4 (List.map rApiTrap v1.Traps)]]),some (10,[[sA [],.lit (.slice none 0 0),sA [],bA false,bA false,iA 0,iA 0,.lit (.slice none 0 0),.lit (.slice none 0 0),.lit (.slice none 0 0)]]),some (10,[[sA v2,.isl 1 (List.map rStr v3),sA v4,bA v1.Static,bA v1.Abstract,iA v1.Locals,iA v1.Stack,.msl 3 0 (List.length b),.lit (.slice none 0 0),.lit (.slice none 0 0)]]),some (4,List.map rApiIns b)]) (fun r env st=>PostF Tryz.prog Tryz.f71 0 (.agg [sA r.Name,.isl 1 (List.map rStr r.Params),sA r.Ret,bA r.Static,bA r.Abstract,iA r.Locals,iA r.Stack,.isl 4 (List.map rApiIns r.Code),.isl 3 (List.map rApiMap r.Maps),.isl 4 (List.map rApiTrap r.Traps)]) [] env st) ho ⟨[.old 0,.old 1,.old 2,.fresh 4],cv j0 (.mpt j0)<|cv j0 (.mpt j0)<|cv j0 (.mpt j0)<|ce j0 j0<|cn,j0,⟨⟨_,j0,rsOne ⟨ci j0,ci j0,ci j0,ci j0,ci j0,ci j0,ci j0,ci j0,ci j0,ci j0,j5⟩⟩,⟨_,j0,rsOne ⟨ci j0,ci j0,ci j0,ci j0,ci j0,ci j0,ci j0,ci j0,ci j0,ci j0,j5⟩⟩,⟨_,j0,rsOne ⟨ci j0,ci j0,ci j0,ci j0,ci j0,ci j0,ci j0,.nilown j0,ci j0,ci j0,j5⟩⟩,j4,j5⟩,j0,j1⟩ ?_ ?_ ?_
 ·
  rintro ⟨v10,v11⟩ r h
  replace h : law5_method_l1 v1 v10 v11 = some r:=h
  unfold law5_method_l1 at h
  refine sw_seq ?_
  refine rg j0<|u<|mv j0<|u<|fa ti38 j0 j0 j0<|u<|ld ti34 j0 j0<|u<|lnI ti34 j0 j0<|u<|lss ti3 j0 j0<|u<|mv j0<|r_and (j:=5) 2 j0 j0 j0 j0 j0 gpn (fun hb9=>g j0 hb9<|mv j0<|g j0 hb9<|lss ti3 j0 j0<|r_nil (egA [32,33] 2 hb9 j0 j0 j0 j0)) andF<|r_nil ?_
  refine sw_cond j0 (fun hc10=>?_) (fun hc10=>?_)
  ·
   replace h:=bT hc10 h
   refine sw_skip ?_
   refine sw_seq ?_
   refine sw_block ?_
   obtain ⟨v12,q11,h⟩:=bs h
   obtain ⟨v13,q12,h⟩:=bs h
   obtain ⟨v14,q13,h⟩:=bs h
   refine rdL [(1,.mpt 0 0 0),(2,.mpt 1 0 0),(3,.mpt 2 0 0),(4,iA v11)] [some (10,[[sA v1.Name,.isl 1 (List.map rStr v1.Params),sA v1.Ret,bA v1.Static,bA v1.Abstract,iA v1.Locals,iA v1.Stack,.isl 4 (List.map rApiIns v1.Code),.isl 3 (List.map rApiMap v1.Maps),.isl 4 (List.map rApiTrap v1.Traps)]]),some (10,[[sA [],.lit (.slice none 0 0),sA [],bA false,bA false,iA 0,iA 0,.lit (.slice none 0 0),.lit (.slice none 0 0),.lit (.slice none 0 0)]]),some (10,[[sA v2,.isl 1 (List.map rStr v3),sA v4,bA v1.Static,bA v1.Abstract,iA v1.Locals,iA v1.Stack,.msl 3 0 (List.length v14),.lit (.slice none 0 0),.lit (.slice none 0 0)]]),some (4,List.map rApiIns v14)] [8,9,11] [7,6,5,4,3,2,1,0] [(44,.agg [iA v13.Op,iA v13.A,sA v13.C,sA v13.M]),(43,.agg [iA v12.Op,iA v12.A,sA v12.C,sA v12.M]),(42,.ipt 4 (List.map rApiIns v1.Code) (Int.toNat v11) 0),(41,iA v11),(40,.isl 4 (List.map rApiIns v1.Code)),(39,.mpt 0 0 7),(38,.msl 3 0 (List.length v10)),(37,.mpt 2 0 7)] 3 (by kernel_rfl) (by kernel_rfl) j0 (by kernel_rfl) (dtS ⟨(fun _=>pa j0 j0 j0 j0 (pc (law4_Cut_ok v12 q12) j0 j0 j0<|j4)),(fun _=>pa j0 j0 j0 j0 (ldI ti40 j0 (idx_some q11).2.2 j0<|j4)),(fun _=>pa j0 j0 j0 j0 (ixI ti34 j0 ti40 j0 j0 j0 q11<|j4)),(fun _=>pa j0 j0 j0 j0 (mv j0<|j4)),(fun _=>pa j0 j0 j0 j0 (ld ti34 j0 j0<|j4)),(fun _=>pa j0 j0 j0 j0 (fa ti38 j0 j0 j0<|j4)),(fun _=>pa j0 j0 j0 j0 (ld ti34 j0 j0<|j4)),(fun _=>pa j0 j0 j0 j0 (fa ti38 j0 j0 j0<|j4)),j5⟩ (by kernel_rfl) j0 ⟨(fun _ _=>⟨_,j0,j0,bl 4 ti34 j0 ti40 j0 (by decide) (by decide) j0 j0 j0<|⟨(.msl 4 0 1),[],[(45,.msl 4 0 1)],j0,j0,by kernel_rfl,j0,dtS ⟨(fun h=>by cases h),(fun _=>pa j0 j0 j0 j0 (ldI ti40 j0 (idx_some q11).2.2 j0<|j4)),(fun _=>pa j0 j0 j0 j0 (ixI ti34 j0 ti40 j0 j0 j0 q11<|j4)),(fun _=>pa j0 j0 j0 j0 (mv j0<|j4)),(fun _=>pa j0 j0 j0 j0 (ld ti34 j0 j0<|j4)),(fun _=>pa j0 j0 j0 j0 (fa ti38 j0 j0 j0<|j4)),(fun _=>pa j0 j0 j0 j0 (ld ti34 j0 j0<|j4)),(fun _=>pa j0 j0 j0 j0 (fa ti38 j0 j0 j0<|j4)),j5⟩ (by kernel_rfl) j0 ⟨(fun h=>by cases h),(fun _ _=>⟨_,j0,j0,apM 5 ti34 j0 ti40 j0 j0 (by decide) ti34 j0 j0 j0 j0 (roX (f:=rApiIns) (z:=[v13]) j0 j0) (fun _=>j0) j0 q13<|⟨(.msl 5 0 (List.length v14)),[10],[(47,.mpt 2 0 7),(46,.msl 5 0 (List.length v14))],j0,j0,by kernel_rfl,j0,dtS ⟨(fun _=>pa j0 j0 j0 j0 (fa ti38 j0 j0 j0<|j4)),(fun h=>by cases h),(fun _=>pa j0 j0 j0 j0 (ldI ti40 j0 (idx_some q11).2.2 j0<|j4)),(fun _=>pa j0 j0 j0 j0 (ixI ti34 j0 ti40 j0 j0 j0 q11<|j4)),(fun _=>pa j0 j0 j0 j0 (mv j0<|j4)),(fun _=>pa j0 j0 j0 j0 (ld ti34 j0 j0<|j4)),(fun _=>pa j0 j0 j0 j0 (fa ti38 j0 j0 j0<|j4)),(fun h=>by cases h),(fun _=>pa j0 j0 j0 j0 (fa ti38 j0 j0 j0<|j4)),j5⟩ (by kernel_rfl) j0 ⟨(fun h=>by cases h),(fun h=>by cases h),(fun _ _=>⟨_,j0,j0,sto ti34 j0 j0 j0<|⟨.any,[],[],j0,j0,by kernel_rfl,j5,dt0 ⟨(fun h=>by cases h),(fun h=>by cases h),(fun h=>by cases h),(fun h=>by cases h),(fun h=>by cases h),(fun h=>by cases h),(fun h=>by cases h),(fun h=>by cases h),(fun h=>by cases h),j5⟩ (by kernel_rfl) j0 ⟨[.old 0,.old 1,.old 2,.old 5],cv j0 (.mpt j0)<|cv j0 (.mpt j0)<|cv j0 (.mpt j0)<|ce j0 j0<|cn,j0,⟨⟨_,j0,rsOne ⟨ci j0,ci j0,ci j0,ci j0,ci j0,ci j0,ci j0,ci j0,ci j0,ci j0,j5⟩⟩,⟨_,j0,rsOne ⟨ci j0,ci j0,ci j0,ci j0,ci j0,ci j0,ci j0,ci j0,ci j0,ci j0,j5⟩⟩,⟨_,j0,rsOne ⟨ci j0,ci j0,ci j0,ci j0,ci j0,ci j0,ci j0,.msl j0,ci j0,ci j0,j5⟩⟩,⟨_,j0,rsMap (fun _=>j0)⟩,j5⟩,j0,j1⟩⟩⟩),j5⟩⟩⟩),(fun _ h=>by cases h),j5⟩⟩⟩),(fun _ h=>by cases h),(fun _ h=>by cases h),j5⟩) ?_
   refine rl j0<|u<|mv j0<|u<|add ti3 j0 j0<|u<|asg j0<|r_nil ?_
   obtain rfl:=sm h
   exact ⟨_,j0,[.old 0,.old 1,.old 2,.old 3],cv j0 (.mpt j0)<|cv j0 (.mpt j0)<|cv j0 (.mpt j0)<|ce j0 j0<|cn,j0,⟨⟨_,j0,rsOne ⟨ci j0,ci j0,ci j0,ci j0,ci j0,ci j0,ci j0,ci j0,ci j0,ci j0,j5⟩⟩,⟨_,j0,rsOne ⟨ci j0,ci j0,ci j0,ci j0,ci j0,ci j0,ci j0,ci j0,ci j0,ci j0,j5⟩⟩,⟨_,j0,rsOne ⟨ci j0,ci j0,ci j0,ci j0,ci j0,ci j0,ci j0,.msl j0,ci j0,ci j0,j5⟩⟩,⟨_,j0,rsMap (fun _=>j0)⟩,j5⟩,j0,j1⟩
  ·
   replace h:=bF hc10 h
   refine sw_exit ?_
   obtain rfl:=sm h
   exact ⟨j0,_,j0,[.old 0,.old 1,.old 2,.old 3],cv j0 (.mpt j0)<|cv j0 (.mpt j0)<|cv j0 (.mpt j0)<|cn,j0,⟨⟨_,j0,rsOne ⟨ci j0,ci j0,ci j0,ci j0,ci j0,ci j0,ci j0,ci j0,ci j0,ci j0,j5⟩⟩,⟨_,j0,rsOne ⟨ci j0,ci j0,ci j0,ci j0,ci j0,ci j0,ci j0,ci j0,ci j0,ci j0,j5⟩⟩,⟨_,j0,rsOne ⟨ci j0,ci j0,ci j0,ci j0,ci j0,ci j0,ci j0,.msl j0,ci j0,ci j0,j5⟩⟩,⟨_,j0,rsMap (fun _=>j0)⟩,j5⟩,j0,j1⟩
 ·
  rintro v15 rfl
  replace h : law5_method_k2 v1 v2 v3 v4 v15 = some r:=h
  unfold law5_method_k2 at h
  refine ow_intro ?_
  refine sw_seq ?_
  refine rg j0<|u<|asg j0<|r_nil ?_
  obtain ⟨o,ho,h⟩:=bs h
  refine sw_lpl (X:=(List ApiMap) × Int) (B:=(List ApiMap)) (R:=ApiMethod) (fun z=>[(1,.mpt 0 0 0),(2,.mpt 1 0 0),(3,.mpt 2 0 0),(5,iA z.2)]) (fun z=>[some (10,[[sA v1.Name,.isl 1 (List.map rStr v1.Params),sA v1.Ret,bA v1.Static,bA v1.Abstract,iA v1.Locals,iA v1.Stack,.isl 4 (List.map rApiIns v1.Code),.isl 3 (List.map rApiMap v1.Maps),.isl 4 (List.map rApiTrap v1.Traps)]]),some (10,[[sA [],.lit (.slice none 0 0),sA [],bA false,bA false,iA 0,iA 0,.lit (.slice none 0 0),.lit (.slice none 0 0),.lit (.slice none 0 0)]]),some (10,[[sA v2,.isl 1 (List.map rStr v3),sA v4,bA v1.Static,bA v1.Abstract,iA v1.Locals,iA v1.Stack,.msl 3 0 (List.length v15),.msl 4 0 (List.length z.1),.lit (.slice none 0 0)]]),some (4,List.map rApiIns v15),some (3,List.map rApiMap z.1)]) (fun b=>[(1,.mpt 0 0 0),(2,.mpt 1 0 0),(3,.mpt 2 0 0)]) (fun b=>[some (10,[[sA v1.Name,.isl 1 (List.map rStr v1.Params),sA v1.Ret,bA v1.Static,bA v1.Abstract,iA v1.Locals,iA v1.Stack,.isl 4 (List.map rApiIns v1.Code),.isl 3 (List.map rApiMap v1.Maps),.isl 4 (List.map rApiTrap v1.Traps)]]),some (10,[[sA [],.lit (.slice none 0 0),sA [],bA false,bA false,iA 0,iA 0,.lit (.slice none 0 0),.lit (.slice none 0 0),.lit (.slice none 0 0)]]),some (10,[[sA v2,.isl 1 (List.map rStr v3),sA v4,bA v1.Static,bA v1.Abstract,iA v1.Locals,iA v1.Stack,.msl 3 0 (List.length v15),.msl 4 0 (List.length b),.lit (.slice none 0 0)]]),some (4,List.map rApiIns v15),some (3,List.map rApiMap b)]) (fun r env st=>PostF Tryz.prog Tryz.f71 0 (.agg [sA r.Name,.isl 1 (List.map rStr r.Params),sA r.Ret,bA r.Static,bA r.Abstract,iA r.Locals,iA r.Stack,.isl 4 (List.map rApiIns r.Code),.isl 3 (List.map rApiMap r.Maps),.isl 4 (List.map rApiTrap r.Traps)]) [] env st) ho ⟨[.old 0,.old 1,.old 2,.old 3,.fresh 3],cv j0 (.mpt j0)<|cv j0 (.mpt j0)<|cv j0 (.mpt j0)<|ce j0 j0<|cn,j0,⟨⟨_,j0,rsOne ⟨ci j0,ci j0,ci j0,ci j0,ci j0,ci j0,ci j0,ci j0,ci j0,ci j0,j5⟩⟩,⟨_,j0,rsOne ⟨ci j0,ci j0,ci j0,ci j0,ci j0,ci j0,ci j0,ci j0,ci j0,ci j0,j5⟩⟩,⟨_,j0,rsOne ⟨ci j0,ci j0,ci j0,ci j0,ci j0,ci j0,ci j0,.msl j0,.nilown j0,ci j0,j5⟩⟩,⟨_,j0,rsMap (fun _=>j0)⟩,j4,j5⟩,j0,j1⟩ ?_ ?_ ?_
  ·
   rintro ⟨v24,v25⟩ r h
   replace h : law5_method_l3 v1 v24 v25 = some r:=h
   unfold law5_method_l3 at h
   refine sw_seq ?_
   refine rg j0<|u<|mv j0<|u<|fa ti38 j0 j0 j0<|u<|ld ti35 j0 j0<|u<|lnI ti35 j0 j0<|u<|lss ti3 j0 j0<|u<|mv j0<|r_and (j:=5) 2 j0 j0 j0 j0 j0 gpn (fun hb22=>g j0 hb22<|mv j0<|g j0 hb22<|lss ti3 j0 j0<|r_nil (egA [54,55] 2 hb22 j0 j0 j0 j0)) andF<|r_nil ?_
   refine sw_cond j0 (fun hc23=>?_) (fun hc23=>?_)
   ·
    replace h:=bT hc23 h
    refine sw_skip ?_
    refine sw_seq ?_
    refine sw_block ?_
    obtain ⟨v26,q24,h⟩:=bs h
    obtain ⟨v27,q25,h⟩:=bs h
    obtain ⟨v28,q26,h⟩:=bs h
    obtain ⟨v29,q27,h⟩:=bs h
    obtain ⟨v30,q28,h⟩:=bs h
    obtain ⟨v31,q29,h⟩:=bs h
    refine rdL [(1,.mpt 0 0 0),(2,.mpt 1 0 0),(3,.mpt 2 0 0),(5,iA v25)] [some (10,[[sA v1.Name,.isl 1 (List.map rStr v1.Params),sA v1.Ret,bA v1.Static,bA v1.Abstract,iA v1.Locals,iA v1.Stack,.isl 4 (List.map rApiIns v1.Code),.isl 3 (List.map rApiMap v1.Maps),.isl 4 (List.map rApiTrap v1.Traps)]]),some (10,[[sA [],.lit (.slice none 0 0),sA [],bA false,bA false,iA 0,iA 0,.lit (.slice none 0 0),.lit (.slice none 0 0),.lit (.slice none 0 0)]]),some (10,[[sA v2,.isl 1 (List.map rStr v3),sA v4,bA v1.Static,bA v1.Abstract,iA v1.Locals,iA v1.Stack,.msl 3 0 (List.length v15),.msl 4 0 (List.length v31),.lit (.slice none 0 0)]]),some (4,List.map rApiIns v15),some (3,List.map rApiMap v31)] [23,24,26] [22,21,20,19,18,17,16,15,14,13,12,11,10,9,8,7,6,5,4,3,2,1,0] [(81,.agg [iA v26.At,.isl 1 (List.map rStr v28),.isl 1 (List.map rStr v30)]),(80,.isl 1 (List.map rStr v30)),(79,.isl 1 (List.map rStr v29.Stack)),(78,.ipt 3 (List.map rApiMap v1.Maps) (Int.toNat v25) 2),(77,.ipt 3 (List.map rApiMap v1.Maps) (Int.toNat v25) 0),(76,iA v25),(75,.isl 3 (List.map rApiMap v1.Maps)),(74,.mpt 0 0 8),(73,.isl 1 (List.map rStr v28)),(72,.isl 1 (List.map rStr v27.Locals)),(71,.ipt 3 (List.map rApiMap v1.Maps) (Int.toNat v25) 1),(70,.ipt 3 (List.map rApiMap v1.Maps) (Int.toNat v25) 0),(69,iA v25),(68,.isl 3 (List.map rApiMap v1.Maps)),(67,.mpt 0 0 8),(66,iA v26.At),(65,.ipt 3 (List.map rApiMap v1.Maps) (Int.toNat v25) 0),(64,.ipt 3 (List.map rApiMap v1.Maps) (Int.toNat v25) 0),(63,iA v25),(62,.isl 3 (List.map rApiMap v1.Maps)),(61,.mpt 0 0 8),(60,.msl 4 0 (List.length v24)),(59,.mpt 2 0 8)] 3 (by kernel_rfl) (by kernel_rfl) j0 (by kernel_rfl) (dtS ⟨(fun _=>pa j0 j0 j0 j0 (bd ti80 j0 j0 j0<|j4)),(fun _=>pa j0 j0 j0 j0 (pc (law5_texts_ok v29.Stack 20 q28) j0 j0 j0<|j4)),(fun _=>pa j0 j0 j0 j0 (ldI ti22 j0 (idx_some q27).2.2 j0<|j4)),(fun _=>pa j0 j0 j0 j0 (fa ti80 j0 j0 j0<|j4)),(fun _=>pa j0 j0 j0 j0 (ixI ti35 j0 ti80 j0 j0 j0 q27<|j4)),(fun _=>pa j0 j0 j0 j0 (mv j0<|j4)),(fun _=>pa j0 j0 j0 j0 (ld ti35 j0 j0<|j4)),(fun _=>pa j0 j0 j0 j0 (fa ti38 j0 j0 j0<|j4)),(fun _=>pa j0 j0 j0 j0 (pc (law5_texts_ok v27.Locals 20 q26) j0 j0 j0<|j4)),(fun _=>pa j0 j0 j0 j0 (ldI ti22 j0 (idx_some q25).2.2 j0<|j4)),(fun _=>pa j0 j0 j0 j0 (fa ti80 j0 j0 j0<|j4)),(fun _=>pa j0 j0 j0 j0 (ixI ti35 j0 ti80 j0 j0 j0 q25<|j4)),(fun _=>pa j0 j0 j0 j0 (mv j0<|j4)),(fun _=>pa j0 j0 j0 j0 (ld ti35 j0 j0<|j4)),(fun _=>pa j0 j0 j0 j0 (fa ti38 j0 j0 j0<|j4)),(fun _=>pa j0 j0 j0 j0 (ldI ti3 j0 (idx_some q24).2.2 j0<|j4)),(fun _=>pa j0 j0 j0 j0 (fa ti80 j0 j0 j0<|j4)),(fun _=>pa j0 j0 j0 j0 (ixI ti35 j0 ti80 j0 j0 j0 q24<|j4)),(fun _=>pa j0 j0 j0 j0 (mv j0<|j4)),(fun _=>pa j0 j0 j0 j0 (ld ti35 j0 j0<|j4)),(fun _=>pa j0 j0 j0 j0 (fa ti38 j0 j0 j0<|j4)),(fun _=>pa j0 j0 j0 j0 (ld ti35 j0 j0<|j4)),(fun _=>pa j0 j0 j0 j0 (fa ti38 j0 j0 j0<|j4)),j5⟩ (by kernel_rfl) j0 ⟨(fun _ _=>⟨_,j0,j0,bl 5 ti35 j0 ti80 j0 (by decide) (by decide) j0 j0 j0<|⟨(.msl 5 0 1),[],[(82,.msl 5 0 1)],j0,j0,by kernel_rfl,j0,dtS ⟨(fun h=>by cases h),(fun _=>pa j0 j0 j0 j0 (pc (law5_texts_ok v29.Stack 20 q28) j0 j0 j0<|j4)),(fun _=>pa j0 j0 j0 j0 (ldI ti22 j0 (idx_some q27).2.2 j0<|j4)),(fun _=>pa j0 j0 j0 j0 (fa ti80 j0 j0 j0<|j4)),(fun _=>pa j0 j0 j0 j0 (ixI ti35 j0 ti80 j0 j0 j0 q27<|j4)),(fun _=>pa j0 j0 j0 j0 (mv j0<|j4)),(fun _=>pa j0 j0 j0 j0 (ld ti35 j0 j0<|j4)),(fun _=>pa j0 j0 j0 j0 (fa ti38 j0 j0 j0<|j4)),(fun _=>pa j0 j0 j0 j0 (pc (law5_texts_ok v27.Locals 20 q26) j0 j0 j0<|j4)),(fun _=>pa j0 j0 j0 j0 (ldI ti22 j0 (idx_some q25).2.2 j0<|j4)),(fun _=>pa j0 j0 j0 j0 (fa ti80 j0 j0 j0<|j4)),(fun _=>pa j0 j0 j0 j0 (ixI ti35 j0 ti80 j0 j0 j0 q25<|j4)),(fun _=>pa j0 j0 j0 j0 (mv j0<|j4)),(fun _=>pa j0 j0 j0 j0 (ld ti35 j0 j0<|j4)),(fun _=>pa j0 j0 j0 j0 (fa ti38 j0 j0 j0<|j4)),(fun _=>pa j0 j0 j0 j0 (ldI ti3 j0 (idx_some q24).2.2 j0<|j4)),(fun _=>pa j0 j0 j0 j0 (fa ti80 j0 j0 j0<|j4)),(fun _=>pa j0 j0 j0 j0 (ixI ti35 j0 ti80 j0 j0 j0 q24<|j4)),(fun _=>pa j0 j0 j0 j0 (mv j0<|j4)),(fun _=>pa j0 j0 j0 j0 (ld ti35 j0 j0<|j4)),(fun _=>pa j0 j0 j0 j0 (fa ti38 j0 j0 j0<|j4)),(fun _=>pa j0 j0 j0 j0 (ld ti35 j0 j0<|j4)),(fun _=>pa j0 j0 j0 j0 (fa ti38 j0 j0 j0<|j4)),j5⟩ (by kernel_rfl) j0 ⟨(fun h=>by cases h),(fun _ _=>⟨_,j0,j0,apM 6 ti35 j0 ti80 j0 j0 (by decide) ti35 j0 j0 j0 j0 (roX (f:=rApiMap) (z:=[(ApiMap.mk v26.At v28 v30)]) j0 j0) (fun _=>j0) j0 q29<|⟨(.msl 6 0 (List.length v31)),[25],[(84,.mpt 2 0 8),(83,.msl 6 0 (List.length v31))],j0,j0,by kernel_rfl,j0,dtS ⟨(fun _=>pa j0 j0 j0 j0 (fa ti38 j0 j0 j0<|j4)),(fun h=>by cases h),(fun h=>by cases h),(fun _=>pa j0 j0 j0 j0 (ldI ti22 j0 (idx_some q27).2.2 j0<|j4)),(fun _=>pa j0 j0 j0 j0 (fa ti80 j0 j0 j0<|j4)),(fun _=>pa j0 j0 j0 j0 (ixI ti35 j0 ti80 j0 j0 j0 q27<|j4)),(fun _=>pa j0 j0 j0 j0 (mv j0<|j4)),(fun _=>pa j0 j0 j0 j0 (ld ti35 j0 j0<|j4)),(fun _=>pa j0 j0 j0 j0 (fa ti38 j0 j0 j0<|j4)),(fun _=>pa j0 j0 j0 j0 (pc (law5_texts_ok v27.Locals 20 q26) j0 j0 j0<|j4)),(fun _=>pa j0 j0 j0 j0 (ldI ti22 j0 (idx_some q25).2.2 j0<|j4)),(fun _=>pa j0 j0 j0 j0 (fa ti80 j0 j0 j0<|j4)),(fun _=>pa j0 j0 j0 j0 (ixI ti35 j0 ti80 j0 j0 j0 q25<|j4)),(fun _=>pa j0 j0 j0 j0 (mv j0<|j4)),(fun _=>pa j0 j0 j0 j0 (ld ti35 j0 j0<|j4)),(fun _=>pa j0 j0 j0 j0 (fa ti38 j0 j0 j0<|j4)),(fun _=>pa j0 j0 j0 j0 (ldI ti3 j0 (idx_some q24).2.2 j0<|j4)),(fun _=>pa j0 j0 j0 j0 (fa ti80 j0 j0 j0<|j4)),(fun _=>pa j0 j0 j0 j0 (ixI ti35 j0 ti80 j0 j0 j0 q24<|j4)),(fun _=>pa j0 j0 j0 j0 (mv j0<|j4)),(fun _=>pa j0 j0 j0 j0 (ld ti35 j0 j0<|j4)),(fun _=>pa j0 j0 j0 j0 (fa ti38 j0 j0 j0<|j4)),(fun h=>by cases h),(fun _=>pa j0 j0 j0 j0 (fa ti38 j0 j0 j0<|j4)),j5⟩ (by kernel_rfl) j0 ⟨(fun h=>by cases h),(fun h=>by cases h),(fun _ _=>⟨_,j0,j0,sto ti35 j0 j0 j0<|⟨.any,[],[],j0,j0,by kernel_rfl,j5,dt0 ⟨(fun h=>by cases h),(fun h=>by cases h),(fun h=>by cases h),(fun h=>by cases h),(fun h=>by cases h),(fun h=>by cases h),(fun h=>by cases h),(fun h=>by cases h),(fun h=>by cases h),(fun h=>by cases h),(fun h=>by cases h),(fun h=>by cases h),(fun h=>by cases h),(fun h=>by cases h),(fun h=>by cases h),(fun h=>by cases h),(fun h=>by cases h),(fun h=>by cases h),(fun h=>by cases h),(fun h=>by cases h),(fun h=>by cases h),(fun h=>by cases h),(fun h=>by cases h),(fun h=>by cases h),j5⟩ (by kernel_rfl) j0 ⟨[.old 0,.old 1,.old 2,.old 3,.old 6],cv j0 (.mpt j0)<|cv j0 (.mpt j0)<|cv j0 (.mpt j0)<|ce j0 j0<|cn,j0,⟨⟨_,j0,rsOne ⟨ci j0,ci j0,ci j0,ci j0,ci j0,ci j0,ci j0,ci j0,ci j0,ci j0,j5⟩⟩,⟨_,j0,rsOne ⟨ci j0,ci j0,ci j0,ci j0,ci j0,ci j0,ci j0,ci j0,ci j0,ci j0,j5⟩⟩,⟨_,j0,rsOne ⟨ci j0,ci j0,ci j0,ci j0,ci j0,ci j0,ci j0,.msl j0,.msl j0,ci j0,j5⟩⟩,⟨_,j0,rsMap (fun _=>j0)⟩,⟨_,j0,rsMap (fun _=>j0)⟩,j5⟩,j0,j1⟩⟩⟩),j5⟩⟩⟩),(fun _ h=>by cases h),j5⟩⟩⟩),(fun _ h=>by cases h),(fun _ h=>by cases h),j5⟩) ?_
    refine rl j0<|u<|mv j0<|u<|add ti3 j0 j0<|u<|asg j0<|r_nil ?_
    obtain rfl:=sm h
    exact ⟨_,j0,[.old 0,.old 1,.old 2,.old 3,.old 4],cv j0 (.mpt j0)<|cv j0 (.mpt j0)<|cv j0 (.mpt j0)<|ce j0 j0<|cn,j0,⟨⟨_,j0,rsOne ⟨ci j0,ci j0,ci j0,ci j0,ci j0,ci j0,ci j0,ci j0,ci j0,ci j0,j5⟩⟩,⟨_,j0,rsOne ⟨ci j0,ci j0,ci j0,ci j0,ci j0,ci j0,ci j0,ci j0,ci j0,ci j0,j5⟩⟩,⟨_,j0,rsOne ⟨ci j0,ci j0,ci j0,ci j0,ci j0,ci j0,ci j0,.msl j0,.msl j0,ci j0,j5⟩⟩,⟨_,j0,rsMap (fun _=>j0)⟩,⟨_,j0,rsMap (fun _=>j0)⟩,j5⟩,j0,j1⟩
   ·
    replace h:=bF hc23 h
    refine sw_exit ?_
    obtain rfl:=sm h
    exact ⟨j0,_,j0,[.old 0,.old 1,.old 2,.old 3,.old 4],cv j0 (.mpt j0)<|cv j0 (.mpt j0)<|cv j0 (.mpt j0)<|cn,j0,⟨⟨_,j0,rsOne ⟨ci j0,ci j0,ci j0,ci j0,ci j0,ci j0,ci j0,ci j0,ci j0,ci j0,j5⟩⟩,⟨_,j0,rsOne ⟨ci j0,ci j0,ci j0,ci j0,ci j0,ci j0,ci j0,ci j0,ci j0,ci j0,j5⟩⟩,⟨_,j0,rsOne ⟨ci j0,ci j0,ci j0,ci j0,ci j0,ci j0,ci j0,.msl j0,.msl j0,ci j0,j5⟩⟩,⟨_,j0,rsMap (fun _=>j0)⟩,⟨_,j0,rsMap (fun _=>j0)⟩,j5⟩,j0,j1⟩
  ·
   rintro v32 rfl
   replace h : law5_method_k4 v1 v2 v3 v4 v15 v32 = some r:=h
   unfold law5_method_k4 at h
   refine ow_intro ?_
   refine sw_seq ?_
   refine rg j0<|u<|asg j0<|r_nil ?_
   obtain ⟨o,ho,h⟩:=bs h
   refine sw_lpl (X:=(List ApiTrap) × Int) (B:=(List ApiTrap)) (R:=ApiMethod) (fun z=>[(1,.mpt 0 0 0),(2,.mpt 1 0 0),(3,.mpt 2 0 0),(6,iA z.2)]) (fun z=>[some (10,[[sA v1.Name,.isl 1 (List.map rStr v1.Params),sA v1.Ret,bA v1.Static,bA v1.Abstract,iA v1.Locals,iA v1.Stack,.isl 4 (List.map rApiIns v1.Code),.isl 3 (List.map rApiMap v1.Maps),.isl 4 (List.map rApiTrap v1.Traps)]]),some (10,[[sA [],.lit (.slice none 0 0),sA [],bA false,bA false,iA 0,iA 0,.lit (.slice none 0 0),.lit (.slice none 0 0),.lit (.slice none 0 0)]]),some (10,[[sA v2,.isl 1 (List.map rStr v3),sA v4,bA v1.Static,bA v1.Abstract,iA v1.Locals,iA v1.Stack,.msl 3 0 (List.length v15),.msl 4 0 (List.length v32),.msl 5 0 (List.length z.1)]]),some (4,List.map rApiIns v15),some (3,List.map rApiMap v32),some (4,List.map rApiTrap z.1)]) (fun b=>[(2,.mpt 0 0 0),(3,.mpt 1 0 0)]) (fun b=>[some (10,[[sA [],.lit (.slice none 0 0),sA [],bA false,bA false,iA 0,iA 0,.lit (.slice none 0 0),.lit (.slice none 0 0),.lit (.slice none 0 0)]]),some (10,[[sA v2,.isl 1 (List.map rStr v3),sA v4,bA v1.Static,bA v1.Abstract,iA v1.Locals,iA v1.Stack,.msl 2 0 (List.length v15),.msl 3 0 (List.length v32),.msl 4 0 (List.length b)]]),some (4,List.map rApiIns v15),some (3,List.map rApiMap v32),some (4,List.map rApiTrap b)]) (fun r env st=>PostF Tryz.prog Tryz.f71 0 (.agg [sA r.Name,.isl 1 (List.map rStr r.Params),sA r.Ret,bA r.Static,bA r.Abstract,iA r.Locals,iA r.Stack,.isl 4 (List.map rApiIns r.Code),.isl 3 (List.map rApiMap r.Maps),.isl 4 (List.map rApiTrap r.Traps)]) [] env st) ho ⟨[.old 0,.old 1,.old 2,.old 3,.old 4,.fresh 4],cv j0 (.mpt j0)<|cv j0 (.mpt j0)<|cv j0 (.mpt j0)<|ce j0 j0<|cn,j0,⟨⟨_,j0,rsOne ⟨ci j0,ci j0,ci j0,ci j0,ci j0,ci j0,ci j0,ci j0,ci j0,ci j0,j5⟩⟩,⟨_,j0,rsOne ⟨ci j0,ci j0,ci j0,ci j0,ci j0,ci j0,ci j0,ci j0,ci j0,ci j0,j5⟩⟩,⟨_,j0,rsOne ⟨ci j0,ci j0,ci j0,ci j0,ci j0,ci j0,ci j0,.msl j0,.msl j0,.nilown j0,j5⟩⟩,⟨_,j0,rsMap (fun _=>j0)⟩,⟨_,j0,rsMap (fun _=>j0)⟩,j4,j5⟩,j0,j1⟩ ?_ ?_ ?_
   ·
    rintro ⟨v38,v39⟩ r h
    replace h : law5_method_l5 v1 v38 v39 = some r:=h
    unfold law5_method_l5 at h
    refine sw_seq ?_
    refine rg j0<|u<|mv j0<|u<|fa ti38 j0 j0 j0<|u<|ld ti36 j0 j0<|u<|lnI ti36 j0 j0<|u<|lss ti3 j0 j0<|u<|mv j0<|r_and (j:=5) 2 j0 j0 j0 j0 j0 gpn (fun hb35=>g j0 hb35<|mv j0<|g j0 hb35<|lss ti3 j0 j0<|r_nil (egA [91,92] 2 hb35 j0 j0 j0 j0)) andF<|r_nil ?_
    refine sw_cond j0 (fun hc36=>?_) (fun hc36=>?_)
    ·
     replace h:=bT hc36 h
     refine sw_skip ?_
     refine sw_seq ?_
     refine sw_block ?_
     obtain ⟨v40,q37,h⟩:=bs h
     refine rg j0<|u<|fa ti38 j0 j0 j0<|u<|ld ti36 j0 j0<|u<|mv j0<|u<|ixI ti36 j0 ti88 j0 j0 j0 q37<|u<|ldI ti88 j0 (idx_some q37).2.2 j0<|u<|al 6 ti88 j0<|u<|sto ti88 j0 j0 j0<|r_nil ?_
     obtain ⟨v41,q38,h⟩:=bs h
     refine rg j0<|u<|fa ti88 j0 j0 j0<|u<|ld ti9 j0 j0<|u<|pc (law1_Cut_ok v40.C 10 q38) j0 j0 j0<|u<|fa ti88 j0 j0 j0<|u<|sto ti9 j0 j0 j0<|r_nil ?_
     obtain ⟨v42,q39,h⟩:=bs h
     refine rl j0<|u<|fa ti38 j0 j0 j0<|u<|ld ti36 j0 j0<|u<|ld ti88 j0 j0<|u<|bl 7 ti36 j0 ti88 j0 (by decide) (by decide) j0 j0 j0<|u<|apM 8 ti36 j0 ti88 j0 j0 (by decide) ti36 j0 j0 j0 j0 (roX (f:=rApiTrap) (z:=[(ApiTrap.mk v40.From v40.To v40.At v41)]) j0 j0) (fun _=>j0) j0 q39<|u<|fa ti38 j0 j0 j0<|u<|sto ti36 j0 j0 j0<|r_nil ?_
     refine rl j0<|u<|mv j0<|u<|add ti3 j0 j0<|u<|asg j0<|r_nil ?_
     obtain rfl:=sm h
     exact ⟨_,j0,[.old 0,.old 1,.old 2,.old 3,.old 4,.old 8],cv j0 (.mpt j0)<|cv j0 (.mpt j0)<|cv j0 (.mpt j0)<|ce j0 j0<|cn,j0,⟨⟨_,j0,rsOne ⟨ci j0,ci j0,ci j0,ci j0,ci j0,ci j0,ci j0,ci j0,ci j0,ci j0,j5⟩⟩,⟨_,j0,rsOne ⟨ci j0,ci j0,ci j0,ci j0,ci j0,ci j0,ci j0,ci j0,ci j0,ci j0,j5⟩⟩,⟨_,j0,rsOne ⟨ci j0,ci j0,ci j0,ci j0,ci j0,ci j0,ci j0,.msl j0,.msl j0,.msl j0,j5⟩⟩,⟨_,j0,rsMap (fun _=>j0)⟩,⟨_,j0,rsMap (fun _=>j0)⟩,⟨_,j0,rsMap (fun _=>j0)⟩,j5⟩,j0,j1⟩
    ·
     replace h:=bF hc36 h
     refine sw_exit ?_
     obtain rfl:=sm h
     exact ⟨j0,_,j0,[.old 1,.old 2,.old 3,.old 4,.old 5],cv j0 (.mpt j0)<|cv j0 (.mpt j0)<|cn,j0,⟨⟨_,j0,rsOne ⟨ci j0,ci j0,ci j0,ci j0,ci j0,ci j0,ci j0,ci j0,ci j0,ci j0,j5⟩⟩,⟨_,j0,rsOne ⟨ci j0,ci j0,ci j0,ci j0,ci j0,ci j0,ci j0,.msl j0,.msl j0,.msl j0,j5⟩⟩,⟨_,j0,rsMap (fun _=>j0)⟩,⟨_,j0,rsMap (fun _=>j0)⟩,⟨_,j0,rsMap (fun _=>j0)⟩,j5⟩,j0,j1⟩
   ·
    rintro v43 rfl
    replace h : law5_method_k6 v1 v2 v3 v4 v15 v32 v43 = some r:=h
    unfold law5_method_k6 at h
    refine ow_intro ?_
    refine rg j0<|u<|ld ti38 j0 j0<|u<|sto ti38 j0 j0 j0<|r_nil ?_
    refine sw_ret ?_
    obtain rfl:=sm h
    exact ⟨_,j0,[],rsAgg ⟨ci j0,ci j0,ci j0,ci j0,ci j0,ci j0,ci j0,(rsSeal j0 j0 (fun _=>j0)),(rsSeal j0 j0 (fun _=>j0)),(rsSeal j0 j0 (fun _=>j0)),j5⟩,j0,j5,j0,j1⟩
   ·
    rintro r' rfl env st hp
    obtain rfl:=sm h
    exact hp
  ·
   rintro r' rfl env st hp
   obtain rfl:=sm h
   exact hp
 ·
  rintro r' rfl env st hp
  obtain rfl:=sm h
  exact hp
def law5_Cut_k4 (v1 : ApiClass) (v2 : (List UInt8)) (v3 : (List UInt8)) (v4 : (List (List UInt8))) (v17 : List ApiField) (v28 : List ApiMethod) : Option (ApiClass) :=
  some (ApiClass.mk v2 v3 v1.Interface v4 v17 v28)
def law5_Cut_l3 (v1 : ApiClass) (v23 : List ApiMethod) (v24 : Int) : Option (Sum ((List ApiMethod) × Int) (Sum ((List ApiMethod)) (ApiClass))) :=
  cond ((decide (v24 < (List.length v1.Methods : Int))) && (decide (v24 < 10))) ((idx v1.Methods v24).bind fun v25=>(law5_method v25).bind fun v26=>(appP 152 v23 [v26]).bind fun v27=>some (.inl (v27,(IntKind.i64.wrap (v24 + 1))))) (some (.inr (.inl v23)))
def law5_Cut_k2 (v1 : ApiClass) (v2 : (List UInt8)) (v3 : (List UInt8)) (v4 : (List (List UInt8))) (v17 : List ApiField) : Option (ApiClass) :=
  (loopP (fun z=>law5_Cut_l3 v1 z.1 z.2) ([],0)).bind fun o=>leave o (fun b=>law5_Cut_k4 v1 v2 v3 v4 v17 b) some
def law5_Cut_l1 (v1 : ApiClass) (v11 : List ApiField) (v12 : Int) : Option (Sum ((List ApiField) × Int) (Sum ((List ApiField)) (ApiClass))) :=
  cond ((decide (v12 < (List.length v1.Fields : Int))) && (decide (v12 < 10))) ((idx v1.Fields v12).bind fun v13=>(law1_Cut v13.Name 10).bind fun v14=>(law1_Cut v13.Type_ 12).bind fun v15=>(appP 40 v11 [(ApiField.mk v14 v15 v13.Static)]).bind fun v16=>some (.inl (v16,(IntKind.i64.wrap (v12 + 1))))) (some (.inr (.inl v11)))
def law5_Cut (v1 : ApiClass) : Option (ApiClass) :=
  (law1_Cut v1.Name 10).bind fun v2=>(law1_Cut v1.Super 10).bind fun v3=>(law5_texts v1.Impl 6).bind fun v4=>(loopP (fun z=>law5_Cut_l1 v1 z.1 z.2) ([],0)).bind fun o=>leave o (fun b=>law5_Cut_k2 v1 v2 v3 v4 b) some
theorem law5_Cut_ok (v1 : ApiClass) {r : ApiClass} (h : law5_Cut v1 = some r) : PureC Tryz.prog 16 [.agg [sA v1.Name,sA v1.Super,bA v1.Interface,.isl 1 (List.map rStr v1.Impl),.isl 3 (List.map rApiField v1.Fields),.isl 10 (List.map rApiMethod v1.Methods)]] (.agg [sA r.Name,sA r.Super,bA r.Interface,.isl 1 (List.map rStr r.Impl),.isl 3 (List.map rApiField r.Fields),.isl 10 (List.map rApiMethod r.Methods)]):=by
 refine pure_fn Tryz.func16 j0 (by kernel_rfl) j0 j0 ?_
 unfold law5_Cut at h
 refine rg j0<|u<|bx 0 6 j0 j0 j0 j0<|u<|al 1 ti26 j0<|r_nil ?_
 obtain ⟨v2,q1,h⟩:=bs h
 obtain ⟨v3,q2,h⟩:=bs h
 obtain ⟨v4,q3,h⟩:=bs h
 refine rd [(1,.mpt 0 0 0),(2,.mpt 1 0 0),(3,.mpt 2 0 0)] [some (6,[[sA v1.Name,sA v1.Super,bA v1.Interface,.isl 1 (List.map rStr v1.Impl),.isl 3 (List.map rApiField v1.Fields),.isl 10 (List.map rApiMethod v1.Methods)]]),some (6,[[sA [],sA [],bA false,.lit (.slice none 0 0),.lit (.slice none 0 0),.lit (.slice none 0 0)]]),some (6,[[sA v2,sA v3,bA v1.Interface,.isl 1 (List.map rStr v4),.lit (.slice none 0 0),.lit (.slice none 0 0)]])] [12,13] [11,10,9,8,7,6,5,4,3,2,1,0] [(18,.agg [sA v2,sA v3,bA v1.Interface,.isl 1 (List.map rStr v4),.lit (.slice none 0 0),.lit (.slice none 0 0)]),(17,.isl 1 (List.map rStr v4)),(16,.isl 1 (List.map rStr v1.Impl)),(15,.mpt 0 0 3),(14,bA v1.Interface),(13,.mpt 0 0 2),(12,sA v3),(11,sA v1.Super),(10,.mpt 0 0 1),(9,sA v2),(8,sA v1.Name),(7,.mpt 0 0 0)] 2 (by kernel_rfl) (by kernel_rfl) j0 (by kernel_rfl) (dtS ⟨(fun _=>pa j0 j0 j0 j0 (bd ti26 j0 j0 j0<|j4)),(fun _=>pa j0 j0 j0 j0 (pc (law5_texts_ok v1.Impl 6 q3) j0 j0 j0<|j4)),(fun _=>pa j0 j0 j0 j0 (ld ti22 j0 j0<|j4)),(fun _=>pa j0 j0 j0 j0 (fa ti26 j0 j0 j0<|j4)),(fun _=>pa j0 j0 j0 j0 (ld ti4 j0 j0<|j4)),(fun _=>pa j0 j0 j0 j0 (fa ti26 j0 j0 j0<|j4)),(fun _=>pa j0 j0 j0 j0 (pc (law1_Cut_ok v1.Super 10 q2) j0 j0 j0<|j4)),(fun _=>pa j0 j0 j0 j0 (ld ti9 j0 j0<|j4)),(fun _=>pa j0 j0 j0 j0 (fa ti26 j0 j0 j0<|j4)),(fun _=>pa j0 j0 j0 j0 (pc (law1_Cut_ok v1.Name 10 q1) j0 j0 j0<|j4)),(fun _=>pa j0 j0 j0 j0 (ld ti9 j0 j0<|j4)),(fun _=>pa j0 j0 j0 j0 (fa ti26 j0 j0 j0<|j4)),j5⟩ (by kernel_rfl) j0 ⟨(fun _ _=>⟨_,j0,j0,al 2 ti26 j0<|⟨(.mpt 2 0 0),[],[(3,.mpt 2 0 0)],j0,j0,by kernel_rfl,j0,dtS ⟨(fun _=>pa j0 j0 j0 j0 (bd ti26 j0 j0 j0<|j4)),(fun _=>pa j0 j0 j0 j0 (pc (law5_texts_ok v1.Impl 6 q3) j0 j0 j0<|j4)),(fun _=>pa j0 j0 j0 j0 (ld ti22 j0 j0<|j4)),(fun _=>pa j0 j0 j0 j0 (fa ti26 j0 j0 j0<|j4)),(fun _=>pa j0 j0 j0 j0 (ld ti4 j0 j0<|j4)),(fun _=>pa j0 j0 j0 j0 (fa ti26 j0 j0 j0<|j4)),(fun _=>pa j0 j0 j0 j0 (pc (law1_Cut_ok v1.Super 10 q2) j0 j0 j0<|j4)),(fun _=>pa j0 j0 j0 j0 (ld ti9 j0 j0<|j4)),(fun _=>pa j0 j0 j0 j0 (fa ti26 j0 j0 j0<|j4)),(fun _=>pa j0 j0 j0 j0 (pc (law1_Cut_ok v1.Name 10 q1) j0 j0 j0<|j4)),(fun _=>pa j0 j0 j0 j0 (ld ti9 j0 j0<|j4)),(fun _=>pa j0 j0 j0 j0 (fa ti26 j0 j0 j0<|j4)),j5⟩ (by kernel_rfl) j0 ⟨(fun h=>by cases h),(fun _ _=>⟨_,j0,j0,sto ti26 j0 j0 j0<|⟨.any,[],[],j0,j0,by kernel_rfl,j5,dt0 ⟨(fun h=>by cases h),(fun h=>by cases h),(fun h=>by cases h),(fun h=>by cases h),(fun h=>by cases h),(fun h=>by cases h),(fun h=>by cases h),(fun h=>by cases h),(fun h=>by cases h),(fun h=>by cases h),(fun h=>by cases h),(fun h=>by cases h),j5⟩ (by kernel_rfl) j0 ⟨[.old 0,.old 1,.old 2],cv j0 (.mpt j0)<|cv j0 (.mpt j0)<|cv j0 (.mpt j0)<|cn,j0,⟨⟨_,j0,rsOne ⟨ci j0,ci j0,ci j0,ci j0,ci j0,ci j0,j5⟩⟩,⟨_,j0,rsOne ⟨ci j0,ci j0,ci j0,ci j0,ci j0,ci j0,j5⟩⟩,⟨_,j0,rsOne ⟨ci j0,ci j0,ci j0,ci j0,ci j0,ci j0,j5⟩⟩,j5⟩,j0,j1⟩⟩⟩),j5⟩⟩⟩),(fun _ h=>by cases h),j5⟩) ?_
 refine sw_seq ?_
 refine rg j0<|u<|asg j0<|r_nil ?_
 obtain ⟨o,ho,h⟩:=bs h
 refine sw_lpl (X:=(List ApiField) × Int) (B:=(List ApiField)) (R:=ApiClass) (fun z=>[(1,.mpt 0 0 0),(2,.mpt 1 0 0),(3,.mpt 2 0 0),(4,iA z.2)]) (fun z=>[some (6,[[sA v1.Name,sA v1.Super,bA v1.Interface,.isl 1 (List.map rStr v1.Impl),.isl 3 (List.map rApiField v1.Fields),.isl 10 (List.map rApiMethod v1.Methods)]]),some (6,[[sA [],sA [],bA false,.lit (.slice none 0 0),.lit (.slice none 0 0),.lit (.slice none 0 0)]]),some (6,[[sA v2,sA v3,bA v1.Interface,.isl 1 (List.map rStr v4),.msl 3 0 (List.length z.1),.lit (.slice none 0 0)]]),some (3,List.map rApiField z.1)]) (fun b=>[(1,.mpt 0 0 0),(2,.mpt 1 0 0),(3,.mpt 2 0 0)]) (fun b=>[some (6,[[sA v1.Name,sA v1.Super,bA v1.Interface,.isl 1 (List.map rStr v1.Impl),.isl 3 (List.map rApiField v1.Fields),.isl 10 (List.map rApiMethod v1.Methods)]]),some (6,[[sA [],sA [],bA false,.lit (.slice none 0 0),.lit (.slice none 0 0),.lit (.slice none 0 0)]]),some (6,[[sA v2,sA v3,bA v1.Interface,.isl 1 (List.map rStr v4),.msl 3 0 (List.length b),.lit (.slice none 0 0)]]),some (3,List.map rApiField b)]) (fun r env st=>PostF Tryz.prog Tryz.f16 0 (.agg [sA r.Name,sA r.Super,bA r.Interface,.isl 1 (List.map rStr r.Impl),.isl 3 (List.map rApiField r.Fields),.isl 10 (List.map rApiMethod r.Methods)]) [] env st) ho ⟨[.old 0,.old 1,.old 2,.fresh 3],cv j0 (.mpt j0)<|cv j0 (.mpt j0)<|cv j0 (.mpt j0)<|ce j0 j0<|cn,j0,⟨⟨_,j0,rsOne ⟨ci j0,ci j0,ci j0,ci j0,ci j0,ci j0,j5⟩⟩,⟨_,j0,rsOne ⟨ci j0,ci j0,ci j0,ci j0,ci j0,ci j0,j5⟩⟩,⟨_,j0,rsOne ⟨ci j0,ci j0,ci j0,ci j0,.nilown j0,ci j0,j5⟩⟩,j4,j5⟩,j0,j1⟩ ?_ ?_ ?_
 ·
  rintro ⟨v11,v12⟩ r h
  replace h : law5_Cut_l1 v1 v11 v12 = some r:=h
  unfold law5_Cut_l1 at h
  refine sw_seq ?_
  refine rg j0<|u<|mv j0<|u<|fa ti26 j0 j0 j0<|u<|ld ti23 j0 j0<|u<|lnI ti23 j0 j0<|u<|lss ti3 j0 j0<|u<|mv j0<|r_and (j:=5) 2 j0 j0 j0 j0 j0 gpn (fun hb10=>g j0 hb10<|mv j0<|g j0 hb10<|lss ti3 j0 j0<|r_nil (egA [25,26] 2 hb10 j0 j0 j0 j0)) andF<|r_nil ?_
  refine sw_cond j0 (fun hc11=>?_) (fun hc11=>?_)
  ·
   replace h:=bT hc11 h
   refine sw_skip ?_
   refine sw_seq ?_
   refine sw_block ?_
   obtain ⟨v13,q12,h⟩:=bs h
   refine rg j0<|u<|fa ti26 j0 j0 j0<|u<|ld ti23 j0 j0<|u<|mv j0<|u<|ixI ti23 j0 ti42 j0 j0 j0 q12<|u<|ldI ti42 j0 (idx_some q12).2.2 j0<|u<|al 4 ti42 j0<|u<|sto ti42 j0 j0 j0<|r_nil ?_
   obtain ⟨v14,q13,h⟩:=bs h
   obtain ⟨v15,q14,h⟩:=bs h
   obtain ⟨v16,q15,h⟩:=bs h
   refine rdL [(1,.mpt 0 0 0),(2,.mpt 1 0 0),(3,.mpt 2 0 0),(4,iA v12)] [some (6,[[sA v1.Name,sA v1.Super,bA v1.Interface,.isl 1 (List.map rStr v1.Impl),.isl 3 (List.map rApiField v1.Fields),.isl 10 (List.map rApiMethod v1.Methods)]]),some (6,[[sA [],sA [],bA false,.lit (.slice none 0 0),.lit (.slice none 0 0),.lit (.slice none 0 0)]]),some (6,[[sA v2,sA v3,bA v1.Interface,.isl 1 (List.map rStr v4),.msl 3 0 (List.length v16),.lit (.slice none 0 0)]]),some (3,List.map rApiField v16)] [11,12,14] [10,9,8,7,6,5,4,3,2,1,0] [(45,.agg [sA v14,sA v15,bA v13.Static]),(44,bA v13.Static),(43,.mpt 4 0 2),(42,sA v15),(41,sA v13.Type_),(40,.mpt 4 0 1),(39,sA v14),(38,sA v13.Name),(37,.mpt 4 0 0),(36,.msl 3 0 (List.length v11)),(35,.mpt 2 0 4)] 3 (by kernel_rfl) (by kernel_rfl) j0 (by kernel_rfl) (dtS ⟨(fun _=>pa j0 j0 j0 j0 (bd ti42 j0 j0 j0<|j4)),(fun _=>pa j0 j0 j0 j0 (ld ti4 j0 j0<|j4)),(fun _=>pa j0 j0 j0 j0 (fa ti42 j0 j0 j0<|j4)),(fun _=>pa j0 j0 j0 j0 (pc (law1_Cut_ok v13.Type_ 12 q14) j0 j0 j0<|j4)),(fun _=>pa j0 j0 j0 j0 (ld ti9 j0 j0<|j4)),(fun _=>pa j0 j0 j0 j0 (fa ti42 j0 j0 j0<|j4)),(fun _=>pa j0 j0 j0 j0 (pc (law1_Cut_ok v13.Name 10 q13) j0 j0 j0<|j4)),(fun _=>pa j0 j0 j0 j0 (ld ti9 j0 j0<|j4)),(fun _=>pa j0 j0 j0 j0 (fa ti42 j0 j0 j0<|j4)),(fun _=>pa j0 j0 j0 j0 (ld ti23 j0 j0<|j4)),(fun _=>pa j0 j0 j0 j0 (fa ti26 j0 j0 j0<|j4)),j5⟩ (by kernel_rfl) j0 ⟨(fun _ _=>⟨_,j0,j0,bl 5 ti23 j0 ti42 j0 (by decide) (by decide) j0 j0 j0<|⟨(.msl 5 0 1),[],[(46,.msl 5 0 1)],j0,j0,by kernel_rfl,j0,dtS ⟨(fun h=>by cases h),(fun _=>pa j0 j0 j0 j0 (ld ti4 j0 j0<|j4)),(fun _=>pa j0 j0 j0 j0 (fa ti42 j0 j0 j0<|j4)),(fun _=>pa j0 j0 j0 j0 (pc (law1_Cut_ok v13.Type_ 12 q14) j0 j0 j0<|j4)),(fun _=>pa j0 j0 j0 j0 (ld ti9 j0 j0<|j4)),(fun _=>pa j0 j0 j0 j0 (fa ti42 j0 j0 j0<|j4)),(fun _=>pa j0 j0 j0 j0 (pc (law1_Cut_ok v13.Name 10 q13) j0 j0 j0<|j4)),(fun _=>pa j0 j0 j0 j0 (ld ti9 j0 j0<|j4)),(fun _=>pa j0 j0 j0 j0 (fa ti42 j0 j0 j0<|j4)),(fun _=>pa j0 j0 j0 j0 (ld ti23 j0 j0<|j4)),(fun _=>pa j0 j0 j0 j0 (fa ti26 j0 j0 j0<|j4)),j5⟩ (by kernel_rfl) j0 ⟨(fun h=>by cases h),(fun _ _=>⟨_,j0,j0,apM 6 ti23 j0 ti42 j0 j0 (by decide) ti23 j0 j0 j0 j0 (roX (f:=rApiField) (z:=[(ApiField.mk v14 v15 v13.Static)]) j0 j0) (fun _=>j0) j0 q15<|⟨(.msl 6 0 (List.length v16)),[13],[(48,.mpt 2 0 4),(47,.msl 6 0 (List.length v16))],j0,j0,by kernel_rfl,j0,dtS ⟨(fun _=>pa j0 j0 j0 j0 (fa ti26 j0 j0 j0<|j4)),(fun h=>by cases h),(fun _=>pa j0 j0 j0 j0 (ld ti4 j0 j0<|j4)),(fun _=>pa j0 j0 j0 j0 (fa ti42 j0 j0 j0<|j4)),(fun h=>by cases h),(fun _=>pa j0 j0 j0 j0 (ld ti9 j0 j0<|j4)),(fun _=>pa j0 j0 j0 j0 (fa ti42 j0 j0 j0<|j4)),(fun _=>pa j0 j0 j0 j0 (pc (law1_Cut_ok v13.Name 10 q13) j0 j0 j0<|j4)),(fun _=>pa j0 j0 j0 j0 (ld ti9 j0 j0<|j4)),(fun _=>pa j0 j0 j0 j0 (fa ti42 j0 j0 j0<|j4)),(fun h=>by cases h),(fun _=>pa j0 j0 j0 j0 (fa ti26 j0 j0 j0<|j4)),j5⟩ (by kernel_rfl) j0 ⟨(fun h=>by cases h),(fun h=>by cases h),(fun _ _=>⟨_,j0,j0,sto ti23 j0 j0 j0<|⟨.any,[],[],j0,j0,by kernel_rfl,j5,dt0 ⟨(fun h=>by cases h),(fun h=>by cases h),(fun h=>by cases h),(fun h=>by cases h),(fun h=>by cases h),(fun h=>by cases h),(fun h=>by cases h),(fun h=>by cases h),(fun h=>by cases h),(fun h=>by cases h),(fun h=>by cases h),(fun h=>by cases h),j5⟩ (by kernel_rfl) j0 ⟨[.old 0,.old 1,.old 2,.old 6],cv j0 (.mpt j0)<|cv j0 (.mpt j0)<|cv j0 (.mpt j0)<|ce j0 j0<|cn,j0,⟨⟨_,j0,rsOne ⟨ci j0,ci j0,ci j0,ci j0,ci j0,ci j0,j5⟩⟩,⟨_,j0,rsOne ⟨ci j0,ci j0,ci j0,ci j0,ci j0,ci j0,j5⟩⟩,⟨_,j0,rsOne ⟨ci j0,ci j0,ci j0,ci j0,.msl j0,ci j0,j5⟩⟩,⟨_,j0,rsMap (fun _=>j0)⟩,j5⟩,j0,j1⟩⟩⟩),j5⟩⟩⟩),(fun _ h=>by cases h),j5⟩⟩⟩),(fun _ h=>by cases h),(fun _ h=>by cases h),j5⟩) ?_
   refine rl j0<|u<|mv j0<|u<|add ti3 j0 j0<|u<|asg j0<|r_nil ?_
   obtain rfl:=sm h
   exact ⟨_,j0,[.old 0,.old 1,.old 2,.old 3],cv j0 (.mpt j0)<|cv j0 (.mpt j0)<|cv j0 (.mpt j0)<|ce j0 j0<|cn,j0,⟨⟨_,j0,rsOne ⟨ci j0,ci j0,ci j0,ci j0,ci j0,ci j0,j5⟩⟩,⟨_,j0,rsOne ⟨ci j0,ci j0,ci j0,ci j0,ci j0,ci j0,j5⟩⟩,⟨_,j0,rsOne ⟨ci j0,ci j0,ci j0,ci j0,.msl j0,ci j0,j5⟩⟩,⟨_,j0,rsMap (fun _=>j0)⟩,j5⟩,j0,j1⟩
  ·
   replace h:=bF hc11 h
   refine sw_exit ?_
   obtain rfl:=sm h
   exact ⟨j0,_,j0,[.old 0,.old 1,.old 2,.old 3],cv j0 (.mpt j0)<|cv j0 (.mpt j0)<|cv j0 (.mpt j0)<|cn,j0,⟨⟨_,j0,rsOne ⟨ci j0,ci j0,ci j0,ci j0,ci j0,ci j0,j5⟩⟩,⟨_,j0,rsOne ⟨ci j0,ci j0,ci j0,ci j0,ci j0,ci j0,j5⟩⟩,⟨_,j0,rsOne ⟨ci j0,ci j0,ci j0,ci j0,.msl j0,ci j0,j5⟩⟩,⟨_,j0,rsMap (fun _=>j0)⟩,j5⟩,j0,j1⟩
 ·
  rintro v17 rfl
  replace h : law5_Cut_k2 v1 v2 v3 v4 v17 = some r:=h
  unfold law5_Cut_k2 at h
  refine ow_intro ?_
  refine sw_seq ?_
  refine rg j0<|u<|asg j0<|r_nil ?_
  obtain ⟨o,ho,h⟩:=bs h
  refine sw_lpl (X:=(List ApiMethod) × Int) (B:=(List ApiMethod)) (R:=ApiClass) (fun z=>[(1,.mpt 0 0 0),(2,.mpt 1 0 0),(3,.mpt 2 0 0),(6,iA z.2)]) (fun z=>[some (6,[[sA v1.Name,sA v1.Super,bA v1.Interface,.isl 1 (List.map rStr v1.Impl),.isl 3 (List.map rApiField v1.Fields),.isl 10 (List.map rApiMethod v1.Methods)]]),some (6,[[sA [],sA [],bA false,.lit (.slice none 0 0),.lit (.slice none 0 0),.lit (.slice none 0 0)]]),some (6,[[sA v2,sA v3,bA v1.Interface,.isl 1 (List.map rStr v4),.msl 3 0 (List.length v17),.msl 4 0 (List.length z.1)]]),some (3,List.map rApiField v17),some (10,List.map rApiMethod z.1)]) (fun b=>[(2,.mpt 0 0 0),(3,.mpt 1 0 0)]) (fun b=>[some (6,[[sA [],sA [],bA false,.lit (.slice none 0 0),.lit (.slice none 0 0),.lit (.slice none 0 0)]]),some (6,[[sA v2,sA v3,bA v1.Interface,.isl 1 (List.map rStr v4),.msl 2 0 (List.length v17),.msl 3 0 (List.length b)]]),some (3,List.map rApiField v17),some (10,List.map rApiMethod b)]) (fun r env st=>PostF Tryz.prog Tryz.f16 0 (.agg [sA r.Name,sA r.Super,bA r.Interface,.isl 1 (List.map rStr r.Impl),.isl 3 (List.map rApiField r.Fields),.isl 10 (List.map rApiMethod r.Methods)]) [] env st) ho ⟨[.old 0,.old 1,.old 2,.old 3,.fresh 10],cv j0 (.mpt j0)<|cv j0 (.mpt j0)<|cv j0 (.mpt j0)<|ce j0 j0<|cn,j0,⟨⟨_,j0,rsOne ⟨ci j0,ci j0,ci j0,ci j0,ci j0,ci j0,j5⟩⟩,⟨_,j0,rsOne ⟨ci j0,ci j0,ci j0,ci j0,ci j0,ci j0,j5⟩⟩,⟨_,j0,rsOne ⟨ci j0,ci j0,ci j0,ci j0,.msl j0,.nilown j0,j5⟩⟩,⟨_,j0,rsMap (fun _=>j0)⟩,j4,j5⟩,j0,j1⟩ ?_ ?_ ?_
  ·
   rintro ⟨v23,v24⟩ r h
   replace h : law5_Cut_l3 v1 v23 v24 = some r:=h
   unfold law5_Cut_l3 at h
   refine sw_seq ?_
   refine rg j0<|u<|mv j0<|u<|fa ti26 j0 j0 j0<|u<|ld ti24 j0 j0<|u<|lnI ti24 j0 j0<|u<|lss ti3 j0 j0<|u<|mv j0<|r_and (j:=5) 2 j0 j0 j0 j0 j0 gpn (fun hb21=>g j0 hb21<|mv j0<|g j0 hb21<|lss ti3 j0 j0<|r_nil (egA [55,56] 2 hb21 j0 j0 j0 j0)) andF<|r_nil ?_
   refine sw_cond j0 (fun hc22=>?_) (fun hc22=>?_)
   ·
    replace h:=bT hc22 h
    refine sw_skip ?_
    refine sw_seq ?_
    refine sw_block ?_
    obtain ⟨v25,q23,h⟩:=bs h
    obtain ⟨v26,q24,h⟩:=bs h
    obtain ⟨v27,q25,h⟩:=bs h
    refine rdL [(1,.mpt 0 0 0),(2,.mpt 1 0 0),(3,.mpt 2 0 0),(6,iA v24)] [some (6,[[sA v1.Name,sA v1.Super,bA v1.Interface,.isl 1 (List.map rStr v1.Impl),.isl 3 (List.map rApiField v1.Fields),.isl 10 (List.map rApiMethod v1.Methods)]]),some (6,[[sA [],sA [],bA false,.lit (.slice none 0 0),.lit (.slice none 0 0),.lit (.slice none 0 0)]]),some (6,[[sA v2,sA v3,bA v1.Interface,.isl 1 (List.map rStr v4),.msl 3 0 (List.length v17),.msl 4 0 (List.length v27)]]),some (3,List.map rApiField v17),some (10,List.map rApiMethod v27)] [8,9,11] [7,6,5,4,3,2,1,0] [(67,.agg [sA v26.Name,.isl 1 (List.map rStr v26.Params),sA v26.Ret,bA v26.Static,bA v26.Abstract,iA v26.Locals,iA v26.Stack,.isl 4 (List.map rApiIns v26.Code),.isl 3 (List.map rApiMap v26.Maps),.isl 4 (List.map rApiTrap v26.Traps)]),(66,.agg [sA v25.Name,.isl 1 (List.map rStr v25.Params),sA v25.Ret,bA v25.Static,bA v25.Abstract,iA v25.Locals,iA v25.Stack,.isl 4 (List.map rApiIns v25.Code),.isl 3 (List.map rApiMap v25.Maps),.isl 4 (List.map rApiTrap v25.Traps)]),(65,.ipt 10 (List.map rApiMethod v1.Methods) (Int.toNat v24) 0),(64,iA v24),(63,.isl 10 (List.map rApiMethod v1.Methods)),(62,.mpt 0 0 5),(61,.msl 4 0 (List.length v23)),(60,.mpt 2 0 5)] 3 (by kernel_rfl) (by kernel_rfl) j0 (by kernel_rfl) (dtS ⟨(fun _=>pa j0 j0 j0 j0 (pc (law5_method_ok v25 q24) j0 j0 j0<|j4)),(fun _=>pa j0 j0 j0 j0 (ldI ti38 j0 (idx_some q23).2.2 j0<|j4)),(fun _=>pa j0 j0 j0 j0 (ixI ti24 j0 ti38 j0 j0 j0 q23<|j4)),(fun _=>pa j0 j0 j0 j0 (mv j0<|j4)),(fun _=>pa j0 j0 j0 j0 (ld ti24 j0 j0<|j4)),(fun _=>pa j0 j0 j0 j0 (fa ti26 j0 j0 j0<|j4)),(fun _=>pa j0 j0 j0 j0 (ld ti24 j0 j0<|j4)),(fun _=>pa j0 j0 j0 j0 (fa ti26 j0 j0 j0<|j4)),j5⟩ (by kernel_rfl) j0 ⟨(fun _ _=>⟨_,j0,j0,bl 5 ti24 j0 ti38 j0 (by decide) (by decide) j0 j0 j0<|⟨(.msl 5 0 1),[],[(68,.msl 5 0 1)],j0,j0,by kernel_rfl,j0,dtS ⟨(fun h=>by cases h),(fun _=>pa j0 j0 j0 j0 (ldI ti38 j0 (idx_some q23).2.2 j0<|j4)),(fun _=>pa j0 j0 j0 j0 (ixI ti24 j0 ti38 j0 j0 j0 q23<|j4)),(fun _=>pa j0 j0 j0 j0 (mv j0<|j4)),(fun _=>pa j0 j0 j0 j0 (ld ti24 j0 j0<|j4)),(fun _=>pa j0 j0 j0 j0 (fa ti26 j0 j0 j0<|j4)),(fun _=>pa j0 j0 j0 j0 (ld ti24 j0 j0<|j4)),(fun _=>pa j0 j0 j0 j0 (fa ti26 j0 j0 j0<|j4)),j5⟩ (by kernel_rfl) j0 ⟨(fun h=>by cases h),(fun _ _=>⟨_,j0,j0,apM 6 ti24 j0 ti38 j0 j0 (by decide) ti24 j0 j0 j0 j0 (roX (f:=rApiMethod) (z:=[v26]) j0 j0) (fun _=>j0) j0 q25<|⟨(.msl 6 0 (List.length v27)),[10],[(70,.mpt 2 0 5),(69,.msl 6 0 (List.length v27))],j0,j0,by kernel_rfl,j0,dtS ⟨(fun _=>pa j0 j0 j0 j0 (fa ti26 j0 j0 j0<|j4)),(fun h=>by cases h),(fun _=>pa j0 j0 j0 j0 (ldI ti38 j0 (idx_some q23).2.2 j0<|j4)),(fun _=>pa j0 j0 j0 j0 (ixI ti24 j0 ti38 j0 j0 j0 q23<|j4)),(fun _=>pa j0 j0 j0 j0 (mv j0<|j4)),(fun _=>pa j0 j0 j0 j0 (ld ti24 j0 j0<|j4)),(fun _=>pa j0 j0 j0 j0 (fa ti26 j0 j0 j0<|j4)),(fun h=>by cases h),(fun _=>pa j0 j0 j0 j0 (fa ti26 j0 j0 j0<|j4)),j5⟩ (by kernel_rfl) j0 ⟨(fun h=>by cases h),(fun h=>by cases h),(fun _ _=>⟨_,j0,j0,sto ti24 j0 j0 j0<|⟨.any,[],[],j0,j0,by kernel_rfl,j5,dt0 ⟨(fun h=>by cases h),(fun h=>by cases h),(fun h=>by cases h),(fun h=>by cases h),(fun h=>by cases h),(fun h=>by cases h),(fun h=>by cases h),(fun h=>by cases h),(fun h=>by cases h),j5⟩ (by kernel_rfl) j0 ⟨[.old 0,.old 1,.old 2,.old 3,.old 6],cv j0 (.mpt j0)<|cv j0 (.mpt j0)<|cv j0 (.mpt j0)<|ce j0 j0<|cn,j0,⟨⟨_,j0,rsOne ⟨ci j0,ci j0,ci j0,ci j0,ci j0,ci j0,j5⟩⟩,⟨_,j0,rsOne ⟨ci j0,ci j0,ci j0,ci j0,ci j0,ci j0,j5⟩⟩,⟨_,j0,rsOne ⟨ci j0,ci j0,ci j0,ci j0,.msl j0,.msl j0,j5⟩⟩,⟨_,j0,rsMap (fun _=>j0)⟩,⟨_,j0,rsMap (fun _=>j0)⟩,j5⟩,j0,j1⟩⟩⟩),j5⟩⟩⟩),(fun _ h=>by cases h),j5⟩⟩⟩),(fun _ h=>by cases h),(fun _ h=>by cases h),j5⟩) ?_
    refine rl j0<|u<|mv j0<|u<|add ti3 j0 j0<|u<|asg j0<|r_nil ?_
    obtain rfl:=sm h
    exact ⟨_,j0,[.old 0,.old 1,.old 2,.old 3,.old 4],cv j0 (.mpt j0)<|cv j0 (.mpt j0)<|cv j0 (.mpt j0)<|ce j0 j0<|cn,j0,⟨⟨_,j0,rsOne ⟨ci j0,ci j0,ci j0,ci j0,ci j0,ci j0,j5⟩⟩,⟨_,j0,rsOne ⟨ci j0,ci j0,ci j0,ci j0,ci j0,ci j0,j5⟩⟩,⟨_,j0,rsOne ⟨ci j0,ci j0,ci j0,ci j0,.msl j0,.msl j0,j5⟩⟩,⟨_,j0,rsMap (fun _=>j0)⟩,⟨_,j0,rsMap (fun _=>j0)⟩,j5⟩,j0,j1⟩
   ·
    replace h:=bF hc22 h
    refine sw_exit ?_
    obtain rfl:=sm h
    exact ⟨j0,_,j0,[.old 1,.old 2,.old 3,.old 4],cv j0 (.mpt j0)<|cv j0 (.mpt j0)<|cn,j0,⟨⟨_,j0,rsOne ⟨ci j0,ci j0,ci j0,ci j0,ci j0,ci j0,j5⟩⟩,⟨_,j0,rsOne ⟨ci j0,ci j0,ci j0,ci j0,.msl j0,.msl j0,j5⟩⟩,⟨_,j0,rsMap (fun _=>j0)⟩,⟨_,j0,rsMap (fun _=>j0)⟩,j5⟩,j0,j1⟩
  ·
   rintro v28 rfl
   replace h : law5_Cut_k4 v1 v2 v3 v4 v17 v28 = some r:=h
   unfold law5_Cut_k4 at h
   refine ow_intro ?_
   refine rg j0<|u<|ld ti26 j0 j0<|u<|sto ti26 j0 j0 j0<|r_nil ?_
   refine sw_ret ?_
   obtain rfl:=sm h
   exact ⟨_,j0,[],rsAgg ⟨ci j0,ci j0,ci j0,ci j0,(rsSeal j0 j0 (fun _=>j0)),(rsSeal j0 j0 (fun _=>j0)),j5⟩,j0,j5,j0,j1⟩
  ·
   rintro r' rfl env st hp
   obtain rfl:=sm h
   exact hp
 ·
  rintro r' rfl env st hp
  obtain rfl:=sm h
  exact hp
end
end Go.Proofs.YthmnlfenkhmmhaaGreat
namespace Go.Proofs.YthmnlfenkhmmhaaGreat
set_option linter.unusedSimpArgs false
set_option linter.unusedVariables false
set_option linter.unusedSectionVars false
def kin (v v' : Value) : Prop := v' = v ∨ (∃ n n', v = .int .i64 n ∧ v' = .int .i64 n') ∨ ∃ s s', v = .string s ∧ v' = .string s'
theorem kin.refl (v : Value) : kin v v := .inl rfl
theorem kin.trans {a b c : Value} (h : kin a b) (k : kin b c) : kin a c := by
  rcases h with rfl | ⟨n, n', rfl, rfl⟩ | ⟨n, n', rfl, rfl⟩
  · exact k
  · rcases k with rfl | ⟨m, m', h1, rfl⟩ | ⟨m, m', h1, rfl⟩
    · exact .inr (.inl ⟨_, _, rfl, rfl⟩)
    · exact .inr (.inl ⟨_, _, rfl, rfl⟩)
    · cases h1
  · rcases k with rfl | ⟨m, m', h1, rfl⟩ | ⟨m, m', h1, rfl⟩
    · exact .inr (.inr ⟨_, _, rfl, rfl⟩)
    · cases h1
    · exact .inr (.inr ⟨_, _, rfl, rfl⟩)
def KC (w w' : World) : Prop := ∀ B off v, w.cell? ⟨B, off, none⟩ = some v → ∃ v', w'.cell? ⟨B, off, none⟩ = some v' ∧ kin v v'
theorem kin_slice {a : Option Addr} {l c : Nat} {v : Value} (h : kin (.slice a l c) v) : v = .slice a l c := by
  rcases h with h | ⟨_, _, h, _⟩ | ⟨_, _, h, _⟩
  · exact h
  · cases h
  · cases h
theorem sK {D D' : Nat → Prop} {w w' : World} {s : List UInt8} {v v' : Value} (h : VI D w (sA s) v) (k : kin v v') : ∃ s', VI D' w' (sA s') v' := by
  cases h
  rcases k with rfl | ⟨_, _, h, _⟩ | ⟨a, b, _, rfl⟩
  · exact ⟨s, .lit _⟩
  · cases h
  · exact ⟨b.data.toList, .lit _⟩
theorem iK {D D' : Nat → Prop} {w w' : World} {n : Int} {v v' : Value} (h : VI D w (iA n) v) (k : kin v v') : ∃ n', VI D' w' (iA n') v' := by
  cases h
  rcases k with rfl | ⟨_, b, _, rfl⟩ | ⟨_, _, h, _⟩
  · exact ⟨n, .lit _⟩
  · exact ⟨b, .lit _⟩
  · cases h
theorem bK {D D' : Nat → Prop} {w w' : World} {b : Bool} {v v' : Value} (h : VI D w (bA b) v) (k : kin v v') : VI D' w' (bA b) v' := by
  cases h
  rcases k with rfl | ⟨_, _, h, _⟩ | ⟨_, _, h, _⟩
  · exact .lit _
  · cases h
  · cases h
def RowK {α : Type} (f : α → List AV) (k : Nat) (rel : α → α → Prop) : Prop :=
  (∀ x, (f x).length = k) ∧ ∀ (D : Nat → Prop) (w w' : World) (x : α) (vs vs' : Nat → Value), KC w w' → (∀ j (h : j < (f x).length), VI D w (f x)[j] (vs j)) → (∀ j, j < k → kin (vs j) (vs' j)) →
    ∃ x', rel x x' ∧ ∀ j (h : j < (f x').length), VI D w' (f x')[j] (vs' j)
theorem lK {α : Type} {f : α → List AV} {k : Nat} {rel : α → α → Prop} (hf : RowK f k rel) {D : Nat → Prop} {w w' : World} {xs : List α} {v v' : Value} (hw : KC w w') (h : VI D w (.isl k (xs.map f)) v) (hk : kin v v') :
    ∃ xs' : List α, VI D w' (.isl k (xs'.map f)) v' ∧ xs'.length = xs.length ∧ ∀ (i : Nat) x x', xs[i]? = some x → xs'[i]? = some x' → rel x x' := by
  generalize he : xs.map f = els at h
  cases h with
  | isl _ _ B o cap vs hA hcap hkk hc hv =>
    subst he
    have hlen : (xs.map f).length = xs.length := by simp
    rw [kin_slice hk]
    have step : ∀ i : _root_.Fin xs.length, ∃ x', rel xs[i] x' ∧ ∀ j (h : j < (f x').length), ∃ u, w'.cell? ⟨B, o + i * k + j, none⟩ = some u ∧ VI D w' (f x')[j] u := fun ⟨i, hi⟩ => by
      have hi' : i < (xs.map f).length := by rw [hlen]; exact hi
      have hcell : ∀ j, j < k → ∃ u, w'.cell? ⟨B, o + i * k + j, none⟩ = some u ∧ kin (vs i j) u := fun j hj => hw B _ _ (hc i j hi' hj)
      obtain ⟨x', h1, h2⟩ := hf.2 D w w' xs[i] (vs i) (fun j => (w'.cell? ⟨B, o + i * k + j, none⟩).getD undef) hw (fun j hj => by
        have h3 := hv i hi' j (by rw [List.getElem_map]; exact hj)
        have e : (xs.map f)[i] = f xs[i] := List.getElem_map ..
        have e2 : ((xs.map f)[i])[j]'(by rw [e]; exact hj) = (f xs[i])[j] := by simp only [e]
        rwa [e2] at h3) (fun j hj => by
        obtain ⟨u, h3, h4⟩ := hcell j hj
        simp only [h3, Option.getD_some]
        exact h4)
      refine ⟨x', h1, fun j hj => ?_⟩
      obtain ⟨u, h3, _⟩ := hcell j (by rw [← hf.1 x']; exact hj)
      have h5 := h2 j hj
      simp only [h3, Option.getD_some] at h5
      exact ⟨u, h3, h5⟩
    obtain ⟨g, hg⟩ := Classical.axiomOfChoice step
    have hl2 : ((List.ofFn g).map f).length = (xs.map f).length := by simp
    have := VI.isl (A := D) (w := w') k ((List.ofFn g).map f) B o cap (fun i j => (w'.cell? ⟨B, o + i * k + j, none⟩).getD undef) hA (by rw [hl2]; exact hcap)
      (fun i hi => by rw [List.getElem_map]; exact hf.1 _)
      (fun i j hi hj => by
        have hi2 : i < xs.length := by rw [hl2, hlen] at hi; exact hi
        obtain ⟨u, h3, _⟩ := (hg ⟨i, hi2⟩).2 j (by rw [hf.1]; exact hj)
        simp only [h3, Option.getD_some])
      (fun i hi j hj => by
        have hi2 : i < xs.length := by rw [hl2, hlen] at hi; exact hi
        have e : ((List.ofFn g).map f)[i] = f (g ⟨i, hi2⟩) := by simp
        have hj' : j < (f (g ⟨i, hi2⟩)).length := by rw [← e]; exact hj
        obtain ⟨u, h3, h4⟩ := (hg ⟨i, hi2⟩).2 j hj'
        have e2 : (((List.ofFn g).map f)[i])[j] = (f (g ⟨i, hi2⟩))[j] := by simp only [e]
        rw [e2]
        simp only [h3, Option.getD_some]
        exact h4)
    rw [hl2] at this
    refine ⟨List.ofFn g, this, by simp, fun i x x' h1 h2 => ?_⟩
    obtain ⟨hi, rfl⟩ := List.getElem?_eq_some_iff.1 h1
    obtain ⟨hi', rfl⟩ := List.getElem?_eq_some_iff.1 h2
    rw [List.getElem_ofFn]
    exact (hg ⟨i, hi⟩).1
  | inil a cap =>
    have : xs = [] := List.map_eq_nil_iff.1 he
    subst this
    rw [kin_slice hk]
    exact ⟨[], .inil _ _ _, rfl, fun i x x' h1 _ => by simp at h1⟩
theorem rStrK : RowK rStr 1 (fun _ _ => True) := ⟨fun _ => rfl, fun D w w' x vs vs' hw h hk => by
  obtain ⟨a, k0⟩ := sK (D' := D) (w' := w') (h 0 Nat.zero_lt_one) (hk 0 (by decide))
  exact ⟨a, trivial, fun j hj => match j, hj with | 0, _ => k0 | n + 1, hj => absurd (show n + 1 < 1 from hj) (by omega)⟩⟩
theorem rApiInsK : RowK rApiIns 4 (fun _ _ => True) := ⟨fun _ => rfl, fun D w w' x vs vs' hw h hk => by
  obtain ⟨a0, k0⟩ := iK (D' := D) (w' := w') (n := x.Op) (h 0 (by show 0 < 4; decide)) (hk 0 (by decide))
  obtain ⟨a1, k1⟩ := iK (D' := D) (w' := w') (n := x.A) (h 1 (by show 1 < 4; decide)) (hk 1 (by decide))
  obtain ⟨a2, k2⟩ := sK (D' := D) (w' := w') (s := x.C) (h 2 (by show 2 < 4; decide)) (hk 2 (by decide))
  obtain ⟨a3, k3⟩ := sK (D' := D) (w' := w') (s := x.M) (h 3 (by show 3 < 4; decide)) (hk 3 (by decide))
  exact ⟨⟨a0, a1, a2, a3⟩, trivial, fun j hj => match j, hj with | 0, _ => k0 | 1, _ => k1 | 2, _ => k2 | 3, _ => k3 | n + 4, hj => absurd (show n + 4 < 4 from hj) (by omega)⟩⟩
theorem rApiTrapK : RowK rApiTrap 4 (fun _ _ => True) := ⟨fun _ => rfl, fun D w w' x vs vs' hw h hk => by
  obtain ⟨a0, k0⟩ := iK (D' := D) (w' := w') (n := x.From) (h 0 (by show 0 < 4; decide)) (hk 0 (by decide))
  obtain ⟨a1, k1⟩ := iK (D' := D) (w' := w') (n := x.To) (h 1 (by show 1 < 4; decide)) (hk 1 (by decide))
  obtain ⟨a2, k2⟩ := iK (D' := D) (w' := w') (n := x.At) (h 2 (by show 2 < 4; decide)) (hk 2 (by decide))
  obtain ⟨a3, k3⟩ := sK (D' := D) (w' := w') (s := x.C) (h 3 (by show 3 < 4; decide)) (hk 3 (by decide))
  exact ⟨⟨a0, a1, a2, a3⟩, trivial, fun j hj => match j, hj with | 0, _ => k0 | 1, _ => k1 | 2, _ => k2 | 3, _ => k3 | n + 4, hj => absurd (show n + 4 < 4 from hj) (by omega)⟩⟩
theorem rApiFieldK : RowK rApiField 3 (fun _ _ => True) := ⟨fun _ => rfl, fun D w w' x vs vs' hw h hk => by
  obtain ⟨a0, k0⟩ := sK (D' := D) (w' := w') (s := x.Name) (h 0 (by show 0 < 3; decide)) (hk 0 (by decide))
  obtain ⟨a1, k1⟩ := sK (D' := D) (w' := w') (s := x.Type_) (h 1 (by show 1 < 3; decide)) (hk 1 (by decide))
  have k2 := bK (D' := D) (w' := w') (b := x.Static) (h 2 (by show 2 < 3; decide)) (hk 2 (by decide))
  exact ⟨⟨a0, a1, x.Static⟩, trivial, fun j hj => match j, hj with | 0, _ => k0 | 1, _ => k1 | 2, _ => k2 | n + 3, hj => absurd (show n + 3 < 3 from hj) (by omega)⟩⟩
theorem rApiMapK : RowK rApiMap 3 (fun _ _ => True) := ⟨fun _ => rfl, fun D w w' x vs vs' hw h hk => by
  obtain ⟨a0, k0⟩ := iK (D' := D) (w' := w') (n := x.At) (h 0 (by show 0 < 3; decide)) (hk 0 (by decide))
  obtain ⟨a1, k1, _⟩ := lK rStrK hw (xs := x.Locals) (h 1 (by show 1 < 3; decide)) (hk 1 (by decide))
  obtain ⟨a2, k2, _⟩ := lK rStrK hw (xs := x.Stack) (h 2 (by show 2 < 3; decide)) (hk 2 (by decide))
  exact ⟨⟨a0, a1, a2⟩, trivial, fun j hj => match j, hj with | 0, _ => k0 | 1, _ => k1 | 2, _ => k2 | n + 3, hj => absurd (show n + 3 < 3 from hj) (by omega)⟩⟩
theorem rApiMethodK : RowK rApiMethod 10 (fun m m' => m'.Code.length = m.Code.length) := ⟨fun _ => rfl, fun D w w' x vs vs' hw h hk => by
  obtain ⟨a0, k0⟩ := sK (D' := D) (w' := w') (s := x.Name) (h 0 (by show 0 < 10; decide)) (hk 0 (by decide))
  obtain ⟨a1, k1, _⟩ := lK rStrK hw (xs := x.Params) (h 1 (by show 1 < 10; decide)) (hk 1 (by decide))
  obtain ⟨a2, k2⟩ := sK (D' := D) (w' := w') (s := x.Ret) (h 2 (by show 2 < 10; decide)) (hk 2 (by decide))
  have k3 := bK (D' := D) (w' := w') (b := x.Static) (h 3 (by show 3 < 10; decide)) (hk 3 (by decide))
  have k4 := bK (D' := D) (w' := w') (b := x.Abstract) (h 4 (by show 4 < 10; decide)) (hk 4 (by decide))
  obtain ⟨a5, k5⟩ := iK (D' := D) (w' := w') (n := x.Locals) (h 5 (by show 5 < 10; decide)) (hk 5 (by decide))
  obtain ⟨a6, k6⟩ := iK (D' := D) (w' := w') (n := x.Stack) (h 6 (by show 6 < 10; decide)) (hk 6 (by decide))
  obtain ⟨a7, k7, e7, _⟩ := lK rApiInsK hw (xs := x.Code) (h 7 (by show 7 < 10; decide)) (hk 7 (by decide))
  obtain ⟨a8, k8, _⟩ := lK rApiMapK hw (xs := x.Maps) (h 8 (by show 8 < 10; decide)) (hk 8 (by decide))
  obtain ⟨a9, k9, _⟩ := lK rApiTrapK hw (xs := x.Traps) (h 9 (by show 9 < 10; decide)) (hk 9 (by decide))
  exact ⟨⟨a0, a1, a2, x.Static, x.Abstract, a5, a6, a7, a8, a9⟩, e7, fun j hj => match j, hj with | 0, _ => k0 | 1, _ => k1 | 2, _ => k2 | 3, _ => k3 | 4, _ => k4 | 5, _ => k5 | 6, _ => k6 | 7, _ => k7 | 8, _ => k8 | 9, _ => k9 | n + 10, hj => absurd (show n + 10 < 10 from hj) (by omega)⟩⟩
theorem KC_store {w : World} {b : Nat} {o : Nat} {u v : Value} (hc : w.cell? ⟨b, o, none⟩ = some u) (hk : kin u v) : KC w (w.setCells b o [v]) := fun B off x hx => by
  by_cases h : B = b ∧ off = o
  · obtain ⟨rfl, rfl⟩ := h
    have := World.cell?_setCells_in B [v] off w (fun j hj => by
      have : j = 0 := by simp at hj; exact hj
      subst this; simp [hc]) 0 (by simp)
    simp only [Nat.add_zero] at this
    refine ⟨_, this, ?_⟩
    rw [hc] at hx; cases hx
    exact hk
  · refine ⟨x, ?_, kin.refl _⟩
    rw [World.cell?_setCells_out b [v] o w _ (fun _ _ => by
      simp only [List.length_cons, List.length_nil]
      by_cases hb : B = b
      · subst hb
        have : off ≠ o := fun e => h ⟨rfl, e⟩
        simp; omega
      · simp_all)]
    exact hx
end Go.Proofs.YthmnlfenkhmmhaaGreat
namespace Go.Proofs.YthmnlfenkhmmhaaGreat
set_option linter.unusedSimpArgs false
set_option linter.unusedVariables false
set_option linter.unusedSectionVars false
structure Since (wS : World) (m : BM) (w : World) : Prop where
  size : wS.heap.size ≤ w.heap.size
  own : ∀ l b, m l = some b → b.has = true → wS.heap.size ≤ b.B
  fzS : fzLe wS w
theorem Since.step {wS : World} {A m nb w A' m' nb' w'} (h : Since wS m w) (hS : Step A m nb w A' m' nb' w') : Since wS m' w' :=
  ⟨Nat.le_trans h.size hS.size, fun l b hb hh => by
    rcases hS.mNew l b hb hh with h1 | ⟨l0, b0, h1, h2, h3⟩
    · exact Nat.le_trans h.size h1
    · exact h3 ▸ h.own l0 b0 h1 h2, h.fzS.trans hS.fzS⟩
def SWF (P : Program) (n nb0 : Nat) (wS : World) (c : Code) (Q : Exit → Ev → St → Prop) (env : Ev) (st : St) : Prop :=
  ∀ A m w a, Since wS m w → nb0 ≤ st.length → R A m w st → Env A m st.length w n env a → c.wp P (fun e a' w' => Onward A m nb0 w n (Q e) a' w') a w
theorem sw_of_swf {P : Program} {n nb0 : Nat} {c : Code} {Q : Exit → Ev → St → Prop} {env : Ev} (h : ∀ wS, SWF P n nb0 wS c Q env []) : SW P n nb0 c Q env [] := fun A m w a h0 hR hE =>
  h w A m w a ⟨Nat.le_refl _, fun l b hb _ => by obtain ⟨els, he⟩ := hR.live l b hb; simp at he, fzLe.refl w⟩ h0 hR hE
theorem swf_seq {P : Program} {n nb0 : Nat} {wS : World} {x y : Code} {Q : Exit → Ev → St → Prop} {env : Ev} {st : St} (h : SW P n nb0 x (thenQ (SWF P n nb0 wS y Q) Q) env st) : SWF P n nb0 wS (.seq x y) Q env st := by
  intro A m w a hF h0 hR hE
  refine wp_seq (wp_mono (h A m w a h0 hR hE) fun e a' w' ho => ?_)
  obtain ⟨A', m', e', s', h1, h2, h3, h4⟩ := ho
  cases e with
  | normal => exact wp_mono (h4 A' m' w' a' (hF.step h3) h3.nbLe h1 h2) fun _ _ _ k => k.trans h3
  | exit id => exact ⟨A', m', e', s', h1, h2, h3, h4⟩
  | goto l => exact ⟨A', m', e', s', h1, h2, h3, h4⟩
  | ret => exact ⟨A', m', e', s', h1, h2, h3, h4⟩
  | panic c => exact ⟨A', m', e', s', h1, h2, h3, h4⟩
  | outgrown => exact ⟨A', m', e', s', h1, h2, h3, h4⟩
structure Inv (D0 : Nat → Prop) (wS w0 w : World) : Prop where
  size : w0.heap.size ≤ w.heap.size
  heap : ∀ B, B < w0.heap.size → ¬ D0 B → w.heap[B]? = w0.heap[B]?
  kc : ∀ B, D0 B → ∀ off v, w0.cell? ⟨B, off, none⟩ = some v → ∃ v', w.cell? ⟨B, off, none⟩ = some v' ∧ kin v v'
  os : w.os = w0.os
  tape : w.tape = w0.tape
  output : w.output = w0.output
  fz0 : fzLe w0 w
  fzS : fzLe wS w
  sS : wS.heap.size ≤ w0.heap.size
  dS : ∀ B, D0 B → wS.heap.size ≤ B ∧ B < w0.heap.size
def Wt (D0 : Nat → Prop) (w0 : World) (B : Nat) : Prop := D0 B ∨ w0.heap.size ≤ B
structure Tw (D0 : Nat → Prop) (wS w0 : World) (n : Nat) (D : Nat → Prop) (m : BM) (w : World) (env : Ev) (st : St) (a : Act) : Prop where
  hD : ∀ B, D B → Wt D0 w0 B
  hm : ∀ l b, m l = some b → b.has = true → w0.heap.size ≤ b.B
  inv : Inv D0 wS w0 w
  hR : R D m w st
  hE : Env D m st.length w n env a
theorem Tw.step {D0 : Nat → Prop} {wS w0 : World} {n : Nat} {D : Nat → Prop} {m : BM} {w : World} {env : Ev} {st : St} {a : Act} (h : Tw D0 wS w0 n D m w env st a)
    {D' : Nat → Prop} {m' : BM} {w' : World} {env' : Ev} {st' : St} {a' : Act} {nb : Nat} (hS : Step D m nb w D' m' st'.length w') (hR : R D' m' w' st') (hE : Env D' m' st'.length w' n env' a') : Tw D0 wS w0 n D' m' w' env' st' a' := by
  have hheap : ∀ B, B < w0.heap.size → w'.heap[B]? = w.heap[B]? := fun B hB => hS.heap B (Nat.lt_of_lt_of_le hB h.inv.size) fun l b hb hh he => by
    have := h.hm l b hb hh; omega
  refine ⟨fun B hB => ?_, fun l b hb hh => ?_, ⟨Nat.le_trans h.inv.size hS.size, fun B hB hn => (hheap B hB).trans (h.inv.heap B hB hn), fun B hB off v hv => ?_, hS.os.trans h.inv.os, hS.tape.trans h.inv.tape, hS.output.trans h.inv.output,
    h.inv.fz0.trans hS.fzS, h.inv.fzS.trans hS.fzS, h.inv.sS, h.inv.dS⟩, hR, hE⟩
  · rcases hS.aNew B hB with h1 | h1 | ⟨l, b, h1, h2, h3⟩
    · exact h.hD B h1
    · exact .inr (Nat.le_trans h.inv.size h1)
    · exact .inr (h3 ▸ h.hm l b h1 h2)
  · rcases hS.mNew l b hb hh with h1 | ⟨l0, b0, h1, h2, h3⟩
    · exact Nat.le_trans h.inv.size h1
    · exact h3 ▸ h.hm l0 b0 h1 h2
  · rw [cell_of_heap (hheap B (h.inv.dS B hB).2)]
    exact h.inv.kc B hB off v hv
def TQ (D0 : Nat → Prop) (wS w0 : World) (n : Nat) (Z : Act → World → Prop) (Q : Exit → Ev → St → Prop) (e : Exit) (a : Act) (w : World) : Prop :=
  match e with
  | .ret => Z a w
  | e => ∃ D m env st, Tw D0 wS w0 n D m w env st a ∧ Q e env st
def TW (P : Program) (n : Nat) (D0 : Nat → Prop) (wS w0 : World) (Z : Act → World → Prop) (c : Code) (Q : Exit → Ev → St → Prop) (env : Ev) (st : St) : Prop :=
  ∀ D m w a, Tw D0 wS w0 n D m w env st a → c.wp P (TQ D0 wS w0 n Z Q) a w
section
variable {P : Program} {n : Nat} {D0 : Nat → Prop} {wS w0 : World} {Z : Act → World → Prop} {Q : Exit → Ev → St → Prop} {env : Ev} {st : St}
def noRet (Q : Exit → Ev → St → Prop) : Exit → Ev → St → Prop
  | .ret, _, _ => False
  | e, env, st => Q e env st
theorem tw_sw {c : Code} (h : SW P n 0 c (noRet Q) env st) : TW P n D0 wS w0 Z c Q env st := fun D m w a hT => by
  refine wp_mono (h D m w a (Nat.zero_le _) hT.hR hT.hE) fun e a' w' ⟨D', m', env', st', h1, h2, h3, h4⟩ => ?_
  have hT' := hT.step h3 h1 h2
  cases e with
  | ret => exact h4.elim
  | normal => exact ⟨D', m', env', st', hT', h4⟩
  | exit id => exact ⟨D', m', env', st', hT', h4⟩
  | goto l => exact ⟨D', m', env', st', hT', h4⟩
  | panic c => exact ⟨D', m', env', st', hT', h4⟩
  | outgrown => exact ⟨D', m', env', st', hT', h4⟩
theorem tw_seq {x y : Code} (h : TW P n D0 wS w0 Z x (thenQ (TW P n D0 wS w0 Z y Q) Q) env st) : TW P n D0 wS w0 Z (.seq x y) Q env st := fun D m w a hT => by
  refine wp_seq (wp_mono (h D m w a hT) fun e a' w' ho => ?_)
  cases e with
  | normal => obtain ⟨D', m', env', st', h1, h2⟩ := ho; exact h2 D' m' w' a' h1
  | ret => exact ho
  | exit id => exact ho
  | goto l => exact ho
  | panic c => exact ho
  | outgrown => exact ho
theorem tw_cond {c : Operand} {x y : Code} {b : Bool} (hc : ev env c = some (.lit (.bool b))) (ht : b = true → TW P n D0 wS w0 Z x Q env st) (hf : b = false → TW P n D0 wS w0 Z y Q env st) : TW P n D0 wS w0 Z (.cond c x y) Q env st := fun D m w a hT => by
  have h1 := (ev_sound hT.hE hc).lit_inv
  exact wp_cond_split h1 (fun h => ht h D m w a hT) (fun h => hf h D m w a hT)
theorem tw_block {id : Nat} {c : Code} (h : TW P n D0 wS w0 Z c (blockQ id Q) env st) : TW P n D0 wS w0 Z (.block id c) Q env st := fun D m w a hT => by
  refine wp_block (wp_mono (h D m w a hT) fun e a' w' ho => ?_)
  cases e with
  | exit id' =>
    obtain ⟨D', m', env', st', h1, h2⟩ := ho
    simp only [Exit.inBlock]
    simp only [blockQ] at h2
    split
    · rename_i hid; rw [if_pos hid] at h2; exact ⟨D', m', env', st', h1, h2⟩
    · rename_i hid; rw [if_neg hid] at h2; exact ⟨D', m', env', st', h1, h2⟩
  | normal => exact ho
  | ret => exact ho
  | goto l => exact ho
  | panic c => exact ho
  | outgrown => exact ho
theorem tw_loop {c : Code} (I : Nat → Ev → St → Prop) (k : Nat) (h0 : I k env st)
    (round : ∀ k env st, I k env st → TW P n D0 wS w0 Z c (thenQ (fun env st => ∃ k', k' < k ∧ I k' env st) Q) env st) : TW P n D0 wS w0 Z (.loop c) Q env st := fun D m w a hT => by
  refine wp_loop_n (fun k a' w' => ∃ D m env st, Tw D0 wS w0 n D m w' env st a' ∧ I k env st) (fun k a' w' ⟨D', m', e', s', h1, h2⟩ => ?_) k a w ⟨D, m, env, st, hT, h0⟩
  refine wp_mono (round k e' s' h2 D' m' w' a' h1) fun e a2 w2 ho => ?_
  cases e with
  | normal =>
    obtain ⟨D2, m2, e2, s2, k1, k', k2, k3⟩ := ho
    exact ⟨k', k2, D2, m2, e2, s2, k1, k3⟩
  | exit id => exact ho
  | goto l => exact ho
  | ret => exact ho
  | panic c => exact ho
  | outgrown => exact ho
def boxSt (c : ApiClass) : St := [some (6, [rApiClass c])]
def relC (c c' : ApiClass) : Prop := c'.Fields.length = c.Fields.length ∧ c'.Methods.length = c.Methods.length ∧ ∀ (i : Nat) x x', c.Methods[i]? = some x → c'.Methods[i]? = some x' → x'.Code.length = x.Code.length
theorem relC.trans {a b c : ApiClass} (h : relC a b) (k : relC b c) : relC a c := ⟨k.1.trans h.1, k.2.1.trans h.2.1, fun i x z hx hz => by
  have hi : i < b.Methods.length := by rw [h.2.1]; exact (List.getElem?_eq_some_iff.1 hx).1
  have hy : b.Methods[i]? = some b.Methods[i] := List.getElem?_eq_getElem hi
  exact (k.2.2 i _ z hy hz).trans (h.2.2 i x _ hx hy)⟩
theorem relC.refl (c : ApiClass) : relC c c := ⟨rfl, rfl, fun i x x' h h' => by rw [h] at h'; cases h'; rfl⟩
def fixed : AV → Prop
  | .lit _ => True
  | .mpt _ _ _ => True
  | _ => False
theorem tw_store1 {t : TypeId} {x v : Operand} {ti : TI} {k : Nat} {els : List (List AV)} {i j : Nat} {u xv : Value} {c : ApiClass} {env2 : Ev} {ty : TypeId} {pos : String} {aft : Array Edge} {next : Act → World → Prop} {Q' : Exit → Act → World → Prop}
    (ht : tiOf P t = some ti) (hsz : ti.size = 1) (hx : ev env x = some (.ipt k els i j)) (hu : (els[i]?.bind fun r => r[j]?) = some (.lit u)) (hv : ev env v = some (.lit xv)) (hk : (∃ p q, u = .int .i64 p ∧ xv = .int .i64 q) ∨ ∃ p q, u = .string p ∧ xv = .string q)
    (hst : st = boxSt c) (he : ∀ t av, look env2 t = some av → look env t = some av ∧ fixed av) {D : Nat → Prop} {m : BM} {w : World} {a : Act} (hT : Tw D0 wS w0 n D m w env st a)
    (hn : ∀ w' c', relC c c' → Tw D0 wS w0 n D m w' env2 (boxSt c') a → next a w') : Oper.wp P ⟨none, .store t x v, ty, pos, aft, none⟩ a w next Q' := by
  subst hst
  have hp := (ev_sound hT.hE hx).ipt_inv
  have hxv := (ev_sound hT.hE hv).lit_inv
  obtain ⟨row, hrow, hj⟩ : ∃ row, els[i]? = some row ∧ row[j]? = some (.lit u) := by
    cases h : els[i]? with
    | none => rw [h] at hu; cases hu
    | some row => rw [h] at hu; exact ⟨row, rfl, hu⟩
  obtain ⟨hi, rfl⟩ := List.getElem?_eq_some_iff.1 hrow
  obtain ⟨hj', hj2⟩ := List.getElem?_eq_some_iff.1 hj
  generalize hpv : a.eval x = pv at hp
  cases hp with
  | ipt _ _ _ _ B o vs hA hkk hc hvv =>
    have hjk : j < k := by rw [← hkk i hi]; exact hj'
    have hcell := hc i j hi hjk
    have hval := hvv i hi j hj'
    rw [hj2] at hval
    have hvs : vs i j = u := by cases hval; rfl
    rw [hvs] at hcell
    have hkin : kin u xv := .inr hk
    have hone : xv.oneCell' = true := by rcases hk with ⟨_, _, _, rfl⟩ | ⟨_, _, _, rfl⟩ <;> rfl
    have hcells : xv.cells.toList = [xv] := by rcases hk with ⟨_, _, _, rfl⟩ | ⟨_, _, _, rfl⟩ <;> rfl
    have hBS : wS.heap.size ≤ B := by
      rcases hT.hD B hA with h | h
      · exact (hT.inv.dS B h).1
      · exact Nat.le_trans hT.inv.sS h
    have hfz : fz w ⟨B, o + i * k + j, none⟩ = false := by
      cases h : fz w ⟨B, o + i * k + j, none⟩ with
      | false => rfl
      | true =>
        obtain ⟨⟨v0, h1⟩, _⟩ := hT.inv.fzS B _ _ hcell h
        exfalso
        unfold World.cell? at h1
        have : wS.heap[B]? = none := Array.getElem?_eq_none hBS
        simp only [this] at h1
        cases h1
    obtain ⟨w', hw'⟩ : ∃ w', w' = w.setCells B (o + i * k + j) [xv] := ⟨_, rfl⟩
    have hrun := run_storeCells_cells (P := P) B (o + i * k + j) xv.cells.toList 0 w
      (fun q hq => by rw [hcells] at hq; have : q = 0 := by simpa using hq
                      subst this; simp [hcell])
      (fun q hq => by rw [hcells] at hq; have : q = 0 := by simpa using hq
                      subst this; exact fz_frozen hfz)
      (fun z hz => by rw [hcells] at hz; simp at hz; subst hz; exact hone)
    simp only [Nat.add_zero, hcells] at hrun
    rw [← hw'] at hrun
    have hexec : (execOp a.eval { dst := none, op := .store t x v, type := ty, pos := pos, after := aft, guard := none }).run P w = .ok .skip w' := by
      have hso := run_sizeOf (P := P) w ht
      have hc1 : xv.cells.size = 1 := by
        have := congrArg List.length hcells
        simpa using this
      simp [execOp, hpv, hxv, Instr.storeAt, Instr.sureAddr, storeVar, hso, hsz, hc1, hcells, hrun]
    unfold Oper.wp
    rw [hexec]
    have hheap : ∀ B', B' ≠ B → w'.heap[B']? = w.heap[B']? := fun B' h => by rw [hw']; exact setCells_heap _ _ _ _ _ h
    have hKC : KC w w' := by rw [hw']; exact KC_store hcell hkin
    have hsize : w'.heap.size = w.heap.size := by rw [hw']; exact setCells_size _ _ _ _
    have hosw := setCells_os B [xv] (o + i * k + j) w
    rw [← hw'] at hosw
    have hfzw : fzLe w w' := by rw [hw']; exact fzLe_setCells _ _ _ _
    have hBD : ∀ l b, m l = some b → b.has = true → b.B ≠ B := fun l b hb hh => hT.hR.aOwn B l b hA hb hh
    obtain ⟨b, hb1, hb2, hb3, hb4⟩ := hT.hR.blk 0 6 [rApiClass c] rfl
    have hbh : b.has = true := by
      cases h : b.has with
      | true => rfl
      | false => have := hb4 h; cases this
    have hok := hb3 hbh
    have hbB := hBD 0 b hb1 hbh
    have hmp : b.mp = false := by
      cases h : b.mp with
      | false => rfl
      | true =>
        obtain ⟨h0, es, clock, h5, h6, h7⟩ := hok.mval h
        have := hok.wide 0 (by simp)
        rw [h0] at this
        cases this
    have hcellb : ∀ q, q < 6 → ∃ z, w.cell? ⟨b.B, b.o + 0 * b.k + q, none⟩ = some z ∧ V D m 1 w ((rApiClass c)[q]?.getD .any) z := fun q hq => by
      obtain ⟨z, h1, h2⟩ := hok.val hmp 0 (by simp) q (by show q < 6; exact hq)
      refine ⟨z, h1, ?_⟩
      have : (rApiClass c)[q]? = some ((rApiClass c)[q]'(by show q < 6; exact hq)) := List.getElem?_eq_getElem _
      rw [this]
      exact h2
    obtain ⟨z0, c0, q0⟩ := hcellb 0 (by decide)
    obtain ⟨z1, c1, q1⟩ := hcellb 1 (by decide)
    obtain ⟨z2, c2, q2⟩ := hcellb 2 (by decide)
    obtain ⟨z3, c3, q3⟩ := hcellb 3 (by decide)
    obtain ⟨z4, c4, q4⟩ := hcellb 4 (by decide)
    obtain ⟨z5, c5, q5⟩ := hcellb 5 (by decide)
    obtain ⟨im', k3, _⟩ := lK rStrK hKC (xs := c.Impl) (V.isl_inv (A := D) (m := m) (nb := 1) (w := w) q3) (kin.refl _)
    obtain ⟨fs', k4, l4, _⟩ := lK rApiFieldK hKC (xs := c.Fields) (V.isl_inv (A := D) (m := m) (nb := 1) (w := w) q4) (kin.refl _)
    obtain ⟨ms', k5, l5, r5⟩ := lK rApiMethodK hKC (xs := c.Methods) (V.isl_inv (A := D) (m := m) (nb := 1) (w := w) q5) (kin.refl _)
    have hbheap : w'.heap[b.B]? = w.heap[b.B]? := hheap _ hbB
    have hlit : ∀ {y z}, V D m 1 w (.lit y) z → V D m 1 w' (.lit y) z := fun {y z} h => by rw [h.lit_inv]; exact .imm (.lit _)
    refine hn w' { c with Impl := im', Fields := fs', Methods := ms' } ⟨l4, l5, r5⟩ ⟨hT.hD, hT.hm, ⟨by rw [hsize]; exact hT.inv.size, fun B' h1 h2 => ?_, fun B' h1 off z hz => ?_, hosw.1.trans hT.inv.os, hosw.2.1.trans hT.inv.tape, hosw.2.2.trans hT.inv.output,
      hT.inv.fz0.trans hfzw, hT.inv.fzS.trans hfzw, hT.inv.sS, hT.inv.dS⟩, ⟨fun B' hB' => by rw [hsize]; exact hT.hR.aLow B' hB', hT.hR.aOwn, hT.hR.inj, fun l b' hb' => ?_, fun l kk els' he' => ?_⟩, ⟨hT.hE.size, fun t' av ha => ?_, hT.hE.defers⟩⟩
    · rw [hheap B' (fun e => by
        subst e
        rcases hT.hD _ hA with h3 | h3
        · exact h2 h3
        · omega)]
      exact hT.inv.heap B' h1 h2
    · obtain ⟨z', h3, h4⟩ := hT.inv.kc B' h1 off z hz
      obtain ⟨z2, h5, h6⟩ := hKC B' off z' h3
      exact ⟨z2, h5, h4.trans h6⟩
    · obtain ⟨els', he'⟩ := hT.hR.live l b' hb'
      have hl0 : l = 0 := by
        have := (List.getElem?_eq_some_iff.1 he').1
        simpa [boxSt] using this
      subst hl0
      have hbb : b' = b := Option.some.inj (hb'.symm.trans hb1)
      subst hbb
      exact ⟨_, by rw [hb2]; rfl⟩
    · have hl0 : l = 0 := by
        have := (List.getElem?_eq_some_iff.1 he').1
        simpa [boxSt] using this
      subst hl0
      have he2 : (6, [rApiClass { c with Impl := im', Fields := fs', Methods := ms' }]) = (kk, els') := by
        have : some (some (6, [rApiClass { c with Impl := im', Fields := fs', Methods := ms' }])) = some (some (kk, els')) := he'
        exact Option.some.inj (Option.some.inj this)
      cases he2
      refine ⟨b, hb1, hb2, fun _ => ⟨by rw [hsize]; exact hok.low, fun hm' off ho => ?_, fun hm' off ho => ?_, hok.fit, fun i' hi' => ?_, fun hm' i' hi' j1 hj1 => ?_, fun hm' => ?_⟩, fun h => by rw [hbh] at h; cases h⟩
      · rw [cell_of_heap hbheap]; exact hok.there hm' off ho
      · rw [fz_of_heap hbheap]; exact hok.free hm' off ho
      · have : i' = 0 := by simpa using hi'
        subst this
        show 6 = b.k
        exact hb2.symm
      · have : i' = 0 := by simpa using hi'
        subst this
        simp only [cell_of_heap hbheap]
        have hj6 : j1 < 6 := hj1
        match j1, hj6, hj1 with
        | 0, _, _ => exact ⟨z0, c0, hlit q0⟩
        | 1, _, _ => exact ⟨z1, c1, hlit q1⟩
        | 2, _, _ => exact ⟨z2, c2, hlit q2⟩
        | 3, _, _ => exact ⟨z3, c3, .imm k3⟩
        | 4, _, _ => exact ⟨z4, c4, .imm k4⟩
        | 5, _, _ => exact ⟨z5, c5, .imm k5⟩
        | j + 6, h, _ => omega
      · rw [hmp] at hm'; cases hm'
    · obtain ⟨h1, h2⟩ := he t' av ha
      obtain ⟨h3, h4⟩ := hT.hE.val t' av h1
      refine ⟨h3, ?_⟩
      cases av with
      | lit y => rw [h4.lit_inv]; exact .imm (.lit _)
      | mpt l i j =>
        obtain ⟨h5, aa, h6, h7⟩ := h4.mpt_inv
        rw [h6]
        exact .mpt _ _ _ _ h5 h7
      | _ => exact h2.elim
theorem tw_store {id : Nat} {ops : Array Oper} {l1 : List Oper} {t : TypeId} {x v : Operand} {ty : TypeId} {pos : String} {aft : Array Edge} (hall : ops.toList = l1 ++ [⟨none, .store t x v, ty, pos, aft, none⟩])
    (hd : ops.toList.all (fun o => o.dst.all (· < n)) = true)
    (h : SR P n 0 ops.toList l1 [⟨none, .store t x v, ty, pos, aft, none⟩] (fun env1 st1 => ∃ ti k els i j u xv c env2, tiOf P t = some ti ∧ ti.size = 1 ∧ ev env1 x = some (.ipt k els i j) ∧ (els[i]?.bind fun r => r[j]?) = some (.lit u) ∧ ev env1 v = some (.lit xv) ∧
      ((∃ p q, u = .int .i64 p ∧ xv = .int .i64 q) ∨ ∃ p q, u = .string p ∧ xv = .string q) ∧ st1 = boxSt c ∧ (∀ t av, look env2 t = some av → look env1 t = some av ∧ fixed av) ∧ ∀ c', relC c c' → Q .normal env2 (boxSt c')) env st) :
    TW P n D0 wS w0 Z (.region id ops false) Q env st := by
  intro D m w a hT
  refine wp_region ?_
  have := h ops 0 rfl (by rw [hall]; rfl) hd D m w a (Nat.zero_le _) hT.hR hT.hE (TQ D0 wS w0 n Z Q) fun a' w' ⟨D', m', env1, st1, h1, h2, h3, hs⟩ => by
    obtain ⟨ti, k, els, i, j, u, xv, c, env2, s1, s2, s3, s4, s5, s6, s7, s8, s9⟩ := hs
    have hT' := hT.step h3 h1 h2
    have hop : ops[l1.length]? = some ⟨none, .store t x v, ty, pos, aft, none⟩ := by
      have : ops.toList[l1.length]? = some ⟨none, .store t x v, ty, pos, aft, none⟩ := by rw [hall]; simp
      simpa using this
    simp only [Nat.zero_add, List.length_singleton, List.range'_one, wpOps, hop]
    have hw : Region.wanted ⟨none, .store t x v, ty, pos, aft, none⟩ (yielded ops a'.tmps) = true := rfl
    rw [hw]
    simp only [if_true]
    exact .inl (tw_store1 s1 s2 s3 s4 s5 s6 s7 s8 hT' fun w2 c' hr hT2 => ⟨D', m', env2, boxSt c', hT2, s9 c' hr⟩)
  rw [List.range_eq_range', show ops.size = l1.length + 1 by have := congrArg List.length hall; simpa using this]
  simpa using this
end
end Go.Proofs.YthmnlfenkhmmhaaGreat
namespace Go.Proofs.YthmnlfenkhmmhaaGreat
set_option linter.unusedSimpArgs false
set_option linter.unusedVariables false
set_option linter.unusedSectionVars false
theorem R.kp {A D0 : Nat → Prop} {m : BM} {wS w0 w : World} {st : St} (hR : R A m w0 st) (hI : Inv D0 wS w0 w) (hown : ∀ B, D0 B → ∃ l b, m l = some b ∧ b.has = true ∧ b.B = B)
    (hrig : ∀ l b k els, m l = some b → b.has = true → D0 b.B → st[l]? = some (some (k, els)) → b.mp = false ∧ ∀ i (h : i < els.length) j (h' : j < els[i].length), ∃ v, els[i][j] = .lit v ∧ ∀ v', kin v v' → v' = v) :
    R A m w st ∧ Step A m st.length w0 A m st.length w := by
  have hS : Step A m st.length w0 A m st.length w := ⟨Nat.le_refl _, hI.size, fun _ h => h, fun _ h => .inl h, fun _ _ => .inl rfl, fun l b hb hh => .inr ⟨l, b, hb, hh, rfl⟩,
    fun B hB ho => hI.heap B hB fun hd => by obtain ⟨l, b, h1, h2, h3⟩ := hown B hd; exact ho l b h1 h2 h3, hI.os, hI.tape, hI.output, hI.fz0⟩
  refine ⟨⟨fun B hB => Nat.lt_of_lt_of_le (hR.aLow B hB) hI.size, hR.aOwn, hR.inj, hR.live, fun l k els he => ?_⟩, hS⟩
  obtain ⟨b, h1, h2, h3, h4⟩ := hR.blk l k els he
  refine ⟨b, h1, h2, fun hh => ?_, h4⟩
  have hok := h3 hh
  by_cases hd : D0 b.B
  · obtain ⟨hmp, hrg⟩ := hrig l b k els h1 hh hd he
    refine ⟨Nat.lt_of_lt_of_le hok.low hI.size, fun hm off ho => ?_, fun hm off ho => ?_, hok.fit, hok.wide, fun hm i hi j hj => ?_, fun hm => by rw [hmp] at hm; cases hm⟩
    · obtain ⟨v, hv⟩ := hok.there hm off ho
      obtain ⟨v', h5, _⟩ := hI.kc _ hd off v hv
      exact ⟨v', h5⟩
    · obtain ⟨v, hv⟩ := hok.there hm off ho
      obtain ⟨v', h5, _⟩ := hI.kc _ hd off v hv
      cases h : fz w ⟨b.B, off, none⟩ with
      | false => rfl
      | true =>
        have := (hI.fz0 _ _ _ h5 h).2
        rw [hok.free hm off ho] at this
        cases this
    · obtain ⟨v, hv, hV⟩ := hok.val hm i hi j hj
      obtain ⟨u, h5, h6⟩ := hrg i hi j hj
      rw [h5] at hV ⊢
      have := hV.lit_inv
      subst this
      obtain ⟨v', h7, h8⟩ := hI.kc _ hd _ v hv
      rw [h6 v' h8] at h7
      exact ⟨v, h7, .imm (.lit _)⟩
  · exact hok.keep hI.size (hI.heap _ hok.low hd) fun av v h => h.step hR hS
def litOf (vals : Nat → Value) (t : Nat) : AV → AV
  | .lit v => .lit v
  | _ => .lit (vals t)
def lits (vals : Nat → Value) : Ev → Ev
  | [] => []
  | (t, av) :: r => (t, litOf vals t av) :: lits vals r
theorem look_lits {vals : Nat → Value} {t : Nat} : ∀ {e : Ev} {x : AV}, look (lits vals e) t = some x → ∃ av, look e t = some av ∧ x = litOf vals t av
  | [], x, h => by cases h
  | (k, av) :: r, x, h => by
    simp only [lits, look] at h ⊢
    split at h
    · rename_i e; subst e; cases h
      exact ⟨av, by simp, rfl⟩
    · rename_i e
      rw [if_neg e]
      exact look_lits h
def onlyRet (Q : Exit → Ev → St → Prop) : Exit → Ev → St → Prop
  | .ret, env, st => Q .ret env st
  | _, _, _ => False
def never : Exit → Ev → St → Prop := fun _ _ _ => False
theorem tw_less {P : Program} {n : Nat} {D0 : Nat → Prop} {wS w0 : World} {Z : Act → World → Prop} {Q : Exit → Ev → St → Prop} {env env0 : Ev} {st : St} {c : Code} (he : ∀ t v, look env0 t = some v → look env t = some v) (h : TW P n D0 wS w0 Z c Q env0 st) : TW P n D0 wS w0 Z c Q env st :=
  fun D m w a hT => h D m w a ⟨hT.hD, hT.hm, hT.inv, hT.hR, ⟨hT.hE.size, fun t v ht => hT.hE.val t v (he t v ht), hT.hE.defers⟩⟩
theorem subE {env0 env : Ev} (h : ∀ p ∈ env0, look env p.1 = some p.2) : ∀ t v, look env0 t = some v → look env t = some v := fun t v ht => by
  induction env0 with
  | nil => cases ht
  | cons p r ih =>
    obtain ⟨k, x⟩ := p
    simp only [look] at ht
    split at ht
    · rename_i e; subst e; cases ht
      exact h (k, v) (by simp)
    · exact ih (fun p hp => h p (by simp [hp])) ht
def allE (env : Ev) : Ev → Prop
  | [] => True
  | p :: r => look env p.1 = some p.2 ∧ allE env r
theorem subA {env0 env : Ev} (h : allE env env0) : ∀ t v, look env0 t = some v → look env t = some v := subE fun p hp => by
  induction env0 with
  | nil => cases hp
  | cons q r ih =>
    rcases List.mem_cons.1 hp with rfl | hp
    · exact h.1
    · exact ih h.2 hp
theorem litOf_val {A : Nat → Prop} {m : BM} {nb : Nat} {w : World} {av : AV} {vals : Nat → Value} {t : Nat} (h : V A m nb w av (vals t)) {D : Nat → Prop} {m' : BM} {nb' : Nat} {w' : World} {v : Value} : V D m' nb' w' (litOf vals t av) v ↔ v = vals t := by
  constructor
  · intro hv
    cases av with
    | lit x => rw [hv.lit_inv]; exact h.lit_inv.symm
    | _ => exact hv.lit_inv
  · rintro rfl
    cases av with
    | lit x => rw [h.lit_inv]; exact .imm (.lit _)
    | _ => exact .imm (.lit _)
theorem swf_lend {P : Program} {n nb0 : Nat} {wS : World} {id : Nat} {ops : Array Oper} {y : Code} {Q : Exit → Ev → St → Prop} {env : Ev} {st : St} {l1 l2 : List Oper} {d : Nat} {fo arg : Operand} {at_ : Array TypeId} {ty : TypeId} {pos : String} {aft : Array Edge}
    {g : FuncId} {lb k : Nat} {rows : List (List AV)} {res : AV} {env2 : Ev} (hall : ops.toList = l1 ++ ⟨some d, .call ⟨.value fo, #[arg], at_⟩, ty, pos, aft, none⟩ :: l2) (hd : ops.toList.all (fun o => o.dst.all (· < n)) = true)
    (hp : PureC P g [.isl k rows] res) (hst : st[lb]? = some (some (k, rows))) (hpos : 0 < rows.length) (hrows : ∀ i (h : i < rows.length) j (h' : j < rows[i].length), ∃ v, rows[i][j] = .lit v ∧ ∀ v', kin v v' → v' = v)
    (h : SR P n nb0 ops.toList l1 (⟨some d, .call ⟨.value fo, #[arg], at_⟩, ty, pos, aft, none⟩ :: l2) (fun env1 st1 => st1 = st ∧ ev env1 fo = some (.fn (.func g) [] []) ∧ ev env1 arg = some (.msl lb 0 rows.length) ∧ ∀ t av, look env2 t = some av → look env1 t = some av) env st)
    (hin : ∀ (D0 : Nat → Prop) (w0 : World) (Z : Act → World → Prop) (vals : Nat → Value), (∀ c Q' env4 st4, (∀ t av, look env2 t = some av → look env4 t = some (litOf vals t av)) → SW P n nb0 c (onlyRet Q) env2 st → TW P n D0 wS w0 Z c Q' env4 st4) →
      SR P n 0 ops.toList l2 [] (fun env4 st4 => TW P n D0 wS w0 Z y never env4 st4) ((d, res) :: lits vals env2) []) :
    SWF P n nb0 wS (.seq (.region id ops false) y) Q env st := by
  intro A m w a hF h0 hR hE
  refine wp_seq (wp_region ?_)
  have := h ops 0 rfl (by rw [hall]; rfl) hd A m w a h0 hR hE (Exit.then (fun a' w' => y.wp P (fun e a' w' => Onward A m nb0 w n (Q e) a' w') a' w') (fun e a' w' => Onward A m nb0 w n (Q e) a' w')) fun a1 w1 ⟨A1, m1, env1, st1, h1, h2, h3, hs0, hf, ha, he2⟩ => by
    subst hs0
    have hF1 := hF.step h3
    have hop : ops[l1.length]? = some ⟨some d, .call ⟨.value fo, #[arg], at_⟩, ty, pos, aft, none⟩ := by
      have : ops.toList[l1.length]? = some ⟨some d, .call ⟨.value fo, #[arg], at_⟩, ty, pos, aft, none⟩ := by rw [hall]; simp
      simpa using this
    have hdn : d < n := by
      rw [List.all_eq_true] at hd
      simpa using hd ⟨some d, .call ⟨.value fo, #[arg], at_⟩, ty, pos, aft, none⟩ (by rw [hall]; simp)
    simp only [Nat.zero_add, List.length_cons, List.range'_succ, wpOps, hop]
    have hw : Region.wanted ⟨some d, .call ⟨.value fo, #[arg], at_⟩, ty, pos, aft, none⟩ (yielded ops a1.tmps) = true := rfl
    rw [hw]
    simp only [if_true]
    refine .inl ?_
    have hfv := ev_sound h2 hf
    obtain ⟨p, q, e, hpv, hqv⟩ := hfv.fn_inv
    have hav := ev_sound h2 ha
    have hp0 : p = #[] := Array.eq_empty_of_size_eq_zero hpv.1
    have hq0 : q = #[] := Array.eq_empty_of_size_eq_zero hqv.1
    subst hp0; subst hq0
    have hrun : (execOp a1.eval { dst := some d, op := .call { callee := .value fo, args := #[arg], argTypes := at_ }, type := ty, pos := pos, after := aft, guard := none }).run P w1 = .ok (.enter g (#[] ++ #[arg].map a1.eval ++ #[])) w1 := by
      have hce := callFunc_enter hp.1 (#[] ++ #[arg].map a1.eval ++ #[]) w1
      simp only [execOp, resolve, e, Deferred.ofValue, Sem.run_bind, Sem.run_pure, Result.andThen_ok, invoke]
      exact hce
    unfold Oper.wp
    rw [hrun]
    simp only [Oper.upon]
    obtain ⟨b, hb1, hb2, hb3, hb4⟩ := h1.blk lb k rows hst
    obtain ⟨hlt, ad, n', cap, hval, hbv⟩ := hav.msl_inv
    obtain ⟨hn', hcap, hor⟩ := hbv b hb1
    obtain ⟨hbh, hmp, hadr, htop⟩ : b.has = true ∧ b.mp = false ∧ ad = some ⟨b.B, b.o + 0 * b.k, none⟩ ∧ b.o + (0 + cap) * b.k ≤ b.top := by
      rcases hor with h | h
      · omega
      · exact h
    have hok := hb3 hbh
    subst hb2
    obtain ⟨D0, hD0⟩ : ∃ D0 : Nat → Prop, D0 = fun B => B = b.B := ⟨_, rfl⟩
    have hvi : VI D0 w1 (.isl b.k rows) (a1.eval arg) := by
      rw [hval, hadr, hn']
      have hcell : ∀ i j, i < rows.length → j < b.k → ∃ u, w1.cell? ⟨b.B, b.o + 0 * b.k + i * b.k + j, none⟩ = some u ∧ ∀ (h4 : i < rows.length) (h5 : j < rows[i].length), rows[i][j] = .lit u := fun i j hi hj => by
        have hj1 : j < rows[i].length := by rw [hok.wide i hi]; exact hj
        obtain ⟨u, h8, h9⟩ := hok.val hmp i hi j hj1
        refine ⟨u, by rw [← h8]; congr 2; omega, fun _ _ => ?_⟩
        obtain ⟨x, h10, _⟩ := hrows i hi j hj1
        rw [h10] at h9 ⊢
        rw [h9.lit_inv]
      refine VI.isl (A := D0) (w := w1) b.k rows b.B (b.o + 0 * b.k) cap (fun i j => (w1.cell? ⟨b.B, b.o + 0 * b.k + i * b.k + j, none⟩).getD undef) (by rw [hD0]) hcap hok.wide
        (fun i j hi hj => by obtain ⟨u, h8, _⟩ := hcell i j hi hj; simp only [h8, Option.getD_some])
        (fun i hi j hj => by
          obtain ⟨u, h8, h9⟩ := hcell i j hi (by rw [← hok.wide i hi]; exact hj)
          rw [h9 hi hj]
          simp only [h8, Option.getD_some]
          exact .lit _)
    refine (hp.2 D0 w1 _ (fun B hB => by rw [hD0] at hB; rw [hB]; exact hok.low) ⟨by simp, fun i hi => ?_⟩).mono fun e w2 ⟨v, he, hg, hv⟩ => ?_
    · have hi0 : i = 0 := by simpa using hi
      subst hi0
      simpa using hvi
    subst he
    obtain ⟨vals, hvals⟩ : ∃ vals : Nat → Value, vals = fun t => a1.tmps.getD t undef := ⟨_, rfl⟩
    have hv1 : ∀ t av, look env2 t = some av → t < n ∧ V A1 m1 st1.length w1 av (vals t) := fun t av ht => by
      rw [hvals]; exact h2.val t av (he2 t av ht)
    have hin' := hin D0 w1 (fun a' w' => Onward A m nb0 w n (Q .ret) a' w') vals ?_
    · have hRi : R (andNew D0 w1 w2) (fun _ => none) w2 [] := ⟨fun B hB => by
        rcases hB with h | h
        · rw [hD0] at h; rw [h]; exact Nat.lt_of_lt_of_le hok.low hg.size
        · exact h.2, (fun _ _ _ _ h => (by cases h)), (fun _ _ _ _ h => (by cases h)), (fun _ _ h => (by cases h)), (fun _ _ _ h => (by simp at h))⟩
      have hEi : Env (andNew D0 w1 w2) (fun _ => none) 0 w2 n ((d, res) :: lits vals env2) (a1.put (some d) v) := by
        refine Env.put (v := v) ⟨h2.size, fun t x hx => ?_, h2.defers⟩ hdn (.imm hv)
        obtain ⟨av, h4, rfl⟩ := look_lits hx
        obtain ⟨h5, h6⟩ := hv1 t av h4
        exact ⟨h5, (litOf_val h6).2 (by rw [hvals])⟩
      have hTi : Tw D0 wS w1 n (andNew D0 w1 w2) (fun _ => none) w2 ((d, res) :: lits vals env2) [] (a1.put (some d) v) := by
        refine ⟨fun B hB => hB.imp (fun h => h) (fun h => h.1), (fun l b hb => (by cases hb)), ⟨hg.size, fun B hB _ => hg.heap B hB, fun B hB off x hx => ⟨x, ?_, kin.refl _⟩, hg.os, hg.tape, hg.output, hg.fzS, hF1.fzS.trans hg.fzS, hF1.size, fun B hB => ?_⟩, hRi, hEi⟩
        · rw [hD0] at hB
          rw [cell_of_heap (hg.heap B (by rw [hB]; exact hok.low))]
          exact hx
        · rw [hD0] at hB
          rw [hB]
          exact ⟨hF1.own lb b hb1 hbh, hok.low⟩
      have := hin' ops (l1.length + 1) rfl (by rw [hall, List.append_nil, ← List.drop_drop]; simp) hd _ _ w2 (a1.put (some d) v) (Nat.zero_le _) hRi hEi
        (Exit.then (fun a' w' => y.wp P (fun e a' w' => Onward A m nb0 w n (Q e) a' w') a' w') (fun e a' w' => Onward A m nb0 w n (Q e) a' w')) fun a3 w3 ⟨D3, m3, env3, st3, k1, k2, k3, k4⟩ => by
        simp only [List.length_nil, List.range'_zero, wpOps]
        refine wp_mono (k4 D3 m3 w3 a3 (hTi.step k3 k1 k2)) fun e a' w' ho => ?_
        cases e with
        | ret => exact ho
        | normal => obtain ⟨_, _, _, _, _, h⟩ := ho; exact h.elim
        | exit id => obtain ⟨_, _, _, _, _, h⟩ := ho; exact h.elim
        | goto l => obtain ⟨_, _, _, _, _, h⟩ := ho; exact h.elim
        | panic c => obtain ⟨_, _, _, _, _, h⟩ := ho; exact h.elim
        | outgrown => obtain ⟨_, _, _, _, _, h⟩ := ho; exact h.elim
      simpa using this
    · intro c Q' env4 st4 hlk hsw D m4 w4 a4 hT
      obtain ⟨hR4, hS4⟩ := R.kp h1 hT.inv (fun B hB => by rw [hD0] at hB; exact ⟨lb, b, hb1, hbh, hB.symm⟩) (fun l b' k' els hb' hh' hB hel => by
        rw [hD0] at hB
        have hll : l = lb := h1.inj l lb b' b hb' hb1 hh' hbh hB
        subst hll
        have hbb : b' = b := Option.some.inj (hb'.symm.trans hb1)
        subst hbb
        rw [hst] at hel
        have hel' := Option.some.inj (Option.some.inj hel)
        cases hel'
        exact ⟨hmp, hrows⟩)
      have hE4 : Env A1 m1 st1.length w4 n env2 a4 := ⟨hT.hE.size, fun t av ht => by
        obtain ⟨h5, h6⟩ := hT.hE.val t _ (hlk t av ht)
        obtain ⟨_, h7⟩ := hv1 t av ht
        have h8 := (litOf_val h7).1 h6
        refine ⟨h5, ?_⟩
        rw [h8]
        exact h7.step h1 hS4, hT.hE.defers⟩
      refine wp_mono (hsw A1 m1 w4 a4 h3.nbLe hR4 hE4) fun e a' w' ho => ?_
      cases e with
      | ret => exact (ho.trans (hS4.weak h3.nbLe)).trans h3
      | normal => obtain ⟨_, _, _, _, _, _, _, h⟩ := ho; exact h.elim
      | exit id => obtain ⟨_, _, _, _, _, _, _, h⟩ := ho; exact h.elim
      | goto l => obtain ⟨_, _, _, _, _, _, _, h⟩ := ho; exact h.elim
      | panic c => obtain ⟨_, _, _, _, _, _, _, h⟩ := ho; exact h.elim
      | outgrown => obtain ⟨_, _, _, _, _, _, _, h⟩ := ho; exact h.elim
  rw [List.range_eq_range', show ops.size = l1.length + (l2.length + 1) by have := congrArg List.length hall; simpa using this]
  simpa using this
end Go.Proofs.YthmnlfenkhmmhaaGreat
namespace Go.Proofs.YthmnlfenkhmmhaaGreat
set_option linter.unusedSimpArgs false
set_option linter.unusedVariables false
set_option maxRecDepth 100000
set_option maxHeartbeats 4000000
theorem byteRows_rigid {l : List UInt8} : ∀ i (h : i < (List.map byteRow l).length) j (h' : j < ((List.map byteRow l)[i]).length), ∃ v, ((List.map byteRow l)[i])[j] = .lit v ∧ ∀ v', kin v v' → v' = v := fun i h j h' => by
  have e : (List.map byteRow l)[i] = byteRow (l[i]'(by simpa using h)) := List.getElem_map ..
  have hj : j = 0 := by
    rw [e] at h'
    simpa [byteRow] using h'
  subst hj
  refine ⟨.int .u8 ((l[i]'(by simpa using h)).toNat : Int), by simp [byteRow], fun v' hk => ?_⟩
  rcases hk with h | ⟨_, _, h, _⟩ | ⟨_, _, h, _⟩
  · exact h
  · cases h
  · cases h
theorem wrap_up {i : Nat} (h : i < 1000) : IntKind.i64.wrap ((i : Int) + 1) = ((i + 1 : Nat) : Int) := by
  have e : IntKind.i64.wrap ((i : Int) + 1) = (i : Int) + 1 := IntWalk.i64_in _ ⟨by omega, by omega⟩
  rw [e]; omega
theorem blockQ_exit {id : Nat} {Q : Exit → Ev → St → Prop} {env : Ev} {st : St} (h : Q .normal env st) : blockQ id Q (.exit id) env st := by
  unfold blockQ; simp only [if_true]; exact h
def allL (vals : Nat → Value) (env : Ev) : Ev → Prop
  | [] => True
  | p :: r => look env p.1 = some (litOf vals p.1 p.2) ∧ allL vals env r
theorem subLit {vals : Nat → Value} {env : Ev} : ∀ {env0 : Ev}, allL vals env env0 → ∀ t av, look env0 t = some av → look env t = some (litOf vals t av)
  | [], _, _, _, h => by cases h
  | (k, x) :: r, h, t, av, ht => by
    simp only [look] at ht
    split at ht
    · rename_i e; subst e; cases ht; exact h.1
    · exact subLit h.2 t av ht
theorem thenQ_exit {id : Nat} {K : Ev → St → Prop} {Q : Exit → Ev → St → Prop} {env : Ev} {st : St} (h : Q (.exit id) env st) : thenQ K Q (.exit id) env st := h
theorem tw_exit {P : Program} {n : Nat} {D0 : Nat → Prop} {wS w0 : World} {Z : Act → World → Prop} {Q : Exit → Ev → St → Prop} {env : Ev} {st : St} {id : Nat} (h : Q (.exit id) env st) : TW P n D0 wS w0 Z (.exit id) Q env st :=
  fun D m w a hT => wp_exit ⟨D, m, env, st, hT, h⟩
theorem tw_st {P : Program} {n : Nat} {D0 : Nat → Prop} {wS w0 : World} {Z : Act → World → Prop} {Q : Exit → Ev → St → Prop} {env : Ev} {st : St} {c : Code} (st0 : St) (e : st = st0) (h : TW P n D0 wS w0 Z c Q env st0) : TW P n D0 wS w0 Z c Q env st := by
  subst e; exact h
def small (c : ApiClass) : Prop := c.Methods.length < 1000 ∧ c.Fields.length ≤ 1000 ∧ ∀ m ∈ c.Methods, m.Code.length ≤ 1000
def allF : Ev → Prop
  | [] => True
  | p :: r => fixed p.2 ∧ allF r
theorem fixedL : ∀ {e : Ev}, allF e → ∀ t av, look e t = some av → fixed av
  | [], _, _, _, h => by cases h
  | (k, x) :: r, h, t, av, ht => by
    simp only [look] at ht
    split at ht
    · cases ht; exact h.1
    · exact fixedL h.2 t av ht
noncomputable def law6_FileSame_j1 (v9 : Bool) : Option (Bool) :=
  some v9
noncomputable def law6_FileSame (v1 : ApiClass) (v2 : Int) : Option (Bool) :=
  (law6_begun).bind fun v3 => cond (!v3) (some false) ((law5_Cut v1).bind fun v4 => (file_Encode v4).bind fun v5 => cond (((List.length v5) : Int) == (0 : Int)) (some true) ((file_Decode v5).bind fun v6 => cond (v6.2 == (0 : Int)) ((ref3_EqClass v6.1 v4).bind fun v7 => cond v7 ((file_Encode v4).bind fun v8 => law6_FileSame_j1 (v8 == v5)) (law6_FileSame_j1 false)) (law6_FileSame_j1 false)))
theorem law6_FileSame_ok (v1 : ApiClass) (v2 : Int) {r : Bool} (hbd : ∀ v4 v5 v6, law5_Cut v1 = some v4 → file_Encode v4 = some v5 → file_Decode v5 = some v6 → small v6.1) (h : law6_FileSame v1 v2 = some r) : PureC Tryz.prog 3 [.agg [sA v1.Name, sA v1.Super, bA v1.Interface, .isl 1 (List.map rStr v1.Impl), .isl 3 (List.map rApiField v1.Fields), .isl 10 (List.map rApiMethod v1.Methods)], iA v2] (bA r) := by
 refine pure_fn Tryz.func3 rfl (by kernel_rfl) rfl rfl ?_
 unfold law6_FileSame at h
 refine sw_of_swf fun wS => ?_
 refine swf_seq (rl rfl <| u <| bx 0 6 rfl rfl rfl rfl <| u <| asg rfl <| r_nil ?_)
 obtain ⟨v3, q1, h⟩ := bs h
 refine swf_seq (rl rfl <| u <| pc (law6_begun_ok q1) rfl rfl rfl <| u <| asg rfl <| r_nil ?_)
 refine swf_seq ?_
 refine rg rfl <| u <| mv rfl <| u <| nt rfl <| r_nil ?_
 refine sw_cond rfl (fun hc2 => ?_) (fun hc2 => ?_)
 ·
  replace h := bT hc2 h
  refine rg rfl <| u <| asg rfl <| r_nil ?_
  refine sw_ret ?_
  obtain rfl := sm h
  exact ⟨_, rfl, [], ci rfl, rfl, trivial, rfl, Nat.le_of_ble_eq_true rfl⟩
 ·
  replace h := bF hc2 h
  refine sw_skip ?_
  obtain ⟨v4, q3, h⟩ := bs h
  refine swf_seq (rl rfl <| u <| ld ti26 rfl rfl <| u <| pc (law5_Cut_ok v1 q3) rfl rfl rfl <| u <| sto ti26 rfl rfl rfl <| r_nil ?_)
  obtain ⟨v5, q4, h⟩ := bs h
  refine swf_seq (rl rfl <| u <| ld ti26 rfl rfl <| u <| sc [] (file_Encode_ok v4 q4) rfl rfl rfl rfl ⟨(rnI rfl), trivial⟩ trivial <| r_can (env0 := [(1, iA v2), (2, .mpt 0 0 0), (19, .msl 1 0 (List.length v5))]) (st0 := [some (6, [[sA v4.Name, sA v4.Super, bA v4.Interface, .isl 1 (List.map rStr v4.Impl), .isl 3 (List.map rApiField v4.Fields), .isl 10 (List.map rApiMethod v4.Methods)]]), some (1, List.map byteRow v5)]) ⟨[.old 0, .old 1], ce rfl rfl <| cv rfl (.mpt rfl) <| cv rfl (.msl rfl) <| cn, rfl, ⟨⟨_, rfl, rsOne ⟨ci rfl, ci rfl, ci rfl, ci rfl, ci rfl, ci rfl, trivial⟩⟩, ⟨_, rfl, rsMap (fun _ => rfl)⟩, trivial⟩, rfl, Nat.le_of_ble_eq_true rfl⟩ <| u <| asg rfl <| r_nil ?_)
  refine swf_seq ?_
  refine rg rfl <| u <| mv rfl <| u <| lnM ti29 rfl rfl rfl <| u <| eql ti3 rfl rfl <| r_nil ?_
  refine sw_cond rfl (fun hc5 => ?_) (fun hc5 => ?_)
  ·
   replace h := bT hc5 h
   refine rg rfl <| u <| asg rfl <| r_nil ?_
   refine sw_ret ?_
   obtain rfl := sm h
   exact ⟨_, rfl, [], ci rfl, rfl, trivial, rfl, Nat.le_of_ble_eq_true rfl⟩
  ·
   replace h := bF hc5 h
   refine sw_skip ?_
   obtain ⟨v6, q6, h⟩ := bs h
   have hne : 0 < v5.length := by
     rcases Nat.eq_zero_or_pos v5.length with h0 | h0
     · rw [h0] at hc5; cases hc5
     · exact h0
   have hsm := hbd v4 v5 v6 q3 q4 q6
   refine swf_lend (l1 := [_]) (l2 := [_, _, _, _, _, _]) (lb := 1) (k := 1) (env2 := [(1, iA v2), (2, .mpt 0 0 0), (6, .msl 1 0 (List.length v5))]) rfl rfl (file_Decode_ok v5 q6) rfl (by simpa using hne) byteRows_rigid
     (u <| mv rfl <| r_nil ⟨rfl, rfl, congrArg (fun n => some (AV.msl 1 0 n)) (List.length_map byteRow).symm, subA (by exact ⟨rfl, rfl, rfl, trivial⟩)⟩) ?_
   intro D0 w0 Z vals hout
   refine u <| mv rfl <| u <| ex rfl rfl <| u <| ex rfl rfl <| u <| al 0 ti26 rfl <| u <| sto ti26 rfl rfl rfl <| u <| asg rfl <| r_nil ?_
   refine tw_less (env0 := [(1, iA v2), (2, .lit (vals 2)), (6, .lit (vals 6)), (7, .mpt 0 0 0), (8, iA v6.2)]) (subA (by exact ⟨rfl, rfl, rfl, rfl, rfl, trivial⟩)) ?_
   refine tw_seq ?_
   refine tw_seq (tw_sw (rl rfl <| u <| mv rfl <| u <| neq ti31 rfl rfl <| r_nil ?_))
   refine tw_cond rfl (fun hc7 => ?_) (fun hc7 => ?_)
   ·
    have h7 : (v6.2 == (0 : Int)) = false := by simpa using hc7
    replace h := bF h7 h
    refine hout _ _ _ _ (subLit (by exact ⟨rfl, rfl, rfl, trivial⟩)) ?_
    refine rg rfl <| u <| asg rfl <| r_nil ?_
    refine sw_ret ?_
    obtain rfl := sm h
    exact ⟨_, rfl, [], ci rfl, rfl, trivial, rfl, Nat.le_of_ble_eq_true rfl⟩
   ·
    refine tw_sw (sw_skip ?_)
    refine tw_less (env0 := [(1, iA v2), (2, .lit (vals 2)), (6, .lit (vals 6)), (7, .mpt 0 0 0)]) (subA (by exact ⟨rfl, rfl, rfl, rfl, trivial⟩)) ?_
    refine tw_seq ?_
    refine tw_st (boxSt v6.1) rfl ?_
    refine tw_seq (tw_sw (rl rfl <| u <| fa ti26 rfl rfl rfl <| u <| ld ti24 rfl rfl <| u <| lnI ti24 rfl rfl <| u <| mv rfl <| r_nil ?_))
    refine tw_block ?_
    refine tw_loop (fun k env st => ∃ (c : ApiClass) (i : Nat), relC v6.1 c ∧ i ≤ v6.1.Methods.length ∧ k = v6.1.Methods.length - i ∧ (∀ t v, look [(1, iA v2), (2, .lit (vals 2)), (6, .lit (vals 6)), (7, .mpt 0 0 0), (32, iA (v6.1.Methods.length : Nat)), (33, iA (i : Nat))] t = some v → look env t = some v) ∧ st = boxSt c) _ ⟨v6.1, 0, relC.refl _, Nat.zero_le _, rfl, subA (by exact ⟨rfl, rfl, rfl, rfl, rfl, rfl, trivial⟩), rfl⟩ ?_
    rintro k env st ⟨c, i, hr, hi, rfl, he, rfl⟩
    refine tw_less he ?_
    refine tw_seq (tw_sw (rl rfl <| u <| lss ti3 rfl rfl <| r_nil ?_))
    refine tw_seq ?_
    refine tw_cond rfl (fun hc => ?_) (fun hc => ?_)
    ·
     refine tw_sw (sw_skip ?_)
     have hlt : i < v6.1.Methods.length := by simpa using hc
     have hlc : i < c.Methods.length := by rw [hr.2.1]; exact hlt
     obtain ⟨mt, hmt⟩ : ∃ mt, c.Methods[i]? = some mt := ⟨_, List.getElem?_eq_getElem hlc⟩
     have hix : idx c.Methods (i : Nat) = some mt := by unfold idx; rw [if_pos (by omega)]; simpa using hmt
     have hcb : mt.Code.length ≤ 1000 := by
       have h1 : v6.1.Methods[i]? = some v6.1.Methods[i] := List.getElem?_eq_getElem hlt
       rw [hr.2.2 i _ mt h1 hmt]
       exact hsm.2.2 _ (List.getElem_mem hlt)
     refine tw_seq ?_
     refine tw_block ?_
     refine tw_seq (tw_sw (rl rfl <| u <| mv rfl <| u <| asg rfl <| r_nil ?_))
     refine tw_seq ?_
     refine tw_seq (tw_sw (rl rfl <| u <| fa ti26 rfl rfl rfl <| u <| ld ti24 rfl rfl <| u <| mv rfl <| u <| ixI ti24 rfl ti38 rfl rfl rfl hix <| u <| fa ti38 rfl rfl rfl <| u <| ldI ti34 rfl (idx_some hix).2.2 rfl <| u <| lnI ti34 rfl rfl <| u <| mv rfl <| r_nil ?_))
     refine tw_block ?_
     refine tw_loop (fun k env st => ∃ (c' : ApiClass) (q : Nat), relC c c' ∧ q ≤ mt.Code.length ∧ k = mt.Code.length - q ∧ (∀ t v, look [(1, iA v2), (2, .lit (vals 2)), (6, .lit (vals 6)), (7, .mpt 0 0 0), (32, iA (v6.1.Methods.length : Nat)), (33, iA (i : Nat)), (9, iA (i : Nat)), (42, iA (mt.Code.length : Nat)), (43, iA (q : Nat))] t = some v → look env t = some v) ∧ st = boxSt c') _ ⟨c, 0, relC.refl _, Nat.zero_le _, rfl, subA (by exact ⟨rfl, rfl, rfl, rfl, rfl, rfl, rfl, rfl, rfl, trivial⟩), rfl⟩ ?_
     rintro k env st ⟨c', q, hr', hq, rfl, he', rfl⟩
     refine tw_less he' ?_
     obtain ⟨mt', hmt'⟩ : ∃ mt', c'.Methods[i]? = some mt' := ⟨_, List.getElem?_eq_getElem (by rw [hr'.2.1]; exact hlc)⟩
     have hix' : idx c'.Methods (i : Nat) = some mt' := by unfold idx; rw [if_pos (by omega)]; simpa using hmt'
     refine tw_seq (tw_sw (rl rfl <| u <| lss ti3 rfl rfl <| r_nil ?_))
     refine tw_seq ?_
     refine tw_cond rfl (fun hc2 => ?_) (fun hc2 => ?_)
     ·
      refine tw_sw (sw_skip ?_)
      have hlt2 : q < mt.Code.length := by simpa using hc2
      have hcl : mt'.Code.length = mt.Code.length := hr'.2.2 i mt mt' hmt hmt'
      obtain ⟨x, hx⟩ : ∃ x, mt'.Code[q]? = some x := ⟨_, List.getElem?_eq_getElem (by rw [hcl]; exact hlt2)⟩
      have hxi : idx mt'.Code (q : Nat) = some x := by unfold idx; rw [if_pos (by omega)]; simpa using hx
      refine tw_seq ?_
      refine tw_block ?_
      refine tw_seq (tw_sw (rl rfl <| u <| mv rfl <| u <| asg rfl <| r_nil ?_))
      refine tw_store (l1 := [_, _, _, _, _, _, _, _, _, _]) rfl rfl (u <| fa ti26 rfl rfl rfl <| u <| ld ti24 rfl rfl <| u <| mv rfl <| u <| ixI ti24 rfl ti38 rfl rfl rfl hix' <| u <| fa ti38 rfl rfl rfl <| u <| ldI ti34 rfl (idx_some hix').2.2 rfl <| u <| mv rfl <| u <| mv rfl <| u <| ixI ti34 rfl ti40 rfl rfl rfl hxi <| u <| fa ti40 rfl rfl rfl <| r_nil
        ⟨_, 4, mt'.Code.map rApiIns, q, 1, .int .i64 x.A, .int .i64 v2, c', [(1, iA v2), (2, .lit (vals 2)), (6, .lit (vals 6)), (7, .mpt 0 0 0), (32, iA (v6.1.Methods.length : Nat)), (33, iA (i : Nat)), (9, iA (i : Nat)), (42, iA (mt.Code.length : Nat)), (43, iA (q : Nat))], ti3, rfl, rfl, by rw [List.getElem?_map, hx]; rfl, rfl, .inl ⟨_, _, rfl, rfl⟩, rfl, fun t av ht => ⟨subA (by exact ⟨rfl, rfl, rfl, rfl, rfl, rfl, rfl, rfl, rfl, trivial⟩) t av ht, fixedL (by exact ⟨trivial, trivial, trivial, trivial, trivial, trivial, trivial, trivial, trivial, trivial⟩) t av ht⟩, fun c2 hr2 => ?_⟩)
      refine tw_sw (rl rfl <| u <| add ti3 rfl rfl <| u <| mv rfl <| r_nil ?_)
      refine ⟨mt.Code.length - (q + 1), by omega, c2, q + 1, hr'.trans hr2, hlt2, rfl, subA (by exact ⟨rfl, rfl, rfl, rfl, rfl, rfl, rfl, rfl, congrArg (fun z => some (iA z)) (wrap_up (by omega)), trivial⟩), rfl⟩
     ·
      refine tw_exit (thenQ_exit (thenQ_exit (blockQ_exit ?_)))
      refine tw_store (l1 := [_, _, _, _, _]) rfl rfl (u <| fa ti26 rfl rfl rfl <| u <| ld ti24 rfl rfl <| u <| mv rfl <| u <| ixI ti24 rfl ti38 rfl rfl rfl hix' <| u <| fa ti38 rfl rfl rfl <| r_nil
        ⟨_, 10, c'.Methods.map rApiMethod, i, 0, .string (B mt'.Name), .string (B [122, 122]), c', [(1, iA v2), (2, .lit (vals 2)), (6, .lit (vals 6)), (7, .mpt 0 0 0), (32, iA (v6.1.Methods.length : Nat)), (33, iA (i : Nat))], ti9, rfl, rfl, by rw [List.getElem?_map, hmt']; rfl, rfl, .inr ⟨_, _, rfl, rfl⟩, rfl, fun t av ht => ⟨subA (by exact ⟨rfl, rfl, rfl, rfl, rfl, rfl, trivial⟩) t av ht, fixedL (by exact ⟨trivial, trivial, trivial, trivial, trivial, trivial, trivial⟩) t av ht⟩, fun c2 hr2 => ?_⟩)
      refine tw_sw (rl rfl <| u <| add ti3 rfl rfl <| u <| mv rfl <| r_nil ?_)
      refine ⟨v6.1.Methods.length - (i + 1), by omega, c2, i + 1, (hr.trans hr').trans hr2, hlt, rfl, subA (by exact ⟨rfl, rfl, rfl, rfl, rfl, congrArg (fun z => some (iA z)) (wrap_up (by have := hsm.1; omega)), trivial⟩), rfl⟩
    ·
     refine tw_exit (thenQ_exit (thenQ_exit (blockQ_exit ?_)))
     refine tw_less (env0 := [(1, iA v2), (2, .lit (vals 2)), (6, .lit (vals 6)), (7, .mpt 0 0 0)]) (subA (by exact ⟨rfl, rfl, rfl, rfl, trivial⟩)) ?_
     refine tw_seq ?_
     refine tw_seq (tw_sw (rl rfl <| u <| fa ti26 rfl rfl rfl <| u <| ld ti23 rfl rfl <| u <| lnI ti23 rfl rfl <| u <| mv rfl <| r_nil ?_))
     refine tw_block ?_
     have hfl : c.Fields.length ≤ 1000 := by rw [hr.1]; exact hsm.2.1
     refine tw_loop (fun k env st => ∃ (c' : ApiClass) (i : Nat), relC c c' ∧ i ≤ c.Fields.length ∧ k = c.Fields.length - i ∧ (∀ t v, look [(1, iA v2), (2, .lit (vals 2)), (6, .lit (vals 6)), (7, .mpt 0 0 0), (65, iA (c.Fields.length : Nat)), (66, iA (i : Nat))] t = some v → look env t = some v) ∧ st = boxSt c') _ ⟨c, 0, relC.refl _, Nat.zero_le _, rfl, subA (by exact ⟨rfl, rfl, rfl, rfl, rfl, rfl, trivial⟩), rfl⟩ ?_
     rintro k env st ⟨c', j, hr', hj, rfl, he', rfl⟩
     refine tw_less he' ?_
     refine tw_seq (tw_sw (rl rfl <| u <| lss ti3 rfl rfl <| r_nil ?_))
     refine tw_seq ?_
     refine tw_cond rfl (fun hc2 => ?_) (fun hc2 => ?_)
     ·
      refine tw_sw (sw_skip ?_)
      have hlt2 : j < c.Fields.length := by simpa using hc2
      obtain ⟨x, hx⟩ : ∃ x, c'.Fields[j]? = some x := ⟨_, List.getElem?_eq_getElem (by rw [hr'.1]; exact hlt2)⟩
      have hxi : idx c'.Fields (j : Nat) = some x := by unfold idx; rw [if_pos (by omega)]; simpa using hx
      refine tw_seq ?_
      refine tw_block ?_
      refine tw_seq (tw_sw (rl rfl <| u <| mv rfl <| u <| asg rfl <| r_nil ?_))
      refine tw_store (l1 := [_, _, _, _, _]) rfl rfl (u <| fa ti26 rfl rfl rfl <| u <| ld ti23 rfl rfl <| u <| mv rfl <| u <| ixI ti23 rfl ti42 rfl rfl rfl hxi <| u <| fa ti42 rfl rfl rfl <| r_nil
        ⟨_, 3, c'.Fields.map rApiField, j, 1, .string (B x.Type_), .string (B [90, 122]), c', [(1, iA v2), (2, .lit (vals 2)), (6, .lit (vals 6)), (7, .mpt 0 0 0), (65, iA (c.Fields.length : Nat)), (66, iA (j : Nat))], ti9, rfl, rfl, by rw [List.getElem?_map, hx]; rfl, rfl, .inr ⟨_, _, rfl, rfl⟩, rfl, fun t av ht => ⟨subA (by exact ⟨rfl, rfl, rfl, rfl, rfl, rfl, trivial⟩) t av ht, fixedL (by exact ⟨trivial, trivial, trivial, trivial, trivial, trivial, trivial⟩) t av ht⟩, fun c2 hr2 => ?_⟩)
      refine tw_sw (rl rfl <| u <| add ti3 rfl rfl <| u <| mv rfl <| r_nil ?_)
      refine ⟨c.Fields.length - (j + 1), by omega, c2, j + 1, hr'.trans hr2, hlt2, rfl, subA (by exact ⟨rfl, rfl, rfl, rfl, rfl, congrArg (fun z => some (iA z)) (wrap_up (by omega)), trivial⟩), rfl⟩
     ·
      refine tw_exit (thenQ_exit (thenQ_exit (blockQ_exit ?_)))
      refine hout _ _ _ _ (subLit (by exact ⟨rfl, rfl, rfl, trivial⟩)) ?_
      refine rg rfl <| u <| mv rfl <| r_can (env0 := [(2, .mpt 0 0 0), (6, .isl 1 (List.map byteRow v5)), (76, .isl 1 (List.map byteRow v5))]) (st0 := [some (6, [[sA v4.Name, sA v4.Super, bA v4.Interface, .isl 1 (List.map rStr v4.Impl), .isl 3 (List.map rApiField v4.Fields), .isl 10 (List.map rApiMethod v4.Methods)]])]) ⟨[.old 0], cv rfl (.mpt rfl) <| cv rfl (rsSeal rfl rfl (fun _ => rfl)) <| cv rfl (rsSeal rfl rfl (fun _ => rfl)) <| cn, rfl, ⟨⟨_, rfl, rsOne ⟨ci rfl, ci rfl, ci rfl, ci rfl, ci rfl, ci rfl, trivial⟩⟩, trivial⟩, rfl, Nat.le_of_ble_eq_true rfl⟩ <| u <| pc (file_Decode_ok v5 q6) rfl rfl rfl <| u <| mv rfl <| u <| ex rfl rfl <| u <| ex rfl rfl <| u <| al 1 ti26 rfl <| u <| sto ti26 rfl rfl rfl <| u <| asg rfl <| r_nil ?_
      refine sw_meet (X := Bool) (fun z => [(4, bA z)]) (fun z => []) (fun z => law6_FileSame_j1 z = some r) ?_ ?_
      ·
       rcases bb (v6.2 == (0 : Int)) with hb7 | hb7
       ·
        replace h := bT hb7 h
        obtain ⟨v7, q8, h⟩ := bs h
        rcases bb v7 with hb9 | hb9
        ·
         replace h := bT hb9 h
         obtain ⟨v8, q10, h⟩ := bs h
         exact sw_region_dt [9] [12, 11, 8, 7, 6, 5, 4, 3, 2, 1, 0] [(92, sA v5), (91, .isl 1 (List.map byteRow v5)), (88, .agg [sA v4.Name, sA v4.Super, bA v4.Interface, .isl 1 (List.map rStr v4.Impl), .isl 3 (List.map rApiField v4.Fields), .isl 10 (List.map rApiMethod v4.Methods)]), (87, bA v7), (86, bA v7), (85, bA v7), (84, .agg [sA v4.Name, sA v4.Super, bA v4.Interface, .isl 1 (List.map rStr v4.Impl), .isl 3 (List.map rApiField v4.Fields), .isl 10 (List.map rApiMethod v4.Methods)]), (83, .agg [sA v6.1.Name, sA v6.1.Super, bA v6.1.Interface, .isl 1 (List.map rStr v6.1.Impl), .isl 3 (List.map rApiField v6.1.Fields), .isl 10 (List.map rApiMethod v6.1.Methods)]), (82, bA (v6.2 == (0 : Int))), (81, bA (v6.2 == (0 : Int))), (80, iA v6.2)] 1 (by kernel_rfl) (by kernel_rfl) rfl (by kernel_rfl) (dtS ⟨(fun _ => pag (b := v7) rfl rfl rfl rfl hb9 rfl (cvt (l := v5) ti29 ti9 rfl rfl ti5 rfl rfl (fun _ h => by cases h) roI <| ⟨rfl, rfl⟩)), (fun _ => pag (b := v7) rfl rfl rfl rfl hb9 rfl (mv rfl <| ⟨rfl, rfl⟩)), (fun _ => pag (b := v7) rfl rfl rfl rfl hb9 rfl (ld ti26 rfl rfl <| ⟨rfl, rfl⟩)), (fun _ => pa rfl rfl rfl rfl (mv rfl <| ⟨rfl, rfl⟩)), (fun _ => pa rfl rfl rfl rfl (pkb rfl hb7 rfl <| ⟨rfl, rfl⟩)), (fun _ => pag (b := (v6.2 == (0 : Int))) rfl rfl rfl rfl hb7 rfl (pc (ref3_EqClass_ok v6.1 v4 q8) rfl rfl rfl <| ⟨rfl, rfl⟩)), (fun _ => pag (b := (v6.2 == (0 : Int))) rfl rfl rfl rfl hb7 rfl (ld ti26 rfl rfl <| ⟨rfl, rfl⟩)), (fun _ => pag (b := (v6.2 == (0 : Int))) rfl rfl rfl rfl hb7 rfl (ld ti26 rfl rfl <| ⟨rfl, rfl⟩)), (fun _ => pa rfl rfl rfl rfl (mv rfl <| ⟨rfl, rfl⟩)), (fun _ => pa rfl rfl rfl rfl (eql ti31 rfl rfl <| ⟨rfl, rfl⟩)), (fun _ => pa rfl rfl rfl rfl (mv rfl <| ⟨rfl, rfl⟩)), trivial⟩ (by kernel_rfl) rfl ⟨(fun _ _ => ⟨_, rfl, cg (b := v7) rfl hb9, sc [] (file_Encode_ok v4 q10) rfl rfl rfl rfl ⟨(rnI rfl), trivial⟩ trivial <| ⟨(.msl 2 0 (List.length v8)), [15, 14, 13, 10], [(4, bA (v8 == v5)), (94, bA (v8 == v5)), (93, bA (v8 == v5)), (90, sA v8), (89, .msl 2 0 (List.length v8))], rfl, rfl, by kernel_rfl, rfl, dt0 ⟨(fun _ => pa rfl rfl rfl rfl (asg rfl <| ⟨rfl, rfl⟩)), (fun _ => pa rfl rfl rfl rfl (pkb rfl hb9 rfl <| ⟨rfl, rfl⟩)), (fun _ => pag (b := v7) rfl rfl rfl rfl hb9 rfl (seq ti9 rfl rfl <| ⟨rfl, rfl⟩)), (fun _ => pag (b := v7) rfl rfl rfl rfl hb9 rfl (cvt (l := v8) ti29 ti9 rfl rfl ti5 rfl rfl (fun _ h => by cases h) (roM rfl) <| ⟨rfl, rfl⟩)), (fun _ => pag (b := v7) rfl rfl rfl rfl hb9 rfl (cvt (l := v5) ti29 ti9 rfl rfl ti5 rfl rfl (fun _ h => by cases h) roI <| ⟨rfl, rfl⟩)), (fun _ => pag (b := v7) rfl rfl rfl rfl hb9 rfl (mv rfl <| ⟨rfl, rfl⟩)), (fun h => by cases h), (fun h => by cases h), (fun _ => pa rfl rfl rfl rfl (pkb rfl hb7 rfl <| ⟨rfl, rfl⟩)), (fun _ => pag (b := (v6.2 == (0 : Int))) rfl rfl rfl rfl hb7 rfl (pc (ref3_EqClass_ok v6.1 v4 q8) rfl rfl rfl <| ⟨rfl, rfl⟩)), (fun _ => pag (b := (v6.2 == (0 : Int))) rfl rfl rfl rfl hb7 rfl (ld ti26 rfl rfl <| ⟨rfl, rfl⟩)), (fun _ => pag (b := (v6.2 == (0 : Int))) rfl rfl rfl rfl hb7 rfl (ld ti26 rfl rfl <| ⟨rfl, rfl⟩)), (fun _ => pa rfl rfl rfl rfl (mv rfl <| ⟨rfl, rfl⟩)), (fun _ => pa rfl rfl rfl rfl (eql ti31 rfl rfl <| ⟨rfl, rfl⟩)), (fun _ => pa rfl rfl rfl rfl (mv rfl <| ⟨rfl, rfl⟩)), trivial⟩ (by kernel_rfl) rfl ⟨(v8 == v5), h, [], ce rfl rfl <| cn, rfl, trivial, rfl, Nat.le_of_ble_eq_true rfl⟩⟩⟩), trivial⟩)
        ·
         replace h := bF hb9 h
         exact sw_region_dt [] [15, 14, 13, 12, 11, 10, 9, 8, 7, 6, 5, 4, 3, 2, 1, 0] [(4, bA false), (94, bA false), (93, .lit undef), (92, .lit undef), (91, .lit undef), (90, .lit undef), (89, .lit undef), (88, .lit undef), (87, bA v7), (86, bA v7), (85, bA v7), (84, .agg [sA v4.Name, sA v4.Super, bA v4.Interface, .isl 1 (List.map rStr v4.Impl), .isl 3 (List.map rApiField v4.Fields), .isl 10 (List.map rApiMethod v4.Methods)]), (83, .agg [sA v6.1.Name, sA v6.1.Super, bA v6.1.Interface, .isl 1 (List.map rStr v6.1.Impl), .isl 3 (List.map rApiField v6.1.Fields), .isl 10 (List.map rApiMethod v6.1.Methods)]), (82, bA (v6.2 == (0 : Int))), (81, bA (v6.2 == (0 : Int))), (80, iA v6.2)] 0 (by kernel_rfl) (by kernel_rfl) rfl (by kernel_rfl) (dt0 ⟨(fun _ => pa rfl rfl rfl rfl (asg rfl <| ⟨rfl, rfl⟩)), (fun _ => pa rfl rfl rfl rfl (pkb rfl hb9 rfl <| ⟨rfl, rfl⟩)), (fun _ => pas (b := v7) rfl rfl rfl rfl hb9 rfl), (fun _ => pas (b := v7) rfl rfl rfl rfl hb9 rfl), (fun _ => pas (b := v7) rfl rfl rfl rfl hb9 rfl), (fun _ => pas (b := v7) rfl rfl rfl rfl hb9 rfl), (fun _ => pas (b := v7) rfl rfl rfl rfl hb9 rfl), (fun _ => pas (b := v7) rfl rfl rfl rfl hb9 rfl), (fun _ => pa rfl rfl rfl rfl (mv rfl <| ⟨rfl, rfl⟩)), (fun _ => pa rfl rfl rfl rfl (pkb rfl hb7 rfl <| ⟨rfl, rfl⟩)), (fun _ => pag (b := (v6.2 == (0 : Int))) rfl rfl rfl rfl hb7 rfl (pc (ref3_EqClass_ok v6.1 v4 q8) rfl rfl rfl <| ⟨rfl, rfl⟩)), (fun _ => pag (b := (v6.2 == (0 : Int))) rfl rfl rfl rfl hb7 rfl (ld ti26 rfl rfl <| ⟨rfl, rfl⟩)), (fun _ => pag (b := (v6.2 == (0 : Int))) rfl rfl rfl rfl hb7 rfl (ld ti26 rfl rfl <| ⟨rfl, rfl⟩)), (fun _ => pa rfl rfl rfl rfl (mv rfl <| ⟨rfl, rfl⟩)), (fun _ => pa rfl rfl rfl rfl (eql ti31 rfl rfl <| ⟨rfl, rfl⟩)), (fun _ => pa rfl rfl rfl rfl (mv rfl <| ⟨rfl, rfl⟩)), trivial⟩ (by kernel_rfl) rfl ⟨false, h, [], ce rfl rfl <| cn, rfl, trivial, rfl, Nat.le_of_ble_eq_true rfl⟩)
       ·
        replace h := bF hb7 h
        exact sw_region_dt [] [15, 14, 13, 12, 11, 10, 9, 8, 7, 6, 5, 4, 3, 2, 1, 0] [(4, bA false), (94, bA false), (93, .lit undef), (92, .lit undef), (91, .lit undef), (90, .lit undef), (89, .lit undef), (88, .lit undef), (87, bA false), (86, bA false), (85, .lit undef), (84, .lit undef), (83, .lit undef), (82, bA (v6.2 == (0 : Int))), (81, bA (v6.2 == (0 : Int))), (80, iA v6.2)] 0 (by kernel_rfl) (by kernel_rfl) rfl (by kernel_rfl) (dt0 ⟨(fun _ => pa rfl rfl rfl rfl (asg rfl <| ⟨rfl, rfl⟩)), (fun _ => pa rfl rfl rfl rfl (pk (b := false) rfl rfl <| ⟨rfl, rfl⟩)), (fun _ => pas (b := false) rfl rfl rfl rfl rfl rfl), (fun _ => pas (b := false) rfl rfl rfl rfl rfl rfl), (fun _ => pas (b := false) rfl rfl rfl rfl rfl rfl), (fun _ => pas (b := false) rfl rfl rfl rfl rfl rfl), (fun _ => pas (b := false) rfl rfl rfl rfl rfl rfl), (fun _ => pas (b := false) rfl rfl rfl rfl rfl rfl), (fun _ => pa rfl rfl rfl rfl (mv rfl <| ⟨rfl, rfl⟩)), (fun _ => pa rfl rfl rfl rfl (pkb rfl hb7 rfl <| ⟨rfl, rfl⟩)), (fun _ => pas (b := (v6.2 == (0 : Int))) rfl rfl rfl rfl hb7 rfl), (fun _ => pas (b := (v6.2 == (0 : Int))) rfl rfl rfl rfl hb7 rfl), (fun _ => pas (b := (v6.2 == (0 : Int))) rfl rfl rfl rfl hb7 rfl), (fun _ => pa rfl rfl rfl rfl (mv rfl <| ⟨rfl, rfl⟩)), (fun _ => pa rfl rfl rfl rfl (eql ti31 rfl rfl <| ⟨rfl, rfl⟩)), (fun _ => pa rfl rfl rfl rfl (mv rfl <| ⟨rfl, rfl⟩)), trivial⟩ (by kernel_rfl) rfl ⟨false, h, [], ce rfl rfl <| cn, rfl, trivial, rfl, Nat.le_of_ble_eq_true rfl⟩)
      ·
       rintro v9 h
       replace h : law6_FileSame_j1 v9 = some r := h
       unfold law6_FileSame_j1 at h
       refine sw_ret ?_
       obtain rfl := sm h
       exact ⟨_, rfl, [], ci rfl, rfl, trivial, rfl, Nat.le_of_ble_eq_true rfl⟩
end Go.Proofs.YthmnlfenkhmmhaaGreat
namespace Go.Proofs.YthmnlfenkhmmhaaGreat
set_option linter.unusedSimpArgs false
set_option linter.unusedVariables false
theorem idx_nat {α : Type} (l : List α) (i : Nat) : idx l (i : Int) = l[i]? := by
  unfold idx
  rw [if_pos (by omega), Int.toNat_natCast]
theorem idx_zero {α : Type} (l : List α) : idx l 0 = l[0]? := idx_nat l 0
theorem wrapI {n : Int} (h1 : -9223372036854775808 ≤ n) (h2 : n ≤ 9223372036854775807) : IntKind.i64.wrap n = n := IntWalk.i64_in n ⟨h1, h2⟩
theorem wrap_succ {i : Nat} (h : i < 9223372036854775807) : IntKind.i64.wrap ((i : Int) + 1) = ((i + 1 : Nat) : Int) := by
  rw [wrapI (by omega) (by omega)]; omega
theorem cutP_some {α : Type} {l : List α} {a b : Int} (h0 : 0 ≤ a) (h1 : a ≤ b) (h2 : b ≤ l.length) : cutP l a b = some ((l.drop a.toNat).take (b.toNat - a.toNat)) := by
  unfold cutP; rw [if_pos ⟨h0, h1, h2⟩]
theorem cutP_to {α : Type} {l : List α} {b : Nat} (h : b ≤ l.length) : cutP l 0 (b : Int) = some (l.take b) := by
  rw [cutP_some (by omega) (by omega) (by omega)]; simp
theorem cutP_from {α : Type} {l : List α} {a : Nat} (h : a ≤ l.length) : cutP l (a : Int) (l.length : Int) = some (l.drop a) := by
  rw [cutP_some (by omega) (by omega) (by omega)]
  simp only [Int.toNat_natCast]
  rw [List.take_of_length_le (by simp)]
theorem appP_ok {α : Type} {w : Nat} {l x : List α} (h : (l.length + x.length) * w ≤ 140737488355328) (h2 : l.length + x.length ≤ 9223372036854775807) : appP w l x = some (l ++ x) := by
  unfold appP; rw [if_pos ⟨h, h2⟩]
theorem appP1 {l x : List UInt8} (h : l.length + x.length ≤ 140737488355328) : appP 1 l x = some (l ++ x) := appP_ok (by omega) (by omega)
def ends {R U : Type} (u : U) : Option R → Sum U R
  | some r => .inr r
  | none => .inl u
def asks {R U : Type} (i : Nat) : Option R → Sum Int (Sum U R)
  | some r => .inr (.inr r)
  | none => .inl ((i + 1 : Nat) : Int)
theorem loop_from {α R U : Type} {body : Int → Option (Sum Int (Sum U R))} {l : List α} {g : α → Option R} {u : U} {k : Nat}
    (hb : ∀ (i : Nat) x, k ≤ i → l[i]? = some x → body (i : Int) = some (asks i (g x)))
    (he : body (l.length : Int) = some (.inr (.inl u))) (hk : k ≤ l.length) : loopP body (k : Int) = some (ends u ((l.drop k).findSome? g)) := by
  have key : ∀ d i, l.length - i = d → k ≤ i → i ≤ l.length → loopP body (i : Int) = some (ends u ((l.drop i).findSome? g)) := by
    intro d
    induction d with
    | zero =>
      intro i hd hki hi
      have : i = l.length := by omega
      subst this
      rw [loopP_eq, he, List.drop_length]
      rfl
    | succ d ih =>
      intro i hd hki hi
      have hlt : i < l.length := by omega
      rw [loopP_eq, hb i l[i] hki (List.getElem?_eq_getElem hlt), List.drop_eq_getElem_cons hlt, List.findSome?_cons]
      cases g l[i] with
      | some r => rfl
      | none =>
        show loopP body ((i + 1 : Nat) : Int) = _
        exact ih (i + 1) (by omega) (by omega) (by omega)
  exact key _ k rfl (Nat.le_refl _) hk
theorem loop_list {α R U : Type} {body : Int → Option (Sum Int (Sum U R))} {l : List α} {g : α → Option R} {u : U}
    (hb : ∀ (i : Nat) x, l[i]? = some x → body (i : Int) = some (asks i (g x)))
    (he : body (l.length : Int) = some (.inr (.inl u))) : loopP body 0 = some (ends u (l.findSome? g)) :=
  loop_from (k := 0) (fun i x _ => hb i x) he (Nat.zero_le _)
theorem findSome_any {α R : Type} (l : List α) (p : α → Bool) (r : R) : l.findSome? (fun x => cond (p x) (some r) none) = cond (l.any p) (some r) none := by
  induction l with
  | nil => rfl
  | cons x l ih =>
    rw [List.findSome?_cons, List.any_cons]
    cases p x with
    | true => rfl
    | false => simpa using ih
end Go.Proofs.YthmnlfenkhmmhaaGreat
namespace Go.Proofs.YthmnlfenkhmmhaaGreat
def zig (n : Int) : Nat := if n < 0 then (-2 * n - 1).toNat else (2 * n).toNat
def putF : Nat → Nat → List UInt8
  | 0, _ => []
  | k + 1, u => if 127 < u then UInt8.ofNat (u % 128 + 128) :: putF k (u / 128) else [UInt8.ofNat u]
def put (n : Int) : List UInt8 := putF 10 (zig n)
theorem zig_lt {n : Int} (h1 : -9223372036854775808 ≤ n) (h2 : n ≤ 9223372036854775807) : zig n < 18446744073709551616 := by
  unfold zig; split <;> omega
theorem putF_length (k u : Nat) : (putF k u).length ≤ k := by
  induction k generalizing u with
  | zero => simp [putF]
  | succ k ih => simp only [putF]; split <;> simp; exact ih _
theorem put_length (n : Int) : (put n).length ≤ 10 := putF_length _ _
theorem wrap_u64 (n : Int) : IntKind.u64.wrap n = n % 18446744073709551616 := by
  simp [IntKind.wrap, IntKind.bits, IntKind.signed]
theorem wrap_i64 {n : Int} (h1 : -9223372036854775808 ≤ n) (h2 : n ≤ 9223372036854775807) : IntKind.i64.wrap n = n := IntWalk.i64_in n ⟨h1, h2⟩
theorem zig_pos {n : Int} (h1 : 0 ≤ n) (h2 : n ≤ 9223372036854775807) : IntKind.u64.wrap (IntKind.u64.wrap n * 2 ^ (min 1 64)) = ((zig n : Nat) : Int) := by
  rw [wrap_u64, wrap_u64]; unfold zig; rw [if_neg (by omega)]
  have : (2 : Int) ^ (min 1 64) = 2 := by decide
  rw [this]; omega
theorem zig_neg {n : Int} (h1 : -9223372036854775808 ≤ n) (h2 : n < 0) :
    IntKind.u64.wrap (BitVec.ofInt 64 IntKind.u64.max ^^^ BitVec.ofInt 64 (IntKind.u64.wrap (IntKind.u64.wrap n * 2 ^ (min 1 64)))).toNat = ((zig n : Nat) : Int) := by
  have e1 : (2 : Int) ^ (min 1 64) = 2 := by decide
  rw [e1, wrap_u64, wrap_u64, wrap_u64]
  obtain ⟨q, hq⟩ : ∃ q : Nat, n % 18446744073709551616 * 2 % 18446744073709551616 = q ∧ q < 18446744073709551616 := ⟨(n % 18446744073709551616 * 2 % 18446744073709551616).toNat, by omega, by omega⟩
  rw [hq.1]
  have e2 : BitVec.ofInt 64 IntKind.u64.max = BitVec.allOnes 64 := by decide
  have e3 : BitVec.ofInt 64 (q : Int) = BitVec.ofNat 64 q := by simp
  rw [e2, e3, BitVec.allOnes_xor]
  have e4 : (~~~(BitVec.ofNat 64 q)).toNat = 18446744073709551615 - q := by
    rw [BitVec.toNat_not, BitVec.toNat_ofNat, Nat.mod_eq_of_lt hq.2]
  rw [e4]
  unfold zig; rw [if_pos h2]
  omega
theorem shr7 (u : Nat) : (u : Int).fdiv (2 ^ (min (7 : Int).toNat 64)) = ((u / 128 : Nat) : Int) := by
  have : (2 : Int) ^ (min (7 : Int).toNat 64) = 128 := by decide
  rw [this, Int.fdiv_eq_ediv_of_nonneg _ (by decide)]
  omega
theorem shr7' (u : Nat) : (u : Int).fdiv (2 ^ min 7 IntKind.u64.bits) = ((u / 128 : Nat) : Int) := shr7 u
def unzig (u : Nat) : Int := if u % 2 = 1 then -((u / 2 : Nat) : Int) - 1 else ((u / 2 : Nat) : Int)
theorem unzig_zig (n : Int) : unzig (zig n) = n := by
  unfold unzig zig
  split <;> split <;> omega
def getL : Nat → Nat → List UInt8 → Int × Int × Int
  | _, _, [] => (0, 0, 2)
  | i, u, c :: r =>
    if i = 9 ∧ 1 < c.toNat then (0, 0, 1)
    else if 127 < c.toNat then getL (i + 1) (u + c.toNat % 128 * 128 ^ i) r
    else if 0 < i ∧ c.toNat = 0 then (0, 0, 1)
    else (unzig (u + c.toNat % 128 * 128 ^ i), (i : Int) + 1, 0)
def getB (bs : List UInt8) : Int × Int × Int := getL 0 0 bs
theorem shl_lt {u d i : Nat} (hu : u < 128 ^ i) (hd : d < 128) (hi : i ≤ 9) (h9 : i = 9 → d ≤ 1) : u + d * 128 ^ i < 18446744073709551616 := by
  have e128 : 128 ^ i = 2 ^ (7 * i) := by rw [Nat.pow_mul]
  rw [e128] at hu ⊢
  have h64 : (2 : Nat) ^ 64 = 18446744073709551616 := by decide
  have h1 : d * 2 ^ (7 * i) + 2 ^ (7 * i) ≤ 2 ^ 64 := by
    by_cases h : i = 9
    · subst h
      have := h9 rfl
      have h2 : (d + 1) * 2 ^ (7 * 9) ≤ 2 * 2 ^ (7 * 9) := Nat.mul_le_mul_right _ (by omega)
      rw [Nat.add_mul, Nat.one_mul] at h2
      exact Nat.le_trans h2 (by decide)
    · have h2 : (d + 1) * 2 ^ (7 * i) ≤ 2 ^ 7 * 2 ^ (7 * i) := Nat.mul_le_mul_right _ (by omega)
      rw [Nat.add_mul, Nat.one_mul, ← Nat.pow_add] at h2
      exact Nat.le_trans h2 (Nat.pow_le_pow_right (by decide) (by omega))
  omega
theorem or_shl {u d i : Nat} (hu : u < 128 ^ i) (hd : d < 128) (hi : i ≤ 9) (h9 : i = 9 → d ≤ 1) :
    IntKind.u64.wrap (BitVec.ofInt IntKind.u64.bits (u : Int) ||| BitVec.ofInt IntKind.u64.bits (IntKind.u64.wrap ((d : Int) * 2 ^ (min (7 * i) 64)))).toNat = ((u + d * 128 ^ i : Nat) : Int) := by
  have e128 : 128 ^ i = 2 ^ (7 * i) := by rw [Nat.pow_mul]
  have hmin : min (7 * i) 64 = 7 * i := by omega
  rw [e128] at hu ⊢
  have htot : u + d * 2 ^ (7 * i) < 2 ^ 64 := by
    have h1 : d * 2 ^ (7 * i) + 2 ^ (7 * i) ≤ 2 ^ 64 := by
      by_cases h : i = 9
      · subst h
        have := h9 rfl
        have h2 : (d + 1) * 2 ^ (7 * 9) ≤ 2 * 2 ^ (7 * 9) := Nat.mul_le_mul_right _ (by omega)
        rw [Nat.add_mul, Nat.one_mul] at h2
        exact Nat.le_trans h2 (by decide)
      · have h2 : (d + 1) * 2 ^ (7 * i) ≤ 2 ^ 7 * 2 ^ (7 * i) := Nat.mul_le_mul_right _ (by omega)
        rw [Nat.add_mul, Nat.one_mul, ← Nat.pow_add] at h2
        exact Nat.le_trans h2 (Nat.pow_le_pow_right (by decide) (by omega))
    omega
  have e1 : ((d : Int) * 2 ^ (min (7 * i) 64)) = ((d * 2 ^ (7 * i) : Nat) : Int) := by
    rw [hmin]
    simp
  rw [e1, wrap_u64, wrap_u64]
  have e2 : ((d * 2 ^ (7 * i) : Nat) : Int) % 18446744073709551616 = ((d * 2 ^ (7 * i) : Nat) : Int) := by
    have h64 : (2 : Nat) ^ 64 = 18446744073709551616 := by decide
    have : d * 2 ^ (7 * i) < 18446744073709551616 := by omega
    omega
  rw [e2]
  show ((BitVec.ofInt 64 (u : Int) ||| BitVec.ofInt 64 ((d * 2 ^ (7 * i) : Nat) : Int)).toNat : Int) % 18446744073709551616 = _
  have h64 : (2 : Nat) ^ 64 = 18446744073709551616 := by decide
  rw [h64] at htot
  rw [BitVec.ofInt_natCast, BitVec.ofInt_natCast, BitVec.toNat_or, BitVec.toNat_ofNat, BitVec.toNat_ofNat, h64, Nat.mod_eq_of_lt (by omega), Nat.mod_eq_of_lt (by omega)]
  have e3 : u ||| d * 2 ^ (7 * i) = u + d * 2 ^ (7 * i) := by
    rw [Nat.or_comm, Nat.mul_comm, ← Nat.two_pow_add_eq_or_of_lt hu, Nat.add_comm]
  rw [e3]
  omega
theorem shr1 {u : Nat} (hu : u < 18446744073709551616) : IntKind.i64.wrap ((u : Int).fdiv (2 ^ (min 1 IntKind.u64.bits))) = ((u / 2 : Nat) : Int) := by
  have : (2 : Int) ^ (min 1 IntKind.u64.bits) = 2 := by decide
  rw [this, Int.fdiv_eq_ediv_of_nonneg _ (by decide), wrap_i64 (by omega) (by omega)]
  omega
theorem and1 (u : Nat) : IntKind.u64.wrap (BitVec.ofInt IntKind.u64.bits (u : Int) &&& BitVec.ofInt IntKind.u64.bits 1).toNat = ((u % 2 : Nat) : Int) := by
  rw [wrap_u64]
  show ((BitVec.ofInt 64 (u : Int) &&& BitVec.ofInt 64 1).toNat : Int) % 18446744073709551616 = _
  have e : BitVec.ofInt 64 1 = BitVec.ofNat 64 1 := by decide
  rw [BitVec.ofInt_natCast, e, BitVec.toNat_and, BitVec.toNat_ofNat, BitVec.toNat_ofNat]
  have : (2 : Nat) ^ 64 = 18446744073709551616 := by decide
  rw [this, Nat.mod_eq_of_lt (by decide : 1 < 18446744073709551616), Nat.and_one_is_mod]
  omega
theorem not64 {q : Nat} (hq : q < 9223372036854775808) : IntKind.i64.wrap (BitVec.ofInt IntKind.i64.bits (-1) ^^^ BitVec.ofInt IntKind.i64.bits (q : Int)).toNat = -(q : Int) - 1 := by
  have e1 : BitVec.ofInt 64 (-1) = BitVec.allOnes 64 := by decide
  show IntKind.i64.wrap (BitVec.ofInt 64 (-1) ^^^ BitVec.ofInt 64 (q : Int)).toNat = _
  have h64 : (2 : Nat) ^ 64 = 18446744073709551616 := by decide
  rw [e1, BitVec.ofInt_natCast, BitVec.allOnes_xor, BitVec.toNat_not, BitVec.toNat_ofNat, h64, Nat.mod_eq_of_lt (by omega)]
  simp [IntKind.wrap, IntKind.bits, IntKind.signed]
  omega
theorem or_shl' {u d i : Nat} (hu : u < 128 ^ i) (hd : d < 128) (hi : i ≤ 9) (h9 : i = 9 → d ≤ 1) :
    IntKind.u64.wrap (BitVec.ofInt IntKind.u64.bits (u : Int) ||| BitVec.ofInt IntKind.u64.bits (IntKind.u64.wrap ((d : Int) * 2 ^ (min (7 * i) IntKind.u64.bits)))).toNat = ((u + d * 128 ^ i : Nat) : Int) := or_shl hu hd hi h9
end Go.Proofs.YthmnlfenkhmmhaaGreat
namespace Go.Proofs.YthmnlfenkhmmhaaGreat
theorem getL_put : ∀ (k i u v : Nat) (rest : List UInt8), v < 128 ^ k → 0 < k → i + k ≤ 10 → u + v * 128 ^ i < 18446744073709551616 → (0 < i → 0 < v) →
    getL i u (putF k v ++ rest) = (unzig (u + v * 128 ^ i), ((i + (putF k v).length : Nat) : Int), 0)
  | 0, _, _, _, _, _, h, _, _, _ => by omega
  | k + 1, i, u, v, rest, hv, _, hik, htot, hpos => by
    have h63 : (128 : Nat) ^ 9 = 9223372036854775808 := by decide
    simp only [putF]
    by_cases h : 127 < v
    · rw [if_pos h]
      have hi9 : i ≠ 9 := fun e => by subst e; rw [h63] at htot; omega
      have hc : (UInt8.ofNat (v % 128 + 128)).toNat = v % 128 + 128 := by
        rw [UInt8.toNat_ofNat']; omega
      have hk : 0 < k := by
        rcases Nat.eq_zero_or_pos k with rfl | h9
        · simp at hv; omega
        · exact h9
      have e1 : (v % 128 + 128) % 128 = v % 128 := by omega
      have e2 : u + v % 128 * 128 ^ i + v / 128 * 128 ^ (i + 1) = u + v * 128 ^ i := by
        have : v * 128 ^ i = (v % 128 + 128 * (v / 128)) * 128 ^ i := by rw [Nat.mod_add_div]
        rw [this, Nat.add_mul, Nat.pow_succ]
        have : 128 * (v / 128) * 128 ^ i = v / 128 * (128 ^ i * 128) := by
          rw [Nat.mul_comm 128 (v / 128), Nat.mul_assoc, Nat.mul_comm 128 (128 ^ i)]
        omega
      have ih := getL_put k (i + 1) (u + v % 128 * 128 ^ i) (v / 128) rest (by rw [Nat.pow_succ] at hv; omega) hk (by omega) (by rw [e2]; exact htot) (fun _ => by omega)
      simp only [List.cons_append, getL]
      rw [if_neg (fun e => hi9 e.1), hc, if_pos (by omega), e1, ih, e2]
      simp only [List.length_cons]
      congr 2
      omega
    · rw [if_neg h]
      have hc : (UInt8.ofNat v).toNat = v := by rw [UInt8.toNat_ofNat']; omega
      simp only [List.cons_append, List.nil_append, getL]
      rw [hc, if_neg, if_neg (by omega), if_neg, Nat.mod_eq_of_lt (by omega)]
      · simp
      · exact fun e => by have := hpos e.1; omega
      · intro e
        obtain ⟨rfl, h1⟩ := e
        rw [h63] at htot; omega
theorem get_put (n : Int) (rest : List UInt8) (h1 : -9223372036854775808 ≤ n) (h2 : n ≤ 9223372036854775807) : getB (put n ++ rest) = (n, ((put n).length : Int), 0) := by
  have hz := zig_lt h1 h2
  have := getL_put 10 0 0 (zig n) rest (by omega) (by decide) (by decide) (by simpa using hz) (fun h => by omega)
  simp only [Nat.zero_add, Nat.pow_zero, Nat.mul_one, unzig_zig] at this
  exact this
theorem getL_ok : ∀ (l : List UInt8) (i u : Nat), i ≤ 9 → u < 128 ^ i → (getL i u l).2.2 = 0 → ∃ j : Nat, (getL i u l).2.1 = j ∧ i + 1 ≤ j ∧ j ≤ i + l.length ∧ j ≤ 10 ∧ -9223372036854775808 ≤ (getL i u l).1 ∧ (getL i u l).1 ≤ 9223372036854775807
  | [], i, u, _, _, h => by simp [getL] at h
  | c :: l, i, u, hi, hu, h => by
    have hcl := c.toNat_lt
    unfold getL at h ⊢
    by_cases h1 : i = 9 ∧ 1 < c.toNat
    · rw [if_pos h1] at h; simp at h
    · rw [if_neg h1] at h ⊢
      by_cases h2 : 127 < c.toNat
      · rw [if_pos h2] at h ⊢
        have hlt : u + c.toNat % 128 * 128 ^ i < 128 ^ (i + 1) := by
          rw [Nat.pow_succ]
          have : c.toNat % 128 * 128 ^ i + 128 ^ i ≤ 128 * 128 ^ i := by
            have h3 : (c.toNat % 128 + 1) * 128 ^ i ≤ 128 * 128 ^ i := Nat.mul_le_mul_right _ (by omega)
            rw [Nat.add_mul, Nat.one_mul] at h3; exact h3
          omega
        obtain ⟨j, k1, k2, k3, k4, k5⟩ := getL_ok l (i + 1) _ (by omega) hlt h
        exact ⟨j, k1, by omega, by simp; omega, k4, k5⟩
      · rw [if_neg h2] at h ⊢
        by_cases h3 : 0 < i ∧ c.toNat = 0
        · rw [if_pos h3] at h; simp at h
        · rw [if_neg h3]
          have hb := shl_lt (d := c.toNat % 128) hu (Nat.mod_lt _ (by decide)) hi (fun e => by
            have : c.toNat ≤ 1 := by omega
            omega)
          refine ⟨i + 1, by simp, by omega, by simp, by omega, ?_, ?_⟩ <;> (simp only []; unfold unzig; split <;> omega)
theorem getB_ok (l : List UInt8) (h : (getB l).2.2 = 0) : ∃ j : Nat, (getB l).2.1 = j ∧ 1 ≤ j ∧ j ≤ l.length ∧ j ≤ 10 ∧ -9223372036854775808 ≤ (getB l).1 ∧ (getB l).1 ≤ 9223372036854775807 := by
  obtain ⟨j, h1, h2, h3, h4, h5⟩ := getL_ok l 0 0 (by decide) (by decide) h
  exact ⟨j, h1, by omega, by omega, h4, h5⟩
def putText (s : List UInt8) : List UInt8 := put s.length ++ s
def getText (bs : List UInt8) : List UInt8 × Int × Int :=
  if (getB bs).2.2 ≠ 0 then ([], 0, (getB bs).2.2)
  else if (getB bs).1 < 0 ∨ 1048576 < (getB bs).1 then ([], 0, 1)
  else if (bs.length : Int) - (getB bs).2.1 < (getB bs).1 then ([], 0, 2)
  else ((bs.drop (getB bs).2.1.toNat).take (getB bs).1.toNat, (getB bs).2.1 + (getB bs).1, 0)
theorem getText_put (s rest : List UInt8) (hs : s.length ≤ 1048576) : getText (putText s ++ rest) = (s, ((putText s).length : Int), 0) := by
  have h := get_put s.length (s ++ rest) (by omega) (by omega)
  unfold getText putText
  rw [List.append_assoc, h]
  simp only [ne_eq, not_true_eq_false, if_false]
  rw [if_neg (by omega), if_neg (by simp only [List.length_append]; omega)]
  simp only [Int.toNat_natCast, List.length_append]
  refine Prod.ext ?_ (Prod.ext (by simp) rfl)
  rw [List.drop_left, List.take_left]
end Go.Proofs.YthmnlfenkhmmhaaGreat
namespace Go.Proofs.YthmnlfenkhmmhaaGreat
set_option linter.unusedSimpArgs false
set_option linter.unusedVariables false
noncomputable def okC (x : UInt8) : Bool := kind_small x || kind_great x || kind_digit x
def headP (p : UInt8 → Bool) : List UInt8 → Bool
  | [] => false
  | x :: _ => p x
noncomputable def wordN (s : List UInt8) : Bool := s.all okC && (!(s == []) && decide ((s.length : Int) ≤ 8))
noncomputable def classN (s : List UInt8) : Bool := wordN s && decide (1 < (s.length : Int)) && headP kind_great s
noncomputable def nameN (s : List UInt8) : Bool := (s == [36, 105, 110, 105, 116]) || (wordN s && headP kind_small s)
def trim1 : List UInt8 → List UInt8
  | [] => []
  | x :: r => if x = 91 then r else x :: r
noncomputable def mayN (s : List UInt8) : Bool := (trim1 (trim1 s) == [73]) || classN (trim1 (trim1 s))
noncomputable def refN (s : List UInt8) : Bool := !(s == [73]) && mayN s
noncomputable def retN (s : List UInt8) : Bool := (s == [86]) || mayN s
abbrev Len (s : List UInt8) : Prop := s.length ≤ 9223372036854775807
theorem not_all {α : Type} (l : List α) (p : α → Bool) : l.any (fun x => !p x) = !l.all p := by
  induction l with
  | nil => rfl
  | cons x l ih => rw [List.any_cons, List.all_cons, ih]; cases p x <;> rfl
theorem kind_word_eq {s : List UInt8} (h : Len s) : kind_word s = some (wordN s) := by
  have hl : loopP (fun z => kind_word_l1 s z) 0 = _ := loop_list (l := s) (g := fun x => cond (!okC x) (some false) none) (u := ()) (fun i x hx => by
    have hi := (List.getElem?_eq_some_iff.1 hx).1
    show kind_word_l1 s (i : Int) = _
    unfold kind_word_l1
    rw [idx_nat, hx, decide_eq_true (by omega), wrap_succ (by unfold Len at h; omega)]
    unfold okC
    cases h1 : kind_small x <;> cases h2 : kind_great x <;> cases h3 : kind_digit x <;> simp [h1, h2, h3, asks]) (by
    show kind_word_l1 s (s.length : Int) = _
    unfold kind_word_l1
    rw [decide_eq_false (by omega)]
    rfl)
  unfold kind_word
  rw [hl, findSome_any, not_all]
  unfold wordN
  cases s.all okC <;> rfl
theorem wordN_ne {s : List UInt8} (h : wordN s = true) : ∃ x r, s = x :: r := by
  cases s with
  | nil => exact absurd h (by decide)
  | cons x r => exact ⟨x, r, rfl⟩
theorem kind_Class_eq {s : List UInt8} (h : Len s) : kind_Class s = some (classN s) := by
  unfold kind_Class
  rw [kind_word_eq h, idx_zero]
  unfold classN
  cases hw : wordN s with
  | false => rfl
  | true =>
    obtain ⟨x, r, rfl⟩ := wordN_ne hw
    simp only [Option.bind_some, Bool.true_and, List.getElem?_cons_zero]
    cases decide (1 < ((x :: r).length : Int)) <;> rfl
theorem kind_Name_eq {s : List UInt8} (h : Len s) : kind_Name s = some (nameN s) := by
  unfold kind_Name
  rw [kind_word_eq h, idx_zero]
  unfold nameN
  cases s == [36, 105, 110, 105, 116] with
  | true => rfl
  | false =>
    cases hw : wordN s with
    | false => rfl
    | true =>
      obtain ⟨x, r, rfl⟩ := wordN_ne hw
      rfl
theorem trim1_cons (x : UInt8) (r : List UInt8) : trim1 (x :: r) = if x = 91 then r else x :: r := rfl
theorem trim1_len (s : List UInt8) : (trim1 s).length ≤ s.length := by
  cases s with
  | nil => exact Nat.le_refl _
  | cons x r => rw [trim1_cons]; split <;> simp
theorem trim_eq {s : List UInt8} (h : Len s) : strings_TrimPrefix s [91] = some (trim1 s) := by
  unfold strings_TrimPrefix internal_stringslite_TrimPrefix internal_stringslite_HasPrefix
  cases s with
  | nil => rfl
  | cons x r =>
    have e1 : decide ((List.length [(91 : UInt8)] : Int) ≤ (List.length (x :: r) : Int)) = true := decide_eq_true (by simp only [List.length_cons, List.length_nil]; omega)
    have e2 : cutP (x :: r) 0 (List.length [(91 : UInt8)] : Int) = some [x] := by
      have := cutP_to (l := x :: r) (b := 1) (by simp)
      simpa using this
    have e3 : cutP (x :: r) (List.length [(91 : UInt8)] : Int) (List.length (x :: r) : Int) = some r := by
      have := cutP_from (l := x :: r) (a := 1) (by simp)
      simpa using this
    rw [e1, e2, e3, trim1_cons]
    by_cases hx : x = 91
    · subst hx; rfl
    · rw [if_neg hx]
      have : ([x] == [(91 : UInt8)]) = false := by simp [hx]
      simp [this]
theorem kind_May_eq {s : List UInt8} (h : Len s) : kind_May s = some (mayN s) := by
  have h1 := trim1_len s
  have h2 := trim1_len (trim1 s)
  unfold kind_May
  rw [trim_eq h, Option.bind_some, trim_eq (by unfold Len at *; omega), Option.bind_some, kind_Class_eq (by unfold Len at *; omega)]
  unfold mayN
  cases trim1 (trim1 s) == [73] <;> rfl
theorem kind_Ref_eq {s : List UInt8} (h : Len s) : kind_Ref s = some (refN s) := by
  unfold kind_Ref
  rw [kind_May_eq h]
  unfold refN
  cases s == [73] <;> rfl
theorem kind_Ret_eq {s : List UInt8} (h : Len s) : kind_Ret s = some (retN s) := by
  unfold kind_Ret
  rw [kind_May_eq h]
  unfold retN
  cases s == [86] <;> rfl
end Go.Proofs.YthmnlfenkhmmhaaGreat
namespace Go.Proofs.YthmnlfenkhmmhaaGreat
set_option linter.unusedSimpArgs false
set_option linter.unusedVariables false
abbrev I64 (n : Int) : Prop := -9223372036854775808 ≤ n ∧ n ≤ 9223372036854775807
theorem tU8_nat (u : Nat) : tU8 (u : Int) = UInt8.ofNat u := by
  unfold tU8
  have : ((u : Int) % 256).toNat = u % 256 := by omega
  rw [this]
  apply UInt8.toNat_inj.1
  simp
theorem or128_8 (u : Nat) : (tU8 (u : Int) ||| (128 : UInt8)) = UInt8.ofNat (u % 128 + 128) := by
  rw [tU8_nat]
  have key : ∀ k : Fin 256, (UInt8.ofNat k.val ||| (128 : UInt8)) = UInt8.ofNat (k.val % 128 + 128) := by decide +kernel
  have h := key ⟨u % 256, Nat.mod_lt _ (by decide)⟩
  have e1 : UInt8.ofNat (u % 256) = UInt8.ofNat u := by apply UInt8.toNat_inj.1; simp
  have e2 : u % 256 % 128 = u % 128 := by omega
  simp only [e1, e2] at h
  exact h
theorem and127_8 (c : UInt8) : IntKind.u64.wrap ((c &&& (127 : UInt8)).toNat : Int) = ((c.toNat % 128 : Nat) : Int) := by
  have key : ∀ k : Fin 256, (UInt8.ofNat k.val &&& (127 : UInt8)).toNat = k.val % 128 := by decide +kernel
  have h := key ⟨c.toNat, c.toNat_lt⟩
  have e1 : UInt8.ofNat c.toNat = c := by simp
  simp only [e1] at h
  rw [h, wrap_u64]
  omega
theorem shrP7 (u : Nat) : shrP .u64 (u : Int) 7 = some ((u / 128 : Nat) : Int) := by
  unfold shrP
  rw [if_neg (by decide)]
  congr 1
  exact shr7' u
theorem putL (k : Nat) : ∀ (acc : List UInt8) (u : Nat), 0 < k → u < 128 ^ k → acc.length + k ≤ 140737488355328 →
    ∃ acc' v, loopP (fun z : List UInt8 × Int => num_Put_l2 z.1 z.2) (acc, (u : Int)) = some (.inl (acc', v)) ∧ num_Put_k3 acc' v = some (acc ++ putF k u) := by
  induction k with
  | zero => intro _ _ h; omega
  | succ k ih =>
    intro acc u _ hu hl
    rw [loopP_eq]
    by_cases h127 : 127 < u
    · have hk : 0 < k := by
        rcases Nat.eq_zero_or_pos k with rfl | h
        · simp at hu; omega
        · exact h
      have hstep : num_Put_l2 acc (u : Int) = some (.inl (acc ++ [UInt8.ofNat (u % 128 + 128)], ((u / 128 : Nat) : Int))) := by
        unfold num_Put_l2
        rw [decide_eq_true (by omega), or128_8, appP1 (by simp; omega), shrP7]
        rfl
      simp only [hstep, Option.bind_some, Sum.elim_inl]
      obtain ⟨acc', v, h1, h2⟩ := ih (acc ++ [UInt8.ofNat (u % 128 + 128)]) (u / 128) hk (by rw [Nat.pow_succ] at hu; omega) (by simp; omega)
      refine ⟨acc', v, h1, ?_⟩
      rw [h2]
      simp only [putF, if_pos h127]
      simp
    · have hstep : num_Put_l2 acc (u : Int) = some (.inr (.inl (acc, (u : Int)))) := by
        unfold num_Put_l2
        rw [decide_eq_false (by omega)]
        rfl
      simp only [hstep, Option.bind_some, Sum.elim_inr]
      refine ⟨acc, u, rfl, ?_⟩
      unfold num_Put_k3
      rw [tU8_nat, appP1 (by simp; omega)]
      simp only [putF, if_neg h127]
      rfl
theorem zigP {n : Int} (h : I64 n) : shlP .u64 (IntKind.u64.wrap n) 1 = some (IntKind.u64.wrap (IntKind.u64.wrap n * 2 ^ (min 1 64))) := by
  unfold shlP
  rw [if_neg (by decide)]
  rfl
theorem num_Put_eq {bs : List UInt8} {n : Int} (h : I64 n) (hb : bs.length ≤ 1000000000000) : num_Put bs n = some (bs ++ put n) := by
  have hz := zig_lt h.1 h.2
  have key : num_Put_j1 bs ((zig n : Nat) : Int) = some (bs ++ put n) := by
    obtain ⟨acc, v, h1, h2⟩ := putL 10 bs (zig n) (by decide) (by omega) (by omega)
    unfold num_Put_j1
    rw [h1]
    exact h2
  unfold num_Put
  rw [zigP h, Option.bind_some]
  by_cases hn : n < 0
  · rw [decide_eq_true hn]
    have : xorI .u64 (IntKind.u64.wrap (IntKind.u64.wrap n * 2 ^ (min 1 64))) = ((zig n : Nat) : Int) := zig_neg h.1 hn
    rw [this]; exact key
  · rw [decide_eq_false hn, zig_pos (by omega) h.2]; exact key
theorem getLp (bs : List UInt8) (hl : bs.length ≤ 9223372036854775807) : ∀ (rest : List UInt8) (i u : Nat), bs.drop i = rest → i ≤ 9 → i ≤ bs.length → u < 128 ^ i →
    ((loopP (fun z : Int × Int => num_Get_l3 bs z.1 z.2) ((u : Int), (i : Int))).bind fun o => leave o (fun b => num_Get_k4) some) = some (getL i u rest) := by
  intro rest
  induction rest with
  | nil =>
    intro i u hd hi hib hu
    have hlen : i = bs.length := by
      have := congrArg List.length hd
      simp at this; omega
    have hstep : num_Get_l3 bs (u : Int) (i : Int) = some (.inr (.inl ())) := by
      unfold num_Get_l3
      rw [decide_eq_false (by omega)]; rfl
    rw [loopP_eq]
    simp only [hstep, Option.bind_some, Sum.elim_inr]
    rfl
  | cons c r ih =>
    intro i u hd hi hib hu
    have hlt : i < bs.length := by
      have := congrArg List.length hd
      simp at this; omega
    have hc : bs[i]? = some c := by
      have : (bs.drop i)[0]? = some c := by rw [hd]; rfl
      simpa using this
    have hd' : bs.drop (i + 1) = r := by
      have := congrArg List.tail hd
      simpa [List.tail_drop] using this
    have e7 : IntKind.i64.wrap (7 * (i : Int)) = ((7 * i : Nat) : Int) := by rw [wrapI (by omega) (by omega)]; omega
    have hsh : shlP .u64 (IntKind.u64.wrap ((c &&& (127 : UInt8)).toNat : Int)) (IntKind.i64.wrap (7 * (i : Int))) = some (IntKind.u64.wrap (((c.toNat % 128 : Nat) : Int) * 2 ^ (min (7 * i) IntKind.u64.bits))) := by
      rw [and127_8, e7]
      unfold shlP
      rw [if_neg (by omega), Int.toNat_natCast]
    have hws : IntKind.i64.wrap ((i : Int) + 1) = ((i + 1 : Nat) : Int) := wrap_succ (by omega)
    have hcl := c.toNat_lt
    have hb : num_Get_l3 bs (u : Int) (i : Int) = cond (((i : Int) == (9 : Int)) && decide (1 < (c.toNat : Int))) (some (.inr (.inr (0, 0, 1)))) (cond (decide (127 < (c.toNat : Int)))
        (some (.inl (orI .u64 (u : Int) (IntKind.u64.wrap (((c.toNat % 128 : Nat) : Int) * 2 ^ (min (7 * i) IntKind.u64.bits))), ((i + 1 : Nat) : Int))))
        (cond (decide ((0 : Int) < (i : Int)) && ((c.toNat : Int) == (0 : Int))) (some (.inr (.inr (0, 0, 1)))) ((shrP .u64 (orI .u64 (u : Int) (IntKind.u64.wrap (((c.toNat % 128 : Nat) : Int) * 2 ^ (min (7 * i) IntKind.u64.bits)))) 1).bind fun v12 =>
          cond ((andI .u64 (orI .u64 (u : Int) (IntKind.u64.wrap (((c.toNat % 128 : Nat) : Int) * 2 ^ (min (7 * i) IntKind.u64.bits)))) 1) == (1 : Int)) (num_Get_j2 (i : Int) (xorI .i64 (IntKind.i64.wrap v12))) (num_Get_j2 (i : Int) (IntKind.i64.wrap v12))))) := by
      unfold num_Get_l3
      rw [idx_nat, hc, decide_eq_true (show (i : Int) < (bs.length : Int) by omega), hws]
      simp only [Option.bind_some, cond_true, hsh]
    have hd9 : ¬ (i = 9 ∧ 1 < c.toNat) → i = 9 → c.toNat % 128 ≤ 1 := fun h e => by omega
    rw [loopP_eq]
    simp only [hb]
    clear hb
    by_cases h9 : i = 9 ∧ 1 < c.toNat
    · have e1 : (((i : Int) == (9 : Int)) && decide (1 < (c.toNat : Int))) = true := by
        rw [Bool.and_eq_true]; exact ⟨by rw [beq_iff_eq]; omega, decide_eq_true (by omega)⟩
      rw [e1]
      unfold getL
      rw [if_pos h9]
      rfl
    · have e1 : (((i : Int) == (9 : Int)) && decide (1 < (c.toNat : Int))) = false := by
        rw [Bool.and_eq_false_iff]
        by_cases h : i = 9
        · exact .inr (decide_eq_false (by omega))
        · exact .inl (by rw [beq_eq_false_iff_ne]; omega)
      rw [e1]
      have hor : orI .u64 (u : Int) (IntKind.u64.wrap (((c.toNat % 128 : Nat) : Int) * 2 ^ (min (7 * i) IntKind.u64.bits))) = ((u + c.toNat % 128 * 128 ^ i : Nat) : Int) := or_shl' hu (Nat.mod_lt _ (by decide)) hi (hd9 h9)
      have hu' : u + c.toNat % 128 * 128 ^ i < 18446744073709551616 := shl_lt hu (Nat.mod_lt _ (by decide)) hi (hd9 h9)
      rw [hor]
      simp only [cond_false]
      unfold getL
      rw [if_neg h9]
      by_cases h127 : 127 < c.toNat
      · rw [decide_eq_true (show (127 : Int) < (c.toNat : Int) by omega), if_pos h127]
        simp only [cond_true, Option.bind_some, Sum.elim_inl]
        refine ih (i + 1) _ hd' (by omega) (by omega) ?_
        have h2 : (c.toNat % 128 + 1) * 128 ^ i ≤ 128 * 128 ^ i := Nat.mul_le_mul_right _ (by omega)
        rw [Nat.add_mul, Nat.one_mul] at h2
        rw [Nat.pow_succ]
        omega
      · rw [decide_eq_false (show ¬ (127 : Int) < (c.toNat : Int) by omega), if_neg h127]
        simp only [cond_false]
        by_cases h0 : 0 < i ∧ c.toNat = 0
        · have e2 : (decide ((0 : Int) < (i : Int)) && ((c.toNat : Int) == (0 : Int))) = true := by
            rw [Bool.and_eq_true]; exact ⟨decide_eq_true (by omega), by rw [beq_iff_eq]; omega⟩
          rw [e2, if_pos h0]
          rfl
        · have e2 : (decide ((0 : Int) < (i : Int)) && ((c.toNat : Int) == (0 : Int))) = false := by
            rw [Bool.and_eq_false_iff]
            by_cases h : 0 < i
            · exact .inr (by rw [beq_eq_false_iff_ne]; omega)
            · exact .inl (decide_eq_false (by omega))
          rw [e2, if_neg h0]
          simp only [cond_false]
          generalize u + c.toNat % 128 * 128 ^ i = q at hu'
          have hs1 : shrP .u64 (q : Int) 1 = some ((q : Int).fdiv (2 ^ (min 1 IntKind.u64.bits))) := by unfold shrP; rw [if_neg (by decide)]; rfl
          rw [hs1]
          simp only [Option.bind_some]
          rw [shr1 hu']
          have ha : andI .u64 (q : Int) 1 = ((q % 2 : Nat) : Int) := and1 q
          rw [ha]
          unfold num_Get_j2
          rw [hws]
          by_cases hp : q % 2 = 1
          · rw [hp]
            have hx : xorI .i64 ((q / 2 : Nat) : Int) = -((q / 2 : Nat) : Int) - 1 := not64 (by omega)
            rw [hx]
            unfold unzig
            rw [if_pos hp]
            rfl
          · have h00 : q % 2 = 0 := by omega
            rw [h00]
            unfold unzig
            rw [if_neg hp]
            rfl
theorem num_Get_eq {bs : List UInt8} (h : Len bs) : num_Get bs = some (getB bs) := by
  unfold num_Get
  exact getLp bs h bs 0 0 rfl (Nat.zero_le _) (Nat.zero_le _) (by decide)
theorem num_PutText_eq {bs s : List UInt8} (hb : bs.length ≤ 100000000000) (hs : s.length ≤ 100000000000) : num_PutText bs s = some (bs ++ putText s) := by
  have hp := put_length (s.length : Int)
  unfold num_PutText
  rw [num_Put_eq ⟨by omega, by omega⟩ (by omega), Option.bind_some, appP1 (by simp; omega)]
  unfold putText
  simp
theorem num_GetText_eq {bs : List UInt8} (h : Len bs) : num_GetText bs = some (getText bs) := by
  unfold num_GetText
  rw [num_Get_eq h, Option.bind_some]
  unfold getText
  by_cases h0 : (getB bs).2.2 = 0
  · obtain ⟨j, h1, h2, h3, h4, h5, h6⟩ := getB_ok bs h0
    unfold Len at h
    rw [h1, h0]
    simp only [ne_eq, not_true_eq_false, if_false]
    by_cases hn : (getB bs).1 < 0 ∨ 1048576 < (getB bs).1
    · rw [if_pos hn]
      have : (decide ((getB bs).1 < 0) || decide (1048576 < (getB bs).1)) = true := by rw [Bool.or_eq_true]; exact hn.imp (fun h => decide_eq_true h) (fun h => decide_eq_true h)
      rw [this]; rfl
    · rw [if_neg hn]
      have : (decide ((getB bs).1 < 0) || decide (1048576 < (getB bs).1)) = false := by
        rw [Bool.or_eq_false_iff]; exact ⟨decide_eq_false fun h => hn (.inl h), decide_eq_false fun h => hn (.inr h)⟩
      rw [this, wrapI (by omega) (by omega)]
      by_cases hl : (bs.length : Int) - (j : Int) < (getB bs).1
      · rw [if_pos hl, decide_eq_true hl]; rfl
      · rw [if_neg hl, decide_eq_false hl, wrapI (by omega) (by omega), cutP_some (by omega) (by omega) (by omega)]
        have : ((j : Int) + (getB bs).1).toNat - (j : Int).toNat = (getB bs).1.toNat := by omega
        rw [this]
        rfl
  · rw [if_pos h0]
    have : ((getB bs).2.2 == (0 : Int)) = false := by rw [beq_eq_false_iff_ne]; exact h0
    rw [this]
    rfl
end Go.Proofs.YthmnlfenkhmmhaaGreat
namespace Go.Proofs.YthmnlfenkhmmhaaGreat
set_option linter.unusedSimpArgs false
set_option linter.unusedVariables false
noncomputable def mayCN (o : Int) (s : List UInt8) : Bool := cond (op_typed o) (refN s) (cond (op_c o) (classN s) (s == []))
noncomputable def mayMN (o : Int) (s : List UInt8) : Bool := cond (op_m o) (nameN s && !(s == [36, 105, 110, 105, 116])) (s == [])
noncomputable def mayIns (x : ApiIns) : Bool := (op_known x.Op && op_mayA x.Op x.A) && mayCN x.Op x.C && mayMN x.Op x.M
theorem op_mayC_eq {o : Int} {s : List UInt8} (h : Len s) : op_mayC o s = some (mayCN o s) := by
  unfold op_mayC mayCN
  rw [kind_Ref_eq h, kind_Class_eq h]
  cases op_typed o <;> cases op_c o <;> rfl
theorem op_mayM_eq {o : Int} {s : List UInt8} (h : Len s) : op_mayM o s = some (mayMN o s) := by
  unfold op_mayM mayMN
  rw [kind_Name_eq h]
  cases op_m o <;> rfl
theorem op_May_eq {x : ApiIns} (hC : Len x.C) (hM : Len x.M) : op_May x = some (mayIns x) := by
  unfold op_May mayIns
  rw [op_mayC_eq hC, op_mayM_eq hM]
  cases (op_known x.Op && op_mayA x.Op x.A) <;> cases mayCN x.Op x.C <;> rfl
theorem mayA_eq (o A : Int) : op_mayA o A = cond (op_a o) (ref3_number o A) (A == 0) := by
  have e1 : decide (A ≤ 2147483647) = decide (A < 2147483648) := by congr 1; apply propext; omega
  have e2 : decide (A ≤ 15) = decide (A < 16) := by congr 1; apply propext; omega
  have e3 : decide (A ≤ 99) = decide (A < 100) := by congr 1; apply propext; omega
  unfold op_mayA op_a ref3_number ref3_Jumps op_Jumps op_between
  rw [e1, e2, e3]
  by_cases h1 : o = 1
  · subst h1; rfl
  by_cases h3 : o = 3
  · subst h3; rfl
  by_cases h4 : o = 4
  · subst h4; rfl
  have b1 : (o == (1 : Int)) = false := beq_eq_false_iff_ne.2 h1
  have b3 : (o == (3 : Int)) = false := beq_eq_false_iff_ne.2 h3
  have b4 : (o == (4 : Int)) = false := beq_eq_false_iff_ne.2 h4
  rw [b1, b3, b4]
  cases (decide (20 ≤ o) && decide (o ≤ 36)) <;> rfl
end Go.Proofs.YthmnlfenkhmmhaaGreat
namespace Go.Proofs.YthmnlfenkhmmhaaGreat
set_option linter.unusedSimpArgs false
set_option linter.unusedVariables false
noncomputable def putIns (x : ApiIns) : List UInt8 := put x.Op ++ (cond (op_a x.Op) (put x.A) [] ++ (cond (op_c x.Op) (putText x.C) [] ++ cond (op_m x.Op) (putText x.M) []))
structure InsIn (x : ApiIns) : Prop where
  op : I64 x.Op
  a : I64 x.A
  c : x.C.length ≤ 1000000
  m : x.M.length ≤ 1000000
theorem putText_len (s : List UInt8) : (putText s).length ≤ s.length + 10 := by
  have := put_length (s.length : Int)
  unfold putText
  simp; omega
theorem op_Put_eq {bs : List UInt8} {x : ApiIns} (hx : InsIn x) (hb : bs.length ≤ 10000000000) : op_Put bs x = some (bs ++ putIns x) := by
  have h1 := put_length x.Op
  have h2 := put_length x.A
  have h3 := putText_len x.C
  have hc := hx.c
  have hm := hx.m
  have e1 : ∀ b : List UInt8, b.length ≤ 20000000000 → op_Put_j2 x b = some (b ++ cond (op_m x.Op) (putText x.M) []) := fun b hb => by
    unfold op_Put_j2 op_Put_j3
    cases op_m x.Op with
    | true => simp only [cond_true]; rw [num_PutText_eq (by omega) (by omega)]; rfl
    | false => simp
  have e2 : ∀ b : List UInt8, b.length ≤ 15000000000 → op_Put_j1 x b = some (b ++ (cond (op_c x.Op) (putText x.C) [] ++ cond (op_m x.Op) (putText x.M) [])) := fun b hb => by
    unfold op_Put_j1
    cases op_c x.Op with
    | true => simp only [cond_true]; rw [num_PutText_eq (by omega) (by omega), Option.bind_some, e1 _ (by simp; omega)]; simp
    | false => simp only [cond_false]; rw [e1 _ (by omega)]; simp
  unfold op_Put putIns
  rw [num_Put_eq hx.op (by omega), Option.bind_some]
  cases op_a x.Op with
  | true => simp only [cond_true]; rw [num_Put_eq hx.a (by simp; omega), Option.bind_some, e2 _ (by simp; omega)]; simp
  | false => simp only [cond_false]; rw [e2 _ (by simp; omega)]; simp
theorem cut_pre {pre t : List UInt8} : cutP (pre ++ t) ((pre.length : Nat) : Int) ((pre ++ t).length : Int) = some t := by
  have h := cutP_from (l := pre ++ t) (a := pre.length) (by simp)
  rw [h]; simp
theorem may_parts {x : ApiIns} (h : mayIns x = true) : (op_known x.Op = true ∧ op_mayA x.Op x.A = true) ∧ mayCN x.Op x.C = true ∧ mayMN x.Op x.M = true := by
  unfold mayIns at h
  simp only [Bool.and_eq_true] at h
  exact ⟨h.1.1, h.1.2, h.2⟩
theorem op_Get_put {x : ApiIns} {rest : List UInt8} (hx : InsIn x) (hm : mayIns x = true) (hr : rest.length ≤ 1000000000) : op_Get (putIns x ++ rest) = some (x, (((putIns x).length : Nat) : Int), 0) := by
  obtain ⟨⟨m1, m2⟩, m3, m4⟩ := may_parts hm
  have l1 := put_length x.Op
  have l2 := put_length x.A
  have l3 := putText_len x.C
  have l4 := putText_len x.M
  have hc := hx.c
  have hmm := hx.m
  have bnd : (putIns x).length ≤ 3000000 := by
    unfold putIns
    cases op_a x.Op <;> cases op_c x.Op <;> cases op_m x.Op <;> simp <;> omega
  have hty : op_c x.Op = false → op_typed x.Op = false := fun h => by unfold op_c at h; simp only [Bool.or_eq_false_iff] at h; exact h.2
  obtain ⟨all, hall⟩ : ∃ all, all = putIns x ++ rest := ⟨_, rfl⟩
  have hlen : all.length ≤ 2000000000 := by rw [hall, List.length_append]; omega
  have g3 : ∀ pre : List UInt8, all = pre ++ (cond (op_m x.Op) (putText x.M) [] ++ rest) → op_Get_j2 all (x.Op, ((put x.Op).length : Int), 0) x.A (pre.length : Nat) 0 x.C = some (x, (((putIns x).length : Nat) : Int), 0) := fun pre hp => by
    unfold op_Get_j2 op_Get_j3
    have hpl : all.length = pre.length + (cond (op_m x.Op) (putText x.M) [] ++ rest).length := by rw [hp, List.length_append]
    have hpi : (putIns x).length + rest.length = all.length := by rw [hall, List.length_append]
    cases h : op_m x.Op with
    | false =>
      rw [h] at hp hpl
      simp only [cond_false, List.nil_append] at hpl
      have hM : x.M = [] := by
        unfold mayMN at m4; rw [h] at m4; exact beq_iff_eq.1 m4
      have : pre.length = (putIns x).length := by omega
      simp only [cond_false]
      rw [this, ← hM]
      rfl
    | true =>
      rw [h] at hp hpl
      simp only [cond_true] at hp hpl ⊢
      unfold op_reader_text_s2 op_reader_text_s2_j1 op_Get_3
      have hcut : cutP all ((pre.length : Nat) : Int) (all.length : Int) = some (putText x.M ++ rest) := by rw [hp]; exact cut_pre
      have hget : num_GetText (putText x.M ++ rest) = some (x.M, ((putText x.M).length : Int), 0) := by
        rw [num_GetText_eq (by unfold Len; simp; omega), getText_put _ _ (by omega)]
      have hw : IntKind.i64.wrap ((pre.length : Nat) + ((putText x.M).length : Int)) = ((putIns x).length : Nat) := by
        rw [List.length_append] at hpl
        rw [wrapI (by omega) (by omega)]; omega
      rw [hcut, Option.bind_some, hget, Option.bind_some]
      simp only
      rw [op_mayM_eq (by unfold Len; omega), m4, hw]
      rfl
  have g2 : ∀ pre : List UInt8, all = pre ++ (cond (op_c x.Op) (putText x.C) [] ++ (cond (op_m x.Op) (putText x.M) [] ++ rest)) → op_Get_j1 all (x.Op, ((put x.Op).length : Int), 0) (pre.length : Nat) 0 x.A = some (x, (((putIns x).length : Nat) : Int), 0) := fun pre hp => by
    unfold op_Get_j1
    cases h : op_c x.Op with
    | false =>
      rw [h] at hp
      have hC : x.C = [] := by
        unfold mayCN at m3; rw [hty h, h] at m3; exact beq_iff_eq.1 m3
      simp only [cond_false]
      rw [← hC]
      exact g3 pre (by simpa using hp)
    | true =>
      rw [h] at hp
      simp only [cond_true] at hp ⊢
      unfold op_reader_text op_reader_text_j1 op_Get_2
      have hcut : cutP all ((pre.length : Nat) : Int) (all.length : Int) = some (putText x.C ++ (cond (op_m x.Op) (putText x.M) [] ++ rest)) := by rw [hp]; exact cut_pre
      have hle : (cond (op_m x.Op) (putText x.M) [] ++ rest).length ≤ 1001000010 := by cases op_m x.Op <;> simp <;> omega
      have hget : num_GetText (putText x.C ++ (cond (op_m x.Op) (putText x.M) [] ++ rest)) = some (x.C, ((putText x.C).length : Int), 0) := by
        rw [num_GetText_eq (by unfold Len; rw [List.length_append]; omega), getText_put _ _ (by omega)]
      have hpl : all.length = pre.length + ((putText x.C).length + (cond (op_m x.Op) (putText x.M) [] ++ rest).length) := by rw [hp, List.length_append, List.length_append]
      have hw : IntKind.i64.wrap ((pre.length : Nat) + ((putText x.C).length : Int)) = ((pre ++ putText x.C).length : Nat) := by
        rw [wrapI (by omega) (by omega), List.length_append]; omega
      rw [hcut, Option.bind_some, hget, Option.bind_some]
      simp only
      rw [op_mayC_eq (by unfold Len; omega), m3, hw]
      exact g3 (pre ++ putText x.C) (by rw [hp]; simp)
  have k0 : cutP all 0 (all.length : Int) = some all := by
    have := cutP_from (l := all) (a := 0) (by simp)
    simpa using this
  have hfirst : op_reader_num all 0 0 = some (x.Op, (((put x.Op).length : Nat) : Int), 0) := by
    unfold op_reader_num op_reader_num_j1
    rw [k0, Option.bind_some]
    have : num_Get all = some (x.Op, ((put x.Op).length : Int), 0) := by
      rw [num_Get_eq (by unfold Len; omega), hall]
      unfold putIns
      rw [List.append_assoc, get_put _ _ hx.op.1 hx.op.2]
    rw [this, Option.bind_some]
    simp only
    rw [m1, wrapI (by omega) (by omega)]
    simp
  rw [← hall]
  unfold op_Get
  rw [hfirst, Option.bind_some]
  simp only
  have h0 : all = put x.Op ++ (cond (op_a x.Op) (put x.A) [] ++ (cond (op_c x.Op) (putText x.C) [] ++ (cond (op_m x.Op) (putText x.M) [] ++ rest))) := by rw [hall]; unfold putIns; simp
  cases h : op_a x.Op with
  | false =>
    have hA : x.A = 0 := by
      rw [mayA_eq, h] at m2; exact beq_iff_eq.1 m2
    rw [h] at h0
    have := g2 (put x.Op) (by simpa using h0)
    rw [hA] at this
    exact this
  | true =>
    rw [h] at h0
    simp only [cond_true] at h0 ⊢
    have hn : op_reader_num_s2 all ((put x.Op).length : Nat) 0 x.Op 0 [] [] = some (x.A, (((put x.Op ++ put x.A).length : Nat) : Int), 0) := by
      unfold op_reader_num_s2 op_reader_num_s2_j1 op_Get_1
      have hcut : cutP all (((put x.Op).length : Nat) : Int) (all.length : Int) = some (put x.A ++ (cond (op_c x.Op) (putText x.C) [] ++ (cond (op_m x.Op) (putText x.M) [] ++ rest))) := by rw [h0]; exact cut_pre
      have hle : (put x.A ++ (cond (op_c x.Op) (putText x.C) [] ++ (cond (op_m x.Op) (putText x.M) [] ++ rest))).length ≤ all.length := by
        have := congrArg List.length h0
        rw [List.length_append] at this
        omega
      have : num_Get (put x.A ++ (cond (op_c x.Op) (putText x.C) [] ++ (cond (op_m x.Op) (putText x.M) [] ++ rest))) = some (x.A, ((put x.A).length : Int), 0) := by
        rw [num_Get_eq (by unfold Len; omega), get_put _ _ hx.a.1 hx.a.2]
      rw [hcut, Option.bind_some, this, Option.bind_some]
      simp only
      rw [m2, wrapI (by omega) (by omega), List.length_append]
      simp
    rw [hn, Option.bind_some]
    exact g2 (put x.Op ++ put x.A) (by rw [h0]; simp)
theorem law3_begun_eq : law3_begun = some true := by
  have c1 : kind_May [91, 91, 65, 98] = some true := by rw [kind_May_eq (by decide)]; rfl
  have c2 : kind_May [65, 98] = some true := by rw [kind_May_eq (by decide)]; rfl
  have c3 : kind_Class [65, 98] = some true := by rw [kind_Class_eq (by decide)]; rfl
  have c4 : kind_Class [65] = some false := by rw [kind_Class_eq (by decide)]; rfl
  have c5 : kind_Name [97, 98] = some true := by rw [kind_Name_eq (by decide)]; rfl
  have c6 : kind_Name [36, 105, 110, 105, 116] = some true := by rw [kind_Name_eq (by decide)]; rfl
  have c7 : kind_Name [65, 98] = some false := by rw [kind_Name_eq (by decide)]; rfl
  have c8 : kind_May [91, 91, 73] = some true := by rw [kind_May_eq (by decide)]; rfl
  have c9 : kind_May [91, 91, 91, 73] = some false := by rw [kind_May_eq (by decide)]; rfl
  have c10 : kind_Ret [86] = some true := by rw [kind_Ret_eq (by decide)]; rfl
  have c11 : kind_May [86] = some false := by rw [kind_May_eq (by decide)]; rfl
  have c12 : kind_Ref [91, 73] = some true := by rw [kind_Ref_eq (by decide)]; rfl
  have c13 : kind_Ref [73] = some false := by rw [kind_Ref_eq (by decide)]; rfl
  have c14 : kind_May [73] = some true := by rw [kind_May_eq (by decide)]; rfl
  have c15 : kind_May [91, 73] = some true := by rw [kind_May_eq (by decide)]; rfl
  have e1 : kind_Elem [91, 91, 65, 98] = some ([91, 65, 98], true) := by unfold kind_Elem; rw [c1]; rfl
  have e2 : kind_Elem [65, 98] = some ([], false) := by unfold kind_Elem; rw [c2]; rfl
  have e3 : kind_Array [73] = some [91, 73] := by
    unfold kind_Array
    rw [c14, show catP [91] [73] = some [91, 73] from rfl, Option.bind_some, Option.bind_some, c15]; rfl
  have e4 : kind_Array [91, 91, 73] = some [] := by
    unfold kind_Array
    rw [c8, show catP [91] [91, 91, 73] = some [91, 91, 91, 73] from rfl, Option.bind_some, Option.bind_some, c9]; rfl
  unfold law3_begun
  rw [e1, e2, c3, c4, c5, c6, c7, c8, c9, c10, c11, c12, c13, e3, e4]
  rfl
theorem law3_Begun_eq : law3_Begun = some true := by unfold law3_Begun; rw [law3_begun_eq]; rfl
theorem law4_begun_eq : law4_begun = some true := by
  have hx : InsIn (ApiIns.mk 43 0 [65, 98] [102]) := ⟨by decide, by decide, by decide, by decide⟩
  have hm : mayIns (ApiIns.mk 43 0 [65, 98] [102]) = true := by decide +kernel
  have hp : putIns (ApiIns.mk 43 0 [65, 98] [102]) = [86, 4, 65, 98, 2, 102] := by decide +kernel
  have g1 := op_Get_put (rest := [1]) hx hm (by decide)
  have p1 := op_Put_eq (bs := []) hx (by decide)
  rw [hp] at g1 p1
  have m1 : op_May (ApiIns.mk 43 0 [65, 98] [102]) = some true := by rw [op_May_eq (by decide) (by decide), hm]
  have m2 : op_May (ApiIns.mk 43 0 [] []) = some false := by
    rw [op_May_eq (by decide) (by decide)]
    exact congrArg some (by decide +kernel)
  have ge : op_Get [] = some (ApiIns.mk 0 0 [] [], 0, 2) := by
    have : op_reader_num [] 0 0 = some (0, 0, 2) := by
      unfold op_reader_num
      rw [show cutP ([] : List UInt8) 0 (List.length ([] : List UInt8) : Int) = some [] from rfl, Option.bind_some, num_Get_eq (by decide)]
      rfl
    unfold op_Get
    rw [this]
    rfl
  have g0 : op_Get [(0 : UInt8)] = some (ApiIns.mk 0 0 [] [], 0, 1) := by
    have : op_reader_num [(0 : UInt8)] 0 0 = some (0, 1, 1) := by
      unfold op_reader_num
      rw [show cutP [(0 : UInt8)] 0 (List.length [(0 : UInt8)] : Int) = some [0] from rfl, Option.bind_some, num_Get_eq (by decide)]
      rfl
    unfold op_Get
    rw [this]
    rfl
  unfold law4_begun
  rw [p1, Option.bind_some, show appP 1 ([] : List UInt8) ([] ++ [86, 4, 65, 98, 2, 102]) = some [86, 4, 65, 98, 2, 102] from rfl, Option.bind_some, show appP 1 ([86, 4, 65, 98, 2, 102] : List UInt8) [(1 : UInt8)] = some ([86, 4, 65, 98, 2, 102] ++ [1]) from rfl, Option.bind_some, g1, ge, g0, law3_Begun_eq, m1, m2]
  decide +kernel
theorem law1_Cut_eq {s : List UInt8} {n : Nat} : law1_Cut s (n : Int) = some (s.take n) := by
  unfold law1_Cut
  by_cases h : n < s.length
  · rw [decide_eq_true (show (n : Int) < (s.length : Int) by omega), cutP_to (by omega)]; rfl
  · rw [decide_eq_false (show ¬ (n : Int) < (s.length : Int) by omega), List.take_of_length_le (by omega)]; rfl
end Go.Proofs.YthmnlfenkhmmhaaGreat
namespace Go.Proofs.YthmnlfenkhmmhaaGreat
set_option linter.unusedSimpArgs false
set_option linter.unusedVariables false
def ixF {α : Type} (p : α → Bool) : Nat → List α → Int
  | _, [] => -1
  | k, x :: r => cond (p x) (k : Int) (ixF p (k + 1) r)
theorem ixF_any {α : Type} (p : α → Bool) : ∀ (k : Nat) (l : List α), decide (0 ≤ ixF p k l) = l.any p
  | _, [] => rfl
  | k, x :: r => by
    unfold ixF
    rw [List.any_cons]
    cases p x with
    | true => exact decide_eq_true (show (0 : Int) ≤ (k : Int) by omega)
    | false => exact ixF_any p (k + 1) r
theorem index_loop {α : Type} {body : Int → Option (Sum Int (Sum Unit Int))} {l : List α} {p : α → Bool} (hl : l.length ≤ 9223372036854775807)
    (hb : ∀ (i : Nat) x, l[i]? = some x → body (i : Int) = cond (p x) (some (.inr (.inr (i : Int)))) (some (.inl (IntKind.i64.wrap ((i : Int) + 1)))))
    (he : body (l.length : Int) = some (.inr (.inl ()))) :
    (loopP body 0).bind (fun o => leave o (fun _ => some (-1 : Int)) some) = some (ixF p 0 l) := by
  have key : ∀ (r pre : List α), l = pre ++ r → (loopP body (pre.length : Int)).bind (fun o => leave o (fun _ => some (-1 : Int)) some) = some (ixF p pre.length r) := by
    intro r
    induction r with
    | nil =>
      intro pre h
      rw [List.append_nil] at h
      subst h
      rw [loopP_eq, he]
      rfl
    | cons x r ih =>
      intro pre h
      have hlen : l.length = pre.length + (r.length + 1) := by rw [h]; simp
      have hx : l[pre.length]? = some x := by rw [h]; simp
      rw [loopP_eq, hb _ x hx]
      unfold ixF
      cases p x with
      | true => rfl
      | false =>
        rw [wrap_succ (by omega)]
        have := ih (pre ++ [x]) (by rw [h]; simp)
        rw [show (pre ++ [x]).length = pre.length + 1 by simp] at this
        exact this
  exact key l [] rfl
def uB {α : Type} (ok : α → Bool) (nm : α → List UInt8) : List α → List α → Bool
  | _, [] => false
  | pre, x :: r => (!ok x || pre.any (fun y => nm x == nm y)) || uB ok nm (pre ++ [x]) r
theorem uniq_loop {α : Type} {body : Int → Option (Sum Int (Sum Unit Bool))} {l : List α} {ok : α → Bool} {nm : α → List UInt8} (hl : l.length ≤ 9223372036854775807)
    (hb : ∀ (i : Nat) x, l[i]? = some x → body (i : Int) = cond (!ok x || (l.take i).any (fun y => nm x == nm y)) (some (.inr (.inr false))) (some (.inl (IntKind.i64.wrap ((i : Int) + 1)))))
    (he : body (l.length : Int) = some (.inr (.inl ()))) {k : Option Bool} :
    (loopP body 0).bind (fun o => leave o (fun _ => k) some) = cond (uB ok nm [] l) (some false) k := by
  have key : ∀ (r pre : List α), l = pre ++ r → (loopP body (pre.length : Int)).bind (fun o => leave o (fun _ => k) some) = cond (uB ok nm pre r) (some false) k := by
    intro r
    induction r with
    | nil =>
      intro pre h
      rw [List.append_nil] at h
      subst h
      rw [loopP_eq, he]
      rfl
    | cons x r ih =>
      intro pre h
      have hlen : l.length = pre.length + (r.length + 1) := by rw [h]; simp
      have hx : l[pre.length]? = some x := by rw [h]; simp
      have ht : l.take pre.length = pre := by rw [h]; simp
      rw [loopP_eq, hb _ x hx, ht]
      unfold uB
      cases !ok x || pre.any (fun y => nm x == nm y) with
      | true => rfl
      | false =>
        rw [wrap_succ (by omega)]
        have := ih (pre ++ [x]) (by rw [h]; simp)
        rw [show (pre ++ [x]).length = pre.length + 1 by simp] at this
        exact this
  exact key l [] rfl
def eqL {α : Type} (e : α → α → Bool) : List α → List α → Bool
  | [], [] => true
  | x :: a, y :: b => e x y && eqL e a b
  | _, _ => false
theorem eqL_len {α : Type} (e : α → α → Bool) : ∀ (a b : List α), a.length ≠ b.length → eqL e a b = false
  | [], [], h => absurd rfl h
  | [], _ :: _, _ => rfl
  | _ :: _, [], _ => rfl
  | x :: a, y :: b, h => by
    show (e x y && eqL e a b) = false
    rw [eqL_len e a b (fun hh => h (by simp [hh])), Bool.and_false]
theorem equal_loop {α : Type} {body : Int → Option (Sum Int (Sum Unit Bool))} {a b : List α} {e : α → α → Bool} (hl : a.length ≤ 9223372036854775807)
    (hb : ∀ (i : Nat) x y, a[i]? = some x → b[i]? = some y → body (i : Int) = cond (!e x y) (some (.inr (.inr false))) (some (.inl (IntKind.i64.wrap ((i : Int) + 1)))))
    (he : body (a.length : Int) = some (.inr (.inl ()))) :
    cond (!((a.length : Int) == (b.length : Int))) (some false) ((loopP body 0).bind (fun o => leave o (fun _ => some true) some)) = some (eqL e a b) := by
  by_cases hn : a.length = b.length
  · have key : ∀ (r s pre pre' : List α), pre.length = pre'.length → a = pre ++ r → b = pre' ++ s → (loopP body (pre.length : Int)).bind (fun o => leave o (fun _ => some true) some) = some (eqL e r s) := by
      intro r
      induction r with
      | nil =>
        intro s pre pre' hp h1 h2
        have : s = [] := by
          have : a.length = pre.length := by rw [h1]; simp
          have : b.length = pre'.length + s.length := by rw [h2]; simp
          exact List.eq_nil_of_length_eq_zero (by omega)
        subst this
        rw [List.append_nil] at h1
        subst h1
        rw [loopP_eq, he]
        rfl
      | cons x r ih =>
        intro s pre pre' hp h1 h2
        have hlen : a.length = pre.length + (r.length + 1) := by rw [h1]; simp
        have hlen2 : b.length = pre'.length + s.length := by rw [h2]; simp
        cases s with
        | nil => simp at hlen2; omega
        | cons y s =>
          have hx : a[pre.length]? = some x := by rw [h1]; simp
          have hy : b[pre.length]? = some y := by rw [h2, hp]; simp
          rw [loopP_eq, hb _ x y hx hy]
          show _ = some (e x y && eqL e r s)
          cases e x y with
          | false => rfl
          | true =>
            rw [wrap_succ (by omega)]
            have := ih s (pre ++ [x]) (pre' ++ [y]) (by simp [hp]) (by rw [h1]; simp) (by rw [h2]; simp)
            rw [show (pre ++ [x]).length = pre.length + 1 by simp] at this
            exact this
    rw [show ((a.length : Int) == (b.length : Int)) = true from beq_iff_eq.2 (by omega)]
    exact key a b [] [] rfl rfl rfl
  · rw [eqL_len e a b hn, show ((a.length : Int) == (b.length : Int)) = false from beq_eq_false_iff_ne.2 (by omega)]
    rfl
abbrev LenL {α : Type} (l : List α) : Prop := l.length ≤ 9223372036854775807
theorem here {α : Type} {l : List α} {i : Nat} {x : α} (h : l[i]? = some x) : decide ((i : Int) < (l.length : Int)) = true :=
  decide_eq_true (by have := (List.getElem?_eq_some_iff.1 h).1; omega)
theorem past {α : Type} (l : List α) : decide ((l.length : Int) < (l.length : Int)) = false := decide_eq_false (by omega)
theorem hasField {l : List ApiField} (hl : LenL l) (n t : List UInt8) (s : Bool) : slices_ContainsFunc_api_Field_api_Field l n t s = some (l.any fun y => n == y.Name) := by
  unfold slices_ContainsFunc_api_Field_api_Field slices_IndexFunc_api_Field_api_Field
  rw [show ((loopP (fun z => slices_IndexFunc_api_Field_api_Field_l1 l n t s z) 0).bind fun o => leave o (fun b => slices_IndexFunc_api_Field_api_Field_k2) some) = _ from index_loop (p := fun y : ApiField => n == y.Name) hl
    (fun i x hx => by unfold slices_IndexFunc_api_Field_api_Field_l1; rw [here hx, idx_nat, hx]; rfl) (by unfold slices_IndexFunc_api_Field_api_Field_l1; rw [past]; rfl)]
  exact congrArg some (ixF_any _ 0 l)
theorem hasMethod {l : List ApiMethod} (hl : LenL l) (n : List UInt8) (a b c d e f g h i) : slices_ContainsFunc_api_Method_api_Method l n a b c d e f g h i = some (l.any fun y => n == y.Name) := by
  unfold slices_ContainsFunc_api_Method_api_Method slices_IndexFunc_api_Method_api_Method
  rw [show ((loopP (fun z => slices_IndexFunc_api_Method_api_Method_l1 l n a b c d e f g h i z) 0).bind fun o => leave o (fun b => slices_IndexFunc_api_Method_api_Method_k2) some) = _ from index_loop (p := fun y : ApiMethod => n == y.Name) hl
    (fun i x hx => by unfold slices_IndexFunc_api_Method_api_Method_l1; rw [here hx, idx_nat, hx]; rfl) (by unfold slices_IndexFunc_api_Method_api_Method_l1; rw [past]; rfl)]
  exact congrArg some (ixF_any _ 0 l)
theorem hasName {l : List (List UInt8)} (hl : LenL l) (n : List UInt8) : slices_ContainsFunc_string_string_s3 l n = some (l.any fun y => n == y) := by
  unfold slices_ContainsFunc_string_string_s3 slices_IndexFunc_string_string_s3
  rw [show ((loopP (fun z => slices_IndexFunc_string_string_s3_l1 l n z) 0).bind fun o => leave o (fun b => slices_IndexFunc_string_string_s3_k2) some) = _ from index_loop (p := fun y : List UInt8 => n == y) hl
    (fun i x hx => by unfold slices_IndexFunc_string_string_s3_l1; rw [here hx, idx_nat, hx]; rfl) (by unfold slices_IndexFunc_string_string_s3_l1; rw [past]; rfl)]
  exact congrArg some (ixF_any _ 0 l)
theorem class_Method_eq {c : ApiClass} (hl : LenL c.Methods) (n : List UInt8) : class_Method c n = some (ixF (fun y => y.Name == n) 0 c.Methods) := by
  unfold class_Method slices_IndexFunc_api_Method_api_Method_s2
  rw [show ((loopP (fun z => slices_IndexFunc_api_Method_api_Method_s2_l1 c.Methods n z) 0).bind fun o => leave o (fun b => slices_IndexFunc_api_Method_api_Method_s2_k2) some) = _ from index_loop (p := fun y : ApiMethod => y.Name == n) hl
    (fun i x hx => by unfold slices_IndexFunc_api_Method_api_Method_s2_l1; rw [here hx, idx_nat, hx]; rfl) (by unfold slices_IndexFunc_api_Method_api_Method_s2_l1; rw [past]; rfl)]
  rfl
theorem class_Field_eq {c : ApiClass} (hl : LenL c.Fields) (n : List UInt8) : class_Field c n = some (ixF (fun y => y.Name == n) 0 c.Fields) := by
  unfold class_Field slices_IndexFunc_api_Field_api_Field_s2
  rw [show ((loopP (fun z => slices_IndexFunc_api_Field_api_Field_s2_l1 c.Fields n z) 0).bind fun o => leave o (fun b => slices_IndexFunc_api_Field_api_Field_s2_k2) some) = _ from index_loop (p := fun y : ApiField => y.Name == n) hl
    (fun i x hx => by unfold slices_IndexFunc_api_Field_api_Field_s2_l1; rw [here hx, idx_nat, hx]; rfl) (by unfold slices_IndexFunc_api_Field_api_Field_s2_l1; rw [past]; rfl)]
  rfl
noncomputable def fieldN (f : ApiField) : Bool := (nameN f.Name && !(f.Name == [36, 105, 110, 105, 116])) && mayN f.Type_
theorem class_May_2_eq {f : ApiField} (h1 : Len f.Name) (h2 : Len f.Type_) : class_May_2 f = some (fieldN f) := by
  unfold class_May_2 fieldN
  rw [kind_Name_eq h1, kind_May_eq h2, Option.bind_some]
  cases (nameN f.Name && !(f.Name == [36, 105, 110, 105, 116])) <;> rfl
theorem allFields {l : List ApiField} (hl : LenL l) (h : ∀ f ∈ l, Len f.Name ∧ Len f.Type_) (n : Int) : class_all_api_Field l n = cond (uB fieldN (·.Name) [] l) (some false) (some (decide ((l.length : Int) ≤ n))) := by
  unfold class_all_api_Field
  refine uniq_loop (ok := fieldN) (nm := (·.Name)) hl (fun i x hx => ?_) ?_
  · have hm := h x (List.mem_of_getElem? hx)
    have hi := (List.getElem?_eq_some_iff.1 hx).1
    unfold class_all_api_Field_l1
    rw [here hx, idx_nat, hx]
    simp only [Option.bind_some, cond_true]
    rw [class_May_2_eq hm.1 hm.2, Option.bind_some, cutP_to (by omega), Option.bind_some, hasField (by unfold LenL at *; rw [List.length_take]; omega)]
    cases fieldN x <;> rfl
  · unfold class_all_api_Field_l1
    rw [past]; rfl
theorem allNames {l : List (List UInt8)} (hl : LenL l) (h : ∀ s ∈ l, Len s) (n : Int) : class_all_string l n = cond (uB classN id [] l) (some false) (some (decide ((l.length : Int) ≤ n))) := by
  unfold class_all_string
  refine uniq_loop (ok := classN) (nm := id) hl (fun i x hx => ?_) ?_
  · have hm := h x (List.mem_of_getElem? hx)
    have hi := (List.getElem?_eq_some_iff.1 hx).1
    unfold class_all_string_l1
    rw [here hx, idx_nat, hx]
    simp only [Option.bind_some, cond_true]
    rw [kind_Class_eq hm, Option.bind_some, cutP_to (by omega), Option.bind_some, hasName (by unfold LenL at *; rw [List.length_take]; omega)]
    cases classN x <;> rfl
  · unfold class_all_string_l1
    rw [past]; rfl
noncomputable def typesN (l : List (List UInt8)) : Bool := !(l.any fun s => !mayN s)
theorem class_types_eq {l : List (List UInt8)} (hl : LenL l) (h : ∀ s ∈ l, Len s) : class_types l = some (typesN l) := by
  unfold class_types slices_ContainsFunc_string_string slices_IndexFunc_string_string
  rw [show ((loopP (fun z => slices_IndexFunc_string_string_l1 l z) 0).bind fun o => leave o (fun b => slices_IndexFunc_string_string_k2) some) = _ from index_loop (p := fun s => !mayN s) hl
    (fun i x hx => by
      unfold slices_IndexFunc_string_string_l1 class_types_1
      rw [here hx, idx_nat, hx]
      simp only [Option.bind_some, cond_true]
      rw [kind_May_eq (h x (List.mem_of_getElem? hx))]
      rfl) (by unfold slices_IndexFunc_string_string_l1; rw [past]; rfl)]
  rw [Option.bind_some, ixF_any]
  rfl
noncomputable def insN (n : Int) (x : ApiIns) : Bool := (!mayIns x) || (op_Jumps x.Op && decide (n ≤ x.A))
noncomputable def instrN (c : List ApiIns) : Bool := class_between (c.length : Int) 1 100 && (c.getLast?.elim false (fun y => op_Ends y.Op) && !(c.any (insN (c.length : Int))))
theorem class_instructions_eq {m : ApiMethod} (hl : LenL m.Code) (h : ∀ x ∈ m.Code, Len x.C ∧ Len x.M) : class_instructions m = some (instrN m.Code) := by
  have hc : slices_ContainsFunc_api_Ins_api_Ins m.Code (m.Code.length : Int) = some (m.Code.any (insN (m.Code.length : Int))) := by
    unfold slices_ContainsFunc_api_Ins_api_Ins slices_IndexFunc_api_Ins_api_Ins
    rw [show ((loopP (fun z => slices_IndexFunc_api_Ins_api_Ins_l1 m.Code (m.Code.length : Int) z) 0).bind fun o => leave o (fun b => slices_IndexFunc_api_Ins_api_Ins_k2) some) = _ from index_loop (p := insN (m.Code.length : Int)) hl
      (fun i x hx => by
        have hm := h x (List.mem_of_getElem? hx)
        unfold slices_IndexFunc_api_Ins_api_Ins_l1 class_instructions_1
        rw [here hx, idx_nat, hx]
        simp only [Option.bind_some, cond_true]
        rw [op_May_eq hm.1 hm.2]
        rfl) (by unfold slices_IndexFunc_api_Ins_api_Ins_l1; rw [past]; rfl)]
    exact congrArg some (ixF_any _ 0 _)
  unfold class_instructions instrN
  rw [hc]
  cases hb : class_between (m.Code.length : Int) 1 100 with
  | false => rfl
  | true =>
    have hb' : (decide (1 ≤ (m.Code.length : Int)) && decide ((m.Code.length : Int) ≤ 100)) = true := hb
    simp only [Bool.and_eq_true, decide_eq_true_eq] at hb'
    have e : IntKind.i64.wrap ((m.Code.length : Int) - 1) = ((m.Code.length - 1 : Nat) : Int) := by
      rw [wrapI (by omega) (by omega)]; omega
    rw [e, idx_nat, ← List.getLast?_eq_getElem?]
    cases hg : m.Code.getLast? with
    | none =>
      rw [List.getLast?_eq_none_iff] at hg
      rw [hg] at hb'
      simp at hb'
    | some y =>
      simp only [Option.bind_some, Bool.not_true, cond_false, Option.elim_some, Bool.true_and]
      cases op_Ends y.Op <;> rfl
noncomputable def trapN (n : Int) (y : ApiTrap) : Bool := (((decide (y.From < 0) || decide (y.To ≤ y.From)) || decide (n < y.To)) || !(class_between y.At 0 (IntKind.i64.wrap (n - 1)))) || (!(y.C == []) && !classN y.C)
noncomputable def trapsN (m : ApiMethod) : Bool := !(m.Traps.any (trapN (m.Code.length : Int))) && decide ((m.Traps.length : Int) ≤ 6)
theorem class_traps_eq {m : ApiMethod} (hl : LenL m.Traps) (h : ∀ x ∈ m.Traps, Len x.C) : class_traps m = some (trapsN m) := by
  unfold class_traps slices_ContainsFunc_api_Trap_api_Trap slices_IndexFunc_api_Trap_api_Trap
  rw [show ((loopP (fun z => slices_IndexFunc_api_Trap_api_Trap_l1 m.Traps m.Name m.Params m.Ret m.Static m.Abstract m.Locals m.Stack m.Code m.Maps m.Traps z) 0).bind fun o => leave o (fun b => slices_IndexFunc_api_Trap_api_Trap_k2) some) = _ from index_loop (p := trapN (m.Code.length : Int)) hl
    (fun i x hx => by
      have hm := h x (List.mem_of_getElem? hx)
      unfold slices_IndexFunc_api_Trap_api_Trap_l1 class_traps_1 trapN
      rw [here hx, idx_nat, hx]
      simp only [Option.bind_some, cond_true]
      rw [kind_Class_eq hm]
      cases (((decide (x.From < 0) || decide (x.To ≤ x.From)) || decide ((m.Code.length : Int) < x.To)) || !(class_between x.At 0 (IntKind.i64.wrap ((m.Code.length : Int) - 1)))) with
      | true => rfl
      | false => cases (x.C == []) <;> rfl) (by unfold slices_IndexFunc_api_Trap_api_Trap_l1; rw [past]; rfl)]
  rw [Option.bind_some, ixF_any]
  rfl
structure MIn (m : ApiMethod) : Prop where
  name : Len m.Name
  params : LenL m.Params ∧ ∀ s ∈ m.Params, Len s
  ret : Len m.Ret
  code : LenL m.Code ∧ ∀ x ∈ m.Code, Len x.C ∧ Len x.M
  maps : m.Maps = []
  traps : LenL m.Traps ∧ ∀ x ∈ m.Traps, Len x.C
noncomputable def methodN (m : ApiMethod) : Bool :=
  ((!((!nameN m.Name) || decide (6 < (m.Params.length : Int))) && typesN m.Params) && retN m.Ret) && cond m.Abstract (class_empty m)
    (!((m.Name == [36, 105, 110, 105, 116]) && (((!m.Static) || decide (0 < (m.Params.length : Int))) || (!(m.Ret == [86])))) && (class_between m.Locals (class_args m) 16 && (class_between m.Stack 0 16 && (instrN m.Code && trapsN m))))
theorem class_method_eq {m : ApiMethod} (h : MIn m) : class_method m = some (methodN m) := by
  have hm : class_maps m = some true := by
    unfold class_maps
    rw [loopP_eq]
    show ((class_maps_l3 m 0).bind _).bind _ = _
    unfold class_maps_l3 class_maps_k4
    rw [h.maps]
    rfl
  unfold class_method methodN
  rw [kind_Name_eq h.name, Option.bind_some, class_types_eq h.params.1 h.params.2, kind_Ret_eq h.ret, class_instructions_eq h.code.1 h.code.2, hm, class_traps_eq h.traps.1 h.traps.2]
  cases ((!nameN m.Name) || decide (6 < (m.Params.length : Int))) with
  | true => rfl
  | false =>
    cases typesN m.Params with
    | false => rfl
    | true =>
      cases retN m.Ret with
      | false => rfl
      | true =>
        cases m.Abstract with
        | true => rfl
        | false =>
          cases ((m.Name == [36, 105, 110, 105, 116]) && (((!m.Static) || decide (0 < (m.Params.length : Int))) || (!(m.Ret == [86])))) with
          | true => rfl
          | false =>
            cases class_between m.Locals (class_args m) 16 with
            | false => rfl
            | true =>
              cases class_between m.Stack 0 16 with
              | false => rfl
              | true => cases instrN m.Code <;> rfl
theorem allMethods {l : List ApiMethod} (hl : LenL l) (h : ∀ m ∈ l, MIn m) (n : Int) (a b : List UInt8) (i : Bool) (c : List (List UInt8)) (d : List ApiField) (e : List ApiMethod) :
    class_all_api_Method l n a b i c d e = cond (uB (fun m => (m.Abstract == i) && methodN m) (·.Name) [] l) (some false) (some (decide ((l.length : Int) ≤ n))) := by
  unfold class_all_api_Method
  refine uniq_loop (ok := fun m => (m.Abstract == i) && methodN m) (nm := (·.Name)) hl (fun j x hx => ?_) ?_
  · have hm := h x (List.mem_of_getElem? hx)
    have hi := (List.getElem?_eq_some_iff.1 hx).1
    unfold class_all_api_Method_l1 class_May_4
    rw [here hx, idx_nat, hx]
    simp only [Option.bind_some, cond_true]
    rw [class_method_eq hm, cutP_to (by omega)]
    simp only [Option.bind_some]
    rw [hasMethod (by unfold LenL at *; rw [List.length_take]; omega)]
    cases (x.Abstract == i) with
    | false => rfl
    | true => cases methodN x <;> rfl
  · unfold class_all_api_Method_l1
    rw [past]; rfl
structure CIn (c : ApiClass) : Prop where
  name : Len c.Name
  super : Len c.Super
  impl : LenL c.Impl ∧ ∀ s ∈ c.Impl, Len s
  fields : LenL c.Fields ∧ ∀ f ∈ c.Fields, Len f.Name ∧ Len f.Type_
  methods : LenL c.Methods ∧ ∀ m ∈ c.Methods, MIn m
noncomputable def mayClass (c : ApiClass) : Bool :=
  !(c.Interface && ((!(c.Super == [79, 98, 106, 101, 99, 116])) || decide (0 < (c.Fields.length : Int)))) &&
  (((((classN c.Name && classN c.Super) && (!(uB classN id [] c.Impl) && decide ((c.Impl.length : Int) ≤ 4))) && (!(uB fieldN (·.Name) [] c.Fields) && decide ((c.Fields.length : Int) ≤ 8)))) &&
    (!(uB (fun m => (m.Abstract == c.Interface) && methodN m) (·.Name) [] c.Methods) && decide ((c.Methods.length : Int) ≤ 8)))
theorem class_May_eq {c : ApiClass} (h : CIn c) : class_May c = some (mayClass c) := by
  have e : ∀ (b d : Bool), cond b (some false) (some d) = some (!b && d) := fun b d => by cases b <;> rfl
  unfold class_May mayClass
  rw [allFields h.fields.1 h.fields.2, allMethods h.methods.1 h.methods.2, kind_Class_eq h.name, kind_Class_eq h.super, allNames h.impl.1 h.impl.2, e, e, e]
  cases (c.Interface && ((!(c.Super == [79, 98, 106, 101, 99, 116])) || decide (0 < (c.Fields.length : Int)))) with
  | true => rfl
  | false =>
    cases classN c.Name with
    | false => rfl
    | true => cases classN c.Super <;> rfl
end Go.Proofs.YthmnlfenkhmmhaaGreat
namespace Go.Proofs.YthmnlfenkhmmhaaGreat
set_option linter.unusedSimpArgs false
set_option linter.unusedVariables false
def beqS (x y : List UInt8) : Bool := x == y
theorem eqStr {a b : List (List UInt8)} (hl : LenL a) : slices_Equal_string_string a b = some (eqL beqS a b) := by
  unfold slices_Equal_string_string
  refine equal_loop hl (fun i x y hx hy => ?_) ?_
  · unfold slices_Equal_string_string_l1
    rw [here hx, idx_nat, idx_nat, hx, hy]; rfl
  · unfold slices_Equal_string_string_l1
    rw [past]; rfl
def beqF (x y : ApiField) : Bool := (x.Name == y.Name) && ((x.Type_ == y.Type_) && ((x.Static == y.Static) && true))
theorem eqFields {a b : List ApiField} (hl : LenL a) : slices_Equal_api_Field_api_Field a b = some (eqL beqF a b) := by
  unfold slices_Equal_api_Field_api_Field
  refine equal_loop hl (fun i x y hx hy => ?_) ?_
  · unfold slices_Equal_api_Field_api_Field_l1
    rw [here hx, idx_nat, idx_nat, hx, hy]; rfl
  · unfold slices_Equal_api_Field_api_Field_l1
    rw [past]; rfl
def beqI (x y : ApiIns) : Bool := (x.Op == y.Op) && ((x.A == y.A) && ((x.C == y.C) && ((x.M == y.M) && true)))
theorem eqCode {a b : List ApiIns} (hl : LenL a) : slices_Equal_api_Ins_api_Ins a b = some (eqL beqI a b) := by
  unfold slices_Equal_api_Ins_api_Ins
  refine equal_loop hl (fun i x y hx hy => ?_) ?_
  · unfold slices_Equal_api_Ins_api_Ins_l1
    rw [here hx, idx_nat, idx_nat, hx, hy]; rfl
  · unfold slices_Equal_api_Ins_api_Ins_l1
    rw [past]; rfl
def beqT (x y : ApiTrap) : Bool := (x.From == y.From) && ((x.To == y.To) && ((x.At == y.At) && ((x.C == y.C) && true)))
theorem eqTraps {a b : List ApiTrap} (hl : LenL a) : slices_Equal_api_Trap_api_Trap a b = some (eqL beqT a b) := by
  unfold slices_Equal_api_Trap_api_Trap
  refine equal_loop hl (fun i x y hx hy => ?_) ?_
  · unfold slices_Equal_api_Trap_api_Trap_l1
    rw [here hx, idx_nat, idx_nat, hx, hy]; rfl
  · unfold slices_Equal_api_Trap_api_Trap_l1
    rw [past]; rfl
def beqMap (x y : ApiMap) : Bool := ((x.At == y.At) && eqL beqS x.Locals y.Locals) && eqL beqS x.Stack y.Stack
theorem class_eqMethod_1_eq {x y : ApiMap} (h1 : LenL x.Locals) (h2 : LenL x.Stack) : class_eqMethod_1 x y = some (beqMap x y) := by
  unfold class_eqMethod_1 beqMap
  rw [eqStr h1, eqStr h2]
  cases (x.At == y.At) with
  | false => rfl
  | true => cases eqL beqS x.Locals y.Locals <;> rfl
theorem eqMaps {a b : List ApiMap} (hl : LenL a) (h : ∀ x ∈ a, LenL x.Locals ∧ LenL x.Stack) : slices_EqualFunc_api_Map_api_Map_api_Map_api_Map a b = some (eqL beqMap a b) := by
  unfold slices_EqualFunc_api_Map_api_Map_api_Map_api_Map
  refine equal_loop hl (fun i x y hx hy => ?_) ?_
  · have hm := h x (List.mem_of_getElem? hx)
    unfold slices_EqualFunc_api_Map_api_Map_api_Map_api_Map_l1
    rw [here hx, idx_nat, idx_nat, hx, hy]
    simp only [Option.bind_some, cond_true]
    rw [class_eqMethod_1_eq hm.1 hm.2]
    rfl
  · unfold slices_EqualFunc_api_Map_api_Map_api_Map_api_Map_l1
    rw [past]; rfl
structure EIn (m : ApiMethod) : Prop where
  params : LenL m.Params
  code : LenL m.Code
  maps : LenL m.Maps ∧ ∀ x ∈ m.Maps, LenL x.Locals ∧ LenL x.Stack
  traps : LenL m.Traps
def beqM (x y : ApiMethod) : Bool :=
  ((((eqL beqMap x.Maps y.Maps && (((((x.Name == y.Name) && eqL beqS x.Params y.Params) && (x.Ret == y.Ret)) && (x.Static == y.Static)) && (x.Abstract == y.Abstract))) && (x.Locals == y.Locals)) && (x.Stack == y.Stack)) && eqL beqI x.Code y.Code) && eqL beqT x.Traps y.Traps
theorem class_eqMethod_eq {x y : ApiMethod} (h : EIn x) : class_eqMethod x y = some (beqM x y) := by
  unfold class_eqMethod beqM
  rw [eqMaps h.maps.1 h.maps.2, eqStr h.params, eqCode h.code, eqTraps h.traps]
  simp only [Option.bind_some]
  simp only [show ∀ b d : Bool, (cond b (some d) (some false)) = some (b && d) from fun b d => by cases b <;> rfl, Option.bind_some]
theorem eqMethods {a b : List ApiMethod} (hl : LenL a) (h : ∀ x ∈ a, EIn x) : slices_EqualFunc_api_Method_api_Method_api_Method_api_Method a b = some (eqL beqM a b) := by
  unfold slices_EqualFunc_api_Method_api_Method_api_Method_api_Method
  refine equal_loop hl (fun i x y hx hy => ?_) ?_
  · have hm := h x (List.mem_of_getElem? hx)
    unfold slices_EqualFunc_api_Method_api_Method_api_Method_api_Method_l1
    rw [here hx, idx_nat, idx_nat, hx, hy]
    simp only [Option.bind_some, cond_true]
    rw [class_eqMethod_eq hm]
    rfl
  · unfold slices_EqualFunc_api_Method_api_Method_api_Method_api_Method_l1
    rw [past]; rfl
structure ECIn (c : ApiClass) : Prop where
  impl : LenL c.Impl
  fields : LenL c.Fields
  methods : LenL c.Methods ∧ ∀ m ∈ c.Methods, EIn m
def beqC (x y : ApiClass) : Bool := (((((x.Name == y.Name) && (x.Super == y.Super)) && (x.Interface == y.Interface)) && eqL beqS x.Impl y.Impl) && eqL beqF x.Fields y.Fields) && eqL beqM x.Methods y.Methods
theorem class_Eq_eq {x y : ApiClass} (h : ECIn x) : class_Eq x y = some (beqC x y) := by
  unfold class_Eq beqC
  rw [eqStr h.impl, eqFields h.fields, eqMethods h.methods.1 h.methods.2]
  simp only [Option.bind_some]
  simp only [show ∀ b d : Bool, (cond b (some d) (some false)) = some (b && d) from fun b d => by cases b <;> rfl, Option.bind_some]
def meth (n : List UInt8) : ApiMethod := ApiMethod.mk n [] [86] true false 0 0 [ApiIns.mk 46 0 [] []] [] []
theorem meth_in {n : List UInt8} (h : Len n) : MIn (meth n) := by
  refine ⟨h, ⟨(Nat.le_of_ble_eq_true rfl), fun s hs => by cases hs⟩, (Nat.le_of_ble_eq_true rfl), ⟨(Nat.le_of_ble_eq_true rfl), fun x hx => ?_⟩, rfl, ⟨(Nat.le_of_ble_eq_true rfl), fun x hx => by cases hx⟩⟩
  obtain rfl : x = ApiIns.mk 46 0 [] [] := List.mem_singleton.1 hx
  exact ⟨by decide, by decide⟩
theorem law5_begun_eq : law5_begun = some true := by
  have i0 : ∀ n k, CIn (ApiClass.mk n k false [] [ApiField.mk [120] [73] false] [meth [109, 97, 105, 110]]) → True := fun _ _ _ => trivial
  have c0 : CIn (ApiClass.mk [65, 98] [79, 98, 106, 101, 99, 116] false [] [ApiField.mk [120] [73] false] [meth [109, 97, 105, 110]]) := by
    refine ⟨by decide, by decide, ⟨by decide, fun s hs => by cases hs⟩, ⟨by decide, fun f hf => ?_⟩, ⟨by decide, fun f hf => ?_⟩⟩
    · obtain rfl := List.mem_singleton.1 hf
      exact ⟨by decide, by decide⟩
    · obtain rfl := List.mem_singleton.1 hf
      exact meth_in (by decide)
  have c1 : CIn (ApiClass.mk [65, 98] [] false [] [] []) := by
    refine ⟨by decide, by decide, ⟨by decide, fun s hs => by cases hs⟩, ⟨by decide, fun f hf => by cases hf⟩, ⟨by decide, fun f hf => by cases hf⟩⟩
  have e0 : ECIn (ApiClass.mk [65, 98] [79, 98, 106, 101, 99, 116] false [] [ApiField.mk [120] [73] false] [meth [109, 97, 105, 110]]) := by
    refine ⟨by decide, by decide, ⟨by decide, fun f hf => ?_⟩⟩
    obtain rfl := List.mem_singleton.1 hf
    exact ⟨by decide, by decide, ⟨by decide, fun x hx => by cases hx⟩, by decide⟩
  have m0 := class_May_eq c0
  have m1 := class_May_eq c1
  have q0 := class_Eq_eq (y := ApiClass.mk [65, 98] [79, 98, 106, 101, 99, 116] false [] [ApiField.mk [120] [73] false] [meth [109, 97, 105, 110]]) e0
  have q1 := class_Eq_eq (y := ApiClass.mk [65, 98] [79, 98, 106, 101, 99, 116] false [] [ApiField.mk [120] [73] false] [ApiMethod.mk [109, 97, 105, 110] [] [86] true false 1 0 [ApiIns.mk 46 0 [] []] [] []]) e0
  have f0 := fun n => class_Field_eq (n := n) c0.fields.1
  have g0 := fun n => class_Method_eq (n := n) c0.methods.1
  unfold meth at m0 q0 q1 f0 g0
  unfold law5_begun
  rw [show law4_Begun = some true from (by unfold law4_Begun; rw [law4_begun_eq]; rfl), m0, m1, q0, q1, f0, f0, g0, g0]
  decide +kernel
end Go.Proofs.YthmnlfenkhmmhaaGreat
namespace Go.Proofs.YthmnlfenkhmmhaaGreat
set_option linter.unusedSimpArgs false
set_option linter.unusedVariables false
def gB {α : Type} (bad : List α → α → Bool) : List α → List α → Bool
  | _, [] => false
  | pre, x :: r => bad pre x || gB bad (pre ++ [x]) r
theorem gen_loop {α : Type} {body : Int → Option (Sum Int (Sum Unit Bool))} {l : List α} {bad : List α → α → Bool} (hl : l.length ≤ 9223372036854775807)
    (hb : ∀ (i : Nat) x, l[i]? = some x → body (i : Int) = cond (bad (l.take i) x) (some (.inr (.inr false))) (some (.inl (IntKind.i64.wrap ((i : Int) + 1)))))
    (he : body (l.length : Int) = some (.inr (.inl ()))) : loopP body 0 = some (cond (gB bad [] l) (.inr false) (.inl ())) := by
  have key : ∀ (r pre : List α), l = pre ++ r → loopP body (pre.length : Int) = some (cond (gB bad pre r) (.inr false) (.inl ())) := by
    intro r
    induction r with
    | nil =>
      intro pre h
      rw [List.append_nil] at h
      subst h
      rw [loopP_eq, he]
      rfl
    | cons x r ih =>
      intro pre h
      have hlen : l.length = pre.length + (r.length + 1) := by rw [h]; simp
      have hx : l[pre.length]? = some x := by rw [h]; simp
      have ht : l.take pre.length = pre := by rw [h]; simp
      rw [loopP_eq, hb _ x hx, ht]
      unfold gB
      cases bad pre x with
      | true => rfl
      | false =>
        rw [wrap_succ (by omega)]
        have := ih (pre ++ [x]) (by rw [h]; simp)
        rw [show (pre ++ [x]).length = pre.length + 1 by simp] at this
        exact this
  exact key l [] rfl
noncomputable def slotN (v : List UInt8) : Bool := (((v == [73]) || (v == [78])) || (v == [84])) || refN v
theorem class_slot_eq {s : List UInt8} (h : Len s) : class_slot s = some (slotN s) := by
  unfold class_slot slotN
  rw [kind_Ref_eq h]
  cases (((s == [73]) || (s == [78])) || (s == [84])) <;> rfl
noncomputable def slotsN (l : List (List UInt8)) : Bool := !(l.any fun s => !slotN s)
theorem class_types_s2_eq {l : List (List UInt8)} (hl : LenL l) (h : ∀ s ∈ l, Len s) : class_types_s2 l = some (slotsN l) := by
  unfold class_types_s2 slices_ContainsFunc_string_string_s2 slices_IndexFunc_string_string_s2
  rw [show ((loopP (fun z => slices_IndexFunc_string_string_s2_l1 l z) 0).bind fun o => leave o (fun b => slices_IndexFunc_string_string_s2_k2) some) = _ from index_loop (p := fun s => !slotN s) hl
    (fun i x hx => by
      unfold slices_IndexFunc_string_string_s2_l1 class_types_1_s2
      rw [here hx, idx_nat, hx]
      simp only [Option.bind_some, cond_true]
      rw [class_slot_eq (h x (List.mem_of_getElem? hx))]
      rfl) (by unfold slices_IndexFunc_string_string_s2_l1; rw [past]; rfl)]
  rw [Option.bind_some, ixF_any]
  rfl
theorem hasText {l : List (List UInt8)} (hl : LenL l) (n : List UInt8) : slices_Contains_string_string l n = some (l.any fun y => n == y) := by
  unfold slices_Contains_string_string slices_Index_string_string
  rw [show ((loopP (fun z => slices_Index_string_string_l1 l n z) 0).bind fun o => leave o (fun b => slices_Index_string_string_k2) some) = _ from index_loop (p := fun y : List UInt8 => n == y) hl
    (fun i x hx => by unfold slices_Index_string_string_l1; rw [here hx, idx_nat, hx]; rfl) (by unfold slices_Index_string_string_l1; rw [past]; rfl)]
  exact congrArg some (ixF_any _ 0 l)
noncomputable def mapB (m : ApiMethod) (pre : List ApiMap) (x : ApiMap) : Bool :=
  ((!(decide (0 ≤ x.At) && decide (x.At < (m.Code.length : Int)))) || (pre.getLast?.elim false (fun y => decide (x.At ≤ y.At)))) ||
  (((!((x.Locals.length : Int) == m.Locals)) || decide (m.Stack < (x.Stack.length : Int))) || ((!slotsN x.Locals || !slotsN x.Stack) || x.Stack.any (fun y => [84] == y)))
noncomputable def mapsN (m : ApiMethod) : Bool := !(gB (mapB m) [] m.Maps) && decide ((m.Maps.length : Int) ≤ 100)
structure MapsIn (m : ApiMethod) : Prop where
  len : LenL m.Maps
  code : LenL m.Code
  all : ∀ x ∈ m.Maps, (LenL x.Locals ∧ ∀ s ∈ x.Locals, Len s) ∧ (LenL x.Stack ∧ ∀ s ∈ x.Stack, Len s)
theorem take_last {α : Type} {l : List α} {i : Nat} (h : i < l.length) (h0 : 0 < i) : (l.take i).getLast? = l[i - 1]? := by
  rw [List.getLast?_eq_getElem?, List.getElem?_take_of_lt (by simp; omega)]
  congr 1
  simp; omega
theorem class_maps_eq {m : ApiMethod} (h : MapsIn m) : class_maps m = some (mapsN m) := by
  have j2 : ∀ (i : Nat) (x : ApiMap) (b : Bool), x ∈ m.Maps → class_maps_j2 m (i : Int) x b = cond (b || (((!((x.Locals.length : Int) == m.Locals)) || decide (m.Stack < (x.Stack.length : Int))) || ((!slotsN x.Locals || !slotsN x.Stack) || x.Stack.any (fun y => [84] == y)))) (some (.inr (.inr false))) (some (.inl (IntKind.i64.wrap ((i : Int) + 1)))) := fun i x b hx => by
    obtain ⟨⟨h1, h2⟩, h3, h4⟩ := h.all x hx
    unfold class_maps_j2
    rw [class_types_s2_eq h1 h2, class_types_s2_eq h3 h4, hasText h3]
    cases b with
    | true => rfl
    | false =>
      cases ((!((x.Locals.length : Int) == m.Locals)) || decide (m.Stack < (x.Stack.length : Int))) with
      | true => rfl
      | false =>
        cases slotsN x.Locals with
        | false => rfl
        | true => cases slotsN x.Stack <;> rfl
  have hl : loopP (fun z => class_maps_l3 m z) 0 = _ := gen_loop (bad := mapB m) h.len (fun i x hx => by
    have hm := List.mem_of_getElem? hx
    have hi := (List.getElem?_eq_some_iff.1 hx).1
    have hlen := h.len
    have hcode := h.code
    unfold LenL at hlen hcode
    show class_maps_l3 m (i : Int) = _
    unfold class_maps_l3 mapB
    rw [here hx, idx_nat, hx]
    simp only [Option.bind_some, cond_true]
    have hb : class_between x.At 0 (IntKind.i64.wrap ((m.Code.length : Int) - 1)) = (decide (0 ≤ x.At) && decide (x.At < (m.Code.length : Int))) := by
      show (decide (0 ≤ x.At) && decide (x.At ≤ IntKind.i64.wrap ((m.Code.length : Int) - 1))) = _
      rw [wrapI (by omega) (by omega)]
      congr 1
      exact decide_eq_decide.2 (by omega)
    rw [hb]
    cases (decide (0 ≤ x.At) && decide (x.At < (m.Code.length : Int))) with
    | false => exact j2 i x true hm
    | true =>
      rcases Nat.eq_zero_or_pos i with h0 | h0
      · subst h0
        exact j2 0 x false hm
      · rw [decide_eq_true (show (0 : Int) < (i : Int) by omega), take_last hi h0]
        have e : IntKind.i64.wrap ((i : Int) - 1) = ((i - 1 : Nat) : Int) := by
          rw [wrapI (by omega) (by omega)]; omega
        rw [e, idx_nat, List.getElem?_eq_getElem (show i - 1 < m.Maps.length by omega)]
        exact j2 i x _ hm) (by show class_maps_l3 m (m.Maps.length : Int) = _; unfold class_maps_l3; rw [past]; rfl)
  unfold class_maps mapsN
  rw [hl]
  cases gB (mapB m) [] m.Maps <;> rfl
end Go.Proofs.YthmnlfenkhmmhaaGreat
namespace Go.Proofs.YthmnlfenkhmmhaaGreat
set_option linter.unusedSimpArgs false
set_option linter.unusedVariables false
structure BodyIn (m : ApiMethod) : Prop where
  code : LenL m.Code ∧ ∀ x ∈ m.Code, Len x.C ∧ Len x.M
  traps : LenL m.Traps ∧ ∀ x ∈ m.Traps, Len x.C
end Go.Proofs.YthmnlfenkhmmhaaGreat
namespace Go.Proofs.YthmnlfenkhmmhaaGreat
set_option linter.unusedSimpArgs false
set_option linter.unusedVariables false
structure GIn (m : ApiMethod) : Prop where
  name : Len m.Name
  params : m.Params.length ≤ 1000000000000 ∧ ∀ s ∈ m.Params, Len s
  ret : Len m.Ret
  maps : MapsIn m
  body : BodyIn m
  small : m.Code.length ≤ 1000000000000 ∧ m.Maps.length ≤ 1000000000000 ∧ m.Traps.length ≤ 1000000000000
noncomputable def methodG (m : ApiMethod) : Bool :=
  ((!((!nameN m.Name) || decide (6 < (m.Params.length : Int))) && typesN m.Params) && retN m.Ret) && cond m.Abstract (class_empty m)
    (!((m.Name == [36, 105, 110, 105, 116]) && (((!m.Static) || decide (0 < (m.Params.length : Int))) || (!(m.Ret == [86])))) && (class_between m.Locals (class_args m) 16 && (class_between m.Stack 0 16 && ((instrN m.Code && trapsN m) && mapsN m))))
theorem lenP {m : ApiMethod} (h : GIn m) : LenL m.Params := by have := h.params.1; unfold LenL; omega
theorem class_method_eqG {m : ApiMethod} (h : GIn m) : class_method m = some (methodG m) := by
  unfold class_method methodG
  rw [kind_Name_eq h.name, Option.bind_some, class_types_eq (lenP h) h.params.2, kind_Ret_eq h.ret, class_instructions_eq h.body.code.1 h.body.code.2, class_maps_eq h.maps, class_traps_eq h.body.traps.1 h.body.traps.2]
  cases ((!nameN m.Name) || decide (6 < (m.Params.length : Int))) with
  | true => rfl
  | false =>
    cases typesN m.Params with
    | false => rfl
    | true =>
      cases retN m.Ret with
      | false => rfl
      | true =>
        cases m.Abstract with
        | true => rfl
        | false =>
          cases ((m.Name == [36, 105, 110, 105, 116]) && (((!m.Static) || decide (0 < (m.Params.length : Int))) || (!(m.Ret == [86])))) with
          | true => rfl
          | false =>
            cases class_between m.Locals (class_args m) 16 with
            | false => rfl
            | true =>
              cases class_between m.Stack 0 16 with
              | false => rfl
              | true => cases instrN m.Code <;> cases mapsN m <;> cases trapsN m <;> rfl
theorem empty_eq {m : ApiMethod} (h : GIn m) : class_empty m = (((((((!m.Static) && (!(m.Name == [36, 105, 110, 105, 116]))) && (m.Locals == (0 : Int))) && (m.Stack == (0 : Int))) && ((m.Code.length : Int) == (0 : Int))) && ((m.Maps.length : Int) == (0 : Int))) && ((m.Traps.length : Int) == (0 : Int))) := by
  obtain ⟨h1, h2, h3⟩ := h.small
  have key : (((m.Code.length : Int) + (m.Maps.length : Int) + (m.Traps.length : Int)) == (0 : Int)) = ((((m.Code.length : Int) == 0) && ((m.Maps.length : Int) == 0)) && ((m.Traps.length : Int) == 0)) := by
    by_cases a : (m.Code.length : Int) = 0
    · by_cases b : (m.Maps.length : Int) = 0
      · rw [a, b, Int.zero_add, Int.zero_add]; rfl
      · rw [beq_eq_false_iff_ne.2 (show ((m.Code.length : Int) + m.Maps.length + m.Traps.length) ≠ 0 by omega), beq_eq_false_iff_ne.2 b, Bool.and_false, Bool.false_and]
    · rw [beq_eq_false_iff_ne.2 (show ((m.Code.length : Int) + m.Maps.length + m.Traps.length) ≠ 0 by omega), beq_eq_false_iff_ne.2 a, Bool.false_and, Bool.false_and]
  unfold class_empty
  rw [wrapI (n := (m.Code.length : Int) + (m.Maps.length : Int)) (by omega) (by omega), wrapI (by omega) (by omega), key]
  simp only [Bool.and_assoc]
theorem allMethodsG {l : List ApiMethod} (hl : LenL l) (h : ∀ m ∈ l, GIn m) (n : Int) (a b : List UInt8) (i : Bool) (c : List (List UInt8)) (d : List ApiField) (e : List ApiMethod) :
    class_all_api_Method l n a b i c d e = cond (uB (fun m => (m.Abstract == i) && methodG m) (·.Name) [] l) (some false) (some (decide ((l.length : Int) ≤ n))) := by
  unfold class_all_api_Method
  refine uniq_loop (ok := fun m => (m.Abstract == i) && methodG m) (nm := (·.Name)) hl (fun j x hx => ?_) ?_
  · have hm := h x (List.mem_of_getElem? hx)
    have hi := (List.getElem?_eq_some_iff.1 hx).1
    unfold class_all_api_Method_l1 class_May_4
    rw [here hx, idx_nat, hx]
    simp only [Option.bind_some, cond_true]
    rw [class_method_eqG hm, cutP_to (by omega)]
    simp only [Option.bind_some]
    rw [hasMethod (by unfold LenL at *; rw [List.length_take]; omega)]
    cases (x.Abstract == i) with
    | false => rfl
    | true => cases methodG x <;> rfl
  · unfold class_all_api_Method_l1
    rw [past]; rfl
structure CGIn (c : ApiClass) : Prop where
  name : Len c.Name
  super : Len c.Super
  impl : LenL c.Impl ∧ ∀ s ∈ c.Impl, Len s
  fields : LenL c.Fields ∧ ∀ f ∈ c.Fields, Len f.Name ∧ Len f.Type_
  methods : LenL c.Methods ∧ ∀ m ∈ c.Methods, GIn m
noncomputable def mayG (c : ApiClass) : Bool :=
  !(c.Interface && ((!(c.Super == [79, 98, 106, 101, 99, 116])) || decide (0 < (c.Fields.length : Int)))) &&
  (((((classN c.Name && classN c.Super) && (!(uB classN id [] c.Impl) && decide ((c.Impl.length : Int) ≤ 4))) && (!(uB fieldN (·.Name) [] c.Fields) && decide ((c.Fields.length : Int) ≤ 8)))) &&
    (!(uB (fun m => (m.Abstract == c.Interface) && methodG m) (·.Name) [] c.Methods) && decide ((c.Methods.length : Int) ≤ 8)))
theorem class_May_eqG {c : ApiClass} (h : CGIn c) : class_May c = some (mayG c) := by
  have e : ∀ (b d : Bool), cond b (some false) (some d) = some (!b && d) := fun b d => by cases b <;> rfl
  unfold class_May mayG
  rw [allFields h.fields.1 h.fields.2, allMethodsG h.methods.1 h.methods.2, kind_Class_eq h.name, kind_Class_eq h.super, allNames h.impl.1 h.impl.2, e, e, e]
  cases (c.Interface && ((!(c.Super == [79, 98, 106, 101, 99, 116])) || decide (0 < (c.Fields.length : Int)))) with
  | true => rfl
  | false =>
    cases classN c.Name with
    | false => rfl
    | true => cases classN c.Super <;> rfl
end Go.Proofs.YthmnlfenkhmmhaaGreat
namespace Go.Proofs.YthmnlfenkhmmhaaGreat
set_option linter.unusedSimpArgs false
set_option linter.unusedVariables false
inductive Tok where
  | n (x : Int)
  | t (s : List UInt8)
abbrev FS (s : List UInt8) : Prop := s.length ≤ 10000
def TkIn : Tok → Prop
  | .n x => I64 x
  | .t s => FS s
structure FL {α : Type} (Q : α → Prop) (l : List α) : Prop where
  len : l.length ≤ 10000
  all : ∀ x ∈ l, Q x
structure FField (f : ApiField) : Prop where
  name : FS f.Name
  type : FS f.Type_
structure FIns (x : ApiIns) : Prop where
  op : I64 x.Op
  a : I64 x.A
  c : FS x.C
  m : FS x.M
structure FMap (x : ApiMap) : Prop where
  pl : I64 x.At
  locals : FL FS x.Locals
  stack : FL FS x.Stack
structure FTrap (x : ApiTrap) : Prop where
  lo : I64 x.From
  hi : I64 x.To
  pl : I64 x.At
  c : FS x.C
structure FMeth (m : ApiMethod) : Prop where
  name : FS m.Name
  params : FL FS m.Params
  ret : FS m.Ret
  locals : I64 m.Locals
  stack : I64 m.Stack
  code : FL FIns m.Code
  maps : FL FMap m.Maps
  traps : FL FTrap m.Traps
structure FClass (c : ApiClass) : Prop where
  name : FS c.Name
  super : FS c.Super
  impl : FL FS c.Impl
  fields : FL FField c.Fields
  methods : FL FMeth c.Methods
def tkB (b : Bool) : Tok := .n (cond b 1 0)
def tkS (s : List UInt8) : List Tok := [.t s]
def tkL {α : Type} (f : α → List Tok) (l : List α) : List Tok := .n (l.length : Int) :: l.flatMap f
def tkField (f : ApiField) : List Tok := [.t f.Name, .t f.Type_, tkB f.Static]
def tkIns (x : ApiIns) : List Tok := [.n x.Op, .n x.A, .t x.C, .t x.M]
def tkMap (x : ApiMap) : List Tok := .n x.At :: (tkL tkS x.Locals ++ tkL tkS x.Stack)
def tkTrap (x : ApiTrap) : List Tok := [.n x.From, .n x.To, .n x.At, .t x.C]
def tkMeth (m : ApiMethod) : List Tok :=
  .t m.Name :: (tkL tkS m.Params ++ (.t m.Ret :: tkB m.Static :: tkB m.Abstract :: .n m.Locals :: .n m.Stack :: (tkL tkIns m.Code ++ (tkL tkMap m.Maps ++ tkL tkTrap m.Traps))))
def tkClass (c : ApiClass) : List Tok :=
  .t c.Name :: .t c.Super :: tkB c.Interface :: (tkL tkS c.Impl ++ (tkL tkField c.Fields ++ tkL tkMeth c.Methods))
abbrev W := List (List UInt8) × List UInt8
def ixN (p : List (List UInt8)) (s : List UInt8) : Nat := p.findIdx (fun y => s == y)
def insP (p : List (List UInt8)) (s : List UInt8) : List (List UInt8) := cond (decide (ixN p s < p.length)) p (p ++ [s])
def wr1 (w : W) : Tok → W
  | .n x => (w.1, w.2 ++ put x)
  | .t s => (insP w.1 s, w.2 ++ put (ixN w.1 s : Int))
def wrT (w : W) (l : List Tok) : W := l.foldl wr1 w
theorem wrT_app (w : W) (a b : List Tok) : wrT w (a ++ b) = wrT (wrT w a) b := List.foldl_append
theorem wrT_cons (w : W) (t : Tok) (b : List Tok) : wrT w (t :: b) = wrT (wr1 w t) b := rfl
def Fits (w : W) (k : Nat) : Prop := w.1.length + k ≤ 1000000000 ∧ w.2.length + 10 * k ≤ 10000000000
theorem insP_len (p : List (List UInt8)) (s : List UInt8) : (insP p s).length ≤ p.length + 1 := by
  unfold insP; cases decide (ixN p s < p.length) <;> simp
theorem Fits.one {w : W} {k : Nat} (h : Fits w (k + 1)) (t : Tok) : Fits (wr1 w t) k := by
  obtain ⟨h1, h2⟩ := h
  cases t with
  | n x => have := put_length x; refine ⟨?_, ?_⟩ <;> simp only [wr1, List.length_append] <;> omega
  | t s => have := put_length (ixN w.1 s : Int); have := insP_len w.1 s; refine ⟨?_, ?_⟩ <;> simp only [wr1, List.length_append] <;> omega
theorem Fits.app {w : W} : ∀ {a : List Tok} {k : Nat}, Fits w (a.length + k) → Fits (wrT w a) k := by
  intro a
  induction a generalizing w with
  | nil => intro k h; simpa [wrT] using h
  | cons t a ih => intro k h; exact ih (Fits.one (by simpa [Nat.add_right_comm, Nat.add_assoc, Nat.add_comm 1 k] using h) t)
theorem Fits.less {w : W} {k j : Nat} (h : Fits w k) (hj : j ≤ k) : Fits w j := ⟨by have := h.1; omega, by have := h.2; omega⟩
theorem ixF_ixN (s : List UInt8) : ∀ (l : List (List UInt8)) (k : Nat), ixF (fun y => s == y) k l = cond (decide (ixN l s < l.length)) ((k + ixN l s : Nat) : Int) (-1)
  | [], k => rfl
  | x :: l, k => by
    unfold ixF ixN
    rw [List.findIdx_cons]
    cases hx : (s == x) with
    | true => simp
    | false =>
      simp only [cond_false]
      rw [ixF_ixN s l (k + 1)]
      unfold ixN
      have e : decide (List.findIdx (fun y => s == y) l + 1 < (x :: l).length) = decide (List.findIdx (fun y => s == y) l < l.length) := decide_eq_decide.2 (by simp)
      rw [e]
      cases decide (List.findIdx (fun y => s == y) l < l.length) with
      | true => simp only [cond_true]; congr 1; omega
      | false => rfl
theorem ixN_le (p : List (List UInt8)) (s : List UInt8) : ixN p s ≤ p.length := List.findIdx_le_length
theorem fold_loop {R α : Type} {body : List (List UInt8) × List UInt8 × Int → Option (Sum (List (List UInt8) × List UInt8 × Int) (Sum W R))} {l : List α} {f : α → List Tok} (hl : l.length ≤ 1000000000)
    (hb : ∀ (w : W) (i : Nat) x, l[i]? = some x → Fits w (f x).length → body (w.1, w.2, (i : Int)) = some (.inl ((wrT w (f x)).1, (wrT w (f x)).2, IntKind.i64.wrap ((i : Int) + 1))))
    (he : ∀ w : W, body (w.1, w.2, (l.length : Int)) = some (.inr (.inl (w.1, w.2)))) (w : W) (hw : Fits w (l.flatMap f).length) : loopP body (w.1, w.2, 0) = some (.inl (wrT w (l.flatMap f))) := by
  have key : ∀ d i (w : W), l.length - i = d → i ≤ l.length → Fits w ((l.drop i).flatMap f).length → loopP body (w.1, w.2, (i : Int)) = some (.inl (wrT w ((l.drop i).flatMap f))) := by
    intro d
    induction d with
    | zero =>
      intro i w hd hi hf
      have : i = l.length := by omega
      subst this
      rw [loopP_eq, he, List.drop_length]
      rfl
    | succ d ih =>
      intro i w hd hi hf
      have hlt : i < l.length := by omega
      rw [List.drop_eq_getElem_cons hlt, List.flatMap_cons, List.length_append] at hf
      rw [loopP_eq, hb w i l[i] (List.getElem?_eq_getElem hlt) (hf.less (by omega)), wrap_succ (by omega), List.drop_eq_getElem_cons hlt, List.flatMap_cons, wrT_app]
      exact ih (i + 1) _ (by omega) (by omega) hf.app
  exact key _ 0 w rfl (Nat.zero_le _) (by simpa using hw)
theorem w_num {w : W} {x : Int} (h : I64 x) (hf : Fits w 1) : file_writer_num w.1 w.2 x = some (wr1 w (.n x)).2 := by
  unfold file_writer_num
  rw [num_Put_eq h (by have := hf.2; omega)]; rfl
theorem w_len {w : W} {n : Nat} (h : n ≤ 1000000000) (hf : Fits w 1) : file_writer_num w.1 w.2 (n : Int) = some (wr1 w (.n (n : Int))).2 := w_num ⟨by omega, by omega⟩ hf
theorem w_truth {w : W} {b : Bool} (hf : Fits w 1) : file_writer_truth w.1 w.2 b = some (wr1 w (tkB b)).2 := by
  unfold file_writer_truth
  cases b with
  | true => rw [w_num (by decide) hf]; rfl
  | false => rw [w_num (x := 0) (by decide) hf]; rfl
theorem slicesIndex_eq {l : List (List UInt8)} (hl : LenL l) (n : List UInt8) : slices_Index_string_string l n = some (ixF (fun y => n == y) 0 l) := by
  unfold slices_Index_string_string
  exact index_loop (p := fun y : List UInt8 => n == y) hl (fun i x hx => by unfold slices_Index_string_string_l1; rw [here hx, idx_nat, hx]; rfl) (by unfold slices_Index_string_string_l1; rw [past]; rfl)
theorem w_text {w : W} {s : List UInt8} (hf : Fits w 1) : file_writer_text w.1 w.2 s = some (wr1 w (.t s)) := by
  obtain ⟨h1, h2⟩ := hf
  unfold file_writer_text
  rw [slicesIndex_eq (by unfold LenL; omega), ixF_ixN]
  simp only [Option.bind_some, Nat.zero_add]
  have hle := ixN_le w.1 s
  unfold wr1 insP
  cases hd : decide (ixN w.1 s < w.1.length) with
  | true =>
    simp only [cond_true]
    rw [decide_eq_false (show ¬ ((ixN w.1 s : Int) < 0) by omega)]
    unfold file_writer_text_j1 file_writer_num
    simp only [cond_false]
    rw [num_Put_eq ⟨by omega, by omega⟩ (by omega)]
    show _ = some (cond (decide (ixN w.1 s < w.1.length)) w.1 (w.1 ++ [s]), w.2 ++ put (ixN w.1 s : Int))
    rw [hd]; rfl
  | false =>
    simp only [cond_false]
    rw [decide_eq_true (show (-1 : Int) < 0 by decide), appP_ok (by simp; omega) (by simp; omega)]
    have hh := of_decide_eq_false hd
    have e : ixN w.1 s = w.1.length := by omega
    unfold file_writer_text_j1 file_writer_num
    simp only [cond_true, Option.bind_some]
    rw [num_Put_eq ⟨by omega, by omega⟩ (by omega)]
    show _ = some (cond (decide (ixN w.1 s < w.1.length)) w.1 (w.1 ++ [s]), w.2 ++ put (ixN w.1 s : Int))
    rw [hd, e]; rfl
theorem w_strings {w : W} {l : List (List UInt8)} (hl : FL FS l) (hf : Fits w (tkL tkS l).length) : file_list_string w.1 w.2 l = some (wrT w (tkL tkS l)) := by
  have hll := hl.len
  unfold file_list_string
  rw [w_len (by omega) (hf.less (by simp [tkL]))]
  simp only [Option.bind_some]
  rw [show loopP (fun z => file_list_string_l1 l z.1 z.2.1 z.2.2) (w.1, (wr1 w (.n (l.length : Int))).2, 0) = some (.inl (wrT (wr1 w (.n (l.length : Int))) (l.flatMap tkS))) from
    fold_loop (by omega) (fun w i x hx hfx => by
      show file_list_string_l1 l w.1 w.2 (i : Int) = _
      unfold file_list_string_l1
      rw [here hx, idx_nat, hx]
      simp only [Option.bind_some, cond_true]
      rw [w_text hfx]; rfl) (fun w => by show file_list_string_l1 l w.1 w.2 (l.length : Int) = _; unfold file_list_string_l1; rw [past]; rfl) (wr1 w (.n (l.length : Int))) (Fits.one (by simpa [tkL, Nat.add_comm] using hf) _)]
  rfl
theorem w_field {w : W} {f : ApiField} (hf : Fits w (tkField f).length) : file_writer_field w.1 w.2 f = some (wrT w (tkField f)) := by
  have f1 := Fits.one (k := 2) hf (.t f.Name)
  have f2 := Fits.one (k := 1) f1 (.t f.Type_)
  unfold file_writer_field
  rw [w_text (hf.less (by simp [tkField]))]
  simp only [Option.bind_some]
  rw [w_text (f1.less (by omega))]
  simp only [Option.bind_some]
  rw [w_truth f2]
  rfl
theorem w_ins {w : W} {x : ApiIns} (hx : FIns x) (hf : Fits w (tkIns x).length) : file_writer_ins w.1 w.2 x = some (wrT w (tkIns x)) := by
  have f1 := Fits.one (k := 3) hf (.n x.Op)
  have f2 := Fits.one (k := 2) f1 (.n x.A)
  have f3 := Fits.one (k := 1) f2 (.t x.C)
  unfold file_writer_ins
  rw [w_num hx.op (hf.less (by simp [tkIns]))]
  simp only [Option.bind_some]
  rw [show file_writer_num w.1 (wr1 w (.n x.Op)).2 x.A = _ from w_num (w := wr1 w (.n x.Op)) hx.a (f1.less (by omega))]
  simp only [Option.bind_some]
  rw [show file_writer_text w.1 (wr1 (wr1 w (.n x.Op)) (.n x.A)).2 x.C = _ from w_text (w := wr1 (wr1 w (.n x.Op)) (.n x.A)) (f2.less (by omega))]
  simp only [Option.bind_some]
  rw [w_text f3]
  rfl
theorem w_trap {w : W} {x : ApiTrap} (hx : FTrap x) (hf : Fits w (tkTrap x).length) : file_writer_trap w.1 w.2 x = some (wrT w (tkTrap x)) := by
  have f1 := Fits.one (k := 3) hf (.n x.From)
  have f2 := Fits.one (k := 2) f1 (.n x.To)
  have f3 := Fits.one (k := 1) f2 (.n x.At)
  unfold file_writer_trap
  rw [w_num hx.lo (hf.less (by simp [tkTrap]))]
  simp only [Option.bind_some]
  rw [show file_writer_num w.1 (wr1 w (.n x.From)).2 x.To = _ from w_num (w := wr1 w (.n x.From)) hx.hi (f1.less (by omega))]
  simp only [Option.bind_some]
  rw [show file_writer_num w.1 (wr1 (wr1 w (.n x.From)) (.n x.To)).2 x.At = _ from w_num (w := wr1 (wr1 w (.n x.From)) (.n x.To)) hx.pl (f2.less (by omega))]
  simp only [Option.bind_some]
  rw [show file_writer_text w.1 (wr1 (wr1 (wr1 w (.n x.From)) (.n x.To)) (.n x.At)).2 x.C = _ from w_text (w := wr1 (wr1 (wr1 w (.n x.From)) (.n x.To)) (.n x.At)) f3]
  rfl
theorem Fits.left {w : W} {a b : List Tok} (h : Fits w (a ++ b).length) : Fits w a.length := h.less (by simp)
theorem Fits.right {w : W} {a b : List Tok} (h : Fits w (a ++ b).length) : Fits (wrT w a) b.length := Fits.app (by rwa [List.length_append] at h)
theorem Fits.head {w : W} {t : Tok} {b : List Tok} (h : Fits w (t :: b).length) : Fits w 1 := h.less (by simp)
theorem Fits.tail {w : W} {t : Tok} {b : List Tok} (h : Fits w (t :: b).length) : Fits (wr1 w t) b.length := Fits.one (by simpa using h) t
theorem w_map {w : W} {x : ApiMap} (hx : FMap x) (hf : Fits w (tkMap x).length) : file_writer_place w.1 w.2 x = some (wrT w (tkMap x)) := by
  unfold tkMap at hf ⊢
  unfold file_writer_place
  rw [w_num hx.pl hf.head]
  simp only [Option.bind_some]
  rw [show file_list_string w.1 (wr1 w (.n x.At)).2 x.Locals = _ from w_strings (w := wr1 w (.n x.At)) hx.locals hf.tail.left]
  simp only [Option.bind_some]
  rw [w_strings hx.stack hf.tail.right, wrT_cons, wrT_app]
  rfl
theorem w_fields {w : W} {l : List ApiField} (hl : FL FField l) (hf : Fits w (tkL tkField l).length) : file_list_api_Field w.1 w.2 l = some (wrT w (tkL tkField l)) := by
  have hll := hl.len
  unfold file_list_api_Field
  rw [w_len (by omega) hf.head]
  simp only [Option.bind_some]
  rw [show loopP (fun z => file_list_api_Field_l1 l z.1 z.2.1 z.2.2) (w.1, (wr1 w (.n (l.length : Int))).2, 0) = some (.inl (wrT (wr1 w (.n (l.length : Int))) (l.flatMap tkField))) from
    fold_loop (by omega) (fun w i x hx hfx => by
      show file_list_api_Field_l1 l w.1 w.2 (i : Int) = _
      unfold file_list_api_Field_l1
      rw [here hx, idx_nat, hx]
      simp only [Option.bind_some, cond_true]
      rw [w_field hfx]; rfl) (fun w => by show file_list_api_Field_l1 l w.1 w.2 (l.length : Int) = _; unfold file_list_api_Field_l1; rw [past]; rfl) (wr1 w (.n (l.length : Int))) hf.tail]
  rfl
theorem w_code {w : W} {l : List ApiIns} (hl : FL FIns l) (hf : Fits w (tkL tkIns l).length) : file_list_api_Ins w.1 w.2 l = some (wrT w (tkL tkIns l)) := by
  have hll := hl.len
  unfold file_list_api_Ins
  rw [w_len (by omega) hf.head]
  simp only [Option.bind_some]
  rw [show loopP (fun z => file_list_api_Ins_l1 l z.1 z.2.1 z.2.2) (w.1, (wr1 w (.n (l.length : Int))).2, 0) = some (.inl (wrT (wr1 w (.n (l.length : Int))) (l.flatMap tkIns))) from
    fold_loop (by omega) (fun w i x hx hfx => by
      show file_list_api_Ins_l1 l w.1 w.2 (i : Int) = _
      unfold file_list_api_Ins_l1
      rw [here hx, idx_nat, hx]
      simp only [Option.bind_some, cond_true]
      rw [w_ins (hl.all x (List.mem_of_getElem? hx)) hfx]; rfl) (fun w => by show file_list_api_Ins_l1 l w.1 w.2 (l.length : Int) = _; unfold file_list_api_Ins_l1; rw [past]; rfl) (wr1 w (.n (l.length : Int))) hf.tail]
  rfl
theorem w_maps {w : W} {l : List ApiMap} (hl : FL FMap l) (hf : Fits w (tkL tkMap l).length) : file_list_api_Map w.1 w.2 l = some (wrT w (tkL tkMap l)) := by
  have hll := hl.len
  unfold file_list_api_Map
  rw [w_len (by omega) hf.head]
  simp only [Option.bind_some]
  rw [show loopP (fun z => file_list_api_Map_l1 l z.1 z.2.1 z.2.2) (w.1, (wr1 w (.n (l.length : Int))).2, 0) = some (.inl (wrT (wr1 w (.n (l.length : Int))) (l.flatMap tkMap))) from
    fold_loop (by omega) (fun w i x hx hfx => by
      show file_list_api_Map_l1 l w.1 w.2 (i : Int) = _
      unfold file_list_api_Map_l1
      rw [here hx, idx_nat, hx]
      simp only [Option.bind_some, cond_true]
      rw [w_map (hl.all x (List.mem_of_getElem? hx)) hfx]; rfl) (fun w => by show file_list_api_Map_l1 l w.1 w.2 (l.length : Int) = _; unfold file_list_api_Map_l1; rw [past]; rfl) (wr1 w (.n (l.length : Int))) hf.tail]
  rfl
theorem w_traps {w : W} {l : List ApiTrap} (hl : FL FTrap l) (hf : Fits w (tkL tkTrap l).length) : file_list_api_Trap w.1 w.2 l = some (wrT w (tkL tkTrap l)) := by
  have hll := hl.len
  unfold file_list_api_Trap
  rw [w_len (by omega) hf.head]
  simp only [Option.bind_some]
  rw [show loopP (fun z => file_list_api_Trap_l1 l z.1 z.2.1 z.2.2) (w.1, (wr1 w (.n (l.length : Int))).2, 0) = some (.inl (wrT (wr1 w (.n (l.length : Int))) (l.flatMap tkTrap))) from
    fold_loop (by omega) (fun w i x hx hfx => by
      show file_list_api_Trap_l1 l w.1 w.2 (i : Int) = _
      unfold file_list_api_Trap_l1
      rw [here hx, idx_nat, hx]
      simp only [Option.bind_some, cond_true]
      rw [w_trap (hl.all x (List.mem_of_getElem? hx)) hfx]; rfl) (fun w => by show file_list_api_Trap_l1 l w.1 w.2 (l.length : Int) = _; unfold file_list_api_Trap_l1; rw [past]; rfl) (wr1 w (.n (l.length : Int))) hf.tail]
  rfl
theorem w_meth {w : W} {m : ApiMethod} (hm : FMeth m) (hf : Fits w (tkMeth m).length) : file_writer_method w.1 w.2 m = some (wrT w (tkMeth m)) := by
  unfold tkMeth at hf ⊢
  unfold file_writer_method
  rw [wrT_cons, wrT_app, wrT_cons, wrT_cons, wrT_cons, wrT_cons, wrT_cons, wrT_app, wrT_app]
  have f1 := hf.tail
  have f2 := f1.right
  have f3 := f2.tail
  have f4 := f3.tail
  have f5 := f4.tail
  have f6 := f5.tail
  have f7 := f6.tail
  have f8 := f7.right
  have f9 := f8.right
  rw [w_text hf.head]
  simp only [Option.bind_some]
  rw [w_strings hm.params f1.left]
  simp only [Option.bind_some]
  generalize wrT (wr1 w (.t m.Name)) (tkL tkS m.Params) = w2 at *
  rw [w_text f2.head]
  simp only [Option.bind_some]
  rw [w_truth f3.head]
  simp only [Option.bind_some]
  generalize hw3 : wr1 w2 (.t m.Ret) = w3 at *
  rw [show file_writer_truth w3.1 (wr1 w3 (tkB m.Static)).2 m.Abstract = _ from w_truth (w := wr1 w3 (tkB m.Static)) f4.head]
  simp only [Option.bind_some]
  generalize hw4 : wr1 w3 (tkB m.Static) = w4 at *
  have e4 : w3.1 = w4.1 := by rw [← hw4]; rfl
  rw [e4]
  generalize hw5 : wr1 w4 (tkB m.Abstract) = w5 at *
  have e5 : w4.1 = w5.1 := by rw [← hw5]; rfl
  rw [e5, w_num hm.locals f5.head]
  simp only [Option.bind_some]
  generalize hw6 : wr1 w5 (.n m.Locals) = w6 at *
  have e6 : w5.1 = w6.1 := by rw [← hw6]; rfl
  rw [e6, w_num hm.stack f6.head]
  simp only [Option.bind_some]
  generalize hw7 : wr1 w6 (.n m.Stack) = w7 at *
  have e7 : w6.1 = w7.1 := by rw [← hw7]; rfl
  rw [e7, w_code hm.code f7.left]
  simp only [Option.bind_some]
  rw [w_maps hm.maps f8.left]
  simp only [Option.bind_some]
  rw [w_traps hm.traps f9]
  rfl
theorem w_methods {w : W} {l : List ApiMethod} (hl : FL FMeth l) (hf : Fits w (tkL tkMeth l).length) : file_list_api_Method w.1 w.2 l = some (wrT w (tkL tkMeth l)) := by
  have hll := hl.len
  unfold file_list_api_Method
  rw [w_len (by omega) hf.head]
  simp only [Option.bind_some]
  rw [show loopP (fun z => file_list_api_Method_l1 l z.1 z.2.1 z.2.2) (w.1, (wr1 w (.n (l.length : Int))).2, 0) = some (.inl (wrT (wr1 w (.n (l.length : Int))) (l.flatMap tkMeth))) from
    fold_loop (by omega) (fun w i x hx hfx => by
      show file_list_api_Method_l1 l w.1 w.2 (i : Int) = _
      unfold file_list_api_Method_l1
      rw [here hx, idx_nat, hx]
      simp only [Option.bind_some, cond_true]
      rw [w_meth (hl.all x (List.mem_of_getElem? hx)) hfx]; rfl) (fun w => by show file_list_api_Method_l1 l w.1 w.2 (l.length : Int) = _; unfold file_list_api_Method_l1; rw [past]; rfl) (wr1 w (.n (l.length : Int))) hf.tail]
  rfl
end Go.Proofs.YthmnlfenkhmmhaaGreat
namespace Go.Proofs.YthmnlfenkhmmhaaGreat
set_option linter.unusedSimpArgs false
set_option linter.unusedVariables false
theorem FL.le {α : Type} {Q : α → Prop} {l : List α} (h : FL Q l) : LenL l := by have := h.len; unfold LenL; omega
theorem FS.le {s : List UInt8} (h : FS s) : Len s := by unfold FS at h; unfold Len; omega
theorem FClass.cg {c : ApiClass} (h : FClass c) : CGIn c where
  name := h.name.le
  super := h.super.le
  impl := ⟨h.impl.le, fun s hs => (h.impl.all s hs).le⟩
  fields := ⟨h.fields.le, fun f hf => ⟨(h.fields.all f hf).name.le, (h.fields.all f hf).type.le⟩⟩
  methods := ⟨h.methods.le, fun m hm => by
    have g := h.methods.all m hm
    have g1 := g.params.len
    have g2 := g.code.len
    have g3 := g.maps.len
    have g4 := g.traps.len
    exact ⟨g.name.le, ⟨by omega, fun s hs => (g.params.all s hs).le⟩, g.ret.le,
      ⟨g.maps.le, g.code.le, fun x hx => ⟨⟨(g.maps.all x hx).locals.le, fun s hs => ((g.maps.all x hx).locals.all s hs).le⟩, (g.maps.all x hx).stack.le, fun s hs => ((g.maps.all x hx).stack.all s hs).le⟩⟩,
      ⟨⟨g.code.le, fun x hx => ⟨(g.code.all x hx).c.le, (g.code.all x hx).m.le⟩⟩, ⟨g.traps.le, fun x hx => (g.traps.all x hx).c.le⟩⟩, ⟨by omega, by omega, by omega⟩⟩⟩
def AllIn (l : List Tok) : Prop := ∀ t ∈ l, TkIn t
theorem AllIn.nil : AllIn [] := fun t h => by cases h
theorem AllIn.cons {t : Tok} {l : List Tok} (h : TkIn t) (hl : AllIn l) : AllIn (t :: l) := fun x hx => by
  rcases List.mem_cons.1 hx with rfl | hx
  · exact h
  · exact hl x hx
theorem AllIn.app {a b : List Tok} (h : AllIn a) (hl : AllIn b) : AllIn (a ++ b) := fun x hx => by
  rcases List.mem_append.1 hx with hx | hx
  · exact h x hx
  · exact hl x hx
theorem in_b (b : Bool) : TkIn (tkB b) := by cases b <;> (show I64 _; decide)
theorem in_l {α : Type} {Q : α → Prop} {f : α → List Tok} {l : List α} (h : FL Q l) (hf : ∀ x, Q x → AllIn (f x)) : AllIn (tkL f l) := by
  have := h.len
  refine AllIn.cons (show I64 _ from ⟨by omega, by omega⟩) fun t ht => ?_
  obtain ⟨x, hx, h1⟩ := List.mem_flatMap.1 ht
  exact hf x (h.all x hx) t h1
theorem in_s {s : List UInt8} (h : FS s) : AllIn (tkS s) := AllIn.cons h AllIn.nil
theorem in_field {f : ApiField} (h : FField f) : AllIn (tkField f) := AllIn.cons h.name (AllIn.cons h.type (AllIn.cons (in_b _) AllIn.nil))
theorem in_ins {x : ApiIns} (h : FIns x) : AllIn (tkIns x) := AllIn.cons h.op (AllIn.cons h.a (AllIn.cons h.c (AllIn.cons h.m AllIn.nil)))
theorem in_trap {x : ApiTrap} (h : FTrap x) : AllIn (tkTrap x) := AllIn.cons h.lo (AllIn.cons h.hi (AllIn.cons h.pl (AllIn.cons h.c AllIn.nil)))
theorem in_map {x : ApiMap} (h : FMap x) : AllIn (tkMap x) := AllIn.cons h.pl (AllIn.app (in_l h.locals fun _ => in_s) (in_l h.stack fun _ => in_s))
theorem in_meth {m : ApiMethod} (h : FMeth m) : AllIn (tkMeth m) :=
  AllIn.cons h.name (AllIn.app (in_l h.params fun _ => in_s) (AllIn.cons h.ret (AllIn.cons (in_b _) (AllIn.cons (in_b _) (AllIn.cons h.locals (AllIn.cons h.stack (AllIn.app (in_l h.code fun _ => in_ins) (AllIn.app (in_l h.maps fun _ => in_map) (in_l h.traps fun _ => in_trap)))))))))
theorem in_class {c : ApiClass} (h : FClass c) : AllIn (tkClass c) :=
  AllIn.cons h.name (AllIn.cons h.super (AllIn.cons (in_b _) (AllIn.app (in_l h.impl fun _ => in_s) (AllIn.app (in_l h.fields fun _ => in_field) (in_l h.methods fun _ => in_meth)))))
theorem uB_all {α : Type} {ok : α → Bool} {nm : α → List UInt8} : ∀ {l pre : List α}, uB ok nm pre l = false → ∀ x ∈ l, ok x = true
  | y :: l, pre, h, x, hx => by
    unfold uB at h
    simp only [Bool.or_eq_false_iff, Bool.not_eq_false'] at h
    rcases List.mem_cons.1 hx with rfl | hx
    · exact h.1.1
    · exact uB_all h.2 x hx
theorem gB_all {α : Type} {bad : List α → α → Bool} : ∀ {l pre : List α}, gB bad pre l = false → ∀ x ∈ l, ∃ p, bad p x = false
  | y :: l, pre, h, x, hx => by
    unfold gB at h
    simp only [Bool.or_eq_false_iff] at h
    rcases List.mem_cons.1 hx with rfl | hx
    · exact ⟨pre, h.1⟩
    · exact gB_all h.2 x hx
structure MSmall (m : ApiMethod) : Prop where
  params : m.Params.length ≤ 6
  code : m.Code.length ≤ 100
  traps : m.Traps.length ≤ 6
  maps : m.Maps.length ≤ 100
  all : ∀ x ∈ m.Maps, x.Locals.length ≤ 16 ∧ x.Stack.length ≤ 16
theorem between_le {x a b : Int} (h : class_between x a b = true) : a ≤ x ∧ x ≤ b := by
  have h : (decide (a ≤ x) && decide (x ≤ b)) = true := h
  simpa using h
theorem methodG_small {m : ApiMethod} (hG : GIn m) (h : methodG m = true) : MSmall m := by
  unfold methodG at h
  rw [Bool.and_eq_true, Bool.and_eq_true, Bool.and_eq_true, Bool.not_eq_true', Bool.or_eq_false_iff] at h
  obtain ⟨⟨⟨⟨_, h1⟩, _⟩, _⟩, h2⟩ := h
  have hp : m.Params.length ≤ 6 := by have := of_decide_eq_false h1; omega
  cases ha : m.Abstract with
  | true =>
    rw [ha, cond_true, empty_eq hG] at h2
    simp only [Bool.and_eq_true, beq_iff_eq] at h2
    obtain ⟨⟨⟨_, h3⟩, h4⟩, h5⟩ := h2
    have e : m.Maps = [] := List.eq_nil_of_length_eq_zero (by omega)
    exact ⟨hp, by omega, by omega, by omega, fun x hx => by rw [e] at hx; cases hx⟩
  | false =>
    rw [ha, cond_false, Bool.and_eq_true, Bool.and_eq_true, Bool.and_eq_true, Bool.and_eq_true, Bool.and_eq_true] at h2
    obtain ⟨_, h3, h4, ⟨h5, h6⟩, h7⟩ := h2
    have l1 := between_le h3
    have l2 := between_le h4
    unfold instrN at h5
    rw [Bool.and_eq_true] at h5
    have l3 := between_le h5.1
    unfold trapsN at h6
    rw [Bool.and_eq_true] at h6
    have l4 := of_decide_eq_true h6.2
    unfold mapsN at h7
    rw [Bool.and_eq_true, Bool.not_eq_true'] at h7
    have l5 := of_decide_eq_true h7.2
    refine ⟨hp, by omega, by omega, by omega, fun x hx => ?_⟩
    obtain ⟨p, hb⟩ := gB_all h7.1 x hx
    unfold mapB at hb
    rw [Bool.or_eq_false_iff, Bool.or_eq_false_iff (x := (!((x.Locals.length : Int) == m.Locals) || decide (m.Stack < (x.Stack.length : Int)))), Bool.or_eq_false_iff (x := !((x.Locals.length : Int) == m.Locals))] at hb
    obtain ⟨_, ⟨h8, h9⟩, _⟩ := hb
    have e8 : (x.Locals.length : Int) = m.Locals := by simpa using h8
    have e9 := of_decide_eq_false h9
    exact ⟨by omega, by omega⟩
theorem flat_le {α : Type} {f : α → List Tok} {k : Nat} : ∀ {l : List α}, (∀ x ∈ l, (f x).length ≤ k) → (l.flatMap f).length ≤ l.length * k
  | [], _ => by simp
  | x :: l, h => by
    rw [List.flatMap_cons, List.length_append, List.length_cons, Nat.succ_mul]
    have h1 := h x (List.mem_cons_self ..)
    have h2 := flat_le (l := l) fun y hy => h y (List.mem_cons_of_mem _ hy)
    omega
theorem tkL_le {α : Type} {f : α → List Tok} {k n : Nat} {l : List α} (hl : l.length ≤ n) (h : ∀ x ∈ l, (f x).length ≤ k) : (tkL f l).length ≤ 1 + n * k := by
  have h1 := flat_le h
  have h2 := Nat.mul_le_mul_right k hl
  unfold tkL
  rw [List.length_cons]
  omega
theorem tkMap_le {x : ApiMap} (h : x.Locals.length ≤ 16 ∧ x.Stack.length ≤ 16) : (tkMap x).length ≤ 35 := by
  have h1 := tkL_le (f := tkS) (k := 1) h.1 fun _ _ => Nat.le_refl 1
  have h2 := tkL_le (f := tkS) (k := 1) h.2 fun _ _ => Nat.le_refl 1
  unfold tkMap
  rw [List.length_cons, List.length_append]
  omega
theorem tkMeth_le {m : ApiMethod} (h : MSmall m) : (tkMeth m).length ≤ 5000 := by
  have h1 := tkL_le (f := tkS) (k := 1) h.params fun _ _ => Nat.le_refl 1
  have h2 := tkL_le (f := tkIns) (k := 4) h.code fun _ _ => Nat.le_refl 4
  have h3 := tkL_le (f := tkMap) (k := 35) h.maps fun x hx => tkMap_le (h.all x hx)
  have h4 := tkL_le (f := tkTrap) (k := 4) h.traps fun _ _ => Nat.le_refl 4
  unfold tkMeth
  simp only [List.length_cons, List.length_append]
  omega
theorem tkClass_le {c : ApiClass} (hc : CGIn c) (h : mayG c = true) : (tkClass c).length ≤ 100000 := by
  unfold mayG at h
  simp only [Bool.and_eq_true, Bool.not_eq_true'] at h
  obtain ⟨_, ⟨⟨_, _, h1⟩, h2, h3⟩, h4, h5⟩ := h
  have l1 := of_decide_eq_true h1
  have l3 := of_decide_eq_true h3
  have l5 := of_decide_eq_true h5
  have k1 := tkL_le (f := tkS) (n := 4) (k := 1) (l := c.Impl) (by omega) fun _ _ => Nat.le_refl 1
  have k2 := tkL_le (f := tkField) (n := 8) (k := 3) (l := c.Fields) (by omega) fun _ _ => Nat.le_refl 3
  have k3 := tkL_le (f := tkMeth) (n := 8) (k := 5000) (l := c.Methods) (by omega) fun m hm => by
    have hm1 := uB_all h4 m hm
    rw [Bool.and_eq_true] at hm1
    exact tkMeth_le (methodG_small (hc.methods.2 m hm) hm1.2)
  unfold tkClass
  simp only [List.length_cons, List.length_append]
  omega
theorem fits0 {c : ApiClass} (hc : CGIn c) (h : mayG c = true) : Fits ([], []) (tkClass c).length := by
  have := tkClass_le hc h
  exact ⟨by simp; omega, by simp; omega⟩
theorem pool_in {w : W} : ∀ {l : List Tok}, (∀ s ∈ w.1, FS s) → AllIn l → ∀ s ∈ (wrT w l).1, FS s := by
  intro l
  induction l generalizing w with
  | nil => intro hw _; exact hw
  | cons t l ih =>
    intro hw hl
    refine ih (w := wr1 w t) ?_ fun x hx => hl x (List.mem_cons_of_mem _ hx)
    cases t with
    | n x => exact hw
    | t s =>
      intro y hy
      have hy : y ∈ insP w.1 s := hy
      unfold insP at hy
      cases hd : decide (ixN w.1 s < w.1.length) with
      | true => rw [hd] at hy; exact hw y hy
      | false =>
        rw [hd] at hy
        rcases List.mem_append.1 hy with h1 | h1
        · exact hw y h1
        · rw [List.mem_singleton.1 h1]; exact hl _ (List.mem_cons_self ..)
def outB (w : W) : List UInt8 := (([74, 65, 86, 65] ++ put (w.1.length : Int)) ++ w.1.flatMap putText) ++ w.2
noncomputable def bytesC (c : ApiClass) : List UInt8 := outB (wrT ([], []) (tkClass c))
theorem puts_loop {R : Type} {body : List UInt8 × Int → Option (Sum (List UInt8 × Int) (Sum (List UInt8) R))} {l : List (List UInt8)} (hl : l.length ≤ 1000000)
    (hb : ∀ (b : List UInt8) (i : Nat) x, l[i]? = some x → b.length ≤ 100000000000 → body (b, (i : Int)) = some (.inl (b ++ putText x, IntKind.i64.wrap ((i : Int) + 1))))
    (he : ∀ b, body (b, (l.length : Int)) = some (.inr (.inl b))) (hs : ∀ s ∈ l, FS s) (b : List UInt8) (h0 : b.length ≤ 1000000000) : loopP body (b, 0) = some (.inl (b ++ l.flatMap putText)) ∧ (b ++ l.flatMap putText).length ≤ 1000000000 + l.length * 10010 := by
  have key : ∀ d i (b : List UInt8), l.length - i = d → i ≤ l.length → b.length ≤ 1000000000 + i * 10010 → loopP body (b, (i : Int)) = some (.inl (b ++ (l.drop i).flatMap putText)) ∧ (b ++ (l.drop i).flatMap putText).length ≤ 1000000000 + l.length * 10010 := by
    intro d
    induction d with
    | zero =>
      intro i b hd hi h1
      have : i = l.length := by omega
      subst this
      rw [loopP_eq, he, List.drop_length]
      exact ⟨by simp, by simpa using h1⟩
    | succ d ih =>
      intro i b hd hi h1
      have hlt : i < l.length := by omega
      have h2 := putText_len l[i]
      have h3 : FS l[i] := hs _ (List.getElem_mem hlt)
      unfold FS at h3
      rw [loopP_eq, hb b i l[i] (List.getElem?_eq_getElem hlt) (by omega), wrap_succ (by omega), List.drop_eq_getElem_cons hlt, List.flatMap_cons, ← List.append_assoc]
      exact ih (i + 1) _ (by omega) (by omega) (by rw [List.length_append]; omega)
  have := key _ 0 b rfl (Nat.zero_le _) (by omega)
  simpa using this
theorem wr_parts {c : ApiClass} (h : FClass c) (hm : mayG c = true) {R : Type} (k : W → Option R) :
    ((file_writer_text [] [] c.Name).bind fun v3 => (file_writer_text v3.1 v3.2 c.Super).bind fun v4 => (file_writer_truth v4.1 v4.2 c.Interface).bind fun v5 => (file_list_string v4.1 v5 c.Impl).bind fun v6 => (file_list_api_Field v6.1 v6.2 c.Fields).bind fun v7 => (file_list_api_Method v7.1 v7.2 c.Methods).bind k)
      = k (wrT ([], []) (tkClass c)) := by
  have f0 := fits0 h.cg hm
  unfold tkClass at f0 ⊢
  have f1 := f0.tail
  have f2 := f1.tail
  have f3 := f2.tail
  have f4 := f3.right
  have f5 := f4.right
  rw [wrT_cons, wrT_cons, wrT_cons, wrT_app, wrT_app]
  rw [show file_writer_text [] [] c.Name = _ from w_text (w := ([], [])) f0.head]
  simp only [Option.bind_some]
  rw [w_text f1.head]
  simp only [Option.bind_some]
  generalize wr1 (wr1 ([], []) (.t c.Name)) (.t c.Super) = w2 at *
  rw [w_truth f2.head]
  simp only [Option.bind_some]
  rw [show file_list_string w2.1 (wr1 w2 (tkB c.Interface)).2 c.Impl = _ from w_strings (w := wr1 w2 (tkB c.Interface)) h.impl f3.left]
  simp only [Option.bind_some]
  rw [w_fields h.fields f4.left]
  simp only [Option.bind_some]
  rw [w_methods h.methods f5]
  rfl
theorem wr_len {c : ApiClass} (h : FClass c) (hm : mayG c = true) : (wrT ([], []) (tkClass c)).1.length ≤ 1000000 ∧ (wrT ([], []) (tkClass c)).2.length ≤ 1000000000 := by
  have h1 := tkClass_le h.cg hm
  have hf : Fits ([], []) ((tkClass c).length + 999900000) := ⟨by simp; omega, by simp; omega⟩
  have h2 := hf.app
  exact ⟨by have := h2.1; omega, by have := h2.2; omega⟩
theorem encode_tail {c : ApiClass} (h : FClass c) (hm : mayG c = true) {R : Type} {w : W} (hw : w = wrT ([], []) (tkClass c)) {body : List UInt8 × Int → Option (Sum (List UInt8 × Int) (Sum (List UInt8) R))} {k k2 : List UInt8 → Option R}
    (hb : ∀ (b : List UInt8) (i : Nat) x, w.1[i]? = some x → b.length ≤ 100000000000 → FS x → body (b, (i : Int)) = some (.inl (b ++ putText x, IntKind.i64.wrap ((i : Int) + 1))))
    (he : ∀ b, body (b, (w.1.length : Int)) = some (.inr (.inl b))) (hk : ∀ b : List UInt8, k b = (appP 1 b w.2).bind k2) :
    ((num_Put [74, 65, 86, 65] (w.1.length : Int)).bind fun v9 => (loopP body (v9, 0)).bind fun o => leave o k some) = k2 (bytesC c) ∧ (bytesC c).length ≤ 100000000000 := by
  obtain ⟨l1, l2⟩ := wr_len h hm
  have hp := pool_in (w := ([], [])) (fun s hs => by cases hs) (in_class h)
  rw [← hw] at l1 l2 hp
  have l3 := put_length (w.1.length : Int)
  obtain ⟨e1, e2⟩ := puts_loop l1 (fun b i x hx hbl => hb b i x hx hbl (hp x (List.mem_of_getElem? hx))) he hp ([74, 65, 86, 65] ++ put (w.1.length : Int)) (by rw [List.length_append]; simp; omega)
  have e3 : bytesC c = outB w := by unfold bytesC; rw [← hw]
  have e4 : (outB w).length ≤ 100000000000 := by
    unfold outB
    rw [List.length_append]
    omega
  rw [e3]
  refine ⟨?_, e4⟩
  rw [num_Put_eq ⟨by omega, by omega⟩ (by simp)]
  simp only [Option.bind_some]
  rw [e1]
  show k _ = _
  rw [hk, appP1 (by omega)]
  rfl
noncomputable def encN (c : ApiClass) : Option (List UInt8) := cond (mayG c) (cond (decide (6000 < ((bytesC c).length : Int))) none (some (bytesC c))) none
theorem file_Encode_eq {c : ApiClass} (h : FClass c) : file_Encode c = some ((encN c).getD []) := by
  unfold file_Encode encN
  rw [class_May_eqG h.cg]
  simp only [Option.bind_some]
  cases hm : mayG c with
  | false => rfl
  | true =>
    simp only [Bool.not_true, cond_false, cond_true]
    rw [wr_parts h hm]
    generalize hw : wrT ([], []) (tkClass c) = w
    refine (encode_tail h hm hw.symm (body := fun z => file_Encode_l1 w z.1 z.2) (k := fun b => file_Encode_k2 w b) (k2 := fun v19 => cond (decide (6000 < ((List.length v19) : Int))) (some []) (some v19)) (fun b i x hx hbl hfx => by
      show file_Encode_l1 w b (i : Int) = _
      unfold file_Encode_l1
      rw [here hx, idx_nat, hx]
      simp only [Option.bind_some, cond_true]
      rw [num_PutText_eq (by omega) (by unfold FS at hfx; omega)]; rfl) (fun b => by
      show file_Encode_l1 w b _ = _
      unfold file_Encode_l1
      rw [past]; rfl) (fun b => rfl)).1.trans ?_
    cases decide (6000 < ((bytesC c).length : Int)) <;> rfl
theorem file_EncodeO_eq {c : ApiClass} (h : FClass c) : file_EncodeO c = some (encN c) := by
  unfold file_EncodeO encN
  rw [class_May_eqG h.cg]
  simp only [Option.bind_some]
  cases hm : mayG c with
  | false => rfl
  | true =>
    simp only [Bool.not_true, cond_false, cond_true]
    rw [wr_parts h hm]
    generalize hw : wrT ([], []) (tkClass c) = w
    refine (encode_tail h hm hw.symm (body := fun z => file_EncodeO_l1 w z.1 z.2) (k := fun b => file_EncodeO_k2 w b) (k2 := fun v19 => cond (decide (6000 < ((List.length v19) : Int))) (some none) (some (some v19))) (fun b i x hx hbl hfx => by
      show file_EncodeO_l1 w b (i : Int) = _
      unfold file_EncodeO_l1
      rw [here hx, idx_nat, hx]
      simp only [Option.bind_some, cond_true]
      rw [num_PutText_eq (by omega) (by unfold FS at hfx; omega)]; rfl) (fun b => by
      show file_EncodeO_l1 w b _ = _
      unfold file_EncodeO_l1
      rw [past]; rfl) (fun b => rfl)).1.trans ?_
    cases decide (6000 < ((bytesC c).length : Int)) <;> rfl
end Go.Proofs.YthmnlfenkhmmhaaGreat
