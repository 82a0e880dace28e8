/- TypesOrder: for every input the law returns true, and each argument reads as it read before. No further condition. Part 4 of 6. -/
import Derived.Test.YtooagifeniibcaaGreatYg3
namespace Go.Proofs.YtooagifeniibcaaGreat
noncomputable section
set_option linter.unusedSimpArgs false
set_option linter.unusedVariables false
set_option maxRecDepth 100000
set_option maxHeartbeats 4000000
structure HierHier where
  l : List ApiClass
  at_ : List (List UInt8 × Int)
def rHierHier (x : HierHier) : List AV:=[.isl 6 (List.map rApiClass x.l),.imp (List.map (rKV (fun x=>iA x)) x.at_)]
def law1_Cut (v1 : List UInt8) (v2 : Int) : Option ((List UInt8)) :=
  cond (decide (v2 < (List.length v1 : Int))) ((cutP v1 0 v2).bind fun v3=>some v3) (some v1)
theorem law1_Cut_ok (v1 : List UInt8) (v2 : Int) {r : (List UInt8)} (h : law1_Cut v1 v2 = some r) : PureC Tryz.prog 23 [sA v1,iA v2] (sA r):=by
 refine pure_fn Tryz.func23 j0 (by kernel_rfl) j0 j0 ?_
 unfold law1_Cut at h
 refine rg j0<|u<|asg j0<|r_nil ?_
 refine sw_seq ?_
 refine rg j0<|u<|mv j0<|u<|lnS ti9 j0 j0<|u<|mv j0<|u<|gtr ti3 j0 j0<|r_nil ?_
 refine sw_cond j0 (fun hc1=>?_) (fun hc1=>?_)
 ·
  replace h:=bT hc1 h
  obtain ⟨v3,q2,h⟩:=bs h
  refine rg j0<|u<|mv j0<|u<|mv j0<|u<|slS (a:=0) (b:=v2) ti9 j0 j0 j0 (bnd_hi j0 q2) q2<|u<|asg j0<|r_nil ?_
  refine sw_ret ?_
  obtain rfl:=sm h
  exact ⟨_,j0,[],ci j0,j0,j5,j0,j1⟩
 ·
  replace h:=bF hc1 h
  refine sw_skip ?_
  refine rg j0<|u<|mv j0<|u<|asg j0<|r_nil ?_
  refine sw_ret ?_
  obtain rfl:=sm h
  exact ⟨_,j0,[],ci j0,j0,j5,j0,j1⟩
def law5_texts_k2 (v13 : List (List UInt8)) : Option ((List (List UInt8))) :=
  some v13
def law5_texts_l1 (v1 : List (List UInt8)) (v2 : Int) (v8 : List (List UInt8)) (v9 : Int) : Option (Sum ((List (List UInt8)) × Int) (Sum ((List (List UInt8))) ((List (List UInt8))))) :=
  cond ((decide (v9 < (List.length v1 : Int))) && (decide (v9 < v2))) ((idx v1 v9).bind fun v10=>(law1_Cut v10 12).bind fun v11=>(appP 16 v8 [v11]).bind fun v12=>some (.inl (v12,(IntKind.i64.wrap (v9 + 1))))) (some (.inr (.inl v8)))
def law5_texts (v1 : List (List UInt8)) (v2 : Int) : Option ((List (List UInt8))) :=
  (loopP (fun z=>law5_texts_l1 v1 v2 z.1 z.2) ([],0)).bind fun o=>leave o (fun b=>law5_texts_k2 b) some
theorem law5_texts_ok (v1 : List (List UInt8)) (v2 : Int) {r : (List (List UInt8))} (h : law5_texts v1 v2 = some r) : PureC Tryz.prog 91 [.isl 1 (List.map rStr v1),iA v2] (.isl 1 (List.map rStr r)):=by
 refine pure_fn Tryz.func91 j0 (by kernel_rfl) j0 j0 ?_
 unfold law5_texts at h
 refine rg j0<|u<|asg j0<|r_nil ?_
 refine rg j0<|u<|asg j0<|r_nil ?_
 refine sw_seq ?_
 refine rg j0<|u<|asg j0<|r_nil ?_
 obtain ⟨o,ho,h⟩:=bs h
 refine sw_lpl (X:=(List (List UInt8)) × Int) (B:=(List (List UInt8))) (R:=(List (List UInt8))) (fun z=>[(0,.isl 1 (List.map rStr v1)),(1,iA v2),(5,.msl 0 0 (List.length z.1)),(6,iA z.2)]) (fun z=>[some (1,List.map rStr z.1)]) (fun b=>[(5,.msl 0 0 (List.length b))]) (fun b=>[some (1,List.map rStr b)]) (fun r env st=>PostF Tryz.prog Tryz.f91 0 (.isl 1 (List.map rStr r)) [] env st) ho ⟨[.fresh 1],ce j0 j0<|ce j0 j0<|cv j0 (.nilown j0)<|ce j0 j0<|cn,j0,⟨j4,j5⟩,j0,j1⟩ ?_ ?_ ?_
 ·
  rintro ⟨v8,v9⟩ r h
  replace h : law5_texts_l1 v1 v2 v8 v9 = some r:=h
  unfold law5_texts_l1 at h
  refine sw_seq ?_
  refine rg j0<|u<|mv j0<|u<|mv j0<|u<|lnI ti32 j0 j0<|u<|lss ti3 j0 j0<|u<|mv j0<|r_and (j:=4) 3 j0 j0 j0 j0 j0 gpn (fun hb6=>g j0 hb6<|mv j0<|g j0 hb6<|mv j0<|g j0 hb6<|lss ti3 j0 j0<|r_nil (egA [12,13,14] 3 hb6 j0 j0 j0 j0)) andF<|r_nil ?_
  refine sw_cond j0 (fun hc7=>?_) (fun hc7=>?_)
  ·
   replace h:=bT hc7 h
   refine sw_skip ?_
   refine sw_seq ?_
   refine sw_block ?_
   obtain ⟨v10,q8,h⟩:=bs h
   obtain ⟨v11,q9,h⟩:=bs h
   obtain ⟨v12,q10,h⟩:=bs h
   refine rl j0<|u<|mv j0<|u<|mv j0<|u<|mv j0<|u<|ixI ti32 j0 ti9 j0 j0 j0 q8<|u<|ldI ti9 j0 (idx_some q8).2.2 j0<|u<|pc (law1_Cut_ok v10 12 q9) j0 j0 j0<|u<|bl 1 ti32 j0 ti9 j0 (by decide) (by decide) j0 j0 j0<|u<|apM 2 ti32 j0 ti9 j0 j0 (by decide) ti32 j0 j0 j0 j0 (roX (f:=rStr) (z:=[v11]) j0 j0) (fun _=>j0) j0 q10<|u<|asg j0<|r_nil ?_
   refine rl j0<|u<|mv j0<|u<|add ti3 j0 j0<|u<|asg j0<|r_nil ?_
   obtain rfl:=sm h
   exact ⟨_,j0,[.old 2],ce j0 j0<|ce j0 j0<|cv j0 (.msl j0)<|ce j0 j0<|cn,j0,⟨⟨_,j0,rsMap (fun _=>j0)⟩,j5⟩,j0,j1⟩
  ·
   replace h:=bF hc7 h
   refine sw_exit ?_
   obtain rfl:=sm h
   exact ⟨j0,_,j0,[.old 0],cv j0 (.msl j0)<|cn,j0,⟨⟨_,j0,rsMap (fun _=>j0)⟩,j5⟩,j0,j1⟩
 ·
  rintro v13 rfl
  replace h : law5_texts_k2 v13 = some r:=h
  unfold law5_texts_k2 at h
  refine ow_intro ?_
  refine rg j0<|u<|mv j0<|u<|asg j0<|r_nil ?_
  refine sw_ret ?_
  obtain rfl:=sm h
  exact ⟨_,j0,[],rsSeal j0 j0 (fun _=>j0),j0,j5,j0,j1⟩
 ·
  rintro r' rfl env st hp
  obtain rfl:=sm h
  exact hp
def law4_Cut (v1 : ApiIns) : Option (ApiIns) :=
  (law1_Cut v1.C 14).bind fun v2=>(law1_Cut v1.M 12).bind fun v3=>some (ApiIns.mk v1.Op v1.A v2 v3)
theorem law4_Cut_ok (v1 : ApiIns) {r : ApiIns} (h : law4_Cut v1 = some r) : PureC Tryz.prog 121 [.agg [iA v1.Op,iA v1.A,sA v1.C,sA v1.M]] (.agg [iA r.Op,iA r.A,sA r.C,sA r.M]):=by
 refine pure_fn Tryz.func121 j0 (by kernel_rfl) j0 j0 ?_
 unfold law4_Cut at h
 refine rg j0<|u<|bx 0 4 j0 j0 j0 j0<|u<|al 1 ti66 j0<|r_nil ?_
 obtain ⟨v2,q1,h⟩:=bs h
 obtain ⟨v3,q2,h⟩:=bs h
 refine rd [(1,.mpt 0 0 0),(2,.mpt 1 0 0)] [some (4,[[iA v1.Op,iA v1.A,sA v2,sA v3]]),some (4,[[iA 0,iA 0,sA [],sA []]])] [7,9] [6,5,4,3,2,1,0] [(9,.mpt 0 0 2),(8,sA v3),(7,sA v1.M),(6,.mpt 0 0 3),(5,sA v2),(4,sA v1.C),(3,.mpt 0 0 2)] 2 (by kernel_rfl) (by kernel_rfl) j0 (by kernel_rfl) (dtS ⟨(fun _=>pa j0 j0 j0 j0 (fa ti66 j0 j0 j0<|j4)),(fun _=>pa j0 j0 j0 j0 (pc (law1_Cut_ok v1.M 12 q2) j0 j0 j0<|j4)),(fun _=>pa j0 j0 j0 j0 (ld ti9 j0 j0<|j4)),(fun _=>pa j0 j0 j0 j0 (fa ti66 j0 j0 j0<|j4)),(fun _=>pa j0 j0 j0 j0 (pc (law1_Cut_ok v1.C 14 q1) j0 j0 j0<|j4)),(fun _=>pa j0 j0 j0 j0 (ld ti9 j0 j0<|j4)),(fun _=>pa j0 j0 j0 j0 (fa ti66 j0 j0 j0<|j4)),j5⟩ (by kernel_rfl) j0 ⟨(fun _ _=>⟨_,j0,j0,sto ti9 j0 j0 j0<|⟨.any,[8],[(10,.mpt 0 0 3)],j0,j0,by kernel_rfl,j5,dtS ⟨(fun _=>pa j0 j0 j0 j0 (fa ti66 j0 j0 j0<|j4)),(fun h=>by cases h),(fun h=>by cases h),(fun h=>by cases h),(fun h=>by cases h),(fun h=>by cases h),(fun h=>by cases h),(fun h=>by cases h),j5⟩ (by kernel_rfl) j0 ⟨(fun h=>by cases h),(fun _ _=>⟨_,j0,j0,sto ti9 j0 j0 j0<|⟨.any,[],[],j0,j0,by kernel_rfl,j5,dt0 ⟨(fun h=>by cases h),(fun h=>by cases h),(fun h=>by cases h),(fun h=>by cases h),(fun h=>by cases h),(fun h=>by cases h),(fun h=>by cases h),(fun h=>by cases h),j5⟩ (by kernel_rfl) j0 ⟨[.old 0,.old 1],cv j0 (.mpt j0)<|cv j0 (.mpt j0)<|cn,j0,⟨⟨_,j0,rsOne ⟨ci j0,ci j0,ci j0,ci j0,j5⟩⟩,⟨_,j0,rsOne ⟨ci j0,ci j0,ci j0,ci j0,j5⟩⟩,j5⟩,j0,j1⟩⟩⟩),j5⟩⟩⟩),(fun _ h=>by cases h),j5⟩) ?_
 refine rg j0<|u<|ld ti66 j0 j0<|u<|sto ti66 j0 j0 j0<|r_nil ?_
 refine sw_ret ?_
 obtain rfl:=sm h
 exact ⟨_,j0,[],ci j0,j0,j5,j0,j1⟩
def law5_method_k6 (v1 : ApiMethod) (v2 : (List UInt8)) (v3 : (List (List UInt8))) (v4 : (List UInt8)) (v15 : List ApiIns) (v32 : List ApiMap) (v43 : List ApiTrap) : Option (ApiMethod) :=
  some (ApiMethod.mk v2 v3 v4 v1.Static v1.Abstract v1.Locals v1.Stack v15 v32 v43)
def law5_method_l5 (v1 : ApiMethod) (v38 : List ApiTrap) (v39 : Int) : Option (Sum ((List ApiTrap) × Int) (Sum ((List ApiTrap)) (ApiMethod))) :=
  cond ((decide (v39 < (List.length v1.Traps : Int))) && (decide (v39 < 8))) ((idx v1.Traps v39).bind fun v40=>(law1_Cut v40.C 10).bind fun v41=>(appP 40 v38 [(ApiTrap.mk v40.From v40.To v40.At v41)]).bind fun v42=>some (.inl (v42,(IntKind.i64.wrap (v39 + 1))))) (some (.inr (.inl v38)))
def law5_method_k4 (v1 : ApiMethod) (v2 : (List UInt8)) (v3 : (List (List UInt8))) (v4 : (List UInt8)) (v15 : List ApiIns) (v32 : List ApiMap) : Option (ApiMethod) :=
  (loopP (fun z=>law5_method_l5 v1 z.1 z.2) ([],0)).bind fun o=>leave o (fun b=>law5_method_k6 v1 v2 v3 v4 v15 v32 b) some
def law5_method_l3 (v1 : ApiMethod) (v24 : List ApiMap) (v25 : Int) : Option (Sum ((List ApiMap) × Int) (Sum ((List ApiMap)) (ApiMethod))) :=
  cond ((decide (v25 < (List.length v1.Maps : Int))) && (decide (v25 < 104))) ((idx v1.Maps v25).bind fun v26=>(idx v1.Maps v25).bind fun v27=>(law5_texts v27.Locals 20).bind fun v28=>(idx v1.Maps v25).bind fun v29=>(law5_texts v29.Stack 20).bind fun v30=>(appP 56 v24 [(ApiMap.mk v26.At v28 v30)]).bind fun v31=>some (.inl (v31,(IntKind.i64.wrap (v25 + 1))))) (some (.inr (.inl v24)))
def law5_method_k2 (v1 : ApiMethod) (v2 : (List UInt8)) (v3 : (List (List UInt8))) (v4 : (List UInt8)) (v15 : List ApiIns) : Option (ApiMethod) :=
  (loopP (fun z=>law5_method_l3 v1 z.1 z.2) ([],0)).bind fun o=>leave o (fun b=>law5_method_k4 v1 v2 v3 v4 v15 b) some
def law5_method_l1 (v1 : ApiMethod) (v10 : List ApiIns) (v11 : Int) : Option (Sum ((List ApiIns) × Int) (Sum ((List ApiIns)) (ApiMethod))) :=
  cond ((decide (v11 < (List.length v1.Code : Int))) && (decide (v11 < 104))) ((idx v1.Code v11).bind fun v12=>(law4_Cut v12).bind fun v13=>(appP 48 v10 [v13]).bind fun v14=>some (.inl (v14,(IntKind.i64.wrap (v11 + 1))))) (some (.inr (.inl v10)))
def law5_method (v1 : ApiMethod) : Option (ApiMethod) :=
  (law1_Cut v1.Name 10).bind fun v2=>(law5_texts v1.Params 8).bind fun v3=>(law1_Cut v1.Ret 12).bind fun v4=>(loopP (fun z=>law5_method_l1 v1 z.1 z.2) ([],0)).bind fun o=>leave o (fun b=>law5_method_k2 v1 v2 v3 v4 b) some
theorem law5_method_ok (v1 : ApiMethod) {r : ApiMethod} (h : law5_method v1 = some r) : PureC Tryz.prog 92 [.agg [sA v1.Name,.isl 1 (List.map rStr v1.Params),sA v1.Ret,bA v1.Static,bA v1.Abstract,iA v1.Locals,iA v1.Stack,.isl 4 (List.map rApiIns v1.Code),.isl 3 (List.map rApiMap v1.Maps),.isl 4 (List.map rApiTrap v1.Traps)]] (.agg [sA r.Name,.isl 1 (List.map rStr r.Params),sA r.Ret,bA r.Static,bA r.Abstract,iA r.Locals,iA r.Stack,.isl 4 (List.map rApiIns r.Code),.isl 3 (List.map rApiMap r.Maps),.isl 4 (List.map rApiTrap r.Traps)]):=by
 refine pure_fn Tryz.func92 j0 (by kernel_rfl) j0 j0 ?_
 unfold law5_method at h
 refine rg j0<|u<|bx 0 10 j0 j0 j0 j0<|u<|al 1 ti62 j0<|r_nil ?_
 obtain ⟨v2,q1,h⟩:=bs h
 obtain ⟨v3,q2,h⟩:=bs h
 obtain ⟨v4,q3,h⟩:=bs h
 refine rd [(1,.mpt 0 0 0),(2,.mpt 1 0 0),(3,.mpt 2 0 0)] [some (10,[[sA v1.Name,.isl 1 (List.map rStr v1.Params),sA v1.Ret,bA v1.Static,bA v1.Abstract,iA v1.Locals,iA v1.Stack,.isl 4 (List.map rApiIns v1.Code),.isl 3 (List.map rApiMap v1.Maps),.isl 4 (List.map rApiTrap v1.Traps)]]),some (10,[[sA [],.lit (.slice none 0 0),sA [],bA false,bA false,iA 0,iA 0,.lit (.slice none 0 0),.lit (.slice none 0 0),.lit (.slice none 0 0)]]),some (10,[[sA v2,.isl 1 (List.map rStr v3),sA v4,bA v1.Static,bA v1.Abstract,iA v1.Locals,iA v1.Stack,.lit (.slice none 0 0),.lit (.slice none 0 0),.lit (.slice none 0 0)]])] [18,19] [17,16,15,14,13,12,11,10,9,8,7,6,5,4,3,2,1,0] [(25,.agg [sA v2,.isl 1 (List.map rStr v3),sA v4,bA v1.Static,bA v1.Abstract,iA v1.Locals,iA v1.Stack,.lit (.slice none 0 0),.lit (.slice none 0 0),.lit (.slice none 0 0)]),(24,iA v1.Stack),(23,.mpt 0 0 6),(22,iA v1.Locals),(21,.mpt 0 0 5),(20,bA v1.Abstract),(19,.mpt 0 0 4),(18,bA v1.Static),(17,.mpt 0 0 3),(16,sA v4),(15,sA v1.Ret),(14,.mpt 0 0 2),(13,.isl 1 (List.map rStr v3)),(12,.isl 1 (List.map rStr v1.Params)),(11,.mpt 0 0 1),(10,sA v2),(9,sA v1.Name),(8,.mpt 0 0 0)] 2 (by kernel_rfl) (by kernel_rfl) j0 (by kernel_rfl) (dtS ⟨(fun _=>pa j0 j0 j0 j0 (bd ti62 j0 j0 j0<|j4)),(fun _=>pa j0 j0 j0 j0 (ld ti3 j0 j0<|j4)),(fun _=>pa j0 j0 j0 j0 (fa ti62 j0 j0 j0<|j4)),(fun _=>pa j0 j0 j0 j0 (ld ti3 j0 j0<|j4)),(fun _=>pa j0 j0 j0 j0 (fa ti62 j0 j0 j0<|j4)),(fun _=>pa j0 j0 j0 j0 (ld ti4 j0 j0<|j4)),(fun _=>pa j0 j0 j0 j0 (fa ti62 j0 j0 j0<|j4)),(fun _=>pa j0 j0 j0 j0 (ld ti4 j0 j0<|j4)),(fun _=>pa j0 j0 j0 j0 (fa ti62 j0 j0 j0<|j4)),(fun _=>pa j0 j0 j0 j0 (pc (law1_Cut_ok v1.Ret 12 q3) j0 j0 j0<|j4)),(fun _=>pa j0 j0 j0 j0 (ld ti9 j0 j0<|j4)),(fun _=>pa j0 j0 j0 j0 (fa ti62 j0 j0 j0<|j4)),(fun _=>pa j0 j0 j0 j0 (pc (law5_texts_ok v1.Params 8 q2) j0 j0 j0<|j4)),(fun _=>pa j0 j0 j0 j0 (ld ti32 j0 j0<|j4)),(fun _=>pa j0 j0 j0 j0 (fa ti62 j0 j0 j0<|j4)),(fun _=>pa j0 j0 j0 j0 (pc (law1_Cut_ok v1.Name 10 q1) j0 j0 j0<|j4)),(fun _=>pa j0 j0 j0 j0 (ld ti9 j0 j0<|j4)),(fun _=>pa j0 j0 j0 j0 (fa ti62 j0 j0 j0<|j4)),j5⟩ (by kernel_rfl) j0 ⟨(fun _ _=>⟨_,j0,j0,al 2 ti62 j0<|⟨(.mpt 2 0 0),[],[(3,.mpt 2 0 0)],j0,j0,by kernel_rfl,j0,dtS ⟨(fun _=>pa j0 j0 j0 j0 (bd ti62 j0 j0 j0<|j4)),(fun _=>pa j0 j0 j0 j0 (ld ti3 j0 j0<|j4)),(fun _=>pa j0 j0 j0 j0 (fa ti62 j0 j0 j0<|j4)),(fun _=>pa j0 j0 j0 j0 (ld ti3 j0 j0<|j4)),(fun _=>pa j0 j0 j0 j0 (fa ti62 j0 j0 j0<|j4)),(fun _=>pa j0 j0 j0 j0 (ld ti4 j0 j0<|j4)),(fun _=>pa j0 j0 j0 j0 (fa ti62 j0 j0 j0<|j4)),(fun _=>pa j0 j0 j0 j0 (ld ti4 j0 j0<|j4)),(fun _=>pa j0 j0 j0 j0 (fa ti62 j0 j0 j0<|j4)),(fun _=>pa j0 j0 j0 j0 (pc (law1_Cut_ok v1.Ret 12 q3) j0 j0 j0<|j4)),(fun _=>pa j0 j0 j0 j0 (ld ti9 j0 j0<|j4)),(fun _=>pa j0 j0 j0 j0 (fa ti62 j0 j0 j0<|j4)),(fun _=>pa j0 j0 j0 j0 (pc (law5_texts_ok v1.Params 8 q2) j0 j0 j0<|j4)),(fun _=>pa j0 j0 j0 j0 (ld ti32 j0 j0<|j4)),(fun _=>pa j0 j0 j0 j0 (fa ti62 j0 j0 j0<|j4)),(fun _=>pa j0 j0 j0 j0 (pc (law1_Cut_ok v1.Name 10 q1) j0 j0 j0<|j4)),(fun _=>pa j0 j0 j0 j0 (ld ti9 j0 j0<|j4)),(fun _=>pa j0 j0 j0 j0 (fa ti62 j0 j0 j0<|j4)),j5⟩ (by kernel_rfl) j0 ⟨(fun h=>by cases h),(fun _ _=>⟨_,j0,j0,sto ti62 j0 j0 j0<|⟨.any,[],[],j0,j0,by kernel_rfl,j5,dt0 ⟨(fun h=>by cases h),(fun h=>by cases h),(fun h=>by cases h),(fun h=>by cases h),(fun h=>by cases h),(fun h=>by cases h),(fun h=>by cases h),(fun h=>by cases h),(fun h=>by cases h),(fun h=>by cases h),(fun h=>by cases h),(fun h=>by cases h),(fun h=>by cases h),(fun h=>by cases h),(fun h=>by cases h),(fun h=>by cases h),(fun h=>by cases h),(fun h=>by cases h),j5⟩ (by kernel_rfl) j0 ⟨[.old 0,.old 1,.old 2],cv j0 (.mpt j0)<|cv j0 (.mpt j0)<|cv j0 (.mpt j0)<|cn,j0,⟨⟨_,j0,rsOne ⟨ci j0,ci j0,ci j0,ci j0,ci j0,ci j0,ci j0,ci j0,ci j0,ci j0,j5⟩⟩,⟨_,j0,rsOne ⟨ci j0,ci j0,ci j0,ci j0,ci j0,ci j0,ci j0,ci j0,ci j0,ci j0,j5⟩⟩,⟨_,j0,rsOne ⟨ci j0,ci j0,ci j0,ci j0,ci j0,ci j0,ci j0,ci j0,ci j0,ci j0,j5⟩⟩,j5⟩,j0,j1⟩⟩⟩),j5⟩⟩⟩),(fun _ h=>by cases h),j5⟩) ?_
 refine sw_seq ?_
 refine rg j0<|u<|asg j0<|r_nil ?_
 obtain ⟨o,ho,h⟩:=bs h
 refine sw_lpl (X:=(List ApiIns) × Int) (B:=(List ApiIns)) (R:=ApiMethod) (fun z=>[(1,.mpt 0 0 0),(2,.mpt 1 0 0),(3,.mpt 2 0 0),(4,iA z.2)]) (fun z=>[some (10,[[sA v1.Name,.isl 1 (List.map rStr v1.Params),sA v1.Ret,bA v1.Static,bA v1.Abstract,iA v1.Locals,iA v1.Stack,.isl 4 (List.map rApiIns v1.Code),.isl 3 (List.map rApiMap v1.Maps),.isl 4 (List.map rApiTrap v1.Traps)]]),some (10,[[sA [],.lit (.slice none 0 0),sA [],bA false,bA false,iA 0,iA 0,.lit (.slice none 0 0),.lit (.slice none 0 0),.lit (.slice none 0 0)]]),some (10,[[sA v2,.isl 1 (List.map rStr v3),sA v4,bA v1.Static,bA v1.Abstract,iA v1.Locals,iA v1.Stack,.msl 3 0 (List.length z.1),.lit (.slice none 0 0),.lit (.slice none 0 0)]]),some (4,List.map rApiIns z.1)]) (fun b=>[(1,.mpt 0 0 0),(2,.mpt 1 0 0),(3,.mpt 2 0 0)]) (fun b=>[some (10,[[sA v1.Name,.isl 1 (List.map rStr v1.Params),sA v1.Ret,bA v1.Static,bA v1.Abstract,iA v1.Locals,iA v1.Stack,.isl 4 (List.map rApiIns v1.Code),.isl 3 (List.map rApiMap v1.Maps),.isl 4 (List.map rApiTrap v1.Traps)]]),some (10,[[sA [],.lit (.slice none 0 0),sA [],bA false,bA false,iA 0,iA 0,.lit (.slice none 0 0),.lit (.slice none 0 0),.lit (.slice none 0 0)]]),some (10,[[sA v2,.isl 1 (List.map rStr v3),sA v4,bA v1.Static,bA v1.Abstract,iA v1.Locals,iA v1.Stack,.msl 3 0 (List.length b),.lit (.slice none 0 0),.lit (.slice none 0 0)]]),some (4,List.map rApiIns b)]) (fun r env st=>PostF Tryz.prog Tryz.f92 0 (.agg [sA r.Name,.isl 1 (List.map rStr r.Params),sA r.Ret,bA r.Static,bA r.Abstract,iA r.Locals,iA r.Stack,.isl 4 (List.map rApiIns r.Code),.isl 3 (List.map rApiMap r.Maps),.isl 4 (List.map rApiTrap r.Traps)]) [] env st) ho ⟨[.old 0,.old 1,.old 2,.fresh 4],cv j0 (.mpt j0)<|cv j0 (.mpt j0)<|cv j0 (.mpt j0)<|ce j0 j0<|cn,j0,⟨⟨_,j0,rsOne ⟨ci j0,ci j0,ci j0,ci j0,ci j0,ci j0,ci j0,ci j0,ci j0,ci j0,j5⟩⟩,⟨_,j0,rsOne ⟨ci j0,ci j0,ci j0,ci j0,ci j0,ci j0,ci j0,ci j0,ci j0,ci j0,j5⟩⟩,⟨_,j0,rsOne ⟨ci j0,ci j0,ci j0,ci j0,ci j0,ci j0,ci j0,.nilown j0,ci j0,ci j0,j5⟩⟩,j4,j5⟩,j0,j1⟩ ?_ ?_ ?_
 ·
  rintro ⟨v10,v11⟩ r h
  replace h : law5_method_l1 v1 v10 v11 = some r:=h
  unfold law5_method_l1 at h
  refine sw_seq ?_
  refine rg j0<|u<|mv j0<|u<|fa ti62 j0 j0 j0<|u<|ld ti58 j0 j0<|u<|lnI ti58 j0 j0<|u<|lss ti3 j0 j0<|u<|mv j0<|r_and (j:=5) 2 j0 j0 j0 j0 j0 gpn (fun hb9=>g j0 hb9<|mv j0<|g j0 hb9<|lss ti3 j0 j0<|r_nil (egA [32,33] 2 hb9 j0 j0 j0 j0)) andF<|r_nil ?_
  refine sw_cond j0 (fun hc10=>?_) (fun hc10=>?_)
  ·
   replace h:=bT hc10 h
   refine sw_skip ?_
   refine sw_seq ?_
   refine sw_block ?_
   obtain ⟨v12,q11,h⟩:=bs h
   obtain ⟨v13,q12,h⟩:=bs h
   obtain ⟨v14,q13,h⟩:=bs h
   refine rdL [(1,.mpt 0 0 0),(2,.mpt 1 0 0),(3,.mpt 2 0 0),(4,iA v11)] [some (10,[[sA v1.Name,.isl 1 (List.map rStr v1.Params),sA v1.Ret,bA v1.Static,bA v1.Abstract,iA v1.Locals,iA v1.Stack,.isl 4 (List.map rApiIns v1.Code),.isl 3 (List.map rApiMap v1.Maps),.isl 4 (List.map rApiTrap v1.Traps)]]),some (10,[[sA [],.lit (.slice none 0 0),sA [],bA false,bA false,iA 0,iA 0,.lit (.slice none 0 0),.lit (.slice none 0 0),.lit (.slice none 0 0)]]),some (10,[[sA v2,.isl 1 (List.map rStr v3),sA v4,bA v1.Static,bA v1.Abstract,iA v1.Locals,iA v1.Stack,.msl 3 0 (List.length v14),.lit (.slice none 0 0),.lit (.slice none 0 0)]]),some (4,List.map rApiIns v14)] [8,9,11] [7,6,5,4,3,2,1,0] [(44,.agg [iA v13.Op,iA v13.A,sA v13.C,sA v13.M]),(43,.agg [iA v12.Op,iA v12.A,sA v12.C,sA v12.M]),(42,.ipt 4 (List.map rApiIns v1.Code) (Int.toNat v11) 0),(41,iA v11),(40,.isl 4 (List.map rApiIns v1.Code)),(39,.mpt 0 0 7),(38,.msl 3 0 (List.length v10)),(37,.mpt 2 0 7)] 3 (by kernel_rfl) (by kernel_rfl) j0 (by kernel_rfl) (dtS ⟨(fun _=>pa j0 j0 j0 j0 (pc (law4_Cut_ok v12 q12) j0 j0 j0<|j4)),(fun _=>pa j0 j0 j0 j0 (ldI ti66 j0 (idx_some q11).2.2 j0<|j4)),(fun _=>pa j0 j0 j0 j0 (ixI ti58 j0 ti66 j0 j0 j0 q11<|j4)),(fun _=>pa j0 j0 j0 j0 (mv j0<|j4)),(fun _=>pa j0 j0 j0 j0 (ld ti58 j0 j0<|j4)),(fun _=>pa j0 j0 j0 j0 (fa ti62 j0 j0 j0<|j4)),(fun _=>pa j0 j0 j0 j0 (ld ti58 j0 j0<|j4)),(fun _=>pa j0 j0 j0 j0 (fa ti62 j0 j0 j0<|j4)),j5⟩ (by kernel_rfl) j0 ⟨(fun _ _=>⟨_,j0,j0,bl 4 ti58 j0 ti66 j0 (by decide) (by decide) j0 j0 j0<|⟨(.msl 4 0 1),[],[(45,.msl 4 0 1)],j0,j0,by kernel_rfl,j0,dtS ⟨(fun h=>by cases h),(fun _=>pa j0 j0 j0 j0 (ldI ti66 j0 (idx_some q11).2.2 j0<|j4)),(fun _=>pa j0 j0 j0 j0 (ixI ti58 j0 ti66 j0 j0 j0 q11<|j4)),(fun _=>pa j0 j0 j0 j0 (mv j0<|j4)),(fun _=>pa j0 j0 j0 j0 (ld ti58 j0 j0<|j4)),(fun _=>pa j0 j0 j0 j0 (fa ti62 j0 j0 j0<|j4)),(fun _=>pa j0 j0 j0 j0 (ld ti58 j0 j0<|j4)),(fun _=>pa j0 j0 j0 j0 (fa ti62 j0 j0 j0<|j4)),j5⟩ (by kernel_rfl) j0 ⟨(fun h=>by cases h),(fun _ _=>⟨_,j0,j0,apM 5 ti58 j0 ti66 j0 j0 (by decide) ti58 j0 j0 j0 j0 (roX (f:=rApiIns) (z:=[v13]) j0 j0) (fun _=>j0) j0 q13<|⟨(.msl 5 0 (List.length v14)),[10],[(47,.mpt 2 0 7),(46,.msl 5 0 (List.length v14))],j0,j0,by kernel_rfl,j0,dtS ⟨(fun _=>pa j0 j0 j0 j0 (fa ti62 j0 j0 j0<|j4)),(fun h=>by cases h),(fun _=>pa j0 j0 j0 j0 (ldI ti66 j0 (idx_some q11).2.2 j0<|j4)),(fun _=>pa j0 j0 j0 j0 (ixI ti58 j0 ti66 j0 j0 j0 q11<|j4)),(fun _=>pa j0 j0 j0 j0 (mv j0<|j4)),(fun _=>pa j0 j0 j0 j0 (ld ti58 j0 j0<|j4)),(fun _=>pa j0 j0 j0 j0 (fa ti62 j0 j0 j0<|j4)),(fun h=>by cases h),(fun _=>pa j0 j0 j0 j0 (fa ti62 j0 j0 j0<|j4)),j5⟩ (by kernel_rfl) j0 ⟨(fun h=>by cases h),(fun h=>by cases h),(fun _ _=>⟨_,j0,j0,sto ti58 j0 j0 j0<|⟨.any,[],[],j0,j0,by kernel_rfl,j5,dt0 ⟨(fun h=>by cases h),(fun h=>by cases h),(fun h=>by cases h),(fun h=>by cases h),(fun h=>by cases h),(fun h=>by cases h),(fun h=>by cases h),(fun h=>by cases h),(fun h=>by cases h),j5⟩ (by kernel_rfl) j0 ⟨[.old 0,.old 1,.old 2,.old 5],cv j0 (.mpt j0)<|cv j0 (.mpt j0)<|cv j0 (.mpt j0)<|ce j0 j0<|cn,j0,⟨⟨_,j0,rsOne ⟨ci j0,ci j0,ci j0,ci j0,ci j0,ci j0,ci j0,ci j0,ci j0,ci j0,j5⟩⟩,⟨_,j0,rsOne ⟨ci j0,ci j0,ci j0,ci j0,ci j0,ci j0,ci j0,ci j0,ci j0,ci j0,j5⟩⟩,⟨_,j0,rsOne ⟨ci j0,ci j0,ci j0,ci j0,ci j0,ci j0,ci j0,.msl j0,ci j0,ci j0,j5⟩⟩,⟨_,j0,rsMap (fun _=>j0)⟩,j5⟩,j0,j1⟩⟩⟩),j5⟩⟩⟩),(fun _ h=>by cases h),j5⟩⟩⟩),(fun _ h=>by cases h),(fun _ h=>by cases h),j5⟩) ?_
   refine rl j0<|u<|mv j0<|u<|add ti3 j0 j0<|u<|asg j0<|r_nil ?_
   obtain rfl:=sm h
   exact ⟨_,j0,[.old 0,.old 1,.old 2,.old 3],cv j0 (.mpt j0)<|cv j0 (.mpt j0)<|cv j0 (.mpt j0)<|ce j0 j0<|cn,j0,⟨⟨_,j0,rsOne ⟨ci j0,ci j0,ci j0,ci j0,ci j0,ci j0,ci j0,ci j0,ci j0,ci j0,j5⟩⟩,⟨_,j0,rsOne ⟨ci j0,ci j0,ci j0,ci j0,ci j0,ci j0,ci j0,ci j0,ci j0,ci j0,j5⟩⟩,⟨_,j0,rsOne ⟨ci j0,ci j0,ci j0,ci j0,ci j0,ci j0,ci j0,.msl j0,ci j0,ci j0,j5⟩⟩,⟨_,j0,rsMap (fun _=>j0)⟩,j5⟩,j0,j1⟩
  ·
   replace h:=bF hc10 h
   refine sw_exit ?_
   obtain rfl:=sm h
   exact ⟨j0,_,j0,[.old 0,.old 1,.old 2,.old 3],cv j0 (.mpt j0)<|cv j0 (.mpt j0)<|cv j0 (.mpt j0)<|cn,j0,⟨⟨_,j0,rsOne ⟨ci j0,ci j0,ci j0,ci j0,ci j0,ci j0,ci j0,ci j0,ci j0,ci j0,j5⟩⟩,⟨_,j0,rsOne ⟨ci j0,ci j0,ci j0,ci j0,ci j0,ci j0,ci j0,ci j0,ci j0,ci j0,j5⟩⟩,⟨_,j0,rsOne ⟨ci j0,ci j0,ci j0,ci j0,ci j0,ci j0,ci j0,.msl j0,ci j0,ci j0,j5⟩⟩,⟨_,j0,rsMap (fun _=>j0)⟩,j5⟩,j0,j1⟩
 ·
  rintro v15 rfl
  replace h : law5_method_k2 v1 v2 v3 v4 v15 = some r:=h
  unfold law5_method_k2 at h
  refine ow_intro ?_
  refine sw_seq ?_
  refine rg j0<|u<|asg j0<|r_nil ?_
  obtain ⟨o,ho,h⟩:=bs h
  refine sw_lpl (X:=(List ApiMap) × Int) (B:=(List ApiMap)) (R:=ApiMethod) (fun z=>[(1,.mpt 0 0 0),(2,.mpt 1 0 0),(3,.mpt 2 0 0),(5,iA z.2)]) (fun z=>[some (10,[[sA v1.Name,.isl 1 (List.map rStr v1.Params),sA v1.Ret,bA v1.Static,bA v1.Abstract,iA v1.Locals,iA v1.Stack,.isl 4 (List.map rApiIns v1.Code),.isl 3 (List.map rApiMap v1.Maps),.isl 4 (List.map rApiTrap v1.Traps)]]),some (10,[[sA [],.lit (.slice none 0 0),sA [],bA false,bA false,iA 0,iA 0,.lit (.slice none 0 0),.lit (.slice none 0 0),.lit (.slice none 0 0)]]),some (10,[[sA v2,.isl 1 (List.map rStr v3),sA v4,bA v1.Static,bA v1.Abstract,iA v1.Locals,iA v1.Stack,.msl 3 0 (List.length v15),.msl 4 0 (List.length z.1),.lit (.slice none 0 0)]]),some (4,List.map rApiIns v15),some (3,List.map rApiMap z.1)]) (fun b=>[(1,.mpt 0 0 0),(2,.mpt 1 0 0),(3,.mpt 2 0 0)]) (fun b=>[some (10,[[sA v1.Name,.isl 1 (List.map rStr v1.Params),sA v1.Ret,bA v1.Static,bA v1.Abstract,iA v1.Locals,iA v1.Stack,.isl 4 (List.map rApiIns v1.Code),.isl 3 (List.map rApiMap v1.Maps),.isl 4 (List.map rApiTrap v1.Traps)]]),some (10,[[sA [],.lit (.slice none 0 0),sA [],bA false,bA false,iA 0,iA 0,.lit (.slice none 0 0),.lit (.slice none 0 0),.lit (.slice none 0 0)]]),some (10,[[sA v2,.isl 1 (List.map rStr v3),sA v4,bA v1.Static,bA v1.Abstract,iA v1.Locals,iA v1.Stack,.msl 3 0 (List.length v15),.msl 4 0 (List.length b),.lit (.slice none 0 0)]]),some (4,List.map rApiIns v15),some (3,List.map rApiMap b)]) (fun r env st=>PostF Tryz.prog Tryz.f92 0 (.agg [sA r.Name,.isl 1 (List.map rStr r.Params),sA r.Ret,bA r.Static,bA r.Abstract,iA r.Locals,iA r.Stack,.isl 4 (List.map rApiIns r.Code),.isl 3 (List.map rApiMap r.Maps),.isl 4 (List.map rApiTrap r.Traps)]) [] env st) ho ⟨[.old 0,.old 1,.old 2,.old 3,.fresh 3],cv j0 (.mpt j0)<|cv j0 (.mpt j0)<|cv j0 (.mpt j0)<|ce j0 j0<|cn,j0,⟨⟨_,j0,rsOne ⟨ci j0,ci j0,ci j0,ci j0,ci j0,ci j0,ci j0,ci j0,ci j0,ci j0,j5⟩⟩,⟨_,j0,rsOne ⟨ci j0,ci j0,ci j0,ci j0,ci j0,ci j0,ci j0,ci j0,ci j0,ci j0,j5⟩⟩,⟨_,j0,rsOne ⟨ci j0,ci j0,ci j0,ci j0,ci j0,ci j0,ci j0,.msl j0,.nilown j0,ci j0,j5⟩⟩,⟨_,j0,rsMap (fun _=>j0)⟩,j4,j5⟩,j0,j1⟩ ?_ ?_ ?_
  ·
   rintro ⟨v24,v25⟩ r h
   replace h : law5_method_l3 v1 v24 v25 = some r:=h
   unfold law5_method_l3 at h
   refine sw_seq ?_
   refine rg j0<|u<|mv j0<|u<|fa ti62 j0 j0 j0<|u<|ld ti59 j0 j0<|u<|lnI ti59 j0 j0<|u<|lss ti3 j0 j0<|u<|mv j0<|r_and (j:=5) 2 j0 j0 j0 j0 j0 gpn (fun hb22=>g j0 hb22<|mv j0<|g j0 hb22<|lss ti3 j0 j0<|r_nil (egA [54,55] 2 hb22 j0 j0 j0 j0)) andF<|r_nil ?_
   refine sw_cond j0 (fun hc23=>?_) (fun hc23=>?_)
   ·
    replace h:=bT hc23 h
    refine sw_skip ?_
    refine sw_seq ?_
    refine sw_block ?_
    obtain ⟨v26,q24,h⟩:=bs h
    obtain ⟨v27,q25,h⟩:=bs h
    obtain ⟨v28,q26,h⟩:=bs h
    obtain ⟨v29,q27,h⟩:=bs h
    obtain ⟨v30,q28,h⟩:=bs h
    obtain ⟨v31,q29,h⟩:=bs h
    refine rdL [(1,.mpt 0 0 0),(2,.mpt 1 0 0),(3,.mpt 2 0 0),(5,iA v25)] [some (10,[[sA v1.Name,.isl 1 (List.map rStr v1.Params),sA v1.Ret,bA v1.Static,bA v1.Abstract,iA v1.Locals,iA v1.Stack,.isl 4 (List.map rApiIns v1.Code),.isl 3 (List.map rApiMap v1.Maps),.isl 4 (List.map rApiTrap v1.Traps)]]),some (10,[[sA [],.lit (.slice none 0 0),sA [],bA false,bA false,iA 0,iA 0,.lit (.slice none 0 0),.lit (.slice none 0 0),.lit (.slice none 0 0)]]),some (10,[[sA v2,.isl 1 (List.map rStr v3),sA v4,bA v1.Static,bA v1.Abstract,iA v1.Locals,iA v1.Stack,.msl 3 0 (List.length v15),.msl 4 0 (List.length v31),.lit (.slice none 0 0)]]),some (4,List.map rApiIns v15),some (3,List.map rApiMap v31)] [23,24,26] [22,21,20,19,18,17,16,15,14,13,12,11,10,9,8,7,6,5,4,3,2,1,0] [(81,.agg [iA v26.At,.isl 1 (List.map rStr v28),.isl 1 (List.map rStr v30)]),(80,.isl 1 (List.map rStr v30)),(79,.isl 1 (List.map rStr v29.Stack)),(78,.ipt 3 (List.map rApiMap v1.Maps) (Int.toNat v25) 2),(77,.ipt 3 (List.map rApiMap v1.Maps) (Int.toNat v25) 0),(76,iA v25),(75,.isl 3 (List.map rApiMap v1.Maps)),(74,.mpt 0 0 8),(73,.isl 1 (List.map rStr v28)),(72,.isl 1 (List.map rStr v27.Locals)),(71,.ipt 3 (List.map rApiMap v1.Maps) (Int.toNat v25) 1),(70,.ipt 3 (List.map rApiMap v1.Maps) (Int.toNat v25) 0),(69,iA v25),(68,.isl 3 (List.map rApiMap v1.Maps)),(67,.mpt 0 0 8),(66,iA v26.At),(65,.ipt 3 (List.map rApiMap v1.Maps) (Int.toNat v25) 0),(64,.ipt 3 (List.map rApiMap v1.Maps) (Int.toNat v25) 0),(63,iA v25),(62,.isl 3 (List.map rApiMap v1.Maps)),(61,.mpt 0 0 8),(60,.msl 4 0 (List.length v24)),(59,.mpt 2 0 8)] 3 (by kernel_rfl) (by kernel_rfl) j0 (by kernel_rfl) (dtS ⟨(fun _=>pa j0 j0 j0 j0 (bd ti81 j0 j0 j0<|j4)),(fun _=>pa j0 j0 j0 j0 (pc (law5_texts_ok v29.Stack 20 q28) j0 j0 j0<|j4)),(fun _=>pa j0 j0 j0 j0 (ldI ti32 j0 (idx_some q27).2.2 j0<|j4)),(fun _=>pa j0 j0 j0 j0 (fa ti81 j0 j0 j0<|j4)),(fun _=>pa j0 j0 j0 j0 (ixI ti59 j0 ti81 j0 j0 j0 q27<|j4)),(fun _=>pa j0 j0 j0 j0 (mv j0<|j4)),(fun _=>pa j0 j0 j0 j0 (ld ti59 j0 j0<|j4)),(fun _=>pa j0 j0 j0 j0 (fa ti62 j0 j0 j0<|j4)),(fun _=>pa j0 j0 j0 j0 (pc (law5_texts_ok v27.Locals 20 q26) j0 j0 j0<|j4)),(fun _=>pa j0 j0 j0 j0 (ldI ti32 j0 (idx_some q25).2.2 j0<|j4)),(fun _=>pa j0 j0 j0 j0 (fa ti81 j0 j0 j0<|j4)),(fun _=>pa j0 j0 j0 j0 (ixI ti59 j0 ti81 j0 j0 j0 q25<|j4)),(fun _=>pa j0 j0 j0 j0 (mv j0<|j4)),(fun _=>pa j0 j0 j0 j0 (ld ti59 j0 j0<|j4)),(fun _=>pa j0 j0 j0 j0 (fa ti62 j0 j0 j0<|j4)),(fun _=>pa j0 j0 j0 j0 (ldI ti3 j0 (idx_some q24).2.2 j0<|j4)),(fun _=>pa j0 j0 j0 j0 (fa ti81 j0 j0 j0<|j4)),(fun _=>pa j0 j0 j0 j0 (ixI ti59 j0 ti81 j0 j0 j0 q24<|j4)),(fun _=>pa j0 j0 j0 j0 (mv j0<|j4)),(fun _=>pa j0 j0 j0 j0 (ld ti59 j0 j0<|j4)),(fun _=>pa j0 j0 j0 j0 (fa ti62 j0 j0 j0<|j4)),(fun _=>pa j0 j0 j0 j0 (ld ti59 j0 j0<|j4)),(fun _=>pa j0 j0 j0 j0 (fa ti62 j0 j0 j0<|j4)),j5⟩ (by kernel_rfl) j0 ⟨(fun _ _=>⟨_,j0,j0,bl 5 ti59 j0 ti81 j0 (by decide) (by decide) j0 j0 j0<|⟨(.msl 5 0 1),[],[(82,.msl 5 0 1)],j0,j0,by kernel_rfl,j0,dtS ⟨(fun h=>by cases h),(fun _=>pa j0 j0 j0 j0 (pc (law5_texts_ok v29.Stack 20 q28) j0 j0 j0<|j4)),(fun _=>pa j0 j0 j0 j0 (ldI ti32 j0 (idx_some q27).2.2 j0<|j4)),(fun _=>pa j0 j0 j0 j0 (fa ti81 j0 j0 j0<|j4)),(fun _=>pa j0 j0 j0 j0 (ixI ti59 j0 ti81 j0 j0 j0 q27<|j4)),(fun _=>pa j0 j0 j0 j0 (mv j0<|j4)),(fun _=>pa j0 j0 j0 j0 (ld ti59 j0 j0<|j4)),(fun _=>pa j0 j0 j0 j0 (fa ti62 j0 j0 j0<|j4)),(fun _=>pa j0 j0 j0 j0 (pc (law5_texts_ok v27.Locals 20 q26) j0 j0 j0<|j4)),(fun _=>pa j0 j0 j0 j0 (ldI ti32 j0 (idx_some q25).2.2 j0<|j4)),(fun _=>pa j0 j0 j0 j0 (fa ti81 j0 j0 j0<|j4)),(fun _=>pa j0 j0 j0 j0 (ixI ti59 j0 ti81 j0 j0 j0 q25<|j4)),(fun _=>pa j0 j0 j0 j0 (mv j0<|j4)),(fun _=>pa j0 j0 j0 j0 (ld ti59 j0 j0<|j4)),(fun _=>pa j0 j0 j0 j0 (fa ti62 j0 j0 j0<|j4)),(fun _=>pa j0 j0 j0 j0 (ldI ti3 j0 (idx_some q24).2.2 j0<|j4)),(fun _=>pa j0 j0 j0 j0 (fa ti81 j0 j0 j0<|j4)),(fun _=>pa j0 j0 j0 j0 (ixI ti59 j0 ti81 j0 j0 j0 q24<|j4)),(fun _=>pa j0 j0 j0 j0 (mv j0<|j4)),(fun _=>pa j0 j0 j0 j0 (ld ti59 j0 j0<|j4)),(fun _=>pa j0 j0 j0 j0 (fa ti62 j0 j0 j0<|j4)),(fun _=>pa j0 j0 j0 j0 (ld ti59 j0 j0<|j4)),(fun _=>pa j0 j0 j0 j0 (fa ti62 j0 j0 j0<|j4)),j5⟩ (by kernel_rfl) j0 ⟨(fun h=>by cases h),(fun _ _=>⟨_,j0,j0,apM 6 ti59 j0 ti81 j0 j0 (by decide) ti59 j0 j0 j0 j0 (roX (f:=rApiMap) (z:=[(ApiMap.mk v26.At v28 v30)]) j0 j0) (fun _=>j0) j0 q29<|⟨(.msl 6 0 (List.length v31)),[25],[(84,.mpt 2 0 8),(83,.msl 6 0 (List.length v31))],j0,j0,by kernel_rfl,j0,dtS ⟨(fun _=>pa j0 j0 j0 j0 (fa ti62 j0 j0 j0<|j4)),(fun h=>by cases h),(fun h=>by cases h),(fun _=>pa j0 j0 j0 j0 (ldI ti32 j0 (idx_some q27).2.2 j0<|j4)),(fun _=>pa j0 j0 j0 j0 (fa ti81 j0 j0 j0<|j4)),(fun _=>pa j0 j0 j0 j0 (ixI ti59 j0 ti81 j0 j0 j0 q27<|j4)),(fun _=>pa j0 j0 j0 j0 (mv j0<|j4)),(fun _=>pa j0 j0 j0 j0 (ld ti59 j0 j0<|j4)),(fun _=>pa j0 j0 j0 j0 (fa ti62 j0 j0 j0<|j4)),(fun _=>pa j0 j0 j0 j0 (pc (law5_texts_ok v27.Locals 20 q26) j0 j0 j0<|j4)),(fun _=>pa j0 j0 j0 j0 (ldI ti32 j0 (idx_some q25).2.2 j0<|j4)),(fun _=>pa j0 j0 j0 j0 (fa ti81 j0 j0 j0<|j4)),(fun _=>pa j0 j0 j0 j0 (ixI ti59 j0 ti81 j0 j0 j0 q25<|j4)),(fun _=>pa j0 j0 j0 j0 (mv j0<|j4)),(fun _=>pa j0 j0 j0 j0 (ld ti59 j0 j0<|j4)),(fun _=>pa j0 j0 j0 j0 (fa ti62 j0 j0 j0<|j4)),(fun _=>pa j0 j0 j0 j0 (ldI ti3 j0 (idx_some q24).2.2 j0<|j4)),(fun _=>pa j0 j0 j0 j0 (fa ti81 j0 j0 j0<|j4)),(fun _=>pa j0 j0 j0 j0 (ixI ti59 j0 ti81 j0 j0 j0 q24<|j4)),(fun _=>pa j0 j0 j0 j0 (mv j0<|j4)),(fun _=>pa j0 j0 j0 j0 (ld ti59 j0 j0<|j4)),(fun _=>pa j0 j0 j0 j0 (fa ti62 j0 j0 j0<|j4)),(fun h=>by cases h),(fun _=>pa j0 j0 j0 j0 (fa ti62 j0 j0 j0<|j4)),j5⟩ (by kernel_rfl) j0 ⟨(fun h=>by cases h),(fun h=>by cases h),(fun _ _=>⟨_,j0,j0,sto ti59 j0 j0 j0<|⟨.any,[],[],j0,j0,by kernel_rfl,j5,dt0 ⟨(fun h=>by cases h),(fun h=>by cases h),(fun h=>by cases h),(fun h=>by cases h),(fun h=>by cases h),(fun h=>by cases h),(fun h=>by cases h),(fun h=>by cases h),(fun h=>by cases h),(fun h=>by cases h),(fun h=>by cases h),(fun h=>by cases h),(fun h=>by cases h),(fun h=>by cases h),(fun h=>by cases h),(fun h=>by cases h),(fun h=>by cases h),(fun h=>by cases h),(fun h=>by cases h),(fun h=>by cases h),(fun h=>by cases h),(fun h=>by cases h),(fun h=>by cases h),(fun h=>by cases h),j5⟩ (by kernel_rfl) j0 ⟨[.old 0,.old 1,.old 2,.old 3,.old 6],cv j0 (.mpt j0)<|cv j0 (.mpt j0)<|cv j0 (.mpt j0)<|ce j0 j0<|cn,j0,⟨⟨_,j0,rsOne ⟨ci j0,ci j0,ci j0,ci j0,ci j0,ci j0,ci j0,ci j0,ci j0,ci j0,j5⟩⟩,⟨_,j0,rsOne ⟨ci j0,ci j0,ci j0,ci j0,ci j0,ci j0,ci j0,ci j0,ci j0,ci j0,j5⟩⟩,⟨_,j0,rsOne ⟨ci j0,ci j0,ci j0,ci j0,ci j0,ci j0,ci j0,.msl j0,.msl j0,ci j0,j5⟩⟩,⟨_,j0,rsMap (fun _=>j0)⟩,⟨_,j0,rsMap (fun _=>j0)⟩,j5⟩,j0,j1⟩⟩⟩),j5⟩⟩⟩),(fun _ h=>by cases h),j5⟩⟩⟩),(fun _ h=>by cases h),(fun _ h=>by cases h),j5⟩) ?_
    refine rl j0<|u<|mv j0<|u<|add ti3 j0 j0<|u<|asg j0<|r_nil ?_
    obtain rfl:=sm h
    exact ⟨_,j0,[.old 0,.old 1,.old 2,.old 3,.old 4],cv j0 (.mpt j0)<|cv j0 (.mpt j0)<|cv j0 (.mpt j0)<|ce j0 j0<|cn,j0,⟨⟨_,j0,rsOne ⟨ci j0,ci j0,ci j0,ci j0,ci j0,ci j0,ci j0,ci j0,ci j0,ci j0,j5⟩⟩,⟨_,j0,rsOne ⟨ci j0,ci j0,ci j0,ci j0,ci j0,ci j0,ci j0,ci j0,ci j0,ci j0,j5⟩⟩,⟨_,j0,rsOne ⟨ci j0,ci j0,ci j0,ci j0,ci j0,ci j0,ci j0,.msl j0,.msl j0,ci j0,j5⟩⟩,⟨_,j0,rsMap (fun _=>j0)⟩,⟨_,j0,rsMap (fun _=>j0)⟩,j5⟩,j0,j1⟩
   ·
    replace h:=bF hc23 h
    refine sw_exit ?_
    obtain rfl:=sm h
    exact ⟨j0,_,j0,[.old 0,.old 1,.old 2,.old 3,.old 4],cv j0 (.mpt j0)<|cv j0 (.mpt j0)<|cv j0 (.mpt j0)<|cn,j0,⟨⟨_,j0,rsOne ⟨ci j0,ci j0,ci j0,ci j0,ci j0,ci j0,ci j0,ci j0,ci j0,ci j0,j5⟩⟩,⟨_,j0,rsOne ⟨ci j0,ci j0,ci j0,ci j0,ci j0,ci j0,ci j0,ci j0,ci j0,ci j0,j5⟩⟩,⟨_,j0,rsOne ⟨ci j0,ci j0,ci j0,ci j0,ci j0,ci j0,ci j0,.msl j0,.msl j0,ci j0,j5⟩⟩,⟨_,j0,rsMap (fun _=>j0)⟩,⟨_,j0,rsMap (fun _=>j0)⟩,j5⟩,j0,j1⟩
  ·
   rintro v32 rfl
   replace h : law5_method_k4 v1 v2 v3 v4 v15 v32 = some r:=h
   unfold law5_method_k4 at h
   refine ow_intro ?_
   refine sw_seq ?_
   refine rg j0<|u<|asg j0<|r_nil ?_
   obtain ⟨o,ho,h⟩:=bs h
   refine sw_lpl (X:=(List ApiTrap) × Int) (B:=(List ApiTrap)) (R:=ApiMethod) (fun z=>[(1,.mpt 0 0 0),(2,.mpt 1 0 0),(3,.mpt 2 0 0),(6,iA z.2)]) (fun z=>[some (10,[[sA v1.Name,.isl 1 (List.map rStr v1.Params),sA v1.Ret,bA v1.Static,bA v1.Abstract,iA v1.Locals,iA v1.Stack,.isl 4 (List.map rApiIns v1.Code),.isl 3 (List.map rApiMap v1.Maps),.isl 4 (List.map rApiTrap v1.Traps)]]),some (10,[[sA [],.lit (.slice none 0 0),sA [],bA false,bA false,iA 0,iA 0,.lit (.slice none 0 0),.lit (.slice none 0 0),.lit (.slice none 0 0)]]),some (10,[[sA v2,.isl 1 (List.map rStr v3),sA v4,bA v1.Static,bA v1.Abstract,iA v1.Locals,iA v1.Stack,.msl 3 0 (List.length v15),.msl 4 0 (List.length v32),.msl 5 0 (List.length z.1)]]),some (4,List.map rApiIns v15),some (3,List.map rApiMap v32),some (4,List.map rApiTrap z.1)]) (fun b=>[(2,.mpt 0 0 0),(3,.mpt 1 0 0)]) (fun b=>[some (10,[[sA [],.lit (.slice none 0 0),sA [],bA false,bA false,iA 0,iA 0,.lit (.slice none 0 0),.lit (.slice none 0 0),.lit (.slice none 0 0)]]),some (10,[[sA v2,.isl 1 (List.map rStr v3),sA v4,bA v1.Static,bA v1.Abstract,iA v1.Locals,iA v1.Stack,.msl 2 0 (List.length v15),.msl 3 0 (List.length v32),.msl 4 0 (List.length b)]]),some (4,List.map rApiIns v15),some (3,List.map rApiMap v32),some (4,List.map rApiTrap b)]) (fun r env st=>PostF Tryz.prog Tryz.f92 0 (.agg [sA r.Name,.isl 1 (List.map rStr r.Params),sA r.Ret,bA r.Static,bA r.Abstract,iA r.Locals,iA r.Stack,.isl 4 (List.map rApiIns r.Code),.isl 3 (List.map rApiMap r.Maps),.isl 4 (List.map rApiTrap r.Traps)]) [] env st) ho ⟨[.old 0,.old 1,.old 2,.old 3,.old 4,.fresh 4],cv j0 (.mpt j0)<|cv j0 (.mpt j0)<|cv j0 (.mpt j0)<|ce j0 j0<|cn,j0,⟨⟨_,j0,rsOne ⟨ci j0,ci j0,ci j0,ci j0,ci j0,ci j0,ci j0,ci j0,ci j0,ci j0,j5⟩⟩,⟨_,j0,rsOne ⟨ci j0,ci j0,ci j0,ci j0,ci j0,ci j0,ci j0,ci j0,ci j0,ci j0,j5⟩⟩,⟨_,j0,rsOne ⟨ci j0,ci j0,ci j0,ci j0,ci j0,ci j0,ci j0,.msl j0,.msl j0,.nilown j0,j5⟩⟩,⟨_,j0,rsMap (fun _=>j0)⟩,⟨_,j0,rsMap (fun _=>j0)⟩,j4,j5⟩,j0,j1⟩ ?_ ?_ ?_
   ·
    rintro ⟨v38,v39⟩ r h
    replace h : law5_method_l5 v1 v38 v39 = some r:=h
    unfold law5_method_l5 at h
    refine sw_seq ?_
    refine rg j0<|u<|mv j0<|u<|fa ti62 j0 j0 j0<|u<|ld ti60 j0 j0<|u<|lnI ti60 j0 j0<|u<|lss ti3 j0 j0<|u<|mv j0<|r_and (j:=5) 2 j0 j0 j0 j0 j0 gpn (fun hb35=>g j0 hb35<|mv j0<|g j0 hb35<|lss ti3 j0 j0<|r_nil (egA [91,92] 2 hb35 j0 j0 j0 j0)) andF<|r_nil ?_
    refine sw_cond j0 (fun hc36=>?_) (fun hc36=>?_)
    ·
     replace h:=bT hc36 h
     refine sw_skip ?_
     refine sw_seq ?_
     refine sw_block ?_
     obtain ⟨v40,q37,h⟩:=bs h
     refine rg j0<|u<|fa ti62 j0 j0 j0<|u<|ld ti60 j0 j0<|u<|mv j0<|u<|ixI ti60 j0 ti127 j0 j0 j0 q37<|u<|ldI ti127 j0 (idx_some q37).2.2 j0<|u<|al 6 ti127 j0<|u<|sto ti127 j0 j0 j0<|r_nil ?_
     obtain ⟨v41,q38,h⟩:=bs h
     refine rg j0<|u<|fa ti127 j0 j0 j0<|u<|ld ti9 j0 j0<|u<|pc (law1_Cut_ok v40.C 10 q38) j0 j0 j0<|u<|fa ti127 j0 j0 j0<|u<|sto ti9 j0 j0 j0<|r_nil ?_
     obtain ⟨v42,q39,h⟩:=bs h
     refine rl j0<|u<|fa ti62 j0 j0 j0<|u<|ld ti60 j0 j0<|u<|ld ti127 j0 j0<|u<|bl 7 ti60 j0 ti127 j0 (by decide) (by decide) j0 j0 j0<|u<|apM 8 ti60 j0 ti127 j0 j0 (by decide) ti60 j0 j0 j0 j0 (roX (f:=rApiTrap) (z:=[(ApiTrap.mk v40.From v40.To v40.At v41)]) j0 j0) (fun _=>j0) j0 q39<|u<|fa ti62 j0 j0 j0<|u<|sto ti60 j0 j0 j0<|r_nil ?_
     refine rl j0<|u<|mv j0<|u<|add ti3 j0 j0<|u<|asg j0<|r_nil ?_
     obtain rfl:=sm h
     exact ⟨_,j0,[.old 0,.old 1,.old 2,.old 3,.old 4,.old 8],cv j0 (.mpt j0)<|cv j0 (.mpt j0)<|cv j0 (.mpt j0)<|ce j0 j0<|cn,j0,⟨⟨_,j0,rsOne ⟨ci j0,ci j0,ci j0,ci j0,ci j0,ci j0,ci j0,ci j0,ci j0,ci j0,j5⟩⟩,⟨_,j0,rsOne ⟨ci j0,ci j0,ci j0,ci j0,ci j0,ci j0,ci j0,ci j0,ci j0,ci j0,j5⟩⟩,⟨_,j0,rsOne ⟨ci j0,ci j0,ci j0,ci j0,ci j0,ci j0,ci j0,.msl j0,.msl j0,.msl j0,j5⟩⟩,⟨_,j0,rsMap (fun _=>j0)⟩,⟨_,j0,rsMap (fun _=>j0)⟩,⟨_,j0,rsMap (fun _=>j0)⟩,j5⟩,j0,j1⟩
    ·
     replace h:=bF hc36 h
     refine sw_exit ?_
     obtain rfl:=sm h
     exact ⟨j0,_,j0,[.old 1,.old 2,.old 3,.old 4,.old 5],cv j0 (.mpt j0)<|cv j0 (.mpt j0)<|cn,j0,⟨⟨_,j0,rsOne ⟨ci j0,ci j0,ci j0,ci j0,ci j0,ci j0,ci j0,ci j0,ci j0,ci j0,j5⟩⟩,⟨_,j0,rsOne ⟨ci j0,ci j0,ci j0,ci j0,ci j0,ci j0,ci j0,.msl j0,.msl j0,.msl j0,j5⟩⟩,⟨_,j0,rsMap (fun _=>j0)⟩,⟨_,j0,rsMap (fun _=>j0)⟩,⟨_,j0,rsMap (fun _=>j0)⟩,j5⟩,j0,j1⟩
   ·
    rintro v43 rfl
    replace h : law5_method_k6 v1 v2 v3 v4 v15 v32 v43 = some r:=h
    unfold law5_method_k6 at h
    refine ow_intro ?_
    refine rg j0<|u<|ld ti62 j0 j0<|u<|sto ti62 j0 j0 j0<|r_nil ?_
    refine sw_ret ?_
    obtain rfl:=sm h
    exact ⟨_,j0,[],rsAgg ⟨(ci j0),(ci j0),(ci j0),(ci j0),(ci j0),(ci j0),(ci j0),(rsSeal j0 j0 (fun _=>j0)),(rsSeal j0 j0 (fun _=>j0)),(rsSeal j0 j0 (fun _=>j0)),j5⟩,j0,j5,j0,j1⟩
   ·
    rintro r' rfl env st hp
    obtain rfl:=sm h
    exact hp
  ·
   rintro r' rfl env st hp
   obtain rfl:=sm h
   exact hp
 ·
  rintro r' rfl env st hp
  obtain rfl:=sm h
  exact hp
def law5_Cut_k4 (v2 : (List UInt8)) (v3 : (List UInt8)) (v4 : (List (List UInt8))) (v17 : List ApiField) (v28 : List ApiMethod) : Option ((List UInt8) × (List UInt8) × (List (List UInt8)) × (List ApiField) × (List ApiMethod)) :=
  some (v2,v3,v4,v17,v28)
def law5_Cut_l3 (v1 : ApiClass) (v23 : List ApiMethod) (v24 : Int) : Option (Sum ((List ApiMethod) × Int) (Sum ((List ApiMethod)) ((List UInt8) × (List UInt8) × (List (List UInt8)) × (List ApiField) × (List ApiMethod)))) :=
  cond ((decide (v24 < (List.length v1.Methods : Int))) && (decide (v24 < 10))) ((idx v1.Methods v24).bind fun v25=>(law5_method v25).bind fun v26=>(appP 152 v23 [v26]).bind fun v27=>some (.inl (v27,(IntKind.i64.wrap (v24 + 1))))) (some (.inr (.inl v23)))
def law5_Cut_k2 (v1 : ApiClass) (v2 : (List UInt8)) (v3 : (List UInt8)) (v4 : (List (List UInt8))) (v17 : List ApiField) : Option ((List UInt8) × (List UInt8) × (List (List UInt8)) × (List ApiField) × (List ApiMethod)) :=
  (loopP (fun z=>law5_Cut_l3 v1 z.1 z.2) ([],0)).bind fun o=>leave o (fun b=>law5_Cut_k4 v2 v3 v4 v17 b) some
def law5_Cut_l1 (v1 : ApiClass) (v11 : List ApiField) (v12 : Int) : Option (Sum ((List ApiField) × Int) (Sum ((List ApiField)) ((List UInt8) × (List UInt8) × (List (List UInt8)) × (List ApiField) × (List ApiMethod)))) :=
  cond ((decide (v12 < (List.length v1.Fields : Int))) && (decide (v12 < 10))) ((idx v1.Fields v12).bind fun v13=>(law1_Cut v13.Name 10).bind fun v14=>(law1_Cut v13.Type_ 12).bind fun v15=>(appP 40 v11 [(ApiField.mk v14 v15 v13.Static)]).bind fun v16=>some (.inl (v16,(IntKind.i64.wrap (v12 + 1))))) (some (.inr (.inl v11)))
def law5_Cut (v1 : ApiClass) : Option ((List UInt8) × (List UInt8) × (List (List UInt8)) × (List ApiField) × (List ApiMethod)) :=
  (law1_Cut v1.Name 10).bind fun v2=>(law1_Cut v1.Super 10).bind fun v3=>(law5_texts v1.Impl 6).bind fun v4=>(loopP (fun z=>law5_Cut_l1 v1 z.1 z.2) ([],0)).bind fun o=>leave o (fun b=>law5_Cut_k2 v1 v2 v3 v4 b) some
theorem law5_Cut_ok (v1 : ApiClass) {r : (List UInt8) × (List UInt8) × (List (List UInt8)) × (List ApiField) × (List ApiMethod)} (h : law5_Cut v1 = some r) : SC Tryz.prog 56 [.agg [sA v1.Name,sA v1.Super,bA v1.Interface,.isl 1 (List.map rStr v1.Impl),.isl 3 (List.map rApiField v1.Fields),.isl 10 (List.map rApiMethod v1.Methods)]] [] (.agg [sA r.1,sA r.2.1,bA v1.Interface,.isl 1 (List.map rStr r.2.2.1),.msl 0 0 (List.length r.2.2.2.1),.msl 1 0 (List.length r.2.2.2.2)]) [.many 3 (List.map rApiField r.2.2.2.1),.many 10 (List.map rApiMethod r.2.2.2.2)]:=by
 refine ⟨⟨sbOk (sz:=3) (fun _=>j0),sbOk (sz:=10) (fun _=>j0),j5⟩,scall_fn Tryz.func56 j0 (by kernel_rfl) j0 ?_⟩
 unfold law5_Cut at h
 refine rg j0<|u<|bx 0 6 j0 j0 j0 j0<|u<|al 1 ti42 j0<|r_nil ?_
 obtain ⟨v2,q1,h⟩:=bs h
 obtain ⟨v3,q2,h⟩:=bs h
 obtain ⟨v4,q3,h⟩:=bs h
 refine rd [(1,.mpt 0 0 0),(2,.mpt 1 0 0),(3,.mpt 2 0 0)] [some (6,[[sA v1.Name,sA v1.Super,bA v1.Interface,.isl 1 (List.map rStr v1.Impl),.isl 3 (List.map rApiField v1.Fields),.isl 10 (List.map rApiMethod v1.Methods)]]),some (6,[[sA [],sA [],bA false,.lit (.slice none 0 0),.lit (.slice none 0 0),.lit (.slice none 0 0)]]),some (6,[[sA v2,sA v3,bA v1.Interface,.isl 1 (List.map rStr v4),.lit (.slice none 0 0),.lit (.slice none 0 0)]])] [12,13] [11,10,9,8,7,6,5,4,3,2,1,0] [(18,.agg [sA v2,sA v3,bA v1.Interface,.isl 1 (List.map rStr v4),.lit (.slice none 0 0),.lit (.slice none 0 0)]),(17,.isl 1 (List.map rStr v4)),(16,.isl 1 (List.map rStr v1.Impl)),(15,.mpt 0 0 3),(14,bA v1.Interface),(13,.mpt 0 0 2),(12,sA v3),(11,sA v1.Super),(10,.mpt 0 0 1),(9,sA v2),(8,sA v1.Name),(7,.mpt 0 0 0)] 2 (by kernel_rfl) (by kernel_rfl) j0 (by kernel_rfl) (dtS ⟨(fun _=>pa j0 j0 j0 j0 (bd ti42 j0 j0 j0<|j4)),(fun _=>pa j0 j0 j0 j0 (pc (law5_texts_ok v1.Impl 6 q3) j0 j0 j0<|j4)),(fun _=>pa j0 j0 j0 j0 (ld ti32 j0 j0<|j4)),(fun _=>pa j0 j0 j0 j0 (fa ti42 j0 j0 j0<|j4)),(fun _=>pa j0 j0 j0 j0 (ld ti4 j0 j0<|j4)),(fun _=>pa j0 j0 j0 j0 (fa ti42 j0 j0 j0<|j4)),(fun _=>pa j0 j0 j0 j0 (pc (law1_Cut_ok v1.Super 10 q2) j0 j0 j0<|j4)),(fun _=>pa j0 j0 j0 j0 (ld ti9 j0 j0<|j4)),(fun _=>pa j0 j0 j0 j0 (fa ti42 j0 j0 j0<|j4)),(fun _=>pa j0 j0 j0 j0 (pc (law1_Cut_ok v1.Name 10 q1) j0 j0 j0<|j4)),(fun _=>pa j0 j0 j0 j0 (ld ti9 j0 j0<|j4)),(fun _=>pa j0 j0 j0 j0 (fa ti42 j0 j0 j0<|j4)),j5⟩ (by kernel_rfl) j0 ⟨(fun _ _=>⟨_,j0,j0,al 2 ti42 j0<|⟨(.mpt 2 0 0),[],[(3,.mpt 2 0 0)],j0,j0,by kernel_rfl,j0,dtS ⟨(fun _=>pa j0 j0 j0 j0 (bd ti42 j0 j0 j0<|j4)),(fun _=>pa j0 j0 j0 j0 (pc (law5_texts_ok v1.Impl 6 q3) j0 j0 j0<|j4)),(fun _=>pa j0 j0 j0 j0 (ld ti32 j0 j0<|j4)),(fun _=>pa j0 j0 j0 j0 (fa ti42 j0 j0 j0<|j4)),(fun _=>pa j0 j0 j0 j0 (ld ti4 j0 j0<|j4)),(fun _=>pa j0 j0 j0 j0 (fa ti42 j0 j0 j0<|j4)),(fun _=>pa j0 j0 j0 j0 (pc (law1_Cut_ok v1.Super 10 q2) j0 j0 j0<|j4)),(fun _=>pa j0 j0 j0 j0 (ld ti9 j0 j0<|j4)),(fun _=>pa j0 j0 j0 j0 (fa ti42 j0 j0 j0<|j4)),(fun _=>pa j0 j0 j0 j0 (pc (law1_Cut_ok v1.Name 10 q1) j0 j0 j0<|j4)),(fun _=>pa j0 j0 j0 j0 (ld ti9 j0 j0<|j4)),(fun _=>pa j0 j0 j0 j0 (fa ti42 j0 j0 j0<|j4)),j5⟩ (by kernel_rfl) j0 ⟨(fun h=>by cases h),(fun _ _=>⟨_,j0,j0,sto ti42 j0 j0 j0<|⟨.any,[],[],j0,j0,by kernel_rfl,j5,dt0 ⟨(fun h=>by cases h),(fun h=>by cases h),(fun h=>by cases h),(fun h=>by cases h),(fun h=>by cases h),(fun h=>by cases h),(fun h=>by cases h),(fun h=>by cases h),(fun h=>by cases h),(fun h=>by cases h),(fun h=>by cases h),(fun h=>by cases h),j5⟩ (by kernel_rfl) j0 ⟨[.old 0,.old 1,.old 2],cv j0 (.mpt j0)<|cv j0 (.mpt j0)<|cv j0 (.mpt j0)<|cn,j0,⟨⟨_,j0,rsOne ⟨ci j0,ci j0,ci j0,ci j0,ci j0,ci j0,j5⟩⟩,⟨_,j0,rsOne ⟨ci j0,ci j0,ci j0,ci j0,ci j0,ci j0,j5⟩⟩,⟨_,j0,rsOne ⟨ci j0,ci j0,ci j0,ci j0,ci j0,ci j0,j5⟩⟩,j5⟩,j0,j1⟩⟩⟩),j5⟩⟩⟩),(fun _ h=>by cases h),j5⟩) ?_
 refine sw_seq ?_
 refine rg j0<|u<|asg j0<|r_nil ?_
 obtain ⟨o,ho,h⟩:=bs h
 refine sw_lpl (X:=(List ApiField) × Int) (B:=(List ApiField)) (R:=(List UInt8) × (List UInt8) × (List (List UInt8)) × (List ApiField) × (List ApiMethod)) (fun z=>[(1,.mpt 0 0 0),(2,.mpt 1 0 0),(3,.mpt 2 0 0),(4,iA z.2)]) (fun z=>[some (6,[[sA v1.Name,sA v1.Super,bA v1.Interface,.isl 1 (List.map rStr v1.Impl),.isl 3 (List.map rApiField v1.Fields),.isl 10 (List.map rApiMethod v1.Methods)]]),some (6,[[sA [],sA [],bA false,.lit (.slice none 0 0),.lit (.slice none 0 0),.lit (.slice none 0 0)]]),some (6,[[sA v2,sA v3,bA v1.Interface,.isl 1 (List.map rStr v4),.msl 3 0 (List.length z.1),.lit (.slice none 0 0)]]),some (3,List.map rApiField z.1)]) (fun b=>[(1,.mpt 0 0 0),(2,.mpt 1 0 0),(3,.mpt 2 0 0)]) (fun b=>[some (6,[[sA v1.Name,sA v1.Super,bA v1.Interface,.isl 1 (List.map rStr v1.Impl),.isl 3 (List.map rApiField v1.Fields),.isl 10 (List.map rApiMethod v1.Methods)]]),some (6,[[sA [],sA [],bA false,.lit (.slice none 0 0),.lit (.slice none 0 0),.lit (.slice none 0 0)]]),some (6,[[sA v2,sA v3,bA v1.Interface,.isl 1 (List.map rStr v4),.msl 3 0 (List.length b),.lit (.slice none 0 0)]]),some (3,List.map rApiField b)]) (fun r env st=>PostF Tryz.prog Tryz.f56 0 (.agg [sA r.1,sA r.2.1,bA v1.Interface,.isl 1 (List.map rStr r.2.2.1),.msl 0 0 (List.length r.2.2.2.1),.msl 1 0 (List.length r.2.2.2.2)]) [some (3,List.map rApiField r.2.2.2.1),some (10,List.map rApiMethod r.2.2.2.2)] env st) ho ⟨[.old 0,.old 1,.old 2,.fresh 3],cv j0 (.mpt j0)<|cv j0 (.mpt j0)<|cv j0 (.mpt j0)<|ce j0 j0<|cn,j0,⟨⟨_,j0,rsOne ⟨ci j0,ci j0,ci j0,ci j0,ci j0,ci j0,j5⟩⟩,⟨_,j0,rsOne ⟨ci j0,ci j0,ci j0,ci j0,ci j0,ci j0,j5⟩⟩,⟨_,j0,rsOne ⟨ci j0,ci j0,ci j0,ci j0,.nilown j0,ci j0,j5⟩⟩,j4,j5⟩,j0,j1⟩ ?_ ?_ ?_
 ·
  rintro ⟨v11,v12⟩ r h
  replace h : law5_Cut_l1 v1 v11 v12 = some r:=h
  unfold law5_Cut_l1 at h
  refine sw_seq ?_
  refine rg j0<|u<|mv j0<|u<|fa ti42 j0 j0 j0<|u<|ld ti39 j0 j0<|u<|lnI ti39 j0 j0<|u<|lss ti3 j0 j0<|u<|mv j0<|r_and (j:=5) 2 j0 j0 j0 j0 j0 gpn (fun hb10=>g j0 hb10<|mv j0<|g j0 hb10<|lss ti3 j0 j0<|r_nil (egA [25,26] 2 hb10 j0 j0 j0 j0)) andF<|r_nil ?_
  refine sw_cond j0 (fun hc11=>?_) (fun hc11=>?_)
  ·
   replace h:=bT hc11 h
   refine sw_skip ?_
   refine sw_seq ?_
   refine sw_block ?_
   obtain ⟨v13,q12,h⟩:=bs h
   refine rg j0<|u<|fa ti42 j0 j0 j0<|u<|ld ti39 j0 j0<|u<|mv j0<|u<|ixI ti39 j0 ti57 j0 j0 j0 q12<|u<|ldI ti57 j0 (idx_some q12).2.2 j0<|u<|al 4 ti57 j0<|u<|sto ti57 j0 j0 j0<|r_nil ?_
   obtain ⟨v14,q13,h⟩:=bs h
   obtain ⟨v15,q14,h⟩:=bs h
   obtain ⟨v16,q15,h⟩:=bs h
   refine rdL [(1,.mpt 0 0 0),(2,.mpt 1 0 0),(3,.mpt 2 0 0),(4,iA v12)] [some (6,[[sA v1.Name,sA v1.Super,bA v1.Interface,.isl 1 (List.map rStr v1.Impl),.isl 3 (List.map rApiField v1.Fields),.isl 10 (List.map rApiMethod v1.Methods)]]),some (6,[[sA [],sA [],bA false,.lit (.slice none 0 0),.lit (.slice none 0 0),.lit (.slice none 0 0)]]),some (6,[[sA v2,sA v3,bA v1.Interface,.isl 1 (List.map rStr v4),.msl 3 0 (List.length v16),.lit (.slice none 0 0)]]),some (3,List.map rApiField v16)] [11,12,14] [10,9,8,7,6,5,4,3,2,1,0] [(45,.agg [sA v14,sA v15,bA v13.Static]),(44,bA v13.Static),(43,.mpt 4 0 2),(42,sA v15),(41,sA v13.Type_),(40,.mpt 4 0 1),(39,sA v14),(38,sA v13.Name),(37,.mpt 4 0 0),(36,.msl 3 0 (List.length v11)),(35,.mpt 2 0 4)] 3 (by kernel_rfl) (by kernel_rfl) j0 (by kernel_rfl) (dtS ⟨(fun _=>pa j0 j0 j0 j0 (bd ti57 j0 j0 j0<|j4)),(fun _=>pa j0 j0 j0 j0 (ld ti4 j0 j0<|j4)),(fun _=>pa j0 j0 j0 j0 (fa ti57 j0 j0 j0<|j4)),(fun _=>pa j0 j0 j0 j0 (pc (law1_Cut_ok v13.Type_ 12 q14) j0 j0 j0<|j4)),(fun _=>pa j0 j0 j0 j0 (ld ti9 j0 j0<|j4)),(fun _=>pa j0 j0 j0 j0 (fa ti57 j0 j0 j0<|j4)),(fun _=>pa j0 j0 j0 j0 (pc (law1_Cut_ok v13.Name 10 q13) j0 j0 j0<|j4)),(fun _=>pa j0 j0 j0 j0 (ld ti9 j0 j0<|j4)),(fun _=>pa j0 j0 j0 j0 (fa ti57 j0 j0 j0<|j4)),(fun _=>pa j0 j0 j0 j0 (ld ti39 j0 j0<|j4)),(fun _=>pa j0 j0 j0 j0 (fa ti42 j0 j0 j0<|j4)),j5⟩ (by kernel_rfl) j0 ⟨(fun _ _=>⟨_,j0,j0,bl 5 ti39 j0 ti57 j0 (by decide) (by decide) j0 j0 j0<|⟨(.msl 5 0 1),[],[(46,.msl 5 0 1)],j0,j0,by kernel_rfl,j0,dtS ⟨(fun h=>by cases h),(fun _=>pa j0 j0 j0 j0 (ld ti4 j0 j0<|j4)),(fun _=>pa j0 j0 j0 j0 (fa ti57 j0 j0 j0<|j4)),(fun _=>pa j0 j0 j0 j0 (pc (law1_Cut_ok v13.Type_ 12 q14) j0 j0 j0<|j4)),(fun _=>pa j0 j0 j0 j0 (ld ti9 j0 j0<|j4)),(fun _=>pa j0 j0 j0 j0 (fa ti57 j0 j0 j0<|j4)),(fun _=>pa j0 j0 j0 j0 (pc (law1_Cut_ok v13.Name 10 q13) j0 j0 j0<|j4)),(fun _=>pa j0 j0 j0 j0 (ld ti9 j0 j0<|j4)),(fun _=>pa j0 j0 j0 j0 (fa ti57 j0 j0 j0<|j4)),(fun _=>pa j0 j0 j0 j0 (ld ti39 j0 j0<|j4)),(fun _=>pa j0 j0 j0 j0 (fa ti42 j0 j0 j0<|j4)),j5⟩ (by kernel_rfl) j0 ⟨(fun h=>by cases h),(fun _ _=>⟨_,j0,j0,apM 6 ti39 j0 ti57 j0 j0 (by decide) ti39 j0 j0 j0 j0 (roX (f:=rApiField) (z:=[(ApiField.mk v14 v15 v13.Static)]) j0 j0) (fun _=>j0) j0 q15<|⟨(.msl 6 0 (List.length v16)),[13],[(48,.mpt 2 0 4),(47,.msl 6 0 (List.length v16))],j0,j0,by kernel_rfl,j0,dtS ⟨(fun _=>pa j0 j0 j0 j0 (fa ti42 j0 j0 j0<|j4)),(fun h=>by cases h),(fun _=>pa j0 j0 j0 j0 (ld ti4 j0 j0<|j4)),(fun _=>pa j0 j0 j0 j0 (fa ti57 j0 j0 j0<|j4)),(fun h=>by cases h),(fun _=>pa j0 j0 j0 j0 (ld ti9 j0 j0<|j4)),(fun _=>pa j0 j0 j0 j0 (fa ti57 j0 j0 j0<|j4)),(fun _=>pa j0 j0 j0 j0 (pc (law1_Cut_ok v13.Name 10 q13) j0 j0 j0<|j4)),(fun _=>pa j0 j0 j0 j0 (ld ti9 j0 j0<|j4)),(fun _=>pa j0 j0 j0 j0 (fa ti57 j0 j0 j0<|j4)),(fun h=>by cases h),(fun _=>pa j0 j0 j0 j0 (fa ti42 j0 j0 j0<|j4)),j5⟩ (by kernel_rfl) j0 ⟨(fun h=>by cases h),(fun h=>by cases h),(fun _ _=>⟨_,j0,j0,sto ti39 j0 j0 j0<|⟨.any,[],[],j0,j0,by kernel_rfl,j5,dt0 ⟨(fun h=>by cases h),(fun h=>by cases h),(fun h=>by cases h),(fun h=>by cases h),(fun h=>by cases h),(fun h=>by cases h),(fun h=>by cases h),(fun h=>by cases h),(fun h=>by cases h),(fun h=>by cases h),(fun h=>by cases h),(fun h=>by cases h),j5⟩ (by kernel_rfl) j0 ⟨[.old 0,.old 1,.old 2,.old 6],cv j0 (.mpt j0)<|cv j0 (.mpt j0)<|cv j0 (.mpt j0)<|ce j0 j0<|cn,j0,⟨⟨_,j0,rsOne ⟨ci j0,ci j0,ci j0,ci j0,ci j0,ci j0,j5⟩⟩,⟨_,j0,rsOne ⟨ci j0,ci j0,ci j0,ci j0,ci j0,ci j0,j5⟩⟩,⟨_,j0,rsOne ⟨ci j0,ci j0,ci j0,ci j0,.msl j0,ci j0,j5⟩⟩,⟨_,j0,rsMap (fun _=>j0)⟩,j5⟩,j0,j1⟩⟩⟩),j5⟩⟩⟩),(fun _ h=>by cases h),j5⟩⟩⟩),(fun _ h=>by cases h),(fun _ h=>by cases h),j5⟩) ?_
   refine rl j0<|u<|mv j0<|u<|add ti3 j0 j0<|u<|asg j0<|r_nil ?_
   obtain rfl:=sm h
   exact ⟨_,j0,[.old 0,.old 1,.old 2,.old 3],cv j0 (.mpt j0)<|cv j0 (.mpt j0)<|cv j0 (.mpt j0)<|ce j0 j0<|cn,j0,⟨⟨_,j0,rsOne ⟨ci j0,ci j0,ci j0,ci j0,ci j0,ci j0,j5⟩⟩,⟨_,j0,rsOne ⟨ci j0,ci j0,ci j0,ci j0,ci j0,ci j0,j5⟩⟩,⟨_,j0,rsOne ⟨ci j0,ci j0,ci j0,ci j0,.msl j0,ci j0,j5⟩⟩,⟨_,j0,rsMap (fun _=>j0)⟩,j5⟩,j0,j1⟩
  ·
   replace h:=bF hc11 h
   refine sw_exit ?_
   obtain rfl:=sm h
   exact ⟨j0,_,j0,[.old 0,.old 1,.old 2,.old 3],cv j0 (.mpt j0)<|cv j0 (.mpt j0)<|cv j0 (.mpt j0)<|cn,j0,⟨⟨_,j0,rsOne ⟨ci j0,ci j0,ci j0,ci j0,ci j0,ci j0,j5⟩⟩,⟨_,j0,rsOne ⟨ci j0,ci j0,ci j0,ci j0,ci j0,ci j0,j5⟩⟩,⟨_,j0,rsOne ⟨ci j0,ci j0,ci j0,ci j0,.msl j0,ci j0,j5⟩⟩,⟨_,j0,rsMap (fun _=>j0)⟩,j5⟩,j0,j1⟩
 ·
  rintro v17 rfl
  replace h : law5_Cut_k2 v1 v2 v3 v4 v17 = some r:=h
  unfold law5_Cut_k2 at h
  refine ow_intro ?_
  refine sw_seq ?_
  refine rg j0<|u<|asg j0<|r_nil ?_
  obtain ⟨o,ho,h⟩:=bs h
  refine sw_lpl (X:=(List ApiMethod) × Int) (B:=(List ApiMethod)) (R:=(List UInt8) × (List UInt8) × (List (List UInt8)) × (List ApiField) × (List ApiMethod)) (fun z=>[(1,.mpt 0 0 0),(2,.mpt 1 0 0),(3,.mpt 2 0 0),(6,iA z.2)]) (fun z=>[some (6,[[sA v1.Name,sA v1.Super,bA v1.Interface,.isl 1 (List.map rStr v1.Impl),.isl 3 (List.map rApiField v1.Fields),.isl 10 (List.map rApiMethod v1.Methods)]]),some (6,[[sA [],sA [],bA false,.lit (.slice none 0 0),.lit (.slice none 0 0),.lit (.slice none 0 0)]]),some (6,[[sA v2,sA v3,bA v1.Interface,.isl 1 (List.map rStr v4),.msl 3 0 (List.length v17),.msl 4 0 (List.length z.1)]]),some (3,List.map rApiField v17),some (10,List.map rApiMethod z.1)]) (fun b=>[(2,.mpt 0 0 0),(3,.mpt 1 0 0)]) (fun b=>[some (6,[[sA [],sA [],bA false,.lit (.slice none 0 0),.lit (.slice none 0 0),.lit (.slice none 0 0)]]),some (6,[[sA v2,sA v3,bA v1.Interface,.isl 1 (List.map rStr v4),.msl 2 0 (List.length v17),.msl 3 0 (List.length b)]]),some (3,List.map rApiField v17),some (10,List.map rApiMethod b)]) (fun r env st=>PostF Tryz.prog Tryz.f56 0 (.agg [sA r.1,sA r.2.1,bA v1.Interface,.isl 1 (List.map rStr r.2.2.1),.msl 0 0 (List.length r.2.2.2.1),.msl 1 0 (List.length r.2.2.2.2)]) [some (3,List.map rApiField r.2.2.2.1),some (10,List.map rApiMethod r.2.2.2.2)] env st) ho ⟨[.old 0,.old 1,.old 2,.old 3,.fresh 10],cv j0 (.mpt j0)<|cv j0 (.mpt j0)<|cv j0 (.mpt j0)<|ce j0 j0<|cn,j0,⟨⟨_,j0,rsOne ⟨ci j0,ci j0,ci j0,ci j0,ci j0,ci j0,j5⟩⟩,⟨_,j0,rsOne ⟨ci j0,ci j0,ci j0,ci j0,ci j0,ci j0,j5⟩⟩,⟨_,j0,rsOne ⟨ci j0,ci j0,ci j0,ci j0,.msl j0,.nilown j0,j5⟩⟩,⟨_,j0,rsMap (fun _=>j0)⟩,j4,j5⟩,j0,j1⟩ ?_ ?_ ?_
  ·
   rintro ⟨v23,v24⟩ r h
   replace h : law5_Cut_l3 v1 v23 v24 = some r:=h
   unfold law5_Cut_l3 at h
   refine sw_seq ?_
   refine rg j0<|u<|mv j0<|u<|fa ti42 j0 j0 j0<|u<|ld ti40 j0 j0<|u<|lnI ti40 j0 j0<|u<|lss ti3 j0 j0<|u<|mv j0<|r_and (j:=5) 2 j0 j0 j0 j0 j0 gpn (fun hb21=>g j0 hb21<|mv j0<|g j0 hb21<|lss ti3 j0 j0<|r_nil (egA [55,56] 2 hb21 j0 j0 j0 j0)) andF<|r_nil ?_
   refine sw_cond j0 (fun hc22=>?_) (fun hc22=>?_)
   ·
    replace h:=bT hc22 h
    refine sw_skip ?_
    refine sw_seq ?_
    refine sw_block ?_
    obtain ⟨v25,q23,h⟩:=bs h
    obtain ⟨v26,q24,h⟩:=bs h
    obtain ⟨v27,q25,h⟩:=bs h
    refine rdL [(1,.mpt 0 0 0),(2,.mpt 1 0 0),(3,.mpt 2 0 0),(6,iA v24)] [some (6,[[sA v1.Name,sA v1.Super,bA v1.Interface,.isl 1 (List.map rStr v1.Impl),.isl 3 (List.map rApiField v1.Fields),.isl 10 (List.map rApiMethod v1.Methods)]]),some (6,[[sA [],sA [],bA false,.lit (.slice none 0 0),.lit (.slice none 0 0),.lit (.slice none 0 0)]]),some (6,[[sA v2,sA v3,bA v1.Interface,.isl 1 (List.map rStr v4),.msl 3 0 (List.length v17),.msl 4 0 (List.length v27)]]),some (3,List.map rApiField v17),some (10,List.map rApiMethod v27)] [8,9,11] [7,6,5,4,3,2,1,0] [(67,.agg [sA v26.Name,.isl 1 (List.map rStr v26.Params),sA v26.Ret,bA v26.Static,bA v26.Abstract,iA v26.Locals,iA v26.Stack,.isl 4 (List.map rApiIns v26.Code),.isl 3 (List.map rApiMap v26.Maps),.isl 4 (List.map rApiTrap v26.Traps)]),(66,.agg [sA v25.Name,.isl 1 (List.map rStr v25.Params),sA v25.Ret,bA v25.Static,bA v25.Abstract,iA v25.Locals,iA v25.Stack,.isl 4 (List.map rApiIns v25.Code),.isl 3 (List.map rApiMap v25.Maps),.isl 4 (List.map rApiTrap v25.Traps)]),(65,.ipt 10 (List.map rApiMethod v1.Methods) (Int.toNat v24) 0),(64,iA v24),(63,.isl 10 (List.map rApiMethod v1.Methods)),(62,.mpt 0 0 5),(61,.msl 4 0 (List.length v23)),(60,.mpt 2 0 5)] 3 (by kernel_rfl) (by kernel_rfl) j0 (by kernel_rfl) (dtS ⟨(fun _=>pa j0 j0 j0 j0 (pc (law5_method_ok v25 q24) j0 j0 j0<|j4)),(fun _=>pa j0 j0 j0 j0 (ldI ti62 j0 (idx_some q23).2.2 j0<|j4)),(fun _=>pa j0 j0 j0 j0 (ixI ti40 j0 ti62 j0 j0 j0 q23<|j4)),(fun _=>pa j0 j0 j0 j0 (mv j0<|j4)),(fun _=>pa j0 j0 j0 j0 (ld ti40 j0 j0<|j4)),(fun _=>pa j0 j0 j0 j0 (fa ti42 j0 j0 j0<|j4)),(fun _=>pa j0 j0 j0 j0 (ld ti40 j0 j0<|j4)),(fun _=>pa j0 j0 j0 j0 (fa ti42 j0 j0 j0<|j4)),j5⟩ (by kernel_rfl) j0 ⟨(fun _ _=>⟨_,j0,j0,bl 5 ti40 j0 ti62 j0 (by decide) (by decide) j0 j0 j0<|⟨(.msl 5 0 1),[],[(68,.msl 5 0 1)],j0,j0,by kernel_rfl,j0,dtS ⟨(fun h=>by cases h),(fun _=>pa j0 j0 j0 j0 (ldI ti62 j0 (idx_some q23).2.2 j0<|j4)),(fun _=>pa j0 j0 j0 j0 (ixI ti40 j0 ti62 j0 j0 j0 q23<|j4)),(fun _=>pa j0 j0 j0 j0 (mv j0<|j4)),(fun _=>pa j0 j0 j0 j0 (ld ti40 j0 j0<|j4)),(fun _=>pa j0 j0 j0 j0 (fa ti42 j0 j0 j0<|j4)),(fun _=>pa j0 j0 j0 j0 (ld ti40 j0 j0<|j4)),(fun _=>pa j0 j0 j0 j0 (fa ti42 j0 j0 j0<|j4)),j5⟩ (by kernel_rfl) j0 ⟨(fun h=>by cases h),(fun _ _=>⟨_,j0,j0,apM 6 ti40 j0 ti62 j0 j0 (by decide) ti40 j0 j0 j0 j0 (roX (f:=rApiMethod) (z:=[v26]) j0 j0) (fun _=>j0) j0 q25<|⟨(.msl 6 0 (List.length v27)),[10],[(70,.mpt 2 0 5),(69,.msl 6 0 (List.length v27))],j0,j0,by kernel_rfl,j0,dtS ⟨(fun _=>pa j0 j0 j0 j0 (fa ti42 j0 j0 j0<|j4)),(fun h=>by cases h),(fun _=>pa j0 j0 j0 j0 (ldI ti62 j0 (idx_some q23).2.2 j0<|j4)),(fun _=>pa j0 j0 j0 j0 (ixI ti40 j0 ti62 j0 j0 j0 q23<|j4)),(fun _=>pa j0 j0 j0 j0 (mv j0<|j4)),(fun _=>pa j0 j0 j0 j0 (ld ti40 j0 j0<|j4)),(fun _=>pa j0 j0 j0 j0 (fa ti42 j0 j0 j0<|j4)),(fun h=>by cases h),(fun _=>pa j0 j0 j0 j0 (fa ti42 j0 j0 j0<|j4)),j5⟩ (by kernel_rfl) j0 ⟨(fun h=>by cases h),(fun h=>by cases h),(fun _ _=>⟨_,j0,j0,sto ti40 j0 j0 j0<|⟨.any,[],[],j0,j0,by kernel_rfl,j5,dt0 ⟨(fun h=>by cases h),(fun h=>by cases h),(fun h=>by cases h),(fun h=>by cases h),(fun h=>by cases h),(fun h=>by cases h),(fun h=>by cases h),(fun h=>by cases h),(fun h=>by cases h),j5⟩ (by kernel_rfl) j0 ⟨[.old 0,.old 1,.old 2,.old 3,.old 6],cv j0 (.mpt j0)<|cv j0 (.mpt j0)<|cv j0 (.mpt j0)<|ce j0 j0<|cn,j0,⟨⟨_,j0,rsOne ⟨ci j0,ci j0,ci j0,ci j0,ci j0,ci j0,j5⟩⟩,⟨_,j0,rsOne ⟨ci j0,ci j0,ci j0,ci j0,ci j0,ci j0,j5⟩⟩,⟨_,j0,rsOne ⟨ci j0,ci j0,ci j0,ci j0,.msl j0,.msl j0,j5⟩⟩,⟨_,j0,rsMap (fun _=>j0)⟩,⟨_,j0,rsMap (fun _=>j0)⟩,j5⟩,j0,j1⟩⟩⟩),j5⟩⟩⟩),(fun _ h=>by cases h),j5⟩⟩⟩),(fun _ h=>by cases h),(fun _ h=>by cases h),j5⟩) ?_
    refine rl j0<|u<|mv j0<|u<|add ti3 j0 j0<|u<|asg j0<|r_nil ?_
    obtain rfl:=sm h
    exact ⟨_,j0,[.old 0,.old 1,.old 2,.old 3,.old 4],cv j0 (.mpt j0)<|cv j0 (.mpt j0)<|cv j0 (.mpt j0)<|ce j0 j0<|cn,j0,⟨⟨_,j0,rsOne ⟨ci j0,ci j0,ci j0,ci j0,ci j0,ci j0,j5⟩⟩,⟨_,j0,rsOne ⟨ci j0,ci j0,ci j0,ci j0,ci j0,ci j0,j5⟩⟩,⟨_,j0,rsOne ⟨ci j0,ci j0,ci j0,ci j0,.msl j0,.msl j0,j5⟩⟩,⟨_,j0,rsMap (fun _=>j0)⟩,⟨_,j0,rsMap (fun _=>j0)⟩,j5⟩,j0,j1⟩
   ·
    replace h:=bF hc22 h
    refine sw_exit ?_
    obtain rfl:=sm h
    exact ⟨j0,_,j0,[.old 1,.old 2,.old 3,.old 4],cv j0 (.mpt j0)<|cv j0 (.mpt j0)<|cn,j0,⟨⟨_,j0,rsOne ⟨ci j0,ci j0,ci j0,ci j0,ci j0,ci j0,j5⟩⟩,⟨_,j0,rsOne ⟨ci j0,ci j0,ci j0,ci j0,.msl j0,.msl j0,j5⟩⟩,⟨_,j0,rsMap (fun _=>j0)⟩,⟨_,j0,rsMap (fun _=>j0)⟩,j5⟩,j0,j1⟩
  ·
   rintro v28 rfl
   replace h : law5_Cut_k4 v2 v3 v4 v17 v28 = some r:=h
   unfold law5_Cut_k4 at h
   refine ow_intro ?_
   refine rg j0<|u<|ld ti42 j0 j0<|u<|sto ti42 j0 j0 j0<|r_nil ?_
   refine sw_ret ?_
   obtain rfl:=sm h
   exact ⟨_,j0,[.old 2,.old 3],rsAgg ⟨(ci j0),(ci j0),(ci j0),(ci j0),(.msl j0),(.msl j0),j5⟩,j0,⟨⟨_,j0,rsMap (fun _=>j0)⟩,⟨_,j0,rsMap (fun _=>j0)⟩,j5⟩,j0,j1⟩
  ·
   rintro r' rfl env st hp
   obtain rfl:=sm h
   exact hp
 ·
  rintro r' rfl env st hp
  obtain rfl:=sm h
  exact hp
def law5_All_k2 (v12 : List ApiClass) : Option ((List ApiClass)) :=
  some v12
def law5_All_l1 (v1 : List ApiClass) (v7 : List ApiClass) (v8 : Int) : Option (Sum ((List ApiClass) × Int) (Sum ((List ApiClass)) ((List ApiClass)))) :=
  cond ((decide (v8 < (List.length v1 : Int))) && (decide (v8 < 18))) ((idx v1 v8).bind fun v9=>(law5_Cut v9).bind fun v10=>(appP 112 v7 [(ApiClass.mk v10.1 v10.2.1 v9.Interface v10.2.2.1 v10.2.2.2.1 v10.2.2.2.2)]).bind fun v11=>some (.inl (v11,(IntKind.i64.wrap (v8 + 1))))) (some (.inr (.inl v7)))
def law5_All (v1 : List ApiClass) : Option ((List ApiClass)) :=
  (loopP (fun z=>law5_All_l1 v1 z.1 z.2) ([],0)).bind fun o=>leave o (fun b=>law5_All_k2 b) some
theorem law5_All_ok (v1 : List ApiClass) {r : (List ApiClass)} (h : law5_All v1 = some r) : SC Tryz.prog 19 [.isl 6 (List.map rApiClass v1)] [] (.msl 0 0 (List.length r)) [.many 6 (List.map rApiClass r)]:=by
 refine ⟨⟨sbOk (sz:=6) (fun _=>j0),j5⟩,scall_fn Tryz.func19 j0 (by kernel_rfl) j0 ?_⟩
 unfold law5_All at h
 refine rg j0<|u<|asg j0<|r_nil ?_
 refine rg j0<|u<|asg j0<|r_nil ?_
 refine sw_seq ?_
 refine rg j0<|u<|asg j0<|r_nil ?_
 obtain ⟨o,ho,h⟩:=bs h
 refine sw_lpl (X:=(List ApiClass) × Int) (B:=(List ApiClass)) (R:=(List ApiClass)) (fun z=>[(0,.isl 6 (List.map rApiClass v1)),(3,.msl 0 0 (List.length z.1)),(4,iA z.2)]) (fun z=>[some (6,List.map rApiClass z.1)]) (fun b=>[(3,.msl 0 0 (List.length b))]) (fun b=>[some (6,List.map rApiClass b)]) (fun r env st=>PostF Tryz.prog Tryz.f19 0 (.msl 0 0 (List.length r)) [some (6,List.map rApiClass r)] env st) ho ⟨[.fresh 6],ce j0 j0<|cv j0 (.nilown j0)<|ce j0 j0<|cn,j0,⟨j4,j5⟩,j0,j1⟩ ?_ ?_ ?_
 ·
  rintro ⟨v7,v8⟩ r h
  replace h : law5_All_l1 v1 v7 v8 = some r:=h
  unfold law5_All_l1 at h
  refine sw_seq ?_
  refine rg j0<|u<|mv j0<|u<|mv j0<|u<|lnI ti22 j0 j0<|u<|lss ti3 j0 j0<|u<|mv j0<|r_and (j:=4) 2 j0 j0 j0 j0 j0 gpn (fun hb6=>g j0 hb6<|mv j0<|g j0 hb6<|lss ti3 j0 j0<|r_nil (egA [10,11] 2 hb6 j0 j0 j0 j0)) andF<|r_nil ?_
  refine sw_cond j0 (fun hc7=>?_) (fun hc7=>?_)
  ·
   replace h:=bT hc7 h
   refine sw_skip ?_
   refine sw_seq ?_
   refine sw_block ?_
   obtain ⟨v9,q8,h⟩:=bs h
   obtain ⟨v10,q9,h⟩:=bs h
   obtain ⟨v11,q10,h⟩:=bs h
   refine rl j0<|u<|mv j0<|u<|mv j0<|u<|mv j0<|u<|ixI ti22 j0 ti42 j0 j0 j0 q8<|u<|ldI ti42 j0 (idx_some q8).2.2 j0<|u<|sc [] (law5_Cut_ok v9 q9) j0 j0 j0 j0 ⟨(rnI j0),j5⟩ j5<|r_can (env0:=[(0,.isl 6 (List.map rApiClass v1)),(4,iA v8),(15,.msl 0 0 (List.length v7)),(20,.agg [sA v10.1,sA v10.2.1,bA v9.Interface,.isl 1 (List.map rStr v10.2.2.1),.msl 1 0 (List.length v10.2.2.2.1),.msl 2 0 (List.length v10.2.2.2.2)])]) (st0:=[some (6,List.map rApiClass v7),some (3,List.map rApiField v10.2.2.2.1),some (10,List.map rApiMethod v10.2.2.2.2)]) ⟨[.old 0,.old 1,.old 2],ce j0 j0<|ce j0 j0<|cv j0 (.msl j0)<|cv j0 (rsAgg ⟨(ci j0),(ci j0),(ci j0),(ci j0),(.msl j0),(.msl j0),j5⟩)<|cn,j0,⟨⟨_,j0,rsMap (fun _=>j0)⟩,⟨_,j0,rsMap (fun _=>j0)⟩,⟨_,j0,rsMap (fun _=>j0)⟩,j5⟩,j0,j1⟩<|u<|bl 3 ti22 j0 ti42 j0 (by decide) (by decide) j0 j0 j0<|r_can (env0:=[(0,.isl 6 (List.map rApiClass v1)),(4,iA v8),(15,.msl 0 0 (List.length v7)),(21,.msl 1 0 (List.length [(ApiClass.mk v10.1 v10.2.1 v9.Interface v10.2.2.1 v10.2.2.2.1 v10.2.2.2.2)]))]) (st0:=[some (6,List.map rApiClass v7),some (6,List.map rApiClass [(ApiClass.mk v10.1 v10.2.1 v9.Interface v10.2.2.1 v10.2.2.2.1 v10.2.2.2.2)])]) ⟨[.old 0,.old 3],ce j0 j0<|ce j0 j0<|cv j0 (.msl j0)<|cv j0 (.msl j0)<|cn,j0,⟨⟨_,j0,rsMap (fun _=>j0)⟩,⟨_,j0,rsRows ⟨⟨(ci j0),(ci j0),(ci j0),(ci j0),(rsSeal j0 j0 (fun _=>j0)),(rsSeal j0 j0 (fun _=>j0)),j5⟩,j5⟩⟩,j5⟩,j0,j1⟩<|u<|apM 2 ti22 j0 ti42 j0 j0 (by decide) ti22 j0 j0 j0 j0 (roM j0) (fun _=>j0) j0 q10<|u<|asg j0<|r_nil ?_
   refine rl j0<|u<|mv j0<|u<|add ti3 j0 j0<|u<|asg j0<|r_nil ?_
   obtain rfl:=sm h
   exact ⟨_,j0,[.old 2],ce j0 j0<|cv j0 (.msl j0)<|ce j0 j0<|cn,j0,⟨⟨_,j0,rsMap (fun _=>j0)⟩,j5⟩,j0,j1⟩
  ·
   replace h:=bF hc7 h
   refine sw_exit ?_
   obtain rfl:=sm h
   exact ⟨j0,_,j0,[.old 0],cv j0 (.msl j0)<|cn,j0,⟨⟨_,j0,rsMap (fun _=>j0)⟩,j5⟩,j0,j1⟩
 ·
  rintro v12 rfl
  replace h : law5_All_k2 v12 = some r:=h
  unfold law5_All_k2 at h
  refine ow_intro ?_
  refine rg j0<|u<|mv j0<|u<|asg j0<|r_nil ?_
  refine sw_ret ?_
  obtain rfl:=sm h
  exact ⟨_,j0,[.old 0],.msl j0,j0,⟨⟨_,j0,rsMap (fun _=>j0)⟩,j5⟩,j0,j1⟩
 ·
  rintro r' rfl env st hp
  obtain rfl:=sm h
  exact hp
def ref7_Given : (List (List UInt8)) :=
  ([[79,98,106,101,99,116],[84,104,114,111,119,110],[78,117,108,108,69,114,114],[82,97,110,103,101,69,114,114],[77,97,116,104,69,114,114],[67,97,115,116,69,114,114],[83,105,122,101,69,114,114],[83,116,111,114,101,69,114,114],[73,110,105,116,69,114,114],[67,108,97,115,115,69,114,114]])
theorem ref7_Given_ok {r : (List (List UInt8))} (h : ref7_Given = r) : SC Tryz.prog 38 [] [] (.msl 0 0 (List.length r)) [.many 1 (List.map rStr r)]:=by
 refine ⟨⟨sbOk (sz:=1) (fun _=>j0),j5⟩,scall_fn Tryz.func38 j0 (by kernel_rfl) j0 ?_⟩
 unfold ref7_Given at h
 refine rg j0<|u<|asg j0<|r_nil ?_
 refine rg j0<|u<|bl 0 ti32 j0 ti9 j0 (by decide) (by decide) j0 j0 j0<|u<|asg j0<|r_nil ?_
 refine sw_ret ?_
 obtain rfl:=h
 exact ⟨_,j0,[.old 0],.msl j0,j0,⟨⟨_,j0,rsRows ⟨⟨(ci j0),j5⟩,⟨(ci j0),j5⟩,⟨(ci j0),j5⟩,⟨(ci j0),j5⟩,⟨(ci j0),j5⟩,⟨(ci j0),j5⟩,⟨(ci j0),j5⟩,⟨(ci j0),j5⟩,⟨(ci j0),j5⟩,⟨(ci j0),j5⟩,j5⟩⟩,j5⟩,j0,j1⟩
def hier_Given : (List (List UInt8)) :=
  ([[79,98,106,101,99,116],[84,104,114,111,119,110],[78,117,108,108,69,114,114],[82,97,110,103,101,69,114,114],[77,97,116,104,69,114,114],[67,97,115,116,69,114,114],[83,105,122,101,69,114,114],[83,116,111,114,101,69,114,114],[73,110,105,116,69,114,114],[67,108,97,115,115,69,114,114]])
theorem hier_Given_ok {r : (List (List UInt8))} (h : hier_Given = r) : SC Tryz.prog 30 [] [] (.msl 0 0 (List.length r)) [.many 1 (List.map rStr r)]:=by
 refine ⟨⟨sbOk (sz:=1) (fun _=>j0),j5⟩,scall_fn Tryz.func30 j0 (by kernel_rfl) j0 ?_⟩
 unfold hier_Given at h
 refine rg j0<|u<|asg j0<|r_nil ?_
 refine rg j0<|u<|bl 0 ti32 j0 ti9 j0 (by decide) (by decide) j0 j0 j0<|u<|asg j0<|r_nil ?_
 refine sw_ret ?_
 obtain rfl:=h
 exact ⟨_,j0,[.old 0],.msl j0,j0,⟨⟨_,j0,rsRows ⟨⟨(ci j0),j5⟩,⟨(ci j0),j5⟩,⟨(ci j0),j5⟩,⟨(ci j0),j5⟩,⟨(ci j0),j5⟩,⟨(ci j0),j5⟩,⟨(ci j0),j5⟩,⟨(ci j0),j5⟩,⟨(ci j0),j5⟩,⟨(ci j0),j5⟩,j5⟩⟩,j5⟩,j0,j1⟩
def hier_given_k4 (v12 : List ApiClass) : Option ((List ApiClass)) :=
  some v12
def hier_given_j2 (v6 : List ApiClass) (v7 : Int) (v8 : List UInt8) (v10 : List UInt8) : Option (Sum ((List ApiClass) × Int) (Sum ((List ApiClass)) ((List ApiClass)))) :=
  (appP 112 v6 ([(ApiClass.mk v8 v10 false [] [] [])])).bind fun v11=>some (.inl (v11,(IntKind.i64.wrap (v7 + 1))))
def hier_given_l3 (v6 : List ApiClass) (v7 : Int) : Option (Sum ((List ApiClass) × Int) (Sum ((List ApiClass)) ((List ApiClass)))) :=
  cond (decide (v7 < ((List.length (hier_Given)) : Int))) ((idx (hier_Given) v7).bind fun v8=>cond (decide (v7 < 2)) ((idx ([[],[79,98,106,101,99,116]]) v7).bind fun v9=>hier_given_j2 v6 v7 v8 v9) (hier_given_j2 v6 v7 v8 [84,104,114,111,119,110])) (some (.inr (.inl v6)))
def hier_given : Option ((List ApiClass)) :=
  (loopP (fun z=>hier_given_l3 z.1 z.2) ([],0)).bind fun o=>leave o (fun b=>hier_given_k4 b) some
theorem hier_given_ok {r : (List ApiClass)} (h : hier_given = some r) : SC Tryz.prog 57 [] [] (.msl 0 0 (List.length r)) [.many 6 (List.map rApiClass r)]:=by
 refine ⟨⟨sbOk (sz:=6) (fun _=>j0),j5⟩,scall_fn Tryz.func57 j0 (by kernel_rfl) j0 ?_⟩
 unfold hier_given at h
 refine rg j0<|u<|asg j0<|r_nil ?_
 refine rg j0<|u<|asg j0<|r_nil ?_
 refine sw_seq ?_
 refine rg j0<|u<|sc [] (hier_Given_ok j0) j0 j0 j0 j0 j5 j5<|r_can (env0:=[(1,.lit (.slice none 0 0)),(5,.msl 0 0 (List.length (hier_Given)))]) (st0:=[some (1,List.map rStr (hier_Given))]) ⟨[.old 0],ce j0 j0<|cv j0 (.msl j0)<|cn,j0,⟨⟨_,j0,rsMap (fun _=>j0)⟩,j5⟩,j0,j1⟩<|u<|lnM ti32 j0 j0 j0<|u<|mv j0<|r_nil ?_
 obtain ⟨o,ho,h⟩:=bs h
 refine sw_lpl (X:=(List ApiClass) × Int) (B:=(List ApiClass)) (R:=(List ApiClass)) (fun z=>[(1,.msl 0 0 (List.length z.1)),(5,.msl 1 0 (List.length (hier_Given))),(6,iA ((List.length (hier_Given)) : Int)),(7,iA z.2)]) (fun z=>[some (6,List.map rApiClass z.1),some (1,List.map rStr (hier_Given))]) (fun b=>[(1,.msl 0 0 (List.length b))]) (fun b=>[some (6,List.map rApiClass b)]) (fun r env st=>PostF Tryz.prog Tryz.f57 0 (.msl 0 0 (List.length r)) [some (6,List.map rApiClass r)] env st) ho ⟨[.fresh 6,.old 0],cv j0 (.nilown j0)<|cv j0 (.msl j0)<|ce j0 j0<|ce j0 j0<|cn,j0,⟨j4,⟨_,j0,rsMap (fun _=>j0)⟩,j5⟩,j0,j1⟩ ?_ ?_ ?_
 ·
  rintro ⟨v6,v7⟩ r h
  replace h : hier_given_l3 v6 v7 = some r:=h
  unfold hier_given_l3 at h
  refine rg j0<|u<|lss ti3 j0 j0<|r_nil ?_
  refine sw_seq ?_
  refine sw_cond j0 (fun hc5=>?_) (fun hc5=>?_)
  ·
   replace h:=bT hc5 h
   refine sw_skip ?_
   refine sw_seq ?_
   refine sw_block ?_
   obtain ⟨v8,q6,h⟩:=bs h
   refine rg j0<|u<|mv j0<|u<|ixM ti32 j0 ti9 j0 j0 j0 j0 q6<|u<|ldM ti9 j0 j0 (idx_some q6).2.2 j0<|u<|asg j0<|u<|asg j0<|r_nil ?_
   refine rg j0<|u<|mv j0<|u<|bd ti42 j0 j0 j0<|u<|al 2 ti42 j0<|u<|sto ti42 j0 j0 j0<|r_nil ?_
   refine sw_meet (X:=(List UInt8)) (fun z=>[(1,.msl 0 0 (List.length v6)),(4,.mpt 1 0 0),(5,.msl 2 0 (List.length (hier_Given))),(6,iA ((List.length (hier_Given)) : Int)),(7,iA v7)]) (fun z=>[some (6,List.map rApiClass v6),some (6,[[sA v8,sA z,bA false,.lit (.slice none 0 0),.lit (.slice none 0 0),.lit (.slice none 0 0)]]),some (1,List.map rStr (hier_Given))]) (fun z=>hier_given_j2 v6 v7 v8 z = some r) ?_ ?_
   ·
    refine rg j0<|u<|mv j0<|u<|lss ti3 j0 j0<|r_nil ?_
    refine sw_cond j0 (fun hc7=>?_) (fun hc7=>?_)
    ·
     replace h:=bT hc7 h
     obtain ⟨v9,q8,h⟩:=bs h
     exact rl j0<|u<|bl 3 ti32 j0 ti9 j0 (by decide) (by decide) j0 j0 j0<|u<|mv j0<|r_can (env0:=[(1,.msl 0 0 (List.length v6)),(4,.mpt 1 0 0),(5,.msl 2 0 (List.length (hier_Given))),(6,iA ((List.length (hier_Given)) : Int)),(7,iA v7),(16,.msl 3 0 (List.length ([[],[79,98,106,101,99,116]]))),(17,iA v7)]) (st0:=[some (6,List.map rApiClass v6),some (6,[[sA v8,sA [84,104,114,111,119,110],bA false,.lit (.slice none 0 0),.lit (.slice none 0 0),.lit (.slice none 0 0)]]),some (1,List.map rStr (hier_Given)),some (1,List.map rStr ([[],[79,98,106,101,99,116]]))]) ⟨[.old 0,.old 2,.old 1,.old 3],cv j0 (.msl j0)<|cv j0 (.mpt j0)<|cv j0 (.msl j0)<|ce j0 j0<|ce j0 j0<|cv j0 (.msl j0)<|ce j0 j0<|cn,j0,⟨⟨_,j0,rsMap (fun _=>j0)⟩,⟨_,j0,rsOne ⟨ci j0,ci j0,ci j0,ci j0,ci j0,ci j0,j5⟩⟩,⟨_,j0,rsMap (fun _=>j0)⟩,⟨_,j0,rsRows ⟨⟨(ci j0),j5⟩,⟨(ci j0),j5⟩,j5⟩⟩,j5⟩,j0,j1⟩<|u<|ixM ti32 j0 ti9 j0 j0 j0 j0 q8<|u<|ldM ti9 j0 j0 (idx_some q8).2.2 j0<|u<|fa ti42 j0 j0 j0<|u<|sto ti9 j0 j0 j0<|r_nil (⟨v9,h,[.old 0,.old 1,.old 2],cv j0 (.msl j0)<|cv j0 (.mpt j0)<|cv j0 (.msl j0)<|ce j0 j0<|ce j0 j0<|cn,j0,⟨⟨_,j0,rsMap (fun _=>j0)⟩,⟨_,j0,rsOne ⟨ci j0,ci j0,ci j0,ci j0,ci j0,ci j0,j5⟩⟩,⟨_,j0,rsMap (fun _=>j0)⟩,j5⟩,j0,j1⟩)
    ·
     replace h:=bF hc7 h
     refine sw_skip ?_
     exact ⟨[84,104,114,111,119,110],h,[.old 0,.old 2,.old 1],cv j0 (.msl j0)<|cv j0 (.mpt j0)<|cv j0 (.msl j0)<|ce j0 j0<|ce j0 j0<|cn,j0,⟨⟨_,j0,rsMap (fun _=>j0)⟩,⟨_,j0,rsOne ⟨ci j0,ci j0,ci j0,ci j0,ci j0,ci j0,j5⟩⟩,⟨_,j0,rsMap (fun _=>j0)⟩,j5⟩,j0,j1⟩
   ·
    rintro v10 h
    replace h : hier_given_j2 v6 v7 v8 v10 = some r:=h
    unfold hier_given_j2 at h
    obtain ⟨v11,q9,h⟩:=bs h
    refine rl j0<|u<|mv j0<|u<|ld ti42 j0 j0<|u<|bl 3 ti22 j0 ti42 j0 (by decide) (by decide) j0 j0 j0<|r_can (env0:=[(5,.msl 0 0 (List.length (hier_Given))),(6,iA ((List.length (hier_Given)) : Int)),(7,iA v7),(21,.msl 1 0 (List.length v6)),(23,.msl 2 0 (List.length ([(ApiClass.mk v8 v10 false [] [] [])])))]) (st0:=[some (1,List.map rStr (hier_Given)),some (6,List.map rApiClass v6),some (6,List.map rApiClass ([(ApiClass.mk v8 v10 false [] [] [])]))]) ⟨[.old 2,.old 0,.old 3],cv j0 (.msl j0)<|ce j0 j0<|ce j0 j0<|cv j0 (.msl j0)<|cv j0 (.msl j0)<|cn,j0,⟨⟨_,j0,rsMap (fun _=>j0)⟩,⟨_,j0,rsMap (fun _=>j0)⟩,⟨_,j0,rsRows ⟨⟨(ci j0),(ci j0),(ci j0),(.nil),(.nil),(.nil),j5⟩,j5⟩⟩,j5⟩,j0,j1⟩<|u<|apM 3 ti22 j0 ti42 j0 j0 (by decide) ti22 j0 j0 j0 j0 (roM j0) (fun _=>j0) j0 q9<|u<|asg j0<|r_nil ?_
    refine rl j0<|u<|add ti3 j0 j0<|u<|mv j0<|r_nil ?_
    obtain rfl:=sm h
    exact ⟨_,j0,[.old 3,.old 0],cv j0 (.msl j0)<|cv j0 (.msl j0)<|ce j0 j0<|ce j0 j0<|cn,j0,⟨⟨_,j0,rsMap (fun _=>j0)⟩,⟨_,j0,rsMap (fun _=>j0)⟩,j5⟩,j0,j1⟩
  ·
   replace h:=bF hc5 h
   refine sw_exit ?_
   obtain rfl:=sm h
   exact ⟨j0,_,j0,[.old 0],cv j0 (.msl j0)<|cn,j0,⟨⟨_,j0,rsMap (fun _=>j0)⟩,j5⟩,j0,j1⟩
 ·
  rintro v12 rfl
  replace h : hier_given_k4 v12 = some r:=h
  unfold hier_given_k4 at h
  refine ow_intro ?_
  refine rg j0<|u<|mv j0<|u<|asg j0<|r_nil ?_
  refine sw_ret ?_
  obtain rfl:=sm h
  exact ⟨_,j0,[.old 0],.msl j0,j0,⟨⟨_,j0,rsMap (fun _=>j0)⟩,j5⟩,j0,j1⟩
 ·
  rintro r' rfl env st hp
  obtain rfl:=sm h
  exact hp
def hier_above (v1 : ApiClass) : Option ((List (List UInt8))) :=
  (appP 16 [v1.Super] v1.Impl).bind fun v2=>some v2
theorem hier_above_ok (v1 : ApiClass) {r : (List (List UInt8))} (h : hier_above v1 = some r) : SC Tryz.prog 60 [.agg [sA v1.Name,sA v1.Super,bA v1.Interface,.isl 1 (List.map rStr v1.Impl),.isl 3 (List.map rApiField v1.Fields),.isl 10 (List.map rApiMethod v1.Methods)]] [] (.msl 0 0 (List.length r)) [.many 1 (List.map rStr r)]:=by
 refine ⟨⟨sbOk (sz:=1) (fun _=>j0),j5⟩,scall_fn Tryz.func60 j0 (by kernel_rfl) j0 ?_⟩
 unfold hier_above at h
 refine rg j0<|u<|bx 0 6 j0 j0 j0 j0<|u<|asg j0<|r_nil ?_
 obtain ⟨v2,q1,h⟩:=bs h
 refine rg j0<|u<|fa ti42 j0 j0 j0<|u<|ld ti9 j0 j0<|u<|bl 1 ti32 j0 ti9 j0 (by decide) (by decide) j0 j0 j0<|u<|fa ti42 j0 j0 j0<|u<|ld ti32 j0 j0<|u<|apM (l:=[v1.Super]) (f:=rStr) 2 ti32 j0 ti9 j0 j0 (by decide) ti32 j0 j0 j0 j0 roI (fun _=>j0) j0 q1<|u<|asg j0<|r_nil ?_
 refine sw_ret ?_
 obtain rfl:=sm h
 exact ⟨_,j0,[.old 2],.msl j0,j0,⟨⟨_,j0,rsMap (fun _=>j0)⟩,j5⟩,j0,j1⟩
def hier_Hier_has (v1 : List ApiClass) (v2 : List (List UInt8 × Int)) (v3 : List UInt8) : Bool :=
  (Option.isSome (mapGet v3 v2))
theorem hier_Hier_has_ok (v1 : List ApiClass) (v2 : List (List UInt8 × Int)) (v3 : List UInt8) {r : Bool} (h : hier_Hier_has v1 v2 v3 = r) : PureC Tryz.prog 62 [.ipt 2 [[.isl 6 (List.map rApiClass v1),.imp (List.map (rKV (fun x=>iA x)) v2)]] 0 0,sA v3] (bA r):=by
 refine pure_fn Tryz.func62 j0 (by kernel_rfl) j0 j0 ?_
 unfold hier_Hier_has at h
 refine rg j0<|u<|asg j0<|r_nil ?_
 refine sw_seq ?_
 refine rg j0<|u<|mv j0<|u<|eqp ti25 j0 j0 j0 j0 j0 j0<|r_nil ?_
 refine sw_cond j0 (fun hx=>by cases hx) (fun _=>?_)
 refine sw_skip ?_
 refine rg j0<|u<|mv j0<|u<|nc j0 j0<|u<|fa ti91 j0 j0 j0<|u<|ld ti89 j0 j0<|u<|mv j0<|u<|mlkT (g:=(fun x=>iA x)) (z:=0) (l:=v2) j0 ti3 j0 j0 j0 j0<|u<|mv j0<|u<|ex j0 j0<|u<|ex j0 j0<|u<|asg j0<|u<|asg j0<|r_nil ?_
 refine rg j0<|u<|mv j0<|u<|asg j0<|r_nil ?_
 refine sw_ret ?_
 obtain rfl:=h
 exact ⟨_,j0,[],ci j0,j0,j5,j0,j1⟩
def hier_New_1 (v1 : List UInt8) (v2 : List ApiClass) (v3 : List (List UInt8 × Int)) : Bool :=
  (!(hier_Hier_has v2 v3 v1))
theorem hier_New_1_ok (v1 : List UInt8) (v2 : List ApiClass) (v3 : List (List UInt8 × Int)) {r : Bool} (h : hier_New_1 v1 v2 v3 = r) : PureC Tryz.prog 61 [sA v1,.ipt 1 [[.ipt 2 [[.isl 6 (List.map rApiClass v2),.imp (List.map (rKV (fun x=>iA x)) v3)]] 0 0]] 0 0] (bA r):=by
 refine pure_fn Tryz.func61 j0 (by kernel_rfl) j0 j0 ?_
 unfold hier_New_1 at h
 refine rg j0<|u<|asg j0<|r_nil ?_
 refine rg j0<|u<|ld ti25 j0 j0<|u<|mv j0<|u<|pc (hier_Hier_has_ok v2 v3 v1 j0) j0 j0 j0<|u<|nt j0<|u<|asg j0<|r_nil ?_
 refine sw_ret ?_
 obtain rfl:=h
 exact ⟨_,j0,[],ci j0,j0,j5,j0,j1⟩
def slices_IndexFunc_string_string_s4_k2 : Option (Int) :=
  some (-1)
def slices_IndexFunc_string_string_s4_l1 (v1 : List (List UInt8)) (v2 : List ApiClass) (v3 : List (List UInt8 × Int)) (v6 : Int) : Option (Sum (Int) (Sum (Unit) (Int))) :=
  cond (decide (v6 < (List.length v1 : Int))) ((idx v1 v6).bind fun v7=>cond (hier_New_1 v7 v2 v3) (some (.inr (.inr v6))) (some (.inl (IntKind.i64.wrap (v6 + 1))))) (some (.inr (.inl ())))
def slices_IndexFunc_string_string_s4 (v1 : List (List UInt8)) (v2 : List ApiClass) (v3 : List (List UInt8 × Int)) : Option (Int) :=
  (loopP (fun z=>slices_IndexFunc_string_string_s4_l1 v1 v2 v3 z) 0).bind fun o=>leave o (fun b=>slices_IndexFunc_string_string_s4_k2) some
theorem slices_IndexFunc_string_string_s4_ok (v1 : List (List UInt8)) (v2 : List ApiClass) (v3 : List (List UInt8 × Int)) {r : Int} (h : slices_IndexFunc_string_string_s4 v1 v2 v3 = some r) : PureC Tryz.prog 105 [.isl 1 (List.map rStr v1),.fn (.func 61) [] [.ipt 1 [[.ipt 2 [[.isl 6 (List.map rApiClass v2),.imp (List.map (rKV (fun x=>iA x)) v3)]] 0 0]] 0 0]] (iA r):=by
 refine pure_fn Tryz.func105 j0 (by kernel_rfl) j0 j0 ?_
 unfold slices_IndexFunc_string_string_s4 at h
 refine rg j0<|u<|asg j0<|r_nil ?_
 refine sw_seq ?_
 refine rg j0<|u<|mv j0<|u<|lnI ti32 j0 j0<|u<|mv j0<|r_nil ?_
 obtain ⟨o,ho,h⟩:=bs h
 refine sw_lpl (X:=Int) (B:=Unit) (R:=Int) (fun z=>[(0,.isl 1 (List.map rStr v1)),(1,.fn (.func 61) [] [.ipt 1 [[.ipt 2 [[.isl 6 (List.map rApiClass v2),.imp (List.map (rKV (fun x=>iA x)) v3)]] 0 0]] 0 0]),(7,iA (List.length v1 : Int)),(8,iA z)]) (fun z=>[]) (fun b=>[]) (fun b=>[]) (fun r env st=>PostF Tryz.prog Tryz.f105 0 (iA r) [] env st) ho ⟨[],ce j0 j0<|ce j0 j0<|ce j0 j0<|ce j0 j0<|cn,j0,j5,j0,j1⟩ ?_ ?_ ?_
 ·
  rintro v6 r h
  replace h : slices_IndexFunc_string_string_s4_l1 v1 v2 v3 v6 = some r:=h
  unfold slices_IndexFunc_string_string_s4_l1 at h
  refine rg j0<|u<|lss ti3 j0 j0<|r_nil ?_
  refine sw_seq ?_
  refine sw_cond j0 (fun hc4=>?_) (fun hc4=>?_)
  ·
   replace h:=bT hc4 h
   refine sw_skip ?_
   refine sw_seq ?_
   refine sw_block ?_
   refine rg j0<|u<|mv j0<|u<|asg j0<|r_nil ?_
   obtain ⟨v7,q5,h⟩:=bs h
   refine rg j0<|u<|mv j0<|u<|mv j0<|u<|mv j0<|u<|ixI ti32 j0 ti9 j0 j0 j0 q5<|u<|ldI ti9 j0 (idx_some q5).2.2 j0<|u<|pc (hier_New_1_ok v7 v2 v3 j0) j0 j0 j0<|r_nil ?_
   refine sw_cond j0 (fun hc6=>?_) (fun hc6=>?_)
   ·
    replace h:=bT hc6 h
    refine rg j0<|u<|mv j0<|u<|asg j0<|r_nil ?_
    refine sw_ret ?_
    obtain rfl:=sm h
    exact ⟨_,j0,_,j0,[],ci j0,j0,j5,j0,j1⟩
   ·
    replace h:=bF hc6 h
    refine sw_skip ?_
    refine rl j0<|u<|add ti3 j0 j0<|u<|mv j0<|r_nil ?_
    obtain rfl:=sm h
    exact ⟨_,j0,[],ce j0 j0<|ce j0 j0<|ce j0 j0<|ce j0 j0<|cn,j0,j5,j0,j1⟩
  ·
   replace h:=bF hc4 h
   refine sw_exit ?_
   obtain rfl:=sm h
   exact ⟨j0,_,j0,[],cn,j0,j5,j0,j1⟩
 ·
  rintro ⟨⟩ rfl
  replace h : slices_IndexFunc_string_string_s4_k2 = some r:=h
  unfold slices_IndexFunc_string_string_s4_k2 at h
  refine ow_intro ?_
  refine rg j0<|u<|asg j0<|r_nil ?_
  refine sw_ret ?_
  obtain rfl:=sm h
  exact ⟨_,j0,[],ci j0,j0,j5,j0,j1⟩
 ·
  rintro r' rfl env st hp
  obtain rfl:=sm h
  exact hp
def slices_ContainsFunc_string_string_s4 (v1 : List (List UInt8)) (v2 : List ApiClass) (v3 : List (List UInt8 × Int)) : Option (Bool) :=
  (slices_IndexFunc_string_string_s4 v1 v2 v3).bind fun v4=>some (decide (0 ≤ v4))
theorem slices_ContainsFunc_string_string_s4_ok (v1 : List (List UInt8)) (v2 : List ApiClass) (v3 : List (List UInt8 × Int)) {r : Bool} (h : slices_ContainsFunc_string_string_s4 v1 v2 v3 = some r) : PureC Tryz.prog 59 [.isl 1 (List.map rStr v1),.fn (.func 61) [] [.ipt 1 [[.ipt 2 [[.isl 6 (List.map rApiClass v2),.imp (List.map (rKV (fun x=>iA x)) v3)]] 0 0]] 0 0]] (bA r):=by
 refine pure_fn Tryz.func59 j0 (by kernel_rfl) j0 j0 ?_
 unfold slices_ContainsFunc_string_string_s4 at h
 refine rg j0<|u<|asg j0<|r_nil ?_
 obtain ⟨v4,q1,h⟩:=bs h
 refine rg j0<|u<|mv j0<|u<|mv j0<|u<|pc (slices_IndexFunc_string_string_s4_ok v1 v2 v3 q1) j0 j0 j0<|u<|geq ti3 j0 j0<|u<|asg j0<|r_nil ?_
 refine sw_ret ?_
 obtain rfl:=sm h
 exact ⟨_,j0,[],ci j0,j0,j5,j0,j1⟩
def hier_Hier_get (v1 : List ApiClass) (v2 : List (List UInt8 × Int)) (v3 : List UInt8) : Option (ApiClass) :=
  (idx v1 (Option.getD (mapGet v3 v2) 0)).bind fun v4=>some v4
theorem hier_Hier_get_ok (v1 : List ApiClass) (v2 : List (List UInt8 × Int)) (v3 : List UInt8) {r : ApiClass} (h : hier_Hier_get v1 v2 v3 = some r) : PureC Tryz.prog 72 [.ipt 2 [[.isl 6 (List.map rApiClass v1),.imp (List.map (rKV (fun x=>iA x)) v2)]] 0 0,sA v3] (.agg [sA r.Name,sA r.Super,bA r.Interface,.isl 1 (List.map rStr r.Impl),.isl 3 (List.map rApiField r.Fields),.isl 10 (List.map rApiMethod r.Methods)]):=by
 refine pure_fn Tryz.func72 j0 (by kernel_rfl) j0 j0 ?_
 unfold hier_Hier_get at h
 refine rg j0<|u<|al 0 ti42 j0<|r_nil ?_
 obtain ⟨v4,q1,h⟩:=bs h
 refine rd [(4,.mpt 0 0 0)] [some (6,[[sA v4.Name,sA v4.Super,bA v4.Interface,.isl 1 (List.map rStr v4.Impl),.isl 3 (List.map rApiField v4.Fields),.isl 10 (List.map rApiMethod v4.Methods)]])] [12] [11,10,9,8,7,6,5,4,3,2,1,0] [(16,.agg [sA v4.Name,sA v4.Super,bA v4.Interface,.isl 1 (List.map rStr v4.Impl),.isl 3 (List.map rApiField v4.Fields),.isl 10 (List.map rApiMethod v4.Methods)]),(15,.ipt 6 (List.map rApiClass v1) (Int.toNat (Option.getD (mapGet v3 v2) 0)) 0),(14,iA (Option.getD (mapGet v3 v2) 0)),(13,sA v3),(12,.imp (List.map (rKV (fun x=>iA x)) v2)),(11,.ipt 2 [[.isl 6 (List.map rApiClass v1),.imp (List.map (rKV (fun x=>iA x)) v2)]] 0 1),(10,.ipt 2 [[.isl 6 (List.map rApiClass v1),.imp (List.map (rKV (fun x=>iA x)) v2)]] 0 0),(9,.ipt 2 [[.isl 6 (List.map rApiClass v1),.imp (List.map (rKV (fun x=>iA x)) v2)]] 0 0),(8,.isl 6 (List.map rApiClass v1)),(7,.ipt 2 [[.isl 6 (List.map rApiClass v1),.imp (List.map (rKV (fun x=>iA x)) v2)]] 0 0),(6,.ipt 2 [[.isl 6 (List.map rApiClass v1),.imp (List.map (rKV (fun x=>iA x)) v2)]] 0 0),(5,.ipt 2 [[.isl 6 (List.map rApiClass v1),.imp (List.map (rKV (fun x=>iA x)) v2)]] 0 0)] 1 (by kernel_rfl) (by kernel_rfl) j0 (by kernel_rfl) (dtS ⟨(fun _=>pa j0 j0 j0 j0 (ldI ti42 j0 (idx_some q1).2.2 j0<|j4)),(fun _=>pa j0 j0 j0 j0 (ixI ti22 j0 ti42 j0 j0 j0 q1<|j4)),(fun _=>pa j0 j0 j0 j0 (mlkF (g:=(fun x=>iA x)) (z:=0) (l:=v2) j0 ti3 j0 j0 j0 j0<|j4)),(fun _=>pa j0 j0 j0 j0 (mv j0<|j4)),(fun _=>pa j0 j0 j0 j0 (ld ti89 j0 j0<|j4)),(fun _=>pa j0 j0 j0 j0 (fa ti91 j0 j0 j0<|j4)),(fun _=>pa j0 j0 j0 j0 (nc j0 j0<|j4)),(fun _=>pa j0 j0 j0 j0 (mv j0<|j4)),(fun _=>pa j0 j0 j0 j0 (ld ti22 j0 j0<|j4)),(fun _=>pa j0 j0 j0 j0 (fa ti91 j0 j0 j0<|j4)),(fun _=>pa j0 j0 j0 j0 (nc j0 j0<|j4)),(fun _=>pa j0 j0 j0 j0 (mv j0<|j4)),j5⟩ (by kernel_rfl) j0 ⟨(fun _ _=>⟨_,j0,j0,sto ti42 j0 j0 j0<|⟨.any,[],[],j0,j0,by kernel_rfl,j5,dt0 ⟨(fun h=>by cases h),(fun h=>by cases h),(fun h=>by cases h),(fun h=>by cases h),(fun h=>by cases h),(fun h=>by cases h),(fun h=>by cases h),(fun h=>by cases h),(fun h=>by cases h),(fun h=>by cases h),(fun h=>by cases h),(fun h=>by cases h),j5⟩ (by kernel_rfl) j0 ⟨[.old 0],cv j0 (.mpt j0)<|cn,j0,⟨⟨_,j0,rsOne ⟨ci j0,ci j0,ci j0,ci j0,ci j0,ci j0,j5⟩⟩,j5⟩,j0,j1⟩⟩⟩),j5⟩) ?_
 refine sw_ret ?_
 obtain rfl:=sm h
 exact ⟨_,j0,[],ci j0,j0,j5,j0,j1⟩
def hier_Hier_fits_1 (v1 : List UInt8) (v2 : List ApiClass) (v3 : List (List UInt8 × Int)) : Option (Bool) :=
  (hier_Hier_get v2 v3 v1).bind fun v4=>some (!v4.Interface)
theorem hier_Hier_fits_1_ok (v1 : List UInt8) (v2 : List ApiClass) (v3 : List (List UInt8 × Int)) {r : Bool} (h : hier_Hier_fits_1 v1 v2 v3 = some r) : PureC Tryz.prog 106 [sA v1,.ipt 1 [[.ipt 2 [[.isl 6 (List.map rApiClass v2),.imp (List.map (rKV (fun x=>iA x)) v3)]] 0 0]] 0 0] (bA r):=by
 refine pure_fn Tryz.func106 j0 (by kernel_rfl) j0 j0 ?_
 unfold hier_Hier_fits_1 at h
 refine rg j0<|u<|asg j0<|r_nil ?_
 obtain ⟨v4,q1,h⟩:=bs h
 refine rg j0<|u<|ld ti25 j0 j0<|u<|mv j0<|u<|pc (hier_Hier_get_ok v2 v3 v1 q1) j0 j0 j0<|u<|fdV j0 j0<|u<|nt j0<|u<|asg j0<|r_nil ?_
 refine sw_ret ?_
 obtain rfl:=sm h
 exact ⟨_,j0,[],ci j0,j0,j5,j0,j1⟩
def slices_IndexFunc_string_string_s5_k2 : Option (Int) :=
  some (-1)
def slices_IndexFunc_string_string_s5_l1 (v1 : List (List UInt8)) (v2 : List ApiClass) (v3 : List (List UInt8 × Int)) (v7 : Int) : Option (Sum (Int) (Sum (Unit) (Int))) :=
  cond (decide (v7 < (List.length v1 : Int))) ((idx v1 v7).bind fun v8=>(hier_Hier_fits_1 v8 v2 v3).bind fun v9=>cond v9 (some (.inr (.inr v7))) (some (.inl (IntKind.i64.wrap (v7 + 1))))) (some (.inr (.inl ())))
def slices_IndexFunc_string_string_s5 (v1 : List (List UInt8)) (v2 : List ApiClass) (v3 : List (List UInt8 × Int)) : Option (Int) :=
  (loopP (fun z=>slices_IndexFunc_string_string_s5_l1 v1 v2 v3 z) 0).bind fun o=>leave o (fun b=>slices_IndexFunc_string_string_s5_k2) some
theorem slices_IndexFunc_string_string_s5_ok (v1 : List (List UInt8)) (v2 : List ApiClass) (v3 : List (List UInt8 × Int)) {r : Int} (h : slices_IndexFunc_string_string_s5 v1 v2 v3 = some r) : PureC Tryz.prog 105 [.isl 1 (List.map rStr v1),.fn (.func 106) [] [.ipt 1 [[.ipt 2 [[.isl 6 (List.map rApiClass v2),.imp (List.map (rKV (fun x=>iA x)) v3)]] 0 0]] 0 0]] (iA r):=by
 refine pure_fn Tryz.func105 j0 (by kernel_rfl) j0 j0 ?_
 unfold slices_IndexFunc_string_string_s5 at h
 refine rg j0<|u<|asg j0<|r_nil ?_
 refine sw_seq ?_
 refine rg j0<|u<|mv j0<|u<|lnI ti32 j0 j0<|u<|mv j0<|r_nil ?_
 obtain ⟨o,ho,h⟩:=bs h
 refine sw_lpl (X:=Int) (B:=Unit) (R:=Int) (fun z=>[(0,.isl 1 (List.map rStr v1)),(1,.fn (.func 106) [] [.ipt 1 [[.ipt 2 [[.isl 6 (List.map rApiClass v2),.imp (List.map (rKV (fun x=>iA x)) v3)]] 0 0]] 0 0]),(7,iA (List.length v1 : Int)),(8,iA z)]) (fun z=>[]) (fun b=>[]) (fun b=>[]) (fun r env st=>PostF Tryz.prog Tryz.f105 0 (iA r) [] env st) ho ⟨[],ce j0 j0<|ce j0 j0<|ce j0 j0<|ce j0 j0<|cn,j0,j5,j0,j1⟩ ?_ ?_ ?_
 ·
  rintro v7 r h
  replace h : slices_IndexFunc_string_string_s5_l1 v1 v2 v3 v7 = some r:=h
  unfold slices_IndexFunc_string_string_s5_l1 at h
  refine rg j0<|u<|lss ti3 j0 j0<|r_nil ?_
  refine sw_seq ?_
  refine sw_cond j0 (fun hc5=>?_) (fun hc5=>?_)
  ·
   replace h:=bT hc5 h
   refine sw_skip ?_
   refine sw_seq ?_
   refine sw_block ?_
   refine rg j0<|u<|mv j0<|u<|asg j0<|r_nil ?_
   obtain ⟨v8,q6,h⟩:=bs h
   obtain ⟨v9,q7,h⟩:=bs h
   refine rg j0<|u<|mv j0<|u<|mv j0<|u<|mv j0<|u<|ixI ti32 j0 ti9 j0 j0 j0 q6<|u<|ldI ti9 j0 (idx_some q6).2.2 j0<|u<|pc (hier_Hier_fits_1_ok v8 v2 v3 q7) j0 j0 j0<|r_nil ?_
   refine sw_cond j0 (fun hc8=>?_) (fun hc8=>?_)
   ·
    replace h:=bT hc8 h
    refine rg j0<|u<|mv j0<|u<|asg j0<|r_nil ?_
    refine sw_ret ?_
    obtain rfl:=sm h
    exact ⟨_,j0,_,j0,[],ci j0,j0,j5,j0,j1⟩
   ·
    replace h:=bF hc8 h
    refine sw_skip ?_
    refine rl j0<|u<|add ti3 j0 j0<|u<|mv j0<|r_nil ?_
    obtain rfl:=sm h
    exact ⟨_,j0,[],ce j0 j0<|ce j0 j0<|ce j0 j0<|ce j0 j0<|cn,j0,j5,j0,j1⟩
  ·
   replace h:=bF hc5 h
   refine sw_exit ?_
   obtain rfl:=sm h
   exact ⟨j0,_,j0,[],cn,j0,j5,j0,j1⟩
 ·
  rintro ⟨⟩ rfl
  replace h : slices_IndexFunc_string_string_s5_k2 = some r:=h
  unfold slices_IndexFunc_string_string_s5_k2 at h
  refine ow_intro ?_
  refine rg j0<|u<|asg j0<|r_nil ?_
  refine sw_ret ?_
  obtain rfl:=sm h
  exact ⟨_,j0,[],ci j0,j0,j5,j0,j1⟩
 ·
  rintro r' rfl env st hp
  obtain rfl:=sm h
  exact hp
def slices_ContainsFunc_string_string_s5 (v1 : List (List UInt8)) (v2 : List ApiClass) (v3 : List (List UInt8 × Int)) : Option (Bool) :=
  (slices_IndexFunc_string_string_s5 v1 v2 v3).bind fun v4=>some (decide (0 ≤ v4))
theorem slices_ContainsFunc_string_string_s5_ok (v1 : List (List UInt8)) (v2 : List ApiClass) (v3 : List (List UInt8 × Int)) {r : Bool} (h : slices_ContainsFunc_string_string_s5 v1 v2 v3 = some r) : PureC Tryz.prog 59 [.isl 1 (List.map rStr v1),.fn (.func 106) [] [.ipt 1 [[.ipt 2 [[.isl 6 (List.map rApiClass v2),.imp (List.map (rKV (fun x=>iA x)) v3)]] 0 0]] 0 0]] (bA r):=by
 refine pure_fn Tryz.func59 j0 (by kernel_rfl) j0 j0 ?_
 unfold slices_ContainsFunc_string_string_s5 at h
 refine rg j0<|u<|asg j0<|r_nil ?_
 obtain ⟨v4,q1,h⟩:=bs h
 refine rg j0<|u<|mv j0<|u<|mv j0<|u<|pc (slices_IndexFunc_string_string_s5_ok v1 v2 v3 q1) j0 j0 j0<|u<|geq ti3 j0 j0<|u<|asg j0<|r_nil ?_
 refine sw_ret ?_
 obtain rfl:=sm h
 exact ⟨_,j0,[],ci j0,j0,j5,j0,j1⟩
def hier_Hier_fits_k10 : Option (Bool) :=
  some true
def hier_Hier_fits_k8 (v30 : Int) (v49 : List (List UInt8)) : Option (Sum ((List (List UInt8)) × Int) (Sum (Unit) (Bool))) :=
  some (.inl (v49,(IntKind.i64.wrap (v30 + 1))))
def hier_Hier_fits_j6 (v43 : Int) (v48 : List (List UInt8)) : Option (Sum ((List (List UInt8)) × Int) (Sum ((List (List UInt8))) (Bool))) :=
  some (.inl (v48,(IntKind.i64.wrap (v43 + 1))))
def hier_Hier_fits_l7 (v34 : (List (List UInt8))) (v42 : List (List UInt8)) (v43 : Int) : Option (Sum ((List (List UInt8)) × Int) (Sum ((List (List UInt8))) (Bool))) :=
  cond (decide (v43 < ((List.length v34) : Int))) ((idx v34 v43).bind fun v44=>(cond (!(v44 == [])) ((slices_Contains_string_string v42 v44).bind fun v45=>some (!v45)) (some false)).bind fun v46=>cond v46 ((appP 16 v42 [v44]).bind fun v47=>hier_Hier_fits_j6 v43 v47) (hier_Hier_fits_j6 v43 v42)) (some (.inr (.inl v42)))
def hier_Hier_fits_l9 (v1 : List ApiClass) (v2 : List (List UInt8 × Int)) (v3 : ApiClass) (v29 : List (List UInt8)) (v30 : Int) : Option (Sum ((List (List UInt8)) × Int) (Sum (Unit) (Bool))) :=
  cond (decide (v30 < ((List.length v29) : Int))) ((idx v29 v30).bind fun v31=>cond (v31 == v3.Name) (some (.inr (.inr false))) ((idx v29 v30).bind fun v32=>(hier_Hier_get v1 v2 v32).bind fun v33=>(hier_above v33).bind fun v34=>(loopP (fun z=>hier_Hier_fits_l7 v34 z.1 z.2) (v29,0)).bind fun o=>leave o (fun b=>hier_Hier_fits_k8 v30 b) (fun r=>some (.inr (.inr r))))) (some (.inr (.inl ())))
def hier_Hier_fits (v1 : List ApiClass) (v2 : List (List UInt8 × Int)) (v3 : ApiClass) : Option (Bool) :=
  (hier_Hier_get v1 v2 v3.Super).bind fun v4=>(cond v4.Interface (some true) ((slices_ContainsFunc_string_string_s5 v3.Impl v1 v2).bind fun v5=>some v5)).bind fun v6=>cond v6 (some false) ((hier_above v3).bind fun v7=>(loopP (fun z=>hier_Hier_fits_l9 v1 v2 v3 z.1 z.2) (v7,0)).bind fun o=>leave o (fun b=>hier_Hier_fits_k10) some)
theorem hier_Hier_fits_ok (v1 : List ApiClass) (v2 : List (List UInt8 × Int)) (v3 : ApiClass) {r : Bool} (h : hier_Hier_fits v1 v2 v3 = some r) : PureC Tryz.prog 63 [.ipt 2 [[.isl 6 (List.map rApiClass v1),.imp (List.map (rKV (fun x=>iA x)) v2)]] 0 0,.agg [sA v3.Name,sA v3.Super,bA v3.Interface,.isl 1 (List.map rStr v3.Impl),.isl 3 (List.map rApiField v3.Fields),.isl 10 (List.map rApiMethod v3.Methods)]] (bA r):=by
 refine pure_fn Tryz.func63 j0 (by kernel_rfl) j0 j0 ?_
 unfold hier_Hier_fits at h
 refine rg j0<|u<|bx 0 1 j0 j0 j0 j0<|u<|bx 1 6 j0 j0 j0 j0<|u<|asg j0<|r_nil ?_
 refine sw_seq ?_
 obtain ⟨v4,q1,h⟩:=bs h
 obtain ⟨v6,q4,h⟩:=bs h
 refine rg j0<|u<|ld ti25 j0 j0<|u<|fa ti42 j0 j0 j0<|u<|ld ti9 j0 j0<|u<|pc (hier_Hier_get_ok v1 v2 v3.Super q1) j0 j0 j0<|u<|fdV j0 j0<|u<|mv j0<|r_or (x:=v6) (j:=5) 4 j0 j0 j0 j0 j0 gpn (fun hb2=>by replace q4:=bF hb2 q4; obtain ⟨v5,q3,q4⟩:=bs q4; obtain rfl:=sm q4; exact g j0 hb2<|fa ti42 j0 j0 j0<|g j0 hb2<|ld ti32 j0 j0<|g j0 hb2<|mf j0 j0<|g j0 hb2<|pcs (slices_ContainsFunc_string_string_s5_ok v3.Impl v1 v2 q3) j0 j0 (.cons (si j0) (.cons (sealFn j5 ⟨(sealBox j0 ⟨(si j0),j5⟩),j5⟩) .nil)) plainB<|r_nil (eg [15,16,17,18] 4 j0 j0 j0 j0)) (fun hb=>(sm (bT hb q4)).symm)<|r_nil ?_
 refine sw_cond j0 (fun hc5=>?_) (fun hc5=>?_)
 ·
  replace h:=bT hc5 h
  refine rg j0<|u<|asg j0<|r_nil ?_
  refine sw_ret ?_
  obtain rfl:=sm h
  exact ⟨_,j0,[],ci j0,j0,j5,j0,j1⟩
 ·
  replace h:=bF hc5 h
  refine sw_skip ?_
  obtain ⟨v7,q6,h⟩:=bs h
  refine rg j0<|u<|ld ti42 j0 j0<|u<|sc [] (hier_above_ok v3 q6) j0 j0 j0 j0 ⟨(rnI j0),j5⟩ j5<|r_can (env0:=[(2,.mpt 0 0 0),(3,.mpt 1 0 0),(21,.msl 2 0 (List.length v7))]) (st0:=[some (1,[[.ipt 2 [[.isl 6 (List.map rApiClass v1),.imp (List.map (rKV (fun x=>iA x)) v2)]] 0 0]]),some (6,[[sA v3.Name,sA v3.Super,bA v3.Interface,.isl 1 (List.map rStr v3.Impl),.isl 3 (List.map rApiField v3.Fields),.isl 10 (List.map rApiMethod v3.Methods)]]),some (1,List.map rStr v7)]) ⟨[.old 0,.old 1,.old 2],cv j0 (.mpt j0)<|cv j0 (.mpt j0)<|cv j0 (.msl j0)<|cn,j0,⟨⟨_,j0,rsOne ⟨ci j0,j5⟩⟩,⟨_,j0,rsOne ⟨ci j0,ci j0,ci j0,ci j0,ci j0,ci j0,j5⟩⟩,⟨_,j0,rsMap (fun _=>j0)⟩,j5⟩,j0,j1⟩<|u<|asg j0<|r_nil ?_
  refine sw_seq ?_
  refine rg j0<|u<|asg j0<|r_nil ?_
  obtain ⟨o,ho,h⟩:=bs h
  refine sw_lpl (X:=(List (List UInt8)) × Int) (B:=Unit) (R:=Bool) (fun z=>[(2,.mpt 0 0 0),(3,.mpt 1 0 0),(5,.msl 2 0 (List.length z.1)),(6,iA z.2)]) (fun z=>[some (1,[[.ipt 2 [[.isl 6 (List.map rApiClass v1),.imp (List.map (rKV (fun x=>iA x)) v2)]] 0 0]]),some (6,[[sA v3.Name,sA v3.Super,bA v3.Interface,.isl 1 (List.map rStr v3.Impl),.isl 3 (List.map rApiField v3.Fields),.isl 10 (List.map rApiMethod v3.Methods)]]),some (1,List.map rStr z.1)]) (fun b=>[]) (fun b=>[]) (fun r env st=>PostF Tryz.prog Tryz.f63 0 (bA r) [] env st) ho ⟨[.old 0,.old 1,.old 2],cv j0 (.mpt j0)<|cv j0 (.mpt j0)<|cv j0 (.msl j0)<|ce j0 j0<|cn,j0,⟨⟨_,j0,rsOne ⟨ci j0,j5⟩⟩,⟨_,j0,rsOne ⟨ci j0,ci j0,ci j0,ci j0,ci j0,ci j0,j5⟩⟩,⟨_,j0,rsMap (fun _=>j0)⟩,j5⟩,j0,j1⟩ ?_ ?_ ?_
  ·
   rintro ⟨v29,v30⟩ r h
   replace h : hier_Hier_fits_l9 v1 v2 v3 v29 v30 = some r:=h
   unfold hier_Hier_fits_l9 at h
   refine sw_seq ?_
   refine rg j0<|u<|mv j0<|u<|mv j0<|u<|lnM ti32 j0 j0 j0<|u<|lss ti3 j0 j0<|r_nil ?_
   refine sw_cond j0 (fun hc27=>?_) (fun hc27=>?_)
   ·
    replace h:=bT hc27 h
    refine sw_skip ?_
    refine sw_seq ?_
    refine sw_block ?_
    refine sw_seq ?_
    obtain ⟨v31,q28,h⟩:=bs h
    refine rd [(2,.mpt 0 0 0),(3,.mpt 1 0 0),(5,.msl 2 0 (List.length v29)),(6,iA v30),(34,bA (v31 == v3.Name))] [some (1,[[.ipt 2 [[.isl 6 (List.map rApiClass v1),.imp (List.map (rKV (fun x=>iA x)) v2)]] 0 0]]),some (6,[[sA v3.Name,sA v3.Super,bA v3.Interface,.isl 1 (List.map rStr v3.Impl),.isl 3 (List.map rApiField v3.Fields),.isl 10 (List.map rApiMethod v3.Methods)]]),some (1,List.map rStr v29)] [] [6,5,4,3,2,1,0] [(34,bA (v31 == v3.Name)),(33,sA v3.Name),(32,.mpt 1 0 0),(31,sA v31),(30,.mpt 2 (Int.toNat v30) 0),(29,iA v30),(28,.msl 2 0 (List.length v29))] 0 (by kernel_rfl) (by kernel_rfl) j0 (by kernel_rfl) (dt0 ⟨(fun _=>pa j0 j0 j0 j0 (seq ti9 j0 j0<|j4)),(fun _=>pa j0 j0 j0 j0 (ld ti9 j0 j0<|j4)),(fun _=>pa j0 j0 j0 j0 (fa ti42 j0 j0 j0<|j4)),(fun _=>pa j0 j0 j0 j0 (ldM ti9 j0 j0 (idx_some q28).2.2 j0<|j4)),(fun _=>pa j0 j0 j0 j0 (ixM ti32 j0 ti9 j0 j0 j0 j0 q28<|j4)),(fun _=>pa j0 j0 j0 j0 (mv j0<|j4)),(fun _=>pa j0 j0 j0 j0 (mv j0<|j4)),j5⟩ (by kernel_rfl) j0 ⟨[.old 0,.old 1,.old 2],cv j0 (.mpt j0)<|cv j0 (.mpt j0)<|cv j0 (.msl j0)<|ce j0 j0<|ce j0 j0<|cn,j0,⟨⟨_,j0,rsOne ⟨ci j0,j5⟩⟩,⟨_,j0,rsOne ⟨ci j0,ci j0,ci j0,ci j0,ci j0,ci j0,j5⟩⟩,⟨_,j0,rsMap (fun _=>j0)⟩,j5⟩,j0,j1⟩) ?_
    refine sw_cond j0 (fun hc29=>?_) (fun hc29=>?_)
    ·
     replace h:=bT hc29 h
     refine rg j0<|u<|asg j0<|r_nil ?_
     refine sw_ret ?_
     obtain rfl:=sm h
     exact ⟨_,j0,_,j0,[],ci j0,j0,j5,j0,j1⟩
    ·
     replace h:=bF hc29 h
     refine sw_skip ?_
     obtain ⟨v32,q30,h⟩:=bs h
     obtain ⟨v33,q31,h⟩:=bs h
     obtain ⟨v34,q32,h⟩:=bs h
     refine rd [(2,.mpt 0 0 0),(3,.mpt 1 0 0),(5,.msl 2 0 (List.length v29)),(6,iA v30),(41,.msl 3 0 (List.length v34)),(42,iA ((List.length v34) : Int)),(43,iA 0)] [some (1,[[.ipt 2 [[.isl 6 (List.map rApiClass v1),.imp (List.map (rKV (fun x=>iA x)) v2)]] 0 0]]),some (6,[[sA v3.Name,sA v3.Super,bA v3.Interface,.isl 1 (List.map rStr v3.Impl),.isl 3 (List.map rApiField v3.Fields),.isl 10 (List.map rApiMethod v3.Methods)]]),some (1,List.map rStr v29),some (1,List.map rStr v34)] [6] [8,5,4,3,2,1,0] [(43,iA 0),(40,.agg [sA v33.Name,sA v33.Super,bA v33.Interface,.isl 1 (List.map rStr v33.Impl),.isl 3 (List.map rApiField v33.Fields),.isl 10 (List.map rApiMethod v33.Methods)]),(39,sA v32),(38,.mpt 2 (Int.toNat v30) 0),(37,iA v30),(36,.msl 2 0 (List.length v29)),(35,.ipt 2 [[.isl 6 (List.map rApiClass v1),.imp (List.map (rKV (fun x=>iA x)) v2)]] 0 0)] 1 (by kernel_rfl) (by kernel_rfl) j0 (by kernel_rfl) (dtS ⟨(fun _=>pa j0 j0 j0 j0 (mv j0<|j4)),(fun _=>pa j0 j0 j0 j0 (pc (hier_Hier_get_ok v1 v2 v32 q31) j0 j0 j0<|j4)),(fun _=>pa j0 j0 j0 j0 (ldM ti9 j0 j0 (idx_some q30).2.2 j0<|j4)),(fun _=>pa j0 j0 j0 j0 (ixM ti32 j0 ti9 j0 j0 j0 j0 q30<|j4)),(fun _=>pa j0 j0 j0 j0 (mv j0<|j4)),(fun _=>pa j0 j0 j0 j0 (mv j0<|j4)),(fun _=>pa j0 j0 j0 j0 (ld ti25 j0 j0<|j4)),j5⟩ (by kernel_rfl) j0 ⟨(fun _ _=>⟨_,j0,j0,sc [] (hier_above_ok v33 q32) j0 j0 j0 j0 ⟨(rnI j0),j5⟩ j5<|⟨(.msl 3 0 (List.length v34)),[7],[(42,iA ((List.length v34) : Int)),(41,.msl 3 0 (List.length v34))],j0,j0,by kernel_rfl,j0,dt0 ⟨(fun _=>pa j0 j0 j0 j0 (lnM ti32 j0 j0 j0<|j4)),(fun _=>pa j0 j0 j0 j0 (mv j0<|j4)),(fun h=>by cases h),(fun _=>pa j0 j0 j0 j0 (ldM ti9 j0 j0 (idx_some q30).2.2 j0<|j4)),(fun _=>pa j0 j0 j0 j0 (ixM ti32 j0 ti9 j0 j0 j0 j0 q30<|j4)),(fun _=>pa j0 j0 j0 j0 (mv j0<|j4)),(fun _=>pa j0 j0 j0 j0 (mv j0<|j4)),(fun _=>pa j0 j0 j0 j0 (ld ti25 j0 j0<|j4)),j5⟩ (by kernel_rfl) j0 ⟨[.old 0,.old 1,.old 2,.old 3],cv j0 (.mpt j0)<|cv j0 (.mpt j0)<|cv j0 (.msl j0)<|ce j0 j0<|cv j0 (.msl j0)<|ce j0 j0<|ce j0 j0<|cn,j0,⟨⟨_,j0,rsOne ⟨ci j0,j5⟩⟩,⟨_,j0,rsOne ⟨ci j0,ci j0,ci j0,ci j0,ci j0,ci j0,j5⟩⟩,⟨_,j0,rsMap (fun _=>j0)⟩,⟨_,j0,rsMap (fun _=>j0)⟩,j5⟩,j0,j1⟩⟩⟩),j5⟩) ?_
     obtain ⟨o,ho,h⟩:=bs h
     refine sw_lpl (X:=(List (List UInt8)) × Int) (B:=(List (List UInt8))) (R:=Bool) (fun z=>[(2,.mpt 0 0 0),(3,.mpt 1 0 0),(5,.msl 2 0 (List.length z.1)),(6,iA v30),(41,.msl 3 0 (List.length v34)),(42,iA ((List.length v34) : Int)),(43,iA z.2)]) (fun z=>[some (1,[[.ipt 2 [[.isl 6 (List.map rApiClass v1),.imp (List.map (rKV (fun x=>iA x)) v2)]] 0 0]]),some (6,[[sA v3.Name,sA v3.Super,bA v3.Interface,.isl 1 (List.map rStr v3.Impl),.isl 3 (List.map rApiField v3.Fields),.isl 10 (List.map rApiMethod v3.Methods)]]),some (1,List.map rStr z.1),some (1,List.map rStr v34)]) (fun b=>[(2,.mpt 0 0 0),(3,.mpt 1 0 0),(5,.msl 2 0 (List.length b)),(6,iA v30)]) (fun b=>[some (1,[[.ipt 2 [[.isl 6 (List.map rApiClass v1),.imp (List.map (rKV (fun x=>iA x)) v2)]] 0 0]]),some (6,[[sA v3.Name,sA v3.Super,bA v3.Interface,.isl 1 (List.map rStr v3.Impl),.isl 3 (List.map rApiField v3.Fields),.isl 10 (List.map rApiMethod v3.Methods)]]),some (1,List.map rStr b)]) (fun r env st=>PostF Tryz.prog Tryz.f63 0 (bA r) [] env st) ho ⟨[.old 0,.old 1,.old 2,.old 3],cv j0 (.mpt j0)<|cv j0 (.mpt j0)<|cv j0 (.msl j0)<|ce j0 j0<|cv j0 (.msl j0)<|ce j0 j0<|ce j0 j0<|cn,j0,⟨⟨_,j0,rsOne ⟨ci j0,j5⟩⟩,⟨_,j0,rsOne ⟨ci j0,ci j0,ci j0,ci j0,ci j0,ci j0,j5⟩⟩,⟨_,j0,rsMap (fun _=>j0)⟩,⟨_,j0,rsMap (fun _=>j0)⟩,j5⟩,j0,j1⟩ ?_ ?_ ?_
     ·
      rintro ⟨v42,v43⟩ r h
      replace h : hier_Hier_fits_l7 v34 v42 v43 = some r:=h
      unfold hier_Hier_fits_l7 at h
      refine rg j0<|u<|lss ti3 j0 j0<|r_nil ?_
      refine sw_seq ?_
      refine sw_cond j0 (fun hc40=>?_) (fun hc40=>?_)
      ·
       replace h:=bT hc40 h
       refine sw_skip ?_
       refine sw_meet (X:=(List (List UInt8))) (fun z=>[(2,.mpt 0 0 0),(3,.mpt 1 0 0),(5,.msl 2 0 (List.length z)),(6,iA v30),(41,.msl 3 0 (List.length v34)),(42,iA ((List.length v34) : Int)),(43,iA v43)]) (fun z=>[some (1,[[.ipt 2 [[.isl 6 (List.map rApiClass v1),.imp (List.map (rKV (fun x=>iA x)) v2)]] 0 0]]),some (6,[[sA v3.Name,sA v3.Super,bA v3.Interface,.isl 1 (List.map rStr v3.Impl),.isl 3 (List.map rApiField v3.Fields),.isl 10 (List.map rApiMethod v3.Methods)]]),some (1,List.map rStr z),some (1,List.map rStr v34)]) (fun z=>hier_Hier_fits_j6 v43 z = some r) ?_ ?_
       ·
        refine sw_block ?_
        obtain ⟨v44,q41,h⟩:=bs h
        refine rg j0<|u<|ixM ti32 j0 ti9 j0 j0 j0 j0 q41<|u<|ldM ti9 j0 j0 (idx_some q41).2.2 j0<|u<|asg j0<|r_nil ?_
        obtain ⟨v46,q44,h⟩:=bs h
        refine rg j0<|u<|mv j0<|u<|sne ti9 j0 j0<|u<|mv j0<|r_and (x:=v46) (j:=2) 4 j0 j0 j0 j0 j0 gpn (fun hb42=>by replace q44:=bT hb42 q44; obtain ⟨v45,q43,q44⟩:=bs q44; obtain rfl:=sm q44; exact g j0 hb42<|mv j0<|g j0 hb42<|mv j0<|g j0 hb42<|pcs (slices_Contains_string_string_ok v42 v44 q43) j0 j0 (.cons (sealM j0 (fun _=>j0)) (.cons (si j0) .nil)) plainB<|g j0 hb42<|nt j0<|r_nil (eg [50,51,52,53] 4 j0 j0 j0 j0)) (fun hb=>(sm (bF hb q44)).symm)<|r_nil ?_
        refine sw_cond j0 (fun hc45=>?_) (fun hc45=>?_)
        ·
         replace h:=bT hc45 h
         obtain ⟨v47,q46,h⟩:=bs h
         exact rl j0<|u<|mv j0<|u<|mv j0<|u<|bl 4 ti32 j0 ti9 j0 (by decide) (by decide) j0 j0 j0<|u<|apM 5 ti32 j0 ti9 j0 j0 (by decide) ti32 j0 j0 j0 j0 (roX (f:=rStr) (z:=[v44]) j0 j0) (fun _=>j0) j0 q46<|u<|asg j0<|r_nil (⟨v47,h,[.old 0,.old 1,.old 5,.old 3],cv j0 (.mpt j0)<|cv j0 (.mpt j0)<|cv j0 (.msl j0)<|ce j0 j0<|cv j0 (.msl j0)<|ce j0 j0<|ce j0 j0<|cn,j0,⟨⟨_,j0,rsOne ⟨ci j0,j5⟩⟩,⟨_,j0,rsOne ⟨ci j0,ci j0,ci j0,ci j0,ci j0,ci j0,j5⟩⟩,⟨_,j0,rsMap (fun _=>j0)⟩,⟨_,j0,rsMap (fun _=>j0)⟩,j5⟩,j0,j1⟩)
        ·
         replace h:=bF hc45 h
         refine sw_skip ?_
         exact ⟨v42,h,[.old 0,.old 1,.old 2,.old 3],cv j0 (.mpt j0)<|cv j0 (.mpt j0)<|cv j0 (.msl j0)<|ce j0 j0<|cv j0 (.msl j0)<|ce j0 j0<|ce j0 j0<|cn,j0,⟨⟨_,j0,rsOne ⟨ci j0,j5⟩⟩,⟨_,j0,rsOne ⟨ci j0,ci j0,ci j0,ci j0,ci j0,ci j0,j5⟩⟩,⟨_,j0,rsMap (fun _=>j0)⟩,⟨_,j0,rsMap (fun _=>j0)⟩,j5⟩,j0,j1⟩
       ·
        rintro v48 h
        replace h : hier_Hier_fits_j6 v43 v48 = some r:=h
        unfold hier_Hier_fits_j6 at h
        refine rl j0<|u<|add ti3 j0 j0<|u<|mv j0<|r_nil ?_
        obtain rfl:=sm h
        exact ⟨_,j0,[.old 0,.old 1,.old 2,.old 3],cv j0 (.mpt j0)<|cv j0 (.mpt j0)<|cv j0 (.msl j0)<|ce j0 j0<|cv j0 (.msl j0)<|ce j0 j0<|ce j0 j0<|cn,j0,⟨⟨_,j0,rsOne ⟨ci j0,j5⟩⟩,⟨_,j0,rsOne ⟨ci j0,ci j0,ci j0,ci j0,ci j0,ci j0,j5⟩⟩,⟨_,j0,rsMap (fun _=>j0)⟩,⟨_,j0,rsMap (fun _=>j0)⟩,j5⟩,j0,j1⟩
      ·
       replace h:=bF hc40 h
       refine sw_exit ?_
       obtain rfl:=sm h
       exact ⟨j0,_,j0,[.old 0,.old 1,.old 2],cv j0 (.mpt j0)<|cv j0 (.mpt j0)<|cv j0 (.msl j0)<|ce j0 j0<|cn,j0,⟨⟨_,j0,rsOne ⟨ci j0,j5⟩⟩,⟨_,j0,rsOne ⟨ci j0,ci j0,ci j0,ci j0,ci j0,ci j0,j5⟩⟩,⟨_,j0,rsMap (fun _=>j0)⟩,j5⟩,j0,j1⟩
     ·
      rintro v49 rfl
      replace h : hier_Hier_fits_k8 v30 v49 = some r:=h
      unfold hier_Hier_fits_k8 at h
      refine ow_intro ?_
      refine rl j0<|u<|mv j0<|u<|add ti3 j0 j0<|u<|asg j0<|r_nil ?_
      obtain rfl:=sm h
      exact ⟨_,j0,[.old 0,.old 1,.old 2],cv j0 (.mpt j0)<|cv j0 (.mpt j0)<|cv j0 (.msl j0)<|ce j0 j0<|cn,j0,⟨⟨_,j0,rsOne ⟨ci j0,j5⟩⟩,⟨_,j0,rsOne ⟨ci j0,ci j0,ci j0,ci j0,ci j0,ci j0,j5⟩⟩,⟨_,j0,rsMap (fun _=>j0)⟩,j5⟩,j0,j1⟩
     ·
      rintro r' rfl env st hp
      obtain rfl:=sm h
      exact ⟨_,j0,hp⟩
   ·
    replace h:=bF hc27 h
    refine sw_exit ?_
    obtain rfl:=sm h
    exact ⟨j0,_,j0,[],cn,j0,j5,j0,j1⟩
  ·
   rintro ⟨⟩ rfl
   replace h : hier_Hier_fits_k10 = some r:=h
   unfold hier_Hier_fits_k10 at h
   refine ow_intro ?_
   refine rg j0<|u<|asg j0<|r_nil ?_
   refine sw_ret ?_
   obtain rfl:=sm h
   exact ⟨_,j0,[],ci j0,j0,j5,j0,j1⟩
  ·
   rintro r' rfl env st hp
   obtain rfl:=sm h
   exact hp
def hier_New_k8 (v24 : List ApiClass) (v25 : List (List UInt8 × Int)) : Option ((Option HierHier) × Int) :=
  some ((some (HierHier.mk v24 v25)),0)
def hier_New_l7 (v1 : List ApiClass) (v24 : List ApiClass) (v25 : List (List UInt8 × Int)) (v37 : Int) : Option (Sum (Int) (Sum (Unit) ((Option HierHier) × Int))) :=
  cond (decide (v37 < (List.length v1 : Int))) ((idx v1 v37).bind fun v38=>(hier_Hier_fits v24 v25 v38).bind fun v39=>cond (!v39) (some (.inr (.inr (none,1)))) (some (.inl (IntKind.i64.wrap (v37 + 1))))) (some (.inr (.inl ())))
def hier_New_k6 (v1 : List ApiClass) (v24 : List ApiClass) (v25 : List (List UInt8 × Int)) : Option ((Option HierHier) × Int) :=
  (loopP (fun z=>hier_New_l7 v1 v24 v25 z) 0).bind fun o=>leave o (fun b=>hier_New_k8 v24 v25) some
def hier_New_l5 (v1 : List ApiClass) (v24 : List ApiClass) (v25 : List (List UInt8 × Int)) (v30 : Int) : Option (Sum (Int) (Sum (Unit) ((Option HierHier) × Int))) :=
  cond (decide (v30 < (List.length v1 : Int))) ((idx v1 v30).bind fun v31=>(hier_above v31).bind fun v32=>(slices_ContainsFunc_string_string_s4 v32 v24 v25).bind fun v33=>cond v33 (some (.inr (.inr (none,4)))) (some (.inl (IntKind.i64.wrap (v30 + 1))))) (some (.inr (.inl ())))
def hier_New_k4 (v1 : List ApiClass) (v24 : List ApiClass) (v25 : List (List UInt8 × Int)) : Option ((Option HierHier) × Int) :=
  (loopP (fun z=>hier_New_l5 v1 v24 v25 z) 0).bind fun o=>leave o (fun b=>hier_New_k6 v1 v24 v25) some
def hier_New_l3 (v1 : List ApiClass) (v17 : List ApiClass) (v18 : List (List UInt8 × Int)) (v19 : Int) : Option (Sum ((List ApiClass) × (List (List UInt8 × Int)) × Int) (Sum ((List ApiClass) × (List (List UInt8 × Int))) ((Option HierHier) × Int))) :=
  cond (decide (v19 < (List.length v1 : Int))) ((idx v1 v19).bind fun v20=>(cond (Option.isSome (mapGet v20.Name v18)) (some true) ((class_May v20).bind fun v21=>some (!v21))).bind fun v22=>cond v22 (some (.inr (.inr (none,1)))) ((appP 112 v17 [v20]).bind fun v23=>some (.inl (v23,(mapPut v20.Name ((List.length v17) : Int) v18),(IntKind.i64.wrap (v19 + 1)))))) (some (.inr (.inl (v17,v18))))
def hier_New_k2 (v1 : List ApiClass) (v2 : (List ApiClass)) (v9 : List (List UInt8 × Int)) : Option ((Option HierHier) × Int) :=
  (loopP (fun z=>hier_New_l3 v1 z.1 z.2.1 z.2.2) (v2,v9,0)).bind fun o=>leave o (fun b=>hier_New_k4 v1 b.1 b.2) some
def hier_New_l1 (v2 : (List ApiClass)) (v6 : List (List UInt8 × Int)) (v7 : Int) : Option (Sum ((List (List UInt8 × Int)) × Int) (Sum ((List (List UInt8 × Int))) ((Option HierHier) × Int))) :=
  cond (decide (v7 < ((List.length v2) : Int))) ((idx v2 v7).bind fun v8=>some (.inl ((mapPut v8.Name v7 v6),(IntKind.i64.wrap (v7 + 1))))) (some (.inr (.inl v6)))
def hier_New (v1 : List ApiClass) : Option ((Option HierHier) × Int) :=
  cond (decide (16 < (List.length v1 : Int))) (some (none,3)) ((hier_given).bind fun v2=>(loopP (fun z=>hier_New_l1 v2 z.1 z.2) ([],0)).bind fun o=>leave o (fun b=>hier_New_k2 v1 v2 b) some)
theorem hier_New_ok (v1 : List ApiClass) {r : (Option HierHier) × Int} (h : hier_New v1 = some r) : PureC Tryz.prog 20 [.isl 6 (List.map rApiClass v1)] (.tup [optP 2 rHierHier r.1,iA r.2]):=by
 refine pure_fn Tryz.func20 j0 (by kernel_rfl) j0 (immTup (immC (immP (fun _=>j0)) (j0))) ?_
 unfold hier_New at h
 refine rg j0<|u<|asg j0<|u<|asg j0<|r_nil ?_
 refine sw_seq ?_
 refine rg j0<|u<|mv j0<|u<|lnI ti22 j0 j0<|u<|gtr ti3 j0 j0<|r_nil ?_
 refine sw_cond j0 (fun hc1=>?_) (fun hc1=>?_)
 ·
  replace h:=bT hc1 h
  refine rg j0<|u<|asg j0<|u<|asg j0<|r_nil ?_
  refine sw_ret ?_
  obtain rfl:=sm h
  exact ⟨_,j0,[],rsTup ⟨(ci j0),(ci j0),j5⟩,j0,j5,j0,j1⟩
 ·
  replace h:=bF hc1 h
  refine sw_skip ?_
  obtain ⟨v2,q2,h⟩:=bs h
  refine rg j0<|u<|sc [] (hier_given_ok q2) j0 j0 j0 j0 j5 j5<|r_can (env0:=[(0,.isl 6 (List.map rApiClass v1)),(18,.msl 0 0 (List.length v2))]) (st0:=[some (6,List.map rApiClass v2)]) ⟨[.old 0],ce j0 j0<|cv j0 (.msl j0)<|cn,j0,⟨⟨_,j0,rsMap (fun _=>j0)⟩,j5⟩,j0,j1⟩<|u<|mmk (e:=3) 1 j0 j0<|u<|bd ti91 j0 j0 j0<|u<|bx 2 2 j0 j0 j0 j0<|u<|al 3 ti25 j0<|u<|sto ti25 j0 j0 j0<|r_nil ?_
  refine sw_seq ?_
  refine rg j0<|u<|ld ti25 j0 j0<|u<|nc j0 j0<|u<|fa ti91 j0 j0 j0<|u<|ld ti22 j0 j0<|u<|lnM ti22 j0 j0 j0<|u<|mv j0<|r_nil ?_
  obtain ⟨o,ho,h⟩:=bs h
  refine sw_lpl (X:=(List (List UInt8 × Int)) × Int) (B:=(List (List UInt8 × Int))) (R:=(Option HierHier) × Int) (fun z=>[(0,.isl 6 (List.map rApiClass v1)),(4,.mpt 0 0 0),(25,.msl 2 0 (List.length v2)),(26,iA ((List.length v2) : Int)),(27,iA z.2)]) (fun z=>[some (1,[[.mpt 1 0 0]]),some (2,[[.msl 2 0 (List.length v2),.mmp 3]]),some (6,List.map rApiClass v2),some (2,List.map (rKV (fun x=>iA x)) z.1)]) (fun b=>[(0,.isl 6 (List.map rApiClass v1)),(4,.mpt 0 0 0)]) (fun b=>[some (1,[[.mpt 1 0 0]]),some (2,[[.msl 2 0 (List.length v2),.mmp 3]]),some (6,List.map rApiClass v2),some (2,List.map (rKV (fun x=>iA x)) b)]) (fun r env st=>PostF Tryz.prog Tryz.f20 0 (.tup [optP 2 rHierHier r.1,iA r.2]) [] env st) ho ⟨[.old 3,.old 2,.old 0,.old 1],ce j0 j0<|cv j0 (.mpt j0)<|cv j0 (.msl j0)<|ce j0 j0<|ce j0 j0<|cn,j0,⟨⟨_,j0,rsOne ⟨.mpt j0,j5⟩⟩,⟨_,j0,rsOne ⟨.msl j0,.mmp j0,j5⟩⟩,⟨_,j0,rsMap (fun _=>j0)⟩,⟨_,j0,rsMap (fun _=>j0)⟩,j5⟩,j0,j1⟩ ?_ ?_ ?_
  ·
   rintro ⟨v6,v7⟩ r h
   replace h : hier_New_l1 v2 v6 v7 = some r:=h
   unfold hier_New_l1 at h
   refine rg j0<|u<|lss ti3 j0 j0<|r_nil ?_
   refine sw_seq ?_
   refine sw_cond j0 (fun hc5=>?_) (fun hc5=>?_)
   ·
    replace h:=bT hc5 h
    refine sw_skip ?_
    refine sw_seq ?_
    refine sw_block ?_
    obtain ⟨v8,q6,h⟩:=bs h
    refine rg j0<|u<|mv j0<|u<|ixM ti22 j0 ti42 j0 j0 j0 j0 q6<|u<|ldM ti42 j0 j0 (idx_some q6).2.2 j0<|u<|al 4 ti42 j0<|u<|asg j0<|u<|sto ti42 j0 j0 j0<|r_nil ?_
    refine rdL [(0,.isl 6 (List.map rApiClass v1)),(4,.mpt 0 0 0),(25,.msl 2 0 (List.length v2)),(26,iA ((List.length v2) : Int)),(27,iA v7)] [some (1,[[.mpt 1 0 0]]),some (2,[[.msl 2 0 (List.length v2),.mmp 3]]),some (6,List.map rApiClass v2),some (2,List.map (rKV (fun x=>iA x)) (mapPut v8.Name v7 v6))] [7] [6,5,4,3,2,1,0] [(38,iA v7),(37,sA v8.Name),(36,.mpt 4 0 0),(35,.mmp 3),(34,.mpt 1 0 1),(33,.mpt 1 0 0),(32,.mpt 1 0 0)] 1 (by kernel_rfl) (by kernel_rfl) j0 (by kernel_rfl) (dtS ⟨(fun _=>pa j0 j0 j0 j0 (mv j0<|j4)),(fun _=>pa j0 j0 j0 j0 (ld ti9 j0 j0<|j4)),(fun _=>pa j0 j0 j0 j0 (fa ti42 j0 j0 j0<|j4)),(fun _=>pa j0 j0 j0 j0 (ld ti89 j0 j0<|j4)),(fun _=>pa j0 j0 j0 j0 (fa ti91 j0 j0 j0<|j4)),(fun _=>pa j0 j0 j0 j0 (nc j0 j0<|j4)),(fun _=>pa j0 j0 j0 j0 (ld ti25 j0 j0<|j4)),j5⟩ (by kernel_rfl) j0 ⟨(fun _ _=>⟨_,j0,j0,mup (v:=v7) (g:=(fun x=>iA x)) (l:=v6) (s:=v8.Name) j0 j0 j0 j0 j0 j0<|⟨.any,[],[],j0,j0,by kernel_rfl,j5,dt0 ⟨(fun h=>by cases h),(fun h=>by cases h),(fun h=>by cases h),(fun h=>by cases h),(fun h=>by cases h),(fun h=>by cases h),(fun h=>by cases h),j5⟩ (by kernel_rfl) j0 ⟨[.old 0,.old 1,.old 2,.old 3],ce j0 j0<|cv j0 (.mpt j0)<|cv j0 (.msl j0)<|ce j0 j0<|ce j0 j0<|cn,j0,⟨⟨_,j0,rsOne ⟨.mpt j0,j5⟩⟩,⟨_,j0,rsOne ⟨.msl j0,.mmp j0,j5⟩⟩,⟨_,j0,rsMap (fun _=>j0)⟩,⟨_,j0,rsMap (fun _=>j0)⟩,j5⟩,j0,j1⟩⟩⟩),j5⟩) ?_
    refine rl j0<|u<|add ti3 j0 j0<|u<|mv j0<|r_nil ?_
    obtain rfl:=sm h
    exact ⟨_,j0,[.old 0,.old 1,.old 2,.old 3],ce j0 j0<|cv j0 (.mpt j0)<|cv j0 (.msl j0)<|ce j0 j0<|ce j0 j0<|cn,j0,⟨⟨_,j0,rsOne ⟨.mpt j0,j5⟩⟩,⟨_,j0,rsOne ⟨.msl j0,.mmp j0,j5⟩⟩,⟨_,j0,rsMap (fun _=>j0)⟩,⟨_,j0,rsMap (fun _=>j0)⟩,j5⟩,j0,j1⟩
   ·
    replace h:=bF hc5 h
    refine sw_exit ?_
    obtain rfl:=sm h
    exact ⟨j0,_,j0,[.old 0,.old 1,.old 2,.old 3],ce j0 j0<|cv j0 (.mpt j0)<|cn,j0,⟨⟨_,j0,rsOne ⟨.mpt j0,j5⟩⟩,⟨_,j0,rsOne ⟨.msl j0,.mmp j0,j5⟩⟩,⟨_,j0,rsMap (fun _=>j0)⟩,⟨_,j0,rsMap (fun _=>j0)⟩,j5⟩,j0,j1⟩
  ·
   rintro v9 rfl
   replace h : hier_New_k2 v1 v2 v9 = some r:=h
   unfold hier_New_k2 at h
   refine ow_intro ?_
   refine sw_seq ?_
   refine rg j0<|u<|mv j0<|u<|lnI ti22 j0 j0<|u<|mv j0<|r_nil ?_
   obtain ⟨o,ho,h⟩:=bs h
   refine sw_lpl (X:=(List ApiClass) × (List (List UInt8 × Int)) × Int) (B:=(List ApiClass) × (List (List UInt8 × Int))) (R:=(Option HierHier) × Int) (fun z=>[(0,.isl 6 (List.map rApiClass v1)),(4,.mpt 0 0 0),(40,.isl 6 (List.map rApiClass v1)),(41,iA (List.length v1 : Int)),(42,iA z.2.2)]) (fun z=>[some (1,[[.mpt 1 0 0]]),some (2,[[.msl 2 0 (List.length z.1),.mmp 3]]),some (6,List.map rApiClass z.1),some (2,List.map (rKV (fun x=>iA x)) z.2.1)]) (fun b=>[(0,.isl 6 (List.map rApiClass v1)),(4,.mpt 0 0 0)]) (fun b=>[some (1,[[.mpt 1 0 0]]),some (2,[[.msl 2 0 (List.length b.1),.mmp 3]]),some (6,List.map rApiClass b.1),some (2,List.map (rKV (fun x=>iA x)) b.2)]) (fun r env st=>PostF Tryz.prog Tryz.f20 0 (.tup [optP 2 rHierHier r.1,iA r.2]) [] env st) ho ⟨[.old 0,.old 1,.old 2,.old 3],ce j0 j0<|cv j0 (.mpt j0)<|ce j0 j0<|ce j0 j0<|ce j0 j0<|cn,j0,⟨⟨_,j0,rsOne ⟨.mpt j0,j5⟩⟩,⟨_,j0,rsOne ⟨.msl j0,.mmp j0,j5⟩⟩,⟨_,j0,rsMap (fun _=>j0)⟩,⟨_,j0,rsMap (fun _=>j0)⟩,j5⟩,j0,j1⟩ ?_ ?_ ?_
   ·
    rintro ⟨v17,v18,v19⟩ r h
    replace h : hier_New_l3 v1 v17 v18 v19 = some r:=h
    unfold hier_New_l3 at h
    refine rg j0<|u<|lss ti3 j0 j0<|r_nil ?_
    refine sw_seq ?_
    refine sw_cond j0 (fun hc14=>?_) (fun hc14=>?_)
    ·
     replace h:=bT hc14 h
     refine sw_skip ?_
     refine sw_seq ?_
     refine sw_block ?_
     obtain ⟨v20,q15,h⟩:=bs h
     refine rg j0<|u<|ixI ti22 j0 ti42 j0 j0 j0 q15<|u<|ldI ti42 j0 (idx_some q15).2.2 j0<|u<|al 4 ti42 j0<|u<|sto ti42 j0 j0 j0<|r_nil ?_
     refine sw_seq ?_
     refine rd [(0,.isl 6 (List.map rApiClass v1)),(4,.mpt 0 0 0),(8,.mpt 4 0 0),(10,bA (Option.isSome (mapGet v20.Name v18))),(40,.isl 6 (List.map rApiClass v1)),(41,iA (List.length v1 : Int)),(42,iA v19)] [some (1,[[.mpt 1 0 0]]),some (2,[[.msl 2 0 (List.length v17),.mmp 3]]),some (6,List.map rApiClass v17),some (2,List.map (rKV (fun x=>iA x)) v18),some (6,[[sA v20.Name,sA v20.Super,bA v20.Interface,.isl 1 (List.map rStr v20.Impl),.isl 3 (List.map rApiField v20.Fields),.isl 10 (List.map rApiMethod v20.Methods)]])] [] [11,10,9,8,7,6,5,4,3,2,1,0] [(10,bA (Option.isSome (mapGet v20.Name v18))),(9,iA (Option.getD (mapGet v20.Name v18) 0)),(55,bA (Option.isSome (mapGet v20.Name v18))),(54,iA (Option.getD (mapGet v20.Name v18) 0)),(46,.tup [iA (Option.getD (mapGet v20.Name v18) 0),bA (Option.isSome (mapGet v20.Name v18))]),(53,.tup [iA (Option.getD (mapGet v20.Name v18) 0),bA (Option.isSome (mapGet v20.Name v18))]),(52,sA v20.Name),(51,.mpt 4 0 0),(50,.mmp 3),(49,.mpt 1 0 1),(48,.mpt 1 0 0),(47,.mpt 1 0 0)] 0 (by kernel_rfl) (by kernel_rfl) j0 (by kernel_rfl) (dt0 ⟨(fun _=>pa j0 j0 j0 j0 (asg j0<|j4)),(fun _=>pa j0 j0 j0 j0 (asg j0<|j4)),(fun _=>pa j0 j0 j0 j0 (ex j0 j0<|j4)),(fun _=>pa j0 j0 j0 j0 (ex j0 j0<|j4)),(fun _=>pa j0 j0 j0 j0 (mv j0<|j4)),(fun _=>pa j0 j0 j0 j0 (mlkT (g:=(fun x=>iA x)) (z:=0) (l:=v18) j0 ti3 j0 j0 j0 j0<|j4)),(fun _=>pa j0 j0 j0 j0 (ld ti9 j0 j0<|j4)),(fun _=>pa j0 j0 j0 j0 (fa ti42 j0 j0 j0<|j4)),(fun _=>pa j0 j0 j0 j0 (ld ti89 j0 j0<|j4)),(fun _=>pa j0 j0 j0 j0 (fa ti91 j0 j0 j0<|j4)),(fun _=>pa j0 j0 j0 j0 (nc j0 j0<|j4)),(fun _=>pa j0 j0 j0 j0 (ld ti25 j0 j0<|j4)),j5⟩ (by kernel_rfl) j0 ⟨[.old 0,.old 1,.old 2,.old 3,.old 4],ce j0 j0<|cv j0 (.mpt j0)<|cv j0 (.mpt j0)<|ce j0 j0<|ce j0 j0<|ce j0 j0<|ce j0 j0<|cn,j0,⟨⟨_,j0,rsOne ⟨.mpt j0,j5⟩⟩,⟨_,j0,rsOne ⟨.msl j0,.mmp j0,j5⟩⟩,⟨_,j0,rsMap (fun _=>j0)⟩,⟨_,j0,rsMap (fun _=>j0)⟩,⟨_,j0,rsOne ⟨ci j0,ci j0,ci j0,ci j0,ci j0,ci j0,j5⟩⟩,j5⟩,j0,j1⟩) ?_
     obtain ⟨v22,q18,h⟩:=bs h
     refine rg j0<|u<|mv j0<|u<|mv j0<|r_or (x:=v22) (j:=1) 3 j0 j0 j0 j0 j0 gpn (fun hb16=>by replace q18:=bF hb16 q18; obtain ⟨v21,q17,q18⟩:=bs q18; obtain rfl:=sm q18; exact g j0 hb16<|ld ti42 j0 j0<|g j0 hb16<|pc (class_May_ok v20 q17) j0 j0 j0<|g j0 hb16<|nt j0<|r_nil (eg [58,59,60] 3 j0 j0 j0 j0)) (fun hb=>(sm (bT hb q18)).symm)<|r_nil ?_
     refine sw_cond j0 (fun hc19=>?_) (fun hc19=>?_)
     ·
      replace h:=bT hc19 h
      refine rg j0<|u<|asg j0<|u<|asg j0<|r_nil ?_
      refine sw_ret ?_
      obtain rfl:=sm h
      exact ⟨_,j0,_,j0,[],rsTup ⟨(ci j0),(ci j0),j5⟩,j0,j5,j0,j1⟩
     ·
      replace h:=bF hc19 h
      refine sw_skip ?_
      refine rd [(0,.isl 6 (List.map rApiClass v1)),(4,.mpt 0 0 0),(8,.mpt 4 0 0),(40,.isl 6 (List.map rApiClass v1)),(41,iA (List.length v1 : Int)),(42,iA v19)] [some (1,[[.mpt 1 0 0]]),some (2,[[.msl 2 0 (List.length v17),.mmp 3]]),some (6,List.map rApiClass v17),some (2,List.map (rKV (fun x=>iA x)) (mapPut v20.Name ((List.length v17) : Int) v18)),some (6,[[sA v20.Name,sA v20.Super,bA v20.Interface,.isl 1 (List.map rStr v20.Impl),.isl 3 (List.map rApiField v20.Fields),.isl 10 (List.map rApiMethod v20.Methods)]])] [11] [10,9,8,7,6,5,4,3,2,1,0] [(72,iA ((List.length v17) : Int)),(71,.msl 2 0 (List.length v17)),(70,.mpt 1 0 0),(69,.mpt 1 0 0),(68,.mpt 1 0 0),(67,sA v20.Name),(66,.mpt 4 0 0),(65,.mmp 3),(64,.mpt 1 0 1),(63,.mpt 1 0 0),(62,.mpt 1 0 0)] 1 (by kernel_rfl) (by kernel_rfl) j0 (by kernel_rfl) (dtS ⟨(fun _=>pa j0 j0 j0 j0 (lnM ti22 j0 j0 j0<|j4)),(fun _=>pa j0 j0 j0 j0 (ld ti22 j0 j0<|j4)),(fun _=>pa j0 j0 j0 j0 (fa ti91 j0 j0 j0<|j4)),(fun _=>pa j0 j0 j0 j0 (nc j0 j0<|j4)),(fun _=>pa j0 j0 j0 j0 (ld ti25 j0 j0<|j4)),(fun _=>pa j0 j0 j0 j0 (ld ti9 j0 j0<|j4)),(fun _=>pa j0 j0 j0 j0 (fa ti42 j0 j0 j0<|j4)),(fun _=>pa j0 j0 j0 j0 (ld ti89 j0 j0<|j4)),(fun _=>pa j0 j0 j0 j0 (fa ti91 j0 j0 j0<|j4)),(fun _=>pa j0 j0 j0 j0 (nc j0 j0<|j4)),(fun _=>pa j0 j0 j0 j0 (ld ti25 j0 j0<|j4)),j5⟩ (by kernel_rfl) j0 ⟨(fun _ _=>⟨_,j0,j0,mup (v:=((List.length v17) : Int)) (g:=(fun x=>iA x)) (l:=v18) (s:=v20.Name) j0 j0 j0 j0 j0 j0<|⟨.any,[],[],j0,j0,by kernel_rfl,j5,dt0 ⟨(fun h=>by cases h),(fun h=>by cases h),(fun h=>by cases h),(fun h=>by cases h),(fun h=>by cases h),(fun h=>by cases h),(fun h=>by cases h),(fun h=>by cases h),(fun h=>by cases h),(fun h=>by cases h),(fun h=>by cases h),j5⟩ (by kernel_rfl) j0 ⟨[.old 0,.old 1,.old 2,.old 3,.old 4],ce j0 j0<|cv j0 (.mpt j0)<|cv j0 (.mpt j0)<|ce j0 j0<|ce j0 j0<|ce j0 j0<|cn,j0,⟨⟨_,j0,rsOne ⟨.mpt j0,j5⟩⟩,⟨_,j0,rsOne ⟨.msl j0,.mmp j0,j5⟩⟩,⟨_,j0,rsMap (fun _=>j0)⟩,⟨_,j0,rsMap (fun _=>j0)⟩,⟨_,j0,rsOne ⟨ci j0,ci j0,ci j0,ci j0,ci j0,ci j0,j5⟩⟩,j5⟩,j0,j1⟩⟩⟩),j5⟩) ?_
      obtain ⟨v23,q20,h⟩:=bs h
      refine rdL [(0,.isl 6 (List.map rApiClass v1)),(4,.mpt 0 0 0),(40,.isl 6 (List.map rApiClass v1)),(41,iA (List.length v1 : Int)),(42,iA v19)] [some (1,[[.mpt 1 0 0]]),some (2,[[.msl 2 0 (List.length v23),.mmp 3]]),some (6,List.map rApiClass v23),some (2,List.map (rKV (fun x=>iA x)) (mapPut v20.Name ((List.length v17) : Int) v18))] [6,7,10] [5,4,3,2,1,0] [(78,.agg [sA v20.Name,sA v20.Super,bA v20.Interface,.isl 1 (List.map rStr v20.Impl),.isl 3 (List.map rApiField v20.Fields),.isl 10 (List.map rApiMethod v20.Methods)]),(77,.msl 2 0 (List.length v17)),(76,.mpt 1 0 0),(75,.mpt 1 0 0),(74,.mpt 1 0 0),(73,.mpt 1 0 0)] 3 (by kernel_rfl) (by kernel_rfl) j0 (by kernel_rfl) (dtS ⟨(fun _=>pa j0 j0 j0 j0 (ld ti42 j0 j0<|j4)),(fun _=>pa j0 j0 j0 j0 (ld ti22 j0 j0<|j4)),(fun _=>pa j0 j0 j0 j0 (fa ti91 j0 j0 j0<|j4)),(fun _=>pa j0 j0 j0 j0 (nc j0 j0<|j4)),(fun _=>pa j0 j0 j0 j0 (ld ti25 j0 j0<|j4)),(fun _=>pa j0 j0 j0 j0 (ld ti25 j0 j0<|j4)),j5⟩ (by kernel_rfl) j0 ⟨(fun _ _=>⟨_,j0,j0,bl 5 ti22 j0 ti42 j0 (by decide) (by decide) j0 j0 j0<|⟨(.msl 5 0 1),[],[(79,.msl 5 0 1)],j0,j0,by kernel_rfl,j0,dtS ⟨(fun h=>by cases h),(fun _=>pa j0 j0 j0 j0 (ld ti22 j0 j0<|j4)),(fun _=>pa j0 j0 j0 j0 (fa ti91 j0 j0 j0<|j4)),(fun _=>pa j0 j0 j0 j0 (nc j0 j0<|j4)),(fun _=>pa j0 j0 j0 j0 (ld ti25 j0 j0<|j4)),(fun _=>pa j0 j0 j0 j0 (ld ti25 j0 j0<|j4)),j5⟩ (by kernel_rfl) j0 ⟨(fun h=>by cases h),(fun _ _=>⟨_,j0,j0,apM 6 ti22 j0 ti42 j0 j0 (by decide) ti22 j0 j0 j0 j0 (roX (f:=rApiClass) (z:=[v20]) j0 j0) (fun _=>j0) j0 q20<|⟨(.msl 6 0 (List.length v23)),[9,8],[(82,.mpt 1 0 0),(81,.mpt 1 0 0),(80,.msl 6 0 (List.length v23))],j0,j0,by kernel_rfl,j0,dtS ⟨(fun _=>pa j0 j0 j0 j0 (fa ti91 j0 j0 j0<|j4)),(fun _=>pa j0 j0 j0 j0 (nc j0 j0<|j4)),(fun h=>by cases h),(fun h=>by cases h),(fun _=>pa j0 j0 j0 j0 (fa ti91 j0 j0 j0<|j4)),(fun _=>pa j0 j0 j0 j0 (nc j0 j0<|j4)),(fun _=>pa j0 j0 j0 j0 (ld ti25 j0 j0<|j4)),(fun _=>pa j0 j0 j0 j0 (ld ti25 j0 j0<|j4)),j5⟩ (by kernel_rfl) j0 ⟨(fun h=>by cases h),(fun h=>by cases h),(fun _ _=>⟨_,j0,j0,sto ti22 j0 j0 j0<|⟨.any,[],[],j0,j0,by kernel_rfl,j5,dt0 ⟨(fun h=>by cases h),(fun _=>pa j0 j0 j0 j0 (nc j0 j0<|j4)),(fun h=>by cases h),(fun h=>by cases h),(fun h=>by cases h),(fun h=>by cases h),(fun h=>by cases h),(fun h=>by cases h),j5⟩ (by kernel_rfl) j0 ⟨[.old 0,.old 1,.old 6,.old 3],ce j0 j0<|cv j0 (.mpt j0)<|ce j0 j0<|ce j0 j0<|ce j0 j0<|cn,j0,⟨⟨_,j0,rsOne ⟨.mpt j0,j5⟩⟩,⟨_,j0,rsOne ⟨.msl j0,.mmp j0,j5⟩⟩,⟨_,j0,rsMap (fun _=>j0)⟩,⟨_,j0,rsMap (fun _=>j0)⟩,j5⟩,j0,j1⟩⟩⟩),j5⟩⟩⟩),(fun _ h=>by cases h),j5⟩⟩⟩),(fun _ h=>by cases h),(fun _ h=>by cases h),j5⟩) ?_
      refine rl j0<|u<|add ti3 j0 j0<|u<|mv j0<|r_nil ?_
      obtain rfl:=sm h
      exact ⟨_,j0,[.old 0,.old 1,.old 2,.old 3],ce j0 j0<|cv j0 (.mpt j0)<|ce j0 j0<|ce j0 j0<|ce j0 j0<|cn,j0,⟨⟨_,j0,rsOne ⟨.mpt j0,j5⟩⟩,⟨_,j0,rsOne ⟨.msl j0,.mmp j0,j5⟩⟩,⟨_,j0,rsMap (fun _=>j0)⟩,⟨_,j0,rsMap (fun _=>j0)⟩,j5⟩,j0,j1⟩
    ·
     replace h:=bF hc14 h
     refine sw_exit ?_
     obtain rfl:=sm h
     exact ⟨j0,_,j0,[.old 0,.old 1,.old 2,.old 3],ce j0 j0<|cv j0 (.mpt j0)<|cn,j0,⟨⟨_,j0,rsOne ⟨.mpt j0,j5⟩⟩,⟨_,j0,rsOne ⟨.msl j0,.mmp j0,j5⟩⟩,⟨_,j0,rsMap (fun _=>j0)⟩,⟨_,j0,rsMap (fun _=>j0)⟩,j5⟩,j0,j1⟩
   ·
    rintro ⟨v24,v25⟩ rfl
    replace h : hier_New_k4 v1 v24 v25 = some r:=h
    unfold hier_New_k4 at h
    refine ow_intro ?_
    refine sw_seq ?_
    refine rg j0<|u<|mv j0<|u<|lnI ti22 j0 j0<|u<|mv j0<|r_nil ?_
    obtain ⟨o,ho,h⟩:=bs h
    refine sw_lpl (X:=Int) (B:=Unit) (R:=(Option HierHier) × Int) (fun z=>[(0,.isl 6 (List.map rApiClass v1)),(4,.mpt 0 0 0),(84,.isl 6 (List.map rApiClass v1)),(85,iA (List.length v1 : Int)),(86,iA z)]) (fun z=>[some (1,[[.mpt 1 0 0]]),some (2,[[.msl 2 0 (List.length v24),.mmp 3]]),some (6,List.map rApiClass v24),some (2,List.map (rKV (fun x=>iA x)) v25)]) (fun b=>[(0,.isl 6 (List.map rApiClass v1)),(4,.mpt 0 0 0)]) (fun b=>[some (1,[[.mpt 1 0 0]]),some (2,[[.msl 2 0 (List.length v24),.mmp 3]]),some (6,List.map rApiClass v24),some (2,List.map (rKV (fun x=>iA x)) v25)]) (fun r env st=>PostF Tryz.prog Tryz.f20 0 (.tup [optP 2 rHierHier r.1,iA r.2]) [] env st) ho ⟨[.old 0,.old 1,.old 2,.old 3],ce j0 j0<|cv j0 (.mpt j0)<|ce j0 j0<|ce j0 j0<|ce j0 j0<|cn,j0,⟨⟨_,j0,rsOne ⟨.mpt j0,j5⟩⟩,⟨_,j0,rsOne ⟨.msl j0,.mmp j0,j5⟩⟩,⟨_,j0,rsMap (fun _=>j0)⟩,⟨_,j0,rsMap (fun _=>j0)⟩,j5⟩,j0,j1⟩ ?_ ?_ ?_
    ·
     rintro v30 r h
     replace h : hier_New_l5 v1 v24 v25 v30 = some r:=h
     unfold hier_New_l5 at h
     refine rg j0<|u<|lss ti3 j0 j0<|r_nil ?_
     refine sw_seq ?_
     refine sw_cond j0 (fun hc26=>?_) (fun hc26=>?_)
     ·
      replace h:=bT hc26 h
      refine sw_skip ?_
      refine sw_seq ?_
      refine sw_block ?_
      obtain ⟨v31,q27,h⟩:=bs h
      refine rg j0<|u<|ixI ti22 j0 ti42 j0 j0 j0 q27<|u<|ldI ti42 j0 (idx_some q27).2.2 j0<|u<|al 4 ti42 j0<|u<|sto ti42 j0 j0 j0<|r_nil ?_
      obtain ⟨v32,q28,h⟩:=bs h
      obtain ⟨v33,q29,h⟩:=bs h
      refine rg j0<|u<|ld ti42 j0 j0<|u<|sc [] (hier_above_ok v31 q28) j0 j0 j0 j0 ⟨(rnI j0),j5⟩ j5<|r_can (env0:=[(0,.isl 6 (List.map rApiClass v1)),(4,.mpt 0 0 0),(84,.isl 6 (List.map rApiClass v1)),(85,iA (List.length v1 : Int)),(86,iA v30),(91,.msl 4 0 (List.length v32))]) (st0:=[some (1,[[.mpt 1 0 0]]),some (2,[[.msl 2 0 (List.length v24),.mmp 3]]),some (6,List.map rApiClass v24),some (2,List.map (rKV (fun x=>iA x)) v25),some (1,List.map rStr v32)]) ⟨[.old 0,.old 1,.old 2,.old 3,.old 5],ce j0 j0<|cv j0 (.mpt j0)<|ce j0 j0<|ce j0 j0<|ce j0 j0<|cv j0 (.msl j0)<|cn,j0,⟨⟨_,j0,rsOne ⟨.mpt j0,j5⟩⟩,⟨_,j0,rsOne ⟨.msl j0,.mmp j0,j5⟩⟩,⟨_,j0,rsMap (fun _=>j0)⟩,⟨_,j0,rsMap (fun _=>j0)⟩,⟨_,j0,rsMap (fun _=>j0)⟩,j5⟩,j0,j1⟩<|u<|mf j0 j0<|u<|pcs (slices_ContainsFunc_string_string_s4_ok v32 v24 v25 q29) j0 j0 (.cons (sealM j0 (fun _=>j0)) (.cons (sealFn j5 ⟨(sealBox j0 ⟨(sealBox j0 ⟨(sealM j0 (fun _=>j0)),(sealMap j0 (fun _=>j0)),j5⟩),j5⟩),j5⟩) .nil)) plainB<|r_nil ?_
      refine sw_cond j0 (fun hc30=>?_) (fun hc30=>?_)
      ·
       replace h:=bT hc30 h
       refine rg j0<|u<|asg j0<|u<|asg j0<|r_nil ?_
       refine sw_ret ?_
       obtain rfl:=sm h
       exact ⟨_,j0,_,j0,[],rsTup ⟨(ci j0),(ci j0),j5⟩,j0,j5,j0,j1⟩
      ·
       replace h:=bF hc30 h
       refine sw_skip ?_
       refine rl j0<|u<|add ti3 j0 j0<|u<|mv j0<|r_nil ?_
       obtain rfl:=sm h
       exact ⟨_,j0,[.old 0,.old 1,.old 2,.old 3],ce j0 j0<|cv j0 (.mpt j0)<|ce j0 j0<|ce j0 j0<|ce j0 j0<|cn,j0,⟨⟨_,j0,rsOne ⟨.mpt j0,j5⟩⟩,⟨_,j0,rsOne ⟨.msl j0,.mmp j0,j5⟩⟩,⟨_,j0,rsMap (fun _=>j0)⟩,⟨_,j0,rsMap (fun _=>j0)⟩,j5⟩,j0,j1⟩
     ·
      replace h:=bF hc26 h
      refine sw_exit ?_
      obtain rfl:=sm h
      exact ⟨j0,_,j0,[.old 0,.old 1,.old 2,.old 3],ce j0 j0<|cv j0 (.mpt j0)<|cn,j0,⟨⟨_,j0,rsOne ⟨.mpt j0,j5⟩⟩,⟨_,j0,rsOne ⟨.msl j0,.mmp j0,j5⟩⟩,⟨_,j0,rsMap (fun _=>j0)⟩,⟨_,j0,rsMap (fun _=>j0)⟩,j5⟩,j0,j1⟩
    ·
     rintro ⟨⟩ rfl
     replace h : hier_New_k6 v1 v24 v25 = some r:=h
     unfold hier_New_k6 at h
     refine ow_intro ?_
     refine sw_seq ?_
     refine rg j0<|u<|mv j0<|u<|lnI ti22 j0 j0<|u<|mv j0<|r_nil ?_
     obtain ⟨o,ho,h⟩:=bs h
     refine sw_lpl (X:=Int) (B:=Unit) (R:=(Option HierHier) × Int) (fun z=>[(4,.mpt 0 0 0),(95,.isl 6 (List.map rApiClass v1)),(96,iA (List.length v1 : Int)),(97,iA z)]) (fun z=>[some (1,[[.mpt 1 0 0]]),some (2,[[.msl 2 0 (List.length v24),.mmp 3]]),some (6,List.map rApiClass v24),some (2,List.map (rKV (fun x=>iA x)) v25)]) (fun b=>[(4,.mpt 0 0 0)]) (fun b=>[some (1,[[.mpt 1 0 0]]),some (2,[[.msl 2 0 (List.length v24),.mmp 3]]),some (6,List.map rApiClass v24),some (2,List.map (rKV (fun x=>iA x)) v25)]) (fun r env st=>PostF Tryz.prog Tryz.f20 0 (.tup [optP 2 rHierHier r.1,iA r.2]) [] env st) ho ⟨[.old 0,.old 1,.old 2,.old 3],cv j0 (.mpt j0)<|ce j0 j0<|ce j0 j0<|ce j0 j0<|cn,j0,⟨⟨_,j0,rsOne ⟨.mpt j0,j5⟩⟩,⟨_,j0,rsOne ⟨.msl j0,.mmp j0,j5⟩⟩,⟨_,j0,rsMap (fun _=>j0)⟩,⟨_,j0,rsMap (fun _=>j0)⟩,j5⟩,j0,j1⟩ ?_ ?_ ?_
     ·
      rintro v37 r h
      replace h : hier_New_l7 v1 v24 v25 v37 = some r:=h
      unfold hier_New_l7 at h
      refine rg j0<|u<|lss ti3 j0 j0<|r_nil ?_
      refine sw_seq ?_
      refine sw_cond j0 (fun hc35=>?_) (fun hc35=>?_)
      ·
       replace h:=bT hc35 h
       refine sw_skip ?_
       refine sw_seq ?_
       refine sw_block ?_
       obtain ⟨v38,q36,h⟩:=bs h
       refine rg j0<|u<|ixI ti22 j0 ti42 j0 j0 j0 q36<|u<|ldI ti42 j0 (idx_some q36).2.2 j0<|u<|al 4 ti42 j0<|u<|sto ti42 j0 j0 j0<|r_nil ?_
       obtain ⟨v39,q37,h⟩:=bs h
       refine rg j0<|u<|ld ti25 j0 j0<|u<|ld ti42 j0 j0<|u<|pcs (hier_Hier_fits_ok v24 v25 v38 q37) j0 j0 (.cons (sealBox j0 ⟨(sealM j0 (fun _=>j0)),(sealMap j0 (fun _=>j0)),j5⟩) (.cons (si j0) .nil)) plainB<|u<|nt j0<|r_nil ?_
       refine sw_cond j0 (fun hc38=>?_) (fun hc38=>?_)
       ·
        replace h:=bT hc38 h
        refine rg j0<|u<|asg j0<|u<|asg j0<|r_nil ?_
        refine sw_ret ?_
        obtain rfl:=sm h
        exact ⟨_,j0,_,j0,[],rsTup ⟨(ci j0),(ci j0),j5⟩,j0,j5,j0,j1⟩
       ·
        replace h:=bF hc38 h
        refine sw_skip ?_
        refine rl j0<|u<|add ti3 j0 j0<|u<|mv j0<|r_nil ?_
        obtain rfl:=sm h
        exact ⟨_,j0,[.old 0,.old 1,.old 2,.old 3],cv j0 (.mpt j0)<|ce j0 j0<|ce j0 j0<|ce j0 j0<|cn,j0,⟨⟨_,j0,rsOne ⟨.mpt j0,j5⟩⟩,⟨_,j0,rsOne ⟨.msl j0,.mmp j0,j5⟩⟩,⟨_,j0,rsMap (fun _=>j0)⟩,⟨_,j0,rsMap (fun _=>j0)⟩,j5⟩,j0,j1⟩
      ·
       replace h:=bF hc35 h
       refine sw_exit ?_
       obtain rfl:=sm h
       exact ⟨j0,_,j0,[.old 0,.old 1,.old 2,.old 3],cv j0 (.mpt j0)<|cn,j0,⟨⟨_,j0,rsOne ⟨.mpt j0,j5⟩⟩,⟨_,j0,rsOne ⟨.msl j0,.mmp j0,j5⟩⟩,⟨_,j0,rsMap (fun _=>j0)⟩,⟨_,j0,rsMap (fun _=>j0)⟩,j5⟩,j0,j1⟩
     ·
      rintro ⟨⟩ rfl
      replace h : hier_New_k8 v24 v25 = some r:=h
      unfold hier_New_k8 at h
      refine ow_intro ?_
      refine rg j0<|u<|ld ti25 j0 j0<|u<|asg j0<|u<|asg j0<|r_nil ?_
      refine sw_ret ?_
      obtain rfl:=sm h
      exact ⟨_,j0,[],rsTup ⟨(rsP j0 j0 ⟨(rsSeal j0 j0 (fun _=>j0)),(rsSealMap j0 j0 (fun _=>j0)),j5⟩ j0),(ci j0),j5⟩,j0,j5,j0,j1⟩
     ·
      rintro r' rfl env st hp
      obtain rfl:=sm h
      exact hp
    ·
     rintro r' rfl env st hp
     obtain rfl:=sm h
     exact hp
   ·
    rintro r' rfl env st hp
    obtain rfl:=sm h
    exact hp
  ·
   rintro r' rfl env st hp
   obtain rfl:=sm h
   exact hp
end
end Go.Proofs.YtooagifeniibcaaGreat
namespace Go.Proofs.YtooagifeniibcaaGreat
set_option linter.unusedVariables false
set_option maxRecDepth 100000
set_option maxHeartbeats 4000000
def wApiField (x : ApiField) : Prop := (wS) x.Name ∧ (wS) x.Type_ ∧ (wT) x.Static
theorem gdApiField {n : Nat} {avs : List AV} (h : Good Tryz.prog (n + 2) 57 avs) : ∃ x : ApiField, avs = rApiField x ∧ wApiField x := by
  obtain ⟨parts, rfl, hl, hg⟩ := gdF Tryz.underlying57 h
  match parts, hl with
  | [p0, p1, p2], _ =>
    obtain ⟨x0, rfl, w0⟩ := gdS Tryz.underlying9 (hg 0 _ p0 rfl rfl)
    obtain ⟨x1, rfl, w1⟩ := gdS Tryz.underlying9 (hg 1 _ p1 rfl rfl)
    obtain ⟨x2, rfl, w2⟩ := gdB Tryz.underlying4 (hg 2 _ p2 rfl rfl)
    exact ⟨⟨x0, x1, x2⟩, rfl, w0, w1, w2⟩
def wApiIns (x : ApiIns) : Prop := (wI .i64) x.Op ∧ (wI .i64) x.A ∧ (wS) x.C ∧ (wS) x.M
theorem gdApiIns {n : Nat} {avs : List AV} (h : Good Tryz.prog (n + 2) 66 avs) : ∃ x : ApiIns, avs = rApiIns x ∧ wApiIns x := by
  obtain ⟨parts, rfl, hl, hg⟩ := gdF Tryz.underlying66 h
  match parts, hl with
  | [p0, p1, p2, p3], _ =>
    obtain ⟨x0, rfl, w0⟩ := gdI Tryz.underlying3 (hg 0 _ p0 rfl rfl)
    obtain ⟨x1, rfl, w1⟩ := gdI Tryz.underlying3 (hg 1 _ p1 rfl rfl)
    obtain ⟨x2, rfl, w2⟩ := gdS Tryz.underlying9 (hg 2 _ p2 rfl rfl)
    obtain ⟨x3, rfl, w3⟩ := gdS Tryz.underlying9 (hg 3 _ p3 rfl rfl)
    exact ⟨⟨x0, x1, x2, x3⟩, rfl, w0, w1, w2, w3⟩
def wApiMap (x : ApiMap) : Prop := (wI .i64) x.At ∧ (wL (wS)) x.Locals ∧ (wL (wS)) x.Stack
theorem gdApiMap {n : Nat} {avs : List AV} (h : Good Tryz.prog (n + 3) 81 avs) : ∃ x : ApiMap, avs = rApiMap x ∧ wApiMap x := by
  obtain ⟨parts, rfl, hl, hg⟩ := gdF Tryz.underlying81 h
  match parts, hl with
  | [p0, p1, p2], _ =>
    obtain ⟨x0, rfl, w0⟩ := gdI Tryz.underlying3 (hg 0 _ p0 rfl rfl)
    obtain ⟨x1, rfl, w1⟩ := gdL (k := 1) Tryz.underlying32 (by kernel_rfl) (fun h => gdS Tryz.underlying9 h) (hg 1 _ p1 rfl rfl)
    obtain ⟨x2, rfl, w2⟩ := gdL (k := 1) Tryz.underlying32 (by kernel_rfl) (fun h => gdS Tryz.underlying9 h) (hg 2 _ p2 rfl rfl)
    exact ⟨⟨x0, x1, x2⟩, rfl, w0, w1, w2⟩
def wApiTrap (x : ApiTrap) : Prop := (wI .i64) x.From ∧ (wI .i64) x.To ∧ (wI .i64) x.At ∧ (wS) x.C
theorem gdApiTrap {n : Nat} {avs : List AV} (h : Good Tryz.prog (n + 2) 127 avs) : ∃ x : ApiTrap, avs = rApiTrap x ∧ wApiTrap x := by
  obtain ⟨parts, rfl, hl, hg⟩ := gdF Tryz.underlying127 h
  match parts, hl with
  | [p0, p1, p2, p3], _ =>
    obtain ⟨x0, rfl, w0⟩ := gdI Tryz.underlying3 (hg 0 _ p0 rfl rfl)
    obtain ⟨x1, rfl, w1⟩ := gdI Tryz.underlying3 (hg 1 _ p1 rfl rfl)
    obtain ⟨x2, rfl, w2⟩ := gdI Tryz.underlying3 (hg 2 _ p2 rfl rfl)
    obtain ⟨x3, rfl, w3⟩ := gdS Tryz.underlying9 (hg 3 _ p3 rfl rfl)
    exact ⟨⟨x0, x1, x2, x3⟩, rfl, w0, w1, w2, w3⟩
def wApiMethod (x : ApiMethod) : Prop := (wS) x.Name ∧ (wL (wS)) x.Params ∧ (wS) x.Ret ∧ (wT) x.Static ∧ (wT) x.Abstract ∧ (wI .i64) x.Locals ∧ (wI .i64) x.Stack ∧ (wL (wApiIns)) x.Code ∧ (wL (wApiMap)) x.Maps ∧ (wL (wApiTrap)) x.Traps
theorem gdApiMethod {n : Nat} {avs : List AV} (h : Good Tryz.prog (n + 5) 62 avs) : ∃ x : ApiMethod, avs = rApiMethod x ∧ wApiMethod x := by
  obtain ⟨parts, rfl, hl, hg⟩ := gdF Tryz.underlying62 h
  match parts, hl with
  | [p0, p1, p2, p3, p4, p5, p6, p7, p8, p9], _ =>
    obtain ⟨x0, rfl, w0⟩ := gdS Tryz.underlying9 (hg 0 _ p0 rfl rfl)
    obtain ⟨x1, rfl, w1⟩ := gdL (k := 1) Tryz.underlying32 (by kernel_rfl) (fun h => gdS Tryz.underlying9 h) (hg 1 _ p1 rfl rfl)
    obtain ⟨x2, rfl, w2⟩ := gdS Tryz.underlying9 (hg 2 _ p2 rfl rfl)
    obtain ⟨x3, rfl, w3⟩ := gdB Tryz.underlying4 (hg 3 _ p3 rfl rfl)
    obtain ⟨x4, rfl, w4⟩ := gdB Tryz.underlying4 (hg 4 _ p4 rfl rfl)
    obtain ⟨x5, rfl, w5⟩ := gdI Tryz.underlying3 (hg 5 _ p5 rfl rfl)
    obtain ⟨x6, rfl, w6⟩ := gdI Tryz.underlying3 (hg 6 _ p6 rfl rfl)
    obtain ⟨x7, rfl, w7⟩ := gdL (k := 4) Tryz.underlying58 (by kernel_rfl) (fun h => gdApiIns h) (hg 7 _ p7 rfl rfl)
    obtain ⟨x8, rfl, w8⟩ := gdL (k := 3) Tryz.underlying59 (by kernel_rfl) (fun h => gdApiMap h) (hg 8 _ p8 rfl rfl)
    obtain ⟨x9, rfl, w9⟩ := gdL (k := 4) Tryz.underlying60 (by kernel_rfl) (fun h => gdApiTrap h) (hg 9 _ p9 rfl rfl)
    exact ⟨⟨x0, x1, x2, x3, x4, x5, x6, x7, x8, x9⟩, rfl, w0, w1, w2, w3, w4, w5, w6, w7, w8, w9⟩
def wApiClass (x : ApiClass) : Prop := (wS) x.Name ∧ (wS) x.Super ∧ (wT) x.Interface ∧ (wL (wS)) x.Impl ∧ (wL (wApiField)) x.Fields ∧ (wL (wApiMethod)) x.Methods
theorem gdApiClass {n : Nat} {avs : List AV} (h : Good Tryz.prog (n + 7) 42 avs) : ∃ x : ApiClass, avs = rApiClass x ∧ wApiClass x := by
  obtain ⟨parts, rfl, hl, hg⟩ := gdF Tryz.underlying42 h
  match parts, hl with
  | [p0, p1, p2, p3, p4, p5], _ =>
    obtain ⟨x0, rfl, w0⟩ := gdS Tryz.underlying9 (hg 0 _ p0 rfl rfl)
    obtain ⟨x1, rfl, w1⟩ := gdS Tryz.underlying9 (hg 1 _ p1 rfl rfl)
    obtain ⟨x2, rfl, w2⟩ := gdB Tryz.underlying4 (hg 2 _ p2 rfl rfl)
    obtain ⟨x3, rfl, w3⟩ := gdL (k := 1) Tryz.underlying32 (by kernel_rfl) (fun h => gdS Tryz.underlying9 h) (hg 3 _ p3 rfl rfl)
    obtain ⟨x4, rfl, w4⟩ := gdL (k := 3) Tryz.underlying39 (by kernel_rfl) (fun h => gdApiField h) (hg 4 _ p4 rfl rfl)
    obtain ⟨x5, rfl, w5⟩ := gdL (k := 10) Tryz.underlying40 (by kernel_rfl) (fun h => gdApiMethod h) (hg 5 _ p5 rfl rfl)
    exact ⟨⟨x0, x1, x2, x3, x4, x5⟩, rfl, w0, w1, w2, w3, w4, w5⟩
end Go.Proofs.YtooagifeniibcaaGreat
namespace Go.Proofs.YtooagifeniibcaaGreat
noncomputable section
set_option linter.unusedSimpArgs false
set_option linter.unusedVariables false
set_option maxRecDepth 100000
set_option maxHeartbeats 4000000
structure Ref7Hier where
  L : List ApiClass
def rRef7Hier (x : Ref7Hier) : List AV:=[.isl 6 (List.map rApiClass x.L)]
def ref7_given_k6 (v13 : List ApiClass) : Option ((List ApiClass)) :=
  some v13
def ref7_given_j4 (v7 : List ApiClass) (v8 : Int) (v9 : List UInt8) (v11 : List UInt8) : Option (Sum ((List ApiClass) × Int) (Sum ((List ApiClass)) ((List ApiClass)))) :=
  (appP 112 v7 ([(ApiClass.mk v9 v11 false [] [] [])])).bind fun v12=>some (.inl (v12,(IntKind.i64.wrap (v8 + 1))))
def ref7_given_j3 (v7 : List ApiClass) (v8 : Int) (v9 : List UInt8) (v10 : List UInt8) : Option (Sum ((List ApiClass) × Int) (Sum ((List ApiClass)) ((List ApiClass)))) :=
  cond (v8 == (1 : Int)) (ref7_given_j4 v7 v8 v9 [79,98,106,101,99,116]) (ref7_given_j4 v7 v8 v9 v10)
def ref7_given_l5 (v7 : List ApiClass) (v8 : Int) : Option (Sum ((List ApiClass) × Int) (Sum ((List ApiClass)) ((List ApiClass)))) :=
  cond (decide (v8 < ((List.length (ref7_Given)) : Int))) ((idx (ref7_Given) v8).bind fun v9=>cond (v8 == (0 : Int)) (ref7_given_j3 v7 v8 v9 []) (ref7_given_j3 v7 v8 v9 [84,104,114,111,119,110])) (some (.inr (.inl v7)))
def ref7_given : Option ((List ApiClass)) :=
  (loopP (fun z=>ref7_given_l5 z.1 z.2) ([],0)).bind fun o=>leave o (fun b=>ref7_given_k6 b) some
theorem ref7_given_ok {r : (List ApiClass)} (h : ref7_given = some r) : SC Tryz.prog 64 [] [] (.msl 0 0 (List.length r)) [.many 6 (List.map rApiClass r)]:=by
 refine ⟨⟨sbOk (sz:=6) (fun _=>j0),j5⟩,scall_fn Tryz.func64 j0 (by kernel_rfl) j0 ?_⟩
 unfold ref7_given at h
 refine rg j0<|u<|asg j0<|r_nil ?_
 refine rg j0<|u<|sc [] (ref7_Given_ok j0) j0 j0 j0 j0 j5 j5<|r_can (env0:=[(5,.msl 0 0 (List.length (ref7_Given)))]) (st0:=[some (1,List.map rStr (ref7_Given))]) ⟨[.old 0],cv j0 (.msl j0)<|cn,j0,⟨⟨_,j0,rsMap (fun _=>j0)⟩,j5⟩,j0,j1⟩<|u<|asg j0<|r_nil ?_
 refine rg j0<|u<|asg j0<|r_nil ?_
 refine sw_seq ?_
 refine rg j0<|u<|asg j0<|r_nil ?_
 obtain ⟨o,ho,h⟩:=bs h
 refine sw_lpl (X:=(List ApiClass) × Int) (B:=(List ApiClass)) (R:=(List ApiClass)) (fun z=>[(1,.msl 0 0 (List.length (ref7_Given))),(2,.msl 1 0 (List.length z.1)),(3,iA z.2)]) (fun z=>[some (1,List.map rStr (ref7_Given)),some (6,List.map rApiClass z.1)]) (fun b=>[(2,.msl 0 0 (List.length b))]) (fun b=>[some (6,List.map rApiClass b)]) (fun r env st=>PostF Tryz.prog Tryz.f64 0 (.msl 0 0 (List.length r)) [some (6,List.map rApiClass r)] env st) ho ⟨[.old 0,.fresh 6],cv j0 (.msl j0)<|cv j0 (.nilown j0)<|ce j0 j0<|cn,j0,⟨⟨_,j0,rsMap (fun _=>j0)⟩,j4,j5⟩,j0,j1⟩ ?_ ?_ ?_
 ·
  rintro ⟨v7,v8⟩ r h
  replace h : ref7_given_l5 v7 v8 = some r:=h
  unfold ref7_given_l5 at h
  refine sw_seq ?_
  refine rg j0<|u<|mv j0<|u<|mv j0<|u<|lnM ti32 j0 j0 j0<|u<|lss ti3 j0 j0<|r_nil ?_
  refine sw_cond j0 (fun hc6=>?_) (fun hc6=>?_)
  ·
   replace h:=bT hc6 h
   refine sw_skip ?_
   refine sw_seq ?_
   refine sw_block ?_
   obtain ⟨v9,q7,h⟩:=bs h
   refine rg j0<|u<|mv j0<|u<|mv j0<|u<|ixM ti32 j0 ti9 j0 j0 j0 j0 q7<|u<|ldM ti9 j0 j0 (idx_some q7).2.2 j0<|u<|bd ti42 j0 j0 j0<|u<|al 2 ti42 j0<|u<|sto ti42 j0 j0 j0<|r_nil ?_
   refine sw_meet (X:=(List UInt8)) (fun z=>[(1,.msl 0 0 (List.length (ref7_Given))),(2,.msl 1 0 (List.length v7)),(3,iA v8),(4,.mpt 2 0 0)]) (fun z=>[some (1,List.map rStr (ref7_Given)),some (6,List.map rApiClass v7),some (6,[[sA v9,sA z,bA false,.lit (.slice none 0 0),.lit (.slice none 0 0),.lit (.slice none 0 0)]])]) (fun z=>ref7_given_j3 v7 v8 v9 z = some r) ?_ ?_
   ·
    refine rg j0<|u<|mv j0<|u<|eql ti3 j0 j0<|r_nil ?_
    refine sw_cond j0 (fun hc8=>?_) (fun hc8=>?_)
    ·
     replace h:=bT hc8 h
     exact rl j0<|u<|fa ti42 j0 j0 j0<|u<|sto ti9 j0 j0 j0<|r_nil (⟨[],h,[.old 0,.old 1,.old 2],cv j0 (.msl j0)<|cv j0 (.msl j0)<|ce j0 j0<|cv j0 (.mpt j0)<|cn,j0,⟨⟨_,j0,rsMap (fun _=>j0)⟩,⟨_,j0,rsMap (fun _=>j0)⟩,⟨_,j0,rsOne ⟨ci j0,ci j0,ci j0,ci j0,ci j0,ci j0,j5⟩⟩,j5⟩,j0,j1⟩)
    ·
     replace h:=bF hc8 h
     refine sw_skip ?_
     exact ⟨[84,104,114,111,119,110],h,[.old 0,.old 1,.old 2],cv j0 (.msl j0)<|cv j0 (.msl j0)<|ce j0 j0<|cv j0 (.mpt j0)<|cn,j0,⟨⟨_,j0,rsMap (fun _=>j0)⟩,⟨_,j0,rsMap (fun _=>j0)⟩,⟨_,j0,rsOne ⟨ci j0,ci j0,ci j0,ci j0,ci j0,ci j0,j5⟩⟩,j5⟩,j0,j1⟩
   ·
    rintro v10 h
    replace h : ref7_given_j3 v7 v8 v9 v10 = some r:=h
    unfold ref7_given_j3 at h
    refine sw_meet (X:=(List UInt8)) (fun z=>[(1,.msl 0 0 (List.length (ref7_Given))),(2,.msl 1 0 (List.length v7)),(3,iA v8),(4,.mpt 2 0 0)]) (fun z=>[some (1,List.map rStr (ref7_Given)),some (6,List.map rApiClass v7),some (6,[[sA v9,sA z,bA false,.lit (.slice none 0 0),.lit (.slice none 0 0),.lit (.slice none 0 0)]])]) (fun z=>ref7_given_j4 v7 v8 v9 z = some r) ?_ ?_
    ·
     refine rg j0<|u<|mv j0<|u<|eql ti3 j0 j0<|r_nil ?_
     refine sw_cond j0 (fun hc9=>?_) (fun hc9=>?_)
     ·
      replace h:=bT hc9 h
      exact rl j0<|u<|fa ti42 j0 j0 j0<|u<|sto ti9 j0 j0 j0<|r_nil (⟨[79,98,106,101,99,116],h,[.old 0,.old 1,.old 2],cv j0 (.msl j0)<|cv j0 (.msl j0)<|ce j0 j0<|cv j0 (.mpt j0)<|cn,j0,⟨⟨_,j0,rsMap (fun _=>j0)⟩,⟨_,j0,rsMap (fun _=>j0)⟩,⟨_,j0,rsOne ⟨ci j0,ci j0,ci j0,ci j0,ci j0,ci j0,j5⟩⟩,j5⟩,j0,j1⟩)
     ·
      replace h:=bF hc9 h
      refine sw_skip ?_
      exact ⟨v10,h,[.old 0,.old 1,.old 2],cv j0 (.msl j0)<|cv j0 (.msl j0)<|ce j0 j0<|cv j0 (.mpt j0)<|cn,j0,⟨⟨_,j0,rsMap (fun _=>j0)⟩,⟨_,j0,rsMap (fun _=>j0)⟩,⟨_,j0,rsOne ⟨ci j0,ci j0,ci j0,ci j0,ci j0,ci j0,j5⟩⟩,j5⟩,j0,j1⟩
    ·
     rintro v11 h
     replace h : ref7_given_j4 v7 v8 v9 v11 = some r:=h
     unfold ref7_given_j4 at h
     obtain ⟨v12,q10,h⟩:=bs h
     refine rl j0<|u<|mv j0<|u<|ld ti42 j0 j0<|u<|bl 3 ti22 j0 ti42 j0 (by decide) (by decide) j0 j0 j0<|r_can (env0:=[(1,.msl 0 0 (List.length (ref7_Given))),(3,iA v8),(23,.msl 1 0 (List.length v7)),(25,.msl 2 0 (List.length ([(ApiClass.mk v9 v11 false [] [] [])])))]) (st0:=[some (1,List.map rStr (ref7_Given)),some (6,List.map rApiClass v7),some (6,List.map rApiClass ([(ApiClass.mk v9 v11 false [] [] [])]))]) ⟨[.old 0,.old 1,.old 3],cv j0 (.msl j0)<|ce j0 j0<|cv j0 (.msl j0)<|cv j0 (.msl j0)<|cn,j0,⟨⟨_,j0,rsMap (fun _=>j0)⟩,⟨_,j0,rsMap (fun _=>j0)⟩,⟨_,j0,rsRows ⟨⟨(ci j0),(ci j0),(ci j0),(.nil),(.nil),(.nil),j5⟩,j5⟩⟩,j5⟩,j0,j1⟩<|u<|apM 3 ti22 j0 ti42 j0 j0 (by decide) ti22 j0 j0 j0 j0 (roM j0) (fun _=>j0) j0 q10<|u<|asg j0<|r_nil ?_
     refine rl j0<|u<|mv j0<|u<|add ti3 j0 j0<|u<|asg j0<|r_nil ?_
     obtain rfl:=sm h
     exact ⟨_,j0,[.old 0,.old 3],cv j0 (.msl j0)<|cv j0 (.msl j0)<|ce j0 j0<|cn,j0,⟨⟨_,j0,rsMap (fun _=>j0)⟩,⟨_,j0,rsMap (fun _=>j0)⟩,j5⟩,j0,j1⟩
  ·
   replace h:=bF hc6 h
   refine sw_exit ?_
   obtain rfl:=sm h
   exact ⟨j0,_,j0,[.old 1],cv j0 (.msl j0)<|cn,j0,⟨⟨_,j0,rsMap (fun _=>j0)⟩,j5⟩,j0,j1⟩
 ·
  rintro v13 rfl
  replace h : ref7_given_k6 v13 = some r:=h
  unfold ref7_given_k6 at h
  refine ow_intro ?_
  refine rg j0<|u<|mv j0<|u<|asg j0<|r_nil ?_
  refine sw_ret ?_
  obtain rfl:=sm h
  exact ⟨_,j0,[.old 0],.msl j0,j0,⟨⟨_,j0,rsMap (fun _=>j0)⟩,j5⟩,j0,j1⟩
 ·
  rintro r' rfl env st hp
  obtain rfl:=sm h
  exact hp
def ref7_Hier_At_k2 : Option (Int) :=
  some (-1)
def ref7_Hier_At_l1 (v1 : List ApiClass) (v2 : List UInt8) (v5 : Int) : Option (Sum (Int) (Sum (Unit) (Int))) :=
  cond (decide (v5 < (List.length v1 : Int))) ((idx v1 v5).bind fun v6=>cond (v6.Name == v2) (some (.inr (.inr v5))) (some (.inl (IntKind.i64.wrap (v5 + 1))))) (some (.inr (.inl ())))
def ref7_Hier_At (v1 : List ApiClass) (v2 : List UInt8) : Option (Int) :=
  (loopP (fun z=>ref7_Hier_At_l1 v1 v2 z) 0).bind fun o=>leave o (fun b=>ref7_Hier_At_k2) some
theorem ref7_Hier_At_ok (v1 : List ApiClass) (v2 : List UInt8) {r : Int} (h : ref7_Hier_At v1 v2 = some r) : PureC Tryz.prog 37 [.ipt 1 [[.isl 6 (List.map rApiClass v1)]] 0 0,sA v2] (iA r):=by
 refine pure_fn Tryz.func37 j0 (by kernel_rfl) j0 j0 ?_
 unfold ref7_Hier_At at h
 refine rg j0<|u<|asg j0<|r_nil ?_
 refine sw_seq ?_
 refine rg j0<|u<|asg j0<|r_nil ?_
 obtain ⟨o,ho,h⟩:=bs h
 refine sw_lpl (X:=Int) (B:=Unit) (R:=Int) (fun z=>[(0,.ipt 1 [[.isl 6 (List.map rApiClass v1)]] 0 0),(1,sA v2),(5,iA z)]) (fun z=>[]) (fun b=>[]) (fun b=>[]) (fun r env st=>PostF Tryz.prog Tryz.f37 0 (iA r) [] env st) ho ⟨[],ce j0 j0<|ce j0 j0<|ce j0 j0<|cn,j0,j5,j0,j1⟩ ?_ ?_ ?_
 ·
  rintro v5 r h
  replace h : ref7_Hier_At_l1 v1 v2 v5 = some r:=h
  unfold ref7_Hier_At_l1 at h
  refine sw_seq ?_
  refine rg j0<|u<|mv j0<|u<|mv j0<|u<|nc j0 j0<|u<|fa ti51 j0 j0 j0<|u<|ld ti22 j0 j0<|u<|lnI ti22 j0 j0<|u<|lss ti3 j0 j0<|r_nil ?_
  refine sw_cond j0 (fun hc4=>?_) (fun hc4=>?_)
  ·
   replace h:=bT hc4 h
   refine sw_skip ?_
   refine sw_seq ?_
   refine sw_block ?_
   obtain ⟨v6,q5,h⟩:=bs h
   refine rg j0<|u<|mv j0<|u<|nc j0 j0<|u<|fa ti51 j0 j0 j0<|u<|ld ti22 j0 j0<|u<|mv j0<|u<|ixI ti22 j0 ti42 j0 j0 j0 q5<|u<|fa ti42 j0 j0 j0<|u<|ldI ti9 j0 (idx_some q5).2.2 j0<|u<|mv j0<|u<|seq ti9 j0 j0<|r_nil ?_
   refine sw_cond j0 (fun hc6=>?_) (fun hc6=>?_)
   ·
    replace h:=bT hc6 h
    refine rg j0<|u<|mv j0<|u<|asg j0<|r_nil ?_
    refine sw_ret ?_
    obtain rfl:=sm h
    exact ⟨_,j0,_,j0,[],ci j0,j0,j5,j0,j1⟩
   ·
    replace h:=bF hc6 h
    refine sw_skip ?_
    refine rl j0<|u<|mv j0<|u<|add ti3 j0 j0<|u<|asg j0<|r_nil ?_
    obtain rfl:=sm h
    exact ⟨_,j0,[],ce j0 j0<|ce j0 j0<|ce j0 j0<|cn,j0,j5,j0,j1⟩
  ·
   replace h:=bF hc4 h
   refine sw_exit ?_
   obtain rfl:=sm h
   exact ⟨j0,_,j0,[],cn,j0,j5,j0,j1⟩
 ·
  rintro ⟨⟩ rfl
  replace h : ref7_Hier_At_k2 = some r:=h
  unfold ref7_Hier_At_k2 at h
  refine ow_intro ?_
  refine rg j0<|u<|asg j0<|r_nil ?_
  refine sw_ret ?_
  obtain rfl:=sm h
  exact ⟨_,j0,[],ci j0,j0,j5,j0,j1⟩
 ·
  rintro r' rfl env st hp
  obtain rfl:=sm h
  exact hp
def ref7_Hier_above_k26 (v2 : Int) (v138 : List Bool) : Option (Bool) :=
  (idx v138 v2).bind fun v139=>some v139
def ref7_Hier_above_k24 (v136 : List Bool) (v137 : Bool) : Option (Sum ((List Bool) × Bool × Bool) (Sum ((List Bool)) (Bool))) :=
  some (.inl (v136,v137,false))
def ref7_Hier_above_j22 (v107 : Int) (v134 : List Bool) (v135 : Bool) : Option (Sum ((List Bool) × Bool × Int) (Sum ((List Bool) × Bool) (Bool))) :=
  some (.inl (v134,v135,(IntKind.i64.wrap (v107 + 1))))
def ref7_Hier_above_k21 (v107 : Int) (v132 : List Bool) (v133 : Bool) : Option (Sum ((List Bool) × Bool × Int) (Sum ((List Bool) × Bool) (Bool))) :=
  ref7_Hier_above_j22 v107 v132 v133
def ref7_Hier_above_j19 (v124 : Int) (v130 : List Bool) (v131 : Bool) : Option (Sum ((List Bool) × Bool × Int) (Sum ((List Bool) × Bool) (Bool))) :=
  some (.inl (v130,v131,(IntKind.i64.wrap (v124 + 1))))
def ref7_Hier_above_l20 (v1 : List ApiClass) (v111 : List (List UInt8)) (v122 : List Bool) (v123 : Bool) (v124 : Int) : Option (Sum ((List Bool) × Bool × Int) (Sum ((List Bool) × Bool) (Bool))) :=
  cond (decide (v124 < ((List.length v111) : Int))) ((idx v111 v124).bind fun v125=>(ref7_Hier_At v1 v125).bind fun v126=>(cond (decide (0 ≤ v126)) ((idx v122 v126).bind fun v127=>some (!v127)) (some false)).bind fun v128=>cond v128 ((idx v122 v126).bind fun v129=>ref7_Hier_above_j19 v124 (List.set v122 (Int.toNat v126) true) true) (ref7_Hier_above_j19 v124 v122 v123)) (some (.inr (.inl (v122,v123))))
def ref7_Hier_above_l23 (v1 : List ApiClass) (v2 : Int) (v73 : Bool) (v105 : List Bool) (v106 : Bool) (v107 : Int) : Option (Sum ((List Bool) × Bool × Int) (Sum ((List Bool) × Bool) (Bool))) :=
  cond (decide (v107 < (List.length v1 : Int))) ((idx v105 v107).bind fun v108=>cond ((!v108) && (!(v73 && (v107 == v2)))) (ref7_Hier_above_j22 v107 v105 v106) ((idx v1 v107).bind fun v109=>(idx v1 v107).bind fun v110=>(appP 16 [v109.Super] v110.Impl).bind fun v111=>(loopP (fun z=>ref7_Hier_above_l20 v1 v111 z.1 z.2.1 z.2.2) (v105,v106,0)).bind fun o=>leave o (fun b=>ref7_Hier_above_k21 v107 b.1 b.2) (fun r=>some (.inr (.inr r))))) (some (.inr (.inl (v105,v106))))
def ref7_Hier_above_l25 (v1 : List ApiClass) (v2 : Int) (v71 : List Bool) (v72 : Bool) (v73 : Bool) : Option (Sum ((List Bool) × Bool × Bool) (Sum ((List Bool)) (Bool))) :=
  cond v72 ((loopP (fun z=>ref7_Hier_above_l23 v1 v2 v73 z.1 z.2.1 z.2.2) (v71,false,0)).bind fun o=>leave o (fun b=>ref7_Hier_above_k24 b.1 b.2) (fun r=>some (.inr (.inr r)))) (some (.inr (.inl v71)))
def ref7_Hier_above (v1 : List ApiClass) (v2 : Int) : Option (Bool) :=
  (mkP 1 (List.length v1 : Int)).bind fun v3=>(loopP (fun z=>ref7_Hier_above_l25 v1 v2 z.1 z.2.1 z.2.2) ((List.replicate v3 false),true,true)).bind fun o=>leave o (fun b=>ref7_Hier_above_k26 v2 b) some
theorem ref7_Hier_above_ok (v1 : List ApiClass) (v2 : Int) {r : Bool} (h : ref7_Hier_above v1 v2 = some r) : PureC Tryz.prog 66 [.ipt 1 [[.isl 6 (List.map rApiClass v1)]] 0 0,iA v2] (bA r):=by
 refine pure_fn Tryz.func66 j0 (by kernel_rfl) j0 j0 ?_
 unfold ref7_Hier_above at h
 refine rg j0<|u<|asg j0<|r_nil ?_
 obtain ⟨v3,q1,h⟩:=bs h
 refine rg j0<|u<|mv j0<|u<|nc j0 j0<|u<|fa ti51 j0 j0 j0<|u<|ld ti22 j0 j0<|u<|lnI ti22 j0 j0<|u<|mks (f:=rB) (z:=false) 0 ti64 j0 ti4 j0 j0 j0 j0 j0 j0 q1<|u<|asg j0<|r_nil ?_
 refine sw_seq ?_
 refine rg j0<|u<|asg j0<|u<|asg j0<|r_nil ?_
 obtain ⟨o,ho,h⟩:=bs h
 refine sw_lpl (X:=(List Bool) × Bool × Bool) (B:=(List Bool)) (R:=Bool) (fun z=>[(0,.ipt 1 [[.isl 6 (List.map rApiClass v1)]] 0 0),(1,iA v2),(5,.msl 0 0 (List.length z.1)),(6,bA z.2.1),(7,bA z.2.2)]) (fun z=>[some (1,List.map rB z.1)]) (fun b=>[(1,iA v2),(5,.msl 0 0 (List.length b))]) (fun b=>[some (1,List.map rB b)]) (fun r env st=>PostF Tryz.prog Tryz.f66 0 (bA r) [] env st) ho ⟨[.old 0],ce j0 j0<|ce j0 j0<|cv j0 (.msl j0)<|ce j0 j0<|ce j0 j0<|cn,j0,⟨⟨_,j0,rsMap (fun _=>j0)⟩,j5⟩,j0,j1⟩ ?_ ?_ ?_
 ·
  rintro ⟨v71,v72,v73⟩ r h
  replace h : ref7_Hier_above_l25 v1 v2 v71 v72 v73 = some r:=h
  unfold ref7_Hier_above_l25 at h
  refine sw_seq ?_
  refine rg j0<|u<|mv j0<|r_nil ?_
  refine sw_cond j0 (fun hc48=>?_) (fun hc48=>?_)
  ·
   replace h:=bT hc48 h
   refine sw_skip ?_
   refine sw_seq ?_
   refine sw_block ?_
   refine rg j0<|u<|asg j0<|r_nil ?_
   refine rg j0<|u<|asg j0<|r_nil ?_
   obtain ⟨o,ho,h⟩:=bs h
   refine sw_lpl (X:=(List Bool) × Bool × Int) (B:=(List Bool) × Bool) (R:=Bool) (fun z=>[(0,.ipt 1 [[.isl 6 (List.map rApiClass v1)]] 0 0),(1,iA v2),(5,.msl 0 0 (List.length z.1)),(6,bA z.2.1),(7,bA v73),(8,iA z.2.2)]) (fun z=>[some (1,List.map rB z.1)]) (fun b=>[(0,.ipt 1 [[.isl 6 (List.map rApiClass v1)]] 0 0),(1,iA v2),(5,.msl 0 0 (List.length b.1)),(6,bA b.2)]) (fun b=>[some (1,List.map rB b.1)]) (fun r env st=>PostF Tryz.prog Tryz.f66 0 (bA r) [] env st) ho ⟨[.old 0],ce j0 j0<|ce j0 j0<|cv j0 (.msl j0)<|ce j0 j0<|ce j0 j0<|ce j0 j0<|cn,j0,⟨⟨_,j0,rsMap (fun _=>j0)⟩,j5⟩,j0,j1⟩ ?_ ?_ ?_
   ·
    rintro ⟨v105,v106,v107⟩ r h
    replace h : ref7_Hier_above_l23 v1 v2 v73 v105 v106 v107 = some r:=h
    unfold ref7_Hier_above_l23 at h
    refine sw_seq ?_
    refine rg j0<|u<|mv j0<|u<|mv j0<|u<|nc j0 j0<|u<|fa ti51 j0 j0 j0<|u<|ld ti22 j0 j0<|u<|lnI ti22 j0 j0<|u<|lss ti3 j0 j0<|r_nil ?_
    refine sw_cond j0 (fun hc73=>?_) (fun hc73=>?_)
    ·
     replace h:=bT hc73 h
     refine sw_skip ?_
     refine sw_meet (X:=(List Bool) × Bool) (fun z=>[(0,.ipt 1 [[.isl 6 (List.map rApiClass v1)]] 0 0),(1,iA v2),(5,.msl 0 0 (List.length z.1)),(6,bA z.2),(7,bA v73),(8,iA v107)]) (fun z=>[some (1,List.map rB z.1)]) (fun z=>ref7_Hier_above_j22 v107 z.1 z.2 = some r) ?_ ?_
     ·
      refine sw_block ?_
      refine sw_seq ?_
      obtain ⟨v108,q74,h⟩:=bs h
      refine rg j0<|u<|mv j0<|u<|mv j0<|u<|ixM ti64 j0 ti4 j0 j0 j0 j0 q74<|u<|ldM ti4 j0 j0 (idx_some q74).2.2 j0<|u<|nt j0<|u<|mv j0<|r_and (j:=5) 7 j0 j0 j0 j0 j0 gpn (fun hb75=>g j0 hb75<|mv j0<|g j0 hb75<|mv j0<|r_and (j:=7) 3 j0 j0 j0 j0 j0 (gps j0 j0 hb75) (fun hb76=>g j0 hb76<|mv j0<|g j0 hb76<|mv j0<|g j0 hb76<|eql ti3 j0 j0<|r_nil (egA [36,37,38] 3 hb76 j0 j0 j0 j0)) andF<|g j0 hb75<|nt j0<|r_nil (egA [34,35,36,37,38,39,40] 4 hb75 j0 j0 j0 j0)) andF<|r_nil ?_
      refine sw_cond j0 (fun hc77=>?_) (fun hc77=>?_)
      ·
       replace h:=bT hc77 h
       refine sw_exit ?_
       exact ⟨⟨v105,v106⟩,h,[.old 0],ce j0 j0<|ce j0 j0<|cv j0 (.msl j0)<|ce j0 j0<|ce j0 j0<|ce j0 j0<|cn,j0,⟨⟨_,j0,rsMap (fun _=>j0)⟩,j5⟩,j0,j1⟩
      ·
       replace h:=bF hc77 h
       refine sw_skip ?_
       obtain ⟨v109,q78,h⟩:=bs h
       obtain ⟨v110,q79,h⟩:=bs h
       obtain ⟨v111,q80,h⟩:=bs h
       refine rd [(0,.ipt 1 [[.isl 6 (List.map rApiClass v1)]] 0 0),(1,iA v2),(5,.msl 0 0 (List.length v105)),(6,bA v106),(7,bA v73),(8,iA v107),(9,.msl 1 0 (List.length v111))] [some (1,List.map rB v105),some (1,List.map rStr v111)] [8,17] [16,15,14,13,12,11,10,9,7,6,5,4,3,2,1,0] [(58,.isl 1 (List.map rStr v110.Impl)),(57,.ipt 6 (List.map rApiClass v1) (Int.toNat v107) 3),(56,.ipt 6 (List.map rApiClass v1) (Int.toNat v107) 0),(55,iA v107),(54,.isl 6 (List.map rApiClass v1)),(53,.ipt 1 [[.isl 6 (List.map rApiClass v1)]] 0 0),(52,.ipt 1 [[.isl 6 (List.map rApiClass v1)]] 0 0),(51,.ipt 1 [[.isl 6 (List.map rApiClass v1)]] 0 0),(49,sA v109.Super),(48,.ipt 6 (List.map rApiClass v1) (Int.toNat v107) 1),(47,.ipt 6 (List.map rApiClass v1) (Int.toNat v107) 0),(46,iA v107),(45,.isl 6 (List.map rApiClass v1)),(44,.ipt 1 [[.isl 6 (List.map rApiClass v1)]] 0 0),(43,.ipt 1 [[.isl 6 (List.map rApiClass v1)]] 0 0),(42,.ipt 1 [[.isl 6 (List.map rApiClass v1)]] 0 0)] 2 (by kernel_rfl) (by kernel_rfl) j0 (by kernel_rfl) (dtS ⟨(fun _=>pa j0 j0 j0 j0 (ldI ti32 j0 (idx_some q79).2.2 j0<|j4)),(fun _=>pa j0 j0 j0 j0 (fa ti42 j0 j0 j0<|j4)),(fun _=>pa j0 j0 j0 j0 (ixI ti22 j0 ti42 j0 j0 j0 q79<|j4)),(fun _=>pa j0 j0 j0 j0 (mv j0<|j4)),(fun _=>pa j0 j0 j0 j0 (ld ti22 j0 j0<|j4)),(fun _=>pa j0 j0 j0 j0 (fa ti51 j0 j0 j0<|j4)),(fun _=>pa j0 j0 j0 j0 (nc j0 j0<|j4)),(fun _=>pa j0 j0 j0 j0 (mv j0<|j4)),(fun _=>pa j0 j0 j0 j0 (ldI ti9 j0 (idx_some q78).2.2 j0<|j4)),(fun _=>pa j0 j0 j0 j0 (fa ti42 j0 j0 j0<|j4)),(fun _=>pa j0 j0 j0 j0 (ixI ti22 j0 ti42 j0 j0 j0 q78<|j4)),(fun _=>pa j0 j0 j0 j0 (mv j0<|j4)),(fun _=>pa j0 j0 j0 j0 (ld ti22 j0 j0<|j4)),(fun _=>pa j0 j0 j0 j0 (fa ti51 j0 j0 j0<|j4)),(fun _=>pa j0 j0 j0 j0 (nc j0 j0<|j4)),(fun _=>pa j0 j0 j0 j0 (mv j0<|j4)),j5⟩ (by kernel_rfl) j0 ⟨(fun _ _=>⟨_,j0,j0,bl 1 ti32 j0 ti9 j0 (by decide) (by decide) j0 j0 j0<|⟨(.msl 1 0 1),[],[(50,.msl 1 0 1)],j0,j0,by kernel_rfl,j0,dtS ⟨(fun _=>pa j0 j0 j0 j0 (ldI ti32 j0 (idx_some q79).2.2 j0<|j4)),(fun _=>pa j0 j0 j0 j0 (fa ti42 j0 j0 j0<|j4)),(fun _=>pa j0 j0 j0 j0 (ixI ti22 j0 ti42 j0 j0 j0 q79<|j4)),(fun _=>pa j0 j0 j0 j0 (mv j0<|j4)),(fun _=>pa j0 j0 j0 j0 (ld ti22 j0 j0<|j4)),(fun _=>pa j0 j0 j0 j0 (fa ti51 j0 j0 j0<|j4)),(fun _=>pa j0 j0 j0 j0 (nc j0 j0<|j4)),(fun _=>pa j0 j0 j0 j0 (mv j0<|j4)),(fun h=>by cases h),(fun _=>pa j0 j0 j0 j0 (fa ti42 j0 j0 j0<|j4)),(fun _=>pa j0 j0 j0 j0 (ixI ti22 j0 ti42 j0 j0 j0 q78<|j4)),(fun _=>pa j0 j0 j0 j0 (mv j0<|j4)),(fun _=>pa j0 j0 j0 j0 (ld ti22 j0 j0<|j4)),(fun _=>pa j0 j0 j0 j0 (fa ti51 j0 j0 j0<|j4)),(fun _=>pa j0 j0 j0 j0 (nc j0 j0<|j4)),(fun _=>pa j0 j0 j0 j0 (mv j0<|j4)),j5⟩ (by kernel_rfl) j0 ⟨(fun h=>by cases h),(fun _ _=>⟨_,j0,j0,apM (l:=[v109.Super]) (f:=rStr) 2 ti32 j0 ti9 j0 j0 (by decide) ti32 j0 j0 j0 j0 roI (fun _=>j0) j0 q80<|⟨(.msl 2 0 (List.length v111)),[18],[(9,.msl 2 0 (List.length v111)),(59,.msl 2 0 (List.length v111))],j0,j0,by kernel_rfl,j0,dt0 ⟨(fun _=>pa j0 j0 j0 j0 (asg j0<|j4)),(fun h=>by cases h),(fun _=>pa j0 j0 j0 j0 (fa ti42 j0 j0 j0<|j4)),(fun _=>pa j0 j0 j0 j0 (ixI ti22 j0 ti42 j0 j0 j0 q79<|j4)),(fun _=>pa j0 j0 j0 j0 (mv j0<|j4)),(fun _=>pa j0 j0 j0 j0 (ld ti22 j0 j0<|j4)),(fun _=>pa j0 j0 j0 j0 (fa ti51 j0 j0 j0<|j4)),(fun _=>pa j0 j0 j0 j0 (nc j0 j0<|j4)),(fun _=>pa j0 j0 j0 j0 (mv j0<|j4)),(fun h=>by cases h),(fun _=>pa j0 j0 j0 j0 (fa ti42 j0 j0 j0<|j4)),(fun _=>pa j0 j0 j0 j0 (ixI ti22 j0 ti42 j0 j0 j0 q78<|j4)),(fun _=>pa j0 j0 j0 j0 (mv j0<|j4)),(fun _=>pa j0 j0 j0 j0 (ld ti22 j0 j0<|j4)),(fun _=>pa j0 j0 j0 j0 (fa ti51 j0 j0 j0<|j4)),(fun _=>pa j0 j0 j0 j0 (nc j0 j0<|j4)),(fun _=>pa j0 j0 j0 j0 (mv j0<|j4)),j5⟩ (by kernel_rfl) j0 ⟨[.old 0,.old 2],ce j0 j0<|ce j0 j0<|cv j0 (.msl j0)<|ce j0 j0<|ce j0 j0<|ce j0 j0<|cv j0 (.msl j0)<|cn,j0,⟨⟨_,j0,rsMap (fun _=>j0)⟩,⟨_,j0,rsMap (fun _=>j0)⟩,j5⟩,j0,j1⟩⟩⟩),j5⟩⟩⟩),(fun _ h=>by cases h),j5⟩) ?_
       refine rg j0<|u<|asg j0<|r_nil ?_
       obtain ⟨o,ho,h⟩:=bs h
       refine sw_lpl (X:=(List Bool) × Bool × Int) (B:=(List Bool) × Bool) (R:=Bool) (fun z=>[(0,.ipt 1 [[.isl 6 (List.map rApiClass v1)]] 0 0),(1,iA v2),(5,.msl 0 0 (List.length z.1)),(6,bA z.2.1),(7,bA v73),(8,iA v107),(9,.msl 1 0 (List.length v111)),(10,iA z.2.2)]) (fun z=>[some (1,List.map rB z.1),some (1,List.map rStr v111)]) (fun b=>[(0,.ipt 1 [[.isl 6 (List.map rApiClass v1)]] 0 0),(1,iA v2),(5,.msl 0 0 (List.length b.1)),(6,bA b.2),(7,bA v73),(8,iA v107)]) (fun b=>[some (1,List.map rB b.1)]) (fun r env st=>PostF Tryz.prog Tryz.f66 0 (bA r) [] env st) ho ⟨[.old 0,.old 1],ce j0 j0<|ce j0 j0<|cv j0 (.msl j0)<|ce j0 j0<|ce j0 j0<|ce j0 j0<|cv j0 (.msl j0)<|ce j0 j0<|cn,j0,⟨⟨_,j0,rsMap (fun _=>j0)⟩,⟨_,j0,rsMap (fun _=>j0)⟩,j5⟩,j0,j1⟩ ?_ ?_ ?_
       ·
        rintro ⟨v122,v123,v124⟩ r h
        replace h : ref7_Hier_above_l20 v1 v111 v122 v123 v124 = some r:=h
        unfold ref7_Hier_above_l20 at h
        refine sw_seq ?_
        refine rg j0<|u<|mv j0<|u<|mv j0<|u<|lnM ti32 j0 j0 j0<|u<|lss ti3 j0 j0<|r_nil ?_
        refine sw_cond j0 (fun hc89=>?_) (fun hc89=>?_)
        ·
         replace h:=bT hc89 h
         refine sw_skip ?_
         refine sw_meet (X:=(List Bool) × Bool) (fun z=>[(0,.ipt 1 [[.isl 6 (List.map rApiClass v1)]] 0 0),(1,iA v2),(5,.msl 0 0 (List.length z.1)),(6,bA z.2),(7,bA v73),(8,iA v107),(9,.msl 1 0 (List.length v111)),(10,iA v124)]) (fun z=>[some (1,List.map rB z.1),some (1,List.map rStr v111)]) (fun z=>ref7_Hier_above_j19 v124 z.1 z.2 = some r) ?_ ?_
         ·
          refine sw_block ?_
          obtain ⟨v125,q90,h⟩:=bs h
          obtain ⟨v126,q91,h⟩:=bs h
          refine rg j0<|u<|mv j0<|u<|mv j0<|u<|mv j0<|u<|ixM ti32 j0 ti9 j0 j0 j0 j0 q90<|u<|ldM ti9 j0 j0 (idx_some q90).2.2 j0<|u<|pc (ref7_Hier_At_ok v1 v125 q91) j0 j0 j0<|u<|asg j0<|r_nil ?_
          obtain ⟨v128,q94,h⟩:=bs h
          refine rg j0<|u<|mv j0<|u<|geq ti3 j0 j0<|u<|mv j0<|r_and (x:=v128) (j:=2) 5 j0 j0 j0 j0 j0 gpn (fun hb92=>by replace q94:=bT hb92 q94; obtain ⟨v127,q93,q94⟩:=bs q94; obtain rfl:=sm q94; exact g j0 hb92<|mv j0<|g j0 hb92<|mv j0<|g j0 hb92<|ixM ti64 j0 ti4 j0 j0 j0 j0 q93<|g j0 hb92<|ldM ti4 j0 j0 (idx_some q93).2.2 j0<|g j0 hb92<|nt j0<|r_nil (eg [75,76,77,78,79] 5 j0 j0 j0 j0)) (fun hb=>(sm (bF hb q94)).symm)<|r_nil ?_
          refine sw_cond j0 (fun hc95=>?_) (fun hc95=>?_)
          ·
           replace h:=bT hc95 h
           obtain ⟨v129,q96,h⟩:=bs h
           exact rl j0<|u<|mv j0<|u<|mv j0<|u<|ixM ti64 j0 ti4 j0 j0 j0 j0 q96<|u<|stoM (c':=true) ti4 j0 j0 (idx_some q96).2.2 j0 j0 j0 j0 j0<|u<|asg j0<|r_nil (⟨⟨(List.set v122 (Int.toNat v126) true),true⟩,h,[.old 0,.old 1],ce j0 j0<|ce j0 j0<|cv j0 (mslE (by simp) j0)<|ce j0 j0<|ce j0 j0<|ce j0 j0<|cv j0 (.msl j0)<|ce j0 j0<|cn,j0,⟨⟨_,j0,rsMap (fun _=>j0)⟩,⟨_,j0,rsMap (fun _=>j0)⟩,j5⟩,j0,j1⟩)
          ·
           replace h:=bF hc95 h
           refine sw_skip ?_
           exact ⟨⟨v122,v123⟩,h,[.old 0,.old 1],ce j0 j0<|ce j0 j0<|cv j0 (.msl j0)<|ce j0 j0<|ce j0 j0<|ce j0 j0<|cv j0 (.msl j0)<|ce j0 j0<|cn,j0,⟨⟨_,j0,rsMap (fun _=>j0)⟩,⟨_,j0,rsMap (fun _=>j0)⟩,j5⟩,j0,j1⟩
         ·
          rintro ⟨v130,v131⟩ h
          replace h : ref7_Hier_above_j19 v124 v130 v131 = some r:=h
          unfold ref7_Hier_above_j19 at h
          refine rl j0<|u<|mv j0<|u<|add ti3 j0 j0<|u<|asg j0<|r_nil ?_
          obtain rfl:=sm h
          exact ⟨_,j0,[.old 0,.old 1],ce j0 j0<|ce j0 j0<|cv j0 (.msl j0)<|ce j0 j0<|ce j0 j0<|ce j0 j0<|cv j0 (.msl j0)<|ce j0 j0<|cn,j0,⟨⟨_,j0,rsMap (fun _=>j0)⟩,⟨_,j0,rsMap (fun _=>j0)⟩,j5⟩,j0,j1⟩
        ·
         replace h:=bF hc89 h
         refine sw_exit ?_
         obtain rfl:=sm h
         exact ⟨j0,_,j0,[.old 0],ce j0 j0<|ce j0 j0<|cv j0 (.msl j0)<|ce j0 j0<|ce j0 j0<|ce j0 j0<|cn,j0,⟨⟨_,j0,rsMap (fun _=>j0)⟩,j5⟩,j0,j1⟩
       ·
        rintro ⟨v132,v133⟩ rfl
        replace h : ref7_Hier_above_k21 v107 v132 v133 = some r:=h
        unfold ref7_Hier_above_k21 at h
        refine ow_intro ?_
        exact ⟨⟨v132,v133⟩,h,[.old 0],ce j0 j0<|ce j0 j0<|cv j0 (.msl j0)<|ce j0 j0<|ce j0 j0<|ce j0 j0<|cn,j0,⟨⟨_,j0,rsMap (fun _=>j0)⟩,j5⟩,j0,j1⟩
       ·
        rintro r' rfl env st hp
        obtain rfl:=sm h
        exact ⟨_,j0,hp⟩
     ·
      rintro ⟨v134,v135⟩ h
      replace h : ref7_Hier_above_j22 v107 v134 v135 = some r:=h
      unfold ref7_Hier_above_j22 at h
      refine rl j0<|u<|mv j0<|u<|add ti3 j0 j0<|u<|asg j0<|r_nil ?_
      obtain rfl:=sm h
      exact ⟨_,j0,[.old 0],ce j0 j0<|ce j0 j0<|cv j0 (.msl j0)<|ce j0 j0<|ce j0 j0<|ce j0 j0<|cn,j0,⟨⟨_,j0,rsMap (fun _=>j0)⟩,j5⟩,j0,j1⟩
    ·
     replace h:=bF hc73 h
     refine sw_exit ?_
     obtain rfl:=sm h
     exact ⟨j0,_,j0,[.old 0],ce j0 j0<|ce j0 j0<|cv j0 (.msl j0)<|ce j0 j0<|cn,j0,⟨⟨_,j0,rsMap (fun _=>j0)⟩,j5⟩,j0,j1⟩
   ·
    rintro ⟨v136,v137⟩ rfl
    replace h : ref7_Hier_above_k24 v136 v137 = some r:=h
    unfold ref7_Hier_above_k24 at h
    refine ow_intro ?_
    refine rl j0<|u<|asg j0<|r_nil ?_
    obtain rfl:=sm h
    exact ⟨_,j0,[.old 0],ce j0 j0<|ce j0 j0<|cv j0 (.msl j0)<|ce j0 j0<|ce j0 j0<|cn,j0,⟨⟨_,j0,rsMap (fun _=>j0)⟩,j5⟩,j0,j1⟩
   ·
    rintro r' rfl env st hp
    obtain rfl:=sm h
    exact ⟨_,j0,hp⟩
  ·
   replace h:=bF hc48 h
   refine sw_exit ?_
   obtain rfl:=sm h
   exact ⟨j0,_,j0,[.old 0],ce j0 j0<|cv j0 (.msl j0)<|cn,j0,⟨⟨_,j0,rsMap (fun _=>j0)⟩,j5⟩,j0,j1⟩
 ·
  rintro v138 rfl
  replace h : ref7_Hier_above_k26 v2 v138 = some r:=h
  unfold ref7_Hier_above_k26 at h
  refine ow_intro ?_
  obtain ⟨v139,q97,h⟩:=bs h
  refine rg j0<|u<|mv j0<|u<|mv j0<|u<|ixM ti64 j0 ti4 j0 j0 j0 j0 q97<|u<|ldM ti4 j0 j0 (idx_some q97).2.2 j0<|u<|asg j0<|r_nil ?_
  refine sw_ret ?_
  obtain rfl:=sm h
  exact ⟨_,j0,[],ci j0,j0,j5,j0,j1⟩
 ·
  rintro r' rfl env st hp
  obtain rfl:=sm h
  exact hp
def ref7_New_k16 (v21 : List ApiClass) : Option ((Option Ref7Hier) × Int) :=
  some ((some (Ref7Hier.mk v21)),0)
def ref7_New_k14 (v57 : Int) (v73 : Bool) : Option (Sum (Int) (Sum (Unit) ((Option Ref7Hier) × Int))) :=
  cond v73 (some (.inr (.inr (none,1)))) (some (.inl (IntKind.i64.wrap (v57 + 1))))
def ref7_New_l13 (v21 : List ApiClass) (v58 : ApiClass) (v68 : Bool) (v69 : Int) : Option (Sum (Bool × Int) (Sum (Bool) ((Option Ref7Hier) × Int))) :=
  cond (decide (v69 < (List.length v58.Impl : Int))) (cond v68 (some (.inl (true,(IntKind.i64.wrap (v69 + 1))))) ((idx v58.Impl v69).bind fun v70=>(ref7_Hier_At v21 v70).bind fun v71=>(idx v21 v71).bind fun v72=>some (.inl ((!v72.Interface),(IntKind.i64.wrap (v69 + 1)))))) (some (.inr (.inl v68)))
def ref7_New_j12 (v21 : List ApiClass) (v57 : Int) (v58 : ApiClass) (v62 : Bool) : Option (Sum (Int) (Sum (Unit) ((Option Ref7Hier) × Int))) :=
  (loopP (fun z=>ref7_New_l13 v21 v58 z.1 z.2) (v62,0)).bind fun o=>leave o (fun b=>ref7_New_k14 v57 b) (fun r=>some (.inr (.inr r)))
def ref7_New_l15 (v21 : List ApiClass) (v57 : Int) : Option (Sum (Int) (Sum (Unit) ((Option Ref7Hier) × Int))) :=
  cond (decide (v57 < ((List.length v21) : Int))) ((idx v21 v57).bind fun v58=>(ref7_Hier_At v21 v58.Super).bind fun v59=>(idx v21 v59).bind fun v60=>cond v60.Interface (ref7_New_j12 v21 v57 v58 true) ((ref7_Hier_above v21 v57).bind fun v61=>ref7_New_j12 v21 v57 v58 v61)) (some (.inr (.inl ())))
def ref7_New_k8 (v21 : List ApiClass) : Option ((Option Ref7Hier) × Int) :=
  (loopP (fun z=>ref7_New_l15 v21 z) 1).bind fun o=>leave o (fun b=>ref7_New_k16 v21) some
def ref7_New_k6 (v31 : Int) : Option (Sum (Int) (Sum (Unit) ((Option Ref7Hier) × Int))) :=
  some (.inl (IntKind.i64.wrap (v31 + 1)))
def ref7_New_l5 (v21 : List ApiClass) (v32 : ApiClass) (v37 : Int) : Option (Sum (Int) (Sum (Unit) ((Option Ref7Hier) × Int))) :=
  cond (decide (v37 < (List.length v32.Impl : Int))) ((idx v32.Impl v37).bind fun v38=>(ref7_Hier_At v21 v38).bind fun v39=>cond (decide (v39 < 0)) (some (.inr (.inr (none,4)))) (some (.inl (IntKind.i64.wrap (v37 + 1))))) (some (.inr (.inl ())))
def ref7_New_l7 (v21 : List ApiClass) (v31 : Int) : Option (Sum (Int) (Sum (Unit) ((Option Ref7Hier) × Int))) :=
  cond (decide (v31 < ((List.length v21) : Int))) ((idx v21 v31).bind fun v32=>(ref7_Hier_At v21 v32.Super).bind fun v33=>cond (decide (v33 < 0)) (some (.inr (.inr (none,4)))) ((loopP (fun z=>ref7_New_l5 v21 v32 z) 0).bind fun o=>leave o (fun b=>ref7_New_k6 v31) (fun r=>some (.inr (.inr r))))) (some (.inr (.inl ())))
def ref7_New_k2 (v21 : List ApiClass) : Option ((Option Ref7Hier) × Int) :=
  (loopP (fun z=>ref7_New_l7 v21 z) 1).bind fun o=>leave o (fun b=>ref7_New_k8 v21) some
def ref7_New_l1 (v1 : List ApiClass) (v12 : List ApiClass) (v13 : Int) : Option (Sum ((List ApiClass) × Int) (Sum ((List ApiClass)) ((Option Ref7Hier) × Int))) :=
  cond (decide (v13 < (List.length v1 : Int))) ((idx v1 v13).bind fun v14=>(ref3_MayClass v14).bind fun v15=>(cond (!v15) (some true) ((idx v1 v13).bind fun v16=>(ref7_Hier_At v12 v16.Name).bind fun v17=>some (decide (0 ≤ v17)))).bind fun v18=>cond v18 (some (.inr (.inr (none,1)))) ((idx v1 v13).bind fun v19=>(appP 112 v12 [v19]).bind fun v20=>some (.inl (v20,(IntKind.i64.wrap (v13 + 1)))))) (some (.inr (.inl v12)))
def ref7_New (v1 : List ApiClass) : Option ((Option Ref7Hier) × Int) :=
  cond (decide (16 < (List.length v1 : Int))) (some (none,3)) ((ref7_given).bind fun v2=>(loopP (fun z=>ref7_New_l1 v1 z.1 z.2) (v2,0)).bind fun o=>leave o (fun b=>ref7_New_k2 b) some)
theorem ref7_New_ok (v1 : List ApiClass) {r : (Option Ref7Hier) × Int} (h : ref7_New v1 = some r) : PureC Tryz.prog 21 [.isl 6 (List.map rApiClass v1)] (.tup [optP 1 rRef7Hier r.1,iA r.2]):=by
 refine pure_fn Tryz.func21 j0 (by kernel_rfl) j0 (immTup (immC (immP (fun _=>j0)) (j0))) ?_
 unfold ref7_New at h
 refine rg j0<|u<|asg j0<|u<|asg j0<|r_nil ?_
 refine sw_seq ?_
 refine rg j0<|u<|mv j0<|u<|lnI ti22 j0 j0<|u<|gtr ti3 j0 j0<|r_nil ?_
 refine sw_cond j0 (fun hc1=>?_) (fun hc1=>?_)
 ·
  replace h:=bT hc1 h
  refine rg j0<|u<|asg j0<|u<|asg j0<|r_nil ?_
  refine sw_ret ?_
  obtain rfl:=sm h
  exact ⟨_,j0,[],rsTup ⟨(ci j0),(ci j0),j5⟩,j0,j5,j0,j1⟩
 ·
  replace h:=bF hc1 h
  refine sw_skip ?_
  obtain ⟨v2,q2,h⟩:=bs h
  refine rg j0<|u<|sc [] (ref7_given_ok q2) j0 j0 j0 j0 j5 j5<|r_can (env0:=[(0,.isl 6 (List.map rApiClass v1)),(16,.msl 0 0 (List.length v2))]) (st0:=[some (6,List.map rApiClass v2)]) ⟨[.old 0],ce j0 j0<|cv j0 (.msl j0)<|cn,j0,⟨⟨_,j0,rsMap (fun _=>j0)⟩,j5⟩,j0,j1⟩<|u<|bd ti51 j0 j0 j0<|u<|bx 1 1 j0 j0 j0 j0<|u<|asg j0<|r_nil ?_
  refine sw_seq ?_
  refine rg j0<|u<|asg j0<|r_nil ?_
  obtain ⟨o,ho,h⟩:=bs h
  refine sw_lpl (X:=(List ApiClass) × Int) (B:=(List ApiClass)) (R:=(Option Ref7Hier) × Int) (fun z=>[(0,.isl 6 (List.map rApiClass v1)),(4,.mpt 0 0 0),(5,iA z.2)]) (fun z=>[some (1,[[.msl 1 0 (List.length z.1)]]),some (6,List.map rApiClass z.1)]) (fun b=>[(4,.mpt 0 0 0)]) (fun b=>[some (1,[[.msl 1 0 (List.length b)]]),some (6,List.map rApiClass b)]) (fun r env st=>PostF Tryz.prog Tryz.f21 0 (.tup [optP 1 rRef7Hier r.1,iA r.2]) [] env st) ho ⟨[.old 1,.old 0],ce j0 j0<|cv j0 (.mpt j0)<|ce j0 j0<|cn,j0,⟨⟨_,j0,rsOne ⟨.msl j0,j5⟩⟩,⟨_,j0,rsMap (fun _=>j0)⟩,j5⟩,j0,j1⟩ ?_ ?_ ?_
  ·
   rintro ⟨v12,v13⟩ r h
   replace h : ref7_New_l1 v1 v12 v13 = some r:=h
   unfold ref7_New_l1 at h
   refine sw_seq ?_
   refine rg j0<|u<|mv j0<|u<|mv j0<|u<|lnI ti22 j0 j0<|u<|lss ti3 j0 j0<|r_nil ?_
   refine sw_cond j0 (fun hc13=>?_) (fun hc13=>?_)
   ·
    replace h:=bT hc13 h
    refine sw_skip ?_
    refine sw_seq ?_
    refine sw_block ?_
    refine sw_seq ?_
    obtain ⟨v14,q14,h⟩:=bs h
    obtain ⟨v15,q15,h⟩:=bs h
    obtain ⟨v18,q19,h⟩:=bs h
    refine rg j0<|u<|mv j0<|u<|mv j0<|u<|ixI ti22 j0 ti42 j0 j0 j0 q14<|u<|ldI ti42 j0 (idx_some q14).2.2 j0<|u<|pc (ref3_MayClass_ok v14 q15) j0 j0 j0<|u<|nt j0<|u<|mv j0<|r_or (x:=v18) (j:=6) 8 j0 j0 j0 j0 j0 gpn (fun hb16=>by replace q19:=bF hb16 q19; obtain ⟨v16,q17,q19⟩:=bs q19; obtain ⟨v17,q18,q19⟩:=bs q19; obtain rfl:=sm q19; exact g j0 hb16<|mv j0<|g j0 hb16<|mv j0<|g j0 hb16<|mv j0<|g j0 hb16<|ixI ti22 j0 ti42 j0 j0 j0 q17<|g j0 hb16<|fa ti42 j0 j0 j0<|g j0 hb16<|ldI ti9 j0 (idx_some q17).2.2 j0<|g j0 hb16<|pcs (ref7_Hier_At_ok v12 v16.Name q18) j0 j0 (.cons (sealBox j0 ⟨(sealM j0 (fun _=>j0)),j5⟩) (.cons (si j0) .nil)) plainB<|g j0 hb16<|geq ti3 j0 j0<|r_nil (eg [32,33,34,35,36,37,38,39] 8 j0 j0 j0 j0)) (fun hb=>(sm (bT hb q19)).symm)<|r_nil ?_
    refine sw_cond j0 (fun hc20=>?_) (fun hc20=>?_)
    ·
     replace h:=bT hc20 h
     refine rg j0<|u<|asg j0<|u<|asg j0<|r_nil ?_
     refine sw_ret ?_
     obtain rfl:=sm h
     exact ⟨_,j0,_,j0,[],rsTup ⟨(ci j0),(ci j0),j5⟩,j0,j5,j0,j1⟩
    ·
     replace h:=bF hc20 h
     refine sw_skip ?_
     obtain ⟨v19,q21,h⟩:=bs h
     obtain ⟨v20,q22,h⟩:=bs h
     refine rdL [(0,.isl 6 (List.map rApiClass v1)),(4,.mpt 0 0 0),(5,iA v13)] [some (1,[[.msl 1 0 (List.length v20)]]),some (6,List.map rApiClass v20)] [9,10,13] [8,7,6,5,4,3,2,1,0] [(49,.agg [sA v19.Name,sA v19.Super,bA v19.Interface,.isl 1 (List.map rStr v19.Impl),.isl 3 (List.map rApiField v19.Fields),.isl 10 (List.map rApiMethod v19.Methods)]),(48,.ipt 6 (List.map rApiClass v1) (Int.toNat v13) 0),(47,iA v13),(46,.isl 6 (List.map rApiClass v1)),(45,.msl 1 0 (List.length v12)),(44,.mpt 0 0 0),(43,.mpt 0 0 0),(42,.mpt 0 0 0),(41,.mpt 0 0 0)] 3 (by kernel_rfl) (by kernel_rfl) j0 (by kernel_rfl) (dtS ⟨(fun _=>pa j0 j0 j0 j0 (ldI ti42 j0 (idx_some q21).2.2 j0<|j4)),(fun _=>pa j0 j0 j0 j0 (ixI ti22 j0 ti42 j0 j0 j0 q21<|j4)),(fun _=>pa j0 j0 j0 j0 (mv j0<|j4)),(fun _=>pa j0 j0 j0 j0 (mv j0<|j4)),(fun _=>pa j0 j0 j0 j0 (ld ti22 j0 j0<|j4)),(fun _=>pa j0 j0 j0 j0 (fa ti51 j0 j0 j0<|j4)),(fun _=>pa j0 j0 j0 j0 (nc j0 j0<|j4)),(fun _=>pa j0 j0 j0 j0 (mv j0<|j4)),(fun _=>pa j0 j0 j0 j0 (mv j0<|j4)),j5⟩ (by kernel_rfl) j0 ⟨(fun _ _=>⟨_,j0,j0,bl 2 ti22 j0 ti42 j0 (by decide) (by decide) j0 j0 j0<|⟨(.msl 2 0 1),[],[(50,.msl 2 0 1)],j0,j0,by kernel_rfl,j0,dtS ⟨(fun h=>by cases h),(fun _=>pa j0 j0 j0 j0 (ixI ti22 j0 ti42 j0 j0 j0 q21<|j4)),(fun _=>pa j0 j0 j0 j0 (mv j0<|j4)),(fun _=>pa j0 j0 j0 j0 (mv j0<|j4)),(fun _=>pa j0 j0 j0 j0 (ld ti22 j0 j0<|j4)),(fun _=>pa j0 j0 j0 j0 (fa ti51 j0 j0 j0<|j4)),(fun _=>pa j0 j0 j0 j0 (nc j0 j0<|j4)),(fun _=>pa j0 j0 j0 j0 (mv j0<|j4)),(fun _=>pa j0 j0 j0 j0 (mv j0<|j4)),j5⟩ (by kernel_rfl) j0 ⟨(fun h=>by cases h),(fun _ _=>⟨_,j0,j0,apM 3 ti22 j0 ti42 j0 j0 (by decide) ti22 j0 j0 j0 j0 (roX (f:=rApiClass) (z:=[v19]) j0 j0) (fun _=>j0) j0 q22<|⟨(.msl 3 0 (List.length v20)),[12,11],[(53,.mpt 0 0 0),(52,.mpt 0 0 0),(51,.msl 3 0 (List.length v20))],j0,j0,by kernel_rfl,j0,dtS ⟨(fun _=>pa j0 j0 j0 j0 (fa ti51 j0 j0 j0<|j4)),(fun _=>pa j0 j0 j0 j0 (nc j0 j0<|j4)),(fun h=>by cases h),(fun _=>pa j0 j0 j0 j0 (ixI ti22 j0 ti42 j0 j0 j0 q21<|j4)),(fun _=>pa j0 j0 j0 j0 (mv j0<|j4)),(fun _=>pa j0 j0 j0 j0 (mv j0<|j4)),(fun h=>by cases h),(fun _=>pa j0 j0 j0 j0 (fa ti51 j0 j0 j0<|j4)),(fun _=>pa j0 j0 j0 j0 (nc j0 j0<|j4)),(fun _=>pa j0 j0 j0 j0 (mv j0<|j4)),(fun _=>pa j0 j0 j0 j0 (mv j0<|j4)),j5⟩ (by kernel_rfl) j0 ⟨(fun h=>by cases h),(fun h=>by cases h),(fun _ _=>⟨_,j0,j0,sto ti22 j0 j0 j0<|⟨.any,[],[],j0,j0,by kernel_rfl,j5,dt0 ⟨(fun h=>by cases h),(fun _=>pa j0 j0 j0 j0 (nc j0 j0<|j4)),(fun h=>by cases h),(fun h=>by cases h),(fun h=>by cases h),(fun h=>by cases h),(fun h=>by cases h),(fun h=>by cases h),(fun h=>by cases h),(fun h=>by cases h),(fun h=>by cases h),j5⟩ (by kernel_rfl) j0 ⟨[.old 0,.old 3],ce j0 j0<|cv j0 (.mpt j0)<|ce j0 j0<|cn,j0,⟨⟨_,j0,rsOne ⟨.msl j0,j5⟩⟩,⟨_,j0,rsMap (fun _=>j0)⟩,j5⟩,j0,j1⟩⟩⟩),j5⟩⟩⟩),(fun _ h=>by cases h),j5⟩⟩⟩),(fun _ h=>by cases h),(fun _ h=>by cases h),j5⟩) ?_
     refine rl j0<|u<|mv j0<|u<|add ti3 j0 j0<|u<|asg j0<|r_nil ?_
     obtain rfl:=sm h
     exact ⟨_,j0,[.old 0,.old 1],ce j0 j0<|cv j0 (.mpt j0)<|ce j0 j0<|cn,j0,⟨⟨_,j0,rsOne ⟨.msl j0,j5⟩⟩,⟨_,j0,rsMap (fun _=>j0)⟩,j5⟩,j0,j1⟩
   ·
    replace h:=bF hc13 h
    refine sw_exit ?_
    obtain rfl:=sm h
    exact ⟨j0,_,j0,[.old 0,.old 1],cv j0 (.mpt j0)<|cn,j0,⟨⟨_,j0,rsOne ⟨.msl j0,j5⟩⟩,⟨_,j0,rsMap (fun _=>j0)⟩,j5⟩,j0,j1⟩
  ·
   rintro v21 rfl
   replace h : ref7_New_k2 v21 = some r:=h
   unfold ref7_New_k2 at h
   refine ow_intro ?_
   refine sw_seq ?_
   refine rg j0<|u<|asg j0<|r_nil ?_
   obtain ⟨o,ho,h⟩:=bs h
   refine sw_lpl (X:=Int) (B:=Unit) (R:=(Option Ref7Hier) × Int) (fun z=>[(4,.mpt 0 0 0),(6,iA z)]) (fun z=>[some (1,[[.msl 1 0 (List.length v21)]]),some (6,List.map rApiClass v21)]) (fun b=>[(4,.mpt 0 0 0)]) (fun b=>[some (1,[[.msl 1 0 (List.length v21)]]),some (6,List.map rApiClass v21)]) (fun r env st=>PostF Tryz.prog Tryz.f21 0 (.tup [optP 1 rRef7Hier r.1,iA r.2]) [] env st) ho ⟨[.old 0,.old 1],cv j0 (.mpt j0)<|ce j0 j0<|cn,j0,⟨⟨_,j0,rsOne ⟨.msl j0,j5⟩⟩,⟨_,j0,rsMap (fun _=>j0)⟩,j5⟩,j0,j1⟩ ?_ ?_ ?_
   ·
    rintro v31 r h
    replace h : ref7_New_l7 v21 v31 = some r:=h
    unfold ref7_New_l7 at h
    refine sw_seq ?_
    refine rg j0<|u<|mv j0<|u<|mv j0<|u<|nc j0 j0<|u<|fa ti51 j0 j0 j0<|u<|ld ti22 j0 j0<|u<|lnM ti22 j0 j0 j0<|u<|lss ti3 j0 j0<|r_nil ?_
    refine sw_cond j0 (fun hc35=>?_) (fun hc35=>?_)
    ·
     replace h:=bT hc35 h
     refine sw_skip ?_
     refine sw_seq ?_
     refine sw_block ?_
     obtain ⟨v32,q36,h⟩:=bs h
     refine rg j0<|u<|mv j0<|u<|nc j0 j0<|u<|fa ti51 j0 j0 j0<|u<|ld ti22 j0 j0<|u<|mv j0<|u<|ixM ti22 j0 ti42 j0 j0 j0 j0 q36<|u<|ldM ti42 j0 j0 (idx_some q36).2.2 j0<|u<|al 2 ti42 j0<|u<|sto ti42 j0 j0 j0<|r_nil ?_
     refine sw_seq ?_
     obtain ⟨v33,q37,h⟩:=bs h
     refine rg j0<|u<|mv j0<|u<|fa ti42 j0 j0 j0<|u<|ld ti9 j0 j0<|u<|pcs (ref7_Hier_At_ok v21 v32.Super q37) j0 j0 (.cons (sealBox j0 ⟨(sealM j0 (fun _=>j0)),j5⟩) (.cons (si j0) .nil)) plainB<|u<|lss ti3 j0 j0<|r_nil ?_
     refine sw_cond j0 (fun hc38=>?_) (fun hc38=>?_)
     ·
      replace h:=bT hc38 h
      refine rg j0<|u<|asg j0<|u<|asg j0<|r_nil ?_
      refine sw_ret ?_
      obtain rfl:=sm h
      exact ⟨_,j0,_,j0,[],rsTup ⟨(ci j0),(ci j0),j5⟩,j0,j5,j0,j1⟩
     ·
      replace h:=bF hc38 h
      refine sw_skip ?_
      refine rg j0<|u<|asg j0<|r_nil ?_
      obtain ⟨o,ho,h⟩:=bs h
      refine sw_lpl (X:=Int) (B:=Unit) (R:=(Option Ref7Hier) × Int) (fun z=>[(4,.mpt 0 0 0),(6,iA v31),(7,.mpt 2 0 0),(8,iA z)]) (fun z=>[some (1,[[.msl 1 0 (List.length v21)]]),some (6,List.map rApiClass v21),some (6,[[sA v32.Name,sA v32.Super,bA v32.Interface,.isl 1 (List.map rStr v32.Impl),.isl 3 (List.map rApiField v32.Fields),.isl 10 (List.map rApiMethod v32.Methods)]])]) (fun b=>[(4,.mpt 0 0 0),(6,iA v31)]) (fun b=>[some (1,[[.msl 1 0 (List.length v21)]]),some (6,List.map rApiClass v21)]) (fun r env st=>PostF Tryz.prog Tryz.f21 0 (.tup [optP 1 rRef7Hier r.1,iA r.2]) [] env st) ho ⟨[.old 0,.old 1,.old 2],cv j0 (.mpt j0)<|ce j0 j0<|cv j0 (.mpt j0)<|ce j0 j0<|cn,j0,⟨⟨_,j0,rsOne ⟨.msl j0,j5⟩⟩,⟨_,j0,rsMap (fun _=>j0)⟩,⟨_,j0,rsOne ⟨ci j0,ci j0,ci j0,ci j0,ci j0,ci j0,j5⟩⟩,j5⟩,j0,j1⟩ ?_ ?_ ?_
      ·
       rintro v37 r h
       replace h : ref7_New_l5 v21 v32 v37 = some r:=h
       unfold ref7_New_l5 at h
       refine sw_seq ?_
       refine rg j0<|u<|mv j0<|u<|fa ti42 j0 j0 j0<|u<|ld ti32 j0 j0<|u<|lnI ti32 j0 j0<|u<|lss ti3 j0 j0<|r_nil ?_
       refine sw_cond j0 (fun hc43=>?_) (fun hc43=>?_)
       ·
        replace h:=bT hc43 h
        refine sw_skip ?_
        refine sw_seq ?_
        refine sw_block ?_
        obtain ⟨v38,q44,h⟩:=bs h
        obtain ⟨v39,q45,h⟩:=bs h
        refine rg j0<|u<|mv j0<|u<|fa ti42 j0 j0 j0<|u<|ld ti32 j0 j0<|u<|mv j0<|u<|ixI ti32 j0 ti9 j0 j0 j0 q44<|u<|ldI ti9 j0 (idx_some q44).2.2 j0<|u<|pcs (ref7_Hier_At_ok v21 v38 q45) j0 j0 (.cons (sealBox j0 ⟨(sealM j0 (fun _=>j0)),j5⟩) (.cons (si j0) .nil)) plainB<|u<|lss ti3 j0 j0<|r_nil ?_
        refine sw_cond j0 (fun hc46=>?_) (fun hc46=>?_)
        ·
         replace h:=bT hc46 h
         refine rg j0<|u<|asg j0<|u<|asg j0<|r_nil ?_
         refine sw_ret ?_
         obtain rfl:=sm h
         exact ⟨_,j0,_,j0,[],rsTup ⟨(ci j0),(ci j0),j5⟩,j0,j5,j0,j1⟩
        ·
         replace h:=bF hc46 h
         refine sw_skip ?_
         refine rl j0<|u<|mv j0<|u<|add ti3 j0 j0<|u<|asg j0<|r_nil ?_
         obtain rfl:=sm h
         exact ⟨_,j0,[.old 0,.old 1,.old 2],cv j0 (.mpt j0)<|ce j0 j0<|cv j0 (.mpt j0)<|ce j0 j0<|cn,j0,⟨⟨_,j0,rsOne ⟨.msl j0,j5⟩⟩,⟨_,j0,rsMap (fun _=>j0)⟩,⟨_,j0,rsOne ⟨ci j0,ci j0,ci j0,ci j0,ci j0,ci j0,j5⟩⟩,j5⟩,j0,j1⟩
       ·
        replace h:=bF hc43 h
        refine sw_exit ?_
        obtain rfl:=sm h
        exact ⟨j0,_,j0,[.old 0,.old 1],cv j0 (.mpt j0)<|ce j0 j0<|cn,j0,⟨⟨_,j0,rsOne ⟨.msl j0,j5⟩⟩,⟨_,j0,rsMap (fun _=>j0)⟩,j5⟩,j0,j1⟩
      ·
       rintro ⟨⟩ rfl
       replace h : ref7_New_k6 v31 = some r:=h
       unfold ref7_New_k6 at h
       refine ow_intro ?_
       refine rl j0<|u<|mv j0<|u<|add ti3 j0 j0<|u<|asg j0<|r_nil ?_
       obtain rfl:=sm h
       exact ⟨_,j0,[.old 0,.old 1],cv j0 (.mpt j0)<|ce j0 j0<|cn,j0,⟨⟨_,j0,rsOne ⟨.msl j0,j5⟩⟩,⟨_,j0,rsMap (fun _=>j0)⟩,j5⟩,j0,j1⟩
      ·
       rintro r' rfl env st hp
       obtain rfl:=sm h
       exact ⟨_,j0,hp⟩
    ·
     replace h:=bF hc35 h
     refine sw_exit ?_
     obtain rfl:=sm h
     exact ⟨j0,_,j0,[.old 0,.old 1],cv j0 (.mpt j0)<|cn,j0,⟨⟨_,j0,rsOne ⟨.msl j0,j5⟩⟩,⟨_,j0,rsMap (fun _=>j0)⟩,j5⟩,j0,j1⟩
   ·
    rintro ⟨⟩ rfl
    replace h : ref7_New_k8 v21 = some r:=h
    unfold ref7_New_k8 at h
    refine ow_intro ?_
    refine sw_seq ?_
    refine rg j0<|u<|asg j0<|r_nil ?_
    obtain ⟨o,ho,h⟩:=bs h
    refine sw_lpl (X:=Int) (B:=Unit) (R:=(Option Ref7Hier) × Int) (fun z=>[(4,.mpt 0 0 0),(9,iA z)]) (fun z=>[some (1,[[.msl 1 0 (List.length v21)]]),some (6,List.map rApiClass v21)]) (fun b=>[(4,.mpt 0 0 0)]) (fun b=>[some (1,[[.msl 1 0 (List.length v21)]]),some (6,List.map rApiClass v21)]) (fun r env st=>PostF Tryz.prog Tryz.f21 0 (.tup [optP 1 rRef7Hier r.1,iA r.2]) [] env st) ho ⟨[.old 0,.old 1],cv j0 (.mpt j0)<|ce j0 j0<|cn,j0,⟨⟨_,j0,rsOne ⟨.msl j0,j5⟩⟩,⟨_,j0,rsMap (fun _=>j0)⟩,j5⟩,j0,j1⟩ ?_ ?_ ?_
    ·
     rintro v57 r h
     replace h : ref7_New_l15 v21 v57 = some r:=h
     unfold ref7_New_l15 at h
     refine sw_seq ?_
     refine rg j0<|u<|mv j0<|u<|mv j0<|u<|nc j0 j0<|u<|fa ti51 j0 j0 j0<|u<|ld ti22 j0 j0<|u<|lnM ti22 j0 j0 j0<|u<|lss ti3 j0 j0<|r_nil ?_
     refine sw_cond j0 (fun hc64=>?_) (fun hc64=>?_)
     ·
      replace h:=bT hc64 h
      refine sw_skip ?_
      refine sw_seq ?_
      refine sw_block ?_
      obtain ⟨v58,q65,h⟩:=bs h
      refine rg j0<|u<|mv j0<|u<|nc j0 j0<|u<|fa ti51 j0 j0 j0<|u<|ld ti22 j0 j0<|u<|mv j0<|u<|ixM ti22 j0 ti42 j0 j0 j0 j0 q65<|u<|ldM ti42 j0 j0 (idx_some q65).2.2 j0<|u<|al 2 ti42 j0<|u<|sto ti42 j0 j0 j0<|r_nil ?_
      refine sw_meet (X:=Bool) (fun z=>[(4,.mpt 0 0 0),(9,iA v57),(10,.mpt 2 0 0),(11,bA z)]) (fun z=>[some (1,[[.msl 1 0 (List.length v21)]]),some (6,List.map rApiClass v21),some (6,[[sA v58.Name,sA v58.Super,bA v58.Interface,.isl 1 (List.map rStr v58.Impl),.isl 3 (List.map rApiField v58.Fields),.isl 10 (List.map rApiMethod v58.Methods)]])]) (fun z=>ref7_New_j12 v21 v57 v58 z = some r) ?_ ?_
      ·
       obtain ⟨v59,q66,h⟩:=bs h
       obtain ⟨v60,q67,h⟩:=bs h
       rcases bb v60.Interface with hb68 | hb68
       ·
        replace h:=bT hb68 h
        exact sw_region_dt [] [16,15,14,13,12,11,10,9,8,7,6,5,4,3,2,1,0] [(11,bA true),(121,bA true),(120,.lit undef),(119,.lit undef),(118,.lit undef),(117,bA v60.Interface),(116,bA v60.Interface),(115,.mpt 1 (Int.toNat v59) 2),(114,.mpt 1 (Int.toNat v59) 0),(113,iA v59),(112,sA v58.Super),(111,.mpt 2 0 1),(110,.mpt 0 0 0),(109,.msl 1 0 (List.length v21)),(108,.mpt 0 0 0),(107,.mpt 0 0 0),(106,.mpt 0 0 0)] 0 (by kernel_rfl) (by kernel_rfl) j0 (by kernel_rfl) (dt0 ⟨(fun _=>pa j0 j0 j0 j0 (asg j0<|j4)),(fun _=>pa j0 j0 j0 j0 (pkb j0 hb68 j0<|j4)),(fun _=>pas (b:=v60.Interface) j0 j0 j0 j0 hb68 j0),(fun _=>pas (b:=v60.Interface) j0 j0 j0 j0 hb68 j0),(fun _=>pas (b:=v60.Interface) j0 j0 j0 j0 hb68 j0),(fun _=>pa j0 j0 j0 j0 (mv j0<|j4)),(fun _=>pa j0 j0 j0 j0 (ldM ti4 j0 j0 (idx_some q67).2.2 j0<|j4)),(fun _=>pa j0 j0 j0 j0 (fa ti42 j0 j0 j0<|j4)),(fun _=>pa j0 j0 j0 j0 (ixM ti22 j0 ti42 j0 j0 j0 j0 q67<|j4)),(fun _=>pa j0 j0 j0 j0 (pcs (ref7_Hier_At_ok v21 v58.Super q66) j0 j0 (.cons (sealBox j0 ⟨(sealM j0 (fun _=>j0)),j5⟩) (.cons (si j0) .nil)) plainB<|j4)),(fun _=>pa j0 j0 j0 j0 (ld ti9 j0 j0<|j4)),(fun _=>pa j0 j0 j0 j0 (fa ti42 j0 j0 j0<|j4)),(fun _=>pa j0 j0 j0 j0 (mv j0<|j4)),(fun _=>pa j0 j0 j0 j0 (ld ti22 j0 j0<|j4)),(fun _=>pa j0 j0 j0 j0 (fa ti51 j0 j0 j0<|j4)),(fun _=>pa j0 j0 j0 j0 (nc j0 j0<|j4)),(fun _=>pa j0 j0 j0 j0 (mv j0<|j4)),j5⟩ (by kernel_rfl) j0 ⟨true,h,[.old 0,.old 1,.old 2],cv j0 (.mpt j0)<|ce j0 j0<|cv j0 (.mpt j0)<|ce j0 j0<|cn,j0,⟨⟨_,j0,rsOne ⟨.msl j0,j5⟩⟩,⟨_,j0,rsMap (fun _=>j0)⟩,⟨_,j0,rsOne ⟨ci j0,ci j0,ci j0,ci j0,ci j0,ci j0,j5⟩⟩,j5⟩,j0,j1⟩)
       ·
        replace h:=bF hb68 h
        obtain ⟨v61,q69,h⟩:=bs h
        exact sw_region_dt [] [16,15,14,13,12,11,10,9,8,7,6,5,4,3,2,1,0] [(11,bA v61),(121,bA v61),(120,bA v61),(119,iA v57),(118,.mpt 0 0 0),(117,bA v60.Interface),(116,bA v60.Interface),(115,.mpt 1 (Int.toNat v59) 2),(114,.mpt 1 (Int.toNat v59) 0),(113,iA v59),(112,sA v58.Super),(111,.mpt 2 0 1),(110,.mpt 0 0 0),(109,.msl 1 0 (List.length v21)),(108,.mpt 0 0 0),(107,.mpt 0 0 0),(106,.mpt 0 0 0)] 0 (by kernel_rfl) (by kernel_rfl) j0 (by kernel_rfl) (dt0 ⟨(fun _=>pa j0 j0 j0 j0 (asg j0<|j4)),(fun _=>pa j0 j0 j0 j0 (pkb j0 hb68 j0<|j4)),(fun _=>pag (b:=v60.Interface) j0 j0 j0 j0 hb68 j0 (pcs (ref7_Hier_above_ok v21 v57 q69) j0 j0 (.cons (sealBox j0 ⟨(sealM j0 (fun _=>j0)),j5⟩) (.cons (si j0) .nil)) plainB<|j4)),(fun _=>pag (b:=v60.Interface) j0 j0 j0 j0 hb68 j0 (mv j0<|j4)),(fun _=>pag (b:=v60.Interface) j0 j0 j0 j0 hb68 j0 (mv j0<|j4)),(fun _=>pa j0 j0 j0 j0 (mv j0<|j4)),(fun _=>pa j0 j0 j0 j0 (ldM ti4 j0 j0 (idx_some q67).2.2 j0<|j4)),(fun _=>pa j0 j0 j0 j0 (fa ti42 j0 j0 j0<|j4)),(fun _=>pa j0 j0 j0 j0 (ixM ti22 j0 ti42 j0 j0 j0 j0 q67<|j4)),(fun _=>pa j0 j0 j0 j0 (pcs (ref7_Hier_At_ok v21 v58.Super q66) j0 j0 (.cons (sealBox j0 ⟨(sealM j0 (fun _=>j0)),j5⟩) (.cons (si j0) .nil)) plainB<|j4)),(fun _=>pa j0 j0 j0 j0 (ld ti9 j0 j0<|j4)),(fun _=>pa j0 j0 j0 j0 (fa ti42 j0 j0 j0<|j4)),(fun _=>pa j0 j0 j0 j0 (mv j0<|j4)),(fun _=>pa j0 j0 j0 j0 (ld ti22 j0 j0<|j4)),(fun _=>pa j0 j0 j0 j0 (fa ti51 j0 j0 j0<|j4)),(fun _=>pa j0 j0 j0 j0 (nc j0 j0<|j4)),(fun _=>pa j0 j0 j0 j0 (mv j0<|j4)),j5⟩ (by kernel_rfl) j0 ⟨v61,h,[.old 0,.old 1,.old 2],cv j0 (.mpt j0)<|ce j0 j0<|cv j0 (.mpt j0)<|ce j0 j0<|cn,j0,⟨⟨_,j0,rsOne ⟨.msl j0,j5⟩⟩,⟨_,j0,rsMap (fun _=>j0)⟩,⟨_,j0,rsOne ⟨ci j0,ci j0,ci j0,ci j0,ci j0,ci j0,j5⟩⟩,j5⟩,j0,j1⟩)
      ·
       rintro v62 h
       replace h : ref7_New_j12 v21 v57 v58 v62 = some r:=h
       unfold ref7_New_j12 at h
       refine sw_seq ?_
       refine rg j0<|u<|asg j0<|r_nil ?_
       obtain ⟨o,ho,h⟩:=bs h
       refine sw_lpl (X:=Bool × Int) (B:=Bool) (R:=(Option Ref7Hier) × Int) (fun z=>[(4,.mpt 0 0 0),(9,iA v57),(10,.mpt 2 0 0),(11,bA z.1),(12,iA z.2)]) (fun z=>[some (1,[[.msl 1 0 (List.length v21)]]),some (6,List.map rApiClass v21),some (6,[[sA v58.Name,sA v58.Super,bA v58.Interface,.isl 1 (List.map rStr v58.Impl),.isl 3 (List.map rApiField v58.Fields),.isl 10 (List.map rApiMethod v58.Methods)]])]) (fun b=>[(4,.mpt 0 0 0),(9,iA v57),(11,bA b)]) (fun b=>[some (1,[[.msl 1 0 (List.length v21)]]),some (6,List.map rApiClass v21)]) (fun r env st=>PostF Tryz.prog Tryz.f21 0 (.tup [optP 1 rRef7Hier r.1,iA r.2]) [] env st) ho ⟨[.old 0,.old 1,.old 2],cv j0 (.mpt j0)<|ce j0 j0<|cv j0 (.mpt j0)<|ce j0 j0<|ce j0 j0<|cn,j0,⟨⟨_,j0,rsOne ⟨.msl j0,j5⟩⟩,⟨_,j0,rsMap (fun _=>j0)⟩,⟨_,j0,rsOne ⟨ci j0,ci j0,ci j0,ci j0,ci j0,ci j0,j5⟩⟩,j5⟩,j0,j1⟩ ?_ ?_ ?_
       ·
        rintro ⟨v68,v69⟩ r h
        replace h : ref7_New_l13 v21 v58 v68 v69 = some r:=h
        unfold ref7_New_l13 at h
        refine sw_seq ?_
        refine rg j0<|u<|mv j0<|u<|fa ti42 j0 j0 j0<|u<|ld ti32 j0 j0<|u<|lnI ti32 j0 j0<|u<|lss ti3 j0 j0<|r_nil ?_
        refine sw_cond j0 (fun hc75=>?_) (fun hc75=>?_)
        ·
         replace h:=bT hc75 h
         refine sw_skip ?_
         refine sw_seq ?_
         refine sw_block ?_
         rcases bb v68 with hb76 | hb76
         ·
          replace h:=bT hb76 h
          refine rdL [(4,.mpt 0 0 0),(9,iA v57),(10,.mpt 2 0 0),(11,bA true),(12,iA v69)] [some (1,[[.msl 1 0 (List.length v21)]]),some (6,List.map rApiClass v21),some (6,[[sA v58.Name,sA v58.Super,bA v58.Interface,.isl 1 (List.map rStr v58.Impl),.isl 3 (List.map rApiField v58.Fields),.isl 10 (List.map rApiMethod v58.Methods)]])] [] [18,17,16,15,14,13,12,11,10,9,8,7,6,5,4,3,2,1,0] [(11,bA true),(146,bA true),(145,.lit undef),(144,.lit undef),(143,.lit undef),(142,.lit undef),(141,.lit undef),(140,.lit undef),(139,.lit undef),(138,.lit undef),(137,.lit undef),(136,.lit undef),(135,.lit undef),(134,.lit undef),(133,.lit undef),(132,.lit undef),(131,.lit undef),(130,bA v68),(129,bA v68)] 0 (by kernel_rfl) (by kernel_rfl) j0 (by kernel_rfl) (dt0 ⟨(fun _=>pa j0 j0 j0 j0 (asg j0<|j4)),(fun _=>pa j0 j0 j0 j0 (pkb j0 hb76 j0<|j4)),(fun _=>pas (b:=v68) j0 j0 j0 j0 hb76 j0),(fun _=>pas (b:=v68) j0 j0 j0 j0 hb76 j0),(fun _=>pas (b:=v68) j0 j0 j0 j0 hb76 j0),(fun _=>pas (b:=v68) j0 j0 j0 j0 hb76 j0),(fun _=>pas (b:=v68) j0 j0 j0 j0 hb76 j0),(fun _=>pas (b:=v68) j0 j0 j0 j0 hb76 j0),(fun _=>pas (b:=v68) j0 j0 j0 j0 hb76 j0),(fun _=>pas (b:=v68) j0 j0 j0 j0 hb76 j0),(fun _=>pas (b:=v68) j0 j0 j0 j0 hb76 j0),(fun _=>pas (b:=v68) j0 j0 j0 j0 hb76 j0),(fun _=>pas (b:=v68) j0 j0 j0 j0 hb76 j0),(fun _=>pas (b:=v68) j0 j0 j0 j0 hb76 j0),(fun _=>pas (b:=v68) j0 j0 j0 j0 hb76 j0),(fun _=>pas (b:=v68) j0 j0 j0 j0 hb76 j0),(fun _=>pas (b:=v68) j0 j0 j0 j0 hb76 j0),(fun _=>pa j0 j0 j0 j0 (mv j0<|j4)),(fun _=>pa j0 j0 j0 j0 (mv j0<|j4)),j5⟩ (by kernel_rfl) j0 ⟨[.old 0,.old 1,.old 2],cv j0 (.mpt j0)<|ce j0 j0<|cv j0 (.mpt j0)<|ce j0 j0<|ce j0 j0<|cn,j0,⟨⟨_,j0,rsOne ⟨.msl j0,j5⟩⟩,⟨_,j0,rsMap (fun _=>j0)⟩,⟨_,j0,rsOne ⟨ci j0,ci j0,ci j0,ci j0,ci j0,ci j0,j5⟩⟩,j5⟩,j0,j1⟩) ?_
          refine rl j0<|u<|mv j0<|u<|add ti3 j0 j0<|u<|asg j0<|r_nil ?_
          obtain rfl:=sm h
          exact ⟨_,j0,[.old 0,.old 1,.old 2],cv j0 (.mpt j0)<|ce j0 j0<|cv j0 (.mpt j0)<|ce j0 j0<|ce j0 j0<|cn,j0,⟨⟨_,j0,rsOne ⟨.msl j0,j5⟩⟩,⟨_,j0,rsMap (fun _=>j0)⟩,⟨_,j0,rsOne ⟨ci j0,ci j0,ci j0,ci j0,ci j0,ci j0,j5⟩⟩,j5⟩,j0,j1⟩
         ·
          replace h:=bF hb76 h
          obtain ⟨v70,q77,h⟩:=bs h
          obtain ⟨v71,q78,h⟩:=bs h
          obtain ⟨v72,q79,h⟩:=bs h
          refine rdL [(4,.mpt 0 0 0),(9,iA v57),(10,.mpt 2 0 0),(11,bA (!v72.Interface)),(12,iA v69)] [some (1,[[.msl 1 0 (List.length v21)]]),some (6,List.map rApiClass v21),some (6,[[sA v58.Name,sA v58.Super,bA v58.Interface,.isl 1 (List.map rStr v58.Impl),.isl 3 (List.map rApiField v58.Fields),.isl 10 (List.map rApiMethod v58.Methods)]])] [] [18,17,16,15,14,13,12,11,10,9,8,7,6,5,4,3,2,1,0] [(11,bA (!v72.Interface)),(146,bA (!v72.Interface)),(145,bA (!v72.Interface)),(144,bA v72.Interface),(143,.mpt 1 (Int.toNat v71) 2),(142,.mpt 1 (Int.toNat v71) 0),(141,iA v71),(140,sA v70),(139,.ipt 1 (List.map rStr v58.Impl) (Int.toNat v69) 0),(138,iA v69),(137,.isl 1 (List.map rStr v58.Impl)),(136,.mpt 2 0 3),(135,.mpt 0 0 0),(134,.msl 1 0 (List.length v21)),(133,.mpt 0 0 0),(132,.mpt 0 0 0),(131,.mpt 0 0 0),(130,bA v68),(129,bA v68)] 0 (by kernel_rfl) (by kernel_rfl) j0 (by kernel_rfl) (dt0 ⟨(fun _=>pa j0 j0 j0 j0 (asg j0<|j4)),(fun _=>pa j0 j0 j0 j0 (pkb j0 hb76 j0<|j4)),(fun _=>pag (b:=v68) j0 j0 j0 j0 hb76 j0 (nt j0<|j4)),(fun _=>pag (b:=v68) j0 j0 j0 j0 hb76 j0 (ldM ti4 j0 j0 (idx_some q79).2.2 j0<|j4)),(fun _=>pag (b:=v68) j0 j0 j0 j0 hb76 j0 (fa ti42 j0 j0 j0<|j4)),(fun _=>pag (b:=v68) j0 j0 j0 j0 hb76 j0 (ixM ti22 j0 ti42 j0 j0 j0 j0 q79<|j4)),(fun _=>pag (b:=v68) j0 j0 j0 j0 hb76 j0 (pcs (ref7_Hier_At_ok v21 v70 q78) j0 j0 (.cons (sealBox j0 ⟨(sealM j0 (fun _=>j0)),j5⟩) (.cons (si j0) .nil)) plainB<|j4)),(fun _=>pag (b:=v68) j0 j0 j0 j0 hb76 j0 (ldI ti9 j0 (idx_some q77).2.2 j0<|j4)),(fun _=>pag (b:=v68) j0 j0 j0 j0 hb76 j0 (ixI ti32 j0 ti9 j0 j0 j0 q77<|j4)),(fun _=>pag (b:=v68) j0 j0 j0 j0 hb76 j0 (mv j0<|j4)),(fun _=>pag (b:=v68) j0 j0 j0 j0 hb76 j0 (ld ti32 j0 j0<|j4)),(fun _=>pag (b:=v68) j0 j0 j0 j0 hb76 j0 (fa ti42 j0 j0 j0<|j4)),(fun _=>pag (b:=v68) j0 j0 j0 j0 hb76 j0 (mv j0<|j4)),(fun _=>pag (b:=v68) j0 j0 j0 j0 hb76 j0 (ld ti22 j0 j0<|j4)),(fun _=>pag (b:=v68) j0 j0 j0 j0 hb76 j0 (fa ti51 j0 j0 j0<|j4)),(fun _=>pag (b:=v68) j0 j0 j0 j0 hb76 j0 (nc j0 j0<|j4)),(fun _=>pag (b:=v68) j0 j0 j0 j0 hb76 j0 (mv j0<|j4)),(fun _=>pa j0 j0 j0 j0 (mv j0<|j4)),(fun _=>pa j0 j0 j0 j0 (mv j0<|j4)),j5⟩ (by kernel_rfl) j0 ⟨[.old 0,.old 1,.old 2],cv j0 (.mpt j0)<|ce j0 j0<|cv j0 (.mpt j0)<|ce j0 j0<|ce j0 j0<|cn,j0,⟨⟨_,j0,rsOne ⟨.msl j0,j5⟩⟩,⟨_,j0,rsMap (fun _=>j0)⟩,⟨_,j0,rsOne ⟨ci j0,ci j0,ci j0,ci j0,ci j0,ci j0,j5⟩⟩,j5⟩,j0,j1⟩) ?_
          refine rl j0<|u<|mv j0<|u<|add ti3 j0 j0<|u<|asg j0<|r_nil ?_
          obtain rfl:=sm h
          exact ⟨_,j0,[.old 0,.old 1,.old 2],cv j0 (.mpt j0)<|ce j0 j0<|cv j0 (.mpt j0)<|ce j0 j0<|ce j0 j0<|cn,j0,⟨⟨_,j0,rsOne ⟨.msl j0,j5⟩⟩,⟨_,j0,rsMap (fun _=>j0)⟩,⟨_,j0,rsOne ⟨ci j0,ci j0,ci j0,ci j0,ci j0,ci j0,j5⟩⟩,j5⟩,j0,j1⟩
        ·
         replace h:=bF hc75 h
         refine sw_exit ?_
         obtain rfl:=sm h
         exact ⟨j0,_,j0,[.old 0,.old 1],cv j0 (.mpt j0)<|ce j0 j0<|ce j0 j0<|cn,j0,⟨⟨_,j0,rsOne ⟨.msl j0,j5⟩⟩,⟨_,j0,rsMap (fun _=>j0)⟩,j5⟩,j0,j1⟩
       ·
        rintro v73 rfl
        replace h : ref7_New_k14 v57 v73 = some r:=h
        unfold ref7_New_k14 at h
        refine ow_intro ?_
        refine rg j0<|u<|mv j0<|r_nil ?_
        refine sw_cond j0 (fun hc80=>?_) (fun hc80=>?_)
        ·
         replace h:=bT hc80 h
         refine rg j0<|u<|asg j0<|u<|asg j0<|r_nil ?_
         refine sw_ret ?_
         obtain rfl:=sm h
         exact ⟨_,j0,_,j0,[],rsTup ⟨(ci j0),(ci j0),j5⟩,j0,j5,j0,j1⟩
        ·
         replace h:=bF hc80 h
         refine sw_skip ?_
         refine rl j0<|u<|mv j0<|u<|add ti3 j0 j0<|u<|asg j0<|r_nil ?_
         obtain rfl:=sm h
         exact ⟨_,j0,[.old 0,.old 1],cv j0 (.mpt j0)<|ce j0 j0<|cn,j0,⟨⟨_,j0,rsOne ⟨.msl j0,j5⟩⟩,⟨_,j0,rsMap (fun _=>j0)⟩,j5⟩,j0,j1⟩
       ·
        rintro r' rfl env st hp
        obtain rfl:=sm h
        exact ⟨_,j0,hp⟩
     ·
      replace h:=bF hc64 h
      refine sw_exit ?_
      obtain rfl:=sm h
      exact ⟨j0,_,j0,[.old 0,.old 1],cv j0 (.mpt j0)<|cn,j0,⟨⟨_,j0,rsOne ⟨.msl j0,j5⟩⟩,⟨_,j0,rsMap (fun _=>j0)⟩,j5⟩,j0,j1⟩
    ·
     rintro ⟨⟩ rfl
     replace h : ref7_New_k16 v21 = some r:=h
     unfold ref7_New_k16 at h
     refine ow_intro ?_
     refine rg j0<|u<|mv j0<|u<|asg j0<|u<|asg j0<|r_nil ?_
     refine sw_ret ?_
     obtain rfl:=sm h
     exact ⟨_,j0,[],rsTup ⟨(rsP j0 j0 ⟨(rsSeal j0 j0 (fun _=>j0)),j5⟩ j0),(ci j0),j5⟩,j0,j5,j0,j1⟩
    ·
     rintro r' rfl env st hp
     obtain rfl:=sm h
     exact hp
   ·
    rintro r' rfl env st hp
    obtain rfl:=sm h
    exact hp
  ·
   rintro r' rfl env st hp
   obtain rfl:=sm h
   exact hp
end
end Go.Proofs.YtooagifeniibcaaGreat
namespace Go.Proofs.YtooagifeniibcaaGreat
noncomputable section
set_option linter.unusedSimpArgs false
set_option linter.unusedVariables false
set_option maxRecDepth 100000
set_option maxHeartbeats 4000000
def hier_Hier_has_s2 (v1 : List UInt8) : Bool :=
  false
theorem hier_Hier_has_s2_ok (v1 : List UInt8) {r : Bool} (h : hier_Hier_has_s2 v1 = r) : PureC Tryz.prog 62 [.lit (.pointer none),sA v1] (bA r):=by
 refine pure_fn Tryz.func62 j0 (by kernel_rfl) j0 j0 ?_
 unfold hier_Hier_has_s2 at h
 refine rg j0<|u<|asg j0<|r_nil ?_
 refine sw_seq ?_
 refine rg j0<|u<|mv j0<|u<|eqp ti25 j0 j0 j0 j0 j0 j0<|r_nil ?_
 refine sw_cond j0 (fun _=>?_) (fun hx=>by cases hx)
 refine rg j0<|u<|asg j0<|r_nil ?_
 refine sw_ret ?_
 obtain rfl:=h
 exact ⟨_,j0,[],ci j0,j0,j5,j0,j1⟩
def hier_Hier_Supers_k2 : Option ((List (List UInt8))) :=
  some []
def hier_Hier_Supers_l1 (v1 : List UInt8) : Option (Sum (Unit) (Sum (Unit) ((List (List UInt8))))) :=
  cond (hier_Hier_has_s2 v1) ((appP 16 ([] : List (List UInt8)) [v1]).bind fun v2=>none) (some (.inr (.inl ())))
def hier_Hier_Supers (v1 : List UInt8) : Option ((List (List UInt8))) :=
  (loopP (fun z=>hier_Hier_Supers_l1 v1) ()).bind fun o=>leave o (fun b=>hier_Hier_Supers_k2) some
theorem hier_Hier_Supers_ok (v1 : List UInt8) {r : (List (List UInt8))} (h : hier_Hier_Supers v1 = some r) : PureC Tryz.prog 27 [.lit (.pointer none),sA v1] (.isl 1 (List.map rStr r)):=by
 refine pure_fn Tryz.func27 j0 (by kernel_rfl) j0 j0 ?_
 unfold hier_Hier_Supers at h
 refine rg j0<|u<|asg j0<|r_nil ?_
 refine rg j0<|u<|asg j0<|r_nil ?_
 obtain ⟨o,ho,h⟩:=bs h
 refine sw_lp (X:=Unit) (B:=Unit) (R:=(List (List UInt8))) (fun z=>[(0,.lit (.pointer none)),(1,sA v1),(5,.lit (.slice none 0 0))]) (fun z=>[]) (fun b=>[(5,.lit (.slice none 0 0))]) (fun b=>[]) (fun r env st=>PostF Tryz.prog Tryz.f27 0 (.isl 1 (List.map rStr r)) [] env st) ho ⟨[],ce j0 j0<|ce j0 j0<|ce j0 j0<|cn,j0,j5,j0,j1⟩ ?_ ?_ ?_
 ·
  rintro ⟨⟩ r h
  replace h : hier_Hier_Supers_l1 v1 = some r:=h
  unfold hier_Hier_Supers_l1 at h
  refine sw_seq ?_
  refine rg j0<|u<|mv j0<|u<|mv j0<|u<|pc (hier_Hier_has_s2_ok v1 j0) j0 j0 j0<|r_nil ?_
  refine sw_cond j0 (fun hc1=>?_) (fun hc1=>?_)
  ·
   replace h:=bT hc1 h
   refine sw_skip ?_
   refine sw_block ?_
   obtain ⟨v2,q2,h⟩:=bs h
   refine rg j0<|u<|mv j0<|u<|mv j0<|u<|bl 0 ti32 j0 ti9 j0 (by decide) (by decide) j0 j0 j0<|u<|apN (f:=rStr) 1 ti32 j0 ti9 j0 j0 (by decide) ti32 j0 j0 j0 (roX (f:=rStr) (z:=[v1]) j0 j0) (fun _=>j0) j0 q2<|u<|asg j0<|r_nil ?_
   cases h
  ·
   replace h:=bF hc1 h
   refine sw_exit ?_
   obtain rfl:=sm h
   exact ⟨j0,_,j0,[],ce j0 j0<|cn,j0,j5,j0,j1⟩
 ·
  rintro ⟨⟩ rfl
  replace h : hier_Hier_Supers_k2 = some r:=h
  unfold hier_Hier_Supers_k2 at h
  refine rg j0<|u<|mv j0<|u<|asg j0<|r_nil ?_
  refine sw_ret ?_
  obtain rfl:=sm h
  exact ⟨_,j0,[],.nil,j0,j5,j0,j1⟩
 ·
  rintro r' rfl env st hp
  obtain rfl:=sm h
  exact hp
def hier_Hier_Supers_s2_k2 (v12 : List (List UInt8)) : Option ((List (List UInt8))) :=
  some v12
def hier_Hier_Supers_s2_l1 (v1 : List ApiClass) (v2 : List (List UInt8 × Int)) (v8 : List UInt8) (v9 : List (List UInt8)) : Option (Sum ((List UInt8) × (List (List UInt8))) (Sum ((List (List UInt8))) ((List (List UInt8))))) :=
  cond (hier_Hier_has v1 v2 v8) ((appP 16 v9 [v8]).bind fun v10=>(hier_Hier_get v1 v2 v8).bind fun v11=>some (.inl (v11.Super,v10))) (some (.inr (.inl v9)))
def hier_Hier_Supers_s2 (v1 : List ApiClass) (v2 : List (List UInt8 × Int)) (v3 : List UInt8) : Option ((List (List UInt8))) :=
  (loopP (fun z=>hier_Hier_Supers_s2_l1 v1 v2 z.1 z.2) (v3,[])).bind fun o=>leave o (fun b=>hier_Hier_Supers_s2_k2 b) some
theorem hier_Hier_Supers_s2_ok (v1 : List ApiClass) (v2 : List (List UInt8 × Int)) (v3 : List UInt8) {r : (List (List UInt8))} (h : hier_Hier_Supers_s2 v1 v2 v3 = some r) : SC Tryz.prog 27 [.ipt 2 [[.isl 6 (List.map rApiClass v1),.imp (List.map (rKV (fun x=>iA x)) v2)]] 0 0,sA v3] [] (.msl 0 0 (List.length r)) [.many 1 (List.map rStr r)]:=by
 refine ⟨⟨sbOk (sz:=1) (fun _=>j0),j5⟩,scall_fn Tryz.func27 j0 (by kernel_rfl) j0 ?_⟩
 unfold hier_Hier_Supers_s2 at h
 refine rg j0<|u<|asg j0<|r_nil ?_
 refine rg j0<|u<|asg j0<|r_nil ?_
 obtain ⟨o,ho,h⟩:=bs h
 refine sw_lp (X:=(List UInt8) × (List (List UInt8))) (B:=(List (List UInt8))) (R:=(List (List UInt8))) (fun z=>[(0,.ipt 2 [[.isl 6 (List.map rApiClass v1),.imp (List.map (rKV (fun x=>iA x)) v2)]] 0 0),(1,sA z.1),(5,.msl 0 0 (List.length z.2))]) (fun z=>[some (1,List.map rStr z.2)]) (fun b=>[(5,.msl 0 0 (List.length b))]) (fun b=>[some (1,List.map rStr b)]) (fun r env st=>PostF Tryz.prog Tryz.f27 0 (.msl 0 0 (List.length r)) [some (1,List.map rStr r)] env st) ho ⟨[.fresh 1],ce j0 j0<|ce j0 j0<|cv j0 (.nilown j0)<|cn,j0,⟨j4,j5⟩,j0,j1⟩ ?_ ?_ ?_
 ·
  rintro ⟨v8,v9⟩ r h
  replace h : hier_Hier_Supers_s2_l1 v1 v2 v8 v9 = some r:=h
  unfold hier_Hier_Supers_s2_l1 at h
  refine sw_seq ?_
  refine rg j0<|u<|mv j0<|u<|mv j0<|u<|pc (hier_Hier_has_ok v1 v2 v8 j0) j0 j0 j0<|r_nil ?_
  refine sw_cond j0 (fun hc4=>?_) (fun hc4=>?_)
  ·
   replace h:=bT hc4 h
   refine sw_skip ?_
   refine sw_block ?_
   obtain ⟨v10,q5,h⟩:=bs h
   refine rg j0<|u<|mv j0<|u<|mv j0<|u<|bl 1 ti32 j0 ti9 j0 (by decide) (by decide) j0 j0 j0<|u<|apM 2 ti32 j0 ti9 j0 j0 (by decide) ti32 j0 j0 j0 j0 (roX (f:=rStr) (z:=[v8]) j0 j0) (fun _=>j0) j0 q5<|u<|asg j0<|r_nil ?_
   obtain ⟨v11,q6,h⟩:=bs h
   refine rl j0<|u<|mv j0<|u<|mv j0<|u<|pc (hier_Hier_get_ok v1 v2 v8 q6) j0 j0 j0<|u<|fdV j0 j0<|u<|asg j0<|r_nil ?_
   obtain rfl:=sm h
   exact ⟨_,j0,[.old 2],ce j0 j0<|ce j0 j0<|cv j0 (.msl j0)<|cn,j0,⟨⟨_,j0,rsMap (fun _=>j0)⟩,j5⟩,j0,j1⟩
  ·
   replace h:=bF hc4 h
   refine sw_exit ?_
   obtain rfl:=sm h
   exact ⟨j0,_,j0,[.old 0],cv j0 (.msl j0)<|cn,j0,⟨⟨_,j0,rsMap (fun _=>j0)⟩,j5⟩,j0,j1⟩
 ·
  rintro v12 rfl
  replace h : hier_Hier_Supers_s2_k2 v12 = some r:=h
  unfold hier_Hier_Supers_s2_k2 at h
  refine rg j0<|u<|mv j0<|u<|asg j0<|r_nil ?_
  refine sw_ret ?_
  obtain rfl:=sm h
  exact ⟨_,j0,[.old 0],.msl j0,j0,⟨⟨_,j0,rsMap (fun _=>j0)⟩,j5⟩,j0,j1⟩
 ·
  rintro r' rfl env st hp
  obtain rfl:=sm h
  exact hp
end
end Go.Proofs.YtooagifeniibcaaGreat
namespace Go.Proofs.YtooagifeniibcaaGreat
noncomputable section
set_option linter.unusedSimpArgs false
set_option linter.unusedVariables false
set_option maxRecDepth 100000
set_option maxHeartbeats 4000000
def hier_Hier_there_k2 (v11 : List UInt8) : Option (Bool) :=
  some false
def hier_Hier_there_l1 (v7 : List UInt8) (v8 : List UInt8) (v9 : Bool) : Option (Sum ((List UInt8) × (List UInt8) × Bool) (Sum ((List UInt8)) (Bool))) :=
  cond v9 ((kind_Elem v8).bind fun v10=>some (.inl (v8,v10.1,v10.2))) (some (.inr (.inl v7)))
def hier_Hier_there (v1 : List UInt8) : Option (Bool) :=
  (kind_Elem v1).bind fun v2=>(loopP (fun z=>hier_Hier_there_l1 z.1 z.2.1 z.2.2) (v1,v2.1,v2.2)).bind fun o=>leave o (fun b=>hier_Hier_there_k2 b) some
theorem hier_Hier_there_ok (v1 : List UInt8) {r : Bool} (h : hier_Hier_there v1 = some r) : PureC Tryz.prog 67 [.lit (.pointer none),sA v1] (bA r):=by
 refine pure_fn Tryz.func67 j0 (by kernel_rfl) j0 j0 ?_
 unfold hier_Hier_there at h
 refine rg j0<|u<|asg j0<|r_nil ?_
 refine sw_seq ?_
 obtain ⟨v2,q1,h⟩:=bs h
 refine rg j0<|u<|mv j0<|u<|pc (kind_Elem_ok v1 q1) j0 j0 j0<|u<|mv j0<|u<|ex j0 j0<|u<|ex j0 j0<|u<|asg j0<|u<|asg j0<|r_nil ?_
 obtain ⟨o,ho,h⟩:=bs h
 refine sw_lpl (X:=(List UInt8) × (List UInt8) × Bool) (B:=(List UInt8)) (R:=Bool) (fun z=>[(0,.lit (.pointer none)),(1,sA z.1),(5,sA z.2.1),(6,bA z.2.2)]) (fun z=>[]) (fun b=>[(0,.lit (.pointer none)),(1,sA b)]) (fun b=>[]) (fun r env st=>PostF Tryz.prog Tryz.f67 0 (bA r) [] env st) ho ⟨[],ce j0 j0<|ce j0 j0<|ce j0 j0<|ce j0 j0<|cn,j0,j5,j0,j1⟩ ?_ ?_ ?_
 ·
  rintro ⟨v7,v8,v9⟩ r h
  replace h : hier_Hier_there_l1 v7 v8 v9 = some r:=h
  unfold hier_Hier_there_l1 at h
  refine sw_seq ?_
  refine rg j0<|u<|mv j0<|r_nil ?_
  refine sw_cond j0 (fun hc4=>?_) (fun hc4=>?_)
  ·
   replace h:=bT hc4 h
   refine sw_skip ?_
   refine sw_seq ?_
   refine sw_block ?_
   refine rl j0<|u<|mv j0<|u<|asg j0<|r_nil ?_
   obtain ⟨v10,q5,h⟩:=bs h
   refine rl j0<|u<|mv j0<|u<|pc (kind_Elem_ok v8 q5) j0 j0 j0<|u<|mv j0<|u<|ex j0 j0<|u<|ex j0 j0<|u<|asg j0<|u<|asg j0<|r_nil ?_
   obtain rfl:=sm h
   exact ⟨_,j0,[],ce j0 j0<|ce j0 j0<|ce j0 j0<|ce j0 j0<|cn,j0,j5,j0,j1⟩
  ·
   replace h:=bF hc4 h
   refine sw_exit ?_
   obtain rfl:=sm h
   exact ⟨j0,_,j0,[],ce j0 j0<|ce j0 j0<|cn,j0,j5,j0,j1⟩
 ·
  rintro v11 rfl
  replace h : hier_Hier_there_k2 v11 = some r:=h
  unfold hier_Hier_there_k2 at h
  refine ow_intro ?_
  refine rg j0<|u<|mv j0<|u<|nep ti25 j0 j0 j0 j0 j0 j0<|u<|mv j0<|r_skip (aguard_of (b:=false) j0)<|r_skip (aguard_of (b:=false) j0)<|r_skip (aguard_of (b:=false) j0)<|r_skip (aguard_undef j0)<|r_skip (aguard_undef j0)<|r_skip (aguard_undef j0)<|r_skip (aguard_of (b:=false) j0)<|u<|pk (b:=false) j0 j0<|u<|asg j0<|r_nil ?_
  refine sw_ret ?_
  obtain rfl:=sm h
  exact ⟨_,j0,[],ci j0,j0,j5,j0,j1⟩
 ·
  rintro r' rfl env st hp
  obtain rfl:=sm h
  exact hp
def hier_Hier_Faces_s2_k2 : Option ((List (List UInt8))) :=
  (sortW []).bind fun v4=>some []
def hier_Hier_Faces_s2_l1 (v2 : (List (List UInt8))) : Option (Sum (Unit) (Sum (Unit) ((List (List UInt8))))) :=
  cond (decide (0 < (List.length v2 : Int))) ((idx v2 0).bind fun v3=>none) (some (.inr (.inl ())))
def hier_Hier_Faces_s2 (v1 : List UInt8) : Option ((List (List UInt8))) :=
  cond (!(hier_Hier_has_s2 v1)) (some []) ((hier_Hier_Supers v1).bind fun v2=>(loopP (fun z=>hier_Hier_Faces_s2_l1 v2) ()).bind fun o=>leave o (fun b=>hier_Hier_Faces_s2_k2) some)
theorem hier_Hier_Faces_s2_ok (v1 : List UInt8) {r : (List (List UInt8))} (h : hier_Hier_Faces_s2 v1 = some r) : PureC Tryz.prog 26 [.lit (.pointer none),sA v1] (.isl 1 (List.map rStr r)):=by
 refine pure_fn Tryz.func26 j0 (by kernel_rfl) j0 j0 ?_
 unfold hier_Hier_Faces_s2 at h
 refine rg j0<|u<|asg j0<|r_nil ?_
 refine sw_seq ?_
 refine rg j0<|u<|mv j0<|u<|mv j0<|u<|pc (hier_Hier_has_s2_ok v1 j0) j0 j0 j0<|u<|nt j0<|r_nil ?_
 refine sw_cond j0 (fun hc1=>?_) (fun hc1=>?_)
 ·
  replace h:=bT hc1 h
  refine rg j0<|u<|asg j0<|r_nil ?_
  refine sw_ret ?_
  obtain rfl:=sm h
  exact ⟨_,j0,[],.nil,j0,j5,j0,j1⟩
 ·
  replace h:=bF hc1 h
  refine sw_skip ?_
  refine rg j0<|u<|asg j0<|r_nil ?_
  obtain ⟨v2,q2,h⟩:=bs h
  refine rg j0<|u<|mv j0<|u<|mv j0<|u<|pc (hier_Hier_Supers_ok v1 q2) j0 j0 j0<|u<|asg j0<|r_nil ?_
  refine sw_seq ?_
  refine rg j0<|u<|asg j0<|r_nil ?_
  obtain ⟨o,ho,h⟩:=bs h
  refine sw_lpl (X:=Unit) (B:=Unit) (R:=(List (List UInt8))) (fun z=>[(0,.lit (.pointer none)),(5,.lit (.slice none 0 0)),(6,.isl 1 (List.map rStr v2)),(7,iA 0)]) (fun z=>[]) (fun b=>[(5,.lit (.slice none 0 0))]) (fun b=>[]) (fun r env st=>PostF Tryz.prog Tryz.f26 0 (.isl 1 (List.map rStr r)) [] env st) ho ⟨[],ce j0 j0<|ce j0 j0<|ce j0 j0<|ce j0 j0<|cn,j0,j5,j0,j1⟩ ?_ ?_ ?_
  ·
   rintro ⟨⟩ r h
   replace h : hier_Hier_Faces_s2_l1 v2 = some r:=h
   unfold hier_Hier_Faces_s2_l1 at h
   refine sw_seq ?_
   refine rg j0<|u<|mv j0<|u<|mv j0<|u<|lnI ti32 j0 j0<|u<|lss ti3 j0 j0<|r_nil ?_
   refine sw_cond j0 (fun hc3=>?_) (fun hc3=>?_)
   ·
    replace h:=bT hc3 h
    refine sw_skip ?_
    refine sw_seq ?_
    refine sw_block ?_
    obtain ⟨v3,q4,h⟩:=bs h
    cases h
   ·
    replace h:=bF hc3 h
    refine sw_exit ?_
    obtain rfl:=sm h
    exact ⟨j0,_,j0,[],ce j0 j0<|cn,j0,j5,j0,j1⟩
  ·
   rintro ⟨⟩ rfl
   replace h : hier_Hier_Faces_s2_k2 = some r:=h
   unfold hier_Hier_Faces_s2_k2 at h
   refine ow_intro ?_
   obtain ⟨v4,q5,h⟩:=bs h
   refine rg j0<|u<|mv j0<|ph 1<|u<|sc [0] (sortW_ok [] q5) j0 j0 j0 j0 ⟨(.nil0 j0),j5⟩ ⟨⟨j0,mkI (fun _=>j0)⟩,j5⟩<|r_can (env0:=[(5,.lit (.slice none 0 0))]) (st0:=[]) ⟨[],ce j0 j0<|cn,j0,j5,j0,j1⟩<|r_nil ?_
   refine rg j0<|u<|mv j0<|u<|asg j0<|r_nil ?_
   refine sw_ret ?_
   obtain rfl:=sm h
   exact ⟨_,j0,[],.nil,j0,j5,j0,j1⟩
  ·
   rintro r' rfl env st hp
   obtain rfl:=sm h
   exact hp
def hier_Hier_Sub_s2_F (v0 : ((List UInt8) × (List UInt8) → Option Bool)) (v1 : List UInt8) (v2 : List UInt8) : Option (Bool) :=
  (hier_Hier_there v1).bind fun v3=>(cond (!v3) (some true) ((hier_Hier_there v2).bind fun v4=>some (!v4))).bind fun v5=>cond v5 (some false) ((kind_Elem v1).bind fun v6=>(kind_Elem v2).bind fun v7=>cond (v1 == v2) (some true) (cond (v6.2 && v7.2) ((cond ((!(v6.1 == [73])) && (!(v7.1 == [73]))) ((v0 (v6.1,v7.1)).bind fun v8=>some v8) (some false)).bind fun v9=>some v9) (cond v6.2 (some (v2 == [79,98,106,101,99,116])) ((hier_Hier_Supers v1).bind fun v10=>(slices_Contains_string_string v10 v2).bind fun v11=>(cond v11 (some true) ((hier_Hier_Faces_s2 v1).bind fun v12=>(slices_Contains_string_string v12 v2).bind fun v13=>some v13)).bind fun v14=>some v14))))
theorem hier_Hier_Sub_s2_F_ok (v0 : ((List UInt8) × (List UInt8) → Option Bool)) (hrec : ∀ z r,v0 z = some r → PureC Tryz.prog 24 [.lit (.pointer none),sA z.1,sA z.2] (bA r)) (v1 : List UInt8) (v2 : List UInt8) {r : Bool} (h : hier_Hier_Sub_s2_F v0 v1 v2 = some r) : PureC Tryz.prog 24 [.lit (.pointer none),sA v1,sA v2] (bA r):=by
 refine pure_fn Tryz.func24 j0 (by kernel_rfl) j0 j0 ?_
 unfold hier_Hier_Sub_s2_F at h
 refine rg j0<|u<|asg j0<|r_nil ?_
 refine sw_seq ?_
 obtain ⟨v3,q1,h⟩:=bs h
 obtain ⟨v5,q4,h⟩:=bs h
 refine rg j0<|u<|mv j0<|u<|mv j0<|u<|pc (hier_Hier_there_ok v1 q1) j0 j0 j0<|u<|nt j0<|u<|mv j0<|r_or (x:=v5) (j:=4) 4 j0 j0 j0 j0 j0 gpn (fun hb2=>by replace q4:=bF hb2 q4; obtain ⟨v4,q3,q4⟩:=bs q4; obtain rfl:=sm q4; exact g j0 hb2<|mv j0<|g j0 hb2<|mv j0<|g j0 hb2<|pc (hier_Hier_there_ok v2 q3) j0 j0 j0<|g j0 hb2<|nt j0<|r_nil (eg [16,17,18,19] 4 j0 j0 j0 j0)) (fun hb=>(sm (bT hb q4)).symm)<|r_nil ?_
 refine sw_cond j0 (fun hc5=>?_) (fun hc5=>?_)
 ·
  replace h:=bT hc5 h
  refine rg j0<|u<|asg j0<|r_nil ?_
  refine sw_ret ?_
  obtain rfl:=sm h
  exact ⟨_,j0,[],ci j0,j0,j5,j0,j1⟩
 ·
  replace h:=bF hc5 h
  refine sw_skip ?_
  obtain ⟨v6,q6,h⟩:=bs h
  refine rg j0<|u<|mv j0<|u<|pc (kind_Elem_ok v1 q6) j0 j0 j0<|u<|mv j0<|u<|ex j0 j0<|u<|ex j0 j0<|u<|asg j0<|u<|asg j0<|r_nil ?_
  obtain ⟨v7,q7,h⟩:=bs h
  refine rg j0<|u<|mv j0<|u<|pc (kind_Elem_ok v2 q7) j0 j0 j0<|u<|mv j0<|u<|ex j0 j0<|u<|ex j0 j0<|u<|asg j0<|u<|asg j0<|r_nil ?_
  refine sw_seq ?_
  refine sw_block ?_
  refine rg j0<|u<|mv j0<|u<|mv j0<|u<|seq ti9 j0 j0<|u<|asg j0<|r_nil ?_
  refine sw_cond j0 (fun hc8=>?_) (fun hc8=>?_)
  ·
   replace h:=bT hc8 h
   refine rg j0<|u<|asg j0<|r_nil ?_
   refine sw_ret ?_
   obtain rfl:=sm h
   exact ⟨_,j0,[],ci j0,j0,j5,j0,j1⟩
  ·
   replace h:=bF hc8 h
   refine rg j0<|u<|mv j0<|u<|mv j0<|r_and (j:=1) 1 j0 j0 j0 j0 j0 gpn (fun hb9=>g j0 hb9<|mv j0<|r_nil (egA [38] 1 hb9 j0 j0 j0 j0)) andF<|u<|asg j0<|r_nil ?_
   refine sw_cond j0 (fun hc10=>?_) (fun hc10=>?_)
   ·
    replace h:=bT hc10 h
    obtain ⟨v9,q14,h⟩:=bs h
    refine rg j0<|u<|mv j0<|u<|sne ti9 j0 j0<|u<|mv j0<|r_and (j:=2) 2 j0 j0 j0 j0 j0 gpn (fun hb11=>g j0 hb11<|mv j0<|g j0 hb11<|sne ti9 j0 j0<|r_nil (egA [43,44] 2 hb11 j0 j0 j0 j0)) andF<|u<|mv j0<|r_and (x:=v9) (j:=6) 4 j0 j0 j0 j0 j0 gpn (fun hb12=>by replace q14:=bT hb12 q14; obtain ⟨v8,q13,q14⟩:=bs q14; obtain rfl:=sm q14; exact g j0 hb12<|mv j0<|g j0 hb12<|mv j0<|g j0 hb12<|mv j0<|g j0 hb12<|pc (hrec (v6.1,v7.1) _ q13) j0 j0 j0<|r_nil (eg [47,48,49,50] 4 j0 j0 j0 j0)) (fun hb=>(sm (bF hb q14)).symm)<|u<|asg j0<|r_nil ?_
    refine sw_ret ?_
    obtain rfl:=sm h
    exact ⟨_,j0,[],ci j0,j0,j5,j0,j1⟩
   ·
    replace h:=bF hc10 h
    refine rg j0<|u<|mv j0<|u<|asg j0<|r_nil ?_
    refine sw_cond j0 (fun hc15=>?_) (fun hc15=>?_)
    ·
     replace h:=bT hc15 h
     refine rg j0<|u<|mv j0<|u<|seq ti9 j0 j0<|u<|asg j0<|r_nil ?_
     refine sw_ret ?_
     obtain rfl:=sm h
     exact ⟨_,j0,[],ci j0,j0,j5,j0,j1⟩
    ·
     replace h:=bF hc15 h
     refine sw_skip ?_
     obtain ⟨v10,q16,h⟩:=bs h
     obtain ⟨v11,q17,h⟩:=bs h
     obtain ⟨v14,q21,h⟩:=bs h
     refine rg j0<|u<|mv j0<|u<|mv j0<|u<|pc (hier_Hier_Supers_ok v1 q16) j0 j0 j0<|u<|mv j0<|u<|pc (slices_Contains_string_string_ok v10 v2 q17) j0 j0 j0<|u<|mv j0<|r_or (x:=v14) (j:=5) 5 j0 j0 j0 j0 j0 gpn (fun hb18=>by replace q21:=bF hb18 q21; obtain ⟨v12,q19,q21⟩:=bs q21; obtain ⟨v13,q20,q21⟩:=bs q21; obtain rfl:=sm q21; exact g j0 hb18<|mv j0<|g j0 hb18<|mv j0<|g j0 hb18<|pc (hier_Hier_Faces_s2_ok v1 q19) j0 j0 j0<|g j0 hb18<|mv j0<|g j0 hb18<|pc (slices_Contains_string_string_ok v12 v2 q20) j0 j0 j0<|r_nil (eg [62,63,64,65,66] 5 j0 j0 j0 j0)) (fun hb=>(sm (bT hb q21)).symm)<|u<|asg j0<|r_nil ?_
     refine sw_ret ?_
     obtain rfl:=sm h
     exact ⟨_,j0,[],ci j0,j0,j5,j0,j1⟩
def hier_Hier_Sub_s2 (v1 : List UInt8) (v2 : List UInt8) : Option Bool :=
  recP (fun v0 z=>hier_Hier_Sub_s2_F v0 z.1 z.2) (v1,v2)
theorem hier_Hier_Sub_s2_ok (v1 : List UInt8) (v2 : List UInt8) {r : Bool} (h : hier_Hier_Sub_s2 v1 v2 = some r) : PureC Tryz.prog 24 [.lit (.pointer none),sA v1,sA v2] (bA r) :=
  rec_all (F:=(fun v0 z=>hier_Hier_Sub_s2_F v0 z.1 z.2)) (Q:=fun z r=>PureC Tryz.prog 24 [.lit (.pointer none),sA z.1,sA z.2] (bA r)) (fun v0 hv z r h=>hier_Hier_Sub_s2_F_ok v0 hv z.1 z.2 h) h
def hier_Hier_there_s2_k2 (v1 : List ApiClass) (v2 : List (List UInt8 × Int)) (v13 : List UInt8) : Option (Bool) :=
  some ((v13 == [73]) || (hier_Hier_has v1 v2 v13))
def hier_Hier_there_s2_l1 (v9 : List UInt8) (v10 : List UInt8) (v11 : Bool) : Option (Sum ((List UInt8) × (List UInt8) × Bool) (Sum ((List UInt8)) (Bool))) :=
  cond v11 ((kind_Elem v10).bind fun v12=>some (.inl (v10,v12.1,v12.2))) (some (.inr (.inl v9)))
def hier_Hier_there_s2 (v1 : List ApiClass) (v2 : List (List UInt8 × Int)) (v3 : List UInt8) : Option (Bool) :=
  (kind_Elem v3).bind fun v4=>(loopP (fun z=>hier_Hier_there_s2_l1 z.1 z.2.1 z.2.2) (v3,v4.1,v4.2)).bind fun o=>leave o (fun b=>hier_Hier_there_s2_k2 v1 v2 b) some
theorem hier_Hier_there_s2_ok (v1 : List ApiClass) (v2 : List (List UInt8 × Int)) (v3 : List UInt8) {r : Bool} (h : hier_Hier_there_s2 v1 v2 v3 = some r) : PureC Tryz.prog 67 [.ipt 2 [[.isl 6 (List.map rApiClass v1),.imp (List.map (rKV (fun x=>iA x)) v2)]] 0 0,sA v3] (bA r):=by
 refine pure_fn Tryz.func67 j0 (by kernel_rfl) j0 j0 ?_
 unfold hier_Hier_there_s2 at h
 refine rg j0<|u<|asg j0<|r_nil ?_
 refine sw_seq ?_
 obtain ⟨v4,q1,h⟩:=bs h
 refine rg j0<|u<|mv j0<|u<|pc (kind_Elem_ok v3 q1) j0 j0 j0<|u<|mv j0<|u<|ex j0 j0<|u<|ex j0 j0<|u<|asg j0<|u<|asg j0<|r_nil ?_
 obtain ⟨o,ho,h⟩:=bs h
 refine sw_lpl (X:=(List UInt8) × (List UInt8) × Bool) (B:=(List UInt8)) (R:=Bool) (fun z=>[(0,.ipt 2 [[.isl 6 (List.map rApiClass v1),.imp (List.map (rKV (fun x=>iA x)) v2)]] 0 0),(1,sA z.1),(5,sA z.2.1),(6,bA z.2.2)]) (fun z=>[]) (fun b=>[(0,.ipt 2 [[.isl 6 (List.map rApiClass v1),.imp (List.map (rKV (fun x=>iA x)) v2)]] 0 0),(1,sA b)]) (fun b=>[]) (fun r env st=>PostF Tryz.prog Tryz.f67 0 (bA r) [] env st) ho ⟨[],ce j0 j0<|ce j0 j0<|ce j0 j0<|ce j0 j0<|cn,j0,j5,j0,j1⟩ ?_ ?_ ?_
 ·
  rintro ⟨v9,v10,v11⟩ r h
  replace h : hier_Hier_there_s2_l1 v9 v10 v11 = some r:=h
  unfold hier_Hier_there_s2_l1 at h
  refine sw_seq ?_
  refine rg j0<|u<|mv j0<|r_nil ?_
  refine sw_cond j0 (fun hc4=>?_) (fun hc4=>?_)
  ·
   replace h:=bT hc4 h
   refine sw_skip ?_
   refine sw_seq ?_
   refine sw_block ?_
   refine rl j0<|u<|mv j0<|u<|asg j0<|r_nil ?_
   obtain ⟨v12,q5,h⟩:=bs h
   refine rl j0<|u<|mv j0<|u<|pc (kind_Elem_ok v10 q5) j0 j0 j0<|u<|mv j0<|u<|ex j0 j0<|u<|ex j0 j0<|u<|asg j0<|u<|asg j0<|r_nil ?_
   obtain rfl:=sm h
   exact ⟨_,j0,[],ce j0 j0<|ce j0 j0<|ce j0 j0<|ce j0 j0<|cn,j0,j5,j0,j1⟩
  ·
   replace h:=bF hc4 h
   refine sw_exit ?_
   obtain rfl:=sm h
   exact ⟨j0,_,j0,[],ce j0 j0<|ce j0 j0<|cn,j0,j5,j0,j1⟩
 ·
  rintro v13 rfl
  replace h : hier_Hier_there_s2_k2 v1 v2 v13 = some r:=h
  unfold hier_Hier_there_s2_k2 at h
  refine ow_intro ?_
  refine rg j0<|u<|mv j0<|u<|nep ti25 j0 j0 j0 j0 j0 j0<|u<|mv j0<|g j0 j0<|mv j0<|g j0 j0<|seq ti9 j0 j0<|g j0 j0<|mv j0<|r_or (j:=5) 3 j0 j0 j0 j0 j0 (gps j0 j0 j0) (fun hb6=>g j0 hb6<|mv j0<|g j0 hb6<|mv j0<|g j0 hb6<|pc (hier_Hier_has_ok v1 v2 v13 j0) j0 j0 j0<|r_nil (egO [25,26,27] 3 hb6 j0 j0 j0 j0)) orT<|u<|pk (b:=true) j0 j0<|u<|asg j0<|r_nil ?_
  refine sw_ret ?_
  obtain rfl:=sm h
  exact ⟨_,j0,[],ci j0,j0,j5,j0,j1⟩
 ·
  rintro r' rfl env st hp
  obtain rfl:=sm h
  exact hp
def hier_Hier_Faces_s3_k12 (v45 : List (List UInt8)) : Option ((List (List UInt8))) :=
  (sortW v45).bind fun v46=>some v46
def hier_Hier_Faces_s3_k10 (v27 : Int) (v31 : List (List UInt8)) (v44 : List (List UInt8)) : Option (Sum ((List (List UInt8)) × (List (List UInt8)) × Int) (Sum ((List (List UInt8))) ((List (List UInt8))))) :=
  some (.inl (v31,v44,(IntKind.i64.wrap (v27 + 1))))
def hier_Hier_Faces_s3_j8 (v39 : Int) (v43 : List (List UInt8)) : Option (Sum ((List (List UInt8)) × Int) (Sum ((List (List UInt8))) ((List (List UInt8))))) :=
  some (.inl (v43,(IntKind.i64.wrap (v39 + 1))))
def hier_Hier_Faces_s3_l9 (v29 : ApiClass) (v38 : List (List UInt8)) (v39 : Int) : Option (Sum ((List (List UInt8)) × Int) (Sum ((List (List UInt8))) ((List (List UInt8))))) :=
  cond (decide (v39 < (List.length v29.Impl : Int))) ((idx v29.Impl v39).bind fun v40=>(slices_Contains_string_string v38 v40).bind fun v41=>cond (!v41) ((appP 16 v38 [v40]).bind fun v42=>hier_Hier_Faces_s3_j8 v39 v42) (hier_Hier_Faces_s3_j8 v39 v38)) (some (.inr (.inl v38)))
def hier_Hier_Faces_s3_j6 (v26 : List (List UInt8)) (v27 : Int) (v29 : ApiClass) (v31 : List (List UInt8)) : Option (Sum ((List (List UInt8)) × (List (List UInt8)) × Int) (Sum ((List (List UInt8))) ((List (List UInt8))))) :=
  (loopP (fun z=>hier_Hier_Faces_s3_l9 v29 z.1 z.2) (v26,0)).bind fun o=>leave o (fun b=>hier_Hier_Faces_s3_k10 v27 v31 b) (fun r=>some (.inr (.inr r)))
def hier_Hier_Faces_s3_l11 (v1 : List ApiClass) (v2 : List (List UInt8 × Int)) (v25 : List (List UInt8)) (v26 : List (List UInt8)) (v27 : Int) : Option (Sum ((List (List UInt8)) × (List (List UInt8)) × Int) (Sum ((List (List UInt8))) ((List (List UInt8))))) :=
  cond (decide (v27 < ((List.length v26) : Int))) ((idx v26 v27).bind fun v28=>(hier_Hier_get v1 v2 v28).bind fun v29=>cond v29.Interface ((appP 16 v25 [v29.Name]).bind fun v30=>hier_Hier_Faces_s3_j6 v26 v27 v29 v30) (hier_Hier_Faces_s3_j6 v26 v27 v29 v25)) (some (.inr (.inl v25)))
def hier_Hier_Faces_s3 (v1 : List ApiClass) (v2 : List (List UInt8 × Int)) (v3 : List UInt8) : Option ((List (List UInt8))) :=
  cond (!(hier_Hier_has v1 v2 v3)) (some []) ((hier_Hier_Supers_s2 v1 v2 v3).bind fun v4=>(loopP (fun z=>hier_Hier_Faces_s3_l11 v1 v2 z.1 z.2.1 z.2.2) ([],v4,0)).bind fun o=>leave o (fun b=>hier_Hier_Faces_s3_k12 b) some)
theorem hier_Hier_Faces_s3_ok (v1 : List ApiClass) (v2 : List (List UInt8 × Int)) (v3 : List UInt8) {r : (List (List UInt8))} (h : hier_Hier_Faces_s3 v1 v2 v3 = some r) : SC Tryz.prog 26 [.ipt 2 [[.isl 6 (List.map rApiClass v1),.imp (List.map (rKV (fun x=>iA x)) v2)]] 0 0,sA v3] [] (.msl 0 0 (List.length r)) [.many 1 (List.map rStr r)]:=by
 refine ⟨⟨sbOk (sz:=1) (fun _=>j0),j5⟩,scall_fn Tryz.func26 j0 (by kernel_rfl) j0 ?_⟩
 unfold hier_Hier_Faces_s3 at h
 refine rg j0<|u<|asg j0<|r_nil ?_
 refine sw_seq ?_
 refine rg j0<|u<|mv j0<|u<|mv j0<|u<|pc (hier_Hier_has_ok v1 v2 v3 j0) j0 j0 j0<|u<|nt j0<|r_nil ?_
 refine sw_cond j0 (fun hc1=>?_) (fun hc1=>?_)
 ·
  replace h:=bT hc1 h
  refine rg j0<|u<|asg j0<|r_nil ?_
  refine sw_ret ?_
  obtain rfl:=sm h
  exact ⟨_,j0,[.fresh 1],.nilown j0,j0,⟨j4,j5⟩,j0,j1⟩
 ·
  replace h:=bF hc1 h
  refine sw_skip ?_
  refine rg j0<|u<|asg j0<|r_nil ?_
  obtain ⟨v4,q2,h⟩:=bs h
  refine rg j0<|u<|mv j0<|u<|mv j0<|u<|sc [] (hier_Hier_Supers_s2_ok v1 v2 v3 q2) j0 j0 j0 j0 ⟨(rnI j0),(rnI j0),j5⟩ j5<|r_can (env0:=[(0,.ipt 2 [[.isl 6 (List.map rApiClass v1),.imp (List.map (rKV (fun x=>iA x)) v2)]] 0 0),(5,.lit (.slice none 0 0)),(17,.msl 0 0 (List.length v4))]) (st0:=[some (1,List.map rStr v4)]) ⟨[.old 0],ce j0 j0<|ce j0 j0<|cv j0 (.msl j0)<|cn,j0,⟨⟨_,j0,rsMap (fun _=>j0)⟩,j5⟩,j0,j1⟩<|u<|asg j0<|r_nil ?_
  refine sw_seq ?_
  refine rg j0<|u<|asg j0<|r_nil ?_
  obtain ⟨o,ho,h⟩:=bs h
  refine sw_lpl (X:=(List (List UInt8)) × (List (List UInt8)) × Int) (B:=(List (List UInt8))) (R:=(List (List UInt8))) (fun z=>[(0,.ipt 2 [[.isl 6 (List.map rApiClass v1),.imp (List.map (rKV (fun x=>iA x)) v2)]] 0 0),(5,.msl 0 0 (List.length z.1)),(6,.msl 1 0 (List.length z.2.1)),(7,iA z.2.2)]) (fun z=>[some (1,List.map rStr z.1),some (1,List.map rStr z.2.1)]) (fun b=>[(5,.msl 0 0 (List.length b))]) (fun b=>[some (1,List.map rStr b)]) (fun r env st=>PostF Tryz.prog Tryz.f26 0 (.msl 0 0 (List.length r)) [some (1,List.map rStr r)] env st) ho ⟨[.fresh 1,.old 0],ce j0 j0<|cv j0 (.nilown j0)<|cv j0 (.msl j0)<|ce j0 j0<|cn,j0,⟨j4,⟨_,j0,rsMap (fun _=>j0)⟩,j5⟩,j0,j1⟩ ?_ ?_ ?_
  ·
   rintro ⟨v25,v26,v27⟩ r h
   replace h : hier_Hier_Faces_s3_l11 v1 v2 v25 v26 v27 = some r:=h
   unfold hier_Hier_Faces_s3_l11 at h
   refine sw_seq ?_
   refine rg j0<|u<|mv j0<|u<|mv j0<|u<|lnM ti32 j0 j0 j0<|u<|lss ti3 j0 j0<|r_nil ?_
   refine sw_cond j0 (fun hc18=>?_) (fun hc18=>?_)
   ·
    replace h:=bT hc18 h
    refine sw_skip ?_
    refine sw_seq ?_
    refine sw_block ?_
    obtain ⟨v28,q19,h⟩:=bs h
    obtain ⟨v29,q20,h⟩:=bs h
    refine rg j0<|u<|mv j0<|u<|mv j0<|u<|mv j0<|u<|ixM ti32 j0 ti9 j0 j0 j0 j0 q19<|u<|ldM ti9 j0 j0 (idx_some q19).2.2 j0<|u<|pc (hier_Hier_get_ok v1 v2 v28 q20) j0 j0 j0<|u<|al 2 ti42 j0<|u<|sto ti42 j0 j0 j0<|r_nil ?_
    refine sw_meet (X:=(List (List UInt8))) (fun z=>[(0,.ipt 2 [[.isl 6 (List.map rApiClass v1),.imp (List.map (rKV (fun x=>iA x)) v2)]] 0 0),(5,.msl 0 0 (List.length z)),(6,.msl 1 0 (List.length v26)),(7,iA v27),(8,.mpt 2 0 0)]) (fun z=>[some (1,List.map rStr z),some (1,List.map rStr v26),some (6,[[sA v29.Name,sA v29.Super,bA v29.Interface,.isl 1 (List.map rStr v29.Impl),.isl 3 (List.map rApiField v29.Fields),.isl 10 (List.map rApiMethod v29.Methods)]])]) (fun z=>hier_Hier_Faces_s3_j6 v26 v27 v29 z = some r) ?_ ?_
    ·
     refine rg j0<|u<|fa ti42 j0 j0 j0<|u<|ld ti4 j0 j0<|r_nil ?_
     refine sw_cond j0 (fun hc21=>?_) (fun hc21=>?_)
     ·
      replace h:=bT hc21 h
      obtain ⟨v30,q22,h⟩:=bs h
      exact rl j0<|u<|mv j0<|u<|fa ti42 j0 j0 j0<|u<|ld ti9 j0 j0<|u<|bl 3 ti32 j0 ti9 j0 (by decide) (by decide) j0 j0 j0<|u<|apM 4 ti32 j0 ti9 j0 j0 (by decide) ti32 j0 j0 j0 j0 (roX (f:=rStr) (z:=[v29.Name]) j0 j0) (fun _=>j0) j0 q22<|u<|asg j0<|r_nil (⟨v30,h,[.old 4,.old 1,.old 2],ce j0 j0<|cv j0 (.msl j0)<|cv j0 (.msl j0)<|ce j0 j0<|cv j0 (.mpt j0)<|cn,j0,⟨⟨_,j0,rsMap (fun _=>j0)⟩,⟨_,j0,rsMap (fun _=>j0)⟩,⟨_,j0,rsOne ⟨ci j0,ci j0,ci j0,ci j0,ci j0,ci j0,j5⟩⟩,j5⟩,j0,j1⟩)
     ·
      replace h:=bF hc21 h
      refine sw_skip ?_
      exact ⟨v25,h,[.old 0,.old 1,.old 2],ce j0 j0<|cv j0 (.msl j0)<|cv j0 (.msl j0)<|ce j0 j0<|cv j0 (.mpt j0)<|cn,j0,⟨⟨_,j0,rsMap (fun _=>j0)⟩,⟨_,j0,rsMap (fun _=>j0)⟩,⟨_,j0,rsOne ⟨ci j0,ci j0,ci j0,ci j0,ci j0,ci j0,j5⟩⟩,j5⟩,j0,j1⟩
    ·
     rintro v31 h
     replace h : hier_Hier_Faces_s3_j6 v26 v27 v29 v31 = some r:=h
     unfold hier_Hier_Faces_s3_j6 at h
     refine rg j0<|u<|fa ti42 j0 j0 j0<|u<|ld ti32 j0 j0<|u<|lnI ti32 j0 j0<|u<|mv j0<|r_nil ?_
     obtain ⟨o,ho,h⟩:=bs h
     refine sw_lpl (X:=(List (List UInt8)) × Int) (B:=(List (List UInt8))) (R:=(List (List UInt8))) (fun z=>[(0,.ipt 2 [[.isl 6 (List.map rApiClass v1),.imp (List.map (rKV (fun x=>iA x)) v2)]] 0 0),(5,.msl 0 0 (List.length v31)),(6,.msl 1 0 (List.length z.1)),(7,iA v27),(38,.isl 1 (List.map rStr v29.Impl)),(39,iA (List.length v29.Impl : Int)),(40,iA z.2)]) (fun z=>[some (1,List.map rStr v31),some (1,List.map rStr z.1)]) (fun b=>[(0,.ipt 2 [[.isl 6 (List.map rApiClass v1),.imp (List.map (rKV (fun x=>iA x)) v2)]] 0 0),(5,.msl 0 0 (List.length v31)),(6,.msl 1 0 (List.length b)),(7,iA v27)]) (fun b=>[some (1,List.map rStr v31),some (1,List.map rStr b)]) (fun r env st=>PostF Tryz.prog Tryz.f26 0 (.msl 0 0 (List.length r)) [some (1,List.map rStr r)] env st) ho ⟨[.old 0,.old 1],ce j0 j0<|cv j0 (.msl j0)<|cv j0 (.msl j0)<|ce j0 j0<|ce j0 j0<|ce j0 j0<|ce j0 j0<|cn,j0,⟨⟨_,j0,rsMap (fun _=>j0)⟩,⟨_,j0,rsMap (fun _=>j0)⟩,j5⟩,j0,j1⟩ ?_ ?_ ?_
     ·
      rintro ⟨v38,v39⟩ r h
      replace h : hier_Hier_Faces_s3_l9 v29 v38 v39 = some r:=h
      unfold hier_Hier_Faces_s3_l9 at h
      refine rg j0<|u<|lss ti3 j0 j0<|r_nil ?_
      refine sw_seq ?_
      refine sw_cond j0 (fun hc28=>?_) (fun hc28=>?_)
      ·
       replace h:=bT hc28 h
       refine sw_skip ?_
       refine sw_meet (X:=(List (List UInt8))) (fun z=>[(0,.ipt 2 [[.isl 6 (List.map rApiClass v1),.imp (List.map (rKV (fun x=>iA x)) v2)]] 0 0),(5,.msl 0 0 (List.length v31)),(6,.msl 1 0 (List.length z)),(7,iA v27),(38,.isl 1 (List.map rStr v29.Impl)),(39,iA (List.length v29.Impl : Int)),(40,iA v39)]) (fun z=>[some (1,List.map rStr v31),some (1,List.map rStr z)]) (fun z=>hier_Hier_Faces_s3_j8 v39 z = some r) ?_ ?_
       ·
        refine sw_block ?_
        obtain ⟨v40,q29,h⟩:=bs h
        refine rg j0<|u<|ixI ti32 j0 ti9 j0 j0 j0 q29<|u<|ldI ti9 j0 (idx_some q29).2.2 j0<|u<|asg j0<|r_nil ?_
        obtain ⟨v41,q30,h⟩:=bs h
        refine rg j0<|u<|mv j0<|u<|mv j0<|u<|pcs (slices_Contains_string_string_ok v38 v40 q30) j0 j0 (.cons (sealM j0 (fun _=>j0)) (.cons (si j0) .nil)) plainB<|u<|nt j0<|r_nil ?_
        refine sw_cond j0 (fun hc31=>?_) (fun hc31=>?_)
        ·
         replace h:=bT hc31 h
         obtain ⟨v42,q32,h⟩:=bs h
         exact rl j0<|u<|mv j0<|u<|mv j0<|u<|bl 2 ti32 j0 ti9 j0 (by decide) (by decide) j0 j0 j0<|u<|apM 3 ti32 j0 ti9 j0 j0 (by decide) ti32 j0 j0 j0 j0 (roX (f:=rStr) (z:=[v40]) j0 j0) (fun _=>j0) j0 q32<|u<|asg j0<|r_nil (⟨v42,h,[.old 0,.old 3],ce j0 j0<|cv j0 (.msl j0)<|cv j0 (.msl j0)<|ce j0 j0<|ce j0 j0<|ce j0 j0<|ce j0 j0<|cn,j0,⟨⟨_,j0,rsMap (fun _=>j0)⟩,⟨_,j0,rsMap (fun _=>j0)⟩,j5⟩,j0,j1⟩)
        ·
         replace h:=bF hc31 h
         refine sw_skip ?_
         exact ⟨v38,h,[.old 0,.old 1],ce j0 j0<|cv j0 (.msl j0)<|cv j0 (.msl j0)<|ce j0 j0<|ce j0 j0<|ce j0 j0<|ce j0 j0<|cn,j0,⟨⟨_,j0,rsMap (fun _=>j0)⟩,⟨_,j0,rsMap (fun _=>j0)⟩,j5⟩,j0,j1⟩
       ·
        rintro v43 h
        replace h : hier_Hier_Faces_s3_j8 v39 v43 = some r:=h
        unfold hier_Hier_Faces_s3_j8 at h
        refine rl j0<|u<|add ti3 j0 j0<|u<|mv j0<|r_nil ?_
        obtain rfl:=sm h
        exact ⟨_,j0,[.old 0,.old 1],ce j0 j0<|cv j0 (.msl j0)<|cv j0 (.msl j0)<|ce j0 j0<|ce j0 j0<|ce j0 j0<|ce j0 j0<|cn,j0,⟨⟨_,j0,rsMap (fun _=>j0)⟩,⟨_,j0,rsMap (fun _=>j0)⟩,j5⟩,j0,j1⟩
      ·
       replace h:=bF hc28 h
       refine sw_exit ?_
       obtain rfl:=sm h
       exact ⟨j0,_,j0,[.old 0,.old 1],ce j0 j0<|cv j0 (.msl j0)<|cv j0 (.msl j0)<|ce j0 j0<|cn,j0,⟨⟨_,j0,rsMap (fun _=>j0)⟩,⟨_,j0,rsMap (fun _=>j0)⟩,j5⟩,j0,j1⟩
     ·
      rintro v44 rfl
      replace h : hier_Hier_Faces_s3_k10 v27 v31 v44 = some r:=h
      unfold hier_Hier_Faces_s3_k10 at h
      refine ow_intro ?_
      refine rl j0<|u<|mv j0<|u<|add ti3 j0 j0<|u<|asg j0<|r_nil ?_
      obtain rfl:=sm h
      exact ⟨_,j0,[.old 0,.old 1],ce j0 j0<|cv j0 (.msl j0)<|cv j0 (.msl j0)<|ce j0 j0<|cn,j0,⟨⟨_,j0,rsMap (fun _=>j0)⟩,⟨_,j0,rsMap (fun _=>j0)⟩,j5⟩,j0,j1⟩
     ·
      rintro r' rfl env st hp
      obtain rfl:=sm h
      exact ⟨_,j0,hp⟩
   ·
    replace h:=bF hc18 h
    refine sw_exit ?_
    obtain rfl:=sm h
    exact ⟨j0,_,j0,[.old 0],cv j0 (.msl j0)<|cn,j0,⟨⟨_,j0,rsMap (fun _=>j0)⟩,j5⟩,j0,j1⟩
  ·
   rintro v45 rfl
   replace h : hier_Hier_Faces_s3_k12 v45 = some r:=h
   unfold hier_Hier_Faces_s3_k12 at h
   refine ow_intro ?_
   obtain ⟨v46,q33,h⟩:=bs h
   refine rg j0<|u<|mv j0<|u<|sc [0] (sortW_ok v45 q33) j0 j0 j0 j0 ⟨(.msl j0),j5⟩ ⟨⟨j0,mkI (fun _=>j0)⟩,j5⟩<|r_can (env0:=[(5,.msl 0 0 (List.length v46))]) (st0:=[some (1,List.map rStr v46)]) ⟨[.old 0],cv j0 (mslE (sortW_len q33) j0)<|cn,j0,⟨⟨_,j0,rsMap (fun _=>j0)⟩,j5⟩,j0,j1⟩<|r_nil ?_
   refine rg j0<|u<|mv j0<|u<|asg j0<|r_nil ?_
   refine sw_ret ?_
   obtain rfl:=sm h
   exact ⟨_,j0,[.old 0],.msl j0,j0,⟨⟨_,j0,rsMap (fun _=>j0)⟩,j5⟩,j0,j1⟩
  ·
   rintro r' rfl env st hp
   obtain rfl:=sm h
   exact hp
def hier_Hier_Sub_s3_F (v0 : ((List ApiClass) × (List (List UInt8 × Int)) × (List UInt8) × (List UInt8) → Option Bool)) (v1 : List ApiClass) (v2 : List (List UInt8 × Int)) (v3 : List UInt8) (v4 : List UInt8) : Option (Bool) :=
  (hier_Hier_there_s2 v1 v2 v3).bind fun v5=>(cond (!v5) (some true) ((hier_Hier_there_s2 v1 v2 v4).bind fun v6=>some (!v6))).bind fun v7=>cond v7 (some false) ((kind_Elem v3).bind fun v8=>(kind_Elem v4).bind fun v9=>cond (v3 == v4) (some true) (cond (v8.2 && v9.2) ((cond ((!(v8.1 == [73])) && (!(v9.1 == [73]))) ((v0 (v1,v2,v8.1,v9.1)).bind fun v10=>some v10) (some false)).bind fun v11=>some v11) (cond v8.2 (some (v4 == [79,98,106,101,99,116])) ((hier_Hier_Supers_s2 v1 v2 v3).bind fun v12=>(slices_Contains_string_string v12 v4).bind fun v13=>(cond v13 (some true) ((hier_Hier_Faces_s3 v1 v2 v3).bind fun v14=>(slices_Contains_string_string v14 v4).bind fun v15=>some v15)).bind fun v16=>some v16))))
theorem hier_Hier_Sub_s3_F_ok (v0 : ((List ApiClass) × (List (List UInt8 × Int)) × (List UInt8) × (List UInt8) → Option Bool)) (hrec : ∀ z r,v0 z = some r → PureC Tryz.prog 24 [.ipt 2 [[.isl 6 (List.map rApiClass z.1),.imp (List.map (rKV (fun x=>iA x)) z.2.1)]] 0 0,sA z.2.2.1,sA z.2.2.2] (bA r)) (v1 : List ApiClass) (v2 : List (List UInt8 × Int)) (v3 : List UInt8) (v4 : List UInt8) {r : Bool} (h : hier_Hier_Sub_s3_F v0 v1 v2 v3 v4 = some r) : PureC Tryz.prog 24 [.ipt 2 [[.isl 6 (List.map rApiClass v1),.imp (List.map (rKV (fun x=>iA x)) v2)]] 0 0,sA v3,sA v4] (bA r):=by
 refine pure_fn Tryz.func24 j0 (by kernel_rfl) j0 j0 ?_
 unfold hier_Hier_Sub_s3_F at h
 refine rg j0<|u<|asg j0<|r_nil ?_
 refine sw_seq ?_
 obtain ⟨v5,q1,h⟩:=bs h
 obtain ⟨v7,q4,h⟩:=bs h
 refine rg j0<|u<|mv j0<|u<|mv j0<|u<|pc (hier_Hier_there_s2_ok v1 v2 v3 q1) j0 j0 j0<|u<|nt j0<|u<|mv j0<|r_or (x:=v7) (j:=4) 4 j0 j0 j0 j0 j0 gpn (fun hb2=>by replace q4:=bF hb2 q4; obtain ⟨v6,q3,q4⟩:=bs q4; obtain rfl:=sm q4; exact g j0 hb2<|mv j0<|g j0 hb2<|mv j0<|g j0 hb2<|pc (hier_Hier_there_s2_ok v1 v2 v4 q3) j0 j0 j0<|g j0 hb2<|nt j0<|r_nil (eg [16,17,18,19] 4 j0 j0 j0 j0)) (fun hb=>(sm (bT hb q4)).symm)<|r_nil ?_
 refine sw_cond j0 (fun hc5=>?_) (fun hc5=>?_)
 ·
  replace h:=bT hc5 h
  refine rg j0<|u<|asg j0<|r_nil ?_
  refine sw_ret ?_
  obtain rfl:=sm h
  exact ⟨_,j0,[],ci j0,j0,j5,j0,j1⟩
 ·
  replace h:=bF hc5 h
  refine sw_skip ?_
  obtain ⟨v8,q6,h⟩:=bs h
  refine rg j0<|u<|mv j0<|u<|pc (kind_Elem_ok v3 q6) j0 j0 j0<|u<|mv j0<|u<|ex j0 j0<|u<|ex j0 j0<|u<|asg j0<|u<|asg j0<|r_nil ?_
  obtain ⟨v9,q7,h⟩:=bs h
  refine rg j0<|u<|mv j0<|u<|pc (kind_Elem_ok v4 q7) j0 j0 j0<|u<|mv j0<|u<|ex j0 j0<|u<|ex j0 j0<|u<|asg j0<|u<|asg j0<|r_nil ?_
  refine sw_seq ?_
  refine sw_block ?_
  refine rg j0<|u<|mv j0<|u<|mv j0<|u<|seq ti9 j0 j0<|u<|asg j0<|r_nil ?_
  refine sw_cond j0 (fun hc8=>?_) (fun hc8=>?_)
  ·
   replace h:=bT hc8 h
   refine rg j0<|u<|asg j0<|r_nil ?_
   refine sw_ret ?_
   obtain rfl:=sm h
   exact ⟨_,j0,[],ci j0,j0,j5,j0,j1⟩
  ·
   replace h:=bF hc8 h
   refine rg j0<|u<|mv j0<|u<|mv j0<|r_and (j:=1) 1 j0 j0 j0 j0 j0 gpn (fun hb9=>g j0 hb9<|mv j0<|r_nil (egA [38] 1 hb9 j0 j0 j0 j0)) andF<|u<|asg j0<|r_nil ?_
   refine sw_cond j0 (fun hc10=>?_) (fun hc10=>?_)
   ·
    replace h:=bT hc10 h
    obtain ⟨v11,q14,h⟩:=bs h
    refine rg j0<|u<|mv j0<|u<|sne ti9 j0 j0<|u<|mv j0<|r_and (j:=2) 2 j0 j0 j0 j0 j0 gpn (fun hb11=>g j0 hb11<|mv j0<|g j0 hb11<|sne ti9 j0 j0<|r_nil (egA [43,44] 2 hb11 j0 j0 j0 j0)) andF<|u<|mv j0<|r_and (x:=v11) (j:=6) 4 j0 j0 j0 j0 j0 gpn (fun hb12=>by replace q14:=bT hb12 q14; obtain ⟨v10,q13,q14⟩:=bs q14; obtain rfl:=sm q14; exact g j0 hb12<|mv j0<|g j0 hb12<|mv j0<|g j0 hb12<|mv j0<|g j0 hb12<|pc (hrec (v1,v2,v8.1,v9.1) _ q13) j0 j0 j0<|r_nil (eg [47,48,49,50] 4 j0 j0 j0 j0)) (fun hb=>(sm (bF hb q14)).symm)<|u<|asg j0<|r_nil ?_
    refine sw_ret ?_
    obtain rfl:=sm h
    exact ⟨_,j0,[],ci j0,j0,j5,j0,j1⟩
   ·
    replace h:=bF hc10 h
    refine rg j0<|u<|mv j0<|u<|asg j0<|r_nil ?_
    refine sw_cond j0 (fun hc15=>?_) (fun hc15=>?_)
    ·
     replace h:=bT hc15 h
     refine rg j0<|u<|mv j0<|u<|seq ti9 j0 j0<|u<|asg j0<|r_nil ?_
     refine sw_ret ?_
     obtain rfl:=sm h
     exact ⟨_,j0,[],ci j0,j0,j5,j0,j1⟩
    ·
     replace h:=bF hc15 h
     refine sw_skip ?_
     obtain ⟨v12,q16,h⟩:=bs h
     obtain ⟨v13,q17,h⟩:=bs h
     obtain ⟨v16,q21,h⟩:=bs h
     refine rg j0<|u<|mv j0<|u<|mv j0<|u<|sc [] (hier_Hier_Supers_s2_ok v1 v2 v3 q16) j0 j0 j0 j0 ⟨(rnI j0),(rnI j0),j5⟩ j5<|r_can (env0:=[(0,.ipt 2 [[.isl 6 (List.map rApiClass v1),.imp (List.map (rKV (fun x=>iA x)) v2)]] 0 0),(1,sA v3),(2,sA v4),(58,.msl 0 0 (List.length v12))]) (st0:=[some (1,List.map rStr v12)]) ⟨[.old 0],ce j0 j0<|ce j0 j0<|ce j0 j0<|cv j0 (.msl j0)<|cn,j0,⟨⟨_,j0,rsMap (fun _=>j0)⟩,j5⟩,j0,j1⟩<|u<|mv j0<|u<|pcs (slices_Contains_string_string_ok v12 v4 q17) j0 j0 (.cons (sealM j0 (fun _=>j0)) (.cons (si j0) .nil)) plainB<|u<|mv j0<|r_orX (x:=v16) (j:=5) 5 1 j0 j0 j0 j0 j0 gpn (fun hb18=>by replace q21:=bF hb18 q21; obtain ⟨v14,q19,q21⟩:=bs q21; obtain ⟨v15,q20,q21⟩:=bs q21; obtain rfl:=sm q21; exact g j0 hb18<|mv j0<|g j0 hb18<|mv j0<|g j0 hb18<|sc [] (hier_Hier_Faces_s3_ok v1 v2 v3 q19) j0 j0 j0 j0 ⟨(rnI j0),(rnI j0),j5⟩ j5<|g j0 hb18<|mv j0<|g j0 hb18<|pcs (slices_Contains_string_string_ok v14 v4 q20) j0 j0 (.cons (sealM j0 (fun _=>j0)) (.cons (si j0) .nil)) plainB<|r_nil (xg [62,63,64,65,66] 5 j0 j0 j0 j0 j0 j0)) (fun hb=>(sm (bT hb q21)).symm)<|u<|asg j0<|r_nil ?_
     refine sw_ret ?_
     obtain rfl:=sm h
     exact ⟨_,j0,[],ci j0,j0,j5,j0,j1⟩
def hier_Hier_Sub_s3 (v1 : List ApiClass) (v2 : List (List UInt8 × Int)) (v3 : List UInt8) (v4 : List UInt8) : Option Bool :=
  recP (fun v0 z=>hier_Hier_Sub_s3_F v0 z.1 z.2.1 z.2.2.1 z.2.2.2) (v1,v2,v3,v4)
theorem hier_Hier_Sub_s3_ok (v1 : List ApiClass) (v2 : List (List UInt8 × Int)) (v3 : List UInt8) (v4 : List UInt8) {r : Bool} (h : hier_Hier_Sub_s3 v1 v2 v3 v4 = some r) : PureC Tryz.prog 24 [.ipt 2 [[.isl 6 (List.map rApiClass v1),.imp (List.map (rKV (fun x=>iA x)) v2)]] 0 0,sA v3,sA v4] (bA r) :=
  rec_all (F:=(fun v0 z=>hier_Hier_Sub_s3_F v0 z.1 z.2.1 z.2.2.1 z.2.2.2)) (Q:=fun z r=>PureC Tryz.prog 24 [.ipt 2 [[.isl 6 (List.map rApiClass z.1),.imp (List.map (rKV (fun x=>iA x)) z.2.1)]] 0 0,sA z.2.2.1,sA z.2.2.2] (bA r)) (fun v0 hv z r h=>hier_Hier_Sub_s3_F_ok v0 hv z.1 z.2.1 z.2.2.1 z.2.2.2 h) h
end
end Go.Proofs.YtooagifeniibcaaGreat
namespace Go.Proofs.YtooagifeniibcaaGreat
noncomputable section
set_option linter.unusedSimpArgs false
set_option linter.unusedVariables false
set_option maxRecDepth 100000
set_option maxHeartbeats 4000000
def hier_Hier_Class (v1 : Option HierHier) (v2 : List UInt8) : Option (ApiClass × Bool) :=
  optE v1 (cond (!(hier_Hier_has_s2 v2)) (some ((ApiClass.mk [] [] false [] [] []),false)) (none)) (fun v3=>cond (!(hier_Hier_has v3.l v3.at_ v2)) (some ((ApiClass.mk [] [] false [] [] []),false)) ((hier_Hier_get v3.l v3.at_ v2).bind fun v4=>some (v4,true)))
end
end Go.Proofs.YtooagifeniibcaaGreat
namespace Go.Proofs.YtooagifeniibcaaGreat
noncomputable section
set_option linter.unusedSimpArgs false
set_option linter.unusedVariables false
set_option maxRecDepth 100000
set_option maxHeartbeats 4000000
def hier_Hier_Class_s2 (v1 : List UInt8) : Option (ApiClass × Bool) :=
  cond (!(hier_Hier_has_s2 v1)) (some ((ApiClass.mk [] [] false [] [] []),false)) (none)
theorem hier_Hier_Class_s2_ok (v1 : List UInt8) {r : ApiClass × Bool} (h : hier_Hier_Class_s2 v1 = some r) : PureC Tryz.prog 33 [.lit (.pointer none),sA v1] (.tup [.agg [sA r.1.Name,sA r.1.Super,bA r.1.Interface,.isl 1 (List.map rStr r.1.Impl),.isl 3 (List.map rApiField r.1.Fields),.isl 10 (List.map rApiMethod r.1.Methods)],bA r.2]):=by
 refine pure_fn Tryz.func33 j0 (by kernel_rfl) j0 j0 ?_
 unfold hier_Hier_Class_s2 at h
 refine rg j0<|u<|al 0 ti42 j0<|u<|asg j0<|r_nil ?_
 refine sw_seq ?_
 refine rg j0<|u<|mv j0<|u<|mv j0<|u<|pc (hier_Hier_has_s2_ok v1 j0) j0 j0 j0<|u<|nt j0<|r_nil ?_
 refine sw_cond j0 (fun hc1=>?_) (fun hc1=>?_)
 ·
  replace h:=bT hc1 h
  refine rg j0<|u<|bd ti42 j0 j0 j0<|u<|sto ti42 j0 j0 j0<|u<|asg j0<|r_nil ?_
  refine sw_ret ?_
  obtain rfl:=sm h
  exact ⟨_,j0,[],rsTup ⟨(rsAgg ⟨(ci j0),(ci j0),(ci j0),(.nil),(.nil),(.nil),j5⟩),(ci j0),j5⟩,j0,j5,j0,j1⟩
 ·
  replace h:=bF hc1 h
  refine sw_skip ?_
  cases h
def hier_Hier_Class_s3 (v1 : List ApiClass) (v2 : List (List UInt8 × Int)) (v3 : List UInt8) : Option (ApiClass × Bool) :=
  cond (!(hier_Hier_has v1 v2 v3)) (some ((ApiClass.mk [] [] false [] [] []),false)) ((hier_Hier_get v1 v2 v3).bind fun v4=>some (v4,true))
theorem hier_Hier_Class_s3_ok (v1 : List ApiClass) (v2 : List (List UInt8 × Int)) (v3 : List UInt8) {r : ApiClass × Bool} (h : hier_Hier_Class_s3 v1 v2 v3 = some r) : PureC Tryz.prog 33 [.ipt 2 [[.isl 6 (List.map rApiClass v1),.imp (List.map (rKV (fun x=>iA x)) v2)]] 0 0,sA v3] (.tup [.agg [sA r.1.Name,sA r.1.Super,bA r.1.Interface,.isl 1 (List.map rStr r.1.Impl),.isl 3 (List.map rApiField r.1.Fields),.isl 10 (List.map rApiMethod r.1.Methods)],bA r.2]):=by
 refine pure_fn Tryz.func33 j0 (by kernel_rfl) j0 j0 ?_
 unfold hier_Hier_Class_s3 at h
 refine rg j0<|u<|al 0 ti42 j0<|u<|asg j0<|r_nil ?_
 refine sw_seq ?_
 refine rg j0<|u<|mv j0<|u<|mv j0<|u<|pc (hier_Hier_has_ok v1 v2 v3 j0) j0 j0 j0<|u<|nt j0<|r_nil ?_
 refine sw_cond j0 (fun hc1=>?_) (fun hc1=>?_)
 ·
  replace h:=bT hc1 h
  refine rg j0<|u<|bd ti42 j0 j0 j0<|u<|sto ti42 j0 j0 j0<|u<|asg j0<|r_nil ?_
  refine sw_ret ?_
  obtain rfl:=sm h
  exact ⟨_,j0,[],rsTup ⟨(rsAgg ⟨(ci j0),(ci j0),(ci j0),(.nil),(.nil),(.nil),j5⟩),(ci j0),j5⟩,j0,j5,j0,j1⟩
 ·
  replace h:=bF hc1 h
  refine sw_skip ?_
  obtain ⟨v4,q2,h⟩:=bs h
  refine rg j0<|u<|mv j0<|u<|mv j0<|u<|pc (hier_Hier_get_ok v1 v2 v3 q2) j0 j0 j0<|u<|sto ti42 j0 j0 j0<|u<|asg j0<|r_nil ?_
  refine sw_ret ?_
  obtain rfl:=sm h
  exact ⟨_,j0,[],rsTup ⟨(ci j0),(ci j0),j5⟩,j0,j5,j0,j1⟩
end
end Go.Proofs.YtooagifeniibcaaGreat
namespace Go.Proofs.YtooagifeniibcaaGreat
noncomputable section
set_option linter.unusedSimpArgs false
set_option linter.unusedVariables false
set_option maxRecDepth 100000
set_option maxHeartbeats 4000000
def law9_texts_k6 (v32 : List (List UInt8)) : Option ((List (List UInt8))) :=
  some v32
def law9_texts_l5 (v2 : List Int) (v17 : List (List UInt8)) (v25 : List (List UInt8)) (v26 : Int) : Option (Sum ((List (List UInt8)) × Int) (Sum ((List (List UInt8))) ((List (List UInt8))))) :=
  cond ((decide (v26 < (List.length v2 : Int))) && (decide (v26 < 16))) ((idx v2 v26).bind fun v27=>(remP v27 ((List.length v17) : Int)).bind fun v28=>(remP (IntKind.i64.wrap (v28 + ((List.length v17) : Int))) ((List.length v17) : Int)).bind fun v29=>(idx v17 v29).bind fun v30=>(appP 16 v25 [v30]).bind fun v31=>some (.inl (v31,(IntKind.i64.wrap (v26 + 1))))) (some (.inr (.inl v25)))
def law9_texts_k4 (v2 : List Int) (v17 : List (List UInt8)) : Option ((List (List UInt8))) :=
  (loopP (fun z=>law9_texts_l5 v2 v17 z.1 z.2) ([],0)).bind fun o=>leave o (fun b=>law9_texts_k6 b) some
def law9_texts_l3 (v4 : Ref7Hier) (v11 : List (List UInt8)) (v12 : Int) : Option (Sum ((List (List UInt8)) × Int) (Sum ((List (List UInt8))) ((List (List UInt8))))) :=
  cond (decide (v12 < (List.length v4.L : Int))) ((idx v4.L v12).bind fun v13=>(idx v4.L v12).bind fun v14=>(catP [91] v14.Name).bind fun v15=>(appP 16 v11 [v13.Name,v15]).bind fun v16=>some (.inl (v16,(IntKind.i64.wrap (v12 + 1))))) (some (.inr (.inl v11)))
def law9_texts (v1 : Option Ref7Hier) (v2 : List Int) (v3 : List UInt8) : Option ((List (List UInt8))) :=
  optE v1 (none) (fun v4=>(loopP (fun z=>law9_texts_l3 v4 z.1 z.2) ([[73],[78],[84],[79,98,106,101,99,116],[91,73],[91,91,73],[91,79,98,106,101,99,116],[86],v3],10)).bind fun o=>leave o (fun b=>law9_texts_k4 v2 b) some)
theorem law9_texts_ok (v1 : Option Ref7Hier) (v2 : List Int) (v3 : List UInt8) {r : (List (List UInt8))} (h : law9_texts v1 v2 v3 = some r) : SC Tryz.prog 46 [optP 1 rRef7Hier v1,.isl 1 (List.map (rI .i64) v2),sA v3] [] (.msl 0 0 (List.length r)) [.many 1 (List.map rStr r)]:=by
 refine ⟨⟨sbOk (sz:=1) (fun _=>j0),j5⟩,scall_fn Tryz.func46 j0 (by kernel_rfl) j0 ?_⟩
 unfold law9_texts at h
 rcases v1 with _ | v4
 ·
  replace h:=oeN h
  refine rg j0<|u<|asg j0<|r_nil ?_
  refine rg j0<|u<|mv j0<|u<|bl 0 ti32 j0 ti9 j0 (by decide) (by decide) j0 j0 j0<|u<|asg j0<|r_nil ?_
  refine sw_seq ?_
  refine rg j0<|u<|asg j0<|r_nil ?_
  cases h
 ·
  replace h:=oeS h
  refine rg j0<|u<|asg j0<|r_nil ?_
  refine rg j0<|u<|mv j0<|u<|bl 0 ti32 j0 ti9 j0 (by decide) (by decide) j0 j0 j0<|u<|asg j0<|r_nil ?_
  refine sw_seq ?_
  refine rg j0<|u<|asg j0<|r_nil ?_
  obtain ⟨o,ho,h⟩:=bs h
  refine sw_lpl (X:=(List (List UInt8)) × Int) (B:=(List (List UInt8))) (R:=(List (List UInt8))) (fun z=>[(0,.ipt 1 [[.isl 6 (List.map rApiClass v4.L)]] 0 0),(1,.isl 1 (List.map (rI .i64) v2)),(7,.msl 0 0 (List.length z.1)),(8,iA z.2)]) (fun z=>[some (1,List.map rStr z.1)]) (fun b=>[(1,.isl 1 (List.map (rI .i64) v2)),(7,.msl 0 0 (List.length b))]) (fun b=>[some (1,List.map rStr b)]) (fun r env st=>PostF Tryz.prog Tryz.f46 0 (.msl 0 0 (List.length r)) [some (1,List.map rStr r)] env st) ho ⟨[.old 0],ce j0 j0<|ce j0 j0<|cv j0 (.msl j0)<|ce j0 j0<|cn,j0,⟨⟨_,j0,rsRows ⟨⟨(ci j0),j5⟩,⟨(ci j0),j5⟩,⟨(ci j0),j5⟩,⟨(ci j0),j5⟩,⟨(ci j0),j5⟩,⟨(ci j0),j5⟩,⟨(ci j0),j5⟩,⟨(ci j0),j5⟩,⟨(ci j0),j5⟩,j5⟩⟩,j5⟩,j0,j1⟩ ?_ ?_ ?_
  ·
   rintro ⟨v11,v12⟩ r h
   replace h : law9_texts_l3 v4 v11 v12 = some r:=h
   unfold law9_texts_l3 at h
   refine sw_seq ?_
   refine rg j0<|u<|mv j0<|u<|mv j0<|u<|nc j0 j0<|u<|fa ti51 j0 j0 j0<|u<|ld ti22 j0 j0<|u<|lnI ti22 j0 j0<|u<|lss ti3 j0 j0<|r_nil ?_
   refine sw_cond j0 (fun hc6=>?_) (fun hc6=>?_)
   ·
    replace h:=bT hc6 h
    refine sw_skip ?_
    refine sw_seq ?_
    refine sw_block ?_
    obtain ⟨v13,q7,h⟩:=bs h
    obtain ⟨v14,q8,h⟩:=bs h
    obtain ⟨v15,q9,h⟩:=bs h
    obtain ⟨v16,q10,h⟩:=bs h
    refine rdL [(0,.ipt 1 [[.isl 6 (List.map rApiClass v4.L)]] 0 0),(1,.isl 1 (List.map (rI .i64) v2)),(7,.msl 0 0 (List.length v16)),(8,iA v12)] [some (1,List.map rStr v16)] [18,19] [17,16,15,14,13,12,11,10,9,8,7,6,5,4,3,2,1,0] [(39,sA v15),(38,sA v14.Name),(37,.ipt 6 (List.map rApiClass v4.L) (Int.toNat v12) 0),(36,.ipt 6 (List.map rApiClass v4.L) (Int.toNat v12) 0),(35,iA v12),(34,.isl 6 (List.map rApiClass v4.L)),(33,.ipt 1 [[.isl 6 (List.map rApiClass v4.L)]] 0 0),(32,.ipt 1 [[.isl 6 (List.map rApiClass v4.L)]] 0 0),(31,.ipt 1 [[.isl 6 (List.map rApiClass v4.L)]] 0 0),(30,sA v13.Name),(29,.ipt 6 (List.map rApiClass v4.L) (Int.toNat v12) 0),(28,.ipt 6 (List.map rApiClass v4.L) (Int.toNat v12) 0),(27,iA v12),(26,.isl 6 (List.map rApiClass v4.L)),(25,.ipt 1 [[.isl 6 (List.map rApiClass v4.L)]] 0 0),(24,.ipt 1 [[.isl 6 (List.map rApiClass v4.L)]] 0 0),(23,.ipt 1 [[.isl 6 (List.map rApiClass v4.L)]] 0 0),(22,.msl 0 0 (List.length v11))] 2 (by kernel_rfl) (by kernel_rfl) j0 (by kernel_rfl) (dtS ⟨(fun _=>pa j0 j0 j0 j0 (scat ti9 j0 j0 q9<|j4)),(fun _=>pa j0 j0 j0 j0 (ldI ti9 j0 (idx_some q8).2.2 j0<|j4)),(fun _=>pa j0 j0 j0 j0 (fa ti42 j0 j0 j0<|j4)),(fun _=>pa j0 j0 j0 j0 (ixI ti22 j0 ti42 j0 j0 j0 q8<|j4)),(fun _=>pa j0 j0 j0 j0 (mv j0<|j4)),(fun _=>pa j0 j0 j0 j0 (ld ti22 j0 j0<|j4)),(fun _=>pa j0 j0 j0 j0 (fa ti51 j0 j0 j0<|j4)),(fun _=>pa j0 j0 j0 j0 (nc j0 j0<|j4)),(fun _=>pa j0 j0 j0 j0 (mv j0<|j4)),(fun _=>pa j0 j0 j0 j0 (ldI ti9 j0 (idx_some q7).2.2 j0<|j4)),(fun _=>pa j0 j0 j0 j0 (fa ti42 j0 j0 j0<|j4)),(fun _=>pa j0 j0 j0 j0 (ixI ti22 j0 ti42 j0 j0 j0 q7<|j4)),(fun _=>pa j0 j0 j0 j0 (mv j0<|j4)),(fun _=>pa j0 j0 j0 j0 (ld ti22 j0 j0<|j4)),(fun _=>pa j0 j0 j0 j0 (fa ti51 j0 j0 j0<|j4)),(fun _=>pa j0 j0 j0 j0 (nc j0 j0<|j4)),(fun _=>pa j0 j0 j0 j0 (mv j0<|j4)),(fun _=>pa j0 j0 j0 j0 (mv j0<|j4)),j5⟩ (by kernel_rfl) j0 ⟨(fun _ _=>⟨_,j0,j0,bl 1 ti32 j0 ti9 j0 (by decide) (by decide) j0 j0 j0<|⟨(.msl 1 0 2),[],[(40,.msl 1 0 2)],j0,j0,by kernel_rfl,j0,dtS ⟨(fun h=>by cases h),(fun _=>pa j0 j0 j0 j0 (ldI ti9 j0 (idx_some q8).2.2 j0<|j4)),(fun _=>pa j0 j0 j0 j0 (fa ti42 j0 j0 j0<|j4)),(fun _=>pa j0 j0 j0 j0 (ixI ti22 j0 ti42 j0 j0 j0 q8<|j4)),(fun _=>pa j0 j0 j0 j0 (mv j0<|j4)),(fun _=>pa j0 j0 j0 j0 (ld ti22 j0 j0<|j4)),(fun _=>pa j0 j0 j0 j0 (fa ti51 j0 j0 j0<|j4)),(fun _=>pa j0 j0 j0 j0 (nc j0 j0<|j4)),(fun _=>pa j0 j0 j0 j0 (mv j0<|j4)),(fun h=>by cases h),(fun _=>pa j0 j0 j0 j0 (fa ti42 j0 j0 j0<|j4)),(fun _=>pa j0 j0 j0 j0 (ixI ti22 j0 ti42 j0 j0 j0 q7<|j4)),(fun _=>pa j0 j0 j0 j0 (mv j0<|j4)),(fun _=>pa j0 j0 j0 j0 (ld ti22 j0 j0<|j4)),(fun _=>pa j0 j0 j0 j0 (fa ti51 j0 j0 j0<|j4)),(fun _=>pa j0 j0 j0 j0 (nc j0 j0<|j4)),(fun _=>pa j0 j0 j0 j0 (mv j0<|j4)),(fun _=>pa j0 j0 j0 j0 (mv j0<|j4)),j5⟩ (by kernel_rfl) j0 ⟨(fun h=>by cases h),(fun _ _=>⟨_,j0,j0,apM 2 ti32 j0 ti9 j0 j0 (by decide) ti32 j0 j0 j0 j0 (roX (f:=rStr) (z:=[v13.Name,v15]) j0 j0) (fun _=>j0) j0 q10<|⟨(.msl 2 0 (List.length v16)),[20],[(7,.msl 2 0 (List.length v16)),(41,.msl 2 0 (List.length v16))],j0,j0,by kernel_rfl,j0,dt0 ⟨(fun _=>pa j0 j0 j0 j0 (asg j0<|j4)),(fun h=>by cases h),(fun _=>pa j0 j0 j0 j0 (ldI ti9 j0 (idx_some q8).2.2 j0<|j4)),(fun _=>pa j0 j0 j0 j0 (fa ti42 j0 j0 j0<|j4)),(fun _=>pa j0 j0 j0 j0 (ixI ti22 j0 ti42 j0 j0 j0 q8<|j4)),(fun _=>pa j0 j0 j0 j0 (mv j0<|j4)),(fun _=>pa j0 j0 j0 j0 (ld ti22 j0 j0<|j4)),(fun _=>pa j0 j0 j0 j0 (fa ti51 j0 j0 j0<|j4)),(fun _=>pa j0 j0 j0 j0 (nc j0 j0<|j4)),(fun _=>pa j0 j0 j0 j0 (mv j0<|j4)),(fun h=>by cases h),(fun _=>pa j0 j0 j0 j0 (fa ti42 j0 j0 j0<|j4)),(fun _=>pa j0 j0 j0 j0 (ixI ti22 j0 ti42 j0 j0 j0 q7<|j4)),(fun _=>pa j0 j0 j0 j0 (mv j0<|j4)),(fun _=>pa j0 j0 j0 j0 (ld ti22 j0 j0<|j4)),(fun _=>pa j0 j0 j0 j0 (fa ti51 j0 j0 j0<|j4)),(fun _=>pa j0 j0 j0 j0 (nc j0 j0<|j4)),(fun _=>pa j0 j0 j0 j0 (mv j0<|j4)),(fun h=>by cases h),j5⟩ (by kernel_rfl) j0 ⟨[.old 2],ce j0 j0<|ce j0 j0<|cv j0 (.msl j0)<|ce j0 j0<|cn,j0,⟨⟨_,j0,rsMap (fun _=>j0)⟩,j5⟩,j0,j1⟩⟩⟩),j5⟩⟩⟩),(fun _ h=>by cases h),j5⟩) ?_
    refine rl j0<|u<|mv j0<|u<|add ti3 j0 j0<|u<|asg j0<|r_nil ?_
    obtain rfl:=sm h
    exact ⟨_,j0,[.old 0],ce j0 j0<|ce j0 j0<|cv j0 (.msl j0)<|ce j0 j0<|cn,j0,⟨⟨_,j0,rsMap (fun _=>j0)⟩,j5⟩,j0,j1⟩
   ·
    replace h:=bF hc6 h
    refine sw_exit ?_
    obtain rfl:=sm h
    exact ⟨j0,_,j0,[.old 0],ce j0 j0<|cv j0 (.msl j0)<|cn,j0,⟨⟨_,j0,rsMap (fun _=>j0)⟩,j5⟩,j0,j1⟩
  ·
   rintro v17 rfl
   replace h : law9_texts_k4 v2 v17 = some r:=h
   unfold law9_texts_k4 at h
   refine ow_intro ?_
   refine rg j0<|u<|asg j0<|r_nil ?_
   refine sw_seq ?_
   refine rg j0<|u<|asg j0<|r_nil ?_
   obtain ⟨o,ho,h⟩:=bs h
   refine sw_lpl (X:=(List (List UInt8)) × Int) (B:=(List (List UInt8))) (R:=(List (List UInt8))) (fun z=>[(1,.isl 1 (List.map (rI .i64) v2)),(7,.msl 0 0 (List.length v17)),(9,.msl 1 0 (List.length z.1)),(10,iA z.2)]) (fun z=>[some (1,List.map rStr v17),some (1,List.map rStr z.1)]) (fun b=>[(9,.msl 0 0 (List.length b))]) (fun b=>[some (1,List.map rStr b)]) (fun r env st=>PostF Tryz.prog Tryz.f46 0 (.msl 0 0 (List.length r)) [some (1,List.map rStr r)] env st) ho ⟨[.old 0,.fresh 1],ce j0 j0<|cv j0 (.msl j0)<|cv j0 (.nilown j0)<|ce j0 j0<|cn,j0,⟨⟨_,j0,rsMap (fun _=>j0)⟩,j4,j5⟩,j0,j1⟩ ?_ ?_ ?_
   ·
    rintro ⟨v25,v26⟩ r h
    replace h : law9_texts_l5 v2 v17 v25 v26 = some r:=h
    unfold law9_texts_l5 at h
    refine sw_seq ?_
    refine rg j0<|u<|mv j0<|u<|mv j0<|u<|lnI ti75 j0 j0<|u<|lss ti3 j0 j0<|u<|mv j0<|r_and (j:=4) 2 j0 j0 j0 j0 j0 gpn (fun hb18=>g j0 hb18<|mv j0<|g j0 hb18<|lss ti3 j0 j0<|r_nil (egA [47,48] 2 hb18 j0 j0 j0 j0)) andF<|r_nil ?_
    refine sw_cond j0 (fun hc19=>?_) (fun hc19=>?_)
    ·
     replace h:=bT hc19 h
     refine sw_skip ?_
     refine sw_seq ?_
     refine sw_block ?_
     obtain ⟨v27,q20,h⟩:=bs h
     obtain ⟨v28,q21,h⟩:=bs h
     obtain ⟨v29,q22,h⟩:=bs h
     obtain ⟨v30,q23,h⟩:=bs h
     obtain ⟨v31,q24,h⟩:=bs h
     refine rl j0<|u<|mv j0<|u<|mv j0<|u<|mv j0<|u<|mv j0<|u<|ixI ti75 j0 ti3 j0 j0 j0 q20<|u<|ldI ti3 j0 (idx_some q20).2.2 j0<|u<|mv j0<|u<|lnM ti32 j0 j0 j0<|u<|rem ti3 j0 j0 q21<|u<|mv j0<|u<|lnM ti32 j0 j0 j0<|u<|add ti3 j0 j0<|u<|mv j0<|u<|lnM ti32 j0 j0 j0<|u<|rem ti3 j0 j0 q22<|u<|ixM ti32 j0 ti9 j0 j0 j0 j0 q23<|u<|ldM ti9 j0 j0 (idx_some q23).2.2 j0<|u<|bl 2 ti32 j0 ti9 j0 (by decide) (by decide) j0 j0 j0<|u<|apM 3 ti32 j0 ti9 j0 j0 (by decide) ti32 j0 j0 j0 j0 (roX (f:=rStr) (z:=[v30]) j0 j0) (fun _=>j0) j0 q24<|u<|asg j0<|r_nil ?_
     refine rl j0<|u<|mv j0<|u<|add ti3 j0 j0<|u<|asg j0<|r_nil ?_
     obtain rfl:=sm h
     exact ⟨_,j0,[.old 0,.old 3],ce j0 j0<|cv j0 (.msl j0)<|cv j0 (.msl j0)<|ce j0 j0<|cn,j0,⟨⟨_,j0,rsMap (fun _=>j0)⟩,⟨_,j0,rsMap (fun _=>j0)⟩,j5⟩,j0,j1⟩
    ·
     replace h:=bF hc19 h
     refine sw_exit ?_
     obtain rfl:=sm h
     exact ⟨j0,_,j0,[.old 1],cv j0 (.msl j0)<|cn,j0,⟨⟨_,j0,rsMap (fun _=>j0)⟩,j5⟩,j0,j1⟩
   ·
    rintro v32 rfl
    replace h : law9_texts_k6 v32 = some r:=h
    unfold law9_texts_k6 at h
    refine ow_intro ?_
    refine rg j0<|u<|mv j0<|u<|asg j0<|r_nil ?_
    refine sw_ret ?_
    obtain rfl:=sm h
    exact ⟨_,j0,[.old 0],.msl j0,j0,⟨⟨_,j0,rsMap (fun _=>j0)⟩,j5⟩,j0,j1⟩
   ·
    rintro r' rfl env st hp
    obtain rfl:=sm h
    exact hp
  ·
   rintro r' rfl env st hp
   obtain rfl:=sm h
   exact hp
def types_There (v1 : List UInt8) : Bool :=
  false
theorem types_There_ok (v1 : List UInt8) {r : Bool} (h : types_There v1 = r) : PureC Tryz.prog 48 [.lit (.pointer none),sA v1] (bA r):=by
 refine pure_fn Tryz.func48 j0 (by kernel_rfl) j0 j0 ?_
 unfold types_There at h
 refine rg j0<|u<|asg j0<|r_nil ?_
 refine rg j0<|u<|mv j0<|u<|nep ti25 j0 j0 j0 j0 j0 j0<|u<|mv j0<|r_skip (aguard_of (b:=false) j0)<|r_skip (aguard_of (b:=false) j0)<|r_skip (aguard_of (b:=false) j0)<|r_skip (aguard_undef j0)<|r_skip (aguard_undef j0)<|r_skip (aguard_of (b:=false) j0)<|r_skip (aguard_of (b:=false) j0)<|r_skip (aguard_undef j0)<|r_skip (aguard_undef j0)<|r_skip (aguard_undef j0)<|r_skip (aguard_undef j0)<|r_skip (aguard_of (b:=false) j0)<|u<|pk (b:=false) j0 j0<|u<|asg j0<|r_nil ?_
 refine sw_ret ?_
 obtain rfl:=h
 exact ⟨_,j0,[],ci j0,j0,j5,j0,j1⟩
def types_ref (v1 : List UInt8) : Option (Bool) :=
  (cond (!(v1 == [73])) ((hier_Hier_Sub_s2 v1 v1).bind fun v2=>some v2) (some false)).bind fun v3=>some v3
theorem types_ref_ok (v1 : List UInt8) {r : Bool} (h : types_ref v1 = some r) : PureC Tryz.prog 89 [.lit (.pointer none),sA v1] (bA r):=by
 refine pure_fn Tryz.func89 j0 (by kernel_rfl) j0 j0 ?_
 unfold types_ref at h
 refine rg j0<|u<|asg j0<|r_nil ?_
 obtain ⟨v3,q3,h⟩:=bs h
 refine rg j0<|u<|mv j0<|u<|sne ti9 j0 j0<|u<|mv j0<|r_and (x:=v3) (j:=2) 4 j0 j0 j0 j0 j0 gpn (fun hb1=>by replace q3:=bT hb1 q3; obtain ⟨v2,q2,q3⟩:=bs q3; obtain rfl:=sm q3; exact g j0 hb1<|mv j0<|g j0 hb1<|mv j0<|g j0 hb1<|mv j0<|g j0 hb1<|pc (hier_Hier_Sub_s2_ok v1 v1 q2) j0 j0 j0<|r_nil (eg [8,9,10,11] 4 j0 j0 j0 j0)) (fun hb=>(sm (bF hb q3)).symm)<|u<|asg j0<|r_nil ?_
 refine sw_ret ?_
 obtain rfl:=sm h
 exact ⟨_,j0,[],ci j0,j0,j5,j0,j1⟩
def types_There_s2 (v1 : List ApiClass) (v2 : List (List UInt8 × Int)) (v3 : List UInt8) : Option (Bool) :=
  (cond ((v3 == [78]) || (v3 == [84])) (some true) ((hier_Hier_Sub_s3 v1 v2 v3 v3).bind fun v4=>some v4)).bind fun v5=>some v5
theorem types_There_s2_ok (v1 : List ApiClass) (v2 : List (List UInt8 × Int)) (v3 : List UInt8) {r : Bool} (h : types_There_s2 v1 v2 v3 = some r) : PureC Tryz.prog 48 [.ipt 2 [[.isl 6 (List.map rApiClass v1),.imp (List.map (rKV (fun x=>iA x)) v2)]] 0 0,sA v3] (bA r):=by
 refine pure_fn Tryz.func48 j0 (by kernel_rfl) j0 j0 ?_
 unfold types_There_s2 at h
 refine rg j0<|u<|asg j0<|r_nil ?_
 obtain ⟨v5,q4,h⟩:=bs h
 refine rg j0<|u<|mv j0<|u<|nep ti25 j0 j0 j0 j0 j0 j0<|u<|mv j0<|g j0 j0<|mv j0<|g j0 j0<|seq ti9 j0 j0<|g j0 j0<|mv j0<|r_or (j:=5) 2 j0 j0 j0 j0 j0 (gps j0 j0 j0) (fun hb1=>g j0 hb1<|mv j0<|g j0 hb1<|seq ti9 j0 j0<|r_nil (egO [11,12] 2 hb1 j0 j0 j0 j0)) orT<|g j0 j0<|mv j0<|r_or (x:=v5) (j:=9) 4 j0 j0 j0 j0 j0 (gps j0 j0 j0) (fun hb2=>by replace q4:=bF hb2 q4; obtain ⟨v4,q3,q4⟩:=bs q4; obtain rfl:=sm q4; exact g j0 hb2<|mv j0<|g j0 hb2<|mv j0<|g j0 hb2<|mv j0<|g j0 hb2<|pc (hier_Hier_Sub_s3_ok v1 v2 v3 v3 q3) j0 j0 j0<|r_nil (eg [15,16,17,18] 4 j0 j0 j0 j0)) (fun hb=>(sm (bT hb q4)).symm)<|u<|pk (b:=true) j0 j0<|u<|asg j0<|r_nil ?_
 refine sw_ret ?_
 obtain rfl:=sm h
 exact ⟨_,j0,[],ci j0,j0,j5,j0,j1⟩
def types_ref_s2 (v1 : List ApiClass) (v2 : List (List UInt8 × Int)) (v3 : List UInt8) : Option (Bool) :=
  (cond (!(v3 == [73])) ((hier_Hier_Sub_s3 v1 v2 v3 v3).bind fun v4=>some v4) (some false)).bind fun v5=>some v5
theorem types_ref_s2_ok (v1 : List ApiClass) (v2 : List (List UInt8 × Int)) (v3 : List UInt8) {r : Bool} (h : types_ref_s2 v1 v2 v3 = some r) : PureC Tryz.prog 89 [.ipt 2 [[.isl 6 (List.map rApiClass v1),.imp (List.map (rKV (fun x=>iA x)) v2)]] 0 0,sA v3] (bA r):=by
 refine pure_fn Tryz.func89 j0 (by kernel_rfl) j0 j0 ?_
 unfold types_ref_s2 at h
 refine rg j0<|u<|asg j0<|r_nil ?_
 obtain ⟨v5,q3,h⟩:=bs h
 refine rg j0<|u<|mv j0<|u<|sne ti9 j0 j0<|u<|mv j0<|r_and (x:=v5) (j:=2) 4 j0 j0 j0 j0 j0 gpn (fun hb1=>by replace q3:=bT hb1 q3; obtain ⟨v4,q2,q3⟩:=bs q3; obtain rfl:=sm q3; exact g j0 hb1<|mv j0<|g j0 hb1<|mv j0<|g j0 hb1<|mv j0<|g j0 hb1<|pc (hier_Hier_Sub_s3_ok v1 v2 v3 v3 q2) j0 j0 j0<|r_nil (eg [8,9,10,11] 4 j0 j0 j0 j0)) (fun hb=>(sm (bF hb q3)).symm)<|u<|asg j0<|r_nil ?_
 refine sw_ret ?_
 obtain rfl:=sm h
 exact ⟨_,j0,[],ci j0,j0,j5,j0,j1⟩
def types_Fits (v1 : Option HierHier) (v2 : List UInt8) (v3 : List UInt8) : Option (Bool) :=
  optE v1 (cond ((!(types_There v2)) || (!(types_There v3))) (some false) (cond ((v3 == [84]) || (v2 == v3)) (some true) (cond (v2 == [78]) ((types_ref v3).bind fun v5=>some v5) ((types_ref v2).bind fun v6=>(cond (!v6) (some true) ((types_ref v3).bind fun v7=>some (!v7))).bind fun v8=>cond v8 (some false) ((hier_Hier_Class_s2 v3).bind fun v9=>(cond v9.1.Interface (some true) ((hier_Hier_Sub_s2 v2 v3).bind fun v10=>some v10)).bind fun v11=>some v11))))) (fun v4=>(types_There_s2 v4.l v4.at_ v2).bind fun v12=>(cond (!v12) (some true) ((types_There_s2 v4.l v4.at_ v3).bind fun v13=>some (!v13))).bind fun v14=>cond v14 (some false) (cond ((v3 == [84]) || (v2 == v3)) (some true) (cond (v2 == [78]) ((types_ref_s2 v4.l v4.at_ v3).bind fun v15=>some v15) ((types_ref_s2 v4.l v4.at_ v2).bind fun v16=>(cond (!v16) (some true) ((types_ref_s2 v4.l v4.at_ v3).bind fun v17=>some (!v17))).bind fun v18=>cond v18 (some false) ((hier_Hier_Class_s3 v4.l v4.at_ v3).bind fun v19=>(cond v19.1.Interface (some true) ((hier_Hier_Sub_s3 v4.l v4.at_ v2 v3).bind fun v20=>some v20)).bind fun v21=>some v21)))))
theorem types_Fits_ok (v1 : Option HierHier) (v2 : List UInt8) (v3 : List UInt8) {r : Bool} (h : types_Fits v1 v2 v3 = some r) : PureC Tryz.prog 49 [optP 2 rHierHier v1,sA v2,sA v3] (bA r):=by
 refine pure_fn Tryz.func49 j0 (by kernel_rfl) j0 j0 ?_
 unfold types_Fits at h
 rcases v1 with _ | v4
 ·
  replace h:=oeN h
  refine rg j0<|u<|asg j0<|r_nil ?_
  refine sw_seq ?_
  refine sw_block ?_
  refine rg j0<|u<|mv j0<|u<|mv j0<|u<|pc (types_There_ok v2 j0) j0 j0 j0<|u<|nt j0<|u<|mv j0<|r_or (j:=4) 4 j0 j0 j0 j0 j0 gpn (fun hb1=>g j0 hb1<|mv j0<|g j0 hb1<|mv j0<|g j0 hb1<|pc (types_There_ok v3 j0) j0 j0 j0<|g j0 hb1<|nt j0<|r_nil (egO [15,16,17,18] 4 hb1 j0 j0 j0 j0)) orT<|u<|asg j0<|r_nil ?_
  refine sw_cond j0 (fun hc2=>?_) (fun hc2=>?_)
  ·
   replace h:=bT hc2 h
   refine rg j0<|u<|asg j0<|r_nil ?_
   refine sw_ret ?_
   obtain rfl:=sm h
   exact ⟨_,j0,[],ci j0,j0,j5,j0,j1⟩
  ·
   replace h:=bF hc2 h
   refine rg j0<|u<|mv j0<|u<|seq ti9 j0 j0<|u<|mv j0<|r_or (j:=2) 3 j0 j0 j0 j0 j0 gpn (fun hb3=>g j0 hb3<|mv j0<|g j0 hb3<|mv j0<|g j0 hb3<|seq ti9 j0 j0<|r_nil (egO [24,25,26] 3 hb3 j0 j0 j0 j0)) orT<|u<|asg j0<|r_nil ?_
   refine sw_cond j0 (fun hc4=>?_) (fun hc4=>?_)
   ·
    replace h:=bT hc4 h
    refine rg j0<|u<|asg j0<|r_nil ?_
    refine sw_ret ?_
    obtain rfl:=sm h
    exact ⟨_,j0,[],ci j0,j0,j5,j0,j1⟩
   ·
    replace h:=bF hc4 h
    refine rg j0<|u<|mv j0<|u<|seq ti9 j0 j0<|u<|asg j0<|r_nil ?_
    refine sw_cond j0 (fun hc5=>?_) (fun hc5=>?_)
    ·
     replace h:=bT hc5 h
     obtain ⟨v5,q6,h⟩:=bs h
     refine rg j0<|u<|mv j0<|u<|mv j0<|u<|pc (types_ref_ok v3 q6) j0 j0 j0<|u<|asg j0<|r_nil ?_
     refine sw_ret ?_
     obtain rfl:=sm h
     exact ⟨_,j0,[],ci j0,j0,j5,j0,j1⟩
    ·
     replace h:=bF hc5 h
     obtain ⟨v6,q7,h⟩:=bs h
     obtain ⟨v8,q10,h⟩:=bs h
     refine rg j0<|u<|mv j0<|u<|mv j0<|u<|pc (types_ref_ok v2 q7) j0 j0 j0<|u<|nt j0<|u<|mv j0<|r_or (x:=v8) (j:=4) 4 j0 j0 j0 j0 j0 gpn (fun hb8=>by replace q10:=bF hb8 q10; obtain ⟨v7,q9,q10⟩:=bs q10; obtain rfl:=sm q10; exact g j0 hb8<|mv j0<|g j0 hb8<|mv j0<|g j0 hb8<|pc (types_ref_ok v3 q9) j0 j0 j0<|g j0 hb8<|nt j0<|r_nil (eg [40,41,42,43] 4 j0 j0 j0 j0)) (fun hb=>(sm (bT hb q10)).symm)<|u<|asg j0<|r_nil ?_
     refine sw_cond j0 (fun hc11=>?_) (fun hc11=>?_)
     ·
      replace h:=bT hc11 h
      refine rg j0<|u<|asg j0<|r_nil ?_
      refine sw_ret ?_
      obtain rfl:=sm h
      exact ⟨_,j0,[],ci j0,j0,j5,j0,j1⟩
     ·
      replace h:=bF hc11 h
      refine sw_skip ?_
      obtain ⟨v9,q12,h⟩:=bs h
      refine rg j0<|u<|mv j0<|u<|mv j0<|u<|pc (hier_Hier_Class_s2_ok v3 q12) j0 j0 j0<|u<|mv j0<|u<|ex j0 j0<|u<|ex j0 j0<|u<|al 0 ti42 j0<|u<|sto ti42 j0 j0 j0<|u<|asg j0<|r_nil ?_
      obtain ⟨v11,q15,h⟩:=bs h
      refine rg j0<|u<|fa ti42 j0 j0 j0<|u<|ld ti4 j0 j0<|u<|mv j0<|r_or (x:=v11) (j:=2) 4 j0 j0 j0 j0 j0 gpn (fun hb13=>by replace q15:=bF hb13 q15; obtain ⟨v10,q14,q15⟩:=bs q15; obtain rfl:=sm q15; exact g j0 hb13<|mv j0<|g j0 hb13<|mv j0<|g j0 hb13<|mv j0<|g j0 hb13<|pc (hier_Hier_Sub_s2_ok v2 v3 q14) j0 j0 j0<|r_nil (eg [54,55,56,57] 4 j0 j0 j0 j0)) (fun hb=>(sm (bT hb q15)).symm)<|u<|asg j0<|r_nil ?_
      refine sw_ret ?_
      obtain rfl:=sm h
      exact ⟨_,j0,[],ci j0,j0,j5,j0,j1⟩
 ·
  replace h:=oeS h
  refine rg j0<|u<|asg j0<|r_nil ?_
  refine sw_seq ?_
  refine sw_block ?_
  obtain ⟨v12,q16,h⟩:=bs h
  obtain ⟨v14,q19,h⟩:=bs h
  refine rg j0<|u<|mv j0<|u<|mv j0<|u<|pc (types_There_s2_ok v4.l v4.at_ v2 q16) j0 j0 j0<|u<|nt j0<|u<|mv j0<|r_or (x:=v14) (j:=4) 4 j0 j0 j0 j0 j0 gpn (fun hb17=>by replace q19:=bF hb17 q19; obtain ⟨v13,q18,q19⟩:=bs q19; obtain rfl:=sm q19; exact g j0 hb17<|mv j0<|g j0 hb17<|mv j0<|g j0 hb17<|pc (types_There_s2_ok v4.l v4.at_ v3 q18) j0 j0 j0<|g j0 hb17<|nt j0<|r_nil (eg [15,16,17,18] 4 j0 j0 j0 j0)) (fun hb=>(sm (bT hb q19)).symm)<|u<|asg j0<|r_nil ?_
  refine sw_cond j0 (fun hc20=>?_) (fun hc20=>?_)
  ·
   replace h:=bT hc20 h
   refine rg j0<|u<|asg j0<|r_nil ?_
   refine sw_ret ?_
   obtain rfl:=sm h
   exact ⟨_,j0,[],ci j0,j0,j5,j0,j1⟩
  ·
   replace h:=bF hc20 h
   refine rg j0<|u<|mv j0<|u<|seq ti9 j0 j0<|u<|mv j0<|r_or (j:=2) 3 j0 j0 j0 j0 j0 gpn (fun hb21=>g j0 hb21<|mv j0<|g j0 hb21<|mv j0<|g j0 hb21<|seq ti9 j0 j0<|r_nil (egO [24,25,26] 3 hb21 j0 j0 j0 j0)) orT<|u<|asg j0<|r_nil ?_
   refine sw_cond j0 (fun hc22=>?_) (fun hc22=>?_)
   ·
    replace h:=bT hc22 h
    refine rg j0<|u<|asg j0<|r_nil ?_
    refine sw_ret ?_
    obtain rfl:=sm h
    exact ⟨_,j0,[],ci j0,j0,j5,j0,j1⟩
   ·
    replace h:=bF hc22 h
    refine rg j0<|u<|mv j0<|u<|seq ti9 j0 j0<|u<|asg j0<|r_nil ?_
    refine sw_cond j0 (fun hc23=>?_) (fun hc23=>?_)
    ·
     replace h:=bT hc23 h
     obtain ⟨v15,q24,h⟩:=bs h
     refine rg j0<|u<|mv j0<|u<|mv j0<|u<|pc (types_ref_s2_ok v4.l v4.at_ v3 q24) j0 j0 j0<|u<|asg j0<|r_nil ?_
     refine sw_ret ?_
     obtain rfl:=sm h
     exact ⟨_,j0,[],ci j0,j0,j5,j0,j1⟩
    ·
     replace h:=bF hc23 h
     obtain ⟨v16,q25,h⟩:=bs h
     obtain ⟨v18,q28,h⟩:=bs h
     refine rg j0<|u<|mv j0<|u<|mv j0<|u<|pc (types_ref_s2_ok v4.l v4.at_ v2 q25) j0 j0 j0<|u<|nt j0<|u<|mv j0<|r_or (x:=v18) (j:=4) 4 j0 j0 j0 j0 j0 gpn (fun hb26=>by replace q28:=bF hb26 q28; obtain ⟨v17,q27,q28⟩:=bs q28; obtain rfl:=sm q28; exact g j0 hb26<|mv j0<|g j0 hb26<|mv j0<|g j0 hb26<|pc (types_ref_s2_ok v4.l v4.at_ v3 q27) j0 j0 j0<|g j0 hb26<|nt j0<|r_nil (eg [40,41,42,43] 4 j0 j0 j0 j0)) (fun hb=>(sm (bT hb q28)).symm)<|u<|asg j0<|r_nil ?_
     refine sw_cond j0 (fun hc29=>?_) (fun hc29=>?_)
     ·
      replace h:=bT hc29 h
      refine rg j0<|u<|asg j0<|r_nil ?_
      refine sw_ret ?_
      obtain rfl:=sm h
      exact ⟨_,j0,[],ci j0,j0,j5,j0,j1⟩
     ·
      replace h:=bF hc29 h
      refine sw_skip ?_
      obtain ⟨v19,q30,h⟩:=bs h
      refine rg j0<|u<|mv j0<|u<|mv j0<|u<|pc (hier_Hier_Class_s3_ok v4.l v4.at_ v3 q30) j0 j0 j0<|u<|mv j0<|u<|ex j0 j0<|u<|ex j0 j0<|u<|al 0 ti42 j0<|u<|sto ti42 j0 j0 j0<|u<|asg j0<|r_nil ?_
      obtain ⟨v21,q33,h⟩:=bs h
      refine rg j0<|u<|fa ti42 j0 j0 j0<|u<|ld ti4 j0 j0<|u<|mv j0<|r_or (x:=v21) (j:=2) 4 j0 j0 j0 j0 j0 gpn (fun hb31=>by replace q33:=bF hb31 q33; obtain ⟨v20,q32,q33⟩:=bs q33; obtain rfl:=sm q33; exact g j0 hb31<|mv j0<|g j0 hb31<|mv j0<|g j0 hb31<|mv j0<|g j0 hb31<|pc (hier_Hier_Sub_s3_ok v4.l v4.at_ v2 v3 q32) j0 j0 j0<|r_nil (eg [54,55,56,57] 4 j0 j0 j0 j0)) (fun hb=>(sm (bT hb q33)).symm)<|u<|asg j0<|r_nil ?_
      refine sw_ret ?_
      obtain rfl:=sm h
      exact ⟨_,j0,[],ci j0,j0,j5,j0,j1⟩
end
end Go.Proofs.YtooagifeniibcaaGreat
