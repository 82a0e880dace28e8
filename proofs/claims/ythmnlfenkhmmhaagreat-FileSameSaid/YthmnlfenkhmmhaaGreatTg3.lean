/- FileSame: for every input the law returns true, and each argument reads as it read before. No further condition. Part 3 of 7. -/
import Derived.Test.YthmnlfenkhmmhaaGreatTg2
namespace Go.Proofs.YthmnlfenkhmmhaaGreat
noncomputable section
set_option linter.unusedSimpArgs false
set_option linter.unusedVariables false
set_option maxRecDepth 100000
set_option maxHeartbeats 4000000
def num_Get_k4 : Option (Int × Int × Int) :=
  some (0,0,2)
def num_Get_j2 (v9 : Int) (v13 : Int) : Option (Sum (Int × Int) (Sum (Unit) (Int × Int × Int))) :=
  some (.inr (.inr (v13,(IntKind.i64.wrap (v9 + 1)),0)))
def num_Get_l3 (v1 : List UInt8) (v8 : Int) (v9 : Int) : Option (Sum (Int × Int) (Sum (Unit) (Int × Int × Int))) :=
  cond (decide (v9 < (List.length v1 : Int))) ((idx v1 v9).bind fun v10=>cond ((v9 == (9 : Int)) && (decide (1 < (v10.toNat : Int)))) (some (.inr (.inr (0,0,1)))) ((shlP .u64 (IntKind.u64.wrap ((v10 &&& (127 : UInt8)).toNat : Int)) (IntKind.i64.wrap (7 * v9))).bind fun v11=>cond (decide (127 < (v10.toNat : Int))) (some (.inl ((orI .u64 v8 v11),(IntKind.i64.wrap (v9 + 1))))) (cond ((decide (0 < v9)) && ((v10.toNat : Int) == (0 : Int))) (some (.inr (.inr (0,0,1)))) ((shrP .u64 (orI .u64 v8 v11) 1).bind fun v12=>cond ((andI .u64 (orI .u64 v8 v11) 1) == (1 : Int)) (num_Get_j2 v9 (xorI .i64 (IntKind.i64.wrap v12))) (num_Get_j2 v9 (IntKind.i64.wrap v12)))))) (some (.inr (.inl ())))
def num_Get (v1 : List UInt8) : Option (Int × Int × Int) :=
  (loopP (fun z=>num_Get_l3 v1 z.1 z.2) (0,0)).bind fun o=>leave o (fun b=>num_Get_k4) some
theorem num_Get_ok (v1 : List UInt8) {r : Int × Int × Int} (h : num_Get v1 = some r) : PureC Tryz.prog 251 [.isl 1 (List.map byteRow v1)] (.tup [iA r.1,iA r.2.1,iA r.2.2]):=by
 refine pure_fn Tryz.func251 j0 (by kernel_rfl) j0 j0 ?_
 unfold num_Get at h
 refine rg j0<|u<|asg j0<|u<|asg j0<|u<|asg j0<|r_nil ?_
 refine rg j0<|u<|asg j0<|r_nil ?_
 refine sw_seq ?_
 refine rg j0<|u<|mv j0<|u<|lnI ti29 j0 j0<|u<|mv j0<|r_nil ?_
 obtain ⟨o,ho,h⟩:=bs h
 refine sw_lpl (X:=Int × Int) (B:=Unit) (R:=Int × Int × Int) (fun z=>[(5,.lit (.int .u64 z.1)),(9,.isl 1 (List.map byteRow v1)),(10,iA (List.length v1 : Int)),(11,iA z.2)]) (fun z=>[]) (fun b=>[]) (fun b=>[]) (fun r env st=>PostF Tryz.prog Tryz.f251 0 (.tup [iA r.1,iA r.2.1,iA r.2.2]) [] env st) ho ⟨[],ce j0 j0<|ce j0 j0<|ce j0 j0<|ce j0 j0<|cn,j0,j5,j0,j1⟩ ?_ ?_ ?_
 ·
  rintro ⟨v8,v9⟩ r h
  replace h : num_Get_l3 v1 v8 v9 = some r:=h
  unfold num_Get_l3 at h
  refine rg j0<|u<|lss ti3 j0 j0<|r_nil ?_
  refine sw_seq ?_
  refine sw_cond j0 (fun hc11=>?_) (fun hc11=>?_)
  ·
   replace h:=bT hc11 h
   refine sw_skip ?_
   refine sw_seq ?_
   refine sw_block ?_
   obtain ⟨v10,q12,h⟩:=bs h
   refine rg j0<|u<|mv j0<|u<|ixI ti29 j0 ti5 j0 j0 j0 q12<|u<|ldI ti5 j0 (idx_some q12).2.2 j0<|u<|asg j0<|u<|asg j0<|r_nil ?_
   refine sw_seq ?_
   refine rg j0<|u<|mv j0<|u<|eql ti3 j0 j0<|u<|mv j0<|r_and (j:=2) 2 j0 j0 j0 j0 j0 gpn (fun hb13=>g j0 hb13<|mv j0<|g j0 hb13<|gtr ti5 j0 j0<|r_nil (egA [19,20] 2 hb13 j0 j0 j0 j0)) andF<|r_nil ?_
   refine sw_cond j0 (fun hc14=>?_) (fun hc14=>?_)
   ·
    replace h:=bT hc14 h
    refine rg j0<|u<|asg j0<|u<|asg j0<|u<|asg j0<|r_nil ?_
    refine sw_ret ?_
    obtain rfl:=sm h
    exact ⟨_,j0,_,j0,[],rsTup ⟨(ci j0),(ci j0),(ci j0),j5⟩,j0,j5,j0,j1⟩
   ·
    replace h:=bF hc14 h
    refine sw_skip ?_
    obtain ⟨v11,q15,h⟩:=bs h
    refine rg j0<|u<|mv j0<|u<|mv j0<|u<|band8 ti5 j0 j0<|u<|cvi ti5 ti210 j0 j0 j0<|u<|mv j0<|u<|mul ti3 j0 j0<|u<|shl ti210 j0 j0 q15<|u<|bor ti210 j0 j0<|u<|asg j0<|r_nil ?_
    refine sw_seq ?_
    refine rg j0<|u<|mv j0<|u<|gtr ti5 j0 j0<|r_nil ?_
    refine sw_cond j0 (fun hc16=>?_) (fun hc16=>?_)
    ·
     replace h:=bT hc16 h
     refine sw_exit ?_
     refine rl j0<|u<|add ti3 j0 j0<|u<|mv j0<|r_nil ?_
     obtain rfl:=sm h
     exact ⟨_,j0,[],ce j0 j0<|ce j0 j0<|ce j0 j0<|ce j0 j0<|cn,j0,j5,j0,j1⟩
    ·
     replace h:=bF hc16 h
     refine sw_skip ?_
     refine sw_seq ?_
     refine rg j0<|u<|mv j0<|u<|gtr ti3 j0 j0<|u<|mv j0<|r_and (j:=2) 2 j0 j0 j0 j0 j0 gpn (fun hb17=>g j0 hb17<|mv j0<|g j0 hb17<|eql ti5 j0 j0<|r_nil (egA [35,36] 2 hb17 j0 j0 j0 j0)) andF<|r_nil ?_
     refine sw_cond j0 (fun hc18=>?_) (fun hc18=>?_)
     ·
      replace h:=bT hc18 h
      refine rg j0<|u<|asg j0<|u<|asg j0<|u<|asg j0<|r_nil ?_
      refine sw_ret ?_
      obtain rfl:=sm h
      exact ⟨_,j0,_,j0,[],rsTup ⟨(ci j0),(ci j0),(ci j0),j5⟩,j0,j5,j0,j1⟩
     ·
      replace h:=bF hc18 h
      refine sw_skip ?_
      obtain ⟨v12,q19,h⟩:=bs h
      refine rg j0<|u<|mv j0<|u<|shr ti210 j0 j0 q19<|u<|cvi ti210 ti2 j0 j0 j0<|u<|asg j0<|r_nil ?_
      refine sw_meet (X:=Int) (fun z=>[(6,iA v9),(8,iA z)]) (fun z=>[]) (fun z=>num_Get_j2 v9 z = some r) ?_ ?_
      ·
       refine rg j0<|u<|mv j0<|u<|band ti210 j0 j0<|u<|eql ti210 j0 j0<|r_nil ?_
       refine sw_cond j0 (fun hc20=>?_) (fun hc20=>?_)
       ·
        replace h:=bT hc20 h
        exact rl j0<|u<|mv j0<|u<|xo j0<|u<|asg j0<|r_nil (⟨(xorI .i64 (IntKind.i64.wrap v12)),h,[],ce j0 j0<|ce j0 j0<|cn,j0,j5,j0,j1⟩)
       ·
        replace h:=bF hc20 h
        refine sw_skip ?_
        exact ⟨(IntKind.i64.wrap v12),h,[],ce j0 j0<|ce j0 j0<|cn,j0,j5,j0,j1⟩
      ·
       rintro v13 h
       replace h : num_Get_j2 v9 v13 = some r:=h
       unfold num_Get_j2 at h
       refine rg j0<|u<|mv j0<|u<|mv j0<|u<|add ti3 j0 j0<|u<|asg j0<|u<|asg j0<|u<|asg j0<|r_nil ?_
       refine sw_ret ?_
       obtain rfl:=sm h
       exact ⟨_,j0,_,j0,[],rsTup ⟨(ci j0),(ci j0),(ci j0),j5⟩,j0,j5,j0,j1⟩
  ·
   replace h:=bF hc11 h
   refine sw_exit ?_
   obtain rfl:=sm h
   exact ⟨j0,_,j0,[],cn,j0,j5,j0,j1⟩
 ·
  rintro ⟨⟩ rfl
  replace h : num_Get_k4 = some r:=h
  unfold num_Get_k4 at h
  refine ow_intro ?_
  refine rg j0<|u<|asg j0<|u<|asg j0<|u<|asg j0<|r_nil ?_
  refine sw_ret ?_
  obtain rfl:=sm h
  exact ⟨_,j0,[],rsTup ⟨(ci j0),(ci j0),(ci j0),j5⟩,j0,j5,j0,j1⟩
 ·
  rintro r' rfl env st hp
  obtain rfl:=sm h
  exact hp
def num_GetText (v1 : List UInt8) : Option ((List UInt8) × Int × Int) :=
  (num_Get v1).bind fun v2=>cond (!(v2.2.2 == (0 : Int))) (some ([],0,v2.2.2)) (cond ((decide (v2.1 < 0)) || (decide (1048576 < v2.1))) (some ([],0,1)) (cond (decide ((IntKind.i64.wrap ((List.length v1 : Int) - v2.2.1)) < v2.1)) (some ([],0,2)) ((cutP v1 v2.2.1 (IntKind.i64.wrap (v2.2.1 + v2.1))).bind fun v3=>some (v3,(IntKind.i64.wrap (v2.2.1 + v2.1)),0))))
theorem num_GetText_ok (v1 : List UInt8) {r : (List UInt8) × Int × Int} (h : num_GetText v1 = some r) : PureC Tryz.prog 170 [.isl 1 (List.map byteRow v1)] (.tup [sA r.1,iA r.2.1,iA r.2.2]):=by
 refine pure_fn Tryz.func170 j0 (by kernel_rfl) j0 j0 ?_
 unfold num_GetText at h
 refine rg j0<|u<|asg j0<|u<|asg j0<|u<|asg j0<|r_nil ?_
 obtain ⟨v2,q1,h⟩:=bs h
 refine rg j0<|u<|mv j0<|u<|pc (num_Get_ok v1 q1) j0 j0 j0<|u<|mv j0<|u<|ex j0 j0<|u<|ex j0 j0<|u<|ex j0 j0<|u<|asg j0<|u<|asg j0<|u<|asg j0<|r_nil ?_
 refine sw_seq ?_
 refine sw_block ?_
 refine rg j0<|u<|mv j0<|u<|neq ti31 j0 j0<|u<|asg j0<|r_nil ?_
 refine sw_cond j0 (fun hc2=>?_) (fun hc2=>?_)
 ·
  replace h:=bT hc2 h
  refine rg j0<|u<|mv j0<|u<|asg j0<|u<|asg j0<|u<|asg j0<|r_nil ?_
  refine sw_ret ?_
  obtain rfl:=sm h
  exact ⟨_,j0,[],rsTup ⟨(ci j0),(ci j0),(ci j0),j5⟩,j0,j5,j0,j1⟩
 ·
  replace h:=bF hc2 h
  refine rg j0<|u<|mv j0<|u<|lss ti2 j0 j0<|u<|mv j0<|r_or (j:=2) 2 j0 j0 j0 j0 j0 gpn (fun hb3=>g j0 hb3<|mv j0<|g j0 hb3<|gtr ti2 j0 j0<|r_nil (egO [22,23] 2 hb3 j0 j0 j0 j0)) orT<|u<|asg j0<|r_nil ?_
  refine sw_cond j0 (fun hc4=>?_) (fun hc4=>?_)
  ·
   replace h:=bT hc4 h
   refine rg j0<|u<|asg j0<|u<|asg j0<|u<|asg j0<|r_nil ?_
   refine sw_ret ?_
   obtain rfl:=sm h
   exact ⟨_,j0,[],rsTup ⟨(ci j0),(ci j0),(ci j0),j5⟩,j0,j5,j0,j1⟩
  ·
   replace h:=bF hc4 h
   refine rg j0<|u<|mv j0<|u<|mv j0<|u<|lnI ti29 j0 j0<|u<|mv j0<|u<|sub ti3 j0 j0<|u<|gtr ti3 j0 j0<|u<|asg j0<|r_nil ?_
   refine sw_cond j0 (fun hc5=>?_) (fun hc5=>?_)
   ·
    replace h:=bT hc5 h
    refine rg j0<|u<|asg j0<|u<|asg j0<|u<|asg j0<|r_nil ?_
    refine sw_ret ?_
    obtain rfl:=sm h
    exact ⟨_,j0,[],rsTup ⟨(ci j0),(ci j0),(ci j0),j5⟩,j0,j5,j0,j1⟩
   ·
    replace h:=bF hc5 h
    refine sw_skip ?_
    obtain ⟨v3,q6,h⟩:=bs h
    refine rg j0<|u<|mv j0<|u<|mv j0<|u<|mv j0<|u<|mv j0<|u<|add ti3 j0 j0<|u<|slI (a:=v2.2.1) (b:=(IntKind.i64.wrap (v2.2.1 + v2.1))) ti29 j0 ti5 j0 j0 (bnd_lo j0 q6) (bnd_hi j0 q6) q6<|u<|cvt (l:=v3) ti29 ti9 j0 j0 ti5 j0 j0 (fun _ h=>by cases h) roI<|u<|mv j0<|u<|mv j0<|u<|add ti3 j0 j0<|u<|asg j0<|u<|asg j0<|u<|asg j0<|r_nil ?_
    refine sw_ret ?_
    obtain rfl:=sm h
    exact ⟨_,j0,[],rsTup ⟨(ci j0),(ci j0),(ci j0),j5⟩,j0,j5,j0,j1⟩
def ref3_EqIns (v1 : ApiIns) (v2 : ApiIns) : Bool :=
  ((((v1.Op == v2.Op) && (v1.A == v2.A)) && (v1.C == v2.C)) && (v1.M == v2.M))
theorem ref3_EqIns_ok (v1 : ApiIns) (v2 : ApiIns) {r : Bool} (h : ref3_EqIns v1 v2 = r) : PureC Tryz.prog 178 [.agg [iA v1.Op,iA v1.A,sA v1.C,sA v1.M],.agg [iA v2.Op,iA v2.A,sA v2.C,sA v2.M]] (bA r):=by
 refine pure_fn Tryz.func178 j0 (by kernel_rfl) j0 j0 ?_
 unfold ref3_EqIns at h
 refine rg j0<|u<|bx 0 4 j0 j0 j0 j0<|u<|bx 1 4 j0 j0 j0 j0<|u<|asg j0<|r_nil ?_
 refine rg j0<|u<|fa ti40 j0 j0 j0<|u<|ld ti3 j0 j0<|u<|fa ti40 j0 j0 j0<|u<|ld ti3 j0 j0<|u<|eql ti3 j0 j0<|u<|mv j0<|r_and (j:=5) 5 j0 j0 j0 j0 j0 gpn (fun hb1=>g j0 hb1<|fa ti40 j0 j0 j0<|g j0 hb1<|ld ti3 j0 j0<|g j0 hb1<|fa ti40 j0 j0 j0<|g j0 hb1<|ld ti3 j0 j0<|g j0 hb1<|eql ti3 j0 j0<|r_nil (egA [11,12,13,14,15] 5 hb1 j0 j0 j0 j0)) andF<|u<|mv j0<|r_and (j:=12) 5 j0 j0 j0 j0 j0 gpn (fun hb2=>g j0 hb2<|fa ti40 j0 j0 j0<|g j0 hb2<|ld ti9 j0 j0<|g j0 hb2<|fa ti40 j0 j0 j0<|g j0 hb2<|ld ti9 j0 j0<|g j0 hb2<|seq ti9 j0 j0<|r_nil (egA [18,19,20,21,22] 5 hb2 j0 j0 j0 j0)) andF<|u<|mv j0<|r_and (j:=19) 5 j0 j0 j0 j0 j0 gpn (fun hb3=>g j0 hb3<|fa ti40 j0 j0 j0<|g j0 hb3<|ld ti9 j0 j0<|g j0 hb3<|fa ti40 j0 j0 j0<|g j0 hb3<|ld ti9 j0 j0<|g j0 hb3<|seq ti9 j0 j0<|r_nil (egA [25,26,27,28,29] 5 hb3 j0 j0 j0 j0)) andF<|u<|asg j0<|r_nil ?_
 refine sw_ret ?_
 obtain rfl:=h
 exact ⟨_,j0,[],ci j0,j0,j5,j0,j1⟩
def law1_Cut (v1 : List UInt8) (v2 : Int) : Option ((List UInt8)) :=
  cond (decide (v2 < (List.length v1 : Int))) ((cutP v1 0 v2).bind fun v3=>some v3) (some v1)
theorem law1_Cut_ok (v1 : List UInt8) (v2 : Int) {r : (List UInt8)} (h : law1_Cut v1 v2 = some r) : PureC Tryz.prog 38 [sA v1,iA v2] (sA r):=by
 refine pure_fn Tryz.func38 j0 (by kernel_rfl) j0 j0 ?_
 unfold law1_Cut at h
 refine rg j0<|u<|asg j0<|r_nil ?_
 refine sw_seq ?_
 refine rg j0<|u<|mv j0<|u<|lnS ti9 j0 j0<|u<|mv j0<|u<|gtr ti3 j0 j0<|r_nil ?_
 refine sw_cond j0 (fun hc1=>?_) (fun hc1=>?_)
 ·
  replace h:=bT hc1 h
  obtain ⟨v3,q2,h⟩:=bs h
  refine rg j0<|u<|mv j0<|u<|mv j0<|u<|slS (a:=0) (b:=v2) ti9 j0 j0 j0 (bnd_hi j0 q2) q2<|u<|asg j0<|r_nil ?_
  refine sw_ret ?_
  obtain rfl:=sm h
  exact ⟨_,j0,[],ci j0,j0,j5,j0,j1⟩
 ·
  replace h:=bF hc1 h
  refine sw_skip ?_
  refine rg j0<|u<|mv j0<|u<|asg j0<|r_nil ?_
  refine sw_ret ?_
  obtain rfl:=sm h
  exact ⟨_,j0,[],ci j0,j0,j5,j0,j1⟩
def law4_Cut (v1 : ApiIns) : Option (ApiIns) :=
  (law1_Cut v1.C 14).bind fun v2=>(law1_Cut v1.M 12).bind fun v3=>some (ApiIns.mk v1.Op v1.A v2 v3)
theorem law4_Cut_ok (v1 : ApiIns) {r : ApiIns} (h : law4_Cut v1 = some r) : PureC Tryz.prog 148 [.agg [iA v1.Op,iA v1.A,sA v1.C,sA v1.M]] (.agg [iA r.Op,iA r.A,sA r.C,sA r.M]):=by
 refine pure_fn Tryz.func148 j0 (by kernel_rfl) j0 j0 ?_
 unfold law4_Cut at h
 refine rg j0<|u<|bx 0 4 j0 j0 j0 j0<|u<|al 1 ti40 j0<|r_nil ?_
 obtain ⟨v2,q1,h⟩:=bs h
 obtain ⟨v3,q2,h⟩:=bs h
 refine rd [(1,.mpt 0 0 0),(2,.mpt 1 0 0)] [some (4,[[iA v1.Op,iA v1.A,sA v2,sA v3]]),some (4,[[iA 0,iA 0,sA [],sA []]])] [7,9] [6,5,4,3,2,1,0] [(9,.mpt 0 0 2),(8,sA v3),(7,sA v1.M),(6,.mpt 0 0 3),(5,sA v2),(4,sA v1.C),(3,.mpt 0 0 2)] 2 (by kernel_rfl) (by kernel_rfl) j0 (by kernel_rfl) (dtS ⟨(fun _=>pa j0 j0 j0 j0 (fa ti40 j0 j0 j0<|j4)),(fun _=>pa j0 j0 j0 j0 (pc (law1_Cut_ok v1.M 12 q2) j0 j0 j0<|j4)),(fun _=>pa j0 j0 j0 j0 (ld ti9 j0 j0<|j4)),(fun _=>pa j0 j0 j0 j0 (fa ti40 j0 j0 j0<|j4)),(fun _=>pa j0 j0 j0 j0 (pc (law1_Cut_ok v1.C 14 q1) j0 j0 j0<|j4)),(fun _=>pa j0 j0 j0 j0 (ld ti9 j0 j0<|j4)),(fun _=>pa j0 j0 j0 j0 (fa ti40 j0 j0 j0<|j4)),j5⟩ (by kernel_rfl) j0 ⟨(fun _ _=>⟨_,j0,j0,sto ti9 j0 j0 j0<|⟨.any,[8],[(10,.mpt 0 0 3)],j0,j0,by kernel_rfl,j5,dtS ⟨(fun _=>pa j0 j0 j0 j0 (fa ti40 j0 j0 j0<|j4)),(fun h=>by cases h),(fun h=>by cases h),(fun h=>by cases h),(fun h=>by cases h),(fun h=>by cases h),(fun h=>by cases h),(fun h=>by cases h),j5⟩ (by kernel_rfl) j0 ⟨(fun h=>by cases h),(fun _ _=>⟨_,j0,j0,sto ti9 j0 j0 j0<|⟨.any,[],[],j0,j0,by kernel_rfl,j5,dt0 ⟨(fun h=>by cases h),(fun h=>by cases h),(fun h=>by cases h),(fun h=>by cases h),(fun h=>by cases h),(fun h=>by cases h),(fun h=>by cases h),(fun h=>by cases h),j5⟩ (by kernel_rfl) j0 ⟨[.old 0,.old 1],cv j0 (.mpt j0)<|cv j0 (.mpt j0)<|cn,j0,⟨⟨_,j0,rsOne ⟨ci j0,ci j0,ci j0,ci j0,j5⟩⟩,⟨_,j0,rsOne ⟨ci j0,ci j0,ci j0,ci j0,j5⟩⟩,j5⟩,j0,j1⟩⟩⟩),j5⟩⟩⟩),(fun _ h=>by cases h),j5⟩) ?_
 refine rg j0<|u<|ld ti40 j0 j0<|u<|sto ti40 j0 j0 j0<|r_nil ?_
 refine sw_ret ?_
 obtain rfl:=sm h
 exact ⟨_,j0,[],ci j0,j0,j5,j0,j1⟩
def op_reader_num_j1 (v2 : Int) (v5 : Int × Int × Int) (v6 : Int) : Option (Int × Int × Int) :=
  some (v5.1,(IntKind.i64.wrap (v2 + v5.2.1)),v6)
def op_reader_num (v1 : List UInt8) (v2 : Int) (v3 : Int) : Option (Int × Int × Int) :=
  cond (!(v3 == (0 : Int))) (some (0,v2,v3)) ((cutP v1 v2 (List.length v1 : Int)).bind fun v4=>(num_Get v4).bind fun v5=>cond ((v5.2.2 == (0 : Int)) && (!(op_known v5.1))) (op_reader_num_j1 v2 v5 1) (op_reader_num_j1 v2 v5 v5.2.2))
theorem op_reader_num_ok (v1 : List UInt8) (v2 : Int) (v3 : Int) {r : Int × Int × Int} (h : op_reader_num v1 v2 v3 = some r) : SC Tryz.prog 374 [.mpt 0 0 0,.fn (.func 360) [] []] [.one 3 [.isl 1 (List.map byteRow v1),iA v2,iA v3]] (iA r.1) [.one 3 [.isl 1 (List.map byteRow v1),iA r.2.1,iA r.2.2]]:=by
 refine ⟨⟨j5,j5⟩,scall_fn Tryz.func374 j0 (by kernel_rfl) j0 ?_⟩
 unfold op_reader_num at h
 refine rg j0<|u<|asg j0<|r_nil ?_
 refine sw_seq ?_
 refine rg j0<|u<|mv j0<|u<|nc j0 j0<|u<|fa ti308 j0 j0 j0<|u<|ld ti31 j0 j0<|u<|neq ti31 j0 j0<|r_nil ?_
 refine sw_cond j0 (fun hc1=>?_) (fun hc1=>?_)
 ·
  replace h:=bT hc1 h
  refine rg j0<|u<|asg j0<|r_nil ?_
  refine sw_ret ?_
  obtain rfl:=sm h
  exact ⟨_,j0,[.old 0],ci j0,j0,⟨⟨_,j0,rsOne ⟨ci j0,ci j0,ci j0,j5⟩⟩,j5⟩,j0,j1⟩
 ·
  replace h:=bF hc1 h
  refine sw_skip ?_
  obtain ⟨v4,q2,h⟩:=bs h
  obtain ⟨v5,q3,h⟩:=bs h
  refine rd [(0,.mpt 0 0 0),(1,.fn (.func 360) [] []),(5,iA v5.1),(6,iA v5.2.1),(7,iA v5.2.2)] [some (3,[[.isl 1 (List.map byteRow v1),iA v2,iA v3]])] [] [16,15,14,13,12,11,10,9,8,7,6,5,4,3,2,1,0] [(7,iA v5.2.2),(6,iA v5.2.1),(5,iA v5.1),(26,iA v5.2.2),(25,iA v5.2.1),(24,iA v5.1),(13,.tup [iA v5.1,iA v5.2.1,iA v5.2.2]),(23,.tup [iA v5.1,iA v5.2.1,iA v5.2.2]),(22,.isl 1 (List.map byteRow v4)),(21,iA v2),(20,.mpt 0 0 1),(19,.mpt 0 0 0),(18,.mpt 0 0 0),(17,.isl 1 (List.map byteRow v1)),(16,.mpt 0 0 0),(15,.mpt 0 0 0),(14,.mpt 0 0 0)] 0 (by kernel_rfl) (by kernel_rfl) j0 (by kernel_rfl) (dt0 ⟨(fun _=>pa j0 j0 j0 j0 (asg j0<|j4)),(fun _=>pa j0 j0 j0 j0 (asg j0<|j4)),(fun _=>pa j0 j0 j0 j0 (asg j0<|j4)),(fun _=>pa j0 j0 j0 j0 (ex j0 j0<|j4)),(fun _=>pa j0 j0 j0 j0 (ex j0 j0<|j4)),(fun _=>pa j0 j0 j0 j0 (ex j0 j0<|j4)),(fun _=>pa j0 j0 j0 j0 (mv j0<|j4)),(fun _=>pa j0 j0 j0 j0 (pc (num_Get_ok v4 q3) j0 j0 j0<|j4)),(fun _=>pa j0 j0 j0 j0 (slI (a:=v2) (b:=(List.length v1 : Int)) ti29 j0 ti5 j0 j0 (bnd_lo j0 q2) j0 q2<|j4)),(fun _=>pa j0 j0 j0 j0 (ld ti3 j0 j0<|j4)),(fun _=>pa j0 j0 j0 j0 (fa ti308 j0 j0 j0<|j4)),(fun _=>pa j0 j0 j0 j0 (nc j0 j0<|j4)),(fun _=>pa j0 j0 j0 j0 (mv j0<|j4)),(fun _=>pa j0 j0 j0 j0 (ld ti29 j0 j0<|j4)),(fun _=>pa j0 j0 j0 j0 (fa ti308 j0 j0 j0<|j4)),(fun _=>pa j0 j0 j0 j0 (nc j0 j0<|j4)),(fun _=>pa j0 j0 j0 j0 (mv j0<|j4)),j5⟩ (by kernel_rfl) j0 ⟨[.old 0],cv j0 (.mpt j0)<|ce j0 j0<|ce j0 j0<|ce j0 j0<|ce j0 j0<|cn,j0,⟨⟨_,j0,rsOne ⟨ci j0,ci j0,ci j0,j5⟩⟩,j5⟩,j0,j1⟩) ?_
  refine sw_meet (X:=Int) (fun z=>[(0,.mpt 0 0 0),(5,iA v5.1),(6,iA v5.2.1),(7,iA z)]) (fun z=>[some (3,[[.isl 1 (List.map byteRow v1),iA v2,iA v3]])]) (fun z=>op_reader_num_j1 v2 v5 z = some r) ?_ ?_
  ·
   refine rg j0<|u<|mv j0<|u<|eql ti31 j0 j0<|u<|mv j0<|r_and (j:=2) 4 j0 j0 j0 j0 j0 gpn (fun hb4=>g j0 hb4<|mv j0<|g j0 hb4<|mv j0<|g j0 hb4<|pc (op_known_ok v5.1 j0) j0 j0 j0<|g j0 hb4<|nt j0<|r_nil (egA [30,31,32,33] 4 hb4 j0 j0 j0 j0)) andF<|r_nil ?_
   refine sw_cond j0 (fun hc5=>?_) (fun hc5=>?_)
   ·
    replace h:=bT hc5 h
    exact rl j0<|u<|asg j0<|r_nil (⟨1,h,[.old 0],cv j0 (.mpt j0)<|ce j0 j0<|ce j0 j0<|ce j0 j0<|cn,j0,⟨⟨_,j0,rsOne ⟨ci j0,ci j0,ci j0,j5⟩⟩,j5⟩,j0,j1⟩)
   ·
    replace h:=bF hc5 h
    refine sw_skip ?_
    exact ⟨v5.2.2,h,[.old 0],cv j0 (.mpt j0)<|ce j0 j0<|ce j0 j0<|ce j0 j0<|cn,j0,⟨⟨_,j0,rsOne ⟨ci j0,ci j0,ci j0,j5⟩⟩,j5⟩,j0,j1⟩
  ·
   rintro v6 h
   replace h : op_reader_num_j1 v2 v5 v6 = some r:=h
   unfold op_reader_num_j1 at h
   refine rg j0<|u<|mv j0<|u<|mv j0<|u<|mv j0<|u<|nc j0 j0<|u<|fa ti308 j0 j0 j0<|u<|ld ti3 j0 j0<|u<|mv j0<|u<|add ti3 j0 j0<|u<|mv j0<|u<|nc j0 j0<|u<|fa ti308 j0 j0 j0<|u<|sto ti3 j0 j0 j0<|u<|nc j0 j0<|u<|fa ti308 j0 j0 j0<|u<|sto ti31 j0 j0 j0<|r_nil ?_
   refine rg j0<|u<|mv j0<|u<|asg j0<|r_nil ?_
   refine sw_ret ?_
   obtain rfl:=sm h
   exact ⟨_,j0,[.old 0],ci j0,j0,⟨⟨_,j0,rsOne ⟨ci j0,ci j0,ci j0,j5⟩⟩,j5⟩,j0,j1⟩
def op_a (v1 : Int) : Bool :=
  ((((v1 == (1 : Int)) || (v1 == (3 : Int))) || (v1 == (4 : Int))) || (op_Jumps v1))
theorem op_a_ok (v1 : Int) {r : Bool} (h : op_a v1 = r) : PureC Tryz.prog 371 [iA v1] (bA r):=by
 refine pure_fn Tryz.func371 j0 (by kernel_rfl) j0 j0 ?_
 unfold op_a at h
 refine rg j0<|u<|asg j0<|r_nil ?_
 refine rg j0<|u<|mv j0<|u<|eql ti3 j0 j0<|u<|mv j0<|r_or (j:=2) 2 j0 j0 j0 j0 j0 gpn (fun hb1=>g j0 hb1<|mv j0<|g j0 hb1<|eql ti3 j0 j0<|r_nil (egO [6,7] 2 hb1 j0 j0 j0 j0)) orT<|u<|mv j0<|r_or (j:=6) 2 j0 j0 j0 j0 j0 gpn (fun hb2=>g j0 hb2<|mv j0<|g j0 hb2<|eql ti3 j0 j0<|r_nil (egO [10,11] 2 hb2 j0 j0 j0 j0)) orT<|u<|mv j0<|r_or (j:=10) 2 j0 j0 j0 j0 j0 gpn (fun hb3=>g j0 hb3<|mv j0<|g j0 hb3<|pc (op_Jumps_ok v1 j0) j0 j0 j0<|r_nil (egO [14,15] 2 hb3 j0 j0 j0 j0)) orT<|u<|asg j0<|r_nil ?_
 refine sw_ret ?_
 obtain rfl:=h
 exact ⟨_,j0,[],ci j0,j0,j5,j0,j1⟩
def op_Get_1 (v1 : Int) (v2 : Int) (v3 : Int) (v4 : List UInt8) (v5 : List UInt8) : Bool :=
  (op_mayA v2 v1)
theorem op_Get_1_ok (v1 : Int) (v2 : Int) (v3 : Int) (v4 : List UInt8) (v5 : List UInt8) {r : Bool} (h : op_Get_1 v1 v2 v3 v4 v5 = r) : PureC Tryz.prog 375 [iA v1,.ipt 4 [[iA v2,iA v3,sA v4,sA v5]] 0 0] (bA r):=by
 refine pure_fn Tryz.func375 j0 (by kernel_rfl) j0 j0 ?_
 unfold op_Get_1 at h
 refine rg j0<|u<|asg j0<|r_nil ?_
 refine rg j0<|u<|fa ti40 j0 j0 j0<|u<|ld ti3 j0 j0<|u<|mv j0<|u<|pc (op_mayA_ok v2 v1 j0) j0 j0 j0<|u<|asg j0<|r_nil ?_
 refine sw_ret ?_
 obtain rfl:=h
 exact ⟨_,j0,[],ci j0,j0,j5,j0,j1⟩
def op_reader_num_s2_j1 (v2 : Int) (v9 : Int × Int × Int) (v10 : Int) : Option (Int × Int × Int) :=
  some (v9.1,(IntKind.i64.wrap (v2 + v9.2.1)),v10)
def op_reader_num_s2 (v1 : List UInt8) (v2 : Int) (v3 : Int) (v4 : Int) (v5 : Int) (v6 : List UInt8) (v7 : List UInt8) : Option (Int × Int × Int) :=
  cond (!(v3 == (0 : Int))) (some (0,v2,v3)) ((cutP v1 v2 (List.length v1 : Int)).bind fun v8=>(num_Get v8).bind fun v9=>cond ((v9.2.2 == (0 : Int)) && (!(op_Get_1 v9.1 v4 v5 v6 v7))) (op_reader_num_s2_j1 v2 v9 1) (op_reader_num_s2_j1 v2 v9 v9.2.2))
theorem op_reader_num_s2_ok (v1 : List UInt8) (v2 : Int) (v3 : Int) (v4 : Int) (v5 : Int) (v6 : List UInt8) (v7 : List UInt8) {r : Int × Int × Int} (h : op_reader_num_s2 v1 v2 v3 v4 v5 v6 v7 = some r) : SC Tryz.prog 374 [.mpt 0 0 0,.fn (.func 375) [] [.mpt 1 0 0]] [.one 3 [.isl 1 (List.map byteRow v1),iA v2,iA v3],.one 4 [iA v4,iA v5,sA v6,sA v7]] (iA r.1) [.one 3 [.isl 1 (List.map byteRow v1),iA r.2.1,iA r.2.2],.one 4 [iA v4,iA v5,sA v6,sA v7]]:=by
 refine ⟨⟨j5,j5,j5⟩,scall_fn Tryz.func374 j0 (by kernel_rfl) j0 ?_⟩
 unfold op_reader_num_s2 at h
 refine rg j0<|u<|asg j0<|r_nil ?_
 refine sw_seq ?_
 refine rg j0<|u<|mv j0<|u<|nc j0 j0<|u<|fa ti308 j0 j0 j0<|u<|ld ti31 j0 j0<|u<|neq ti31 j0 j0<|r_nil ?_
 refine sw_cond j0 (fun hc1=>?_) (fun hc1=>?_)
 ·
  replace h:=bT hc1 h
  refine rg j0<|u<|asg j0<|r_nil ?_
  refine sw_ret ?_
  obtain rfl:=sm h
  exact ⟨_,j0,[.old 0,.old 1],ci j0,j0,⟨⟨_,j0,rsOne ⟨ci j0,ci j0,ci j0,j5⟩⟩,⟨_,j0,rsOne ⟨ci j0,ci j0,ci j0,ci j0,j5⟩⟩,j5⟩,j0,j1⟩
 ·
  replace h:=bF hc1 h
  refine sw_skip ?_
  obtain ⟨v8,q2,h⟩:=bs h
  obtain ⟨v9,q3,h⟩:=bs h
  refine rd [(0,.mpt 0 0 0),(1,.fn (.func 375) [] [.mpt 1 0 0]),(5,iA v9.1),(6,iA v9.2.1),(7,iA v9.2.2)] [some (3,[[.isl 1 (List.map byteRow v1),iA v2,iA v3]]),some (4,[[iA v4,iA v5,sA v6,sA v7]])] [] [16,15,14,13,12,11,10,9,8,7,6,5,4,3,2,1,0] [(7,iA v9.2.2),(6,iA v9.2.1),(5,iA v9.1),(26,iA v9.2.2),(25,iA v9.2.1),(24,iA v9.1),(13,.tup [iA v9.1,iA v9.2.1,iA v9.2.2]),(23,.tup [iA v9.1,iA v9.2.1,iA v9.2.2]),(22,.isl 1 (List.map byteRow v8)),(21,iA v2),(20,.mpt 0 0 1),(19,.mpt 0 0 0),(18,.mpt 0 0 0),(17,.isl 1 (List.map byteRow v1)),(16,.mpt 0 0 0),(15,.mpt 0 0 0),(14,.mpt 0 0 0)] 0 (by kernel_rfl) (by kernel_rfl) j0 (by kernel_rfl) (dt0 ⟨(fun _=>pa j0 j0 j0 j0 (asg j0<|j4)),(fun _=>pa j0 j0 j0 j0 (asg j0<|j4)),(fun _=>pa j0 j0 j0 j0 (asg j0<|j4)),(fun _=>pa j0 j0 j0 j0 (ex j0 j0<|j4)),(fun _=>pa j0 j0 j0 j0 (ex j0 j0<|j4)),(fun _=>pa j0 j0 j0 j0 (ex j0 j0<|j4)),(fun _=>pa j0 j0 j0 j0 (mv j0<|j4)),(fun _=>pa j0 j0 j0 j0 (pc (num_Get_ok v8 q3) j0 j0 j0<|j4)),(fun _=>pa j0 j0 j0 j0 (slI (a:=v2) (b:=(List.length v1 : Int)) ti29 j0 ti5 j0 j0 (bnd_lo j0 q2) j0 q2<|j4)),(fun _=>pa j0 j0 j0 j0 (ld ti3 j0 j0<|j4)),(fun _=>pa j0 j0 j0 j0 (fa ti308 j0 j0 j0<|j4)),(fun _=>pa j0 j0 j0 j0 (nc j0 j0<|j4)),(fun _=>pa j0 j0 j0 j0 (mv j0<|j4)),(fun _=>pa j0 j0 j0 j0 (ld ti29 j0 j0<|j4)),(fun _=>pa j0 j0 j0 j0 (fa ti308 j0 j0 j0<|j4)),(fun _=>pa j0 j0 j0 j0 (nc j0 j0<|j4)),(fun _=>pa j0 j0 j0 j0 (mv j0<|j4)),j5⟩ (by kernel_rfl) j0 ⟨[.old 0,.old 1],cv j0 (.mpt j0)<|cv j0 (rsFn j5 ⟨(.mpt j0),j5⟩)<|ce j0 j0<|ce j0 j0<|ce j0 j0<|cn,j0,⟨⟨_,j0,rsOne ⟨ci j0,ci j0,ci j0,j5⟩⟩,⟨_,j0,rsOne ⟨ci j0,ci j0,ci j0,ci j0,j5⟩⟩,j5⟩,j0,j1⟩) ?_
  refine sw_meet (X:=Int) (fun z=>[(0,.mpt 0 0 0),(5,iA v9.1),(6,iA v9.2.1),(7,iA z)]) (fun z=>[some (3,[[.isl 1 (List.map byteRow v1),iA v2,iA v3]]),some (4,[[iA v4,iA v5,sA v6,sA v7]])]) (fun z=>op_reader_num_s2_j1 v2 v9 z = some r) ?_ ?_
  ·
   refine rg j0<|u<|mv j0<|u<|eql ti31 j0 j0<|u<|mv j0<|r_and (j:=2) 4 j0 j0 j0 j0 j0 gpn (fun hb4=>g j0 hb4<|mv j0<|g j0 hb4<|mv j0<|g j0 hb4<|pcs (op_Get_1_ok v9.1 v4 v5 v6 v7 j0) j0 j0 (.cons (si j0) (.cons (sealBox j0 ⟨(si j0),(si j0),(si j0),(si j0),j5⟩) .nil)) plainB<|g j0 hb4<|nt j0<|r_nil (egA [30,31,32,33] 4 hb4 j0 j0 j0 j0)) andF<|r_nil ?_
   refine sw_cond j0 (fun hc5=>?_) (fun hc5=>?_)
   ·
    replace h:=bT hc5 h
    exact rl j0<|u<|asg j0<|r_nil (⟨1,h,[.old 0,.old 1],cv j0 (.mpt j0)<|ce j0 j0<|ce j0 j0<|ce j0 j0<|cn,j0,⟨⟨_,j0,rsOne ⟨ci j0,ci j0,ci j0,j5⟩⟩,⟨_,j0,rsOne ⟨ci j0,ci j0,ci j0,ci j0,j5⟩⟩,j5⟩,j0,j1⟩)
   ·
    replace h:=bF hc5 h
    refine sw_skip ?_
    exact ⟨v9.2.2,h,[.old 0,.old 1],cv j0 (.mpt j0)<|ce j0 j0<|ce j0 j0<|ce j0 j0<|cn,j0,⟨⟨_,j0,rsOne ⟨ci j0,ci j0,ci j0,j5⟩⟩,⟨_,j0,rsOne ⟨ci j0,ci j0,ci j0,ci j0,j5⟩⟩,j5⟩,j0,j1⟩
  ·
   rintro v10 h
   replace h : op_reader_num_s2_j1 v2 v9 v10 = some r:=h
   unfold op_reader_num_s2_j1 at h
   refine rg j0<|u<|mv j0<|u<|mv j0<|u<|mv j0<|u<|nc j0 j0<|u<|fa ti308 j0 j0 j0<|u<|ld ti3 j0 j0<|u<|mv j0<|u<|add ti3 j0 j0<|u<|mv j0<|u<|nc j0 j0<|u<|fa ti308 j0 j0 j0<|u<|sto ti3 j0 j0 j0<|u<|nc j0 j0<|u<|fa ti308 j0 j0 j0<|u<|sto ti31 j0 j0 j0<|r_nil ?_
   refine rg j0<|u<|mv j0<|u<|asg j0<|r_nil ?_
   refine sw_ret ?_
   obtain rfl:=sm h
   exact ⟨_,j0,[.old 0,.old 1],ci j0,j0,⟨⟨_,j0,rsOne ⟨ci j0,ci j0,ci j0,j5⟩⟩,⟨_,j0,rsOne ⟨ci j0,ci j0,ci j0,ci j0,j5⟩⟩,j5⟩,j0,j1⟩
def op_Get_2 (v1 : List UInt8) (v2 : Int) (v3 : Int) (v4 : List UInt8) (v5 : List UInt8) : Option (Bool) :=
  (op_mayC v2 v1).bind fun v6=>some v6
theorem op_Get_2_ok (v1 : List UInt8) (v2 : Int) (v3 : Int) (v4 : List UInt8) (v5 : List UInt8) {r : Bool} (h : op_Get_2 v1 v2 v3 v4 v5 = some r) : PureC Tryz.prog 377 [sA v1,.ipt 4 [[iA v2,iA v3,sA v4,sA v5]] 0 0] (bA r):=by
 refine pure_fn Tryz.func377 j0 (by kernel_rfl) j0 j0 ?_
 unfold op_Get_2 at h
 refine rg j0<|u<|asg j0<|r_nil ?_
 obtain ⟨v6,q1,h⟩:=bs h
 refine rg j0<|u<|fa ti40 j0 j0 j0<|u<|ld ti3 j0 j0<|u<|mv j0<|u<|pc (op_mayC_ok v2 v1 q1) j0 j0 j0<|u<|asg j0<|r_nil ?_
 refine sw_ret ?_
 obtain rfl:=sm h
 exact ⟨_,j0,[],ci j0,j0,j5,j0,j1⟩
def op_reader_text_j1 (v2 : Int) (v9 : (List UInt8) × Int × Int) (v12 : Int) : Option ((List UInt8) × Int × Int) :=
  some (v9.1,(IntKind.i64.wrap (v2 + v9.2.1)),v12)
def op_reader_text (v1 : List UInt8) (v2 : Int) (v3 : Int) (v4 : Int) (v5 : Int) (v6 : List UInt8) (v7 : List UInt8) : Option ((List UInt8) × Int × Int) :=
  cond (!(v3 == (0 : Int))) (some ([],v2,v3)) ((cutP v1 v2 (List.length v1 : Int)).bind fun v8=>(num_GetText v8).bind fun v9=>(cond (v9.2.2 == (0 : Int)) ((op_Get_2 v9.1 v4 v5 v6 v7).bind fun v10=>some (!v10)) (some false)).bind fun v11=>cond v11 (op_reader_text_j1 v2 v9 1) (op_reader_text_j1 v2 v9 v9.2.2))
theorem op_reader_text_ok (v1 : List UInt8) (v2 : Int) (v3 : Int) (v4 : Int) (v5 : Int) (v6 : List UInt8) (v7 : List UInt8) {r : (List UInt8) × Int × Int} (h : op_reader_text v1 v2 v3 v4 v5 v6 v7 = some r) : SC Tryz.prog 376 [.mpt 0 0 0,.fn (.func 377) [] [.mpt 1 0 0]] [.one 3 [.isl 1 (List.map byteRow v1),iA v2,iA v3],.one 4 [iA v4,iA v5,sA v6,sA v7]] (sA r.1) [.one 3 [.isl 1 (List.map byteRow v1),iA r.2.1,iA r.2.2],.one 4 [iA v4,iA v5,sA v6,sA v7]]:=by
 refine ⟨⟨j5,j5,j5⟩,scall_fn Tryz.func376 j0 (by kernel_rfl) j0 ?_⟩
 unfold op_reader_text at h
 refine rg j0<|u<|asg j0<|r_nil ?_
 refine sw_seq ?_
 refine rg j0<|u<|mv j0<|u<|nc j0 j0<|u<|fa ti308 j0 j0 j0<|u<|ld ti31 j0 j0<|u<|neq ti31 j0 j0<|r_nil ?_
 refine sw_cond j0 (fun hc1=>?_) (fun hc1=>?_)
 ·
  replace h:=bT hc1 h
  refine rg j0<|u<|asg j0<|r_nil ?_
  refine sw_ret ?_
  obtain rfl:=sm h
  exact ⟨_,j0,[.old 0,.old 1],ci j0,j0,⟨⟨_,j0,rsOne ⟨ci j0,ci j0,ci j0,j5⟩⟩,⟨_,j0,rsOne ⟨ci j0,ci j0,ci j0,ci j0,j5⟩⟩,j5⟩,j0,j1⟩
 ·
  replace h:=bF hc1 h
  refine sw_skip ?_
  obtain ⟨v8,q2,h⟩:=bs h
  obtain ⟨v9,q3,h⟩:=bs h
  refine rd [(0,.mpt 0 0 0),(1,.fn (.func 377) [] [.mpt 1 0 0]),(5,sA v9.1),(6,iA v9.2.1),(7,iA v9.2.2)] [some (3,[[.isl 1 (List.map byteRow v1),iA v2,iA v3]]),some (4,[[iA v4,iA v5,sA v6,sA v7]])] [] [16,15,14,13,12,11,10,9,8,7,6,5,4,3,2,1,0] [(7,iA v9.2.2),(6,iA v9.2.1),(5,sA v9.1),(26,iA v9.2.2),(25,iA v9.2.1),(24,sA v9.1),(13,.tup [sA v9.1,iA v9.2.1,iA v9.2.2]),(23,.tup [sA v9.1,iA v9.2.1,iA v9.2.2]),(22,.isl 1 (List.map byteRow v8)),(21,iA v2),(20,.mpt 0 0 1),(19,.mpt 0 0 0),(18,.mpt 0 0 0),(17,.isl 1 (List.map byteRow v1)),(16,.mpt 0 0 0),(15,.mpt 0 0 0),(14,.mpt 0 0 0)] 0 (by kernel_rfl) (by kernel_rfl) j0 (by kernel_rfl) (dt0 ⟨(fun _=>pa j0 j0 j0 j0 (asg j0<|j4)),(fun _=>pa j0 j0 j0 j0 (asg j0<|j4)),(fun _=>pa j0 j0 j0 j0 (asg j0<|j4)),(fun _=>pa j0 j0 j0 j0 (ex j0 j0<|j4)),(fun _=>pa j0 j0 j0 j0 (ex j0 j0<|j4)),(fun _=>pa j0 j0 j0 j0 (ex j0 j0<|j4)),(fun _=>pa j0 j0 j0 j0 (mv j0<|j4)),(fun _=>pa j0 j0 j0 j0 (pc (num_GetText_ok v8 q3) j0 j0 j0<|j4)),(fun _=>pa j0 j0 j0 j0 (slI (a:=v2) (b:=(List.length v1 : Int)) ti29 j0 ti5 j0 j0 (bnd_lo j0 q2) j0 q2<|j4)),(fun _=>pa j0 j0 j0 j0 (ld ti3 j0 j0<|j4)),(fun _=>pa j0 j0 j0 j0 (fa ti308 j0 j0 j0<|j4)),(fun _=>pa j0 j0 j0 j0 (nc j0 j0<|j4)),(fun _=>pa j0 j0 j0 j0 (mv j0<|j4)),(fun _=>pa j0 j0 j0 j0 (ld ti29 j0 j0<|j4)),(fun _=>pa j0 j0 j0 j0 (fa ti308 j0 j0 j0<|j4)),(fun _=>pa j0 j0 j0 j0 (nc j0 j0<|j4)),(fun _=>pa j0 j0 j0 j0 (mv j0<|j4)),j5⟩ (by kernel_rfl) j0 ⟨[.old 0,.old 1],cv j0 (.mpt j0)<|cv j0 (rsFn j5 ⟨(.mpt j0),j5⟩)<|ce j0 j0<|ce j0 j0<|ce j0 j0<|cn,j0,⟨⟨_,j0,rsOne ⟨ci j0,ci j0,ci j0,j5⟩⟩,⟨_,j0,rsOne ⟨ci j0,ci j0,ci j0,ci j0,j5⟩⟩,j5⟩,j0,j1⟩) ?_
  refine sw_meet (X:=Int) (fun z=>[(0,.mpt 0 0 0),(5,sA v9.1),(6,iA v9.2.1),(7,iA z)]) (fun z=>[some (3,[[.isl 1 (List.map byteRow v1),iA v2,iA v3]]),some (4,[[iA v4,iA v5,sA v6,sA v7]])]) (fun z=>op_reader_text_j1 v2 v9 z = some r) ?_ ?_
  ·
   obtain ⟨v11,q6,h⟩:=bs h
   refine rg j0<|u<|mv j0<|u<|eql ti31 j0 j0<|u<|mv j0<|r_and (x:=v11) (j:=2) 4 j0 j0 j0 j0 j0 gpn (fun hb4=>by replace q6:=bT hb4 q6; obtain ⟨v10,q5,q6⟩:=bs q6; obtain rfl:=sm q6; exact g j0 hb4<|mv j0<|g j0 hb4<|mv j0<|g j0 hb4<|pcs (op_Get_2_ok v9.1 v4 v5 v6 v7 q5) j0 j0 (.cons (si j0) (.cons (sealBox j0 ⟨(si j0),(si j0),(si j0),(si j0),j5⟩) .nil)) plainB<|g j0 hb4<|nt j0<|r_nil (eg [30,31,32,33] 4 j0 j0 j0 j0)) (fun hb=>(sm (bF hb q6)).symm)<|r_nil ?_
   refine sw_cond j0 (fun hc7=>?_) (fun hc7=>?_)
   ·
    replace h:=bT hc7 h
    exact rl j0<|u<|asg j0<|r_nil (⟨1,h,[.old 0,.old 1],cv j0 (.mpt j0)<|ce j0 j0<|ce j0 j0<|ce j0 j0<|cn,j0,⟨⟨_,j0,rsOne ⟨ci j0,ci j0,ci j0,j5⟩⟩,⟨_,j0,rsOne ⟨ci j0,ci j0,ci j0,ci j0,j5⟩⟩,j5⟩,j0,j1⟩)
   ·
    replace h:=bF hc7 h
    refine sw_skip ?_
    exact ⟨v9.2.2,h,[.old 0,.old 1],cv j0 (.mpt j0)<|ce j0 j0<|ce j0 j0<|ce j0 j0<|cn,j0,⟨⟨_,j0,rsOne ⟨ci j0,ci j0,ci j0,j5⟩⟩,⟨_,j0,rsOne ⟨ci j0,ci j0,ci j0,ci j0,j5⟩⟩,j5⟩,j0,j1⟩
  ·
   rintro v12 h
   replace h : op_reader_text_j1 v2 v9 v12 = some r:=h
   unfold op_reader_text_j1 at h
   refine rg j0<|u<|mv j0<|u<|mv j0<|u<|mv j0<|u<|nc j0 j0<|u<|fa ti308 j0 j0 j0<|u<|ld ti3 j0 j0<|u<|mv j0<|u<|add ti3 j0 j0<|u<|mv j0<|u<|nc j0 j0<|u<|fa ti308 j0 j0 j0<|u<|sto ti3 j0 j0 j0<|u<|nc j0 j0<|u<|fa ti308 j0 j0 j0<|u<|sto ti31 j0 j0 j0<|r_nil ?_
   refine rg j0<|u<|mv j0<|u<|asg j0<|r_nil ?_
   refine sw_ret ?_
   obtain rfl:=sm h
   exact ⟨_,j0,[.old 0,.old 1],ci j0,j0,⟨⟨_,j0,rsOne ⟨ci j0,ci j0,ci j0,j5⟩⟩,⟨_,j0,rsOne ⟨ci j0,ci j0,ci j0,ci j0,j5⟩⟩,j5⟩,j0,j1⟩
def op_Get_3 (v1 : List UInt8) (v2 : Int) (v3 : Int) (v4 : List UInt8) (v5 : List UInt8) : Option (Bool) :=
  (op_mayM v2 v1).bind fun v6=>some v6
theorem op_Get_3_ok (v1 : List UInt8) (v2 : Int) (v3 : Int) (v4 : List UInt8) (v5 : List UInt8) {r : Bool} (h : op_Get_3 v1 v2 v3 v4 v5 = some r) : PureC Tryz.prog 378 [sA v1,.ipt 4 [[iA v2,iA v3,sA v4,sA v5]] 0 0] (bA r):=by
 refine pure_fn Tryz.func378 j0 (by kernel_rfl) j0 j0 ?_
 unfold op_Get_3 at h
 refine rg j0<|u<|asg j0<|r_nil ?_
 obtain ⟨v6,q1,h⟩:=bs h
 refine rg j0<|u<|fa ti40 j0 j0 j0<|u<|ld ti3 j0 j0<|u<|mv j0<|u<|pc (op_mayM_ok v2 v1 q1) j0 j0 j0<|u<|asg j0<|r_nil ?_
 refine sw_ret ?_
 obtain rfl:=sm h
 exact ⟨_,j0,[],ci j0,j0,j5,j0,j1⟩
def op_reader_text_s2_j1 (v2 : Int) (v9 : (List UInt8) × Int × Int) (v12 : Int) : Option ((List UInt8) × Int × Int) :=
  some (v9.1,(IntKind.i64.wrap (v2 + v9.2.1)),v12)
def op_reader_text_s2 (v1 : List UInt8) (v2 : Int) (v3 : Int) (v4 : Int) (v5 : Int) (v6 : List UInt8) (v7 : List UInt8) : Option ((List UInt8) × Int × Int) :=
  cond (!(v3 == (0 : Int))) (some ([],v2,v3)) ((cutP v1 v2 (List.length v1 : Int)).bind fun v8=>(num_GetText v8).bind fun v9=>(cond (v9.2.2 == (0 : Int)) ((op_Get_3 v9.1 v4 v5 v6 v7).bind fun v10=>some (!v10)) (some false)).bind fun v11=>cond v11 (op_reader_text_s2_j1 v2 v9 1) (op_reader_text_s2_j1 v2 v9 v9.2.2))
theorem op_reader_text_s2_ok (v1 : List UInt8) (v2 : Int) (v3 : Int) (v4 : Int) (v5 : Int) (v6 : List UInt8) (v7 : List UInt8) {r : (List UInt8) × Int × Int} (h : op_reader_text_s2 v1 v2 v3 v4 v5 v6 v7 = some r) : SC Tryz.prog 376 [.mpt 0 0 0,.fn (.func 378) [] [.mpt 1 0 0]] [.one 3 [.isl 1 (List.map byteRow v1),iA v2,iA v3],.one 4 [iA v4,iA v5,sA v6,sA v7]] (sA r.1) [.one 3 [.isl 1 (List.map byteRow v1),iA r.2.1,iA r.2.2],.one 4 [iA v4,iA v5,sA v6,sA v7]]:=by
 refine ⟨⟨j5,j5,j5⟩,scall_fn Tryz.func376 j0 (by kernel_rfl) j0 ?_⟩
 unfold op_reader_text_s2 at h
 refine rg j0<|u<|asg j0<|r_nil ?_
 refine sw_seq ?_
 refine rg j0<|u<|mv j0<|u<|nc j0 j0<|u<|fa ti308 j0 j0 j0<|u<|ld ti31 j0 j0<|u<|neq ti31 j0 j0<|r_nil ?_
 refine sw_cond j0 (fun hc1=>?_) (fun hc1=>?_)
 ·
  replace h:=bT hc1 h
  refine rg j0<|u<|asg j0<|r_nil ?_
  refine sw_ret ?_
  obtain rfl:=sm h
  exact ⟨_,j0,[.old 0,.old 1],ci j0,j0,⟨⟨_,j0,rsOne ⟨ci j0,ci j0,ci j0,j5⟩⟩,⟨_,j0,rsOne ⟨ci j0,ci j0,ci j0,ci j0,j5⟩⟩,j5⟩,j0,j1⟩
 ·
  replace h:=bF hc1 h
  refine sw_skip ?_
  obtain ⟨v8,q2,h⟩:=bs h
  obtain ⟨v9,q3,h⟩:=bs h
  refine rd [(0,.mpt 0 0 0),(1,.fn (.func 378) [] [.mpt 1 0 0]),(5,sA v9.1),(6,iA v9.2.1),(7,iA v9.2.2)] [some (3,[[.isl 1 (List.map byteRow v1),iA v2,iA v3]]),some (4,[[iA v4,iA v5,sA v6,sA v7]])] [] [16,15,14,13,12,11,10,9,8,7,6,5,4,3,2,1,0] [(7,iA v9.2.2),(6,iA v9.2.1),(5,sA v9.1),(26,iA v9.2.2),(25,iA v9.2.1),(24,sA v9.1),(13,.tup [sA v9.1,iA v9.2.1,iA v9.2.2]),(23,.tup [sA v9.1,iA v9.2.1,iA v9.2.2]),(22,.isl 1 (List.map byteRow v8)),(21,iA v2),(20,.mpt 0 0 1),(19,.mpt 0 0 0),(18,.mpt 0 0 0),(17,.isl 1 (List.map byteRow v1)),(16,.mpt 0 0 0),(15,.mpt 0 0 0),(14,.mpt 0 0 0)] 0 (by kernel_rfl) (by kernel_rfl) j0 (by kernel_rfl) (dt0 ⟨(fun _=>pa j0 j0 j0 j0 (asg j0<|j4)),(fun _=>pa j0 j0 j0 j0 (asg j0<|j4)),(fun _=>pa j0 j0 j0 j0 (asg j0<|j4)),(fun _=>pa j0 j0 j0 j0 (ex j0 j0<|j4)),(fun _=>pa j0 j0 j0 j0 (ex j0 j0<|j4)),(fun _=>pa j0 j0 j0 j0 (ex j0 j0<|j4)),(fun _=>pa j0 j0 j0 j0 (mv j0<|j4)),(fun _=>pa j0 j0 j0 j0 (pc (num_GetText_ok v8 q3) j0 j0 j0<|j4)),(fun _=>pa j0 j0 j0 j0 (slI (a:=v2) (b:=(List.length v1 : Int)) ti29 j0 ti5 j0 j0 (bnd_lo j0 q2) j0 q2<|j4)),(fun _=>pa j0 j0 j0 j0 (ld ti3 j0 j0<|j4)),(fun _=>pa j0 j0 j0 j0 (fa ti308 j0 j0 j0<|j4)),(fun _=>pa j0 j0 j0 j0 (nc j0 j0<|j4)),(fun _=>pa j0 j0 j0 j0 (mv j0<|j4)),(fun _=>pa j0 j0 j0 j0 (ld ti29 j0 j0<|j4)),(fun _=>pa j0 j0 j0 j0 (fa ti308 j0 j0 j0<|j4)),(fun _=>pa j0 j0 j0 j0 (nc j0 j0<|j4)),(fun _=>pa j0 j0 j0 j0 (mv j0<|j4)),j5⟩ (by kernel_rfl) j0 ⟨[.old 0,.old 1],cv j0 (.mpt j0)<|cv j0 (rsFn j5 ⟨(.mpt j0),j5⟩)<|ce j0 j0<|ce j0 j0<|ce j0 j0<|cn,j0,⟨⟨_,j0,rsOne ⟨ci j0,ci j0,ci j0,j5⟩⟩,⟨_,j0,rsOne ⟨ci j0,ci j0,ci j0,ci j0,j5⟩⟩,j5⟩,j0,j1⟩) ?_
  refine sw_meet (X:=Int) (fun z=>[(0,.mpt 0 0 0),(5,sA v9.1),(6,iA v9.2.1),(7,iA z)]) (fun z=>[some (3,[[.isl 1 (List.map byteRow v1),iA v2,iA v3]]),some (4,[[iA v4,iA v5,sA v6,sA v7]])]) (fun z=>op_reader_text_s2_j1 v2 v9 z = some r) ?_ ?_
  ·
   obtain ⟨v11,q6,h⟩:=bs h
   refine rg j0<|u<|mv j0<|u<|eql ti31 j0 j0<|u<|mv j0<|r_and (x:=v11) (j:=2) 4 j0 j0 j0 j0 j0 gpn (fun hb4=>by replace q6:=bT hb4 q6; obtain ⟨v10,q5,q6⟩:=bs q6; obtain rfl:=sm q6; exact g j0 hb4<|mv j0<|g j0 hb4<|mv j0<|g j0 hb4<|pcs (op_Get_3_ok v9.1 v4 v5 v6 v7 q5) j0 j0 (.cons (si j0) (.cons (sealBox j0 ⟨(si j0),(si j0),(si j0),(si j0),j5⟩) .nil)) plainB<|g j0 hb4<|nt j0<|r_nil (eg [30,31,32,33] 4 j0 j0 j0 j0)) (fun hb=>(sm (bF hb q6)).symm)<|r_nil ?_
   refine sw_cond j0 (fun hc7=>?_) (fun hc7=>?_)
   ·
    replace h:=bT hc7 h
    exact rl j0<|u<|asg j0<|r_nil (⟨1,h,[.old 0,.old 1],cv j0 (.mpt j0)<|ce j0 j0<|ce j0 j0<|ce j0 j0<|cn,j0,⟨⟨_,j0,rsOne ⟨ci j0,ci j0,ci j0,j5⟩⟩,⟨_,j0,rsOne ⟨ci j0,ci j0,ci j0,ci j0,j5⟩⟩,j5⟩,j0,j1⟩)
   ·
    replace h:=bF hc7 h
    refine sw_skip ?_
    exact ⟨v9.2.2,h,[.old 0,.old 1],cv j0 (.mpt j0)<|ce j0 j0<|ce j0 j0<|ce j0 j0<|cn,j0,⟨⟨_,j0,rsOne ⟨ci j0,ci j0,ci j0,j5⟩⟩,⟨_,j0,rsOne ⟨ci j0,ci j0,ci j0,ci j0,j5⟩⟩,j5⟩,j0,j1⟩
  ·
   rintro v12 h
   replace h : op_reader_text_s2_j1 v2 v9 v12 = some r:=h
   unfold op_reader_text_s2_j1 at h
   refine rg j0<|u<|mv j0<|u<|mv j0<|u<|mv j0<|u<|nc j0 j0<|u<|fa ti308 j0 j0 j0<|u<|ld ti3 j0 j0<|u<|mv j0<|u<|add ti3 j0 j0<|u<|mv j0<|u<|nc j0 j0<|u<|fa ti308 j0 j0 j0<|u<|sto ti3 j0 j0 j0<|u<|nc j0 j0<|u<|fa ti308 j0 j0 j0<|u<|sto ti31 j0 j0 j0<|r_nil ?_
   refine rg j0<|u<|mv j0<|u<|asg j0<|r_nil ?_
   refine sw_ret ?_
   obtain rfl:=sm h
   exact ⟨_,j0,[.old 0,.old 1],ci j0,j0,⟨⟨_,j0,rsOne ⟨ci j0,ci j0,ci j0,j5⟩⟩,⟨_,j0,rsOne ⟨ci j0,ci j0,ci j0,ci j0,j5⟩⟩,j5⟩,j0,j1⟩
def op_Get_j3 (v2 : Int × Int × Int) (v6 : Int) (v10 : List UInt8) (v12 : Int) (v13 : Int) (v14 : List UInt8) : Option (ApiIns × Int × Int) :=
  cond (!(v13 == (0 : Int))) (some ((ApiIns.mk 0 0 [] []),0,v13)) (some ((ApiIns.mk v2.1 v6 v10 v14),v12,0))
def op_Get_j2 (v1 : List UInt8) (v2 : Int × Int × Int) (v6 : Int) (v8 : Int) (v9 : Int) (v10 : List UInt8) : Option (ApiIns × Int × Int) :=
  cond (op_m v2.1) ((op_reader_text_s2 v1 v8 v9 v2.1 v6 v10 []).bind fun v11=>op_Get_j3 v2 v6 v10 v11.2.1 v11.2.2 v11.1) (op_Get_j3 v2 v6 v10 v8 v9 [])
def op_Get_j1 (v1 : List UInt8) (v2 : Int × Int × Int) (v4 : Int) (v5 : Int) (v6 : Int) : Option (ApiIns × Int × Int) :=
  cond (op_c v2.1) ((op_reader_text v1 v4 v5 v2.1 v6 [] []).bind fun v7=>op_Get_j2 v1 v2 v6 v7.2.1 v7.2.2 v7.1) (op_Get_j2 v1 v2 v6 v4 v5 [])
def op_Get (v1 : List UInt8) : Option (ApiIns × Int × Int) :=
  (op_reader_num v1 0 0).bind fun v2=>cond (op_a v2.1) ((op_reader_num_s2 v1 v2.2.1 v2.2.2 v2.1 0 [] []).bind fun v3=>op_Get_j1 v1 v2 v3.2.1 v3.2.2 v3.1) (op_Get_j1 v1 v2 v2.2.1 v2.2.2 0)
theorem op_Get_ok (v1 : List UInt8) {r : ApiIns × Int × Int} (h : op_Get v1 = some r) : PureC Tryz.prog 354 [.isl 1 (List.map byteRow v1)] (.tup [.agg [iA r.1.Op,iA r.1.A,sA r.1.C,sA r.1.M],iA r.2.1,iA r.2.2]):=by
 refine pure_fn Tryz.func354 j0 (by kernel_rfl) j0 j0 ?_
 unfold op_Get at h
 refine rg j0<|u<|al 0 ti40 j0<|u<|asg j0<|u<|asg j0<|r_nil ?_
 refine rg j0<|u<|mv j0<|u<|bd ti308 j0 j0 j0<|u<|bx 1 3 j0 j0 j0 j0<|u<|asg j0<|r_nil ?_
 obtain ⟨v2,q1,h⟩:=bs h
 refine rg j0<|u<|mv j0<|u<|sc [1] (op_reader_num_ok v1 0 0 q1) j0 j0 j0 j0 ⟨(.mpt j0),(rnFn j5 j5),j5⟩ ⟨⟨_,j0,⟨(rnI j0),(rnI j0),(rnI j0),j5⟩⟩,j5⟩<|r_can (env0:=[(2,.mpt 0 0 0),(5,.mpt 1 0 0),(11,iA v2.1)]) (st0:=[some (4,[[iA 0,iA 0,sA [],sA []]]),some (3,[[.isl 1 (List.map byteRow v1),iA v2.2.1,iA v2.2.2]])]) ⟨[.old 0,.old 1],cv j0 (.mpt j0)<|cv j0 (.mpt j0)<|ce j0 j0<|cn,j0,⟨⟨_,j0,rsOne ⟨ci j0,ci j0,ci j0,ci j0,j5⟩⟩,⟨_,j0,rsOne ⟨ci j0,ci j0,ci j0,j5⟩⟩,j5⟩,j0,j1⟩<|u<|bd ti40 j0 j0 j0<|u<|al 2 ti40 j0<|u<|sto ti40 j0 j0 j0<|r_nil ?_
 refine sw_meet (X:=Int × Int × Int) (fun z=>[(2,.mpt 0 0 0),(5,.mpt 1 0 0),(6,.mpt 2 0 0)]) (fun z=>[some (4,[[iA 0,iA 0,sA [],sA []]]),some (3,[[.isl 1 (List.map byteRow v1),iA z.1,iA z.2.1]]),some (4,[[iA v2.1,iA z.2.2,sA [],sA []]])]) (fun z=>op_Get_j1 v1 v2 z.1 z.2.1 z.2.2 = some r) ?_ ?_
 ·
  refine rg j0<|u<|fa ti40 j0 j0 j0<|u<|ld ti3 j0 j0<|u<|pc (op_a_ok v2.1 j0) j0 j0 j0<|r_nil ?_
  refine sw_cond j0 (fun hc2=>?_) (fun hc2=>?_)
  ·
   replace h:=bT hc2 h
   obtain ⟨v3,q3,h⟩:=bs h
   exact rl j0<|u<|mv j0<|u<|mf j0 j0<|u<|sc [1,2] (op_reader_num_s2_ok v1 v2.2.1 v2.2.2 v2.1 0 [] [] q3) j0 j0 j0 j0 ⟨(.mpt j0),(rnFn j5 ⟨(.mpt j0),j5⟩),j5⟩ ⟨⟨_,j0,⟨(rnI j0),(rnI j0),(rnI j0),j5⟩⟩,⟨_,j0,⟨(rnI j0),(rnI j0),(rnI j0),(rnI j0),j5⟩⟩,j5⟩<|r_can (env0:=[(2,.mpt 0 0 0),(5,.mpt 1 0 0),(6,.mpt 2 0 0),(18,iA v3.1)]) (st0:=[some (4,[[iA 0,iA 0,sA [],sA []]]),some (3,[[.isl 1 (List.map byteRow v1),iA v3.2.1,iA v3.2.2]]),some (4,[[iA v2.1,iA 0,sA [],sA []]])]) ⟨[.old 0,.old 1,.old 2],cv j0 (.mpt j0)<|cv j0 (.mpt j0)<|cv j0 (.mpt j0)<|ce j0 j0<|cn,j0,⟨⟨_,j0,rsOne ⟨ci j0,ci j0,ci j0,ci j0,j5⟩⟩,⟨_,j0,rsOne ⟨ci j0,ci j0,ci j0,j5⟩⟩,⟨_,j0,rsOne ⟨ci j0,ci j0,ci j0,ci j0,j5⟩⟩,j5⟩,j0,j1⟩<|u<|fa ti40 j0 j0 j0<|u<|sto ti3 j0 j0 j0<|r_nil (⟨⟨v3.2.1,v3.2.2,v3.1⟩,h,[.old 0,.old 1,.old 2],cv j0 (.mpt j0)<|cv j0 (.mpt j0)<|cv j0 (.mpt j0)<|cn,j0,⟨⟨_,j0,rsOne ⟨ci j0,ci j0,ci j0,ci j0,j5⟩⟩,⟨_,j0,rsOne ⟨ci j0,ci j0,ci j0,j5⟩⟩,⟨_,j0,rsOne ⟨ci j0,ci j0,ci j0,ci j0,j5⟩⟩,j5⟩,j0,j1⟩)
  ·
   replace h:=bF hc2 h
   refine sw_skip ?_
   exact ⟨⟨v2.2.1,v2.2.2,0⟩,h,[.old 0,.old 1,.old 2],cv j0 (.mpt j0)<|cv j0 (.mpt j0)<|cv j0 (.mpt j0)<|cn,j0,⟨⟨_,j0,rsOne ⟨ci j0,ci j0,ci j0,ci j0,j5⟩⟩,⟨_,j0,rsOne ⟨ci j0,ci j0,ci j0,j5⟩⟩,⟨_,j0,rsOne ⟨ci j0,ci j0,ci j0,ci j0,j5⟩⟩,j5⟩,j0,j1⟩
 ·
  rintro ⟨v4,v5,v6⟩ h
  replace h : op_Get_j1 v1 v2 v4 v5 v6 = some r:=h
  unfold op_Get_j1 at h
  refine sw_meet (X:=Int × Int × (List UInt8)) (fun z=>[(2,.mpt 0 0 0),(5,.mpt 1 0 0),(6,.mpt 2 0 0)]) (fun z=>[some (4,[[iA 0,iA 0,sA [],sA []]]),some (3,[[.isl 1 (List.map byteRow v1),iA z.1,iA z.2.1]]),some (4,[[iA v2.1,iA v6,sA z.2.2,sA []]])]) (fun z=>op_Get_j2 v1 v2 v6 z.1 z.2.1 z.2.2 = some r) ?_ ?_
  ·
   refine rg j0<|u<|fa ti40 j0 j0 j0<|u<|ld ti3 j0 j0<|u<|pc (op_c_ok v2.1 j0) j0 j0 j0<|r_nil ?_
   refine sw_cond j0 (fun hc4=>?_) (fun hc4=>?_)
   ·
    replace h:=bT hc4 h
    obtain ⟨v7,q5,h⟩:=bs h
    exact rl j0<|u<|mv j0<|u<|mf j0 j0<|u<|sc [1,2] (op_reader_text_ok v1 v4 v5 v2.1 v6 [] [] q5) j0 j0 j0 j0 ⟨(.mpt j0),(rnFn j5 ⟨(.mpt j0),j5⟩),j5⟩ ⟨⟨_,j0,⟨(rnI j0),(rnI j0),(rnI j0),j5⟩⟩,⟨_,j0,⟨(rnI j0),(rnI j0),(rnI j0),(rnI j0),j5⟩⟩,j5⟩<|r_can (env0:=[(2,.mpt 0 0 0),(5,.mpt 1 0 0),(6,.mpt 2 0 0),(25,sA v7.1)]) (st0:=[some (4,[[iA 0,iA 0,sA [],sA []]]),some (3,[[.isl 1 (List.map byteRow v1),iA v7.2.1,iA v7.2.2]]),some (4,[[iA v2.1,iA v6,sA [],sA []]])]) ⟨[.old 0,.old 1,.old 2],cv j0 (.mpt j0)<|cv j0 (.mpt j0)<|cv j0 (.mpt j0)<|ce j0 j0<|cn,j0,⟨⟨_,j0,rsOne ⟨ci j0,ci j0,ci j0,ci j0,j5⟩⟩,⟨_,j0,rsOne ⟨ci j0,ci j0,ci j0,j5⟩⟩,⟨_,j0,rsOne ⟨ci j0,ci j0,ci j0,ci j0,j5⟩⟩,j5⟩,j0,j1⟩<|u<|fa ti40 j0 j0 j0<|u<|sto ti9 j0 j0 j0<|r_nil (⟨⟨v7.2.1,v7.2.2,v7.1⟩,h,[.old 0,.old 1,.old 2],cv j0 (.mpt j0)<|cv j0 (.mpt j0)<|cv j0 (.mpt j0)<|cn,j0,⟨⟨_,j0,rsOne ⟨ci j0,ci j0,ci j0,ci j0,j5⟩⟩,⟨_,j0,rsOne ⟨ci j0,ci j0,ci j0,j5⟩⟩,⟨_,j0,rsOne ⟨ci j0,ci j0,ci j0,ci j0,j5⟩⟩,j5⟩,j0,j1⟩)
   ·
    replace h:=bF hc4 h
    refine sw_skip ?_
    exact ⟨⟨v4,v5,[]⟩,h,[.old 0,.old 1,.old 2],cv j0 (.mpt j0)<|cv j0 (.mpt j0)<|cv j0 (.mpt j0)<|cn,j0,⟨⟨_,j0,rsOne ⟨ci j0,ci j0,ci j0,ci j0,j5⟩⟩,⟨_,j0,rsOne ⟨ci j0,ci j0,ci j0,j5⟩⟩,⟨_,j0,rsOne ⟨ci j0,ci j0,ci j0,ci j0,j5⟩⟩,j5⟩,j0,j1⟩
  ·
   rintro ⟨v8,v9,v10⟩ h
   replace h : op_Get_j2 v1 v2 v6 v8 v9 v10 = some r:=h
   unfold op_Get_j2 at h
   refine sw_meet (X:=Int × Int × (List UInt8)) (fun z=>[(2,.mpt 0 0 0),(5,.mpt 1 0 0),(6,.mpt 2 0 0)]) (fun z=>[some (4,[[iA 0,iA 0,sA [],sA []]]),some (3,[[.isl 1 (List.map byteRow v1),iA z.1,iA z.2.1]]),some (4,[[iA v2.1,iA v6,sA v10,sA z.2.2]])]) (fun z=>op_Get_j3 v2 v6 v10 z.1 z.2.1 z.2.2 = some r) ?_ ?_
   ·
    refine rg j0<|u<|fa ti40 j0 j0 j0<|u<|ld ti3 j0 j0<|u<|pc (op_m_ok v2.1 j0) j0 j0 j0<|r_nil ?_
    refine sw_cond j0 (fun hc6=>?_) (fun hc6=>?_)
    ·
     replace h:=bT hc6 h
     obtain ⟨v11,q7,h⟩:=bs h
     exact rl j0<|u<|mv j0<|u<|mf j0 j0<|u<|sc [1,2] (op_reader_text_s2_ok v1 v8 v9 v2.1 v6 v10 [] q7) j0 j0 j0 j0 ⟨(.mpt j0),(rnFn j5 ⟨(.mpt j0),j5⟩),j5⟩ ⟨⟨_,j0,⟨(rnI j0),(rnI j0),(rnI j0),j5⟩⟩,⟨_,j0,⟨(rnI j0),(rnI j0),(rnI j0),(rnI j0),j5⟩⟩,j5⟩<|r_can (env0:=[(2,.mpt 0 0 0),(5,.mpt 1 0 0),(6,.mpt 2 0 0),(32,sA v11.1)]) (st0:=[some (4,[[iA 0,iA 0,sA [],sA []]]),some (3,[[.isl 1 (List.map byteRow v1),iA v11.2.1,iA v11.2.2]]),some (4,[[iA v2.1,iA v6,sA v10,sA []]])]) ⟨[.old 0,.old 1,.old 2],cv j0 (.mpt j0)<|cv j0 (.mpt j0)<|cv j0 (.mpt j0)<|ce j0 j0<|cn,j0,⟨⟨_,j0,rsOne ⟨ci j0,ci j0,ci j0,ci j0,j5⟩⟩,⟨_,j0,rsOne ⟨ci j0,ci j0,ci j0,j5⟩⟩,⟨_,j0,rsOne ⟨ci j0,ci j0,ci j0,ci j0,j5⟩⟩,j5⟩,j0,j1⟩<|u<|fa ti40 j0 j0 j0<|u<|sto ti9 j0 j0 j0<|r_nil (⟨⟨v11.2.1,v11.2.2,v11.1⟩,h,[.old 0,.old 1,.old 2],cv j0 (.mpt j0)<|cv j0 (.mpt j0)<|cv j0 (.mpt j0)<|cn,j0,⟨⟨_,j0,rsOne ⟨ci j0,ci j0,ci j0,ci j0,j5⟩⟩,⟨_,j0,rsOne ⟨ci j0,ci j0,ci j0,j5⟩⟩,⟨_,j0,rsOne ⟨ci j0,ci j0,ci j0,ci j0,j5⟩⟩,j5⟩,j0,j1⟩)
    ·
     replace h:=bF hc6 h
     refine sw_skip ?_
     exact ⟨⟨v8,v9,[]⟩,h,[.old 0,.old 1,.old 2],cv j0 (.mpt j0)<|cv j0 (.mpt j0)<|cv j0 (.mpt j0)<|cn,j0,⟨⟨_,j0,rsOne ⟨ci j0,ci j0,ci j0,ci j0,j5⟩⟩,⟨_,j0,rsOne ⟨ci j0,ci j0,ci j0,j5⟩⟩,⟨_,j0,rsOne ⟨ci j0,ci j0,ci j0,ci j0,j5⟩⟩,j5⟩,j0,j1⟩
   ·
    rintro ⟨v12,v13,v14⟩ h
    replace h : op_Get_j3 v2 v6 v10 v12 v13 v14 = some r:=h
    unfold op_Get_j3 at h
    refine sw_seq ?_
    refine rg j0<|u<|mv j0<|u<|nc j0 j0<|u<|fa ti308 j0 j0 j0<|u<|ld ti31 j0 j0<|u<|neq ti31 j0 j0<|r_nil ?_
    refine sw_cond j0 (fun hc8=>?_) (fun hc8=>?_)
    ·
     replace h:=bT hc8 h
     refine rd [(2,.mpt 0 0 0),(3,iA 0),(4,iA v13)] [some (4,[[iA 0,iA 0,sA [],sA []]])] [5] [4,3,2,1,0] [(43,iA v13),(42,.mpt 1 0 2),(41,.mpt 1 0 0),(40,.mpt 1 0 0),(39,.agg [iA 0,iA 0,sA [],sA []])] 1 (by kernel_rfl) (by kernel_rfl) j0 (by kernel_rfl) (dtS ⟨(fun _=>pa j0 j0 j0 j0 (ld ti31 j0 j0<|j4)),(fun _=>pa j0 j0 j0 j0 (fa ti308 j0 j0 j0<|j4)),(fun _=>pa j0 j0 j0 j0 (nc j0 j0<|j4)),(fun _=>pa j0 j0 j0 j0 (mv j0<|j4)),(fun _=>pa j0 j0 j0 j0 (bd ti40 j0 j0 j0<|j4)),j5⟩ (by kernel_rfl) j0 ⟨(fun _ _=>⟨_,j0,j0,sto ti40 j0 j0 j0<|⟨.any,[7,6],[(4,iA v13),(3,iA 0)],j0,j0,by kernel_rfl,j5,dt0 ⟨(fun _=>pa j0 j0 j0 j0 (asg j0<|j4)),(fun _=>pa j0 j0 j0 j0 (asg j0<|j4)),(fun _=>pa j0 j0 j0 j0 (ld ti31 j0 j0<|j4)),(fun _=>pa j0 j0 j0 j0 (fa ti308 j0 j0 j0<|j4)),(fun _=>pa j0 j0 j0 j0 (nc j0 j0<|j4)),(fun _=>pa j0 j0 j0 j0 (mv j0<|j4)),(fun h=>by cases h),j5⟩ (by kernel_rfl) j0 ⟨[.old 0],cv j0 (.mpt j0)<|ce j0 j0<|ce j0 j0<|cn,j0,⟨⟨_,j0,rsOne ⟨ci j0,ci j0,ci j0,ci j0,j5⟩⟩,j5⟩,j0,j1⟩⟩⟩),j5⟩) ?_
     refine sw_ret ?_
     obtain rfl:=sm h
     exact ⟨_,j0,[],rsTup ⟨(ci j0),(ci j0),(ci j0),j5⟩,j0,j5,j0,j1⟩
    ·
     replace h:=bF hc8 h
     refine sw_skip ?_
     refine rd [(2,.mpt 0 0 0),(3,iA v12),(4,iA 0)] [some (4,[[iA v2.1,iA v6,sA v10,sA v14]])] [5] [4,3,2,1,0] [(48,iA v12),(47,.mpt 1 0 1),(46,.mpt 1 0 0),(45,.mpt 1 0 0),(44,.agg [iA v2.1,iA v6,sA v10,sA v14])] 1 (by kernel_rfl) (by kernel_rfl) j0 (by kernel_rfl) (dtS ⟨(fun _=>pa j0 j0 j0 j0 (ld ti3 j0 j0<|j4)),(fun _=>pa j0 j0 j0 j0 (fa ti308 j0 j0 j0<|j4)),(fun _=>pa j0 j0 j0 j0 (nc j0 j0<|j4)),(fun _=>pa j0 j0 j0 j0 (mv j0<|j4)),(fun _=>pa j0 j0 j0 j0 (ld ti40 j0 j0<|j4)),j5⟩ (by kernel_rfl) j0 ⟨(fun _ _=>⟨_,j0,j0,sto ti40 j0 j0 j0<|⟨.any,[7,6],[(4,iA 0),(3,iA v12)],j0,j0,by kernel_rfl,j5,dt0 ⟨(fun _=>pa j0 j0 j0 j0 (asg j0<|j4)),(fun _=>pa j0 j0 j0 j0 (asg j0<|j4)),(fun _=>pa j0 j0 j0 j0 (ld ti3 j0 j0<|j4)),(fun _=>pa j0 j0 j0 j0 (fa ti308 j0 j0 j0<|j4)),(fun _=>pa j0 j0 j0 j0 (nc j0 j0<|j4)),(fun _=>pa j0 j0 j0 j0 (mv j0<|j4)),(fun h=>by cases h),j5⟩ (by kernel_rfl) j0 ⟨[.old 0],cv j0 (.mpt j0)<|ce j0 j0<|ce j0 j0<|cn,j0,⟨⟨_,j0,rsOne ⟨ci j0,ci j0,ci j0,ci j0,j5⟩⟩,j5⟩,j0,j1⟩⟩⟩),j5⟩) ?_
     refine sw_ret ?_
     obtain rfl:=sm h
     exact ⟨_,j0,[],rsTup ⟨(ci j0),(ci j0),(ci j0),j5⟩,j0,j5,j0,j1⟩
def kind_Elem (v1 : List UInt8) : Option ((List UInt8) × Bool) :=
  (kind_May v1).bind fun v2=>(cond (!v2) (some true) ((idx v1 0).bind fun v3=>some (!((v3.toNat : Int) == (91 : Int))))).bind fun v4=>cond v4 (some ([],false)) ((cutP v1 1 (List.length v1 : Int)).bind fun v5=>some (v5,true))
theorem kind_Elem_ok (v1 : List UInt8) {r : (List UInt8) × Bool} (h : kind_Elem v1 = some r) : PureC Tryz.prog 220 [sA v1] (.tup [sA r.1,bA r.2]):=by
 refine pure_fn Tryz.func220 j0 (by kernel_rfl) j0 j0 ?_
 unfold kind_Elem at h
 refine rg j0<|u<|asg j0<|u<|asg j0<|r_nil ?_
 refine sw_seq ?_
 obtain ⟨v2,q1,h⟩:=bs h
 obtain ⟨v4,q4,h⟩:=bs h
 refine rg j0<|u<|mv j0<|u<|pc (kind_May_ok v1 q1) j0 j0 j0<|u<|nt j0<|u<|mv j0<|r_or (x:=v4) (j:=3) 3 j0 j0 j0 j0 j0 gpn (fun hb2=>by replace q4:=bF hb2 q4; obtain ⟨v3,q3,q4⟩:=bs q4; obtain rfl:=sm q4; exact g j0 hb2<|mv j0<|g j0 hb2<|ixS ti9 j0 j0 j0 q3<|g j0 hb2<|neq ti5 j0 j0<|r_nil (eg [8,9,10] 3 j0 j0 j0 j0)) (fun hb=>(sm (bT hb q4)).symm)<|r_nil ?_
 refine sw_cond j0 (fun hc5=>?_) (fun hc5=>?_)
 ·
  replace h:=bT hc5 h
  refine rg j0<|u<|asg j0<|u<|asg j0<|r_nil ?_
  refine sw_ret ?_
  obtain rfl:=sm h
  exact ⟨_,j0,[],rsTup ⟨(ci j0),(ci j0),j5⟩,j0,j5,j0,j1⟩
 ·
  replace h:=bF hc5 h
  refine sw_skip ?_
  obtain ⟨v5,q6,h⟩:=bs h
  refine rg j0<|u<|mv j0<|u<|slS (a:=1) (b:=(List.length v1 : Int)) ti9 j0 j0 (bnd_lo j0 q6) j0 q6<|u<|asg j0<|u<|asg j0<|r_nil ?_
  refine sw_ret ?_
  obtain rfl:=sm h
  exact ⟨_,j0,[],rsTup ⟨(ci j0),(ci j0),j5⟩,j0,j5,j0,j1⟩
def kind_Ret (v1 : List UInt8) : Option (Bool) :=
  (cond (v1 == [86]) (some true) ((kind_May v1).bind fun v2=>some v2)).bind fun v3=>some v3
theorem kind_Ret_ok (v1 : List UInt8) {r : Bool} (h : kind_Ret v1 = some r) : PureC Tryz.prog 242 [sA v1] (bA r):=by
 refine pure_fn Tryz.func242 j0 (by kernel_rfl) j0 j0 ?_
 unfold kind_Ret at h
 refine rg j0<|u<|asg j0<|r_nil ?_
 obtain ⟨v3,q3,h⟩:=bs h
 refine rg j0<|u<|mv j0<|u<|seq ti9 j0 j0<|u<|mv j0<|r_or (x:=v3) (j:=2) 2 j0 j0 j0 j0 j0 gpn (fun hb1=>by replace q3:=bF hb1 q3; obtain ⟨v2,q2,q3⟩:=bs q3; obtain rfl:=sm q3; exact g j0 hb1<|mv j0<|g j0 hb1<|pc (kind_May_ok v1 q2) j0 j0 j0<|r_nil (eg [6,7] 2 j0 j0 j0 j0)) (fun hb=>(sm (bT hb q3)).symm)<|u<|asg j0<|r_nil ?_
 refine sw_ret ?_
 obtain rfl:=sm h
 exact ⟨_,j0,[],ci j0,j0,j5,j0,j1⟩
def kind_Array (v1 : List UInt8) : Option ((List UInt8)) :=
  (kind_May v1).bind fun v2=>(cond (!v2) (some true) ((catP [91] v1).bind fun v3=>(kind_May v3).bind fun v4=>some (!v4))).bind fun v5=>cond v5 (some []) ((catP [91] v1).bind fun v6=>some v6)
theorem kind_Array_ok (v1 : List UInt8) {r : (List UInt8)} (h : kind_Array v1 = some r) : PureC Tryz.prog 221 [sA v1] (sA r):=by
 refine pure_fn Tryz.func221 j0 (by kernel_rfl) j0 j0 ?_
 unfold kind_Array at h
 refine rg j0<|u<|asg j0<|r_nil ?_
 refine sw_seq ?_
 obtain ⟨v2,q1,h⟩:=bs h
 obtain ⟨v5,q5,h⟩:=bs h
 refine rg j0<|u<|mv j0<|u<|pc (kind_May_ok v1 q1) j0 j0 j0<|u<|nt j0<|u<|mv j0<|r_or (x:=v5) (j:=3) 4 j0 j0 j0 j0 j0 gpn (fun hb2=>by replace q5:=bF hb2 q5; obtain ⟨v3,q3,q5⟩:=bs q5; obtain ⟨v4,q4,q5⟩:=bs q5; obtain rfl:=sm q5; exact g j0 hb2<|mv j0<|g j0 hb2<|scat ti9 j0 j0 q3<|g j0 hb2<|pc (kind_May_ok v3 q4) j0 j0 j0<|g j0 hb2<|nt j0<|r_nil (eg [7,8,9,10] 4 j0 j0 j0 j0)) (fun hb=>(sm (bT hb q5)).symm)<|r_nil ?_
 refine sw_cond j0 (fun hc6=>?_) (fun hc6=>?_)
 ·
  replace h:=bT hc6 h
  refine rg j0<|u<|asg j0<|r_nil ?_
  refine sw_ret ?_
  obtain rfl:=sm h
  exact ⟨_,j0,[],ci j0,j0,j5,j0,j1⟩
 ·
  replace h:=bF hc6 h
  refine sw_skip ?_
  obtain ⟨v6,q7,h⟩:=bs h
  refine rg j0<|u<|mv j0<|u<|scat ti9 j0 j0 q7<|u<|asg j0<|r_nil ?_
  refine sw_ret ?_
  obtain rfl:=sm h
  exact ⟨_,j0,[],ci j0,j0,j5,j0,j1⟩
def law3_begun : Option (Bool) :=
  (kind_Elem [91,91,65,98]).bind fun v1=>(kind_Elem [65,98]).bind fun v2=>(kind_Class [65,98]).bind fun v3=>(cond v3 ((kind_Class [65]).bind fun v4=>some (!v4)) (some false)).bind fun v5=>(cond v5 ((kind_Name [97,98]).bind fun v6=>some v6) (some false)).bind fun v7=>(cond v7 ((kind_Name [36,105,110,105,116]).bind fun v8=>some v8) (some false)).bind fun v9=>(cond v9 ((kind_Name [65,98]).bind fun v10=>some (!v10)) (some false)).bind fun v11=>(cond v11 ((kind_May [91,91,73]).bind fun v12=>some v12) (some false)).bind fun v13=>(cond v13 ((kind_May [91,91,91,73]).bind fun v14=>some (!v14)) (some false)).bind fun v15=>(cond v15 ((kind_Ret [86]).bind fun v16=>some v16) (some false)).bind fun v17=>(cond v17 ((kind_May [86]).bind fun v18=>some (!v18)) (some false)).bind fun v19=>(cond v19 ((kind_Ref [91,73]).bind fun v20=>some v20) (some false)).bind fun v21=>(cond v21 ((kind_Ref [73]).bind fun v22=>some (!v22)) (some false)).bind fun v23=>(cond (((v23 && (v1.1 == [91,65,98])) && v1.2) && (!v2.2)) ((kind_Array [73]).bind fun v24=>some (v24 == [91,73])) (some false)).bind fun v25=>(cond v25 ((kind_Array [91,91,73]).bind fun v26=>some (v26 == [])) (some false)).bind fun v27=>some v27
theorem law3_begun_ok {r : Bool} (h : law3_begun = some r) : PureC Tryz.prog 379 [] (bA r):=by
 refine pure_fn Tryz.func379 j0 (by kernel_rfl) j0 j0 ?_
 unfold law3_begun at h
 refine rg j0<|u<|asg j0<|r_nil ?_
 obtain ⟨v1,q1,h⟩:=bs h
 refine rg j0<|u<|pc (kind_Elem_ok [91,91,65,98] q1) j0 j0 j0<|u<|mv j0<|u<|ex j0 j0<|u<|ex j0 j0<|u<|asg j0<|u<|asg j0<|r_nil ?_
 obtain ⟨v2,q2,h⟩:=bs h
 refine rg j0<|u<|pc (kind_Elem_ok [65,98] q2) j0 j0 j0<|u<|mv j0<|u<|ex j0 j0<|u<|ex j0 j0<|u<|asg j0<|u<|asg j0<|r_nil ?_
 obtain ⟨v3,q3,h⟩:=bs h
 obtain ⟨v5,q6,h⟩:=bs h
 obtain ⟨v7,q9,h⟩:=bs h
 obtain ⟨v9,q12,h⟩:=bs h
 obtain ⟨v11,q15,h⟩:=bs h
 obtain ⟨v13,q18,h⟩:=bs h
 obtain ⟨v15,q21,h⟩:=bs h
 obtain ⟨v17,q24,h⟩:=bs h
 obtain ⟨v19,q27,h⟩:=bs h
 obtain ⟨v21,q30,h⟩:=bs h
 obtain ⟨v23,q33,h⟩:=bs h
 obtain ⟨v25,q39,h⟩:=bs h
 obtain ⟨v27,q42,h⟩:=bs h
 refine rg j0<|u<|pc (kind_Class_ok [65,98] q3) j0 j0 j0<|u<|mv j0<|r_and (x:=v5) (j:=1) 2 j0 j0 j0 j0 j0 gpn (fun hb4=>by replace q6:=bT hb4 q6; obtain ⟨v4,q5,q6⟩:=bs q6; obtain rfl:=sm q6; exact g j0 hb4<|pc (kind_Class_ok [65] q5) j0 j0 j0<|g j0 hb4<|nt j0<|r_nil (eg [15,16] 2 j0 j0 j0 j0)) (fun hb=>(sm (bF hb q6)).symm)<|u<|mv j0<|r_and (x:=v7) (j:=5) 1 j0 j0 j0 j0 j0 gpn (fun hb7=>by replace q9:=bT hb7 q9; obtain ⟨v6,q8,q9⟩:=bs q9; obtain rfl:=sm q9; exact g j0 hb7<|pc (kind_Name_ok [97,98] q8) j0 j0 j0<|r_nil (eg [19] 1 j0 j0 j0 j0)) (fun hb=>(sm (bF hb q9)).symm)<|u<|mv j0<|r_and (x:=v9) (j:=8) 1 j0 j0 j0 j0 j0 gpn (fun hb10=>by replace q12:=bT hb10 q12; obtain ⟨v8,q11,q12⟩:=bs q12; obtain rfl:=sm q12; exact g j0 hb10<|pc (kind_Name_ok [36,105,110,105,116] q11) j0 j0 j0<|r_nil (eg [22] 1 j0 j0 j0 j0)) (fun hb=>(sm (bF hb q12)).symm)<|u<|mv j0<|r_and (x:=v11) (j:=11) 2 j0 j0 j0 j0 j0 gpn (fun hb13=>by replace q15:=bT hb13 q15; obtain ⟨v10,q14,q15⟩:=bs q15; obtain rfl:=sm q15; exact g j0 hb13<|pc (kind_Name_ok [65,98] q14) j0 j0 j0<|g j0 hb13<|nt j0<|r_nil (eg [25,26] 2 j0 j0 j0 j0)) (fun hb=>(sm (bF hb q15)).symm)<|u<|mv j0<|r_and (x:=v13) (j:=15) 1 j0 j0 j0 j0 j0 gpn (fun hb16=>by replace q18:=bT hb16 q18; obtain ⟨v12,q17,q18⟩:=bs q18; obtain rfl:=sm q18; exact g j0 hb16<|pc (kind_May_ok [91,91,73] q17) j0 j0 j0<|r_nil (eg [29] 1 j0 j0 j0 j0)) (fun hb=>(sm (bF hb q18)).symm)<|u<|mv j0<|r_and (x:=v15) (j:=18) 2 j0 j0 j0 j0 j0 gpn (fun hb19=>by replace q21:=bT hb19 q21; obtain ⟨v14,q20,q21⟩:=bs q21; obtain rfl:=sm q21; exact g j0 hb19<|pc (kind_May_ok [91,91,91,73] q20) j0 j0 j0<|g j0 hb19<|nt j0<|r_nil (eg [32,33] 2 j0 j0 j0 j0)) (fun hb=>(sm (bF hb q21)).symm)<|u<|mv j0<|r_and (x:=v17) (j:=22) 1 j0 j0 j0 j0 j0 gpn (fun hb22=>by replace q24:=bT hb22 q24; obtain ⟨v16,q23,q24⟩:=bs q24; obtain rfl:=sm q24; exact g j0 hb22<|pc (kind_Ret_ok [86] q23) j0 j0 j0<|r_nil (eg [36] 1 j0 j0 j0 j0)) (fun hb=>(sm (bF hb q24)).symm)<|u<|mv j0<|r_and (x:=v19) (j:=25) 2 j0 j0 j0 j0 j0 gpn (fun hb25=>by replace q27:=bT hb25 q27; obtain ⟨v18,q26,q27⟩:=bs q27; obtain rfl:=sm q27; exact g j0 hb25<|pc (kind_May_ok [86] q26) j0 j0 j0<|g j0 hb25<|nt j0<|r_nil (eg [39,40] 2 j0 j0 j0 j0)) (fun hb=>(sm (bF hb q27)).symm)<|u<|mv j0<|r_and (x:=v21) (j:=29) 1 j0 j0 j0 j0 j0 gpn (fun hb28=>by replace q30:=bT hb28 q30; obtain ⟨v20,q29,q30⟩:=bs q30; obtain rfl:=sm q30; exact g j0 hb28<|pc (kind_Ref_ok [91,73] q29) j0 j0 j0<|r_nil (eg [43] 1 j0 j0 j0 j0)) (fun hb=>(sm (bF hb q30)).symm)<|u<|mv j0<|r_and (x:=v23) (j:=32) 2 j0 j0 j0 j0 j0 gpn (fun hb31=>by replace q33:=bT hb31 q33; obtain ⟨v22,q32,q33⟩:=bs q33; obtain rfl:=sm q33; exact g j0 hb31<|pc (kind_Ref_ok [73] q32) j0 j0 j0<|g j0 hb31<|nt j0<|r_nil (eg [46,47] 2 j0 j0 j0 j0)) (fun hb=>(sm (bF hb q33)).symm)<|u<|mv j0<|r_and (j:=36) 2 j0 j0 j0 j0 j0 gpn (fun hb34=>g j0 hb34<|mv j0<|g j0 hb34<|seq ti9 j0 j0<|r_nil (egA [50,51] 2 hb34 j0 j0 j0 j0)) andF<|u<|mv j0<|r_and (j:=40) 1 j0 j0 j0 j0 j0 gpn (fun hb35=>g j0 hb35<|mv j0<|r_nil (egA [54] 1 hb35 j0 j0 j0 j0)) andF<|u<|mv j0<|r_and (j:=43) 2 j0 j0 j0 j0 j0 gpn (fun hb36=>g j0 hb36<|mv j0<|g j0 hb36<|nt j0<|r_nil (egA [57,58] 2 hb36 j0 j0 j0 j0)) andF<|u<|mv j0<|r_and (x:=v25) (j:=47) 2 j0 j0 j0 j0 j0 gpn (fun hb37=>by replace q39:=bT hb37 q39; obtain ⟨v24,q38,q39⟩:=bs q39; obtain rfl:=sm q39; exact g j0 hb37<|pc (kind_Array_ok [73] q38) j0 j0 j0<|g j0 hb37<|seq ti9 j0 j0<|r_nil (eg [61,62] 2 j0 j0 j0 j0)) (fun hb=>(sm (bF hb q39)).symm)<|u<|mv j0<|r_and (x:=v27) (j:=51) 2 j0 j0 j0 j0 j0 gpn (fun hb40=>by replace q42:=bT hb40 q42; obtain ⟨v26,q41,q42⟩:=bs q42; obtain rfl:=sm q42; exact g j0 hb40<|pc (kind_Array_ok [91,91,73] q41) j0 j0 j0<|g j0 hb40<|seq ti9 j0 j0<|r_nil (eg [65,66] 2 j0 j0 j0 j0)) (fun hb=>(sm (bF hb q42)).symm)<|u<|asg j0<|r_nil ?_
 refine sw_ret ?_
 obtain rfl:=sm h
 exact ⟨_,j0,[],ci j0,j0,j5,j0,j1⟩
def law3_Begun : Option (Bool) :=
  (law3_begun).bind fun v1=>some v1
theorem law3_Begun_ok {r : Bool} (h : law3_Begun = some r) : PureC Tryz.prog 355 [] (bA r):=by
 refine pure_fn Tryz.func355 j0 (by kernel_rfl) j0 j0 ?_
 unfold law3_Begun at h
 refine rg j0<|u<|asg j0<|r_nil ?_
 obtain ⟨v1,q1,h⟩:=bs h
 refine rg j0<|u<|pc (law3_begun_ok q1) j0 j0 j0<|u<|asg j0<|r_nil ?_
 refine sw_ret ?_
 obtain rfl:=sm h
 exact ⟨_,j0,[],ci j0,j0,j5,j0,j1⟩
end
end Go.Proofs.YthmnlfenkhmmhaaGreat
namespace Go.Proofs.YthmnlfenkhmmhaaGreat
noncomputable section
set_option linter.unusedSimpArgs false
set_option linter.unusedVariables false
set_option maxRecDepth 100000
set_option maxHeartbeats 4000000
def num_Put_k3 (v13 : List UInt8) (v14 : Int) : Option ((List UInt8)) :=
  (appP 1 v13 [(tU8 v14)]).bind fun v15=>some v15
def num_Put_l2 (v9 : List UInt8) (v10 : Int) : Option (Sum ((List UInt8) × Int) (Sum ((List UInt8) × Int) ((List UInt8)))) :=
  cond (decide (127 < v10)) ((appP 1 v9 [((tU8 v10) ||| (128 : UInt8))]).bind fun v11=>(shrP .u64 v10 7).bind fun v12=>some (.inl (v11,v12))) (some (.inr (.inl (v9,v10))))
def num_Put_j1 (v1 : List UInt8) (v4 : Int) : Option ((List UInt8)) :=
  (loopP (fun z=>num_Put_l2 z.1 z.2) (v1,v4)).bind fun o=>leave o (fun b=>num_Put_k3 b.1 b.2) some
def num_Put (v1 : List UInt8) (v2 : Int) : Option ((List UInt8)) :=
  (shlP .u64 (IntKind.u64.wrap v2) 1).bind fun v3=>cond (decide (v2 < 0)) (num_Put_j1 v1 (xorI .u64 v3)) (num_Put_j1 v1 v3)
theorem num_Put_ok (v1 : List UInt8) (v2 : Int) {r : (List UInt8)} (h : num_Put v1 v2 = some r) : SC Tryz.prog 80 [.msl 0 0 (List.length v1),iA v2] [.many 1 (List.map byteRow v1)] (.msl 1 0 (List.length r)) [.no,.many 1 (List.map byteRow r)]:=by
 refine ⟨⟨j5,sbOk (sz:=1) (fun _=>j0),j5⟩,scall_fn Tryz.func80 j0 (by kernel_rfl) j0 ?_⟩
 unfold num_Put at h
 refine rg j0<|u<|asg j0<|r_nil ?_
 obtain ⟨v3,q1,h⟩:=bs h
 refine rg j0<|u<|mv j0<|u<|cvi ti2 ti210 j0 j0 j0<|u<|shl ti210 j0 j0 q1<|u<|asg j0<|r_nil ?_
 refine sw_meet (X:=Int) (fun z=>[(0,.msl 0 0 (List.length v1)),(5,.lit (.int .u64 z))]) (fun z=>[some (1,List.map byteRow v1)]) (fun z=>num_Put_j1 v1 z = some r) ?_ ?_
 ·
  refine rg j0<|u<|mv j0<|u<|lss ti2 j0 j0<|r_nil ?_
  refine sw_cond j0 (fun hc2=>?_) (fun hc2=>?_)
  ·
   replace h:=bT hc2 h
   exact rl j0<|u<|mv j0<|u<|xo j0<|u<|asg j0<|r_nil (⟨(xorI .u64 v3),h,[.old 0],cv j0 (.msl j0)<|ce j0 j0<|cn,j0,⟨⟨_,j0,rsMap (fun _=>j0)⟩,j5⟩,j0,j1⟩)
  ·
   replace h:=bF hc2 h
   refine sw_skip ?_
   exact ⟨v3,h,[.old 0],cv j0 (.msl j0)<|ce j0 j0<|cn,j0,⟨⟨_,j0,rsMap (fun _=>j0)⟩,j5⟩,j0,j1⟩
 ·
  rintro v4 h
  replace h : num_Put_j1 v1 v4 = some r:=h
  unfold num_Put_j1 at h
  obtain ⟨o,ho,h⟩:=bs h
  refine sw_lp (X:=(List UInt8) × Int) (B:=(List UInt8) × Int) (R:=(List UInt8)) (fun z=>[(0,.msl 1 0 (List.length z.1)),(5,.lit (.int .u64 z.2))]) (fun z=>[none,some (1,List.map byteRow z.1)]) (fun b=>[(0,.msl 1 0 (List.length b.1)),(5,.lit (.int .u64 b.2))]) (fun b=>[none,some (1,List.map byteRow b.1)]) (fun r env st=>PostF Tryz.prog Tryz.f80 1 (.msl 1 0 (List.length r)) [none,some (1,List.map byteRow r)] env st) ho ⟨[.dead,.old 0],cv j0 (.msl j0)<|ce j0 j0<|cn,j0,⟨⟨_,j0,rsMap (fun _=>j0)⟩,j5⟩,j0,j1⟩ ?_ ?_ ?_
  ·
   rintro ⟨v9,v10⟩ r h
   replace h : num_Put_l2 v9 v10 = some r:=h
   unfold num_Put_l2 at h
   refine sw_seq ?_
   refine rg j0<|u<|mv j0<|u<|gtr ti210 j0 j0<|r_nil ?_
   refine sw_cond j0 (fun hc6=>?_) (fun hc6=>?_)
   ·
    replace h:=bT hc6 h
    refine sw_skip ?_
    refine sw_block ?_
    obtain ⟨v11,q7,h⟩:=bs h
    refine rg j0<|u<|mv j0<|u<|mv j0<|u<|cv8 ti210 ti5 j0 j0 j0<|u<|bor8 ti5 j0 j0<|u<|bl 2 ti29 j0 ti5 j0 (by decide) (by decide) j0 j0 j0<|u<|apM 3 ti29 j0 ti5 j0 j0 (by decide) ti29 j0 j0 j0 j0 (roX (f:=byteRow) (z:=[((tU8 v10) ||| (128 : UInt8))]) j0 j0) (fun _=>j0) j0 q7<|u<|asg j0<|r_nil ?_
    obtain ⟨v12,q8,h⟩:=bs h
    refine rl j0<|u<|mv j0<|u<|shr ti210 j0 j0 q8<|u<|asg j0<|r_nil ?_
    obtain rfl:=sm h
    exact ⟨_,j0,[.dead,.old 3],cv j0 (.msl j0)<|ce j0 j0<|cn,j0,⟨⟨_,j0,rsMap (fun _=>j0)⟩,j5⟩,j0,j1⟩
   ·
    replace h:=bF hc6 h
    refine sw_exit ?_
    obtain rfl:=sm h
    exact ⟨j0,_,j0,[.dead,.old 1],cv j0 (.msl j0)<|ce j0 j0<|cn,j0,⟨⟨_,j0,rsMap (fun _=>j0)⟩,j5⟩,j0,j1⟩
  ·
   rintro ⟨v13,v14⟩ rfl
   replace h : num_Put_k3 v13 v14 = some r:=h
   unfold num_Put_k3 at h
   obtain ⟨v15,q9,h⟩:=bs h
   refine rg j0<|u<|mv j0<|u<|mv j0<|u<|cv8 ti210 ti5 j0 j0 j0<|u<|bl 2 ti29 j0 ti5 j0 (by decide) (by decide) j0 j0 j0<|u<|apM 3 ti29 j0 ti5 j0 j0 (by decide) ti29 j0 j0 j0 j0 (roX (f:=byteRow) (z:=[(tU8 v14)]) j0 j0) (fun _=>j0) j0 q9<|u<|asg j0<|r_nil ?_
   refine sw_ret ?_
   obtain rfl:=sm h
   exact ⟨_,j0,[.dead,.old 3],.msl j0,j0,⟨⟨_,j0,rsMap (fun _=>j0)⟩,j5⟩,j0,j1⟩
  ·
   rintro r' rfl env st hp
   obtain rfl:=sm h
   exact hp
def num_PutText (v1 : List UInt8) (v2 : List UInt8) : Option ((List UInt8)) :=
  (num_Put v1 (List.length v2 : Int)).bind fun v3=>(appP 1 v3 v2).bind fun v4=>some v4
theorem num_PutText_ok (v1 : List UInt8) (v2 : List UInt8) {r : (List UInt8)} (h : num_PutText v1 v2 = some r) : SC Tryz.prog 81 [.msl 0 0 (List.length v1),sA v2] [.many 1 (List.map byteRow v1)] (.msl 1 0 (List.length r)) [.no,.many 1 (List.map byteRow r)]:=by
 refine ⟨⟨j5,sbOk (sz:=1) (fun _=>j0),j5⟩,scall_fn Tryz.func81 j0 (by kernel_rfl) j0 ?_⟩
 unfold num_PutText at h
 refine rg j0<|u<|asg j0<|r_nil ?_
 obtain ⟨v3,q1,h⟩:=bs h
 obtain ⟨v4,q2,h⟩:=bs h
 refine rg j0<|u<|mv j0<|u<|mv j0<|u<|lnS ti9 j0 j0<|u<|sc [0] (num_Put_ok v1 (List.length v2 : Int) q1) j0 j0 j0 j0 ⟨(.msl j0),(rnI j0),j5⟩ ⟨⟨j0,mkI (fun _=>j0)⟩,j5⟩<|r_can (env0:=[(1,sA v2),(8,.msl 1 0 (List.length v3))]) (st0:=[none,some (1,List.map byteRow v3)]) ⟨[.dead,.old 1],ce j0 j0<|cv j0 (.msl j0)<|cn,j0,⟨⟨_,j0,rsMap (fun _=>j0)⟩,j5⟩,j0,j1⟩<|u<|mv j0<|u<|apMS 2 ti29 j0 ti5 j0 j0 ti9 j0 j0 j0 j0 j0 q2<|u<|asg j0<|r_nil ?_
 refine sw_ret ?_
 obtain rfl:=sm h
 exact ⟨_,j0,[.dead,.old 2],.msl j0,j0,⟨⟨_,j0,rsMap (fun _=>j0)⟩,j5⟩,j0,j1⟩
def op_Put_j3 (v9 : List UInt8) : Option ((List UInt8)) :=
  some v9
def op_Put_j2 (v2 : ApiIns) (v7 : List UInt8) : Option ((List UInt8)) :=
  cond (op_m v2.Op) ((num_PutText v7 v2.M).bind fun v8=>op_Put_j3 v8) (op_Put_j3 v7)
def op_Put_j1 (v2 : ApiIns) (v5 : List UInt8) : Option ((List UInt8)) :=
  cond (op_c v2.Op) ((num_PutText v5 v2.C).bind fun v6=>op_Put_j2 v2 v6) (op_Put_j2 v2 v5)
def op_Put (v1 : List UInt8) (v2 : ApiIns) : Option ((List UInt8)) :=
  (num_Put v1 v2.Op).bind fun v3=>cond (op_a v2.Op) ((num_Put v3 v2.A).bind fun v4=>op_Put_j1 v2 v4) (op_Put_j1 v2 v3)
theorem op_Put_ok (v1 : List UInt8) (v2 : ApiIns) {r : (List UInt8)} (h : op_Put v1 v2 = some r) : SC Tryz.prog 353 [.msl 0 0 (List.length v1),.agg [iA v2.Op,iA v2.A,sA v2.C,sA v2.M]] [.many 1 (List.map byteRow v1)] (.msl 1 0 (List.length r)) [.no,.many 1 (List.map byteRow r)]:=by
 refine ⟨⟨j5,sbOk (sz:=1) (fun _=>j0),j5⟩,scall_fn Tryz.func353 j0 (by kernel_rfl) j0 ?_⟩
 unfold op_Put at h
 refine rg j0<|u<|bx 1 4 j0 j0 j0 j0<|u<|asg j0<|r_nil ?_
 obtain ⟨v3,q1,h⟩:=bs h
 refine rg j0<|u<|mv j0<|u<|fa ti40 j0 j0 j0<|u<|ld ti3 j0 j0<|u<|sc [0] (num_Put_ok v1 v2.Op q1) j0 j0 j0 j0 ⟨(.msl j0),(rnI j0),j5⟩ ⟨⟨j0,mkI (fun _=>j0)⟩,j5⟩<|r_can (env0:=[(3,.mpt 1 0 0),(8,.msl 2 0 (List.length v3))]) (st0:=[none,some (4,[[iA v2.Op,iA v2.A,sA v2.C,sA v2.M]]),some (1,List.map byteRow v3)]) ⟨[.dead,.old 1,.old 2],cv j0 (.mpt j0)<|cv j0 (.msl j0)<|cn,j0,⟨⟨_,j0,rsOne ⟨ci j0,ci j0,ci j0,ci j0,j5⟩⟩,⟨_,j0,rsMap (fun _=>j0)⟩,j5⟩,j0,j1⟩<|u<|asg j0<|r_nil ?_
 refine sw_meet (X:=(List UInt8)) (fun z=>[(0,.msl 1 0 (List.length z)),(3,.mpt 2 0 0)]) (fun z=>[none,some (1,List.map byteRow z),some (4,[[iA v2.Op,iA v2.A,sA v2.C,sA v2.M]])]) (fun z=>op_Put_j1 v2 z = some r) ?_ ?_
 ·
  refine rg j0<|u<|fa ti40 j0 j0 j0<|u<|ld ti3 j0 j0<|u<|pc (op_a_ok v2.Op j0) j0 j0 j0<|r_nil ?_
  refine sw_cond j0 (fun hc2=>?_) (fun hc2=>?_)
  ·
   replace h:=bT hc2 h
   obtain ⟨v4,q3,h⟩:=bs h
   exact rl j0<|u<|mv j0<|u<|fa ti40 j0 j0 j0<|u<|ld ti3 j0 j0<|u<|sc [2] (num_Put_ok v3 v2.A q3) j0 j0 j0 j0 ⟨(.msl j0),(rnI j0),j5⟩ ⟨⟨j0,mkI (fun _=>j0)⟩,j5⟩<|r_can (env0:=[(3,.mpt 1 0 0),(15,.msl 2 0 (List.length v4))]) (st0:=[none,some (4,[[iA v2.Op,iA v2.A,sA v2.C,sA v2.M]]),some (1,List.map byteRow v4)]) ⟨[.dead,.old 1,.old 3],cv j0 (.mpt j0)<|cv j0 (.msl j0)<|cn,j0,⟨⟨_,j0,rsOne ⟨ci j0,ci j0,ci j0,ci j0,j5⟩⟩,⟨_,j0,rsMap (fun _=>j0)⟩,j5⟩,j0,j1⟩<|u<|asg j0<|r_nil (⟨v4,h,[.dead,.old 2,.old 1],cv j0 (.msl j0)<|cv j0 (.mpt j0)<|cn,j0,⟨⟨_,j0,rsMap (fun _=>j0)⟩,⟨_,j0,rsOne ⟨ci j0,ci j0,ci j0,ci j0,j5⟩⟩,j5⟩,j0,j1⟩)
  ·
   replace h:=bF hc2 h
   refine sw_skip ?_
   exact ⟨v3,h,[.dead,.old 2,.old 1],cv j0 (.msl j0)<|cv j0 (.mpt j0)<|cn,j0,⟨⟨_,j0,rsMap (fun _=>j0)⟩,⟨_,j0,rsOne ⟨ci j0,ci j0,ci j0,ci j0,j5⟩⟩,j5⟩,j0,j1⟩
 ·
  rintro v5 h
  replace h : op_Put_j1 v2 v5 = some r:=h
  unfold op_Put_j1 at h
  refine sw_meet (X:=(List UInt8)) (fun z=>[(0,.msl 1 0 (List.length z)),(3,.mpt 2 0 0)]) (fun z=>[none,some (1,List.map byteRow z),some (4,[[iA v2.Op,iA v2.A,sA v2.C,sA v2.M]])]) (fun z=>op_Put_j2 v2 z = some r) ?_ ?_
  ·
   refine rg j0<|u<|fa ti40 j0 j0 j0<|u<|ld ti3 j0 j0<|u<|pc (op_c_ok v2.Op j0) j0 j0 j0<|r_nil ?_
   refine sw_cond j0 (fun hc4=>?_) (fun hc4=>?_)
   ·
    replace h:=bT hc4 h
    obtain ⟨v6,q5,h⟩:=bs h
    exact rl j0<|u<|mv j0<|u<|fa ti40 j0 j0 j0<|u<|ld ti9 j0 j0<|u<|sc [1] (num_PutText_ok v5 v2.C q5) j0 j0 j0 j0 ⟨(.msl j0),(rnI j0),j5⟩ ⟨⟨j0,mkI (fun _=>j0)⟩,j5⟩<|r_can (env0:=[(3,.mpt 1 0 0),(22,.msl 2 0 (List.length v6))]) (st0:=[none,some (4,[[iA v2.Op,iA v2.A,sA v2.C,sA v2.M]]),some (1,List.map byteRow v6)]) ⟨[.dead,.old 2,.old 3],cv j0 (.mpt j0)<|cv j0 (.msl j0)<|cn,j0,⟨⟨_,j0,rsOne ⟨ci j0,ci j0,ci j0,ci j0,j5⟩⟩,⟨_,j0,rsMap (fun _=>j0)⟩,j5⟩,j0,j1⟩<|u<|asg j0<|r_nil (⟨v6,h,[.dead,.old 2,.old 1],cv j0 (.msl j0)<|cv j0 (.mpt j0)<|cn,j0,⟨⟨_,j0,rsMap (fun _=>j0)⟩,⟨_,j0,rsOne ⟨ci j0,ci j0,ci j0,ci j0,j5⟩⟩,j5⟩,j0,j1⟩)
   ·
    replace h:=bF hc4 h
    refine sw_skip ?_
    exact ⟨v5,h,[.dead,.old 1,.old 2],cv j0 (.msl j0)<|cv j0 (.mpt j0)<|cn,j0,⟨⟨_,j0,rsMap (fun _=>j0)⟩,⟨_,j0,rsOne ⟨ci j0,ci j0,ci j0,ci j0,j5⟩⟩,j5⟩,j0,j1⟩
  ·
   rintro v7 h
   replace h : op_Put_j2 v2 v7 = some r:=h
   unfold op_Put_j2 at h
   refine sw_meet (X:=(List UInt8)) (fun z=>[(0,.msl 1 0 (List.length z))]) (fun z=>[none,some (1,List.map byteRow z)]) (fun z=>op_Put_j3 z = some r) ?_ ?_
   ·
    refine rg j0<|u<|fa ti40 j0 j0 j0<|u<|ld ti3 j0 j0<|u<|pc (op_m_ok v2.Op j0) j0 j0 j0<|r_nil ?_
    refine sw_cond j0 (fun hc6=>?_) (fun hc6=>?_)
    ·
     replace h:=bT hc6 h
     obtain ⟨v8,q7,h⟩:=bs h
     exact rl j0<|u<|mv j0<|u<|fa ti40 j0 j0 j0<|u<|ld ti9 j0 j0<|u<|sc [1] (num_PutText_ok v7 v2.M q7) j0 j0 j0 j0 ⟨(.msl j0),(rnI j0),j5⟩ ⟨⟨j0,mkI (fun _=>j0)⟩,j5⟩<|r_can (env0:=[(29,.msl 1 0 (List.length v8))]) (st0:=[none,some (1,List.map byteRow v8)]) ⟨[.dead,.old 3],cv j0 (.msl j0)<|cn,j0,⟨⟨_,j0,rsMap (fun _=>j0)⟩,j5⟩,j0,j1⟩<|u<|asg j0<|r_nil (⟨v8,h,[.dead,.old 1],cv j0 (.msl j0)<|cn,j0,⟨⟨_,j0,rsMap (fun _=>j0)⟩,j5⟩,j0,j1⟩)
    ·
     replace h:=bF hc6 h
     refine sw_skip ?_
     exact ⟨v7,h,[.dead,.old 1],cv j0 (.msl j0)<|cn,j0,⟨⟨_,j0,rsMap (fun _=>j0)⟩,j5⟩,j0,j1⟩
   ·
    rintro v9 h
    replace h : op_Put_j3 v9 = some r:=h
    unfold op_Put_j3 at h
    refine rg j0<|u<|mv j0<|u<|asg j0<|r_nil ?_
    refine sw_ret ?_
    obtain rfl:=sm h
    exact ⟨_,j0,[.dead,.old 1],.msl j0,j0,⟨⟨_,j0,rsMap (fun _=>j0)⟩,j5⟩,j0,j1⟩
def law4_begun : Option (Bool) :=
  (op_Put [] (ApiIns.mk 43 0 [65,98] [102])).bind fun v1=>(appP 1 ([] : List UInt8) v1).bind fun v2=>(appP 1 v2 [(1 : UInt8)]).bind fun v3=>(op_Get v3).bind fun v4=>(op_Get []).bind fun v5=>(op_Get [(0 : UInt8)]).bind fun v6=>(law3_Begun).bind fun v7=>(cond v7 ((op_May (ApiIns.mk 43 0 [65,98] [102])).bind fun v8=>some v8) (some false)).bind fun v9=>(cond v9 ((op_May (ApiIns.mk 43 0 [] [])).bind fun v10=>some (!v10)) (some false)).bind fun v11=>some ((((((((((v11 && (op_Jumps 20)) && (!(op_Jumps 37))) && (op_Ends 46)) && (!(op_Ends 8))) && (decide (4 < ((List.length v1) : Int)))) && (v4.2.2 == (0 : Int))) && (v4.2.1 == ((List.length v1) : Int))) && (ref3_EqIns (ApiIns.mk 43 0 [65,98] [102]) v4.1)) && (v5.2.2 == (2 : Int))) && (v6.2.2 == (1 : Int)))
theorem law4_begun_ok {r : Bool} (h : law4_begun = some r) : PureC Tryz.prog 317 [] (bA r):=by
 refine pure_fn Tryz.func317 j0 (by kernel_rfl) j0 j0 ?_
 unfold law4_begun at h
 refine rg j0<|u<|asg j0<|r_nil ?_
 refine rg j0<|u<|bd ti40 j0 j0 j0<|u<|al 0 ti40 j0<|u<|sto ti40 j0 j0 j0<|r_nil ?_
 obtain ⟨v1,q1,h⟩:=bs h
 refine rg j0<|u<|ld ti40 j0 j0<|ph 1<|u<|sc [1] (op_Put_ok [] (ApiIns.mk 43 0 [65,98] [102]) q1) j0 j0 j0 j0 ⟨(.nil0 j0),(rnI j0),j5⟩ ⟨⟨j0,mkI (fun _=>j0)⟩,j5⟩<|r_can (env0:=[(1,.mpt 0 0 0),(14,.msl 1 0 (List.length v1))]) (st0:=[some (4,[[iA 43,iA 0,sA [65,98],sA [102]]]),some (1,List.map byteRow v1)]) ⟨[.old 0,.old 2],cv j0 (.mpt j0)<|cv j0 (.msl j0)<|cn,j0,⟨⟨_,j0,rsOne ⟨ci j0,ci j0,ci j0,ci j0,j5⟩⟩,⟨_,j0,rsMap (fun _=>j0)⟩,j5⟩,j0,j1⟩<|u<|asg j0<|r_nil ?_
 obtain ⟨v2,q2,h⟩:=bs h
 obtain ⟨v3,q3,h⟩:=bs h
 obtain ⟨v4,q4,h⟩:=bs h
 refine rg j0<|u<|mv j0<|u<|apN (f:=byteRow) 2 ti29 j0 ti5 j0 j0 (by decide) ti29 j0 j0 j0 (roM j0) (fun _=>j0) j0 q2<|u<|bl 3 ti29 j0 ti5 j0 (by decide) (by decide) j0 j0 j0<|u<|apM 4 ti29 j0 ti5 j0 j0 (by decide) ti29 j0 j0 j0 j0 (roX (f:=byteRow) (z:=[(1 : UInt8)]) j0 j0) (fun _=>j0) j0 q3<|u<|pcs (op_Get_ok v3 q4) j0 j0 (.cons (sealM j0 (fun _=>j0)) .nil) plainB<|u<|mv j0<|u<|ex j0 j0<|u<|ex j0 j0<|u<|ex j0 j0<|u<|al 5 ti40 j0<|u<|sto ti40 j0 j0 j0<|u<|asg j0<|u<|asg j0<|r_nil ?_
 obtain ⟨v5,q5,h⟩:=bs h
 refine rg j0<|u<|pcs (op_Get_ok [] q5) j0 j0 (.cons (.nil) .nil) plainB<|u<|mv j0<|u<|ex j0 j0<|u<|ex j0 j0<|u<|ex j0 j0<|u<|al 6 ti40 j0<|u<|sto ti40 j0 j0 j0<|u<|asg j0<|u<|asg j0<|r_nil ?_
 obtain ⟨v6,q6,h⟩:=bs h
 refine rg j0<|u<|bl 7 ti29 j0 ti5 j0 (by decide) (by decide) j0 j0 j0<|u<|pcs (op_Get_ok [(0 : UInt8)] q6) j0 j0 (.cons (sealX j0 ⟨⟨(si j0),j5⟩,j5⟩) .nil) plainB<|u<|mv j0<|u<|ex j0 j0<|u<|ex j0 j0<|u<|ex j0 j0<|u<|al 8 ti40 j0<|u<|sto ti40 j0 j0 j0<|u<|asg j0<|u<|asg j0<|r_nil ?_
 obtain ⟨v7,q7,h⟩:=bs h
 obtain ⟨v9,q10,h⟩:=bs h
 obtain ⟨v11,q13,h⟩:=bs h
 refine rg j0<|u<|pc (law3_Begun_ok q7) j0 j0 j0<|u<|mv j0<|r_and (x:=v9) (j:=1) 2 j0 j0 j0 j0 j0 gpn (fun hb8=>by replace q10:=bT hb8 q10; obtain ⟨v8,q9,q10⟩:=bs q10; obtain rfl:=sm q10; exact g j0 hb8<|ld ti40 j0 j0<|g j0 hb8<|pc (op_May_ok (ApiIns.mk 43 0 [65,98] [102]) q9) j0 j0 j0<|r_nil (eg [37,38] 2 j0 j0 j0 j0)) (fun hb=>(sm (bF hb q10)).symm)<|u<|mv j0<|r_and (x:=v11) (j:=5) 3 j0 j0 j0 j0 j0 gpn (fun hb11=>by replace q13:=bT hb11 q13; obtain ⟨v10,q12,q13⟩:=bs q13; obtain rfl:=sm q13; exact g j0 hb11<|bd ti40 j0 j0 j0<|g j0 hb11<|pc (op_May_ok (ApiIns.mk 43 0 [] []) q12) j0 j0 j0<|g j0 hb11<|nt j0<|r_nil (eg [41,42,43] 3 j0 j0 j0 j0)) (fun hb=>(sm (bF hb q13)).symm)<|u<|mv j0<|r_and (j:=10) 1 j0 j0 j0 j0 j0 gpn (fun hb14=>g j0 hb14<|pc (op_Jumps_ok 20 j0) j0 j0 j0<|r_nil (egA [46] 1 hb14 j0 j0 j0 j0)) andF<|u<|mv j0<|r_and (j:=13) 2 j0 j0 j0 j0 j0 gpn (fun hb15=>g j0 hb15<|pc (op_Jumps_ok 37 j0) j0 j0 j0<|g j0 hb15<|nt j0<|r_nil (egA [49,50] 2 hb15 j0 j0 j0 j0)) andF<|u<|mv j0<|r_and (j:=17) 1 j0 j0 j0 j0 j0 gpn (fun hb16=>g j0 hb16<|pc (op_Ends_ok 46 j0) j0 j0 j0<|r_nil (egA [53] 1 hb16 j0 j0 j0 j0)) andF<|u<|mv j0<|r_and (j:=20) 2 j0 j0 j0 j0 j0 gpn (fun hb17=>g j0 hb17<|pc (op_Ends_ok 8 j0) j0 j0 j0<|g j0 hb17<|nt j0<|r_nil (egA [56,57] 2 hb17 j0 j0 j0 j0)) andF<|u<|mv j0<|r_and (j:=24) 3 j0 j0 j0 j0 j0 gpn (fun hb18=>g j0 hb18<|mv j0<|g j0 hb18<|lnM ti29 j0 j0 j0<|g j0 hb18<|gtr ti3 j0 j0<|r_nil (egA [60,61,62] 3 hb18 j0 j0 j0 j0)) andF<|u<|mv j0<|r_and (j:=29) 2 j0 j0 j0 j0 j0 gpn (fun hb19=>g j0 hb19<|mv j0<|g j0 hb19<|eql ti31 j0 j0<|r_nil (egA [65,66] 2 hb19 j0 j0 j0 j0)) andF<|u<|mv j0<|r_and (j:=33) 4 j0 j0 j0 j0 j0 gpn (fun hb20=>g j0 hb20<|mv j0<|g j0 hb20<|mv j0<|g j0 hb20<|lnM ti29 j0 j0 j0<|g j0 hb20<|eql ti3 j0 j0<|r_nil (egA [69,70,71,72] 4 hb20 j0 j0 j0 j0)) andF<|u<|mv j0<|r_and (j:=39) 3 j0 j0 j0 j0 j0 gpn (fun hb21=>g j0 hb21<|ld ti40 j0 j0<|g j0 hb21<|ld ti40 j0 j0<|g j0 hb21<|pc (ref3_EqIns_ok (ApiIns.mk 43 0 [65,98] [102]) v4.1 j0) j0 j0 j0<|r_nil (egA [75,76,77] 3 hb21 j0 j0 j0 j0)) andF<|u<|mv j0<|r_and (j:=44) 2 j0 j0 j0 j0 j0 gpn (fun hb22=>g j0 hb22<|mv j0<|g j0 hb22<|eql ti31 j0 j0<|r_nil (egA [80,81] 2 hb22 j0 j0 j0 j0)) andF<|u<|mv j0<|r_and (j:=48) 2 j0 j0 j0 j0 j0 gpn (fun hb23=>g j0 hb23<|mv j0<|g j0 hb23<|eql ti31 j0 j0<|r_nil (egA [84,85] 2 hb23 j0 j0 j0 j0)) andF<|u<|asg j0<|r_nil ?_
 refine sw_ret ?_
 obtain rfl:=sm h
 exact ⟨_,j0,[],ci j0,j0,j5,j0,j1⟩
def law4_Begun : Option (Bool) :=
  (law4_begun).bind fun v1=>some v1
theorem law4_Begun_ok {r : Bool} (h : law4_Begun = some r) : PureC Tryz.prog 232 [] (bA r):=by
 refine pure_fn Tryz.func232 j0 (by kernel_rfl) j0 j0 ?_
 unfold law4_Begun at h
 refine rg j0<|u<|asg j0<|r_nil ?_
 obtain ⟨v1,q1,h⟩:=bs h
 refine rg j0<|u<|pc (law4_begun_ok q1) j0 j0 j0<|u<|asg j0<|r_nil ?_
 refine sw_ret ?_
 obtain rfl:=sm h
 exact ⟨_,j0,[],ci j0,j0,j5,j0,j1⟩
end
end Go.Proofs.YthmnlfenkhmmhaaGreat
namespace Go.Proofs.YthmnlfenkhmmhaaGreat
noncomputable section
set_option linter.unusedSimpArgs false
set_option linter.unusedVariables false
set_option maxRecDepth 100000
set_option maxHeartbeats 4000000
structure ApiField where
  Name : List UInt8
  Type_ : List UInt8
  Static : Bool
def rApiField (x : ApiField) : List AV:=[sA x.Name,sA x.Type_,bA x.Static]
structure ApiMap where
  At : Int
  Locals : List (List UInt8)
  Stack : List (List UInt8)
def rApiMap (x : ApiMap) : List AV:=[iA x.At,.isl 1 (List.map rStr x.Locals),.isl 1 (List.map rStr x.Stack)]
structure ApiTrap where
  From : Int
  To : Int
  At : Int
  C : List UInt8
def rApiTrap (x : ApiTrap) : List AV:=[iA x.From,iA x.To,iA x.At,sA x.C]
structure ApiMethod where
  Name : List UInt8
  Params : List (List UInt8)
  Ret : List UInt8
  Static : Bool
  Abstract : Bool
  Locals : Int
  Stack : Int
  Code : List ApiIns
  Maps : List ApiMap
  Traps : List ApiTrap
def rApiMethod (x : ApiMethod) : List AV:=[sA x.Name,.isl 1 (List.map rStr x.Params),sA x.Ret,bA x.Static,bA x.Abstract,iA x.Locals,iA x.Stack,.isl 4 (List.map rApiIns x.Code),.isl 3 (List.map rApiMap x.Maps),.isl 4 (List.map rApiTrap x.Traps)]
structure ApiClass where
  Name : List UInt8
  Super : List UInt8
  Interface : Bool
  Impl : List (List UInt8)
  Fields : List ApiField
  Methods : List ApiMethod
def rApiClass (x : ApiClass) : List AV:=[sA x.Name,sA x.Super,bA x.Interface,.isl 1 (List.map rStr x.Impl),.isl 3 (List.map rApiField x.Fields),.isl 10 (List.map rApiMethod x.Methods)]
def class_May_2 (v1 : ApiField) : Option (Bool) :=
  (kind_Name v1.Name).bind fun v2=>(cond (v2 && (!(v1.Name == [36,105,110,105,116]))) ((kind_May v1.Type_).bind fun v3=>some v3) (some false)).bind fun v4=>some v4
theorem class_May_2_ok (v1 : ApiField) {r : Bool} (h : class_May_2 v1 = some r) : PureC Tryz.prog 151 [.agg [sA v1.Name,sA v1.Type_,bA v1.Static]] (bA r):=by
 refine pure_fn Tryz.func151 j0 (by kernel_rfl) j0 j0 ?_
 unfold class_May_2 at h
 refine rg j0<|u<|bx 0 3 j0 j0 j0 j0<|u<|asg j0<|r_nil ?_
 obtain ⟨v2,q1,h⟩:=bs h
 obtain ⟨v4,q5,h⟩:=bs h
 refine rg j0<|u<|fa ti42 j0 j0 j0<|u<|ld ti9 j0 j0<|u<|pc (kind_Name_ok v1.Name q1) j0 j0 j0<|u<|mv j0<|r_and (j:=3) 3 j0 j0 j0 j0 j0 gpn (fun hb2=>g j0 hb2<|fa ti42 j0 j0 j0<|g j0 hb2<|ld ti9 j0 j0<|g j0 hb2<|sne ti9 j0 j0<|r_nil (egA [7,8,9] 3 hb2 j0 j0 j0 j0)) andF<|u<|mv j0<|r_and (x:=v4) (j:=8) 3 j0 j0 j0 j0 j0 gpn (fun hb3=>by replace q5:=bT hb3 q5; obtain ⟨v3,q4,q5⟩:=bs q5; obtain rfl:=sm q5; exact g j0 hb3<|fa ti42 j0 j0 j0<|g j0 hb3<|ld ti9 j0 j0<|g j0 hb3<|pc (kind_May_ok v1.Type_ q4) j0 j0 j0<|r_nil (eg [12,13,14] 3 j0 j0 j0 j0)) (fun hb=>(sm (bF hb q5)).symm)<|u<|asg j0<|r_nil ?_
 refine sw_ret ?_
 obtain rfl:=sm h
 exact ⟨_,j0,[],ci j0,j0,j5,j0,j1⟩
def class_May_1 (v1 : ApiField) : (List UInt8) :=
  v1.Name
theorem class_May_1_ok (v1 : ApiField) {r : (List UInt8)} (h : class_May_1 v1 = r) : PureC Tryz.prog 150 [.agg [sA v1.Name,sA v1.Type_,bA v1.Static]] (sA r):=by
 refine pure_fn Tryz.func150 j0 (by kernel_rfl) j0 j0 ?_
 unfold class_May_1 at h
 refine rg j0<|u<|bx 0 3 j0 j0 j0 j0<|u<|asg j0<|r_nil ?_
 refine rg j0<|u<|fa ti42 j0 j0 j0<|u<|ld ti9 j0 j0<|u<|asg j0<|r_nil ?_
 refine sw_ret ?_
 obtain rfl:=h
 exact ⟨_,j0,[],ci j0,j0,j5,j0,j1⟩
def class_all_api_Field_1 (v1 : ApiField) (v2 : List UInt8) (v3 : List UInt8) (v4 : Bool) : Bool :=
  ((class_May_1 (ApiField.mk v2 v3 v4)) == (class_May_1 v1))
theorem class_all_api_Field_1_ok (v1 : ApiField) (v2 : List UInt8) (v3 : List UInt8) (v4 : Bool) {r : Bool} (h : class_all_api_Field_1 v1 v2 v3 v4 = r) : PureC Tryz.prog 235 [.agg [sA v1.Name,sA v1.Type_,bA v1.Static],.ipt 1 [[.fn (.func 150) [] []]] 0 0,.ipt 3 [[sA v2,sA v3,bA v4]] 0 0] (bA r):=by
 refine pure_fn Tryz.func235 j0 (by kernel_rfl) j0 j0 ?_
 unfold class_all_api_Field_1 at h
 refine rg j0<|u<|bx 0 3 j0 j0 j0 j0<|u<|asg j0<|r_nil ?_
 refine rd [(4,bA ((class_May_1 (ApiField.mk v2 v3 v4)) == (class_May_1 v1)))] [] [] [7,6,5,4,3,2,1,0] [(4,bA ((class_May_1 (ApiField.mk v2 v3 v4)) == (class_May_1 v1))),(11,bA ((class_May_1 (ApiField.mk v2 v3 v4)) == (class_May_1 v1))),(10,sA (class_May_1 v1)),(9,.agg [sA v1.Name,sA v1.Type_,bA v1.Static]),(8,.fn (.func 150) [] []),(7,sA (class_May_1 (ApiField.mk v2 v3 v4))),(6,.agg [sA v2,sA v3,bA v4]),(5,.fn (.func 150) [] [])] 0 (by kernel_rfl) (by kernel_rfl) j0 (by kernel_rfl) (dt0 ⟨(fun _=>pa j0 j0 j0 j0 (asg j0<|j4)),(fun _=>pa j0 j0 j0 j0 (seq ti9 j0 j0<|j4)),(fun _=>pa j0 j0 j0 j0 (pc (class_May_1_ok v1 j0) j0 j0 j0<|j4)),(fun _=>pa j0 j0 j0 j0 (ld ti42 j0 j0<|j4)),(fun _=>pa j0 j0 j0 j0 (ld ti198 j0 j0<|j4)),(fun _=>pa j0 j0 j0 j0 (pc (class_May_1_ok (ApiField.mk v2 v3 v4) j0) j0 j0 j0<|j4)),(fun _=>pa j0 j0 j0 j0 (ld ti42 j0 j0<|j4)),(fun _=>pa j0 j0 j0 j0 (ld ti198 j0 j0<|j4)),j5⟩ (by kernel_rfl) j0 ⟨[],ce j0 j0<|cn,j0,j5,j0,j1⟩) ?_
 refine sw_ret ?_
 obtain rfl:=h
 exact ⟨_,j0,[],ci j0,j0,j5,j0,j1⟩
def slices_IndexFunc_api_Field_api_Field_k2 : Option (Int) :=
  some (-1)
def slices_IndexFunc_api_Field_api_Field_l1 (v1 : List ApiField) (v2 : List UInt8) (v3 : List UInt8) (v4 : Bool) (v7 : Int) : Option (Sum (Int) (Sum (Unit) (Int))) :=
  cond (decide (v7 < (List.length v1 : Int))) ((idx v1 v7).bind fun v8=>cond (class_all_api_Field_1 v8 v2 v3 v4) (some (.inr (.inr v7))) (some (.inl (IntKind.i64.wrap (v7 + 1))))) (some (.inr (.inl ())))
def slices_IndexFunc_api_Field_api_Field (v1 : List ApiField) (v2 : List UInt8) (v3 : List UInt8) (v4 : Bool) : Option (Int) :=
  (loopP (fun z=>slices_IndexFunc_api_Field_api_Field_l1 v1 v2 v3 v4 z) 0).bind fun o=>leave o (fun b=>slices_IndexFunc_api_Field_api_Field_k2) some
theorem slices_IndexFunc_api_Field_api_Field_ok (v1 : List ApiField) (v2 : List UInt8) (v3 : List UInt8) (v4 : Bool) {r : Int} (h : slices_IndexFunc_api_Field_api_Field v1 v2 v3 v4 = some r) : PureC Tryz.prog 315 [.isl 3 (List.map rApiField v1),.fn (.func 235) [] [.ipt 1 [[.fn (.func 150) [] []]] 0 0,.ipt 3 [[sA v2,sA v3,bA v4]] 0 0]] (iA r):=by
 refine pure_fn Tryz.func315 j0 (by kernel_rfl) j0 j0 ?_
 unfold slices_IndexFunc_api_Field_api_Field at h
 refine rg j0<|u<|asg j0<|r_nil ?_
 refine sw_seq ?_
 refine rg j0<|u<|mv j0<|u<|lnI ti23 j0 j0<|u<|mv j0<|r_nil ?_
 obtain ⟨o,ho,h⟩:=bs h
 refine sw_lpl (X:=Int) (B:=Unit) (R:=Int) (fun z=>[(0,.isl 3 (List.map rApiField v1)),(1,.fn (.func 235) [] [.ipt 1 [[.fn (.func 150) [] []]] 0 0,.ipt 3 [[sA v2,sA v3,bA v4]] 0 0]),(7,iA (List.length v1 : Int)),(8,iA z)]) (fun z=>[]) (fun b=>[]) (fun b=>[]) (fun r env st=>PostF Tryz.prog Tryz.f315 0 (iA r) [] env st) ho ⟨[],ce j0 j0<|ce j0 j0<|ce j0 j0<|ce j0 j0<|cn,j0,j5,j0,j1⟩ ?_ ?_ ?_
 ·
  rintro v7 r h
  replace h : slices_IndexFunc_api_Field_api_Field_l1 v1 v2 v3 v4 v7 = some r:=h
  unfold slices_IndexFunc_api_Field_api_Field_l1 at h
  refine rg j0<|u<|lss ti3 j0 j0<|r_nil ?_
  refine sw_seq ?_
  refine sw_cond j0 (fun hc4=>?_) (fun hc4=>?_)
  ·
   replace h:=bT hc4 h
   refine sw_skip ?_
   refine sw_seq ?_
   refine sw_block ?_
   refine rg j0<|u<|mv j0<|u<|asg j0<|r_nil ?_
   obtain ⟨v8,q5,h⟩:=bs h
   refine rg j0<|u<|mv j0<|u<|mv j0<|u<|mv j0<|u<|ixI ti23 j0 ti42 j0 j0 j0 q5<|u<|ldI ti42 j0 (idx_some q5).2.2 j0<|u<|pc (class_all_api_Field_1_ok v8 v2 v3 v4 j0) j0 j0 j0<|r_nil ?_
   refine sw_cond j0 (fun hc6=>?_) (fun hc6=>?_)
   ·
    replace h:=bT hc6 h
    refine rg j0<|u<|mv j0<|u<|asg j0<|r_nil ?_
    refine sw_ret ?_
    obtain rfl:=sm h
    exact ⟨_,j0,_,j0,[],ci j0,j0,j5,j0,j1⟩
   ·
    replace h:=bF hc6 h
    refine sw_skip ?_
    refine rl j0<|u<|add ti3 j0 j0<|u<|mv j0<|r_nil ?_
    obtain rfl:=sm h
    exact ⟨_,j0,[],ce j0 j0<|ce j0 j0<|ce j0 j0<|ce j0 j0<|cn,j0,j5,j0,j1⟩
  ·
   replace h:=bF hc4 h
   refine sw_exit ?_
   obtain rfl:=sm h
   exact ⟨j0,_,j0,[],cn,j0,j5,j0,j1⟩
 ·
  rintro ⟨⟩ rfl
  replace h : slices_IndexFunc_api_Field_api_Field_k2 = some r:=h
  unfold slices_IndexFunc_api_Field_api_Field_k2 at h
  refine ow_intro ?_
  refine rg j0<|u<|asg j0<|r_nil ?_
  refine sw_ret ?_
  obtain rfl:=sm h
  exact ⟨_,j0,[],ci j0,j0,j5,j0,j1⟩
 ·
  rintro r' rfl env st hp
  obtain rfl:=sm h
  exact hp
def slices_ContainsFunc_api_Field_api_Field (v1 : List ApiField) (v2 : List UInt8) (v3 : List UInt8) (v4 : Bool) : Option (Bool) :=
  (slices_IndexFunc_api_Field_api_Field v1 v2 v3 v4).bind fun v5=>some (decide (0 ≤ v5))
theorem slices_ContainsFunc_api_Field_api_Field_ok (v1 : List ApiField) (v2 : List UInt8) (v3 : List UInt8) (v4 : Bool) {r : Bool} (h : slices_ContainsFunc_api_Field_api_Field v1 v2 v3 v4 = some r) : PureC Tryz.prog 234 [.isl 3 (List.map rApiField v1),.fn (.func 235) [] [.ipt 1 [[.fn (.func 150) [] []]] 0 0,.ipt 3 [[sA v2,sA v3,bA v4]] 0 0]] (bA r):=by
 refine pure_fn Tryz.func234 j0 (by kernel_rfl) j0 j0 ?_
 unfold slices_ContainsFunc_api_Field_api_Field at h
 refine rg j0<|u<|asg j0<|r_nil ?_
 obtain ⟨v5,q1,h⟩:=bs h
 refine rg j0<|u<|mv j0<|u<|mv j0<|u<|pc (slices_IndexFunc_api_Field_api_Field_ok v1 v2 v3 v4 q1) j0 j0 j0<|u<|geq ti3 j0 j0<|u<|asg j0<|r_nil ?_
 refine sw_ret ?_
 obtain rfl:=sm h
 exact ⟨_,j0,[],ci j0,j0,j5,j0,j1⟩
def class_all_api_Field_k2 (v1 : List ApiField) (v2 : Int) : Option (Bool) :=
  some (decide ((List.length v1 : Int) ≤ v2))
def class_all_api_Field_l1 (v1 : List ApiField) (v9 : Int) : Option (Sum (Int) (Sum (Unit) (Bool))) :=
  cond (decide (v9 < (List.length v1 : Int))) ((idx v1 v9).bind fun v10=>(class_May_2 v10).bind fun v11=>(cond (!v11) (some true) ((cutP v1 0 v9).bind fun v12=>(slices_ContainsFunc_api_Field_api_Field v12 v10.Name v10.Type_ v10.Static).bind fun v13=>some v13)).bind fun v14=>cond v14 (some (.inr (.inr false))) (some (.inl (IntKind.i64.wrap (v9 + 1))))) (some (.inr (.inl ())))
def class_all_api_Field (v1 : List ApiField) (v2 : Int) : Option (Bool) :=
  (loopP (fun z=>class_all_api_Field_l1 v1 z) 0).bind fun o=>leave o (fun b=>class_all_api_Field_k2 v1 v2) some
theorem class_all_api_Field_ok (v1 : List ApiField) (v2 : Int) {r : Bool} (h : class_all_api_Field v1 v2 = some r) : PureC Tryz.prog 149 [.isl 3 (List.map rApiField v1),iA v2,.fn (.func 150) [] [],.fn (.func 151) [] []] (bA r):=by
 refine pure_fn Tryz.func149 j0 (by kernel_rfl) j0 j0 ?_
 unfold class_all_api_Field at h
 refine rg j0<|u<|bx 0 1 j0 j0 j0 j0<|u<|asg j0<|r_nil ?_
 refine sw_seq ?_
 refine rg j0<|u<|mv j0<|u<|lnI ti23 j0 j0<|u<|mv j0<|r_nil ?_
 obtain ⟨o,ho,h⟩:=bs h
 refine sw_lpl (X:=Int) (B:=Unit) (R:=Bool) (fun z=>[(0,.isl 3 (List.map rApiField v1)),(1,iA v2),(3,.fn (.func 151) [] []),(6,.mpt 0 0 0),(11,.isl 3 (List.map rApiField v1)),(12,iA (List.length v1 : Int)),(13,iA z)]) (fun z=>[some (1,[[.fn (.func 150) [] []]])]) (fun b=>[(0,.isl 3 (List.map rApiField v1)),(1,iA v2)]) (fun b=>[]) (fun r env st=>PostF Tryz.prog Tryz.f149 0 (bA r) [] env st) ho ⟨[.old 0],ce j0 j0<|ce j0 j0<|ce j0 j0<|cv j0 (.mpt j0)<|ce j0 j0<|ce j0 j0<|ce j0 j0<|cn,j0,⟨⟨_,j0,rsOne ⟨ci j0,j5⟩⟩,j5⟩,j0,j1⟩ ?_ ?_ ?_
 ·
  rintro v9 r h
  replace h : class_all_api_Field_l1 v1 v9 = some r:=h
  unfold class_all_api_Field_l1 at h
  refine rg j0<|u<|lss ti3 j0 j0<|r_nil ?_
  refine sw_seq ?_
  refine sw_cond j0 (fun hc9=>?_) (fun hc9=>?_)
  ·
   replace h:=bT hc9 h
   refine sw_skip ?_
   refine sw_seq ?_
   refine sw_block ?_
   obtain ⟨v10,q10,h⟩:=bs h
   refine rg j0<|u<|mv j0<|u<|ixI ti23 j0 ti42 j0 j0 j0 q10<|u<|ldI ti42 j0 (idx_some q10).2.2 j0<|u<|al 1 ti42 j0<|u<|asg j0<|u<|sto ti42 j0 j0 j0<|r_nil ?_
   obtain ⟨v11,q11,h⟩:=bs h
   obtain ⟨v14,q15,h⟩:=bs h
   refine rg j0<|u<|mv j0<|u<|ld ti42 j0 j0<|u<|pc (class_May_2_ok v10 q11) j0 j0 j0<|u<|nt j0<|u<|mv j0<|r_or (x:=v14) (j:=4) 5 j0 j0 j0 j0 j0 gpn (fun hb12=>by replace q15:=bF hb12 q15; obtain ⟨v12,q13,q15⟩:=bs q15; obtain ⟨v13,q14,q15⟩:=bs q15; obtain rfl:=sm q15; exact g j0 hb12<|mv j0<|g j0 hb12<|mv j0<|g j0 hb12<|slI (a:=0) (b:=v9) ti23 j0 ti42 j0 j0 j0 (bnd_hi j0 q13) q13<|g j0 hb12<|mf j0 j0<|g j0 hb12<|pcs (slices_ContainsFunc_api_Field_api_Field_ok v12 v10.Name v10.Type_ v10.Static q14) j0 j0 (.cons (si j0) (.cons (sealFn j5 ⟨(sealBox j0 ⟨(si j0),j5⟩),(sealBox j0 ⟨(si j0),(si j0),(si j0),j5⟩),j5⟩) .nil)) plainB<|r_nil (eg [23,24,25,26,27] 5 j0 j0 j0 j0)) (fun hb=>(sm (bT hb q15)).symm)<|r_nil ?_
   refine sw_cond j0 (fun hc16=>?_) (fun hc16=>?_)
   ·
    replace h:=bT hc16 h
    refine rg j0<|u<|asg j0<|r_nil ?_
    refine sw_ret ?_
    obtain rfl:=sm h
    exact ⟨_,j0,_,j0,[],ci j0,j0,j5,j0,j1⟩
   ·
    replace h:=bF hc16 h
    refine sw_skip ?_
    refine rl j0<|u<|add ti3 j0 j0<|u<|mv j0<|r_nil ?_
    obtain rfl:=sm h
    exact ⟨_,j0,[.old 0],ce j0 j0<|ce j0 j0<|ce j0 j0<|cv j0 (.mpt j0)<|ce j0 j0<|ce j0 j0<|ce j0 j0<|cn,j0,⟨⟨_,j0,rsOne ⟨ci j0,j5⟩⟩,j5⟩,j0,j1⟩
  ·
   replace h:=bF hc9 h
   refine sw_exit ?_
   obtain rfl:=sm h
   exact ⟨j0,_,j0,[],ce j0 j0<|ce j0 j0<|cn,j0,j5,j0,j1⟩
 ·
  rintro ⟨⟩ rfl
  replace h : class_all_api_Field_k2 v1 v2 = some r:=h
  unfold class_all_api_Field_k2 at h
  refine ow_intro ?_
  refine rg j0<|u<|mv j0<|u<|lnI ti23 j0 j0<|u<|mv j0<|u<|leq ti3 j0 j0<|u<|asg j0<|r_nil ?_
  refine sw_ret ?_
  obtain rfl:=sm h
  exact ⟨_,j0,[],ci j0,j0,j5,j0,j1⟩
 ·
  rintro r' rfl env st hp
  obtain rfl:=sm h
  exact hp
def class_types_1 (v1 : List UInt8) : Option (Bool) :=
  (kind_May v1).bind fun v2=>some (!v2)
theorem class_types_1_ok (v1 : List UInt8) {r : Bool} (h : class_types_1 v1 = some r) : PureC Tryz.prog 324 [sA v1,.ipt 1 [[.fn (.func 153) [] []]] 0 0] (bA r):=by
 refine pure_fn Tryz.func324 j0 (by kernel_rfl) j0 j0 ?_
 unfold class_types_1 at h
 refine rg j0<|u<|asg j0<|r_nil ?_
 obtain ⟨v2,q1,h⟩:=bs h
 refine rg j0<|u<|ld ti160 j0 j0<|u<|mv j0<|u<|pc (kind_May_ok v1 q1) j0 j0 j0<|u<|nt j0<|u<|asg j0<|r_nil ?_
 refine sw_ret ?_
 obtain rfl:=sm h
 exact ⟨_,j0,[],ci j0,j0,j5,j0,j1⟩
def slices_IndexFunc_string_string_k2 : Option (Int) :=
  some (-1)
def slices_IndexFunc_string_string_l1 (v1 : List (List UInt8)) (v5 : Int) : Option (Sum (Int) (Sum (Unit) (Int))) :=
  cond (decide (v5 < (List.length v1 : Int))) ((idx v1 v5).bind fun v6=>(class_types_1 v6).bind fun v7=>cond v7 (some (.inr (.inr v5))) (some (.inl (IntKind.i64.wrap (v5 + 1))))) (some (.inr (.inl ())))
def slices_IndexFunc_string_string (v1 : List (List UInt8)) : Option (Int) :=
  (loopP (fun z=>slices_IndexFunc_string_string_l1 v1 z) 0).bind fun o=>leave o (fun b=>slices_IndexFunc_string_string_k2) some
theorem slices_IndexFunc_string_string_ok (v1 : List (List UInt8)) {r : Int} (h : slices_IndexFunc_string_string v1 = some r) : PureC Tryz.prog 181 [.isl 1 (List.map rStr v1),.fn (.func 324) [] [.ipt 1 [[.fn (.func 153) [] []]] 0 0]] (iA r):=by
 refine pure_fn Tryz.func181 j0 (by kernel_rfl) j0 j0 ?_
 unfold slices_IndexFunc_string_string at h
 refine rg j0<|u<|asg j0<|r_nil ?_
 refine sw_seq ?_
 refine rg j0<|u<|mv j0<|u<|lnI ti22 j0 j0<|u<|mv j0<|r_nil ?_
 obtain ⟨o,ho,h⟩:=bs h
 refine sw_lpl (X:=Int) (B:=Unit) (R:=Int) (fun z=>[(0,.isl 1 (List.map rStr v1)),(1,.fn (.func 324) [] [.ipt 1 [[.fn (.func 153) [] []]] 0 0]),(7,iA (List.length v1 : Int)),(8,iA z)]) (fun z=>[]) (fun b=>[]) (fun b=>[]) (fun r env st=>PostF Tryz.prog Tryz.f181 0 (iA r) [] env st) ho ⟨[],ce j0 j0<|ce j0 j0<|ce j0 j0<|ce j0 j0<|cn,j0,j5,j0,j1⟩ ?_ ?_ ?_
 ·
  rintro v5 r h
  replace h : slices_IndexFunc_string_string_l1 v1 v5 = some r:=h
  unfold slices_IndexFunc_string_string_l1 at h
  refine rg j0<|u<|lss ti3 j0 j0<|r_nil ?_
  refine sw_seq ?_
  refine sw_cond j0 (fun hc5=>?_) (fun hc5=>?_)
  ·
   replace h:=bT hc5 h
   refine sw_skip ?_
   refine sw_seq ?_
   refine sw_block ?_
   refine rg j0<|u<|mv j0<|u<|asg j0<|r_nil ?_
   obtain ⟨v6,q6,h⟩:=bs h
   obtain ⟨v7,q7,h⟩:=bs h
   refine rg j0<|u<|mv j0<|u<|mv j0<|u<|mv j0<|u<|ixI ti22 j0 ti9 j0 j0 j0 q6<|u<|ldI ti9 j0 (idx_some q6).2.2 j0<|u<|pc (class_types_1_ok v6 q7) j0 j0 j0<|r_nil ?_
   refine sw_cond j0 (fun hc8=>?_) (fun hc8=>?_)
   ·
    replace h:=bT hc8 h
    refine rg j0<|u<|mv j0<|u<|asg j0<|r_nil ?_
    refine sw_ret ?_
    obtain rfl:=sm h
    exact ⟨_,j0,_,j0,[],ci j0,j0,j5,j0,j1⟩
   ·
    replace h:=bF hc8 h
    refine sw_skip ?_
    refine rl j0<|u<|add ti3 j0 j0<|u<|mv j0<|r_nil ?_
    obtain rfl:=sm h
    exact ⟨_,j0,[],ce j0 j0<|ce j0 j0<|ce j0 j0<|ce j0 j0<|cn,j0,j5,j0,j1⟩
  ·
   replace h:=bF hc5 h
   refine sw_exit ?_
   obtain rfl:=sm h
   exact ⟨j0,_,j0,[],cn,j0,j5,j0,j1⟩
 ·
  rintro ⟨⟩ rfl
  replace h : slices_IndexFunc_string_string_k2 = some r:=h
  unfold slices_IndexFunc_string_string_k2 at h
  refine ow_intro ?_
  refine rg j0<|u<|asg j0<|r_nil ?_
  refine sw_ret ?_
  obtain rfl:=sm h
  exact ⟨_,j0,[],ci j0,j0,j5,j0,j1⟩
 ·
  rintro r' rfl env st hp
  obtain rfl:=sm h
  exact hp
def slices_ContainsFunc_string_string (v1 : List (List UInt8)) : Option (Bool) :=
  (slices_IndexFunc_string_string v1).bind fun v2=>some (decide (0 ≤ v2))
theorem slices_ContainsFunc_string_string_ok (v1 : List (List UInt8)) {r : Bool} (h : slices_ContainsFunc_string_string v1 = some r) : PureC Tryz.prog 99 [.isl 1 (List.map rStr v1),.fn (.func 324) [] [.ipt 1 [[.fn (.func 153) [] []]] 0 0]] (bA r):=by
 refine pure_fn Tryz.func99 j0 (by kernel_rfl) j0 j0 ?_
 unfold slices_ContainsFunc_string_string at h
 refine rg j0<|u<|asg j0<|r_nil ?_
 obtain ⟨v2,q1,h⟩:=bs h
 refine rg j0<|u<|mv j0<|u<|mv j0<|u<|pc (slices_IndexFunc_string_string_ok v1 q1) j0 j0 j0<|u<|geq ti3 j0 j0<|u<|asg j0<|r_nil ?_
 refine sw_ret ?_
 obtain rfl:=sm h
 exact ⟨_,j0,[],ci j0,j0,j5,j0,j1⟩
def class_types (v1 : List (List UInt8)) : Option (Bool) :=
  (slices_ContainsFunc_string_string v1).bind fun v2=>some (!v2)
theorem class_types_ok (v1 : List (List UInt8)) {r : Bool} (h : class_types v1 = some r) : PureC Tryz.prog 241 [.isl 1 (List.map rStr v1),.fn (.func 153) [] []] (bA r):=by
 refine pure_fn Tryz.func241 j0 (by kernel_rfl) j0 j0 ?_
 unfold class_types at h
 refine rg j0<|u<|bx 0 1 j0 j0 j0 j0<|u<|asg j0<|r_nil ?_
 obtain ⟨v2,q1,h⟩:=bs h
 refine rg j0<|u<|mv j0<|u<|mf j0 j0<|u<|pcs (slices_ContainsFunc_string_string_ok v1 q1) j0 j0 (.cons (si j0) (.cons (sealFn j5 ⟨(sealBox j0 ⟨(si j0),j5⟩),j5⟩) .nil)) plainB<|u<|nt j0<|u<|asg j0<|r_nil ?_
 refine sw_ret ?_
 obtain rfl:=sm h
 exact ⟨_,j0,[],ci j0,j0,j5,j0,j1⟩
def class_empty (v1 : ApiMethod) : Bool :=
  (((((!v1.Static) && (!(v1.Name == [36,105,110,105,116]))) && (v1.Locals == (0 : Int))) && (v1.Stack == (0 : Int))) && ((IntKind.i64.wrap ((IntKind.i64.wrap ((List.length v1.Code : Int) + (List.length v1.Maps : Int))) + (List.length v1.Traps : Int))) == (0 : Int)))
theorem class_empty_ok (v1 : ApiMethod) {r : Bool} (h : class_empty v1 = r) : PureC Tryz.prog 243 [.agg [sA v1.Name,.isl 1 (List.map rStr v1.Params),sA v1.Ret,bA v1.Static,bA v1.Abstract,iA v1.Locals,iA v1.Stack,.isl 4 (List.map rApiIns v1.Code),.isl 3 (List.map rApiMap v1.Maps),.isl 4 (List.map rApiTrap v1.Traps)]] (bA r):=by
 refine pure_fn Tryz.func243 j0 (by kernel_rfl) j0 j0 ?_
 unfold class_empty at h
 refine rg j0<|u<|bx 0 10 j0 j0 j0 j0<|u<|asg j0<|r_nil ?_
 refine rg j0<|u<|fa ti38 j0 j0 j0<|u<|ld ti4 j0 j0<|u<|nt j0<|u<|mv j0<|r_and (j:=3) 3 j0 j0 j0 j0 j0 gpn (fun hb1=>g j0 hb1<|fa ti38 j0 j0 j0<|g j0 hb1<|ld ti9 j0 j0<|g j0 hb1<|sne ti9 j0 j0<|r_nil (egA [7,8,9] 3 hb1 j0 j0 j0 j0)) andF<|u<|mv j0<|r_and (j:=8) 3 j0 j0 j0 j0 j0 gpn (fun hb2=>g j0 hb2<|fa ti38 j0 j0 j0<|g j0 hb2<|ld ti3 j0 j0<|g j0 hb2<|eql ti3 j0 j0<|r_nil (egA [12,13,14] 3 hb2 j0 j0 j0 j0)) andF<|u<|mv j0<|r_and (j:=13) 3 j0 j0 j0 j0 j0 gpn (fun hb3=>g j0 hb3<|fa ti38 j0 j0 j0<|g j0 hb3<|ld ti3 j0 j0<|g j0 hb3<|eql ti3 j0 j0<|r_nil (egA [17,18,19] 3 hb3 j0 j0 j0 j0)) andF<|u<|mv j0<|r_and (j:=18) 12 j0 j0 j0 j0 j0 gpn (fun hb4=>g j0 hb4<|fa ti38 j0 j0 j0<|g j0 hb4<|ld ti34 j0 j0<|g j0 hb4<|lnI ti34 j0 j0<|g j0 hb4<|fa ti38 j0 j0 j0<|g j0 hb4<|ld ti35 j0 j0<|g j0 hb4<|lnI ti35 j0 j0<|g j0 hb4<|add ti3 j0 j0<|g j0 hb4<|fa ti38 j0 j0 j0<|g j0 hb4<|ld ti36 j0 j0<|g j0 hb4<|lnI ti36 j0 j0<|g j0 hb4<|add ti3 j0 j0<|g j0 hb4<|eql ti3 j0 j0<|r_nil (egA [22,23,24,25,26,27,28,29,30,31,32,33] 12 hb4 j0 j0 j0 j0)) andF<|u<|asg j0<|r_nil ?_
 refine sw_ret ?_
 obtain rfl:=h
 exact ⟨_,j0,[],ci j0,j0,j5,j0,j1⟩
def class_args (v1 : ApiMethod) : Int :=
  cond v1.Static ((List.length v1.Params : Int)) ((IntKind.i64.wrap ((List.length v1.Params : Int) + 1)))
theorem class_args_ok (v1 : ApiMethod) {r : Int} (h : class_args v1 = r) : PureC Tryz.prog 245 [.agg [sA v1.Name,.isl 1 (List.map rStr v1.Params),sA v1.Ret,bA v1.Static,bA v1.Abstract,iA v1.Locals,iA v1.Stack,.isl 4 (List.map rApiIns v1.Code),.isl 3 (List.map rApiMap v1.Maps),.isl 4 (List.map rApiTrap v1.Traps)]] (iA r):=by
 refine pure_fn Tryz.func245 j0 (by kernel_rfl) j0 j0 ?_
 unfold class_args at h
 refine rg j0<|u<|bx 0 10 j0 j0 j0 j0<|u<|asg j0<|r_nil ?_
 refine sw_seq ?_
 refine rg j0<|u<|fa ti38 j0 j0 j0<|u<|ld ti4 j0 j0<|r_nil ?_
 refine sw_cond j0 (fun hc1=>?_) (fun hc1=>?_)
 ·
  replace h:=bT hc1 h
  refine rg j0<|u<|fa ti38 j0 j0 j0<|u<|ld ti22 j0 j0<|u<|lnI ti22 j0 j0<|u<|asg j0<|r_nil ?_
  refine sw_ret ?_
  obtain rfl:=h
  exact ⟨_,j0,[],ci j0,j0,j5,j0,j1⟩
 ·
  replace h:=bF hc1 h
  refine sw_skip ?_
  refine rg j0<|u<|fa ti38 j0 j0 j0<|u<|ld ti22 j0 j0<|u<|lnI ti22 j0 j0<|u<|add ti3 j0 j0<|u<|asg j0<|r_nil ?_
  refine sw_ret ?_
  obtain rfl:=h
  exact ⟨_,j0,[],ci j0,j0,j5,j0,j1⟩
def class_between (v1 : Int) (v2 : Int) (v3 : Int) : Bool :=
  ((decide (v2 ≤ v1)) && (decide (v1 ≤ v3)))
theorem class_between_ok (v1 : Int) (v2 : Int) (v3 : Int) {r : Bool} (h : class_between v1 v2 v3 = r) : PureC Tryz.prog 244 [iA v1,iA v2,iA v3] (bA r):=by
 refine pure_fn Tryz.func244 j0 (by kernel_rfl) j0 j0 ?_
 unfold class_between at h
 refine rg j0<|u<|asg j0<|r_nil ?_
 refine rg j0<|u<|mv j0<|u<|mv j0<|u<|geq ti3 j0 j0<|u<|mv j0<|r_and (j:=3) 3 j0 j0 j0 j0 j0 gpn (fun hb1=>g j0 hb1<|mv j0<|g j0 hb1<|mv j0<|g j0 hb1<|leq ti3 j0 j0<|r_nil (egA [11,12,13] 3 hb1 j0 j0 j0 j0)) andF<|u<|asg j0<|r_nil ?_
 refine sw_ret ?_
 obtain rfl:=h
 exact ⟨_,j0,[],ci j0,j0,j5,j0,j1⟩
def class_instructions_1 (v1 : ApiIns) (v2 : Int) : Option (Bool) :=
  (op_May v1).bind fun v3=>some ((!v3) || ((op_Jumps v1.Op) && (decide (v2 ≤ v1.A))))
theorem class_instructions_1_ok (v1 : ApiIns) (v2 : Int) {r : Bool} (h : class_instructions_1 v1 v2 = some r) : PureC Tryz.prog 325 [.agg [iA v1.Op,iA v1.A,sA v1.C,sA v1.M],.ipt 1 [[iA v2]] 0 0] (bA r):=by
 refine pure_fn Tryz.func325 j0 (by kernel_rfl) j0 j0 ?_
 unfold class_instructions_1 at h
 refine rg j0<|u<|bx 0 4 j0 j0 j0 j0<|u<|asg j0<|r_nil ?_
 obtain ⟨v3,q1,h⟩:=bs h
 refine rg j0<|u<|ld ti40 j0 j0<|u<|pc (op_May_ok v1 q1) j0 j0 j0<|u<|nt j0<|u<|mv j0<|r_or (j:=3) 9 j0 j0 j0 j0 j0 gpn (fun hb2=>g j0 hb2<|fa ti40 j0 j0 j0<|g j0 hb2<|ld ti3 j0 j0<|g j0 hb2<|pc (op_Jumps_ok v1.Op j0) j0 j0 j0<|g j0 hb2<|mv j0<|r_and (j:=7) 4 j0 j0 j0 j0 j0 (gps j0 j0 hb2) (fun hb3=>g j0 hb3<|fa ti40 j0 j0 j0<|g j0 hb3<|ld ti3 j0 j0<|g j0 hb3<|ld ti3 j0 j0<|g j0 hb3<|geq ti3 j0 j0<|r_nil (egA [12,13,14,15] 4 hb3 j0 j0 j0 j0)) andF<|r_nil (egO [8,9,10,11,12,13,14,15,16] 5 hb2 j0 j0 j0 j0)) orT<|u<|asg j0<|r_nil ?_
 refine sw_ret ?_
 obtain rfl:=sm h
 exact ⟨_,j0,[],ci j0,j0,j5,j0,j1⟩
def slices_IndexFunc_api_Ins_api_Ins_k2 : Option (Int) :=
  some (-1)
def slices_IndexFunc_api_Ins_api_Ins_l1 (v1 : List ApiIns) (v2 : Int) (v6 : Int) : Option (Sum (Int) (Sum (Unit) (Int))) :=
  cond (decide (v6 < (List.length v1 : Int))) ((idx v1 v6).bind fun v7=>(class_instructions_1 v7 v2).bind fun v8=>cond v8 (some (.inr (.inr v6))) (some (.inl (IntKind.i64.wrap (v6 + 1))))) (some (.inr (.inl ())))
def slices_IndexFunc_api_Ins_api_Ins (v1 : List ApiIns) (v2 : Int) : Option (Int) :=
  (loopP (fun z=>slices_IndexFunc_api_Ins_api_Ins_l1 v1 v2 z) 0).bind fun o=>leave o (fun b=>slices_IndexFunc_api_Ins_api_Ins_k2) some
theorem slices_IndexFunc_api_Ins_api_Ins_ok (v1 : List ApiIns) (v2 : Int) {r : Int} (h : slices_IndexFunc_api_Ins_api_Ins v1 v2 = some r) : PureC Tryz.prog 349 [.isl 4 (List.map rApiIns v1),.fn (.func 325) [] [.ipt 1 [[iA v2]] 0 0]] (iA r):=by
 refine pure_fn Tryz.func349 j0 (by kernel_rfl) j0 j0 ?_
 unfold slices_IndexFunc_api_Ins_api_Ins at h
 refine rg j0<|u<|asg j0<|r_nil ?_
 refine sw_seq ?_
 refine rg j0<|u<|mv j0<|u<|lnI ti34 j0 j0<|u<|mv j0<|r_nil ?_
 obtain ⟨o,ho,h⟩:=bs h
 refine sw_lpl (X:=Int) (B:=Unit) (R:=Int) (fun z=>[(0,.isl 4 (List.map rApiIns v1)),(1,.fn (.func 325) [] [.ipt 1 [[iA v2]] 0 0]),(7,iA (List.length v1 : Int)),(8,iA z)]) (fun z=>[]) (fun b=>[]) (fun b=>[]) (fun r env st=>PostF Tryz.prog Tryz.f349 0 (iA r) [] env st) ho ⟨[],ce j0 j0<|ce j0 j0<|ce j0 j0<|ce j0 j0<|cn,j0,j5,j0,j1⟩ ?_ ?_ ?_
 ·
  rintro v6 r h
  replace h : slices_IndexFunc_api_Ins_api_Ins_l1 v1 v2 v6 = some r:=h
  unfold slices_IndexFunc_api_Ins_api_Ins_l1 at h
  refine rg j0<|u<|lss ti3 j0 j0<|r_nil ?_
  refine sw_seq ?_
  refine sw_cond j0 (fun hc5=>?_) (fun hc5=>?_)
  ·
   replace h:=bT hc5 h
   refine sw_skip ?_
   refine sw_seq ?_
   refine sw_block ?_
   refine rg j0<|u<|mv j0<|u<|asg j0<|r_nil ?_
   obtain ⟨v7,q6,h⟩:=bs h
   obtain ⟨v8,q7,h⟩:=bs h
   refine rg j0<|u<|mv j0<|u<|mv j0<|u<|mv j0<|u<|ixI ti34 j0 ti40 j0 j0 j0 q6<|u<|ldI ti40 j0 (idx_some q6).2.2 j0<|u<|pc (class_instructions_1_ok v7 v2 q7) j0 j0 j0<|r_nil ?_
   refine sw_cond j0 (fun hc8=>?_) (fun hc8=>?_)
   ·
    replace h:=bT hc8 h
    refine rg j0<|u<|mv j0<|u<|asg j0<|r_nil ?_
    refine sw_ret ?_
    obtain rfl:=sm h
    exact ⟨_,j0,_,j0,[],ci j0,j0,j5,j0,j1⟩
   ·
    replace h:=bF hc8 h
    refine sw_skip ?_
    refine rl j0<|u<|add ti3 j0 j0<|u<|mv j0<|r_nil ?_
    obtain rfl:=sm h
    exact ⟨_,j0,[],ce j0 j0<|ce j0 j0<|ce j0 j0<|ce j0 j0<|cn,j0,j5,j0,j1⟩
  ·
   replace h:=bF hc5 h
   refine sw_exit ?_
   obtain rfl:=sm h
   exact ⟨j0,_,j0,[],cn,j0,j5,j0,j1⟩
 ·
  rintro ⟨⟩ rfl
  replace h : slices_IndexFunc_api_Ins_api_Ins_k2 = some r:=h
  unfold slices_IndexFunc_api_Ins_api_Ins_k2 at h
  refine ow_intro ?_
  refine rg j0<|u<|asg j0<|r_nil ?_
  refine sw_ret ?_
  obtain rfl:=sm h
  exact ⟨_,j0,[],ci j0,j0,j5,j0,j1⟩
 ·
  rintro r' rfl env st hp
  obtain rfl:=sm h
  exact hp
def slices_ContainsFunc_api_Ins_api_Ins (v1 : List ApiIns) (v2 : Int) : Option (Bool) :=
  (slices_IndexFunc_api_Ins_api_Ins v1 v2).bind fun v3=>some (decide (0 ≤ v3))
theorem slices_ContainsFunc_api_Ins_api_Ins_ok (v1 : List ApiIns) (v2 : Int) {r : Bool} (h : slices_ContainsFunc_api_Ins_api_Ins v1 v2 = some r) : PureC Tryz.prog 304 [.isl 4 (List.map rApiIns v1),.fn (.func 325) [] [.ipt 1 [[iA v2]] 0 0]] (bA r):=by
 refine pure_fn Tryz.func304 j0 (by kernel_rfl) j0 j0 ?_
 unfold slices_ContainsFunc_api_Ins_api_Ins at h
 refine rg j0<|u<|asg j0<|r_nil ?_
 obtain ⟨v3,q1,h⟩:=bs h
 refine rg j0<|u<|mv j0<|u<|mv j0<|u<|pc (slices_IndexFunc_api_Ins_api_Ins_ok v1 v2 q1) j0 j0 j0<|u<|geq ti3 j0 j0<|u<|asg j0<|r_nil ?_
 refine sw_ret ?_
 obtain rfl:=sm h
 exact ⟨_,j0,[],ci j0,j0,j5,j0,j1⟩
def class_instructions (v1 : ApiMethod) : Option (Bool) :=
  (cond (!(class_between (List.length v1.Code : Int) 1 100)) (some true) ((idx v1.Code (IntKind.i64.wrap ((List.length v1.Code : Int) - 1))).bind fun v2=>some (!(op_Ends v2.Op)))).bind fun v3=>cond v3 (some false) ((slices_ContainsFunc_api_Ins_api_Ins v1.Code (List.length v1.Code : Int)).bind fun v4=>some (!v4))
theorem class_instructions_ok (v1 : ApiMethod) {r : Bool} (h : class_instructions v1 = some r) : PureC Tryz.prog 246 [.agg [sA v1.Name,.isl 1 (List.map rStr v1.Params),sA v1.Ret,bA v1.Static,bA v1.Abstract,iA v1.Locals,iA v1.Stack,.isl 4 (List.map rApiIns v1.Code),.isl 3 (List.map rApiMap v1.Maps),.isl 4 (List.map rApiTrap v1.Traps)]] (bA r):=by
 refine pure_fn Tryz.func246 j0 (by kernel_rfl) j0 j0 ?_
 unfold class_instructions at h
 refine rg j0<|u<|bx 0 10 j0 j0 j0 j0<|u<|asg j0<|r_nil ?_
 refine rg j0<|u<|fa ti38 j0 j0 j0<|u<|ld ti34 j0 j0<|u<|lnI ti34 j0 j0<|u<|al 1 ti3 j0<|u<|sto ti3 j0 j0 j0<|r_nil ?_
 refine sw_seq ?_
 obtain ⟨v3,q3,h⟩:=bs h
 refine rg j0<|u<|ld ti3 j0 j0<|u<|pc (class_between_ok (List.length v1.Code : Int) 1 100 j0) j0 j0 j0<|u<|nt j0<|u<|mv j0<|r_or (x:=v3) (j:=3) 9 j0 j0 j0 j0 j0 gpn (fun hb1=>by replace q3:=bF hb1 q3; obtain ⟨v2,q2,q3⟩:=bs q3; obtain rfl:=sm q3; exact g j0 hb1<|fa ti38 j0 j0 j0<|g j0 hb1<|ld ti34 j0 j0<|g j0 hb1<|ld ti3 j0 j0<|g j0 hb1<|sub ti3 j0 j0<|g j0 hb1<|ixI ti34 j0 ti40 j0 j0 j0 q2<|g j0 hb1<|fa ti40 j0 j0 j0<|g j0 hb1<|ldI ti3 j0 (idx_some q2).2.2 j0<|g j0 hb1<|pc (op_Ends_ok v2.Op j0) j0 j0 j0<|g j0 hb1<|nt j0<|r_nil (eg [11,12,13,14,15,16,17,18,19] 9 j0 j0 j0 j0)) (fun hb=>(sm (bT hb q3)).symm)<|r_nil ?_
 refine sw_cond j0 (fun hc4=>?_) (fun hc4=>?_)
 ·
  replace h:=bT hc4 h
  refine rg j0<|u<|asg j0<|r_nil ?_
  refine sw_ret ?_
  obtain rfl:=sm h
  exact ⟨_,j0,[],ci j0,j0,j5,j0,j1⟩
 ·
  replace h:=bF hc4 h
  refine sw_skip ?_
  obtain ⟨v4,q5,h⟩:=bs h
  refine rg j0<|u<|fa ti38 j0 j0 j0<|u<|ld ti34 j0 j0<|u<|mf j0 j0<|u<|pcs (slices_ContainsFunc_api_Ins_api_Ins_ok v1.Code (List.length v1.Code : Int) q5) j0 j0 (.cons (si j0) (.cons (sealFn j5 ⟨(sealBox j0 ⟨(si j0),j5⟩),j5⟩) .nil)) plainB<|u<|nt j0<|u<|asg j0<|r_nil ?_
  refine sw_ret ?_
  obtain rfl:=sm h
  exact ⟨_,j0,[],ci j0,j0,j5,j0,j1⟩
def class_slot (v1 : List UInt8) : Option (Bool) :=
  (cond (((v1 == [73]) || (v1 == [78])) || (v1 == [84])) (some true) ((kind_Ref v1).bind fun v2=>some v2)).bind fun v3=>some v3
theorem class_slot_ok (v1 : List UInt8) {r : Bool} (h : class_slot v1 = some r) : PureC Tryz.prog 327 [sA v1] (bA r):=by
 refine pure_fn Tryz.func327 j0 (by kernel_rfl) j0 j0 ?_
 unfold class_slot at h
 refine rg j0<|u<|asg j0<|r_nil ?_
 obtain ⟨v3,q5,h⟩:=bs h
 refine rg j0<|u<|mv j0<|u<|seq ti9 j0 j0<|u<|mv j0<|r_or (j:=2) 2 j0 j0 j0 j0 j0 gpn (fun hb1=>g j0 hb1<|mv j0<|g j0 hb1<|seq ti9 j0 j0<|r_nil (egO [6,7] 2 hb1 j0 j0 j0 j0)) orT<|u<|mv j0<|r_or (j:=6) 2 j0 j0 j0 j0 j0 gpn (fun hb2=>g j0 hb2<|mv j0<|g j0 hb2<|seq ti9 j0 j0<|r_nil (egO [10,11] 2 hb2 j0 j0 j0 j0)) orT<|u<|mv j0<|r_or (x:=v3) (j:=10) 2 j0 j0 j0 j0 j0 gpn (fun hb3=>by replace q5:=bF hb3 q5; obtain ⟨v2,q4,q5⟩:=bs q5; obtain rfl:=sm q5; exact g j0 hb3<|mv j0<|g j0 hb3<|pc (kind_Ref_ok v1 q4) j0 j0 j0<|r_nil (eg [14,15] 2 j0 j0 j0 j0)) (fun hb=>(sm (bT hb q5)).symm)<|u<|asg j0<|r_nil ?_
 refine sw_ret ?_
 obtain rfl:=sm h
 exact ⟨_,j0,[],ci j0,j0,j5,j0,j1⟩
def class_types_1_s2 (v1 : List UInt8) : Option (Bool) :=
  (class_slot v1).bind fun v2=>some (!v2)
theorem class_types_1_s2_ok (v1 : List UInt8) {r : Bool} (h : class_types_1_s2 v1 = some r) : PureC Tryz.prog 324 [sA v1,.ipt 1 [[.fn (.func 327) [] []]] 0 0] (bA r):=by
 refine pure_fn Tryz.func324 j0 (by kernel_rfl) j0 j0 ?_
 unfold class_types_1_s2 at h
 refine rg j0<|u<|asg j0<|r_nil ?_
 obtain ⟨v2,q1,h⟩:=bs h
 refine rg j0<|u<|ld ti160 j0 j0<|u<|mv j0<|u<|pc (class_slot_ok v1 q1) j0 j0 j0<|u<|nt j0<|u<|asg j0<|r_nil ?_
 refine sw_ret ?_
 obtain rfl:=sm h
 exact ⟨_,j0,[],ci j0,j0,j5,j0,j1⟩
def slices_IndexFunc_string_string_s2_k2 : Option (Int) :=
  some (-1)
def slices_IndexFunc_string_string_s2_l1 (v1 : List (List UInt8)) (v5 : Int) : Option (Sum (Int) (Sum (Unit) (Int))) :=
  cond (decide (v5 < (List.length v1 : Int))) ((idx v1 v5).bind fun v6=>(class_types_1_s2 v6).bind fun v7=>cond v7 (some (.inr (.inr v5))) (some (.inl (IntKind.i64.wrap (v5 + 1))))) (some (.inr (.inl ())))
def slices_IndexFunc_string_string_s2 (v1 : List (List UInt8)) : Option (Int) :=
  (loopP (fun z=>slices_IndexFunc_string_string_s2_l1 v1 z) 0).bind fun o=>leave o (fun b=>slices_IndexFunc_string_string_s2_k2) some
theorem slices_IndexFunc_string_string_s2_ok (v1 : List (List UInt8)) {r : Int} (h : slices_IndexFunc_string_string_s2 v1 = some r) : PureC Tryz.prog 181 [.isl 1 (List.map rStr v1),.fn (.func 324) [] [.ipt 1 [[.fn (.func 327) [] []]] 0 0]] (iA r):=by
 refine pure_fn Tryz.func181 j0 (by kernel_rfl) j0 j0 ?_
 unfold slices_IndexFunc_string_string_s2 at h
 refine rg j0<|u<|asg j0<|r_nil ?_
 refine sw_seq ?_
 refine rg j0<|u<|mv j0<|u<|lnI ti22 j0 j0<|u<|mv j0<|r_nil ?_
 obtain ⟨o,ho,h⟩:=bs h
 refine sw_lpl (X:=Int) (B:=Unit) (R:=Int) (fun z=>[(0,.isl 1 (List.map rStr v1)),(1,.fn (.func 324) [] [.ipt 1 [[.fn (.func 327) [] []]] 0 0]),(7,iA (List.length v1 : Int)),(8,iA z)]) (fun z=>[]) (fun b=>[]) (fun b=>[]) (fun r env st=>PostF Tryz.prog Tryz.f181 0 (iA r) [] env st) ho ⟨[],ce j0 j0<|ce j0 j0<|ce j0 j0<|ce j0 j0<|cn,j0,j5,j0,j1⟩ ?_ ?_ ?_
 ·
  rintro v5 r h
  replace h : slices_IndexFunc_string_string_s2_l1 v1 v5 = some r:=h
  unfold slices_IndexFunc_string_string_s2_l1 at h
  refine rg j0<|u<|lss ti3 j0 j0<|r_nil ?_
  refine sw_seq ?_
  refine sw_cond j0 (fun hc5=>?_) (fun hc5=>?_)
  ·
   replace h:=bT hc5 h
   refine sw_skip ?_
   refine sw_seq ?_
   refine sw_block ?_
   refine rg j0<|u<|mv j0<|u<|asg j0<|r_nil ?_
   obtain ⟨v6,q6,h⟩:=bs h
   obtain ⟨v7,q7,h⟩:=bs h
   refine rg j0<|u<|mv j0<|u<|mv j0<|u<|mv j0<|u<|ixI ti22 j0 ti9 j0 j0 j0 q6<|u<|ldI ti9 j0 (idx_some q6).2.2 j0<|u<|pc (class_types_1_s2_ok v6 q7) j0 j0 j0<|r_nil ?_
   refine sw_cond j0 (fun hc8=>?_) (fun hc8=>?_)
   ·
    replace h:=bT hc8 h
    refine rg j0<|u<|mv j0<|u<|asg j0<|r_nil ?_
    refine sw_ret ?_
    obtain rfl:=sm h
    exact ⟨_,j0,_,j0,[],ci j0,j0,j5,j0,j1⟩
   ·
    replace h:=bF hc8 h
    refine sw_skip ?_
    refine rl j0<|u<|add ti3 j0 j0<|u<|mv j0<|r_nil ?_
    obtain rfl:=sm h
    exact ⟨_,j0,[],ce j0 j0<|ce j0 j0<|ce j0 j0<|ce j0 j0<|cn,j0,j5,j0,j1⟩
  ·
   replace h:=bF hc5 h
   refine sw_exit ?_
   obtain rfl:=sm h
   exact ⟨j0,_,j0,[],cn,j0,j5,j0,j1⟩
 ·
  rintro ⟨⟩ rfl
  replace h : slices_IndexFunc_string_string_s2_k2 = some r:=h
  unfold slices_IndexFunc_string_string_s2_k2 at h
  refine ow_intro ?_
  refine rg j0<|u<|asg j0<|r_nil ?_
  refine sw_ret ?_
  obtain rfl:=sm h
  exact ⟨_,j0,[],ci j0,j0,j5,j0,j1⟩
 ·
  rintro r' rfl env st hp
  obtain rfl:=sm h
  exact hp
def slices_ContainsFunc_string_string_s2 (v1 : List (List UInt8)) : Option (Bool) :=
  (slices_IndexFunc_string_string_s2 v1).bind fun v2=>some (decide (0 ≤ v2))
theorem slices_ContainsFunc_string_string_s2_ok (v1 : List (List UInt8)) {r : Bool} (h : slices_ContainsFunc_string_string_s2 v1 = some r) : PureC Tryz.prog 99 [.isl 1 (List.map rStr v1),.fn (.func 324) [] [.ipt 1 [[.fn (.func 327) [] []]] 0 0]] (bA r):=by
 refine pure_fn Tryz.func99 j0 (by kernel_rfl) j0 j0 ?_
 unfold slices_ContainsFunc_string_string_s2 at h
 refine rg j0<|u<|asg j0<|r_nil ?_
 obtain ⟨v2,q1,h⟩:=bs h
 refine rg j0<|u<|mv j0<|u<|mv j0<|u<|pc (slices_IndexFunc_string_string_s2_ok v1 q1) j0 j0 j0<|u<|geq ti3 j0 j0<|u<|asg j0<|r_nil ?_
 refine sw_ret ?_
 obtain rfl:=sm h
 exact ⟨_,j0,[],ci j0,j0,j5,j0,j1⟩
def class_types_s2 (v1 : List (List UInt8)) : Option (Bool) :=
  (slices_ContainsFunc_string_string_s2 v1).bind fun v2=>some (!v2)
theorem class_types_s2_ok (v1 : List (List UInt8)) {r : Bool} (h : class_types_s2 v1 = some r) : PureC Tryz.prog 241 [.isl 1 (List.map rStr v1),.fn (.func 327) [] []] (bA r):=by
 refine pure_fn Tryz.func241 j0 (by kernel_rfl) j0 j0 ?_
 unfold class_types_s2 at h
 refine rg j0<|u<|bx 0 1 j0 j0 j0 j0<|u<|asg j0<|r_nil ?_
 obtain ⟨v2,q1,h⟩:=bs h
 refine rg j0<|u<|mv j0<|u<|mf j0 j0<|u<|pcs (slices_ContainsFunc_string_string_s2_ok v1 q1) j0 j0 (.cons (si j0) (.cons (sealFn j5 ⟨(sealBox j0 ⟨(si j0),j5⟩),j5⟩) .nil)) plainB<|u<|nt j0<|u<|asg j0<|r_nil ?_
 refine sw_ret ?_
 obtain rfl:=sm h
 exact ⟨_,j0,[],ci j0,j0,j5,j0,j1⟩
def slices_Index_string_string_k2 : Option (Int) :=
  some (-1)
def slices_Index_string_string_l1 (v1 : List (List UInt8)) (v2 : List UInt8) (v5 : Int) : Option (Sum (Int) (Sum (Unit) (Int))) :=
  cond (decide (v5 < (List.length v1 : Int))) ((idx v1 v5).bind fun v6=>cond (v2 == v6) (some (.inr (.inr v5))) (some (.inl (IntKind.i64.wrap (v5 + 1))))) (some (.inr (.inl ())))
def slices_Index_string_string (v1 : List (List UInt8)) (v2 : List UInt8) : Option (Int) :=
  (loopP (fun z=>slices_Index_string_string_l1 v1 v2 z) 0).bind fun o=>leave o (fun b=>slices_Index_string_string_k2) some
theorem slices_Index_string_string_ok (v1 : List (List UInt8)) (v2 : List UInt8) {r : Int} (h : slices_Index_string_string v1 v2 = some r) : PureC Tryz.prog 131 [.isl 1 (List.map rStr v1),sA v2] (iA r):=by
 refine pure_fn Tryz.func131 j0 (by kernel_rfl) j0 j0 ?_
 unfold slices_Index_string_string at h
 refine rg j0<|u<|asg j0<|r_nil ?_
 refine sw_seq ?_
 refine rg j0<|u<|mv j0<|u<|lnI ti22 j0 j0<|u<|mv j0<|r_nil ?_
 obtain ⟨o,ho,h⟩:=bs h
 refine sw_lpl (X:=Int) (B:=Unit) (R:=Int) (fun z=>[(0,.isl 1 (List.map rStr v1)),(1,sA v2),(7,iA (List.length v1 : Int)),(8,iA z)]) (fun z=>[]) (fun b=>[]) (fun b=>[]) (fun r env st=>PostF Tryz.prog Tryz.f131 0 (iA r) [] env st) ho ⟨[],ce j0 j0<|ce j0 j0<|ce j0 j0<|ce j0 j0<|cn,j0,j5,j0,j1⟩ ?_ ?_ ?_
 ·
  rintro v5 r h
  replace h : slices_Index_string_string_l1 v1 v2 v5 = some r:=h
  unfold slices_Index_string_string_l1 at h
  refine rg j0<|u<|lss ti3 j0 j0<|r_nil ?_
  refine sw_seq ?_
  refine sw_cond j0 (fun hc4=>?_) (fun hc4=>?_)
  ·
   replace h:=bT hc4 h
   refine sw_skip ?_
   refine sw_seq ?_
   refine sw_block ?_
   refine rg j0<|u<|mv j0<|u<|asg j0<|r_nil ?_
   obtain ⟨v6,q5,h⟩:=bs h
   refine rg j0<|u<|mv j0<|u<|mv j0<|u<|mv j0<|u<|ixI ti22 j0 ti9 j0 j0 j0 q5<|u<|ldI ti9 j0 (idx_some q5).2.2 j0<|u<|seq ti9 j0 j0<|r_nil ?_
   refine sw_cond j0 (fun hc6=>?_) (fun hc6=>?_)
   ·
    replace h:=bT hc6 h
    refine rg j0<|u<|mv j0<|u<|asg j0<|r_nil ?_
    refine sw_ret ?_
    obtain rfl:=sm h
    exact ⟨_,j0,_,j0,[],ci j0,j0,j5,j0,j1⟩
   ·
    replace h:=bF hc6 h
    refine sw_skip ?_
    refine rl j0<|u<|add ti3 j0 j0<|u<|mv j0<|r_nil ?_
    obtain rfl:=sm h
    exact ⟨_,j0,[],ce j0 j0<|ce j0 j0<|ce j0 j0<|ce j0 j0<|cn,j0,j5,j0,j1⟩
  ·
   replace h:=bF hc4 h
   refine sw_exit ?_
   obtain rfl:=sm h
   exact ⟨j0,_,j0,[],cn,j0,j5,j0,j1⟩
 ·
  rintro ⟨⟩ rfl
  replace h : slices_Index_string_string_k2 = some r:=h
  unfold slices_Index_string_string_k2 at h
  refine ow_intro ?_
  refine rg j0<|u<|asg j0<|r_nil ?_
  refine sw_ret ?_
  obtain rfl:=sm h
  exact ⟨_,j0,[],ci j0,j0,j5,j0,j1⟩
 ·
  rintro r' rfl env st hp
  obtain rfl:=sm h
  exact hp
def slices_Contains_string_string (v1 : List (List UInt8)) (v2 : List UInt8) : Option (Bool) :=
  (slices_Index_string_string v1 v2).bind fun v3=>some (decide (0 ≤ v3))
theorem slices_Contains_string_string_ok (v1 : List (List UInt8)) (v2 : List UInt8) {r : Bool} (h : slices_Contains_string_string v1 v2 = some r) : PureC Tryz.prog 136 [.isl 1 (List.map rStr v1),sA v2] (bA r):=by
 refine pure_fn Tryz.func136 j0 (by kernel_rfl) j0 j0 ?_
 unfold slices_Contains_string_string at h
 refine rg j0<|u<|asg j0<|r_nil ?_
 obtain ⟨v3,q1,h⟩:=bs h
 refine rg j0<|u<|mv j0<|u<|mv j0<|u<|pc (slices_Index_string_string_ok v1 v2 q1) j0 j0 j0<|u<|geq ti3 j0 j0<|u<|asg j0<|r_nil ?_
 refine sw_ret ?_
 obtain rfl:=sm h
 exact ⟨_,j0,[],ci j0,j0,j5,j0,j1⟩
def class_maps_k4 (v1 : ApiMethod) : Option (Bool) :=
  some (decide ((List.length v1.Maps : Int) ≤ 100))
def class_maps_j2 (v1 : ApiMethod) (v12 : Int) (v13 : ApiMap) (v15 : Bool) : Option (Sum (Int) (Sum (Unit) (Bool))) :=
  cond v15 (some (.inr (.inr false))) ((cond ((!((List.length v13.Locals : Int) == v1.Locals)) || (decide (v1.Stack < (List.length v13.Stack : Int)))) (some true) ((class_types_s2 v13.Locals).bind fun v16=>some (!v16))).bind fun v17=>(cond v17 (some true) ((class_types_s2 v13.Stack).bind fun v18=>some (!v18))).bind fun v19=>(cond v19 (some true) ((slices_Contains_string_string v13.Stack [84]).bind fun v20=>some v20)).bind fun v21=>cond v21 (some (.inr (.inr false))) (some (.inl (IntKind.i64.wrap (v12 + 1)))))
def class_maps_l3 (v1 : ApiMethod) (v12 : Int) : Option (Sum (Int) (Sum (Unit) (Bool))) :=
  cond (decide (v12 < (List.length v1.Maps : Int))) ((idx v1.Maps v12).bind fun v13=>cond (!(class_between v13.At 0 (IntKind.i64.wrap ((List.length v1.Code : Int) - 1)))) (class_maps_j2 v1 v12 v13 true) (cond (decide (0 < v12)) ((idx v1.Maps (IntKind.i64.wrap (v12 - 1))).bind fun v14=>class_maps_j2 v1 v12 v13 (decide (v13.At ≤ v14.At))) (class_maps_j2 v1 v12 v13 false))) (some (.inr (.inl ())))
def class_maps (v1 : ApiMethod) : Option (Bool) :=
  (loopP (fun z=>class_maps_l3 v1 z) 0).bind fun o=>leave o (fun b=>class_maps_k4 v1) some
theorem class_maps_ok (v1 : ApiMethod) {r : Bool} (h : class_maps v1 = some r) : PureC Tryz.prog 247 [.agg [sA v1.Name,.isl 1 (List.map rStr v1.Params),sA v1.Ret,bA v1.Static,bA v1.Abstract,iA v1.Locals,iA v1.Stack,.isl 4 (List.map rApiIns v1.Code),.isl 3 (List.map rApiMap v1.Maps),.isl 4 (List.map rApiTrap v1.Traps)]] (bA r):=by
 refine pure_fn Tryz.func247 j0 (by kernel_rfl) j0 j0 ?_
 unfold class_maps at h
 refine rg j0<|u<|bx 0 10 j0 j0 j0 j0<|u<|asg j0<|r_nil ?_
 refine sw_seq ?_
 refine rg j0<|u<|fa ti38 j0 j0 j0<|u<|ld ti35 j0 j0<|u<|lnI ti35 j0 j0<|u<|mv j0<|r_nil ?_
 obtain ⟨o,ho,h⟩:=bs h
 refine sw_lpl (X:=Int) (B:=Unit) (R:=Bool) (fun z=>[(1,.mpt 0 0 0),(6,.isl 3 (List.map rApiMap v1.Maps)),(7,iA (List.length v1.Maps : Int)),(8,iA z)]) (fun z=>[some (10,[[sA v1.Name,.isl 1 (List.map rStr v1.Params),sA v1.Ret,bA v1.Static,bA v1.Abstract,iA v1.Locals,iA v1.Stack,.isl 4 (List.map rApiIns v1.Code),.isl 3 (List.map rApiMap v1.Maps),.isl 4 (List.map rApiTrap v1.Traps)]])]) (fun b=>[(1,.mpt 0 0 0)]) (fun b=>[some (10,[[sA v1.Name,.isl 1 (List.map rStr v1.Params),sA v1.Ret,bA v1.Static,bA v1.Abstract,iA v1.Locals,iA v1.Stack,.isl 4 (List.map rApiIns v1.Code),.isl 3 (List.map rApiMap v1.Maps),.isl 4 (List.map rApiTrap v1.Traps)]])]) (fun r env st=>PostF Tryz.prog Tryz.f247 0 (bA r) [] env st) ho ⟨[.old 0],cv j0 (.mpt j0)<|ce j0 j0<|ce j0 j0<|ce j0 j0<|cn,j0,⟨⟨_,j0,rsOne ⟨ci j0,ci j0,ci j0,ci j0,ci j0,ci j0,ci j0,ci j0,ci j0,ci j0,j5⟩⟩,j5⟩,j0,j1⟩ ?_ ?_ ?_
 ·
  rintro v12 r h
  replace h : class_maps_l3 v1 v12 = some r:=h
  unfold class_maps_l3 at h
  refine rg j0<|u<|lss ti3 j0 j0<|r_nil ?_
  refine sw_seq ?_
  refine sw_cond j0 (fun hc18=>?_) (fun hc18=>?_)
  ·
   replace h:=bT hc18 h
   refine sw_skip ?_
   refine sw_seq ?_
   refine sw_block ?_
   obtain ⟨v13,q19,h⟩:=bs h
   refine rg j0<|u<|mv j0<|u<|ixI ti35 j0 ti80 j0 j0 j0 q19<|u<|ldI ti80 j0 (idx_some q19).2.2 j0<|u<|al 1 ti80 j0<|u<|asg j0<|u<|sto ti80 j0 j0 j0<|r_nil ?_
   refine sw_seq ?_
   refine sw_meet (X:=Bool) (fun z=>[(1,.mpt 0 0 0),(4,.mpt 1 0 0),(6,.isl 3 (List.map rApiMap v1.Maps)),(7,iA (List.length v1.Maps : Int)),(8,iA v12),(36,bA z)]) (fun z=>[some (10,[[sA v1.Name,.isl 1 (List.map rStr v1.Params),sA v1.Ret,bA v1.Static,bA v1.Abstract,iA v1.Locals,iA v1.Stack,.isl 4 (List.map rApiIns v1.Code),.isl 3 (List.map rApiMap v1.Maps),.isl 4 (List.map rApiTrap v1.Traps)]]),some (3,[[iA v13.At,.isl 1 (List.map rStr v13.Locals),.isl 1 (List.map rStr v13.Stack)]])]) (fun z=>class_maps_j2 v1 v12 v13 z = some r) ?_ ?_
   ·
    rcases bb (!(class_between v13.At 0 (IntKind.i64.wrap ((List.length v1.Code : Int) - 1)))) with hb20 | hb20
    ·
     replace h:=bT hb20 h
     exact sw_region_dt [] [23,22,21,20,19,18,17,16,15,14,13,12,11,10,9,8,7,6,5,4,3,2,1,0] [(36,bA true),(35,.lit undef),(34,.lit undef),(33,.lit undef),(32,.lit undef),(31,.lit undef),(30,.lit undef),(29,.lit undef),(28,.lit undef),(27,.lit undef),(26,.lit undef),(25,.lit undef),(24,.lit undef),(23,.lit undef),(22,.lit undef),(21,bA (!(class_between v13.At 0 (IntKind.i64.wrap ((List.length v1.Code : Int) - 1))))),(20,bA (!(class_between v13.At 0 (IntKind.i64.wrap ((List.length v1.Code : Int) - 1))))),(19,bA (class_between v13.At 0 (IntKind.i64.wrap ((List.length v1.Code : Int) - 1)))),(18,iA (IntKind.i64.wrap ((List.length v1.Code : Int) - 1))),(17,iA (List.length v1.Code : Int)),(16,.isl 4 (List.map rApiIns v1.Code)),(15,.mpt 0 0 7),(14,iA v13.At),(13,.mpt 1 0 0)] 0 (by kernel_rfl) (by kernel_rfl) j0 (by kernel_rfl) (dt0 ⟨(fun _=>pa j0 j0 j0 j0 (pkb j0 hb20 j0<|j4)),(fun _=>pas (b:=(!(class_between v13.At 0 (IntKind.i64.wrap ((List.length v1.Code : Int) - 1))))) j0 j0 j0 j0 hb20 j0),(fun _=>pau j0 j0 j0 j0 j0),(fun _=>pau j0 j0 j0 j0 j0),(fun _=>pau j0 j0 j0 j0 j0),(fun _=>pau j0 j0 j0 j0 j0),(fun _=>pau j0 j0 j0 j0 j0),(fun _=>pau j0 j0 j0 j0 j0),(fun _=>pau j0 j0 j0 j0 j0),(fun _=>pau j0 j0 j0 j0 j0),(fun _=>pau j0 j0 j0 j0 j0),(fun _=>pau j0 j0 j0 j0 j0),(fun _=>pas (b:=(!(class_between v13.At 0 (IntKind.i64.wrap ((List.length v1.Code : Int) - 1))))) j0 j0 j0 j0 hb20 j0),(fun _=>pas (b:=(!(class_between v13.At 0 (IntKind.i64.wrap ((List.length v1.Code : Int) - 1))))) j0 j0 j0 j0 hb20 j0),(fun _=>pas (b:=(!(class_between v13.At 0 (IntKind.i64.wrap ((List.length v1.Code : Int) - 1))))) j0 j0 j0 j0 hb20 j0),(fun _=>pa j0 j0 j0 j0 (mv j0<|j4)),(fun _=>pa j0 j0 j0 j0 (nt j0<|j4)),(fun _=>pa j0 j0 j0 j0 (pc (class_between_ok v13.At 0 (IntKind.i64.wrap ((List.length v1.Code : Int) - 1)) j0) j0 j0 j0<|j4)),(fun _=>pa j0 j0 j0 j0 (sub ti3 j0 j0<|j4)),(fun _=>pa j0 j0 j0 j0 (lnI ti34 j0 j0<|j4)),(fun _=>pa j0 j0 j0 j0 (ld ti34 j0 j0<|j4)),(fun _=>pa j0 j0 j0 j0 (fa ti38 j0 j0 j0<|j4)),(fun _=>pa j0 j0 j0 j0 (ld ti3 j0 j0<|j4)),(fun _=>pa j0 j0 j0 j0 (fa ti80 j0 j0 j0<|j4)),j5⟩ (by kernel_rfl) j0 ⟨true,h,[.old 0,.old 1],cv j0 (.mpt j0)<|cv j0 (.mpt j0)<|ce j0 j0<|ce j0 j0<|ce j0 j0<|ce j0 j0<|cn,j0,⟨⟨_,j0,rsOne ⟨ci j0,ci j0,ci j0,ci j0,ci j0,ci j0,ci j0,ci j0,ci j0,ci j0,j5⟩⟩,⟨_,j0,rsOne ⟨ci j0,ci j0,ci j0,j5⟩⟩,j5⟩,j0,j1⟩)
    ·
     replace h:=bF hb20 h
     rcases bb (decide (0 < v12)) with hb21 | hb21
     ·
      replace h:=bT hb21 h
      obtain ⟨v14,q22,h⟩:=bs h
      exact sw_region_dt [] [23,22,21,20,19,18,17,16,15,14,13,12,11,10,9,8,7,6,5,4,3,2,1,0] [(36,bA (decide (v13.At ≤ v14.At))),(35,bA (decide (v13.At ≤ v14.At))),(34,bA (decide (v13.At ≤ v14.At))),(33,iA v13.At),(32,.mpt 1 0 0),(31,iA v14.At),(30,.ipt 3 (List.map rApiMap v1.Maps) (Int.toNat (IntKind.i64.wrap (v12 - 1))) 0),(29,.ipt 3 (List.map rApiMap v1.Maps) (Int.toNat (IntKind.i64.wrap (v12 - 1))) 0),(28,iA (IntKind.i64.wrap (v12 - 1))),(27,iA v12),(26,.isl 3 (List.map rApiMap v1.Maps)),(25,.mpt 0 0 8),(24,bA (decide (0 < v12))),(23,bA (decide (0 < v12))),(22,iA v12),(21,bA (!(class_between v13.At 0 (IntKind.i64.wrap ((List.length v1.Code : Int) - 1))))),(20,bA (!(class_between v13.At 0 (IntKind.i64.wrap ((List.length v1.Code : Int) - 1))))),(19,bA (class_between v13.At 0 (IntKind.i64.wrap ((List.length v1.Code : Int) - 1)))),(18,iA (IntKind.i64.wrap ((List.length v1.Code : Int) - 1))),(17,iA (List.length v1.Code : Int)),(16,.isl 4 (List.map rApiIns v1.Code)),(15,.mpt 0 0 7),(14,iA v13.At),(13,.mpt 1 0 0)] 0 (by kernel_rfl) (by kernel_rfl) j0 (by kernel_rfl) (dt0 ⟨(fun _=>pa j0 j0 j0 j0 (pkb j0 hb20 j0<|j4)),(fun _=>pag (b:=(!(class_between v13.At 0 (IntKind.i64.wrap ((List.length v1.Code : Int) - 1))))) j0 j0 j0 j0 hb20 j0 (pkb j0 hb21 j0<|j4)),(fun _=>pag (b:=(decide (0 < v12))) j0 j0 j0 j0 hb21 j0 (geq ti3 j0 j0<|j4)),(fun _=>pag (b:=(decide (0 < v12))) j0 j0 j0 j0 hb21 j0 (ld ti3 j0 j0<|j4)),(fun _=>pag (b:=(decide (0 < v12))) j0 j0 j0 j0 hb21 j0 (fa ti80 j0 j0 j0<|j4)),(fun _=>pag (b:=(decide (0 < v12))) j0 j0 j0 j0 hb21 j0 (ldI ti3 j0 (idx_some q22).2.2 j0<|j4)),(fun _=>pag (b:=(decide (0 < v12))) j0 j0 j0 j0 hb21 j0 (fa ti80 j0 j0 j0<|j4)),(fun _=>pag (b:=(decide (0 < v12))) j0 j0 j0 j0 hb21 j0 (ixI ti35 j0 ti80 j0 j0 j0 q22<|j4)),(fun _=>pag (b:=(decide (0 < v12))) j0 j0 j0 j0 hb21 j0 (sub ti3 j0 j0<|j4)),(fun _=>pag (b:=(decide (0 < v12))) j0 j0 j0 j0 hb21 j0 (mv j0<|j4)),(fun _=>pag (b:=(decide (0 < v12))) j0 j0 j0 j0 hb21 j0 (ld ti35 j0 j0<|j4)),(fun _=>pag (b:=(decide (0 < v12))) j0 j0 j0 j0 hb21 j0 (fa ti38 j0 j0 j0<|j4)),(fun _=>pag (b:=(!(class_between v13.At 0 (IntKind.i64.wrap ((List.length v1.Code : Int) - 1))))) j0 j0 j0 j0 hb20 j0 (mv j0<|j4)),(fun _=>pag (b:=(!(class_between v13.At 0 (IntKind.i64.wrap ((List.length v1.Code : Int) - 1))))) j0 j0 j0 j0 hb20 j0 (gtr ti3 j0 j0<|j4)),(fun _=>pag (b:=(!(class_between v13.At 0 (IntKind.i64.wrap ((List.length v1.Code : Int) - 1))))) j0 j0 j0 j0 hb20 j0 (mv j0<|j4)),(fun _=>pa j0 j0 j0 j0 (mv j0<|j4)),(fun _=>pa j0 j0 j0 j0 (nt j0<|j4)),(fun _=>pa j0 j0 j0 j0 (pc (class_between_ok v13.At 0 (IntKind.i64.wrap ((List.length v1.Code : Int) - 1)) j0) j0 j0 j0<|j4)),(fun _=>pa j0 j0 j0 j0 (sub ti3 j0 j0<|j4)),(fun _=>pa j0 j0 j0 j0 (lnI ti34 j0 j0<|j4)),(fun _=>pa j0 j0 j0 j0 (ld ti34 j0 j0<|j4)),(fun _=>pa j0 j0 j0 j0 (fa ti38 j0 j0 j0<|j4)),(fun _=>pa j0 j0 j0 j0 (ld ti3 j0 j0<|j4)),(fun _=>pa j0 j0 j0 j0 (fa ti80 j0 j0 j0<|j4)),j5⟩ (by kernel_rfl) j0 ⟨(decide (v13.At ≤ v14.At)),h,[.old 0,.old 1],cv j0 (.mpt j0)<|cv j0 (.mpt j0)<|ce j0 j0<|ce j0 j0<|ce j0 j0<|ce j0 j0<|cn,j0,⟨⟨_,j0,rsOne ⟨ci j0,ci j0,ci j0,ci j0,ci j0,ci j0,ci j0,ci j0,ci j0,ci j0,j5⟩⟩,⟨_,j0,rsOne ⟨ci j0,ci j0,ci j0,j5⟩⟩,j5⟩,j0,j1⟩)
     ·
      replace h:=bF hb21 h
      exact sw_region_dt [] [23,22,21,20,19,18,17,16,15,14,13,12,11,10,9,8,7,6,5,4,3,2,1,0] [(36,bA false),(35,bA false),(34,.lit undef),(33,.lit undef),(32,.lit undef),(31,.lit undef),(30,.lit undef),(29,.lit undef),(28,.lit undef),(27,.lit undef),(26,.lit undef),(25,.lit undef),(24,bA (decide (0 < v12))),(23,bA (decide (0 < v12))),(22,iA v12),(21,bA (!(class_between v13.At 0 (IntKind.i64.wrap ((List.length v1.Code : Int) - 1))))),(20,bA (!(class_between v13.At 0 (IntKind.i64.wrap ((List.length v1.Code : Int) - 1))))),(19,bA (class_between v13.At 0 (IntKind.i64.wrap ((List.length v1.Code : Int) - 1)))),(18,iA (IntKind.i64.wrap ((List.length v1.Code : Int) - 1))),(17,iA (List.length v1.Code : Int)),(16,.isl 4 (List.map rApiIns v1.Code)),(15,.mpt 0 0 7),(14,iA v13.At),(13,.mpt 1 0 0)] 0 (by kernel_rfl) (by kernel_rfl) j0 (by kernel_rfl) (dt0 ⟨(fun _=>pa j0 j0 j0 j0 (pkb j0 hb20 j0<|j4)),(fun _=>pag (b:=(!(class_between v13.At 0 (IntKind.i64.wrap ((List.length v1.Code : Int) - 1))))) j0 j0 j0 j0 hb20 j0 (pkb j0 hb21 j0<|j4)),(fun _=>pas (b:=(decide (0 < v12))) j0 j0 j0 j0 hb21 j0),(fun _=>pas (b:=(decide (0 < v12))) j0 j0 j0 j0 hb21 j0),(fun _=>pas (b:=(decide (0 < v12))) j0 j0 j0 j0 hb21 j0),(fun _=>pas (b:=(decide (0 < v12))) j0 j0 j0 j0 hb21 j0),(fun _=>pas (b:=(decide (0 < v12))) j0 j0 j0 j0 hb21 j0),(fun _=>pas (b:=(decide (0 < v12))) j0 j0 j0 j0 hb21 j0),(fun _=>pas (b:=(decide (0 < v12))) j0 j0 j0 j0 hb21 j0),(fun _=>pas (b:=(decide (0 < v12))) j0 j0 j0 j0 hb21 j0),(fun _=>pas (b:=(decide (0 < v12))) j0 j0 j0 j0 hb21 j0),(fun _=>pas (b:=(decide (0 < v12))) j0 j0 j0 j0 hb21 j0),(fun _=>pag (b:=(!(class_between v13.At 0 (IntKind.i64.wrap ((List.length v1.Code : Int) - 1))))) j0 j0 j0 j0 hb20 j0 (mv j0<|j4)),(fun _=>pag (b:=(!(class_between v13.At 0 (IntKind.i64.wrap ((List.length v1.Code : Int) - 1))))) j0 j0 j0 j0 hb20 j0 (gtr ti3 j0 j0<|j4)),(fun _=>pag (b:=(!(class_between v13.At 0 (IntKind.i64.wrap ((List.length v1.Code : Int) - 1))))) j0 j0 j0 j0 hb20 j0 (mv j0<|j4)),(fun _=>pa j0 j0 j0 j0 (mv j0<|j4)),(fun _=>pa j0 j0 j0 j0 (nt j0<|j4)),(fun _=>pa j0 j0 j0 j0 (pc (class_between_ok v13.At 0 (IntKind.i64.wrap ((List.length v1.Code : Int) - 1)) j0) j0 j0 j0<|j4)),(fun _=>pa j0 j0 j0 j0 (sub ti3 j0 j0<|j4)),(fun _=>pa j0 j0 j0 j0 (lnI ti34 j0 j0<|j4)),(fun _=>pa j0 j0 j0 j0 (ld ti34 j0 j0<|j4)),(fun _=>pa j0 j0 j0 j0 (fa ti38 j0 j0 j0<|j4)),(fun _=>pa j0 j0 j0 j0 (ld ti3 j0 j0<|j4)),(fun _=>pa j0 j0 j0 j0 (fa ti80 j0 j0 j0<|j4)),j5⟩ (by kernel_rfl) j0 ⟨false,h,[.old 0,.old 1],cv j0 (.mpt j0)<|cv j0 (.mpt j0)<|ce j0 j0<|ce j0 j0<|ce j0 j0<|ce j0 j0<|cn,j0,⟨⟨_,j0,rsOne ⟨ci j0,ci j0,ci j0,ci j0,ci j0,ci j0,ci j0,ci j0,ci j0,ci j0,j5⟩⟩,⟨_,j0,rsOne ⟨ci j0,ci j0,ci j0,j5⟩⟩,j5⟩,j0,j1⟩)
   ·
    rintro v15 h
    replace h : class_maps_j2 v1 v12 v13 v15 = some r:=h
    unfold class_maps_j2 at h
    refine sw_cond j0 (fun hc23=>?_) (fun hc23=>?_)
    ·
     replace h:=bT hc23 h
     refine rg j0<|u<|asg j0<|r_nil ?_
     refine sw_ret ?_
     obtain rfl:=sm h
     exact ⟨_,j0,_,j0,[],ci j0,j0,j5,j0,j1⟩
    ·
     replace h:=bF hc23 h
     refine sw_skip ?_
     obtain ⟨v17,q27,h⟩:=bs h
     obtain ⟨v19,q30,h⟩:=bs h
     obtain ⟨v21,q33,h⟩:=bs h
     refine rg j0<|u<|fa ti80 j0 j0 j0<|u<|ld ti22 j0 j0<|u<|lnI ti22 j0 j0<|u<|fa ti38 j0 j0 j0<|u<|ld ti3 j0 j0<|u<|neq ti3 j0 j0<|u<|mv j0<|r_or (j:=6) 6 j0 j0 j0 j0 j0 gpn (fun hb24=>g j0 hb24<|fa ti80 j0 j0 j0<|g j0 hb24<|ld ti22 j0 j0<|g j0 hb24<|lnI ti22 j0 j0<|g j0 hb24<|fa ti38 j0 j0 j0<|g j0 hb24<|ld ti3 j0 j0<|g j0 hb24<|gtr ti3 j0 j0<|r_nil (egO [44,45,46,47,48,49] 6 hb24 j0 j0 j0 j0)) orT<|u<|mv j0<|r_or (x:=v17) (j:=14) 4 j0 j0 j0 j0 j0 gpn (fun hb25=>by replace q27:=bF hb25 q27; obtain ⟨v16,q26,q27⟩:=bs q27; obtain rfl:=sm q27; exact g j0 hb25<|fa ti80 j0 j0 j0<|g j0 hb25<|ld ti22 j0 j0<|g j0 hb25<|pc (class_types_s2_ok v13.Locals q26) j0 j0 j0<|g j0 hb25<|nt j0<|r_nil (eg [52,53,54,55] 4 j0 j0 j0 j0)) (fun hb=>(sm (bT hb q27)).symm)<|u<|mv j0<|r_or (x:=v19) (j:=20) 4 j0 j0 j0 j0 j0 gpn (fun hb28=>by replace q30:=bF hb28 q30; obtain ⟨v18,q29,q30⟩:=bs q30; obtain rfl:=sm q30; exact g j0 hb28<|fa ti80 j0 j0 j0<|g j0 hb28<|ld ti22 j0 j0<|g j0 hb28<|pc (class_types_s2_ok v13.Stack q29) j0 j0 j0<|g j0 hb28<|nt j0<|r_nil (eg [58,59,60,61] 4 j0 j0 j0 j0)) (fun hb=>(sm (bT hb q30)).symm)<|u<|mv j0<|r_or (x:=v21) (j:=26) 3 j0 j0 j0 j0 j0 gpn (fun hb31=>by replace q33:=bF hb31 q33; obtain ⟨v20,q32,q33⟩:=bs q33; obtain rfl:=sm q33; exact g j0 hb31<|fa ti80 j0 j0 j0<|g j0 hb31<|ld ti22 j0 j0<|g j0 hb31<|pc (slices_Contains_string_string_ok v13.Stack [84] q32) j0 j0 j0<|r_nil (eg [64,65,66] 3 j0 j0 j0 j0)) (fun hb=>(sm (bT hb q33)).symm)<|r_nil ?_
     refine sw_cond j0 (fun hc34=>?_) (fun hc34=>?_)
     ·
      replace h:=bT hc34 h
      refine rg j0<|u<|asg j0<|r_nil ?_
      refine sw_ret ?_
      obtain rfl:=sm h
      exact ⟨_,j0,_,j0,[],ci j0,j0,j5,j0,j1⟩
     ·
      replace h:=bF hc34 h
      refine sw_skip ?_
      refine rl j0<|u<|add ti3 j0 j0<|u<|mv j0<|r_nil ?_
      obtain rfl:=sm h
      exact ⟨_,j0,[.old 0],cv j0 (.mpt j0)<|ce j0 j0<|ce j0 j0<|ce j0 j0<|cn,j0,⟨⟨_,j0,rsOne ⟨ci j0,ci j0,ci j0,ci j0,ci j0,ci j0,ci j0,ci j0,ci j0,ci j0,j5⟩⟩,j5⟩,j0,j1⟩
  ·
   replace h:=bF hc18 h
   refine sw_exit ?_
   obtain rfl:=sm h
   exact ⟨j0,_,j0,[.old 0],cv j0 (.mpt j0)<|cn,j0,⟨⟨_,j0,rsOne ⟨ci j0,ci j0,ci j0,ci j0,ci j0,ci j0,ci j0,ci j0,ci j0,ci j0,j5⟩⟩,j5⟩,j0,j1⟩
 ·
  rintro ⟨⟩ rfl
  replace h : class_maps_k4 v1 = some r:=h
  unfold class_maps_k4 at h
  refine ow_intro ?_
  refine rg j0<|u<|fa ti38 j0 j0 j0<|u<|ld ti35 j0 j0<|u<|lnI ti35 j0 j0<|u<|leq ti3 j0 j0<|u<|asg j0<|r_nil ?_
  refine sw_ret ?_
  obtain rfl:=sm h
  exact ⟨_,j0,[],ci j0,j0,j5,j0,j1⟩
 ·
  rintro r' rfl env st hp
  obtain rfl:=sm h
  exact hp
def class_traps_1 (v1 : ApiTrap) (v2 : List UInt8) (v3 : List (List UInt8)) (v4 : List UInt8) (v5 : Bool) (v6 : Bool) (v7 : Int) (v8 : Int) (v9 : List ApiIns) (v10 : List ApiMap) (v11 : List ApiTrap) : Option (Bool) :=
  (cond ((((decide (v1.From < 0)) || (decide (v1.To ≤ v1.From))) || (decide ((List.length v9 : Int) < v1.To))) || (!(class_between v1.At 0 (IntKind.i64.wrap ((List.length v9 : Int) - 1))))) (some true) ((cond (!(v1.C == [])) ((kind_Class v1.C).bind fun v12=>some (!v12)) (some false)).bind fun v13=>some v13)).bind fun v14=>some v14
theorem class_traps_1_ok (v1 : ApiTrap) (v2 : List UInt8) (v3 : List (List UInt8)) (v4 : List UInt8) (v5 : Bool) (v6 : Bool) (v7 : Int) (v8 : Int) (v9 : List ApiIns) (v10 : List ApiMap) (v11 : List ApiTrap) {r : Bool} (h : class_traps_1 v1 v2 v3 v4 v5 v6 v7 v8 v9 v10 v11 = some r) : PureC Tryz.prog 328 [.agg [iA v1.From,iA v1.To,iA v1.At,sA v1.C],.ipt 10 [[sA v2,.isl 1 (List.map rStr v3),sA v4,bA v5,bA v6,iA v7,iA v8,.isl 4 (List.map rApiIns v9),.isl 3 (List.map rApiMap v10),.isl 4 (List.map rApiTrap v11)]] 0 0] (bA r):=by
 refine pure_fn Tryz.func328 j0 (by kernel_rfl) j0 j0 ?_
 unfold class_traps_1 at h
 refine rg j0<|u<|bx 0 4 j0 j0 j0 j0<|u<|asg j0<|r_nil ?_
 obtain ⟨v14,q8,h⟩:=bs h
 refine rg j0<|u<|fa ti88 j0 j0 j0<|u<|ld ti3 j0 j0<|u<|lss ti3 j0 j0<|u<|mv j0<|r_or (j:=3) 5 j0 j0 j0 j0 j0 gpn (fun hb1=>g j0 hb1<|fa ti88 j0 j0 j0<|g j0 hb1<|ld ti3 j0 j0<|g j0 hb1<|fa ti88 j0 j0 j0<|g j0 hb1<|ld ti3 j0 j0<|g j0 hb1<|geq ti3 j0 j0<|r_nil (egO [8,9,10,11,12] 5 hb1 j0 j0 j0 j0)) orT<|u<|mv j0<|r_or (j:=10) 6 j0 j0 j0 j0 j0 gpn (fun hb2=>g j0 hb2<|fa ti88 j0 j0 j0<|g j0 hb2<|ld ti3 j0 j0<|g j0 hb2<|fa ti38 j0 j0 j0<|g j0 hb2<|ld ti34 j0 j0<|g j0 hb2<|lnI ti34 j0 j0<|g j0 hb2<|gtr ti3 j0 j0<|r_nil (egO [15,16,17,18,19,20] 6 hb2 j0 j0 j0 j0)) orT<|u<|mv j0<|r_or (j:=18) 8 j0 j0 j0 j0 j0 gpn (fun hb3=>g j0 hb3<|fa ti88 j0 j0 j0<|g j0 hb3<|ld ti3 j0 j0<|g j0 hb3<|fa ti38 j0 j0 j0<|g j0 hb3<|ld ti34 j0 j0<|g j0 hb3<|lnI ti34 j0 j0<|g j0 hb3<|sub ti3 j0 j0<|g j0 hb3<|pc (class_between_ok v1.At 0 (IntKind.i64.wrap ((List.length v9 : Int) - 1)) j0) j0 j0 j0<|g j0 hb3<|nt j0<|r_nil (egO [23,24,25,26,27,28,29,30] 8 hb3 j0 j0 j0 j0)) orT<|u<|mv j0<|r_or (x:=v14) (j:=28) 9 j0 j0 j0 j0 j0 gpn (fun hb4=>by replace q8:=bF hb4 q8; obtain ⟨v13,q7,q8⟩:=bs q8; obtain rfl:=sm q8; exact g j0 hb4<|fa ti88 j0 j0 j0<|g j0 hb4<|ld ti9 j0 j0<|g j0 hb4<|sne ti9 j0 j0<|g j0 hb4<|mv j0<|r_and (x:=v13) (j:=32) 4 j0 j0 j0 j0 j0 (gps j0 j0 hb4) (fun hb5=>by replace q7:=bT hb5 q7; obtain ⟨v12,q6,q7⟩:=bs q7; obtain rfl:=sm q7; exact g j0 hb5<|fa ti88 j0 j0 j0<|g j0 hb5<|ld ti9 j0 j0<|g j0 hb5<|pc (kind_Class_ok v1.C q6) j0 j0 j0<|g j0 hb5<|nt j0<|r_nil (eg [37,38,39,40] 4 j0 j0 j0 j0)) (fun hb=>(sm (bF hb q7)).symm)<|r_nil (eg [33,34,35,36,37,38,39,40,41] 5 j0 j0 j0 j0)) (fun hb=>(sm (bT hb q8)).symm)<|u<|asg j0<|r_nil ?_
 refine sw_ret ?_
 obtain rfl:=sm h
 exact ⟨_,j0,[],ci j0,j0,j5,j0,j1⟩
def slices_IndexFunc_api_Trap_api_Trap_k2 : Option (Int) :=
  some (-1)
def slices_IndexFunc_api_Trap_api_Trap_l1 (v1 : List ApiTrap) (v2 : List UInt8) (v3 : List (List UInt8)) (v4 : List UInt8) (v5 : Bool) (v6 : Bool) (v7 : Int) (v8 : Int) (v9 : List ApiIns) (v10 : List ApiMap) (v11 : List ApiTrap) (v15 : Int) : Option (Sum (Int) (Sum (Unit) (Int))) :=
  cond (decide (v15 < (List.length v1 : Int))) ((idx v1 v15).bind fun v16=>(class_traps_1 v16 v2 v3 v4 v5 v6 v7 v8 v9 v10 v11).bind fun v17=>cond v17 (some (.inr (.inr v15))) (some (.inl (IntKind.i64.wrap (v15 + 1))))) (some (.inr (.inl ())))
def slices_IndexFunc_api_Trap_api_Trap (v1 : List ApiTrap) (v2 : List UInt8) (v3 : List (List UInt8)) (v4 : List UInt8) (v5 : Bool) (v6 : Bool) (v7 : Int) (v8 : Int) (v9 : List ApiIns) (v10 : List ApiMap) (v11 : List ApiTrap) : Option (Int) :=
  (loopP (fun z=>slices_IndexFunc_api_Trap_api_Trap_l1 v1 v2 v3 v4 v5 v6 v7 v8 v9 v10 v11 z) 0).bind fun o=>leave o (fun b=>slices_IndexFunc_api_Trap_api_Trap_k2) some
theorem slices_IndexFunc_api_Trap_api_Trap_ok (v1 : List ApiTrap) (v2 : List UInt8) (v3 : List (List UInt8)) (v4 : List UInt8) (v5 : Bool) (v6 : Bool) (v7 : Int) (v8 : Int) (v9 : List ApiIns) (v10 : List ApiMap) (v11 : List ApiTrap) {r : Int} (h : slices_IndexFunc_api_Trap_api_Trap v1 v2 v3 v4 v5 v6 v7 v8 v9 v10 v11 = some r) : PureC Tryz.prog 348 [.isl 4 (List.map rApiTrap v1),.fn (.func 328) [] [.ipt 10 [[sA v2,.isl 1 (List.map rStr v3),sA v4,bA v5,bA v6,iA v7,iA v8,.isl 4 (List.map rApiIns v9),.isl 3 (List.map rApiMap v10),.isl 4 (List.map rApiTrap v11)]] 0 0]] (iA r):=by
 refine pure_fn Tryz.func348 j0 (by kernel_rfl) j0 j0 ?_
 unfold slices_IndexFunc_api_Trap_api_Trap at h
 refine rg j0<|u<|asg j0<|r_nil ?_
 refine sw_seq ?_
 refine rg j0<|u<|mv j0<|u<|lnI ti36 j0 j0<|u<|mv j0<|r_nil ?_
 obtain ⟨o,ho,h⟩:=bs h
 refine sw_lpl (X:=Int) (B:=Unit) (R:=Int) (fun z=>[(0,.isl 4 (List.map rApiTrap v1)),(1,.fn (.func 328) [] [.ipt 10 [[sA v2,.isl 1 (List.map rStr v3),sA v4,bA v5,bA v6,iA v7,iA v8,.isl 4 (List.map rApiIns v9),.isl 3 (List.map rApiMap v10),.isl 4 (List.map rApiTrap v11)]] 0 0]),(7,iA (List.length v1 : Int)),(8,iA z)]) (fun z=>[]) (fun b=>[]) (fun b=>[]) (fun r env st=>PostF Tryz.prog Tryz.f348 0 (iA r) [] env st) ho ⟨[],ce j0 j0<|ce j0 j0<|ce j0 j0<|ce j0 j0<|cn,j0,j5,j0,j1⟩ ?_ ?_ ?_
 ·
  rintro v15 r h
  replace h : slices_IndexFunc_api_Trap_api_Trap_l1 v1 v2 v3 v4 v5 v6 v7 v8 v9 v10 v11 v15 = some r:=h
  unfold slices_IndexFunc_api_Trap_api_Trap_l1 at h
  refine rg j0<|u<|lss ti3 j0 j0<|r_nil ?_
  refine sw_seq ?_
  refine sw_cond j0 (fun hc5=>?_) (fun hc5=>?_)
  ·
   replace h:=bT hc5 h
   refine sw_skip ?_
   refine sw_seq ?_
   refine sw_block ?_
   refine rg j0<|u<|mv j0<|u<|asg j0<|r_nil ?_
   obtain ⟨v16,q6,h⟩:=bs h
   obtain ⟨v17,q7,h⟩:=bs h
   refine rg j0<|u<|mv j0<|u<|mv j0<|u<|mv j0<|u<|ixI ti36 j0 ti88 j0 j0 j0 q6<|u<|ldI ti88 j0 (idx_some q6).2.2 j0<|u<|pc (class_traps_1_ok v16 v2 v3 v4 v5 v6 v7 v8 v9 v10 v11 q7) j0 j0 j0<|r_nil ?_
   refine sw_cond j0 (fun hc8=>?_) (fun hc8=>?_)
   ·
    replace h:=bT hc8 h
    refine rg j0<|u<|mv j0<|u<|asg j0<|r_nil ?_
    refine sw_ret ?_
    obtain rfl:=sm h
    exact ⟨_,j0,_,j0,[],ci j0,j0,j5,j0,j1⟩
   ·
    replace h:=bF hc8 h
    refine sw_skip ?_
    refine rl j0<|u<|add ti3 j0 j0<|u<|mv j0<|r_nil ?_
    obtain rfl:=sm h
    exact ⟨_,j0,[],ce j0 j0<|ce j0 j0<|ce j0 j0<|ce j0 j0<|cn,j0,j5,j0,j1⟩
  ·
   replace h:=bF hc5 h
   refine sw_exit ?_
   obtain rfl:=sm h
   exact ⟨j0,_,j0,[],cn,j0,j5,j0,j1⟩
 ·
  rintro ⟨⟩ rfl
  replace h : slices_IndexFunc_api_Trap_api_Trap_k2 = some r:=h
  unfold slices_IndexFunc_api_Trap_api_Trap_k2 at h
  refine ow_intro ?_
  refine rg j0<|u<|asg j0<|r_nil ?_
  refine sw_ret ?_
  obtain rfl:=sm h
  exact ⟨_,j0,[],ci j0,j0,j5,j0,j1⟩
 ·
  rintro r' rfl env st hp
  obtain rfl:=sm h
  exact hp
def slices_ContainsFunc_api_Trap_api_Trap (v1 : List ApiTrap) (v2 : List UInt8) (v3 : List (List UInt8)) (v4 : List UInt8) (v5 : Bool) (v6 : Bool) (v7 : Int) (v8 : Int) (v9 : List ApiIns) (v10 : List ApiMap) (v11 : List ApiTrap) : Option (Bool) :=
  (slices_IndexFunc_api_Trap_api_Trap v1 v2 v3 v4 v5 v6 v7 v8 v9 v10 v11).bind fun v12=>some (decide (0 ≤ v12))
theorem slices_ContainsFunc_api_Trap_api_Trap_ok (v1 : List ApiTrap) (v2 : List UInt8) (v3 : List (List UInt8)) (v4 : List UInt8) (v5 : Bool) (v6 : Bool) (v7 : Int) (v8 : Int) (v9 : List ApiIns) (v10 : List ApiMap) (v11 : List ApiTrap) {r : Bool} (h : slices_ContainsFunc_api_Trap_api_Trap v1 v2 v3 v4 v5 v6 v7 v8 v9 v10 v11 = some r) : PureC Tryz.prog 302 [.isl 4 (List.map rApiTrap v1),.fn (.func 328) [] [.ipt 10 [[sA v2,.isl 1 (List.map rStr v3),sA v4,bA v5,bA v6,iA v7,iA v8,.isl 4 (List.map rApiIns v9),.isl 3 (List.map rApiMap v10),.isl 4 (List.map rApiTrap v11)]] 0 0]] (bA r):=by
 refine pure_fn Tryz.func302 j0 (by kernel_rfl) j0 j0 ?_
 unfold slices_ContainsFunc_api_Trap_api_Trap at h
 refine rg j0<|u<|asg j0<|r_nil ?_
 obtain ⟨v12,q1,h⟩:=bs h
 refine rg j0<|u<|mv j0<|u<|mv j0<|u<|pc (slices_IndexFunc_api_Trap_api_Trap_ok v1 v2 v3 v4 v5 v6 v7 v8 v9 v10 v11 q1) j0 j0 j0<|u<|geq ti3 j0 j0<|u<|asg j0<|r_nil ?_
 refine sw_ret ?_
 obtain rfl:=sm h
 exact ⟨_,j0,[],ci j0,j0,j5,j0,j1⟩
def class_traps (v1 : ApiMethod) : Option (Bool) :=
  (slices_ContainsFunc_api_Trap_api_Trap v1.Traps v1.Name v1.Params v1.Ret v1.Static v1.Abstract v1.Locals v1.Stack v1.Code v1.Maps v1.Traps).bind fun v2=>some ((!v2) && (decide ((List.length v1.Traps : Int) ≤ 6)))
theorem class_traps_ok (v1 : ApiMethod) {r : Bool} (h : class_traps v1 = some r) : PureC Tryz.prog 248 [.agg [sA v1.Name,.isl 1 (List.map rStr v1.Params),sA v1.Ret,bA v1.Static,bA v1.Abstract,iA v1.Locals,iA v1.Stack,.isl 4 (List.map rApiIns v1.Code),.isl 3 (List.map rApiMap v1.Maps),.isl 4 (List.map rApiTrap v1.Traps)]] (bA r):=by
 refine pure_fn Tryz.func248 j0 (by kernel_rfl) j0 j0 ?_
 unfold class_traps at h
 refine rg j0<|u<|bx 0 10 j0 j0 j0 j0<|u<|asg j0<|r_nil ?_
 obtain ⟨v2,q1,h⟩:=bs h
 refine rg j0<|u<|fa ti38 j0 j0 j0<|u<|ld ti36 j0 j0<|u<|mf j0 j0<|u<|pcs (slices_ContainsFunc_api_Trap_api_Trap_ok v1.Traps v1.Name v1.Params v1.Ret v1.Static v1.Abstract v1.Locals v1.Stack v1.Code v1.Maps v1.Traps q1) j0 j0 (.cons (si j0) (.cons (sealFn j5 ⟨(sealBox j0 ⟨(si j0),(si j0),(si j0),(si j0),(si j0),(si j0),(si j0),(si j0),(si j0),(si j0),j5⟩),j5⟩) .nil)) plainB<|u<|asg j0<|r_nil ?_
 refine rg j0<|u<|mv j0<|u<|nt j0<|u<|mv j0<|r_and (j:=2) 4 j0 j0 j0 j0 j0 gpn (fun hb2=>g j0 hb2<|fa ti38 j0 j0 j0<|g j0 hb2<|ld ti36 j0 j0<|g j0 hb2<|lnI ti36 j0 j0<|g j0 hb2<|leq ti3 j0 j0<|r_nil (egA [11,12,13,14] 4 hb2 j0 j0 j0 j0)) andF<|u<|asg j0<|r_nil ?_
 refine sw_ret ?_
 obtain rfl:=sm h
 exact ⟨_,j0,[],ci j0,j0,j5,j0,j1⟩
def class_method_j1 (v10 : Bool) : Option (Bool) :=
  some v10
def class_method (v1 : ApiMethod) : Option (Bool) :=
  (kind_Name v1.Name).bind fun v2=>(cond ((!v2) || (decide (6 < (List.length v1.Params : Int)))) (some true) ((class_types v1.Params).bind fun v3=>some (!v3))).bind fun v4=>(cond v4 (some true) ((kind_Ret v1.Ret).bind fun v5=>some (!v5))).bind fun v6=>cond v6 (some false) (cond v1.Abstract (some (class_empty v1)) (cond ((v1.Name == [36,105,110,105,116]) && (((!v1.Static) || (decide (0 < (List.length v1.Params : Int)))) || (!(v1.Ret == [86])))) (some false) (cond (class_between v1.Locals (class_args v1) 16) (cond (class_between v1.Stack 0 16) ((class_instructions v1).bind fun v7=>cond v7 ((class_maps v1).bind fun v8=>cond v8 ((class_traps v1).bind fun v9=>class_method_j1 v9) (class_method_j1 false)) (class_method_j1 false)) (class_method_j1 false)) (class_method_j1 false))))
theorem class_method_ok (v1 : ApiMethod) {r : Bool} (h : class_method v1 = some r) : PureC Tryz.prog 157 [.agg [sA v1.Name,.isl 1 (List.map rStr v1.Params),sA v1.Ret,bA v1.Static,bA v1.Abstract,iA v1.Locals,iA v1.Stack,.isl 4 (List.map rApiIns v1.Code),.isl 3 (List.map rApiMap v1.Maps),.isl 4 (List.map rApiTrap v1.Traps)]] (bA r):=by
 refine pure_fn Tryz.func157 j0 (by kernel_rfl) j0 j0 ?_
 unfold class_method at h
 refine rg j0<|u<|bx 0 10 j0 j0 j0 j0<|u<|asg j0<|r_nil ?_
 refine sw_seq ?_
 obtain ⟨v2,q1,h⟩:=bs h
 obtain ⟨v4,q5,h⟩:=bs h
 obtain ⟨v6,q8,h⟩:=bs h
 refine rg j0<|u<|fa ti38 j0 j0 j0<|u<|ld ti9 j0 j0<|u<|pc (kind_Name_ok v1.Name q1) j0 j0 j0<|u<|nt j0<|u<|mv j0<|r_or (j:=4) 4 j0 j0 j0 j0 j0 gpn (fun hb2=>g j0 hb2<|fa ti38 j0 j0 j0<|g j0 hb2<|ld ti22 j0 j0<|g j0 hb2<|lnI ti22 j0 j0<|g j0 hb2<|gtr ti3 j0 j0<|r_nil (egO [8,9,10,11] 4 hb2 j0 j0 j0 j0)) orT<|u<|mv j0<|r_or (x:=v4) (j:=10) 4 j0 j0 j0 j0 j0 gpn (fun hb3=>by replace q5:=bF hb3 q5; obtain ⟨v3,q4,q5⟩:=bs q5; obtain rfl:=sm q5; exact g j0 hb3<|fa ti38 j0 j0 j0<|g j0 hb3<|ld ti22 j0 j0<|g j0 hb3<|pc (class_types_ok v1.Params q4) j0 j0 j0<|g j0 hb3<|nt j0<|r_nil (eg [14,15,16,17] 4 j0 j0 j0 j0)) (fun hb=>(sm (bT hb q5)).symm)<|u<|mv j0<|r_or (x:=v6) (j:=16) 4 j0 j0 j0 j0 j0 gpn (fun hb6=>by replace q8:=bF hb6 q8; obtain ⟨v5,q7,q8⟩:=bs q8; obtain rfl:=sm q8; exact g j0 hb6<|fa ti38 j0 j0 j0<|g j0 hb6<|ld ti9 j0 j0<|g j0 hb6<|pc (kind_Ret_ok v1.Ret q7) j0 j0 j0<|g j0 hb6<|nt j0<|r_nil (eg [20,21,22,23] 4 j0 j0 j0 j0)) (fun hb=>(sm (bT hb q8)).symm)<|r_nil ?_
 refine sw_cond j0 (fun hc9=>?_) (fun hc9=>?_)
 ·
  replace h:=bT hc9 h
  refine rg j0<|u<|asg j0<|r_nil ?_
  refine sw_ret ?_
  obtain rfl:=sm h
  exact ⟨_,j0,[],ci j0,j0,j5,j0,j1⟩
 ·
  replace h:=bF hc9 h
  refine sw_skip ?_
  refine sw_seq ?_
  refine rg j0<|u<|fa ti38 j0 j0 j0<|u<|ld ti4 j0 j0<|r_nil ?_
  refine sw_cond j0 (fun hc10=>?_) (fun hc10=>?_)
  ·
   replace h:=bT hc10 h
   refine rg j0<|u<|ld ti38 j0 j0<|u<|pc (class_empty_ok v1 j0) j0 j0 j0<|u<|asg j0<|r_nil ?_
   refine sw_ret ?_
   obtain rfl:=sm h
   exact ⟨_,j0,[],ci j0,j0,j5,j0,j1⟩
  ·
   replace h:=bF hc10 h
   refine sw_skip ?_
   refine sw_seq ?_
   refine rg j0<|u<|fa ti38 j0 j0 j0<|u<|ld ti9 j0 j0<|u<|seq ti9 j0 j0<|u<|mv j0<|r_and (j:=3) 14 j0 j0 j0 j0 j0 gpn (fun hb11=>g j0 hb11<|fa ti38 j0 j0 j0<|g j0 hb11<|ld ti4 j0 j0<|g j0 hb11<|nt j0<|g j0 hb11<|mv j0<|r_or (j:=7) 4 j0 j0 j0 j0 j0 (gps j0 j0 hb11) (fun hb12=>g j0 hb12<|fa ti38 j0 j0 j0<|g j0 hb12<|ld ti22 j0 j0<|g j0 hb12<|lnI ti22 j0 j0<|g j0 hb12<|gtr ti3 j0 j0<|r_nil (egO [37,38,39,40] 4 hb12 j0 j0 j0 j0)) orT<|g j0 hb11<|mv j0<|r_or (j:=13) 3 j0 j0 j0 j0 j0 (gps j0 j0 hb11) (fun hb13=>g j0 hb13<|fa ti38 j0 j0 j0<|g j0 hb13<|ld ti9 j0 j0<|g j0 hb13<|sne ti9 j0 j0<|r_nil (egO [43,44,45] 3 hb13 j0 j0 j0 j0)) orT<|r_nil (egA [33,34,35,36,37,38,39,40,41,42,43,44,45,46] 7 hb11 j0 j0 j0 j0)) andF<|r_nil ?_
   refine sw_cond j0 (fun hc14=>?_) (fun hc14=>?_)
   ·
    replace h:=bT hc14 h
    refine rg j0<|u<|asg j0<|r_nil ?_
    refine sw_ret ?_
    obtain rfl:=sm h
    exact ⟨_,j0,[],ci j0,j0,j5,j0,j1⟩
   ·
    replace h:=bF hc14 h
    refine sw_skip ?_
    refine sw_meet (X:=Bool) (fun z=>[(2,bA z)]) (fun z=>[]) (fun z=>class_method_j1 z = some r) ?_ ?_
    ·
     rcases bb (class_between v1.Locals (class_args v1) 16) with hb15 | hb15
     ·
      replace h:=bT hb15 h
      rcases bb (class_between v1.Stack 0 16) with hb16 | hb16
      ·
       replace h:=bT hb16 h
       obtain ⟨v7,q17,h⟩:=bs h
       rcases bb v7 with hb18 | hb18
       ·
        replace h:=bT hb18 h
        obtain ⟨v8,q19,h⟩:=bs h
        rcases bb v8 with hb20 | hb20
        ·
         replace h:=bT hb20 h
         obtain ⟨v9,q21,h⟩:=bs h
         exact sw_region_dt [] [22,21,20,19,18,17,16,15,14,13,12,11,10,9,8,7,6,5,4,3,2,1,0] [(2,bA v9),(69,bA v9),(68,bA v9),(67,.agg [sA v1.Name,.isl 1 (List.map rStr v1.Params),sA v1.Ret,bA v1.Static,bA v1.Abstract,iA v1.Locals,iA v1.Stack,.isl 4 (List.map rApiIns v1.Code),.isl 3 (List.map rApiMap v1.Maps),.isl 4 (List.map rApiTrap v1.Traps)]),(66,bA v8),(65,bA v8),(64,bA v8),(63,.agg [sA v1.Name,.isl 1 (List.map rStr v1.Params),sA v1.Ret,bA v1.Static,bA v1.Abstract,iA v1.Locals,iA v1.Stack,.isl 4 (List.map rApiIns v1.Code),.isl 3 (List.map rApiMap v1.Maps),.isl 4 (List.map rApiTrap v1.Traps)]),(62,bA v7),(61,bA v7),(60,bA v7),(59,.agg [sA v1.Name,.isl 1 (List.map rStr v1.Params),sA v1.Ret,bA v1.Static,bA v1.Abstract,iA v1.Locals,iA v1.Stack,.isl 4 (List.map rApiIns v1.Code),.isl 3 (List.map rApiMap v1.Maps),.isl 4 (List.map rApiTrap v1.Traps)]),(58,bA (class_between v1.Stack 0 16)),(57,bA (class_between v1.Stack 0 16)),(56,bA (class_between v1.Stack 0 16)),(55,iA v1.Stack),(54,.mpt 0 0 6),(53,bA (class_between v1.Locals (class_args v1) 16)),(52,bA (class_between v1.Locals (class_args v1) 16)),(51,iA (class_args v1)),(50,.agg [sA v1.Name,.isl 1 (List.map rStr v1.Params),sA v1.Ret,bA v1.Static,bA v1.Abstract,iA v1.Locals,iA v1.Stack,.isl 4 (List.map rApiIns v1.Code),.isl 3 (List.map rApiMap v1.Maps),.isl 4 (List.map rApiTrap v1.Traps)]),(49,iA v1.Locals),(48,.mpt 0 0 5)] 0 (by kernel_rfl) (by kernel_rfl) j0 (by kernel_rfl) (dt0 ⟨(fun _=>pa j0 j0 j0 j0 (asg j0<|j4)),(fun _=>pa j0 j0 j0 j0 (pkb j0 hb20 j0<|j4)),(fun _=>pag (b:=v8) j0 j0 j0 j0 hb20 j0 (pc (class_traps_ok v1 q21) j0 j0 j0<|j4)),(fun _=>pag (b:=v8) j0 j0 j0 j0 hb20 j0 (ld ti38 j0 j0<|j4)),(fun _=>pa j0 j0 j0 j0 (mv j0<|j4)),(fun _=>pa j0 j0 j0 j0 (pkb j0 hb18 j0<|j4)),(fun _=>pag (b:=v7) j0 j0 j0 j0 hb18 j0 (pc (class_maps_ok v1 q19) j0 j0 j0<|j4)),(fun _=>pag (b:=v7) j0 j0 j0 j0 hb18 j0 (ld ti38 j0 j0<|j4)),(fun _=>pa j0 j0 j0 j0 (mv j0<|j4)),(fun _=>pa j0 j0 j0 j0 (pkb j0 hb16 j0<|j4)),(fun _=>pag (b:=(class_between v1.Stack 0 16)) j0 j0 j0 j0 hb16 j0 (pc (class_instructions_ok v1 q17) j0 j0 j0<|j4)),(fun _=>pag (b:=(class_between v1.Stack 0 16)) j0 j0 j0 j0 hb16 j0 (ld ti38 j0 j0<|j4)),(fun _=>pa j0 j0 j0 j0 (mv j0<|j4)),(fun _=>pa j0 j0 j0 j0 (pkb j0 hb15 j0<|j4)),(fun _=>pag (b:=(class_between v1.Locals (class_args v1) 16)) j0 j0 j0 j0 hb15 j0 (pc (class_between_ok v1.Stack 0 16 j0) j0 j0 j0<|j4)),(fun _=>pag (b:=(class_between v1.Locals (class_args v1) 16)) j0 j0 j0 j0 hb15 j0 (ld ti3 j0 j0<|j4)),(fun _=>pag (b:=(class_between v1.Locals (class_args v1) 16)) j0 j0 j0 j0 hb15 j0 (fa ti38 j0 j0 j0<|j4)),(fun _=>pa j0 j0 j0 j0 (mv j0<|j4)),(fun _=>pa j0 j0 j0 j0 (pc (class_between_ok v1.Locals (class_args v1) 16 j0) j0 j0 j0<|j4)),(fun _=>pa j0 j0 j0 j0 (pc (class_args_ok v1 j0) j0 j0 j0<|j4)),(fun _=>pa j0 j0 j0 j0 (ld ti38 j0 j0<|j4)),(fun _=>pa j0 j0 j0 j0 (ld ti3 j0 j0<|j4)),(fun _=>pa j0 j0 j0 j0 (fa ti38 j0 j0 j0<|j4)),j5⟩ (by kernel_rfl) j0 ⟨v9,h,[],ce j0 j0<|cn,j0,j5,j0,j1⟩)
        ·
         replace h:=bF hb20 h
         exact sw_region_dt [] [22,21,20,19,18,17,16,15,14,13,12,11,10,9,8,7,6,5,4,3,2,1,0] [(2,bA false),(69,bA false),(68,.lit undef),(67,.lit undef),(66,bA v8),(65,bA v8),(64,bA v8),(63,.agg [sA v1.Name,.isl 1 (List.map rStr v1.Params),sA v1.Ret,bA v1.Static,bA v1.Abstract,iA v1.Locals,iA v1.Stack,.isl 4 (List.map rApiIns v1.Code),.isl 3 (List.map rApiMap v1.Maps),.isl 4 (List.map rApiTrap v1.Traps)]),(62,bA v7),(61,bA v7),(60,bA v7),(59,.agg [sA v1.Name,.isl 1 (List.map rStr v1.Params),sA v1.Ret,bA v1.Static,bA v1.Abstract,iA v1.Locals,iA v1.Stack,.isl 4 (List.map rApiIns v1.Code),.isl 3 (List.map rApiMap v1.Maps),.isl 4 (List.map rApiTrap v1.Traps)]),(58,bA (class_between v1.Stack 0 16)),(57,bA (class_between v1.Stack 0 16)),(56,bA (class_between v1.Stack 0 16)),(55,iA v1.Stack),(54,.mpt 0 0 6),(53,bA (class_between v1.Locals (class_args v1) 16)),(52,bA (class_between v1.Locals (class_args v1) 16)),(51,iA (class_args v1)),(50,.agg [sA v1.Name,.isl 1 (List.map rStr v1.Params),sA v1.Ret,bA v1.Static,bA v1.Abstract,iA v1.Locals,iA v1.Stack,.isl 4 (List.map rApiIns v1.Code),.isl 3 (List.map rApiMap v1.Maps),.isl 4 (List.map rApiTrap v1.Traps)]),(49,iA v1.Locals),(48,.mpt 0 0 5)] 0 (by kernel_rfl) (by kernel_rfl) j0 (by kernel_rfl) (dt0 ⟨(fun _=>pa j0 j0 j0 j0 (asg j0<|j4)),(fun _=>pa j0 j0 j0 j0 (pkb j0 hb20 j0<|j4)),(fun _=>pas (b:=v8) j0 j0 j0 j0 hb20 j0),(fun _=>pas (b:=v8) j0 j0 j0 j0 hb20 j0),(fun _=>pa j0 j0 j0 j0 (mv j0<|j4)),(fun _=>pa j0 j0 j0 j0 (pkb j0 hb18 j0<|j4)),(fun _=>pag (b:=v7) j0 j0 j0 j0 hb18 j0 (pc (class_maps_ok v1 q19) j0 j0 j0<|j4)),(fun _=>pag (b:=v7) j0 j0 j0 j0 hb18 j0 (ld ti38 j0 j0<|j4)),(fun _=>pa j0 j0 j0 j0 (mv j0<|j4)),(fun _=>pa j0 j0 j0 j0 (pkb j0 hb16 j0<|j4)),(fun _=>pag (b:=(class_between v1.Stack 0 16)) j0 j0 j0 j0 hb16 j0 (pc (class_instructions_ok v1 q17) j0 j0 j0<|j4)),(fun _=>pag (b:=(class_between v1.Stack 0 16)) j0 j0 j0 j0 hb16 j0 (ld ti38 j0 j0<|j4)),(fun _=>pa j0 j0 j0 j0 (mv j0<|j4)),(fun _=>pa j0 j0 j0 j0 (pkb j0 hb15 j0<|j4)),(fun _=>pag (b:=(class_between v1.Locals (class_args v1) 16)) j0 j0 j0 j0 hb15 j0 (pc (class_between_ok v1.Stack 0 16 j0) j0 j0 j0<|j4)),(fun _=>pag (b:=(class_between v1.Locals (class_args v1) 16)) j0 j0 j0 j0 hb15 j0 (ld ti3 j0 j0<|j4)),(fun _=>pag (b:=(class_between v1.Locals (class_args v1) 16)) j0 j0 j0 j0 hb15 j0 (fa ti38 j0 j0 j0<|j4)),(fun _=>pa j0 j0 j0 j0 (mv j0<|j4)),(fun _=>pa j0 j0 j0 j0 (pc (class_between_ok v1.Locals (class_args v1) 16 j0) j0 j0 j0<|j4)),(fun _=>pa j0 j0 j0 j0 (pc (class_args_ok v1 j0) j0 j0 j0<|j4)),(fun _=>pa j0 j0 j0 j0 (ld ti38 j0 j0<|j4)),(fun _=>pa j0 j0 j0 j0 (ld ti3 j0 j0<|j4)),(fun _=>pa j0 j0 j0 j0 (fa ti38 j0 j0 j0<|j4)),j5⟩ (by kernel_rfl) j0 ⟨false,h,[],ce j0 j0<|cn,j0,j5,j0,j1⟩)
       ·
        replace h:=bF hb18 h
        exact sw_region_dt [] [22,21,20,19,18,17,16,15,14,13,12,11,10,9,8,7,6,5,4,3,2,1,0] [(2,bA false),(69,bA false),(68,.lit undef),(67,.lit undef),(66,bA false),(65,bA false),(64,.lit undef),(63,.lit undef),(62,bA v7),(61,bA v7),(60,bA v7),(59,.agg [sA v1.Name,.isl 1 (List.map rStr v1.Params),sA v1.Ret,bA v1.Static,bA v1.Abstract,iA v1.Locals,iA v1.Stack,.isl 4 (List.map rApiIns v1.Code),.isl 3 (List.map rApiMap v1.Maps),.isl 4 (List.map rApiTrap v1.Traps)]),(58,bA (class_between v1.Stack 0 16)),(57,bA (class_between v1.Stack 0 16)),(56,bA (class_between v1.Stack 0 16)),(55,iA v1.Stack),(54,.mpt 0 0 6),(53,bA (class_between v1.Locals (class_args v1) 16)),(52,bA (class_between v1.Locals (class_args v1) 16)),(51,iA (class_args v1)),(50,.agg [sA v1.Name,.isl 1 (List.map rStr v1.Params),sA v1.Ret,bA v1.Static,bA v1.Abstract,iA v1.Locals,iA v1.Stack,.isl 4 (List.map rApiIns v1.Code),.isl 3 (List.map rApiMap v1.Maps),.isl 4 (List.map rApiTrap v1.Traps)]),(49,iA v1.Locals),(48,.mpt 0 0 5)] 0 (by kernel_rfl) (by kernel_rfl) j0 (by kernel_rfl) (dt0 ⟨(fun _=>pa j0 j0 j0 j0 (asg j0<|j4)),(fun _=>pa j0 j0 j0 j0 (pk (b:=false) j0 j0<|j4)),(fun _=>pas (b:=false) j0 j0 j0 j0 j0 j0),(fun _=>pas (b:=false) j0 j0 j0 j0 j0 j0),(fun _=>pa j0 j0 j0 j0 (mv j0<|j4)),(fun _=>pa j0 j0 j0 j0 (pkb j0 hb18 j0<|j4)),(fun _=>pas (b:=v7) j0 j0 j0 j0 hb18 j0),(fun _=>pas (b:=v7) j0 j0 j0 j0 hb18 j0),(fun _=>pa j0 j0 j0 j0 (mv j0<|j4)),(fun _=>pa j0 j0 j0 j0 (pkb j0 hb16 j0<|j4)),(fun _=>pag (b:=(class_between v1.Stack 0 16)) j0 j0 j0 j0 hb16 j0 (pc (class_instructions_ok v1 q17) j0 j0 j0<|j4)),(fun _=>pag (b:=(class_between v1.Stack 0 16)) j0 j0 j0 j0 hb16 j0 (ld ti38 j0 j0<|j4)),(fun _=>pa j0 j0 j0 j0 (mv j0<|j4)),(fun _=>pa j0 j0 j0 j0 (pkb j0 hb15 j0<|j4)),(fun _=>pag (b:=(class_between v1.Locals (class_args v1) 16)) j0 j0 j0 j0 hb15 j0 (pc (class_between_ok v1.Stack 0 16 j0) j0 j0 j0<|j4)),(fun _=>pag (b:=(class_between v1.Locals (class_args v1) 16)) j0 j0 j0 j0 hb15 j0 (ld ti3 j0 j0<|j4)),(fun _=>pag (b:=(class_between v1.Locals (class_args v1) 16)) j0 j0 j0 j0 hb15 j0 (fa ti38 j0 j0 j0<|j4)),(fun _=>pa j0 j0 j0 j0 (mv j0<|j4)),(fun _=>pa j0 j0 j0 j0 (pc (class_between_ok v1.Locals (class_args v1) 16 j0) j0 j0 j0<|j4)),(fun _=>pa j0 j0 j0 j0 (pc (class_args_ok v1 j0) j0 j0 j0<|j4)),(fun _=>pa j0 j0 j0 j0 (ld ti38 j0 j0<|j4)),(fun _=>pa j0 j0 j0 j0 (ld ti3 j0 j0<|j4)),(fun _=>pa j0 j0 j0 j0 (fa ti38 j0 j0 j0<|j4)),j5⟩ (by kernel_rfl) j0 ⟨false,h,[],ce j0 j0<|cn,j0,j5,j0,j1⟩)
      ·
       replace h:=bF hb16 h
       exact sw_region_dt [] [22,21,20,19,18,17,16,15,14,13,12,11,10,9,8,7,6,5,4,3,2,1,0] [(2,bA false),(69,bA false),(68,.lit undef),(67,.lit undef),(66,bA false),(65,bA false),(64,.lit undef),(63,.lit undef),(62,bA false),(61,bA false),(60,.lit undef),(59,.lit undef),(58,bA (class_between v1.Stack 0 16)),(57,bA (class_between v1.Stack 0 16)),(56,bA (class_between v1.Stack 0 16)),(55,iA v1.Stack),(54,.mpt 0 0 6),(53,bA (class_between v1.Locals (class_args v1) 16)),(52,bA (class_between v1.Locals (class_args v1) 16)),(51,iA (class_args v1)),(50,.agg [sA v1.Name,.isl 1 (List.map rStr v1.Params),sA v1.Ret,bA v1.Static,bA v1.Abstract,iA v1.Locals,iA v1.Stack,.isl 4 (List.map rApiIns v1.Code),.isl 3 (List.map rApiMap v1.Maps),.isl 4 (List.map rApiTrap v1.Traps)]),(49,iA v1.Locals),(48,.mpt 0 0 5)] 0 (by kernel_rfl) (by kernel_rfl) j0 (by kernel_rfl) (dt0 ⟨(fun _=>pa j0 j0 j0 j0 (asg j0<|j4)),(fun _=>pa j0 j0 j0 j0 (pk (b:=false) j0 j0<|j4)),(fun _=>pas (b:=false) j0 j0 j0 j0 j0 j0),(fun _=>pas (b:=false) j0 j0 j0 j0 j0 j0),(fun _=>pa j0 j0 j0 j0 (mv j0<|j4)),(fun _=>pa j0 j0 j0 j0 (pk (b:=false) j0 j0<|j4)),(fun _=>pas (b:=false) j0 j0 j0 j0 j0 j0),(fun _=>pas (b:=false) j0 j0 j0 j0 j0 j0),(fun _=>pa j0 j0 j0 j0 (mv j0<|j4)),(fun _=>pa j0 j0 j0 j0 (pkb j0 hb16 j0<|j4)),(fun _=>pas (b:=(class_between v1.Stack 0 16)) j0 j0 j0 j0 hb16 j0),(fun _=>pas (b:=(class_between v1.Stack 0 16)) j0 j0 j0 j0 hb16 j0),(fun _=>pa j0 j0 j0 j0 (mv j0<|j4)),(fun _=>pa j0 j0 j0 j0 (pkb j0 hb15 j0<|j4)),(fun _=>pag (b:=(class_between v1.Locals (class_args v1) 16)) j0 j0 j0 j0 hb15 j0 (pc (class_between_ok v1.Stack 0 16 j0) j0 j0 j0<|j4)),(fun _=>pag (b:=(class_between v1.Locals (class_args v1) 16)) j0 j0 j0 j0 hb15 j0 (ld ti3 j0 j0<|j4)),(fun _=>pag (b:=(class_between v1.Locals (class_args v1) 16)) j0 j0 j0 j0 hb15 j0 (fa ti38 j0 j0 j0<|j4)),(fun _=>pa j0 j0 j0 j0 (mv j0<|j4)),(fun _=>pa j0 j0 j0 j0 (pc (class_between_ok v1.Locals (class_args v1) 16 j0) j0 j0 j0<|j4)),(fun _=>pa j0 j0 j0 j0 (pc (class_args_ok v1 j0) j0 j0 j0<|j4)),(fun _=>pa j0 j0 j0 j0 (ld ti38 j0 j0<|j4)),(fun _=>pa j0 j0 j0 j0 (ld ti3 j0 j0<|j4)),(fun _=>pa j0 j0 j0 j0 (fa ti38 j0 j0 j0<|j4)),j5⟩ (by kernel_rfl) j0 ⟨false,h,[],ce j0 j0<|cn,j0,j5,j0,j1⟩)
     ·
      replace h:=bF hb15 h
      exact sw_region_dt [] [22,21,20,19,18,17,16,15,14,13,12,11,10,9,8,7,6,5,4,3,2,1,0] [(2,bA false),(69,bA false),(68,.lit undef),(67,.lit undef),(66,bA false),(65,bA false),(64,.lit undef),(63,.lit undef),(62,bA false),(61,bA false),(60,.lit undef),(59,.lit undef),(58,bA false),(57,bA false),(56,.lit undef),(55,.lit undef),(54,.lit undef),(53,bA (class_between v1.Locals (class_args v1) 16)),(52,bA (class_between v1.Locals (class_args v1) 16)),(51,iA (class_args v1)),(50,.agg [sA v1.Name,.isl 1 (List.map rStr v1.Params),sA v1.Ret,bA v1.Static,bA v1.Abstract,iA v1.Locals,iA v1.Stack,.isl 4 (List.map rApiIns v1.Code),.isl 3 (List.map rApiMap v1.Maps),.isl 4 (List.map rApiTrap v1.Traps)]),(49,iA v1.Locals),(48,.mpt 0 0 5)] 0 (by kernel_rfl) (by kernel_rfl) j0 (by kernel_rfl) (dt0 ⟨(fun _=>pa j0 j0 j0 j0 (asg j0<|j4)),(fun _=>pa j0 j0 j0 j0 (pk (b:=false) j0 j0<|j4)),(fun _=>pas (b:=false) j0 j0 j0 j0 j0 j0),(fun _=>pas (b:=false) j0 j0 j0 j0 j0 j0),(fun _=>pa j0 j0 j0 j0 (mv j0<|j4)),(fun _=>pa j0 j0 j0 j0 (pk (b:=false) j0 j0<|j4)),(fun _=>pas (b:=false) j0 j0 j0 j0 j0 j0),(fun _=>pas (b:=false) j0 j0 j0 j0 j0 j0),(fun _=>pa j0 j0 j0 j0 (mv j0<|j4)),(fun _=>pa j0 j0 j0 j0 (pk (b:=false) j0 j0<|j4)),(fun _=>pas (b:=false) j0 j0 j0 j0 j0 j0),(fun _=>pas (b:=false) j0 j0 j0 j0 j0 j0),(fun _=>pa j0 j0 j0 j0 (mv j0<|j4)),(fun _=>pa j0 j0 j0 j0 (pkb j0 hb15 j0<|j4)),(fun _=>pas (b:=(class_between v1.Locals (class_args v1) 16)) j0 j0 j0 j0 hb15 j0),(fun _=>pas (b:=(class_between v1.Locals (class_args v1) 16)) j0 j0 j0 j0 hb15 j0),(fun _=>pas (b:=(class_between v1.Locals (class_args v1) 16)) j0 j0 j0 j0 hb15 j0),(fun _=>pa j0 j0 j0 j0 (mv j0<|j4)),(fun _=>pa j0 j0 j0 j0 (pc (class_between_ok v1.Locals (class_args v1) 16 j0) j0 j0 j0<|j4)),(fun _=>pa j0 j0 j0 j0 (pc (class_args_ok v1 j0) j0 j0 j0<|j4)),(fun _=>pa j0 j0 j0 j0 (ld ti38 j0 j0<|j4)),(fun _=>pa j0 j0 j0 j0 (ld ti3 j0 j0<|j4)),(fun _=>pa j0 j0 j0 j0 (fa ti38 j0 j0 j0<|j4)),j5⟩ (by kernel_rfl) j0 ⟨false,h,[],ce j0 j0<|cn,j0,j5,j0,j1⟩)
    ·
     rintro v10 h
     replace h : class_method_j1 v10 = some r:=h
     unfold class_method_j1 at h
     refine sw_ret ?_
     obtain rfl:=sm h
     exact ⟨_,j0,[],ci j0,j0,j5,j0,j1⟩
def class_May_4 (v1 : ApiMethod) (v2 : List UInt8) (v3 : List UInt8) (v4 : Bool) (v5 : List (List UInt8)) (v6 : List ApiField) (v7 : List ApiMethod) : Option (Bool) :=
  (cond (v1.Abstract == v4) ((class_method v1).bind fun v8=>some v8) (some false)).bind fun v9=>some v9
theorem class_May_4_ok (v1 : ApiMethod) (v2 : List UInt8) (v3 : List UInt8) (v4 : Bool) (v5 : List (List UInt8)) (v6 : List ApiField) (v7 : List ApiMethod) {r : Bool} (h : class_May_4 v1 v2 v3 v4 v5 v6 v7 = some r) : PureC Tryz.prog 156 [.agg [sA v1.Name,.isl 1 (List.map rStr v1.Params),sA v1.Ret,bA v1.Static,bA v1.Abstract,iA v1.Locals,iA v1.Stack,.isl 4 (List.map rApiIns v1.Code),.isl 3 (List.map rApiMap v1.Maps),.isl 4 (List.map rApiTrap v1.Traps)],.ipt 6 [[sA v2,sA v3,bA v4,.isl 1 (List.map rStr v5),.isl 3 (List.map rApiField v6),.isl 10 (List.map rApiMethod v7)]] 0 0] (bA r):=by
 refine pure_fn Tryz.func156 j0 (by kernel_rfl) j0 j0 ?_
 unfold class_May_4 at h
 refine rg j0<|u<|bx 0 10 j0 j0 j0 j0<|u<|asg j0<|r_nil ?_
 obtain ⟨v9,q3,h⟩:=bs h
 refine rg j0<|u<|fa ti38 j0 j0 j0<|u<|ld ti4 j0 j0<|u<|fa ti26 j0 j0 j0<|u<|ld ti4 j0 j0<|u<|beq ti4 j0 j0 j0<|u<|mv j0<|r_and (x:=v9) (j:=5) 2 j0 j0 j0 j0 j0 gpn (fun hb1=>by replace q3:=bT hb1 q3; obtain ⟨v8,q2,q3⟩:=bs q3; obtain rfl:=sm q3; exact g j0 hb1<|ld ti38 j0 j0<|g j0 hb1<|pc (class_method_ok v1 q2) j0 j0 j0<|r_nil (eg [10,11] 2 j0 j0 j0 j0)) (fun hb=>(sm (bF hb q3)).symm)<|u<|asg j0<|r_nil ?_
 refine sw_ret ?_
 obtain rfl:=sm h
 exact ⟨_,j0,[],ci j0,j0,j5,j0,j1⟩
def class_May_3 (v1 : ApiMethod) : (List UInt8) :=
  v1.Name
theorem class_May_3_ok (v1 : ApiMethod) {r : (List UInt8)} (h : class_May_3 v1 = r) : PureC Tryz.prog 155 [.agg [sA v1.Name,.isl 1 (List.map rStr v1.Params),sA v1.Ret,bA v1.Static,bA v1.Abstract,iA v1.Locals,iA v1.Stack,.isl 4 (List.map rApiIns v1.Code),.isl 3 (List.map rApiMap v1.Maps),.isl 4 (List.map rApiTrap v1.Traps)]] (sA r):=by
 refine pure_fn Tryz.func155 j0 (by kernel_rfl) j0 j0 ?_
 unfold class_May_3 at h
 refine rg j0<|u<|bx 0 10 j0 j0 j0 j0<|u<|asg j0<|r_nil ?_
 refine rg j0<|u<|fa ti38 j0 j0 j0<|u<|ld ti9 j0 j0<|u<|asg j0<|r_nil ?_
 refine sw_ret ?_
 obtain rfl:=h
 exact ⟨_,j0,[],ci j0,j0,j5,j0,j1⟩
def class_all_api_Method_1 (v1 : ApiMethod) (v2 : List UInt8) (v3 : List (List UInt8)) (v4 : List UInt8) (v5 : Bool) (v6 : Bool) (v7 : Int) (v8 : Int) (v9 : List ApiIns) (v10 : List ApiMap) (v11 : List ApiTrap) : Bool :=
  ((class_May_3 (ApiMethod.mk v2 v3 v4 v5 v6 v7 v8 v9 v10 v11)) == (class_May_3 v1))
theorem class_all_api_Method_1_ok (v1 : ApiMethod) (v2 : List UInt8) (v3 : List (List UInt8)) (v4 : List UInt8) (v5 : Bool) (v6 : Bool) (v7 : Int) (v8 : Int) (v9 : List ApiIns) (v10 : List ApiMap) (v11 : List ApiTrap) {r : Bool} (h : class_all_api_Method_1 v1 v2 v3 v4 v5 v6 v7 v8 v9 v10 v11 = r) : PureC Tryz.prog 240 [.agg [sA v1.Name,.isl 1 (List.map rStr v1.Params),sA v1.Ret,bA v1.Static,bA v1.Abstract,iA v1.Locals,iA v1.Stack,.isl 4 (List.map rApiIns v1.Code),.isl 3 (List.map rApiMap v1.Maps),.isl 4 (List.map rApiTrap v1.Traps)],.ipt 1 [[.fn (.func 155) [] []]] 0 0,.ipt 10 [[sA v2,.isl 1 (List.map rStr v3),sA v4,bA v5,bA v6,iA v7,iA v8,.isl 4 (List.map rApiIns v9),.isl 3 (List.map rApiMap v10),.isl 4 (List.map rApiTrap v11)]] 0 0] (bA r):=by
 refine pure_fn Tryz.func240 j0 (by kernel_rfl) j0 j0 ?_
 unfold class_all_api_Method_1 at h
 refine rg j0<|u<|bx 0 10 j0 j0 j0 j0<|u<|asg j0<|r_nil ?_
 refine rd [(4,bA ((class_May_3 (ApiMethod.mk v2 v3 v4 v5 v6 v7 v8 v9 v10 v11)) == (class_May_3 v1)))] [] [] [7,6,5,4,3,2,1,0] [(4,bA ((class_May_3 (ApiMethod.mk v2 v3 v4 v5 v6 v7 v8 v9 v10 v11)) == (class_May_3 v1))),(11,bA ((class_May_3 (ApiMethod.mk v2 v3 v4 v5 v6 v7 v8 v9 v10 v11)) == (class_May_3 v1))),(10,sA (class_May_3 v1)),(9,.agg [sA v1.Name,.isl 1 (List.map rStr v1.Params),sA v1.Ret,bA v1.Static,bA v1.Abstract,iA v1.Locals,iA v1.Stack,.isl 4 (List.map rApiIns v1.Code),.isl 3 (List.map rApiMap v1.Maps),.isl 4 (List.map rApiTrap v1.Traps)]),(8,.fn (.func 155) [] []),(7,sA (class_May_3 (ApiMethod.mk v2 v3 v4 v5 v6 v7 v8 v9 v10 v11))),(6,.agg [sA v2,.isl 1 (List.map rStr v3),sA v4,bA v5,bA v6,iA v7,iA v8,.isl 4 (List.map rApiIns v9),.isl 3 (List.map rApiMap v10),.isl 4 (List.map rApiTrap v11)]),(5,.fn (.func 155) [] [])] 0 (by kernel_rfl) (by kernel_rfl) j0 (by kernel_rfl) (dt0 ⟨(fun _=>pa j0 j0 j0 j0 (asg j0<|j4)),(fun _=>pa j0 j0 j0 j0 (seq ti9 j0 j0<|j4)),(fun _=>pa j0 j0 j0 j0 (pc (class_May_3_ok v1 j0) j0 j0 j0<|j4)),(fun _=>pa j0 j0 j0 j0 (ld ti38 j0 j0<|j4)),(fun _=>pa j0 j0 j0 j0 (ld ti201 j0 j0<|j4)),(fun _=>pa j0 j0 j0 j0 (pc (class_May_3_ok (ApiMethod.mk v2 v3 v4 v5 v6 v7 v8 v9 v10 v11) j0) j0 j0 j0<|j4)),(fun _=>pa j0 j0 j0 j0 (ld ti38 j0 j0<|j4)),(fun _=>pa j0 j0 j0 j0 (ld ti201 j0 j0<|j4)),j5⟩ (by kernel_rfl) j0 ⟨[],ce j0 j0<|cn,j0,j5,j0,j1⟩) ?_
 refine sw_ret ?_
 obtain rfl:=h
 exact ⟨_,j0,[],ci j0,j0,j5,j0,j1⟩
def slices_IndexFunc_api_Method_api_Method_k2 : Option (Int) :=
  some (-1)
def slices_IndexFunc_api_Method_api_Method_l1 (v1 : List ApiMethod) (v2 : List UInt8) (v3 : List (List UInt8)) (v4 : List UInt8) (v5 : Bool) (v6 : Bool) (v7 : Int) (v8 : Int) (v9 : List ApiIns) (v10 : List ApiMap) (v11 : List ApiTrap) (v14 : Int) : Option (Sum (Int) (Sum (Unit) (Int))) :=
  cond (decide (v14 < (List.length v1 : Int))) ((idx v1 v14).bind fun v15=>cond (class_all_api_Method_1 v15 v2 v3 v4 v5 v6 v7 v8 v9 v10 v11) (some (.inr (.inr v14))) (some (.inl (IntKind.i64.wrap (v14 + 1))))) (some (.inr (.inl ())))
def slices_IndexFunc_api_Method_api_Method (v1 : List ApiMethod) (v2 : List UInt8) (v3 : List (List UInt8)) (v4 : List UInt8) (v5 : Bool) (v6 : Bool) (v7 : Int) (v8 : Int) (v9 : List ApiIns) (v10 : List ApiMap) (v11 : List ApiTrap) : Option (Int) :=
  (loopP (fun z=>slices_IndexFunc_api_Method_api_Method_l1 v1 v2 v3 v4 v5 v6 v7 v8 v9 v10 v11 z) 0).bind fun o=>leave o (fun b=>slices_IndexFunc_api_Method_api_Method_k2) some
theorem slices_IndexFunc_api_Method_api_Method_ok (v1 : List ApiMethod) (v2 : List UInt8) (v3 : List (List UInt8)) (v4 : List UInt8) (v5 : Bool) (v6 : Bool) (v7 : Int) (v8 : Int) (v9 : List ApiIns) (v10 : List ApiMap) (v11 : List ApiTrap) {r : Int} (h : slices_IndexFunc_api_Method_api_Method v1 v2 v3 v4 v5 v6 v7 v8 v9 v10 v11 = some r) : PureC Tryz.prog 225 [.isl 10 (List.map rApiMethod v1),.fn (.func 240) [] [.ipt 1 [[.fn (.func 155) [] []]] 0 0,.ipt 10 [[sA v2,.isl 1 (List.map rStr v3),sA v4,bA v5,bA v6,iA v7,iA v8,.isl 4 (List.map rApiIns v9),.isl 3 (List.map rApiMap v10),.isl 4 (List.map rApiTrap v11)]] 0 0]] (iA r):=by
 refine pure_fn Tryz.func225 j0 (by kernel_rfl) j0 j0 ?_
 unfold slices_IndexFunc_api_Method_api_Method at h
 refine rg j0<|u<|asg j0<|r_nil ?_
 refine sw_seq ?_
 refine rg j0<|u<|mv j0<|u<|lnI ti24 j0 j0<|u<|mv j0<|r_nil ?_
 obtain ⟨o,ho,h⟩:=bs h
 refine sw_lpl (X:=Int) (B:=Unit) (R:=Int) (fun z=>[(0,.isl 10 (List.map rApiMethod v1)),(1,.fn (.func 240) [] [.ipt 1 [[.fn (.func 155) [] []]] 0 0,.ipt 10 [[sA v2,.isl 1 (List.map rStr v3),sA v4,bA v5,bA v6,iA v7,iA v8,.isl 4 (List.map rApiIns v9),.isl 3 (List.map rApiMap v10),.isl 4 (List.map rApiTrap v11)]] 0 0]),(7,iA (List.length v1 : Int)),(8,iA z)]) (fun z=>[]) (fun b=>[]) (fun b=>[]) (fun r env st=>PostF Tryz.prog Tryz.f225 0 (iA r) [] env st) ho ⟨[],ce j0 j0<|ce j0 j0<|ce j0 j0<|ce j0 j0<|cn,j0,j5,j0,j1⟩ ?_ ?_ ?_
 ·
  rintro v14 r h
  replace h : slices_IndexFunc_api_Method_api_Method_l1 v1 v2 v3 v4 v5 v6 v7 v8 v9 v10 v11 v14 = some r:=h
  unfold slices_IndexFunc_api_Method_api_Method_l1 at h
  refine rg j0<|u<|lss ti3 j0 j0<|r_nil ?_
  refine sw_seq ?_
  refine sw_cond j0 (fun hc4=>?_) (fun hc4=>?_)
  ·
   replace h:=bT hc4 h
   refine sw_skip ?_
   refine sw_seq ?_
   refine sw_block ?_
   refine rg j0<|u<|mv j0<|u<|asg j0<|r_nil ?_
   obtain ⟨v15,q5,h⟩:=bs h
   refine rg j0<|u<|mv j0<|u<|mv j0<|u<|mv j0<|u<|ixI ti24 j0 ti38 j0 j0 j0 q5<|u<|ldI ti38 j0 (idx_some q5).2.2 j0<|u<|pc (class_all_api_Method_1_ok v15 v2 v3 v4 v5 v6 v7 v8 v9 v10 v11 j0) j0 j0 j0<|r_nil ?_
   refine sw_cond j0 (fun hc6=>?_) (fun hc6=>?_)
   ·
    replace h:=bT hc6 h
    refine rg j0<|u<|mv j0<|u<|asg j0<|r_nil ?_
    refine sw_ret ?_
    obtain rfl:=sm h
    exact ⟨_,j0,_,j0,[],ci j0,j0,j5,j0,j1⟩
   ·
    replace h:=bF hc6 h
    refine sw_skip ?_
    refine rl j0<|u<|add ti3 j0 j0<|u<|mv j0<|r_nil ?_
    obtain rfl:=sm h
    exact ⟨_,j0,[],ce j0 j0<|ce j0 j0<|ce j0 j0<|ce j0 j0<|cn,j0,j5,j0,j1⟩
  ·
   replace h:=bF hc4 h
   refine sw_exit ?_
   obtain rfl:=sm h
   exact ⟨j0,_,j0,[],cn,j0,j5,j0,j1⟩
 ·
  rintro ⟨⟩ rfl
  replace h : slices_IndexFunc_api_Method_api_Method_k2 = some r:=h
  unfold slices_IndexFunc_api_Method_api_Method_k2 at h
  refine ow_intro ?_
  refine rg j0<|u<|asg j0<|r_nil ?_
  refine sw_ret ?_
  obtain rfl:=sm h
  exact ⟨_,j0,[],ci j0,j0,j5,j0,j1⟩
 ·
  rintro r' rfl env st hp
  obtain rfl:=sm h
  exact hp
def slices_ContainsFunc_api_Method_api_Method (v1 : List ApiMethod) (v2 : List UInt8) (v3 : List (List UInt8)) (v4 : List UInt8) (v5 : Bool) (v6 : Bool) (v7 : Int) (v8 : Int) (v9 : List ApiIns) (v10 : List ApiMap) (v11 : List ApiTrap) : Option (Bool) :=
  (slices_IndexFunc_api_Method_api_Method v1 v2 v3 v4 v5 v6 v7 v8 v9 v10 v11).bind fun v12=>some (decide (0 ≤ v12))
theorem slices_ContainsFunc_api_Method_api_Method_ok (v1 : List ApiMethod) (v2 : List UInt8) (v3 : List (List UInt8)) (v4 : List UInt8) (v5 : Bool) (v6 : Bool) (v7 : Int) (v8 : Int) (v9 : List ApiIns) (v10 : List ApiMap) (v11 : List ApiTrap) {r : Bool} (h : slices_ContainsFunc_api_Method_api_Method v1 v2 v3 v4 v5 v6 v7 v8 v9 v10 v11 = some r) : PureC Tryz.prog 239 [.isl 10 (List.map rApiMethod v1),.fn (.func 240) [] [.ipt 1 [[.fn (.func 155) [] []]] 0 0,.ipt 10 [[sA v2,.isl 1 (List.map rStr v3),sA v4,bA v5,bA v6,iA v7,iA v8,.isl 4 (List.map rApiIns v9),.isl 3 (List.map rApiMap v10),.isl 4 (List.map rApiTrap v11)]] 0 0]] (bA r):=by
 refine pure_fn Tryz.func239 j0 (by kernel_rfl) j0 j0 ?_
 unfold slices_ContainsFunc_api_Method_api_Method at h
 refine rg j0<|u<|asg j0<|r_nil ?_
 obtain ⟨v12,q1,h⟩:=bs h
 refine rg j0<|u<|mv j0<|u<|mv j0<|u<|pc (slices_IndexFunc_api_Method_api_Method_ok v1 v2 v3 v4 v5 v6 v7 v8 v9 v10 v11 q1) j0 j0 j0<|u<|geq ti3 j0 j0<|u<|asg j0<|r_nil ?_
 refine sw_ret ?_
 obtain rfl:=sm h
 exact ⟨_,j0,[],ci j0,j0,j5,j0,j1⟩
def class_all_api_Method_k2 (v1 : List ApiMethod) (v2 : Int) : Option (Bool) :=
  some (decide ((List.length v1 : Int) ≤ v2))
def class_all_api_Method_l1 (v1 : List ApiMethod) (v3 : List UInt8) (v4 : List UInt8) (v5 : Bool) (v6 : List (List UInt8)) (v7 : List ApiField) (v8 : List ApiMethod) (v15 : Int) : Option (Sum (Int) (Sum (Unit) (Bool))) :=
  cond (decide (v15 < (List.length v1 : Int))) ((idx v1 v15).bind fun v16=>(class_May_4 v16 v3 v4 v5 v6 v7 v8).bind fun v17=>(cond (!v17) (some true) ((cutP v1 0 v15).bind fun v18=>(slices_ContainsFunc_api_Method_api_Method v18 v16.Name v16.Params v16.Ret v16.Static v16.Abstract v16.Locals v16.Stack v16.Code v16.Maps v16.Traps).bind fun v19=>some v19)).bind fun v20=>cond v20 (some (.inr (.inr false))) (some (.inl (IntKind.i64.wrap (v15 + 1))))) (some (.inr (.inl ())))
def class_all_api_Method (v1 : List ApiMethod) (v2 : Int) (v3 : List UInt8) (v4 : List UInt8) (v5 : Bool) (v6 : List (List UInt8)) (v7 : List ApiField) (v8 : List ApiMethod) : Option (Bool) :=
  (loopP (fun z=>class_all_api_Method_l1 v1 v3 v4 v5 v6 v7 v8 z) 0).bind fun o=>leave o (fun b=>class_all_api_Method_k2 v1 v2) some
theorem class_all_api_Method_ok (v1 : List ApiMethod) (v2 : Int) (v3 : List UInt8) (v4 : List UInt8) (v5 : Bool) (v6 : List (List UInt8)) (v7 : List ApiField) (v8 : List ApiMethod) {r : Bool} (h : class_all_api_Method v1 v2 v3 v4 v5 v6 v7 v8 = some r) : PureC Tryz.prog 154 [.isl 10 (List.map rApiMethod v1),iA v2,.fn (.func 155) [] [],.fn (.func 156) [] [.ipt 6 [[sA v3,sA v4,bA v5,.isl 1 (List.map rStr v6),.isl 3 (List.map rApiField v7),.isl 10 (List.map rApiMethod v8)]] 0 0]] (bA r):=by
 refine pure_fn Tryz.func154 j0 (by kernel_rfl) j0 j0 ?_
 unfold class_all_api_Method at h
 refine rg j0<|u<|bx 0 1 j0 j0 j0 j0<|u<|asg j0<|r_nil ?_
 refine sw_seq ?_
 refine rg j0<|u<|mv j0<|u<|lnI ti24 j0 j0<|u<|mv j0<|r_nil ?_
 obtain ⟨o,ho,h⟩:=bs h
 refine sw_lpl (X:=Int) (B:=Unit) (R:=Bool) (fun z=>[(0,.isl 10 (List.map rApiMethod v1)),(1,iA v2),(3,.fn (.func 156) [] [.ipt 6 [[sA v3,sA v4,bA v5,.isl 1 (List.map rStr v6),.isl 3 (List.map rApiField v7),.isl 10 (List.map rApiMethod v8)]] 0 0]),(6,.mpt 0 0 0),(11,.isl 10 (List.map rApiMethod v1)),(12,iA (List.length v1 : Int)),(13,iA z)]) (fun z=>[some (1,[[.fn (.func 155) [] []]])]) (fun b=>[(0,.isl 10 (List.map rApiMethod v1)),(1,iA v2)]) (fun b=>[]) (fun r env st=>PostF Tryz.prog Tryz.f154 0 (bA r) [] env st) ho ⟨[.old 0],ce j0 j0<|ce j0 j0<|ce j0 j0<|cv j0 (.mpt j0)<|ce j0 j0<|ce j0 j0<|ce j0 j0<|cn,j0,⟨⟨_,j0,rsOne ⟨ci j0,j5⟩⟩,j5⟩,j0,j1⟩ ?_ ?_ ?_
 ·
  rintro v15 r h
  replace h : class_all_api_Method_l1 v1 v3 v4 v5 v6 v7 v8 v15 = some r:=h
  unfold class_all_api_Method_l1 at h
  refine rg j0<|u<|lss ti3 j0 j0<|r_nil ?_
  refine sw_seq ?_
  refine sw_cond j0 (fun hc9=>?_) (fun hc9=>?_)
  ·
   replace h:=bT hc9 h
   refine sw_skip ?_
   refine sw_seq ?_
   refine sw_block ?_
   obtain ⟨v16,q10,h⟩:=bs h
   refine rg j0<|u<|mv j0<|u<|ixI ti24 j0 ti38 j0 j0 j0 q10<|u<|ldI ti38 j0 (idx_some q10).2.2 j0<|u<|al 1 ti38 j0<|u<|asg j0<|u<|sto ti38 j0 j0 j0<|r_nil ?_
   obtain ⟨v17,q11,h⟩:=bs h
   obtain ⟨v20,q15,h⟩:=bs h
   refine rg j0<|u<|mv j0<|u<|ld ti38 j0 j0<|u<|pc (class_May_4_ok v16 v3 v4 v5 v6 v7 v8 q11) j0 j0 j0<|u<|nt j0<|u<|mv j0<|r_or (x:=v20) (j:=4) 5 j0 j0 j0 j0 j0 gpn (fun hb12=>by replace q15:=bF hb12 q15; obtain ⟨v18,q13,q15⟩:=bs q15; obtain ⟨v19,q14,q15⟩:=bs q15; obtain rfl:=sm q15; exact g j0 hb12<|mv j0<|g j0 hb12<|mv j0<|g j0 hb12<|slI (a:=0) (b:=v15) ti24 j0 ti38 j0 j0 j0 (bnd_hi j0 q13) q13<|g j0 hb12<|mf j0 j0<|g j0 hb12<|pcs (slices_ContainsFunc_api_Method_api_Method_ok v18 v16.Name v16.Params v16.Ret v16.Static v16.Abstract v16.Locals v16.Stack v16.Code v16.Maps v16.Traps q14) j0 j0 (.cons (si j0) (.cons (sealFn j5 ⟨(sealBox j0 ⟨(si j0),j5⟩),(sealBox j0 ⟨(si j0),(si j0),(si j0),(si j0),(si j0),(si j0),(si j0),(si j0),(si j0),(si j0),j5⟩),j5⟩) .nil)) plainB<|r_nil (eg [23,24,25,26,27] 5 j0 j0 j0 j0)) (fun hb=>(sm (bT hb q15)).symm)<|r_nil ?_
   refine sw_cond j0 (fun hc16=>?_) (fun hc16=>?_)
   ·
    replace h:=bT hc16 h
    refine rg j0<|u<|asg j0<|r_nil ?_
    refine sw_ret ?_
    obtain rfl:=sm h
    exact ⟨_,j0,_,j0,[],ci j0,j0,j5,j0,j1⟩
   ·
    replace h:=bF hc16 h
    refine sw_skip ?_
    refine rl j0<|u<|add ti3 j0 j0<|u<|mv j0<|r_nil ?_
    obtain rfl:=sm h
    exact ⟨_,j0,[.old 0],ce j0 j0<|ce j0 j0<|ce j0 j0<|cv j0 (.mpt j0)<|ce j0 j0<|ce j0 j0<|ce j0 j0<|cn,j0,⟨⟨_,j0,rsOne ⟨ci j0,j5⟩⟩,j5⟩,j0,j1⟩
  ·
   replace h:=bF hc9 h
   refine sw_exit ?_
   obtain rfl:=sm h
   exact ⟨j0,_,j0,[],ce j0 j0<|ce j0 j0<|cn,j0,j5,j0,j1⟩
 ·
  rintro ⟨⟩ rfl
  replace h : class_all_api_Method_k2 v1 v2 = some r:=h
  unfold class_all_api_Method_k2 at h
  refine ow_intro ?_
  refine rg j0<|u<|mv j0<|u<|lnI ti24 j0 j0<|u<|mv j0<|u<|leq ti3 j0 j0<|u<|asg j0<|r_nil ?_
  refine sw_ret ?_
  obtain rfl:=sm h
  exact ⟨_,j0,[],ci j0,j0,j5,j0,j1⟩
 ·
  rintro r' rfl env st hp
  obtain rfl:=sm h
  exact hp
def class_self (v1 : List UInt8) : (List UInt8) :=
  v1
theorem class_self_ok (v1 : List UInt8) {r : (List UInt8)} (h : class_self v1 = r) : PureC Tryz.prog 160 [sA v1] (sA r):=by
 refine pure_fn Tryz.func160 j0 (by kernel_rfl) j0 j0 ?_
 unfold class_self at h
 refine rg j0<|u<|asg j0<|r_nil ?_
 refine rg j0<|u<|mv j0<|u<|asg j0<|r_nil ?_
 refine sw_ret ?_
 obtain rfl:=h
 exact ⟨_,j0,[],ci j0,j0,j5,j0,j1⟩
def class_all_string_1 (v1 : List UInt8) (v2 : List UInt8) : Bool :=
  ((class_self v2) == (class_self v1))
theorem class_all_string_1_ok (v1 : List UInt8) (v2 : List UInt8) {r : Bool} (h : class_all_string_1 v1 v2 = r) : PureC Tryz.prog 250 [sA v1,.ipt 1 [[.fn (.func 160) [] []]] 0 0,.ipt 1 [[sA v2]] 0 0] (bA r):=by
 refine pure_fn Tryz.func250 j0 (by kernel_rfl) j0 j0 ?_
 unfold class_all_string_1 at h
 refine rg j0<|u<|asg j0<|r_nil ?_
 refine rd [(4,bA ((class_self v2) == (class_self v1)))] [] [] [7,6,5,4,3,2,1,0] [(4,bA ((class_self v2) == (class_self v1))),(11,bA ((class_self v2) == (class_self v1))),(10,sA (class_self v1)),(9,sA v1),(8,.fn (.func 160) [] []),(7,sA (class_self v2)),(6,sA v2),(5,.fn (.func 160) [] [])] 0 (by kernel_rfl) (by kernel_rfl) j0 (by kernel_rfl) (dt0 ⟨(fun _=>pa j0 j0 j0 j0 (asg j0<|j4)),(fun _=>pa j0 j0 j0 j0 (seq ti9 j0 j0<|j4)),(fun _=>pa j0 j0 j0 j0 (pc (class_self_ok v1 j0) j0 j0 j0<|j4)),(fun _=>pa j0 j0 j0 j0 (mv j0<|j4)),(fun _=>pa j0 j0 j0 j0 (ld ti182 j0 j0<|j4)),(fun _=>pa j0 j0 j0 j0 (pc (class_self_ok v2 j0) j0 j0 j0<|j4)),(fun _=>pa j0 j0 j0 j0 (ld ti9 j0 j0<|j4)),(fun _=>pa j0 j0 j0 j0 (ld ti182 j0 j0<|j4)),j5⟩ (by kernel_rfl) j0 ⟨[],ce j0 j0<|cn,j0,j5,j0,j1⟩) ?_
 refine sw_ret ?_
 obtain rfl:=h
 exact ⟨_,j0,[],ci j0,j0,j5,j0,j1⟩
def slices_IndexFunc_string_string_s3_k2 : Option (Int) :=
  some (-1)
def slices_IndexFunc_string_string_s3_l1 (v1 : List (List UInt8)) (v2 : List UInt8) (v5 : Int) : Option (Sum (Int) (Sum (Unit) (Int))) :=
  cond (decide (v5 < (List.length v1 : Int))) ((idx v1 v5).bind fun v6=>cond (class_all_string_1 v6 v2) (some (.inr (.inr v5))) (some (.inl (IntKind.i64.wrap (v5 + 1))))) (some (.inr (.inl ())))
def slices_IndexFunc_string_string_s3 (v1 : List (List UInt8)) (v2 : List UInt8) : Option (Int) :=
  (loopP (fun z=>slices_IndexFunc_string_string_s3_l1 v1 v2 z) 0).bind fun o=>leave o (fun b=>slices_IndexFunc_string_string_s3_k2) some
theorem slices_IndexFunc_string_string_s3_ok (v1 : List (List UInt8)) (v2 : List UInt8) {r : Int} (h : slices_IndexFunc_string_string_s3 v1 v2 = some r) : PureC Tryz.prog 181 [.isl 1 (List.map rStr v1),.fn (.func 250) [] [.ipt 1 [[.fn (.func 160) [] []]] 0 0,.ipt 1 [[sA v2]] 0 0]] (iA r):=by
 refine pure_fn Tryz.func181 j0 (by kernel_rfl) j0 j0 ?_
 unfold slices_IndexFunc_string_string_s3 at h
 refine rg j0<|u<|asg j0<|r_nil ?_
 refine sw_seq ?_
 refine rg j0<|u<|mv j0<|u<|lnI ti22 j0 j0<|u<|mv j0<|r_nil ?_
 obtain ⟨o,ho,h⟩:=bs h
 refine sw_lpl (X:=Int) (B:=Unit) (R:=Int) (fun z=>[(0,.isl 1 (List.map rStr v1)),(1,.fn (.func 250) [] [.ipt 1 [[.fn (.func 160) [] []]] 0 0,.ipt 1 [[sA v2]] 0 0]),(7,iA (List.length v1 : Int)),(8,iA z)]) (fun z=>[]) (fun b=>[]) (fun b=>[]) (fun r env st=>PostF Tryz.prog Tryz.f181 0 (iA r) [] env st) ho ⟨[],ce j0 j0<|ce j0 j0<|ce j0 j0<|ce j0 j0<|cn,j0,j5,j0,j1⟩ ?_ ?_ ?_
 ·
  rintro v5 r h
  replace h : slices_IndexFunc_string_string_s3_l1 v1 v2 v5 = some r:=h
  unfold slices_IndexFunc_string_string_s3_l1 at h
  refine rg j0<|u<|lss ti3 j0 j0<|r_nil ?_
  refine sw_seq ?_
  refine sw_cond j0 (fun hc4=>?_) (fun hc4=>?_)
  ·
   replace h:=bT hc4 h
   refine sw_skip ?_
   refine sw_seq ?_
   refine sw_block ?_
   refine rg j0<|u<|mv j0<|u<|asg j0<|r_nil ?_
   obtain ⟨v6,q5,h⟩:=bs h
   refine rg j0<|u<|mv j0<|u<|mv j0<|u<|mv j0<|u<|ixI ti22 j0 ti9 j0 j0 j0 q5<|u<|ldI ti9 j0 (idx_some q5).2.2 j0<|u<|pc (class_all_string_1_ok v6 v2 j0) j0 j0 j0<|r_nil ?_
   refine sw_cond j0 (fun hc6=>?_) (fun hc6=>?_)
   ·
    replace h:=bT hc6 h
    refine rg j0<|u<|mv j0<|u<|asg j0<|r_nil ?_
    refine sw_ret ?_
    obtain rfl:=sm h
    exact ⟨_,j0,_,j0,[],ci j0,j0,j5,j0,j1⟩
   ·
    replace h:=bF hc6 h
    refine sw_skip ?_
    refine rl j0<|u<|add ti3 j0 j0<|u<|mv j0<|r_nil ?_
    obtain rfl:=sm h
    exact ⟨_,j0,[],ce j0 j0<|ce j0 j0<|ce j0 j0<|ce j0 j0<|cn,j0,j5,j0,j1⟩
  ·
   replace h:=bF hc4 h
   refine sw_exit ?_
   obtain rfl:=sm h
   exact ⟨j0,_,j0,[],cn,j0,j5,j0,j1⟩
 ·
  rintro ⟨⟩ rfl
  replace h : slices_IndexFunc_string_string_s3_k2 = some r:=h
  unfold slices_IndexFunc_string_string_s3_k2 at h
  refine ow_intro ?_
  refine rg j0<|u<|asg j0<|r_nil ?_
  refine sw_ret ?_
  obtain rfl:=sm h
  exact ⟨_,j0,[],ci j0,j0,j5,j0,j1⟩
 ·
  rintro r' rfl env st hp
  obtain rfl:=sm h
  exact hp
def slices_ContainsFunc_string_string_s3 (v1 : List (List UInt8)) (v2 : List UInt8) : Option (Bool) :=
  (slices_IndexFunc_string_string_s3 v1 v2).bind fun v3=>some (decide (0 ≤ v3))
theorem slices_ContainsFunc_string_string_s3_ok (v1 : List (List UInt8)) (v2 : List UInt8) {r : Bool} (h : slices_ContainsFunc_string_string_s3 v1 v2 = some r) : PureC Tryz.prog 99 [.isl 1 (List.map rStr v1),.fn (.func 250) [] [.ipt 1 [[.fn (.func 160) [] []]] 0 0,.ipt 1 [[sA v2]] 0 0]] (bA r):=by
 refine pure_fn Tryz.func99 j0 (by kernel_rfl) j0 j0 ?_
 unfold slices_ContainsFunc_string_string_s3 at h
 refine rg j0<|u<|asg j0<|r_nil ?_
 obtain ⟨v3,q1,h⟩:=bs h
 refine rg j0<|u<|mv j0<|u<|mv j0<|u<|pc (slices_IndexFunc_string_string_s3_ok v1 v2 q1) j0 j0 j0<|u<|geq ti3 j0 j0<|u<|asg j0<|r_nil ?_
 refine sw_ret ?_
 obtain rfl:=sm h
 exact ⟨_,j0,[],ci j0,j0,j5,j0,j1⟩
def class_all_string_k2 (v1 : List (List UInt8)) (v2 : Int) : Option (Bool) :=
  some (decide ((List.length v1 : Int) ≤ v2))
def class_all_string_l1 (v1 : List (List UInt8)) (v9 : Int) : Option (Sum (Int) (Sum (Unit) (Bool))) :=
  cond (decide (v9 < (List.length v1 : Int))) ((idx v1 v9).bind fun v10=>(kind_Class v10).bind fun v11=>(cond (!v11) (some true) ((cutP v1 0 v9).bind fun v12=>(slices_ContainsFunc_string_string_s3 v12 v10).bind fun v13=>some v13)).bind fun v14=>cond v14 (some (.inr (.inr false))) (some (.inl (IntKind.i64.wrap (v9 + 1))))) (some (.inr (.inl ())))
def class_all_string (v1 : List (List UInt8)) (v2 : Int) : Option (Bool) :=
  (loopP (fun z=>class_all_string_l1 v1 z) 0).bind fun o=>leave o (fun b=>class_all_string_k2 v1 v2) some
theorem class_all_string_ok (v1 : List (List UInt8)) (v2 : Int) {r : Bool} (h : class_all_string v1 v2 = some r) : PureC Tryz.prog 159 [.isl 1 (List.map rStr v1),iA v2,.fn (.func 160) [] [],.fn (.func 158) [] []] (bA r):=by
 refine pure_fn Tryz.func159 j0 (by kernel_rfl) j0 j0 ?_
 unfold class_all_string at h
 refine rg j0<|u<|bx 0 1 j0 j0 j0 j0<|u<|asg j0<|r_nil ?_
 refine sw_seq ?_
 refine rg j0<|u<|mv j0<|u<|lnI ti22 j0 j0<|u<|mv j0<|r_nil ?_
 obtain ⟨o,ho,h⟩:=bs h
 refine sw_lpl (X:=Int) (B:=Unit) (R:=Bool) (fun z=>[(0,.isl 1 (List.map rStr v1)),(1,iA v2),(3,.fn (.func 158) [] []),(6,.mpt 0 0 0),(11,.isl 1 (List.map rStr v1)),(12,iA (List.length v1 : Int)),(13,iA z)]) (fun z=>[some (1,[[.fn (.func 160) [] []]])]) (fun b=>[(0,.isl 1 (List.map rStr v1)),(1,iA v2)]) (fun b=>[]) (fun r env st=>PostF Tryz.prog Tryz.f159 0 (bA r) [] env st) ho ⟨[.old 0],ce j0 j0<|ce j0 j0<|ce j0 j0<|cv j0 (.mpt j0)<|ce j0 j0<|ce j0 j0<|ce j0 j0<|cn,j0,⟨⟨_,j0,rsOne ⟨ci j0,j5⟩⟩,j5⟩,j0,j1⟩ ?_ ?_ ?_
 ·
  rintro v9 r h
  replace h : class_all_string_l1 v1 v9 = some r:=h
  unfold class_all_string_l1 at h
  refine rg j0<|u<|lss ti3 j0 j0<|r_nil ?_
  refine sw_seq ?_
  refine sw_cond j0 (fun hc9=>?_) (fun hc9=>?_)
  ·
   replace h:=bT hc9 h
   refine sw_skip ?_
   refine sw_seq ?_
   refine sw_block ?_
   obtain ⟨v10,q10,h⟩:=bs h
   refine rg j0<|u<|mv j0<|u<|ixI ti22 j0 ti9 j0 j0 j0 q10<|u<|ldI ti9 j0 (idx_some q10).2.2 j0<|u<|al 1 ti9 j0<|u<|asg j0<|u<|sto ti9 j0 j0 j0<|r_nil ?_
   obtain ⟨v11,q11,h⟩:=bs h
   obtain ⟨v14,q15,h⟩:=bs h
   refine rg j0<|u<|mv j0<|u<|ld ti9 j0 j0<|u<|pc (kind_Class_ok v10 q11) j0 j0 j0<|u<|nt j0<|u<|mv j0<|r_or (x:=v14) (j:=4) 5 j0 j0 j0 j0 j0 gpn (fun hb12=>by replace q15:=bF hb12 q15; obtain ⟨v12,q13,q15⟩:=bs q15; obtain ⟨v13,q14,q15⟩:=bs q15; obtain rfl:=sm q15; exact g j0 hb12<|mv j0<|g j0 hb12<|mv j0<|g j0 hb12<|slI (a:=0) (b:=v9) ti22 j0 ti9 j0 j0 j0 (bnd_hi j0 q13) q13<|g j0 hb12<|mf j0 j0<|g j0 hb12<|pcs (slices_ContainsFunc_string_string_s3_ok v12 v10 q14) j0 j0 (.cons (si j0) (.cons (sealFn j5 ⟨(sealBox j0 ⟨(si j0),j5⟩),(sealBox j0 ⟨(si j0),j5⟩),j5⟩) .nil)) plainB<|r_nil (eg [23,24,25,26,27] 5 j0 j0 j0 j0)) (fun hb=>(sm (bT hb q15)).symm)<|r_nil ?_
   refine sw_cond j0 (fun hc16=>?_) (fun hc16=>?_)
   ·
    replace h:=bT hc16 h
    refine rg j0<|u<|asg j0<|r_nil ?_
    refine sw_ret ?_
    obtain rfl:=sm h
    exact ⟨_,j0,_,j0,[],ci j0,j0,j5,j0,j1⟩
   ·
    replace h:=bF hc16 h
    refine sw_skip ?_
    refine rl j0<|u<|add ti3 j0 j0<|u<|mv j0<|r_nil ?_
    obtain rfl:=sm h
    exact ⟨_,j0,[.old 0],ce j0 j0<|ce j0 j0<|ce j0 j0<|cv j0 (.mpt j0)<|ce j0 j0<|ce j0 j0<|ce j0 j0<|cn,j0,⟨⟨_,j0,rsOne ⟨ci j0,j5⟩⟩,j5⟩,j0,j1⟩
  ·
   replace h:=bF hc9 h
   refine sw_exit ?_
   obtain rfl:=sm h
   exact ⟨j0,_,j0,[],ce j0 j0<|ce j0 j0<|cn,j0,j5,j0,j1⟩
 ·
  rintro ⟨⟩ rfl
  replace h : class_all_string_k2 v1 v2 = some r:=h
  unfold class_all_string_k2 at h
  refine ow_intro ?_
  refine rg j0<|u<|mv j0<|u<|lnI ti22 j0 j0<|u<|mv j0<|u<|leq ti3 j0 j0<|u<|asg j0<|r_nil ?_
  refine sw_ret ?_
  obtain rfl:=sm h
  exact ⟨_,j0,[],ci j0,j0,j5,j0,j1⟩
 ·
  rintro r' rfl env st hp
  obtain rfl:=sm h
  exact hp
def class_May (v1 : ApiClass) : Option (Bool) :=
  cond (v1.Interface && ((!(v1.Super == [79,98,106,101,99,116])) || (decide (0 < (List.length v1.Fields : Int))))) (some false) ((class_all_api_Field v1.Fields 8).bind fun v2=>(class_all_api_Method v1.Methods 8 v1.Name v1.Super v1.Interface v1.Impl v1.Fields v1.Methods).bind fun v3=>(kind_Class v1.Name).bind fun v4=>(cond v4 ((kind_Class v1.Super).bind fun v5=>some v5) (some false)).bind fun v6=>(cond v6 ((class_all_string v1.Impl 4).bind fun v7=>some v7) (some false)).bind fun v8=>some ((v8 && v2) && v3))
theorem class_May_ok (v1 : ApiClass) {r : Bool} (h : class_May v1 = some r) : PureC Tryz.prog 72 [.agg [sA v1.Name,sA v1.Super,bA v1.Interface,.isl 1 (List.map rStr v1.Impl),.isl 3 (List.map rApiField v1.Fields),.isl 10 (List.map rApiMethod v1.Methods)]] (bA r):=by
 refine pure_fn Tryz.func72 j0 (by kernel_rfl) j0 j0 ?_
 unfold class_May at h
 refine rg j0<|u<|bx 0 6 j0 j0 j0 j0<|u<|asg j0<|r_nil ?_
 refine sw_seq ?_
 refine rg j0<|u<|fa ti26 j0 j0 j0<|u<|ld ti4 j0 j0<|u<|mv j0<|r_and (j:=2) 9 j0 j0 j0 j0 j0 gpn (fun hb1=>g j0 hb1<|fa ti26 j0 j0 j0<|g j0 hb1<|ld ti9 j0 j0<|g j0 hb1<|sne ti9 j0 j0<|g j0 hb1<|mv j0<|r_or (j:=6) 4 j0 j0 j0 j0 j0 (gps j0 j0 hb1) (fun hb2=>g j0 hb2<|fa ti26 j0 j0 j0<|g j0 hb2<|ld ti23 j0 j0<|g j0 hb2<|lnI ti23 j0 j0<|g j0 hb2<|gtr ti3 j0 j0<|r_nil (egO [12,13,14,15] 4 hb2 j0 j0 j0 j0)) orT<|r_nil (egA [8,9,10,11,12,13,14,15,16] 5 hb1 j0 j0 j0 j0)) andF<|r_nil ?_
 refine sw_cond j0 (fun hc3=>?_) (fun hc3=>?_)
 ·
  replace h:=bT hc3 h
  refine rg j0<|u<|asg j0<|r_nil ?_
  refine sw_ret ?_
  obtain rfl:=sm h
  exact ⟨_,j0,[],ci j0,j0,j5,j0,j1⟩
 ·
  replace h:=bF hc3 h
  refine sw_skip ?_
  obtain ⟨v2,q4,h⟩:=bs h
  refine rg j0<|u<|fa ti26 j0 j0 j0<|u<|ld ti23 j0 j0<|u<|pc (class_all_api_Field_ok v1.Fields 8 q4) j0 j0 j0<|u<|asg j0<|r_nil ?_
  obtain ⟨v3,q5,h⟩:=bs h
  refine rg j0<|u<|fa ti26 j0 j0 j0<|u<|ld ti24 j0 j0<|u<|mf j0 j0<|u<|pcs (class_all_api_Method_ok v1.Methods 8 v1.Name v1.Super v1.Interface v1.Impl v1.Fields v1.Methods q5) j0 j0 (.cons (si j0) (.cons (si j0) (.cons (si j0) (.cons (sealFn j5 ⟨(sealBox j0 ⟨(si j0),(si j0),(si j0),(si j0),(si j0),(si j0),j5⟩),j5⟩) .nil)))) plainB<|u<|asg j0<|r_nil ?_
  obtain ⟨v4,q6,h⟩:=bs h
  obtain ⟨v6,q9,h⟩:=bs h
  obtain ⟨v8,q12,h⟩:=bs h
  refine rg j0<|u<|fa ti26 j0 j0 j0<|u<|ld ti9 j0 j0<|u<|pc (kind_Class_ok v1.Name q6) j0 j0 j0<|u<|mv j0<|r_and (x:=v6) (j:=3) 3 j0 j0 j0 j0 j0 gpn (fun hb7=>by replace q9:=bT hb7 q9; obtain ⟨v5,q8,q9⟩:=bs q9; obtain rfl:=sm q9; exact g j0 hb7<|fa ti26 j0 j0 j0<|g j0 hb7<|ld ti9 j0 j0<|g j0 hb7<|pc (kind_Class_ok v1.Super q8) j0 j0 j0<|r_nil (eg [29,30,31] 3 j0 j0 j0 j0)) (fun hb=>(sm (bF hb q9)).symm)<|u<|mv j0<|r_and (x:=v8) (j:=8) 3 j0 j0 j0 j0 j0 gpn (fun hb10=>by replace q12:=bT hb10 q12; obtain ⟨v7,q11,q12⟩:=bs q12; obtain rfl:=sm q12; exact g j0 hb10<|fa ti26 j0 j0 j0<|g j0 hb10<|ld ti22 j0 j0<|g j0 hb10<|pc (class_all_string_ok v1.Impl 4 q11) j0 j0 j0<|r_nil (eg [34,35,36] 3 j0 j0 j0 j0)) (fun hb=>(sm (bF hb q12)).symm)<|u<|mv j0<|r_and (j:=13) 1 j0 j0 j0 j0 j0 gpn (fun hb13=>g j0 hb13<|mv j0<|r_nil (egA [39] 1 hb13 j0 j0 j0 j0)) andF<|u<|mv j0<|r_and (j:=16) 1 j0 j0 j0 j0 j0 gpn (fun hb14=>g j0 hb14<|mv j0<|r_nil (egA [42] 1 hb14 j0 j0 j0 j0)) andF<|u<|asg j0<|r_nil ?_
  refine sw_ret ?_
  obtain rfl:=sm h
  exact ⟨_,j0,[],ci j0,j0,j5,j0,j1⟩
def class_Method_1 (v1 : ApiMethod) (v2 : List UInt8) : Bool :=
  (v1.Name == v2)
theorem class_Method_1_ok (v1 : ApiMethod) (v2 : List UInt8) {r : Bool} (h : class_Method_1 v1 v2 = r) : PureC Tryz.prog 226 [.agg [sA v1.Name,.isl 1 (List.map rStr v1.Params),sA v1.Ret,bA v1.Static,bA v1.Abstract,iA v1.Locals,iA v1.Stack,.isl 4 (List.map rApiIns v1.Code),.isl 3 (List.map rApiMap v1.Maps),.isl 4 (List.map rApiTrap v1.Traps)],.ipt 1 [[sA v2]] 0 0] (bA r):=by
 refine pure_fn Tryz.func226 j0 (by kernel_rfl) j0 j0 ?_
 unfold class_Method_1 at h
 refine rg j0<|u<|bx 0 10 j0 j0 j0 j0<|u<|asg j0<|r_nil ?_
 refine rg j0<|u<|fa ti38 j0 j0 j0<|u<|ld ti9 j0 j0<|u<|ld ti9 j0 j0<|u<|seq ti9 j0 j0<|u<|asg j0<|r_nil ?_
 refine sw_ret ?_
 obtain rfl:=h
 exact ⟨_,j0,[],ci j0,j0,j5,j0,j1⟩
def slices_IndexFunc_api_Method_api_Method_s2_k2 : Option (Int) :=
  some (-1)
def slices_IndexFunc_api_Method_api_Method_s2_l1 (v1 : List ApiMethod) (v2 : List UInt8) (v5 : Int) : Option (Sum (Int) (Sum (Unit) (Int))) :=
  cond (decide (v5 < (List.length v1 : Int))) ((idx v1 v5).bind fun v6=>cond (class_Method_1 v6 v2) (some (.inr (.inr v5))) (some (.inl (IntKind.i64.wrap (v5 + 1))))) (some (.inr (.inl ())))
def slices_IndexFunc_api_Method_api_Method_s2 (v1 : List ApiMethod) (v2 : List UInt8) : Option (Int) :=
  (loopP (fun z=>slices_IndexFunc_api_Method_api_Method_s2_l1 v1 v2 z) 0).bind fun o=>leave o (fun b=>slices_IndexFunc_api_Method_api_Method_s2_k2) some
theorem slices_IndexFunc_api_Method_api_Method_s2_ok (v1 : List ApiMethod) (v2 : List UInt8) {r : Int} (h : slices_IndexFunc_api_Method_api_Method_s2 v1 v2 = some r) : PureC Tryz.prog 225 [.isl 10 (List.map rApiMethod v1),.fn (.func 226) [] [.ipt 1 [[sA v2]] 0 0]] (iA r):=by
 refine pure_fn Tryz.func225 j0 (by kernel_rfl) j0 j0 ?_
 unfold slices_IndexFunc_api_Method_api_Method_s2 at h
 refine rg j0<|u<|asg j0<|r_nil ?_
 refine sw_seq ?_
 refine rg j0<|u<|mv j0<|u<|lnI ti24 j0 j0<|u<|mv j0<|r_nil ?_
 obtain ⟨o,ho,h⟩:=bs h
 refine sw_lpl (X:=Int) (B:=Unit) (R:=Int) (fun z=>[(0,.isl 10 (List.map rApiMethod v1)),(1,.fn (.func 226) [] [.ipt 1 [[sA v2]] 0 0]),(7,iA (List.length v1 : Int)),(8,iA z)]) (fun z=>[]) (fun b=>[]) (fun b=>[]) (fun r env st=>PostF Tryz.prog Tryz.f225 0 (iA r) [] env st) ho ⟨[],ce j0 j0<|ce j0 j0<|ce j0 j0<|ce j0 j0<|cn,j0,j5,j0,j1⟩ ?_ ?_ ?_
 ·
  rintro v5 r h
  replace h : slices_IndexFunc_api_Method_api_Method_s2_l1 v1 v2 v5 = some r:=h
  unfold slices_IndexFunc_api_Method_api_Method_s2_l1 at h
  refine rg j0<|u<|lss ti3 j0 j0<|r_nil ?_
  refine sw_seq ?_
  refine sw_cond j0 (fun hc4=>?_) (fun hc4=>?_)
  ·
   replace h:=bT hc4 h
   refine sw_skip ?_
   refine sw_seq ?_
   refine sw_block ?_
   refine rg j0<|u<|mv j0<|u<|asg j0<|r_nil ?_
   obtain ⟨v6,q5,h⟩:=bs h
   refine rg j0<|u<|mv j0<|u<|mv j0<|u<|mv j0<|u<|ixI ti24 j0 ti38 j0 j0 j0 q5<|u<|ldI ti38 j0 (idx_some q5).2.2 j0<|u<|pc (class_Method_1_ok v6 v2 j0) j0 j0 j0<|r_nil ?_
   refine sw_cond j0 (fun hc6=>?_) (fun hc6=>?_)
   ·
    replace h:=bT hc6 h
    refine rg j0<|u<|mv j0<|u<|asg j0<|r_nil ?_
    refine sw_ret ?_
    obtain rfl:=sm h
    exact ⟨_,j0,_,j0,[],ci j0,j0,j5,j0,j1⟩
   ·
    replace h:=bF hc6 h
    refine sw_skip ?_
    refine rl j0<|u<|add ti3 j0 j0<|u<|mv j0<|r_nil ?_
    obtain rfl:=sm h
    exact ⟨_,j0,[],ce j0 j0<|ce j0 j0<|ce j0 j0<|ce j0 j0<|cn,j0,j5,j0,j1⟩
  ·
   replace h:=bF hc4 h
   refine sw_exit ?_
   obtain rfl:=sm h
   exact ⟨j0,_,j0,[],cn,j0,j5,j0,j1⟩
 ·
  rintro ⟨⟩ rfl
  replace h : slices_IndexFunc_api_Method_api_Method_s2_k2 = some r:=h
  unfold slices_IndexFunc_api_Method_api_Method_s2_k2 at h
  refine ow_intro ?_
  refine rg j0<|u<|asg j0<|r_nil ?_
  refine sw_ret ?_
  obtain rfl:=sm h
  exact ⟨_,j0,[],ci j0,j0,j5,j0,j1⟩
 ·
  rintro r' rfl env st hp
  obtain rfl:=sm h
  exact hp
def class_Method (v1 : ApiClass) (v2 : List UInt8) : Option (Int) :=
  (slices_IndexFunc_api_Method_api_Method_s2 v1.Methods v2).bind fun v3=>some v3
theorem class_Method_ok (v1 : ApiClass) (v2 : List UInt8) {r : Int} (h : class_Method v1 v2 = some r) : PureC Tryz.prog 141 [.agg [sA v1.Name,sA v1.Super,bA v1.Interface,.isl 1 (List.map rStr v1.Impl),.isl 3 (List.map rApiField v1.Fields),.isl 10 (List.map rApiMethod v1.Methods)],sA v2] (iA r):=by
 refine pure_fn Tryz.func141 j0 (by kernel_rfl) j0 j0 ?_
 unfold class_Method at h
 refine rg j0<|u<|bx 0 6 j0 j0 j0 j0<|u<|bx 1 1 j0 j0 j0 j0<|u<|asg j0<|r_nil ?_
 obtain ⟨v3,q1,h⟩:=bs h
 refine rg j0<|u<|fa ti26 j0 j0 j0<|u<|ld ti24 j0 j0<|u<|mf j0 j0<|u<|pcs (slices_IndexFunc_api_Method_api_Method_s2_ok v1.Methods v2 q1) j0 j0 (.cons (si j0) (.cons (sealFn j5 ⟨(sealBox j0 ⟨(si j0),j5⟩),j5⟩) .nil)) plainB<|u<|asg j0<|r_nil ?_
 refine sw_ret ?_
 obtain rfl:=sm h
 exact ⟨_,j0,[],ci j0,j0,j5,j0,j1⟩
def class_Field_1 (v1 : ApiField) (v2 : List UInt8) : Bool :=
  (v1.Name == v2)
theorem class_Field_1_ok (v1 : ApiField) (v2 : List UInt8) {r : Bool} (h : class_Field_1 v1 v2 = r) : PureC Tryz.prog 316 [.agg [sA v1.Name,sA v1.Type_,bA v1.Static],.ipt 1 [[sA v2]] 0 0] (bA r):=by
 refine pure_fn Tryz.func316 j0 (by kernel_rfl) j0 j0 ?_
 unfold class_Field_1 at h
 refine rg j0<|u<|bx 0 3 j0 j0 j0 j0<|u<|asg j0<|r_nil ?_
 refine rg j0<|u<|fa ti42 j0 j0 j0<|u<|ld ti9 j0 j0<|u<|ld ti9 j0 j0<|u<|seq ti9 j0 j0<|u<|asg j0<|r_nil ?_
 refine sw_ret ?_
 obtain rfl:=h
 exact ⟨_,j0,[],ci j0,j0,j5,j0,j1⟩
def slices_IndexFunc_api_Field_api_Field_s2_k2 : Option (Int) :=
  some (-1)
def slices_IndexFunc_api_Field_api_Field_s2_l1 (v1 : List ApiField) (v2 : List UInt8) (v5 : Int) : Option (Sum (Int) (Sum (Unit) (Int))) :=
  cond (decide (v5 < (List.length v1 : Int))) ((idx v1 v5).bind fun v6=>cond (class_Field_1 v6 v2) (some (.inr (.inr v5))) (some (.inl (IntKind.i64.wrap (v5 + 1))))) (some (.inr (.inl ())))
def slices_IndexFunc_api_Field_api_Field_s2 (v1 : List ApiField) (v2 : List UInt8) : Option (Int) :=
  (loopP (fun z=>slices_IndexFunc_api_Field_api_Field_s2_l1 v1 v2 z) 0).bind fun o=>leave o (fun b=>slices_IndexFunc_api_Field_api_Field_s2_k2) some
theorem slices_IndexFunc_api_Field_api_Field_s2_ok (v1 : List ApiField) (v2 : List UInt8) {r : Int} (h : slices_IndexFunc_api_Field_api_Field_s2 v1 v2 = some r) : PureC Tryz.prog 315 [.isl 3 (List.map rApiField v1),.fn (.func 316) [] [.ipt 1 [[sA v2]] 0 0]] (iA r):=by
 refine pure_fn Tryz.func315 j0 (by kernel_rfl) j0 j0 ?_
 unfold slices_IndexFunc_api_Field_api_Field_s2 at h
 refine rg j0<|u<|asg j0<|r_nil ?_
 refine sw_seq ?_
 refine rg j0<|u<|mv j0<|u<|lnI ti23 j0 j0<|u<|mv j0<|r_nil ?_
 obtain ⟨o,ho,h⟩:=bs h
 refine sw_lpl (X:=Int) (B:=Unit) (R:=Int) (fun z=>[(0,.isl 3 (List.map rApiField v1)),(1,.fn (.func 316) [] [.ipt 1 [[sA v2]] 0 0]),(7,iA (List.length v1 : Int)),(8,iA z)]) (fun z=>[]) (fun b=>[]) (fun b=>[]) (fun r env st=>PostF Tryz.prog Tryz.f315 0 (iA r) [] env st) ho ⟨[],ce j0 j0<|ce j0 j0<|ce j0 j0<|ce j0 j0<|cn,j0,j5,j0,j1⟩ ?_ ?_ ?_
 ·
  rintro v5 r h
  replace h : slices_IndexFunc_api_Field_api_Field_s2_l1 v1 v2 v5 = some r:=h
  unfold slices_IndexFunc_api_Field_api_Field_s2_l1 at h
  refine rg j0<|u<|lss ti3 j0 j0<|r_nil ?_
  refine sw_seq ?_
  refine sw_cond j0 (fun hc4=>?_) (fun hc4=>?_)
  ·
   replace h:=bT hc4 h
   refine sw_skip ?_
   refine sw_seq ?_
   refine sw_block ?_
   refine rg j0<|u<|mv j0<|u<|asg j0<|r_nil ?_
   obtain ⟨v6,q5,h⟩:=bs h
   refine rg j0<|u<|mv j0<|u<|mv j0<|u<|mv j0<|u<|ixI ti23 j0 ti42 j0 j0 j0 q5<|u<|ldI ti42 j0 (idx_some q5).2.2 j0<|u<|pc (class_Field_1_ok v6 v2 j0) j0 j0 j0<|r_nil ?_
   refine sw_cond j0 (fun hc6=>?_) (fun hc6=>?_)
   ·
    replace h:=bT hc6 h
    refine rg j0<|u<|mv j0<|u<|asg j0<|r_nil ?_
    refine sw_ret ?_
    obtain rfl:=sm h
    exact ⟨_,j0,_,j0,[],ci j0,j0,j5,j0,j1⟩
   ·
    replace h:=bF hc6 h
    refine sw_skip ?_
    refine rl j0<|u<|add ti3 j0 j0<|u<|mv j0<|r_nil ?_
    obtain rfl:=sm h
    exact ⟨_,j0,[],ce j0 j0<|ce j0 j0<|ce j0 j0<|ce j0 j0<|cn,j0,j5,j0,j1⟩
  ·
   replace h:=bF hc4 h
   refine sw_exit ?_
   obtain rfl:=sm h
   exact ⟨j0,_,j0,[],cn,j0,j5,j0,j1⟩
 ·
  rintro ⟨⟩ rfl
  replace h : slices_IndexFunc_api_Field_api_Field_s2_k2 = some r:=h
  unfold slices_IndexFunc_api_Field_api_Field_s2_k2 at h
  refine ow_intro ?_
  refine rg j0<|u<|asg j0<|r_nil ?_
  refine sw_ret ?_
  obtain rfl:=sm h
  exact ⟨_,j0,[],ci j0,j0,j5,j0,j1⟩
 ·
  rintro r' rfl env st hp
  obtain rfl:=sm h
  exact hp
def class_Field (v1 : ApiClass) (v2 : List UInt8) : Option (Int) :=
  (slices_IndexFunc_api_Field_api_Field_s2 v1.Fields v2).bind fun v3=>some v3
theorem class_Field_ok (v1 : ApiClass) (v2 : List UInt8) {r : Int} (h : class_Field v1 v2 = some r) : PureC Tryz.prog 223 [.agg [sA v1.Name,sA v1.Super,bA v1.Interface,.isl 1 (List.map rStr v1.Impl),.isl 3 (List.map rApiField v1.Fields),.isl 10 (List.map rApiMethod v1.Methods)],sA v2] (iA r):=by
 refine pure_fn Tryz.func223 j0 (by kernel_rfl) j0 j0 ?_
 unfold class_Field at h
 refine rg j0<|u<|bx 0 6 j0 j0 j0 j0<|u<|bx 1 1 j0 j0 j0 j0<|u<|asg j0<|r_nil ?_
 obtain ⟨v3,q1,h⟩:=bs h
 refine rg j0<|u<|fa ti26 j0 j0 j0<|u<|ld ti23 j0 j0<|u<|mf j0 j0<|u<|pcs (slices_IndexFunc_api_Field_api_Field_s2_ok v1.Fields v2 q1) j0 j0 (.cons (si j0) (.cons (sealFn j5 ⟨(sealBox j0 ⟨(si j0),j5⟩),j5⟩) .nil)) plainB<|u<|asg j0<|r_nil ?_
 refine sw_ret ?_
 obtain rfl:=sm h
 exact ⟨_,j0,[],ci j0,j0,j5,j0,j1⟩
end
end Go.Proofs.YthmnlfenkhmmhaaGreat
namespace Go.Proofs.YthmnlfenkhmmhaaGreat
noncomputable section
set_option linter.unusedSimpArgs false
set_option linter.unusedVariables false
set_option maxRecDepth 100000
set_option maxHeartbeats 4000000
theorem eqs40 : eqSpec Tryz.prog 40 = some [(0,.int),(1,.int),(2,.str),(3,.str)]:=by kernel_rfl
theorem eqs42 : eqSpec Tryz.prog 42 = some [(0,.str),(1,.str),(2,.bool)]:=by kernel_rfl
theorem eqs88 : eqSpec Tryz.prog 88 = some [(0,.int),(1,.int),(2,.int),(3,.str)]:=by kernel_rfl
def slices_Equal_string_string_k2 : Option (Bool) :=
  some true
def slices_Equal_string_string_l1 (v1 : List (List UInt8)) (v2 : List (List UInt8)) (v6 : Int) : Option (Sum (Int) (Sum (Unit) (Bool))) :=
  cond (decide (v6 < (List.length v1 : Int))) ((idx v1 v6).bind fun v7=>(idx v2 v6).bind fun v8=>cond (!(v7 == v8)) (some (.inr (.inr false))) (some (.inl (IntKind.i64.wrap (v6 + 1))))) (some (.inr (.inl ())))
def slices_Equal_string_string (v1 : List (List UInt8)) (v2 : List (List UInt8)) : Option (Bool) :=
  cond (!((List.length v1 : Int) == (List.length v2 : Int))) (some false) ((loopP (fun z=>slices_Equal_string_string_l1 v1 v2 z) 0).bind fun o=>leave o (fun b=>slices_Equal_string_string_k2) some)
theorem slices_Equal_string_string_ok (v1 : List (List UInt8)) (v2 : List (List UInt8)) {r : Bool} (h : slices_Equal_string_string v1 v2 = some r) : PureC Tryz.prog 318 [.isl 1 (List.map rStr v1),.isl 1 (List.map rStr v2)] (bA r):=by
 refine pure_fn Tryz.func318 j0 (by kernel_rfl) j0 j0 ?_
 unfold slices_Equal_string_string at h
 refine rg j0<|u<|asg j0<|r_nil ?_
 refine sw_seq ?_
 refine rg j0<|u<|mv j0<|u<|lnI ti22 j0 j0<|u<|mv j0<|u<|lnI ti22 j0 j0<|u<|neq ti3 j0 j0<|r_nil ?_
 refine sw_cond j0 (fun hc1=>?_) (fun hc1=>?_)
 ·
  replace h:=bT hc1 h
  refine rg j0<|u<|asg j0<|r_nil ?_
  refine sw_ret ?_
  obtain rfl:=sm h
  exact ⟨_,j0,[],ci j0,j0,j5,j0,j1⟩
 ·
  replace h:=bF hc1 h
  refine sw_skip ?_
  refine sw_seq ?_
  refine rg j0<|u<|mv j0<|u<|lnI ti22 j0 j0<|u<|mv j0<|r_nil ?_
  obtain ⟨o,ho,h⟩:=bs h
  refine sw_lpl (X:=Int) (B:=Unit) (R:=Bool) (fun z=>[(0,.isl 1 (List.map rStr v1)),(1,.isl 1 (List.map rStr v2)),(12,iA (List.length v1 : Int)),(13,iA z)]) (fun z=>[]) (fun b=>[]) (fun b=>[]) (fun r env st=>PostF Tryz.prog Tryz.f318 0 (bA r) [] env st) ho ⟨[],ce j0 j0<|ce j0 j0<|ce j0 j0<|ce j0 j0<|cn,j0,j5,j0,j1⟩ ?_ ?_ ?_
  ·
   rintro v6 r h
   replace h : slices_Equal_string_string_l1 v1 v2 v6 = some r:=h
   unfold slices_Equal_string_string_l1 at h
   refine rg j0<|u<|lss ti3 j0 j0<|r_nil ?_
   refine sw_seq ?_
   refine sw_cond j0 (fun hc6=>?_) (fun hc6=>?_)
   ·
    replace h:=bT hc6 h
    refine sw_skip ?_
    refine sw_seq ?_
    refine sw_block ?_
    refine rg j0<|u<|mv j0<|u<|asg j0<|r_nil ?_
    obtain ⟨v7,q7,h⟩:=bs h
    obtain ⟨v8,q8,h⟩:=bs h
    refine rd [(0,.isl 1 (List.map rStr v1)),(1,.isl 1 (List.map rStr v2)),(12,iA (List.length v1 : Int)),(13,iA v6),(24,bA (!(v7 == v8)))] [] [] [8,7,6,5,4,3,2,1,0] [(24,bA (!(v7 == v8))),(23,sA v8),(22,.ipt 1 (List.map rStr v2) (Int.toNat v6) 0),(21,iA v6),(20,.isl 1 (List.map rStr v2)),(19,sA v7),(18,.ipt 1 (List.map rStr v1) (Int.toNat v6) 0),(17,iA v6),(16,.isl 1 (List.map rStr v1))] 0 (by kernel_rfl) (by kernel_rfl) j0 (by kernel_rfl) (dt0 ⟨(fun _=>pa j0 j0 j0 j0 (sne ti9 j0 j0<|j4)),(fun _=>pa j0 j0 j0 j0 (ldI ti9 j0 (idx_some q8).2.2 j0<|j4)),(fun _=>pa j0 j0 j0 j0 (ixI ti22 j0 ti9 j0 j0 j0 q8<|j4)),(fun _=>pa j0 j0 j0 j0 (mv j0<|j4)),(fun _=>pa j0 j0 j0 j0 (mv j0<|j4)),(fun _=>pa j0 j0 j0 j0 (ldI ti9 j0 (idx_some q7).2.2 j0<|j4)),(fun _=>pa j0 j0 j0 j0 (ixI ti22 j0 ti9 j0 j0 j0 q7<|j4)),(fun _=>pa j0 j0 j0 j0 (mv j0<|j4)),(fun _=>pa j0 j0 j0 j0 (mv j0<|j4)),j5⟩ (by kernel_rfl) j0 ⟨[],ce j0 j0<|ce j0 j0<|ce j0 j0<|ce j0 j0<|ce j0 j0<|cn,j0,j5,j0,j1⟩) ?_
    refine sw_cond j0 (fun hc9=>?_) (fun hc9=>?_)
    ·
     replace h:=bT hc9 h
     refine rg j0<|u<|asg j0<|r_nil ?_
     refine sw_ret ?_
     obtain rfl:=sm h
     exact ⟨_,j0,_,j0,[],ci j0,j0,j5,j0,j1⟩
    ·
     replace h:=bF hc9 h
     refine sw_skip ?_
     refine rl j0<|u<|add ti3 j0 j0<|u<|mv j0<|r_nil ?_
     obtain rfl:=sm h
     exact ⟨_,j0,[],ce j0 j0<|ce j0 j0<|ce j0 j0<|ce j0 j0<|cn,j0,j5,j0,j1⟩
   ·
    replace h:=bF hc6 h
    refine sw_exit ?_
    obtain rfl:=sm h
    exact ⟨j0,_,j0,[],cn,j0,j5,j0,j1⟩
  ·
   rintro ⟨⟩ rfl
   replace h : slices_Equal_string_string_k2 = some r:=h
   unfold slices_Equal_string_string_k2 at h
   refine ow_intro ?_
   refine rg j0<|u<|asg j0<|r_nil ?_
   refine sw_ret ?_
   obtain rfl:=sm h
   exact ⟨_,j0,[],ci j0,j0,j5,j0,j1⟩
  ·
   rintro r' rfl env st hp
   obtain rfl:=sm h
   exact hp
def slices_Equal_api_Field_api_Field_k2 : Option (Bool) :=
  some true
def slices_Equal_api_Field_api_Field_l1 (v1 : List ApiField) (v2 : List ApiField) (v6 : Int) : Option (Sum (Int) (Sum (Unit) (Bool))) :=
  cond (decide (v6 < (List.length v1 : Int))) ((idx v1 v6).bind fun v7=>(idx v2 v6).bind fun v8=>cond (!((v7.Name == v8.Name) && ((v7.Type_ == v8.Type_) && ((v7.Static == v8.Static) && true)))) (some (.inr (.inr false))) (some (.inl (IntKind.i64.wrap (v6 + 1))))) (some (.inr (.inl ())))
def slices_Equal_api_Field_api_Field (v1 : List ApiField) (v2 : List ApiField) : Option (Bool) :=
  cond (!((List.length v1 : Int) == (List.length v2 : Int))) (some false) ((loopP (fun z=>slices_Equal_api_Field_api_Field_l1 v1 v2 z) 0).bind fun o=>leave o (fun b=>slices_Equal_api_Field_api_Field_k2) some)
theorem slices_Equal_api_Field_api_Field_ok (v1 : List ApiField) (v2 : List ApiField) {r : Bool} (h : slices_Equal_api_Field_api_Field v1 v2 = some r) : PureC Tryz.prog 319 [.isl 3 (List.map rApiField v1),.isl 3 (List.map rApiField v2)] (bA r):=by
 refine pure_fn Tryz.func319 j0 (by kernel_rfl) j0 j0 ?_
 unfold slices_Equal_api_Field_api_Field at h
 refine rg j0<|u<|asg j0<|r_nil ?_
 refine sw_seq ?_
 refine rg j0<|u<|mv j0<|u<|lnI ti23 j0 j0<|u<|mv j0<|u<|lnI ti23 j0 j0<|u<|neq ti3 j0 j0<|r_nil ?_
 refine sw_cond j0 (fun hc1=>?_) (fun hc1=>?_)
 ·
  replace h:=bT hc1 h
  refine rg j0<|u<|asg j0<|r_nil ?_
  refine sw_ret ?_
  obtain rfl:=sm h
  exact ⟨_,j0,[],ci j0,j0,j5,j0,j1⟩
 ·
  replace h:=bF hc1 h
  refine sw_skip ?_
  refine sw_seq ?_
  refine rg j0<|u<|mv j0<|u<|lnI ti23 j0 j0<|u<|mv j0<|r_nil ?_
  obtain ⟨o,ho,h⟩:=bs h
  refine sw_lpl (X:=Int) (B:=Unit) (R:=Bool) (fun z=>[(0,.isl 3 (List.map rApiField v1)),(1,.isl 3 (List.map rApiField v2)),(12,iA (List.length v1 : Int)),(13,iA z)]) (fun z=>[]) (fun b=>[]) (fun b=>[]) (fun r env st=>PostF Tryz.prog Tryz.f319 0 (bA r) [] env st) ho ⟨[],ce j0 j0<|ce j0 j0<|ce j0 j0<|ce j0 j0<|cn,j0,j5,j0,j1⟩ ?_ ?_ ?_
  ·
   rintro v6 r h
   replace h : slices_Equal_api_Field_api_Field_l1 v1 v2 v6 = some r:=h
   unfold slices_Equal_api_Field_api_Field_l1 at h
   refine rg j0<|u<|lss ti3 j0 j0<|r_nil ?_
   refine sw_seq ?_
   refine sw_cond j0 (fun hc6=>?_) (fun hc6=>?_)
   ·
    replace h:=bT hc6 h
    refine sw_skip ?_
    refine sw_seq ?_
    refine sw_block ?_
    refine rg j0<|u<|mv j0<|u<|asg j0<|r_nil ?_
    obtain ⟨v7,q7,h⟩:=bs h
    obtain ⟨v8,q8,h⟩:=bs h
    refine rd [(0,.isl 3 (List.map rApiField v1)),(1,.isl 3 (List.map rApiField v2)),(12,iA (List.length v1 : Int)),(13,iA v6),(24,bA (!((v7.Name == v8.Name) && ((v7.Type_ == v8.Type_) && ((v7.Static == v8.Static) && true)))))] [] [] [8,7,6,5,4,3,2,1,0] [(24,bA (!((v7.Name == v8.Name) && ((v7.Type_ == v8.Type_) && ((v7.Static == v8.Static) && true))))),(23,.agg [sA v8.Name,sA v8.Type_,bA v8.Static]),(22,.ipt 3 (List.map rApiField v2) (Int.toNat v6) 0),(21,iA v6),(20,.isl 3 (List.map rApiField v2)),(19,.agg [sA v7.Name,sA v7.Type_,bA v7.Static]),(18,.ipt 3 (List.map rApiField v1) (Int.toNat v6) 0),(17,iA v6),(16,.isl 3 (List.map rApiField v1))] 0 (by kernel_rfl) (by kernel_rfl) j0 (by kernel_rfl) (dt0 ⟨(fun _=>pa j0 j0 j0 j0 (agn ti42 eqs42 j0 j0 j0<|j4)),(fun _=>pa j0 j0 j0 j0 (ldI ti42 j0 (idx_some q8).2.2 j0<|j4)),(fun _=>pa j0 j0 j0 j0 (ixI ti23 j0 ti42 j0 j0 j0 q8<|j4)),(fun _=>pa j0 j0 j0 j0 (mv j0<|j4)),(fun _=>pa j0 j0 j0 j0 (mv j0<|j4)),(fun _=>pa j0 j0 j0 j0 (ldI ti42 j0 (idx_some q7).2.2 j0<|j4)),(fun _=>pa j0 j0 j0 j0 (ixI ti23 j0 ti42 j0 j0 j0 q7<|j4)),(fun _=>pa j0 j0 j0 j0 (mv j0<|j4)),(fun _=>pa j0 j0 j0 j0 (mv j0<|j4)),j5⟩ (by kernel_rfl) j0 ⟨[],ce j0 j0<|ce j0 j0<|ce j0 j0<|ce j0 j0<|ce j0 j0<|cn,j0,j5,j0,j1⟩) ?_
    refine sw_cond j0 (fun hc9=>?_) (fun hc9=>?_)
    ·
     replace h:=bT hc9 h
     refine rg j0<|u<|asg j0<|r_nil ?_
     refine sw_ret ?_
     obtain rfl:=sm h
     exact ⟨_,j0,_,j0,[],ci j0,j0,j5,j0,j1⟩
    ·
     replace h:=bF hc9 h
     refine sw_skip ?_
     refine rl j0<|u<|add ti3 j0 j0<|u<|mv j0<|r_nil ?_
     obtain rfl:=sm h
     exact ⟨_,j0,[],ce j0 j0<|ce j0 j0<|ce j0 j0<|ce j0 j0<|cn,j0,j5,j0,j1⟩
   ·
    replace h:=bF hc6 h
    refine sw_exit ?_
    obtain rfl:=sm h
    exact ⟨j0,_,j0,[],cn,j0,j5,j0,j1⟩
  ·
   rintro ⟨⟩ rfl
   replace h : slices_Equal_api_Field_api_Field_k2 = some r:=h
   unfold slices_Equal_api_Field_api_Field_k2 at h
   refine ow_intro ?_
   refine rg j0<|u<|asg j0<|r_nil ?_
   refine sw_ret ?_
   obtain rfl:=sm h
   exact ⟨_,j0,[],ci j0,j0,j5,j0,j1⟩
  ·
   rintro r' rfl env st hp
   obtain rfl:=sm h
   exact hp
def class_eqMethod_1 (v1 : ApiMap) (v2 : ApiMap) : Option (Bool) :=
  (cond (v1.At == v2.At) ((slices_Equal_string_string v1.Locals v2.Locals).bind fun v3=>some v3) (some false)).bind fun v4=>(cond v4 ((slices_Equal_string_string v1.Stack v2.Stack).bind fun v5=>some v5) (some false)).bind fun v6=>some v6
theorem class_eqMethod_1_ok (v1 : ApiMap) (v2 : ApiMap) {r : Bool} (h : class_eqMethod_1 v1 v2 = some r) : PureC Tryz.prog 357 [.agg [iA v1.At,.isl 1 (List.map rStr v1.Locals),.isl 1 (List.map rStr v1.Stack)],.agg [iA v2.At,.isl 1 (List.map rStr v2.Locals),.isl 1 (List.map rStr v2.Stack)]] (bA r):=by
 refine pure_fn Tryz.func357 j0 (by kernel_rfl) j0 j0 ?_
 unfold class_eqMethod_1 at h
 refine rg j0<|u<|bx 0 3 j0 j0 j0 j0<|u<|bx 1 3 j0 j0 j0 j0<|u<|asg j0<|r_nil ?_
 obtain ⟨v4,q3,h⟩:=bs h
 obtain ⟨v6,q6,h⟩:=bs h
 refine rg j0<|u<|fa ti80 j0 j0 j0<|u<|ld ti3 j0 j0<|u<|fa ti80 j0 j0 j0<|u<|ld ti3 j0 j0<|u<|eql ti3 j0 j0<|u<|mv j0<|r_and (x:=v4) (j:=5) 5 j0 j0 j0 j0 j0 gpn (fun hb1=>by replace q3:=bT hb1 q3; obtain ⟨v3,q2,q3⟩:=bs q3; obtain rfl:=sm q3; exact g j0 hb1<|fa ti80 j0 j0 j0<|g j0 hb1<|ld ti22 j0 j0<|g j0 hb1<|fa ti80 j0 j0 j0<|g j0 hb1<|ld ti22 j0 j0<|g j0 hb1<|pc (slices_Equal_string_string_ok v1.Locals v2.Locals q2) j0 j0 j0<|r_nil (eg [11,12,13,14,15] 5 j0 j0 j0 j0)) (fun hb=>(sm (bF hb q3)).symm)<|u<|mv j0<|r_and (x:=v6) (j:=12) 5 j0 j0 j0 j0 j0 gpn (fun hb4=>by replace q6:=bT hb4 q6; obtain ⟨v5,q5,q6⟩:=bs q6; obtain rfl:=sm q6; exact g j0 hb4<|fa ti80 j0 j0 j0<|g j0 hb4<|ld ti22 j0 j0<|g j0 hb4<|fa ti80 j0 j0 j0<|g j0 hb4<|ld ti22 j0 j0<|g j0 hb4<|pc (slices_Equal_string_string_ok v1.Stack v2.Stack q5) j0 j0 j0<|r_nil (eg [18,19,20,21,22] 5 j0 j0 j0 j0)) (fun hb=>(sm (bF hb q6)).symm)<|u<|asg j0<|r_nil ?_
 refine sw_ret ?_
 obtain rfl:=sm h
 exact ⟨_,j0,[],ci j0,j0,j5,j0,j1⟩
def slices_EqualFunc_api_Map_api_Map_api_Map_api_Map_k2 : Option (Bool) :=
  some true
def slices_EqualFunc_api_Map_api_Map_api_Map_api_Map_l1 (v1 : List ApiMap) (v2 : List ApiMap) (v7 : Int) : Option (Sum (Int) (Sum (Unit) (Bool))) :=
  cond (decide (v7 < (List.length v1 : Int))) ((idx v1 v7).bind fun v8=>(idx v2 v7).bind fun v9=>(class_eqMethod_1 v8 v9).bind fun v10=>cond (!v10) (some (.inr (.inr false))) (some (.inl (IntKind.i64.wrap (v7 + 1))))) (some (.inr (.inl ())))
def slices_EqualFunc_api_Map_api_Map_api_Map_api_Map (v1 : List ApiMap) (v2 : List ApiMap) : Option (Bool) :=
  cond (!((List.length v1 : Int) == (List.length v2 : Int))) (some false) ((loopP (fun z=>slices_EqualFunc_api_Map_api_Map_api_Map_api_Map_l1 v1 v2 z) 0).bind fun o=>leave o (fun b=>slices_EqualFunc_api_Map_api_Map_api_Map_api_Map_k2) some)
theorem slices_EqualFunc_api_Map_api_Map_api_Map_api_Map_ok (v1 : List ApiMap) (v2 : List ApiMap) {r : Bool} (h : slices_EqualFunc_api_Map_api_Map_api_Map_api_Map v1 v2 = some r) : PureC Tryz.prog 356 [.isl 3 (List.map rApiMap v1),.isl 3 (List.map rApiMap v2),.fn (.func 357) [] []] (bA r):=by
 refine pure_fn Tryz.func356 j0 (by kernel_rfl) j0 j0 ?_
 unfold slices_EqualFunc_api_Map_api_Map_api_Map_api_Map at h
 refine rg j0<|u<|asg j0<|r_nil ?_
 refine sw_seq ?_
 refine rg j0<|u<|mv j0<|u<|lnI ti35 j0 j0<|u<|mv j0<|u<|lnI ti35 j0 j0<|u<|neq ti3 j0 j0<|r_nil ?_
 refine sw_cond j0 (fun hc1=>?_) (fun hc1=>?_)
 ·
  replace h:=bT hc1 h
  refine rg j0<|u<|asg j0<|r_nil ?_
  refine sw_ret ?_
  obtain rfl:=sm h
  exact ⟨_,j0,[],ci j0,j0,j5,j0,j1⟩
 ·
  replace h:=bF hc1 h
  refine sw_skip ?_
  refine sw_seq ?_
  refine rg j0<|u<|mv j0<|u<|lnI ti35 j0 j0<|u<|mv j0<|r_nil ?_
  obtain ⟨o,ho,h⟩:=bs h
  refine sw_lpl (X:=Int) (B:=Unit) (R:=Bool) (fun z=>[(1,.isl 3 (List.map rApiMap v2)),(2,.fn (.func 357) [] []),(15,.isl 3 (List.map rApiMap v1)),(16,iA (List.length v1 : Int)),(17,iA z)]) (fun z=>[]) (fun b=>[]) (fun b=>[]) (fun r env st=>PostF Tryz.prog Tryz.f356 0 (bA r) [] env st) ho ⟨[],ce j0 j0<|ce j0 j0<|ce j0 j0<|ce j0 j0<|ce j0 j0<|cn,j0,j5,j0,j1⟩ ?_ ?_ ?_
  ·
   rintro v7 r h
   replace h : slices_EqualFunc_api_Map_api_Map_api_Map_api_Map_l1 v1 v2 v7 = some r:=h
   unfold slices_EqualFunc_api_Map_api_Map_api_Map_api_Map_l1 at h
   refine rg j0<|u<|lss ti3 j0 j0<|r_nil ?_
   refine sw_seq ?_
   refine sw_cond j0 (fun hc7=>?_) (fun hc7=>?_)
   ·
    replace h:=bT hc7 h
    refine sw_skip ?_
    refine sw_seq ?_
    refine sw_block ?_
    obtain ⟨v8,q8,h⟩:=bs h
    refine rg j0<|u<|mv j0<|u<|ixI ti35 j0 ti80 j0 j0 j0 q8<|u<|ldI ti80 j0 (idx_some q8).2.2 j0<|u<|al 0 ti80 j0<|u<|asg j0<|u<|sto ti80 j0 j0 j0<|r_nil ?_
    obtain ⟨v9,q9,h⟩:=bs h
    refine rg j0<|u<|mv j0<|u<|mv j0<|u<|ixI ti35 j0 ti80 j0 j0 j0 q9<|u<|ldI ti80 j0 (idx_some q9).2.2 j0<|u<|al 1 ti80 j0<|u<|sto ti80 j0 j0 j0<|r_nil ?_
    obtain ⟨v10,q10,h⟩:=bs h
    refine rg j0<|u<|mv j0<|u<|ld ti80 j0 j0<|u<|ld ti80 j0 j0<|u<|pc (class_eqMethod_1_ok v8 v9 q10) j0 j0 j0<|u<|nt j0<|r_nil ?_
    refine sw_cond j0 (fun hc11=>?_) (fun hc11=>?_)
    ·
     replace h:=bT hc11 h
     refine rg j0<|u<|asg j0<|r_nil ?_
     refine sw_ret ?_
     obtain rfl:=sm h
     exact ⟨_,j0,_,j0,[],ci j0,j0,j5,j0,j1⟩
    ·
     replace h:=bF hc11 h
     refine sw_skip ?_
     refine rl j0<|u<|add ti3 j0 j0<|u<|mv j0<|r_nil ?_
     obtain rfl:=sm h
     exact ⟨_,j0,[],ce j0 j0<|ce j0 j0<|ce j0 j0<|ce j0 j0<|ce j0 j0<|cn,j0,j5,j0,j1⟩
   ·
    replace h:=bF hc7 h
    refine sw_exit ?_
    obtain rfl:=sm h
    exact ⟨j0,_,j0,[],cn,j0,j5,j0,j1⟩
  ·
   rintro ⟨⟩ rfl
   replace h : slices_EqualFunc_api_Map_api_Map_api_Map_api_Map_k2 = some r:=h
   unfold slices_EqualFunc_api_Map_api_Map_api_Map_api_Map_k2 at h
   refine ow_intro ?_
   refine rg j0<|u<|asg j0<|r_nil ?_
   refine sw_ret ?_
   obtain rfl:=sm h
   exact ⟨_,j0,[],ci j0,j0,j5,j0,j1⟩
  ·
   rintro r' rfl env st hp
   obtain rfl:=sm h
   exact hp
def slices_Equal_api_Ins_api_Ins_k2 : Option (Bool) :=
  some true
def slices_Equal_api_Ins_api_Ins_l1 (v1 : List ApiIns) (v2 : List ApiIns) (v6 : Int) : Option (Sum (Int) (Sum (Unit) (Bool))) :=
  cond (decide (v6 < (List.length v1 : Int))) ((idx v1 v6).bind fun v7=>(idx v2 v6).bind fun v8=>cond (!((v7.Op == v8.Op) && ((v7.A == v8.A) && ((v7.C == v8.C) && ((v7.M == v8.M) && true))))) (some (.inr (.inr false))) (some (.inl (IntKind.i64.wrap (v6 + 1))))) (some (.inr (.inl ())))
def slices_Equal_api_Ins_api_Ins (v1 : List ApiIns) (v2 : List ApiIns) : Option (Bool) :=
  cond (!((List.length v1 : Int) == (List.length v2 : Int))) (some false) ((loopP (fun z=>slices_Equal_api_Ins_api_Ins_l1 v1 v2 z) 0).bind fun o=>leave o (fun b=>slices_Equal_api_Ins_api_Ins_k2) some)
theorem slices_Equal_api_Ins_api_Ins_ok (v1 : List ApiIns) (v2 : List ApiIns) {r : Bool} (h : slices_Equal_api_Ins_api_Ins v1 v2 = some r) : PureC Tryz.prog 358 [.isl 4 (List.map rApiIns v1),.isl 4 (List.map rApiIns v2)] (bA r):=by
 refine pure_fn Tryz.func358 j0 (by kernel_rfl) j0 j0 ?_
 unfold slices_Equal_api_Ins_api_Ins at h
 refine rg j0<|u<|asg j0<|r_nil ?_
 refine sw_seq ?_
 refine rg j0<|u<|mv j0<|u<|lnI ti34 j0 j0<|u<|mv j0<|u<|lnI ti34 j0 j0<|u<|neq ti3 j0 j0<|r_nil ?_
 refine sw_cond j0 (fun hc1=>?_) (fun hc1=>?_)
 ·
  replace h:=bT hc1 h
  refine rg j0<|u<|asg j0<|r_nil ?_
  refine sw_ret ?_
  obtain rfl:=sm h
  exact ⟨_,j0,[],ci j0,j0,j5,j0,j1⟩
 ·
  replace h:=bF hc1 h
  refine sw_skip ?_
  refine sw_seq ?_
  refine rg j0<|u<|mv j0<|u<|lnI ti34 j0 j0<|u<|mv j0<|r_nil ?_
  obtain ⟨o,ho,h⟩:=bs h
  refine sw_lpl (X:=Int) (B:=Unit) (R:=Bool) (fun z=>[(0,.isl 4 (List.map rApiIns v1)),(1,.isl 4 (List.map rApiIns v2)),(12,iA (List.length v1 : Int)),(13,iA z)]) (fun z=>[]) (fun b=>[]) (fun b=>[]) (fun r env st=>PostF Tryz.prog Tryz.f358 0 (bA r) [] env st) ho ⟨[],ce j0 j0<|ce j0 j0<|ce j0 j0<|ce j0 j0<|cn,j0,j5,j0,j1⟩ ?_ ?_ ?_
  ·
   rintro v6 r h
   replace h : slices_Equal_api_Ins_api_Ins_l1 v1 v2 v6 = some r:=h
   unfold slices_Equal_api_Ins_api_Ins_l1 at h
   refine rg j0<|u<|lss ti3 j0 j0<|r_nil ?_
   refine sw_seq ?_
   refine sw_cond j0 (fun hc6=>?_) (fun hc6=>?_)
   ·
    replace h:=bT hc6 h
    refine sw_skip ?_
    refine sw_seq ?_
    refine sw_block ?_
    refine rg j0<|u<|mv j0<|u<|asg j0<|r_nil ?_
    obtain ⟨v7,q7,h⟩:=bs h
    obtain ⟨v8,q8,h⟩:=bs h
    refine rd [(0,.isl 4 (List.map rApiIns v1)),(1,.isl 4 (List.map rApiIns v2)),(12,iA (List.length v1 : Int)),(13,iA v6),(24,bA (!((v7.Op == v8.Op) && ((v7.A == v8.A) && ((v7.C == v8.C) && ((v7.M == v8.M) && true))))))] [] [] [8,7,6,5,4,3,2,1,0] [(24,bA (!((v7.Op == v8.Op) && ((v7.A == v8.A) && ((v7.C == v8.C) && ((v7.M == v8.M) && true)))))),(23,.agg [iA v8.Op,iA v8.A,sA v8.C,sA v8.M]),(22,.ipt 4 (List.map rApiIns v2) (Int.toNat v6) 0),(21,iA v6),(20,.isl 4 (List.map rApiIns v2)),(19,.agg [iA v7.Op,iA v7.A,sA v7.C,sA v7.M]),(18,.ipt 4 (List.map rApiIns v1) (Int.toNat v6) 0),(17,iA v6),(16,.isl 4 (List.map rApiIns v1))] 0 (by kernel_rfl) (by kernel_rfl) j0 (by kernel_rfl) (dt0 ⟨(fun _=>pa j0 j0 j0 j0 (agn ti40 eqs40 j0 j0 j0<|j4)),(fun _=>pa j0 j0 j0 j0 (ldI ti40 j0 (idx_some q8).2.2 j0<|j4)),(fun _=>pa j0 j0 j0 j0 (ixI ti34 j0 ti40 j0 j0 j0 q8<|j4)),(fun _=>pa j0 j0 j0 j0 (mv j0<|j4)),(fun _=>pa j0 j0 j0 j0 (mv j0<|j4)),(fun _=>pa j0 j0 j0 j0 (ldI ti40 j0 (idx_some q7).2.2 j0<|j4)),(fun _=>pa j0 j0 j0 j0 (ixI ti34 j0 ti40 j0 j0 j0 q7<|j4)),(fun _=>pa j0 j0 j0 j0 (mv j0<|j4)),(fun _=>pa j0 j0 j0 j0 (mv j0<|j4)),j5⟩ (by kernel_rfl) j0 ⟨[],ce j0 j0<|ce j0 j0<|ce j0 j0<|ce j0 j0<|ce j0 j0<|cn,j0,j5,j0,j1⟩) ?_
    refine sw_cond j0 (fun hc9=>?_) (fun hc9=>?_)
    ·
     replace h:=bT hc9 h
     refine rg j0<|u<|asg j0<|r_nil ?_
     refine sw_ret ?_
     obtain rfl:=sm h
     exact ⟨_,j0,_,j0,[],ci j0,j0,j5,j0,j1⟩
    ·
     replace h:=bF hc9 h
     refine sw_skip ?_
     refine rl j0<|u<|add ti3 j0 j0<|u<|mv j0<|r_nil ?_
     obtain rfl:=sm h
     exact ⟨_,j0,[],ce j0 j0<|ce j0 j0<|ce j0 j0<|ce j0 j0<|cn,j0,j5,j0,j1⟩
   ·
    replace h:=bF hc6 h
    refine sw_exit ?_
    obtain rfl:=sm h
    exact ⟨j0,_,j0,[],cn,j0,j5,j0,j1⟩
  ·
   rintro ⟨⟩ rfl
   replace h : slices_Equal_api_Ins_api_Ins_k2 = some r:=h
   unfold slices_Equal_api_Ins_api_Ins_k2 at h
   refine ow_intro ?_
   refine rg j0<|u<|asg j0<|r_nil ?_
   refine sw_ret ?_
   obtain rfl:=sm h
   exact ⟨_,j0,[],ci j0,j0,j5,j0,j1⟩
  ·
   rintro r' rfl env st hp
   obtain rfl:=sm h
   exact hp
def slices_Equal_api_Trap_api_Trap_k2 : Option (Bool) :=
  some true
def slices_Equal_api_Trap_api_Trap_l1 (v1 : List ApiTrap) (v2 : List ApiTrap) (v6 : Int) : Option (Sum (Int) (Sum (Unit) (Bool))) :=
  cond (decide (v6 < (List.length v1 : Int))) ((idx v1 v6).bind fun v7=>(idx v2 v6).bind fun v8=>cond (!((v7.From == v8.From) && ((v7.To == v8.To) && ((v7.At == v8.At) && ((v7.C == v8.C) && true))))) (some (.inr (.inr false))) (some (.inl (IntKind.i64.wrap (v6 + 1))))) (some (.inr (.inl ())))
def slices_Equal_api_Trap_api_Trap (v1 : List ApiTrap) (v2 : List ApiTrap) : Option (Bool) :=
  cond (!((List.length v1 : Int) == (List.length v2 : Int))) (some false) ((loopP (fun z=>slices_Equal_api_Trap_api_Trap_l1 v1 v2 z) 0).bind fun o=>leave o (fun b=>slices_Equal_api_Trap_api_Trap_k2) some)
theorem slices_Equal_api_Trap_api_Trap_ok (v1 : List ApiTrap) (v2 : List ApiTrap) {r : Bool} (h : slices_Equal_api_Trap_api_Trap v1 v2 = some r) : PureC Tryz.prog 359 [.isl 4 (List.map rApiTrap v1),.isl 4 (List.map rApiTrap v2)] (bA r):=by
 refine pure_fn Tryz.func359 j0 (by kernel_rfl) j0 j0 ?_
 unfold slices_Equal_api_Trap_api_Trap at h
 refine rg j0<|u<|asg j0<|r_nil ?_
 refine sw_seq ?_
 refine rg j0<|u<|mv j0<|u<|lnI ti36 j0 j0<|u<|mv j0<|u<|lnI ti36 j0 j0<|u<|neq ti3 j0 j0<|r_nil ?_
 refine sw_cond j0 (fun hc1=>?_) (fun hc1=>?_)
 ·
  replace h:=bT hc1 h
  refine rg j0<|u<|asg j0<|r_nil ?_
  refine sw_ret ?_
  obtain rfl:=sm h
  exact ⟨_,j0,[],ci j0,j0,j5,j0,j1⟩
 ·
  replace h:=bF hc1 h
  refine sw_skip ?_
  refine sw_seq ?_
  refine rg j0<|u<|mv j0<|u<|lnI ti36 j0 j0<|u<|mv j0<|r_nil ?_
  obtain ⟨o,ho,h⟩:=bs h
  refine sw_lpl (X:=Int) (B:=Unit) (R:=Bool) (fun z=>[(0,.isl 4 (List.map rApiTrap v1)),(1,.isl 4 (List.map rApiTrap v2)),(12,iA (List.length v1 : Int)),(13,iA z)]) (fun z=>[]) (fun b=>[]) (fun b=>[]) (fun r env st=>PostF Tryz.prog Tryz.f359 0 (bA r) [] env st) ho ⟨[],ce j0 j0<|ce j0 j0<|ce j0 j0<|ce j0 j0<|cn,j0,j5,j0,j1⟩ ?_ ?_ ?_
  ·
   rintro v6 r h
   replace h : slices_Equal_api_Trap_api_Trap_l1 v1 v2 v6 = some r:=h
   unfold slices_Equal_api_Trap_api_Trap_l1 at h
   refine rg j0<|u<|lss ti3 j0 j0<|r_nil ?_
   refine sw_seq ?_
   refine sw_cond j0 (fun hc6=>?_) (fun hc6=>?_)
   ·
    replace h:=bT hc6 h
    refine sw_skip ?_
    refine sw_seq ?_
    refine sw_block ?_
    refine rg j0<|u<|mv j0<|u<|asg j0<|r_nil ?_
    obtain ⟨v7,q7,h⟩:=bs h
    obtain ⟨v8,q8,h⟩:=bs h
    refine rd [(0,.isl 4 (List.map rApiTrap v1)),(1,.isl 4 (List.map rApiTrap v2)),(12,iA (List.length v1 : Int)),(13,iA v6),(24,bA (!((v7.From == v8.From) && ((v7.To == v8.To) && ((v7.At == v8.At) && ((v7.C == v8.C) && true))))))] [] [] [8,7,6,5,4,3,2,1,0] [(24,bA (!((v7.From == v8.From) && ((v7.To == v8.To) && ((v7.At == v8.At) && ((v7.C == v8.C) && true)))))),(23,.agg [iA v8.From,iA v8.To,iA v8.At,sA v8.C]),(22,.ipt 4 (List.map rApiTrap v2) (Int.toNat v6) 0),(21,iA v6),(20,.isl 4 (List.map rApiTrap v2)),(19,.agg [iA v7.From,iA v7.To,iA v7.At,sA v7.C]),(18,.ipt 4 (List.map rApiTrap v1) (Int.toNat v6) 0),(17,iA v6),(16,.isl 4 (List.map rApiTrap v1))] 0 (by kernel_rfl) (by kernel_rfl) j0 (by kernel_rfl) (dt0 ⟨(fun _=>pa j0 j0 j0 j0 (agn ti88 eqs88 j0 j0 j0<|j4)),(fun _=>pa j0 j0 j0 j0 (ldI ti88 j0 (idx_some q8).2.2 j0<|j4)),(fun _=>pa j0 j0 j0 j0 (ixI ti36 j0 ti88 j0 j0 j0 q8<|j4)),(fun _=>pa j0 j0 j0 j0 (mv j0<|j4)),(fun _=>pa j0 j0 j0 j0 (mv j0<|j4)),(fun _=>pa j0 j0 j0 j0 (ldI ti88 j0 (idx_some q7).2.2 j0<|j4)),(fun _=>pa j0 j0 j0 j0 (ixI ti36 j0 ti88 j0 j0 j0 q7<|j4)),(fun _=>pa j0 j0 j0 j0 (mv j0<|j4)),(fun _=>pa j0 j0 j0 j0 (mv j0<|j4)),j5⟩ (by kernel_rfl) j0 ⟨[],ce j0 j0<|ce j0 j0<|ce j0 j0<|ce j0 j0<|ce j0 j0<|cn,j0,j5,j0,j1⟩) ?_
    refine sw_cond j0 (fun hc9=>?_) (fun hc9=>?_)
    ·
     replace h:=bT hc9 h
     refine rg j0<|u<|asg j0<|r_nil ?_
     refine sw_ret ?_
     obtain rfl:=sm h
     exact ⟨_,j0,_,j0,[],ci j0,j0,j5,j0,j1⟩
    ·
     replace h:=bF hc9 h
     refine sw_skip ?_
     refine rl j0<|u<|add ti3 j0 j0<|u<|mv j0<|r_nil ?_
     obtain rfl:=sm h
     exact ⟨_,j0,[],ce j0 j0<|ce j0 j0<|ce j0 j0<|ce j0 j0<|cn,j0,j5,j0,j1⟩
   ·
    replace h:=bF hc6 h
    refine sw_exit ?_
    obtain rfl:=sm h
    exact ⟨j0,_,j0,[],cn,j0,j5,j0,j1⟩
  ·
   rintro ⟨⟩ rfl
   replace h : slices_Equal_api_Trap_api_Trap_k2 = some r:=h
   unfold slices_Equal_api_Trap_api_Trap_k2 at h
   refine ow_intro ?_
   refine rg j0<|u<|asg j0<|r_nil ?_
   refine sw_ret ?_
   obtain rfl:=sm h
   exact ⟨_,j0,[],ci j0,j0,j5,j0,j1⟩
  ·
   rintro r' rfl env st hp
   obtain rfl:=sm h
   exact hp
def class_eqMethod (v1 : ApiMethod) (v2 : ApiMethod) : Option (Bool) :=
  (slices_EqualFunc_api_Map_api_Map_api_Map_api_Map v1.Maps v2.Maps).bind fun v3=>(cond (v1.Name == v2.Name) ((slices_Equal_string_string v1.Params v2.Params).bind fun v4=>some v4) (some false)).bind fun v5=>(cond (((v3 && (((v5 && (v1.Ret == v2.Ret)) && (v1.Static == v2.Static)) && (v1.Abstract == v2.Abstract))) && (v1.Locals == v2.Locals)) && (v1.Stack == v2.Stack)) ((slices_Equal_api_Ins_api_Ins v1.Code v2.Code).bind fun v6=>some v6) (some false)).bind fun v7=>(cond v7 ((slices_Equal_api_Trap_api_Trap v1.Traps v2.Traps).bind fun v8=>some v8) (some false)).bind fun v9=>some v9
theorem class_eqMethod_ok (v1 : ApiMethod) (v2 : ApiMethod) {r : Bool} (h : class_eqMethod v1 v2 = some r) : PureC Tryz.prog 321 [.agg [sA v1.Name,.isl 1 (List.map rStr v1.Params),sA v1.Ret,bA v1.Static,bA v1.Abstract,iA v1.Locals,iA v1.Stack,.isl 4 (List.map rApiIns v1.Code),.isl 3 (List.map rApiMap v1.Maps),.isl 4 (List.map rApiTrap v1.Traps)],.agg [sA v2.Name,.isl 1 (List.map rStr v2.Params),sA v2.Ret,bA v2.Static,bA v2.Abstract,iA v2.Locals,iA v2.Stack,.isl 4 (List.map rApiIns v2.Code),.isl 3 (List.map rApiMap v2.Maps),.isl 4 (List.map rApiTrap v2.Traps)]] (bA r):=by
 refine pure_fn Tryz.func321 j0 (by kernel_rfl) j0 j0 ?_
 unfold class_eqMethod at h
 refine rg j0<|u<|bx 0 10 j0 j0 j0 j0<|u<|bx 1 10 j0 j0 j0 j0<|u<|asg j0<|r_nil ?_
 obtain ⟨v3,q1,h⟩:=bs h
 refine rg j0<|u<|fa ti38 j0 j0 j0<|u<|ld ti35 j0 j0<|u<|fa ti38 j0 j0 j0<|u<|ld ti35 j0 j0<|u<|pc (slices_EqualFunc_api_Map_api_Map_api_Map_api_Map_ok v1.Maps v2.Maps q1) j0 j0 j0<|u<|asg j0<|r_nil ?_
 obtain ⟨v5,q4,h⟩:=bs h
 refine rg j0<|u<|fa ti38 j0 j0 j0<|u<|ld ti9 j0 j0<|u<|fa ti38 j0 j0 j0<|u<|ld ti9 j0 j0<|u<|seq ti9 j0 j0<|u<|mv j0<|r_and (x:=v5) (j:=5) 5 j0 j0 j0 j0 j0 gpn (fun hb2=>by replace q4:=bT hb2 q4; obtain ⟨v4,q3,q4⟩:=bs q4; obtain rfl:=sm q4; exact g j0 hb2<|fa ti38 j0 j0 j0<|g j0 hb2<|ld ti22 j0 j0<|g j0 hb2<|fa ti38 j0 j0 j0<|g j0 hb2<|ld ti22 j0 j0<|g j0 hb2<|pc (slices_Equal_string_string_ok v1.Params v2.Params q3) j0 j0 j0<|r_nil (eg [18,19,20,21,22] 5 j0 j0 j0 j0)) (fun hb=>(sm (bF hb q4)).symm)<|u<|mv j0<|r_and (j:=12) 5 j0 j0 j0 j0 j0 gpn (fun hb5=>g j0 hb5<|fa ti38 j0 j0 j0<|g j0 hb5<|ld ti9 j0 j0<|g j0 hb5<|fa ti38 j0 j0 j0<|g j0 hb5<|ld ti9 j0 j0<|g j0 hb5<|seq ti9 j0 j0<|r_nil (egA [25,26,27,28,29] 5 hb5 j0 j0 j0 j0)) andF<|u<|mv j0<|r_and (j:=19) 5 j0 j0 j0 j0 j0 gpn (fun hb6=>g j0 hb6<|fa ti38 j0 j0 j0<|g j0 hb6<|ld ti4 j0 j0<|g j0 hb6<|fa ti38 j0 j0 j0<|g j0 hb6<|ld ti4 j0 j0<|g j0 hb6<|beq ti4 j0 j0 j0<|r_nil (egA [32,33,34,35,36] 5 hb6 j0 j0 j0 j0)) andF<|u<|mv j0<|r_and (j:=26) 5 j0 j0 j0 j0 j0 gpn (fun hb7=>g j0 hb7<|fa ti38 j0 j0 j0<|g j0 hb7<|ld ti4 j0 j0<|g j0 hb7<|fa ti38 j0 j0 j0<|g j0 hb7<|ld ti4 j0 j0<|g j0 hb7<|beq ti4 j0 j0 j0<|r_nil (egA [39,40,41,42,43] 5 hb7 j0 j0 j0 j0)) andF<|u<|asg j0<|r_nil ?_
 obtain ⟨v7,q13,h⟩:=bs h
 obtain ⟨v9,q16,h⟩:=bs h
 refine rg j0<|u<|mv j0<|u<|mv j0<|r_and (j:=1) 1 j0 j0 j0 j0 j0 gpn (fun hb8=>g j0 hb8<|mv j0<|r_nil (egA [47] 1 hb8 j0 j0 j0 j0)) andF<|u<|mv j0<|r_and (j:=4) 5 j0 j0 j0 j0 j0 gpn (fun hb9=>g j0 hb9<|fa ti38 j0 j0 j0<|g j0 hb9<|ld ti3 j0 j0<|g j0 hb9<|fa ti38 j0 j0 j0<|g j0 hb9<|ld ti3 j0 j0<|g j0 hb9<|eql ti3 j0 j0<|r_nil (egA [50,51,52,53,54] 5 hb9 j0 j0 j0 j0)) andF<|u<|mv j0<|r_and (j:=11) 5 j0 j0 j0 j0 j0 gpn (fun hb10=>g j0 hb10<|fa ti38 j0 j0 j0<|g j0 hb10<|ld ti3 j0 j0<|g j0 hb10<|fa ti38 j0 j0 j0<|g j0 hb10<|ld ti3 j0 j0<|g j0 hb10<|eql ti3 j0 j0<|r_nil (egA [57,58,59,60,61] 5 hb10 j0 j0 j0 j0)) andF<|u<|mv j0<|r_and (x:=v7) (j:=18) 5 j0 j0 j0 j0 j0 gpn (fun hb11=>by replace q13:=bT hb11 q13; obtain ⟨v6,q12,q13⟩:=bs q13; obtain rfl:=sm q13; exact g j0 hb11<|fa ti38 j0 j0 j0<|g j0 hb11<|ld ti34 j0 j0<|g j0 hb11<|fa ti38 j0 j0 j0<|g j0 hb11<|ld ti34 j0 j0<|g j0 hb11<|pc (slices_Equal_api_Ins_api_Ins_ok v1.Code v2.Code q12) j0 j0 j0<|r_nil (eg [64,65,66,67,68] 5 j0 j0 j0 j0)) (fun hb=>(sm (bF hb q13)).symm)<|u<|mv j0<|r_and (x:=v9) (j:=25) 5 j0 j0 j0 j0 j0 gpn (fun hb14=>by replace q16:=bT hb14 q16; obtain ⟨v8,q15,q16⟩:=bs q16; obtain rfl:=sm q16; exact g j0 hb14<|fa ti38 j0 j0 j0<|g j0 hb14<|ld ti36 j0 j0<|g j0 hb14<|fa ti38 j0 j0 j0<|g j0 hb14<|ld ti36 j0 j0<|g j0 hb14<|pc (slices_Equal_api_Trap_api_Trap_ok v1.Traps v2.Traps q15) j0 j0 j0<|r_nil (eg [71,72,73,74,75] 5 j0 j0 j0 j0)) (fun hb=>(sm (bF hb q16)).symm)<|u<|asg j0<|r_nil ?_
 refine sw_ret ?_
 obtain rfl:=sm h
 exact ⟨_,j0,[],ci j0,j0,j5,j0,j1⟩
def slices_EqualFunc_api_Method_api_Method_api_Method_api_Method_k2 : Option (Bool) :=
  some true
def slices_EqualFunc_api_Method_api_Method_api_Method_api_Method_l1 (v1 : List ApiMethod) (v2 : List ApiMethod) (v7 : Int) : Option (Sum (Int) (Sum (Unit) (Bool))) :=
  cond (decide (v7 < (List.length v1 : Int))) ((idx v1 v7).bind fun v8=>(idx v2 v7).bind fun v9=>(class_eqMethod v8 v9).bind fun v10=>cond (!v10) (some (.inr (.inr false))) (some (.inl (IntKind.i64.wrap (v7 + 1))))) (some (.inr (.inl ())))
def slices_EqualFunc_api_Method_api_Method_api_Method_api_Method (v1 : List ApiMethod) (v2 : List ApiMethod) : Option (Bool) :=
  cond (!((List.length v1 : Int) == (List.length v2 : Int))) (some false) ((loopP (fun z=>slices_EqualFunc_api_Method_api_Method_api_Method_api_Method_l1 v1 v2 z) 0).bind fun o=>leave o (fun b=>slices_EqualFunc_api_Method_api_Method_api_Method_api_Method_k2) some)
theorem slices_EqualFunc_api_Method_api_Method_api_Method_api_Method_ok (v1 : List ApiMethod) (v2 : List ApiMethod) {r : Bool} (h : slices_EqualFunc_api_Method_api_Method_api_Method_api_Method v1 v2 = some r) : PureC Tryz.prog 320 [.isl 10 (List.map rApiMethod v1),.isl 10 (List.map rApiMethod v2),.fn (.func 321) [] []] (bA r):=by
 refine pure_fn Tryz.func320 j0 (by kernel_rfl) j0 j0 ?_
 unfold slices_EqualFunc_api_Method_api_Method_api_Method_api_Method at h
 refine rg j0<|u<|asg j0<|r_nil ?_
 refine sw_seq ?_
 refine rg j0<|u<|mv j0<|u<|lnI ti24 j0 j0<|u<|mv j0<|u<|lnI ti24 j0 j0<|u<|neq ti3 j0 j0<|r_nil ?_
 refine sw_cond j0 (fun hc1=>?_) (fun hc1=>?_)
 ·
  replace h:=bT hc1 h
  refine rg j0<|u<|asg j0<|r_nil ?_
  refine sw_ret ?_
  obtain rfl:=sm h
  exact ⟨_,j0,[],ci j0,j0,j5,j0,j1⟩
 ·
  replace h:=bF hc1 h
  refine sw_skip ?_
  refine sw_seq ?_
  refine rg j0<|u<|mv j0<|u<|lnI ti24 j0 j0<|u<|mv j0<|r_nil ?_
  obtain ⟨o,ho,h⟩:=bs h
  refine sw_lpl (X:=Int) (B:=Unit) (R:=Bool) (fun z=>[(1,.isl 10 (List.map rApiMethod v2)),(2,.fn (.func 321) [] []),(15,.isl 10 (List.map rApiMethod v1)),(16,iA (List.length v1 : Int)),(17,iA z)]) (fun z=>[]) (fun b=>[]) (fun b=>[]) (fun r env st=>PostF Tryz.prog Tryz.f320 0 (bA r) [] env st) ho ⟨[],ce j0 j0<|ce j0 j0<|ce j0 j0<|ce j0 j0<|ce j0 j0<|cn,j0,j5,j0,j1⟩ ?_ ?_ ?_
  ·
   rintro v7 r h
   replace h : slices_EqualFunc_api_Method_api_Method_api_Method_api_Method_l1 v1 v2 v7 = some r:=h
   unfold slices_EqualFunc_api_Method_api_Method_api_Method_api_Method_l1 at h
   refine rg j0<|u<|lss ti3 j0 j0<|r_nil ?_
   refine sw_seq ?_
   refine sw_cond j0 (fun hc7=>?_) (fun hc7=>?_)
   ·
    replace h:=bT hc7 h
    refine sw_skip ?_
    refine sw_seq ?_
    refine sw_block ?_
    obtain ⟨v8,q8,h⟩:=bs h
    refine rg j0<|u<|mv j0<|u<|ixI ti24 j0 ti38 j0 j0 j0 q8<|u<|ldI ti38 j0 (idx_some q8).2.2 j0<|u<|al 0 ti38 j0<|u<|asg j0<|u<|sto ti38 j0 j0 j0<|r_nil ?_
    obtain ⟨v9,q9,h⟩:=bs h
    refine rg j0<|u<|mv j0<|u<|mv j0<|u<|ixI ti24 j0 ti38 j0 j0 j0 q9<|u<|ldI ti38 j0 (idx_some q9).2.2 j0<|u<|al 1 ti38 j0<|u<|sto ti38 j0 j0 j0<|r_nil ?_
    obtain ⟨v10,q10,h⟩:=bs h
    refine rg j0<|u<|mv j0<|u<|ld ti38 j0 j0<|u<|ld ti38 j0 j0<|u<|pc (class_eqMethod_ok v8 v9 q10) j0 j0 j0<|u<|nt j0<|r_nil ?_
    refine sw_cond j0 (fun hc11=>?_) (fun hc11=>?_)
    ·
     replace h:=bT hc11 h
     refine rg j0<|u<|asg j0<|r_nil ?_
     refine sw_ret ?_
     obtain rfl:=sm h
     exact ⟨_,j0,_,j0,[],ci j0,j0,j5,j0,j1⟩
    ·
     replace h:=bF hc11 h
     refine sw_skip ?_
     refine rl j0<|u<|add ti3 j0 j0<|u<|mv j0<|r_nil ?_
     obtain rfl:=sm h
     exact ⟨_,j0,[],ce j0 j0<|ce j0 j0<|ce j0 j0<|ce j0 j0<|ce j0 j0<|cn,j0,j5,j0,j1⟩
   ·
    replace h:=bF hc7 h
    refine sw_exit ?_
    obtain rfl:=sm h
    exact ⟨j0,_,j0,[],cn,j0,j5,j0,j1⟩
  ·
   rintro ⟨⟩ rfl
   replace h : slices_EqualFunc_api_Method_api_Method_api_Method_api_Method_k2 = some r:=h
   unfold slices_EqualFunc_api_Method_api_Method_api_Method_api_Method_k2 at h
   refine ow_intro ?_
   refine rg j0<|u<|asg j0<|r_nil ?_
   refine sw_ret ?_
   obtain rfl:=sm h
   exact ⟨_,j0,[],ci j0,j0,j5,j0,j1⟩
  ·
   rintro r' rfl env st hp
   obtain rfl:=sm h
   exact hp
def class_Eq (v1 : ApiClass) (v2 : ApiClass) : Option (Bool) :=
  (cond (((v1.Name == v2.Name) && (v1.Super == v2.Super)) && (v1.Interface == v2.Interface)) ((slices_Equal_string_string v1.Impl v2.Impl).bind fun v3=>some v3) (some false)).bind fun v4=>(cond v4 ((slices_Equal_api_Field_api_Field v1.Fields v2.Fields).bind fun v5=>some v5) (some false)).bind fun v6=>(cond v6 ((slices_EqualFunc_api_Method_api_Method_api_Method_api_Method v1.Methods v2.Methods).bind fun v7=>some v7) (some false)).bind fun v8=>some v8
theorem class_Eq_ok (v1 : ApiClass) (v2 : ApiClass) {r : Bool} (h : class_Eq v1 v2 = some r) : PureC Tryz.prog 233 [.agg [sA v1.Name,sA v1.Super,bA v1.Interface,.isl 1 (List.map rStr v1.Impl),.isl 3 (List.map rApiField v1.Fields),.isl 10 (List.map rApiMethod v1.Methods)],.agg [sA v2.Name,sA v2.Super,bA v2.Interface,.isl 1 (List.map rStr v2.Impl),.isl 3 (List.map rApiField v2.Fields),.isl 10 (List.map rApiMethod v2.Methods)]] (bA r):=by
 refine pure_fn Tryz.func233 j0 (by kernel_rfl) j0 j0 ?_
 unfold class_Eq at h
 refine rg j0<|u<|bx 0 6 j0 j0 j0 j0<|u<|bx 1 6 j0 j0 j0 j0<|u<|asg j0<|r_nil ?_
 obtain ⟨v4,q5,h⟩:=bs h
 obtain ⟨v6,q8,h⟩:=bs h
 obtain ⟨v8,q11,h⟩:=bs h
 refine rg j0<|u<|fa ti26 j0 j0 j0<|u<|ld ti9 j0 j0<|u<|fa ti26 j0 j0 j0<|u<|ld ti9 j0 j0<|u<|seq ti9 j0 j0<|u<|mv j0<|r_and (j:=5) 5 j0 j0 j0 j0 j0 gpn (fun hb1=>g j0 hb1<|fa ti26 j0 j0 j0<|g j0 hb1<|ld ti9 j0 j0<|g j0 hb1<|fa ti26 j0 j0 j0<|g j0 hb1<|ld ti9 j0 j0<|g j0 hb1<|seq ti9 j0 j0<|r_nil (egA [11,12,13,14,15] 5 hb1 j0 j0 j0 j0)) andF<|u<|mv j0<|r_and (j:=12) 5 j0 j0 j0 j0 j0 gpn (fun hb2=>g j0 hb2<|fa ti26 j0 j0 j0<|g j0 hb2<|ld ti4 j0 j0<|g j0 hb2<|fa ti26 j0 j0 j0<|g j0 hb2<|ld ti4 j0 j0<|g j0 hb2<|beq ti4 j0 j0 j0<|r_nil (egA [18,19,20,21,22] 5 hb2 j0 j0 j0 j0)) andF<|u<|mv j0<|r_and (x:=v4) (j:=19) 5 j0 j0 j0 j0 j0 gpn (fun hb3=>by replace q5:=bT hb3 q5; obtain ⟨v3,q4,q5⟩:=bs q5; obtain rfl:=sm q5; exact g j0 hb3<|fa ti26 j0 j0 j0<|g j0 hb3<|ld ti22 j0 j0<|g j0 hb3<|fa ti26 j0 j0 j0<|g j0 hb3<|ld ti22 j0 j0<|g j0 hb3<|pc (slices_Equal_string_string_ok v1.Impl v2.Impl q4) j0 j0 j0<|r_nil (eg [25,26,27,28,29] 5 j0 j0 j0 j0)) (fun hb=>(sm (bF hb q5)).symm)<|u<|mv j0<|r_and (x:=v6) (j:=26) 5 j0 j0 j0 j0 j0 gpn (fun hb6=>by replace q8:=bT hb6 q8; obtain ⟨v5,q7,q8⟩:=bs q8; obtain rfl:=sm q8; exact g j0 hb6<|fa ti26 j0 j0 j0<|g j0 hb6<|ld ti23 j0 j0<|g j0 hb6<|fa ti26 j0 j0 j0<|g j0 hb6<|ld ti23 j0 j0<|g j0 hb6<|pc (slices_Equal_api_Field_api_Field_ok v1.Fields v2.Fields q7) j0 j0 j0<|r_nil (eg [32,33,34,35,36] 5 j0 j0 j0 j0)) (fun hb=>(sm (bF hb q8)).symm)<|u<|mv j0<|r_and (x:=v8) (j:=33) 5 j0 j0 j0 j0 j0 gpn (fun hb9=>by replace q11:=bT hb9 q11; obtain ⟨v7,q10,q11⟩:=bs q11; obtain rfl:=sm q11; exact g j0 hb9<|fa ti26 j0 j0 j0<|g j0 hb9<|ld ti24 j0 j0<|g j0 hb9<|fa ti26 j0 j0 j0<|g j0 hb9<|ld ti24 j0 j0<|g j0 hb9<|pc (slices_EqualFunc_api_Method_api_Method_api_Method_api_Method_ok v1.Methods v2.Methods q10) j0 j0 j0<|r_nil (eg [39,40,41,42,43] 5 j0 j0 j0 j0)) (fun hb=>(sm (bF hb q11)).symm)<|u<|asg j0<|r_nil ?_
 refine sw_ret ?_
 obtain rfl:=sm h
 exact ⟨_,j0,[],ci j0,j0,j5,j0,j1⟩
def law5_One (v1 : List UInt8) : Unit :=
  ()
theorem law5_One_ok (v1 : List UInt8) {r : Unit} (h : law5_One v1 = r) : SC Tryz.prog 21 [sA v1] [] (.agg [sA v1,sA [79,98,106,101,99,116],bA false,.lit (.slice none 0 0),.msl 0 0 1,.msl 1 0 1]) [.xs 3 [[sA [120],sA [73],bA false]],.xs 10 [[sA [109,97,105,110],.lit (.slice none 0 0),sA [86],bA true,bA false,iA 0,iA 0,.msl 2 0 1,.lit (.slice none 0 0),.lit (.slice none 0 0)]],.xs 4 [[iA 46,iA 0,sA [],sA []]]]:=by
 refine ⟨⟨j5,j5,j5,j5⟩,scall_fn Tryz.func21 j0 (by kernel_rfl) j0 ?_⟩
 unfold law5_One at h
 refine rg j0<|u<|al 0 ti26 j0<|r_nil ?_
 refine rg j0<|u<|mv j0<|u<|bd ti42 j0 j0 j0<|u<|bl 1 ti23 j0 ti42 j0 (by decide) (by decide) j0 j0 j0<|u<|bd ti40 j0 j0 j0<|u<|bl 2 ti34 j0 ti40 j0 (by decide) (by decide) j0 j0 j0<|u<|bd ti38 j0 j0 j0<|u<|bl 3 ti24 j0 ti38 j0 (by decide) (by decide) j0 j0 j0<|u<|bd ti26 j0 j0 j0<|u<|sto ti26 j0 j0 j0<|r_nil ?_
 refine sw_ret ?_
 obtain rfl:=h
 exact ⟨_,j0,[.old 1,.old 3,.old 2],rsAgg ⟨ci j0,ci j0,ci j0,ci j0,(.msl j0),(.msl j0),j5⟩,j0,⟨⟨_,j0,rsRows ⟨⟨(ci j0),(ci j0),(ci j0),j5⟩,j5⟩⟩,⟨_,j0,rsRows ⟨⟨(ci j0),(ci j0),(ci j0),(ci j0),(ci j0),(ci j0),(ci j0),(.msl j0),(ci j0),(ci j0),j5⟩,j5⟩⟩,⟨_,j0,rsRows ⟨⟨(ci j0),(ci j0),(ci j0),(ci j0),j5⟩,j5⟩⟩,j5⟩,j0,j1⟩
def law5_begun : Option (Bool) :=
  (law4_Begun).bind fun v1=>(cond v1 ((class_May (ApiClass.mk [65,98] [79,98,106,101,99,116] false [] ([(ApiField.mk [120] [73] false)]) ([(ApiMethod.mk [109,97,105,110] [] [86] true false 0 0 ([(ApiIns.mk 46 0 [] [])]) [] [])]))).bind fun v2=>some v2) (some false)).bind fun v3=>(cond v3 ((class_May (ApiClass.mk [65,98] [] false [] [] [])).bind fun v4=>some (!v4)) (some false)).bind fun v5=>(cond v5 ((class_Eq (ApiClass.mk [65,98] [79,98,106,101,99,116] false [] ([(ApiField.mk [120] [73] false)]) ([(ApiMethod.mk [109,97,105,110] [] [86] true false 0 0 ([(ApiIns.mk 46 0 [] [])]) [] [])])) (ApiClass.mk [65,98] [79,98,106,101,99,116] false [] ([(ApiField.mk [120] [73] false)]) ([(ApiMethod.mk [109,97,105,110] [] [86] true false 0 0 ([(ApiIns.mk 46 0 [] [])]) [] [])]))).bind fun v6=>some v6) (some false)).bind fun v7=>(cond v7 ((class_Eq (ApiClass.mk [65,98] [79,98,106,101,99,116] false [] ([(ApiField.mk [120] [73] false)]) ([(ApiMethod.mk [109,97,105,110] [] [86] true false 0 0 ([(ApiIns.mk 46 0 [] [])]) [] [])])) (ApiClass.mk [65,98] [79,98,106,101,99,116] false [] ([(ApiField.mk [120] [73] false)]) ([(ApiMethod.mk [109,97,105,110] [] [86] true false 1 0 ([(ApiIns.mk 46 0 [] [])]) [] [])]))).bind fun v8=>some (!v8)) (some false)).bind fun v9=>(cond v9 ((class_Method (ApiClass.mk [65,98] [79,98,106,101,99,116] false [] ([(ApiField.mk [120] [73] false)]) ([(ApiMethod.mk [109,97,105,110] [] [86] true false 0 0 ([(ApiIns.mk 46 0 [] [])]) [] [])])) [109,97,105,110]).bind fun v10=>some (v10 == (0 : Int))) (some false)).bind fun v11=>(cond v11 ((class_Method (ApiClass.mk [65,98] [79,98,106,101,99,116] false [] ([(ApiField.mk [120] [73] false)]) ([(ApiMethod.mk [109,97,105,110] [] [86] true false 0 0 ([(ApiIns.mk 46 0 [] [])]) [] [])])) [120]).bind fun v12=>some (v12 == ((-1) : Int))) (some false)).bind fun v13=>(cond v13 ((class_Field (ApiClass.mk [65,98] [79,98,106,101,99,116] false [] ([(ApiField.mk [120] [73] false)]) ([(ApiMethod.mk [109,97,105,110] [] [86] true false 0 0 ([(ApiIns.mk 46 0 [] [])]) [] [])])) [120]).bind fun v14=>some (v14 == (0 : Int))) (some false)).bind fun v15=>(cond v15 ((class_Field (ApiClass.mk [65,98] [79,98,106,101,99,116] false [] ([(ApiField.mk [120] [73] false)]) ([(ApiMethod.mk [109,97,105,110] [] [86] true false 0 0 ([(ApiIns.mk 46 0 [] [])]) [] [])])) [109,97,105,110]).bind fun v16=>some (v16 == ((-1) : Int))) (some false)).bind fun v17=>some v17
theorem law5_begun_ok {r : Bool} (h : law5_begun = some r) : PureC Tryz.prog 147 [] (bA r):=by
 refine pure_fn Tryz.func147 j0 (by kernel_rfl) j0 j0 ?_
 unfold law5_begun at h
 refine rg j0<|u<|asg j0<|r_nil ?_
 refine rg j0<|u<|sc [] (law5_One_ok [65,98] j0) j0 j0 j0 j0 ⟨(rnI j0),j5⟩ j5<|u<|al 3 ti26 j0<|u<|sto ti26 j0 j0 j0<|r_nil ?_
 refine rg j0<|u<|sc [] (law5_One_ok [65,98] j0) j0 j0 j0 j0 ⟨(rnI j0),j5⟩ j5<|u<|al 7 ti26 j0<|u<|sto ti26 j0 j0 j0<|r_nil ?_
 refine rg j0<|u<|fa ti26 j0 j0 j0<|u<|ld ti24 j0 j0<|u<|ixX ti24 j0 ti38 j0 j0 j0<|u<|fa ti38 j0 j0 j0<|u<|sto ti3 j0 j0 j0<|r_nil ?_
 obtain ⟨v1,q1,h⟩:=bs h
 obtain ⟨v3,q4,h⟩:=bs h
 obtain ⟨v5,q7,h⟩:=bs h
 obtain ⟨v7,q10,h⟩:=bs h
 obtain ⟨v9,q13,h⟩:=bs h
 obtain ⟨v11,q16,h⟩:=bs h
 obtain ⟨v13,q19,h⟩:=bs h
 obtain ⟨v15,q22,h⟩:=bs h
 obtain ⟨v17,q25,h⟩:=bs h
 refine rg j0<|u<|pc (law4_Begun_ok q1) j0 j0 j0<|u<|mv j0<|r_and (x:=v3) (j:=1) 2 j0 j0 j0 j0 j0 gpn (fun hb2=>by replace q4:=bT hb2 q4; obtain ⟨v2,q3,q4⟩:=bs q4; obtain rfl:=sm q4; exact g j0 hb2<|ld ti26 j0 j0<|g j0 hb2<|pcs (class_May_ok (ApiClass.mk [65,98] [79,98,106,101,99,116] false [] ([(ApiField.mk [120] [73] false)]) ([(ApiMethod.mk [109,97,105,110] [] [86] true false 0 0 ([(ApiIns.mk 46 0 [] [])]) [] [])])) q3) j0 j0 (.cons (sealAgg ⟨(si j0),(si j0),(si j0),(.nil),(sealX j0 ⟨⟨(si j0),(si j0),(si j0),j5⟩,j5⟩),(sealX j0 ⟨⟨(si j0),(.nil),(si j0),(si j0),(si j0),(si j0),(si j0),(sealX j0 ⟨⟨(si j0),(si j0),(si j0),(si j0),j5⟩,j5⟩),(.nil),(.nil),j5⟩,j5⟩),j5⟩) .nil) plainB<|r_nil (eg [11,12] 2 j0 j0 j0 j0)) (fun hb=>(sm (bF hb q4)).symm)<|u<|mv j0<|r_and (x:=v5) (j:=5) 3 j0 j0 j0 j0 j0 gpn (fun hb5=>by replace q7:=bT hb5 q7; obtain ⟨v4,q6,q7⟩:=bs q7; obtain rfl:=sm q7; exact g j0 hb5<|bd ti26 j0 j0 j0<|g j0 hb5<|pcs (class_May_ok (ApiClass.mk [65,98] [] false [] [] []) q6) j0 j0 (.cons (sealAgg ⟨(si j0),(si j0),(si j0),(.nil),(.nil),(.nil),j5⟩) .nil) plainB<|g j0 hb5<|nt j0<|r_nil (eg [15,16,17] 3 j0 j0 j0 j0)) (fun hb=>(sm (bF hb q7)).symm)<|u<|mv j0<|r_and (x:=v7) (j:=10) 3 j0 j0 j0 j0 j0 gpn (fun hb8=>by replace q10:=bT hb8 q10; obtain ⟨v6,q9,q10⟩:=bs q10; obtain rfl:=sm q10; exact g j0 hb8<|ld ti26 j0 j0<|g j0 hb8<|ld ti26 j0 j0<|g j0 hb8<|pcs (class_Eq_ok (ApiClass.mk [65,98] [79,98,106,101,99,116] false [] ([(ApiField.mk [120] [73] false)]) ([(ApiMethod.mk [109,97,105,110] [] [86] true false 0 0 ([(ApiIns.mk 46 0 [] [])]) [] [])])) (ApiClass.mk [65,98] [79,98,106,101,99,116] false [] ([(ApiField.mk [120] [73] false)]) ([(ApiMethod.mk [109,97,105,110] [] [86] true false 0 0 ([(ApiIns.mk 46 0 [] [])]) [] [])])) q9) j0 j0 (.cons (sealAgg ⟨(si j0),(si j0),(si j0),(.nil),(sealX j0 ⟨⟨(si j0),(si j0),(si j0),j5⟩,j5⟩),(sealX j0 ⟨⟨(si j0),(.nil),(si j0),(si j0),(si j0),(si j0),(si j0),(sealX j0 ⟨⟨(si j0),(si j0),(si j0),(si j0),j5⟩,j5⟩),(.nil),(.nil),j5⟩,j5⟩),j5⟩) (.cons (sealAgg ⟨(si j0),(si j0),(si j0),(.nil),(sealX j0 ⟨⟨(si j0),(si j0),(si j0),j5⟩,j5⟩),(sealX j0 ⟨⟨(si j0),(.nil),(si j0),(si j0),(si j0),(si j0),(si j0),(sealX j0 ⟨⟨(si j0),(si j0),(si j0),(si j0),j5⟩,j5⟩),(.nil),(.nil),j5⟩,j5⟩),j5⟩) .nil)) plainB<|r_nil (eg [20,21,22] 3 j0 j0 j0 j0)) (fun hb=>(sm (bF hb q10)).symm)<|u<|mv j0<|r_and (x:=v9) (j:=15) 4 j0 j0 j0 j0 j0 gpn (fun hb11=>by replace q13:=bT hb11 q13; obtain ⟨v8,q12,q13⟩:=bs q13; obtain rfl:=sm q13; exact g j0 hb11<|ld ti26 j0 j0<|g j0 hb11<|ld ti26 j0 j0<|g j0 hb11<|pcs (class_Eq_ok (ApiClass.mk [65,98] [79,98,106,101,99,116] false [] ([(ApiField.mk [120] [73] false)]) ([(ApiMethod.mk [109,97,105,110] [] [86] true false 0 0 ([(ApiIns.mk 46 0 [] [])]) [] [])])) (ApiClass.mk [65,98] [79,98,106,101,99,116] false [] ([(ApiField.mk [120] [73] false)]) ([(ApiMethod.mk [109,97,105,110] [] [86] true false 1 0 ([(ApiIns.mk 46 0 [] [])]) [] [])])) q12) j0 j0 (.cons (sealAgg ⟨(si j0),(si j0),(si j0),(.nil),(sealX j0 ⟨⟨(si j0),(si j0),(si j0),j5⟩,j5⟩),(sealX j0 ⟨⟨(si j0),(.nil),(si j0),(si j0),(si j0),(si j0),(si j0),(sealX j0 ⟨⟨(si j0),(si j0),(si j0),(si j0),j5⟩,j5⟩),(.nil),(.nil),j5⟩,j5⟩),j5⟩) (.cons (sealAgg ⟨(si j0),(si j0),(si j0),(.nil),(sealX j0 ⟨⟨(si j0),(si j0),(si j0),j5⟩,j5⟩),(sealX j0 ⟨⟨(si j0),(.nil),(si j0),(si j0),(si j0),(si j0),(si j0),(sealX j0 ⟨⟨(si j0),(si j0),(si j0),(si j0),j5⟩,j5⟩),(.nil),(.nil),j5⟩,j5⟩),j5⟩) .nil)) plainB<|g j0 hb11<|nt j0<|r_nil (eg [25,26,27,28] 4 j0 j0 j0 j0)) (fun hb=>(sm (bF hb q13)).symm)<|u<|mv j0<|r_and (x:=v11) (j:=21) 3 j0 j0 j0 j0 j0 gpn (fun hb14=>by replace q16:=bT hb14 q16; obtain ⟨v10,q15,q16⟩:=bs q16; obtain rfl:=sm q16; exact g j0 hb14<|ld ti26 j0 j0<|g j0 hb14<|pcs (class_Method_ok (ApiClass.mk [65,98] [79,98,106,101,99,116] false [] ([(ApiField.mk [120] [73] false)]) ([(ApiMethod.mk [109,97,105,110] [] [86] true false 0 0 ([(ApiIns.mk 46 0 [] [])]) [] [])])) [109,97,105,110] q15) j0 j0 (.cons (sealAgg ⟨(si j0),(si j0),(si j0),(.nil),(sealX j0 ⟨⟨(si j0),(si j0),(si j0),j5⟩,j5⟩),(sealX j0 ⟨⟨(si j0),(.nil),(si j0),(si j0),(si j0),(si j0),(si j0),(sealX j0 ⟨⟨(si j0),(si j0),(si j0),(si j0),j5⟩,j5⟩),(.nil),(.nil),j5⟩,j5⟩),j5⟩) (.cons (si j0) .nil)) plainB<|g j0 hb14<|eql ti3 j0 j0<|r_nil (eg [31,32,33] 3 j0 j0 j0 j0)) (fun hb=>(sm (bF hb q16)).symm)<|u<|mv j0<|r_and (x:=v13) (j:=26) 3 j0 j0 j0 j0 j0 gpn (fun hb17=>by replace q19:=bT hb17 q19; obtain ⟨v12,q18,q19⟩:=bs q19; obtain rfl:=sm q19; exact g j0 hb17<|ld ti26 j0 j0<|g j0 hb17<|pcs (class_Method_ok (ApiClass.mk [65,98] [79,98,106,101,99,116] false [] ([(ApiField.mk [120] [73] false)]) ([(ApiMethod.mk [109,97,105,110] [] [86] true false 0 0 ([(ApiIns.mk 46 0 [] [])]) [] [])])) [120] q18) j0 j0 (.cons (sealAgg ⟨(si j0),(si j0),(si j0),(.nil),(sealX j0 ⟨⟨(si j0),(si j0),(si j0),j5⟩,j5⟩),(sealX j0 ⟨⟨(si j0),(.nil),(si j0),(si j0),(si j0),(si j0),(si j0),(sealX j0 ⟨⟨(si j0),(si j0),(si j0),(si j0),j5⟩,j5⟩),(.nil),(.nil),j5⟩,j5⟩),j5⟩) (.cons (si j0) .nil)) plainB<|g j0 hb17<|eql ti3 j0 j0<|r_nil (eg [36,37,38] 3 j0 j0 j0 j0)) (fun hb=>(sm (bF hb q19)).symm)<|u<|mv j0<|r_and (x:=v15) (j:=31) 3 j0 j0 j0 j0 j0 gpn (fun hb20=>by replace q22:=bT hb20 q22; obtain ⟨v14,q21,q22⟩:=bs q22; obtain rfl:=sm q22; exact g j0 hb20<|ld ti26 j0 j0<|g j0 hb20<|pcs (class_Field_ok (ApiClass.mk [65,98] [79,98,106,101,99,116] false [] ([(ApiField.mk [120] [73] false)]) ([(ApiMethod.mk [109,97,105,110] [] [86] true false 0 0 ([(ApiIns.mk 46 0 [] [])]) [] [])])) [120] q21) j0 j0 (.cons (sealAgg ⟨(si j0),(si j0),(si j0),(.nil),(sealX j0 ⟨⟨(si j0),(si j0),(si j0),j5⟩,j5⟩),(sealX j0 ⟨⟨(si j0),(.nil),(si j0),(si j0),(si j0),(si j0),(si j0),(sealX j0 ⟨⟨(si j0),(si j0),(si j0),(si j0),j5⟩,j5⟩),(.nil),(.nil),j5⟩,j5⟩),j5⟩) (.cons (si j0) .nil)) plainB<|g j0 hb20<|eql ti3 j0 j0<|r_nil (eg [41,42,43] 3 j0 j0 j0 j0)) (fun hb=>(sm (bF hb q22)).symm)<|u<|mv j0<|r_and (x:=v17) (j:=36) 3 j0 j0 j0 j0 j0 gpn (fun hb23=>by replace q25:=bT hb23 q25; obtain ⟨v16,q24,q25⟩:=bs q25; obtain rfl:=sm q25; exact g j0 hb23<|ld ti26 j0 j0<|g j0 hb23<|pcs (class_Field_ok (ApiClass.mk [65,98] [79,98,106,101,99,116] false [] ([(ApiField.mk [120] [73] false)]) ([(ApiMethod.mk [109,97,105,110] [] [86] true false 0 0 ([(ApiIns.mk 46 0 [] [])]) [] [])])) [109,97,105,110] q24) j0 j0 (.cons (sealAgg ⟨(si j0),(si j0),(si j0),(.nil),(sealX j0 ⟨⟨(si j0),(si j0),(si j0),j5⟩,j5⟩),(sealX j0 ⟨⟨(si j0),(.nil),(si j0),(si j0),(si j0),(si j0),(si j0),(sealX j0 ⟨⟨(si j0),(si j0),(si j0),(si j0),j5⟩,j5⟩),(.nil),(.nil),j5⟩,j5⟩),j5⟩) (.cons (si j0) .nil)) plainB<|g j0 hb23<|eql ti3 j0 j0<|r_nil (eg [46,47,48] 3 j0 j0 j0 j0)) (fun hb=>(sm (bF hb q25)).symm)<|u<|asg j0<|r_nil ?_
 refine sw_ret ?_
 obtain rfl:=sm h
 exact ⟨_,j0,[],ci j0,j0,j5,j0,j1⟩
end
end Go.Proofs.YthmnlfenkhmmhaaGreat
