/- TypesAll: for every input the law returns true, and each argument reads as it read before. No further condition. Part 5 of 7. -/
import Derived.Test.YtooagifeniibcaaGreatYh4
namespace Go.Proofs.YtooagifeniibcaaGreat
noncomputable section
set_option linter.unusedSimpArgs false
set_option linter.unusedVariables false
set_option maxRecDepth 100000
set_option maxHeartbeats 4000000
def ref7_base_k2 (v12 : List UInt8) (v13 : Int) : Option ((List UInt8) × Int) :=
  some (v12,v13)
def ref7_base_l1 (v7 : List UInt8) (v8 : Int) : Option (Sum ((List UInt8) × Int) (Sum ((List UInt8) × Int) ((List UInt8) × Int))) :=
  (cond (decide (0 < (List.length v7 : Int))) ((idx v7 0).bind fun v9=>some ((v9.toNat : Int) == (91 : Int))) (some false)).bind fun v10=>cond v10 ((cutP v7 1 (List.length v7 : Int)).bind fun v11=>some (.inl (v11,(IntKind.i64.wrap (v8 + 1))))) (some (.inr (.inl (v7,v8))))
def ref7_base (v1 : List UInt8) : Option ((List UInt8) × Int) :=
  (loopP (fun z=>ref7_base_l1 z.1 z.2) (v1,0)).bind fun o=>leave o (fun b=>ref7_base_k2 b.1 b.2) some
theorem ref7_base_ok (v1 : List UInt8) {r : (List UInt8) × Int} (h : ref7_base v1 = some r) : PureC Tryz.prog 70 [sA v1] (.tup [sA r.1,iA r.2]):=by
 refine pure_fn Tryz.func70 j0 (by kernel_rfl) j0 j0 ?_
 unfold ref7_base at h
 refine rg j0<|u<|asg j0<|u<|asg j0<|r_nil ?_
 refine rg j0<|u<|asg j0<|r_nil ?_
 obtain ⟨o,ho,h⟩:=bs h
 refine sw_lp (X:=(List UInt8) × Int) (B:=(List UInt8) × Int) (R:=(List UInt8) × Int) (fun z=>[(0,sA z.1),(4,iA z.2)]) (fun z=>[]) (fun b=>[(0,sA b.1),(4,iA b.2)]) (fun b=>[]) (fun r env st=>PostF Tryz.prog Tryz.f70 0 (.tup [sA r.1,iA r.2]) [] env st) ho ⟨[],ce j0 j0<|ce j0 j0<|cn,j0,j5,j0,j1⟩ ?_ ?_ ?_
 ·
  rintro ⟨v7,v8⟩ r h
  replace h : ref7_base_l1 v7 v8 = some r:=h
  unfold ref7_base_l1 at h
  refine sw_seq ?_
  obtain ⟨v10,q8,h⟩:=bs h
  refine rg j0<|u<|mv j0<|u<|lnS ti9 j0 j0<|u<|gtr ti3 j0 j0<|u<|mv j0<|r_and (x:=v10) (j:=3) 3 j0 j0 j0 j0 j0 gpn (fun hb6=>by replace q8:=bT hb6 q8; obtain ⟨v9,q7,q8⟩:=bs q8; obtain rfl:=sm q8; exact g j0 hb6<|mv j0<|g j0 hb6<|ixS ti9 j0 j0 j0 q7<|g j0 hb6<|eql ti5 j0 j0<|r_nil (eg [9,10,11] 3 j0 j0 j0 j0)) (fun hb=>(sm (bF hb q8)).symm)<|r_nil ?_
  refine sw_cond j0 (fun hc9=>?_) (fun hc9=>?_)
  ·
   replace h:=bT hc9 h
   refine sw_skip ?_
   refine sw_block ?_
   obtain ⟨v11,q10,h⟩:=bs h
   refine rg j0<|u<|mv j0<|u<|slS (a:=1) (b:=(List.length v7 : Int)) ti9 j0 j0 (bnd_lo j0 q10) j0 q10<|u<|asg j0<|r_nil ?_
   refine rl j0<|u<|mv j0<|u<|add ti3 j0 j0<|u<|asg j0<|r_nil ?_
   obtain rfl:=sm h
   exact ⟨_,j0,[],ce j0 j0<|ce j0 j0<|cn,j0,j5,j0,j1⟩
  ·
   replace h:=bF hc9 h
   refine sw_exit ?_
   obtain rfl:=sm h
   exact ⟨j0,_,j0,[],ce j0 j0<|ce j0 j0<|cn,j0,j5,j0,j1⟩
 ·
  rintro ⟨v12,v13⟩ rfl
  replace h : ref7_base_k2 v12 v13 = some r:=h
  unfold ref7_base_k2 at h
  refine rg j0<|u<|mv j0<|u<|mv j0<|u<|asg j0<|u<|asg j0<|r_nil ?_
  refine sw_ret ?_
  obtain rfl:=sm h
  exact ⟨_,j0,[],rsTup ⟨(ci j0),(ci j0),j5⟩,j0,j5,j0,j1⟩
 ·
  rintro r' rfl env st hp
  obtain rfl:=sm h
  exact hp
def ref7_Hier_There (v1 : List UInt8) : Option (Bool) :=
  (ref3_May v1).bind fun v2=>cond (!v2) (some false) ((ref7_base v1).bind fun v3=>none)
theorem ref7_Hier_There_ok (v1 : List UInt8) {r : Bool} (h : ref7_Hier_There v1 = some r) : PureC Tryz.prog 47 [.lit (.pointer none),sA v1] (bA r):=by
 refine pure_fn Tryz.func47 j0 (by kernel_rfl) j0 j0 ?_
 unfold ref7_Hier_There at h
 refine rg j0<|u<|asg j0<|r_nil ?_
 refine sw_seq ?_
 obtain ⟨v2,q1,h⟩:=bs h
 refine rg j0<|u<|mv j0<|u<|pc (ref3_May_ok v1 q1) j0 j0 j0<|u<|nt j0<|r_nil ?_
 refine sw_cond j0 (fun hc2=>?_) (fun hc2=>?_)
 ·
  replace h:=bT hc2 h
  refine rg j0<|u<|asg j0<|r_nil ?_
  refine sw_ret ?_
  obtain rfl:=sm h
  exact ⟨_,j0,[],ci j0,j0,j5,j0,j1⟩
 ·
  replace h:=bF hc2 h
  refine sw_skip ?_
  obtain ⟨v3,q3,h⟩:=bs h
  refine rg j0<|u<|mv j0<|u<|pc (ref7_base_ok v1 q3) j0 j0 j0<|u<|mv j0<|u<|ex j0 j0<|u<|ex j0 j0<|u<|asg j0<|u<|asg j0<|r_nil ?_
  cases h
def ref7_Hier_There_s2 (v1 : List ApiClass) (v2 : List UInt8) : Option (Bool) :=
  (ref3_May v2).bind fun v3=>cond (!v3) (some false) ((ref7_base v2).bind fun v4=>(cond (v4.1 == [73]) (some true) ((ref7_Hier_At v1 v4.1).bind fun v5=>some (decide (0 ≤ v5)))).bind fun v6=>some v6)
theorem ref7_Hier_There_s2_ok (v1 : List ApiClass) (v2 : List UInt8) {r : Bool} (h : ref7_Hier_There_s2 v1 v2 = some r) : PureC Tryz.prog 47 [.ipt 1 [[.isl 6 (List.map rApiClass v1)]] 0 0,sA v2] (bA r):=by
 refine pure_fn Tryz.func47 j0 (by kernel_rfl) j0 j0 ?_
 unfold ref7_Hier_There_s2 at h
 refine rg j0<|u<|asg j0<|r_nil ?_
 refine sw_seq ?_
 obtain ⟨v3,q1,h⟩:=bs h
 refine rg j0<|u<|mv j0<|u<|pc (ref3_May_ok v2 q1) j0 j0 j0<|u<|nt j0<|r_nil ?_
 refine sw_cond j0 (fun hc2=>?_) (fun hc2=>?_)
 ·
  replace h:=bT hc2 h
  refine rg j0<|u<|asg j0<|r_nil ?_
  refine sw_ret ?_
  obtain rfl:=sm h
  exact ⟨_,j0,[],ci j0,j0,j5,j0,j1⟩
 ·
  replace h:=bF hc2 h
  refine sw_skip ?_
  obtain ⟨v4,q3,h⟩:=bs h
  refine rg j0<|u<|mv j0<|u<|pc (ref7_base_ok v2 q3) j0 j0 j0<|u<|mv j0<|u<|ex j0 j0<|u<|ex j0 j0<|u<|asg j0<|u<|asg j0<|r_nil ?_
  obtain ⟨v6,q6,h⟩:=bs h
  refine rg j0<|u<|mv j0<|u<|seq ti9 j0 j0<|u<|mv j0<|r_or (x:=v6) (j:=2) 4 j0 j0 j0 j0 j0 gpn (fun hb4=>by replace q6:=bF hb4 q6; obtain ⟨v5,q5,q6⟩:=bs q6; obtain rfl:=sm q6; exact g j0 hb4<|mv j0<|g j0 hb4<|mv j0<|g j0 hb4<|pc (ref7_Hier_At_ok v1 v4.1 q5) j0 j0 j0<|g j0 hb4<|geq ti3 j0 j0<|r_nil (eg [18,19,20,21] 4 j0 j0 j0 j0)) (fun hb=>(sm (bT hb q6)).symm)<|u<|asg j0<|r_nil ?_
  refine sw_ret ?_
  obtain rfl:=sm h
  exact ⟨_,j0,[],ci j0,j0,j5,j0,j1⟩
def ref7_Hier_Supers_s2_k2 (v16 : List (List UInt8)) : Option ((List (List UInt8))) :=
  some v16
def ref7_Hier_Supers_s2_l1 (v1 : List ApiClass) (v10 : List (List UInt8)) (v11 : Int) : Option (Sum ((List (List UInt8)) × Int) (Sum ((List (List UInt8))) ((List (List UInt8))))) :=
  cond (decide (0 ≤ v11)) ((idx v1 v11).bind fun v12=>(appP 16 v10 [v12.Name]).bind fun v13=>(idx v1 v11).bind fun v14=>(ref7_Hier_At v1 v14.Super).bind fun v15=>some (.inl (v13,v15))) (some (.inr (.inl v10)))
def ref7_Hier_Supers_s2 (v1 : List ApiClass) (v2 : List UInt8) : Option ((List (List UInt8))) :=
  (ref7_Hier_At v1 v2).bind fun v3=>(loopP (fun z=>ref7_Hier_Supers_s2_l1 v1 z.1 z.2) ([],v3)).bind fun o=>leave o (fun b=>ref7_Hier_Supers_s2_k2 b) some
theorem ref7_Hier_Supers_s2_ok (v1 : List ApiClass) (v2 : List UInt8) {r : (List (List UInt8))} (h : ref7_Hier_Supers_s2 v1 v2 = some r) : SC Tryz.prog 35 [.ipt 1 [[.isl 6 (List.map rApiClass v1)]] 0 0,sA v2] [] (.msl 0 0 (List.length r)) [.many 1 (List.map rStr r)]:=by
 refine ⟨⟨sbOk (sz:=1) (fun _=>j0),j5⟩,scall_fn Tryz.func35 j0 (by kernel_rfl) j0 ?_⟩
 unfold ref7_Hier_Supers_s2 at h
 refine rg j0<|u<|asg j0<|r_nil ?_
 refine rg j0<|u<|asg j0<|r_nil ?_
 refine sw_seq ?_
 obtain ⟨v3,q1,h⟩:=bs h
 refine rg j0<|u<|mv j0<|u<|mv j0<|u<|pc (ref7_Hier_At_ok v1 v2 q1) j0 j0 j0<|u<|asg j0<|r_nil ?_
 obtain ⟨o,ho,h⟩:=bs h
 refine sw_lpl (X:=(List (List UInt8)) × Int) (B:=(List (List UInt8))) (R:=(List (List UInt8))) (fun z=>[(0,.ipt 1 [[.isl 6 (List.map rApiClass v1)]] 0 0),(5,.msl 0 0 (List.length z.1)),(6,iA z.2)]) (fun z=>[some (1,List.map rStr z.1)]) (fun b=>[(5,.msl 0 0 (List.length b))]) (fun b=>[some (1,List.map rStr b)]) (fun r env st=>PostF Tryz.prog Tryz.f35 0 (.msl 0 0 (List.length r)) [some (1,List.map rStr r)] env st) ho ⟨[.fresh 1],ce j0 j0<|cv j0 (.nilown j0)<|ce j0 j0<|cn,j0,⟨j4,j5⟩,j0,j1⟩ ?_ ?_ ?_
 ·
  rintro ⟨v10,v11⟩ r h
  replace h : ref7_Hier_Supers_s2_l1 v1 v10 v11 = some r:=h
  unfold ref7_Hier_Supers_s2_l1 at h
  refine sw_seq ?_
  refine rg j0<|u<|mv j0<|u<|geq ti3 j0 j0<|r_nil ?_
  refine sw_cond j0 (fun hc7=>?_) (fun hc7=>?_)
  ·
   replace h:=bT hc7 h
   refine sw_skip ?_
   refine sw_seq ?_
   refine sw_block ?_
   obtain ⟨v12,q8,h⟩:=bs h
   obtain ⟨v13,q9,h⟩:=bs h
   refine rl j0<|u<|mv j0<|u<|mv j0<|u<|nc j0 j0<|u<|fa ti51 j0 j0 j0<|u<|ld ti22 j0 j0<|u<|mv j0<|u<|ixI ti22 j0 ti42 j0 j0 j0 q8<|u<|fa ti42 j0 j0 j0<|u<|ldI ti9 j0 (idx_some q8).2.2 j0<|u<|bl 1 ti32 j0 ti9 j0 (by decide) (by decide) j0 j0 j0<|u<|apM 2 ti32 j0 ti9 j0 j0 (by decide) ti32 j0 j0 j0 j0 (roX (f:=rStr) (z:=[v12.Name]) j0 j0) (fun _=>j0) j0 q9<|u<|asg j0<|r_nil ?_
   obtain ⟨v14,q10,h⟩:=bs h
   obtain ⟨v15,q11,h⟩:=bs h
   refine rl j0<|u<|mv j0<|u<|mv j0<|u<|nc j0 j0<|u<|fa ti51 j0 j0 j0<|u<|ld ti22 j0 j0<|u<|mv j0<|u<|ixI ti22 j0 ti42 j0 j0 j0 q10<|u<|fa ti42 j0 j0 j0<|u<|ldI ti9 j0 (idx_some q10).2.2 j0<|u<|pc (ref7_Hier_At_ok v1 v14.Super q11) j0 j0 j0<|u<|asg j0<|r_nil ?_
   obtain rfl:=sm h
   exact ⟨_,j0,[.old 2],ce j0 j0<|cv j0 (.msl j0)<|ce j0 j0<|cn,j0,⟨⟨_,j0,rsMap (fun _=>j0)⟩,j5⟩,j0,j1⟩
  ·
   replace h:=bF hc7 h
   refine sw_exit ?_
   obtain rfl:=sm h
   exact ⟨j0,_,j0,[.old 0],cv j0 (.msl j0)<|cn,j0,⟨⟨_,j0,rsMap (fun _=>j0)⟩,j5⟩,j0,j1⟩
 ·
  rintro v16 rfl
  replace h : ref7_Hier_Supers_s2_k2 v16 = some r:=h
  unfold ref7_Hier_Supers_s2_k2 at h
  refine ow_intro ?_
  refine rg j0<|u<|mv j0<|u<|asg j0<|r_nil ?_
  refine sw_ret ?_
  obtain rfl:=sm h
  exact ⟨_,j0,[.old 0],.msl j0,j0,⟨⟨_,j0,rsMap (fun _=>j0)⟩,j5⟩,j0,j1⟩
 ·
  rintro r' rfl env st hp
  obtain rfl:=sm h
  exact hp
def ref7_has_k2 : Option (Bool) :=
  some false
def ref7_has_l1 (v1 : List (List UInt8)) (v2 : List UInt8) (v5 : Int) : Option (Sum (Int) (Sum (Unit) (Bool))) :=
  cond (decide (v5 < (List.length v1 : Int))) ((idx v1 v5).bind fun v6=>cond (v6 == v2) (some (.inr (.inr true))) (some (.inl (IntKind.i64.wrap (v5 + 1))))) (some (.inr (.inl ())))
def ref7_has (v1 : List (List UInt8)) (v2 : List UInt8) : Option (Bool) :=
  (loopP (fun z=>ref7_has_l1 v1 v2 z) 0).bind fun o=>leave o (fun b=>ref7_has_k2) some
theorem ref7_has_ok (v1 : List (List UInt8)) (v2 : List UInt8) {r : Bool} (h : ref7_has v1 v2 = some r) : PureC Tryz.prog 71 [.isl 1 (List.map rStr v1),sA v2] (bA r):=by
 refine pure_fn Tryz.func71 j0 (by kernel_rfl) j0 j0 ?_
 unfold ref7_has at h
 refine rg j0<|u<|asg j0<|r_nil ?_
 refine sw_seq ?_
 refine rg j0<|u<|asg j0<|r_nil ?_
 obtain ⟨o,ho,h⟩:=bs h
 refine sw_lpl (X:=Int) (B:=Unit) (R:=Bool) (fun z=>[(0,.isl 1 (List.map rStr v1)),(1,sA v2),(5,iA z)]) (fun z=>[]) (fun b=>[]) (fun b=>[]) (fun r env st=>PostF Tryz.prog Tryz.f71 0 (bA r) [] env st) ho ⟨[],ce j0 j0<|ce j0 j0<|ce j0 j0<|cn,j0,j5,j0,j1⟩ ?_ ?_ ?_
 ·
  rintro v5 r h
  replace h : ref7_has_l1 v1 v2 v5 = some r:=h
  unfold ref7_has_l1 at h
  refine sw_seq ?_
  refine rg j0<|u<|mv j0<|u<|mv j0<|u<|lnI ti32 j0 j0<|u<|lss ti3 j0 j0<|r_nil ?_
  refine sw_cond j0 (fun hc4=>?_) (fun hc4=>?_)
  ·
   replace h:=bT hc4 h
   refine sw_skip ?_
   refine sw_seq ?_
   refine sw_block ?_
   obtain ⟨v6,q5,h⟩:=bs h
   refine rg j0<|u<|mv j0<|u<|mv j0<|u<|ixI ti32 j0 ti9 j0 j0 j0 q5<|u<|ldI ti9 j0 (idx_some q5).2.2 j0<|u<|mv j0<|u<|seq ti9 j0 j0<|r_nil ?_
   refine sw_cond j0 (fun hc6=>?_) (fun hc6=>?_)
   ·
    replace h:=bT hc6 h
    refine rg j0<|u<|asg j0<|r_nil ?_
    refine sw_ret ?_
    obtain rfl:=sm h
    exact ⟨_,j0,_,j0,[],ci j0,j0,j5,j0,j1⟩
   ·
    replace h:=bF hc6 h
    refine sw_skip ?_
    refine rl j0<|u<|mv j0<|u<|add ti3 j0 j0<|u<|asg j0<|r_nil ?_
    obtain rfl:=sm h
    exact ⟨_,j0,[],ce j0 j0<|ce j0 j0<|ce j0 j0<|cn,j0,j5,j0,j1⟩
  ·
   replace h:=bF hc4 h
   refine sw_exit ?_
   obtain rfl:=sm h
   exact ⟨j0,_,j0,[],cn,j0,j5,j0,j1⟩
 ·
  rintro ⟨⟩ rfl
  replace h : ref7_has_k2 = some r:=h
  unfold ref7_has_k2 at h
  refine ow_intro ?_
  refine rg j0<|u<|asg j0<|r_nil ?_
  refine sw_ret ?_
  obtain rfl:=sm h
  exact ⟨_,j0,[],ci j0,j0,j5,j0,j1⟩
 ·
  rintro r' rfl env st hp
  obtain rfl:=sm h
  exact hp
def ref7_sorted_k2 (v1 : List (List UInt8)) (v2 : List UInt8) (v9 : Int) : Option ((List (List UInt8))) :=
  (cutP v1 0 v9).bind fun v10=>(appP 16 ([] : List (List UInt8)) v10).bind fun v11=>(cutP v1 v9 (List.length v1 : Int)).bind fun v12=>(appP 16 v11 [v2]).bind fun v13=>(appP 16 v13 v12).bind fun v14=>some v14
def ref7_sorted_l1 (v1 : List (List UInt8)) (v2 : List UInt8) (v6 : Int) : Option (Sum (Int) (Sum (Int) ((List (List UInt8))))) :=
  (cond (decide (v6 < (List.length v1 : Int))) ((idx v1 v6).bind fun v7=>some (Op.bytesLess v7 v2)) (some false)).bind fun v8=>cond v8 (some (.inl (IntKind.i64.wrap (v6 + 1)))) (some (.inr (.inl v6)))
def ref7_sorted (v1 : List (List UInt8)) (v2 : List UInt8) : Option ((List (List UInt8))) :=
  (loopP (fun z=>ref7_sorted_l1 v1 v2 z) 0).bind fun o=>leave o (fun b=>ref7_sorted_k2 v1 v2 b) some
theorem ref7_sorted_ok (v1 : List (List UInt8)) (v2 : List UInt8) {r : (List (List UInt8))} (h : ref7_sorted v1 v2 = some r) : SC Tryz.prog 75 [.isl 1 (List.map rStr v1),sA v2] [] (.msl 0 0 (List.length r)) [.many 1 (List.map rStr r)]:=by
 refine ⟨⟨sbOk (sz:=1) (fun _=>j0),j5⟩,scall_fn Tryz.func75 j0 (by kernel_rfl) j0 ?_⟩
 unfold ref7_sorted at h
 refine rg j0<|u<|asg j0<|r_nil ?_
 refine rg j0<|u<|asg j0<|r_nil ?_
 obtain ⟨o,ho,h⟩:=bs h
 refine sw_lp (X:=Int) (B:=Int) (R:=(List (List UInt8))) (fun z=>[(0,.isl 1 (List.map rStr v1)),(1,sA v2),(5,iA z)]) (fun z=>[]) (fun b=>[(0,.isl 1 (List.map rStr v1)),(1,sA v2),(5,iA b)]) (fun b=>[]) (fun r env st=>PostF Tryz.prog Tryz.f75 0 (.msl 0 0 (List.length r)) [some (1,List.map rStr r)] env st) ho ⟨[],ce j0 j0<|ce j0 j0<|ce j0 j0<|cn,j0,j5,j0,j1⟩ ?_ ?_ ?_
 ·
  rintro v6 r h
  replace h : ref7_sorted_l1 v1 v2 v6 = some r:=h
  unfold ref7_sorted_l1 at h
  refine sw_seq ?_
  obtain ⟨v8,q7,h⟩:=bs h
  refine rg j0<|u<|mv j0<|u<|mv j0<|u<|lnI ti32 j0 j0<|u<|lss ti3 j0 j0<|u<|mv j0<|r_and (x:=v8) (j:=4) 6 j0 j0 j0 j0 j0 gpn (fun hb5=>by replace q7:=bT hb5 q7; obtain ⟨v7,q6,q7⟩:=bs q7; obtain rfl:=sm q7; exact g j0 hb5<|mv j0<|g j0 hb5<|mv j0<|g j0 hb5<|ixI ti32 j0 ti9 j0 j0 j0 q6<|g j0 hb5<|ldI ti9 j0 (idx_some q6).2.2 j0<|g j0 hb5<|mv j0<|g j0 hb5<|slt ti9 j0 j0<|r_nil (eg [12,13,14,15,16,17] 6 j0 j0 j0 j0)) (fun hb=>(sm (bF hb q7)).symm)<|r_nil ?_
  refine sw_cond j0 (fun hc8=>?_) (fun hc8=>?_)
  ·
   replace h:=bT hc8 h
   refine sw_skip ?_
   refine sw_block ?_
   refine rl j0<|u<|mv j0<|u<|add ti3 j0 j0<|u<|asg j0<|r_nil ?_
   obtain rfl:=sm h
   exact ⟨_,j0,[],ce j0 j0<|ce j0 j0<|ce j0 j0<|cn,j0,j5,j0,j1⟩
  ·
   replace h:=bF hc8 h
   refine sw_exit ?_
   obtain rfl:=sm h
   exact ⟨j0,_,j0,[],ce j0 j0<|ce j0 j0<|ce j0 j0<|cn,j0,j5,j0,j1⟩
 ·
  rintro v9 rfl
  replace h : ref7_sorted_k2 v1 v2 v9 = some r:=h
  unfold ref7_sorted_k2 at h
  obtain ⟨v10,q9,h⟩:=bs h
  obtain ⟨v11,q10,h⟩:=bs h
  refine rg j0<|u<|mv j0<|u<|mv j0<|u<|slI (a:=0) (b:=v9) ti32 j0 ti9 j0 j0 j0 (bnd_hi j0 q9) q9<|u<|apN (f:=rStr) 0 ti32 j0 ti9 j0 j0 (by decide) ti32 j0 j0 j0 roI (fun _=>j0) j0 q10<|u<|asg j0<|r_nil ?_
  obtain ⟨v12,q11,h⟩:=bs h
  obtain ⟨v13,q12,h⟩:=bs h
  obtain ⟨v14,q13,h⟩:=bs h
  refine rd [(4,.msl 0 0 (List.length v14))] [some (1,List.map rStr v14)] [2,3,7] [6,5,4,1,0] [(31,.isl 1 (List.map rStr v12)),(30,iA v9),(29,.isl 1 (List.map rStr v1)),(26,sA v2),(25,.msl 0 0 (List.length v11))] 3 (by kernel_rfl) (by kernel_rfl) j0 (by kernel_rfl) (dtS ⟨(fun _=>pa j0 j0 j0 j0 (slI (a:=v9) (b:=(List.length v1 : Int)) ti32 j0 ti9 j0 j0 (bnd_lo j0 q11) j0 q11<|j4)),(fun _=>pa j0 j0 j0 j0 (mv j0<|j4)),(fun _=>pa j0 j0 j0 j0 (mv j0<|j4)),(fun _=>pa j0 j0 j0 j0 (mv j0<|j4)),(fun _=>pa j0 j0 j0 j0 (mv j0<|j4)),j5⟩ (by kernel_rfl) j0 ⟨(fun _ _=>⟨_,j0,j0,bl 1 ti32 j0 ti9 j0 (by decide) (by decide) j0 j0 j0<|⟨(.msl 1 0 1),[],[(27,.msl 1 0 1)],j0,j0,by kernel_rfl,j0,dtS ⟨(fun _=>pa j0 j0 j0 j0 (slI (a:=v9) (b:=(List.length v1 : Int)) ti32 j0 ti9 j0 j0 (bnd_lo j0 q11) j0 q11<|j4)),(fun _=>pa j0 j0 j0 j0 (mv j0<|j4)),(fun _=>pa j0 j0 j0 j0 (mv j0<|j4)),(fun h=>by cases h),(fun _=>pa j0 j0 j0 j0 (mv j0<|j4)),j5⟩ (by kernel_rfl) j0 ⟨(fun h=>by cases h),(fun _ _=>⟨_,j0,j0,apM 2 ti32 j0 ti9 j0 j0 (by decide) ti32 j0 j0 j0 j0 (roX (f:=rStr) (z:=[v2]) j0 j0) (fun _=>j0) j0 q12<|⟨(.msl 2 0 (List.length v13)),[],[(28,.msl 2 0 (List.length v13))],j0,j0,by kernel_rfl,j0,dtS ⟨(fun _=>pa j0 j0 j0 j0 (slI (a:=v9) (b:=(List.length v1 : Int)) ti32 j0 ti9 j0 j0 (bnd_lo j0 q11) j0 q11<|j4)),(fun _=>pa j0 j0 j0 j0 (mv j0<|j4)),(fun _=>pa j0 j0 j0 j0 (mv j0<|j4)),(fun h=>by cases h),(fun h=>by cases h),j5⟩ (by kernel_rfl) j0 ⟨(fun h=>by cases h),(fun h=>by cases h),(fun _ _=>⟨_,j0,j0,apM 3 ti32 j0 ti9 j0 j0 (by decide) ti32 j0 j0 j0 j0 roI (fun _=>j0) j0 q13<|⟨(.msl 3 0 (List.length v14)),[8],[(4,.msl 3 0 (List.length v14)),(32,.msl 3 0 (List.length v14))],j0,j0,by kernel_rfl,j0,dt0 ⟨(fun _=>pa j0 j0 j0 j0 (asg j0<|j4)),(fun h=>by cases h),(fun _=>pa j0 j0 j0 j0 (mv j0<|j4)),(fun _=>pa j0 j0 j0 j0 (mv j0<|j4)),(fun h=>by cases h),(fun h=>by cases h),j5⟩ (by kernel_rfl) j0 ⟨[.old 3],cv j0 (.msl j0)<|cn,j0,⟨⟨_,j0,rsMap (fun _=>j0)⟩,j5⟩,j0,j1⟩⟩⟩),j5⟩⟩⟩),(fun _ h=>by cases h),j5⟩⟩⟩),(fun _ h=>by cases h),(fun _ h=>by cases h),j5⟩) ?_
  refine sw_ret ?_
  obtain rfl:=sm h
  exact ⟨_,j0,[.old 0],.msl j0,j0,⟨⟨_,j0,rsMap (fun _=>j0)⟩,j5⟩,j0,j1⟩
 ·
  rintro r' rfl env st hp
  obtain rfl:=sm h
  exact hp
def ref7_Hier_Faces_k31 (v146 : List (List UInt8)) : Option ((List (List UInt8))) :=
  some v146
def ref7_Hier_Faces_j29 (v141 : Int) (v145 : List (List UInt8)) : Option (Sum ((List (List UInt8)) × Int) (Sum ((List (List UInt8))) ((List (List UInt8))))) :=
  some (.inl (v145,(IntKind.i64.wrap (v141 + 1))))
def ref7_Hier_Faces_l30 (v1 : List ApiClass) (v133 : List Bool) (v140 : List (List UInt8)) (v141 : Int) : Option (Sum ((List (List UInt8)) × Int) (Sum ((List (List UInt8))) ((List (List UInt8))))) :=
  cond (decide (v141 < (List.length v1 : Int))) ((idx v133 v141).bind fun v142=>cond v142 ((idx v1 v141).bind fun v143=>(ref7_sorted v140 v143.Name).bind fun v144=>ref7_Hier_Faces_j29 v141 v144) (ref7_Hier_Faces_j29 v141 v140)) (some (.inr (.inl v140)))
def ref7_Hier_Faces_k27 (v1 : List ApiClass) (v133 : List Bool) : Option ((List (List UInt8))) :=
  (loopP (fun z=>ref7_Hier_Faces_l30 v1 v133 z.1 z.2) ([],0)).bind fun o=>leave o (fun b=>ref7_Hier_Faces_k31 b) some
def ref7_Hier_Faces_k25 (v131 : List Bool) (v132 : Bool) : Option (Sum ((List Bool) × Bool) (Sum ((List Bool)) ((List (List UInt8))))) :=
  some (.inl (v131,v132))
def ref7_Hier_Faces_j23 (v104 : Int) (v129 : List Bool) (v130 : Bool) : Option (Sum ((List Bool) × Bool × Int) (Sum ((List Bool) × Bool) ((List (List UInt8))))) :=
  some (.inl (v129,v130,(IntKind.i64.wrap (v104 + 1))))
def ref7_Hier_Faces_k22 (v104 : Int) (v127 : List Bool) (v128 : Bool) : Option (Sum ((List Bool) × Bool × Int) (Sum ((List Bool) × Bool) ((List (List UInt8))))) :=
  ref7_Hier_Faces_j23 v104 v127 v128
def ref7_Hier_Faces_j20 (v120 : Int) (v125 : List Bool) (v126 : Bool) : Option (Sum ((List Bool) × Bool × Int) (Sum ((List Bool) × Bool) ((List (List UInt8))))) :=
  some (.inl (v125,v126,(IntKind.i64.wrap (v120 + 1))))
def ref7_Hier_Faces_l21 (v1 : List ApiClass) (v105 : ApiClass) (v118 : List Bool) (v119 : Bool) (v120 : Int) : Option (Sum ((List Bool) × Bool × Int) (Sum ((List Bool) × Bool) ((List (List UInt8))))) :=
  cond (decide (v120 < (List.length v105.Impl : Int))) ((idx v105.Impl v120).bind fun v121=>(ref7_Hier_At v1 v121).bind fun v122=>(idx v118 v122).bind fun v123=>cond (!v123) ((idx v118 v122).bind fun v124=>ref7_Hier_Faces_j20 v120 (List.set v118 (Int.toNat v122) true) true) (ref7_Hier_Faces_j20 v120 v118 v119)) (some (.inr (.inl (v118,v119))))
def ref7_Hier_Faces_l24 (v1 : List ApiClass) (v8 : (List (List UInt8))) (v102 : List Bool) (v103 : Bool) (v104 : Int) : Option (Sum ((List Bool) × Bool × Int) (Sum ((List Bool) × Bool) ((List (List UInt8))))) :=
  cond (decide (v104 < (List.length v1 : Int))) ((idx v1 v104).bind fun v105=>(idx v102 v104).bind fun v106=>(cond (!v106) ((ref7_has v8 v105.Name).bind fun v107=>some (!v107)) (some false)).bind fun v108=>cond v108 (ref7_Hier_Faces_j23 v104 v102 v103) ((loopP (fun z=>ref7_Hier_Faces_l21 v1 v105 z.1 z.2.1 z.2.2) (v102,v103,0)).bind fun o=>leave o (fun b=>ref7_Hier_Faces_k22 v104 b.1 b.2) (fun r=>some (.inr (.inr r))))) (some (.inr (.inl (v102,v103))))
def ref7_Hier_Faces_l26 (v1 : List ApiClass) (v8 : (List (List UInt8))) (v71 : List Bool) (v72 : Bool) : Option (Sum ((List Bool) × Bool) (Sum ((List Bool)) ((List (List UInt8))))) :=
  cond v72 ((loopP (fun z=>ref7_Hier_Faces_l24 v1 v8 z.1 z.2.1 z.2.2) (v71,false,0)).bind fun o=>leave o (fun b=>ref7_Hier_Faces_k25 b.1 b.2) (fun r=>some (.inr (.inr r)))) (some (.inr (.inl v71)))
def ref7_Hier_Faces_j1 (v1 : List ApiClass) (v2 : List UInt8) (v7 : List Bool) : Option ((List (List UInt8))) :=
  (ref7_Hier_Supers_s2 v1 v2).bind fun v8=>(loopP (fun z=>ref7_Hier_Faces_l26 v1 v8 z.1 z.2) (v7,true)).bind fun o=>leave o (fun b=>ref7_Hier_Faces_k27 v1 b) some
def ref7_Hier_Faces (v1 : List ApiClass) (v2 : List UInt8) : Option ((List (List UInt8))) :=
  (mkP 1 (List.length v1 : Int)).bind fun v3=>(ref7_Hier_At v1 v2).bind fun v4=>cond (decide (v4 < 0)) (some []) ((idx v1 v4).bind fun v5=>cond v5.Interface ((idx (List.replicate v3 false) v4).bind fun v6=>ref7_Hier_Faces_j1 v1 v2 (List.set (List.replicate v3 false) (Int.toNat v4) true)) (ref7_Hier_Faces_j1 v1 v2 (List.replicate v3 false)))
theorem ref7_Hier_Faces_ok (v1 : List ApiClass) (v2 : List UInt8) {r : (List (List UInt8))} (h : ref7_Hier_Faces v1 v2 = some r) : SC Tryz.prog 36 [.ipt 1 [[.isl 6 (List.map rApiClass v1)]] 0 0,sA v2] [] (.msl 0 0 (List.length r)) [.many 1 (List.map rStr r)]:=by
 refine ⟨⟨sbOk (sz:=1) (fun _=>j0),j5⟩,scall_fn Tryz.func36 j0 (by kernel_rfl) j0 ?_⟩
 unfold ref7_Hier_Faces at h
 refine rg j0<|u<|asg j0<|r_nil ?_
 obtain ⟨v3,q1,h⟩:=bs h
 refine rg j0<|u<|mv j0<|u<|nc j0 j0<|u<|fa ti51 j0 j0 j0<|u<|ld ti22 j0 j0<|u<|lnI ti22 j0 j0<|u<|mks (f:=rB) (z:=false) 0 ti64 j0 ti4 j0 j0 j0 j0 j0 j0 q1<|u<|asg j0<|r_nil ?_
 obtain ⟨v4,q2,h⟩:=bs h
 refine rg j0<|u<|mv j0<|u<|mv j0<|u<|pc (ref7_Hier_At_ok v1 v2 q2) j0 j0 j0<|u<|asg j0<|r_nil ?_
 refine sw_seq ?_
 refine rg j0<|u<|mv j0<|u<|lss ti3 j0 j0<|r_nil ?_
 refine sw_cond j0 (fun hc3=>?_) (fun hc3=>?_)
 ·
  replace h:=bT hc3 h
  refine rg j0<|u<|asg j0<|r_nil ?_
  refine sw_ret ?_
  obtain rfl:=sm h
  exact ⟨_,j0,[.fresh 1],.nilown j0,j0,⟨j4,j5⟩,j0,j1⟩
 ·
  replace h:=bF hc3 h
  refine sw_skip ?_
  refine sw_meet (X:=(List Bool)) (fun z=>[(0,.ipt 1 [[.isl 6 (List.map rApiClass v1)]] 0 0),(1,sA v2),(5,.msl 0 0 (List.length z))]) (fun z=>[some (1,List.map rB z)]) (fun z=>ref7_Hier_Faces_j1 v1 v2 z = some r) ?_ ?_
  ·
   obtain ⟨v5,q4,h⟩:=bs h
   refine rg j0<|u<|mv j0<|u<|nc j0 j0<|u<|fa ti51 j0 j0 j0<|u<|ld ti22 j0 j0<|u<|mv j0<|u<|ixI ti22 j0 ti42 j0 j0 j0 q4<|u<|fa ti42 j0 j0 j0<|u<|ldI ti4 j0 (idx_some q4).2.2 j0<|r_nil ?_
   refine sw_cond j0 (fun hc5=>?_) (fun hc5=>?_)
   ·
    replace h:=bT hc5 h
    obtain ⟨v6,q6,h⟩:=bs h
    exact rl j0<|u<|mv j0<|u<|mv j0<|u<|ixM ti64 j0 ti4 j0 j0 j0 j0 q6<|u<|stoM (c':=true) ti4 j0 j0 (idx_some q6).2.2 j0 j0 j0 j0 j0<|r_nil (⟨(List.set (List.replicate v3 false) (Int.toNat v4) true),h,[.old 0],ce j0 j0<|ce j0 j0<|cv j0 (mslE (by simp) j0)<|cn,j0,⟨⟨_,j0,rsMap (fun _=>j0)⟩,j5⟩,j0,j1⟩)
   ·
    replace h:=bF hc5 h
    refine sw_skip ?_
    exact ⟨(List.replicate v3 false),h,[.old 0],ce j0 j0<|ce j0 j0<|cv j0 (.msl j0)<|cn,j0,⟨⟨_,j0,rsMap (fun _=>j0)⟩,j5⟩,j0,j1⟩
  ·
   rintro v7 h
   replace h : ref7_Hier_Faces_j1 v1 v2 v7 = some r:=h
   unfold ref7_Hier_Faces_j1 at h
   obtain ⟨v8,q7,h⟩:=bs h
   refine rg j0<|u<|mv j0<|u<|mv j0<|u<|sc [] (ref7_Hier_Supers_s2_ok v1 v2 q7) j0 j0 j0 j0 ⟨(rnI j0),(rnI j0),j5⟩ j5<|r_can (env0:=[(0,.ipt 1 [[.isl 6 (List.map rApiClass v1)]] 0 0),(5,.msl 0 0 (List.length v7)),(39,.msl 1 0 (List.length v8))]) (st0:=[some (1,List.map rB v7),some (1,List.map rStr v8)]) ⟨[.old 0,.old 1],ce j0 j0<|cv j0 (.msl j0)<|cv j0 (.msl j0)<|cn,j0,⟨⟨_,j0,rsMap (fun _=>j0)⟩,⟨_,j0,rsMap (fun _=>j0)⟩,j5⟩,j0,j1⟩<|u<|asg j0<|r_nil ?_
   refine sw_seq ?_
   refine rg j0<|u<|asg j0<|r_nil ?_
   obtain ⟨o,ho,h⟩:=bs h
   refine sw_lpl (X:=(List Bool) × Bool) (B:=(List Bool)) (R:=(List (List UInt8))) (fun z=>[(0,.ipt 1 [[.isl 6 (List.map rApiClass v1)]] 0 0),(5,.msl 0 0 (List.length z.1)),(7,.msl 1 0 (List.length v8)),(8,bA z.2)]) (fun z=>[some (1,List.map rB z.1),some (1,List.map rStr v8)]) (fun b=>[(0,.ipt 1 [[.isl 6 (List.map rApiClass v1)]] 0 0),(5,.msl 0 0 (List.length b))]) (fun b=>[some (1,List.map rB b)]) (fun r env st=>PostF Tryz.prog Tryz.f36 0 (.msl 0 0 (List.length r)) [some (1,List.map rStr r)] env st) ho ⟨[.old 0,.old 1],ce j0 j0<|cv j0 (.msl j0)<|cv j0 (.msl j0)<|ce j0 j0<|cn,j0,⟨⟨_,j0,rsMap (fun _=>j0)⟩,⟨_,j0,rsMap (fun _=>j0)⟩,j5⟩,j0,j1⟩ ?_ ?_ ?_
   ·
    rintro ⟨v71,v72⟩ r h
    replace h : ref7_Hier_Faces_l26 v1 v8 v71 v72 = some r:=h
    unfold ref7_Hier_Faces_l26 at h
    refine sw_seq ?_
    refine rg j0<|u<|mv j0<|r_nil ?_
    refine sw_cond j0 (fun hc46=>?_) (fun hc46=>?_)
    ·
     replace h:=bT hc46 h
     refine sw_skip ?_
     refine sw_block ?_
     refine rg j0<|u<|asg j0<|r_nil ?_
     refine rg j0<|u<|asg j0<|r_nil ?_
     obtain ⟨o,ho,h⟩:=bs h
     refine sw_lpl (X:=(List Bool) × Bool × Int) (B:=(List Bool) × Bool) (R:=(List (List UInt8))) (fun z=>[(0,.ipt 1 [[.isl 6 (List.map rApiClass v1)]] 0 0),(5,.msl 0 0 (List.length z.1)),(7,.msl 1 0 (List.length v8)),(8,bA z.2.1),(9,iA z.2.2)]) (fun z=>[some (1,List.map rB z.1),some (1,List.map rStr v8)]) (fun b=>[(0,.ipt 1 [[.isl 6 (List.map rApiClass v1)]] 0 0),(5,.msl 0 0 (List.length b.1)),(7,.msl 1 0 (List.length v8)),(8,bA b.2)]) (fun b=>[some (1,List.map rB b.1),some (1,List.map rStr v8)]) (fun r env st=>PostF Tryz.prog Tryz.f36 0 (.msl 0 0 (List.length r)) [some (1,List.map rStr r)] env st) ho ⟨[.old 0,.old 1],ce j0 j0<|cv j0 (.msl j0)<|cv j0 (.msl j0)<|ce j0 j0<|ce j0 j0<|cn,j0,⟨⟨_,j0,rsMap (fun _=>j0)⟩,⟨_,j0,rsMap (fun _=>j0)⟩,j5⟩,j0,j1⟩ ?_ ?_ ?_
     ·
      rintro ⟨v102,v103,v104⟩ r h
      replace h : ref7_Hier_Faces_l24 v1 v8 v102 v103 v104 = some r:=h
      unfold ref7_Hier_Faces_l24 at h
      refine sw_seq ?_
      refine rg j0<|u<|mv j0<|u<|mv j0<|u<|nc j0 j0<|u<|fa ti51 j0 j0 j0<|u<|ld ti22 j0 j0<|u<|lnI ti22 j0 j0<|u<|lss ti3 j0 j0<|r_nil ?_
      refine sw_cond j0 (fun hc66=>?_) (fun hc66=>?_)
      ·
       replace h:=bT hc66 h
       refine sw_skip ?_
       refine sw_meet (X:=(List Bool) × Bool) (fun z=>[(0,.ipt 1 [[.isl 6 (List.map rApiClass v1)]] 0 0),(5,.msl 0 0 (List.length z.1)),(7,.msl 1 0 (List.length v8)),(8,bA z.2),(9,iA v104)]) (fun z=>[some (1,List.map rB z.1),some (1,List.map rStr v8)]) (fun z=>ref7_Hier_Faces_j23 v104 z.1 z.2 = some r) ?_ ?_
       ·
        refine sw_block ?_
        obtain ⟨v105,q67,h⟩:=bs h
        refine rg j0<|u<|mv j0<|u<|nc j0 j0<|u<|fa ti51 j0 j0 j0<|u<|ld ti22 j0 j0<|u<|mv j0<|u<|ixI ti22 j0 ti42 j0 j0 j0 q67<|u<|ldI ti42 j0 (idx_some q67).2.2 j0<|u<|al 2 ti42 j0<|u<|sto ti42 j0 j0 j0<|r_nil ?_
        refine sw_seq ?_
        obtain ⟨v106,q68,h⟩:=bs h
        obtain ⟨v108,q71,h⟩:=bs h
        refine rg j0<|u<|mv j0<|u<|mv j0<|u<|ixM ti64 j0 ti4 j0 j0 j0 j0 q68<|u<|ldM ti4 j0 j0 (idx_some q68).2.2 j0<|u<|nt j0<|u<|mv j0<|r_and (x:=v108) (j:=5) 5 j0 j0 j0 j0 j0 gpn (fun hb69=>by replace q71:=bT hb69 q71; obtain ⟨v107,q70,q71⟩:=bs q71; obtain rfl:=sm q71; exact g j0 hb69<|mv j0<|g j0 hb69<|fa ti42 j0 j0 j0<|g j0 hb69<|ld ti9 j0 j0<|g j0 hb69<|pcs (ref7_has_ok v8 v105.Name q70) j0 j0 (.cons (sealM j0 (fun _=>j0)) (.cons (si j0) .nil)) plainB<|g j0 hb69<|nt j0<|r_nil (eg [63,64,65,66,67] 5 j0 j0 j0 j0)) (fun hb=>(sm (bF hb q71)).symm)<|r_nil ?_
        refine sw_cond j0 (fun hc72=>?_) (fun hc72=>?_)
        ·
         replace h:=bT hc72 h
         refine sw_exit ?_
         exact ⟨⟨v102,v103⟩,h,[.old 0,.old 1],ce j0 j0<|cv j0 (.msl j0)<|cv j0 (.msl j0)<|ce j0 j0<|ce j0 j0<|cn,j0,⟨⟨_,j0,rsMap (fun _=>j0)⟩,⟨_,j0,rsMap (fun _=>j0)⟩,j5⟩,j0,j1⟩
        ·
         replace h:=bF hc72 h
         refine sw_skip ?_
         refine rg j0<|u<|asg j0<|r_nil ?_
         obtain ⟨o,ho,h⟩:=bs h
         refine sw_lpl (X:=(List Bool) × Bool × Int) (B:=(List Bool) × Bool) (R:=(List (List UInt8))) (fun z=>[(0,.ipt 1 [[.isl 6 (List.map rApiClass v1)]] 0 0),(5,.msl 0 0 (List.length z.1)),(7,.msl 1 0 (List.length v8)),(8,bA z.2.1),(9,iA v104),(10,.mpt 2 0 0),(11,iA z.2.2)]) (fun z=>[some (1,List.map rB z.1),some (1,List.map rStr v8),some (6,[[sA v105.Name,sA v105.Super,bA v105.Interface,.isl 1 (List.map rStr v105.Impl),.isl 3 (List.map rApiField v105.Fields),.isl 10 (List.map rApiMethod v105.Methods)]])]) (fun b=>[(0,.ipt 1 [[.isl 6 (List.map rApiClass v1)]] 0 0),(5,.msl 0 0 (List.length b.1)),(7,.msl 1 0 (List.length v8)),(8,bA b.2),(9,iA v104)]) (fun b=>[some (1,List.map rB b.1),some (1,List.map rStr v8)]) (fun r env st=>PostF Tryz.prog Tryz.f36 0 (.msl 0 0 (List.length r)) [some (1,List.map rStr r)] env st) ho ⟨[.old 0,.old 1,.old 2],ce j0 j0<|cv j0 (.msl j0)<|cv j0 (.msl j0)<|ce j0 j0<|ce j0 j0<|cv j0 (.mpt j0)<|ce j0 j0<|cn,j0,⟨⟨_,j0,rsMap (fun _=>j0)⟩,⟨_,j0,rsMap (fun _=>j0)⟩,⟨_,j0,rsOne ⟨ci j0,ci j0,ci j0,ci j0,ci j0,ci j0,j5⟩⟩,j5⟩,j0,j1⟩ ?_ ?_ ?_
         ·
          rintro ⟨v118,v119,v120⟩ r h
          replace h : ref7_Hier_Faces_l21 v1 v105 v118 v119 v120 = some r:=h
          unfold ref7_Hier_Faces_l21 at h
          refine sw_seq ?_
          refine rg j0<|u<|mv j0<|u<|fa ti42 j0 j0 j0<|u<|ld ti32 j0 j0<|u<|lnI ti32 j0 j0<|u<|lss ti3 j0 j0<|r_nil ?_
          refine sw_cond j0 (fun hc79=>?_) (fun hc79=>?_)
          ·
           replace h:=bT hc79 h
           refine sw_skip ?_
           refine sw_meet (X:=(List Bool) × Bool) (fun z=>[(0,.ipt 1 [[.isl 6 (List.map rApiClass v1)]] 0 0),(5,.msl 0 0 (List.length z.1)),(7,.msl 1 0 (List.length v8)),(8,bA z.2),(9,iA v104),(10,.mpt 2 0 0),(11,iA v120)]) (fun z=>[some (1,List.map rB z.1),some (1,List.map rStr v8),some (6,[[sA v105.Name,sA v105.Super,bA v105.Interface,.isl 1 (List.map rStr v105.Impl),.isl 3 (List.map rApiField v105.Fields),.isl 10 (List.map rApiMethod v105.Methods)]])]) (fun z=>ref7_Hier_Faces_j20 v120 z.1 z.2 = some r) ?_ ?_
           ·
            refine sw_block ?_
            obtain ⟨v121,q80,h⟩:=bs h
            obtain ⟨v122,q81,h⟩:=bs h
            refine rg j0<|u<|mv j0<|u<|fa ti42 j0 j0 j0<|u<|ld ti32 j0 j0<|u<|mv j0<|u<|ixI ti32 j0 ti9 j0 j0 j0 q80<|u<|ldI ti9 j0 (idx_some q80).2.2 j0<|u<|pc (ref7_Hier_At_ok v1 v121 q81) j0 j0 j0<|u<|asg j0<|r_nil ?_
            obtain ⟨v123,q82,h⟩:=bs h
            refine rg j0<|u<|mv j0<|u<|mv j0<|u<|ixM ti64 j0 ti4 j0 j0 j0 j0 q82<|u<|ldM ti4 j0 j0 (idx_some q82).2.2 j0<|u<|nt j0<|r_nil ?_
            refine sw_cond j0 (fun hc83=>?_) (fun hc83=>?_)
            ·
             replace h:=bT hc83 h
             obtain ⟨v124,q84,h⟩:=bs h
             exact rl j0<|u<|mv j0<|u<|mv j0<|u<|ixM ti64 j0 ti4 j0 j0 j0 j0 q84<|u<|stoM (c':=true) ti4 j0 j0 (idx_some q84).2.2 j0 j0 j0 j0 j0<|u<|asg j0<|r_nil (⟨⟨(List.set v118 (Int.toNat v122) true),true⟩,h,[.old 0,.old 1,.old 2],ce j0 j0<|cv j0 (mslE (by simp) j0)<|cv j0 (.msl j0)<|ce j0 j0<|ce j0 j0<|cv j0 (.mpt j0)<|ce j0 j0<|cn,j0,⟨⟨_,j0,rsMap (fun _=>j0)⟩,⟨_,j0,rsMap (fun _=>j0)⟩,⟨_,j0,rsOne ⟨ci j0,ci j0,ci j0,ci j0,ci j0,ci j0,j5⟩⟩,j5⟩,j0,j1⟩)
            ·
             replace h:=bF hc83 h
             refine sw_skip ?_
             exact ⟨⟨v118,v119⟩,h,[.old 0,.old 1,.old 2],ce j0 j0<|cv j0 (.msl j0)<|cv j0 (.msl j0)<|ce j0 j0<|ce j0 j0<|cv j0 (.mpt j0)<|ce j0 j0<|cn,j0,⟨⟨_,j0,rsMap (fun _=>j0)⟩,⟨_,j0,rsMap (fun _=>j0)⟩,⟨_,j0,rsOne ⟨ci j0,ci j0,ci j0,ci j0,ci j0,ci j0,j5⟩⟩,j5⟩,j0,j1⟩
           ·
            rintro ⟨v125,v126⟩ h
            replace h : ref7_Hier_Faces_j20 v120 v125 v126 = some r:=h
            unfold ref7_Hier_Faces_j20 at h
            refine rl j0<|u<|mv j0<|u<|add ti3 j0 j0<|u<|asg j0<|r_nil ?_
            obtain rfl:=sm h
            exact ⟨_,j0,[.old 0,.old 1,.old 2],ce j0 j0<|cv j0 (.msl j0)<|cv j0 (.msl j0)<|ce j0 j0<|ce j0 j0<|cv j0 (.mpt j0)<|ce j0 j0<|cn,j0,⟨⟨_,j0,rsMap (fun _=>j0)⟩,⟨_,j0,rsMap (fun _=>j0)⟩,⟨_,j0,rsOne ⟨ci j0,ci j0,ci j0,ci j0,ci j0,ci j0,j5⟩⟩,j5⟩,j0,j1⟩
          ·
           replace h:=bF hc79 h
           refine sw_exit ?_
           obtain rfl:=sm h
           exact ⟨j0,_,j0,[.old 0,.old 1],ce j0 j0<|cv j0 (.msl j0)<|cv j0 (.msl j0)<|ce j0 j0<|ce j0 j0<|cn,j0,⟨⟨_,j0,rsMap (fun _=>j0)⟩,⟨_,j0,rsMap (fun _=>j0)⟩,j5⟩,j0,j1⟩
         ·
          rintro ⟨v127,v128⟩ rfl
          replace h : ref7_Hier_Faces_k22 v104 v127 v128 = some r:=h
          unfold ref7_Hier_Faces_k22 at h
          refine ow_intro ?_
          exact ⟨⟨v127,v128⟩,h,[.old 0,.old 1],ce j0 j0<|cv j0 (.msl j0)<|cv j0 (.msl j0)<|ce j0 j0<|ce j0 j0<|cn,j0,⟨⟨_,j0,rsMap (fun _=>j0)⟩,⟨_,j0,rsMap (fun _=>j0)⟩,j5⟩,j0,j1⟩
         ·
          rintro r' rfl env st hp
          obtain rfl:=sm h
          exact ⟨_,j0,hp⟩
       ·
        rintro ⟨v129,v130⟩ h
        replace h : ref7_Hier_Faces_j23 v104 v129 v130 = some r:=h
        unfold ref7_Hier_Faces_j23 at h
        refine rl j0<|u<|mv j0<|u<|add ti3 j0 j0<|u<|asg j0<|r_nil ?_
        obtain rfl:=sm h
        exact ⟨_,j0,[.old 0,.old 1],ce j0 j0<|cv j0 (.msl j0)<|cv j0 (.msl j0)<|ce j0 j0<|ce j0 j0<|cn,j0,⟨⟨_,j0,rsMap (fun _=>j0)⟩,⟨_,j0,rsMap (fun _=>j0)⟩,j5⟩,j0,j1⟩
      ·
       replace h:=bF hc66 h
       refine sw_exit ?_
       obtain rfl:=sm h
       exact ⟨j0,_,j0,[.old 0,.old 1],ce j0 j0<|cv j0 (.msl j0)<|cv j0 (.msl j0)<|ce j0 j0<|cn,j0,⟨⟨_,j0,rsMap (fun _=>j0)⟩,⟨_,j0,rsMap (fun _=>j0)⟩,j5⟩,j0,j1⟩
     ·
      rintro ⟨v131,v132⟩ rfl
      replace h : ref7_Hier_Faces_k25 v131 v132 = some r:=h
      unfold ref7_Hier_Faces_k25 at h
      refine ow_intro ?_
      obtain rfl:=sm h
      exact ⟨_,j0,[.old 0,.old 1],ce j0 j0<|cv j0 (.msl j0)<|cv j0 (.msl j0)<|ce j0 j0<|cn,j0,⟨⟨_,j0,rsMap (fun _=>j0)⟩,⟨_,j0,rsMap (fun _=>j0)⟩,j5⟩,j0,j1⟩
     ·
      rintro r' rfl env st hp
      obtain rfl:=sm h
      exact ⟨_,j0,hp⟩
    ·
     replace h:=bF hc46 h
     refine sw_exit ?_
     obtain rfl:=sm h
     exact ⟨j0,_,j0,[.old 0],ce j0 j0<|cv j0 (.msl j0)<|cn,j0,⟨⟨_,j0,rsMap (fun _=>j0)⟩,j5⟩,j0,j1⟩
   ·
    rintro v133 rfl
    replace h : ref7_Hier_Faces_k27 v1 v133 = some r:=h
    unfold ref7_Hier_Faces_k27 at h
    refine ow_intro ?_
    refine rg j0<|u<|asg j0<|r_nil ?_
    refine sw_seq ?_
    refine rg j0<|u<|asg j0<|r_nil ?_
    obtain ⟨o,ho,h⟩:=bs h
    refine sw_lpl (X:=(List (List UInt8)) × Int) (B:=(List (List UInt8))) (R:=(List (List UInt8))) (fun z=>[(0,.ipt 1 [[.isl 6 (List.map rApiClass v1)]] 0 0),(5,.msl 0 0 (List.length v133)),(13,.msl 1 0 (List.length z.1)),(14,iA z.2)]) (fun z=>[some (1,List.map rB v133),some (1,List.map rStr z.1)]) (fun b=>[(13,.msl 0 0 (List.length b))]) (fun b=>[some (1,List.map rStr b)]) (fun r env st=>PostF Tryz.prog Tryz.f36 0 (.msl 0 0 (List.length r)) [some (1,List.map rStr r)] env st) ho ⟨[.old 0,.fresh 1],ce j0 j0<|cv j0 (.msl j0)<|cv j0 (.nilown j0)<|ce j0 j0<|cn,j0,⟨⟨_,j0,rsMap (fun _=>j0)⟩,j4,j5⟩,j0,j1⟩ ?_ ?_ ?_
    ·
     rintro ⟨v140,v141⟩ r h
     replace h : ref7_Hier_Faces_l30 v1 v133 v140 v141 = some r:=h
     unfold ref7_Hier_Faces_l30 at h
     refine sw_seq ?_
     refine rg j0<|u<|mv j0<|u<|mv j0<|u<|nc j0 j0<|u<|fa ti51 j0 j0 j0<|u<|ld ti22 j0 j0<|u<|lnI ti22 j0 j0<|u<|lss ti3 j0 j0<|r_nil ?_
     refine sw_cond j0 (fun hc90=>?_) (fun hc90=>?_)
     ·
      replace h:=bT hc90 h
      refine sw_skip ?_
      refine sw_meet (X:=(List (List UInt8))) (fun z=>[(0,.ipt 1 [[.isl 6 (List.map rApiClass v1)]] 0 0),(5,.msl 0 0 (List.length v133)),(13,.msl 1 0 (List.length z)),(14,iA v141)]) (fun z=>[some (1,List.map rB v133),some (1,List.map rStr z)]) (fun z=>ref7_Hier_Faces_j29 v141 z = some r) ?_ ?_
      ·
       refine sw_block ?_
       obtain ⟨v142,q91,h⟩:=bs h
       refine rg j0<|u<|mv j0<|u<|mv j0<|u<|ixM ti64 j0 ti4 j0 j0 j0 j0 q91<|u<|ldM ti4 j0 j0 (idx_some q91).2.2 j0<|r_nil ?_
       refine sw_cond j0 (fun hc92=>?_) (fun hc92=>?_)
       ·
        replace h:=bT hc92 h
        obtain ⟨v143,q93,h⟩:=bs h
        obtain ⟨v144,q94,h⟩:=bs h
        exact rl j0<|u<|mv j0<|u<|mv j0<|u<|nc j0 j0<|u<|fa ti51 j0 j0 j0<|u<|ld ti22 j0 j0<|u<|mv j0<|u<|ixI ti22 j0 ti42 j0 j0 j0 q93<|u<|fa ti42 j0 j0 j0<|u<|ldI ti9 j0 (idx_some q93).2.2 j0<|r_can (env0:=[(0,.ipt 1 [[.isl 6 (List.map rApiClass v1)]] 0 0),(5,.msl 0 0 (List.length v133)),(14,iA v141),(104,.isl 1 (List.map rStr v140)),(112,sA v143.Name)]) (st0:=[some (1,List.map rB v133)]) ⟨[.old 0],ce j0 j0<|cv j0 (.msl j0)<|ce j0 j0<|cv j0 (rsSeal j0 j0 (fun _=>j0))<|ce j0 j0<|cn,j0,⟨⟨_,j0,rsMap (fun _=>j0)⟩,j5⟩,j0,j1⟩<|u<|sc [] (ref7_sorted_ok v140 v143.Name q94) j0 j0 j0 j0 ⟨(rnI j0),(rnI j0),j5⟩ j5<|r_can (env0:=[(0,.ipt 1 [[.isl 6 (List.map rApiClass v1)]] 0 0),(5,.msl 0 0 (List.length v133)),(14,iA v141),(113,.msl 1 0 (List.length v144))]) (st0:=[some (1,List.map rB v133),some (1,List.map rStr v144)]) ⟨[.old 0,.old 1],ce j0 j0<|cv j0 (.msl j0)<|ce j0 j0<|cv j0 (.msl j0)<|cn,j0,⟨⟨_,j0,rsMap (fun _=>j0)⟩,⟨_,j0,rsMap (fun _=>j0)⟩,j5⟩,j0,j1⟩<|u<|asg j0<|r_nil (⟨v144,h,[.old 0,.old 1],ce j0 j0<|cv j0 (.msl j0)<|cv j0 (.msl j0)<|ce j0 j0<|cn,j0,⟨⟨_,j0,rsMap (fun _=>j0)⟩,⟨_,j0,rsMap (fun _=>j0)⟩,j5⟩,j0,j1⟩)
       ·
        replace h:=bF hc92 h
        refine sw_skip ?_
        exact ⟨v140,h,[.old 0,.old 1],ce j0 j0<|cv j0 (.msl j0)<|cv j0 (.msl j0)<|ce j0 j0<|cn,j0,⟨⟨_,j0,rsMap (fun _=>j0)⟩,⟨_,j0,rsMap (fun _=>j0)⟩,j5⟩,j0,j1⟩
      ·
       rintro v145 h
       replace h : ref7_Hier_Faces_j29 v141 v145 = some r:=h
       unfold ref7_Hier_Faces_j29 at h
       refine rl j0<|u<|mv j0<|u<|add ti3 j0 j0<|u<|asg j0<|r_nil ?_
       obtain rfl:=sm h
       exact ⟨_,j0,[.old 0,.old 1],ce j0 j0<|cv j0 (.msl j0)<|cv j0 (.msl j0)<|ce j0 j0<|cn,j0,⟨⟨_,j0,rsMap (fun _=>j0)⟩,⟨_,j0,rsMap (fun _=>j0)⟩,j5⟩,j0,j1⟩
     ·
      replace h:=bF hc90 h
      refine sw_exit ?_
      obtain rfl:=sm h
      exact ⟨j0,_,j0,[.old 1],cv j0 (.msl j0)<|cn,j0,⟨⟨_,j0,rsMap (fun _=>j0)⟩,j5⟩,j0,j1⟩
    ·
     rintro v146 rfl
     replace h : ref7_Hier_Faces_k31 v146 = some r:=h
     unfold ref7_Hier_Faces_k31 at h
     refine ow_intro ?_
     refine rg j0<|u<|mv j0<|u<|asg j0<|r_nil ?_
     refine sw_ret ?_
     obtain rfl:=sm h
     exact ⟨_,j0,[.old 0],.msl j0,j0,⟨⟨_,j0,rsMap (fun _=>j0)⟩,j5⟩,j0,j1⟩
    ·
     rintro r' rfl env st hp
     obtain rfl:=sm h
     exact hp
   ·
    rintro r' rfl env st hp
    obtain rfl:=sm h
    exact hp
def ref7_Hier_Sub_s3_F (v0 : ((List ApiClass) × (List UInt8) × (List UInt8) → Option Bool)) (v1 : List ApiClass) (v2 : List UInt8) (v3 : List UInt8) : Option (Bool) :=
  (ref7_Hier_There_s2 v1 v2).bind fun v4=>(cond (!v4) (some true) ((ref7_Hier_There_s2 v1 v3).bind fun v5=>some (!v5))).bind fun v6=>cond v6 (some false) (cond (v2 == v3) (some true) ((ref7_base v2).bind fun v7=>(ref7_base v3).bind fun v8=>cond ((v7.2 == (0 : Int)) && (v8.2 == (0 : Int))) ((cond ((!(v7.1 == [73])) && (!(v8.1 == [73]))) ((ref7_Hier_Supers_s2 v1 v7.1).bind fun v9=>(ref7_has v9 v8.1).bind fun v10=>(cond v10 (some true) ((ref7_Hier_Faces v1 v7.1).bind fun v11=>(ref7_has v11 v8.1).bind fun v12=>some v12)).bind fun v13=>some v13) (some false)).bind fun v14=>some v14) (cond (v8.2 == (0 : Int)) (some (v8.1 == [79,98,106,101,99,116])) (cond (v7.2 == (0 : Int)) (some false) ((cutP v2 1 (List.length v2 : Int)).bind fun v15=>(cutP v3 1 (List.length v3 : Int)).bind fun v16=>(cond ((!(v15 == [73])) && (!(v16 == [73]))) ((v0 (v1,v15,v16)).bind fun v17=>some v17) (some false)).bind fun v18=>some v18)))))
theorem ref7_Hier_Sub_s3_F_ok (v0 : ((List ApiClass) × (List UInt8) × (List UInt8) → Option Bool)) (hrec : ∀ z r,v0 z = some r → PureC Tryz.prog 25 [.ipt 1 [[.isl 6 (List.map rApiClass z.1)]] 0 0,sA z.2.1,sA z.2.2] (bA r)) (v1 : List ApiClass) (v2 : List UInt8) (v3 : List UInt8) {r : Bool} (h : ref7_Hier_Sub_s3_F v0 v1 v2 v3 = some r) : PureC Tryz.prog 25 [.ipt 1 [[.isl 6 (List.map rApiClass v1)]] 0 0,sA v2,sA v3] (bA r):=by
 refine pure_fn Tryz.func25 j0 (by kernel_rfl) j0 j0 ?_
 unfold ref7_Hier_Sub_s3_F at h
 refine rg j0<|u<|asg j0<|r_nil ?_
 refine sw_seq ?_
 obtain ⟨v4,q1,h⟩:=bs h
 obtain ⟨v6,q4,h⟩:=bs h
 refine rg j0<|u<|mv j0<|u<|mv j0<|u<|pc (ref7_Hier_There_s2_ok v1 v2 q1) j0 j0 j0<|u<|nt j0<|u<|mv j0<|r_or (x:=v6) (j:=4) 4 j0 j0 j0 j0 j0 gpn (fun hb2=>by replace q4:=bF hb2 q4; obtain ⟨v5,q3,q4⟩:=bs q4; obtain rfl:=sm q4; exact g j0 hb2<|mv j0<|g j0 hb2<|mv j0<|g j0 hb2<|pc (ref7_Hier_There_s2_ok v1 v3 q3) j0 j0 j0<|g j0 hb2<|nt j0<|r_nil (eg [18,19,20,21] 4 j0 j0 j0 j0)) (fun hb=>(sm (bT hb q4)).symm)<|r_nil ?_
 refine sw_cond j0 (fun hc5=>?_) (fun hc5=>?_)
 ·
  replace h:=bT hc5 h
  refine rg j0<|u<|asg j0<|r_nil ?_
  refine sw_ret ?_
  obtain rfl:=sm h
  exact ⟨_,j0,[],ci j0,j0,j5,j0,j1⟩
 ·
  replace h:=bF hc5 h
  refine sw_skip ?_
  refine sw_seq ?_
  refine rg j0<|u<|mv j0<|u<|mv j0<|u<|seq ti9 j0 j0<|r_nil ?_
  refine sw_cond j0 (fun hc6=>?_) (fun hc6=>?_)
  ·
   replace h:=bT hc6 h
   refine rg j0<|u<|asg j0<|r_nil ?_
   refine sw_ret ?_
   obtain rfl:=sm h
   exact ⟨_,j0,[],ci j0,j0,j5,j0,j1⟩
  ·
   replace h:=bF hc6 h
   refine sw_skip ?_
   obtain ⟨v7,q7,h⟩:=bs h
   refine rg j0<|u<|mv j0<|u<|pc (ref7_base_ok v2 q7) j0 j0 j0<|u<|mv j0<|u<|ex j0 j0<|u<|ex j0 j0<|u<|asg j0<|u<|asg j0<|r_nil ?_
   obtain ⟨v8,q8,h⟩:=bs h
   refine rg j0<|u<|mv j0<|u<|pc (ref7_base_ok v3 q8) j0 j0 j0<|u<|mv j0<|u<|ex j0 j0<|u<|ex j0 j0<|u<|asg j0<|u<|asg j0<|r_nil ?_
   refine sw_seq ?_
   refine sw_block ?_
   refine rg j0<|u<|mv j0<|u<|eql ti3 j0 j0<|u<|mv j0<|r_and (j:=2) 2 j0 j0 j0 j0 j0 gpn (fun hb9=>g j0 hb9<|mv j0<|g j0 hb9<|eql ti3 j0 j0<|r_nil (egA [40,41] 2 hb9 j0 j0 j0 j0)) andF<|u<|asg j0<|r_nil ?_
   refine sw_cond j0 (fun hc10=>?_) (fun hc10=>?_)
   ·
    replace h:=bT hc10 h
    obtain ⟨v14,q19,h⟩:=bs h
    refine rg j0<|u<|mv j0<|u<|sne ti9 j0 j0<|u<|mv j0<|r_and (j:=2) 2 j0 j0 j0 j0 j0 gpn (fun hb11=>g j0 hb11<|mv j0<|g j0 hb11<|sne ti9 j0 j0<|r_nil (egA [46,47] 2 hb11 j0 j0 j0 j0)) andF<|u<|mv j0<|r_andX (x:=v14) (j:=6) 12 2 j0 j0 j0 j0 j0 gpn (fun hb12=>by replace q19:=bT hb12 q19; obtain ⟨v9,q13,q19⟩:=bs q19; obtain ⟨v10,q14,q19⟩:=bs q19; obtain ⟨v13,q18,q19⟩:=bs q19; obtain rfl:=sm q19; exact g j0 hb12<|mv j0<|g j0 hb12<|mv j0<|g j0 hb12<|sc [] (ref7_Hier_Supers_s2_ok v1 v7.1 q13) j0 j0 j0 j0 ⟨(rnI j0),(rnI j0),j5⟩ j5<|g j0 hb12<|mv j0<|g j0 hb12<|pcs (ref7_has_ok v9 v8.1 q14) j0 j0 (.cons (sealM j0 (fun _=>j0)) (.cons (si j0) .nil)) plainB<|g j0 hb12<|mv j0<|r_orX (x:=v13) (j:=12) 5 1 j0 j0 j0 j0 j0 (gps j0 j0 hb12) (fun hb15=>by replace q18:=bF hb15 q18; obtain ⟨v11,q16,q18⟩:=bs q18; obtain ⟨v12,q17,q18⟩:=bs q18; obtain rfl:=sm q18; exact g j0 hb15<|mv j0<|g j0 hb15<|mv j0<|g j0 hb15<|sc [] (ref7_Hier_Faces_ok v1 v7.1 q16) j0 j0 j0 j0 ⟨(rnI j0),(rnI j0),j5⟩ j5<|g j0 hb15<|mv j0<|g j0 hb15<|pcs (ref7_has_ok v11 v8.1 q17) j0 j0 (.cons (sealM j0 (fun _=>j0)) (.cons (si j0) .nil)) plainB<|r_nil (xg [56,57,58,59,60] 5 j0 j0 j0 j0 j0 j0)) (fun hb=>(sm (bT hb q18)).symm)<|r_nil (xg [50,51,52,53,54,55,56,57,58,59,60,61] 7 j0 j0 j0 j0 j0 j0)) (fun hb=>(sm (bF hb q19)).symm)<|u<|asg j0<|r_nil ?_
    refine sw_ret ?_
    obtain rfl:=sm h
    exact ⟨_,j0,[],ci j0,j0,j5,j0,j1⟩
   ·
    replace h:=bF hc10 h
    refine rg j0<|u<|mv j0<|u<|eql ti3 j0 j0<|u<|asg j0<|r_nil ?_
    refine sw_cond j0 (fun hc20=>?_) (fun hc20=>?_)
    ·
     replace h:=bT hc20 h
     refine rg j0<|u<|mv j0<|u<|seq ti9 j0 j0<|u<|asg j0<|r_nil ?_
     refine sw_ret ?_
     obtain rfl:=sm h
     exact ⟨_,j0,[],ci j0,j0,j5,j0,j1⟩
    ·
     replace h:=bF hc20 h
     refine rg j0<|u<|mv j0<|u<|eql ti3 j0 j0<|u<|asg j0<|r_nil ?_
     refine sw_cond j0 (fun hc21=>?_) (fun hc21=>?_)
     ·
      replace h:=bT hc21 h
      refine rg j0<|u<|asg j0<|r_nil ?_
      refine sw_ret ?_
      obtain rfl:=sm h
      exact ⟨_,j0,[],ci j0,j0,j5,j0,j1⟩
     ·
      replace h:=bF hc21 h
      refine sw_skip ?_
      obtain ⟨v15,q22,h⟩:=bs h
      obtain ⟨v16,q23,h⟩:=bs h
      refine rd [(0,.ipt 1 [[.isl 6 (List.map rApiClass v1)]] 0 0),(11,sA v15),(12,sA v16)] [] [] [5,4,3,2,1,0] [(12,sA v16),(11,sA v15),(74,sA v16),(73,sA v3),(72,sA v15),(71,sA v2)] 0 (by kernel_rfl) (by kernel_rfl) j0 (by kernel_rfl) (dt0 ⟨(fun _=>pa j0 j0 j0 j0 (asg j0<|j4)),(fun _=>pa j0 j0 j0 j0 (asg j0<|j4)),(fun _=>pa j0 j0 j0 j0 (slS (a:=1) (b:=(List.length v3 : Int)) ti9 j0 j0 (bnd_lo j0 q23) j0 q23<|j4)),(fun _=>pa j0 j0 j0 j0 (mv j0<|j4)),(fun _=>pa j0 j0 j0 j0 (slS (a:=1) (b:=(List.length v2 : Int)) ti9 j0 j0 (bnd_lo j0 q22) j0 q22<|j4)),(fun _=>pa j0 j0 j0 j0 (mv j0<|j4)),j5⟩ (by kernel_rfl) j0 ⟨[],ce j0 j0<|ce j0 j0<|ce j0 j0<|cn,j0,j5,j0,j1⟩) ?_
      obtain ⟨v18,q27,h⟩:=bs h
      refine rg j0<|u<|mv j0<|u<|sne ti9 j0 j0<|u<|mv j0<|r_and (j:=2) 2 j0 j0 j0 j0 j0 gpn (fun hb24=>g j0 hb24<|mv j0<|g j0 hb24<|sne ti9 j0 j0<|r_nil (egA [78,79] 2 hb24 j0 j0 j0 j0)) andF<|u<|mv j0<|r_and (x:=v18) (j:=6) 4 j0 j0 j0 j0 j0 gpn (fun hb25=>by replace q27:=bT hb25 q27; obtain ⟨v17,q26,q27⟩:=bs q27; obtain rfl:=sm q27; exact g j0 hb25<|mv j0<|g j0 hb25<|mv j0<|g j0 hb25<|mv j0<|g j0 hb25<|pc (hrec (v1,v15,v16) _ q26) j0 j0 j0<|r_nil (eg [82,83,84,85] 4 j0 j0 j0 j0)) (fun hb=>(sm (bF hb q27)).symm)<|u<|asg j0<|r_nil ?_
      refine sw_ret ?_
      obtain rfl:=sm h
      exact ⟨_,j0,[],ci j0,j0,j5,j0,j1⟩
def ref7_Hier_Sub_s3 (v1 : List ApiClass) (v2 : List UInt8) (v3 : List UInt8) : Option Bool :=
  recP (fun v0 z=>ref7_Hier_Sub_s3_F v0 z.1 z.2.1 z.2.2) (v1,v2,v3)
theorem ref7_Hier_Sub_s3_ok (v1 : List ApiClass) (v2 : List UInt8) (v3 : List UInt8) {r : Bool} (h : ref7_Hier_Sub_s3 v1 v2 v3 = some r) : PureC Tryz.prog 25 [.ipt 1 [[.isl 6 (List.map rApiClass v1)]] 0 0,sA v2,sA v3] (bA r) :=
  rec_all (F:=(fun v0 z=>ref7_Hier_Sub_s3_F v0 z.1 z.2.1 z.2.2)) (Q:=fun z r=>PureC Tryz.prog 25 [.ipt 1 [[.isl 6 (List.map rApiClass z.1)]] 0 0,sA z.2.1,sA z.2.2] (bA r)) (fun v0 hv z r h=>ref7_Hier_Sub_s3_F_ok v0 hv z.1 z.2.1 z.2.2 h) h
end
end Go.Proofs.YtooagifeniibcaaGreat
namespace Go.Proofs.YtooagifeniibcaaGreat
noncomputable section
set_option linter.unusedSimpArgs false
set_option linter.unusedVariables false
set_option maxRecDepth 100000
set_option maxHeartbeats 4000000
def hier_Hier_Class (v1 : Option HierHier) (v2 : List UInt8) : Option (ApiClass × Bool) :=
  optE v1 (cond (!(hier_Hier_has_s2 v2)) (some ((ApiClass.mk [] [] false [] [] []),false)) (none)) (fun v3=>cond (!(hier_Hier_has v3.l v3.at_ v2)) (some ((ApiClass.mk [] [] false [] [] []),false)) ((hier_Hier_get v3.l v3.at_ v2).bind fun v4=>some (v4,true)))
end
end Go.Proofs.YtooagifeniibcaaGreat
namespace Go.Proofs.YtooagifeniibcaaGreat
noncomputable section
set_option linter.unusedSimpArgs false
set_option linter.unusedVariables false
set_option maxRecDepth 100000
set_option maxHeartbeats 4000000
def hier_Hier_Class_s2 (v1 : List UInt8) : Option (ApiClass × Bool) :=
  cond (!(hier_Hier_has_s2 v1)) (some ((ApiClass.mk [] [] false [] [] []),false)) (none)
theorem hier_Hier_Class_s2_ok (v1 : List UInt8) {r : ApiClass × Bool} (h : hier_Hier_Class_s2 v1 = some r) : PureC Tryz.prog 33 [.lit (.pointer none),sA v1] (.tup [.agg [sA r.1.Name,sA r.1.Super,bA r.1.Interface,.isl 1 (List.map rStr r.1.Impl),.isl 3 (List.map rApiField r.1.Fields),.isl 10 (List.map rApiMethod r.1.Methods)],bA r.2]):=by
 refine pure_fn Tryz.func33 j0 (by kernel_rfl) j0 j0 ?_
 unfold hier_Hier_Class_s2 at h
 refine rg j0<|u<|al 0 ti42 j0<|u<|asg j0<|r_nil ?_
 refine sw_seq ?_
 refine rg j0<|u<|mv j0<|u<|mv j0<|u<|pc (hier_Hier_has_s2_ok v1 j0) j0 j0 j0<|u<|nt j0<|r_nil ?_
 refine sw_cond j0 (fun hc1=>?_) (fun hc1=>?_)
 ·
  replace h:=bT hc1 h
  refine rg j0<|u<|bd ti42 j0 j0 j0<|u<|sto ti42 j0 j0 j0<|u<|asg j0<|r_nil ?_
  refine sw_ret ?_
  obtain rfl:=sm h
  exact ⟨_,j0,[],rsTup ⟨(rsAgg ⟨(ci j0),(ci j0),(ci j0),(.nil),(.nil),(.nil),j5⟩),(ci j0),j5⟩,j0,j5,j0,j1⟩
 ·
  replace h:=bF hc1 h
  refine sw_skip ?_
  cases h
def hier_Hier_Class_s3 (v1 : List ApiClass) (v2 : List (List UInt8 × Int)) (v3 : List UInt8) : Option (ApiClass × Bool) :=
  cond (!(hier_Hier_has v1 v2 v3)) (some ((ApiClass.mk [] [] false [] [] []),false)) ((hier_Hier_get v1 v2 v3).bind fun v4=>some (v4,true))
theorem hier_Hier_Class_s3_ok (v1 : List ApiClass) (v2 : List (List UInt8 × Int)) (v3 : List UInt8) {r : ApiClass × Bool} (h : hier_Hier_Class_s3 v1 v2 v3 = some r) : PureC Tryz.prog 33 [.ipt 2 [[.isl 6 (List.map rApiClass v1),.imp (List.map (rKV (fun x=>iA x)) v2)]] 0 0,sA v3] (.tup [.agg [sA r.1.Name,sA r.1.Super,bA r.1.Interface,.isl 1 (List.map rStr r.1.Impl),.isl 3 (List.map rApiField r.1.Fields),.isl 10 (List.map rApiMethod r.1.Methods)],bA r.2]):=by
 refine pure_fn Tryz.func33 j0 (by kernel_rfl) j0 j0 ?_
 unfold hier_Hier_Class_s3 at h
 refine rg j0<|u<|al 0 ti42 j0<|u<|asg j0<|r_nil ?_
 refine sw_seq ?_
 refine rg j0<|u<|mv j0<|u<|mv j0<|u<|pc (hier_Hier_has_ok v1 v2 v3 j0) j0 j0 j0<|u<|nt j0<|r_nil ?_
 refine sw_cond j0 (fun hc1=>?_) (fun hc1=>?_)
 ·
  replace h:=bT hc1 h
  refine rg j0<|u<|bd ti42 j0 j0 j0<|u<|sto ti42 j0 j0 j0<|u<|asg j0<|r_nil ?_
  refine sw_ret ?_
  obtain rfl:=sm h
  exact ⟨_,j0,[],rsTup ⟨(rsAgg ⟨(ci j0),(ci j0),(ci j0),(.nil),(.nil),(.nil),j5⟩),(ci j0),j5⟩,j0,j5,j0,j1⟩
 ·
  replace h:=bF hc1 h
  refine sw_skip ?_
  obtain ⟨v4,q2,h⟩:=bs h
  refine rg j0<|u<|mv j0<|u<|mv j0<|u<|pc (hier_Hier_get_ok v1 v2 v3 q2) j0 j0 j0<|u<|sto ti42 j0 j0 j0<|u<|asg j0<|r_nil ?_
  refine sw_ret ?_
  obtain rfl:=sm h
  exact ⟨_,j0,[],rsTup ⟨(ci j0),(ci j0),j5⟩,j0,j5,j0,j1⟩
end
end Go.Proofs.YtooagifeniibcaaGreat
namespace Go.Proofs.YtooagifeniibcaaGreat
noncomputable section
set_option linter.unusedSimpArgs false
set_option linter.unusedVariables false
set_option maxRecDepth 100000
set_option maxHeartbeats 4000000
def law9_texts_k6 (v32 : List (List UInt8)) : Option ((List (List UInt8))) :=
  some v32
def law9_texts_l5 (v2 : List Int) (v17 : List (List UInt8)) (v25 : List (List UInt8)) (v26 : Int) : Option (Sum ((List (List UInt8)) × Int) (Sum ((List (List UInt8))) ((List (List UInt8))))) :=
  cond ((decide (v26 < (List.length v2 : Int))) && (decide (v26 < 16))) ((idx v2 v26).bind fun v27=>(remP v27 ((List.length v17) : Int)).bind fun v28=>(remP (IntKind.i64.wrap (v28 + ((List.length v17) : Int))) ((List.length v17) : Int)).bind fun v29=>(idx v17 v29).bind fun v30=>(appP 16 v25 [v30]).bind fun v31=>some (.inl (v31,(IntKind.i64.wrap (v26 + 1))))) (some (.inr (.inl v25)))
def law9_texts_k4 (v2 : List Int) (v17 : List (List UInt8)) : Option ((List (List UInt8))) :=
  (loopP (fun z=>law9_texts_l5 v2 v17 z.1 z.2) ([],0)).bind fun o=>leave o (fun b=>law9_texts_k6 b) some
def law9_texts_l3 (v4 : Ref7Hier) (v11 : List (List UInt8)) (v12 : Int) : Option (Sum ((List (List UInt8)) × Int) (Sum ((List (List UInt8))) ((List (List UInt8))))) :=
  cond (decide (v12 < (List.length v4.L : Int))) ((idx v4.L v12).bind fun v13=>(idx v4.L v12).bind fun v14=>(catP [91] v14.Name).bind fun v15=>(appP 16 v11 [v13.Name,v15]).bind fun v16=>some (.inl (v16,(IntKind.i64.wrap (v12 + 1))))) (some (.inr (.inl v11)))
def law9_texts (v1 : Option Ref7Hier) (v2 : List Int) (v3 : List UInt8) : Option ((List (List UInt8))) :=
  optE v1 (none) (fun v4=>(loopP (fun z=>law9_texts_l3 v4 z.1 z.2) ([[73],[78],[84],[79,98,106,101,99,116],[91,73],[91,91,73],[91,79,98,106,101,99,116],[86],v3],10)).bind fun o=>leave o (fun b=>law9_texts_k4 v2 b) some)
theorem law9_texts_ok (v1 : Option Ref7Hier) (v2 : List Int) (v3 : List UInt8) {r : (List (List UInt8))} (h : law9_texts v1 v2 v3 = some r) : SC Tryz.prog 46 [optP 1 rRef7Hier v1,.isl 1 (List.map (rI .i64) v2),sA v3] [] (.msl 0 0 (List.length r)) [.many 1 (List.map rStr r)]:=by
 refine ⟨⟨sbOk (sz:=1) (fun _=>j0),j5⟩,scall_fn Tryz.func46 j0 (by kernel_rfl) j0 ?_⟩
 unfold law9_texts at h
 rcases v1 with _ | v4
 ·
  replace h:=oeN h
  refine rg j0<|u<|asg j0<|r_nil ?_
  refine rg j0<|u<|mv j0<|u<|bl 0 ti32 j0 ti9 j0 (by decide) (by decide) j0 j0 j0<|u<|asg j0<|r_nil ?_
  refine sw_seq ?_
  refine rg j0<|u<|asg j0<|r_nil ?_
  cases h
 ·
  replace h:=oeS h
  refine rg j0<|u<|asg j0<|r_nil ?_
  refine rg j0<|u<|mv j0<|u<|bl 0 ti32 j0 ti9 j0 (by decide) (by decide) j0 j0 j0<|u<|asg j0<|r_nil ?_
  refine sw_seq ?_
  refine rg j0<|u<|asg j0<|r_nil ?_
  obtain ⟨o,ho,h⟩:=bs h
  refine sw_lpl (X:=(List (List UInt8)) × Int) (B:=(List (List UInt8))) (R:=(List (List UInt8))) (fun z=>[(0,.ipt 1 [[.isl 6 (List.map rApiClass v4.L)]] 0 0),(1,.isl 1 (List.map (rI .i64) v2)),(7,.msl 0 0 (List.length z.1)),(8,iA z.2)]) (fun z=>[some (1,List.map rStr z.1)]) (fun b=>[(1,.isl 1 (List.map (rI .i64) v2)),(7,.msl 0 0 (List.length b))]) (fun b=>[some (1,List.map rStr b)]) (fun r env st=>PostF Tryz.prog Tryz.f46 0 (.msl 0 0 (List.length r)) [some (1,List.map rStr r)] env st) ho ⟨[.old 0],ce j0 j0<|ce j0 j0<|cv j0 (.msl j0)<|ce j0 j0<|cn,j0,⟨⟨_,j0,rsRows ⟨⟨(ci j0),j5⟩,⟨(ci j0),j5⟩,⟨(ci j0),j5⟩,⟨(ci j0),j5⟩,⟨(ci j0),j5⟩,⟨(ci j0),j5⟩,⟨(ci j0),j5⟩,⟨(ci j0),j5⟩,⟨(ci j0),j5⟩,j5⟩⟩,j5⟩,j0,j1⟩ ?_ ?_ ?_
  ·
   rintro ⟨v11,v12⟩ r h
   replace h : law9_texts_l3 v4 v11 v12 = some r:=h
   unfold law9_texts_l3 at h
   refine sw_seq ?_
   refine rg j0<|u<|mv j0<|u<|mv j0<|u<|nc j0 j0<|u<|fa ti51 j0 j0 j0<|u<|ld ti22 j0 j0<|u<|lnI ti22 j0 j0<|u<|lss ti3 j0 j0<|r_nil ?_
   refine sw_cond j0 (fun hc6=>?_) (fun hc6=>?_)
   ·
    replace h:=bT hc6 h
    refine sw_skip ?_
    refine sw_seq ?_
    refine sw_block ?_
    obtain ⟨v13,q7,h⟩:=bs h
    obtain ⟨v14,q8,h⟩:=bs h
    obtain ⟨v15,q9,h⟩:=bs h
    obtain ⟨v16,q10,h⟩:=bs h
    refine rdL [(0,.ipt 1 [[.isl 6 (List.map rApiClass v4.L)]] 0 0),(1,.isl 1 (List.map (rI .i64) v2)),(7,.msl 0 0 (List.length v16)),(8,iA v12)] [some (1,List.map rStr v16)] [18,19] [17,16,15,14,13,12,11,10,9,8,7,6,5,4,3,2,1,0] [(39,sA v15),(38,sA v14.Name),(37,.ipt 6 (List.map rApiClass v4.L) (Int.toNat v12) 0),(36,.ipt 6 (List.map rApiClass v4.L) (Int.toNat v12) 0),(35,iA v12),(34,.isl 6 (List.map rApiClass v4.L)),(33,.ipt 1 [[.isl 6 (List.map rApiClass v4.L)]] 0 0),(32,.ipt 1 [[.isl 6 (List.map rApiClass v4.L)]] 0 0),(31,.ipt 1 [[.isl 6 (List.map rApiClass v4.L)]] 0 0),(30,sA v13.Name),(29,.ipt 6 (List.map rApiClass v4.L) (Int.toNat v12) 0),(28,.ipt 6 (List.map rApiClass v4.L) (Int.toNat v12) 0),(27,iA v12),(26,.isl 6 (List.map rApiClass v4.L)),(25,.ipt 1 [[.isl 6 (List.map rApiClass v4.L)]] 0 0),(24,.ipt 1 [[.isl 6 (List.map rApiClass v4.L)]] 0 0),(23,.ipt 1 [[.isl 6 (List.map rApiClass v4.L)]] 0 0),(22,.msl 0 0 (List.length v11))] 2 (by kernel_rfl) (by kernel_rfl) j0 (by kernel_rfl) (dtS ⟨(fun _=>pa j0 j0 j0 j0 (scat ti9 j0 j0 q9<|j4)),(fun _=>pa j0 j0 j0 j0 (ldI ti9 j0 (idx_some q8).2.2 j0<|j4)),(fun _=>pa j0 j0 j0 j0 (fa ti42 j0 j0 j0<|j4)),(fun _=>pa j0 j0 j0 j0 (ixI ti22 j0 ti42 j0 j0 j0 q8<|j4)),(fun _=>pa j0 j0 j0 j0 (mv j0<|j4)),(fun _=>pa j0 j0 j0 j0 (ld ti22 j0 j0<|j4)),(fun _=>pa j0 j0 j0 j0 (fa ti51 j0 j0 j0<|j4)),(fun _=>pa j0 j0 j0 j0 (nc j0 j0<|j4)),(fun _=>pa j0 j0 j0 j0 (mv j0<|j4)),(fun _=>pa j0 j0 j0 j0 (ldI ti9 j0 (idx_some q7).2.2 j0<|j4)),(fun _=>pa j0 j0 j0 j0 (fa ti42 j0 j0 j0<|j4)),(fun _=>pa j0 j0 j0 j0 (ixI ti22 j0 ti42 j0 j0 j0 q7<|j4)),(fun _=>pa j0 j0 j0 j0 (mv j0<|j4)),(fun _=>pa j0 j0 j0 j0 (ld ti22 j0 j0<|j4)),(fun _=>pa j0 j0 j0 j0 (fa ti51 j0 j0 j0<|j4)),(fun _=>pa j0 j0 j0 j0 (nc j0 j0<|j4)),(fun _=>pa j0 j0 j0 j0 (mv j0<|j4)),(fun _=>pa j0 j0 j0 j0 (mv j0<|j4)),j5⟩ (by kernel_rfl) j0 ⟨(fun _ _=>⟨_,j0,j0,bl 1 ti32 j0 ti9 j0 (by decide) (by decide) j0 j0 j0<|⟨(.msl 1 0 2),[],[(40,.msl 1 0 2)],j0,j0,by kernel_rfl,j0,dtS ⟨(fun h=>by cases h),(fun _=>pa j0 j0 j0 j0 (ldI ti9 j0 (idx_some q8).2.2 j0<|j4)),(fun _=>pa j0 j0 j0 j0 (fa ti42 j0 j0 j0<|j4)),(fun _=>pa j0 j0 j0 j0 (ixI ti22 j0 ti42 j0 j0 j0 q8<|j4)),(fun _=>pa j0 j0 j0 j0 (mv j0<|j4)),(fun _=>pa j0 j0 j0 j0 (ld ti22 j0 j0<|j4)),(fun _=>pa j0 j0 j0 j0 (fa ti51 j0 j0 j0<|j4)),(fun _=>pa j0 j0 j0 j0 (nc j0 j0<|j4)),(fun _=>pa j0 j0 j0 j0 (mv j0<|j4)),(fun h=>by cases h),(fun _=>pa j0 j0 j0 j0 (fa ti42 j0 j0 j0<|j4)),(fun _=>pa j0 j0 j0 j0 (ixI ti22 j0 ti42 j0 j0 j0 q7<|j4)),(fun _=>pa j0 j0 j0 j0 (mv j0<|j4)),(fun _=>pa j0 j0 j0 j0 (ld ti22 j0 j0<|j4)),(fun _=>pa j0 j0 j0 j0 (fa ti51 j0 j0 j0<|j4)),(fun _=>pa j0 j0 j0 j0 (nc j0 j0<|j4)),(fun _=>pa j0 j0 j0 j0 (mv j0<|j4)),(fun _=>pa j0 j0 j0 j0 (mv j0<|j4)),j5⟩ (by kernel_rfl) j0 ⟨(fun h=>by cases h),(fun _ _=>⟨_,j0,j0,apM 2 ti32 j0 ti9 j0 j0 (by decide) ti32 j0 j0 j0 j0 (roX (f:=rStr) (z:=[v13.Name,v15]) j0 j0) (fun _=>j0) j0 q10<|⟨(.msl 2 0 (List.length v16)),[20],[(7,.msl 2 0 (List.length v16)),(41,.msl 2 0 (List.length v16))],j0,j0,by kernel_rfl,j0,dt0 ⟨(fun _=>pa j0 j0 j0 j0 (asg j0<|j4)),(fun h=>by cases h),(fun _=>pa j0 j0 j0 j0 (ldI ti9 j0 (idx_some q8).2.2 j0<|j4)),(fun _=>pa j0 j0 j0 j0 (fa ti42 j0 j0 j0<|j4)),(fun _=>pa j0 j0 j0 j0 (ixI ti22 j0 ti42 j0 j0 j0 q8<|j4)),(fun _=>pa j0 j0 j0 j0 (mv j0<|j4)),(fun _=>pa j0 j0 j0 j0 (ld ti22 j0 j0<|j4)),(fun _=>pa j0 j0 j0 j0 (fa ti51 j0 j0 j0<|j4)),(fun _=>pa j0 j0 j0 j0 (nc j0 j0<|j4)),(fun _=>pa j0 j0 j0 j0 (mv j0<|j4)),(fun h=>by cases h),(fun _=>pa j0 j0 j0 j0 (fa ti42 j0 j0 j0<|j4)),(fun _=>pa j0 j0 j0 j0 (ixI ti22 j0 ti42 j0 j0 j0 q7<|j4)),(fun _=>pa j0 j0 j0 j0 (mv j0<|j4)),(fun _=>pa j0 j0 j0 j0 (ld ti22 j0 j0<|j4)),(fun _=>pa j0 j0 j0 j0 (fa ti51 j0 j0 j0<|j4)),(fun _=>pa j0 j0 j0 j0 (nc j0 j0<|j4)),(fun _=>pa j0 j0 j0 j0 (mv j0<|j4)),(fun h=>by cases h),j5⟩ (by kernel_rfl) j0 ⟨[.old 2],ce j0 j0<|ce j0 j0<|cv j0 (.msl j0)<|ce j0 j0<|cn,j0,⟨⟨_,j0,rsMap (fun _=>j0)⟩,j5⟩,j0,j1⟩⟩⟩),j5⟩⟩⟩),(fun _ h=>by cases h),j5⟩) ?_
    refine rl j0<|u<|mv j0<|u<|add ti3 j0 j0<|u<|asg j0<|r_nil ?_
    obtain rfl:=sm h
    exact ⟨_,j0,[.old 0],ce j0 j0<|ce j0 j0<|cv j0 (.msl j0)<|ce j0 j0<|cn,j0,⟨⟨_,j0,rsMap (fun _=>j0)⟩,j5⟩,j0,j1⟩
   ·
    replace h:=bF hc6 h
    refine sw_exit ?_
    obtain rfl:=sm h
    exact ⟨j0,_,j0,[.old 0],ce j0 j0<|cv j0 (.msl j0)<|cn,j0,⟨⟨_,j0,rsMap (fun _=>j0)⟩,j5⟩,j0,j1⟩
  ·
   rintro v17 rfl
   replace h : law9_texts_k4 v2 v17 = some r:=h
   unfold law9_texts_k4 at h
   refine ow_intro ?_
   refine rg j0<|u<|asg j0<|r_nil ?_
   refine sw_seq ?_
   refine rg j0<|u<|asg j0<|r_nil ?_
   obtain ⟨o,ho,h⟩:=bs h
   refine sw_lpl (X:=(List (List UInt8)) × Int) (B:=(List (List UInt8))) (R:=(List (List UInt8))) (fun z=>[(1,.isl 1 (List.map (rI .i64) v2)),(7,.msl 0 0 (List.length v17)),(9,.msl 1 0 (List.length z.1)),(10,iA z.2)]) (fun z=>[some (1,List.map rStr v17),some (1,List.map rStr z.1)]) (fun b=>[(9,.msl 0 0 (List.length b))]) (fun b=>[some (1,List.map rStr b)]) (fun r env st=>PostF Tryz.prog Tryz.f46 0 (.msl 0 0 (List.length r)) [some (1,List.map rStr r)] env st) ho ⟨[.old 0,.fresh 1],ce j0 j0<|cv j0 (.msl j0)<|cv j0 (.nilown j0)<|ce j0 j0<|cn,j0,⟨⟨_,j0,rsMap (fun _=>j0)⟩,j4,j5⟩,j0,j1⟩ ?_ ?_ ?_
   ·
    rintro ⟨v25,v26⟩ r h
    replace h : law9_texts_l5 v2 v17 v25 v26 = some r:=h
    unfold law9_texts_l5 at h
    refine sw_seq ?_
    refine rg j0<|u<|mv j0<|u<|mv j0<|u<|lnI ti75 j0 j0<|u<|lss ti3 j0 j0<|u<|mv j0<|r_and (j:=4) 2 j0 j0 j0 j0 j0 gpn (fun hb18=>g j0 hb18<|mv j0<|g j0 hb18<|lss ti3 j0 j0<|r_nil (egA [47,48] 2 hb18 j0 j0 j0 j0)) andF<|r_nil ?_
    refine sw_cond j0 (fun hc19=>?_) (fun hc19=>?_)
    ·
     replace h:=bT hc19 h
     refine sw_skip ?_
     refine sw_seq ?_
     refine sw_block ?_
     obtain ⟨v27,q20,h⟩:=bs h
     obtain ⟨v28,q21,h⟩:=bs h
     obtain ⟨v29,q22,h⟩:=bs h
     obtain ⟨v30,q23,h⟩:=bs h
     obtain ⟨v31,q24,h⟩:=bs h
     refine rl j0<|u<|mv j0<|u<|mv j0<|u<|mv j0<|u<|mv j0<|u<|ixI ti75 j0 ti3 j0 j0 j0 q20<|u<|ldI ti3 j0 (idx_some q20).2.2 j0<|u<|mv j0<|u<|lnM ti32 j0 j0 j0<|u<|rem ti3 j0 j0 q21<|u<|mv j0<|u<|lnM ti32 j0 j0 j0<|u<|add ti3 j0 j0<|u<|mv j0<|u<|lnM ti32 j0 j0 j0<|u<|rem ti3 j0 j0 q22<|u<|ixM ti32 j0 ti9 j0 j0 j0 j0 q23<|u<|ldM ti9 j0 j0 (idx_some q23).2.2 j0<|u<|bl 2 ti32 j0 ti9 j0 (by decide) (by decide) j0 j0 j0<|u<|apM 3 ti32 j0 ti9 j0 j0 (by decide) ti32 j0 j0 j0 j0 (roX (f:=rStr) (z:=[v30]) j0 j0) (fun _=>j0) j0 q24<|u<|asg j0<|r_nil ?_
     refine rl j0<|u<|mv j0<|u<|add ti3 j0 j0<|u<|asg j0<|r_nil ?_
     obtain rfl:=sm h
     exact ⟨_,j0,[.old 0,.old 3],ce j0 j0<|cv j0 (.msl j0)<|cv j0 (.msl j0)<|ce j0 j0<|cn,j0,⟨⟨_,j0,rsMap (fun _=>j0)⟩,⟨_,j0,rsMap (fun _=>j0)⟩,j5⟩,j0,j1⟩
    ·
     replace h:=bF hc19 h
     refine sw_exit ?_
     obtain rfl:=sm h
     exact ⟨j0,_,j0,[.old 1],cv j0 (.msl j0)<|cn,j0,⟨⟨_,j0,rsMap (fun _=>j0)⟩,j5⟩,j0,j1⟩
   ·
    rintro v32 rfl
    replace h : law9_texts_k6 v32 = some r:=h
    unfold law9_texts_k6 at h
    refine ow_intro ?_
    refine rg j0<|u<|mv j0<|u<|asg j0<|r_nil ?_
    refine sw_ret ?_
    obtain rfl:=sm h
    exact ⟨_,j0,[.old 0],.msl j0,j0,⟨⟨_,j0,rsMap (fun _=>j0)⟩,j5⟩,j0,j1⟩
   ·
    rintro r' rfl env st hp
    obtain rfl:=sm h
    exact hp
  ·
   rintro r' rfl env st hp
   obtain rfl:=sm h
   exact hp
def ref7_Hier_There_s3 (v1 : Option Ref7Hier) (v2 : List UInt8) : Option (Bool) :=
  optE v1 ((ref3_May v2).bind fun v4=>cond (!v4) (some false) ((ref7_base v2).bind fun v5=>none)) (fun v3=>(ref3_May v2).bind fun v6=>cond (!v6) (some false) ((ref7_base v2).bind fun v7=>(cond (v7.1 == [73]) (some true) ((ref7_Hier_At v3.L v7.1).bind fun v8=>some (decide (0 ≤ v8)))).bind fun v9=>some v9))
theorem ref7_Hier_There_s3_ok (v1 : Option Ref7Hier) (v2 : List UInt8) {r : Bool} (h : ref7_Hier_There_s3 v1 v2 = some r) : PureC Tryz.prog 47 [optP 1 rRef7Hier v1,sA v2] (bA r):=by
 refine pure_fn Tryz.func47 j0 (by kernel_rfl) j0 j0 ?_
 unfold ref7_Hier_There_s3 at h
 rcases v1 with _ | v3
 ·
  replace h:=oeN h
  refine rg j0<|u<|asg j0<|r_nil ?_
  refine sw_seq ?_
  obtain ⟨v4,q1,h⟩:=bs h
  refine rg j0<|u<|mv j0<|u<|pc (ref3_May_ok v2 q1) j0 j0 j0<|u<|nt j0<|r_nil ?_
  refine sw_cond j0 (fun hc2=>?_) (fun hc2=>?_)
  ·
   replace h:=bT hc2 h
   refine rg j0<|u<|asg j0<|r_nil ?_
   refine sw_ret ?_
   obtain rfl:=sm h
   exact ⟨_,j0,[],ci j0,j0,j5,j0,j1⟩
  ·
   replace h:=bF hc2 h
   refine sw_skip ?_
   obtain ⟨v5,q3,h⟩:=bs h
   refine rg j0<|u<|mv j0<|u<|pc (ref7_base_ok v2 q3) j0 j0 j0<|u<|mv j0<|u<|ex j0 j0<|u<|ex j0 j0<|u<|asg j0<|u<|asg j0<|r_nil ?_
   cases h
 ·
  replace h:=oeS h
  refine rg j0<|u<|asg j0<|r_nil ?_
  refine sw_seq ?_
  obtain ⟨v6,q5,h⟩:=bs h
  refine rg j0<|u<|mv j0<|u<|pc (ref3_May_ok v2 q5) j0 j0 j0<|u<|nt j0<|r_nil ?_
  refine sw_cond j0 (fun hc6=>?_) (fun hc6=>?_)
  ·
   replace h:=bT hc6 h
   refine rg j0<|u<|asg j0<|r_nil ?_
   refine sw_ret ?_
   obtain rfl:=sm h
   exact ⟨_,j0,[],ci j0,j0,j5,j0,j1⟩
  ·
   replace h:=bF hc6 h
   refine sw_skip ?_
   obtain ⟨v7,q7,h⟩:=bs h
   refine rg j0<|u<|mv j0<|u<|pc (ref7_base_ok v2 q7) j0 j0 j0<|u<|mv j0<|u<|ex j0 j0<|u<|ex j0 j0<|u<|asg j0<|u<|asg j0<|r_nil ?_
   obtain ⟨v9,q10,h⟩:=bs h
   refine rg j0<|u<|mv j0<|u<|seq ti9 j0 j0<|u<|mv j0<|r_or (x:=v9) (j:=2) 4 j0 j0 j0 j0 j0 gpn (fun hb8=>by replace q10:=bF hb8 q10; obtain ⟨v8,q9,q10⟩:=bs q10; obtain rfl:=sm q10; exact g j0 hb8<|mv j0<|g j0 hb8<|mv j0<|g j0 hb8<|pc (ref7_Hier_At_ok v3.L v7.1 q9) j0 j0 j0<|g j0 hb8<|geq ti3 j0 j0<|r_nil (eg [18,19,20,21] 4 j0 j0 j0 j0)) (fun hb=>(sm (bT hb q10)).symm)<|u<|asg j0<|r_nil ?_
   refine sw_ret ?_
   obtain rfl:=sm h
   exact ⟨_,j0,[],ci j0,j0,j5,j0,j1⟩
def types_There (v1 : List UInt8) : Bool :=
  false
theorem types_There_ok (v1 : List UInt8) {r : Bool} (h : types_There v1 = r) : PureC Tryz.prog 48 [.lit (.pointer none),sA v1] (bA r):=by
 refine pure_fn Tryz.func48 j0 (by kernel_rfl) j0 j0 ?_
 unfold types_There at h
 refine rg j0<|u<|asg j0<|r_nil ?_
 refine rg j0<|u<|mv j0<|u<|nep ti25 j0 j0 j0 j0 j0 j0<|u<|mv j0<|r_skip (aguard_of (b:=false) j0)<|r_skip (aguard_of (b:=false) j0)<|r_skip (aguard_of (b:=false) j0)<|r_skip (aguard_undef j0)<|r_skip (aguard_undef j0)<|r_skip (aguard_of (b:=false) j0)<|r_skip (aguard_of (b:=false) j0)<|r_skip (aguard_undef j0)<|r_skip (aguard_undef j0)<|r_skip (aguard_undef j0)<|r_skip (aguard_undef j0)<|r_skip (aguard_of (b:=false) j0)<|u<|pk (b:=false) j0 j0<|u<|asg j0<|r_nil ?_
 refine sw_ret ?_
 obtain rfl:=h
 exact ⟨_,j0,[],ci j0,j0,j5,j0,j1⟩
def types_ref (v1 : List UInt8) : Option (Bool) :=
  (cond (!(v1 == [73])) ((hier_Hier_Sub_s2 v1 v1).bind fun v2=>some v2) (some false)).bind fun v3=>some v3
theorem types_ref_ok (v1 : List UInt8) {r : Bool} (h : types_ref v1 = some r) : PureC Tryz.prog 89 [.lit (.pointer none),sA v1] (bA r):=by
 refine pure_fn Tryz.func89 j0 (by kernel_rfl) j0 j0 ?_
 unfold types_ref at h
 refine rg j0<|u<|asg j0<|r_nil ?_
 obtain ⟨v3,q3,h⟩:=bs h
 refine rg j0<|u<|mv j0<|u<|sne ti9 j0 j0<|u<|mv j0<|r_and (x:=v3) (j:=2) 4 j0 j0 j0 j0 j0 gpn (fun hb1=>by replace q3:=bT hb1 q3; obtain ⟨v2,q2,q3⟩:=bs q3; obtain rfl:=sm q3; exact g j0 hb1<|mv j0<|g j0 hb1<|mv j0<|g j0 hb1<|mv j0<|g j0 hb1<|pc (hier_Hier_Sub_s2_ok v1 v1 q2) j0 j0 j0<|r_nil (eg [8,9,10,11] 4 j0 j0 j0 j0)) (fun hb=>(sm (bF hb q3)).symm)<|u<|asg j0<|r_nil ?_
 refine sw_ret ?_
 obtain rfl:=sm h
 exact ⟨_,j0,[],ci j0,j0,j5,j0,j1⟩
def types_There_s2 (v1 : List ApiClass) (v2 : List (List UInt8 × Int)) (v3 : List UInt8) : Option (Bool) :=
  (cond ((v3 == [78]) || (v3 == [84])) (some true) ((hier_Hier_Sub_s3 v1 v2 v3 v3).bind fun v4=>some v4)).bind fun v5=>some v5
theorem types_There_s2_ok (v1 : List ApiClass) (v2 : List (List UInt8 × Int)) (v3 : List UInt8) {r : Bool} (h : types_There_s2 v1 v2 v3 = some r) : PureC Tryz.prog 48 [.ipt 2 [[.isl 6 (List.map rApiClass v1),.imp (List.map (rKV (fun x=>iA x)) v2)]] 0 0,sA v3] (bA r):=by
 refine pure_fn Tryz.func48 j0 (by kernel_rfl) j0 j0 ?_
 unfold types_There_s2 at h
 refine rg j0<|u<|asg j0<|r_nil ?_
 obtain ⟨v5,q4,h⟩:=bs h
 refine rg j0<|u<|mv j0<|u<|nep ti25 j0 j0 j0 j0 j0 j0<|u<|mv j0<|g j0 j0<|mv j0<|g j0 j0<|seq ti9 j0 j0<|g j0 j0<|mv j0<|r_or (j:=5) 2 j0 j0 j0 j0 j0 (gps j0 j0 j0) (fun hb1=>g j0 hb1<|mv j0<|g j0 hb1<|seq ti9 j0 j0<|r_nil (egO [11,12] 2 hb1 j0 j0 j0 j0)) orT<|g j0 j0<|mv j0<|r_or (x:=v5) (j:=9) 4 j0 j0 j0 j0 j0 (gps j0 j0 j0) (fun hb2=>by replace q4:=bF hb2 q4; obtain ⟨v4,q3,q4⟩:=bs q4; obtain rfl:=sm q4; exact g j0 hb2<|mv j0<|g j0 hb2<|mv j0<|g j0 hb2<|mv j0<|g j0 hb2<|pc (hier_Hier_Sub_s3_ok v1 v2 v3 v3 q3) j0 j0 j0<|r_nil (eg [15,16,17,18] 4 j0 j0 j0 j0)) (fun hb=>(sm (bT hb q4)).symm)<|u<|pk (b:=true) j0 j0<|u<|asg j0<|r_nil ?_
 refine sw_ret ?_
 obtain rfl:=sm h
 exact ⟨_,j0,[],ci j0,j0,j5,j0,j1⟩
def types_ref_s2 (v1 : List ApiClass) (v2 : List (List UInt8 × Int)) (v3 : List UInt8) : Option (Bool) :=
  (cond (!(v3 == [73])) ((hier_Hier_Sub_s3 v1 v2 v3 v3).bind fun v4=>some v4) (some false)).bind fun v5=>some v5
theorem types_ref_s2_ok (v1 : List ApiClass) (v2 : List (List UInt8 × Int)) (v3 : List UInt8) {r : Bool} (h : types_ref_s2 v1 v2 v3 = some r) : PureC Tryz.prog 89 [.ipt 2 [[.isl 6 (List.map rApiClass v1),.imp (List.map (rKV (fun x=>iA x)) v2)]] 0 0,sA v3] (bA r):=by
 refine pure_fn Tryz.func89 j0 (by kernel_rfl) j0 j0 ?_
 unfold types_ref_s2 at h
 refine rg j0<|u<|asg j0<|r_nil ?_
 obtain ⟨v5,q3,h⟩:=bs h
 refine rg j0<|u<|mv j0<|u<|sne ti9 j0 j0<|u<|mv j0<|r_and (x:=v5) (j:=2) 4 j0 j0 j0 j0 j0 gpn (fun hb1=>by replace q3:=bT hb1 q3; obtain ⟨v4,q2,q3⟩:=bs q3; obtain rfl:=sm q3; exact g j0 hb1<|mv j0<|g j0 hb1<|mv j0<|g j0 hb1<|mv j0<|g j0 hb1<|pc (hier_Hier_Sub_s3_ok v1 v2 v3 v3 q2) j0 j0 j0<|r_nil (eg [8,9,10,11] 4 j0 j0 j0 j0)) (fun hb=>(sm (bF hb q3)).symm)<|u<|asg j0<|r_nil ?_
 refine sw_ret ?_
 obtain rfl:=sm h
 exact ⟨_,j0,[],ci j0,j0,j5,j0,j1⟩
def types_Fits (v1 : Option HierHier) (v2 : List UInt8) (v3 : List UInt8) : Option (Bool) :=
  optE v1 (cond ((!(types_There v2)) || (!(types_There v3))) (some false) (cond ((v3 == [84]) || (v2 == v3)) (some true) (cond (v2 == [78]) ((types_ref v3).bind fun v5=>some v5) ((types_ref v2).bind fun v6=>(cond (!v6) (some true) ((types_ref v3).bind fun v7=>some (!v7))).bind fun v8=>cond v8 (some false) ((hier_Hier_Class_s2 v3).bind fun v9=>(cond v9.1.Interface (some true) ((hier_Hier_Sub_s2 v2 v3).bind fun v10=>some v10)).bind fun v11=>some v11))))) (fun v4=>(types_There_s2 v4.l v4.at_ v2).bind fun v12=>(cond (!v12) (some true) ((types_There_s2 v4.l v4.at_ v3).bind fun v13=>some (!v13))).bind fun v14=>cond v14 (some false) (cond ((v3 == [84]) || (v2 == v3)) (some true) (cond (v2 == [78]) ((types_ref_s2 v4.l v4.at_ v3).bind fun v15=>some v15) ((types_ref_s2 v4.l v4.at_ v2).bind fun v16=>(cond (!v16) (some true) ((types_ref_s2 v4.l v4.at_ v3).bind fun v17=>some (!v17))).bind fun v18=>cond v18 (some false) ((hier_Hier_Class_s3 v4.l v4.at_ v3).bind fun v19=>(cond v19.1.Interface (some true) ((hier_Hier_Sub_s3 v4.l v4.at_ v2 v3).bind fun v20=>some v20)).bind fun v21=>some v21)))))
theorem types_Fits_ok (v1 : Option HierHier) (v2 : List UInt8) (v3 : List UInt8) {r : Bool} (h : types_Fits v1 v2 v3 = some r) : PureC Tryz.prog 49 [optP 2 rHierHier v1,sA v2,sA v3] (bA r):=by
 refine pure_fn Tryz.func49 j0 (by kernel_rfl) j0 j0 ?_
 unfold types_Fits at h
 rcases v1 with _ | v4
 ·
  replace h:=oeN h
  refine rg j0<|u<|asg j0<|r_nil ?_
  refine sw_seq ?_
  refine sw_block ?_
  refine rg j0<|u<|mv j0<|u<|mv j0<|u<|pc (types_There_ok v2 j0) j0 j0 j0<|u<|nt j0<|u<|mv j0<|r_or (j:=4) 4 j0 j0 j0 j0 j0 gpn (fun hb1=>g j0 hb1<|mv j0<|g j0 hb1<|mv j0<|g j0 hb1<|pc (types_There_ok v3 j0) j0 j0 j0<|g j0 hb1<|nt j0<|r_nil (egO [15,16,17,18] 4 hb1 j0 j0 j0 j0)) orT<|u<|asg j0<|r_nil ?_
  refine sw_cond j0 (fun hc2=>?_) (fun hc2=>?_)
  ·
   replace h:=bT hc2 h
   refine rg j0<|u<|asg j0<|r_nil ?_
   refine sw_ret ?_
   obtain rfl:=sm h
   exact ⟨_,j0,[],ci j0,j0,j5,j0,j1⟩
  ·
   replace h:=bF hc2 h
   refine rg j0<|u<|mv j0<|u<|seq ti9 j0 j0<|u<|mv j0<|r_or (j:=2) 3 j0 j0 j0 j0 j0 gpn (fun hb3=>g j0 hb3<|mv j0<|g j0 hb3<|mv j0<|g j0 hb3<|seq ti9 j0 j0<|r_nil (egO [24,25,26] 3 hb3 j0 j0 j0 j0)) orT<|u<|asg j0<|r_nil ?_
   refine sw_cond j0 (fun hc4=>?_) (fun hc4=>?_)
   ·
    replace h:=bT hc4 h
    refine rg j0<|u<|asg j0<|r_nil ?_
    refine sw_ret ?_
    obtain rfl:=sm h
    exact ⟨_,j0,[],ci j0,j0,j5,j0,j1⟩
   ·
    replace h:=bF hc4 h
    refine rg j0<|u<|mv j0<|u<|seq ti9 j0 j0<|u<|asg j0<|r_nil ?_
    refine sw_cond j0 (fun hc5=>?_) (fun hc5=>?_)
    ·
     replace h:=bT hc5 h
     obtain ⟨v5,q6,h⟩:=bs h
     refine rg j0<|u<|mv j0<|u<|mv j0<|u<|pc (types_ref_ok v3 q6) j0 j0 j0<|u<|asg j0<|r_nil ?_
     refine sw_ret ?_
     obtain rfl:=sm h
     exact ⟨_,j0,[],ci j0,j0,j5,j0,j1⟩
    ·
     replace h:=bF hc5 h
     obtain ⟨v6,q7,h⟩:=bs h
     obtain ⟨v8,q10,h⟩:=bs h
     refine rg j0<|u<|mv j0<|u<|mv j0<|u<|pc (types_ref_ok v2 q7) j0 j0 j0<|u<|nt j0<|u<|mv j0<|r_or (x:=v8) (j:=4) 4 j0 j0 j0 j0 j0 gpn (fun hb8=>by replace q10:=bF hb8 q10; obtain ⟨v7,q9,q10⟩:=bs q10; obtain rfl:=sm q10; exact g j0 hb8<|mv j0<|g j0 hb8<|mv j0<|g j0 hb8<|pc (types_ref_ok v3 q9) j0 j0 j0<|g j0 hb8<|nt j0<|r_nil (eg [40,41,42,43] 4 j0 j0 j0 j0)) (fun hb=>(sm (bT hb q10)).symm)<|u<|asg j0<|r_nil ?_
     refine sw_cond j0 (fun hc11=>?_) (fun hc11=>?_)
     ·
      replace h:=bT hc11 h
      refine rg j0<|u<|asg j0<|r_nil ?_
      refine sw_ret ?_
      obtain rfl:=sm h
      exact ⟨_,j0,[],ci j0,j0,j5,j0,j1⟩
     ·
      replace h:=bF hc11 h
      refine sw_skip ?_
      obtain ⟨v9,q12,h⟩:=bs h
      refine rg j0<|u<|mv j0<|u<|mv j0<|u<|pc (hier_Hier_Class_s2_ok v3 q12) j0 j0 j0<|u<|mv j0<|u<|ex j0 j0<|u<|ex j0 j0<|u<|al 0 ti42 j0<|u<|sto ti42 j0 j0 j0<|u<|asg j0<|r_nil ?_
      obtain ⟨v11,q15,h⟩:=bs h
      refine rg j0<|u<|fa ti42 j0 j0 j0<|u<|ld ti4 j0 j0<|u<|mv j0<|r_or (x:=v11) (j:=2) 4 j0 j0 j0 j0 j0 gpn (fun hb13=>by replace q15:=bF hb13 q15; obtain ⟨v10,q14,q15⟩:=bs q15; obtain rfl:=sm q15; exact g j0 hb13<|mv j0<|g j0 hb13<|mv j0<|g j0 hb13<|mv j0<|g j0 hb13<|pc (hier_Hier_Sub_s2_ok v2 v3 q14) j0 j0 j0<|r_nil (eg [54,55,56,57] 4 j0 j0 j0 j0)) (fun hb=>(sm (bT hb q15)).symm)<|u<|asg j0<|r_nil ?_
      refine sw_ret ?_
      obtain rfl:=sm h
      exact ⟨_,j0,[],ci j0,j0,j5,j0,j1⟩
 ·
  replace h:=oeS h
  refine rg j0<|u<|asg j0<|r_nil ?_
  refine sw_seq ?_
  refine sw_block ?_
  obtain ⟨v12,q16,h⟩:=bs h
  obtain ⟨v14,q19,h⟩:=bs h
  refine rg j0<|u<|mv j0<|u<|mv j0<|u<|pc (types_There_s2_ok v4.l v4.at_ v2 q16) j0 j0 j0<|u<|nt j0<|u<|mv j0<|r_or (x:=v14) (j:=4) 4 j0 j0 j0 j0 j0 gpn (fun hb17=>by replace q19:=bF hb17 q19; obtain ⟨v13,q18,q19⟩:=bs q19; obtain rfl:=sm q19; exact g j0 hb17<|mv j0<|g j0 hb17<|mv j0<|g j0 hb17<|pc (types_There_s2_ok v4.l v4.at_ v3 q18) j0 j0 j0<|g j0 hb17<|nt j0<|r_nil (eg [15,16,17,18] 4 j0 j0 j0 j0)) (fun hb=>(sm (bT hb q19)).symm)<|u<|asg j0<|r_nil ?_
  refine sw_cond j0 (fun hc20=>?_) (fun hc20=>?_)
  ·
   replace h:=bT hc20 h
   refine rg j0<|u<|asg j0<|r_nil ?_
   refine sw_ret ?_
   obtain rfl:=sm h
   exact ⟨_,j0,[],ci j0,j0,j5,j0,j1⟩
  ·
   replace h:=bF hc20 h
   refine rg j0<|u<|mv j0<|u<|seq ti9 j0 j0<|u<|mv j0<|r_or (j:=2) 3 j0 j0 j0 j0 j0 gpn (fun hb21=>g j0 hb21<|mv j0<|g j0 hb21<|mv j0<|g j0 hb21<|seq ti9 j0 j0<|r_nil (egO [24,25,26] 3 hb21 j0 j0 j0 j0)) orT<|u<|asg j0<|r_nil ?_
   refine sw_cond j0 (fun hc22=>?_) (fun hc22=>?_)
   ·
    replace h:=bT hc22 h
    refine rg j0<|u<|asg j0<|r_nil ?_
    refine sw_ret ?_
    obtain rfl:=sm h
    exact ⟨_,j0,[],ci j0,j0,j5,j0,j1⟩
   ·
    replace h:=bF hc22 h
    refine rg j0<|u<|mv j0<|u<|seq ti9 j0 j0<|u<|asg j0<|r_nil ?_
    refine sw_cond j0 (fun hc23=>?_) (fun hc23=>?_)
    ·
     replace h:=bT hc23 h
     obtain ⟨v15,q24,h⟩:=bs h
     refine rg j0<|u<|mv j0<|u<|mv j0<|u<|pc (types_ref_s2_ok v4.l v4.at_ v3 q24) j0 j0 j0<|u<|asg j0<|r_nil ?_
     refine sw_ret ?_
     obtain rfl:=sm h
     exact ⟨_,j0,[],ci j0,j0,j5,j0,j1⟩
    ·
     replace h:=bF hc23 h
     obtain ⟨v16,q25,h⟩:=bs h
     obtain ⟨v18,q28,h⟩:=bs h
     refine rg j0<|u<|mv j0<|u<|mv j0<|u<|pc (types_ref_s2_ok v4.l v4.at_ v2 q25) j0 j0 j0<|u<|nt j0<|u<|mv j0<|r_or (x:=v18) (j:=4) 4 j0 j0 j0 j0 j0 gpn (fun hb26=>by replace q28:=bF hb26 q28; obtain ⟨v17,q27,q28⟩:=bs q28; obtain rfl:=sm q28; exact g j0 hb26<|mv j0<|g j0 hb26<|mv j0<|g j0 hb26<|pc (types_ref_s2_ok v4.l v4.at_ v3 q27) j0 j0 j0<|g j0 hb26<|nt j0<|r_nil (eg [40,41,42,43] 4 j0 j0 j0 j0)) (fun hb=>(sm (bT hb q28)).symm)<|u<|asg j0<|r_nil ?_
     refine sw_cond j0 (fun hc29=>?_) (fun hc29=>?_)
     ·
      replace h:=bT hc29 h
      refine rg j0<|u<|asg j0<|r_nil ?_
      refine sw_ret ?_
      obtain rfl:=sm h
      exact ⟨_,j0,[],ci j0,j0,j5,j0,j1⟩
     ·
      replace h:=bF hc29 h
      refine sw_skip ?_
      obtain ⟨v19,q30,h⟩:=bs h
      refine rg j0<|u<|mv j0<|u<|mv j0<|u<|pc (hier_Hier_Class_s3_ok v4.l v4.at_ v3 q30) j0 j0 j0<|u<|mv j0<|u<|ex j0 j0<|u<|ex j0 j0<|u<|al 0 ti42 j0<|u<|sto ti42 j0 j0 j0<|u<|asg j0<|r_nil ?_
      obtain ⟨v21,q33,h⟩:=bs h
      refine rg j0<|u<|fa ti42 j0 j0 j0<|u<|ld ti4 j0 j0<|u<|mv j0<|r_or (x:=v21) (j:=2) 4 j0 j0 j0 j0 j0 gpn (fun hb31=>by replace q33:=bF hb31 q33; obtain ⟨v20,q32,q33⟩:=bs q33; obtain rfl:=sm q33; exact g j0 hb31<|mv j0<|g j0 hb31<|mv j0<|g j0 hb31<|mv j0<|g j0 hb31<|pc (hier_Hier_Sub_s3_ok v4.l v4.at_ v2 v3 q32) j0 j0 j0<|r_nil (eg [54,55,56,57] 4 j0 j0 j0 j0)) (fun hb=>(sm (bT hb q33)).symm)<|u<|asg j0<|r_nil ?_
      refine sw_ret ?_
      obtain rfl:=sm h
      exact ⟨_,j0,[],ci j0,j0,j5,j0,j1⟩
end
end Go.Proofs.YtooagifeniibcaaGreat
namespace Go.Proofs.YtooagifeniibcaaGreat
noncomputable section
set_option linter.unusedSimpArgs false
set_option linter.unusedVariables false
set_option maxRecDepth 100000
set_option maxHeartbeats 4000000
def types_There_s3 (v1 : Option HierHier) (v2 : List UInt8) : Option (Bool) :=
  optE v1 (some false) (fun v3=>(cond ((v2 == [78]) || (v2 == [84])) (some true) ((hier_Hier_Sub_s3 v3.l v3.at_ v2 v2).bind fun v4=>some v4)).bind fun v5=>some v5)
theorem types_There_s3_ok (v1 : Option HierHier) (v2 : List UInt8) {r : Bool} (h : types_There_s3 v1 v2 = some r) : PureC Tryz.prog 48 [optP 2 rHierHier v1,sA v2] (bA r):=by
 refine pure_fn Tryz.func48 j0 (by kernel_rfl) j0 j0 ?_
 unfold types_There_s3 at h
 rcases v1 with _ | v3
 ·
  replace h:=oeN h
  refine rg j0<|u<|asg j0<|r_nil ?_
  refine rg j0<|u<|mv j0<|u<|nep ti25 j0 j0 j0 j0 j0 j0<|u<|mv j0<|r_skip (aguard_of (b:=false) j0)<|r_skip (aguard_of (b:=false) j0)<|r_skip (aguard_of (b:=false) j0)<|r_skip (aguard_undef j0)<|r_skip (aguard_undef j0)<|r_skip (aguard_of (b:=false) j0)<|r_skip (aguard_of (b:=false) j0)<|r_skip (aguard_undef j0)<|r_skip (aguard_undef j0)<|r_skip (aguard_undef j0)<|r_skip (aguard_undef j0)<|r_skip (aguard_of (b:=false) j0)<|u<|pk (b:=false) j0 j0<|u<|asg j0<|r_nil ?_
  refine sw_ret ?_
  obtain rfl:=sm h
  exact ⟨_,j0,[],ci j0,j0,j5,j0,j1⟩
 ·
  replace h:=oeS h
  refine rg j0<|u<|asg j0<|r_nil ?_
  obtain ⟨v5,q4,h⟩:=bs h
  refine rg j0<|u<|mv j0<|u<|nep ti25 j0 j0 j0 j0 j0 j0<|u<|mv j0<|g j0 j0<|mv j0<|g j0 j0<|seq ti9 j0 j0<|g j0 j0<|mv j0<|r_or (j:=5) 2 j0 j0 j0 j0 j0 (gps j0 j0 j0) (fun hb1=>g j0 hb1<|mv j0<|g j0 hb1<|seq ti9 j0 j0<|r_nil (egO [11,12] 2 hb1 j0 j0 j0 j0)) orT<|g j0 j0<|mv j0<|r_or (x:=v5) (j:=9) 4 j0 j0 j0 j0 j0 (gps j0 j0 j0) (fun hb2=>by replace q4:=bF hb2 q4; obtain ⟨v4,q3,q4⟩:=bs q4; obtain rfl:=sm q4; exact g j0 hb2<|mv j0<|g j0 hb2<|mv j0<|g j0 hb2<|mv j0<|g j0 hb2<|pc (hier_Hier_Sub_s3_ok v3.l v3.at_ v2 v2 q3) j0 j0 j0<|r_nil (eg [15,16,17,18] 4 j0 j0 j0 j0)) (fun hb=>(sm (bT hb q4)).symm)<|u<|pk (b:=true) j0 j0<|u<|asg j0<|r_nil ?_
  refine sw_ret ?_
  obtain rfl:=sm h
  exact ⟨_,j0,[],ci j0,j0,j5,j0,j1⟩
end
end Go.Proofs.YtooagifeniibcaaGreat
namespace Go.Proofs.YtooagifeniibcaaGreat
noncomputable section
set_option linter.unusedSimpArgs false
set_option linter.unusedVariables false
set_option maxRecDepth 100000
set_option maxHeartbeats 4000000
def ref7_Hier_Fits (v1 : Option Ref7Hier) (v2 : List UInt8) (v3 : List UInt8) : Option (Bool) :=
  optE v1 (cond (v3 == [84]) ((cond ((v2 == [84]) || (v2 == [78])) (some true) ((ref7_Hier_There v2).bind fun v5=>some v5)).bind fun v6=>some v6) (cond (v2 == [78]) ((cond (v3 == [78]) (some true) ((cond (!(v3 == [73])) ((ref7_Hier_There v3).bind fun v7=>some v7) (some false)).bind fun v8=>some v8)).bind fun v9=>some v9) (cond (v2 == v3) ((ref7_Hier_There v2).bind fun v10=>some v10) ((cond ((v2 == [73]) || (v3 == [73])) (some true) ((ref7_Hier_There v2).bind fun v11=>some (!v11))).bind fun v12=>(cond v12 (some true) ((ref7_Hier_There v3).bind fun v13=>some (!v13))).bind fun v14=>cond v14 (some false) (none))))) (fun v4=>cond (v3 == [84]) ((cond ((v2 == [84]) || (v2 == [78])) (some true) ((ref7_Hier_There_s2 v4.L v2).bind fun v15=>some v15)).bind fun v16=>some v16) (cond (v2 == [78]) ((cond (v3 == [78]) (some true) ((cond (!(v3 == [73])) ((ref7_Hier_There_s2 v4.L v3).bind fun v17=>some v17) (some false)).bind fun v18=>some v18)).bind fun v19=>some v19) (cond (v2 == v3) ((ref7_Hier_There_s2 v4.L v2).bind fun v20=>some v20) ((cond ((v2 == [73]) || (v3 == [73])) (some true) ((ref7_Hier_There_s2 v4.L v2).bind fun v21=>some (!v21))).bind fun v22=>(cond v22 (some true) ((ref7_Hier_There_s2 v4.L v3).bind fun v23=>some (!v23))).bind fun v24=>cond v24 (some false) ((ref7_Hier_At v4.L v3).bind fun v25=>(cond (decide (0 ≤ v25)) ((idx v4.L v25).bind fun v26=>some v26.Interface) (some false)).bind fun v27=>cond v27 (some true) ((ref7_Hier_Sub_s3 v4.L v2 v3).bind fun v28=>some v28))))))
theorem ref7_Hier_Fits_ok (v1 : Option Ref7Hier) (v2 : List UInt8) (v3 : List UInt8) {r : Bool} (h : ref7_Hier_Fits v1 v2 v3 = some r) : PureC Tryz.prog 50 [optP 1 rRef7Hier v1,sA v2,sA v3] (bA r):=by
 refine pure_fn Tryz.func50 j0 (by kernel_rfl) j0 j0 ?_
 unfold ref7_Hier_Fits at h
 rcases v1 with _ | v4
 ·
  replace h:=oeN h
  refine rg j0<|u<|asg j0<|r_nil ?_
  refine sw_seq ?_
  refine sw_block ?_
  refine rg j0<|u<|mv j0<|u<|seq ti9 j0 j0<|u<|asg j0<|r_nil ?_
  refine sw_cond j0 (fun hc1=>?_) (fun hc1=>?_)
  ·
   replace h:=bT hc1 h
   obtain ⟨v6,q5,h⟩:=bs h
   refine rg j0<|u<|mv j0<|u<|seq ti9 j0 j0<|u<|mv j0<|r_or (j:=2) 2 j0 j0 j0 j0 j0 gpn (fun hb2=>g j0 hb2<|mv j0<|g j0 hb2<|seq ti9 j0 j0<|r_nil (egO [14,15] 2 hb2 j0 j0 j0 j0)) orT<|u<|mv j0<|r_or (x:=v6) (j:=6) 3 j0 j0 j0 j0 j0 gpn (fun hb3=>by replace q5:=bF hb3 q5; obtain ⟨v5,q4,q5⟩:=bs q5; obtain rfl:=sm q5; exact g j0 hb3<|mv j0<|g j0 hb3<|mv j0<|g j0 hb3<|pc (ref7_Hier_There_ok v2 q4) j0 j0 j0<|r_nil (eg [18,19,20] 3 j0 j0 j0 j0)) (fun hb=>(sm (bT hb q5)).symm)<|u<|asg j0<|r_nil ?_
   refine sw_ret ?_
   obtain rfl:=sm h
   exact ⟨_,j0,[],ci j0,j0,j5,j0,j1⟩
  ·
   replace h:=bF hc1 h
   refine rg j0<|u<|mv j0<|u<|seq ti9 j0 j0<|u<|asg j0<|r_nil ?_
   refine sw_cond j0 (fun hc6=>?_) (fun hc6=>?_)
   ·
    replace h:=bT hc6 h
    obtain ⟨v9,q11,h⟩:=bs h
    refine rg j0<|u<|mv j0<|u<|seq ti9 j0 j0<|u<|mv j0<|r_or (x:=v9) (j:=2) 7 j0 j0 j0 j0 j0 gpn (fun hb7=>by replace q11:=bF hb7 q11; obtain ⟨v8,q10,q11⟩:=bs q11; obtain rfl:=sm q11; exact g j0 hb7<|mv j0<|g j0 hb7<|sne ti9 j0 j0<|g j0 hb7<|mv j0<|r_and (x:=v8) (j:=5) 3 j0 j0 j0 j0 j0 (gps j0 j0 hb7) (fun hb8=>by replace q10:=bT hb8 q10; obtain ⟨v7,q9,q10⟩:=bs q10; obtain rfl:=sm q10; exact g j0 hb8<|mv j0<|g j0 hb8<|mv j0<|g j0 hb8<|pc (ref7_Hier_There_ok v3 q9) j0 j0 j0<|r_nil (eg [31,32,33] 3 j0 j0 j0 j0)) (fun hb=>(sm (bF hb q10)).symm)<|r_nil (eg [28,29,30,31,32,33,34] 4 j0 j0 j0 j0)) (fun hb=>(sm (bT hb q11)).symm)<|u<|asg j0<|r_nil ?_
    refine sw_ret ?_
    obtain rfl:=sm h
    exact ⟨_,j0,[],ci j0,j0,j5,j0,j1⟩
   ·
    replace h:=bF hc6 h
    refine rg j0<|u<|mv j0<|u<|mv j0<|u<|seq ti9 j0 j0<|u<|asg j0<|r_nil ?_
    refine sw_cond j0 (fun hc12=>?_) (fun hc12=>?_)
    ·
     replace h:=bT hc12 h
     obtain ⟨v10,q13,h⟩:=bs h
     refine rg j0<|u<|mv j0<|u<|mv j0<|u<|pc (ref7_Hier_There_ok v2 q13) j0 j0 j0<|u<|asg j0<|r_nil ?_
     refine sw_ret ?_
     obtain rfl:=sm h
     exact ⟨_,j0,[],ci j0,j0,j5,j0,j1⟩
    ·
     replace h:=bF hc12 h
     obtain ⟨v12,q17,h⟩:=bs h
     obtain ⟨v14,q20,h⟩:=bs h
     refine rg j0<|u<|mv j0<|u<|seq ti9 j0 j0<|u<|mv j0<|r_or (j:=2) 2 j0 j0 j0 j0 j0 gpn (fun hb14=>g j0 hb14<|mv j0<|g j0 hb14<|seq ti9 j0 j0<|r_nil (egO [47,48] 2 hb14 j0 j0 j0 j0)) orT<|u<|mv j0<|r_or (x:=v12) (j:=6) 4 j0 j0 j0 j0 j0 gpn (fun hb15=>by replace q17:=bF hb15 q17; obtain ⟨v11,q16,q17⟩:=bs q17; obtain rfl:=sm q17; exact g j0 hb15<|mv j0<|g j0 hb15<|mv j0<|g j0 hb15<|pc (ref7_Hier_There_ok v2 q16) j0 j0 j0<|g j0 hb15<|nt j0<|r_nil (eg [51,52,53,54] 4 j0 j0 j0 j0)) (fun hb=>(sm (bT hb q17)).symm)<|u<|mv j0<|r_or (x:=v14) (j:=12) 4 j0 j0 j0 j0 j0 gpn (fun hb18=>by replace q20:=bF hb18 q20; obtain ⟨v13,q19,q20⟩:=bs q20; obtain rfl:=sm q20; exact g j0 hb18<|mv j0<|g j0 hb18<|mv j0<|g j0 hb18<|pc (ref7_Hier_There_ok v3 q19) j0 j0 j0<|g j0 hb18<|nt j0<|r_nil (eg [57,58,59,60] 4 j0 j0 j0 j0)) (fun hb=>(sm (bT hb q20)).symm)<|u<|asg j0<|r_nil ?_
     refine sw_cond j0 (fun hc21=>?_) (fun hc21=>?_)
     ·
      replace h:=bT hc21 h
      refine rg j0<|u<|asg j0<|r_nil ?_
      refine sw_ret ?_
      obtain rfl:=sm h
      exact ⟨_,j0,[],ci j0,j0,j5,j0,j1⟩
     ·
      replace h:=bF hc21 h
      refine sw_skip ?_
      refine sw_seq ?_
      cases h
 ·
  replace h:=oeS h
  refine rg j0<|u<|asg j0<|r_nil ?_
  refine sw_seq ?_
  refine sw_block ?_
  refine rg j0<|u<|mv j0<|u<|seq ti9 j0 j0<|u<|asg j0<|r_nil ?_
  refine sw_cond j0 (fun hc22=>?_) (fun hc22=>?_)
  ·
   replace h:=bT hc22 h
   obtain ⟨v16,q26,h⟩:=bs h
   refine rg j0<|u<|mv j0<|u<|seq ti9 j0 j0<|u<|mv j0<|r_or (j:=2) 2 j0 j0 j0 j0 j0 gpn (fun hb23=>g j0 hb23<|mv j0<|g j0 hb23<|seq ti9 j0 j0<|r_nil (egO [14,15] 2 hb23 j0 j0 j0 j0)) orT<|u<|mv j0<|r_or (x:=v16) (j:=6) 3 j0 j0 j0 j0 j0 gpn (fun hb24=>by replace q26:=bF hb24 q26; obtain ⟨v15,q25,q26⟩:=bs q26; obtain rfl:=sm q26; exact g j0 hb24<|mv j0<|g j0 hb24<|mv j0<|g j0 hb24<|pc (ref7_Hier_There_s2_ok v4.L v2 q25) j0 j0 j0<|r_nil (eg [18,19,20] 3 j0 j0 j0 j0)) (fun hb=>(sm (bT hb q26)).symm)<|u<|asg j0<|r_nil ?_
   refine sw_ret ?_
   obtain rfl:=sm h
   exact ⟨_,j0,[],ci j0,j0,j5,j0,j1⟩
  ·
   replace h:=bF hc22 h
   refine rg j0<|u<|mv j0<|u<|seq ti9 j0 j0<|u<|asg j0<|r_nil ?_
   refine sw_cond j0 (fun hc27=>?_) (fun hc27=>?_)
   ·
    replace h:=bT hc27 h
    obtain ⟨v19,q32,h⟩:=bs h
    refine rg j0<|u<|mv j0<|u<|seq ti9 j0 j0<|u<|mv j0<|r_or (x:=v19) (j:=2) 7 j0 j0 j0 j0 j0 gpn (fun hb28=>by replace q32:=bF hb28 q32; obtain ⟨v18,q31,q32⟩:=bs q32; obtain rfl:=sm q32; exact g j0 hb28<|mv j0<|g j0 hb28<|sne ti9 j0 j0<|g j0 hb28<|mv j0<|r_and (x:=v18) (j:=5) 3 j0 j0 j0 j0 j0 (gps j0 j0 hb28) (fun hb29=>by replace q31:=bT hb29 q31; obtain ⟨v17,q30,q31⟩:=bs q31; obtain rfl:=sm q31; exact g j0 hb29<|mv j0<|g j0 hb29<|mv j0<|g j0 hb29<|pc (ref7_Hier_There_s2_ok v4.L v3 q30) j0 j0 j0<|r_nil (eg [31,32,33] 3 j0 j0 j0 j0)) (fun hb=>(sm (bF hb q31)).symm)<|r_nil (eg [28,29,30,31,32,33,34] 4 j0 j0 j0 j0)) (fun hb=>(sm (bT hb q32)).symm)<|u<|asg j0<|r_nil ?_
    refine sw_ret ?_
    obtain rfl:=sm h
    exact ⟨_,j0,[],ci j0,j0,j5,j0,j1⟩
   ·
    replace h:=bF hc27 h
    refine rg j0<|u<|mv j0<|u<|mv j0<|u<|seq ti9 j0 j0<|u<|asg j0<|r_nil ?_
    refine sw_cond j0 (fun hc33=>?_) (fun hc33=>?_)
    ·
     replace h:=bT hc33 h
     obtain ⟨v20,q34,h⟩:=bs h
     refine rg j0<|u<|mv j0<|u<|mv j0<|u<|pc (ref7_Hier_There_s2_ok v4.L v2 q34) j0 j0 j0<|u<|asg j0<|r_nil ?_
     refine sw_ret ?_
     obtain rfl:=sm h
     exact ⟨_,j0,[],ci j0,j0,j5,j0,j1⟩
    ·
     replace h:=bF hc33 h
     obtain ⟨v22,q38,h⟩:=bs h
     obtain ⟨v24,q41,h⟩:=bs h
     refine rg j0<|u<|mv j0<|u<|seq ti9 j0 j0<|u<|mv j0<|r_or (j:=2) 2 j0 j0 j0 j0 j0 gpn (fun hb35=>g j0 hb35<|mv j0<|g j0 hb35<|seq ti9 j0 j0<|r_nil (egO [47,48] 2 hb35 j0 j0 j0 j0)) orT<|u<|mv j0<|r_or (x:=v22) (j:=6) 4 j0 j0 j0 j0 j0 gpn (fun hb36=>by replace q38:=bF hb36 q38; obtain ⟨v21,q37,q38⟩:=bs q38; obtain rfl:=sm q38; exact g j0 hb36<|mv j0<|g j0 hb36<|mv j0<|g j0 hb36<|pc (ref7_Hier_There_s2_ok v4.L v2 q37) j0 j0 j0<|g j0 hb36<|nt j0<|r_nil (eg [51,52,53,54] 4 j0 j0 j0 j0)) (fun hb=>(sm (bT hb q38)).symm)<|u<|mv j0<|r_or (x:=v24) (j:=12) 4 j0 j0 j0 j0 j0 gpn (fun hb39=>by replace q41:=bF hb39 q41; obtain ⟨v23,q40,q41⟩:=bs q41; obtain rfl:=sm q41; exact g j0 hb39<|mv j0<|g j0 hb39<|mv j0<|g j0 hb39<|pc (ref7_Hier_There_s2_ok v4.L v3 q40) j0 j0 j0<|g j0 hb39<|nt j0<|r_nil (eg [57,58,59,60] 4 j0 j0 j0 j0)) (fun hb=>(sm (bT hb q41)).symm)<|u<|asg j0<|r_nil ?_
     refine sw_cond j0 (fun hc42=>?_) (fun hc42=>?_)
     ·
      replace h:=bT hc42 h
      refine rg j0<|u<|asg j0<|r_nil ?_
      refine sw_ret ?_
      obtain rfl:=sm h
      exact ⟨_,j0,[],ci j0,j0,j5,j0,j1⟩
     ·
      replace h:=bF hc42 h
      refine sw_skip ?_
      refine sw_seq ?_
      obtain ⟨v25,q43,h⟩:=bs h
      refine rg j0<|u<|mv j0<|u<|mv j0<|u<|pc (ref7_Hier_At_ok v4.L v3 q43) j0 j0 j0<|u<|asg j0<|r_nil ?_
      obtain ⟨v27,q46,h⟩:=bs h
      refine rg j0<|u<|mv j0<|u<|geq ti3 j0 j0<|u<|mv j0<|r_and (x:=v27) (j:=2) 8 j0 j0 j0 j0 j0 gpn (fun hb44=>by replace q46:=bT hb44 q46; obtain ⟨v26,q45,q46⟩:=bs q46; obtain rfl:=sm q46; exact g j0 hb44<|mv j0<|g j0 hb44<|nc j0 j0<|g j0 hb44<|fa ti51 j0 j0 j0<|g j0 hb44<|ld ti22 j0 j0<|g j0 hb44<|mv j0<|g j0 hb44<|ixI ti22 j0 ti42 j0 j0 j0 q45<|g j0 hb44<|fa ti42 j0 j0 j0<|g j0 hb44<|ldI ti4 j0 (idx_some q45).2.2 j0<|r_nil (eg [68,69,70,71,72,73,74,75] 8 j0 j0 j0 j0)) (fun hb=>(sm (bF hb q46)).symm)<|r_nil ?_
      refine sw_cond j0 (fun hc47=>?_) (fun hc47=>?_)
      ·
       replace h:=bT hc47 h
       refine rg j0<|u<|asg j0<|r_nil ?_
       refine sw_ret ?_
       obtain rfl:=sm h
       exact ⟨_,j0,[],ci j0,j0,j5,j0,j1⟩
      ·
       replace h:=bF hc47 h
       refine sw_skip ?_
       obtain ⟨v28,q48,h⟩:=bs h
       refine rg j0<|u<|mv j0<|u<|mv j0<|u<|mv j0<|u<|pc (ref7_Hier_Sub_s3_ok v4.L v2 v3 q48) j0 j0 j0<|u<|asg j0<|r_nil ?_
       refine sw_ret ?_
       obtain rfl:=sm h
       exact ⟨_,j0,[],ci j0,j0,j5,j0,j1⟩
def types_Fits_s2 (v1 : List UInt8) (v2 : List UInt8) : Option (Bool) :=
  cond ((!(types_There v1)) || (!(types_There v2))) (some false) (cond ((v2 == [84]) || (v1 == v2)) (some true) (cond (v1 == [78]) ((types_ref v2).bind fun v3=>some v3) ((types_ref v1).bind fun v4=>(cond (!v4) (some true) ((types_ref v2).bind fun v5=>some (!v5))).bind fun v6=>cond v6 (some false) ((hier_Hier_Class_s2 v2).bind fun v7=>(cond v7.1.Interface (some true) ((hier_Hier_Sub_s2 v1 v2).bind fun v8=>some v8)).bind fun v9=>some v9))))
theorem types_Fits_s2_ok (v1 : List UInt8) (v2 : List UInt8) {r : Bool} (h : types_Fits_s2 v1 v2 = some r) : PureC Tryz.prog 49 [.lit (.pointer none),sA v1,sA v2] (bA r):=by
 refine pure_fn Tryz.func49 j0 (by kernel_rfl) j0 j0 ?_
 unfold types_Fits_s2 at h
 refine rg j0<|u<|asg j0<|r_nil ?_
 refine sw_seq ?_
 refine sw_block ?_
 refine rg j0<|u<|mv j0<|u<|mv j0<|u<|pc (types_There_ok v1 j0) j0 j0 j0<|u<|nt j0<|u<|mv j0<|r_or (j:=4) 4 j0 j0 j0 j0 j0 gpn (fun hb1=>g j0 hb1<|mv j0<|g j0 hb1<|mv j0<|g j0 hb1<|pc (types_There_ok v2 j0) j0 j0 j0<|g j0 hb1<|nt j0<|r_nil (egO [15,16,17,18] 4 hb1 j0 j0 j0 j0)) orT<|u<|asg j0<|r_nil ?_
 refine sw_cond j0 (fun hc2=>?_) (fun hc2=>?_)
 ·
  replace h:=bT hc2 h
  refine rg j0<|u<|asg j0<|r_nil ?_
  refine sw_ret ?_
  obtain rfl:=sm h
  exact ⟨_,j0,[],ci j0,j0,j5,j0,j1⟩
 ·
  replace h:=bF hc2 h
  refine rg j0<|u<|mv j0<|u<|seq ti9 j0 j0<|u<|mv j0<|r_or (j:=2) 3 j0 j0 j0 j0 j0 gpn (fun hb3=>g j0 hb3<|mv j0<|g j0 hb3<|mv j0<|g j0 hb3<|seq ti9 j0 j0<|r_nil (egO [24,25,26] 3 hb3 j0 j0 j0 j0)) orT<|u<|asg j0<|r_nil ?_
  refine sw_cond j0 (fun hc4=>?_) (fun hc4=>?_)
  ·
   replace h:=bT hc4 h
   refine rg j0<|u<|asg j0<|r_nil ?_
   refine sw_ret ?_
   obtain rfl:=sm h
   exact ⟨_,j0,[],ci j0,j0,j5,j0,j1⟩
  ·
   replace h:=bF hc4 h
   refine rg j0<|u<|mv j0<|u<|seq ti9 j0 j0<|u<|asg j0<|r_nil ?_
   refine sw_cond j0 (fun hc5=>?_) (fun hc5=>?_)
   ·
    replace h:=bT hc5 h
    obtain ⟨v3,q6,h⟩:=bs h
    refine rg j0<|u<|mv j0<|u<|mv j0<|u<|pc (types_ref_ok v2 q6) j0 j0 j0<|u<|asg j0<|r_nil ?_
    refine sw_ret ?_
    obtain rfl:=sm h
    exact ⟨_,j0,[],ci j0,j0,j5,j0,j1⟩
   ·
    replace h:=bF hc5 h
    obtain ⟨v4,q7,h⟩:=bs h
    obtain ⟨v6,q10,h⟩:=bs h
    refine rg j0<|u<|mv j0<|u<|mv j0<|u<|pc (types_ref_ok v1 q7) j0 j0 j0<|u<|nt j0<|u<|mv j0<|r_or (x:=v6) (j:=4) 4 j0 j0 j0 j0 j0 gpn (fun hb8=>by replace q10:=bF hb8 q10; obtain ⟨v5,q9,q10⟩:=bs q10; obtain rfl:=sm q10; exact g j0 hb8<|mv j0<|g j0 hb8<|mv j0<|g j0 hb8<|pc (types_ref_ok v2 q9) j0 j0 j0<|g j0 hb8<|nt j0<|r_nil (eg [40,41,42,43] 4 j0 j0 j0 j0)) (fun hb=>(sm (bT hb q10)).symm)<|u<|asg j0<|r_nil ?_
    refine sw_cond j0 (fun hc11=>?_) (fun hc11=>?_)
    ·
     replace h:=bT hc11 h
     refine rg j0<|u<|asg j0<|r_nil ?_
     refine sw_ret ?_
     obtain rfl:=sm h
     exact ⟨_,j0,[],ci j0,j0,j5,j0,j1⟩
    ·
     replace h:=bF hc11 h
     refine sw_skip ?_
     obtain ⟨v7,q12,h⟩:=bs h
     refine rg j0<|u<|mv j0<|u<|mv j0<|u<|pc (hier_Hier_Class_s2_ok v2 q12) j0 j0 j0<|u<|mv j0<|u<|ex j0 j0<|u<|ex j0 j0<|u<|al 0 ti42 j0<|u<|sto ti42 j0 j0 j0<|u<|asg j0<|r_nil ?_
     obtain ⟨v9,q15,h⟩:=bs h
     refine rg j0<|u<|fa ti42 j0 j0 j0<|u<|ld ti4 j0 j0<|u<|mv j0<|r_or (x:=v9) (j:=2) 4 j0 j0 j0 j0 j0 gpn (fun hb13=>by replace q15:=bF hb13 q15; obtain ⟨v8,q14,q15⟩:=bs q15; obtain rfl:=sm q15; exact g j0 hb13<|mv j0<|g j0 hb13<|mv j0<|g j0 hb13<|mv j0<|g j0 hb13<|pc (hier_Hier_Sub_s2_ok v1 v2 q14) j0 j0 j0<|r_nil (eg [54,55,56,57] 4 j0 j0 j0 j0)) (fun hb=>(sm (bT hb q15)).symm)<|u<|asg j0<|r_nil ?_
     refine sw_ret ?_
     obtain rfl:=sm h
     exact ⟨_,j0,[],ci j0,j0,j5,j0,j1⟩
def types_Fits_s3 (v1 : List ApiClass) (v2 : List (List UInt8 × Int)) (v3 : List UInt8) (v4 : List UInt8) : Option (Bool) :=
  (types_There_s2 v1 v2 v3).bind fun v5=>(cond (!v5) (some true) ((types_There_s2 v1 v2 v4).bind fun v6=>some (!v6))).bind fun v7=>cond v7 (some false) (cond ((v4 == [84]) || (v3 == v4)) (some true) (cond (v3 == [78]) ((types_ref_s2 v1 v2 v4).bind fun v8=>some v8) ((types_ref_s2 v1 v2 v3).bind fun v9=>(cond (!v9) (some true) ((types_ref_s2 v1 v2 v4).bind fun v10=>some (!v10))).bind fun v11=>cond v11 (some false) ((hier_Hier_Class_s3 v1 v2 v4).bind fun v12=>(cond v12.1.Interface (some true) ((hier_Hier_Sub_s3 v1 v2 v3 v4).bind fun v13=>some v13)).bind fun v14=>some v14))))
theorem types_Fits_s3_ok (v1 : List ApiClass) (v2 : List (List UInt8 × Int)) (v3 : List UInt8) (v4 : List UInt8) {r : Bool} (h : types_Fits_s3 v1 v2 v3 v4 = some r) : PureC Tryz.prog 49 [.ipt 2 [[.isl 6 (List.map rApiClass v1),.imp (List.map (rKV (fun x=>iA x)) v2)]] 0 0,sA v3,sA v4] (bA r):=by
 refine pure_fn Tryz.func49 j0 (by kernel_rfl) j0 j0 ?_
 unfold types_Fits_s3 at h
 refine rg j0<|u<|asg j0<|r_nil ?_
 refine sw_seq ?_
 refine sw_block ?_
 obtain ⟨v5,q1,h⟩:=bs h
 obtain ⟨v7,q4,h⟩:=bs h
 refine rg j0<|u<|mv j0<|u<|mv j0<|u<|pc (types_There_s2_ok v1 v2 v3 q1) j0 j0 j0<|u<|nt j0<|u<|mv j0<|r_or (x:=v7) (j:=4) 4 j0 j0 j0 j0 j0 gpn (fun hb2=>by replace q4:=bF hb2 q4; obtain ⟨v6,q3,q4⟩:=bs q4; obtain rfl:=sm q4; exact g j0 hb2<|mv j0<|g j0 hb2<|mv j0<|g j0 hb2<|pc (types_There_s2_ok v1 v2 v4 q3) j0 j0 j0<|g j0 hb2<|nt j0<|r_nil (eg [15,16,17,18] 4 j0 j0 j0 j0)) (fun hb=>(sm (bT hb q4)).symm)<|u<|asg j0<|r_nil ?_
 refine sw_cond j0 (fun hc5=>?_) (fun hc5=>?_)
 ·
  replace h:=bT hc5 h
  refine rg j0<|u<|asg j0<|r_nil ?_
  refine sw_ret ?_
  obtain rfl:=sm h
  exact ⟨_,j0,[],ci j0,j0,j5,j0,j1⟩
 ·
  replace h:=bF hc5 h
  refine rg j0<|u<|mv j0<|u<|seq ti9 j0 j0<|u<|mv j0<|r_or (j:=2) 3 j0 j0 j0 j0 j0 gpn (fun hb6=>g j0 hb6<|mv j0<|g j0 hb6<|mv j0<|g j0 hb6<|seq ti9 j0 j0<|r_nil (egO [24,25,26] 3 hb6 j0 j0 j0 j0)) orT<|u<|asg j0<|r_nil ?_
  refine sw_cond j0 (fun hc7=>?_) (fun hc7=>?_)
  ·
   replace h:=bT hc7 h
   refine rg j0<|u<|asg j0<|r_nil ?_
   refine sw_ret ?_
   obtain rfl:=sm h
   exact ⟨_,j0,[],ci j0,j0,j5,j0,j1⟩
  ·
   replace h:=bF hc7 h
   refine rg j0<|u<|mv j0<|u<|seq ti9 j0 j0<|u<|asg j0<|r_nil ?_
   refine sw_cond j0 (fun hc8=>?_) (fun hc8=>?_)
   ·
    replace h:=bT hc8 h
    obtain ⟨v8,q9,h⟩:=bs h
    refine rg j0<|u<|mv j0<|u<|mv j0<|u<|pc (types_ref_s2_ok v1 v2 v4 q9) j0 j0 j0<|u<|asg j0<|r_nil ?_
    refine sw_ret ?_
    obtain rfl:=sm h
    exact ⟨_,j0,[],ci j0,j0,j5,j0,j1⟩
   ·
    replace h:=bF hc8 h
    obtain ⟨v9,q10,h⟩:=bs h
    obtain ⟨v11,q13,h⟩:=bs h
    refine rg j0<|u<|mv j0<|u<|mv j0<|u<|pc (types_ref_s2_ok v1 v2 v3 q10) j0 j0 j0<|u<|nt j0<|u<|mv j0<|r_or (x:=v11) (j:=4) 4 j0 j0 j0 j0 j0 gpn (fun hb11=>by replace q13:=bF hb11 q13; obtain ⟨v10,q12,q13⟩:=bs q13; obtain rfl:=sm q13; exact g j0 hb11<|mv j0<|g j0 hb11<|mv j0<|g j0 hb11<|pc (types_ref_s2_ok v1 v2 v4 q12) j0 j0 j0<|g j0 hb11<|nt j0<|r_nil (eg [40,41,42,43] 4 j0 j0 j0 j0)) (fun hb=>(sm (bT hb q13)).symm)<|u<|asg j0<|r_nil ?_
    refine sw_cond j0 (fun hc14=>?_) (fun hc14=>?_)
    ·
     replace h:=bT hc14 h
     refine rg j0<|u<|asg j0<|r_nil ?_
     refine sw_ret ?_
     obtain rfl:=sm h
     exact ⟨_,j0,[],ci j0,j0,j5,j0,j1⟩
    ·
     replace h:=bF hc14 h
     refine sw_skip ?_
     obtain ⟨v12,q15,h⟩:=bs h
     refine rg j0<|u<|mv j0<|u<|mv j0<|u<|pc (hier_Hier_Class_s3_ok v1 v2 v4 q15) j0 j0 j0<|u<|mv j0<|u<|ex j0 j0<|u<|ex j0 j0<|u<|al 0 ti42 j0<|u<|sto ti42 j0 j0 j0<|u<|asg j0<|r_nil ?_
     obtain ⟨v14,q18,h⟩:=bs h
     refine rg j0<|u<|fa ti42 j0 j0 j0<|u<|ld ti4 j0 j0<|u<|mv j0<|r_or (x:=v14) (j:=2) 4 j0 j0 j0 j0 j0 gpn (fun hb16=>by replace q18:=bF hb16 q18; obtain ⟨v13,q17,q18⟩:=bs q18; obtain rfl:=sm q18; exact g j0 hb16<|mv j0<|g j0 hb16<|mv j0<|g j0 hb16<|mv j0<|g j0 hb16<|pc (hier_Hier_Sub_s3_ok v1 v2 v3 v4 q17) j0 j0 j0<|r_nil (eg [54,55,56,57] 4 j0 j0 j0 j0)) (fun hb=>(sm (bT hb q18)).symm)<|u<|asg j0<|r_nil ?_
     refine sw_ret ?_
     obtain rfl:=sm h
     exact ⟨_,j0,[],ci j0,j0,j5,j0,j1⟩
def types_All_k2 : Option (Bool) :=
  some true
def types_All_l1 (v2 : List (List UInt8)) (v3 : List (List UInt8)) (v9 : Int) : Option (Sum (Int) (Sum (Unit) (Bool))) :=
  cond (decide (v9 < (List.length v2 : Int))) ((idx v2 v9).bind fun v10=>(idx v3 v9).bind fun v11=>(types_Fits_s2 v10 v11).bind fun v12=>cond (!v12) (some (.inr (.inr false))) (some (.inl (IntKind.i64.wrap (v9 + 1))))) (some (.inr (.inl ())))
def types_All_k4 : Option (Bool) :=
  some true
def types_All_l3 (v2 : List (List UInt8)) (v3 : List (List UInt8)) (v4 : HierHier) (v17 : Int) : Option (Sum (Int) (Sum (Unit) (Bool))) :=
  cond (decide (v17 < (List.length v2 : Int))) ((idx v2 v17).bind fun v18=>(idx v3 v17).bind fun v19=>(types_Fits_s3 v4.l v4.at_ v18 v19).bind fun v20=>cond (!v20) (some (.inr (.inr false))) (some (.inl (IntKind.i64.wrap (v17 + 1))))) (some (.inr (.inl ())))
def types_All (v1 : Option HierHier) (v2 : List (List UInt8)) (v3 : List (List UInt8)) : Option (Bool) :=
  optE v1 (cond (!((List.length v2 : Int) == (List.length v3 : Int))) (some false) ((loopP (fun z=>types_All_l1 v2 v3 z) 0).bind fun o=>leave o (fun b=>types_All_k2) some)) (fun v4=>cond (!((List.length v2 : Int) == (List.length v3 : Int))) (some false) ((loopP (fun z=>types_All_l3 v2 v3 v4 z) 0).bind fun o=>leave o (fun b=>types_All_k4) some))
theorem types_All_ok (v1 : Option HierHier) (v2 : List (List UInt8)) (v3 : List (List UInt8)) {r : Bool} (h : types_All v1 v2 v3 = some r) : PureC Tryz.prog 51 [optP 2 rHierHier v1,.isl 1 (List.map rStr v2),.isl 1 (List.map rStr v3)] (bA r):=by
 refine pure_fn Tryz.func51 j0 (by kernel_rfl) j0 j0 ?_
 unfold types_All at h
 rcases v1 with _ | v4
 ·
  replace h:=oeN h
  refine rg j0<|u<|asg j0<|r_nil ?_
  refine sw_seq ?_
  refine rg j0<|u<|mv j0<|u<|lnI ti32 j0 j0<|u<|mv j0<|u<|lnI ti32 j0 j0<|u<|neq ti3 j0 j0<|r_nil ?_
  refine sw_cond j0 (fun hc1=>?_) (fun hc1=>?_)
  ·
   replace h:=bT hc1 h
   refine rg j0<|u<|asg j0<|r_nil ?_
   refine sw_ret ?_
   obtain rfl:=sm h
   exact ⟨_,j0,[],ci j0,j0,j5,j0,j1⟩
  ·
   replace h:=bF hc1 h
   refine sw_skip ?_
   refine sw_seq ?_
   refine rg j0<|u<|mv j0<|u<|lnI ti32 j0 j0<|u<|mv j0<|r_nil ?_
   obtain ⟨o,ho,h⟩:=bs h
   refine sw_lpl (X:=Int) (B:=Unit) (R:=Bool) (fun z=>[(0,.lit (.pointer none)),(1,.isl 1 (List.map rStr v2)),(2,.isl 1 (List.map rStr v3)),(14,iA (List.length v2 : Int)),(15,iA z)]) (fun z=>[]) (fun b=>[]) (fun b=>[]) (fun r env st=>PostF Tryz.prog Tryz.f51 0 (bA r) [] env st) ho ⟨[],ce j0 j0<|ce j0 j0<|ce j0 j0<|ce j0 j0<|ce j0 j0<|cn,j0,j5,j0,j1⟩ ?_ ?_ ?_
   ·
    rintro v9 r h
    replace h : types_All_l1 v2 v3 v9 = some r:=h
    unfold types_All_l1 at h
    refine rg j0<|u<|lss ti3 j0 j0<|r_nil ?_
    refine sw_seq ?_
    refine sw_cond j0 (fun hc7=>?_) (fun hc7=>?_)
    ·
     replace h:=bT hc7 h
     refine sw_skip ?_
     refine sw_seq ?_
     refine sw_block ?_
     refine rg j0<|u<|mv j0<|u<|asg j0<|r_nil ?_
     obtain ⟨v10,q8,h⟩:=bs h
     obtain ⟨v11,q9,h⟩:=bs h
     obtain ⟨v12,q10,h⟩:=bs h
     refine rd [(0,.lit (.pointer none)),(1,.isl 1 (List.map rStr v2)),(2,.isl 1 (List.map rStr v3)),(14,iA (List.length v2 : Int)),(15,iA v9),(28,bA (!v12))] [] [] [10,9,8,7,6,5,4,3,2,1,0] [(28,bA (!v12)),(27,bA v12),(26,sA v11),(25,.ipt 1 (List.map rStr v3) (Int.toNat v9) 0),(24,iA v9),(23,.isl 1 (List.map rStr v3)),(22,sA v10),(21,.ipt 1 (List.map rStr v2) (Int.toNat v9) 0),(20,iA v9),(19,.isl 1 (List.map rStr v2)),(18,.lit (.pointer none))] 0 (by kernel_rfl) (by kernel_rfl) j0 (by kernel_rfl) (dt0 ⟨(fun _=>pa j0 j0 j0 j0 (nt j0<|j4)),(fun _=>pa j0 j0 j0 j0 (pc (types_Fits_s2_ok v10 v11 q10) j0 j0 j0<|j4)),(fun _=>pa j0 j0 j0 j0 (ldI ti9 j0 (idx_some q9).2.2 j0<|j4)),(fun _=>pa j0 j0 j0 j0 (ixI ti32 j0 ti9 j0 j0 j0 q9<|j4)),(fun _=>pa j0 j0 j0 j0 (mv j0<|j4)),(fun _=>pa j0 j0 j0 j0 (mv j0<|j4)),(fun _=>pa j0 j0 j0 j0 (ldI ti9 j0 (idx_some q8).2.2 j0<|j4)),(fun _=>pa j0 j0 j0 j0 (ixI ti32 j0 ti9 j0 j0 j0 q8<|j4)),(fun _=>pa j0 j0 j0 j0 (mv j0<|j4)),(fun _=>pa j0 j0 j0 j0 (mv j0<|j4)),(fun _=>pa j0 j0 j0 j0 (mv j0<|j4)),j5⟩ (by kernel_rfl) j0 ⟨[],ce j0 j0<|ce j0 j0<|ce j0 j0<|ce j0 j0<|ce j0 j0<|ce j0 j0<|cn,j0,j5,j0,j1⟩) ?_
     refine sw_cond j0 (fun hc11=>?_) (fun hc11=>?_)
     ·
      replace h:=bT hc11 h
      refine rg j0<|u<|asg j0<|r_nil ?_
      refine sw_ret ?_
      obtain rfl:=sm h
      exact ⟨_,j0,_,j0,[],ci j0,j0,j5,j0,j1⟩
     ·
      replace h:=bF hc11 h
      refine sw_skip ?_
      refine rl j0<|u<|add ti3 j0 j0<|u<|mv j0<|r_nil ?_
      obtain rfl:=sm h
      exact ⟨_,j0,[],ce j0 j0<|ce j0 j0<|ce j0 j0<|ce j0 j0<|ce j0 j0<|cn,j0,j5,j0,j1⟩
    ·
     replace h:=bF hc7 h
     refine sw_exit ?_
     obtain rfl:=sm h
     exact ⟨j0,_,j0,[],cn,j0,j5,j0,j1⟩
   ·
    rintro ⟨⟩ rfl
    replace h : types_All_k2 = some r:=h
    unfold types_All_k2 at h
    refine ow_intro ?_
    refine rg j0<|u<|asg j0<|r_nil ?_
    refine sw_ret ?_
    obtain rfl:=sm h
    exact ⟨_,j0,[],ci j0,j0,j5,j0,j1⟩
   ·
    rintro r' rfl env st hp
    obtain rfl:=sm h
    exact hp
 ·
  replace h:=oeS h
  refine rg j0<|u<|asg j0<|r_nil ?_
  refine sw_seq ?_
  refine rg j0<|u<|mv j0<|u<|lnI ti32 j0 j0<|u<|mv j0<|u<|lnI ti32 j0 j0<|u<|neq ti3 j0 j0<|r_nil ?_
  refine sw_cond j0 (fun hc12=>?_) (fun hc12=>?_)
  ·
   replace h:=bT hc12 h
   refine rg j0<|u<|asg j0<|r_nil ?_
   refine sw_ret ?_
   obtain rfl:=sm h
   exact ⟨_,j0,[],ci j0,j0,j5,j0,j1⟩
  ·
   replace h:=bF hc12 h
   refine sw_skip ?_
   refine sw_seq ?_
   refine rg j0<|u<|mv j0<|u<|lnI ti32 j0 j0<|u<|mv j0<|r_nil ?_
   obtain ⟨o,ho,h⟩:=bs h
   refine sw_lpl (X:=Int) (B:=Unit) (R:=Bool) (fun z=>[(0,.ipt 2 [[.isl 6 (List.map rApiClass v4.l),.imp (List.map (rKV (fun x=>iA x)) v4.at_)]] 0 0),(1,.isl 1 (List.map rStr v2)),(2,.isl 1 (List.map rStr v3)),(14,iA (List.length v2 : Int)),(15,iA z)]) (fun z=>[]) (fun b=>[]) (fun b=>[]) (fun r env st=>PostF Tryz.prog Tryz.f51 0 (bA r) [] env st) ho ⟨[],ce j0 j0<|ce j0 j0<|ce j0 j0<|ce j0 j0<|ce j0 j0<|cn,j0,j5,j0,j1⟩ ?_ ?_ ?_
   ·
    rintro v17 r h
    replace h : types_All_l3 v2 v3 v4 v17 = some r:=h
    unfold types_All_l3 at h
    refine rg j0<|u<|lss ti3 j0 j0<|r_nil ?_
    refine sw_seq ?_
    refine sw_cond j0 (fun hc18=>?_) (fun hc18=>?_)
    ·
     replace h:=bT hc18 h
     refine sw_skip ?_
     refine sw_seq ?_
     refine sw_block ?_
     refine rg j0<|u<|mv j0<|u<|asg j0<|r_nil ?_
     obtain ⟨v18,q19,h⟩:=bs h
     obtain ⟨v19,q20,h⟩:=bs h
     obtain ⟨v20,q21,h⟩:=bs h
     refine rd [(0,.ipt 2 [[.isl 6 (List.map rApiClass v4.l),.imp (List.map (rKV (fun x=>iA x)) v4.at_)]] 0 0),(1,.isl 1 (List.map rStr v2)),(2,.isl 1 (List.map rStr v3)),(14,iA (List.length v2 : Int)),(15,iA v17),(28,bA (!v20))] [] [] [10,9,8,7,6,5,4,3,2,1,0] [(28,bA (!v20)),(27,bA v20),(26,sA v19),(25,.ipt 1 (List.map rStr v3) (Int.toNat v17) 0),(24,iA v17),(23,.isl 1 (List.map rStr v3)),(22,sA v18),(21,.ipt 1 (List.map rStr v2) (Int.toNat v17) 0),(20,iA v17),(19,.isl 1 (List.map rStr v2)),(18,.ipt 2 [[.isl 6 (List.map rApiClass v4.l),.imp (List.map (rKV (fun x=>iA x)) v4.at_)]] 0 0)] 0 (by kernel_rfl) (by kernel_rfl) j0 (by kernel_rfl) (dt0 ⟨(fun _=>pa j0 j0 j0 j0 (nt j0<|j4)),(fun _=>pa j0 j0 j0 j0 (pc (types_Fits_s3_ok v4.l v4.at_ v18 v19 q21) j0 j0 j0<|j4)),(fun _=>pa j0 j0 j0 j0 (ldI ti9 j0 (idx_some q20).2.2 j0<|j4)),(fun _=>pa j0 j0 j0 j0 (ixI ti32 j0 ti9 j0 j0 j0 q20<|j4)),(fun _=>pa j0 j0 j0 j0 (mv j0<|j4)),(fun _=>pa j0 j0 j0 j0 (mv j0<|j4)),(fun _=>pa j0 j0 j0 j0 (ldI ti9 j0 (idx_some q19).2.2 j0<|j4)),(fun _=>pa j0 j0 j0 j0 (ixI ti32 j0 ti9 j0 j0 j0 q19<|j4)),(fun _=>pa j0 j0 j0 j0 (mv j0<|j4)),(fun _=>pa j0 j0 j0 j0 (mv j0<|j4)),(fun _=>pa j0 j0 j0 j0 (mv j0<|j4)),j5⟩ (by kernel_rfl) j0 ⟨[],ce j0 j0<|ce j0 j0<|ce j0 j0<|ce j0 j0<|ce j0 j0<|ce j0 j0<|cn,j0,j5,j0,j1⟩) ?_
     refine sw_cond j0 (fun hc22=>?_) (fun hc22=>?_)
     ·
      replace h:=bT hc22 h
      refine rg j0<|u<|asg j0<|r_nil ?_
      refine sw_ret ?_
      obtain rfl:=sm h
      exact ⟨_,j0,_,j0,[],ci j0,j0,j5,j0,j1⟩
     ·
      replace h:=bF hc22 h
      refine sw_skip ?_
      refine rl j0<|u<|add ti3 j0 j0<|u<|mv j0<|r_nil ?_
      obtain rfl:=sm h
      exact ⟨_,j0,[],ce j0 j0<|ce j0 j0<|ce j0 j0<|ce j0 j0<|ce j0 j0<|cn,j0,j5,j0,j1⟩
    ·
     replace h:=bF hc18 h
     refine sw_exit ?_
     obtain rfl:=sm h
     exact ⟨j0,_,j0,[],cn,j0,j5,j0,j1⟩
   ·
    rintro ⟨⟩ rfl
    replace h : types_All_k4 = some r:=h
    unfold types_All_k4 at h
    refine ow_intro ?_
    refine rg j0<|u<|asg j0<|r_nil ?_
    refine sw_ret ?_
    obtain rfl:=sm h
    exact ⟨_,j0,[],ci j0,j0,j5,j0,j1⟩
   ·
    rintro r' rfl env st hp
    obtain rfl:=sm h
    exact hp
def ref7_Hier_Fits_s2 (v1 : List UInt8) (v2 : List UInt8) : Option (Bool) :=
  cond (v2 == [84]) ((cond ((v1 == [84]) || (v1 == [78])) (some true) ((ref7_Hier_There v1).bind fun v3=>some v3)).bind fun v4=>some v4) (cond (v1 == [78]) ((cond (v2 == [78]) (some true) ((cond (!(v2 == [73])) ((ref7_Hier_There v2).bind fun v5=>some v5) (some false)).bind fun v6=>some v6)).bind fun v7=>some v7) (cond (v1 == v2) ((ref7_Hier_There v1).bind fun v8=>some v8) ((cond ((v1 == [73]) || (v2 == [73])) (some true) ((ref7_Hier_There v1).bind fun v9=>some (!v9))).bind fun v10=>(cond v10 (some true) ((ref7_Hier_There v2).bind fun v11=>some (!v11))).bind fun v12=>cond v12 (some false) (none))))
theorem ref7_Hier_Fits_s2_ok (v1 : List UInt8) (v2 : List UInt8) {r : Bool} (h : ref7_Hier_Fits_s2 v1 v2 = some r) : PureC Tryz.prog 50 [.lit (.pointer none),sA v1,sA v2] (bA r):=by
 refine pure_fn Tryz.func50 j0 (by kernel_rfl) j0 j0 ?_
 unfold ref7_Hier_Fits_s2 at h
 refine rg j0<|u<|asg j0<|r_nil ?_
 refine sw_seq ?_
 refine sw_block ?_
 refine rg j0<|u<|mv j0<|u<|seq ti9 j0 j0<|u<|asg j0<|r_nil ?_
 refine sw_cond j0 (fun hc1=>?_) (fun hc1=>?_)
 ·
  replace h:=bT hc1 h
  obtain ⟨v4,q5,h⟩:=bs h
  refine rg j0<|u<|mv j0<|u<|seq ti9 j0 j0<|u<|mv j0<|r_or (j:=2) 2 j0 j0 j0 j0 j0 gpn (fun hb2=>g j0 hb2<|mv j0<|g j0 hb2<|seq ti9 j0 j0<|r_nil (egO [14,15] 2 hb2 j0 j0 j0 j0)) orT<|u<|mv j0<|r_or (x:=v4) (j:=6) 3 j0 j0 j0 j0 j0 gpn (fun hb3=>by replace q5:=bF hb3 q5; obtain ⟨v3,q4,q5⟩:=bs q5; obtain rfl:=sm q5; exact g j0 hb3<|mv j0<|g j0 hb3<|mv j0<|g j0 hb3<|pc (ref7_Hier_There_ok v1 q4) j0 j0 j0<|r_nil (eg [18,19,20] 3 j0 j0 j0 j0)) (fun hb=>(sm (bT hb q5)).symm)<|u<|asg j0<|r_nil ?_
  refine sw_ret ?_
  obtain rfl:=sm h
  exact ⟨_,j0,[],ci j0,j0,j5,j0,j1⟩
 ·
  replace h:=bF hc1 h
  refine rg j0<|u<|mv j0<|u<|seq ti9 j0 j0<|u<|asg j0<|r_nil ?_
  refine sw_cond j0 (fun hc6=>?_) (fun hc6=>?_)
  ·
   replace h:=bT hc6 h
   obtain ⟨v7,q11,h⟩:=bs h
   refine rg j0<|u<|mv j0<|u<|seq ti9 j0 j0<|u<|mv j0<|r_or (x:=v7) (j:=2) 7 j0 j0 j0 j0 j0 gpn (fun hb7=>by replace q11:=bF hb7 q11; obtain ⟨v6,q10,q11⟩:=bs q11; obtain rfl:=sm q11; exact g j0 hb7<|mv j0<|g j0 hb7<|sne ti9 j0 j0<|g j0 hb7<|mv j0<|r_and (x:=v6) (j:=5) 3 j0 j0 j0 j0 j0 (gps j0 j0 hb7) (fun hb8=>by replace q10:=bT hb8 q10; obtain ⟨v5,q9,q10⟩:=bs q10; obtain rfl:=sm q10; exact g j0 hb8<|mv j0<|g j0 hb8<|mv j0<|g j0 hb8<|pc (ref7_Hier_There_ok v2 q9) j0 j0 j0<|r_nil (eg [31,32,33] 3 j0 j0 j0 j0)) (fun hb=>(sm (bF hb q10)).symm)<|r_nil (eg [28,29,30,31,32,33,34] 4 j0 j0 j0 j0)) (fun hb=>(sm (bT hb q11)).symm)<|u<|asg j0<|r_nil ?_
   refine sw_ret ?_
   obtain rfl:=sm h
   exact ⟨_,j0,[],ci j0,j0,j5,j0,j1⟩
  ·
   replace h:=bF hc6 h
   refine rg j0<|u<|mv j0<|u<|mv j0<|u<|seq ti9 j0 j0<|u<|asg j0<|r_nil ?_
   refine sw_cond j0 (fun hc12=>?_) (fun hc12=>?_)
   ·
    replace h:=bT hc12 h
    obtain ⟨v8,q13,h⟩:=bs h
    refine rg j0<|u<|mv j0<|u<|mv j0<|u<|pc (ref7_Hier_There_ok v1 q13) j0 j0 j0<|u<|asg j0<|r_nil ?_
    refine sw_ret ?_
    obtain rfl:=sm h
    exact ⟨_,j0,[],ci j0,j0,j5,j0,j1⟩
   ·
    replace h:=bF hc12 h
    obtain ⟨v10,q17,h⟩:=bs h
    obtain ⟨v12,q20,h⟩:=bs h
    refine rg j0<|u<|mv j0<|u<|seq ti9 j0 j0<|u<|mv j0<|r_or (j:=2) 2 j0 j0 j0 j0 j0 gpn (fun hb14=>g j0 hb14<|mv j0<|g j0 hb14<|seq ti9 j0 j0<|r_nil (egO [47,48] 2 hb14 j0 j0 j0 j0)) orT<|u<|mv j0<|r_or (x:=v10) (j:=6) 4 j0 j0 j0 j0 j0 gpn (fun hb15=>by replace q17:=bF hb15 q17; obtain ⟨v9,q16,q17⟩:=bs q17; obtain rfl:=sm q17; exact g j0 hb15<|mv j0<|g j0 hb15<|mv j0<|g j0 hb15<|pc (ref7_Hier_There_ok v1 q16) j0 j0 j0<|g j0 hb15<|nt j0<|r_nil (eg [51,52,53,54] 4 j0 j0 j0 j0)) (fun hb=>(sm (bT hb q17)).symm)<|u<|mv j0<|r_or (x:=v12) (j:=12) 4 j0 j0 j0 j0 j0 gpn (fun hb18=>by replace q20:=bF hb18 q20; obtain ⟨v11,q19,q20⟩:=bs q20; obtain rfl:=sm q20; exact g j0 hb18<|mv j0<|g j0 hb18<|mv j0<|g j0 hb18<|pc (ref7_Hier_There_ok v2 q19) j0 j0 j0<|g j0 hb18<|nt j0<|r_nil (eg [57,58,59,60] 4 j0 j0 j0 j0)) (fun hb=>(sm (bT hb q20)).symm)<|u<|asg j0<|r_nil ?_
    refine sw_cond j0 (fun hc21=>?_) (fun hc21=>?_)
    ·
     replace h:=bT hc21 h
     refine rg j0<|u<|asg j0<|r_nil ?_
     refine sw_ret ?_
     obtain rfl:=sm h
     exact ⟨_,j0,[],ci j0,j0,j5,j0,j1⟩
    ·
     replace h:=bF hc21 h
     refine sw_skip ?_
     refine sw_seq ?_
     cases h
def ref7_Hier_Fits_s3 (v1 : List ApiClass) (v2 : List UInt8) (v3 : List UInt8) : Option (Bool) :=
  cond (v3 == [84]) ((cond ((v2 == [84]) || (v2 == [78])) (some true) ((ref7_Hier_There_s2 v1 v2).bind fun v4=>some v4)).bind fun v5=>some v5) (cond (v2 == [78]) ((cond (v3 == [78]) (some true) ((cond (!(v3 == [73])) ((ref7_Hier_There_s2 v1 v3).bind fun v6=>some v6) (some false)).bind fun v7=>some v7)).bind fun v8=>some v8) (cond (v2 == v3) ((ref7_Hier_There_s2 v1 v2).bind fun v9=>some v9) ((cond ((v2 == [73]) || (v3 == [73])) (some true) ((ref7_Hier_There_s2 v1 v2).bind fun v10=>some (!v10))).bind fun v11=>(cond v11 (some true) ((ref7_Hier_There_s2 v1 v3).bind fun v12=>some (!v12))).bind fun v13=>cond v13 (some false) ((ref7_Hier_At v1 v3).bind fun v14=>(cond (decide (0 ≤ v14)) ((idx v1 v14).bind fun v15=>some v15.Interface) (some false)).bind fun v16=>cond v16 (some true) ((ref7_Hier_Sub_s3 v1 v2 v3).bind fun v17=>some v17)))))
theorem ref7_Hier_Fits_s3_ok (v1 : List ApiClass) (v2 : List UInt8) (v3 : List UInt8) {r : Bool} (h : ref7_Hier_Fits_s3 v1 v2 v3 = some r) : PureC Tryz.prog 50 [.ipt 1 [[.isl 6 (List.map rApiClass v1)]] 0 0,sA v2,sA v3] (bA r):=by
 refine pure_fn Tryz.func50 j0 (by kernel_rfl) j0 j0 ?_
 unfold ref7_Hier_Fits_s3 at h
 refine rg j0<|u<|asg j0<|r_nil ?_
 refine sw_seq ?_
 refine sw_block ?_
 refine rg j0<|u<|mv j0<|u<|seq ti9 j0 j0<|u<|asg j0<|r_nil ?_
 refine sw_cond j0 (fun hc1=>?_) (fun hc1=>?_)
 ·
  replace h:=bT hc1 h
  obtain ⟨v5,q5,h⟩:=bs h
  refine rg j0<|u<|mv j0<|u<|seq ti9 j0 j0<|u<|mv j0<|r_or (j:=2) 2 j0 j0 j0 j0 j0 gpn (fun hb2=>g j0 hb2<|mv j0<|g j0 hb2<|seq ti9 j0 j0<|r_nil (egO [14,15] 2 hb2 j0 j0 j0 j0)) orT<|u<|mv j0<|r_or (x:=v5) (j:=6) 3 j0 j0 j0 j0 j0 gpn (fun hb3=>by replace q5:=bF hb3 q5; obtain ⟨v4,q4,q5⟩:=bs q5; obtain rfl:=sm q5; exact g j0 hb3<|mv j0<|g j0 hb3<|mv j0<|g j0 hb3<|pc (ref7_Hier_There_s2_ok v1 v2 q4) j0 j0 j0<|r_nil (eg [18,19,20] 3 j0 j0 j0 j0)) (fun hb=>(sm (bT hb q5)).symm)<|u<|asg j0<|r_nil ?_
  refine sw_ret ?_
  obtain rfl:=sm h
  exact ⟨_,j0,[],ci j0,j0,j5,j0,j1⟩
 ·
  replace h:=bF hc1 h
  refine rg j0<|u<|mv j0<|u<|seq ti9 j0 j0<|u<|asg j0<|r_nil ?_
  refine sw_cond j0 (fun hc6=>?_) (fun hc6=>?_)
  ·
   replace h:=bT hc6 h
   obtain ⟨v8,q11,h⟩:=bs h
   refine rg j0<|u<|mv j0<|u<|seq ti9 j0 j0<|u<|mv j0<|r_or (x:=v8) (j:=2) 7 j0 j0 j0 j0 j0 gpn (fun hb7=>by replace q11:=bF hb7 q11; obtain ⟨v7,q10,q11⟩:=bs q11; obtain rfl:=sm q11; exact g j0 hb7<|mv j0<|g j0 hb7<|sne ti9 j0 j0<|g j0 hb7<|mv j0<|r_and (x:=v7) (j:=5) 3 j0 j0 j0 j0 j0 (gps j0 j0 hb7) (fun hb8=>by replace q10:=bT hb8 q10; obtain ⟨v6,q9,q10⟩:=bs q10; obtain rfl:=sm q10; exact g j0 hb8<|mv j0<|g j0 hb8<|mv j0<|g j0 hb8<|pc (ref7_Hier_There_s2_ok v1 v3 q9) j0 j0 j0<|r_nil (eg [31,32,33] 3 j0 j0 j0 j0)) (fun hb=>(sm (bF hb q10)).symm)<|r_nil (eg [28,29,30,31,32,33,34] 4 j0 j0 j0 j0)) (fun hb=>(sm (bT hb q11)).symm)<|u<|asg j0<|r_nil ?_
   refine sw_ret ?_
   obtain rfl:=sm h
   exact ⟨_,j0,[],ci j0,j0,j5,j0,j1⟩
  ·
   replace h:=bF hc6 h
   refine rg j0<|u<|mv j0<|u<|mv j0<|u<|seq ti9 j0 j0<|u<|asg j0<|r_nil ?_
   refine sw_cond j0 (fun hc12=>?_) (fun hc12=>?_)
   ·
    replace h:=bT hc12 h
    obtain ⟨v9,q13,h⟩:=bs h
    refine rg j0<|u<|mv j0<|u<|mv j0<|u<|pc (ref7_Hier_There_s2_ok v1 v2 q13) j0 j0 j0<|u<|asg j0<|r_nil ?_
    refine sw_ret ?_
    obtain rfl:=sm h
    exact ⟨_,j0,[],ci j0,j0,j5,j0,j1⟩
   ·
    replace h:=bF hc12 h
    obtain ⟨v11,q17,h⟩:=bs h
    obtain ⟨v13,q20,h⟩:=bs h
    refine rg j0<|u<|mv j0<|u<|seq ti9 j0 j0<|u<|mv j0<|r_or (j:=2) 2 j0 j0 j0 j0 j0 gpn (fun hb14=>g j0 hb14<|mv j0<|g j0 hb14<|seq ti9 j0 j0<|r_nil (egO [47,48] 2 hb14 j0 j0 j0 j0)) orT<|u<|mv j0<|r_or (x:=v11) (j:=6) 4 j0 j0 j0 j0 j0 gpn (fun hb15=>by replace q17:=bF hb15 q17; obtain ⟨v10,q16,q17⟩:=bs q17; obtain rfl:=sm q17; exact g j0 hb15<|mv j0<|g j0 hb15<|mv j0<|g j0 hb15<|pc (ref7_Hier_There_s2_ok v1 v2 q16) j0 j0 j0<|g j0 hb15<|nt j0<|r_nil (eg [51,52,53,54] 4 j0 j0 j0 j0)) (fun hb=>(sm (bT hb q17)).symm)<|u<|mv j0<|r_or (x:=v13) (j:=12) 4 j0 j0 j0 j0 j0 gpn (fun hb18=>by replace q20:=bF hb18 q20; obtain ⟨v12,q19,q20⟩:=bs q20; obtain rfl:=sm q20; exact g j0 hb18<|mv j0<|g j0 hb18<|mv j0<|g j0 hb18<|pc (ref7_Hier_There_s2_ok v1 v3 q19) j0 j0 j0<|g j0 hb18<|nt j0<|r_nil (eg [57,58,59,60] 4 j0 j0 j0 j0)) (fun hb=>(sm (bT hb q20)).symm)<|u<|asg j0<|r_nil ?_
    refine sw_cond j0 (fun hc21=>?_) (fun hc21=>?_)
    ·
     replace h:=bT hc21 h
     refine rg j0<|u<|asg j0<|r_nil ?_
     refine sw_ret ?_
     obtain rfl:=sm h
     exact ⟨_,j0,[],ci j0,j0,j5,j0,j1⟩
    ·
     replace h:=bF hc21 h
     refine sw_skip ?_
     refine sw_seq ?_
     obtain ⟨v14,q22,h⟩:=bs h
     refine rg j0<|u<|mv j0<|u<|mv j0<|u<|pc (ref7_Hier_At_ok v1 v3 q22) j0 j0 j0<|u<|asg j0<|r_nil ?_
     obtain ⟨v16,q25,h⟩:=bs h
     refine rg j0<|u<|mv j0<|u<|geq ti3 j0 j0<|u<|mv j0<|r_and (x:=v16) (j:=2) 8 j0 j0 j0 j0 j0 gpn (fun hb23=>by replace q25:=bT hb23 q25; obtain ⟨v15,q24,q25⟩:=bs q25; obtain rfl:=sm q25; exact g j0 hb23<|mv j0<|g j0 hb23<|nc j0 j0<|g j0 hb23<|fa ti51 j0 j0 j0<|g j0 hb23<|ld ti22 j0 j0<|g j0 hb23<|mv j0<|g j0 hb23<|ixI ti22 j0 ti42 j0 j0 j0 q24<|g j0 hb23<|fa ti42 j0 j0 j0<|g j0 hb23<|ldI ti4 j0 (idx_some q24).2.2 j0<|r_nil (eg [68,69,70,71,72,73,74,75] 8 j0 j0 j0 j0)) (fun hb=>(sm (bF hb q25)).symm)<|r_nil ?_
     refine sw_cond j0 (fun hc26=>?_) (fun hc26=>?_)
     ·
      replace h:=bT hc26 h
      refine rg j0<|u<|asg j0<|r_nil ?_
      refine sw_ret ?_
      obtain rfl:=sm h
      exact ⟨_,j0,[],ci j0,j0,j5,j0,j1⟩
     ·
      replace h:=bF hc26 h
      refine sw_skip ?_
      obtain ⟨v17,q27,h⟩:=bs h
      refine rg j0<|u<|mv j0<|u<|mv j0<|u<|mv j0<|u<|pc (ref7_Hier_Sub_s3_ok v1 v2 v3 q27) j0 j0 j0<|u<|asg j0<|r_nil ?_
      refine sw_ret ?_
      obtain rfl:=sm h
      exact ⟨_,j0,[],ci j0,j0,j5,j0,j1⟩
def ref7_Hier_All_k2 : Option (Bool) :=
  some true
def ref7_Hier_All_l1 (v2 : List (List UInt8)) (v3 : List (List UInt8)) (v9 : Int) : Option (Sum (Int) (Sum (Unit) (Bool))) :=
  cond (decide (v9 < (List.length v2 : Int))) ((idx v2 v9).bind fun v10=>(idx v3 v9).bind fun v11=>(ref7_Hier_Fits_s2 v10 v11).bind fun v12=>cond (!v12) (some (.inr (.inr false))) (some (.inl (IntKind.i64.wrap (v9 + 1))))) (some (.inr (.inl ())))
def ref7_Hier_All_k4 : Option (Bool) :=
  some true
def ref7_Hier_All_l3 (v2 : List (List UInt8)) (v3 : List (List UInt8)) (v4 : Ref7Hier) (v17 : Int) : Option (Sum (Int) (Sum (Unit) (Bool))) :=
  cond (decide (v17 < (List.length v2 : Int))) ((idx v2 v17).bind fun v18=>(idx v3 v17).bind fun v19=>(ref7_Hier_Fits_s3 v4.L v18 v19).bind fun v20=>cond (!v20) (some (.inr (.inr false))) (some (.inl (IntKind.i64.wrap (v17 + 1))))) (some (.inr (.inl ())))
def ref7_Hier_All (v1 : Option Ref7Hier) (v2 : List (List UInt8)) (v3 : List (List UInt8)) : Option (Bool) :=
  optE v1 (cond (!((List.length v2 : Int) == (List.length v3 : Int))) (some false) ((loopP (fun z=>ref7_Hier_All_l1 v2 v3 z) 0).bind fun o=>leave o (fun b=>ref7_Hier_All_k2) some)) (fun v4=>cond (!((List.length v2 : Int) == (List.length v3 : Int))) (some false) ((loopP (fun z=>ref7_Hier_All_l3 v2 v3 v4 z) 0).bind fun o=>leave o (fun b=>ref7_Hier_All_k4) some))
theorem ref7_Hier_All_ok (v1 : Option Ref7Hier) (v2 : List (List UInt8)) (v3 : List (List UInt8)) {r : Bool} (h : ref7_Hier_All v1 v2 v3 = some r) : PureC Tryz.prog 52 [optP 1 rRef7Hier v1,.isl 1 (List.map rStr v2),.isl 1 (List.map rStr v3)] (bA r):=by
 refine pure_fn Tryz.func52 j0 (by kernel_rfl) j0 j0 ?_
 unfold ref7_Hier_All at h
 rcases v1 with _ | v4
 ·
  replace h:=oeN h
  refine rg j0<|u<|asg j0<|r_nil ?_
  refine sw_seq ?_
  refine rg j0<|u<|mv j0<|u<|lnI ti32 j0 j0<|u<|mv j0<|u<|lnI ti32 j0 j0<|u<|neq ti3 j0 j0<|r_nil ?_
  refine sw_cond j0 (fun hc1=>?_) (fun hc1=>?_)
  ·
   replace h:=bT hc1 h
   refine rg j0<|u<|asg j0<|r_nil ?_
   refine sw_ret ?_
   obtain rfl:=sm h
   exact ⟨_,j0,[],ci j0,j0,j5,j0,j1⟩
  ·
   replace h:=bF hc1 h
   refine sw_skip ?_
   refine sw_seq ?_
   refine rg j0<|u<|asg j0<|r_nil ?_
   obtain ⟨o,ho,h⟩:=bs h
   refine sw_lpl (X:=Int) (B:=Unit) (R:=Bool) (fun z=>[(0,.lit (.pointer none)),(1,.isl 1 (List.map rStr v2)),(2,.isl 1 (List.map rStr v3)),(7,iA z)]) (fun z=>[]) (fun b=>[]) (fun b=>[]) (fun r env st=>PostF Tryz.prog Tryz.f52 0 (bA r) [] env st) ho ⟨[],ce j0 j0<|ce j0 j0<|ce j0 j0<|ce j0 j0<|cn,j0,j5,j0,j1⟩ ?_ ?_ ?_
   ·
    rintro v9 r h
    replace h : ref7_Hier_All_l1 v2 v3 v9 = some r:=h
    unfold ref7_Hier_All_l1 at h
    refine sw_seq ?_
    refine rg j0<|u<|mv j0<|u<|mv j0<|u<|lnI ti32 j0 j0<|u<|lss ti3 j0 j0<|r_nil ?_
    refine sw_cond j0 (fun hc7=>?_) (fun hc7=>?_)
    ·
     replace h:=bT hc7 h
     refine sw_skip ?_
     refine sw_seq ?_
     refine sw_block ?_
     obtain ⟨v10,q8,h⟩:=bs h
     obtain ⟨v11,q9,h⟩:=bs h
     obtain ⟨v12,q10,h⟩:=bs h
     refine rd [(0,.lit (.pointer none)),(1,.isl 1 (List.map rStr v2)),(2,.isl 1 (List.map rStr v3)),(7,iA v9),(29,bA (!v12))] [] [] [10,9,8,7,6,5,4,3,2,1,0] [(29,bA (!v12)),(28,bA v12),(27,sA v11),(26,.ipt 1 (List.map rStr v3) (Int.toNat v9) 0),(25,iA v9),(24,.isl 1 (List.map rStr v3)),(23,sA v10),(22,.ipt 1 (List.map rStr v2) (Int.toNat v9) 0),(21,iA v9),(20,.isl 1 (List.map rStr v2)),(19,.lit (.pointer none))] 0 (by kernel_rfl) (by kernel_rfl) j0 (by kernel_rfl) (dt0 ⟨(fun _=>pa j0 j0 j0 j0 (nt j0<|j4)),(fun _=>pa j0 j0 j0 j0 (pc (ref7_Hier_Fits_s2_ok v10 v11 q10) j0 j0 j0<|j4)),(fun _=>pa j0 j0 j0 j0 (ldI ti9 j0 (idx_some q9).2.2 j0<|j4)),(fun _=>pa j0 j0 j0 j0 (ixI ti32 j0 ti9 j0 j0 j0 q9<|j4)),(fun _=>pa j0 j0 j0 j0 (mv j0<|j4)),(fun _=>pa j0 j0 j0 j0 (mv j0<|j4)),(fun _=>pa j0 j0 j0 j0 (ldI ti9 j0 (idx_some q8).2.2 j0<|j4)),(fun _=>pa j0 j0 j0 j0 (ixI ti32 j0 ti9 j0 j0 j0 q8<|j4)),(fun _=>pa j0 j0 j0 j0 (mv j0<|j4)),(fun _=>pa j0 j0 j0 j0 (mv j0<|j4)),(fun _=>pa j0 j0 j0 j0 (mv j0<|j4)),j5⟩ (by kernel_rfl) j0 ⟨[],ce j0 j0<|ce j0 j0<|ce j0 j0<|ce j0 j0<|ce j0 j0<|cn,j0,j5,j0,j1⟩) ?_
     refine sw_cond j0 (fun hc11=>?_) (fun hc11=>?_)
     ·
      replace h:=bT hc11 h
      refine rg j0<|u<|asg j0<|r_nil ?_
      refine sw_ret ?_
      obtain rfl:=sm h
      exact ⟨_,j0,_,j0,[],ci j0,j0,j5,j0,j1⟩
     ·
      replace h:=bF hc11 h
      refine sw_skip ?_
      refine rl j0<|u<|mv j0<|u<|add ti3 j0 j0<|u<|asg j0<|r_nil ?_
      obtain rfl:=sm h
      exact ⟨_,j0,[],ce j0 j0<|ce j0 j0<|ce j0 j0<|ce j0 j0<|cn,j0,j5,j0,j1⟩
    ·
     replace h:=bF hc7 h
     refine sw_exit ?_
     obtain rfl:=sm h
     exact ⟨j0,_,j0,[],cn,j0,j5,j0,j1⟩
   ·
    rintro ⟨⟩ rfl
    replace h : ref7_Hier_All_k2 = some r:=h
    unfold ref7_Hier_All_k2 at h
    refine ow_intro ?_
    refine rg j0<|u<|asg j0<|r_nil ?_
    refine sw_ret ?_
    obtain rfl:=sm h
    exact ⟨_,j0,[],ci j0,j0,j5,j0,j1⟩
   ·
    rintro r' rfl env st hp
    obtain rfl:=sm h
    exact hp
 ·
  replace h:=oeS h
  refine rg j0<|u<|asg j0<|r_nil ?_
  refine sw_seq ?_
  refine rg j0<|u<|mv j0<|u<|lnI ti32 j0 j0<|u<|mv j0<|u<|lnI ti32 j0 j0<|u<|neq ti3 j0 j0<|r_nil ?_
  refine sw_cond j0 (fun hc12=>?_) (fun hc12=>?_)
  ·
   replace h:=bT hc12 h
   refine rg j0<|u<|asg j0<|r_nil ?_
   refine sw_ret ?_
   obtain rfl:=sm h
   exact ⟨_,j0,[],ci j0,j0,j5,j0,j1⟩
  ·
   replace h:=bF hc12 h
   refine sw_skip ?_
   refine sw_seq ?_
   refine rg j0<|u<|asg j0<|r_nil ?_
   obtain ⟨o,ho,h⟩:=bs h
   refine sw_lpl (X:=Int) (B:=Unit) (R:=Bool) (fun z=>[(0,.ipt 1 [[.isl 6 (List.map rApiClass v4.L)]] 0 0),(1,.isl 1 (List.map rStr v2)),(2,.isl 1 (List.map rStr v3)),(7,iA z)]) (fun z=>[]) (fun b=>[]) (fun b=>[]) (fun r env st=>PostF Tryz.prog Tryz.f52 0 (bA r) [] env st) ho ⟨[],ce j0 j0<|ce j0 j0<|ce j0 j0<|ce j0 j0<|cn,j0,j5,j0,j1⟩ ?_ ?_ ?_
   ·
    rintro v17 r h
    replace h : ref7_Hier_All_l3 v2 v3 v4 v17 = some r:=h
    unfold ref7_Hier_All_l3 at h
    refine sw_seq ?_
    refine rg j0<|u<|mv j0<|u<|mv j0<|u<|lnI ti32 j0 j0<|u<|lss ti3 j0 j0<|r_nil ?_
    refine sw_cond j0 (fun hc18=>?_) (fun hc18=>?_)
    ·
     replace h:=bT hc18 h
     refine sw_skip ?_
     refine sw_seq ?_
     refine sw_block ?_
     obtain ⟨v18,q19,h⟩:=bs h
     obtain ⟨v19,q20,h⟩:=bs h
     obtain ⟨v20,q21,h⟩:=bs h
     refine rd [(0,.ipt 1 [[.isl 6 (List.map rApiClass v4.L)]] 0 0),(1,.isl 1 (List.map rStr v2)),(2,.isl 1 (List.map rStr v3)),(7,iA v17),(29,bA (!v20))] [] [] [10,9,8,7,6,5,4,3,2,1,0] [(29,bA (!v20)),(28,bA v20),(27,sA v19),(26,.ipt 1 (List.map rStr v3) (Int.toNat v17) 0),(25,iA v17),(24,.isl 1 (List.map rStr v3)),(23,sA v18),(22,.ipt 1 (List.map rStr v2) (Int.toNat v17) 0),(21,iA v17),(20,.isl 1 (List.map rStr v2)),(19,.ipt 1 [[.isl 6 (List.map rApiClass v4.L)]] 0 0)] 0 (by kernel_rfl) (by kernel_rfl) j0 (by kernel_rfl) (dt0 ⟨(fun _=>pa j0 j0 j0 j0 (nt j0<|j4)),(fun _=>pa j0 j0 j0 j0 (pc (ref7_Hier_Fits_s3_ok v4.L v18 v19 q21) j0 j0 j0<|j4)),(fun _=>pa j0 j0 j0 j0 (ldI ti9 j0 (idx_some q20).2.2 j0<|j4)),(fun _=>pa j0 j0 j0 j0 (ixI ti32 j0 ti9 j0 j0 j0 q20<|j4)),(fun _=>pa j0 j0 j0 j0 (mv j0<|j4)),(fun _=>pa j0 j0 j0 j0 (mv j0<|j4)),(fun _=>pa j0 j0 j0 j0 (ldI ti9 j0 (idx_some q19).2.2 j0<|j4)),(fun _=>pa j0 j0 j0 j0 (ixI ti32 j0 ti9 j0 j0 j0 q19<|j4)),(fun _=>pa j0 j0 j0 j0 (mv j0<|j4)),(fun _=>pa j0 j0 j0 j0 (mv j0<|j4)),(fun _=>pa j0 j0 j0 j0 (mv j0<|j4)),j5⟩ (by kernel_rfl) j0 ⟨[],ce j0 j0<|ce j0 j0<|ce j0 j0<|ce j0 j0<|ce j0 j0<|cn,j0,j5,j0,j1⟩) ?_
     refine sw_cond j0 (fun hc22=>?_) (fun hc22=>?_)
     ·
      replace h:=bT hc22 h
      refine rg j0<|u<|asg j0<|r_nil ?_
      refine sw_ret ?_
      obtain rfl:=sm h
      exact ⟨_,j0,_,j0,[],ci j0,j0,j5,j0,j1⟩
     ·
      replace h:=bF hc22 h
      refine sw_skip ?_
      refine rl j0<|u<|mv j0<|u<|add ti3 j0 j0<|u<|asg j0<|r_nil ?_
      obtain rfl:=sm h
      exact ⟨_,j0,[],ce j0 j0<|ce j0 j0<|ce j0 j0<|ce j0 j0<|cn,j0,j5,j0,j1⟩
    ·
     replace h:=bF hc18 h
     refine sw_exit ?_
     obtain rfl:=sm h
     exact ⟨j0,_,j0,[],cn,j0,j5,j0,j1⟩
   ·
    rintro ⟨⟩ rfl
    replace h : ref7_Hier_All_k4 = some r:=h
    unfold ref7_Hier_All_k4 at h
    refine ow_intro ?_
    refine rg j0<|u<|asg j0<|r_nil ?_
    refine sw_ret ?_
    obtain rfl:=sm h
    exact ⟨_,j0,[],ci j0,j0,j5,j0,j1⟩
   ·
    rintro r' rfl env st hp
    obtain rfl:=sm h
    exact hp
def types_All_s2_k2 : Option (Bool) :=
  some true
def types_All_s2_l1 (v1 : List (List UInt8)) (v2 : List (List UInt8)) (v7 : Int) : Option (Sum (Int) (Sum (Unit) (Bool))) :=
  cond (decide (v7 < (List.length v1 : Int))) ((idx v1 v7).bind fun v8=>(idx v2 v7).bind fun v9=>(types_Fits_s2 v8 v9).bind fun v10=>cond (!v10) (some (.inr (.inr false))) (some (.inl (IntKind.i64.wrap (v7 + 1))))) (some (.inr (.inl ())))
def types_All_s2 (v1 : List (List UInt8)) (v2 : List (List UInt8)) : Option (Bool) :=
  cond (!((List.length v1 : Int) == (List.length v2 : Int))) (some false) ((loopP (fun z=>types_All_s2_l1 v1 v2 z) 0).bind fun o=>leave o (fun b=>types_All_s2_k2) some)
theorem types_All_s2_ok (v1 : List (List UInt8)) (v2 : List (List UInt8)) {r : Bool} (h : types_All_s2 v1 v2 = some r) : PureC Tryz.prog 51 [.lit (.pointer none),.isl 1 (List.map rStr v1),.isl 1 (List.map rStr v2)] (bA r):=by
 refine pure_fn Tryz.func51 j0 (by kernel_rfl) j0 j0 ?_
 unfold types_All_s2 at h
 refine rg j0<|u<|asg j0<|r_nil ?_
 refine sw_seq ?_
 refine rg j0<|u<|mv j0<|u<|lnI ti32 j0 j0<|u<|mv j0<|u<|lnI ti32 j0 j0<|u<|neq ti3 j0 j0<|r_nil ?_
 refine sw_cond j0 (fun hc1=>?_) (fun hc1=>?_)
 ·
  replace h:=bT hc1 h
  refine rg j0<|u<|asg j0<|r_nil ?_
  refine sw_ret ?_
  obtain rfl:=sm h
  exact ⟨_,j0,[],ci j0,j0,j5,j0,j1⟩
 ·
  replace h:=bF hc1 h
  refine sw_skip ?_
  refine sw_seq ?_
  refine rg j0<|u<|mv j0<|u<|lnI ti32 j0 j0<|u<|mv j0<|r_nil ?_
  obtain ⟨o,ho,h⟩:=bs h
  refine sw_lpl (X:=Int) (B:=Unit) (R:=Bool) (fun z=>[(0,.lit (.pointer none)),(1,.isl 1 (List.map rStr v1)),(2,.isl 1 (List.map rStr v2)),(14,iA (List.length v1 : Int)),(15,iA z)]) (fun z=>[]) (fun b=>[]) (fun b=>[]) (fun r env st=>PostF Tryz.prog Tryz.f51 0 (bA r) [] env st) ho ⟨[],ce j0 j0<|ce j0 j0<|ce j0 j0<|ce j0 j0<|ce j0 j0<|cn,j0,j5,j0,j1⟩ ?_ ?_ ?_
  ·
   rintro v7 r h
   replace h : types_All_s2_l1 v1 v2 v7 = some r:=h
   unfold types_All_s2_l1 at h
   refine rg j0<|u<|lss ti3 j0 j0<|r_nil ?_
   refine sw_seq ?_
   refine sw_cond j0 (fun hc7=>?_) (fun hc7=>?_)
   ·
    replace h:=bT hc7 h
    refine sw_skip ?_
    refine sw_seq ?_
    refine sw_block ?_
    refine rg j0<|u<|mv j0<|u<|asg j0<|r_nil ?_
    obtain ⟨v8,q8,h⟩:=bs h
    obtain ⟨v9,q9,h⟩:=bs h
    obtain ⟨v10,q10,h⟩:=bs h
    refine rd [(0,.lit (.pointer none)),(1,.isl 1 (List.map rStr v1)),(2,.isl 1 (List.map rStr v2)),(14,iA (List.length v1 : Int)),(15,iA v7),(28,bA (!v10))] [] [] [10,9,8,7,6,5,4,3,2,1,0] [(28,bA (!v10)),(27,bA v10),(26,sA v9),(25,.ipt 1 (List.map rStr v2) (Int.toNat v7) 0),(24,iA v7),(23,.isl 1 (List.map rStr v2)),(22,sA v8),(21,.ipt 1 (List.map rStr v1) (Int.toNat v7) 0),(20,iA v7),(19,.isl 1 (List.map rStr v1)),(18,.lit (.pointer none))] 0 (by kernel_rfl) (by kernel_rfl) j0 (by kernel_rfl) (dt0 ⟨(fun _=>pa j0 j0 j0 j0 (nt j0<|j4)),(fun _=>pa j0 j0 j0 j0 (pc (types_Fits_s2_ok v8 v9 q10) j0 j0 j0<|j4)),(fun _=>pa j0 j0 j0 j0 (ldI ti9 j0 (idx_some q9).2.2 j0<|j4)),(fun _=>pa j0 j0 j0 j0 (ixI ti32 j0 ti9 j0 j0 j0 q9<|j4)),(fun _=>pa j0 j0 j0 j0 (mv j0<|j4)),(fun _=>pa j0 j0 j0 j0 (mv j0<|j4)),(fun _=>pa j0 j0 j0 j0 (ldI ti9 j0 (idx_some q8).2.2 j0<|j4)),(fun _=>pa j0 j0 j0 j0 (ixI ti32 j0 ti9 j0 j0 j0 q8<|j4)),(fun _=>pa j0 j0 j0 j0 (mv j0<|j4)),(fun _=>pa j0 j0 j0 j0 (mv j0<|j4)),(fun _=>pa j0 j0 j0 j0 (mv j0<|j4)),j5⟩ (by kernel_rfl) j0 ⟨[],ce j0 j0<|ce j0 j0<|ce j0 j0<|ce j0 j0<|ce j0 j0<|ce j0 j0<|cn,j0,j5,j0,j1⟩) ?_
    refine sw_cond j0 (fun hc11=>?_) (fun hc11=>?_)
    ·
     replace h:=bT hc11 h
     refine rg j0<|u<|asg j0<|r_nil ?_
     refine sw_ret ?_
     obtain rfl:=sm h
     exact ⟨_,j0,_,j0,[],ci j0,j0,j5,j0,j1⟩
    ·
     replace h:=bF hc11 h
     refine sw_skip ?_
     refine rl j0<|u<|add ti3 j0 j0<|u<|mv j0<|r_nil ?_
     obtain rfl:=sm h
     exact ⟨_,j0,[],ce j0 j0<|ce j0 j0<|ce j0 j0<|ce j0 j0<|ce j0 j0<|cn,j0,j5,j0,j1⟩
   ·
    replace h:=bF hc7 h
    refine sw_exit ?_
    obtain rfl:=sm h
    exact ⟨j0,_,j0,[],cn,j0,j5,j0,j1⟩
  ·
   rintro ⟨⟩ rfl
   replace h : types_All_s2_k2 = some r:=h
   unfold types_All_s2_k2 at h
   refine ow_intro ?_
   refine rg j0<|u<|asg j0<|r_nil ?_
   refine sw_ret ?_
   obtain rfl:=sm h
   exact ⟨_,j0,[],ci j0,j0,j5,j0,j1⟩
  ·
   rintro r' rfl env st hp
   obtain rfl:=sm h
   exact hp
def types_All_s3_k2 : Option (Bool) :=
  some true
def types_All_s3_l1 (v1 : List ApiClass) (v2 : List (List UInt8 × Int)) (v3 : List (List UInt8)) (v4 : List (List UInt8)) (v9 : Int) : Option (Sum (Int) (Sum (Unit) (Bool))) :=
  cond (decide (v9 < (List.length v3 : Int))) ((idx v3 v9).bind fun v10=>(idx v4 v9).bind fun v11=>(types_Fits_s3 v1 v2 v10 v11).bind fun v12=>cond (!v12) (some (.inr (.inr false))) (some (.inl (IntKind.i64.wrap (v9 + 1))))) (some (.inr (.inl ())))
def types_All_s3 (v1 : List ApiClass) (v2 : List (List UInt8 × Int)) (v3 : List (List UInt8)) (v4 : List (List UInt8)) : Option (Bool) :=
  cond (!((List.length v3 : Int) == (List.length v4 : Int))) (some false) ((loopP (fun z=>types_All_s3_l1 v1 v2 v3 v4 z) 0).bind fun o=>leave o (fun b=>types_All_s3_k2) some)
theorem types_All_s3_ok (v1 : List ApiClass) (v2 : List (List UInt8 × Int)) (v3 : List (List UInt8)) (v4 : List (List UInt8)) {r : Bool} (h : types_All_s3 v1 v2 v3 v4 = some r) : PureC Tryz.prog 51 [.ipt 2 [[.isl 6 (List.map rApiClass v1),.imp (List.map (rKV (fun x=>iA x)) v2)]] 0 0,.isl 1 (List.map rStr v3),.isl 1 (List.map rStr v4)] (bA r):=by
 refine pure_fn Tryz.func51 j0 (by kernel_rfl) j0 j0 ?_
 unfold types_All_s3 at h
 refine rg j0<|u<|asg j0<|r_nil ?_
 refine sw_seq ?_
 refine rg j0<|u<|mv j0<|u<|lnI ti32 j0 j0<|u<|mv j0<|u<|lnI ti32 j0 j0<|u<|neq ti3 j0 j0<|r_nil ?_
 refine sw_cond j0 (fun hc1=>?_) (fun hc1=>?_)
 ·
  replace h:=bT hc1 h
  refine rg j0<|u<|asg j0<|r_nil ?_
  refine sw_ret ?_
  obtain rfl:=sm h
  exact ⟨_,j0,[],ci j0,j0,j5,j0,j1⟩
 ·
  replace h:=bF hc1 h
  refine sw_skip ?_
  refine sw_seq ?_
  refine rg j0<|u<|mv j0<|u<|lnI ti32 j0 j0<|u<|mv j0<|r_nil ?_
  obtain ⟨o,ho,h⟩:=bs h
  refine sw_lpl (X:=Int) (B:=Unit) (R:=Bool) (fun z=>[(0,.ipt 2 [[.isl 6 (List.map rApiClass v1),.imp (List.map (rKV (fun x=>iA x)) v2)]] 0 0),(1,.isl 1 (List.map rStr v3)),(2,.isl 1 (List.map rStr v4)),(14,iA (List.length v3 : Int)),(15,iA z)]) (fun z=>[]) (fun b=>[]) (fun b=>[]) (fun r env st=>PostF Tryz.prog Tryz.f51 0 (bA r) [] env st) ho ⟨[],ce j0 j0<|ce j0 j0<|ce j0 j0<|ce j0 j0<|ce j0 j0<|cn,j0,j5,j0,j1⟩ ?_ ?_ ?_
  ·
   rintro v9 r h
   replace h : types_All_s3_l1 v1 v2 v3 v4 v9 = some r:=h
   unfold types_All_s3_l1 at h
   refine rg j0<|u<|lss ti3 j0 j0<|r_nil ?_
   refine sw_seq ?_
   refine sw_cond j0 (fun hc7=>?_) (fun hc7=>?_)
   ·
    replace h:=bT hc7 h
    refine sw_skip ?_
    refine sw_seq ?_
    refine sw_block ?_
    refine rg j0<|u<|mv j0<|u<|asg j0<|r_nil ?_
    obtain ⟨v10,q8,h⟩:=bs h
    obtain ⟨v11,q9,h⟩:=bs h
    obtain ⟨v12,q10,h⟩:=bs h
    refine rd [(0,.ipt 2 [[.isl 6 (List.map rApiClass v1),.imp (List.map (rKV (fun x=>iA x)) v2)]] 0 0),(1,.isl 1 (List.map rStr v3)),(2,.isl 1 (List.map rStr v4)),(14,iA (List.length v3 : Int)),(15,iA v9),(28,bA (!v12))] [] [] [10,9,8,7,6,5,4,3,2,1,0] [(28,bA (!v12)),(27,bA v12),(26,sA v11),(25,.ipt 1 (List.map rStr v4) (Int.toNat v9) 0),(24,iA v9),(23,.isl 1 (List.map rStr v4)),(22,sA v10),(21,.ipt 1 (List.map rStr v3) (Int.toNat v9) 0),(20,iA v9),(19,.isl 1 (List.map rStr v3)),(18,.ipt 2 [[.isl 6 (List.map rApiClass v1),.imp (List.map (rKV (fun x=>iA x)) v2)]] 0 0)] 0 (by kernel_rfl) (by kernel_rfl) j0 (by kernel_rfl) (dt0 ⟨(fun _=>pa j0 j0 j0 j0 (nt j0<|j4)),(fun _=>pa j0 j0 j0 j0 (pc (types_Fits_s3_ok v1 v2 v10 v11 q10) j0 j0 j0<|j4)),(fun _=>pa j0 j0 j0 j0 (ldI ti9 j0 (idx_some q9).2.2 j0<|j4)),(fun _=>pa j0 j0 j0 j0 (ixI ti32 j0 ti9 j0 j0 j0 q9<|j4)),(fun _=>pa j0 j0 j0 j0 (mv j0<|j4)),(fun _=>pa j0 j0 j0 j0 (mv j0<|j4)),(fun _=>pa j0 j0 j0 j0 (ldI ti9 j0 (idx_some q8).2.2 j0<|j4)),(fun _=>pa j0 j0 j0 j0 (ixI ti32 j0 ti9 j0 j0 j0 q8<|j4)),(fun _=>pa j0 j0 j0 j0 (mv j0<|j4)),(fun _=>pa j0 j0 j0 j0 (mv j0<|j4)),(fun _=>pa j0 j0 j0 j0 (mv j0<|j4)),j5⟩ (by kernel_rfl) j0 ⟨[],ce j0 j0<|ce j0 j0<|ce j0 j0<|ce j0 j0<|ce j0 j0<|ce j0 j0<|cn,j0,j5,j0,j1⟩) ?_
    refine sw_cond j0 (fun hc11=>?_) (fun hc11=>?_)
    ·
     replace h:=bT hc11 h
     refine rg j0<|u<|asg j0<|r_nil ?_
     refine sw_ret ?_
     obtain rfl:=sm h
     exact ⟨_,j0,_,j0,[],ci j0,j0,j5,j0,j1⟩
    ·
     replace h:=bF hc11 h
     refine sw_skip ?_
     refine rl j0<|u<|add ti3 j0 j0<|u<|mv j0<|r_nil ?_
     obtain rfl:=sm h
     exact ⟨_,j0,[],ce j0 j0<|ce j0 j0<|ce j0 j0<|ce j0 j0<|ce j0 j0<|cn,j0,j5,j0,j1⟩
   ·
    replace h:=bF hc7 h
    refine sw_exit ?_
    obtain rfl:=sm h
    exact ⟨j0,_,j0,[],cn,j0,j5,j0,j1⟩
  ·
   rintro ⟨⟩ rfl
   replace h : types_All_s3_k2 = some r:=h
   unfold types_All_s3_k2 at h
   refine ow_intro ?_
   refine rg j0<|u<|asg j0<|r_nil ?_
   refine sw_ret ?_
   obtain rfl:=sm h
   exact ⟨_,j0,[],ci j0,j0,j5,j0,j1⟩
  ·
   rintro r' rfl env st hp
   obtain rfl:=sm h
   exact hp
def types_Goes (v1 : Option HierHier) (v2 : ApiMap) (v3 : List (List UInt8)) (v4 : List (List UInt8)) : Option (Bool) :=
  optE v1 ((types_All_s2 v3 v2.Locals).bind fun v6=>(cond v6 ((types_All_s2 v4 v2.Stack).bind fun v7=>some v7) (some false)).bind fun v8=>some v8) (fun v5=>(types_All_s3 v5.l v5.at_ v3 v2.Locals).bind fun v9=>(cond v9 ((types_All_s3 v5.l v5.at_ v4 v2.Stack).bind fun v10=>some v10) (some false)).bind fun v11=>some v11)
theorem types_Goes_ok (v1 : Option HierHier) (v2 : ApiMap) (v3 : List (List UInt8)) (v4 : List (List UInt8)) {r : Bool} (h : types_Goes v1 v2 v3 v4 = some r) : PureC Tryz.prog 53 [optP 2 rHierHier v1,.agg [iA v2.At,.isl 1 (List.map rStr v2.Locals),.isl 1 (List.map rStr v2.Stack)],.isl 1 (List.map rStr v3),.isl 1 (List.map rStr v4)] (bA r):=by
 refine pure_fn Tryz.func53 j0 (by kernel_rfl) j0 j0 ?_
 unfold types_Goes at h
 rcases v1 with _ | v5
 ·
  replace h:=oeN h
  refine rg j0<|u<|bx 0 3 j0 j0 j0 j0<|u<|asg j0<|r_nil ?_
  obtain ⟨v6,q1,h⟩:=bs h
  obtain ⟨v8,q4,h⟩:=bs h
  refine rg j0<|u<|mv j0<|u<|mv j0<|u<|fa ti81 j0 j0 j0<|u<|ld ti32 j0 j0<|u<|pc (types_All_s2_ok v3 v2.Locals q1) j0 j0 j0<|u<|mv j0<|r_and (x:=v8) (j:=5) 5 j0 j0 j0 j0 j0 gpn (fun hb2=>by replace q4:=bT hb2 q4; obtain ⟨v7,q3,q4⟩:=bs q4; obtain rfl:=sm q4; exact g j0 hb2<|mv j0<|g j0 hb2<|mv j0<|g j0 hb2<|fa ti81 j0 j0 j0<|g j0 hb2<|ld ti32 j0 j0<|g j0 hb2<|pc (types_All_s2_ok v4 v2.Stack q3) j0 j0 j0<|r_nil (eg [15,16,17,18,19] 5 j0 j0 j0 j0)) (fun hb=>(sm (bF hb q4)).symm)<|u<|asg j0<|r_nil ?_
  refine sw_ret ?_
  obtain rfl:=sm h
  exact ⟨_,j0,[],ci j0,j0,j5,j0,j1⟩
 ·
  replace h:=oeS h
  refine rg j0<|u<|bx 0 3 j0 j0 j0 j0<|u<|asg j0<|r_nil ?_
  obtain ⟨v9,q5,h⟩:=bs h
  obtain ⟨v11,q8,h⟩:=bs h
  refine rg j0<|u<|mv j0<|u<|mv j0<|u<|fa ti81 j0 j0 j0<|u<|ld ti32 j0 j0<|u<|pc (types_All_s3_ok v5.l v5.at_ v3 v2.Locals q5) j0 j0 j0<|u<|mv j0<|r_and (x:=v11) (j:=5) 5 j0 j0 j0 j0 j0 gpn (fun hb6=>by replace q8:=bT hb6 q8; obtain ⟨v10,q7,q8⟩:=bs q8; obtain rfl:=sm q8; exact g j0 hb6<|mv j0<|g j0 hb6<|mv j0<|g j0 hb6<|fa ti81 j0 j0 j0<|g j0 hb6<|ld ti32 j0 j0<|g j0 hb6<|pc (types_All_s3_ok v5.l v5.at_ v4 v2.Stack q7) j0 j0 j0<|r_nil (eg [15,16,17,18,19] 5 j0 j0 j0 j0)) (fun hb=>(sm (bF hb q8)).symm)<|u<|asg j0<|r_nil ?_
  refine sw_ret ?_
  obtain rfl:=sm h
  exact ⟨_,j0,[],ci j0,j0,j5,j0,j1⟩
def law9_TypesAll_k6 (v9 : (Option HierHier) × Int) (v10 : (Option Ref7Hier) × Int) (v11 : (List (List UInt8))) (v12 : (List (List UInt8))) (v13 : (List (List UInt8))) (v14 : (List (List UInt8))) : Option (Bool) :=
  (types_All v9.1 v11 v12).bind fun v61=>(ref7_Hier_All v10.1 v11 v12).bind fun v62=>(cond (v61 == v62) ((types_Goes v9.1 (ApiMap.mk 0 v12 v14) v11 v13).bind fun v63=>(ref7_Hier_All v10.1 v11 v12).bind fun v64=>(cond v64 ((ref7_Hier_All v10.1 v13 v14).bind fun v65=>some v65) (some false)).bind fun v66=>some (v63 == v66)) (some false)).bind fun v67=>some v67
def law9_TypesAll_k4 (v38 : Int) : Option (Sum (Int) (Sum (Unit) (Bool))) :=
  some (.inl (IntKind.i64.wrap (v38 + 1)))
def law9_TypesAll_l3 (v9 : (Option HierHier) × Int) (v10 : (Option Ref7Hier) × Int) (v11 : (List (List UInt8))) (v12 : (List (List UInt8))) (v38 : Int) (v54 : Int) : Option (Sum (Int) (Sum (Unit) (Bool))) :=
  cond (decide (v54 < ((List.length v12) : Int))) ((idx v11 v38).bind fun v55=>(idx v12 v54).bind fun v56=>(types_Fits v9.1 v55 v56).bind fun v57=>(idx v11 v38).bind fun v58=>(idx v12 v54).bind fun v59=>(ref7_Hier_Fits v10.1 v58 v59).bind fun v60=>cond (!(v57 == v60)) (some (.inr (.inr false))) (some (.inl (IntKind.i64.wrap (v54 + 1))))) (some (.inr (.inl ())))
def law9_TypesAll_l5 (v9 : (Option HierHier) × Int) (v10 : (Option Ref7Hier) × Int) (v11 : (List (List UInt8))) (v12 : (List (List UInt8))) (v38 : Int) : Option (Sum (Int) (Sum (Unit) (Bool))) :=
  cond (decide (v38 < ((List.length v11) : Int))) ((idx v11 v38).bind fun v39=>(cond (v39 == [78]) (some true) ((idx v11 v38).bind fun v40=>some (v40 == [84]))).bind fun v41=>(cond v41 (some true) ((idx v11 v38).bind fun v42=>(ref7_Hier_There_s3 v10.1 v42).bind fun v43=>some v43)).bind fun v44=>(idx v11 v38).bind fun v45=>(types_There_s3 v9.1 v45).bind fun v46=>cond (!(v46 == v44)) (some (.inr (.inr false))) ((loopP (fun z=>law9_TypesAll_l3 v9 v10 v11 v12 v38 z) 0).bind fun o=>leave o (fun b=>law9_TypesAll_k4 v38) (fun r=>some (.inr (.inr r))))) (some (.inr (.inl ())))
def law9_TypesAll (v1 : List ApiClass) (v2 : List Int) (v3 : List Int) (v4 : List Int) (v5 : List Int) (v6 : List UInt8) : Option (Bool) :=
  cond (!true) (some false) ((law5_All v1).bind fun v7=>(law1_Cut v6 12).bind fun v8=>(hier_New v7).bind fun v9=>(ref7_New v7).bind fun v10=>cond ((!(v9.2 == (0 : Int))) || (Option.isNone v10.1)) (some (Option.isNone v10.1)) ((law9_texts v10.1 v2 v8).bind fun v11=>(law9_texts v10.1 v3 v8).bind fun v12=>(law9_texts v10.1 v4 v8).bind fun v13=>(law9_texts v10.1 v5 v8).bind fun v14=>(loopP (fun z=>law9_TypesAll_l5 v9 v10 v11 v12 z) 0).bind fun o=>leave o (fun b=>law9_TypesAll_k6 v9 v10 v11 v12 v13 v14) some))
theorem law9_TypesAll_ok (v1 : List ApiClass) (v2 : List Int) (v3 : List Int) (v4 : List Int) (v5 : List Int) (v6 : List UInt8) {r : Bool} (h : law9_TypesAll v1 v2 v3 v4 v5 v6 = some r) : PureC Tryz.prog 15 [.isl 6 (List.map rApiClass v1),.isl 1 (List.map (rI .i64) v2),.isl 1 (List.map (rI .i64) v3),.isl 1 (List.map (rI .i64) v4),.isl 1 (List.map (rI .i64) v5),sA v6] (bA r):=by
 refine pure_fn Tryz.func15 j0 (by kernel_rfl) j0 j0 ?_
 unfold law9_TypesAll at h
 refine rg j0<|u<|asg j0<|r_nil ?_
 refine rg j0<|u<|pc (law9_begun_ok j0) j0 j0 j0<|u<|asg j0<|r_nil ?_
 refine sw_seq ?_
 refine rg j0<|u<|mv j0<|u<|nt j0<|r_nil ?_
 refine sw_cond j0 (fun hc1=>?_) (fun hc1=>?_)
 ·
  replace h:=bT hc1 h
  refine rg j0<|u<|asg j0<|r_nil ?_
  refine sw_ret ?_
  obtain rfl:=sm h
  exact ⟨_,j0,[],ci j0,j0,j5,j0,j1⟩
 ·
  replace h:=bF hc1 h
  refine sw_skip ?_
  obtain ⟨v7,q2,h⟩:=bs h
  refine rg j0<|u<|mv j0<|u<|sc [] (law5_All_ok v1 q2) j0 j0 j0 j0 ⟨(rnI j0),j5⟩ j5<|r_can (env0:=[(1,.isl 1 (List.map (rI .i64) v2)),(2,.isl 1 (List.map (rI .i64) v3)),(3,.isl 1 (List.map (rI .i64) v4)),(4,.isl 1 (List.map (rI .i64) v5)),(5,sA v6),(30,.msl 0 0 (List.length v7))]) (st0:=[some (6,List.map rApiClass v7)]) ⟨[.old 0],ce j0 j0<|ce j0 j0<|ce j0 j0<|ce j0 j0<|ce j0 j0<|cv j0 (.msl j0)<|cn,j0,⟨⟨_,j0,rsMap (fun _=>j0)⟩,j5⟩,j0,j1⟩<|u<|asg j0<|r_nil ?_
  obtain ⟨v8,q3,h⟩:=bs h
  refine rg j0<|u<|mv j0<|u<|pc (law1_Cut_ok v6 12 q3) j0 j0 j0<|u<|asg j0<|r_nil ?_
  obtain ⟨v9,q4,h⟩:=bs h
  refine rg j0<|u<|mv j0<|r_can (env0:=[(0,.isl 6 (List.map rApiClass v7)),(1,.isl 1 (List.map (rI .i64) v2)),(2,.isl 1 (List.map (rI .i64) v3)),(3,.isl 1 (List.map (rI .i64) v4)),(4,.isl 1 (List.map (rI .i64) v5)),(5,sA v8),(34,.isl 6 (List.map rApiClass v7))]) (st0:=[]) ⟨[],cv j0 (rsSeal j0 j0 (fun _=>j0))<|ce j0 j0<|ce j0 j0<|ce j0 j0<|ce j0 j0<|ce j0 j0<|cv j0 (rsSeal j0 j0 (fun _=>j0))<|cn,j0,j5,j0,j1⟩<|u<|pc (hier_New_ok v7 q4) j0 j0 j0<|u<|mv j0<|u<|ex j0 j0<|u<|ex j0 j0<|u<|asg j0<|u<|asg j0<|r_nil ?_
  obtain ⟨v10,q5,h⟩:=bs h
  refine rg j0<|u<|mv j0<|u<|pc (ref7_New_ok v7 q5) j0 j0 j0<|u<|mv j0<|u<|ex j0 j0<|u<|ex j0 j0<|u<|asg j0<|u<|asg j0<|r_nil ?_
  refine sw_seq ?_
  refine rg j0<|u<|mv j0<|u<|neq ti26 j0 j0<|u<|mv j0<|r_or (j:=2) 2 j0 j0 j0 j0 j0 gpn (fun hb6=>g j0 hb6<|mv j0<|g j0 hb6<|eqpO ti29 j0 j0 j0<|r_nil (egO [46,47] 2 hb6 j0 j0 j0 j0)) orT<|r_nil ?_
  refine sw_cond j0 (fun hc7=>?_) (fun hc7=>?_)
  ·
   replace h:=bT hc7 h
   refine rg j0<|u<|mv j0<|u<|eqpO ti29 j0 j0 j0<|u<|asg j0<|r_nil ?_
   refine sw_ret ?_
   obtain rfl:=sm h
   exact ⟨_,j0,[],ci j0,j0,j5,j0,j1⟩
  ·
   replace h:=bF hc7 h
   refine sw_skip ?_
   obtain ⟨v11,q8,h⟩:=bs h
   obtain ⟨v12,q9,h⟩:=bs h
   obtain ⟨v13,q10,h⟩:=bs h
   obtain ⟨v14,q11,h⟩:=bs h
   refine rg j0<|u<|mv j0<|u<|mv j0<|u<|mv j0<|u<|sc [] (law9_texts_ok v10.1 v2 v8 q8) j0 j0 j0 j0 ⟨(rnI (immP (fun _=>j0))),(rnI j0),(rnI j0),j5⟩ j5<|r_can (env0:=[(2,.isl 1 (List.map (rI .i64) v3)),(3,.isl 1 (List.map (rI .i64) v4)),(4,.isl 1 (List.map (rI .i64) v5)),(5,sA v8),(14,optP 2 rHierHier v9.1),(16,optP 1 rRef7Hier v10.1),(54,.msl 0 0 (List.length v11))]) (st0:=[some (1,List.map rStr v11)]) ⟨[.old 0],ce j0 j0<|ce j0 j0<|ce j0 j0<|ce j0 j0<|cv j0 (ci (immP (fun _=>j0)))<|cv j0 (ci (immP (fun _=>j0)))<|cv j0 (.msl j0)<|cn,j0,⟨⟨_,j0,rsMap (fun _=>j0)⟩,j5⟩,j0,j1⟩<|u<|mv j0<|u<|mv j0<|u<|mv j0<|u<|sc [] (law9_texts_ok v10.1 v3 v8 q9) j0 j0 j0 j0 ⟨(rnI (immP (fun _=>j0))),(rnI j0),(rnI j0),j5⟩ j5<|r_can (env0:=[(3,.isl 1 (List.map (rI .i64) v4)),(4,.isl 1 (List.map (rI .i64) v5)),(5,sA v8),(14,optP 2 rHierHier v9.1),(16,optP 1 rRef7Hier v10.1),(54,.msl 0 0 (List.length v11)),(58,.msl 1 0 (List.length v12))]) (st0:=[some (1,List.map rStr v11),some (1,List.map rStr v12)]) ⟨[.old 0,.old 1],ce j0 j0<|ce j0 j0<|ce j0 j0<|cv j0 (ci (immP (fun _=>j0)))<|cv j0 (ci (immP (fun _=>j0)))<|cv j0 (.msl j0)<|cv j0 (.msl j0)<|cn,j0,⟨⟨_,j0,rsMap (fun _=>j0)⟩,⟨_,j0,rsMap (fun _=>j0)⟩,j5⟩,j0,j1⟩<|u<|mv j0<|u<|mv j0<|u<|mv j0<|u<|sc [] (law9_texts_ok v10.1 v4 v8 q10) j0 j0 j0 j0 ⟨(rnI (immP (fun _=>j0))),(rnI j0),(rnI j0),j5⟩ j5<|r_can (env0:=[(4,.isl 1 (List.map (rI .i64) v5)),(5,sA v8),(14,optP 2 rHierHier v9.1),(16,optP 1 rRef7Hier v10.1),(54,.msl 0 0 (List.length v11)),(58,.msl 1 0 (List.length v12)),(62,.msl 2 0 (List.length v13))]) (st0:=[some (1,List.map rStr v11),some (1,List.map rStr v12),some (1,List.map rStr v13)]) ⟨[.old 0,.old 1,.old 2],ce j0 j0<|ce j0 j0<|cv j0 (ci (immP (fun _=>j0)))<|cv j0 (ci (immP (fun _=>j0)))<|cv j0 (.msl j0)<|cv j0 (.msl j0)<|cv j0 (.msl j0)<|cn,j0,⟨⟨_,j0,rsMap (fun _=>j0)⟩,⟨_,j0,rsMap (fun _=>j0)⟩,⟨_,j0,rsMap (fun _=>j0)⟩,j5⟩,j0,j1⟩<|u<|mv j0<|u<|mv j0<|u<|mv j0<|u<|sc [] (law9_texts_ok v10.1 v5 v8 q11) j0 j0 j0 j0 ⟨(rnI (immP (fun _=>j0))),(rnI j0),(rnI j0),j5⟩ j5<|r_can (env0:=[(14,optP 2 rHierHier v9.1),(16,optP 1 rRef7Hier v10.1),(54,.msl 0 0 (List.length v11)),(58,.msl 1 0 (List.length v12)),(62,.msl 2 0 (List.length v13)),(66,.msl 3 0 (List.length v14))]) (st0:=[some (1,List.map rStr v11),some (1,List.map rStr v12),some (1,List.map rStr v13),some (1,List.map rStr v14)]) ⟨[.old 0,.old 1,.old 2,.old 3],cv j0 (ci (immP (fun _=>j0)))<|cv j0 (ci (immP (fun _=>j0)))<|cv j0 (.msl j0)<|cv j0 (.msl j0)<|cv j0 (.msl j0)<|cv j0 (.msl j0)<|cn,j0,⟨⟨_,j0,rsMap (fun _=>j0)⟩,⟨_,j0,rsMap (fun _=>j0)⟩,⟨_,j0,rsMap (fun _=>j0)⟩,⟨_,j0,rsMap (fun _=>j0)⟩,j5⟩,j0,j1⟩<|u<|asg j0<|u<|asg j0<|u<|asg j0<|u<|asg j0<|r_nil ?_
   refine sw_seq ?_
   refine rg j0<|u<|asg j0<|r_nil ?_
   obtain ⟨o,ho,h⟩:=bs h
   refine sw_lpl (X:=Int) (B:=Unit) (R:=Bool) (fun z=>[(14,optP 2 rHierHier v9.1),(16,optP 1 rRef7Hier v10.1),(18,.msl 0 0 (List.length v11)),(19,.msl 1 0 (List.length v12)),(20,.msl 2 0 (List.length v13)),(21,.msl 3 0 (List.length v14)),(22,iA z)]) (fun z=>[some (1,List.map rStr v11),some (1,List.map rStr v12),some (1,List.map rStr v13),some (1,List.map rStr v14)]) (fun b=>[(14,optP 2 rHierHier v9.1),(16,optP 1 rRef7Hier v10.1),(18,.msl 0 0 (List.length v11)),(19,.msl 1 0 (List.length v12)),(20,.msl 2 0 (List.length v13)),(21,.msl 3 0 (List.length v14))]) (fun b=>[some (1,List.map rStr v11),some (1,List.map rStr v12),some (1,List.map rStr v13),some (1,List.map rStr v14)]) (fun r env st=>PostF Tryz.prog Tryz.f15 0 (bA r) [] env st) ho ⟨[.old 0,.old 1,.old 2,.old 3],cv j0 (ci (immP (fun _=>j0)))<|cv j0 (ci (immP (fun _=>j0)))<|cv j0 (.msl j0)<|cv j0 (.msl j0)<|cv j0 (.msl j0)<|cv j0 (.msl j0)<|ce j0 j0<|cn,j0,⟨⟨_,j0,rsMap (fun _=>j0)⟩,⟨_,j0,rsMap (fun _=>j0)⟩,⟨_,j0,rsMap (fun _=>j0)⟩,⟨_,j0,rsMap (fun _=>j0)⟩,j5⟩,j0,j1⟩ ?_ ?_ ?_
   ·
    rintro v38 r h
    replace h : law9_TypesAll_l5 v9 v10 v11 v12 v38 = some r:=h
    unfold law9_TypesAll_l5 at h
    refine sw_seq ?_
    refine rg j0<|u<|mv j0<|u<|mv j0<|u<|lnM ti32 j0 j0 j0<|u<|lss ti3 j0 j0<|r_nil ?_
    refine sw_cond j0 (fun hc40=>?_) (fun hc40=>?_)
    ·
     replace h:=bT hc40 h
     refine sw_skip ?_
     refine sw_seq ?_
     refine sw_block ?_
     obtain ⟨v39,q41,h⟩:=bs h
     obtain ⟨v41,q44,h⟩:=bs h
     obtain ⟨v44,q48,h⟩:=bs h
     refine rg j0<|u<|mv j0<|u<|mv j0<|u<|ixM ti32 j0 ti9 j0 j0 j0 j0 q41<|u<|ldM ti9 j0 j0 (idx_some q41).2.2 j0<|u<|seq ti9 j0 j0<|u<|mv j0<|r_or (x:=v41) (j:=5) 5 j0 j0 j0 j0 j0 gpn (fun hb42=>by replace q44:=bF hb42 q44; obtain ⟨v40,q43,q44⟩:=bs q44; obtain rfl:=sm q44; exact g j0 hb42<|mv j0<|g j0 hb42<|mv j0<|g j0 hb42<|ixM ti32 j0 ti9 j0 j0 j0 j0 q43<|g j0 hb42<|ldM ti9 j0 j0 (idx_some q43).2.2 j0<|g j0 hb42<|seq ti9 j0 j0<|r_nil (eg [79,80,81,82,83] 5 j0 j0 j0 j0)) (fun hb=>(sm (bT hb q44)).symm)<|u<|mv j0<|r_or (x:=v44) (j:=12) 6 j0 j0 j0 j0 j0 gpn (fun hb45=>by replace q48:=bF hb45 q48; obtain ⟨v42,q46,q48⟩:=bs q48; obtain ⟨v43,q47,q48⟩:=bs q48; obtain rfl:=sm q48; exact g j0 hb45<|mv j0<|g j0 hb45<|mv j0<|g j0 hb45<|mv j0<|g j0 hb45<|ixM ti32 j0 ti9 j0 j0 j0 j0 q46<|g j0 hb45<|ldM ti9 j0 j0 (idx_some q46).2.2 j0<|g j0 hb45<|pc (ref7_Hier_There_s3_ok v10.1 v42 q47) j0 j0 (immC (immP (fun _=>j0)) (j0))<|r_nil (eg [86,87,88,89,90,91] 6 j0 j0 j0 j0)) (fun hb=>(sm (bT hb q48)).symm)<|u<|asg j0<|r_nil ?_
     refine sw_seq ?_
     obtain ⟨v45,q49,h⟩:=bs h
     obtain ⟨v46,q50,h⟩:=bs h
     refine rg j0<|u<|mv j0<|u<|mv j0<|u<|mv j0<|u<|ixM ti32 j0 ti9 j0 j0 j0 j0 q49<|u<|ldM ti9 j0 j0 (idx_some q49).2.2 j0<|u<|pc (types_There_s3_ok v9.1 v45 q50) j0 j0 (immC (immP (fun _=>j0)) (j0))<|u<|mv j0<|u<|bne ti4 j0 j0 j0<|r_nil ?_
     refine sw_cond j0 (fun hc51=>?_) (fun hc51=>?_)
     ·
      replace h:=bT hc51 h
      refine rg j0<|u<|asg j0<|r_nil ?_
      refine sw_ret ?_
      obtain rfl:=sm h
      exact ⟨_,j0,_,j0,[],ci j0,j0,j5,j0,j1⟩
     ·
      replace h:=bF hc51 h
      refine sw_skip ?_
      refine rg j0<|u<|asg j0<|r_nil ?_
      obtain ⟨o,ho,h⟩:=bs h
      refine sw_lpl (X:=Int) (B:=Unit) (R:=Bool) (fun z=>[(14,optP 2 rHierHier v9.1),(16,optP 1 rRef7Hier v10.1),(18,.msl 0 0 (List.length v11)),(19,.msl 1 0 (List.length v12)),(20,.msl 2 0 (List.length v13)),(21,.msl 3 0 (List.length v14)),(22,iA v38),(24,iA z)]) (fun z=>[some (1,List.map rStr v11),some (1,List.map rStr v12),some (1,List.map rStr v13),some (1,List.map rStr v14)]) (fun b=>[(14,optP 2 rHierHier v9.1),(16,optP 1 rRef7Hier v10.1),(18,.msl 0 0 (List.length v11)),(19,.msl 1 0 (List.length v12)),(20,.msl 2 0 (List.length v13)),(21,.msl 3 0 (List.length v14)),(22,iA v38)]) (fun b=>[some (1,List.map rStr v11),some (1,List.map rStr v12),some (1,List.map rStr v13),some (1,List.map rStr v14)]) (fun r env st=>PostF Tryz.prog Tryz.f15 0 (bA r) [] env st) ho ⟨[.old 0,.old 1,.old 2,.old 3],cv j0 (ci (immP (fun _=>j0)))<|cv j0 (ci (immP (fun _=>j0)))<|cv j0 (.msl j0)<|cv j0 (.msl j0)<|cv j0 (.msl j0)<|cv j0 (.msl j0)<|ce j0 j0<|ce j0 j0<|cn,j0,⟨⟨_,j0,rsMap (fun _=>j0)⟩,⟨_,j0,rsMap (fun _=>j0)⟩,⟨_,j0,rsMap (fun _=>j0)⟩,⟨_,j0,rsMap (fun _=>j0)⟩,j5⟩,j0,j1⟩ ?_ ?_ ?_
      ·
       rintro v54 r h
       replace h : law9_TypesAll_l3 v9 v10 v11 v12 v38 v54 = some r:=h
       unfold law9_TypesAll_l3 at h
       refine sw_seq ?_
       refine rg j0<|u<|mv j0<|u<|mv j0<|u<|lnM ti32 j0 j0 j0<|u<|lss ti3 j0 j0<|r_nil ?_
       refine sw_cond j0 (fun hc60=>?_) (fun hc60=>?_)
       ·
        replace h:=bT hc60 h
        refine sw_skip ?_
        refine sw_seq ?_
        refine sw_block ?_
        obtain ⟨v55,q61,h⟩:=bs h
        obtain ⟨v56,q62,h⟩:=bs h
        obtain ⟨v57,q63,h⟩:=bs h
        obtain ⟨v58,q64,h⟩:=bs h
        obtain ⟨v59,q65,h⟩:=bs h
        obtain ⟨v60,q66,h⟩:=bs h
        refine rd [(14,optP 2 rHierHier v9.1),(16,optP 1 rRef7Hier v10.1),(18,.msl 0 0 (List.length v11)),(19,.msl 1 0 (List.length v12)),(20,.msl 2 0 (List.length v13)),(21,.msl 3 0 (List.length v14)),(22,iA v38),(24,iA v54),(127,bA (!(v57 == v60)))] [some (1,List.map rStr v11),some (1,List.map rStr v12),some (1,List.map rStr v13),some (1,List.map rStr v14)] [] [20,19,18,17,16,15,14,13,12,11,10,9,8,7,6,5,4,3,2,1,0] [(127,bA (!(v57 == v60))),(126,bA v60),(125,sA v59),(124,.mpt 1 (Int.toNat v54) 0),(123,iA v54),(122,.msl 1 0 (List.length v12)),(121,sA v58),(120,.mpt 0 (Int.toNat v38) 0),(119,iA v38),(118,.msl 0 0 (List.length v11)),(117,optP 1 rRef7Hier v10.1),(116,bA v57),(115,sA v56),(114,.mpt 1 (Int.toNat v54) 0),(113,iA v54),(112,.msl 1 0 (List.length v12)),(111,sA v55),(110,.mpt 0 (Int.toNat v38) 0),(109,iA v38),(108,.msl 0 0 (List.length v11)),(107,optP 2 rHierHier v9.1)] 0 (by kernel_rfl) (by kernel_rfl) j0 (by kernel_rfl) (dt0 ⟨(fun _=>pa j0 j0 j0 j0 (bne ti4 j0 j0 j0<|j4)),(fun _=>pa j0 j0 j0 j0 (pc (ref7_Hier_Fits_ok v10.1 v58 v59 q66) j0 j0 (immC (immP (fun _=>j0)) (j0))<|j4)),(fun _=>pa j0 j0 j0 j0 (ldM ti9 j0 j0 (idx_some q65).2.2 j0<|j4)),(fun _=>pa j0 j0 j0 j0 (ixM ti32 j0 ti9 j0 j0 j0 j0 q65<|j4)),(fun _=>pa j0 j0 j0 j0 (mv j0<|j4)),(fun _=>pa j0 j0 j0 j0 (mv j0<|j4)),(fun _=>pa j0 j0 j0 j0 (ldM ti9 j0 j0 (idx_some q64).2.2 j0<|j4)),(fun _=>pa j0 j0 j0 j0 (ixM ti32 j0 ti9 j0 j0 j0 j0 q64<|j4)),(fun _=>pa j0 j0 j0 j0 (mv j0<|j4)),(fun _=>pa j0 j0 j0 j0 (mv j0<|j4)),(fun _=>pa j0 j0 j0 j0 (mv j0<|j4)),(fun _=>pa j0 j0 j0 j0 (pc (types_Fits_ok v9.1 v55 v56 q63) j0 j0 (immC (immP (fun _=>j0)) (j0))<|j4)),(fun _=>pa j0 j0 j0 j0 (ldM ti9 j0 j0 (idx_some q62).2.2 j0<|j4)),(fun _=>pa j0 j0 j0 j0 (ixM ti32 j0 ti9 j0 j0 j0 j0 q62<|j4)),(fun _=>pa j0 j0 j0 j0 (mv j0<|j4)),(fun _=>pa j0 j0 j0 j0 (mv j0<|j4)),(fun _=>pa j0 j0 j0 j0 (ldM ti9 j0 j0 (idx_some q61).2.2 j0<|j4)),(fun _=>pa j0 j0 j0 j0 (ixM ti32 j0 ti9 j0 j0 j0 j0 q61<|j4)),(fun _=>pa j0 j0 j0 j0 (mv j0<|j4)),(fun _=>pa j0 j0 j0 j0 (mv j0<|j4)),(fun _=>pa j0 j0 j0 j0 (mv j0<|j4)),j5⟩ (by kernel_rfl) j0 ⟨[.old 0,.old 1,.old 2,.old 3],cv j0 (ci (immP (fun _=>j0)))<|cv j0 (ci (immP (fun _=>j0)))<|cv j0 (.msl j0)<|cv j0 (.msl j0)<|cv j0 (.msl j0)<|cv j0 (.msl j0)<|ce j0 j0<|ce j0 j0<|ce j0 j0<|cn,j0,⟨⟨_,j0,rsMap (fun _=>j0)⟩,⟨_,j0,rsMap (fun _=>j0)⟩,⟨_,j0,rsMap (fun _=>j0)⟩,⟨_,j0,rsMap (fun _=>j0)⟩,j5⟩,j0,j1⟩) ?_
        refine sw_cond j0 (fun hc67=>?_) (fun hc67=>?_)
        ·
         replace h:=bT hc67 h
         refine rg j0<|u<|asg j0<|r_nil ?_
         refine sw_ret ?_
         obtain rfl:=sm h
         exact ⟨_,j0,_,j0,[],ci j0,j0,j5,j0,j1⟩
        ·
         replace h:=bF hc67 h
         refine sw_skip ?_
         refine rl j0<|u<|mv j0<|u<|add ti3 j0 j0<|u<|asg j0<|r_nil ?_
         obtain rfl:=sm h
         exact ⟨_,j0,[.old 0,.old 1,.old 2,.old 3],cv j0 (ci (immP (fun _=>j0)))<|cv j0 (ci (immP (fun _=>j0)))<|cv j0 (.msl j0)<|cv j0 (.msl j0)<|cv j0 (.msl j0)<|cv j0 (.msl j0)<|ce j0 j0<|ce j0 j0<|cn,j0,⟨⟨_,j0,rsMap (fun _=>j0)⟩,⟨_,j0,rsMap (fun _=>j0)⟩,⟨_,j0,rsMap (fun _=>j0)⟩,⟨_,j0,rsMap (fun _=>j0)⟩,j5⟩,j0,j1⟩
       ·
        replace h:=bF hc60 h
        refine sw_exit ?_
        obtain rfl:=sm h
        exact ⟨j0,_,j0,[.old 0,.old 1,.old 2,.old 3],cv j0 (ci (immP (fun _=>j0)))<|cv j0 (ci (immP (fun _=>j0)))<|cv j0 (.msl j0)<|cv j0 (.msl j0)<|cv j0 (.msl j0)<|cv j0 (.msl j0)<|ce j0 j0<|cn,j0,⟨⟨_,j0,rsMap (fun _=>j0)⟩,⟨_,j0,rsMap (fun _=>j0)⟩,⟨_,j0,rsMap (fun _=>j0)⟩,⟨_,j0,rsMap (fun _=>j0)⟩,j5⟩,j0,j1⟩
      ·
       rintro ⟨⟩ rfl
       replace h : law9_TypesAll_k4 v38 = some r:=h
       unfold law9_TypesAll_k4 at h
       refine ow_intro ?_
       refine rl j0<|u<|mv j0<|u<|add ti3 j0 j0<|u<|asg j0<|r_nil ?_
       obtain rfl:=sm h
       exact ⟨_,j0,[.old 0,.old 1,.old 2,.old 3],cv j0 (ci (immP (fun _=>j0)))<|cv j0 (ci (immP (fun _=>j0)))<|cv j0 (.msl j0)<|cv j0 (.msl j0)<|cv j0 (.msl j0)<|cv j0 (.msl j0)<|ce j0 j0<|cn,j0,⟨⟨_,j0,rsMap (fun _=>j0)⟩,⟨_,j0,rsMap (fun _=>j0)⟩,⟨_,j0,rsMap (fun _=>j0)⟩,⟨_,j0,rsMap (fun _=>j0)⟩,j5⟩,j0,j1⟩
      ·
       rintro r' rfl env st hp
       obtain rfl:=sm h
       exact ⟨_,j0,hp⟩
    ·
     replace h:=bF hc40 h
     refine sw_exit ?_
     obtain rfl:=sm h
     exact ⟨j0,_,j0,[.old 0,.old 1,.old 2,.old 3],cv j0 (ci (immP (fun _=>j0)))<|cv j0 (ci (immP (fun _=>j0)))<|cv j0 (.msl j0)<|cv j0 (.msl j0)<|cv j0 (.msl j0)<|cv j0 (.msl j0)<|cn,j0,⟨⟨_,j0,rsMap (fun _=>j0)⟩,⟨_,j0,rsMap (fun _=>j0)⟩,⟨_,j0,rsMap (fun _=>j0)⟩,⟨_,j0,rsMap (fun _=>j0)⟩,j5⟩,j0,j1⟩
   ·
    rintro ⟨⟩ rfl
    replace h : law9_TypesAll_k6 v9 v10 v11 v12 v13 v14 = some r:=h
    unfold law9_TypesAll_k6 at h
    refine ow_intro ?_
    refine rg j0<|u<|mv j0<|u<|mv j0<|u<|bd ti81 j0 j0 j0<|u<|al 4 ti81 j0<|u<|sto ti81 j0 j0 j0<|r_nil ?_
    obtain ⟨v61,q68,h⟩:=bs h
    obtain ⟨v62,q69,h⟩:=bs h
    obtain ⟨v67,q76,h⟩:=bs h
    refine rg j0<|u<|mv j0<|u<|mv j0<|u<|mv j0<|u<|pcs (types_All_ok v9.1 v11 v12 q68) j0 j0 (.cons (si (immP (fun _=>j0))) (.cons (sealM j0 (fun _=>j0)) (.cons (sealM j0 (fun _=>j0)) .nil))) plainB<|u<|mv j0<|u<|mv j0<|u<|mv j0<|u<|pcs (ref7_Hier_All_ok v10.1 v11 v12 q69) j0 j0 (.cons (si (immP (fun _=>j0))) (.cons (sealM j0 (fun _=>j0)) (.cons (sealM j0 (fun _=>j0)) .nil))) plainB<|u<|beq ti4 j0 j0 j0<|u<|mv j0<|r_and (x:=v67) (j:=9) 16 j0 j0 j0 j0 j0 gpn (fun hb70=>by replace q76:=bT hb70 q76; obtain ⟨v63,q71,q76⟩:=bs q76; obtain ⟨v64,q72,q76⟩:=bs q76; obtain ⟨v66,q75,q76⟩:=bs q76; obtain rfl:=sm q76; exact g j0 hb70<|mv j0<|g j0 hb70<|ld ti81 j0 j0<|g j0 hb70<|mv j0<|g j0 hb70<|mv j0<|g j0 hb70<|pcs (types_Goes_ok v9.1 (ApiMap.mk 0 v12 v14) v11 v13 q71) j0 j0 (.cons (si (immP (fun _=>j0))) (.cons (sealAgg ⟨(si j0),(sealM j0 (fun _=>j0)),(sealM j0 (fun _=>j0)),j5⟩) (.cons (sealM j0 (fun _=>j0)) (.cons (sealM j0 (fun _=>j0)) .nil)))) plainB<|g j0 hb70<|mv j0<|g j0 hb70<|mv j0<|g j0 hb70<|mv j0<|g j0 hb70<|pcs (ref7_Hier_All_ok v10.1 v11 v12 q72) j0 j0 (.cons (si (immP (fun _=>j0))) (.cons (sealM j0 (fun _=>j0)) (.cons (sealM j0 (fun _=>j0)) .nil))) plainB<|g j0 hb70<|mv j0<|r_and (x:=v66) (j:=19) 4 j0 j0 j0 j0 j0 (gps j0 j0 hb70) (fun hb73=>by replace q75:=bT hb73 q75; obtain ⟨v65,q74,q75⟩:=bs q75; obtain rfl:=sm q75; exact g j0 hb73<|mv j0<|g j0 hb73<|mv j0<|g j0 hb73<|mv j0<|g j0 hb73<|pcs (ref7_Hier_All_ok v10.1 v13 v14 q74) j0 j0 (.cons (si (immP (fun _=>j0))) (.cons (sealM j0 (fun _=>j0)) (.cons (sealM j0 (fun _=>j0)) .nil))) plainB<|r_nil (eg [151,152,153,154] 4 j0 j0 j0 j0)) (fun hb=>(sm (bF hb q75)).symm)<|g j0 hb70<|beq ti4 j0 j0 j0<|r_nil (eg [141,142,143,144,145,146,147,148,149,150,151,152,153,154,155,156] 12 j0 j0 j0 j0)) (fun hb=>(sm (bF hb q76)).symm)<|u<|asg j0<|r_nil ?_
    refine sw_ret ?_
    obtain rfl:=sm h
    exact ⟨_,j0,[],ci j0,j0,j5,j0,j1⟩
   ·
    rintro r' rfl env st hp
    obtain rfl:=sm h
    exact hp
end
end Go.Proofs.YtooagifeniibcaaGreat
namespace Go.Proofs.YtooagifeniibcaaGreat
def zig (n : Int) : Nat := if n < 0 then (-2 * n - 1).toNat else (2 * n).toNat
def putF : Nat → Nat → List UInt8
  | 0, _ => []
  | k + 1, u => if 127 < u then UInt8.ofNat (u % 128 + 128) :: putF k (u / 128) else [UInt8.ofNat u]
def put (n : Int) : List UInt8 := putF 10 (zig n)
end Go.Proofs.YtooagifeniibcaaGreat
namespace Go.Proofs.YtooagifeniibcaaGreat
set_option linter.unusedSimpArgs false
set_option linter.unusedVariables false
theorem idx_nat {α : Type} (l : List α) (i : Nat) : idx l (i : Int) = l[i]? := by
  unfold idx
  rw [if_pos (by omega), Int.toNat_natCast]
theorem idx_zero {α : Type} (l : List α) : idx l 0 = l[0]? := idx_nat l 0
theorem wrapI {n : Int} (h1 : -9223372036854775808 ≤ n) (h2 : n ≤ 9223372036854775807) : IntKind.i64.wrap n = n := IntWalk.i64_in n ⟨h1, h2⟩
theorem wrap_succ {i : Nat} (h : i < 9223372036854775807) : IntKind.i64.wrap ((i : Int) + 1) = ((i + 1 : Nat) : Int) := by
  rw [wrapI (by omega) (by omega)]; omega
theorem cutP_some {α : Type} {l : List α} {a b : Int} (h0 : 0 ≤ a) (h1 : a ≤ b) (h2 : b ≤ l.length) : cutP l a b = some ((l.drop a.toNat).take (b.toNat - a.toNat)) := by
  unfold cutP; rw [if_pos ⟨h0, h1, h2⟩]
theorem cutP_to {α : Type} {l : List α} {b : Nat} (h : b ≤ l.length) : cutP l 0 (b : Int) = some (l.take b) := by
  rw [cutP_some (by omega) (by omega) (by omega)]; simp
theorem cutP_from {α : Type} {l : List α} {a : Nat} (h : a ≤ l.length) : cutP l (a : Int) (l.length : Int) = some (l.drop a) := by
  rw [cutP_some (by omega) (by omega) (by omega)]
  simp only [Int.toNat_natCast]
  rw [List.take_of_length_le (by simp)]
theorem appP_ok {α : Type} {w : Nat} {l x : List α} (h : (l.length + x.length) * w ≤ 140737488355328) (h2 : l.length + x.length ≤ 9223372036854775807) : appP w l x = some (l ++ x) := by
  unfold appP; rw [if_pos ⟨h, h2⟩]
theorem catP_ok {l x : List UInt8} (h : l.length + x.length ≤ 9223372036854775807) : catP l x = some (l ++ x) := by unfold catP; rw [if_pos h]
def ends {R U : Type} (u : U) : Option R → Sum U R
  | some r => .inr r
  | none => .inl u
def asks {R U : Type} (i : Nat) : Option R → Sum Int (Sum U R)
  | some r => .inr (.inr r)
  | none => .inl ((i + 1 : Nat) : Int)
theorem loop_from {α R U : Type} {body : Int → Option (Sum Int (Sum U R))} {l : List α} {g : α → Option R} {u : U} {k : Nat}
    (hb : ∀ (i : Nat) x, k ≤ i → l[i]? = some x → body (i : Int) = some (asks i (g x)))
    (he : body (l.length : Int) = some (.inr (.inl u))) (hk : k ≤ l.length) : loopP body (k : Int) = some (ends u ((l.drop k).findSome? g)) := by
  have key : ∀ d i, l.length - i = d → k ≤ i → i ≤ l.length → loopP body (i : Int) = some (ends u ((l.drop i).findSome? g)) := by
    intro d
    induction d with
    | zero =>
      intro i hd hki hi
      have : i = l.length := by omega
      subst this
      rw [loopP_eq, he, List.drop_length]
      rfl
    | succ d ih =>
      intro i hd hki hi
      have hlt : i < l.length := by omega
      rw [loopP_eq, hb i l[i] hki (List.getElem?_eq_getElem hlt), List.drop_eq_getElem_cons hlt, List.findSome?_cons]
      cases g l[i] with
      | some r => rfl
      | none =>
        show loopP body ((i + 1 : Nat) : Int) = _
        exact ih (i + 1) (by omega) (by omega) (by omega)
  exact key _ k rfl (Nat.le_refl _) hk
theorem loop_list {α R U : Type} {body : Int → Option (Sum Int (Sum U R))} {l : List α} {g : α → Option R} {u : U}
    (hb : ∀ (i : Nat) x, l[i]? = some x → body (i : Int) = some (asks i (g x)))
    (he : body (l.length : Int) = some (.inr (.inl u))) : loopP body 0 = some (ends u (l.findSome? g)) :=
  loop_from (k := 0) (fun i x _ => hb i x) he (Nat.zero_le _)
theorem loop_range {R U : Type} {body : Int → Option (Sum Int (Sum U R))} {n : Nat} {g : Nat → Option R} {u : U}
    (hb : ∀ i, i < n → body (i : Int) = some (asks i (g i)))
    (he : body (n : Int) = some (.inr (.inl u))) : loopP body 0 = some (ends u ((List.range n).findSome? g)) := by
  have h := loop_list (body := body) (l := List.range n) (g := g) (u := u) (fun i x hx => by
    have hi : i < n := by
      have := (List.getElem?_eq_some_iff.1 hx).1
      simpa using this
    have hx' : x = i := by
      have := (List.getElem?_eq_some_iff.1 hx).2
      simpa using this.symm
    subst hx'
    exact hb x hi) (by rw [List.length_range]; exact he)
  exact h
theorem findSome_any {α R : Type} (l : List α) (p : α → Bool) (r : R) : l.findSome? (fun x => cond (p x) (some r) none) = cond (l.any p) (some r) none := by
  induction l with
  | nil => rfl
  | cons x l ih =>
    rw [List.findSome?_cons, List.any_cons]
    cases p x with
    | true => rfl
    | false => simpa using ih
end Go.Proofs.YtooagifeniibcaaGreat
namespace Go.Proofs.YtooagifeniibcaaGreat
set_option linter.unusedSimpArgs false
set_option linter.unusedVariables false
noncomputable def okC (x : UInt8) : Bool := kind_small x || kind_great x || kind_digit x
def headP (p : UInt8 → Bool) : List UInt8 → Bool
  | [] => false
  | x :: _ => p x
noncomputable def wordN (s : List UInt8) : Bool := s.all okC && (!(s == []) && decide ((s.length : Int) ≤ 8))
noncomputable def classN (s : List UInt8) : Bool := wordN s && decide (1 < (s.length : Int)) && headP kind_great s
noncomputable def nameN (s : List UInt8) : Bool := (s == [36, 105, 110, 105, 116]) || (wordN s && headP kind_small s)
def trim1 : List UInt8 → List UInt8
  | [] => []
  | x :: r => if x = 91 then r else x :: r
noncomputable def mayN (s : List UInt8) : Bool := (trim1 (trim1 s) == [73]) || classN (trim1 (trim1 s))
noncomputable def refN (s : List UInt8) : Bool := !(s == [73]) && mayN s
noncomputable def retN (s : List UInt8) : Bool := (s == [86]) || mayN s
abbrev Len (s : List UInt8) : Prop := s.length ≤ 9223372036854775807
theorem not_all {α : Type} (l : List α) (p : α → Bool) : l.any (fun x => !p x) = !l.all p := by
  induction l with
  | nil => rfl
  | cons x l ih => rw [List.any_cons, List.all_cons, ih]; cases p x <;> rfl
theorem kind_word_eq {s : List UInt8} (h : Len s) : kind_word s = some (wordN s) := by
  have hl : loopP (fun z => kind_word_l1 s z) 0 = _ := loop_list (l := s) (g := fun x => cond (!okC x) (some false) none) (u := ()) (fun i x hx => by
    have hi := (List.getElem?_eq_some_iff.1 hx).1
    show kind_word_l1 s (i : Int) = _
    unfold kind_word_l1
    rw [idx_nat, hx, decide_eq_true (by omega), wrap_succ (by unfold Len at h; omega)]
    unfold okC
    cases h1 : kind_small x <;> cases h2 : kind_great x <;> cases h3 : kind_digit x <;> simp [h1, h2, h3, asks]) (by
    show kind_word_l1 s (s.length : Int) = _
    unfold kind_word_l1
    rw [decide_eq_false (by omega)]
    rfl)
  unfold kind_word
  rw [hl, findSome_any, not_all]
  unfold wordN
  cases s.all okC <;> rfl
theorem headP_cons (p : UInt8 → Bool) (x : UInt8) (r : List UInt8) : headP p (x :: r) = p x := rfl
theorem wordN_ne {s : List UInt8} (h : wordN s = true) : ∃ x r, s = x :: r := by
  cases s with
  | nil => exact absurd h (by decide)
  | cons x r => exact ⟨x, r, rfl⟩
theorem kind_Class_eq {s : List UInt8} (h : Len s) : kind_Class s = some (classN s) := by
  unfold kind_Class
  rw [kind_word_eq h, idx_zero]
  unfold classN
  cases hw : wordN s with
  | false => rfl
  | true =>
    obtain ⟨x, r, rfl⟩ := wordN_ne hw
    simp only [Option.bind_some, Bool.true_and, List.getElem?_cons_zero]
    cases decide (1 < ((x :: r).length : Int)) <;> rfl
theorem kind_Name_eq {s : List UInt8} (h : Len s) : kind_Name s = some (nameN s) := by
  unfold kind_Name
  rw [kind_word_eq h, idx_zero]
  unfold nameN
  cases s == [36, 105, 110, 105, 116] with
  | true => rfl
  | false =>
    cases hw : wordN s with
    | false => rfl
    | true =>
      obtain ⟨x, r, rfl⟩ := wordN_ne hw
      rfl
theorem trim1_cons (x : UInt8) (r : List UInt8) : trim1 (x :: r) = if x = 91 then r else x :: r := rfl
theorem trim1_len (s : List UInt8) : (trim1 s).length ≤ s.length := by
  cases s with
  | nil => exact Nat.le_refl _
  | cons x r => rw [trim1_cons]; split <;> simp
theorem trim_eq {s : List UInt8} (h : Len s) : strings_TrimPrefix s [91] = some (trim1 s) := by
  unfold strings_TrimPrefix internal_stringslite_TrimPrefix internal_stringslite_HasPrefix
  cases s with
  | nil => rfl
  | cons x r =>
    have e1 : decide ((List.length [(91 : UInt8)] : Int) ≤ (List.length (x :: r) : Int)) = true := decide_eq_true (by simp only [List.length_cons, List.length_nil]; omega)
    have e2 : cutP (x :: r) 0 (List.length [(91 : UInt8)] : Int) = some [x] := by
      have := cutP_to (l := x :: r) (b := 1) (by simp)
      simpa using this
    have e3 : cutP (x :: r) (List.length [(91 : UInt8)] : Int) (List.length (x :: r) : Int) = some r := by
      have := cutP_from (l := x :: r) (a := 1) (by simp)
      simpa using this
    rw [e1, e2, e3, trim1_cons]
    by_cases hx : x = 91
    · subst hx; rfl
    · rw [if_neg hx]
      have : ([x] == [(91 : UInt8)]) = false := by simp [hx]
      simp [this]
theorem kind_May_eq {s : List UInt8} (h : Len s) : kind_May s = some (mayN s) := by
  have h1 := trim1_len s
  have h2 := trim1_len (trim1 s)
  unfold kind_May
  rw [trim_eq h, Option.bind_some, trim_eq (by unfold Len at *; omega), Option.bind_some, kind_Class_eq (by unfold Len at *; omega)]
  unfold mayN
  cases trim1 (trim1 s) == [73] <;> rfl
theorem kind_Ref_eq {s : List UInt8} (h : Len s) : kind_Ref s = some (refN s) := by
  unfold kind_Ref
  rw [kind_May_eq h]
  unfold refN
  cases s == [73] <;> rfl
theorem kind_Ret_eq {s : List UInt8} (h : Len s) : kind_Ret s = some (retN s) := by
  unfold kind_Ret
  rw [kind_May_eq h]
  unfold retN
  cases s == [86] <;> rfl
theorem ref_great (x : UInt8) : ref3_great x = kind_great x := rfl
theorem ref_little (x : UInt8) : ref3_little x = kind_small x := rfl
theorem ref_digit (x : UInt8) : ref3_digit x = kind_digit x := rfl
theorem ref3_Class_eq {s : List UInt8} (h : Len s) : ref3_Class s = some (classN s) := by
  unfold ref3_Class
  have hend : ref3_Class_l1 s (s.length : Int) = some (.inr (.inl ())) := by
    unfold ref3_Class_l1; rw [decide_eq_false (by omega)]; rfl
  cases s with
  | nil => rw [loopP_eq]; rfl
  | cons x r =>
    have hrest : loopP (fun z => ref3_Class_l1 (x :: r) z) ((1 : Nat) : Int) = some (ends () (((x :: r).drop 1).findSome? (fun y => cond (!okC y) (some false) none))) :=
      loop_from (k := 1) (g := fun y => cond (!okC y) (some false) none) (fun i y hi hy => by
        have hlt := (List.getElem?_eq_some_iff.1 hy).1
        show ref3_Class_l1 (x :: r) (i : Int) = _
        unfold ref3_Class_l1
        rw [idx_nat, hy, decide_eq_true (by omega), wrap_succ (by unfold Len at h; omega)]
        have e : ((i : Int) == (0 : Int)) = false := by simp; omega
        rw [e]
        simp only [ref_great, ref_little, ref_digit]
        unfold okC
        cases h1 : kind_small y <;> cases h2 : kind_great y <;> cases h3 : kind_digit y <;> simp [h1, h2, h3, asks]) hend (by simp)
    have hfirst : ref3_Class_l1 (x :: r) 0 = some (cond (kind_great x) (.inl 1) (.inr (.inr false))) := by
      unfold ref3_Class_l1
      rw [idx_zero, decide_eq_true (by simp only [List.length_cons, List.length_nil]; omega)]
      simp only [ref_great]
      have : IntKind.i64.wrap (0 + 1) = 1 := by decide
      rw [this]
      simp only [List.getElem?_cons_zero, Option.bind_some]
      cases hg : kind_great x <;> rfl
    rw [loopP_eq, hfirst]
    cases hg : kind_great x with
    | false =>
      have : classN (x :: r) = false := by unfold classN; rw [headP_cons, hg]; simp
      rw [this]
      rfl
    | true =>
      show ((loopP (fun z => ref3_Class_l1 (x :: r) z) ((1 : Nat) : Int)).bind _) = _
      rw [hrest, List.drop_one, List.tail_cons, findSome_any, not_all]
      have : classN (x :: r) = (r.all okC && (decide (2 ≤ (List.length (x :: r) : Int)) && decide ((List.length (x :: r) : Int) ≤ 8))) := by
        unfold classN wordN
        rw [headP_cons]
        have ho : okC x = true := by unfold okC; rw [hg]; simp
        rw [List.all_cons, ho, hg]
        have e : decide (1 < (List.length (x :: r) : Int)) = decide (2 ≤ (List.length (x :: r) : Int)) := by congr 1
        rw [e]
        have e2 : ((x :: r) == []) = false := rfl
        rw [e2]
        cases r.all okC <;> cases decide (2 ≤ (List.length (x :: r) : Int)) <;> cases decide ((List.length (x :: r) : Int) ≤ 8) <;> rfl
      rw [this]
      cases r.all okC <;> rfl
theorem ref3_Name_eq {s : List UInt8} (h : Len s) : ref3_Name s = some (nameN s) := by
  unfold ref3_Name
  have hend : ref3_Name_l1 s (s.length : Int) = some (.inr (.inl ())) := by
    unfold ref3_Name_l1; rw [decide_eq_false (by omega)]; rfl
  unfold nameN
  cases s == [36, 105, 110, 105, 116] with
  | true => rfl
  | false =>
  show (loopP _ _).bind _ = some (wordN s && headP kind_small s)
  cases s with
  | nil => rw [loopP_eq]; rfl
  | cons x r =>
    have hrest : loopP (fun z => ref3_Name_l1 (x :: r) z) ((1 : Nat) : Int) = some (ends () (((x :: r).drop 1).findSome? (fun y => cond (!okC y) (some false) none))) :=
      loop_from (k := 1) (g := fun y => cond (!okC y) (some false) none) (fun i y hi hy => by
        have hlt := (List.getElem?_eq_some_iff.1 hy).1
        show ref3_Name_l1 (x :: r) (i : Int) = _
        unfold ref3_Name_l1
        rw [idx_nat, hy, decide_eq_true (by omega), wrap_succ (by unfold Len at h; omega)]
        have e : ((i : Int) == (0 : Int)) = false := by simp; omega
        rw [e]
        simp only [ref_great, ref_little, ref_digit]
        unfold okC
        cases h1 : kind_small y <;> cases h2 : kind_great y <;> cases h3 : kind_digit y <;> simp [h1, h2, h3, asks]) hend (by simp)
    have hfirst : ref3_Name_l1 (x :: r) 0 = some (cond (kind_small x) (.inl 1) (.inr (.inr false))) := by
      unfold ref3_Name_l1
      rw [idx_zero, decide_eq_true (by simp only [List.length_cons, List.length_nil]; omega)]
      simp only [ref_little]
      have : IntKind.i64.wrap (0 + 1) = 1 := by decide
      rw [this]
      simp only [List.getElem?_cons_zero, Option.bind_some]
      cases hg : kind_small x <;> rfl
    rw [loopP_eq, hfirst]
    cases hg : kind_small x with
    | false =>
      have : (wordN (x :: r) && headP kind_small (x :: r)) = false := by rw [headP_cons, hg]; simp
      rw [this]
      rfl
    | true =>
      show ((loopP (fun z => ref3_Name_l1 (x :: r) z) ((1 : Nat) : Int)).bind _) = _
      rw [hrest, List.drop_one, List.tail_cons, findSome_any, not_all]
      have : (wordN (x :: r) && headP kind_small (x :: r)) = (r.all okC && (decide (1 ≤ (List.length (x :: r) : Int)) && decide ((List.length (x :: r) : Int) ≤ 8))) := by
        unfold wordN
        rw [headP_cons]
        have ho : okC x = true := by unfold okC; rw [hg]; simp
        rw [List.all_cons, ho, hg]
        have e2 : ((x :: r) == []) = false := rfl
        have e3 : decide (1 ≤ (List.length (x :: r) : Int)) = true := decide_eq_true (by simp only [List.length_cons, List.length_nil]; omega)
        rw [e2, e3]
        cases r.all okC <;> cases decide ((List.length (x :: r) : Int) ≤ 8) <;> rfl
      rw [this]
      cases r.all okC <;> rfl
theorem ref3_May_eq {s : List UInt8} (h : Len s) : ref3_May s = some (mayN s) := by
  have step : ∀ (t : List UInt8) (i : Int), i < 2 → ref3_May_l1 t i = some (match t with | [] => .inr (.inl []) | x :: r => if x = 91 then .inl (r, IntKind.i64.wrap (i + 1)) else .inr (.inl (x :: r))) := fun t i hi => by
    unfold ref3_May_l1
    rw [decide_eq_true hi]
    cases t with
    | nil => rfl
    | cons x r =>
      have e1 : decide ((0 : Int) < (List.length (x :: r) : Int)) = true := decide_eq_true (by simp only [List.length_cons, List.length_nil]; omega)
      have e3 : cutP (x :: r) 1 (List.length (x :: r) : Int) = some r := by
        have := cutP_from (l := x :: r) (a := 1) (by simp)
        simpa using this
      rw [e1, idx_zero, e3]
      by_cases hx : x = 91
      · subst hx; rfl
      · have e : ((x.toNat : Int) == (91 : Int)) = false := by
          rw [beq_eq_false_iff_ne]
          intro h
          apply hx
          have : x.toNat = (91 : UInt8).toNat := by simp; omega
          exact UInt8.toNat_inj.1 this
        simp [e, if_neg hx]
  have stop : ∀ t : List UInt8, ref3_May_l1 t 2 = some (.inr (.inl t)) := fun t => by unfold ref3_May_l1; simp
  have hl : loopP (fun z : List UInt8 × Int => ref3_May_l1 z.1 z.2) (s, 0) = some (.inl (trim1 (trim1 s))) := by
    have w1 : IntKind.i64.wrap (0 + 1) = 1 := by decide
    have w2 : IntKind.i64.wrap (1 + 1) = 2 := by decide
    rw [loopP_eq]
    simp only [step s 0 (by omega)]
    cases s with
    | nil => rfl
    | cons x r =>
      rw [trim1_cons]
      by_cases hx : x = 91
      · simp only [if_pos hx, Option.bind_some, Sum.elim_inl, w1]
        rw [loopP_eq]
        simp only [step r 1 (by omega)]
        cases r with
        | nil => rfl
        | cons y q =>
          by_cases hy : y = 91
          · simp only [if_pos hy, Option.bind_some, Sum.elim_inl, w2]
            rw [loopP_eq]
            simp only [stop]
            rw [trim1_cons, if_pos hy]
            rfl
          · simp only [if_neg hy, Option.bind_some, Sum.elim_inr]
            rw [trim1_cons, if_neg hy]
      · simp only [if_neg hx, Option.bind_some, Sum.elim_inr]
        rw [trim1_cons, if_neg hx]
  have h1 := trim1_len s
  have h2 := trim1_len (trim1 s)
  unfold ref3_May
  rw [hl]
  show ref3_May_k2 _ = _
  unfold ref3_May_k2 mayN
  rw [ref3_Class_eq (by unfold Len at *; omega)]
  cases trim1 (trim1 s) == [73] <;> rfl
theorem ref3_Ref_eq {s : List UInt8} (h : Len s) : ref3_Ref s = some (refN s) := by
  unfold ref3_Ref
  rw [ref3_May_eq h]
  unfold refN
  cases s == [73] <;> rfl
end Go.Proofs.YtooagifeniibcaaGreat
namespace Go.Proofs.YtooagifeniibcaaGreat
noncomputable def op_a (v1 : Int) : Bool :=
  ((((v1 == (1 : Int)) || (v1 == (3 : Int))) || (v1 == (4 : Int))) || (op_Jumps v1))
end Go.Proofs.YtooagifeniibcaaGreat
namespace Go.Proofs.YtooagifeniibcaaGreat
set_option linter.unusedSimpArgs false
set_option linter.unusedVariables false
noncomputable def mayCN (o : Int) (s : List UInt8) : Bool := cond (op_typed o) (refN s) (cond (op_c o) (classN s) (s == []))
noncomputable def mayMN (o : Int) (s : List UInt8) : Bool := cond (op_m o) (nameN s && !(s == [36, 105, 110, 105, 116])) (s == [])
noncomputable def mayIns (x : ApiIns) : Bool := (op_known x.Op && op_mayA x.Op x.A) && mayCN x.Op x.C && mayMN x.Op x.M
theorem op_mayC_eq {o : Int} {s : List UInt8} (h : Len s) : op_mayC o s = some (mayCN o s) := by
  unfold op_mayC mayCN
  rw [kind_Ref_eq h, kind_Class_eq h]
  cases op_typed o <;> cases op_c o <;> rfl
theorem op_mayM_eq {o : Int} {s : List UInt8} (h : Len s) : op_mayM o s = some (mayMN o s) := by
  unfold op_mayM mayMN
  rw [kind_Name_eq h]
  cases op_m o <;> rfl
theorem op_May_eq {x : ApiIns} (hC : Len x.C) (hM : Len x.M) : op_May x = some (mayIns x) := by
  unfold op_May mayIns
  rw [op_mayC_eq hC, op_mayM_eq hM]
  cases (op_known x.Op && op_mayA x.Op x.A) <;> cases mayCN x.Op x.C <;> rfl
theorem mayA_eq (o A : Int) : op_mayA o A = cond (op_a o) (ref3_number o A) (A == 0) := by
  have e1 : decide (A ≤ 2147483647) = decide (A < 2147483648) := by congr 1; apply propext; omega
  have e2 : decide (A ≤ 15) = decide (A < 16) := by congr 1; apply propext; omega
  have e3 : decide (A ≤ 99) = decide (A < 100) := by congr 1; apply propext; omega
  unfold op_mayA op_a ref3_number ref3_Jumps op_Jumps op_between
  rw [e1, e2, e3]
  by_cases h1 : o = 1
  · subst h1; rfl
  by_cases h3 : o = 3
  · subst h3; rfl
  by_cases h4 : o = 4
  · subst h4; rfl
  have b1 : (o == (1 : Int)) = false := beq_eq_false_iff_ne.2 h1
  have b3 : (o == (3 : Int)) = false := beq_eq_false_iff_ne.2 h3
  have b4 : (o == (4 : Int)) = false := beq_eq_false_iff_ne.2 h4
  rw [b1, b3, b4]
  cases (decide (20 ≤ o) && decide (o ≤ 36)) <;> rfl
theorem parts_tab : ∀ k : _root_.Fin 62, (ref3_parts (k.val : Int)).1 = op_a (k.val : Int) ∧ (ref3_parts (k.val : Int)).2.1 = cond (op_typed (k.val : Int)) 2 (cond (op_c (k.val : Int)) 1 0) ∧ (ref3_parts (k.val : Int)).2.2 = op_m (k.val : Int) := by
  decide +kernel
theorem ref3_MayIns_eq {x : ApiIns} (hC : Len x.C) (hM : Len x.M) : ref3_MayIns x = some (mayIns x) := by
  unfold ref3_MayIns mayIns op_known op_between
  by_cases hk : 1 ≤ x.Op ∧ x.Op ≤ 61
  · obtain ⟨k, hkk⟩ : ∃ k : Nat, x.Op = k := ⟨x.Op.toNat, by omega⟩
    obtain ⟨p1, p2, p3⟩ := parts_tab ⟨k, by omega⟩
    simp only at p1 p2 p3
    rw [hkk] at hk ⊢
    rw [mayA_eq, p1, p2, p3, decide_eq_false (show ¬ (k : Int) < 1 by omega), decide_eq_false (show ¬ (61 : Int) < k by omega), decide_eq_true hk.1, decide_eq_true hk.2, ref3_Class_eq hC, ref3_Ref_eq hC, ref3_Name_eq hM]
    unfold mayCN mayMN
    cases op_a (k : Int) <;> cases ref3_number (k : Int) x.A <;> cases (x.A == 0) <;> cases op_typed (k : Int) <;> cases op_c (k : Int) <;> cases op_m (k : Int) <;> cases (x.C == []) <;> cases classN x.C <;> cases refN x.C <;> rfl
  · have h1 : (decide (x.Op < 1) || decide (61 < x.Op)) = true := by
      rw [Bool.or_eq_true]
      by_cases h : x.Op < 1
      · exact .inl (decide_eq_true h)
      · exact .inr (decide_eq_true (by omega))
    have h2 : (decide (1 ≤ x.Op) && decide (x.Op ≤ 61)) = false := by
      rw [Bool.and_eq_false_iff]
      by_cases h : 1 ≤ x.Op
      · exact .inr (decide_eq_false (by omega))
      · exact .inl (decide_eq_false h)
    rw [h1, h2]
    rfl
end Go.Proofs.YtooagifeniibcaaGreat
namespace Go.Proofs.YtooagifeniibcaaGreat
set_option linter.unusedSimpArgs false
set_option linter.unusedVariables false
def ixF {α : Type} (p : α → Bool) : Nat → List α → Int
  | _, [] => -1
  | k, x :: r => cond (p x) (k : Int) (ixF p (k + 1) r)
theorem ixF_any {α : Type} (p : α → Bool) : ∀ (k : Nat) (l : List α), decide (0 ≤ ixF p k l) = l.any p
  | _, [] => rfl
  | k, x :: r => by
    unfold ixF
    rw [List.any_cons]
    cases p x with
    | true => exact decide_eq_true (show (0 : Int) ≤ (k : Int) by omega)
    | false => exact ixF_any p (k + 1) r
theorem index_loop {α : Type} {body : Int → Option (Sum Int (Sum Unit Int))} {l : List α} {p : α → Bool} (hl : l.length ≤ 9223372036854775807)
    (hb : ∀ (i : Nat) x, l[i]? = some x → body (i : Int) = cond (p x) (some (.inr (.inr (i : Int)))) (some (.inl (IntKind.i64.wrap ((i : Int) + 1)))))
    (he : body (l.length : Int) = some (.inr (.inl ()))) :
    (loopP body 0).bind (fun o => leave o (fun _ => some (-1 : Int)) some) = some (ixF p 0 l) := by
  have key : ∀ (r pre : List α), l = pre ++ r → (loopP body (pre.length : Int)).bind (fun o => leave o (fun _ => some (-1 : Int)) some) = some (ixF p pre.length r) := by
    intro r
    induction r with
    | nil =>
      intro pre h
      rw [List.append_nil] at h
      subst h
      rw [loopP_eq, he]
      rfl
    | cons x r ih =>
      intro pre h
      have hlen : l.length = pre.length + (r.length + 1) := by rw [h]; simp
      have hx : l[pre.length]? = some x := by rw [h]; simp
      rw [loopP_eq, hb _ x hx]
      unfold ixF
      cases p x with
      | true => rfl
      | false =>
        rw [wrap_succ (by omega)]
        have := ih (pre ++ [x]) (by rw [h]; simp)
        rw [show (pre ++ [x]).length = pre.length + 1 by simp] at this
        exact this
  exact key l [] rfl
def uB {α : Type} (ok : α → Bool) (nm : α → List UInt8) : List α → List α → Bool
  | _, [] => false
  | pre, x :: r => (!ok x || pre.any (fun y => nm x == nm y)) || uB ok nm (pre ++ [x]) r
theorem uniq_loop {α : Type} {body : Int → Option (Sum Int (Sum Unit Bool))} {l : List α} {ok : α → Bool} {nm : α → List UInt8} (hl : l.length ≤ 9223372036854775807)
    (hb : ∀ (i : Nat) x, l[i]? = some x → body (i : Int) = cond (!ok x || (l.take i).any (fun y => nm x == nm y)) (some (.inr (.inr false))) (some (.inl (IntKind.i64.wrap ((i : Int) + 1)))))
    (he : body (l.length : Int) = some (.inr (.inl ()))) {k : Option Bool} :
    (loopP body 0).bind (fun o => leave o (fun _ => k) some) = cond (uB ok nm [] l) (some false) k := by
  have key : ∀ (r pre : List α), l = pre ++ r → (loopP body (pre.length : Int)).bind (fun o => leave o (fun _ => k) some) = cond (uB ok nm pre r) (some false) k := by
    intro r
    induction r with
    | nil =>
      intro pre h
      rw [List.append_nil] at h
      subst h
      rw [loopP_eq, he]
      rfl
    | cons x r ih =>
      intro pre h
      have hlen : l.length = pre.length + (r.length + 1) := by rw [h]; simp
      have hx : l[pre.length]? = some x := by rw [h]; simp
      have ht : l.take pre.length = pre := by rw [h]; simp
      rw [loopP_eq, hb _ x hx, ht]
      unfold uB
      cases !ok x || pre.any (fun y => nm x == nm y) with
      | true => rfl
      | false =>
        rw [wrap_succ (by omega)]
        have := ih (pre ++ [x]) (by rw [h]; simp)
        rw [show (pre ++ [x]).length = pre.length + 1 by simp] at this
        exact this
  exact key l [] rfl
abbrev LenL {α : Type} (l : List α) : Prop := l.length ≤ 9223372036854775807
theorem here {α : Type} {l : List α} {i : Nat} {x : α} (h : l[i]? = some x) : decide ((i : Int) < (l.length : Int)) = true :=
  decide_eq_true (by have := (List.getElem?_eq_some_iff.1 h).1; omega)
theorem past {α : Type} (l : List α) : decide ((l.length : Int) < (l.length : Int)) = false := decide_eq_false (by omega)
theorem hasField {l : List ApiField} (hl : LenL l) (n t : List UInt8) (s : Bool) : slices_ContainsFunc_api_Field_api_Field l n t s = some (l.any fun y => n == y.Name) := by
  unfold slices_ContainsFunc_api_Field_api_Field slices_IndexFunc_api_Field_api_Field
  rw [show ((loopP (fun z => slices_IndexFunc_api_Field_api_Field_l1 l n t s z) 0).bind fun o => leave o (fun b => slices_IndexFunc_api_Field_api_Field_k2) some) = _ from index_loop (p := fun y : ApiField => n == y.Name) hl
    (fun i x hx => by unfold slices_IndexFunc_api_Field_api_Field_l1; rw [here hx, idx_nat, hx]; rfl) (by unfold slices_IndexFunc_api_Field_api_Field_l1; rw [past]; rfl)]
  exact congrArg some (ixF_any _ 0 l)
theorem hasMethod {l : List ApiMethod} (hl : LenL l) (n : List UInt8) (a b c d e f g h i) : slices_ContainsFunc_api_Method_api_Method l n a b c d e f g h i = some (l.any fun y => n == y.Name) := by
  unfold slices_ContainsFunc_api_Method_api_Method slices_IndexFunc_api_Method_api_Method
  rw [show ((loopP (fun z => slices_IndexFunc_api_Method_api_Method_l1 l n a b c d e f g h i z) 0).bind fun o => leave o (fun b => slices_IndexFunc_api_Method_api_Method_k2) some) = _ from index_loop (p := fun y : ApiMethod => n == y.Name) hl
    (fun i x hx => by unfold slices_IndexFunc_api_Method_api_Method_l1; rw [here hx, idx_nat, hx]; rfl) (by unfold slices_IndexFunc_api_Method_api_Method_l1; rw [past]; rfl)]
  exact congrArg some (ixF_any _ 0 l)
theorem hasName {l : List (List UInt8)} (hl : LenL l) (n : List UInt8) : slices_ContainsFunc_string_string_s3 l n = some (l.any fun y => n == y) := by
  unfold slices_ContainsFunc_string_string_s3 slices_IndexFunc_string_string_s3
  rw [show ((loopP (fun z => slices_IndexFunc_string_string_s3_l1 l n z) 0).bind fun o => leave o (fun b => slices_IndexFunc_string_string_s3_k2) some) = _ from index_loop (p := fun y : List UInt8 => n == y) hl
    (fun i x hx => by unfold slices_IndexFunc_string_string_s3_l1; rw [here hx, idx_nat, hx]; rfl) (by unfold slices_IndexFunc_string_string_s3_l1; rw [past]; rfl)]
  exact congrArg some (ixF_any _ 0 l)
noncomputable def fieldN (f : ApiField) : Bool := (nameN f.Name && !(f.Name == [36, 105, 110, 105, 116])) && mayN f.Type_
theorem class_May_2_eq {f : ApiField} (h1 : Len f.Name) (h2 : Len f.Type_) : class_May_2 f = some (fieldN f) := by
  unfold class_May_2 fieldN
  rw [kind_Name_eq h1, kind_May_eq h2, Option.bind_some]
  cases (nameN f.Name && !(f.Name == [36, 105, 110, 105, 116])) <;> rfl
theorem allFields {l : List ApiField} (hl : LenL l) (h : ∀ f ∈ l, Len f.Name ∧ Len f.Type_) (n : Int) : class_all_api_Field l n = cond (uB fieldN (·.Name) [] l) (some false) (some (decide ((l.length : Int) ≤ n))) := by
  unfold class_all_api_Field
  refine uniq_loop (ok := fieldN) (nm := (·.Name)) hl (fun i x hx => ?_) ?_
  · have hm := h x (List.mem_of_getElem? hx)
    have hi := (List.getElem?_eq_some_iff.1 hx).1
    unfold class_all_api_Field_l1
    rw [here hx, idx_nat, hx]
    simp only [Option.bind_some, cond_true]
    rw [class_May_2_eq hm.1 hm.2, Option.bind_some, cutP_to (by omega), Option.bind_some, hasField (by unfold LenL at *; rw [List.length_take]; omega)]
    cases fieldN x <;> rfl
  · unfold class_all_api_Field_l1
    rw [past]; rfl
theorem allNames {l : List (List UInt8)} (hl : LenL l) (h : ∀ s ∈ l, Len s) (n : Int) : class_all_string l n = cond (uB classN id [] l) (some false) (some (decide ((l.length : Int) ≤ n))) := by
  unfold class_all_string
  refine uniq_loop (ok := classN) (nm := id) hl (fun i x hx => ?_) ?_
  · have hm := h x (List.mem_of_getElem? hx)
    have hi := (List.getElem?_eq_some_iff.1 hx).1
    unfold class_all_string_l1
    rw [here hx, idx_nat, hx]
    simp only [Option.bind_some, cond_true]
    rw [kind_Class_eq hm, Option.bind_some, cutP_to (by omega), Option.bind_some, hasName (by unfold LenL at *; rw [List.length_take]; omega)]
    cases classN x <;> rfl
  · unfold class_all_string_l1
    rw [past]; rfl
noncomputable def typesN (l : List (List UInt8)) : Bool := !(l.any fun s => !mayN s)
theorem class_types_eq {l : List (List UInt8)} (hl : LenL l) (h : ∀ s ∈ l, Len s) : class_types l = some (typesN l) := by
  unfold class_types slices_ContainsFunc_string_string slices_IndexFunc_string_string
  rw [show ((loopP (fun z => slices_IndexFunc_string_string_l1 l z) 0).bind fun o => leave o (fun b => slices_IndexFunc_string_string_k2) some) = _ from index_loop (p := fun s => !mayN s) hl
    (fun i x hx => by
      unfold slices_IndexFunc_string_string_l1 class_types_1
      rw [here hx, idx_nat, hx]
      simp only [Option.bind_some, cond_true]
      rw [kind_May_eq (h x (List.mem_of_getElem? hx))]
      rfl) (by unfold slices_IndexFunc_string_string_l1; rw [past]; rfl)]
  rw [Option.bind_some, ixF_any]
  rfl
noncomputable def insN (n : Int) (x : ApiIns) : Bool := (!mayIns x) || (op_Jumps x.Op && decide (n ≤ x.A))
noncomputable def instrN (c : List ApiIns) : Bool := class_between (c.length : Int) 1 100 && (c.getLast?.elim false (fun y => op_Ends y.Op) && !(c.any (insN (c.length : Int))))
theorem class_instructions_eq {m : ApiMethod} (hl : LenL m.Code) (h : ∀ x ∈ m.Code, Len x.C ∧ Len x.M) : class_instructions m = some (instrN m.Code) := by
  have hc : slices_ContainsFunc_api_Ins_api_Ins m.Code (m.Code.length : Int) = some (m.Code.any (insN (m.Code.length : Int))) := by
    unfold slices_ContainsFunc_api_Ins_api_Ins slices_IndexFunc_api_Ins_api_Ins
    rw [show ((loopP (fun z => slices_IndexFunc_api_Ins_api_Ins_l1 m.Code (m.Code.length : Int) z) 0).bind fun o => leave o (fun b => slices_IndexFunc_api_Ins_api_Ins_k2) some) = _ from index_loop (p := insN (m.Code.length : Int)) hl
      (fun i x hx => by
        have hm := h x (List.mem_of_getElem? hx)
        unfold slices_IndexFunc_api_Ins_api_Ins_l1 class_instructions_1
        rw [here hx, idx_nat, hx]
        simp only [Option.bind_some, cond_true]
        rw [op_May_eq hm.1 hm.2]
        rfl) (by unfold slices_IndexFunc_api_Ins_api_Ins_l1; rw [past]; rfl)]
    exact congrArg some (ixF_any _ 0 _)
  unfold class_instructions instrN
  rw [hc]
  cases hb : class_between (m.Code.length : Int) 1 100 with
  | false => rfl
  | true =>
    have hb' : (decide (1 ≤ (m.Code.length : Int)) && decide ((m.Code.length : Int) ≤ 100)) = true := hb
    simp only [Bool.and_eq_true, decide_eq_true_eq] at hb'
    have e : IntKind.i64.wrap ((m.Code.length : Int) - 1) = ((m.Code.length - 1 : Nat) : Int) := by
      rw [wrapI (by omega) (by omega)]; omega
    rw [e, idx_nat, ← List.getLast?_eq_getElem?]
    cases hg : m.Code.getLast? with
    | none =>
      rw [List.getLast?_eq_none_iff] at hg
      rw [hg] at hb'
      simp at hb'
    | some y =>
      simp only [Option.bind_some, Bool.not_true, cond_false, Option.elim_some, Bool.true_and]
      cases op_Ends y.Op <;> rfl
noncomputable def trapN (n : Int) (y : ApiTrap) : Bool := (((decide (y.From < 0) || decide (y.To ≤ y.From)) || decide (n < y.To)) || !(class_between y.At 0 (IntKind.i64.wrap (n - 1)))) || (!(y.C == []) && !classN y.C)
noncomputable def trapsN (m : ApiMethod) : Bool := !(m.Traps.any (trapN (m.Code.length : Int))) && decide ((m.Traps.length : Int) ≤ 6)
theorem class_traps_eq {m : ApiMethod} (hl : LenL m.Traps) (h : ∀ x ∈ m.Traps, Len x.C) : class_traps m = some (trapsN m) := by
  unfold class_traps slices_ContainsFunc_api_Trap_api_Trap slices_IndexFunc_api_Trap_api_Trap
  rw [show ((loopP (fun z => slices_IndexFunc_api_Trap_api_Trap_l1 m.Traps m.Name m.Params m.Ret m.Static m.Abstract m.Locals m.Stack m.Code m.Maps m.Traps z) 0).bind fun o => leave o (fun b => slices_IndexFunc_api_Trap_api_Trap_k2) some) = _ from index_loop (p := trapN (m.Code.length : Int)) hl
    (fun i x hx => by
      have hm := h x (List.mem_of_getElem? hx)
      unfold slices_IndexFunc_api_Trap_api_Trap_l1 class_traps_1 trapN
      rw [here hx, idx_nat, hx]
      simp only [Option.bind_some, cond_true]
      rw [kind_Class_eq hm]
      cases (((decide (x.From < 0) || decide (x.To ≤ x.From)) || decide ((m.Code.length : Int) < x.To)) || !(class_between x.At 0 (IntKind.i64.wrap ((m.Code.length : Int) - 1)))) with
      | true => rfl
      | false => cases (x.C == []) <;> rfl) (by unfold slices_IndexFunc_api_Trap_api_Trap_l1; rw [past]; rfl)]
  rw [Option.bind_some, ixF_any]
  rfl
end Go.Proofs.YtooagifeniibcaaGreat
namespace Go.Proofs.YtooagifeniibcaaGreat
set_option linter.unusedSimpArgs false
set_option linter.unusedVariables false
def gB {α : Type} (bad : List α → α → Bool) : List α → List α → Bool
  | _, [] => false
  | pre, x :: r => bad pre x || gB bad (pre ++ [x]) r
theorem gen_loop {α : Type} {body : Int → Option (Sum Int (Sum Unit Bool))} {l : List α} {bad : List α → α → Bool} (hl : l.length ≤ 9223372036854775807)
    (hb : ∀ (i : Nat) x, l[i]? = some x → body (i : Int) = cond (bad (l.take i) x) (some (.inr (.inr false))) (some (.inl (IntKind.i64.wrap ((i : Int) + 1)))))
    (he : body (l.length : Int) = some (.inr (.inl ()))) : loopP body 0 = some (cond (gB bad [] l) (.inr false) (.inl ())) := by
  have key : ∀ (r pre : List α), l = pre ++ r → loopP body (pre.length : Int) = some (cond (gB bad pre r) (.inr false) (.inl ())) := by
    intro r
    induction r with
    | nil =>
      intro pre h
      rw [List.append_nil] at h
      subst h
      rw [loopP_eq, he]
      rfl
    | cons x r ih =>
      intro pre h
      have hlen : l.length = pre.length + (r.length + 1) := by rw [h]; simp
      have hx : l[pre.length]? = some x := by rw [h]; simp
      have ht : l.take pre.length = pre := by rw [h]; simp
      rw [loopP_eq, hb _ x hx, ht]
      unfold gB
      cases bad pre x with
      | true => rfl
      | false =>
        rw [wrap_succ (by omega)]
        have := ih (pre ++ [x]) (by rw [h]; simp)
        rw [show (pre ++ [x]).length = pre.length + 1 by simp] at this
        exact this
  exact key l [] rfl
theorem gB_any {α : Type} (p : α → Bool) : ∀ (pre r : List α), gB (fun _ x => p x) pre r = r.any p
  | _, [] => rfl
  | pre, x :: r => by
    show (p x || gB _ _ r) = _
    rw [gB_any p (pre ++ [x]) r, List.any_cons]
theorem uB_gB {α : Type} (ok : α → Bool) (nm : α → List UInt8) : ∀ (pre r : List α), uB ok nm pre r = gB (fun pre x => !ok x || pre.any (fun y => nm x == nm y)) pre r
  | _, [] => rfl
  | pre, x :: r => by
    show (_ || uB ok nm (pre ++ [x]) r) = (_ || gB _ (pre ++ [x]) r)
    rw [uB_gB ok nm (pre ++ [x]) r]
theorem list_loop {α : Type} {body : Int → Option (Sum Int (Sum Unit Bool))} {l : List α} {bad : α → Bool} (hl : l.length ≤ 9223372036854775807)
    (hb : ∀ (i : Nat) x, l[i]? = some x → body (i : Int) = cond (bad x) (some (.inr (.inr false))) (some (.inl (IntKind.i64.wrap ((i : Int) + 1)))))
    (he : body (l.length : Int) = some (.inr (.inl ()))) : loopP body 0 = some (cond (l.any bad) (.inr false) (.inl ())) := by
  rw [gen_loop (bad := fun _ x => bad x) hl hb he, gB_any]
noncomputable def slotN (v : List UInt8) : Bool := (((v == [73]) || (v == [78])) || (v == [84])) || refN v
theorem class_slot_eq {s : List UInt8} (h : Len s) : class_slot s = some (slotN s) := by
  unfold class_slot slotN
  rw [kind_Ref_eq h]
  cases (((s == [73]) || (s == [78])) || (s == [84])) <;> rfl
noncomputable def slotsN (l : List (List UInt8)) : Bool := !(l.any fun s => !slotN s)
theorem class_types_s2_eq {l : List (List UInt8)} (hl : LenL l) (h : ∀ s ∈ l, Len s) : class_types_s2 l = some (slotsN l) := by
  unfold class_types_s2 slices_ContainsFunc_string_string_s2 slices_IndexFunc_string_string_s2
  rw [show ((loopP (fun z => slices_IndexFunc_string_string_s2_l1 l z) 0).bind fun o => leave o (fun b => slices_IndexFunc_string_string_s2_k2) some) = _ from index_loop (p := fun s => !slotN s) hl
    (fun i x hx => by
      unfold slices_IndexFunc_string_string_s2_l1 class_types_1_s2
      rw [here hx, idx_nat, hx]
      simp only [Option.bind_some, cond_true]
      rw [class_slot_eq (h x (List.mem_of_getElem? hx))]
      rfl) (by unfold slices_IndexFunc_string_string_s2_l1; rw [past]; rfl)]
  rw [Option.bind_some, ixF_any]
  rfl
theorem hasText {l : List (List UInt8)} (hl : LenL l) (n : List UInt8) : slices_Contains_string_string l n = some (l.any fun y => n == y) := by
  unfold slices_Contains_string_string slices_Index_string_string
  rw [show ((loopP (fun z => slices_Index_string_string_l1 l n z) 0).bind fun o => leave o (fun b => slices_Index_string_string_k2) some) = _ from index_loop (p := fun y : List UInt8 => n == y) hl
    (fun i x hx => by unfold slices_Index_string_string_l1; rw [here hx, idx_nat, hx]; rfl) (by unfold slices_Index_string_string_l1; rw [past]; rfl)]
  exact congrArg some (ixF_any _ 0 l)
noncomputable def mapB (m : ApiMethod) (pre : List ApiMap) (x : ApiMap) : Bool :=
  ((!(decide (0 ≤ x.At) && decide (x.At < (m.Code.length : Int)))) || (pre.getLast?.elim false (fun y => decide (x.At ≤ y.At)))) ||
  (((!((x.Locals.length : Int) == m.Locals)) || decide (m.Stack < (x.Stack.length : Int))) || ((!slotsN x.Locals || !slotsN x.Stack) || x.Stack.any (fun y => [84] == y)))
noncomputable def mapsN (m : ApiMethod) : Bool := !(gB (mapB m) [] m.Maps) && decide ((m.Maps.length : Int) ≤ 100)
structure MapsIn (m : ApiMethod) : Prop where
  len : LenL m.Maps
  code : LenL m.Code
  all : ∀ x ∈ m.Maps, (LenL x.Locals ∧ ∀ s ∈ x.Locals, Len s) ∧ (LenL x.Stack ∧ ∀ s ∈ x.Stack, Len s)
theorem take_last {α : Type} {l : List α} {i : Nat} (h : i < l.length) (h0 : 0 < i) : (l.take i).getLast? = l[i - 1]? := by
  rw [List.getLast?_eq_getElem?, List.getElem?_take_of_lt (by simp; omega)]
  congr 1
  simp; omega
theorem class_maps_eq {m : ApiMethod} (h : MapsIn m) : class_maps m = some (mapsN m) := by
  have j2 : ∀ (i : Nat) (x : ApiMap) (b : Bool), x ∈ m.Maps → class_maps_j2 m (i : Int) x b = cond (b || (((!((x.Locals.length : Int) == m.Locals)) || decide (m.Stack < (x.Stack.length : Int))) || ((!slotsN x.Locals || !slotsN x.Stack) || x.Stack.any (fun y => [84] == y)))) (some (.inr (.inr false))) (some (.inl (IntKind.i64.wrap ((i : Int) + 1)))) := fun i x b hx => by
    obtain ⟨⟨h1, h2⟩, h3, h4⟩ := h.all x hx
    unfold class_maps_j2
    rw [class_types_s2_eq h1 h2, class_types_s2_eq h3 h4, hasText h3]
    cases b with
    | true => rfl
    | false =>
      cases ((!((x.Locals.length : Int) == m.Locals)) || decide (m.Stack < (x.Stack.length : Int))) with
      | true => rfl
      | false =>
        cases slotsN x.Locals with
        | false => rfl
        | true => cases slotsN x.Stack <;> rfl
  have hl : loopP (fun z => class_maps_l3 m z) 0 = _ := gen_loop (bad := mapB m) h.len (fun i x hx => by
    have hm := List.mem_of_getElem? hx
    have hi := (List.getElem?_eq_some_iff.1 hx).1
    have hlen := h.len
    have hcode := h.code
    unfold LenL at hlen hcode
    show class_maps_l3 m (i : Int) = _
    unfold class_maps_l3 mapB
    rw [here hx, idx_nat, hx]
    simp only [Option.bind_some, cond_true]
    have hb : class_between x.At 0 (IntKind.i64.wrap ((m.Code.length : Int) - 1)) = (decide (0 ≤ x.At) && decide (x.At < (m.Code.length : Int))) := by
      show (decide (0 ≤ x.At) && decide (x.At ≤ IntKind.i64.wrap ((m.Code.length : Int) - 1))) = _
      rw [wrapI (by omega) (by omega)]
      congr 1
      exact decide_eq_decide.2 (by omega)
    rw [hb]
    cases (decide (0 ≤ x.At) && decide (x.At < (m.Code.length : Int))) with
    | false => exact j2 i x true hm
    | true =>
      rcases Nat.eq_zero_or_pos i with h0 | h0
      · subst h0
        exact j2 0 x false hm
      · rw [decide_eq_true (show (0 : Int) < (i : Int) by omega), take_last hi h0]
        have e : IntKind.i64.wrap ((i : Int) - 1) = ((i - 1 : Nat) : Int) := by
          rw [wrapI (by omega) (by omega)]; omega
        rw [e, idx_nat, List.getElem?_eq_getElem (show i - 1 < m.Maps.length by omega)]
        exact j2 i x _ hm) (by show class_maps_l3 m (m.Maps.length : Int) = _; unfold class_maps_l3; rw [past]; rfl)
  unfold class_maps mapsN
  rw [hl]
  cases gB (mapB m) [] m.Maps <;> rfl
end Go.Proofs.YtooagifeniibcaaGreat
namespace Go.Proofs.YtooagifeniibcaaGreat
set_option linter.unusedSimpArgs false
set_option linter.unusedVariables false
theorem slot_loc (v : List UInt8) : (cond (!(v == [84]) && !(v == [78])) (!mayN v) false) = !slotN v := by
  by_cases h1 : v = [73]
  · subst h1; decide +kernel
  by_cases h2 : v = [78]
  · subst h2; decide +kernel
  by_cases h3 : v = [84]
  · subst h3; decide +kernel
  unfold slotN refN
  rw [beq_eq_false_iff_ne.2 h1, beq_eq_false_iff_ne.2 h2, beq_eq_false_iff_ne.2 h3]
  simp
theorem slot_stk (v : List UInt8) : (cond (!(v == [78])) (!mayN v) false) = (!slotN v || ([84] == v)) := by
  by_cases h1 : v = [73]
  · subst h1; decide +kernel
  by_cases h2 : v = [78]
  · subst h2; decide +kernel
  by_cases h3 : v = [84]
  · subst h3; decide +kernel
  unfold slotN refN
  rw [beq_eq_false_iff_ne.2 h1, beq_eq_false_iff_ne.2 h2, beq_eq_false_iff_ne.2 h3, beq_eq_false_iff_ne.2 (Ne.symm h3)]
  simp
theorem any_or {α : Type} (l : List α) (p q : α → Bool) : l.any (fun x => p x || q x) = (l.any p || l.any q) := by
  induction l with
  | nil => rfl
  | cons x l ih =>
    simp only [List.any_cons, ih]
    cases p x <;> cases q x <;> simp
theorem ref3_maps_eq {m : ApiMethod} (h : MapsIn m) : ref3_maps m = some (mapsN m) := by
  have l7 : ∀ x : ApiMap, x ∈ m.Maps → loopP (fun z => ref3_maps_l7 x z) 0 = some (cond (!slotsN x.Locals) (.inr false) (.inl ())) := fun x hx => by
    obtain ⟨⟨h1, h2⟩, h3, h4⟩ := h.all x hx
    have := list_loop (body := fun z => ref3_maps_l7 x z) (bad := fun v => !slotN v) h1 (fun i v hv => by
      show ref3_maps_l7 x (i : Int) = _
      unfold ref3_maps_l7
      rw [here hv, idx_nat, hv]
      simp only [Option.bind_some, cond_true]
      rw [ref3_May_eq (h2 v (List.mem_of_getElem? hv)), ← slot_loc]
      cases (!(v == [84]) && !(v == [78])) <;> rfl) (by show ref3_maps_l7 x (x.Locals.length : Int) = _; unfold ref3_maps_l7; rw [past]; rfl)
    rw [this]
    unfold slotsN
    rw [Bool.not_not]
  have l9 : ∀ x : ApiMap, x ∈ m.Maps → loopP (fun z => ref3_maps_l9 x z) 0 = some (cond (!slotsN x.Stack || x.Stack.any (fun y => [84] == y)) (.inr false) (.inl ())) := fun x hx => by
    obtain ⟨⟨h1, h2⟩, h3, h4⟩ := h.all x hx
    have := list_loop (body := fun z => ref3_maps_l9 x z) (bad := fun v => !slotN v || ([84] == v)) h3 (fun i v hv => by
      show ref3_maps_l9 x (i : Int) = _
      unfold ref3_maps_l9
      rw [here hv, idx_nat, hv]
      simp only [Option.bind_some, cond_true]
      rw [ref3_May_eq (h4 v (List.mem_of_getElem? hv)), ← slot_stk]
      cases (!(v == [78])) <;> rfl) (by show ref3_maps_l9 x (x.Stack.length : Int) = _; unfold ref3_maps_l9; rw [past]; rfl)
    rw [this, any_or]
    unfold slotsN
    rw [Bool.not_not]
  have j6 : ∀ (i : Nat) (x : ApiMap) (b : Bool), x ∈ m.Maps → ref3_maps_j6 (i : Int) x b = cond (b || ((!slotsN x.Locals || !slotsN x.Stack) || x.Stack.any (fun y => [84] == y))) (some (.inr (.inr false))) (some (.inl (IntKind.i64.wrap ((i : Int) + 1)))) := fun i x b hx => by
    unfold ref3_maps_j6
    rw [l7 x hx]
    cases b with
    | true => rfl
    | false =>
      cases slotsN x.Locals with
      | false => rfl
      | true =>
        show ref3_maps_k8 (i : Int) x = _
        unfold ref3_maps_k8
        rw [l9 x hx]
        cases slotsN x.Stack with
        | false => rfl
        | true => cases x.Stack.any (fun y => [84] == y) <;> rfl
  have hl : loopP (fun z => ref3_maps_l11 m z) 0 = _ := gen_loop (bad := mapB m) h.len (fun i x hx => by
    have hm := List.mem_of_getElem? hx
    have hi := (List.getElem?_eq_some_iff.1 hx).1
    have hlen := h.len
    have hcode := h.code
    unfold LenL at hlen hcode
    show ref3_maps_l11 m (i : Int) = _
    unfold ref3_maps_l11 mapB
    rw [here hx, idx_nat, hx]
    simp only [Option.bind_some, cond_true]
    by_cases h1 : x.At < 0
    · rw [decide_eq_true h1, decide_eq_false (show ¬ 0 ≤ x.At by omega)]
      exact j6 i x true hm
    rw [decide_eq_false h1, decide_eq_true (show 0 ≤ x.At by omega)]
    by_cases h2 : (m.Code.length : Int) ≤ x.At
    · rw [decide_eq_true h2, decide_eq_false (show ¬ x.At < (m.Code.length : Int) by omega)]
      exact j6 i x true hm
    rw [decide_eq_false h2, decide_eq_true (show x.At < (m.Code.length : Int) by omega)]
    rcases Nat.eq_zero_or_pos i with h0 | h0
    · subst h0
      show cond (!((x.Locals.length : Int) == m.Locals)) (ref3_maps_j6 ((0 : Nat) : Int) x true) (ref3_maps_j6 ((0 : Nat) : Int) x (decide (m.Stack < (x.Stack.length : Int)))) = _
      cases (!((x.Locals.length : Int) == m.Locals)) with
      | true => exact j6 0 x true hm
      | false => exact j6 0 x _ hm
    · rw [decide_eq_true (show (0 : Int) < (i : Int) by omega), take_last hi h0]
      have e : IntKind.i64.wrap ((i : Int) - 1) = ((i - 1 : Nat) : Int) := by
        rw [wrapI (by omega) (by omega)]; omega
      rw [e, idx_nat, List.getElem?_eq_getElem (show i - 1 < m.Maps.length by omega)]
      simp only [cond_true, cond_false, Option.bind_some, Option.elim_some]
      cases decide (x.At ≤ m.Maps[i - 1].At) with
      | true => exact j6 i x true hm
      | false =>
        cases (!((x.Locals.length : Int) == m.Locals)) with
        | true => exact j6 i x true hm
        | false => exact j6 i x _ hm) (by show ref3_maps_l11 m (m.Maps.length : Int) = _; unfold ref3_maps_l11; rw [past]; rfl)
  unfold ref3_maps mapsN
  rw [hl]
  by_cases hn : (m.Maps.length : Int) ≤ 100
  · rw [decide_eq_true hn, decide_eq_false (show ¬ 100 < (m.Maps.length : Int) by omega)]
    cases gB (mapB m) [] m.Maps <;> rfl
  · rw [decide_eq_false hn, decide_eq_true (show 100 < (m.Maps.length : Int) by omega), Bool.and_false]
    rfl
structure BodyIn (m : ApiMethod) : Prop where
  code : LenL m.Code ∧ ∀ x ∈ m.Code, Len x.C ∧ Len x.M
  traps : LenL m.Traps ∧ ∀ x ∈ m.Traps, Len x.C
theorem ref3_body_eq {m : ApiMethod} (h : BodyIn m) : ref3_body m = some (instrN m.Code && trapsN m) := by
  have hcl := h.code.1
  unfold LenL at hcl
  have lc : loopP (fun z => ref3_body_l1 m z) 0 = some (cond (m.Code.any (insN (m.Code.length : Int))) (.inr false) (.inl ())) :=
    list_loop h.code.1 (fun i x hx => by
      have hm := h.code.2 x (List.mem_of_getElem? hx)
      show ref3_body_l1 m (i : Int) = _
      unfold ref3_body_l1
      rw [here hx, idx_nat, hx]
      simp only [Option.bind_some, cond_true]
      rw [ref3_MayIns_eq hm.1 hm.2]
      rfl) (by show ref3_body_l1 m (m.Code.length : Int) = _; unfold ref3_body_l1; rw [past]; rfl)
  have lt : loopP (fun z => ref3_body_l3 m z) 0 = some (cond (m.Traps.any (trapN (m.Code.length : Int))) (.inr false) (.inl ())) :=
    list_loop h.traps.1 (fun i x hx => by
      have hm := h.traps.2 x (List.mem_of_getElem? hx)
      show ref3_body_l3 m (i : Int) = _
      unfold ref3_body_l3
      rw [here hx, idx_nat, hx]
      simp only [Option.bind_some, cond_true]
      rw [ref3_Class_eq hm]
      have hb : (!(class_between x.At 0 (IntKind.i64.wrap ((m.Code.length : Int) - 1)))) = (decide (x.At < 0) || decide ((m.Code.length : Int) ≤ x.At)) := by
        show (!(decide (0 ≤ x.At) && decide (x.At ≤ IntKind.i64.wrap ((m.Code.length : Int) - 1)))) = _
        rw [wrapI (by omega) (by omega)]
        by_cases h1 : x.At < 0
        · rw [decide_eq_true h1, decide_eq_false (show ¬ 0 ≤ x.At by omega)]; rfl
        · rw [decide_eq_false h1, decide_eq_true (show 0 ≤ x.At by omega)]
          by_cases h2 : (m.Code.length : Int) ≤ x.At
          · rw [decide_eq_true h2, decide_eq_false (show ¬ x.At ≤ (m.Code.length : Int) - 1 by omega)]; rfl
          · rw [decide_eq_false h2, decide_eq_true (show x.At ≤ (m.Code.length : Int) - 1 by omega)]; rfl
      unfold trapN
      rw [hb]
      cases decide (x.From < 0) <;> cases decide (x.To ≤ x.From) <;> cases decide ((m.Code.length : Int) < x.To) <;> cases decide (x.At < 0) <;> cases decide ((m.Code.length : Int) ≤ x.At) <;> cases (x.C == []) <;> rfl) (by show ref3_body_l3 m (m.Traps.length : Int) = _; unfold ref3_body_l3; rw [past]; rfl)
  have hn : decide (6 < (m.Traps.length : Int)) = !decide ((m.Traps.length : Int) ≤ 6) := by
    by_cases h6 : (m.Traps.length : Int) ≤ 6
    · rw [decide_eq_true h6, decide_eq_false (show ¬ 6 < (m.Traps.length : Int) by omega)]; rfl
    · rw [decide_eq_false h6, decide_eq_true (show 6 < (m.Traps.length : Int) by omega)]; rfl
  have k2 : ref3_body_k2 m = some (!m.Traps.any (trapN (m.Code.length : Int))) := by
    unfold ref3_body_k2
    rw [lt]
    cases m.Traps.any (trapN (m.Code.length : Int)) <;> rfl
  unfold ref3_body trapsN instrN
  rw [lc, hn]
  by_cases h1 : (m.Code.length : Int) < 1
  · rw [decide_eq_true h1, show class_between (m.Code.length : Int) 1 100 = false from by show (decide (1 ≤ (m.Code.length : Int)) && _) = false; rw [decide_eq_false (show ¬ 1 ≤ (m.Code.length : Int) by omega)]; rfl]
    rfl
  by_cases h2 : 100 < (m.Code.length : Int)
  · rw [decide_eq_true h2, show class_between (m.Code.length : Int) 1 100 = false from by show (decide (1 ≤ (m.Code.length : Int)) && decide ((m.Code.length : Int) ≤ 100)) = false; rw [decide_eq_false (show ¬ (m.Code.length : Int) ≤ 100 by omega), Bool.and_false], Bool.or_true]
    rfl
  rw [decide_eq_false h1, decide_eq_false h2, show class_between (m.Code.length : Int) 1 100 = true from by show (decide (1 ≤ (m.Code.length : Int)) && decide ((m.Code.length : Int) ≤ 100)) = true; rw [decide_eq_true (show 1 ≤ (m.Code.length : Int) by omega), decide_eq_true (show (m.Code.length : Int) ≤ 100 by omega)]; rfl]
  have e : IntKind.i64.wrap ((m.Code.length : Int) - 1) = ((m.Code.length - 1 : Nat) : Int) := by
    rw [wrapI (by omega) (by omega)]; omega
  rw [e, idx_nat, ← List.getLast?_eq_getElem?]
  cases hg : m.Code.getLast? with
  | none =>
    rw [List.getLast?_eq_none_iff] at hg
    rw [hg] at h1
    simp at h1
  | some y =>
    simp only [Option.bind_some, Option.elim_some]
    rw [show ref3_Ends y.Op = op_Ends y.Op from rfl]
    cases op_Ends y.Op with
    | false => rfl
    | true =>
      cases decide ((m.Traps.length : Int) ≤ 6) with
      | false =>
        cases m.Code.any (insN (m.Code.length : Int)) <;> cases m.Traps.any (trapN (m.Code.length : Int)) <;> rfl
      | true =>
        cases m.Code.any (insN (m.Code.length : Int)) with
        | true => rfl
        | false =>
          show ref3_body_k2 m = _
          rw [k2]
          cases m.Traps.any (trapN (m.Code.length : Int)) <;> rfl
end Go.Proofs.YtooagifeniibcaaGreat
namespace Go.Proofs.YtooagifeniibcaaGreat
set_option linter.unusedSimpArgs false
set_option linter.unusedVariables false
structure GIn (m : ApiMethod) : Prop where
  name : Len m.Name
  params : m.Params.length ≤ 1000000000000 ∧ ∀ s ∈ m.Params, Len s
  ret : Len m.Ret
  maps : MapsIn m
  body : BodyIn m
  small : m.Code.length ≤ 1000000000000 ∧ m.Maps.length ≤ 1000000000000 ∧ m.Traps.length ≤ 1000000000000
noncomputable def methodG (m : ApiMethod) : Bool :=
  ((!((!nameN m.Name) || decide (6 < (m.Params.length : Int))) && typesN m.Params) && retN m.Ret) && cond m.Abstract (class_empty m)
    (!((m.Name == [36, 105, 110, 105, 116]) && (((!m.Static) || decide (0 < (m.Params.length : Int))) || (!(m.Ret == [86])))) && (class_between m.Locals (class_args m) 16 && (class_between m.Stack 0 16 && ((instrN m.Code && trapsN m) && mapsN m))))
theorem lenP {m : ApiMethod} (h : GIn m) : LenL m.Params := by have := h.params.1; unfold LenL; omega
theorem class_method_eqG {m : ApiMethod} (h : GIn m) : class_method m = some (methodG m) := by
  unfold class_method methodG
  rw [kind_Name_eq h.name, Option.bind_some, class_types_eq (lenP h) h.params.2, kind_Ret_eq h.ret, class_instructions_eq h.body.code.1 h.body.code.2, class_maps_eq h.maps, class_traps_eq h.body.traps.1 h.body.traps.2]
  cases ((!nameN m.Name) || decide (6 < (m.Params.length : Int))) with
  | true => rfl
  | false =>
    cases typesN m.Params with
    | false => rfl
    | true =>
      cases retN m.Ret with
      | false => rfl
      | true =>
        cases m.Abstract with
        | true => rfl
        | false =>
          cases ((m.Name == [36, 105, 110, 105, 116]) && (((!m.Static) || decide (0 < (m.Params.length : Int))) || (!(m.Ret == [86])))) with
          | true => rfl
          | false =>
            cases class_between m.Locals (class_args m) 16 with
            | false => rfl
            | true =>
              cases class_between m.Stack 0 16 with
              | false => rfl
              | true => cases instrN m.Code <;> cases mapsN m <;> cases trapsN m <;> rfl
theorem ref3_Ret_eq {s : List UInt8} (h : Len s) : ref3_Ret s = some (retN s) := by
  unfold ref3_Ret retN
  rw [ref3_May_eq h]
  cases (s == [86]) <;> rfl
theorem empty_eq {m : ApiMethod} (h : GIn m) : class_empty m = (((((((!m.Static) && (!(m.Name == [36, 105, 110, 105, 116]))) && (m.Locals == (0 : Int))) && (m.Stack == (0 : Int))) && ((m.Code.length : Int) == (0 : Int))) && ((m.Maps.length : Int) == (0 : Int))) && ((m.Traps.length : Int) == (0 : Int))) := by
  obtain ⟨h1, h2, h3⟩ := h.small
  have key : (((m.Code.length : Int) + (m.Maps.length : Int) + (m.Traps.length : Int)) == (0 : Int)) = ((((m.Code.length : Int) == 0) && ((m.Maps.length : Int) == 0)) && ((m.Traps.length : Int) == 0)) := by
    by_cases a : (m.Code.length : Int) = 0
    · by_cases b : (m.Maps.length : Int) = 0
      · rw [a, b, Int.zero_add, Int.zero_add]; rfl
      · rw [beq_eq_false_iff_ne.2 (show ((m.Code.length : Int) + m.Maps.length + m.Traps.length) ≠ 0 by omega), beq_eq_false_iff_ne.2 b, Bool.and_false, Bool.false_and]
    · rw [beq_eq_false_iff_ne.2 (show ((m.Code.length : Int) + m.Maps.length + m.Traps.length) ≠ 0 by omega), beq_eq_false_iff_ne.2 a, Bool.false_and, Bool.false_and]
  unfold class_empty
  rw [wrapI (n := (m.Code.length : Int) + (m.Maps.length : Int)) (by omega) (by omega), wrapI (by omega) (by omega), key]
  simp only [Bool.and_assoc]
theorem between_ref (x a b : Int) : (decide (x < a) || decide (b < x)) = !(class_between x a b) := by
  show _ = !(decide (a ≤ x) && decide (x ≤ b))
  by_cases h1 : x < a
  · rw [decide_eq_true h1, decide_eq_false (show ¬ a ≤ x by omega)]; rfl
  · rw [decide_eq_false h1, decide_eq_true (show a ≤ x by omega)]
    by_cases h2 : b < x
    · rw [decide_eq_true h2, decide_eq_false (show ¬ x ≤ b by omega)]; rfl
    · rw [decide_eq_false h2, decide_eq_true (show x ≤ b by omega)]; rfl
theorem ref3_MayMethod_eq {m : ApiMethod} (h : GIn m) : ref3_MayMethod m = some (methodG m) := by
  have lp : loopP (fun z => ref3_MayMethod_l1 m z) 0 = some (cond (m.Params.any fun s => !mayN s) (.inr false) (.inl ())) :=
    list_loop (lenP h) (fun i x hx => by
      show ref3_MayMethod_l1 m (i : Int) = _
      unfold ref3_MayMethod_l1
      rw [here hx, idx_nat, hx]
      simp only [Option.bind_some, cond_true]
      rw [ref3_May_eq (h.params.2 x (List.mem_of_getElem? hx))]
      rfl) (by show ref3_MayMethod_l1 m (m.Params.length : Int) = _; unfold ref3_MayMethod_l1; rw [past]; rfl)
  have j3 : ∀ a, ref3_MayMethod_j3 m a = some (class_between m.Locals a 16 && (class_between m.Stack 0 16 && ((instrN m.Code && trapsN m) && mapsN m))) := fun a => by
    unfold ref3_MayMethod_j3
    rw [between_ref, Bool.or_assoc, between_ref, ref3_body_eq h.body, ref3_maps_eq h.maps]
    cases class_between m.Locals a 16 with
    | false => rfl
    | true =>
      cases class_between m.Stack 0 16 with
      | false => rfl
      | true => cases (instrN m.Code && trapsN m) <;> rfl
  have k2 : ref3_MayMethod_k2 m = some (cond m.Abstract (class_empty m)
    (!((m.Name == [36, 105, 110, 105, 116]) && (((!m.Static) || decide (0 < (m.Params.length : Int))) || (!(m.Ret == [86])))) && (class_between m.Locals (class_args m) 16 && (class_between m.Stack 0 16 && ((instrN m.Code && trapsN m) && mapsN m))))) := by
    unfold ref3_MayMethod_k2 class_args
    rw [j3, j3, empty_eq h]
    cases m.Abstract with
    | true => rfl
    | false =>
      cases ((m.Name == [36, 105, 110, 105, 116]) && (((!m.Static) || decide (0 < (m.Params.length : Int))) || (!(m.Ret == [86])))) with
      | true => rfl
      | false => cases m.Static <;> rfl
  unfold ref3_MayMethod methodG typesN
  rw [ref3_Name_eq h.name, Option.bind_some, ref3_Ret_eq h.ret, lp]
  cases ((!nameN m.Name) || decide (6 < (m.Params.length : Int))) with
  | true => rfl
  | false =>
    cases retN m.Ret with
    | false => rw [Bool.and_false]; rfl
    | true =>
      cases m.Params.any fun s => !mayN s with
      | true => rfl
      | false => exact k2
theorem allMethodsG {l : List ApiMethod} (hl : LenL l) (h : ∀ m ∈ l, GIn m) (n : Int) (a b : List UInt8) (i : Bool) (c : List (List UInt8)) (d : List ApiField) (e : List ApiMethod) :
    class_all_api_Method l n a b i c d e = cond (uB (fun m => (m.Abstract == i) && methodG m) (·.Name) [] l) (some false) (some (decide ((l.length : Int) ≤ n))) := by
  unfold class_all_api_Method
  refine uniq_loop (ok := fun m => (m.Abstract == i) && methodG m) (nm := (·.Name)) hl (fun j x hx => ?_) ?_
  · have hm := h x (List.mem_of_getElem? hx)
    have hi := (List.getElem?_eq_some_iff.1 hx).1
    unfold class_all_api_Method_l1 class_May_4
    rw [here hx, idx_nat, hx]
    simp only [Option.bind_some, cond_true]
    rw [class_method_eqG hm, cutP_to (by omega)]
    simp only [Option.bind_some]
    rw [hasMethod (by unfold LenL at *; rw [List.length_take]; omega)]
    cases (x.Abstract == i) with
    | false => rfl
    | true => cases methodG x <;> rfl
  · unfold class_all_api_Method_l1
    rw [past]; rfl
structure CGIn (c : ApiClass) : Prop where
  name : Len c.Name
  super : Len c.Super
  impl : LenL c.Impl ∧ ∀ s ∈ c.Impl, Len s
  fields : LenL c.Fields ∧ ∀ f ∈ c.Fields, Len f.Name ∧ Len f.Type_
  methods : LenL c.Methods ∧ ∀ m ∈ c.Methods, GIn m
noncomputable def mayG (c : ApiClass) : Bool :=
  !(c.Interface && ((!(c.Super == [79, 98, 106, 101, 99, 116])) || decide (0 < (c.Fields.length : Int)))) &&
  (((((classN c.Name && classN c.Super) && (!(uB classN id [] c.Impl) && decide ((c.Impl.length : Int) ≤ 4))) && (!(uB fieldN (·.Name) [] c.Fields) && decide ((c.Fields.length : Int) ≤ 8)))) &&
    (!(uB (fun m => (m.Abstract == c.Interface) && methodG m) (·.Name) [] c.Methods) && decide ((c.Methods.length : Int) ≤ 8)))
theorem class_May_eqG {c : ApiClass} (h : CGIn c) : class_May c = some (mayG c) := by
  have e : ∀ (b d : Bool), cond b (some false) (some d) = some (!b && d) := fun b d => by cases b <;> rfl
  unfold class_May mayG
  rw [allFields h.fields.1 h.fields.2, allMethodsG h.methods.1 h.methods.2, kind_Class_eq h.name, kind_Class_eq h.super, allNames h.impl.1 h.impl.2, e, e, e]
  cases (c.Interface && ((!(c.Super == [79, 98, 106, 101, 99, 116])) || decide (0 < (c.Fields.length : Int)))) with
  | true => rfl
  | false =>
    cases classN c.Name with
    | false => rfl
    | true => cases classN c.Super <;> rfl
theorem first_ix {α : Type} (p : α → Bool) : ∀ (l : List α) (k i : Nat) (x : α), l[i]? = some x → p x = true → (ixF p k l == ((k + i : Nat) : Int)) = !((l.take i).any p)
  | [], k, i, x, h, _ => by simp at h
  | y :: r, k, 0, x, h, hp => by
    have : y = x := by simpa using h
    subst this
    show (cond (p y) (k : Int) (ixF p (k + 1) r) == (k : Int)) = true
    rw [hp]
    exact beq_self_eq_true _
  | y :: r, k, i + 1, x, h, hp => by
    have h' : r[i]? = some x := by simpa using h
    show (cond (p y) (k : Int) (ixF p (k + 1) r) == ((k + (i + 1) : Nat) : Int)) = !(p y || (r.take i).any p)
    cases p y with
    | true => exact beq_eq_false_iff_ne.2 (show (k : Int) ≠ ((k + (i + 1) : Nat) : Int) by omega)
    | false =>
      have := first_ix p r (k + 1) i x h' hp
      rw [show k + 1 + i = k + (i + 1) by omega] at this
      exact this
theorem ref3_Field_eq {c : ApiClass} (hl : LenL c.Fields) (n : List UInt8) : ref3_Field c n = some (ixF (fun y => y.Name == n) 0 c.Fields) := by
  unfold ref3_Field
  rw [show ((loopP (fun z => ref3_Field_l1 c n z) 0).bind fun o => leave o (fun b => ref3_Field_k2) some) = _ from index_loop (p := fun y : ApiField => y.Name == n) hl
    (fun i x hx => by unfold ref3_Field_l1; rw [here hx, idx_nat, hx]; rfl) (by unfold ref3_Field_l1; rw [past]; rfl)]
theorem ref3_Method_eq {c : ApiClass} (hl : LenL c.Methods) (n : List UInt8) : ref3_Method c n = some (ixF (fun y => y.Name == n) 0 c.Methods) := by
  unfold ref3_Method
  rw [show ((loopP (fun z => ref3_Method_l1 c n z) 0).bind fun o => leave o (fun b => ref3_Method_k2) some) = _ from index_loop (p := fun y : ApiMethod => y.Name == n) hl
    (fun i x hx => by unfold ref3_Method_l1; rw [here hx, idx_nat, hx]; rfl) (by unfold ref3_Method_l1; rw [past]; rfl)]
theorem beqC2 (x y : List UInt8) : (x == y) = (y == x) := by
  by_cases h : x = y
  · rw [h]
  · rw [beq_eq_false_iff_ne.2 h, beq_eq_false_iff_ne.2 (Ne.symm h)]
theorem sameAny {α : Type} (l : List α) (f : α → List UInt8) (n : List UInt8) : (l.any fun y => f y == n) = l.any fun y => n == f y := by
  congr 1
  funext y
  exact beqC2 _ _
theorem ref3_MayClass_eq {c : ApiClass} (h : CGIn c) : ref3_MayClass c = some (mayG c) := by
  have himp := h.impl.1
  unfold LenL at himp
  have lf : loopP (fun z => ref3_MayClass_l7 c z) 0 = some (cond (uB fieldN (·.Name) [] c.Fields) (.inr false) (.inl ())) := by
    rw [uB_gB]
    refine gen_loop h.fields.1 (fun i x hx => ?_) (by show ref3_MayClass_l7 c (c.Fields.length : Int) = _; unfold ref3_MayClass_l7; rw [past]; rfl)
    have hm := h.fields.2 x (List.mem_of_getElem? hx)
    have hfi := first_ix (fun y : ApiField => y.Name == x.Name) c.Fields 0 i x hx (beq_self_eq_true _)
    rw [Nat.zero_add, sameAny] at hfi
    show ref3_MayClass_l7 c (i : Int) = _
    unfold ref3_MayClass_l7 fieldN
    rw [here hx, idx_nat, hx]
    simp only [Option.bind_some, cond_true]
    rw [ref3_Name_eq hm.1, ref3_May_eq hm.2, ref3_Field_eq h.fields.1]
    simp only [Option.bind_some]
    rw [hfi]
    cases nameN x.Name with
    | false => rfl
    | true =>
      cases (x.Name == [36, 105, 110, 105, 116]) with
      | true => rfl
      | false =>
        cases mayN x.Type_ with
        | false => rfl
        | true => cases (c.Fields.take i).any fun y => x.Name == y.Name <;> rfl
  have lm : loopP (fun z => ref3_MayClass_l9 c z) 0 = some (cond (uB (fun m => (m.Abstract == c.Interface) && methodG m) (·.Name) [] c.Methods) (.inr false) (.inl ())) := by
    rw [uB_gB]
    refine gen_loop h.methods.1 (fun i x hx => ?_) (by show ref3_MayClass_l9 c (c.Methods.length : Int) = _; unfold ref3_MayClass_l9; rw [past]; rfl)
    have hm := h.methods.2 x (List.mem_of_getElem? hx)
    have hfi := first_ix (fun y : ApiMethod => y.Name == x.Name) c.Methods 0 i x hx (beq_self_eq_true _)
    rw [Nat.zero_add, sameAny] at hfi
    show ref3_MayClass_l9 c (i : Int) = _
    unfold ref3_MayClass_l9
    rw [here hx, idx_nat, hx]
    simp only [Option.bind_some, cond_true]
    rw [ref3_MayMethod_eq hm, ref3_Method_eq h.methods.1]
    simp only [Option.bind_some]
    rw [hfi]
    cases (x.Abstract == c.Interface) with
    | false => rfl
    | true =>
      cases methodG x with
      | false => cases (c.Methods.take i).any fun y => x.Name == y.Name <;> rfl
      | true => cases (c.Methods.take i).any fun y => x.Name == y.Name <;> rfl
  have li : loopP (fun z => ref3_MayClass_l5 c z) 0 = some (cond (uB classN id [] c.Impl) (.inr false) (.inl ())) := by
    rw [uB_gB]
    refine gen_loop h.impl.1 (fun i x hx => ?_) (by show ref3_MayClass_l5 c (c.Impl.length : Int) = _; unfold ref3_MayClass_l5; rw [past]; rfl)
    have hm := h.impl.2 x (List.mem_of_getElem? hx)
    have hi := (List.getElem?_eq_some_iff.1 hx).1
    have hin : loopP (fun z => ref3_MayClass_l3 c (i : Int) z) 0 = some (cond ((c.Impl.take i).any fun y => y == x) (.inr false) (.inl ())) := by
      have ht : (c.Impl.take i).length = i := by rw [List.length_take]; omega
      refine list_loop (by omega) (fun j y hy => ?_) ?_
      · have hj := (List.getElem?_eq_some_iff.1 hy).1
        rw [ht] at hj
        rw [List.getElem?_take_of_lt hj] at hy
        show ref3_MayClass_l3 c (i : Int) (j : Int) = _
        unfold ref3_MayClass_l3
        rw [decide_eq_true (show (j : Int) < (i : Int) by omega), idx_nat, hy, idx_nat, hx]
        rfl
      · rw [ht]
        show ref3_MayClass_l3 c (i : Int) (i : Int) = _
        unfold ref3_MayClass_l3
        rw [decide_eq_false (show ¬ (i : Int) < (i : Int) by omega)]; rfl
    show ref3_MayClass_l5 c (i : Int) = _
    unfold ref3_MayClass_l5
    rw [here hx, idx_nat, hx]
    simp only [Option.bind_some, cond_true]
    rw [ref3_Class_eq hm, hin, show ((c.Impl.take i).any fun y => y == x) = (c.Impl.take i).any fun y => id x == id y from sameAny _ id x]
    cases classN x with
    | false => rfl
    | true => cases (c.Impl.take i).any fun y => id x == id y <;> rfl
  have hle : ∀ (n : Nat) (b : Int), decide (b < (n : Int)) = !decide ((n : Int) ≤ b) := fun n b => by
    by_cases hb : (n : Int) ≤ b
    · rw [decide_eq_true hb, decide_eq_false (show ¬ b < (n : Int) by omega)]; rfl
    · rw [decide_eq_false hb, decide_eq_true (show b < (n : Int) by omega)]; rfl
  unfold ref3_MayClass ref3_MayClass_k6 ref3_MayClass_k8 mayG
  rw [ref3_Class_eq h.name, ref3_Class_eq h.super, li, lf, lm, hle c.Impl.length 4, hle c.Fields.length 8, hle c.Methods.length 8]
  generalize (c.Interface && ((!(c.Super == [79, 98, 106, 101, 99, 116])) || decide (0 < (c.Fields.length : Int)))) = B
  generalize uB classN id [] c.Impl = u1
  generalize uB fieldN (·.Name) [] c.Fields = u2
  generalize uB (fun m => (m.Abstract == c.Interface) && methodG m) (·.Name) [] c.Methods = u3
  generalize decide ((c.Impl.length : Int) ≤ 4) = d1
  generalize decide ((c.Fields.length : Int) ≤ 8) = d2
  generalize decide ((c.Methods.length : Int) ≤ 8) = d3
  cases classN c.Name with
  | false => cases B <;> rfl
  | true =>
    cases classN c.Super with
    | false => cases B <;> rfl
    | true => cases B <;> cases u1 <;> cases u2 <;> cases u3 <;> cases d1 <;> cases d2 <;> cases d3 <;> rfl
end Go.Proofs.YtooagifeniibcaaGreat
namespace Go.Proofs.YtooagifeniibcaaGreat
set_option linter.unusedSimpArgs false
set_option linter.unusedVariables false
abbrev Tx := List UInt8
def cl (L : List ApiClass) (n : Tx) : Option ApiClass := L.find? (fun c => c.Name == n)
def atN (L : List ApiClass) (n : Tx) : Int := ixF (fun c => c.Name == n) 0 L
def hasN (L : List ApiClass) (n : Tx) : Bool := L.any (fun c => c.Name == n)
def isF (L : List ApiClass) (n : Tx) : Bool := match cl L n with | some c => c.Interface | none => false
theorem ixF_get {α : Type} (p : α → Bool) : ∀ (l : List α) (k : Nat), (∃ j x, ixF p k l = ((k + j : Nat) : Int) ∧ l[j]? = some x ∧ p x = true ∧ l.find? p = some x) ∨ (ixF p k l = -1 ∧ l.find? p = none)
  | [], k => .inr ⟨rfl, rfl⟩
  | y :: r, k => by
    unfold ixF
    cases h : p y with
    | true => exact .inl ⟨0, y, rfl, rfl, h, by simp [List.find?, h]⟩
    | false =>
      rcases ixF_get p r (k + 1) with ⟨j, x, h1, h2, h3, h4⟩ | ⟨h1, h2⟩
      · exact .inl ⟨j + 1, x, by show ixF p (k + 1) r = _; rw [h1]; congr 1; omega, by simpa using h2, h3, by simp [List.find?, h, h4]⟩
      · exact .inr ⟨h1, by simp [List.find?, h, h2]⟩
theorem ixF_append {α : Type} (p : α → Bool) : ∀ (l r : List α) (k : Nat), ixF p k (l ++ r) = cond (l.any p) (ixF p k l) (ixF p (k + l.length) r)
  | [], r, k => rfl
  | y :: l, r, k => by
    show ixF p k (y :: (l ++ r)) = _
    rw [show ixF p k (y :: (l ++ r)) = cond (p y) (k : Int) (ixF p (k + 1) (l ++ r)) from rfl, show ixF p k (y :: l) = cond (p y) (k : Int) (ixF p (k + 1) l) from rfl, List.any_cons]
    cases h : p y with
    | true => rfl
    | false =>
      rw [Bool.false_or, cond_false, cond_false, ixF_append p l r (k + 1), show k + 1 + l.length = k + (y :: l).length by simp; omega]
theorem at_has (L : List ApiClass) (n : Tx) : decide (0 ≤ atN L n) = hasN L n := ixF_any _ 0 L
theorem at_neg (L : List ApiClass) (n : Tx) : decide (atN L n < 0) = !hasN L n := by
  rw [← at_has]
  by_cases h : 0 ≤ atN L n
  · rw [decide_eq_true h, decide_eq_false (by omega)]; rfl
  · rw [decide_eq_false h, decide_eq_true (by omega)]; rfl
theorem idx_at (L : List ApiClass) (n : Tx) : idx L (atN L n) = cl L n := by
  unfold atN cl
  rcases ixF_get (fun c : ApiClass => c.Name == n) L 0 with ⟨j, x, h1, h2, h3, h4⟩ | ⟨h1, h2⟩
  · rw [h1, h4, idx_nat, Nat.zero_add, h2]
  · rw [h1, h2]; rfl
theorem cl_has (L : List ApiClass) (n : Tx) : (cl L n).isSome = hasN L n := by
  unfold cl hasN
  rw [Bool.eq_iff_iff, List.any_eq_true]
  exact List.find?_isSome
theorem cl_name {L : List ApiClass} {n : Tx} {c : ApiClass} (h : cl L n = some c) : c ∈ L ∧ c.Name = n := by
  unfold cl at h
  exact ⟨List.mem_of_find?_eq_some h, eq_of_beq (List.find?_some (p := fun c : ApiClass => c.Name == n) h)⟩
theorem has_cl {L : List ApiClass} {n : Tx} (h : hasN L n = true) : ∃ c, cl L n = some c := by
  rw [← cl_has] at h
  exact Option.isSome_iff_exists.1 h
theorem has_of {L : List ApiClass} {n : Tx} {c : ApiClass} (h : cl L n = some c) : hasN L n = true := by rw [← cl_has, h]; rfl
theorem has_not {L : List ApiClass} {n : Tx} (h : cl L n = none) : hasN L n = false := by rw [← cl_has, h]; rfl
theorem has_iff {L : List ApiClass} {n : Tx} : hasN L n = true ↔ n ∈ L.map (·.Name) := by
  unfold hasN
  rw [List.any_eq_true, List.mem_map]
  constructor
  · rintro ⟨c, h1, h2⟩; exact ⟨c, h1, eq_of_beq h2⟩
  · rintro ⟨c, h1, h2⟩; exact ⟨c, h1, beq_iff_eq.2 h2⟩
def Nd (L : List ApiClass) : Prop := ∀ (i j : Nat) (c d : ApiClass), L[i]? = some c → L[j]? = some d → c.Name = d.Name → i = j
theorem Nd.at {L : List ApiClass} (h : Nd L) {i : Nat} {c : ApiClass} (hi : L[i]? = some c) : atN L c.Name = (i : Int) := by
  unfold atN
  rcases ixF_get (fun d : ApiClass => d.Name == c.Name) L 0 with ⟨j, x, h1, h2, h3, h4⟩ | ⟨h1, h2⟩
  · rw [h1, Nat.zero_add, h j i x c h2 hi (eq_of_beq h3)]
  · have := List.find?_eq_none.1 h2 c (List.mem_of_getElem? hi)
    simp at this
theorem Nd.cl {L : List ApiClass} (h : Nd L) {c : ApiClass} (hc : c ∈ L) : cl L c.Name = some c := by
  obtain ⟨i, hi, e⟩ := List.getElem_of_mem hc
  have hi' : L[i]? = some c := by rw [List.getElem?_eq_getElem hi, e]
  rw [← idx_at, h.at hi', idx_nat, hi']
theorem Nd.snoc {L : List ApiClass} (h : Nd L) {c : ApiClass} (hc : hasN L c.Name = false) : Nd (L ++ [c]) := by
  have no : ∀ (i : Nat) d, L[i]? = some d → d.Name ≠ c.Name := fun i d hi e => by
    have : hasN L c.Name = true := has_iff.2 (List.mem_map.2 ⟨d, List.mem_of_getElem? hi, e⟩)
    rw [hc] at this; cases this
  have get : ∀ (i : Nat) d, (L ++ [c])[i]? = some d → (L[i]? = some d) ∨ (i = L.length ∧ d = c) := fun i d hi => by
    rw [List.getElem?_append] at hi
    split at hi
    · exact .inl hi
    · rename_i hlt
      right
      have h1 := (List.getElem?_eq_some_iff.1 hi).1
      simp at h1
      have h2 : i = L.length := by omega
      subst h2
      simp at hi
      exact ⟨rfl, hi.symm⟩
  intro i j d e hi hj hn
  rcases get i d hi with h1 | ⟨h1, h1'⟩ <;> rcases get j e hj with h2 | ⟨h2, h2'⟩
  · exact h i j d e h1 h2 hn
  · subst h2'; exact absurd hn (no i d h1)
  · subst h1'; exact absurd hn.symm (no j e h2)
  · rw [h1, h2]
theorem has_snoc (L : List ApiClass) (c : ApiClass) (n : Tx) : hasN (L ++ [c]) n = (hasN L n || (c.Name == n)) := by
  unfold hasN; simp
theorem mapGet_put {α : Type} (k k' : Tx) (x : α) : ∀ (m : List (Tx × α)), mapGet k (mapPut k' x m) = if k = k' then some x else mapGet k m
  | [] => by
    unfold mapPut mapGet mapGet
    by_cases h : k = k'
    · rw [if_pos h, decide_eq_true h]; rfl
    · rw [if_neg h, decide_eq_false h]; rfl
  | (a, y) :: r => by
    unfold mapPut
    by_cases h' : k' = a
    · subst h'
      rw [decide_eq_true rfl]
      show mapGet k ((k', x) :: r) = _
      unfold mapGet
      by_cases h : k = k'
      · rw [if_pos h, decide_eq_true h]; rfl
      · rw [if_neg h, decide_eq_false h]; rfl
    · rw [decide_eq_false h']
      show mapGet k ((a, y) :: mapPut k' x r) = _
      unfold mapGet
      rw [mapGet_put k k' x r]
      by_cases h : k = k'
      · subst h
        rw [if_pos rfl, decide_eq_false h', if_pos rfl]; rfl
      · rw [if_neg h, if_neg h]
def MapOk (L : List ApiClass) (m : List (Tx × Int)) : Prop := ∀ n, mapGet n m = cond (hasN L n) (some (atN L n)) none
theorem MapOk.snoc {L : List ApiClass} {m : List (Tx × Int)} (h : MapOk L m) {c : ApiClass} (hc : hasN L c.Name = false) : MapOk (L ++ [c]) (mapPut c.Name (L.length : Int) m) := by
  intro n
  rw [mapGet_put, has_snoc, h n]
  unfold atN
  rw [ixF_append]
  show _ = cond _ (some (cond (hasN L n) _ _)) none
  by_cases e : n = c.Name
  · subst e
    rw [if_pos rfl, hc, beq_self_eq_true]
    simp [ixF]
  · rw [if_neg e, beq_eq_false_iff_ne.2 (Ne.symm e)]
    cases hasN L n <;> rfl
theorem MapOk.has {L : List ApiClass} {m : List (Tx × Int)} (h : MapOk L m) (n : Tx) : (mapGet n m).isSome = hasN L n := by
  rw [h n]; cases hasN L n <;> rfl
theorem MapOk.idx {L : List ApiClass} {m : List (Tx × Int)} (h : MapOk L m) {n : Tx} (hn : hasN L n = true) : idx L ((mapGet n m).getD 0) = cl L n := by
  rw [h n, hn]; exact idx_at L n
inductive Rc (nx : Tx → List Tx) : Tx → Tx → Prop
  | one {a b} : b ∈ nx a → Rc nx a b
  | more {a b c} : b ∈ nx a → Rc nx b c → Rc nx a c
theorem Rc.snoc {nx : Tx → List Tx} {a b c : Tx} (h : Rc nx a b) (hc : c ∈ nx b) : Rc nx a c := by
  induction h with
  | one h => exact .more h (.one hc)
  | more h _ ih => exact .more h (ih hc)
theorem Rc.into {nx : Tx → List Tx} {F : Tx → Prop} (hF : ∀ x, F x → ∀ y ∈ nx x, F y) {a b : Tx} (h : Rc nx a b) : (∀ y ∈ nx a, F y) → F b := by
  induction h with
  | one h => exact fun ha => ha _ h
  | more h _ ih => exact fun ha => ih (hF _ (ha _ h))
theorem pigeon : ∀ {a b : List Tx}, a.Nodup → (∀ x ∈ a, x ∈ b) → a.length ≤ b.length
  | [], b, _, _ => by simp
  | x :: r, b, h, hs => by
    rw [List.nodup_cons] at h
    have hx := hs x (by simp)
    have h1 := pigeon (a := r) (b := b.erase x) h.2 (fun y hy => (List.mem_erase_of_ne (fun e => h.1 (by rw [← e]; exact hy))).2 (hs y (by simp [hy])))
    have h2 := List.length_erase_of_mem hx
    have h3 := List.length_pos_of_mem hx
    simp only [List.length_cons]
    omega
def push (seen : List Tx) : List Tx → List Tx
  | [] => seen
  | s :: r => push (cond (seen.any fun y => s == y) seen (seen ++ [s])) r
theorem any_mem {s : Tx} {l : List Tx} : (l.any fun y => s == y) = true ↔ s ∈ l := by
  rw [List.any_eq_true]
  constructor
  · rintro ⟨y, h1, h2⟩; rw [eq_of_beq h2]; exact h1
  · intro h; exact ⟨s, h, beq_self_eq_true _⟩
theorem push_app : ∀ (l seen : List Tx), ∃ t, push seen l = seen ++ t ∧ t.Nodup ∧ (∀ x ∈ t, x ∉ seen ∧ x ∈ l) ∧ ∀ x ∈ l, x ∈ seen ++ t
  | [], seen => ⟨[], by simp [push], by simp, fun x h => (by cases h), fun x h => (by cases h)⟩
  | s :: r, seen => by
    unfold push
    cases h : (seen.any fun y => s == y) with
    | true =>
      obtain ⟨t, h1, h2, h3, h4⟩ := push_app r seen
      refine ⟨t, h1, h2, fun x hx => ⟨(h3 x hx).1, List.mem_cons_of_mem _ (h3 x hx).2⟩, fun x hx => ?_⟩
      rcases List.mem_cons.1 hx with e | e
      · rw [e]; exact List.mem_append_left _ (any_mem.1 h)
      · exact h4 x e
    | false =>
      have hs : s ∉ seen := fun hm => by rw [any_mem.2 hm] at h; cases h
      obtain ⟨t, h1, h2, h3, h4⟩ := push_app r (seen ++ [s])
      refine ⟨s :: t, by show push (seen ++ [s]) r = _; rw [h1]; simp, List.nodup_cons.2 ⟨fun hm => (h3 s hm).1 (by simp), h2⟩, fun x hx => ?_, fun x hx => ?_⟩
      · rcases List.mem_cons.1 hx with e | e
        · rw [e]; exact ⟨hs, by simp⟩
        · exact ⟨fun hm => (h3 x e).1 (List.mem_append_left _ hm), List.mem_cons_of_mem _ (h3 x e).2⟩
      · rcases List.mem_cons.1 hx with e | e
        · rw [e]; simp
        · have := h4 x e
          simpa using this
def bfs (nx : Tx → List Tx) : Nat → Nat → List Tx → List Tx
  | 0, _, seen => seen
  | d + 1, i, seen => match seen[i]? with | none => seen | some x => bfs nx d (i + 1) (push seen (nx x))
def fin (nx : Tx → List Tx) : Nat → Nat → List Tx → Bool
  | 0, i, seen => decide (seen.length ≤ i)
  | d + 1, i, seen => match seen[i]? with | none => true | some x => fin nx d (i + 1) (push seen (nx x))
def Inv (U s0 seen : List Tx) : Prop := ∃ T, seen = s0 ++ T ∧ T.Nodup ∧ (∀ x ∈ T, x ∈ U) 
theorem Inv.push {U s0 seen l : List Tx} (h : Inv U s0 seen) (hU : ∀ y ∈ l, y ∈ U) : Inv U s0 (push seen l) := by
  obtain ⟨T, h1, h2, h3⟩ := h
  obtain ⟨t, k1, k2, k3, k4⟩ := push_app l seen
  refine ⟨T ++ t, by rw [k1, h1]; simp, List.nodup_append.2 ⟨h2, k2, fun a ha b hb e => (k3 b hb).1 (by rw [h1, ← e]; exact List.mem_append_right _ ha)⟩, fun x hx => ?_⟩
  rcases List.mem_append.1 hx with e | e
  · exact h3 x e
  · exact hU x (k3 x e).2
theorem Inv.len {U s0 seen : List Tx} (h : Inv U s0 seen) : seen.length ≤ s0.length + U.length := by
  obtain ⟨T, h1, h2, h3⟩ := h
  have := pigeon h2 h3
  rw [h1, List.length_append]; omega
theorem Inv.mem {U s0 seen : List Tx} (h : Inv U s0 seen) (h0 : ∀ x ∈ s0, x ∈ U) : ∀ x ∈ seen, x ∈ U := by
  obtain ⟨T, h1, h2, h3⟩ := h
  intro x hx
  rw [h1] at hx
  rcases List.mem_append.1 hx with e | e
  · exact h0 x e
  · exact h3 x e
theorem Inv.start {U s0 : List Tx} : Inv U s0 s0 := ⟨[], by simp, by simp, fun x h => (by cases h)⟩
theorem fin_of {nx : Tx → List Tx} {U s0 : List Tx} (hU : ∀ x y, y ∈ nx x → y ∈ U) : ∀ (d i : Nat) (seen : List Tx), Inv U s0 seen → s0.length + U.length ≤ d + i → fin nx d i seen = true
  | 0, i, seen, h, hd => by
    have := h.len
    exact decide_eq_true (by omega)
  | d + 1, i, seen, h, hd => by
    unfold fin
    cases seen[i]? with
    | none => rfl
    | some x => exact fin_of hU d (i + 1) _ (h.push (hU x)) (by omega)
theorem bfs_grow {nx : Tx → List Tx} : ∀ (d i : Nat) (seen : List Tx), ∃ t, bfs nx d i seen = seen ++ t
  | 0, i, seen => ⟨[], by simp [bfs]⟩
  | d + 1, i, seen => by
    unfold bfs
    cases seen[i]? with
    | none => exact ⟨[], by simp⟩
    | some x =>
      obtain ⟨t, h⟩ := bfs_grow (nx := nx) d (i + 1) (push seen (nx x))
      obtain ⟨u, k, _⟩ := push_app (nx x) seen
      exact ⟨u ++ t, by show bfs nx d (i + 1) _ = _; rw [h, k]; simp⟩
theorem bfs_inv {nx : Tx → List Tx} {U s0 : List Tx} (hU : ∀ x y, y ∈ nx x → y ∈ U) : ∀ (d i : Nat) (seen : List Tx), Inv U s0 seen → Inv U s0 (bfs nx d i seen)
  | 0, i, seen, h => h
  | d + 1, i, seen, h => by
    unfold bfs
    cases seen[i]? with
    | none => exact h
    | some x => exact bfs_inv hU d (i + 1) _ (h.push (hU x))
theorem bfs_sound {nx : Tx → List Tx} {Q : Tx → Prop} (hQ : ∀ x, Q x → ∀ y ∈ nx x, Q y) : ∀ (d i : Nat) (seen : List Tx), (∀ x ∈ seen, Q x) → ∀ x ∈ bfs nx d i seen, Q x
  | 0, i, seen, h => h
  | d + 1, i, seen, h => by
    unfold bfs
    cases hi : seen[i]? with
    | none => exact h
    | some x =>
      refine bfs_sound hQ d (i + 1) _ fun y hy => ?_
      obtain ⟨u, k1, _, k3, _⟩ := push_app (nx x) seen
      rw [k1] at hy
      rcases List.mem_append.1 hy with e | e
      · exact h y e
      · exact hQ x (h x (List.mem_of_getElem? hi)) y (k3 y e).2
theorem bfs_closed {nx : Tx → List Tx} : ∀ (d i : Nat) (seen : List Tx), fin nx d i seen = true → (∀ j x, j < i → seen[j]? = some x → ∀ y ∈ nx x, y ∈ seen) → ∀ x ∈ bfs nx d i seen, ∀ y ∈ nx x, y ∈ bfs nx d i seen
  | 0, i, seen, hf, h => fun x hx y hy => by
    have hl : seen.length ≤ i := of_decide_eq_true hf
    obtain ⟨j, hj, e⟩ := List.getElem_of_mem (show x ∈ seen from hx)
    exact h j x (by omega) (by rw [List.getElem?_eq_getElem hj, e]) y hy
  | d + 1, i, seen, hf, h => by
    unfold fin at hf
    unfold bfs
    cases hi : seen[i]? with
    | none =>
      intro x hx y hy
      have hl : seen.length ≤ i := List.getElem?_eq_none_iff.1 hi
      obtain ⟨j, hj, e⟩ := List.getElem_of_mem (show x ∈ seen from hx)
      exact h j x (by omega) (by rw [List.getElem?_eq_getElem hj, e]) y hy
    | some z =>
      rw [hi] at hf
      obtain ⟨u, k1, _, k3, k4⟩ := push_app (nx z) seen
      have hlt : i < seen.length := (List.getElem?_eq_some_iff.1 hi).1
      refine bfs_closed d (i + 1) _ hf fun j x hj hx y hy => ?_
      rw [k1] at hx ⊢
      rw [List.getElem?_append_left (by omega)] at hx
      by_cases e : j = i
      · subst e
        rw [hi] at hx
        cases hx
        exact k4 y hy
      · exact List.mem_append_left _ (h j x (by omega) hx y hy)
theorem bfs_rc {nx : Tx → List Tx} {d : Nat} {a b : Tx} (hf : fin nx d 0 (nx a) = true) : b ∈ bfs nx d 0 (nx a) ↔ Rc nx a b := by
  constructor
  · exact bfs_sound (Q := fun x => Rc nx a x) (fun x hx y hy => hx.snoc hy) d 0 _ (fun x hx => .one hx) b
  · intro h
    refine h.into (F := fun x => x ∈ bfs nx d 0 (nx a)) (bfs_closed d 0 _ hf (fun j x hj => by omega)) fun y hy => ?_
    obtain ⟨t, e⟩ := bfs_grow (nx := nx) d 0 (nx a)
    rw [e]; exact List.mem_append_left _ hy
theorem work_loop {R : Type} {I : List Tx → Prop} {nx : Tx → List Tx} {stop : Tx → Option R} {body : List Tx × Int → Option (Sum (List Tx × Int) (Sum Unit R))}
    (hb : ∀ (i : Nat) seen x, I seen → seen[i]? = some x → body (seen, (i : Int)) = match stop x with | some r => some (.inr (.inr r)) | none => some (.inl (push seen (nx x), ((i + 1 : Nat) : Int))))
    (he : ∀ (i : Nat) seen, I seen → seen.length ≤ i → body (seen, (i : Int)) = some (.inr (.inl ())))
    (hp : ∀ seen x, I seen → x ∈ seen → I (push seen (nx x))) : ∀ (d i : Nat) (seen : List Tx), I seen → fin nx d i seen = true →
    loopP body (seen, (i : Int)) = some (match ((bfs nx d i seen).drop i).findSome? stop with | some r => (Sum.inr r : Sum Unit R) | none => Sum.inl ())
  | 0, i, seen, hI, hf => by
    have hl : seen.length ≤ i := of_decide_eq_true hf
    rw [loopP_eq, he i seen hI hl]
    show _ = some (match (seen.drop i).findSome? stop with | some r => (Sum.inr r : Sum Unit R) | none => Sum.inl ())
    rw [List.drop_eq_nil_of_le hl]
    rfl
  | d + 1, i, seen, hI, hf => by
    unfold fin at hf
    unfold bfs
    cases hi : seen[i]? with
    | none =>
      have hl : seen.length ≤ i := List.getElem?_eq_none_iff.1 hi
      rw [loopP_eq, he i seen hI hl]
      show _ = some (match (seen.drop i).findSome? stop with | some r => (Sum.inr r : Sum Unit R) | none => Sum.inl ())
      rw [List.drop_eq_nil_of_le hl]
      rfl
    | some x =>
      rw [hi] at hf
      obtain ⟨t, ht⟩ := bfs_grow (nx := nx) d (i + 1) (push seen (nx x))
      obtain ⟨u, hu, _⟩ := push_app (nx x) seen
      have hx : (bfs nx d (i + 1) (push seen (nx x)))[i]? = some x := by
        rw [ht, hu, List.append_assoc, List.getElem?_append_left (List.getElem?_eq_some_iff.1 hi).1, hi]
      obtain ⟨hlt, hge⟩ := List.getElem?_eq_some_iff.1 hx
      rw [loopP_eq, hb i seen x hI hi]
      show _ = some (match ((bfs nx d (i + 1) (push seen (nx x))).drop i).findSome? stop with | some r => (Sum.inr r : Sum Unit R) | none => Sum.inl ())
      rw [List.drop_eq_getElem_cons hlt, List.findSome?_cons, hge]
      cases stop x with
      | some r => rfl
      | none => exact work_loop hb he hp d (i + 1) _ (hp _ _ hI (List.mem_of_getElem? hi)) hf
def nxA (L : List ApiClass) (n : Tx) : List Tx := match cl L n with | none => [] | some c => (c.Super :: c.Impl).filter (fun s => !(s == []))
def nxI (L : List ApiClass) (n : Tx) : List Tx := match cl L n with | none => [] | some c => c.Impl
structure Laid (L : List ApiClass) : Prop where
  nd : Nd L
  noE : hasN L [] = false
  closed : ∀ c ∈ L, ∀ s ∈ c.Super :: c.Impl, s ≠ [] → hasN L s = true
  implE : ∀ c ∈ L, [] ∉ c.Impl
structure Wf (L : List ApiClass) : Prop extends Laid L where
  acyc : ∀ n, ¬ Rc (nxA L) n n
  superF : ∀ c ∈ L, isF L c.Super = false
  implF : ∀ c ∈ L, ∀ s ∈ c.Impl, isF L s = true
theorem Laid.nxA_in {L : List ApiClass} (h : Laid L) (x y : Tx) (hy : y ∈ nxA L x) : y ∈ L.map (·.Name) := by
  unfold nxA at hy
  split at hy
  · cases hy
  · rename_i c hc
    rw [List.mem_filter] at hy
    exact has_iff.1 (h.closed c (cl_name hc).1 y hy.1 (by have := hy.2; simpa using this))
theorem Laid.nxI_in {L : List ApiClass} (h : Laid L) (x y : Tx) (hy : y ∈ nxI L x) : y ∈ L.map (·.Name) := by
  unfold nxI at hy
  split at hy
  · cases hy
  · rename_i c hc
    exact has_iff.1 (h.closed c (cl_name hc).1 y (List.mem_cons_of_mem _ hy) (fun e => h.implE c (cl_name hc).1 (by rw [← e]; exact hy)))
def sup (L : List ApiClass) : Nat → Tx → List Tx
  | 0, _ => []
  | d + 1, n => match cl L n with | none => [] | some c => n :: sup L d c.Super
def supF (L : List ApiClass) : Nat → Tx → Bool
  | 0, n => !hasN L n
  | d + 1, n => match cl L n with | none => true | some c => supF L d c.Super
theorem sup_long {L : List ApiClass} (h : Wf L) : ∀ (d : Nat) (n : Tx), supF L d n = false → hasN L n = true ∧ ∃ r, sup L (d + 1) n = n :: r ∧ r.length = d ∧ (n :: r).Nodup ∧ (∀ x ∈ r, x ∈ L.map (·.Name) ∧ Rc (nxA L) n x)
  | 0, n, hf => by
    have hn : hasN L n = true := by simpa [supF] using hf
    obtain ⟨c, hc⟩ := has_cl hn
    exact ⟨hn, [], by simp [sup, hc], rfl, by simp, fun x h => (by cases h)⟩
  | d + 1, n, hf => by
    unfold supF at hf
    split at hf
    · cases hf
    · rename_i c hc
      obtain ⟨h0, r, h1, h2, h3, h4⟩ := sup_long h d c.Super hf
      have hs : c.Super ∈ nxA L n := by
        unfold nxA
        rw [hc]
        refine List.mem_filter.2 ⟨by simp, ?_⟩
        have : c.Super ≠ [] := fun e => by rw [e, h.noE] at h0; cases h0
        simpa using this
      have h5 : ∀ x ∈ c.Super :: r, x ∈ L.map (·.Name) ∧ Rc (nxA L) n x := fun x hx => by
        rcases List.mem_cons.1 hx with e | e
        · rw [e]; exact ⟨has_iff.1 h0, .one hs⟩
        · exact ⟨(h4 x e).1, .more hs (h4 x e).2⟩
      refine ⟨has_of hc, c.Super :: r, ?_, by simp [h2], List.nodup_cons.2 ⟨fun hm => h.acyc n (h5 n hm).2, h3⟩, h5⟩
      show (match cl L n with | none => [] | some c => n :: sup L (d + 1) c.Super) = _
      rw [hc]
      show n :: sup L (d + 1) c.Super = _
      rw [h1]
theorem sup_ends {L : List ApiClass} (h : Wf L) (n : Tx) : supF L L.length n = true := by
  cases hf : supF L L.length n with
  | true => rfl
  | false =>
    obtain ⟨h0, r, h1, h2, h3, h4⟩ := sup_long h _ n hf
    have := pigeon h3 (b := L.map (·.Name)) (fun x hx => by
      rcases List.mem_cons.1 hx with e | e
      · rw [e]; exact has_iff.1 h0
      · exact (h4 x e).1)
    simp at this
    omega
end Go.Proofs.YtooagifeniibcaaGreat
namespace Go.Proofs.YtooagifeniibcaaGreat
set_option linter.unusedSimpArgs false
set_option linter.unusedVariables false
def tObj : Tx := [79, 98, 106, 101, 99, 116]
def tThr : Tx := [84, 104, 114, 111, 119, 110]
def gC (n s : Tx) : ApiClass := ApiClass.mk n s false [] [] []
def giv : List ApiClass := [gC tObj [], gC tThr tObj, gC [78, 117, 108, 108, 69, 114, 114] tThr, gC [82, 97, 110, 103, 101, 69, 114, 114] tThr, gC [77, 97, 116, 104, 69, 114, 114] tThr, gC [67, 97, 115, 116, 69, 114, 114] tThr,
  gC [83, 105, 122, 101, 69, 114, 114] tThr, gC [83, 116, 111, 114, 101, 69, 114, 114] tThr, gC [73, 110, 105, 116, 69, 114, 114] tThr, gC [67, 108, 97, 115, 115, 69, 114, 114] tThr]
theorem hier_given_eq : hier_given = some giv := by kernel_rfl
theorem ref7_given_eq : ref7_given = some giv := by kernel_rfl
def mpAll (k : Nat) (m : List (Tx × Int)) : List ApiClass → List (Tx × Int)
  | [] => m
  | c :: r => mpAll (k + 1) (mapPut c.Name (k : Int) m) r
def fresh (pre : List ApiClass) : List ApiClass → Bool
  | [] => true
  | c :: r => !hasN pre c.Name && fresh (pre ++ [c]) r
theorem mpAll_ok : ∀ (r pre : List ApiClass) (m : List (Tx × Int)), MapOk pre m → fresh pre r = true → MapOk (pre ++ r) (mpAll pre.length m r)
  | [], pre, m, h, _ => by simpa [mpAll] using h
  | c :: r, pre, m, h, hf => by
    simp only [fresh, Bool.and_eq_true, Bool.not_eq_true'] at hf
    have := mpAll_ok r (pre ++ [c]) _ (h.snoc hf.1) hf.2
    simpa [mpAll] using this
theorem fresh_nd : ∀ (r pre : List ApiClass), Nd pre → fresh pre r = true → Nd (pre ++ r)
  | [], pre, h, _ => by simpa using h
  | c :: r, pre, h, hf => by
    simp only [fresh, Bool.and_eq_true, Bool.not_eq_true'] at hf
    have := fresh_nd r (pre ++ [c]) (h.snoc hf.1) hf.2
    simpa using this
theorem giv_map : loopP (fun z => hier_New_l1 giv z.1 z.2) ([], 0) = some (.inl (mpAll 0 [] giv)) := by kernel_rfl
theorem giv_mapOk : MapOk giv (mpAll 0 [] giv) := mpAll_ok giv [] [] (fun n => rfl) (by decide +kernel)
theorem giv_nd : Nd giv := fresh_nd giv [] (fun i j c d h => by simp at h) (by decide +kernel)
noncomputable def lay : List ApiClass → List ApiClass → Option (List ApiClass)
  | L, [] => some L
  | L, c :: r => cond (hasN L c.Name || !mayG c) none (lay (L ++ [c]) r)
theorem lay_ok : ∀ (r L L' : List ApiClass), Nd L → lay L r = some L' → L' = L ++ r ∧ Nd L' ∧ ∀ c ∈ r, mayG c = true
  | [], L, L', h, e => by
    unfold lay at e
    cases e
    exact ⟨by simp, h, fun c hc => by cases hc⟩
  | c :: r, L, L', h, e => by
    unfold lay at e
    cases h1 : hasN L c.Name with
    | true => rw [h1] at e; cases e
    | false =>
      cases h2 : mayG c with
      | false => rw [h1, h2] at e; cases e
      | true =>
        rw [h1, h2] at e
        obtain ⟨k1, k2, k3⟩ := lay_ok r (L ++ [c]) L' (h.snoc h1) e
        refine ⟨by rw [k1]; simp, k2, fun d hd => ?_⟩
        rcases List.mem_cons.1 hd with e | e
        · rw [e]; exact h2
        · exact k3 d e
theorem appC {w : Nat} {L : List ApiClass} {c : ApiClass} (h : L.length ≤ 1000) (hw : w ≤ 1000) : appP w L [c] = some (L ++ [c]) := by
  refine appP_ok ?_ (by simp; omega)
  have : (L.length + [c].length) * w ≤ 1001 * 1000 := Nat.mul_le_mul (by simp; omega) hw
  omega
theorem lay_hier {l : List ApiClass} (hl : l.length ≤ 16) (hc : ∀ c ∈ l, CGIn c) : ∀ (r pre L : List ApiClass) (m : List (Tx × Int)), l = pre ++ r → MapOk L m → L.length = 10 + pre.length →
    (lay L r = none → loopP (fun z => hier_New_l3 l z.1 z.2.1 z.2.2) (L, m, (pre.length : Int)) = some (.inr (none, 1))) ∧
    (∀ L', lay L r = some L' → ∃ m', MapOk L' m' ∧ loopP (fun z => hier_New_l3 l z.1 z.2.1 z.2.2) (L, m, (pre.length : Int)) = some (.inl (L', m')))
  | [], pre, L, m, e, hm, hL => by
    rw [List.append_nil] at e
    subst e
    unfold lay
    refine ⟨fun h => (by cases h), fun L' h => ?_⟩
    cases h
    refine ⟨m, hm, ?_⟩
    rw [loopP_eq]
    show (hier_New_l3 l L m (l.length : Int)).bind _ = _
    unfold hier_New_l3
    rw [past]; rfl
  | c :: r, pre, L, m, e, hm, hL => by
    have hlen : l.length = pre.length + (r.length + 1) := by rw [e]; simp
    have hx : l[pre.length]? = some c := by rw [e]; simp
    have hcm : c ∈ l := List.mem_of_getElem? hx
    have step : loopP (fun z => hier_New_l3 l z.1 z.2.1 z.2.2) (L, m, (pre.length : Int)) = (cond (hasN L c.Name || !mayG c) (some (.inr (.inr (none, 1)))) (some (.inl (L ++ [c], mapPut c.Name (L.length : Int) m, ((pre.length + 1 : Nat) : Int))))).bind (Sum.elim (loopP (fun z => hier_New_l3 l z.1 z.2.1 z.2.2)) some) := by
      rw [loopP_eq]
      show (hier_New_l3 l L m (pre.length : Int)).bind _ = _
      congr 1
      unfold hier_New_l3
      rw [here hx, idx_nat, hx]
      simp only [cond_true, Option.bind_some]
      rw [hm.has, class_May_eqG (hc c hcm), appC (by omega) (by omega), wrap_succ (by omega)]
      cases hasN L c.Name <;> cases mayG c <;> rfl
    rw [step]
    unfold lay
    cases h1 : (hasN L c.Name || !mayG c) with
    | true => exact ⟨fun _ => rfl, fun L' h => by cases h⟩
    | false =>
      rw [Bool.or_eq_false_iff] at h1
      have := lay_hier hl hc r (pre ++ [c]) (L ++ [c]) _ (by rw [e]; simp) (hm.snoc h1.1) (by simp; omega)
      rw [show (pre ++ [c]).length = pre.length + 1 by simp] at this
      exact this
structure Okc (c : ApiClass) : Prop where
  name : c.Name ≠ []
  impl : c.Impl.length ≤ 4
  implE : ∀ s ∈ c.Impl, s ≠ []
theorem classN_ne {s : Tx} (h : classN s = true) : s ≠ [] := by
  intro e
  subst e
  unfold classN at h
  simp at h
theorem uB_all {α : Type} {ok : α → Bool} {nm : α → List UInt8} : ∀ {l pre : List α}, uB ok nm pre l = false → ∀ x ∈ l, ok x = true
  | [], _, _, x, hx => by cases hx
  | y :: r, pre, h, x, hx => by
    unfold uB at h
    simp only [Bool.or_eq_false_iff, Bool.not_eq_false'] at h
    rcases List.mem_cons.1 hx with e | e
    · rw [e]; exact h.1.1
    · exact uB_all h.2 x e
theorem may_okc {c : ApiClass} (h : mayG c = true) : Okc c := by
  unfold mayG at h
  simp only [Bool.and_eq_true, Bool.not_eq_true', decide_eq_true_eq] at h
  obtain ⟨_, ⟨⟨⟨⟨h1, h2⟩, h3, h4⟩, h5⟩, h6⟩⟩ := h
  exact ⟨classN_ne h1, by omega, fun s hs => classN_ne (uB_all h3 s hs)⟩
theorem giv_okc : ∀ c ∈ giv, Okc c := by
  intro c hc
  have h : giv.all (fun c => !(c.Name == []) && (c.Impl == [])) = true := by decide +kernel
  have := List.all_eq_true.1 h c hc
  simp only [Bool.and_eq_true, Bool.not_eq_true', beq_eq_false_iff_ne, beq_iff_eq] at this
  exact ⟨this.1, by rw [this.2]; simp, fun s hs => by rw [this.2] at hs; cases hs⟩
theorem lay_okc {l L : List ApiClass} (h : lay giv l = some L) : ∀ c ∈ L, Okc c := by
  obtain ⟨h1, h2, h3⟩ := lay_ok l giv L giv_nd h
  intro c hc
  rw [h1] at hc
  rcases List.mem_append.1 hc with e | e
  · exact giv_okc c e
  · exact may_okc (h3 c e)
theorem above_eq {c : ApiClass} (h : c.Impl.length ≤ 4) : appP 16 [c.Super] c.Impl = some (c.Super :: c.Impl) := appP_ok (by simp; omega) (by simp; omega)
theorem hier_above_eq {c : ApiClass} (h : c.Impl.length ≤ 4) : hier_above c = some (c.Super :: c.Impl) := by
  unfold hier_above; rw [above_eq h]; rfl
theorem contains4 {l : List Tx} {L : List ApiClass} {m : List (Tx × Int)} (hm : MapOk L m) (hl : l.length ≤ 1000) : slices_ContainsFunc_string_string_s4 l L m = some (l.any fun s => !hasN L s) := by
  unfold slices_ContainsFunc_string_string_s4 slices_IndexFunc_string_string_s4
  rw [show ((loopP (fun z => slices_IndexFunc_string_string_s4_l1 l L m z) 0).bind fun o => leave o (fun b => slices_IndexFunc_string_string_s4_k2) some) = _ from index_loop (l := l) (p := fun s => !hasN L s) (by omega)
    (fun i x hx => by unfold slices_IndexFunc_string_string_s4_l1 hier_New_1 hier_Hier_has; rw [here hx, idx_nat, hx]; simp only [cond_true, Option.bind_some]; rw [hm.has]) (by unfold slices_IndexFunc_string_string_s4_l1; rw [past]; rfl)]
  exact congrArg some (ixF_any _ 0 l)
theorem get_eq {L : List ApiClass} {m : List (Tx × Int)} (hm : MapOk L m) {n : Tx} (hn : hasN L n = true) : hier_Hier_get L m n = cl L n := by
  unfold hier_Hier_get
  rw [hm.idx hn]
  cases cl L n <;> rfl
theorem contains5 {l : List Tx} {L : List ApiClass} {m : List (Tx × Int)} (hm : MapOk L m) (hl : l.length ≤ 1000) (hh : ∀ s ∈ l, hasN L s = true) : slices_ContainsFunc_string_string_s5 l L m = some (l.any fun s => !isF L s) := by
  unfold slices_ContainsFunc_string_string_s5 slices_IndexFunc_string_string_s5
  rw [show ((loopP (fun z => slices_IndexFunc_string_string_s5_l1 l L m z) 0).bind fun o => leave o (fun b => slices_IndexFunc_string_string_s5_k2) some) = _ from index_loop (l := l) (p := fun s => !isF L s) (by omega)
    (fun i x hx => by
      obtain ⟨c, hc⟩ := has_cl (hh x (List.mem_of_getElem? hx))
      unfold slices_IndexFunc_string_string_s5_l1 hier_Hier_fits_1 isF
      rw [here hx, idx_nat, hx]; simp only [cond_true, Option.bind_some]; rw [get_eq hm (has_of hc), hc]; rfl) (by unfold slices_IndexFunc_string_string_s5_l1; rw [past]; rfl)]
  exact congrArg some (ixF_any _ 0 l)
noncomputable def cyc (L : List ApiClass) (n : Tx) : Bool := @decide (Rc (nxA L) n n) (Classical.propDecidable _)
theorem cyc_iff {L : List ApiClass} {n : Tx} : cyc L n = true ↔ Rc (nxA L) n n := by unfold cyc; exact @decide_eq_true_iff _ (Classical.propDecidable _)
noncomputable def badF (L : List ApiClass) (c : ApiClass) : Bool := isF L c.Super || (c.Impl.any (fun s => !isF L s) || cyc L c.Name)
theorem push_loop {R : Type} {body : List Tx × Int → Option (Sum (List Tx × Int) (Sum (List Tx) R))} {l : List Tx} {p : Tx → Bool} (hl : l.length ≤ 100)
    (hb : ∀ (i : Nat) x seen, seen.length ≤ 1000 → l[i]? = some x → body (seen, (i : Int)) = some (.inl (cond (p x && !(seen.any fun y => x == y)) (seen ++ [x]) seen, IntKind.i64.wrap ((i : Int) + 1))))
    (he : ∀ seen, body (seen, (l.length : Int)) = some (.inr (.inl seen))) : ∀ (r pre seen : List Tx), l = pre ++ r → seen.length + r.length ≤ 1000 → loopP body (seen, (pre.length : Int)) = some (.inl (push seen (r.filter p)))
  | [], pre, seen, e, hs => by
    rw [List.append_nil] at e
    subst e
    rw [loopP_eq, he]; rfl
  | x :: r, pre, seen, e, hs => by
    have hlen : l.length = pre.length + (r.length + 1) := by rw [e]; simp
    have hx : l[pre.length]? = some x := by rw [e]; simp
    simp only [List.length_cons] at hs
    rw [loopP_eq, hb _ x seen (by omega) hx, wrap_succ (by omega)]
    have ih := fun s h => push_loop hl hb he r (pre ++ [x]) s (by rw [e]; simp) h
    rw [show (pre ++ [x]).length = pre.length + 1 by simp] at ih
    cases h1 : p x with
    | false =>
      rw [List.filter_cons_of_neg (by rw [h1]; exact Bool.false_ne_true)]
      exact ih seen (by omega)
    | true =>
      rw [List.filter_cons_of_pos h1]
      unfold push
      cases h2 : (seen.any fun y => x == y) with
      | true => exact ih seen (by omega)
      | false => exact ih (seen ++ [x]) (by simp; omega)
theorem hasText' {l : List Tx} (hl : l.length ≤ 1000) (n : Tx) : slices_Contains_string_string l n = some (l.any fun y => n == y) := hasText (by unfold LenL; omega) n
theorem fits_push {l seen : List Tx} (hl : l.length ≤ 100) (hs : seen.length + l.length ≤ 1000) : loopP (fun z => hier_Hier_fits_l7 l z.1 z.2) (seen, 0) = some (.inl (push seen (l.filter (fun s => !(s == []))))) := by
  refine push_loop (l := l) (p := fun s => !(s == [])) hl (fun i x s h hx => ?_) (fun s => ?_) l [] seen rfl hs
  · show hier_Hier_fits_l7 l s (i : Int) = _
    unfold hier_Hier_fits_l7 hier_Hier_fits_j6
    rw [here hx, idx_nat, hx]
    simp only [cond_true, Option.bind_some]
    rw [hasText' h, appP_ok (w := 16) (l := s) (x := [x]) (by simp; omega) (by simp; omega)]
    cases (x == []) <;> cases (s.any fun y => x == y) <;> rfl
  · show hier_Hier_fits_l7 l s (l.length : Int) = _
    unfold hier_Hier_fits_l7
    rw [past]; rfl
theorem nxA_of {L : List ApiClass} {n : Tx} {c : ApiClass} (h : cl L n = some c) : nxA L n = (c.Super :: c.Impl).filter (fun s => !(s == [])) := by unfold nxA; rw [h]
theorem nxA_le {L : List ApiClass} (hL : ∀ c ∈ L, Okc c) (n : Tx) : (nxA L n).length ≤ 5 := by
  unfold nxA
  split
  · simp
  · rename_i c hc
    have := (hL c (cl_name hc).1).impl
    exact Nat.le_trans (List.length_filter_le _ _) (by simp; omega)
theorem push_len (l seen : List Tx) : (push seen l).length ≤ seen.length + l.length := by
  induction l generalizing seen with
  | nil => simp [push]
  | cons x r ih =>
    unfold push
    cases (seen.any fun y => x == y) with
    | true => have := ih seen; simp only [cond_true, List.length_cons]; omega
    | false => have := ih (seen ++ [x]); simp only [cond_false, List.length_cons]; simp at this; omega
theorem fits_eq {L : List ApiClass} {m : List (Tx × Int)} (hm : MapOk L m) (h : Laid L) (hO : ∀ c ∈ L, Okc c) (hlen : L.length ≤ 100) {c : ApiClass} (hc : c ∈ L) (hs : c.Super ≠ []) : hier_Hier_fits L m c = some (!badF L c) := by
  have hcs := h.closed c hc
  have hsup : hasN L c.Super = true := hcs c.Super (by simp) hs
  obtain ⟨x, hx⟩ := has_cl hsup
  have himp : ∀ s ∈ c.Impl, hasN L s = true := fun s hm => hcs s (by simp [hm]) ((hO c hc).implE s hm)
  have hi4 := (hO c hc).impl
  have e0 : (c.Super :: c.Impl) = nxA L c.Name := by
    rw [nxA_of (h.nd.cl hc), List.filter_eq_self.2]
    intro s hsm
    rcases List.mem_cons.1 hsm with e | e
    · rw [e]; simpa using hs
    · simpa using (hO c hc).implE s e
  unfold hier_Hier_fits
  rw [get_eq hm hsup, hx, contains5 hm (by omega) himp, hier_above_eq hi4]
  simp only [Option.bind_some]
  have eF : isF L c.Super = x.Interface := by unfold isF; rw [hx]
  unfold badF
  rw [eF]
  cases x.Interface with
  | true => rfl
  | false =>
    cases c.Impl.any (fun s => !isF L s) with
    | true => rfl
    | false =>
      have hfin : fin (nxA L) (5 + L.length) 0 (nxA L c.Name) = true := fin_of (U := L.map (·.Name)) (s0 := nxA L c.Name) h.nxA_in _ _ _ .start (by have := nxA_le hO c.Name; simp; omega)
      have hw := work_loop (R := Bool) (I := fun s => Inv (List.map (fun c : ApiClass => c.Name) L) (nxA L c.Name) s) (nx := nxA L) (stop := fun y => cond (y == c.Name) (some false) none) (body := fun z => hier_Hier_fits_l9 L m c z.1 z.2)
        (fun i seen y hI hy => by
          have hsl := hI.len
          have h5 := nxA_le hO c.Name
          have hym : hasN L y = true := has_iff.2 (hI.mem (fun z hz => h.nxA_in _ z hz) y (List.mem_of_getElem? hy))
          obtain ⟨d, hd⟩ := has_cl hym
          have hd4 := (hO d (cl_name hd).1).impl
          have hpl := push_len (nxA L y) seen
          simp only [List.length_map] at hsl
          show hier_Hier_fits_l9 L m c seen (i : Int) = _
          unfold hier_Hier_fits_l9 hier_Hier_fits_k8
          rw [here hy, idx_nat, hy]
          simp only [cond_true, Option.bind_some]
          have hilt := (List.getElem?_eq_some_iff.1 hy).1
          rw [get_eq hm hym, hd]
          simp only [Option.bind_some]
          rw [hier_above_eq hd4]
          simp only [Option.bind_some]
          rw [fits_push (by simp; omega) (by simp; omega), ← nxA_of hd, wrap_succ (by omega)]
          cases y == c.Name <;> rfl)
        (fun i seen hI hle => by
          show hier_Hier_fits_l9 L m c seen (i : Int) = _
          unfold hier_Hier_fits_l9
          rw [decide_eq_false (by omega)]; rfl)
        (fun seen y hI hy => hI.push (h.nxA_in y)) (5 + L.length) 0 (nxA L c.Name) .start hfin
      rw [e0]
      rw [show loopP (fun z => hier_Hier_fits_l9 L m c z.1 z.2) (nxA L c.Name, 0) = _ from hw, List.drop_zero, findSome_any]
      have : (bfs (nxA L) (5 + L.length) 0 (nxA L c.Name)).any (fun y => y == c.Name) = cyc L c.Name := by
        rw [Bool.eq_iff_iff, cyc_iff, ← bfs_rc hfin, List.any_eq_true]
        constructor
        · rintro ⟨y, h1, h2⟩; obtain rfl := eq_of_beq h2; exact h1
        · intro h1; exact ⟨_, h1, beq_self_eq_true _⟩
      rw [this]
      cases cyc L c.Name <;> rfl
end Go.Proofs.YtooagifeniibcaaGreat
