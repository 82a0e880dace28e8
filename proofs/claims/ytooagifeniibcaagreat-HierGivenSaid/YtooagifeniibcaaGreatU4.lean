/- HierGiven: for every input the law returns true, and each argument reads as it read before. No further condition. Part 4 of 5. -/
import Derived.Test.YtooagifeniibcaaGreatU3
namespace Go.Proofs.YtooagifeniibcaaGreat
noncomputable section
set_option linter.unusedSimpArgs false
set_option linter.unusedVariables false
set_option maxRecDepth 100000
set_option maxHeartbeats 4000000
def law7_small (v1 : Int) (v2 : Int) : Option (Int) :=
  (remP v1 v2).bind fun v3=>(remP (IntKind.i64.wrap (v3 + v2)) v2).bind fun v4=>some v4
theorem law7_small_ok (v1 : Int) (v2 : Int) {r : Int} (h : law7_small v1 v2 = some r) : PureC Tryz.prog 31 [iA v1,iA v2] (iA r):=by
 refine pure_fn Tryz.func31 j0 (by kernel_rfl) j0 j0 ?_
 unfold law7_small at h
 refine rg j0<|u<|asg j0<|r_nil ?_
 obtain ⟨v3,q1,h⟩:=bs h
 obtain ⟨v4,q2,h⟩:=bs h
 refine rg j0<|u<|mv j0<|u<|mv j0<|u<|rem ti3 j0 j0 q1<|u<|mv j0<|u<|add ti3 j0 j0<|u<|mv j0<|u<|rem ti3 j0 j0 q2<|u<|asg j0<|r_nil ?_
 refine sw_ret ?_
 obtain rfl:=sm h
 exact ⟨_,j0,[],ci j0,j0,j5,j0,j1⟩
def hier_Hier_there_k2 (v11 : List UInt8) : Option (Bool) :=
  some false
def hier_Hier_there_l1 (v7 : List UInt8) (v8 : List UInt8) (v9 : Bool) : Option (Sum ((List UInt8) × (List UInt8) × Bool) (Sum ((List UInt8)) (Bool))) :=
  cond v9 ((kind_Elem v8).bind fun v10=>some (.inl (v8,v10.1,v10.2))) (some (.inr (.inl v7)))
def hier_Hier_there (v1 : List UInt8) : Option (Bool) :=
  (kind_Elem v1).bind fun v2=>(loopP (fun z=>hier_Hier_there_l1 z.1 z.2.1 z.2.2) (v1,v2.1,v2.2)).bind fun o=>leave o (fun b=>hier_Hier_there_k2 b) some
theorem hier_Hier_there_ok (v1 : List UInt8) {r : Bool} (h : hier_Hier_there v1 = some r) : PureC Tryz.prog 67 [.lit (.pointer none),sA v1] (bA r):=by
 refine pure_fn Tryz.func67 j0 (by kernel_rfl) j0 j0 ?_
 unfold hier_Hier_there at h
 refine rg j0<|u<|asg j0<|r_nil ?_
 refine sw_seq ?_
 obtain ⟨v2,q1,h⟩:=bs h
 refine rg j0<|u<|mv j0<|u<|pc (kind_Elem_ok v1 q1) j0 j0 j0<|u<|mv j0<|u<|ex j0 j0<|u<|ex j0 j0<|u<|asg j0<|u<|asg j0<|r_nil ?_
 obtain ⟨o,ho,h⟩:=bs h
 refine sw_lpl (X:=(List UInt8) × (List UInt8) × Bool) (B:=(List UInt8)) (R:=Bool) (fun z=>[(0,.lit (.pointer none)),(1,sA z.1),(5,sA z.2.1),(6,bA z.2.2)]) (fun z=>[]) (fun b=>[(0,.lit (.pointer none)),(1,sA b)]) (fun b=>[]) (fun r env st=>PostF Tryz.prog Tryz.f67 0 (bA r) [] env st) ho ⟨[],ce j0 j0<|ce j0 j0<|ce j0 j0<|ce j0 j0<|cn,j0,j5,j0,j1⟩ ?_ ?_ ?_
 ·
  rintro ⟨v7,v8,v9⟩ r h
  replace h : hier_Hier_there_l1 v7 v8 v9 = some r:=h
  unfold hier_Hier_there_l1 at h
  refine sw_seq ?_
  refine rg j0<|u<|mv j0<|r_nil ?_
  refine sw_cond j0 (fun hc4=>?_) (fun hc4=>?_)
  ·
   replace h:=bT hc4 h
   refine sw_skip ?_
   refine sw_seq ?_
   refine sw_block ?_
   refine rl j0<|u<|mv j0<|u<|asg j0<|r_nil ?_
   obtain ⟨v10,q5,h⟩:=bs h
   refine rl j0<|u<|mv j0<|u<|pc (kind_Elem_ok v8 q5) j0 j0 j0<|u<|mv j0<|u<|ex j0 j0<|u<|ex j0 j0<|u<|asg j0<|u<|asg j0<|r_nil ?_
   obtain rfl:=sm h
   exact ⟨_,j0,[],ce j0 j0<|ce j0 j0<|ce j0 j0<|ce j0 j0<|cn,j0,j5,j0,j1⟩
  ·
   replace h:=bF hc4 h
   refine sw_exit ?_
   obtain rfl:=sm h
   exact ⟨j0,_,j0,[],ce j0 j0<|ce j0 j0<|cn,j0,j5,j0,j1⟩
 ·
  rintro v11 rfl
  replace h : hier_Hier_there_k2 v11 = some r:=h
  unfold hier_Hier_there_k2 at h
  refine ow_intro ?_
  refine rg j0<|u<|mv j0<|u<|nep ti25 j0 j0 j0 j0 j0 j0<|u<|mv j0<|r_skip (aguard_of (b:=false) j0)<|r_skip (aguard_of (b:=false) j0)<|r_skip (aguard_of (b:=false) j0)<|r_skip (aguard_undef j0)<|r_skip (aguard_undef j0)<|r_skip (aguard_undef j0)<|r_skip (aguard_of (b:=false) j0)<|u<|pk (b:=false) j0 j0<|u<|asg j0<|r_nil ?_
  refine sw_ret ?_
  obtain rfl:=sm h
  exact ⟨_,j0,[],ci j0,j0,j5,j0,j1⟩
 ·
  rintro r' rfl env st hp
  obtain rfl:=sm h
  exact hp
def hier_Hier_Faces_s2_k2 : Option ((List (List UInt8))) :=
  (sortW []).bind fun v4=>some []
def hier_Hier_Faces_s2_l1 (v2 : (List (List UInt8))) : Option (Sum (Unit) (Sum (Unit) ((List (List UInt8))))) :=
  cond (decide (0 < (List.length v2 : Int))) ((idx v2 0).bind fun v3=>none) (some (.inr (.inl ())))
def hier_Hier_Faces_s2 (v1 : List UInt8) : Option ((List (List UInt8))) :=
  cond (!(hier_Hier_has_s2 v1)) (some []) ((hier_Hier_Supers v1).bind fun v2=>(loopP (fun z=>hier_Hier_Faces_s2_l1 v2) ()).bind fun o=>leave o (fun b=>hier_Hier_Faces_s2_k2) some)
theorem hier_Hier_Faces_s2_ok (v1 : List UInt8) {r : (List (List UInt8))} (h : hier_Hier_Faces_s2 v1 = some r) : PureC Tryz.prog 26 [.lit (.pointer none),sA v1] (.isl 1 (List.map rStr r)):=by
 refine pure_fn Tryz.func26 j0 (by kernel_rfl) j0 j0 ?_
 unfold hier_Hier_Faces_s2 at h
 refine rg j0<|u<|asg j0<|r_nil ?_
 refine sw_seq ?_
 refine rg j0<|u<|mv j0<|u<|mv j0<|u<|pc (hier_Hier_has_s2_ok v1 j0) j0 j0 j0<|u<|nt j0<|r_nil ?_
 refine sw_cond j0 (fun hc1=>?_) (fun hc1=>?_)
 ·
  replace h:=bT hc1 h
  refine rg j0<|u<|asg j0<|r_nil ?_
  refine sw_ret ?_
  obtain rfl:=sm h
  exact ⟨_,j0,[],.nil,j0,j5,j0,j1⟩
 ·
  replace h:=bF hc1 h
  refine sw_skip ?_
  refine rg j0<|u<|asg j0<|r_nil ?_
  obtain ⟨v2,q2,h⟩:=bs h
  refine rg j0<|u<|mv j0<|u<|mv j0<|u<|pc (hier_Hier_Supers_ok v1 q2) j0 j0 j0<|u<|asg j0<|r_nil ?_
  refine sw_seq ?_
  refine rg j0<|u<|asg j0<|r_nil ?_
  obtain ⟨o,ho,h⟩:=bs h
  refine sw_lpl (X:=Unit) (B:=Unit) (R:=(List (List UInt8))) (fun z=>[(0,.lit (.pointer none)),(5,.lit (.slice none 0 0)),(6,.isl 1 (List.map rStr v2)),(7,iA 0)]) (fun z=>[]) (fun b=>[(5,.lit (.slice none 0 0))]) (fun b=>[]) (fun r env st=>PostF Tryz.prog Tryz.f26 0 (.isl 1 (List.map rStr r)) [] env st) ho ⟨[],ce j0 j0<|ce j0 j0<|ce j0 j0<|ce j0 j0<|cn,j0,j5,j0,j1⟩ ?_ ?_ ?_
  ·
   rintro ⟨⟩ r h
   replace h : hier_Hier_Faces_s2_l1 v2 = some r:=h
   unfold hier_Hier_Faces_s2_l1 at h
   refine sw_seq ?_
   refine rg j0<|u<|mv j0<|u<|mv j0<|u<|lnI ti32 j0 j0<|u<|lss ti3 j0 j0<|r_nil ?_
   refine sw_cond j0 (fun hc3=>?_) (fun hc3=>?_)
   ·
    replace h:=bT hc3 h
    refine sw_skip ?_
    refine sw_seq ?_
    refine sw_block ?_
    obtain ⟨v3,q4,h⟩:=bs h
    cases h
   ·
    replace h:=bF hc3 h
    refine sw_exit ?_
    obtain rfl:=sm h
    exact ⟨j0,_,j0,[],ce j0 j0<|cn,j0,j5,j0,j1⟩
  ·
   rintro ⟨⟩ rfl
   replace h : hier_Hier_Faces_s2_k2 = some r:=h
   unfold hier_Hier_Faces_s2_k2 at h
   refine ow_intro ?_
   obtain ⟨v4,q5,h⟩:=bs h
   refine rg j0<|u<|mv j0<|ph 1<|u<|sc [0] (sortW_ok [] q5) j0 j0 j0 j0 ⟨(.nil0 j0),j5⟩ ⟨⟨j0,mkI (fun _=>j0)⟩,j5⟩<|r_can (env0:=[(5,.lit (.slice none 0 0))]) (st0:=[]) ⟨[],ce j0 j0<|cn,j0,j5,j0,j1⟩<|r_nil ?_
   refine rg j0<|u<|mv j0<|u<|asg j0<|r_nil ?_
   refine sw_ret ?_
   obtain rfl:=sm h
   exact ⟨_,j0,[],.nil,j0,j5,j0,j1⟩
  ·
   rintro r' rfl env st hp
   obtain rfl:=sm h
   exact hp
def hier_Hier_Sub_s2_F (v0 : ((List UInt8) × (List UInt8) → Option Bool)) (v1 : List UInt8) (v2 : List UInt8) : Option (Bool) :=
  (hier_Hier_there v1).bind fun v3=>(cond (!v3) (some true) ((hier_Hier_there v2).bind fun v4=>some (!v4))).bind fun v5=>cond v5 (some false) ((kind_Elem v1).bind fun v6=>(kind_Elem v2).bind fun v7=>cond (v1 == v2) (some true) (cond (v6.2 && v7.2) ((cond ((!(v6.1 == [73])) && (!(v7.1 == [73]))) ((v0 (v6.1,v7.1)).bind fun v8=>some v8) (some false)).bind fun v9=>some v9) (cond v6.2 (some (v2 == [79,98,106,101,99,116])) ((hier_Hier_Supers v1).bind fun v10=>(slices_Contains_string_string v10 v2).bind fun v11=>(cond v11 (some true) ((hier_Hier_Faces_s2 v1).bind fun v12=>(slices_Contains_string_string v12 v2).bind fun v13=>some v13)).bind fun v14=>some v14))))
theorem hier_Hier_Sub_s2_F_ok (v0 : ((List UInt8) × (List UInt8) → Option Bool)) (hrec : ∀ z r,v0 z = some r → PureC Tryz.prog 24 [.lit (.pointer none),sA z.1,sA z.2] (bA r)) (v1 : List UInt8) (v2 : List UInt8) {r : Bool} (h : hier_Hier_Sub_s2_F v0 v1 v2 = some r) : PureC Tryz.prog 24 [.lit (.pointer none),sA v1,sA v2] (bA r):=by
 refine pure_fn Tryz.func24 j0 (by kernel_rfl) j0 j0 ?_
 unfold hier_Hier_Sub_s2_F at h
 refine rg j0<|u<|asg j0<|r_nil ?_
 refine sw_seq ?_
 obtain ⟨v3,q1,h⟩:=bs h
 obtain ⟨v5,q4,h⟩:=bs h
 refine rg j0<|u<|mv j0<|u<|mv j0<|u<|pc (hier_Hier_there_ok v1 q1) j0 j0 j0<|u<|nt j0<|u<|mv j0<|r_or (x:=v5) (j:=4) 4 j0 j0 j0 j0 j0 gpn (fun hb2=>by replace q4:=bF hb2 q4; obtain ⟨v4,q3,q4⟩:=bs q4; obtain rfl:=sm q4; exact g j0 hb2<|mv j0<|g j0 hb2<|mv j0<|g j0 hb2<|pc (hier_Hier_there_ok v2 q3) j0 j0 j0<|g j0 hb2<|nt j0<|r_nil (eg [16,17,18,19] 4 j0 j0 j0 j0)) (fun hb=>(sm (bT hb q4)).symm)<|r_nil ?_
 refine sw_cond j0 (fun hc5=>?_) (fun hc5=>?_)
 ·
  replace h:=bT hc5 h
  refine rg j0<|u<|asg j0<|r_nil ?_
  refine sw_ret ?_
  obtain rfl:=sm h
  exact ⟨_,j0,[],ci j0,j0,j5,j0,j1⟩
 ·
  replace h:=bF hc5 h
  refine sw_skip ?_
  obtain ⟨v6,q6,h⟩:=bs h
  refine rg j0<|u<|mv j0<|u<|pc (kind_Elem_ok v1 q6) j0 j0 j0<|u<|mv j0<|u<|ex j0 j0<|u<|ex j0 j0<|u<|asg j0<|u<|asg j0<|r_nil ?_
  obtain ⟨v7,q7,h⟩:=bs h
  refine rg j0<|u<|mv j0<|u<|pc (kind_Elem_ok v2 q7) j0 j0 j0<|u<|mv j0<|u<|ex j0 j0<|u<|ex j0 j0<|u<|asg j0<|u<|asg j0<|r_nil ?_
  refine sw_seq ?_
  refine sw_block ?_
  refine rg j0<|u<|mv j0<|u<|mv j0<|u<|seq ti9 j0 j0<|u<|asg j0<|r_nil ?_
  refine sw_cond j0 (fun hc8=>?_) (fun hc8=>?_)
  ·
   replace h:=bT hc8 h
   refine rg j0<|u<|asg j0<|r_nil ?_
   refine sw_ret ?_
   obtain rfl:=sm h
   exact ⟨_,j0,[],ci j0,j0,j5,j0,j1⟩
  ·
   replace h:=bF hc8 h
   refine rg j0<|u<|mv j0<|u<|mv j0<|r_and (j:=1) 1 j0 j0 j0 j0 j0 gpn (fun hb9=>g j0 hb9<|mv j0<|r_nil (egA [38] 1 hb9 j0 j0 j0 j0)) andF<|u<|asg j0<|r_nil ?_
   refine sw_cond j0 (fun hc10=>?_) (fun hc10=>?_)
   ·
    replace h:=bT hc10 h
    obtain ⟨v9,q14,h⟩:=bs h
    refine rg j0<|u<|mv j0<|u<|sne ti9 j0 j0<|u<|mv j0<|r_and (j:=2) 2 j0 j0 j0 j0 j0 gpn (fun hb11=>g j0 hb11<|mv j0<|g j0 hb11<|sne ti9 j0 j0<|r_nil (egA [43,44] 2 hb11 j0 j0 j0 j0)) andF<|u<|mv j0<|r_and (x:=v9) (j:=6) 4 j0 j0 j0 j0 j0 gpn (fun hb12=>by replace q14:=bT hb12 q14; obtain ⟨v8,q13,q14⟩:=bs q14; obtain rfl:=sm q14; exact g j0 hb12<|mv j0<|g j0 hb12<|mv j0<|g j0 hb12<|mv j0<|g j0 hb12<|pc (hrec (v6.1,v7.1) _ q13) j0 j0 j0<|r_nil (eg [47,48,49,50] 4 j0 j0 j0 j0)) (fun hb=>(sm (bF hb q14)).symm)<|u<|asg j0<|r_nil ?_
    refine sw_ret ?_
    obtain rfl:=sm h
    exact ⟨_,j0,[],ci j0,j0,j5,j0,j1⟩
   ·
    replace h:=bF hc10 h
    refine rg j0<|u<|mv j0<|u<|asg j0<|r_nil ?_
    refine sw_cond j0 (fun hc15=>?_) (fun hc15=>?_)
    ·
     replace h:=bT hc15 h
     refine rg j0<|u<|mv j0<|u<|seq ti9 j0 j0<|u<|asg j0<|r_nil ?_
     refine sw_ret ?_
     obtain rfl:=sm h
     exact ⟨_,j0,[],ci j0,j0,j5,j0,j1⟩
    ·
     replace h:=bF hc15 h
     refine sw_skip ?_
     obtain ⟨v10,q16,h⟩:=bs h
     obtain ⟨v11,q17,h⟩:=bs h
     obtain ⟨v14,q21,h⟩:=bs h
     refine rg j0<|u<|mv j0<|u<|mv j0<|u<|pc (hier_Hier_Supers_ok v1 q16) j0 j0 j0<|u<|mv j0<|u<|pc (slices_Contains_string_string_ok v10 v2 q17) j0 j0 j0<|u<|mv j0<|r_or (x:=v14) (j:=5) 5 j0 j0 j0 j0 j0 gpn (fun hb18=>by replace q21:=bF hb18 q21; obtain ⟨v12,q19,q21⟩:=bs q21; obtain ⟨v13,q20,q21⟩:=bs q21; obtain rfl:=sm q21; exact g j0 hb18<|mv j0<|g j0 hb18<|mv j0<|g j0 hb18<|pc (hier_Hier_Faces_s2_ok v1 q19) j0 j0 j0<|g j0 hb18<|mv j0<|g j0 hb18<|pc (slices_Contains_string_string_ok v12 v2 q20) j0 j0 j0<|r_nil (eg [62,63,64,65,66] 5 j0 j0 j0 j0)) (fun hb=>(sm (bT hb q21)).symm)<|u<|asg j0<|r_nil ?_
     refine sw_ret ?_
     obtain rfl:=sm h
     exact ⟨_,j0,[],ci j0,j0,j5,j0,j1⟩
def hier_Hier_Sub_s2 (v1 : List UInt8) (v2 : List UInt8) : Option Bool :=
  recP (fun v0 z=>hier_Hier_Sub_s2_F v0 z.1 z.2) (v1,v2)
theorem hier_Hier_Sub_s2_ok (v1 : List UInt8) (v2 : List UInt8) {r : Bool} (h : hier_Hier_Sub_s2 v1 v2 = some r) : PureC Tryz.prog 24 [.lit (.pointer none),sA v1,sA v2] (bA r) :=
  rec_all (F:=(fun v0 z=>hier_Hier_Sub_s2_F v0 z.1 z.2)) (Q:=fun z r=>PureC Tryz.prog 24 [.lit (.pointer none),sA z.1,sA z.2] (bA r)) (fun v0 hv z r h=>hier_Hier_Sub_s2_F_ok v0 hv z.1 z.2 h) h
def hier_Hier_there_s2_k2 (v1 : List ApiClass) (v2 : List (List UInt8 × Int)) (v13 : List UInt8) : Option (Bool) :=
  some ((v13 == [73]) || (hier_Hier_has v1 v2 v13))
def hier_Hier_there_s2_l1 (v9 : List UInt8) (v10 : List UInt8) (v11 : Bool) : Option (Sum ((List UInt8) × (List UInt8) × Bool) (Sum ((List UInt8)) (Bool))) :=
  cond v11 ((kind_Elem v10).bind fun v12=>some (.inl (v10,v12.1,v12.2))) (some (.inr (.inl v9)))
def hier_Hier_there_s2 (v1 : List ApiClass) (v2 : List (List UInt8 × Int)) (v3 : List UInt8) : Option (Bool) :=
  (kind_Elem v3).bind fun v4=>(loopP (fun z=>hier_Hier_there_s2_l1 z.1 z.2.1 z.2.2) (v3,v4.1,v4.2)).bind fun o=>leave o (fun b=>hier_Hier_there_s2_k2 v1 v2 b) some
theorem hier_Hier_there_s2_ok (v1 : List ApiClass) (v2 : List (List UInt8 × Int)) (v3 : List UInt8) {r : Bool} (h : hier_Hier_there_s2 v1 v2 v3 = some r) : PureC Tryz.prog 67 [.ipt 2 [[.isl 6 (List.map rApiClass v1),.imp (List.map (rKV (fun x=>iA x)) v2)]] 0 0,sA v3] (bA r):=by
 refine pure_fn Tryz.func67 j0 (by kernel_rfl) j0 j0 ?_
 unfold hier_Hier_there_s2 at h
 refine rg j0<|u<|asg j0<|r_nil ?_
 refine sw_seq ?_
 obtain ⟨v4,q1,h⟩:=bs h
 refine rg j0<|u<|mv j0<|u<|pc (kind_Elem_ok v3 q1) j0 j0 j0<|u<|mv j0<|u<|ex j0 j0<|u<|ex j0 j0<|u<|asg j0<|u<|asg j0<|r_nil ?_
 obtain ⟨o,ho,h⟩:=bs h
 refine sw_lpl (X:=(List UInt8) × (List UInt8) × Bool) (B:=(List UInt8)) (R:=Bool) (fun z=>[(0,.ipt 2 [[.isl 6 (List.map rApiClass v1),.imp (List.map (rKV (fun x=>iA x)) v2)]] 0 0),(1,sA z.1),(5,sA z.2.1),(6,bA z.2.2)]) (fun z=>[]) (fun b=>[(0,.ipt 2 [[.isl 6 (List.map rApiClass v1),.imp (List.map (rKV (fun x=>iA x)) v2)]] 0 0),(1,sA b)]) (fun b=>[]) (fun r env st=>PostF Tryz.prog Tryz.f67 0 (bA r) [] env st) ho ⟨[],ce j0 j0<|ce j0 j0<|ce j0 j0<|ce j0 j0<|cn,j0,j5,j0,j1⟩ ?_ ?_ ?_
 ·
  rintro ⟨v9,v10,v11⟩ r h
  replace h : hier_Hier_there_s2_l1 v9 v10 v11 = some r:=h
  unfold hier_Hier_there_s2_l1 at h
  refine sw_seq ?_
  refine rg j0<|u<|mv j0<|r_nil ?_
  refine sw_cond j0 (fun hc4=>?_) (fun hc4=>?_)
  ·
   replace h:=bT hc4 h
   refine sw_skip ?_
   refine sw_seq ?_
   refine sw_block ?_
   refine rl j0<|u<|mv j0<|u<|asg j0<|r_nil ?_
   obtain ⟨v12,q5,h⟩:=bs h
   refine rl j0<|u<|mv j0<|u<|pc (kind_Elem_ok v10 q5) j0 j0 j0<|u<|mv j0<|u<|ex j0 j0<|u<|ex j0 j0<|u<|asg j0<|u<|asg j0<|r_nil ?_
   obtain rfl:=sm h
   exact ⟨_,j0,[],ce j0 j0<|ce j0 j0<|ce j0 j0<|ce j0 j0<|cn,j0,j5,j0,j1⟩
  ·
   replace h:=bF hc4 h
   refine sw_exit ?_
   obtain rfl:=sm h
   exact ⟨j0,_,j0,[],ce j0 j0<|ce j0 j0<|cn,j0,j5,j0,j1⟩
 ·
  rintro v13 rfl
  replace h : hier_Hier_there_s2_k2 v1 v2 v13 = some r:=h
  unfold hier_Hier_there_s2_k2 at h
  refine ow_intro ?_
  refine rg j0<|u<|mv j0<|u<|nep ti25 j0 j0 j0 j0 j0 j0<|u<|mv j0<|g j0 j0<|mv j0<|g j0 j0<|seq ti9 j0 j0<|g j0 j0<|mv j0<|r_or (j:=5) 3 j0 j0 j0 j0 j0 (gps j0 j0 j0) (fun hb6=>g j0 hb6<|mv j0<|g j0 hb6<|mv j0<|g j0 hb6<|pc (hier_Hier_has_ok v1 v2 v13 j0) j0 j0 j0<|r_nil (egO [25,26,27] 3 hb6 j0 j0 j0 j0)) orT<|u<|pk (b:=true) j0 j0<|u<|asg j0<|r_nil ?_
  refine sw_ret ?_
  obtain rfl:=sm h
  exact ⟨_,j0,[],ci j0,j0,j5,j0,j1⟩
 ·
  rintro r' rfl env st hp
  obtain rfl:=sm h
  exact hp
def hier_Hier_Faces_s3_k12 (v45 : List (List UInt8)) : Option ((List (List UInt8))) :=
  (sortW v45).bind fun v46=>some v46
def hier_Hier_Faces_s3_k10 (v27 : Int) (v31 : List (List UInt8)) (v44 : List (List UInt8)) : Option (Sum ((List (List UInt8)) × (List (List UInt8)) × Int) (Sum ((List (List UInt8))) ((List (List UInt8))))) :=
  some (.inl (v31,v44,(IntKind.i64.wrap (v27 + 1))))
def hier_Hier_Faces_s3_j8 (v39 : Int) (v43 : List (List UInt8)) : Option (Sum ((List (List UInt8)) × Int) (Sum ((List (List UInt8))) ((List (List UInt8))))) :=
  some (.inl (v43,(IntKind.i64.wrap (v39 + 1))))
def hier_Hier_Faces_s3_l9 (v29 : ApiClass) (v38 : List (List UInt8)) (v39 : Int) : Option (Sum ((List (List UInt8)) × Int) (Sum ((List (List UInt8))) ((List (List UInt8))))) :=
  cond (decide (v39 < (List.length v29.Impl : Int))) ((idx v29.Impl v39).bind fun v40=>(slices_Contains_string_string v38 v40).bind fun v41=>cond (!v41) ((appP 16 v38 [v40]).bind fun v42=>hier_Hier_Faces_s3_j8 v39 v42) (hier_Hier_Faces_s3_j8 v39 v38)) (some (.inr (.inl v38)))
def hier_Hier_Faces_s3_j6 (v26 : List (List UInt8)) (v27 : Int) (v29 : ApiClass) (v31 : List (List UInt8)) : Option (Sum ((List (List UInt8)) × (List (List UInt8)) × Int) (Sum ((List (List UInt8))) ((List (List UInt8))))) :=
  (loopP (fun z=>hier_Hier_Faces_s3_l9 v29 z.1 z.2) (v26,0)).bind fun o=>leave o (fun b=>hier_Hier_Faces_s3_k10 v27 v31 b) (fun r=>some (.inr (.inr r)))
def hier_Hier_Faces_s3_l11 (v1 : List ApiClass) (v2 : List (List UInt8 × Int)) (v25 : List (List UInt8)) (v26 : List (List UInt8)) (v27 : Int) : Option (Sum ((List (List UInt8)) × (List (List UInt8)) × Int) (Sum ((List (List UInt8))) ((List (List UInt8))))) :=
  cond (decide (v27 < ((List.length v26) : Int))) ((idx v26 v27).bind fun v28=>(hier_Hier_get v1 v2 v28).bind fun v29=>cond v29.Interface ((appP 16 v25 [v29.Name]).bind fun v30=>hier_Hier_Faces_s3_j6 v26 v27 v29 v30) (hier_Hier_Faces_s3_j6 v26 v27 v29 v25)) (some (.inr (.inl v25)))
def hier_Hier_Faces_s3 (v1 : List ApiClass) (v2 : List (List UInt8 × Int)) (v3 : List UInt8) : Option ((List (List UInt8))) :=
  cond (!(hier_Hier_has v1 v2 v3)) (some []) ((hier_Hier_Supers_s2 v1 v2 v3).bind fun v4=>(loopP (fun z=>hier_Hier_Faces_s3_l11 v1 v2 z.1 z.2.1 z.2.2) ([],v4,0)).bind fun o=>leave o (fun b=>hier_Hier_Faces_s3_k12 b) some)
theorem hier_Hier_Faces_s3_ok (v1 : List ApiClass) (v2 : List (List UInt8 × Int)) (v3 : List UInt8) {r : (List (List UInt8))} (h : hier_Hier_Faces_s3 v1 v2 v3 = some r) : SC Tryz.prog 26 [.ipt 2 [[.isl 6 (List.map rApiClass v1),.imp (List.map (rKV (fun x=>iA x)) v2)]] 0 0,sA v3] [] (.msl 0 0 (List.length r)) [.many 1 (List.map rStr r)]:=by
 refine ⟨⟨sbOk (sz:=1) (fun _=>j0),j5⟩,scall_fn Tryz.func26 j0 (by kernel_rfl) j0 ?_⟩
 unfold hier_Hier_Faces_s3 at h
 refine rg j0<|u<|asg j0<|r_nil ?_
 refine sw_seq ?_
 refine rg j0<|u<|mv j0<|u<|mv j0<|u<|pc (hier_Hier_has_ok v1 v2 v3 j0) j0 j0 j0<|u<|nt j0<|r_nil ?_
 refine sw_cond j0 (fun hc1=>?_) (fun hc1=>?_)
 ·
  replace h:=bT hc1 h
  refine rg j0<|u<|asg j0<|r_nil ?_
  refine sw_ret ?_
  obtain rfl:=sm h
  exact ⟨_,j0,[.fresh 1],.nilown j0,j0,⟨j4,j5⟩,j0,j1⟩
 ·
  replace h:=bF hc1 h
  refine sw_skip ?_
  refine rg j0<|u<|asg j0<|r_nil ?_
  obtain ⟨v4,q2,h⟩:=bs h
  refine rg j0<|u<|mv j0<|u<|mv j0<|u<|sc [] (hier_Hier_Supers_s2_ok v1 v2 v3 q2) j0 j0 j0 j0 ⟨(rnI j0),(rnI j0),j5⟩ j5<|r_can (env0:=[(0,.ipt 2 [[.isl 6 (List.map rApiClass v1),.imp (List.map (rKV (fun x=>iA x)) v2)]] 0 0),(5,.lit (.slice none 0 0)),(17,.msl 0 0 (List.length v4))]) (st0:=[some (1,List.map rStr v4)]) ⟨[.old 0],ce j0 j0<|ce j0 j0<|cv j0 (.msl j0)<|cn,j0,⟨⟨_,j0,rsMap (fun _=>j0)⟩,j5⟩,j0,j1⟩<|u<|asg j0<|r_nil ?_
  refine sw_seq ?_
  refine rg j0<|u<|asg j0<|r_nil ?_
  obtain ⟨o,ho,h⟩:=bs h
  refine sw_lpl (X:=(List (List UInt8)) × (List (List UInt8)) × Int) (B:=(List (List UInt8))) (R:=(List (List UInt8))) (fun z=>[(0,.ipt 2 [[.isl 6 (List.map rApiClass v1),.imp (List.map (rKV (fun x=>iA x)) v2)]] 0 0),(5,.msl 0 0 (List.length z.1)),(6,.msl 1 0 (List.length z.2.1)),(7,iA z.2.2)]) (fun z=>[some (1,List.map rStr z.1),some (1,List.map rStr z.2.1)]) (fun b=>[(5,.msl 0 0 (List.length b))]) (fun b=>[some (1,List.map rStr b)]) (fun r env st=>PostF Tryz.prog Tryz.f26 0 (.msl 0 0 (List.length r)) [some (1,List.map rStr r)] env st) ho ⟨[.fresh 1,.old 0],ce j0 j0<|cv j0 (.nilown j0)<|cv j0 (.msl j0)<|ce j0 j0<|cn,j0,⟨j4,⟨_,j0,rsMap (fun _=>j0)⟩,j5⟩,j0,j1⟩ ?_ ?_ ?_
  ·
   rintro ⟨v25,v26,v27⟩ r h
   replace h : hier_Hier_Faces_s3_l11 v1 v2 v25 v26 v27 = some r:=h
   unfold hier_Hier_Faces_s3_l11 at h
   refine sw_seq ?_
   refine rg j0<|u<|mv j0<|u<|mv j0<|u<|lnM ti32 j0 j0 j0<|u<|lss ti3 j0 j0<|r_nil ?_
   refine sw_cond j0 (fun hc18=>?_) (fun hc18=>?_)
   ·
    replace h:=bT hc18 h
    refine sw_skip ?_
    refine sw_seq ?_
    refine sw_block ?_
    obtain ⟨v28,q19,h⟩:=bs h
    obtain ⟨v29,q20,h⟩:=bs h
    refine rg j0<|u<|mv j0<|u<|mv j0<|u<|mv j0<|u<|ixM ti32 j0 ti9 j0 j0 j0 j0 q19<|u<|ldM ti9 j0 j0 (idx_some q19).2.2 j0<|u<|pc (hier_Hier_get_ok v1 v2 v28 q20) j0 j0 j0<|u<|al 2 ti42 j0<|u<|sto ti42 j0 j0 j0<|r_nil ?_
    refine sw_meet (X:=(List (List UInt8))) (fun z=>[(0,.ipt 2 [[.isl 6 (List.map rApiClass v1),.imp (List.map (rKV (fun x=>iA x)) v2)]] 0 0),(5,.msl 0 0 (List.length z)),(6,.msl 1 0 (List.length v26)),(7,iA v27),(8,.mpt 2 0 0)]) (fun z=>[some (1,List.map rStr z),some (1,List.map rStr v26),some (6,[[sA v29.Name,sA v29.Super,bA v29.Interface,.isl 1 (List.map rStr v29.Impl),.isl 3 (List.map rApiField v29.Fields),.isl 10 (List.map rApiMethod v29.Methods)]])]) (fun z=>hier_Hier_Faces_s3_j6 v26 v27 v29 z = some r) ?_ ?_
    ·
     refine rg j0<|u<|fa ti42 j0 j0 j0<|u<|ld ti4 j0 j0<|r_nil ?_
     refine sw_cond j0 (fun hc21=>?_) (fun hc21=>?_)
     ·
      replace h:=bT hc21 h
      obtain ⟨v30,q22,h⟩:=bs h
      exact rl j0<|u<|mv j0<|u<|fa ti42 j0 j0 j0<|u<|ld ti9 j0 j0<|u<|bl 3 ti32 j0 ti9 j0 (by decide) (by decide) j0 j0 j0<|u<|apM 4 ti32 j0 ti9 j0 j0 (by decide) ti32 j0 j0 j0 j0 (roX (f:=rStr) (z:=[v29.Name]) j0 j0) (fun _=>j0) j0 q22<|u<|asg j0<|r_nil (⟨v30,h,[.old 4,.old 1,.old 2],ce j0 j0<|cv j0 (.msl j0)<|cv j0 (.msl j0)<|ce j0 j0<|cv j0 (.mpt j0)<|cn,j0,⟨⟨_,j0,rsMap (fun _=>j0)⟩,⟨_,j0,rsMap (fun _=>j0)⟩,⟨_,j0,rsOne ⟨ci j0,ci j0,ci j0,ci j0,ci j0,ci j0,j5⟩⟩,j5⟩,j0,j1⟩)
     ·
      replace h:=bF hc21 h
      refine sw_skip ?_
      exact ⟨v25,h,[.old 0,.old 1,.old 2],ce j0 j0<|cv j0 (.msl j0)<|cv j0 (.msl j0)<|ce j0 j0<|cv j0 (.mpt j0)<|cn,j0,⟨⟨_,j0,rsMap (fun _=>j0)⟩,⟨_,j0,rsMap (fun _=>j0)⟩,⟨_,j0,rsOne ⟨ci j0,ci j0,ci j0,ci j0,ci j0,ci j0,j5⟩⟩,j5⟩,j0,j1⟩
    ·
     rintro v31 h
     replace h : hier_Hier_Faces_s3_j6 v26 v27 v29 v31 = some r:=h
     unfold hier_Hier_Faces_s3_j6 at h
     refine rg j0<|u<|fa ti42 j0 j0 j0<|u<|ld ti32 j0 j0<|u<|lnI ti32 j0 j0<|u<|mv j0<|r_nil ?_
     obtain ⟨o,ho,h⟩:=bs h
     refine sw_lpl (X:=(List (List UInt8)) × Int) (B:=(List (List UInt8))) (R:=(List (List UInt8))) (fun z=>[(0,.ipt 2 [[.isl 6 (List.map rApiClass v1),.imp (List.map (rKV (fun x=>iA x)) v2)]] 0 0),(5,.msl 0 0 (List.length v31)),(6,.msl 1 0 (List.length z.1)),(7,iA v27),(38,.isl 1 (List.map rStr v29.Impl)),(39,iA (List.length v29.Impl : Int)),(40,iA z.2)]) (fun z=>[some (1,List.map rStr v31),some (1,List.map rStr z.1)]) (fun b=>[(0,.ipt 2 [[.isl 6 (List.map rApiClass v1),.imp (List.map (rKV (fun x=>iA x)) v2)]] 0 0),(5,.msl 0 0 (List.length v31)),(6,.msl 1 0 (List.length b)),(7,iA v27)]) (fun b=>[some (1,List.map rStr v31),some (1,List.map rStr b)]) (fun r env st=>PostF Tryz.prog Tryz.f26 0 (.msl 0 0 (List.length r)) [some (1,List.map rStr r)] env st) ho ⟨[.old 0,.old 1],ce j0 j0<|cv j0 (.msl j0)<|cv j0 (.msl j0)<|ce j0 j0<|ce j0 j0<|ce j0 j0<|ce j0 j0<|cn,j0,⟨⟨_,j0,rsMap (fun _=>j0)⟩,⟨_,j0,rsMap (fun _=>j0)⟩,j5⟩,j0,j1⟩ ?_ ?_ ?_
     ·
      rintro ⟨v38,v39⟩ r h
      replace h : hier_Hier_Faces_s3_l9 v29 v38 v39 = some r:=h
      unfold hier_Hier_Faces_s3_l9 at h
      refine rg j0<|u<|lss ti3 j0 j0<|r_nil ?_
      refine sw_seq ?_
      refine sw_cond j0 (fun hc28=>?_) (fun hc28=>?_)
      ·
       replace h:=bT hc28 h
       refine sw_skip ?_
       refine sw_meet (X:=(List (List UInt8))) (fun z=>[(0,.ipt 2 [[.isl 6 (List.map rApiClass v1),.imp (List.map (rKV (fun x=>iA x)) v2)]] 0 0),(5,.msl 0 0 (List.length v31)),(6,.msl 1 0 (List.length z)),(7,iA v27),(38,.isl 1 (List.map rStr v29.Impl)),(39,iA (List.length v29.Impl : Int)),(40,iA v39)]) (fun z=>[some (1,List.map rStr v31),some (1,List.map rStr z)]) (fun z=>hier_Hier_Faces_s3_j8 v39 z = some r) ?_ ?_
       ·
        refine sw_block ?_
        obtain ⟨v40,q29,h⟩:=bs h
        refine rg j0<|u<|ixI ti32 j0 ti9 j0 j0 j0 q29<|u<|ldI ti9 j0 (idx_some q29).2.2 j0<|u<|asg j0<|r_nil ?_
        obtain ⟨v41,q30,h⟩:=bs h
        refine rg j0<|u<|mv j0<|u<|mv j0<|u<|pcs (slices_Contains_string_string_ok v38 v40 q30) j0 j0 (.cons (sealM j0 (fun _=>j0)) (.cons (si j0) .nil)) plainB<|u<|nt j0<|r_nil ?_
        refine sw_cond j0 (fun hc31=>?_) (fun hc31=>?_)
        ·
         replace h:=bT hc31 h
         obtain ⟨v42,q32,h⟩:=bs h
         exact rl j0<|u<|mv j0<|u<|mv j0<|u<|bl 2 ti32 j0 ti9 j0 (by decide) (by decide) j0 j0 j0<|u<|apM 3 ti32 j0 ti9 j0 j0 (by decide) ti32 j0 j0 j0 j0 (roX (f:=rStr) (z:=[v40]) j0 j0) (fun _=>j0) j0 q32<|u<|asg j0<|r_nil (⟨v42,h,[.old 0,.old 3],ce j0 j0<|cv j0 (.msl j0)<|cv j0 (.msl j0)<|ce j0 j0<|ce j0 j0<|ce j0 j0<|ce j0 j0<|cn,j0,⟨⟨_,j0,rsMap (fun _=>j0)⟩,⟨_,j0,rsMap (fun _=>j0)⟩,j5⟩,j0,j1⟩)
        ·
         replace h:=bF hc31 h
         refine sw_skip ?_
         exact ⟨v38,h,[.old 0,.old 1],ce j0 j0<|cv j0 (.msl j0)<|cv j0 (.msl j0)<|ce j0 j0<|ce j0 j0<|ce j0 j0<|ce j0 j0<|cn,j0,⟨⟨_,j0,rsMap (fun _=>j0)⟩,⟨_,j0,rsMap (fun _=>j0)⟩,j5⟩,j0,j1⟩
       ·
        rintro v43 h
        replace h : hier_Hier_Faces_s3_j8 v39 v43 = some r:=h
        unfold hier_Hier_Faces_s3_j8 at h
        refine rl j0<|u<|add ti3 j0 j0<|u<|mv j0<|r_nil ?_
        obtain rfl:=sm h
        exact ⟨_,j0,[.old 0,.old 1],ce j0 j0<|cv j0 (.msl j0)<|cv j0 (.msl j0)<|ce j0 j0<|ce j0 j0<|ce j0 j0<|ce j0 j0<|cn,j0,⟨⟨_,j0,rsMap (fun _=>j0)⟩,⟨_,j0,rsMap (fun _=>j0)⟩,j5⟩,j0,j1⟩
      ·
       replace h:=bF hc28 h
       refine sw_exit ?_
       obtain rfl:=sm h
       exact ⟨j0,_,j0,[.old 0,.old 1],ce j0 j0<|cv j0 (.msl j0)<|cv j0 (.msl j0)<|ce j0 j0<|cn,j0,⟨⟨_,j0,rsMap (fun _=>j0)⟩,⟨_,j0,rsMap (fun _=>j0)⟩,j5⟩,j0,j1⟩
     ·
      rintro v44 rfl
      replace h : hier_Hier_Faces_s3_k10 v27 v31 v44 = some r:=h
      unfold hier_Hier_Faces_s3_k10 at h
      refine ow_intro ?_
      refine rl j0<|u<|mv j0<|u<|add ti3 j0 j0<|u<|asg j0<|r_nil ?_
      obtain rfl:=sm h
      exact ⟨_,j0,[.old 0,.old 1],ce j0 j0<|cv j0 (.msl j0)<|cv j0 (.msl j0)<|ce j0 j0<|cn,j0,⟨⟨_,j0,rsMap (fun _=>j0)⟩,⟨_,j0,rsMap (fun _=>j0)⟩,j5⟩,j0,j1⟩
     ·
      rintro r' rfl env st hp
      obtain rfl:=sm h
      exact ⟨_,j0,hp⟩
   ·
    replace h:=bF hc18 h
    refine sw_exit ?_
    obtain rfl:=sm h
    exact ⟨j0,_,j0,[.old 0],cv j0 (.msl j0)<|cn,j0,⟨⟨_,j0,rsMap (fun _=>j0)⟩,j5⟩,j0,j1⟩
  ·
   rintro v45 rfl
   replace h : hier_Hier_Faces_s3_k12 v45 = some r:=h
   unfold hier_Hier_Faces_s3_k12 at h
   refine ow_intro ?_
   obtain ⟨v46,q33,h⟩:=bs h
   refine rg j0<|u<|mv j0<|u<|sc [0] (sortW_ok v45 q33) j0 j0 j0 j0 ⟨(.msl j0),j5⟩ ⟨⟨j0,mkI (fun _=>j0)⟩,j5⟩<|r_can (env0:=[(5,.msl 0 0 (List.length v46))]) (st0:=[some (1,List.map rStr v46)]) ⟨[.old 0],cv j0 (mslE (sortW_len q33) j0)<|cn,j0,⟨⟨_,j0,rsMap (fun _=>j0)⟩,j5⟩,j0,j1⟩<|r_nil ?_
   refine rg j0<|u<|mv j0<|u<|asg j0<|r_nil ?_
   refine sw_ret ?_
   obtain rfl:=sm h
   exact ⟨_,j0,[.old 0],.msl j0,j0,⟨⟨_,j0,rsMap (fun _=>j0)⟩,j5⟩,j0,j1⟩
  ·
   rintro r' rfl env st hp
   obtain rfl:=sm h
   exact hp
def hier_Hier_Sub_s3_F (v0 : ((List ApiClass) × (List (List UInt8 × Int)) × (List UInt8) × (List UInt8) → Option Bool)) (v1 : List ApiClass) (v2 : List (List UInt8 × Int)) (v3 : List UInt8) (v4 : List UInt8) : Option (Bool) :=
  (hier_Hier_there_s2 v1 v2 v3).bind fun v5=>(cond (!v5) (some true) ((hier_Hier_there_s2 v1 v2 v4).bind fun v6=>some (!v6))).bind fun v7=>cond v7 (some false) ((kind_Elem v3).bind fun v8=>(kind_Elem v4).bind fun v9=>cond (v3 == v4) (some true) (cond (v8.2 && v9.2) ((cond ((!(v8.1 == [73])) && (!(v9.1 == [73]))) ((v0 (v1,v2,v8.1,v9.1)).bind fun v10=>some v10) (some false)).bind fun v11=>some v11) (cond v8.2 (some (v4 == [79,98,106,101,99,116])) ((hier_Hier_Supers_s2 v1 v2 v3).bind fun v12=>(slices_Contains_string_string v12 v4).bind fun v13=>(cond v13 (some true) ((hier_Hier_Faces_s3 v1 v2 v3).bind fun v14=>(slices_Contains_string_string v14 v4).bind fun v15=>some v15)).bind fun v16=>some v16))))
theorem hier_Hier_Sub_s3_F_ok (v0 : ((List ApiClass) × (List (List UInt8 × Int)) × (List UInt8) × (List UInt8) → Option Bool)) (hrec : ∀ z r,v0 z = some r → PureC Tryz.prog 24 [.ipt 2 [[.isl 6 (List.map rApiClass z.1),.imp (List.map (rKV (fun x=>iA x)) z.2.1)]] 0 0,sA z.2.2.1,sA z.2.2.2] (bA r)) (v1 : List ApiClass) (v2 : List (List UInt8 × Int)) (v3 : List UInt8) (v4 : List UInt8) {r : Bool} (h : hier_Hier_Sub_s3_F v0 v1 v2 v3 v4 = some r) : PureC Tryz.prog 24 [.ipt 2 [[.isl 6 (List.map rApiClass v1),.imp (List.map (rKV (fun x=>iA x)) v2)]] 0 0,sA v3,sA v4] (bA r):=by
 refine pure_fn Tryz.func24 j0 (by kernel_rfl) j0 j0 ?_
 unfold hier_Hier_Sub_s3_F at h
 refine rg j0<|u<|asg j0<|r_nil ?_
 refine sw_seq ?_
 obtain ⟨v5,q1,h⟩:=bs h
 obtain ⟨v7,q4,h⟩:=bs h
 refine rg j0<|u<|mv j0<|u<|mv j0<|u<|pc (hier_Hier_there_s2_ok v1 v2 v3 q1) j0 j0 j0<|u<|nt j0<|u<|mv j0<|r_or (x:=v7) (j:=4) 4 j0 j0 j0 j0 j0 gpn (fun hb2=>by replace q4:=bF hb2 q4; obtain ⟨v6,q3,q4⟩:=bs q4; obtain rfl:=sm q4; exact g j0 hb2<|mv j0<|g j0 hb2<|mv j0<|g j0 hb2<|pc (hier_Hier_there_s2_ok v1 v2 v4 q3) j0 j0 j0<|g j0 hb2<|nt j0<|r_nil (eg [16,17,18,19] 4 j0 j0 j0 j0)) (fun hb=>(sm (bT hb q4)).symm)<|r_nil ?_
 refine sw_cond j0 (fun hc5=>?_) (fun hc5=>?_)
 ·
  replace h:=bT hc5 h
  refine rg j0<|u<|asg j0<|r_nil ?_
  refine sw_ret ?_
  obtain rfl:=sm h
  exact ⟨_,j0,[],ci j0,j0,j5,j0,j1⟩
 ·
  replace h:=bF hc5 h
  refine sw_skip ?_
  obtain ⟨v8,q6,h⟩:=bs h
  refine rg j0<|u<|mv j0<|u<|pc (kind_Elem_ok v3 q6) j0 j0 j0<|u<|mv j0<|u<|ex j0 j0<|u<|ex j0 j0<|u<|asg j0<|u<|asg j0<|r_nil ?_
  obtain ⟨v9,q7,h⟩:=bs h
  refine rg j0<|u<|mv j0<|u<|pc (kind_Elem_ok v4 q7) j0 j0 j0<|u<|mv j0<|u<|ex j0 j0<|u<|ex j0 j0<|u<|asg j0<|u<|asg j0<|r_nil ?_
  refine sw_seq ?_
  refine sw_block ?_
  refine rg j0<|u<|mv j0<|u<|mv j0<|u<|seq ti9 j0 j0<|u<|asg j0<|r_nil ?_
  refine sw_cond j0 (fun hc8=>?_) (fun hc8=>?_)
  ·
   replace h:=bT hc8 h
   refine rg j0<|u<|asg j0<|r_nil ?_
   refine sw_ret ?_
   obtain rfl:=sm h
   exact ⟨_,j0,[],ci j0,j0,j5,j0,j1⟩
  ·
   replace h:=bF hc8 h
   refine rg j0<|u<|mv j0<|u<|mv j0<|r_and (j:=1) 1 j0 j0 j0 j0 j0 gpn (fun hb9=>g j0 hb9<|mv j0<|r_nil (egA [38] 1 hb9 j0 j0 j0 j0)) andF<|u<|asg j0<|r_nil ?_
   refine sw_cond j0 (fun hc10=>?_) (fun hc10=>?_)
   ·
    replace h:=bT hc10 h
    obtain ⟨v11,q14,h⟩:=bs h
    refine rg j0<|u<|mv j0<|u<|sne ti9 j0 j0<|u<|mv j0<|r_and (j:=2) 2 j0 j0 j0 j0 j0 gpn (fun hb11=>g j0 hb11<|mv j0<|g j0 hb11<|sne ti9 j0 j0<|r_nil (egA [43,44] 2 hb11 j0 j0 j0 j0)) andF<|u<|mv j0<|r_and (x:=v11) (j:=6) 4 j0 j0 j0 j0 j0 gpn (fun hb12=>by replace q14:=bT hb12 q14; obtain ⟨v10,q13,q14⟩:=bs q14; obtain rfl:=sm q14; exact g j0 hb12<|mv j0<|g j0 hb12<|mv j0<|g j0 hb12<|mv j0<|g j0 hb12<|pc (hrec (v1,v2,v8.1,v9.1) _ q13) j0 j0 j0<|r_nil (eg [47,48,49,50] 4 j0 j0 j0 j0)) (fun hb=>(sm (bF hb q14)).symm)<|u<|asg j0<|r_nil ?_
    refine sw_ret ?_
    obtain rfl:=sm h
    exact ⟨_,j0,[],ci j0,j0,j5,j0,j1⟩
   ·
    replace h:=bF hc10 h
    refine rg j0<|u<|mv j0<|u<|asg j0<|r_nil ?_
    refine sw_cond j0 (fun hc15=>?_) (fun hc15=>?_)
    ·
     replace h:=bT hc15 h
     refine rg j0<|u<|mv j0<|u<|seq ti9 j0 j0<|u<|asg j0<|r_nil ?_
     refine sw_ret ?_
     obtain rfl:=sm h
     exact ⟨_,j0,[],ci j0,j0,j5,j0,j1⟩
    ·
     replace h:=bF hc15 h
     refine sw_skip ?_
     obtain ⟨v12,q16,h⟩:=bs h
     obtain ⟨v13,q17,h⟩:=bs h
     obtain ⟨v16,q21,h⟩:=bs h
     refine rg j0<|u<|mv j0<|u<|mv j0<|u<|sc [] (hier_Hier_Supers_s2_ok v1 v2 v3 q16) j0 j0 j0 j0 ⟨(rnI j0),(rnI j0),j5⟩ j5<|r_can (env0:=[(0,.ipt 2 [[.isl 6 (List.map rApiClass v1),.imp (List.map (rKV (fun x=>iA x)) v2)]] 0 0),(1,sA v3),(2,sA v4),(58,.msl 0 0 (List.length v12))]) (st0:=[some (1,List.map rStr v12)]) ⟨[.old 0],ce j0 j0<|ce j0 j0<|ce j0 j0<|cv j0 (.msl j0)<|cn,j0,⟨⟨_,j0,rsMap (fun _=>j0)⟩,j5⟩,j0,j1⟩<|u<|mv j0<|u<|pcs (slices_Contains_string_string_ok v12 v4 q17) j0 j0 (.cons (sealM j0 (fun _=>j0)) (.cons (si j0) .nil)) plainB<|u<|mv j0<|r_orX (x:=v16) (j:=5) 5 1 j0 j0 j0 j0 j0 gpn (fun hb18=>by replace q21:=bF hb18 q21; obtain ⟨v14,q19,q21⟩:=bs q21; obtain ⟨v15,q20,q21⟩:=bs q21; obtain rfl:=sm q21; exact g j0 hb18<|mv j0<|g j0 hb18<|mv j0<|g j0 hb18<|sc [] (hier_Hier_Faces_s3_ok v1 v2 v3 q19) j0 j0 j0 j0 ⟨(rnI j0),(rnI j0),j5⟩ j5<|g j0 hb18<|mv j0<|g j0 hb18<|pcs (slices_Contains_string_string_ok v14 v4 q20) j0 j0 (.cons (sealM j0 (fun _=>j0)) (.cons (si j0) .nil)) plainB<|r_nil (xg [62,63,64,65,66] 5 j0 j0 j0 j0 j0 j0)) (fun hb=>(sm (bT hb q21)).symm)<|u<|asg j0<|r_nil ?_
     refine sw_ret ?_
     obtain rfl:=sm h
     exact ⟨_,j0,[],ci j0,j0,j5,j0,j1⟩
def hier_Hier_Sub_s3 (v1 : List ApiClass) (v2 : List (List UInt8 × Int)) (v3 : List UInt8) (v4 : List UInt8) : Option Bool :=
  recP (fun v0 z=>hier_Hier_Sub_s3_F v0 z.1 z.2.1 z.2.2.1 z.2.2.2) (v1,v2,v3,v4)
theorem hier_Hier_Sub_s3_ok (v1 : List ApiClass) (v2 : List (List UInt8 × Int)) (v3 : List UInt8) (v4 : List UInt8) {r : Bool} (h : hier_Hier_Sub_s3 v1 v2 v3 v4 = some r) : PureC Tryz.prog 24 [.ipt 2 [[.isl 6 (List.map rApiClass v1),.imp (List.map (rKV (fun x=>iA x)) v2)]] 0 0,sA v3,sA v4] (bA r) :=
  rec_all (F:=(fun v0 z=>hier_Hier_Sub_s3_F v0 z.1 z.2.1 z.2.2.1 z.2.2.2)) (Q:=fun z r=>PureC Tryz.prog 24 [.ipt 2 [[.isl 6 (List.map rApiClass z.1),.imp (List.map (rKV (fun x=>iA x)) z.2.1)]] 0 0,sA z.2.2.1,sA z.2.2.2] (bA r)) (fun v0 hv z r h=>hier_Hier_Sub_s3_F_ok v0 hv z.1 z.2.1 z.2.2.1 z.2.2.2 h) h
def hier_Hier_Sub (v1 : Option HierHier) (v2 : List UInt8) (v3 : List UInt8) : Option (Bool) :=
  optE v1 ((hier_Hier_there v2).bind fun v5=>(cond (!v5) (some true) ((hier_Hier_there v3).bind fun v6=>some (!v6))).bind fun v7=>cond v7 (some false) ((kind_Elem v2).bind fun v8=>(kind_Elem v3).bind fun v9=>cond (v2 == v3) (some true) (cond (v8.2 && v9.2) ((cond ((!(v8.1 == [73])) && (!(v9.1 == [73]))) ((hier_Hier_Sub_s2 v8.1 v9.1).bind fun v10=>some v10) (some false)).bind fun v11=>some v11) (cond v8.2 (some (v3 == [79,98,106,101,99,116])) ((hier_Hier_Supers v2).bind fun v12=>(slices_Contains_string_string v12 v3).bind fun v13=>(cond v13 (some true) ((hier_Hier_Faces_s2 v2).bind fun v14=>(slices_Contains_string_string v14 v3).bind fun v15=>some v15)).bind fun v16=>some v16))))) (fun v4=>(hier_Hier_there_s2 v4.l v4.at_ v2).bind fun v17=>(cond (!v17) (some true) ((hier_Hier_there_s2 v4.l v4.at_ v3).bind fun v18=>some (!v18))).bind fun v19=>cond v19 (some false) ((kind_Elem v2).bind fun v20=>(kind_Elem v3).bind fun v21=>cond (v2 == v3) (some true) (cond (v20.2 && v21.2) ((cond ((!(v20.1 == [73])) && (!(v21.1 == [73]))) ((hier_Hier_Sub_s3 v4.l v4.at_ v20.1 v21.1).bind fun v22=>some v22) (some false)).bind fun v23=>some v23) (cond v20.2 (some (v3 == [79,98,106,101,99,116])) ((hier_Hier_Supers_s2 v4.l v4.at_ v2).bind fun v24=>(slices_Contains_string_string v24 v3).bind fun v25=>(cond v25 (some true) ((hier_Hier_Faces_s3 v4.l v4.at_ v2).bind fun v26=>(slices_Contains_string_string v26 v3).bind fun v27=>some v27)).bind fun v28=>some v28)))))
theorem hier_Hier_Sub_ok (v1 : Option HierHier) (v2 : List UInt8) (v3 : List UInt8) {r : Bool} (h : hier_Hier_Sub v1 v2 v3 = some r) : PureC Tryz.prog 24 [optP 2 rHierHier v1,sA v2,sA v3] (bA r):=by
 refine pure_fn Tryz.func24 j0 (by kernel_rfl) j0 j0 ?_
 unfold hier_Hier_Sub at h
 rcases v1 with _ | v4
 ·
  replace h:=oeN h
  refine rg j0<|u<|asg j0<|r_nil ?_
  refine sw_seq ?_
  obtain ⟨v5,q1,h⟩:=bs h
  obtain ⟨v7,q4,h⟩:=bs h
  refine rg j0<|u<|mv j0<|u<|mv j0<|u<|pc (hier_Hier_there_ok v2 q1) j0 j0 j0<|u<|nt j0<|u<|mv j0<|r_or (x:=v7) (j:=4) 4 j0 j0 j0 j0 j0 gpn (fun hb2=>by replace q4:=bF hb2 q4; obtain ⟨v6,q3,q4⟩:=bs q4; obtain rfl:=sm q4; exact g j0 hb2<|mv j0<|g j0 hb2<|mv j0<|g j0 hb2<|pc (hier_Hier_there_ok v3 q3) j0 j0 j0<|g j0 hb2<|nt j0<|r_nil (eg [16,17,18,19] 4 j0 j0 j0 j0)) (fun hb=>(sm (bT hb q4)).symm)<|r_nil ?_
  refine sw_cond j0 (fun hc5=>?_) (fun hc5=>?_)
  ·
   replace h:=bT hc5 h
   refine rg j0<|u<|asg j0<|r_nil ?_
   refine sw_ret ?_
   obtain rfl:=sm h
   exact ⟨_,j0,[],ci j0,j0,j5,j0,j1⟩
  ·
   replace h:=bF hc5 h
   refine sw_skip ?_
   obtain ⟨v8,q6,h⟩:=bs h
   refine rg j0<|u<|mv j0<|u<|pc (kind_Elem_ok v2 q6) j0 j0 j0<|u<|mv j0<|u<|ex j0 j0<|u<|ex j0 j0<|u<|asg j0<|u<|asg j0<|r_nil ?_
   obtain ⟨v9,q7,h⟩:=bs h
   refine rg j0<|u<|mv j0<|u<|pc (kind_Elem_ok v3 q7) j0 j0 j0<|u<|mv j0<|u<|ex j0 j0<|u<|ex j0 j0<|u<|asg j0<|u<|asg j0<|r_nil ?_
   refine sw_seq ?_
   refine sw_block ?_
   refine rg j0<|u<|mv j0<|u<|mv j0<|u<|seq ti9 j0 j0<|u<|asg j0<|r_nil ?_
   refine sw_cond j0 (fun hc8=>?_) (fun hc8=>?_)
   ·
    replace h:=bT hc8 h
    refine rg j0<|u<|asg j0<|r_nil ?_
    refine sw_ret ?_
    obtain rfl:=sm h
    exact ⟨_,j0,[],ci j0,j0,j5,j0,j1⟩
   ·
    replace h:=bF hc8 h
    refine rg j0<|u<|mv j0<|u<|mv j0<|r_and (j:=1) 1 j0 j0 j0 j0 j0 gpn (fun hb9=>g j0 hb9<|mv j0<|r_nil (egA [38] 1 hb9 j0 j0 j0 j0)) andF<|u<|asg j0<|r_nil ?_
    refine sw_cond j0 (fun hc10=>?_) (fun hc10=>?_)
    ·
     replace h:=bT hc10 h
     obtain ⟨v11,q14,h⟩:=bs h
     refine rg j0<|u<|mv j0<|u<|sne ti9 j0 j0<|u<|mv j0<|r_and (j:=2) 2 j0 j0 j0 j0 j0 gpn (fun hb11=>g j0 hb11<|mv j0<|g j0 hb11<|sne ti9 j0 j0<|r_nil (egA [43,44] 2 hb11 j0 j0 j0 j0)) andF<|u<|mv j0<|r_and (x:=v11) (j:=6) 4 j0 j0 j0 j0 j0 gpn (fun hb12=>by replace q14:=bT hb12 q14; obtain ⟨v10,q13,q14⟩:=bs q14; obtain rfl:=sm q14; exact g j0 hb12<|mv j0<|g j0 hb12<|mv j0<|g j0 hb12<|mv j0<|g j0 hb12<|pc (hier_Hier_Sub_s2_ok v8.1 v9.1 q13) j0 j0 j0<|r_nil (eg [47,48,49,50] 4 j0 j0 j0 j0)) (fun hb=>(sm (bF hb q14)).symm)<|u<|asg j0<|r_nil ?_
     refine sw_ret ?_
     obtain rfl:=sm h
     exact ⟨_,j0,[],ci j0,j0,j5,j0,j1⟩
    ·
     replace h:=bF hc10 h
     refine rg j0<|u<|mv j0<|u<|asg j0<|r_nil ?_
     refine sw_cond j0 (fun hc15=>?_) (fun hc15=>?_)
     ·
      replace h:=bT hc15 h
      refine rg j0<|u<|mv j0<|u<|seq ti9 j0 j0<|u<|asg j0<|r_nil ?_
      refine sw_ret ?_
      obtain rfl:=sm h
      exact ⟨_,j0,[],ci j0,j0,j5,j0,j1⟩
     ·
      replace h:=bF hc15 h
      refine sw_skip ?_
      obtain ⟨v12,q16,h⟩:=bs h
      obtain ⟨v13,q17,h⟩:=bs h
      obtain ⟨v16,q21,h⟩:=bs h
      refine rg j0<|u<|mv j0<|u<|mv j0<|u<|pc (hier_Hier_Supers_ok v2 q16) j0 j0 j0<|u<|mv j0<|u<|pc (slices_Contains_string_string_ok v12 v3 q17) j0 j0 j0<|u<|mv j0<|r_or (x:=v16) (j:=5) 5 j0 j0 j0 j0 j0 gpn (fun hb18=>by replace q21:=bF hb18 q21; obtain ⟨v14,q19,q21⟩:=bs q21; obtain ⟨v15,q20,q21⟩:=bs q21; obtain rfl:=sm q21; exact g j0 hb18<|mv j0<|g j0 hb18<|mv j0<|g j0 hb18<|pc (hier_Hier_Faces_s2_ok v2 q19) j0 j0 j0<|g j0 hb18<|mv j0<|g j0 hb18<|pc (slices_Contains_string_string_ok v14 v3 q20) j0 j0 j0<|r_nil (eg [62,63,64,65,66] 5 j0 j0 j0 j0)) (fun hb=>(sm (bT hb q21)).symm)<|u<|asg j0<|r_nil ?_
      refine sw_ret ?_
      obtain rfl:=sm h
      exact ⟨_,j0,[],ci j0,j0,j5,j0,j1⟩
 ·
  replace h:=oeS h
  refine rg j0<|u<|asg j0<|r_nil ?_
  refine sw_seq ?_
  obtain ⟨v17,q22,h⟩:=bs h
  obtain ⟨v19,q25,h⟩:=bs h
  refine rg j0<|u<|mv j0<|u<|mv j0<|u<|pc (hier_Hier_there_s2_ok v4.l v4.at_ v2 q22) j0 j0 j0<|u<|nt j0<|u<|mv j0<|r_or (x:=v19) (j:=4) 4 j0 j0 j0 j0 j0 gpn (fun hb23=>by replace q25:=bF hb23 q25; obtain ⟨v18,q24,q25⟩:=bs q25; obtain rfl:=sm q25; exact g j0 hb23<|mv j0<|g j0 hb23<|mv j0<|g j0 hb23<|pc (hier_Hier_there_s2_ok v4.l v4.at_ v3 q24) j0 j0 j0<|g j0 hb23<|nt j0<|r_nil (eg [16,17,18,19] 4 j0 j0 j0 j0)) (fun hb=>(sm (bT hb q25)).symm)<|r_nil ?_
  refine sw_cond j0 (fun hc26=>?_) (fun hc26=>?_)
  ·
   replace h:=bT hc26 h
   refine rg j0<|u<|asg j0<|r_nil ?_
   refine sw_ret ?_
   obtain rfl:=sm h
   exact ⟨_,j0,[],ci j0,j0,j5,j0,j1⟩
  ·
   replace h:=bF hc26 h
   refine sw_skip ?_
   obtain ⟨v20,q27,h⟩:=bs h
   refine rg j0<|u<|mv j0<|u<|pc (kind_Elem_ok v2 q27) j0 j0 j0<|u<|mv j0<|u<|ex j0 j0<|u<|ex j0 j0<|u<|asg j0<|u<|asg j0<|r_nil ?_
   obtain ⟨v21,q28,h⟩:=bs h
   refine rg j0<|u<|mv j0<|u<|pc (kind_Elem_ok v3 q28) j0 j0 j0<|u<|mv j0<|u<|ex j0 j0<|u<|ex j0 j0<|u<|asg j0<|u<|asg j0<|r_nil ?_
   refine sw_seq ?_
   refine sw_block ?_
   refine rg j0<|u<|mv j0<|u<|mv j0<|u<|seq ti9 j0 j0<|u<|asg j0<|r_nil ?_
   refine sw_cond j0 (fun hc29=>?_) (fun hc29=>?_)
   ·
    replace h:=bT hc29 h
    refine rg j0<|u<|asg j0<|r_nil ?_
    refine sw_ret ?_
    obtain rfl:=sm h
    exact ⟨_,j0,[],ci j0,j0,j5,j0,j1⟩
   ·
    replace h:=bF hc29 h
    refine rg j0<|u<|mv j0<|u<|mv j0<|r_and (j:=1) 1 j0 j0 j0 j0 j0 gpn (fun hb30=>g j0 hb30<|mv j0<|r_nil (egA [38] 1 hb30 j0 j0 j0 j0)) andF<|u<|asg j0<|r_nil ?_
    refine sw_cond j0 (fun hc31=>?_) (fun hc31=>?_)
    ·
     replace h:=bT hc31 h
     obtain ⟨v23,q35,h⟩:=bs h
     refine rg j0<|u<|mv j0<|u<|sne ti9 j0 j0<|u<|mv j0<|r_and (j:=2) 2 j0 j0 j0 j0 j0 gpn (fun hb32=>g j0 hb32<|mv j0<|g j0 hb32<|sne ti9 j0 j0<|r_nil (egA [43,44] 2 hb32 j0 j0 j0 j0)) andF<|u<|mv j0<|r_and (x:=v23) (j:=6) 4 j0 j0 j0 j0 j0 gpn (fun hb33=>by replace q35:=bT hb33 q35; obtain ⟨v22,q34,q35⟩:=bs q35; obtain rfl:=sm q35; exact g j0 hb33<|mv j0<|g j0 hb33<|mv j0<|g j0 hb33<|mv j0<|g j0 hb33<|pc (hier_Hier_Sub_s3_ok v4.l v4.at_ v20.1 v21.1 q34) j0 j0 j0<|r_nil (eg [47,48,49,50] 4 j0 j0 j0 j0)) (fun hb=>(sm (bF hb q35)).symm)<|u<|asg j0<|r_nil ?_
     refine sw_ret ?_
     obtain rfl:=sm h
     exact ⟨_,j0,[],ci j0,j0,j5,j0,j1⟩
    ·
     replace h:=bF hc31 h
     refine rg j0<|u<|mv j0<|u<|asg j0<|r_nil ?_
     refine sw_cond j0 (fun hc36=>?_) (fun hc36=>?_)
     ·
      replace h:=bT hc36 h
      refine rg j0<|u<|mv j0<|u<|seq ti9 j0 j0<|u<|asg j0<|r_nil ?_
      refine sw_ret ?_
      obtain rfl:=sm h
      exact ⟨_,j0,[],ci j0,j0,j5,j0,j1⟩
     ·
      replace h:=bF hc36 h
      refine sw_skip ?_
      obtain ⟨v24,q37,h⟩:=bs h
      obtain ⟨v25,q38,h⟩:=bs h
      obtain ⟨v28,q42,h⟩:=bs h
      refine rg j0<|u<|mv j0<|u<|mv j0<|u<|sc [] (hier_Hier_Supers_s2_ok v4.l v4.at_ v2 q37) j0 j0 j0 j0 ⟨(rnI j0),(rnI j0),j5⟩ j5<|r_can (env0:=[(0,.ipt 2 [[.isl 6 (List.map rApiClass v4.l),.imp (List.map (rKV (fun x=>iA x)) v4.at_)]] 0 0),(1,sA v2),(2,sA v3),(58,.msl 0 0 (List.length v24))]) (st0:=[some (1,List.map rStr v24)]) ⟨[.old 0],ce j0 j0<|ce j0 j0<|ce j0 j0<|cv j0 (.msl j0)<|cn,j0,⟨⟨_,j0,rsMap (fun _=>j0)⟩,j5⟩,j0,j1⟩<|u<|mv j0<|u<|pcs (slices_Contains_string_string_ok v24 v3 q38) j0 j0 (.cons (sealM j0 (fun _=>j0)) (.cons (si j0) .nil)) plainB<|u<|mv j0<|r_orX (x:=v28) (j:=5) 5 1 j0 j0 j0 j0 j0 gpn (fun hb39=>by replace q42:=bF hb39 q42; obtain ⟨v26,q40,q42⟩:=bs q42; obtain ⟨v27,q41,q42⟩:=bs q42; obtain rfl:=sm q42; exact g j0 hb39<|mv j0<|g j0 hb39<|mv j0<|g j0 hb39<|sc [] (hier_Hier_Faces_s3_ok v4.l v4.at_ v2 q40) j0 j0 j0 j0 ⟨(rnI j0),(rnI j0),j5⟩ j5<|g j0 hb39<|mv j0<|g j0 hb39<|pcs (slices_Contains_string_string_ok v26 v3 q41) j0 j0 (.cons (sealM j0 (fun _=>j0)) (.cons (si j0) .nil)) plainB<|r_nil (xg [62,63,64,65,66] 5 j0 j0 j0 j0 j0 j0)) (fun hb=>(sm (bT hb q42)).symm)<|u<|asg j0<|r_nil ?_
      refine sw_ret ?_
      obtain rfl:=sm h
      exact ⟨_,j0,[],ci j0,j0,j5,j0,j1⟩
def law7_HierGiven_j1 (v22 : Bool) : Option (Bool) :=
  some v22
def law7_HierGiven (v1 : Int) (v2 : Int) : Option (Bool) :=
  cond (!true) (some false) ((law7_small v1 10).bind fun v3=>(idx (hier_Given) v3).bind fun v4=>(hier_New ([(ApiClass.mk [77,105,110,101] v4 false [] [] [])])).bind fun v5=>cond (!(v5.2 == (0 : Int))) (some false) ((law7_small v1 10).bind fun v6=>(law7_small v2 10).bind fun v7=>(idx (hier_Given) v7).bind fun v8=>(hier_Hier_Sub v5.1 [77,105,110,101] v8).bind fun v9=>cond (v7 == (0 : Int)) (cond (v9 == true) ((idx (hier_Given) v6).bind fun v10=>(idx (hier_Given) v7).bind fun v11=>(hier_Hier_Sub v5.1 v10 v11).bind fun v12=>cond (v6 == v7) (law7_HierGiven_j1 (v12 == true)) (law7_HierGiven_j1 (v12 == true))) (law7_HierGiven_j1 false)) (cond (v7 == v6) (cond (v9 == true) ((idx (hier_Given) v6).bind fun v13=>(idx (hier_Given) v7).bind fun v14=>(hier_Hier_Sub v5.1 v13 v14).bind fun v15=>cond (v6 == v7) (law7_HierGiven_j1 (v15 == true)) (cond (v7 == (1 : Int)) (law7_HierGiven_j1 (v15 == (decide (1 < v6)))) (law7_HierGiven_j1 (v15 == false)))) (law7_HierGiven_j1 false)) (cond (v7 == (1 : Int)) (cond (v9 == (decide (0 < v6))) ((idx (hier_Given) v6).bind fun v16=>(idx (hier_Given) v7).bind fun v17=>(hier_Hier_Sub v5.1 v16 v17).bind fun v18=>cond (v6 == v7) (law7_HierGiven_j1 (v18 == true)) (law7_HierGiven_j1 (v18 == (decide (1 < v6))))) (law7_HierGiven_j1 false)) (cond (v9 == false) ((idx (hier_Given) v6).bind fun v19=>(idx (hier_Given) v7).bind fun v20=>(hier_Hier_Sub v5.1 v19 v20).bind fun v21=>cond (v6 == v7) (law7_HierGiven_j1 (v21 == true)) (law7_HierGiven_j1 (v21 == false))) (law7_HierGiven_j1 false))))))
theorem law7_HierGiven_ok (v1 : Int) (v2 : Int) {r : Bool} (h : law7_HierGiven v1 v2 = some r) : PureC Tryz.prog 7 [iA v1,iA v2] (bA r):=by
 refine pure_fn Tryz.func7 j0 (by kernel_rfl) j0 j0 ?_
 unfold law7_HierGiven at h
 refine rg j0<|u<|asg j0<|r_nil ?_
 refine rg j0<|u<|pc (law7_begun_ok j0) j0 j0 j0<|u<|asg j0<|r_nil ?_
 refine sw_seq ?_
 refine rg j0<|u<|mv j0<|u<|nt j0<|r_nil ?_
 refine sw_cond j0 (fun hc1=>?_) (fun hc1=>?_)
 ·
  replace h:=bT hc1 h
  refine rg j0<|u<|asg j0<|r_nil ?_
  refine sw_ret ?_
  obtain rfl:=sm h
  exact ⟨_,j0,[],ci j0,j0,j5,j0,j1⟩
 ·
  replace h:=bF hc1 h
  refine sw_skip ?_
  obtain ⟨v3,q2,h⟩:=bs h
  obtain ⟨v4,q3,h⟩:=bs h
  refine rg j0<|u<|sc [] (hier_Given_ok j0) j0 j0 j0 j0 j5 j5<|r_can (env0:=[(0,iA v1),(1,iA v2),(15,.msl 0 0 (List.length (hier_Given)))]) (st0:=[some (1,List.map rStr (hier_Given))]) ⟨[.old 0],ce j0 j0<|ce j0 j0<|cv j0 (.msl j0)<|cn,j0,⟨⟨_,j0,rsMap (fun _=>j0)⟩,j5⟩,j0,j1⟩<|u<|mv j0<|u<|pc (law7_small_ok v1 10 q2) j0 j0 j0<|u<|ixM ti32 j0 ti9 j0 j0 j0 j0 q3<|u<|ldM ti9 j0 j0 (idx_some q3).2.2 j0<|u<|bd ti42 j0 j0 j0<|u<|al 1 ti42 j0<|u<|sto ti42 j0 j0 j0<|r_nil ?_
  obtain ⟨v5,q4,h⟩:=bs h
  refine rg j0<|u<|ld ti42 j0 j0<|u<|bl 2 ti22 j0 ti42 j0 (by decide) (by decide) j0 j0 j0<|r_can (env0:=[(0,iA v1),(1,iA v2),(23,.isl 6 (List.map rApiClass ([(ApiClass.mk [77,105,110,101] v4 false [] [] [])])))]) (st0:=[]) ⟨[],ce j0 j0<|ce j0 j0<|cv j0 (rsSealX j0 j0 ⟨⟨⟨ci j0,ci j0,ci j0,.nil,.nil,.nil,j5⟩,j0⟩,j5⟩)<|cn,j0,j5,j0,j1⟩<|u<|pc (hier_New_ok ([(ApiClass.mk [77,105,110,101] v4 false [] [] [])]) q4) j0 j0 j0<|u<|mv j0<|u<|ex j0 j0<|u<|ex j0 j0<|u<|asg j0<|u<|asg j0<|r_nil ?_
  refine sw_seq ?_
  refine rg j0<|u<|mv j0<|u<|neq ti26 j0 j0<|r_nil ?_
  refine sw_cond j0 (fun hc5=>?_) (fun hc5=>?_)
  ·
   replace h:=bT hc5 h
   refine rg j0<|u<|asg j0<|r_nil ?_
   refine sw_ret ?_
   obtain rfl:=sm h
   exact ⟨_,j0,[],ci j0,j0,j5,j0,j1⟩
  ·
   replace h:=bF hc5 h
   refine sw_skip ?_
   refine rg j0<|u<|sc [] (hier_Given_ok j0) j0 j0 j0 j0 j5 j5<|r_can (env0:=[(0,iA v1),(1,iA v2),(7,optP 2 rHierHier v5.1),(29,.msl 0 0 (List.length (hier_Given)))]) (st0:=[some (1,List.map rStr (hier_Given))]) ⟨[.old 0],ce j0 j0<|ce j0 j0<|cv j0 (ci (immP (fun _=>j0)))<|cv j0 (.msl j0)<|cn,j0,⟨⟨_,j0,rsMap (fun _=>j0)⟩,j5⟩,j0,j1⟩<|u<|asg j0<|r_nil ?_
   obtain ⟨v6,q6,h⟩:=bs h
   obtain ⟨v7,q7,h⟩:=bs h
   refine rg j0<|u<|mv j0<|u<|pc (law7_small_ok v1 10 q6) j0 j0 j0<|u<|mv j0<|u<|pc (law7_small_ok v2 10 q7) j0 j0 j0<|u<|asg j0<|u<|asg j0<|r_nil ?_
   refine sw_meet (X:=Bool) (fun z=>[(4,bA z)]) (fun z=>[]) (fun z=>law7_HierGiven_j1 z = some r) ?_ ?_
   ·
    obtain ⟨v8,q8,h⟩:=bs h
    obtain ⟨v9,q9,h⟩:=bs h
    rcases bb (v7 == (0 : Int)) with hb10 | hb10
    ·
     replace h:=bT hb10 h
     rcases bb (v9 == true) with hb11 | hb11
     ·
      replace h:=bT hb11 h
      obtain ⟨v10,q12,h⟩:=bs h
      obtain ⟨v11,q13,h⟩:=bs h
      obtain ⟨v12,q14,h⟩:=bs h
      rcases bb (v6 == v7) with hb15 | hb15
      ·
       replace h:=bT hb15 h
       exact sw_region_dt [] [50,49,48,47,46,45,44,43,42,41,40,39,38,37,36,35,34,33,32,31,30,29,28,27,26,25,24,23,22,21,20,19,18,17,16,15,14,13,12,11,10,9,8,7,6,5,4,3,2,1,0] [(4,bA (v12 == true)),(83,bA (v12 == true)),(82,bA (v12 == true)),(81,bA true),(80,.lit undef),(79,.lit undef),(78,.lit undef),(77,.lit undef),(76,.lit undef),(75,.lit undef),(74,bA true),(73,bA true),(72,.lit undef),(71,.lit undef),(70,bA (v6 == v7)),(69,bA (v6 == v7)),(68,iA v7),(67,iA v6),(66,bA v12),(65,sA v11),(64,.mpt 0 (Int.toNat v7) 0),(63,iA v7),(62,.msl 0 0 (List.length (hier_Given))),(61,sA v10),(60,.mpt 0 (Int.toNat v6) 0),(59,iA v6),(58,.msl 0 0 (List.length (hier_Given))),(57,optP 2 rHierHier v5.1),(56,bA (v9 == true)),(55,bA (v9 == true)),(54,bA true),(53,.lit undef),(52,.lit undef),(51,.lit undef),(50,.lit undef),(49,.lit undef),(48,.lit undef),(47,bA true),(46,bA true),(45,.lit undef),(44,.lit undef),(43,.lit undef),(42,bA (v7 == (0 : Int))),(41,bA (v7 == (0 : Int))),(40,iA v7),(39,bA v9),(38,sA v8),(37,.mpt 0 (Int.toNat v7) 0),(36,iA v7),(35,.msl 0 0 (List.length (hier_Given))),(34,optP 2 rHierHier v5.1)] 0 (by kernel_rfl) (by kernel_rfl) j0 (by kernel_rfl) (dt0 ⟨(fun _=>pa j0 j0 j0 j0 (asg j0<|j4)),(fun _=>pa j0 j0 j0 j0 (pkb j0 hb11 j0<|j4)),(fun _=>pag (b:=(v9 == true)) j0 j0 j0 j0 hb11 j0 (beq ti4 j0 j0 j0<|j4)),(fun _=>pag (b:=(v9 == true)) j0 j0 j0 j0 hb11 j0 (pk (b:=true) j0 j0<|j4)),(fun _=>pas (b:=true) j0 j0 j0 j0 j0 j0),(fun _=>pau j0 j0 j0 j0 j0),(fun _=>pau j0 j0 j0 j0 j0),(fun _=>pas (b:=true) j0 j0 j0 j0 j0 j0),(fun _=>pas (b:=true) j0 j0 j0 j0 j0 j0),(fun _=>pas (b:=true) j0 j0 j0 j0 j0 j0),(fun _=>pag (b:=(v9 == true)) j0 j0 j0 j0 hb11 j0 (mv j0<|j4)),(fun _=>pag (b:=(v9 == true)) j0 j0 j0 j0 hb11 j0 (pkb j0 hb15 j0<|j4)),(fun _=>pas (b:=(v6 == v7)) j0 j0 j0 j0 hb15 j0),(fun _=>pas (b:=(v6 == v7)) j0 j0 j0 j0 hb15 j0),(fun _=>pag (b:=(v9 == true)) j0 j0 j0 j0 hb11 j0 (mv j0<|j4)),(fun _=>pag (b:=(v9 == true)) j0 j0 j0 j0 hb11 j0 (eql ti3 j0 j0<|j4)),(fun _=>pag (b:=(v9 == true)) j0 j0 j0 j0 hb11 j0 (mv j0<|j4)),(fun _=>pag (b:=(v9 == true)) j0 j0 j0 j0 hb11 j0 (mv j0<|j4)),(fun _=>pag (b:=(v9 == true)) j0 j0 j0 j0 hb11 j0 (pc (hier_Hier_Sub_ok v5.1 v10 v11 q14) j0 j0 (immC (immP (fun _=>j0)) (j0))<|j4)),(fun _=>pag (b:=(v9 == true)) j0 j0 j0 j0 hb11 j0 (ldM ti9 j0 j0 (idx_some q13).2.2 j0<|j4)),(fun _=>pag (b:=(v9 == true)) j0 j0 j0 j0 hb11 j0 (ixM ti32 j0 ti9 j0 j0 j0 j0 q13<|j4)),(fun _=>pag (b:=(v9 == true)) j0 j0 j0 j0 hb11 j0 (mv j0<|j4)),(fun _=>pag (b:=(v9 == true)) j0 j0 j0 j0 hb11 j0 (mv j0<|j4)),(fun _=>pag (b:=(v9 == true)) j0 j0 j0 j0 hb11 j0 (ldM ti9 j0 j0 (idx_some q12).2.2 j0<|j4)),(fun _=>pag (b:=(v9 == true)) j0 j0 j0 j0 hb11 j0 (ixM ti32 j0 ti9 j0 j0 j0 j0 q12<|j4)),(fun _=>pag (b:=(v9 == true)) j0 j0 j0 j0 hb11 j0 (mv j0<|j4)),(fun _=>pag (b:=(v9 == true)) j0 j0 j0 j0 hb11 j0 (mv j0<|j4)),(fun _=>pag (b:=(v9 == true)) j0 j0 j0 j0 hb11 j0 (mv j0<|j4)),(fun _=>pa j0 j0 j0 j0 (mv j0<|j4)),(fun _=>pa j0 j0 j0 j0 (beq ti4 j0 j0 j0<|j4)),(fun _=>pa j0 j0 j0 j0 (pk (b:=true) j0 j0<|j4)),(fun _=>pas (b:=true) j0 j0 j0 j0 j0 j0),(fun _=>pau j0 j0 j0 j0 j0),(fun _=>pau j0 j0 j0 j0 j0),(fun _=>pas (b:=true) j0 j0 j0 j0 j0 j0),(fun _=>pas (b:=true) j0 j0 j0 j0 j0 j0),(fun _=>pas (b:=true) j0 j0 j0 j0 j0 j0),(fun _=>pa j0 j0 j0 j0 (mv j0<|j4)),(fun _=>pa j0 j0 j0 j0 (pkb j0 hb10 j0<|j4)),(fun _=>pas (b:=(v7 == (0 : Int))) j0 j0 j0 j0 hb10 j0),(fun _=>pas (b:=(v7 == (0 : Int))) j0 j0 j0 j0 hb10 j0),(fun _=>pas (b:=(v7 == (0 : Int))) j0 j0 j0 j0 hb10 j0),(fun _=>pa j0 j0 j0 j0 (mv j0<|j4)),(fun _=>pa j0 j0 j0 j0 (eql ti3 j0 j0<|j4)),(fun _=>pa j0 j0 j0 j0 (mv j0<|j4)),(fun _=>pa j0 j0 j0 j0 (pc (hier_Hier_Sub_ok v5.1 [77,105,110,101] v8 q9) j0 j0 (immC (immP (fun _=>j0)) (j0))<|j4)),(fun _=>pa j0 j0 j0 j0 (ldM ti9 j0 j0 (idx_some q8).2.2 j0<|j4)),(fun _=>pa j0 j0 j0 j0 (ixM ti32 j0 ti9 j0 j0 j0 j0 q8<|j4)),(fun _=>pa j0 j0 j0 j0 (mv j0<|j4)),(fun _=>pa j0 j0 j0 j0 (mv j0<|j4)),(fun _=>pa j0 j0 j0 j0 (mv j0<|j4)),j5⟩ (by kernel_rfl) j0 ⟨(v12 == true),h,[],ce j0 j0<|cn,j0,j5,j0,j1⟩)
      ·
       replace h:=bF hb15 h
       exact sw_region_dt [] [50,49,48,47,46,45,44,43,42,41,40,39,38,37,36,35,34,33,32,31,30,29,28,27,26,25,24,23,22,21,20,19,18,17,16,15,14,13,12,11,10,9,8,7,6,5,4,3,2,1,0] [(4,bA (v12 == true)),(83,bA (v12 == true)),(82,bA (v12 == true)),(81,bA true),(80,.lit undef),(79,.lit undef),(78,.lit undef),(77,.lit undef),(76,.lit undef),(75,.lit undef),(74,bA (v7 == (0 : Int))),(73,bA (v7 == (0 : Int))),(72,bA (v7 == (0 : Int))),(71,iA v7),(70,bA (v6 == v7)),(69,bA (v6 == v7)),(68,iA v7),(67,iA v6),(66,bA v12),(65,sA v11),(64,.mpt 0 (Int.toNat v7) 0),(63,iA v7),(62,.msl 0 0 (List.length (hier_Given))),(61,sA v10),(60,.mpt 0 (Int.toNat v6) 0),(59,iA v6),(58,.msl 0 0 (List.length (hier_Given))),(57,optP 2 rHierHier v5.1),(56,bA (v9 == true)),(55,bA (v9 == true)),(54,bA true),(53,.lit undef),(52,.lit undef),(51,.lit undef),(50,.lit undef),(49,.lit undef),(48,.lit undef),(47,bA true),(46,bA true),(45,.lit undef),(44,.lit undef),(43,.lit undef),(42,bA (v7 == (0 : Int))),(41,bA (v7 == (0 : Int))),(40,iA v7),(39,bA v9),(38,sA v8),(37,.mpt 0 (Int.toNat v7) 0),(36,iA v7),(35,.msl 0 0 (List.length (hier_Given))),(34,optP 2 rHierHier v5.1)] 0 (by kernel_rfl) (by kernel_rfl) j0 (by kernel_rfl) (dt0 ⟨(fun _=>pa j0 j0 j0 j0 (asg j0<|j4)),(fun _=>pa j0 j0 j0 j0 (pkb j0 hb11 j0<|j4)),(fun _=>pag (b:=(v9 == true)) j0 j0 j0 j0 hb11 j0 (beq ti4 j0 j0 j0<|j4)),(fun _=>pag (b:=(v9 == true)) j0 j0 j0 j0 hb11 j0 (pkb j0 hb10 j0<|j4)),(fun _=>pas (b:=(v7 == (0 : Int))) j0 j0 j0 j0 hb10 j0),(fun _=>pau j0 j0 j0 j0 j0),(fun _=>pau j0 j0 j0 j0 j0),(fun _=>pas (b:=(v7 == (0 : Int))) j0 j0 j0 j0 hb10 j0),(fun _=>pas (b:=(v7 == (0 : Int))) j0 j0 j0 j0 hb10 j0),(fun _=>pas (b:=(v7 == (0 : Int))) j0 j0 j0 j0 hb10 j0),(fun _=>pag (b:=(v9 == true)) j0 j0 j0 j0 hb11 j0 (mv j0<|j4)),(fun _=>pag (b:=(v9 == true)) j0 j0 j0 j0 hb11 j0 (pkb j0 hb15 j0<|j4)),(fun _=>pag (b:=(v6 == v7)) j0 j0 j0 j0 hb15 j0 (eql ti3 j0 j0<|j4)),(fun _=>pag (b:=(v6 == v7)) j0 j0 j0 j0 hb15 j0 (mv j0<|j4)),(fun _=>pag (b:=(v9 == true)) j0 j0 j0 j0 hb11 j0 (mv j0<|j4)),(fun _=>pag (b:=(v9 == true)) j0 j0 j0 j0 hb11 j0 (eql ti3 j0 j0<|j4)),(fun _=>pag (b:=(v9 == true)) j0 j0 j0 j0 hb11 j0 (mv j0<|j4)),(fun _=>pag (b:=(v9 == true)) j0 j0 j0 j0 hb11 j0 (mv j0<|j4)),(fun _=>pag (b:=(v9 == true)) j0 j0 j0 j0 hb11 j0 (pc (hier_Hier_Sub_ok v5.1 v10 v11 q14) j0 j0 (immC (immP (fun _=>j0)) (j0))<|j4)),(fun _=>pag (b:=(v9 == true)) j0 j0 j0 j0 hb11 j0 (ldM ti9 j0 j0 (idx_some q13).2.2 j0<|j4)),(fun _=>pag (b:=(v9 == true)) j0 j0 j0 j0 hb11 j0 (ixM ti32 j0 ti9 j0 j0 j0 j0 q13<|j4)),(fun _=>pag (b:=(v9 == true)) j0 j0 j0 j0 hb11 j0 (mv j0<|j4)),(fun _=>pag (b:=(v9 == true)) j0 j0 j0 j0 hb11 j0 (mv j0<|j4)),(fun _=>pag (b:=(v9 == true)) j0 j0 j0 j0 hb11 j0 (ldM ti9 j0 j0 (idx_some q12).2.2 j0<|j4)),(fun _=>pag (b:=(v9 == true)) j0 j0 j0 j0 hb11 j0 (ixM ti32 j0 ti9 j0 j0 j0 j0 q12<|j4)),(fun _=>pag (b:=(v9 == true)) j0 j0 j0 j0 hb11 j0 (mv j0<|j4)),(fun _=>pag (b:=(v9 == true)) j0 j0 j0 j0 hb11 j0 (mv j0<|j4)),(fun _=>pag (b:=(v9 == true)) j0 j0 j0 j0 hb11 j0 (mv j0<|j4)),(fun _=>pa j0 j0 j0 j0 (mv j0<|j4)),(fun _=>pa j0 j0 j0 j0 (beq ti4 j0 j0 j0<|j4)),(fun _=>pa j0 j0 j0 j0 (pk (b:=true) j0 j0<|j4)),(fun _=>pas (b:=true) j0 j0 j0 j0 j0 j0),(fun _=>pau j0 j0 j0 j0 j0),(fun _=>pau j0 j0 j0 j0 j0),(fun _=>pas (b:=true) j0 j0 j0 j0 j0 j0),(fun _=>pas (b:=true) j0 j0 j0 j0 j0 j0),(fun _=>pas (b:=true) j0 j0 j0 j0 j0 j0),(fun _=>pa j0 j0 j0 j0 (mv j0<|j4)),(fun _=>pa j0 j0 j0 j0 (pkb j0 hb10 j0<|j4)),(fun _=>pas (b:=(v7 == (0 : Int))) j0 j0 j0 j0 hb10 j0),(fun _=>pas (b:=(v7 == (0 : Int))) j0 j0 j0 j0 hb10 j0),(fun _=>pas (b:=(v7 == (0 : Int))) j0 j0 j0 j0 hb10 j0),(fun _=>pa j0 j0 j0 j0 (mv j0<|j4)),(fun _=>pa j0 j0 j0 j0 (eql ti3 j0 j0<|j4)),(fun _=>pa j0 j0 j0 j0 (mv j0<|j4)),(fun _=>pa j0 j0 j0 j0 (pc (hier_Hier_Sub_ok v5.1 [77,105,110,101] v8 q9) j0 j0 (immC (immP (fun _=>j0)) (j0))<|j4)),(fun _=>pa j0 j0 j0 j0 (ldM ti9 j0 j0 (idx_some q8).2.2 j0<|j4)),(fun _=>pa j0 j0 j0 j0 (ixM ti32 j0 ti9 j0 j0 j0 j0 q8<|j4)),(fun _=>pa j0 j0 j0 j0 (mv j0<|j4)),(fun _=>pa j0 j0 j0 j0 (mv j0<|j4)),(fun _=>pa j0 j0 j0 j0 (mv j0<|j4)),j5⟩ (by kernel_rfl) j0 ⟨(v12 == true),h,[],ce j0 j0<|cn,j0,j5,j0,j1⟩)
     ·
      replace h:=bF hb11 h
      exact sw_region_dt [] [50,49,48,47,46,45,44,43,42,41,40,39,38,37,36,35,34,33,32,31,30,29,28,27,26,25,24,23,22,21,20,19,18,17,16,15,14,13,12,11,10,9,8,7,6,5,4,3,2,1,0] [(4,bA false),(83,bA false),(82,.lit undef),(81,.lit undef),(80,.lit undef),(79,.lit undef),(78,.lit undef),(77,.lit undef),(76,.lit undef),(75,.lit undef),(74,.lit undef),(73,.lit undef),(72,.lit undef),(71,.lit undef),(70,.lit undef),(69,.lit undef),(68,.lit undef),(67,.lit undef),(66,.lit undef),(65,.lit undef),(64,.lit undef),(63,.lit undef),(62,.lit undef),(61,.lit undef),(60,.lit undef),(59,.lit undef),(58,.lit undef),(57,.lit undef),(56,bA (v9 == true)),(55,bA (v9 == true)),(54,bA true),(53,.lit undef),(52,.lit undef),(51,.lit undef),(50,.lit undef),(49,.lit undef),(48,.lit undef),(47,bA true),(46,bA true),(45,.lit undef),(44,.lit undef),(43,.lit undef),(42,bA (v7 == (0 : Int))),(41,bA (v7 == (0 : Int))),(40,iA v7),(39,bA v9),(38,sA v8),(37,.mpt 0 (Int.toNat v7) 0),(36,iA v7),(35,.msl 0 0 (List.length (hier_Given))),(34,optP 2 rHierHier v5.1)] 0 (by kernel_rfl) (by kernel_rfl) j0 (by kernel_rfl) (dt0 ⟨(fun _=>pa j0 j0 j0 j0 (asg j0<|j4)),(fun _=>pa j0 j0 j0 j0 (pkb j0 hb11 j0<|j4)),(fun _=>pas (b:=(v9 == true)) j0 j0 j0 j0 hb11 j0),(fun _=>pas (b:=(v9 == true)) j0 j0 j0 j0 hb11 j0),(fun _=>pau j0 j0 j0 j0 j0),(fun _=>pau j0 j0 j0 j0 j0),(fun _=>pau j0 j0 j0 j0 j0),(fun _=>pau j0 j0 j0 j0 j0),(fun _=>pau j0 j0 j0 j0 j0),(fun _=>pau j0 j0 j0 j0 j0),(fun _=>pas (b:=(v9 == true)) j0 j0 j0 j0 hb11 j0),(fun _=>pas (b:=(v9 == true)) j0 j0 j0 j0 hb11 j0),(fun _=>pau j0 j0 j0 j0 j0),(fun _=>pau j0 j0 j0 j0 j0),(fun _=>pas (b:=(v9 == true)) j0 j0 j0 j0 hb11 j0),(fun _=>pas (b:=(v9 == true)) j0 j0 j0 j0 hb11 j0),(fun _=>pas (b:=(v9 == true)) j0 j0 j0 j0 hb11 j0),(fun _=>pas (b:=(v9 == true)) j0 j0 j0 j0 hb11 j0),(fun _=>pas (b:=(v9 == true)) j0 j0 j0 j0 hb11 j0),(fun _=>pas (b:=(v9 == true)) j0 j0 j0 j0 hb11 j0),(fun _=>pas (b:=(v9 == true)) j0 j0 j0 j0 hb11 j0),(fun _=>pas (b:=(v9 == true)) j0 j0 j0 j0 hb11 j0),(fun _=>pas (b:=(v9 == true)) j0 j0 j0 j0 hb11 j0),(fun _=>pas (b:=(v9 == true)) j0 j0 j0 j0 hb11 j0),(fun _=>pas (b:=(v9 == true)) j0 j0 j0 j0 hb11 j0),(fun _=>pas (b:=(v9 == true)) j0 j0 j0 j0 hb11 j0),(fun _=>pas (b:=(v9 == true)) j0 j0 j0 j0 hb11 j0),(fun _=>pas (b:=(v9 == true)) j0 j0 j0 j0 hb11 j0),(fun _=>pa j0 j0 j0 j0 (mv j0<|j4)),(fun _=>pa j0 j0 j0 j0 (beq ti4 j0 j0 j0<|j4)),(fun _=>pa j0 j0 j0 j0 (pk (b:=true) j0 j0<|j4)),(fun _=>pas (b:=true) j0 j0 j0 j0 j0 j0),(fun _=>pau j0 j0 j0 j0 j0),(fun _=>pau j0 j0 j0 j0 j0),(fun _=>pas (b:=true) j0 j0 j0 j0 j0 j0),(fun _=>pas (b:=true) j0 j0 j0 j0 j0 j0),(fun _=>pas (b:=true) j0 j0 j0 j0 j0 j0),(fun _=>pa j0 j0 j0 j0 (mv j0<|j4)),(fun _=>pa j0 j0 j0 j0 (pkb j0 hb10 j0<|j4)),(fun _=>pas (b:=(v7 == (0 : Int))) j0 j0 j0 j0 hb10 j0),(fun _=>pas (b:=(v7 == (0 : Int))) j0 j0 j0 j0 hb10 j0),(fun _=>pas (b:=(v7 == (0 : Int))) j0 j0 j0 j0 hb10 j0),(fun _=>pa j0 j0 j0 j0 (mv j0<|j4)),(fun _=>pa j0 j0 j0 j0 (eql ti3 j0 j0<|j4)),(fun _=>pa j0 j0 j0 j0 (mv j0<|j4)),(fun _=>pa j0 j0 j0 j0 (pc (hier_Hier_Sub_ok v5.1 [77,105,110,101] v8 q9) j0 j0 (immC (immP (fun _=>j0)) (j0))<|j4)),(fun _=>pa j0 j0 j0 j0 (ldM ti9 j0 j0 (idx_some q8).2.2 j0<|j4)),(fun _=>pa j0 j0 j0 j0 (ixM ti32 j0 ti9 j0 j0 j0 j0 q8<|j4)),(fun _=>pa j0 j0 j0 j0 (mv j0<|j4)),(fun _=>pa j0 j0 j0 j0 (mv j0<|j4)),(fun _=>pa j0 j0 j0 j0 (mv j0<|j4)),j5⟩ (by kernel_rfl) j0 ⟨false,h,[],ce j0 j0<|cn,j0,j5,j0,j1⟩)
    ·
     replace h:=bF hb10 h
     rcases bb (v7 == v6) with hb16 | hb16
     ·
      replace h:=bT hb16 h
      rcases bb (v9 == true) with hb17 | hb17
      ·
       replace h:=bT hb17 h
       obtain ⟨v13,q18,h⟩:=bs h
       obtain ⟨v14,q19,h⟩:=bs h
       obtain ⟨v15,q20,h⟩:=bs h
       rcases bb (v6 == v7) with hb21 | hb21
       ·
        replace h:=bT hb21 h
        exact sw_region_dt [] [50,49,48,47,46,45,44,43,42,41,40,39,38,37,36,35,34,33,32,31,30,29,28,27,26,25,24,23,22,21,20,19,18,17,16,15,14,13,12,11,10,9,8,7,6,5,4,3,2,1,0] [(4,bA (v15 == true)),(83,bA (v15 == true)),(82,bA (v15 == true)),(81,bA true),(80,.lit undef),(79,.lit undef),(78,.lit undef),(77,.lit undef),(76,.lit undef),(75,.lit undef),(74,bA true),(73,bA true),(72,.lit undef),(71,.lit undef),(70,bA (v6 == v7)),(69,bA (v6 == v7)),(68,iA v7),(67,iA v6),(66,bA v15),(65,sA v14),(64,.mpt 0 (Int.toNat v7) 0),(63,iA v7),(62,.msl 0 0 (List.length (hier_Given))),(61,sA v13),(60,.mpt 0 (Int.toNat v6) 0),(59,iA v6),(58,.msl 0 0 (List.length (hier_Given))),(57,optP 2 rHierHier v5.1),(56,bA (v9 == true)),(55,bA (v9 == true)),(54,bA true),(53,.lit undef),(52,.lit undef),(51,.lit undef),(50,.lit undef),(49,.lit undef),(48,.lit undef),(47,bA (v7 == v6)),(46,bA (v7 == v6)),(45,bA (v7 == v6)),(44,iA v6),(43,iA v7),(42,bA (v7 == (0 : Int))),(41,bA (v7 == (0 : Int))),(40,iA v7),(39,bA v9),(38,sA v8),(37,.mpt 0 (Int.toNat v7) 0),(36,iA v7),(35,.msl 0 0 (List.length (hier_Given))),(34,optP 2 rHierHier v5.1)] 0 (by kernel_rfl) (by kernel_rfl) j0 (by kernel_rfl) (dt0 ⟨(fun _=>pa j0 j0 j0 j0 (asg j0<|j4)),(fun _=>pa j0 j0 j0 j0 (pkb j0 hb17 j0<|j4)),(fun _=>pag (b:=(v9 == true)) j0 j0 j0 j0 hb17 j0 (beq ti4 j0 j0 j0<|j4)),(fun _=>pag (b:=(v9 == true)) j0 j0 j0 j0 hb17 j0 (pk (b:=true) j0 j0<|j4)),(fun _=>pas (b:=true) j0 j0 j0 j0 j0 j0),(fun _=>pau j0 j0 j0 j0 j0),(fun _=>pau j0 j0 j0 j0 j0),(fun _=>pas (b:=true) j0 j0 j0 j0 j0 j0),(fun _=>pas (b:=true) j0 j0 j0 j0 j0 j0),(fun _=>pas (b:=true) j0 j0 j0 j0 j0 j0),(fun _=>pag (b:=(v9 == true)) j0 j0 j0 j0 hb17 j0 (mv j0<|j4)),(fun _=>pag (b:=(v9 == true)) j0 j0 j0 j0 hb17 j0 (pkb j0 hb21 j0<|j4)),(fun _=>pas (b:=(v6 == v7)) j0 j0 j0 j0 hb21 j0),(fun _=>pas (b:=(v6 == v7)) j0 j0 j0 j0 hb21 j0),(fun _=>pag (b:=(v9 == true)) j0 j0 j0 j0 hb17 j0 (mv j0<|j4)),(fun _=>pag (b:=(v9 == true)) j0 j0 j0 j0 hb17 j0 (eql ti3 j0 j0<|j4)),(fun _=>pag (b:=(v9 == true)) j0 j0 j0 j0 hb17 j0 (mv j0<|j4)),(fun _=>pag (b:=(v9 == true)) j0 j0 j0 j0 hb17 j0 (mv j0<|j4)),(fun _=>pag (b:=(v9 == true)) j0 j0 j0 j0 hb17 j0 (pc (hier_Hier_Sub_ok v5.1 v13 v14 q20) j0 j0 (immC (immP (fun _=>j0)) (j0))<|j4)),(fun _=>pag (b:=(v9 == true)) j0 j0 j0 j0 hb17 j0 (ldM ti9 j0 j0 (idx_some q19).2.2 j0<|j4)),(fun _=>pag (b:=(v9 == true)) j0 j0 j0 j0 hb17 j0 (ixM ti32 j0 ti9 j0 j0 j0 j0 q19<|j4)),(fun _=>pag (b:=(v9 == true)) j0 j0 j0 j0 hb17 j0 (mv j0<|j4)),(fun _=>pag (b:=(v9 == true)) j0 j0 j0 j0 hb17 j0 (mv j0<|j4)),(fun _=>pag (b:=(v9 == true)) j0 j0 j0 j0 hb17 j0 (ldM ti9 j0 j0 (idx_some q18).2.2 j0<|j4)),(fun _=>pag (b:=(v9 == true)) j0 j0 j0 j0 hb17 j0 (ixM ti32 j0 ti9 j0 j0 j0 j0 q18<|j4)),(fun _=>pag (b:=(v9 == true)) j0 j0 j0 j0 hb17 j0 (mv j0<|j4)),(fun _=>pag (b:=(v9 == true)) j0 j0 j0 j0 hb17 j0 (mv j0<|j4)),(fun _=>pag (b:=(v9 == true)) j0 j0 j0 j0 hb17 j0 (mv j0<|j4)),(fun _=>pa j0 j0 j0 j0 (mv j0<|j4)),(fun _=>pa j0 j0 j0 j0 (beq ti4 j0 j0 j0<|j4)),(fun _=>pa j0 j0 j0 j0 (pkb j0 hb16 j0<|j4)),(fun _=>pas (b:=(v7 == v6)) j0 j0 j0 j0 hb16 j0),(fun _=>pau j0 j0 j0 j0 j0),(fun _=>pau j0 j0 j0 j0 j0),(fun _=>pas (b:=(v7 == v6)) j0 j0 j0 j0 hb16 j0),(fun _=>pas (b:=(v7 == v6)) j0 j0 j0 j0 hb16 j0),(fun _=>pas (b:=(v7 == v6)) j0 j0 j0 j0 hb16 j0),(fun _=>pa j0 j0 j0 j0 (mv j0<|j4)),(fun _=>pa j0 j0 j0 j0 (pkb j0 hb10 j0<|j4)),(fun _=>pag (b:=(v7 == (0 : Int))) j0 j0 j0 j0 hb10 j0 (eql ti3 j0 j0<|j4)),(fun _=>pag (b:=(v7 == (0 : Int))) j0 j0 j0 j0 hb10 j0 (mv j0<|j4)),(fun _=>pag (b:=(v7 == (0 : Int))) j0 j0 j0 j0 hb10 j0 (mv j0<|j4)),(fun _=>pa j0 j0 j0 j0 (mv j0<|j4)),(fun _=>pa j0 j0 j0 j0 (eql ti3 j0 j0<|j4)),(fun _=>pa j0 j0 j0 j0 (mv j0<|j4)),(fun _=>pa j0 j0 j0 j0 (pc (hier_Hier_Sub_ok v5.1 [77,105,110,101] v8 q9) j0 j0 (immC (immP (fun _=>j0)) (j0))<|j4)),(fun _=>pa j0 j0 j0 j0 (ldM ti9 j0 j0 (idx_some q8).2.2 j0<|j4)),(fun _=>pa j0 j0 j0 j0 (ixM ti32 j0 ti9 j0 j0 j0 j0 q8<|j4)),(fun _=>pa j0 j0 j0 j0 (mv j0<|j4)),(fun _=>pa j0 j0 j0 j0 (mv j0<|j4)),(fun _=>pa j0 j0 j0 j0 (mv j0<|j4)),j5⟩ (by kernel_rfl) j0 ⟨(v15 == true),h,[],ce j0 j0<|cn,j0,j5,j0,j1⟩)
       ·
        replace h:=bF hb21 h
        rcases bb (v7 == (1 : Int)) with hb22 | hb22
        ·
         replace h:=bT hb22 h
         exact sw_region_dt [] [50,49,48,47,46,45,44,43,42,41,40,39,38,37,36,35,34,33,32,31,30,29,28,27,26,25,24,23,22,21,20,19,18,17,16,15,14,13,12,11,10,9,8,7,6,5,4,3,2,1,0] [(4,bA (v15 == (decide (1 < v6)))),(83,bA (v15 == (decide (1 < v6)))),(82,bA (v15 == (decide (1 < v6)))),(81,bA (decide (1 < v6))),(80,bA (decide (1 < v6))),(79,bA (decide (1 < v6))),(78,iA v6),(77,bA (v7 == (1 : Int))),(76,bA (v7 == (1 : Int))),(75,iA v7),(74,bA (v7 == (0 : Int))),(73,bA (v7 == (0 : Int))),(72,bA (v7 == (0 : Int))),(71,iA v7),(70,bA (v6 == v7)),(69,bA (v6 == v7)),(68,iA v7),(67,iA v6),(66,bA v15),(65,sA v14),(64,.mpt 0 (Int.toNat v7) 0),(63,iA v7),(62,.msl 0 0 (List.length (hier_Given))),(61,sA v13),(60,.mpt 0 (Int.toNat v6) 0),(59,iA v6),(58,.msl 0 0 (List.length (hier_Given))),(57,optP 2 rHierHier v5.1),(56,bA (v9 == true)),(55,bA (v9 == true)),(54,bA true),(53,.lit undef),(52,.lit undef),(51,.lit undef),(50,.lit undef),(49,.lit undef),(48,.lit undef),(47,bA (v7 == v6)),(46,bA (v7 == v6)),(45,bA (v7 == v6)),(44,iA v6),(43,iA v7),(42,bA (v7 == (0 : Int))),(41,bA (v7 == (0 : Int))),(40,iA v7),(39,bA v9),(38,sA v8),(37,.mpt 0 (Int.toNat v7) 0),(36,iA v7),(35,.msl 0 0 (List.length (hier_Given))),(34,optP 2 rHierHier v5.1)] 0 (by kernel_rfl) (by kernel_rfl) j0 (by kernel_rfl) (dt0 ⟨(fun _=>pa j0 j0 j0 j0 (asg j0<|j4)),(fun _=>pa j0 j0 j0 j0 (pkb j0 hb17 j0<|j4)),(fun _=>pag (b:=(v9 == true)) j0 j0 j0 j0 hb17 j0 (beq ti4 j0 j0 j0<|j4)),(fun _=>pag (b:=(v9 == true)) j0 j0 j0 j0 hb17 j0 (pkb j0 hb10 j0<|j4)),(fun _=>pag (b:=(v7 == (0 : Int))) j0 j0 j0 j0 hb10 j0 (pkb j0 hb22 j0<|j4)),(fun _=>pag (b:=(v7 == (1 : Int))) j0 j0 j0 j0 hb22 j0 (gtr ti3 j0 j0<|j4)),(fun _=>pag (b:=(v7 == (1 : Int))) j0 j0 j0 j0 hb22 j0 (mv j0<|j4)),(fun _=>pag (b:=(v7 == (0 : Int))) j0 j0 j0 j0 hb10 j0 (mv j0<|j4)),(fun _=>pag (b:=(v7 == (0 : Int))) j0 j0 j0 j0 hb10 j0 (eql ti3 j0 j0<|j4)),(fun _=>pag (b:=(v7 == (0 : Int))) j0 j0 j0 j0 hb10 j0 (mv j0<|j4)),(fun _=>pag (b:=(v9 == true)) j0 j0 j0 j0 hb17 j0 (mv j0<|j4)),(fun _=>pag (b:=(v9 == true)) j0 j0 j0 j0 hb17 j0 (pkb j0 hb21 j0<|j4)),(fun _=>pag (b:=(v6 == v7)) j0 j0 j0 j0 hb21 j0 (eql ti3 j0 j0<|j4)),(fun _=>pag (b:=(v6 == v7)) j0 j0 j0 j0 hb21 j0 (mv j0<|j4)),(fun _=>pag (b:=(v9 == true)) j0 j0 j0 j0 hb17 j0 (mv j0<|j4)),(fun _=>pag (b:=(v9 == true)) j0 j0 j0 j0 hb17 j0 (eql ti3 j0 j0<|j4)),(fun _=>pag (b:=(v9 == true)) j0 j0 j0 j0 hb17 j0 (mv j0<|j4)),(fun _=>pag (b:=(v9 == true)) j0 j0 j0 j0 hb17 j0 (mv j0<|j4)),(fun _=>pag (b:=(v9 == true)) j0 j0 j0 j0 hb17 j0 (pc (hier_Hier_Sub_ok v5.1 v13 v14 q20) j0 j0 (immC (immP (fun _=>j0)) (j0))<|j4)),(fun _=>pag (b:=(v9 == true)) j0 j0 j0 j0 hb17 j0 (ldM ti9 j0 j0 (idx_some q19).2.2 j0<|j4)),(fun _=>pag (b:=(v9 == true)) j0 j0 j0 j0 hb17 j0 (ixM ti32 j0 ti9 j0 j0 j0 j0 q19<|j4)),(fun _=>pag (b:=(v9 == true)) j0 j0 j0 j0 hb17 j0 (mv j0<|j4)),(fun _=>pag (b:=(v9 == true)) j0 j0 j0 j0 hb17 j0 (mv j0<|j4)),(fun _=>pag (b:=(v9 == true)) j0 j0 j0 j0 hb17 j0 (ldM ti9 j0 j0 (idx_some q18).2.2 j0<|j4)),(fun _=>pag (b:=(v9 == true)) j0 j0 j0 j0 hb17 j0 (ixM ti32 j0 ti9 j0 j0 j0 j0 q18<|j4)),(fun _=>pag (b:=(v9 == true)) j0 j0 j0 j0 hb17 j0 (mv j0<|j4)),(fun _=>pag (b:=(v9 == true)) j0 j0 j0 j0 hb17 j0 (mv j0<|j4)),(fun _=>pag (b:=(v9 == true)) j0 j0 j0 j0 hb17 j0 (mv j0<|j4)),(fun _=>pa j0 j0 j0 j0 (mv j0<|j4)),(fun _=>pa j0 j0 j0 j0 (beq ti4 j0 j0 j0<|j4)),(fun _=>pa j0 j0 j0 j0 (pkb j0 hb16 j0<|j4)),(fun _=>pas (b:=(v7 == v6)) j0 j0 j0 j0 hb16 j0),(fun _=>pau j0 j0 j0 j0 j0),(fun _=>pau j0 j0 j0 j0 j0),(fun _=>pas (b:=(v7 == v6)) j0 j0 j0 j0 hb16 j0),(fun _=>pas (b:=(v7 == v6)) j0 j0 j0 j0 hb16 j0),(fun _=>pas (b:=(v7 == v6)) j0 j0 j0 j0 hb16 j0),(fun _=>pa j0 j0 j0 j0 (mv j0<|j4)),(fun _=>pa j0 j0 j0 j0 (pkb j0 hb10 j0<|j4)),(fun _=>pag (b:=(v7 == (0 : Int))) j0 j0 j0 j0 hb10 j0 (eql ti3 j0 j0<|j4)),(fun _=>pag (b:=(v7 == (0 : Int))) j0 j0 j0 j0 hb10 j0 (mv j0<|j4)),(fun _=>pag (b:=(v7 == (0 : Int))) j0 j0 j0 j0 hb10 j0 (mv j0<|j4)),(fun _=>pa j0 j0 j0 j0 (mv j0<|j4)),(fun _=>pa j0 j0 j0 j0 (eql ti3 j0 j0<|j4)),(fun _=>pa j0 j0 j0 j0 (mv j0<|j4)),(fun _=>pa j0 j0 j0 j0 (pc (hier_Hier_Sub_ok v5.1 [77,105,110,101] v8 q9) j0 j0 (immC (immP (fun _=>j0)) (j0))<|j4)),(fun _=>pa j0 j0 j0 j0 (ldM ti9 j0 j0 (idx_some q8).2.2 j0<|j4)),(fun _=>pa j0 j0 j0 j0 (ixM ti32 j0 ti9 j0 j0 j0 j0 q8<|j4)),(fun _=>pa j0 j0 j0 j0 (mv j0<|j4)),(fun _=>pa j0 j0 j0 j0 (mv j0<|j4)),(fun _=>pa j0 j0 j0 j0 (mv j0<|j4)),j5⟩ (by kernel_rfl) j0 ⟨(v15 == (decide (1 < v6))),h,[],ce j0 j0<|cn,j0,j5,j0,j1⟩)
        ·
         replace h:=bF hb22 h
         exact sw_region_dt [] [50,49,48,47,46,45,44,43,42,41,40,39,38,37,36,35,34,33,32,31,30,29,28,27,26,25,24,23,22,21,20,19,18,17,16,15,14,13,12,11,10,9,8,7,6,5,4,3,2,1,0] [(4,bA (v15 == false)),(83,bA (v15 == false)),(82,bA (v15 == false)),(81,bA false),(80,bA false),(79,.lit undef),(78,.lit undef),(77,bA (v7 == (1 : Int))),(76,bA (v7 == (1 : Int))),(75,iA v7),(74,bA (v7 == (0 : Int))),(73,bA (v7 == (0 : Int))),(72,bA (v7 == (0 : Int))),(71,iA v7),(70,bA (v6 == v7)),(69,bA (v6 == v7)),(68,iA v7),(67,iA v6),(66,bA v15),(65,sA v14),(64,.mpt 0 (Int.toNat v7) 0),(63,iA v7),(62,.msl 0 0 (List.length (hier_Given))),(61,sA v13),(60,.mpt 0 (Int.toNat v6) 0),(59,iA v6),(58,.msl 0 0 (List.length (hier_Given))),(57,optP 2 rHierHier v5.1),(56,bA (v9 == true)),(55,bA (v9 == true)),(54,bA true),(53,.lit undef),(52,.lit undef),(51,.lit undef),(50,.lit undef),(49,.lit undef),(48,.lit undef),(47,bA (v7 == v6)),(46,bA (v7 == v6)),(45,bA (v7 == v6)),(44,iA v6),(43,iA v7),(42,bA (v7 == (0 : Int))),(41,bA (v7 == (0 : Int))),(40,iA v7),(39,bA v9),(38,sA v8),(37,.mpt 0 (Int.toNat v7) 0),(36,iA v7),(35,.msl 0 0 (List.length (hier_Given))),(34,optP 2 rHierHier v5.1)] 0 (by kernel_rfl) (by kernel_rfl) j0 (by kernel_rfl) (dt0 ⟨(fun _=>pa j0 j0 j0 j0 (asg j0<|j4)),(fun _=>pa j0 j0 j0 j0 (pkb j0 hb17 j0<|j4)),(fun _=>pag (b:=(v9 == true)) j0 j0 j0 j0 hb17 j0 (beq ti4 j0 j0 j0<|j4)),(fun _=>pag (b:=(v9 == true)) j0 j0 j0 j0 hb17 j0 (pkb j0 hb10 j0<|j4)),(fun _=>pag (b:=(v7 == (0 : Int))) j0 j0 j0 j0 hb10 j0 (pkb j0 hb22 j0<|j4)),(fun _=>pas (b:=(v7 == (1 : Int))) j0 j0 j0 j0 hb22 j0),(fun _=>pas (b:=(v7 == (1 : Int))) j0 j0 j0 j0 hb22 j0),(fun _=>pag (b:=(v7 == (0 : Int))) j0 j0 j0 j0 hb10 j0 (mv j0<|j4)),(fun _=>pag (b:=(v7 == (0 : Int))) j0 j0 j0 j0 hb10 j0 (eql ti3 j0 j0<|j4)),(fun _=>pag (b:=(v7 == (0 : Int))) j0 j0 j0 j0 hb10 j0 (mv j0<|j4)),(fun _=>pag (b:=(v9 == true)) j0 j0 j0 j0 hb17 j0 (mv j0<|j4)),(fun _=>pag (b:=(v9 == true)) j0 j0 j0 j0 hb17 j0 (pkb j0 hb21 j0<|j4)),(fun _=>pag (b:=(v6 == v7)) j0 j0 j0 j0 hb21 j0 (eql ti3 j0 j0<|j4)),(fun _=>pag (b:=(v6 == v7)) j0 j0 j0 j0 hb21 j0 (mv j0<|j4)),(fun _=>pag (b:=(v9 == true)) j0 j0 j0 j0 hb17 j0 (mv j0<|j4)),(fun _=>pag (b:=(v9 == true)) j0 j0 j0 j0 hb17 j0 (eql ti3 j0 j0<|j4)),(fun _=>pag (b:=(v9 == true)) j0 j0 j0 j0 hb17 j0 (mv j0<|j4)),(fun _=>pag (b:=(v9 == true)) j0 j0 j0 j0 hb17 j0 (mv j0<|j4)),(fun _=>pag (b:=(v9 == true)) j0 j0 j0 j0 hb17 j0 (pc (hier_Hier_Sub_ok v5.1 v13 v14 q20) j0 j0 (immC (immP (fun _=>j0)) (j0))<|j4)),(fun _=>pag (b:=(v9 == true)) j0 j0 j0 j0 hb17 j0 (ldM ti9 j0 j0 (idx_some q19).2.2 j0<|j4)),(fun _=>pag (b:=(v9 == true)) j0 j0 j0 j0 hb17 j0 (ixM ti32 j0 ti9 j0 j0 j0 j0 q19<|j4)),(fun _=>pag (b:=(v9 == true)) j0 j0 j0 j0 hb17 j0 (mv j0<|j4)),(fun _=>pag (b:=(v9 == true)) j0 j0 j0 j0 hb17 j0 (mv j0<|j4)),(fun _=>pag (b:=(v9 == true)) j0 j0 j0 j0 hb17 j0 (ldM ti9 j0 j0 (idx_some q18).2.2 j0<|j4)),(fun _=>pag (b:=(v9 == true)) j0 j0 j0 j0 hb17 j0 (ixM ti32 j0 ti9 j0 j0 j0 j0 q18<|j4)),(fun _=>pag (b:=(v9 == true)) j0 j0 j0 j0 hb17 j0 (mv j0<|j4)),(fun _=>pag (b:=(v9 == true)) j0 j0 j0 j0 hb17 j0 (mv j0<|j4)),(fun _=>pag (b:=(v9 == true)) j0 j0 j0 j0 hb17 j0 (mv j0<|j4)),(fun _=>pa j0 j0 j0 j0 (mv j0<|j4)),(fun _=>pa j0 j0 j0 j0 (beq ti4 j0 j0 j0<|j4)),(fun _=>pa j0 j0 j0 j0 (pkb j0 hb16 j0<|j4)),(fun _=>pas (b:=(v7 == v6)) j0 j0 j0 j0 hb16 j0),(fun _=>pau j0 j0 j0 j0 j0),(fun _=>pau j0 j0 j0 j0 j0),(fun _=>pas (b:=(v7 == v6)) j0 j0 j0 j0 hb16 j0),(fun _=>pas (b:=(v7 == v6)) j0 j0 j0 j0 hb16 j0),(fun _=>pas (b:=(v7 == v6)) j0 j0 j0 j0 hb16 j0),(fun _=>pa j0 j0 j0 j0 (mv j0<|j4)),(fun _=>pa j0 j0 j0 j0 (pkb j0 hb10 j0<|j4)),(fun _=>pag (b:=(v7 == (0 : Int))) j0 j0 j0 j0 hb10 j0 (eql ti3 j0 j0<|j4)),(fun _=>pag (b:=(v7 == (0 : Int))) j0 j0 j0 j0 hb10 j0 (mv j0<|j4)),(fun _=>pag (b:=(v7 == (0 : Int))) j0 j0 j0 j0 hb10 j0 (mv j0<|j4)),(fun _=>pa j0 j0 j0 j0 (mv j0<|j4)),(fun _=>pa j0 j0 j0 j0 (eql ti3 j0 j0<|j4)),(fun _=>pa j0 j0 j0 j0 (mv j0<|j4)),(fun _=>pa j0 j0 j0 j0 (pc (hier_Hier_Sub_ok v5.1 [77,105,110,101] v8 q9) j0 j0 (immC (immP (fun _=>j0)) (j0))<|j4)),(fun _=>pa j0 j0 j0 j0 (ldM ti9 j0 j0 (idx_some q8).2.2 j0<|j4)),(fun _=>pa j0 j0 j0 j0 (ixM ti32 j0 ti9 j0 j0 j0 j0 q8<|j4)),(fun _=>pa j0 j0 j0 j0 (mv j0<|j4)),(fun _=>pa j0 j0 j0 j0 (mv j0<|j4)),(fun _=>pa j0 j0 j0 j0 (mv j0<|j4)),j5⟩ (by kernel_rfl) j0 ⟨(v15 == false),h,[],ce j0 j0<|cn,j0,j5,j0,j1⟩)
      ·
       replace h:=bF hb17 h
       exact sw_region_dt [] [50,49,48,47,46,45,44,43,42,41,40,39,38,37,36,35,34,33,32,31,30,29,28,27,26,25,24,23,22,21,20,19,18,17,16,15,14,13,12,11,10,9,8,7,6,5,4,3,2,1,0] [(4,bA false),(83,bA false),(82,.lit undef),(81,.lit undef),(80,.lit undef),(79,.lit undef),(78,.lit undef),(77,.lit undef),(76,.lit undef),(75,.lit undef),(74,.lit undef),(73,.lit undef),(72,.lit undef),(71,.lit undef),(70,.lit undef),(69,.lit undef),(68,.lit undef),(67,.lit undef),(66,.lit undef),(65,.lit undef),(64,.lit undef),(63,.lit undef),(62,.lit undef),(61,.lit undef),(60,.lit undef),(59,.lit undef),(58,.lit undef),(57,.lit undef),(56,bA (v9 == true)),(55,bA (v9 == true)),(54,bA true),(53,.lit undef),(52,.lit undef),(51,.lit undef),(50,.lit undef),(49,.lit undef),(48,.lit undef),(47,bA (v7 == v6)),(46,bA (v7 == v6)),(45,bA (v7 == v6)),(44,iA v6),(43,iA v7),(42,bA (v7 == (0 : Int))),(41,bA (v7 == (0 : Int))),(40,iA v7),(39,bA v9),(38,sA v8),(37,.mpt 0 (Int.toNat v7) 0),(36,iA v7),(35,.msl 0 0 (List.length (hier_Given))),(34,optP 2 rHierHier v5.1)] 0 (by kernel_rfl) (by kernel_rfl) j0 (by kernel_rfl) (dt0 ⟨(fun _=>pa j0 j0 j0 j0 (asg j0<|j4)),(fun _=>pa j0 j0 j0 j0 (pkb j0 hb17 j0<|j4)),(fun _=>pas (b:=(v9 == true)) j0 j0 j0 j0 hb17 j0),(fun _=>pas (b:=(v9 == true)) j0 j0 j0 j0 hb17 j0),(fun _=>pau j0 j0 j0 j0 j0),(fun _=>pau j0 j0 j0 j0 j0),(fun _=>pau j0 j0 j0 j0 j0),(fun _=>pau j0 j0 j0 j0 j0),(fun _=>pau j0 j0 j0 j0 j0),(fun _=>pau j0 j0 j0 j0 j0),(fun _=>pas (b:=(v9 == true)) j0 j0 j0 j0 hb17 j0),(fun _=>pas (b:=(v9 == true)) j0 j0 j0 j0 hb17 j0),(fun _=>pau j0 j0 j0 j0 j0),(fun _=>pau j0 j0 j0 j0 j0),(fun _=>pas (b:=(v9 == true)) j0 j0 j0 j0 hb17 j0),(fun _=>pas (b:=(v9 == true)) j0 j0 j0 j0 hb17 j0),(fun _=>pas (b:=(v9 == true)) j0 j0 j0 j0 hb17 j0),(fun _=>pas (b:=(v9 == true)) j0 j0 j0 j0 hb17 j0),(fun _=>pas (b:=(v9 == true)) j0 j0 j0 j0 hb17 j0),(fun _=>pas (b:=(v9 == true)) j0 j0 j0 j0 hb17 j0),(fun _=>pas (b:=(v9 == true)) j0 j0 j0 j0 hb17 j0),(fun _=>pas (b:=(v9 == true)) j0 j0 j0 j0 hb17 j0),(fun _=>pas (b:=(v9 == true)) j0 j0 j0 j0 hb17 j0),(fun _=>pas (b:=(v9 == true)) j0 j0 j0 j0 hb17 j0),(fun _=>pas (b:=(v9 == true)) j0 j0 j0 j0 hb17 j0),(fun _=>pas (b:=(v9 == true)) j0 j0 j0 j0 hb17 j0),(fun _=>pas (b:=(v9 == true)) j0 j0 j0 j0 hb17 j0),(fun _=>pas (b:=(v9 == true)) j0 j0 j0 j0 hb17 j0),(fun _=>pa j0 j0 j0 j0 (mv j0<|j4)),(fun _=>pa j0 j0 j0 j0 (beq ti4 j0 j0 j0<|j4)),(fun _=>pa j0 j0 j0 j0 (pkb j0 hb16 j0<|j4)),(fun _=>pas (b:=(v7 == v6)) j0 j0 j0 j0 hb16 j0),(fun _=>pau j0 j0 j0 j0 j0),(fun _=>pau j0 j0 j0 j0 j0),(fun _=>pas (b:=(v7 == v6)) j0 j0 j0 j0 hb16 j0),(fun _=>pas (b:=(v7 == v6)) j0 j0 j0 j0 hb16 j0),(fun _=>pas (b:=(v7 == v6)) j0 j0 j0 j0 hb16 j0),(fun _=>pa j0 j0 j0 j0 (mv j0<|j4)),(fun _=>pa j0 j0 j0 j0 (pkb j0 hb10 j0<|j4)),(fun _=>pag (b:=(v7 == (0 : Int))) j0 j0 j0 j0 hb10 j0 (eql ti3 j0 j0<|j4)),(fun _=>pag (b:=(v7 == (0 : Int))) j0 j0 j0 j0 hb10 j0 (mv j0<|j4)),(fun _=>pag (b:=(v7 == (0 : Int))) j0 j0 j0 j0 hb10 j0 (mv j0<|j4)),(fun _=>pa j0 j0 j0 j0 (mv j0<|j4)),(fun _=>pa j0 j0 j0 j0 (eql ti3 j0 j0<|j4)),(fun _=>pa j0 j0 j0 j0 (mv j0<|j4)),(fun _=>pa j0 j0 j0 j0 (pc (hier_Hier_Sub_ok v5.1 [77,105,110,101] v8 q9) j0 j0 (immC (immP (fun _=>j0)) (j0))<|j4)),(fun _=>pa j0 j0 j0 j0 (ldM ti9 j0 j0 (idx_some q8).2.2 j0<|j4)),(fun _=>pa j0 j0 j0 j0 (ixM ti32 j0 ti9 j0 j0 j0 j0 q8<|j4)),(fun _=>pa j0 j0 j0 j0 (mv j0<|j4)),(fun _=>pa j0 j0 j0 j0 (mv j0<|j4)),(fun _=>pa j0 j0 j0 j0 (mv j0<|j4)),j5⟩ (by kernel_rfl) j0 ⟨false,h,[],ce j0 j0<|cn,j0,j5,j0,j1⟩)
     ·
      replace h:=bF hb16 h
      rcases bb (v7 == (1 : Int)) with hb23 | hb23
      ·
       replace h:=bT hb23 h
       rcases bb (v9 == (decide (0 < v6))) with hb24 | hb24
       ·
        replace h:=bT hb24 h
        obtain ⟨v16,q25,h⟩:=bs h
        obtain ⟨v17,q26,h⟩:=bs h
        obtain ⟨v18,q27,h⟩:=bs h
        rcases bb (v6 == v7) with hb28 | hb28
        ·
         replace h:=bT hb28 h
         exact sw_region_dt [] [50,49,48,47,46,45,44,43,42,41,40,39,38,37,36,35,34,33,32,31,30,29,28,27,26,25,24,23,22,21,20,19,18,17,16,15,14,13,12,11,10,9,8,7,6,5,4,3,2,1,0] [(4,bA (v18 == true)),(83,bA (v18 == true)),(82,bA (v18 == true)),(81,bA true),(80,.lit undef),(79,.lit undef),(78,.lit undef),(77,.lit undef),(76,.lit undef),(75,.lit undef),(74,bA true),(73,bA true),(72,.lit undef),(71,.lit undef),(70,bA (v6 == v7)),(69,bA (v6 == v7)),(68,iA v7),(67,iA v6),(66,bA v18),(65,sA v17),(64,.mpt 0 (Int.toNat v7) 0),(63,iA v7),(62,.msl 0 0 (List.length (hier_Given))),(61,sA v16),(60,.mpt 0 (Int.toNat v6) 0),(59,iA v6),(58,.msl 0 0 (List.length (hier_Given))),(57,optP 2 rHierHier v5.1),(56,bA (v9 == (decide (0 < v6)))),(55,bA (v9 == (decide (0 < v6)))),(54,bA (decide (0 < v6))),(53,bA (decide (0 < v6))),(52,bA (decide (0 < v6))),(51,iA v6),(50,bA (v7 == (1 : Int))),(49,bA (v7 == (1 : Int))),(48,iA v7),(47,bA (v7 == v6)),(46,bA (v7 == v6)),(45,bA (v7 == v6)),(44,iA v6),(43,iA v7),(42,bA (v7 == (0 : Int))),(41,bA (v7 == (0 : Int))),(40,iA v7),(39,bA v9),(38,sA v8),(37,.mpt 0 (Int.toNat v7) 0),(36,iA v7),(35,.msl 0 0 (List.length (hier_Given))),(34,optP 2 rHierHier v5.1)] 0 (by kernel_rfl) (by kernel_rfl) j0 (by kernel_rfl) (dt0 ⟨(fun _=>pa j0 j0 j0 j0 (asg j0<|j4)),(fun _=>pa j0 j0 j0 j0 (pkb j0 hb24 j0<|j4)),(fun _=>pag (b:=(v9 == (decide (0 < v6)))) j0 j0 j0 j0 hb24 j0 (beq ti4 j0 j0 j0<|j4)),(fun _=>pag (b:=(v9 == (decide (0 < v6)))) j0 j0 j0 j0 hb24 j0 (pk (b:=true) j0 j0<|j4)),(fun _=>pas (b:=true) j0 j0 j0 j0 j0 j0),(fun _=>pau j0 j0 j0 j0 j0),(fun _=>pau j0 j0 j0 j0 j0),(fun _=>pas (b:=true) j0 j0 j0 j0 j0 j0),(fun _=>pas (b:=true) j0 j0 j0 j0 j0 j0),(fun _=>pas (b:=true) j0 j0 j0 j0 j0 j0),(fun _=>pag (b:=(v9 == (decide (0 < v6)))) j0 j0 j0 j0 hb24 j0 (mv j0<|j4)),(fun _=>pag (b:=(v9 == (decide (0 < v6)))) j0 j0 j0 j0 hb24 j0 (pkb j0 hb28 j0<|j4)),(fun _=>pas (b:=(v6 == v7)) j0 j0 j0 j0 hb28 j0),(fun _=>pas (b:=(v6 == v7)) j0 j0 j0 j0 hb28 j0),(fun _=>pag (b:=(v9 == (decide (0 < v6)))) j0 j0 j0 j0 hb24 j0 (mv j0<|j4)),(fun _=>pag (b:=(v9 == (decide (0 < v6)))) j0 j0 j0 j0 hb24 j0 (eql ti3 j0 j0<|j4)),(fun _=>pag (b:=(v9 == (decide (0 < v6)))) j0 j0 j0 j0 hb24 j0 (mv j0<|j4)),(fun _=>pag (b:=(v9 == (decide (0 < v6)))) j0 j0 j0 j0 hb24 j0 (mv j0<|j4)),(fun _=>pag (b:=(v9 == (decide (0 < v6)))) j0 j0 j0 j0 hb24 j0 (pc (hier_Hier_Sub_ok v5.1 v16 v17 q27) j0 j0 (immC (immP (fun _=>j0)) (j0))<|j4)),(fun _=>pag (b:=(v9 == (decide (0 < v6)))) j0 j0 j0 j0 hb24 j0 (ldM ti9 j0 j0 (idx_some q26).2.2 j0<|j4)),(fun _=>pag (b:=(v9 == (decide (0 < v6)))) j0 j0 j0 j0 hb24 j0 (ixM ti32 j0 ti9 j0 j0 j0 j0 q26<|j4)),(fun _=>pag (b:=(v9 == (decide (0 < v6)))) j0 j0 j0 j0 hb24 j0 (mv j0<|j4)),(fun _=>pag (b:=(v9 == (decide (0 < v6)))) j0 j0 j0 j0 hb24 j0 (mv j0<|j4)),(fun _=>pag (b:=(v9 == (decide (0 < v6)))) j0 j0 j0 j0 hb24 j0 (ldM ti9 j0 j0 (idx_some q25).2.2 j0<|j4)),(fun _=>pag (b:=(v9 == (decide (0 < v6)))) j0 j0 j0 j0 hb24 j0 (ixM ti32 j0 ti9 j0 j0 j0 j0 q25<|j4)),(fun _=>pag (b:=(v9 == (decide (0 < v6)))) j0 j0 j0 j0 hb24 j0 (mv j0<|j4)),(fun _=>pag (b:=(v9 == (decide (0 < v6)))) j0 j0 j0 j0 hb24 j0 (mv j0<|j4)),(fun _=>pag (b:=(v9 == (decide (0 < v6)))) j0 j0 j0 j0 hb24 j0 (mv j0<|j4)),(fun _=>pa j0 j0 j0 j0 (mv j0<|j4)),(fun _=>pa j0 j0 j0 j0 (beq ti4 j0 j0 j0<|j4)),(fun _=>pa j0 j0 j0 j0 (pkb j0 hb16 j0<|j4)),(fun _=>pag (b:=(v7 == v6)) j0 j0 j0 j0 hb16 j0 (pkb j0 hb23 j0<|j4)),(fun _=>pag (b:=(v7 == (1 : Int))) j0 j0 j0 j0 hb23 j0 (gtr ti3 j0 j0<|j4)),(fun _=>pag (b:=(v7 == (1 : Int))) j0 j0 j0 j0 hb23 j0 (mv j0<|j4)),(fun _=>pag (b:=(v7 == v6)) j0 j0 j0 j0 hb16 j0 (mv j0<|j4)),(fun _=>pag (b:=(v7 == v6)) j0 j0 j0 j0 hb16 j0 (eql ti3 j0 j0<|j4)),(fun _=>pag (b:=(v7 == v6)) j0 j0 j0 j0 hb16 j0 (mv j0<|j4)),(fun _=>pa j0 j0 j0 j0 (mv j0<|j4)),(fun _=>pa j0 j0 j0 j0 (pkb j0 hb10 j0<|j4)),(fun _=>pag (b:=(v7 == (0 : Int))) j0 j0 j0 j0 hb10 j0 (eql ti3 j0 j0<|j4)),(fun _=>pag (b:=(v7 == (0 : Int))) j0 j0 j0 j0 hb10 j0 (mv j0<|j4)),(fun _=>pag (b:=(v7 == (0 : Int))) j0 j0 j0 j0 hb10 j0 (mv j0<|j4)),(fun _=>pa j0 j0 j0 j0 (mv j0<|j4)),(fun _=>pa j0 j0 j0 j0 (eql ti3 j0 j0<|j4)),(fun _=>pa j0 j0 j0 j0 (mv j0<|j4)),(fun _=>pa j0 j0 j0 j0 (pc (hier_Hier_Sub_ok v5.1 [77,105,110,101] v8 q9) j0 j0 (immC (immP (fun _=>j0)) (j0))<|j4)),(fun _=>pa j0 j0 j0 j0 (ldM ti9 j0 j0 (idx_some q8).2.2 j0<|j4)),(fun _=>pa j0 j0 j0 j0 (ixM ti32 j0 ti9 j0 j0 j0 j0 q8<|j4)),(fun _=>pa j0 j0 j0 j0 (mv j0<|j4)),(fun _=>pa j0 j0 j0 j0 (mv j0<|j4)),(fun _=>pa j0 j0 j0 j0 (mv j0<|j4)),j5⟩ (by kernel_rfl) j0 ⟨(v18 == true),h,[],ce j0 j0<|cn,j0,j5,j0,j1⟩)
        ·
         replace h:=bF hb28 h
         exact sw_region_dt [] [50,49,48,47,46,45,44,43,42,41,40,39,38,37,36,35,34,33,32,31,30,29,28,27,26,25,24,23,22,21,20,19,18,17,16,15,14,13,12,11,10,9,8,7,6,5,4,3,2,1,0] [(4,bA (v18 == (decide (1 < v6)))),(83,bA (v18 == (decide (1 < v6)))),(82,bA (v18 == (decide (1 < v6)))),(81,bA (decide (1 < v6))),(80,bA (decide (1 < v6))),(79,bA (decide (1 < v6))),(78,iA v6),(77,bA (v7 == (1 : Int))),(76,bA (v7 == (1 : Int))),(75,iA v7),(74,bA (v7 == (0 : Int))),(73,bA (v7 == (0 : Int))),(72,bA (v7 == (0 : Int))),(71,iA v7),(70,bA (v6 == v7)),(69,bA (v6 == v7)),(68,iA v7),(67,iA v6),(66,bA v18),(65,sA v17),(64,.mpt 0 (Int.toNat v7) 0),(63,iA v7),(62,.msl 0 0 (List.length (hier_Given))),(61,sA v16),(60,.mpt 0 (Int.toNat v6) 0),(59,iA v6),(58,.msl 0 0 (List.length (hier_Given))),(57,optP 2 rHierHier v5.1),(56,bA (v9 == (decide (0 < v6)))),(55,bA (v9 == (decide (0 < v6)))),(54,bA (decide (0 < v6))),(53,bA (decide (0 < v6))),(52,bA (decide (0 < v6))),(51,iA v6),(50,bA (v7 == (1 : Int))),(49,bA (v7 == (1 : Int))),(48,iA v7),(47,bA (v7 == v6)),(46,bA (v7 == v6)),(45,bA (v7 == v6)),(44,iA v6),(43,iA v7),(42,bA (v7 == (0 : Int))),(41,bA (v7 == (0 : Int))),(40,iA v7),(39,bA v9),(38,sA v8),(37,.mpt 0 (Int.toNat v7) 0),(36,iA v7),(35,.msl 0 0 (List.length (hier_Given))),(34,optP 2 rHierHier v5.1)] 0 (by kernel_rfl) (by kernel_rfl) j0 (by kernel_rfl) (dt0 ⟨(fun _=>pa j0 j0 j0 j0 (asg j0<|j4)),(fun _=>pa j0 j0 j0 j0 (pkb j0 hb24 j0<|j4)),(fun _=>pag (b:=(v9 == (decide (0 < v6)))) j0 j0 j0 j0 hb24 j0 (beq ti4 j0 j0 j0<|j4)),(fun _=>pag (b:=(v9 == (decide (0 < v6)))) j0 j0 j0 j0 hb24 j0 (pkb j0 hb10 j0<|j4)),(fun _=>pag (b:=(v7 == (0 : Int))) j0 j0 j0 j0 hb10 j0 (pkb j0 hb23 j0<|j4)),(fun _=>pag (b:=(v7 == (1 : Int))) j0 j0 j0 j0 hb23 j0 (gtr ti3 j0 j0<|j4)),(fun _=>pag (b:=(v7 == (1 : Int))) j0 j0 j0 j0 hb23 j0 (mv j0<|j4)),(fun _=>pag (b:=(v7 == (0 : Int))) j0 j0 j0 j0 hb10 j0 (mv j0<|j4)),(fun _=>pag (b:=(v7 == (0 : Int))) j0 j0 j0 j0 hb10 j0 (eql ti3 j0 j0<|j4)),(fun _=>pag (b:=(v7 == (0 : Int))) j0 j0 j0 j0 hb10 j0 (mv j0<|j4)),(fun _=>pag (b:=(v9 == (decide (0 < v6)))) j0 j0 j0 j0 hb24 j0 (mv j0<|j4)),(fun _=>pag (b:=(v9 == (decide (0 < v6)))) j0 j0 j0 j0 hb24 j0 (pkb j0 hb28 j0<|j4)),(fun _=>pag (b:=(v6 == v7)) j0 j0 j0 j0 hb28 j0 (eql ti3 j0 j0<|j4)),(fun _=>pag (b:=(v6 == v7)) j0 j0 j0 j0 hb28 j0 (mv j0<|j4)),(fun _=>pag (b:=(v9 == (decide (0 < v6)))) j0 j0 j0 j0 hb24 j0 (mv j0<|j4)),(fun _=>pag (b:=(v9 == (decide (0 < v6)))) j0 j0 j0 j0 hb24 j0 (eql ti3 j0 j0<|j4)),(fun _=>pag (b:=(v9 == (decide (0 < v6)))) j0 j0 j0 j0 hb24 j0 (mv j0<|j4)),(fun _=>pag (b:=(v9 == (decide (0 < v6)))) j0 j0 j0 j0 hb24 j0 (mv j0<|j4)),(fun _=>pag (b:=(v9 == (decide (0 < v6)))) j0 j0 j0 j0 hb24 j0 (pc (hier_Hier_Sub_ok v5.1 v16 v17 q27) j0 j0 (immC (immP (fun _=>j0)) (j0))<|j4)),(fun _=>pag (b:=(v9 == (decide (0 < v6)))) j0 j0 j0 j0 hb24 j0 (ldM ti9 j0 j0 (idx_some q26).2.2 j0<|j4)),(fun _=>pag (b:=(v9 == (decide (0 < v6)))) j0 j0 j0 j0 hb24 j0 (ixM ti32 j0 ti9 j0 j0 j0 j0 q26<|j4)),(fun _=>pag (b:=(v9 == (decide (0 < v6)))) j0 j0 j0 j0 hb24 j0 (mv j0<|j4)),(fun _=>pag (b:=(v9 == (decide (0 < v6)))) j0 j0 j0 j0 hb24 j0 (mv j0<|j4)),(fun _=>pag (b:=(v9 == (decide (0 < v6)))) j0 j0 j0 j0 hb24 j0 (ldM ti9 j0 j0 (idx_some q25).2.2 j0<|j4)),(fun _=>pag (b:=(v9 == (decide (0 < v6)))) j0 j0 j0 j0 hb24 j0 (ixM ti32 j0 ti9 j0 j0 j0 j0 q25<|j4)),(fun _=>pag (b:=(v9 == (decide (0 < v6)))) j0 j0 j0 j0 hb24 j0 (mv j0<|j4)),(fun _=>pag (b:=(v9 == (decide (0 < v6)))) j0 j0 j0 j0 hb24 j0 (mv j0<|j4)),(fun _=>pag (b:=(v9 == (decide (0 < v6)))) j0 j0 j0 j0 hb24 j0 (mv j0<|j4)),(fun _=>pa j0 j0 j0 j0 (mv j0<|j4)),(fun _=>pa j0 j0 j0 j0 (beq ti4 j0 j0 j0<|j4)),(fun _=>pa j0 j0 j0 j0 (pkb j0 hb16 j0<|j4)),(fun _=>pag (b:=(v7 == v6)) j0 j0 j0 j0 hb16 j0 (pkb j0 hb23 j0<|j4)),(fun _=>pag (b:=(v7 == (1 : Int))) j0 j0 j0 j0 hb23 j0 (gtr ti3 j0 j0<|j4)),(fun _=>pag (b:=(v7 == (1 : Int))) j0 j0 j0 j0 hb23 j0 (mv j0<|j4)),(fun _=>pag (b:=(v7 == v6)) j0 j0 j0 j0 hb16 j0 (mv j0<|j4)),(fun _=>pag (b:=(v7 == v6)) j0 j0 j0 j0 hb16 j0 (eql ti3 j0 j0<|j4)),(fun _=>pag (b:=(v7 == v6)) j0 j0 j0 j0 hb16 j0 (mv j0<|j4)),(fun _=>pa j0 j0 j0 j0 (mv j0<|j4)),(fun _=>pa j0 j0 j0 j0 (pkb j0 hb10 j0<|j4)),(fun _=>pag (b:=(v7 == (0 : Int))) j0 j0 j0 j0 hb10 j0 (eql ti3 j0 j0<|j4)),(fun _=>pag (b:=(v7 == (0 : Int))) j0 j0 j0 j0 hb10 j0 (mv j0<|j4)),(fun _=>pag (b:=(v7 == (0 : Int))) j0 j0 j0 j0 hb10 j0 (mv j0<|j4)),(fun _=>pa j0 j0 j0 j0 (mv j0<|j4)),(fun _=>pa j0 j0 j0 j0 (eql ti3 j0 j0<|j4)),(fun _=>pa j0 j0 j0 j0 (mv j0<|j4)),(fun _=>pa j0 j0 j0 j0 (pc (hier_Hier_Sub_ok v5.1 [77,105,110,101] v8 q9) j0 j0 (immC (immP (fun _=>j0)) (j0))<|j4)),(fun _=>pa j0 j0 j0 j0 (ldM ti9 j0 j0 (idx_some q8).2.2 j0<|j4)),(fun _=>pa j0 j0 j0 j0 (ixM ti32 j0 ti9 j0 j0 j0 j0 q8<|j4)),(fun _=>pa j0 j0 j0 j0 (mv j0<|j4)),(fun _=>pa j0 j0 j0 j0 (mv j0<|j4)),(fun _=>pa j0 j0 j0 j0 (mv j0<|j4)),j5⟩ (by kernel_rfl) j0 ⟨(v18 == (decide (1 < v6))),h,[],ce j0 j0<|cn,j0,j5,j0,j1⟩)
       ·
        replace h:=bF hb24 h
        exact sw_region_dt [] [50,49,48,47,46,45,44,43,42,41,40,39,38,37,36,35,34,33,32,31,30,29,28,27,26,25,24,23,22,21,20,19,18,17,16,15,14,13,12,11,10,9,8,7,6,5,4,3,2,1,0] [(4,bA false),(83,bA false),(82,.lit undef),(81,.lit undef),(80,.lit undef),(79,.lit undef),(78,.lit undef),(77,.lit undef),(76,.lit undef),(75,.lit undef),(74,.lit undef),(73,.lit undef),(72,.lit undef),(71,.lit undef),(70,.lit undef),(69,.lit undef),(68,.lit undef),(67,.lit undef),(66,.lit undef),(65,.lit undef),(64,.lit undef),(63,.lit undef),(62,.lit undef),(61,.lit undef),(60,.lit undef),(59,.lit undef),(58,.lit undef),(57,.lit undef),(56,bA (v9 == (decide (0 < v6)))),(55,bA (v9 == (decide (0 < v6)))),(54,bA (decide (0 < v6))),(53,bA (decide (0 < v6))),(52,bA (decide (0 < v6))),(51,iA v6),(50,bA (v7 == (1 : Int))),(49,bA (v7 == (1 : Int))),(48,iA v7),(47,bA (v7 == v6)),(46,bA (v7 == v6)),(45,bA (v7 == v6)),(44,iA v6),(43,iA v7),(42,bA (v7 == (0 : Int))),(41,bA (v7 == (0 : Int))),(40,iA v7),(39,bA v9),(38,sA v8),(37,.mpt 0 (Int.toNat v7) 0),(36,iA v7),(35,.msl 0 0 (List.length (hier_Given))),(34,optP 2 rHierHier v5.1)] 0 (by kernel_rfl) (by kernel_rfl) j0 (by kernel_rfl) (dt0 ⟨(fun _=>pa j0 j0 j0 j0 (asg j0<|j4)),(fun _=>pa j0 j0 j0 j0 (pkb j0 hb24 j0<|j4)),(fun _=>pas (b:=(v9 == (decide (0 < v6)))) j0 j0 j0 j0 hb24 j0),(fun _=>pas (b:=(v9 == (decide (0 < v6)))) j0 j0 j0 j0 hb24 j0),(fun _=>pau j0 j0 j0 j0 j0),(fun _=>pau j0 j0 j0 j0 j0),(fun _=>pau j0 j0 j0 j0 j0),(fun _=>pau j0 j0 j0 j0 j0),(fun _=>pau j0 j0 j0 j0 j0),(fun _=>pau j0 j0 j0 j0 j0),(fun _=>pas (b:=(v9 == (decide (0 < v6)))) j0 j0 j0 j0 hb24 j0),(fun _=>pas (b:=(v9 == (decide (0 < v6)))) j0 j0 j0 j0 hb24 j0),(fun _=>pau j0 j0 j0 j0 j0),(fun _=>pau j0 j0 j0 j0 j0),(fun _=>pas (b:=(v9 == (decide (0 < v6)))) j0 j0 j0 j0 hb24 j0),(fun _=>pas (b:=(v9 == (decide (0 < v6)))) j0 j0 j0 j0 hb24 j0),(fun _=>pas (b:=(v9 == (decide (0 < v6)))) j0 j0 j0 j0 hb24 j0),(fun _=>pas (b:=(v9 == (decide (0 < v6)))) j0 j0 j0 j0 hb24 j0),(fun _=>pas (b:=(v9 == (decide (0 < v6)))) j0 j0 j0 j0 hb24 j0),(fun _=>pas (b:=(v9 == (decide (0 < v6)))) j0 j0 j0 j0 hb24 j0),(fun _=>pas (b:=(v9 == (decide (0 < v6)))) j0 j0 j0 j0 hb24 j0),(fun _=>pas (b:=(v9 == (decide (0 < v6)))) j0 j0 j0 j0 hb24 j0),(fun _=>pas (b:=(v9 == (decide (0 < v6)))) j0 j0 j0 j0 hb24 j0),(fun _=>pas (b:=(v9 == (decide (0 < v6)))) j0 j0 j0 j0 hb24 j0),(fun _=>pas (b:=(v9 == (decide (0 < v6)))) j0 j0 j0 j0 hb24 j0),(fun _=>pas (b:=(v9 == (decide (0 < v6)))) j0 j0 j0 j0 hb24 j0),(fun _=>pas (b:=(v9 == (decide (0 < v6)))) j0 j0 j0 j0 hb24 j0),(fun _=>pas (b:=(v9 == (decide (0 < v6)))) j0 j0 j0 j0 hb24 j0),(fun _=>pa j0 j0 j0 j0 (mv j0<|j4)),(fun _=>pa j0 j0 j0 j0 (beq ti4 j0 j0 j0<|j4)),(fun _=>pa j0 j0 j0 j0 (pkb j0 hb16 j0<|j4)),(fun _=>pag (b:=(v7 == v6)) j0 j0 j0 j0 hb16 j0 (pkb j0 hb23 j0<|j4)),(fun _=>pag (b:=(v7 == (1 : Int))) j0 j0 j0 j0 hb23 j0 (gtr ti3 j0 j0<|j4)),(fun _=>pag (b:=(v7 == (1 : Int))) j0 j0 j0 j0 hb23 j0 (mv j0<|j4)),(fun _=>pag (b:=(v7 == v6)) j0 j0 j0 j0 hb16 j0 (mv j0<|j4)),(fun _=>pag (b:=(v7 == v6)) j0 j0 j0 j0 hb16 j0 (eql ti3 j0 j0<|j4)),(fun _=>pag (b:=(v7 == v6)) j0 j0 j0 j0 hb16 j0 (mv j0<|j4)),(fun _=>pa j0 j0 j0 j0 (mv j0<|j4)),(fun _=>pa j0 j0 j0 j0 (pkb j0 hb10 j0<|j4)),(fun _=>pag (b:=(v7 == (0 : Int))) j0 j0 j0 j0 hb10 j0 (eql ti3 j0 j0<|j4)),(fun _=>pag (b:=(v7 == (0 : Int))) j0 j0 j0 j0 hb10 j0 (mv j0<|j4)),(fun _=>pag (b:=(v7 == (0 : Int))) j0 j0 j0 j0 hb10 j0 (mv j0<|j4)),(fun _=>pa j0 j0 j0 j0 (mv j0<|j4)),(fun _=>pa j0 j0 j0 j0 (eql ti3 j0 j0<|j4)),(fun _=>pa j0 j0 j0 j0 (mv j0<|j4)),(fun _=>pa j0 j0 j0 j0 (pc (hier_Hier_Sub_ok v5.1 [77,105,110,101] v8 q9) j0 j0 (immC (immP (fun _=>j0)) (j0))<|j4)),(fun _=>pa j0 j0 j0 j0 (ldM ti9 j0 j0 (idx_some q8).2.2 j0<|j4)),(fun _=>pa j0 j0 j0 j0 (ixM ti32 j0 ti9 j0 j0 j0 j0 q8<|j4)),(fun _=>pa j0 j0 j0 j0 (mv j0<|j4)),(fun _=>pa j0 j0 j0 j0 (mv j0<|j4)),(fun _=>pa j0 j0 j0 j0 (mv j0<|j4)),j5⟩ (by kernel_rfl) j0 ⟨false,h,[],ce j0 j0<|cn,j0,j5,j0,j1⟩)
      ·
       replace h:=bF hb23 h
       rcases bb (v9 == false) with hb29 | hb29
       ·
        replace h:=bT hb29 h
        obtain ⟨v19,q30,h⟩:=bs h
        obtain ⟨v20,q31,h⟩:=bs h
        obtain ⟨v21,q32,h⟩:=bs h
        rcases bb (v6 == v7) with hb33 | hb33
        ·
         replace h:=bT hb33 h
         exact sw_region_dt [] [50,49,48,47,46,45,44,43,42,41,40,39,38,37,36,35,34,33,32,31,30,29,28,27,26,25,24,23,22,21,20,19,18,17,16,15,14,13,12,11,10,9,8,7,6,5,4,3,2,1,0] [(4,bA (v21 == true)),(83,bA (v21 == true)),(82,bA (v21 == true)),(81,bA true),(80,.lit undef),(79,.lit undef),(78,.lit undef),(77,.lit undef),(76,.lit undef),(75,.lit undef),(74,bA true),(73,bA true),(72,.lit undef),(71,.lit undef),(70,bA (v6 == v7)),(69,bA (v6 == v7)),(68,iA v7),(67,iA v6),(66,bA v21),(65,sA v20),(64,.mpt 0 (Int.toNat v7) 0),(63,iA v7),(62,.msl 0 0 (List.length (hier_Given))),(61,sA v19),(60,.mpt 0 (Int.toNat v6) 0),(59,iA v6),(58,.msl 0 0 (List.length (hier_Given))),(57,optP 2 rHierHier v5.1),(56,bA (v9 == false)),(55,bA (v9 == false)),(54,bA false),(53,bA false),(52,.lit undef),(51,.lit undef),(50,bA (v7 == (1 : Int))),(49,bA (v7 == (1 : Int))),(48,iA v7),(47,bA (v7 == v6)),(46,bA (v7 == v6)),(45,bA (v7 == v6)),(44,iA v6),(43,iA v7),(42,bA (v7 == (0 : Int))),(41,bA (v7 == (0 : Int))),(40,iA v7),(39,bA v9),(38,sA v8),(37,.mpt 0 (Int.toNat v7) 0),(36,iA v7),(35,.msl 0 0 (List.length (hier_Given))),(34,optP 2 rHierHier v5.1)] 0 (by kernel_rfl) (by kernel_rfl) j0 (by kernel_rfl) (dt0 ⟨(fun _=>pa j0 j0 j0 j0 (asg j0<|j4)),(fun _=>pa j0 j0 j0 j0 (pkb j0 hb29 j0<|j4)),(fun _=>pag (b:=(v9 == false)) j0 j0 j0 j0 hb29 j0 (beq ti4 j0 j0 j0<|j4)),(fun _=>pag (b:=(v9 == false)) j0 j0 j0 j0 hb29 j0 (pk (b:=true) j0 j0<|j4)),(fun _=>pas (b:=true) j0 j0 j0 j0 j0 j0),(fun _=>pau j0 j0 j0 j0 j0),(fun _=>pau j0 j0 j0 j0 j0),(fun _=>pas (b:=true) j0 j0 j0 j0 j0 j0),(fun _=>pas (b:=true) j0 j0 j0 j0 j0 j0),(fun _=>pas (b:=true) j0 j0 j0 j0 j0 j0),(fun _=>pag (b:=(v9 == false)) j0 j0 j0 j0 hb29 j0 (mv j0<|j4)),(fun _=>pag (b:=(v9 == false)) j0 j0 j0 j0 hb29 j0 (pkb j0 hb33 j0<|j4)),(fun _=>pas (b:=(v6 == v7)) j0 j0 j0 j0 hb33 j0),(fun _=>pas (b:=(v6 == v7)) j0 j0 j0 j0 hb33 j0),(fun _=>pag (b:=(v9 == false)) j0 j0 j0 j0 hb29 j0 (mv j0<|j4)),(fun _=>pag (b:=(v9 == false)) j0 j0 j0 j0 hb29 j0 (eql ti3 j0 j0<|j4)),(fun _=>pag (b:=(v9 == false)) j0 j0 j0 j0 hb29 j0 (mv j0<|j4)),(fun _=>pag (b:=(v9 == false)) j0 j0 j0 j0 hb29 j0 (mv j0<|j4)),(fun _=>pag (b:=(v9 == false)) j0 j0 j0 j0 hb29 j0 (pc (hier_Hier_Sub_ok v5.1 v19 v20 q32) j0 j0 (immC (immP (fun _=>j0)) (j0))<|j4)),(fun _=>pag (b:=(v9 == false)) j0 j0 j0 j0 hb29 j0 (ldM ti9 j0 j0 (idx_some q31).2.2 j0<|j4)),(fun _=>pag (b:=(v9 == false)) j0 j0 j0 j0 hb29 j0 (ixM ti32 j0 ti9 j0 j0 j0 j0 q31<|j4)),(fun _=>pag (b:=(v9 == false)) j0 j0 j0 j0 hb29 j0 (mv j0<|j4)),(fun _=>pag (b:=(v9 == false)) j0 j0 j0 j0 hb29 j0 (mv j0<|j4)),(fun _=>pag (b:=(v9 == false)) j0 j0 j0 j0 hb29 j0 (ldM ti9 j0 j0 (idx_some q30).2.2 j0<|j4)),(fun _=>pag (b:=(v9 == false)) j0 j0 j0 j0 hb29 j0 (ixM ti32 j0 ti9 j0 j0 j0 j0 q30<|j4)),(fun _=>pag (b:=(v9 == false)) j0 j0 j0 j0 hb29 j0 (mv j0<|j4)),(fun _=>pag (b:=(v9 == false)) j0 j0 j0 j0 hb29 j0 (mv j0<|j4)),(fun _=>pag (b:=(v9 == false)) j0 j0 j0 j0 hb29 j0 (mv j0<|j4)),(fun _=>pa j0 j0 j0 j0 (mv j0<|j4)),(fun _=>pa j0 j0 j0 j0 (beq ti4 j0 j0 j0<|j4)),(fun _=>pa j0 j0 j0 j0 (pkb j0 hb16 j0<|j4)),(fun _=>pag (b:=(v7 == v6)) j0 j0 j0 j0 hb16 j0 (pkb j0 hb23 j0<|j4)),(fun _=>pas (b:=(v7 == (1 : Int))) j0 j0 j0 j0 hb23 j0),(fun _=>pas (b:=(v7 == (1 : Int))) j0 j0 j0 j0 hb23 j0),(fun _=>pag (b:=(v7 == v6)) j0 j0 j0 j0 hb16 j0 (mv j0<|j4)),(fun _=>pag (b:=(v7 == v6)) j0 j0 j0 j0 hb16 j0 (eql ti3 j0 j0<|j4)),(fun _=>pag (b:=(v7 == v6)) j0 j0 j0 j0 hb16 j0 (mv j0<|j4)),(fun _=>pa j0 j0 j0 j0 (mv j0<|j4)),(fun _=>pa j0 j0 j0 j0 (pkb j0 hb10 j0<|j4)),(fun _=>pag (b:=(v7 == (0 : Int))) j0 j0 j0 j0 hb10 j0 (eql ti3 j0 j0<|j4)),(fun _=>pag (b:=(v7 == (0 : Int))) j0 j0 j0 j0 hb10 j0 (mv j0<|j4)),(fun _=>pag (b:=(v7 == (0 : Int))) j0 j0 j0 j0 hb10 j0 (mv j0<|j4)),(fun _=>pa j0 j0 j0 j0 (mv j0<|j4)),(fun _=>pa j0 j0 j0 j0 (eql ti3 j0 j0<|j4)),(fun _=>pa j0 j0 j0 j0 (mv j0<|j4)),(fun _=>pa j0 j0 j0 j0 (pc (hier_Hier_Sub_ok v5.1 [77,105,110,101] v8 q9) j0 j0 (immC (immP (fun _=>j0)) (j0))<|j4)),(fun _=>pa j0 j0 j0 j0 (ldM ti9 j0 j0 (idx_some q8).2.2 j0<|j4)),(fun _=>pa j0 j0 j0 j0 (ixM ti32 j0 ti9 j0 j0 j0 j0 q8<|j4)),(fun _=>pa j0 j0 j0 j0 (mv j0<|j4)),(fun _=>pa j0 j0 j0 j0 (mv j0<|j4)),(fun _=>pa j0 j0 j0 j0 (mv j0<|j4)),j5⟩ (by kernel_rfl) j0 ⟨(v21 == true),h,[],ce j0 j0<|cn,j0,j5,j0,j1⟩)
        ·
         replace h:=bF hb33 h
         exact sw_region_dt [] [50,49,48,47,46,45,44,43,42,41,40,39,38,37,36,35,34,33,32,31,30,29,28,27,26,25,24,23,22,21,20,19,18,17,16,15,14,13,12,11,10,9,8,7,6,5,4,3,2,1,0] [(4,bA (v21 == false)),(83,bA (v21 == false)),(82,bA (v21 == false)),(81,bA false),(80,bA false),(79,.lit undef),(78,.lit undef),(77,bA (v7 == (1 : Int))),(76,bA (v7 == (1 : Int))),(75,iA v7),(74,bA (v7 == (0 : Int))),(73,bA (v7 == (0 : Int))),(72,bA (v7 == (0 : Int))),(71,iA v7),(70,bA (v6 == v7)),(69,bA (v6 == v7)),(68,iA v7),(67,iA v6),(66,bA v21),(65,sA v20),(64,.mpt 0 (Int.toNat v7) 0),(63,iA v7),(62,.msl 0 0 (List.length (hier_Given))),(61,sA v19),(60,.mpt 0 (Int.toNat v6) 0),(59,iA v6),(58,.msl 0 0 (List.length (hier_Given))),(57,optP 2 rHierHier v5.1),(56,bA (v9 == false)),(55,bA (v9 == false)),(54,bA false),(53,bA false),(52,.lit undef),(51,.lit undef),(50,bA (v7 == (1 : Int))),(49,bA (v7 == (1 : Int))),(48,iA v7),(47,bA (v7 == v6)),(46,bA (v7 == v6)),(45,bA (v7 == v6)),(44,iA v6),(43,iA v7),(42,bA (v7 == (0 : Int))),(41,bA (v7 == (0 : Int))),(40,iA v7),(39,bA v9),(38,sA v8),(37,.mpt 0 (Int.toNat v7) 0),(36,iA v7),(35,.msl 0 0 (List.length (hier_Given))),(34,optP 2 rHierHier v5.1)] 0 (by kernel_rfl) (by kernel_rfl) j0 (by kernel_rfl) (dt0 ⟨(fun _=>pa j0 j0 j0 j0 (asg j0<|j4)),(fun _=>pa j0 j0 j0 j0 (pkb j0 hb29 j0<|j4)),(fun _=>pag (b:=(v9 == false)) j0 j0 j0 j0 hb29 j0 (beq ti4 j0 j0 j0<|j4)),(fun _=>pag (b:=(v9 == false)) j0 j0 j0 j0 hb29 j0 (pkb j0 hb10 j0<|j4)),(fun _=>pag (b:=(v7 == (0 : Int))) j0 j0 j0 j0 hb10 j0 (pkb j0 hb23 j0<|j4)),(fun _=>pas (b:=(v7 == (1 : Int))) j0 j0 j0 j0 hb23 j0),(fun _=>pas (b:=(v7 == (1 : Int))) j0 j0 j0 j0 hb23 j0),(fun _=>pag (b:=(v7 == (0 : Int))) j0 j0 j0 j0 hb10 j0 (mv j0<|j4)),(fun _=>pag (b:=(v7 == (0 : Int))) j0 j0 j0 j0 hb10 j0 (eql ti3 j0 j0<|j4)),(fun _=>pag (b:=(v7 == (0 : Int))) j0 j0 j0 j0 hb10 j0 (mv j0<|j4)),(fun _=>pag (b:=(v9 == false)) j0 j0 j0 j0 hb29 j0 (mv j0<|j4)),(fun _=>pag (b:=(v9 == false)) j0 j0 j0 j0 hb29 j0 (pkb j0 hb33 j0<|j4)),(fun _=>pag (b:=(v6 == v7)) j0 j0 j0 j0 hb33 j0 (eql ti3 j0 j0<|j4)),(fun _=>pag (b:=(v6 == v7)) j0 j0 j0 j0 hb33 j0 (mv j0<|j4)),(fun _=>pag (b:=(v9 == false)) j0 j0 j0 j0 hb29 j0 (mv j0<|j4)),(fun _=>pag (b:=(v9 == false)) j0 j0 j0 j0 hb29 j0 (eql ti3 j0 j0<|j4)),(fun _=>pag (b:=(v9 == false)) j0 j0 j0 j0 hb29 j0 (mv j0<|j4)),(fun _=>pag (b:=(v9 == false)) j0 j0 j0 j0 hb29 j0 (mv j0<|j4)),(fun _=>pag (b:=(v9 == false)) j0 j0 j0 j0 hb29 j0 (pc (hier_Hier_Sub_ok v5.1 v19 v20 q32) j0 j0 (immC (immP (fun _=>j0)) (j0))<|j4)),(fun _=>pag (b:=(v9 == false)) j0 j0 j0 j0 hb29 j0 (ldM ti9 j0 j0 (idx_some q31).2.2 j0<|j4)),(fun _=>pag (b:=(v9 == false)) j0 j0 j0 j0 hb29 j0 (ixM ti32 j0 ti9 j0 j0 j0 j0 q31<|j4)),(fun _=>pag (b:=(v9 == false)) j0 j0 j0 j0 hb29 j0 (mv j0<|j4)),(fun _=>pag (b:=(v9 == false)) j0 j0 j0 j0 hb29 j0 (mv j0<|j4)),(fun _=>pag (b:=(v9 == false)) j0 j0 j0 j0 hb29 j0 (ldM ti9 j0 j0 (idx_some q30).2.2 j0<|j4)),(fun _=>pag (b:=(v9 == false)) j0 j0 j0 j0 hb29 j0 (ixM ti32 j0 ti9 j0 j0 j0 j0 q30<|j4)),(fun _=>pag (b:=(v9 == false)) j0 j0 j0 j0 hb29 j0 (mv j0<|j4)),(fun _=>pag (b:=(v9 == false)) j0 j0 j0 j0 hb29 j0 (mv j0<|j4)),(fun _=>pag (b:=(v9 == false)) j0 j0 j0 j0 hb29 j0 (mv j0<|j4)),(fun _=>pa j0 j0 j0 j0 (mv j0<|j4)),(fun _=>pa j0 j0 j0 j0 (beq ti4 j0 j0 j0<|j4)),(fun _=>pa j0 j0 j0 j0 (pkb j0 hb16 j0<|j4)),(fun _=>pag (b:=(v7 == v6)) j0 j0 j0 j0 hb16 j0 (pkb j0 hb23 j0<|j4)),(fun _=>pas (b:=(v7 == (1 : Int))) j0 j0 j0 j0 hb23 j0),(fun _=>pas (b:=(v7 == (1 : Int))) j0 j0 j0 j0 hb23 j0),(fun _=>pag (b:=(v7 == v6)) j0 j0 j0 j0 hb16 j0 (mv j0<|j4)),(fun _=>pag (b:=(v7 == v6)) j0 j0 j0 j0 hb16 j0 (eql ti3 j0 j0<|j4)),(fun _=>pag (b:=(v7 == v6)) j0 j0 j0 j0 hb16 j0 (mv j0<|j4)),(fun _=>pa j0 j0 j0 j0 (mv j0<|j4)),(fun _=>pa j0 j0 j0 j0 (pkb j0 hb10 j0<|j4)),(fun _=>pag (b:=(v7 == (0 : Int))) j0 j0 j0 j0 hb10 j0 (eql ti3 j0 j0<|j4)),(fun _=>pag (b:=(v7 == (0 : Int))) j0 j0 j0 j0 hb10 j0 (mv j0<|j4)),(fun _=>pag (b:=(v7 == (0 : Int))) j0 j0 j0 j0 hb10 j0 (mv j0<|j4)),(fun _=>pa j0 j0 j0 j0 (mv j0<|j4)),(fun _=>pa j0 j0 j0 j0 (eql ti3 j0 j0<|j4)),(fun _=>pa j0 j0 j0 j0 (mv j0<|j4)),(fun _=>pa j0 j0 j0 j0 (pc (hier_Hier_Sub_ok v5.1 [77,105,110,101] v8 q9) j0 j0 (immC (immP (fun _=>j0)) (j0))<|j4)),(fun _=>pa j0 j0 j0 j0 (ldM ti9 j0 j0 (idx_some q8).2.2 j0<|j4)),(fun _=>pa j0 j0 j0 j0 (ixM ti32 j0 ti9 j0 j0 j0 j0 q8<|j4)),(fun _=>pa j0 j0 j0 j0 (mv j0<|j4)),(fun _=>pa j0 j0 j0 j0 (mv j0<|j4)),(fun _=>pa j0 j0 j0 j0 (mv j0<|j4)),j5⟩ (by kernel_rfl) j0 ⟨(v21 == false),h,[],ce j0 j0<|cn,j0,j5,j0,j1⟩)
       ·
        replace h:=bF hb29 h
        exact sw_region_dt [] [50,49,48,47,46,45,44,43,42,41,40,39,38,37,36,35,34,33,32,31,30,29,28,27,26,25,24,23,22,21,20,19,18,17,16,15,14,13,12,11,10,9,8,7,6,5,4,3,2,1,0] [(4,bA false),(83,bA false),(82,.lit undef),(81,.lit undef),(80,.lit undef),(79,.lit undef),(78,.lit undef),(77,.lit undef),(76,.lit undef),(75,.lit undef),(74,.lit undef),(73,.lit undef),(72,.lit undef),(71,.lit undef),(70,.lit undef),(69,.lit undef),(68,.lit undef),(67,.lit undef),(66,.lit undef),(65,.lit undef),(64,.lit undef),(63,.lit undef),(62,.lit undef),(61,.lit undef),(60,.lit undef),(59,.lit undef),(58,.lit undef),(57,.lit undef),(56,bA (v9 == false)),(55,bA (v9 == false)),(54,bA false),(53,bA false),(52,.lit undef),(51,.lit undef),(50,bA (v7 == (1 : Int))),(49,bA (v7 == (1 : Int))),(48,iA v7),(47,bA (v7 == v6)),(46,bA (v7 == v6)),(45,bA (v7 == v6)),(44,iA v6),(43,iA v7),(42,bA (v7 == (0 : Int))),(41,bA (v7 == (0 : Int))),(40,iA v7),(39,bA v9),(38,sA v8),(37,.mpt 0 (Int.toNat v7) 0),(36,iA v7),(35,.msl 0 0 (List.length (hier_Given))),(34,optP 2 rHierHier v5.1)] 0 (by kernel_rfl) (by kernel_rfl) j0 (by kernel_rfl) (dt0 ⟨(fun _=>pa j0 j0 j0 j0 (asg j0<|j4)),(fun _=>pa j0 j0 j0 j0 (pkb j0 hb29 j0<|j4)),(fun _=>pas (b:=(v9 == false)) j0 j0 j0 j0 hb29 j0),(fun _=>pas (b:=(v9 == false)) j0 j0 j0 j0 hb29 j0),(fun _=>pau j0 j0 j0 j0 j0),(fun _=>pau j0 j0 j0 j0 j0),(fun _=>pau j0 j0 j0 j0 j0),(fun _=>pau j0 j0 j0 j0 j0),(fun _=>pau j0 j0 j0 j0 j0),(fun _=>pau j0 j0 j0 j0 j0),(fun _=>pas (b:=(v9 == false)) j0 j0 j0 j0 hb29 j0),(fun _=>pas (b:=(v9 == false)) j0 j0 j0 j0 hb29 j0),(fun _=>pau j0 j0 j0 j0 j0),(fun _=>pau j0 j0 j0 j0 j0),(fun _=>pas (b:=(v9 == false)) j0 j0 j0 j0 hb29 j0),(fun _=>pas (b:=(v9 == false)) j0 j0 j0 j0 hb29 j0),(fun _=>pas (b:=(v9 == false)) j0 j0 j0 j0 hb29 j0),(fun _=>pas (b:=(v9 == false)) j0 j0 j0 j0 hb29 j0),(fun _=>pas (b:=(v9 == false)) j0 j0 j0 j0 hb29 j0),(fun _=>pas (b:=(v9 == false)) j0 j0 j0 j0 hb29 j0),(fun _=>pas (b:=(v9 == false)) j0 j0 j0 j0 hb29 j0),(fun _=>pas (b:=(v9 == false)) j0 j0 j0 j0 hb29 j0),(fun _=>pas (b:=(v9 == false)) j0 j0 j0 j0 hb29 j0),(fun _=>pas (b:=(v9 == false)) j0 j0 j0 j0 hb29 j0),(fun _=>pas (b:=(v9 == false)) j0 j0 j0 j0 hb29 j0),(fun _=>pas (b:=(v9 == false)) j0 j0 j0 j0 hb29 j0),(fun _=>pas (b:=(v9 == false)) j0 j0 j0 j0 hb29 j0),(fun _=>pas (b:=(v9 == false)) j0 j0 j0 j0 hb29 j0),(fun _=>pa j0 j0 j0 j0 (mv j0<|j4)),(fun _=>pa j0 j0 j0 j0 (beq ti4 j0 j0 j0<|j4)),(fun _=>pa j0 j0 j0 j0 (pkb j0 hb16 j0<|j4)),(fun _=>pag (b:=(v7 == v6)) j0 j0 j0 j0 hb16 j0 (pkb j0 hb23 j0<|j4)),(fun _=>pas (b:=(v7 == (1 : Int))) j0 j0 j0 j0 hb23 j0),(fun _=>pas (b:=(v7 == (1 : Int))) j0 j0 j0 j0 hb23 j0),(fun _=>pag (b:=(v7 == v6)) j0 j0 j0 j0 hb16 j0 (mv j0<|j4)),(fun _=>pag (b:=(v7 == v6)) j0 j0 j0 j0 hb16 j0 (eql ti3 j0 j0<|j4)),(fun _=>pag (b:=(v7 == v6)) j0 j0 j0 j0 hb16 j0 (mv j0<|j4)),(fun _=>pa j0 j0 j0 j0 (mv j0<|j4)),(fun _=>pa j0 j0 j0 j0 (pkb j0 hb10 j0<|j4)),(fun _=>pag (b:=(v7 == (0 : Int))) j0 j0 j0 j0 hb10 j0 (eql ti3 j0 j0<|j4)),(fun _=>pag (b:=(v7 == (0 : Int))) j0 j0 j0 j0 hb10 j0 (mv j0<|j4)),(fun _=>pag (b:=(v7 == (0 : Int))) j0 j0 j0 j0 hb10 j0 (mv j0<|j4)),(fun _=>pa j0 j0 j0 j0 (mv j0<|j4)),(fun _=>pa j0 j0 j0 j0 (eql ti3 j0 j0<|j4)),(fun _=>pa j0 j0 j0 j0 (mv j0<|j4)),(fun _=>pa j0 j0 j0 j0 (pc (hier_Hier_Sub_ok v5.1 [77,105,110,101] v8 q9) j0 j0 (immC (immP (fun _=>j0)) (j0))<|j4)),(fun _=>pa j0 j0 j0 j0 (ldM ti9 j0 j0 (idx_some q8).2.2 j0<|j4)),(fun _=>pa j0 j0 j0 j0 (ixM ti32 j0 ti9 j0 j0 j0 j0 q8<|j4)),(fun _=>pa j0 j0 j0 j0 (mv j0<|j4)),(fun _=>pa j0 j0 j0 j0 (mv j0<|j4)),(fun _=>pa j0 j0 j0 j0 (mv j0<|j4)),j5⟩ (by kernel_rfl) j0 ⟨false,h,[],ce j0 j0<|cn,j0,j5,j0,j1⟩)
   ·
    rintro v22 h
    replace h : law7_HierGiven_j1 v22 = some r:=h
    unfold law7_HierGiven_j1 at h
    refine sw_ret ?_
    obtain rfl:=sm h
    exact ⟨_,j0,[],ci j0,j0,j5,j0,j1⟩
end
end Go.Proofs.YtooagifeniibcaaGreat
namespace Go.Proofs.YtooagifeniibcaaGreat
set_option linter.unusedSimpArgs false
set_option linter.unusedVariables false
def okB : Option Bool → Bool
  | some b => b
  | none => false
theorem okB_iff {o : Option Bool} (h : okB o = true) : o = some true := by
  cases o with
  | none => cases h
  | some b => cases b with
    | true => rfl
    | false => cases h
end Go.Proofs.YtooagifeniibcaaGreat
namespace Go.Proofs.YtooagifeniibcaaGreat
set_option linter.unusedSimpArgs false
set_option linter.unusedVariables false
theorem wrap_in {n : Int} (h1 : -9223372036854775808 ≤ n) (h2 : n ≤ 9223372036854775807) : IntKind.i64.wrap n = n := IntWalk.i64_in n ⟨h1, h2⟩
theorem law7_small_of (x : Int) {k : Int} (h1 : 1 ≤ k) (h2 : k ≤ 1000) : ∃ i : Nat, (i : Int) < k ∧ law7_small x k = some (i : Int) := by
  have hb := Int.tmod_lt_of_pos x (show (0 : Int) < k by omega)
  have hb2 : -k < x.tmod k := by
    have := Int.lt_tmod_of_pos x (show (0 : Int) < k by omega)
    omega
  have hw : IntKind.i64.wrap (x.tmod k + k) = x.tmod k + k := wrap_in (by omega) (by omega)
  have h3 := Int.tmod_nonneg k (show 0 ≤ x.tmod k + k by omega)
  have h4 := Int.tmod_lt_of_pos (x.tmod k + k) (show (0 : Int) < k by omega)
  refine ⟨((x.tmod k + k).tmod k).toNat, by omega, ?_⟩
  unfold law7_small remP
  rw [if_neg (by omega)]
  simp only [Option.bind_some]
  rw [hw, if_neg (by omega)]
  simp only [Option.bind_some]
  congr 1
  omega
theorem law7_small_id {i : Nat} {k : Int} (h1 : 1 ≤ k) (h2 : k ≤ 1000) (hi : (i : Int) < k) : law7_small (i : Int) k = some (i : Int) := by
  unfold law7_small remP
  rw [if_neg (by omega), Int.tmod_eq_of_lt (by omega) hi]
  simp only [Option.bind_some]
  have e : ((i : Int) + k).tmod k = i := by rw [Int.tmod_eq_emod_of_nonneg (by omega), Int.add_emod_right, Int.emod_eq_of_lt (by omega) hi]
  rw [wrap_in (by omega) (by omega), if_neg (by omega), e]
  rfl
noncomputable def givB (i : Nat) : Bool := (okB (law7_HierGiven (i : Int) 0) && (okB (law7_HierGiven (i : Int) 1) && (okB (law7_HierGiven (i : Int) 2) && (okB (law7_HierGiven (i : Int) 3) && okB (law7_HierGiven (i : Int) 4))))) && (okB (law7_HierGiven (i : Int) 5) && (okB (law7_HierGiven (i : Int) 6) && (okB (law7_HierGiven (i : Int) 7) && (okB (law7_HierGiven (i : Int) 8) && okB (law7_HierGiven (i : Int) 9)))))
theorem giv1 : (givB 0 && (givB 1 && (givB 2 && (givB 3 && givB 4)))) = true := by kernel_rfl
theorem giv2 : (givB 5 && (givB 6 && (givB 7 && (givB 8 && givB 9)))) = true := by kernel_rfl
theorem giv_of {i k : Nat} (h : givB i = true) (hk : k < 10) : law7_HierGiven (i : Int) (k : Int) = some true := by
  unfold givB at h
  simp only [Bool.and_eq_true] at h
  have : k = 0 ∨ k = 1 ∨ k = 2 ∨ k = 3 ∨ k = 4 ∨ k = 5 ∨ k = 6 ∨ k = 7 ∨ k = 8 ∨ k = 9 := by omega
  rcases this with rfl | rfl | rfl | rfl | rfl | rfl | rfl | rfl | rfl | rfl
  · exact okB_iff h.1.1
  · exact okB_iff h.1.2.1
  · exact okB_iff h.1.2.2.1
  · exact okB_iff h.1.2.2.2.1
  · exact okB_iff h.1.2.2.2.2
  · exact okB_iff h.2.1
  · exact okB_iff h.2.2.1
  · exact okB_iff h.2.2.2.1
  · exact okB_iff h.2.2.2.2.1
  · exact okB_iff h.2.2.2.2.2
theorem giv_all {i : Nat} (hi : i < 10) : givB i = true := by
  have a := giv1
  have b := giv2
  simp only [Bool.and_eq_true] at a b
  have : i = 0 ∨ i = 1 ∨ i = 2 ∨ i = 3 ∨ i = 4 ∨ i = 5 ∨ i = 6 ∨ i = 7 ∨ i = 8 ∨ i = 9 := by omega
  rcases this with rfl | rfl | rfl | rfl | rfl | rfl | rfl | rfl | rfl | rfl
  · exact a.1
  · exact a.2.1
  · exact a.2.2.1
  · exact a.2.2.2.1
  · exact a.2.2.2.2
  · exact b.1
  · exact b.2.1
  · exact b.2.2.1
  · exact b.2.2.2.1
  · exact b.2.2.2.2
theorem law7_HierGiven_eq (a b : Int) : law7_HierGiven a b = some true := by
  obtain ⟨i, hi, ei⟩ := law7_small_of a (k := 10) (by omega) (by omega)
  obtain ⟨k, hk, ek⟩ := law7_small_of b (k := 10) (by omega) (by omega)
  have h := giv_of (giv_all (i := i) (by omega)) (show k < 10 by omega)
  unfold law7_HierGiven at h ⊢
  rw [law7_small_id (by omega) (by omega) hi, law7_small_id (by omega) (by omega) hk] at h
  rw [ei, ek]
  exact h
theorem hierGiven_pure (a b : Int) (_ : wI .i64 a) (_ : wI .i64 b) : PureC Tryz.prog 7 [iA a, iA b] (bA true) := law7_HierGiven_ok a b (law7_HierGiven_eq a b)
end Go.Proofs.YtooagifeniibcaaGreat
