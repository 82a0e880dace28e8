/- StateChain: for every input the law returns true, and each argument reads as it read before. No further condition. Part 3 of 5. -/
import Derived.Test.YthmnlfenkhmmhaaGreatSb2
namespace Go.Proofs.YthmnlfenkhmmhaaGreat
noncomputable section
set_option linter.unusedSimpArgs false
set_option linter.unusedVariables false
set_option maxRecDepth 100000
set_option maxHeartbeats 4000000
structure ApiIns where
  Op : Int
  A : Int
  C : List UInt8
  M : List UInt8
def rApiIns (x : ApiIns) : List AV:=[iA x.Op,iA x.A,sA x.C,sA x.M]
def kind_small (v1 : UInt8) : Bool :=
  ((decide (97 ≤ (v1.toNat : Int))) && (decide ((v1.toNat : Int) ≤ 122)))
theorem kind_small_ok (v1 : UInt8) {r : Bool} (h : kind_small v1 = r) : PureC Tryz.prog 237 [.lit (.int .u8 (v1.toNat : Int))] (bA r):=by
 refine pure_fn Tryz.func237 j0 (by kernel_rfl) j0 j0 ?_
 unfold kind_small at h
 refine rg j0<|u<|asg j0<|r_nil ?_
 refine rg j0<|u<|mv j0<|u<|geq ti5 j0 j0<|u<|mv j0<|r_and (j:=2) 2 j0 j0 j0 j0 j0 gpn (fun hb1=>g j0 hb1<|mv j0<|g j0 hb1<|leq ti5 j0 j0<|r_nil (egA [6,7] 2 hb1 j0 j0 j0 j0)) andF<|u<|asg j0<|r_nil ?_
 refine sw_ret ?_
 obtain rfl:=h
 exact ⟨_,j0,[],ci j0,j0,j5,j0,j1⟩
def kind_great (v1 : UInt8) : Bool :=
  ((decide (65 ≤ (v1.toNat : Int))) && (decide ((v1.toNat : Int) ≤ 90)))
theorem kind_great_ok (v1 : UInt8) {r : Bool} (h : kind_great v1 = r) : PureC Tryz.prog 249 [.lit (.int .u8 (v1.toNat : Int))] (bA r):=by
 refine pure_fn Tryz.func249 j0 (by kernel_rfl) j0 j0 ?_
 unfold kind_great at h
 refine rg j0<|u<|asg j0<|r_nil ?_
 refine rg j0<|u<|mv j0<|u<|geq ti5 j0 j0<|u<|mv j0<|r_and (j:=2) 2 j0 j0 j0 j0 j0 gpn (fun hb1=>g j0 hb1<|mv j0<|g j0 hb1<|leq ti5 j0 j0<|r_nil (egA [6,7] 2 hb1 j0 j0 j0 j0)) andF<|u<|asg j0<|r_nil ?_
 refine sw_ret ?_
 obtain rfl:=h
 exact ⟨_,j0,[],ci j0,j0,j5,j0,j1⟩
def kind_digit (v1 : UInt8) : Bool :=
  ((decide (48 ≤ (v1.toNat : Int))) && (decide ((v1.toNat : Int) ≤ 57)))
theorem kind_digit_ok (v1 : UInt8) {r : Bool} (h : kind_digit v1 = r) : PureC Tryz.prog 322 [.lit (.int .u8 (v1.toNat : Int))] (bA r):=by
 refine pure_fn Tryz.func322 j0 (by kernel_rfl) j0 j0 ?_
 unfold kind_digit at h
 refine rg j0<|u<|asg j0<|r_nil ?_
 refine rg j0<|u<|mv j0<|u<|geq ti5 j0 j0<|u<|mv j0<|r_and (j:=2) 2 j0 j0 j0 j0 j0 gpn (fun hb1=>g j0 hb1<|mv j0<|g j0 hb1<|leq ti5 j0 j0<|r_nil (egA [6,7] 2 hb1 j0 j0 j0 j0)) andF<|u<|asg j0<|r_nil ?_
 refine sw_ret ?_
 obtain rfl:=h
 exact ⟨_,j0,[],ci j0,j0,j5,j0,j1⟩
def kind_word_k2 (v1 : List UInt8) : Option (Bool) :=
  some ((!(v1 == [])) && (decide ((List.length v1 : Int) ≤ 8)))
def kind_word_l1 (v1 : List UInt8) (v8 : Int) : Option (Sum (Int) (Sum (Unit) (Bool))) :=
  cond (decide (v8 < (List.length v1 : Int))) ((idx v1 v8).bind fun v9=>(cond (!(kind_small v9)) ((idx v1 v8).bind fun v10=>some (!(kind_great v10))) (some false)).bind fun v11=>(cond v11 ((idx v1 v8).bind fun v12=>some (!(kind_digit v12))) (some false)).bind fun v13=>cond v13 (some (.inr (.inr false))) (some (.inl (IntKind.i64.wrap (v8 + 1))))) (some (.inr (.inl ())))
def kind_word (v1 : List UInt8) : Option (Bool) :=
  (loopP (fun z=>kind_word_l1 v1 z) 0).bind fun o=>leave o (fun b=>kind_word_k2 v1) some
theorem kind_word_ok (v1 : List UInt8) {r : Bool} (h : kind_word v1 = some r) : PureC Tryz.prog 236 [sA v1] (bA r):=by
 refine pure_fn Tryz.func236 j0 (by kernel_rfl) j0 j0 ?_
 unfold kind_word at h
 refine rg j0<|u<|asg j0<|r_nil ?_
 refine sw_seq ?_
 refine rg j0<|u<|mv j0<|u<|lnS ti9 j0 j0<|u<|mv j0<|r_nil ?_
 obtain ⟨o,ho,h⟩:=bs h
 refine sw_lpl (X:=Int) (B:=Unit) (R:=Bool) (fun z=>[(0,sA v1),(5,iA (List.length v1 : Int)),(6,iA z)]) (fun z=>[]) (fun b=>[(0,sA v1)]) (fun b=>[]) (fun r env st=>PostF Tryz.prog Tryz.f236 0 (bA r) [] env st) ho ⟨[],ce j0 j0<|ce j0 j0<|ce j0 j0<|cn,j0,j5,j0,j1⟩ ?_ ?_ ?_
 ·
  rintro v8 r h
  replace h : kind_word_l1 v1 v8 = some r:=h
  unfold kind_word_l1 at h
  refine rg j0<|u<|lss ti3 j0 j0<|r_nil ?_
  refine sw_seq ?_
  refine sw_cond j0 (fun hc10=>?_) (fun hc10=>?_)
  ·
   replace h:=bT hc10 h
   refine sw_skip ?_
   refine sw_seq ?_
   refine sw_block ?_
   refine rg j0<|u<|mv j0<|u<|asg j0<|r_nil ?_
   obtain ⟨v9,q11,h⟩:=bs h
   obtain ⟨v11,q14,h⟩:=bs h
   obtain ⟨v13,q17,h⟩:=bs h
   refine rg j0<|u<|mv j0<|u<|mv j0<|u<|ixS ti9 j0 j0 j0 q11<|u<|pc (kind_small_ok v9 j0) j0 j0 j0<|u<|nt j0<|u<|mv j0<|r_and (x:=v11) (j:=5) 5 j0 j0 j0 j0 j0 gpn (fun hb12=>by replace q14:=bT hb12 q14; obtain ⟨v10,q13,q14⟩:=bs q14; obtain rfl:=sm q14; exact g j0 hb12<|mv j0<|g j0 hb12<|mv j0<|g j0 hb12<|ixS ti9 j0 j0 j0 q13<|g j0 hb12<|pc (kind_great_ok v10 j0) j0 j0 j0<|g j0 hb12<|nt j0<|r_nil (eg [15,16,17,18,19] 5 j0 j0 j0 j0)) (fun hb=>(sm (bF hb q14)).symm)<|u<|mv j0<|r_and (x:=v13) (j:=12) 5 j0 j0 j0 j0 j0 gpn (fun hb15=>by replace q17:=bT hb15 q17; obtain ⟨v12,q16,q17⟩:=bs q17; obtain rfl:=sm q17; exact g j0 hb15<|mv j0<|g j0 hb15<|mv j0<|g j0 hb15<|ixS ti9 j0 j0 j0 q16<|g j0 hb15<|pc (kind_digit_ok v12 j0) j0 j0 j0<|g j0 hb15<|nt j0<|r_nil (eg [22,23,24,25,26] 5 j0 j0 j0 j0)) (fun hb=>(sm (bF hb q17)).symm)<|r_nil ?_
   refine sw_cond j0 (fun hc18=>?_) (fun hc18=>?_)
   ·
    replace h:=bT hc18 h
    refine rg j0<|u<|asg j0<|r_nil ?_
    refine sw_ret ?_
    obtain rfl:=sm h
    exact ⟨_,j0,_,j0,[],ci j0,j0,j5,j0,j1⟩
   ·
    replace h:=bF hc18 h
    refine sw_skip ?_
    refine rl j0<|u<|add ti3 j0 j0<|u<|mv j0<|r_nil ?_
    obtain rfl:=sm h
    exact ⟨_,j0,[],ce j0 j0<|ce j0 j0<|ce j0 j0<|cn,j0,j5,j0,j1⟩
  ·
   replace h:=bF hc10 h
   refine sw_exit ?_
   obtain rfl:=sm h
   exact ⟨j0,_,j0,[],ce j0 j0<|cn,j0,j5,j0,j1⟩
 ·
  rintro ⟨⟩ rfl
  replace h : kind_word_k2 v1 = some r:=h
  unfold kind_word_k2 at h
  refine ow_intro ?_
  refine rg j0<|u<|mv j0<|u<|sne ti9 j0 j0<|u<|mv j0<|r_and (j:=2) 3 j0 j0 j0 j0 j0 gpn (fun hb19=>g j0 hb19<|mv j0<|g j0 hb19<|lnS ti9 j0 j0<|g j0 hb19<|leq ti3 j0 j0<|r_nil (egA [32,33,34] 3 hb19 j0 j0 j0 j0)) andF<|u<|asg j0<|r_nil ?_
  refine sw_ret ?_
  obtain rfl:=sm h
  exact ⟨_,j0,[],ci j0,j0,j5,j0,j1⟩
 ·
  rintro r' rfl env st hp
  obtain rfl:=sm h
  exact hp
def kind_Class (v1 : List UInt8) : Option (Bool) :=
  (kind_word v1).bind fun v2=>(cond (v2 && (decide (1 < (List.length v1 : Int)))) ((idx v1 0).bind fun v3=>some (kind_great v3)) (some false)).bind fun v4=>some v4
theorem kind_Class_ok (v1 : List UInt8) {r : Bool} (h : kind_Class v1 = some r) : PureC Tryz.prog 158 [sA v1] (bA r):=by
 refine pure_fn Tryz.func158 j0 (by kernel_rfl) j0 j0 ?_
 unfold kind_Class at h
 refine rg j0<|u<|asg j0<|r_nil ?_
 obtain ⟨v2,q1,h⟩:=bs h
 obtain ⟨v4,q5,h⟩:=bs h
 refine rg j0<|u<|mv j0<|u<|pc (kind_word_ok v1 q1) j0 j0 j0<|u<|mv j0<|r_and (j:=2) 3 j0 j0 j0 j0 j0 gpn (fun hb2=>g j0 hb2<|mv j0<|g j0 hb2<|lnS ti9 j0 j0<|g j0 hb2<|gtr ti3 j0 j0<|r_nil (egA [6,7,8] 3 hb2 j0 j0 j0 j0)) andF<|u<|mv j0<|r_and (x:=v4) (j:=7) 3 j0 j0 j0 j0 j0 gpn (fun hb3=>by replace q5:=bT hb3 q5; obtain ⟨v3,q4,q5⟩:=bs q5; obtain rfl:=sm q5; exact g j0 hb3<|mv j0<|g j0 hb3<|ixS ti9 j0 j0 j0 q4<|g j0 hb3<|pc (kind_great_ok v3 j0) j0 j0 j0<|r_nil (eg [11,12,13] 3 j0 j0 j0 j0)) (fun hb=>(sm (bF hb q5)).symm)<|u<|asg j0<|r_nil ?_
 refine sw_ret ?_
 obtain rfl:=sm h
 exact ⟨_,j0,[],ci j0,j0,j5,j0,j1⟩
def kind_Name (v1 : List UInt8) : Option (Bool) :=
  (cond (v1 == [36,105,110,105,116]) (some true) ((kind_word v1).bind fun v2=>(cond v2 ((idx v1 0).bind fun v3=>some (kind_small v3)) (some false)).bind fun v4=>some v4)).bind fun v5=>some v5
theorem kind_Name_ok (v1 : List UInt8) {r : Bool} (h : kind_Name v1 = some r) : PureC Tryz.prog 152 [sA v1] (bA r):=by
 refine pure_fn Tryz.func152 j0 (by kernel_rfl) j0 j0 ?_
 unfold kind_Name at h
 refine rg j0<|u<|asg j0<|r_nil ?_
 obtain ⟨v5,q6,h⟩:=bs h
 refine rg j0<|u<|mv j0<|u<|seq ti9 j0 j0<|u<|mv j0<|r_or (x:=v5) (j:=2) 7 j0 j0 j0 j0 j0 gpn (fun hb1=>by replace q6:=bF hb1 q6; obtain ⟨v2,q2,q6⟩:=bs q6; obtain ⟨v4,q5,q6⟩:=bs q6; obtain rfl:=sm q6; exact g j0 hb1<|mv j0<|g j0 hb1<|pc (kind_word_ok v1 q2) j0 j0 j0<|g j0 hb1<|mv j0<|r_and (x:=v4) (j:=5) 3 j0 j0 j0 j0 j0 (gps j0 j0 hb1) (fun hb3=>by replace q5:=bT hb3 q5; obtain ⟨v3,q4,q5⟩:=bs q5; obtain rfl:=sm q5; exact g j0 hb3<|mv j0<|g j0 hb3<|ixS ti9 j0 j0 j0 q4<|g j0 hb3<|pc (kind_small_ok v3 j0) j0 j0 j0<|r_nil (eg [9,10,11] 3 j0 j0 j0 j0)) (fun hb=>(sm (bF hb q5)).symm)<|r_nil (eg [6,7,8,9,10,11,12] 4 j0 j0 j0 j0)) (fun hb=>(sm (bT hb q6)).symm)<|u<|asg j0<|r_nil ?_
 refine sw_ret ?_
 obtain rfl:=sm h
 exact ⟨_,j0,[],ci j0,j0,j5,j0,j1⟩
def internal_stringslite_HasPrefix (v1 : List UInt8) (v2 : List UInt8) : Option (Bool) :=
  (cond (decide ((List.length v2 : Int) ≤ (List.length v1 : Int))) ((cutP v1 0 (List.length v2 : Int)).bind fun v3=>some (v3 == v2)) (some false)).bind fun v4=>some v4
theorem internal_stringslite_HasPrefix_ok (v1 : List UInt8) (v2 : List UInt8) {r : Bool} (h : internal_stringslite_HasPrefix v1 v2 = some r) : PureC Tryz.prog 168 [sA v1,sA v2] (bA r):=by
 refine pure_fn Tryz.func168 j0 (by kernel_rfl) j0 j0 ?_
 unfold internal_stringslite_HasPrefix at h
 refine rg j0<|u<|asg j0<|r_nil ?_
 obtain ⟨v4,q3,h⟩:=bs h
 refine rg j0<|u<|mv j0<|u<|lnS ti9 j0 j0<|u<|mv j0<|u<|lnS ti9 j0 j0<|u<|geq ti3 j0 j0<|u<|mv j0<|r_and (x:=v4) (j:=5) 6 j0 j0 j0 j0 j0 gpn (fun hb1=>by replace q3:=bT hb1 q3; obtain ⟨v3,q2,q3⟩:=bs q3; obtain rfl:=sm q3; exact g j0 hb1<|mv j0<|g j0 hb1<|mv j0<|g j0 hb1<|lnS ti9 j0 j0<|g j0 hb1<|slS (a:=0) (b:=(List.length v2 : Int)) ti9 j0 j0 j0 (bnd_hi j0 q2) q2<|g j0 hb1<|mv j0<|g j0 hb1<|seq ti9 j0 j0<|r_nil (eg [11,12,13,14,15,16] 6 j0 j0 j0 j0)) (fun hb=>(sm (bF hb q3)).symm)<|u<|asg j0<|r_nil ?_
 refine sw_ret ?_
 obtain rfl:=sm h
 exact ⟨_,j0,[],ci j0,j0,j5,j0,j1⟩
def internal_stringslite_TrimPrefix (v1 : List UInt8) (v2 : List UInt8) : Option ((List UInt8)) :=
  (internal_stringslite_HasPrefix v1 v2).bind fun v3=>cond v3 ((cutP v1 (List.length v2 : Int) (List.length v1 : Int)).bind fun v4=>some v4) (some v1)
theorem internal_stringslite_TrimPrefix_ok (v1 : List UInt8) (v2 : List UInt8) {r : (List UInt8)} (h : internal_stringslite_TrimPrefix v1 v2 = some r) : PureC Tryz.prog 323 [sA v1,sA v2] (sA r):=by
 refine pure_fn Tryz.func323 j0 (by kernel_rfl) j0 j0 ?_
 unfold internal_stringslite_TrimPrefix at h
 refine rg j0<|u<|asg j0<|r_nil ?_
 refine sw_seq ?_
 obtain ⟨v3,q1,h⟩:=bs h
 refine rg j0<|u<|mv j0<|u<|mv j0<|u<|pc (internal_stringslite_HasPrefix_ok v1 v2 q1) j0 j0 j0<|r_nil ?_
 refine sw_cond j0 (fun hc2=>?_) (fun hc2=>?_)
 ·
  replace h:=bT hc2 h
  obtain ⟨v4,q3,h⟩:=bs h
  refine rg j0<|u<|mv j0<|u<|mv j0<|u<|lnS ti9 j0 j0<|u<|slS (a:=(List.length v2 : Int)) (b:=(List.length v1 : Int)) ti9 j0 j0 (bnd_lo j0 q3) j0 q3<|u<|asg j0<|r_nil ?_
  refine sw_ret ?_
  obtain rfl:=sm h
  exact ⟨_,j0,[],ci j0,j0,j5,j0,j1⟩
 ·
  replace h:=bF hc2 h
  refine sw_skip ?_
  refine rg j0<|u<|mv j0<|u<|asg j0<|r_nil ?_
  refine sw_ret ?_
  obtain rfl:=sm h
  exact ⟨_,j0,[],ci j0,j0,j5,j0,j1⟩
def strings_TrimPrefix (v1 : List UInt8) (v2 : List UInt8) : Option ((List UInt8)) :=
  (internal_stringslite_TrimPrefix v1 v2).bind fun v3=>some v3
theorem strings_TrimPrefix_ok (v1 : List UInt8) (v2 : List UInt8) {r : (List UInt8)} (h : strings_TrimPrefix v1 v2 = some r) : PureC Tryz.prog 238 [sA v1,sA v2] (sA r):=by
 refine pure_fn Tryz.func238 j0 (by kernel_rfl) j0 j0 ?_
 unfold strings_TrimPrefix at h
 refine rg j0<|u<|asg j0<|r_nil ?_
 obtain ⟨v3,q1,h⟩:=bs h
 refine rg j0<|u<|mv j0<|u<|mv j0<|u<|pc (internal_stringslite_TrimPrefix_ok v1 v2 q1) j0 j0 j0<|u<|asg j0<|r_nil ?_
 refine sw_ret ?_
 obtain rfl:=sm h
 exact ⟨_,j0,[],ci j0,j0,j5,j0,j1⟩
def kind_May (v1 : List UInt8) : Option (Bool) :=
  (strings_TrimPrefix v1 [91]).bind fun v2=>(strings_TrimPrefix v2 [91]).bind fun v3=>(cond (v3 == [73]) (some true) ((kind_Class v3).bind fun v4=>some v4)).bind fun v5=>some v5
theorem kind_May_ok (v1 : List UInt8) {r : Bool} (h : kind_May v1 = some r) : PureC Tryz.prog 153 [sA v1] (bA r):=by
 refine pure_fn Tryz.func153 j0 (by kernel_rfl) j0 j0 ?_
 unfold kind_May at h
 refine rg j0<|u<|asg j0<|r_nil ?_
 obtain ⟨v2,q1,h⟩:=bs h
 obtain ⟨v3,q2,h⟩:=bs h
 refine rg j0<|u<|mv j0<|u<|pc (strings_TrimPrefix_ok v1 [91] q1) j0 j0 j0<|u<|pc (strings_TrimPrefix_ok v2 [91] q2) j0 j0 j0<|u<|asg j0<|r_nil ?_
 obtain ⟨v5,q5,h⟩:=bs h
 refine rg j0<|u<|mv j0<|u<|seq ti9 j0 j0<|u<|mv j0<|r_or (x:=v5) (j:=2) 2 j0 j0 j0 j0 j0 gpn (fun hb3=>by replace q5:=bF hb3 q5; obtain ⟨v4,q4,q5⟩:=bs q5; obtain rfl:=sm q5; exact g j0 hb3<|mv j0<|g j0 hb3<|pc (kind_Class_ok v3 q4) j0 j0 j0<|r_nil (eg [9,10] 2 j0 j0 j0 j0)) (fun hb=>(sm (bT hb q5)).symm)<|u<|asg j0<|r_nil ?_
 refine sw_ret ?_
 obtain rfl:=sm h
 exact ⟨_,j0,[],ci j0,j0,j5,j0,j1⟩
def kind_Ref (v1 : List UInt8) : Option (Bool) :=
  (cond (!(v1 == [73])) ((kind_May v1).bind fun v2=>some v2) (some false)).bind fun v3=>some v3
theorem kind_Ref_ok (v1 : List UInt8) {r : Bool} (h : kind_Ref v1 = some r) : PureC Tryz.prog 107 [sA v1] (bA r):=by
 refine pure_fn Tryz.func107 j0 (by kernel_rfl) j0 j0 ?_
 unfold kind_Ref at h
 refine rg j0<|u<|asg j0<|r_nil ?_
 obtain ⟨v3,q3,h⟩:=bs h
 refine rg j0<|u<|mv j0<|u<|sne ti9 j0 j0<|u<|mv j0<|r_and (x:=v3) (j:=2) 2 j0 j0 j0 j0 j0 gpn (fun hb1=>by replace q3:=bT hb1 q3; obtain ⟨v2,q2,q3⟩:=bs q3; obtain rfl:=sm q3; exact g j0 hb1<|mv j0<|g j0 hb1<|pc (kind_May_ok v1 q2) j0 j0 j0<|r_nil (eg [6,7] 2 j0 j0 j0 j0)) (fun hb=>(sm (bF hb q3)).symm)<|u<|asg j0<|r_nil ?_
 refine sw_ret ?_
 obtain rfl:=sm h
 exact ⟨_,j0,[],ci j0,j0,j5,j0,j1⟩
def op_between (v1 : Int) (v2 : Int) (v3 : Int) : Bool :=
  ((decide (v2 ≤ v1)) && (decide (v1 ≤ v3)))
theorem op_between_ok (v1 : Int) (v2 : Int) (v3 : Int) {r : Bool} (h : op_between v1 v2 v3 = r) : PureC Tryz.prog 288 [iA v1,iA v2,iA v3] (bA r):=by
 refine pure_fn Tryz.func288 j0 (by kernel_rfl) j0 j0 ?_
 unfold op_between at h
 refine rg j0<|u<|asg j0<|r_nil ?_
 refine rg j0<|u<|mv j0<|u<|mv j0<|u<|geq ti3 j0 j0<|u<|mv j0<|r_and (j:=3) 3 j0 j0 j0 j0 j0 gpn (fun hb1=>g j0 hb1<|mv j0<|g j0 hb1<|mv j0<|g j0 hb1<|leq ti3 j0 j0<|r_nil (egA [11,12,13] 3 hb1 j0 j0 j0 j0)) andF<|u<|asg j0<|r_nil ?_
 refine sw_ret ?_
 obtain rfl:=h
 exact ⟨_,j0,[],ci j0,j0,j5,j0,j1⟩
def op_known (v1 : Int) : Bool :=
  (op_between v1 1 61)
theorem op_known_ok (v1 : Int) {r : Bool} (h : op_known v1 = r) : PureC Tryz.prog 360 [iA v1] (bA r):=by
 refine pure_fn Tryz.func360 j0 (by kernel_rfl) j0 j0 ?_
 unfold op_known at h
 refine rg j0<|u<|asg j0<|r_nil ?_
 refine rg j0<|u<|mv j0<|u<|pc (op_between_ok v1 1 61 j0) j0 j0 j0<|u<|asg j0<|r_nil ?_
 refine sw_ret ?_
 obtain rfl:=h
 exact ⟨_,j0,[],ci j0,j0,j5,j0,j1⟩
def op_Jumps (v1 : Int) : Bool :=
  (op_between v1 20 36)
theorem op_Jumps_ok (v1 : Int) {r : Bool} (h : op_Jumps v1 = r) : PureC Tryz.prog 201 [iA v1] (bA r):=by
 refine pure_fn Tryz.func201 j0 (by kernel_rfl) j0 j0 ?_
 unfold op_Jumps at h
 refine rg j0<|u<|asg j0<|r_nil ?_
 refine rg j0<|u<|mv j0<|u<|pc (op_between_ok v1 20 36 j0) j0 j0 j0<|u<|asg j0<|r_nil ?_
 refine sw_ret ?_
 obtain rfl:=h
 exact ⟨_,j0,[],ci j0,j0,j5,j0,j1⟩
def op_mayA (v1 : Int) (v2 : Int) : Bool :=
  cond (v1 == (1 : Int)) ((op_between v2 (-2147483648) 2147483647)) (cond ((v1 == (3 : Int)) || (v1 == (4 : Int))) ((op_between v2 0 15)) (cond (op_Jumps v1) ((op_between v2 0 99)) ((v2 == (0 : Int)))))
theorem op_mayA_ok (v1 : Int) (v2 : Int) {r : Bool} (h : op_mayA v1 v2 = r) : PureC Tryz.prog 361 [iA v1,iA v2] (bA r):=by
 refine pure_fn Tryz.func361 j0 (by kernel_rfl) j0 j0 ?_
 unfold op_mayA at h
 refine rg j0<|u<|asg j0<|r_nil ?_
 refine sw_seq ?_
 refine sw_block ?_
 refine rg j0<|u<|mv j0<|u<|eql ti3 j0 j0<|u<|asg j0<|r_nil ?_
 refine sw_cond j0 (fun hc1=>?_) (fun hc1=>?_)
 ·
  replace h:=bT hc1 h
  refine rg j0<|u<|mv j0<|u<|pc (op_between_ok v2 (-2147483648) 2147483647 j0) j0 j0 j0<|u<|asg j0<|r_nil ?_
  refine sw_ret ?_
  obtain rfl:=h
  exact ⟨_,j0,[],ci j0,j0,j5,j0,j1⟩
 ·
  replace h:=bF hc1 h
  refine rg j0<|u<|mv j0<|u<|eql ti3 j0 j0<|u<|mv j0<|r_or (j:=2) 2 j0 j0 j0 j0 j0 gpn (fun hb2=>g j0 hb2<|mv j0<|g j0 hb2<|eql ti3 j0 j0<|r_nil (egO [14,15] 2 hb2 j0 j0 j0 j0)) orT<|u<|asg j0<|r_nil ?_
  refine sw_cond j0 (fun hc3=>?_) (fun hc3=>?_)
  ·
   replace h:=bT hc3 h
   refine rg j0<|u<|mv j0<|u<|pc (op_between_ok v2 0 15 j0) j0 j0 j0<|u<|asg j0<|r_nil ?_
   refine sw_ret ?_
   obtain rfl:=h
   exact ⟨_,j0,[],ci j0,j0,j5,j0,j1⟩
  ·
   replace h:=bF hc3 h
   refine rg j0<|u<|mv j0<|u<|pc (op_Jumps_ok v1 j0) j0 j0 j0<|u<|asg j0<|r_nil ?_
   refine sw_cond j0 (fun hc4=>?_) (fun hc4=>?_)
   ·
    replace h:=bT hc4 h
    refine rg j0<|u<|mv j0<|u<|pc (op_between_ok v2 0 99 j0) j0 j0 j0<|u<|asg j0<|r_nil ?_
    refine sw_ret ?_
    obtain rfl:=h
    exact ⟨_,j0,[],ci j0,j0,j5,j0,j1⟩
   ·
    replace h:=bF hc4 h
    refine sw_skip ?_
    refine rg j0<|u<|mv j0<|u<|eql ti3 j0 j0<|u<|asg j0<|r_nil ?_
    refine sw_ret ?_
    obtain rfl:=h
    exact ⟨_,j0,[],ci j0,j0,j5,j0,j1⟩
def op_typed (v1 : Int) : Bool :=
  (((v1 == (50 : Int)) || (v1 == (56 : Int))) || (v1 == (57 : Int)))
theorem op_typed_ok (v1 : Int) {r : Bool} (h : op_typed v1 = r) : PureC Tryz.prog 380 [iA v1] (bA r):=by
 refine pure_fn Tryz.func380 j0 (by kernel_rfl) j0 j0 ?_
 unfold op_typed at h
 refine rg j0<|u<|asg j0<|r_nil ?_
 refine rg j0<|u<|mv j0<|u<|eql ti3 j0 j0<|u<|mv j0<|r_or (j:=2) 2 j0 j0 j0 j0 j0 gpn (fun hb1=>g j0 hb1<|mv j0<|g j0 hb1<|eql ti3 j0 j0<|r_nil (egO [6,7] 2 hb1 j0 j0 j0 j0)) orT<|u<|mv j0<|r_or (j:=6) 2 j0 j0 j0 j0 j0 gpn (fun hb2=>g j0 hb2<|mv j0<|g j0 hb2<|eql ti3 j0 j0<|r_nil (egO [10,11] 2 hb2 j0 j0 j0 j0)) orT<|u<|asg j0<|r_nil ?_
 refine sw_ret ?_
 obtain rfl:=h
 exact ⟨_,j0,[],ci j0,j0,j5,j0,j1⟩
def op_m (v1 : Int) : Bool :=
  (op_between v1 38 45)
theorem op_m_ok (v1 : Int) {r : Bool} (h : op_m v1 = r) : PureC Tryz.prog 373 [iA v1] (bA r):=by
 refine pure_fn Tryz.func373 j0 (by kernel_rfl) j0 j0 ?_
 unfold op_m at h
 refine rg j0<|u<|asg j0<|r_nil ?_
 refine rg j0<|u<|mv j0<|u<|pc (op_between_ok v1 38 45 j0) j0 j0 j0<|u<|asg j0<|r_nil ?_
 refine sw_ret ?_
 obtain rfl:=h
 exact ⟨_,j0,[],ci j0,j0,j5,j0,j1⟩
def op_c (v1 : Int) : Bool :=
  (((v1 == (37 : Int)) || (op_m v1)) || (op_typed v1))
theorem op_c_ok (v1 : Int) {r : Bool} (h : op_c v1 = r) : PureC Tryz.prog 372 [iA v1] (bA r):=by
 refine pure_fn Tryz.func372 j0 (by kernel_rfl) j0 j0 ?_
 unfold op_c at h
 refine rg j0<|u<|asg j0<|r_nil ?_
 refine rg j0<|u<|mv j0<|u<|eql ti3 j0 j0<|u<|mv j0<|r_or (j:=2) 2 j0 j0 j0 j0 j0 gpn (fun hb1=>g j0 hb1<|mv j0<|g j0 hb1<|pc (op_m_ok v1 j0) j0 j0 j0<|r_nil (egO [6,7] 2 hb1 j0 j0 j0 j0)) orT<|u<|mv j0<|r_or (j:=6) 2 j0 j0 j0 j0 j0 gpn (fun hb2=>g j0 hb2<|mv j0<|g j0 hb2<|pc (op_typed_ok v1 j0) j0 j0 j0<|r_nil (egO [10,11] 2 hb2 j0 j0 j0 j0)) orT<|u<|asg j0<|r_nil ?_
 refine sw_ret ?_
 obtain rfl:=h
 exact ⟨_,j0,[],ci j0,j0,j5,j0,j1⟩
def op_mayC (v1 : Int) (v2 : List UInt8) : Option (Bool) :=
  cond (op_typed v1) ((kind_Ref v2).bind fun v3=>some v3) (cond (op_c v1) ((kind_Class v2).bind fun v4=>some v4) (some (v2 == [])))
theorem op_mayC_ok (v1 : Int) (v2 : List UInt8) {r : Bool} (h : op_mayC v1 v2 = some r) : PureC Tryz.prog 362 [iA v1,sA v2] (bA r):=by
 refine pure_fn Tryz.func362 j0 (by kernel_rfl) j0 j0 ?_
 unfold op_mayC at h
 refine rg j0<|u<|asg j0<|r_nil ?_
 refine sw_seq ?_
 refine sw_block ?_
 refine rg j0<|u<|mv j0<|u<|pc (op_typed_ok v1 j0) j0 j0 j0<|u<|asg j0<|r_nil ?_
 refine sw_cond j0 (fun hc1=>?_) (fun hc1=>?_)
 ·
  replace h:=bT hc1 h
  obtain ⟨v3,q2,h⟩:=bs h
  refine rg j0<|u<|mv j0<|u<|pc (kind_Ref_ok v2 q2) j0 j0 j0<|u<|asg j0<|r_nil ?_
  refine sw_ret ?_
  obtain rfl:=sm h
  exact ⟨_,j0,[],ci j0,j0,j5,j0,j1⟩
 ·
  replace h:=bF hc1 h
  refine rg j0<|u<|mv j0<|u<|pc (op_c_ok v1 j0) j0 j0 j0<|u<|asg j0<|r_nil ?_
  refine sw_cond j0 (fun hc3=>?_) (fun hc3=>?_)
  ·
   replace h:=bT hc3 h
   obtain ⟨v4,q4,h⟩:=bs h
   refine rg j0<|u<|mv j0<|u<|pc (kind_Class_ok v2 q4) j0 j0 j0<|u<|asg j0<|r_nil ?_
   refine sw_ret ?_
   obtain rfl:=sm h
   exact ⟨_,j0,[],ci j0,j0,j5,j0,j1⟩
  ·
   replace h:=bF hc3 h
   refine sw_skip ?_
   refine rg j0<|u<|mv j0<|u<|seq ti9 j0 j0<|u<|asg j0<|r_nil ?_
   refine sw_ret ?_
   obtain rfl:=sm h
   exact ⟨_,j0,[],ci j0,j0,j5,j0,j1⟩
def op_mayM (v1 : Int) (v2 : List UInt8) : Option (Bool) :=
  cond (op_m v1) ((kind_Name v2).bind fun v3=>some (v3 && (!(v2 == [36,105,110,105,116])))) (some (v2 == []))
theorem op_mayM_ok (v1 : Int) (v2 : List UInt8) {r : Bool} (h : op_mayM v1 v2 = some r) : PureC Tryz.prog 363 [iA v1,sA v2] (bA r):=by
 refine pure_fn Tryz.func363 j0 (by kernel_rfl) j0 j0 ?_
 unfold op_mayM at h
 refine rg j0<|u<|asg j0<|r_nil ?_
 refine sw_seq ?_
 refine rg j0<|u<|mv j0<|u<|pc (op_m_ok v1 j0) j0 j0 j0<|r_nil ?_
 refine sw_cond j0 (fun hc1=>?_) (fun hc1=>?_)
 ·
  replace h:=bT hc1 h
  obtain ⟨v3,q2,h⟩:=bs h
  refine rg j0<|u<|mv j0<|u<|pc (kind_Name_ok v2 q2) j0 j0 j0<|u<|mv j0<|r_and (j:=2) 2 j0 j0 j0 j0 j0 gpn (fun hb3=>g j0 hb3<|mv j0<|g j0 hb3<|sne ti9 j0 j0<|r_nil (egA [10,11] 2 hb3 j0 j0 j0 j0)) andF<|u<|asg j0<|r_nil ?_
  refine sw_ret ?_
  obtain rfl:=sm h
  exact ⟨_,j0,[],ci j0,j0,j5,j0,j1⟩
 ·
  replace h:=bF hc1 h
  refine sw_skip ?_
  refine rg j0<|u<|mv j0<|u<|seq ti9 j0 j0<|u<|asg j0<|r_nil ?_
  refine sw_ret ?_
  obtain rfl:=sm h
  exact ⟨_,j0,[],ci j0,j0,j5,j0,j1⟩
def op_May (v1 : ApiIns) : Option (Bool) :=
  (cond ((op_known v1.Op) && (op_mayA v1.Op v1.A)) ((op_mayC v1.Op v1.C).bind fun v2=>some v2) (some false)).bind fun v3=>(cond v3 ((op_mayM v1.Op v1.M).bind fun v4=>some v4) (some false)).bind fun v5=>some v5
theorem op_May_ok (v1 : ApiIns) {r : Bool} (h : op_May v1 = some r) : PureC Tryz.prog 326 [.agg (rApiIns v1)] (bA r):=by
 refine pure_fn Tryz.func326 j0 (by kernel_rfl) j0 j0 ?_
 unfold op_May at h
 refine rg j0<|u<|bx 0 4 j0 j0 j0 j0<|u<|asg j0<|r_nil ?_
 obtain ⟨v3,q4,h⟩:=bs h
 obtain ⟨v5,q7,h⟩:=bs h
 refine rg j0<|u<|fa ti40 j0 j0 j0<|u<|ld ti3 j0 j0<|u<|pc (op_known_ok v1.Op j0) j0 j0 j0<|u<|mv j0<|r_and (j:=3) 5 j0 j0 j0 j0 j0 gpn (fun hb1=>g j0 hb1<|fa ti40 j0 j0 j0<|g j0 hb1<|ld ti3 j0 j0<|g j0 hb1<|fa ti40 j0 j0 j0<|g j0 hb1<|ld ti3 j0 j0<|g j0 hb1<|pc (op_mayA_ok v1.Op v1.A j0) j0 j0 j0<|r_nil (egA [7,8,9,10,11] 5 hb1 j0 j0 j0 j0)) andF<|u<|mv j0<|r_and (x:=v3) (j:=10) 5 j0 j0 j0 j0 j0 gpn (fun hb2=>by replace q4:=bT hb2 q4; obtain ⟨v2,q3,q4⟩:=bs q4; obtain rfl:=sm q4; exact g j0 hb2<|fa ti40 j0 j0 j0<|g j0 hb2<|ld ti3 j0 j0<|g j0 hb2<|fa ti40 j0 j0 j0<|g j0 hb2<|ld ti9 j0 j0<|g j0 hb2<|pc (op_mayC_ok v1.Op v1.C q3) j0 j0 j0<|r_nil (eg [14,15,16,17,18] 5 j0 j0 j0 j0)) (fun hb=>(sm (bF hb q4)).symm)<|u<|mv j0<|r_and (x:=v5) (j:=17) 5 j0 j0 j0 j0 j0 gpn (fun hb5=>by replace q7:=bT hb5 q7; obtain ⟨v4,q6,q7⟩:=bs q7; obtain rfl:=sm q7; exact g j0 hb5<|fa ti40 j0 j0 j0<|g j0 hb5<|ld ti3 j0 j0<|g j0 hb5<|fa ti40 j0 j0 j0<|g j0 hb5<|ld ti9 j0 j0<|g j0 hb5<|pc (op_mayM_ok v1.Op v1.M q6) j0 j0 j0<|r_nil (eg [21,22,23,24,25] 5 j0 j0 j0 j0)) (fun hb=>(sm (bF hb q7)).symm)<|u<|asg j0<|r_nil ?_
 refine sw_ret ?_
 obtain rfl:=sm h
 exact ⟨_,j0,[],ci j0,j0,j5,j0,j1⟩
def op_Ends_j1 (v2 : Bool) : Bool :=
  cond v2 (true) (false)
def op_Ends (v1 : Int) : Bool :=
  cond (v1 == (20 : Int)) (op_Ends_j1 (v1 == (20 : Int))) (cond (v1 == (46 : Int)) (op_Ends_j1 (v1 == (46 : Int))) (cond (v1 == (47 : Int)) (op_Ends_j1 (v1 == (47 : Int))) (cond (v1 == (48 : Int)) (op_Ends_j1 (v1 == (48 : Int))) (cond (v1 == (58 : Int)) (op_Ends_j1 (v1 == (58 : Int))) (op_Ends_j1 (v1 == (61 : Int)))))))
theorem op_Ends_ok (v1 : Int) {r : Bool} (h : op_Ends v1 = r) : PureC Tryz.prog 203 [iA v1] (bA r):=by
 refine pure_fn Tryz.func203 j0 (by kernel_rfl) j0 j0 ?_
 unfold op_Ends at h
 refine rg j0<|u<|asg j0<|r_nil ?_
 refine sw_seq ?_
 refine rg j0<|u<|mv j0<|r_nil ?_
 refine sw_block ?_
 refine sw_meet (X:=Bool) (fun z=>[(4,bA z)]) (fun z=>[]) (fun z=>op_Ends_j1 z = r) ?_ ?_
 ·
  refine rg j0<|u<|eql ti3 j0 j0<|u<|asg j0<|r_nil ?_
  refine sw_cond j0 (fun hc1=>?_) (fun hc1=>?_)
  ·
   replace h:=bT hc1 h
   refine sw_skip ?_
   exact ⟨(v1 == (20 : Int)),h,[],ce j0 j0<|cn,j0,j5,j0,j1⟩
  ·
   replace h:=bF hc1 h
   refine rg j0<|u<|eql ti3 j0 j0<|u<|asg j0<|r_nil ?_
   refine sw_cond j0 (fun hc2=>?_) (fun hc2=>?_)
   ·
    replace h:=bT hc2 h
    refine sw_skip ?_
    exact ⟨(v1 == (46 : Int)),h,[],ce j0 j0<|cn,j0,j5,j0,j1⟩
   ·
    replace h:=bF hc2 h
    refine rg j0<|u<|eql ti3 j0 j0<|u<|asg j0<|r_nil ?_
    refine sw_cond j0 (fun hc3=>?_) (fun hc3=>?_)
    ·
     replace h:=bT hc3 h
     refine sw_skip ?_
     exact ⟨(v1 == (47 : Int)),h,[],ce j0 j0<|cn,j0,j5,j0,j1⟩
    ·
     replace h:=bF hc3 h
     refine rg j0<|u<|eql ti3 j0 j0<|u<|asg j0<|r_nil ?_
     refine sw_cond j0 (fun hc4=>?_) (fun hc4=>?_)
     ·
      replace h:=bT hc4 h
      refine sw_skip ?_
      exact ⟨(v1 == (48 : Int)),h,[],ce j0 j0<|cn,j0,j5,j0,j1⟩
     ·
      replace h:=bF hc4 h
      refine rg j0<|u<|eql ti3 j0 j0<|u<|asg j0<|r_nil ?_
      refine sw_cond j0 (fun hc5=>?_) (fun hc5=>?_)
      ·
       replace h:=bT hc5 h
       refine sw_skip ?_
       exact ⟨(v1 == (58 : Int)),h,[],ce j0 j0<|cn,j0,j5,j0,j1⟩
      ·
       replace h:=bF hc5 h
       exact rl j0<|u<|eql ti3 j0 j0<|u<|asg j0<|r_nil (⟨(v1 == (61 : Int)),h,[],ce j0 j0<|cn,j0,j5,j0,j1⟩)
 ·
  rintro v2 h
  replace h : op_Ends_j1 v2 = r:=h
  unfold op_Ends_j1 at h
  refine sw_cond j0 (fun hc6=>?_) (fun hc6=>?_)
  ·
   replace h:=bT hc6 h
   refine rg j0<|u<|asg j0<|r_nil ?_
   refine sw_ret ?_
   obtain rfl:=h
   exact ⟨_,j0,[],ci j0,j0,j5,j0,j1⟩
  ·
   replace h:=bF hc6 h
   refine sw_skip ?_
   refine rg j0<|u<|asg j0<|r_nil ?_
   refine sw_ret ?_
   obtain rfl:=h
   exact ⟨_,j0,[],ci j0,j0,j5,j0,j1⟩
end
end Go.Proofs.YthmnlfenkhmmhaaGreat
namespace Go.Proofs.YthmnlfenkhmmhaaGreat
noncomputable section
set_option linter.unusedSimpArgs false
set_option linter.unusedVariables false
set_option maxRecDepth 100000
set_option maxHeartbeats 4000000
structure ApiField where
  Name : List UInt8
  Type_ : List UInt8
  Static : Bool
def rApiField (x : ApiField) : List AV:=[sA x.Name,sA x.Type_,bA x.Static]
structure ApiMap where
  At : Int
  Locals : List (List UInt8)
  Stack : List (List UInt8)
def rApiMap (x : ApiMap) : List AV:=[iA x.At,.isl 1 (List.map rStr x.Locals),.isl 1 (List.map rStr x.Stack)]
structure ApiTrap where
  From : Int
  To : Int
  At : Int
  C : List UInt8
def rApiTrap (x : ApiTrap) : List AV:=[iA x.From,iA x.To,iA x.At,sA x.C]
structure ApiMethod where
  Name : List UInt8
  Params : List (List UInt8)
  Ret : List UInt8
  Static : Bool
  Abstract : Bool
  Locals : Int
  Stack : Int
  Code : List ApiIns
  Maps : List ApiMap
  Traps : List ApiTrap
def rApiMethod (x : ApiMethod) : List AV:=[sA x.Name,.isl 1 (List.map rStr x.Params),sA x.Ret,bA x.Static,bA x.Abstract,iA x.Locals,iA x.Stack,.isl 4 (List.map rApiIns x.Code),.isl 3 (List.map rApiMap x.Maps),.isl 4 (List.map rApiTrap x.Traps)]
structure ApiClass where
  Name : List UInt8
  Super : List UInt8
  Interface : Bool
  Impl : List (List UInt8)
  Fields : List ApiField
  Methods : List ApiMethod
def rApiClass (x : ApiClass) : List AV:=[sA x.Name,sA x.Super,bA x.Interface,.isl 1 (List.map rStr x.Impl),.isl 3 (List.map rApiField x.Fields),.isl 10 (List.map rApiMethod x.Methods)]
def class_May_2 (v1 : ApiField) : Option (Bool) :=
  (kind_Name v1.Name).bind fun v2=>(cond (v2 && (!(v1.Name == [36,105,110,105,116]))) ((kind_May v1.Type_).bind fun v3=>some v3) (some false)).bind fun v4=>some v4
theorem class_May_2_ok (v1 : ApiField) {r : Bool} (h : class_May_2 v1 = some r) : PureC Tryz.prog 151 [.agg (rApiField v1)] (bA r):=by
 refine pure_fn Tryz.func151 j0 (by kernel_rfl) j0 j0 ?_
 unfold class_May_2 at h
 refine rg j0<|u<|bx 0 3 j0 j0 j0 j0<|u<|asg j0<|r_nil ?_
 obtain ⟨v2,q1,h⟩:=bs h
 obtain ⟨v4,q5,h⟩:=bs h
 refine rg j0<|u<|fa ti42 j0 j0 j0<|u<|ld ti9 j0 j0<|u<|pc (kind_Name_ok v1.Name q1) j0 j0 j0<|u<|mv j0<|r_and (j:=3) 3 j0 j0 j0 j0 j0 gpn (fun hb2=>g j0 hb2<|fa ti42 j0 j0 j0<|g j0 hb2<|ld ti9 j0 j0<|g j0 hb2<|sne ti9 j0 j0<|r_nil (egA [7,8,9] 3 hb2 j0 j0 j0 j0)) andF<|u<|mv j0<|r_and (x:=v4) (j:=8) 3 j0 j0 j0 j0 j0 gpn (fun hb3=>by replace q5:=bT hb3 q5; obtain ⟨v3,q4,q5⟩:=bs q5; obtain rfl:=sm q5; exact g j0 hb3<|fa ti42 j0 j0 j0<|g j0 hb3<|ld ti9 j0 j0<|g j0 hb3<|pc (kind_May_ok v1.Type_ q4) j0 j0 j0<|r_nil (eg [12,13,14] 3 j0 j0 j0 j0)) (fun hb=>(sm (bF hb q5)).symm)<|u<|asg j0<|r_nil ?_
 refine sw_ret ?_
 obtain rfl:=sm h
 exact ⟨_,j0,[],ci j0,j0,j5,j0,j1⟩
def class_May_1 (v1 : ApiField) : (List UInt8) :=
  v1.Name
theorem class_May_1_ok (v1 : ApiField) {r : (List UInt8)} (h : class_May_1 v1 = r) : PureC Tryz.prog 150 [.agg (rApiField v1)] (sA r):=by
 refine pure_fn Tryz.func150 j0 (by kernel_rfl) j0 j0 ?_
 unfold class_May_1 at h
 refine rg j0<|u<|bx 0 3 j0 j0 j0 j0<|u<|asg j0<|r_nil ?_
 refine rg j0<|u<|fa ti42 j0 j0 j0<|u<|ld ti9 j0 j0<|u<|asg j0<|r_nil ?_
 refine sw_ret ?_
 obtain rfl:=h
 exact ⟨_,j0,[],ci j0,j0,j5,j0,j1⟩
def class_all_api_Field_1 (v1 : ApiField) (v2 : List UInt8) (v3 : List UInt8) (v4 : Bool) : Bool :=
  ((class_May_1 (ApiField.mk v2 v3 v4)) == (class_May_1 v1))
theorem class_all_api_Field_1_ok (v1 : ApiField) (v2 : List UInt8) (v3 : List UInt8) (v4 : Bool) {r : Bool} (h : class_all_api_Field_1 v1 v2 v3 v4 = r) : PureC Tryz.prog 235 [.agg (rApiField v1),.ipt 1 [[.fn (.func 150) [] []]] 0 0,.ipt 3 [[sA v2,sA v3,bA v4]] 0 0] (bA r):=by
 refine pure_fn Tryz.func235 j0 (by kernel_rfl) j0 j0 ?_
 unfold class_all_api_Field_1 at h
 refine rg j0<|u<|bx 0 3 j0 j0 j0 j0<|u<|asg j0<|r_nil ?_
 refine rd [(4,bA ((class_May_1 (ApiField.mk v2 v3 v4)) == (class_May_1 v1)))] [] [] [7,6,5,4,3,2,1,0] [(4,bA ((class_May_1 (ApiField.mk v2 v3 v4)) == (class_May_1 v1))),(11,bA ((class_May_1 (ApiField.mk v2 v3 v4)) == (class_May_1 v1))),(10,sA (class_May_1 v1)),(9,.agg (rApiField v1)),(8,.fn (.func 150) [] []),(7,sA (class_May_1 (ApiField.mk v2 v3 v4))),(6,.agg [sA v2,sA v3,bA v4]),(5,.fn (.func 150) [] [])] 0 (by kernel_rfl) (by kernel_rfl) j0 (by kernel_rfl) (dt0 ⟨(fun _=>pa j0 j0 j0 j0 (asg j0<|j4)),(fun _=>pa j0 j0 j0 j0 (seq ti9 j0 j0<|j4)),(fun _=>pa j0 j0 j0 j0 (pc (class_May_1_ok v1 j0) j0 j0 j0<|j4)),(fun _=>pa j0 j0 j0 j0 (ld ti42 j0 j0<|j4)),(fun _=>pa j0 j0 j0 j0 (ld ti198 j0 j0<|j4)),(fun _=>pa j0 j0 j0 j0 (pc (class_May_1_ok (ApiField.mk v2 v3 v4) j0) j0 j0 j0<|j4)),(fun _=>pa j0 j0 j0 j0 (ld ti42 j0 j0<|j4)),(fun _=>pa j0 j0 j0 j0 (ld ti198 j0 j0<|j4)),j5⟩ (by kernel_rfl) j0 ⟨[],ce j0 j0<|cn,j0,j5,j0,j1⟩) ?_
 refine sw_ret ?_
 obtain rfl:=h
 exact ⟨_,j0,[],ci j0,j0,j5,j0,j1⟩
def slices_IndexFunc_api_Field_api_Field_k2 : Option (Int) :=
  some (-1)
def slices_IndexFunc_api_Field_api_Field_l1 (v1 : List ApiField) (v2 : List UInt8) (v3 : List UInt8) (v4 : Bool) (v7 : Int) : Option (Sum (Int) (Sum (Unit) (Int))) :=
  cond (decide (v7 < (List.length v1 : Int))) ((idx v1 v7).bind fun v8=>cond (class_all_api_Field_1 v8 v2 v3 v4) (some (.inr (.inr v7))) (some (.inl (IntKind.i64.wrap (v7 + 1))))) (some (.inr (.inl ())))
def slices_IndexFunc_api_Field_api_Field (v1 : List ApiField) (v2 : List UInt8) (v3 : List UInt8) (v4 : Bool) : Option (Int) :=
  (loopP (fun z=>slices_IndexFunc_api_Field_api_Field_l1 v1 v2 v3 v4 z) 0).bind fun o=>leave o (fun b=>slices_IndexFunc_api_Field_api_Field_k2) some
theorem slices_IndexFunc_api_Field_api_Field_ok (v1 : List ApiField) (v2 : List UInt8) (v3 : List UInt8) (v4 : Bool) {r : Int} (h : slices_IndexFunc_api_Field_api_Field v1 v2 v3 v4 = some r) : PureC Tryz.prog 315 [.isl 3 (List.map rApiField v1),.fn (.func 235) [] [.ipt 1 [[.fn (.func 150) [] []]] 0 0,.ipt 3 [[sA v2,sA v3,bA v4]] 0 0]] (iA r):=by
 refine pure_fn Tryz.func315 j0 (by kernel_rfl) j0 j0 ?_
 unfold slices_IndexFunc_api_Field_api_Field at h
 refine rg j0<|u<|asg j0<|r_nil ?_
 refine sw_seq ?_
 refine rg j0<|u<|mv j0<|u<|lnI ti23 j0 j0<|u<|mv j0<|r_nil ?_
 obtain ⟨o,ho,h⟩:=bs h
 refine sw_lpl (X:=Int) (B:=Unit) (R:=Int) (fun z=>[(0,.isl 3 (List.map rApiField v1)),(1,.fn (.func 235) [] [.ipt 1 [[.fn (.func 150) [] []]] 0 0,.ipt 3 [[sA v2,sA v3,bA v4]] 0 0]),(7,iA (List.length v1 : Int)),(8,iA z)]) (fun z=>[]) (fun b=>[]) (fun b=>[]) (fun r env st=>PostF Tryz.prog Tryz.f315 0 (iA r) [] env st) ho ⟨[],ce j0 j0<|ce j0 j0<|ce j0 j0<|ce j0 j0<|cn,j0,j5,j0,j1⟩ ?_ ?_ ?_
 ·
  rintro v7 r h
  replace h : slices_IndexFunc_api_Field_api_Field_l1 v1 v2 v3 v4 v7 = some r:=h
  unfold slices_IndexFunc_api_Field_api_Field_l1 at h
  refine rg j0<|u<|lss ti3 j0 j0<|r_nil ?_
  refine sw_seq ?_
  refine sw_cond j0 (fun hc4=>?_) (fun hc4=>?_)
  ·
   replace h:=bT hc4 h
   refine sw_skip ?_
   refine sw_seq ?_
   refine sw_block ?_
   refine rg j0<|u<|mv j0<|u<|asg j0<|r_nil ?_
   obtain ⟨v8,q5,h⟩:=bs h
   refine rg j0<|u<|mv j0<|u<|mv j0<|u<|mv j0<|u<|ixI ti23 j0 ti42 j0 j0 j0 q5<|u<|ldI ti42 j0 (idx_some q5).2.2 j0<|u<|pc (class_all_api_Field_1_ok v8 v2 v3 v4 j0) j0 j0 j0<|r_nil ?_
   refine sw_cond j0 (fun hc6=>?_) (fun hc6=>?_)
   ·
    replace h:=bT hc6 h
    refine rg j0<|u<|mv j0<|u<|asg j0<|r_nil ?_
    refine sw_ret ?_
    obtain rfl:=sm h
    exact ⟨_,j0,_,j0,[],ci j0,j0,j5,j0,j1⟩
   ·
    replace h:=bF hc6 h
    refine sw_skip ?_
    refine rl j0<|u<|add ti3 j0 j0<|u<|mv j0<|r_nil ?_
    obtain rfl:=sm h
    exact ⟨_,j0,[],ce j0 j0<|ce j0 j0<|ce j0 j0<|ce j0 j0<|cn,j0,j5,j0,j1⟩
  ·
   replace h:=bF hc4 h
   refine sw_exit ?_
   obtain rfl:=sm h
   exact ⟨j0,_,j0,[],cn,j0,j5,j0,j1⟩
 ·
  rintro ⟨⟩ rfl
  replace h : slices_IndexFunc_api_Field_api_Field_k2 = some r:=h
  unfold slices_IndexFunc_api_Field_api_Field_k2 at h
  refine ow_intro ?_
  refine rg j0<|u<|asg j0<|r_nil ?_
  refine sw_ret ?_
  obtain rfl:=sm h
  exact ⟨_,j0,[],ci j0,j0,j5,j0,j1⟩
 ·
  rintro r' rfl env st hp
  obtain rfl:=sm h
  exact hp
def slices_ContainsFunc_api_Field_api_Field (v1 : List ApiField) (v2 : List UInt8) (v3 : List UInt8) (v4 : Bool) : Option (Bool) :=
  (slices_IndexFunc_api_Field_api_Field v1 v2 v3 v4).bind fun v5=>some (decide (0 ≤ v5))
theorem slices_ContainsFunc_api_Field_api_Field_ok (v1 : List ApiField) (v2 : List UInt8) (v3 : List UInt8) (v4 : Bool) {r : Bool} (h : slices_ContainsFunc_api_Field_api_Field v1 v2 v3 v4 = some r) : PureC Tryz.prog 234 [.isl 3 (List.map rApiField v1),.fn (.func 235) [] [.ipt 1 [[.fn (.func 150) [] []]] 0 0,.ipt 3 [[sA v2,sA v3,bA v4]] 0 0]] (bA r):=by
 refine pure_fn Tryz.func234 j0 (by kernel_rfl) j0 j0 ?_
 unfold slices_ContainsFunc_api_Field_api_Field at h
 refine rg j0<|u<|asg j0<|r_nil ?_
 obtain ⟨v5,q1,h⟩:=bs h
 refine rg j0<|u<|mv j0<|u<|mv j0<|u<|pc (slices_IndexFunc_api_Field_api_Field_ok v1 v2 v3 v4 q1) j0 j0 j0<|u<|geq ti3 j0 j0<|u<|asg j0<|r_nil ?_
 refine sw_ret ?_
 obtain rfl:=sm h
 exact ⟨_,j0,[],ci j0,j0,j5,j0,j1⟩
def class_all_api_Field_k2 (v1 : List ApiField) (v2 : Int) : Option (Bool) :=
  some (decide ((List.length v1 : Int) ≤ v2))
def class_all_api_Field_l1 (v1 : List ApiField) (v9 : Int) : Option (Sum (Int) (Sum (Unit) (Bool))) :=
  cond (decide (v9 < (List.length v1 : Int))) ((idx v1 v9).bind fun v10=>(class_May_2 v10).bind fun v11=>(cond (!v11) (some true) ((cutP v1 0 v9).bind fun v12=>(slices_ContainsFunc_api_Field_api_Field v12 v10.Name v10.Type_ v10.Static).bind fun v13=>some v13)).bind fun v14=>cond v14 (some (.inr (.inr false))) (some (.inl (IntKind.i64.wrap (v9 + 1))))) (some (.inr (.inl ())))
def class_all_api_Field (v1 : List ApiField) (v2 : Int) : Option (Bool) :=
  (loopP (fun z=>class_all_api_Field_l1 v1 z) 0).bind fun o=>leave o (fun b=>class_all_api_Field_k2 v1 v2) some
theorem class_all_api_Field_ok (v1 : List ApiField) (v2 : Int) {r : Bool} (h : class_all_api_Field v1 v2 = some r) : PureC Tryz.prog 149 [.isl 3 (List.map rApiField v1),iA v2,.fn (.func 150) [] [],.fn (.func 151) [] []] (bA r):=by
 refine pure_fn Tryz.func149 j0 (by kernel_rfl) j0 j0 ?_
 unfold class_all_api_Field at h
 refine rg j0<|u<|bx 0 1 j0 j0 j0 j0<|u<|asg j0<|r_nil ?_
 refine sw_seq ?_
 refine rg j0<|u<|mv j0<|u<|lnI ti23 j0 j0<|u<|mv j0<|r_nil ?_
 obtain ⟨o,ho,h⟩:=bs h
 refine sw_lpl (X:=Int) (B:=Unit) (R:=Bool) (fun z=>[(0,.isl 3 (List.map rApiField v1)),(1,iA v2),(3,.fn (.func 151) [] []),(6,.mpt 0 0 0),(11,.isl 3 (List.map rApiField v1)),(12,iA (List.length v1 : Int)),(13,iA z)]) (fun z=>[some (1,[[.fn (.func 150) [] []]])]) (fun b=>[(0,.isl 3 (List.map rApiField v1)),(1,iA v2)]) (fun b=>[]) (fun r env st=>PostF Tryz.prog Tryz.f149 0 (bA r) [] env st) ho ⟨[.old 0],ce j0 j0<|ce j0 j0<|ce j0 j0<|cv j0 (.mpt j0)<|ce j0 j0<|ce j0 j0<|ce j0 j0<|cn,j0,⟨⟨_,j0,rsOne ⟨ci j0,j5⟩⟩,j5⟩,j0,j1⟩ ?_ ?_ ?_
 ·
  rintro v9 r h
  replace h : class_all_api_Field_l1 v1 v9 = some r:=h
  unfold class_all_api_Field_l1 at h
  refine rg j0<|u<|lss ti3 j0 j0<|r_nil ?_
  refine sw_seq ?_
  refine sw_cond j0 (fun hc9=>?_) (fun hc9=>?_)
  ·
   replace h:=bT hc9 h
   refine sw_skip ?_
   refine sw_seq ?_
   refine sw_block ?_
   obtain ⟨v10,q10,h⟩:=bs h
   refine rg j0<|u<|mv j0<|u<|ixI ti23 j0 ti42 j0 j0 j0 q10<|u<|ldI ti42 j0 (idx_some q10).2.2 j0<|u<|al 1 ti42 j0<|u<|asg j0<|u<|sto ti42 j0 j0 j0<|r_nil ?_
   obtain ⟨v11,q11,h⟩:=bs h
   obtain ⟨v14,q15,h⟩:=bs h
   refine rg j0<|u<|mv j0<|u<|ld ti42 j0 j0<|u<|pc (class_May_2_ok v10 q11) j0 j0 j0<|u<|nt j0<|u<|mv j0<|r_or (x:=v14) (j:=4) 5 j0 j0 j0 j0 j0 gpn (fun hb12=>by replace q15:=bF hb12 q15; obtain ⟨v12,q13,q15⟩:=bs q15; obtain ⟨v13,q14,q15⟩:=bs q15; obtain rfl:=sm q15; exact g j0 hb12<|mv j0<|g j0 hb12<|mv j0<|g j0 hb12<|slI (a:=0) (b:=v9) ti23 j0 ti42 j0 j0 j0 (bnd_hi j0 q13) q13<|g j0 hb12<|mf j0 j0<|g j0 hb12<|pcs (slices_ContainsFunc_api_Field_api_Field_ok v12 v10.Name v10.Type_ v10.Static q14) j0 j0 (.cons (si j0) (.cons (sealFn j5 ⟨(sealBox j0 ⟨(si j0),j5⟩),(sealBox j0 ⟨(si j0),(si j0),(si j0),j5⟩),j5⟩) .nil)) plainB<|r_nil (eg [23,24,25,26,27] 5 j0 j0 j0 j0)) (fun hb=>(sm (bT hb q15)).symm)<|r_nil ?_
   refine sw_cond j0 (fun hc16=>?_) (fun hc16=>?_)
   ·
    replace h:=bT hc16 h
    refine rg j0<|u<|asg j0<|r_nil ?_
    refine sw_ret ?_
    obtain rfl:=sm h
    exact ⟨_,j0,_,j0,[],ci j0,j0,j5,j0,j1⟩
   ·
    replace h:=bF hc16 h
    refine sw_skip ?_
    refine rl j0<|u<|add ti3 j0 j0<|u<|mv j0<|r_nil ?_
    obtain rfl:=sm h
    exact ⟨_,j0,[.old 0],ce j0 j0<|ce j0 j0<|ce j0 j0<|cv j0 (.mpt j0)<|ce j0 j0<|ce j0 j0<|ce j0 j0<|cn,j0,⟨⟨_,j0,rsOne ⟨ci j0,j5⟩⟩,j5⟩,j0,j1⟩
  ·
   replace h:=bF hc9 h
   refine sw_exit ?_
   obtain rfl:=sm h
   exact ⟨j0,_,j0,[],ce j0 j0<|ce j0 j0<|cn,j0,j5,j0,j1⟩
 ·
  rintro ⟨⟩ rfl
  replace h : class_all_api_Field_k2 v1 v2 = some r:=h
  unfold class_all_api_Field_k2 at h
  refine ow_intro ?_
  refine rg j0<|u<|mv j0<|u<|lnI ti23 j0 j0<|u<|mv j0<|u<|leq ti3 j0 j0<|u<|asg j0<|r_nil ?_
  refine sw_ret ?_
  obtain rfl:=sm h
  exact ⟨_,j0,[],ci j0,j0,j5,j0,j1⟩
 ·
  rintro r' rfl env st hp
  obtain rfl:=sm h
  exact hp
def class_types_1 (v1 : List UInt8) : Option (Bool) :=
  (kind_May v1).bind fun v2=>some (!v2)
theorem class_types_1_ok (v1 : List UInt8) {r : Bool} (h : class_types_1 v1 = some r) : PureC Tryz.prog 324 [sA v1,.ipt 1 [[.fn (.func 153) [] []]] 0 0] (bA r):=by
 refine pure_fn Tryz.func324 j0 (by kernel_rfl) j0 j0 ?_
 unfold class_types_1 at h
 refine rg j0<|u<|asg j0<|r_nil ?_
 obtain ⟨v2,q1,h⟩:=bs h
 refine rg j0<|u<|ld ti160 j0 j0<|u<|mv j0<|u<|pc (kind_May_ok v1 q1) j0 j0 j0<|u<|nt j0<|u<|asg j0<|r_nil ?_
 refine sw_ret ?_
 obtain rfl:=sm h
 exact ⟨_,j0,[],ci j0,j0,j5,j0,j1⟩
def slices_IndexFunc_string_string_k2 : Option (Int) :=
  some (-1)
def slices_IndexFunc_string_string_l1 (v1 : List (List UInt8)) (v5 : Int) : Option (Sum (Int) (Sum (Unit) (Int))) :=
  cond (decide (v5 < (List.length v1 : Int))) ((idx v1 v5).bind fun v6=>(class_types_1 v6).bind fun v7=>cond v7 (some (.inr (.inr v5))) (some (.inl (IntKind.i64.wrap (v5 + 1))))) (some (.inr (.inl ())))
def slices_IndexFunc_string_string (v1 : List (List UInt8)) : Option (Int) :=
  (loopP (fun z=>slices_IndexFunc_string_string_l1 v1 z) 0).bind fun o=>leave o (fun b=>slices_IndexFunc_string_string_k2) some
theorem slices_IndexFunc_string_string_ok (v1 : List (List UInt8)) {r : Int} (h : slices_IndexFunc_string_string v1 = some r) : PureC Tryz.prog 181 [.isl 1 (List.map rStr v1),.fn (.func 324) [] [.ipt 1 [[.fn (.func 153) [] []]] 0 0]] (iA r):=by
 refine pure_fn Tryz.func181 j0 (by kernel_rfl) j0 j0 ?_
 unfold slices_IndexFunc_string_string at h
 refine rg j0<|u<|asg j0<|r_nil ?_
 refine sw_seq ?_
 refine rg j0<|u<|mv j0<|u<|lnI ti22 j0 j0<|u<|mv j0<|r_nil ?_
 obtain ⟨o,ho,h⟩:=bs h
 refine sw_lpl (X:=Int) (B:=Unit) (R:=Int) (fun z=>[(0,.isl 1 (List.map rStr v1)),(1,.fn (.func 324) [] [.ipt 1 [[.fn (.func 153) [] []]] 0 0]),(7,iA (List.length v1 : Int)),(8,iA z)]) (fun z=>[]) (fun b=>[]) (fun b=>[]) (fun r env st=>PostF Tryz.prog Tryz.f181 0 (iA r) [] env st) ho ⟨[],ce j0 j0<|ce j0 j0<|ce j0 j0<|ce j0 j0<|cn,j0,j5,j0,j1⟩ ?_ ?_ ?_
 ·
  rintro v5 r h
  replace h : slices_IndexFunc_string_string_l1 v1 v5 = some r:=h
  unfold slices_IndexFunc_string_string_l1 at h
  refine rg j0<|u<|lss ti3 j0 j0<|r_nil ?_
  refine sw_seq ?_
  refine sw_cond j0 (fun hc5=>?_) (fun hc5=>?_)
  ·
   replace h:=bT hc5 h
   refine sw_skip ?_
   refine sw_seq ?_
   refine sw_block ?_
   refine rg j0<|u<|mv j0<|u<|asg j0<|r_nil ?_
   obtain ⟨v6,q6,h⟩:=bs h
   obtain ⟨v7,q7,h⟩:=bs h
   refine rg j0<|u<|mv j0<|u<|mv j0<|u<|mv j0<|u<|ixI ti22 j0 ti9 j0 j0 j0 q6<|u<|ldI ti9 j0 (idx_some q6).2.2 j0<|u<|pc (class_types_1_ok v6 q7) j0 j0 j0<|r_nil ?_
   refine sw_cond j0 (fun hc8=>?_) (fun hc8=>?_)
   ·
    replace h:=bT hc8 h
    refine rg j0<|u<|mv j0<|u<|asg j0<|r_nil ?_
    refine sw_ret ?_
    obtain rfl:=sm h
    exact ⟨_,j0,_,j0,[],ci j0,j0,j5,j0,j1⟩
   ·
    replace h:=bF hc8 h
    refine sw_skip ?_
    refine rl j0<|u<|add ti3 j0 j0<|u<|mv j0<|r_nil ?_
    obtain rfl:=sm h
    exact ⟨_,j0,[],ce j0 j0<|ce j0 j0<|ce j0 j0<|ce j0 j0<|cn,j0,j5,j0,j1⟩
  ·
   replace h:=bF hc5 h
   refine sw_exit ?_
   obtain rfl:=sm h
   exact ⟨j0,_,j0,[],cn,j0,j5,j0,j1⟩
 ·
  rintro ⟨⟩ rfl
  replace h : slices_IndexFunc_string_string_k2 = some r:=h
  unfold slices_IndexFunc_string_string_k2 at h
  refine ow_intro ?_
  refine rg j0<|u<|asg j0<|r_nil ?_
  refine sw_ret ?_
  obtain rfl:=sm h
  exact ⟨_,j0,[],ci j0,j0,j5,j0,j1⟩
 ·
  rintro r' rfl env st hp
  obtain rfl:=sm h
  exact hp
def slices_ContainsFunc_string_string (v1 : List (List UInt8)) : Option (Bool) :=
  (slices_IndexFunc_string_string v1).bind fun v2=>some (decide (0 ≤ v2))
theorem slices_ContainsFunc_string_string_ok (v1 : List (List UInt8)) {r : Bool} (h : slices_ContainsFunc_string_string v1 = some r) : PureC Tryz.prog 99 [.isl 1 (List.map rStr v1),.fn (.func 324) [] [.ipt 1 [[.fn (.func 153) [] []]] 0 0]] (bA r):=by
 refine pure_fn Tryz.func99 j0 (by kernel_rfl) j0 j0 ?_
 unfold slices_ContainsFunc_string_string at h
 refine rg j0<|u<|asg j0<|r_nil ?_
 obtain ⟨v2,q1,h⟩:=bs h
 refine rg j0<|u<|mv j0<|u<|mv j0<|u<|pc (slices_IndexFunc_string_string_ok v1 q1) j0 j0 j0<|u<|geq ti3 j0 j0<|u<|asg j0<|r_nil ?_
 refine sw_ret ?_
 obtain rfl:=sm h
 exact ⟨_,j0,[],ci j0,j0,j5,j0,j1⟩
def class_types (v1 : List (List UInt8)) : Option (Bool) :=
  (slices_ContainsFunc_string_string v1).bind fun v2=>some (!v2)
theorem class_types_ok (v1 : List (List UInt8)) {r : Bool} (h : class_types v1 = some r) : PureC Tryz.prog 241 [.isl 1 (List.map rStr v1),.fn (.func 153) [] []] (bA r):=by
 refine pure_fn Tryz.func241 j0 (by kernel_rfl) j0 j0 ?_
 unfold class_types at h
 refine rg j0<|u<|bx 0 1 j0 j0 j0 j0<|u<|asg j0<|r_nil ?_
 obtain ⟨v2,q1,h⟩:=bs h
 refine rg j0<|u<|mv j0<|u<|mf j0 j0<|u<|pcs (slices_ContainsFunc_string_string_ok v1 q1) j0 j0 (.cons (si j0) (.cons (sealFn j5 ⟨(sealBox j0 ⟨(si j0),j5⟩),j5⟩) .nil)) plainB<|u<|nt j0<|u<|asg j0<|r_nil ?_
 refine sw_ret ?_
 obtain rfl:=sm h
 exact ⟨_,j0,[],ci j0,j0,j5,j0,j1⟩
def kind_Ret (v1 : List UInt8) : Option (Bool) :=
  (cond (v1 == [86]) (some true) ((kind_May v1).bind fun v2=>some v2)).bind fun v3=>some v3
theorem kind_Ret_ok (v1 : List UInt8) {r : Bool} (h : kind_Ret v1 = some r) : PureC Tryz.prog 242 [sA v1] (bA r):=by
 refine pure_fn Tryz.func242 j0 (by kernel_rfl) j0 j0 ?_
 unfold kind_Ret at h
 refine rg j0<|u<|asg j0<|r_nil ?_
 obtain ⟨v3,q3,h⟩:=bs h
 refine rg j0<|u<|mv j0<|u<|seq ti9 j0 j0<|u<|mv j0<|r_or (x:=v3) (j:=2) 2 j0 j0 j0 j0 j0 gpn (fun hb1=>by replace q3:=bF hb1 q3; obtain ⟨v2,q2,q3⟩:=bs q3; obtain rfl:=sm q3; exact g j0 hb1<|mv j0<|g j0 hb1<|pc (kind_May_ok v1 q2) j0 j0 j0<|r_nil (eg [6,7] 2 j0 j0 j0 j0)) (fun hb=>(sm (bT hb q3)).symm)<|u<|asg j0<|r_nil ?_
 refine sw_ret ?_
 obtain rfl:=sm h
 exact ⟨_,j0,[],ci j0,j0,j5,j0,j1⟩
def class_empty (v1 : ApiMethod) : Bool :=
  (((((!v1.Static) && (!(v1.Name == [36,105,110,105,116]))) && (v1.Locals == (0 : Int))) && (v1.Stack == (0 : Int))) && ((IntKind.i64.wrap ((IntKind.i64.wrap ((List.length v1.Code : Int) + (List.length v1.Maps : Int))) + (List.length v1.Traps : Int))) == (0 : Int)))
theorem class_empty_ok (v1 : ApiMethod) {r : Bool} (h : class_empty v1 = r) : PureC Tryz.prog 243 [.agg (rApiMethod v1)] (bA r):=by
 refine pure_fn Tryz.func243 j0 (by kernel_rfl) j0 j0 ?_
 unfold class_empty at h
 refine rg j0<|u<|bx 0 10 j0 j0 j0 j0<|u<|asg j0<|r_nil ?_
 refine rg j0<|u<|fa ti38 j0 j0 j0<|u<|ld ti4 j0 j0<|u<|nt j0<|u<|mv j0<|r_and (j:=3) 3 j0 j0 j0 j0 j0 gpn (fun hb1=>g j0 hb1<|fa ti38 j0 j0 j0<|g j0 hb1<|ld ti9 j0 j0<|g j0 hb1<|sne ti9 j0 j0<|r_nil (egA [7,8,9] 3 hb1 j0 j0 j0 j0)) andF<|u<|mv j0<|r_and (j:=8) 3 j0 j0 j0 j0 j0 gpn (fun hb2=>g j0 hb2<|fa ti38 j0 j0 j0<|g j0 hb2<|ld ti3 j0 j0<|g j0 hb2<|eql ti3 j0 j0<|r_nil (egA [12,13,14] 3 hb2 j0 j0 j0 j0)) andF<|u<|mv j0<|r_and (j:=13) 3 j0 j0 j0 j0 j0 gpn (fun hb3=>g j0 hb3<|fa ti38 j0 j0 j0<|g j0 hb3<|ld ti3 j0 j0<|g j0 hb3<|eql ti3 j0 j0<|r_nil (egA [17,18,19] 3 hb3 j0 j0 j0 j0)) andF<|u<|mv j0<|r_and (j:=18) 12 j0 j0 j0 j0 j0 gpn (fun hb4=>g j0 hb4<|fa ti38 j0 j0 j0<|g j0 hb4<|ld ti34 j0 j0<|g j0 hb4<|lnI ti34 j0 j0<|g j0 hb4<|fa ti38 j0 j0 j0<|g j0 hb4<|ld ti35 j0 j0<|g j0 hb4<|lnI ti35 j0 j0<|g j0 hb4<|add ti3 j0 j0<|g j0 hb4<|fa ti38 j0 j0 j0<|g j0 hb4<|ld ti36 j0 j0<|g j0 hb4<|lnI ti36 j0 j0<|g j0 hb4<|add ti3 j0 j0<|g j0 hb4<|eql ti3 j0 j0<|r_nil (egA [22,23,24,25,26,27,28,29,30,31,32,33] 12 hb4 j0 j0 j0 j0)) andF<|u<|asg j0<|r_nil ?_
 refine sw_ret ?_
 obtain rfl:=h
 exact ⟨_,j0,[],ci j0,j0,j5,j0,j1⟩
def class_args (v1 : ApiMethod) : Int :=
  cond v1.Static ((List.length v1.Params : Int)) ((IntKind.i64.wrap ((List.length v1.Params : Int) + 1)))
theorem class_args_ok (v1 : ApiMethod) {r : Int} (h : class_args v1 = r) : PureC Tryz.prog 245 [.agg (rApiMethod v1)] (iA r):=by
 refine pure_fn Tryz.func245 j0 (by kernel_rfl) j0 j0 ?_
 unfold class_args at h
 refine rg j0<|u<|bx 0 10 j0 j0 j0 j0<|u<|asg j0<|r_nil ?_
 refine sw_seq ?_
 refine rg j0<|u<|fa ti38 j0 j0 j0<|u<|ld ti4 j0 j0<|r_nil ?_
 refine sw_cond j0 (fun hc1=>?_) (fun hc1=>?_)
 ·
  replace h:=bT hc1 h
  refine rg j0<|u<|fa ti38 j0 j0 j0<|u<|ld ti22 j0 j0<|u<|lnI ti22 j0 j0<|u<|asg j0<|r_nil ?_
  refine sw_ret ?_
  obtain rfl:=h
  exact ⟨_,j0,[],ci j0,j0,j5,j0,j1⟩
 ·
  replace h:=bF hc1 h
  refine sw_skip ?_
  refine rg j0<|u<|fa ti38 j0 j0 j0<|u<|ld ti22 j0 j0<|u<|lnI ti22 j0 j0<|u<|add ti3 j0 j0<|u<|asg j0<|r_nil ?_
  refine sw_ret ?_
  obtain rfl:=h
  exact ⟨_,j0,[],ci j0,j0,j5,j0,j1⟩
def class_between (v1 : Int) (v2 : Int) (v3 : Int) : Bool :=
  ((decide (v2 ≤ v1)) && (decide (v1 ≤ v3)))
theorem class_between_ok (v1 : Int) (v2 : Int) (v3 : Int) {r : Bool} (h : class_between v1 v2 v3 = r) : PureC Tryz.prog 244 [iA v1,iA v2,iA v3] (bA r):=by
 refine pure_fn Tryz.func244 j0 (by kernel_rfl) j0 j0 ?_
 unfold class_between at h
 refine rg j0<|u<|asg j0<|r_nil ?_
 refine rg j0<|u<|mv j0<|u<|mv j0<|u<|geq ti3 j0 j0<|u<|mv j0<|r_and (j:=3) 3 j0 j0 j0 j0 j0 gpn (fun hb1=>g j0 hb1<|mv j0<|g j0 hb1<|mv j0<|g j0 hb1<|leq ti3 j0 j0<|r_nil (egA [11,12,13] 3 hb1 j0 j0 j0 j0)) andF<|u<|asg j0<|r_nil ?_
 refine sw_ret ?_
 obtain rfl:=h
 exact ⟨_,j0,[],ci j0,j0,j5,j0,j1⟩
def class_instructions_1 (v1 : ApiIns) (v2 : Int) : Option (Bool) :=
  (op_May v1).bind fun v3=>some ((!v3) || ((op_Jumps v1.Op) && (decide (v2 ≤ v1.A))))
theorem class_instructions_1_ok (v1 : ApiIns) (v2 : Int) {r : Bool} (h : class_instructions_1 v1 v2 = some r) : PureC Tryz.prog 325 [.agg (rApiIns v1),.ipt 1 [[iA v2]] 0 0] (bA r):=by
 refine pure_fn Tryz.func325 j0 (by kernel_rfl) j0 j0 ?_
 unfold class_instructions_1 at h
 refine rg j0<|u<|bx 0 4 j0 j0 j0 j0<|u<|asg j0<|r_nil ?_
 obtain ⟨v3,q1,h⟩:=bs h
 refine rg j0<|u<|ld ti40 j0 j0<|u<|pc (op_May_ok v1 q1) j0 j0 j0<|u<|nt j0<|u<|mv j0<|r_or (j:=3) 9 j0 j0 j0 j0 j0 gpn (fun hb2=>g j0 hb2<|fa ti40 j0 j0 j0<|g j0 hb2<|ld ti3 j0 j0<|g j0 hb2<|pc (op_Jumps_ok v1.Op j0) j0 j0 j0<|g j0 hb2<|mv j0<|r_and (j:=7) 4 j0 j0 j0 j0 j0 (gps j0 j0 hb2) (fun hb3=>g j0 hb3<|fa ti40 j0 j0 j0<|g j0 hb3<|ld ti3 j0 j0<|g j0 hb3<|ld ti3 j0 j0<|g j0 hb3<|geq ti3 j0 j0<|r_nil (egA [12,13,14,15] 4 hb3 j0 j0 j0 j0)) andF<|r_nil (egO [8,9,10,11,12,13,14,15,16] 5 hb2 j0 j0 j0 j0)) orT<|u<|asg j0<|r_nil ?_
 refine sw_ret ?_
 obtain rfl:=sm h
 exact ⟨_,j0,[],ci j0,j0,j5,j0,j1⟩
def slices_IndexFunc_api_Ins_api_Ins_k2 : Option (Int) :=
  some (-1)
def slices_IndexFunc_api_Ins_api_Ins_l1 (v1 : List ApiIns) (v2 : Int) (v6 : Int) : Option (Sum (Int) (Sum (Unit) (Int))) :=
  cond (decide (v6 < (List.length v1 : Int))) ((idx v1 v6).bind fun v7=>(class_instructions_1 v7 v2).bind fun v8=>cond v8 (some (.inr (.inr v6))) (some (.inl (IntKind.i64.wrap (v6 + 1))))) (some (.inr (.inl ())))
def slices_IndexFunc_api_Ins_api_Ins (v1 : List ApiIns) (v2 : Int) : Option (Int) :=
  (loopP (fun z=>slices_IndexFunc_api_Ins_api_Ins_l1 v1 v2 z) 0).bind fun o=>leave o (fun b=>slices_IndexFunc_api_Ins_api_Ins_k2) some
theorem slices_IndexFunc_api_Ins_api_Ins_ok (v1 : List ApiIns) (v2 : Int) {r : Int} (h : slices_IndexFunc_api_Ins_api_Ins v1 v2 = some r) : PureC Tryz.prog 349 [.isl 4 (List.map rApiIns v1),.fn (.func 325) [] [.ipt 1 [[iA v2]] 0 0]] (iA r):=by
 refine pure_fn Tryz.func349 j0 (by kernel_rfl) j0 j0 ?_
 unfold slices_IndexFunc_api_Ins_api_Ins at h
 refine rg j0<|u<|asg j0<|r_nil ?_
 refine sw_seq ?_
 refine rg j0<|u<|mv j0<|u<|lnI ti34 j0 j0<|u<|mv j0<|r_nil ?_
 obtain ⟨o,ho,h⟩:=bs h
 refine sw_lpl (X:=Int) (B:=Unit) (R:=Int) (fun z=>[(0,.isl 4 (List.map rApiIns v1)),(1,.fn (.func 325) [] [.ipt 1 [[iA v2]] 0 0]),(7,iA (List.length v1 : Int)),(8,iA z)]) (fun z=>[]) (fun b=>[]) (fun b=>[]) (fun r env st=>PostF Tryz.prog Tryz.f349 0 (iA r) [] env st) ho ⟨[],ce j0 j0<|ce j0 j0<|ce j0 j0<|ce j0 j0<|cn,j0,j5,j0,j1⟩ ?_ ?_ ?_
 ·
  rintro v6 r h
  replace h : slices_IndexFunc_api_Ins_api_Ins_l1 v1 v2 v6 = some r:=h
  unfold slices_IndexFunc_api_Ins_api_Ins_l1 at h
  refine rg j0<|u<|lss ti3 j0 j0<|r_nil ?_
  refine sw_seq ?_
  refine sw_cond j0 (fun hc5=>?_) (fun hc5=>?_)
  ·
   replace h:=bT hc5 h
   refine sw_skip ?_
   refine sw_seq ?_
   refine sw_block ?_
   refine rg j0<|u<|mv j0<|u<|asg j0<|r_nil ?_
   obtain ⟨v7,q6,h⟩:=bs h
   obtain ⟨v8,q7,h⟩:=bs h
   refine rg j0<|u<|mv j0<|u<|mv j0<|u<|mv j0<|u<|ixI ti34 j0 ti40 j0 j0 j0 q6<|u<|ldI ti40 j0 (idx_some q6).2.2 j0<|u<|pc (class_instructions_1_ok v7 v2 q7) j0 j0 j0<|r_nil ?_
   refine sw_cond j0 (fun hc8=>?_) (fun hc8=>?_)
   ·
    replace h:=bT hc8 h
    refine rg j0<|u<|mv j0<|u<|asg j0<|r_nil ?_
    refine sw_ret ?_
    obtain rfl:=sm h
    exact ⟨_,j0,_,j0,[],ci j0,j0,j5,j0,j1⟩
   ·
    replace h:=bF hc8 h
    refine sw_skip ?_
    refine rl j0<|u<|add ti3 j0 j0<|u<|mv j0<|r_nil ?_
    obtain rfl:=sm h
    exact ⟨_,j0,[],ce j0 j0<|ce j0 j0<|ce j0 j0<|ce j0 j0<|cn,j0,j5,j0,j1⟩
  ·
   replace h:=bF hc5 h
   refine sw_exit ?_
   obtain rfl:=sm h
   exact ⟨j0,_,j0,[],cn,j0,j5,j0,j1⟩
 ·
  rintro ⟨⟩ rfl
  replace h : slices_IndexFunc_api_Ins_api_Ins_k2 = some r:=h
  unfold slices_IndexFunc_api_Ins_api_Ins_k2 at h
  refine ow_intro ?_
  refine rg j0<|u<|asg j0<|r_nil ?_
  refine sw_ret ?_
  obtain rfl:=sm h
  exact ⟨_,j0,[],ci j0,j0,j5,j0,j1⟩
 ·
  rintro r' rfl env st hp
  obtain rfl:=sm h
  exact hp
def slices_ContainsFunc_api_Ins_api_Ins (v1 : List ApiIns) (v2 : Int) : Option (Bool) :=
  (slices_IndexFunc_api_Ins_api_Ins v1 v2).bind fun v3=>some (decide (0 ≤ v3))
theorem slices_ContainsFunc_api_Ins_api_Ins_ok (v1 : List ApiIns) (v2 : Int) {r : Bool} (h : slices_ContainsFunc_api_Ins_api_Ins v1 v2 = some r) : PureC Tryz.prog 304 [.isl 4 (List.map rApiIns v1),.fn (.func 325) [] [.ipt 1 [[iA v2]] 0 0]] (bA r):=by
 refine pure_fn Tryz.func304 j0 (by kernel_rfl) j0 j0 ?_
 unfold slices_ContainsFunc_api_Ins_api_Ins at h
 refine rg j0<|u<|asg j0<|r_nil ?_
 obtain ⟨v3,q1,h⟩:=bs h
 refine rg j0<|u<|mv j0<|u<|mv j0<|u<|pc (slices_IndexFunc_api_Ins_api_Ins_ok v1 v2 q1) j0 j0 j0<|u<|geq ti3 j0 j0<|u<|asg j0<|r_nil ?_
 refine sw_ret ?_
 obtain rfl:=sm h
 exact ⟨_,j0,[],ci j0,j0,j5,j0,j1⟩
def class_instructions (v1 : ApiMethod) : Option (Bool) :=
  (cond (!(class_between (List.length v1.Code : Int) 1 100)) (some true) ((idx v1.Code (IntKind.i64.wrap ((List.length v1.Code : Int) - 1))).bind fun v2=>some (!(op_Ends v2.Op)))).bind fun v3=>cond v3 (some false) ((slices_ContainsFunc_api_Ins_api_Ins v1.Code (List.length v1.Code : Int)).bind fun v4=>some (!v4))
theorem class_instructions_ok (v1 : ApiMethod) {r : Bool} (h : class_instructions v1 = some r) : PureC Tryz.prog 246 [.agg (rApiMethod v1)] (bA r):=by
 refine pure_fn Tryz.func246 j0 (by kernel_rfl) j0 j0 ?_
 unfold class_instructions at h
 refine rg j0<|u<|bx 0 10 j0 j0 j0 j0<|u<|asg j0<|r_nil ?_
 refine rg j0<|u<|fa ti38 j0 j0 j0<|u<|ld ti34 j0 j0<|u<|lnI ti34 j0 j0<|u<|al 1 ti3 j0<|u<|sto ti3 j0 j0 j0<|r_nil ?_
 refine sw_seq ?_
 obtain ⟨v3,q3,h⟩:=bs h
 refine rg j0<|u<|ld ti3 j0 j0<|u<|pc (class_between_ok (List.length v1.Code : Int) 1 100 j0) j0 j0 j0<|u<|nt j0<|u<|mv j0<|r_or (x:=v3) (j:=3) 9 j0 j0 j0 j0 j0 gpn (fun hb1=>by replace q3:=bF hb1 q3; obtain ⟨v2,q2,q3⟩:=bs q3; obtain rfl:=sm q3; exact g j0 hb1<|fa ti38 j0 j0 j0<|g j0 hb1<|ld ti34 j0 j0<|g j0 hb1<|ld ti3 j0 j0<|g j0 hb1<|sub ti3 j0 j0<|g j0 hb1<|ixI ti34 j0 ti40 j0 j0 j0 q2<|g j0 hb1<|fa ti40 j0 j0 j0<|g j0 hb1<|ldI ti3 j0 (idx_some q2).2.2 j0<|g j0 hb1<|pc (op_Ends_ok v2.Op j0) j0 j0 j0<|g j0 hb1<|nt j0<|r_nil (eg [11,12,13,14,15,16,17,18,19] 9 j0 j0 j0 j0)) (fun hb=>(sm (bT hb q3)).symm)<|r_nil ?_
 refine sw_cond j0 (fun hc4=>?_) (fun hc4=>?_)
 ·
  replace h:=bT hc4 h
  refine rg j0<|u<|asg j0<|r_nil ?_
  refine sw_ret ?_
  obtain rfl:=sm h
  exact ⟨_,j0,[],ci j0,j0,j5,j0,j1⟩
 ·
  replace h:=bF hc4 h
  refine sw_skip ?_
  obtain ⟨v4,q5,h⟩:=bs h
  refine rg j0<|u<|fa ti38 j0 j0 j0<|u<|ld ti34 j0 j0<|u<|mf j0 j0<|u<|pcs (slices_ContainsFunc_api_Ins_api_Ins_ok v1.Code (List.length v1.Code : Int) q5) j0 j0 (.cons (si j0) (.cons (sealFn j5 ⟨(sealBox j0 ⟨(si j0),j5⟩),j5⟩) .nil)) plainB<|u<|nt j0<|u<|asg j0<|r_nil ?_
  refine sw_ret ?_
  obtain rfl:=sm h
  exact ⟨_,j0,[],ci j0,j0,j5,j0,j1⟩
def class_slot (v1 : List UInt8) : Option (Bool) :=
  (cond (((v1 == [73]) || (v1 == [78])) || (v1 == [84])) (some true) ((kind_Ref v1).bind fun v2=>some v2)).bind fun v3=>some v3
theorem class_slot_ok (v1 : List UInt8) {r : Bool} (h : class_slot v1 = some r) : PureC Tryz.prog 327 [sA v1] (bA r):=by
 refine pure_fn Tryz.func327 j0 (by kernel_rfl) j0 j0 ?_
 unfold class_slot at h
 refine rg j0<|u<|asg j0<|r_nil ?_
 obtain ⟨v3,q5,h⟩:=bs h
 refine rg j0<|u<|mv j0<|u<|seq ti9 j0 j0<|u<|mv j0<|r_or (j:=2) 2 j0 j0 j0 j0 j0 gpn (fun hb1=>g j0 hb1<|mv j0<|g j0 hb1<|seq ti9 j0 j0<|r_nil (egO [6,7] 2 hb1 j0 j0 j0 j0)) orT<|u<|mv j0<|r_or (j:=6) 2 j0 j0 j0 j0 j0 gpn (fun hb2=>g j0 hb2<|mv j0<|g j0 hb2<|seq ti9 j0 j0<|r_nil (egO [10,11] 2 hb2 j0 j0 j0 j0)) orT<|u<|mv j0<|r_or (x:=v3) (j:=10) 2 j0 j0 j0 j0 j0 gpn (fun hb3=>by replace q5:=bF hb3 q5; obtain ⟨v2,q4,q5⟩:=bs q5; obtain rfl:=sm q5; exact g j0 hb3<|mv j0<|g j0 hb3<|pc (kind_Ref_ok v1 q4) j0 j0 j0<|r_nil (eg [14,15] 2 j0 j0 j0 j0)) (fun hb=>(sm (bT hb q5)).symm)<|u<|asg j0<|r_nil ?_
 refine sw_ret ?_
 obtain rfl:=sm h
 exact ⟨_,j0,[],ci j0,j0,j5,j0,j1⟩
def class_types_1_s2 (v1 : List UInt8) : Option (Bool) :=
  (class_slot v1).bind fun v2=>some (!v2)
theorem class_types_1_s2_ok (v1 : List UInt8) {r : Bool} (h : class_types_1_s2 v1 = some r) : PureC Tryz.prog 324 [sA v1,.ipt 1 [[.fn (.func 327) [] []]] 0 0] (bA r):=by
 refine pure_fn Tryz.func324 j0 (by kernel_rfl) j0 j0 ?_
 unfold class_types_1_s2 at h
 refine rg j0<|u<|asg j0<|r_nil ?_
 obtain ⟨v2,q1,h⟩:=bs h
 refine rg j0<|u<|ld ti160 j0 j0<|u<|mv j0<|u<|pc (class_slot_ok v1 q1) j0 j0 j0<|u<|nt j0<|u<|asg j0<|r_nil ?_
 refine sw_ret ?_
 obtain rfl:=sm h
 exact ⟨_,j0,[],ci j0,j0,j5,j0,j1⟩
def slices_IndexFunc_string_string_s2_k2 : Option (Int) :=
  some (-1)
def slices_IndexFunc_string_string_s2_l1 (v1 : List (List UInt8)) (v5 : Int) : Option (Sum (Int) (Sum (Unit) (Int))) :=
  cond (decide (v5 < (List.length v1 : Int))) ((idx v1 v5).bind fun v6=>(class_types_1_s2 v6).bind fun v7=>cond v7 (some (.inr (.inr v5))) (some (.inl (IntKind.i64.wrap (v5 + 1))))) (some (.inr (.inl ())))
def slices_IndexFunc_string_string_s2 (v1 : List (List UInt8)) : Option (Int) :=
  (loopP (fun z=>slices_IndexFunc_string_string_s2_l1 v1 z) 0).bind fun o=>leave o (fun b=>slices_IndexFunc_string_string_s2_k2) some
theorem slices_IndexFunc_string_string_s2_ok (v1 : List (List UInt8)) {r : Int} (h : slices_IndexFunc_string_string_s2 v1 = some r) : PureC Tryz.prog 181 [.isl 1 (List.map rStr v1),.fn (.func 324) [] [.ipt 1 [[.fn (.func 327) [] []]] 0 0]] (iA r):=by
 refine pure_fn Tryz.func181 j0 (by kernel_rfl) j0 j0 ?_
 unfold slices_IndexFunc_string_string_s2 at h
 refine rg j0<|u<|asg j0<|r_nil ?_
 refine sw_seq ?_
 refine rg j0<|u<|mv j0<|u<|lnI ti22 j0 j0<|u<|mv j0<|r_nil ?_
 obtain ⟨o,ho,h⟩:=bs h
 refine sw_lpl (X:=Int) (B:=Unit) (R:=Int) (fun z=>[(0,.isl 1 (List.map rStr v1)),(1,.fn (.func 324) [] [.ipt 1 [[.fn (.func 327) [] []]] 0 0]),(7,iA (List.length v1 : Int)),(8,iA z)]) (fun z=>[]) (fun b=>[]) (fun b=>[]) (fun r env st=>PostF Tryz.prog Tryz.f181 0 (iA r) [] env st) ho ⟨[],ce j0 j0<|ce j0 j0<|ce j0 j0<|ce j0 j0<|cn,j0,j5,j0,j1⟩ ?_ ?_ ?_
 ·
  rintro v5 r h
  replace h : slices_IndexFunc_string_string_s2_l1 v1 v5 = some r:=h
  unfold slices_IndexFunc_string_string_s2_l1 at h
  refine rg j0<|u<|lss ti3 j0 j0<|r_nil ?_
  refine sw_seq ?_
  refine sw_cond j0 (fun hc5=>?_) (fun hc5=>?_)
  ·
   replace h:=bT hc5 h
   refine sw_skip ?_
   refine sw_seq ?_
   refine sw_block ?_
   refine rg j0<|u<|mv j0<|u<|asg j0<|r_nil ?_
   obtain ⟨v6,q6,h⟩:=bs h
   obtain ⟨v7,q7,h⟩:=bs h
   refine rg j0<|u<|mv j0<|u<|mv j0<|u<|mv j0<|u<|ixI ti22 j0 ti9 j0 j0 j0 q6<|u<|ldI ti9 j0 (idx_some q6).2.2 j0<|u<|pc (class_types_1_s2_ok v6 q7) j0 j0 j0<|r_nil ?_
   refine sw_cond j0 (fun hc8=>?_) (fun hc8=>?_)
   ·
    replace h:=bT hc8 h
    refine rg j0<|u<|mv j0<|u<|asg j0<|r_nil ?_
    refine sw_ret ?_
    obtain rfl:=sm h
    exact ⟨_,j0,_,j0,[],ci j0,j0,j5,j0,j1⟩
   ·
    replace h:=bF hc8 h
    refine sw_skip ?_
    refine rl j0<|u<|add ti3 j0 j0<|u<|mv j0<|r_nil ?_
    obtain rfl:=sm h
    exact ⟨_,j0,[],ce j0 j0<|ce j0 j0<|ce j0 j0<|ce j0 j0<|cn,j0,j5,j0,j1⟩
  ·
   replace h:=bF hc5 h
   refine sw_exit ?_
   obtain rfl:=sm h
   exact ⟨j0,_,j0,[],cn,j0,j5,j0,j1⟩
 ·
  rintro ⟨⟩ rfl
  replace h : slices_IndexFunc_string_string_s2_k2 = some r:=h
  unfold slices_IndexFunc_string_string_s2_k2 at h
  refine ow_intro ?_
  refine rg j0<|u<|asg j0<|r_nil ?_
  refine sw_ret ?_
  obtain rfl:=sm h
  exact ⟨_,j0,[],ci j0,j0,j5,j0,j1⟩
 ·
  rintro r' rfl env st hp
  obtain rfl:=sm h
  exact hp
def slices_ContainsFunc_string_string_s2 (v1 : List (List UInt8)) : Option (Bool) :=
  (slices_IndexFunc_string_string_s2 v1).bind fun v2=>some (decide (0 ≤ v2))
theorem slices_ContainsFunc_string_string_s2_ok (v1 : List (List UInt8)) {r : Bool} (h : slices_ContainsFunc_string_string_s2 v1 = some r) : PureC Tryz.prog 99 [.isl 1 (List.map rStr v1),.fn (.func 324) [] [.ipt 1 [[.fn (.func 327) [] []]] 0 0]] (bA r):=by
 refine pure_fn Tryz.func99 j0 (by kernel_rfl) j0 j0 ?_
 unfold slices_ContainsFunc_string_string_s2 at h
 refine rg j0<|u<|asg j0<|r_nil ?_
 obtain ⟨v2,q1,h⟩:=bs h
 refine rg j0<|u<|mv j0<|u<|mv j0<|u<|pc (slices_IndexFunc_string_string_s2_ok v1 q1) j0 j0 j0<|u<|geq ti3 j0 j0<|u<|asg j0<|r_nil ?_
 refine sw_ret ?_
 obtain rfl:=sm h
 exact ⟨_,j0,[],ci j0,j0,j5,j0,j1⟩
def class_types_s2 (v1 : List (List UInt8)) : Option (Bool) :=
  (slices_ContainsFunc_string_string_s2 v1).bind fun v2=>some (!v2)
theorem class_types_s2_ok (v1 : List (List UInt8)) {r : Bool} (h : class_types_s2 v1 = some r) : PureC Tryz.prog 241 [.isl 1 (List.map rStr v1),.fn (.func 327) [] []] (bA r):=by
 refine pure_fn Tryz.func241 j0 (by kernel_rfl) j0 j0 ?_
 unfold class_types_s2 at h
 refine rg j0<|u<|bx 0 1 j0 j0 j0 j0<|u<|asg j0<|r_nil ?_
 obtain ⟨v2,q1,h⟩:=bs h
 refine rg j0<|u<|mv j0<|u<|mf j0 j0<|u<|pcs (slices_ContainsFunc_string_string_s2_ok v1 q1) j0 j0 (.cons (si j0) (.cons (sealFn j5 ⟨(sealBox j0 ⟨(si j0),j5⟩),j5⟩) .nil)) plainB<|u<|nt j0<|u<|asg j0<|r_nil ?_
 refine sw_ret ?_
 obtain rfl:=sm h
 exact ⟨_,j0,[],ci j0,j0,j5,j0,j1⟩
def slices_Index_string_string_k2 : Option (Int) :=
  some (-1)
def slices_Index_string_string_l1 (v1 : List (List UInt8)) (v2 : List UInt8) (v5 : Int) : Option (Sum (Int) (Sum (Unit) (Int))) :=
  cond (decide (v5 < (List.length v1 : Int))) ((idx v1 v5).bind fun v6=>cond (v2 == v6) (some (.inr (.inr v5))) (some (.inl (IntKind.i64.wrap (v5 + 1))))) (some (.inr (.inl ())))
def slices_Index_string_string (v1 : List (List UInt8)) (v2 : List UInt8) : Option (Int) :=
  (loopP (fun z=>slices_Index_string_string_l1 v1 v2 z) 0).bind fun o=>leave o (fun b=>slices_Index_string_string_k2) some
theorem slices_Index_string_string_ok (v1 : List (List UInt8)) (v2 : List UInt8) {r : Int} (h : slices_Index_string_string v1 v2 = some r) : PureC Tryz.prog 131 [.isl 1 (List.map rStr v1),sA v2] (iA r):=by
 refine pure_fn Tryz.func131 j0 (by kernel_rfl) j0 j0 ?_
 unfold slices_Index_string_string at h
 refine rg j0<|u<|asg j0<|r_nil ?_
 refine sw_seq ?_
 refine rg j0<|u<|mv j0<|u<|lnI ti22 j0 j0<|u<|mv j0<|r_nil ?_
 obtain ⟨o,ho,h⟩:=bs h
 refine sw_lpl (X:=Int) (B:=Unit) (R:=Int) (fun z=>[(0,.isl 1 (List.map rStr v1)),(1,sA v2),(7,iA (List.length v1 : Int)),(8,iA z)]) (fun z=>[]) (fun b=>[]) (fun b=>[]) (fun r env st=>PostF Tryz.prog Tryz.f131 0 (iA r) [] env st) ho ⟨[],ce j0 j0<|ce j0 j0<|ce j0 j0<|ce j0 j0<|cn,j0,j5,j0,j1⟩ ?_ ?_ ?_
 ·
  rintro v5 r h
  replace h : slices_Index_string_string_l1 v1 v2 v5 = some r:=h
  unfold slices_Index_string_string_l1 at h
  refine rg j0<|u<|lss ti3 j0 j0<|r_nil ?_
  refine sw_seq ?_
  refine sw_cond j0 (fun hc4=>?_) (fun hc4=>?_)
  ·
   replace h:=bT hc4 h
   refine sw_skip ?_
   refine sw_seq ?_
   refine sw_block ?_
   refine rg j0<|u<|mv j0<|u<|asg j0<|r_nil ?_
   obtain ⟨v6,q5,h⟩:=bs h
   refine rg j0<|u<|mv j0<|u<|mv j0<|u<|mv j0<|u<|ixI ti22 j0 ti9 j0 j0 j0 q5<|u<|ldI ti9 j0 (idx_some q5).2.2 j0<|u<|seq ti9 j0 j0<|r_nil ?_
   refine sw_cond j0 (fun hc6=>?_) (fun hc6=>?_)
   ·
    replace h:=bT hc6 h
    refine rg j0<|u<|mv j0<|u<|asg j0<|r_nil ?_
    refine sw_ret ?_
    obtain rfl:=sm h
    exact ⟨_,j0,_,j0,[],ci j0,j0,j5,j0,j1⟩
   ·
    replace h:=bF hc6 h
    refine sw_skip ?_
    refine rl j0<|u<|add ti3 j0 j0<|u<|mv j0<|r_nil ?_
    obtain rfl:=sm h
    exact ⟨_,j0,[],ce j0 j0<|ce j0 j0<|ce j0 j0<|ce j0 j0<|cn,j0,j5,j0,j1⟩
  ·
   replace h:=bF hc4 h
   refine sw_exit ?_
   obtain rfl:=sm h
   exact ⟨j0,_,j0,[],cn,j0,j5,j0,j1⟩
 ·
  rintro ⟨⟩ rfl
  replace h : slices_Index_string_string_k2 = some r:=h
  unfold slices_Index_string_string_k2 at h
  refine ow_intro ?_
  refine rg j0<|u<|asg j0<|r_nil ?_
  refine sw_ret ?_
  obtain rfl:=sm h
  exact ⟨_,j0,[],ci j0,j0,j5,j0,j1⟩
 ·
  rintro r' rfl env st hp
  obtain rfl:=sm h
  exact hp
def slices_Contains_string_string (v1 : List (List UInt8)) (v2 : List UInt8) : Option (Bool) :=
  (slices_Index_string_string v1 v2).bind fun v3=>some (decide (0 ≤ v3))
theorem slices_Contains_string_string_ok (v1 : List (List UInt8)) (v2 : List UInt8) {r : Bool} (h : slices_Contains_string_string v1 v2 = some r) : PureC Tryz.prog 136 [.isl 1 (List.map rStr v1),sA v2] (bA r):=by
 refine pure_fn Tryz.func136 j0 (by kernel_rfl) j0 j0 ?_
 unfold slices_Contains_string_string at h
 refine rg j0<|u<|asg j0<|r_nil ?_
 obtain ⟨v3,q1,h⟩:=bs h
 refine rg j0<|u<|mv j0<|u<|mv j0<|u<|pc (slices_Index_string_string_ok v1 v2 q1) j0 j0 j0<|u<|geq ti3 j0 j0<|u<|asg j0<|r_nil ?_
 refine sw_ret ?_
 obtain rfl:=sm h
 exact ⟨_,j0,[],ci j0,j0,j5,j0,j1⟩
def class_maps_k4 (v1 : ApiMethod) : Option (Bool) :=
  some (decide ((List.length v1.Maps : Int) ≤ 100))
def class_maps_j2 (v1 : ApiMethod) (v12 : Int) (v13 : ApiMap) (v15 : Bool) : Option (Sum (Int) (Sum (Unit) (Bool))) :=
  cond v15 (some (.inr (.inr false))) ((cond ((!((List.length v13.Locals : Int) == v1.Locals)) || (decide (v1.Stack < (List.length v13.Stack : Int)))) (some true) ((class_types_s2 v13.Locals).bind fun v16=>some (!v16))).bind fun v17=>(cond v17 (some true) ((class_types_s2 v13.Stack).bind fun v18=>some (!v18))).bind fun v19=>(cond v19 (some true) ((slices_Contains_string_string v13.Stack [84]).bind fun v20=>some v20)).bind fun v21=>cond v21 (some (.inr (.inr false))) (some (.inl (IntKind.i64.wrap (v12 + 1)))))
def class_maps_l3 (v1 : ApiMethod) (v12 : Int) : Option (Sum (Int) (Sum (Unit) (Bool))) :=
  cond (decide (v12 < (List.length v1.Maps : Int))) ((idx v1.Maps v12).bind fun v13=>cond (!(class_between v13.At 0 (IntKind.i64.wrap ((List.length v1.Code : Int) - 1)))) (class_maps_j2 v1 v12 v13 true) (cond (decide (0 < v12)) ((idx v1.Maps (IntKind.i64.wrap (v12 - 1))).bind fun v14=>class_maps_j2 v1 v12 v13 (decide (v13.At ≤ v14.At))) (class_maps_j2 v1 v12 v13 false))) (some (.inr (.inl ())))
def class_maps (v1 : ApiMethod) : Option (Bool) :=
  (loopP (fun z=>class_maps_l3 v1 z) 0).bind fun o=>leave o (fun b=>class_maps_k4 v1) some
theorem class_maps_ok (v1 : ApiMethod) {r : Bool} (h : class_maps v1 = some r) : PureC Tryz.prog 247 [.agg (rApiMethod v1)] (bA r):=by
 refine pure_fn Tryz.func247 j0 (by kernel_rfl) j0 j0 ?_
 unfold class_maps at h
 refine rg j0<|u<|bx 0 10 j0 j0 j0 j0<|u<|asg j0<|r_nil ?_
 refine sw_seq ?_
 refine rg j0<|u<|fa ti38 j0 j0 j0<|u<|ld ti35 j0 j0<|u<|lnI ti35 j0 j0<|u<|mv j0<|r_nil ?_
 obtain ⟨o,ho,h⟩:=bs h
 refine sw_lpl (X:=Int) (B:=Unit) (R:=Bool) (fun z=>[(1,.mpt 0 0 0),(6,.isl 3 (List.map rApiMap v1.Maps)),(7,iA (List.length v1.Maps : Int)),(8,iA z)]) (fun z=>[some (10,[(rApiMethod v1)])]) (fun b=>[(1,.mpt 0 0 0)]) (fun b=>[some (10,[(rApiMethod v1)])]) (fun r env st=>PostF Tryz.prog Tryz.f247 0 (bA r) [] env st) ho ⟨[.old 0],cv j0 (.mpt j0)<|ce j0 j0<|ce j0 j0<|ce j0 j0<|cn,j0,⟨⟨_,j0,rsOne (ciL j0)⟩,j5⟩,j0,j1⟩ ?_ ?_ ?_
 ·
  rintro v12 r h
  replace h : class_maps_l3 v1 v12 = some r:=h
  unfold class_maps_l3 at h
  refine rg j0<|u<|lss ti3 j0 j0<|r_nil ?_
  refine sw_seq ?_
  refine sw_cond j0 (fun hc18=>?_) (fun hc18=>?_)
  ·
   replace h:=bT hc18 h
   refine sw_skip ?_
   refine sw_seq ?_
   refine sw_block ?_
   obtain ⟨v13,q19,h⟩:=bs h
   refine rg j0<|u<|mv j0<|u<|ixI ti35 j0 ti80 j0 j0 j0 q19<|u<|ldI ti80 j0 (idx_some q19).2.2 j0<|u<|al 1 ti80 j0<|u<|asg j0<|u<|sto ti80 j0 j0 j0<|r_nil ?_
   refine sw_seq ?_
   refine sw_meet (X:=Bool) (fun z=>[(1,.mpt 0 0 0),(4,.mpt 1 0 0),(6,.isl 3 (List.map rApiMap v1.Maps)),(7,iA (List.length v1.Maps : Int)),(8,iA v12),(36,bA z)]) (fun z=>[some (10,[(rApiMethod v1)]),some (3,[(rApiMap v13)])]) (fun z=>class_maps_j2 v1 v12 v13 z = some r) ?_ ?_
   ·
    rcases bb (!(class_between v13.At 0 (IntKind.i64.wrap ((List.length v1.Code : Int) - 1)))) with hb20 | hb20
    ·
     replace h:=bT hb20 h
     exact sw_region_dt [] [23,22,21,20,19,18,17,16,15,14,13,12,11,10,9,8,7,6,5,4,3,2,1,0] [(36,bA true),(35,.lit undef),(34,.lit undef),(33,.lit undef),(32,.lit undef),(31,.lit undef),(30,.lit undef),(29,.lit undef),(28,.lit undef),(27,.lit undef),(26,.lit undef),(25,.lit undef),(24,.lit undef),(23,.lit undef),(22,.lit undef),(21,bA (!(class_between v13.At 0 (IntKind.i64.wrap ((List.length v1.Code : Int) - 1))))),(20,bA (!(class_between v13.At 0 (IntKind.i64.wrap ((List.length v1.Code : Int) - 1))))),(19,bA (class_between v13.At 0 (IntKind.i64.wrap ((List.length v1.Code : Int) - 1)))),(18,iA (IntKind.i64.wrap ((List.length v1.Code : Int) - 1))),(17,iA (List.length v1.Code : Int)),(16,.isl 4 (List.map rApiIns v1.Code)),(15,.mpt 0 0 7),(14,iA v13.At),(13,.mpt 1 0 0)] 0 (by kernel_rfl) (by kernel_rfl) j0 (by kernel_rfl) (dt0 ⟨(fun _=>pa j0 j0 j0 j0 (pkb j0 hb20 j0<|j4)),(fun _=>pas (b:=(!(class_between v13.At 0 (IntKind.i64.wrap ((List.length v1.Code : Int) - 1))))) j0 j0 j0 j0 hb20 j0),(fun _=>pau j0 j0 j0 j0 j0),(fun _=>pau j0 j0 j0 j0 j0),(fun _=>pau j0 j0 j0 j0 j0),(fun _=>pau j0 j0 j0 j0 j0),(fun _=>pau j0 j0 j0 j0 j0),(fun _=>pau j0 j0 j0 j0 j0),(fun _=>pau j0 j0 j0 j0 j0),(fun _=>pau j0 j0 j0 j0 j0),(fun _=>pau j0 j0 j0 j0 j0),(fun _=>pau j0 j0 j0 j0 j0),(fun _=>pas (b:=(!(class_between v13.At 0 (IntKind.i64.wrap ((List.length v1.Code : Int) - 1))))) j0 j0 j0 j0 hb20 j0),(fun _=>pas (b:=(!(class_between v13.At 0 (IntKind.i64.wrap ((List.length v1.Code : Int) - 1))))) j0 j0 j0 j0 hb20 j0),(fun _=>pas (b:=(!(class_between v13.At 0 (IntKind.i64.wrap ((List.length v1.Code : Int) - 1))))) j0 j0 j0 j0 hb20 j0),(fun _=>pa j0 j0 j0 j0 (mv j0<|j4)),(fun _=>pa j0 j0 j0 j0 (nt j0<|j4)),(fun _=>pa j0 j0 j0 j0 (pc (class_between_ok v13.At 0 (IntKind.i64.wrap ((List.length v1.Code : Int) - 1)) j0) j0 j0 j0<|j4)),(fun _=>pa j0 j0 j0 j0 (sub ti3 j0 j0<|j4)),(fun _=>pa j0 j0 j0 j0 (lnI ti34 j0 j0<|j4)),(fun _=>pa j0 j0 j0 j0 (ld ti34 j0 j0<|j4)),(fun _=>pa j0 j0 j0 j0 (fa ti38 j0 j0 j0<|j4)),(fun _=>pa j0 j0 j0 j0 (ld ti3 j0 j0<|j4)),(fun _=>pa j0 j0 j0 j0 (fa ti80 j0 j0 j0<|j4)),j5⟩ (by kernel_rfl) j0 ⟨true,h,[.old 0,.old 1],cv j0 (.mpt j0)<|cv j0 (.mpt j0)<|ce j0 j0<|ce j0 j0<|ce j0 j0<|ce j0 j0<|cn,j0,⟨⟨_,j0,rsOne (ciL j0)⟩,⟨_,j0,rsOne (ciL j0)⟩,j5⟩,j0,j1⟩)
    ·
     replace h:=bF hb20 h
     rcases bb (decide (0 < v12)) with hb21 | hb21
     ·
      replace h:=bT hb21 h
      obtain ⟨v14,q22,h⟩:=bs h
      exact sw_region_dt [] [23,22,21,20,19,18,17,16,15,14,13,12,11,10,9,8,7,6,5,4,3,2,1,0] [(36,bA (decide (v13.At ≤ v14.At))),(35,bA (decide (v13.At ≤ v14.At))),(34,bA (decide (v13.At ≤ v14.At))),(33,iA v13.At),(32,.mpt 1 0 0),(31,iA v14.At),(30,.ipt 3 (List.map rApiMap v1.Maps) (Int.toNat (IntKind.i64.wrap (v12 - 1))) 0),(29,.ipt 3 (List.map rApiMap v1.Maps) (Int.toNat (IntKind.i64.wrap (v12 - 1))) 0),(28,iA (IntKind.i64.wrap (v12 - 1))),(27,iA v12),(26,.isl 3 (List.map rApiMap v1.Maps)),(25,.mpt 0 0 8),(24,bA (decide (0 < v12))),(23,bA (decide (0 < v12))),(22,iA v12),(21,bA (!(class_between v13.At 0 (IntKind.i64.wrap ((List.length v1.Code : Int) - 1))))),(20,bA (!(class_between v13.At 0 (IntKind.i64.wrap ((List.length v1.Code : Int) - 1))))),(19,bA (class_between v13.At 0 (IntKind.i64.wrap ((List.length v1.Code : Int) - 1)))),(18,iA (IntKind.i64.wrap ((List.length v1.Code : Int) - 1))),(17,iA (List.length v1.Code : Int)),(16,.isl 4 (List.map rApiIns v1.Code)),(15,.mpt 0 0 7),(14,iA v13.At),(13,.mpt 1 0 0)] 0 (by kernel_rfl) (by kernel_rfl) j0 (by kernel_rfl) (dt0 ⟨(fun _=>pa j0 j0 j0 j0 (pkb j0 hb20 j0<|j4)),(fun _=>pag (b:=(!(class_between v13.At 0 (IntKind.i64.wrap ((List.length v1.Code : Int) - 1))))) j0 j0 j0 j0 hb20 j0 (pkb j0 hb21 j0<|j4)),(fun _=>pag (b:=(decide (0 < v12))) j0 j0 j0 j0 hb21 j0 (geq ti3 j0 j0<|j4)),(fun _=>pag (b:=(decide (0 < v12))) j0 j0 j0 j0 hb21 j0 (ld ti3 j0 j0<|j4)),(fun _=>pag (b:=(decide (0 < v12))) j0 j0 j0 j0 hb21 j0 (fa ti80 j0 j0 j0<|j4)),(fun _=>pag (b:=(decide (0 < v12))) j0 j0 j0 j0 hb21 j0 (ldI ti3 j0 (idx_some q22).2.2 j0<|j4)),(fun _=>pag (b:=(decide (0 < v12))) j0 j0 j0 j0 hb21 j0 (fa ti80 j0 j0 j0<|j4)),(fun _=>pag (b:=(decide (0 < v12))) j0 j0 j0 j0 hb21 j0 (ixI ti35 j0 ti80 j0 j0 j0 q22<|j4)),(fun _=>pag (b:=(decide (0 < v12))) j0 j0 j0 j0 hb21 j0 (sub ti3 j0 j0<|j4)),(fun _=>pag (b:=(decide (0 < v12))) j0 j0 j0 j0 hb21 j0 (mv j0<|j4)),(fun _=>pag (b:=(decide (0 < v12))) j0 j0 j0 j0 hb21 j0 (ld ti35 j0 j0<|j4)),(fun _=>pag (b:=(decide (0 < v12))) j0 j0 j0 j0 hb21 j0 (fa ti38 j0 j0 j0<|j4)),(fun _=>pag (b:=(!(class_between v13.At 0 (IntKind.i64.wrap ((List.length v1.Code : Int) - 1))))) j0 j0 j0 j0 hb20 j0 (mv j0<|j4)),(fun _=>pag (b:=(!(class_between v13.At 0 (IntKind.i64.wrap ((List.length v1.Code : Int) - 1))))) j0 j0 j0 j0 hb20 j0 (gtr ti3 j0 j0<|j4)),(fun _=>pag (b:=(!(class_between v13.At 0 (IntKind.i64.wrap ((List.length v1.Code : Int) - 1))))) j0 j0 j0 j0 hb20 j0 (mv j0<|j4)),(fun _=>pa j0 j0 j0 j0 (mv j0<|j4)),(fun _=>pa j0 j0 j0 j0 (nt j0<|j4)),(fun _=>pa j0 j0 j0 j0 (pc (class_between_ok v13.At 0 (IntKind.i64.wrap ((List.length v1.Code : Int) - 1)) j0) j0 j0 j0<|j4)),(fun _=>pa j0 j0 j0 j0 (sub ti3 j0 j0<|j4)),(fun _=>pa j0 j0 j0 j0 (lnI ti34 j0 j0<|j4)),(fun _=>pa j0 j0 j0 j0 (ld ti34 j0 j0<|j4)),(fun _=>pa j0 j0 j0 j0 (fa ti38 j0 j0 j0<|j4)),(fun _=>pa j0 j0 j0 j0 (ld ti3 j0 j0<|j4)),(fun _=>pa j0 j0 j0 j0 (fa ti80 j0 j0 j0<|j4)),j5⟩ (by kernel_rfl) j0 ⟨(decide (v13.At ≤ v14.At)),h,[.old 0,.old 1],cv j0 (.mpt j0)<|cv j0 (.mpt j0)<|ce j0 j0<|ce j0 j0<|ce j0 j0<|ce j0 j0<|cn,j0,⟨⟨_,j0,rsOne (ciL j0)⟩,⟨_,j0,rsOne (ciL j0)⟩,j5⟩,j0,j1⟩)
     ·
      replace h:=bF hb21 h
      exact sw_region_dt [] [23,22,21,20,19,18,17,16,15,14,13,12,11,10,9,8,7,6,5,4,3,2,1,0] [(36,bA false),(35,bA false),(34,.lit undef),(33,.lit undef),(32,.lit undef),(31,.lit undef),(30,.lit undef),(29,.lit undef),(28,.lit undef),(27,.lit undef),(26,.lit undef),(25,.lit undef),(24,bA (decide (0 < v12))),(23,bA (decide (0 < v12))),(22,iA v12),(21,bA (!(class_between v13.At 0 (IntKind.i64.wrap ((List.length v1.Code : Int) - 1))))),(20,bA (!(class_between v13.At 0 (IntKind.i64.wrap ((List.length v1.Code : Int) - 1))))),(19,bA (class_between v13.At 0 (IntKind.i64.wrap ((List.length v1.Code : Int) - 1)))),(18,iA (IntKind.i64.wrap ((List.length v1.Code : Int) - 1))),(17,iA (List.length v1.Code : Int)),(16,.isl 4 (List.map rApiIns v1.Code)),(15,.mpt 0 0 7),(14,iA v13.At),(13,.mpt 1 0 0)] 0 (by kernel_rfl) (by kernel_rfl) j0 (by kernel_rfl) (dt0 ⟨(fun _=>pa j0 j0 j0 j0 (pkb j0 hb20 j0<|j4)),(fun _=>pag (b:=(!(class_between v13.At 0 (IntKind.i64.wrap ((List.length v1.Code : Int) - 1))))) j0 j0 j0 j0 hb20 j0 (pkb j0 hb21 j0<|j4)),(fun _=>pas (b:=(decide (0 < v12))) j0 j0 j0 j0 hb21 j0),(fun _=>pas (b:=(decide (0 < v12))) j0 j0 j0 j0 hb21 j0),(fun _=>pas (b:=(decide (0 < v12))) j0 j0 j0 j0 hb21 j0),(fun _=>pas (b:=(decide (0 < v12))) j0 j0 j0 j0 hb21 j0),(fun _=>pas (b:=(decide (0 < v12))) j0 j0 j0 j0 hb21 j0),(fun _=>pas (b:=(decide (0 < v12))) j0 j0 j0 j0 hb21 j0),(fun _=>pas (b:=(decide (0 < v12))) j0 j0 j0 j0 hb21 j0),(fun _=>pas (b:=(decide (0 < v12))) j0 j0 j0 j0 hb21 j0),(fun _=>pas (b:=(decide (0 < v12))) j0 j0 j0 j0 hb21 j0),(fun _=>pas (b:=(decide (0 < v12))) j0 j0 j0 j0 hb21 j0),(fun _=>pag (b:=(!(class_between v13.At 0 (IntKind.i64.wrap ((List.length v1.Code : Int) - 1))))) j0 j0 j0 j0 hb20 j0 (mv j0<|j4)),(fun _=>pag (b:=(!(class_between v13.At 0 (IntKind.i64.wrap ((List.length v1.Code : Int) - 1))))) j0 j0 j0 j0 hb20 j0 (gtr ti3 j0 j0<|j4)),(fun _=>pag (b:=(!(class_between v13.At 0 (IntKind.i64.wrap ((List.length v1.Code : Int) - 1))))) j0 j0 j0 j0 hb20 j0 (mv j0<|j4)),(fun _=>pa j0 j0 j0 j0 (mv j0<|j4)),(fun _=>pa j0 j0 j0 j0 (nt j0<|j4)),(fun _=>pa j0 j0 j0 j0 (pc (class_between_ok v13.At 0 (IntKind.i64.wrap ((List.length v1.Code : Int) - 1)) j0) j0 j0 j0<|j4)),(fun _=>pa j0 j0 j0 j0 (sub ti3 j0 j0<|j4)),(fun _=>pa j0 j0 j0 j0 (lnI ti34 j0 j0<|j4)),(fun _=>pa j0 j0 j0 j0 (ld ti34 j0 j0<|j4)),(fun _=>pa j0 j0 j0 j0 (fa ti38 j0 j0 j0<|j4)),(fun _=>pa j0 j0 j0 j0 (ld ti3 j0 j0<|j4)),(fun _=>pa j0 j0 j0 j0 (fa ti80 j0 j0 j0<|j4)),j5⟩ (by kernel_rfl) j0 ⟨false,h,[.old 0,.old 1],cv j0 (.mpt j0)<|cv j0 (.mpt j0)<|ce j0 j0<|ce j0 j0<|ce j0 j0<|ce j0 j0<|cn,j0,⟨⟨_,j0,rsOne (ciL j0)⟩,⟨_,j0,rsOne (ciL j0)⟩,j5⟩,j0,j1⟩)
   ·
    rintro v15 h
    replace h : class_maps_j2 v1 v12 v13 v15 = some r:=h
    unfold class_maps_j2 at h
    refine sw_cond j0 (fun hc23=>?_) (fun hc23=>?_)
    ·
     replace h:=bT hc23 h
     refine rg j0<|u<|asg j0<|r_nil ?_
     refine sw_ret ?_
     obtain rfl:=sm h
     exact ⟨_,j0,_,j0,[],ci j0,j0,j5,j0,j1⟩
    ·
     replace h:=bF hc23 h
     refine sw_skip ?_
     obtain ⟨v17,q27,h⟩:=bs h
     obtain ⟨v19,q30,h⟩:=bs h
     obtain ⟨v21,q33,h⟩:=bs h
     refine rg j0<|u<|fa ti80 j0 j0 j0<|u<|ld ti22 j0 j0<|u<|lnI ti22 j0 j0<|u<|fa ti38 j0 j0 j0<|u<|ld ti3 j0 j0<|u<|neq ti3 j0 j0<|u<|mv j0<|r_or (j:=6) 6 j0 j0 j0 j0 j0 gpn (fun hb24=>g j0 hb24<|fa ti80 j0 j0 j0<|g j0 hb24<|ld ti22 j0 j0<|g j0 hb24<|lnI ti22 j0 j0<|g j0 hb24<|fa ti38 j0 j0 j0<|g j0 hb24<|ld ti3 j0 j0<|g j0 hb24<|gtr ti3 j0 j0<|r_nil (egO [44,45,46,47,48,49] 6 hb24 j0 j0 j0 j0)) orT<|u<|mv j0<|r_or (x:=v17) (j:=14) 4 j0 j0 j0 j0 j0 gpn (fun hb25=>by replace q27:=bF hb25 q27; obtain ⟨v16,q26,q27⟩:=bs q27; obtain rfl:=sm q27; exact g j0 hb25<|fa ti80 j0 j0 j0<|g j0 hb25<|ld ti22 j0 j0<|g j0 hb25<|pc (class_types_s2_ok v13.Locals q26) j0 j0 j0<|g j0 hb25<|nt j0<|r_nil (eg [52,53,54,55] 4 j0 j0 j0 j0)) (fun hb=>(sm (bT hb q27)).symm)<|u<|mv j0<|r_or (x:=v19) (j:=20) 4 j0 j0 j0 j0 j0 gpn (fun hb28=>by replace q30:=bF hb28 q30; obtain ⟨v18,q29,q30⟩:=bs q30; obtain rfl:=sm q30; exact g j0 hb28<|fa ti80 j0 j0 j0<|g j0 hb28<|ld ti22 j0 j0<|g j0 hb28<|pc (class_types_s2_ok v13.Stack q29) j0 j0 j0<|g j0 hb28<|nt j0<|r_nil (eg [58,59,60,61] 4 j0 j0 j0 j0)) (fun hb=>(sm (bT hb q30)).symm)<|u<|mv j0<|r_or (x:=v21) (j:=26) 3 j0 j0 j0 j0 j0 gpn (fun hb31=>by replace q33:=bF hb31 q33; obtain ⟨v20,q32,q33⟩:=bs q33; obtain rfl:=sm q33; exact g j0 hb31<|fa ti80 j0 j0 j0<|g j0 hb31<|ld ti22 j0 j0<|g j0 hb31<|pc (slices_Contains_string_string_ok v13.Stack [84] q32) j0 j0 j0<|r_nil (eg [64,65,66] 3 j0 j0 j0 j0)) (fun hb=>(sm (bT hb q33)).symm)<|r_nil ?_
     refine sw_cond j0 (fun hc34=>?_) (fun hc34=>?_)
     ·
      replace h:=bT hc34 h
      refine rg j0<|u<|asg j0<|r_nil ?_
      refine sw_ret ?_
      obtain rfl:=sm h
      exact ⟨_,j0,_,j0,[],ci j0,j0,j5,j0,j1⟩
     ·
      replace h:=bF hc34 h
      refine sw_skip ?_
      refine rl j0<|u<|add ti3 j0 j0<|u<|mv j0<|r_nil ?_
      obtain rfl:=sm h
      exact ⟨_,j0,[.old 0],cv j0 (.mpt j0)<|ce j0 j0<|ce j0 j0<|ce j0 j0<|cn,j0,⟨⟨_,j0,rsOne (ciL j0)⟩,j5⟩,j0,j1⟩
  ·
   replace h:=bF hc18 h
   refine sw_exit ?_
   obtain rfl:=sm h
   exact ⟨j0,_,j0,[.old 0],cv j0 (.mpt j0)<|cn,j0,⟨⟨_,j0,rsOne (ciL j0)⟩,j5⟩,j0,j1⟩
 ·
  rintro ⟨⟩ rfl
  replace h : class_maps_k4 v1 = some r:=h
  unfold class_maps_k4 at h
  refine ow_intro ?_
  refine rg j0<|u<|fa ti38 j0 j0 j0<|u<|ld ti35 j0 j0<|u<|lnI ti35 j0 j0<|u<|leq ti3 j0 j0<|u<|asg j0<|r_nil ?_
  refine sw_ret ?_
  obtain rfl:=sm h
  exact ⟨_,j0,[],ci j0,j0,j5,j0,j1⟩
 ·
  rintro r' rfl env st hp
  obtain rfl:=sm h
  exact hp
def class_traps_1 (v1 : ApiTrap) (v2 : List UInt8) (v3 : List (List UInt8)) (v4 : List UInt8) (v5 : Bool) (v6 : Bool) (v7 : Int) (v8 : Int) (v9 : List ApiIns) (v10 : List ApiMap) (v11 : List ApiTrap) : Option (Bool) :=
  (cond ((((decide (v1.From < 0)) || (decide (v1.To ≤ v1.From))) || (decide ((List.length v9 : Int) < v1.To))) || (!(class_between v1.At 0 (IntKind.i64.wrap ((List.length v9 : Int) - 1))))) (some true) ((cond (!(v1.C == [])) ((kind_Class v1.C).bind fun v12=>some (!v12)) (some false)).bind fun v13=>some v13)).bind fun v14=>some v14
theorem class_traps_1_ok (v1 : ApiTrap) (v2 : List UInt8) (v3 : List (List UInt8)) (v4 : List UInt8) (v5 : Bool) (v6 : Bool) (v7 : Int) (v8 : Int) (v9 : List ApiIns) (v10 : List ApiMap) (v11 : List ApiTrap) {r : Bool} (h : class_traps_1 v1 v2 v3 v4 v5 v6 v7 v8 v9 v10 v11 = some r) : PureC Tryz.prog 328 [.agg (rApiTrap v1),.ipt 10 [[sA v2,.isl 1 (List.map rStr v3),sA v4,bA v5,bA v6,iA v7,iA v8,.isl 4 (List.map rApiIns v9),.isl 3 (List.map rApiMap v10),.isl 4 (List.map rApiTrap v11)]] 0 0] (bA r):=by
 refine pure_fn Tryz.func328 j0 (by kernel_rfl) j0 j0 ?_
 unfold class_traps_1 at h
 refine rg j0<|u<|bx 0 4 j0 j0 j0 j0<|u<|asg j0<|r_nil ?_
 obtain ⟨v14,q8,h⟩:=bs h
 refine rg j0<|u<|fa ti88 j0 j0 j0<|u<|ld ti3 j0 j0<|u<|lss ti3 j0 j0<|u<|mv j0<|r_or (j:=3) 5 j0 j0 j0 j0 j0 gpn (fun hb1=>g j0 hb1<|fa ti88 j0 j0 j0<|g j0 hb1<|ld ti3 j0 j0<|g j0 hb1<|fa ti88 j0 j0 j0<|g j0 hb1<|ld ti3 j0 j0<|g j0 hb1<|geq ti3 j0 j0<|r_nil (egO [8,9,10,11,12] 5 hb1 j0 j0 j0 j0)) orT<|u<|mv j0<|r_or (j:=10) 6 j0 j0 j0 j0 j0 gpn (fun hb2=>g j0 hb2<|fa ti88 j0 j0 j0<|g j0 hb2<|ld ti3 j0 j0<|g j0 hb2<|fa ti38 j0 j0 j0<|g j0 hb2<|ld ti34 j0 j0<|g j0 hb2<|lnI ti34 j0 j0<|g j0 hb2<|gtr ti3 j0 j0<|r_nil (egO [15,16,17,18,19,20] 6 hb2 j0 j0 j0 j0)) orT<|u<|mv j0<|r_or (j:=18) 8 j0 j0 j0 j0 j0 gpn (fun hb3=>g j0 hb3<|fa ti88 j0 j0 j0<|g j0 hb3<|ld ti3 j0 j0<|g j0 hb3<|fa ti38 j0 j0 j0<|g j0 hb3<|ld ti34 j0 j0<|g j0 hb3<|lnI ti34 j0 j0<|g j0 hb3<|sub ti3 j0 j0<|g j0 hb3<|pc (class_between_ok v1.At 0 (IntKind.i64.wrap ((List.length v9 : Int) - 1)) j0) j0 j0 j0<|g j0 hb3<|nt j0<|r_nil (egO [23,24,25,26,27,28,29,30] 8 hb3 j0 j0 j0 j0)) orT<|u<|mv j0<|r_or (x:=v14) (j:=28) 9 j0 j0 j0 j0 j0 gpn (fun hb4=>by replace q8:=bF hb4 q8; obtain ⟨v13,q7,q8⟩:=bs q8; obtain rfl:=sm q8; exact g j0 hb4<|fa ti88 j0 j0 j0<|g j0 hb4<|ld ti9 j0 j0<|g j0 hb4<|sne ti9 j0 j0<|g j0 hb4<|mv j0<|r_and (x:=v13) (j:=32) 4 j0 j0 j0 j0 j0 (gps j0 j0 hb4) (fun hb5=>by replace q7:=bT hb5 q7; obtain ⟨v12,q6,q7⟩:=bs q7; obtain rfl:=sm q7; exact g j0 hb5<|fa ti88 j0 j0 j0<|g j0 hb5<|ld ti9 j0 j0<|g j0 hb5<|pc (kind_Class_ok v1.C q6) j0 j0 j0<|g j0 hb5<|nt j0<|r_nil (eg [37,38,39,40] 4 j0 j0 j0 j0)) (fun hb=>(sm (bF hb q7)).symm)<|r_nil (eg [33,34,35,36,37,38,39,40,41] 5 j0 j0 j0 j0)) (fun hb=>(sm (bT hb q8)).symm)<|u<|asg j0<|r_nil ?_
 refine sw_ret ?_
 obtain rfl:=sm h
 exact ⟨_,j0,[],ci j0,j0,j5,j0,j1⟩
def slices_IndexFunc_api_Trap_api_Trap_k2 : Option (Int) :=
  some (-1)
def slices_IndexFunc_api_Trap_api_Trap_l1 (v1 : List ApiTrap) (v2 : List UInt8) (v3 : List (List UInt8)) (v4 : List UInt8) (v5 : Bool) (v6 : Bool) (v7 : Int) (v8 : Int) (v9 : List ApiIns) (v10 : List ApiMap) (v11 : List ApiTrap) (v15 : Int) : Option (Sum (Int) (Sum (Unit) (Int))) :=
  cond (decide (v15 < (List.length v1 : Int))) ((idx v1 v15).bind fun v16=>(class_traps_1 v16 v2 v3 v4 v5 v6 v7 v8 v9 v10 v11).bind fun v17=>cond v17 (some (.inr (.inr v15))) (some (.inl (IntKind.i64.wrap (v15 + 1))))) (some (.inr (.inl ())))
def slices_IndexFunc_api_Trap_api_Trap (v1 : List ApiTrap) (v2 : List UInt8) (v3 : List (List UInt8)) (v4 : List UInt8) (v5 : Bool) (v6 : Bool) (v7 : Int) (v8 : Int) (v9 : List ApiIns) (v10 : List ApiMap) (v11 : List ApiTrap) : Option (Int) :=
  (loopP (fun z=>slices_IndexFunc_api_Trap_api_Trap_l1 v1 v2 v3 v4 v5 v6 v7 v8 v9 v10 v11 z) 0).bind fun o=>leave o (fun b=>slices_IndexFunc_api_Trap_api_Trap_k2) some
theorem slices_IndexFunc_api_Trap_api_Trap_ok (v1 : List ApiTrap) (v2 : List UInt8) (v3 : List (List UInt8)) (v4 : List UInt8) (v5 : Bool) (v6 : Bool) (v7 : Int) (v8 : Int) (v9 : List ApiIns) (v10 : List ApiMap) (v11 : List ApiTrap) {r : Int} (h : slices_IndexFunc_api_Trap_api_Trap v1 v2 v3 v4 v5 v6 v7 v8 v9 v10 v11 = some r) : PureC Tryz.prog 348 [.isl 4 (List.map rApiTrap v1),.fn (.func 328) [] [.ipt 10 [[sA v2,.isl 1 (List.map rStr v3),sA v4,bA v5,bA v6,iA v7,iA v8,.isl 4 (List.map rApiIns v9),.isl 3 (List.map rApiMap v10),.isl 4 (List.map rApiTrap v11)]] 0 0]] (iA r):=by
 refine pure_fn Tryz.func348 j0 (by kernel_rfl) j0 j0 ?_
 unfold slices_IndexFunc_api_Trap_api_Trap at h
 refine rg j0<|u<|asg j0<|r_nil ?_
 refine sw_seq ?_
 refine rg j0<|u<|mv j0<|u<|lnI ti36 j0 j0<|u<|mv j0<|r_nil ?_
 obtain ⟨o,ho,h⟩:=bs h
 refine sw_lpl (X:=Int) (B:=Unit) (R:=Int) (fun z=>[(0,.isl 4 (List.map rApiTrap v1)),(1,.fn (.func 328) [] [.ipt 10 [[sA v2,.isl 1 (List.map rStr v3),sA v4,bA v5,bA v6,iA v7,iA v8,.isl 4 (List.map rApiIns v9),.isl 3 (List.map rApiMap v10),.isl 4 (List.map rApiTrap v11)]] 0 0]),(7,iA (List.length v1 : Int)),(8,iA z)]) (fun z=>[]) (fun b=>[]) (fun b=>[]) (fun r env st=>PostF Tryz.prog Tryz.f348 0 (iA r) [] env st) ho ⟨[],ce j0 j0<|ce j0 j0<|ce j0 j0<|ce j0 j0<|cn,j0,j5,j0,j1⟩ ?_ ?_ ?_
 ·
  rintro v15 r h
  replace h : slices_IndexFunc_api_Trap_api_Trap_l1 v1 v2 v3 v4 v5 v6 v7 v8 v9 v10 v11 v15 = some r:=h
  unfold slices_IndexFunc_api_Trap_api_Trap_l1 at h
  refine rg j0<|u<|lss ti3 j0 j0<|r_nil ?_
  refine sw_seq ?_
  refine sw_cond j0 (fun hc5=>?_) (fun hc5=>?_)
  ·
   replace h:=bT hc5 h
   refine sw_skip ?_
   refine sw_seq ?_
   refine sw_block ?_
   refine rg j0<|u<|mv j0<|u<|asg j0<|r_nil ?_
   obtain ⟨v16,q6,h⟩:=bs h
   obtain ⟨v17,q7,h⟩:=bs h
   refine rg j0<|u<|mv j0<|u<|mv j0<|u<|mv j0<|u<|ixI ti36 j0 ti88 j0 j0 j0 q6<|u<|ldI ti88 j0 (idx_some q6).2.2 j0<|u<|pc (class_traps_1_ok v16 v2 v3 v4 v5 v6 v7 v8 v9 v10 v11 q7) j0 j0 j0<|r_nil ?_
   refine sw_cond j0 (fun hc8=>?_) (fun hc8=>?_)
   ·
    replace h:=bT hc8 h
    refine rg j0<|u<|mv j0<|u<|asg j0<|r_nil ?_
    refine sw_ret ?_
    obtain rfl:=sm h
    exact ⟨_,j0,_,j0,[],ci j0,j0,j5,j0,j1⟩
   ·
    replace h:=bF hc8 h
    refine sw_skip ?_
    refine rl j0<|u<|add ti3 j0 j0<|u<|mv j0<|r_nil ?_
    obtain rfl:=sm h
    exact ⟨_,j0,[],ce j0 j0<|ce j0 j0<|ce j0 j0<|ce j0 j0<|cn,j0,j5,j0,j1⟩
  ·
   replace h:=bF hc5 h
   refine sw_exit ?_
   obtain rfl:=sm h
   exact ⟨j0,_,j0,[],cn,j0,j5,j0,j1⟩
 ·
  rintro ⟨⟩ rfl
  replace h : slices_IndexFunc_api_Trap_api_Trap_k2 = some r:=h
  unfold slices_IndexFunc_api_Trap_api_Trap_k2 at h
  refine ow_intro ?_
  refine rg j0<|u<|asg j0<|r_nil ?_
  refine sw_ret ?_
  obtain rfl:=sm h
  exact ⟨_,j0,[],ci j0,j0,j5,j0,j1⟩
 ·
  rintro r' rfl env st hp
  obtain rfl:=sm h
  exact hp
def slices_ContainsFunc_api_Trap_api_Trap (v1 : List ApiTrap) (v2 : List UInt8) (v3 : List (List UInt8)) (v4 : List UInt8) (v5 : Bool) (v6 : Bool) (v7 : Int) (v8 : Int) (v9 : List ApiIns) (v10 : List ApiMap) (v11 : List ApiTrap) : Option (Bool) :=
  (slices_IndexFunc_api_Trap_api_Trap v1 v2 v3 v4 v5 v6 v7 v8 v9 v10 v11).bind fun v12=>some (decide (0 ≤ v12))
theorem slices_ContainsFunc_api_Trap_api_Trap_ok (v1 : List ApiTrap) (v2 : List UInt8) (v3 : List (List UInt8)) (v4 : List UInt8) (v5 : Bool) (v6 : Bool) (v7 : Int) (v8 : Int) (v9 : List ApiIns) (v10 : List ApiMap) (v11 : List ApiTrap) {r : Bool} (h : slices_ContainsFunc_api_Trap_api_Trap v1 v2 v3 v4 v5 v6 v7 v8 v9 v10 v11 = some r) : PureC Tryz.prog 302 [.isl 4 (List.map rApiTrap v1),.fn (.func 328) [] [.ipt 10 [[sA v2,.isl 1 (List.map rStr v3),sA v4,bA v5,bA v6,iA v7,iA v8,.isl 4 (List.map rApiIns v9),.isl 3 (List.map rApiMap v10),.isl 4 (List.map rApiTrap v11)]] 0 0]] (bA r):=by
 refine pure_fn Tryz.func302 j0 (by kernel_rfl) j0 j0 ?_
 unfold slices_ContainsFunc_api_Trap_api_Trap at h
 refine rg j0<|u<|asg j0<|r_nil ?_
 obtain ⟨v12,q1,h⟩:=bs h
 refine rg j0<|u<|mv j0<|u<|mv j0<|u<|pc (slices_IndexFunc_api_Trap_api_Trap_ok v1 v2 v3 v4 v5 v6 v7 v8 v9 v10 v11 q1) j0 j0 j0<|u<|geq ti3 j0 j0<|u<|asg j0<|r_nil ?_
 refine sw_ret ?_
 obtain rfl:=sm h
 exact ⟨_,j0,[],ci j0,j0,j5,j0,j1⟩
def class_traps (v1 : ApiMethod) : Option (Bool) :=
  (slices_ContainsFunc_api_Trap_api_Trap v1.Traps v1.Name v1.Params v1.Ret v1.Static v1.Abstract v1.Locals v1.Stack v1.Code v1.Maps v1.Traps).bind fun v2=>some ((!v2) && (decide ((List.length v1.Traps : Int) ≤ 6)))
theorem class_traps_ok (v1 : ApiMethod) {r : Bool} (h : class_traps v1 = some r) : PureC Tryz.prog 248 [.agg (rApiMethod v1)] (bA r):=by
 refine pure_fn Tryz.func248 j0 (by kernel_rfl) j0 j0 ?_
 unfold class_traps at h
 refine rg j0<|u<|bx 0 10 j0 j0 j0 j0<|u<|asg j0<|r_nil ?_
 obtain ⟨v2,q1,h⟩:=bs h
 refine rg j0<|u<|fa ti38 j0 j0 j0<|u<|ld ti36 j0 j0<|u<|mf j0 j0<|u<|pcs (slices_ContainsFunc_api_Trap_api_Trap_ok v1.Traps v1.Name v1.Params v1.Ret v1.Static v1.Abstract v1.Locals v1.Stack v1.Code v1.Maps v1.Traps q1) j0 j0 (.cons (si j0) (.cons (sealFn j5 ⟨(sealBox j0 ⟨(si j0),(si j0),(si j0),(si j0),(si j0),(si j0),(si j0),(si j0),(si j0),(si j0),j5⟩),j5⟩) .nil)) plainB<|u<|asg j0<|r_nil ?_
 refine rg j0<|u<|mv j0<|u<|nt j0<|u<|mv j0<|r_and (j:=2) 4 j0 j0 j0 j0 j0 gpn (fun hb2=>g j0 hb2<|fa ti38 j0 j0 j0<|g j0 hb2<|ld ti36 j0 j0<|g j0 hb2<|lnI ti36 j0 j0<|g j0 hb2<|leq ti3 j0 j0<|r_nil (egA [11,12,13,14] 4 hb2 j0 j0 j0 j0)) andF<|u<|asg j0<|r_nil ?_
 refine sw_ret ?_
 obtain rfl:=sm h
 exact ⟨_,j0,[],ci j0,j0,j5,j0,j1⟩
def class_method_j1 (v10 : Bool) : Option (Bool) :=
  some v10
def class_method (v1 : ApiMethod) : Option (Bool) :=
  (kind_Name v1.Name).bind fun v2=>(cond ((!v2) || (decide (6 < (List.length v1.Params : Int)))) (some true) ((class_types v1.Params).bind fun v3=>some (!v3))).bind fun v4=>(cond v4 (some true) ((kind_Ret v1.Ret).bind fun v5=>some (!v5))).bind fun v6=>cond v6 (some false) (cond v1.Abstract (some (class_empty v1)) (cond ((v1.Name == [36,105,110,105,116]) && (((!v1.Static) || (decide (0 < (List.length v1.Params : Int)))) || (!(v1.Ret == [86])))) (some false) (cond (class_between v1.Locals (class_args v1) 16) (cond (class_between v1.Stack 0 16) ((class_instructions v1).bind fun v7=>cond v7 ((class_maps v1).bind fun v8=>cond v8 ((class_traps v1).bind fun v9=>class_method_j1 v9) (class_method_j1 false)) (class_method_j1 false)) (class_method_j1 false)) (class_method_j1 false))))
theorem class_method_ok (v1 : ApiMethod) {r : Bool} (h : class_method v1 = some r) : PureC Tryz.prog 157 [.agg (rApiMethod v1)] (bA r):=by
 refine pure_fn Tryz.func157 j0 (by kernel_rfl) j0 j0 ?_
 unfold class_method at h
 refine rg j0<|u<|bx 0 10 j0 j0 j0 j0<|u<|asg j0<|r_nil ?_
 refine sw_seq ?_
 obtain ⟨v2,q1,h⟩:=bs h
 obtain ⟨v4,q5,h⟩:=bs h
 obtain ⟨v6,q8,h⟩:=bs h
 refine rg j0<|u<|fa ti38 j0 j0 j0<|u<|ld ti9 j0 j0<|u<|pc (kind_Name_ok v1.Name q1) j0 j0 j0<|u<|nt j0<|u<|mv j0<|r_or (j:=4) 4 j0 j0 j0 j0 j0 gpn (fun hb2=>g j0 hb2<|fa ti38 j0 j0 j0<|g j0 hb2<|ld ti22 j0 j0<|g j0 hb2<|lnI ti22 j0 j0<|g j0 hb2<|gtr ti3 j0 j0<|r_nil (egO [8,9,10,11] 4 hb2 j0 j0 j0 j0)) orT<|u<|mv j0<|r_or (x:=v4) (j:=10) 4 j0 j0 j0 j0 j0 gpn (fun hb3=>by replace q5:=bF hb3 q5; obtain ⟨v3,q4,q5⟩:=bs q5; obtain rfl:=sm q5; exact g j0 hb3<|fa ti38 j0 j0 j0<|g j0 hb3<|ld ti22 j0 j0<|g j0 hb3<|pc (class_types_ok v1.Params q4) j0 j0 j0<|g j0 hb3<|nt j0<|r_nil (eg [14,15,16,17] 4 j0 j0 j0 j0)) (fun hb=>(sm (bT hb q5)).symm)<|u<|mv j0<|r_or (x:=v6) (j:=16) 4 j0 j0 j0 j0 j0 gpn (fun hb6=>by replace q8:=bF hb6 q8; obtain ⟨v5,q7,q8⟩:=bs q8; obtain rfl:=sm q8; exact g j0 hb6<|fa ti38 j0 j0 j0<|g j0 hb6<|ld ti9 j0 j0<|g j0 hb6<|pc (kind_Ret_ok v1.Ret q7) j0 j0 j0<|g j0 hb6<|nt j0<|r_nil (eg [20,21,22,23] 4 j0 j0 j0 j0)) (fun hb=>(sm (bT hb q8)).symm)<|r_nil ?_
 refine sw_cond j0 (fun hc9=>?_) (fun hc9=>?_)
 ·
  replace h:=bT hc9 h
  refine rg j0<|u<|asg j0<|r_nil ?_
  refine sw_ret ?_
  obtain rfl:=sm h
  exact ⟨_,j0,[],ci j0,j0,j5,j0,j1⟩
 ·
  replace h:=bF hc9 h
  refine sw_skip ?_
  refine sw_seq ?_
  refine rg j0<|u<|fa ti38 j0 j0 j0<|u<|ld ti4 j0 j0<|r_nil ?_
  refine sw_cond j0 (fun hc10=>?_) (fun hc10=>?_)
  ·
   replace h:=bT hc10 h
   refine rg j0<|u<|ld ti38 j0 j0<|u<|pc (class_empty_ok v1 j0) j0 j0 j0<|u<|asg j0<|r_nil ?_
   refine sw_ret ?_
   obtain rfl:=sm h
   exact ⟨_,j0,[],ci j0,j0,j5,j0,j1⟩
  ·
   replace h:=bF hc10 h
   refine sw_skip ?_
   refine sw_seq ?_
   refine rg j0<|u<|fa ti38 j0 j0 j0<|u<|ld ti9 j0 j0<|u<|seq ti9 j0 j0<|u<|mv j0<|r_and (j:=3) 14 j0 j0 j0 j0 j0 gpn (fun hb11=>g j0 hb11<|fa ti38 j0 j0 j0<|g j0 hb11<|ld ti4 j0 j0<|g j0 hb11<|nt j0<|g j0 hb11<|mv j0<|r_or (j:=7) 4 j0 j0 j0 j0 j0 (gps j0 j0 hb11) (fun hb12=>g j0 hb12<|fa ti38 j0 j0 j0<|g j0 hb12<|ld ti22 j0 j0<|g j0 hb12<|lnI ti22 j0 j0<|g j0 hb12<|gtr ti3 j0 j0<|r_nil (egO [37,38,39,40] 4 hb12 j0 j0 j0 j0)) orT<|g j0 hb11<|mv j0<|r_or (j:=13) 3 j0 j0 j0 j0 j0 (gps j0 j0 hb11) (fun hb13=>g j0 hb13<|fa ti38 j0 j0 j0<|g j0 hb13<|ld ti9 j0 j0<|g j0 hb13<|sne ti9 j0 j0<|r_nil (egO [43,44,45] 3 hb13 j0 j0 j0 j0)) orT<|r_nil (egA [33,34,35,36,37,38,39,40,41,42,43,44,45,46] 7 hb11 j0 j0 j0 j0)) andF<|r_nil ?_
   refine sw_cond j0 (fun hc14=>?_) (fun hc14=>?_)
   ·
    replace h:=bT hc14 h
    refine rg j0<|u<|asg j0<|r_nil ?_
    refine sw_ret ?_
    obtain rfl:=sm h
    exact ⟨_,j0,[],ci j0,j0,j5,j0,j1⟩
   ·
    replace h:=bF hc14 h
    refine sw_skip ?_
    refine sw_meet (X:=Bool) (fun z=>[(2,bA z)]) (fun z=>[]) (fun z=>class_method_j1 z = some r) ?_ ?_
    ·
     rcases bb (class_between v1.Locals (class_args v1) 16) with hb15 | hb15
     ·
      replace h:=bT hb15 h
      rcases bb (class_between v1.Stack 0 16) with hb16 | hb16
      ·
       replace h:=bT hb16 h
       obtain ⟨v7,q17,h⟩:=bs h
       rcases bb v7 with hb18 | hb18
       ·
        replace h:=bT hb18 h
        obtain ⟨v8,q19,h⟩:=bs h
        rcases bb v8 with hb20 | hb20
        ·
         replace h:=bT hb20 h
         obtain ⟨v9,q21,h⟩:=bs h
         exact sw_region_dt [] [22,21,20,19,18,17,16,15,14,13,12,11,10,9,8,7,6,5,4,3,2,1,0] [(2,bA v9),(69,bA v9),(68,bA v9),(67,.agg (rApiMethod v1)),(66,bA v8),(65,bA v8),(64,bA v8),(63,.agg (rApiMethod v1)),(62,bA v7),(61,bA v7),(60,bA v7),(59,.agg (rApiMethod v1)),(58,bA (class_between v1.Stack 0 16)),(57,bA (class_between v1.Stack 0 16)),(56,bA (class_between v1.Stack 0 16)),(55,iA v1.Stack),(54,.mpt 0 0 6),(53,bA (class_between v1.Locals (class_args v1) 16)),(52,bA (class_between v1.Locals (class_args v1) 16)),(51,iA (class_args v1)),(50,.agg (rApiMethod v1)),(49,iA v1.Locals),(48,.mpt 0 0 5)] 0 (by kernel_rfl) (by kernel_rfl) j0 (by kernel_rfl) (dt0 ⟨(fun _=>pa j0 j0 j0 j0 (asg j0<|j4)),(fun _=>pa j0 j0 j0 j0 (pkb j0 hb20 j0<|j4)),(fun _=>pag (b:=v8) j0 j0 j0 j0 hb20 j0 (pc (class_traps_ok v1 q21) j0 j0 j0<|j4)),(fun _=>pag (b:=v8) j0 j0 j0 j0 hb20 j0 (ld ti38 j0 j0<|j4)),(fun _=>pa j0 j0 j0 j0 (mv j0<|j4)),(fun _=>pa j0 j0 j0 j0 (pkb j0 hb18 j0<|j4)),(fun _=>pag (b:=v7) j0 j0 j0 j0 hb18 j0 (pc (class_maps_ok v1 q19) j0 j0 j0<|j4)),(fun _=>pag (b:=v7) j0 j0 j0 j0 hb18 j0 (ld ti38 j0 j0<|j4)),(fun _=>pa j0 j0 j0 j0 (mv j0<|j4)),(fun _=>pa j0 j0 j0 j0 (pkb j0 hb16 j0<|j4)),(fun _=>pag (b:=(class_between v1.Stack 0 16)) j0 j0 j0 j0 hb16 j0 (pc (class_instructions_ok v1 q17) j0 j0 j0<|j4)),(fun _=>pag (b:=(class_between v1.Stack 0 16)) j0 j0 j0 j0 hb16 j0 (ld ti38 j0 j0<|j4)),(fun _=>pa j0 j0 j0 j0 (mv j0<|j4)),(fun _=>pa j0 j0 j0 j0 (pkb j0 hb15 j0<|j4)),(fun _=>pag (b:=(class_between v1.Locals (class_args v1) 16)) j0 j0 j0 j0 hb15 j0 (pc (class_between_ok v1.Stack 0 16 j0) j0 j0 j0<|j4)),(fun _=>pag (b:=(class_between v1.Locals (class_args v1) 16)) j0 j0 j0 j0 hb15 j0 (ld ti3 j0 j0<|j4)),(fun _=>pag (b:=(class_between v1.Locals (class_args v1) 16)) j0 j0 j0 j0 hb15 j0 (fa ti38 j0 j0 j0<|j4)),(fun _=>pa j0 j0 j0 j0 (mv j0<|j4)),(fun _=>pa j0 j0 j0 j0 (pc (class_between_ok v1.Locals (class_args v1) 16 j0) j0 j0 j0<|j4)),(fun _=>pa j0 j0 j0 j0 (pc (class_args_ok v1 j0) j0 j0 j0<|j4)),(fun _=>pa j0 j0 j0 j0 (ld ti38 j0 j0<|j4)),(fun _=>pa j0 j0 j0 j0 (ld ti3 j0 j0<|j4)),(fun _=>pa j0 j0 j0 j0 (fa ti38 j0 j0 j0<|j4)),j5⟩ (by kernel_rfl) j0 ⟨v9,h,[],ce j0 j0<|cn,j0,j5,j0,j1⟩)
        ·
         replace h:=bF hb20 h
         exact sw_region_dt [] [22,21,20,19,18,17,16,15,14,13,12,11,10,9,8,7,6,5,4,3,2,1,0] [(2,bA false),(69,bA false),(68,.lit undef),(67,.lit undef),(66,bA v8),(65,bA v8),(64,bA v8),(63,.agg (rApiMethod v1)),(62,bA v7),(61,bA v7),(60,bA v7),(59,.agg (rApiMethod v1)),(58,bA (class_between v1.Stack 0 16)),(57,bA (class_between v1.Stack 0 16)),(56,bA (class_between v1.Stack 0 16)),(55,iA v1.Stack),(54,.mpt 0 0 6),(53,bA (class_between v1.Locals (class_args v1) 16)),(52,bA (class_between v1.Locals (class_args v1) 16)),(51,iA (class_args v1)),(50,.agg (rApiMethod v1)),(49,iA v1.Locals),(48,.mpt 0 0 5)] 0 (by kernel_rfl) (by kernel_rfl) j0 (by kernel_rfl) (dt0 ⟨(fun _=>pa j0 j0 j0 j0 (asg j0<|j4)),(fun _=>pa j0 j0 j0 j0 (pkb j0 hb20 j0<|j4)),(fun _=>pas (b:=v8) j0 j0 j0 j0 hb20 j0),(fun _=>pas (b:=v8) j0 j0 j0 j0 hb20 j0),(fun _=>pa j0 j0 j0 j0 (mv j0<|j4)),(fun _=>pa j0 j0 j0 j0 (pkb j0 hb18 j0<|j4)),(fun _=>pag (b:=v7) j0 j0 j0 j0 hb18 j0 (pc (class_maps_ok v1 q19) j0 j0 j0<|j4)),(fun _=>pag (b:=v7) j0 j0 j0 j0 hb18 j0 (ld ti38 j0 j0<|j4)),(fun _=>pa j0 j0 j0 j0 (mv j0<|j4)),(fun _=>pa j0 j0 j0 j0 (pkb j0 hb16 j0<|j4)),(fun _=>pag (b:=(class_between v1.Stack 0 16)) j0 j0 j0 j0 hb16 j0 (pc (class_instructions_ok v1 q17) j0 j0 j0<|j4)),(fun _=>pag (b:=(class_between v1.Stack 0 16)) j0 j0 j0 j0 hb16 j0 (ld ti38 j0 j0<|j4)),(fun _=>pa j0 j0 j0 j0 (mv j0<|j4)),(fun _=>pa j0 j0 j0 j0 (pkb j0 hb15 j0<|j4)),(fun _=>pag (b:=(class_between v1.Locals (class_args v1) 16)) j0 j0 j0 j0 hb15 j0 (pc (class_between_ok v1.Stack 0 16 j0) j0 j0 j0<|j4)),(fun _=>pag (b:=(class_between v1.Locals (class_args v1) 16)) j0 j0 j0 j0 hb15 j0 (ld ti3 j0 j0<|j4)),(fun _=>pag (b:=(class_between v1.Locals (class_args v1) 16)) j0 j0 j0 j0 hb15 j0 (fa ti38 j0 j0 j0<|j4)),(fun _=>pa j0 j0 j0 j0 (mv j0<|j4)),(fun _=>pa j0 j0 j0 j0 (pc (class_between_ok v1.Locals (class_args v1) 16 j0) j0 j0 j0<|j4)),(fun _=>pa j0 j0 j0 j0 (pc (class_args_ok v1 j0) j0 j0 j0<|j4)),(fun _=>pa j0 j0 j0 j0 (ld ti38 j0 j0<|j4)),(fun _=>pa j0 j0 j0 j0 (ld ti3 j0 j0<|j4)),(fun _=>pa j0 j0 j0 j0 (fa ti38 j0 j0 j0<|j4)),j5⟩ (by kernel_rfl) j0 ⟨false,h,[],ce j0 j0<|cn,j0,j5,j0,j1⟩)
       ·
        replace h:=bF hb18 h
        exact sw_region_dt [] [22,21,20,19,18,17,16,15,14,13,12,11,10,9,8,7,6,5,4,3,2,1,0] [(2,bA false),(69,bA false),(68,.lit undef),(67,.lit undef),(66,bA false),(65,bA false),(64,.lit undef),(63,.lit undef),(62,bA v7),(61,bA v7),(60,bA v7),(59,.agg (rApiMethod v1)),(58,bA (class_between v1.Stack 0 16)),(57,bA (class_between v1.Stack 0 16)),(56,bA (class_between v1.Stack 0 16)),(55,iA v1.Stack),(54,.mpt 0 0 6),(53,bA (class_between v1.Locals (class_args v1) 16)),(52,bA (class_between v1.Locals (class_args v1) 16)),(51,iA (class_args v1)),(50,.agg (rApiMethod v1)),(49,iA v1.Locals),(48,.mpt 0 0 5)] 0 (by kernel_rfl) (by kernel_rfl) j0 (by kernel_rfl) (dt0 ⟨(fun _=>pa j0 j0 j0 j0 (asg j0<|j4)),(fun _=>pa j0 j0 j0 j0 (pk (b:=false) j0 j0<|j4)),(fun _=>pas (b:=false) j0 j0 j0 j0 j0 j0),(fun _=>pas (b:=false) j0 j0 j0 j0 j0 j0),(fun _=>pa j0 j0 j0 j0 (mv j0<|j4)),(fun _=>pa j0 j0 j0 j0 (pkb j0 hb18 j0<|j4)),(fun _=>pas (b:=v7) j0 j0 j0 j0 hb18 j0),(fun _=>pas (b:=v7) j0 j0 j0 j0 hb18 j0),(fun _=>pa j0 j0 j0 j0 (mv j0<|j4)),(fun _=>pa j0 j0 j0 j0 (pkb j0 hb16 j0<|j4)),(fun _=>pag (b:=(class_between v1.Stack 0 16)) j0 j0 j0 j0 hb16 j0 (pc (class_instructions_ok v1 q17) j0 j0 j0<|j4)),(fun _=>pag (b:=(class_between v1.Stack 0 16)) j0 j0 j0 j0 hb16 j0 (ld ti38 j0 j0<|j4)),(fun _=>pa j0 j0 j0 j0 (mv j0<|j4)),(fun _=>pa j0 j0 j0 j0 (pkb j0 hb15 j0<|j4)),(fun _=>pag (b:=(class_between v1.Locals (class_args v1) 16)) j0 j0 j0 j0 hb15 j0 (pc (class_between_ok v1.Stack 0 16 j0) j0 j0 j0<|j4)),(fun _=>pag (b:=(class_between v1.Locals (class_args v1) 16)) j0 j0 j0 j0 hb15 j0 (ld ti3 j0 j0<|j4)),(fun _=>pag (b:=(class_between v1.Locals (class_args v1) 16)) j0 j0 j0 j0 hb15 j0 (fa ti38 j0 j0 j0<|j4)),(fun _=>pa j0 j0 j0 j0 (mv j0<|j4)),(fun _=>pa j0 j0 j0 j0 (pc (class_between_ok v1.Locals (class_args v1) 16 j0) j0 j0 j0<|j4)),(fun _=>pa j0 j0 j0 j0 (pc (class_args_ok v1 j0) j0 j0 j0<|j4)),(fun _=>pa j0 j0 j0 j0 (ld ti38 j0 j0<|j4)),(fun _=>pa j0 j0 j0 j0 (ld ti3 j0 j0<|j4)),(fun _=>pa j0 j0 j0 j0 (fa ti38 j0 j0 j0<|j4)),j5⟩ (by kernel_rfl) j0 ⟨false,h,[],ce j0 j0<|cn,j0,j5,j0,j1⟩)
      ·
       replace h:=bF hb16 h
       exact sw_region_dt [] [22,21,20,19,18,17,16,15,14,13,12,11,10,9,8,7,6,5,4,3,2,1,0] [(2,bA false),(69,bA false),(68,.lit undef),(67,.lit undef),(66,bA false),(65,bA false),(64,.lit undef),(63,.lit undef),(62,bA false),(61,bA false),(60,.lit undef),(59,.lit undef),(58,bA (class_between v1.Stack 0 16)),(57,bA (class_between v1.Stack 0 16)),(56,bA (class_between v1.Stack 0 16)),(55,iA v1.Stack),(54,.mpt 0 0 6),(53,bA (class_between v1.Locals (class_args v1) 16)),(52,bA (class_between v1.Locals (class_args v1) 16)),(51,iA (class_args v1)),(50,.agg (rApiMethod v1)),(49,iA v1.Locals),(48,.mpt 0 0 5)] 0 (by kernel_rfl) (by kernel_rfl) j0 (by kernel_rfl) (dt0 ⟨(fun _=>pa j0 j0 j0 j0 (asg j0<|j4)),(fun _=>pa j0 j0 j0 j0 (pk (b:=false) j0 j0<|j4)),(fun _=>pas (b:=false) j0 j0 j0 j0 j0 j0),(fun _=>pas (b:=false) j0 j0 j0 j0 j0 j0),(fun _=>pa j0 j0 j0 j0 (mv j0<|j4)),(fun _=>pa j0 j0 j0 j0 (pk (b:=false) j0 j0<|j4)),(fun _=>pas (b:=false) j0 j0 j0 j0 j0 j0),(fun _=>pas (b:=false) j0 j0 j0 j0 j0 j0),(fun _=>pa j0 j0 j0 j0 (mv j0<|j4)),(fun _=>pa j0 j0 j0 j0 (pkb j0 hb16 j0<|j4)),(fun _=>pas (b:=(class_between v1.Stack 0 16)) j0 j0 j0 j0 hb16 j0),(fun _=>pas (b:=(class_between v1.Stack 0 16)) j0 j0 j0 j0 hb16 j0),(fun _=>pa j0 j0 j0 j0 (mv j0<|j4)),(fun _=>pa j0 j0 j0 j0 (pkb j0 hb15 j0<|j4)),(fun _=>pag (b:=(class_between v1.Locals (class_args v1) 16)) j0 j0 j0 j0 hb15 j0 (pc (class_between_ok v1.Stack 0 16 j0) j0 j0 j0<|j4)),(fun _=>pag (b:=(class_between v1.Locals (class_args v1) 16)) j0 j0 j0 j0 hb15 j0 (ld ti3 j0 j0<|j4)),(fun _=>pag (b:=(class_between v1.Locals (class_args v1) 16)) j0 j0 j0 j0 hb15 j0 (fa ti38 j0 j0 j0<|j4)),(fun _=>pa j0 j0 j0 j0 (mv j0<|j4)),(fun _=>pa j0 j0 j0 j0 (pc (class_between_ok v1.Locals (class_args v1) 16 j0) j0 j0 j0<|j4)),(fun _=>pa j0 j0 j0 j0 (pc (class_args_ok v1 j0) j0 j0 j0<|j4)),(fun _=>pa j0 j0 j0 j0 (ld ti38 j0 j0<|j4)),(fun _=>pa j0 j0 j0 j0 (ld ti3 j0 j0<|j4)),(fun _=>pa j0 j0 j0 j0 (fa ti38 j0 j0 j0<|j4)),j5⟩ (by kernel_rfl) j0 ⟨false,h,[],ce j0 j0<|cn,j0,j5,j0,j1⟩)
     ·
      replace h:=bF hb15 h
      exact sw_region_dt [] [22,21,20,19,18,17,16,15,14,13,12,11,10,9,8,7,6,5,4,3,2,1,0] [(2,bA false),(69,bA false),(68,.lit undef),(67,.lit undef),(66,bA false),(65,bA false),(64,.lit undef),(63,.lit undef),(62,bA false),(61,bA false),(60,.lit undef),(59,.lit undef),(58,bA false),(57,bA false),(56,.lit undef),(55,.lit undef),(54,.lit undef),(53,bA (class_between v1.Locals (class_args v1) 16)),(52,bA (class_between v1.Locals (class_args v1) 16)),(51,iA (class_args v1)),(50,.agg (rApiMethod v1)),(49,iA v1.Locals),(48,.mpt 0 0 5)] 0 (by kernel_rfl) (by kernel_rfl) j0 (by kernel_rfl) (dt0 ⟨(fun _=>pa j0 j0 j0 j0 (asg j0<|j4)),(fun _=>pa j0 j0 j0 j0 (pk (b:=false) j0 j0<|j4)),(fun _=>pas (b:=false) j0 j0 j0 j0 j0 j0),(fun _=>pas (b:=false) j0 j0 j0 j0 j0 j0),(fun _=>pa j0 j0 j0 j0 (mv j0<|j4)),(fun _=>pa j0 j0 j0 j0 (pk (b:=false) j0 j0<|j4)),(fun _=>pas (b:=false) j0 j0 j0 j0 j0 j0),(fun _=>pas (b:=false) j0 j0 j0 j0 j0 j0),(fun _=>pa j0 j0 j0 j0 (mv j0<|j4)),(fun _=>pa j0 j0 j0 j0 (pk (b:=false) j0 j0<|j4)),(fun _=>pas (b:=false) j0 j0 j0 j0 j0 j0),(fun _=>pas (b:=false) j0 j0 j0 j0 j0 j0),(fun _=>pa j0 j0 j0 j0 (mv j0<|j4)),(fun _=>pa j0 j0 j0 j0 (pkb j0 hb15 j0<|j4)),(fun _=>pas (b:=(class_between v1.Locals (class_args v1) 16)) j0 j0 j0 j0 hb15 j0),(fun _=>pas (b:=(class_between v1.Locals (class_args v1) 16)) j0 j0 j0 j0 hb15 j0),(fun _=>pas (b:=(class_between v1.Locals (class_args v1) 16)) j0 j0 j0 j0 hb15 j0),(fun _=>pa j0 j0 j0 j0 (mv j0<|j4)),(fun _=>pa j0 j0 j0 j0 (pc (class_between_ok v1.Locals (class_args v1) 16 j0) j0 j0 j0<|j4)),(fun _=>pa j0 j0 j0 j0 (pc (class_args_ok v1 j0) j0 j0 j0<|j4)),(fun _=>pa j0 j0 j0 j0 (ld ti38 j0 j0<|j4)),(fun _=>pa j0 j0 j0 j0 (ld ti3 j0 j0<|j4)),(fun _=>pa j0 j0 j0 j0 (fa ti38 j0 j0 j0<|j4)),j5⟩ (by kernel_rfl) j0 ⟨false,h,[],ce j0 j0<|cn,j0,j5,j0,j1⟩)
    ·
     rintro v10 h
     replace h : class_method_j1 v10 = some r:=h
     unfold class_method_j1 at h
     refine sw_ret ?_
     obtain rfl:=sm h
     exact ⟨_,j0,[],ci j0,j0,j5,j0,j1⟩
def class_May_4 (v1 : ApiMethod) (v2 : List UInt8) (v3 : List UInt8) (v4 : Bool) (v5 : List (List UInt8)) (v6 : List ApiField) (v7 : List ApiMethod) : Option (Bool) :=
  (cond (v1.Abstract == v4) ((class_method v1).bind fun v8=>some v8) (some false)).bind fun v9=>some v9
theorem class_May_4_ok (v1 : ApiMethod) (v2 : List UInt8) (v3 : List UInt8) (v4 : Bool) (v5 : List (List UInt8)) (v6 : List ApiField) (v7 : List ApiMethod) {r : Bool} (h : class_May_4 v1 v2 v3 v4 v5 v6 v7 = some r) : PureC Tryz.prog 156 [.agg (rApiMethod v1),.ipt 6 [[sA v2,sA v3,bA v4,.isl 1 (List.map rStr v5),.isl 3 (List.map rApiField v6),.isl 10 (List.map rApiMethod v7)]] 0 0] (bA r):=by
 refine pure_fn Tryz.func156 j0 (by kernel_rfl) j0 j0 ?_
 unfold class_May_4 at h
 refine rg j0<|u<|bx 0 10 j0 j0 j0 j0<|u<|asg j0<|r_nil ?_
 obtain ⟨v9,q3,h⟩:=bs h
 refine rg j0<|u<|fa ti38 j0 j0 j0<|u<|ld ti4 j0 j0<|u<|fa ti26 j0 j0 j0<|u<|ld ti4 j0 j0<|u<|beq ti4 j0 j0 j0<|u<|mv j0<|r_and (x:=v9) (j:=5) 2 j0 j0 j0 j0 j0 gpn (fun hb1=>by replace q3:=bT hb1 q3; obtain ⟨v8,q2,q3⟩:=bs q3; obtain rfl:=sm q3; exact g j0 hb1<|ld ti38 j0 j0<|g j0 hb1<|pc (class_method_ok v1 q2) j0 j0 j0<|r_nil (eg [10,11] 2 j0 j0 j0 j0)) (fun hb=>(sm (bF hb q3)).symm)<|u<|asg j0<|r_nil ?_
 refine sw_ret ?_
 obtain rfl:=sm h
 exact ⟨_,j0,[],ci j0,j0,j5,j0,j1⟩
def class_May_3 (v1 : ApiMethod) : (List UInt8) :=
  v1.Name
theorem class_May_3_ok (v1 : ApiMethod) {r : (List UInt8)} (h : class_May_3 v1 = r) : PureC Tryz.prog 155 [.agg (rApiMethod v1)] (sA r):=by
 refine pure_fn Tryz.func155 j0 (by kernel_rfl) j0 j0 ?_
 unfold class_May_3 at h
 refine rg j0<|u<|bx 0 10 j0 j0 j0 j0<|u<|asg j0<|r_nil ?_
 refine rg j0<|u<|fa ti38 j0 j0 j0<|u<|ld ti9 j0 j0<|u<|asg j0<|r_nil ?_
 refine sw_ret ?_
 obtain rfl:=h
 exact ⟨_,j0,[],ci j0,j0,j5,j0,j1⟩
def class_all_api_Method_1 (v1 : ApiMethod) (v2 : List UInt8) (v3 : List (List UInt8)) (v4 : List UInt8) (v5 : Bool) (v6 : Bool) (v7 : Int) (v8 : Int) (v9 : List ApiIns) (v10 : List ApiMap) (v11 : List ApiTrap) : Bool :=
  ((class_May_3 (ApiMethod.mk v2 v3 v4 v5 v6 v7 v8 v9 v10 v11)) == (class_May_3 v1))
theorem class_all_api_Method_1_ok (v1 : ApiMethod) (v2 : List UInt8) (v3 : List (List UInt8)) (v4 : List UInt8) (v5 : Bool) (v6 : Bool) (v7 : Int) (v8 : Int) (v9 : List ApiIns) (v10 : List ApiMap) (v11 : List ApiTrap) {r : Bool} (h : class_all_api_Method_1 v1 v2 v3 v4 v5 v6 v7 v8 v9 v10 v11 = r) : PureC Tryz.prog 240 [.agg (rApiMethod v1),.ipt 1 [[.fn (.func 155) [] []]] 0 0,.ipt 10 [[sA v2,.isl 1 (List.map rStr v3),sA v4,bA v5,bA v6,iA v7,iA v8,.isl 4 (List.map rApiIns v9),.isl 3 (List.map rApiMap v10),.isl 4 (List.map rApiTrap v11)]] 0 0] (bA r):=by
 refine pure_fn Tryz.func240 j0 (by kernel_rfl) j0 j0 ?_
 unfold class_all_api_Method_1 at h
 refine rg j0<|u<|bx 0 10 j0 j0 j0 j0<|u<|asg j0<|r_nil ?_
 refine rd [(4,bA ((class_May_3 (ApiMethod.mk v2 v3 v4 v5 v6 v7 v8 v9 v10 v11)) == (class_May_3 v1)))] [] [] [7,6,5,4,3,2,1,0] [(4,bA ((class_May_3 (ApiMethod.mk v2 v3 v4 v5 v6 v7 v8 v9 v10 v11)) == (class_May_3 v1))),(11,bA ((class_May_3 (ApiMethod.mk v2 v3 v4 v5 v6 v7 v8 v9 v10 v11)) == (class_May_3 v1))),(10,sA (class_May_3 v1)),(9,.agg (rApiMethod v1)),(8,.fn (.func 155) [] []),(7,sA (class_May_3 (ApiMethod.mk v2 v3 v4 v5 v6 v7 v8 v9 v10 v11))),(6,.agg [sA v2,.isl 1 (List.map rStr v3),sA v4,bA v5,bA v6,iA v7,iA v8,.isl 4 (List.map rApiIns v9),.isl 3 (List.map rApiMap v10),.isl 4 (List.map rApiTrap v11)]),(5,.fn (.func 155) [] [])] 0 (by kernel_rfl) (by kernel_rfl) j0 (by kernel_rfl) (dt0 ⟨(fun _=>pa j0 j0 j0 j0 (asg j0<|j4)),(fun _=>pa j0 j0 j0 j0 (seq ti9 j0 j0<|j4)),(fun _=>pa j0 j0 j0 j0 (pc (class_May_3_ok v1 j0) j0 j0 j0<|j4)),(fun _=>pa j0 j0 j0 j0 (ld ti38 j0 j0<|j4)),(fun _=>pa j0 j0 j0 j0 (ld ti201 j0 j0<|j4)),(fun _=>pa j0 j0 j0 j0 (pc (class_May_3_ok (ApiMethod.mk v2 v3 v4 v5 v6 v7 v8 v9 v10 v11) j0) j0 j0 j0<|j4)),(fun _=>pa j0 j0 j0 j0 (ld ti38 j0 j0<|j4)),(fun _=>pa j0 j0 j0 j0 (ld ti201 j0 j0<|j4)),j5⟩ (by kernel_rfl) j0 ⟨[],ce j0 j0<|cn,j0,j5,j0,j1⟩) ?_
 refine sw_ret ?_
 obtain rfl:=h
 exact ⟨_,j0,[],ci j0,j0,j5,j0,j1⟩
def slices_IndexFunc_api_Method_api_Method_k2 : Option (Int) :=
  some (-1)
def slices_IndexFunc_api_Method_api_Method_l1 (v1 : List ApiMethod) (v2 : List UInt8) (v3 : List (List UInt8)) (v4 : List UInt8) (v5 : Bool) (v6 : Bool) (v7 : Int) (v8 : Int) (v9 : List ApiIns) (v10 : List ApiMap) (v11 : List ApiTrap) (v14 : Int) : Option (Sum (Int) (Sum (Unit) (Int))) :=
  cond (decide (v14 < (List.length v1 : Int))) ((idx v1 v14).bind fun v15=>cond (class_all_api_Method_1 v15 v2 v3 v4 v5 v6 v7 v8 v9 v10 v11) (some (.inr (.inr v14))) (some (.inl (IntKind.i64.wrap (v14 + 1))))) (some (.inr (.inl ())))
def slices_IndexFunc_api_Method_api_Method (v1 : List ApiMethod) (v2 : List UInt8) (v3 : List (List UInt8)) (v4 : List UInt8) (v5 : Bool) (v6 : Bool) (v7 : Int) (v8 : Int) (v9 : List ApiIns) (v10 : List ApiMap) (v11 : List ApiTrap) : Option (Int) :=
  (loopP (fun z=>slices_IndexFunc_api_Method_api_Method_l1 v1 v2 v3 v4 v5 v6 v7 v8 v9 v10 v11 z) 0).bind fun o=>leave o (fun b=>slices_IndexFunc_api_Method_api_Method_k2) some
theorem slices_IndexFunc_api_Method_api_Method_ok (v1 : List ApiMethod) (v2 : List UInt8) (v3 : List (List UInt8)) (v4 : List UInt8) (v5 : Bool) (v6 : Bool) (v7 : Int) (v8 : Int) (v9 : List ApiIns) (v10 : List ApiMap) (v11 : List ApiTrap) {r : Int} (h : slices_IndexFunc_api_Method_api_Method v1 v2 v3 v4 v5 v6 v7 v8 v9 v10 v11 = some r) : PureC Tryz.prog 225 [.isl 10 (List.map rApiMethod v1),.fn (.func 240) [] [.ipt 1 [[.fn (.func 155) [] []]] 0 0,.ipt 10 [[sA v2,.isl 1 (List.map rStr v3),sA v4,bA v5,bA v6,iA v7,iA v8,.isl 4 (List.map rApiIns v9),.isl 3 (List.map rApiMap v10),.isl 4 (List.map rApiTrap v11)]] 0 0]] (iA r):=by
 refine pure_fn Tryz.func225 j0 (by kernel_rfl) j0 j0 ?_
 unfold slices_IndexFunc_api_Method_api_Method at h
 refine rg j0<|u<|asg j0<|r_nil ?_
 refine sw_seq ?_
 refine rg j0<|u<|mv j0<|u<|lnI ti24 j0 j0<|u<|mv j0<|r_nil ?_
 obtain ⟨o,ho,h⟩:=bs h
 refine sw_lpl (X:=Int) (B:=Unit) (R:=Int) (fun z=>[(0,.isl 10 (List.map rApiMethod v1)),(1,.fn (.func 240) [] [.ipt 1 [[.fn (.func 155) [] []]] 0 0,.ipt 10 [[sA v2,.isl 1 (List.map rStr v3),sA v4,bA v5,bA v6,iA v7,iA v8,.isl 4 (List.map rApiIns v9),.isl 3 (List.map rApiMap v10),.isl 4 (List.map rApiTrap v11)]] 0 0]),(7,iA (List.length v1 : Int)),(8,iA z)]) (fun z=>[]) (fun b=>[]) (fun b=>[]) (fun r env st=>PostF Tryz.prog Tryz.f225 0 (iA r) [] env st) ho ⟨[],ce j0 j0<|ce j0 j0<|ce j0 j0<|ce j0 j0<|cn,j0,j5,j0,j1⟩ ?_ ?_ ?_
 ·
  rintro v14 r h
  replace h : slices_IndexFunc_api_Method_api_Method_l1 v1 v2 v3 v4 v5 v6 v7 v8 v9 v10 v11 v14 = some r:=h
  unfold slices_IndexFunc_api_Method_api_Method_l1 at h
  refine rg j0<|u<|lss ti3 j0 j0<|r_nil ?_
  refine sw_seq ?_
  refine sw_cond j0 (fun hc4=>?_) (fun hc4=>?_)
  ·
   replace h:=bT hc4 h
   refine sw_skip ?_
   refine sw_seq ?_
   refine sw_block ?_
   refine rg j0<|u<|mv j0<|u<|asg j0<|r_nil ?_
   obtain ⟨v15,q5,h⟩:=bs h
   refine rg j0<|u<|mv j0<|u<|mv j0<|u<|mv j0<|u<|ixI ti24 j0 ti38 j0 j0 j0 q5<|u<|ldI ti38 j0 (idx_some q5).2.2 j0<|u<|pc (class_all_api_Method_1_ok v15 v2 v3 v4 v5 v6 v7 v8 v9 v10 v11 j0) j0 j0 j0<|r_nil ?_
   refine sw_cond j0 (fun hc6=>?_) (fun hc6=>?_)
   ·
    replace h:=bT hc6 h
    refine rg j0<|u<|mv j0<|u<|asg j0<|r_nil ?_
    refine sw_ret ?_
    obtain rfl:=sm h
    exact ⟨_,j0,_,j0,[],ci j0,j0,j5,j0,j1⟩
   ·
    replace h:=bF hc6 h
    refine sw_skip ?_
    refine rl j0<|u<|add ti3 j0 j0<|u<|mv j0<|r_nil ?_
    obtain rfl:=sm h
    exact ⟨_,j0,[],ce j0 j0<|ce j0 j0<|ce j0 j0<|ce j0 j0<|cn,j0,j5,j0,j1⟩
  ·
   replace h:=bF hc4 h
   refine sw_exit ?_
   obtain rfl:=sm h
   exact ⟨j0,_,j0,[],cn,j0,j5,j0,j1⟩
 ·
  rintro ⟨⟩ rfl
  replace h : slices_IndexFunc_api_Method_api_Method_k2 = some r:=h
  unfold slices_IndexFunc_api_Method_api_Method_k2 at h
  refine ow_intro ?_
  refine rg j0<|u<|asg j0<|r_nil ?_
  refine sw_ret ?_
  obtain rfl:=sm h
  exact ⟨_,j0,[],ci j0,j0,j5,j0,j1⟩
 ·
  rintro r' rfl env st hp
  obtain rfl:=sm h
  exact hp
def slices_ContainsFunc_api_Method_api_Method (v1 : List ApiMethod) (v2 : List UInt8) (v3 : List (List UInt8)) (v4 : List UInt8) (v5 : Bool) (v6 : Bool) (v7 : Int) (v8 : Int) (v9 : List ApiIns) (v10 : List ApiMap) (v11 : List ApiTrap) : Option (Bool) :=
  (slices_IndexFunc_api_Method_api_Method v1 v2 v3 v4 v5 v6 v7 v8 v9 v10 v11).bind fun v12=>some (decide (0 ≤ v12))
theorem slices_ContainsFunc_api_Method_api_Method_ok (v1 : List ApiMethod) (v2 : List UInt8) (v3 : List (List UInt8)) (v4 : List UInt8) (v5 : Bool) (v6 : Bool) (v7 : Int) (v8 : Int) (v9 : List ApiIns) (v10 : List ApiMap) (v11 : List ApiTrap) {r : Bool} (h : slices_ContainsFunc_api_Method_api_Method v1 v2 v3 v4 v5 v6 v7 v8 v9 v10 v11 = some r) : PureC Tryz.prog 239 [.isl 10 (List.map rApiMethod v1),.fn (.func 240) [] [.ipt 1 [[.fn (.func 155) [] []]] 0 0,.ipt 10 [[sA v2,.isl 1 (List.map rStr v3),sA v4,bA v5,bA v6,iA v7,iA v8,.isl 4 (List.map rApiIns v9),.isl 3 (List.map rApiMap v10),.isl 4 (List.map rApiTrap v11)]] 0 0]] (bA r):=by
 refine pure_fn Tryz.func239 j0 (by kernel_rfl) j0 j0 ?_
 unfold slices_ContainsFunc_api_Method_api_Method at h
 refine rg j0<|u<|asg j0<|r_nil ?_
 obtain ⟨v12,q1,h⟩:=bs h
 refine rg j0<|u<|mv j0<|u<|mv j0<|u<|pc (slices_IndexFunc_api_Method_api_Method_ok v1 v2 v3 v4 v5 v6 v7 v8 v9 v10 v11 q1) j0 j0 j0<|u<|geq ti3 j0 j0<|u<|asg j0<|r_nil ?_
 refine sw_ret ?_
 obtain rfl:=sm h
 exact ⟨_,j0,[],ci j0,j0,j5,j0,j1⟩
def class_all_api_Method_k2 (v1 : List ApiMethod) (v2 : Int) : Option (Bool) :=
  some (decide ((List.length v1 : Int) ≤ v2))
def class_all_api_Method_l1 (v1 : List ApiMethod) (v3 : List UInt8) (v4 : List UInt8) (v5 : Bool) (v6 : List (List UInt8)) (v7 : List ApiField) (v8 : List ApiMethod) (v15 : Int) : Option (Sum (Int) (Sum (Unit) (Bool))) :=
  cond (decide (v15 < (List.length v1 : Int))) ((idx v1 v15).bind fun v16=>(class_May_4 v16 v3 v4 v5 v6 v7 v8).bind fun v17=>(cond (!v17) (some true) ((cutP v1 0 v15).bind fun v18=>(slices_ContainsFunc_api_Method_api_Method v18 v16.Name v16.Params v16.Ret v16.Static v16.Abstract v16.Locals v16.Stack v16.Code v16.Maps v16.Traps).bind fun v19=>some v19)).bind fun v20=>cond v20 (some (.inr (.inr false))) (some (.inl (IntKind.i64.wrap (v15 + 1))))) (some (.inr (.inl ())))
def class_all_api_Method (v1 : List ApiMethod) (v2 : Int) (v3 : List UInt8) (v4 : List UInt8) (v5 : Bool) (v6 : List (List UInt8)) (v7 : List ApiField) (v8 : List ApiMethod) : Option (Bool) :=
  (loopP (fun z=>class_all_api_Method_l1 v1 v3 v4 v5 v6 v7 v8 z) 0).bind fun o=>leave o (fun b=>class_all_api_Method_k2 v1 v2) some
theorem class_all_api_Method_ok (v1 : List ApiMethod) (v2 : Int) (v3 : List UInt8) (v4 : List UInt8) (v5 : Bool) (v6 : List (List UInt8)) (v7 : List ApiField) (v8 : List ApiMethod) {r : Bool} (h : class_all_api_Method v1 v2 v3 v4 v5 v6 v7 v8 = some r) : PureC Tryz.prog 154 [.isl 10 (List.map rApiMethod v1),iA v2,.fn (.func 155) [] [],.fn (.func 156) [] [.ipt 6 [[sA v3,sA v4,bA v5,.isl 1 (List.map rStr v6),.isl 3 (List.map rApiField v7),.isl 10 (List.map rApiMethod v8)]] 0 0]] (bA r):=by
 refine pure_fn Tryz.func154 j0 (by kernel_rfl) j0 j0 ?_
 unfold class_all_api_Method at h
 refine rg j0<|u<|bx 0 1 j0 j0 j0 j0<|u<|asg j0<|r_nil ?_
 refine sw_seq ?_
 refine rg j0<|u<|mv j0<|u<|lnI ti24 j0 j0<|u<|mv j0<|r_nil ?_
 obtain ⟨o,ho,h⟩:=bs h
 refine sw_lpl (X:=Int) (B:=Unit) (R:=Bool) (fun z=>[(0,.isl 10 (List.map rApiMethod v1)),(1,iA v2),(3,.fn (.func 156) [] [.ipt 6 [[sA v3,sA v4,bA v5,.isl 1 (List.map rStr v6),.isl 3 (List.map rApiField v7),.isl 10 (List.map rApiMethod v8)]] 0 0]),(6,.mpt 0 0 0),(11,.isl 10 (List.map rApiMethod v1)),(12,iA (List.length v1 : Int)),(13,iA z)]) (fun z=>[some (1,[[.fn (.func 155) [] []]])]) (fun b=>[(0,.isl 10 (List.map rApiMethod v1)),(1,iA v2)]) (fun b=>[]) (fun r env st=>PostF Tryz.prog Tryz.f154 0 (bA r) [] env st) ho ⟨[.old 0],ce j0 j0<|ce j0 j0<|ce j0 j0<|cv j0 (.mpt j0)<|ce j0 j0<|ce j0 j0<|ce j0 j0<|cn,j0,⟨⟨_,j0,rsOne ⟨ci j0,j5⟩⟩,j5⟩,j0,j1⟩ ?_ ?_ ?_
 ·
  rintro v15 r h
  replace h : class_all_api_Method_l1 v1 v3 v4 v5 v6 v7 v8 v15 = some r:=h
  unfold class_all_api_Method_l1 at h
  refine rg j0<|u<|lss ti3 j0 j0<|r_nil ?_
  refine sw_seq ?_
  refine sw_cond j0 (fun hc9=>?_) (fun hc9=>?_)
  ·
   replace h:=bT hc9 h
   refine sw_skip ?_
   refine sw_seq ?_
   refine sw_block ?_
   obtain ⟨v16,q10,h⟩:=bs h
   refine rg j0<|u<|mv j0<|u<|ixI ti24 j0 ti38 j0 j0 j0 q10<|u<|ldI ti38 j0 (idx_some q10).2.2 j0<|u<|al 1 ti38 j0<|u<|asg j0<|u<|sto ti38 j0 j0 j0<|r_nil ?_
   obtain ⟨v17,q11,h⟩:=bs h
   obtain ⟨v20,q15,h⟩:=bs h
   refine rg j0<|u<|mv j0<|u<|ld ti38 j0 j0<|u<|pc (class_May_4_ok v16 v3 v4 v5 v6 v7 v8 q11) j0 j0 j0<|u<|nt j0<|u<|mv j0<|r_or (x:=v20) (j:=4) 5 j0 j0 j0 j0 j0 gpn (fun hb12=>by replace q15:=bF hb12 q15; obtain ⟨v18,q13,q15⟩:=bs q15; obtain ⟨v19,q14,q15⟩:=bs q15; obtain rfl:=sm q15; exact g j0 hb12<|mv j0<|g j0 hb12<|mv j0<|g j0 hb12<|slI (a:=0) (b:=v15) ti24 j0 ti38 j0 j0 j0 (bnd_hi j0 q13) q13<|g j0 hb12<|mf j0 j0<|g j0 hb12<|pcs (slices_ContainsFunc_api_Method_api_Method_ok v18 v16.Name v16.Params v16.Ret v16.Static v16.Abstract v16.Locals v16.Stack v16.Code v16.Maps v16.Traps q14) j0 j0 (.cons (si j0) (.cons (sealFn j5 ⟨(sealBox j0 ⟨(si j0),j5⟩),(sealBox j0 ⟨(si j0),(si j0),(si j0),(si j0),(si j0),(si j0),(si j0),(si j0),(si j0),(si j0),j5⟩),j5⟩) .nil)) plainB<|r_nil (eg [23,24,25,26,27] 5 j0 j0 j0 j0)) (fun hb=>(sm (bT hb q15)).symm)<|r_nil ?_
   refine sw_cond j0 (fun hc16=>?_) (fun hc16=>?_)
   ·
    replace h:=bT hc16 h
    refine rg j0<|u<|asg j0<|r_nil ?_
    refine sw_ret ?_
    obtain rfl:=sm h
    exact ⟨_,j0,_,j0,[],ci j0,j0,j5,j0,j1⟩
   ·
    replace h:=bF hc16 h
    refine sw_skip ?_
    refine rl j0<|u<|add ti3 j0 j0<|u<|mv j0<|r_nil ?_
    obtain rfl:=sm h
    exact ⟨_,j0,[.old 0],ce j0 j0<|ce j0 j0<|ce j0 j0<|cv j0 (.mpt j0)<|ce j0 j0<|ce j0 j0<|ce j0 j0<|cn,j0,⟨⟨_,j0,rsOne ⟨ci j0,j5⟩⟩,j5⟩,j0,j1⟩
  ·
   replace h:=bF hc9 h
   refine sw_exit ?_
   obtain rfl:=sm h
   exact ⟨j0,_,j0,[],ce j0 j0<|ce j0 j0<|cn,j0,j5,j0,j1⟩
 ·
  rintro ⟨⟩ rfl
  replace h : class_all_api_Method_k2 v1 v2 = some r:=h
  unfold class_all_api_Method_k2 at h
  refine ow_intro ?_
  refine rg j0<|u<|mv j0<|u<|lnI ti24 j0 j0<|u<|mv j0<|u<|leq ti3 j0 j0<|u<|asg j0<|r_nil ?_
  refine sw_ret ?_
  obtain rfl:=sm h
  exact ⟨_,j0,[],ci j0,j0,j5,j0,j1⟩
 ·
  rintro r' rfl env st hp
  obtain rfl:=sm h
  exact hp
def class_self (v1 : List UInt8) : (List UInt8) :=
  v1
theorem class_self_ok (v1 : List UInt8) {r : (List UInt8)} (h : class_self v1 = r) : PureC Tryz.prog 160 [sA v1] (sA r):=by
 refine pure_fn Tryz.func160 j0 (by kernel_rfl) j0 j0 ?_
 unfold class_self at h
 refine rg j0<|u<|asg j0<|r_nil ?_
 refine rg j0<|u<|mv j0<|u<|asg j0<|r_nil ?_
 refine sw_ret ?_
 obtain rfl:=h
 exact ⟨_,j0,[],ci j0,j0,j5,j0,j1⟩
def class_all_string_1 (v1 : List UInt8) (v2 : List UInt8) : Bool :=
  ((class_self v2) == (class_self v1))
theorem class_all_string_1_ok (v1 : List UInt8) (v2 : List UInt8) {r : Bool} (h : class_all_string_1 v1 v2 = r) : PureC Tryz.prog 250 [sA v1,.ipt 1 [[.fn (.func 160) [] []]] 0 0,.ipt 1 [[sA v2]] 0 0] (bA r):=by
 refine pure_fn Tryz.func250 j0 (by kernel_rfl) j0 j0 ?_
 unfold class_all_string_1 at h
 refine rg j0<|u<|asg j0<|r_nil ?_
 refine rd [(4,bA ((class_self v2) == (class_self v1)))] [] [] [7,6,5,4,3,2,1,0] [(4,bA ((class_self v2) == (class_self v1))),(11,bA ((class_self v2) == (class_self v1))),(10,sA (class_self v1)),(9,sA v1),(8,.fn (.func 160) [] []),(7,sA (class_self v2)),(6,sA v2),(5,.fn (.func 160) [] [])] 0 (by kernel_rfl) (by kernel_rfl) j0 (by kernel_rfl) (dt0 ⟨(fun _=>pa j0 j0 j0 j0 (asg j0<|j4)),(fun _=>pa j0 j0 j0 j0 (seq ti9 j0 j0<|j4)),(fun _=>pa j0 j0 j0 j0 (pc (class_self_ok v1 j0) j0 j0 j0<|j4)),(fun _=>pa j0 j0 j0 j0 (mv j0<|j4)),(fun _=>pa j0 j0 j0 j0 (ld ti182 j0 j0<|j4)),(fun _=>pa j0 j0 j0 j0 (pc (class_self_ok v2 j0) j0 j0 j0<|j4)),(fun _=>pa j0 j0 j0 j0 (ld ti9 j0 j0<|j4)),(fun _=>pa j0 j0 j0 j0 (ld ti182 j0 j0<|j4)),j5⟩ (by kernel_rfl) j0 ⟨[],ce j0 j0<|cn,j0,j5,j0,j1⟩) ?_
 refine sw_ret ?_
 obtain rfl:=h
 exact ⟨_,j0,[],ci j0,j0,j5,j0,j1⟩
def slices_IndexFunc_string_string_s3_k2 : Option (Int) :=
  some (-1)
def slices_IndexFunc_string_string_s3_l1 (v1 : List (List UInt8)) (v2 : List UInt8) (v5 : Int) : Option (Sum (Int) (Sum (Unit) (Int))) :=
  cond (decide (v5 < (List.length v1 : Int))) ((idx v1 v5).bind fun v6=>cond (class_all_string_1 v6 v2) (some (.inr (.inr v5))) (some (.inl (IntKind.i64.wrap (v5 + 1))))) (some (.inr (.inl ())))
def slices_IndexFunc_string_string_s3 (v1 : List (List UInt8)) (v2 : List UInt8) : Option (Int) :=
  (loopP (fun z=>slices_IndexFunc_string_string_s3_l1 v1 v2 z) 0).bind fun o=>leave o (fun b=>slices_IndexFunc_string_string_s3_k2) some
theorem slices_IndexFunc_string_string_s3_ok (v1 : List (List UInt8)) (v2 : List UInt8) {r : Int} (h : slices_IndexFunc_string_string_s3 v1 v2 = some r) : PureC Tryz.prog 181 [.isl 1 (List.map rStr v1),.fn (.func 250) [] [.ipt 1 [[.fn (.func 160) [] []]] 0 0,.ipt 1 [[sA v2]] 0 0]] (iA r):=by
 refine pure_fn Tryz.func181 j0 (by kernel_rfl) j0 j0 ?_
 unfold slices_IndexFunc_string_string_s3 at h
 refine rg j0<|u<|asg j0<|r_nil ?_
 refine sw_seq ?_
 refine rg j0<|u<|mv j0<|u<|lnI ti22 j0 j0<|u<|mv j0<|r_nil ?_
 obtain ⟨o,ho,h⟩:=bs h
 refine sw_lpl (X:=Int) (B:=Unit) (R:=Int) (fun z=>[(0,.isl 1 (List.map rStr v1)),(1,.fn (.func 250) [] [.ipt 1 [[.fn (.func 160) [] []]] 0 0,.ipt 1 [[sA v2]] 0 0]),(7,iA (List.length v1 : Int)),(8,iA z)]) (fun z=>[]) (fun b=>[]) (fun b=>[]) (fun r env st=>PostF Tryz.prog Tryz.f181 0 (iA r) [] env st) ho ⟨[],ce j0 j0<|ce j0 j0<|ce j0 j0<|ce j0 j0<|cn,j0,j5,j0,j1⟩ ?_ ?_ ?_
 ·
  rintro v5 r h
  replace h : slices_IndexFunc_string_string_s3_l1 v1 v2 v5 = some r:=h
  unfold slices_IndexFunc_string_string_s3_l1 at h
  refine rg j0<|u<|lss ti3 j0 j0<|r_nil ?_
  refine sw_seq ?_
  refine sw_cond j0 (fun hc4=>?_) (fun hc4=>?_)
  ·
   replace h:=bT hc4 h
   refine sw_skip ?_
   refine sw_seq ?_
   refine sw_block ?_
   refine rg j0<|u<|mv j0<|u<|asg j0<|r_nil ?_
   obtain ⟨v6,q5,h⟩:=bs h
   refine rg j0<|u<|mv j0<|u<|mv j0<|u<|mv j0<|u<|ixI ti22 j0 ti9 j0 j0 j0 q5<|u<|ldI ti9 j0 (idx_some q5).2.2 j0<|u<|pc (class_all_string_1_ok v6 v2 j0) j0 j0 j0<|r_nil ?_
   refine sw_cond j0 (fun hc6=>?_) (fun hc6=>?_)
   ·
    replace h:=bT hc6 h
    refine rg j0<|u<|mv j0<|u<|asg j0<|r_nil ?_
    refine sw_ret ?_
    obtain rfl:=sm h
    exact ⟨_,j0,_,j0,[],ci j0,j0,j5,j0,j1⟩
   ·
    replace h:=bF hc6 h
    refine sw_skip ?_
    refine rl j0<|u<|add ti3 j0 j0<|u<|mv j0<|r_nil ?_
    obtain rfl:=sm h
    exact ⟨_,j0,[],ce j0 j0<|ce j0 j0<|ce j0 j0<|ce j0 j0<|cn,j0,j5,j0,j1⟩
  ·
   replace h:=bF hc4 h
   refine sw_exit ?_
   obtain rfl:=sm h
   exact ⟨j0,_,j0,[],cn,j0,j5,j0,j1⟩
 ·
  rintro ⟨⟩ rfl
  replace h : slices_IndexFunc_string_string_s3_k2 = some r:=h
  unfold slices_IndexFunc_string_string_s3_k2 at h
  refine ow_intro ?_
  refine rg j0<|u<|asg j0<|r_nil ?_
  refine sw_ret ?_
  obtain rfl:=sm h
  exact ⟨_,j0,[],ci j0,j0,j5,j0,j1⟩
 ·
  rintro r' rfl env st hp
  obtain rfl:=sm h
  exact hp
def slices_ContainsFunc_string_string_s3 (v1 : List (List UInt8)) (v2 : List UInt8) : Option (Bool) :=
  (slices_IndexFunc_string_string_s3 v1 v2).bind fun v3=>some (decide (0 ≤ v3))
theorem slices_ContainsFunc_string_string_s3_ok (v1 : List (List UInt8)) (v2 : List UInt8) {r : Bool} (h : slices_ContainsFunc_string_string_s3 v1 v2 = some r) : PureC Tryz.prog 99 [.isl 1 (List.map rStr v1),.fn (.func 250) [] [.ipt 1 [[.fn (.func 160) [] []]] 0 0,.ipt 1 [[sA v2]] 0 0]] (bA r):=by
 refine pure_fn Tryz.func99 j0 (by kernel_rfl) j0 j0 ?_
 unfold slices_ContainsFunc_string_string_s3 at h
 refine rg j0<|u<|asg j0<|r_nil ?_
 obtain ⟨v3,q1,h⟩:=bs h
 refine rg j0<|u<|mv j0<|u<|mv j0<|u<|pc (slices_IndexFunc_string_string_s3_ok v1 v2 q1) j0 j0 j0<|u<|geq ti3 j0 j0<|u<|asg j0<|r_nil ?_
 refine sw_ret ?_
 obtain rfl:=sm h
 exact ⟨_,j0,[],ci j0,j0,j5,j0,j1⟩
def class_all_string_k2 (v1 : List (List UInt8)) (v2 : Int) : Option (Bool) :=
  some (decide ((List.length v1 : Int) ≤ v2))
def class_all_string_l1 (v1 : List (List UInt8)) (v9 : Int) : Option (Sum (Int) (Sum (Unit) (Bool))) :=
  cond (decide (v9 < (List.length v1 : Int))) ((idx v1 v9).bind fun v10=>(kind_Class v10).bind fun v11=>(cond (!v11) (some true) ((cutP v1 0 v9).bind fun v12=>(slices_ContainsFunc_string_string_s3 v12 v10).bind fun v13=>some v13)).bind fun v14=>cond v14 (some (.inr (.inr false))) (some (.inl (IntKind.i64.wrap (v9 + 1))))) (some (.inr (.inl ())))
def class_all_string (v1 : List (List UInt8)) (v2 : Int) : Option (Bool) :=
  (loopP (fun z=>class_all_string_l1 v1 z) 0).bind fun o=>leave o (fun b=>class_all_string_k2 v1 v2) some
theorem class_all_string_ok (v1 : List (List UInt8)) (v2 : Int) {r : Bool} (h : class_all_string v1 v2 = some r) : PureC Tryz.prog 159 [.isl 1 (List.map rStr v1),iA v2,.fn (.func 160) [] [],.fn (.func 158) [] []] (bA r):=by
 refine pure_fn Tryz.func159 j0 (by kernel_rfl) j0 j0 ?_
 unfold class_all_string at h
 refine rg j0<|u<|bx 0 1 j0 j0 j0 j0<|u<|asg j0<|r_nil ?_
 refine sw_seq ?_
 refine rg j0<|u<|mv j0<|u<|lnI ti22 j0 j0<|u<|mv j0<|r_nil ?_
 obtain ⟨o,ho,h⟩:=bs h
 refine sw_lpl (X:=Int) (B:=Unit) (R:=Bool) (fun z=>[(0,.isl 1 (List.map rStr v1)),(1,iA v2),(3,.fn (.func 158) [] []),(6,.mpt 0 0 0),(11,.isl 1 (List.map rStr v1)),(12,iA (List.length v1 : Int)),(13,iA z)]) (fun z=>[some (1,[[.fn (.func 160) [] []]])]) (fun b=>[(0,.isl 1 (List.map rStr v1)),(1,iA v2)]) (fun b=>[]) (fun r env st=>PostF Tryz.prog Tryz.f159 0 (bA r) [] env st) ho ⟨[.old 0],ce j0 j0<|ce j0 j0<|ce j0 j0<|cv j0 (.mpt j0)<|ce j0 j0<|ce j0 j0<|ce j0 j0<|cn,j0,⟨⟨_,j0,rsOne ⟨ci j0,j5⟩⟩,j5⟩,j0,j1⟩ ?_ ?_ ?_
 ·
  rintro v9 r h
  replace h : class_all_string_l1 v1 v9 = some r:=h
  unfold class_all_string_l1 at h
  refine rg j0<|u<|lss ti3 j0 j0<|r_nil ?_
  refine sw_seq ?_
  refine sw_cond j0 (fun hc9=>?_) (fun hc9=>?_)
  ·
   replace h:=bT hc9 h
   refine sw_skip ?_
   refine sw_seq ?_
   refine sw_block ?_
   obtain ⟨v10,q10,h⟩:=bs h
   refine rg j0<|u<|mv j0<|u<|ixI ti22 j0 ti9 j0 j0 j0 q10<|u<|ldI ti9 j0 (idx_some q10).2.2 j0<|u<|al 1 ti9 j0<|u<|asg j0<|u<|sto ti9 j0 j0 j0<|r_nil ?_
   obtain ⟨v11,q11,h⟩:=bs h
   obtain ⟨v14,q15,h⟩:=bs h
   refine rg j0<|u<|mv j0<|u<|ld ti9 j0 j0<|u<|pc (kind_Class_ok v10 q11) j0 j0 j0<|u<|nt j0<|u<|mv j0<|r_or (x:=v14) (j:=4) 5 j0 j0 j0 j0 j0 gpn (fun hb12=>by replace q15:=bF hb12 q15; obtain ⟨v12,q13,q15⟩:=bs q15; obtain ⟨v13,q14,q15⟩:=bs q15; obtain rfl:=sm q15; exact g j0 hb12<|mv j0<|g j0 hb12<|mv j0<|g j0 hb12<|slI (a:=0) (b:=v9) ti22 j0 ti9 j0 j0 j0 (bnd_hi j0 q13) q13<|g j0 hb12<|mf j0 j0<|g j0 hb12<|pcs (slices_ContainsFunc_string_string_s3_ok v12 v10 q14) j0 j0 (.cons (si j0) (.cons (sealFn j5 ⟨(sealBox j0 ⟨(si j0),j5⟩),(sealBox j0 ⟨(si j0),j5⟩),j5⟩) .nil)) plainB<|r_nil (eg [23,24,25,26,27] 5 j0 j0 j0 j0)) (fun hb=>(sm (bT hb q15)).symm)<|r_nil ?_
   refine sw_cond j0 (fun hc16=>?_) (fun hc16=>?_)
   ·
    replace h:=bT hc16 h
    refine rg j0<|u<|asg j0<|r_nil ?_
    refine sw_ret ?_
    obtain rfl:=sm h
    exact ⟨_,j0,_,j0,[],ci j0,j0,j5,j0,j1⟩
   ·
    replace h:=bF hc16 h
    refine sw_skip ?_
    refine rl j0<|u<|add ti3 j0 j0<|u<|mv j0<|r_nil ?_
    obtain rfl:=sm h
    exact ⟨_,j0,[.old 0],ce j0 j0<|ce j0 j0<|ce j0 j0<|cv j0 (.mpt j0)<|ce j0 j0<|ce j0 j0<|ce j0 j0<|cn,j0,⟨⟨_,j0,rsOne ⟨ci j0,j5⟩⟩,j5⟩,j0,j1⟩
  ·
   replace h:=bF hc9 h
   refine sw_exit ?_
   obtain rfl:=sm h
   exact ⟨j0,_,j0,[],ce j0 j0<|ce j0 j0<|cn,j0,j5,j0,j1⟩
 ·
  rintro ⟨⟩ rfl
  replace h : class_all_string_k2 v1 v2 = some r:=h
  unfold class_all_string_k2 at h
  refine ow_intro ?_
  refine rg j0<|u<|mv j0<|u<|lnI ti22 j0 j0<|u<|mv j0<|u<|leq ti3 j0 j0<|u<|asg j0<|r_nil ?_
  refine sw_ret ?_
  obtain rfl:=sm h
  exact ⟨_,j0,[],ci j0,j0,j5,j0,j1⟩
 ·
  rintro r' rfl env st hp
  obtain rfl:=sm h
  exact hp
def class_May (v1 : ApiClass) : Option (Bool) :=
  cond (v1.Interface && ((!(v1.Super == [79,98,106,101,99,116])) || (decide (0 < (List.length v1.Fields : Int))))) (some false) ((class_all_api_Field v1.Fields 8).bind fun v2=>(class_all_api_Method v1.Methods 8 v1.Name v1.Super v1.Interface v1.Impl v1.Fields v1.Methods).bind fun v3=>(kind_Class v1.Name).bind fun v4=>(cond v4 ((kind_Class v1.Super).bind fun v5=>some v5) (some false)).bind fun v6=>(cond v6 ((class_all_string v1.Impl 4).bind fun v7=>some v7) (some false)).bind fun v8=>some ((v8 && v2) && v3))
theorem class_May_ok (v1 : ApiClass) {r : Bool} (h : class_May v1 = some r) : PureC Tryz.prog 72 [.agg (rApiClass v1)] (bA r):=by
 refine pure_fn Tryz.func72 j0 (by kernel_rfl) j0 j0 ?_
 unfold class_May at h
 refine rg j0<|u<|bx 0 6 j0 j0 j0 j0<|u<|asg j0<|r_nil ?_
 refine sw_seq ?_
 refine rg j0<|u<|fa ti26 j0 j0 j0<|u<|ld ti4 j0 j0<|u<|mv j0<|r_and (j:=2) 9 j0 j0 j0 j0 j0 gpn (fun hb1=>g j0 hb1<|fa ti26 j0 j0 j0<|g j0 hb1<|ld ti9 j0 j0<|g j0 hb1<|sne ti9 j0 j0<|g j0 hb1<|mv j0<|r_or (j:=6) 4 j0 j0 j0 j0 j0 (gps j0 j0 hb1) (fun hb2=>g j0 hb2<|fa ti26 j0 j0 j0<|g j0 hb2<|ld ti23 j0 j0<|g j0 hb2<|lnI ti23 j0 j0<|g j0 hb2<|gtr ti3 j0 j0<|r_nil (egO [12,13,14,15] 4 hb2 j0 j0 j0 j0)) orT<|r_nil (egA [8,9,10,11,12,13,14,15,16] 5 hb1 j0 j0 j0 j0)) andF<|r_nil ?_
 refine sw_cond j0 (fun hc3=>?_) (fun hc3=>?_)
 ·
  replace h:=bT hc3 h
  refine rg j0<|u<|asg j0<|r_nil ?_
  refine sw_ret ?_
  obtain rfl:=sm h
  exact ⟨_,j0,[],ci j0,j0,j5,j0,j1⟩
 ·
  replace h:=bF hc3 h
  refine sw_skip ?_
  obtain ⟨v2,q4,h⟩:=bs h
  refine rg j0<|u<|fa ti26 j0 j0 j0<|u<|ld ti23 j0 j0<|u<|pc (class_all_api_Field_ok v1.Fields 8 q4) j0 j0 j0<|u<|asg j0<|r_nil ?_
  obtain ⟨v3,q5,h⟩:=bs h
  refine rg j0<|u<|fa ti26 j0 j0 j0<|u<|ld ti24 j0 j0<|u<|mf j0 j0<|u<|pcs (class_all_api_Method_ok v1.Methods 8 v1.Name v1.Super v1.Interface v1.Impl v1.Fields v1.Methods q5) j0 j0 (.cons (si j0) (.cons (si j0) (.cons (si j0) (.cons (sealFn j5 ⟨(sealBox j0 ⟨(si j0),(si j0),(si j0),(si j0),(si j0),(si j0),j5⟩),j5⟩) .nil)))) plainB<|u<|asg j0<|r_nil ?_
  obtain ⟨v4,q6,h⟩:=bs h
  obtain ⟨v6,q9,h⟩:=bs h
  obtain ⟨v8,q12,h⟩:=bs h
  refine rg j0<|u<|fa ti26 j0 j0 j0<|u<|ld ti9 j0 j0<|u<|pc (kind_Class_ok v1.Name q6) j0 j0 j0<|u<|mv j0<|r_and (x:=v6) (j:=3) 3 j0 j0 j0 j0 j0 gpn (fun hb7=>by replace q9:=bT hb7 q9; obtain ⟨v5,q8,q9⟩:=bs q9; obtain rfl:=sm q9; exact g j0 hb7<|fa ti26 j0 j0 j0<|g j0 hb7<|ld ti9 j0 j0<|g j0 hb7<|pc (kind_Class_ok v1.Super q8) j0 j0 j0<|r_nil (eg [29,30,31] 3 j0 j0 j0 j0)) (fun hb=>(sm (bF hb q9)).symm)<|u<|mv j0<|r_and (x:=v8) (j:=8) 3 j0 j0 j0 j0 j0 gpn (fun hb10=>by replace q12:=bT hb10 q12; obtain ⟨v7,q11,q12⟩:=bs q12; obtain rfl:=sm q12; exact g j0 hb10<|fa ti26 j0 j0 j0<|g j0 hb10<|ld ti22 j0 j0<|g j0 hb10<|pc (class_all_string_ok v1.Impl 4 q11) j0 j0 j0<|r_nil (eg [34,35,36] 3 j0 j0 j0 j0)) (fun hb=>(sm (bF hb q12)).symm)<|u<|mv j0<|r_and (j:=13) 1 j0 j0 j0 j0 j0 gpn (fun hb13=>g j0 hb13<|mv j0<|r_nil (egA [39] 1 hb13 j0 j0 j0 j0)) andF<|u<|mv j0<|r_and (j:=16) 1 j0 j0 j0 j0 j0 gpn (fun hb14=>g j0 hb14<|mv j0<|r_nil (egA [42] 1 hb14 j0 j0 j0 j0)) andF<|u<|asg j0<|r_nil ?_
  refine sw_ret ?_
  obtain rfl:=sm h
  exact ⟨_,j0,[],ci j0,j0,j5,j0,j1⟩
end
end Go.Proofs.YthmnlfenkhmmhaaGreat
namespace Go.Proofs.YthmnlfenkhmmhaaGreat
noncomputable section
set_option linter.unusedSimpArgs false
set_option linter.unusedVariables false
set_option maxRecDepth 100000
set_option maxHeartbeats 4000000
structure HierHier where
  l : List ApiClass
  at_ : List (List UInt8 × Int)
def rHierHier (x : HierHier) : List AV:=[.isl 6 (List.map rApiClass x.l),.imp (List.map (rKV (fun x=>iA x)) x.at_)]
def hier_Given : (List (List UInt8)) :=
  ([[79,98,106,101,99,116],[84,104,114,111,119,110],[78,117,108,108,69,114,114],[82,97,110,103,101,69,114,114],[77,97,116,104,69,114,114],[67,97,115,116,69,114,114],[83,105,122,101,69,114,114],[83,116,111,114,101,69,114,114],[73,110,105,116,69,114,114],[67,108,97,115,115,69,114,114]])
theorem hier_Given_ok {r : (List (List UInt8))} (h : hier_Given = r) : SC Tryz.prog 105 [] [] (.msl 0 0 (List.length r)) [.many 1 (List.map rStr r)]:=by
 refine ⟨⟨sbOk (sz:=1) (fun _=>j0),j5⟩,scall_fn Tryz.func105 j0 (by kernel_rfl) j0 ?_⟩
 unfold hier_Given at h
 refine rg j0<|u<|asg j0<|r_nil ?_
 refine rg j0<|u<|bl 0 ti22 j0 ti9 j0 (by decide) (by decide) j0 j0 j0<|u<|asg j0<|r_nil ?_
 refine sw_ret ?_
 obtain rfl:=h
 exact ⟨_,j0,[.old 0],.msl j0,j0,⟨⟨_,j0,rsRows ⟨⟨(ci j0),j5⟩,⟨(ci j0),j5⟩,⟨(ci j0),j5⟩,⟨(ci j0),j5⟩,⟨(ci j0),j5⟩,⟨(ci j0),j5⟩,⟨(ci j0),j5⟩,⟨(ci j0),j5⟩,⟨(ci j0),j5⟩,⟨(ci j0),j5⟩,j5⟩⟩,j5⟩,j0,j1⟩
def hier_given_k4 (v12 : List ApiClass) : Option ((List ApiClass)) :=
  some v12
def hier_given_j2 (v6 : List ApiClass) (v7 : Int) (v8 : List UInt8) (v10 : List UInt8) : Option (Sum ((List ApiClass) × Int) (Sum ((List ApiClass)) ((List ApiClass)))) :=
  (appP 112 v6 ([(ApiClass.mk v8 v10 false [] [] [])])).bind fun v11=>some (.inl (v11,(IntKind.i64.wrap (v7 + 1))))
def hier_given_l3 (v6 : List ApiClass) (v7 : Int) : Option (Sum ((List ApiClass) × Int) (Sum ((List ApiClass)) ((List ApiClass)))) :=
  cond (decide (v7 < ((List.length (hier_Given)) : Int))) ((idx (hier_Given) v7).bind fun v8=>cond (decide (v7 < 2)) ((idx ([[],[79,98,106,101,99,116]]) v7).bind fun v9=>hier_given_j2 v6 v7 v8 v9) (hier_given_j2 v6 v7 v8 [84,104,114,111,119,110])) (some (.inr (.inl v6)))
def hier_given : Option ((List ApiClass)) :=
  (loopP (fun z=>hier_given_l3 z.1 z.2) ([],0)).bind fun o=>leave o (fun b=>hier_given_k4 b) some
theorem hier_given_ok {r : (List ApiClass)} (h : hier_given = some r) : SC Tryz.prog 98 [] [] (.msl 0 0 (List.length r)) [.many 6 (List.map rApiClass r)]:=by
 refine ⟨⟨sbOk (sz:=6) (fun _=>j0),j5⟩,scall_fn Tryz.func98 j0 (by kernel_rfl) j0 ?_⟩
 unfold hier_given at h
 refine rg j0<|u<|asg j0<|r_nil ?_
 refine rg j0<|u<|asg j0<|r_nil ?_
 refine sw_seq ?_
 refine rg j0<|u<|sc [] (hier_Given_ok j0) j0 j0 j0 j0 j5 j5<|r_can (env0:=[(1,.lit (.slice none 0 0)),(5,.msl 0 0 (List.length (hier_Given)))]) (st0:=[some (1,List.map rStr (hier_Given))]) ⟨[.old 0],ce j0 j0<|cv j0 (.msl j0)<|cn,j0,⟨⟨_,j0,rsMap (fun _=>j0)⟩,j5⟩,j0,j1⟩<|u<|lnM ti22 j0 j0 j0<|u<|mv j0<|r_nil ?_
 obtain ⟨o,ho,h⟩:=bs h
 refine sw_lpl (X:=(List ApiClass) × Int) (B:=(List ApiClass)) (R:=(List ApiClass)) (fun z=>[(1,.msl 0 0 (List.length z.1)),(5,.msl 1 0 (List.length (hier_Given))),(6,iA ((List.length (hier_Given)) : Int)),(7,iA z.2)]) (fun z=>[some (6,List.map rApiClass z.1),some (1,List.map rStr (hier_Given))]) (fun b=>[(1,.msl 0 0 (List.length b))]) (fun b=>[some (6,List.map rApiClass b)]) (fun r env st=>PostF Tryz.prog Tryz.f98 0 (.msl 0 0 (List.length r)) [some (6,List.map rApiClass r)] env st) ho ⟨[.fresh 6,.old 0],cv j0 (.nilown j0)<|cv j0 (.msl j0)<|ce j0 j0<|ce j0 j0<|cn,j0,⟨j4,⟨_,j0,rsMap (fun _=>j0)⟩,j5⟩,j0,j1⟩ ?_ ?_ ?_
 ·
  rintro ⟨v6,v7⟩ r h
  replace h : hier_given_l3 v6 v7 = some r:=h
  unfold hier_given_l3 at h
  refine rg j0<|u<|lss ti3 j0 j0<|r_nil ?_
  refine sw_seq ?_
  refine sw_cond j0 (fun hc5=>?_) (fun hc5=>?_)
  ·
   replace h:=bT hc5 h
   refine sw_skip ?_
   refine sw_seq ?_
   refine sw_block ?_
   obtain ⟨v8,q6,h⟩:=bs h
   refine rg j0<|u<|mv j0<|u<|ixM ti22 j0 ti9 j0 j0 j0 j0 q6<|u<|ldM ti9 j0 j0 (idx_some q6).2.2 j0<|u<|asg j0<|u<|asg j0<|r_nil ?_
   refine rg j0<|u<|mv j0<|u<|bd ti26 j0 j0 j0<|u<|al 2 ti26 j0<|u<|sto ti26 j0 j0 j0<|r_nil ?_
   refine sw_meet (X:=(List UInt8)) (fun z=>[(1,.msl 0 0 (List.length v6)),(4,.mpt 1 0 0),(5,.msl 2 0 (List.length (hier_Given))),(6,iA ((List.length (hier_Given)) : Int)),(7,iA v7)]) (fun z=>[some (6,List.map rApiClass v6),some (6,[[sA v8,sA z,bA false,.lit (.slice none 0 0),.lit (.slice none 0 0),.lit (.slice none 0 0)]]),some (1,List.map rStr (hier_Given))]) (fun z=>hier_given_j2 v6 v7 v8 z = some r) ?_ ?_
   ·
    refine rg j0<|u<|mv j0<|u<|lss ti3 j0 j0<|r_nil ?_
    refine sw_cond j0 (fun hc7=>?_) (fun hc7=>?_)
    ·
     replace h:=bT hc7 h
     obtain ⟨v9,q8,h⟩:=bs h
     exact rl j0<|u<|bl 3 ti22 j0 ti9 j0 (by decide) (by decide) j0 j0 j0<|u<|mv j0<|r_can (env0:=[(1,.msl 0 0 (List.length v6)),(4,.mpt 1 0 0),(5,.msl 2 0 (List.length (hier_Given))),(6,iA ((List.length (hier_Given)) : Int)),(7,iA v7),(16,.msl 3 0 (List.length ([[],[79,98,106,101,99,116]]))),(17,iA v7)]) (st0:=[some (6,List.map rApiClass v6),some (6,[[sA v8,sA [84,104,114,111,119,110],bA false,.lit (.slice none 0 0),.lit (.slice none 0 0),.lit (.slice none 0 0)]]),some (1,List.map rStr (hier_Given)),some (1,List.map rStr ([[],[79,98,106,101,99,116]]))]) ⟨[.old 0,.old 2,.old 1,.old 3],cv j0 (.msl j0)<|cv j0 (.mpt j0)<|cv j0 (.msl j0)<|ce j0 j0<|ce j0 j0<|cv j0 (.msl j0)<|ce j0 j0<|cn,j0,⟨⟨_,j0,rsMap (fun _=>j0)⟩,⟨_,j0,rsOne (ciL j0)⟩,⟨_,j0,rsMap (fun _=>j0)⟩,⟨_,j0,rsRows ⟨⟨(ci j0),j5⟩,⟨(ci j0),j5⟩,j5⟩⟩,j5⟩,j0,j1⟩<|u<|ixM ti22 j0 ti9 j0 j0 j0 j0 q8<|u<|ldM ti9 j0 j0 (idx_some q8).2.2 j0<|u<|fa ti26 j0 j0 j0<|u<|sto ti9 j0 j0 j0<|r_nil (⟨v9,h,[.old 0,.old 1,.old 2],cv j0 (.msl j0)<|cv j0 (.mpt j0)<|cv j0 (.msl j0)<|ce j0 j0<|ce j0 j0<|cn,j0,⟨⟨_,j0,rsMap (fun _=>j0)⟩,⟨_,j0,rsOne (ciL j0)⟩,⟨_,j0,rsMap (fun _=>j0)⟩,j5⟩,j0,j1⟩)
    ·
     replace h:=bF hc7 h
     refine sw_skip ?_
     exact ⟨[84,104,114,111,119,110],h,[.old 0,.old 2,.old 1],cv j0 (.msl j0)<|cv j0 (.mpt j0)<|cv j0 (.msl j0)<|ce j0 j0<|ce j0 j0<|cn,j0,⟨⟨_,j0,rsMap (fun _=>j0)⟩,⟨_,j0,rsOne (ciL j0)⟩,⟨_,j0,rsMap (fun _=>j0)⟩,j5⟩,j0,j1⟩
   ·
    rintro v10 h
    replace h : hier_given_j2 v6 v7 v8 v10 = some r:=h
    unfold hier_given_j2 at h
    obtain ⟨v11,q9,h⟩:=bs h
    refine rl j0<|u<|mv j0<|u<|ld ti26 j0 j0<|u<|bl 3 ti46 j0 ti26 j0 (by decide) (by decide) j0 j0 j0<|r_can (env0:=[(5,.msl 0 0 (List.length (hier_Given))),(6,iA ((List.length (hier_Given)) : Int)),(7,iA v7),(21,.msl 1 0 (List.length v6)),(23,.msl 2 0 (List.length ([(ApiClass.mk v8 v10 false [] [] [])])))]) (st0:=[some (1,List.map rStr (hier_Given)),some (6,List.map rApiClass v6),some (6,List.map rApiClass ([(ApiClass.mk v8 v10 false [] [] [])]))]) ⟨[.old 2,.old 0,.old 3],cv j0 (.msl j0)<|ce j0 j0<|ce j0 j0<|cv j0 (.msl j0)<|cv j0 (.msl j0)<|cn,j0,⟨⟨_,j0,rsMap (fun _=>j0)⟩,⟨_,j0,rsMap (fun _=>j0)⟩,⟨_,j0,rsRows ⟨⟨(ci j0),(ci j0),(ci j0),(.nil),(.nil),(.nil),j5⟩,j5⟩⟩,j5⟩,j0,j1⟩<|u<|apM 3 ti46 j0 ti26 j0 j0 (by decide) ti46 j0 j0 j0 j0 (roM j0) (fun _=>j0) j0 q9<|u<|asg j0<|r_nil ?_
    refine rl j0<|u<|add ti3 j0 j0<|u<|mv j0<|r_nil ?_
    obtain rfl:=sm h
    exact ⟨_,j0,[.old 3,.old 0],cv j0 (.msl j0)<|cv j0 (.msl j0)<|ce j0 j0<|ce j0 j0<|cn,j0,⟨⟨_,j0,rsMap (fun _=>j0)⟩,⟨_,j0,rsMap (fun _=>j0)⟩,j5⟩,j0,j1⟩
  ·
   replace h:=bF hc5 h
   refine sw_exit ?_
   obtain rfl:=sm h
   exact ⟨j0,_,j0,[.old 0],cv j0 (.msl j0)<|cn,j0,⟨⟨_,j0,rsMap (fun _=>j0)⟩,j5⟩,j0,j1⟩
 ·
  rintro v12 rfl
  replace h : hier_given_k4 v12 = some r:=h
  unfold hier_given_k4 at h
  refine ow_intro ?_
  refine rg j0<|u<|mv j0<|u<|asg j0<|r_nil ?_
  refine sw_ret ?_
  obtain rfl:=sm h
  exact ⟨_,j0,[.old 0],.msl j0,j0,⟨⟨_,j0,rsMap (fun _=>j0)⟩,j5⟩,j0,j1⟩
 ·
  rintro r' rfl env st hp
  obtain rfl:=sm h
  exact hp
def hier_above (v1 : ApiClass) : Option ((List (List UInt8))) :=
  (appP 16 [v1.Super] v1.Impl).bind fun v2=>some v2
theorem hier_above_ok (v1 : ApiClass) {r : (List (List UInt8))} (h : hier_above v1 = some r) : SC Tryz.prog 100 [.agg (rApiClass v1)] [] (.msl 0 0 (List.length r)) [.many 1 (List.map rStr r)]:=by
 refine ⟨⟨sbOk (sz:=1) (fun _=>j0),j5⟩,scall_fn Tryz.func100 j0 (by kernel_rfl) j0 ?_⟩
 unfold hier_above at h
 refine rg j0<|u<|bx 0 6 j0 j0 j0 j0<|u<|asg j0<|r_nil ?_
 obtain ⟨v2,q1,h⟩:=bs h
 refine rg j0<|u<|fa ti26 j0 j0 j0<|u<|ld ti9 j0 j0<|u<|bl 1 ti22 j0 ti9 j0 (by decide) (by decide) j0 j0 j0<|u<|fa ti26 j0 j0 j0<|u<|ld ti22 j0 j0<|u<|apM (l:=[v1.Super]) (f:=rStr) 2 ti22 j0 ti9 j0 j0 (by decide) ti22 j0 j0 j0 j0 roI (fun _=>j0) j0 q1<|u<|asg j0<|r_nil ?_
 refine sw_ret ?_
 obtain rfl:=sm h
 exact ⟨_,j0,[.old 2],.msl j0,j0,⟨⟨_,j0,rsMap (fun _=>j0)⟩,j5⟩,j0,j1⟩
def hier_Hier_has (v1 : List ApiClass) (v2 : List (List UInt8 × Int)) (v3 : List UInt8) : Bool :=
  (Option.isSome (mapGet v3 v2))
theorem hier_Hier_has_ok (v1 : List ApiClass) (v2 : List (List UInt8 × Int)) (v3 : List UInt8) {r : Bool} (h : hier_Hier_has v1 v2 v3 = r) : PureC Tryz.prog 102 [.ipt 2 [[.isl 6 (List.map rApiClass v1),.imp (List.map (rKV (fun x=>iA x)) v2)]] 0 0,sA v3] (bA r):=by
 refine pure_fn Tryz.func102 j0 (by kernel_rfl) j0 j0 ?_
 unfold hier_Hier_has at h
 refine rg j0<|u<|asg j0<|r_nil ?_
 refine sw_seq ?_
 refine rg j0<|u<|mv j0<|u<|eqp ti48 j0 j0 j0 j0 j0 j0<|r_nil ?_
 refine sw_cond j0 (fun hx=>by cases hx) (fun _=>?_)
 refine sw_skip ?_
 refine rg j0<|u<|mv j0<|u<|nc j0 j0<|u<|fa ti156 j0 j0 j0<|u<|ld ti154 j0 j0<|u<|mv j0<|u<|mlkT (g:=(fun x=>iA x)) (z:=0) (l:=v2) j0 ti3 j0 j0 j0 j0<|u<|mv j0<|u<|ex j0 j0<|u<|ex j0 j0<|u<|asg j0<|u<|asg j0<|r_nil ?_
 refine rg j0<|u<|mv j0<|u<|asg j0<|r_nil ?_
 refine sw_ret ?_
 obtain rfl:=h
 exact ⟨_,j0,[],ci j0,j0,j5,j0,j1⟩
def hier_New_1 (v1 : List UInt8) (v2 : List ApiClass) (v3 : List (List UInt8 × Int)) : Bool :=
  (!(hier_Hier_has v2 v3 v1))
theorem hier_New_1_ok (v1 : List UInt8) (v2 : List ApiClass) (v3 : List (List UInt8 × Int)) {r : Bool} (h : hier_New_1 v1 v2 v3 = r) : PureC Tryz.prog 101 [sA v1,.ipt 1 [[.ipt 2 [[.isl 6 (List.map rApiClass v2),.imp (List.map (rKV (fun x=>iA x)) v3)]] 0 0]] 0 0] (bA r):=by
 refine pure_fn Tryz.func101 j0 (by kernel_rfl) j0 j0 ?_
 unfold hier_New_1 at h
 refine rg j0<|u<|asg j0<|r_nil ?_
 refine rg j0<|u<|ld ti48 j0 j0<|u<|mv j0<|u<|pc (hier_Hier_has_ok v2 v3 v1 j0) j0 j0 j0<|u<|nt j0<|u<|asg j0<|r_nil ?_
 refine sw_ret ?_
 obtain rfl:=h
 exact ⟨_,j0,[],ci j0,j0,j5,j0,j1⟩
def slices_IndexFunc_string_string_s4_k2 : Option (Int) :=
  some (-1)
def slices_IndexFunc_string_string_s4_l1 (v1 : List (List UInt8)) (v2 : List ApiClass) (v3 : List (List UInt8 × Int)) (v6 : Int) : Option (Sum (Int) (Sum (Unit) (Int))) :=
  cond (decide (v6 < (List.length v1 : Int))) ((idx v1 v6).bind fun v7=>cond (hier_New_1 v7 v2 v3) (some (.inr (.inr v6))) (some (.inl (IntKind.i64.wrap (v6 + 1))))) (some (.inr (.inl ())))
def slices_IndexFunc_string_string_s4 (v1 : List (List UInt8)) (v2 : List ApiClass) (v3 : List (List UInt8 × Int)) : Option (Int) :=
  (loopP (fun z=>slices_IndexFunc_string_string_s4_l1 v1 v2 v3 z) 0).bind fun o=>leave o (fun b=>slices_IndexFunc_string_string_s4_k2) some
theorem slices_IndexFunc_string_string_s4_ok (v1 : List (List UInt8)) (v2 : List ApiClass) (v3 : List (List UInt8 × Int)) {r : Int} (h : slices_IndexFunc_string_string_s4 v1 v2 v3 = some r) : PureC Tryz.prog 181 [.isl 1 (List.map rStr v1),.fn (.func 101) [] [.ipt 1 [[.ipt 2 [[.isl 6 (List.map rApiClass v2),.imp (List.map (rKV (fun x=>iA x)) v3)]] 0 0]] 0 0]] (iA r):=by
 refine pure_fn Tryz.func181 j0 (by kernel_rfl) j0 j0 ?_
 unfold slices_IndexFunc_string_string_s4 at h
 refine rg j0<|u<|asg j0<|r_nil ?_
 refine sw_seq ?_
 refine rg j0<|u<|mv j0<|u<|lnI ti22 j0 j0<|u<|mv j0<|r_nil ?_
 obtain ⟨o,ho,h⟩:=bs h
 refine sw_lpl (X:=Int) (B:=Unit) (R:=Int) (fun z=>[(0,.isl 1 (List.map rStr v1)),(1,.fn (.func 101) [] [.ipt 1 [[.ipt 2 [[.isl 6 (List.map rApiClass v2),.imp (List.map (rKV (fun x=>iA x)) v3)]] 0 0]] 0 0]),(7,iA (List.length v1 : Int)),(8,iA z)]) (fun z=>[]) (fun b=>[]) (fun b=>[]) (fun r env st=>PostF Tryz.prog Tryz.f181 0 (iA r) [] env st) ho ⟨[],ce j0 j0<|ce j0 j0<|ce j0 j0<|ce j0 j0<|cn,j0,j5,j0,j1⟩ ?_ ?_ ?_
 ·
  rintro v6 r h
  replace h : slices_IndexFunc_string_string_s4_l1 v1 v2 v3 v6 = some r:=h
  unfold slices_IndexFunc_string_string_s4_l1 at h
  refine rg j0<|u<|lss ti3 j0 j0<|r_nil ?_
  refine sw_seq ?_
  refine sw_cond j0 (fun hc4=>?_) (fun hc4=>?_)
  ·
   replace h:=bT hc4 h
   refine sw_skip ?_
   refine sw_seq ?_
   refine sw_block ?_
   refine rg j0<|u<|mv j0<|u<|asg j0<|r_nil ?_
   obtain ⟨v7,q5,h⟩:=bs h
   refine rg j0<|u<|mv j0<|u<|mv j0<|u<|mv j0<|u<|ixI ti22 j0 ti9 j0 j0 j0 q5<|u<|ldI ti9 j0 (idx_some q5).2.2 j0<|u<|pc (hier_New_1_ok v7 v2 v3 j0) j0 j0 j0<|r_nil ?_
   refine sw_cond j0 (fun hc6=>?_) (fun hc6=>?_)
   ·
    replace h:=bT hc6 h
    refine rg j0<|u<|mv j0<|u<|asg j0<|r_nil ?_
    refine sw_ret ?_
    obtain rfl:=sm h
    exact ⟨_,j0,_,j0,[],ci j0,j0,j5,j0,j1⟩
   ·
    replace h:=bF hc6 h
    refine sw_skip ?_
    refine rl j0<|u<|add ti3 j0 j0<|u<|mv j0<|r_nil ?_
    obtain rfl:=sm h
    exact ⟨_,j0,[],ce j0 j0<|ce j0 j0<|ce j0 j0<|ce j0 j0<|cn,j0,j5,j0,j1⟩
  ·
   replace h:=bF hc4 h
   refine sw_exit ?_
   obtain rfl:=sm h
   exact ⟨j0,_,j0,[],cn,j0,j5,j0,j1⟩
 ·
  rintro ⟨⟩ rfl
  replace h : slices_IndexFunc_string_string_s4_k2 = some r:=h
  unfold slices_IndexFunc_string_string_s4_k2 at h
  refine ow_intro ?_
  refine rg j0<|u<|asg j0<|r_nil ?_
  refine sw_ret ?_
  obtain rfl:=sm h
  exact ⟨_,j0,[],ci j0,j0,j5,j0,j1⟩
 ·
  rintro r' rfl env st hp
  obtain rfl:=sm h
  exact hp
def slices_ContainsFunc_string_string_s4 (v1 : List (List UInt8)) (v2 : List ApiClass) (v3 : List (List UInt8 × Int)) : Option (Bool) :=
  (slices_IndexFunc_string_string_s4 v1 v2 v3).bind fun v4=>some (decide (0 ≤ v4))
theorem slices_ContainsFunc_string_string_s4_ok (v1 : List (List UInt8)) (v2 : List ApiClass) (v3 : List (List UInt8 × Int)) {r : Bool} (h : slices_ContainsFunc_string_string_s4 v1 v2 v3 = some r) : PureC Tryz.prog 99 [.isl 1 (List.map rStr v1),.fn (.func 101) [] [.ipt 1 [[.ipt 2 [[.isl 6 (List.map rApiClass v2),.imp (List.map (rKV (fun x=>iA x)) v3)]] 0 0]] 0 0]] (bA r):=by
 refine pure_fn Tryz.func99 j0 (by kernel_rfl) j0 j0 ?_
 unfold slices_ContainsFunc_string_string_s4 at h
 refine rg j0<|u<|asg j0<|r_nil ?_
 obtain ⟨v4,q1,h⟩:=bs h
 refine rg j0<|u<|mv j0<|u<|mv j0<|u<|pc (slices_IndexFunc_string_string_s4_ok v1 v2 v3 q1) j0 j0 j0<|u<|geq ti3 j0 j0<|u<|asg j0<|r_nil ?_
 refine sw_ret ?_
 obtain rfl:=sm h
 exact ⟨_,j0,[],ci j0,j0,j5,j0,j1⟩
def hier_Hier_get (v1 : List ApiClass) (v2 : List (List UInt8 × Int)) (v3 : List UInt8) : Option (ApiClass) :=
  (idx v1 (Option.getD (mapGet v3 v2) 0)).bind fun v4=>some v4
theorem hier_Hier_get_ok (v1 : List ApiClass) (v2 : List (List UInt8 × Int)) (v3 : List UInt8) {r : ApiClass} (h : hier_Hier_get v1 v2 v3 = some r) : PureC Tryz.prog 182 [.ipt 2 [[.isl 6 (List.map rApiClass v1),.imp (List.map (rKV (fun x=>iA x)) v2)]] 0 0,sA v3] (.agg (rApiClass r)):=by
 refine pure_fn Tryz.func182 j0 (by kernel_rfl) j0 j0 ?_
 unfold hier_Hier_get at h
 refine rg j0<|u<|al 0 ti26 j0<|r_nil ?_
 obtain ⟨v4,q1,h⟩:=bs h
 refine rd [(4,.mpt 0 0 0)] [some (6,[(rApiClass v4)])] [12] [11,10,9,8,7,6,5,4,3,2,1,0] [(16,.agg (rApiClass v4)),(15,.ipt 6 (List.map rApiClass v1) (Int.toNat (Option.getD (mapGet v3 v2) 0)) 0),(14,iA (Option.getD (mapGet v3 v2) 0)),(13,sA v3),(12,.imp (List.map (rKV (fun x=>iA x)) v2)),(11,.ipt 2 [[.isl 6 (List.map rApiClass v1),.imp (List.map (rKV (fun x=>iA x)) v2)]] 0 1),(10,.ipt 2 [[.isl 6 (List.map rApiClass v1),.imp (List.map (rKV (fun x=>iA x)) v2)]] 0 0),(9,.ipt 2 [[.isl 6 (List.map rApiClass v1),.imp (List.map (rKV (fun x=>iA x)) v2)]] 0 0),(8,.isl 6 (List.map rApiClass v1)),(7,.ipt 2 [[.isl 6 (List.map rApiClass v1),.imp (List.map (rKV (fun x=>iA x)) v2)]] 0 0),(6,.ipt 2 [[.isl 6 (List.map rApiClass v1),.imp (List.map (rKV (fun x=>iA x)) v2)]] 0 0),(5,.ipt 2 [[.isl 6 (List.map rApiClass v1),.imp (List.map (rKV (fun x=>iA x)) v2)]] 0 0)] 1 (by kernel_rfl) (by kernel_rfl) j0 (by kernel_rfl) (dtS ⟨(fun _=>pa j0 j0 j0 j0 (ldI ti26 j0 (idx_some q1).2.2 j0<|j4)),(fun _=>pa j0 j0 j0 j0 (ixI ti46 j0 ti26 j0 j0 j0 q1<|j4)),(fun _=>pa j0 j0 j0 j0 (mlkF (g:=(fun x=>iA x)) (z:=0) (l:=v2) j0 ti3 j0 j0 j0 j0<|j4)),(fun _=>pa j0 j0 j0 j0 (mv j0<|j4)),(fun _=>pa j0 j0 j0 j0 (ld ti154 j0 j0<|j4)),(fun _=>pa j0 j0 j0 j0 (fa ti156 j0 j0 j0<|j4)),(fun _=>pa j0 j0 j0 j0 (nc j0 j0<|j4)),(fun _=>pa j0 j0 j0 j0 (mv j0<|j4)),(fun _=>pa j0 j0 j0 j0 (ld ti46 j0 j0<|j4)),(fun _=>pa j0 j0 j0 j0 (fa ti156 j0 j0 j0<|j4)),(fun _=>pa j0 j0 j0 j0 (nc j0 j0<|j4)),(fun _=>pa j0 j0 j0 j0 (mv j0<|j4)),j5⟩ (by kernel_rfl) j0 ⟨(fun _ _=>⟨_,j0,j0,sto ti26 j0 j0 j0<|⟨.any,[],[],j0,j0,by kernel_rfl,j5,dt0 ⟨(fun h=>by cases h),(fun h=>by cases h),(fun h=>by cases h),(fun h=>by cases h),(fun h=>by cases h),(fun h=>by cases h),(fun h=>by cases h),(fun h=>by cases h),(fun h=>by cases h),(fun h=>by cases h),(fun h=>by cases h),(fun h=>by cases h),j5⟩ (by kernel_rfl) j0 ⟨[.old 0],cv j0 (.mpt j0)<|cn,j0,⟨⟨_,j0,rsOne (ciL j0)⟩,j5⟩,j0,j1⟩⟩⟩),j5⟩) ?_
 refine sw_ret ?_
 obtain rfl:=sm h
 exact ⟨_,j0,[],ci j0,j0,j5,j0,j1⟩
def hier_Hier_fits_1 (v1 : List UInt8) (v2 : List ApiClass) (v3 : List (List UInt8 × Int)) : Option (Bool) :=
  (hier_Hier_get v2 v3 v1).bind fun v4=>some (!v4.Interface)
theorem hier_Hier_fits_1_ok (v1 : List UInt8) (v2 : List ApiClass) (v3 : List (List UInt8 × Int)) {r : Bool} (h : hier_Hier_fits_1 v1 v2 v3 = some r) : PureC Tryz.prog 183 [sA v1,.ipt 1 [[.ipt 2 [[.isl 6 (List.map rApiClass v2),.imp (List.map (rKV (fun x=>iA x)) v3)]] 0 0]] 0 0] (bA r):=by
 refine pure_fn Tryz.func183 j0 (by kernel_rfl) j0 j0 ?_
 unfold hier_Hier_fits_1 at h
 refine rg j0<|u<|asg j0<|r_nil ?_
 obtain ⟨v4,q1,h⟩:=bs h
 refine rg j0<|u<|ld ti48 j0 j0<|u<|mv j0<|u<|pc (hier_Hier_get_ok v2 v3 v1 q1) j0 j0 j0<|u<|fdV j0 j0<|u<|nt j0<|u<|asg j0<|r_nil ?_
 refine sw_ret ?_
 obtain rfl:=sm h
 exact ⟨_,j0,[],ci j0,j0,j5,j0,j1⟩
def slices_IndexFunc_string_string_s5_k2 : Option (Int) :=
  some (-1)
def slices_IndexFunc_string_string_s5_l1 (v1 : List (List UInt8)) (v2 : List ApiClass) (v3 : List (List UInt8 × Int)) (v7 : Int) : Option (Sum (Int) (Sum (Unit) (Int))) :=
  cond (decide (v7 < (List.length v1 : Int))) ((idx v1 v7).bind fun v8=>(hier_Hier_fits_1 v8 v2 v3).bind fun v9=>cond v9 (some (.inr (.inr v7))) (some (.inl (IntKind.i64.wrap (v7 + 1))))) (some (.inr (.inl ())))
def slices_IndexFunc_string_string_s5 (v1 : List (List UInt8)) (v2 : List ApiClass) (v3 : List (List UInt8 × Int)) : Option (Int) :=
  (loopP (fun z=>slices_IndexFunc_string_string_s5_l1 v1 v2 v3 z) 0).bind fun o=>leave o (fun b=>slices_IndexFunc_string_string_s5_k2) some
theorem slices_IndexFunc_string_string_s5_ok (v1 : List (List UInt8)) (v2 : List ApiClass) (v3 : List (List UInt8 × Int)) {r : Int} (h : slices_IndexFunc_string_string_s5 v1 v2 v3 = some r) : PureC Tryz.prog 181 [.isl 1 (List.map rStr v1),.fn (.func 183) [] [.ipt 1 [[.ipt 2 [[.isl 6 (List.map rApiClass v2),.imp (List.map (rKV (fun x=>iA x)) v3)]] 0 0]] 0 0]] (iA r):=by
 refine pure_fn Tryz.func181 j0 (by kernel_rfl) j0 j0 ?_
 unfold slices_IndexFunc_string_string_s5 at h
 refine rg j0<|u<|asg j0<|r_nil ?_
 refine sw_seq ?_
 refine rg j0<|u<|mv j0<|u<|lnI ti22 j0 j0<|u<|mv j0<|r_nil ?_
 obtain ⟨o,ho,h⟩:=bs h
 refine sw_lpl (X:=Int) (B:=Unit) (R:=Int) (fun z=>[(0,.isl 1 (List.map rStr v1)),(1,.fn (.func 183) [] [.ipt 1 [[.ipt 2 [[.isl 6 (List.map rApiClass v2),.imp (List.map (rKV (fun x=>iA x)) v3)]] 0 0]] 0 0]),(7,iA (List.length v1 : Int)),(8,iA z)]) (fun z=>[]) (fun b=>[]) (fun b=>[]) (fun r env st=>PostF Tryz.prog Tryz.f181 0 (iA r) [] env st) ho ⟨[],ce j0 j0<|ce j0 j0<|ce j0 j0<|ce j0 j0<|cn,j0,j5,j0,j1⟩ ?_ ?_ ?_
 ·
  rintro v7 r h
  replace h : slices_IndexFunc_string_string_s5_l1 v1 v2 v3 v7 = some r:=h
  unfold slices_IndexFunc_string_string_s5_l1 at h
  refine rg j0<|u<|lss ti3 j0 j0<|r_nil ?_
  refine sw_seq ?_
  refine sw_cond j0 (fun hc5=>?_) (fun hc5=>?_)
  ·
   replace h:=bT hc5 h
   refine sw_skip ?_
   refine sw_seq ?_
   refine sw_block ?_
   refine rg j0<|u<|mv j0<|u<|asg j0<|r_nil ?_
   obtain ⟨v8,q6,h⟩:=bs h
   obtain ⟨v9,q7,h⟩:=bs h
   refine rg j0<|u<|mv j0<|u<|mv j0<|u<|mv j0<|u<|ixI ti22 j0 ti9 j0 j0 j0 q6<|u<|ldI ti9 j0 (idx_some q6).2.2 j0<|u<|pc (hier_Hier_fits_1_ok v8 v2 v3 q7) j0 j0 j0<|r_nil ?_
   refine sw_cond j0 (fun hc8=>?_) (fun hc8=>?_)
   ·
    replace h:=bT hc8 h
    refine rg j0<|u<|mv j0<|u<|asg j0<|r_nil ?_
    refine sw_ret ?_
    obtain rfl:=sm h
    exact ⟨_,j0,_,j0,[],ci j0,j0,j5,j0,j1⟩
   ·
    replace h:=bF hc8 h
    refine sw_skip ?_
    refine rl j0<|u<|add ti3 j0 j0<|u<|mv j0<|r_nil ?_
    obtain rfl:=sm h
    exact ⟨_,j0,[],ce j0 j0<|ce j0 j0<|ce j0 j0<|ce j0 j0<|cn,j0,j5,j0,j1⟩
  ·
   replace h:=bF hc5 h
   refine sw_exit ?_
   obtain rfl:=sm h
   exact ⟨j0,_,j0,[],cn,j0,j5,j0,j1⟩
 ·
  rintro ⟨⟩ rfl
  replace h : slices_IndexFunc_string_string_s5_k2 = some r:=h
  unfold slices_IndexFunc_string_string_s5_k2 at h
  refine ow_intro ?_
  refine rg j0<|u<|asg j0<|r_nil ?_
  refine sw_ret ?_
  obtain rfl:=sm h
  exact ⟨_,j0,[],ci j0,j0,j5,j0,j1⟩
 ·
  rintro r' rfl env st hp
  obtain rfl:=sm h
  exact hp
def slices_ContainsFunc_string_string_s5 (v1 : List (List UInt8)) (v2 : List ApiClass) (v3 : List (List UInt8 × Int)) : Option (Bool) :=
  (slices_IndexFunc_string_string_s5 v1 v2 v3).bind fun v4=>some (decide (0 ≤ v4))
theorem slices_ContainsFunc_string_string_s5_ok (v1 : List (List UInt8)) (v2 : List ApiClass) (v3 : List (List UInt8 × Int)) {r : Bool} (h : slices_ContainsFunc_string_string_s5 v1 v2 v3 = some r) : PureC Tryz.prog 99 [.isl 1 (List.map rStr v1),.fn (.func 183) [] [.ipt 1 [[.ipt 2 [[.isl 6 (List.map rApiClass v2),.imp (List.map (rKV (fun x=>iA x)) v3)]] 0 0]] 0 0]] (bA r):=by
 refine pure_fn Tryz.func99 j0 (by kernel_rfl) j0 j0 ?_
 unfold slices_ContainsFunc_string_string_s5 at h
 refine rg j0<|u<|asg j0<|r_nil ?_
 obtain ⟨v4,q1,h⟩:=bs h
 refine rg j0<|u<|mv j0<|u<|mv j0<|u<|pc (slices_IndexFunc_string_string_s5_ok v1 v2 v3 q1) j0 j0 j0<|u<|geq ti3 j0 j0<|u<|asg j0<|r_nil ?_
 refine sw_ret ?_
 obtain rfl:=sm h
 exact ⟨_,j0,[],ci j0,j0,j5,j0,j1⟩
def hier_Hier_fits_k10 : Option (Bool) :=
  some true
def hier_Hier_fits_k8 (v30 : Int) (v49 : List (List UInt8)) : Option (Sum ((List (List UInt8)) × Int) (Sum (Unit) (Bool))) :=
  some (.inl (v49,(IntKind.i64.wrap (v30 + 1))))
def hier_Hier_fits_j6 (v43 : Int) (v48 : List (List UInt8)) : Option (Sum ((List (List UInt8)) × Int) (Sum ((List (List UInt8))) (Bool))) :=
  some (.inl (v48,(IntKind.i64.wrap (v43 + 1))))
def hier_Hier_fits_l7 (v34 : (List (List UInt8))) (v42 : List (List UInt8)) (v43 : Int) : Option (Sum ((List (List UInt8)) × Int) (Sum ((List (List UInt8))) (Bool))) :=
  cond (decide (v43 < ((List.length v34) : Int))) ((idx v34 v43).bind fun v44=>(cond (!(v44 == [])) ((slices_Contains_string_string v42 v44).bind fun v45=>some (!v45)) (some false)).bind fun v46=>cond v46 ((appP 16 v42 [v44]).bind fun v47=>hier_Hier_fits_j6 v43 v47) (hier_Hier_fits_j6 v43 v42)) (some (.inr (.inl v42)))
def hier_Hier_fits_l9 (v1 : List ApiClass) (v2 : List (List UInt8 × Int)) (v3 : ApiClass) (v29 : List (List UInt8)) (v30 : Int) : Option (Sum ((List (List UInt8)) × Int) (Sum (Unit) (Bool))) :=
  cond (decide (v30 < ((List.length v29) : Int))) ((idx v29 v30).bind fun v31=>cond (v31 == v3.Name) (some (.inr (.inr false))) ((idx v29 v30).bind fun v32=>(hier_Hier_get v1 v2 v32).bind fun v33=>(hier_above v33).bind fun v34=>(loopP (fun z=>hier_Hier_fits_l7 v34 z.1 z.2) (v29,0)).bind fun o=>leave o (fun b=>hier_Hier_fits_k8 v30 b) (fun r=>some (.inr (.inr r))))) (some (.inr (.inl ())))
def hier_Hier_fits (v1 : List ApiClass) (v2 : List (List UInt8 × Int)) (v3 : ApiClass) : Option (Bool) :=
  (hier_Hier_get v1 v2 v3.Super).bind fun v4=>(cond v4.Interface (some true) ((slices_ContainsFunc_string_string_s5 v3.Impl v1 v2).bind fun v5=>some v5)).bind fun v6=>cond v6 (some false) ((hier_above v3).bind fun v7=>(loopP (fun z=>hier_Hier_fits_l9 v1 v2 v3 z.1 z.2) (v7,0)).bind fun o=>leave o (fun b=>hier_Hier_fits_k10) some)
theorem hier_Hier_fits_ok (v1 : List ApiClass) (v2 : List (List UInt8 × Int)) (v3 : ApiClass) {r : Bool} (h : hier_Hier_fits v1 v2 v3 = some r) : PureC Tryz.prog 103 [.ipt 2 [[.isl 6 (List.map rApiClass v1),.imp (List.map (rKV (fun x=>iA x)) v2)]] 0 0,.agg (rApiClass v3)] (bA r):=by
 refine pure_fn Tryz.func103 j0 (by kernel_rfl) j0 j0 ?_
 unfold hier_Hier_fits at h
 refine rg j0<|u<|bx 0 1 j0 j0 j0 j0<|u<|bx 1 6 j0 j0 j0 j0<|u<|asg j0<|r_nil ?_
 refine sw_seq ?_
 obtain ⟨v4,q1,h⟩:=bs h
 obtain ⟨v6,q4,h⟩:=bs h
 refine rg j0<|u<|ld ti48 j0 j0<|u<|fa ti26 j0 j0 j0<|u<|ld ti9 j0 j0<|u<|pc (hier_Hier_get_ok v1 v2 v3.Super q1) j0 j0 j0<|u<|fdV j0 j0<|u<|mv j0<|r_or (x:=v6) (j:=5) 4 j0 j0 j0 j0 j0 gpn (fun hb2=>by replace q4:=bF hb2 q4; obtain ⟨v5,q3,q4⟩:=bs q4; obtain rfl:=sm q4; exact g j0 hb2<|fa ti26 j0 j0 j0<|g j0 hb2<|ld ti22 j0 j0<|g j0 hb2<|mf j0 j0<|g j0 hb2<|pcs (slices_ContainsFunc_string_string_s5_ok v3.Impl v1 v2 q3) j0 j0 (.cons (si j0) (.cons (sealFn j5 ⟨(sealBox j0 ⟨(si j0),j5⟩),j5⟩) .nil)) plainB<|r_nil (eg [15,16,17,18] 4 j0 j0 j0 j0)) (fun hb=>(sm (bT hb q4)).symm)<|r_nil ?_
 refine sw_cond j0 (fun hc5=>?_) (fun hc5=>?_)
 ·
  replace h:=bT hc5 h
  refine rg j0<|u<|asg j0<|r_nil ?_
  refine sw_ret ?_
  obtain rfl:=sm h
  exact ⟨_,j0,[],ci j0,j0,j5,j0,j1⟩
 ·
  replace h:=bF hc5 h
  refine sw_skip ?_
  obtain ⟨v7,q6,h⟩:=bs h
  refine rg j0<|u<|ld ti26 j0 j0<|u<|sc [] (hier_above_ok v3 q6) j0 j0 j0 j0 ⟨(rnI j0),j5⟩ j5<|r_can (env0:=[(2,.mpt 0 0 0),(3,.mpt 1 0 0),(21,.msl 2 0 (List.length v7))]) (st0:=[some (1,[[.ipt 2 [[.isl 6 (List.map rApiClass v1),.imp (List.map (rKV (fun x=>iA x)) v2)]] 0 0]]),some (6,[(rApiClass v3)]),some (1,List.map rStr v7)]) ⟨[.old 0,.old 1,.old 2],cv j0 (.mpt j0)<|cv j0 (.mpt j0)<|cv j0 (.msl j0)<|cn,j0,⟨⟨_,j0,rsOne ⟨ci j0,j5⟩⟩,⟨_,j0,rsOne (ciL j0)⟩,⟨_,j0,rsMap (fun _=>j0)⟩,j5⟩,j0,j1⟩<|u<|asg j0<|r_nil ?_
  refine sw_seq ?_
  refine rg j0<|u<|asg j0<|r_nil ?_
  obtain ⟨o,ho,h⟩:=bs h
  refine sw_lpl (X:=(List (List UInt8)) × Int) (B:=Unit) (R:=Bool) (fun z=>[(2,.mpt 0 0 0),(3,.mpt 1 0 0),(5,.msl 2 0 (List.length z.1)),(6,iA z.2)]) (fun z=>[some (1,[[.ipt 2 [[.isl 6 (List.map rApiClass v1),.imp (List.map (rKV (fun x=>iA x)) v2)]] 0 0]]),some (6,[(rApiClass v3)]),some (1,List.map rStr z.1)]) (fun b=>[]) (fun b=>[]) (fun r env st=>PostF Tryz.prog Tryz.f103 0 (bA r) [] env st) ho ⟨[.old 0,.old 1,.old 2],cv j0 (.mpt j0)<|cv j0 (.mpt j0)<|cv j0 (.msl j0)<|ce j0 j0<|cn,j0,⟨⟨_,j0,rsOne ⟨ci j0,j5⟩⟩,⟨_,j0,rsOne (ciL j0)⟩,⟨_,j0,rsMap (fun _=>j0)⟩,j5⟩,j0,j1⟩ ?_ ?_ ?_
  ·
   rintro ⟨v29,v30⟩ r h
   replace h : hier_Hier_fits_l9 v1 v2 v3 v29 v30 = some r:=h
   unfold hier_Hier_fits_l9 at h
   refine sw_seq ?_
   refine rg j0<|u<|mv j0<|u<|mv j0<|u<|lnM ti22 j0 j0 j0<|u<|lss ti3 j0 j0<|r_nil ?_
   refine sw_cond j0 (fun hc27=>?_) (fun hc27=>?_)
   ·
    replace h:=bT hc27 h
    refine sw_skip ?_
    refine sw_seq ?_
    refine sw_block ?_
    refine sw_seq ?_
    obtain ⟨v31,q28,h⟩:=bs h
    refine rd [(2,.mpt 0 0 0),(3,.mpt 1 0 0),(5,.msl 2 0 (List.length v29)),(6,iA v30),(34,bA (v31 == v3.Name))] [some (1,[[.ipt 2 [[.isl 6 (List.map rApiClass v1),.imp (List.map (rKV (fun x=>iA x)) v2)]] 0 0]]),some (6,[(rApiClass v3)]),some (1,List.map rStr v29)] [] [6,5,4,3,2,1,0] [(34,bA (v31 == v3.Name)),(33,sA v3.Name),(32,.mpt 1 0 0),(31,sA v31),(30,.mpt 2 (Int.toNat v30) 0),(29,iA v30),(28,.msl 2 0 (List.length v29))] 0 (by kernel_rfl) (by kernel_rfl) j0 (by kernel_rfl) (dt0 ⟨(fun _=>pa j0 j0 j0 j0 (seq ti9 j0 j0<|j4)),(fun _=>pa j0 j0 j0 j0 (ld ti9 j0 j0<|j4)),(fun _=>pa j0 j0 j0 j0 (fa ti26 j0 j0 j0<|j4)),(fun _=>pa j0 j0 j0 j0 (ldM ti9 j0 j0 (idx_some q28).2.2 j0<|j4)),(fun _=>pa j0 j0 j0 j0 (ixM ti22 j0 ti9 j0 j0 j0 j0 q28<|j4)),(fun _=>pa j0 j0 j0 j0 (mv j0<|j4)),(fun _=>pa j0 j0 j0 j0 (mv j0<|j4)),j5⟩ (by kernel_rfl) j0 ⟨[.old 0,.old 1,.old 2],cv j0 (.mpt j0)<|cv j0 (.mpt j0)<|cv j0 (.msl j0)<|ce j0 j0<|ce j0 j0<|cn,j0,⟨⟨_,j0,rsOne ⟨ci j0,j5⟩⟩,⟨_,j0,rsOne (ciL j0)⟩,⟨_,j0,rsMap (fun _=>j0)⟩,j5⟩,j0,j1⟩) ?_
    refine sw_cond j0 (fun hc29=>?_) (fun hc29=>?_)
    ·
     replace h:=bT hc29 h
     refine rg j0<|u<|asg j0<|r_nil ?_
     refine sw_ret ?_
     obtain rfl:=sm h
     exact ⟨_,j0,_,j0,[],ci j0,j0,j5,j0,j1⟩
    ·
     replace h:=bF hc29 h
     refine sw_skip ?_
     obtain ⟨v32,q30,h⟩:=bs h
     obtain ⟨v33,q31,h⟩:=bs h
     obtain ⟨v34,q32,h⟩:=bs h
     refine rd [(2,.mpt 0 0 0),(3,.mpt 1 0 0),(5,.msl 2 0 (List.length v29)),(6,iA v30),(41,.msl 3 0 (List.length v34)),(42,iA ((List.length v34) : Int)),(43,iA 0)] [some (1,[[.ipt 2 [[.isl 6 (List.map rApiClass v1),.imp (List.map (rKV (fun x=>iA x)) v2)]] 0 0]]),some (6,[(rApiClass v3)]),some (1,List.map rStr v29),some (1,List.map rStr v34)] [6] [8,5,4,3,2,1,0] [(43,iA 0),(40,.agg (rApiClass v33)),(39,sA v32),(38,.mpt 2 (Int.toNat v30) 0),(37,iA v30),(36,.msl 2 0 (List.length v29)),(35,.ipt 2 [[.isl 6 (List.map rApiClass v1),.imp (List.map (rKV (fun x=>iA x)) v2)]] 0 0)] 1 (by kernel_rfl) (by kernel_rfl) j0 (by kernel_rfl) (dtS ⟨(fun _=>pa j0 j0 j0 j0 (mv j0<|j4)),(fun _=>pa j0 j0 j0 j0 (pc (hier_Hier_get_ok v1 v2 v32 q31) j0 j0 j0<|j4)),(fun _=>pa j0 j0 j0 j0 (ldM ti9 j0 j0 (idx_some q30).2.2 j0<|j4)),(fun _=>pa j0 j0 j0 j0 (ixM ti22 j0 ti9 j0 j0 j0 j0 q30<|j4)),(fun _=>pa j0 j0 j0 j0 (mv j0<|j4)),(fun _=>pa j0 j0 j0 j0 (mv j0<|j4)),(fun _=>pa j0 j0 j0 j0 (ld ti48 j0 j0<|j4)),j5⟩ (by kernel_rfl) j0 ⟨(fun _ _=>⟨_,j0,j0,sc [] (hier_above_ok v33 q32) j0 j0 j0 j0 ⟨(rnI j0),j5⟩ j5<|⟨(.msl 3 0 (List.length v34)),[7],[(42,iA ((List.length v34) : Int)),(41,.msl 3 0 (List.length v34))],j0,j0,by kernel_rfl,j0,dt0 ⟨(fun _=>pa j0 j0 j0 j0 (lnM ti22 j0 j0 j0<|j4)),(fun _=>pa j0 j0 j0 j0 (mv j0<|j4)),(fun h=>by cases h),(fun _=>pa j0 j0 j0 j0 (ldM ti9 j0 j0 (idx_some q30).2.2 j0<|j4)),(fun _=>pa j0 j0 j0 j0 (ixM ti22 j0 ti9 j0 j0 j0 j0 q30<|j4)),(fun _=>pa j0 j0 j0 j0 (mv j0<|j4)),(fun _=>pa j0 j0 j0 j0 (mv j0<|j4)),(fun _=>pa j0 j0 j0 j0 (ld ti48 j0 j0<|j4)),j5⟩ (by kernel_rfl) j0 ⟨[.old 0,.old 1,.old 2,.old 3],cv j0 (.mpt j0)<|cv j0 (.mpt j0)<|cv j0 (.msl j0)<|ce j0 j0<|cv j0 (.msl j0)<|ce j0 j0<|ce j0 j0<|cn,j0,⟨⟨_,j0,rsOne ⟨ci j0,j5⟩⟩,⟨_,j0,rsOne (ciL j0)⟩,⟨_,j0,rsMap (fun _=>j0)⟩,⟨_,j0,rsMap (fun _=>j0)⟩,j5⟩,j0,j1⟩⟩⟩),j5⟩) ?_
     obtain ⟨o,ho,h⟩:=bs h
     refine sw_lpl (X:=(List (List UInt8)) × Int) (B:=(List (List UInt8))) (R:=Bool) (fun z=>[(2,.mpt 0 0 0),(3,.mpt 1 0 0),(5,.msl 2 0 (List.length z.1)),(6,iA v30),(41,.msl 3 0 (List.length v34)),(42,iA ((List.length v34) : Int)),(43,iA z.2)]) (fun z=>[some (1,[[.ipt 2 [[.isl 6 (List.map rApiClass v1),.imp (List.map (rKV (fun x=>iA x)) v2)]] 0 0]]),some (6,[(rApiClass v3)]),some (1,List.map rStr z.1),some (1,List.map rStr v34)]) (fun b=>[(2,.mpt 0 0 0),(3,.mpt 1 0 0),(5,.msl 2 0 (List.length b)),(6,iA v30)]) (fun b=>[some (1,[[.ipt 2 [[.isl 6 (List.map rApiClass v1),.imp (List.map (rKV (fun x=>iA x)) v2)]] 0 0]]),some (6,[(rApiClass v3)]),some (1,List.map rStr b)]) (fun r env st=>PostF Tryz.prog Tryz.f103 0 (bA r) [] env st) ho ⟨[.old 0,.old 1,.old 2,.old 3],cv j0 (.mpt j0)<|cv j0 (.mpt j0)<|cv j0 (.msl j0)<|ce j0 j0<|cv j0 (.msl j0)<|ce j0 j0<|ce j0 j0<|cn,j0,⟨⟨_,j0,rsOne ⟨ci j0,j5⟩⟩,⟨_,j0,rsOne (ciL j0)⟩,⟨_,j0,rsMap (fun _=>j0)⟩,⟨_,j0,rsMap (fun _=>j0)⟩,j5⟩,j0,j1⟩ ?_ ?_ ?_
     ·
      rintro ⟨v42,v43⟩ r h
      replace h : hier_Hier_fits_l7 v34 v42 v43 = some r:=h
      unfold hier_Hier_fits_l7 at h
      refine rg j0<|u<|lss ti3 j0 j0<|r_nil ?_
      refine sw_seq ?_
      refine sw_cond j0 (fun hc40=>?_) (fun hc40=>?_)
      ·
       replace h:=bT hc40 h
       refine sw_skip ?_
       refine sw_meet (X:=(List (List UInt8))) (fun z=>[(2,.mpt 0 0 0),(3,.mpt 1 0 0),(5,.msl 2 0 (List.length z)),(6,iA v30),(41,.msl 3 0 (List.length v34)),(42,iA ((List.length v34) : Int)),(43,iA v43)]) (fun z=>[some (1,[[.ipt 2 [[.isl 6 (List.map rApiClass v1),.imp (List.map (rKV (fun x=>iA x)) v2)]] 0 0]]),some (6,[(rApiClass v3)]),some (1,List.map rStr z),some (1,List.map rStr v34)]) (fun z=>hier_Hier_fits_j6 v43 z = some r) ?_ ?_
       ·
        refine sw_block ?_
        obtain ⟨v44,q41,h⟩:=bs h
        refine rg j0<|u<|ixM ti22 j0 ti9 j0 j0 j0 j0 q41<|u<|ldM ti9 j0 j0 (idx_some q41).2.2 j0<|u<|asg j0<|r_nil ?_
        obtain ⟨v46,q44,h⟩:=bs h
        refine rg j0<|u<|mv j0<|u<|sne ti9 j0 j0<|u<|mv j0<|r_and (x:=v46) (j:=2) 4 j0 j0 j0 j0 j0 gpn (fun hb42=>by replace q44:=bT hb42 q44; obtain ⟨v45,q43,q44⟩:=bs q44; obtain rfl:=sm q44; exact g j0 hb42<|mv j0<|g j0 hb42<|mv j0<|g j0 hb42<|pcs (slices_Contains_string_string_ok v42 v44 q43) j0 j0 (.cons (sealM j0 (fun _=>j0)) (.cons (si j0) .nil)) plainB<|g j0 hb42<|nt j0<|r_nil (eg [50,51,52,53] 4 j0 j0 j0 j0)) (fun hb=>(sm (bF hb q44)).symm)<|r_nil ?_
        refine sw_cond j0 (fun hc45=>?_) (fun hc45=>?_)
        ·
         replace h:=bT hc45 h
         obtain ⟨v47,q46,h⟩:=bs h
         exact rl j0<|u<|mv j0<|u<|mv j0<|u<|bl 4 ti22 j0 ti9 j0 (by decide) (by decide) j0 j0 j0<|u<|apM 5 ti22 j0 ti9 j0 j0 (by decide) ti22 j0 j0 j0 j0 (roX (f:=rStr) (z:=[v44]) j0 j0) (fun _=>j0) j0 q46<|u<|asg j0<|r_nil (⟨v47,h,[.old 0,.old 1,.old 5,.old 3],cv j0 (.mpt j0)<|cv j0 (.mpt j0)<|cv j0 (.msl j0)<|ce j0 j0<|cv j0 (.msl j0)<|ce j0 j0<|ce j0 j0<|cn,j0,⟨⟨_,j0,rsOne ⟨ci j0,j5⟩⟩,⟨_,j0,rsOne (ciL j0)⟩,⟨_,j0,rsMap (fun _=>j0)⟩,⟨_,j0,rsMap (fun _=>j0)⟩,j5⟩,j0,j1⟩)
        ·
         replace h:=bF hc45 h
         refine sw_skip ?_
         exact ⟨v42,h,[.old 0,.old 1,.old 2,.old 3],cv j0 (.mpt j0)<|cv j0 (.mpt j0)<|cv j0 (.msl j0)<|ce j0 j0<|cv j0 (.msl j0)<|ce j0 j0<|ce j0 j0<|cn,j0,⟨⟨_,j0,rsOne ⟨ci j0,j5⟩⟩,⟨_,j0,rsOne (ciL j0)⟩,⟨_,j0,rsMap (fun _=>j0)⟩,⟨_,j0,rsMap (fun _=>j0)⟩,j5⟩,j0,j1⟩
       ·
        rintro v48 h
        replace h : hier_Hier_fits_j6 v43 v48 = some r:=h
        unfold hier_Hier_fits_j6 at h
        refine rl j0<|u<|add ti3 j0 j0<|u<|mv j0<|r_nil ?_
        obtain rfl:=sm h
        exact ⟨_,j0,[.old 0,.old 1,.old 2,.old 3],cv j0 (.mpt j0)<|cv j0 (.mpt j0)<|cv j0 (.msl j0)<|ce j0 j0<|cv j0 (.msl j0)<|ce j0 j0<|ce j0 j0<|cn,j0,⟨⟨_,j0,rsOne ⟨ci j0,j5⟩⟩,⟨_,j0,rsOne (ciL j0)⟩,⟨_,j0,rsMap (fun _=>j0)⟩,⟨_,j0,rsMap (fun _=>j0)⟩,j5⟩,j0,j1⟩
      ·
       replace h:=bF hc40 h
       refine sw_exit ?_
       obtain rfl:=sm h
       exact ⟨j0,_,j0,[.old 0,.old 1,.old 2],cv j0 (.mpt j0)<|cv j0 (.mpt j0)<|cv j0 (.msl j0)<|ce j0 j0<|cn,j0,⟨⟨_,j0,rsOne ⟨ci j0,j5⟩⟩,⟨_,j0,rsOne (ciL j0)⟩,⟨_,j0,rsMap (fun _=>j0)⟩,j5⟩,j0,j1⟩
     ·
      rintro v49 rfl
      replace h : hier_Hier_fits_k8 v30 v49 = some r:=h
      unfold hier_Hier_fits_k8 at h
      refine ow_intro ?_
      refine rl j0<|u<|mv j0<|u<|add ti3 j0 j0<|u<|asg j0<|r_nil ?_
      obtain rfl:=sm h
      exact ⟨_,j0,[.old 0,.old 1,.old 2],cv j0 (.mpt j0)<|cv j0 (.mpt j0)<|cv j0 (.msl j0)<|ce j0 j0<|cn,j0,⟨⟨_,j0,rsOne ⟨ci j0,j5⟩⟩,⟨_,j0,rsOne (ciL j0)⟩,⟨_,j0,rsMap (fun _=>j0)⟩,j5⟩,j0,j1⟩
     ·
      rintro r' rfl env st hp
      obtain rfl:=sm h
      exact ⟨_,j0,hp⟩
   ·
    replace h:=bF hc27 h
    refine sw_exit ?_
    obtain rfl:=sm h
    exact ⟨j0,_,j0,[],cn,j0,j5,j0,j1⟩
  ·
   rintro ⟨⟩ rfl
   replace h : hier_Hier_fits_k10 = some r:=h
   unfold hier_Hier_fits_k10 at h
   refine ow_intro ?_
   refine rg j0<|u<|asg j0<|r_nil ?_
   refine sw_ret ?_
   obtain rfl:=sm h
   exact ⟨_,j0,[],ci j0,j0,j5,j0,j1⟩
  ·
   rintro r' rfl env st hp
   obtain rfl:=sm h
   exact hp
def hier_New_k8 (v24 : List ApiClass) (v25 : List (List UInt8 × Int)) : Option ((Option HierHier) × Int) :=
  some ((some (HierHier.mk v24 v25)),0)
def hier_New_l7 (v1 : List ApiClass) (v24 : List ApiClass) (v25 : List (List UInt8 × Int)) (v37 : Int) : Option (Sum (Int) (Sum (Unit) ((Option HierHier) × Int))) :=
  cond (decide (v37 < (List.length v1 : Int))) ((idx v1 v37).bind fun v38=>(hier_Hier_fits v24 v25 v38).bind fun v39=>cond (!v39) (some (.inr (.inr (none,1)))) (some (.inl (IntKind.i64.wrap (v37 + 1))))) (some (.inr (.inl ())))
def hier_New_k6 (v1 : List ApiClass) (v24 : List ApiClass) (v25 : List (List UInt8 × Int)) : Option ((Option HierHier) × Int) :=
  (loopP (fun z=>hier_New_l7 v1 v24 v25 z) 0).bind fun o=>leave o (fun b=>hier_New_k8 v24 v25) some
def hier_New_l5 (v1 : List ApiClass) (v24 : List ApiClass) (v25 : List (List UInt8 × Int)) (v30 : Int) : Option (Sum (Int) (Sum (Unit) ((Option HierHier) × Int))) :=
  cond (decide (v30 < (List.length v1 : Int))) ((idx v1 v30).bind fun v31=>(hier_above v31).bind fun v32=>(slices_ContainsFunc_string_string_s4 v32 v24 v25).bind fun v33=>cond v33 (some (.inr (.inr (none,4)))) (some (.inl (IntKind.i64.wrap (v30 + 1))))) (some (.inr (.inl ())))
def hier_New_k4 (v1 : List ApiClass) (v24 : List ApiClass) (v25 : List (List UInt8 × Int)) : Option ((Option HierHier) × Int) :=
  (loopP (fun z=>hier_New_l5 v1 v24 v25 z) 0).bind fun o=>leave o (fun b=>hier_New_k6 v1 v24 v25) some
def hier_New_l3 (v1 : List ApiClass) (v17 : List ApiClass) (v18 : List (List UInt8 × Int)) (v19 : Int) : Option (Sum ((List ApiClass) × (List (List UInt8 × Int)) × Int) (Sum ((List ApiClass) × (List (List UInt8 × Int))) ((Option HierHier) × Int))) :=
  cond (decide (v19 < (List.length v1 : Int))) ((idx v1 v19).bind fun v20=>(cond (Option.isSome (mapGet v20.Name v18)) (some true) ((class_May v20).bind fun v21=>some (!v21))).bind fun v22=>cond v22 (some (.inr (.inr (none,1)))) ((appP 112 v17 [v20]).bind fun v23=>some (.inl (v23,(mapPut v20.Name ((List.length v17) : Int) v18),(IntKind.i64.wrap (v19 + 1)))))) (some (.inr (.inl (v17,v18))))
def hier_New_k2 (v1 : List ApiClass) (v2 : (List ApiClass)) (v9 : List (List UInt8 × Int)) : Option ((Option HierHier) × Int) :=
  (loopP (fun z=>hier_New_l3 v1 z.1 z.2.1 z.2.2) (v2,v9,0)).bind fun o=>leave o (fun b=>hier_New_k4 v1 b.1 b.2) some
def hier_New_l1 (v2 : (List ApiClass)) (v6 : List (List UInt8 × Int)) (v7 : Int) : Option (Sum ((List (List UInt8 × Int)) × Int) (Sum ((List (List UInt8 × Int))) ((Option HierHier) × Int))) :=
  cond (decide (v7 < ((List.length v2) : Int))) ((idx v2 v7).bind fun v8=>some (.inl ((mapPut v8.Name v7 v6),(IntKind.i64.wrap (v7 + 1))))) (some (.inr (.inl v6)))
def hier_New (v1 : List ApiClass) : Option ((Option HierHier) × Int) :=
  cond (decide (16 < (List.length v1 : Int))) (some (none,3)) ((hier_given).bind fun v2=>(loopP (fun z=>hier_New_l1 v2 z.1 z.2) ([],0)).bind fun o=>leave o (fun b=>hier_New_k2 v1 v2 b) some)
theorem hier_New_ok (v1 : List ApiClass) {r : (Option HierHier) × Int} (h : hier_New v1 = some r) : PureC Tryz.prog 22 [.isl 6 (List.map rApiClass v1)] (.tup [optP 2 rHierHier r.1,iA r.2]):=by
 refine pure_fn Tryz.func22 j0 (by kernel_rfl) j0 (immTup (immC (immP (fun _=>j0)) (j0))) ?_
 unfold hier_New at h
 refine rg j0<|u<|asg j0<|u<|asg j0<|r_nil ?_
 refine sw_seq ?_
 refine rg j0<|u<|mv j0<|u<|lnI ti46 j0 j0<|u<|gtr ti3 j0 j0<|r_nil ?_
 refine sw_cond j0 (fun hc1=>?_) (fun hc1=>?_)
 ·
  replace h:=bT hc1 h
  refine rg j0<|u<|asg j0<|u<|asg j0<|r_nil ?_
  refine sw_ret ?_
  obtain rfl:=sm h
  exact ⟨_,j0,[],rsTup ⟨(ci j0),(ci j0),j5⟩,j0,j5,j0,j1⟩
 ·
  replace h:=bF hc1 h
  refine sw_skip ?_
  obtain ⟨v2,q2,h⟩:=bs h
  refine rg j0<|u<|sc [] (hier_given_ok q2) j0 j0 j0 j0 j5 j5<|r_can (env0:=[(0,.isl 6 (List.map rApiClass v1)),(18,.msl 0 0 (List.length v2))]) (st0:=[some (6,List.map rApiClass v2)]) ⟨[.old 0],ce j0 j0<|cv j0 (.msl j0)<|cn,j0,⟨⟨_,j0,rsMap (fun _=>j0)⟩,j5⟩,j0,j1⟩<|u<|mmk (e:=3) 1 j0 j0<|u<|bd ti156 j0 j0 j0<|u<|bx 2 2 j0 j0 j0 j0<|u<|al 3 ti48 j0<|u<|sto ti48 j0 j0 j0<|r_nil ?_
  refine sw_seq ?_
  refine rg j0<|u<|ld ti48 j0 j0<|u<|nc j0 j0<|u<|fa ti156 j0 j0 j0<|u<|ld ti46 j0 j0<|u<|lnM ti46 j0 j0 j0<|u<|mv j0<|r_nil ?_
  obtain ⟨o,ho,h⟩:=bs h
  refine sw_lpl (X:=(List (List UInt8 × Int)) × Int) (B:=(List (List UInt8 × Int))) (R:=(Option HierHier) × Int) (fun z=>[(0,.isl 6 (List.map rApiClass v1)),(4,.mpt 0 0 0),(25,.msl 2 0 (List.length v2)),(26,iA ((List.length v2) : Int)),(27,iA z.2)]) (fun z=>[some (1,[[.mpt 1 0 0]]),some (2,[[.msl 2 0 (List.length v2),.mmp 3]]),some (6,List.map rApiClass v2),some (2,List.map (rKV (fun x=>iA x)) z.1)]) (fun b=>[(0,.isl 6 (List.map rApiClass v1)),(4,.mpt 0 0 0)]) (fun b=>[some (1,[[.mpt 1 0 0]]),some (2,[[.msl 2 0 (List.length v2),.mmp 3]]),some (6,List.map rApiClass v2),some (2,List.map (rKV (fun x=>iA x)) b)]) (fun r env st=>PostF Tryz.prog Tryz.f22 0 (.tup [optP 2 rHierHier r.1,iA r.2]) [] env st) ho ⟨[.old 3,.old 2,.old 0,.old 1],ce j0 j0<|cv j0 (.mpt j0)<|cv j0 (.msl j0)<|ce j0 j0<|ce j0 j0<|cn,j0,⟨⟨_,j0,rsOne ⟨.mpt j0,j5⟩⟩,⟨_,j0,rsOne ⟨.msl j0,.mmp j0,j5⟩⟩,⟨_,j0,rsMap (fun _=>j0)⟩,⟨_,j0,rsMap (fun _=>j0)⟩,j5⟩,j0,j1⟩ ?_ ?_ ?_
  ·
   rintro ⟨v6,v7⟩ r h
   replace h : hier_New_l1 v2 v6 v7 = some r:=h
   unfold hier_New_l1 at h
   refine rg j0<|u<|lss ti3 j0 j0<|r_nil ?_
   refine sw_seq ?_
   refine sw_cond j0 (fun hc5=>?_) (fun hc5=>?_)
   ·
    replace h:=bT hc5 h
    refine sw_skip ?_
    refine sw_seq ?_
    refine sw_block ?_
    obtain ⟨v8,q6,h⟩:=bs h
    refine rg j0<|u<|mv j0<|u<|ixM ti46 j0 ti26 j0 j0 j0 j0 q6<|u<|ldM ti26 j0 j0 (idx_some q6).2.2 j0<|u<|al 4 ti26 j0<|u<|asg j0<|u<|sto ti26 j0 j0 j0<|r_nil ?_
    refine rdL [(0,.isl 6 (List.map rApiClass v1)),(4,.mpt 0 0 0),(25,.msl 2 0 (List.length v2)),(26,iA ((List.length v2) : Int)),(27,iA v7)] [some (1,[[.mpt 1 0 0]]),some (2,[[.msl 2 0 (List.length v2),.mmp 3]]),some (6,List.map rApiClass v2),some (2,List.map (rKV (fun x=>iA x)) (mapPut v8.Name v7 v6))] [7] [6,5,4,3,2,1,0] [(38,iA v7),(37,sA v8.Name),(36,.mpt 4 0 0),(35,.mmp 3),(34,.mpt 1 0 1),(33,.mpt 1 0 0),(32,.mpt 1 0 0)] 1 (by kernel_rfl) (by kernel_rfl) j0 (by kernel_rfl) (dtS ⟨(fun _=>pa j0 j0 j0 j0 (mv j0<|j4)),(fun _=>pa j0 j0 j0 j0 (ld ti9 j0 j0<|j4)),(fun _=>pa j0 j0 j0 j0 (fa ti26 j0 j0 j0<|j4)),(fun _=>pa j0 j0 j0 j0 (ld ti154 j0 j0<|j4)),(fun _=>pa j0 j0 j0 j0 (fa ti156 j0 j0 j0<|j4)),(fun _=>pa j0 j0 j0 j0 (nc j0 j0<|j4)),(fun _=>pa j0 j0 j0 j0 (ld ti48 j0 j0<|j4)),j5⟩ (by kernel_rfl) j0 ⟨(fun _ _=>⟨_,j0,j0,mup (v:=v7) (g:=(fun x=>iA x)) (l:=v6) (s:=v8.Name) j0 j0 j0 j0 j0 j0<|⟨.any,[],[],j0,j0,by kernel_rfl,j5,dt0 ⟨(fun h=>by cases h),(fun h=>by cases h),(fun h=>by cases h),(fun h=>by cases h),(fun h=>by cases h),(fun h=>by cases h),(fun h=>by cases h),j5⟩ (by kernel_rfl) j0 ⟨[.old 0,.old 1,.old 2,.old 3],ce j0 j0<|cv j0 (.mpt j0)<|cv j0 (.msl j0)<|ce j0 j0<|ce j0 j0<|cn,j0,⟨⟨_,j0,rsOne ⟨.mpt j0,j5⟩⟩,⟨_,j0,rsOne ⟨.msl j0,.mmp j0,j5⟩⟩,⟨_,j0,rsMap (fun _=>j0)⟩,⟨_,j0,rsMap (fun _=>j0)⟩,j5⟩,j0,j1⟩⟩⟩),j5⟩) ?_
    refine rl j0<|u<|add ti3 j0 j0<|u<|mv j0<|r_nil ?_
    obtain rfl:=sm h
    exact ⟨_,j0,[.old 0,.old 1,.old 2,.old 3],ce j0 j0<|cv j0 (.mpt j0)<|cv j0 (.msl j0)<|ce j0 j0<|ce j0 j0<|cn,j0,⟨⟨_,j0,rsOne ⟨.mpt j0,j5⟩⟩,⟨_,j0,rsOne ⟨.msl j0,.mmp j0,j5⟩⟩,⟨_,j0,rsMap (fun _=>j0)⟩,⟨_,j0,rsMap (fun _=>j0)⟩,j5⟩,j0,j1⟩
   ·
    replace h:=bF hc5 h
    refine sw_exit ?_
    obtain rfl:=sm h
    exact ⟨j0,_,j0,[.old 0,.old 1,.old 2,.old 3],ce j0 j0<|cv j0 (.mpt j0)<|cn,j0,⟨⟨_,j0,rsOne ⟨.mpt j0,j5⟩⟩,⟨_,j0,rsOne ⟨.msl j0,.mmp j0,j5⟩⟩,⟨_,j0,rsMap (fun _=>j0)⟩,⟨_,j0,rsMap (fun _=>j0)⟩,j5⟩,j0,j1⟩
  ·
   rintro v9 rfl
   replace h : hier_New_k2 v1 v2 v9 = some r:=h
   unfold hier_New_k2 at h
   refine ow_intro ?_
   refine sw_seq ?_
   refine rg j0<|u<|mv j0<|u<|lnI ti46 j0 j0<|u<|mv j0<|r_nil ?_
   obtain ⟨o,ho,h⟩:=bs h
   refine sw_lpl (X:=(List ApiClass) × (List (List UInt8 × Int)) × Int) (B:=(List ApiClass) × (List (List UInt8 × Int))) (R:=(Option HierHier) × Int) (fun z=>[(0,.isl 6 (List.map rApiClass v1)),(4,.mpt 0 0 0),(40,.isl 6 (List.map rApiClass v1)),(41,iA (List.length v1 : Int)),(42,iA z.2.2)]) (fun z=>[some (1,[[.mpt 1 0 0]]),some (2,[[.msl 2 0 (List.length z.1),.mmp 3]]),some (6,List.map rApiClass z.1),some (2,List.map (rKV (fun x=>iA x)) z.2.1)]) (fun b=>[(0,.isl 6 (List.map rApiClass v1)),(4,.mpt 0 0 0)]) (fun b=>[some (1,[[.mpt 1 0 0]]),some (2,[[.msl 2 0 (List.length b.1),.mmp 3]]),some (6,List.map rApiClass b.1),some (2,List.map (rKV (fun x=>iA x)) b.2)]) (fun r env st=>PostF Tryz.prog Tryz.f22 0 (.tup [optP 2 rHierHier r.1,iA r.2]) [] env st) ho ⟨[.old 0,.old 1,.old 2,.old 3],ce j0 j0<|cv j0 (.mpt j0)<|ce j0 j0<|ce j0 j0<|ce j0 j0<|cn,j0,⟨⟨_,j0,rsOne ⟨.mpt j0,j5⟩⟩,⟨_,j0,rsOne ⟨.msl j0,.mmp j0,j5⟩⟩,⟨_,j0,rsMap (fun _=>j0)⟩,⟨_,j0,rsMap (fun _=>j0)⟩,j5⟩,j0,j1⟩ ?_ ?_ ?_
   ·
    rintro ⟨v17,v18,v19⟩ r h
    replace h : hier_New_l3 v1 v17 v18 v19 = some r:=h
    unfold hier_New_l3 at h
    refine rg j0<|u<|lss ti3 j0 j0<|r_nil ?_
    refine sw_seq ?_
    refine sw_cond j0 (fun hc14=>?_) (fun hc14=>?_)
    ·
     replace h:=bT hc14 h
     refine sw_skip ?_
     refine sw_seq ?_
     refine sw_block ?_
     obtain ⟨v20,q15,h⟩:=bs h
     refine rg j0<|u<|ixI ti46 j0 ti26 j0 j0 j0 q15<|u<|ldI ti26 j0 (idx_some q15).2.2 j0<|u<|al 4 ti26 j0<|u<|sto ti26 j0 j0 j0<|r_nil ?_
     refine sw_seq ?_
     refine rd [(0,.isl 6 (List.map rApiClass v1)),(4,.mpt 0 0 0),(8,.mpt 4 0 0),(10,bA (Option.isSome (mapGet v20.Name v18))),(40,.isl 6 (List.map rApiClass v1)),(41,iA (List.length v1 : Int)),(42,iA v19)] [some (1,[[.mpt 1 0 0]]),some (2,[[.msl 2 0 (List.length v17),.mmp 3]]),some (6,List.map rApiClass v17),some (2,List.map (rKV (fun x=>iA x)) v18),some (6,[(rApiClass v20)])] [] [11,10,9,8,7,6,5,4,3,2,1,0] [(10,bA (Option.isSome (mapGet v20.Name v18))),(9,iA (Option.getD (mapGet v20.Name v18) 0)),(55,bA (Option.isSome (mapGet v20.Name v18))),(54,iA (Option.getD (mapGet v20.Name v18) 0)),(46,.tup [iA (Option.getD (mapGet v20.Name v18) 0),bA (Option.isSome (mapGet v20.Name v18))]),(53,.tup [iA (Option.getD (mapGet v20.Name v18) 0),bA (Option.isSome (mapGet v20.Name v18))]),(52,sA v20.Name),(51,.mpt 4 0 0),(50,.mmp 3),(49,.mpt 1 0 1),(48,.mpt 1 0 0),(47,.mpt 1 0 0)] 0 (by kernel_rfl) (by kernel_rfl) j0 (by kernel_rfl) (dt0 ⟨(fun _=>pa j0 j0 j0 j0 (asg j0<|j4)),(fun _=>pa j0 j0 j0 j0 (asg j0<|j4)),(fun _=>pa j0 j0 j0 j0 (ex j0 j0<|j4)),(fun _=>pa j0 j0 j0 j0 (ex j0 j0<|j4)),(fun _=>pa j0 j0 j0 j0 (mv j0<|j4)),(fun _=>pa j0 j0 j0 j0 (mlkT (g:=(fun x=>iA x)) (z:=0) (l:=v18) j0 ti3 j0 j0 j0 j0<|j4)),(fun _=>pa j0 j0 j0 j0 (ld ti9 j0 j0<|j4)),(fun _=>pa j0 j0 j0 j0 (fa ti26 j0 j0 j0<|j4)),(fun _=>pa j0 j0 j0 j0 (ld ti154 j0 j0<|j4)),(fun _=>pa j0 j0 j0 j0 (fa ti156 j0 j0 j0<|j4)),(fun _=>pa j0 j0 j0 j0 (nc j0 j0<|j4)),(fun _=>pa j0 j0 j0 j0 (ld ti48 j0 j0<|j4)),j5⟩ (by kernel_rfl) j0 ⟨[.old 0,.old 1,.old 2,.old 3,.old 4],ce j0 j0<|cv j0 (.mpt j0)<|cv j0 (.mpt j0)<|ce j0 j0<|ce j0 j0<|ce j0 j0<|ce j0 j0<|cn,j0,⟨⟨_,j0,rsOne ⟨.mpt j0,j5⟩⟩,⟨_,j0,rsOne ⟨.msl j0,.mmp j0,j5⟩⟩,⟨_,j0,rsMap (fun _=>j0)⟩,⟨_,j0,rsMap (fun _=>j0)⟩,⟨_,j0,rsOne (ciL j0)⟩,j5⟩,j0,j1⟩) ?_
     obtain ⟨v22,q18,h⟩:=bs h
     refine rg j0<|u<|mv j0<|u<|mv j0<|r_or (x:=v22) (j:=1) 3 j0 j0 j0 j0 j0 gpn (fun hb16=>by replace q18:=bF hb16 q18; obtain ⟨v21,q17,q18⟩:=bs q18; obtain rfl:=sm q18; exact g j0 hb16<|ld ti26 j0 j0<|g j0 hb16<|pc (class_May_ok v20 q17) j0 j0 j0<|g j0 hb16<|nt j0<|r_nil (eg [58,59,60] 3 j0 j0 j0 j0)) (fun hb=>(sm (bT hb q18)).symm)<|r_nil ?_
     refine sw_cond j0 (fun hc19=>?_) (fun hc19=>?_)
     ·
      replace h:=bT hc19 h
      refine rg j0<|u<|asg j0<|u<|asg j0<|r_nil ?_
      refine sw_ret ?_
      obtain rfl:=sm h
      exact ⟨_,j0,_,j0,[],rsTup ⟨(ci j0),(ci j0),j5⟩,j0,j5,j0,j1⟩
     ·
      replace h:=bF hc19 h
      refine sw_skip ?_
      refine rd [(0,.isl 6 (List.map rApiClass v1)),(4,.mpt 0 0 0),(8,.mpt 4 0 0),(40,.isl 6 (List.map rApiClass v1)),(41,iA (List.length v1 : Int)),(42,iA v19)] [some (1,[[.mpt 1 0 0]]),some (2,[[.msl 2 0 (List.length v17),.mmp 3]]),some (6,List.map rApiClass v17),some (2,List.map (rKV (fun x=>iA x)) (mapPut v20.Name ((List.length v17) : Int) v18)),some (6,[(rApiClass v20)])] [11] [10,9,8,7,6,5,4,3,2,1,0] [(72,iA ((List.length v17) : Int)),(71,.msl 2 0 (List.length v17)),(70,.mpt 1 0 0),(69,.mpt 1 0 0),(68,.mpt 1 0 0),(67,sA v20.Name),(66,.mpt 4 0 0),(65,.mmp 3),(64,.mpt 1 0 1),(63,.mpt 1 0 0),(62,.mpt 1 0 0)] 1 (by kernel_rfl) (by kernel_rfl) j0 (by kernel_rfl) (dtS ⟨(fun _=>pa j0 j0 j0 j0 (lnM ti46 j0 j0 j0<|j4)),(fun _=>pa j0 j0 j0 j0 (ld ti46 j0 j0<|j4)),(fun _=>pa j0 j0 j0 j0 (fa ti156 j0 j0 j0<|j4)),(fun _=>pa j0 j0 j0 j0 (nc j0 j0<|j4)),(fun _=>pa j0 j0 j0 j0 (ld ti48 j0 j0<|j4)),(fun _=>pa j0 j0 j0 j0 (ld ti9 j0 j0<|j4)),(fun _=>pa j0 j0 j0 j0 (fa ti26 j0 j0 j0<|j4)),(fun _=>pa j0 j0 j0 j0 (ld ti154 j0 j0<|j4)),(fun _=>pa j0 j0 j0 j0 (fa ti156 j0 j0 j0<|j4)),(fun _=>pa j0 j0 j0 j0 (nc j0 j0<|j4)),(fun _=>pa j0 j0 j0 j0 (ld ti48 j0 j0<|j4)),j5⟩ (by kernel_rfl) j0 ⟨(fun _ _=>⟨_,j0,j0,mup (v:=((List.length v17) : Int)) (g:=(fun x=>iA x)) (l:=v18) (s:=v20.Name) j0 j0 j0 j0 j0 j0<|⟨.any,[],[],j0,j0,by kernel_rfl,j5,dt0 ⟨(fun h=>by cases h),(fun h=>by cases h),(fun h=>by cases h),(fun h=>by cases h),(fun h=>by cases h),(fun h=>by cases h),(fun h=>by cases h),(fun h=>by cases h),(fun h=>by cases h),(fun h=>by cases h),(fun h=>by cases h),j5⟩ (by kernel_rfl) j0 ⟨[.old 0,.old 1,.old 2,.old 3,.old 4],ce j0 j0<|cv j0 (.mpt j0)<|cv j0 (.mpt j0)<|ce j0 j0<|ce j0 j0<|ce j0 j0<|cn,j0,⟨⟨_,j0,rsOne ⟨.mpt j0,j5⟩⟩,⟨_,j0,rsOne ⟨.msl j0,.mmp j0,j5⟩⟩,⟨_,j0,rsMap (fun _=>j0)⟩,⟨_,j0,rsMap (fun _=>j0)⟩,⟨_,j0,rsOne (ciL j0)⟩,j5⟩,j0,j1⟩⟩⟩),j5⟩) ?_
      obtain ⟨v23,q20,h⟩:=bs h
      refine rdL [(0,.isl 6 (List.map rApiClass v1)),(4,.mpt 0 0 0),(40,.isl 6 (List.map rApiClass v1)),(41,iA (List.length v1 : Int)),(42,iA v19)] [some (1,[[.mpt 1 0 0]]),some (2,[[.msl 2 0 (List.length v23),.mmp 3]]),some (6,List.map rApiClass v23),some (2,List.map (rKV (fun x=>iA x)) (mapPut v20.Name ((List.length v17) : Int) v18))] [6,7,10] [5,4,3,2,1,0] [(78,.agg (rApiClass v20)),(77,.msl 2 0 (List.length v17)),(76,.mpt 1 0 0),(75,.mpt 1 0 0),(74,.mpt 1 0 0),(73,.mpt 1 0 0)] 3 (by kernel_rfl) (by kernel_rfl) j0 (by kernel_rfl) (dtS ⟨(fun _=>pa j0 j0 j0 j0 (ld ti26 j0 j0<|j4)),(fun _=>pa j0 j0 j0 j0 (ld ti46 j0 j0<|j4)),(fun _=>pa j0 j0 j0 j0 (fa ti156 j0 j0 j0<|j4)),(fun _=>pa j0 j0 j0 j0 (nc j0 j0<|j4)),(fun _=>pa j0 j0 j0 j0 (ld ti48 j0 j0<|j4)),(fun _=>pa j0 j0 j0 j0 (ld ti48 j0 j0<|j4)),j5⟩ (by kernel_rfl) j0 ⟨(fun _ _=>⟨_,j0,j0,bl 5 ti46 j0 ti26 j0 (by decide) (by decide) j0 j0 j0<|⟨(.msl 5 0 1),[],[(79,.msl 5 0 1)],j0,j0,by kernel_rfl,j0,dtS ⟨(fun h=>by cases h),(fun _=>pa j0 j0 j0 j0 (ld ti46 j0 j0<|j4)),(fun _=>pa j0 j0 j0 j0 (fa ti156 j0 j0 j0<|j4)),(fun _=>pa j0 j0 j0 j0 (nc j0 j0<|j4)),(fun _=>pa j0 j0 j0 j0 (ld ti48 j0 j0<|j4)),(fun _=>pa j0 j0 j0 j0 (ld ti48 j0 j0<|j4)),j5⟩ (by kernel_rfl) j0 ⟨(fun h=>by cases h),(fun _ _=>⟨_,j0,j0,apM 6 ti46 j0 ti26 j0 j0 (by decide) ti46 j0 j0 j0 j0 (roX (f:=rApiClass) (z:=[v20]) j0 j0) (fun _=>j0) j0 q20<|⟨(.msl 6 0 (List.length v23)),[9,8],[(82,.mpt 1 0 0),(81,.mpt 1 0 0),(80,.msl 6 0 (List.length v23))],j0,j0,by kernel_rfl,j0,dtS ⟨(fun _=>pa j0 j0 j0 j0 (fa ti156 j0 j0 j0<|j4)),(fun _=>pa j0 j0 j0 j0 (nc j0 j0<|j4)),(fun h=>by cases h),(fun h=>by cases h),(fun _=>pa j0 j0 j0 j0 (fa ti156 j0 j0 j0<|j4)),(fun _=>pa j0 j0 j0 j0 (nc j0 j0<|j4)),(fun _=>pa j0 j0 j0 j0 (ld ti48 j0 j0<|j4)),(fun _=>pa j0 j0 j0 j0 (ld ti48 j0 j0<|j4)),j5⟩ (by kernel_rfl) j0 ⟨(fun h=>by cases h),(fun h=>by cases h),(fun _ _=>⟨_,j0,j0,sto ti46 j0 j0 j0<|⟨.any,[],[],j0,j0,by kernel_rfl,j5,dt0 ⟨(fun h=>by cases h),(fun _=>pa j0 j0 j0 j0 (nc j0 j0<|j4)),(fun h=>by cases h),(fun h=>by cases h),(fun h=>by cases h),(fun h=>by cases h),(fun h=>by cases h),(fun h=>by cases h),j5⟩ (by kernel_rfl) j0 ⟨[.old 0,.old 1,.old 6,.old 3],ce j0 j0<|cv j0 (.mpt j0)<|ce j0 j0<|ce j0 j0<|ce j0 j0<|cn,j0,⟨⟨_,j0,rsOne ⟨.mpt j0,j5⟩⟩,⟨_,j0,rsOne ⟨.msl j0,.mmp j0,j5⟩⟩,⟨_,j0,rsMap (fun _=>j0)⟩,⟨_,j0,rsMap (fun _=>j0)⟩,j5⟩,j0,j1⟩⟩⟩),j5⟩⟩⟩),(fun _ h=>by cases h),j5⟩⟩⟩),(fun _ h=>by cases h),(fun _ h=>by cases h),j5⟩) ?_
      refine rl j0<|u<|add ti3 j0 j0<|u<|mv j0<|r_nil ?_
      obtain rfl:=sm h
      exact ⟨_,j0,[.old 0,.old 1,.old 2,.old 3],ce j0 j0<|cv j0 (.mpt j0)<|ce j0 j0<|ce j0 j0<|ce j0 j0<|cn,j0,⟨⟨_,j0,rsOne ⟨.mpt j0,j5⟩⟩,⟨_,j0,rsOne ⟨.msl j0,.mmp j0,j5⟩⟩,⟨_,j0,rsMap (fun _=>j0)⟩,⟨_,j0,rsMap (fun _=>j0)⟩,j5⟩,j0,j1⟩
    ·
     replace h:=bF hc14 h
     refine sw_exit ?_
     obtain rfl:=sm h
     exact ⟨j0,_,j0,[.old 0,.old 1,.old 2,.old 3],ce j0 j0<|cv j0 (.mpt j0)<|cn,j0,⟨⟨_,j0,rsOne ⟨.mpt j0,j5⟩⟩,⟨_,j0,rsOne ⟨.msl j0,.mmp j0,j5⟩⟩,⟨_,j0,rsMap (fun _=>j0)⟩,⟨_,j0,rsMap (fun _=>j0)⟩,j5⟩,j0,j1⟩
   ·
    rintro ⟨v24,v25⟩ rfl
    replace h : hier_New_k4 v1 v24 v25 = some r:=h
    unfold hier_New_k4 at h
    refine ow_intro ?_
    refine sw_seq ?_
    refine rg j0<|u<|mv j0<|u<|lnI ti46 j0 j0<|u<|mv j0<|r_nil ?_
    obtain ⟨o,ho,h⟩:=bs h
    refine sw_lpl (X:=Int) (B:=Unit) (R:=(Option HierHier) × Int) (fun z=>[(0,.isl 6 (List.map rApiClass v1)),(4,.mpt 0 0 0),(84,.isl 6 (List.map rApiClass v1)),(85,iA (List.length v1 : Int)),(86,iA z)]) (fun z=>[some (1,[[.mpt 1 0 0]]),some (2,[[.msl 2 0 (List.length v24),.mmp 3]]),some (6,List.map rApiClass v24),some (2,List.map (rKV (fun x=>iA x)) v25)]) (fun b=>[(0,.isl 6 (List.map rApiClass v1)),(4,.mpt 0 0 0)]) (fun b=>[some (1,[[.mpt 1 0 0]]),some (2,[[.msl 2 0 (List.length v24),.mmp 3]]),some (6,List.map rApiClass v24),some (2,List.map (rKV (fun x=>iA x)) v25)]) (fun r env st=>PostF Tryz.prog Tryz.f22 0 (.tup [optP 2 rHierHier r.1,iA r.2]) [] env st) ho ⟨[.old 0,.old 1,.old 2,.old 3],ce j0 j0<|cv j0 (.mpt j0)<|ce j0 j0<|ce j0 j0<|ce j0 j0<|cn,j0,⟨⟨_,j0,rsOne ⟨.mpt j0,j5⟩⟩,⟨_,j0,rsOne ⟨.msl j0,.mmp j0,j5⟩⟩,⟨_,j0,rsMap (fun _=>j0)⟩,⟨_,j0,rsMap (fun _=>j0)⟩,j5⟩,j0,j1⟩ ?_ ?_ ?_
    ·
     rintro v30 r h
     replace h : hier_New_l5 v1 v24 v25 v30 = some r:=h
     unfold hier_New_l5 at h
     refine rg j0<|u<|lss ti3 j0 j0<|r_nil ?_
     refine sw_seq ?_
     refine sw_cond j0 (fun hc26=>?_) (fun hc26=>?_)
     ·
      replace h:=bT hc26 h
      refine sw_skip ?_
      refine sw_seq ?_
      refine sw_block ?_
      obtain ⟨v31,q27,h⟩:=bs h
      refine rg j0<|u<|ixI ti46 j0 ti26 j0 j0 j0 q27<|u<|ldI ti26 j0 (idx_some q27).2.2 j0<|u<|al 4 ti26 j0<|u<|sto ti26 j0 j0 j0<|r_nil ?_
      obtain ⟨v32,q28,h⟩:=bs h
      obtain ⟨v33,q29,h⟩:=bs h
      refine rg j0<|u<|ld ti26 j0 j0<|u<|sc [] (hier_above_ok v31 q28) j0 j0 j0 j0 ⟨(rnI j0),j5⟩ j5<|r_can (env0:=[(0,.isl 6 (List.map rApiClass v1)),(4,.mpt 0 0 0),(84,.isl 6 (List.map rApiClass v1)),(85,iA (List.length v1 : Int)),(86,iA v30),(91,.msl 4 0 (List.length v32))]) (st0:=[some (1,[[.mpt 1 0 0]]),some (2,[[.msl 2 0 (List.length v24),.mmp 3]]),some (6,List.map rApiClass v24),some (2,List.map (rKV (fun x=>iA x)) v25),some (1,List.map rStr v32)]) ⟨[.old 0,.old 1,.old 2,.old 3,.old 5],ce j0 j0<|cv j0 (.mpt j0)<|ce j0 j0<|ce j0 j0<|ce j0 j0<|cv j0 (.msl j0)<|cn,j0,⟨⟨_,j0,rsOne ⟨.mpt j0,j5⟩⟩,⟨_,j0,rsOne ⟨.msl j0,.mmp j0,j5⟩⟩,⟨_,j0,rsMap (fun _=>j0)⟩,⟨_,j0,rsMap (fun _=>j0)⟩,⟨_,j0,rsMap (fun _=>j0)⟩,j5⟩,j0,j1⟩<|u<|mf j0 j0<|u<|pcs (slices_ContainsFunc_string_string_s4_ok v32 v24 v25 q29) j0 j0 (.cons (sealM j0 (fun _=>j0)) (.cons (sealFn j5 ⟨(sealBox j0 ⟨(sealBox j0 ⟨(sealM j0 (fun _=>j0)),(sealMap j0 (fun _=>j0)),j5⟩),j5⟩),j5⟩) .nil)) plainB<|r_nil ?_
      refine sw_cond j0 (fun hc30=>?_) (fun hc30=>?_)
      ·
       replace h:=bT hc30 h
       refine rg j0<|u<|asg j0<|u<|asg j0<|r_nil ?_
       refine sw_ret ?_
       obtain rfl:=sm h
       exact ⟨_,j0,_,j0,[],rsTup ⟨(ci j0),(ci j0),j5⟩,j0,j5,j0,j1⟩
      ·
       replace h:=bF hc30 h
       refine sw_skip ?_
       refine rl j0<|u<|add ti3 j0 j0<|u<|mv j0<|r_nil ?_
       obtain rfl:=sm h
       exact ⟨_,j0,[.old 0,.old 1,.old 2,.old 3],ce j0 j0<|cv j0 (.mpt j0)<|ce j0 j0<|ce j0 j0<|ce j0 j0<|cn,j0,⟨⟨_,j0,rsOne ⟨.mpt j0,j5⟩⟩,⟨_,j0,rsOne ⟨.msl j0,.mmp j0,j5⟩⟩,⟨_,j0,rsMap (fun _=>j0)⟩,⟨_,j0,rsMap (fun _=>j0)⟩,j5⟩,j0,j1⟩
     ·
      replace h:=bF hc26 h
      refine sw_exit ?_
      obtain rfl:=sm h
      exact ⟨j0,_,j0,[.old 0,.old 1,.old 2,.old 3],ce j0 j0<|cv j0 (.mpt j0)<|cn,j0,⟨⟨_,j0,rsOne ⟨.mpt j0,j5⟩⟩,⟨_,j0,rsOne ⟨.msl j0,.mmp j0,j5⟩⟩,⟨_,j0,rsMap (fun _=>j0)⟩,⟨_,j0,rsMap (fun _=>j0)⟩,j5⟩,j0,j1⟩
    ·
     rintro ⟨⟩ rfl
     replace h : hier_New_k6 v1 v24 v25 = some r:=h
     unfold hier_New_k6 at h
     refine ow_intro ?_
     refine sw_seq ?_
     refine rg j0<|u<|mv j0<|u<|lnI ti46 j0 j0<|u<|mv j0<|r_nil ?_
     obtain ⟨o,ho,h⟩:=bs h
     refine sw_lpl (X:=Int) (B:=Unit) (R:=(Option HierHier) × Int) (fun z=>[(4,.mpt 0 0 0),(95,.isl 6 (List.map rApiClass v1)),(96,iA (List.length v1 : Int)),(97,iA z)]) (fun z=>[some (1,[[.mpt 1 0 0]]),some (2,[[.msl 2 0 (List.length v24),.mmp 3]]),some (6,List.map rApiClass v24),some (2,List.map (rKV (fun x=>iA x)) v25)]) (fun b=>[(4,.mpt 0 0 0)]) (fun b=>[some (1,[[.mpt 1 0 0]]),some (2,[[.msl 2 0 (List.length v24),.mmp 3]]),some (6,List.map rApiClass v24),some (2,List.map (rKV (fun x=>iA x)) v25)]) (fun r env st=>PostF Tryz.prog Tryz.f22 0 (.tup [optP 2 rHierHier r.1,iA r.2]) [] env st) ho ⟨[.old 0,.old 1,.old 2,.old 3],cv j0 (.mpt j0)<|ce j0 j0<|ce j0 j0<|ce j0 j0<|cn,j0,⟨⟨_,j0,rsOne ⟨.mpt j0,j5⟩⟩,⟨_,j0,rsOne ⟨.msl j0,.mmp j0,j5⟩⟩,⟨_,j0,rsMap (fun _=>j0)⟩,⟨_,j0,rsMap (fun _=>j0)⟩,j5⟩,j0,j1⟩ ?_ ?_ ?_
     ·
      rintro v37 r h
      replace h : hier_New_l7 v1 v24 v25 v37 = some r:=h
      unfold hier_New_l7 at h
      refine rg j0<|u<|lss ti3 j0 j0<|r_nil ?_
      refine sw_seq ?_
      refine sw_cond j0 (fun hc35=>?_) (fun hc35=>?_)
      ·
       replace h:=bT hc35 h
       refine sw_skip ?_
       refine sw_seq ?_
       refine sw_block ?_
       obtain ⟨v38,q36,h⟩:=bs h
       refine rg j0<|u<|ixI ti46 j0 ti26 j0 j0 j0 q36<|u<|ldI ti26 j0 (idx_some q36).2.2 j0<|u<|al 4 ti26 j0<|u<|sto ti26 j0 j0 j0<|r_nil ?_
       obtain ⟨v39,q37,h⟩:=bs h
       refine rg j0<|u<|ld ti48 j0 j0<|u<|ld ti26 j0 j0<|u<|pcs (hier_Hier_fits_ok v24 v25 v38 q37) j0 j0 (.cons (sealBox j0 ⟨(sealM j0 (fun _=>j0)),(sealMap j0 (fun _=>j0)),j5⟩) (.cons (si j0) .nil)) plainB<|u<|nt j0<|r_nil ?_
       refine sw_cond j0 (fun hc38=>?_) (fun hc38=>?_)
       ·
        replace h:=bT hc38 h
        refine rg j0<|u<|asg j0<|u<|asg j0<|r_nil ?_
        refine sw_ret ?_
        obtain rfl:=sm h
        exact ⟨_,j0,_,j0,[],rsTup ⟨(ci j0),(ci j0),j5⟩,j0,j5,j0,j1⟩
       ·
        replace h:=bF hc38 h
        refine sw_skip ?_
        refine rl j0<|u<|add ti3 j0 j0<|u<|mv j0<|r_nil ?_
        obtain rfl:=sm h
        exact ⟨_,j0,[.old 0,.old 1,.old 2,.old 3],cv j0 (.mpt j0)<|ce j0 j0<|ce j0 j0<|ce j0 j0<|cn,j0,⟨⟨_,j0,rsOne ⟨.mpt j0,j5⟩⟩,⟨_,j0,rsOne ⟨.msl j0,.mmp j0,j5⟩⟩,⟨_,j0,rsMap (fun _=>j0)⟩,⟨_,j0,rsMap (fun _=>j0)⟩,j5⟩,j0,j1⟩
      ·
       replace h:=bF hc35 h
       refine sw_exit ?_
       obtain rfl:=sm h
       exact ⟨j0,_,j0,[.old 0,.old 1,.old 2,.old 3],cv j0 (.mpt j0)<|cn,j0,⟨⟨_,j0,rsOne ⟨.mpt j0,j5⟩⟩,⟨_,j0,rsOne ⟨.msl j0,.mmp j0,j5⟩⟩,⟨_,j0,rsMap (fun _=>j0)⟩,⟨_,j0,rsMap (fun _=>j0)⟩,j5⟩,j0,j1⟩
     ·
      rintro ⟨⟩ rfl
      replace h : hier_New_k8 v24 v25 = some r:=h
      unfold hier_New_k8 at h
      refine ow_intro ?_
      refine rg j0<|u<|ld ti48 j0 j0<|u<|asg j0<|u<|asg j0<|r_nil ?_
      refine sw_ret ?_
      obtain rfl:=sm h
      exact ⟨_,j0,[],rsTup ⟨(rsP j0 j0 ⟨(rsSeal j0 j0 (fun _=>j0)),(rsSealMap j0 j0 (fun _=>j0)),j5⟩ j0),(ci j0),j5⟩,j0,j5,j0,j1⟩
     ·
      rintro r' rfl env st hp
      obtain rfl:=sm h
      exact hp
    ·
     rintro r' rfl env st hp
     obtain rfl:=sm h
     exact hp
   ·
    rintro r' rfl env st hp
    obtain rfl:=sm h
    exact hp
  ·
   rintro r' rfl env st hp
   obtain rfl:=sm h
   exact hp
end
end Go.Proofs.YthmnlfenkhmmhaaGreat
