/- TypesOrder: for every input the law returns true, and each argument reads as it read before. No further condition. Part 3 of 6. -/
import Derived.Test.YtooagifeniibcaaGreatYg2
namespace Go.Proofs.YtooagifeniibcaaGreat
noncomputable section
set_option linter.unusedSimpArgs false
set_option linter.unusedVariables false
set_option maxRecDepth 100000
set_option maxHeartbeats 4000000
structure ApiIns where
  Op : Int
  A : Int
  C : List UInt8
  M : List UInt8
def rApiIns (x : ApiIns) : List AV:=[iA x.Op,iA x.A,sA x.C,sA x.M]
def kind_small (v1 : UInt8) : Bool :=
  ((decide (97 ≤ (v1.toNat : Int))) && (decide ((v1.toNat : Int) ≤ 122)))
theorem kind_small_ok (v1 : UInt8) {r : Bool} (h : kind_small v1 = r) : PureC Tryz.prog 125 [.lit (.int .u8 (v1.toNat : Int))] (bA r):=by
 refine pure_fn Tryz.func125 j0 (by kernel_rfl) j0 j0 ?_
 unfold kind_small at h
 refine rg j0<|u<|asg j0<|r_nil ?_
 refine rg j0<|u<|mv j0<|u<|geq ti5 j0 j0<|u<|mv j0<|r_and (j:=2) 2 j0 j0 j0 j0 j0 gpn (fun hb1=>g j0 hb1<|mv j0<|g j0 hb1<|leq ti5 j0 j0<|r_nil (egA [6,7] 2 hb1 j0 j0 j0 j0)) andF<|u<|asg j0<|r_nil ?_
 refine sw_ret ?_
 obtain rfl:=h
 exact ⟨_,j0,[],ci j0,j0,j5,j0,j1⟩
def kind_great (v1 : UInt8) : Bool :=
  ((decide (65 ≤ (v1.toNat : Int))) && (decide ((v1.toNat : Int) ≤ 90)))
theorem kind_great_ok (v1 : UInt8) {r : Bool} (h : kind_great v1 = r) : PureC Tryz.prog 137 [.lit (.int .u8 (v1.toNat : Int))] (bA r):=by
 refine pure_fn Tryz.func137 j0 (by kernel_rfl) j0 j0 ?_
 unfold kind_great at h
 refine rg j0<|u<|asg j0<|r_nil ?_
 refine rg j0<|u<|mv j0<|u<|geq ti5 j0 j0<|u<|mv j0<|r_and (j:=2) 2 j0 j0 j0 j0 j0 gpn (fun hb1=>g j0 hb1<|mv j0<|g j0 hb1<|leq ti5 j0 j0<|r_nil (egA [6,7] 2 hb1 j0 j0 j0 j0)) andF<|u<|asg j0<|r_nil ?_
 refine sw_ret ?_
 obtain rfl:=h
 exact ⟨_,j0,[],ci j0,j0,j5,j0,j1⟩
def kind_digit (v1 : UInt8) : Bool :=
  ((decide (48 ≤ (v1.toNat : Int))) && (decide ((v1.toNat : Int) ≤ 57)))
theorem kind_digit_ok (v1 : UInt8) {r : Bool} (h : kind_digit v1 = r) : PureC Tryz.prog 180 [.lit (.int .u8 (v1.toNat : Int))] (bA r):=by
 refine pure_fn Tryz.func180 j0 (by kernel_rfl) j0 j0 ?_
 unfold kind_digit at h
 refine rg j0<|u<|asg j0<|r_nil ?_
 refine rg j0<|u<|mv j0<|u<|geq ti5 j0 j0<|u<|mv j0<|r_and (j:=2) 2 j0 j0 j0 j0 j0 gpn (fun hb1=>g j0 hb1<|mv j0<|g j0 hb1<|leq ti5 j0 j0<|r_nil (egA [6,7] 2 hb1 j0 j0 j0 j0)) andF<|u<|asg j0<|r_nil ?_
 refine sw_ret ?_
 obtain rfl:=h
 exact ⟨_,j0,[],ci j0,j0,j5,j0,j1⟩
def kind_word_k2 (v1 : List UInt8) : Option (Bool) :=
  some ((!(v1 == [])) && (decide ((List.length v1 : Int) ≤ 8)))
def kind_word_l1 (v1 : List UInt8) (v8 : Int) : Option (Sum (Int) (Sum (Unit) (Bool))) :=
  cond (decide (v8 < (List.length v1 : Int))) ((idx v1 v8).bind fun v9=>(cond (!(kind_small v9)) ((idx v1 v8).bind fun v10=>some (!(kind_great v10))) (some false)).bind fun v11=>(cond v11 ((idx v1 v8).bind fun v12=>some (!(kind_digit v12))) (some false)).bind fun v13=>cond v13 (some (.inr (.inr false))) (some (.inl (IntKind.i64.wrap (v8 + 1))))) (some (.inr (.inl ())))
def kind_word (v1 : List UInt8) : Option (Bool) :=
  (loopP (fun z=>kind_word_l1 v1 z) 0).bind fun o=>leave o (fun b=>kind_word_k2 v1) some
theorem kind_word_ok (v1 : List UInt8) {r : Bool} (h : kind_word v1 = some r) : PureC Tryz.prog 124 [sA v1] (bA r):=by
 refine pure_fn Tryz.func124 j0 (by kernel_rfl) j0 j0 ?_
 unfold kind_word at h
 refine rg j0<|u<|asg j0<|r_nil ?_
 refine sw_seq ?_
 refine rg j0<|u<|mv j0<|u<|lnS ti9 j0 j0<|u<|mv j0<|r_nil ?_
 obtain ⟨o,ho,h⟩:=bs h
 refine sw_lpl (X:=Int) (B:=Unit) (R:=Bool) (fun z=>[(0,sA v1),(5,iA (List.length v1 : Int)),(6,iA z)]) (fun z=>[]) (fun b=>[(0,sA v1)]) (fun b=>[]) (fun r env st=>PostF Tryz.prog Tryz.f124 0 (bA r) [] env st) ho ⟨[],ce j0 j0<|ce j0 j0<|ce j0 j0<|cn,j0,j5,j0,j1⟩ ?_ ?_ ?_
 ·
  rintro v8 r h
  replace h : kind_word_l1 v1 v8 = some r:=h
  unfold kind_word_l1 at h
  refine rg j0<|u<|lss ti3 j0 j0<|r_nil ?_
  refine sw_seq ?_
  refine sw_cond j0 (fun hc10=>?_) (fun hc10=>?_)
  ·
   replace h:=bT hc10 h
   refine sw_skip ?_
   refine sw_seq ?_
   refine sw_block ?_
   refine rg j0<|u<|mv j0<|u<|asg j0<|r_nil ?_
   obtain ⟨v9,q11,h⟩:=bs h
   obtain ⟨v11,q14,h⟩:=bs h
   obtain ⟨v13,q17,h⟩:=bs h
   refine rg j0<|u<|mv j0<|u<|mv j0<|u<|ixS ti9 j0 j0 j0 q11<|u<|pc (kind_small_ok v9 j0) j0 j0 j0<|u<|nt j0<|u<|mv j0<|r_and (x:=v11) (j:=5) 5 j0 j0 j0 j0 j0 gpn (fun hb12=>by replace q14:=bT hb12 q14; obtain ⟨v10,q13,q14⟩:=bs q14; obtain rfl:=sm q14; exact g j0 hb12<|mv j0<|g j0 hb12<|mv j0<|g j0 hb12<|ixS ti9 j0 j0 j0 q13<|g j0 hb12<|pc (kind_great_ok v10 j0) j0 j0 j0<|g j0 hb12<|nt j0<|r_nil (eg [15,16,17,18,19] 5 j0 j0 j0 j0)) (fun hb=>(sm (bF hb q14)).symm)<|u<|mv j0<|r_and (x:=v13) (j:=12) 5 j0 j0 j0 j0 j0 gpn (fun hb15=>by replace q17:=bT hb15 q17; obtain ⟨v12,q16,q17⟩:=bs q17; obtain rfl:=sm q17; exact g j0 hb15<|mv j0<|g j0 hb15<|mv j0<|g j0 hb15<|ixS ti9 j0 j0 j0 q16<|g j0 hb15<|pc (kind_digit_ok v12 j0) j0 j0 j0<|g j0 hb15<|nt j0<|r_nil (eg [22,23,24,25,26] 5 j0 j0 j0 j0)) (fun hb=>(sm (bF hb q17)).symm)<|r_nil ?_
   refine sw_cond j0 (fun hc18=>?_) (fun hc18=>?_)
   ·
    replace h:=bT hc18 h
    refine rg j0<|u<|asg j0<|r_nil ?_
    refine sw_ret ?_
    obtain rfl:=sm h
    exact ⟨_,j0,_,j0,[],ci j0,j0,j5,j0,j1⟩
   ·
    replace h:=bF hc18 h
    refine sw_skip ?_
    refine rl j0<|u<|add ti3 j0 j0<|u<|mv j0<|r_nil ?_
    obtain rfl:=sm h
    exact ⟨_,j0,[],ce j0 j0<|ce j0 j0<|ce j0 j0<|cn,j0,j5,j0,j1⟩
  ·
   replace h:=bF hc10 h
   refine sw_exit ?_
   obtain rfl:=sm h
   exact ⟨j0,_,j0,[],ce j0 j0<|cn,j0,j5,j0,j1⟩
 ·
  rintro ⟨⟩ rfl
  replace h : kind_word_k2 v1 = some r:=h
  unfold kind_word_k2 at h
  refine ow_intro ?_
  refine rg j0<|u<|mv j0<|u<|sne ti9 j0 j0<|u<|mv j0<|r_and (j:=2) 3 j0 j0 j0 j0 j0 gpn (fun hb19=>g j0 hb19<|mv j0<|g j0 hb19<|lnS ti9 j0 j0<|g j0 hb19<|leq ti3 j0 j0<|r_nil (egA [32,33,34] 3 hb19 j0 j0 j0 j0)) andF<|u<|asg j0<|r_nil ?_
  refine sw_ret ?_
  obtain rfl:=sm h
  exact ⟨_,j0,[],ci j0,j0,j5,j0,j1⟩
 ·
  rintro r' rfl env st hp
  obtain rfl:=sm h
  exact hp
def kind_Class (v1 : List UInt8) : Option (Bool) :=
  (kind_word v1).bind fun v2=>(cond (v2 && (decide (1 < (List.length v1 : Int)))) ((idx v1 0).bind fun v3=>some (kind_great v3)) (some false)).bind fun v4=>some v4
theorem kind_Class_ok (v1 : List UInt8) {r : Bool} (h : kind_Class v1 = some r) : PureC Tryz.prog 102 [sA v1] (bA r):=by
 refine pure_fn Tryz.func102 j0 (by kernel_rfl) j0 j0 ?_
 unfold kind_Class at h
 refine rg j0<|u<|asg j0<|r_nil ?_
 obtain ⟨v2,q1,h⟩:=bs h
 obtain ⟨v4,q5,h⟩:=bs h
 refine rg j0<|u<|mv j0<|u<|pc (kind_word_ok v1 q1) j0 j0 j0<|u<|mv j0<|r_and (j:=2) 3 j0 j0 j0 j0 j0 gpn (fun hb2=>g j0 hb2<|mv j0<|g j0 hb2<|lnS ti9 j0 j0<|g j0 hb2<|gtr ti3 j0 j0<|r_nil (egA [6,7,8] 3 hb2 j0 j0 j0 j0)) andF<|u<|mv j0<|r_and (x:=v4) (j:=7) 3 j0 j0 j0 j0 j0 gpn (fun hb3=>by replace q5:=bT hb3 q5; obtain ⟨v3,q4,q5⟩:=bs q5; obtain rfl:=sm q5; exact g j0 hb3<|mv j0<|g j0 hb3<|ixS ti9 j0 j0 j0 q4<|g j0 hb3<|pc (kind_great_ok v3 j0) j0 j0 j0<|r_nil (eg [11,12,13] 3 j0 j0 j0 j0)) (fun hb=>(sm (bF hb q5)).symm)<|u<|asg j0<|r_nil ?_
 refine sw_ret ?_
 obtain rfl:=sm h
 exact ⟨_,j0,[],ci j0,j0,j5,j0,j1⟩
def kind_Name (v1 : List UInt8) : Option (Bool) :=
  (cond (v1 == [36,105,110,105,116]) (some true) ((kind_word v1).bind fun v2=>(cond v2 ((idx v1 0).bind fun v3=>some (kind_small v3)) (some false)).bind fun v4=>some v4)).bind fun v5=>some v5
theorem kind_Name_ok (v1 : List UInt8) {r : Bool} (h : kind_Name v1 = some r) : PureC Tryz.prog 96 [sA v1] (bA r):=by
 refine pure_fn Tryz.func96 j0 (by kernel_rfl) j0 j0 ?_
 unfold kind_Name at h
 refine rg j0<|u<|asg j0<|r_nil ?_
 obtain ⟨v5,q6,h⟩:=bs h
 refine rg j0<|u<|mv j0<|u<|seq ti9 j0 j0<|u<|mv j0<|r_or (x:=v5) (j:=2) 7 j0 j0 j0 j0 j0 gpn (fun hb1=>by replace q6:=bF hb1 q6; obtain ⟨v2,q2,q6⟩:=bs q6; obtain ⟨v4,q5,q6⟩:=bs q6; obtain rfl:=sm q6; exact g j0 hb1<|mv j0<|g j0 hb1<|pc (kind_word_ok v1 q2) j0 j0 j0<|g j0 hb1<|mv j0<|r_and (x:=v4) (j:=5) 3 j0 j0 j0 j0 j0 (gps j0 j0 hb1) (fun hb3=>by replace q5:=bT hb3 q5; obtain ⟨v3,q4,q5⟩:=bs q5; obtain rfl:=sm q5; exact g j0 hb3<|mv j0<|g j0 hb3<|ixS ti9 j0 j0 j0 q4<|g j0 hb3<|pc (kind_small_ok v3 j0) j0 j0 j0<|r_nil (eg [9,10,11] 3 j0 j0 j0 j0)) (fun hb=>(sm (bF hb q5)).symm)<|r_nil (eg [6,7,8,9,10,11,12] 4 j0 j0 j0 j0)) (fun hb=>(sm (bT hb q6)).symm)<|u<|asg j0<|r_nil ?_
 refine sw_ret ?_
 obtain rfl:=sm h
 exact ⟨_,j0,[],ci j0,j0,j5,j0,j1⟩
def internal_stringslite_HasPrefix (v1 : List UInt8) (v2 : List UInt8) : Option (Bool) :=
  (cond (decide ((List.length v2 : Int) ≤ (List.length v1 : Int))) ((cutP v1 0 (List.length v2 : Int)).bind fun v3=>some (v3 == v2)) (some false)).bind fun v4=>some v4
theorem internal_stringslite_HasPrefix_ok (v1 : List UInt8) (v2 : List UInt8) {r : Bool} (h : internal_stringslite_HasPrefix v1 v2 = some r) : PureC Tryz.prog 207 [sA v1,sA v2] (bA r):=by
 refine pure_fn Tryz.func207 j0 (by kernel_rfl) j0 j0 ?_
 unfold internal_stringslite_HasPrefix at h
 refine rg j0<|u<|asg j0<|r_nil ?_
 obtain ⟨v4,q3,h⟩:=bs h
 refine rg j0<|u<|mv j0<|u<|lnS ti9 j0 j0<|u<|mv j0<|u<|lnS ti9 j0 j0<|u<|geq ti3 j0 j0<|u<|mv j0<|r_and (x:=v4) (j:=5) 6 j0 j0 j0 j0 j0 gpn (fun hb1=>by replace q3:=bT hb1 q3; obtain ⟨v3,q2,q3⟩:=bs q3; obtain rfl:=sm q3; exact g j0 hb1<|mv j0<|g j0 hb1<|mv j0<|g j0 hb1<|lnS ti9 j0 j0<|g j0 hb1<|slS (a:=0) (b:=(List.length v2 : Int)) ti9 j0 j0 j0 (bnd_hi j0 q2) q2<|g j0 hb1<|mv j0<|g j0 hb1<|seq ti9 j0 j0<|r_nil (eg [11,12,13,14,15,16] 6 j0 j0 j0 j0)) (fun hb=>(sm (bF hb q3)).symm)<|u<|asg j0<|r_nil ?_
 refine sw_ret ?_
 obtain rfl:=sm h
 exact ⟨_,j0,[],ci j0,j0,j5,j0,j1⟩
def internal_stringslite_TrimPrefix (v1 : List UInt8) (v2 : List UInt8) : Option ((List UInt8)) :=
  (internal_stringslite_HasPrefix v1 v2).bind fun v3=>cond v3 ((cutP v1 (List.length v2 : Int) (List.length v1 : Int)).bind fun v4=>some v4) (some v1)
theorem internal_stringslite_TrimPrefix_ok (v1 : List UInt8) (v2 : List UInt8) {r : (List UInt8)} (h : internal_stringslite_TrimPrefix v1 v2 = some r) : PureC Tryz.prog 181 [sA v1,sA v2] (sA r):=by
 refine pure_fn Tryz.func181 j0 (by kernel_rfl) j0 j0 ?_
 unfold internal_stringslite_TrimPrefix at h
 refine rg j0<|u<|asg j0<|r_nil ?_
 refine sw_seq ?_
 obtain ⟨v3,q1,h⟩:=bs h
 refine rg j0<|u<|mv j0<|u<|mv j0<|u<|pc (internal_stringslite_HasPrefix_ok v1 v2 q1) j0 j0 j0<|r_nil ?_
 refine sw_cond j0 (fun hc2=>?_) (fun hc2=>?_)
 ·
  replace h:=bT hc2 h
  obtain ⟨v4,q3,h⟩:=bs h
  refine rg j0<|u<|mv j0<|u<|mv j0<|u<|lnS ti9 j0 j0<|u<|slS (a:=(List.length v2 : Int)) (b:=(List.length v1 : Int)) ti9 j0 j0 (bnd_lo j0 q3) j0 q3<|u<|asg j0<|r_nil ?_
  refine sw_ret ?_
  obtain rfl:=sm h
  exact ⟨_,j0,[],ci j0,j0,j5,j0,j1⟩
 ·
  replace h:=bF hc2 h
  refine sw_skip ?_
  refine rg j0<|u<|mv j0<|u<|asg j0<|r_nil ?_
  refine sw_ret ?_
  obtain rfl:=sm h
  exact ⟨_,j0,[],ci j0,j0,j5,j0,j1⟩
def strings_TrimPrefix (v1 : List UInt8) (v2 : List UInt8) : Option ((List UInt8)) :=
  (internal_stringslite_TrimPrefix v1 v2).bind fun v3=>some v3
theorem strings_TrimPrefix_ok (v1 : List UInt8) (v2 : List UInt8) {r : (List UInt8)} (h : strings_TrimPrefix v1 v2 = some r) : PureC Tryz.prog 126 [sA v1,sA v2] (sA r):=by
 refine pure_fn Tryz.func126 j0 (by kernel_rfl) j0 j0 ?_
 unfold strings_TrimPrefix at h
 refine rg j0<|u<|asg j0<|r_nil ?_
 obtain ⟨v3,q1,h⟩:=bs h
 refine rg j0<|u<|mv j0<|u<|mv j0<|u<|pc (internal_stringslite_TrimPrefix_ok v1 v2 q1) j0 j0 j0<|u<|asg j0<|r_nil ?_
 refine sw_ret ?_
 obtain rfl:=sm h
 exact ⟨_,j0,[],ci j0,j0,j5,j0,j1⟩
def kind_May (v1 : List UInt8) : Option (Bool) :=
  (strings_TrimPrefix v1 [91]).bind fun v2=>(strings_TrimPrefix v2 [91]).bind fun v3=>(cond (v3 == [73]) (some true) ((kind_Class v3).bind fun v4=>some v4)).bind fun v5=>some v5
theorem kind_May_ok (v1 : List UInt8) {r : Bool} (h : kind_May v1 = some r) : PureC Tryz.prog 97 [sA v1] (bA r):=by
 refine pure_fn Tryz.func97 j0 (by kernel_rfl) j0 j0 ?_
 unfold kind_May at h
 refine rg j0<|u<|asg j0<|r_nil ?_
 obtain ⟨v2,q1,h⟩:=bs h
 obtain ⟨v3,q2,h⟩:=bs h
 refine rg j0<|u<|mv j0<|u<|pc (strings_TrimPrefix_ok v1 [91] q1) j0 j0 j0<|u<|pc (strings_TrimPrefix_ok v2 [91] q2) j0 j0 j0<|u<|asg j0<|r_nil ?_
 obtain ⟨v5,q5,h⟩:=bs h
 refine rg j0<|u<|mv j0<|u<|seq ti9 j0 j0<|u<|mv j0<|r_or (x:=v5) (j:=2) 2 j0 j0 j0 j0 j0 gpn (fun hb3=>by replace q5:=bF hb3 q5; obtain ⟨v4,q4,q5⟩:=bs q5; obtain rfl:=sm q5; exact g j0 hb3<|mv j0<|g j0 hb3<|pc (kind_Class_ok v3 q4) j0 j0 j0<|r_nil (eg [9,10] 2 j0 j0 j0 j0)) (fun hb=>(sm (bT hb q5)).symm)<|u<|asg j0<|r_nil ?_
 refine sw_ret ?_
 obtain rfl:=sm h
 exact ⟨_,j0,[],ci j0,j0,j5,j0,j1⟩
def kind_Ref (v1 : List UInt8) : Option (Bool) :=
  (cond (!(v1 == [73])) ((kind_May v1).bind fun v2=>some v2) (some false)).bind fun v3=>some v3
theorem kind_Ref_ok (v1 : List UInt8) {r : Bool} (h : kind_Ref v1 = some r) : PureC Tryz.prog 225 [sA v1] (bA r):=by
 refine pure_fn Tryz.func225 j0 (by kernel_rfl) j0 j0 ?_
 unfold kind_Ref at h
 refine rg j0<|u<|asg j0<|r_nil ?_
 obtain ⟨v3,q3,h⟩:=bs h
 refine rg j0<|u<|mv j0<|u<|sne ti9 j0 j0<|u<|mv j0<|r_and (x:=v3) (j:=2) 2 j0 j0 j0 j0 j0 gpn (fun hb1=>by replace q3:=bT hb1 q3; obtain ⟨v2,q2,q3⟩:=bs q3; obtain rfl:=sm q3; exact g j0 hb1<|mv j0<|g j0 hb1<|pc (kind_May_ok v1 q2) j0 j0 j0<|r_nil (eg [6,7] 2 j0 j0 j0 j0)) (fun hb=>(sm (bF hb q3)).symm)<|u<|asg j0<|r_nil ?_
 refine sw_ret ?_
 obtain rfl:=sm h
 exact ⟨_,j0,[],ci j0,j0,j5,j0,j1⟩
def op_between (v1 : Int) (v2 : Int) (v3 : Int) : Bool :=
  ((decide (v2 ≤ v1)) && (decide (v1 ≤ v3)))
theorem op_between_ok (v1 : Int) (v2 : Int) (v3 : Int) {r : Bool} (h : op_between v1 v2 v3 = r) : PureC Tryz.prog 224 [iA v1,iA v2,iA v3] (bA r):=by
 refine pure_fn Tryz.func224 j0 (by kernel_rfl) j0 j0 ?_
 unfold op_between at h
 refine rg j0<|u<|asg j0<|r_nil ?_
 refine rg j0<|u<|mv j0<|u<|mv j0<|u<|geq ti3 j0 j0<|u<|mv j0<|r_and (j:=3) 3 j0 j0 j0 j0 j0 gpn (fun hb1=>g j0 hb1<|mv j0<|g j0 hb1<|mv j0<|g j0 hb1<|leq ti3 j0 j0<|r_nil (egA [11,12,13] 3 hb1 j0 j0 j0 j0)) andF<|u<|asg j0<|r_nil ?_
 refine sw_ret ?_
 obtain rfl:=h
 exact ⟨_,j0,[],ci j0,j0,j5,j0,j1⟩
def op_known (v1 : Int) : Bool :=
  (op_between v1 1 61)
theorem op_known_ok (v1 : Int) {r : Bool} (h : op_known v1 = r) : PureC Tryz.prog 220 [iA v1] (bA r):=by
 refine pure_fn Tryz.func220 j0 (by kernel_rfl) j0 j0 ?_
 unfold op_known at h
 refine rg j0<|u<|asg j0<|r_nil ?_
 refine rg j0<|u<|mv j0<|u<|pc (op_between_ok v1 1 61 j0) j0 j0 j0<|u<|asg j0<|r_nil ?_
 refine sw_ret ?_
 obtain rfl:=h
 exact ⟨_,j0,[],ci j0,j0,j5,j0,j1⟩
def op_Jumps (v1 : Int) : Bool :=
  (op_between v1 20 36)
theorem op_Jumps_ok (v1 : Int) {r : Bool} (h : op_Jumps v1 = r) : PureC Tryz.prog 187 [iA v1] (bA r):=by
 refine pure_fn Tryz.func187 j0 (by kernel_rfl) j0 j0 ?_
 unfold op_Jumps at h
 refine rg j0<|u<|asg j0<|r_nil ?_
 refine rg j0<|u<|mv j0<|u<|pc (op_between_ok v1 20 36 j0) j0 j0 j0<|u<|asg j0<|r_nil ?_
 refine sw_ret ?_
 obtain rfl:=h
 exact ⟨_,j0,[],ci j0,j0,j5,j0,j1⟩
def op_mayA (v1 : Int) (v2 : Int) : Bool :=
  cond (v1 == (1 : Int)) ((op_between v2 (-2147483648) 2147483647)) (cond ((v1 == (3 : Int)) || (v1 == (4 : Int))) ((op_between v2 0 15)) (cond (op_Jumps v1) ((op_between v2 0 99)) ((v2 == (0 : Int)))))
theorem op_mayA_ok (v1 : Int) (v2 : Int) {r : Bool} (h : op_mayA v1 v2 = r) : PureC Tryz.prog 221 [iA v1,iA v2] (bA r):=by
 refine pure_fn Tryz.func221 j0 (by kernel_rfl) j0 j0 ?_
 unfold op_mayA at h
 refine rg j0<|u<|asg j0<|r_nil ?_
 refine sw_seq ?_
 refine sw_block ?_
 refine rg j0<|u<|mv j0<|u<|eql ti3 j0 j0<|u<|asg j0<|r_nil ?_
 refine sw_cond j0 (fun hc1=>?_) (fun hc1=>?_)
 ·
  replace h:=bT hc1 h
  refine rg j0<|u<|mv j0<|u<|pc (op_between_ok v2 (-2147483648) 2147483647 j0) j0 j0 j0<|u<|asg j0<|r_nil ?_
  refine sw_ret ?_
  obtain rfl:=h
  exact ⟨_,j0,[],ci j0,j0,j5,j0,j1⟩
 ·
  replace h:=bF hc1 h
  refine rg j0<|u<|mv j0<|u<|eql ti3 j0 j0<|u<|mv j0<|r_or (j:=2) 2 j0 j0 j0 j0 j0 gpn (fun hb2=>g j0 hb2<|mv j0<|g j0 hb2<|eql ti3 j0 j0<|r_nil (egO [14,15] 2 hb2 j0 j0 j0 j0)) orT<|u<|asg j0<|r_nil ?_
  refine sw_cond j0 (fun hc3=>?_) (fun hc3=>?_)
  ·
   replace h:=bT hc3 h
   refine rg j0<|u<|mv j0<|u<|pc (op_between_ok v2 0 15 j0) j0 j0 j0<|u<|asg j0<|r_nil ?_
   refine sw_ret ?_
   obtain rfl:=h
   exact ⟨_,j0,[],ci j0,j0,j5,j0,j1⟩
  ·
   replace h:=bF hc3 h
   refine rg j0<|u<|mv j0<|u<|pc (op_Jumps_ok v1 j0) j0 j0 j0<|u<|asg j0<|r_nil ?_
   refine sw_cond j0 (fun hc4=>?_) (fun hc4=>?_)
   ·
    replace h:=bT hc4 h
    refine rg j0<|u<|mv j0<|u<|pc (op_between_ok v2 0 99 j0) j0 j0 j0<|u<|asg j0<|r_nil ?_
    refine sw_ret ?_
    obtain rfl:=h
    exact ⟨_,j0,[],ci j0,j0,j5,j0,j1⟩
   ·
    replace h:=bF hc4 h
    refine sw_skip ?_
    refine rg j0<|u<|mv j0<|u<|eql ti3 j0 j0<|u<|asg j0<|r_nil ?_
    refine sw_ret ?_
    obtain rfl:=h
    exact ⟨_,j0,[],ci j0,j0,j5,j0,j1⟩
def op_typed (v1 : Int) : Bool :=
  (((v1 == (50 : Int)) || (v1 == (56 : Int))) || (v1 == (57 : Int)))
theorem op_typed_ok (v1 : Int) {r : Bool} (h : op_typed v1 = r) : PureC Tryz.prog 236 [iA v1] (bA r):=by
 refine pure_fn Tryz.func236 j0 (by kernel_rfl) j0 j0 ?_
 unfold op_typed at h
 refine rg j0<|u<|asg j0<|r_nil ?_
 refine rg j0<|u<|mv j0<|u<|eql ti3 j0 j0<|u<|mv j0<|r_or (j:=2) 2 j0 j0 j0 j0 j0 gpn (fun hb1=>g j0 hb1<|mv j0<|g j0 hb1<|eql ti3 j0 j0<|r_nil (egO [6,7] 2 hb1 j0 j0 j0 j0)) orT<|u<|mv j0<|r_or (j:=6) 2 j0 j0 j0 j0 j0 gpn (fun hb2=>g j0 hb2<|mv j0<|g j0 hb2<|eql ti3 j0 j0<|r_nil (egO [10,11] 2 hb2 j0 j0 j0 j0)) orT<|u<|asg j0<|r_nil ?_
 refine sw_ret ?_
 obtain rfl:=h
 exact ⟨_,j0,[],ci j0,j0,j5,j0,j1⟩
def op_m (v1 : Int) : Bool :=
  (op_between v1 38 45)
theorem op_m_ok (v1 : Int) {r : Bool} (h : op_m v1 = r) : PureC Tryz.prog 238 [iA v1] (bA r):=by
 refine pure_fn Tryz.func238 j0 (by kernel_rfl) j0 j0 ?_
 unfold op_m at h
 refine rg j0<|u<|asg j0<|r_nil ?_
 refine rg j0<|u<|mv j0<|u<|pc (op_between_ok v1 38 45 j0) j0 j0 j0<|u<|asg j0<|r_nil ?_
 refine sw_ret ?_
 obtain rfl:=h
 exact ⟨_,j0,[],ci j0,j0,j5,j0,j1⟩
def op_c (v1 : Int) : Bool :=
  (((v1 == (37 : Int)) || (op_m v1)) || (op_typed v1))
theorem op_c_ok (v1 : Int) {r : Bool} (h : op_c v1 = r) : PureC Tryz.prog 237 [iA v1] (bA r):=by
 refine pure_fn Tryz.func237 j0 (by kernel_rfl) j0 j0 ?_
 unfold op_c at h
 refine rg j0<|u<|asg j0<|r_nil ?_
 refine rg j0<|u<|mv j0<|u<|eql ti3 j0 j0<|u<|mv j0<|r_or (j:=2) 2 j0 j0 j0 j0 j0 gpn (fun hb1=>g j0 hb1<|mv j0<|g j0 hb1<|pc (op_m_ok v1 j0) j0 j0 j0<|r_nil (egO [6,7] 2 hb1 j0 j0 j0 j0)) orT<|u<|mv j0<|r_or (j:=6) 2 j0 j0 j0 j0 j0 gpn (fun hb2=>g j0 hb2<|mv j0<|g j0 hb2<|pc (op_typed_ok v1 j0) j0 j0 j0<|r_nil (egO [10,11] 2 hb2 j0 j0 j0 j0)) orT<|u<|asg j0<|r_nil ?_
 refine sw_ret ?_
 obtain rfl:=h
 exact ⟨_,j0,[],ci j0,j0,j5,j0,j1⟩
def op_mayC (v1 : Int) (v2 : List UInt8) : Option (Bool) :=
  cond (op_typed v1) ((kind_Ref v2).bind fun v3=>some v3) (cond (op_c v1) ((kind_Class v2).bind fun v4=>some v4) (some (v2 == [])))
theorem op_mayC_ok (v1 : Int) (v2 : List UInt8) {r : Bool} (h : op_mayC v1 v2 = some r) : PureC Tryz.prog 222 [iA v1,sA v2] (bA r):=by
 refine pure_fn Tryz.func222 j0 (by kernel_rfl) j0 j0 ?_
 unfold op_mayC at h
 refine rg j0<|u<|asg j0<|r_nil ?_
 refine sw_seq ?_
 refine sw_block ?_
 refine rg j0<|u<|mv j0<|u<|pc (op_typed_ok v1 j0) j0 j0 j0<|u<|asg j0<|r_nil ?_
 refine sw_cond j0 (fun hc1=>?_) (fun hc1=>?_)
 ·
  replace h:=bT hc1 h
  obtain ⟨v3,q2,h⟩:=bs h
  refine rg j0<|u<|mv j0<|u<|pc (kind_Ref_ok v2 q2) j0 j0 j0<|u<|asg j0<|r_nil ?_
  refine sw_ret ?_
  obtain rfl:=sm h
  exact ⟨_,j0,[],ci j0,j0,j5,j0,j1⟩
 ·
  replace h:=bF hc1 h
  refine rg j0<|u<|mv j0<|u<|pc (op_c_ok v1 j0) j0 j0 j0<|u<|asg j0<|r_nil ?_
  refine sw_cond j0 (fun hc3=>?_) (fun hc3=>?_)
  ·
   replace h:=bT hc3 h
   obtain ⟨v4,q4,h⟩:=bs h
   refine rg j0<|u<|mv j0<|u<|pc (kind_Class_ok v2 q4) j0 j0 j0<|u<|asg j0<|r_nil ?_
   refine sw_ret ?_
   obtain rfl:=sm h
   exact ⟨_,j0,[],ci j0,j0,j5,j0,j1⟩
  ·
   replace h:=bF hc3 h
   refine sw_skip ?_
   refine rg j0<|u<|mv j0<|u<|seq ti9 j0 j0<|u<|asg j0<|r_nil ?_
   refine sw_ret ?_
   obtain rfl:=sm h
   exact ⟨_,j0,[],ci j0,j0,j5,j0,j1⟩
def op_mayM (v1 : Int) (v2 : List UInt8) : Option (Bool) :=
  cond (op_m v1) ((kind_Name v2).bind fun v3=>some (v3 && (!(v2 == [36,105,110,105,116])))) (some (v2 == []))
theorem op_mayM_ok (v1 : Int) (v2 : List UInt8) {r : Bool} (h : op_mayM v1 v2 = some r) : PureC Tryz.prog 223 [iA v1,sA v2] (bA r):=by
 refine pure_fn Tryz.func223 j0 (by kernel_rfl) j0 j0 ?_
 unfold op_mayM at h
 refine rg j0<|u<|asg j0<|r_nil ?_
 refine sw_seq ?_
 refine rg j0<|u<|mv j0<|u<|pc (op_m_ok v1 j0) j0 j0 j0<|r_nil ?_
 refine sw_cond j0 (fun hc1=>?_) (fun hc1=>?_)
 ·
  replace h:=bT hc1 h
  obtain ⟨v3,q2,h⟩:=bs h
  refine rg j0<|u<|mv j0<|u<|pc (kind_Name_ok v2 q2) j0 j0 j0<|u<|mv j0<|r_and (j:=2) 2 j0 j0 j0 j0 j0 gpn (fun hb3=>g j0 hb3<|mv j0<|g j0 hb3<|sne ti9 j0 j0<|r_nil (egA [10,11] 2 hb3 j0 j0 j0 j0)) andF<|u<|asg j0<|r_nil ?_
  refine sw_ret ?_
  obtain rfl:=sm h
  exact ⟨_,j0,[],ci j0,j0,j5,j0,j1⟩
 ·
  replace h:=bF hc1 h
  refine sw_skip ?_
  refine rg j0<|u<|mv j0<|u<|seq ti9 j0 j0<|u<|asg j0<|r_nil ?_
  refine sw_ret ?_
  obtain rfl:=sm h
  exact ⟨_,j0,[],ci j0,j0,j5,j0,j1⟩
def op_May (v1 : ApiIns) : Option (Bool) :=
  (cond ((op_known v1.Op) && (op_mayA v1.Op v1.A)) ((op_mayC v1.Op v1.C).bind fun v2=>some v2) (some false)).bind fun v3=>(cond v3 ((op_mayM v1.Op v1.M).bind fun v4=>some v4) (some false)).bind fun v5=>some v5
theorem op_May_ok (v1 : ApiIns) {r : Bool} (h : op_May v1 = some r) : PureC Tryz.prog 186 [.agg [iA v1.Op,iA v1.A,sA v1.C,sA v1.M]] (bA r):=by
 refine pure_fn Tryz.func186 j0 (by kernel_rfl) j0 j0 ?_
 unfold op_May at h
 refine rg j0<|u<|bx 0 4 j0 j0 j0 j0<|u<|asg j0<|r_nil ?_
 obtain ⟨v3,q4,h⟩:=bs h
 obtain ⟨v5,q7,h⟩:=bs h
 refine rg j0<|u<|fa ti66 j0 j0 j0<|u<|ld ti3 j0 j0<|u<|pc (op_known_ok v1.Op j0) j0 j0 j0<|u<|mv j0<|r_and (j:=3) 5 j0 j0 j0 j0 j0 gpn (fun hb1=>g j0 hb1<|fa ti66 j0 j0 j0<|g j0 hb1<|ld ti3 j0 j0<|g j0 hb1<|fa ti66 j0 j0 j0<|g j0 hb1<|ld ti3 j0 j0<|g j0 hb1<|pc (op_mayA_ok v1.Op v1.A j0) j0 j0 j0<|r_nil (egA [7,8,9,10,11] 5 hb1 j0 j0 j0 j0)) andF<|u<|mv j0<|r_and (x:=v3) (j:=10) 5 j0 j0 j0 j0 j0 gpn (fun hb2=>by replace q4:=bT hb2 q4; obtain ⟨v2,q3,q4⟩:=bs q4; obtain rfl:=sm q4; exact g j0 hb2<|fa ti66 j0 j0 j0<|g j0 hb2<|ld ti3 j0 j0<|g j0 hb2<|fa ti66 j0 j0 j0<|g j0 hb2<|ld ti9 j0 j0<|g j0 hb2<|pc (op_mayC_ok v1.Op v1.C q3) j0 j0 j0<|r_nil (eg [14,15,16,17,18] 5 j0 j0 j0 j0)) (fun hb=>(sm (bF hb q4)).symm)<|u<|mv j0<|r_and (x:=v5) (j:=17) 5 j0 j0 j0 j0 j0 gpn (fun hb5=>by replace q7:=bT hb5 q7; obtain ⟨v4,q6,q7⟩:=bs q7; obtain rfl:=sm q7; exact g j0 hb5<|fa ti66 j0 j0 j0<|g j0 hb5<|ld ti3 j0 j0<|g j0 hb5<|fa ti66 j0 j0 j0<|g j0 hb5<|ld ti9 j0 j0<|g j0 hb5<|pc (op_mayM_ok v1.Op v1.M q6) j0 j0 j0<|r_nil (eg [21,22,23,24,25] 5 j0 j0 j0 j0)) (fun hb=>(sm (bF hb q7)).symm)<|u<|asg j0<|r_nil ?_
 refine sw_ret ?_
 obtain rfl:=sm h
 exact ⟨_,j0,[],ci j0,j0,j5,j0,j1⟩
def ref3_great (v1 : UInt8) : Bool :=
  ((decide (65 ≤ (v1.toNat : Int))) && (decide ((v1.toNat : Int) ≤ 90)))
theorem ref3_great_ok (v1 : UInt8) {r : Bool} (h : ref3_great v1 = r) : PureC Tryz.prog 139 [.lit (.int .u8 (v1.toNat : Int))] (bA r):=by
 refine pure_fn Tryz.func139 j0 (by kernel_rfl) j0 j0 ?_
 unfold ref3_great at h
 refine rg j0<|u<|asg j0<|r_nil ?_
 refine rg j0<|u<|mv j0<|u<|geq ti5 j0 j0<|u<|mv j0<|r_and (j:=2) 2 j0 j0 j0 j0 j0 gpn (fun hb1=>g j0 hb1<|mv j0<|g j0 hb1<|leq ti5 j0 j0<|r_nil (egA [6,7] 2 hb1 j0 j0 j0 j0)) andF<|u<|asg j0<|r_nil ?_
 refine sw_ret ?_
 obtain rfl:=h
 exact ⟨_,j0,[],ci j0,j0,j5,j0,j1⟩
def ref3_little (v1 : UInt8) : Bool :=
  ((decide (97 ≤ (v1.toNat : Int))) && (decide ((v1.toNat : Int) ≤ 122)))
theorem ref3_little_ok (v1 : UInt8) {r : Bool} (h : ref3_little v1 = r) : PureC Tryz.prog 140 [.lit (.int .u8 (v1.toNat : Int))] (bA r):=by
 refine pure_fn Tryz.func140 j0 (by kernel_rfl) j0 j0 ?_
 unfold ref3_little at h
 refine rg j0<|u<|asg j0<|r_nil ?_
 refine rg j0<|u<|mv j0<|u<|geq ti5 j0 j0<|u<|mv j0<|r_and (j:=2) 2 j0 j0 j0 j0 j0 gpn (fun hb1=>g j0 hb1<|mv j0<|g j0 hb1<|leq ti5 j0 j0<|r_nil (egA [6,7] 2 hb1 j0 j0 j0 j0)) andF<|u<|asg j0<|r_nil ?_
 refine sw_ret ?_
 obtain rfl:=h
 exact ⟨_,j0,[],ci j0,j0,j5,j0,j1⟩
def ref3_digit (v1 : UInt8) : Bool :=
  ((decide (48 ≤ (v1.toNat : Int))) && (decide ((v1.toNat : Int) ≤ 57)))
theorem ref3_digit_ok (v1 : UInt8) {r : Bool} (h : ref3_digit v1 = r) : PureC Tryz.prog 141 [.lit (.int .u8 (v1.toNat : Int))] (bA r):=by
 refine pure_fn Tryz.func141 j0 (by kernel_rfl) j0 j0 ?_
 unfold ref3_digit at h
 refine rg j0<|u<|asg j0<|r_nil ?_
 refine rg j0<|u<|mv j0<|u<|geq ti5 j0 j0<|u<|mv j0<|r_and (j:=2) 2 j0 j0 j0 j0 j0 gpn (fun hb1=>g j0 hb1<|mv j0<|g j0 hb1<|leq ti5 j0 j0<|r_nil (egA [6,7] 2 hb1 j0 j0 j0 j0)) andF<|u<|asg j0<|r_nil ?_
 refine sw_ret ?_
 obtain rfl:=h
 exact ⟨_,j0,[],ci j0,j0,j5,j0,j1⟩
def ref3_Class_k2 (v1 : List UInt8) : Option (Bool) :=
  some ((decide (2 ≤ (List.length v1 : Int))) && (decide ((List.length v1 : Int) ≤ 8)))
def ref3_Class_l1 (v1 : List UInt8) (v9 : Int) : Option (Sum (Int) (Sum (Unit) (Bool))) :=
  cond (decide (v9 < (List.length v1 : Int))) ((idx v1 v9).bind fun v10=>(cond (!(ref3_great v10)) ((cond (v9 == (0 : Int)) (some true) ((idx v1 v9).bind fun v11=>(cond (!(ref3_little v11)) ((idx v1 v9).bind fun v12=>some (!(ref3_digit v12))) (some false)).bind fun v13=>some v13)).bind fun v14=>some v14) (some false)).bind fun v15=>cond v15 (some (.inr (.inr false))) (some (.inl (IntKind.i64.wrap (v9 + 1))))) (some (.inr (.inl ())))
def ref3_Class (v1 : List UInt8) : Option (Bool) :=
  (loopP (fun z=>ref3_Class_l1 v1 z) 0).bind fun o=>leave o (fun b=>ref3_Class_k2 v1) some
theorem ref3_Class_ok (v1 : List UInt8) {r : Bool} (h : ref3_Class v1 = some r) : PureC Tryz.prog 107 [sA v1] (bA r):=by
 refine pure_fn Tryz.func107 j0 (by kernel_rfl) j0 j0 ?_
 unfold ref3_Class at h
 refine rg j0<|u<|asg j0<|r_nil ?_
 refine sw_seq ?_
 refine rg j0<|u<|asg j0<|r_nil ?_
 obtain ⟨o,ho,h⟩:=bs h
 refine sw_lpl (X:=Int) (B:=Unit) (R:=Bool) (fun z=>[(0,sA v1),(3,iA z)]) (fun z=>[]) (fun b=>[(0,sA v1)]) (fun b=>[]) (fun r env st=>PostF Tryz.prog Tryz.f107 0 (bA r) [] env st) ho ⟨[],ce j0 j0<|ce j0 j0<|cn,j0,j5,j0,j1⟩ ?_ ?_ ?_
 ·
  rintro v9 r h
  replace h : ref3_Class_l1 v1 v9 = some r:=h
  unfold ref3_Class_l1 at h
  refine sw_seq ?_
  refine rg j0<|u<|mv j0<|u<|mv j0<|u<|lnS ti9 j0 j0<|u<|lss ti3 j0 j0<|r_nil ?_
  refine sw_cond j0 (fun hc12=>?_) (fun hc12=>?_)
  ·
   replace h:=bT hc12 h
   refine sw_skip ?_
   refine sw_seq ?_
   refine sw_block ?_
   obtain ⟨v10,q13,h⟩:=bs h
   obtain ⟨v15,q21,h⟩:=bs h
   refine rg j0<|u<|mv j0<|u<|mv j0<|u<|ixS ti9 j0 j0 j0 q13<|u<|pc (ref3_great_ok v10 j0) j0 j0 j0<|u<|nt j0<|u<|mv j0<|r_and (x:=v15) (j:=5) 16 j0 j0 j0 j0 j0 gpn (fun hb14=>by replace q21:=bT hb14 q21; obtain ⟨v14,q20,q21⟩:=bs q21; obtain rfl:=sm q21; exact g j0 hb14<|mv j0<|g j0 hb14<|eql ti3 j0 j0<|g j0 hb14<|mv j0<|r_or (x:=v14) (j:=8) 12 j0 j0 j0 j0 j0 (gps j0 j0 hb14) (fun hb15=>by replace q20:=bF hb15 q20; obtain ⟨v11,q16,q20⟩:=bs q20; obtain ⟨v13,q19,q20⟩:=bs q20; obtain rfl:=sm q20; exact g j0 hb15<|mv j0<|g j0 hb15<|mv j0<|g j0 hb15<|ixS ti9 j0 j0 j0 q16<|g j0 hb15<|pc (ref3_little_ok v11 j0) j0 j0 j0<|g j0 hb15<|nt j0<|g j0 hb15<|mv j0<|r_and (x:=v13) (j:=14) 5 j0 j0 j0 j0 j0 (gps j0 j0 hb15) (fun hb17=>by replace q19:=bT hb17 q19; obtain ⟨v12,q18,q19⟩:=bs q19; obtain rfl:=sm q19; exact g j0 hb17<|mv j0<|g j0 hb17<|mv j0<|g j0 hb17<|ixS ti9 j0 j0 j0 q18<|g j0 hb17<|pc (ref3_digit_ok v12 j0) j0 j0 j0<|g j0 hb17<|nt j0<|r_nil (eg [25,26,27,28,29] 5 j0 j0 j0 j0)) (fun hb=>(sm (bF hb q19)).symm)<|r_nil (eg [19,20,21,22,23,24,25,26,27,28,29,30] 7 j0 j0 j0 j0)) (fun hb=>(sm (bT hb q20)).symm)<|r_nil (eg [16,17,18,19,20,21,22,23,24,25,26,27,28,29,30,31] 4 j0 j0 j0 j0)) (fun hb=>(sm (bF hb q21)).symm)<|r_nil ?_
   refine sw_cond j0 (fun hc22=>?_) (fun hc22=>?_)
   ·
    replace h:=bT hc22 h
    refine rg j0<|u<|asg j0<|r_nil ?_
    refine sw_ret ?_
    obtain rfl:=sm h
    exact ⟨_,j0,_,j0,[],ci j0,j0,j5,j0,j1⟩
   ·
    replace h:=bF hc22 h
    refine sw_skip ?_
    refine rl j0<|u<|mv j0<|u<|add ti3 j0 j0<|u<|asg j0<|r_nil ?_
    obtain rfl:=sm h
    exact ⟨_,j0,[],ce j0 j0<|ce j0 j0<|cn,j0,j5,j0,j1⟩
  ·
   replace h:=bF hc12 h
   refine sw_exit ?_
   obtain rfl:=sm h
   exact ⟨j0,_,j0,[],ce j0 j0<|cn,j0,j5,j0,j1⟩
 ·
  rintro ⟨⟩ rfl
  replace h : ref3_Class_k2 v1 = some r:=h
  unfold ref3_Class_k2 at h
  refine ow_intro ?_
  refine rg j0<|u<|mv j0<|u<|lnS ti9 j0 j0<|u<|geq ti3 j0 j0<|u<|mv j0<|r_and (j:=3) 3 j0 j0 j0 j0 j0 gpn (fun hb23=>g j0 hb23<|mv j0<|g j0 hb23<|lnS ti9 j0 j0<|g j0 hb23<|leq ti3 j0 j0<|r_nil (egA [37,38,39] 3 hb23 j0 j0 j0 j0)) andF<|u<|asg j0<|r_nil ?_
  refine sw_ret ?_
  obtain rfl:=sm h
  exact ⟨_,j0,[],ci j0,j0,j5,j0,j1⟩
 ·
  rintro r' rfl env st hp
  obtain rfl:=sm h
  exact hp
def ref3_Jumps (v1 : Int) : Bool :=
  ((decide (20 ≤ v1)) && (decide (v1 ≤ 36)))
theorem ref3_Jumps_ok (v1 : Int) {r : Bool} (h : ref3_Jumps v1 = r) : PureC Tryz.prog 193 [iA v1] (bA r):=by
 refine pure_fn Tryz.func193 j0 (by kernel_rfl) j0 j0 ?_
 unfold ref3_Jumps at h
 refine rg j0<|u<|asg j0<|r_nil ?_
 refine rg j0<|u<|mv j0<|u<|geq ti3 j0 j0<|u<|mv j0<|r_and (j:=2) 2 j0 j0 j0 j0 j0 gpn (fun hb1=>g j0 hb1<|mv j0<|g j0 hb1<|leq ti3 j0 j0<|r_nil (egA [6,7] 2 hb1 j0 j0 j0 j0)) andF<|u<|asg j0<|r_nil ?_
 refine sw_ret ?_
 obtain rfl:=h
 exact ⟨_,j0,[],ci j0,j0,j5,j0,j1⟩
def ref3_parts_j2 (v3 : Bool) : Bool × Int × Bool :=
  cond v3 ((false,2,false)) ((false,0,false))
def ref3_parts_j1 (v1 : Int) (v2 : Bool) : Bool × Int × Bool :=
  cond v2 ((true,0,false)) (cond (v1 == (37 : Int)) ((false,1,false)) (cond ((decide (38 ≤ v1)) && (decide (v1 ≤ 45))) ((false,1,true)) (cond (v1 == (50 : Int)) (ref3_parts_j2 (v1 == (50 : Int))) (cond (v1 == (56 : Int)) (ref3_parts_j2 (v1 == (56 : Int))) (ref3_parts_j2 (v1 == (57 : Int)))))))
def ref3_parts (v1 : Int) : Bool × Int × Bool :=
  cond (v1 == (1 : Int)) (ref3_parts_j1 v1 (v1 == (1 : Int))) (cond (v1 == (3 : Int)) (ref3_parts_j1 v1 (v1 == (3 : Int))) (cond (v1 == (4 : Int)) (ref3_parts_j1 v1 (v1 == (4 : Int))) (ref3_parts_j1 v1 (ref3_Jumps v1))))
theorem ref3_parts_ok (v1 : Int) {r : Bool × Int × Bool} (h : ref3_parts v1 = r) : PureC Tryz.prog 227 [iA v1] (.tup [bA r.1,iA r.2.1,bA r.2.2]):=by
 refine pure_fn Tryz.func227 j0 (by kernel_rfl) j0 j0 ?_
 unfold ref3_parts at h
 refine rg j0<|u<|asg j0<|u<|asg j0<|u<|asg j0<|r_nil ?_
 refine sw_seq ?_
 refine sw_block ?_
 refine sw_meet (X:=Bool) (fun z=>[(0,iA v1),(5,bA z)]) (fun z=>[]) (fun z=>ref3_parts_j1 v1 z = r) ?_ ?_
 ·
  refine rg j0<|u<|mv j0<|u<|eql ti3 j0 j0<|u<|asg j0<|r_nil ?_
  refine sw_cond j0 (fun hc1=>?_) (fun hc1=>?_)
  ·
   replace h:=bT hc1 h
   refine sw_skip ?_
   exact ⟨(v1 == (1 : Int)),h,[],ce j0 j0<|ce j0 j0<|cn,j0,j5,j0,j1⟩
  ·
   replace h:=bF hc1 h
   refine rg j0<|u<|mv j0<|u<|eql ti3 j0 j0<|u<|asg j0<|r_nil ?_
   refine sw_cond j0 (fun hc2=>?_) (fun hc2=>?_)
   ·
    replace h:=bT hc2 h
    refine sw_skip ?_
    exact ⟨(v1 == (3 : Int)),h,[],ce j0 j0<|ce j0 j0<|cn,j0,j5,j0,j1⟩
   ·
    replace h:=bF hc2 h
    refine rg j0<|u<|mv j0<|u<|eql ti3 j0 j0<|u<|asg j0<|r_nil ?_
    refine sw_cond j0 (fun hc3=>?_) (fun hc3=>?_)
    ·
     replace h:=bT hc3 h
     refine sw_skip ?_
     exact ⟨(v1 == (4 : Int)),h,[],ce j0 j0<|ce j0 j0<|cn,j0,j5,j0,j1⟩
    ·
     replace h:=bF hc3 h
     exact rl j0<|u<|mv j0<|u<|pc (ref3_Jumps_ok v1 j0) j0 j0 j0<|u<|asg j0<|r_nil (⟨(ref3_Jumps v1),h,[],ce j0 j0<|ce j0 j0<|cn,j0,j5,j0,j1⟩)
 ·
  rintro v2 h
  replace h : ref3_parts_j1 v1 v2 = r:=h
  unfold ref3_parts_j1 at h
  refine sw_cond j0 (fun hc4=>?_) (fun hc4=>?_)
  ·
   replace h:=bT hc4 h
   refine rg j0<|u<|asg j0<|u<|asg j0<|u<|asg j0<|r_nil ?_
   refine sw_ret ?_
   obtain rfl:=h
   exact ⟨_,j0,[],rsTup ⟨(ci j0),(ci j0),(ci j0),j5⟩,j0,j5,j0,j1⟩
  ·
   replace h:=bF hc4 h
   refine rg j0<|u<|mv j0<|u<|eql ti3 j0 j0<|u<|asg j0<|r_nil ?_
   refine sw_cond j0 (fun hc5=>?_) (fun hc5=>?_)
   ·
    replace h:=bT hc5 h
    refine rg j0<|u<|asg j0<|u<|asg j0<|u<|asg j0<|r_nil ?_
    refine sw_ret ?_
    obtain rfl:=h
    exact ⟨_,j0,[],rsTup ⟨(ci j0),(ci j0),(ci j0),j5⟩,j0,j5,j0,j1⟩
   ·
    replace h:=bF hc5 h
    refine rg j0<|u<|mv j0<|u<|geq ti3 j0 j0<|u<|mv j0<|r_and (j:=2) 2 j0 j0 j0 j0 j0 gpn (fun hb6=>g j0 hb6<|mv j0<|g j0 hb6<|leq ti3 j0 j0<|r_nil (egA [21,22] 2 hb6 j0 j0 j0 j0)) andF<|u<|asg j0<|r_nil ?_
    refine sw_cond j0 (fun hc7=>?_) (fun hc7=>?_)
    ·
     replace h:=bT hc7 h
     refine rg j0<|u<|asg j0<|u<|asg j0<|u<|asg j0<|r_nil ?_
     refine sw_ret ?_
     obtain rfl:=h
     exact ⟨_,j0,[],rsTup ⟨(ci j0),(ci j0),(ci j0),j5⟩,j0,j5,j0,j1⟩
    ·
     replace h:=bF hc7 h
     refine sw_meet (X:=Bool) (fun z=>[(24,bA z)]) (fun z=>[]) (fun z=>ref3_parts_j2 z = r) ?_ ?_
     ·
      refine rg j0<|u<|mv j0<|u<|eql ti3 j0 j0<|u<|asg j0<|r_nil ?_
      refine sw_cond j0 (fun hc8=>?_) (fun hc8=>?_)
      ·
       replace h:=bT hc8 h
       refine sw_skip ?_
       exact ⟨(v1 == (50 : Int)),h,[],ce j0 j0<|cn,j0,j5,j0,j1⟩
      ·
       replace h:=bF hc8 h
       refine rg j0<|u<|mv j0<|u<|eql ti3 j0 j0<|u<|asg j0<|r_nil ?_
       refine sw_cond j0 (fun hc9=>?_) (fun hc9=>?_)
       ·
        replace h:=bT hc9 h
        refine sw_skip ?_
        exact ⟨(v1 == (56 : Int)),h,[],ce j0 j0<|cn,j0,j5,j0,j1⟩
       ·
        replace h:=bF hc9 h
        exact rl j0<|u<|mv j0<|u<|eql ti3 j0 j0<|u<|asg j0<|r_nil (⟨(v1 == (57 : Int)),h,[],ce j0 j0<|cn,j0,j5,j0,j1⟩)
     ·
      rintro v3 h
      replace h : ref3_parts_j2 v3 = r:=h
      unfold ref3_parts_j2 at h
      refine sw_cond j0 (fun hc10=>?_) (fun hc10=>?_)
      ·
       replace h:=bT hc10 h
       refine rg j0<|u<|asg j0<|u<|asg j0<|u<|asg j0<|r_nil ?_
       refine sw_ret ?_
       obtain rfl:=h
       exact ⟨_,j0,[],rsTup ⟨(ci j0),(ci j0),(ci j0),j5⟩,j0,j5,j0,j1⟩
      ·
       replace h:=bF hc10 h
       refine sw_skip ?_
       refine rg j0<|u<|asg j0<|u<|asg j0<|u<|asg j0<|r_nil ?_
       refine sw_ret ?_
       obtain rfl:=h
       exact ⟨_,j0,[],rsTup ⟨(ci j0),(ci j0),(ci j0),j5⟩,j0,j5,j0,j1⟩
def ref3_number (v1 : Int) (v2 : Int) : Bool :=
  cond (v1 == (1 : Int)) (((decide ((-2147483648) ≤ v2)) && (decide (v2 < 2147483648)))) (cond (ref3_Jumps v1) (((decide (0 ≤ v2)) && (decide (v2 < 100)))) (((decide (0 ≤ v2)) && (decide (v2 < 16)))))
theorem ref3_number_ok (v1 : Int) (v2 : Int) {r : Bool} (h : ref3_number v1 v2 = r) : PureC Tryz.prog 228 [iA v1,iA v2] (bA r):=by
 refine pure_fn Tryz.func228 j0 (by kernel_rfl) j0 j0 ?_
 unfold ref3_number at h
 refine rg j0<|u<|asg j0<|r_nil ?_
 refine sw_seq ?_
 refine sw_block ?_
 refine rg j0<|u<|mv j0<|u<|eql ti3 j0 j0<|u<|asg j0<|r_nil ?_
 refine sw_cond j0 (fun hc1=>?_) (fun hc1=>?_)
 ·
  replace h:=bT hc1 h
  refine rg j0<|u<|mv j0<|u<|geq ti3 j0 j0<|u<|mv j0<|r_and (j:=2) 2 j0 j0 j0 j0 j0 gpn (fun hb2=>g j0 hb2<|mv j0<|g j0 hb2<|lss ti3 j0 j0<|r_nil (egA [11,12] 2 hb2 j0 j0 j0 j0)) andF<|u<|asg j0<|r_nil ?_
  refine sw_ret ?_
  obtain rfl:=h
  exact ⟨_,j0,[],ci j0,j0,j5,j0,j1⟩
 ·
  replace h:=bF hc1 h
  refine rg j0<|u<|mv j0<|u<|pc (ref3_Jumps_ok v1 j0) j0 j0 j0<|u<|asg j0<|r_nil ?_
  refine sw_cond j0 (fun hc3=>?_) (fun hc3=>?_)
  ·
   replace h:=bT hc3 h
   refine rg j0<|u<|mv j0<|u<|geq ti3 j0 j0<|u<|mv j0<|r_and (j:=2) 2 j0 j0 j0 j0 j0 gpn (fun hb4=>g j0 hb4<|mv j0<|g j0 hb4<|lss ti3 j0 j0<|r_nil (egA [20,21] 2 hb4 j0 j0 j0 j0)) andF<|u<|asg j0<|r_nil ?_
   refine sw_ret ?_
   obtain rfl:=h
   exact ⟨_,j0,[],ci j0,j0,j5,j0,j1⟩
  ·
   replace h:=bF hc3 h
   refine sw_skip ?_
   refine rg j0<|u<|mv j0<|u<|geq ti3 j0 j0<|u<|mv j0<|r_and (j:=2) 2 j0 j0 j0 j0 j0 gpn (fun hb5=>g j0 hb5<|mv j0<|g j0 hb5<|lss ti3 j0 j0<|r_nil (egA [26,27] 2 hb5 j0 j0 j0 j0)) andF<|u<|asg j0<|r_nil ?_
   refine sw_ret ?_
   obtain rfl:=h
   exact ⟨_,j0,[],ci j0,j0,j5,j0,j1⟩
def ref3_May_k2 (v12 : List UInt8) : Option (Bool) :=
  (cond (v12 == [73]) (some true) ((ref3_Class v12).bind fun v13=>some v13)).bind fun v14=>some v14
def ref3_May_l1 (v7 : List UInt8) (v8 : Int) : Option (Sum ((List UInt8) × Int) (Sum ((List UInt8)) (Bool))) :=
  (cond ((decide (v8 < 2)) && (decide (0 < (List.length v7 : Int)))) ((idx v7 0).bind fun v9=>some ((v9.toNat : Int) == (91 : Int))) (some false)).bind fun v10=>cond v10 ((cutP v7 1 (List.length v7 : Int)).bind fun v11=>some (.inl (v11,(IntKind.i64.wrap (v8 + 1))))) (some (.inr (.inl v7)))
def ref3_May (v1 : List UInt8) : Option (Bool) :=
  (loopP (fun z=>ref3_May_l1 z.1 z.2) (v1,0)).bind fun o=>leave o (fun b=>ref3_May_k2 b) some
theorem ref3_May_ok (v1 : List UInt8) {r : Bool} (h : ref3_May v1 = some r) : PureC Tryz.prog 88 [sA v1] (bA r):=by
 refine pure_fn Tryz.func88 j0 (by kernel_rfl) j0 j0 ?_
 unfold ref3_May at h
 refine rg j0<|u<|asg j0<|r_nil ?_
 refine sw_seq ?_
 refine rg j0<|u<|asg j0<|r_nil ?_
 obtain ⟨o,ho,h⟩:=bs h
 refine sw_lpl (X:=(List UInt8) × Int) (B:=(List UInt8)) (R:=Bool) (fun z=>[(0,sA z.1),(3,iA z.2)]) (fun z=>[]) (fun b=>[(0,sA b)]) (fun b=>[]) (fun r env st=>PostF Tryz.prog Tryz.f88 0 (bA r) [] env st) ho ⟨[],ce j0 j0<|ce j0 j0<|cn,j0,j5,j0,j1⟩ ?_ ?_ ?_
 ·
  rintro ⟨v7,v8⟩ r h
  replace h : ref3_May_l1 v7 v8 = some r:=h
  unfold ref3_May_l1 at h
  refine sw_seq ?_
  obtain ⟨v10,q10,h⟩:=bs h
  refine rg j0<|u<|mv j0<|u<|lss ti3 j0 j0<|u<|mv j0<|r_and (j:=2) 3 j0 j0 j0 j0 j0 gpn (fun hb7=>g j0 hb7<|mv j0<|g j0 hb7<|lnS ti9 j0 j0<|g j0 hb7<|gtr ti3 j0 j0<|r_nil (egA [7,8,9] 3 hb7 j0 j0 j0 j0)) andF<|u<|mv j0<|r_and (x:=v10) (j:=7) 3 j0 j0 j0 j0 j0 gpn (fun hb8=>by replace q10:=bT hb8 q10; obtain ⟨v9,q9,q10⟩:=bs q10; obtain rfl:=sm q10; exact g j0 hb8<|mv j0<|g j0 hb8<|ixS ti9 j0 j0 j0 q9<|g j0 hb8<|eql ti5 j0 j0<|r_nil (eg [12,13,14] 3 j0 j0 j0 j0)) (fun hb=>(sm (bF hb q10)).symm)<|r_nil ?_
  refine sw_cond j0 (fun hc11=>?_) (fun hc11=>?_)
  ·
   replace h:=bT hc11 h
   refine sw_skip ?_
   refine sw_seq ?_
   refine sw_block ?_
   obtain ⟨v11,q12,h⟩:=bs h
   refine rl j0<|u<|mv j0<|u<|slS (a:=1) (b:=(List.length v7 : Int)) ti9 j0 j0 (bnd_lo j0 q12) j0 q12<|u<|asg j0<|r_nil ?_
   refine rl j0<|u<|mv j0<|u<|add ti3 j0 j0<|u<|asg j0<|r_nil ?_
   obtain rfl:=sm h
   exact ⟨_,j0,[],ce j0 j0<|ce j0 j0<|cn,j0,j5,j0,j1⟩
  ·
   replace h:=bF hc11 h
   refine sw_exit ?_
   obtain rfl:=sm h
   exact ⟨j0,_,j0,[],ce j0 j0<|cn,j0,j5,j0,j1⟩
 ·
  rintro v12 rfl
  replace h : ref3_May_k2 v12 = some r:=h
  unfold ref3_May_k2 at h
  refine ow_intro ?_
  obtain ⟨v14,q15,h⟩:=bs h
  refine rg j0<|u<|mv j0<|u<|seq ti9 j0 j0<|u<|mv j0<|r_or (x:=v14) (j:=2) 2 j0 j0 j0 j0 j0 gpn (fun hb13=>by replace q15:=bF hb13 q15; obtain ⟨v13,q14,q15⟩:=bs q15; obtain rfl:=sm q15; exact g j0 hb13<|mv j0<|g j0 hb13<|pc (ref3_Class_ok v12 q14) j0 j0 j0<|r_nil (eg [23,24] 2 j0 j0 j0 j0)) (fun hb=>(sm (bT hb q15)).symm)<|u<|asg j0<|r_nil ?_
  refine sw_ret ?_
  obtain rfl:=sm h
  exact ⟨_,j0,[],ci j0,j0,j5,j0,j1⟩
 ·
  rintro r' rfl env st hp
  obtain rfl:=sm h
  exact hp
def ref3_Ref (v1 : List UInt8) : Option (Bool) :=
  (cond (!(v1 == [73])) ((ref3_May v1).bind fun v2=>some v2) (some false)).bind fun v3=>some v3
theorem ref3_Ref_ok (v1 : List UInt8) {r : Bool} (h : ref3_Ref v1 = some r) : PureC Tryz.prog 229 [sA v1] (bA r):=by
 refine pure_fn Tryz.func229 j0 (by kernel_rfl) j0 j0 ?_
 unfold ref3_Ref at h
 refine rg j0<|u<|asg j0<|r_nil ?_
 obtain ⟨v3,q3,h⟩:=bs h
 refine rg j0<|u<|mv j0<|u<|sne ti9 j0 j0<|u<|mv j0<|r_and (x:=v3) (j:=2) 2 j0 j0 j0 j0 j0 gpn (fun hb1=>by replace q3:=bT hb1 q3; obtain ⟨v2,q2,q3⟩:=bs q3; obtain rfl:=sm q3; exact g j0 hb1<|mv j0<|g j0 hb1<|pc (ref3_May_ok v1 q2) j0 j0 j0<|r_nil (eg [6,7] 2 j0 j0 j0 j0)) (fun hb=>(sm (bF hb q3)).symm)<|u<|asg j0<|r_nil ?_
 refine sw_ret ?_
 obtain rfl:=sm h
 exact ⟨_,j0,[],ci j0,j0,j5,j0,j1⟩
def ref3_Name_k2 (v1 : List UInt8) : Option (Bool) :=
  some ((decide (1 ≤ (List.length v1 : Int))) && (decide ((List.length v1 : Int) ≤ 8)))
def ref3_Name_l1 (v1 : List UInt8) (v9 : Int) : Option (Sum (Int) (Sum (Unit) (Bool))) :=
  cond (decide (v9 < (List.length v1 : Int))) ((idx v1 v9).bind fun v10=>(cond (!(ref3_little v10)) ((cond (v9 == (0 : Int)) (some true) ((idx v1 v9).bind fun v11=>(cond (!(ref3_great v11)) ((idx v1 v9).bind fun v12=>some (!(ref3_digit v12))) (some false)).bind fun v13=>some v13)).bind fun v14=>some v14) (some false)).bind fun v15=>cond v15 (some (.inr (.inr false))) (some (.inl (IntKind.i64.wrap (v9 + 1))))) (some (.inr (.inl ())))
def ref3_Name (v1 : List UInt8) : Option (Bool) :=
  cond (v1 == [36,105,110,105,116]) (some true) ((loopP (fun z=>ref3_Name_l1 v1 z) 0).bind fun o=>leave o (fun b=>ref3_Name_k2 v1) some)
theorem ref3_Name_ok (v1 : List UInt8) {r : Bool} (h : ref3_Name v1 = some r) : PureC Tryz.prog 108 [sA v1] (bA r):=by
 refine pure_fn Tryz.func108 j0 (by kernel_rfl) j0 j0 ?_
 unfold ref3_Name at h
 refine rg j0<|u<|asg j0<|r_nil ?_
 refine sw_seq ?_
 refine rg j0<|u<|mv j0<|u<|seq ti9 j0 j0<|r_nil ?_
 refine sw_cond j0 (fun hc1=>?_) (fun hc1=>?_)
 ·
  replace h:=bT hc1 h
  refine rg j0<|u<|asg j0<|r_nil ?_
  refine sw_ret ?_
  obtain rfl:=sm h
  exact ⟨_,j0,[],ci j0,j0,j5,j0,j1⟩
 ·
  replace h:=bF hc1 h
  refine sw_skip ?_
  refine sw_seq ?_
  refine rg j0<|u<|asg j0<|r_nil ?_
  obtain ⟨o,ho,h⟩:=bs h
  refine sw_lpl (X:=Int) (B:=Unit) (R:=Bool) (fun z=>[(0,sA v1),(3,iA z)]) (fun z=>[]) (fun b=>[(0,sA v1)]) (fun b=>[]) (fun r env st=>PostF Tryz.prog Tryz.f108 0 (bA r) [] env st) ho ⟨[],ce j0 j0<|ce j0 j0<|cn,j0,j5,j0,j1⟩ ?_ ?_ ?_
  ·
   rintro v9 r h
   replace h : ref3_Name_l1 v1 v9 = some r:=h
   unfold ref3_Name_l1 at h
   refine sw_seq ?_
   refine rg j0<|u<|mv j0<|u<|mv j0<|u<|lnS ti9 j0 j0<|u<|lss ti3 j0 j0<|r_nil ?_
   refine sw_cond j0 (fun hc13=>?_) (fun hc13=>?_)
   ·
    replace h:=bT hc13 h
    refine sw_skip ?_
    refine sw_seq ?_
    refine sw_block ?_
    obtain ⟨v10,q14,h⟩:=bs h
    obtain ⟨v15,q22,h⟩:=bs h
    refine rg j0<|u<|mv j0<|u<|mv j0<|u<|ixS ti9 j0 j0 j0 q14<|u<|pc (ref3_little_ok v10 j0) j0 j0 j0<|u<|nt j0<|u<|mv j0<|r_and (x:=v15) (j:=5) 16 j0 j0 j0 j0 j0 gpn (fun hb15=>by replace q22:=bT hb15 q22; obtain ⟨v14,q21,q22⟩:=bs q22; obtain rfl:=sm q22; exact g j0 hb15<|mv j0<|g j0 hb15<|eql ti3 j0 j0<|g j0 hb15<|mv j0<|r_or (x:=v14) (j:=8) 12 j0 j0 j0 j0 j0 (gps j0 j0 hb15) (fun hb16=>by replace q21:=bF hb16 q21; obtain ⟨v11,q17,q21⟩:=bs q21; obtain ⟨v13,q20,q21⟩:=bs q21; obtain rfl:=sm q21; exact g j0 hb16<|mv j0<|g j0 hb16<|mv j0<|g j0 hb16<|ixS ti9 j0 j0 j0 q17<|g j0 hb16<|pc (ref3_great_ok v11 j0) j0 j0 j0<|g j0 hb16<|nt j0<|g j0 hb16<|mv j0<|r_and (x:=v13) (j:=14) 5 j0 j0 j0 j0 j0 (gps j0 j0 hb16) (fun hb18=>by replace q20:=bT hb18 q20; obtain ⟨v12,q19,q20⟩:=bs q20; obtain rfl:=sm q20; exact g j0 hb18<|mv j0<|g j0 hb18<|mv j0<|g j0 hb18<|ixS ti9 j0 j0 j0 q19<|g j0 hb18<|pc (ref3_digit_ok v12 j0) j0 j0 j0<|g j0 hb18<|nt j0<|r_nil (eg [27,28,29,30,31] 5 j0 j0 j0 j0)) (fun hb=>(sm (bF hb q20)).symm)<|r_nil (eg [21,22,23,24,25,26,27,28,29,30,31,32] 7 j0 j0 j0 j0)) (fun hb=>(sm (bT hb q21)).symm)<|r_nil (eg [18,19,20,21,22,23,24,25,26,27,28,29,30,31,32,33] 4 j0 j0 j0 j0)) (fun hb=>(sm (bF hb q22)).symm)<|r_nil ?_
    refine sw_cond j0 (fun hc23=>?_) (fun hc23=>?_)
    ·
     replace h:=bT hc23 h
     refine rg j0<|u<|asg j0<|r_nil ?_
     refine sw_ret ?_
     obtain rfl:=sm h
     exact ⟨_,j0,_,j0,[],ci j0,j0,j5,j0,j1⟩
    ·
     replace h:=bF hc23 h
     refine sw_skip ?_
     refine rl j0<|u<|mv j0<|u<|add ti3 j0 j0<|u<|asg j0<|r_nil ?_
     obtain rfl:=sm h
     exact ⟨_,j0,[],ce j0 j0<|ce j0 j0<|cn,j0,j5,j0,j1⟩
   ·
    replace h:=bF hc13 h
    refine sw_exit ?_
    obtain rfl:=sm h
    exact ⟨j0,_,j0,[],ce j0 j0<|cn,j0,j5,j0,j1⟩
  ·
   rintro ⟨⟩ rfl
   replace h : ref3_Name_k2 v1 = some r:=h
   unfold ref3_Name_k2 at h
   refine ow_intro ?_
   refine rg j0<|u<|mv j0<|u<|lnS ti9 j0 j0<|u<|geq ti3 j0 j0<|u<|mv j0<|r_and (j:=3) 3 j0 j0 j0 j0 j0 gpn (fun hb24=>g j0 hb24<|mv j0<|g j0 hb24<|lnS ti9 j0 j0<|g j0 hb24<|leq ti3 j0 j0<|r_nil (egA [39,40,41] 3 hb24 j0 j0 j0 j0)) andF<|u<|asg j0<|r_nil ?_
   refine sw_ret ?_
   obtain rfl:=sm h
   exact ⟨_,j0,[],ci j0,j0,j5,j0,j1⟩
  ·
   rintro r' rfl env st hp
   obtain rfl:=sm h
   exact hp
def ref3_MayIns (v1 : ApiIns) : Option (Bool) :=
  cond ((decide (v1.Op < 1)) || (decide (61 < v1.Op))) (some false) (cond ((((ref3_parts v1.Op).1) && (!(ref3_number v1.Op v1.A))) || ((!((ref3_parts v1.Op).1)) && (!(v1.A == (0 : Int))))) (some false) ((cond ((((ref3_parts v1.Op).2.1) == (0 : Int)) && (!(v1.C == []))) (some true) ((cond (((ref3_parts v1.Op).2.1) == (1 : Int)) ((ref3_Class v1.C).bind fun v2=>some (!v2)) (some false)).bind fun v3=>some v3)).bind fun v4=>(cond v4 (some true) ((cond (((ref3_parts v1.Op).2.1) == (2 : Int)) ((ref3_Ref v1.C).bind fun v5=>some (!v5)) (some false)).bind fun v6=>some v6)).bind fun v7=>cond v7 (some false) (cond ((ref3_parts v1.Op).2.2) ((ref3_Name v1.M).bind fun v8=>some (v8 && (!(v1.M == [36,105,110,105,116])))) (some (v1.M == [])))))
theorem ref3_MayIns_ok (v1 : ApiIns) {r : Bool} (h : ref3_MayIns v1 = some r) : PureC Tryz.prog 192 [.agg [iA v1.Op,iA v1.A,sA v1.C,sA v1.M]] (bA r):=by
 refine pure_fn Tryz.func192 j0 (by kernel_rfl) j0 j0 ?_
 unfold ref3_MayIns at h
 refine rg j0<|u<|bx 0 4 j0 j0 j0 j0<|u<|asg j0<|r_nil ?_
 refine rg j0<|u<|fa ti66 j0 j0 j0<|u<|ld ti3 j0 j0<|u<|pc (ref3_parts_ok v1.Op j0) j0 j0 j0<|u<|mv j0<|u<|ex j0 j0<|u<|ex j0 j0<|u<|ex j0 j0<|u<|asg j0<|u<|asg j0<|u<|asg j0<|r_nil ?_
 refine sw_seq ?_
 refine sw_block ?_
 refine rg j0<|u<|fa ti66 j0 j0 j0<|u<|ld ti3 j0 j0<|u<|lss ti3 j0 j0<|u<|mv j0<|r_or (j:=3) 3 j0 j0 j0 j0 j0 gpn (fun hb1=>g j0 hb1<|fa ti66 j0 j0 j0<|g j0 hb1<|ld ti3 j0 j0<|g j0 hb1<|gtr ti3 j0 j0<|r_nil (egO [18,19,20] 3 hb1 j0 j0 j0 j0)) orT<|u<|asg j0<|r_nil ?_
 refine sw_cond j0 (fun hc2=>?_) (fun hc2=>?_)
 ·
  replace h:=bT hc2 h
  refine rg j0<|u<|asg j0<|r_nil ?_
  refine sw_ret ?_
  obtain rfl:=sm h
  exact ⟨_,j0,[],ci j0,j0,j5,j0,j1⟩
 ·
  replace h:=bF hc2 h
  refine rg j0<|u<|mv j0<|u<|mv j0<|r_and (j:=1) 6 j0 j0 j0 j0 j0 gpn (fun hb3=>g j0 hb3<|fa ti66 j0 j0 j0<|g j0 hb3<|ld ti3 j0 j0<|g j0 hb3<|fa ti66 j0 j0 j0<|g j0 hb3<|ld ti3 j0 j0<|g j0 hb3<|pc (ref3_number_ok v1.Op v1.A j0) j0 j0 j0<|g j0 hb3<|nt j0<|r_nil (egA [25,26,27,28,29,30] 6 hb3 j0 j0 j0 j0)) andF<|u<|mv j0<|r_or (j:=9) 7 j0 j0 j0 j0 j0 gpn (fun hb4=>g j0 hb4<|mv j0<|g j0 hb4<|nt j0<|g j0 hb4<|mv j0<|r_and (j:=12) 3 j0 j0 j0 j0 j0 (gps j0 j0 hb4) (fun hb5=>g j0 hb5<|fa ti66 j0 j0 j0<|g j0 hb5<|ld ti3 j0 j0<|g j0 hb5<|neq ti3 j0 j0<|r_nil (egA [36,37,38] 3 hb5 j0 j0 j0 j0)) andF<|r_nil (egO [33,34,35,36,37,38,39] 4 hb4 j0 j0 j0 j0)) orT<|u<|asg j0<|r_nil ?_
  refine sw_cond j0 (fun hc6=>?_) (fun hc6=>?_)
  ·
   replace h:=bT hc6 h
   refine rg j0<|u<|asg j0<|r_nil ?_
   refine sw_ret ?_
   obtain rfl:=sm h
   exact ⟨_,j0,[],ci j0,j0,j5,j0,j1⟩
  ·
   replace h:=bF hc6 h
   obtain ⟨v4,q12,h⟩:=bs h
   obtain ⟨v7,q17,h⟩:=bs h
   refine rg j0<|u<|mv j0<|u<|eql ti3 j0 j0<|u<|mv j0<|r_and (j:=2) 3 j0 j0 j0 j0 j0 gpn (fun hb7=>g j0 hb7<|fa ti66 j0 j0 j0<|g j0 hb7<|ld ti9 j0 j0<|g j0 hb7<|sne ti9 j0 j0<|r_nil (egA [45,46,47] 3 hb7 j0 j0 j0 j0)) andF<|u<|mv j0<|r_or (x:=v4) (j:=7) 8 j0 j0 j0 j0 j0 gpn (fun hb8=>by replace q12:=bF hb8 q12; obtain ⟨v3,q11,q12⟩:=bs q12; obtain rfl:=sm q12; exact g j0 hb8<|mv j0<|g j0 hb8<|eql ti3 j0 j0<|g j0 hb8<|mv j0<|r_and (x:=v3) (j:=10) 4 j0 j0 j0 j0 j0 (gps j0 j0 hb8) (fun hb9=>by replace q11:=bT hb9 q11; obtain ⟨v2,q10,q11⟩:=bs q11; obtain rfl:=sm q11; exact g j0 hb9<|fa ti66 j0 j0 j0<|g j0 hb9<|ld ti9 j0 j0<|g j0 hb9<|pc (ref3_Class_ok v1.C q10) j0 j0 j0<|g j0 hb9<|nt j0<|r_nil (eg [53,54,55,56] 4 j0 j0 j0 j0)) (fun hb=>(sm (bF hb q11)).symm)<|r_nil (eg [50,51,52,53,54,55,56,57] 4 j0 j0 j0 j0)) (fun hb=>(sm (bT hb q12)).symm)<|u<|mv j0<|r_or (x:=v7) (j:=17) 8 j0 j0 j0 j0 j0 gpn (fun hb13=>by replace q17:=bF hb13 q17; obtain ⟨v6,q16,q17⟩:=bs q17; obtain rfl:=sm q17; exact g j0 hb13<|mv j0<|g j0 hb13<|eql ti3 j0 j0<|g j0 hb13<|mv j0<|r_and (x:=v6) (j:=20) 4 j0 j0 j0 j0 j0 (gps j0 j0 hb13) (fun hb14=>by replace q16:=bT hb14 q16; obtain ⟨v5,q15,q16⟩:=bs q16; obtain rfl:=sm q16; exact g j0 hb14<|fa ti66 j0 j0 j0<|g j0 hb14<|ld ti9 j0 j0<|g j0 hb14<|pc (ref3_Ref_ok v1.C q15) j0 j0 j0<|g j0 hb14<|nt j0<|r_nil (eg [63,64,65,66] 4 j0 j0 j0 j0)) (fun hb=>(sm (bF hb q16)).symm)<|r_nil (eg [60,61,62,63,64,65,66,67] 4 j0 j0 j0 j0)) (fun hb=>(sm (bT hb q17)).symm)<|u<|asg j0<|r_nil ?_
   refine sw_cond j0 (fun hc18=>?_) (fun hc18=>?_)
   ·
    replace h:=bT hc18 h
    refine rg j0<|u<|asg j0<|r_nil ?_
    refine sw_ret ?_
    obtain rfl:=sm h
    exact ⟨_,j0,[],ci j0,j0,j5,j0,j1⟩
   ·
    replace h:=bF hc18 h
    refine rg j0<|u<|mv j0<|u<|asg j0<|r_nil ?_
    refine sw_cond j0 (fun hc19=>?_) (fun hc19=>?_)
    ·
     replace h:=bT hc19 h
     obtain ⟨v8,q20,h⟩:=bs h
     refine rg j0<|u<|fa ti66 j0 j0 j0<|u<|ld ti9 j0 j0<|u<|pc (ref3_Name_ok v1.M q20) j0 j0 j0<|u<|mv j0<|r_and (j:=3) 3 j0 j0 j0 j0 j0 gpn (fun hb21=>g j0 hb21<|fa ti66 j0 j0 j0<|g j0 hb21<|ld ti9 j0 j0<|g j0 hb21<|sne ti9 j0 j0<|r_nil (egA [75,76,77] 3 hb21 j0 j0 j0 j0)) andF<|u<|asg j0<|r_nil ?_
     refine sw_ret ?_
     obtain rfl:=sm h
     exact ⟨_,j0,[],ci j0,j0,j5,j0,j1⟩
    ·
     replace h:=bF hc19 h
     refine sw_skip ?_
     refine rg j0<|u<|fa ti66 j0 j0 j0<|u<|ld ti9 j0 j0<|u<|seq ti9 j0 j0<|u<|asg j0<|r_nil ?_
     refine sw_ret ?_
     obtain rfl:=sm h
     exact ⟨_,j0,[],ci j0,j0,j5,j0,j1⟩
def op_Ends_j1 (v2 : Bool) : Bool :=
  cond v2 (true) (false)
def op_Ends (v1 : Int) : Bool :=
  cond (v1 == (20 : Int)) (op_Ends_j1 (v1 == (20 : Int))) (cond (v1 == (46 : Int)) (op_Ends_j1 (v1 == (46 : Int))) (cond (v1 == (47 : Int)) (op_Ends_j1 (v1 == (47 : Int))) (cond (v1 == (48 : Int)) (op_Ends_j1 (v1 == (48 : Int))) (cond (v1 == (58 : Int)) (op_Ends_j1 (v1 == (58 : Int))) (op_Ends_j1 (v1 == (61 : Int)))))))
theorem op_Ends_ok (v1 : Int) {r : Bool} (h : op_Ends v1 = r) : PureC Tryz.prog 183 [iA v1] (bA r):=by
 refine pure_fn Tryz.func183 j0 (by kernel_rfl) j0 j0 ?_
 unfold op_Ends at h
 refine rg j0<|u<|asg j0<|r_nil ?_
 refine sw_seq ?_
 refine rg j0<|u<|mv j0<|r_nil ?_
 refine sw_block ?_
 refine sw_meet (X:=Bool) (fun z=>[(4,bA z)]) (fun z=>[]) (fun z=>op_Ends_j1 z = r) ?_ ?_
 ·
  refine rg j0<|u<|eql ti3 j0 j0<|u<|asg j0<|r_nil ?_
  refine sw_cond j0 (fun hc1=>?_) (fun hc1=>?_)
  ·
   replace h:=bT hc1 h
   refine sw_skip ?_
   exact ⟨(v1 == (20 : Int)),h,[],ce j0 j0<|cn,j0,j5,j0,j1⟩
  ·
   replace h:=bF hc1 h
   refine rg j0<|u<|eql ti3 j0 j0<|u<|asg j0<|r_nil ?_
   refine sw_cond j0 (fun hc2=>?_) (fun hc2=>?_)
   ·
    replace h:=bT hc2 h
    refine sw_skip ?_
    exact ⟨(v1 == (46 : Int)),h,[],ce j0 j0<|cn,j0,j5,j0,j1⟩
   ·
    replace h:=bF hc2 h
    refine rg j0<|u<|eql ti3 j0 j0<|u<|asg j0<|r_nil ?_
    refine sw_cond j0 (fun hc3=>?_) (fun hc3=>?_)
    ·
     replace h:=bT hc3 h
     refine sw_skip ?_
     exact ⟨(v1 == (47 : Int)),h,[],ce j0 j0<|cn,j0,j5,j0,j1⟩
    ·
     replace h:=bF hc3 h
     refine rg j0<|u<|eql ti3 j0 j0<|u<|asg j0<|r_nil ?_
     refine sw_cond j0 (fun hc4=>?_) (fun hc4=>?_)
     ·
      replace h:=bT hc4 h
      refine sw_skip ?_
      exact ⟨(v1 == (48 : Int)),h,[],ce j0 j0<|cn,j0,j5,j0,j1⟩
     ·
      replace h:=bF hc4 h
      refine rg j0<|u<|eql ti3 j0 j0<|u<|asg j0<|r_nil ?_
      refine sw_cond j0 (fun hc5=>?_) (fun hc5=>?_)
      ·
       replace h:=bT hc5 h
       refine sw_skip ?_
       exact ⟨(v1 == (58 : Int)),h,[],ce j0 j0<|cn,j0,j5,j0,j1⟩
      ·
       replace h:=bF hc5 h
       exact rl j0<|u<|eql ti3 j0 j0<|u<|asg j0<|r_nil (⟨(v1 == (61 : Int)),h,[],ce j0 j0<|cn,j0,j5,j0,j1⟩)
 ·
  rintro v2 h
  replace h : op_Ends_j1 v2 = r:=h
  unfold op_Ends_j1 at h
  refine sw_cond j0 (fun hc6=>?_) (fun hc6=>?_)
  ·
   replace h:=bT hc6 h
   refine rg j0<|u<|asg j0<|r_nil ?_
   refine sw_ret ?_
   obtain rfl:=h
   exact ⟨_,j0,[],ci j0,j0,j5,j0,j1⟩
  ·
   replace h:=bF hc6 h
   refine sw_skip ?_
   refine rg j0<|u<|asg j0<|r_nil ?_
   refine sw_ret ?_
   obtain rfl:=h
   exact ⟨_,j0,[],ci j0,j0,j5,j0,j1⟩
def ref3_Ends_j1 (v2 : Bool) : Bool :=
  cond v2 (true) (false)
def ref3_Ends (v1 : Int) : Bool :=
  cond (v1 == (20 : Int)) (ref3_Ends_j1 (v1 == (20 : Int))) (cond (v1 == (46 : Int)) (ref3_Ends_j1 (v1 == (46 : Int))) (cond (v1 == (47 : Int)) (ref3_Ends_j1 (v1 == (47 : Int))) (cond (v1 == (48 : Int)) (ref3_Ends_j1 (v1 == (48 : Int))) (cond (v1 == (58 : Int)) (ref3_Ends_j1 (v1 == (58 : Int))) (ref3_Ends_j1 (v1 == (61 : Int)))))))
theorem ref3_Ends_ok (v1 : Int) {r : Bool} (h : ref3_Ends v1 = r) : PureC Tryz.prog 191 [iA v1] (bA r):=by
 refine pure_fn Tryz.func191 j0 (by kernel_rfl) j0 j0 ?_
 unfold ref3_Ends at h
 refine rg j0<|u<|asg j0<|r_nil ?_
 refine sw_seq ?_
 refine rg j0<|u<|mv j0<|r_nil ?_
 refine sw_block ?_
 refine sw_meet (X:=Bool) (fun z=>[(4,bA z)]) (fun z=>[]) (fun z=>ref3_Ends_j1 z = r) ?_ ?_
 ·
  refine rg j0<|u<|eql ti3 j0 j0<|u<|asg j0<|r_nil ?_
  refine sw_cond j0 (fun hc1=>?_) (fun hc1=>?_)
  ·
   replace h:=bT hc1 h
   refine sw_skip ?_
   exact ⟨(v1 == (20 : Int)),h,[],ce j0 j0<|cn,j0,j5,j0,j1⟩
  ·
   replace h:=bF hc1 h
   refine rg j0<|u<|eql ti3 j0 j0<|u<|asg j0<|r_nil ?_
   refine sw_cond j0 (fun hc2=>?_) (fun hc2=>?_)
   ·
    replace h:=bT hc2 h
    refine sw_skip ?_
    exact ⟨(v1 == (46 : Int)),h,[],ce j0 j0<|cn,j0,j5,j0,j1⟩
   ·
    replace h:=bF hc2 h
    refine rg j0<|u<|eql ti3 j0 j0<|u<|asg j0<|r_nil ?_
    refine sw_cond j0 (fun hc3=>?_) (fun hc3=>?_)
    ·
     replace h:=bT hc3 h
     refine sw_skip ?_
     exact ⟨(v1 == (47 : Int)),h,[],ce j0 j0<|cn,j0,j5,j0,j1⟩
    ·
     replace h:=bF hc3 h
     refine rg j0<|u<|eql ti3 j0 j0<|u<|asg j0<|r_nil ?_
     refine sw_cond j0 (fun hc4=>?_) (fun hc4=>?_)
     ·
      replace h:=bT hc4 h
      refine sw_skip ?_
      exact ⟨(v1 == (48 : Int)),h,[],ce j0 j0<|cn,j0,j5,j0,j1⟩
     ·
      replace h:=bF hc4 h
      refine rg j0<|u<|eql ti3 j0 j0<|u<|asg j0<|r_nil ?_
      refine sw_cond j0 (fun hc5=>?_) (fun hc5=>?_)
      ·
       replace h:=bT hc5 h
       refine sw_skip ?_
       exact ⟨(v1 == (58 : Int)),h,[],ce j0 j0<|cn,j0,j5,j0,j1⟩
      ·
       replace h:=bF hc5 h
       exact rl j0<|u<|eql ti3 j0 j0<|u<|asg j0<|r_nil (⟨(v1 == (61 : Int)),h,[],ce j0 j0<|cn,j0,j5,j0,j1⟩)
 ·
  rintro v2 h
  replace h : ref3_Ends_j1 v2 = r:=h
  unfold ref3_Ends_j1 at h
  refine sw_cond j0 (fun hc6=>?_) (fun hc6=>?_)
  ·
   replace h:=bT hc6 h
   refine rg j0<|u<|asg j0<|r_nil ?_
   refine sw_ret ?_
   obtain rfl:=h
   exact ⟨_,j0,[],ci j0,j0,j5,j0,j1⟩
  ·
   replace h:=bF hc6 h
   refine sw_skip ?_
   refine rg j0<|u<|asg j0<|r_nil ?_
   refine sw_ret ?_
   obtain rfl:=h
   exact ⟨_,j0,[],ci j0,j0,j5,j0,j1⟩
def kind_Elem (v1 : List UInt8) : Option ((List UInt8) × Bool) :=
  (kind_May v1).bind fun v2=>(cond (!v2) (some true) ((idx v1 0).bind fun v3=>some (!((v3.toNat : Int) == (91 : Int))))).bind fun v4=>cond v4 (some ([],false)) ((cutP v1 1 (List.length v1 : Int)).bind fun v5=>some (v5,true))
theorem kind_Elem_ok (v1 : List UInt8) {r : (List UInt8) × Bool} (h : kind_Elem v1 = some r) : PureC Tryz.prog 68 [sA v1] (.tup [sA r.1,bA r.2]):=by
 refine pure_fn Tryz.func68 j0 (by kernel_rfl) j0 j0 ?_
 unfold kind_Elem at h
 refine rg j0<|u<|asg j0<|u<|asg j0<|r_nil ?_
 refine sw_seq ?_
 obtain ⟨v2,q1,h⟩:=bs h
 obtain ⟨v4,q4,h⟩:=bs h
 refine rg j0<|u<|mv j0<|u<|pc (kind_May_ok v1 q1) j0 j0 j0<|u<|nt j0<|u<|mv j0<|r_or (x:=v4) (j:=3) 3 j0 j0 j0 j0 j0 gpn (fun hb2=>by replace q4:=bF hb2 q4; obtain ⟨v3,q3,q4⟩:=bs q4; obtain rfl:=sm q4; exact g j0 hb2<|mv j0<|g j0 hb2<|ixS ti9 j0 j0 j0 q3<|g j0 hb2<|neq ti5 j0 j0<|r_nil (eg [8,9,10] 3 j0 j0 j0 j0)) (fun hb=>(sm (bT hb q4)).symm)<|r_nil ?_
 refine sw_cond j0 (fun hc5=>?_) (fun hc5=>?_)
 ·
  replace h:=bT hc5 h
  refine rg j0<|u<|asg j0<|u<|asg j0<|r_nil ?_
  refine sw_ret ?_
  obtain rfl:=sm h
  exact ⟨_,j0,[],rsTup ⟨(ci j0),(ci j0),j5⟩,j0,j5,j0,j1⟩
 ·
  replace h:=bF hc5 h
  refine sw_skip ?_
  obtain ⟨v5,q6,h⟩:=bs h
  refine rg j0<|u<|mv j0<|u<|slS (a:=1) (b:=(List.length v1 : Int)) ti9 j0 j0 (bnd_lo j0 q6) j0 q6<|u<|asg j0<|u<|asg j0<|r_nil ?_
  refine sw_ret ?_
  obtain rfl:=sm h
  exact ⟨_,j0,[],rsTup ⟨(ci j0),(ci j0),j5⟩,j0,j5,j0,j1⟩
end
end Go.Proofs.YtooagifeniibcaaGreat
namespace Go.Proofs.YtooagifeniibcaaGreat
noncomputable section
set_option linter.unusedSimpArgs false
set_option linter.unusedVariables false
set_option maxRecDepth 100000
set_option maxHeartbeats 4000000
structure ApiField where
  Name : List UInt8
  Type_ : List UInt8
  Static : Bool
def rApiField (x : ApiField) : List AV:=[sA x.Name,sA x.Type_,bA x.Static]
structure ApiMap where
  At : Int
  Locals : List (List UInt8)
  Stack : List (List UInt8)
def rApiMap (x : ApiMap) : List AV:=[iA x.At,.isl 1 (List.map rStr x.Locals),.isl 1 (List.map rStr x.Stack)]
structure ApiTrap where
  From : Int
  To : Int
  At : Int
  C : List UInt8
def rApiTrap (x : ApiTrap) : List AV:=[iA x.From,iA x.To,iA x.At,sA x.C]
structure ApiMethod where
  Name : List UInt8
  Params : List (List UInt8)
  Ret : List UInt8
  Static : Bool
  Abstract : Bool
  Locals : Int
  Stack : Int
  Code : List ApiIns
  Maps : List ApiMap
  Traps : List ApiTrap
def rApiMethod (x : ApiMethod) : List AV:=[sA x.Name,.isl 1 (List.map rStr x.Params),sA x.Ret,bA x.Static,bA x.Abstract,iA x.Locals,iA x.Stack,.isl 4 (List.map rApiIns x.Code),.isl 3 (List.map rApiMap x.Maps),.isl 4 (List.map rApiTrap x.Traps)]
structure ApiClass where
  Name : List UInt8
  Super : List UInt8
  Interface : Bool
  Impl : List (List UInt8)
  Fields : List ApiField
  Methods : List ApiMethod
def rApiClass (x : ApiClass) : List AV:=[sA x.Name,sA x.Super,bA x.Interface,.isl 1 (List.map rStr x.Impl),.isl 3 (List.map rApiField x.Fields),.isl 10 (List.map rApiMethod x.Methods)]
def class_May_2 (v1 : ApiField) : Option (Bool) :=
  (kind_Name v1.Name).bind fun v2=>(cond (v2 && (!(v1.Name == [36,105,110,105,116]))) ((kind_May v1.Type_).bind fun v3=>some v3) (some false)).bind fun v4=>some v4
theorem class_May_2_ok (v1 : ApiField) {r : Bool} (h : class_May_2 v1 = some r) : PureC Tryz.prog 95 [.agg [sA v1.Name,sA v1.Type_,bA v1.Static]] (bA r):=by
 refine pure_fn Tryz.func95 j0 (by kernel_rfl) j0 j0 ?_
 unfold class_May_2 at h
 refine rg j0<|u<|bx 0 3 j0 j0 j0 j0<|u<|asg j0<|r_nil ?_
 obtain ⟨v2,q1,h⟩:=bs h
 obtain ⟨v4,q5,h⟩:=bs h
 refine rg j0<|u<|fa ti57 j0 j0 j0<|u<|ld ti9 j0 j0<|u<|pc (kind_Name_ok v1.Name q1) j0 j0 j0<|u<|mv j0<|r_and (j:=3) 3 j0 j0 j0 j0 j0 gpn (fun hb2=>g j0 hb2<|fa ti57 j0 j0 j0<|g j0 hb2<|ld ti9 j0 j0<|g j0 hb2<|sne ti9 j0 j0<|r_nil (egA [7,8,9] 3 hb2 j0 j0 j0 j0)) andF<|u<|mv j0<|r_and (x:=v4) (j:=8) 3 j0 j0 j0 j0 j0 gpn (fun hb3=>by replace q5:=bT hb3 q5; obtain ⟨v3,q4,q5⟩:=bs q5; obtain rfl:=sm q5; exact g j0 hb3<|fa ti57 j0 j0 j0<|g j0 hb3<|ld ti9 j0 j0<|g j0 hb3<|pc (kind_May_ok v1.Type_ q4) j0 j0 j0<|r_nil (eg [12,13,14] 3 j0 j0 j0 j0)) (fun hb=>(sm (bF hb q5)).symm)<|u<|asg j0<|r_nil ?_
 refine sw_ret ?_
 obtain rfl:=sm h
 exact ⟨_,j0,[],ci j0,j0,j5,j0,j1⟩
def class_May_1 (v1 : ApiField) : (List UInt8) :=
  v1.Name
theorem class_May_1_ok (v1 : ApiField) {r : (List UInt8)} (h : class_May_1 v1 = r) : PureC Tryz.prog 94 [.agg [sA v1.Name,sA v1.Type_,bA v1.Static]] (sA r):=by
 refine pure_fn Tryz.func94 j0 (by kernel_rfl) j0 j0 ?_
 unfold class_May_1 at h
 refine rg j0<|u<|bx 0 3 j0 j0 j0 j0<|u<|asg j0<|r_nil ?_
 refine rg j0<|u<|fa ti57 j0 j0 j0<|u<|ld ti9 j0 j0<|u<|asg j0<|r_nil ?_
 refine sw_ret ?_
 obtain rfl:=h
 exact ⟨_,j0,[],ci j0,j0,j5,j0,j1⟩
def class_all_api_Field_1 (v1 : ApiField) (v2 : List UInt8) (v3 : List UInt8) (v4 : Bool) : Bool :=
  ((class_May_1 (ApiField.mk v2 v3 v4)) == (class_May_1 v1))
theorem class_all_api_Field_1_ok (v1 : ApiField) (v2 : List UInt8) (v3 : List UInt8) (v4 : Bool) {r : Bool} (h : class_all_api_Field_1 v1 v2 v3 v4 = r) : PureC Tryz.prog 123 [.agg [sA v1.Name,sA v1.Type_,bA v1.Static],.ipt 1 [[.fn (.func 94) [] []]] 0 0,.ipt 3 [[sA v2,sA v3,bA v4]] 0 0] (bA r):=by
 refine pure_fn Tryz.func123 j0 (by kernel_rfl) j0 j0 ?_
 unfold class_all_api_Field_1 at h
 refine rg j0<|u<|bx 0 3 j0 j0 j0 j0<|u<|asg j0<|r_nil ?_
 refine rd [(4,bA ((class_May_1 (ApiField.mk v2 v3 v4)) == (class_May_1 v1)))] [] [] [7,6,5,4,3,2,1,0] [(4,bA ((class_May_1 (ApiField.mk v2 v3 v4)) == (class_May_1 v1))),(11,bA ((class_May_1 (ApiField.mk v2 v3 v4)) == (class_May_1 v1))),(10,sA (class_May_1 v1)),(9,.agg [sA v1.Name,sA v1.Type_,bA v1.Static]),(8,.fn (.func 94) [] []),(7,sA (class_May_1 (ApiField.mk v2 v3 v4))),(6,.agg [sA v2,sA v3,bA v4]),(5,.fn (.func 94) [] [])] 0 (by kernel_rfl) (by kernel_rfl) j0 (by kernel_rfl) (dt0 ⟨(fun _=>pa j0 j0 j0 j0 (asg j0<|j4)),(fun _=>pa j0 j0 j0 j0 (seq ti9 j0 j0<|j4)),(fun _=>pa j0 j0 j0 j0 (pc (class_May_1_ok v1 j0) j0 j0 j0<|j4)),(fun _=>pa j0 j0 j0 j0 (ld ti57 j0 j0<|j4)),(fun _=>pa j0 j0 j0 j0 (ld ti113 j0 j0<|j4)),(fun _=>pa j0 j0 j0 j0 (pc (class_May_1_ok (ApiField.mk v2 v3 v4) j0) j0 j0 j0<|j4)),(fun _=>pa j0 j0 j0 j0 (ld ti57 j0 j0<|j4)),(fun _=>pa j0 j0 j0 j0 (ld ti113 j0 j0<|j4)),j5⟩ (by kernel_rfl) j0 ⟨[],ce j0 j0<|cn,j0,j5,j0,j1⟩) ?_
 refine sw_ret ?_
 obtain rfl:=h
 exact ⟨_,j0,[],ci j0,j0,j5,j0,j1⟩
def slices_IndexFunc_api_Field_api_Field_k2 : Option (Int) :=
  some (-1)
def slices_IndexFunc_api_Field_api_Field_l1 (v1 : List ApiField) (v2 : List UInt8) (v3 : List UInt8) (v4 : Bool) (v7 : Int) : Option (Sum (Int) (Sum (Unit) (Int))) :=
  cond (decide (v7 < (List.length v1 : Int))) ((idx v1 v7).bind fun v8=>cond (class_all_api_Field_1 v8 v2 v3 v4) (some (.inr (.inr v7))) (some (.inl (IntKind.i64.wrap (v7 + 1))))) (some (.inr (.inl ())))
def slices_IndexFunc_api_Field_api_Field (v1 : List ApiField) (v2 : List UInt8) (v3 : List UInt8) (v4 : Bool) : Option (Int) :=
  (loopP (fun z=>slices_IndexFunc_api_Field_api_Field_l1 v1 v2 v3 v4 z) 0).bind fun o=>leave o (fun b=>slices_IndexFunc_api_Field_api_Field_k2) some
theorem slices_IndexFunc_api_Field_api_Field_ok (v1 : List ApiField) (v2 : List UInt8) (v3 : List UInt8) (v4 : Bool) {r : Int} (h : slices_IndexFunc_api_Field_api_Field v1 v2 v3 v4 = some r) : PureC Tryz.prog 156 [.isl 3 (List.map rApiField v1),.fn (.func 123) [] [.ipt 1 [[.fn (.func 94) [] []]] 0 0,.ipt 3 [[sA v2,sA v3,bA v4]] 0 0]] (iA r):=by
 refine pure_fn Tryz.func156 j0 (by kernel_rfl) j0 j0 ?_
 unfold slices_IndexFunc_api_Field_api_Field at h
 refine rg j0<|u<|asg j0<|r_nil ?_
 refine sw_seq ?_
 refine rg j0<|u<|mv j0<|u<|lnI ti39 j0 j0<|u<|mv j0<|r_nil ?_
 obtain ⟨o,ho,h⟩:=bs h
 refine sw_lpl (X:=Int) (B:=Unit) (R:=Int) (fun z=>[(0,.isl 3 (List.map rApiField v1)),(1,.fn (.func 123) [] [.ipt 1 [[.fn (.func 94) [] []]] 0 0,.ipt 3 [[sA v2,sA v3,bA v4]] 0 0]),(7,iA (List.length v1 : Int)),(8,iA z)]) (fun z=>[]) (fun b=>[]) (fun b=>[]) (fun r env st=>PostF Tryz.prog Tryz.f156 0 (iA r) [] env st) ho ⟨[],ce j0 j0<|ce j0 j0<|ce j0 j0<|ce j0 j0<|cn,j0,j5,j0,j1⟩ ?_ ?_ ?_
 ·
  rintro v7 r h
  replace h : slices_IndexFunc_api_Field_api_Field_l1 v1 v2 v3 v4 v7 = some r:=h
  unfold slices_IndexFunc_api_Field_api_Field_l1 at h
  refine rg j0<|u<|lss ti3 j0 j0<|r_nil ?_
  refine sw_seq ?_
  refine sw_cond j0 (fun hc4=>?_) (fun hc4=>?_)
  ·
   replace h:=bT hc4 h
   refine sw_skip ?_
   refine sw_seq ?_
   refine sw_block ?_
   refine rg j0<|u<|mv j0<|u<|asg j0<|r_nil ?_
   obtain ⟨v8,q5,h⟩:=bs h
   refine rg j0<|u<|mv j0<|u<|mv j0<|u<|mv j0<|u<|ixI ti39 j0 ti57 j0 j0 j0 q5<|u<|ldI ti57 j0 (idx_some q5).2.2 j0<|u<|pc (class_all_api_Field_1_ok v8 v2 v3 v4 j0) j0 j0 j0<|r_nil ?_
   refine sw_cond j0 (fun hc6=>?_) (fun hc6=>?_)
   ·
    replace h:=bT hc6 h
    refine rg j0<|u<|mv j0<|u<|asg j0<|r_nil ?_
    refine sw_ret ?_
    obtain rfl:=sm h
    exact ⟨_,j0,_,j0,[],ci j0,j0,j5,j0,j1⟩
   ·
    replace h:=bF hc6 h
    refine sw_skip ?_
    refine rl j0<|u<|add ti3 j0 j0<|u<|mv j0<|r_nil ?_
    obtain rfl:=sm h
    exact ⟨_,j0,[],ce j0 j0<|ce j0 j0<|ce j0 j0<|ce j0 j0<|cn,j0,j5,j0,j1⟩
  ·
   replace h:=bF hc4 h
   refine sw_exit ?_
   obtain rfl:=sm h
   exact ⟨j0,_,j0,[],cn,j0,j5,j0,j1⟩
 ·
  rintro ⟨⟩ rfl
  replace h : slices_IndexFunc_api_Field_api_Field_k2 = some r:=h
  unfold slices_IndexFunc_api_Field_api_Field_k2 at h
  refine ow_intro ?_
  refine rg j0<|u<|asg j0<|r_nil ?_
  refine sw_ret ?_
  obtain rfl:=sm h
  exact ⟨_,j0,[],ci j0,j0,j5,j0,j1⟩
 ·
  rintro r' rfl env st hp
  obtain rfl:=sm h
  exact hp
def slices_ContainsFunc_api_Field_api_Field (v1 : List ApiField) (v2 : List UInt8) (v3 : List UInt8) (v4 : Bool) : Option (Bool) :=
  (slices_IndexFunc_api_Field_api_Field v1 v2 v3 v4).bind fun v5=>some (decide (0 ≤ v5))
theorem slices_ContainsFunc_api_Field_api_Field_ok (v1 : List ApiField) (v2 : List UInt8) (v3 : List UInt8) (v4 : Bool) {r : Bool} (h : slices_ContainsFunc_api_Field_api_Field v1 v2 v3 v4 = some r) : PureC Tryz.prog 122 [.isl 3 (List.map rApiField v1),.fn (.func 123) [] [.ipt 1 [[.fn (.func 94) [] []]] 0 0,.ipt 3 [[sA v2,sA v3,bA v4]] 0 0]] (bA r):=by
 refine pure_fn Tryz.func122 j0 (by kernel_rfl) j0 j0 ?_
 unfold slices_ContainsFunc_api_Field_api_Field at h
 refine rg j0<|u<|asg j0<|r_nil ?_
 obtain ⟨v5,q1,h⟩:=bs h
 refine rg j0<|u<|mv j0<|u<|mv j0<|u<|pc (slices_IndexFunc_api_Field_api_Field_ok v1 v2 v3 v4 q1) j0 j0 j0<|u<|geq ti3 j0 j0<|u<|asg j0<|r_nil ?_
 refine sw_ret ?_
 obtain rfl:=sm h
 exact ⟨_,j0,[],ci j0,j0,j5,j0,j1⟩
def class_all_api_Field_k2 (v1 : List ApiField) (v2 : Int) : Option (Bool) :=
  some (decide ((List.length v1 : Int) ≤ v2))
def class_all_api_Field_l1 (v1 : List ApiField) (v9 : Int) : Option (Sum (Int) (Sum (Unit) (Bool))) :=
  cond (decide (v9 < (List.length v1 : Int))) ((idx v1 v9).bind fun v10=>(class_May_2 v10).bind fun v11=>(cond (!v11) (some true) ((cutP v1 0 v9).bind fun v12=>(slices_ContainsFunc_api_Field_api_Field v12 v10.Name v10.Type_ v10.Static).bind fun v13=>some v13)).bind fun v14=>cond v14 (some (.inr (.inr false))) (some (.inl (IntKind.i64.wrap (v9 + 1))))) (some (.inr (.inl ())))
def class_all_api_Field (v1 : List ApiField) (v2 : Int) : Option (Bool) :=
  (loopP (fun z=>class_all_api_Field_l1 v1 z) 0).bind fun o=>leave o (fun b=>class_all_api_Field_k2 v1 v2) some
theorem class_all_api_Field_ok (v1 : List ApiField) (v2 : Int) {r : Bool} (h : class_all_api_Field v1 v2 = some r) : PureC Tryz.prog 93 [.isl 3 (List.map rApiField v1),iA v2,.fn (.func 94) [] [],.fn (.func 95) [] []] (bA r):=by
 refine pure_fn Tryz.func93 j0 (by kernel_rfl) j0 j0 ?_
 unfold class_all_api_Field at h
 refine rg j0<|u<|bx 0 1 j0 j0 j0 j0<|u<|asg j0<|r_nil ?_
 refine sw_seq ?_
 refine rg j0<|u<|mv j0<|u<|lnI ti39 j0 j0<|u<|mv j0<|r_nil ?_
 obtain ⟨o,ho,h⟩:=bs h
 refine sw_lpl (X:=Int) (B:=Unit) (R:=Bool) (fun z=>[(0,.isl 3 (List.map rApiField v1)),(1,iA v2),(3,.fn (.func 95) [] []),(6,.mpt 0 0 0),(11,.isl 3 (List.map rApiField v1)),(12,iA (List.length v1 : Int)),(13,iA z)]) (fun z=>[some (1,[[.fn (.func 94) [] []]])]) (fun b=>[(0,.isl 3 (List.map rApiField v1)),(1,iA v2)]) (fun b=>[]) (fun r env st=>PostF Tryz.prog Tryz.f93 0 (bA r) [] env st) ho ⟨[.old 0],ce j0 j0<|ce j0 j0<|ce j0 j0<|cv j0 (.mpt j0)<|ce j0 j0<|ce j0 j0<|ce j0 j0<|cn,j0,⟨⟨_,j0,rsOne ⟨ci j0,j5⟩⟩,j5⟩,j0,j1⟩ ?_ ?_ ?_
 ·
  rintro v9 r h
  replace h : class_all_api_Field_l1 v1 v9 = some r:=h
  unfold class_all_api_Field_l1 at h
  refine rg j0<|u<|lss ti3 j0 j0<|r_nil ?_
  refine sw_seq ?_
  refine sw_cond j0 (fun hc9=>?_) (fun hc9=>?_)
  ·
   replace h:=bT hc9 h
   refine sw_skip ?_
   refine sw_seq ?_
   refine sw_block ?_
   obtain ⟨v10,q10,h⟩:=bs h
   refine rg j0<|u<|mv j0<|u<|ixI ti39 j0 ti57 j0 j0 j0 q10<|u<|ldI ti57 j0 (idx_some q10).2.2 j0<|u<|al 1 ti57 j0<|u<|asg j0<|u<|sto ti57 j0 j0 j0<|r_nil ?_
   obtain ⟨v11,q11,h⟩:=bs h
   obtain ⟨v14,q15,h⟩:=bs h
   refine rg j0<|u<|mv j0<|u<|ld ti57 j0 j0<|u<|pc (class_May_2_ok v10 q11) j0 j0 j0<|u<|nt j0<|u<|mv j0<|r_or (x:=v14) (j:=4) 5 j0 j0 j0 j0 j0 gpn (fun hb12=>by replace q15:=bF hb12 q15; obtain ⟨v12,q13,q15⟩:=bs q15; obtain ⟨v13,q14,q15⟩:=bs q15; obtain rfl:=sm q15; exact g j0 hb12<|mv j0<|g j0 hb12<|mv j0<|g j0 hb12<|slI (a:=0) (b:=v9) ti39 j0 ti57 j0 j0 j0 (bnd_hi j0 q13) q13<|g j0 hb12<|mf j0 j0<|g j0 hb12<|pcs (slices_ContainsFunc_api_Field_api_Field_ok v12 v10.Name v10.Type_ v10.Static q14) j0 j0 (.cons (si j0) (.cons (sealFn j5 ⟨(sealBox j0 ⟨(si j0),j5⟩),(sealBox j0 ⟨(si j0),(si j0),(si j0),j5⟩),j5⟩) .nil)) plainB<|r_nil (eg [23,24,25,26,27] 5 j0 j0 j0 j0)) (fun hb=>(sm (bT hb q15)).symm)<|r_nil ?_
   refine sw_cond j0 (fun hc16=>?_) (fun hc16=>?_)
   ·
    replace h:=bT hc16 h
    refine rg j0<|u<|asg j0<|r_nil ?_
    refine sw_ret ?_
    obtain rfl:=sm h
    exact ⟨_,j0,_,j0,[],ci j0,j0,j5,j0,j1⟩
   ·
    replace h:=bF hc16 h
    refine sw_skip ?_
    refine rl j0<|u<|add ti3 j0 j0<|u<|mv j0<|r_nil ?_
    obtain rfl:=sm h
    exact ⟨_,j0,[.old 0],ce j0 j0<|ce j0 j0<|ce j0 j0<|cv j0 (.mpt j0)<|ce j0 j0<|ce j0 j0<|ce j0 j0<|cn,j0,⟨⟨_,j0,rsOne ⟨ci j0,j5⟩⟩,j5⟩,j0,j1⟩
  ·
   replace h:=bF hc9 h
   refine sw_exit ?_
   obtain rfl:=sm h
   exact ⟨j0,_,j0,[],ce j0 j0<|ce j0 j0<|cn,j0,j5,j0,j1⟩
 ·
  rintro ⟨⟩ rfl
  replace h : class_all_api_Field_k2 v1 v2 = some r:=h
  unfold class_all_api_Field_k2 at h
  refine ow_intro ?_
  refine rg j0<|u<|mv j0<|u<|lnI ti39 j0 j0<|u<|mv j0<|u<|leq ti3 j0 j0<|u<|asg j0<|r_nil ?_
  refine sw_ret ?_
  obtain rfl:=sm h
  exact ⟨_,j0,[],ci j0,j0,j5,j0,j1⟩
 ·
  rintro r' rfl env st hp
  obtain rfl:=sm h
  exact hp
def class_types_1 (v1 : List UInt8) : Option (Bool) :=
  (kind_May v1).bind fun v2=>some (!v2)
theorem class_types_1_ok (v1 : List UInt8) {r : Bool} (h : class_types_1 v1 = some r) : PureC Tryz.prog 182 [sA v1,.ipt 1 [[.fn (.func 97) [] []]] 0 0] (bA r):=by
 refine pure_fn Tryz.func182 j0 (by kernel_rfl) j0 j0 ?_
 unfold class_types_1 at h
 refine rg j0<|u<|asg j0<|r_nil ?_
 obtain ⟨v2,q1,h⟩:=bs h
 refine rg j0<|u<|ld ti77 j0 j0<|u<|mv j0<|u<|pc (kind_May_ok v1 q1) j0 j0 j0<|u<|nt j0<|u<|asg j0<|r_nil ?_
 refine sw_ret ?_
 obtain rfl:=sm h
 exact ⟨_,j0,[],ci j0,j0,j5,j0,j1⟩
def slices_IndexFunc_string_string_k2 : Option (Int) :=
  some (-1)
def slices_IndexFunc_string_string_l1 (v1 : List (List UInt8)) (v5 : Int) : Option (Sum (Int) (Sum (Unit) (Int))) :=
  cond (decide (v5 < (List.length v1 : Int))) ((idx v1 v5).bind fun v6=>(class_types_1 v6).bind fun v7=>cond v7 (some (.inr (.inr v5))) (some (.inl (IntKind.i64.wrap (v5 + 1))))) (some (.inr (.inl ())))
def slices_IndexFunc_string_string (v1 : List (List UInt8)) : Option (Int) :=
  (loopP (fun z=>slices_IndexFunc_string_string_l1 v1 z) 0).bind fun o=>leave o (fun b=>slices_IndexFunc_string_string_k2) some
theorem slices_IndexFunc_string_string_ok (v1 : List (List UInt8)) {r : Int} (h : slices_IndexFunc_string_string v1 = some r) : PureC Tryz.prog 105 [.isl 1 (List.map rStr v1),.fn (.func 182) [] [.ipt 1 [[.fn (.func 97) [] []]] 0 0]] (iA r):=by
 refine pure_fn Tryz.func105 j0 (by kernel_rfl) j0 j0 ?_
 unfold slices_IndexFunc_string_string at h
 refine rg j0<|u<|asg j0<|r_nil ?_
 refine sw_seq ?_
 refine rg j0<|u<|mv j0<|u<|lnI ti32 j0 j0<|u<|mv j0<|r_nil ?_
 obtain ⟨o,ho,h⟩:=bs h
 refine sw_lpl (X:=Int) (B:=Unit) (R:=Int) (fun z=>[(0,.isl 1 (List.map rStr v1)),(1,.fn (.func 182) [] [.ipt 1 [[.fn (.func 97) [] []]] 0 0]),(7,iA (List.length v1 : Int)),(8,iA z)]) (fun z=>[]) (fun b=>[]) (fun b=>[]) (fun r env st=>PostF Tryz.prog Tryz.f105 0 (iA r) [] env st) ho ⟨[],ce j0 j0<|ce j0 j0<|ce j0 j0<|ce j0 j0<|cn,j0,j5,j0,j1⟩ ?_ ?_ ?_
 ·
  rintro v5 r h
  replace h : slices_IndexFunc_string_string_l1 v1 v5 = some r:=h
  unfold slices_IndexFunc_string_string_l1 at h
  refine rg j0<|u<|lss ti3 j0 j0<|r_nil ?_
  refine sw_seq ?_
  refine sw_cond j0 (fun hc5=>?_) (fun hc5=>?_)
  ·
   replace h:=bT hc5 h
   refine sw_skip ?_
   refine sw_seq ?_
   refine sw_block ?_
   refine rg j0<|u<|mv j0<|u<|asg j0<|r_nil ?_
   obtain ⟨v6,q6,h⟩:=bs h
   obtain ⟨v7,q7,h⟩:=bs h
   refine rg j0<|u<|mv j0<|u<|mv j0<|u<|mv j0<|u<|ixI ti32 j0 ti9 j0 j0 j0 q6<|u<|ldI ti9 j0 (idx_some q6).2.2 j0<|u<|pc (class_types_1_ok v6 q7) j0 j0 j0<|r_nil ?_
   refine sw_cond j0 (fun hc8=>?_) (fun hc8=>?_)
   ·
    replace h:=bT hc8 h
    refine rg j0<|u<|mv j0<|u<|asg j0<|r_nil ?_
    refine sw_ret ?_
    obtain rfl:=sm h
    exact ⟨_,j0,_,j0,[],ci j0,j0,j5,j0,j1⟩
   ·
    replace h:=bF hc8 h
    refine sw_skip ?_
    refine rl j0<|u<|add ti3 j0 j0<|u<|mv j0<|r_nil ?_
    obtain rfl:=sm h
    exact ⟨_,j0,[],ce j0 j0<|ce j0 j0<|ce j0 j0<|ce j0 j0<|cn,j0,j5,j0,j1⟩
  ·
   replace h:=bF hc5 h
   refine sw_exit ?_
   obtain rfl:=sm h
   exact ⟨j0,_,j0,[],cn,j0,j5,j0,j1⟩
 ·
  rintro ⟨⟩ rfl
  replace h : slices_IndexFunc_string_string_k2 = some r:=h
  unfold slices_IndexFunc_string_string_k2 at h
  refine ow_intro ?_
  refine rg j0<|u<|asg j0<|r_nil ?_
  refine sw_ret ?_
  obtain rfl:=sm h
  exact ⟨_,j0,[],ci j0,j0,j5,j0,j1⟩
 ·
  rintro r' rfl env st hp
  obtain rfl:=sm h
  exact hp
def slices_ContainsFunc_string_string (v1 : List (List UInt8)) : Option (Bool) :=
  (slices_IndexFunc_string_string v1).bind fun v2=>some (decide (0 ≤ v2))
theorem slices_ContainsFunc_string_string_ok (v1 : List (List UInt8)) {r : Bool} (h : slices_ContainsFunc_string_string v1 = some r) : PureC Tryz.prog 59 [.isl 1 (List.map rStr v1),.fn (.func 182) [] [.ipt 1 [[.fn (.func 97) [] []]] 0 0]] (bA r):=by
 refine pure_fn Tryz.func59 j0 (by kernel_rfl) j0 j0 ?_
 unfold slices_ContainsFunc_string_string at h
 refine rg j0<|u<|asg j0<|r_nil ?_
 obtain ⟨v2,q1,h⟩:=bs h
 refine rg j0<|u<|mv j0<|u<|mv j0<|u<|pc (slices_IndexFunc_string_string_ok v1 q1) j0 j0 j0<|u<|geq ti3 j0 j0<|u<|asg j0<|r_nil ?_
 refine sw_ret ?_
 obtain rfl:=sm h
 exact ⟨_,j0,[],ci j0,j0,j5,j0,j1⟩
def class_types (v1 : List (List UInt8)) : Option (Bool) :=
  (slices_ContainsFunc_string_string v1).bind fun v2=>some (!v2)
theorem class_types_ok (v1 : List (List UInt8)) {r : Bool} (h : class_types v1 = some r) : PureC Tryz.prog 129 [.isl 1 (List.map rStr v1),.fn (.func 97) [] []] (bA r):=by
 refine pure_fn Tryz.func129 j0 (by kernel_rfl) j0 j0 ?_
 unfold class_types at h
 refine rg j0<|u<|bx 0 1 j0 j0 j0 j0<|u<|asg j0<|r_nil ?_
 obtain ⟨v2,q1,h⟩:=bs h
 refine rg j0<|u<|mv j0<|u<|mf j0 j0<|u<|pcs (slices_ContainsFunc_string_string_ok v1 q1) j0 j0 (.cons (si j0) (.cons (sealFn j5 ⟨(sealBox j0 ⟨(si j0),j5⟩),j5⟩) .nil)) plainB<|u<|nt j0<|u<|asg j0<|r_nil ?_
 refine sw_ret ?_
 obtain rfl:=sm h
 exact ⟨_,j0,[],ci j0,j0,j5,j0,j1⟩
def kind_Ret (v1 : List UInt8) : Option (Bool) :=
  (cond (v1 == [86]) (some true) ((kind_May v1).bind fun v2=>some v2)).bind fun v3=>some v3
theorem kind_Ret_ok (v1 : List UInt8) {r : Bool} (h : kind_Ret v1 = some r) : PureC Tryz.prog 130 [sA v1] (bA r):=by
 refine pure_fn Tryz.func130 j0 (by kernel_rfl) j0 j0 ?_
 unfold kind_Ret at h
 refine rg j0<|u<|asg j0<|r_nil ?_
 obtain ⟨v3,q3,h⟩:=bs h
 refine rg j0<|u<|mv j0<|u<|seq ti9 j0 j0<|u<|mv j0<|r_or (x:=v3) (j:=2) 2 j0 j0 j0 j0 j0 gpn (fun hb1=>by replace q3:=bF hb1 q3; obtain ⟨v2,q2,q3⟩:=bs q3; obtain rfl:=sm q3; exact g j0 hb1<|mv j0<|g j0 hb1<|pc (kind_May_ok v1 q2) j0 j0 j0<|r_nil (eg [6,7] 2 j0 j0 j0 j0)) (fun hb=>(sm (bT hb q3)).symm)<|u<|asg j0<|r_nil ?_
 refine sw_ret ?_
 obtain rfl:=sm h
 exact ⟨_,j0,[],ci j0,j0,j5,j0,j1⟩
def class_empty (v1 : ApiMethod) : Bool :=
  (((((!v1.Static) && (!(v1.Name == [36,105,110,105,116]))) && (v1.Locals == (0 : Int))) && (v1.Stack == (0 : Int))) && ((IntKind.i64.wrap ((IntKind.i64.wrap ((List.length v1.Code : Int) + (List.length v1.Maps : Int))) + (List.length v1.Traps : Int))) == (0 : Int)))
theorem class_empty_ok (v1 : ApiMethod) {r : Bool} (h : class_empty v1 = r) : PureC Tryz.prog 131 [.agg [sA v1.Name,.isl 1 (List.map rStr v1.Params),sA v1.Ret,bA v1.Static,bA v1.Abstract,iA v1.Locals,iA v1.Stack,.isl 4 (List.map rApiIns v1.Code),.isl 3 (List.map rApiMap v1.Maps),.isl 4 (List.map rApiTrap v1.Traps)]] (bA r):=by
 refine pure_fn Tryz.func131 j0 (by kernel_rfl) j0 j0 ?_
 unfold class_empty at h
 refine rg j0<|u<|bx 0 10 j0 j0 j0 j0<|u<|asg j0<|r_nil ?_
 refine rg j0<|u<|fa ti62 j0 j0 j0<|u<|ld ti4 j0 j0<|u<|nt j0<|u<|mv j0<|r_and (j:=3) 3 j0 j0 j0 j0 j0 gpn (fun hb1=>g j0 hb1<|fa ti62 j0 j0 j0<|g j0 hb1<|ld ti9 j0 j0<|g j0 hb1<|sne ti9 j0 j0<|r_nil (egA [7,8,9] 3 hb1 j0 j0 j0 j0)) andF<|u<|mv j0<|r_and (j:=8) 3 j0 j0 j0 j0 j0 gpn (fun hb2=>g j0 hb2<|fa ti62 j0 j0 j0<|g j0 hb2<|ld ti3 j0 j0<|g j0 hb2<|eql ti3 j0 j0<|r_nil (egA [12,13,14] 3 hb2 j0 j0 j0 j0)) andF<|u<|mv j0<|r_and (j:=13) 3 j0 j0 j0 j0 j0 gpn (fun hb3=>g j0 hb3<|fa ti62 j0 j0 j0<|g j0 hb3<|ld ti3 j0 j0<|g j0 hb3<|eql ti3 j0 j0<|r_nil (egA [17,18,19] 3 hb3 j0 j0 j0 j0)) andF<|u<|mv j0<|r_and (j:=18) 12 j0 j0 j0 j0 j0 gpn (fun hb4=>g j0 hb4<|fa ti62 j0 j0 j0<|g j0 hb4<|ld ti58 j0 j0<|g j0 hb4<|lnI ti58 j0 j0<|g j0 hb4<|fa ti62 j0 j0 j0<|g j0 hb4<|ld ti59 j0 j0<|g j0 hb4<|lnI ti59 j0 j0<|g j0 hb4<|add ti3 j0 j0<|g j0 hb4<|fa ti62 j0 j0 j0<|g j0 hb4<|ld ti60 j0 j0<|g j0 hb4<|lnI ti60 j0 j0<|g j0 hb4<|add ti3 j0 j0<|g j0 hb4<|eql ti3 j0 j0<|r_nil (egA [22,23,24,25,26,27,28,29,30,31,32,33] 12 hb4 j0 j0 j0 j0)) andF<|u<|asg j0<|r_nil ?_
 refine sw_ret ?_
 obtain rfl:=h
 exact ⟨_,j0,[],ci j0,j0,j5,j0,j1⟩
def class_args (v1 : ApiMethod) : Int :=
  cond v1.Static ((List.length v1.Params : Int)) ((IntKind.i64.wrap ((List.length v1.Params : Int) + 1)))
theorem class_args_ok (v1 : ApiMethod) {r : Int} (h : class_args v1 = r) : PureC Tryz.prog 133 [.agg [sA v1.Name,.isl 1 (List.map rStr v1.Params),sA v1.Ret,bA v1.Static,bA v1.Abstract,iA v1.Locals,iA v1.Stack,.isl 4 (List.map rApiIns v1.Code),.isl 3 (List.map rApiMap v1.Maps),.isl 4 (List.map rApiTrap v1.Traps)]] (iA r):=by
 refine pure_fn Tryz.func133 j0 (by kernel_rfl) j0 j0 ?_
 unfold class_args at h
 refine rg j0<|u<|bx 0 10 j0 j0 j0 j0<|u<|asg j0<|r_nil ?_
 refine sw_seq ?_
 refine rg j0<|u<|fa ti62 j0 j0 j0<|u<|ld ti4 j0 j0<|r_nil ?_
 refine sw_cond j0 (fun hc1=>?_) (fun hc1=>?_)
 ·
  replace h:=bT hc1 h
  refine rg j0<|u<|fa ti62 j0 j0 j0<|u<|ld ti32 j0 j0<|u<|lnI ti32 j0 j0<|u<|asg j0<|r_nil ?_
  refine sw_ret ?_
  obtain rfl:=h
  exact ⟨_,j0,[],ci j0,j0,j5,j0,j1⟩
 ·
  replace h:=bF hc1 h
  refine sw_skip ?_
  refine rg j0<|u<|fa ti62 j0 j0 j0<|u<|ld ti32 j0 j0<|u<|lnI ti32 j0 j0<|u<|add ti3 j0 j0<|u<|asg j0<|r_nil ?_
  refine sw_ret ?_
  obtain rfl:=h
  exact ⟨_,j0,[],ci j0,j0,j5,j0,j1⟩
def class_between (v1 : Int) (v2 : Int) (v3 : Int) : Bool :=
  ((decide (v2 ≤ v1)) && (decide (v1 ≤ v3)))
theorem class_between_ok (v1 : Int) (v2 : Int) (v3 : Int) {r : Bool} (h : class_between v1 v2 v3 = r) : PureC Tryz.prog 132 [iA v1,iA v2,iA v3] (bA r):=by
 refine pure_fn Tryz.func132 j0 (by kernel_rfl) j0 j0 ?_
 unfold class_between at h
 refine rg j0<|u<|asg j0<|r_nil ?_
 refine rg j0<|u<|mv j0<|u<|mv j0<|u<|geq ti3 j0 j0<|u<|mv j0<|r_and (j:=3) 3 j0 j0 j0 j0 j0 gpn (fun hb1=>g j0 hb1<|mv j0<|g j0 hb1<|mv j0<|g j0 hb1<|leq ti3 j0 j0<|r_nil (egA [11,12,13] 3 hb1 j0 j0 j0 j0)) andF<|u<|asg j0<|r_nil ?_
 refine sw_ret ?_
 obtain rfl:=h
 exact ⟨_,j0,[],ci j0,j0,j5,j0,j1⟩
def class_instructions_1 (v1 : ApiIns) (v2 : Int) : Option (Bool) :=
  (op_May v1).bind fun v3=>some ((!v3) || ((op_Jumps v1.Op) && (decide (v2 ≤ v1.A))))
theorem class_instructions_1_ok (v1 : ApiIns) (v2 : Int) {r : Bool} (h : class_instructions_1 v1 v2 = some r) : PureC Tryz.prog 185 [.agg [iA v1.Op,iA v1.A,sA v1.C,sA v1.M],.ipt 1 [[iA v2]] 0 0] (bA r):=by
 refine pure_fn Tryz.func185 j0 (by kernel_rfl) j0 j0 ?_
 unfold class_instructions_1 at h
 refine rg j0<|u<|bx 0 4 j0 j0 j0 j0<|u<|asg j0<|r_nil ?_
 obtain ⟨v3,q1,h⟩:=bs h
 refine rg j0<|u<|ld ti66 j0 j0<|u<|pc (op_May_ok v1 q1) j0 j0 j0<|u<|nt j0<|u<|mv j0<|r_or (j:=3) 9 j0 j0 j0 j0 j0 gpn (fun hb2=>g j0 hb2<|fa ti66 j0 j0 j0<|g j0 hb2<|ld ti3 j0 j0<|g j0 hb2<|pc (op_Jumps_ok v1.Op j0) j0 j0 j0<|g j0 hb2<|mv j0<|r_and (j:=7) 4 j0 j0 j0 j0 j0 (gps j0 j0 hb2) (fun hb3=>g j0 hb3<|fa ti66 j0 j0 j0<|g j0 hb3<|ld ti3 j0 j0<|g j0 hb3<|ld ti3 j0 j0<|g j0 hb3<|geq ti3 j0 j0<|r_nil (egA [12,13,14,15] 4 hb3 j0 j0 j0 j0)) andF<|r_nil (egO [8,9,10,11,12,13,14,15,16] 5 hb2 j0 j0 j0 j0)) orT<|u<|asg j0<|r_nil ?_
 refine sw_ret ?_
 obtain rfl:=sm h
 exact ⟨_,j0,[],ci j0,j0,j5,j0,j1⟩
def slices_IndexFunc_api_Ins_api_Ins_k2 : Option (Int) :=
  some (-1)
def slices_IndexFunc_api_Ins_api_Ins_l1 (v1 : List ApiIns) (v2 : Int) (v6 : Int) : Option (Sum (Int) (Sum (Unit) (Int))) :=
  cond (decide (v6 < (List.length v1 : Int))) ((idx v1 v6).bind fun v7=>(class_instructions_1 v7 v2).bind fun v8=>cond v8 (some (.inr (.inr v6))) (some (.inl (IntKind.i64.wrap (v6 + 1))))) (some (.inr (.inl ())))
def slices_IndexFunc_api_Ins_api_Ins (v1 : List ApiIns) (v2 : Int) : Option (Int) :=
  (loopP (fun z=>slices_IndexFunc_api_Ins_api_Ins_l1 v1 v2 z) 0).bind fun o=>leave o (fun b=>slices_IndexFunc_api_Ins_api_Ins_k2) some
theorem slices_IndexFunc_api_Ins_api_Ins_ok (v1 : List ApiIns) (v2 : Int) {r : Int} (h : slices_IndexFunc_api_Ins_api_Ins v1 v2 = some r) : PureC Tryz.prog 219 [.isl 4 (List.map rApiIns v1),.fn (.func 185) [] [.ipt 1 [[iA v2]] 0 0]] (iA r):=by
 refine pure_fn Tryz.func219 j0 (by kernel_rfl) j0 j0 ?_
 unfold slices_IndexFunc_api_Ins_api_Ins at h
 refine rg j0<|u<|asg j0<|r_nil ?_
 refine sw_seq ?_
 refine rg j0<|u<|mv j0<|u<|lnI ti58 j0 j0<|u<|mv j0<|r_nil ?_
 obtain ⟨o,ho,h⟩:=bs h
 refine sw_lpl (X:=Int) (B:=Unit) (R:=Int) (fun z=>[(0,.isl 4 (List.map rApiIns v1)),(1,.fn (.func 185) [] [.ipt 1 [[iA v2]] 0 0]),(7,iA (List.length v1 : Int)),(8,iA z)]) (fun z=>[]) (fun b=>[]) (fun b=>[]) (fun r env st=>PostF Tryz.prog Tryz.f219 0 (iA r) [] env st) ho ⟨[],ce j0 j0<|ce j0 j0<|ce j0 j0<|ce j0 j0<|cn,j0,j5,j0,j1⟩ ?_ ?_ ?_
 ·
  rintro v6 r h
  replace h : slices_IndexFunc_api_Ins_api_Ins_l1 v1 v2 v6 = some r:=h
  unfold slices_IndexFunc_api_Ins_api_Ins_l1 at h
  refine rg j0<|u<|lss ti3 j0 j0<|r_nil ?_
  refine sw_seq ?_
  refine sw_cond j0 (fun hc5=>?_) (fun hc5=>?_)
  ·
   replace h:=bT hc5 h
   refine sw_skip ?_
   refine sw_seq ?_
   refine sw_block ?_
   refine rg j0<|u<|mv j0<|u<|asg j0<|r_nil ?_
   obtain ⟨v7,q6,h⟩:=bs h
   obtain ⟨v8,q7,h⟩:=bs h
   refine rg j0<|u<|mv j0<|u<|mv j0<|u<|mv j0<|u<|ixI ti58 j0 ti66 j0 j0 j0 q6<|u<|ldI ti66 j0 (idx_some q6).2.2 j0<|u<|pc (class_instructions_1_ok v7 v2 q7) j0 j0 j0<|r_nil ?_
   refine sw_cond j0 (fun hc8=>?_) (fun hc8=>?_)
   ·
    replace h:=bT hc8 h
    refine rg j0<|u<|mv j0<|u<|asg j0<|r_nil ?_
    refine sw_ret ?_
    obtain rfl:=sm h
    exact ⟨_,j0,_,j0,[],ci j0,j0,j5,j0,j1⟩
   ·
    replace h:=bF hc8 h
    refine sw_skip ?_
    refine rl j0<|u<|add ti3 j0 j0<|u<|mv j0<|r_nil ?_
    obtain rfl:=sm h
    exact ⟨_,j0,[],ce j0 j0<|ce j0 j0<|ce j0 j0<|ce j0 j0<|cn,j0,j5,j0,j1⟩
  ·
   replace h:=bF hc5 h
   refine sw_exit ?_
   obtain rfl:=sm h
   exact ⟨j0,_,j0,[],cn,j0,j5,j0,j1⟩
 ·
  rintro ⟨⟩ rfl
  replace h : slices_IndexFunc_api_Ins_api_Ins_k2 = some r:=h
  unfold slices_IndexFunc_api_Ins_api_Ins_k2 at h
  refine ow_intro ?_
  refine rg j0<|u<|asg j0<|r_nil ?_
  refine sw_ret ?_
  obtain rfl:=sm h
  exact ⟨_,j0,[],ci j0,j0,j5,j0,j1⟩
 ·
  rintro r' rfl env st hp
  obtain rfl:=sm h
  exact hp
def slices_ContainsFunc_api_Ins_api_Ins (v1 : List ApiIns) (v2 : Int) : Option (Bool) :=
  (slices_IndexFunc_api_Ins_api_Ins v1 v2).bind fun v3=>some (decide (0 ≤ v3))
theorem slices_ContainsFunc_api_Ins_api_Ins_ok (v1 : List ApiIns) (v2 : Int) {r : Bool} (h : slices_ContainsFunc_api_Ins_api_Ins v1 v2 = some r) : PureC Tryz.prog 184 [.isl 4 (List.map rApiIns v1),.fn (.func 185) [] [.ipt 1 [[iA v2]] 0 0]] (bA r):=by
 refine pure_fn Tryz.func184 j0 (by kernel_rfl) j0 j0 ?_
 unfold slices_ContainsFunc_api_Ins_api_Ins at h
 refine rg j0<|u<|asg j0<|r_nil ?_
 obtain ⟨v3,q1,h⟩:=bs h
 refine rg j0<|u<|mv j0<|u<|mv j0<|u<|pc (slices_IndexFunc_api_Ins_api_Ins_ok v1 v2 q1) j0 j0 j0<|u<|geq ti3 j0 j0<|u<|asg j0<|r_nil ?_
 refine sw_ret ?_
 obtain rfl:=sm h
 exact ⟨_,j0,[],ci j0,j0,j5,j0,j1⟩
def class_instructions (v1 : ApiMethod) : Option (Bool) :=
  (cond (!(class_between (List.length v1.Code : Int) 1 100)) (some true) ((idx v1.Code (IntKind.i64.wrap ((List.length v1.Code : Int) - 1))).bind fun v2=>some (!(op_Ends v2.Op)))).bind fun v3=>cond v3 (some false) ((slices_ContainsFunc_api_Ins_api_Ins v1.Code (List.length v1.Code : Int)).bind fun v4=>some (!v4))
theorem class_instructions_ok (v1 : ApiMethod) {r : Bool} (h : class_instructions v1 = some r) : PureC Tryz.prog 134 [.agg [sA v1.Name,.isl 1 (List.map rStr v1.Params),sA v1.Ret,bA v1.Static,bA v1.Abstract,iA v1.Locals,iA v1.Stack,.isl 4 (List.map rApiIns v1.Code),.isl 3 (List.map rApiMap v1.Maps),.isl 4 (List.map rApiTrap v1.Traps)]] (bA r):=by
 refine pure_fn Tryz.func134 j0 (by kernel_rfl) j0 j0 ?_
 unfold class_instructions at h
 refine rg j0<|u<|bx 0 10 j0 j0 j0 j0<|u<|asg j0<|r_nil ?_
 refine rg j0<|u<|fa ti62 j0 j0 j0<|u<|ld ti58 j0 j0<|u<|lnI ti58 j0 j0<|u<|al 1 ti3 j0<|u<|sto ti3 j0 j0 j0<|r_nil ?_
 refine sw_seq ?_
 obtain ⟨v3,q3,h⟩:=bs h
 refine rg j0<|u<|ld ti3 j0 j0<|u<|pc (class_between_ok (List.length v1.Code : Int) 1 100 j0) j0 j0 j0<|u<|nt j0<|u<|mv j0<|r_or (x:=v3) (j:=3) 9 j0 j0 j0 j0 j0 gpn (fun hb1=>by replace q3:=bF hb1 q3; obtain ⟨v2,q2,q3⟩:=bs q3; obtain rfl:=sm q3; exact g j0 hb1<|fa ti62 j0 j0 j0<|g j0 hb1<|ld ti58 j0 j0<|g j0 hb1<|ld ti3 j0 j0<|g j0 hb1<|sub ti3 j0 j0<|g j0 hb1<|ixI ti58 j0 ti66 j0 j0 j0 q2<|g j0 hb1<|fa ti66 j0 j0 j0<|g j0 hb1<|ldI ti3 j0 (idx_some q2).2.2 j0<|g j0 hb1<|pc (op_Ends_ok v2.Op j0) j0 j0 j0<|g j0 hb1<|nt j0<|r_nil (eg [11,12,13,14,15,16,17,18,19] 9 j0 j0 j0 j0)) (fun hb=>(sm (bT hb q3)).symm)<|r_nil ?_
 refine sw_cond j0 (fun hc4=>?_) (fun hc4=>?_)
 ·
  replace h:=bT hc4 h
  refine rg j0<|u<|asg j0<|r_nil ?_
  refine sw_ret ?_
  obtain rfl:=sm h
  exact ⟨_,j0,[],ci j0,j0,j5,j0,j1⟩
 ·
  replace h:=bF hc4 h
  refine sw_skip ?_
  obtain ⟨v4,q5,h⟩:=bs h
  refine rg j0<|u<|fa ti62 j0 j0 j0<|u<|ld ti58 j0 j0<|u<|mf j0 j0<|u<|pcs (slices_ContainsFunc_api_Ins_api_Ins_ok v1.Code (List.length v1.Code : Int) q5) j0 j0 (.cons (si j0) (.cons (sealFn j5 ⟨(sealBox j0 ⟨(si j0),j5⟩),j5⟩) .nil)) plainB<|u<|nt j0<|u<|asg j0<|r_nil ?_
  refine sw_ret ?_
  obtain rfl:=sm h
  exact ⟨_,j0,[],ci j0,j0,j5,j0,j1⟩
def class_slot (v1 : List UInt8) : Option (Bool) :=
  (cond (((v1 == [73]) || (v1 == [78])) || (v1 == [84])) (some true) ((kind_Ref v1).bind fun v2=>some v2)).bind fun v3=>some v3
theorem class_slot_ok (v1 : List UInt8) {r : Bool} (h : class_slot v1 = some r) : PureC Tryz.prog 188 [sA v1] (bA r):=by
 refine pure_fn Tryz.func188 j0 (by kernel_rfl) j0 j0 ?_
 unfold class_slot at h
 refine rg j0<|u<|asg j0<|r_nil ?_
 obtain ⟨v3,q5,h⟩:=bs h
 refine rg j0<|u<|mv j0<|u<|seq ti9 j0 j0<|u<|mv j0<|r_or (j:=2) 2 j0 j0 j0 j0 j0 gpn (fun hb1=>g j0 hb1<|mv j0<|g j0 hb1<|seq ti9 j0 j0<|r_nil (egO [6,7] 2 hb1 j0 j0 j0 j0)) orT<|u<|mv j0<|r_or (j:=6) 2 j0 j0 j0 j0 j0 gpn (fun hb2=>g j0 hb2<|mv j0<|g j0 hb2<|seq ti9 j0 j0<|r_nil (egO [10,11] 2 hb2 j0 j0 j0 j0)) orT<|u<|mv j0<|r_or (x:=v3) (j:=10) 2 j0 j0 j0 j0 j0 gpn (fun hb3=>by replace q5:=bF hb3 q5; obtain ⟨v2,q4,q5⟩:=bs q5; obtain rfl:=sm q5; exact g j0 hb3<|mv j0<|g j0 hb3<|pc (kind_Ref_ok v1 q4) j0 j0 j0<|r_nil (eg [14,15] 2 j0 j0 j0 j0)) (fun hb=>(sm (bT hb q5)).symm)<|u<|asg j0<|r_nil ?_
 refine sw_ret ?_
 obtain rfl:=sm h
 exact ⟨_,j0,[],ci j0,j0,j5,j0,j1⟩
def class_types_1_s2 (v1 : List UInt8) : Option (Bool) :=
  (class_slot v1).bind fun v2=>some (!v2)
theorem class_types_1_s2_ok (v1 : List UInt8) {r : Bool} (h : class_types_1_s2 v1 = some r) : PureC Tryz.prog 182 [sA v1,.ipt 1 [[.fn (.func 188) [] []]] 0 0] (bA r):=by
 refine pure_fn Tryz.func182 j0 (by kernel_rfl) j0 j0 ?_
 unfold class_types_1_s2 at h
 refine rg j0<|u<|asg j0<|r_nil ?_
 obtain ⟨v2,q1,h⟩:=bs h
 refine rg j0<|u<|ld ti77 j0 j0<|u<|mv j0<|u<|pc (class_slot_ok v1 q1) j0 j0 j0<|u<|nt j0<|u<|asg j0<|r_nil ?_
 refine sw_ret ?_
 obtain rfl:=sm h
 exact ⟨_,j0,[],ci j0,j0,j5,j0,j1⟩
def slices_IndexFunc_string_string_s2_k2 : Option (Int) :=
  some (-1)
def slices_IndexFunc_string_string_s2_l1 (v1 : List (List UInt8)) (v5 : Int) : Option (Sum (Int) (Sum (Unit) (Int))) :=
  cond (decide (v5 < (List.length v1 : Int))) ((idx v1 v5).bind fun v6=>(class_types_1_s2 v6).bind fun v7=>cond v7 (some (.inr (.inr v5))) (some (.inl (IntKind.i64.wrap (v5 + 1))))) (some (.inr (.inl ())))
def slices_IndexFunc_string_string_s2 (v1 : List (List UInt8)) : Option (Int) :=
  (loopP (fun z=>slices_IndexFunc_string_string_s2_l1 v1 z) 0).bind fun o=>leave o (fun b=>slices_IndexFunc_string_string_s2_k2) some
theorem slices_IndexFunc_string_string_s2_ok (v1 : List (List UInt8)) {r : Int} (h : slices_IndexFunc_string_string_s2 v1 = some r) : PureC Tryz.prog 105 [.isl 1 (List.map rStr v1),.fn (.func 182) [] [.ipt 1 [[.fn (.func 188) [] []]] 0 0]] (iA r):=by
 refine pure_fn Tryz.func105 j0 (by kernel_rfl) j0 j0 ?_
 unfold slices_IndexFunc_string_string_s2 at h
 refine rg j0<|u<|asg j0<|r_nil ?_
 refine sw_seq ?_
 refine rg j0<|u<|mv j0<|u<|lnI ti32 j0 j0<|u<|mv j0<|r_nil ?_
 obtain ⟨o,ho,h⟩:=bs h
 refine sw_lpl (X:=Int) (B:=Unit) (R:=Int) (fun z=>[(0,.isl 1 (List.map rStr v1)),(1,.fn (.func 182) [] [.ipt 1 [[.fn (.func 188) [] []]] 0 0]),(7,iA (List.length v1 : Int)),(8,iA z)]) (fun z=>[]) (fun b=>[]) (fun b=>[]) (fun r env st=>PostF Tryz.prog Tryz.f105 0 (iA r) [] env st) ho ⟨[],ce j0 j0<|ce j0 j0<|ce j0 j0<|ce j0 j0<|cn,j0,j5,j0,j1⟩ ?_ ?_ ?_
 ·
  rintro v5 r h
  replace h : slices_IndexFunc_string_string_s2_l1 v1 v5 = some r:=h
  unfold slices_IndexFunc_string_string_s2_l1 at h
  refine rg j0<|u<|lss ti3 j0 j0<|r_nil ?_
  refine sw_seq ?_
  refine sw_cond j0 (fun hc5=>?_) (fun hc5=>?_)
  ·
   replace h:=bT hc5 h
   refine sw_skip ?_
   refine sw_seq ?_
   refine sw_block ?_
   refine rg j0<|u<|mv j0<|u<|asg j0<|r_nil ?_
   obtain ⟨v6,q6,h⟩:=bs h
   obtain ⟨v7,q7,h⟩:=bs h
   refine rg j0<|u<|mv j0<|u<|mv j0<|u<|mv j0<|u<|ixI ti32 j0 ti9 j0 j0 j0 q6<|u<|ldI ti9 j0 (idx_some q6).2.2 j0<|u<|pc (class_types_1_s2_ok v6 q7) j0 j0 j0<|r_nil ?_
   refine sw_cond j0 (fun hc8=>?_) (fun hc8=>?_)
   ·
    replace h:=bT hc8 h
    refine rg j0<|u<|mv j0<|u<|asg j0<|r_nil ?_
    refine sw_ret ?_
    obtain rfl:=sm h
    exact ⟨_,j0,_,j0,[],ci j0,j0,j5,j0,j1⟩
   ·
    replace h:=bF hc8 h
    refine sw_skip ?_
    refine rl j0<|u<|add ti3 j0 j0<|u<|mv j0<|r_nil ?_
    obtain rfl:=sm h
    exact ⟨_,j0,[],ce j0 j0<|ce j0 j0<|ce j0 j0<|ce j0 j0<|cn,j0,j5,j0,j1⟩
  ·
   replace h:=bF hc5 h
   refine sw_exit ?_
   obtain rfl:=sm h
   exact ⟨j0,_,j0,[],cn,j0,j5,j0,j1⟩
 ·
  rintro ⟨⟩ rfl
  replace h : slices_IndexFunc_string_string_s2_k2 = some r:=h
  unfold slices_IndexFunc_string_string_s2_k2 at h
  refine ow_intro ?_
  refine rg j0<|u<|asg j0<|r_nil ?_
  refine sw_ret ?_
  obtain rfl:=sm h
  exact ⟨_,j0,[],ci j0,j0,j5,j0,j1⟩
 ·
  rintro r' rfl env st hp
  obtain rfl:=sm h
  exact hp
def slices_ContainsFunc_string_string_s2 (v1 : List (List UInt8)) : Option (Bool) :=
  (slices_IndexFunc_string_string_s2 v1).bind fun v2=>some (decide (0 ≤ v2))
theorem slices_ContainsFunc_string_string_s2_ok (v1 : List (List UInt8)) {r : Bool} (h : slices_ContainsFunc_string_string_s2 v1 = some r) : PureC Tryz.prog 59 [.isl 1 (List.map rStr v1),.fn (.func 182) [] [.ipt 1 [[.fn (.func 188) [] []]] 0 0]] (bA r):=by
 refine pure_fn Tryz.func59 j0 (by kernel_rfl) j0 j0 ?_
 unfold slices_ContainsFunc_string_string_s2 at h
 refine rg j0<|u<|asg j0<|r_nil ?_
 obtain ⟨v2,q1,h⟩:=bs h
 refine rg j0<|u<|mv j0<|u<|mv j0<|u<|pc (slices_IndexFunc_string_string_s2_ok v1 q1) j0 j0 j0<|u<|geq ti3 j0 j0<|u<|asg j0<|r_nil ?_
 refine sw_ret ?_
 obtain rfl:=sm h
 exact ⟨_,j0,[],ci j0,j0,j5,j0,j1⟩
def class_types_s2 (v1 : List (List UInt8)) : Option (Bool) :=
  (slices_ContainsFunc_string_string_s2 v1).bind fun v2=>some (!v2)
theorem class_types_s2_ok (v1 : List (List UInt8)) {r : Bool} (h : class_types_s2 v1 = some r) : PureC Tryz.prog 129 [.isl 1 (List.map rStr v1),.fn (.func 188) [] []] (bA r):=by
 refine pure_fn Tryz.func129 j0 (by kernel_rfl) j0 j0 ?_
 unfold class_types_s2 at h
 refine rg j0<|u<|bx 0 1 j0 j0 j0 j0<|u<|asg j0<|r_nil ?_
 obtain ⟨v2,q1,h⟩:=bs h
 refine rg j0<|u<|mv j0<|u<|mf j0 j0<|u<|pcs (slices_ContainsFunc_string_string_s2_ok v1 q1) j0 j0 (.cons (si j0) (.cons (sealFn j5 ⟨(sealBox j0 ⟨(si j0),j5⟩),j5⟩) .nil)) plainB<|u<|nt j0<|u<|asg j0<|r_nil ?_
 refine sw_ret ?_
 obtain rfl:=sm h
 exact ⟨_,j0,[],ci j0,j0,j5,j0,j1⟩
def slices_Index_string_string_k2 : Option (Int) :=
  some (-1)
def slices_Index_string_string_l1 (v1 : List (List UInt8)) (v2 : List UInt8) (v5 : Int) : Option (Sum (Int) (Sum (Unit) (Int))) :=
  cond (decide (v5 < (List.length v1 : Int))) ((idx v1 v5).bind fun v6=>cond (v2 == v6) (some (.inr (.inr v5))) (some (.inl (IntKind.i64.wrap (v5 + 1))))) (some (.inr (.inl ())))
def slices_Index_string_string (v1 : List (List UInt8)) (v2 : List UInt8) : Option (Int) :=
  (loopP (fun z=>slices_Index_string_string_l1 v1 v2 z) 0).bind fun o=>leave o (fun b=>slices_Index_string_string_k2) some
theorem slices_Index_string_string_ok (v1 : List (List UInt8)) (v2 : List UInt8) {r : Int} (h : slices_Index_string_string v1 v2 = some r) : PureC Tryz.prog 112 [.isl 1 (List.map rStr v1),sA v2] (iA r):=by
 refine pure_fn Tryz.func112 j0 (by kernel_rfl) j0 j0 ?_
 unfold slices_Index_string_string at h
 refine rg j0<|u<|asg j0<|r_nil ?_
 refine sw_seq ?_
 refine rg j0<|u<|mv j0<|u<|lnI ti32 j0 j0<|u<|mv j0<|r_nil ?_
 obtain ⟨o,ho,h⟩:=bs h
 refine sw_lpl (X:=Int) (B:=Unit) (R:=Int) (fun z=>[(0,.isl 1 (List.map rStr v1)),(1,sA v2),(7,iA (List.length v1 : Int)),(8,iA z)]) (fun z=>[]) (fun b=>[]) (fun b=>[]) (fun r env st=>PostF Tryz.prog Tryz.f112 0 (iA r) [] env st) ho ⟨[],ce j0 j0<|ce j0 j0<|ce j0 j0<|ce j0 j0<|cn,j0,j5,j0,j1⟩ ?_ ?_ ?_
 ·
  rintro v5 r h
  replace h : slices_Index_string_string_l1 v1 v2 v5 = some r:=h
  unfold slices_Index_string_string_l1 at h
  refine rg j0<|u<|lss ti3 j0 j0<|r_nil ?_
  refine sw_seq ?_
  refine sw_cond j0 (fun hc4=>?_) (fun hc4=>?_)
  ·
   replace h:=bT hc4 h
   refine sw_skip ?_
   refine sw_seq ?_
   refine sw_block ?_
   refine rg j0<|u<|mv j0<|u<|asg j0<|r_nil ?_
   obtain ⟨v6,q5,h⟩:=bs h
   refine rg j0<|u<|mv j0<|u<|mv j0<|u<|mv j0<|u<|ixI ti32 j0 ti9 j0 j0 j0 q5<|u<|ldI ti9 j0 (idx_some q5).2.2 j0<|u<|seq ti9 j0 j0<|r_nil ?_
   refine sw_cond j0 (fun hc6=>?_) (fun hc6=>?_)
   ·
    replace h:=bT hc6 h
    refine rg j0<|u<|mv j0<|u<|asg j0<|r_nil ?_
    refine sw_ret ?_
    obtain rfl:=sm h
    exact ⟨_,j0,_,j0,[],ci j0,j0,j5,j0,j1⟩
   ·
    replace h:=bF hc6 h
    refine sw_skip ?_
    refine rl j0<|u<|add ti3 j0 j0<|u<|mv j0<|r_nil ?_
    obtain rfl:=sm h
    exact ⟨_,j0,[],ce j0 j0<|ce j0 j0<|ce j0 j0<|ce j0 j0<|cn,j0,j5,j0,j1⟩
  ·
   replace h:=bF hc4 h
   refine sw_exit ?_
   obtain rfl:=sm h
   exact ⟨j0,_,j0,[],cn,j0,j5,j0,j1⟩
 ·
  rintro ⟨⟩ rfl
  replace h : slices_Index_string_string_k2 = some r:=h
  unfold slices_Index_string_string_k2 at h
  refine ow_intro ?_
  refine rg j0<|u<|asg j0<|r_nil ?_
  refine sw_ret ?_
  obtain rfl:=sm h
  exact ⟨_,j0,[],ci j0,j0,j5,j0,j1⟩
 ·
  rintro r' rfl env st hp
  obtain rfl:=sm h
  exact hp
def slices_Contains_string_string (v1 : List (List UInt8)) (v2 : List UInt8) : Option (Bool) :=
  (slices_Index_string_string v1 v2).bind fun v3=>some (decide (0 ≤ v3))
theorem slices_Contains_string_string_ok (v1 : List (List UInt8)) (v2 : List UInt8) {r : Bool} (h : slices_Contains_string_string v1 v2 = some r) : PureC Tryz.prog 69 [.isl 1 (List.map rStr v1),sA v2] (bA r):=by
 refine pure_fn Tryz.func69 j0 (by kernel_rfl) j0 j0 ?_
 unfold slices_Contains_string_string at h
 refine rg j0<|u<|asg j0<|r_nil ?_
 obtain ⟨v3,q1,h⟩:=bs h
 refine rg j0<|u<|mv j0<|u<|mv j0<|u<|pc (slices_Index_string_string_ok v1 v2 q1) j0 j0 j0<|u<|geq ti3 j0 j0<|u<|asg j0<|r_nil ?_
 refine sw_ret ?_
 obtain rfl:=sm h
 exact ⟨_,j0,[],ci j0,j0,j5,j0,j1⟩
def class_maps_k4 (v1 : ApiMethod) : Option (Bool) :=
  some (decide ((List.length v1.Maps : Int) ≤ 100))
def class_maps_j2 (v1 : ApiMethod) (v12 : Int) (v13 : ApiMap) (v15 : Bool) : Option (Sum (Int) (Sum (Unit) (Bool))) :=
  cond v15 (some (.inr (.inr false))) ((cond ((!((List.length v13.Locals : Int) == v1.Locals)) || (decide (v1.Stack < (List.length v13.Stack : Int)))) (some true) ((class_types_s2 v13.Locals).bind fun v16=>some (!v16))).bind fun v17=>(cond v17 (some true) ((class_types_s2 v13.Stack).bind fun v18=>some (!v18))).bind fun v19=>(cond v19 (some true) ((slices_Contains_string_string v13.Stack [84]).bind fun v20=>some v20)).bind fun v21=>cond v21 (some (.inr (.inr false))) (some (.inl (IntKind.i64.wrap (v12 + 1)))))
def class_maps_l3 (v1 : ApiMethod) (v12 : Int) : Option (Sum (Int) (Sum (Unit) (Bool))) :=
  cond (decide (v12 < (List.length v1.Maps : Int))) ((idx v1.Maps v12).bind fun v13=>cond (!(class_between v13.At 0 (IntKind.i64.wrap ((List.length v1.Code : Int) - 1)))) (class_maps_j2 v1 v12 v13 true) (cond (decide (0 < v12)) ((idx v1.Maps (IntKind.i64.wrap (v12 - 1))).bind fun v14=>class_maps_j2 v1 v12 v13 (decide (v13.At ≤ v14.At))) (class_maps_j2 v1 v12 v13 false))) (some (.inr (.inl ())))
def class_maps (v1 : ApiMethod) : Option (Bool) :=
  (loopP (fun z=>class_maps_l3 v1 z) 0).bind fun o=>leave o (fun b=>class_maps_k4 v1) some
theorem class_maps_ok (v1 : ApiMethod) {r : Bool} (h : class_maps v1 = some r) : PureC Tryz.prog 135 [.agg [sA v1.Name,.isl 1 (List.map rStr v1.Params),sA v1.Ret,bA v1.Static,bA v1.Abstract,iA v1.Locals,iA v1.Stack,.isl 4 (List.map rApiIns v1.Code),.isl 3 (List.map rApiMap v1.Maps),.isl 4 (List.map rApiTrap v1.Traps)]] (bA r):=by
 refine pure_fn Tryz.func135 j0 (by kernel_rfl) j0 j0 ?_
 unfold class_maps at h
 refine rg j0<|u<|bx 0 10 j0 j0 j0 j0<|u<|asg j0<|r_nil ?_
 refine sw_seq ?_
 refine rg j0<|u<|fa ti62 j0 j0 j0<|u<|ld ti59 j0 j0<|u<|lnI ti59 j0 j0<|u<|mv j0<|r_nil ?_
 obtain ⟨o,ho,h⟩:=bs h
 refine sw_lpl (X:=Int) (B:=Unit) (R:=Bool) (fun z=>[(1,.mpt 0 0 0),(6,.isl 3 (List.map rApiMap v1.Maps)),(7,iA (List.length v1.Maps : Int)),(8,iA z)]) (fun z=>[some (10,[[sA v1.Name,.isl 1 (List.map rStr v1.Params),sA v1.Ret,bA v1.Static,bA v1.Abstract,iA v1.Locals,iA v1.Stack,.isl 4 (List.map rApiIns v1.Code),.isl 3 (List.map rApiMap v1.Maps),.isl 4 (List.map rApiTrap v1.Traps)]])]) (fun b=>[(1,.mpt 0 0 0)]) (fun b=>[some (10,[[sA v1.Name,.isl 1 (List.map rStr v1.Params),sA v1.Ret,bA v1.Static,bA v1.Abstract,iA v1.Locals,iA v1.Stack,.isl 4 (List.map rApiIns v1.Code),.isl 3 (List.map rApiMap v1.Maps),.isl 4 (List.map rApiTrap v1.Traps)]])]) (fun r env st=>PostF Tryz.prog Tryz.f135 0 (bA r) [] env st) ho ⟨[.old 0],cv j0 (.mpt j0)<|ce j0 j0<|ce j0 j0<|ce j0 j0<|cn,j0,⟨⟨_,j0,rsOne ⟨ci j0,ci j0,ci j0,ci j0,ci j0,ci j0,ci j0,ci j0,ci j0,ci j0,j5⟩⟩,j5⟩,j0,j1⟩ ?_ ?_ ?_
 ·
  rintro v12 r h
  replace h : class_maps_l3 v1 v12 = some r:=h
  unfold class_maps_l3 at h
  refine rg j0<|u<|lss ti3 j0 j0<|r_nil ?_
  refine sw_seq ?_
  refine sw_cond j0 (fun hc18=>?_) (fun hc18=>?_)
  ·
   replace h:=bT hc18 h
   refine sw_skip ?_
   refine sw_seq ?_
   refine sw_block ?_
   obtain ⟨v13,q19,h⟩:=bs h
   refine rg j0<|u<|mv j0<|u<|ixI ti59 j0 ti81 j0 j0 j0 q19<|u<|ldI ti81 j0 (idx_some q19).2.2 j0<|u<|al 1 ti81 j0<|u<|asg j0<|u<|sto ti81 j0 j0 j0<|r_nil ?_
   refine sw_seq ?_
   refine sw_meet (X:=Bool) (fun z=>[(1,.mpt 0 0 0),(4,.mpt 1 0 0),(6,.isl 3 (List.map rApiMap v1.Maps)),(7,iA (List.length v1.Maps : Int)),(8,iA v12),(36,bA z)]) (fun z=>[some (10,[[sA v1.Name,.isl 1 (List.map rStr v1.Params),sA v1.Ret,bA v1.Static,bA v1.Abstract,iA v1.Locals,iA v1.Stack,.isl 4 (List.map rApiIns v1.Code),.isl 3 (List.map rApiMap v1.Maps),.isl 4 (List.map rApiTrap v1.Traps)]]),some (3,[[iA v13.At,.isl 1 (List.map rStr v13.Locals),.isl 1 (List.map rStr v13.Stack)]])]) (fun z=>class_maps_j2 v1 v12 v13 z = some r) ?_ ?_
   ·
    rcases bb (!(class_between v13.At 0 (IntKind.i64.wrap ((List.length v1.Code : Int) - 1)))) with hb20 | hb20
    ·
     replace h:=bT hb20 h
     exact sw_region_dt [] [23,22,21,20,19,18,17,16,15,14,13,12,11,10,9,8,7,6,5,4,3,2,1,0] [(36,bA true),(35,.lit undef),(34,.lit undef),(33,.lit undef),(32,.lit undef),(31,.lit undef),(30,.lit undef),(29,.lit undef),(28,.lit undef),(27,.lit undef),(26,.lit undef),(25,.lit undef),(24,.lit undef),(23,.lit undef),(22,.lit undef),(21,bA (!(class_between v13.At 0 (IntKind.i64.wrap ((List.length v1.Code : Int) - 1))))),(20,bA (!(class_between v13.At 0 (IntKind.i64.wrap ((List.length v1.Code : Int) - 1))))),(19,bA (class_between v13.At 0 (IntKind.i64.wrap ((List.length v1.Code : Int) - 1)))),(18,iA (IntKind.i64.wrap ((List.length v1.Code : Int) - 1))),(17,iA (List.length v1.Code : Int)),(16,.isl 4 (List.map rApiIns v1.Code)),(15,.mpt 0 0 7),(14,iA v13.At),(13,.mpt 1 0 0)] 0 (by kernel_rfl) (by kernel_rfl) j0 (by kernel_rfl) (dt0 ⟨(fun _=>pa j0 j0 j0 j0 (pkb j0 hb20 j0<|j4)),(fun _=>pas (b:=(!(class_between v13.At 0 (IntKind.i64.wrap ((List.length v1.Code : Int) - 1))))) j0 j0 j0 j0 hb20 j0),(fun _=>pau j0 j0 j0 j0 j0),(fun _=>pau j0 j0 j0 j0 j0),(fun _=>pau j0 j0 j0 j0 j0),(fun _=>pau j0 j0 j0 j0 j0),(fun _=>pau j0 j0 j0 j0 j0),(fun _=>pau j0 j0 j0 j0 j0),(fun _=>pau j0 j0 j0 j0 j0),(fun _=>pau j0 j0 j0 j0 j0),(fun _=>pau j0 j0 j0 j0 j0),(fun _=>pau j0 j0 j0 j0 j0),(fun _=>pas (b:=(!(class_between v13.At 0 (IntKind.i64.wrap ((List.length v1.Code : Int) - 1))))) j0 j0 j0 j0 hb20 j0),(fun _=>pas (b:=(!(class_between v13.At 0 (IntKind.i64.wrap ((List.length v1.Code : Int) - 1))))) j0 j0 j0 j0 hb20 j0),(fun _=>pas (b:=(!(class_between v13.At 0 (IntKind.i64.wrap ((List.length v1.Code : Int) - 1))))) j0 j0 j0 j0 hb20 j0),(fun _=>pa j0 j0 j0 j0 (mv j0<|j4)),(fun _=>pa j0 j0 j0 j0 (nt j0<|j4)),(fun _=>pa j0 j0 j0 j0 (pc (class_between_ok v13.At 0 (IntKind.i64.wrap ((List.length v1.Code : Int) - 1)) j0) j0 j0 j0<|j4)),(fun _=>pa j0 j0 j0 j0 (sub ti3 j0 j0<|j4)),(fun _=>pa j0 j0 j0 j0 (lnI ti58 j0 j0<|j4)),(fun _=>pa j0 j0 j0 j0 (ld ti58 j0 j0<|j4)),(fun _=>pa j0 j0 j0 j0 (fa ti62 j0 j0 j0<|j4)),(fun _=>pa j0 j0 j0 j0 (ld ti3 j0 j0<|j4)),(fun _=>pa j0 j0 j0 j0 (fa ti81 j0 j0 j0<|j4)),j5⟩ (by kernel_rfl) j0 ⟨true,h,[.old 0,.old 1],cv j0 (.mpt j0)<|cv j0 (.mpt j0)<|ce j0 j0<|ce j0 j0<|ce j0 j0<|ce j0 j0<|cn,j0,⟨⟨_,j0,rsOne ⟨ci j0,ci j0,ci j0,ci j0,ci j0,ci j0,ci j0,ci j0,ci j0,ci j0,j5⟩⟩,⟨_,j0,rsOne ⟨ci j0,ci j0,ci j0,j5⟩⟩,j5⟩,j0,j1⟩)
    ·
     replace h:=bF hb20 h
     rcases bb (decide (0 < v12)) with hb21 | hb21
     ·
      replace h:=bT hb21 h
      obtain ⟨v14,q22,h⟩:=bs h
      exact sw_region_dt [] [23,22,21,20,19,18,17,16,15,14,13,12,11,10,9,8,7,6,5,4,3,2,1,0] [(36,bA (decide (v13.At ≤ v14.At))),(35,bA (decide (v13.At ≤ v14.At))),(34,bA (decide (v13.At ≤ v14.At))),(33,iA v13.At),(32,.mpt 1 0 0),(31,iA v14.At),(30,.ipt 3 (List.map rApiMap v1.Maps) (Int.toNat (IntKind.i64.wrap (v12 - 1))) 0),(29,.ipt 3 (List.map rApiMap v1.Maps) (Int.toNat (IntKind.i64.wrap (v12 - 1))) 0),(28,iA (IntKind.i64.wrap (v12 - 1))),(27,iA v12),(26,.isl 3 (List.map rApiMap v1.Maps)),(25,.mpt 0 0 8),(24,bA (decide (0 < v12))),(23,bA (decide (0 < v12))),(22,iA v12),(21,bA (!(class_between v13.At 0 (IntKind.i64.wrap ((List.length v1.Code : Int) - 1))))),(20,bA (!(class_between v13.At 0 (IntKind.i64.wrap ((List.length v1.Code : Int) - 1))))),(19,bA (class_between v13.At 0 (IntKind.i64.wrap ((List.length v1.Code : Int) - 1)))),(18,iA (IntKind.i64.wrap ((List.length v1.Code : Int) - 1))),(17,iA (List.length v1.Code : Int)),(16,.isl 4 (List.map rApiIns v1.Code)),(15,.mpt 0 0 7),(14,iA v13.At),(13,.mpt 1 0 0)] 0 (by kernel_rfl) (by kernel_rfl) j0 (by kernel_rfl) (dt0 ⟨(fun _=>pa j0 j0 j0 j0 (pkb j0 hb20 j0<|j4)),(fun _=>pag (b:=(!(class_between v13.At 0 (IntKind.i64.wrap ((List.length v1.Code : Int) - 1))))) j0 j0 j0 j0 hb20 j0 (pkb j0 hb21 j0<|j4)),(fun _=>pag (b:=(decide (0 < v12))) j0 j0 j0 j0 hb21 j0 (geq ti3 j0 j0<|j4)),(fun _=>pag (b:=(decide (0 < v12))) j0 j0 j0 j0 hb21 j0 (ld ti3 j0 j0<|j4)),(fun _=>pag (b:=(decide (0 < v12))) j0 j0 j0 j0 hb21 j0 (fa ti81 j0 j0 j0<|j4)),(fun _=>pag (b:=(decide (0 < v12))) j0 j0 j0 j0 hb21 j0 (ldI ti3 j0 (idx_some q22).2.2 j0<|j4)),(fun _=>pag (b:=(decide (0 < v12))) j0 j0 j0 j0 hb21 j0 (fa ti81 j0 j0 j0<|j4)),(fun _=>pag (b:=(decide (0 < v12))) j0 j0 j0 j0 hb21 j0 (ixI ti59 j0 ti81 j0 j0 j0 q22<|j4)),(fun _=>pag (b:=(decide (0 < v12))) j0 j0 j0 j0 hb21 j0 (sub ti3 j0 j0<|j4)),(fun _=>pag (b:=(decide (0 < v12))) j0 j0 j0 j0 hb21 j0 (mv j0<|j4)),(fun _=>pag (b:=(decide (0 < v12))) j0 j0 j0 j0 hb21 j0 (ld ti59 j0 j0<|j4)),(fun _=>pag (b:=(decide (0 < v12))) j0 j0 j0 j0 hb21 j0 (fa ti62 j0 j0 j0<|j4)),(fun _=>pag (b:=(!(class_between v13.At 0 (IntKind.i64.wrap ((List.length v1.Code : Int) - 1))))) j0 j0 j0 j0 hb20 j0 (mv j0<|j4)),(fun _=>pag (b:=(!(class_between v13.At 0 (IntKind.i64.wrap ((List.length v1.Code : Int) - 1))))) j0 j0 j0 j0 hb20 j0 (gtr ti3 j0 j0<|j4)),(fun _=>pag (b:=(!(class_between v13.At 0 (IntKind.i64.wrap ((List.length v1.Code : Int) - 1))))) j0 j0 j0 j0 hb20 j0 (mv j0<|j4)),(fun _=>pa j0 j0 j0 j0 (mv j0<|j4)),(fun _=>pa j0 j0 j0 j0 (nt j0<|j4)),(fun _=>pa j0 j0 j0 j0 (pc (class_between_ok v13.At 0 (IntKind.i64.wrap ((List.length v1.Code : Int) - 1)) j0) j0 j0 j0<|j4)),(fun _=>pa j0 j0 j0 j0 (sub ti3 j0 j0<|j4)),(fun _=>pa j0 j0 j0 j0 (lnI ti58 j0 j0<|j4)),(fun _=>pa j0 j0 j0 j0 (ld ti58 j0 j0<|j4)),(fun _=>pa j0 j0 j0 j0 (fa ti62 j0 j0 j0<|j4)),(fun _=>pa j0 j0 j0 j0 (ld ti3 j0 j0<|j4)),(fun _=>pa j0 j0 j0 j0 (fa ti81 j0 j0 j0<|j4)),j5⟩ (by kernel_rfl) j0 ⟨(decide (v13.At ≤ v14.At)),h,[.old 0,.old 1],cv j0 (.mpt j0)<|cv j0 (.mpt j0)<|ce j0 j0<|ce j0 j0<|ce j0 j0<|ce j0 j0<|cn,j0,⟨⟨_,j0,rsOne ⟨ci j0,ci j0,ci j0,ci j0,ci j0,ci j0,ci j0,ci j0,ci j0,ci j0,j5⟩⟩,⟨_,j0,rsOne ⟨ci j0,ci j0,ci j0,j5⟩⟩,j5⟩,j0,j1⟩)
     ·
      replace h:=bF hb21 h
      exact sw_region_dt [] [23,22,21,20,19,18,17,16,15,14,13,12,11,10,9,8,7,6,5,4,3,2,1,0] [(36,bA false),(35,bA false),(34,.lit undef),(33,.lit undef),(32,.lit undef),(31,.lit undef),(30,.lit undef),(29,.lit undef),(28,.lit undef),(27,.lit undef),(26,.lit undef),(25,.lit undef),(24,bA (decide (0 < v12))),(23,bA (decide (0 < v12))),(22,iA v12),(21,bA (!(class_between v13.At 0 (IntKind.i64.wrap ((List.length v1.Code : Int) - 1))))),(20,bA (!(class_between v13.At 0 (IntKind.i64.wrap ((List.length v1.Code : Int) - 1))))),(19,bA (class_between v13.At 0 (IntKind.i64.wrap ((List.length v1.Code : Int) - 1)))),(18,iA (IntKind.i64.wrap ((List.length v1.Code : Int) - 1))),(17,iA (List.length v1.Code : Int)),(16,.isl 4 (List.map rApiIns v1.Code)),(15,.mpt 0 0 7),(14,iA v13.At),(13,.mpt 1 0 0)] 0 (by kernel_rfl) (by kernel_rfl) j0 (by kernel_rfl) (dt0 ⟨(fun _=>pa j0 j0 j0 j0 (pkb j0 hb20 j0<|j4)),(fun _=>pag (b:=(!(class_between v13.At 0 (IntKind.i64.wrap ((List.length v1.Code : Int) - 1))))) j0 j0 j0 j0 hb20 j0 (pkb j0 hb21 j0<|j4)),(fun _=>pas (b:=(decide (0 < v12))) j0 j0 j0 j0 hb21 j0),(fun _=>pas (b:=(decide (0 < v12))) j0 j0 j0 j0 hb21 j0),(fun _=>pas (b:=(decide (0 < v12))) j0 j0 j0 j0 hb21 j0),(fun _=>pas (b:=(decide (0 < v12))) j0 j0 j0 j0 hb21 j0),(fun _=>pas (b:=(decide (0 < v12))) j0 j0 j0 j0 hb21 j0),(fun _=>pas (b:=(decide (0 < v12))) j0 j0 j0 j0 hb21 j0),(fun _=>pas (b:=(decide (0 < v12))) j0 j0 j0 j0 hb21 j0),(fun _=>pas (b:=(decide (0 < v12))) j0 j0 j0 j0 hb21 j0),(fun _=>pas (b:=(decide (0 < v12))) j0 j0 j0 j0 hb21 j0),(fun _=>pas (b:=(decide (0 < v12))) j0 j0 j0 j0 hb21 j0),(fun _=>pag (b:=(!(class_between v13.At 0 (IntKind.i64.wrap ((List.length v1.Code : Int) - 1))))) j0 j0 j0 j0 hb20 j0 (mv j0<|j4)),(fun _=>pag (b:=(!(class_between v13.At 0 (IntKind.i64.wrap ((List.length v1.Code : Int) - 1))))) j0 j0 j0 j0 hb20 j0 (gtr ti3 j0 j0<|j4)),(fun _=>pag (b:=(!(class_between v13.At 0 (IntKind.i64.wrap ((List.length v1.Code : Int) - 1))))) j0 j0 j0 j0 hb20 j0 (mv j0<|j4)),(fun _=>pa j0 j0 j0 j0 (mv j0<|j4)),(fun _=>pa j0 j0 j0 j0 (nt j0<|j4)),(fun _=>pa j0 j0 j0 j0 (pc (class_between_ok v13.At 0 (IntKind.i64.wrap ((List.length v1.Code : Int) - 1)) j0) j0 j0 j0<|j4)),(fun _=>pa j0 j0 j0 j0 (sub ti3 j0 j0<|j4)),(fun _=>pa j0 j0 j0 j0 (lnI ti58 j0 j0<|j4)),(fun _=>pa j0 j0 j0 j0 (ld ti58 j0 j0<|j4)),(fun _=>pa j0 j0 j0 j0 (fa ti62 j0 j0 j0<|j4)),(fun _=>pa j0 j0 j0 j0 (ld ti3 j0 j0<|j4)),(fun _=>pa j0 j0 j0 j0 (fa ti81 j0 j0 j0<|j4)),j5⟩ (by kernel_rfl) j0 ⟨false,h,[.old 0,.old 1],cv j0 (.mpt j0)<|cv j0 (.mpt j0)<|ce j0 j0<|ce j0 j0<|ce j0 j0<|ce j0 j0<|cn,j0,⟨⟨_,j0,rsOne ⟨ci j0,ci j0,ci j0,ci j0,ci j0,ci j0,ci j0,ci j0,ci j0,ci j0,j5⟩⟩,⟨_,j0,rsOne ⟨ci j0,ci j0,ci j0,j5⟩⟩,j5⟩,j0,j1⟩)
   ·
    rintro v15 h
    replace h : class_maps_j2 v1 v12 v13 v15 = some r:=h
    unfold class_maps_j2 at h
    refine sw_cond j0 (fun hc23=>?_) (fun hc23=>?_)
    ·
     replace h:=bT hc23 h
     refine rg j0<|u<|asg j0<|r_nil ?_
     refine sw_ret ?_
     obtain rfl:=sm h
     exact ⟨_,j0,_,j0,[],ci j0,j0,j5,j0,j1⟩
    ·
     replace h:=bF hc23 h
     refine sw_skip ?_
     obtain ⟨v17,q27,h⟩:=bs h
     obtain ⟨v19,q30,h⟩:=bs h
     obtain ⟨v21,q33,h⟩:=bs h
     refine rg j0<|u<|fa ti81 j0 j0 j0<|u<|ld ti32 j0 j0<|u<|lnI ti32 j0 j0<|u<|fa ti62 j0 j0 j0<|u<|ld ti3 j0 j0<|u<|neq ti3 j0 j0<|u<|mv j0<|r_or (j:=6) 6 j0 j0 j0 j0 j0 gpn (fun hb24=>g j0 hb24<|fa ti81 j0 j0 j0<|g j0 hb24<|ld ti32 j0 j0<|g j0 hb24<|lnI ti32 j0 j0<|g j0 hb24<|fa ti62 j0 j0 j0<|g j0 hb24<|ld ti3 j0 j0<|g j0 hb24<|gtr ti3 j0 j0<|r_nil (egO [44,45,46,47,48,49] 6 hb24 j0 j0 j0 j0)) orT<|u<|mv j0<|r_or (x:=v17) (j:=14) 4 j0 j0 j0 j0 j0 gpn (fun hb25=>by replace q27:=bF hb25 q27; obtain ⟨v16,q26,q27⟩:=bs q27; obtain rfl:=sm q27; exact g j0 hb25<|fa ti81 j0 j0 j0<|g j0 hb25<|ld ti32 j0 j0<|g j0 hb25<|pc (class_types_s2_ok v13.Locals q26) j0 j0 j0<|g j0 hb25<|nt j0<|r_nil (eg [52,53,54,55] 4 j0 j0 j0 j0)) (fun hb=>(sm (bT hb q27)).symm)<|u<|mv j0<|r_or (x:=v19) (j:=20) 4 j0 j0 j0 j0 j0 gpn (fun hb28=>by replace q30:=bF hb28 q30; obtain ⟨v18,q29,q30⟩:=bs q30; obtain rfl:=sm q30; exact g j0 hb28<|fa ti81 j0 j0 j0<|g j0 hb28<|ld ti32 j0 j0<|g j0 hb28<|pc (class_types_s2_ok v13.Stack q29) j0 j0 j0<|g j0 hb28<|nt j0<|r_nil (eg [58,59,60,61] 4 j0 j0 j0 j0)) (fun hb=>(sm (bT hb q30)).symm)<|u<|mv j0<|r_or (x:=v21) (j:=26) 3 j0 j0 j0 j0 j0 gpn (fun hb31=>by replace q33:=bF hb31 q33; obtain ⟨v20,q32,q33⟩:=bs q33; obtain rfl:=sm q33; exact g j0 hb31<|fa ti81 j0 j0 j0<|g j0 hb31<|ld ti32 j0 j0<|g j0 hb31<|pc (slices_Contains_string_string_ok v13.Stack [84] q32) j0 j0 j0<|r_nil (eg [64,65,66] 3 j0 j0 j0 j0)) (fun hb=>(sm (bT hb q33)).symm)<|r_nil ?_
     refine sw_cond j0 (fun hc34=>?_) (fun hc34=>?_)
     ·
      replace h:=bT hc34 h
      refine rg j0<|u<|asg j0<|r_nil ?_
      refine sw_ret ?_
      obtain rfl:=sm h
      exact ⟨_,j0,_,j0,[],ci j0,j0,j5,j0,j1⟩
     ·
      replace h:=bF hc34 h
      refine sw_skip ?_
      refine rl j0<|u<|add ti3 j0 j0<|u<|mv j0<|r_nil ?_
      obtain rfl:=sm h
      exact ⟨_,j0,[.old 0],cv j0 (.mpt j0)<|ce j0 j0<|ce j0 j0<|ce j0 j0<|cn,j0,⟨⟨_,j0,rsOne ⟨ci j0,ci j0,ci j0,ci j0,ci j0,ci j0,ci j0,ci j0,ci j0,ci j0,j5⟩⟩,j5⟩,j0,j1⟩
  ·
   replace h:=bF hc18 h
   refine sw_exit ?_
   obtain rfl:=sm h
   exact ⟨j0,_,j0,[.old 0],cv j0 (.mpt j0)<|cn,j0,⟨⟨_,j0,rsOne ⟨ci j0,ci j0,ci j0,ci j0,ci j0,ci j0,ci j0,ci j0,ci j0,ci j0,j5⟩⟩,j5⟩,j0,j1⟩
 ·
  rintro ⟨⟩ rfl
  replace h : class_maps_k4 v1 = some r:=h
  unfold class_maps_k4 at h
  refine ow_intro ?_
  refine rg j0<|u<|fa ti62 j0 j0 j0<|u<|ld ti59 j0 j0<|u<|lnI ti59 j0 j0<|u<|leq ti3 j0 j0<|u<|asg j0<|r_nil ?_
  refine sw_ret ?_
  obtain rfl:=sm h
  exact ⟨_,j0,[],ci j0,j0,j5,j0,j1⟩
 ·
  rintro r' rfl env st hp
  obtain rfl:=sm h
  exact hp
def class_traps_1 (v1 : ApiTrap) (v2 : List UInt8) (v3 : List (List UInt8)) (v4 : List UInt8) (v5 : Bool) (v6 : Bool) (v7 : Int) (v8 : Int) (v9 : List ApiIns) (v10 : List ApiMap) (v11 : List ApiTrap) : Option (Bool) :=
  (cond ((((decide (v1.From < 0)) || (decide (v1.To ≤ v1.From))) || (decide ((List.length v9 : Int) < v1.To))) || (!(class_between v1.At 0 (IntKind.i64.wrap ((List.length v9 : Int) - 1))))) (some true) ((cond (!(v1.C == [])) ((kind_Class v1.C).bind fun v12=>some (!v12)) (some false)).bind fun v13=>some v13)).bind fun v14=>some v14
theorem class_traps_1_ok (v1 : ApiTrap) (v2 : List UInt8) (v3 : List (List UInt8)) (v4 : List UInt8) (v5 : Bool) (v6 : Bool) (v7 : Int) (v8 : Int) (v9 : List ApiIns) (v10 : List ApiMap) (v11 : List ApiTrap) {r : Bool} (h : class_traps_1 v1 v2 v3 v4 v5 v6 v7 v8 v9 v10 v11 = some r) : PureC Tryz.prog 190 [.agg [iA v1.From,iA v1.To,iA v1.At,sA v1.C],.ipt 10 [[sA v2,.isl 1 (List.map rStr v3),sA v4,bA v5,bA v6,iA v7,iA v8,.isl 4 (List.map rApiIns v9),.isl 3 (List.map rApiMap v10),.isl 4 (List.map rApiTrap v11)]] 0 0] (bA r):=by
 refine pure_fn Tryz.func190 j0 (by kernel_rfl) j0 j0 ?_
 unfold class_traps_1 at h
 refine rg j0<|u<|bx 0 4 j0 j0 j0 j0<|u<|asg j0<|r_nil ?_
 obtain ⟨v14,q8,h⟩:=bs h
 refine rg j0<|u<|fa ti127 j0 j0 j0<|u<|ld ti3 j0 j0<|u<|lss ti3 j0 j0<|u<|mv j0<|r_or (j:=3) 5 j0 j0 j0 j0 j0 gpn (fun hb1=>g j0 hb1<|fa ti127 j0 j0 j0<|g j0 hb1<|ld ti3 j0 j0<|g j0 hb1<|fa ti127 j0 j0 j0<|g j0 hb1<|ld ti3 j0 j0<|g j0 hb1<|geq ti3 j0 j0<|r_nil (egO [8,9,10,11,12] 5 hb1 j0 j0 j0 j0)) orT<|u<|mv j0<|r_or (j:=10) 6 j0 j0 j0 j0 j0 gpn (fun hb2=>g j0 hb2<|fa ti127 j0 j0 j0<|g j0 hb2<|ld ti3 j0 j0<|g j0 hb2<|fa ti62 j0 j0 j0<|g j0 hb2<|ld ti58 j0 j0<|g j0 hb2<|lnI ti58 j0 j0<|g j0 hb2<|gtr ti3 j0 j0<|r_nil (egO [15,16,17,18,19,20] 6 hb2 j0 j0 j0 j0)) orT<|u<|mv j0<|r_or (j:=18) 8 j0 j0 j0 j0 j0 gpn (fun hb3=>g j0 hb3<|fa ti127 j0 j0 j0<|g j0 hb3<|ld ti3 j0 j0<|g j0 hb3<|fa ti62 j0 j0 j0<|g j0 hb3<|ld ti58 j0 j0<|g j0 hb3<|lnI ti58 j0 j0<|g j0 hb3<|sub ti3 j0 j0<|g j0 hb3<|pc (class_between_ok v1.At 0 (IntKind.i64.wrap ((List.length v9 : Int) - 1)) j0) j0 j0 j0<|g j0 hb3<|nt j0<|r_nil (egO [23,24,25,26,27,28,29,30] 8 hb3 j0 j0 j0 j0)) orT<|u<|mv j0<|r_or (x:=v14) (j:=28) 9 j0 j0 j0 j0 j0 gpn (fun hb4=>by replace q8:=bF hb4 q8; obtain ⟨v13,q7,q8⟩:=bs q8; obtain rfl:=sm q8; exact g j0 hb4<|fa ti127 j0 j0 j0<|g j0 hb4<|ld ti9 j0 j0<|g j0 hb4<|sne ti9 j0 j0<|g j0 hb4<|mv j0<|r_and (x:=v13) (j:=32) 4 j0 j0 j0 j0 j0 (gps j0 j0 hb4) (fun hb5=>by replace q7:=bT hb5 q7; obtain ⟨v12,q6,q7⟩:=bs q7; obtain rfl:=sm q7; exact g j0 hb5<|fa ti127 j0 j0 j0<|g j0 hb5<|ld ti9 j0 j0<|g j0 hb5<|pc (kind_Class_ok v1.C q6) j0 j0 j0<|g j0 hb5<|nt j0<|r_nil (eg [37,38,39,40] 4 j0 j0 j0 j0)) (fun hb=>(sm (bF hb q7)).symm)<|r_nil (eg [33,34,35,36,37,38,39,40,41] 5 j0 j0 j0 j0)) (fun hb=>(sm (bT hb q8)).symm)<|u<|asg j0<|r_nil ?_
 refine sw_ret ?_
 obtain rfl:=sm h
 exact ⟨_,j0,[],ci j0,j0,j5,j0,j1⟩
def slices_IndexFunc_api_Trap_api_Trap_k2 : Option (Int) :=
  some (-1)
def slices_IndexFunc_api_Trap_api_Trap_l1 (v1 : List ApiTrap) (v2 : List UInt8) (v3 : List (List UInt8)) (v4 : List UInt8) (v5 : Bool) (v6 : Bool) (v7 : Int) (v8 : Int) (v9 : List ApiIns) (v10 : List ApiMap) (v11 : List ApiTrap) (v15 : Int) : Option (Sum (Int) (Sum (Unit) (Int))) :=
  cond (decide (v15 < (List.length v1 : Int))) ((idx v1 v15).bind fun v16=>(class_traps_1 v16 v2 v3 v4 v5 v6 v7 v8 v9 v10 v11).bind fun v17=>cond v17 (some (.inr (.inr v15))) (some (.inl (IntKind.i64.wrap (v15 + 1))))) (some (.inr (.inl ())))
def slices_IndexFunc_api_Trap_api_Trap (v1 : List ApiTrap) (v2 : List UInt8) (v3 : List (List UInt8)) (v4 : List UInt8) (v5 : Bool) (v6 : Bool) (v7 : Int) (v8 : Int) (v9 : List ApiIns) (v10 : List ApiMap) (v11 : List ApiTrap) : Option (Int) :=
  (loopP (fun z=>slices_IndexFunc_api_Trap_api_Trap_l1 v1 v2 v3 v4 v5 v6 v7 v8 v9 v10 v11 z) 0).bind fun o=>leave o (fun b=>slices_IndexFunc_api_Trap_api_Trap_k2) some
theorem slices_IndexFunc_api_Trap_api_Trap_ok (v1 : List ApiTrap) (v2 : List UInt8) (v3 : List (List UInt8)) (v4 : List UInt8) (v5 : Bool) (v6 : Bool) (v7 : Int) (v8 : Int) (v9 : List ApiIns) (v10 : List ApiMap) (v11 : List ApiTrap) {r : Int} (h : slices_IndexFunc_api_Trap_api_Trap v1 v2 v3 v4 v5 v6 v7 v8 v9 v10 v11 = some r) : PureC Tryz.prog 226 [.isl 4 (List.map rApiTrap v1),.fn (.func 190) [] [.ipt 10 [[sA v2,.isl 1 (List.map rStr v3),sA v4,bA v5,bA v6,iA v7,iA v8,.isl 4 (List.map rApiIns v9),.isl 3 (List.map rApiMap v10),.isl 4 (List.map rApiTrap v11)]] 0 0]] (iA r):=by
 refine pure_fn Tryz.func226 j0 (by kernel_rfl) j0 j0 ?_
 unfold slices_IndexFunc_api_Trap_api_Trap at h
 refine rg j0<|u<|asg j0<|r_nil ?_
 refine sw_seq ?_
 refine rg j0<|u<|mv j0<|u<|lnI ti60 j0 j0<|u<|mv j0<|r_nil ?_
 obtain ⟨o,ho,h⟩:=bs h
 refine sw_lpl (X:=Int) (B:=Unit) (R:=Int) (fun z=>[(0,.isl 4 (List.map rApiTrap v1)),(1,.fn (.func 190) [] [.ipt 10 [[sA v2,.isl 1 (List.map rStr v3),sA v4,bA v5,bA v6,iA v7,iA v8,.isl 4 (List.map rApiIns v9),.isl 3 (List.map rApiMap v10),.isl 4 (List.map rApiTrap v11)]] 0 0]),(7,iA (List.length v1 : Int)),(8,iA z)]) (fun z=>[]) (fun b=>[]) (fun b=>[]) (fun r env st=>PostF Tryz.prog Tryz.f226 0 (iA r) [] env st) ho ⟨[],ce j0 j0<|ce j0 j0<|ce j0 j0<|ce j0 j0<|cn,j0,j5,j0,j1⟩ ?_ ?_ ?_
 ·
  rintro v15 r h
  replace h : slices_IndexFunc_api_Trap_api_Trap_l1 v1 v2 v3 v4 v5 v6 v7 v8 v9 v10 v11 v15 = some r:=h
  unfold slices_IndexFunc_api_Trap_api_Trap_l1 at h
  refine rg j0<|u<|lss ti3 j0 j0<|r_nil ?_
  refine sw_seq ?_
  refine sw_cond j0 (fun hc5=>?_) (fun hc5=>?_)
  ·
   replace h:=bT hc5 h
   refine sw_skip ?_
   refine sw_seq ?_
   refine sw_block ?_
   refine rg j0<|u<|mv j0<|u<|asg j0<|r_nil ?_
   obtain ⟨v16,q6,h⟩:=bs h
   obtain ⟨v17,q7,h⟩:=bs h
   refine rg j0<|u<|mv j0<|u<|mv j0<|u<|mv j0<|u<|ixI ti60 j0 ti127 j0 j0 j0 q6<|u<|ldI ti127 j0 (idx_some q6).2.2 j0<|u<|pc (class_traps_1_ok v16 v2 v3 v4 v5 v6 v7 v8 v9 v10 v11 q7) j0 j0 j0<|r_nil ?_
   refine sw_cond j0 (fun hc8=>?_) (fun hc8=>?_)
   ·
    replace h:=bT hc8 h
    refine rg j0<|u<|mv j0<|u<|asg j0<|r_nil ?_
    refine sw_ret ?_
    obtain rfl:=sm h
    exact ⟨_,j0,_,j0,[],ci j0,j0,j5,j0,j1⟩
   ·
    replace h:=bF hc8 h
    refine sw_skip ?_
    refine rl j0<|u<|add ti3 j0 j0<|u<|mv j0<|r_nil ?_
    obtain rfl:=sm h
    exact ⟨_,j0,[],ce j0 j0<|ce j0 j0<|ce j0 j0<|ce j0 j0<|cn,j0,j5,j0,j1⟩
  ·
   replace h:=bF hc5 h
   refine sw_exit ?_
   obtain rfl:=sm h
   exact ⟨j0,_,j0,[],cn,j0,j5,j0,j1⟩
 ·
  rintro ⟨⟩ rfl
  replace h : slices_IndexFunc_api_Trap_api_Trap_k2 = some r:=h
  unfold slices_IndexFunc_api_Trap_api_Trap_k2 at h
  refine ow_intro ?_
  refine rg j0<|u<|asg j0<|r_nil ?_
  refine sw_ret ?_
  obtain rfl:=sm h
  exact ⟨_,j0,[],ci j0,j0,j5,j0,j1⟩
 ·
  rintro r' rfl env st hp
  obtain rfl:=sm h
  exact hp
def slices_ContainsFunc_api_Trap_api_Trap (v1 : List ApiTrap) (v2 : List UInt8) (v3 : List (List UInt8)) (v4 : List UInt8) (v5 : Bool) (v6 : Bool) (v7 : Int) (v8 : Int) (v9 : List ApiIns) (v10 : List ApiMap) (v11 : List ApiTrap) : Option (Bool) :=
  (slices_IndexFunc_api_Trap_api_Trap v1 v2 v3 v4 v5 v6 v7 v8 v9 v10 v11).bind fun v12=>some (decide (0 ≤ v12))
theorem slices_ContainsFunc_api_Trap_api_Trap_ok (v1 : List ApiTrap) (v2 : List UInt8) (v3 : List (List UInt8)) (v4 : List UInt8) (v5 : Bool) (v6 : Bool) (v7 : Int) (v8 : Int) (v9 : List ApiIns) (v10 : List ApiMap) (v11 : List ApiTrap) {r : Bool} (h : slices_ContainsFunc_api_Trap_api_Trap v1 v2 v3 v4 v5 v6 v7 v8 v9 v10 v11 = some r) : PureC Tryz.prog 189 [.isl 4 (List.map rApiTrap v1),.fn (.func 190) [] [.ipt 10 [[sA v2,.isl 1 (List.map rStr v3),sA v4,bA v5,bA v6,iA v7,iA v8,.isl 4 (List.map rApiIns v9),.isl 3 (List.map rApiMap v10),.isl 4 (List.map rApiTrap v11)]] 0 0]] (bA r):=by
 refine pure_fn Tryz.func189 j0 (by kernel_rfl) j0 j0 ?_
 unfold slices_ContainsFunc_api_Trap_api_Trap at h
 refine rg j0<|u<|asg j0<|r_nil ?_
 obtain ⟨v12,q1,h⟩:=bs h
 refine rg j0<|u<|mv j0<|u<|mv j0<|u<|pc (slices_IndexFunc_api_Trap_api_Trap_ok v1 v2 v3 v4 v5 v6 v7 v8 v9 v10 v11 q1) j0 j0 j0<|u<|geq ti3 j0 j0<|u<|asg j0<|r_nil ?_
 refine sw_ret ?_
 obtain rfl:=sm h
 exact ⟨_,j0,[],ci j0,j0,j5,j0,j1⟩
def class_traps (v1 : ApiMethod) : Option (Bool) :=
  (slices_ContainsFunc_api_Trap_api_Trap v1.Traps v1.Name v1.Params v1.Ret v1.Static v1.Abstract v1.Locals v1.Stack v1.Code v1.Maps v1.Traps).bind fun v2=>some ((!v2) && (decide ((List.length v1.Traps : Int) ≤ 6)))
theorem class_traps_ok (v1 : ApiMethod) {r : Bool} (h : class_traps v1 = some r) : PureC Tryz.prog 136 [.agg [sA v1.Name,.isl 1 (List.map rStr v1.Params),sA v1.Ret,bA v1.Static,bA v1.Abstract,iA v1.Locals,iA v1.Stack,.isl 4 (List.map rApiIns v1.Code),.isl 3 (List.map rApiMap v1.Maps),.isl 4 (List.map rApiTrap v1.Traps)]] (bA r):=by
 refine pure_fn Tryz.func136 j0 (by kernel_rfl) j0 j0 ?_
 unfold class_traps at h
 refine rg j0<|u<|bx 0 10 j0 j0 j0 j0<|u<|asg j0<|r_nil ?_
 obtain ⟨v2,q1,h⟩:=bs h
 refine rg j0<|u<|fa ti62 j0 j0 j0<|u<|ld ti60 j0 j0<|u<|mf j0 j0<|u<|pcs (slices_ContainsFunc_api_Trap_api_Trap_ok v1.Traps v1.Name v1.Params v1.Ret v1.Static v1.Abstract v1.Locals v1.Stack v1.Code v1.Maps v1.Traps q1) j0 j0 (.cons (si j0) (.cons (sealFn j5 ⟨(sealBox j0 ⟨(si j0),(si j0),(si j0),(si j0),(si j0),(si j0),(si j0),(si j0),(si j0),(si j0),j5⟩),j5⟩) .nil)) plainB<|u<|asg j0<|r_nil ?_
 refine rg j0<|u<|mv j0<|u<|nt j0<|u<|mv j0<|r_and (j:=2) 4 j0 j0 j0 j0 j0 gpn (fun hb2=>g j0 hb2<|fa ti62 j0 j0 j0<|g j0 hb2<|ld ti60 j0 j0<|g j0 hb2<|lnI ti60 j0 j0<|g j0 hb2<|leq ti3 j0 j0<|r_nil (egA [11,12,13,14] 4 hb2 j0 j0 j0 j0)) andF<|u<|asg j0<|r_nil ?_
 refine sw_ret ?_
 obtain rfl:=sm h
 exact ⟨_,j0,[],ci j0,j0,j5,j0,j1⟩
def class_method_j1 (v10 : Bool) : Option (Bool) :=
  some v10
def class_method (v1 : ApiMethod) : Option (Bool) :=
  (kind_Name v1.Name).bind fun v2=>(cond ((!v2) || (decide (6 < (List.length v1.Params : Int)))) (some true) ((class_types v1.Params).bind fun v3=>some (!v3))).bind fun v4=>(cond v4 (some true) ((kind_Ret v1.Ret).bind fun v5=>some (!v5))).bind fun v6=>cond v6 (some false) (cond v1.Abstract (some (class_empty v1)) (cond ((v1.Name == [36,105,110,105,116]) && (((!v1.Static) || (decide (0 < (List.length v1.Params : Int)))) || (!(v1.Ret == [86])))) (some false) (cond (class_between v1.Locals (class_args v1) 16) (cond (class_between v1.Stack 0 16) ((class_instructions v1).bind fun v7=>cond v7 ((class_maps v1).bind fun v8=>cond v8 ((class_traps v1).bind fun v9=>class_method_j1 v9) (class_method_j1 false)) (class_method_j1 false)) (class_method_j1 false)) (class_method_j1 false))))
theorem class_method_ok (v1 : ApiMethod) {r : Bool} (h : class_method v1 = some r) : PureC Tryz.prog 101 [.agg [sA v1.Name,.isl 1 (List.map rStr v1.Params),sA v1.Ret,bA v1.Static,bA v1.Abstract,iA v1.Locals,iA v1.Stack,.isl 4 (List.map rApiIns v1.Code),.isl 3 (List.map rApiMap v1.Maps),.isl 4 (List.map rApiTrap v1.Traps)]] (bA r):=by
 refine pure_fn Tryz.func101 j0 (by kernel_rfl) j0 j0 ?_
 unfold class_method at h
 refine rg j0<|u<|bx 0 10 j0 j0 j0 j0<|u<|asg j0<|r_nil ?_
 refine sw_seq ?_
 obtain ⟨v2,q1,h⟩:=bs h
 obtain ⟨v4,q5,h⟩:=bs h
 obtain ⟨v6,q8,h⟩:=bs h
 refine rg j0<|u<|fa ti62 j0 j0 j0<|u<|ld ti9 j0 j0<|u<|pc (kind_Name_ok v1.Name q1) j0 j0 j0<|u<|nt j0<|u<|mv j0<|r_or (j:=4) 4 j0 j0 j0 j0 j0 gpn (fun hb2=>g j0 hb2<|fa ti62 j0 j0 j0<|g j0 hb2<|ld ti32 j0 j0<|g j0 hb2<|lnI ti32 j0 j0<|g j0 hb2<|gtr ti3 j0 j0<|r_nil (egO [8,9,10,11] 4 hb2 j0 j0 j0 j0)) orT<|u<|mv j0<|r_or (x:=v4) (j:=10) 4 j0 j0 j0 j0 j0 gpn (fun hb3=>by replace q5:=bF hb3 q5; obtain ⟨v3,q4,q5⟩:=bs q5; obtain rfl:=sm q5; exact g j0 hb3<|fa ti62 j0 j0 j0<|g j0 hb3<|ld ti32 j0 j0<|g j0 hb3<|pc (class_types_ok v1.Params q4) j0 j0 j0<|g j0 hb3<|nt j0<|r_nil (eg [14,15,16,17] 4 j0 j0 j0 j0)) (fun hb=>(sm (bT hb q5)).symm)<|u<|mv j0<|r_or (x:=v6) (j:=16) 4 j0 j0 j0 j0 j0 gpn (fun hb6=>by replace q8:=bF hb6 q8; obtain ⟨v5,q7,q8⟩:=bs q8; obtain rfl:=sm q8; exact g j0 hb6<|fa ti62 j0 j0 j0<|g j0 hb6<|ld ti9 j0 j0<|g j0 hb6<|pc (kind_Ret_ok v1.Ret q7) j0 j0 j0<|g j0 hb6<|nt j0<|r_nil (eg [20,21,22,23] 4 j0 j0 j0 j0)) (fun hb=>(sm (bT hb q8)).symm)<|r_nil ?_
 refine sw_cond j0 (fun hc9=>?_) (fun hc9=>?_)
 ·
  replace h:=bT hc9 h
  refine rg j0<|u<|asg j0<|r_nil ?_
  refine sw_ret ?_
  obtain rfl:=sm h
  exact ⟨_,j0,[],ci j0,j0,j5,j0,j1⟩
 ·
  replace h:=bF hc9 h
  refine sw_skip ?_
  refine sw_seq ?_
  refine rg j0<|u<|fa ti62 j0 j0 j0<|u<|ld ti4 j0 j0<|r_nil ?_
  refine sw_cond j0 (fun hc10=>?_) (fun hc10=>?_)
  ·
   replace h:=bT hc10 h
   refine rg j0<|u<|ld ti62 j0 j0<|u<|pc (class_empty_ok v1 j0) j0 j0 j0<|u<|asg j0<|r_nil ?_
   refine sw_ret ?_
   obtain rfl:=sm h
   exact ⟨_,j0,[],ci j0,j0,j5,j0,j1⟩
  ·
   replace h:=bF hc10 h
   refine sw_skip ?_
   refine sw_seq ?_
   refine rg j0<|u<|fa ti62 j0 j0 j0<|u<|ld ti9 j0 j0<|u<|seq ti9 j0 j0<|u<|mv j0<|r_and (j:=3) 14 j0 j0 j0 j0 j0 gpn (fun hb11=>g j0 hb11<|fa ti62 j0 j0 j0<|g j0 hb11<|ld ti4 j0 j0<|g j0 hb11<|nt j0<|g j0 hb11<|mv j0<|r_or (j:=7) 4 j0 j0 j0 j0 j0 (gps j0 j0 hb11) (fun hb12=>g j0 hb12<|fa ti62 j0 j0 j0<|g j0 hb12<|ld ti32 j0 j0<|g j0 hb12<|lnI ti32 j0 j0<|g j0 hb12<|gtr ti3 j0 j0<|r_nil (egO [37,38,39,40] 4 hb12 j0 j0 j0 j0)) orT<|g j0 hb11<|mv j0<|r_or (j:=13) 3 j0 j0 j0 j0 j0 (gps j0 j0 hb11) (fun hb13=>g j0 hb13<|fa ti62 j0 j0 j0<|g j0 hb13<|ld ti9 j0 j0<|g j0 hb13<|sne ti9 j0 j0<|r_nil (egO [43,44,45] 3 hb13 j0 j0 j0 j0)) orT<|r_nil (egA [33,34,35,36,37,38,39,40,41,42,43,44,45,46] 7 hb11 j0 j0 j0 j0)) andF<|r_nil ?_
   refine sw_cond j0 (fun hc14=>?_) (fun hc14=>?_)
   ·
    replace h:=bT hc14 h
    refine rg j0<|u<|asg j0<|r_nil ?_
    refine sw_ret ?_
    obtain rfl:=sm h
    exact ⟨_,j0,[],ci j0,j0,j5,j0,j1⟩
   ·
    replace h:=bF hc14 h
    refine sw_skip ?_
    refine sw_meet (X:=Bool) (fun z=>[(2,bA z)]) (fun z=>[]) (fun z=>class_method_j1 z = some r) ?_ ?_
    ·
     rcases bb (class_between v1.Locals (class_args v1) 16) with hb15 | hb15
     ·
      replace h:=bT hb15 h
      rcases bb (class_between v1.Stack 0 16) with hb16 | hb16
      ·
       replace h:=bT hb16 h
       obtain ⟨v7,q17,h⟩:=bs h
       rcases bb v7 with hb18 | hb18
       ·
        replace h:=bT hb18 h
        obtain ⟨v8,q19,h⟩:=bs h
        rcases bb v8 with hb20 | hb20
        ·
         replace h:=bT hb20 h
         obtain ⟨v9,q21,h⟩:=bs h
         exact sw_region_dt [] [22,21,20,19,18,17,16,15,14,13,12,11,10,9,8,7,6,5,4,3,2,1,0] [(2,bA v9),(69,bA v9),(68,bA v9),(67,.agg [sA v1.Name,.isl 1 (List.map rStr v1.Params),sA v1.Ret,bA v1.Static,bA v1.Abstract,iA v1.Locals,iA v1.Stack,.isl 4 (List.map rApiIns v1.Code),.isl 3 (List.map rApiMap v1.Maps),.isl 4 (List.map rApiTrap v1.Traps)]),(66,bA v8),(65,bA v8),(64,bA v8),(63,.agg [sA v1.Name,.isl 1 (List.map rStr v1.Params),sA v1.Ret,bA v1.Static,bA v1.Abstract,iA v1.Locals,iA v1.Stack,.isl 4 (List.map rApiIns v1.Code),.isl 3 (List.map rApiMap v1.Maps),.isl 4 (List.map rApiTrap v1.Traps)]),(62,bA v7),(61,bA v7),(60,bA v7),(59,.agg [sA v1.Name,.isl 1 (List.map rStr v1.Params),sA v1.Ret,bA v1.Static,bA v1.Abstract,iA v1.Locals,iA v1.Stack,.isl 4 (List.map rApiIns v1.Code),.isl 3 (List.map rApiMap v1.Maps),.isl 4 (List.map rApiTrap v1.Traps)]),(58,bA (class_between v1.Stack 0 16)),(57,bA (class_between v1.Stack 0 16)),(56,bA (class_between v1.Stack 0 16)),(55,iA v1.Stack),(54,.mpt 0 0 6),(53,bA (class_between v1.Locals (class_args v1) 16)),(52,bA (class_between v1.Locals (class_args v1) 16)),(51,iA (class_args v1)),(50,.agg [sA v1.Name,.isl 1 (List.map rStr v1.Params),sA v1.Ret,bA v1.Static,bA v1.Abstract,iA v1.Locals,iA v1.Stack,.isl 4 (List.map rApiIns v1.Code),.isl 3 (List.map rApiMap v1.Maps),.isl 4 (List.map rApiTrap v1.Traps)]),(49,iA v1.Locals),(48,.mpt 0 0 5)] 0 (by kernel_rfl) (by kernel_rfl) j0 (by kernel_rfl) (dt0 ⟨(fun _=>pa j0 j0 j0 j0 (asg j0<|j4)),(fun _=>pa j0 j0 j0 j0 (pkb j0 hb20 j0<|j4)),(fun _=>pag (b:=v8) j0 j0 j0 j0 hb20 j0 (pc (class_traps_ok v1 q21) j0 j0 j0<|j4)),(fun _=>pag (b:=v8) j0 j0 j0 j0 hb20 j0 (ld ti62 j0 j0<|j4)),(fun _=>pa j0 j0 j0 j0 (mv j0<|j4)),(fun _=>pa j0 j0 j0 j0 (pkb j0 hb18 j0<|j4)),(fun _=>pag (b:=v7) j0 j0 j0 j0 hb18 j0 (pc (class_maps_ok v1 q19) j0 j0 j0<|j4)),(fun _=>pag (b:=v7) j0 j0 j0 j0 hb18 j0 (ld ti62 j0 j0<|j4)),(fun _=>pa j0 j0 j0 j0 (mv j0<|j4)),(fun _=>pa j0 j0 j0 j0 (pkb j0 hb16 j0<|j4)),(fun _=>pag (b:=(class_between v1.Stack 0 16)) j0 j0 j0 j0 hb16 j0 (pc (class_instructions_ok v1 q17) j0 j0 j0<|j4)),(fun _=>pag (b:=(class_between v1.Stack 0 16)) j0 j0 j0 j0 hb16 j0 (ld ti62 j0 j0<|j4)),(fun _=>pa j0 j0 j0 j0 (mv j0<|j4)),(fun _=>pa j0 j0 j0 j0 (pkb j0 hb15 j0<|j4)),(fun _=>pag (b:=(class_between v1.Locals (class_args v1) 16)) j0 j0 j0 j0 hb15 j0 (pc (class_between_ok v1.Stack 0 16 j0) j0 j0 j0<|j4)),(fun _=>pag (b:=(class_between v1.Locals (class_args v1) 16)) j0 j0 j0 j0 hb15 j0 (ld ti3 j0 j0<|j4)),(fun _=>pag (b:=(class_between v1.Locals (class_args v1) 16)) j0 j0 j0 j0 hb15 j0 (fa ti62 j0 j0 j0<|j4)),(fun _=>pa j0 j0 j0 j0 (mv j0<|j4)),(fun _=>pa j0 j0 j0 j0 (pc (class_between_ok v1.Locals (class_args v1) 16 j0) j0 j0 j0<|j4)),(fun _=>pa j0 j0 j0 j0 (pc (class_args_ok v1 j0) j0 j0 j0<|j4)),(fun _=>pa j0 j0 j0 j0 (ld ti62 j0 j0<|j4)),(fun _=>pa j0 j0 j0 j0 (ld ti3 j0 j0<|j4)),(fun _=>pa j0 j0 j0 j0 (fa ti62 j0 j0 j0<|j4)),j5⟩ (by kernel_rfl) j0 ⟨v9,h,[],ce j0 j0<|cn,j0,j5,j0,j1⟩)
        ·
         replace h:=bF hb20 h
         exact sw_region_dt [] [22,21,20,19,18,17,16,15,14,13,12,11,10,9,8,7,6,5,4,3,2,1,0] [(2,bA false),(69,bA false),(68,.lit undef),(67,.lit undef),(66,bA v8),(65,bA v8),(64,bA v8),(63,.agg [sA v1.Name,.isl 1 (List.map rStr v1.Params),sA v1.Ret,bA v1.Static,bA v1.Abstract,iA v1.Locals,iA v1.Stack,.isl 4 (List.map rApiIns v1.Code),.isl 3 (List.map rApiMap v1.Maps),.isl 4 (List.map rApiTrap v1.Traps)]),(62,bA v7),(61,bA v7),(60,bA v7),(59,.agg [sA v1.Name,.isl 1 (List.map rStr v1.Params),sA v1.Ret,bA v1.Static,bA v1.Abstract,iA v1.Locals,iA v1.Stack,.isl 4 (List.map rApiIns v1.Code),.isl 3 (List.map rApiMap v1.Maps),.isl 4 (List.map rApiTrap v1.Traps)]),(58,bA (class_between v1.Stack 0 16)),(57,bA (class_between v1.Stack 0 16)),(56,bA (class_between v1.Stack 0 16)),(55,iA v1.Stack),(54,.mpt 0 0 6),(53,bA (class_between v1.Locals (class_args v1) 16)),(52,bA (class_between v1.Locals (class_args v1) 16)),(51,iA (class_args v1)),(50,.agg [sA v1.Name,.isl 1 (List.map rStr v1.Params),sA v1.Ret,bA v1.Static,bA v1.Abstract,iA v1.Locals,iA v1.Stack,.isl 4 (List.map rApiIns v1.Code),.isl 3 (List.map rApiMap v1.Maps),.isl 4 (List.map rApiTrap v1.Traps)]),(49,iA v1.Locals),(48,.mpt 0 0 5)] 0 (by kernel_rfl) (by kernel_rfl) j0 (by kernel_rfl) (dt0 ⟨(fun _=>pa j0 j0 j0 j0 (asg j0<|j4)),(fun _=>pa j0 j0 j0 j0 (pkb j0 hb20 j0<|j4)),(fun _=>pas (b:=v8) j0 j0 j0 j0 hb20 j0),(fun _=>pas (b:=v8) j0 j0 j0 j0 hb20 j0),(fun _=>pa j0 j0 j0 j0 (mv j0<|j4)),(fun _=>pa j0 j0 j0 j0 (pkb j0 hb18 j0<|j4)),(fun _=>pag (b:=v7) j0 j0 j0 j0 hb18 j0 (pc (class_maps_ok v1 q19) j0 j0 j0<|j4)),(fun _=>pag (b:=v7) j0 j0 j0 j0 hb18 j0 (ld ti62 j0 j0<|j4)),(fun _=>pa j0 j0 j0 j0 (mv j0<|j4)),(fun _=>pa j0 j0 j0 j0 (pkb j0 hb16 j0<|j4)),(fun _=>pag (b:=(class_between v1.Stack 0 16)) j0 j0 j0 j0 hb16 j0 (pc (class_instructions_ok v1 q17) j0 j0 j0<|j4)),(fun _=>pag (b:=(class_between v1.Stack 0 16)) j0 j0 j0 j0 hb16 j0 (ld ti62 j0 j0<|j4)),(fun _=>pa j0 j0 j0 j0 (mv j0<|j4)),(fun _=>pa j0 j0 j0 j0 (pkb j0 hb15 j0<|j4)),(fun _=>pag (b:=(class_between v1.Locals (class_args v1) 16)) j0 j0 j0 j0 hb15 j0 (pc (class_between_ok v1.Stack 0 16 j0) j0 j0 j0<|j4)),(fun _=>pag (b:=(class_between v1.Locals (class_args v1) 16)) j0 j0 j0 j0 hb15 j0 (ld ti3 j0 j0<|j4)),(fun _=>pag (b:=(class_between v1.Locals (class_args v1) 16)) j0 j0 j0 j0 hb15 j0 (fa ti62 j0 j0 j0<|j4)),(fun _=>pa j0 j0 j0 j0 (mv j0<|j4)),(fun _=>pa j0 j0 j0 j0 (pc (class_between_ok v1.Locals (class_args v1) 16 j0) j0 j0 j0<|j4)),(fun _=>pa j0 j0 j0 j0 (pc (class_args_ok v1 j0) j0 j0 j0<|j4)),(fun _=>pa j0 j0 j0 j0 (ld ti62 j0 j0<|j4)),(fun _=>pa j0 j0 j0 j0 (ld ti3 j0 j0<|j4)),(fun _=>pa j0 j0 j0 j0 (fa ti62 j0 j0 j0<|j4)),j5⟩ (by kernel_rfl) j0 ⟨false,h,[],ce j0 j0<|cn,j0,j5,j0,j1⟩)
       ·
        replace h:=bF hb18 h
        exact sw_region_dt [] [22,21,20,19,18,17,16,15,14,13,12,11,10,9,8,7,6,5,4,3,2,1,0] [(2,bA false),(69,bA false),(68,.lit undef),(67,.lit undef),(66,bA false),(65,bA false),(64,.lit undef),(63,.lit undef),(62,bA v7),(61,bA v7),(60,bA v7),(59,.agg [sA v1.Name,.isl 1 (List.map rStr v1.Params),sA v1.Ret,bA v1.Static,bA v1.Abstract,iA v1.Locals,iA v1.Stack,.isl 4 (List.map rApiIns v1.Code),.isl 3 (List.map rApiMap v1.Maps),.isl 4 (List.map rApiTrap v1.Traps)]),(58,bA (class_between v1.Stack 0 16)),(57,bA (class_between v1.Stack 0 16)),(56,bA (class_between v1.Stack 0 16)),(55,iA v1.Stack),(54,.mpt 0 0 6),(53,bA (class_between v1.Locals (class_args v1) 16)),(52,bA (class_between v1.Locals (class_args v1) 16)),(51,iA (class_args v1)),(50,.agg [sA v1.Name,.isl 1 (List.map rStr v1.Params),sA v1.Ret,bA v1.Static,bA v1.Abstract,iA v1.Locals,iA v1.Stack,.isl 4 (List.map rApiIns v1.Code),.isl 3 (List.map rApiMap v1.Maps),.isl 4 (List.map rApiTrap v1.Traps)]),(49,iA v1.Locals),(48,.mpt 0 0 5)] 0 (by kernel_rfl) (by kernel_rfl) j0 (by kernel_rfl) (dt0 ⟨(fun _=>pa j0 j0 j0 j0 (asg j0<|j4)),(fun _=>pa j0 j0 j0 j0 (pk (b:=false) j0 j0<|j4)),(fun _=>pas (b:=false) j0 j0 j0 j0 j0 j0),(fun _=>pas (b:=false) j0 j0 j0 j0 j0 j0),(fun _=>pa j0 j0 j0 j0 (mv j0<|j4)),(fun _=>pa j0 j0 j0 j0 (pkb j0 hb18 j0<|j4)),(fun _=>pas (b:=v7) j0 j0 j0 j0 hb18 j0),(fun _=>pas (b:=v7) j0 j0 j0 j0 hb18 j0),(fun _=>pa j0 j0 j0 j0 (mv j0<|j4)),(fun _=>pa j0 j0 j0 j0 (pkb j0 hb16 j0<|j4)),(fun _=>pag (b:=(class_between v1.Stack 0 16)) j0 j0 j0 j0 hb16 j0 (pc (class_instructions_ok v1 q17) j0 j0 j0<|j4)),(fun _=>pag (b:=(class_between v1.Stack 0 16)) j0 j0 j0 j0 hb16 j0 (ld ti62 j0 j0<|j4)),(fun _=>pa j0 j0 j0 j0 (mv j0<|j4)),(fun _=>pa j0 j0 j0 j0 (pkb j0 hb15 j0<|j4)),(fun _=>pag (b:=(class_between v1.Locals (class_args v1) 16)) j0 j0 j0 j0 hb15 j0 (pc (class_between_ok v1.Stack 0 16 j0) j0 j0 j0<|j4)),(fun _=>pag (b:=(class_between v1.Locals (class_args v1) 16)) j0 j0 j0 j0 hb15 j0 (ld ti3 j0 j0<|j4)),(fun _=>pag (b:=(class_between v1.Locals (class_args v1) 16)) j0 j0 j0 j0 hb15 j0 (fa ti62 j0 j0 j0<|j4)),(fun _=>pa j0 j0 j0 j0 (mv j0<|j4)),(fun _=>pa j0 j0 j0 j0 (pc (class_between_ok v1.Locals (class_args v1) 16 j0) j0 j0 j0<|j4)),(fun _=>pa j0 j0 j0 j0 (pc (class_args_ok v1 j0) j0 j0 j0<|j4)),(fun _=>pa j0 j0 j0 j0 (ld ti62 j0 j0<|j4)),(fun _=>pa j0 j0 j0 j0 (ld ti3 j0 j0<|j4)),(fun _=>pa j0 j0 j0 j0 (fa ti62 j0 j0 j0<|j4)),j5⟩ (by kernel_rfl) j0 ⟨false,h,[],ce j0 j0<|cn,j0,j5,j0,j1⟩)
      ·
       replace h:=bF hb16 h
       exact sw_region_dt [] [22,21,20,19,18,17,16,15,14,13,12,11,10,9,8,7,6,5,4,3,2,1,0] [(2,bA false),(69,bA false),(68,.lit undef),(67,.lit undef),(66,bA false),(65,bA false),(64,.lit undef),(63,.lit undef),(62,bA false),(61,bA false),(60,.lit undef),(59,.lit undef),(58,bA (class_between v1.Stack 0 16)),(57,bA (class_between v1.Stack 0 16)),(56,bA (class_between v1.Stack 0 16)),(55,iA v1.Stack),(54,.mpt 0 0 6),(53,bA (class_between v1.Locals (class_args v1) 16)),(52,bA (class_between v1.Locals (class_args v1) 16)),(51,iA (class_args v1)),(50,.agg [sA v1.Name,.isl 1 (List.map rStr v1.Params),sA v1.Ret,bA v1.Static,bA v1.Abstract,iA v1.Locals,iA v1.Stack,.isl 4 (List.map rApiIns v1.Code),.isl 3 (List.map rApiMap v1.Maps),.isl 4 (List.map rApiTrap v1.Traps)]),(49,iA v1.Locals),(48,.mpt 0 0 5)] 0 (by kernel_rfl) (by kernel_rfl) j0 (by kernel_rfl) (dt0 ⟨(fun _=>pa j0 j0 j0 j0 (asg j0<|j4)),(fun _=>pa j0 j0 j0 j0 (pk (b:=false) j0 j0<|j4)),(fun _=>pas (b:=false) j0 j0 j0 j0 j0 j0),(fun _=>pas (b:=false) j0 j0 j0 j0 j0 j0),(fun _=>pa j0 j0 j0 j0 (mv j0<|j4)),(fun _=>pa j0 j0 j0 j0 (pk (b:=false) j0 j0<|j4)),(fun _=>pas (b:=false) j0 j0 j0 j0 j0 j0),(fun _=>pas (b:=false) j0 j0 j0 j0 j0 j0),(fun _=>pa j0 j0 j0 j0 (mv j0<|j4)),(fun _=>pa j0 j0 j0 j0 (pkb j0 hb16 j0<|j4)),(fun _=>pas (b:=(class_between v1.Stack 0 16)) j0 j0 j0 j0 hb16 j0),(fun _=>pas (b:=(class_between v1.Stack 0 16)) j0 j0 j0 j0 hb16 j0),(fun _=>pa j0 j0 j0 j0 (mv j0<|j4)),(fun _=>pa j0 j0 j0 j0 (pkb j0 hb15 j0<|j4)),(fun _=>pag (b:=(class_between v1.Locals (class_args v1) 16)) j0 j0 j0 j0 hb15 j0 (pc (class_between_ok v1.Stack 0 16 j0) j0 j0 j0<|j4)),(fun _=>pag (b:=(class_between v1.Locals (class_args v1) 16)) j0 j0 j0 j0 hb15 j0 (ld ti3 j0 j0<|j4)),(fun _=>pag (b:=(class_between v1.Locals (class_args v1) 16)) j0 j0 j0 j0 hb15 j0 (fa ti62 j0 j0 j0<|j4)),(fun _=>pa j0 j0 j0 j0 (mv j0<|j4)),(fun _=>pa j0 j0 j0 j0 (pc (class_between_ok v1.Locals (class_args v1) 16 j0) j0 j0 j0<|j4)),(fun _=>pa j0 j0 j0 j0 (pc (class_args_ok v1 j0) j0 j0 j0<|j4)),(fun _=>pa j0 j0 j0 j0 (ld ti62 j0 j0<|j4)),(fun _=>pa j0 j0 j0 j0 (ld ti3 j0 j0<|j4)),(fun _=>pa j0 j0 j0 j0 (fa ti62 j0 j0 j0<|j4)),j5⟩ (by kernel_rfl) j0 ⟨false,h,[],ce j0 j0<|cn,j0,j5,j0,j1⟩)
     ·
      replace h:=bF hb15 h
      exact sw_region_dt [] [22,21,20,19,18,17,16,15,14,13,12,11,10,9,8,7,6,5,4,3,2,1,0] [(2,bA false),(69,bA false),(68,.lit undef),(67,.lit undef),(66,bA false),(65,bA false),(64,.lit undef),(63,.lit undef),(62,bA false),(61,bA false),(60,.lit undef),(59,.lit undef),(58,bA false),(57,bA false),(56,.lit undef),(55,.lit undef),(54,.lit undef),(53,bA (class_between v1.Locals (class_args v1) 16)),(52,bA (class_between v1.Locals (class_args v1) 16)),(51,iA (class_args v1)),(50,.agg [sA v1.Name,.isl 1 (List.map rStr v1.Params),sA v1.Ret,bA v1.Static,bA v1.Abstract,iA v1.Locals,iA v1.Stack,.isl 4 (List.map rApiIns v1.Code),.isl 3 (List.map rApiMap v1.Maps),.isl 4 (List.map rApiTrap v1.Traps)]),(49,iA v1.Locals),(48,.mpt 0 0 5)] 0 (by kernel_rfl) (by kernel_rfl) j0 (by kernel_rfl) (dt0 ⟨(fun _=>pa j0 j0 j0 j0 (asg j0<|j4)),(fun _=>pa j0 j0 j0 j0 (pk (b:=false) j0 j0<|j4)),(fun _=>pas (b:=false) j0 j0 j0 j0 j0 j0),(fun _=>pas (b:=false) j0 j0 j0 j0 j0 j0),(fun _=>pa j0 j0 j0 j0 (mv j0<|j4)),(fun _=>pa j0 j0 j0 j0 (pk (b:=false) j0 j0<|j4)),(fun _=>pas (b:=false) j0 j0 j0 j0 j0 j0),(fun _=>pas (b:=false) j0 j0 j0 j0 j0 j0),(fun _=>pa j0 j0 j0 j0 (mv j0<|j4)),(fun _=>pa j0 j0 j0 j0 (pk (b:=false) j0 j0<|j4)),(fun _=>pas (b:=false) j0 j0 j0 j0 j0 j0),(fun _=>pas (b:=false) j0 j0 j0 j0 j0 j0),(fun _=>pa j0 j0 j0 j0 (mv j0<|j4)),(fun _=>pa j0 j0 j0 j0 (pkb j0 hb15 j0<|j4)),(fun _=>pas (b:=(class_between v1.Locals (class_args v1) 16)) j0 j0 j0 j0 hb15 j0),(fun _=>pas (b:=(class_between v1.Locals (class_args v1) 16)) j0 j0 j0 j0 hb15 j0),(fun _=>pas (b:=(class_between v1.Locals (class_args v1) 16)) j0 j0 j0 j0 hb15 j0),(fun _=>pa j0 j0 j0 j0 (mv j0<|j4)),(fun _=>pa j0 j0 j0 j0 (pc (class_between_ok v1.Locals (class_args v1) 16 j0) j0 j0 j0<|j4)),(fun _=>pa j0 j0 j0 j0 (pc (class_args_ok v1 j0) j0 j0 j0<|j4)),(fun _=>pa j0 j0 j0 j0 (ld ti62 j0 j0<|j4)),(fun _=>pa j0 j0 j0 j0 (ld ti3 j0 j0<|j4)),(fun _=>pa j0 j0 j0 j0 (fa ti62 j0 j0 j0<|j4)),j5⟩ (by kernel_rfl) j0 ⟨false,h,[],ce j0 j0<|cn,j0,j5,j0,j1⟩)
    ·
     rintro v10 h
     replace h : class_method_j1 v10 = some r:=h
     unfold class_method_j1 at h
     refine sw_ret ?_
     obtain rfl:=sm h
     exact ⟨_,j0,[],ci j0,j0,j5,j0,j1⟩
def class_May_4 (v1 : ApiMethod) (v2 : List UInt8) (v3 : List UInt8) (v4 : Bool) (v5 : List (List UInt8)) (v6 : List ApiField) (v7 : List ApiMethod) : Option (Bool) :=
  (cond (v1.Abstract == v4) ((class_method v1).bind fun v8=>some v8) (some false)).bind fun v9=>some v9
theorem class_May_4_ok (v1 : ApiMethod) (v2 : List UInt8) (v3 : List UInt8) (v4 : Bool) (v5 : List (List UInt8)) (v6 : List ApiField) (v7 : List ApiMethod) {r : Bool} (h : class_May_4 v1 v2 v3 v4 v5 v6 v7 = some r) : PureC Tryz.prog 100 [.agg [sA v1.Name,.isl 1 (List.map rStr v1.Params),sA v1.Ret,bA v1.Static,bA v1.Abstract,iA v1.Locals,iA v1.Stack,.isl 4 (List.map rApiIns v1.Code),.isl 3 (List.map rApiMap v1.Maps),.isl 4 (List.map rApiTrap v1.Traps)],.ipt 6 [[sA v2,sA v3,bA v4,.isl 1 (List.map rStr v5),.isl 3 (List.map rApiField v6),.isl 10 (List.map rApiMethod v7)]] 0 0] (bA r):=by
 refine pure_fn Tryz.func100 j0 (by kernel_rfl) j0 j0 ?_
 unfold class_May_4 at h
 refine rg j0<|u<|bx 0 10 j0 j0 j0 j0<|u<|asg j0<|r_nil ?_
 obtain ⟨v9,q3,h⟩:=bs h
 refine rg j0<|u<|fa ti62 j0 j0 j0<|u<|ld ti4 j0 j0<|u<|fa ti42 j0 j0 j0<|u<|ld ti4 j0 j0<|u<|beq ti4 j0 j0 j0<|u<|mv j0<|r_and (x:=v9) (j:=5) 2 j0 j0 j0 j0 j0 gpn (fun hb1=>by replace q3:=bT hb1 q3; obtain ⟨v8,q2,q3⟩:=bs q3; obtain rfl:=sm q3; exact g j0 hb1<|ld ti62 j0 j0<|g j0 hb1<|pc (class_method_ok v1 q2) j0 j0 j0<|r_nil (eg [10,11] 2 j0 j0 j0 j0)) (fun hb=>(sm (bF hb q3)).symm)<|u<|asg j0<|r_nil ?_
 refine sw_ret ?_
 obtain rfl:=sm h
 exact ⟨_,j0,[],ci j0,j0,j5,j0,j1⟩
def class_May_3 (v1 : ApiMethod) : (List UInt8) :=
  v1.Name
theorem class_May_3_ok (v1 : ApiMethod) {r : (List UInt8)} (h : class_May_3 v1 = r) : PureC Tryz.prog 99 [.agg [sA v1.Name,.isl 1 (List.map rStr v1.Params),sA v1.Ret,bA v1.Static,bA v1.Abstract,iA v1.Locals,iA v1.Stack,.isl 4 (List.map rApiIns v1.Code),.isl 3 (List.map rApiMap v1.Maps),.isl 4 (List.map rApiTrap v1.Traps)]] (sA r):=by
 refine pure_fn Tryz.func99 j0 (by kernel_rfl) j0 j0 ?_
 unfold class_May_3 at h
 refine rg j0<|u<|bx 0 10 j0 j0 j0 j0<|u<|asg j0<|r_nil ?_
 refine rg j0<|u<|fa ti62 j0 j0 j0<|u<|ld ti9 j0 j0<|u<|asg j0<|r_nil ?_
 refine sw_ret ?_
 obtain rfl:=h
 exact ⟨_,j0,[],ci j0,j0,j5,j0,j1⟩
def class_all_api_Method_1 (v1 : ApiMethod) (v2 : List UInt8) (v3 : List (List UInt8)) (v4 : List UInt8) (v5 : Bool) (v6 : Bool) (v7 : Int) (v8 : Int) (v9 : List ApiIns) (v10 : List ApiMap) (v11 : List ApiTrap) : Bool :=
  ((class_May_3 (ApiMethod.mk v2 v3 v4 v5 v6 v7 v8 v9 v10 v11)) == (class_May_3 v1))
theorem class_all_api_Method_1_ok (v1 : ApiMethod) (v2 : List UInt8) (v3 : List (List UInt8)) (v4 : List UInt8) (v5 : Bool) (v6 : Bool) (v7 : Int) (v8 : Int) (v9 : List ApiIns) (v10 : List ApiMap) (v11 : List ApiTrap) {r : Bool} (h : class_all_api_Method_1 v1 v2 v3 v4 v5 v6 v7 v8 v9 v10 v11 = r) : PureC Tryz.prog 128 [.agg [sA v1.Name,.isl 1 (List.map rStr v1.Params),sA v1.Ret,bA v1.Static,bA v1.Abstract,iA v1.Locals,iA v1.Stack,.isl 4 (List.map rApiIns v1.Code),.isl 3 (List.map rApiMap v1.Maps),.isl 4 (List.map rApiTrap v1.Traps)],.ipt 1 [[.fn (.func 99) [] []]] 0 0,.ipt 10 [[sA v2,.isl 1 (List.map rStr v3),sA v4,bA v5,bA v6,iA v7,iA v8,.isl 4 (List.map rApiIns v9),.isl 3 (List.map rApiMap v10),.isl 4 (List.map rApiTrap v11)]] 0 0] (bA r):=by
 refine pure_fn Tryz.func128 j0 (by kernel_rfl) j0 j0 ?_
 unfold class_all_api_Method_1 at h
 refine rg j0<|u<|bx 0 10 j0 j0 j0 j0<|u<|asg j0<|r_nil ?_
 refine rd [(4,bA ((class_May_3 (ApiMethod.mk v2 v3 v4 v5 v6 v7 v8 v9 v10 v11)) == (class_May_3 v1)))] [] [] [7,6,5,4,3,2,1,0] [(4,bA ((class_May_3 (ApiMethod.mk v2 v3 v4 v5 v6 v7 v8 v9 v10 v11)) == (class_May_3 v1))),(11,bA ((class_May_3 (ApiMethod.mk v2 v3 v4 v5 v6 v7 v8 v9 v10 v11)) == (class_May_3 v1))),(10,sA (class_May_3 v1)),(9,.agg [sA v1.Name,.isl 1 (List.map rStr v1.Params),sA v1.Ret,bA v1.Static,bA v1.Abstract,iA v1.Locals,iA v1.Stack,.isl 4 (List.map rApiIns v1.Code),.isl 3 (List.map rApiMap v1.Maps),.isl 4 (List.map rApiTrap v1.Traps)]),(8,.fn (.func 99) [] []),(7,sA (class_May_3 (ApiMethod.mk v2 v3 v4 v5 v6 v7 v8 v9 v10 v11))),(6,.agg [sA v2,.isl 1 (List.map rStr v3),sA v4,bA v5,bA v6,iA v7,iA v8,.isl 4 (List.map rApiIns v9),.isl 3 (List.map rApiMap v10),.isl 4 (List.map rApiTrap v11)]),(5,.fn (.func 99) [] [])] 0 (by kernel_rfl) (by kernel_rfl) j0 (by kernel_rfl) (dt0 ⟨(fun _=>pa j0 j0 j0 j0 (asg j0<|j4)),(fun _=>pa j0 j0 j0 j0 (seq ti9 j0 j0<|j4)),(fun _=>pa j0 j0 j0 j0 (pc (class_May_3_ok v1 j0) j0 j0 j0<|j4)),(fun _=>pa j0 j0 j0 j0 (ld ti62 j0 j0<|j4)),(fun _=>pa j0 j0 j0 j0 (ld ti116 j0 j0<|j4)),(fun _=>pa j0 j0 j0 j0 (pc (class_May_3_ok (ApiMethod.mk v2 v3 v4 v5 v6 v7 v8 v9 v10 v11) j0) j0 j0 j0<|j4)),(fun _=>pa j0 j0 j0 j0 (ld ti62 j0 j0<|j4)),(fun _=>pa j0 j0 j0 j0 (ld ti116 j0 j0<|j4)),j5⟩ (by kernel_rfl) j0 ⟨[],ce j0 j0<|cn,j0,j5,j0,j1⟩) ?_
 refine sw_ret ?_
 obtain rfl:=h
 exact ⟨_,j0,[],ci j0,j0,j5,j0,j1⟩
def slices_IndexFunc_api_Method_api_Method_k2 : Option (Int) :=
  some (-1)
def slices_IndexFunc_api_Method_api_Method_l1 (v1 : List ApiMethod) (v2 : List UInt8) (v3 : List (List UInt8)) (v4 : List UInt8) (v5 : Bool) (v6 : Bool) (v7 : Int) (v8 : Int) (v9 : List ApiIns) (v10 : List ApiMap) (v11 : List ApiTrap) (v14 : Int) : Option (Sum (Int) (Sum (Unit) (Int))) :=
  cond (decide (v14 < (List.length v1 : Int))) ((idx v1 v14).bind fun v15=>cond (class_all_api_Method_1 v15 v2 v3 v4 v5 v6 v7 v8 v9 v10 v11) (some (.inr (.inr v14))) (some (.inl (IntKind.i64.wrap (v14 + 1))))) (some (.inr (.inl ())))
def slices_IndexFunc_api_Method_api_Method (v1 : List ApiMethod) (v2 : List UInt8) (v3 : List (List UInt8)) (v4 : List UInt8) (v5 : Bool) (v6 : Bool) (v7 : Int) (v8 : Int) (v9 : List ApiIns) (v10 : List ApiMap) (v11 : List ApiTrap) : Option (Int) :=
  (loopP (fun z=>slices_IndexFunc_api_Method_api_Method_l1 v1 v2 v3 v4 v5 v6 v7 v8 v9 v10 v11 z) 0).bind fun o=>leave o (fun b=>slices_IndexFunc_api_Method_api_Method_k2) some
theorem slices_IndexFunc_api_Method_api_Method_ok (v1 : List ApiMethod) (v2 : List UInt8) (v3 : List (List UInt8)) (v4 : List UInt8) (v5 : Bool) (v6 : Bool) (v7 : Int) (v8 : Int) (v9 : List ApiIns) (v10 : List ApiMap) (v11 : List ApiTrap) {r : Int} (h : slices_IndexFunc_api_Method_api_Method v1 v2 v3 v4 v5 v6 v7 v8 v9 v10 v11 = some r) : PureC Tryz.prog 158 [.isl 10 (List.map rApiMethod v1),.fn (.func 128) [] [.ipt 1 [[.fn (.func 99) [] []]] 0 0,.ipt 10 [[sA v2,.isl 1 (List.map rStr v3),sA v4,bA v5,bA v6,iA v7,iA v8,.isl 4 (List.map rApiIns v9),.isl 3 (List.map rApiMap v10),.isl 4 (List.map rApiTrap v11)]] 0 0]] (iA r):=by
 refine pure_fn Tryz.func158 j0 (by kernel_rfl) j0 j0 ?_
 unfold slices_IndexFunc_api_Method_api_Method at h
 refine rg j0<|u<|asg j0<|r_nil ?_
 refine sw_seq ?_
 refine rg j0<|u<|mv j0<|u<|lnI ti40 j0 j0<|u<|mv j0<|r_nil ?_
 obtain ⟨o,ho,h⟩:=bs h
 refine sw_lpl (X:=Int) (B:=Unit) (R:=Int) (fun z=>[(0,.isl 10 (List.map rApiMethod v1)),(1,.fn (.func 128) [] [.ipt 1 [[.fn (.func 99) [] []]] 0 0,.ipt 10 [[sA v2,.isl 1 (List.map rStr v3),sA v4,bA v5,bA v6,iA v7,iA v8,.isl 4 (List.map rApiIns v9),.isl 3 (List.map rApiMap v10),.isl 4 (List.map rApiTrap v11)]] 0 0]),(7,iA (List.length v1 : Int)),(8,iA z)]) (fun z=>[]) (fun b=>[]) (fun b=>[]) (fun r env st=>PostF Tryz.prog Tryz.f158 0 (iA r) [] env st) ho ⟨[],ce j0 j0<|ce j0 j0<|ce j0 j0<|ce j0 j0<|cn,j0,j5,j0,j1⟩ ?_ ?_ ?_
 ·
  rintro v14 r h
  replace h : slices_IndexFunc_api_Method_api_Method_l1 v1 v2 v3 v4 v5 v6 v7 v8 v9 v10 v11 v14 = some r:=h
  unfold slices_IndexFunc_api_Method_api_Method_l1 at h
  refine rg j0<|u<|lss ti3 j0 j0<|r_nil ?_
  refine sw_seq ?_
  refine sw_cond j0 (fun hc4=>?_) (fun hc4=>?_)
  ·
   replace h:=bT hc4 h
   refine sw_skip ?_
   refine sw_seq ?_
   refine sw_block ?_
   refine rg j0<|u<|mv j0<|u<|asg j0<|r_nil ?_
   obtain ⟨v15,q5,h⟩:=bs h
   refine rg j0<|u<|mv j0<|u<|mv j0<|u<|mv j0<|u<|ixI ti40 j0 ti62 j0 j0 j0 q5<|u<|ldI ti62 j0 (idx_some q5).2.2 j0<|u<|pc (class_all_api_Method_1_ok v15 v2 v3 v4 v5 v6 v7 v8 v9 v10 v11 j0) j0 j0 j0<|r_nil ?_
   refine sw_cond j0 (fun hc6=>?_) (fun hc6=>?_)
   ·
    replace h:=bT hc6 h
    refine rg j0<|u<|mv j0<|u<|asg j0<|r_nil ?_
    refine sw_ret ?_
    obtain rfl:=sm h
    exact ⟨_,j0,_,j0,[],ci j0,j0,j5,j0,j1⟩
   ·
    replace h:=bF hc6 h
    refine sw_skip ?_
    refine rl j0<|u<|add ti3 j0 j0<|u<|mv j0<|r_nil ?_
    obtain rfl:=sm h
    exact ⟨_,j0,[],ce j0 j0<|ce j0 j0<|ce j0 j0<|ce j0 j0<|cn,j0,j5,j0,j1⟩
  ·
   replace h:=bF hc4 h
   refine sw_exit ?_
   obtain rfl:=sm h
   exact ⟨j0,_,j0,[],cn,j0,j5,j0,j1⟩
 ·
  rintro ⟨⟩ rfl
  replace h : slices_IndexFunc_api_Method_api_Method_k2 = some r:=h
  unfold slices_IndexFunc_api_Method_api_Method_k2 at h
  refine ow_intro ?_
  refine rg j0<|u<|asg j0<|r_nil ?_
  refine sw_ret ?_
  obtain rfl:=sm h
  exact ⟨_,j0,[],ci j0,j0,j5,j0,j1⟩
 ·
  rintro r' rfl env st hp
  obtain rfl:=sm h
  exact hp
def slices_ContainsFunc_api_Method_api_Method (v1 : List ApiMethod) (v2 : List UInt8) (v3 : List (List UInt8)) (v4 : List UInt8) (v5 : Bool) (v6 : Bool) (v7 : Int) (v8 : Int) (v9 : List ApiIns) (v10 : List ApiMap) (v11 : List ApiTrap) : Option (Bool) :=
  (slices_IndexFunc_api_Method_api_Method v1 v2 v3 v4 v5 v6 v7 v8 v9 v10 v11).bind fun v12=>some (decide (0 ≤ v12))
theorem slices_ContainsFunc_api_Method_api_Method_ok (v1 : List ApiMethod) (v2 : List UInt8) (v3 : List (List UInt8)) (v4 : List UInt8) (v5 : Bool) (v6 : Bool) (v7 : Int) (v8 : Int) (v9 : List ApiIns) (v10 : List ApiMap) (v11 : List ApiTrap) {r : Bool} (h : slices_ContainsFunc_api_Method_api_Method v1 v2 v3 v4 v5 v6 v7 v8 v9 v10 v11 = some r) : PureC Tryz.prog 127 [.isl 10 (List.map rApiMethod v1),.fn (.func 128) [] [.ipt 1 [[.fn (.func 99) [] []]] 0 0,.ipt 10 [[sA v2,.isl 1 (List.map rStr v3),sA v4,bA v5,bA v6,iA v7,iA v8,.isl 4 (List.map rApiIns v9),.isl 3 (List.map rApiMap v10),.isl 4 (List.map rApiTrap v11)]] 0 0]] (bA r):=by
 refine pure_fn Tryz.func127 j0 (by kernel_rfl) j0 j0 ?_
 unfold slices_ContainsFunc_api_Method_api_Method at h
 refine rg j0<|u<|asg j0<|r_nil ?_
 obtain ⟨v12,q1,h⟩:=bs h
 refine rg j0<|u<|mv j0<|u<|mv j0<|u<|pc (slices_IndexFunc_api_Method_api_Method_ok v1 v2 v3 v4 v5 v6 v7 v8 v9 v10 v11 q1) j0 j0 j0<|u<|geq ti3 j0 j0<|u<|asg j0<|r_nil ?_
 refine sw_ret ?_
 obtain rfl:=sm h
 exact ⟨_,j0,[],ci j0,j0,j5,j0,j1⟩
def class_all_api_Method_k2 (v1 : List ApiMethod) (v2 : Int) : Option (Bool) :=
  some (decide ((List.length v1 : Int) ≤ v2))
def class_all_api_Method_l1 (v1 : List ApiMethod) (v3 : List UInt8) (v4 : List UInt8) (v5 : Bool) (v6 : List (List UInt8)) (v7 : List ApiField) (v8 : List ApiMethod) (v15 : Int) : Option (Sum (Int) (Sum (Unit) (Bool))) :=
  cond (decide (v15 < (List.length v1 : Int))) ((idx v1 v15).bind fun v16=>(class_May_4 v16 v3 v4 v5 v6 v7 v8).bind fun v17=>(cond (!v17) (some true) ((cutP v1 0 v15).bind fun v18=>(slices_ContainsFunc_api_Method_api_Method v18 v16.Name v16.Params v16.Ret v16.Static v16.Abstract v16.Locals v16.Stack v16.Code v16.Maps v16.Traps).bind fun v19=>some v19)).bind fun v20=>cond v20 (some (.inr (.inr false))) (some (.inl (IntKind.i64.wrap (v15 + 1))))) (some (.inr (.inl ())))
def class_all_api_Method (v1 : List ApiMethod) (v2 : Int) (v3 : List UInt8) (v4 : List UInt8) (v5 : Bool) (v6 : List (List UInt8)) (v7 : List ApiField) (v8 : List ApiMethod) : Option (Bool) :=
  (loopP (fun z=>class_all_api_Method_l1 v1 v3 v4 v5 v6 v7 v8 z) 0).bind fun o=>leave o (fun b=>class_all_api_Method_k2 v1 v2) some
theorem class_all_api_Method_ok (v1 : List ApiMethod) (v2 : Int) (v3 : List UInt8) (v4 : List UInt8) (v5 : Bool) (v6 : List (List UInt8)) (v7 : List ApiField) (v8 : List ApiMethod) {r : Bool} (h : class_all_api_Method v1 v2 v3 v4 v5 v6 v7 v8 = some r) : PureC Tryz.prog 98 [.isl 10 (List.map rApiMethod v1),iA v2,.fn (.func 99) [] [],.fn (.func 100) [] [.ipt 6 [[sA v3,sA v4,bA v5,.isl 1 (List.map rStr v6),.isl 3 (List.map rApiField v7),.isl 10 (List.map rApiMethod v8)]] 0 0]] (bA r):=by
 refine pure_fn Tryz.func98 j0 (by kernel_rfl) j0 j0 ?_
 unfold class_all_api_Method at h
 refine rg j0<|u<|bx 0 1 j0 j0 j0 j0<|u<|asg j0<|r_nil ?_
 refine sw_seq ?_
 refine rg j0<|u<|mv j0<|u<|lnI ti40 j0 j0<|u<|mv j0<|r_nil ?_
 obtain ⟨o,ho,h⟩:=bs h
 refine sw_lpl (X:=Int) (B:=Unit) (R:=Bool) (fun z=>[(0,.isl 10 (List.map rApiMethod v1)),(1,iA v2),(3,.fn (.func 100) [] [.ipt 6 [[sA v3,sA v4,bA v5,.isl 1 (List.map rStr v6),.isl 3 (List.map rApiField v7),.isl 10 (List.map rApiMethod v8)]] 0 0]),(6,.mpt 0 0 0),(11,.isl 10 (List.map rApiMethod v1)),(12,iA (List.length v1 : Int)),(13,iA z)]) (fun z=>[some (1,[[.fn (.func 99) [] []]])]) (fun b=>[(0,.isl 10 (List.map rApiMethod v1)),(1,iA v2)]) (fun b=>[]) (fun r env st=>PostF Tryz.prog Tryz.f98 0 (bA r) [] env st) ho ⟨[.old 0],ce j0 j0<|ce j0 j0<|ce j0 j0<|cv j0 (.mpt j0)<|ce j0 j0<|ce j0 j0<|ce j0 j0<|cn,j0,⟨⟨_,j0,rsOne ⟨ci j0,j5⟩⟩,j5⟩,j0,j1⟩ ?_ ?_ ?_
 ·
  rintro v15 r h
  replace h : class_all_api_Method_l1 v1 v3 v4 v5 v6 v7 v8 v15 = some r:=h
  unfold class_all_api_Method_l1 at h
  refine rg j0<|u<|lss ti3 j0 j0<|r_nil ?_
  refine sw_seq ?_
  refine sw_cond j0 (fun hc9=>?_) (fun hc9=>?_)
  ·
   replace h:=bT hc9 h
   refine sw_skip ?_
   refine sw_seq ?_
   refine sw_block ?_
   obtain ⟨v16,q10,h⟩:=bs h
   refine rg j0<|u<|mv j0<|u<|ixI ti40 j0 ti62 j0 j0 j0 q10<|u<|ldI ti62 j0 (idx_some q10).2.2 j0<|u<|al 1 ti62 j0<|u<|asg j0<|u<|sto ti62 j0 j0 j0<|r_nil ?_
   obtain ⟨v17,q11,h⟩:=bs h
   obtain ⟨v20,q15,h⟩:=bs h
   refine rg j0<|u<|mv j0<|u<|ld ti62 j0 j0<|u<|pc (class_May_4_ok v16 v3 v4 v5 v6 v7 v8 q11) j0 j0 j0<|u<|nt j0<|u<|mv j0<|r_or (x:=v20) (j:=4) 5 j0 j0 j0 j0 j0 gpn (fun hb12=>by replace q15:=bF hb12 q15; obtain ⟨v18,q13,q15⟩:=bs q15; obtain ⟨v19,q14,q15⟩:=bs q15; obtain rfl:=sm q15; exact g j0 hb12<|mv j0<|g j0 hb12<|mv j0<|g j0 hb12<|slI (a:=0) (b:=v15) ti40 j0 ti62 j0 j0 j0 (bnd_hi j0 q13) q13<|g j0 hb12<|mf j0 j0<|g j0 hb12<|pcs (slices_ContainsFunc_api_Method_api_Method_ok v18 v16.Name v16.Params v16.Ret v16.Static v16.Abstract v16.Locals v16.Stack v16.Code v16.Maps v16.Traps q14) j0 j0 (.cons (si j0) (.cons (sealFn j5 ⟨(sealBox j0 ⟨(si j0),j5⟩),(sealBox j0 ⟨(si j0),(si j0),(si j0),(si j0),(si j0),(si j0),(si j0),(si j0),(si j0),(si j0),j5⟩),j5⟩) .nil)) plainB<|r_nil (eg [23,24,25,26,27] 5 j0 j0 j0 j0)) (fun hb=>(sm (bT hb q15)).symm)<|r_nil ?_
   refine sw_cond j0 (fun hc16=>?_) (fun hc16=>?_)
   ·
    replace h:=bT hc16 h
    refine rg j0<|u<|asg j0<|r_nil ?_
    refine sw_ret ?_
    obtain rfl:=sm h
    exact ⟨_,j0,_,j0,[],ci j0,j0,j5,j0,j1⟩
   ·
    replace h:=bF hc16 h
    refine sw_skip ?_
    refine rl j0<|u<|add ti3 j0 j0<|u<|mv j0<|r_nil ?_
    obtain rfl:=sm h
    exact ⟨_,j0,[.old 0],ce j0 j0<|ce j0 j0<|ce j0 j0<|cv j0 (.mpt j0)<|ce j0 j0<|ce j0 j0<|ce j0 j0<|cn,j0,⟨⟨_,j0,rsOne ⟨ci j0,j5⟩⟩,j5⟩,j0,j1⟩
  ·
   replace h:=bF hc9 h
   refine sw_exit ?_
   obtain rfl:=sm h
   exact ⟨j0,_,j0,[],ce j0 j0<|ce j0 j0<|cn,j0,j5,j0,j1⟩
 ·
  rintro ⟨⟩ rfl
  replace h : class_all_api_Method_k2 v1 v2 = some r:=h
  unfold class_all_api_Method_k2 at h
  refine ow_intro ?_
  refine rg j0<|u<|mv j0<|u<|lnI ti40 j0 j0<|u<|mv j0<|u<|leq ti3 j0 j0<|u<|asg j0<|r_nil ?_
  refine sw_ret ?_
  obtain rfl:=sm h
  exact ⟨_,j0,[],ci j0,j0,j5,j0,j1⟩
 ·
  rintro r' rfl env st hp
  obtain rfl:=sm h
  exact hp
def class_self (v1 : List UInt8) : (List UInt8) :=
  v1
theorem class_self_ok (v1 : List UInt8) {r : (List UInt8)} (h : class_self v1 = r) : PureC Tryz.prog 104 [sA v1] (sA r):=by
 refine pure_fn Tryz.func104 j0 (by kernel_rfl) j0 j0 ?_
 unfold class_self at h
 refine rg j0<|u<|asg j0<|r_nil ?_
 refine rg j0<|u<|mv j0<|u<|asg j0<|r_nil ?_
 refine sw_ret ?_
 obtain rfl:=h
 exact ⟨_,j0,[],ci j0,j0,j5,j0,j1⟩
def class_all_string_1 (v1 : List UInt8) (v2 : List UInt8) : Bool :=
  ((class_self v2) == (class_self v1))
theorem class_all_string_1_ok (v1 : List UInt8) (v2 : List UInt8) {r : Bool} (h : class_all_string_1 v1 v2 = r) : PureC Tryz.prog 138 [sA v1,.ipt 1 [[.fn (.func 104) [] []]] 0 0,.ipt 1 [[sA v2]] 0 0] (bA r):=by
 refine pure_fn Tryz.func138 j0 (by kernel_rfl) j0 j0 ?_
 unfold class_all_string_1 at h
 refine rg j0<|u<|asg j0<|r_nil ?_
 refine rd [(4,bA ((class_self v2) == (class_self v1)))] [] [] [7,6,5,4,3,2,1,0] [(4,bA ((class_self v2) == (class_self v1))),(11,bA ((class_self v2) == (class_self v1))),(10,sA (class_self v1)),(9,sA v1),(8,.fn (.func 104) [] []),(7,sA (class_self v2)),(6,sA v2),(5,.fn (.func 104) [] [])] 0 (by kernel_rfl) (by kernel_rfl) j0 (by kernel_rfl) (dt0 ⟨(fun _=>pa j0 j0 j0 j0 (asg j0<|j4)),(fun _=>pa j0 j0 j0 j0 (seq ti9 j0 j0<|j4)),(fun _=>pa j0 j0 j0 j0 (pc (class_self_ok v1 j0) j0 j0 j0<|j4)),(fun _=>pa j0 j0 j0 j0 (mv j0<|j4)),(fun _=>pa j0 j0 j0 j0 (ld ti118 j0 j0<|j4)),(fun _=>pa j0 j0 j0 j0 (pc (class_self_ok v2 j0) j0 j0 j0<|j4)),(fun _=>pa j0 j0 j0 j0 (ld ti9 j0 j0<|j4)),(fun _=>pa j0 j0 j0 j0 (ld ti118 j0 j0<|j4)),j5⟩ (by kernel_rfl) j0 ⟨[],ce j0 j0<|cn,j0,j5,j0,j1⟩) ?_
 refine sw_ret ?_
 obtain rfl:=h
 exact ⟨_,j0,[],ci j0,j0,j5,j0,j1⟩
def slices_IndexFunc_string_string_s3_k2 : Option (Int) :=
  some (-1)
def slices_IndexFunc_string_string_s3_l1 (v1 : List (List UInt8)) (v2 : List UInt8) (v5 : Int) : Option (Sum (Int) (Sum (Unit) (Int))) :=
  cond (decide (v5 < (List.length v1 : Int))) ((idx v1 v5).bind fun v6=>cond (class_all_string_1 v6 v2) (some (.inr (.inr v5))) (some (.inl (IntKind.i64.wrap (v5 + 1))))) (some (.inr (.inl ())))
def slices_IndexFunc_string_string_s3 (v1 : List (List UInt8)) (v2 : List UInt8) : Option (Int) :=
  (loopP (fun z=>slices_IndexFunc_string_string_s3_l1 v1 v2 z) 0).bind fun o=>leave o (fun b=>slices_IndexFunc_string_string_s3_k2) some
theorem slices_IndexFunc_string_string_s3_ok (v1 : List (List UInt8)) (v2 : List UInt8) {r : Int} (h : slices_IndexFunc_string_string_s3 v1 v2 = some r) : PureC Tryz.prog 105 [.isl 1 (List.map rStr v1),.fn (.func 138) [] [.ipt 1 [[.fn (.func 104) [] []]] 0 0,.ipt 1 [[sA v2]] 0 0]] (iA r):=by
 refine pure_fn Tryz.func105 j0 (by kernel_rfl) j0 j0 ?_
 unfold slices_IndexFunc_string_string_s3 at h
 refine rg j0<|u<|asg j0<|r_nil ?_
 refine sw_seq ?_
 refine rg j0<|u<|mv j0<|u<|lnI ti32 j0 j0<|u<|mv j0<|r_nil ?_
 obtain ⟨o,ho,h⟩:=bs h
 refine sw_lpl (X:=Int) (B:=Unit) (R:=Int) (fun z=>[(0,.isl 1 (List.map rStr v1)),(1,.fn (.func 138) [] [.ipt 1 [[.fn (.func 104) [] []]] 0 0,.ipt 1 [[sA v2]] 0 0]),(7,iA (List.length v1 : Int)),(8,iA z)]) (fun z=>[]) (fun b=>[]) (fun b=>[]) (fun r env st=>PostF Tryz.prog Tryz.f105 0 (iA r) [] env st) ho ⟨[],ce j0 j0<|ce j0 j0<|ce j0 j0<|ce j0 j0<|cn,j0,j5,j0,j1⟩ ?_ ?_ ?_
 ·
  rintro v5 r h
  replace h : slices_IndexFunc_string_string_s3_l1 v1 v2 v5 = some r:=h
  unfold slices_IndexFunc_string_string_s3_l1 at h
  refine rg j0<|u<|lss ti3 j0 j0<|r_nil ?_
  refine sw_seq ?_
  refine sw_cond j0 (fun hc4=>?_) (fun hc4=>?_)
  ·
   replace h:=bT hc4 h
   refine sw_skip ?_
   refine sw_seq ?_
   refine sw_block ?_
   refine rg j0<|u<|mv j0<|u<|asg j0<|r_nil ?_
   obtain ⟨v6,q5,h⟩:=bs h
   refine rg j0<|u<|mv j0<|u<|mv j0<|u<|mv j0<|u<|ixI ti32 j0 ti9 j0 j0 j0 q5<|u<|ldI ti9 j0 (idx_some q5).2.2 j0<|u<|pc (class_all_string_1_ok v6 v2 j0) j0 j0 j0<|r_nil ?_
   refine sw_cond j0 (fun hc6=>?_) (fun hc6=>?_)
   ·
    replace h:=bT hc6 h
    refine rg j0<|u<|mv j0<|u<|asg j0<|r_nil ?_
    refine sw_ret ?_
    obtain rfl:=sm h
    exact ⟨_,j0,_,j0,[],ci j0,j0,j5,j0,j1⟩
   ·
    replace h:=bF hc6 h
    refine sw_skip ?_
    refine rl j0<|u<|add ti3 j0 j0<|u<|mv j0<|r_nil ?_
    obtain rfl:=sm h
    exact ⟨_,j0,[],ce j0 j0<|ce j0 j0<|ce j0 j0<|ce j0 j0<|cn,j0,j5,j0,j1⟩
  ·
   replace h:=bF hc4 h
   refine sw_exit ?_
   obtain rfl:=sm h
   exact ⟨j0,_,j0,[],cn,j0,j5,j0,j1⟩
 ·
  rintro ⟨⟩ rfl
  replace h : slices_IndexFunc_string_string_s3_k2 = some r:=h
  unfold slices_IndexFunc_string_string_s3_k2 at h
  refine ow_intro ?_
  refine rg j0<|u<|asg j0<|r_nil ?_
  refine sw_ret ?_
  obtain rfl:=sm h
  exact ⟨_,j0,[],ci j0,j0,j5,j0,j1⟩
 ·
  rintro r' rfl env st hp
  obtain rfl:=sm h
  exact hp
def slices_ContainsFunc_string_string_s3 (v1 : List (List UInt8)) (v2 : List UInt8) : Option (Bool) :=
  (slices_IndexFunc_string_string_s3 v1 v2).bind fun v3=>some (decide (0 ≤ v3))
theorem slices_ContainsFunc_string_string_s3_ok (v1 : List (List UInt8)) (v2 : List UInt8) {r : Bool} (h : slices_ContainsFunc_string_string_s3 v1 v2 = some r) : PureC Tryz.prog 59 [.isl 1 (List.map rStr v1),.fn (.func 138) [] [.ipt 1 [[.fn (.func 104) [] []]] 0 0,.ipt 1 [[sA v2]] 0 0]] (bA r):=by
 refine pure_fn Tryz.func59 j0 (by kernel_rfl) j0 j0 ?_
 unfold slices_ContainsFunc_string_string_s3 at h
 refine rg j0<|u<|asg j0<|r_nil ?_
 obtain ⟨v3,q1,h⟩:=bs h
 refine rg j0<|u<|mv j0<|u<|mv j0<|u<|pc (slices_IndexFunc_string_string_s3_ok v1 v2 q1) j0 j0 j0<|u<|geq ti3 j0 j0<|u<|asg j0<|r_nil ?_
 refine sw_ret ?_
 obtain rfl:=sm h
 exact ⟨_,j0,[],ci j0,j0,j5,j0,j1⟩
def class_all_string_k2 (v1 : List (List UInt8)) (v2 : Int) : Option (Bool) :=
  some (decide ((List.length v1 : Int) ≤ v2))
def class_all_string_l1 (v1 : List (List UInt8)) (v9 : Int) : Option (Sum (Int) (Sum (Unit) (Bool))) :=
  cond (decide (v9 < (List.length v1 : Int))) ((idx v1 v9).bind fun v10=>(kind_Class v10).bind fun v11=>(cond (!v11) (some true) ((cutP v1 0 v9).bind fun v12=>(slices_ContainsFunc_string_string_s3 v12 v10).bind fun v13=>some v13)).bind fun v14=>cond v14 (some (.inr (.inr false))) (some (.inl (IntKind.i64.wrap (v9 + 1))))) (some (.inr (.inl ())))
def class_all_string (v1 : List (List UInt8)) (v2 : Int) : Option (Bool) :=
  (loopP (fun z=>class_all_string_l1 v1 z) 0).bind fun o=>leave o (fun b=>class_all_string_k2 v1 v2) some
theorem class_all_string_ok (v1 : List (List UInt8)) (v2 : Int) {r : Bool} (h : class_all_string v1 v2 = some r) : PureC Tryz.prog 103 [.isl 1 (List.map rStr v1),iA v2,.fn (.func 104) [] [],.fn (.func 102) [] []] (bA r):=by
 refine pure_fn Tryz.func103 j0 (by kernel_rfl) j0 j0 ?_
 unfold class_all_string at h
 refine rg j0<|u<|bx 0 1 j0 j0 j0 j0<|u<|asg j0<|r_nil ?_
 refine sw_seq ?_
 refine rg j0<|u<|mv j0<|u<|lnI ti32 j0 j0<|u<|mv j0<|r_nil ?_
 obtain ⟨o,ho,h⟩:=bs h
 refine sw_lpl (X:=Int) (B:=Unit) (R:=Bool) (fun z=>[(0,.isl 1 (List.map rStr v1)),(1,iA v2),(3,.fn (.func 102) [] []),(6,.mpt 0 0 0),(11,.isl 1 (List.map rStr v1)),(12,iA (List.length v1 : Int)),(13,iA z)]) (fun z=>[some (1,[[.fn (.func 104) [] []]])]) (fun b=>[(0,.isl 1 (List.map rStr v1)),(1,iA v2)]) (fun b=>[]) (fun r env st=>PostF Tryz.prog Tryz.f103 0 (bA r) [] env st) ho ⟨[.old 0],ce j0 j0<|ce j0 j0<|ce j0 j0<|cv j0 (.mpt j0)<|ce j0 j0<|ce j0 j0<|ce j0 j0<|cn,j0,⟨⟨_,j0,rsOne ⟨ci j0,j5⟩⟩,j5⟩,j0,j1⟩ ?_ ?_ ?_
 ·
  rintro v9 r h
  replace h : class_all_string_l1 v1 v9 = some r:=h
  unfold class_all_string_l1 at h
  refine rg j0<|u<|lss ti3 j0 j0<|r_nil ?_
  refine sw_seq ?_
  refine sw_cond j0 (fun hc9=>?_) (fun hc9=>?_)
  ·
   replace h:=bT hc9 h
   refine sw_skip ?_
   refine sw_seq ?_
   refine sw_block ?_
   obtain ⟨v10,q10,h⟩:=bs h
   refine rg j0<|u<|mv j0<|u<|ixI ti32 j0 ti9 j0 j0 j0 q10<|u<|ldI ti9 j0 (idx_some q10).2.2 j0<|u<|al 1 ti9 j0<|u<|asg j0<|u<|sto ti9 j0 j0 j0<|r_nil ?_
   obtain ⟨v11,q11,h⟩:=bs h
   obtain ⟨v14,q15,h⟩:=bs h
   refine rg j0<|u<|mv j0<|u<|ld ti9 j0 j0<|u<|pc (kind_Class_ok v10 q11) j0 j0 j0<|u<|nt j0<|u<|mv j0<|r_or (x:=v14) (j:=4) 5 j0 j0 j0 j0 j0 gpn (fun hb12=>by replace q15:=bF hb12 q15; obtain ⟨v12,q13,q15⟩:=bs q15; obtain ⟨v13,q14,q15⟩:=bs q15; obtain rfl:=sm q15; exact g j0 hb12<|mv j0<|g j0 hb12<|mv j0<|g j0 hb12<|slI (a:=0) (b:=v9) ti32 j0 ti9 j0 j0 j0 (bnd_hi j0 q13) q13<|g j0 hb12<|mf j0 j0<|g j0 hb12<|pcs (slices_ContainsFunc_string_string_s3_ok v12 v10 q14) j0 j0 (.cons (si j0) (.cons (sealFn j5 ⟨(sealBox j0 ⟨(si j0),j5⟩),(sealBox j0 ⟨(si j0),j5⟩),j5⟩) .nil)) plainB<|r_nil (eg [23,24,25,26,27] 5 j0 j0 j0 j0)) (fun hb=>(sm (bT hb q15)).symm)<|r_nil ?_
   refine sw_cond j0 (fun hc16=>?_) (fun hc16=>?_)
   ·
    replace h:=bT hc16 h
    refine rg j0<|u<|asg j0<|r_nil ?_
    refine sw_ret ?_
    obtain rfl:=sm h
    exact ⟨_,j0,_,j0,[],ci j0,j0,j5,j0,j1⟩
   ·
    replace h:=bF hc16 h
    refine sw_skip ?_
    refine rl j0<|u<|add ti3 j0 j0<|u<|mv j0<|r_nil ?_
    obtain rfl:=sm h
    exact ⟨_,j0,[.old 0],ce j0 j0<|ce j0 j0<|ce j0 j0<|cv j0 (.mpt j0)<|ce j0 j0<|ce j0 j0<|ce j0 j0<|cn,j0,⟨⟨_,j0,rsOne ⟨ci j0,j5⟩⟩,j5⟩,j0,j1⟩
  ·
   replace h:=bF hc9 h
   refine sw_exit ?_
   obtain rfl:=sm h
   exact ⟨j0,_,j0,[],ce j0 j0<|ce j0 j0<|cn,j0,j5,j0,j1⟩
 ·
  rintro ⟨⟩ rfl
  replace h : class_all_string_k2 v1 v2 = some r:=h
  unfold class_all_string_k2 at h
  refine ow_intro ?_
  refine rg j0<|u<|mv j0<|u<|lnI ti32 j0 j0<|u<|mv j0<|u<|leq ti3 j0 j0<|u<|asg j0<|r_nil ?_
  refine sw_ret ?_
  obtain rfl:=sm h
  exact ⟨_,j0,[],ci j0,j0,j5,j0,j1⟩
 ·
  rintro r' rfl env st hp
  obtain rfl:=sm h
  exact hp
def class_May (v1 : ApiClass) : Option (Bool) :=
  cond (v1.Interface && ((!(v1.Super == [79,98,106,101,99,116])) || (decide (0 < (List.length v1.Fields : Int))))) (some false) ((class_all_api_Field v1.Fields 8).bind fun v2=>(class_all_api_Method v1.Methods 8 v1.Name v1.Super v1.Interface v1.Impl v1.Fields v1.Methods).bind fun v3=>(kind_Class v1.Name).bind fun v4=>(cond v4 ((kind_Class v1.Super).bind fun v5=>some v5) (some false)).bind fun v6=>(cond v6 ((class_all_string v1.Impl 4).bind fun v7=>some v7) (some false)).bind fun v8=>some ((v8 && v2) && v3))
theorem class_May_ok (v1 : ApiClass) {r : Bool} (h : class_May v1 = some r) : PureC Tryz.prog 58 [.agg [sA v1.Name,sA v1.Super,bA v1.Interface,.isl 1 (List.map rStr v1.Impl),.isl 3 (List.map rApiField v1.Fields),.isl 10 (List.map rApiMethod v1.Methods)]] (bA r):=by
 refine pure_fn Tryz.func58 j0 (by kernel_rfl) j0 j0 ?_
 unfold class_May at h
 refine rg j0<|u<|bx 0 6 j0 j0 j0 j0<|u<|asg j0<|r_nil ?_
 refine sw_seq ?_
 refine rg j0<|u<|fa ti42 j0 j0 j0<|u<|ld ti4 j0 j0<|u<|mv j0<|r_and (j:=2) 9 j0 j0 j0 j0 j0 gpn (fun hb1=>g j0 hb1<|fa ti42 j0 j0 j0<|g j0 hb1<|ld ti9 j0 j0<|g j0 hb1<|sne ti9 j0 j0<|g j0 hb1<|mv j0<|r_or (j:=6) 4 j0 j0 j0 j0 j0 (gps j0 j0 hb1) (fun hb2=>g j0 hb2<|fa ti42 j0 j0 j0<|g j0 hb2<|ld ti39 j0 j0<|g j0 hb2<|lnI ti39 j0 j0<|g j0 hb2<|gtr ti3 j0 j0<|r_nil (egO [12,13,14,15] 4 hb2 j0 j0 j0 j0)) orT<|r_nil (egA [8,9,10,11,12,13,14,15,16] 5 hb1 j0 j0 j0 j0)) andF<|r_nil ?_
 refine sw_cond j0 (fun hc3=>?_) (fun hc3=>?_)
 ·
  replace h:=bT hc3 h
  refine rg j0<|u<|asg j0<|r_nil ?_
  refine sw_ret ?_
  obtain rfl:=sm h
  exact ⟨_,j0,[],ci j0,j0,j5,j0,j1⟩
 ·
  replace h:=bF hc3 h
  refine sw_skip ?_
  obtain ⟨v2,q4,h⟩:=bs h
  refine rg j0<|u<|fa ti42 j0 j0 j0<|u<|ld ti39 j0 j0<|u<|pc (class_all_api_Field_ok v1.Fields 8 q4) j0 j0 j0<|u<|asg j0<|r_nil ?_
  obtain ⟨v3,q5,h⟩:=bs h
  refine rg j0<|u<|fa ti42 j0 j0 j0<|u<|ld ti40 j0 j0<|u<|mf j0 j0<|u<|pcs (class_all_api_Method_ok v1.Methods 8 v1.Name v1.Super v1.Interface v1.Impl v1.Fields v1.Methods q5) j0 j0 (.cons (si j0) (.cons (si j0) (.cons (si j0) (.cons (sealFn j5 ⟨(sealBox j0 ⟨(si j0),(si j0),(si j0),(si j0),(si j0),(si j0),j5⟩),j5⟩) .nil)))) plainB<|u<|asg j0<|r_nil ?_
  obtain ⟨v4,q6,h⟩:=bs h
  obtain ⟨v6,q9,h⟩:=bs h
  obtain ⟨v8,q12,h⟩:=bs h
  refine rg j0<|u<|fa ti42 j0 j0 j0<|u<|ld ti9 j0 j0<|u<|pc (kind_Class_ok v1.Name q6) j0 j0 j0<|u<|mv j0<|r_and (x:=v6) (j:=3) 3 j0 j0 j0 j0 j0 gpn (fun hb7=>by replace q9:=bT hb7 q9; obtain ⟨v5,q8,q9⟩:=bs q9; obtain rfl:=sm q9; exact g j0 hb7<|fa ti42 j0 j0 j0<|g j0 hb7<|ld ti9 j0 j0<|g j0 hb7<|pc (kind_Class_ok v1.Super q8) j0 j0 j0<|r_nil (eg [29,30,31] 3 j0 j0 j0 j0)) (fun hb=>(sm (bF hb q9)).symm)<|u<|mv j0<|r_and (x:=v8) (j:=8) 3 j0 j0 j0 j0 j0 gpn (fun hb10=>by replace q12:=bT hb10 q12; obtain ⟨v7,q11,q12⟩:=bs q12; obtain rfl:=sm q12; exact g j0 hb10<|fa ti42 j0 j0 j0<|g j0 hb10<|ld ti32 j0 j0<|g j0 hb10<|pc (class_all_string_ok v1.Impl 4 q11) j0 j0 j0<|r_nil (eg [34,35,36] 3 j0 j0 j0 j0)) (fun hb=>(sm (bF hb q12)).symm)<|u<|mv j0<|r_and (j:=13) 1 j0 j0 j0 j0 j0 gpn (fun hb13=>g j0 hb13<|mv j0<|r_nil (egA [39] 1 hb13 j0 j0 j0 j0)) andF<|u<|mv j0<|r_and (j:=16) 1 j0 j0 j0 j0 j0 gpn (fun hb14=>g j0 hb14<|mv j0<|r_nil (egA [42] 1 hb14 j0 j0 j0 j0)) andF<|u<|asg j0<|r_nil ?_
  refine sw_ret ?_
  obtain rfl:=sm h
  exact ⟨_,j0,[],ci j0,j0,j5,j0,j1⟩
end
end Go.Proofs.YtooagifeniibcaaGreat
namespace Go.Proofs.YtooagifeniibcaaGreat
noncomputable section
set_option linter.unusedSimpArgs false
set_option linter.unusedVariables false
set_option maxRecDepth 100000
set_option maxHeartbeats 4000000
def ref3_Field_k2 : Option (Int) :=
  some (-1)
def ref3_Field_l1 (v1 : ApiClass) (v2 : List UInt8) (v5 : Int) : Option (Sum (Int) (Sum (Unit) (Int))) :=
  cond (decide (v5 < (List.length v1.Fields : Int))) ((idx v1.Fields v5).bind fun v6=>cond (v6.Name == v2) (some (.inr (.inr v5))) (some (.inl (IntKind.i64.wrap (v5 + 1))))) (some (.inr (.inl ())))
def ref3_Field (v1 : ApiClass) (v2 : List UInt8) : Option (Int) :=
  (loopP (fun z=>ref3_Field_l1 v1 v2 z) 0).bind fun o=>leave o (fun b=>ref3_Field_k2) some
theorem ref3_Field_ok (v1 : ApiClass) (v2 : List UInt8) {r : Int} (h : ref3_Field v1 v2 = some r) : PureC Tryz.prog 109 [.agg [sA v1.Name,sA v1.Super,bA v1.Interface,.isl 1 (List.map rStr v1.Impl),.isl 3 (List.map rApiField v1.Fields),.isl 10 (List.map rApiMethod v1.Methods)],sA v2] (iA r):=by
 refine pure_fn Tryz.func109 j0 (by kernel_rfl) j0 j0 ?_
 unfold ref3_Field at h
 refine rg j0<|u<|bx 0 6 j0 j0 j0 j0<|u<|asg j0<|r_nil ?_
 refine sw_seq ?_
 refine rg j0<|u<|asg j0<|r_nil ?_
 obtain ⟨o,ho,h⟩:=bs h
 refine sw_lpl (X:=Int) (B:=Unit) (R:=Int) (fun z=>[(1,sA v2),(2,.mpt 0 0 0),(5,iA z)]) (fun z=>[some (6,[[sA v1.Name,sA v1.Super,bA v1.Interface,.isl 1 (List.map rStr v1.Impl),.isl 3 (List.map rApiField v1.Fields),.isl 10 (List.map rApiMethod v1.Methods)]])]) (fun b=>[]) (fun b=>[]) (fun r env st=>PostF Tryz.prog Tryz.f109 0 (iA r) [] env st) ho ⟨[.old 0],ce j0 j0<|cv j0 (.mpt j0)<|ce j0 j0<|cn,j0,⟨⟨_,j0,rsOne ⟨ci j0,ci j0,ci j0,ci j0,ci j0,ci j0,j5⟩⟩,j5⟩,j0,j1⟩ ?_ ?_ ?_
 ·
  rintro v5 r h
  replace h : ref3_Field_l1 v1 v2 v5 = some r:=h
  unfold ref3_Field_l1 at h
  refine sw_seq ?_
  refine rg j0<|u<|mv j0<|u<|fa ti42 j0 j0 j0<|u<|ld ti39 j0 j0<|u<|lnI ti39 j0 j0<|u<|lss ti3 j0 j0<|r_nil ?_
  refine sw_cond j0 (fun hc4=>?_) (fun hc4=>?_)
  ·
   replace h:=bT hc4 h
   refine sw_skip ?_
   refine sw_seq ?_
   refine sw_block ?_
   obtain ⟨v6,q5,h⟩:=bs h
   refine rg j0<|u<|fa ti42 j0 j0 j0<|u<|ld ti39 j0 j0<|u<|mv j0<|u<|ixI ti39 j0 ti57 j0 j0 j0 q5<|u<|fa ti57 j0 j0 j0<|u<|ldI ti9 j0 (idx_some q5).2.2 j0<|u<|mv j0<|u<|seq ti9 j0 j0<|r_nil ?_
   refine sw_cond j0 (fun hc6=>?_) (fun hc6=>?_)
   ·
    replace h:=bT hc6 h
    refine rg j0<|u<|mv j0<|u<|asg j0<|r_nil ?_
    refine sw_ret ?_
    obtain rfl:=sm h
    exact ⟨_,j0,_,j0,[],ci j0,j0,j5,j0,j1⟩
   ·
    replace h:=bF hc6 h
    refine sw_skip ?_
    refine rl j0<|u<|mv j0<|u<|add ti3 j0 j0<|u<|asg j0<|r_nil ?_
    obtain rfl:=sm h
    exact ⟨_,j0,[.old 0],ce j0 j0<|cv j0 (.mpt j0)<|ce j0 j0<|cn,j0,⟨⟨_,j0,rsOne ⟨ci j0,ci j0,ci j0,ci j0,ci j0,ci j0,j5⟩⟩,j5⟩,j0,j1⟩
  ·
   replace h:=bF hc4 h
   refine sw_exit ?_
   obtain rfl:=sm h
   exact ⟨j0,_,j0,[],cn,j0,j5,j0,j1⟩
 ·
  rintro ⟨⟩ rfl
  replace h : ref3_Field_k2 = some r:=h
  unfold ref3_Field_k2 at h
  refine ow_intro ?_
  refine rg j0<|u<|asg j0<|r_nil ?_
  refine sw_ret ?_
  obtain rfl:=sm h
  exact ⟨_,j0,[],ci j0,j0,j5,j0,j1⟩
 ·
  rintro r' rfl env st hp
  obtain rfl:=sm h
  exact hp
def ref3_Method_k2 : Option (Int) :=
  some (-1)
def ref3_Method_l1 (v1 : ApiClass) (v2 : List UInt8) (v5 : Int) : Option (Sum (Int) (Sum (Unit) (Int))) :=
  cond (decide (v5 < (List.length v1.Methods : Int))) ((idx v1.Methods v5).bind fun v6=>cond (v6.Name == v2) (some (.inr (.inr v5))) (some (.inl (IntKind.i64.wrap (v5 + 1))))) (some (.inr (.inl ())))
def ref3_Method (v1 : ApiClass) (v2 : List UInt8) : Option (Int) :=
  (loopP (fun z=>ref3_Method_l1 v1 v2 z) 0).bind fun o=>leave o (fun b=>ref3_Method_k2) some
theorem ref3_Method_ok (v1 : ApiClass) (v2 : List UInt8) {r : Int} (h : ref3_Method v1 v2 = some r) : PureC Tryz.prog 110 [.agg [sA v1.Name,sA v1.Super,bA v1.Interface,.isl 1 (List.map rStr v1.Impl),.isl 3 (List.map rApiField v1.Fields),.isl 10 (List.map rApiMethod v1.Methods)],sA v2] (iA r):=by
 refine pure_fn Tryz.func110 j0 (by kernel_rfl) j0 j0 ?_
 unfold ref3_Method at h
 refine rg j0<|u<|bx 0 6 j0 j0 j0 j0<|u<|asg j0<|r_nil ?_
 refine sw_seq ?_
 refine rg j0<|u<|asg j0<|r_nil ?_
 obtain ⟨o,ho,h⟩:=bs h
 refine sw_lpl (X:=Int) (B:=Unit) (R:=Int) (fun z=>[(1,sA v2),(2,.mpt 0 0 0),(5,iA z)]) (fun z=>[some (6,[[sA v1.Name,sA v1.Super,bA v1.Interface,.isl 1 (List.map rStr v1.Impl),.isl 3 (List.map rApiField v1.Fields),.isl 10 (List.map rApiMethod v1.Methods)]])]) (fun b=>[]) (fun b=>[]) (fun r env st=>PostF Tryz.prog Tryz.f110 0 (iA r) [] env st) ho ⟨[.old 0],ce j0 j0<|cv j0 (.mpt j0)<|ce j0 j0<|cn,j0,⟨⟨_,j0,rsOne ⟨ci j0,ci j0,ci j0,ci j0,ci j0,ci j0,j5⟩⟩,j5⟩,j0,j1⟩ ?_ ?_ ?_
 ·
  rintro v5 r h
  replace h : ref3_Method_l1 v1 v2 v5 = some r:=h
  unfold ref3_Method_l1 at h
  refine sw_seq ?_
  refine rg j0<|u<|mv j0<|u<|fa ti42 j0 j0 j0<|u<|ld ti40 j0 j0<|u<|lnI ti40 j0 j0<|u<|lss ti3 j0 j0<|r_nil ?_
  refine sw_cond j0 (fun hc4=>?_) (fun hc4=>?_)
  ·
   replace h:=bT hc4 h
   refine sw_skip ?_
   refine sw_seq ?_
   refine sw_block ?_
   obtain ⟨v6,q5,h⟩:=bs h
   refine rg j0<|u<|fa ti42 j0 j0 j0<|u<|ld ti40 j0 j0<|u<|mv j0<|u<|ixI ti40 j0 ti62 j0 j0 j0 q5<|u<|fa ti62 j0 j0 j0<|u<|ldI ti9 j0 (idx_some q5).2.2 j0<|u<|mv j0<|u<|seq ti9 j0 j0<|r_nil ?_
   refine sw_cond j0 (fun hc6=>?_) (fun hc6=>?_)
   ·
    replace h:=bT hc6 h
    refine rg j0<|u<|mv j0<|u<|asg j0<|r_nil ?_
    refine sw_ret ?_
    obtain rfl:=sm h
    exact ⟨_,j0,_,j0,[],ci j0,j0,j5,j0,j1⟩
   ·
    replace h:=bF hc6 h
    refine sw_skip ?_
    refine rl j0<|u<|mv j0<|u<|add ti3 j0 j0<|u<|asg j0<|r_nil ?_
    obtain rfl:=sm h
    exact ⟨_,j0,[.old 0],ce j0 j0<|cv j0 (.mpt j0)<|ce j0 j0<|cn,j0,⟨⟨_,j0,rsOne ⟨ci j0,ci j0,ci j0,ci j0,ci j0,ci j0,j5⟩⟩,j5⟩,j0,j1⟩
  ·
   replace h:=bF hc4 h
   refine sw_exit ?_
   obtain rfl:=sm h
   exact ⟨j0,_,j0,[],cn,j0,j5,j0,j1⟩
 ·
  rintro ⟨⟩ rfl
  replace h : ref3_Method_k2 = some r:=h
  unfold ref3_Method_k2 at h
  refine ow_intro ?_
  refine rg j0<|u<|asg j0<|r_nil ?_
  refine sw_ret ?_
  obtain rfl:=sm h
  exact ⟨_,j0,[],ci j0,j0,j5,j0,j1⟩
 ·
  rintro r' rfl env st hp
  obtain rfl:=sm h
  exact hp
def ref3_Ret (v1 : List UInt8) : Option (Bool) :=
  (cond (v1 == [86]) (some true) ((ref3_May v1).bind fun v2=>some v2)).bind fun v3=>some v3
theorem ref3_Ret_ok (v1 : List UInt8) {r : Bool} (h : ref3_Ret v1 = some r) : PureC Tryz.prog 142 [sA v1] (bA r):=by
 refine pure_fn Tryz.func142 j0 (by kernel_rfl) j0 j0 ?_
 unfold ref3_Ret at h
 refine rg j0<|u<|asg j0<|r_nil ?_
 obtain ⟨v3,q3,h⟩:=bs h
 refine rg j0<|u<|mv j0<|u<|seq ti9 j0 j0<|u<|mv j0<|r_or (x:=v3) (j:=2) 2 j0 j0 j0 j0 j0 gpn (fun hb1=>by replace q3:=bF hb1 q3; obtain ⟨v2,q2,q3⟩:=bs q3; obtain rfl:=sm q3; exact g j0 hb1<|mv j0<|g j0 hb1<|pc (ref3_May_ok v1 q2) j0 j0 j0<|r_nil (eg [6,7] 2 j0 j0 j0 j0)) (fun hb=>(sm (bT hb q3)).symm)<|u<|asg j0<|r_nil ?_
 refine sw_ret ?_
 obtain rfl:=sm h
 exact ⟨_,j0,[],ci j0,j0,j5,j0,j1⟩
def ref3_body_k4 : Option (Bool) :=
  some true
def ref3_body_l3 (v1 : ApiMethod) (v15 : Int) : Option (Sum (Int) (Sum (Unit) (Bool))) :=
  cond (decide (v15 < (List.length v1.Traps : Int))) ((idx v1.Traps v15).bind fun v16=>(cond (((((decide (v16.From < 0)) || (decide (v16.To ≤ v16.From))) || (decide ((List.length v1.Code : Int) < v16.To))) || (decide (v16.At < 0))) || (decide ((List.length v1.Code : Int) ≤ v16.At))) (some true) ((cond (!(v16.C == [])) ((ref3_Class v16.C).bind fun v17=>some (!v17)) (some false)).bind fun v18=>some v18)).bind fun v19=>cond v19 (some (.inr (.inr false))) (some (.inl (IntKind.i64.wrap (v15 + 1))))) (some (.inr (.inl ())))
def ref3_body_k2 (v1 : ApiMethod) : Option (Bool) :=
  (loopP (fun z=>ref3_body_l3 v1 z) 0).bind fun o=>leave o (fun b=>ref3_body_k4) some
def ref3_body_l1 (v1 : ApiMethod) (v7 : Int) : Option (Sum (Int) (Sum (Unit) (Bool))) :=
  cond (decide (v7 < (List.length v1.Code : Int))) ((idx v1.Code v7).bind fun v8=>(ref3_MayIns v8).bind fun v9=>cond ((!v9) || ((ref3_Jumps v8.Op) && (decide ((List.length v1.Code : Int) ≤ v8.A)))) (some (.inr (.inr false))) (some (.inl (IntKind.i64.wrap (v7 + 1))))) (some (.inr (.inl ())))
def ref3_body (v1 : ApiMethod) : Option (Bool) :=
  (cond ((decide ((List.length v1.Code : Int) < 1)) || (decide (100 < (List.length v1.Code : Int)))) (some true) ((idx v1.Code (IntKind.i64.wrap ((List.length v1.Code : Int) - 1))).bind fun v2=>some (!(ref3_Ends v2.Op)))).bind fun v3=>cond (v3 || (decide (6 < (List.length v1.Traps : Int)))) (some false) ((loopP (fun z=>ref3_body_l1 v1 z) 0).bind fun o=>leave o (fun b=>ref3_body_k2 v1) some)
theorem ref3_body_ok (v1 : ApiMethod) {r : Bool} (h : ref3_body v1 = some r) : PureC Tryz.prog 143 [.agg [sA v1.Name,.isl 1 (List.map rStr v1.Params),sA v1.Ret,bA v1.Static,bA v1.Abstract,iA v1.Locals,iA v1.Stack,.isl 4 (List.map rApiIns v1.Code),.isl 3 (List.map rApiMap v1.Maps),.isl 4 (List.map rApiTrap v1.Traps)]] (bA r):=by
 refine pure_fn Tryz.func143 j0 (by kernel_rfl) j0 j0 ?_
 unfold ref3_body at h
 refine rg j0<|u<|bx 0 10 j0 j0 j0 j0<|u<|asg j0<|r_nil ?_
 refine rg j0<|u<|fa ti62 j0 j0 j0<|u<|ld ti58 j0 j0<|u<|lnI ti58 j0 j0<|u<|asg j0<|r_nil ?_
 refine sw_seq ?_
 obtain ⟨v3,q4,h⟩:=bs h
 refine rg j0<|u<|mv j0<|u<|lss ti3 j0 j0<|u<|mv j0<|r_or (j:=2) 2 j0 j0 j0 j0 j0 gpn (fun hb1=>g j0 hb1<|mv j0<|g j0 hb1<|gtr ti3 j0 j0<|r_nil (egO [14,15] 2 hb1 j0 j0 j0 j0)) orT<|u<|mv j0<|r_or (x:=v3) (j:=6) 9 j0 j0 j0 j0 j0 gpn (fun hb2=>by replace q4:=bF hb2 q4; obtain ⟨v2,q3,q4⟩:=bs q4; obtain rfl:=sm q4; exact g j0 hb2<|fa ti62 j0 j0 j0<|g j0 hb2<|ld ti58 j0 j0<|g j0 hb2<|mv j0<|g j0 hb2<|sub ti3 j0 j0<|g j0 hb2<|ixI ti58 j0 ti66 j0 j0 j0 q3<|g j0 hb2<|fa ti66 j0 j0 j0<|g j0 hb2<|ldI ti3 j0 (idx_some q3).2.2 j0<|g j0 hb2<|pc (ref3_Ends_ok v2.Op j0) j0 j0 j0<|g j0 hb2<|nt j0<|r_nil (eg [18,19,20,21,22,23,24,25,26] 9 j0 j0 j0 j0)) (fun hb=>(sm (bT hb q4)).symm)<|u<|mv j0<|r_or (j:=17) 4 j0 j0 j0 j0 j0 gpn (fun hb5=>g j0 hb5<|fa ti62 j0 j0 j0<|g j0 hb5<|ld ti60 j0 j0<|g j0 hb5<|lnI ti60 j0 j0<|g j0 hb5<|gtr ti3 j0 j0<|r_nil (egO [29,30,31,32] 4 hb5 j0 j0 j0 j0)) orT<|r_nil ?_
 refine sw_cond j0 (fun hc6=>?_) (fun hc6=>?_)
 ·
  replace h:=bT hc6 h
  refine rg j0<|u<|asg j0<|r_nil ?_
  refine sw_ret ?_
  obtain rfl:=sm h
  exact ⟨_,j0,[],ci j0,j0,j5,j0,j1⟩
 ·
  replace h:=bF hc6 h
  refine sw_skip ?_
  refine sw_seq ?_
  refine rg j0<|u<|asg j0<|r_nil ?_
  obtain ⟨o,ho,h⟩:=bs h
  refine sw_lpl (X:=Int) (B:=Unit) (R:=Bool) (fun z=>[(1,.mpt 0 0 0),(3,iA (List.length v1.Code : Int)),(4,iA z)]) (fun z=>[some (10,[[sA v1.Name,.isl 1 (List.map rStr v1.Params),sA v1.Ret,bA v1.Static,bA v1.Abstract,iA v1.Locals,iA v1.Stack,.isl 4 (List.map rApiIns v1.Code),.isl 3 (List.map rApiMap v1.Maps),.isl 4 (List.map rApiTrap v1.Traps)]])]) (fun b=>[(1,.mpt 0 0 0),(3,iA (List.length v1.Code : Int))]) (fun b=>[some (10,[[sA v1.Name,.isl 1 (List.map rStr v1.Params),sA v1.Ret,bA v1.Static,bA v1.Abstract,iA v1.Locals,iA v1.Stack,.isl 4 (List.map rApiIns v1.Code),.isl 3 (List.map rApiMap v1.Maps),.isl 4 (List.map rApiTrap v1.Traps)]])]) (fun r env st=>PostF Tryz.prog Tryz.f143 0 (bA r) [] env st) ho ⟨[.old 0],cv j0 (.mpt j0)<|ce j0 j0<|ce j0 j0<|cn,j0,⟨⟨_,j0,rsOne ⟨ci j0,ci j0,ci j0,ci j0,ci j0,ci j0,ci j0,ci j0,ci j0,ci j0,j5⟩⟩,j5⟩,j0,j1⟩ ?_ ?_ ?_
  ·
   rintro v7 r h
   replace h : ref3_body_l1 v1 v7 = some r:=h
   unfold ref3_body_l1 at h
   refine sw_seq ?_
   refine rg j0<|u<|mv j0<|u<|mv j0<|u<|lss ti3 j0 j0<|r_nil ?_
   refine sw_cond j0 (fun hc13=>?_) (fun hc13=>?_)
   ·
    replace h:=bT hc13 h
    refine sw_skip ?_
    refine sw_seq ?_
    refine sw_block ?_
    obtain ⟨v8,q14,h⟩:=bs h
    refine rg j0<|u<|fa ti62 j0 j0 j0<|u<|ld ti58 j0 j0<|u<|mv j0<|u<|ixI ti58 j0 ti66 j0 j0 j0 q14<|u<|ldI ti66 j0 (idx_some q14).2.2 j0<|u<|al 1 ti66 j0<|u<|sto ti66 j0 j0 j0<|r_nil ?_
    obtain ⟨v9,q15,h⟩:=bs h
    refine rg j0<|u<|ld ti66 j0 j0<|u<|pc (ref3_MayIns_ok v8 q15) j0 j0 j0<|u<|nt j0<|u<|mv j0<|r_or (j:=3) 9 j0 j0 j0 j0 j0 gpn (fun hb16=>g j0 hb16<|fa ti66 j0 j0 j0<|g j0 hb16<|ld ti3 j0 j0<|g j0 hb16<|pc (ref3_Jumps_ok v8.Op j0) j0 j0 j0<|g j0 hb16<|mv j0<|r_and (j:=7) 4 j0 j0 j0 j0 j0 (gps j0 j0 hb16) (fun hb17=>g j0 hb17<|fa ti66 j0 j0 j0<|g j0 hb17<|ld ti3 j0 j0<|g j0 hb17<|mv j0<|g j0 hb17<|geq ti3 j0 j0<|r_nil (egA [52,53,54,55] 4 hb17 j0 j0 j0 j0)) andF<|r_nil (egO [48,49,50,51,52,53,54,55,56] 5 hb16 j0 j0 j0 j0)) orT<|r_nil ?_
    refine sw_cond j0 (fun hc18=>?_) (fun hc18=>?_)
    ·
     replace h:=bT hc18 h
     refine rg j0<|u<|asg j0<|r_nil ?_
     refine sw_ret ?_
     obtain rfl:=sm h
     exact ⟨_,j0,_,j0,[],ci j0,j0,j5,j0,j1⟩
    ·
     replace h:=bF hc18 h
     refine sw_skip ?_
     refine rl j0<|u<|mv j0<|u<|add ti3 j0 j0<|u<|asg j0<|r_nil ?_
     obtain rfl:=sm h
     exact ⟨_,j0,[.old 0],cv j0 (.mpt j0)<|ce j0 j0<|ce j0 j0<|cn,j0,⟨⟨_,j0,rsOne ⟨ci j0,ci j0,ci j0,ci j0,ci j0,ci j0,ci j0,ci j0,ci j0,ci j0,j5⟩⟩,j5⟩,j0,j1⟩
   ·
    replace h:=bF hc13 h
    refine sw_exit ?_
    obtain rfl:=sm h
    exact ⟨j0,_,j0,[.old 0],cv j0 (.mpt j0)<|ce j0 j0<|cn,j0,⟨⟨_,j0,rsOne ⟨ci j0,ci j0,ci j0,ci j0,ci j0,ci j0,ci j0,ci j0,ci j0,ci j0,j5⟩⟩,j5⟩,j0,j1⟩
  ·
   rintro ⟨⟩ rfl
   replace h : ref3_body_k2 v1 = some r:=h
   unfold ref3_body_k2 at h
   refine ow_intro ?_
   refine sw_seq ?_
   refine rg j0<|u<|asg j0<|r_nil ?_
   obtain ⟨o,ho,h⟩:=bs h
   refine sw_lpl (X:=Int) (B:=Unit) (R:=Bool) (fun z=>[(1,.mpt 0 0 0),(3,iA (List.length v1.Code : Int)),(6,iA z)]) (fun z=>[some (10,[[sA v1.Name,.isl 1 (List.map rStr v1.Params),sA v1.Ret,bA v1.Static,bA v1.Abstract,iA v1.Locals,iA v1.Stack,.isl 4 (List.map rApiIns v1.Code),.isl 3 (List.map rApiMap v1.Maps),.isl 4 (List.map rApiTrap v1.Traps)]])]) (fun b=>[]) (fun b=>[]) (fun r env st=>PostF Tryz.prog Tryz.f143 0 (bA r) [] env st) ho ⟨[.old 0],cv j0 (.mpt j0)<|ce j0 j0<|ce j0 j0<|cn,j0,⟨⟨_,j0,rsOne ⟨ci j0,ci j0,ci j0,ci j0,ci j0,ci j0,ci j0,ci j0,ci j0,ci j0,j5⟩⟩,j5⟩,j0,j1⟩ ?_ ?_ ?_
   ·
    rintro v15 r h
    replace h : ref3_body_l3 v1 v15 = some r:=h
    unfold ref3_body_l3 at h
    refine sw_seq ?_
    refine rg j0<|u<|mv j0<|u<|fa ti62 j0 j0 j0<|u<|ld ti60 j0 j0<|u<|lnI ti60 j0 j0<|u<|lss ti3 j0 j0<|r_nil ?_
    refine sw_cond j0 (fun hc31=>?_) (fun hc31=>?_)
    ·
     replace h:=bT hc31 h
     refine sw_skip ?_
     refine sw_seq ?_
     refine sw_block ?_
     obtain ⟨v16,q32,h⟩:=bs h
     refine rg j0<|u<|fa ti62 j0 j0 j0<|u<|ld ti60 j0 j0<|u<|mv j0<|u<|ixI ti60 j0 ti127 j0 j0 j0 q32<|u<|ldI ti127 j0 (idx_some q32).2.2 j0<|u<|al 1 ti127 j0<|u<|sto ti127 j0 j0 j0<|r_nil ?_
     obtain ⟨v19,q41,h⟩:=bs h
     refine rg j0<|u<|fa ti127 j0 j0 j0<|u<|ld ti3 j0 j0<|u<|lss ti3 j0 j0<|u<|mv j0<|r_or (j:=3) 5 j0 j0 j0 j0 j0 gpn (fun hb33=>g j0 hb33<|fa ti127 j0 j0 j0<|g j0 hb33<|ld ti3 j0 j0<|g j0 hb33<|fa ti127 j0 j0 j0<|g j0 hb33<|ld ti3 j0 j0<|g j0 hb33<|geq ti3 j0 j0<|r_nil (egO [74,75,76,77,78] 5 hb33 j0 j0 j0 j0)) orT<|u<|mv j0<|r_or (j:=10) 4 j0 j0 j0 j0 j0 gpn (fun hb34=>g j0 hb34<|fa ti127 j0 j0 j0<|g j0 hb34<|ld ti3 j0 j0<|g j0 hb34<|mv j0<|g j0 hb34<|gtr ti3 j0 j0<|r_nil (egO [81,82,83,84] 4 hb34 j0 j0 j0 j0)) orT<|u<|mv j0<|r_or (j:=16) 3 j0 j0 j0 j0 j0 gpn (fun hb35=>g j0 hb35<|fa ti127 j0 j0 j0<|g j0 hb35<|ld ti3 j0 j0<|g j0 hb35<|lss ti3 j0 j0<|r_nil (egO [87,88,89] 3 hb35 j0 j0 j0 j0)) orT<|u<|mv j0<|r_or (j:=21) 4 j0 j0 j0 j0 j0 gpn (fun hb36=>g j0 hb36<|fa ti127 j0 j0 j0<|g j0 hb36<|ld ti3 j0 j0<|g j0 hb36<|mv j0<|g j0 hb36<|geq ti3 j0 j0<|r_nil (egO [92,93,94,95] 4 hb36 j0 j0 j0 j0)) orT<|u<|mv j0<|r_or (x:=v19) (j:=27) 9 j0 j0 j0 j0 j0 gpn (fun hb37=>by replace q41:=bF hb37 q41; obtain ⟨v18,q40,q41⟩:=bs q41; obtain rfl:=sm q41; exact g j0 hb37<|fa ti127 j0 j0 j0<|g j0 hb37<|ld ti9 j0 j0<|g j0 hb37<|sne ti9 j0 j0<|g j0 hb37<|mv j0<|r_and (x:=v18) (j:=31) 4 j0 j0 j0 j0 j0 (gps j0 j0 hb37) (fun hb38=>by replace q40:=bT hb38 q40; obtain ⟨v17,q39,q40⟩:=bs q40; obtain rfl:=sm q40; exact g j0 hb38<|fa ti127 j0 j0 j0<|g j0 hb38<|ld ti9 j0 j0<|g j0 hb38<|pc (ref3_Class_ok v16.C q39) j0 j0 j0<|g j0 hb38<|nt j0<|r_nil (eg [102,103,104,105] 4 j0 j0 j0 j0)) (fun hb=>(sm (bF hb q40)).symm)<|r_nil (eg [98,99,100,101,102,103,104,105,106] 5 j0 j0 j0 j0)) (fun hb=>(sm (bT hb q41)).symm)<|r_nil ?_
     refine sw_cond j0 (fun hc42=>?_) (fun hc42=>?_)
     ·
      replace h:=bT hc42 h
      refine rg j0<|u<|asg j0<|r_nil ?_
      refine sw_ret ?_
      obtain rfl:=sm h
      exact ⟨_,j0,_,j0,[],ci j0,j0,j5,j0,j1⟩
     ·
      replace h:=bF hc42 h
      refine sw_skip ?_
      refine rl j0<|u<|mv j0<|u<|add ti3 j0 j0<|u<|asg j0<|r_nil ?_
      obtain rfl:=sm h
      exact ⟨_,j0,[.old 0],cv j0 (.mpt j0)<|ce j0 j0<|ce j0 j0<|cn,j0,⟨⟨_,j0,rsOne ⟨ci j0,ci j0,ci j0,ci j0,ci j0,ci j0,ci j0,ci j0,ci j0,ci j0,j5⟩⟩,j5⟩,j0,j1⟩
    ·
     replace h:=bF hc31 h
     refine sw_exit ?_
     obtain rfl:=sm h
     exact ⟨j0,_,j0,[],cn,j0,j5,j0,j1⟩
   ·
    rintro ⟨⟩ rfl
    replace h : ref3_body_k4 = some r:=h
    unfold ref3_body_k4 at h
    refine ow_intro ?_
    refine rg j0<|u<|asg j0<|r_nil ?_
    refine sw_ret ?_
    obtain rfl:=sm h
    exact ⟨_,j0,[],ci j0,j0,j5,j0,j1⟩
   ·
    rintro r' rfl env st hp
    obtain rfl:=sm h
    exact hp
  ·
   rintro r' rfl env st hp
   obtain rfl:=sm h
   exact hp
def ref3_maps_k12 : Option (Bool) :=
  some true
def ref3_maps_k10 (v22 : Int) : Option (Sum (Int) (Sum (Unit) (Bool))) :=
  some (.inl (IntKind.i64.wrap (v22 + 1)))
def ref3_maps_l9 (v23 : ApiMap) (v38 : Int) : Option (Sum (Int) (Sum (Unit) (Bool))) :=
  cond (decide (v38 < (List.length v23.Stack : Int))) ((idx v23.Stack v38).bind fun v39=>(cond (!(v39 == [78])) ((ref3_May v39).bind fun v40=>some (!v40)) (some false)).bind fun v41=>cond v41 (some (.inr (.inr false))) (some (.inl (IntKind.i64.wrap (v38 + 1))))) (some (.inr (.inl ())))
def ref3_maps_k8 (v22 : Int) (v23 : ApiMap) : Option (Sum (Int) (Sum (Unit) (Bool))) :=
  (loopP (fun z=>ref3_maps_l9 v23 z) 0).bind fun o=>leave o (fun b=>ref3_maps_k10 v22) (fun r=>some (.inr (.inr r)))
def ref3_maps_l7 (v23 : ApiMap) (v30 : Int) : Option (Sum (Int) (Sum (Unit) (Bool))) :=
  cond (decide (v30 < (List.length v23.Locals : Int))) ((idx v23.Locals v30).bind fun v31=>(cond ((!(v31 == [84])) && (!(v31 == [78]))) ((ref3_May v31).bind fun v32=>some (!v32)) (some false)).bind fun v33=>cond v33 (some (.inr (.inr false))) (some (.inl (IntKind.i64.wrap (v30 + 1))))) (some (.inr (.inl ())))
def ref3_maps_j6 (v22 : Int) (v23 : ApiMap) (v25 : Bool) : Option (Sum (Int) (Sum (Unit) (Bool))) :=
  cond v25 (some (.inr (.inr false))) ((loopP (fun z=>ref3_maps_l7 v23 z) 0).bind fun o=>leave o (fun b=>ref3_maps_k8 v22 v23) (fun r=>some (.inr (.inr r))))
def ref3_maps_l11 (v1 : ApiMethod) (v22 : Int) : Option (Sum (Int) (Sum (Unit) (Bool))) :=
  cond (decide (v22 < (List.length v1.Maps : Int))) ((idx v1.Maps v22).bind fun v23=>cond (decide (v23.At < 0)) (ref3_maps_j6 v22 v23 true) (cond (decide ((List.length v1.Code : Int) ≤ v23.At)) (ref3_maps_j6 v22 v23 true) (cond (decide (0 < v22)) ((idx v1.Maps (IntKind.i64.wrap (v22 - 1))).bind fun v24=>cond (decide (v23.At ≤ v24.At)) (ref3_maps_j6 v22 v23 true) (cond (!((List.length v23.Locals : Int) == v1.Locals)) (ref3_maps_j6 v22 v23 true) (ref3_maps_j6 v22 v23 (decide (v1.Stack < (List.length v23.Stack : Int)))))) (cond (!((List.length v23.Locals : Int) == v1.Locals)) (ref3_maps_j6 v22 v23 true) (ref3_maps_j6 v22 v23 (decide (v1.Stack < (List.length v23.Stack : Int)))))))) (some (.inr (.inl ())))
def ref3_maps (v1 : ApiMethod) : Option (Bool) :=
  cond (decide (100 < (List.length v1.Maps : Int))) (some false) ((loopP (fun z=>ref3_maps_l11 v1 z) 0).bind fun o=>leave o (fun b=>ref3_maps_k12) some)
theorem ref3_maps_ok (v1 : ApiMethod) {r : Bool} (h : ref3_maps v1 = some r) : PureC Tryz.prog 144 [.agg [sA v1.Name,.isl 1 (List.map rStr v1.Params),sA v1.Ret,bA v1.Static,bA v1.Abstract,iA v1.Locals,iA v1.Stack,.isl 4 (List.map rApiIns v1.Code),.isl 3 (List.map rApiMap v1.Maps),.isl 4 (List.map rApiTrap v1.Traps)]] (bA r):=by
 refine pure_fn Tryz.func144 j0 (by kernel_rfl) j0 j0 ?_
 unfold ref3_maps at h
 refine rg j0<|u<|bx 0 10 j0 j0 j0 j0<|u<|asg j0<|r_nil ?_
 refine sw_seq ?_
 refine rg j0<|u<|fa ti62 j0 j0 j0<|u<|ld ti59 j0 j0<|u<|lnI ti59 j0 j0<|u<|gtr ti3 j0 j0<|r_nil ?_
 refine sw_cond j0 (fun hc1=>?_) (fun hc1=>?_)
 ·
  replace h:=bT hc1 h
  refine rg j0<|u<|asg j0<|r_nil ?_
  refine sw_ret ?_
  obtain rfl:=sm h
  exact ⟨_,j0,[],ci j0,j0,j5,j0,j1⟩
 ·
  replace h:=bF hc1 h
  refine sw_skip ?_
  refine sw_seq ?_
  refine rg j0<|u<|asg j0<|r_nil ?_
  obtain ⟨o,ho,h⟩:=bs h
  refine sw_lpl (X:=Int) (B:=Unit) (R:=Bool) (fun z=>[(1,.mpt 0 0 0),(3,iA z)]) (fun z=>[some (10,[[sA v1.Name,.isl 1 (List.map rStr v1.Params),sA v1.Ret,bA v1.Static,bA v1.Abstract,iA v1.Locals,iA v1.Stack,.isl 4 (List.map rApiIns v1.Code),.isl 3 (List.map rApiMap v1.Maps),.isl 4 (List.map rApiTrap v1.Traps)]])]) (fun b=>[]) (fun b=>[]) (fun r env st=>PostF Tryz.prog Tryz.f144 0 (bA r) [] env st) ho ⟨[.old 0],cv j0 (.mpt j0)<|ce j0 j0<|cn,j0,⟨⟨_,j0,rsOne ⟨ci j0,ci j0,ci j0,ci j0,ci j0,ci j0,ci j0,ci j0,ci j0,ci j0,j5⟩⟩,j5⟩,j0,j1⟩ ?_ ?_ ?_
  ·
   rintro v22 r h
   replace h : ref3_maps_l11 v1 v22 = some r:=h
   unfold ref3_maps_l11 at h
   refine sw_seq ?_
   refine rg j0<|u<|mv j0<|u<|fa ti62 j0 j0 j0<|u<|ld ti59 j0 j0<|u<|lnI ti59 j0 j0<|u<|lss ti3 j0 j0<|r_nil ?_
   refine sw_cond j0 (fun hc38=>?_) (fun hc38=>?_)
   ·
    replace h:=bT hc38 h
    refine sw_skip ?_
    refine sw_seq ?_
    refine sw_block ?_
    obtain ⟨v23,q39,h⟩:=bs h
    refine rg j0<|u<|fa ti62 j0 j0 j0<|u<|ld ti59 j0 j0<|u<|mv j0<|u<|ixI ti59 j0 ti81 j0 j0 j0 q39<|u<|ldI ti81 j0 (idx_some q39).2.2 j0<|u<|al 1 ti81 j0<|u<|sto ti81 j0 j0 j0<|r_nil ?_
    refine sw_seq ?_
    refine sw_meet (X:=Bool) (fun z=>[(1,.mpt 0 0 0),(3,iA v22),(4,.mpt 1 0 0),(67,bA z)]) (fun z=>[some (10,[[sA v1.Name,.isl 1 (List.map rStr v1.Params),sA v1.Ret,bA v1.Static,bA v1.Abstract,iA v1.Locals,iA v1.Stack,.isl 4 (List.map rApiIns v1.Code),.isl 3 (List.map rApiMap v1.Maps),.isl 4 (List.map rApiTrap v1.Traps)]]),some (3,[[iA v23.At,.isl 1 (List.map rStr v23.Locals),.isl 1 (List.map rStr v23.Stack)]])]) (fun z=>ref3_maps_j6 v22 v23 z = some r) ?_ ?_
    ·
     rcases bb (decide (v23.At < 0)) with hb40 | hb40
     ·
      replace h:=bT hb40 h
      exact sw_region_dt [] [42,41,40,39,38,37,36,35,34,33,32,31,30,29,28,27,26,25,24,23,22,21,20,19,18,17,16,15,14,13,12,11,10,9,8,7,6,5,4,3,2,1,0] [(67,bA true),(66,.lit undef),(65,.lit undef),(64,.lit undef),(63,.lit undef),(62,.lit undef),(61,.lit undef),(60,bA true),(59,bA true),(58,.lit undef),(57,.lit undef),(56,.lit undef),(55,.lit undef),(54,.lit undef),(53,.lit undef),(52,bA true),(51,bA true),(50,.lit undef),(49,.lit undef),(48,.lit undef),(47,.lit undef),(46,.lit undef),(45,.lit undef),(44,.lit undef),(43,.lit undef),(42,.lit undef),(41,.lit undef),(40,.lit undef),(39,.lit undef),(38,.lit undef),(37,.lit undef),(36,bA true),(35,bA true),(34,.lit undef),(33,.lit undef),(32,.lit undef),(31,.lit undef),(30,.lit undef),(29,.lit undef),(28,bA (decide (v23.At < 0))),(27,bA (decide (v23.At < 0))),(26,iA v23.At),(25,.mpt 1 0 0)] 0 (by kernel_rfl) (by kernel_rfl) j0 (by kernel_rfl) (dt0 ⟨(fun _=>pa j0 j0 j0 j0 (pk (b:=true) j0 j0<|j4)),(fun _=>pas (b:=true) j0 j0 j0 j0 j0 j0),(fun _=>pas (b:=true) j0 j0 j0 j0 j0 j0),(fun _=>pas (b:=true) j0 j0 j0 j0 j0 j0),(fun _=>pas (b:=true) j0 j0 j0 j0 j0 j0),(fun _=>pas (b:=true) j0 j0 j0 j0 j0 j0),(fun _=>pas (b:=true) j0 j0 j0 j0 j0 j0),(fun _=>pa j0 j0 j0 j0 (mv j0<|j4)),(fun _=>pa j0 j0 j0 j0 (pk (b:=true) j0 j0<|j4)),(fun _=>pas (b:=true) j0 j0 j0 j0 j0 j0),(fun _=>pas (b:=true) j0 j0 j0 j0 j0 j0),(fun _=>pas (b:=true) j0 j0 j0 j0 j0 j0),(fun _=>pas (b:=true) j0 j0 j0 j0 j0 j0),(fun _=>pas (b:=true) j0 j0 j0 j0 j0 j0),(fun _=>pas (b:=true) j0 j0 j0 j0 j0 j0),(fun _=>pa j0 j0 j0 j0 (mv j0<|j4)),(fun _=>pa j0 j0 j0 j0 (pk (b:=true) j0 j0<|j4)),(fun _=>pas (b:=true) j0 j0 j0 j0 j0 j0),(fun _=>pau j0 j0 j0 j0 j0),(fun _=>pau j0 j0 j0 j0 j0),(fun _=>pau j0 j0 j0 j0 j0),(fun _=>pau j0 j0 j0 j0 j0),(fun _=>pau j0 j0 j0 j0 j0),(fun _=>pau j0 j0 j0 j0 j0),(fun _=>pau j0 j0 j0 j0 j0),(fun _=>pau j0 j0 j0 j0 j0),(fun _=>pau j0 j0 j0 j0 j0),(fun _=>pau j0 j0 j0 j0 j0),(fun _=>pas (b:=true) j0 j0 j0 j0 j0 j0),(fun _=>pas (b:=true) j0 j0 j0 j0 j0 j0),(fun _=>pas (b:=true) j0 j0 j0 j0 j0 j0),(fun _=>pa j0 j0 j0 j0 (mv j0<|j4)),(fun _=>pa j0 j0 j0 j0 (pkb j0 hb40 j0<|j4)),(fun _=>pas (b:=(decide (v23.At < 0))) j0 j0 j0 j0 hb40 j0),(fun _=>pas (b:=(decide (v23.At < 0))) j0 j0 j0 j0 hb40 j0),(fun _=>pas (b:=(decide (v23.At < 0))) j0 j0 j0 j0 hb40 j0),(fun _=>pas (b:=(decide (v23.At < 0))) j0 j0 j0 j0 hb40 j0),(fun _=>pas (b:=(decide (v23.At < 0))) j0 j0 j0 j0 hb40 j0),(fun _=>pas (b:=(decide (v23.At < 0))) j0 j0 j0 j0 hb40 j0),(fun _=>pa j0 j0 j0 j0 (mv j0<|j4)),(fun _=>pa j0 j0 j0 j0 (lss ti3 j0 j0<|j4)),(fun _=>pa j0 j0 j0 j0 (ld ti3 j0 j0<|j4)),(fun _=>pa j0 j0 j0 j0 (fa ti81 j0 j0 j0<|j4)),j5⟩ (by kernel_rfl) j0 ⟨true,h,[.old 0,.old 1],cv j0 (.mpt j0)<|ce j0 j0<|cv j0 (.mpt j0)<|ce j0 j0<|cn,j0,⟨⟨_,j0,rsOne ⟨ci j0,ci j0,ci j0,ci j0,ci j0,ci j0,ci j0,ci j0,ci j0,ci j0,j5⟩⟩,⟨_,j0,rsOne ⟨ci j0,ci j0,ci j0,j5⟩⟩,j5⟩,j0,j1⟩)
     ·
      replace h:=bF hb40 h
      rcases bb (decide ((List.length v1.Code : Int) ≤ v23.At)) with hb41 | hb41
      ·
       replace h:=bT hb41 h
       exact sw_region_dt [] [42,41,40,39,38,37,36,35,34,33,32,31,30,29,28,27,26,25,24,23,22,21,20,19,18,17,16,15,14,13,12,11,10,9,8,7,6,5,4,3,2,1,0] [(67,bA true),(66,.lit undef),(65,.lit undef),(64,.lit undef),(63,.lit undef),(62,.lit undef),(61,.lit undef),(60,bA true),(59,bA true),(58,.lit undef),(57,.lit undef),(56,.lit undef),(55,.lit undef),(54,.lit undef),(53,.lit undef),(52,bA true),(51,bA true),(50,.lit undef),(49,.lit undef),(48,.lit undef),(47,.lit undef),(46,.lit undef),(45,.lit undef),(44,.lit undef),(43,.lit undef),(42,.lit undef),(41,.lit undef),(40,.lit undef),(39,.lit undef),(38,.lit undef),(37,.lit undef),(36,bA (decide ((List.length v1.Code : Int) ≤ v23.At))),(35,bA (decide ((List.length v1.Code : Int) ≤ v23.At))),(34,bA (decide ((List.length v1.Code : Int) ≤ v23.At))),(33,iA (List.length v1.Code : Int)),(32,.isl 4 (List.map rApiIns v1.Code)),(31,.mpt 0 0 7),(30,iA v23.At),(29,.mpt 1 0 0),(28,bA (decide (v23.At < 0))),(27,bA (decide (v23.At < 0))),(26,iA v23.At),(25,.mpt 1 0 0)] 0 (by kernel_rfl) (by kernel_rfl) j0 (by kernel_rfl) (dt0 ⟨(fun _=>pa j0 j0 j0 j0 (pk (b:=true) j0 j0<|j4)),(fun _=>pas (b:=true) j0 j0 j0 j0 j0 j0),(fun _=>pas (b:=true) j0 j0 j0 j0 j0 j0),(fun _=>pas (b:=true) j0 j0 j0 j0 j0 j0),(fun _=>pas (b:=true) j0 j0 j0 j0 j0 j0),(fun _=>pas (b:=true) j0 j0 j0 j0 j0 j0),(fun _=>pas (b:=true) j0 j0 j0 j0 j0 j0),(fun _=>pa j0 j0 j0 j0 (mv j0<|j4)),(fun _=>pa j0 j0 j0 j0 (pk (b:=true) j0 j0<|j4)),(fun _=>pas (b:=true) j0 j0 j0 j0 j0 j0),(fun _=>pas (b:=true) j0 j0 j0 j0 j0 j0),(fun _=>pas (b:=true) j0 j0 j0 j0 j0 j0),(fun _=>pas (b:=true) j0 j0 j0 j0 j0 j0),(fun _=>pas (b:=true) j0 j0 j0 j0 j0 j0),(fun _=>pas (b:=true) j0 j0 j0 j0 j0 j0),(fun _=>pa j0 j0 j0 j0 (mv j0<|j4)),(fun _=>pa j0 j0 j0 j0 (pkb j0 hb41 j0<|j4)),(fun _=>pas (b:=(decide ((List.length v1.Code : Int) ≤ v23.At))) j0 j0 j0 j0 hb41 j0),(fun _=>pau j0 j0 j0 j0 j0),(fun _=>pau j0 j0 j0 j0 j0),(fun _=>pau j0 j0 j0 j0 j0),(fun _=>pau j0 j0 j0 j0 j0),(fun _=>pau j0 j0 j0 j0 j0),(fun _=>pau j0 j0 j0 j0 j0),(fun _=>pau j0 j0 j0 j0 j0),(fun _=>pau j0 j0 j0 j0 j0),(fun _=>pau j0 j0 j0 j0 j0),(fun _=>pau j0 j0 j0 j0 j0),(fun _=>pas (b:=(decide ((List.length v1.Code : Int) ≤ v23.At))) j0 j0 j0 j0 hb41 j0),(fun _=>pas (b:=(decide ((List.length v1.Code : Int) ≤ v23.At))) j0 j0 j0 j0 hb41 j0),(fun _=>pas (b:=(decide ((List.length v1.Code : Int) ≤ v23.At))) j0 j0 j0 j0 hb41 j0),(fun _=>pa j0 j0 j0 j0 (mv j0<|j4)),(fun _=>pa j0 j0 j0 j0 (pkb j0 hb40 j0<|j4)),(fun _=>pag (b:=(decide (v23.At < 0))) j0 j0 j0 j0 hb40 j0 (geq ti3 j0 j0<|j4)),(fun _=>pag (b:=(decide (v23.At < 0))) j0 j0 j0 j0 hb40 j0 (lnI ti58 j0 j0<|j4)),(fun _=>pag (b:=(decide (v23.At < 0))) j0 j0 j0 j0 hb40 j0 (ld ti58 j0 j0<|j4)),(fun _=>pag (b:=(decide (v23.At < 0))) j0 j0 j0 j0 hb40 j0 (fa ti62 j0 j0 j0<|j4)),(fun _=>pag (b:=(decide (v23.At < 0))) j0 j0 j0 j0 hb40 j0 (ld ti3 j0 j0<|j4)),(fun _=>pag (b:=(decide (v23.At < 0))) j0 j0 j0 j0 hb40 j0 (fa ti81 j0 j0 j0<|j4)),(fun _=>pa j0 j0 j0 j0 (mv j0<|j4)),(fun _=>pa j0 j0 j0 j0 (lss ti3 j0 j0<|j4)),(fun _=>pa j0 j0 j0 j0 (ld ti3 j0 j0<|j4)),(fun _=>pa j0 j0 j0 j0 (fa ti81 j0 j0 j0<|j4)),j5⟩ (by kernel_rfl) j0 ⟨true,h,[.old 0,.old 1],cv j0 (.mpt j0)<|ce j0 j0<|cv j0 (.mpt j0)<|ce j0 j0<|cn,j0,⟨⟨_,j0,rsOne ⟨ci j0,ci j0,ci j0,ci j0,ci j0,ci j0,ci j0,ci j0,ci j0,ci j0,j5⟩⟩,⟨_,j0,rsOne ⟨ci j0,ci j0,ci j0,j5⟩⟩,j5⟩,j0,j1⟩)
      ·
       replace h:=bF hb41 h
       rcases bb (decide (0 < v22)) with hb42 | hb42
       ·
        replace h:=bT hb42 h
        obtain ⟨v24,q43,h⟩:=bs h
        rcases bb (decide (v23.At ≤ v24.At)) with hb44 | hb44
        ·
         replace h:=bT hb44 h
         exact sw_region_dt [] [42,41,40,39,38,37,36,35,34,33,32,31,30,29,28,27,26,25,24,23,22,21,20,19,18,17,16,15,14,13,12,11,10,9,8,7,6,5,4,3,2,1,0] [(67,bA true),(66,.lit undef),(65,.lit undef),(64,.lit undef),(63,.lit undef),(62,.lit undef),(61,.lit undef),(60,bA true),(59,bA true),(58,.lit undef),(57,.lit undef),(56,.lit undef),(55,.lit undef),(54,.lit undef),(53,.lit undef),(52,bA (decide (v23.At ≤ v24.At))),(51,bA (decide (v23.At ≤ v24.At))),(50,bA (decide (v23.At ≤ v24.At))),(49,bA (decide (v23.At ≤ v24.At))),(48,iA v24.At),(47,.ipt 3 (List.map rApiMap v1.Maps) (Int.toNat (IntKind.i64.wrap (v22 - 1))) 0),(46,.ipt 3 (List.map rApiMap v1.Maps) (Int.toNat (IntKind.i64.wrap (v22 - 1))) 0),(45,iA (IntKind.i64.wrap (v22 - 1))),(44,iA v22),(43,.isl 3 (List.map rApiMap v1.Maps)),(42,.mpt 0 0 8),(41,iA v23.At),(40,.mpt 1 0 0),(39,bA (decide (0 < v22))),(38,bA (decide (0 < v22))),(37,iA v22),(36,bA (decide ((List.length v1.Code : Int) ≤ v23.At))),(35,bA (decide ((List.length v1.Code : Int) ≤ v23.At))),(34,bA (decide ((List.length v1.Code : Int) ≤ v23.At))),(33,iA (List.length v1.Code : Int)),(32,.isl 4 (List.map rApiIns v1.Code)),(31,.mpt 0 0 7),(30,iA v23.At),(29,.mpt 1 0 0),(28,bA (decide (v23.At < 0))),(27,bA (decide (v23.At < 0))),(26,iA v23.At),(25,.mpt 1 0 0)] 0 (by kernel_rfl) (by kernel_rfl) j0 (by kernel_rfl) (dt0 ⟨(fun _=>pa j0 j0 j0 j0 (pk (b:=true) j0 j0<|j4)),(fun _=>pas (b:=true) j0 j0 j0 j0 j0 j0),(fun _=>pas (b:=true) j0 j0 j0 j0 j0 j0),(fun _=>pas (b:=true) j0 j0 j0 j0 j0 j0),(fun _=>pas (b:=true) j0 j0 j0 j0 j0 j0),(fun _=>pas (b:=true) j0 j0 j0 j0 j0 j0),(fun _=>pas (b:=true) j0 j0 j0 j0 j0 j0),(fun _=>pa j0 j0 j0 j0 (mv j0<|j4)),(fun _=>pa j0 j0 j0 j0 (pkb j0 hb44 j0<|j4)),(fun _=>pas (b:=(decide (v23.At ≤ v24.At))) j0 j0 j0 j0 hb44 j0),(fun _=>pas (b:=(decide (v23.At ≤ v24.At))) j0 j0 j0 j0 hb44 j0),(fun _=>pas (b:=(decide (v23.At ≤ v24.At))) j0 j0 j0 j0 hb44 j0),(fun _=>pas (b:=(decide (v23.At ≤ v24.At))) j0 j0 j0 j0 hb44 j0),(fun _=>pas (b:=(decide (v23.At ≤ v24.At))) j0 j0 j0 j0 hb44 j0),(fun _=>pas (b:=(decide (v23.At ≤ v24.At))) j0 j0 j0 j0 hb44 j0),(fun _=>pa j0 j0 j0 j0 (mv j0<|j4)),(fun _=>pa j0 j0 j0 j0 (pkb j0 hb41 j0<|j4)),(fun _=>pag (b:=(decide ((List.length v1.Code : Int) ≤ v23.At))) j0 j0 j0 j0 hb41 j0 (pkb j0 hb42 j0<|j4)),(fun _=>pag (b:=(decide (0 < v22))) j0 j0 j0 j0 hb42 j0 (leq ti3 j0 j0<|j4)),(fun _=>pag (b:=(decide (0 < v22))) j0 j0 j0 j0 hb42 j0 (ldI ti3 j0 (idx_some q43).2.2 j0<|j4)),(fun _=>pag (b:=(decide (0 < v22))) j0 j0 j0 j0 hb42 j0 (fa ti81 j0 j0 j0<|j4)),(fun _=>pag (b:=(decide (0 < v22))) j0 j0 j0 j0 hb42 j0 (ixI ti59 j0 ti81 j0 j0 j0 q43<|j4)),(fun _=>pag (b:=(decide (0 < v22))) j0 j0 j0 j0 hb42 j0 (sub ti3 j0 j0<|j4)),(fun _=>pag (b:=(decide (0 < v22))) j0 j0 j0 j0 hb42 j0 (mv j0<|j4)),(fun _=>pag (b:=(decide (0 < v22))) j0 j0 j0 j0 hb42 j0 (ld ti59 j0 j0<|j4)),(fun _=>pag (b:=(decide (0 < v22))) j0 j0 j0 j0 hb42 j0 (fa ti62 j0 j0 j0<|j4)),(fun _=>pag (b:=(decide (0 < v22))) j0 j0 j0 j0 hb42 j0 (ld ti3 j0 j0<|j4)),(fun _=>pag (b:=(decide (0 < v22))) j0 j0 j0 j0 hb42 j0 (fa ti81 j0 j0 j0<|j4)),(fun _=>pag (b:=(decide ((List.length v1.Code : Int) ≤ v23.At))) j0 j0 j0 j0 hb41 j0 (mv j0<|j4)),(fun _=>pag (b:=(decide ((List.length v1.Code : Int) ≤ v23.At))) j0 j0 j0 j0 hb41 j0 (gtr ti3 j0 j0<|j4)),(fun _=>pag (b:=(decide ((List.length v1.Code : Int) ≤ v23.At))) j0 j0 j0 j0 hb41 j0 (mv j0<|j4)),(fun _=>pa j0 j0 j0 j0 (mv j0<|j4)),(fun _=>pa j0 j0 j0 j0 (pkb j0 hb40 j0<|j4)),(fun _=>pag (b:=(decide (v23.At < 0))) j0 j0 j0 j0 hb40 j0 (geq ti3 j0 j0<|j4)),(fun _=>pag (b:=(decide (v23.At < 0))) j0 j0 j0 j0 hb40 j0 (lnI ti58 j0 j0<|j4)),(fun _=>pag (b:=(decide (v23.At < 0))) j0 j0 j0 j0 hb40 j0 (ld ti58 j0 j0<|j4)),(fun _=>pag (b:=(decide (v23.At < 0))) j0 j0 j0 j0 hb40 j0 (fa ti62 j0 j0 j0<|j4)),(fun _=>pag (b:=(decide (v23.At < 0))) j0 j0 j0 j0 hb40 j0 (ld ti3 j0 j0<|j4)),(fun _=>pag (b:=(decide (v23.At < 0))) j0 j0 j0 j0 hb40 j0 (fa ti81 j0 j0 j0<|j4)),(fun _=>pa j0 j0 j0 j0 (mv j0<|j4)),(fun _=>pa j0 j0 j0 j0 (lss ti3 j0 j0<|j4)),(fun _=>pa j0 j0 j0 j0 (ld ti3 j0 j0<|j4)),(fun _=>pa j0 j0 j0 j0 (fa ti81 j0 j0 j0<|j4)),j5⟩ (by kernel_rfl) j0 ⟨true,h,[.old 0,.old 1],cv j0 (.mpt j0)<|ce j0 j0<|cv j0 (.mpt j0)<|ce j0 j0<|cn,j0,⟨⟨_,j0,rsOne ⟨ci j0,ci j0,ci j0,ci j0,ci j0,ci j0,ci j0,ci j0,ci j0,ci j0,j5⟩⟩,⟨_,j0,rsOne ⟨ci j0,ci j0,ci j0,j5⟩⟩,j5⟩,j0,j1⟩)
        ·
         replace h:=bF hb44 h
         rcases bb (!((List.length v23.Locals : Int) == v1.Locals)) with hb45 | hb45
         ·
          replace h:=bT hb45 h
          exact sw_region_dt [] [42,41,40,39,38,37,36,35,34,33,32,31,30,29,28,27,26,25,24,23,22,21,20,19,18,17,16,15,14,13,12,11,10,9,8,7,6,5,4,3,2,1,0] [(67,bA true),(66,.lit undef),(65,.lit undef),(64,.lit undef),(63,.lit undef),(62,.lit undef),(61,.lit undef),(60,bA (!((List.length v23.Locals : Int) == v1.Locals))),(59,bA (!((List.length v23.Locals : Int) == v1.Locals))),(58,bA (!((List.length v23.Locals : Int) == v1.Locals))),(57,iA v1.Locals),(56,.mpt 0 0 5),(55,iA (List.length v23.Locals : Int)),(54,.isl 1 (List.map rStr v23.Locals)),(53,.mpt 1 0 1),(52,bA (decide (v23.At ≤ v24.At))),(51,bA (decide (v23.At ≤ v24.At))),(50,bA (decide (v23.At ≤ v24.At))),(49,bA (decide (v23.At ≤ v24.At))),(48,iA v24.At),(47,.ipt 3 (List.map rApiMap v1.Maps) (Int.toNat (IntKind.i64.wrap (v22 - 1))) 0),(46,.ipt 3 (List.map rApiMap v1.Maps) (Int.toNat (IntKind.i64.wrap (v22 - 1))) 0),(45,iA (IntKind.i64.wrap (v22 - 1))),(44,iA v22),(43,.isl 3 (List.map rApiMap v1.Maps)),(42,.mpt 0 0 8),(41,iA v23.At),(40,.mpt 1 0 0),(39,bA (decide (0 < v22))),(38,bA (decide (0 < v22))),(37,iA v22),(36,bA (decide ((List.length v1.Code : Int) ≤ v23.At))),(35,bA (decide ((List.length v1.Code : Int) ≤ v23.At))),(34,bA (decide ((List.length v1.Code : Int) ≤ v23.At))),(33,iA (List.length v1.Code : Int)),(32,.isl 4 (List.map rApiIns v1.Code)),(31,.mpt 0 0 7),(30,iA v23.At),(29,.mpt 1 0 0),(28,bA (decide (v23.At < 0))),(27,bA (decide (v23.At < 0))),(26,iA v23.At),(25,.mpt 1 0 0)] 0 (by kernel_rfl) (by kernel_rfl) j0 (by kernel_rfl) (dt0 ⟨(fun _=>pa j0 j0 j0 j0 (pkb j0 hb45 j0<|j4)),(fun _=>pas (b:=(!((List.length v23.Locals : Int) == v1.Locals))) j0 j0 j0 j0 hb45 j0),(fun _=>pas (b:=(!((List.length v23.Locals : Int) == v1.Locals))) j0 j0 j0 j0 hb45 j0),(fun _=>pas (b:=(!((List.length v23.Locals : Int) == v1.Locals))) j0 j0 j0 j0 hb45 j0),(fun _=>pas (b:=(!((List.length v23.Locals : Int) == v1.Locals))) j0 j0 j0 j0 hb45 j0),(fun _=>pas (b:=(!((List.length v23.Locals : Int) == v1.Locals))) j0 j0 j0 j0 hb45 j0),(fun _=>pas (b:=(!((List.length v23.Locals : Int) == v1.Locals))) j0 j0 j0 j0 hb45 j0),(fun _=>pa j0 j0 j0 j0 (mv j0<|j4)),(fun _=>pa j0 j0 j0 j0 (pkb j0 hb44 j0<|j4)),(fun _=>pag (b:=(decide (v23.At ≤ v24.At))) j0 j0 j0 j0 hb44 j0 (neq ti3 j0 j0<|j4)),(fun _=>pag (b:=(decide (v23.At ≤ v24.At))) j0 j0 j0 j0 hb44 j0 (ld ti3 j0 j0<|j4)),(fun _=>pag (b:=(decide (v23.At ≤ v24.At))) j0 j0 j0 j0 hb44 j0 (fa ti62 j0 j0 j0<|j4)),(fun _=>pag (b:=(decide (v23.At ≤ v24.At))) j0 j0 j0 j0 hb44 j0 (lnI ti32 j0 j0<|j4)),(fun _=>pag (b:=(decide (v23.At ≤ v24.At))) j0 j0 j0 j0 hb44 j0 (ld ti32 j0 j0<|j4)),(fun _=>pag (b:=(decide (v23.At ≤ v24.At))) j0 j0 j0 j0 hb44 j0 (fa ti81 j0 j0 j0<|j4)),(fun _=>pa j0 j0 j0 j0 (mv j0<|j4)),(fun _=>pa j0 j0 j0 j0 (pkb j0 hb41 j0<|j4)),(fun _=>pag (b:=(decide ((List.length v1.Code : Int) ≤ v23.At))) j0 j0 j0 j0 hb41 j0 (pkb j0 hb42 j0<|j4)),(fun _=>pag (b:=(decide (0 < v22))) j0 j0 j0 j0 hb42 j0 (leq ti3 j0 j0<|j4)),(fun _=>pag (b:=(decide (0 < v22))) j0 j0 j0 j0 hb42 j0 (ldI ti3 j0 (idx_some q43).2.2 j0<|j4)),(fun _=>pag (b:=(decide (0 < v22))) j0 j0 j0 j0 hb42 j0 (fa ti81 j0 j0 j0<|j4)),(fun _=>pag (b:=(decide (0 < v22))) j0 j0 j0 j0 hb42 j0 (ixI ti59 j0 ti81 j0 j0 j0 q43<|j4)),(fun _=>pag (b:=(decide (0 < v22))) j0 j0 j0 j0 hb42 j0 (sub ti3 j0 j0<|j4)),(fun _=>pag (b:=(decide (0 < v22))) j0 j0 j0 j0 hb42 j0 (mv j0<|j4)),(fun _=>pag (b:=(decide (0 < v22))) j0 j0 j0 j0 hb42 j0 (ld ti59 j0 j0<|j4)),(fun _=>pag (b:=(decide (0 < v22))) j0 j0 j0 j0 hb42 j0 (fa ti62 j0 j0 j0<|j4)),(fun _=>pag (b:=(decide (0 < v22))) j0 j0 j0 j0 hb42 j0 (ld ti3 j0 j0<|j4)),(fun _=>pag (b:=(decide (0 < v22))) j0 j0 j0 j0 hb42 j0 (fa ti81 j0 j0 j0<|j4)),(fun _=>pag (b:=(decide ((List.length v1.Code : Int) ≤ v23.At))) j0 j0 j0 j0 hb41 j0 (mv j0<|j4)),(fun _=>pag (b:=(decide ((List.length v1.Code : Int) ≤ v23.At))) j0 j0 j0 j0 hb41 j0 (gtr ti3 j0 j0<|j4)),(fun _=>pag (b:=(decide ((List.length v1.Code : Int) ≤ v23.At))) j0 j0 j0 j0 hb41 j0 (mv j0<|j4)),(fun _=>pa j0 j0 j0 j0 (mv j0<|j4)),(fun _=>pa j0 j0 j0 j0 (pkb j0 hb40 j0<|j4)),(fun _=>pag (b:=(decide (v23.At < 0))) j0 j0 j0 j0 hb40 j0 (geq ti3 j0 j0<|j4)),(fun _=>pag (b:=(decide (v23.At < 0))) j0 j0 j0 j0 hb40 j0 (lnI ti58 j0 j0<|j4)),(fun _=>pag (b:=(decide (v23.At < 0))) j0 j0 j0 j0 hb40 j0 (ld ti58 j0 j0<|j4)),(fun _=>pag (b:=(decide (v23.At < 0))) j0 j0 j0 j0 hb40 j0 (fa ti62 j0 j0 j0<|j4)),(fun _=>pag (b:=(decide (v23.At < 0))) j0 j0 j0 j0 hb40 j0 (ld ti3 j0 j0<|j4)),(fun _=>pag (b:=(decide (v23.At < 0))) j0 j0 j0 j0 hb40 j0 (fa ti81 j0 j0 j0<|j4)),(fun _=>pa j0 j0 j0 j0 (mv j0<|j4)),(fun _=>pa j0 j0 j0 j0 (lss ti3 j0 j0<|j4)),(fun _=>pa j0 j0 j0 j0 (ld ti3 j0 j0<|j4)),(fun _=>pa j0 j0 j0 j0 (fa ti81 j0 j0 j0<|j4)),j5⟩ (by kernel_rfl) j0 ⟨true,h,[.old 0,.old 1],cv j0 (.mpt j0)<|ce j0 j0<|cv j0 (.mpt j0)<|ce j0 j0<|cn,j0,⟨⟨_,j0,rsOne ⟨ci j0,ci j0,ci j0,ci j0,ci j0,ci j0,ci j0,ci j0,ci j0,ci j0,j5⟩⟩,⟨_,j0,rsOne ⟨ci j0,ci j0,ci j0,j5⟩⟩,j5⟩,j0,j1⟩)
         ·
          replace h:=bF hb45 h
          exact sw_region_dt [] [42,41,40,39,38,37,36,35,34,33,32,31,30,29,28,27,26,25,24,23,22,21,20,19,18,17,16,15,14,13,12,11,10,9,8,7,6,5,4,3,2,1,0] [(67,bA (decide (v1.Stack < (List.length v23.Stack : Int)))),(66,bA (decide (v1.Stack < (List.length v23.Stack : Int)))),(65,iA v1.Stack),(64,.mpt 0 0 6),(63,iA (List.length v23.Stack : Int)),(62,.isl 1 (List.map rStr v23.Stack)),(61,.mpt 1 0 2),(60,bA (!((List.length v23.Locals : Int) == v1.Locals))),(59,bA (!((List.length v23.Locals : Int) == v1.Locals))),(58,bA (!((List.length v23.Locals : Int) == v1.Locals))),(57,iA v1.Locals),(56,.mpt 0 0 5),(55,iA (List.length v23.Locals : Int)),(54,.isl 1 (List.map rStr v23.Locals)),(53,.mpt 1 0 1),(52,bA (decide (v23.At ≤ v24.At))),(51,bA (decide (v23.At ≤ v24.At))),(50,bA (decide (v23.At ≤ v24.At))),(49,bA (decide (v23.At ≤ v24.At))),(48,iA v24.At),(47,.ipt 3 (List.map rApiMap v1.Maps) (Int.toNat (IntKind.i64.wrap (v22 - 1))) 0),(46,.ipt 3 (List.map rApiMap v1.Maps) (Int.toNat (IntKind.i64.wrap (v22 - 1))) 0),(45,iA (IntKind.i64.wrap (v22 - 1))),(44,iA v22),(43,.isl 3 (List.map rApiMap v1.Maps)),(42,.mpt 0 0 8),(41,iA v23.At),(40,.mpt 1 0 0),(39,bA (decide (0 < v22))),(38,bA (decide (0 < v22))),(37,iA v22),(36,bA (decide ((List.length v1.Code : Int) ≤ v23.At))),(35,bA (decide ((List.length v1.Code : Int) ≤ v23.At))),(34,bA (decide ((List.length v1.Code : Int) ≤ v23.At))),(33,iA (List.length v1.Code : Int)),(32,.isl 4 (List.map rApiIns v1.Code)),(31,.mpt 0 0 7),(30,iA v23.At),(29,.mpt 1 0 0),(28,bA (decide (v23.At < 0))),(27,bA (decide (v23.At < 0))),(26,iA v23.At),(25,.mpt 1 0 0)] 0 (by kernel_rfl) (by kernel_rfl) j0 (by kernel_rfl) (dt0 ⟨(fun _=>pa j0 j0 j0 j0 (pkb j0 hb45 j0<|j4)),(fun _=>pag (b:=(!((List.length v23.Locals : Int) == v1.Locals))) j0 j0 j0 j0 hb45 j0 (gtr ti3 j0 j0<|j4)),(fun _=>pag (b:=(!((List.length v23.Locals : Int) == v1.Locals))) j0 j0 j0 j0 hb45 j0 (ld ti3 j0 j0<|j4)),(fun _=>pag (b:=(!((List.length v23.Locals : Int) == v1.Locals))) j0 j0 j0 j0 hb45 j0 (fa ti62 j0 j0 j0<|j4)),(fun _=>pag (b:=(!((List.length v23.Locals : Int) == v1.Locals))) j0 j0 j0 j0 hb45 j0 (lnI ti32 j0 j0<|j4)),(fun _=>pag (b:=(!((List.length v23.Locals : Int) == v1.Locals))) j0 j0 j0 j0 hb45 j0 (ld ti32 j0 j0<|j4)),(fun _=>pag (b:=(!((List.length v23.Locals : Int) == v1.Locals))) j0 j0 j0 j0 hb45 j0 (fa ti81 j0 j0 j0<|j4)),(fun _=>pa j0 j0 j0 j0 (mv j0<|j4)),(fun _=>pa j0 j0 j0 j0 (pkb j0 hb44 j0<|j4)),(fun _=>pag (b:=(decide (v23.At ≤ v24.At))) j0 j0 j0 j0 hb44 j0 (neq ti3 j0 j0<|j4)),(fun _=>pag (b:=(decide (v23.At ≤ v24.At))) j0 j0 j0 j0 hb44 j0 (ld ti3 j0 j0<|j4)),(fun _=>pag (b:=(decide (v23.At ≤ v24.At))) j0 j0 j0 j0 hb44 j0 (fa ti62 j0 j0 j0<|j4)),(fun _=>pag (b:=(decide (v23.At ≤ v24.At))) j0 j0 j0 j0 hb44 j0 (lnI ti32 j0 j0<|j4)),(fun _=>pag (b:=(decide (v23.At ≤ v24.At))) j0 j0 j0 j0 hb44 j0 (ld ti32 j0 j0<|j4)),(fun _=>pag (b:=(decide (v23.At ≤ v24.At))) j0 j0 j0 j0 hb44 j0 (fa ti81 j0 j0 j0<|j4)),(fun _=>pa j0 j0 j0 j0 (mv j0<|j4)),(fun _=>pa j0 j0 j0 j0 (pkb j0 hb41 j0<|j4)),(fun _=>pag (b:=(decide ((List.length v1.Code : Int) ≤ v23.At))) j0 j0 j0 j0 hb41 j0 (pkb j0 hb42 j0<|j4)),(fun _=>pag (b:=(decide (0 < v22))) j0 j0 j0 j0 hb42 j0 (leq ti3 j0 j0<|j4)),(fun _=>pag (b:=(decide (0 < v22))) j0 j0 j0 j0 hb42 j0 (ldI ti3 j0 (idx_some q43).2.2 j0<|j4)),(fun _=>pag (b:=(decide (0 < v22))) j0 j0 j0 j0 hb42 j0 (fa ti81 j0 j0 j0<|j4)),(fun _=>pag (b:=(decide (0 < v22))) j0 j0 j0 j0 hb42 j0 (ixI ti59 j0 ti81 j0 j0 j0 q43<|j4)),(fun _=>pag (b:=(decide (0 < v22))) j0 j0 j0 j0 hb42 j0 (sub ti3 j0 j0<|j4)),(fun _=>pag (b:=(decide (0 < v22))) j0 j0 j0 j0 hb42 j0 (mv j0<|j4)),(fun _=>pag (b:=(decide (0 < v22))) j0 j0 j0 j0 hb42 j0 (ld ti59 j0 j0<|j4)),(fun _=>pag (b:=(decide (0 < v22))) j0 j0 j0 j0 hb42 j0 (fa ti62 j0 j0 j0<|j4)),(fun _=>pag (b:=(decide (0 < v22))) j0 j0 j0 j0 hb42 j0 (ld ti3 j0 j0<|j4)),(fun _=>pag (b:=(decide (0 < v22))) j0 j0 j0 j0 hb42 j0 (fa ti81 j0 j0 j0<|j4)),(fun _=>pag (b:=(decide ((List.length v1.Code : Int) ≤ v23.At))) j0 j0 j0 j0 hb41 j0 (mv j0<|j4)),(fun _=>pag (b:=(decide ((List.length v1.Code : Int) ≤ v23.At))) j0 j0 j0 j0 hb41 j0 (gtr ti3 j0 j0<|j4)),(fun _=>pag (b:=(decide ((List.length v1.Code : Int) ≤ v23.At))) j0 j0 j0 j0 hb41 j0 (mv j0<|j4)),(fun _=>pa j0 j0 j0 j0 (mv j0<|j4)),(fun _=>pa j0 j0 j0 j0 (pkb j0 hb40 j0<|j4)),(fun _=>pag (b:=(decide (v23.At < 0))) j0 j0 j0 j0 hb40 j0 (geq ti3 j0 j0<|j4)),(fun _=>pag (b:=(decide (v23.At < 0))) j0 j0 j0 j0 hb40 j0 (lnI ti58 j0 j0<|j4)),(fun _=>pag (b:=(decide (v23.At < 0))) j0 j0 j0 j0 hb40 j0 (ld ti58 j0 j0<|j4)),(fun _=>pag (b:=(decide (v23.At < 0))) j0 j0 j0 j0 hb40 j0 (fa ti62 j0 j0 j0<|j4)),(fun _=>pag (b:=(decide (v23.At < 0))) j0 j0 j0 j0 hb40 j0 (ld ti3 j0 j0<|j4)),(fun _=>pag (b:=(decide (v23.At < 0))) j0 j0 j0 j0 hb40 j0 (fa ti81 j0 j0 j0<|j4)),(fun _=>pa j0 j0 j0 j0 (mv j0<|j4)),(fun _=>pa j0 j0 j0 j0 (lss ti3 j0 j0<|j4)),(fun _=>pa j0 j0 j0 j0 (ld ti3 j0 j0<|j4)),(fun _=>pa j0 j0 j0 j0 (fa ti81 j0 j0 j0<|j4)),j5⟩ (by kernel_rfl) j0 ⟨(decide (v1.Stack < (List.length v23.Stack : Int))),h,[.old 0,.old 1],cv j0 (.mpt j0)<|ce j0 j0<|cv j0 (.mpt j0)<|ce j0 j0<|cn,j0,⟨⟨_,j0,rsOne ⟨ci j0,ci j0,ci j0,ci j0,ci j0,ci j0,ci j0,ci j0,ci j0,ci j0,j5⟩⟩,⟨_,j0,rsOne ⟨ci j0,ci j0,ci j0,j5⟩⟩,j5⟩,j0,j1⟩)
       ·
        replace h:=bF hb42 h
        rcases bb (!((List.length v23.Locals : Int) == v1.Locals)) with hb46 | hb46
        ·
         replace h:=bT hb46 h
         exact sw_region_dt [] [42,41,40,39,38,37,36,35,34,33,32,31,30,29,28,27,26,25,24,23,22,21,20,19,18,17,16,15,14,13,12,11,10,9,8,7,6,5,4,3,2,1,0] [(67,bA true),(66,.lit undef),(65,.lit undef),(64,.lit undef),(63,.lit undef),(62,.lit undef),(61,.lit undef),(60,bA (!((List.length v23.Locals : Int) == v1.Locals))),(59,bA (!((List.length v23.Locals : Int) == v1.Locals))),(58,bA (!((List.length v23.Locals : Int) == v1.Locals))),(57,iA v1.Locals),(56,.mpt 0 0 5),(55,iA (List.length v23.Locals : Int)),(54,.isl 1 (List.map rStr v23.Locals)),(53,.mpt 1 0 1),(52,bA false),(51,bA false),(50,bA false),(49,.lit undef),(48,.lit undef),(47,.lit undef),(46,.lit undef),(45,.lit undef),(44,.lit undef),(43,.lit undef),(42,.lit undef),(41,.lit undef),(40,.lit undef),(39,bA (decide (0 < v22))),(38,bA (decide (0 < v22))),(37,iA v22),(36,bA (decide ((List.length v1.Code : Int) ≤ v23.At))),(35,bA (decide ((List.length v1.Code : Int) ≤ v23.At))),(34,bA (decide ((List.length v1.Code : Int) ≤ v23.At))),(33,iA (List.length v1.Code : Int)),(32,.isl 4 (List.map rApiIns v1.Code)),(31,.mpt 0 0 7),(30,iA v23.At),(29,.mpt 1 0 0),(28,bA (decide (v23.At < 0))),(27,bA (decide (v23.At < 0))),(26,iA v23.At),(25,.mpt 1 0 0)] 0 (by kernel_rfl) (by kernel_rfl) j0 (by kernel_rfl) (dt0 ⟨(fun _=>pa j0 j0 j0 j0 (pkb j0 hb46 j0<|j4)),(fun _=>pas (b:=(!((List.length v23.Locals : Int) == v1.Locals))) j0 j0 j0 j0 hb46 j0),(fun _=>pas (b:=(!((List.length v23.Locals : Int) == v1.Locals))) j0 j0 j0 j0 hb46 j0),(fun _=>pas (b:=(!((List.length v23.Locals : Int) == v1.Locals))) j0 j0 j0 j0 hb46 j0),(fun _=>pas (b:=(!((List.length v23.Locals : Int) == v1.Locals))) j0 j0 j0 j0 hb46 j0),(fun _=>pas (b:=(!((List.length v23.Locals : Int) == v1.Locals))) j0 j0 j0 j0 hb46 j0),(fun _=>pas (b:=(!((List.length v23.Locals : Int) == v1.Locals))) j0 j0 j0 j0 hb46 j0),(fun _=>pa j0 j0 j0 j0 (mv j0<|j4)),(fun _=>pa j0 j0 j0 j0 (pk (b:=false) j0 j0<|j4)),(fun _=>pag (b:=false) j0 j0 j0 j0 j0 j0 (neq ti3 j0 j0<|j4)),(fun _=>pag (b:=false) j0 j0 j0 j0 j0 j0 (ld ti3 j0 j0<|j4)),(fun _=>pag (b:=false) j0 j0 j0 j0 j0 j0 (fa ti62 j0 j0 j0<|j4)),(fun _=>pag (b:=false) j0 j0 j0 j0 j0 j0 (lnI ti32 j0 j0<|j4)),(fun _=>pag (b:=false) j0 j0 j0 j0 j0 j0 (ld ti32 j0 j0<|j4)),(fun _=>pag (b:=false) j0 j0 j0 j0 j0 j0 (fa ti81 j0 j0 j0<|j4)),(fun _=>pa j0 j0 j0 j0 (mv j0<|j4)),(fun _=>pa j0 j0 j0 j0 (pkb j0 hb41 j0<|j4)),(fun _=>pag (b:=(decide ((List.length v1.Code : Int) ≤ v23.At))) j0 j0 j0 j0 hb41 j0 (pkb j0 hb42 j0<|j4)),(fun _=>pas (b:=(decide (0 < v22))) j0 j0 j0 j0 hb42 j0),(fun _=>pas (b:=(decide (0 < v22))) j0 j0 j0 j0 hb42 j0),(fun _=>pas (b:=(decide (0 < v22))) j0 j0 j0 j0 hb42 j0),(fun _=>pas (b:=(decide (0 < v22))) j0 j0 j0 j0 hb42 j0),(fun _=>pas (b:=(decide (0 < v22))) j0 j0 j0 j0 hb42 j0),(fun _=>pas (b:=(decide (0 < v22))) j0 j0 j0 j0 hb42 j0),(fun _=>pas (b:=(decide (0 < v22))) j0 j0 j0 j0 hb42 j0),(fun _=>pas (b:=(decide (0 < v22))) j0 j0 j0 j0 hb42 j0),(fun _=>pas (b:=(decide (0 < v22))) j0 j0 j0 j0 hb42 j0),(fun _=>pas (b:=(decide (0 < v22))) j0 j0 j0 j0 hb42 j0),(fun _=>pag (b:=(decide ((List.length v1.Code : Int) ≤ v23.At))) j0 j0 j0 j0 hb41 j0 (mv j0<|j4)),(fun _=>pag (b:=(decide ((List.length v1.Code : Int) ≤ v23.At))) j0 j0 j0 j0 hb41 j0 (gtr ti3 j0 j0<|j4)),(fun _=>pag (b:=(decide ((List.length v1.Code : Int) ≤ v23.At))) j0 j0 j0 j0 hb41 j0 (mv j0<|j4)),(fun _=>pa j0 j0 j0 j0 (mv j0<|j4)),(fun _=>pa j0 j0 j0 j0 (pkb j0 hb40 j0<|j4)),(fun _=>pag (b:=(decide (v23.At < 0))) j0 j0 j0 j0 hb40 j0 (geq ti3 j0 j0<|j4)),(fun _=>pag (b:=(decide (v23.At < 0))) j0 j0 j0 j0 hb40 j0 (lnI ti58 j0 j0<|j4)),(fun _=>pag (b:=(decide (v23.At < 0))) j0 j0 j0 j0 hb40 j0 (ld ti58 j0 j0<|j4)),(fun _=>pag (b:=(decide (v23.At < 0))) j0 j0 j0 j0 hb40 j0 (fa ti62 j0 j0 j0<|j4)),(fun _=>pag (b:=(decide (v23.At < 0))) j0 j0 j0 j0 hb40 j0 (ld ti3 j0 j0<|j4)),(fun _=>pag (b:=(decide (v23.At < 0))) j0 j0 j0 j0 hb40 j0 (fa ti81 j0 j0 j0<|j4)),(fun _=>pa j0 j0 j0 j0 (mv j0<|j4)),(fun _=>pa j0 j0 j0 j0 (lss ti3 j0 j0<|j4)),(fun _=>pa j0 j0 j0 j0 (ld ti3 j0 j0<|j4)),(fun _=>pa j0 j0 j0 j0 (fa ti81 j0 j0 j0<|j4)),j5⟩ (by kernel_rfl) j0 ⟨true,h,[.old 0,.old 1],cv j0 (.mpt j0)<|ce j0 j0<|cv j0 (.mpt j0)<|ce j0 j0<|cn,j0,⟨⟨_,j0,rsOne ⟨ci j0,ci j0,ci j0,ci j0,ci j0,ci j0,ci j0,ci j0,ci j0,ci j0,j5⟩⟩,⟨_,j0,rsOne ⟨ci j0,ci j0,ci j0,j5⟩⟩,j5⟩,j0,j1⟩)
        ·
         replace h:=bF hb46 h
         exact sw_region_dt [] [42,41,40,39,38,37,36,35,34,33,32,31,30,29,28,27,26,25,24,23,22,21,20,19,18,17,16,15,14,13,12,11,10,9,8,7,6,5,4,3,2,1,0] [(67,bA (decide (v1.Stack < (List.length v23.Stack : Int)))),(66,bA (decide (v1.Stack < (List.length v23.Stack : Int)))),(65,iA v1.Stack),(64,.mpt 0 0 6),(63,iA (List.length v23.Stack : Int)),(62,.isl 1 (List.map rStr v23.Stack)),(61,.mpt 1 0 2),(60,bA (!((List.length v23.Locals : Int) == v1.Locals))),(59,bA (!((List.length v23.Locals : Int) == v1.Locals))),(58,bA (!((List.length v23.Locals : Int) == v1.Locals))),(57,iA v1.Locals),(56,.mpt 0 0 5),(55,iA (List.length v23.Locals : Int)),(54,.isl 1 (List.map rStr v23.Locals)),(53,.mpt 1 0 1),(52,bA false),(51,bA false),(50,bA false),(49,.lit undef),(48,.lit undef),(47,.lit undef),(46,.lit undef),(45,.lit undef),(44,.lit undef),(43,.lit undef),(42,.lit undef),(41,.lit undef),(40,.lit undef),(39,bA (decide (0 < v22))),(38,bA (decide (0 < v22))),(37,iA v22),(36,bA (decide ((List.length v1.Code : Int) ≤ v23.At))),(35,bA (decide ((List.length v1.Code : Int) ≤ v23.At))),(34,bA (decide ((List.length v1.Code : Int) ≤ v23.At))),(33,iA (List.length v1.Code : Int)),(32,.isl 4 (List.map rApiIns v1.Code)),(31,.mpt 0 0 7),(30,iA v23.At),(29,.mpt 1 0 0),(28,bA (decide (v23.At < 0))),(27,bA (decide (v23.At < 0))),(26,iA v23.At),(25,.mpt 1 0 0)] 0 (by kernel_rfl) (by kernel_rfl) j0 (by kernel_rfl) (dt0 ⟨(fun _=>pa j0 j0 j0 j0 (pkb j0 hb46 j0<|j4)),(fun _=>pag (b:=(!((List.length v23.Locals : Int) == v1.Locals))) j0 j0 j0 j0 hb46 j0 (gtr ti3 j0 j0<|j4)),(fun _=>pag (b:=(!((List.length v23.Locals : Int) == v1.Locals))) j0 j0 j0 j0 hb46 j0 (ld ti3 j0 j0<|j4)),(fun _=>pag (b:=(!((List.length v23.Locals : Int) == v1.Locals))) j0 j0 j0 j0 hb46 j0 (fa ti62 j0 j0 j0<|j4)),(fun _=>pag (b:=(!((List.length v23.Locals : Int) == v1.Locals))) j0 j0 j0 j0 hb46 j0 (lnI ti32 j0 j0<|j4)),(fun _=>pag (b:=(!((List.length v23.Locals : Int) == v1.Locals))) j0 j0 j0 j0 hb46 j0 (ld ti32 j0 j0<|j4)),(fun _=>pag (b:=(!((List.length v23.Locals : Int) == v1.Locals))) j0 j0 j0 j0 hb46 j0 (fa ti81 j0 j0 j0<|j4)),(fun _=>pa j0 j0 j0 j0 (mv j0<|j4)),(fun _=>pa j0 j0 j0 j0 (pk (b:=false) j0 j0<|j4)),(fun _=>pag (b:=false) j0 j0 j0 j0 j0 j0 (neq ti3 j0 j0<|j4)),(fun _=>pag (b:=false) j0 j0 j0 j0 j0 j0 (ld ti3 j0 j0<|j4)),(fun _=>pag (b:=false) j0 j0 j0 j0 j0 j0 (fa ti62 j0 j0 j0<|j4)),(fun _=>pag (b:=false) j0 j0 j0 j0 j0 j0 (lnI ti32 j0 j0<|j4)),(fun _=>pag (b:=false) j0 j0 j0 j0 j0 j0 (ld ti32 j0 j0<|j4)),(fun _=>pag (b:=false) j0 j0 j0 j0 j0 j0 (fa ti81 j0 j0 j0<|j4)),(fun _=>pa j0 j0 j0 j0 (mv j0<|j4)),(fun _=>pa j0 j0 j0 j0 (pkb j0 hb41 j0<|j4)),(fun _=>pag (b:=(decide ((List.length v1.Code : Int) ≤ v23.At))) j0 j0 j0 j0 hb41 j0 (pkb j0 hb42 j0<|j4)),(fun _=>pas (b:=(decide (0 < v22))) j0 j0 j0 j0 hb42 j0),(fun _=>pas (b:=(decide (0 < v22))) j0 j0 j0 j0 hb42 j0),(fun _=>pas (b:=(decide (0 < v22))) j0 j0 j0 j0 hb42 j0),(fun _=>pas (b:=(decide (0 < v22))) j0 j0 j0 j0 hb42 j0),(fun _=>pas (b:=(decide (0 < v22))) j0 j0 j0 j0 hb42 j0),(fun _=>pas (b:=(decide (0 < v22))) j0 j0 j0 j0 hb42 j0),(fun _=>pas (b:=(decide (0 < v22))) j0 j0 j0 j0 hb42 j0),(fun _=>pas (b:=(decide (0 < v22))) j0 j0 j0 j0 hb42 j0),(fun _=>pas (b:=(decide (0 < v22))) j0 j0 j0 j0 hb42 j0),(fun _=>pas (b:=(decide (0 < v22))) j0 j0 j0 j0 hb42 j0),(fun _=>pag (b:=(decide ((List.length v1.Code : Int) ≤ v23.At))) j0 j0 j0 j0 hb41 j0 (mv j0<|j4)),(fun _=>pag (b:=(decide ((List.length v1.Code : Int) ≤ v23.At))) j0 j0 j0 j0 hb41 j0 (gtr ti3 j0 j0<|j4)),(fun _=>pag (b:=(decide ((List.length v1.Code : Int) ≤ v23.At))) j0 j0 j0 j0 hb41 j0 (mv j0<|j4)),(fun _=>pa j0 j0 j0 j0 (mv j0<|j4)),(fun _=>pa j0 j0 j0 j0 (pkb j0 hb40 j0<|j4)),(fun _=>pag (b:=(decide (v23.At < 0))) j0 j0 j0 j0 hb40 j0 (geq ti3 j0 j0<|j4)),(fun _=>pag (b:=(decide (v23.At < 0))) j0 j0 j0 j0 hb40 j0 (lnI ti58 j0 j0<|j4)),(fun _=>pag (b:=(decide (v23.At < 0))) j0 j0 j0 j0 hb40 j0 (ld ti58 j0 j0<|j4)),(fun _=>pag (b:=(decide (v23.At < 0))) j0 j0 j0 j0 hb40 j0 (fa ti62 j0 j0 j0<|j4)),(fun _=>pag (b:=(decide (v23.At < 0))) j0 j0 j0 j0 hb40 j0 (ld ti3 j0 j0<|j4)),(fun _=>pag (b:=(decide (v23.At < 0))) j0 j0 j0 j0 hb40 j0 (fa ti81 j0 j0 j0<|j4)),(fun _=>pa j0 j0 j0 j0 (mv j0<|j4)),(fun _=>pa j0 j0 j0 j0 (lss ti3 j0 j0<|j4)),(fun _=>pa j0 j0 j0 j0 (ld ti3 j0 j0<|j4)),(fun _=>pa j0 j0 j0 j0 (fa ti81 j0 j0 j0<|j4)),j5⟩ (by kernel_rfl) j0 ⟨(decide (v1.Stack < (List.length v23.Stack : Int))),h,[.old 0,.old 1],cv j0 (.mpt j0)<|ce j0 j0<|cv j0 (.mpt j0)<|ce j0 j0<|cn,j0,⟨⟨_,j0,rsOne ⟨ci j0,ci j0,ci j0,ci j0,ci j0,ci j0,ci j0,ci j0,ci j0,ci j0,j5⟩⟩,⟨_,j0,rsOne ⟨ci j0,ci j0,ci j0,j5⟩⟩,j5⟩,j0,j1⟩)
    ·
     rintro v25 h
     replace h : ref3_maps_j6 v22 v23 v25 = some r:=h
     unfold ref3_maps_j6 at h
     refine sw_cond j0 (fun hc47=>?_) (fun hc47=>?_)
     ·
      replace h:=bT hc47 h
      refine rg j0<|u<|asg j0<|r_nil ?_
      refine sw_ret ?_
      obtain rfl:=sm h
      exact ⟨_,j0,_,j0,[],ci j0,j0,j5,j0,j1⟩
     ·
      replace h:=bF hc47 h
      refine sw_skip ?_
      refine sw_seq ?_
      refine rg j0<|u<|asg j0<|r_nil ?_
      obtain ⟨o,ho,h⟩:=bs h
      refine sw_lpl (X:=Int) (B:=Unit) (R:=Bool) (fun z=>[(1,.mpt 0 0 0),(3,iA v22),(4,.mpt 1 0 0),(5,iA z)]) (fun z=>[some (10,[[sA v1.Name,.isl 1 (List.map rStr v1.Params),sA v1.Ret,bA v1.Static,bA v1.Abstract,iA v1.Locals,iA v1.Stack,.isl 4 (List.map rApiIns v1.Code),.isl 3 (List.map rApiMap v1.Maps),.isl 4 (List.map rApiTrap v1.Traps)]]),some (3,[[iA v23.At,.isl 1 (List.map rStr v23.Locals),.isl 1 (List.map rStr v23.Stack)]])]) (fun b=>[(1,.mpt 0 0 0),(3,iA v22),(4,.mpt 1 0 0)]) (fun b=>[some (10,[[sA v1.Name,.isl 1 (List.map rStr v1.Params),sA v1.Ret,bA v1.Static,bA v1.Abstract,iA v1.Locals,iA v1.Stack,.isl 4 (List.map rApiIns v1.Code),.isl 3 (List.map rApiMap v1.Maps),.isl 4 (List.map rApiTrap v1.Traps)]]),some (3,[[iA v23.At,.isl 1 (List.map rStr v23.Locals),.isl 1 (List.map rStr v23.Stack)]])]) (fun r env st=>PostF Tryz.prog Tryz.f144 0 (bA r) [] env st) ho ⟨[.old 0,.old 1],cv j0 (.mpt j0)<|ce j0 j0<|cv j0 (.mpt j0)<|ce j0 j0<|cn,j0,⟨⟨_,j0,rsOne ⟨ci j0,ci j0,ci j0,ci j0,ci j0,ci j0,ci j0,ci j0,ci j0,ci j0,j5⟩⟩,⟨_,j0,rsOne ⟨ci j0,ci j0,ci j0,j5⟩⟩,j5⟩,j0,j1⟩ ?_ ?_ ?_
      ·
       rintro v30 r h
       replace h : ref3_maps_l7 v23 v30 = some r:=h
       unfold ref3_maps_l7 at h
       refine sw_seq ?_
       refine rg j0<|u<|mv j0<|u<|fa ti81 j0 j0 j0<|u<|ld ti32 j0 j0<|u<|lnI ti32 j0 j0<|u<|lss ti3 j0 j0<|r_nil ?_
       refine sw_cond j0 (fun hc55=>?_) (fun hc55=>?_)
       ·
        replace h:=bT hc55 h
        refine sw_skip ?_
        refine sw_seq ?_
        refine sw_block ?_
        obtain ⟨v31,q56,h⟩:=bs h
        refine rg j0<|u<|fa ti81 j0 j0 j0<|u<|ld ti32 j0 j0<|u<|mv j0<|u<|ixI ti32 j0 ti9 j0 j0 j0 q56<|u<|ldI ti9 j0 (idx_some q56).2.2 j0<|u<|asg j0<|r_nil ?_
        obtain ⟨v33,q60,h⟩:=bs h
        refine rg j0<|u<|mv j0<|u<|sne ti9 j0 j0<|u<|mv j0<|r_and (j:=2) 2 j0 j0 j0 j0 j0 gpn (fun hb57=>g j0 hb57<|mv j0<|g j0 hb57<|sne ti9 j0 j0<|r_nil (egA [83,84] 2 hb57 j0 j0 j0 j0)) andF<|u<|mv j0<|r_and (x:=v33) (j:=6) 3 j0 j0 j0 j0 j0 gpn (fun hb58=>by replace q60:=bT hb58 q60; obtain ⟨v32,q59,q60⟩:=bs q60; obtain rfl:=sm q60; exact g j0 hb58<|mv j0<|g j0 hb58<|pc (ref3_May_ok v31 q59) j0 j0 j0<|g j0 hb58<|nt j0<|r_nil (eg [87,88,89] 3 j0 j0 j0 j0)) (fun hb=>(sm (bF hb q60)).symm)<|r_nil ?_
        refine sw_cond j0 (fun hc61=>?_) (fun hc61=>?_)
        ·
         replace h:=bT hc61 h
         refine rg j0<|u<|asg j0<|r_nil ?_
         refine sw_ret ?_
         obtain rfl:=sm h
         exact ⟨_,j0,_,j0,[],ci j0,j0,j5,j0,j1⟩
        ·
         replace h:=bF hc61 h
         refine sw_skip ?_
         refine rl j0<|u<|mv j0<|u<|add ti3 j0 j0<|u<|asg j0<|r_nil ?_
         obtain rfl:=sm h
         exact ⟨_,j0,[.old 0,.old 1],cv j0 (.mpt j0)<|ce j0 j0<|cv j0 (.mpt j0)<|ce j0 j0<|cn,j0,⟨⟨_,j0,rsOne ⟨ci j0,ci j0,ci j0,ci j0,ci j0,ci j0,ci j0,ci j0,ci j0,ci j0,j5⟩⟩,⟨_,j0,rsOne ⟨ci j0,ci j0,ci j0,j5⟩⟩,j5⟩,j0,j1⟩
       ·
        replace h:=bF hc55 h
        refine sw_exit ?_
        obtain rfl:=sm h
        exact ⟨j0,_,j0,[.old 0,.old 1],cv j0 (.mpt j0)<|ce j0 j0<|cv j0 (.mpt j0)<|cn,j0,⟨⟨_,j0,rsOne ⟨ci j0,ci j0,ci j0,ci j0,ci j0,ci j0,ci j0,ci j0,ci j0,ci j0,j5⟩⟩,⟨_,j0,rsOne ⟨ci j0,ci j0,ci j0,j5⟩⟩,j5⟩,j0,j1⟩
      ·
       rintro ⟨⟩ rfl
       replace h : ref3_maps_k8 v22 v23 = some r:=h
       unfold ref3_maps_k8 at h
       refine ow_intro ?_
       refine rg j0<|u<|asg j0<|r_nil ?_
       obtain ⟨o,ho,h⟩:=bs h
       refine sw_lpl (X:=Int) (B:=Unit) (R:=Bool) (fun z=>[(1,.mpt 0 0 0),(3,iA v22),(4,.mpt 1 0 0),(7,iA z)]) (fun z=>[some (10,[[sA v1.Name,.isl 1 (List.map rStr v1.Params),sA v1.Ret,bA v1.Static,bA v1.Abstract,iA v1.Locals,iA v1.Stack,.isl 4 (List.map rApiIns v1.Code),.isl 3 (List.map rApiMap v1.Maps),.isl 4 (List.map rApiTrap v1.Traps)]]),some (3,[[iA v23.At,.isl 1 (List.map rStr v23.Locals),.isl 1 (List.map rStr v23.Stack)]])]) (fun b=>[(1,.mpt 0 0 0),(3,iA v22)]) (fun b=>[some (10,[[sA v1.Name,.isl 1 (List.map rStr v1.Params),sA v1.Ret,bA v1.Static,bA v1.Abstract,iA v1.Locals,iA v1.Stack,.isl 4 (List.map rApiIns v1.Code),.isl 3 (List.map rApiMap v1.Maps),.isl 4 (List.map rApiTrap v1.Traps)]])]) (fun r env st=>PostF Tryz.prog Tryz.f144 0 (bA r) [] env st) ho ⟨[.old 0,.old 1],cv j0 (.mpt j0)<|ce j0 j0<|cv j0 (.mpt j0)<|ce j0 j0<|cn,j0,⟨⟨_,j0,rsOne ⟨ci j0,ci j0,ci j0,ci j0,ci j0,ci j0,ci j0,ci j0,ci j0,ci j0,j5⟩⟩,⟨_,j0,rsOne ⟨ci j0,ci j0,ci j0,j5⟩⟩,j5⟩,j0,j1⟩ ?_ ?_ ?_
       ·
        rintro v38 r h
        replace h : ref3_maps_l9 v23 v38 = some r:=h
        unfold ref3_maps_l9 at h
        refine sw_seq ?_
        refine rg j0<|u<|mv j0<|u<|fa ti81 j0 j0 j0<|u<|ld ti32 j0 j0<|u<|lnI ti32 j0 j0<|u<|lss ti3 j0 j0<|r_nil ?_
        refine sw_cond j0 (fun hc68=>?_) (fun hc68=>?_)
        ·
         replace h:=bT hc68 h
         refine sw_skip ?_
         refine sw_seq ?_
         refine sw_block ?_
         obtain ⟨v39,q69,h⟩:=bs h
         refine rg j0<|u<|fa ti81 j0 j0 j0<|u<|ld ti32 j0 j0<|u<|mv j0<|u<|ixI ti32 j0 ti9 j0 j0 j0 q69<|u<|ldI ti9 j0 (idx_some q69).2.2 j0<|u<|asg j0<|r_nil ?_
         obtain ⟨v41,q72,h⟩:=bs h
         refine rg j0<|u<|mv j0<|u<|sne ti9 j0 j0<|u<|mv j0<|r_and (x:=v41) (j:=2) 3 j0 j0 j0 j0 j0 gpn (fun hb70=>by replace q72:=bT hb70 q72; obtain ⟨v40,q71,q72⟩:=bs q72; obtain rfl:=sm q72; exact g j0 hb70<|mv j0<|g j0 hb70<|pc (ref3_May_ok v39 q71) j0 j0 j0<|g j0 hb70<|nt j0<|r_nil (eg [106,107,108] 3 j0 j0 j0 j0)) (fun hb=>(sm (bF hb q72)).symm)<|r_nil ?_
         refine sw_cond j0 (fun hc73=>?_) (fun hc73=>?_)
         ·
          replace h:=bT hc73 h
          refine rg j0<|u<|asg j0<|r_nil ?_
          refine sw_ret ?_
          obtain rfl:=sm h
          exact ⟨_,j0,_,j0,[],ci j0,j0,j5,j0,j1⟩
         ·
          replace h:=bF hc73 h
          refine sw_skip ?_
          refine rl j0<|u<|mv j0<|u<|add ti3 j0 j0<|u<|asg j0<|r_nil ?_
          obtain rfl:=sm h
          exact ⟨_,j0,[.old 0,.old 1],cv j0 (.mpt j0)<|ce j0 j0<|cv j0 (.mpt j0)<|ce j0 j0<|cn,j0,⟨⟨_,j0,rsOne ⟨ci j0,ci j0,ci j0,ci j0,ci j0,ci j0,ci j0,ci j0,ci j0,ci j0,j5⟩⟩,⟨_,j0,rsOne ⟨ci j0,ci j0,ci j0,j5⟩⟩,j5⟩,j0,j1⟩
        ·
         replace h:=bF hc68 h
         refine sw_exit ?_
         obtain rfl:=sm h
         exact ⟨j0,_,j0,[.old 0],cv j0 (.mpt j0)<|ce j0 j0<|cn,j0,⟨⟨_,j0,rsOne ⟨ci j0,ci j0,ci j0,ci j0,ci j0,ci j0,ci j0,ci j0,ci j0,ci j0,j5⟩⟩,j5⟩,j0,j1⟩
       ·
        rintro ⟨⟩ rfl
        replace h : ref3_maps_k10 v22 = some r:=h
        unfold ref3_maps_k10 at h
        refine ow_intro ?_
        refine rl j0<|u<|mv j0<|u<|add ti3 j0 j0<|u<|asg j0<|r_nil ?_
        obtain rfl:=sm h
        exact ⟨_,j0,[.old 0],cv j0 (.mpt j0)<|ce j0 j0<|cn,j0,⟨⟨_,j0,rsOne ⟨ci j0,ci j0,ci j0,ci j0,ci j0,ci j0,ci j0,ci j0,ci j0,ci j0,j5⟩⟩,j5⟩,j0,j1⟩
       ·
        rintro r' rfl env st hp
        obtain rfl:=sm h
        exact ⟨_,j0,hp⟩
      ·
       rintro r' rfl env st hp
       obtain rfl:=sm h
       exact ⟨_,j0,hp⟩
   ·
    replace h:=bF hc38 h
    refine sw_exit ?_
    obtain rfl:=sm h
    exact ⟨j0,_,j0,[],cn,j0,j5,j0,j1⟩
  ·
   rintro ⟨⟩ rfl
   replace h : ref3_maps_k12 = some r:=h
   unfold ref3_maps_k12 at h
   refine ow_intro ?_
   refine rg j0<|u<|asg j0<|r_nil ?_
   refine sw_ret ?_
   obtain rfl:=sm h
   exact ⟨_,j0,[],ci j0,j0,j5,j0,j1⟩
  ·
   rintro r' rfl env st hp
   obtain rfl:=sm h
   exact hp
def ref3_MayMethod_j3 (v1 : ApiMethod) (v11 : Int) : Option (Bool) :=
  cond ((((decide (v1.Locals < v11)) || (decide (16 < v1.Locals))) || (decide (v1.Stack < 0))) || (decide (16 < v1.Stack))) (some false) ((ref3_body v1).bind fun v12=>(cond v12 ((ref3_maps v1).bind fun v13=>some v13) (some false)).bind fun v14=>some v14)
def ref3_MayMethod_k2 (v1 : ApiMethod) : Option (Bool) :=
  cond v1.Abstract (some (((((((!v1.Static) && (!(v1.Name == [36,105,110,105,116]))) && (v1.Locals == (0 : Int))) && (v1.Stack == (0 : Int))) && ((List.length v1.Code : Int) == (0 : Int))) && ((List.length v1.Maps : Int) == (0 : Int))) && ((List.length v1.Traps : Int) == (0 : Int)))) (cond ((v1.Name == [36,105,110,105,116]) && (((!v1.Static) || (decide (0 < (List.length v1.Params : Int)))) || (!(v1.Ret == [86])))) (some false) (cond (!v1.Static) (ref3_MayMethod_j3 v1 (IntKind.i64.wrap ((List.length v1.Params : Int) + 1))) (ref3_MayMethod_j3 v1 (List.length v1.Params : Int))))
def ref3_MayMethod_l1 (v1 : ApiMethod) (v8 : Int) : Option (Sum (Int) (Sum (Unit) (Bool))) :=
  cond (decide (v8 < (List.length v1.Params : Int))) ((idx v1.Params v8).bind fun v9=>(ref3_May v9).bind fun v10=>cond (!v10) (some (.inr (.inr false))) (some (.inl (IntKind.i64.wrap (v8 + 1))))) (some (.inr (.inl ())))
def ref3_MayMethod (v1 : ApiMethod) : Option (Bool) :=
  (ref3_Name v1.Name).bind fun v2=>(cond ((!v2) || (decide (6 < (List.length v1.Params : Int)))) (some true) ((ref3_Ret v1.Ret).bind fun v3=>some (!v3))).bind fun v4=>cond v4 (some false) ((loopP (fun z=>ref3_MayMethod_l1 v1 z) 0).bind fun o=>leave o (fun b=>ref3_MayMethod_k2 v1) some)
theorem ref3_MayMethod_ok (v1 : ApiMethod) {r : Bool} (h : ref3_MayMethod v1 = some r) : PureC Tryz.prog 111 [.agg [sA v1.Name,.isl 1 (List.map rStr v1.Params),sA v1.Ret,bA v1.Static,bA v1.Abstract,iA v1.Locals,iA v1.Stack,.isl 4 (List.map rApiIns v1.Code),.isl 3 (List.map rApiMap v1.Maps),.isl 4 (List.map rApiTrap v1.Traps)]] (bA r):=by
 refine pure_fn Tryz.func111 j0 (by kernel_rfl) j0 j0 ?_
 unfold ref3_MayMethod at h
 refine rg j0<|u<|bx 0 10 j0 j0 j0 j0<|u<|asg j0<|r_nil ?_
 refine sw_seq ?_
 obtain ⟨v2,q1,h⟩:=bs h
 obtain ⟨v4,q5,h⟩:=bs h
 refine rg j0<|u<|fa ti62 j0 j0 j0<|u<|ld ti9 j0 j0<|u<|pc (ref3_Name_ok v1.Name q1) j0 j0 j0<|u<|nt j0<|u<|mv j0<|r_or (j:=4) 4 j0 j0 j0 j0 j0 gpn (fun hb2=>g j0 hb2<|fa ti62 j0 j0 j0<|g j0 hb2<|ld ti32 j0 j0<|g j0 hb2<|lnI ti32 j0 j0<|g j0 hb2<|gtr ti3 j0 j0<|r_nil (egO [10,11,12,13] 4 hb2 j0 j0 j0 j0)) orT<|u<|mv j0<|r_or (x:=v4) (j:=10) 4 j0 j0 j0 j0 j0 gpn (fun hb3=>by replace q5:=bF hb3 q5; obtain ⟨v3,q4,q5⟩:=bs q5; obtain rfl:=sm q5; exact g j0 hb3<|fa ti62 j0 j0 j0<|g j0 hb3<|ld ti9 j0 j0<|g j0 hb3<|pc (ref3_Ret_ok v1.Ret q4) j0 j0 j0<|g j0 hb3<|nt j0<|r_nil (eg [16,17,18,19] 4 j0 j0 j0 j0)) (fun hb=>(sm (bT hb q5)).symm)<|r_nil ?_
 refine sw_cond j0 (fun hc6=>?_) (fun hc6=>?_)
 ·
  replace h:=bT hc6 h
  refine rg j0<|u<|asg j0<|r_nil ?_
  refine sw_ret ?_
  obtain rfl:=sm h
  exact ⟨_,j0,[],ci j0,j0,j5,j0,j1⟩
 ·
  replace h:=bF hc6 h
  refine sw_skip ?_
  refine sw_seq ?_
  refine rg j0<|u<|asg j0<|r_nil ?_
  obtain ⟨o,ho,h⟩:=bs h
  refine sw_lpl (X:=Int) (B:=Unit) (R:=Bool) (fun z=>[(1,.mpt 0 0 0),(3,iA z)]) (fun z=>[some (10,[[sA v1.Name,.isl 1 (List.map rStr v1.Params),sA v1.Ret,bA v1.Static,bA v1.Abstract,iA v1.Locals,iA v1.Stack,.isl 4 (List.map rApiIns v1.Code),.isl 3 (List.map rApiMap v1.Maps),.isl 4 (List.map rApiTrap v1.Traps)]])]) (fun b=>[(1,.mpt 0 0 0)]) (fun b=>[some (10,[[sA v1.Name,.isl 1 (List.map rStr v1.Params),sA v1.Ret,bA v1.Static,bA v1.Abstract,iA v1.Locals,iA v1.Stack,.isl 4 (List.map rApiIns v1.Code),.isl 3 (List.map rApiMap v1.Maps),.isl 4 (List.map rApiTrap v1.Traps)]])]) (fun r env st=>PostF Tryz.prog Tryz.f111 0 (bA r) [] env st) ho ⟨[.old 0],cv j0 (.mpt j0)<|ce j0 j0<|cn,j0,⟨⟨_,j0,rsOne ⟨ci j0,ci j0,ci j0,ci j0,ci j0,ci j0,ci j0,ci j0,ci j0,ci j0,j5⟩⟩,j5⟩,j0,j1⟩ ?_ ?_ ?_
  ·
   rintro v8 r h
   replace h : ref3_MayMethod_l1 v1 v8 = some r:=h
   unfold ref3_MayMethod_l1 at h
   refine sw_seq ?_
   refine rg j0<|u<|mv j0<|u<|fa ti62 j0 j0 j0<|u<|ld ti32 j0 j0<|u<|lnI ti32 j0 j0<|u<|lss ti3 j0 j0<|r_nil ?_
   refine sw_cond j0 (fun hc11=>?_) (fun hc11=>?_)
   ·
    replace h:=bT hc11 h
    refine sw_skip ?_
    refine sw_seq ?_
    refine sw_block ?_
    obtain ⟨v9,q12,h⟩:=bs h
    obtain ⟨v10,q13,h⟩:=bs h
    refine rg j0<|u<|fa ti62 j0 j0 j0<|u<|ld ti32 j0 j0<|u<|mv j0<|u<|ixI ti32 j0 ti9 j0 j0 j0 q12<|u<|ldI ti9 j0 (idx_some q12).2.2 j0<|u<|pc (ref3_May_ok v9 q13) j0 j0 j0<|u<|nt j0<|r_nil ?_
    refine sw_cond j0 (fun hc14=>?_) (fun hc14=>?_)
    ·
     replace h:=bT hc14 h
     refine rg j0<|u<|asg j0<|r_nil ?_
     refine sw_ret ?_
     obtain rfl:=sm h
     exact ⟨_,j0,_,j0,[],ci j0,j0,j5,j0,j1⟩
    ·
     replace h:=bF hc14 h
     refine sw_skip ?_
     refine rl j0<|u<|mv j0<|u<|add ti3 j0 j0<|u<|asg j0<|r_nil ?_
     obtain rfl:=sm h
     exact ⟨_,j0,[.old 0],cv j0 (.mpt j0)<|ce j0 j0<|cn,j0,⟨⟨_,j0,rsOne ⟨ci j0,ci j0,ci j0,ci j0,ci j0,ci j0,ci j0,ci j0,ci j0,ci j0,j5⟩⟩,j5⟩,j0,j1⟩
   ·
    replace h:=bF hc11 h
    refine sw_exit ?_
    obtain rfl:=sm h
    exact ⟨j0,_,j0,[.old 0],cv j0 (.mpt j0)<|cn,j0,⟨⟨_,j0,rsOne ⟨ci j0,ci j0,ci j0,ci j0,ci j0,ci j0,ci j0,ci j0,ci j0,ci j0,j5⟩⟩,j5⟩,j0,j1⟩
  ·
   rintro ⟨⟩ rfl
   replace h : ref3_MayMethod_k2 v1 = some r:=h
   unfold ref3_MayMethod_k2 at h
   refine ow_intro ?_
   refine sw_seq ?_
   refine rg j0<|u<|fa ti62 j0 j0 j0<|u<|ld ti4 j0 j0<|r_nil ?_
   refine sw_cond j0 (fun hc15=>?_) (fun hc15=>?_)
   ·
    replace h:=bT hc15 h
    refine rg j0<|u<|fa ti62 j0 j0 j0<|u<|ld ti4 j0 j0<|u<|nt j0<|u<|mv j0<|r_and (j:=3) 3 j0 j0 j0 j0 j0 gpn (fun hb16=>g j0 hb16<|fa ti62 j0 j0 j0<|g j0 hb16<|ld ti9 j0 j0<|g j0 hb16<|sne ti9 j0 j0<|r_nil (egA [41,42,43] 3 hb16 j0 j0 j0 j0)) andF<|u<|mv j0<|r_and (j:=8) 3 j0 j0 j0 j0 j0 gpn (fun hb17=>g j0 hb17<|fa ti62 j0 j0 j0<|g j0 hb17<|ld ti3 j0 j0<|g j0 hb17<|eql ti3 j0 j0<|r_nil (egA [46,47,48] 3 hb17 j0 j0 j0 j0)) andF<|u<|mv j0<|r_and (j:=13) 3 j0 j0 j0 j0 j0 gpn (fun hb18=>g j0 hb18<|fa ti62 j0 j0 j0<|g j0 hb18<|ld ti3 j0 j0<|g j0 hb18<|eql ti3 j0 j0<|r_nil (egA [51,52,53] 3 hb18 j0 j0 j0 j0)) andF<|u<|mv j0<|r_and (j:=18) 4 j0 j0 j0 j0 j0 gpn (fun hb19=>g j0 hb19<|fa ti62 j0 j0 j0<|g j0 hb19<|ld ti58 j0 j0<|g j0 hb19<|lnI ti58 j0 j0<|g j0 hb19<|eql ti3 j0 j0<|r_nil (egA [56,57,58,59] 4 hb19 j0 j0 j0 j0)) andF<|u<|mv j0<|r_and (j:=24) 4 j0 j0 j0 j0 j0 gpn (fun hb20=>g j0 hb20<|fa ti62 j0 j0 j0<|g j0 hb20<|ld ti59 j0 j0<|g j0 hb20<|lnI ti59 j0 j0<|g j0 hb20<|eql ti3 j0 j0<|r_nil (egA [62,63,64,65] 4 hb20 j0 j0 j0 j0)) andF<|u<|mv j0<|r_and (j:=30) 4 j0 j0 j0 j0 j0 gpn (fun hb21=>g j0 hb21<|fa ti62 j0 j0 j0<|g j0 hb21<|ld ti60 j0 j0<|g j0 hb21<|lnI ti60 j0 j0<|g j0 hb21<|eql ti3 j0 j0<|r_nil (egA [68,69,70,71] 4 hb21 j0 j0 j0 j0)) andF<|u<|asg j0<|r_nil ?_
    refine sw_ret ?_
    obtain rfl:=sm h
    exact ⟨_,j0,[],ci j0,j0,j5,j0,j1⟩
   ·
    replace h:=bF hc15 h
    refine sw_skip ?_
    refine sw_seq ?_
    refine rg j0<|u<|fa ti62 j0 j0 j0<|u<|ld ti9 j0 j0<|u<|seq ti9 j0 j0<|u<|mv j0<|r_and (j:=3) 14 j0 j0 j0 j0 j0 gpn (fun hb22=>g j0 hb22<|fa ti62 j0 j0 j0<|g j0 hb22<|ld ti4 j0 j0<|g j0 hb22<|nt j0<|g j0 hb22<|mv j0<|r_or (j:=7) 4 j0 j0 j0 j0 j0 (gps j0 j0 hb22) (fun hb23=>g j0 hb23<|fa ti62 j0 j0 j0<|g j0 hb23<|ld ti32 j0 j0<|g j0 hb23<|lnI ti32 j0 j0<|g j0 hb23<|gtr ti3 j0 j0<|r_nil (egO [81,82,83,84] 4 hb23 j0 j0 j0 j0)) orT<|g j0 hb22<|mv j0<|r_or (j:=13) 3 j0 j0 j0 j0 j0 (gps j0 j0 hb22) (fun hb24=>g j0 hb24<|fa ti62 j0 j0 j0<|g j0 hb24<|ld ti9 j0 j0<|g j0 hb24<|sne ti9 j0 j0<|r_nil (egO [87,88,89] 3 hb24 j0 j0 j0 j0)) orT<|r_nil (egA [77,78,79,80,81,82,83,84,85,86,87,88,89,90] 7 hb22 j0 j0 j0 j0)) andF<|r_nil ?_
    refine sw_cond j0 (fun hc25=>?_) (fun hc25=>?_)
    ·
     replace h:=bT hc25 h
     refine rg j0<|u<|asg j0<|r_nil ?_
     refine sw_ret ?_
     obtain rfl:=sm h
     exact ⟨_,j0,[],ci j0,j0,j5,j0,j1⟩
    ·
     replace h:=bF hc25 h
     refine sw_skip ?_
     refine rg j0<|u<|fa ti62 j0 j0 j0<|u<|ld ti32 j0 j0<|u<|lnI ti32 j0 j0<|u<|asg j0<|r_nil ?_
     refine sw_meet (X:=Int) (fun z=>[(1,.mpt 0 0 0),(4,iA z)]) (fun z=>[some (10,[[sA v1.Name,.isl 1 (List.map rStr v1.Params),sA v1.Ret,bA v1.Static,bA v1.Abstract,iA v1.Locals,iA v1.Stack,.isl 4 (List.map rApiIns v1.Code),.isl 3 (List.map rApiMap v1.Maps),.isl 4 (List.map rApiTrap v1.Traps)]])]) (fun z=>ref3_MayMethod_j3 v1 z = some r) ?_ ?_
     ·
      refine rg j0<|u<|fa ti62 j0 j0 j0<|u<|ld ti4 j0 j0<|u<|nt j0<|r_nil ?_
      refine sw_cond j0 (fun hc26=>?_) (fun hc26=>?_)
      ·
       replace h:=bT hc26 h
       exact rl j0<|u<|mv j0<|u<|add ti3 j0 j0<|u<|asg j0<|r_nil (⟨(IntKind.i64.wrap ((List.length v1.Params : Int) + 1)),h,[.old 0],cv j0 (.mpt j0)<|ce j0 j0<|cn,j0,⟨⟨_,j0,rsOne ⟨ci j0,ci j0,ci j0,ci j0,ci j0,ci j0,ci j0,ci j0,ci j0,ci j0,j5⟩⟩,j5⟩,j0,j1⟩)
      ·
       replace h:=bF hc26 h
       refine sw_skip ?_
       exact ⟨(List.length v1.Params : Int),h,[.old 0],cv j0 (.mpt j0)<|ce j0 j0<|cn,j0,⟨⟨_,j0,rsOne ⟨ci j0,ci j0,ci j0,ci j0,ci j0,ci j0,ci j0,ci j0,ci j0,ci j0,j5⟩⟩,j5⟩,j0,j1⟩
     ·
      rintro v11 h
      replace h : ref3_MayMethod_j3 v1 v11 = some r:=h
      unfold ref3_MayMethod_j3 at h
      refine sw_seq ?_
      refine rg j0<|u<|fa ti62 j0 j0 j0<|u<|ld ti3 j0 j0<|u<|mv j0<|u<|lss ti3 j0 j0<|u<|mv j0<|r_or (j:=4) 3 j0 j0 j0 j0 j0 gpn (fun hb27=>g j0 hb27<|fa ti62 j0 j0 j0<|g j0 hb27<|ld ti3 j0 j0<|g j0 hb27<|gtr ti3 j0 j0<|r_nil (egO [105,106,107] 3 hb27 j0 j0 j0 j0)) orT<|u<|mv j0<|r_or (j:=9) 3 j0 j0 j0 j0 j0 gpn (fun hb28=>g j0 hb28<|fa ti62 j0 j0 j0<|g j0 hb28<|ld ti3 j0 j0<|g j0 hb28<|lss ti3 j0 j0<|r_nil (egO [110,111,112] 3 hb28 j0 j0 j0 j0)) orT<|u<|mv j0<|r_or (j:=14) 3 j0 j0 j0 j0 j0 gpn (fun hb29=>g j0 hb29<|fa ti62 j0 j0 j0<|g j0 hb29<|ld ti3 j0 j0<|g j0 hb29<|gtr ti3 j0 j0<|r_nil (egO [115,116,117] 3 hb29 j0 j0 j0 j0)) orT<|r_nil ?_
      refine sw_cond j0 (fun hc30=>?_) (fun hc30=>?_)
      ·
       replace h:=bT hc30 h
       refine rg j0<|u<|asg j0<|r_nil ?_
       refine sw_ret ?_
       obtain rfl:=sm h
       exact ⟨_,j0,[],ci j0,j0,j5,j0,j1⟩
      ·
       replace h:=bF hc30 h
       refine sw_skip ?_
       obtain ⟨v12,q31,h⟩:=bs h
       obtain ⟨v14,q34,h⟩:=bs h
       refine rg j0<|u<|ld ti62 j0 j0<|u<|pc (ref3_body_ok v1 q31) j0 j0 j0<|u<|mv j0<|r_and (x:=v14) (j:=2) 2 j0 j0 j0 j0 j0 gpn (fun hb32=>by replace q34:=bT hb32 q34; obtain ⟨v13,q33,q34⟩:=bs q34; obtain rfl:=sm q34; exact g j0 hb32<|ld ti62 j0 j0<|g j0 hb32<|pc (ref3_maps_ok v1 q33) j0 j0 j0<|r_nil (eg [122,123] 2 j0 j0 j0 j0)) (fun hb=>(sm (bF hb q34)).symm)<|u<|asg j0<|r_nil ?_
       refine sw_ret ?_
       obtain rfl:=sm h
       exact ⟨_,j0,[],ci j0,j0,j5,j0,j1⟩
  ·
   rintro r' rfl env st hp
   obtain rfl:=sm h
   exact hp
def ref3_MayClass_k10 : Option (Bool) :=
  some true
def ref3_MayClass_l9 (v1 : ApiClass) (v43 : Int) : Option (Sum (Int) (Sum (Unit) (Bool))) :=
  cond (decide (v43 < (List.length v1.Methods : Int))) ((idx v1.Methods v43).bind fun v44=>(cond (!(v44.Abstract == v1.Interface)) (some true) ((ref3_Method v1 v44.Name).bind fun v45=>some (!(v45 == v43)))).bind fun v46=>(cond v46 (some true) ((ref3_MayMethod v44).bind fun v47=>some (!v47))).bind fun v48=>cond v48 (some (.inr (.inr false))) (some (.inl (IntKind.i64.wrap (v43 + 1))))) (some (.inr (.inl ())))
def ref3_MayClass_k8 (v1 : ApiClass) : Option (Bool) :=
  (loopP (fun z=>ref3_MayClass_l9 v1 z) 0).bind fun o=>leave o (fun b=>ref3_MayClass_k10) some
def ref3_MayClass_l7 (v1 : ApiClass) (v30 : Int) : Option (Sum (Int) (Sum (Unit) (Bool))) :=
  cond (decide (v30 < (List.length v1.Fields : Int))) ((idx v1.Fields v30).bind fun v31=>(ref3_Name v31.Name).bind fun v32=>(cond ((!v32) || (v31.Name == [36,105,110,105,116])) (some true) ((ref3_May v31.Type_).bind fun v33=>some (!v33))).bind fun v34=>(cond v34 (some true) ((ref3_Field v1 v31.Name).bind fun v35=>some (!(v35 == v30)))).bind fun v36=>cond v36 (some (.inr (.inr false))) (some (.inl (IntKind.i64.wrap (v30 + 1))))) (some (.inr (.inl ())))
def ref3_MayClass_k6 (v1 : ApiClass) : Option (Bool) :=
  (loopP (fun z=>ref3_MayClass_l7 v1 z) 0).bind fun o=>leave o (fun b=>ref3_MayClass_k8 v1) some
def ref3_MayClass_k4 (v14 : Int) : Option (Sum (Int) (Sum (Unit) (Bool))) :=
  some (.inl (IntKind.i64.wrap (v14 + 1)))
def ref3_MayClass_l3 (v1 : ApiClass) (v14 : Int) (v20 : Int) : Option (Sum (Int) (Sum (Unit) (Bool))) :=
  cond (decide (v20 < v14)) ((idx v1.Impl v20).bind fun v21=>(idx v1.Impl v14).bind fun v22=>cond (v21 == v22) (some (.inr (.inr false))) (some (.inl (IntKind.i64.wrap (v20 + 1))))) (some (.inr (.inl ())))
def ref3_MayClass_l5 (v1 : ApiClass) (v14 : Int) : Option (Sum (Int) (Sum (Unit) (Bool))) :=
  cond (decide (v14 < (List.length v1.Impl : Int))) ((idx v1.Impl v14).bind fun v15=>(ref3_Class v15).bind fun v16=>cond (!v16) (some (.inr (.inr false))) ((loopP (fun z=>ref3_MayClass_l3 v1 v14 z) 0).bind fun o=>leave o (fun b=>ref3_MayClass_k4 v14) (fun r=>some (.inr (.inr r))))) (some (.inr (.inl ())))
def ref3_MayClass (v1 : ApiClass) : Option (Bool) :=
  (ref3_Class v1.Name).bind fun v2=>(cond (!v2) (some true) ((ref3_Class v1.Super).bind fun v3=>some (!v3))).bind fun v4=>cond (((v4 || (decide (4 < (List.length v1.Impl : Int)))) || (decide (8 < (List.length v1.Fields : Int)))) || (decide (8 < (List.length v1.Methods : Int)))) (some false) (cond (v1.Interface && ((!(v1.Super == [79,98,106,101,99,116])) || (decide (0 < (List.length v1.Fields : Int))))) (some false) ((loopP (fun z=>ref3_MayClass_l5 v1 z) 0).bind fun o=>leave o (fun b=>ref3_MayClass_k6 v1) some))
theorem ref3_MayClass_ok (v1 : ApiClass) {r : Bool} (h : ref3_MayClass v1 = some r) : PureC Tryz.prog 65 [.agg [sA v1.Name,sA v1.Super,bA v1.Interface,.isl 1 (List.map rStr v1.Impl),.isl 3 (List.map rApiField v1.Fields),.isl 10 (List.map rApiMethod v1.Methods)]] (bA r):=by
 refine pure_fn Tryz.func65 j0 (by kernel_rfl) j0 j0 ?_
 unfold ref3_MayClass at h
 refine rg j0<|u<|bx 0 6 j0 j0 j0 j0<|u<|asg j0<|r_nil ?_
 refine sw_seq ?_
 obtain ⟨v2,q1,h⟩:=bs h
 obtain ⟨v4,q4,h⟩:=bs h
 refine rg j0<|u<|fa ti42 j0 j0 j0<|u<|ld ti9 j0 j0<|u<|pc (ref3_Class_ok v1.Name q1) j0 j0 j0<|u<|nt j0<|u<|mv j0<|r_or (x:=v4) (j:=4) 4 j0 j0 j0 j0 j0 gpn (fun hb2=>by replace q4:=bF hb2 q4; obtain ⟨v3,q3,q4⟩:=bs q4; obtain rfl:=sm q4; exact g j0 hb2<|fa ti42 j0 j0 j0<|g j0 hb2<|ld ti9 j0 j0<|g j0 hb2<|pc (ref3_Class_ok v1.Super q3) j0 j0 j0<|g j0 hb2<|nt j0<|r_nil (eg [14,15,16,17] 4 j0 j0 j0 j0)) (fun hb=>(sm (bT hb q4)).symm)<|u<|mv j0<|r_or (j:=10) 4 j0 j0 j0 j0 j0 gpn (fun hb5=>g j0 hb5<|fa ti42 j0 j0 j0<|g j0 hb5<|ld ti32 j0 j0<|g j0 hb5<|lnI ti32 j0 j0<|g j0 hb5<|gtr ti3 j0 j0<|r_nil (egO [20,21,22,23] 4 hb5 j0 j0 j0 j0)) orT<|u<|mv j0<|r_or (j:=16) 4 j0 j0 j0 j0 j0 gpn (fun hb6=>g j0 hb6<|fa ti42 j0 j0 j0<|g j0 hb6<|ld ti39 j0 j0<|g j0 hb6<|lnI ti39 j0 j0<|g j0 hb6<|gtr ti3 j0 j0<|r_nil (egO [26,27,28,29] 4 hb6 j0 j0 j0 j0)) orT<|u<|mv j0<|r_or (j:=22) 4 j0 j0 j0 j0 j0 gpn (fun hb7=>g j0 hb7<|fa ti42 j0 j0 j0<|g j0 hb7<|ld ti40 j0 j0<|g j0 hb7<|lnI ti40 j0 j0<|g j0 hb7<|gtr ti3 j0 j0<|r_nil (egO [32,33,34,35] 4 hb7 j0 j0 j0 j0)) orT<|r_nil ?_
 refine sw_cond j0 (fun hc8=>?_) (fun hc8=>?_)
 ·
  replace h:=bT hc8 h
  refine rg j0<|u<|asg j0<|r_nil ?_
  refine sw_ret ?_
  obtain rfl:=sm h
  exact ⟨_,j0,[],ci j0,j0,j5,j0,j1⟩
 ·
  replace h:=bF hc8 h
  refine sw_skip ?_
  refine sw_seq ?_
  refine rg j0<|u<|fa ti42 j0 j0 j0<|u<|ld ti4 j0 j0<|u<|mv j0<|r_and (j:=2) 9 j0 j0 j0 j0 j0 gpn (fun hb9=>g j0 hb9<|fa ti42 j0 j0 j0<|g j0 hb9<|ld ti9 j0 j0<|g j0 hb9<|sne ti9 j0 j0<|g j0 hb9<|mv j0<|r_or (j:=6) 4 j0 j0 j0 j0 j0 (gps j0 j0 hb9) (fun hb10=>g j0 hb10<|fa ti42 j0 j0 j0<|g j0 hb10<|ld ti39 j0 j0<|g j0 hb10<|lnI ti39 j0 j0<|g j0 hb10<|gtr ti3 j0 j0<|r_nil (egO [44,45,46,47] 4 hb10 j0 j0 j0 j0)) orT<|r_nil (egA [40,41,42,43,44,45,46,47,48] 5 hb9 j0 j0 j0 j0)) andF<|r_nil ?_
  refine sw_cond j0 (fun hc11=>?_) (fun hc11=>?_)
  ·
   replace h:=bT hc11 h
   refine rg j0<|u<|asg j0<|r_nil ?_
   refine sw_ret ?_
   obtain rfl:=sm h
   exact ⟨_,j0,[],ci j0,j0,j5,j0,j1⟩
  ·
   replace h:=bF hc11 h
   refine sw_skip ?_
   refine sw_seq ?_
   refine rg j0<|u<|asg j0<|r_nil ?_
   obtain ⟨o,ho,h⟩:=bs h
   refine sw_lpl (X:=Int) (B:=Unit) (R:=Bool) (fun z=>[(1,.mpt 0 0 0),(3,iA z)]) (fun z=>[some (6,[[sA v1.Name,sA v1.Super,bA v1.Interface,.isl 1 (List.map rStr v1.Impl),.isl 3 (List.map rApiField v1.Fields),.isl 10 (List.map rApiMethod v1.Methods)]])]) (fun b=>[(1,.mpt 0 0 0)]) (fun b=>[some (6,[[sA v1.Name,sA v1.Super,bA v1.Interface,.isl 1 (List.map rStr v1.Impl),.isl 3 (List.map rApiField v1.Fields),.isl 10 (List.map rApiMethod v1.Methods)]])]) (fun r env st=>PostF Tryz.prog Tryz.f65 0 (bA r) [] env st) ho ⟨[.old 0],cv j0 (.mpt j0)<|ce j0 j0<|cn,j0,⟨⟨_,j0,rsOne ⟨ci j0,ci j0,ci j0,ci j0,ci j0,ci j0,j5⟩⟩,j5⟩,j0,j1⟩ ?_ ?_ ?_
   ·
    rintro v14 r h
    replace h : ref3_MayClass_l5 v1 v14 = some r:=h
    unfold ref3_MayClass_l5 at h
    refine sw_seq ?_
    refine rg j0<|u<|mv j0<|u<|fa ti42 j0 j0 j0<|u<|ld ti32 j0 j0<|u<|lnI ti32 j0 j0<|u<|lss ti3 j0 j0<|r_nil ?_
    refine sw_cond j0 (fun hc24=>?_) (fun hc24=>?_)
    ·
     replace h:=bT hc24 h
     refine sw_skip ?_
     refine sw_seq ?_
     refine sw_block ?_
     refine sw_seq ?_
     obtain ⟨v15,q25,h⟩:=bs h
     obtain ⟨v16,q26,h⟩:=bs h
     refine rg j0<|u<|fa ti42 j0 j0 j0<|u<|ld ti32 j0 j0<|u<|mv j0<|u<|ixI ti32 j0 ti9 j0 j0 j0 q25<|u<|ldI ti9 j0 (idx_some q25).2.2 j0<|u<|pc (ref3_Class_ok v15 q26) j0 j0 j0<|u<|nt j0<|r_nil ?_
     refine sw_cond j0 (fun hc27=>?_) (fun hc27=>?_)
     ·
      replace h:=bT hc27 h
      refine rg j0<|u<|asg j0<|r_nil ?_
      refine sw_ret ?_
      obtain rfl:=sm h
      exact ⟨_,j0,_,j0,[],ci j0,j0,j5,j0,j1⟩
     ·
      replace h:=bF hc27 h
      refine sw_skip ?_
      refine rg j0<|u<|asg j0<|r_nil ?_
      obtain ⟨o,ho,h⟩:=bs h
      refine sw_lpl (X:=Int) (B:=Unit) (R:=Bool) (fun z=>[(1,.mpt 0 0 0),(3,iA v14),(4,iA z)]) (fun z=>[some (6,[[sA v1.Name,sA v1.Super,bA v1.Interface,.isl 1 (List.map rStr v1.Impl),.isl 3 (List.map rApiField v1.Fields),.isl 10 (List.map rApiMethod v1.Methods)]])]) (fun b=>[(1,.mpt 0 0 0),(3,iA v14)]) (fun b=>[some (6,[[sA v1.Name,sA v1.Super,bA v1.Interface,.isl 1 (List.map rStr v1.Impl),.isl 3 (List.map rApiField v1.Fields),.isl 10 (List.map rApiMethod v1.Methods)]])]) (fun r env st=>PostF Tryz.prog Tryz.f65 0 (bA r) [] env st) ho ⟨[.old 0],cv j0 (.mpt j0)<|ce j0 j0<|ce j0 j0<|cn,j0,⟨⟨_,j0,rsOne ⟨ci j0,ci j0,ci j0,ci j0,ci j0,ci j0,j5⟩⟩,j5⟩,j0,j1⟩ ?_ ?_ ?_
      ·
       rintro v20 r h
       replace h : ref3_MayClass_l3 v1 v14 v20 = some r:=h
       unfold ref3_MayClass_l3 at h
       refine sw_seq ?_
       refine rg j0<|u<|mv j0<|u<|mv j0<|u<|lss ti3 j0 j0<|r_nil ?_
       refine sw_cond j0 (fun hc32=>?_) (fun hc32=>?_)
       ·
        replace h:=bT hc32 h
        refine sw_skip ?_
        refine sw_seq ?_
        refine sw_block ?_
        obtain ⟨v21,q33,h⟩:=bs h
        obtain ⟨v22,q34,h⟩:=bs h
        refine rd [(1,.mpt 0 0 0),(3,iA v14),(4,iA v20),(79,bA (v21 == v22))] [some (6,[[sA v1.Name,sA v1.Super,bA v1.Interface,.isl 1 (List.map rStr v1.Impl),.isl 3 (List.map rApiField v1.Fields),.isl 10 (List.map rApiMethod v1.Methods)]])] [] [10,9,8,7,6,5,4,3,2,1,0] [(79,bA (v21 == v22)),(78,sA v22),(77,.ipt 1 (List.map rStr v1.Impl) (Int.toNat v14) 0),(76,iA v14),(75,.isl 1 (List.map rStr v1.Impl)),(74,.mpt 0 0 3),(73,sA v21),(72,.ipt 1 (List.map rStr v1.Impl) (Int.toNat v20) 0),(71,iA v20),(70,.isl 1 (List.map rStr v1.Impl)),(69,.mpt 0 0 3)] 0 (by kernel_rfl) (by kernel_rfl) j0 (by kernel_rfl) (dt0 ⟨(fun _=>pa j0 j0 j0 j0 (seq ti9 j0 j0<|j4)),(fun _=>pa j0 j0 j0 j0 (ldI ti9 j0 (idx_some q34).2.2 j0<|j4)),(fun _=>pa j0 j0 j0 j0 (ixI ti32 j0 ti9 j0 j0 j0 q34<|j4)),(fun _=>pa j0 j0 j0 j0 (mv j0<|j4)),(fun _=>pa j0 j0 j0 j0 (ld ti32 j0 j0<|j4)),(fun _=>pa j0 j0 j0 j0 (fa ti42 j0 j0 j0<|j4)),(fun _=>pa j0 j0 j0 j0 (ldI ti9 j0 (idx_some q33).2.2 j0<|j4)),(fun _=>pa j0 j0 j0 j0 (ixI ti32 j0 ti9 j0 j0 j0 q33<|j4)),(fun _=>pa j0 j0 j0 j0 (mv j0<|j4)),(fun _=>pa j0 j0 j0 j0 (ld ti32 j0 j0<|j4)),(fun _=>pa j0 j0 j0 j0 (fa ti42 j0 j0 j0<|j4)),j5⟩ (by kernel_rfl) j0 ⟨[.old 0],cv j0 (.mpt j0)<|ce j0 j0<|ce j0 j0<|ce j0 j0<|cn,j0,⟨⟨_,j0,rsOne ⟨ci j0,ci j0,ci j0,ci j0,ci j0,ci j0,j5⟩⟩,j5⟩,j0,j1⟩) ?_
        refine sw_cond j0 (fun hc35=>?_) (fun hc35=>?_)
        ·
         replace h:=bT hc35 h
         refine rg j0<|u<|asg j0<|r_nil ?_
         refine sw_ret ?_
         obtain rfl:=sm h
         exact ⟨_,j0,_,j0,[],ci j0,j0,j5,j0,j1⟩
        ·
         replace h:=bF hc35 h
         refine sw_skip ?_
         refine rl j0<|u<|mv j0<|u<|add ti3 j0 j0<|u<|asg j0<|r_nil ?_
         obtain rfl:=sm h
         exact ⟨_,j0,[.old 0],cv j0 (.mpt j0)<|ce j0 j0<|ce j0 j0<|cn,j0,⟨⟨_,j0,rsOne ⟨ci j0,ci j0,ci j0,ci j0,ci j0,ci j0,j5⟩⟩,j5⟩,j0,j1⟩
       ·
        replace h:=bF hc32 h
        refine sw_exit ?_
        obtain rfl:=sm h
        exact ⟨j0,_,j0,[.old 0],cv j0 (.mpt j0)<|ce j0 j0<|cn,j0,⟨⟨_,j0,rsOne ⟨ci j0,ci j0,ci j0,ci j0,ci j0,ci j0,j5⟩⟩,j5⟩,j0,j1⟩
      ·
       rintro ⟨⟩ rfl
       replace h : ref3_MayClass_k4 v14 = some r:=h
       unfold ref3_MayClass_k4 at h
       refine ow_intro ?_
       refine rl j0<|u<|mv j0<|u<|add ti3 j0 j0<|u<|asg j0<|r_nil ?_
       obtain rfl:=sm h
       exact ⟨_,j0,[.old 0],cv j0 (.mpt j0)<|ce j0 j0<|cn,j0,⟨⟨_,j0,rsOne ⟨ci j0,ci j0,ci j0,ci j0,ci j0,ci j0,j5⟩⟩,j5⟩,j0,j1⟩
      ·
       rintro r' rfl env st hp
       obtain rfl:=sm h
       exact ⟨_,j0,hp⟩
    ·
     replace h:=bF hc24 h
     refine sw_exit ?_
     obtain rfl:=sm h
     exact ⟨j0,_,j0,[.old 0],cv j0 (.mpt j0)<|cn,j0,⟨⟨_,j0,rsOne ⟨ci j0,ci j0,ci j0,ci j0,ci j0,ci j0,j5⟩⟩,j5⟩,j0,j1⟩
   ·
    rintro ⟨⟩ rfl
    replace h : ref3_MayClass_k6 v1 = some r:=h
    unfold ref3_MayClass_k6 at h
    refine ow_intro ?_
    refine sw_seq ?_
    refine rg j0<|u<|asg j0<|r_nil ?_
    obtain ⟨o,ho,h⟩:=bs h
    refine sw_lpl (X:=Int) (B:=Unit) (R:=Bool) (fun z=>[(1,.mpt 0 0 0),(5,iA z)]) (fun z=>[some (6,[[sA v1.Name,sA v1.Super,bA v1.Interface,.isl 1 (List.map rStr v1.Impl),.isl 3 (List.map rApiField v1.Fields),.isl 10 (List.map rApiMethod v1.Methods)]])]) (fun b=>[(1,.mpt 0 0 0)]) (fun b=>[some (6,[[sA v1.Name,sA v1.Super,bA v1.Interface,.isl 1 (List.map rStr v1.Impl),.isl 3 (List.map rApiField v1.Fields),.isl 10 (List.map rApiMethod v1.Methods)]])]) (fun r env st=>PostF Tryz.prog Tryz.f65 0 (bA r) [] env st) ho ⟨[.old 0],cv j0 (.mpt j0)<|ce j0 j0<|cn,j0,⟨⟨_,j0,rsOne ⟨ci j0,ci j0,ci j0,ci j0,ci j0,ci j0,j5⟩⟩,j5⟩,j0,j1⟩ ?_ ?_ ?_
    ·
     rintro v30 r h
     replace h : ref3_MayClass_l7 v1 v30 = some r:=h
     unfold ref3_MayClass_l7 at h
     refine sw_seq ?_
     refine rg j0<|u<|mv j0<|u<|fa ti42 j0 j0 j0<|u<|ld ti39 j0 j0<|u<|lnI ti39 j0 j0<|u<|lss ti3 j0 j0<|r_nil ?_
     refine sw_cond j0 (fun hc47=>?_) (fun hc47=>?_)
     ·
      replace h:=bT hc47 h
      refine sw_skip ?_
      refine sw_seq ?_
      refine sw_block ?_
      obtain ⟨v31,q48,h⟩:=bs h
      refine rg j0<|u<|fa ti42 j0 j0 j0<|u<|ld ti39 j0 j0<|u<|mv j0<|u<|ixI ti39 j0 ti57 j0 j0 j0 q48<|u<|ldI ti57 j0 (idx_some q48).2.2 j0<|u<|al 1 ti57 j0<|u<|sto ti57 j0 j0 j0<|r_nil ?_
      obtain ⟨v32,q49,h⟩:=bs h
      obtain ⟨v34,q53,h⟩:=bs h
      obtain ⟨v36,q56,h⟩:=bs h
      refine rg j0<|u<|fa ti57 j0 j0 j0<|u<|ld ti9 j0 j0<|u<|pc (ref3_Name_ok v31.Name q49) j0 j0 j0<|u<|nt j0<|u<|mv j0<|r_or (j:=4) 3 j0 j0 j0 j0 j0 gpn (fun hb50=>g j0 hb50<|fa ti57 j0 j0 j0<|g j0 hb50<|ld ti9 j0 j0<|g j0 hb50<|seq ti9 j0 j0<|r_nil (egO [97,98,99] 3 hb50 j0 j0 j0 j0)) orT<|u<|mv j0<|r_or (x:=v34) (j:=9) 4 j0 j0 j0 j0 j0 gpn (fun hb51=>by replace q53:=bF hb51 q53; obtain ⟨v33,q52,q53⟩:=bs q53; obtain rfl:=sm q53; exact g j0 hb51<|fa ti57 j0 j0 j0<|g j0 hb51<|ld ti9 j0 j0<|g j0 hb51<|pc (ref3_May_ok v31.Type_ q52) j0 j0 j0<|g j0 hb51<|nt j0<|r_nil (eg [102,103,104,105] 4 j0 j0 j0 j0)) (fun hb=>(sm (bT hb q53)).symm)<|u<|mv j0<|r_or (x:=v36) (j:=15) 6 j0 j0 j0 j0 j0 gpn (fun hb54=>by replace q56:=bF hb54 q56; obtain ⟨v35,q55,q56⟩:=bs q56; obtain rfl:=sm q56; exact g j0 hb54<|ld ti42 j0 j0<|g j0 hb54<|fa ti57 j0 j0 j0<|g j0 hb54<|ld ti9 j0 j0<|g j0 hb54<|pc (ref3_Field_ok v1 v31.Name q55) j0 j0 j0<|g j0 hb54<|mv j0<|g j0 hb54<|neq ti3 j0 j0<|r_nil (eg [108,109,110,111,112,113] 6 j0 j0 j0 j0)) (fun hb=>(sm (bT hb q56)).symm)<|r_nil ?_
      refine sw_cond j0 (fun hc57=>?_) (fun hc57=>?_)
      ·
       replace h:=bT hc57 h
       refine rg j0<|u<|asg j0<|r_nil ?_
       refine sw_ret ?_
       obtain rfl:=sm h
       exact ⟨_,j0,_,j0,[],ci j0,j0,j5,j0,j1⟩
      ·
       replace h:=bF hc57 h
       refine sw_skip ?_
       refine rl j0<|u<|mv j0<|u<|add ti3 j0 j0<|u<|asg j0<|r_nil ?_
       obtain rfl:=sm h
       exact ⟨_,j0,[.old 0],cv j0 (.mpt j0)<|ce j0 j0<|cn,j0,⟨⟨_,j0,rsOne ⟨ci j0,ci j0,ci j0,ci j0,ci j0,ci j0,j5⟩⟩,j5⟩,j0,j1⟩
     ·
      replace h:=bF hc47 h
      refine sw_exit ?_
      obtain rfl:=sm h
      exact ⟨j0,_,j0,[.old 0],cv j0 (.mpt j0)<|cn,j0,⟨⟨_,j0,rsOne ⟨ci j0,ci j0,ci j0,ci j0,ci j0,ci j0,j5⟩⟩,j5⟩,j0,j1⟩
    ·
     rintro ⟨⟩ rfl
     replace h : ref3_MayClass_k8 v1 = some r:=h
     unfold ref3_MayClass_k8 at h
     refine ow_intro ?_
     refine sw_seq ?_
     refine rg j0<|u<|asg j0<|r_nil ?_
     obtain ⟨o,ho,h⟩:=bs h
     refine sw_lpl (X:=Int) (B:=Unit) (R:=Bool) (fun z=>[(1,.mpt 0 0 0),(7,iA z)]) (fun z=>[some (6,[[sA v1.Name,sA v1.Super,bA v1.Interface,.isl 1 (List.map rStr v1.Impl),.isl 3 (List.map rApiField v1.Fields),.isl 10 (List.map rApiMethod v1.Methods)]])]) (fun b=>[]) (fun b=>[]) (fun r env st=>PostF Tryz.prog Tryz.f65 0 (bA r) [] env st) ho ⟨[.old 0],cv j0 (.mpt j0)<|ce j0 j0<|cn,j0,⟨⟨_,j0,rsOne ⟨ci j0,ci j0,ci j0,ci j0,ci j0,ci j0,j5⟩⟩,j5⟩,j0,j1⟩ ?_ ?_ ?_
     ·
      rintro v43 r h
      replace h : ref3_MayClass_l9 v1 v43 = some r:=h
      unfold ref3_MayClass_l9 at h
      refine sw_seq ?_
      refine rg j0<|u<|mv j0<|u<|fa ti42 j0 j0 j0<|u<|ld ti40 j0 j0<|u<|lnI ti40 j0 j0<|u<|lss ti3 j0 j0<|r_nil ?_
      refine sw_cond j0 (fun hc67=>?_) (fun hc67=>?_)
      ·
       replace h:=bT hc67 h
       refine sw_skip ?_
       refine sw_seq ?_
       refine sw_block ?_
       obtain ⟨v44,q68,h⟩:=bs h
       refine rg j0<|u<|fa ti42 j0 j0 j0<|u<|ld ti40 j0 j0<|u<|mv j0<|u<|ixI ti40 j0 ti62 j0 j0 j0 q68<|u<|ldI ti62 j0 (idx_some q68).2.2 j0<|u<|al 1 ti62 j0<|u<|sto ti62 j0 j0 j0<|r_nil ?_
       obtain ⟨v46,q71,h⟩:=bs h
       obtain ⟨v48,q74,h⟩:=bs h
       refine rg j0<|u<|fa ti62 j0 j0 j0<|u<|ld ti4 j0 j0<|u<|fa ti42 j0 j0 j0<|u<|ld ti4 j0 j0<|u<|bne ti4 j0 j0 j0<|u<|mv j0<|r_or (x:=v46) (j:=5) 6 j0 j0 j0 j0 j0 gpn (fun hb69=>by replace q71:=bF hb69 q71; obtain ⟨v45,q70,q71⟩:=bs q71; obtain rfl:=sm q71; exact g j0 hb69<|ld ti42 j0 j0<|g j0 hb69<|fa ti62 j0 j0 j0<|g j0 hb69<|ld ti9 j0 j0<|g j0 hb69<|pc (ref3_Method_ok v1 v44.Name q70) j0 j0 j0<|g j0 hb69<|mv j0<|g j0 hb69<|neq ti3 j0 j0<|r_nil (eg [133,134,135,136,137,138] 6 j0 j0 j0 j0)) (fun hb=>(sm (bT hb q71)).symm)<|u<|mv j0<|r_or (x:=v48) (j:=13) 3 j0 j0 j0 j0 j0 gpn (fun hb72=>by replace q74:=bF hb72 q74; obtain ⟨v47,q73,q74⟩:=bs q74; obtain rfl:=sm q74; exact g j0 hb72<|ld ti62 j0 j0<|g j0 hb72<|pc (ref3_MayMethod_ok v44 q73) j0 j0 j0<|g j0 hb72<|nt j0<|r_nil (eg [141,142,143] 3 j0 j0 j0 j0)) (fun hb=>(sm (bT hb q74)).symm)<|r_nil ?_
       refine sw_cond j0 (fun hc75=>?_) (fun hc75=>?_)
       ·
        replace h:=bT hc75 h
        refine rg j0<|u<|asg j0<|r_nil ?_
        refine sw_ret ?_
        obtain rfl:=sm h
        exact ⟨_,j0,_,j0,[],ci j0,j0,j5,j0,j1⟩
       ·
        replace h:=bF hc75 h
        refine sw_skip ?_
        refine rl j0<|u<|mv j0<|u<|add ti3 j0 j0<|u<|asg j0<|r_nil ?_
        obtain rfl:=sm h
        exact ⟨_,j0,[.old 0],cv j0 (.mpt j0)<|ce j0 j0<|cn,j0,⟨⟨_,j0,rsOne ⟨ci j0,ci j0,ci j0,ci j0,ci j0,ci j0,j5⟩⟩,j5⟩,j0,j1⟩
      ·
       replace h:=bF hc67 h
       refine sw_exit ?_
       obtain rfl:=sm h
       exact ⟨j0,_,j0,[],cn,j0,j5,j0,j1⟩
     ·
      rintro ⟨⟩ rfl
      replace h : ref3_MayClass_k10 = some r:=h
      unfold ref3_MayClass_k10 at h
      refine ow_intro ?_
      refine rg j0<|u<|asg j0<|r_nil ?_
      refine sw_ret ?_
      obtain rfl:=sm h
      exact ⟨_,j0,[],ci j0,j0,j5,j0,j1⟩
     ·
      rintro r' rfl env st hp
      obtain rfl:=sm h
      exact hp
    ·
     rintro r' rfl env st hp
     obtain rfl:=sm h
     exact hp
   ·
    rintro r' rfl env st hp
    obtain rfl:=sm h
    exact hp
end
end Go.Proofs.YtooagifeniibcaaGreat
