/- LinkDeep: for every input the law returns true, and each argument reads as it read before. No further condition. Part 4 of 5. -/
import Derived.Test.YtooagifeniibcaaGreatYi3
namespace Go.Proofs.YtooagifeniibcaaGreat
set_option linter.unusedSimpArgs false
set_option linter.unusedVariables false
section
variable {l L : List ApiClass} {m : List (Tx × Int)}
theorem supers_loop (h : Made l L) (hm : MapOk L m) : ∀ (d : Nat) (n : Tx) (acc : List Tx), supF L d n = true → acc.length + d ≤ 200 → loopP (fun z => hier_Hier_Supers_s2_l1 L m z.1 z.2) (n, acc) = some (.inl (acc ++ sup L d n))
  | 0, n, acc, hf, hd => by
    rw [loopP_eq]
    show (hier_Hier_Supers_s2_l1 L m n acc).bind _ = _
    unfold hier_Hier_Supers_s2_l1 hier_Hier_has
    rw [hm.has]
    have : hasN L n = false := by simpa [supF] using hf
    rw [this]
    simp [sup]
  | d + 1, n, acc, hf, hd => by
    rw [loopP_eq]
    show (hier_Hier_Supers_s2_l1 L m n acc).bind _ = _
    unfold hier_Hier_Supers_s2_l1 hier_Hier_has
    rw [hm.has]
    unfold supF at hf
    unfold sup
    cases hc : cl L n with
    | none => rw [has_not hc]; simp
    | some c =>
      rw [hc] at hf
      rw [has_of hc, get_eq hm (has_of hc), hc, appP_ok (by simp; omega) (by simp; omega)]
      show loopP (fun z => hier_Hier_Supers_s2_l1 L m z.1 z.2) (c.Super, acc ++ [n]) = _
      rw [supers_loop h hm d c.Super (acc ++ [n]) hf (by simp; omega)]
      simp
def supL (L : List ApiClass) (n : Tx) : List Tx := sup L L.length n
theorem supers_eq (h : Made l L) (hm : MapOk L m) (n : Tx) : hier_Hier_Supers_s2 L m n = some (supL L n) := by
  unfold hier_Hier_Supers_s2
  rw [supers_loop h hm L.length n [] (sup_ends h.toWf n) (by have := h.len; simp; omega)]
  rfl
theorem sup_len : ∀ (d : Nat) (n : Tx), (sup L d n).length ≤ d
  | 0, n => by simp [sup]
  | d + 1, n => by
    unfold sup
    cases cl L n with
    | none => simp
    | some c => have := sup_len d c.Super; simpa using this
theorem supL_len (h : Made l L) (n : Tx) : (supL L n).length ≤ 26 := Nat.le_trans (sup_len _ n) h.len
theorem sup_nil (h : Made l L) : ∀ d, sup L d [] = []
  | 0 => rfl
  | d + 1 => by
    unfold sup
    cases hE : cl L [] with
    | none => rfl
    | some c => have := has_of hE; rw [h.noE] at this; cases this
theorem sup_mem (h : Made l L) : ∀ (d : Nat) (n x : Tx), x ∈ sup L d n → hasN L x = true ∧ (x = n ∨ Rc (nxA L) n x) ∧ (x = n ∨ ∃ c ∈ L, x = c.Super)
  | 0, n, x, hx => by simp [sup] at hx
  | d + 1, n, x, hx => by
    unfold sup at hx
    cases hc : cl L n with
    | none => rw [hc] at hx; cases hx
    | some c =>
      rw [hc] at hx
      rcases List.mem_cons.1 hx with e | e
      · subst e; exact ⟨has_of hc, .inl rfl, .inl rfl⟩
      · obtain ⟨h1, h2, h3⟩ := sup_mem h d c.Super x e
        have hne : c.Super ≠ [] := fun e2 => by rw [e2, sup_nil h] at e; cases e
        have h6 : c.Super ∈ nxA L n := by rw [nxA_of hc]; exact List.mem_filter.2 ⟨by simp, by simpa using hne⟩
        refine ⟨h1, .inr ?_, .inr ?_⟩
        · rcases h2 with e2 | e2
          · rw [e2]; exact .one h6
          · exact .more h6 e2
        · rcases h3 with e2 | e2
          · exact ⟨c, (cl_name hc).1, e2⟩
          · exact e2
end
section
variable {l L : List ApiClass} {m : List (Tx × Int)}
end
end Go.Proofs.YtooagifeniibcaaGreat
namespace Go.Proofs.YtooagifeniibcaaGreat
set_option linter.unusedSimpArgs false
set_option linter.unusedVariables false
abbrev I64 (n : Int) : Prop := -9223372036854775808 ≤ n ∧ n ≤ 9223372036854775807
abbrev FS (s : List UInt8) : Prop := s.length ≤ 10000
structure FL {α : Type} (Q : α → Prop) (l : List α) : Prop where
  len : l.length ≤ 10000
  all : ∀ x ∈ l, Q x
structure FField (f : ApiField) : Prop where
  name : FS f.Name
  type : FS f.Type_
structure FIns (x : ApiIns) : Prop where
  op : I64 x.Op
  a : I64 x.A
  c : FS x.C
  m : FS x.M
structure FMap (x : ApiMap) : Prop where
  pl : I64 x.At
  locals : FL FS x.Locals
  stack : FL FS x.Stack
structure FTrap (x : ApiTrap) : Prop where
  lo : I64 x.From
  hi : I64 x.To
  pl : I64 x.At
  c : FS x.C
structure FMeth (m : ApiMethod) : Prop where
  name : FS m.Name
  params : FL FS m.Params
  ret : FS m.Ret
  locals : I64 m.Locals
  stack : I64 m.Stack
  code : FL FIns m.Code
  maps : FL FMap m.Maps
  traps : FL FTrap m.Traps
structure FClass (c : ApiClass) : Prop where
  name : FS c.Name
  super : FS c.Super
  impl : FL FS c.Impl
  fields : FL FField c.Fields
  methods : FL FMeth c.Methods
theorem FL.le {α : Type} {Q : α → Prop} {l : List α} (h : FL Q l) : LenL l := by have := h.len; unfold LenL; omega
theorem FS.le {s : List UInt8} (h : FS s) : Len s := by unfold FS at h; unfold Len; omega
theorem FClass.cg {c : ApiClass} (h : FClass c) : CGIn c where
  name := h.name.le
  super := h.super.le
  impl := ⟨h.impl.le, fun s hs => (h.impl.all s hs).le⟩
  fields := ⟨h.fields.le, fun f hf => ⟨(h.fields.all f hf).name.le, (h.fields.all f hf).type.le⟩⟩
  methods := ⟨h.methods.le, fun m hm => by
    have g := h.methods.all m hm
    have g1 := g.params.len
    have g2 := g.code.len
    have g3 := g.maps.len
    have g4 := g.traps.len
    exact ⟨g.name.le, ⟨by omega, fun s hs => (g.params.all s hs).le⟩, g.ret.le,
      ⟨g.maps.le, g.code.le, fun x hx => ⟨⟨(g.maps.all x hx).locals.le, fun s hs => ((g.maps.all x hx).locals.all s hs).le⟩, (g.maps.all x hx).stack.le, fun s hs => ((g.maps.all x hx).stack.all s hs).le⟩⟩,
      ⟨⟨g.code.le, fun x hx => ⟨(g.code.all x hx).c.le, (g.code.all x hx).m.le⟩⟩, ⟨g.traps.le, fun x hx => (g.traps.all x hx).c.le⟩⟩, ⟨by omega, by omega, by omega⟩⟩⟩
theorem more {α : Type} {l : List α} {n i : Nat} {x : α} (h : l[i]? = some x) (hi : i < n) : (decide ((i : Int) < (l.length : Int)) && decide ((i : Int) < (n : Int))) = true := by
  rw [here h, decide_eq_true (by omega)]; rfl
theorem FS.take (s : List UInt8) {n : Nat} (hn : n ≤ 100) : FS (s.take n) := by unfold FS; rw [List.length_take]; omega
end Go.Proofs.YtooagifeniibcaaGreat
namespace Go.Proofs.YtooagifeniibcaaGreat
set_option linter.unusedSimpArgs false
set_option linter.unusedVariables false
section
variable {l L : List ApiClass} {m : List (Tx × Int)}
theorem giv_fc : ∀ c ∈ giv, FClass c := by
  intro c hc
  have hg : giv.all (fun c => decide (c.Name.length ≤ 10) && decide (c.Super.length ≤ 10) && (c.Impl == []) && decide (c.Fields.length = 0) && decide (c.Methods.length = 0)) = true := by decide +kernel
  have := List.all_eq_true.1 hg c hc
  simp only [Bool.and_eq_true, decide_eq_true_eq, beq_iff_eq] at this
  obtain ⟨⟨⟨⟨h1, h2⟩, h3⟩, h4⟩, h5⟩ := this
  refine ⟨by unfold FS; omega, by unfold FS; omega, ⟨by rw [h3]; simp, fun s hs => by rw [h3] at hs; cases hs⟩, ⟨by omega, fun s hs => ?_⟩, ⟨by omega, fun s hs => ?_⟩⟩
  · rw [List.eq_nil_of_length_eq_zero h4] at hs; cases hs
  · rw [List.eq_nil_of_length_eq_zero h5] at hs; cases hs
theorem made_fc (h : Made l L) (hs : ∀ c ∈ l, FClass c) : ∀ c ∈ L, FClass c := by
  intro c hc
  rw [h.app] at hc
  rcases List.mem_append.1 hc with e | e
  · exact giv_fc c e
  · exact hs c e
def zC : ApiClass := ApiClass.mk [] [] false [] [] []
theorem class_eq (hm : MapOk L m) (n : Tx) : hier_Hier_Class (some (HierHier.mk L m)) n = some (match cl L n with | some c => (c, true) | none => (zC, false)) := by
  show cond (!(hier_Hier_has L m n)) (some (zC, false)) ((hier_Hier_get L m n).bind fun v4 => some (v4, true)) = _
  unfold hier_Hier_has
  rw [hm.has]
  cases hc : cl L n with
  | none => rw [has_not hc]; rfl
  | some c => rw [has_of hc, get_eq hm (has_of hc), hc]; rfl
end
end Go.Proofs.YtooagifeniibcaaGreat
namespace Go.Proofs.YtooagifeniibcaaGreat
noncomputable section
set_option linter.unusedSimpArgs false
set_option linter.unusedVariables false
set_option maxRecDepth 100000
set_option maxHeartbeats 4000000
def hier_Hier_Class_s2 (v1 : List UInt8) : Option (ApiClass × Bool) :=
  cond (!(hier_Hier_has_s2 v1)) (some ((ApiClass.mk [] [] false [] [] []),false)) (none)
theorem hier_Hier_Class_s2_ok (v1 : List UInt8) {r : ApiClass × Bool} (h : hier_Hier_Class_s2 v1 = some r) : PureC Tryz.prog 33 [.lit (.pointer none),sA v1] (.tup [.agg [sA r.1.Name,sA r.1.Super,bA r.1.Interface,.isl 1 (List.map rStr r.1.Impl),.isl 3 (List.map rApiField r.1.Fields),.isl 10 (List.map rApiMethod r.1.Methods)],bA r.2]):=by
 refine pure_fn Tryz.func33 j0 (by kernel_rfl) j0 j0 ?_
 unfold hier_Hier_Class_s2 at h
 refine rg j0<|u<|al 0 ti42 j0<|u<|asg j0<|r_nil ?_
 refine sw_seq ?_
 refine rg j0<|u<|mv j0<|u<|mv j0<|u<|pc (hier_Hier_has_s2_ok v1 j0) j0 j0 j0<|u<|nt j0<|r_nil ?_
 refine sw_cond j0 (fun hc1=>?_) (fun hc1=>?_)
 ·
  replace h:=bT hc1 h
  refine rg j0<|u<|bd ti42 j0 j0 j0<|u<|sto ti42 j0 j0 j0<|u<|asg j0<|r_nil ?_
  refine sw_ret ?_
  obtain rfl:=sm h
  exact ⟨_,j0,[],rsTup ⟨(rsAgg ⟨(ci j0),(ci j0),(ci j0),(.nil),(.nil),(.nil),j5⟩),(ci j0),j5⟩,j0,j5,j0,j1⟩
 ·
  replace h:=bF hc1 h
  refine sw_skip ?_
  cases h
def link_Chosen_1 (v1 : ApiMethod) : Bool :=
  ((!v1.Static) && (!v1.Abstract))
theorem link_Chosen_1_ok (v1 : ApiMethod) {r : Bool} (h : link_Chosen_1 v1 = r) : PureC Tryz.prog 83 [.agg [sA v1.Name,.isl 1 (List.map rStr v1.Params),sA v1.Ret,bA v1.Static,bA v1.Abstract,iA v1.Locals,iA v1.Stack,.isl 4 (List.map rApiIns v1.Code),.isl 3 (List.map rApiMap v1.Maps),.isl 4 (List.map rApiTrap v1.Traps)]] (bA r):=by
 refine pure_fn Tryz.func83 j0 (by kernel_rfl) j0 j0 ?_
 unfold link_Chosen_1 at h
 refine rg j0<|u<|bx 0 10 j0 j0 j0 j0<|u<|asg j0<|r_nil ?_
 refine rg j0<|u<|fa ti62 j0 j0 j0<|u<|ld ti4 j0 j0<|u<|nt j0<|u<|mv j0<|r_and (j:=3) 3 j0 j0 j0 j0 j0 gpn (fun hb1=>g j0 hb1<|fa ti62 j0 j0 j0<|g j0 hb1<|ld ti4 j0 j0<|g j0 hb1<|nt j0<|r_nil (egA [7,8,9] 3 hb1 j0 j0 j0 j0)) andF<|u<|asg j0<|r_nil ?_
 refine sw_ret ?_
 obtain rfl:=h
 exact ⟨_,j0,[],ci j0,j0,j5,j0,j1⟩
def link_find_k2 : Option ((List UInt8) × ApiMethod × Bool) :=
  some ([],(ApiMethod.mk [] [] [] false false 0 0 [] [] []),false)
def link_find_l1 (v1 : List (List UInt8)) (v2 : List UInt8) (v10 : Int) : Option (Sum (Int) (Sum (Unit) ((List UInt8) × ApiMethod × Bool))) :=
  cond (decide (v10 < (List.length v1 : Int))) ((idx v1 v10).bind fun v11=>(hier_Hier_Class_s2 v11).bind fun v12=>(class_Method v12.1 v2).bind fun v13=>(cond (decide (0 ≤ v13)) ((idx v12.1.Methods v13).bind fun v14=>some (link_Chosen_1 v14)) (some false)).bind fun v15=>cond v15 ((idx v12.1.Methods v13).bind fun v16=>some (.inr (.inr (v11,v16,true)))) (some (.inl (IntKind.i64.wrap (v10 + 1))))) (some (.inr (.inl ())))
def link_find (v1 : List (List UInt8)) (v2 : List UInt8) : Option ((List UInt8) × ApiMethod × Bool) :=
  (loopP (fun z=>link_find_l1 v1 v2 z) 0).bind fun o=>leave o (fun b=>link_find_k2) some
theorem link_find_ok (v1 : List (List UInt8)) (v2 : List UInt8) {r : (List UInt8) × ApiMethod × Bool} (h : link_find v1 v2 = some r) : PureC Tryz.prog 82 [.lit (.pointer none),.isl 1 (List.map rStr v1),sA v2,.fn (.func 83) [] []] (.tup [sA r.1,.agg [sA r.2.1.Name,.isl 1 (List.map rStr r.2.1.Params),sA r.2.1.Ret,bA r.2.1.Static,bA r.2.1.Abstract,iA r.2.1.Locals,iA r.2.1.Stack,.isl 4 (List.map rApiIns r.2.1.Code),.isl 3 (List.map rApiMap r.2.1.Maps),.isl 4 (List.map rApiTrap r.2.1.Traps)],bA r.2.2]):=by
 refine pure_fn Tryz.func82 j0 (by kernel_rfl) j0 j0 ?_
 unfold link_find at h
 refine rg j0<|u<|asg j0<|u<|al 0 ti62 j0<|u<|asg j0<|r_nil ?_
 refine sw_seq ?_
 refine rg j0<|u<|mv j0<|u<|lnI ti32 j0 j0<|u<|mv j0<|r_nil ?_
 obtain ⟨o,ho,h⟩:=bs h
 refine sw_lpl (X:=Int) (B:=Unit) (R:=(List UInt8) × ApiMethod × Bool) (fun z=>[(0,.lit (.pointer none)),(2,sA v2),(3,.fn (.func 83) [] []),(9,.mpt 0 0 0),(16,.isl 1 (List.map rStr v1)),(17,iA (List.length v1 : Int)),(18,iA z)]) (fun z=>[some (10,[[sA [],.lit (.slice none 0 0),sA [],bA false,bA false,iA 0,iA 0,.lit (.slice none 0 0),.lit (.slice none 0 0),.lit (.slice none 0 0)]])]) (fun b=>[(9,.mpt 0 0 0)]) (fun b=>[some (10,[[sA [],.lit (.slice none 0 0),sA [],bA false,bA false,iA 0,iA 0,.lit (.slice none 0 0),.lit (.slice none 0 0),.lit (.slice none 0 0)]])]) (fun r env st=>PostF Tryz.prog Tryz.f82 0 (.tup [sA r.1,.agg [sA r.2.1.Name,.isl 1 (List.map rStr r.2.1.Params),sA r.2.1.Ret,bA r.2.1.Static,bA r.2.1.Abstract,iA r.2.1.Locals,iA r.2.1.Stack,.isl 4 (List.map rApiIns r.2.1.Code),.isl 3 (List.map rApiMap r.2.1.Maps),.isl 4 (List.map rApiTrap r.2.1.Traps)],bA r.2.2]) [] env st) ho ⟨[.old 0],ce j0 j0<|ce j0 j0<|ce j0 j0<|cv j0 (.mpt j0)<|ce j0 j0<|ce j0 j0<|ce j0 j0<|cn,j0,⟨⟨_,j0,rsOne ⟨ci j0,ci j0,ci j0,ci j0,ci j0,ci j0,ci j0,ci j0,ci j0,ci j0,j5⟩⟩,j5⟩,j0,j1⟩ ?_ ?_ ?_
 ·
  rintro v10 r h
  replace h : link_find_l1 v1 v2 v10 = some r:=h
  unfold link_find_l1 at h
  refine rg j0<|u<|lss ti3 j0 j0<|r_nil ?_
  refine sw_seq ?_
  refine sw_cond j0 (fun hc10=>?_) (fun hc10=>?_)
  ·
   replace h:=bT hc10 h
   refine sw_skip ?_
   refine sw_seq ?_
   refine sw_block ?_
   obtain ⟨v11,q11,h⟩:=bs h
   refine rg j0<|u<|ixI ti32 j0 ti9 j0 j0 j0 q11<|u<|ldI ti9 j0 (idx_some q11).2.2 j0<|u<|asg j0<|r_nil ?_
   obtain ⟨v12,q12,h⟩:=bs h
   refine rg j0<|u<|mv j0<|u<|mv j0<|u<|pc (hier_Hier_Class_s2_ok v11 q12) j0 j0 j0<|u<|mv j0<|u<|ex j0 j0<|u<|ex j0 j0<|u<|al 1 ti42 j0<|u<|sto ti42 j0 j0 j0<|u<|asg j0<|r_nil ?_
   obtain ⟨v13,q13,h⟩:=bs h
   refine rg j0<|u<|ld ti42 j0 j0<|u<|mv j0<|u<|pc (class_Method_ok v12.1 v2 q13) j0 j0 j0<|u<|asg j0<|r_nil ?_
   obtain ⟨v15,q16,h⟩:=bs h
   refine rg j0<|u<|mv j0<|u<|geq ti3 j0 j0<|u<|mv j0<|r_and (x:=v15) (j:=2) 7 j0 j0 j0 j0 j0 gpn (fun hb14=>by replace q16:=bT hb14 q16; obtain ⟨v14,q15,q16⟩:=bs q16; obtain rfl:=sm q16; exact g j0 hb14<|mv j0<|g j0 hb14<|fa ti42 j0 j0 j0<|g j0 hb14<|ld ti40 j0 j0<|g j0 hb14<|mv j0<|g j0 hb14<|ixI ti40 j0 ti62 j0 j0 j0 q15<|g j0 hb14<|ldI ti62 j0 (idx_some q15).2.2 j0<|g j0 hb14<|pc (link_Chosen_1_ok v14 j0) j0 j0 j0<|r_nil (eg [34,35,36,37,38,39,40] 7 j0 j0 j0 j0)) (fun hb=>(sm (bF hb q16)).symm)<|r_nil ?_
   refine sw_cond j0 (fun hc17=>?_) (fun hc17=>?_)
   ·
    replace h:=bT hc17 h
    obtain ⟨v16,q18,h⟩:=bs h
    refine rd [(8,sA v11),(9,.mpt 0 0 0),(10,bA true)] [some (10,[[sA v16.Name,.isl 1 (List.map rStr v16.Params),sA v16.Ret,bA v16.Static,bA v16.Abstract,iA v16.Locals,iA v16.Stack,.isl 4 (List.map rApiIns v16.Code),.isl 3 (List.map rApiMap v16.Maps),.isl 4 (List.map rApiTrap v16.Traps)]])] [7] [6,5,4,3,2,1,0] [(8,sA v11),(47,.agg [sA v16.Name,.isl 1 (List.map rStr v16.Params),sA v16.Ret,bA v16.Static,bA v16.Abstract,iA v16.Locals,iA v16.Stack,.isl 4 (List.map rApiIns v16.Code),.isl 3 (List.map rApiMap v16.Maps),.isl 4 (List.map rApiTrap v16.Traps)]),(46,.ipt 10 (List.map rApiMethod v12.1.Methods) (Int.toNat v13) 0),(45,iA v13),(44,.isl 10 (List.map rApiMethod v12.1.Methods)),(43,.mpt 1 0 5),(42,sA v11)] 1 (by kernel_rfl) (by kernel_rfl) j0 (by kernel_rfl) (dtS ⟨(fun _=>pa j0 j0 j0 j0 (asg j0<|j4)),(fun _=>pa j0 j0 j0 j0 (ldI ti62 j0 (idx_some q18).2.2 j0<|j4)),(fun _=>pa j0 j0 j0 j0 (ixI ti40 j0 ti62 j0 j0 j0 q18<|j4)),(fun _=>pa j0 j0 j0 j0 (mv j0<|j4)),(fun _=>pa j0 j0 j0 j0 (ld ti40 j0 j0<|j4)),(fun _=>pa j0 j0 j0 j0 (fa ti42 j0 j0 j0<|j4)),(fun _=>pa j0 j0 j0 j0 (mv j0<|j4)),j5⟩ (by kernel_rfl) j0 ⟨(fun _ _=>⟨_,j0,j0,sto ti62 j0 j0 j0<|⟨.any,[8],[(10,bA true)],j0,j0,by kernel_rfl,j5,dt0 ⟨(fun _=>pa j0 j0 j0 j0 (asg j0<|j4)),(fun h=>by cases h),(fun h=>by cases h),(fun h=>by cases h),(fun h=>by cases h),(fun h=>by cases h),(fun h=>by cases h),(fun h=>by cases h),j5⟩ (by kernel_rfl) j0 ⟨[.old 0],ce j0 j0<|cv j0 (.mpt j0)<|ce j0 j0<|cn,j0,⟨⟨_,j0,rsOne ⟨ci j0,ci j0,ci j0,ci j0,ci j0,ci j0,ci j0,ci j0,ci j0,ci j0,j5⟩⟩,j5⟩,j0,j1⟩⟩⟩),j5⟩) ?_
    refine sw_ret ?_
    obtain rfl:=sm h
    exact ⟨_,j0,_,j0,[],rsTup ⟨(ci j0),(ci j0),(ci j0),j5⟩,j0,j5,j0,j1⟩
   ·
    replace h:=bF hc17 h
    refine sw_skip ?_
    refine rl j0<|u<|add ti3 j0 j0<|u<|mv j0<|r_nil ?_
    obtain rfl:=sm h
    exact ⟨_,j0,[.old 0],ce j0 j0<|ce j0 j0<|ce j0 j0<|cv j0 (.mpt j0)<|ce j0 j0<|ce j0 j0<|ce j0 j0<|cn,j0,⟨⟨_,j0,rsOne ⟨ci j0,ci j0,ci j0,ci j0,ci j0,ci j0,ci j0,ci j0,ci j0,ci j0,j5⟩⟩,j5⟩,j0,j1⟩
  ·
   replace h:=bF hc10 h
   refine sw_exit ?_
   obtain rfl:=sm h
   exact ⟨j0,_,j0,[.old 0],cv j0 (.mpt j0)<|cn,j0,⟨⟨_,j0,rsOne ⟨ci j0,ci j0,ci j0,ci j0,ci j0,ci j0,ci j0,ci j0,ci j0,ci j0,j5⟩⟩,j5⟩,j0,j1⟩
 ·
  rintro ⟨⟩ rfl
  replace h : link_find_k2 = some r:=h
  unfold link_find_k2 at h
  refine ow_intro ?_
  refine rg j0<|u<|bd ti62 j0 j0 j0<|u<|asg j0<|u<|sto ti62 j0 j0 j0<|u<|asg j0<|r_nil ?_
  refine sw_ret ?_
  obtain rfl:=sm h
  exact ⟨_,j0,[],rsTup ⟨(ci j0),(rsAgg ⟨(ci j0),(.nil),(ci j0),(ci j0),(ci j0),(ci j0),(ci j0),(.nil),(.nil),(.nil),j5⟩),(ci j0),j5⟩,j0,j5,j0,j1⟩
 ·
  rintro r' rfl env st hp
  obtain rfl:=sm h
  exact hp
def hier_Hier_Class_s3 (v1 : List ApiClass) (v2 : List (List UInt8 × Int)) (v3 : List UInt8) : Option (ApiClass × Bool) :=
  cond (!(hier_Hier_has v1 v2 v3)) (some ((ApiClass.mk [] [] false [] [] []),false)) ((hier_Hier_get v1 v2 v3).bind fun v4=>some (v4,true))
theorem hier_Hier_Class_s3_ok (v1 : List ApiClass) (v2 : List (List UInt8 × Int)) (v3 : List UInt8) {r : ApiClass × Bool} (h : hier_Hier_Class_s3 v1 v2 v3 = some r) : PureC Tryz.prog 33 [.ipt 2 [[.isl 6 (List.map rApiClass v1),.imp (List.map (rKV (fun x=>iA x)) v2)]] 0 0,sA v3] (.tup [.agg [sA r.1.Name,sA r.1.Super,bA r.1.Interface,.isl 1 (List.map rStr r.1.Impl),.isl 3 (List.map rApiField r.1.Fields),.isl 10 (List.map rApiMethod r.1.Methods)],bA r.2]):=by
 refine pure_fn Tryz.func33 j0 (by kernel_rfl) j0 j0 ?_
 unfold hier_Hier_Class_s3 at h
 refine rg j0<|u<|al 0 ti42 j0<|u<|asg j0<|r_nil ?_
 refine sw_seq ?_
 refine rg j0<|u<|mv j0<|u<|mv j0<|u<|pc (hier_Hier_has_ok v1 v2 v3 j0) j0 j0 j0<|u<|nt j0<|r_nil ?_
 refine sw_cond j0 (fun hc1=>?_) (fun hc1=>?_)
 ·
  replace h:=bT hc1 h
  refine rg j0<|u<|bd ti42 j0 j0 j0<|u<|sto ti42 j0 j0 j0<|u<|asg j0<|r_nil ?_
  refine sw_ret ?_
  obtain rfl:=sm h
  exact ⟨_,j0,[],rsTup ⟨(rsAgg ⟨(ci j0),(ci j0),(ci j0),(.nil),(.nil),(.nil),j5⟩),(ci j0),j5⟩,j0,j5,j0,j1⟩
 ·
  replace h:=bF hc1 h
  refine sw_skip ?_
  obtain ⟨v4,q2,h⟩:=bs h
  refine rg j0<|u<|mv j0<|u<|mv j0<|u<|pc (hier_Hier_get_ok v1 v2 v3 q2) j0 j0 j0<|u<|sto ti42 j0 j0 j0<|u<|asg j0<|r_nil ?_
  refine sw_ret ?_
  obtain rfl:=sm h
  exact ⟨_,j0,[],rsTup ⟨(ci j0),(ci j0),j5⟩,j0,j5,j0,j1⟩
def link_find_s2_k2 : Option ((List UInt8) × ApiMethod × Bool) :=
  some ([],(ApiMethod.mk [] [] [] false false 0 0 [] [] []),false)
def link_find_s2_l1 (v1 : List ApiClass) (v2 : List (List UInt8 × Int)) (v3 : List (List UInt8)) (v4 : List UInt8) (v12 : Int) : Option (Sum (Int) (Sum (Unit) ((List UInt8) × ApiMethod × Bool))) :=
  cond (decide (v12 < (List.length v3 : Int))) ((idx v3 v12).bind fun v13=>(hier_Hier_Class_s3 v1 v2 v13).bind fun v14=>(class_Method v14.1 v4).bind fun v15=>(cond (decide (0 ≤ v15)) ((idx v14.1.Methods v15).bind fun v16=>some (link_Chosen_1 v16)) (some false)).bind fun v17=>cond v17 ((idx v14.1.Methods v15).bind fun v18=>some (.inr (.inr (v13,v18,true)))) (some (.inl (IntKind.i64.wrap (v12 + 1))))) (some (.inr (.inl ())))
def link_find_s2 (v1 : List ApiClass) (v2 : List (List UInt8 × Int)) (v3 : List (List UInt8)) (v4 : List UInt8) : Option ((List UInt8) × ApiMethod × Bool) :=
  (loopP (fun z=>link_find_s2_l1 v1 v2 v3 v4 z) 0).bind fun o=>leave o (fun b=>link_find_s2_k2) some
theorem link_find_s2_ok (v1 : List ApiClass) (v2 : List (List UInt8 × Int)) (v3 : List (List UInt8)) (v4 : List UInt8) {r : (List UInt8) × ApiMethod × Bool} (h : link_find_s2 v1 v2 v3 v4 = some r) : PureC Tryz.prog 82 [.ipt 2 [[.isl 6 (List.map rApiClass v1),.imp (List.map (rKV (fun x=>iA x)) v2)]] 0 0,.isl 1 (List.map rStr v3),sA v4,.fn (.func 83) [] []] (.tup [sA r.1,.agg [sA r.2.1.Name,.isl 1 (List.map rStr r.2.1.Params),sA r.2.1.Ret,bA r.2.1.Static,bA r.2.1.Abstract,iA r.2.1.Locals,iA r.2.1.Stack,.isl 4 (List.map rApiIns r.2.1.Code),.isl 3 (List.map rApiMap r.2.1.Maps),.isl 4 (List.map rApiTrap r.2.1.Traps)],bA r.2.2]):=by
 refine pure_fn Tryz.func82 j0 (by kernel_rfl) j0 j0 ?_
 unfold link_find_s2 at h
 refine rg j0<|u<|asg j0<|u<|al 0 ti62 j0<|u<|asg j0<|r_nil ?_
 refine sw_seq ?_
 refine rg j0<|u<|mv j0<|u<|lnI ti32 j0 j0<|u<|mv j0<|r_nil ?_
 obtain ⟨o,ho,h⟩:=bs h
 refine sw_lpl (X:=Int) (B:=Unit) (R:=(List UInt8) × ApiMethod × Bool) (fun z=>[(0,.ipt 2 [[.isl 6 (List.map rApiClass v1),.imp (List.map (rKV (fun x=>iA x)) v2)]] 0 0),(2,sA v4),(3,.fn (.func 83) [] []),(9,.mpt 0 0 0),(16,.isl 1 (List.map rStr v3)),(17,iA (List.length v3 : Int)),(18,iA z)]) (fun z=>[some (10,[[sA [],.lit (.slice none 0 0),sA [],bA false,bA false,iA 0,iA 0,.lit (.slice none 0 0),.lit (.slice none 0 0),.lit (.slice none 0 0)]])]) (fun b=>[(9,.mpt 0 0 0)]) (fun b=>[some (10,[[sA [],.lit (.slice none 0 0),sA [],bA false,bA false,iA 0,iA 0,.lit (.slice none 0 0),.lit (.slice none 0 0),.lit (.slice none 0 0)]])]) (fun r env st=>PostF Tryz.prog Tryz.f82 0 (.tup [sA r.1,.agg [sA r.2.1.Name,.isl 1 (List.map rStr r.2.1.Params),sA r.2.1.Ret,bA r.2.1.Static,bA r.2.1.Abstract,iA r.2.1.Locals,iA r.2.1.Stack,.isl 4 (List.map rApiIns r.2.1.Code),.isl 3 (List.map rApiMap r.2.1.Maps),.isl 4 (List.map rApiTrap r.2.1.Traps)],bA r.2.2]) [] env st) ho ⟨[.old 0],ce j0 j0<|ce j0 j0<|ce j0 j0<|cv j0 (.mpt j0)<|ce j0 j0<|ce j0 j0<|ce j0 j0<|cn,j0,⟨⟨_,j0,rsOne ⟨ci j0,ci j0,ci j0,ci j0,ci j0,ci j0,ci j0,ci j0,ci j0,ci j0,j5⟩⟩,j5⟩,j0,j1⟩ ?_ ?_ ?_
 ·
  rintro v12 r h
  replace h : link_find_s2_l1 v1 v2 v3 v4 v12 = some r:=h
  unfold link_find_s2_l1 at h
  refine rg j0<|u<|lss ti3 j0 j0<|r_nil ?_
  refine sw_seq ?_
  refine sw_cond j0 (fun hc10=>?_) (fun hc10=>?_)
  ·
   replace h:=bT hc10 h
   refine sw_skip ?_
   refine sw_seq ?_
   refine sw_block ?_
   obtain ⟨v13,q11,h⟩:=bs h
   refine rg j0<|u<|ixI ti32 j0 ti9 j0 j0 j0 q11<|u<|ldI ti9 j0 (idx_some q11).2.2 j0<|u<|asg j0<|r_nil ?_
   obtain ⟨v14,q12,h⟩:=bs h
   refine rg j0<|u<|mv j0<|u<|mv j0<|u<|pc (hier_Hier_Class_s3_ok v1 v2 v13 q12) j0 j0 j0<|u<|mv j0<|u<|ex j0 j0<|u<|ex j0 j0<|u<|al 1 ti42 j0<|u<|sto ti42 j0 j0 j0<|u<|asg j0<|r_nil ?_
   obtain ⟨v15,q13,h⟩:=bs h
   refine rg j0<|u<|ld ti42 j0 j0<|u<|mv j0<|u<|pc (class_Method_ok v14.1 v4 q13) j0 j0 j0<|u<|asg j0<|r_nil ?_
   obtain ⟨v17,q16,h⟩:=bs h
   refine rg j0<|u<|mv j0<|u<|geq ti3 j0 j0<|u<|mv j0<|r_and (x:=v17) (j:=2) 7 j0 j0 j0 j0 j0 gpn (fun hb14=>by replace q16:=bT hb14 q16; obtain ⟨v16,q15,q16⟩:=bs q16; obtain rfl:=sm q16; exact g j0 hb14<|mv j0<|g j0 hb14<|fa ti42 j0 j0 j0<|g j0 hb14<|ld ti40 j0 j0<|g j0 hb14<|mv j0<|g j0 hb14<|ixI ti40 j0 ti62 j0 j0 j0 q15<|g j0 hb14<|ldI ti62 j0 (idx_some q15).2.2 j0<|g j0 hb14<|pc (link_Chosen_1_ok v16 j0) j0 j0 j0<|r_nil (eg [34,35,36,37,38,39,40] 7 j0 j0 j0 j0)) (fun hb=>(sm (bF hb q16)).symm)<|r_nil ?_
   refine sw_cond j0 (fun hc17=>?_) (fun hc17=>?_)
   ·
    replace h:=bT hc17 h
    obtain ⟨v18,q18,h⟩:=bs h
    refine rd [(8,sA v13),(9,.mpt 0 0 0),(10,bA true)] [some (10,[[sA v18.Name,.isl 1 (List.map rStr v18.Params),sA v18.Ret,bA v18.Static,bA v18.Abstract,iA v18.Locals,iA v18.Stack,.isl 4 (List.map rApiIns v18.Code),.isl 3 (List.map rApiMap v18.Maps),.isl 4 (List.map rApiTrap v18.Traps)]])] [7] [6,5,4,3,2,1,0] [(8,sA v13),(47,.agg [sA v18.Name,.isl 1 (List.map rStr v18.Params),sA v18.Ret,bA v18.Static,bA v18.Abstract,iA v18.Locals,iA v18.Stack,.isl 4 (List.map rApiIns v18.Code),.isl 3 (List.map rApiMap v18.Maps),.isl 4 (List.map rApiTrap v18.Traps)]),(46,.ipt 10 (List.map rApiMethod v14.1.Methods) (Int.toNat v15) 0),(45,iA v15),(44,.isl 10 (List.map rApiMethod v14.1.Methods)),(43,.mpt 1 0 5),(42,sA v13)] 1 (by kernel_rfl) (by kernel_rfl) j0 (by kernel_rfl) (dtS ⟨(fun _=>pa j0 j0 j0 j0 (asg j0<|j4)),(fun _=>pa j0 j0 j0 j0 (ldI ti62 j0 (idx_some q18).2.2 j0<|j4)),(fun _=>pa j0 j0 j0 j0 (ixI ti40 j0 ti62 j0 j0 j0 q18<|j4)),(fun _=>pa j0 j0 j0 j0 (mv j0<|j4)),(fun _=>pa j0 j0 j0 j0 (ld ti40 j0 j0<|j4)),(fun _=>pa j0 j0 j0 j0 (fa ti42 j0 j0 j0<|j4)),(fun _=>pa j0 j0 j0 j0 (mv j0<|j4)),j5⟩ (by kernel_rfl) j0 ⟨(fun _ _=>⟨_,j0,j0,sto ti62 j0 j0 j0<|⟨.any,[8],[(10,bA true)],j0,j0,by kernel_rfl,j5,dt0 ⟨(fun _=>pa j0 j0 j0 j0 (asg j0<|j4)),(fun h=>by cases h),(fun h=>by cases h),(fun h=>by cases h),(fun h=>by cases h),(fun h=>by cases h),(fun h=>by cases h),(fun h=>by cases h),j5⟩ (by kernel_rfl) j0 ⟨[.old 0],ce j0 j0<|cv j0 (.mpt j0)<|ce j0 j0<|cn,j0,⟨⟨_,j0,rsOne ⟨ci j0,ci j0,ci j0,ci j0,ci j0,ci j0,ci j0,ci j0,ci j0,ci j0,j5⟩⟩,j5⟩,j0,j1⟩⟩⟩),j5⟩) ?_
    refine sw_ret ?_
    obtain rfl:=sm h
    exact ⟨_,j0,_,j0,[],rsTup ⟨(ci j0),(ci j0),(ci j0),j5⟩,j0,j5,j0,j1⟩
   ·
    replace h:=bF hc17 h
    refine sw_skip ?_
    refine rl j0<|u<|add ti3 j0 j0<|u<|mv j0<|r_nil ?_
    obtain rfl:=sm h
    exact ⟨_,j0,[.old 0],ce j0 j0<|ce j0 j0<|ce j0 j0<|cv j0 (.mpt j0)<|ce j0 j0<|ce j0 j0<|ce j0 j0<|cn,j0,⟨⟨_,j0,rsOne ⟨ci j0,ci j0,ci j0,ci j0,ci j0,ci j0,ci j0,ci j0,ci j0,ci j0,j5⟩⟩,j5⟩,j0,j1⟩
  ·
   replace h:=bF hc10 h
   refine sw_exit ?_
   obtain rfl:=sm h
   exact ⟨j0,_,j0,[.old 0],cv j0 (.mpt j0)<|cn,j0,⟨⟨_,j0,rsOne ⟨ci j0,ci j0,ci j0,ci j0,ci j0,ci j0,ci j0,ci j0,ci j0,ci j0,j5⟩⟩,j5⟩,j0,j1⟩
 ·
  rintro ⟨⟩ rfl
  replace h : link_find_s2_k2 = some r:=h
  unfold link_find_s2_k2 at h
  refine ow_intro ?_
  refine rg j0<|u<|bd ti62 j0 j0 j0<|u<|asg j0<|u<|sto ti62 j0 j0 j0<|u<|asg j0<|r_nil ?_
  refine sw_ret ?_
  obtain rfl:=sm h
  exact ⟨_,j0,[],rsTup ⟨(ci j0),(rsAgg ⟨(ci j0),(.nil),(ci j0),(ci j0),(ci j0),(ci j0),(ci j0),(.nil),(.nil),(.nil),j5⟩),(ci j0),j5⟩,j0,j5,j0,j1⟩
 ·
  rintro r' rfl env st hp
  obtain rfl:=sm h
  exact hp
def link_Chosen (v1 : Option HierHier) (v2 : List UInt8) (v3 : List UInt8) : Option ((List UInt8) × Bool) :=
  optE v1 ((hier_Hier_Supers v2).bind fun v5=>(link_find v5 v3).bind fun v6=>some (v6.1,v6.2.2)) (fun v4=>(hier_Hier_Supers_s2 v4.l v4.at_ v2).bind fun v7=>(link_find_s2 v4.l v4.at_ v7 v3).bind fun v8=>some (v8.1,v8.2.2))
theorem link_Chosen_ok (v1 : Option HierHier) (v2 : List UInt8) (v3 : List UInt8) {r : (List UInt8) × Bool} (h : link_Chosen v1 v2 v3 = some r) : PureC Tryz.prog 41 [optP 2 rHierHier v1,sA v2,sA v3] (.tup [sA r.1,bA r.2]):=by
 refine pure_fn Tryz.func41 j0 (by kernel_rfl) j0 j0 ?_
 unfold link_Chosen at h
 rcases v1 with _ | v4
 ·
  replace h:=oeN h
  refine rg j0<|u<|asg j0<|u<|asg j0<|r_nil ?_
  obtain ⟨v5,q1,h⟩:=bs h
  obtain ⟨v6,q2,h⟩:=bs h
  refine rg j0<|u<|mv j0<|u<|mv j0<|u<|mv j0<|u<|pc (hier_Hier_Supers_ok v2 q1) j0 j0 j0<|u<|mv j0<|u<|pc (link_find_ok v5 v3 q2) j0 j0 j0<|u<|mv j0<|u<|ex j0 j0<|u<|ex j0 j0<|u<|ex j0 j0<|u<|al 0 ti62 j0<|u<|asg j0<|u<|sto ti62 j0 j0 j0<|u<|asg j0<|r_nil ?_
  refine rg j0<|u<|mv j0<|u<|mv j0<|u<|asg j0<|u<|asg j0<|r_nil ?_
  refine sw_ret ?_
  obtain rfl:=sm h
  exact ⟨_,j0,[],rsTup ⟨(ci j0),(ci j0),j5⟩,j0,j5,j0,j1⟩
 ·
  replace h:=oeS h
  refine rg j0<|u<|asg j0<|u<|asg j0<|r_nil ?_
  obtain ⟨v7,q3,h⟩:=bs h
  obtain ⟨v8,q4,h⟩:=bs h
  refine rg j0<|u<|mv j0<|u<|mv j0<|u<|mv j0<|u<|sc [] (hier_Hier_Supers_s2_ok v4.l v4.at_ v2 q3) j0 j0 j0 j0 ⟨(rnI j0),(rnI j0),j5⟩ j5<|r_can (env0:=[(2,sA v3),(12,.ipt 2 [[.isl 6 (List.map rApiClass v4.l),.imp (List.map (rKV (fun x=>iA x)) v4.at_)]] 0 0),(15,.msl 0 0 (List.length v7))]) (st0:=[some (1,List.map rStr v7)]) ⟨[.old 0],ce j0 j0<|ce j0 j0<|cv j0 (.msl j0)<|cn,j0,⟨⟨_,j0,rsMap (fun _=>j0)⟩,j5⟩,j0,j1⟩<|u<|mv j0<|r_can (env0:=[(12,.ipt 2 [[.isl 6 (List.map rApiClass v4.l),.imp (List.map (rKV (fun x=>iA x)) v4.at_)]] 0 0),(15,.isl 1 (List.map rStr v7)),(16,sA v3)]) (st0:=[]) ⟨[],ce j0 j0<|cv j0 (rsSeal j0 j0 (fun _=>j0))<|ce j0 j0<|cn,j0,j5,j0,j1⟩<|u<|pc (link_find_s2_ok v4.l v4.at_ v7 v3 q4) j0 j0 j0<|u<|mv j0<|u<|ex j0 j0<|u<|ex j0 j0<|u<|ex j0 j0<|u<|al 0 ti62 j0<|u<|asg j0<|u<|sto ti62 j0 j0 j0<|u<|asg j0<|r_nil ?_
  refine rg j0<|u<|mv j0<|u<|mv j0<|u<|asg j0<|u<|asg j0<|r_nil ?_
  refine sw_ret ?_
  obtain rfl:=sm h
  exact ⟨_,j0,[],rsTup ⟨(ci j0),(ci j0),j5⟩,j0,j5,j0,j1⟩
def link_Method_1 (v1 : ApiMethod) : Bool :=
  (!(v1.Name == [36,105,110,105,116]))
theorem link_Method_1_ok (v1 : ApiMethod) {r : Bool} (h : link_Method_1 v1 = r) : PureC Tryz.prog 84 [.agg [sA v1.Name,.isl 1 (List.map rStr v1.Params),sA v1.Ret,bA v1.Static,bA v1.Abstract,iA v1.Locals,iA v1.Stack,.isl 4 (List.map rApiIns v1.Code),.isl 3 (List.map rApiMap v1.Maps),.isl 4 (List.map rApiTrap v1.Traps)]] (bA r):=by
 refine pure_fn Tryz.func84 j0 (by kernel_rfl) j0 j0 ?_
 unfold link_Method_1 at h
 refine rg j0<|u<|bx 0 10 j0 j0 j0 j0<|u<|asg j0<|r_nil ?_
 refine rg j0<|u<|fa ti62 j0 j0 j0<|u<|ld ti9 j0 j0<|u<|sne ti9 j0 j0<|u<|asg j0<|r_nil ?_
 refine sw_ret ?_
 obtain rfl:=h
 exact ⟨_,j0,[],ci j0,j0,j5,j0,j1⟩
def link_find_s3_k2 : Option ((List UInt8) × ApiMethod × Bool) :=
  some ([],(ApiMethod.mk [] [] [] false false 0 0 [] [] []),false)
def link_find_s3_l1 (v1 : List (List UInt8)) (v2 : List UInt8) (v10 : Int) : Option (Sum (Int) (Sum (Unit) ((List UInt8) × ApiMethod × Bool))) :=
  cond (decide (v10 < (List.length v1 : Int))) ((idx v1 v10).bind fun v11=>(hier_Hier_Class_s2 v11).bind fun v12=>(class_Method v12.1 v2).bind fun v13=>(cond (decide (0 ≤ v13)) ((idx v12.1.Methods v13).bind fun v14=>some (link_Method_1 v14)) (some false)).bind fun v15=>cond v15 ((idx v12.1.Methods v13).bind fun v16=>some (.inr (.inr (v11,v16,true)))) (some (.inl (IntKind.i64.wrap (v10 + 1))))) (some (.inr (.inl ())))
def link_find_s3 (v1 : List (List UInt8)) (v2 : List UInt8) : Option ((List UInt8) × ApiMethod × Bool) :=
  (loopP (fun z=>link_find_s3_l1 v1 v2 z) 0).bind fun o=>leave o (fun b=>link_find_s3_k2) some
theorem link_find_s3_ok (v1 : List (List UInt8)) (v2 : List UInt8) {r : (List UInt8) × ApiMethod × Bool} (h : link_find_s3 v1 v2 = some r) : PureC Tryz.prog 82 [.lit (.pointer none),.isl 1 (List.map rStr v1),sA v2,.fn (.func 84) [] []] (.tup [sA r.1,.agg [sA r.2.1.Name,.isl 1 (List.map rStr r.2.1.Params),sA r.2.1.Ret,bA r.2.1.Static,bA r.2.1.Abstract,iA r.2.1.Locals,iA r.2.1.Stack,.isl 4 (List.map rApiIns r.2.1.Code),.isl 3 (List.map rApiMap r.2.1.Maps),.isl 4 (List.map rApiTrap r.2.1.Traps)],bA r.2.2]):=by
 refine pure_fn Tryz.func82 j0 (by kernel_rfl) j0 j0 ?_
 unfold link_find_s3 at h
 refine rg j0<|u<|asg j0<|u<|al 0 ti62 j0<|u<|asg j0<|r_nil ?_
 refine sw_seq ?_
 refine rg j0<|u<|mv j0<|u<|lnI ti32 j0 j0<|u<|mv j0<|r_nil ?_
 obtain ⟨o,ho,h⟩:=bs h
 refine sw_lpl (X:=Int) (B:=Unit) (R:=(List UInt8) × ApiMethod × Bool) (fun z=>[(0,.lit (.pointer none)),(2,sA v2),(3,.fn (.func 84) [] []),(9,.mpt 0 0 0),(16,.isl 1 (List.map rStr v1)),(17,iA (List.length v1 : Int)),(18,iA z)]) (fun z=>[some (10,[[sA [],.lit (.slice none 0 0),sA [],bA false,bA false,iA 0,iA 0,.lit (.slice none 0 0),.lit (.slice none 0 0),.lit (.slice none 0 0)]])]) (fun b=>[(9,.mpt 0 0 0)]) (fun b=>[some (10,[[sA [],.lit (.slice none 0 0),sA [],bA false,bA false,iA 0,iA 0,.lit (.slice none 0 0),.lit (.slice none 0 0),.lit (.slice none 0 0)]])]) (fun r env st=>PostF Tryz.prog Tryz.f82 0 (.tup [sA r.1,.agg [sA r.2.1.Name,.isl 1 (List.map rStr r.2.1.Params),sA r.2.1.Ret,bA r.2.1.Static,bA r.2.1.Abstract,iA r.2.1.Locals,iA r.2.1.Stack,.isl 4 (List.map rApiIns r.2.1.Code),.isl 3 (List.map rApiMap r.2.1.Maps),.isl 4 (List.map rApiTrap r.2.1.Traps)],bA r.2.2]) [] env st) ho ⟨[.old 0],ce j0 j0<|ce j0 j0<|ce j0 j0<|cv j0 (.mpt j0)<|ce j0 j0<|ce j0 j0<|ce j0 j0<|cn,j0,⟨⟨_,j0,rsOne ⟨ci j0,ci j0,ci j0,ci j0,ci j0,ci j0,ci j0,ci j0,ci j0,ci j0,j5⟩⟩,j5⟩,j0,j1⟩ ?_ ?_ ?_
 ·
  rintro v10 r h
  replace h : link_find_s3_l1 v1 v2 v10 = some r:=h
  unfold link_find_s3_l1 at h
  refine rg j0<|u<|lss ti3 j0 j0<|r_nil ?_
  refine sw_seq ?_
  refine sw_cond j0 (fun hc10=>?_) (fun hc10=>?_)
  ·
   replace h:=bT hc10 h
   refine sw_skip ?_
   refine sw_seq ?_
   refine sw_block ?_
   obtain ⟨v11,q11,h⟩:=bs h
   refine rg j0<|u<|ixI ti32 j0 ti9 j0 j0 j0 q11<|u<|ldI ti9 j0 (idx_some q11).2.2 j0<|u<|asg j0<|r_nil ?_
   obtain ⟨v12,q12,h⟩:=bs h
   refine rg j0<|u<|mv j0<|u<|mv j0<|u<|pc (hier_Hier_Class_s2_ok v11 q12) j0 j0 j0<|u<|mv j0<|u<|ex j0 j0<|u<|ex j0 j0<|u<|al 1 ti42 j0<|u<|sto ti42 j0 j0 j0<|u<|asg j0<|r_nil ?_
   obtain ⟨v13,q13,h⟩:=bs h
   refine rg j0<|u<|ld ti42 j0 j0<|u<|mv j0<|u<|pc (class_Method_ok v12.1 v2 q13) j0 j0 j0<|u<|asg j0<|r_nil ?_
   obtain ⟨v15,q16,h⟩:=bs h
   refine rg j0<|u<|mv j0<|u<|geq ti3 j0 j0<|u<|mv j0<|r_and (x:=v15) (j:=2) 7 j0 j0 j0 j0 j0 gpn (fun hb14=>by replace q16:=bT hb14 q16; obtain ⟨v14,q15,q16⟩:=bs q16; obtain rfl:=sm q16; exact g j0 hb14<|mv j0<|g j0 hb14<|fa ti42 j0 j0 j0<|g j0 hb14<|ld ti40 j0 j0<|g j0 hb14<|mv j0<|g j0 hb14<|ixI ti40 j0 ti62 j0 j0 j0 q15<|g j0 hb14<|ldI ti62 j0 (idx_some q15).2.2 j0<|g j0 hb14<|pc (link_Method_1_ok v14 j0) j0 j0 j0<|r_nil (eg [34,35,36,37,38,39,40] 7 j0 j0 j0 j0)) (fun hb=>(sm (bF hb q16)).symm)<|r_nil ?_
   refine sw_cond j0 (fun hc17=>?_) (fun hc17=>?_)
   ·
    replace h:=bT hc17 h
    obtain ⟨v16,q18,h⟩:=bs h
    refine rd [(8,sA v11),(9,.mpt 0 0 0),(10,bA true)] [some (10,[[sA v16.Name,.isl 1 (List.map rStr v16.Params),sA v16.Ret,bA v16.Static,bA v16.Abstract,iA v16.Locals,iA v16.Stack,.isl 4 (List.map rApiIns v16.Code),.isl 3 (List.map rApiMap v16.Maps),.isl 4 (List.map rApiTrap v16.Traps)]])] [7] [6,5,4,3,2,1,0] [(8,sA v11),(47,.agg [sA v16.Name,.isl 1 (List.map rStr v16.Params),sA v16.Ret,bA v16.Static,bA v16.Abstract,iA v16.Locals,iA v16.Stack,.isl 4 (List.map rApiIns v16.Code),.isl 3 (List.map rApiMap v16.Maps),.isl 4 (List.map rApiTrap v16.Traps)]),(46,.ipt 10 (List.map rApiMethod v12.1.Methods) (Int.toNat v13) 0),(45,iA v13),(44,.isl 10 (List.map rApiMethod v12.1.Methods)),(43,.mpt 1 0 5),(42,sA v11)] 1 (by kernel_rfl) (by kernel_rfl) j0 (by kernel_rfl) (dtS ⟨(fun _=>pa j0 j0 j0 j0 (asg j0<|j4)),(fun _=>pa j0 j0 j0 j0 (ldI ti62 j0 (idx_some q18).2.2 j0<|j4)),(fun _=>pa j0 j0 j0 j0 (ixI ti40 j0 ti62 j0 j0 j0 q18<|j4)),(fun _=>pa j0 j0 j0 j0 (mv j0<|j4)),(fun _=>pa j0 j0 j0 j0 (ld ti40 j0 j0<|j4)),(fun _=>pa j0 j0 j0 j0 (fa ti42 j0 j0 j0<|j4)),(fun _=>pa j0 j0 j0 j0 (mv j0<|j4)),j5⟩ (by kernel_rfl) j0 ⟨(fun _ _=>⟨_,j0,j0,sto ti62 j0 j0 j0<|⟨.any,[8],[(10,bA true)],j0,j0,by kernel_rfl,j5,dt0 ⟨(fun _=>pa j0 j0 j0 j0 (asg j0<|j4)),(fun h=>by cases h),(fun h=>by cases h),(fun h=>by cases h),(fun h=>by cases h),(fun h=>by cases h),(fun h=>by cases h),(fun h=>by cases h),j5⟩ (by kernel_rfl) j0 ⟨[.old 0],ce j0 j0<|cv j0 (.mpt j0)<|ce j0 j0<|cn,j0,⟨⟨_,j0,rsOne ⟨ci j0,ci j0,ci j0,ci j0,ci j0,ci j0,ci j0,ci j0,ci j0,ci j0,j5⟩⟩,j5⟩,j0,j1⟩⟩⟩),j5⟩) ?_
    refine sw_ret ?_
    obtain rfl:=sm h
    exact ⟨_,j0,_,j0,[],rsTup ⟨(ci j0),(ci j0),(ci j0),j5⟩,j0,j5,j0,j1⟩
   ·
    replace h:=bF hc17 h
    refine sw_skip ?_
    refine rl j0<|u<|add ti3 j0 j0<|u<|mv j0<|r_nil ?_
    obtain rfl:=sm h
    exact ⟨_,j0,[.old 0],ce j0 j0<|ce j0 j0<|ce j0 j0<|cv j0 (.mpt j0)<|ce j0 j0<|ce j0 j0<|ce j0 j0<|cn,j0,⟨⟨_,j0,rsOne ⟨ci j0,ci j0,ci j0,ci j0,ci j0,ci j0,ci j0,ci j0,ci j0,ci j0,j5⟩⟩,j5⟩,j0,j1⟩
  ·
   replace h:=bF hc10 h
   refine sw_exit ?_
   obtain rfl:=sm h
   exact ⟨j0,_,j0,[.old 0],cv j0 (.mpt j0)<|cn,j0,⟨⟨_,j0,rsOne ⟨ci j0,ci j0,ci j0,ci j0,ci j0,ci j0,ci j0,ci j0,ci j0,ci j0,j5⟩⟩,j5⟩,j0,j1⟩
 ·
  rintro ⟨⟩ rfl
  replace h : link_find_s3_k2 = some r:=h
  unfold link_find_s3_k2 at h
  refine ow_intro ?_
  refine rg j0<|u<|bd ti62 j0 j0 j0<|u<|asg j0<|u<|sto ti62 j0 j0 j0<|u<|asg j0<|r_nil ?_
  refine sw_ret ?_
  obtain rfl:=sm h
  exact ⟨_,j0,[],rsTup ⟨(ci j0),(rsAgg ⟨(ci j0),(.nil),(ci j0),(ci j0),(ci j0),(ci j0),(ci j0),(.nil),(.nil),(.nil),j5⟩),(ci j0),j5⟩,j0,j5,j0,j1⟩
 ·
  rintro r' rfl env st hp
  obtain rfl:=sm h
  exact hp
def link_find_s4_k2 : Option ((List UInt8) × ApiMethod × Bool) :=
  some ([],(ApiMethod.mk [] [] [] false false 0 0 [] [] []),false)
def link_find_s4_l1 (v1 : List ApiClass) (v2 : List (List UInt8 × Int)) (v3 : List (List UInt8)) (v4 : List UInt8) (v12 : Int) : Option (Sum (Int) (Sum (Unit) ((List UInt8) × ApiMethod × Bool))) :=
  cond (decide (v12 < (List.length v3 : Int))) ((idx v3 v12).bind fun v13=>(hier_Hier_Class_s3 v1 v2 v13).bind fun v14=>(class_Method v14.1 v4).bind fun v15=>(cond (decide (0 ≤ v15)) ((idx v14.1.Methods v15).bind fun v16=>some (link_Method_1 v16)) (some false)).bind fun v17=>cond v17 ((idx v14.1.Methods v15).bind fun v18=>some (.inr (.inr (v13,v18,true)))) (some (.inl (IntKind.i64.wrap (v12 + 1))))) (some (.inr (.inl ())))
def link_find_s4 (v1 : List ApiClass) (v2 : List (List UInt8 × Int)) (v3 : List (List UInt8)) (v4 : List UInt8) : Option ((List UInt8) × ApiMethod × Bool) :=
  (loopP (fun z=>link_find_s4_l1 v1 v2 v3 v4 z) 0).bind fun o=>leave o (fun b=>link_find_s4_k2) some
theorem link_find_s4_ok (v1 : List ApiClass) (v2 : List (List UInt8 × Int)) (v3 : List (List UInt8)) (v4 : List UInt8) {r : (List UInt8) × ApiMethod × Bool} (h : link_find_s4 v1 v2 v3 v4 = some r) : PureC Tryz.prog 82 [.ipt 2 [[.isl 6 (List.map rApiClass v1),.imp (List.map (rKV (fun x=>iA x)) v2)]] 0 0,.isl 1 (List.map rStr v3),sA v4,.fn (.func 84) [] []] (.tup [sA r.1,.agg [sA r.2.1.Name,.isl 1 (List.map rStr r.2.1.Params),sA r.2.1.Ret,bA r.2.1.Static,bA r.2.1.Abstract,iA r.2.1.Locals,iA r.2.1.Stack,.isl 4 (List.map rApiIns r.2.1.Code),.isl 3 (List.map rApiMap r.2.1.Maps),.isl 4 (List.map rApiTrap r.2.1.Traps)],bA r.2.2]):=by
 refine pure_fn Tryz.func82 j0 (by kernel_rfl) j0 j0 ?_
 unfold link_find_s4 at h
 refine rg j0<|u<|asg j0<|u<|al 0 ti62 j0<|u<|asg j0<|r_nil ?_
 refine sw_seq ?_
 refine rg j0<|u<|mv j0<|u<|lnI ti32 j0 j0<|u<|mv j0<|r_nil ?_
 obtain ⟨o,ho,h⟩:=bs h
 refine sw_lpl (X:=Int) (B:=Unit) (R:=(List UInt8) × ApiMethod × Bool) (fun z=>[(0,.ipt 2 [[.isl 6 (List.map rApiClass v1),.imp (List.map (rKV (fun x=>iA x)) v2)]] 0 0),(2,sA v4),(3,.fn (.func 84) [] []),(9,.mpt 0 0 0),(16,.isl 1 (List.map rStr v3)),(17,iA (List.length v3 : Int)),(18,iA z)]) (fun z=>[some (10,[[sA [],.lit (.slice none 0 0),sA [],bA false,bA false,iA 0,iA 0,.lit (.slice none 0 0),.lit (.slice none 0 0),.lit (.slice none 0 0)]])]) (fun b=>[(9,.mpt 0 0 0)]) (fun b=>[some (10,[[sA [],.lit (.slice none 0 0),sA [],bA false,bA false,iA 0,iA 0,.lit (.slice none 0 0),.lit (.slice none 0 0),.lit (.slice none 0 0)]])]) (fun r env st=>PostF Tryz.prog Tryz.f82 0 (.tup [sA r.1,.agg [sA r.2.1.Name,.isl 1 (List.map rStr r.2.1.Params),sA r.2.1.Ret,bA r.2.1.Static,bA r.2.1.Abstract,iA r.2.1.Locals,iA r.2.1.Stack,.isl 4 (List.map rApiIns r.2.1.Code),.isl 3 (List.map rApiMap r.2.1.Maps),.isl 4 (List.map rApiTrap r.2.1.Traps)],bA r.2.2]) [] env st) ho ⟨[.old 0],ce j0 j0<|ce j0 j0<|ce j0 j0<|cv j0 (.mpt j0)<|ce j0 j0<|ce j0 j0<|ce j0 j0<|cn,j0,⟨⟨_,j0,rsOne ⟨ci j0,ci j0,ci j0,ci j0,ci j0,ci j0,ci j0,ci j0,ci j0,ci j0,j5⟩⟩,j5⟩,j0,j1⟩ ?_ ?_ ?_
 ·
  rintro v12 r h
  replace h : link_find_s4_l1 v1 v2 v3 v4 v12 = some r:=h
  unfold link_find_s4_l1 at h
  refine rg j0<|u<|lss ti3 j0 j0<|r_nil ?_
  refine sw_seq ?_
  refine sw_cond j0 (fun hc10=>?_) (fun hc10=>?_)
  ·
   replace h:=bT hc10 h
   refine sw_skip ?_
   refine sw_seq ?_
   refine sw_block ?_
   obtain ⟨v13,q11,h⟩:=bs h
   refine rg j0<|u<|ixI ti32 j0 ti9 j0 j0 j0 q11<|u<|ldI ti9 j0 (idx_some q11).2.2 j0<|u<|asg j0<|r_nil ?_
   obtain ⟨v14,q12,h⟩:=bs h
   refine rg j0<|u<|mv j0<|u<|mv j0<|u<|pc (hier_Hier_Class_s3_ok v1 v2 v13 q12) j0 j0 j0<|u<|mv j0<|u<|ex j0 j0<|u<|ex j0 j0<|u<|al 1 ti42 j0<|u<|sto ti42 j0 j0 j0<|u<|asg j0<|r_nil ?_
   obtain ⟨v15,q13,h⟩:=bs h
   refine rg j0<|u<|ld ti42 j0 j0<|u<|mv j0<|u<|pc (class_Method_ok v14.1 v4 q13) j0 j0 j0<|u<|asg j0<|r_nil ?_
   obtain ⟨v17,q16,h⟩:=bs h
   refine rg j0<|u<|mv j0<|u<|geq ti3 j0 j0<|u<|mv j0<|r_and (x:=v17) (j:=2) 7 j0 j0 j0 j0 j0 gpn (fun hb14=>by replace q16:=bT hb14 q16; obtain ⟨v16,q15,q16⟩:=bs q16; obtain rfl:=sm q16; exact g j0 hb14<|mv j0<|g j0 hb14<|fa ti42 j0 j0 j0<|g j0 hb14<|ld ti40 j0 j0<|g j0 hb14<|mv j0<|g j0 hb14<|ixI ti40 j0 ti62 j0 j0 j0 q15<|g j0 hb14<|ldI ti62 j0 (idx_some q15).2.2 j0<|g j0 hb14<|pc (link_Method_1_ok v16 j0) j0 j0 j0<|r_nil (eg [34,35,36,37,38,39,40] 7 j0 j0 j0 j0)) (fun hb=>(sm (bF hb q16)).symm)<|r_nil ?_
   refine sw_cond j0 (fun hc17=>?_) (fun hc17=>?_)
   ·
    replace h:=bT hc17 h
    obtain ⟨v18,q18,h⟩:=bs h
    refine rd [(8,sA v13),(9,.mpt 0 0 0),(10,bA true)] [some (10,[[sA v18.Name,.isl 1 (List.map rStr v18.Params),sA v18.Ret,bA v18.Static,bA v18.Abstract,iA v18.Locals,iA v18.Stack,.isl 4 (List.map rApiIns v18.Code),.isl 3 (List.map rApiMap v18.Maps),.isl 4 (List.map rApiTrap v18.Traps)]])] [7] [6,5,4,3,2,1,0] [(8,sA v13),(47,.agg [sA v18.Name,.isl 1 (List.map rStr v18.Params),sA v18.Ret,bA v18.Static,bA v18.Abstract,iA v18.Locals,iA v18.Stack,.isl 4 (List.map rApiIns v18.Code),.isl 3 (List.map rApiMap v18.Maps),.isl 4 (List.map rApiTrap v18.Traps)]),(46,.ipt 10 (List.map rApiMethod v14.1.Methods) (Int.toNat v15) 0),(45,iA v15),(44,.isl 10 (List.map rApiMethod v14.1.Methods)),(43,.mpt 1 0 5),(42,sA v13)] 1 (by kernel_rfl) (by kernel_rfl) j0 (by kernel_rfl) (dtS ⟨(fun _=>pa j0 j0 j0 j0 (asg j0<|j4)),(fun _=>pa j0 j0 j0 j0 (ldI ti62 j0 (idx_some q18).2.2 j0<|j4)),(fun _=>pa j0 j0 j0 j0 (ixI ti40 j0 ti62 j0 j0 j0 q18<|j4)),(fun _=>pa j0 j0 j0 j0 (mv j0<|j4)),(fun _=>pa j0 j0 j0 j0 (ld ti40 j0 j0<|j4)),(fun _=>pa j0 j0 j0 j0 (fa ti42 j0 j0 j0<|j4)),(fun _=>pa j0 j0 j0 j0 (mv j0<|j4)),j5⟩ (by kernel_rfl) j0 ⟨(fun _ _=>⟨_,j0,j0,sto ti62 j0 j0 j0<|⟨.any,[8],[(10,bA true)],j0,j0,by kernel_rfl,j5,dt0 ⟨(fun _=>pa j0 j0 j0 j0 (asg j0<|j4)),(fun h=>by cases h),(fun h=>by cases h),(fun h=>by cases h),(fun h=>by cases h),(fun h=>by cases h),(fun h=>by cases h),(fun h=>by cases h),j5⟩ (by kernel_rfl) j0 ⟨[.old 0],ce j0 j0<|cv j0 (.mpt j0)<|ce j0 j0<|cn,j0,⟨⟨_,j0,rsOne ⟨ci j0,ci j0,ci j0,ci j0,ci j0,ci j0,ci j0,ci j0,ci j0,ci j0,j5⟩⟩,j5⟩,j0,j1⟩⟩⟩),j5⟩) ?_
    refine sw_ret ?_
    obtain rfl:=sm h
    exact ⟨_,j0,_,j0,[],rsTup ⟨(ci j0),(ci j0),(ci j0),j5⟩,j0,j5,j0,j1⟩
   ·
    replace h:=bF hc17 h
    refine sw_skip ?_
    refine rl j0<|u<|add ti3 j0 j0<|u<|mv j0<|r_nil ?_
    obtain rfl:=sm h
    exact ⟨_,j0,[.old 0],ce j0 j0<|ce j0 j0<|ce j0 j0<|cv j0 (.mpt j0)<|ce j0 j0<|ce j0 j0<|ce j0 j0<|cn,j0,⟨⟨_,j0,rsOne ⟨ci j0,ci j0,ci j0,ci j0,ci j0,ci j0,ci j0,ci j0,ci j0,ci j0,j5⟩⟩,j5⟩,j0,j1⟩
  ·
   replace h:=bF hc10 h
   refine sw_exit ?_
   obtain rfl:=sm h
   exact ⟨j0,_,j0,[.old 0],cv j0 (.mpt j0)<|cn,j0,⟨⟨_,j0,rsOne ⟨ci j0,ci j0,ci j0,ci j0,ci j0,ci j0,ci j0,ci j0,ci j0,ci j0,j5⟩⟩,j5⟩,j0,j1⟩
 ·
  rintro ⟨⟩ rfl
  replace h : link_find_s4_k2 = some r:=h
  unfold link_find_s4_k2 at h
  refine ow_intro ?_
  refine rg j0<|u<|bd ti62 j0 j0 j0<|u<|asg j0<|u<|sto ti62 j0 j0 j0<|u<|asg j0<|r_nil ?_
  refine sw_ret ?_
  obtain rfl:=sm h
  exact ⟨_,j0,[],rsTup ⟨(ci j0),(rsAgg ⟨(ci j0),(.nil),(ci j0),(ci j0),(ci j0),(ci j0),(ci j0),(.nil),(.nil),(.nil),j5⟩),(ci j0),j5⟩,j0,j5,j0,j1⟩
 ·
  rintro r' rfl env st hp
  obtain rfl:=sm h
  exact hp
def link_Method (v1 : Option HierHier) (v2 : List UInt8) (v3 : List UInt8) : Option ((List UInt8) × ApiMethod × Bool) :=
  optE v1 ((hier_Hier_Supers v2).bind fun v5=>(link_find_s3 v5 v3).bind fun v6=>some (v6.1,v6.2.1,v6.2.2)) (fun v4=>(hier_Hier_Supers_s2 v4.l v4.at_ v2).bind fun v7=>(link_find_s4 v4.l v4.at_ v7 v3).bind fun v8=>some (v8.1,v8.2.1,v8.2.2))
theorem link_Method_ok (v1 : Option HierHier) (v2 : List UInt8) (v3 : List UInt8) {r : (List UInt8) × ApiMethod × Bool} (h : link_Method v1 v2 v3 = some r) : PureC Tryz.prog 42 [optP 2 rHierHier v1,sA v2,sA v3] (.tup [sA r.1,.agg [sA r.2.1.Name,.isl 1 (List.map rStr r.2.1.Params),sA r.2.1.Ret,bA r.2.1.Static,bA r.2.1.Abstract,iA r.2.1.Locals,iA r.2.1.Stack,.isl 4 (List.map rApiIns r.2.1.Code),.isl 3 (List.map rApiMap r.2.1.Maps),.isl 4 (List.map rApiTrap r.2.1.Traps)],bA r.2.2]):=by
 refine pure_fn Tryz.func42 j0 (by kernel_rfl) j0 j0 ?_
 unfold link_Method at h
 rcases v1 with _ | v4
 ·
  replace h:=oeN h
  refine rg j0<|u<|asg j0<|u<|al 0 ti62 j0<|u<|asg j0<|r_nil ?_
  obtain ⟨v5,q1,h⟩:=bs h
  obtain ⟨v6,q2,h⟩:=bs h
  refine rg j0<|u<|mv j0<|u<|mv j0<|u<|mv j0<|u<|pc (hier_Hier_Supers_ok v2 q1) j0 j0 j0<|u<|mv j0<|u<|pc (link_find_s3_ok v5 v3 q2) j0 j0 j0<|u<|ex j0 j0<|u<|ex j0 j0<|u<|ex j0 j0<|u<|asg j0<|u<|sto ti62 j0 j0 j0<|u<|asg j0<|r_nil ?_
  refine sw_ret ?_
  obtain rfl:=sm h
  exact ⟨_,j0,[],rsTup ⟨(ci j0),(ci j0),(ci j0),j5⟩,j0,j5,j0,j1⟩
 ·
  replace h:=oeS h
  refine rg j0<|u<|asg j0<|u<|al 0 ti62 j0<|u<|asg j0<|r_nil ?_
  obtain ⟨v7,q3,h⟩:=bs h
  obtain ⟨v8,q4,h⟩:=bs h
  refine rg j0<|u<|mv j0<|u<|mv j0<|u<|mv j0<|u<|sc [] (hier_Hier_Supers_s2_ok v4.l v4.at_ v2 q3) j0 j0 j0 j0 ⟨(rnI j0),(rnI j0),j5⟩ j5<|r_can (env0:=[(2,sA v3),(7,.mpt 0 0 0),(9,.ipt 2 [[.isl 6 (List.map rApiClass v4.l),.imp (List.map (rKV (fun x=>iA x)) v4.at_)]] 0 0),(12,.msl 1 0 (List.length v7))]) (st0:=[some (10,[[sA [],.lit (.slice none 0 0),sA [],bA false,bA false,iA 0,iA 0,.lit (.slice none 0 0),.lit (.slice none 0 0),.lit (.slice none 0 0)]]),some (1,List.map rStr v7)]) ⟨[.old 0,.old 1],ce j0 j0<|cv j0 (.mpt j0)<|ce j0 j0<|cv j0 (.msl j0)<|cn,j0,⟨⟨_,j0,rsOne ⟨ci j0,ci j0,ci j0,ci j0,ci j0,ci j0,ci j0,ci j0,ci j0,ci j0,j5⟩⟩,⟨_,j0,rsMap (fun _=>j0)⟩,j5⟩,j0,j1⟩<|u<|mv j0<|r_can (env0:=[(7,.mpt 0 0 0),(9,.ipt 2 [[.isl 6 (List.map rApiClass v4.l),.imp (List.map (rKV (fun x=>iA x)) v4.at_)]] 0 0),(12,.isl 1 (List.map rStr v7)),(13,sA v3)]) (st0:=[some (10,[[sA [],.lit (.slice none 0 0),sA [],bA false,bA false,iA 0,iA 0,.lit (.slice none 0 0),.lit (.slice none 0 0),.lit (.slice none 0 0)]])]) ⟨[.old 0],cv j0 (.mpt j0)<|ce j0 j0<|cv j0 (rsSeal j0 j0 (fun _=>j0))<|ce j0 j0<|cn,j0,⟨⟨_,j0,rsOne ⟨ci j0,ci j0,ci j0,ci j0,ci j0,ci j0,ci j0,ci j0,ci j0,ci j0,j5⟩⟩,j5⟩,j0,j1⟩<|u<|pc (link_find_s4_ok v4.l v4.at_ v7 v3 q4) j0 j0 j0<|u<|ex j0 j0<|u<|ex j0 j0<|u<|ex j0 j0<|u<|asg j0<|u<|sto ti62 j0 j0 j0<|u<|asg j0<|r_nil ?_
  refine sw_ret ?_
  obtain rfl:=sm h
  exact ⟨_,j0,[],rsTup ⟨(ci j0),(ci j0),(ci j0),j5⟩,j0,j5,j0,j1⟩
def law8_LinkDeep_k5 (v3 : Int) (v22 : List ApiClass) (v23 : List UInt8) : Option (Bool) :=
  (hier_New v22).bind fun v24=>cond (!(v24.2 == (0 : Int))) (some false) ((idx v22 v3).bind fun v25=>(link_Chosen v24.1 v25.Name [102]).bind fun v26=>(idx v22 v3).bind fun v27=>(link_Method v24.1 v27.Name [102]).bind fun v28=>some ((((v26.1 == v23) && (v28.1 == v23)) && (v26.2 == (!(v23 == [])))) && (v28.2.2 == v26.2)))
def law8_LinkDeep_j3 (v12 : List ApiClass) (v14 : Int) (v16 : List UInt8) (v19 : List UInt8) (v20 : List ApiMethod) : Option (Sum ((List ApiClass) × (List UInt8) × Int) (Sum ((List ApiClass) × (List UInt8)) (Bool))) :=
  (appP 112 v12 ([(ApiClass.mk [(67 : UInt8),(tU8 (IntKind.i64.wrap (97 + v14)))] v16 false [] [] v20)])).bind fun v21=>some (.inl (v21,v19,(IntKind.i64.wrap (v14 + 1))))
def law8_LinkDeep_j2 (v2 : List Bool) (v3 : Int) (v12 : List ApiClass) (v13 : List UInt8) (v14 : Int) (v16 : List UInt8) : Option (Sum ((List ApiClass) × (List UInt8) × Int) (Sum ((List ApiClass) × (List UInt8)) (Bool))) :=
  (cond (decide (v14 < (List.length v2 : Int))) ((idx v2 v14).bind fun v17=>some v17) (some false)).bind fun v18=>cond v18 (cond (decide (v14 ≤ v3)) (law8_LinkDeep_j3 v12 v14 v16 [(67 : UInt8),(tU8 (IntKind.i64.wrap (97 + v14)))] ([(ApiMethod.mk [102] [] [86] false false 1 0 ([(ApiIns.mk 46 0 [] [])]) [] [])])) (law8_LinkDeep_j3 v12 v14 v16 v13 ([(ApiMethod.mk [102] [] [86] false false 1 0 ([(ApiIns.mk 46 0 [] [])]) [] [])]))) (law8_LinkDeep_j3 v12 v14 v16 v13 [])
def law8_LinkDeep_l4 (v1 : Int) (v2 : List Bool) (v3 : Int) (v12 : List ApiClass) (v13 : List UInt8) (v14 : Int) : Option (Sum ((List ApiClass) × (List UInt8) × Int) (Sum ((List ApiClass) × (List UInt8)) (Bool))) :=
  cond (decide (v14 < v1)) (cond (decide (0 < v14)) ((idx v12 (IntKind.i64.wrap (v14 - 1))).bind fun v15=>law8_LinkDeep_j2 v2 v3 v12 v13 v14 v15.Name) (law8_LinkDeep_j2 v2 v3 v12 v13 v14 [79,98,106,101,99,116])) (some (.inr (.inl (v12,v13))))
def law8_LinkDeep (v1 : Int) (v2 : List Bool) (v3 : Int) : Option (Bool) :=
  cond (!true) (some false) (cond ((((decide (v1 < 1)) || (decide (15 < v1))) || (decide (v3 < 0))) || (decide (v1 ≤ v3))) (some true) ((loopP (fun z=>law8_LinkDeep_l4 v1 v2 v3 z.1 z.2.1 z.2.2) ([],[],0)).bind fun o=>leave o (fun b=>law8_LinkDeep_k5 v3 b.1 b.2) some))
theorem law8_LinkDeep_ok (v1 : Int) (v2 : List Bool) (v3 : Int) {r : Bool} (h : law8_LinkDeep v1 v2 v3 = some r) : PureC Tryz.prog 11 [iA v1,.isl 1 (List.map rB v2),iA v3] (bA r):=by
 refine pure_fn Tryz.func11 j0 (by kernel_rfl) j0 j0 ?_
 unfold law8_LinkDeep at h
 refine rg j0<|u<|asg j0<|r_nil ?_
 refine rg j0<|u<|pc (law8_begun_ok j0) j0 j0 j0<|u<|asg j0<|r_nil ?_
 refine sw_seq ?_
 refine rg j0<|u<|mv j0<|u<|nt j0<|r_nil ?_
 refine sw_cond j0 (fun hc1=>?_) (fun hc1=>?_)
 ·
  replace h:=bT hc1 h
  refine rg j0<|u<|asg j0<|r_nil ?_
  refine sw_ret ?_
  obtain rfl:=sm h
  exact ⟨_,j0,[],ci j0,j0,j5,j0,j1⟩
 ·
  replace h:=bF hc1 h
  refine sw_skip ?_
  refine sw_seq ?_
  refine rg j0<|u<|mv j0<|u<|lss ti3 j0 j0<|u<|mv j0<|r_or (j:=2) 2 j0 j0 j0 j0 j0 gpn (fun hb2=>g j0 hb2<|mv j0<|g j0 hb2<|gtr ti3 j0 j0<|r_nil (egO [25,26] 2 hb2 j0 j0 j0 j0)) orT<|u<|mv j0<|r_or (j:=6) 2 j0 j0 j0 j0 j0 gpn (fun hb3=>g j0 hb3<|mv j0<|g j0 hb3<|lss ti3 j0 j0<|r_nil (egO [29,30] 2 hb3 j0 j0 j0 j0)) orT<|u<|mv j0<|r_or (j:=10) 3 j0 j0 j0 j0 j0 gpn (fun hb4=>g j0 hb4<|mv j0<|g j0 hb4<|mv j0<|g j0 hb4<|geq ti3 j0 j0<|r_nil (egO [33,34,35] 3 hb4 j0 j0 j0 j0)) orT<|r_nil ?_
  refine sw_cond j0 (fun hc5=>?_) (fun hc5=>?_)
  ·
   replace h:=bT hc5 h
   refine rg j0<|u<|asg j0<|r_nil ?_
   refine sw_ret ?_
   obtain rfl:=sm h
   exact ⟨_,j0,[],ci j0,j0,j5,j0,j1⟩
  ·
   replace h:=bF hc5 h
   refine sw_skip ?_
   refine rg j0<|u<|asg j0<|r_nil ?_
   refine rg j0<|u<|asg j0<|r_nil ?_
   refine sw_seq ?_
   refine rg j0<|u<|asg j0<|r_nil ?_
   obtain ⟨o,ho,h⟩:=bs h
   refine sw_lpl (X:=(List ApiClass) × (List UInt8) × Int) (B:=(List ApiClass) × (List UInt8)) (R:=Bool) (fun z=>[(0,iA v1),(1,.isl 1 (List.map rB v2)),(2,iA v3),(8,.msl 0 0 (List.length z.1)),(9,sA z.2.1),(10,iA z.2.2)]) (fun z=>[some (6,List.map rApiClass z.1)]) (fun b=>[(2,iA v3),(8,.msl 0 0 (List.length b.1)),(9,sA b.2)]) (fun b=>[some (6,List.map rApiClass b.1)]) (fun r env st=>PostF Tryz.prog Tryz.f11 0 (bA r) [] env st) ho ⟨[.fresh 6],ce j0 j0<|ce j0 j0<|ce j0 j0<|cv j0 (.nilown j0)<|ce j0 j0<|ce j0 j0<|cn,j0,⟨j4,j5⟩,j0,j1⟩ ?_ ?_ ?_
   ·
    rintro ⟨v12,v13,v14⟩ r h
    replace h : law8_LinkDeep_l4 v1 v2 v3 v12 v13 v14 = some r:=h
    unfold law8_LinkDeep_l4 at h
    refine sw_seq ?_
    refine rg j0<|u<|mv j0<|u<|mv j0<|u<|lss ti3 j0 j0<|r_nil ?_
    refine sw_cond j0 (fun hc15=>?_) (fun hc15=>?_)
    ·
     replace h:=bT hc15 h
     refine sw_skip ?_
     refine sw_seq ?_
     refine sw_block ?_
     refine rg j0<|u<|mv j0<|u<|add ti3 j0 j0<|u<|cv8 ti3 ti5 j0 j0 j0<|u<|bl 1 ti38 j0 ti5 j0 (by decide) (by decide) j0 j0 j0<|u<|cvt (l:=[(67 : UInt8),(tU8 (IntKind.i64.wrap (97 + v14)))]) ti38 ti9 j0 j0 ti5 j0 j0 (fun _ h=>by cases h) (roX (f:=byteRow) (z:=[(67 : UInt8),(tU8 (IntKind.i64.wrap (97 + v14)))]) j0 j0)<|u<|bd ti42 j0 j0 j0<|u<|al 2 ti42 j0<|u<|sto ti42 j0 j0 j0<|r_nil ?_
     refine sw_meet (X:=(List UInt8)) (fun z=>[(0,iA v1),(1,.isl 1 (List.map rB v2)),(2,iA v3),(8,.msl 0 0 (List.length v12)),(9,sA v13),(10,iA v14),(11,.mpt 1 0 0)]) (fun z=>[some (6,List.map rApiClass v12),some (6,[[sA [(67 : UInt8),(tU8 (IntKind.i64.wrap (97 + v14)))],sA z,bA false,.lit (.slice none 0 0),.lit (.slice none 0 0),.lit (.slice none 0 0)]])]) (fun z=>law8_LinkDeep_j2 v2 v3 v12 v13 v14 z = some r) ?_ ?_
     ·
      refine rg j0<|u<|mv j0<|u<|gtr ti3 j0 j0<|r_nil ?_
      refine sw_cond j0 (fun hc16=>?_) (fun hc16=>?_)
      ·
       replace h:=bT hc16 h
       obtain ⟨v15,q17,h⟩:=bs h
       exact rl j0<|u<|mv j0<|u<|mv j0<|u<|sub ti3 j0 j0<|u<|ixM ti22 j0 ti42 j0 j0 j0 j0 q17<|u<|fa ti42 j0 j0 j0<|u<|ldM ti9 j0 j0 (idx_some q17).2.2 j0<|u<|fa ti42 j0 j0 j0<|u<|sto ti9 j0 j0 j0<|r_nil (⟨v15.Name,h,[.old 0,.old 2],ce j0 j0<|ce j0 j0<|ce j0 j0<|cv j0 (.msl j0)<|ce j0 j0<|ce j0 j0<|cv j0 (.mpt j0)<|cn,j0,⟨⟨_,j0,rsMap (fun _=>j0)⟩,⟨_,j0,rsOne ⟨ci j0,ci j0,ci j0,ci j0,ci j0,ci j0,j5⟩⟩,j5⟩,j0,j1⟩)
      ·
       replace h:=bF hc16 h
       refine sw_skip ?_
       exact ⟨[79,98,106,101,99,116],h,[.old 0,.old 2],ce j0 j0<|ce j0 j0<|ce j0 j0<|cv j0 (.msl j0)<|ce j0 j0<|ce j0 j0<|cv j0 (.mpt j0)<|cn,j0,⟨⟨_,j0,rsMap (fun _=>j0)⟩,⟨_,j0,rsOne ⟨ci j0,ci j0,ci j0,ci j0,ci j0,ci j0,j5⟩⟩,j5⟩,j0,j1⟩
     ·
      rintro v16 h
      replace h : law8_LinkDeep_j2 v2 v3 v12 v13 v14 v16 = some r:=h
      unfold law8_LinkDeep_j2 at h
      refine sw_meet (X:=(List UInt8) × (List ApiMethod)) (fun z=>[(0,iA v1),(1,.isl 1 (List.map rB v2)),(2,iA v3),(8,.msl 0 0 (List.length v12)),(9,sA z.1),(10,iA v14),(11,.mpt 1 0 0)]) (fun z=>[some (6,List.map rApiClass v12),some (6,[[sA [(67 : UInt8),(tU8 (IntKind.i64.wrap (97 + v14)))],sA v16,bA false,.lit (.slice none 0 0),.lit (.slice none 0 0),.msl 2 0 (List.length z.2)]]),some (10,List.map rApiMethod z.2)]) (fun z=>law8_LinkDeep_j3 v12 v14 v16 z.1 z.2 = some r) ?_ ?_
      ·
       obtain ⟨v18,q20,h⟩:=bs h
       refine rg j0<|u<|mv j0<|u<|mv j0<|u<|lnI ti64 j0 j0<|u<|lss ti3 j0 j0<|u<|mv j0<|r_and (x:=v18) (j:=4) 4 j0 j0 j0 j0 j0 gpn (fun hb18=>by replace q20:=bT hb18 q20; obtain ⟨v17,q19,q20⟩:=bs q20; obtain rfl:=sm q20; exact g j0 hb18<|mv j0<|g j0 hb18<|mv j0<|g j0 hb18<|ixI ti64 j0 ti4 j0 j0 j0 q19<|g j0 hb18<|ldI ti4 j0 (idx_some q19).2.2 j0<|r_nil (eg [62,63,64,65] 4 j0 j0 j0 j0)) (fun hb=>(sm (bF hb q20)).symm)<|r_nil ?_
       refine sw_cond j0 (fun hc21=>?_) (fun hc21=>?_)
       ·
        replace h:=bT hc21 h
        refine rg j0<|u<|bd ti66 j0 j0 j0<|u<|bl 2 ti58 j0 ti66 j0 (by decide) (by decide) j0 j0 j0<|u<|bd ti62 j0 j0 j0<|u<|bl 3 ti40 j0 ti62 j0 (by decide) (by decide) j0 j0 j0<|u<|fa ti42 j0 j0 j0<|u<|sto ti40 j0 j0 j0<|r_nil ?_
        refine rg j0<|u<|mv j0<|u<|mv j0<|u<|leq ti3 j0 j0<|r_nil ?_
        refine sw_cond j0 (fun hc22=>?_) (fun hc22=>?_)
        ·
         replace h:=bT hc22 h
         exact rl j0<|u<|fa ti42 j0 j0 j0<|u<|ld ti9 j0 j0<|u<|asg j0<|r_nil (⟨⟨[(67 : UInt8),(tU8 (IntKind.i64.wrap (97 + v14)))],[(ApiMethod.mk [102] [] [86] false false 1 0 ([(ApiIns.mk 46 0 [] [])]) [] [])]⟩,h,[.old 0,.old 1,.old 3],ce j0 j0<|ce j0 j0<|ce j0 j0<|cv j0 (.msl j0)<|ce j0 j0<|ce j0 j0<|cv j0 (.mpt j0)<|cn,j0,⟨⟨_,j0,rsMap (fun _=>j0)⟩,⟨_,j0,rsOne ⟨ci j0,ci j0,ci j0,ci j0,ci j0,.msl j0,j5⟩⟩,⟨_,j0,rsRows ⟨⟨(ci j0),(.nil),(ci j0),(ci j0),(ci j0),(ci j0),(ci j0),(rsSealX j0 j0 ⟨⟨⟨ci j0,ci j0,ci j0,ci j0,j5⟩,j0⟩,j5⟩),(.nil),(.nil),j5⟩,j5⟩⟩,j5⟩,j0,j1⟩)
        ·
         replace h:=bF hc22 h
         refine sw_skip ?_
         exact ⟨⟨v13,[(ApiMethod.mk [102] [] [86] false false 1 0 ([(ApiIns.mk 46 0 [] [])]) [] [])]⟩,h,[.old 0,.old 1,.old 3],ce j0 j0<|ce j0 j0<|ce j0 j0<|cv j0 (.msl j0)<|ce j0 j0<|ce j0 j0<|cv j0 (.mpt j0)<|cn,j0,⟨⟨_,j0,rsMap (fun _=>j0)⟩,⟨_,j0,rsOne ⟨ci j0,ci j0,ci j0,ci j0,ci j0,.msl j0,j5⟩⟩,⟨_,j0,rsRows ⟨⟨(ci j0),(.nil),(ci j0),(ci j0),(ci j0),(ci j0),(ci j0),(rsSealX j0 j0 ⟨⟨⟨ci j0,ci j0,ci j0,ci j0,j5⟩,j0⟩,j5⟩),(.nil),(.nil),j5⟩,j5⟩⟩,j5⟩,j0,j1⟩
       ·
        replace h:=bF hc21 h
        refine sw_skip ?_
        exact ⟨⟨v13,[]⟩,h,[.old 0,.old 1,.fresh 10],ce j0 j0<|ce j0 j0<|ce j0 j0<|cv j0 (.msl j0)<|ce j0 j0<|ce j0 j0<|cv j0 (.mpt j0)<|cn,j0,⟨⟨_,j0,rsMap (fun _=>j0)⟩,⟨_,j0,rsOne ⟨ci j0,ci j0,ci j0,ci j0,ci j0,.nilown j0,j5⟩⟩,j4,j5⟩,j0,j1⟩
      ·
       rintro ⟨v19,v20⟩ h
       replace h : law8_LinkDeep_j3 v12 v14 v16 v19 v20 = some r:=h
       unfold law8_LinkDeep_j3 at h
       obtain ⟨v21,q23,h⟩:=bs h
       refine rl j0<|u<|mv j0<|u<|ld ti42 j0 j0<|u<|bl 3 ti22 j0 ti42 j0 (by decide) (by decide) j0 j0 j0<|r_can (env0:=[(0,iA v1),(1,.isl 1 (List.map rB v2)),(2,iA v3),(9,sA v19),(10,iA v14),(77,.msl 0 0 (List.length v12)),(79,.msl 1 0 (List.length ([(ApiClass.mk [(67 : UInt8),(tU8 (IntKind.i64.wrap (97 + v14)))] v16 false [] [] v20)])))]) (st0:=[some (6,List.map rApiClass v12),some (6,List.map rApiClass ([(ApiClass.mk [(67 : UInt8),(tU8 (IntKind.i64.wrap (97 + v14)))] v16 false [] [] v20)]))]) ⟨[.old 0,.old 3],ce j0 j0<|ce j0 j0<|ce j0 j0<|ce j0 j0<|ce j0 j0<|cv j0 (.msl j0)<|cv j0 (.msl j0)<|cn,j0,⟨⟨_,j0,rsMap (fun _=>j0)⟩,⟨_,j0,rsRows ⟨⟨(ci j0),(ci j0),(ci j0),(.nil),(.nil),(rsSeal j0 j0 (fun _=>j0)),j5⟩,j5⟩⟩,j5⟩,j0,j1⟩<|u<|apM 2 ti22 j0 ti42 j0 j0 (by decide) ti22 j0 j0 j0 j0 (roM j0) (fun _=>j0) j0 q23<|u<|asg j0<|r_nil ?_
       refine rl j0<|u<|mv j0<|u<|add ti3 j0 j0<|u<|asg j0<|r_nil ?_
       obtain rfl:=sm h
       exact ⟨_,j0,[.old 2],ce j0 j0<|ce j0 j0<|ce j0 j0<|cv j0 (.msl j0)<|ce j0 j0<|ce j0 j0<|cn,j0,⟨⟨_,j0,rsMap (fun _=>j0)⟩,j5⟩,j0,j1⟩
    ·
     replace h:=bF hc15 h
     refine sw_exit ?_
     obtain rfl:=sm h
     exact ⟨j0,_,j0,[.old 0],ce j0 j0<|cv j0 (.msl j0)<|ce j0 j0<|cn,j0,⟨⟨_,j0,rsMap (fun _=>j0)⟩,j5⟩,j0,j1⟩
   ·
    rintro ⟨v22,v23⟩ rfl
    replace h : law8_LinkDeep_k5 v3 v22 v23 = some r:=h
    unfold law8_LinkDeep_k5 at h
    refine ow_intro ?_
    obtain ⟨v24,q24,h⟩:=bs h
    refine rg j0<|u<|mv j0<|r_can (env0:=[(2,iA v3),(8,.isl 6 (List.map rApiClass v22)),(9,sA v23),(82,.isl 6 (List.map rApiClass v22))]) (st0:=[]) ⟨[],ce j0 j0<|cv j0 (rsSeal j0 j0 (fun _=>j0))<|ce j0 j0<|cv j0 (rsSeal j0 j0 (fun _=>j0))<|cn,j0,j5,j0,j1⟩<|u<|pc (hier_New_ok v22 q24) j0 j0 j0<|u<|mv j0<|u<|ex j0 j0<|u<|ex j0 j0<|u<|asg j0<|u<|asg j0<|r_nil ?_
    refine sw_seq ?_
    refine rg j0<|u<|mv j0<|u<|neq ti26 j0 j0<|r_nil ?_
    refine sw_cond j0 (fun hc25=>?_) (fun hc25=>?_)
    ·
     replace h:=bT hc25 h
     refine rg j0<|u<|asg j0<|r_nil ?_
     refine sw_ret ?_
     obtain rfl:=sm h
     exact ⟨_,j0,[],ci j0,j0,j5,j0,j1⟩
    ·
     replace h:=bF hc25 h
     refine sw_skip ?_
     obtain ⟨v25,q26,h⟩:=bs h
     obtain ⟨v26,q27,h⟩:=bs h
     refine rg j0<|u<|mv j0<|u<|mv j0<|u<|mv j0<|u<|ixI ti22 j0 ti42 j0 j0 j0 q26<|u<|fa ti42 j0 j0 j0<|u<|ldI ti9 j0 (idx_some q26).2.2 j0<|u<|pc (link_Chosen_ok v24.1 v25.Name [102] q27) j0 j0 (immC (immP (fun _=>j0)) (j0))<|u<|mv j0<|u<|ex j0 j0<|u<|ex j0 j0<|u<|asg j0<|u<|asg j0<|r_nil ?_
     obtain ⟨v27,q28,h⟩:=bs h
     obtain ⟨v28,q29,h⟩:=bs h
     refine rg j0<|u<|mv j0<|u<|mv j0<|u<|mv j0<|u<|ixI ti22 j0 ti42 j0 j0 j0 q28<|u<|fa ti42 j0 j0 j0<|u<|ldI ti9 j0 (idx_some q28).2.2 j0<|u<|pc (link_Method_ok v24.1 v27.Name [102] q29) j0 j0 (immC (immP (fun _=>j0)) (j0))<|u<|mv j0<|u<|ex j0 j0<|u<|ex j0 j0<|u<|ex j0 j0<|u<|al 0 ti62 j0<|u<|asg j0<|u<|sto ti62 j0 j0 j0<|u<|asg j0<|r_nil ?_
     refine rg j0<|u<|mv j0<|u<|mv j0<|u<|seq ti9 j0 j0<|u<|mv j0<|r_and (j:=3) 3 j0 j0 j0 j0 j0 gpn (fun hb30=>g j0 hb30<|mv j0<|g j0 hb30<|mv j0<|g j0 hb30<|seq ti9 j0 j0<|r_nil (egA [113,114,115] 3 hb30 j0 j0 j0 j0)) andF<|u<|mv j0<|r_and (j:=8) 4 j0 j0 j0 j0 j0 gpn (fun hb31=>g j0 hb31<|mv j0<|g j0 hb31<|mv j0<|g j0 hb31<|sne ti9 j0 j0<|g j0 hb31<|beq ti4 j0 j0 j0<|r_nil (egA [118,119,120,121] 4 hb31 j0 j0 j0 j0)) andF<|u<|mv j0<|r_and (j:=14) 3 j0 j0 j0 j0 j0 gpn (fun hb32=>g j0 hb32<|mv j0<|g j0 hb32<|mv j0<|g j0 hb32<|beq ti4 j0 j0 j0<|r_nil (egA [124,125,126] 3 hb32 j0 j0 j0 j0)) andF<|u<|asg j0<|r_nil ?_
     refine sw_ret ?_
     obtain rfl:=sm h
     exact ⟨_,j0,[],ci j0,j0,j5,j0,j1⟩
   ·
    rintro r' rfl env st hp
    obtain rfl:=sm h
    exact hp
end
end Go.Proofs.YtooagifeniibcaaGreat
namespace Go.Proofs.YtooagifeniibcaaGreat
noncomputable section
set_option linter.unusedSimpArgs false
set_option linter.unusedVariables false
set_option maxRecDepth 100000
set_option maxHeartbeats 4000000
def link_Method_s3 (v1 : List ApiClass) (v2 : List (List UInt8 × Int)) (v3 : List UInt8) (v4 : List UInt8) : Option ((List UInt8) × ApiMethod × Bool) :=
  (hier_Hier_Supers_s2 v1 v2 v3).bind fun v5=>(link_find_s4 v1 v2 v5 v4).bind fun v6=>some (v6.1,v6.2.1,v6.2.2)
def link_Chosen_s3 (v1 : List ApiClass) (v2 : List (List UInt8 × Int)) (v3 : List UInt8) (v4 : List UInt8) : Option ((List UInt8) × Bool) :=
  (hier_Hier_Supers_s2 v1 v2 v3).bind fun v5=>(link_find_s2 v1 v2 v5 v4).bind fun v6=>some (v6.1,v6.2.2)
end
end Go.Proofs.YtooagifeniibcaaGreat
namespace Go.Proofs.YtooagifeniibcaaGreat
set_option linter.unusedSimpArgs false
set_option linter.unusedVariables false
def bitN (l : List Bool) (k : Nat) : Bool := (l[k]?).getD false
theorem bit_eq (l : List Bool) (k : Nat) : (cond (decide ((k : Int) < (List.length l : Int))) ((idx l (k : Int)).bind fun v => some v) (some false)) = some (bitN l k) := by
  rw [idx_nat]
  unfold bitN
  by_cases h : k < l.length
  · rw [decide_eq_true (by omega), List.getElem?_eq_getElem h]; rfl
  · rw [decide_eq_false (by omega), List.getElem?_eq_none (by omega)]; rfl
end Go.Proofs.YtooagifeniibcaaGreat
namespace Go.Proofs.YtooagifeniibcaaGreat
set_option linter.unusedSimpArgs false
set_option linter.unusedVariables false
theorem idx_ixF {α : Type} (p : α → Bool) (l : List α) : idx l (ixF p 0 l) = l.find? p := by
  rcases ixF_get p l 0 with ⟨j, x, h1, h2, h3, h4⟩ | ⟨h1, h2⟩
  · rw [h1, h4, idx_nat, Nat.zero_add, h2]
  · rw [h1, h2]; rfl
theorem ixF_some {α : Type} (p : α → Bool) (l : List α) : decide (0 ≤ ixF p 0 l) = (l.find? p).isSome := by
  rw [ixF_any, Bool.eq_iff_iff, List.any_eq_true, List.find?_isSome]
def zM : ApiMethod := ApiMethod.mk [] [] [] false false 0 0 [] [] []
abbrev MR := List UInt8 × ApiMethod × Bool
def metG (L : List ApiClass) (may : ApiMethod → Bool) (n s : Tx) : Option MR := match cl L s with | some x => (match x.Methods.find? (fun y => y.Name == n) with | some f => cond (may f) (some (s, f, true)) none | none => none) | none => none
theorem leave_ends {R : Type} (o : Option R) (z : R) : (some (ends () o) : Option (Sum Unit R)).bind (fun o => leave o (fun _ => some z) some) = some (o.getD z) := by cases o <;> rfl
section
variable {l L : List ApiClass} {m : List (Tx × Int)}
theorem class3_eq (hm : MapOk L m) (n : Tx) : hier_Hier_Class_s3 L m n = some (match cl L n with | some c => (c, true) | none => (zC, false)) := class_eq hm n
def Lens (L : List ApiClass) : Prop := ∀ c ∈ L, LenL c.Fields ∧ LenL c.Methods
theorem lens_of (h : ∀ c ∈ L, FClass c) : Lens L := fun c hc => ⟨(h c hc).fields.le, (h c hc).methods.le⟩
theorem met_step (h : Made l L) (hm : MapOk L m) (hL : Lens L) {may : ApiMethod → Bool} {T : List Tx} (hT : T.length ≤ 1000) (n : Tx) {body : Int → Option (Sum Int (Sum Unit MR))}
    (hT2 : ∀ s ∈ T, hasN L s = true)
    (hb : ∀ (i : Nat) s x, T[i]? = some s → cl L s = some x → body (i : Int) = ((class_Method x n).bind fun v15 => (cond (decide (0 ≤ v15)) ((idx x.Methods v15).bind fun v16 => some (may v16)) (some false)).bind fun v17 => cond v17 ((idx x.Methods v15).bind fun v18 => some (.inr (.inr (s, v18, true)))) (some (.inl (IntKind.i64.wrap ((i : Int) + 1))))))
    (he : body (T.length : Int) = some (.inr (.inl ()))) : loopP body 0 = some (ends () (T.findSome? (metG L may n))) := by
  refine loop_list (fun i s hs => ?_) he
  have hi := (List.getElem?_eq_some_iff.1 hs).1
  obtain ⟨x, hx⟩ := has_cl (hT2 s (List.mem_of_getElem? hs))
  rw [hb i s x hs hx, class_Method_eq (hL x (cl_name hx).1).2]
  simp only [Option.bind_some]
  rw [ixF_some, idx_ixF, wrap_succ (by omega)]
  unfold metG
  rw [hx]
  show _ = some (asks i (match x.Methods.find? (fun y => y.Name == n) with | some f => cond (may f) (some (s, f, true)) none | none => none))
  cases x.Methods.find? (fun y => y.Name == n) with
  | none => rfl
  | some f =>
    simp only [Option.isSome_some, cond_true, Option.bind_some]
    cases may f <;> rfl
theorem find4_eq (h : Made l L) (hm : MapOk L m) (hL : Lens L) {T : List Tx} (hT : T.length ≤ 1000) (hT2 : ∀ s ∈ T, hasN L s = true) (n : Tx) : link_find_s4 L m T n = some ((T.findSome? (metG L link_Method_1 n)).getD ([], zM, false)) := by
  unfold link_find_s4
  rw [show loopP (fun z => link_find_s4_l1 L m T n z) 0 = some (ends () (T.findSome? (metG L link_Method_1 n))) from met_step h hm hL hT n hT2 (fun i s x hs hx => by
    show link_find_s4_l1 L m T n (i : Int) = _
    unfold link_find_s4_l1
    rw [here hs, idx_nat, hs]
    simp only [cond_true, Option.bind_some]
    rw [class3_eq hm, hx]; rfl) (by
    show link_find_s4_l1 L m T n (T.length : Int) = _
    unfold link_find_s4_l1
    rw [past]; rfl)]
  exact leave_ends _ _
theorem find2_eq (h : Made l L) (hm : MapOk L m) (hL : Lens L) {T : List Tx} (hT : T.length ≤ 1000) (hT2 : ∀ s ∈ T, hasN L s = true) (n : Tx) : link_find_s2 L m T n = some ((T.findSome? (metG L link_Chosen_1 n)).getD ([], zM, false)) := by
  unfold link_find_s2
  rw [show loopP (fun z => link_find_s2_l1 L m T n z) 0 = some (ends () (T.findSome? (metG L link_Chosen_1 n))) from met_step h hm hL hT n hT2 (fun i s x hs hx => by
    show link_find_s2_l1 L m T n (i : Int) = _
    unfold link_find_s2_l1
    rw [here hs, idx_nat, hs]
    simp only [cond_true, Option.bind_some]
    rw [class3_eq hm, hx]; rfl) (by
    show link_find_s2_l1 L m T n (T.length : Int) = _
    unfold link_find_s2_l1
    rw [past]; rfl)]
  exact leave_ends _ _
theorem supL_hasN (h : Made l L) (c : Tx) : ∀ s ∈ supL L c, hasN L s = true := fun s hs => (sup_mem h _ c s hs).1
theorem method_eq (h : Made l L) (hm : MapOk L m) (hL : Lens L) (c n : Tx) : link_Method_s3 L m c n = some (((supL L c).findSome? (metG L link_Method_1 n)).getD ([], zM, false)) := by
  have h26 := supL_len h c
  unfold link_Method_s3
  rw [supers_eq h hm]
  simp only [Option.bind_some]
  rw [find4_eq h hm hL (by omega) (supL_hasN h c)]; rfl
theorem chosen_eq (h : Made l L) (hm : MapOk L m) (hL : Lens L) (c n : Tx) : link_Chosen_s3 L m c n = some ((((supL L c).findSome? (metG L link_Chosen_1 n)).getD ([], zM, false)).1, (((supL L c).findSome? (metG L link_Chosen_1 n)).getD ([], zM, false)).2.2) := by
  have h26 := supL_len h c
  unfold link_Chosen_s3
  rw [supers_eq h hm]
  simp only [Option.bind_some]
  rw [find2_eq h hm hL (by omega) (supL_hasN h c)]; rfl
theorem obj_none (h : Made l L) (may : ApiMethod → Bool) (n : Tx) : metG L may n tObj = none := by
  have e : cl L tObj = some (gC tObj []) := cl_giv h.app rfl
  unfold metG
  rw [e]; rfl
end
end Go.Proofs.YtooagifeniibcaaGreat
namespace Go.Proofs.YtooagifeniibcaaGreat
set_option linter.unusedSimpArgs false
set_option linter.unusedVariables false
def nmD (i : Nat) : Tx := [(67 : UInt8), tU8 (IntKind.i64.wrap (97 + (i : Int)))]
def suD : Nat → Tx
  | 0 => tObj
  | i + 1 => nmD i
def mkD (n : Nat) (M : Nat → List ApiMethod) : List ApiClass := (List.range n).map (fun i => ApiClass.mk (nmD i) (suD i) false [] [] (M i))
def fMD : ApiMethod := ApiMethod.mk [102] [] [86] false false 1 0 ([(ApiIns.mk 46 0 [] [])]) [] []
def bM (b : Bool) : List ApiMethod := cond b [fMD] []
def supD (a : Nat) : List Tx := (List.range (a + 1)).reverse.map nmD ++ [tObj]
def ldB (n : Nat) (M : Nat → List ApiMethod) : Bool :=
  (fresh giv (mkD n M) && !((mkD n M).any (mis (giv ++ mkD n M)))) &&
  (((mkD n M).all (fun c => !isF (giv ++ mkD n M) c.Super && (c.Impl == []))) &&
   (((giv ++ mkD n M).all (fun c => (nxA (giv ++ mkD n M) c.Name).all (fun s => decide (atN (giv ++ mkD n M) s < atN (giv ++ mkD n M) c.Name)))) &&
    (List.range n).all (fun a => supL (giv ++ mkD n M) (nmD a) == supD a)))
theorem ld1 (M) : ldB 1 M = true := by kernel_rfl
theorem ld2 (M) : ldB 2 M = true := by kernel_rfl
theorem ld3 (M) : ldB 3 M = true := by kernel_rfl
theorem ld4 (M) : ldB 4 M = true := by kernel_rfl
theorem ld5 (M) : ldB 5 M = true := by kernel_rfl
theorem ld6 (M) : ldB 6 M = true := by kernel_rfl
theorem ld7 (M) : ldB 7 M = true := by kernel_rfl
theorem ld8 (M) : ldB 8 M = true := by kernel_rfl
theorem ld9 (M) : ldB 9 M = true := by kernel_rfl
theorem ld10 (M) : ldB 10 M = true := by kernel_rfl
theorem ld11 (M) : ldB 11 M = true := by kernel_rfl
theorem ld12 (M) : ldB 12 M = true := by kernel_rfl
theorem ld13 (M) : ldB 13 M = true := by kernel_rfl
theorem ld14 (M) : ldB 14 M = true := by kernel_rfl
theorem ld15 (M) : ldB 15 M = true := by kernel_rfl
theorem ldB_all : ∀ (n : Nat), 1 ≤ n → n ≤ 15 → ∀ M, ldB n M = true
  | 0, h, _, _ => absurd h (by decide)
  | 1, _, _, M => ld1 M
  | 2, _, _, M => ld2 M
  | 3, _, _, M => ld3 M
  | 4, _, _, M => ld4 M
  | 5, _, _, M => ld5 M
  | 6, _, _, M => ld6 M
  | 7, _, _, M => ld7 M
  | 8, _, _, M => ld8 M
  | 9, _, _, M => ld9 M
  | 10, _, _, M => ld10 M
  | 11, _, _, M => ld11 M
  | 12, _, _, M => ld12 M
  | 13, _, _, M => ld13 M
  | 14, _, _, M => ld14 M
  | 15, _, _, M => ld15 M
  | n + 16, _, h, _ => absurd h (by omega)
theorem ld_may : ((List.range 15).all (fun i => mayG (ApiClass.mk (nmD i) (suD i) false [] [] (bM true)) && mayG (ApiClass.mk (nmD i) (suD i) false [] [] (bM false)))) = true := by kernel_rfl
theorem lay_fresh : ∀ (r L : List ApiClass), fresh L r = true → (∀ c ∈ r, mayG c = true) → lay L r = some (L ++ r)
  | [], L, _, _ => by simp [lay]
  | c :: r, L, hf, hm => by
    simp only [fresh, Bool.and_eq_true, Bool.not_eq_true'] at hf
    unfold lay
    rw [hf.1, hm c (by simp)]
    show lay (L ++ [c]) r = _
    rw [lay_fresh r (L ++ [c]) hf.2 (fun d hd => hm d (by simp [hd]))]
    simp
section
variable {n : Nat} {bit : Nat → Bool}
theorem mkD_get {M : Nat → List ApiMethod} {i : Nat} (h : i < n) : (mkD n M)[i]? = some (ApiClass.mk (nmD i) (suD i) false [] [] (M i)) := by
  unfold mkD
  rw [List.getElem?_map, List.getElem?_range h]; rfl
theorem mkD_len (M : Nat → List ApiMethod) : (mkD n M).length = n := by unfold mkD; simp
theorem mkD_may (hn : n ≤ 15) : ∀ c ∈ mkD n (fun i => bM (bit i)), mayG c = true := by
  intro c hc
  obtain ⟨i, hi, rfl⟩ := List.mem_map.1 hc
  have hi2 := List.mem_range.1 hi
  have := List.all_eq_true.1 ld_may i (List.mem_range.2 (by omega))
  rw [Bool.and_eq_true] at this
  show mayG (ApiClass.mk (nmD i) (suD i) false [] [] (bM (bit i))) = true
  cases bit i
  · exact this.2
  · exact this.1
theorem ld_newE (h1 : 1 ≤ n) (h15 : n ≤ 15) : newE (mkD n (fun i => bM (bit i))) = (some (giv ++ mkD n (fun i => bM (bit i))), 0) ∧ ∀ a, a < n → supL (giv ++ mkD n (fun i => bM (bit i))) (nmD a) = supD a := by
  have hB := ldB_all n h1 h15 (fun i => bM (bit i))
  have hmay := mkD_may (bit := bit) h15
  have hlen := mkD_len (n := n) (fun i => bM (bit i))
  unfold ldB at hB
  generalize mkD n (fun i => bM (bit i)) = l at *
  rw [Bool.and_eq_true, Bool.and_eq_true, Bool.and_eq_true, Bool.and_eq_true, Bool.not_eq_true'] at hB
  obtain ⟨⟨b1, b2⟩, b3, b4, b5⟩ := hB
  refine ⟨?_, fun a ha => ?_⟩
  · unfold newE
    rw [decide_eq_false (show ¬ (16 < (l.length : Int)) by omega), lay_fresh l giv b1 hmay]
    simp only [cond_false]
    rw [b2]
    have hbad : l.any (badF (giv ++ l)) = false := by
      rw [List.any_eq_false]
      intro c hc hb
      have h3 := List.all_eq_true.1 b3 c hc
      rw [Bool.and_eq_true, Bool.not_eq_true', beq_iff_eq] at h3
      unfold badF at hb
      rw [h3.1, h3.2] at hb
      have hb : cyc (giv ++ l) c.Name = true := by simpa using hb
      have hr := cyc_iff.1 hb
      have step : ∀ a b, b ∈ nxA (giv ++ l) a → atN (giv ++ l) b < atN (giv ++ l) a := fun a b hb => by
        cases hcl : cl (giv ++ l) a with
        | none => unfold nxA at hb; rw [hcl] at hb; cases hb
        | some d =>
          have h4 := List.all_eq_true.1 b4 d (cl_name hcl).1
          rw [(cl_name hcl).2] at h4
          exact of_decide_eq_true (List.all_eq_true.1 h4 b hb)
      have key : ∀ a b, Rc (nxA (giv ++ l)) a b → atN (giv ++ l) b < atN (giv ++ l) a := fun a b hr => by
        induction hr with
        | one h => exact step _ _ h
        | more h _ ih => have := step _ _ h; omega
      have := key _ _ hr
      omega
    rw [hbad]; rfl
  · have := List.all_eq_true.1 b5 a (List.mem_range.2 ha)
    exact eq_of_beq this
def bst (bit : Nat → Bool) : Nat → Option Tx
  | 0 => none
  | k + 1 => cond (bit k) (some (nmD k)) (bst bit k)
theorem nmD_ne (k : Nat) : nmD k ≠ [] := by unfold nmD; simp
theorem ld_find {l L : List ApiClass} (h : Made l L) (hl : l = mkD n (fun i => bM (bit i))) {may : ApiMethod → Bool} (hmay : may fMD = true) : ∀ (k : Nat), k ≤ n →
    ((List.range k).reverse.map nmD ++ [tObj]).findSome? (metG L may [102]) = (bst bit k).map (fun t => (t, fMD, true))
  | 0, _ => by
    show [tObj].findSome? (metG L may [102]) = none
    simp only [List.findSome?_cons, obj_none h, List.findSome?_nil]
  | k + 1, hk => by
    have hg : l[k]? = some (ApiClass.mk (nmD k) (suD k) false [] [] (bM (bit k))) := by rw [hl]; exact mkD_get (by omega)
    have hm : ApiClass.mk (nmD k) (suD k) false [] [] (bM (bit k)) ∈ L := by rw [h.app]; exact List.mem_append_right _ (List.mem_of_getElem? hg)
    have hc := h.nd.cl hm
    have e : metG L may [102] (nmD k) = cond (bit k) (some (nmD k, fMD, true)) none := by
      unfold metG
      rw [show cl L (nmD k) = _ from hc]
      show (match (bM (bit k)).find? (fun y => y.Name == [102]) with | some f => cond (may f) (some (nmD k, f, true)) none | none => none) = _
      cases bit k with
      | false => rfl
      | true =>
        show cond (may fMD) (some (nmD k, fMD, true)) none = _
        rw [hmay]
    rw [List.range_succ, List.reverse_append]
    show (nmD k :: ((List.range k).reverse.map nmD ++ [tObj])).findSome? (metG L may [102]) = _
    rw [List.findSome?_cons, e]
    unfold bst
    cases bit k with
    | true => rfl
    | false => exact ld_find h hl hmay k (by omega)
def wntD (bit : Nat → Bool) (a : Int) : Nat → Tx
  | 0 => []
  | k + 1 => cond (bit k) (cond (decide ((k : Int) ≤ a)) (nmD k) (wntD bit a k)) (wntD bit a k)
theorem wnt_bst {a : Nat} : ∀ (k : Nat), k ≤ a + 1 → wntD bit (a : Int) k = (bst bit k).getD []
  | 0, _ => rfl
  | k + 1, h => by
    unfold wntD bst
    rw [decide_eq_true (by omega)]
    cases bit k with
    | true => rfl
    | false => exact wnt_bst k (by omega)
theorem wnt_past {a : Nat} : ∀ (d k : Nat), k = a + 1 + d → wntD bit (a : Int) k = (bst bit (a + 1)).getD []
  | 0, k, h => by rw [h]; exact wnt_bst (a + 1) (Nat.le_refl _)
  | d + 1, k, h => by
    subst h
    show wntD bit (a : Int) ((a + 1 + d) + 1) = _
    unfold wntD
    rw [decide_eq_false (by omega)]
    have := wnt_past (a := a) d (a + 1 + d) rfl
    cases bit (a + 1 + d) <;> exact this
end
theorem ld_loop {n : Nat} (hn : n ≤ 15) (has : List Bool) (a : Int) : ∀ (d k : Nat), n - k = d → k ≤ n →
    loopP (fun z => law8_LinkDeep_l4 (n : Int) has a z.1 z.2.1 z.2.2) (mkD k (fun i => bM (bitN has i)), wntD (bitN has) a k, (k : Int)) = some (.inl (mkD n (fun i => bM (bitN has i)), wntD (bitN has) a n)) := by
  intro d
  induction d with
  | zero =>
    intro k hd hk
    have : k = n := by omega
    subst this
    rw [loopP_eq]
    show (law8_LinkDeep_l4 (k : Int) has a _ _ (k : Int)).bind _ = _
    unfold law8_LinkDeep_l4
    rw [decide_eq_false (by omega)]; rfl
  | succ d ih =>
    intro k hd hk
    have ih := ih (k + 1) (by omega) (by omega)
    have hlen := mkD_len (n := k) (fun i => bM (bitN has i))
    have hsucc : mkD (k + 1) (fun i => bM (bitN has i)) = mkD k (fun i => bM (bitN has i)) ++ [ApiClass.mk (nmD k) (suD k) false [] [] (bM (bitN has k))] := by
      unfold mkD
      rw [List.range_succ, List.map_append]; rfl
    have j3 : ∀ w ms, law8_LinkDeep_j3 (mkD k (fun i => bM (bitN has i))) (k : Int) (suD k) w ms = some (.inl (mkD k (fun i => bM (bitN has i)) ++ [ApiClass.mk (nmD k) (suD k) false [] [] ms], w, ((k + 1 : Nat) : Int))) := fun w ms => by
      unfold law8_LinkDeep_j3
      rw [appP_ok (by simp; omega) (by simp; omega), wrap_succ (by omega)]; rfl
    have j2 : law8_LinkDeep_j2 has a (mkD k (fun i => bM (bitN has i))) (wntD (bitN has) a k) (k : Int) (suD k) = some (.inl (mkD (k + 1) (fun i => bM (bitN has i)), wntD (bitN has) a (k + 1), ((k + 1 : Nat) : Int))) := by
      unfold law8_LinkDeep_j2
      rw [bit_eq, hsucc, j3, j3, j3, show wntD (bitN has) a (k + 1) = cond (bitN has k) (cond (decide ((k : Int) ≤ a)) (nmD k) (wntD (bitN has) a k)) (wntD (bitN has) a k) from rfl]
      simp only [Option.bind_some]
      cases bitN has k with
      | false => rfl
      | true =>
        cases decide ((k : Int) ≤ a) <;> rfl
    rw [loopP_eq]
    show (law8_LinkDeep_l4 (n : Int) has a (mkD k (fun i => bM (bitN has i))) (wntD (bitN has) a k) (k : Int)).bind _ = _
    have e : law8_LinkDeep_l4 (n : Int) has a (mkD k (fun i => bM (bitN has i))) (wntD (bitN has) a k) (k : Int) = some (.inl (mkD (k + 1) (fun i => bM (bitN has i)), wntD (bitN has) a (k + 1), ((k + 1 : Nat) : Int))) := by
      unfold law8_LinkDeep_l4
      rw [decide_eq_true (show (k : Int) < (n : Int) by omega)]
      simp only [cond_true]
      cases k with
      | zero => exact j2
      | succ j =>
        rw [decide_eq_true (show (0 : Int) < ((j + 1 : Nat) : Int) by omega), wrapI (by omega) (by omega), show (((j + 1 : Nat) : Int) - 1) = (j : Int) by omega, idx_nat, mkD_get (by omega)]
        exact j2
    rw [e]
    exact ih
theorem mkD_cg {n : Nat} {bit : Nat → Bool} (hn : n ≤ 15) : ∀ c ∈ mkD n (fun i => bM (bit i)), FClass c := by
  intro c hc
  obtain ⟨i, hi, rfl⟩ := List.mem_map.1 hc
  have hi2 := List.mem_range.1 hi
  have hsu : (suD i).length ≤ 10 := by cases i <;> simp [suD, tObj, nmD]
  refine ⟨by show (nmD i).length ≤ 10000; simp [nmD], by show (suD i).length ≤ 10000; omega, ⟨by simp, fun x hx => by cases hx⟩, ⟨by simp, fun x hx => by cases hx⟩, ?_⟩
  show FL FMeth (bM (bit i))
  cases bit i with
  | false => exact ⟨by decide, fun x hx => by cases hx⟩
  | true =>
    refine ⟨by decide, fun x hx => ?_⟩
    rw [List.mem_singleton.1 (show x ∈ [fMD] from hx)]
    exact ⟨by decide, ⟨by decide, fun y hy => by cases hy⟩, by decide, by decide, by decide, ⟨by decide, fun y hy => by rw [List.mem_singleton.1 (show y ∈ [ApiIns.mk 46 0 [] []] from hy)]; exact ⟨by decide, by decide, by decide, by decide⟩⟩, ⟨by decide, fun y hy => by cases hy⟩, ⟨by decide, fun y hy => by cases hy⟩⟩
theorem law8_LinkDeep_eq (n : Int) (has : List Bool) (a : Int) : law8_LinkDeep n has a = some true := by
  unfold law8_LinkDeep
  simp only [Bool.not_true, cond_false]
  cases hc : (((decide (n < 1)) || (decide (15 < n))) || (decide (a < 0))) || (decide (n ≤ a)) with
  | true => rfl
  | false =>
    simp only [Bool.or_eq_false_iff, decide_eq_false_iff_not] at hc
    obtain ⟨N, rfl⟩ : ∃ N : Nat, n = N := ⟨n.toNat, by omega⟩
    obtain ⟨A, rfl⟩ : ∃ A : Nat, a = A := ⟨a.toNat, by omega⟩
    have h15 : N ≤ 15 := by omega
    have h1 : 1 ≤ N := by omega
    have hA : A < N := by omega
    obtain ⟨hE, hS⟩ := ld_newE (bit := bitN has) h1 h15
    simp only [cond_false]
    rw [show loopP (fun z => law8_LinkDeep_l4 (N : Int) has (A : Int) z.1 z.2.1 z.2.2) ([], [], 0) = _ from ld_loop h15 has (A : Int) N 0 rfl (by omega)]
    simp only [Option.bind_some, leave]
    unfold law8_LinkDeep_k5
    have hfc := mkD_cg (bit := bitN has) h15
    obtain ⟨m, hm, hN⟩ := hier_New_eq (fun c hc => (hfc c hc).cg)
    rw [hN, hE]
    obtain ⟨hM, _⟩ := newE_made (l := mkD N (fun i => bM (bitN has i))) (L := giv ++ mkD N (fun i => bM (bitN has i))) (by rw [hE])
    have hmp := hm (giv ++ mkD N (fun i => bM (bitN has i))) (by rw [hE])
    have hL := lens_of (made_fc hM hfc)
    simp only [Option.map_some, Option.bind_some, beq_self_eq_true, Bool.not_true, cond_false]
    rw [idx_nat, mkD_get hA]
    simp only [Option.bind_some]
    have hs := hS A hA
    have e1 := chosen_eq hM hmp hL (nmD A) [102]
    have e2 := method_eq hM hmp hL (nmD A) [102]
    rw [hs] at e1 e2
    unfold supD at e1 e2
    rw [ld_find hM rfl (may := link_Chosen_1) rfl (A + 1) (by omega)] at e1
    rw [ld_find hM rfl (may := link_Method_1) (by decide) (A + 1) (by omega)] at e2
    rw [show link_Chosen (some (HierHier.mk (giv ++ mkD N (fun i => bM (bitN has i))) m)) (nmD A) [102] = _ from e1]
    simp only [Option.bind_some]
    rw [show link_Method (some (HierHier.mk (giv ++ mkD N (fun i => bM (bitN has i))) m)) (nmD A) [102] = _ from e2]
    simp only [Option.bind_some]
    rw [wnt_past (N - (A + 1)) N (by omega)]
    cases hb : bst (bitN has) (A + 1) with
    | none => rfl
    | some t =>
      have ht : t ≠ [] := by
        have key : ∀ k, bst (bitN has) k = some t → t ≠ [] := by
          intro k
          induction k with
          | zero => intro h; cases h
          | succ k ih =>
            intro h
            unfold bst at h
            cases hbk : bitN has k with
            | true =>
              rw [hbk] at h
              have : nmD k = t := by simpa using h
              rw [← this]; exact nmD_ne k
            | false => rw [hbk] at h; exact ih h
        exact key _ hb
      simp [ht]
theorem linkDeep_pure (n : Int) (has : List Bool) (a : Int) (_ : wI .i64 n) (_ : wL wT has) (_ : wI .i64 a) : PureC Tryz.prog 11 [.lit (.int .i64 n), .isl 1 (List.map rB has), .lit (.int .i64 a)] (.lit (.bool true)) := law8_LinkDeep_ok n has a (law8_LinkDeep_eq n has a)
end Go.Proofs.YtooagifeniibcaaGreat
