/- StateAll: for every input the law returns true, and each argument reads as it read before. No further condition. Part 7 of 8. -/
import Derived.Test.YthmnlfenkhmmhaaGreatSi6
namespace Go.Proofs.YthmnlfenkhmmhaaGreat
set_option linter.unusedSimpArgs false
set_option linter.unusedVariables false
section
variable {l L : List za} {m : List (Tx × Int)}
theorem zq4 (hL:L.length≤30):zcf L m=some (L.map (·.Name)):=by
  unfold zcf
  have key:∀ (r pre:List za),L=pre++r→zu (fun z=>zah L z.1 z.2) (pre.map (·.Name),(pre.length:Int))=some (.inl (L.map (·.Name))):=by
    intro r
    induction r with
    | nil =>
      intro pre e
      rw [List.append_nil] at e
      rw [zH]
      show (zah L (pre.map (·.Name)) (pre.length:Int)).bind _=_
      unfold zah
      rw [← e,ze4]; rfl
    | cons c r ih =>
      intro pre e
      have hlen:L.length=pre.length+(r.length+1):=by rw [e]; simp
      have hx:L[pre.length]?=some c:=by rw [e]; simp
      have ih:=ih (pre++[c]) (by rw [e]; simp)
      rw [show (pre++[c]).length=pre.length+1 by simp] at ih
      rw [zH]
      show (zah L (pre.map (·.Name)) (pre.length:Int)).bind _=_
      unfold zah
      rw [zeK hx,zy,hx]
      simp only [cond_true,Option.bind_some]
      rw [zwE (by simp; omega) (by omega),zK (by omega)]
      rw [List.map_append] at ih
      exact ih
  rw [show zu (fun z=>zah L z.1 z.2) ([],0)=_ from key L [] rfl]
  rfl
structure zwB (L:List za) (c:za):Prop where
  fields:c.Fields.length≤10000∧∀ f∈c.Fields,f.Type_.length≤25
  methods:c.Methods.length≤10000∧∀ f∈c.Methods,zvM f
end
section
variable {l : List za} {m : List (Tx × Int)} {ps qs : List Tx} {i j s t : Bool}
end
end Go.Proofs.YthmnlfenkhmmhaaGreat
namespace Go.Proofs.YthmnlfenkhmmhaaGreat
set_option linter.unusedSimpArgs false
set_option linter.unusedVariables false
section
variable {l L : List za} {m : List (Tx × Int)}
structure zvL (f:zi):Prop where
  pars:f.Params.length≤6∧∀ s∈f.Params,zkQ s=true
  ret:zrx f.Ret=true
  traps:f.Traps.length≤6∧∀ y∈f.Traps,y.C=[]∨zbJ y.C=true
  code:f.Code.length≤100∧∀ x∈f.Code,ziY x=true
theorem zvL.small {f:zi} (h:zvL f):zvM f where
  pars:=⟨by have:=h.pars.1; omega,fun s hs=>znb (h.pars.2 s hs)⟩
  ret:=ztn h.ret
  traps:=⟨by have:=h.traps.1; omega,fun y hy=>by
    rcases h.traps.2 y hy with e | e
    · rw [e]; exact Nat.zero_le _
    · have:=zj4 e; omega⟩
  code:=⟨by have:=h.code.1; omega,fun x hx=>by have:=zuS (h.code.2 x hx); omega⟩
structure zwi (L:List za) (c:za):Prop where
  fields:c.Fields.length≤10000∧∀ f∈c.Fields,zkQ f.Type_=true
  methods:c.Methods.length≤10000∧∀ f∈c.Methods,zvL f
  names:∀ (i j:Nat) (f g:zi),c.Methods[i]?=some f→c.Methods[j]?=some g→f.Name=g.Name→i=j
theorem zwi.small {c:za} (h:zwi L c):zwB L c:=⟨⟨h.fields.1,fun f hf=>znb (h.fields.2 f hf)⟩,⟨h.methods.1,fun f hf=>(h.methods.2 f hf).small⟩⟩
end
end Go.Proofs.YthmnlfenkhmmhaaGreat
namespace Go.Proofs.YthmnlfenkhmmhaaGreat
set_option linter.unusedSimpArgs false
set_option linter.unusedVariables false
theorem zk3:zgQ=some true:=by kernel_rfl
end Go.Proofs.YthmnlfenkhmmhaaGreat
namespace Go.Proofs.YthmnlfenkhmmhaaGreat
set_option linter.unusedSimpArgs false
set_option linter.unusedVariables false
theorem zfl {β S U R:Type} {body:S→Option (Sum S (Sum U R))} (mk:β→Int→S) (fi:β→U) {n:Nat} {I:β→Nat→Prop}
    (hb:∀ (i:Nat) b,I b i→i < n→∃ b',body (mk b (i:Int))=some (.inl (mk b' ((i+1:Nat):Int)))∧I b' (i+1))
    (he:∀ b,I b n→body (mk b (n:Int))=some (.inr (.inl (fi b)))) {b0:β} (h0:I b0 0) :
    ∃ b,zu body (mk b0 0)=some (.inl (fi b))∧I b n:=by
  have key:∀ (d i:Nat) (b:β),n - i=d→i≤n→I b i→∃ b',zu body (mk b (i:Int))=some (.inl (fi b'))∧I b' n:=by
    intro d
    induction d with
    | zero =>
      intro i b hd hi hI
      have:i=n:=by omega
      subst this
      exact ⟨b,by rw [zH,he b hI]; rfl,hI⟩
    | succ d ih =>
      intro i b hd hi hI
      obtain ⟨b1,h1,h2⟩:=hb i b hI (by omega)
      obtain ⟨b',h3,h4⟩:=ih (i+1) b1 (by omega) (by omega) h2
      exact ⟨b',by rw [zH,h1]; exact h3,h4⟩
  exact key n 0 b0 (by omega) (by omega) h0
theorem zgC {α β S U R:Type} {body:S→Option (Sum S (Sum U R))} (mk:β→Int→S) (fi:β→U) {l:List α} {f:β→α→β} {I:β→Nat→Prop}
    (hb:∀ (i:Nat) x b,I b i→l[i]?=some x→body (mk b (i:Int))=some (.inl (mk (f b x) ((i+1:Nat):Int)))∧I (f b x) (i+1))
    (he:∀ b,I b l.length→body (mk b (l.length:Int))=some (.inr (.inl (fi b)))) {b0:β} (h0:I b0 0) :
    zu body (mk b0 0)=some (.inl (fi (l.foldl f b0)))∧I (l.foldl f b0) l.length:=by
  have key:∀ (r pre:List α) (b:β),l=pre++r→I b pre.length→zu body (mk b (pre.length:Int))=some (.inl (fi (r.foldl f b)))∧I (r.foldl f b) l.length:=by
    intro r
    induction r with
    | nil =>
      intro pre b e hI
      rw [List.append_nil] at e
      subst e
      rw [zH,he b hI]
      exact ⟨rfl,hI⟩
    | cons x r ih =>
      intro pre b e hI
      have hx:l[pre.length]?=some x:=by rw [e]; simp
      obtain ⟨h1,h2⟩:=hb pre.length x b hI hx
      rw [zH,h1]
      have:=ih (pre++[x]) (f b x) (by rw [e]; simp) (by rw [List.length_append]; exact h2)
      rw [show (pre++[x]).length=pre.length+1 by simp] at this
      exact this
  exact key l [] b0 rfl h0
def sk (c:za) (f:zt):Tx:=c.Name++[46]++f.Name
theorem zsJ {a b:Tx} (ha:a.length≤1000000) (hb:b.length≤1000000):zeF a b=some (a++[46]++b):=by
  unfold zeF
  rw [zqy (by simp; omega)]
  simp only [Option.bind_some]
  rw [zqy (by simp; omega)]
  rfl
theorem zqI:∀ {a b x y:Tx},46 ∉ a→46 ∉ b→a++[46]++x=b++[46]++y→a=b∧x=y
  | [],[],x,y,_,_,h=>⟨rfl,by simpa using h⟩
  | [],b :: bs,x,y,_,hb,h=>by
    simp only [List.nil_append,List.cons_append,List.cons.injEq] at h
    exact absurd (by rw [← h.1]; exact List.mem_cons_self) hb
  | a :: aa,[],x,y,ha,_,h=>by
    simp only [List.nil_append,List.cons_append,List.cons.injEq] at h
    exact absurd (by rw [h.1]; exact List.mem_cons_self) ha
  | a :: aa,b :: bs,x,y,ha,hb,h=>by
    simp only [List.cons_append,List.cons.injEq] at h
    obtain ⟨h1,h2⟩:=zqI (fun h=>ha (List.mem_cons_of_mem _ h)) (fun h=>hb (List.mem_cons_of_mem _ h)) h.2
    exact ⟨by rw [h.1,h1],h2⟩
theorem zv2:okC 46=false:=by decide +kernel
theorem ztE {s:Tx} (h:zbJ s=true):46 ∉ s:=fun hm=>by
  unfold zbJ zjj at h
  simp only [Bool.and_eq_true] at h
  have:=List.all_eq_true.1 h.1.1.1 46 hm
  rw [zv2] at this
  cases this
theorem zvw {α:Type} {ok:α→Bool} {nm:α→List UInt8}:∀ {l pre:List α},uB ok nm pre l=false→(∀ (i:Nat) x y,l[i]?=some x→y∈pre→nm x≠nm y)∧∀ (i j:Nat) x y,l[i]?=some x→l[j]?=some y→nm x=nm y→i=j
  | [],_,_=>⟨fun i x y h=>by simp at h,fun i j x y h=>by simp at h⟩
  | z :: r,pre,h=>by
    unfold uB at h
    simp only [Bool.or_eq_false_iff,Bool.not_eq_false'] at h
    obtain ⟨⟨_,h1⟩,h2⟩:=h
    have h3:∀ y∈pre,nm z≠nm y:=fun y hy e=>by
      have:=List.any_eq_false.1 h1 y hy
      exact this (beq_iff_eq.2 e)
    obtain ⟨k1,k2⟩:=zvw h2
    refine ⟨fun i x y hx hy=>?_,fun i j x y hx hy e=>?_⟩
    · cases i with
      | zero=>simp at hx; subst hx; exact h3 y hy
      | succ i=>exact k1 i x y (by simpa using hx) (List.mem_append_left _ hy)
    · cases i with
      | zero =>
        cases j with
        | zero=>rfl
        | succ j =>
          simp at hx; subst hx
          exact absurd e.symm (k1 j y z (by simpa using hy) (by simp))
      | succ i =>
        cases j with
        | zero =>
          simp at hy; subst hy
          exact absurd e (k1 i x z (by simpa using hx) (by simp))
        | succ j=>rw [k2 i j x y (by simpa using hx) (by simpa using hy) e]
structure Kn (L:List za):Prop where
  inj:∀ (i j k l:Nat) c d f g,L[i]?=some c→L[j]?=some d→c.Fields[k]?=some f→d.Fields[l]?=some g→sk c f=sk d g→i=j∧k=l
  cn:∀ c∈L,c.Name.length≤1000000
  fn:∀ c∈L,∀ f∈c.Fields,f.Name.length≤1000000
  few:∀ c∈L,c.Fields.length≤8
  may:∀ c∈L,∀ f∈c.Fields,zkQ f.Type_=true∧f.Type_.length≤1000000
theorem zqV:∀ c∈giv,c.Fields=[]∧46 ∉ c.Name:=by
  intro c hc
  have h:giv.all (fun c=>(c.Fields.length == 0)&&c.Name.all (fun x=>!(x == 46)))=true:=by decide +kernel
  have:=List.all_eq_true.1 h c hc
  simp only [Bool.and_eq_true,beq_iff_eq] at this
  refine ⟨List.eq_nil_of_length_eq_zero this.1,fun hm=>?_⟩
  have:=List.all_eq_true.1 this.2 46 hm
  simp at this
theorem zt0 {l L:List za} (h:zmB l L) (hF:∀ c∈L,zkc c):Kn L:=by
  have hcls:∀ c∈L,46 ∉ c.Name∧(c.Fields=[]∨zme c=true):=fun c hc=>by
    rw [h.app] at hc
    rcases List.mem_append.1 hc with e | e
    · exact ⟨(zqV c e).2,.inl (zqV c e).1⟩
    · have hm:=h.may c e
      refine ⟨?_,.inr hm⟩
      unfold zme at hm
      simp only [Bool.and_eq_true] at hm
      exact ztE hm.2.1.1.1.1
  have hfi:∀ c∈L,uB zhw (·.Name) [] c.Fields=false∧c.Fields.length≤8:=fun c hc=>by
    rcases (hcls c hc).2 with e | hm
    · rw [e]; exact ⟨rfl,by simp⟩
    · unfold zme at hm
      simp only [Bool.and_eq_true,Bool.not_eq_true',decide_eq_true_eq] at hm
      exact ⟨hm.2.1.2.1,by have:=hm.2.1.2.2; omega⟩
  refine ⟨fun i j k l c d f g hi hj hk hl e=>?_,fun c hc=>?_,fun c hc f hf=>?_,fun c hc=>(hfi c hc).2,fun c hc f hf=>?_⟩
  · have hc:=List.mem_of_getElem? hi
    have hd:=List.mem_of_getElem? hj
    obtain ⟨e1,e2⟩:=zqI (hcls c hc).1 (hcls d hd).1 e
    have hij:=h.nd i j c d hi hj e1
    subst hij
    rw [hi] at hj
    cases hj
    exact ⟨rfl,(zvw (hfi c hc).1).2 k l f g hk hl e2⟩
  · have:=(hF c hc).name; unfold FS at this; omega
  · have:=((hF c hc).fields.all f hf).name; unfold FS at this; omega
  · have h1:=zrU (hfi c hc).1 f hf
    unfold zhw at h1
    simp only [Bool.and_eq_true] at h1
    have:=((hF c hc).fields.all f hf).type
    unfold FS at this
    exact ⟨h1.2,by omega⟩
abbrev Vm:=List (Tx×ze)
def zjC (f:zt):Bool:=!(f.Type_ == [73])
def sr (f:zt):Bool:=f.Static&&zjC f
def zoZ (c:za):List Tx:=(c.Fields.filter (·.Static)).map (sk c)
def zfg (L:List za):List Tx:=L.flatMap zoZ
def rkC (c:za):List Tx:=(c.Fields.filter sr).map (sk c)
def rkL (L:List za):List Tx:=L.flatMap rkC
def gv (vm:Vm) (k:Tx):ze:=(zw k vm).getD (ze.mk false 0)
structure Sh (L:List za) (e:List (List ze)):Prop where
  len:e.length=L.length
  row:∀ (i:Nat) c r,L[i]?=some c→e[i]?=some r→r.length=c.Fields.length
  ref:∀ (i k:Nat) c r f x,L[i]?=some c→e[i]?=some r→c.Fields[k]?=some f→r[k]?=some x→x.Ref=zjC f
theorem Sh.get {L:List za} {e:List (List ze)} (h:Sh L e) {i k:Nat} {c:za} {f:zt} (hi:L[i]?=some c) (hk:c.Fields[k]?=some f):∃ r x,e[i]?=some r∧r[k]?=some x∧x.Ref=zjC f:=by
  have h1:i < e.length:=by rw [h.len]; exact (List.getElem?_eq_some_iff.1 hi).1
  have hr:=List.getElem?_eq_getElem h1
  have h2:k < e[i].length:=by rw [h.row i c _ hi hr]; exact (List.getElem?_eq_some_iff.1 hk).1
  have hx:=List.getElem?_eq_getElem h2
  exact ⟨_,_,hr,hx,h.ref i k c _ f _ hi hr hk hx⟩
def zpq (L:List za) (e:List (List ze)) (vm:Vm):Prop :=
  ∀ (i k:Nat) c r f x,L[i]?=some c→e[i]?=some r→c.Fields[k]?=some f→r[k]?=some x→zw (sk c f) vm=cond f.Static (some x) none
theorem zmj {L:List za} (hk:Kn L) (hl:L.length≤26):(zfg L).length≤208:=by
  have key:∀ (r:List za),(∀ c∈r,c.Fields.length≤8)→(zfg r).length≤8 * r.length:=by
    intro r
    induction r with
    | nil=>intro _; simp [zfg]
    | cons c r ih =>
      intro h
      have h1:=ih fun d hd=>h d (List.mem_cons_of_mem _ hd)
      have h2:=h c List.mem_cons_self
      have h3:(zoZ c).length≤c.Fields.length:=by unfold zoZ; rw [List.length_map]; exact List.length_filter_le _ _
      have h4:zfg (c :: r)=zoZ c++zfg r:=rfl
      rw [h4,List.length_append,List.length_cons]
      omega
  have:=key L hk.few
  omega
theorem zry {L:List za} {p:Tx→Bool} (hp:∀ c∈L,∀ f∈c.Fields,f.Static=true→p (sk c f)=zjC f):(zfg L).filter p=rkL L:=by
  induction L with
  | nil=>rfl
  | cons c r ih =>
    have h4:zfg (c :: r)=zoZ c++zfg r:=rfl
    have h5:rkL (c :: r)=rkC c++rkL r:=rfl
    rw [h4,h5,List.filter_append,ih fun d hd=>hp d (List.mem_cons_of_mem _ hd)]
    congr 1
    unfold zoZ rkC
    have hc:=hp c List.mem_cons_self
    generalize c.Fields=F at hc
    induction F with
    | nil=>rfl
    | cons f F ihF =>
      have h6:=ihF fun g hg=>hc g (List.mem_cons_of_mem _ hg)
      cases hs:f.Static with
      | false=>simp only [List.filter_cons,hs,sr,Bool.false_and,Bool.false_eq_true,if_false]; exact h6
      | true =>
        have h7:=hc f List.mem_cons_self hs
        cases hr:zjC f <;> simp only [List.filter_cons,hs,sr,hr,Bool.true_and,Bool.false_eq_true,if_true,if_false,List.map_cons,h7] <;> first | exact h6 | exact congrArg _ h6
theorem zpq.refs {L:List za} {e:List (List ze)} {vm:Vm} (hs:Sh L e) (hv:zpq L e vm):(zfg L).filter (fun k=>(gv vm k).Ref)=rkL L:=zry fun c hc f hf h=>by
  obtain ⟨i,hi,ei⟩:=List.getElem_of_mem hc
  obtain ⟨k,hk,ek⟩:=List.getElem_of_mem hf
  have hi':L[i]?=some c:=by rw [List.getElem?_eq_getElem hi,ei]
  have hk':c.Fields[k]?=some f:=by rw [List.getElem?_eq_getElem hk,ek]
  obtain ⟨r,x,h1,h2,h3⟩:=hs.get hi' hk'
  show (gv vm (sk c f)).Ref=_
  unfold gv
  rw [hv i k c r f x hi' h1 hk' h2,h]
  exact h3
theorem zvo {L:List za} {i k:Nat} {c:za} {f:zt} (hi:L[i]?=some c) (hk:c.Fields[k]?=some f) (h:sr f=true):(rkL L)[(rkL (L.take i)).length+((c.Fields.take k).filter sr).length]?=some (sk c f):=by
  have e1:L=L.take i++c :: L.drop (i+1):=by
    obtain ⟨hl,he⟩:=List.getElem?_eq_some_iff.1 hi
    rw [← he,List.getElem_cons_drop,List.take_append_drop]
  have e2:c.Fields=c.Fields.take k++f :: c.Fields.drop (k+1):=by
    obtain ⟨hl,he⟩:=List.getElem?_eq_some_iff.1 hk
    rw [← he,List.getElem_cons_drop,List.take_append_drop]
  have e3:rkL L=rkL (L.take i)++(rkC c++rkL (L.drop (i+1))):=by
    conv=>lhs; rw [e1]
    unfold rkL
    rw [List.flatMap_append]
    rfl
  have e4:rkC c=((c.Fields.take k).filter sr).map (sk c)++sk c f :: ((c.Fields.drop (k+1)).filter sr).map (sk c):=by
    unfold rkC
    conv=>lhs; rw [e2]
    rw [List.filter_append,List.filter_cons,if_pos h,List.map_append]
    rfl
  rw [e3,List.getElem?_append_right (by omega),Nat.add_sub_cancel_left,e4,List.append_assoc,List.getElem?_append_right (by simp)]
  simp
end Go.Proofs.YthmnlfenkhmmhaaGreat
namespace Go.Proofs.YthmnlfenkhmmhaaGreat
set_option linter.unusedSimpArgs false
set_option linter.unusedVariables false
theorem zim {α:Type} {p:α→Bool}:∀ (l acc:List α),l.foldl (fun a k=>cond (p k) (a++[k]) a) acc=acc++l.filter p
  | [],acc=>by simp
  | x :: l,acc=>by
    rw [List.foldl_cons,zim l,List.filter_cons]
    cases p x <;> simp
theorem zj5 {α β:Type} {g:α→β}:∀ (l:List α) (acc:List β),l.foldl (fun a k=>a++[g k]) acc=acc++l.map g
  | [],acc=>by simp
  | x :: l,acc=>by rw [List.foldl_cons,zj5 l]; simp
def nW (x:ze):Int:=IntKind.i64.wrap (IntKind.i64.wrap x.N - 1)
theorem zrw {L:List za} {m sm:List (Tx×Int)} {vm:Vm} {o:List Tx} (ho:o.length≤1000):zb9 L m sm vm o=some (o.filter (fun k=>(gv vm k).Ref)):=by
  unfold zb9
  have key:=zgC (β:=List Tx) (S:=List Tx×Int) (U:=List Tx) (R:=List Tx) (body:=fun z=>zaV vm o z.1 z.2) (fun b i=>(b,i)) (fun b=>b) (l:=o) (f:=fun a k=>cond (gv vm k).Ref (a++[k]) a) (I:=fun b i=>b.length≤i) (fun i k b hI hx=>by
    have hi:=(List.getElem?_eq_some_iff.1 hx).1
    refine ⟨?_,?_⟩
    · show zaV vm o b (i:Int)=_
      unfold zaV zbu
      rw [zeK hx,zy,hx]
      simp only [cond_true,Option.bind_some]
      rw [zcx (by simp; omega) (by simp; omega),zK (by omega)]
      show cond (gv vm k).Ref _ _=_
      cases (gv vm k).Ref <;> rfl
    · show (cond (gv vm k).Ref (b++[k]) b).length≤i+1
      cases (gv vm k).Ref <;> simp <;> omega) (fun b hI=>by
    show zaV vm o b (o.length:Int)=_
    unfold zaV
    rw [ze4]; rfl) (b0:=[]) (Nat.zero_le _)
  rw [key.1,zim]
  rfl
theorem ztt {L:List za} {m sm:List (Tx×Int)} {vm:Vm} {o:List Tx} (ho:o.length≤1000):zcQ L m sm vm o=some ((o.filter (fun k=>(gv vm k).Ref)).map (fun k=>nW (gv vm k))):=by
  unfold zcQ
  rw [zrw ho]
  simp only [Option.bind_some]
  have hl:(o.filter (fun k=>(gv vm k).Ref)).length≤1000:=Nat.le_trans (List.length_filter_le _ _) ho
  generalize o.filter (fun k=>(gv vm k).Ref)=q at hl
  have key:=zgC (β:=List Int) (S:=List Int×Int) (U:=List Int) (R:=List Int) (body:=fun z=>zaU vm q z.1 z.2) (fun b i=>(b,i)) (fun b=>b) (l:=q) (f:=fun a k=>a++[nW (gv vm k)]) (I:=fun b i=>b.length≤i) (fun i k b hI hx=>by
    have hi:=(List.getElem?_eq_some_iff.1 hx).1
    refine ⟨?_,by simp; omega⟩
    show zaU vm q b (i:Int)=_
    unfold zaU
    rw [zeK hx,zy,hx]
    simp only [cond_true,Option.bind_some]
    rw [zcx (by simp; omega) (by simp; omega),zK (by omega)]
    rfl) (fun b hI=>by
    show zaU vm q b (q.length:Int)=_
    unfold zaU
    rw [ze4]; rfl) (b0:=[]) (Nat.zero_le _)
  rw [key.1,zj5]
  rfl
theorem zsB {L:List za} {m sm:List (Tx×Int)} {vm:Vm} {o:List Tx} (ho:o.length≤1000):zb2 L m sm vm o=some (o.filter (fun k=>(gv vm k).Ref)):=by
  unfold zb2
  have key:=zgC (β:=List Tx) (S:=List Tx×Int) (U:=List Tx) (R:=List Tx) (body:=fun z=>zap vm o z.1 z.2) (fun b i=>(b,i)) (fun b=>b) (l:=o) (f:=fun a k=>cond (gv vm k).Ref (a++[k]) a) (I:=fun b i=>b.length≤i) (fun i k b hI hx=>by
    have hi:=(List.getElem?_eq_some_iff.1 hx).1
    refine ⟨?_,?_⟩
    · show zap vm o b (i:Int)=_
      unfold zap za4
      rw [zeK hx,zy,hx]
      simp only [cond_true,Option.bind_some]
      rw [zcx (by simp; omega) (by simp; omega),zK (by omega)]
      show cond (gv vm k).Ref _ _=_
      cases (gv vm k).Ref <;> rfl
    · show (cond (gv vm k).Ref (b++[k]) b).length≤i+1
      cases (gv vm k).Ref <;> simp <;> omega) (fun b hI=>by
    show zap vm o b (o.length:Int)=_
    unfold zap
    rw [ze4]; rfl) (b0:=[]) (Nat.zero_le _)
  rw [key.1,zim]
  rfl
theorem zr5 {L:List za} {m sm:List (Tx×Int)} {vm:Vm} {o:List Tx} (ho:o.length≤1000):zb0 L m sm vm o=some ((o.filter (fun k=>(gv vm k).Ref)).map (fun k=>nW (gv vm k))):=by
  unfold zb0
  rw [zsB ho]
  simp only [Option.bind_some]
  have hl:(o.filter (fun k=>(gv vm k).Ref)).length≤1000:=Nat.le_trans (List.length_filter_le _ _) ho
  generalize o.filter (fun k=>(gv vm k).Ref)=q at hl
  have key:=zgC (β:=List Int) (S:=List Int×Int) (U:=List Int) (R:=List Int) (body:=fun z=>zan vm q z.1 z.2) (fun b i=>(b,i)) (fun b=>b) (l:=q) (f:=fun a k=>a++[nW (gv vm k)]) (I:=fun b i=>b.length≤i) (fun i k b hI hx=>by
    have hi:=(List.getElem?_eq_some_iff.1 hx).1
    refine ⟨?_,by simp; omega⟩
    show zan vm q b (i:Int)=_
    unfold zan
    rw [zeK hx,zy,hx]
    simp only [cond_true,Option.bind_some]
    rw [zcx (by simp; omega) (by simp; omega),zK (by omega)]
    rfl) (fun b hI=>by
    show zan vm q b (q.length:Int)=_
    unfold zan
    rw [ze4]; rfl) (b0:=[]) (Nat.zero_le _)
  rw [key.1,zj5]
  rfl
def ztD (x:Int):Bool:=x == 0||x == 3
def zpM (A:Tx→Int) (l:List Tx):Option Tx:=l.reverse.find? (fun x=>ztD (A x))
theorem zlt {A:Tx→Int} {l:List Tx} {x:Tx}:zpM A (l++[x])=cond (ztD (A x)) (some x) (zpM A l):=by
  unfold zpM
  rw [List.reverse_append,List.reverse_singleton,List.singleton_append,List.find?_cons]
  cases ztD (A x) <;> rfl
theorem znz {l:List Tx} {j:Nat} {x:Tx} (h:l[j]?=some x):l.take (j+1)=l.take j++[x]:=by
  rw [List.take_add_one,h]; rfl
theorem zly {sm:List (Tx×Int)} {l:List Tx} (hl:l.length≤1000):∀ j,j≤l.length→zu (fun z=>zam sm l z) ((j:Int) - 1)=some (match zpM (fun x=>(zw x sm).getD 0) (l.take j) with | some x=>.inr (x,(zw x sm).getD 0) | none=>.inl ())
  | 0,_=>by
    rw [zH]
    show (zam sm l (((0:Nat):Int) - 1)).bind _=_
    unfold zam
    rw [decide_eq_false (by omega)]
    rfl
  | j+1,hj=>by
    have hx:l[j]?=some l[j]:=List.getElem?_eq_getElem (by omega)
    generalize l[j]=x at hx
    have e1:(((j+1:Nat):Int) - 1)=(j:Int):=by omega
    rw [e1,zH,znz hx,zlt]
    show (zam sm l (j:Int)).bind _=_
    unfold zam
    rw [decide_eq_true (by omega),zy,hx,zjk (by omega) (by omega)]
    simp only [cond_true,Option.bind_some]
    rw [show (((zw x sm).getD 0 == (0:Int))||((zw x sm).getD 0 == (3:Int)))=ztD ((zw x sm).getD 0) from rfl]
    cases ztD ((zw x sm).getD 0) with
    | true=>rfl
    | false=>exact zly hl j (by omega)
theorem zjv {L:List za} {at_:List Int} {l:List Tx} {A:Tx→Int} {v:Tx×Int} (hL:L.length≤1000) (hl:l.length≤1000) (hA:∀ x∈l,idx at_ (atN L x)=some (A x)):∀ j,j≤l.length→zu (fun z=>zcg L at_ l v z) ((j:Int) - 1)=some (match zpM A (l.take j) with | some x=>.inr ((v.1 == x)&&(v.2 == A x)) | none=>.inl ())
  | 0,_=>by
    rw [zH]
    show (zcg L at_ l v (((0:Nat):Int) - 1)).bind _=_
    unfold zcg
    rw [decide_eq_false (by omega)]
    rfl
  | j+1,hj=>by
    have hx:l[j]?=some l[j]:=List.getElem?_eq_getElem (by omega)
    have hm:l[j]∈l:=List.getElem_mem _
    generalize l[j]=x at hx hm
    have e1:(((j+1:Nat):Int) - 1)=(j:Int):=by omega
    rw [e1,zH,znz hx,zlt]
    show (zcg L at_ l v (j:Int)).bind _=_
    unfold zcg
    rw [decide_eq_true (by omega),zy,hx,zjk (by omega) (by omega)]
    simp only [cond_true,Option.bind_some]
    rw [zlM hL]
    simp only [Option.bind_some]
    rw [hA x hm]
    simp only [Option.bind_some]
    rw [show ((A x == (0:Int))||(A x == (3:Int)))=ztD (A x) from rfl]
    cases ztD (A x) with
    | true=>rfl
    | false=>exact zjv hL hl hA j (by omega)
structure zqf (L:List za) (sm:List (Tx×Int)) (at_:List Int):Prop where
  len:at_.length=L.length
  on:∀ (i:Nat) c a,L[i]?=some c→at_[i]?=some a→zw c.Name sm=some a
theorem zqf.get {L:List za} {sm:List (Tx×Int)} {at_:List Int} (h:zqf L sm at_) {i:Nat} {c:za} (hi:L[i]?=some c):∃ a,at_[i]?=some a∧zw c.Name sm=some a:=by
  have h1:i < at_.length:=by rw [h.len]; exact (List.getElem?_eq_some_iff.1 hi).1
  exact ⟨_,List.getElem?_eq_getElem h1,h.on i c _ hi (List.getElem?_eq_getElem h1)⟩
theorem zt7 {l L:List za} {m sm:List (Tx×Int)} {vm:Vm} {o:List Tx} {at_:List Int} (h:zmB l L) (hm:zeI L m) (ha:zqf L sm at_) (n:Tx):zgh L m sm vm o L at_ n=some true:=by
  have h26:=h.len
  have hs:=zsO h n
  have hA:∀ x∈zuu L n,idx at_ (atN L x)=some ((zw x sm).getD 0):=fun x hx=>by
    obtain ⟨c,hc,e⟩:=List.mem_map.1 (zui h hx)
    obtain ⟨i,hi,ei⟩:=List.getElem_of_mem hc
    have hi':L[i]?=some c:=by rw [List.getElem?_eq_getElem hi,ei]
    obtain ⟨a,h1,h2⟩:=ha.get hi'
    rw [← e,h.nd.at hi',zy,h1,h2]
    rfl
  unfold zgh zcL
  rw [zms h n,zrI h hm n]
  simp only [Option.bind_some]
  generalize zuu L n=q at hs hA
  have e1:IntKind.i64.wrap (((q.length:Nat):Int) - 1)=((q.length:Nat):Int) - 1:=zjk (by omega) (by omega)
  rw [e1,zly (by omega) _ (Nat.le_refl _),List.take_length]
  cases hb:zpM (fun x=>(zw x sm).getD 0) q with
  | none =>
    simp only [Option.bind_some,zQ,zb5]
    rw [zjv (by omega) (by omega) hA _ (Nat.le_refl _),List.take_length,hb]
    rfl
  | some x =>
    simp only [Option.bind_some,zQ]
    rw [zjv (by omega) (by omega) hA _ (Nat.le_refl _),List.take_length,hb]
    simp
theorem ztN {L:List za} {m sm:List (Tx×Int)} {vm:Vm} {o:List Tx} (hk:Kn L) {c:za} {f:zt} (hc:c∈L) (hf:f∈c.Fields):zcq L m sm vm o c.Name f.Name=some (gv vm (sk c f),(zw (sk c f) vm).isSome):=by
  unfold zcq
  rw [zsJ (hk.cn c hc) (hk.fn c hc f hf)]
  rfl
theorem zoF {F:List zt} {k:Nat} {f:zt} (h:F[k]?=some f):((F.take (k+1)).filter sr).length=((F.take k).filter sr).length+(cond (sr f) 1 0):=by
  rw [List.take_add_one,h,List.filter_append,List.length_append]
  cases hs:sr f <;> simp [hs]
theorem zmt {L:List za} {i:Nat} {c:za} (h:L[i]?=some c):(rkL (L.take (i+1))).length=(rkL (L.take i)).length+(c.Fields.filter sr).length:=by
  rw [List.take_add_one,h]
  unfold rkL
  rw [List.flatMap_append,List.length_append]
  simp [rkC]
theorem znu {L:List za} (hk:Kn L) (hl:L.length≤26):(rkL L).length≤208:=by
  have h1:=zmj hk hl
  have h2:(rkL L)=(zfg L).filter (fun k=>(rkL L).any (fun y=>y == k)&&true)∨True:=.inr trivial
  have key:∀ (r:List za),(rkL r).length≤(zfg r).length:=by
    intro r
    induction r with
    | nil=>simp [rkL,zfg]
    | cons c r ih =>
      have h4:zfg (c :: r)=zoZ c++zfg r:=rfl
      have h5:rkL (c :: r)=rkC c++rkL r:=rfl
      have h6:(rkC c).length≤(zoZ c).length:=by
        unfold rkC zoZ
        rw [List.length_map,List.length_map]
        generalize c.Fields=F
        induction F with
        | nil=>simp
        | cons f F ihF =>
          rw [List.filter_cons,List.filter_cons]
          cases hs:f.Static <;> cases hr:zjC f <;> simp [sr,hs,hr] <;> omega
      rw [h4,h5,List.length_append,List.length_append]
      omega
  have:=key L
  omega
theorem zuk {L:List za} {m sm:List (Tx×Int)} {vm:Vm} {o:List Tx} {e:List (List ze)} (hk:Kn L) (hl:L.length≤26) (hs:Sh L e) (hv:zpq L e vm) {i:Nat} {c:za} (hi:L[i]?=some c) :
    zu (fun z=>zby L m sm vm o e ((rkL L).map (fun k=>nW (gv vm k))) (i:Int) c z.1 z.2) (((rkL (L.take i)).length:Int),0)=some (.inl (((rkL (L.take (i+1))).length:Nat):Int)):=by
  have hc:=List.mem_of_getElem? hi
  have hfew:=hk.few c hc
  have hrk:=znu hk hl
  have key:=zgC (β:=Nat) (S:=Int×Int) (U:=Int) (R:=Bool) (body:=fun z=>zby L m sm vm o e ((rkL L).map (fun k=>nW (gv vm k))) (i:Int) c z.1 z.2) (fun b k=>((b:Int),k)) (fun b=>(b:Int)) (l:=c.Fields) (f:=fun b f=>b+cond (sr f) 1 0) (I:=fun b k=>b=(rkL (L.take i)).length+((c.Fields.take k).filter sr).length) (fun k f b hI hx=>by
    have hki:=(List.getElem?_eq_some_iff.1 hx).1
    have hf:=List.mem_of_getElem? hx
    obtain ⟨r,x,h1,h2,h3⟩:=hs.get hi hx
    have h4:=hv i k c r f x hi h1 hx h2
    refine ⟨?_,by rw [zoF hx]; omega⟩
    show zby L m sm vm o e _ (i:Int) c (b:Int) (k:Int)=_
    unfold zby zcV zcW zcs
    rw [zeK hx,zy,hx]
    simp only [cond_true,Option.bind_some]
    rw [ztN hk hc hf,h4]
    simp only [Option.bind_some]
    cases hst:f.Static with
    | false =>
      simp only [cond_false,Option.isSome_none,beq_self_eq_true,Bool.not_true,Bool.not_false,cond_true]
      rw [zK (by omega)]
      simp [sr,hst]
    | true =>
      have h5:gv vm (sk c f)=x:=by unfold gv; rw [h4,hst]; rfl
      simp only [cond_true,Option.isSome_some,beq_self_eq_true,Bool.not_true,cond_false,zy,h1,h2,Option.bind_some,h5]
      rw [zK (by omega:k < 9223372036854775807)]
      cases hr:zjC f with
      | false =>
        rw [h3,hr]
        simp [sr,hst,hr]
      | true =>
        rw [h3,hr]
        have hsr:sr f=true:=by simp [sr,hst,hr]
        have h6:=zvo hi hx hsr
        rw [← hI] at h6
        have h7:b < (rkL L).length:=(List.getElem?_eq_some_iff.1 h6).1
        have h8:((rkL L).map (fun k=>nW (gv vm k)))[b]?=some (nW x):=by rw [List.getElem?_map,h6]; simp [h5]
        have h9:decide ((((rkL L).map (fun k=>nW (gv vm k))).length:Int)≤(b:Int))=false:=decide_eq_false (by rw [List.length_map]; omega)
        simp only [cond_true,h9,cond_false,h8,Option.bind_some]
        rw [zK (by omega:b < 9223372036854775807)]
        simp [nW,hsr]) (fun b hI=>by
    show zby L m sm vm o e _ (i:Int) c (b:Int) (c.Fields.length:Int)=_
    unfold zby
    rw [ze4]; rfl) (b0:=(rkL (L.take i)).length) (by simp)
  rw [key.1,key.2,List.take_length,zmt hi]
theorem zrR {l L:List za} {m sm:List (Tx×Int)} {vm:Vm} {at_:List Int} {e:List (List ze)} (h:zmB l L) (hm:zeI L m) (hk:Kn L) (ha:zqf L sm at_) (hs:Sh L e) (hv:zpq L e vm):zeM L m sm vm (zfg L) L at_ e=some true:=by
  have h26:=h.len
  have hof:=zmj hk h26
  have hrk:=znu hk h26
  unfold zeM
  rw [zr5 (by omega),hv.refs hs]
  simp only [Option.bind_some]
  have key:=zgC (β:=Nat) (S:=Int×Int) (U:=Int) (R:=Bool) (body:=fun z=>zbN L m sm vm (zfg L) L at_ e ((rkL L).map (fun k=>nW (gv vm k))) z.1 z.2) (fun b k=>((b:Int),k)) (fun b=>(b:Int)) (l:=L) (f:=fun b c=>b+(c.Fields.filter sr).length) (I:=fun b i=>b=(rkL (L.take i)).length) (fun i c b hI hx=>by
    have hii:=(List.getElem?_eq_some_iff.1 hx).1
    obtain ⟨a,a1,a2⟩:=ha.get hx
    refine ⟨?_,by rw [zmt hx,hI]⟩
    show zbN L m sm vm (zfg L) L at_ e _ (b:Int) (i:Int)=_
    unfold zbN zcU zeY zv
    rw [zeK hx,zy,hx,zy,a1]
    simp only [cond_true,Option.bind_some,a2,Option.getD_some,beq_self_eq_true,Bool.not_true,cond_false,zt7 h hm ha c.Name]
    rw [hI,zuk hk h26 hs hv hx]
    simp only [Option.bind_some,zQ]
    rw [zK (by omega),zmt hx]) (fun b hI=>by
    show zbN L m sm vm (zfg L) L at_ e _ (b:Int) (L.length:Int)=_
    unfold zbN
    rw [ze4]; rfl) (b0:=0) (by simp [rkL])
  have k1:=key.1
  simp only [Int.ofNat_zero] at k1
  rw [show ((0:Int),(0:Int))=(((0:Nat):Int),(0:Int)) from rfl,key.1,key.2,List.take_length]
  simp [zQ,zeZ]
end Go.Proofs.YthmnlfenkhmmhaaGreat
namespace Go.Proofs.YthmnlfenkhmmhaaGreat
set_option linter.unusedSimpArgs false
set_option linter.unusedVariables false
section
variable {l L : List za} {m sm : List (Tx × Int)} {vm : Vm} {o : List Tx} {at_ : List Int} {e : List (List ze)}
theorem zqf.set (h:zmB l L) (ha:zqf L sm at_) {i:Nat} {c:za} (hi:L[i]?=some c) (x:Int):zqf L (zat c.Name x sm) (at_.set i x):=by
  refine ⟨by rw [List.length_set]; exact ha.len,fun j d a hj haj=>?_⟩
  rw [zbV]
  by_cases en:d.Name=c.Name
  · have hij:=h.nd j i d c hj hi en
    subst hij
    rw [if_pos en]
    have hl:j < at_.length:=by rw [ha.len]; exact (List.getElem?_eq_some_iff.1 hj).1
    rw [List.getElem?_set_self hl] at haj
    exact haj.symm ▸ rfl
  · rw [if_neg en]
    have hij:i≠j:=fun e=>by subst e; rw [hi] at hj; cases hj; exact en rfl
    rw [List.getElem?_set_ne hij] at haj
    exact ha.on j d a hj haj
theorem zvq (ha:zqf L sm at_) {i:Nat} {c:za} (hi:L[i]?=some c) (x:Int):zd L m sm vm o c.Name x=cond (decide (x < 0)||decide (3 < x)) sm (zat c.Name x sm):=by
  obtain ⟨a,_,h2⟩:=ha.get hi
  unfold zd
  rw [h2]
  rfl
theorem zvp {x:Int}:(decide (0≤x)&&decide (x≤3))=!(decide (x < 0)||decide (3 < x)):=by
  by_cases h1:x < 0 <;> by_cases h2:3 < x <;> simp [h1,h2] <;> omega
theorem ztO (hk:Kn L) {c:za} {f:zt} (hc:c∈L) (hf:f∈c.Fields):zbD L m sm vm o c.Name f.Name=some (gv vm (sk c f),(zw (sk c f) vm).isSome):=by
  unfold zbD
  rw [zsJ (hk.cn c hc) (hk.fn c hc f hf)]
  rfl
theorem zvf (hk:Kn L) (hs:Sh L e) (hv:zpq L e vm) {i k:Nat} {c:za} {f:zt} (hi:L[i]?=some c) (hf:c.Fields[k]?=some f) (v:ze) :
    zbE L m sm vm o c.Name f.Name v=some (f.Static&&(v.Ref == zjC f),cond (f.Static&&(v.Ref == zjC f)) (zat (sk c f) v vm) vm):=by
  have hc:=List.mem_of_getElem? hi
  have hfm:=List.mem_of_getElem? hf
  obtain ⟨r,x,h1,h2,h3⟩:=hs.get hi hf
  have h4:=hv i k c r f x hi h1 hf h2
  unfold zbE
  rw [ztO hk hc hfm,h4]
  simp only [Option.bind_some]
  cases hst:f.Static with
  | false=>simp
  | true =>
    have h5:gv vm (sk c f)=x:=by unfold gv; rw [h4,hst]; rfl
    rw [h5,zsJ (hk.cn c hc) (hk.fn c hc f hfm),h3]
    have e1:(zjC f == v.Ref)=(v.Ref == zjC f):=by cases zjC f <;> cases v.Ref <;> rfl
    simp only [cond_true,Option.isSome_some,Bool.not_true,Bool.false_or,Bool.true_and,Option.bind_some,e1]
    cases v.Ref == zjC f <;> rfl
theorem zpq.put (hk:Kn L) (hv:zpq L e vm) {i k:Nat} {c:za} {f:zt} {row:List ze} (hi:L[i]?=some c) (hf:c.Fields[k]?=some f) (hst:f.Static=true) (hr:e[i]?=some row) (hkr:k < row.length) (v:ze):zpq L (e.set i (row.set k v)) (zat (sk c f) v vm):=by
  have hie:i < e.length:=(List.getElem?_eq_some_iff.1 hr).1
  intro j q d r g x hj hr2 hg hx
  rw [zbV]
  by_cases ek:sk d g=sk c f
  · obtain ⟨rfl,rfl⟩:=hk.inj j i q k d c g f hj hi hg hf ek
    rw [hi] at hj; cases hj
    rw [hf] at hg; cases hg
    rw [if_pos ek]
    rw [List.getElem?_set_self hie] at hr2
    cases hr2
    rw [List.getElem?_set_self hkr] at hx
    cases hx
    rw [hst]; rfl
  · rw [if_neg ek]
    by_cases eij:i=j
    · subst eij
      rw [List.getElem?_set_self hie] at hr2
      cases hr2
      rw [hi] at hj; cases hj
      have hne:k≠q:=fun e=>by subst e; rw [hf] at hg; cases hg; exact ek rfl
      rw [List.getElem?_set_ne hne] at hx
      exact hv i q c row g x hi hr hg hx
    · rw [List.getElem?_set_ne eij] at hr2
      exact hv j q d r g x hj hr2 hg hx
theorem Sh.set (hs:Sh L e) {i k:Nat} {c:za} {f:zt} {row:List ze} (hi:L[i]?=some c) (hf:c.Fields[k]?=some f) (hr:e[i]?=some row) {v:ze} (hv:v.Ref=zjC f):Sh L (e.set i (row.set k v)):=by
  have hie:i < e.length:=(List.getElem?_eq_some_iff.1 hr).1
  have hkr:k < row.length:=by rw [hs.row i c row hi hr]; exact (List.getElem?_eq_some_iff.1 hf).1
  refine ⟨by rw [List.length_set]; exact hs.len,fun j d r hj hr2=>?_,fun j q d r g x hj hr2 hg hx=>?_⟩
  · by_cases eij:i=j
    · subst eij
      rw [List.getElem?_set_self hie] at hr2
      cases hr2
      rw [List.length_set]
      exact hs.row i d row hj hr
    · rw [List.getElem?_set_ne eij] at hr2
      exact hs.row j d r hj hr2
  · by_cases eij:i=j
    · subst eij
      rw [List.getElem?_set_self hie] at hr2
      cases hr2
      by_cases ekq:k=q
      · subst ekq
        rw [List.getElem?_set_self hkr] at hx
        cases hx
        rw [hi] at hj; cases hj
        rw [hf] at hg; cases hg
        exact hv
      · rw [List.getElem?_set_ne ekq] at hx
        exact hs.ref i q d row g x hj hr hg hx
    · rw [List.getElem?_set_ne eij] at hr2
      exact hs.ref j q d r g x hj hr2 hg hx
theorem zrz {k:Tx}:∀ {L:List za},k∈rkL L→∃ (i q:Nat) (c:za) (f:zt),L[i]?=some c∧c.Fields[q]?=some f∧sr f=true∧k=sk c f
  | [],h=>by simp [rkL] at h
  | c :: r,h=>by
    have h5:rkL (c :: r)=rkC c++rkL r:=rfl
    rw [h5] at h
    rcases List.mem_append.1 h with h | h
    · unfold rkC at h
      obtain ⟨f,hf,rfl⟩:=List.mem_map.1 h
      obtain ⟨h1,h2⟩:=List.mem_filter.1 hf
      obtain ⟨q,hq,eq⟩:=List.getElem_of_mem h1
      exact ⟨0,q,c,f,rfl,by rw [List.getElem?_eq_getElem hq,eq],h2,rfl⟩
    · obtain ⟨i,q,d,f,h1,h2,h3,h4⟩:=zrz h
      exact ⟨i+1,q,d,f,by simpa using h1,h2,h3,h4⟩
theorem zv8 (hk:Kn L):(rkL L).Nodup:=by
  have key:∀ (r pre:List za),L=pre++r→(rkL r).Nodup:=by
    intro r
    induction r with
    | nil=>intro pre _; simp [rkL]
    | cons c r ih =>
      intro pre e
      have hc:L[pre.length]?=some c:=by rw [e]; simp
      have h5:rkL (c :: r)=rkC c++rkL r:=rfl
      rw [h5,List.nodup_append]
      refine ⟨?_,ih (pre++[c]) (by rw [e]; simp),fun a ha b hb eab=>?_⟩
      · unfold rkC
        have h0:c.Fields.Pairwise (fun f g=>sk c f≠sk c g):=by
          rw [List.pairwise_iff_getElem]
          intro a b hA hB hab ek
          have:=(hk.inj pre.length pre.length a b c c _ _ hc hc (List.getElem?_eq_getElem hA) (List.getElem?_eq_getElem hB) ek).2
          omega
        exact List.pairwise_map.2 (h0.filter _)
      · subst eab
        unfold rkC at ha
        obtain ⟨f,hf,rfl⟩:=List.mem_map.1 ha
        obtain ⟨q,hq,eq⟩:=List.getElem_of_mem (List.mem_filter.1 hf).1
        obtain ⟨i,q2,d,g,h1,h2,_,h4⟩:=zrz hb
        have hd:L[pre.length+1+i]?=some d:=by
          rw [e,List.getElem?_append_right (by omega),show pre.length+1+i - pre.length=i+1 by omega]
          simpa using h1
        have:=(hk.inj pre.length (pre.length+1+i) q q2 c d f g hc hd (by rw [List.getElem?_eq_getElem hq,eq]) h2 h4).1
        omega
  exact key L [] rfl
def zra (q:Nat):Int:=IntKind.i32.wrap (IntKind.i64.wrap (6+(q:Int)))
theorem zp7 (hk:Kn L) (hl:L.length≤26) (hs:Sh L e) (hv:zpq L e vm) {r:List Int} (hr:r.length=(rkL L).length) (hr5:∀ (q:Nat) x,r[q]?=some x→x=5+(q:Int)) :
    ∃ vm',zb1 L m sm vm (zfg L) r=some vm'∧(∀ (q:Nat) key,(rkL L)[q]?=some key→zw key vm'=some (ze.mk true (zra q)))∧∀ key,key ∉ rkL L→zw key vm'=zw key vm:=by
  have hof:=zmj hk hl
  have hrk:=znu hk hl
  have hnd:=zv8 hk
  unfold zb1
  rw [zrw (by omega),hv.refs hs]
  simp only [Option.bind_some]
  rw [show ((((rkL L).length:Nat):Int) == ((r.length:Nat):Int))=true by rw [hr]; exact beq_self_eq_true _]
  simp only [Bool.not_true,cond_false]
  obtain ⟨b,h1,h2,h3⟩:=zfl (β:=Vm) (S:=Vm×Int) (U:=Vm) (R:=Vm) (body:=fun z=>zao r (rkL L) z.1 z.2) (fun b i=>(b,i)) (fun b=>b) (n:=r.length)
    (I:=fun b j=>(∀ (q:Nat) key,(rkL L)[q]?=some key→q < j→zw key b=some (ze.mk true (zra q)))∧∀ key,(∀ q,q < j→(rkL L)[q]?≠some key)→zw key b=zw key vm) (fun j b hI hj=>by
      have hx:r[j]?=some r[j]:=List.getElem?_eq_getElem hj
      have h5:=hr5 j _ hx
      have hR:(rkL L)[j]?=some ((rkL L)[j]'(by omega)):=List.getElem?_eq_getElem _
      generalize (rkL L)[j]'(by omega)=K at hR
      refine ⟨zat K (ze.mk true (zra j)) b,?_,fun q key hq hqj=>?_,fun key hkey=>?_⟩
      · show zao r (rkL L) b (j:Int)=_
        unfold zao
        rw [zeK hx,zy,hx,zy,hR]
        simp only [cond_true,Option.bind_some]
        rw [zK (by omega),h5,show (5+(j:Int)+1)=6+(j:Int) by omega]
        rfl
      · rw [zbV]
        by_cases ek:key=K
        · subst ek
          have:q=j:=(List.getElem?_inj (List.getElem?_eq_some_iff.1 hq).1 hnd).1 (hq.trans hR.symm)
          subst this
          rw [if_pos rfl]
        · rw [if_neg ek]
          have hne:q≠j:=fun e=>by subst e; rw [hR] at hq; cases hq; exact ek rfl
          exact hI.1 q key hq (by omega)
      · rw [zbV,if_neg (fun e=>hkey j (by omega) (by rw [hR,e]))]
        exact hI.2 key fun q hq=>hkey q (by omega)) (fun b hI=>by
      show zao r (rkL L) b (r.length:Int)=_
      unfold zao
      rw [ze4]; rfl) (b0:=vm) ⟨fun q key _ h=>absurd h (by omega),fun key _=>rfl⟩
  refine ⟨b,by rw [h1]; rfl,fun q key hq=>h2 q key hq (by rw [hr]; exact (List.getElem?_eq_some_iff.1 hq).1),fun key hkey=>h3 key fun q _ hq=>hkey (List.mem_of_getElem? hq)⟩
def zhO (L:List za):List (List ze):=L.map fun c=>c.Fields.map fun f=>ze.mk (zjC f) 0
def at0 (n:Nat):List Int:=(List.range n).map fun i=>if i < 10 then 2 else 0
def VmP (L:List za) (i k:Nat) (vm:Vm):Prop :=
  ∀ (j q:Nat) d g,L[j]?=some d→d.Fields[q]?=some g→zw (sk d g) vm=cond (g.Static&&(decide (j < i)||(decide (j=i)&&decide (q < k)))) (some (ze.mk (zjC g) 0)) none
theorem VmP.next {i:Nat} {c:za} (hi:L[i]?=some c) (h:VmP L i c.Fields.length vm):VmP L (i+1) 0 vm:=fun j q d g hj hq=>by
  rw [h j q d g hj hq]
  have:(decide (j < i)||(decide (j=i)&&decide (q < c.Fields.length)))=(decide (j < i+1)||(decide (j=i+1)&&decide (q < 0))):=by
    by_cases e:j=i
    · subst e
      rw [hi] at hj; cases hj
      have:=(List.getElem?_eq_some_iff.1 hq).1
      simp [this]
    · by_cases e2:j < i
      · simp [e2]; omega
      · have e3:¬ j < i+1:=by omega
        simp [e2,e3,e]
  rw [this]
theorem VmP.put (hk:Kn L) {i k:Nat} {c:za} {f:zt} (hi:L[i]?=some c) (hf:c.Fields[k]?=some f) (h:VmP L i k vm):VmP L i (k+1) (cond f.Static (zat (sk c f) (ze.mk (zjC f) 0) vm) vm):=fun j q d g hj hq=>by
  by_cases ek:sk d g=sk c f
  · obtain ⟨rfl,rfl⟩:=hk.inj j i q k d c g f hj hi hq hf ek
    rw [hi] at hj; cases hj
    rw [hf] at hq; cases hq
    cases hst:f.Static with
    | true=>simp [zbV]
    | false =>
      have:=h j q c f hi hf
      rw [hst] at this
      simpa using this
  · have h0:zw (sk d g) (cond f.Static (zat (sk c f) (ze.mk (zjC f) 0) vm) vm)=zw (sk d g) vm:=by
      cases f.Static
      · rfl
      · show zw _ (zat _ _ _)=_
        rw [zbV,if_neg ek]
    rw [h0,h j q d g hj hq]
    have hne:¬ (j=i∧q=k):=fun ⟨e1,e2⟩=>by
      subst e1; subst e2
      rw [hi] at hj; cases hj
      rw [hf] at hq; cases hq
      exact ek rfl
    have:(decide (j=i)&&decide (q < k))=(decide (j=i)&&decide (q < k+1)):=by
      by_cases e:j=i
      · have:q≠k:=fun e2=>hne ⟨e,e2⟩
        have h9:(q < k)↔(q < k+1):=by omega
        simp [e,h9]
      · simp [e]
    rw [this]
end
end Go.Proofs.YthmnlfenkhmmhaaGreat
namespace Go.Proofs.YthmnlfenkhmmhaaGreat
set_option linter.unusedSimpArgs false
set_option linter.unusedVariables false
section
variable {l L : List za} {m sm : List (Tx × Int)} {vm : Vm} {o : List Tx} {at_ : List Int} {e : List (List ze)}
theorem zsj:((zaE.length:Nat):Int)=10:=by decide +kernel
theorem zvd {r:List za} (h:∀ c∈r,c.Fields.length≤8):(zfg r).length≤8 * r.length:=by
  induction r with
  | nil=>simp [zfg]
  | cons c r ih =>
    have h1:=ih fun d hd=>h d (List.mem_cons_of_mem _ hd)
    have h2:=h c List.mem_cons_self
    have h3:(zoZ c).length≤c.Fields.length:=by unfold zoZ; rw [List.length_map]; exact List.length_filter_le _ _
    have h4:zfg (c :: r)=zoZ c++zfg r:=rfl
    rw [h4,List.length_append,List.length_cons]
    omega
theorem zsz {i:Nat} {c:za} (h:L[i]?=some c):zfg (L.take (i+1))=zfg (L.take i)++zoZ c:=by
  rw [List.take_add_one,h]
  unfold zfg
  rw [List.flatMap_append]
  simp
theorem zss (hk:Kn L) (hl:L.length≤26) {i:Nat} {c:za} (hi:L[i]?=some c) (hv:VmP L i 0 vm) :
    ∃ vm',zu (fun z=>zcp c.Name (c,true) z.1 z.2.1 z.2.2) (vm,zfg (L.take i),0)=some (.inl (vm',zfg (L.take (i+1))))∧VmP L (i+1) 0 vm':=by
  have hc:=List.mem_of_getElem? hi
  have hfew:=hk.few c hc
  have ho:(zfg (L.take i)).length≤208:=by
    have:=zvd (r:=L.take i) fun d hd=>hk.few d (List.mem_of_mem_take hd)
    have h2:(L.take i).length≤26:=by rw [List.length_take]; omega
    omega
  obtain ⟨b,h1,h2,h3⟩:=zfl (β:=Vm×List Tx) (S:=Vm×List Tx×Int) (U:=Vm×List Tx) (R:=List za×List (Tx×Int)×List (Tx×Int)×Vm×List Tx) (body:=fun z=>zcp c.Name (c,true) z.1 z.2.1 z.2.2) (fun b k=>(b.1,b.2,k)) (fun b=>b) (n:=c.Fields.length)
    (I:=fun b k=>VmP L i k b.1∧b.2=zfg (L.take i)++((c.Fields.take k).filter (·.Static)).map (sk c)) (fun k b hI hkl=>by
      have hx:c.Fields[k]?=some c.Fields[k]:=List.getElem?_eq_getElem hkl
      generalize c.Fields[k]=f at hx
      have hf:=List.mem_of_getElem? hx
      obtain ⟨hI1,hI2⟩:=hI
      have hb2:b.2.length≤216:=by
        rw [hI2,List.length_append,List.length_map]
        have:=List.length_filter_le (fun f:zt=>f.Static) (c.Fields.take k)
        rw [List.length_take] at this
        omega
      refine ⟨(cond f.Static (zat (sk c f) (ze.mk (zjC f) 0) b.1) b.1,cond f.Static (b.2++[sk c f]) b.2),?_,VmP.put hk hi hx hI1,?_⟩
      · show zcp c.Name (c,true) b.1 b.2 (k:Int)=_
        unfold zcp zep
        simp only
        rw [zeK hx,zy,hx]
        simp only [cond_true,Option.bind_some]
        have hm:=hk.may c hc f hf
        have hr:zo5 f.Type_=zjC f:=by unfold zo5 zjC; rw [hm.1,Bool.and_true]
        rw [zsJ (hk.cn c hc) (hk.fn c hc f hf),zir (by unfold Len; have:=hm.2; omega),hr]
        simp only [Option.bind_some]
        rw [zcx (by simp; omega) (by simp; omega),zK (by omega)]
        cases f.Static <;> rfl
      · show cond f.Static (b.2++[sk c f]) b.2=_
        rw [List.take_add_one,hx,List.filter_append,List.map_append,← List.append_assoc,← hI2]
        cases hst:f.Static <;> simp [hst]) (fun b hI=>by
      show zcp c.Name (c,true) b.1 b.2 (c.Fields.length:Int)=_
      unfold zcp
      simp only
      rw [ze4]; rfl) (b0:=(vm,zfg (L.take i))) ⟨hv,by simp⟩
  refine ⟨b.1,?_,VmP.next hi h2⟩
  rw [zsz hi]
  rw [List.take_length] at h3
  have e1:zfg (L.take i)++zoZ c=b.2:=h3.symm
  rw [e1]
  exact h1
theorem zmz (h:zmB l L) (hm:zeI L m) (hk:Kn L):∃ sm vm,zgr (some (zaZ.mk L m))=some (L,m,sm,vm,zfg L)∧(∀ (i:Nat) c,L[i]?=some c→zw c.Name sm=some (if i < 10 then 2 else 0))∧VmP L L.length 0 vm:=by
  have h26:=h.len
  unfold zgr
  simp only [zur]
  rw [zq4 (by omega)]
  simp only [Option.bind_some]
  have hlen:(L.map (·.Name)).length=L.length:=List.length_map ..
  obtain ⟨b,h1,h2,h3,h4⟩:=zfl (β:=List (Tx×Int)×Vm×List Tx) (S:=List (Tx×Int)×Vm×List Tx×Int) (U:=List (Tx×Int)×Vm×List Tx) (R:=List za×List (Tx×Int)×List (Tx×Int)×Vm×List Tx) (body:=fun z=>zco (zaZ.mk L m) (L.map (·.Name)) z.1 z.2.1 z.2.2.1 z.2.2.2) (fun b i=>(b.1,b.2.1,b.2.2,i)) (fun b=>b) (n:=L.length)
    (I:=fun b i=>(∀ (j:Nat) d,j < i→L[j]?=some d→zw d.Name b.1=some (if j < 10 then 2 else 0))∧VmP L i 0 b.2.1∧b.2.2=zfg (L.take i)) (fun i b hI hil=>by
      have hx:L[i]?=some L[i]:=List.getElem?_eq_getElem hil
      generalize L[i]=c at hx
      have hn:(L.map (·.Name))[i]?=some c.Name:=by rw [List.getElem?_map,hx]; rfl
      obtain ⟨hI1,hI2,hI3⟩:=hI
      obtain ⟨vm',k1,k2⟩:=zss hk h26 hx hI2
      refine ⟨(cond (decide ((i:Int) < 10)) (zat c.Name 2 (zat c.Name 0 b.1)) (zat c.Name 0 b.1),vm',zfg (L.take (i+1))),?_,fun j d hj hd=>?_,k2,rfl⟩
      · show zco (zaZ.mk L m) (L.map (·.Name)) b.1 b.2.1 b.2.2 (i:Int)=_
        unfold zco zeo zfq
        rw [zeK hn,zy,hn,zsj]
        simp only [cond_true,Option.bind_some]
        rw [zqC hm,h.nd.cl (List.mem_of_getElem? hx),hI3]
        simp only [Option.bind_some]
        rw [k1]
        simp only [Option.bind_some,zQ]
        rw [zK (by omega)]
        cases decide ((i:Int) < 10) <;> rfl
      · show zw d.Name (cond (decide ((i:Int) < 10)) (zat c.Name 2 (zat c.Name 0 b.1)) (zat c.Name 0 b.1))=_
        by_cases ej:j=i
        · subst ej
          rw [hx] at hd; cases hd
          by_cases h10:j < 10
          · rw [decide_eq_true (by omega),cond_true,zbV,if_pos rfl,if_pos h10]
          · rw [decide_eq_false (by omega),cond_false,zbV,if_pos rfl,if_neg h10]
        · have hne:d.Name≠c.Name:=fun en=>ej (h.nd j i d c hd hx en)
          have:=hI1 j d (by omega) hd
          cases decide ((i:Int) < 10)
          · rw [cond_false,zbV,if_neg hne]; exact this
          · rw [cond_true,zbV,if_neg hne,zbV,if_neg hne]; exact this) (fun b hI=>by
      show zco (zaZ.mk L m) (L.map (·.Name)) b.1 b.2.1 b.2.2 (L.length:Int)=_
      unfold zco
      rw [← hlen,ze4]; rfl) (b0:=([],[],[])) ⟨fun j d hj _=>absurd hj (by omega),fun j q d g hj hq=>by simp [zw],by simp [zfg]⟩
  refine ⟨b.1,b.2.1,?_,fun i c hi=>h2 i c (List.getElem?_eq_some_iff.1 hi).1 hi,h3⟩
  rw [h1,show zfg L=b.2.2 by rw [h4,List.take_length]]
  rfl
theorem sh0:Sh L (zhO L):=by
  refine ⟨by simp [zhO],fun i c r hi hr=>?_,fun i k c r f x hi hr hf hx=>?_⟩
  · unfold zhO at hr
    rw [List.getElem?_map,hi] at hr
    cases hr
    simp
  · unfold zhO at hr
    rw [List.getElem?_map,hi] at hr
    cases hr
    rw [List.getElem?_map,hf] at hx
    cases hx
    rfl
theorem zvx (hv:VmP L L.length 0 vm):zpq L (zhO L) vm:=fun i k c r f x hi hr hf hx=>by
  unfold zhO at hr
  rw [List.getElem?_map,hi] at hr
  cases hr
  rw [List.getElem?_map,hf] at hx
  cases hx
  rw [hv i k c f hi hf,decide_eq_true (List.getElem?_eq_some_iff.1 hi).1]
  simp
theorem zuG (hs:∀ (i:Nat) c,L[i]?=some c→zw c.Name sm=some (if i < 10 then 2 else 0)):zqf L sm (at0 L.length):=by
  refine ⟨by simp [at0],fun i c a hi ha=>?_⟩
  have hl:=(List.getElem?_eq_some_iff.1 hi).1
  unfold at0 at ha
  rw [List.getElem?_map,List.getElem?_range hl] at ha
  cases ha
  exact hs i c hi
end
end Go.Proofs.YthmnlfenkhmmhaaGreat
namespace Go.Proofs.YthmnlfenkhmmhaaGreat
set_option linter.unusedSimpArgs false
set_option linter.unusedVariables false
section
variable {l L : List za} {m sm : List (Tx × Int)} {vm : Vm} {o : List Tx} {at_ : List Int} {e : List (List ze)}
theorem zvW (hk:Kn L) {i:Nat} {c:za} (hi:L[i]?=some c):zu (fun z=>zmu (zE.mk L) (i:Int) z.1 z.2) ([],0)=some (.inl (c.Fields.map fun f=>ze.mk (zjC f) 0)):=by
  have hfew:=hk.few c (List.mem_of_getElem? hi)
  have key:=zgC (β:=List ze) (S:=List ze×Int) (U:=List ze) (R:=Bool) (body:=fun z=>zmu (zE.mk L) (i:Int) z.1 z.2) (fun b k=>(b,k)) (fun b=>b) (l:=c.Fields) (f:=fun b f=>b++[ze.mk (zjC f) 0]) (I:=fun b k=>b.length=k) (fun k f b hI hx=>by
    have hkl:=(List.getElem?_eq_some_iff.1 hx).1
    refine ⟨?_,by simp; omega⟩
    show zmu (zE.mk L) (i:Int) b (k:Int)=_
    unfold zmu
    simp only
    rw [zy,hi]
    simp only [Option.bind_some]
    rw [zeK hx,zy,hx]
    simp only [cond_true,Option.bind_some]
    rw [zcx (by simp; omega) (by simp; omega),zK (by omega)]
    rfl) (fun b hI=>by
    show zmu (zE.mk L) (i:Int) b (c.Fields.length:Int)=_
    unfold zmu
    simp only
    rw [zy,hi]
    simp only [Option.bind_some]
    rw [ze4]; rfl) (b0:=[]) rfl
  rw [key.1,zj5]
  rfl
theorem zvX (hk:Kn L) (hl:L.length≤26):zu (fun z=>zmv (zE.mk L) z.1 z.2.1 z.2.2) (List.replicate L.length 0,[],0)=some (.inl (at0 L.length,zhO L)):=by
  obtain ⟨b,h1,h2,h3,h4⟩:=zfl (β:=List Int×List (List ze)) (S:=List Int×List (List ze)×Int) (U:=List Int×List (List ze)) (R:=Bool) (body:=fun z=>zmv (zE.mk L) z.1 z.2.1 z.2.2) (fun b i=>(b.1,b.2,i)) (fun b=>b) (n:=L.length)
    (I:=fun b i=>b.1.length=L.length∧(∀ j,j < L.length→b.1[j]?=some (if j < i∧j < 10 then 2 else 0))∧b.2=zhO (L.take i)) (fun i b hI hil=>by
      have hx:L[i]?=some L[i]:=List.getElem?_eq_getElem hil
      generalize L[i]=c at hx
      obtain ⟨hI1,hI2,hI3⟩:=hI
      have hb2:b.2.length=i:=by rw [hI3]; simp [zhO]; omega
      have e3:b.2++[c.Fields.map fun f=>ze.mk (zjC f) 0]=zhO (L.take (i+1)):=by
        rw [hI3,List.take_add_one,hx]
        simp [zhO]
      have hj4:∀ a:List Int,zot (zE.mk L) b.2 (i:Int) a=some (.inl (a,zhO (L.take (i+1)),((i+1:Nat):Int))):=fun a=>by
        unfold zot
        rw [zvW hk hx]
        simp only [Option.bind_some,zQ,zsG]
        rw [zcx (by simp; omega) (by simp; omega),zK (by omega),e3]
        rfl
      refine ⟨(if i < 10 then b.1.set i 2 else b.1,zhO (L.take (i+1))),?_,?_,fun j hj=>?_,rfl⟩
      · show zmv (zE.mk L) b.1 b.2 (i:Int)=_
        unfold zmv
        simp only
        rw [zeK hx,hj4,hj4,zy,hI2 i hil]
        simp only [cond_true,Option.bind_some,Int.toNat_natCast]
        by_cases h10:i < 10
        · rw [decide_eq_true (by omega),if_pos h10]; rfl
        · rw [decide_eq_false (by omega),if_neg h10]; rfl
      · show (if i < 10 then b.1.set i 2 else b.1).length=_
        split <;> simp [hI1]
      · show (if i < 10 then b.1.set i 2 else b.1)[j]?=_
        by_cases ej:i=j
        · subst ej
          by_cases h10:i < 10
          · rw [if_pos h10,List.getElem?_set_self (by omega),if_pos ⟨by omega,h10⟩]
          · rw [if_neg h10,hI2 i hj,if_neg (fun h=>h10 h.2),if_neg (fun h=>h10 h.2)]
        · have e9:(if i < 10 then b.1.set i 2 else b.1)[j]?=b.1[j]?:=by
            split
            · rw [List.getElem?_set_ne ej]
            · rfl
          rw [e9,hI2 j hj]
          have:(j < i∧j < 10)↔(j < i+1∧j < 10):=by omega
          simp only [this]) (fun b hI=>by
      show zmv (zE.mk L) b.1 b.2 (L.length:Int)=_
      unfold zmv
      simp only
      rw [ze4]; rfl) (b0:=(List.replicate L.length 0,[])) ⟨by simp,fun j hj=>by simp [hj],by simp [zhO]⟩
  have e1:b.1=at0 L.length:=by
    apply List.ext_getElem?
    intro j
    by_cases hj:j < L.length
    · rw [h3 j hj]
      unfold at0
      rw [List.getElem?_map,List.getElem?_range hj]
      simp [hj]
    · rw [List.getElem?_eq_none (by omega),List.getElem?_eq_none (by simp [at0]; omega)]
  have e2:b.2=zhO L:=by rw [h4,List.take_length]
  rw [h1,← e1,← e2]
theorem zuU {r:List Int} (hr:r.length≤1000):∃ r',zu (fun z=>zjc z.1 z.2) (r,0)=some (.inl r')∧r'.length=r.length∧∀ (q:Nat) x,r'[q]?=some x→x=5+(q:Int):=by
  obtain ⟨b,h1,h2,h3⟩:=zfl (β:=List Int) (S:=List Int×Int) (U:=List Int) (R:=Bool) (body:=fun z=>zjc z.1 z.2) (fun b i=>(b,i)) (fun b=>b) (n:=r.length)
    (I:=fun b i=>b.length=r.length∧∀ (q:Nat) x,q < i→b[q]?=some x→x=5+(q:Int)) (fun i b hI hil=>by
      have hx:b[i]?=some (b[i]'(by have:=hI.1; omega)):=List.getElem?_eq_getElem _
      generalize b[i]'(by have:=hI.1; omega)=y at hx
      refine ⟨b.set i (5+(i:Int)),?_,by rw [List.length_set]; exact hI.1,fun q x hq hqx=>?_⟩
      · show zjc b (i:Int)=_
        unfold zjc
        rw [zeK hx,zy,hx]
        simp only [cond_true,Option.bind_some,Int.toNat_natCast]
        rw [zK (by omega),zjk (by omega) (by omega)]
      · by_cases e:i=q
        · subst e
          rw [List.getElem?_set_self (by have:=hI.1; omega)] at hqx
          cases hqx; rfl
        · rw [List.getElem?_set_ne e] at hqx
          exact hI.2 q x (by omega) hqx) (fun b hI=>by
      show zjc b (r.length:Int)=_
      unfold zjc
      rw [← hI.1,ze4]; rfl) (b0:=r) ⟨rfl,fun q x h _=>absurd h (by omega)⟩
  exact ⟨b,h1,h2,fun q x hq=>h3 q x (by have:=(List.getElem?_eq_some_iff.1 hq).1; omega) hq⟩
structure Upd (c:za) (n:Nat) (r r':List ze):Prop where
  len:r'.length=r.length
  at_:∀ (q:Nat) x f,r[q]?=some x→c.Fields[q]?=some f→r'[q]?=some (if sr f=true then ze.mk true (zra (n+((c.Fields.take q).filter sr).length)) else x)
theorem zuT (hk:Kn L) (hs:Sh L e) {i n:Nat} {c:za} {row:List ze} (hi:L[i]?=some c) (hr:e[i]?=some row) (hn:n≤1000) :
    ∃ row',zu (fun z=>zjb (zE.mk L) (i:Int) z.1 z.2.1 z.2.2) (row,(n:Int),0)=some (.inl (row',((n+(c.Fields.filter sr).length:Nat):Int)))∧Upd c n row row':=by
  have hfew:=hk.few c (List.mem_of_getElem? hi)
  have hrl:=hs.row i c row hi hr
  obtain ⟨b,h1,h2,h3,h4⟩:=zfl (β:=List ze×Nat) (S:=List ze×Int×Int) (U:=List ze×Int) (R:=Bool) (body:=fun z=>zjb (zE.mk L) (i:Int) z.1 z.2.1 z.2.2) (fun b k=>(b.1,(b.2:Int),k)) (fun b=>(b.1,(b.2:Int))) (n:=row.length)
    (I:=fun b k=>b.1.length=row.length∧b.2=n+((c.Fields.take k).filter sr).length∧∀ (q:Nat) x f,row[q]?=some x→c.Fields[q]?=some f→b.1[q]?=some (if q < k∧sr f=true then ze.mk true (zra (n+((c.Fields.take q).filter sr).length)) else x)) (fun k b hI hkl=>by
      obtain ⟨hI1,hI2,hI3⟩:=hI
      have hxr:row[k]?=some row[k]:=List.getElem?_eq_getElem hkl
      have hxf:c.Fields[k]?=some (c.Fields[k]'(by omega)):=List.getElem?_eq_getElem _
      generalize row[k]=x at hxr
      generalize c.Fields[k]'(by omega)=f at hxf
      have hxb:b.1[k]?=some x:=by rw [hI3 k x f hxr hxf,if_neg (fun h=>absurd h.1 (by omega))]
      have hb2:b.2≤1008:=by
        have:=List.length_filter_le sr (c.Fields.take k)
        rw [List.length_take] at this
        omega
      have href:=hs.ref i k c row f x hi hr hxf hxr
      have hsr:(f.Static&&x.Ref)=sr f:=by rw [href]; rfl
      refine ⟨(cond (sr f) (b.1.set k (ze.mk true (zra b.2))) b.1,b.2+cond (sr f) 1 0),?_,?_,by rw [zoF hxf]; show b.2+_=_; omega,fun q y g hq hg=>?_⟩
      · show zjb (zE.mk L) (i:Int) b.1 (b.2:Int) (k:Int)=_
        unfold zjb
        simp only
        rw [zeK hxb,zy,hi,zy,hxb]
        simp only [cond_true,Option.bind_some]
        rw [zy,hxf]
        simp only [Option.bind_some,hsr,Int.toNat_natCast]
        rw [zK (by omega:b.2 < 9223372036854775807),zK (by omega:k < 9223372036854775807)]
        cases hb:sr f with
        | false=>rfl
        | true =>
          have hrt:x.Ref=true:=by
            rw [hb] at hsr
            simp only [Bool.and_eq_true] at hsr
            exact hsr.2
          rw [hrt]
          rfl
      · show (cond (sr f) (b.1.set k (ze.mk true (zra b.2))) b.1).length=_
        cases sr f <;> simp [hI1]
      · show (cond (sr f) (b.1.set k (ze.mk true (zra b.2))) b.1)[q]?=_
        by_cases e:k=q
        · subst e
          rw [hxr] at hq; cases hq
          rw [hxf] at hg; cases hg
          cases hb:sr f with
          | false=>rw [cond_false,hxb,if_neg (fun h=>by cases h.2)]
          | true=>rw [cond_true,List.getElem?_set_self (by omega),if_pos ⟨by omega,rfl⟩,hI2]
        · have e9:(cond (sr f) (b.1.set k (ze.mk true (zra b.2))) b.1)[q]?=b.1[q]?:=by
            cases sr f
            · rfl
            · rw [cond_true,List.getElem?_set_ne e]
          rw [e9,hI3 q y g hq hg]
          have:(q < k∧sr g=true)↔(q < k+1∧sr g=true):=by
            constructor
            · exact fun h=>⟨by omega,h.2⟩
            · exact fun h=>⟨by omega,h.2⟩
          simp only [this]) (fun b hI=>by
      show zjb (zE.mk L) (i:Int) b.1 (b.2:Int) (row.length:Int)=_
      unfold zjb
      simp only
      rw [← hI.1,ze4]; rfl) (b0:=(row,n)) ⟨rfl,by simp,fun q x f hq _=>by rw [if_neg (fun h=>absurd h.1 (by omega))]; exact hq⟩
  refine ⟨b.1,?_,h2,fun q x f hq hf=>?_⟩
  · rw [hrl,List.take_length] at h3
    rw [← h3]
    exact h1
  · rw [h4 q x f hq hf]
    have hql:=(List.getElem?_eq_some_iff.1 hq).1
    simp only [hql,true_and]
theorem zuc (i:Nat):(rkL (L.take i)).length≤(rkL L).length:=by
  have e1:rkL L=rkL (L.take i)++rkL (L.drop i):=by
    conv=>lhs; rw [← List.take_append_drop i L]
    unfold rkL
    rw [List.flatMap_append]
  rw [e1,List.length_append]
  omega
theorem zvY (hk:Kn L) (hl:L.length≤26) (hs:Sh L e):∃ e',zu (fun z=>zmw (zE.mk L) z.1 z.2.1 z.2.2) (e,0,0)=some (.inl e')∧e'.length=e.length∧∀ (i:Nat) c r,L[i]?=some c→e[i]?=some r→∃ r',e'[i]?=some r'∧Upd c (rkL (L.take i)).length r r':=by
  have hrk:=znu hk hl
  obtain ⟨b,h1,h2,h3,h4⟩:=zfl (β:=List (List ze)×Nat) (S:=List (List ze)×Int×Int) (U:=List (List ze)) (R:=Bool) (body:=fun z=>zmw (zE.mk L) z.1 z.2.1 z.2.2) (fun b j=>(b.1,(b.2:Int),j)) (fun b=>b.1) (n:=L.length)
    (I:=fun b j=>b.1.length=e.length∧b.2=(rkL (L.take j)).length∧(∀ (i:Nat) c r,i < j→L[i]?=some c→e[i]?=some r→∃ r',b.1[i]?=some r'∧Upd c (rkL (L.take i)).length r r')∧∀ i,j≤i→b.1[i]?=e[i]?) (fun j b hI hjl=>by
      obtain ⟨hI1,hI2,hI3,hI4⟩:=hI
      have hx:L[j]?=some L[j]:=List.getElem?_eq_getElem hjl
      generalize L[j]=c at hx
      have hje:j < e.length:=by rw [hs.len]; exact hjl
      have hr:e[j]?=some e[j]:=List.getElem?_eq_getElem hje
      generalize e[j]=row at hr
      have hrb:b.1[j]?=some row:=by rw [hI4 j (Nat.le_refl _)]; exact hr
      have hn:b.2≤1000:=by
        have h9:=zuc (L:=L) j
        omega
      obtain ⟨row',k1,k2⟩:=zuT hk hs hx hr hn
      refine ⟨(b.1.set j row',b.2+(c.Fields.filter sr).length),?_,by rw [List.length_set]; exact hI1,by rw [zmt hx,hI2],fun i d r hi hd hr2=>?_,fun i hi=>?_⟩
      · show zmw (zE.mk L) b.1 (b.2:Int) (j:Int)=_
        unfold zmw
        simp only
        rw [zeK hx,zy,hrb]
        simp only [cond_true,Option.bind_some]
        rw [k1]
        simp only [Option.bind_some,zQ,Int.toNat_natCast]
        rw [zK (by omega)]
      · by_cases e1:j=i
        · subst e1
          rw [hx] at hd; cases hd
          rw [hr] at hr2; cases hr2
          refine ⟨row',List.getElem?_set_self (by omega),?_⟩
          rw [hI2] at k2
          exact k2
        · show ∃ r',(b.1.set j row')[i]?=some r'∧_
          rw [List.getElem?_set_ne e1]
          exact hI3 i d r (by omega) hd hr2
      · show (b.1.set j row')[i]?=_
        rw [List.getElem?_set_ne (by omega)]
        exact hI4 i (by omega)) (fun b hI=>by
      show zmw (zE.mk L) b.1 (b.2:Int) (L.length:Int)=_
      unfold zmw
      simp only
      rw [ze4]; rfl) (b0:=(e,0)) ⟨rfl,by simp [rkL],fun i c r h=>absurd h (by omega),fun i _=>rfl⟩
  exact ⟨b.1,h1,h2,fun i c r hi hr=>h4.1 i c r (List.getElem?_eq_some_iff.1 hi).1 hi hr⟩
theorem zv7 (hk:Kn L) (hs:Sh L e) (hv:zpq L e vm) {e':List (List ze)} {vm':Vm} (hl:e'.length=e.length) (hu:∀ (i:Nat) c r,L[i]?=some c→e[i]?=some r→∃ r',e'[i]?=some r'∧Upd c (rkL (L.take i)).length r r')
    (h1:∀ (q:Nat) key,(rkL L)[q]?=some key→zw key vm'=some (ze.mk true (zra q))) (h2:∀ key,key ∉ rkL L→zw key vm'=zw key vm):Sh L e'∧zpq L e' vm':=by
  have back:∀ (i k:Nat) c r' f x',L[i]?=some c→e'[i]?=some r'→c.Fields[k]?=some f→r'[k]?=some x'→∃ r x,e[i]?=some r∧r[k]?=some x∧x.Ref=zjC f∧x'=(if sr f=true then ze.mk true (zra ((rkL (L.take i)).length+((c.Fields.take k).filter sr).length)) else x):=fun i k c r' f x' hi hr' hf hx'=>by
    obtain ⟨r,x,k1,k2,k3⟩:=hs.get hi hf
    obtain ⟨r2,k4,k5⟩:=hu i c r hi k1
    rw [hr'] at k4; cases k4
    have k6:=k5.at_ k x f k2 hf
    rw [hx'] at k6
    exact ⟨r,x,k1,k2,k3,by cases k6; rfl⟩
  refine ⟨⟨by rw [hl]; exact hs.len,fun i c r' hi hr'=>?_,fun i k c r' f x' hi hr' hf hx'=>?_⟩,fun i k c r' f x' hi hr' hf hx'=>?_⟩
  · have hie:i < e.length:=by rw [hs.len]; exact (List.getElem?_eq_some_iff.1 hi).1
    obtain ⟨r2,k4,k5⟩:=hu i c e[i] hi (List.getElem?_eq_getElem hie)
    rw [hr'] at k4; cases k4
    rw [k5.len]
    exact hs.row i c _ hi (List.getElem?_eq_getElem hie)
  · obtain ⟨r,x,k1,k2,k3,rfl⟩:=back i k c r' f x' hi hr' hf hx'
    by_cases hsr:sr f=true
    · rw [if_pos hsr]
      unfold sr at hsr
      simp only [Bool.and_eq_true] at hsr
      exact hsr.2.symm
    · rw [if_neg hsr]; exact k3
  · obtain ⟨r,x,k1,k2,k3,rfl⟩:=back i k c r' f x' hi hr' hf hx'
    by_cases hsr:sr f=true
    · rw [if_pos hsr,h1 _ _ (zvo hi hf hsr)]
      unfold sr at hsr
      simp only [Bool.and_eq_true] at hsr
      rw [hsr.1]; rfl
    · rw [if_neg hsr,h2]
      · exact hv i k c r f x hi k1 hf k2
      · intro hm
        obtain ⟨j,q,d,g,g1,g2,g3,g4⟩:=zrz hm
        obtain ⟨rfl,rfl⟩:=hk.inj i j k q c d f g hi g1 hf g2 g4
        rw [hi] at g1; cases g1
        rw [hf] at g2; cases g2
        exact hsr g3
end
end Go.Proofs.YthmnlfenkhmmhaaGreat
namespace Go.Proofs.YthmnlfenkhmmhaaGreat
set_option linter.unusedSimpArgs false
set_option linter.unusedVariables false
theorem zvv (x:Int) {n:Int} (hn:0 < n):-n < x.tmod n∧x.tmod n < n:=by
  refine ⟨?_,Int.tmod_lt_of_pos x hn⟩
  have h:=Int.tmod_lt_of_pos (-x) hn
  rw [Int.neg_tmod] at h
  omega
theorem zrn (C:Int) {n:Nat} (h1:0 < n) (h2:n≤1000000):∃ x,zsD C (n:Int)=some x∧∃ i:Nat,i < n∧zsD (IntKind.i64.wrap (x+(n:Int))) (n:Int)=some (i:Int):=by
  have hb:=zvv C (n:=(n:Int)) (by omega)
  refine ⟨C.tmod n,by unfold zsD; rw [if_neg (by omega)],(C.tmod n+n).tmod n |>.toNat,?_,?_⟩
  · have h3:=Int.tmod_nonneg (n:Int) (show (0:Int)≤C.tmod n+n by omega)
    have h4:=Int.tmod_lt_of_pos (C.tmod n+n) (show (0:Int) < n by omega)
    omega
  · have h3:=Int.tmod_nonneg (n:Int) (show (0:Int)≤C.tmod n+n by omega)
    unfold zsD
    rw [if_neg (by omega),zjk (by omega) (by omega),Int.toNat_of_nonneg h3]
theorem ztV (v:ze):∃ b,zgg [v]=some b:=by
  unfold zgg
  have e1:zbx [v] 0=cond (v.Ref&&decide (v.N < 0)) (some (.inr (.inr false))) (some (.inl 1)):=by
    have e0:IntKind.i64.wrap 1=1:=by decide +kernel
    unfold zbx
    cases hr:v.Ref <;> simp [idx,hr,e0]
  have e2:zbx [v] 1=some (.inr (.inl ())):=by
    unfold zbx
    simp
  rw [zH]
  show ∃ b,((zbx [v] 0).bind _).bind _=some b
  rw [e1]
  cases v.Ref&&decide (v.N < 0) with
  | true=>exact ⟨false,rfl⟩
  | false =>
    refine ⟨true,?_⟩
    show ((zu (fun z=>zbx [v] z) 1)).bind _=_
    rw [zH]
    show ((zbx [v] 1).bind _).bind _=_
    rw [e2]
    rfl
section
variable {l L : List za} {m sm sm0 : List (Tx × Int)} {vm vm0 : Vm} {o : List Tx} {at_ : List Int} {e : List (List ze)}
structure SI (L:List za) (sm:List (Tx×Int)) (vm:Vm) (at_:List Int) (e:List (List ze)):Prop where
  at_:zqf L sm at_
  sh:Sh L e
  vm:zpq L e vm
theorem zm4 (h:zmB l L) (hm:zeI L m) (hk:Kn L) {i:Nat} (hi:i < 1000000) (hI:SI L sm vm at_ e):zid (L,m,sm0,vm0,zfg L) (zE.mk L) (i:Int) sm vm at_ e=some (.inl (sm,vm,at_,e,((i+1:Nat):Int))):=by
  unfold zid zja
  simp only
  rw [zrR h hm hk hI.at_ hI.sh hI.vm]
  simp only [Option.bind_some,Bool.not_true,cond_false]
  rw [zK (by omega)]
theorem zuV (h:zmB l L) (hm:zeI L m) (hk:Kn L) (ops:List zfs) {i:Nat} {op:zfs} (hx:ops[i]?=some op) (h30:i < 30) (hI:SI L sm vm at_ e) :
    ∃ sm' vm' at' e',zjQ ops (L,m,sm0,vm0,zfg L) (zE.mk L) sm vm at_ e (i:Int)=some (.inl (sm',vm',at',e',((i+1:Nat):Int)))∧SI L sm' vm' at' e':=by
  have h26:=h.len
  have hpos:0 < L.length:=by rw [h.app,List.length_append]; have:giv.length=10:=rfl; omega
  obtain ⟨b,hb⟩:=ztV op.V
  obtain ⟨x,x1,j,hj,x2⟩:=zrn op.C (n:=L.length) hpos (by omega)
  have hc:L[j]?=some L[j]:=List.getElem?_eq_getElem hj
  generalize L[j]=c at hc
  have hlt:(decide ((i:Int) < (ops.length:Int))&&decide ((i:Int) < 30))=true:=by
    have:=(List.getElem?_eq_some_iff.1 hx).1
    rw [decide_eq_true (by omega),decide_eq_true (by omega)]; rfl
  have ew:IntKind.i64.wrap ((i:Int)+1)=((i+1:Nat):Int):=zK (by omega)
  unfold zjQ
  simp only
  rw [hlt,zy,hx]
  simp only [cond_true,Option.bind_some]
  rw [hb]
  simp only [Option.bind_some]
  cases b with
  | false =>
    refine ⟨sm,vm,at_,e,?_,hI⟩
    simp only [Bool.not_false,cond_true,zja,ew]
  | true =>
    simp only [Bool.not_true,cond_false]
    rw [x1]
    simp only [Option.bind_some]
    rw [x2]
    simp only [Option.bind_some]
    rw [zy,hc]
    simp only [Option.bind_some]
    cases hk0:op.Kind == (0:Int) with
    | true =>
      simp only [cond_true]
      obtain ⟨a,a1,_⟩:=hI.at_.get hc
      rw [zvq hI.at_ hc,zvp,zy,a1]
      simp only [Option.bind_some,Int.toNat_natCast]
      cases hbad:decide (op.At < 0)||decide (3 < op.At) with
      | true =>
        simp only [Bool.not_true,cond_false,cond_true]
        exact ⟨sm,vm,at_,e,zm4 h hm hk (by omega) hI,hI⟩
      | false =>
        simp only [Bool.not_false,cond_true,cond_false]
        have hI':SI L (zat c.Name op.At sm) vm (at_.set j op.At) e:=⟨hI.at_.set h hc op.At,hI.sh,hI.vm⟩
        exact ⟨_,_,_,_,zm4 h hm hk (by omega) hI',hI'⟩
    | false =>
      simp only [cond_false]
      cases hk1:op.Kind == (1:Int) with
      | true =>
        simp only [cond_true]
        have hje:j < e.length:=by rw [hI.sh.len]; exact hj
        have hr:e[j]?=some e[j]:=List.getElem?_eq_getElem hje
        generalize e[j]=row at hr
        have hrl:=hI.sh.row j c row hc hr
        have hfew:=hk.few c (List.mem_of_getElem? hc)
        rw [zy,hr]
        simp only [Option.bind_some]
        by_cases hz:row.length=0
        · refine ⟨sm,vm,at_,e,?_,hI⟩
          rw [hz]
          simp only [Int.ofNat_zero,beq_self_eq_true,cond_true,zja,ew]
        · obtain ⟨y,y1,k,hkl,y2⟩:=zrn op.F (n:=row.length) (by omega) (by omega)
          have hf:c.Fields[k]?=some (c.Fields[k]'(by omega)):=List.getElem?_eq_getElem _
          generalize c.Fields[k]'(by omega)=f at hf
          have hz2:(((row.length:Nat):Int) == (0:Int))=false:=beq_eq_false_iff_ne.2 (by omega)
          rw [hz2]
          simp only [cond_false]
          rw [y1]
          simp only [Option.bind_some]
          rw [y2]
          simp only [Option.bind_some]
          rw [zy,hf]
          simp only [Option.bind_some]
          rw [zvf hk hI.sh hI.vm hc hf]
          have eR:(!(f.Type_ == [73]))=zjC f:=rfl
          simp only [Option.bind_some,eR,beq_self_eq_true,Bool.not_true,cond_false]
          rw [zy,List.getElem?_eq_getElem hkl]
          simp only [Option.bind_some,Int.toNat_natCast]
          cases hmay:f.Static&&(op.V.Ref == zjC f) with
          | true =>
            simp only [cond_true]
            simp only [Bool.and_eq_true,beq_iff_eq] at hmay
            have hI':SI L sm (zat (sk c f) op.V vm) at_ (e.set j (row.set k op.V)):=⟨hI.at_,hI.sh.set hc hf hr hmay.2,hI.vm.put hk hc hf hmay.1 hr hkl op.V⟩
            exact ⟨_,_,_,_,zm4 h hm hk (by omega) hI',hI'⟩
          | false =>
            simp only [cond_false]
            exact ⟨_,_,_,_,zm4 h hm hk (by omega) hI,hI⟩
      | false =>
        simp only [cond_false]
        have hof:=zmj hk h26
        have hrk:=znu hk h26
        rw [ztt (by omega),hI.vm.refs hI.sh]
        simp only [Option.bind_some]
        obtain ⟨r',r1,r2,r3⟩:=zuU (r:=(rkL L).map (fun k=>nW (gv vm k))) (by rw [List.length_map]; omega)
        rw [r1]
        simp only [Option.bind_some,zQ,zo8]
        rw [List.length_map] at r2
        obtain ⟨vm',v1,v2,v3⟩:=zp7 (m:=m) (sm:=sm) hk h26 hI.sh hI.vm r2 r3
        rw [v1]
        simp only [Option.bind_some]
        obtain ⟨e',e1,e2,e3⟩:=zvY hk h26 hI.sh
        rw [e1]
        simp only [Option.bind_some,zQ]
        obtain ⟨n1,n2⟩:=zv7 hk hI.sh hI.vm e2 e3 v2 v3
        have hI':SI L sm vm' at_ e':=⟨hI.at_,n1,n2⟩
        exact ⟨_,_,_,_,zm4 h hm hk (by omega) hI',hI'⟩
theorem zuW (ha:zqf L sm at_) (hl:L.length≤26) {s:List Tx}:∃ o,zu (fun z=>zie (L,m,sm0,vm0,zfg L) (zE.mk L) vm z.1 z.2.1 z.2.2) (sm,s,0)=some (.inl s)∧o=s:=by
  obtain ⟨b,h1,h2⟩:=zfl (β:=List (Tx×Int)×List Tx) (S:=List (Tx×Int)×List Tx×Int) (U:=List Tx) (R:=Bool) (body:=fun z=>zie (L,m,sm0,vm0,zfg L) (zE.mk L) vm z.1 z.2.1 z.2.2) (fun b i=>(b.1,b.2,i)) (fun b=>b.2) (n:=L.length) (I:=fun b i=>b.2=s) (fun i b hI hil=>by
      have hx:L[i]?=some L[i]:=List.getElem?_eq_getElem hil
      refine ⟨(zd L m b.1 vm b.2 L[i].Name 1,b.2),?_,hI⟩
      show zie (L,m,sm0,vm0,zfg L) (zE.mk L) vm b.1 b.2 (i:Int)=_
      unfold zie
      simp only
      rw [zeK hx,zy,hx]
      simp only [cond_true,Option.bind_some]
      rw [zK (by omega)]) (fun b hI=>by
      show zie (L,m,sm0,vm0,zfg L) (zE.mk L) vm b.1 b.2 (L.length:Int)=_
      unfold zie
      simp only
      rw [ze4]; rfl) (b0:=(sm,s)) rfl
  exact ⟨s,by rw [h1,h2],rfl⟩
end
theorem zwa (l:List za) (ops:List zfs) (hl:∀ c∈l,zfR c):sa l ops=some true:=by
  have hcg:=zty hl
  unfold sa
  rw [zk3,zn5]
  simp only [Option.bind_some,Bool.not_true,cond_false]
  obtain ⟨m,hm,e1⟩:=znY hcg
  rw [e1,zoo hcg]
  simp only [Option.bind_some]
  cases hN:(zq7 (zuB l)).1 with
  | none =>
    simp only [Option.map_none,Option.isNone_none,Bool.or_true,cond_true]
  | some L =>
    obtain ⟨hM,h0⟩:=zq8 hN
    have hmp:=hm L hN
    have hFc:∀ c∈L,zkc c:=fun c hc=>by
      rw [hM.app] at hc
      rcases List.mem_append.1 hc with e | e
      · exact zuP c e
      · exact (zll hl c e).fc
    have hk:=zt0 hM hFc
    have h26:=hM.len
    obtain ⟨sm0,vm0,s1,s2,s3⟩:=zmz hM hmp hk
    simp only [h0,Option.map_some,Option.isNone_some,beq_self_eq_true,Bool.not_true,Bool.or_false,cond_false,zur]
    rw [s1]
    simp only [Option.bind_some]
    rw [show mkP 8 ((L.length:Nat):Int)=some L.length by unfold mkP; rw [if_pos (by omega),Int.toNat_natCast]]
    simp only [Option.bind_some]
    rw [zvX hk h26]
    simp only [Option.bind_some,zQ,zsH]
    have hI0:SI L sm0 vm0 (at0 L.length) (zhO L):=⟨zuG s2,sh0,zvx s3⟩
    obtain ⟨b,b1,b2⟩:=zfl (β:=List (Tx×Int)×Vm×List Int×List (List ze)) (S:=List (Tx×Int)×Vm×List Int×List (List ze)×Int) (U:=List (Tx×Int)×Vm×List Int×List (List ze)) (R:=Bool) (body:=fun z=>zjQ ops (L,m,sm0,vm0,zfg L) (zE.mk L) z.1 z.2.1 z.2.2.1 z.2.2.2.1 z.2.2.2.2) (fun b i=>(b.1,b.2.1,b.2.2.1,b.2.2.2,i)) (fun b=>b) (n:=min ops.length 30)
      (I:=fun b i=>SI L b.1 b.2.1 b.2.2.1 b.2.2.2) (fun i b hI hi=>by
        have hx:ops[i]?=some (ops[i]'(by omega)):=List.getElem?_eq_getElem _
        obtain ⟨sm',vm',at',e',k1,k2⟩:=zuV (sm0:=sm0) (vm0:=vm0) hM hmp hk ops hx (by omega) hI
        exact ⟨(sm',vm',at',e'),k1,k2⟩) (fun b hI=>by
        show zjQ ops (L,m,sm0,vm0,zfg L) (zE.mk L) b.1 b.2.1 b.2.2.1 b.2.2.2 ((min ops.length 30:Nat):Int)=_
        have hlt:(decide (((min ops.length 30:Nat):Int) < (ops.length:Int))&&decide (((min ops.length 30:Nat):Int) < 30))=false:=by
          by_cases h9:ops.length≤30
          · rw [decide_eq_false (by omega)]; rfl
          · rw [decide_eq_false (p:=((min ops.length 30:Nat):Int) < 30) (by omega),Bool.and_false]
        unfold zjQ
        rw [hlt]
        rfl) (b0:=(sm0,vm0,at0 L.length,zhO L)) hI0
    rw [b1]
    simp only [Option.bind_some,zQ,zo9]
    obtain ⟨_,o1,_⟩:=zuW (m:=m) (sm0:=sm0) (vm0:=vm0) (vm:=b.2.1) b2.at_ h26 (s:=zfg L)
    have o2:zu (fun z=>zie (L,m,sm0,vm0,zfg L) (zE.mk L) b.2.1 z.1 z.2.1 z.2.2) (b.1,(zj L m b.1 b.2.1 (zfg L)).2.2.2.2,0)=some (.inl (zfg L)):=o1
    rw [o2]
    simp only [Option.bind_some,zQ,zpa]
    show (zeM L m b.1 b.2.1 (zfg L) L b.2.2.1 b.2.2.2).bind _=_
    rw [zrR hM hmp hk b2.at_ b2.sh b2.vm]
    rfl
theorem zmy (l:List za) (ops:List zfs) (h:wL zfR l) (_:wL zpm ops):zF Tryz.prog 5 [.isl 6 (List.map zb l),.isl 6 (List.map zae ops)] (bA true):=zwb l ops (zwa l ops h.2)
end Go.Proofs.YthmnlfenkhmmhaaGreat
