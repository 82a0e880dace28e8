/- ClosedAll: for every input the law returns true, and each argument reads as it read before. No further condition. Part 6 of 7. -/
import Derived.Test.YtjbdfkapnffjnaaGreatVh5
namespace Go.Proofs.YtjbdfkapnffjnaaGreat
noncomputable section
open List (length map)
set_option linter.unusedSimpArgs false
set_option linter.unusedVariables false
def mis(L:List za)(c:za):Bool:=(c.Super ::c.Impl).any (fun s=>!zb0 L s)
def ztO(l:List za):Option (List za)×Int:=
 cond (decide (16<(l.length:Int))) (none,3) (match lay giv l with
  |none=>(none,1)
  |some L=>cond (l.any (mis L)) (none,4) (cond (l.any (zt6 L)) (none,1) (some L,0)))
theorem zvv{l L:List za}(h:lay giv l=some L)(hm:l.any (mis L)=false):zAS L∧∀c∈l,c.Super≠[]:=by
 obtain ⟨h1,h2,h3⟩:=zsr l giv L zso h
 have hO:=zs5 h
 have noE:zb0 L []=false:=by
  cases hh:zb0 L [] with
  |false=>rfl
  |true =>
   obtain ⟨c,hc⟩:=zeT hh
   exact absurd (zbs hc).2 (hO c (zbs hc).1).name
 have hl:∀c∈l,∀s∈c.Super ::c.Impl,zb0 L s=true:=fun c hc s hs=>by
  have:=List.any_eq_false.1 hm c hc
  unfold mis at this
  rw [Bool.not_eq_true,List.any_eq_false] at this
  simpa using this s hs
 refine ⟨⟨h2,noE,fun c hc s hs hne=>?_,fun c hc hm=>(hO c hc).implE [] hm rfl⟩,fun c hc e=>?_⟩
 ·rw [h1] at hc
  rcases List.mem_append.1 hc with e |e
  ·have hg:giv.all (fun c=>(c.Super ::c.Impl).all (fun s=>s == []||zb0 giv s))=true:=by decide +kernel
   have:=List.all_eq_true.1 (List.all_eq_true.1 hg c e) s hs
   rw [Bool.or_eq_true,beq_iff_eq] at this
   rcases this with e |e
   ·exact absurd e hne
   ·rw [zi4] at e ⊢
    rw [h1,List.map_append]
    exact List.mem_append_left _ e
  ·exact hl c e s hs
 ·have:=hl c hc c.Super (by simp)
  rw [e,noE] at this;cases this
theorem zEL{l L:List za}{m:List (Tx×Int)}(hl:l.length≤16)(hm:zbr L m)(hO:∀c∈l,c.Impl.length≤4):
  zl (fun z=>zil l L m z) 0=some (zjy () (cond (l.any (mis L)) (some (none,4)) none)):=by
 rw [←zY]
 refine zaQ (fun i c hc=>?_) ?_
 ·show zil l L m (i:Int)=_
  have:=hO c (List.mem_of_getElem? hc)
  have hi:=(List.getElem?_eq_some_iff.1 hc).1
  unfold zil
  rw [zd9 hc,zr,hc]
  simp only [cond_true,Option.bind_some]
  rw [zlt this]
  simp only [Option.bind_some]
  rw [zyV hm (by simp;omega),zN (by omega)]
  simp only [Option.bind_some]
  show _=some (zu8 i (cond (mis L c) _ _))
  unfold mis
  cases ((c.Super ::c.Impl).any fun s=>!zb0 L s) <;> rfl
 ·show zil l L m (l.length:Int)=_
  unfold zil
  rw [zeD];rfl
theorem zEM{l L:List za}{m:List (Tx×Int)}(hl:l.length≤16)(hf:∀c∈l,zgr L m c=some (!zt6 L c)):
  zl (fun z=>zim l L m z) 0=some (zjy () (cond (l.any (zt6 L)) (some (none,1)) none)):=by
 rw [←zY]
 refine zaQ (fun i c hc=>?_) ?_
 ·show zim l L m (i:Int)=_
  have hi:=(List.getElem?_eq_some_iff.1 hc).1
  unfold zim
  rw [zd9 hc,zr,hc]
  simp only [cond_true,Option.bind_some]
  rw [hf c (List.mem_of_getElem? hc),zN (by omega)]
  simp only [Option.bind_some]
  cases zt6 L c <;> rfl
 ·show zim l L m (l.length:Int)=_
  unfold zim
  rw [zeD];rfl
theorem zqY{l:List za}(hc:∀c∈l,zAO c):∃m,(∀L,(ztO l).1=some L→zbr L m)∧zko l=some ((ztO l).1.map (fun L=>zH.mk L m),(ztO l).2):=by
 unfold zko ztO
 cases hl:decide (16<(l.length:Int)) with
 |true=>exact ⟨[],fun L h=>(by cases h),rfl⟩
 |false =>
  have hl:=of_decide_eq_false hl
  rw [zsX]
  simp only [cond_false,Option.bind_some]
  rw [zDy]
  simp only [Option.bind_some,zD]
  have hl16:l.length≤16:=by omega
  obtain ⟨h1,h2⟩:=zwF hl16 hc l [] giv _ rfl zzi rfl
  unfold zqZ
  cases hy:lay giv l with
  |none =>
   rw [show zl (fun z=>zeH l z.1 z.2.1 z.2.2) (giv,zuu 0 [] giv,0)=_ from h1 hy]
   exact ⟨[],fun L h=>(by cases h),rfl⟩
  |some L =>
   obtain ⟨m,hm,e⟩:=h2 L hy
   rw [show zl (fun z=>zeH l z.1 z.2.1 z.2.2) (giv,zuu 0 [] giv,0)=_ from e]
   obtain ⟨k1,k2,k3⟩:=zsr l giv L zso hy
   have hO:=zs5 hy
   have hlL:∀c∈l,c∈L:=fun c hc=>by rw [k1];exact List.mem_append_right _ hc
   have hlen:L.length≤100:=by rw [k1,List.length_append];have:giv.length=10:=rfl;omega
   simp only [Option.bind_some,zD]
   unfold zq0
   rw [zEL hl16 hm (fun c hc=>(hO c (hlL c hc)).impl)]
   cases hmis:l.any (mis L) with
   |true=>exact ⟨[],fun L h=>(by cases h),rfl⟩
   |false =>
    obtain ⟨hL,hS⟩:=zvv hy hmis
    simp only [cond_false,Option.bind_some,zD,zjy]
    unfold zq1
    rw [zEM hl16 (fun c hc=>zDv hm hL hO hlen (hlL c hc) (hS c hc))]
    cases hb:l.any (zt6 L) with
    |true=>exact ⟨[],fun L h=>(by cases h),rfl⟩
    |false=>exact ⟨m,fun L' h=>(by cases h;exact hm),rfl⟩
theorem zib{L:List za}(hl:L.length≤1000)(n:Tx):zU L n=some (atN L n):=by
 unfold zU
 rw [show ((zl (fun z=>zh1 L n z) 0).bind fun o=>zD o (fun b=>zm1) some)=_ from zaD (l:=L) (p:=fun c:za=>c.Name == n) (by omega)
  (fun i x hx=>by unfold zh1;rw [zd9 hx,zr,hx];rfl) (by unfold zh1;rw [zeD];rfl)]
 rfl
theorem zzs{l:List za}(hl:l.length≤16)(hc:∀c∈l,zAO c):∀(r pre L:List za),l=pre++r→L.length=10+pre.length →
  zl (fun z=>zgf l z.1 z.2) (L,(pre.length:Int))=some (match lay L r with |none=>.inr (none,1) |some L'=>.inl L')
 | [],pre,L,e,hL=>by
  rw [List.append_nil] at e
  subst e
  rw [zI]
  show (zgf l L (l.length:Int)).bind _=_
  unfold zgf
  rw [zeD];rfl
 |c ::r,pre,L,e,hL=>by
  have hlen:l.length=pre.length+(r.length+1):=by rw [e];simp
  have hx:l[pre.length]?=some c:=by rw [e];simp
  have hcm:c∈l:=List.mem_of_getElem? hx
  have step:zl (fun z=>zgf l z.1 z.2) (L,(pre.length:Int))=(cond (zb0 L c.Name||!zrO c) (some (.inr (.inr (none,1)))) (some (.inl (L++[c],((pre.length+1:Nat):Int))))).bind (Sum.elim (zl (fun z=>zgf l z.1 z.2)) some):=by
   rw [zI]
   show (zgf l L (pre.length:Int)).bind _=_
   congr 1
   unfold zgf
   rw [zd9 hx,zr,hx]
   simp only [cond_true,Option.bind_some]
   rw [zqe (hc c hcm),zib (by omega),zFP (by omega) (by omega),zN (by omega)]
   simp only [Option.bind_some]
   rw [zqF]
   cases zb0 L c.Name <;> cases zrO c <;> rfl
  rw [step]
  unfold lay
  cases h1:(zb0 L c.Name||!zrO c) with
  |true=>rfl
  |false =>
   have:=zzs hl hc r (pre++[c]) (L++[c]) (by rw [e];simp) (by simp;omega)
   rw [show (pre++[c]).length=pre.length+1 by simp] at this
   exact this
theorem zE2{L:List za}(hL:L.length≤100){c:za}(hi:c.Impl.length≤4):zl (fun z=>ziy L c z) 0=some (zjy () (cond (c.Impl.any (fun s=>!zb0 L s)) (some (none,4)) none)):=by
 rw [←zY]
 refine zaQ (fun i s hs=>?_) ?_
 ·show ziy L c (i:Int)=_
  have hi:=(List.getElem?_eq_some_iff.1 hs).1
  unfold ziy
  rw [zd9 hs,zr,hs]
  simp only [cond_true,Option.bind_some]
  rw [zib (by omega),zN (by omega)]
  simp only [Option.bind_some]
  rw [znJ]
  cases zb0 L s <;> rfl
 ·show ziy L c (c.Impl.length:Int)=_
  unfold ziy
  rw [zeD];rfl
theorem zE3{L:List za}(hL:L.length≤100)(h1:1≤L.length)(hO:∀c∈L,Okc c):zl (fun z=>ziz L z) 1=some (zjy () (cond ((L.drop 1).any (mis L)) (some (none,4)) none)):=by
 rw [←zY]
 refine zmT (k:=1) (fun i c _ hc=>?_) ?_ h1
 ·show ziz L (i:Int)=_
  have hi:=(List.getElem?_eq_some_iff.1 hc).1
  unfold ziz
  rw [zd9 hc,zr,hc]
  simp only [cond_true,Option.bind_some]
  rw [zib (by omega)]
  simp only [Option.bind_some]
  rw [znJ,zE2 hL (hO c (List.mem_of_getElem? hc)).impl]
  unfold zrs
  rw [zN (by omega)]
  show _=some (zu8 i (cond (mis L c) _ _))
  unfold mis
  rw [List.any_cons]
  cases zb0 L c.Super <;> cases (c.Impl.any fun s=>!zb0 L s) <;> rfl
 ·show ziz L (L.length:Int)=_
  unfold ziz
  rw [zeD];rfl
theorem zvb{L:List za}{l:List Tx}(hL:L.length≤100)(hl:l.length≤100){inn:List Bool}(hi:inn.length=L.length)(more:Bool):
  zl (fun z=>zdm L l z.1 z.2.1 z.2.2) (inn,more,0)=some (.inl (mkS L inn l,more||l.any (zrf L inn))):=by
 refine zpz (l:=l) (by omega) (fun j s inn more hi hs=>?_) (fun inn more=>?_) l [] inn more rfl hi
 ·show zdm L l inn more (j:Int)=_
  unfold zdm zgb
  rw [zd9 hs,zr,hs]
  simp only [cond_true,Option.bind_some]
  rw [zib (by omega)]
  simp only [Option.bind_some]
  rw [zqF]
  unfold mk1 zrf
  cases hh:zb0 L s with
  |false=>simp
  |true =>
   obtain ⟨g1,g2⟩:=zvh hh
   have e:idx inn (atN L s)=some (onB inn (atN L s).toNat):=by
    unfold idx onB
    rw [if_pos g1,List.getD_eq_getElem?_getD,List.getElem?_eq_getElem (by omega)];rfl
   rw [e]
   simp only [cond_true,Option.bind_some,Bool.true_and]
   cases onB inn (atN L s).toNat <;> simp
 ·show zdm L l inn more (l.length:Int)=_
  unfold zdm
  rw [zeD];rfl
theorem zwS{inn:List Bool}{k:Nat}(h:k<inn.length):idx inn (k:Int)=some (onB inn k):=by
 rw [zr,List.getElem?_eq_getElem h]
 unfold onB
 rw [List.getD_eq_getElem?_getD,List.getElem?_eq_getElem h];rfl
abbrev abv(c:za):List Tx:=c.Super ::c.Impl
theorem zsf{L:List za}(hL:L.length≤100)(hO:∀c∈L,Okc c)(v:Nat)(first:Bool){inn:List Bool}(hi:inn.length=L.length)(more:Bool):
  zl (fun z=>zcm L (v:Int) first z.1 z.2.1 z.2.2) (inn,more,0)=some (.inl (zjq L abv (fun k=>first&&Nat.beq k v) inn 0 L,more||znF L abv (fun k=>first&&Nat.beq k v) inn 0 L)):=by
 refine zrj (st:=fun a b c=>(a,b,c)) (nx:=abv) (act:=fun k=>first&&Nat.beq k v) (by omega) (fun k c inn more hi hc=>?_) (fun inn more=>?_) L [] inn more rfl hi
 ·show zcm L (v:Int) first inn more (k:Int)=_
  have hk:=(List.getElem?_eq_some_iff.1 hc).1
  have h4:=(hO c (List.mem_of_getElem? hc)).impl
  unfold zcm
  rw [zd9 hc,zwS (by omega),zr,hc]
  simp only [cond_true,Option.bind_some]
  rw [zv4 h4]
  simp only [Option.bind_some]
  rw [zvb hL (by simp;omega) hi]
  unfold zgd zgc
  rw [zN (by omega)]
  have e:((k:Int) == (v:Int))=Nat.beq k v:=by
   rw [Bool.eq_iff_iff,beq_iff_eq,Nat.beq_eq];omega
  rw [e]
  cases onB inn k <;> cases first <;> cases Nat.beq k v <;> rfl
 ·show zcm L (v:Int) first inn more (L.length:Int)=_
  unfold zcm
  rw [zeD];rfl
theorem zyu{L:List za}(hL:L.length≤100)(hO:∀c∈L,Okc c)(h:zAS L){v:Nat}{c0:za}(hv:L[v]?=some c0):zgT L (v:Int)=some (cyc L c0.Name):=by
 have hvl:=(List.getElem?_eq_some_iff.1 hv).1
 let Q:Nat→Prop:=fun n=>∃c,L[n]?=some c∧Rc (nxA L) c0.Name c.Name
 have hnx:∀{c:za},c∈L→∀s∈abv c,zb0 L s=true→s∈nxA L c.Name:=fun {c} hc s hs hh=>by
  rw [zrg (h.nd.cl hc)]
  refine List.mem_filter.2 ⟨hs,?_⟩
  have:s≠[]:=fun e=>by rw [e,h.noE] at hh;cases hh
  simpa using this
 have hat:∀{s:Tx},zb0 L s=true→∃d,L[(atN L s).toNat]?=some d∧d.Name=s:=fun {s} hh=>by
  obtain ⟨d,hd⟩:=zeT hh
  have e:=zjL L s
  rw [hd] at e
  obtain ⟨g1,g2⟩:=zvh hh
  refine ⟨d,?_,(zbs hd).2⟩
  unfold idx at e
  rw [if_pos g1] at e
  exact e
 have hQ:∀(a:Nat→Bool),(∀k,a k=true→k=v)→∀(j:Nat) c,L[j]?=some c→(Q j∨a j=true)→∀s∈abv c,zb0 L s=true→Q (atN L s).toNat:=fun a ha j c hj hor s hs hh=>by
  obtain ⟨d,hd,hd2⟩:=hat hh
  have hsx:=hnx (List.mem_of_getElem? hj) s hs hh
  refine ⟨d,hd,?_⟩
  rw [hd2]
  rcases hor with ⟨c',hc',hr⟩ |hj2
  ·rw [hj] at hc';cases hc'
   exact hr.snoc hsx
  ·have:=ha j hj2
   subst this
   rw [hj] at hv;cases hv
   exact .one hsx
 have body2:∀inn more first,zcn L (v:Int) inn more first=cond more ((zl (fun z=>zcm L (v:Int) first z.1 z.2.1 z.2.2) (inn,false,0)).bind fun o=>zD o (fun b=>zjZ b.1 b.2) (fun r=>some (.inr (.inr r)))) (some (.inr (.inl inn))):=fun _ _ _=>rfl
 have hrep:(List.replicate L.length false).length=L.length:=by simp
 have hoff:∀n,onB (List.replicate L.length false) n=false:=fun n=>by
  unfold onB
  rw [List.getD_eq_getElem?_getD,List.getElem?_replicate]
  split <;> rfl
 have hF:∃F,zl (fun z=>zcn L (v:Int) z.1 z.2.1 z.2.2) (List.replicate L.length false,true,true)=some (.inl F)∧F.length=L.length∧zFp L abv (fun _=>false) F∧(∀s∈abv c0,zb0 L s=true→onB F (atN L s).toNat=true)∧(∀n,onB F n=true→Q n):=by
  let inn1:=zjq L abv (fun k=>true&&Nat.beq k v) (List.replicate L.length false) 0 L
  have hl1:inn1.length=L.length:=(ztq L 0 _).trans hrep
  have hq1:∀n,onB inn1 n=true→Q n:=zpD L 0 _ hrep (fun j c hj hor=>by
   rw [Nat.zero_add] at hor
   exact hQ (fun k=>true&&Nat.beq k v) (fun k hk=>by simpa using hk) j c hj hor) (fun n hn=>by rw [hoff] at hn;cases hn)
  have ha1:∀s∈abv c0,zb0 L s=true→onB inn1 (atN L s).toNat=true:=zwX L 0 _ hrep v c0 hv (by simp)
  rw [zI]
  show ∃F,(zcn L (v:Int) (List.replicate L.length false) true true).bind _=_∧_
  rw [body2,zsf hL hO v true hrep false]
  cases hg:znF L abv (fun k=>true&&Nat.beq k v) (List.replicate L.length false) 0 L with
  |false =>
   refine ⟨inn1,?_,hl1,?_,ha1,hq1⟩
   ·show zl (fun z=>zcn L (v:Int) z.1 z.2.1 z.2.2) (inn1,false,false)=_
    rw [zI]
    rfl
   ·have e:inn1=List.replicate L.length false:=(znu L 0 _ hg).1
    rw [e]
    intro k c hk hb
    rw [hoff] at hb
    cases hb
  |true =>
   obtain ⟨F,k1,k2,k3,k4,k5⟩:=zpC (L:=L) (nx:=abv) (act:=fun k=>false&&Nat.beq k v) (R:=Bool) (st:=fun a b=>(a,b,false)) (body:=fun z=>zcn L (v:Int) z.1 z.2.1 z.2.2) (Q:=Q)
    (fun inn hi=>by
     show zcn L (v:Int) inn true false=_
     rw [body2,zsf hL hO v false hi false]
     rfl) (fun inn hi=>rfl) (hQ _ (fun k hk=>by simp at hk)) L.length inn1 hl1 (by omega) hq1
   refine ⟨F,k1,k2,fun k c hk hb=>k3 k c hk (by simpa using hb),fun s hs hh=>k4 _ (ha1 s hs hh),k5⟩
 obtain ⟨F,f1,f2,f3,f4,f5⟩:=hF
 unfold zgT
 rw [show mkP 1 (L.length:Int)=some L.length by unfold mkP;rw [if_pos (by omega),Int.toNat_natCast]]
 simp only [Option.bind_some]
 rw [f1]
 show (idx F (v:Int)).bind _=_
 rw [zwS (by omega)]
 show some (onB F v)=_
 congr 1
 rw [Bool.eq_iff_iff,zsT]
 constructor
 ·intro hb
  obtain ⟨c,hc,hr⟩:=f5 v hb
  rw [hv] at hc;cases hc
  exact hr
 ·intro hr
  have key:∀x,Rc (nxA L) c0.Name x→onB F (atN L x).toNat=true:=fun x hx=>by
   refine hx.into (F:=fun y=>onB F (atN L y).toNat=true∧zb0 L y=true) (fun y hy z hz=>?_) (fun y hy=>?_) |>.1
   ·have hz2:zb0 L z=true:=zi4.2 (h.nxA_in y z hz)
    obtain ⟨d,hd,hd2⟩:=hat hy.2
    refine ⟨f3 _ d hd (by rw [hy.1];rfl) z ?_ hz2,hz2⟩
    rw [←hd2,zrg (h.nd.cl (List.mem_of_getElem? hd))] at hz
    exact (List.mem_filter.1 hz).1
   ·have hy2:zb0 L y=true:=zi4.2 (h.nxA_in _ y hy)
    refine ⟨f4 y ?_ hy2,hy2⟩
    rw [zrg (h.nd.cl (List.mem_of_getElem? hv))] at hy
    exact (List.mem_filter.1 hy).1
  have:=key _ hr
  rw [h.nd.at hv,Int.toNat_natCast] at this
  exact this
theorem zt9{L l:List za}(h:L=giv++l){n:Tx}{c:za}(hc:cl giv n=some c):cl L n=some c:=by
 rw [h]
 unfold cl at hc ⊢
 rw [List.find?_append,hc];rfl
theorem zEv{L l:List za}(h:L=giv++l){n:Tx}(hn:zb0 giv n=true):cl L n=cl giv n:=by
 obtain ⟨c,hc⟩:=zeT hn
 rw [hc,zt9 h hc]
theorem zDG{L l:List za}(h:L=giv++l){n:Tx}(hn:zb0 giv n=true):zb0 L n=true:=by
 obtain ⟨c,hc⟩:=zeT hn
 exact zgL (zt9 h hc)
theorem zBn:giv.all (fun c=>(nxA giv c.Name).all (fun s=>decide (atN giv s<atN giv c.Name)&&zb0 giv s))=true:=by decide +kernel
theorem zEA{L l:List za}(h:L=giv++l){a b:Tx}(hr:Rc (nxA L) a b):zb0 giv a=true→atN giv b<atN giv a∧zb0 giv b=true:=by
 have one:∀{a b:Tx},b∈nxA L a→zb0 giv a=true→atN giv b<atN giv a∧zb0 giv b=true:=fun {a b} hb ha=>by
  have e:nxA L a=nxA giv a:=by unfold nxA;rw [zEv h ha]
  rw [e] at hb
  obtain ⟨c,hc⟩:=zeT ha
  have h1:=List.all_eq_true.1 zBn c (zbs hc).1
  rw [(zbs hc).2] at h1
  have h2:=List.all_eq_true.1 h1 b hb
  rw [Bool.and_eq_true,decide_eq_true_eq] at h2
  exact h2
 induction hr with
 |one hb=>exact one hb
 |more hb _ ih =>
  intro ha
  have h1:=one hb ha
  have h2:=ih h1.2
  exact ⟨by omega,h2.2⟩
theorem zDw{L l:List za}(h:L=giv++l){c:za}(hc:c∈giv):cyc L c.Name=false:=by
 cases hh:cyc L c.Name with
 |false=>rfl
 |true =>
  have:=(zEA h (zsT.1 hh) (zgL (zso.cl hc))).1
  omega
theorem zzh:giv.all (fun c=>(c.Impl == [])&&!c.Interface&&(c.Super == []||zb0 giv c.Super))=true:=by decide +kernel
theorem zud:(giv.drop 1).all (fun c=>!(c.Super == []))=true:=by decide +kernel
theorem zBm{c:za}(hc:c∈giv):c.Impl=[]∧c.Interface=false∧(c.Super=[]∨zb0 giv c.Super=true):=by
 have:=List.all_eq_true.1 zzh c hc
 simp only [Bool.and_eq_true,beq_iff_eq,Bool.not_eq_true',Bool.or_eq_true] at this
 exact ⟨this.1.1,this.1.2,this.2⟩
theorem zDx{L l:List za}(h:L=giv++l){n:Tx}(hn:zb0 giv n=true):isF L n=false:=by
 obtain ⟨c,hc⟩:=zeT hn
 unfold isF
 rw [zt9 h hc]
 exact (zBm (zbs hc).1).2.1
theorem zzf{L l:List za}(h:L=giv++l)(hE:zb0 L []=false){c:za}(hc:c∈giv):zt6 L c=false:=by
 obtain ⟨h1,h2,h3⟩:=zBm hc
 unfold zt6
 rw [zDw h hc,h1]
 rcases h3 with e |e
 ·rw [e]
  have:isF L []=false:=by
   unfold isF
   cases hcl:cl L [] with
   |none=>rfl
   |some d=>rw [zgL hcl] at hE;cases hE
  rw [this];rfl
 ·rw [zDx h e];rfl
theorem zDz{L l:List za}(h:L=giv++l){c:za}(hc:c∈giv.drop 1):mis L c=false:=by
 obtain ⟨h1,h2,h3⟩:=zBm (List.mem_of_mem_drop hc)
 have hs:=List.all_eq_true.1 zud c hc
 unfold mis
 rw [h1,List.any_cons,List.any_nil,Bool.or_false]
 rcases h3 with e |e
 ·rw [e] at hs;cases hs
 ·rw [zDG h e];rfl
theorem zwj{L l:List za}(h:L=giv++l){p:za→Bool}(hp:∀c∈giv.drop 1,p c=false):(L.drop 1).any p=l.any p:=by
 have e:L.drop 1=giv.drop 1++l:=by rw [h];rfl
 rw [e,List.any_append,List.any_eq_false.2 (fun c hc=>by rw [hp c hc];exact Bool.false_ne_true),Bool.false_or]
theorem zmL{L:List za}{n:Tx}{c:za}(h:cl L n=some c):idx L (atN L n)=some c:=by rw [zjL,h]
theorem zz3{L:List za}(hL:L.length≤100){c:za}(hi:c.Impl.length≤4)(hh:∀s∈c.Impl,zb0 L s=true)(b:Bool):
  zl (fun z=>zfi L c z.1 z.2) (b,0)=some (.inl (b||c.Impl.any (fun s=>!isF L s))):=by
 have key:∀(r pre:List Tx) (b:Bool),c.Impl=pre++r→zl (fun z=>zfi L c z.1 z.2) (b,(pre.length:Int))=some (.inl (b||r.any (fun s=>!isF L s))):=by
  intro r
  induction r with
  |nil =>
   intro pre b e
   rw [List.append_nil] at e
   rw [zI]
   show (zfi L c b (pre.length:Int)).bind _=_
   unfold zfi
   rw [←e,zeD]
   simp
  |cons s r ih =>
   intro pre b e
   have hlen:c.Impl.length=pre.length+(r.length+1):=by rw [e];simp
   have hx:c.Impl[pre.length]?=some s:=by rw [e];simp
   obtain ⟨d,hd⟩:=zeT (hh s (List.mem_of_getElem? hx))
   have step:zfi L c b (pre.length:Int)=some (.inl (b||!isF L s,((pre.length+1:Nat):Int))):=by
    unfold zfi
    rw [zd9 hx,zr,hx]
    simp only [cond_true,Option.bind_some]
    rw [zib (by omega)]
    simp only [Option.bind_some]
    rw [zmL hd,zN (by omega)]
    unfold isF
    rw [hd]
    cases b <;> rfl
   rw [zI]
   show (zfi L c b (pre.length:Int)).bind _=_
   rw [step]
   show zl (fun z=>zfi L c z.1 z.2) (b||!isF L s,((pre.length+1:Nat):Int))=_
   have:=ih (pre++[s]) (b||!isF L s) (by rw [e];simp)
   rw [show (pre++[s]).length=pre.length+1 by simp] at this
   rw [this,List.any_cons,Bool.or_assoc]
 exact key c.Impl [] b rfl
theorem zDZ{L:List za}(hL:L.length≤100)(h1:1≤L.length)(hO:∀c∈L,Okc c)(h:zAS L)(hS:∀c∈L.drop 1,c.Super≠[]):
  zl (fun z=>zhM L z) 1=some (zjy () (cond ((L.drop 1).any (zt6 L)) (some (none,1)) none)):=by
 rw [←zY]
 refine zmT (k:=1) (fun i c hk hc=>?_) ?_ h1
 ·show zhM L (i:Int)=_
  have hcm:=List.mem_of_getElem? hc
  have hi:=(List.getElem?_eq_some_iff.1 hc).1
  have hcd:c∈L.drop 1:=List.mem_of_getElem? (i:=i-1) (by rw [List.getElem?_drop,show 1+(i-1)=i by omega,hc])
  obtain ⟨x,hx⟩:=zeT (h.closed c hcm c.Super (by simp) (hS c hcd))
  have himp:∀s∈c.Impl,zb0 L s=true:=fun s hs=>h.closed c hcm s (by simp [hs]) ((hO c hcm).implE s hs)
  unfold zhM
  rw [zd9 hc,zr,hc]
  simp only [cond_true,Option.bind_some]
  rw [zib (by omega)]
  simp only [Option.bind_some]
  rw [zmL hx]
  simp only [Option.bind_some]
  rw [zyu hL hO h hc]
  simp only [Option.bind_some]
  unfold zky
  rw [zz3 hL (hO c hcm).impl himp,zz3 hL (hO c hcm).impl himp]
  simp only [Option.bind_some,zD]
  unfold zp3
  rw [zN (by omega)]
  show _=some (zu8 i (cond (zt6 L c) _ _))
  unfold zt6
  rw [show isF L c.Super=x.Interface by unfold isF;rw [hx]]
  cases x.Interface <;> cases (c.Impl.any fun s=>!isF L s) <;> cases cyc L c.Name <;> rfl
 ·show zhM L (L.length:Int)=_
  unfold zhM
  rw [zeD];rfl
theorem zxA{L l:List za}(h:L=giv++l)(hS:∀c∈l,c.Super≠[]):∀c∈L.drop 1,c.Super≠[]:=by
 have e:L.drop 1=giv.drop 1++l:=by rw [h];rfl
 intro c hc
 rw [e] at hc
 rcases List.mem_append.1 hc with e |e
 ·have:=List.all_eq_true.1 zud c e
  intro e2
  rw [e2] at this;cases this
 ·exact hS c e
theorem zrq{l:List za}(hc:∀c∈l,zAO c):zpb l=some ((ztO l).1.map zz.mk,(ztO l).2):=by
 unfold zpb ztO
 cases hl:decide (16<(l.length:Int)) with
 |true=>rfl
 |false =>
  have hl:=of_decide_eq_false hl
  rw [ztA]
  simp only [cond_false,Option.bind_some]
  have hl16:l.length≤16:=by omega
  rw [show zl (fun z=>zgf l z.1 z.2) (giv,0)=_ from zzs hl16 hc l [] giv rfl rfl]
  cases hy:lay giv l with
  |none=>rfl
  |some L =>
   obtain ⟨k1,k2,k3⟩:=zsr l giv L zso hy
   have hO:=zs5 hy
   have hlen:L.length≤100:=by rw [k1,List.length_append];have:giv.length=10:=rfl;omega
   have hpos:1≤L.length:=by rw [k1,List.length_append];have:giv.length=10:=rfl;omega
   simp only [Option.bind_some,zD]
   unfold zrr
   rw [zE3 hlen hpos hO,zwj k1 (fun c hc=>zDz k1 hc)]
   cases hmis:l.any (mis L) with
   |true=>rfl
   |false =>
    obtain ⟨hL,hS⟩:=zvv hy hmis
    simp only [cond_false,Option.bind_some,zD,zjy]
    unfold zrt
    rw [zDZ hlen hpos hO hL (zxA k1 hS),zwj k1 (fun c hc=>zzf k1 hL.noE (List.mem_of_mem_drop hc))]
    cases hb:l.any (zt6 L) with
    |true=>rfl
    |false=>rfl
structure zcg(l L:List za):Prop extends Wf L where
 app:L=giv++l
 few:l.length≤16
 okc:∀c∈L,Okc c
 may:∀c∈l,zrO c=true
theorem zcg.len{l L:List za}(h:zcg l L):L.length≤26:=by
 rw [h.app,List.length_append];have:giv.length=10:=rfl;have:=h.few;omega
theorem zuw{l L:List za}(h:(ztO l).1=some L):zcg l L∧(ztO l).2=0:=by
 unfold ztO at h ⊢
 cases hl:decide (16<(l.length:Int)) with
 |true=>rw [hl] at h;cases h
 |false =>
  rw [hl] at h
  have hl:=of_decide_eq_false hl
  simp only [cond_false] at h ⊢
  cases hy:lay giv l with
  |none=>rw [hy] at h;cases h
  |some L' =>
   rw [hy] at h
   simp only at h ⊢
   cases hmis:l.any (mis L') with
   |true=>rw [hmis] at h;cases h
   |false =>
    cases hb:l.any (zt6 L') with
    |true=>rw [hmis,hb] at h;cases h
    |false =>
     rw [hmis,hb] at h
     have e:L'=L:=by
      have h:some L'=some L:=h
      cases h;rfl
     subst e
     obtain ⟨hL,hS⟩:=zvv hy hmis
     obtain ⟨k1,k2,k3⟩:=zsr l giv L' zso hy
     have bad:∀c∈L',zt6 L' c=false:=fun c hc=>by
      rw [k1] at hc
      rcases List.mem_append.1 hc with e |e
      ·exact zzf k1 hL.noE e
      ·simpa using List.any_eq_false.1 hb c e
     have bad':∀c∈L',isF L' c.Super=false∧(c.Impl.any (fun s=>!isF L' s)=false∧cyc L' c.Name=false):=fun c hc=>by
      have:=bad c hc
      unfold zt6 at this
      rw [Bool.or_eq_false_iff,Bool.or_eq_false_iff] at this
      exact this
     refine ⟨⟨⟨hL,fun n hr=>?_,fun c hc=>(bad' c hc).1,fun c hc s hs=>?_⟩,k1,by omega,zs5 hy,k3⟩,rfl⟩
     ·cases hn:cl L' n with
      |none =>
       have:nxA L' n=[]:=by unfold nxA;rw [hn]
       cases hr with
       |one h=>rw [this] at h;cases h
       |more h _=>rw [this] at h;cases h
      |some c =>
       have h1:=(bad' c (zbs hn).1).2.2
       rw [(zbs hn).2] at h1
       rw [zsT.2 hr] at h1;cases h1
     ·have:=List.any_eq_false.1 (bad' c hc).2.1 s hs
      simpa using this
theorem zzC{l:List za}(h:(ztO l).1=none):(ztO l).2≠0:=by
 unfold ztO at h ⊢
 cases hl:decide (16<(l.length:Int)) with
 |true=>simp
 |false =>
  rw [hl] at h
  simp only [cond_false] at h ⊢
  cases hy:lay giv l with
  |none=>simp
  |some L' =>
   rw [hy] at h
   simp only at h ⊢
   cases hmis:l.any (mis L') with
   |true=>simp
   |false =>
    cases hb:l.any (zt6 L') with
    |true=>simp
    |false=>rw [hmis,hb] at h;simp at h
section
variable {l L : List za} {m : List (Tx × Int)}
theorem zrF(h:zcg l L)(hm:zbr L m):∀(d:Nat) (n:Tx) (acc:List Tx),zyp L d n=true→acc.length+d≤200→zl (fun z=>zby L m z.1 z.2) (n,acc)=some (.inl (acc++sup L d n))
 | 0,n,acc,hf,hd=>by
  rw [zI]
  show (zby L m n acc).bind _=_
  unfold zby zbm
  rw [hm.has]
  have:zb0 L n=false:=by simpa [zyp] using hf
  rw [this]
  simp [sup]
 |d+1,n,acc,hf,hd=>by
  rw [zI]
  show (zby L m n acc).bind _=_
  unfold zby zbm
  rw [hm.has]
  unfold zyp at hf
  unfold sup
  cases hc:cl L n with
  |none=>rw [zls hc];simp
  |some c =>
   rw [hc] at hf
   rw [zgL hc,zsn hm (zgL hc),hc,zc3 (by simp;omega) (by simp;omega)]
   show zl (fun z=>zby L m z.1 z.2) (c.Super,acc++[n])=_
   rw [zrF h hm d c.Super (acc++[n]) hf (by simp;omega)]
   simp
def zeO(L:List za)(n:Tx):List Tx:=sup L L.length n
theorem zka(h:zcg l L)(hm:zbr L m)(n:Tx):zaH L m n=some (zeO L n):=by
 unfold zaH
 rw [zrF h hm L.length n [] (zw9 h.toWf n) (by have:=h.len;simp;omega)]
 rfl
theorem znb(h:zcg l L):∀(d:Nat) (n:Tx) (acc:List Tx),zyp L d n=true→acc.length+d≤200→zl (fun z=>zbz L z.1 z.2) (acc,atN L n)=some (.inl (acc++sup L d n))
 | 0,n,acc,hf,hd=>by
  rw [zI]
  show (zbz L acc (atN L n)).bind _=_
  unfold zbz
  have:zb0 L n=false:=by simpa [zyp] using hf
  rw [zqF,this]
  simp [sup]
 |d+1,n,acc,hf,hd=>by
  rw [zI]
  show (zbz L acc (atN L n)).bind _=_
  unfold zbz
  rw [zqF]
  unfold zyp at hf
  unfold sup
  cases hc:cl L n with
  |none=>rw [zls hc];simp
  |some c =>
   rw [hc] at hf
   have:=h.len
   rw [zgL hc,zmL hc]
   simp only [cond_true,Option.bind_some]
   rw [zib (by omega),zc3 (by simp;omega) (by simp;omega),(zbs hc).2]
   show zl (fun z=>zbz L z.1 z.2) (acc++[n],atN L c.Super)=_
   rw [znb h d c.Super (acc++[n]) hf (by simp;omega)]
   simp
theorem zgg(h:zcg l L)(n:Tx):zaI L n=some (zeO L n):=by
 have:=h.len
 unfold zaI
 rw [zib (by omega)]
 simp only [Option.bind_some]
 rw [znb h L.length n [] (zw9 h.toWf n) (by simp;omega)]
 rfl
theorem zAp:∀(d:Nat) (n:Tx),(sup L d n).length≤d
 | 0,n=>by simp [sup]
 |d+1,n=>by
  unfold sup
  cases cl L n with
  |none=>simp
  |some c=>have:=zAp d c.Super;simpa using this
theorem zfD(h:zcg l L)(n:Tx):(zeO L n).length≤26:=Nat.le_trans (zAp _ n) h.len
theorem zv2(h:zcg l L):∀d,sup L d []=[]
 | 0=>rfl
 |d+1=>by
  unfold sup
  cases hE:cl L [] with
  |none=>rfl
  |some c=>have:=zgL hE;rw [h.noE] at this;cases this
theorem zkK(h:zcg l L):∀(d:Nat) (n x:Tx),x∈sup L d n→zb0 L x=true∧(x=n∨Rc (nxA L) n x)∧(x=n∨∃c∈L,x=c.Super)
 | 0,n,x,hx=>by simp [sup] at hx
 |d+1,n,x,hx=>by
  unfold sup at hx
  cases hc:cl L n with
  |none=>rw [hc] at hx;cases hx
  |some c =>
   rw [hc] at hx
   rcases List.mem_cons.1 hx with e |e
   ·subst e;exact ⟨zgL hc,.inl rfl,.inl rfl⟩
   ·obtain ⟨h1,h2,h3⟩:=zkK h d c.Super x e
    have hne:c.Super≠[]:=fun e2=>by rw [e2,zv2 h] at e;cases e
    have h6:c.Super∈nxA L n:=by rw [zrg hc];exact List.mem_filter.2 ⟨by simp,by simpa using hne⟩
    refine ⟨h1,.inr ?_,.inr ?_⟩
    ·rcases h2 with e2 |e2
     ·rw [e2];exact .one h6
     ·exact .more h6 e2
    ·rcases h3 with e2 |e2
     ·exact ⟨c,(zbs hc).1,e2⟩
     ·exact e2
theorem zuZ(h:zcg l L):∀(d:Nat) (n:Tx),(sup L d n).Nodup
 | 0,n=>by simp [sup]
 |d+1,n=>by
  unfold sup
  cases hc:cl L n with
  |none=>simp
  |some c =>
   refine List.nodup_cons.2 ⟨fun hm=>?_,zuZ h d c.Super⟩
   have hne:c.Super≠[]:=fun e2=>by rw [e2,zv2 h] at hm;cases hm
   have h6:c.Super∈nxA L n:=by rw [zrg hc];exact List.mem_filter.2 ⟨by simp,by simpa using hne⟩
   obtain ⟨_,h2,_⟩:=zkK h d c.Super n hm
   rcases h2 with e2 |e2
   ·exact h.acyc n (.one (by rw [←e2] at h6;exact h6))
   ·exact h.acyc n (.more h6 e2)
theorem zAn(h:zcg l L){n x:Tx}(hx:x∈zeO L n):x∈L.map (·.Name):=zi4.1 (zkK h _ n x hx).1
theorem zAo{n:Tx}(hn:zb0 L n=true):n∈zeO L n:=by
 unfold zeO
 obtain ⟨c,hc⟩:=zeT hn
 have:L≠[]:=fun e=>by rw [e] at hn;cases hn
 cases hL:L.length with
 |zero=>exact absurd (List.eq_nil_of_length_eq_zero hL) this
 |succ d=>unfold sup;rw [hc];simp
theorem zj9{n:Tx}(hn:zb0 L n=false):zeO L n=[]:=by
 unfold zeO
 cases L.length with
 |zero=>rfl
 |succ d =>
  unfold sup
  cases hc:cl L n with
  |none=>rfl
  |some c=>rw [zgL hc] at hn;cases hn
end
theorem zs6:∀(a b:List UInt8),Op.bytesLess a b=true↔a<b
 |a,[]=>by
  have e:Op.bytesLess a []=false:=by cases a <;> rfl
  rw [e]
  constructor
  ·intro h;cases h
  ·intro h;exact absurd h (List.not_lt_nil a)
 | [],b ::y=>by
  constructor
  ·intro _;exact List.nil_lt_cons b y
  ·intro _;rfl
 |a ::x,b ::y=>by
  rw [List.cons_lt_cons_iff,←zs6 x y]
  show (decide (a<b)||(a == b&&Op.bytesLess x y))=true↔_
  rw [Bool.or_eq_true,decide_eq_true_eq,Bool.and_eq_true,beq_iff_eq]
theorem zug:∀(s:Tx) (l:List Tx),zwC s l=l.takeWhile (fun x=>Op.bytesLess x s)++s ::l.dropWhile (fun x=>Op.bytesLess x s)
 |s,[]=>rfl
 |s,x ::r=>by
  unfold zwC
  rw [List.takeWhile_cons,List.dropWhile_cons]
  by_cases h:s≤x
  ·rw [if_pos h]
   have:¬(Op.bytesLess x s=true):=fun h2=>absurd ((zs6 x s).1 h2) (List.not_lt.2 h)
   rw [if_neg this,if_neg this];rfl
  ·rw [if_neg h]
   have:Op.bytesLess x s=true:=(zs6 x s).2 (List.not_le.1 h)
   rw [if_pos this,if_pos this,zug s r];rfl
theorem zna{s:Tx}{l:List Tx}(hl:l.length≤1000):∀(r pre:List Tx),l=pre++r→zl (fun z=>zes l s z) (pre.length:Int)=some (.inl ((pre.length+(r.takeWhile (fun x=>Op.bytesLess x s)).length:Nat):Int))
 | [],pre,e=>by
  rw [List.append_nil] at e
  rw [zI]
  show (zes l s (pre.length:Int)).bind _=_
  unfold zes
  rw [←e,zeD];rfl
 |x ::r,pre,e=>by
  have hlen:l.length=pre.length+(r.length+1):=by rw [e];simp
  have hx:l[pre.length]?=some x:=by rw [e];simp
  rw [zI]
  show (zes l s (pre.length:Int)).bind _=_
  unfold zes
  rw [zd9 hx,zr,hx,List.takeWhile_cons,zN (by omega)]
  cases hb:Op.bytesLess x s with
  |false=>simp [hb]
  |true =>
   simp only [cond_true,Option.bind_some,hb,if_true]
   show zl (fun z=>zes l s z) ((pre.length+1:Nat):Int)=_
   have:=zna (s:=s) hl r (pre++[x]) (by rw [e];simp)
   rw [show (pre++[x]).length=pre.length+1 by simp] at this
   rw [this,List.length_cons]
   congr 2
   omega
theorem zAt{α:Type}(p:α→Bool):∀(l:List α),l.take (l.takeWhile p).length=l.takeWhile p∧l.drop (l.takeWhile p).length=l.dropWhile p∧(l.takeWhile p).length≤l.length
 | []=>by simp
 |x ::r=>by
  rw [List.takeWhile_cons,List.dropWhile_cons]
  cases p x with
  |false=>simp
  |true =>
   obtain ⟨h1,h2,h3⟩:=zAt p r
   simp [h1,h2,h3]
theorem ztF{s:Tx}{l:List Tx}(hl:l.length≤900):zlM l s=some (zwC s l):=by
 unfold zlM
 obtain ⟨h1,h2,h3⟩:=zAt (fun x=>Op.bytesLess x s) l
 rw [show zl (fun z=>zes l s z) 0=_ from zna (by omega) l [] rfl]
 simp only [Option.bind_some,zD,List.length_nil,Nat.zero_add]
 unfold zn0
 rw [zpq h3,h1]
 simp only [Option.bind_some]
 rw [zc3 (w:=16) (l:=[]) (by simp;omega) (by simp;omega)]
 simp only [Option.bind_some,List.nil_append]
 rw [zhg h3,h2]
 simp only [Option.bind_some]
 rw [zc3 (w:=16) (x:=[s]) (by simp;omega) (by simp;omega)]
 simp only [Option.bind_some]
 have h4:(l.dropWhile (fun x=>Op.bytesLess x s)).length≤l.length:=by rw [←h2,List.length_drop];omega
 rw [zc3 (w:=16) (by simp;omega) (by simp;omega),zug]
 simp
theorem zoa:∀{l:List Tx} (a:Tx),l.Nodup→l.count a=if a∈l then 1 else 0
 | [],a,_=>by simp
 |x ::r,a,h=>by
  rw [List.nodup_cons] at h
  rw [List.count_cons,zoa a h.2]
  by_cases e:x=a
  ·subst e
   simp [h.1]
  ·have:a≠x:=fun e2=>e e2.symm
   simp [e,this]
theorem zx0{a b:List Tx}(ha:a.Nodup)(hb:b.Nodup)(h:∀x,x∈a↔x∈b):a.Perm b:=by
 rw [List.perm_iff_count]
 intro x
 rw [zoa x ha,zoa x hb]
 by_cases hx:x∈a
 ·rw [if_pos hx,if_pos ((h x).1 hx)]
 ·rw [if_neg hx,if_neg (fun hb=>hx ((h x).2 hb))]
theorem zAc{a b:List Tx}(ha:a.Pairwise (·≤·))(hb:b.Pairwise (·≤·))(h:a.Perm b):a=b:=
 List.Perm.eq_of_pairwise (fun a b _ _ h1 h2=>List.le_antisymm h1 h2) ha hb h
theorem zt8{nx:Tx→List Tx}:∀(d i:Nat) (zae:List Tx),zae.Nodup→(bfs nx d i zae).Nodup
 | 0,i,zae,h=>h
 |d+1,i,zae,h=>by
  unfold bfs
  cases zae[i]? with
  |none=>exact h
  |some x =>
   refine zt8 d (i+1) _ ?_
   obtain ⟨t,k1,k2,k3,k4⟩:=zjr (nx x) zae
   rw [k1]
   exact List.nodup_append.2 ⟨h,k2,fun a ha b hb e=>(k3 b hb).1 (by rw [←e];exact ha)⟩
theorem zqV{R:Type}{I:List Tx→Prop}{nx:Tx→List Tx}{p:Tx→Bool}{body:List Tx×List Tx×Int→Option (Sum (List Tx×List Tx×Int) (Sum (List Tx) R))}
  (hb:∀(i:Nat) acc zae x,I zae→acc.length≤i→zae[i]?=some x→body (acc,zae,(i:Int))=some (.inl (cond (p x) (acc++[x]) acc,push zae (nx x),((i+1:Nat):Int))))
  (he:∀(i:Nat) acc zae,I zae→zae.length≤i→body (acc,zae,(i:Int))=some (.inr (.inl acc)))
  (hp:∀zae x,I zae→x∈zae→I (push zae (nx x))):∀(d i:Nat) (acc zae:List Tx),I zae→acc.length≤i→fin nx d i zae=true →
  zl body (acc,zae,(i:Int))=some (.inl (acc++((bfs nx d i zae).drop i).filter p))
 | 0,i,acc,zae,hI,ha,hf=>by
  have hl:zae.length≤i:=of_decide_eq_true hf
  rw [zI,he i acc zae hI hl]
  show some (Sum.inl acc:Sum (List Tx) R)=some (Sum.inl (acc++((zae.drop i).filter p)))
  rw [List.drop_eq_nil_of_le hl]
  simp
 |d+1,i,acc,zae,hI,ha,hf=>by
  unfold fin at hf
  unfold bfs
  cases hi:zae[i]? with
  |none =>
   have hl:zae.length≤i:=List.getElem?_eq_none_iff.1 hi
   rw [zI,he i acc zae hI hl]
   show some (Sum.inl acc:Sum (List Tx) R)=some (Sum.inl (acc++((zae.drop i).filter p)))
   rw [List.drop_eq_nil_of_le hl]
   simp
  |some x =>
   rw [hi] at hf
   obtain ⟨t,ht⟩:=zoH (nx:=nx) d (i+1) (push zae (nx x))
   obtain ⟨u,hu,_⟩:=zjr (nx x) zae
   have hx:(bfs nx d (i+1) (push zae (nx x)))[i]?=some x:=by
    rw [ht,hu,List.append_assoc,List.getElem?_append_left (List.getElem?_eq_some_iff.1 hi).1,hi]
   obtain ⟨hlt,hge⟩:=List.getElem?_eq_some_iff.1 hx
   have ih:=fun a ha=>zqV hb he hp d (i+1) a _ (hp _ _ hI (List.mem_of_getElem? hi)) ha hf
   rw [zI,hb i acc zae x hI ha hi]
   show zl body (cond (p x) (acc++[x]) acc,push zae (nx x),((i+1:Nat):Int))=some (.inl (acc++((bfs nx d (i+1) (push zae (nx x))).drop i).filter p))
   rw [ih _ (by cases p x <;> simp <;> omega),List.drop_eq_getElem_cons hlt,hge]
   cases hpx:p x with
   |true=>rw [List.filter_cons_of_pos hpx];simp
   |false=>rw [List.filter_cons_of_neg (by rw [hpx];exact Bool.false_ne_true)];rfl
def zmq(L:List za)(n:Tx):List Tx:=bfs (nxI L) 100 0 (zeO L n)
def zbZ(L:List za)(n:Tx):List Tx:=zpY ((zmq L n).filter (isF L))
section
variable {l L : List za} {m : List (Tx × Int)}
theorem zxe(h:zcg l L)(n:Tx):fin (nxI L) 100 0 (zeO L n)=true:=
 zy8 (U:=List.map (fun c:za=>c.Name) L) (s0:=zeO L n) h.nxI_in _ _ _ .start (by have:=zfD h n;have:=h.len;simp;omega)
theorem zxf(h:zcg l L)(n:Tx):Inv (List.map (fun c:za=>c.Name) L) (zeO L n) (zmq L n):=zyK h.nxI_in _ _ _ .start
theorem zxg(h:zcg l L)(n:Tx):(zmq L n).length≤52:=by
 have h1:=(zxf h n).len
 have h2:=zfD h n
 have h3:=h.len
 simp only [List.length_map] at h1
 omega
theorem ztK(h:zcg l L){n x:Tx}(hx:x∈zmq L n):zb0 L x=true:=zi4.2 ((zxf h n).mem (fun y hy=>zAn h hy) x hx)
theorem zzE{n:Tx}{c:za}(hc:cl L n=some c):nxI L n=c.Impl:=by unfold nxI;rw [hc]
theorem zxE{R:Type}{body:List Tx×Int→Option (Sum (List Tx×Int) (Sum (List Tx) R))}{l:List Tx}(hl:l.length≤100)
  (hb:∀(i:Nat) x zae,zae.length≤1000→l[i]?=some x→body (zae,(i:Int))=some (.inl (cond (!(zae.any fun y=>x == y)) (zae++[x]) zae,IntKind.i64.wrap ((i:Int)+1))))
  (he:∀zae,body (zae,(l.length:Int))=some (.inr (.inl zae))) (zae:List Tx) (hs:zae.length≤800):zl body (zae,0)=some (.inl (push zae l)):=by
 have:=zrn (p:=fun _=>true) hl (fun i x s h hx=>by rw [hb i x s h hx];rfl) he l [] zae rfl (by omega)
 rw [List.filter_eq_self.2 (fun _ _=>rfl)] at this
 exact this
theorem zqR(h:zcg l L)(hm:zbr L m)(n:Tx):zdZ L m n=some (zbZ L n):=by
 unfold zdZ zbm
 rw [hm.has]
 cases hn:zb0 L n with
 |false =>
  unfold zbZ zmq
  rw [zj9 hn]
  rfl
 |true =>
  rw [zka h hm]
  simp only [Bool.not_true,cond_false,Option.bind_some]
  have h26:=h.len
  have hs26:=zfD h n
  have hl:=zqV (R:=List Tx) (I:=fun s=>Inv (List.map (fun c:za=>c.Name) L) (zeO L n) s) (nx:=nxI L) (p:=isF L) (body:=fun z=>zbx L m z.1 z.2.1 z.2.2)
   (fun i acc zae x hI ha hx=>by
    have hsl:=hI.len
    simp only [List.length_map] at hsl
    have hxm:zb0 L x=true:=zi4.2 (hI.mem (fun y hy=>zAn h hy) x (List.mem_of_getElem? hx))
    obtain ⟨c,hc⟩:=zeT hxm
    have h4:=(h.okc c (zbs hc).1).impl
    have hilt:=(List.getElem?_eq_some_iff.1 hx).1
    have hp:∀acc',zdE zae (i:Int) c acc'=some (.inl (acc',push zae c.Impl,((i+1:Nat):Int))):=fun acc'=>by
     unfold zdE
     rw [zxE (l:=c.Impl) (by omega) (fun j y s hs hy=>by
      show zdF c s (j:Int)=_
      unfold zdF zfa
      rw [zd9 hy,zr,hy]
      simp only [cond_true,Option.bind_some]
      rw [zql hs,zc3 (w:=16) (l:=s) (x:=[y]) (by simp;omega) (by simp;omega)]
      cases (s.any fun z=>y == z) <;> rfl) (fun s=>by
      show zdF c s (c.Impl.length:Int)=_
      unfold zdF
      rw [zeD];rfl) zae (by omega)]
     simp only [Option.bind_some,zD]
     unfold zif
     rw [zN (by omega)]
    show zbx L m acc zae (i:Int)=_
    unfold zbx
    rw [zd9 hx,zr,hx]
    simp only [cond_true,Option.bind_some]
    rw [zsn hm hxm,hc]
    simp only [Option.bind_some]
    rw [hp,zc3 (w:=16) (l:=acc) (x:=[c.Name]) (by simp;omega) (by simp;omega)]
    simp only [Option.bind_some]
    rw [hp,zzE hc,(zbs hc).2]
    have e:isF L x=c.Interface:=by unfold isF;rw [hc]
    rw [e]
    cases c.Interface <;> rfl)
   (fun i acc zae hI hle=>by
    show zbx L m acc zae (i:Int)=_
    unfold zbx
    rw [decide_eq_false (by omega)];rfl)
   (fun zae y hI hy=>hI.push (h.nxI_in y)) 100 0 [] (zeO L n) .start (by simp) (zxe h n)
  rw [show zl (fun z=>zbx L m z.1 z.2.1 z.2.2) ([],zeO L n,0)=_ from hl]
  simp only [Option.bind_some,zD,List.drop_zero,List.nil_append]
  unfold zih zyd
  have h1:((bfs (nxI L) 100 0 (zeO L n)).filter (isF L)).length≤52:=Nat.le_trans (List.length_filter_le _ _) (zxg h n)
  rw [if_pos (by omega)]
  rfl
theorem zuc(n:Tx):(zbZ L n).Pairwise (·≤·):=zlw _
theorem zub{n x:Tx}:x∈zbZ L n↔x∈zmq L n∧isF L x=true:=by
 unfold zbZ
 rw [(zhy _).mem_iff,List.mem_filter]
theorem zyl(h:zcg l L)(n:Tx):(zmq L n).Nodup:=zt8 _ _ _ (zuZ h _ n)
theorem ztL{n x:Tx}(hx:x∈zeO L n):x∈zmq L n:=by
 obtain ⟨t,e⟩:=zoH (nx:=nxI L) 100 0 (zeO L n)
 unfold zmq
 rw [e];exact List.mem_append_left _ hx
theorem zrJ(h:zcg l L){n x y:Tx}(hx:x∈zmq L n)(hy:y∈nxI L x):y∈zmq L n:=
 zpp 100 0 _ (zxe h n) (fun j x hj=>by omega) x hx y hy
end
theorem zny{l:List Tx}(hl:l.length≤1000)(n:Tx):zkz l n=some (l.any fun y=>y == n):=by
 unfold zkz
 rw [show zl (fun z=>ziA l n z) 0=some (zjy () (cond (l.any fun y=>y == n) (some true) none)) from by
  rw [←zY]
  refine zaQ (fun i x hx=>?_) ?_
  ·show ziA l n (i:Int)=_
   have hi:=(List.getElem?_eq_some_iff.1 hx).1
   unfold ziA
   rw [zd9 hx,zr,hx,zN (by omega)]
   simp only [cond_true,Option.bind_some]
   cases x == n <;> rfl
  ·show ziA l n (l.length:Int)=_
   unfold ziA
   rw [zeD];rfl]
 cases (l.any fun y=>y == n) <;> rfl
section
variable {l L : List za}
def zAX(L:List za)(n:Tx)(k:Nat):Bool:=match L[k]? with |some c=>(zeO L n).any (fun y=>y == c.Name) |none=>false
theorem zvm(h:zcg l L){c:za}(hc:c∈L){inn:List Bool}(hi:inn.length=L.length)(more:Bool):
  zl (fun z=>zdf L c z.1 z.2.1 z.2.2) (inn,more,0)=some (.inl (mkS L inn c.Impl,more||c.Impl.any (zrf L inn))):=by
 have h26:=h.len
 have h4:=(h.okc c hc).impl
 refine zpz (l:=c.Impl) (by omega) (fun j s inn more hi hs=>?_) (fun inn more=>?_) c.Impl [] inn more rfl hi
 ·show zdf L c inn more (j:Int)=_
  have hsm:=List.mem_of_getElem? hs
  have hh:zb0 L s=true:=h.closed c hc s (List.mem_cons_of_mem _ hsm) ((h.okc c hc).implE s hsm)
  unfold zdf zf4
  rw [zd9 hs,zr,hs]
  simp only [cond_true,Option.bind_some]
  rw [zib (by omega)]
  simp only [Option.bind_some]
  unfold mk1 zrf
  obtain ⟨g1,g2⟩:=zvh hh
  have e:idx inn (atN L s)=some (onB inn (atN L s).toNat):=by
   unfold idx onB
   rw [if_pos g1,List.getD_eq_getElem?_getD,List.getElem?_eq_getElem (by omega)];rfl
  rw [e,hh]
  simp only [Option.bind_some,Bool.true_and]
  cases onB inn (atN L s).toNat <;> simp
 ·show zdf L c inn more (c.Impl.length:Int)=_
  unfold zdf
  rw [zeD];rfl
theorem zxD(h:zcg l L)(n:Tx){inn:List Bool}(hi:inn.length=L.length)(more:Bool):
  zl (fun z=>zdg L (zeO L n) z.1 z.2.1 z.2.2) (inn,more,0)=some (.inl (zjq L (·.Impl) (zAX L n) inn 0 L,more||znF L (·.Impl) (zAX L n) inn 0 L)):=by
 have h26:=h.len
 have hs26:=zfD h n
 refine zrj (st:=fun a b c=>(a,b,c)) (nx:=(·.Impl)) (act:=zAX L n) (by omega) (fun k c inn more hi hc=>?_) (fun inn more=>?_) L [] inn more rfl hi
 ·show zdg L (zeO L n) inn more (k:Int)=_
  have hk:=(List.getElem?_eq_some_iff.1 hc).1
  have e:zAX L n k=(zeO L n).any (fun y=>y == c.Name):=by unfold zAX;rw [hc]
  unfold zdg
  rw [zd9 hc,zwS (by omega),zr,hc]
  simp only [cond_true,Option.bind_some]
  rw [zny (by omega),zvm h (List.mem_of_getElem? hc) hi,e]
  unfold zf7 zf5
  rw [zN (by omega)]
  cases onB inn k <;> cases ((zeO L n).any (fun y=>y == c.Name)) <;> rfl
 ·show zdg L (zeO L n) inn more (L.length:Int)=_
  unfold zdg
  rw [zeD];rfl
def zjO(F:List Bool):Nat→List za→List Tx
 |_,[]=>[]
 |k,c ::r=>cond (onB F k) (c.Name ::zjO F (k+1) r) (zjO F (k+1) r)
theorem zon{F:List Bool}:∀(r:List za) (k:Nat) (x:Tx),x∈zjO F k r↔∃(j:Nat) (c:za),r[j]?=some c∧onB F (k+j)=true∧c.Name=x
 | [],k,x=>by
  constructor
  ·intro h;cases h
  ·rintro ⟨j,c,h,_⟩;simp at h
 |c ::r,k,x=>by
  have ih:=zon (F:=F) r (k+1) x
  have back:(∃(j:Nat) (d:za),r[j]?=some d∧onB F (k+1+j)=true∧d.Name=x)↔∃(j:Nat) (d:za),0<j∧(c ::r)[j]?=some d∧onB F (k+j)=true∧d.Name=x:=by
   constructor
   ·rintro ⟨j,d,h1,h2,h3⟩
    exact ⟨j+1,d,by omega,by simpa using h1,by rw [show k+(j+1)=k+1+j by omega];exact h2,h3⟩
   ·rintro ⟨j,d,h0,h1,h2,h3⟩
    cases j with
    |zero=>omega
    |succ j=>exact ⟨j,d,by simpa using h1,by rw [show k+1+j=k+(j+1) by omega];exact h2,h3⟩
  unfold zjO
  cases hb:onB F k with
  |true =>
   rw [cond_true,List.mem_cons,ih,back]
   constructor
   ·rintro (e |⟨j,d,_,h1⟩)
    ·exact ⟨0,c,rfl,hb,e.symm⟩
    ·exact ⟨j,d,h1⟩
   ·rintro ⟨j,d,h1,h2,h3⟩
    cases j with
    |zero=>left;have e:c=d:=(by simpa using h1);rw [e];exact h3.symm
    |succ j=>exact .inr ⟨j+1,d,by omega,h1,h2,h3⟩
  |false =>
   rw [cond_false,ih,back]
   constructor
   ·rintro ⟨j,d,_,h1⟩;exact ⟨j,d,h1⟩
   ·rintro ⟨j,d,h1,h2,h3⟩
    cases j with
    |zero=>rw [Nat.add_zero,hb] at h2;cases h2
    |succ j=>exact ⟨j+1,d,by omega,h1,h2,h3⟩
theorem zoZ{F:List Bool}:∀(r pre:List za),Nd (pre++r)→(zjO F pre.length r).Nodup
 | [],pre,h=>by simp [zjO]
 |c ::r,pre,h=>by
  have ih:=zoZ (F:=F) r (pre++[c]) (by simpa using h)
  rw [show (pre++[c]).length=pre.length+1 by simp] at ih
  unfold zjO
  cases onB F pre.length with
  |false=>exact ih
  |true =>
   refine List.nodup_cons.2 ⟨fun hm=>?_,ih⟩
   obtain ⟨j,d,h1,_,h3⟩:=(zon r _ _).1 hm
   have:=h pre.length (pre.length+(j+1)) c d (by simp) (by rw [List.getElem?_append_right (by omega),show pre.length+(j+1)-pre.length=j+1 by omega];simpa using h1) h3.symm
   omega
def zsA(acc:List Tx):List Tx→List Tx
 | []=>acc
 |x ::r=>zsA (zwC x acc) r
theorem zrE:∀(r acc:List Tx),(zsA acc r).Perm (acc++r)
 | [],acc=>by simp [zsA]
 |x ::r,acc=>(zrE r (zwC x acc)).trans (by
  refine ((zmM x acc).append_right r).trans ?_
  exact (List.perm_middle (l₁:=acc) (l₂:=r) (a:=x)).symm)
theorem zpd:∀(r acc:List Tx),acc.Pairwise (·≤·)→(zsA acc r).Pairwise (·≤·)
 | [],acc,h=>h
 |x ::r,acc,h=>zpd r _ (zog x h)
theorem zBs(x:Tx)(l:List Tx):(zwC x l).length=l.length+1:=by rw [(zmM x l).length_eq];rfl
theorem zpT{F:List Bool}(hl:L.length≤100)(hF:F.length=L.length):∀(r pre:List za) (acc:List Tx),L=pre++r→acc.length≤pre.length →
  zl (fun z=>zbn L F z.1 z.2) (acc,(pre.length:Int))=some (.inl (zsA acc (zjO F pre.length r)))
 | [],pre,acc,e,ha=>by
  rw [List.append_nil] at e
  rw [zI]
  show (zbn L F acc (pre.length:Int)).bind _=_
  unfold zbn
  rw [←e,zeD];rfl
 |c ::r,pre,acc,e,ha=>by
  have hlen:L.length=pre.length+(r.length+1):=by rw [e];simp
  have hx:L[pre.length]?=some c:=by rw [e];simp
  have ih:=fun a ha=>zpT hl hF r (pre++[c]) a (by rw [e];simp) ha
  rw [show (pre++[c]).length=pre.length+1 by simp] at ih
  rw [zI]
  show (zbn L F acc (pre.length:Int)).bind _=_
  unfold zbn
  rw [zd9 hx,zwS (by omega),zr,hx]
  simp only [cond_true,Option.bind_some]
  rw [ztF (by omega)]
  unfold zf6 zjO
  rw [zN (by omega)]
  cases onB F pre.length with
  |false =>
   show zl (fun z=>zbn L F z.1 z.2) (acc,((pre.length+1:Nat):Int))=_
   exact ih acc (by omega)
  |true =>
   show zl (fun z=>zbn L F z.1 z.2) (zwC c.Name acc,((pre.length+1:Nat):Int))=_
   exact ih _ (by rw [zBs];omega)
theorem zwd(h:zcg l L){s:Tx}(hh:zb0 L s=true):∃d,L[(atN L s).toNat]?=some d∧d.Name=s:=by
 obtain ⟨d,hd⟩:=zeT hh
 have e:=zjL L s
 rw [hd] at e
 obtain ⟨g1,g2⟩:=zvh hh
 refine ⟨d,?_,(zbs hd).2⟩
 unfold idx at e
 rw [if_pos g1] at e
 exact e
theorem zwr(h:zcg l L){n:Tx}(hn:zb0 L n=true){inn:List Bool}(hi:inn.length=L.length)
  (h0:∀k,onB inn k=true↔(isF L n=true∧k=(atN L n).toNat)):zfg L n inn=some (zbZ L n):=by
 have h26:=h.len
 let Q:Nat→Prop:=fun k=>∃c,L[k]?=some c∧c.Name∈zmq L n∧c.Interface=true
 have isF_of:∀{k:Nat} {c:za},L[k]?=some c→isF L c.Name=c.Interface:=fun {k c} hk=>by
  unfold isF;rw [h.nd.cl (List.mem_of_getElem? hk)]
 have hq0:∀k,onB inn k=true→Q k:=fun k hk=>by
  obtain ⟨h1,h2⟩:=(h0 k).1 hk
  obtain ⟨d,hd,hd2⟩:=zwd h hn
  refine ⟨d,by rw [h2];exact hd,by rw [hd2];exact ztL (zAo hn),?_⟩
  rw [←isF_of hd,hd2];exact h1
 have hQ:∀(j:Nat) c,L[j]?=some c→(Q j∨zAX L n j=true)→∀s∈c.Impl,zb0 L s=true→Q (atN L s).toNat:=fun j c hj hor s hs hh=>by
  have hcT:c.Name∈zmq L n:=by
   rcases hor with ⟨c',hc',hm,_⟩ |ha
   ·rw [hj] at hc';cases hc';exact hm
   ·unfold zAX at ha
    rw [hj] at ha
    have ha:(zeO L n).any (fun y=>y == c.Name)=true:=ha
    rw [List.any_eq_true] at ha
    obtain ⟨y,hy,e⟩:=ha
    rw [←eq_of_beq e];exact ztL hy
  obtain ⟨d,hd,hd2⟩:=zwd h hh
  refine ⟨d,hd,?_,?_⟩
  ·rw [hd2]
   exact zrJ h hcT (by rw [zzE (h.nd.cl (List.mem_of_getElem? hj))];exact hs)
  ·rw [←isF_of hd,hd2];exact h.implF c (List.mem_of_getElem? hj) s hs
 obtain ⟨F,k1,k2,k3,k4,k5⟩:=zpC (L:=L) (nx:=(·.Impl)) (act:=zAX L n) (R:=List Tx) (st:=fun a b=>(a,b)) (body:=fun z=>zf8 L (zeO L n) z.1 z.2) (Q:=Q)
  (fun inn hi=>by
   show zf8 L (zeO L n) inn true=_
   unfold zf8
   rw [zxD h n hi false]
   rfl) (fun inn hi=>rfl) hQ L.length inn hi (by omega) hq0
 unfold zfg
 rw [zgg h]
 simp only [Option.bind_some]
 rw [k1]
 simp only [Option.bind_some,zD]
 unfold zjV
 rw [show zl (fun z=>zbn L F z.1 z.2) ([],0)=_ from zpT (by omega) k2 L [] [] rfl (by simp)]
 simp only [Option.bind_some,zD]
 show some (zsA [] (zjO F 0 L))=_
 congr 1
 refine zAc (zpd _ _ (by simp)) (zuc n) ((zrE _ _).trans ?_)
 rw [List.nil_append]
 refine (zx0 (zoZ (F:=F) L [] h.nd) ((zyl h n).filter (isF L)) fun x=>?_).trans (zhy _).symm
 show x∈zjO F 0 L↔_
 rw [zon,List.mem_filter]
 constructor
 ·rintro ⟨j,c,h1,h2,h3⟩
  rw [Nat.zero_add] at h2
  obtain ⟨c',hc',hm,hI⟩:=k5 j h2
  rw [h1] at hc';cases hc'
  rw [←h3]
  exact ⟨hm,by rw [isF_of h1];exact hI⟩
 ·rintro ⟨hx,hxF⟩
  have key:∀y∈zmq L n,y∈zmq L n∧(y∈zeO L n∨onB F (atN L y).toNat=true):=by
   refine zqH (Q:=fun y=>y∈zmq L n∧(y∈zeO L n∨onB F (atN L y).toNat=true)) (fun y hy z hz=>?_) 100 0 _ (fun y hy=>⟨ztL hy,.inl hy⟩)
   refine ⟨zrJ h hy.1 hz,.inr ?_⟩
   have hyh:=ztK h hy.1
   obtain ⟨d,hd,hd2⟩:=zwd h hyh
   have hzh:=ztK h (zrJ h hy.1 hz)
   rw [←hd2,zzE (h.nd.cl (List.mem_of_getElem? hd))] at hz
   refine k3 _ d hd ?_ z hz hzh
   rw [Bool.or_eq_true]
   rcases hy.2 with h1 |h1
   ·right
    unfold zAX
    rw [hd]
    show (zeO L n).any (fun w=>w == d.Name)=true
    rw [hd2,List.any_eq_true]
    exact ⟨y,h1,beq_self_eq_true _⟩
   ·exact .inl h1
  have hxh:=ztK h hx
  obtain ⟨d,hd,hd2⟩:=zwd h hxh
  refine ⟨(atN L x).toNat,d,hd,?_,hd2⟩
  rw [Nat.zero_add]
  rcases (key x hx).2 with h1 |h1
  ·rcases (zkK h _ n x h1).2.2 with e |⟨c,hc,e⟩
   ·subst e
    exact k4 _ ((h0 _).2 ⟨hxF,rfl⟩)
   ·rw [e,h.superF c hc] at hxF;cases hxF
  ·exact h1
theorem zm9(h:zcg l L)(n:Tx):zfU L n=some (zbZ L n):=by
 have h26:=h.len
 unfold zfU
 rw [show mkP 1 (L.length:Int)=some L.length by unfold mkP;rw [if_pos (by omega),Int.toNat_natCast],zib (by omega)]
 simp only [Option.bind_some]
 rw [znJ]
 have hrep:(List.replicate L.length false).length=L.length:=by simp
 have hoff:∀n,onB (List.replicate L.length false) n=false:=fun n=>by
  unfold onB
  rw [List.getD_eq_getElem?_getD,List.getElem?_replicate]
  split <;> rfl
 cases hn:zb0 L n with
 |false =>
  unfold zbZ zmq
  rw [zj9 hn]
  rfl
 |true =>
  obtain ⟨c,hc⟩:=zeT hn
  obtain ⟨g1,g2⟩:=zvh hn
  have eF:isF L n=c.Interface:=by unfold isF;rw [hc]
  rw [zmL hc]
  simp only [Bool.not_true,cond_false,Option.bind_some]
  cases hI:c.Interface with
  |false =>
   simp only [cond_false]
   refine zwr h hn hrep fun k=>?_
   rw [hoff,eF,hI]
   simp
  |true =>
   have e:idx (List.replicate L.length false) (atN L n)=some false:=by
    unfold idx
    rw [if_pos g1,List.getElem?_replicate,if_pos g2]
   rw [e]
   simp only [cond_true,Option.bind_some]
   refine zwr h hn (by simp) fun k=>?_
   rw [zCL (by rw [hrep];exact g2),hoff,Bool.false_or,eF,hI,Nat.beq_eq]
   simp
end
def brk:Tx→Bool
 | []=>false
 |x :: _=>x == 91
def ess(s:Tx):Tx:=zgi (zgi s)
theorem znA{s:Tx}(h:brk s=false):zgi s=s:=by
 cases s with
 |nil=>rfl
 |cons x r =>
  rw [zg9,if_neg]
  intro e
  subst e
  cases h
theorem zlR{s:Tx}(h:brk s=true):zgi s=s.drop 1∧s=91 ::s.drop 1:=by
 cases s with
 |nil=>cases h
 |cons x r =>
  have:x=91:=by simpa [brk] using h
  subst this
  exact ⟨rfl,rfl⟩
theorem zjx{s:Tx}(h:zbU s=true):brk s=false:=by
 cases s with
 |nil=>rfl
 |cons x r =>
  cases hb:(x == 91) with
  |false=>exact hb
  |true =>
   have:x=91:=by simpa using hb
   subst this
   unfold zbU at h
   rw [Bool.and_eq_true] at h
   have h2:zd0 91=true:=h.2
   exact absurd h2 (by decide +kernel)
theorem zBa{s:Tx}(h:zbU s=true):(s == [73])=false:=by
 cases hb:(s == [73]) with
 |false=>rfl
 |true =>
  have:s=[73]:=by simpa using hb
  subst this
  unfold zbU at h
  simp at h
theorem zik{s:Tx}(h:zbU s=true):zfz s=true:=by
 unfold zfz
 rw [znA (zjx h),znA (zjx h),h,Bool.or_true]
theorem zDs{s:Tx}(h:zfz s=true):brk (ess s)=false:=by
 unfold zfz at h
 rw [Bool.or_eq_true] at h
 rcases h with h |h
 ·unfold ess;rw [eq_of_beq h];rfl
 ·exact zjx h
theorem zqq{s:Tx}(h:zfz s=true)(hb:brk s=true):zfz (s.drop 1)=true∧ess (s.drop 1)=ess s:=by
 obtain ⟨h1,h2⟩:=zlR hb
 have h3:=zDs h
 have e:zgi (zgi (s.drop 1))=zgi (zgi s):=by
  rw [h1]
  exact znA (show brk (zgi (s.drop 1))=false from by rw [←h1];exact h3)
 exact ⟨by unfold zfz at h ⊢;rw [e];exact h,e⟩
theorem zpr{s:Tx}(hb:brk s=false):ess s=s:=by unfold ess;rw [znA hb,znA hb]
theorem zzg:giv.all (fun c=>zbU c.Name)=true:=by decide +kernel
def zxb(L:List za)(t:Tx):Bool:=(ess t == [73])||zb0 L (ess t)
def thN(L:List za)(t:Tx):Bool:=zfz t&&zxb L t
section
variable {l L : List za} {m : List (Tx × Int)}
theorem zkZ(h:zcg l L){n:Tx}(hn:zb0 L n=true):zbU n=true:=by
 obtain ⟨c,hc⟩:=zeT hn
 obtain ⟨h1,h2⟩:=zbs hc
 rw [←h2]
 rw [h.app] at h1
 rcases List.mem_append.1 h1 with e |e
 ·exact List.all_eq_true.1 zzg c e
 ·have:=h.may c e
  unfold zrO at this
  simp only [Bool.and_eq_true] at this
  exact this.2.1.1.1.1
def zic(s:Tx):Tx×Bool:=cond (zfz s&&brk s) (s.drop 1,true) ([],false)
theorem zhF{s:Tx}(h:Len s):zhh s=some (zic s):=by
 unfold zhh zic
 rw [zhz h]
 cases hm:zfz s with
 |false=>rfl
 |true =>
  cases s with
  |nil =>
   exfalso
   unfold zfz at hm
   rw [show zgi (zgi [])=[] from rfl] at hm
   simp at hm
   exact zkN hm rfl
  |cons x r =>
   simp only [Option.bind_some,Bool.not_true,cond_false,Bool.true_and]
   rw [zjm]
   have e:((x.toNat:Int) == (91:Int))=(x == 91):=by
    rw [Bool.eq_iff_iff,beq_iff_eq,beq_iff_eq]
    constructor
    ·intro h;exact UInt8.toNat_inj.1 (by simpa using (Int.ofNat_inj.1 h))
    ·intro h;rw [h];rfl
   simp only [List.getElem?_cons_zero,Option.bind_some,e]
   rw [show (1:Int)=((1:Nat):Int) from rfl,zhg (by simp)]
   show cond (!(x == 91)) _ _=some (cond (x == 91) _ _)
   cases x == 91 <;> rfl
theorem zsC{s:Tx}:∀(d:Nat) (t:Tx),t.length≤d→Len t→zl (fun z=>zdG z.1 z.2.1 z.2.2) (t,(zic t).1,(zic t).2)=some (.inl (cond (zfz t) (ess t) t))
 |d,t,hd,hl=>by
  rw [zI]
  show (zdG t (zic t).1 (zic t).2).bind _=_
  unfold zdG
  cases hm:zfz t with
  |false =>
   have:zic t=([],false):=by unfold zic;rw [hm];rfl
   rw [this];rfl
  |true =>
   cases hb:brk t with
   |false =>
    have:zic t=([],false):=by unfold zic;rw [hm,hb];rfl
    rw [this,zpr hb];rfl
   |true =>
    have:zic t=(t.drop 1,true):=by unfold zic;rw [hm,hb];rfl
    obtain ⟨k1,k2⟩:=zqq hm hb
    have hlen:(t.drop 1).length=t.length-1:=by simp
    have hpos:0<t.length:=by rw [(zlR hb).2];simp
    have hl2:Len (t.drop 1):=by unfold Len at *;omega
    rw [this]
    show ((zhh (t.drop 1)).bind _).bind _=_
    rw [zhF hl2]
    show zl (fun z=>zdG z.1 z.2.1 z.2.2) (t.drop 1,(zic (t.drop 1)).1,(zic (t.drop 1)).2)=_
    cases d with
    |zero=>omega
    |succ d =>
     rw [zsC (s:=s) d (t.drop 1) (by omega) hl2,k1,k2];rfl
theorem zxc(h:zcg l L)(hm:zbr L m){t:Tx}(hl:Len t):zfc L m t=some (thN L t):=by
 unfold zfc
 rw [zhF hl]
 simp only [Option.bind_some]
 rw [zsC (s:=t) t.length t (Nat.le_refl _) hl]
 simp only [Option.bind_some,zD]
 unfold ziQ zbm
 rw [hm.has]
 unfold thN zxb
 cases hmay:zfz t with
 |true=>rfl
 |false =>
  simp only [cond_false,Bool.false_and]
  congr 1
  rw [Bool.or_eq_false_iff]
  constructor
  ·cases hI:(t == [73]) with
   |false=>rfl
   |true =>
    have:t=[73]:=by simpa using hI
    rw [this] at hmay
    exact absurd hmay (by decide +kernel)
  ·cases hh:zb0 L t with
   |false=>rfl
   |true=>rw [zik (zkZ h hh)] at hmay;cases hmay
theorem zt7:∀(t:Tx) (k:Nat),t.length+k≤1000→zl (fun z=>zhN z.1 z.2) (t,(k:Int))=some (.inl (t.dropWhile (· == 91),((k+(t.takeWhile (· == 91)).length:Nat):Int)))
 | [],k,hk=>by
  rw [zI];rfl
 |x ::r,k,hk=>by
  simp only [List.length_cons] at hk
  rw [zI]
  show (zhN (x ::r) (k:Int)).bind _=_
  unfold zhN
  have e:((x.toNat:Int) == (91:Int))=(x == 91):=by
   rw [Bool.eq_iff_iff,beq_iff_eq,beq_iff_eq]
   constructor
   ·intro h;exact UInt8.toNat_inj.1 (by simpa using (Int.ofNat_inj.1 h))
   ·intro h;rw [h];rfl
  rw [decide_eq_true (show (0:Int)<((x ::r).length:Int) by simp only [List.length_cons];omega),zjm]
  simp only [cond_true,List.getElem?_cons_zero,Option.bind_some,e]
  rw [show (1:Int)=((1:Nat):Int) from rfl,zhg (by simp),List.dropWhile_cons,List.takeWhile_cons]
  cases hx:(x == 91) with
  |false=>simp
  |true =>
   simp only [cond_true,Option.bind_some,if_true,List.drop_one,List.tail_cons]
   rw [show ((1:Nat):Int)=1 from rfl,zN (by omega)]
   show zl (fun z=>zhN z.1 z.2) (r,((k+1:Nat):Int))=_
   rw [zt7 r (k+1) (by omega)]
   simp only [List.length_cons]
   congr 3
   omega
theorem zDe{t:Tx}(h:t.length≤900):zj6 t=some (t.dropWhile (· == 91),((t.takeWhile (· == 91)).length:Int)):=by
 unfold zj6
 rw [show zl (fun z=>zhN z.1 z.2) (t,0)=_ from zt7 t 0 (by omega)]
 simp only [Option.bind_some,zD,Nat.zero_add]
 rfl
theorem zwm{t:Tx}(h:brk t=false):t.dropWhile (· == 91)=t∧t.takeWhile (· == 91)=[]:=by
 cases t with
 |nil=>exact ⟨rfl,rfl⟩
 |cons x r =>
  have:(x == 91)=false:=h
  simp [List.dropWhile_cons,List.takeWhile_cons,this]
theorem zwk{t:Tx}(h:brk t=true):t.dropWhile (· == 91)=(t.drop 1).dropWhile (· == 91)∧(t.takeWhile (· == 91)).length=((t.drop 1).takeWhile (· == 91)).length+1:=by
 cases t with
 |nil=>cases h
 |cons x r =>
  have:(x == 91)=true:=h
  simp [List.dropWhile_cons,List.takeWhile_cons,this]
theorem zwl:∀(d:Nat) (t:Tx),t.length≤d→zfz t=true→t.dropWhile (· == 91)=ess t
 |d,t,hd,hm=>by
  cases hb:brk t with
  |false=>rw [(zwm hb).1,zpr hb]
  |true =>
   obtain ⟨k1,k2⟩:=zqq hm hb
   have hlen:(t.drop 1).length=t.length-1:=by simp
   have hpos:0<t.length:=by rw [(zlR hb).2];simp
   cases d with
   |zero=>omega
   |succ d=>rw [(zwk hb).1,zwl d (t.drop 1) (by omega) k1,k2]
theorem zsL{t:Tx}(h:t.length≤900)(hm:zfz t=true):∃k:Nat,zj6 t=some (ess t,(k:Int))∧(((k:Int) == 0)=!brk t):=by
 refine ⟨_,by rw [zDe h,zwl _ t (Nat.le_refl _) hm],?_⟩
 cases hb:brk t with
 |false=>rw [(zwm hb).2];rfl
 |true=>rw [(zwk hb).2];exact beq_eq_false_iff_ne.2 (by omega)
theorem zb5(h:zcg l L){t:Tx}(hl:t.length≤900):zL L t=some (thN L t):=by
 have h26:=h.len
 unfold zL
 rw [zf3 (by unfold Len;omega)]
 unfold thN
 cases hm:zfz t with
 |false=>rfl
 |true =>
  obtain ⟨k,hk,_⟩:=zsL hl hm
  rw [hk]
  simp only [Option.bind_some,Bool.not_true,cond_false]
  rw [zib (by omega)]
  simp only [Option.bind_some]
  rw [zqF]
  unfold zxb
  cases (ess t == [73]) <;> rfl
end
def zv0(L:List za):Tx→Tx→Bool
 | [],b=>thN L []&&(thN L b&&(([]:Tx) == b))
 |x ::r,b=>thN L (x ::r)&&(thN L b&&(((x ::r) == b)||cond (x == 91) (cond (brk b) ((!(r == [73]))&&((!(b.drop 1 == [73]))&&zv0 L r (b.drop 1))) (b == zyq)) ((zeO L (x ::r)).any (fun y=>b == y)||(zbZ L (x ::r)).any (fun y=>b == y))))
theorem zv1(L:List za)(a b:Tx):zv0 L a b=(thN L a&&(thN L b&&((a == b)||cond (brk a) (cond (brk b) ((!(a.drop 1 == [73]))&&((!(b.drop 1 == [73]))&&zv0 L (a.drop 1) (b.drop 1))) (b == zyq)) ((zeO L a).any (fun y=>b == y)||(zbZ L a).any (fun y=>b == y))))):=by
 cases a with
 |nil =>
  have:thN L []=false:=by
   unfold thN
   have:zfz []=false:=by
    cases h:zfz [] with
    |false=>rfl
    |true =>
     unfold zfz at h
     rw [show zgi (zgi [])=[] from rfl] at h
     simp at h
     exact absurd rfl (zkN h)
   rw [this];rfl
  rw [this]
  show (thN L []&&_)=_
  rw [this];rfl
 |cons x r=>rfl
section
variable {l L : List za} {m : List (Tx × Int)}
theorem zqP{l:List Tx}(hl:l.length≤1000)(n:Tx):zP l n=some (l.any fun y=>n == y):=zql hl n
theorem zkQ(h:zcg l L)(n:Tx):(zbZ L n).length≤52:=by
 unfold zbZ
 rw [(zhy _).length_eq]
 exact Nat.le_trans (List.length_filter_le _ _) (zxg h n)
theorem zAu{t:Tx}(h:thN L t=true):zfz t=true:=by
 unfold thN at h;rw [Bool.and_eq_true] at h;exact h.1
theorem zy1{t:Tx}(h:thN L t=true):zic t=cond (brk t) (t.drop 1,true) ([],false):=by
 unfold zic
 rw [zAu h,Bool.true_and]
theorem zCe(h:zcg l L)(hm:zbr L m){v0:(List za)×(List (Tx×Int))×Tx×Tx→Option Bool}{a b:Tx}(ha:Len a)(hb:Len b)
  (hv:brk a=true→brk b=true→v0 (L,m,a.drop 1,b.drop 1)=some (zv0 L (a.drop 1) (b.drop 1))):zb2 v0 L m a b=some (zv0 L a b):=by
 have h1:=zfD h a
 have h2:=zkQ h a
 unfold zb2
 rw [zxc h hm ha,zxc h hm hb,zv1]
 cases ta:thN L a with
 |false=>rfl
 |true =>
  cases tb:thN L b with
  |false=>rfl
  |true =>
   simp only [Option.bind_some,Bool.not_true,cond_false,Bool.true_and]
   rw [zhF ha,zhF hb,zy1 ta,zy1 tb]
   simp only [Option.bind_some]
   cases hab:(a == b) with
   |true=>rfl
   |false =>
    cases ba:brk a with
    |true =>
     cases bb:brk b with
     |true =>
      simp only [cond_true,cond_false,Bool.and_self,Bool.false_or]
      rw [hv ba bb]
      cases (a.drop 1 == [73]) <;> cases (b.drop 1 == [73]) <;> rfl
     |false=>rfl
    |false =>
     simp only [cond_true,cond_false,Bool.false_and,Bool.false_or]
     rw [zka h hm,zqR h hm]
     simp only [Option.bind_some]
     rw [zqP (by omega),zqP (by omega)]
     simp only [Option.bind_some]
     cases ((zeO L a).any fun y=>b == y) <;> rfl
theorem zCS(h:zcg l L)(hm:zbr L m):∀(d k:Nat) (a b:Tx),a.length≤d→d<k→Len a→Len b→zBU (fun v0 z=>zb2 v0 z.1 z.2.1 z.2.2.1 z.2.2.2) k (L,m,a,b)=some (zv0 L a b)
 |d,0,a,b,hd,hk,ha,hb=>by omega
 |d,k+1,a,b,hd,hk,ha,hb=>by
  show zb2 (zBU (fun v0 z=>zb2 v0 z.1 z.2.1 z.2.2.1 z.2.2.2) k) L m a b=_
  refine zCe h hm ha hb fun b1 b2=>?_
  have hlen:(a.drop 1).length=a.length-1:=by simp
  have hlen2:(b.drop 1).length=b.length-1:=by simp
  have hpos:0<a.length:=by rw [(zlR b1).2];simp
  cases d with
  |zero=>omega
  |succ d=>exact zCS h hm d k _ _ (by omega) (by omega) (by unfold Len at *;omega) (by unfold Len at *;omega)
theorem zpL(h:zcg l L)(hm:zbr L m){a b:Tx}(ha:a.length≤25)(hb:Len b):zch L m a b=some (zv0 L a b):=by
 unfold zch zDX
 rw [zCS h hm 25 30 a b ha (by omega) (by unfold Len;omega) hb]
theorem zv9(l:List Tx)(n:Tx):(l.any fun y=>y == n)=l.any fun y=>n == y:=by
 congr 1
 funext y
 exact zEr _ _
theorem zoG{T:List Tx}(h:zcg l L)(hT:∀x∈T,zb0 L x=true){b:Tx}(hb:zbU b=false):(T.any fun y=>b == y)=false:=by
 rw [List.any_eq_false]
 intro y hy e
 have:=zkZ h (hT y hy)
 rw [←eq_of_beq e,hb] at this
 cases this
theorem zkP(h:zcg l L){n x:Tx}(hx:x∈zbZ L n):zb0 L x=true:=ztK h (zub.1 hx).1
theorem zvl{n:Tx}(hn:zb0 L n=false):zbZ L n=[]:=by
 unfold zbZ zmq
 rw [zj9 hn];rfl
theorem znM{b:Tx}(hb:brk b=true):zbU b=false:=by
 cases h:zbU b with
 |false=>rfl
 |true=>rw [zjx h] at hb;cases hb
theorem zn7:zbU [73]=false:=by
 cases h:zbU [73] with
 |false=>rfl
 |true=>exact absurd (zBa h) (by simp)
theorem zx9(h:zcg l L){v0:(List za)×Tx×Tx→Option Bool}{a b:Tx}(ha:a.length≤800)(hb:b.length≤800)
  (hv:brk a=true→brk b=true→v0 (L,a.drop 1,b.drop 1)=some (zv0 L (a.drop 1) (b.drop 1))):zb3 v0 L a b=some (zv0 L a b):=by
 unfold zb3
 rw [zb5 h (by omega),zb5 h (by omega),zv1]
 cases ta:thN L a with
 |false=>rfl
 |true =>
  cases tb:thN L b with
  |false=>rfl
  |true =>
   simp only [Option.bind_some,Bool.not_true,cond_false,Bool.true_and]
   obtain ⟨k1,e1,f1⟩:=zsL (t:=a) (by omega) (zAu ta)
   obtain ⟨k2,e2,f2⟩:=zsL (t:=b) (by omega) (zAu tb)
   rw [e1,e2]
   simp only [Option.bind_some]
   cases hab:(a == b) with
   |true=>rfl
   |false =>
    rw [f1,f2]
    simp only [cond_false,Bool.false_or]
    cases ba:brk a with
    |true =>
     cases bb:brk b with
     |true =>
      simp only [cond_true,cond_false,Bool.not_true,Bool.and_self,Bool.false_and]
      rw [show (1:Int)=((1:Nat):Int) from rfl,zhg (by rw [(zlR ba).2];simp),zhg (by rw [(zlR bb).2];simp)]
      simp only [Option.bind_some]
      rw [hv ba bb]
      cases (a.drop 1 == [73]) <;> cases (b.drop 1 == [73]) <;> rfl
     |false =>
      simp only [cond_true,cond_false,Bool.not_true,Bool.not_false,Bool.false_and]
      rw [zpr bb];rfl
    |false =>
     cases bb:brk b with
     |true =>
      simp only [cond_true,cond_false,Bool.not_true,Bool.not_false,Bool.and_false]
      rw [zoG (T:=zeO L a) h (fun x hx=>(zkK h _ a x hx).1) (znM bb),zoG (T:=zbZ L a) h (fun x hx=>zkP h hx) (znM bb)];rfl
     |false =>
      simp only [cond_true,cond_false,Bool.not_false,Bool.and_self]
      rw [zpr ba,zpr bb]
      have h1:=zfD h a
      have h2:=zkQ h a
      cases hI:(a == [73]) with
      |true =>
       have e:a=[73]:=by simpa using hI
       have hn:zb0 L a=false:=by
        cases hh:zb0 L a with
        |false=>rfl
        |true=>have:=zkZ h hh;rw [e,zn7] at this;cases this
       rw [zj9 hn,zvl hn];rfl
      |false =>
       cases hI2:(b == [73]) with
       |true =>
        have e:b=[73]:=by simpa using hI2
        have hc:zbU b=false:=by rw [e];exact zn7
        rw [zoG (T:=zeO L a) h (fun x hx=>(zkK h _ a x hx).1) hc,zoG (T:=zbZ L a) h (fun x hx=>zkP h hx) hc];rfl
       |false =>
        simp only [Bool.not_false,Bool.and_self,cond_true]
        rw [zgg h,zm9 h]
        simp only [Option.bind_some]
        rw [zny (by omega),zny (by omega),zv9,zv9]
        simp only [Option.bind_some]
        cases ((zeO L a).any fun y=>b == y) <;> rfl
theorem zw3(h:zcg l L):∀(d k:Nat) (a b:Tx),a.length≤d→d<k→a.length≤800→b.length≤800→zBU (fun v0 z=>zb3 v0 z.1 z.2.1 z.2.2) k (L,a,b)=some (zv0 L a b)
 |d,0,a,b,hd,hk,ha,hb=>by omega
 |d,k+1,a,b,hd,hk,ha,hb=>by
  show zb3 (zBU (fun v0 z=>zb3 v0 z.1 z.2.1 z.2.2) k) L a b=_
  refine zx9 h ha hb fun b1 b2=>?_
  have hlen:(a.drop 1).length=a.length-1:=by simp
  have hlen2:(b.drop 1).length=b.length-1:=by simp
  have hpos:0<a.length:=by rw [(zlR b1).2];simp
  cases d with
  |zero=>omega
  |succ d=>exact zw3 h d k _ _ (by omega) (by omega) (by omega) (by omega)
theorem zsv(h:zcg l L){a b:Tx}(ha:a.length≤25)(hb:b.length≤800):zgm L a b=some (zv0 L a b):=by
 unfold zgm zDX
 rw [zw3 h 25 30 a b ha (by omega) (by omega) hb]
end
abbrev I64(n:Int):Prop:=-9223372036854775808≤n∧n≤9223372036854775807
abbrev FS(s:List UInt8):Prop:=s.length≤10000
structure FL{α:Type}(Q:α→Prop)(l:List α):Prop where
 len:l.length≤10000
 all:∀x∈l,Q x
structure zEl(f:zk):Prop where
 name:FS f.Name
 type:FS f.Type_
structure zF2(x:zp):Prop where
 op:I64 x.Op
 a:I64 x.A
 c:FS x.C
 m:FS x.M
structure zF3(x:zS):Prop where
 pl:I64 x.At
 locals:FL FS x.Locals
 stack:FL FS x.Stack
structure zFn(x:zR):Prop where
 lo:I64 x.From
 hi:I64 x.To
 pl:I64 x.At
 c:FS x.C
structure zCZ(m:zb):Prop where
 name:FS m.Name
 params:FL FS m.Params
 ret:FS m.Ret
 locals:I64 m.Locals
 stack:I64 m.Stack
 code:FL zF2 m.Code
 maps:FL zF3 m.Maps
 traps:FL zFn m.Traps
structure zmw(c:za):Prop where
 name:FS c.Name
 super:FS c.Super
 impl:FL FS c.Impl
 fields:FL zEl c.Fields
 methods:FL zCZ c.Methods
theorem FL.le{α:Type}{Q:α→Prop}{l:List α}(h:FL Q l):zkB l:=by have:=h.len;unfold zkB;omega
theorem FS.le{s:List UInt8}(h:FS s):Len s:=by unfold FS at h;unfold Len;omega
theorem zmw.cg{c:za}(h:zmw c):zAO c where
 name:=h.name.le
 super:=h.super.le
 impl:=⟨h.impl.le,fun s hs=>(h.impl.all s hs).le⟩
 fields:=⟨h.fields.le,fun f hf=>⟨(h.fields.all f hf).name.le,(h.fields.all f hf).type.le⟩⟩
 methods:=⟨h.methods.le,fun m hm=>by
  have g:=h.methods.all m hm
  have g1:=g.params.len
  have g2:=g.code.len
  have g3:=g.maps.len
  have g4:=g.traps.len
  exact ⟨g.name.le,⟨by omega,fun s hs=>(g.params.all s hs).le⟩,g.ret.le,
   ⟨g.maps.le,g.code.le,fun x hx=>⟨⟨(g.maps.all x hx).locals.le,fun s hs=>((g.maps.all x hx).locals.all s hs).le⟩,(g.maps.all x hx).stack.le,fun s hs=>((g.maps.all x hx).stack.all s hs).le⟩⟩,
   ⟨⟨g.code.le,fun x hx=>⟨(g.code.all x hx).c.le,(g.code.all x hx).m.le⟩⟩,⟨g.traps.le,fun x hx=>(g.traps.all x hx).c.le⟩⟩,⟨by omega,by omega,by omega⟩⟩⟩
theorem zea{s:List UInt8}{n:Nat}:zci s (n:Int)=some (s.take n):=by
 unfold zci
 by_cases h:n<s.length
 ·rw [decide_eq_true (show (n:Int)<(s.length:Int) by omega),zpq (by omega)];rfl
 ·rw [decide_eq_false (show ¬(n:Int)<(s.length:Int) by omega),List.take_of_length_le (by omega)];rfl
theorem zkb{α β R:Type}{body:List β×Int→Option (Sum (List β×Int) (Sum (List β) R))}{l:List α}{n:Nat}{f:α→β}(hn:n≤1000)
  (hb:∀acc (i:Nat) x,l[i]?=some x→i<n→acc.length=i→body (acc,(i:Int))=some (.inl (acc++[f x],IntKind.i64.wrap ((i:Int)+1))))
  (he:∀acc (i:Nat),(decide ((i:Int)<(l.length:Int))&&decide ((i:Int)<(n:Int)))=false→body (acc,(i:Int))=some (.inr (.inl acc))):zl body ([],0)=some (.inl ((l.take n).map f)):=by
 have key:∀d i,(l.take n).length-i=d→i≤(l.take n).length→zl body (((l.take n).take i).map f,(i:Int))=some (.inl ((l.take n).map f)):=by
  intro d
  induction d with
  |zero =>
   intro i hd hi
   have e:i=(l.take n).length:=by omega
   rw [zI,he _ i (by
    rw [List.length_take] at e
    rw [Bool.and_eq_false_iff]
    rcases Nat.le_total n l.length with h |h
    ·exact .inr (decide_eq_false (by omega))
    ·exact .inl (decide_eq_false (by omega))),e,List.take_length]
   rfl
  |succ d ih =>
   intro i hd hi
   have hlt:i<(l.take n).length:=by omega
   have h2:i<n∧i<l.length:=by rw [List.length_take] at hlt;omega
   have hx:l[i]?=some l[i]:=List.getElem?_eq_getElem h2.2
   rw [zI,hb _ i l[i] hx h2.1 (by rw [List.length_map,List.length_take];omega),zN (by omega)]
   have:=ih (i+1) (by omega) (by omega)
   rw [List.take_add_one,List.getElem?_take_of_lt h2.1,hx] at this
   simp only [Option.toList_some,List.map_append,List.map_cons,List.map_nil] at this
   exact this
 exact key _ 0 rfl (Nat.zero_le _)
theorem more{α:Type}{l:List α}{n i:Nat}{x:α}(h:l[i]?=some x)(hi:i<n):(decide ((i:Int)<(l.length:Int))&&decide ((i:Int)<(n:Int)))=true:=by
 rw [zd9 h,decide_eq_true (by omega)];rfl
def zFQ(f:zk):zk:=zk.mk (f.Name.take 10) (f.Type_.take 12) f.Static
def zFu(x:zp):zp:=zp.mk x.Op x.A (x.C.take 14) (x.M.take 12)
def zCz(n:Nat)(l:List (List UInt8)):List (List UInt8):=(l.take n).map (·.take 12)
def zCy(x:zS):zS:=zS.mk x.At (zCz 20 x.Locals) (zCz 20 x.Stack)
def zFR(x:zR):zR:=zR.mk x.From x.To x.At (x.C.take 10)
def zE9(m:zb):zb:=zb.mk (m.Name.take 10) (zCz 8 m.Params) (m.Ret.take 12) m.Static m.Abstract m.Locals m.Stack ((m.Code.take 104).map zFu) ((m.Maps.take 104).map zCy) ((m.Traps.take 8).map zFR)
def zCx(c:za):za:=za.mk (c.Name.take 10) (c.Super.take 10) c.Interface (zCz 6 c.Impl) ((c.Fields.take 10).map zFQ) ((c.Methods.take 10).map zE9)
theorem zjo{l:List (List UInt8)}{n:Nat}(hn:n≤100):zeY l (n:Int)=some (zCz n l):=by
 unfold zeY
 rw [show zl (fun z=>zg2 l (n:Int) z.1 z.2) ([],0)=some (.inl (zCz n l)) from zkb (by omega) (fun acc i x hx hi ha=>by
  show zg2 l (n:Int) acc (i:Int)=_
  unfold zg2
  rw [more hx hi,zr,hx]
  simp only [Option.bind_some,cond_true]
  rw [show zci x 12=_ from zea (n:=12),Option.bind_some,zc3 (by simp;omega) (by simp;omega)];rfl) (fun acc i h=>by
  show zg2 l (n:Int) acc (i:Int)=_
  unfold zg2
  rw [h];rfl)]
 rfl
theorem zvw(x:zp):zqn x=some (zFu x):=by
 unfold zqn
 rw [show zci x.C 14=_ from zea (n:=14),show zci x.M 12=_ from zea (n:=12)];rfl
theorem zr0(m:zb):zlA m=some (zE9 m):=by
 unfold zlA
 rw [show zci m.Name 10=_ from zea (n:=10),show zci m.Ret 12=_ from zea (n:=12),show zeY m.Params 8=_ from zjo (n:=8) (by decide)]
 simp only [Option.bind_some]
 rw [show zl (fun z=>zgs m z.1 z.2) ([],0)=some (.inl ((m.Code.take 104).map zFu)) from zkb (by decide) (fun acc i x hx hi ha=>by
  show zgs m acc (i:Int)=_
  unfold zgs
  rw [show (decide ((i:Int)<(m.Code.length:Int))&&decide ((i:Int)<104))=true from more hx hi,zr,hx]
  simp only [Option.bind_some,cond_true]
  rw [zvw,Option.bind_some,zc3 (by simp;omega) (by simp;omega)];rfl) (fun acc i h=>by
  show zgs m acc (i:Int)=_
  unfold zgs
  rw [show (decide ((i:Int)<(m.Code.length:Int))&&decide ((i:Int)<104))=false from h];rfl)]
 simp only [Option.bind_some]
 show zkI m _ _ _ _=_
 unfold zkI
 rw [show zl (fun z=>zgt m z.1 z.2) ([],0)=some (.inl ((m.Maps.take 104).map zCy)) from zkb (by decide) (fun acc i x hx hi ha=>by
  show zgt m acc (i:Int)=_
  unfold zgt
  rw [show (decide ((i:Int)<(m.Maps.length:Int))&&decide ((i:Int)<104))=true from more hx hi,zr,hx]
  simp only [Option.bind_some,cond_true]
  rw [show zeY x.Locals 20=_ from zjo (n:=20) (by decide),show zeY x.Stack 20=_ from zjo (n:=20) (by decide)]
  simp only [Option.bind_some]
  rw [zc3 (by simp;omega) (by simp;omega)];rfl) (fun acc i h=>by
  show zgt m acc (i:Int)=_
  unfold zgt
  rw [show (decide ((i:Int)<(m.Maps.length:Int))&&decide ((i:Int)<104))=false from h];rfl)]
 simp only [Option.bind_some]
 show zkJ m _ _ _ _ _=_
 unfold zkJ
 rw [show zl (fun z=>zgu m z.1 z.2) ([],0)=some (.inl ((m.Traps.take 8).map zFR)) from zkb (by decide) (fun acc i x hx hi ha=>by
  show zgu m acc (i:Int)=_
  unfold zgu
  rw [show (decide ((i:Int)<(m.Traps.length:Int))&&decide ((i:Int)<8))=true from more hx hi,zr,hx]
  simp only [Option.bind_some,cond_true]
  rw [show zci x.C 10=_ from zea (n:=10),Option.bind_some,zc3 (by simp;omega) (by simp;omega)];rfl) (fun acc i h=>by
  show zgu m acc (i:Int)=_
  unfold zgu
  rw [show (decide ((i:Int)<(m.Traps.length:Int))&&decide ((i:Int)<8))=false from h];rfl)]
 rfl
theorem zvA(c:za):zqp c=some ((zCx c).Name,(zCx c).Super,(zCx c).Impl,(zCx c).Fields,(zCx c).Methods):=by
 unfold zqp
 rw [show zci c.Name 10=_ from zea (n:=10),show zci c.Super 10=_ from zea (n:=10),show zeY c.Impl 6=_ from zjo (n:=6) (by decide)]
 simp only [Option.bind_some]
 rw [show zl (fun z=>zio c z.1 z.2) ([],0)=some (.inl ((c.Fields.take 10).map zFQ)) from zkb (by decide) (fun acc i x hx hi ha=>by
  show zio c acc (i:Int)=_
  unfold zio
  rw [show (decide ((i:Int)<(c.Fields.length:Int))&&decide ((i:Int)<10))=true from more hx hi,zr,hx]
  simp only [Option.bind_some,cond_true]
  rw [show zci x.Name 10=_ from zea (n:=10),show zci x.Type_ 12=_ from zea (n:=12)]
  simp only [Option.bind_some]
  rw [zc3 (by simp;omega) (by simp;omega)];rfl) (fun acc i h=>by
  show zio c acc (i:Int)=_
  unfold zio
  rw [show (decide ((i:Int)<(c.Fields.length:Int))&&decide ((i:Int)<10))=false from h];rfl)]
 simp only [Option.bind_some]
 show zok c _ _ _ _=_
 unfold zok
 rw [show zl (fun z=>zip c z.1 z.2) ([],0)=some (.inl ((c.Methods.take 10).map zE9)) from zkb (by decide) (fun acc i x hx hi ha=>by
  show zip c acc (i:Int)=_
  unfold zip
  rw [show (decide ((i:Int)<(c.Methods.length:Int))&&decide ((i:Int)<10))=true from more hx hi,zr,hx]
  simp only [Option.bind_some,cond_true]
  rw [zr0,Option.bind_some,zc3 (by simp;omega) (by simp;omega)];rfl) (fun acc i h=>by
  show zip c acc (i:Int)=_
  unfold zip
  rw [show (decide ((i:Int)<(c.Methods.length:Int))&&decide ((i:Int)<10))=false from h];rfl)]
 rfl
theorem zuf{n:Int}(h:wI .i64 n):I64 n:=by
 have h:(Lit.int .i64 n).wf=true:=h
 unfold Lit.wf at h
 simp [IntKind.min,IntKind.max,IntKind.bits,IntKind.signed] at h
 exact ⟨by omega,by omega⟩
theorem FS.take(s:List UInt8){n:Nat}(hn:n≤100):FS (s.take n):=by unfold FS;rw [List.length_take];omega
theorem zsS{l:List (List UInt8)}{n:Nat}(hn:n≤100):FL FS (zCz n l):=by
 refine ⟨by unfold zCz;rw [List.length_map,List.length_take];omega,fun x hx=>?_⟩
 obtain ⟨y,_,rfl⟩:=List.mem_map.1 hx
 exact FS.take y (by decide)
theorem zqQ{α:Type}{Q:α→Prop}{l:List α}{f:α→α}{n:Nat}(hn:n≤200)(h:∀x∈l,Q (f x)):FL Q ((l.take n).map f):=by
 refine ⟨by rw [List.length_map,List.length_take];omega,fun x hx=>?_⟩
 obtain ⟨y,hy,rfl⟩:=List.mem_map.1 hx
 exact h y (List.mem_of_mem_take hy)
theorem zDo{m:zb}(h:zpM m):zCZ (zE9 m):=by
 obtain ⟨_,_,_,_,_,h1,h2,h3,h4,h5⟩:=h
 exact ⟨FS.take _ (by decide),zsS (by decide),FS.take _ (by decide),zuf h1,zuf h2,
  zqQ (by decide) fun x hx=>⟨zuf (h3.2 x hx).1,zuf (h3.2 x hx).2.1,FS.take _ (by decide),FS.take _ (by decide)⟩,
  zqQ (by decide) fun x hx=>⟨zuf (h4.2 x hx).1,zsS (by decide),zsS (by decide)⟩,
  zqQ (by decide) fun x hx=>⟨zuf (h5.2 x hx).1,zuf (h5.2 x hx).2.1,zuf (h5.2 x hx).2.2.1,FS.take _ (by decide)⟩⟩
theorem zDn{c:za}(h:zld c):zmw (zCx c):=by
 obtain ⟨_,_,_,_,_,h1⟩:=h
 exact ⟨FS.take _ (by decide),FS.take _ (by decide),zsS (by decide),zqQ (by decide) fun x hx=>⟨FS.take _ (by decide),FS.take _ (by decide)⟩,zqQ (by decide) fun x hx=>zDo (h1.2 x hx)⟩
def zFq(l:List za):List za:=(l.take 18).map zCx
theorem zvx(l:List za):zqo l=some (zFq l):=by
 unfold zqo
 rw [show zl (fun z=>zin l z.1 z.2) ([],0)=some (.inl (zFq l)) from zkb (by decide) (fun acc i x hx hi ha=>by
  show zin l acc (i:Int)=_
  unfold zin
  rw [show (decide ((i:Int)<(l.length:Int))&&decide ((i:Int)<18))=true from more hx hi,zr,hx]
  simp only [Option.bind_some,cond_true]
  rw [zvA,Option.bind_some,zc3 (by simp;omega) (by simp;omega)];rfl) (fun acc i h=>by
  show zin l acc (i:Int)=_
  unfold zin
  rw [show (decide ((i:Int)<(l.length:Int))&&decide ((i:Int)<18))=false from h];rfl)]
 rfl
structure zEo(c:za):Prop where
 fc:zmw c
 name:c.Name.length≤10
 super:c.Super.length≤10
 impl:∀s∈c.Impl,s.length≤12
theorem zxz{c:za}(h:zld c):zEo (zCx c):=by
 refine ⟨zDn h,?_,?_,fun s hs=>?_⟩
 ·show (c.Name.take 10).length≤10;rw [List.length_take];omega
 ·show (c.Super.take 10).length≤10;rw [List.length_take];omega
 ·obtain ⟨y,_,rfl⟩:=List.mem_map.1 (show s∈(c.Impl.take 6).map (·.take 12) from hs)
  rw [List.length_take];omega
theorem zxq{l:List za}(h:∀c∈l,zld c):∀c∈zFq l,zEo c:=fun c hc=>by
 obtain ⟨d,hd,rfl⟩:=List.mem_map.1 hc
 exact zxz (h d (List.mem_of_mem_take hd))
section
variable {l L : List za} {m : List (Tx × Int)}
theorem zEz:∀c∈giv,zmw c:=by
 intro c hc
 have hg:giv.all (fun c=>decide (c.Name.length≤10)&&decide (c.Super.length≤10)&&(c.Impl == [])&&decide (c.Fields.length=0)&&decide (c.Methods.length=0))=true:=by decide +kernel
 have:=List.all_eq_true.1 hg c hc
 simp only [Bool.and_eq_true,decide_eq_true_eq,beq_iff_eq] at this
 obtain ⟨⟨⟨⟨h1,h2⟩,h3⟩,h4⟩,h5⟩:=this
 refine ⟨by unfold FS;omega,by unfold FS;omega,⟨by rw [h3];simp,fun s hs=>by rw [h3] at hs;cases hs⟩,⟨by omega,fun s hs=>?_⟩,⟨by omega,fun s hs=>?_⟩⟩
 ·rw [List.eq_nil_of_length_eq_zero h4] at hs;cases hs
 ·rw [List.eq_nil_of_length_eq_zero h5] at hs;cases hs
theorem zzw(h:zcg l L)(hs:∀c∈l,zmw c):∀c∈L,zmw c:=by
 intro c hc
 rw [h.app] at hc
 rcases List.mem_append.1 hc with e |e
 ·exact zEz c e
 ·exact hs c e
def zC:za:=za.mk [] [] false [] [] []
theorem zwf(hm:zbr L m)(n:Tx):zO L m n=some (match cl L n with |some c=>(c,true) |none=>(zC,false)):=by
 show cond (!(zbm L m n)) (some (zC,false)) ((zdC L m n).bind fun v4=>some (v4,true))=_
 unfold zbm
 rw [hm.has]
 cases hc:cl L n with
 |none=>rw [zls hc];rfl
 |some c=>rw [zgL hc,zsn hm (zgL hc),hc];rfl
end
section
variable {l L : List za} {m : List (Tx × Int)}
theorem Rc.trans{nx:Tx→List Tx}{a b c:Tx}(h:Rc nx a b)(k:Rc nx b c):Rc nx a c:=by
 induction h with
 |one h=>exact .more h k
 |more h _ ih=>exact .more h (ih k)
end
theorem zkG{α:Type}(p:α→Bool)(l:List α):idx l (ixF p 0 l)=l.find? p:=by
 rcases zq3 p l 0 with ⟨j,x,h1,h2,h3,h4⟩ |⟨h1,h2⟩
 ·rw [h1,h4,zr,Nat.zero_add,h2]
 ·rw [h1,h2];rfl
theorem zjn{α:Type}(p:α→Bool)(l:List α):decide (0≤ixF p 0 l)=(l.find? p).isSome:=by
 rw [zem,Bool.eq_iff_iff,List.any_eq_true,List.find?_isSome]
theorem zpV{α β:Type}{f g:α→Option β}:∀{l:List α},(∀x∈l,f x=g x)→l.findSome? f=l.findSome? g
 | [],_=>rfl
 |x ::l,h=>by
  rw [List.findSome?_cons,List.findSome?_cons,h x (by simp),zpV fun y hy=>h y (by simp [hy])]
def zF:zk:=zk.mk [] [] false
def zM:zb:=zb.mk [] [] [] false false 0 0 [] [] []
abbrev FR:=List UInt8×zk×Bool
abbrev MR:=List UInt8×zb×Bool
def zAM(L:List za)(n s:Tx):Option FR:=match cl L s with |some x=>(match x.Fields.find? (fun y=>y.Name == n) with |some f=>some (s,f,true) |none=>none) |none=>none
def znV(L:List za)(may:zb→Bool)(n s:Tx):Option MR:=match cl L s with |some x=>(match x.Methods.find? (fun y=>y.Name == n) with |some f=>cond (may f) (some (s,f,true)) none |none=>none) |none=>none
theorem zhI{R:Type}(o:Option R)(z:R):(some (zjy () o):Option (Sum Unit R)).bind (fun o=>zD o (fun _=>some z) some)=some (o.getD z):=by cases o <;> rfl
section
variable {l L : List za} {m : List (Tx × Int)}
theorem zfG(hm:zbr L m)(n:Tx):zO L m n=some (match cl L n with |some c=>(c,true) |none=>(zC,false)):=zwf hm n
def zkg(L:List za):Prop:=∀c∈L,zkB c.Fields∧zkB c.Methods
theorem zzt(h:∀c∈L,zmw c):zkg L:=fun c hc=>⟨(h c hc).fields.le,(h c hc).methods.le⟩
theorem zws(h:zcg l L)(hm:zbr L m)(hL:zkg L)(c n:Tx):zhW L m c n=some (((zeO L c).findSome? (zAM L n)).getD ([],zF,false)):=by
 have h26:=zfD h c
 unfold zhW
 rw [zka h hm]
 simp only [Option.bind_some]
 rw [show zl (fun z=>zeZ L m n (zeO L c) z) 0=some (zjy () ((zeO L c).findSome? (zAM L n))) from zaQ (fun i s hs=>by
  have hi:=(List.getElem?_eq_some_iff.1 hs).1
  obtain ⟨x,hx⟩:=zeT (zkK h _ c s (List.mem_of_getElem? hs)).1
  show zeZ L m n (zeO L c) (i:Int)=_
  unfold zeZ
  rw [zd9 hs,zr,hs]
  simp only [cond_true,Option.bind_some]
  rw [zfG hm,hx]
  simp only [Option.bind_some]
  rw [zrR (hL x (zbs hx).1).1]
  simp only [Option.bind_some]
  rw [zjn,zkG,zN (by omega)]
  unfold zAM
  rw [hx]
  show _=some (zu8 i (match x.Fields.find? (fun y=>y.Name == n) with |some f=>some (s,f,true) |none=>none))
  cases x.Fields.find? (fun y=>y.Name == n) <;> rfl) (by
  show zeZ L m n (zeO L c) ((zeO L c).length:Int)=_
  unfold zeZ
  rw [zeD];rfl)]
 exact zhI _ _
theorem zp4(h:zcg l L)(hL:zkg L)(c n:Tx):zgS L c n=some (((zeO L c).findSome? (zAM L n)).getD ([],zF,false)):=by
 have h26:=zfD h c
 have hl:=h.len
 unfold zgS
 rw [zgg h]
 simp only [Option.bind_some]
 rw [show zl (fun z=>zd2 L n (zeO L c) z) 0=some (zjy () ((zeO L c).findSome? (zAM L n))) from zaQ (fun i s hs=>by
  have hi:=(List.getElem?_eq_some_iff.1 hs).1
  obtain ⟨x,hx⟩:=zeT (zkK h _ c s (List.mem_of_getElem? hs)).1
  show zd2 L n (zeO L c) (i:Int)=_
  unfold zd2
  rw [zd9 hs,zr,hs]
  simp only [cond_true,Option.bind_some]
  rw [zib (by omega)]
  simp only [Option.bind_some]
  rw [zmL hx]
  simp only [Option.bind_some]
  rw [zo4 (hL x (zbs hx).1).1]
  simp only [Option.bind_some]
  rw [zjn,zkG,zN (by omega)]
  unfold zAM
  rw [hx]
  show _=some (zu8 i (match x.Fields.find? (fun y=>y.Name == n) with |some f=>some (s,f,true) |none=>none))
  cases x.Fields.find? (fun y=>y.Name == n) <;> rfl) (by
  show zd2 L n (zeO L c) ((zeO L c).length:Int)=_
  unfold zd2
  rw [zeD];rfl)]
 exact zhI _ _
theorem zth(h:zcg l L)(hm:zbr L m)(hL:zkg L){may:zb→Bool}{T:List Tx}(hT:T.length≤1000)(n:Tx){body:Int→Option (Sum Int (Sum Unit MR))}
  (hT2:∀s∈T,zb0 L s=true)
  (hb:∀(i:Nat) s x,T[i]?=some s→cl L s=some x→body (i:Int)=((ze7 x n).bind fun v15=>(cond (decide (0≤v15)) ((idx x.Methods v15).bind fun v16=>some (may v16)) (some false)).bind fun v17=>cond v17 ((idx x.Methods v15).bind fun v18=>some (.inr (.inr (s,v18,true)))) (some (.inl (IntKind.i64.wrap ((i:Int)+1))))))
  (he:body (T.length:Int)=some (.inr (.inl ()))):zl body 0=some (zjy () (T.findSome? (znV L may n))):=by
 refine zaQ (fun i s hs=>?_) he
 have hi:=(List.getElem?_eq_some_iff.1 hs).1
 obtain ⟨x,hx⟩:=zeT (hT2 s (List.mem_of_getElem? hs))
 rw [hb i s x hs hx,zqM (hL x (zbs hx).1).2]
 simp only [Option.bind_some]
 rw [zjn,zkG,zN (by omega)]
 unfold znV
 rw [hx]
 show _=some (zu8 i (match x.Methods.find? (fun y=>y.Name == n) with |some f=>cond (may f) (some (s,f,true)) none |none=>none))
 cases x.Methods.find? (fun y=>y.Name == n) with
 |none=>rfl
 |some f =>
  simp only [Option.isSome_some,cond_true,Option.bind_some]
  cases may f <;> rfl
theorem zBe(h:zcg l L)(hm:zbr L m)(hL:zkg L){T:List Tx}(hT:T.length≤1000)(hT2:∀s∈T,zb0 L s=true)(n:Tx):ziS L m T n=some ((T.findSome? (znV L zaT n)).getD ([],zM,false)):=by
 unfold ziS
 rw [show zl (fun z=>zfQ L m T n z) 0=some (zjy () (T.findSome? (znV L zaT n))) from zth h hm hL hT n hT2 (fun i s x hs hx=>by
  show zfQ L m T n (i:Int)=_
  unfold zfQ
  rw [zd9 hs,zr,hs]
  simp only [cond_true,Option.bind_some]
  rw [zfG hm,hx];rfl) (by
  show zfQ L m T n (T.length:Int)=_
  unfold zfQ
  rw [zeD];rfl)]
 exact zhI _ _
theorem zBf(h:zcg l L)(hm:zbr L m)(hL:zkg L){T:List Tx}(hT:T.length≤1000)(hT2:∀s∈T,zb0 L s=true)(n:Tx):zkr L m T n=some ((T.findSome? (znV L zft n)).getD ([],zM,false)):=by
 unfold zkr
 rw [show zl (fun z=>zfR L m T n z) 0=some (zjy () (T.findSome? (znV L zft n))) from zth h hm hL hT n hT2 (fun i s x hs hx=>by
  show zfR L m T n (i:Int)=_
  unfold zfR
  rw [zd9 hs,zr,hs]
  simp only [cond_true,Option.bind_some]
  rw [zfG hm,hx];rfl) (by
  show zfR L m T n (T.length:Int)=_
  unfold zfR
  rw [zeD];rfl)]
 exact zhI _ _
theorem zBd(h:zcg l L)(hm:zbr L m)(hL:zkg L){T:List Tx}(hT:T.length≤1000)(hT2:∀s∈T,zb0 L s=true)(n:Tx):zkq L m T n=some ((T.findSome? (znV L zbH n)).getD ([],zM,false)):=by
 unfold zkq
 rw [show zl (fun z=>zfP L m T n z) 0=some (zjy () (T.findSome? (znV L zbH n))) from zth h hm hL hT n hT2 (fun i s x hs hx=>by
  show zfP L m T n (i:Int)=_
  unfold zfP
  rw [zd9 hs,zr,hs]
  simp only [cond_true,Option.bind_some]
  rw [zfG hm,hx];rfl) (by
  show zfP L m T n (T.length:Int)=_
  unfold zfP
  rw [zeD];rfl)]
 exact zhI _ _
theorem zk9(h:zcg l L)(c:Tx):∀s∈zeO L c,zb0 L s=true:=fun s hs=>(zkK h _ c s hs).1
theorem zoX(h:zcg l L)(hm:zbr L m)(hL:zkg L)(c n:Tx):zgv L m c n=some (((zeO L c).findSome? (znV L zaT n)).getD ([],zM,false)):=by
 have h26:=zfD h c
 unfold zgv
 rw [zka h hm]
 simp only [Option.bind_some]
 rw [zBe h hm hL (by omega) (zk9 h c)];rfl
theorem zlO(h:zcg l L)(hL:zkg L)(c n:Tx):ze4 L c n=some (((zeO L c).findSome? (znV L zaT n)).getD ([],zM,false)):=by
 have h26:=zfD h c
 have hl:=h.len
 unfold ze4
 rw [zgg h]
 simp only [Option.bind_some]
 rw [show zl (fun z=>zdj L n (zeO L c) z) 0=some (zjy () ((zeO L c).findSome? (znV L zaT n))) from zaQ (fun i s hs=>by
  have hi:=(List.getElem?_eq_some_iff.1 hs).1
  obtain ⟨x,hx⟩:=zeT (zk9 h c s (List.mem_of_getElem? hs))
  show zdj L n (zeO L c) (i:Int)=_
  unfold zdj
  rw [zd9 hs,zr,hs]
  simp only [cond_true,Option.bind_some]
  rw [zib (by omega)]
  simp only [Option.bind_some]
  rw [zmL hx]
  simp only [Option.bind_some]
  rw [zfw (hL x (zbs hx).1).2]
  simp only [Option.bind_some]
  rw [zjn,zkG,zN (by omega)]
  unfold znV
  rw [hx]
  show _=some (zu8 i (match x.Methods.find? (fun y=>y.Name == n) with |some f=>cond (zaT f) (some (s,f,true)) none |none=>none))
  cases hf:x.Methods.find? (fun y=>y.Name == n) with
  |none=>rfl
  |some f =>
   have e:f.Name=n:=by have:=List.find?_some hf;simpa using this
   simp only [zaT,Option.isSome_some,Bool.true_and,Option.bind_some,e]
   cases (n == [36,105,110,105,116]) <;> rfl) (by
  show zdj L n (zeO L c) ((zeO L c).length:Int)=_
  unfold zdj
  rw [zeD];rfl)]
 exact zhI _ _
def zps(L:List za)(c n:Tx):MR:=cond (isF L c) (((c ::zbZ L c).findSome? (znV L zft n)).getD ([],zM,false)) ([],zM,false)
theorem zvs{c:Tx}(h:isF L c=true):zb0 L c=true:=by
 unfold isF at h
 cases hc:cl L c with
 |none=>rw [hc] at h;cases h
 |some x=>exact zgL hc
theorem zy5(h:zcg l L)(hm:zbr L m)(hL:zkg L)(c n:Tx):ziR L m c n=some (zps L c n):=by
 have h52:=zkQ h c
 unfold ziR zps
 rw [zfG hm]
 have e:isF L c=(match cl L c with |some c=>(c,true) |none=>(zC,false)).1.Interface:=by
  unfold isF
  cases cl L c <;> rfl
 cases hF:isF L c with
 |false =>
  rw [hF] at e
  simp only [Option.bind_some]
  rw [←e];rfl
 |true =>
  rw [hF] at e
  simp only [Option.bind_some]
  rw [←e]
  simp only [Bool.not_true,cond_false]
  rw [zqR h hm]
  simp only [Option.bind_some]
  rw [zc3 (by simp;omega) (by simp;omega)]
  simp only [Option.bind_some]
  rw [zBf h hm hL (by simp;omega) (fun s hs=>by
   rcases List.mem_cons.1 (show s∈c ::zbZ L c from hs) with e |e
   ·rw [e];exact zvs hF
   ·exact zkP h e)]
  rfl
theorem zrv(h:zcg l L)(hL:zkg L)(c n:Tx):zhl L c n=some (zps L c n):=by
 have h52:=zkQ h c
 have hl:=h.len
 unfold zhl zps
 rw [zib (by omega)]
 simp only [Option.bind_some]
 rw [znJ,zjL]
 have e:(cond (!zb0 L c) (some true) ((cl L c).bind fun v5=>some (!v5.Interface)))=some (!isF L c):=by
  unfold isF
  cases hc:cl L c with
  |none=>rw [zls hc];rfl
  |some x=>rw [zgL hc];rfl
 rw [e]
 simp only [Option.bind_some]
 cases hF:isF L c with
 |false=>rfl
 |true =>
  simp only [Bool.not_true,cond_false,cond_true]
  rw [zm9 h]
  simp only [Option.bind_some]
  rw [zc3 (by simp;omega) (by simp;omega)]
  simp only [Option.bind_some]
  rw [show zl (fun z=>zeF L n ([c]++zbZ L c) z) 0=some (zjy () ((c ::zbZ L c).findSome? (znV L zft n))) from zaQ (l:=c ::zbZ L c) (fun i s hs=>by
   have hi:=(List.getElem?_eq_some_iff.1 hs).1
   simp only [List.length_cons] at hi
   have hsh:zb0 L s=true:=by
    rcases List.mem_cons.1 (List.mem_of_getElem? hs) with e |e
    ·rw [e];exact zvs hF
    ·exact zkP h e
   obtain ⟨x,hx⟩:=zeT hsh
   show zeF L n (c ::zbZ L c) (i:Int)=_
   unfold zeF
   rw [zd9 hs,zr,hs]
   simp only [cond_true,Option.bind_some]
   rw [zib (by omega)]
   simp only [Option.bind_some]
   rw [zmL hx]
   simp only [Option.bind_some]
   rw [zfw (hL x (zbs hx).1).2]
   simp only [Option.bind_some]
   rw [zjn,zkG,zN (by omega)]
   unfold znV zft
   rw [hx]
   show _=some (zu8 i (match x.Methods.find? (fun y=>y.Name == n) with |some f=>cond true (some (s,f,true)) none |none=>none))
   cases x.Methods.find? (fun y=>y.Name == n) <;> rfl) (by
   show zeF L n (c ::zbZ L c) ((c ::zbZ L c).length:Int)=_
   unfold zeF
   rw [zeD];rfl)]
  exact zhI _ _
theorem zn5(h:zcg l L){x:za}(hx:x∈L){f:zb}(hf:f∈x.Methods):f.Abstract=x.Interface:=by
 rw [h.app] at hx
 rcases List.mem_append.1 hx with e |e
 ·have hg:giv.all (fun c=>decide (c.Methods.length=0))=true:=by decide +kernel
  have:=of_decide_eq_true (List.all_eq_true.1 hg x e)
  rw [List.eq_nil_of_length_eq_zero this] at hf;cases hf
 ·have:=h.may x e
  unfold zrO at this
  simp only [Bool.and_eq_true,Bool.not_eq_true',decide_eq_true_eq] at this
  have h2:=zsE this.2.2.1 f hf
  rw [Bool.and_eq_true,beq_iff_eq] at h2
  exact h2.1
def chG(L:List za)(n s:Tx):Option (List UInt8×Bool):=match cl L s with |some x=>(match x.Methods.find? (fun y=>y.Name == n) with |some f=>cond (!f.Static) (some (s,true)) none |none=>none) |none=>none
theorem zyR(h:zcg l L)(hm:zbr L m)(hL:zkg L)(c n:Tx):zhi L m c n=some ((((zeO L c).findSome? (znV L zbH n)).getD ([],zM,false)).1,(((zeO L c).findSome? (znV L zbH n)).getD ([],zM,false)).2.2):=by
 have h26:=zfD h c
 unfold zhi
 rw [zka h hm]
 simp only [Option.bind_some]
 rw [zBd h hm hL (by omega) (zk9 h c)];rfl
theorem zpW{α β γ:Type}{f:α→Option β}{g:β→γ}:∀{l:List α},(l.findSome? f).map g=l.findSome? (fun x=>(f x).map g)
 | []=>rfl
 |x ::l=>by
  rw [List.findSome?_cons,List.findSome?_cons]
  cases f x with
  |some y=>rfl
  |none=>exact zpW
theorem zoN{α β:Type}{f:α→Option β}:∀{l:List α},(∀x∈l,f x=none)→l.findSome? f=none
 | [],_=>rfl
 |x ::l,h=>by
  rw [List.findSome?_cons,h x (by simp)]
  exact zoN fun y hy=>h y (by simp [hy])
theorem zBG(h:zcg l L)(may:zb→Bool)(n:Tx):znV L may n zyq=none:=by
 have e:cl L zyq=some (gC zyq []):=zt9 h.app rfl
 unfold znV
 rw [e];rfl
theorem zEc(h:zcg l L){c s:Tx}(hs:s∈zeO L c)(hF:isF L c=false):isF L s=false:=by
 rcases (zkK h _ c s hs).2.2 with e |⟨x,hx,e⟩
 ·rw [e];exact hF
 ·rw [e];exact h.superF x hx
theorem zCf(h:zcg l L){c s:Tx}(hs:s∈zeO L c)(hF:isF L c=true):s=c∨s=zyq:=by
 unfold zeO at hs
 have hn:=zvs hF
 cases hd:L.length with
 |zero=>rw [hd] at hs;simp [sup] at hs
 |succ d =>
  rw [hd] at hs
  unfold sup at hs
  obtain ⟨x,hx⟩:=zeT hn
  rw [hx] at hs
  rcases List.mem_cons.1 hs with e |e
  ·exact .inl e
  ·right
   have hI:x.Interface=true:=by unfold isF at hF;rw [hx] at hF;exact hF
   have hxS:x.Super=zyq:=by
    have hxm:=(zbs hx).1
    rw [h.app] at hxm
    rcases List.mem_append.1 hxm with e |e
    ·rw [(zBm e).2.1] at hI;cases hI
    ·have:=h.may x e
     unfold zrO at this
     rw [hI] at this
     simp only [Bool.and_eq_true,Bool.not_eq_true',Bool.true_and,Bool.or_eq_false_iff,Bool.not_eq_false'] at this
     exact eq_of_beq this.1.1
   rw [hxS] at e
   cases d with
   |zero=>simp [sup] at e
   |succ d =>
    unfold sup at e
    have eo:cl L zyq=some (gC zyq []):=zt9 h.app rfl
    rw [eo] at e
    rcases List.mem_cons.1 e with e |e
    ·exact e
    ·rw [show (gC zyq []).Super=[] from rfl,zv2 h] at e;cases e
def chN(L:List za)(c n:Tx):List UInt8×Bool:=cond (zb0 L c&&!isF L c) (((zeO L c).findSome? (chG L n)).getD ([],false)) ([],false)
theorem zA9(h:zcg l L)(hm:zbr L m)(hL:zkg L)(c n:Tx):zhi L m c n=some (chN L c n):=by
 rw [zyR h hm hL]
 congr 1
 unfold chN
 cases hn:zb0 L c with
 |false=>rw [zj9 hn];rfl
 |true =>
  cases hF:isF L c with
  |true =>
   rw [zoN (fun s hs=>?_)]
   ·rfl
   ·rcases zCf h hs hF with e |e
    ·subst e
     obtain ⟨x,hx⟩:=zeT hn
     have hI:x.Interface=true:=by unfold isF at hF;rw [hx] at hF;exact hF
     unfold znV
     rw [hx]
     show (match x.Methods.find? (fun y=>y.Name == n) with |some f=>cond (zbH f) (some (s,f,true)) none |none=>none)=none
     cases hf:x.Methods.find? (fun y=>y.Name == n) with
     |none=>rfl
     |some f =>
      have:=zn5 h (zbs hx).1 (List.mem_of_find?_eq_some hf)
      simp only [zbH,this,hI,Bool.not_true,Bool.and_false,cond_false]
    ·rw [e];exact zBG h _ _
  |false =>
   simp only [Bool.not_false,Bool.and_self,cond_true]
   have e:(zeO L c).findSome? (chG L n)=((zeO L c).findSome? (znV L zbH n)).map (fun z:MR=>(z.1,z.2.2)):=by
    rw [zpW]
    refine zpV fun s hs=>?_
    obtain ⟨x,hx⟩:=zeT (zk9 h c s hs)
    have hI:x.Interface=false:=by
     have:=zEc h hs hF
     unfold isF at this
     rw [hx] at this;exact this
    unfold chG znV
    rw [hx]
    show (match x.Methods.find? (fun y=>y.Name == n) with |some f=>cond (!f.Static) (some (s,true)) none |none=>none)=Option.map _ (match x.Methods.find? (fun y=>y.Name == n) with |some f=>cond (zbH f) (some (s,f,true)) none |none=>none)
    cases hf:x.Methods.find? (fun y=>y.Name == n) with
    |none=>rfl
    |some f =>
     have:=zn5 h (zbs hx).1 (List.mem_of_find?_eq_some hf)
     simp only [zbH,this,hI,Bool.not_false,Bool.and_true]
     cases f.Static <;> rfl
   rw [e]
   cases (zeO L c).findSome? (znV L zbH n) <;> rfl
theorem zuN(h:zcg l L)(hL:zkg L)(c n:Tx):zhu L c n=some (chN L c n):=by
 have h26:=zfD h c
 have hl:=h.len
 unfold zhu chN
 rw [zib (by omega)]
 simp only [Option.bind_some]
 rw [znJ,zjL]
 have e:(cond (!zb0 L c) (some true) ((cl L c).bind fun v5=>some v5.Interface))=some (!(zb0 L c&&!isF L c)):=by
  unfold isF
  cases hc:cl L c with
  |none=>rw [zls hc];rfl
  |some x=>rw [zgL hc];simp
 rw [e]
 simp only [Option.bind_some]
 cases hB:(zb0 L c&&!isF L c) with
 |false=>rfl
 |true =>
  simp only [Bool.not_true,cond_false,cond_true]
  rw [zgg h]
  simp only [Option.bind_some]
  rw [show zl (fun z=>zde L n (zeO L c) z) 0=some (zjy () ((zeO L c).findSome? (chG L n))) from zaQ (fun i s hs=>by
   have hi:=(List.getElem?_eq_some_iff.1 hs).1
   obtain ⟨x,hx⟩:=zeT (zk9 h c s (List.mem_of_getElem? hs))
   show zde L n (zeO L c) (i:Int)=_
   unfold zde
   rw [zd9 hs,zr,hs]
   simp only [cond_true,Option.bind_some]
   rw [zib (by omega)]
   simp only [Option.bind_some]
   rw [zmL hx]
   simp only [Option.bind_some]
   rw [zfw (hL x (zbs hx).1).2]
   simp only [Option.bind_some]
   rw [zjn,zkG,zN (by omega)]
   unfold chG
   rw [hx]
   show _=some (zu8 i (match x.Methods.find? (fun y=>y.Name == n) with |some f=>cond (!f.Static) (some (s,true)) none |none=>none))
   cases x.Methods.find? (fun y=>y.Name == n) with
   |none=>rfl
   |some f =>
    simp only [Option.isSome_some,cond_true,Option.bind_some]
    cases f.Static <;> rfl) (by
   show zde L n (zeO L c) ((zeO L c).length:Int)=_
   unfold zde
   rw [zeD];rfl)]
  exact zhI _ _
end
section
variable {l L : List za} {m : List (Tx × Int)}
def zsB(L:List za)(t:Tx):Bool:=((t == [78])||(t == [84]))||thN L t
def zz1(L:List za)(t:Tx):Bool:=!(t == [73])&&thN L t
def znS(L:List za)(a b:Tx):Bool:=
 (zsB L a&&zsB L b)&&cond ((b == [84])||(a == b)) true (cond (a == [78]) (zz1 L b) ((zz1 L a&&zz1 L b)&&(isF L b||zv0 L a b)))
theorem zqw(t:Tx):zv0 L t t=thN L t:=by
 rw [zv1]
 simp
theorem zDL:zfz [78]=false:=by decide +kernel
theorem zDM:zfz [84]=false:=by decide +kernel
theorem zFZ:thN L [78]=false:=by unfold thN;rw [zDL];rfl
theorem zGh:thN L [84]=false:=by unfold thN;rw [zDM];rfl
theorem zoD(h:zcg l L)(hm:zbr L m){t:Tx}(ht:t.length≤25):zdD L m t=some (zsB L t):=by
 unfold zdD zsB
 rw [zpL h hm ht (by unfold Len;omega),zqw]
 cases ((t == [78])||(t == [84])) <;> rfl
theorem zz2(h:zcg l L)(hm:zbr L m){t:Tx}(ht:t.length≤25):zhQ L m t=some (zz1 L t):=by
 unfold zhQ zz1
 rw [zpL h hm ht (by unfold Len;omega),zqw]
 cases (t == [73]) <;> rfl
theorem zuh(b:Tx):isF L b=(match cl L b with |some c=>(c,true) |none=>(zC,false)).1.Interface:=by
 unfold isF
 cases cl L b <;> rfl
theorem zqk(h:zcg l L)(hm:zbr L m){a b:Tx}(ha:a.length≤25)(hb:b.length≤25):zfq L m a b=some (znS L a b):=by
 unfold zfq znS
 rw [zoD h hm ha,zoD h hm hb,zz2 h hm ha,zz2 h hm hb,zpL h hm ha (by unfold Len;omega)]
 have e:zO L m b=some (match cl L b with |some c=>(c,true) |none=>(zC,false)):=zwf hm b
 rw [e]
 simp only [Option.bind_some]
 rw [←zuh]
 cases zsB L a <;> cases zsB L b <;> cases ((b == [84])||(a == b)) <;> cases (a == [78]) <;> cases zz1 L a <;> cases zz1 L b <;> cases isF L b <;> rfl
theorem zl6{a b:Tx}(h:a≠b):(a == b)=false:=beq_eq_false_iff_ne.2 h
theorem zy9(a b:Tx):znS L a b=cond (b == [84]) (((a == [84])||(a == [78]))||thN L a) (cond (a == [78]) ((b == [78])||(!(b == [73])&&thN L b)) (cond (a == b) (thN L a)
  (cond (((a == [73])||(b == [73]))||!thN L a) false (cond (!thN L b) false (isF L b||zv0 L a b))))):=by
 unfold znS
 by_cases hbT:b=[84]
 ·subst hbT
  unfold zsB
  cases (a == [84]) <;> cases (a == [78]) <;> cases thN L a <;> simp
 ·rw [zl6 hbT]
  by_cases haN:a=[78]
  ·subst haN
   by_cases hbN:b=[78]
   ·subst hbN
    unfold zsB
    simp
   ·have e:(([78]:Tx) == b)=false:=zl6 (Ne.symm hbN)
    unfold zsB zz1
    rw [e,zl6 hbN,zl6 hbT,zFZ]
    cases (b == [73]) <;> cases thN L b <;> simp
  ·rw [zl6 haN]
   by_cases hab:a=b
   ·subst hab
    unfold zsB
    rw [zl6 haN,zl6 hbT]
    cases thN L a <;> simp
   ·rw [zl6 hab]
    by_cases haT:a=[84]
    ·subst haT
     unfold zz1
     rw [zGh]
     simp
    ·by_cases hbN:b=[78]
     ·subst hbN
      unfold zz1
      rw [zFZ]
      simp
     ·unfold zsB zz1
      rw [zl6 haN,zl6 haT,zl6 hbN,zl6 hbT]
      cases (a == [73]) <;> cases (b == [73]) <;> cases thN L a <;> cases thN L b <;> simp
theorem zhP(h:zcg l L){a b:Tx}(ha:a.length≤25)(hb:b.length≤25):zbV L a b=some (znS L a b):=by
 have h26:=h.len
 rw [zy9]
 unfold zbV
 rw [zb5 h (by omega),zb5 h (by omega),zib (by omega),zsv h ha (by omega)]
 simp only [Option.bind_some]
 have e:(cond (decide (0≤atN L b)) ((idx L (atN L b)).bind fun v15=>some v15.Interface) (some false))=some (isF L b):=by
  rw [zqF,zjL]
  unfold isF
  cases hc:cl L b with
  |none=>rw [zls hc];rfl
  |some c=>rw [zgL hc];rfl
 rw [e]
 simp only [Option.bind_some]
 cases (b == [84]) <;> cases (a == [84]) <;> cases (a == [78]) <;> cases (b == [78]) <;> cases (a == [73]) <;> cases (b == [73]) <;> cases (a == b) <;> cases thN L a <;> cases thN L b <;> cases isF L b <;> rfl
end
def ShL(l:List Tx):Prop:=l.length≤100∧∀t∈l,t.length≤25
theorem ShL.add{l:List Tx}{t:Tx}(h:l.length≤99∧∀t∈l,t.length≤25)(ht:t.length≤25):ShL (l++[t]):=
 ⟨by simp;omega,fun x hx=>by
  rcases List.mem_append.1 hx with h1 |h1
  ·exact h.2 x h1
  ·rw [List.mem_singleton.1 h1];exact ht⟩
theorem ShL.drop{l:List Tx}(h:ShL l):ShL l.dropLast:=⟨by rw [List.length_dropLast];have:=h.1;omega,fun x hx=>h.2 x (List.dropLast_subset l hx)⟩
def zbM(e:Tx)(s:List Tx)(b:Bool):Tx×List Tx×Bool:=match s.getLast? with |some t=>(t,s.dropLast,b) |none=>(e,s,true)
theorem zlF(e:Tx)(s:List Tx)(t:Tx)(b:Bool):zbM e (s++[t]) b=(t,s,b):=by simp [zbM]
theorem zir(s:List Tx):s=[]∨∃r t,s=r++[t]:=by
 rcases List.eq_nil_or_concat s with h |⟨r,t,h⟩
 ·exact .inl h
 ·exact .inr ⟨r,t,by simpa using h⟩
theorem zen{e:Tx}{s:List Tx}{b:Bool}(h:ShL s)(he:e.length≤25):(zbM e s b).1.length≤25∧ShL (zbM e s b).2.1:=by
 rcases zir s with rfl |⟨r,t,rfl⟩
 ·exact ⟨he,h⟩
 ·rw [zlF]
  refine ⟨h.2 t (by simp),⟨?_,fun x hx=>h.2 x (by simp [hx])⟩⟩
  have:=h.1;simp at this;show r.length≤100;omega
theorem zhr{e:Tx}{s:List Tx}{b:Bool}(h:b=true):(zbM e s b).2.2=true:=by
 unfold zbM;split <;> simp [h]
section
variable {l L : List za} {m : List (Tx × Int)} {c : Tx} {mt : zb} {loc stk : List Tx} {b : Bool}
theorem znW(hs:stk.length≤1000):zak L m c mt loc stk b=some (zbM [84] stk b):=by
 unfold zak
 rcases zir stk with rfl |⟨r,t,rfl⟩
 ·rfl
 ·have hl:((r++[t]).length:Int)=(r.length:Int)+1:=by simp
  have h0:(((r++[t]).length:Int) == 0)=false:=beq_eq_false_iff_ne.2 (by omega)
  have hw:IntKind.i64.wrap (((r++[t]).length:Int)-1)=(r.length:Int):=by
   rw [hl,zlX (by omega) (by simp at hs;omega)];omega
  rw [h0,hw,zlF,zr]
  have h1:(r++[t])[r.length]?=some t:=by simp
  have h2:zkM (r++[t]) 0 (r.length:Int)=some r:=by
   unfold zkM
   rw [if_pos ⟨by omega,by omega,by omega⟩]
   simp
  rw [h1,h2]
  rfl
theorem zfv{t:Tx}(hs:stk.length≤1000):zB L m c mt loc stk b t=some (stk++[t]):=by
 unfold zB zh9
 rw [if_pos (by simp;omega)]
 rfl
theorem zsR{x:List Tx}(hs:x.length≤1000):zoL x=some x:=by
 unfold zoL zh9
 rw [if_pos (by simp;omega)]
 rfl
def zah(L:List za)(e:Tx):List Tx→List Tx→Bool→List Tx×Bool
 | [],s,b=>(s,b)
 |w ::r,s,b=>zah L e r (zbM e s b).2.1 ((zbM e s b).2.2||!znS L (zbM e s b).1 w)
theorem zep{e:Tx}(he:e.length≤25):∀(ts s:List Tx) (b:Bool),ShL s→ShL (zah L e ts s b).1:=by
 intro ts
 induction ts with
 |nil=>intro s b h;exact h
 |cons w r ih=>intro s b h;exact ih _ _ (zen h he).2
theorem zbt{e:Tx}:∀(ts s:List Tx) (b:Bool),b=true→(zah L e ts s b).2=true:=by
 intro ts
 induction ts with
 |nil=>intro s b h;exact h
 |cons w r ih=>intro s b h;exact ih _ _ (by rw [zhr h];rfl)
theorem zEd(h:zcg l L)(hm:zbr L m){ts:List Tx}(ht:ShL ts):∀(k:Nat),k≤ts.length→∀(s:List Tx) (b:Bool),ShL s →
  zl (fun z=>zaO L m c mt loc ts z.1 z.2.1 z.2.2) (s,b,(k:Int)-1)=some (.inl (zah L [84] (ts.take k).reverse s b)):=by
 intro k
 induction k with
 |zero =>
  intro _ s b hs
  rw [zI]
  show (zaO L m c mt loc ts s b (((0:Nat):Int)-1)).bind _=_
  unfold zaO
  rw [decide_eq_false (by omega)]
  rfl
 |succ k ih =>
  intro hk s b hs
  rw [zI]
  show (zaO L m c mt loc ts s b (((k+1:Nat):Int)-1)).bind _=_
  have e1:(((k+1:Nat):Int)-1)=(k:Int):=by omega
  have hlt:k<ts.length:=by omega
  obtain ⟨h1,h2⟩:=zen (b:=b) hs (e:=[84]) (by decide)
  have hw:IntKind.i64.wrap ((k:Int)-1)=(k:Int)-1:=zlX (by omega) (by have:=ht.1;omega)
  have step:zaO L m c mt loc ts s b (((k+1:Nat):Int)-1)=some (.inl ((zbM [84] s b).2.1,(zbM [84] s b).2.2||!znS L (zbM [84] s b).1 ts[k],(k:Int)-1)):=by
   unfold zaO
   rw [e1,decide_eq_true (by omega),zr,List.getElem?_eq_getElem hlt,znW (by have:=hs.1;omega)]
   simp only [cond_true,Option.bind_some]
   rw [zqk h hm h1 (ht.2 _ (List.getElem_mem hlt)),hw]
   rfl
  rw [step]
  simp only [Option.bind_some,Sum.elim_inl]
  rw [show zl (fun z=>zaO L m c mt loc ts z.1 z.2.1 z.2.2) ((zbM [84] s b).2.1,(zbM [84] s b).2.2||!znS L (zbM [84] s b).1 ts[k],(k:Int)-1)=_ from ih (by omega) _ _ h2]
  have e2:(ts.take (k+1)).reverse=ts[k]::(ts.take k).reverse:=by
   rw [List.take_add_one,List.getElem?_eq_getElem hlt];simp
  rw [e2]
  rfl
theorem zgh(h:zcg l L)(hm:zbr L m){ts:List Tx}(ht:ShL ts)(hs:ShL stk):zJ L m c mt loc stk b ts=some (zah L [84] ts.reverse stk b):=by
 unfold zJ
 have hw:IntKind.i64.wrap ((ts.length:Int)-1)=(ts.length:Int)-1:=zlX (by omega) (by have:=ht.1;omega)
 rw [hw,show zl (fun z=>zaO L m c mt loc ts z.1 z.2.1 z.2.2) (stk,b,(ts.length:Int)-1)=_ from zEd h hm ht ts.length (Nat.le_refl _) stk b hs,List.take_length]
 rfl
end
theorem sh1{t:Tx}(h:t.length≤25):ShL [t]:=⟨by simp,fun x hx=>by rw [List.mem_singleton.1 hx];exact h⟩
theorem sh2{t u:Tx}(h:t.length≤25)(k:u.length≤25):ShL [t,u]:=⟨by simp,fun x hx=>by
 rcases List.mem_cons.1 hx with rfl |hx
 ·exact h
 ·rw [List.mem_singleton.1 hx];exact k⟩
theorem sh3{t u v:Tx}(h:t.length≤25)(k:u.length≤25)(j:v.length≤25):ShL [t,u,v]:=⟨by simp,fun x hx=>by
 rcases List.mem_cons.1 hx with rfl |hx
 ·exact h
 ·exact (sh2 k j).2 x hx⟩
theorem ShL.len{l:List Tx}(h:ShL l):l.length≤1000:=by have:=h.1;omega
theorem zvZ{t:Tx}(h:t.length≤25):Len t:=by
 show t.length≤9223372036854775807
 omega
section
variable {l L : List za} {m : List (Tx × Int)} {c : Tx} {mt : zb} {loc stk : List Tx} {b : Bool}
def zhO(e:Tx)(s:List Tx)(b:Bool):Tx×List Tx×Bool:=
 ((zbM e s b).1,(zbM e s b).2.1,(zbM e s b).2.2||!(((zbM e s b).1 == [78])||zqg (zbM e s b).1))
theorem ztE{e:Tx}{s:List Tx}{b:Bool}(h:ShL s)(he:e.length≤25):(zhO e s b).1.length≤25∧ShL (zhO e s b).2.1:=zen h he
theorem zsu(hs:ShL stk):zb6 L m c mt loc stk b=some (zhO [84] stk b):=by
 unfold zb6 zhO
 obtain ⟨h1,h2⟩:=zen (b:=b) hs (e:=[84]) (by decide)
 rw [znW hs.len]
 simp only [Option.bind_some]
 rw [zly (zvZ h1)]
 cases (zbM [84] stk b).1 == [78] <;> rfl
def zlh(e:Tx)(s:List Tx)(b:Bool):Tx×List Tx×Bool:=
 (cond ((zbM e s b).1 == [78]) (zbM e s b).1 (zic (zbM e s b).1).1,(zbM e s b).2.1,(zbM e s b).2.2||!(((zbM e s b).1 == [78])||((zic (zbM e s b).1).2&&!((zic (zbM e s b).1).1 == [73]))))
theorem zy0{t:Tx}(h:t.length≤25):(zic t).1.length≤25:=by
 unfold zic
 cases zfz t&&brk t
 ·exact Nat.zero_le _
 ·show (t.drop 1).length≤25
  simp;omega
theorem zvg{e:Tx}{s:List Tx}{b:Bool}(h:ShL s)(he:e.length≤25):(zlh e s b).1.length≤25∧ShL (zlh e s b).2.1:=by
 obtain ⟨h1,h2⟩:=zen (b:=b) h he
 refine ⟨?_,h2⟩
 unfold zlh
 cases (zbM e s b).1 == [78]
 ·exact zy0 h1
 ·exact h1
theorem zwc(hs:ShL stk):zej L m c mt loc stk b=some (zlh [84] stk b):=by
 unfold zej zlh
 obtain ⟨h1,h2⟩:=zen (b:=b) hs (e:=[84]) (by decide)
 rw [znW hs.len]
 simp only [Option.bind_some]
 rw [zhF (zvZ h1)]
 cases (zbM [84] stk b).1 == [78] <;> rfl
theorem zk0(e f:Tx)(s:List Tx)(b:Bool):(zbM e s b).2=(zbM f s b).2:=by
 unfold zbM;split <;> rfl
theorem zfS(e f:Tx)(s:List Tx)(b:Bool)(h:(zbM e s b).2.2=false):(zbM e s b).1=(zbM f s b).1:=by
 unfold zbM at h ⊢
 split
 ·rfl
 ·rename_i hq;rw [hq] at h;cases h
theorem zri{a p q:Bool}(h:a=false→p=q):(a||p)=(a||q):=by
 cases a
 ·rw [h rfl]
 ·rfl
theorem zfy(e f:Tx):∀(ts s:List Tx) (b:Bool),zah L e ts s b=zah L f ts s b:=by
 intro ts
 induction ts with
 |nil=>intro s b;rfl
 |cons w r ih =>
  intro s b
  show zah L e r (zbM e s b).2.1 ((zbM e s b).2.2||!znS L (zbM e s b).1 w)=zah L f r (zbM f s b).2.1 ((zbM f s b).2.2||!znS L (zbM f s b).1 w)
  rw [ih,←zk0 e f s b,zri (fun h=>by rw [zfS e f s b h])]
theorem zCR(e f:Tx)(s:List Tx)(b:Bool):(zhO e s b).2=(zhO f s b).2:=by
 unfold zhO
 rw [←zk0 e f s b,zri (fun h=>by rw [zfS e f s b h])]
theorem zx6(e f:Tx)(s:List Tx)(b:Bool)(h:(zhO e s b).2.2=false):(zhO e s b).1=(zhO f s b).1:=
 zfS e f s b (by unfold zhO at h;simp only [Bool.or_eq_false_iff] at h;exact h.1)
theorem zCs(e f:Tx)(s:List Tx)(b:Bool):(zlh e s b).2=(zlh f s b).2:=by
 unfold zlh
 rw [←zk0 e f s b,zri (fun h=>by rw [zfS e f s b h])]
theorem zxv(e f:Tx)(s:List Tx)(b:Bool)(h:(zlh e s b).2.2=false):(zlh e s b).1=(zlh f s b).1:=by
 have h1:(zbM e s b).2.2=false:=by unfold zlh at h;simp only [Bool.or_eq_false_iff] at h;exact h.1
 unfold zlh
 rw [zfS e f s b h1]
end
section
variable {l L : List za} {c : Tx} {mt : zb} {loc stk : List Tx} {b : Bool}
theorem zj8(hs:stk.length≤1000):zap L c mt loc stk b=some (zbM [78] stk b):=by
 unfold zap
 rcases zir stk with rfl |⟨r,t,rfl⟩
 ·rfl
 ·have hl:((r++[t]).length:Int)=(r.length:Int)+1:=by simp
  have h0:(((r++[t]).length:Int) == 0)=false:=beq_eq_false_iff_ne.2 (by omega)
  have hw:IntKind.i64.wrap (((r++[t]).length:Int)-1)=(r.length:Int):=by
   rw [hl,zlX (by omega) (by simp at hs;omega)];omega
  rw [h0,hw,zlF,zr]
  have h1:(r++[t])[r.length]?=some t:=by simp
  have h2:zkM (r++[t]) 0 (r.length:Int)=some r:=by
   unfold zkM
   rw [if_pos ⟨by omega,by omega,by omega⟩]
   simp
  rw [h1,h2]
  rfl
theorem zBZ(h:zcg l L){ts:List Tx}(ht:ShL ts):∀(k:Nat),k≤ts.length→∀(s:List Tx) (b:Bool),ShL s →
  zl (fun z=>za6 L c mt loc ts z.1 z.2.1 z.2.2) (s,b,(k:Int)-1)=some (.inl (zah L [78] (ts.take k).reverse s b)):=by
 intro k
 induction k with
 |zero =>
  intro _ s b hs
  rw [zI]
  show (za6 L c mt loc ts s b (((0:Nat):Int)-1)).bind _=_
  unfold za6
  rw [decide_eq_false (by omega)]
  rfl
 |succ k ih =>
  intro hk s b hs
  rw [zI]
  show (za6 L c mt loc ts s b (((k+1:Nat):Int)-1)).bind _=_
  have e1:(((k+1:Nat):Int)-1)=(k:Int):=by omega
  have hlt:k<ts.length:=by omega
  obtain ⟨h1,h2⟩:=zen (b:=b) hs (e:=[78]) (by decide)
  have hw:IntKind.i64.wrap ((k:Int)-1)=(k:Int)-1:=zlX (by omega) (by have:=ht.1;omega)
  have step:za6 L c mt loc ts s b (((k+1:Nat):Int)-1)=some (.inl ((zbM [78] s b).2.1,(zbM [78] s b).2.2||!znS L (zbM [78] s b).1 ts[k],(k:Int)-1)):=by
   unfold za6
   rw [e1,decide_eq_true (by omega),zr,List.getElem?_eq_getElem hlt,zj8 hs.len]
   simp only [cond_true,Option.bind_some]
   rw [zhP h h1 (ht.2 _ (List.getElem_mem hlt)),hw]
   rfl
  rw [step]
  simp only [Option.bind_some,Sum.elim_inl]
  rw [show zl (fun z=>za6 L c mt loc ts z.1 z.2.1 z.2.2) ((zbM [78] s b).2.1,(zbM [78] s b).2.2||!znS L (zbM [78] s b).1 ts[k],(k:Int)-1)=_ from ih (by omega) _ _ h2]
  have e2:(ts.take (k+1)).reverse=ts[k]::(ts.take k).reverse:=by
   rw [List.take_add_one,List.getElem?_eq_getElem hlt];simp
  rw [e2]
  rfl
theorem zeQ(h:zcg l L){ts:List Tx}(ht:ShL ts)(hs:ShL stk):zW L c mt loc stk b ts=some (zah L [78] ts.reverse stk b):=by
 unfold zW
 have hw:IntKind.i64.wrap ((ts.length:Int)-1)=(ts.length:Int)-1:=zlX (by omega) (by have:=ht.1;omega)
 rw [hw,show zl (fun z=>za6 L c mt loc ts z.1 z.2.1 z.2.2) (stk,b,(ts.length:Int)-1)=_ from zBZ h ht ts.length (Nat.le_refl _) stk b hs,List.take_length]
 rfl
def zp1(most:Int)(s:List Tx)(b:Bool)(t:Tx):List Tx×Bool:=(s++[t],b||!decide (((s++[t]).length:Int)≤most))
theorem zfx{t:Tx}(hs:stk.length≤1000):zT L c mt loc stk b t=some (zp1 mt.Stack stk b t):=by
 unfold zT zp1 zh9
 rw [if_pos (by simp;omega)]
 simp only [List.nil_append,Option.bind_some]
 rw [if_pos (by simp;omega)]
 rfl
def zoy(s:List Tx)(b:Bool):Tx×List Tx×Bool:=((zbM [78] s b).1,(zbM [78] s b).2.1,(zbM [78] s b).2.2||!(!((zbM [78] s b).1 == [73])))
theorem zoz(hs:ShL stk):zbT L c mt loc stk b=some (zoy stk b):=by
 unfold zbT
 rw [zj8 hs.len]
 rfl
theorem zyX{p q:List Tx}(hp:p.length≤1000)(hq:q.length≤1000):zdO (zgG.mk p q)=some (p,q):=by
 unfold zdO zh9
 simp only
 rw [if_pos (by simp;omega),if_pos (by simp;omega)]
 rfl
end
def zpl(most:Int)(p r:List Tx×List Tx×Bool):Prop:=
 (p.2.2||!decide ((p.2.1.length:Int)≤most))=r.2.2∧(r.2.2=false→p.1=r.1∧p.2.1=r.2.1)
section
variable {L : List za} {most : Int} {loc s : List Tx} {b : Bool}
theorem zfn(t:Tx):zpl most (loc,s++[t],b) (loc,(zp1 most s b t).1,(zp1 most s b t).2):=⟨rfl,fun _=>⟨rfl,rfl⟩⟩
theorem zuW(t u:Tx):zpl most (loc,s++[t]++[u],b) (loc,(zp1 most (zp1 most s b t).1 (zp1 most s b t).2 u).1,(zp1 most (zp1 most s b t).1 (zp1 most s b t).2 u).2):=by
 refine ⟨?_,fun _=>⟨rfl,rfl⟩⟩
 show (b||!decide (((s++[t]++[u]).length:Int)≤most))=((b||!decide (((s++[t]).length:Int)≤most))||!decide (((s++[t]++[u]).length:Int)≤most))
 by_cases h:((s++[t]++[u]).length:Int)≤most
 ·have h2:((s++[t]).length:Int)≤most:=by simp at h ⊢;omega
  rw [decide_eq_true h,decide_eq_true h2];simp
 ·rw [decide_eq_false h];simp
theorem zfV(h:b=false→(s.length:Int)≤most):zpl most (loc,s,b) (loc,s,b):=by
 refine ⟨?_,fun _=>⟨rfl,rfl⟩⟩
 show (b||!decide ((s.length:Int)≤most))=b
 cases b with
 |true=>rfl
 |false=>rw [decide_eq_true (h rfl)];rfl
theorem zgF{p r:List Tx×List Tx×Bool}(hp:p.2.2=true)(hr:r.2.2=true):zpl most p r:=
 ⟨by rw [hp,hr];rfl,fun h=>by rw [hr] at h;cases h⟩
theorem zrl(e:Tx)(s:List Tx)(b:Bool):(zbM e s b).2.1.length≤s.length:=by
 rcases zir s with rfl |⟨r,t,rfl⟩
 ·exact Nat.le_refl _
 ·rw [zlF];simp
theorem zkA(e:Tx):∀(ts s:List Tx) (b:Bool),(zah L e ts s b).1.length≤s.length:=by
 intro ts
 induction ts with
 |nil=>intro s b;exact Nat.le_refl _
 |cons w r ih=>intro s b;exact Nat.le_trans (ih _ _) (zrl e s b)
theorem zAs(e w w':Tx)(s:List Tx)(b:Bool):zah L e [w,w'] s b=zah L e [w'] (zah L e [w] s b).1 (zah L e [w] s b).2:=rfl
end
def onS(t:Tx):Prop:=t=[78]∨zfz t=true
theorem zpc{s:List Tx}{b:Bool}(h:∀t∈s,onS t):(zoy s b).2=(zhO [84] s b).2∧((zoy s b).2.2=false→(zoy s b).1=(zhO [84] s b).1):=by
 have key:(zoy s b).2=(zhO [78] s b).2:=by
  unfold zoy zhO
  rcases zir s with rfl |⟨r,t,rfl⟩
  ·rfl
  ·rw [zlF]
   have ht:=h t (by simp)
   show (r,b||!(!(t == [73])))=(r,b||!((t == [78])||zqg t))
   rcases ht with rfl |ht
   ·rfl
   ·unfold zqg
    rw [ht]
    have:(t == [78])=false:=beq_eq_false_iff_ne.2 fun e=>by rw [e,zDL] at ht;cases ht
    rw [this]
    cases t == [73] <;> rfl
 refine ⟨key.trans (zCR [78] [84] s b),fun hf=>?_⟩
 have:(zoy s b).2.2=(zhO [84] s b).2.2:=by rw [key,zCR [78] [84] s b]
 rw [this] at hf
 exact (zx6 [84] [78] s b hf).symm
def zAQ(t:Tx):Prop:=t.length≤25∧onS t
theorem zmG:zAQ [73]:=⟨by decide,.inr (by decide +kernel)⟩
theorem zBg:zAQ [78]:=⟨by decide,.inl rfl⟩
theorem zxG{t:Tx}(h:zfz t=true)(hl:t.length≤25):zAQ t:=⟨hl,.inr h⟩
def znC(loc stk:List Tx)(b:Bool)(p:List Tx×List Tx×Bool):Prop:=
 (b=true→p.2.2=true) ∧
 (p.1.length=loc.length∧p.2.1.length≤stk.length+2∧(∀t∈p.1,t.length≤25)∧∀t∈p.2.1,t.length≤25) ∧
 (p.2.2=false→(∀t∈p.2.1,t∈stk∨zAQ t)∧∀t∈p.1,t∈loc∨t∈stk)
theorem zhs(e:Tx)(s:List Tx)(b:Bool):(zbM e s b).2.1<+:s:=by
 rcases zir s with rfl |⟨r,t,rfl⟩
 ·exact List.prefix_refl _
 ·rw [zlF];exact List.prefix_append _ _
theorem zmY{e:Tx}{s:List Tx}{b:Bool}(h:(zbM e s b).2.2=false):(zbM e s b).1∈s:=by
 rcases zir s with rfl |⟨r,t,rfl⟩
 ·cases h
 ·rw [zlF];simp
theorem zlN(e:Tx)(s:List Tx)(b:Bool):(zhO e s b).2.1<+:s:=zhs e s b
theorem zwb(e:Tx)(s:List Tx)(b:Bool):(zlh e s b).2.1<+:s:=zhs e s b
theorem znx{e:Tx}{s:List Tx}{b:Bool}(h:b=true):(zhO e s b).2.2=true:=by unfold zhO;rw [zhr h];rfl
theorem zwa{e:Tx}{s:List Tx}{b:Bool}(h:b=true):(zlh e s b).2.2=true:=by unfold zlh;rw [zhr h];rfl
theorem zdX(L:List za)(e:Tx):∀(ts s:List Tx) (b:Bool),(zah L e ts s b).1<+:s:=by
 intro ts
 induction ts with
 |nil=>intro s b;exact List.prefix_refl _
 |cons w r ih=>intro s b;exact (ih _ _).trans (zhs e s b)
section
variable {L : List za} {loc stk s : List Tx} {b0 b : Bool}
theorem zfO(hb0:b0=true→b=true)(hl:ShL loc)(hs:ShL stk)(h:s<+:stk):znC loc stk b0 (loc,s,b):=
 ⟨hb0,⟨rfl,by have:=h.length_le;show s.length≤_;omega,hl.2,fun t ht=>hs.2 t (h.subset ht)⟩,fun _=>⟨fun t ht=>.inl (h.subset ht),fun t ht=>.inl ht⟩⟩
theorem zeP{u:Tx}(hb0:b0=true→b=true)(hl:ShL loc)(hs:ShL stk)(h:s<+:stk)(h1:u.length≤25)(hu:b=false→u∈stk∨zAQ u):znC loc stk b0 (loc,s++[u],b):=
 ⟨hb0,⟨rfl,by have:=h.length_le;show (s++[u]).length≤_;simp;omega,hl.2,fun t ht=>by
  rcases List.mem_append.1 ht with k |k
  ·exact hs.2 t (h.subset k)
  ·rw [List.mem_singleton.1 k];exact h1⟩,fun hb=>⟨fun t ht=>by
  rcases List.mem_append.1 ht with k |k
  ·exact .inl (h.subset k)
  ·rw [List.mem_singleton.1 k];exact hu hb,fun t ht=>.inl ht⟩⟩
theorem zui{u v:Tx}(hb0:b0=true→b=true)(hl:ShL loc)(hs:ShL stk)(h:s<+:stk)(h1:u.length≤25)(hu:b=false→u∈stk∨zAQ u)(h2:v.length≤25)(hv:b=false→v∈stk∨zAQ v):znC loc stk b0 (loc,s++[u]++[v],b):=
 ⟨hb0,⟨rfl,by have:=h.length_le;show (s++[u]++[v]).length≤_;simp;omega,hl.2,fun t ht=>by
  rcases List.mem_append.1 ht with k |k
  ·rcases List.mem_append.1 k with k |k
   ·exact hs.2 t (h.subset k)
   ·rw [List.mem_singleton.1 k];exact h1
  ·rw [List.mem_singleton.1 k];exact h2⟩,fun hb=>⟨fun t ht=>by
  rcases List.mem_append.1 ht with k |k
  ·rcases List.mem_append.1 k with k |k
   ·exact .inl (h.subset k)
   ·rw [List.mem_singleton.1 k];exact hu hb
  ·rw [List.mem_singleton.1 k];exact hv hb,fun t ht=>.inl ht⟩⟩
theorem zsq{k:Nat}{u:Tx}(hb0:b0=true→b=true)(hl:ShL loc)(hs:ShL stk)(h:s<+:stk)(h1:u.length≤25)(hu:b=false→u∈stk):znC loc stk b0 (loc.set k u,s,b):=
 ⟨hb0,⟨List.length_set ..,by have:=h.length_le;show s.length≤_;omega,fun t ht=>by
  rcases List.mem_or_eq_of_mem_set ht with k |rfl
  ·exact hl.2 t k
  ·exact h1,fun t ht=>hs.2 t (h.subset ht)⟩,fun hb=>⟨fun t ht=>.inl (h.subset ht),fun t ht=>by
  rcases List.mem_or_eq_of_mem_set ht with k |rfl
  ·exact .inl k
  ·exact .inr (hu hb)⟩⟩
end
theorem bt{n a b:Int}(h:a≤n∧n≤b):zaA n a b=true:=by
 unfold zaA;rw [decide_eq_true h.1,decide_eq_true h.2];rfl
theorem bf{n a b:Int}(h:¬(a≤n∧n≤b)):zaA n a b=false:=by
 unfold zaA
 rw [Bool.and_eq_false_iff,decide_eq_false_iff_not,decide_eq_false_iff_not];omega
theorem ct{n a b:Int}(h:a≤n∧n≤b):(decide (a≤n)&&decide (n≤b))=true:=bt h
theorem cf{n a b:Int}(h:¬(a≤n∧n≤b)):(decide (a≤n)&&decide (n≤b))=false:=bf h
theorem qt{n k:Int}(h:n=k):(n == k)=true:=by rw [h];exact beq_self_eq_true k
theorem qf{n k:Int}(h:n≠k):(n == k)=false:=beq_eq_false_iff_ne.2 h
structure zfF(l L:List za)(m:List (Tx×Int))(mt:zb)(loc stk:List Tx)(b:Bool):Prop where
 made:zcg l L
 map:zbr L m
 lens:zkg L
 shL:ShL loc
 shS:ShL stk
 on:∀t∈stk,onS t
 room:(stk.length:Int)≤mt.Stack
 onL:∀t∈loc,t=[84]∨onS t
section
variable {l L : List za} {m : List (Tx × Int)} {c : Tx} {mt : zb} {loc stk : List Tx} {b : Bool} {x : zp}
theorem zye(h:zfF l L m mt loc stk b)(ho:8≤x.Op∧x.Op≤19):
  ∃p r,zg L m c mt loc stk b x=some p∧zj L c mt loc stk b x=some r∧zpl mt.Stack p r∧znC loc stk b p:=by
 have h73:([73]:Tx).length≤25:=by decide
 by_cases hn:x.Op=13
 ·refine ⟨(loc,(zah L [84] [[73]] stk b).1++[[73]],(zah L [84] [[73]] stk b).2),_,?_,?_,zfn _,zeP (zbt _ _ _) h.shL h.shS (zdX _ _ _ _ _) (by decide) fun _=>.inr zmG⟩
  ·unfold zg
   rw [bf (by omega),qt hn,zgh h.made h.map (sh1 h73) h.shS]
   simp only [cond_false,cond_true,Option.bind_some,List.reverse_singleton]
   rw [zfv (zep (by decide) _ _ _ h.shS).len]
   rfl
  ·unfold zj
   rw [ct ho,zeQ h.made (sh1 h73) h.shS,qt hn]
   simp only [cond_false,cond_true,Option.bind_some,List.reverse_singleton,Bool.not_true]
   unfold zdL
   rw [zfx (zep (by decide) _ _ _ h.shS).len,zfy [78] [84]]
   rfl
 ·refine ⟨(loc,(zah L [84] [[73],[73]] stk b).1++[[73]],(zah L [84] [[73],[73]] stk b).2),_,?_,?_,zfn _,zeP (zbt _ _ _) h.shL h.shS (zdX _ _ _ _ _) (by decide) fun _=>.inr zmG⟩
  ·unfold zg
   rw [bf (by omega),qf hn,bt ho,zgh h.made h.map (sh2 h73 h73) h.shS]
   simp only [cond_false,cond_true,Option.bind_some]
   rw [show ([[73],[73]]:List Tx).reverse=[[73],[73]] from rfl,zfv (zep (by decide) _ _ _ h.shS).len]
   rfl
  ·unfold zj
   have hs:=zep (L:=L) (e:=[78]) (by decide) [[73]] stk b h.shS
   rw [ct ho,zeQ h.made (sh1 h73) h.shS,qf hn]
   simp only [cond_false,cond_true,Option.bind_some,List.reverse_singleton,Bool.not_false]
   rw [zeQ h.made (sh1 h73) hs]
   simp only [Option.bind_some,List.reverse_singleton]
   unfold zdL
   rw [zfx (zep (by decide) _ _ _ hs).len]
   rw [←zAs,zfy [78] [84]]
   rfl
theorem instr_plain(h1:¬(8≤x.Op∧x.Op≤45))(h2:¬(49≤x.Op∧x.Op≤55)):zj L c mt loc stk b x=(zV L c mt loc stk b x).bind fun v=>some (v.1,v.2.1,v.2.2):=by
 unfold zj
 rw [cf (by omega),cf (by omega),qf (show x.Op≠20 by omega),cf (by omega),cf (by omega),cf (by omega)]
 rfl
theorem zlC(h:1≤x.Op∧x.Op≤7):zg L m c mt loc stk b x=(zaY L m c mt loc stk b x).bind fun v=>some (v.1,v.2.1,v.2.2):=by
 unfold zg
 rw [bt h]
 rfl
theorem zo0(h:56≤x.Op∧x.Op≤61):zg L m c mt loc stk b x=(zbS L m c mt loc stk b x).bind fun v=>some (loc,v.1,v.2):=by
 unfold zg
 rw [bf (by omega),qf (by omega),bf (by omega),qf (by omega),bf (by omega),bf (by omega),bf (by omega),bf (by omega),qf (by omega),bf (by omega),bf (by omega),bf (by omega),bf (by omega)]
 rfl
theorem zyf(h:zfF l L m mt loc stk b)(ho:x.Op=1∨x.Op=2):
  ∃p r,zg L m c mt loc stk b x=some p∧zj L c mt loc stk b x=some r∧zpl mt.Stack p r∧znC loc stk b p:=by
 rcases ho with ho |ho
 ·refine ⟨(loc,stk++[[73]],b),_,?_,?_,zfn _,zeP id h.shL h.shS (List.prefix_refl _) (by decide) fun _=>.inr zmG⟩
  ·rw [zlC (by omega)]
   unfold zaY
   rw [qt ho,zfv h.shS.len]
   rfl
  ·rw [instr_plain (by omega) (by omega)]
   unfold zV
   rw [qt ho,zfx h.shS.len]
   rfl
 ·refine ⟨(loc,stk++[[78]],b),_,?_,?_,zfn _,zeP id h.shL h.shS (List.prefix_refl _) (by decide) fun _=>.inr zBg⟩
  ·rw [zlC (by omega)]
   unfold zaY
   rw [qf (show x.Op≠1 by omega),qt ho]
   simp only [cond_false,cond_true]
   rw [zfv h.shS.len]
   rfl
  ·rw [instr_plain (by omega) (by omega)]
   unfold zV
   rw [qf (show x.Op≠1 by omega),qt ho]
   simp only [cond_false,cond_true]
   rw [zfx h.shS.len]
   rfl
theorem zCc(h:zfF l L m mt loc stk b)(ho:x.Op=5):
  ∃p r,zg L m c mt loc stk b x=some p∧zj L c mt loc stk b x=some r∧zpl mt.Stack p r∧znC loc stk b p:=by
 obtain ⟨g1,g2⟩:=zen (b:=b) h.shS (e:=[84]) (by decide)
 obtain ⟨k1,k2⟩:=zen (b:=b) h.shS (e:=[78]) (by decide)
 ·refine ⟨(loc,(zbM [84] stk b).2.1,(zbM [84] stk b).2.2),(loc,(zbM [84] stk b).2.1,(zbM [84] stk b).2.2),?_,?_,zfV fun _=>?_,zfO zhr h.shL h.shS (zhs _ _ _)⟩
  ·rw [zlC (by omega)]
   unfold zaY
   rw [qf (show x.Op≠1 by omega),qf (show x.Op≠2 by omega),qf (show x.Op≠3 by omega),qf (show x.Op≠4 by omega),qt ho]
   simp only [cond_false,cond_true]
   rw [znW h.shS.len]
   rfl
  ·rw [instr_plain (by omega) (by omega)]
   unfold zV
   rw [qf (show x.Op≠1 by omega),qf (show x.Op≠2 by omega),qf (show x.Op≠3 by omega),qf (show x.Op≠4 by omega),qt ho]
   simp only [cond_false,cond_true]
   rw [zj8 h.shS.len,zk0 [84] [78]]
   rfl
  ·have:=zrl [84] stk b
   have:=h.room
   omega
end
section
variable {l L : List za} {m : List (Tx × Int)} {c : Tx} {mt : zb} {loc stk : List Tx} {b : Bool} {x : zp}
theorem zo2{most:Int}{s:List Tx}{b:Bool}{t:Tx}(h:b=true):(zp1 most s b t).2=true:=by
 unfold zp1;rw [h];rfl
theorem zB9(h:zfF l L m mt loc stk b)(ho:x.Op=6):
  ∃p r,zg L m c mt loc stk b x=some p∧zj L c mt loc stk b x=some r∧zpl mt.Stack p r∧znC loc stk b p:=by
 obtain ⟨g1,g2⟩:=zen (b:=b) h.shS (e:=[84]) (by decide)
 obtain ⟨k1,k2⟩:=zen (b:=b) h.shS (e:=[78]) (by decide)
 refine ⟨(loc,(zbM [84] stk b).2.1++[(zbM [84] stk b).1]++[(zbM [84] stk b).1],(zbM [84] stk b).2.2),
  (loc,(zp1 mt.Stack (zp1 mt.Stack (zbM [78] stk b).2.1 (zbM [78] stk b).2.2 (zbM [78] stk b).1).1 (zp1 mt.Stack (zbM [78] stk b).2.1 (zbM [78] stk b).2.2 (zbM [78] stk b).1).2 (zbM [78] stk b).1).1,
   (zp1 mt.Stack (zp1 mt.Stack (zbM [78] stk b).2.1 (zbM [78] stk b).2.2 (zbM [78] stk b).1).1 (zp1 mt.Stack (zbM [78] stk b).2.1 (zbM [78] stk b).2.2 (zbM [78] stk b).1).2 (zbM [78] stk b).1).2),?_,?_,?_,zui zhr h.shL h.shS (zhs _ _ _) g1 (fun hb=>.inl (zmY hb)) g1 fun hb=>.inl (zmY hb)⟩
 ·rw [zlC (by omega)]
  unfold zaY
  rw [qf (show x.Op≠1 by omega),qf (show x.Op≠2 by omega),qf (show x.Op≠3 by omega),qf (show x.Op≠4 by omega),qf (show x.Op≠5 by omega),qt ho]
  simp only [cond_false,cond_true]
  rw [znW h.shS.len]
  simp only [Option.bind_some]
  rw [zfv g2.len]
  simp only [Option.bind_some]
  rw [zfv (by have:=g2.1;simp;omega)]
  rfl
 ·rw [instr_plain (by omega) (by omega)]
  unfold zV
  rw [qf (show x.Op≠1 by omega),qf (show x.Op≠2 by omega),qf (show x.Op≠3 by omega),qf (show x.Op≠4 by omega),qf (show x.Op≠5 by omega),qt ho]
  simp only [cond_false,cond_true]
  rw [zj8 h.shS.len]
  simp only [Option.bind_some]
  rw [zfx k2.len]
  simp only [Option.bind_some]
  rw [zfx (by have:=k2.1;show ((zbM [78] stk b).2.1++[(zbM [78] stk b).1]).length≤1000;simp;omega)]
  rfl
 ·cases hb:(zbM [84] stk b).2.2 with
  |true =>
   refine zgF rfl ?_
   have:(zbM [78] stk b).2.2=true:=by rw [←zk0 [84] [78]];exact hb
   exact zo2 (zo2 this)
  |false =>
   have e1:=zfS [84] [78] stk b hb
   have e2:=zk0 [84] [78] stk b
   rw [←e1,←e2,hb]
   exact zuW _ _
theorem zwY{e:Tx}{s:List Tx}{b:Bool}(h:(zbM e s b).2.2=false):b=false:=by
 cases b with
 |false=>rfl
 |true=>rw [zhr rfl] at h;cases h
theorem zAm(h:zfF l L m mt loc stk b)(ho:x.Op=7):
  ∃p r,zg L m c mt loc stk b x=some p∧zj L c mt loc stk b x=some r∧zpl mt.Stack p r∧znC loc stk b p:=by
 obtain ⟨g1,g2⟩:=zen (b:=b) h.shS (e:=[84]) (by decide)
 obtain ⟨k1,k2⟩:=zen (b:=b) h.shS (e:=[78]) (by decide)
 generalize hP:zbM [84] stk b=P at g1 g2
 generalize hR:zbM [78] stk b=R at k1 k2
 obtain ⟨g3,g4⟩:=zen (b:=P.2.2) g2 (e:=[84]) (by decide)
 obtain ⟨k3,k4⟩:=zen (b:=R.2.2) k2 (e:=[78]) (by decide)
 have hPs:P.2.1<+:stk:=by rw [←hP];exact zhs _ _ _
 have hPb:b=true→P.2.2=true:=by rw [←hP];exact zhr
 have hPi:P.2.2=false→P.1∈stk:=by rw [←hP];exact zmY
 refine ⟨(loc,(zbM [84] P.2.1 P.2.2).2.1++[P.1]++[(zbM [84] P.2.1 P.2.2).1],(zbM [84] P.2.1 P.2.2).2.2),
  (loc,(zp1 mt.Stack (zp1 mt.Stack (zbM [78] R.2.1 R.2.2).2.1 (zbM [78] R.2.1 R.2.2).2.2 R.1).1 (zp1 mt.Stack (zbM [78] R.2.1 R.2.2).2.1 (zbM [78] R.2.1 R.2.2).2.2 R.1).2 (zbM [78] R.2.1 R.2.2).1).1,
   (zp1 mt.Stack (zp1 mt.Stack (zbM [78] R.2.1 R.2.2).2.1 (zbM [78] R.2.1 R.2.2).2.2 R.1).1 (zp1 mt.Stack (zbM [78] R.2.1 R.2.2).2.1 (zbM [78] R.2.1 R.2.2).2.2 R.1).2 (zbM [78] R.2.1 R.2.2).1).2),?_,?_,?_,zui (fun e=>zhr (hPb e)) h.shL h.shS ((zhs _ _ _).trans hPs) g1 (fun hb=>.inl (hPi (zwY hb))) g3 fun hb=>.inl (hPs.subset (zmY hb))⟩
 ·rw [zlC (by omega)]
  unfold zaY
  rw [qf (show x.Op≠1 by omega),qf (show x.Op≠2 by omega),qf (show x.Op≠3 by omega),qf (show x.Op≠4 by omega),qf (show x.Op≠5 by omega),qf (show x.Op≠6 by omega),qt ho]
  simp only [cond_false,cond_true]
  rw [znW h.shS.len,hP]
  simp only [Option.bind_some]
  rw [znW g2.len]
  simp only [Option.bind_some]
  rw [zfv g4.len]
  simp only [Option.bind_some]
  rw [zfv (by have:=g4.1;simp;omega)]
  rfl
 ·rw [instr_plain (by omega) (by omega)]
  unfold zV
  rw [qf (show x.Op≠1 by omega),qf (show x.Op≠2 by omega),qf (show x.Op≠3 by omega),qf (show x.Op≠4 by omega),qf (show x.Op≠5 by omega),qf (show x.Op≠6 by omega),qt ho]
  simp only [cond_false,cond_true]
  rw [zj8 h.shS.len,hR]
  simp only [Option.bind_some]
  rw [zj8 k2.len]
  simp only [Option.bind_some]
  rw [zfx k4.len]
  simp only [Option.bind_some]
  rw [zfx (by have:=k4.1;show ((zbM [78] R.2.1 R.2.2).2.1++[R.1]).length≤1000;simp;omega)]
  rfl
 ·have e2:P.2=R.2:=by rw [←hP,←hR];exact zk0 [84] [78] stk b
  cases hb:(zbM [84] P.2.1 P.2.2).2.2 with
  |true =>
   refine zgF rfl ?_
   have:(zbM [78] R.2.1 R.2.2).2.2=true:=by rw [←e2,←zk0 [84] [78]];exact hb
   exact zo2 (zo2 this)
  |false =>
   have e1:P.1=R.1:=by
    rw [←hP,←hR]
    exact zfS [84] [78] stk b (by rw [hP];exact zwY hb)
   have e3:=zfS [84] [78] P.2.1 P.2.2 hb
   have e4:=zk0 [84] [78] P.2.1 P.2.2
   rw [←e2,←e1,←e3,←e4,hb]
   exact zuW _ _
theorem zpE(h:58≤x.Op):∀k:Int,k<58→(x.Op == k)=false:=fun k hk=>qf (by omega)
theorem zD9(h:zfF l L m mt loc stk b)(ho:x.Op=59):
  ∃p r,zg L m c mt loc stk b x=some p∧zj L c mt loc stk b x=some r∧zpl mt.Stack p r∧znC loc stk b p:=by
 have hq:=zpE (x:=x) (by omega)
 refine ⟨(loc,stk++[[73]],b),_,?_,?_,zfn _,zeP id h.shL h.shS (List.prefix_refl _) (by decide) fun _=>.inr zmG⟩
 ·rw [zo0 (by omega)]
  unfold zbS
  rw [hq 56 (by omega),hq 57 (by omega)]
  unfold za3
  rw [qf (show x.Op≠58 by omega),qt ho]
  simp only [cond_false,cond_true]
  rw [zfv h.shS.len]
  rfl
 ·rw [instr_plain (by omega) (by omega)]
  unfold zV
  rw [hq 1 (by omega),hq 2 (by omega),hq 3 (by omega),hq 4 (by omega),hq 5 (by omega),hq 6 (by omega),hq 7 (by omega),hq 46 (by omega),hq 47 (by omega),hq 48 (by omega),hq 56 (by omega),hq 57 (by omega),qf (show x.Op≠58 by omega),qt ho]
  simp only [cond_false,cond_true]
  rw [zfx h.shS.len]
  rfl
theorem zCb(h:zfF l L m mt loc stk b)(ho:x.Op=60∨x.Op=61):
  ∃p r,zg L m c mt loc stk b x=some p∧zj L c mt loc stk b x=some r∧zpl mt.Stack p r∧znC loc stk b p:=by
 have hq:=zpE (x:=x) (by omega)
 have h73:([73]:Tx).length≤25:=by decide
 refine ⟨(loc,(zah L [84] [[73]] stk b).1,(zah L [84] [[73]] stk b).2),(loc,(zah L [84] [[73]] stk b).1,(zah L [84] [[73]] stk b).2),?_,?_,zfV fun _=>?_,zfO (zbt _ _ _) h.shL h.shS (zdX _ _ _ _ _)⟩
 ·rw [zo0 (by omega)]
  unfold zbS
  rw [hq 56 (by omega),hq 57 (by omega)]
  unfold za3
  rw [qf (show x.Op≠58 by omega),qf (show x.Op≠59 by omega)]
  simp only [cond_false,cond_true]
  rw [zgh h.made h.map (sh1 h73) h.shS]
  rfl
 ·rw [instr_plain (by omega) (by omega)]
  unfold zV
  rw [hq 1 (by omega),hq 2 (by omega),hq 3 (by omega),hq 4 (by omega),hq 5 (by omega),hq 6 (by omega),hq 7 (by omega),hq 46 (by omega),hq 47 (by omega),hq 48 (by omega),hq 56 (by omega),hq 57 (by omega),qf (show x.Op≠58 by omega),qf (show x.Op≠59 by omega)]
  simp only [cond_false]
  have key:∀v,v=true→(zdM L c mt loc stk b v).bind (fun v=>some (v.1,v.2.1,v.2.2))=some (loc,(zah L [84] [[73]] stk b).1,(zah L [84] [[73]] stk b).2):=fun v hv=>by
   unfold zdM
   rw [hv,zeQ h.made (sh1 h73) h.shS,zfy [78] [84]]
   rfl
  rcases ho with ho |ho
  ·rw [qt ho]
   exact key _ rfl
  ·rw [qf (show x.Op≠60 by omega),qt ho]
   exact key _ rfl
 ·have:=zkA (L:=L) [84] [[73]] stk b
  have:=h.room
  omega
theorem zyi(h:zfF l L m mt loc stk b)(ho:x.Op=58):
  ∃p r,zg L m c mt loc stk b x=some p∧zj L c mt loc stk b x=some r∧zpl mt.Stack p r∧znC loc stk b p:=by
 have hq:=zpE (x:=x) (by omega)
 have ht:([84,104,114,111,119,110]:Tx).length≤25:=by decide
 obtain ⟨k1,k2⟩:=zen (b:=b) h.shS (e:=[78]) (by decide)
 refine ⟨(loc,(zah L [84] [[84,104,114,111,119,110]] stk b).1,(zah L [84] [[84,104,114,111,119,110]] stk b).2),(loc,(zah L [84] [[84,104,114,111,119,110]] stk b).1,(zah L [84] [[84,104,114,111,119,110]] stk b).2),?_,?_,zfV fun _=>?_,zfO (zbt _ _ _) h.shL h.shS (zdX _ _ _ _ _)⟩
 ·rw [zo0 (by omega)]
  unfold zbS
  rw [hq 56 (by omega),hq 57 (by omega)]
  unfold za3
  rw [qt ho]
  simp only [cond_false,cond_true]
  rw [zgh h.made h.map (sh1 ht) h.shS]
  rfl
 ·rw [instr_plain (by omega) (by omega)]
  unfold zV
  rw [hq 1 (by omega),hq 2 (by omega),hq 3 (by omega),hq 4 (by omega),hq 5 (by omega),hq 6 (by omega),hq 7 (by omega),hq 46 (by omega),hq 47 (by omega),hq 48 (by omega),hq 56 (by omega),hq 57 (by omega),qt ho]
  simp only [cond_false,cond_true]
  rw [zj8 h.shS.len]
  simp only [Option.bind_some]
  rw [zhP h.made k1 ht,zfy [84] [78]]
  rfl
 ·have:=zkA (L:=L) [84] [[84,104,114,111,119,110]] stk b
  have:=h.room
  omega
theorem zvK(h:46≤x.Op∧x.Op≤48):zg L m c mt loc stk b x=(zd8 L m c mt loc stk b x.Op).bind fun v=>some (loc,v.1,v.2):=by
 unfold zg
 rw [bf (by omega),qf (show x.Op≠13 by omega),bf (by omega),qf (show x.Op≠20 by omega),bf (by omega),bf (by omega),bf (by omega),bf (by omega),qf (show x.Op≠37 by omega),bf (by omega),bf (by omega),bt h]
 rfl
theorem zCd(h:zfF l L m mt loc stk b)(ho:x.Op=46∨x.Op=47):
  ∃p r,zg L m c mt loc stk b x=some p∧zj L c mt loc stk b x=some r∧zpl mt.Stack p r∧znC loc stk b p:=by
 have h73:([73]:Tx).length≤25:=by decide
 have hq:∀k:Int,k<46→(x.Op == k)=false:=fun k hk=>qf (by omega)
 rcases ho with ho |ho
 ·refine ⟨(loc,stk,b||!(mt.Ret == [86])),(loc,stk,b||!(mt.Ret == [86])),?_,?_,zfV fun _=>h.room,zfO (fun e=>by rw [e];rfl) h.shL h.shS (List.prefix_refl _)⟩
  ·rw [zvK (by omega)]
   unfold zd8
   rw [qt ho]
   rfl
  ·rw [instr_plain (by omega) (by omega)]
   unfold zV
   rw [hq 1 (by omega),hq 2 (by omega),hq 3 (by omega),hq 4 (by omega),hq 5 (by omega),hq 6 (by omega),hq 7 (by omega),qt ho]
   rfl
 ·refine ⟨(loc,(zah L [84] [[73]] stk (b||!(mt.Ret == [73]))).1,(zah L [84] [[73]] stk (b||!(mt.Ret == [73]))).2),(loc,(zah L [84] [[73]] stk b).1,(zah L [84] [[73]] stk b).2||!(mt.Ret == [73])),?_,?_,?_,zfO (fun e=>zbt _ _ _ (by rw [e];rfl)) h.shL h.shS (zdX _ _ _ _ _)⟩
  ·rw [zvK (by omega)]
   unfold zd8
   rw [qf (show x.Op≠46 by omega),qt ho]
   simp only [cond_false,cond_true]
   rw [zgh h.made h.map (sh1 h73) h.shS]
   rfl
  ·rw [instr_plain (by omega) (by omega)]
   unfold zV
   rw [hq 1 (by omega),hq 2 (by omega),hq 3 (by omega),hq 4 (by omega),hq 5 (by omega),hq 6 (by omega),hq 7 (by omega),qf (show x.Op≠46 by omega),qt ho]
   simp only [cond_false,cond_true]
   rw [zeQ h.made (sh1 h73) h.shS,zfy [78] [84]]
   rfl
  ·have hl:=zkA (L:=L) [84] [[73]] stk b
   have hr:=h.room
   cases mt.Ret == [73] with
   |true =>
    rw [show (b||!true)=b by simp]
    rw [show ((zah L [84] [[73]] stk b).2||!true)=(zah L [84] [[73]] stk b).2 by simp]
    exact zfV fun _=>by omega
   |false=>exact zgF (zbt _ _ _ (by simp)) (by simp)
end
section
variable {l L : List za} {m : List (Tx × Int)} {c : Tx} {mt : zb} {loc stk : List Tx} {b : Bool} {x : zp}
theorem zAk(h:zfF l L m mt loc stk b)(ho:x.Op=3)(hA:0≤x.A):
  ∃p r,zg L m c mt loc stk b x=some p∧zj L c mt loc stk b x=some r∧zpl mt.Stack p r∧znC loc stk b p:=by
 have P0:zg L m c mt loc stk b x=(cond (decide (((List.length loc):Int)≤x.A)) (zbG L m c mt loc stk b x true) ((idx loc x.A).bind fun v11=>zbG L m c mt loc stk b x (v11 == [84]))).bind fun v=>some (v.1,v.2.1,v.2.2):=by
  rw [zlC (by omega)]
  unfold zaY
  rw [qf (show x.Op≠1 by omega),qf (show x.Op≠2 by omega),qt ho]
  rfl
 have R0:zj L c mt loc stk b x=(cond (decide (x.A<(List.length loc:Int))) ((idx loc (if (IntKind.i64.wrap ((List.length loc:Int)-1))<x.A then (IntKind.i64.wrap ((List.length loc:Int)-1)) else x.A)).bind fun v10=>zbQ L c mt loc stk x (b||(!(!(v10 == [84]))))) (zbQ L c mt loc stk x (b||(!false)))).bind fun v=>some (v.1,v.2.1,v.2.2):=by
  rw [instr_plain (by omega) (by omega)]
  unfold zV
  rw [qf (show x.Op≠1 by omega),qf (show x.Op≠2 by omega),qt ho]
  rfl
 rw [P0,R0]
 by_cases hlt:x.A<(loc.length:Int)
 ·obtain ⟨k,hk⟩:∃k:Nat,x.A=(k:Int):=⟨x.A.toNat,by omega⟩
  have hkl:k<loc.length:=by omega
  have hw:IntKind.i64.wrap ((loc.length:Int)-1)=(loc.length:Int)-1:=zlX (by omega) (by have:=h.shL.1;omega)
  have hi:idx loc x.A=some loc[k]:=by rw [hk,zr,List.getElem?_eq_getElem hkl]
  rw [hw,if_neg (by omega),decide_eq_false (by omega),decide_eq_true hlt,hi]
  simp only [cond_false,cond_true,Option.bind_some]
  unfold zbG zbQ
  rw [hi]
  simp only [Option.bind_some]
  cases ht:loc[k] == [84] with
  |true =>
   refine ⟨_,_,rfl,?_,zgF (r:=(loc,stk,true)) rfl rfl,zfO (fun _=>rfl) h.shL h.shS (List.prefix_refl _)⟩
   simp
  |false =>
   rw [zfv h.shS.len]
   cases b with
   |true=>exact ⟨_,_,rfl,rfl,zgF rfl rfl,zeP id h.shL h.shS (List.prefix_refl _) (h.shL.2 _ (List.getElem_mem hkl)) fun e=>by cases e⟩
   |false =>
    simp only [Bool.not_false,Bool.not_true,Bool.or_false,cond_true]
    rw [zfx h.shS.len]
    exact ⟨_,_,rfl,rfl,zfn _,zeP id h.shL h.shS (List.prefix_refl _) (h.shL.2 _ (List.getElem_mem hkl)) fun _=>.inr ⟨h.shL.2 _ (List.getElem_mem hkl),(h.onL _ (List.getElem_mem hkl)).resolve_left fun e=>by rw [e] at ht;cases ht⟩⟩
 ·rw [decide_eq_true (by omega),decide_eq_false hlt]
  simp only [cond_false,cond_true]
  unfold zbG zbQ
  refine ⟨_,_,rfl,?_,zgF (r:=(loc,stk,true)) rfl rfl,zfO (fun _=>rfl) h.shL h.shS (List.prefix_refl _)⟩
  simp
theorem zyh(h:zfF l L m mt loc stk b)(ho:x.Op=4)(hA:0≤x.A):
  ∃p r,zg L m c mt loc stk b x=some p∧zj L c mt loc stk b x=some r∧zpl mt.Stack p r∧znC loc stk b p:=by
 have P0:zg L m c mt loc stk b x=((zak L m c mt loc stk b).bind fun v15=>cond (decide (((List.length loc):Int)≤x.A)) (some (loc,v15.2.1,true)) ((zoL loc).bind fun v16=>(idx v16 x.A).bind fun v17=>some ((List.set v16 (Int.toNat x.A) v15.1),v15.2.1,v15.2.2))).bind fun v=>some (v.1,v.2.1,v.2.2):=by
  rw [zlC (by omega)]
  unfold zaY
  rw [qf (show x.Op≠1 by omega),qf (show x.Op≠2 by omega),qf (show x.Op≠3 by omega),qt ho]
  rfl
 have R0:zj L c mt loc stk b x=((zap L c mt loc stk b).bind fun v14=>cond (!(v14.2.2||(!(decide (x.A<(List.length loc:Int)))))) ((zdO (zgG.mk loc v14.2.1)).bind fun v15=>(idx v15.1 x.A).bind fun v16=>some ((List.set v15.1 (Int.toNat x.A) v14.1),v15.2,(v14.2.2||(!(decide (x.A<(List.length loc:Int))))))) (some (loc,v14.2.1,(v14.2.2||(!(decide (x.A<(List.length loc:Int)))))))).bind fun v=>some (v.1,v.2.1,v.2.2):=by
  rw [instr_plain (by omega) (by omega)]
  unfold zV
  rw [qf (show x.Op≠1 by omega),qf (show x.Op≠2 by omega),qf (show x.Op≠3 by omega),qt ho]
  rfl
 obtain ⟨g1,g2⟩:=zen (b:=b) h.shS (e:=[84]) (by decide)
 obtain ⟨k1,k2⟩:=zen (b:=b) h.shS (e:=[78]) (by decide)
 rw [P0,R0,znW h.shS.len,zj8 h.shS.len]
 simp only [Option.bind_some]
 by_cases hlt:x.A<(loc.length:Int)
 ·obtain ⟨k,hk⟩:∃k:Nat,x.A=(k:Int):=⟨x.A.toNat,by omega⟩
  have hkl:k<loc.length:=by omega
  have hi:idx loc x.A=some loc[k]:=by rw [hk,zr,List.getElem?_eq_getElem hkl]
  rw [decide_eq_false (by omega),decide_eq_true hlt,zsR h.shL.len,zyX h.shL.len k2.len]
  simp only [cond_false,Option.bind_some,Bool.not_true,Bool.or_false]
  rw [hi]
  have e2:=zk0 [84] [78] stk b
  cases hb:(zbM [78] stk b).2.2 with
  |true=>exact ⟨_,_,rfl,rfl,zgF (by show (zbM [84] stk b).2.2=true;rw [e2];exact hb) rfl,zsq zhr h.shL h.shS (zhs _ _ _) g1 zmY⟩
  |false =>
   have e1:=zfS [78] [84] stk b hb
   refine ⟨_,_,rfl,rfl,?_,zsq zhr h.shL h.shS (zhs _ _ _) g1 zmY⟩
   rw [e1,e2,hb]
   refine zfV fun _=>?_
   have:=zrl [78] stk b
   have:=h.room
   omega
 ·rw [decide_eq_true (by omega),decide_eq_false hlt]
  simp only [cond_true,Bool.not_false,Bool.or_true,Bool.not_true,cond_false]
  exact ⟨_,_,rfl,rfl,zgF rfl rfl,zfO (fun _=>rfl) h.shL h.shS (zhs _ _ _)⟩
theorem ztI{t:Tx}(ht:zfz t=true):zsB L t=thN L t:=by
 unfold zsB
 have e1:(t == [78])=false:=beq_eq_false_iff_ne.2 fun e=>by rw [e,zDL] at ht;cases ht
 have e2:(t == [84])=false:=beq_eq_false_iff_ne.2 fun e=>by rw [e,zDM] at ht;cases ht
 rw [e1,e2];rfl
theorem zAi(h:zfF l L m mt loc stk b)(ho:x.Op=56∨x.Op=57)(hC:zfz x.C=true)(hl:x.C.length≤25):
  ∃p r,zg L m c mt loc stk b x=some p∧zj L c mt loc stk b x=some r∧zpl mt.Stack p r∧znC loc stk b p:=by
 have hq:∀k:Int,k<56→(x.Op == k)=false:=fun k hk=>qf (by omega)
 obtain ⟨g1,g2⟩:=ztE (b:=b) h.shS (e:=[84]) (by decide)
 have e2:=(zpc (b:=b) h.on).1
 have k2:ShL (zoy stk b).2.1:=by rw [e2];exact g2
 rcases ho with ho |ho
 ·refine ⟨(loc,(zhO [84] stk b).2.1++[x.C],(zhO [84] stk b).2.2||!thN L x.C),_,?_,?_,zfn _,zeP (fun e=>by rw [znx e];rfl) h.shL h.shS (zlN _ _ _) hl fun _=>.inr (zxG hC hl)⟩
  ·rw [zo0 (by omega)]
   unfold zbS
   rw [qt ho]
   unfold za3
   simp only [cond_true]
   rw [zsu h.shS]
   simp only [Option.bind_some]
   rw [zoD h.made h.map hl,ztI hC]
   simp only [Option.bind_some]
   rw [qt ho]
   simp only [cond_true]
   rw [zfv g2.len]
   rfl
  ·rw [instr_plain (by omega) (by omega)]
   unfold zV
   rw [hq 1 (by omega),hq 2 (by omega),hq 3 (by omega),hq 4 (by omega),hq 5 (by omega),hq 6 (by omega),hq 7 (by omega),hq 46 (by omega),hq 47 (by omega),hq 48 (by omega),qt ho]
   simp only [cond_false,cond_true]
   rw [zoz h.shS]
   simp only [Option.bind_some]
   rw [zb5 h.made (by omega)]
   simp only [Option.bind_some]
   rw [zfx k2.len,e2]
   rfl
 ·refine ⟨(loc,(zhO [84] stk b).2.1++[[73]],(zhO [84] stk b).2.2||!thN L x.C),_,?_,?_,zfn _,zeP (fun e=>by rw [znx e];rfl) h.shL h.shS (zlN _ _ _) (by decide) fun _=>.inr zmG⟩
  ·rw [zo0 (by omega)]
   unfold zbS
   rw [qf (show x.Op≠56 by omega),qt ho]
   unfold za3
   simp only [cond_true,cond_false]
   rw [zsu h.shS]
   simp only [Option.bind_some]
   rw [zoD h.made h.map hl,ztI hC]
   simp only [Option.bind_some]
   rw [qf (show x.Op≠56 by omega)]
   simp only [cond_false]
   rw [zfv g2.len]
   rfl
  ·rw [instr_plain (by omega) (by omega)]
   unfold zV
   rw [hq 1 (by omega),hq 2 (by omega),hq 3 (by omega),hq 4 (by omega),hq 5 (by omega),hq 6 (by omega),hq 7 (by omega),hq 46 (by omega),hq 47 (by omega),hq 48 (by omega),qf (show x.Op≠56 by omega),qt ho]
   simp only [cond_false,cond_true]
   rw [zoz h.shS]
   simp only [Option.bind_some]
   rw [zb5 h.made (by omega)]
   simp only [Option.bind_some]
   rw [zfx k2.len,e2]
   rfl
end
section
variable {l L : List za} {m : List (Tx × Int)} {c : Tx} {mt : zb} {loc stk : List Tx} {b : Bool} {x : zp}
theorem zDu{t:Tx}(h1:(t == [73])=false)(h2:zfz t=true):znS L [73] t=false:=by
 have e2:(t == [84])=false:=beq_eq_false_iff_ne.2 fun e=>by rw [e,zDM] at h2;cases h2
 have e3:(([73]:Tx) == t)=false:=by rw [Bool.eq_false_iff] at h1 ⊢;intro h;exact h1 (by rw [beq_iff_eq] at h ⊢;exact h.symm)
 rw [zy9,e2]
 simp only [cond_false]
 rw [show (([73]:Tx) == [78])=false from by decide,e3]
 simp
theorem zDN:zfz [86]=false:=by decide +kernel
theorem zAe(h:zfF l L m mt loc stk b)(ho:x.Op=48)(hr:zsw mt.Ret=true)(hl:mt.Ret.length≤25):
  ∃p r,zg L m c mt loc stk b x=some p∧zj L c mt loc stk b x=some r∧zpl mt.Stack p r∧znC loc stk b p:=by
 have hq:∀k:Int,k<48→(x.Op == k)=false:=fun k hk=>qf (by omega)
 obtain ⟨k1,k2⟩:=zen (b:=b) h.shS (e:=[78]) (by decide)
 have P0:zg L m c mt loc stk b x=some (loc,(zah L [84] [mt.Ret] stk (b||!zqg mt.Ret)).1,(zah L [84] [mt.Ret] stk (b||!zqg mt.Ret)).2):=by
  rw [zvK (by omega)]
  unfold zd8
  rw [hq 46 (by omega),hq 47 (by omega),zly (zvZ hl)]
  simp only [cond_false,Option.bind_some]
  rw [zgh h.made h.map (sh1 hl) h.shS]
  rfl
 have R0:zj L c mt loc stk b x=some (loc,(zoy stk b).2.1,(zoy stk b).2.2||!(!(mt.Ret == [86])&&(!(mt.Ret == [73])&&znS L (zoy stk b).1 mt.Ret))):=by
  rw [instr_plain (by omega) (by omega)]
  unfold zV
  rw [hq 1 (by omega),hq 2 (by omega),hq 3 (by omega),hq 4 (by omega),hq 5 (by omega),hq 6 (by omega),hq 7 (by omega),hq 46 (by omega),hq 47 (by omega),qt ho]
  simp only [cond_false,cond_true]
  rw [zoz h.shS]
  simp only [Option.bind_some]
  rw [zhP h.made (show (zoy stk b).1.length≤25 from k1) hl]
  cases mt.Ret == [86] <;> cases mt.Ret == [73] <;> rfl
 refine ⟨_,_,P0,R0,?_,zfO (fun e=>zbt _ _ _ (by rw [e];rfl)) h.shL h.shS (zdX _ _ _ _ _)⟩
 cases h1:mt.Ret == [86] with
 |true =>
  have e:mt.Ret=[86]:=by simpa using h1
  have:zqg mt.Ret=false:=by unfold zqg;rw [e,zDN];rfl
  rw [this]
  exact zgF (zbt _ _ _ (by simp)) (by simp)
 |false =>
  cases h2:mt.Ret == [73] with
  |true =>
   have:zqg mt.Ret=false:=by unfold zqg;rw [h2];rfl
   rw [this]
   exact zgF (zbt _ _ _ (by simp)) (by simp)
  |false =>
   have hm:zfz mt.Ret=true:=by unfold zsw at hr;rw [h1] at hr;simpa using hr
   have:zqg mt.Ret=true:=by unfold zqg;rw [h2,hm];rfl
   rw [this]
   simp only [Bool.not_true,Bool.or_false,Bool.not_false,Bool.true_and]
   have key:((zoy stk b).2.1,(zoy stk b).2.2||!znS L (zoy stk b).1 mt.Ret)=zah L [84] [mt.Ret] stk b:=by
    rw [zfy [84] [78]]
    show ((zbM [78] stk b).2.1,((zbM [78] stk b).2.2||!(!((zbM [78] stk b).1 == [73])))||!znS L (zbM [78] stk b).1 mt.Ret)=((zbM [78] stk b).2.1,(zbM [78] stk b).2.2||!znS L (zbM [78] stk b).1 mt.Ret)
    cases h3:(zbM [78] stk b).1 == [73] with
    |true =>
     have e:(zbM [78] stk b).1=[73]:=by simpa using h3
     rw [e,zDu h2 hm];simp
    |false=>simp
   rw [←key]
   refine zfV fun _=>?_
   have:=zrl [78] stk b
   have:=h.room
   show (((zbM [78] stk b).2.1).length:Int)≤mt.Stack
   omega
end
theorem zAC(t:Tx):t.length≤(zgi t).length+1:=by
 cases t with
 |nil=>exact Nat.zero_le _
 |cons x r=>rw [zg9];split <;> simp
theorem zoK{t:Tx}(h:zbU t=true):t.length≤8:=by
 unfold zbU zpN at h
 simp only [Bool.and_eq_true,decide_eq_true_eq] at h
 have:=h.1.1.2.2
 omega
theorem zCH{t:Tx}(h:zfz t=true):t.length≤10:=by
 have h1:=zAC t
 have h2:=zAC (zgi t)
 unfold zfz at h
 rw [Bool.or_eq_true] at h
 rcases h with h |h
 ·have e:zgi (zgi t)=[73]:=by simpa using h
  rw [e] at h2
  simp at h2
  omega
 ·have:=zoK h
  omega
theorem zl5{t:Tx}(h:zfz t=true):t.length≤25:=by have:=zCH h;omega
theorem zrx{t:Tx}(h:zsw t=true):t.length≤25:=by
 unfold zsw at h
 rw [Bool.or_eq_true] at h
 rcases h with h |h
 ·have e:t=[86]:=by simpa using h
  rw [e];decide
 ·exact zl5 h
theorem zB3{t:Tx}(h:zoB t=true):t.length≤25∧(t=[84]∨onS t):=by
 unfold zoB at h
 simp only [Bool.or_eq_true,beq_iff_eq] at h
 rcases h with ((h |h) |h) |h
 ·subst h;exact ⟨zmG.1,.inr zmG.2⟩
 ·subst h;exact ⟨zBg.1,.inr zBg.2⟩
 ·subst h;exact ⟨by decide,.inl rfl⟩
 ·unfold zqg at h
  rw [Bool.and_eq_true] at h
  exact ⟨zl5 h.2,.inr (.inr h.2)⟩
theorem zCB{α:Type}{bad:List α→α→Bool}:∀{l pre:List α},gB bad pre l=false→∀x∈l,∃q,bad q x=false
 | [],_,_,x,hx=>by cases hx
 |y ::r,pre,h,x,hx=>by
  unfold gB at h
  rw [Bool.or_eq_false_iff] at h
  rcases List.mem_cons.1 hx with e |e
  ·rw [e];exact ⟨pre,h.1⟩
  ·exact zCB h.2 x e
structure zyr(m:zb)(x:zS):Prop where
 locs:(x.Locals.length:Int)=m.Locals
 stks:(x.Stack.length:Int)≤m.Stack
 locT:∀t∈x.Locals,zoB t=true
 stkT:∀t∈x.Stack,zoB t=true∧t≠[84]
structure zmv(m:zb):Prop where
 params:∀s∈m.Params,zfz s=true
 npar:m.Params.length≤6
 ret:zsw m.Ret=true
 locs:zao m≤m.Locals∧m.Locals≤16
 stack:0≤m.Stack∧m.Stack≤16
 code:1≤m.Code.length∧m.Code.length≤100
 last:∃y,m.Code.getLast?=some y∧zjP y.Op=true
 ins:∀x∈m.Code,zjg x=true
 traps:∀y∈m.Traps,y.C=[]∨zbU y.C=true
 ntraps:m.Traps.length≤6
 maps:∀x∈m.Maps,zyr m x
 nmaps:m.Maps.length≤100
theorem btw{n a b:Int}(h:zs n a b=true):a≤n∧n≤b:=by
 unfold zs at h
 simpa using h
theorem zuX{l:List Tx}(h:ziZ l=true):∀t∈l,zoB t=true:=fun t ht=>by
 unfold ziZ at h
 rw [Bool.not_eq_true',List.any_eq_false] at h
 simpa using h t ht
theorem ztg{m:zb}(h:zfu m=true):(∀s∈m.Params,zfz s=true)∧m.Params.length≤6∧zsw m.Ret=true:=by
 unfold zfu at h
 simp only [Bool.and_eq_true,Bool.not_eq_true',Bool.or_eq_false_iff,decide_eq_false_iff_not] at h
 obtain ⟨⟨⟨⟨h1,h2⟩,h3⟩,h4⟩,h5⟩:=h
 refine ⟨fun s hs=>?_,by omega,h4⟩
 unfold zu2 at h3
 rw [Bool.not_eq_true',List.any_eq_false] at h3
 simpa using h3 s hs
theorem zBB{m:zb}(h:zfu m=true)(ha:m.Abstract=true):m.Static=false:=by
 unfold zfu at h
 rw [ha] at h
 simp only [Bool.and_eq_true,cond_true] at h
 obtain ⟨_,h5⟩:=h
 unfold zf2 at h5
 simp only [Bool.and_eq_true,Bool.not_eq_true'] at h5
 first
  |exact h5.1
  |exact h5.1.1
  |exact h5.1.1.1
  |exact h5.1.1.1.1
theorem zEI{m:zb}(h:zfu m=true)(ha:m.Abstract=false):zmv m:=by
 obtain ⟨p1,p2,p3⟩:=ztg h
 unfold zfu at h
 rw [ha] at h
 simp only [Bool.and_eq_true,cond_false] at h
 obtain ⟨_,_,hl,hs,⟨hi,ht⟩,hm⟩:=h
 have hl:=btw hl
 have hs:=btw hs
 unfold instrN at hi
 simp only [Bool.and_eq_true,Bool.not_eq_true'] at hi
 obtain ⟨i1,i2,i3⟩:=hi
 have i1:=btw i1
 unfold zph at ht
 simp only [Bool.and_eq_true,Bool.not_eq_true',decide_eq_true_eq] at ht
 obtain ⟨t1,t2⟩:=ht
 unfold ztd at hm
 simp only [Bool.and_eq_true,Bool.not_eq_true',decide_eq_true_eq] at hm
 obtain ⟨m1,m2⟩:=hm
 refine ⟨p1,p2,p3,hl,hs,by omega,?_,fun x hx=>?_,fun y hy=>?_,by omega,fun x hx=>?_,by omega⟩
 ·cases hg:m.Code.getLast? with
  |none=>rw [hg] at i2;cases i2
  |some y=>rw [hg] at i2;exact ⟨y,rfl,i2⟩
 ·have:=(List.any_eq_false.1 i3) x hx
  unfold zDH at this
  simp only [Bool.or_eq_true,Bool.not_eq_true',not_or] at this
  simpa using this.1
 ·have:=(List.any_eq_false.1 t1) y hy
  unfold zsb at this
  simp only [Bool.or_eq_true,not_or,Bool.and_eq_true,Bool.not_eq_true',not_and,beq_eq_false_iff_ne] at this
  by_cases e:y.C=[]
  ·exact .inl e
  ·right
   have:=this.2 e
   simpa using this
 ·obtain ⟨q,hq⟩:=zCB m1 x hx
  unfold zCF at hq
  simp only [Bool.or_eq_false_iff,Bool.not_eq_false',beq_iff_eq,decide_eq_false_iff_not] at hq
  obtain ⟨_,⟨h1,h2⟩,⟨h3,h4⟩,h5⟩:=hq
  refine ⟨h1,by omega,zuX h3,fun t ht=>⟨zuX h4 t ht,fun e=>?_⟩⟩
  subst e
  have:=(List.any_eq_false.1 h5) [84] ht
  simp at this
theorem zwK{l L:List za}(h:zcg l L){x:za}(hx:x∈L){f:zb}(hf:f∈x.Methods):zfu f=true:=by
 rw [h.app] at hx
 rcases List.mem_append.1 hx with e |e
 ·have hg:giv.all (fun c=>decide (c.Methods.length=0))=true:=by decide +kernel
  have:=of_decide_eq_true (List.all_eq_true.1 hg x e)
  rw [List.eq_nil_of_length_eq_zero this] at hf;cases hf
 ·have:=h.may x e
  unfold zrO at this
  simp only [Bool.and_eq_true,Bool.not_eq_true',decide_eq_true_eq] at this
  have h2:=zsE this.2.2.1 f hf
  rw [Bool.and_eq_true] at h2
  exact h2.2
theorem zBc{l L:List za}(h:zcg l L){x:za}(hx:x∈L){f:zk}(hf:f∈x.Fields):zfz f.Type_=true:=by
 rw [h.app] at hx
 rcases List.mem_append.1 hx with e |e
 ·have hg:giv.all (fun c=>decide (c.Fields.length=0))=true:=by decide +kernel
  have:=of_decide_eq_true (List.all_eq_true.1 hg x e)
  rw [List.eq_nil_of_length_eq_zero this] at hf;cases hf
 ·have:=h.may x e
  unfold zrO at this
  simp only [Bool.and_eq_true,Bool.not_eq_true',decide_eq_true_eq] at this
  have h2:=zsE this.2.1.2.1 f hf
  unfold zl2 at h2
  simp only [Bool.and_eq_true] at h2
  exact h2.2
theorem zBt{x:zp}(h:zjg x=true):x.C.length≤10:=by
 unfold zjg at h
 simp only [Bool.and_eq_true] at h
 have:=h.1.2
 unfold zte at this
 cases h1:zhq x.Op <;> rw [h1] at this
 ·cases h2:zBL x.Op <;> rw [h2] at this
  ·have e:x.C=[]:=by simpa using this
   rw [e];decide
  ·have:=zoK (show zbU x.C=true from this);omega
 ·have:zqg x.C=true:=this
  unfold zqg at this
  rw [Bool.and_eq_true] at this
  exact zCH this.2
def zwI(mt:zb)(n:Int):Option zS:=mt.Maps.find? (fun x=>x.At == n)
def zxr(L:List za)(a b:List Tx):Bool:=((a.length:Int) == (b.length:Int))&&!(List.range a.length).any (fun i=>!znS L ((a[i]?).getD []) ((b[i]?).getD []))
def zoO(L:List za)(mt:zb)(loc stk:List Tx)(n:Int):Bool:=match zwI mt n with |some x=>zxr L loc x.Locals&&zxr L stk x.Stack |none=>false
theorem zDI{α:Type}(p:α→Bool)(l:List α):decide (ixF p 0 l<0)=!(l.find? p).isSome:=by
 rw [←zjn]
 by_cases h:ixF p 0 l<0
 ·rw [decide_eq_true h,decide_eq_false (by omega)];rfl
 ·rw [decide_eq_false h,decide_eq_true (by omega)];rfl
section
variable {l L : List za} {m : List (Tx × Int)} {c : Tx} {mt : zb} {loc stk : List Tx} {b : Bool}
theorem zv7{body:Int→Option (Sum Int (Sum Unit Bool))}{a b:List Tx}(ha:a.length≤1000)(hn:a.length=b.length)
  (hb:∀(i:Nat) x y,a[i]?=some x→b[i]?=some y→body (i:Int)=cond (!znS L x y) (some (.inr (.inr false))) (some (.inl (IntKind.i64.wrap ((i:Int)+1)))))
  (he:body (a.length:Int)=some (.inr (.inl ()))):((zl body 0).bind fun o=>zD o (fun _=>some true) some)=some (zxr L a b):=by
 rw [zpy (n:=a.length) (g:=fun i=>cond (!znS L ((a[i]?).getD []) ((b[i]?).getD [])) (some false) none) (u:=()) (fun i hi=>by
  have h1:a[i]?=some a[i]:=List.getElem?_eq_getElem hi
  have h2:b[i]?=some (b[i]'(by omega)):=List.getElem?_eq_getElem (by omega)
  rw [hb i _ _ h1 h2,h1,h2,zN (by omega)]
  simp only [Option.getD_some]
  cases znS L a[i] (b[i]'(by omega)) <;> rfl) he,zY]
 unfold zxr
 rw [hn,beq_self_eq_true,Bool.true_and]
 cases (List.range b.length).any (fun i=>!znS L ((a[i]?).getD []) ((b[i]?).getD [])) <;> rfl
theorem zyE{a b:List Tx}(h:a.length≠b.length):zxr L a b=false:=by
 unfold zxr
 rw [beq_eq_false_iff_ne.2 (show (a.length:Int)≠(b.length:Int) by omega)];rfl
theorem zyy(h:zcg l L)(hm:zbr L m){a b:List Tx}(ha:ShL a)(hb2:∀t∈b,t.length≤25):zi1 L m a b=some (zxr L a b):=by
 unfold zi1
 by_cases hn:a.length=b.length
 ·rw [show ((a.length:Int) == (b.length:Int))=true by rw [hn];exact beq_self_eq_true _]
  exact zv7 (body:=fun z=>zfW L m a b z) ha.len hn (fun i x y hx hy=>by
   show zfW L m a b (i:Int)=_
   have:=ha.2 x (List.mem_of_getElem? hx)
   have:=hb2 y (List.mem_of_getElem? hy)
   unfold zfW
   rw [zd9 hx,zr,zr,hx,hy]
   simp only [cond_true,Option.bind_some]
   rw [zqk h hm (by omega) (by omega)];rfl) (by
   show zfW L m a b (a.length:Int)=_
   unfold zfW
   rw [zeD];rfl)
 ·rw [beq_eq_false_iff_ne.2 (show (a.length:Int)≠(b.length:Int) by omega),zyE hn];rfl
theorem zmv.lenM(hk:zmv mt):zkB mt.Maps:=by have:=hk.nmaps;unfold zkB;omega
theorem zrb(hk:zmv mt){n:Int}{x:zS}(h:zwI mt n=some x):zyr mt x:=hk.maps x (List.mem_of_find?_eq_some h)
theorem zyr.loc25{x:zS}(h:zyr mt x):∀t∈x.Locals,t.length≤25:=fun t ht=>(zB3 (h.locT t ht)).1
theorem zyr.stk25{x:zS}(h:zyr mt x):∀t∈x.Stack,t.length≤25:=fun t ht=>(zB3 (h.stkT t ht).1).1
theorem zvo(hk:zmv mt){n:Int}:zdx L m c mt loc stk b n=some (zwI mt n):=by
 unfold zdx zbN
 rw [show ((zl (fun z=>zbp mt.Maps n z) 0).bind fun o=>zD o (fun b=>zeM) some)=_ from zaD (p:=fun x:zS=>x.At == n) hk.lenM
  (fun i x hx=>by
   unfold zbp zfs
   rw [zd9 hx,zr,hx];rfl) (by unfold zbp;rw [zeD];rfl)]
 simp only [Option.bind_some]
 rw [zDI,zkG]
 unfold zwI
 cases mt.Maps.find? (fun x=>x.At == n) <;> rfl
theorem zwy(h:zcg l L)(hm:zbr L m){x:zS}(hx:zyr mt x)(hl:ShL loc)(hs:ShL stk):zfr L m x loc stk=some (zxr L loc x.Locals&&zxr L stk x.Stack):=by
 unfold zfr
 rw [zyy h hm hl hx.loc25,zyy h hm hs hx.stk25]
 cases zxr L loc x.Locals <;> rfl
theorem zCD(h:zcg l L)(hm:zbr L m)(hk:zmv mt)(hl:ShL loc)(hs:ShL stk){n:Int}:zdy L m c mt loc stk b n=some (b||!zoO L mt loc stk n):=by
 unfold zdy zoO
 rw [zvo hk]
 simp only [Option.bind_some]
 cases hf:zwI mt n with
 |none=>rfl
 |some x =>
  show (zfr L m x loc stk).bind _=_
  rw [zwy h hm (zrb hk hf) hl hs];rfl
theorem zDB(h:zcg l L)(hm:zbr L m)(hk:zmv mt)(hl:ShL loc){s:List Tx}(hs:ShL s){n:Int}:zeR L m c mt loc stk b n s=some (b||!zoO L mt loc s n):=by
 unfold zeR zoO
 rw [zvo hk]
 simp only [Option.bind_some]
 cases hf:zwI mt n with
 |none=>rfl
 |some x =>
  show (zfr L m x loc s).bind _=_
  rw [zwy h hm (zrb hk hf) hl hs];rfl
end
section
variable {l L : List za} {m : List (Tx × Int)} {c : Tx} {mt : zb} {loc stk : List Tx} {b : Bool} {x : zp}
def znE(L:List za)(C M:Tx):FR:=((zeO L C).findSome? (zAM L M)).getD ([],zF,false)
theorem zzb(h:zcg l L)(C M:Tx):(znE L C M).2.1.Type_.length≤25∧((znE L C M).2.2=true→zfz (znE L C M).2.1.Type_=true):=by
 unfold znE
 cases hq:(zeO L C).findSome? (zAM L M) with
 |none=>exact ⟨Nat.zero_le _,fun e=>by cases e⟩
 |some r =>
  obtain ⟨s,hs,e⟩:=List.exists_of_findSome?_eq_some hq
  unfold zAM at e
  cases hc:cl L s with
  |none=>rw [hc] at e;cases e
  |some y =>
   rw [hc] at e
   simp only at e
   cases hf:y.Fields.find? (fun y=>y.Name == M) with
   |none=>rw [hf] at e;cases e
   |some f =>
    rw [hf] at e
    cases e
    have:=zBc h (zbs hc).1 (List.mem_of_find?_eq_some hf)
    exact ⟨zl5 this,fun _=>this⟩
structure zFo(r:MR):Prop where
 params:∀s∈r.2.1.Params,zfz s=true
 npar:r.2.1.Params.length≤6
 ret25:r.2.1.Ret.length≤25
 ret:r.2.2=true→zsw r.2.1.Ret=true
theorem zzz:zFo ([],zM,false):=⟨fun s hs=>(List.not_mem_nil (show s∈([]:List Tx) from hs)).elim,Nat.zero_le _,Nat.zero_le _,fun e=>by cases e⟩
theorem zzx{may:zb→Bool}{n s:Tx}{r:MR}(e:znV L may n s=some r):∃y f,cl L s=some y∧f∈y.Methods∧r=(s,f,true):=by
 unfold znV at e
 cases hc:cl L s with
 |none=>rw [hc] at e;cases e
 |some y =>
  rw [hc] at e
  simp only at e
  cases hf:y.Methods.find? (fun y=>y.Name == n) with
  |none=>rw [hf] at e;cases e
  |some f =>
   rw [hf] at e
   simp only at e
   cases hm:may f with
   |false=>rw [hm] at e;cases e
   |true =>
    rw [hm] at e
    cases e
    exact ⟨y,f,rfl,List.mem_of_find?_eq_some hf,rfl⟩
theorem zzy(h:zcg l L)(may:zb→Bool)(n:Tx)(T:List Tx):zFo ((T.findSome? (znV L may n)).getD ([],zM,false)):=by
 cases hq:T.findSome? (znV L may n) with
 |none=>exact zzz
 |some r =>
  obtain ⟨s,hs,e⟩:=List.exists_of_findSome?_eq_some hq
  obtain ⟨y,f,hc,hf,rfl⟩:=zzx e
  obtain ⟨p1,p2,p3⟩:=ztg (zwK h (zbs hc).1 hf)
  exact ⟨p1,p2,zrx p3,fun _=>p3⟩
theorem zDT(h:zcg l L)(C n:Tx):zFo (zps L C n)∧((zps L C n).2.2=true→(zps L C n).2.1.Static=false):=by
 unfold zps
 cases hF:isF L C with
 |false=>exact ⟨zzz,fun e=>by cases e⟩
 |true =>
  refine ⟨zzy h _ _ _,?_⟩
  simp only [cond_true]
  cases hq:(C ::zbZ L C).findSome? (znV L zft n) with
  |none=>exact fun e=>by cases e
  |some r =>
   obtain ⟨s,hs,e⟩:=List.exists_of_findSome?_eq_some hq
   obtain ⟨y,f,hc,hf,rfl⟩:=zzx e
   intro _
   have hI:isF L s=true:=by
    rcases List.mem_cons.1 hs with e |e
    ·rw [e];exact hF
    ·exact (zub.1 e).2
   have hy:y.Interface=true:=by unfold isF at hI;rw [hc] at hI;exact hI
   have ha:=zn5 h (zbs hc).1 hf
   exact zBB (zwK h (zbs hc).1 hf) (ha.trans hy)
theorem zzG(ho:x.Op=20):zg L m c mt loc stk b x=some (loc,stk,b):=by
 unfold zg
 rw [bf (by omega),qf (show x.Op≠13 by omega),bf (by omega),qt ho]
 rfl
theorem zzH(h:zfF l L m mt loc stk b)(ho:21≤x.Op∧x.Op≤26):zg L m c mt loc stk b x=some (loc,zah L [84] [[73]] stk b):=by
 unfold zg
 rw [bf (by omega),qf (show x.Op≠13 by omega),bf (by omega),qf (show x.Op≠20 by omega),bt ho]
 simp only [cond_false,cond_true]
 rw [zgh h.made h.map (sh1 zmG.1) h.shS]
 rfl
theorem zzI(h:zfF l L m mt loc stk b)(ho:27≤x.Op∧x.Op≤32):zg L m c mt loc stk b x=some (loc,zah L [84] [[73],[73]] stk b):=by
 unfold zg
 rw [bf (by omega),qf (show x.Op≠13 by omega),bf (by omega),qf (show x.Op≠20 by omega),bf (by omega),bt ho]
 simp only [cond_false,cond_true]
 rw [zgh h.made h.map (sh2 zmG.1 zmG.1) h.shS]
 rfl
theorem zzJ(h:zfF l L m mt loc stk b)(ho:33≤x.Op∧x.Op≤34):zg L m c mt loc stk b x=some (loc,(zhO [84] stk b).2):=by
 unfold zg
 rw [bf (by omega),qf (show x.Op≠13 by omega),bf (by omega),qf (show x.Op≠20 by omega),bf (by omega),bf (by omega),bt ho]
 simp only [cond_false,cond_true]
 rw [zsu h.shS]
 rfl
theorem zzK(h:zfF l L m mt loc stk b)(ho:35≤x.Op∧x.Op≤36):zg L m c mt loc stk b x=some (loc,(zhO [84] (zhO [84] stk b).2.1 (zhO [84] stk b).2.2).2):=by
 unfold zg
 rw [bf (by omega),qf (show x.Op≠13 by omega),bf (by omega),qf (show x.Op≠20 by omega),bf (by omega),bf (by omega),bf (by omega),bt ho]
 simp only [cond_false,cond_true]
 rw [zsu h.shS]
 simp only [Option.bind_some]
 rw [zsu (ztE h.shS (by decide)).2]
 rfl
theorem zuz(ho:37≤x.Op∧x.Op≤41):zg L m c mt loc stk b x=(zek L m c mt loc stk b x).bind fun v=>some (loc,v.1,v.2):=by
 have e:((x.Op == (37:Int))||zaA x.Op 38 41)=true:=by
  by_cases h:x.Op=37
  ·rw [qt h];rfl
  ·rw [bt (show (38:Int)≤x.Op∧x.Op≤41 by omega),Bool.or_true]
 unfold zg
 rw [bf (by omega),qf (show x.Op≠13 by omega),bf (by omega),qf (show x.Op≠20 by omega),bf (by omega),bf (by omega),bf (by omega),bf (by omega),e]
 rfl
theorem zBI(ho:42≤x.Op∧x.Op≤45):zg L m c mt loc stk b x=(zdw L m c mt loc stk b x).bind fun v=>some (loc,v.1,v.2):=by
 unfold zg
 rw [bf (by omega),qf (show x.Op≠13 by omega),bf (by omega),qf (show x.Op≠20 by omega),bf (by omega),bf (by omega),bf (by omega),bf (by omega),qf (show x.Op≠37 by omega),bf (by omega),bt ho]
 rfl
theorem zis(ho:49≤x.Op∧x.Op≤55):zg L m c mt loc stk b x=(zaB L m c mt loc stk b x).bind fun v=>some (loc,v.1,v.2):=by
 unfold zg
 rw [bf (by omega),qf (show x.Op≠13 by omega),bf (by omega),qf (show x.Op≠20 by omega),bf (by omega),bf (by omega),bf (by omega),bf (by omega),qf (show x.Op≠37 by omega),bf (by omega),bf (by omega),bf (by omega),bt ho]
 rfl
end
theorem znk{α R:Type}{body:Bool×Int→Option (Sum (Bool×Int) (Sum Bool R))}{l:List α}{p:α→Bool}(hl:l.length≤1000000)
  (hb:∀(i:Nat) x (b:Bool),l[i]?=some x→body (b,(i:Int))=some (.inl (b||p x,IntKind.i64.wrap ((i:Int)+1))))
  (he:∀b:Bool,body (b,(l.length:Int))=some (.inr (.inl b))) (b0:Bool):zl body (b0,0)=some (.inl (b0||l.any p)):=by
 have key:∀(r pre:List α) (b:Bool),l=pre++r→zl body (b,(pre.length:Int))=some (.inl (b||r.any p)):=by
  intro r
  induction r with
  |nil =>
   intro pre b h
   have e:l=pre:=by rw [h,List.append_nil]
   subst e
   rw [zI,he]
   simp
  |cons x r ih =>
   intro pre b h
   have hlen:l.length=pre.length+(r.length+1):=by rw [h];simp
   have hx:l[pre.length]?=some x:=by rw [h];simp
   rw [zI,hb _ x b hx,zN (by omega)]
   have:=ih (pre++[x]) (b||p x) (by rw [h];simp)
   rw [show (pre++[x]).length=pre.length+1 by simp] at this
   simp only [Option.bind_some,Sum.elim_inl]
   rw [this,List.any_cons,Bool.or_assoc]
 exact key l [] b0 rfl
def zha(L:List za)(mt:zb)(loc stk:List Tx)(n:Int)(g:Bool):List Tx×List Tx×Bool:=
 match zwI mt n with |none=>(loc,stk,!g) |some x=>(x.Locals,x.Stack,g&&!zoO L mt loc stk n)
def zrH:Tx:=[84,104,114,111,119,110]
def zsa(t:zR):Tx:=cond (t.C == []) zrH t.C
def zrK(L:List za)(mt:zb)(loc:List Tx)(n:Int)(t:zR):Bool:=
 !zv0 L (zsa t) zrH||((decide (t.From≤n)&&decide (n<t.To))&&!zoO L mt loc [zsa t] t.At)
section
variable {l L : List za} {m : List (Tx × Int)} {c : Tx} {mt : zb} {loc stk : List Tx} {b : Bool}
theorem zyr.shl{x:zS}(hk:zmv mt)(h:zyr mt x):ShL x.Locals:=⟨by have:=h.locs;have:=hk.locs.2;omega,h.loc25⟩
theorem zyr.shs{x:zS}(hk:zmv mt)(h:zyr mt x):ShL x.Stack:=⟨by have:=h.stks;have:=hk.stack.2;omega,h.stk25⟩
theorem zy4(h:zcg l L)(hm:zbr L m)(hk:zmv mt)(hl:ShL loc)(hs:ShL stk){n:Int}{g:Bool}:
  zfE L m c mt loc stk b n g=some ((zha L mt loc stk n g).1,(zha L mt loc stk n g).2.1,b||(zha L mt loc stk n g).2.2):=by
 unfold zfE zha
 rw [zvo hk]
 simp only [Option.bind_some]
 cases hf:zwI mt n with
 |none=>rfl
 |some x =>
  have hx:=zrb hk hf
  simp only [Option.isNone_some,cond_false]
  have key:∀v:Bool,zbq (some x) v=some (x.Locals,x.Stack,v):=fun v=>by
   unfold zbq
   show (zoL x.Locals).bind _=_
   rw [zsR (hx.shl hk).len]
   simp only [Option.bind_some]
   rw [zsR (hx.shs hk).len]
   rfl
  rw [zCD h hm hk hl hs]
  cases g with
  |true=>simp only [cond_true,Option.bind_some];rw [key];rfl
  |false=>simp only [cond_false];rw [key];simp
theorem zfF.to{b':Bool}(h:zfF l L m mt loc stk b):zfF l L m mt loc stk b':=⟨h.made,h.map,h.lens,h.shL,h.shS,h.on,h.room,h.onL⟩
theorem zvk(h:zfF l L m mt loc stk b)(hk:zmv mt){n:Int}{g b':Bool}:zfF l L m mt (zha L mt loc stk n g).1 (zha L mt loc stk n g).2.1 b':=by
 unfold zha
 cases hf:zwI mt n with
 |none=>exact h.to
 |some x =>
  have hx:=zrb hk hf
  exact ⟨h.made,h.map,h.lens,hx.shl hk,hx.shs hk,fun t ht=>((zB3 (hx.stkT t ht).1).2).resolve_left (hx.stkT t ht).2,hx.stks,fun t ht=>(zB3 (hx.locT t ht)).2⟩
theorem zxh(hk:zmv mt){t:zR}(ht:t∈mt.Traps):(zsa t).length≤25:=by
 unfold zsa
 rcases hk.traps t ht with e |e
 ·rw [e];decide
 ·cases t.C == []
  ·have:=zoK e;show t.C.length≤25;omega
  ·show zrH.length≤25;decide
theorem zEe(h:zcg l L)(hm:zbr L m)(hk:zmv mt)(hl:ShL loc){n:Int}:zel L m c mt loc stk b n=some (b||mt.Traps.any (zrK L mt loc n)):=by
 unfold zel
 rw [znk (body:=fun z=>zbY L m c mt loc stk n z.1 z.2) (l:=mt.Traps) (p:=zrK L mt loc n) (by have:=hk.ntraps;omega) (fun i t b hi=>by
  have ht:=List.mem_of_getElem? hi
  have hc:=zxh hk ht
  have key:∀v:Tx,v=zsa t→zcQ L m c mt loc stk n b (i:Int) t v=some (.inl (b||zrK L mt loc n t,IntKind.i64.wrap ((i:Int)+1))):=fun v hv=>by
   unfold zcQ zeq
   rw [hv,zpL h hm hc (by show _≤_;decide)]
   simp only [Option.bind_some]
   rw [zDB h hm hk hl (sh1 hc)]
   unfold zrK zrH
   simp only [Option.bind_some]
   cases decide (t.From≤n)&&decide (n<t.To) <;> cases b <;> simp
  show zbY L m c mt loc stk n b (i:Int)=_
  unfold zbY
  rw [zd9 hi,zr,hi]
  simp only [cond_true,Option.bind_some]
  cases he:t.C == [] with
  |true=>exact key _ (by unfold zsa;rw [he];rfl)
  |false=>exact key _ (by unfold zsa;rw [he];rfl)) (fun b=>by
  show zbY L m c mt loc stk n b (mt.Traps.length:Int)=_
  unfold zbY
  rw [zeD];rfl)]
 rfl
end
theorem zwt{α β:Type}(p:α→Bool)(g:α→β):∀l:List α,l.findSome? (fun x=>cond (p x) (some (g x)) none)=(l.find? p).map g
 | []=>rfl
 |x ::l=>by
  rw [List.findSome?_cons,List.find?_cons]
  cases p x with
  |true=>rfl
  |false=>exact zwt p g l
section
variable {l L : List za} {m : List (Tx × Int)} {c : Tx} {mt : zb} {loc stk : List Tx} {b : Bool} {x : zp}
def zEE(mt:zb)(n:Int):zS×Bool:=match zwI mt n with |some x=>(x,true) |none=>(zS.mk 0 [] [],false)
theorem ztc(hk:zmv mt){n:Int}:zcI L c mt loc stk b n=some (zEE mt n):=by
 have hl:=hk.nmaps
 unfold zcI
 rw [show zl (fun z=>zcs mt n z) 0=some (zjy () (mt.Maps.findSome? (fun x=>cond (x.At == n) (some (x,true)) none))) from zaQ (fun i x hx=>by
  have hi:=(List.getElem?_eq_some_iff.1 hx).1
  show zcs mt n (i:Int)=_
  unfold zcs
  rw [zd9 hx,zr,hx,zN (by omega)]
  simp only [cond_true,Option.bind_some]
  cases x.At == n <;> rfl) (by
  show zcs mt n (mt.Maps.length:Int)=_
  unfold zcs
  rw [zeD];rfl),zwt (fun x:zS=>x.At == n)]
 unfold zEE zwI
 cases mt.Maps.find? (fun x=>x.At == n) <;> rfl
theorem zA0(h:zcg l L){a b:List Tx}(ha:ShL a)(hb2:∀t∈b,t.length≤25):zcW L a b=some (zxr L a b):=by
 unfold zcW
 by_cases hn:a.length=b.length
 ·rw [show ((a.length:Int) == (b.length:Int))=true by rw [hn];exact beq_self_eq_true _]
  exact zv7 (body:=fun z=>zdd L a b z) ha.len hn (fun i x y hx hy=>by
   show zdd L a b (i:Int)=_
   have:=ha.2 x (List.mem_of_getElem? hx)
   have:=hb2 y (List.mem_of_getElem? hy)
   unfold zdd
   rw [zd9 hx,zr,zr,hx,hy]
   simp only [cond_true,Option.bind_some]
   rw [zhP h (by omega) (by omega)];rfl) (by
   show zdd L a b (a.length:Int)=_
   unfold zdd
   rw [zeD];rfl)
 ·rw [beq_eq_false_iff_ne.2 (show (a.length:Int)≠(b.length:Int) by omega),zyE hn];rfl
theorem zzj(h:zcg l L)(hk:zmv mt){p q:List Tx}(hp:ShL p)(hq:ShL q){n:Int}:zdu L c mt loc stk b n p q=some (b||!zoO L mt p q n):=by
 unfold zdu zoO
 rw [ztc hk]
 unfold zEE
 cases hf:zwI mt n with
 |none=>rfl
 |some x =>
  have hx:=zrb hk hf
  simp only [Option.bind_some,cond_true]
  rw [zA0 h hp hx.loc25,zA0 h hq hx.stk25]
  cases zxr L p x.Locals <;> rfl
theorem zDC(h:zcg l L)(hk:zmv mt){p q:List Tx}(hp:ShL p)(hq:ShL q){n:Int}:zfC L c mt loc stk b n p q=some (b||!zoO L mt p q n):=by
 unfold zfC zoO
 rw [ztc hk]
 unfold zEE
 cases hf:zwI mt n with
 |none=>rfl
 |some x =>
  have hx:=zrb hk hf
  simp only [Option.bind_some,cond_true]
  rw [zA0 h hp hx.loc25,zA0 h hq hx.stk25]
  cases zxr L p x.Locals <;> rfl
theorem zEf(h:zcg l L)(hk:zmv mt)(hl:ShL loc){n:Int}:zb4 L c mt loc stk b n=some (b||mt.Traps.any (zrK L mt loc n)):=by
 unfold zb4
 rw [znk (body:=fun z=>zct L c mt loc stk n z.1 z.2) (l:=mt.Traps) (p:=zrK L mt loc n) (by have:=hk.ntraps;omega) (fun i t b hi=>by
  have ht:=List.mem_of_getElem? hi
  have hc:=zxh hk ht
  have key:∀v:Tx,v=zsa t→zdN L c mt loc stk n b (i:Int) t v=some (.inl (b||zrK L mt loc n t,IntKind.i64.wrap ((i:Int)+1))):=fun v hv=>by
   unfold zdN zfm
   rw [hv,zsv h hc (by decide)]
   simp only [Option.bind_some]
   rw [zDC h hk hl (sh1 hc)]
   unfold zrK zrH
   simp only [Option.bind_some]
   cases decide (t.From≤n)&&decide (n<t.To) <;> cases b <;> simp
  show zct L c mt loc stk n b (i:Int)=_
  unfold zct
  rw [zd9 hi,zr,hi]
  simp only [cond_true,Option.bind_some]
  cases he:t.C == [] with
  |true=>exact key _ (by unfold zsa;rw [he];rfl)
  |false=>exact key _ (by unfold zsa;rw [he];rfl)) (fun b=>by
  show zct L c mt loc stk n b (mt.Traps.length:Int)=_
  unfold zct
  rw [zeD];rfl)]
 rfl
theorem zoS{s:List Tx}{e:Bool}(h:zfF l L m mt loc stk b)(hk:zmv mt)(hp:zg L m c mt loc stk b x=some (loc,s,e))
  (hr:zj L c mt loc stk b x=(zbw L c mt loc x s e).bind fun v=>some (loc,v.1,v.2)) (hs:s<+:stk) (he:b=true→e=true):
  ∃p r,zg L m c mt loc stk b x=some p∧zj L c mt loc stk b x=some r∧zpl mt.Stack (p.1,p.2.1,p.2.2||!zoO L mt p.1 p.2.1 x.A) r∧znC loc stk b p:=by
 have hl:=hs.length_le
 have hS:ShL s:=⟨by have:=h.shS.1;omega,fun t ht=>h.shS.2 t (hs.subset ht)⟩
 refine ⟨(loc,s,e),(loc,s,e||!zoO L mt loc s x.A),hp,?_,zfV fun _=>by have:=h.room;show (s.length:Int)≤mt.Stack;omega,zfO he h.shL h.shS hs⟩
 rw [hr]
 unfold zbw
 rw [zzj h.made hk h.shL hS];rfl
theorem instr_test(ho:21≤x.Op∧x.Op≤36):zj L c mt loc stk b x=(zdv L c mt loc stk b x).bind fun v=>some (loc,v.1,v.2):=by
 unfold zj
 rw [cf (by omega),ct ho]
 rfl
theorem zAj(h:zfF l L m mt loc stk b)(hk:zmv mt)(ho:20≤x.Op∧x.Op≤36):
  ∃p r,zg L m c mt loc stk b x=some p∧zj L c mt loc stk b x=some r∧zpl mt.Stack (p.1,p.2.1,p.2.2||!zoO L mt p.1 p.2.1 x.A) r∧znC loc stk b p:=by
 by_cases h0:x.Op=20
 ·refine zoS (s:=stk) (e:=b) h hk (zzG h0) ?_ (List.prefix_refl _) id
  unfold zj zbw
  rw [cf (by omega),cf (by omega),qt h0]
  simp only [cond_false,cond_true]
  rw [zzj h.made hk h.shL h.shS]
  rfl
 by_cases h1:x.Op≤26
 ·refine zoS (s:=(zah L [84] [[73]] stk b).1) (e:=(zah L [84] [[73]] stk b).2) h hk (zzH h ⟨by omega,h1⟩) ?_ (zdX _ _ _ _ _) (zbt _ _ _)
  rw [instr_test ⟨by omega,ho.2⟩]
  unfold zdv
  rw [decide_eq_true h1]
  simp only [cond_true]
  rw [zeQ h.made (sh1 zmG.1) h.shS,zfy [78] [84]]
  rfl
 by_cases h2:x.Op≤32
 ·refine zoS (s:=(zah L [84] [[73],[73]] stk b).1) (e:=(zah L [84] [[73],[73]] stk b).2) h hk (zzI h ⟨by omega,h2⟩) ?_ (zdX _ _ _ _ _) (zbt _ _ _)
  rw [instr_test ⟨by omega,ho.2⟩]
  unfold zdv
  rw [decide_eq_false h1,decide_eq_true h2]
  simp only [cond_true,cond_false]
  rw [zeQ h.made (sh2 zmG.1 zmG.1) h.shS,zfy [78] [84]]
  rfl
 have e2:=(zpc (b:=b) h.on).1
 by_cases h3:x.Op≤34
 ·refine zoS (s:=(zhO [84] stk b).2.1) (e:=(zhO [84] stk b).2.2) h hk (zzJ h ⟨by omega,h3⟩) ?_ (zlN _ _ _) znx
  rw [instr_test ⟨by omega,ho.2⟩]
  unfold zdv
  rw [decide_eq_false h1,decide_eq_false h2,decide_eq_true h3]
  simp only [cond_true,cond_false]
  rw [zoz h.shS]
  simp only [Option.bind_some]
  rw [e2]
 ·refine zoS (s:=(zhO [84] (zhO [84] stk b).2.1 (zhO [84] stk b).2.2).2.1) (e:=(zhO [84] (zhO [84] stk b).2.1 (zhO [84] stk b).2.2).2.2) h hk (zzK h ⟨by omega,ho.2⟩) ?_ ((zlN _ _ _).trans (zlN _ _ _)) (fun e=>znx (znx e))
  rw [instr_test ⟨by omega,ho.2⟩]
  unfold zdv
  rw [decide_eq_false h1,decide_eq_false h2,decide_eq_false h3]
  simp only [cond_false]
  rw [zoz h.shS]
  simp only [Option.bind_some]
  rw [e2,zoz (ztE h.shS (by decide)).2]
  simp only [Option.bind_some]
  rw [(zpc fun t ht=>h.on t ((zlN _ _ _).subset ht)).1]
end
section
variable {l L : List za} {m : List (Tx × Int)} {c : Tx} {mt : zb} {loc stk : List Tx} {b : Bool} {x : zp}
theorem instr_field(ho:37≤x.Op∧x.Op≤41):zj L c mt loc stk b x=(zcH L c mt loc stk b x).bind fun v=>some (loc,v.1,v.2):=by
 unfold zj
 rw [cf (by omega),cf (by omega),qf (show x.Op≠20 by omega),ct ho]
 rfl
def zCJ(L:List za)(C:Tx):Bool:=match cl L C with |some y=>!y.Interface |none=>false
theorem zCa(h:zfF l L m mt loc stk b)(ho:x.Op=37)(hC:x.C.length≤25):
  ∃p r,zg L m c mt loc stk b x=some p∧zj L c mt loc stk b x=some r∧zpl mt.Stack p r∧znC loc stk b p:=by
 have h26:=h.made.len
 have hP:zg L m c mt loc stk b x=some (loc,stk++[x.C],b||!zCJ L x.C):=by
  rw [zuz (by omega)]
  unfold zek zCJ
  rw [qt ho]
  simp only [cond_true]
  rw [zfG h.map]
  simp only [Option.bind_some]
  rw [zfv h.shS.len]
  cases cl L x.C <;> rfl
 have hK:znC loc stk b (loc,stk++[x.C],b||!zCJ L x.C):=zeP (fun e=>by rw [e];rfl) h.shL h.shS (List.prefix_refl _) hC fun hb=>.inr (by
  simp only [Bool.or_eq_false_iff,Bool.not_eq_false'] at hb
  have hn:=hb.2
  unfold zCJ at hn
  cases hc:cl L x.C with
  |none=>rw [hc] at hn;cases hn
  |some y=>exact zxG (zik (zkZ h.made (zgL hc))) hC)
 cases hc:cl L x.C with
 |none =>
  have e:zCJ L x.C=false:=by unfold zCJ;rw [hc]
  refine ⟨_,(loc,stk,true),hP,?_,zgF (by rw [e];simp) rfl,hK⟩
  rw [instr_field (by omega)]
  unfold zcH
  rw [zib (by omega)]
  simp only [Option.bind_some]
  rw [znJ,zls hc]
  rfl
 |some y =>
  have e:zCJ L x.C=!y.Interface:=by unfold zCJ;rw [hc]
  refine ⟨_,_,hP,?_,zfn _,hK⟩
  ·rw [instr_field (by omega)]
   unfold zcH
   rw [zib (by omega)]
   simp only [Option.bind_some]
   rw [znJ,zgL hc,qt ho]
   simp only [Bool.not_true,cond_false,cond_true]
   rw [zjL,hc]
   simp only [Option.bind_some]
   rw [zfx h.shS.len,←e]
   rfl
theorem zq4{b0:Bool}{ts:List Tx}(hb:b0=true→b=true)(hl:ShL loc)(hs:ShL stk):znC loc stk b0 (loc,zah L [84] ts stk b):=
 zfO (s:=(zah L [84] ts stk b).1) (b:=(zah L [84] ts stk b).2) (fun e=>zbt _ _ _ (hb e)) hl hs (zdX _ _ _ _ _)
def zsm(L:List za)(b:Bool)(x:zp):Bool:=b||!((znE L x.C x.M).2.2&&((znE L x.C x.M).2.1.Static == ((x.Op == (40:Int))||(x.Op == (41:Int)))))
def zwu(L:List za)(stk:List Tx)(b:Bool)(x:zp):List Tx×Bool:=
 cond (x.Op == 38) ((zah L [84] [x.C] stk (zsm L b x)).1++[(znE L x.C x.M).2.1.Type_],(zah L [84] [x.C] stk (zsm L b x)).2)
  (cond (x.Op == 39) (zah L [84] [(znE L x.C x.M).2.1.Type_,x.C] stk (zsm L b x))
   (cond (x.Op == 40) (stk++[(znE L x.C x.M).2.1.Type_],zsm L b x) (zah L [84] [(znE L x.C x.M).2.1.Type_] stk (zsm L b x))))
theorem zrh(h:zfF l L m mt loc stk b)(ho:38≤x.Op∧x.Op≤41)(hC:x.C.length≤25):zg L m c mt loc stk b x=some (loc,zwu L stk b x):=by
 have hT:=(zzb h.made x.C x.M).1
 rw [zuz (by omega)]
 unfold zek zwu
 rw [qf (show x.Op≠37 by omega),zws h.made h.map h.lens]
 simp only [cond_false,Option.bind_some]
 rw [show (((zeO L x.C).findSome? (zAM L x.M)).getD ([],zF,false))=znE L x.C x.M from rfl]
 rw [show (b||!((znE L x.C x.M).2.2&&((znE L x.C x.M).2.1.Static == ((x.Op == (40:Int))||(x.Op == (41:Int))))))=zsm L b x from rfl]
 rw [zgh h.made h.map (sh1 hC) h.shS,zgh h.made h.map (sh2 hC hT) h.shS,zgh h.made h.map (sh1 hT) h.shS,zfv h.shS.len]
 simp only [Option.bind_some,List.reverse_singleton]
 rw [zfv (zep (by decide) _ _ _ h.shS).len]
 cases x.Op == 38 <;> cases x.Op == 39 <;> cases x.Op == 40 <;> rfl
theorem zBh(hb:zsm L b x=true):(zwu L stk b x).2=true:=by
 unfold zwu
 cases x.Op == 38 <;> cases x.Op == 39 <;> cases x.Op == 40 <;> first |exact zbt _ _ _ hb |exact hb
theorem zmH(h:zfF l L m mt loc stk b)(hC:x.C.length≤25):znC loc stk b (loc,zwu L stk b x):=by
 obtain ⟨hT,hM⟩:=zzb h.made x.C x.M
 have hb0:b=true→zsm L b x=true:=fun e=>by unfold zsm;rw [e];rfl
 have hF:zsm L b x=false→zAQ (znE L x.C x.M).2.1.Type_:=fun e=>by
  unfold zsm at e
  simp only [Bool.or_eq_false_iff,Bool.not_eq_false',Bool.and_eq_true] at e
  exact zxG (hM e.2.1) hT
 have ht:∀{ts:List Tx},(zah L [84] ts stk (zsm L b x)).2=false→zsm L b x=false:=fun {ts} e=>by
  cases hq:zsm L b x with
  |false=>rfl
  |true=>rw [zbt _ _ _ hq] at e;cases e
 unfold zwu
 cases x.Op == 38 with
 |true=>exact zeP (fun e=>zbt _ _ _ (hb0 e)) h.shL h.shS (zdX _ _ _ _ _) hT fun e=>.inr (hF (ht e))
 |false =>
  cases x.Op == 39 with
  |true=>exact zq4 hb0 h.shL h.shS
  |false =>
   cases x.Op == 40 with
   |true=>exact zeP hb0 h.shL h.shS (List.prefix_refl _) hT fun e=>.inr (hF e)
   |false=>exact zq4 hb0 h.shL h.shS
theorem zyg(h:zfF l L m mt loc stk b)(ho:38≤x.Op∧x.Op≤41)(hC:x.C.length≤25):
  ∃p r,zg L m c mt loc stk b x=some p∧zj L c mt loc stk b x=some r∧zpl mt.Stack p r∧znC loc stk b p:=by
 have h26:=h.made.len
 have hT:=(zzb h.made x.C x.M).1
 have hD:zcH L c mt loc stk b x=cond (!zb0 L x.C) (some (stk,true)) (cond (zsm L b x) (some (stk,zsm L b x))
   (cond ((x.Op == (39:Int))||(x.Op == (41:Int))) ((zW L c mt loc stk (zsm L b x) [(znE L x.C x.M).2.1.Type_]).bind fun v12=>zaU L c mt loc x (znE L x.C x.M) v12.1 v12.2) (zaU L c mt loc x (znE L x.C x.M) stk (zsm L b x)))):=by
  unfold zcH
  rw [zib (by omega)]
  simp only [Option.bind_some]
  rw [znJ,qf (show x.Op≠37 by omega),zp4 h.made h.lens]
  rfl
 cases hb:zsm L b x with
 |true =>
  refine ⟨_,(loc,stk,true),zrh (c:=c) h ho hC,?_,zgF (zBh hb) rfl,zmH h hC⟩
  rw [instr_field (by omega),hD,hb]
  cases zb0 L x.C <;> rfl
 |false =>
  have hn:zb0 L x.C=true:=by
   cases hq:zb0 L x.C with
   |true=>rfl
   |false =>
    have:znE L x.C x.M=([],zF,false):=by unfold znE;rw [zj9 hq];rfl
    unfold zsm at hb
    rw [this] at hb
    simp at hb
  rw [hn,hb] at hD
  simp only [Bool.not_true,cond_false] at hD
  have hr:=h.room
  have hl1:=zkA (L:=L) [84] [x.C] stk false
  have hl2:=zkA (L:=L) [84] [(znE L x.C x.M).2.1.Type_,x.C] stk false
  have hl3:=zkA (L:=L) [84] [(znE L x.C x.M).2.1.Type_] stk false
  have hs3:=zep (L:=L) (e:=[84]) (by decide) [(znE L x.C x.M).2.1.Type_] stk false h.shS
  have ho4:x.Op=38∨x.Op=39∨x.Op=40∨x.Op=41:=by omega
  rcases ho4 with h4 |h4 |h4 |h4
  ·have e:zwu L stk b x=((zah L [84] [x.C] stk false).1++[(znE L x.C x.M).2.1.Type_],(zah L [84] [x.C] stk false).2):=by unfold zwu;rw [hb,qt h4];rfl
   have hO:=zrh (c:=c) h ho hC
   have hK:=zmH (x:=x) h hC
   rw [e] at hO hK
   refine ⟨_,_,hO,?_,zfn _,hK⟩
   ·rw [instr_field (by omega),hD]
    unfold zaU zbP
    rw [qf (show x.Op≠39 by omega),qf (show x.Op≠41 by omega),qt h4]
    simp only [Bool.or_false,Bool.true_or,cond_false,cond_true]
    rw [zeQ h.made (sh1 hC) h.shS,zfy [78] [84]]
    simp only [Option.bind_some,List.reverse_singleton]
    rw [zfx (zep (by decide) _ _ _ h.shS).len]
    rfl
  ·have e:zwu L stk b x=zah L [84] [(znE L x.C x.M).2.1.Type_,x.C] stk false:=by unfold zwu;rw [hb,qf (show x.Op≠38 by omega),qt h4];rfl
   refine ⟨_,(loc,zah L [84] [(znE L x.C x.M).2.1.Type_,x.C] stk false),zrh (c:=c) h ho hC,?_,?_,zmH (x:=x) h hC⟩
   ·rw [instr_field (by omega),hD]
    unfold zaU zbP
    rw [qf (show x.Op≠38 by omega),qf (show x.Op≠40 by omega),qt h4]
    simp only [Bool.or_false,Bool.true_or,Bool.or_true,cond_false,cond_true]
    rw [zeQ h.made (sh1 hT) h.shS,zfy [78] [84]]
    simp only [Option.bind_some,List.reverse_singleton]
    rw [zeQ h.made (sh1 hC) hs3,zfy [78] [84]]
    rfl
   ·rw [e];exact zfV fun _=>by show ((zah L [84] [(znE L x.C x.M).2.1.Type_,x.C] stk false).1.length:Int)≤mt.Stack;omega
  ·have e:zwu L stk b x=(stk++[(znE L x.C x.M).2.1.Type_],false):=by unfold zwu;rw [hb,qf (show x.Op≠38 by omega),qf (show x.Op≠39 by omega),qt h4];rfl
   have hO:=zrh (c:=c) h ho hC
   have hK:=zmH (x:=x) h hC
   rw [e] at hO hK
   refine ⟨_,_,hO,?_,zfn _,hK⟩
   ·rw [instr_field (by omega),hD]
    unfold zaU zbP
    rw [qf (show x.Op≠38 by omega),qf (show x.Op≠39 by omega),qf (show x.Op≠41 by omega),qt h4]
    simp only [Bool.or_false,Bool.or_true,cond_false,cond_true]
    rw [zfx h.shS.len]
    rfl
  ·have e:zwu L stk b x=zah L [84] [(znE L x.C x.M).2.1.Type_] stk false:=by unfold zwu;rw [hb,qf (show x.Op≠38 by omega),qf (show x.Op≠39 by omega),qf (show x.Op≠40 by omega)];rfl
   refine ⟨_,(loc,zah L [84] [(znE L x.C x.M).2.1.Type_] stk false),zrh (c:=c) h ho hC,?_,?_,zmH (x:=x) h hC⟩
   ·rw [instr_field (by omega),hD]
    unfold zaU zbP
    rw [qf (show x.Op≠38 by omega),qf (show x.Op≠39 by omega),qf (show x.Op≠40 by omega),qt h4]
    simp only [Bool.or_false,Bool.or_true,cond_false,cond_true]
    rw [zeQ h.made (sh1 hT) h.shS,zfy [78] [84]]
    rfl
   ·rw [e];exact zfV fun _=>by show ((zah L [84] [(znE L x.C x.M).2.1.Type_] stk false).1.length:Int)≤mt.Stack;omega
end
section
variable {l L : List za} {m : List (Tx × Int)} {c : Tx} {mt : zb} {loc stk : List Tx} {b : Bool} {x : zp}
theorem instr_call(ho:42≤x.Op∧x.Op≤45):zj L c mt loc stk b x=(zeG L c mt loc stk b x).bind fun v=>some (loc,v.1,v.2):=by
 unfold zj
 rw [cf (by omega),cf (by omega),qf (show x.Op≠20 by omega),cf (by omega),ct ho]
 rfl
def zBW(t:Tx)(p:List Tx×Bool):List Tx×Bool:=cond (!(t == [86])) (p.1++[t],p.2) p
def zxX(L:List za)(c:Tx)(x:zp)(s:Tx)(p:List Tx×Bool):List Tx×Bool:=
 cond ((x.Op == 43)||(x.Op == 45)) (zah L [84] [x.C] p.1 p.2)
  (cond (x.Op == 44) ((zbM [84] p.1 p.2).2.1,(zbM [84] p.1 p.2).2.2||!(znS L (zbM [84] p.1 p.2).1 x.C&&(znS L (zbM [84] p.1 p.2).1 c&&(zeO L c).any (fun y=>s == y)))) p)
def zsM(L:List za)(c:Tx)(stk:List Tx)(b:Bool)(x:zp)(s:Tx)(f:zb)(ok:Bool):List Tx×Bool:=
 zBW f.Ret (zxX L c x s (zah L [84] f.Params.reverse stk (b||!(ok&&(f.Static == (x.Op == (42:Int)))))))
theorem zwQ(c:Tx)(x:zp)(s:Tx)(p:List Tx×Bool):(zxX L c x s p).1<+:p.1:=by
 unfold zxX
 cases (x.Op == 43)||(x.Op == 45) with
 |true=>exact zdX _ _ _ _ _
 |false =>
  cases x.Op == 44 with
  |true=>exact zhs _ _ _
  |false=>exact List.prefix_refl _
theorem ztl{c:Tx}{x:zp}{s:Tx}{p:List Tx×Bool}(h:p.2=true):(zxX L c x s p).2=true:=by
 unfold zxX
 cases (x.Op == 43)||(x.Op == 45) with
 |true=>exact zbt _ _ _ h
 |false =>
  cases x.Op == 44 with
  |true=>show ((zbM [84] p.1 p.2).2.2||_)=true;rw [zhr h];rfl
  |false=>exact h
theorem zxw(h:zfF l L m mt loc stk b){s:Tx}{f:zb}{ok:Bool}(hR:f.Ret.length≤25)(hM:ok=true→zsw f.Ret=true):znC loc stk b (loc,zsM L c stk b x s f ok):=by
 have hp:=(zwQ (L:=L) c x s (zah L [84] f.Params.reverse stk (b||!(ok&&(f.Static == (x.Op == (42:Int))))))).trans (zdX _ _ _ _ _)
 have hb:b=true→(zxX L c x s (zah L [84] f.Params.reverse stk (b||!(ok&&(f.Static == (x.Op == (42:Int))))))).2=true:=fun e=>ztl (zbt _ _ _ (by rw [e];rfl))
 unfold zsM zBW
 cases hv:f.Ret == [86] with
 |true=>exact zfO hb h.shL h.shS hp
 |false =>
  refine zeP hb h.shL h.shS hp hR fun e=>.inr ?_
  have:ok=true:=by
   cases ok with
   |true=>rfl
   |false =>
    rw [ztl (zbt _ _ _ (by simp))] at e
    cases e
  have hr:=hM this
  unfold zsw at hr
  rw [hv] at hr
  exact zxG (by simpa using hr) hR
theorem zzS{f:zb}(h1:∀s∈f.Params,zfz s=true)(h2:f.Params.length≤6):ShL f.Params:=⟨by omega,fun s hs=>zl5 (h1 s hs)⟩
theorem zBv{f:zb}{s:List Tx}{e:Bool}(hs:s.length≤1000):za2 L m c mt loc f s e=some (zBW f.Ret (s,e)):=by
 unfold za2 zBW
 rw [zfv hs]
 cases f.Ret == [86] <;> rfl
theorem zDh(h:zfF l L m mt loc stk b)(ho:42≤x.Op∧x.Op≤45)(hC:x.C.length≤25)(hc:c.length≤25){s:Tx}{f:zb}{ok:Bool}(h1:∀s∈f.Params,zfz s=true)(h2:f.Params.length≤6):
  zb8 L m c mt loc stk b x s f ok=some (zsM L c stk b x s f ok):=by
 have h26:=zfD h.made c
 unfold zb8 zsM
 rw [zgh h.made h.map (zzS h1 h2) h.shS]
 simp only [Option.bind_some]
 generalize hq:zah L [84] f.Params.reverse stk (b||!(ok&&(f.Static == (x.Op == (42:Int)))))=q
 have hs:ShL q.1:=by rw [←hq];exact zep (by decide) _ _ _ h.shS
 obtain ⟨g1,g2⟩:=zen (b:=q.2) hs (e:=[84]) (by decide)
 have hT:∀v:Bool,v=true→zbF L m c mt loc x s f q v=some (zBW f.Ret (zah L [84] [x.C] q.1 q.2)):=fun v hv=>by
  unfold zbF
  rw [hv]
  simp only [cond_true]
  rw [zgh h.made h.map (sh1 hC) hs]
  simp only [Option.bind_some,List.reverse_singleton]
  rw [zBv (zep (by decide) _ _ _ hs).len]
 have ho4:x.Op=42∨x.Op=43∨x.Op=44∨x.Op=45:=by omega
 unfold zxX
 rcases ho4 with h4 |h4 |h4 |h4
 ·rw [qf (show x.Op≠43 by omega),qf (show x.Op≠45 by omega),qf (show x.Op≠44 by omega)]
  simp only [cond_false,Bool.or_false]
  unfold zbF
  rw [qf (show x.Op≠44 by omega)]
  simp only [cond_false]
  exact zBv hs.len
 ·rw [qt h4]
  simp only [cond_true,Bool.true_or]
  exact hT _ rfl
 ·rw [qf (show x.Op≠43 by omega),qf (show x.Op≠45 by omega),qt h4]
  simp only [cond_false,Bool.or_false,cond_true]
  unfold zbF
  rw [qt h4]
  simp only [cond_false,cond_true]
  rw [znW hs.len]
  simp only [Option.bind_some]
  rw [zqk h.made h.map g1 hC,zqk h.made h.map g1 hc,zka h.made h.map]
  simp only [Option.bind_some]
  rw [zql (by omega)]
  simp only [Option.bind_some]
  rw [zBv g2.len,zBv g2.len]
  cases znS L (zbM [84] q.1 q.2).1 x.C <;> cases znS L (zbM [84] q.1 q.2).1 c <;> rfl
 ·rw [qf (show x.Op≠43 by omega),qt h4]
  simp only [cond_false,cond_true,Bool.or_true]
  exact hT _ rfl
theorem zA3(T:List Tx)(s:Tx):(T.any fun y=>s == y)=T.any fun y=>y == s:=by
 congr 1
 funext y
 rw [Bool.eq_iff_iff,beq_iff_eq,beq_iff_eq]
 exact eq_comm
theorem zEt(h:zfF l L m mt loc stk false)(ho:42≤x.Op∧x.Op≤45)(hC:x.C.length≤25)(hc:c.length≤25){s:Tx}{f:zb}(h1:∀s∈f.Params,zfz s=true)(h2:f.Params.length≤6):
  za5 L c mt loc stk false x f s true=zbv L c mt loc f (zxX L c x s (zah L [84] f.Params.reverse stk false)).1 (zxX L c x s (zah L [84] f.Params.reverse stk false)).2:=by
 have h26:=zfD h.made c
 unfold za5
 simp only [Bool.not_true,Bool.or_false,cond_false]
 rw [zeQ h.made (zzS h1 h2) h.shS,zfy [78] [84]]
 simp only [Option.bind_some]
 generalize hq:zah L [84] f.Params.reverse stk false=q
 have hs:ShL q.1:=by rw [←hq];exact zep (by decide) _ _ _ h.shS
 obtain ⟨g1,g2⟩:=zen (b:=q.2) hs (e:=[78]) (by decide)
 have ho4:x.Op=42∨x.Op=43∨x.Op=44∨x.Op=45:=by omega
 unfold zxX
 rw [zj8 hs.len]
 simp only [Option.bind_some]
 rw [zhP h.made g1 hC,zhP h.made g1 hc,zgg h.made]
 simp only [Option.bind_some]
 rw [zny (by omega)]
 simp only [Option.bind_some]
 rcases ho4 with h4 |h4 |h4 |h4
 ·rw [qt h4,qf (show x.Op≠43 by omega),qf (show x.Op≠45 by omega),qf (show x.Op≠44 by omega)]
  rfl
 ·rw [qt h4,qf (show x.Op≠42 by omega),qf (show x.Op≠44 by omega),zfy [84] [78]]
  rfl
 ·rw [qt h4,qf (show x.Op≠42 by omega),qf (show x.Op≠43 by omega),qf (show x.Op≠45 by omega)]
  simp only [Bool.not_false,cond_true,cond_false,Bool.or_false]
  have e2:=zk0 [84] [78] q.1 q.2
  rw [zA3,e2]
  have e3:((zbM [78] q.1 q.2).2.2||!(znS L (zbM [84] q.1 q.2).1 x.C&&(znS L (zbM [84] q.1 q.2).1 c&&(zeO L c).any (fun y=>y == s))))=((zbM [78] q.1 q.2).2.2||!(znS L (zbM [78] q.1 q.2).1 x.C&&(znS L (zbM [78] q.1 q.2).1 c&&(zeO L c).any (fun y=>y == s)))):=
   zri fun e=>by rw [zfS [78] [84] q.1 q.2 e]
  rw [e3]
  cases znS L (zbM [78] q.1 q.2).1 x.C <;> cases znS L (zbM [78] q.1 q.2).1 c <;> cases (zeO L c).any (fun y=>y == s) <;> simp
 ·rw [qt h4,qf (show x.Op≠42 by omega),qf (show x.Op≠43 by omega),qf (show x.Op≠44 by omega),zfy [84] [78]]
  rfl
theorem zwe(h:zfF l L m mt loc stk b)(ho:42≤x.Op∧x.Op≤45)(hC:x.C.length≤25)(hc:c.length≤25){s:Tx}{f:zb}{ok:Bool}(h1:∀s∈f.Params,zfz s=true)(h2:f.Params.length≤6)(h3:f.Ret.length≤25)(h4:ok=true→zsw f.Ret=true)
  (hP:zdw L m c mt loc stk b x=zb8 L m c mt loc stk b x s f ok) (hD:zeG L c mt loc stk b x=za5 L c mt loc stk b x f s (ok&&(f.Static == (x.Op == (42:Int))))):
  ∃p r,zg L m c mt loc stk b x=some p∧zj L c mt loc stk b x=some r∧zpl mt.Stack p r∧znC loc stk b p:=by
 have hO:zg L m c mt loc stk b x=some (loc,zsM L c stk b x s f ok):=by
  rw [zBI ho,hP,zDh h ho hC hc h1 h2];rfl
 have hK:=zxw (c:=c) (x:=x) (s:=s) h h3 h4
 cases hb:(b||!(ok&&(f.Static == (x.Op == (42:Int))))) with
 |true =>
  refine ⟨_,(loc,stk,true),hO,?_,zgF ?_ rfl,hK⟩
  ·rw [instr_call ho,hD]
   unfold za5
   rw [hb];rfl
  ·show (zsM L c stk b x s f ok).2=true
   have:(zxX L c x s (zah L [84] f.Params.reverse stk (b||!(ok&&(f.Static == (x.Op == (42:Int))))))).2=true:=ztl (zbt _ _ _ hb)
   unfold zsM zBW
   cases f.Ret == [86] <;> exact this
 |false =>
  have hb1:b=false:=by simp only [Bool.or_eq_false_iff] at hb;exact hb.1
  have hb2:(ok&&(f.Static == (x.Op == (42:Int))))=true:=by simp only [Bool.or_eq_false_iff,Bool.not_eq_false'] at hb;exact hb.2
  subst hb1
  rw [hb2,zEt h ho hC hc h1 h2] at hD
  have hl:=(zwQ (L:=L) c x s (zah L [84] f.Params.reverse stk false)).length_le
  have hl2:=zkA (L:=L) [84] f.Params.reverse stk false
  have hr:=h.room
  have hsh:=h.shS.1
  have eK:zsM L c stk false x s f ok=zBW f.Ret (zxX L c x s (zah L [84] f.Params.reverse stk false)):=by unfold zsM;rw [hb]
  generalize zxX L c x s (zah L [84] f.Params.reverse stk false)=q at hD hl eK
  cases hv:f.Ret == [86] with
  |true =>
   refine ⟨_,(loc,q.1,q.2),hO,?_,?_,hK⟩
   ·rw [instr_call ho,hD]
    unfold zbv
    rw [hv];rfl
   ·rw [eK]
    unfold zBW
    rw [hv]
    exact zfV fun _=>by omega
  |false =>
   rw [eK] at hO hK
   unfold zBW at hO hK
   rw [hv] at hO hK
   refine ⟨_,_,hO,?_,zfn _,hK⟩
   rw [instr_call ho,hD]
   unfold zbv
   rw [hv]
   simp only [Bool.not_false,cond_true]
   rw [zfx (by omega)]
   rfl
theorem zAh(h:zfF l L m mt loc stk b)(ho:42≤x.Op∧x.Op≤45)(hC:x.C.length≤25)(hc:c.length≤25):
  ∃p r,zg L m c mt loc stk b x=some p∧zj L c mt loc stk b x=some r∧zpl mt.Stack p r∧znC loc stk b p:=by
 by_cases h5:x.Op=45
 ·obtain ⟨⟨k1,k2,k3,k4⟩,k5⟩:=zDT h.made x.C x.M
  refine zwe (s:=(zps L x.C x.M).1) (f:=(zps L x.C x.M).2.1) (ok:=(zps L x.C x.M).2.2) h ho hC hc k1 k2 k3 k4 ?_ ?_
  ·unfold zdw
   rw [zoX h.made h.map h.lens,qt h5,zy5 h.made h.map h.lens]
   rfl
  ·unfold zeG
   rw [qt h5,zrv h.made h.lens,qf (show x.Op≠42 by omega)]
   show za5 L c mt loc stk b x _ _ _=_
   congr 1
   cases hq:(zps L x.C x.M).2.2 with
   |false=>rfl
   |true=>rw [k5 hq];rfl
 ·obtain ⟨k1,k2,k3,k4⟩:=zzy h.made zaT x.M (zeO L x.C)
  generalize hR:((zeO L x.C).findSome? (znV L zaT x.M)).getD ([],zM,false)=R at k1 k2 k3 k4
  refine zwe (s:=R.1) (f:=R.2.1) (ok:=R.2.2&&!R.2.1.Abstract) h ho hC hc k1 k2 k3 (fun e=>k4 (by rw [Bool.and_eq_true] at e;exact e.1)) ?_ ?_
  ·unfold zdw
   rw [zoX h.made h.map h.lens,qf h5,hR]
   rfl
  ·unfold zeG
   rw [qf h5,zlO h.made h.lens,hR]
   show za5 L c mt loc stk b x _ _ _=_
   congr 1
   cases R.2.2 <;> cases R.2.1.Abstract <;> cases R.2.1.Static == (x.Op == (42:Int)) <;> rfl
end
section
variable {l L : List za} {m : List (Tx × Int)} {c : Tx} {mt : zb} {loc stk : List Tx} {b : Bool} {x : zp}
theorem instr_arrays(ho:49≤x.Op∧x.Op≤55):zj L c mt loc stk b x=(zaX L c mt loc stk b x).bind fun v=>some (loc,v.1,v.2):=by
 unfold zj
 rw [cf (by omega),cf (by omega),qf (show x.Op≠20 by omega),cf (by omega),cf (by omega),ct ho]
 rfl
def zyI(C:Tx):Tx:=cond (zfz (91 ::C)) (91 ::C) []
theorem zDP{C:Tx}(h:zfz (91 ::C)=true):zfz C=true:=by
 have e:zgi (91 ::C)=C:=by rw [zg9,if_pos rfl]
 unfold zfz at h ⊢
 rw [e] at h
 have hb:brk (zgi C)=false:=by
  rw [Bool.or_eq_true] at h
  rcases h with h |h
  ·have:zgi C=[73]:=by simpa using h
   rw [this];rfl
  ·exact zjx h
 rw [znA hb]
 exact h
theorem zs2{C:Tx}(h:C.length≤1000):zns C=some (zyI C):=by
 unfold zns zyI
 have hl:Len C:=by show C.length≤9223372036854775807;omega
 have hl2:Len (91 ::C):=by show (91 ::C).length≤9223372036854775807;simp;omega
 rw [zhz hl,zyN (by simp;omega)]
 simp only [Option.bind_some,List.singleton_append]
 rw [zhz hl2]
 cases h1:zfz (91 ::C) with
 |true=>rw [zDP h1];rfl
 |false=>cases zfz C <;> rfl
theorem ztu{C:Tx}(h:C.length≤1000):znv C=some (zyI C):=by
 unfold znv zyI
 have hl2:Len (91 ::C):=by show (91 ::C).length≤9223372036854775807;simp;omega
 rw [zyN (by simp;omega)]
 simp only [Option.bind_some,List.singleton_append]
 rw [zf3 hl2]
 cases zfz (91 ::C) <;> rfl
theorem zyM(x:UInt8):((x.toNat:Int) == (91:Int))=(x == 91):=by
 rw [Bool.eq_iff_iff,beq_iff_eq,beq_iff_eq]
 constructor
 ·intro h;exact UInt8.toNat_inj.1 (by simpa using (Int.ofNat_inj.1 h))
 ·intro h;rw [h];rfl
theorem zuG{s:Tx}(h:Len s):zo3 s=some (zic s):=by
 unfold zo3 zic
 rw [zf3 h]
 cases hm:zfz s with
 |false=>rfl
 |true =>
  cases s with
  |nil =>
   exfalso
   unfold zfz at hm
   rw [show zgi (zgi [])=[] from rfl] at hm
   simp at hm
   exact zkN hm rfl
  |cons x r =>
   simp only [Option.bind_some,Bool.not_true,cond_false,Bool.true_and]
   rw [zjm]
   simp only [List.getElem?_cons_zero,Option.bind_some,zyM]
   rw [show (1:Int)=((1:Nat):Int) from rfl,zhg (by simp)]
   show cond (!(x == 91)) _ _=some (cond (x == 91) _ _)
   cases x == 91 <;> rfl
theorem zuF(hs:ShL stk):zfj L c mt loc stk b=some (zlh [78] stk b):=by
 unfold zfj zlh
 obtain ⟨h1,h2⟩:=zen (b:=b) hs (e:=[78]) (by decide)
 rw [zj8 hs.len]
 simp only [Option.bind_some]
 rw [zuG (zvZ h1)]
 cases hq:(zbM [78] stk b).1 == [78] with
 |true =>
  have e:(zbM [78] stk b).1=[78]:=by simpa using hq
  rw [e];simp
 |false=>rfl
def zEj(t:Tx):Bool:=(t == [78])||(decide (1<(t.length:Int))&&brk t)
theorem zDJ(t:Tx):((cond (t == [78]) (some true) ((cond (decide (1<(List.length t:Int))) ((idx t 0).bind fun v16=>some ((v16.toNat:Int) == (91:Int))) (some false)).bind fun v17=>some v17)):Option Bool)=some (zEj t):=by
 unfold zEj
 cases t == [78] with
 |true=>rfl
 |false =>
  cases t with
  |nil=>rfl
  |cons x r =>
   rw [zjm]
   simp only [List.getElem?_cons_zero,Option.bind_some,zyM]
   show ((cond (decide (1<(List.length (x ::r):Int))) (some (x == 91)) (some false)).bind fun v17=>some v17)=some (false||(decide (1<(List.length (x ::r):Int))&&(x == 91)))
   cases decide (1<(List.length (x ::r):Int)) <;> rfl
theorem zED{t:Tx}(h:onS t):zEj t=((zic t).2||(t == [78])):=by
 rcases h with rfl |h
 ·unfold zEj
  rw [beq_self_eq_true];simp
 ·unfold zEj zic
  rw [h]
  cases hb:brk t with
  |false=>simp
  |true =>
   have h1:=(zqq h hb).1
   have h2:t.drop 1≠[]:=fun e=>by
    rw [e] at h1
    unfold zfz at h1
    rw [show zgi (zgi [])=[] from rfl] at h1
    simp at h1
    exact zkN h1 rfl
   have h3:1<t.length:=by
    have:0<(t.drop 1).length:=List.length_pos_iff.2 h2
    simp at this
    omega
   rw [decide_eq_true (show 1<(t.length:Int) by omega)]
   simp
def thA(L:List za)(C:Tx):Bool:=zfz (91 ::C)&&thN L (91 ::C)
theorem zCU(C:Tx)(T:Tx→Bool)(h:zfz (91 ::C)=true→T (91 ::C)=thN L (91 ::C)):(cond (!(zyI C == [])) (some (T (zyI C))) (some false))=some (thA L C):=by
 unfold zyI thA
 cases hm:zfz (91 ::C) with
 |true =>
  rw [←h hm]
  rfl
 |false=>rfl
theorem zAf(h:zfF l L m mt loc stk b)(ho:x.Op=49∨x.Op=50∨x.Op=52∨x.Op=53)(hC:x.C.length≤10):
  ∃p r,zg L m c mt loc stk b x=some p∧zj L c mt loc stk b x=some r∧zpl mt.Stack p r∧znC loc stk b p:=by
 have hI:=zmG.1
 have hA:([91,73]:Tx).length≤25:=by decide
 have hr:=h.room
 rcases ho with h4 |h4 |h4 |h4
 ·refine ⟨(loc,(zah L [84] [[73]] stk b).1++[[91,73]],(zah L [84] [[73]] stk b).2),_,?_,?_,zfn _,zeP (zbt _ _ _) h.shL h.shS (zdX _ _ _ _ _) hA fun _=>.inr ⟨hA,.inr (by decide +kernel)⟩⟩
  ·rw [zis (by omega)]
   unfold zaB
   rw [qt h4]
   simp only [cond_true]
   rw [zgh h.made h.map (sh1 hI) h.shS]
   simp only [Option.bind_some,List.reverse_singleton]
   rw [zfv (zep (by decide) _ _ _ h.shS).len]
   rfl
  ·rw [instr_arrays (by omega)]
   unfold zaX
   rw [qt h4]
   simp only [cond_true]
   rw [zeQ h.made (sh1 hI) h.shS,zfy [78] [84]]
   simp only [Option.bind_some,List.reverse_singleton]
   rw [zfx (zep (by decide) _ _ _ h.shS).len]
   rfl
 ·have hT:(zyI x.C).length≤25:=by
   unfold zyI
   cases zfz (91 ::x.C)
   ·exact Nat.zero_le _
   ·show (91 ::x.C).length≤25
    simp;omega
  refine ⟨(loc,(zah L [84] [[73]] stk (b||!thA L x.C)).1++[zyI x.C],(zah L [84] [[73]] stk (b||!thA L x.C)).2),_,?_,?_,zfn _,zeP (fun e=>zbt _ _ _ (by rw [e];rfl)) h.shL h.shS (zdX _ _ _ _ _) hT fun e=>.inr ?_⟩
  ·rw [zis (by omega)]
   unfold zaB
   rw [qf (show x.Op≠49 by omega),qt h4]
   simp only [cond_true,cond_false]
   rw [zs2 (by omega)]
   simp only [Option.bind_some]
   rw [zoD h.made h.map hT]
   simp only [Option.bind_some]
   rw [zCU x.C (zsB L) fun hm=>ztI hm]
   simp only [Option.bind_some]
   rw [zgh h.made h.map (sh1 hI) h.shS]
   simp only [Option.bind_some,List.reverse_singleton]
   rw [zfv (zep (by decide) _ _ _ h.shS).len]
   rfl
  ·rw [instr_arrays (by omega)]
   unfold zaX
   rw [qf (show x.Op≠49 by omega),qt h4]
   simp only [cond_true,cond_false]
   rw [ztu (by omega)]
   simp only [Option.bind_some]
   rw [zb5 h.made (by omega)]
   simp only [Option.bind_some]
   rw [zCU x.C (thN L) fun hm=>rfl]
   simp only [Option.bind_some]
   rw [zeQ h.made (sh1 hI) h.shS,zfy [78] [84]]
   simp only [Option.bind_some,List.reverse_singleton]
   rw [zfx (zep (by decide) _ _ _ h.shS).len]
   rfl
  ·have hth:thA L x.C=true:=by
    cases hq:thA L x.C with
    |true=>rfl
    |false=>rw [hq,zbt _ _ _ (by simp)] at e;cases e
   unfold thA at hth
   rw [Bool.and_eq_true] at hth
   unfold zyI at hT ⊢
   rw [hth.1] at hT ⊢
   exact zxG hth.1 hT
 ·refine ⟨(loc,(zah L [84] [[73],[91,73]] stk b).1++[[73]],(zah L [84] [[73],[91,73]] stk b).2),_,?_,?_,zfn _,zeP (zbt _ _ _) h.shL h.shS (zdX _ _ _ _ _) hI fun _=>.inr zmG⟩
  ·rw [zis (by omega)]
   unfold zaB
   rw [qf (show x.Op≠49 by omega),qf (show x.Op≠50 by omega),qf (show x.Op≠51 by omega),qt h4]
   simp only [cond_true,cond_false]
   rw [zgh h.made h.map (sh2 hA hI) h.shS]
   simp only [Option.bind_some]
   rw [show ([[91,73],[73]]:List Tx).reverse=[[73],[91,73]] from rfl,zfv (zep (by decide) _ _ _ h.shS).len]
   rfl
  ·rw [instr_arrays (by omega)]
   unfold zaX
   rw [qf (show x.Op≠49 by omega),qf (show x.Op≠50 by omega),qf (show x.Op≠51 by omega),qt h4]
   simp only [cond_true,cond_false]
   rw [zeQ h.made (sh2 hA hI) h.shS,zfy [78] [84]]
   simp only [Option.bind_some]
   rw [show ([[91,73],[73]]:List Tx).reverse=[[73],[91,73]] from rfl,zfx (zep (by decide) _ _ _ h.shS).len]
   rfl
 ·have hl:=zkA (L:=L) [84] [[73],[73],[91,73]] stk b
  refine ⟨(loc,zah L [84] [[73],[73],[91,73]] stk b),(loc,zah L [84] [[73],[73],[91,73]] stk b),?_,?_,zfV fun _=>by show ((zah L [84] [[73],[73],[91,73]] stk b).1.length:Int)≤mt.Stack;omega,zq4 id h.shL h.shS⟩
  ·rw [zis (by omega)]
   unfold zaB
   rw [qf (show x.Op≠49 by omega),qf (show x.Op≠50 by omega),qf (show x.Op≠51 by omega),qf (show x.Op≠52 by omega),qt h4]
   simp only [cond_true,cond_false]
   rw [zgh h.made h.map (sh3 hA hI hI) h.shS]
   rfl
  ·rw [instr_arrays (by omega)]
   unfold zaX
   rw [qf (show x.Op≠49 by omega),qf (show x.Op≠50 by omega),qf (show x.Op≠51 by omega),qf (show x.Op≠52 by omega),qt h4]
   simp only [cond_true,cond_false]
   rw [zeQ h.made (sh3 hA hI hI) h.shS,zfy [78] [84]]
   rfl
theorem zDa(e:Tx)(s:List Tx)(b:Bool):(zlh e s b).2.1.length≤s.length:=zrl e s b
theorem zDb{s:List Tx}{b:Bool}(hs:∀t∈s,onS t)(hl:∀t∈s,t.length≤25)(h:(zlh [84] s b).2.2=false):zAQ (zlh [84] s b).1:=by
 unfold zlh at h ⊢
 simp only [Bool.or_eq_false_iff,Bool.not_eq_false'] at h
 have hin:=zmY h.1
 generalize (zbM [84] s b).1=t at h hin
 have h1:=hl t hin
 simp only
 cases hq:t == [78] with
 |true =>
  have e:t=[78]:=by simpa using hq
  rw [e];exact zBg
 |false =>
  rw [hq] at h
  simp only [Bool.false_or,Bool.and_eq_true] at h
  have h2:=h.2.1
  unfold zic at h2 ⊢
  cases hb:zfz t&&brk t with
  |false=>rw [hb] at h2;cases h2
  |true =>
   rw [Bool.and_eq_true] at hb
   refine zxG (zqq hb.1 hb.2).1 ?_
   show (t.drop 1).length≤25
   simp;omega
theorem zAg(h:zfF l L m mt loc stk b)(ho:x.Op=51∨x.Op=54∨x.Op=55):
  ∃p r,zg L m c mt loc stk b x=some p∧zj L c mt loc stk b x=some r∧zpl mt.Stack p r∧znC loc stk b p:=by
 have hI:=zmG.1
 have hr:=h.room
 rcases ho with h4 |h4 |h4
 ·obtain ⟨g1,g2⟩:=zen (b:=b) h.shS (e:=[84]) (by decide)
  obtain ⟨k1,k2⟩:=zen (b:=b) h.shS (e:=[78]) (by decide)
  have hb:((zbM [78] stk b).2.2||!zEj (zbM [78] stk b).1)=((zbM [84] stk b).2.2||!((zic (zbM [84] stk b).1).2||((zbM [84] stk b).1 == [78]))):=by
   have e2:=zk0 [78] [84] stk b
   rw [e2]
   refine zri fun e=>?_
   rw [←zfS [84] [78] stk b e,zED (h.on _ (zmY e))]
  refine ⟨(loc,(zbM [84] stk b).2.1++[[73]],(zbM [84] stk b).2.2||!((zic (zbM [84] stk b).1).2||((zbM [84] stk b).1 == [78]))),_,?_,?_,zfn _,zeP (fun e=>by rw [zhr e];rfl) h.shL h.shS (zhs _ _ _) hI fun _=>.inr zmG⟩
  ·rw [zis (by omega)]
   unfold zaB
   rw [qf (show x.Op≠49 by omega),qf (show x.Op≠50 by omega),qt h4]
   simp only [cond_true,cond_false]
   rw [znW h.shS.len]
   simp only [Option.bind_some]
   rw [zhF (zvZ g1)]
   simp only [Option.bind_some]
   rw [zfv g2.len]
   rfl
  ·rw [instr_arrays (by omega)]
   unfold zaX
   rw [qf (show x.Op≠49 by omega),qf (show x.Op≠50 by omega),qt h4]
   simp only [cond_true,cond_false]
   rw [zj8 h.shS.len]
   simp only [Option.bind_some]
   rw [zDJ]
   simp only [Option.bind_some]
   rw [zfx k2.len,hb,zk0 [78] [84]]
   rfl
 ·have hT:=zep (L:=L) (e:=[84]) (by decide) [[73]] stk b h.shS
  have hP:=zdX L [84] [[73]] stk b
  have hB:b=true→(zah L [84] [[73]] stk b).2=true:=zbt _ _ _
  have hOn:∀t∈(zah L [84] [[73]] stk b).1,onS t:=fun t ht=>h.on t (hP.subset ht)
  have hO:zg L m c mt loc stk b x=some (loc,(zlh [84] (zah L [84] [[73]] stk b).1 (zah L [84] [[73]] stk b).2).2.1++[(zlh [84] (zah L [84] [[73]] stk b).1 (zah L [84] [[73]] stk b).2).1],(zlh [84] (zah L [84] [[73]] stk b).1 (zah L [84] [[73]] stk b).2).2.2):=by
   rw [zis (by omega)]
   unfold zaB
   rw [qf (show x.Op≠49 by omega),qf (show x.Op≠50 by omega),qf (show x.Op≠51 by omega),qf (show x.Op≠52 by omega),qf (show x.Op≠53 by omega),qt h4]
   simp only [cond_true,cond_false]
   rw [zgh h.made h.map (sh1 hI) h.shS]
   simp only [Option.bind_some,List.reverse_singleton]
   rw [zwc hT]
   simp only [Option.bind_some]
   rw [zfv (zvg hT (by decide)).2.len]
   rfl
  have hD:zj L c mt loc stk b x=some (loc,(zp1 mt.Stack (zlh [78] (zah L [84] [[73]] stk b).1 (zah L [84] [[73]] stk b).2).2.1 (zlh [78] (zah L [84] [[73]] stk b).1 (zah L [84] [[73]] stk b).2).2.2 (zlh [78] (zah L [84] [[73]] stk b).1 (zah L [84] [[73]] stk b).2).1).1,(zp1 mt.Stack (zlh [78] (zah L [84] [[73]] stk b).1 (zah L [84] [[73]] stk b).2).2.1 (zlh [78] (zah L [84] [[73]] stk b).1 (zah L [84] [[73]] stk b).2).2.2 (zlh [78] (zah L [84] [[73]] stk b).1 (zah L [84] [[73]] stk b).2).1).2):=by
   rw [instr_arrays (by omega)]
   unfold zaX
   rw [qf (show x.Op≠49 by omega),qf (show x.Op≠50 by omega),qf (show x.Op≠51 by omega),qf (show x.Op≠52 by omega),qf (show x.Op≠53 by omega),qt h4]
   simp only [cond_true,cond_false]
   rw [zeQ h.made (sh1 hI) h.shS,zfy [78] [84]]
   simp only [Option.bind_some,List.reverse_singleton]
   rw [zuF hT]
   simp only [Option.bind_some]
   rw [zfx (zvg hT (by decide)).2.len]
   rfl
  generalize zah L [84] [[73]] stk b=q at hT hP hB hOn hO hD
  have hK:znC loc stk b (loc,(zlh [84] q.1 q.2).2.1++[(zlh [84] q.1 q.2).1],(zlh [84] q.1 q.2).2.2):=
   zeP (fun e=>zwa (hB e)) h.shL h.shS ((zwb _ _ _).trans hP) (zvg hT (by decide)).1 fun e=>.inr (zDb hOn hT.2 e)
  refine ⟨_,_,hO,hD,?_,hK⟩
  have e2:=zCs [78] [84] q.1 q.2
  cases hb:(zlh [84] q.1 q.2).2.2 with
  |true=>exact zgF rfl (zo2 (by rw [e2];exact hb))
  |false =>
   rw [←zxv [84] [78] q.1 q.2 hb,e2,hb]
   exact zfn _
 ·have e2:=(zpc (b:=b) h.on).1
  obtain ⟨g1,g2⟩:=ztE (b:=b) h.shS (e:=[84]) (by decide)
  have hP0:=zlN [84] stk b
  have hB0:b=true→(zhO [84] stk b).2.2=true:=znx
  have hT:=zep (L:=L) (e:=[84]) (by decide) [[73]] (zhO [84] stk b).2.1 (zhO [84] stk b).2.2 g2
  have hP:=(zdX L [84] [[73]] (zhO [84] stk b).2.1 (zhO [84] stk b).2.2).trans hP0
  have hB:b=true→(zah L [84] [[73]] (zhO [84] stk b).2.1 (zhO [84] stk b).2.2).2=true:=fun e=>zbt _ _ _ (hB0 e)
  have hO:zg L m c mt loc stk b x=some (loc,(zlh [84] (zah L [84] [[73]] (zhO [84] stk b).2.1 (zhO [84] stk b).2.2).1 (zah L [84] [[73]] (zhO [84] stk b).2.1 (zhO [84] stk b).2.2).2).2.1,(zlh [84] (zah L [84] [[73]] (zhO [84] stk b).2.1 (zhO [84] stk b).2.2).1 (zah L [84] [[73]] (zhO [84] stk b).2.1 (zhO [84] stk b).2.2).2).2.2):=by
   rw [zis (by omega)]
   unfold zaB
   rw [qf (show x.Op≠49 by omega),qf (show x.Op≠50 by omega),qf (show x.Op≠51 by omega),qf (show x.Op≠52 by omega),qf (show x.Op≠53 by omega),qf (show x.Op≠54 by omega)]
   simp only [cond_true,cond_false]
   rw [zsu h.shS]
   simp only [Option.bind_some]
   rw [zgh h.made h.map (sh1 hI) g2]
   simp only [Option.bind_some,List.reverse_singleton]
   rw [zwc hT]
   rfl
  have hD:zj L c mt loc stk b x=some (loc,(zlh [78] (zah L [84] [[73]] (zhO [84] stk b).2.1 (zhO [84] stk b).2.2).1 (zah L [84] [[73]] (zhO [84] stk b).2.1 (zhO [84] stk b).2.2).2).2.1,(zlh [78] (zah L [84] [[73]] (zhO [84] stk b).2.1 (zhO [84] stk b).2.2).1 (zah L [84] [[73]] (zhO [84] stk b).2.1 (zhO [84] stk b).2.2).2).2.2):=by
   rw [instr_arrays (by omega)]
   unfold zaX
   rw [qf (show x.Op≠49 by omega),qf (show x.Op≠50 by omega),qf (show x.Op≠51 by omega),qf (show x.Op≠52 by omega),qf (show x.Op≠53 by omega),qf (show x.Op≠54 by omega),qt h4]
   simp only [cond_true,cond_false]
   rw [zoz h.shS]
   simp only [Option.bind_some]
   rw [e2,zeQ h.made (sh1 hI) g2,zfy [78] [84]]
   simp only [Option.bind_some,List.reverse_singleton]
   rw [zuF hT]
   rfl
  rw [zCs [78] [84]] at hD
  have hl:=zDa [84] (zah L [84] [[73]] (zhO [84] stk b).2.1 (zhO [84] stk b).2.2).1 (zah L [84] [[73]] (zhO [84] stk b).2.1 (zhO [84] stk b).2.2).2
  have hl2:=hP.length_le
  exact ⟨_,_,hO,hD,zfV fun _=>by omega,zfO (fun e=>zwa (hB e)) h.shL h.shS ((zwb _ _ _).trans hP)⟩
end
section
variable {l L : List za} {m : List (Tx × Int)} {c : Tx} {mt : zb} {loc stk : List Tx} {b : Bool} {x : zp}
theorem zzq{x:zp}(h:zjg x=true):(1≤x.Op∧x.Op≤61)∧zlE x.Op x.A=true∧zte x.Op x.C=true:=by
 unfold zjg zlD zeC at h
 simp only [Bool.and_eq_true,decide_eq_true_eq] at h
 exact ⟨h.1.1.1,h.1.1.2,h.1.2⟩
def zCq(L:List za)(m:List (Tx×Int))(c:Tx)(mt:zb)(loc stk:List Tx)(b:Bool)(x:zp):Prop:=
 ∃p r,zg L m c mt loc stk b x=some p∧zj L c mt loc stk b x=some r∧zpl mt.Stack (p.1,p.2.1,cond (zfA x.Op) (p.2.2||!zoO L mt p.1 p.2.1 x.A) p.2.2) r∧znC loc stk b p
theorem zEa(hj:zfA x.Op=false)(h:∃p r,zg L m c mt loc stk b x=some p∧zj L c mt loc stk b x=some r∧zpl mt.Stack p r∧znC loc stk b p):zCq L m c mt loc stk b x:=by
 obtain ⟨p,r,h1,h2,h3,h4⟩:=h
 exact ⟨p,r,h1,h2,by rw [hj];exact h3,h4⟩
theorem zB8(h:zfF l L m mt loc stk b)(hk:zmv mt)(hm:zjg x=true)(hc:c.length≤25):zCq L m c mt loc stk b x:=by
 obtain ⟨hO,hA,hC⟩:=zzq hm
 have h10:=zBt hm
 by_cases hj:20≤x.Op∧x.Op≤36
 ·have e:zfA x.Op=true:=bt hj
  obtain ⟨p,r,h1,h2,h3,h4⟩:=zAj (c:=c) h hk hj
  exact ⟨p,r,h1,h2,by rw [e];exact h3,h4⟩
 have e:zfA x.Op=false:=bf hj
 refine zEa e ?_
 by_cases h1:x.Op=1∨x.Op=2
 ·exact zyf h h1
 by_cases h3:x.Op=3
 ·have:0≤x.A:=by
   unfold zlE zeC at hA
   rw [h3] at hA
   simp at hA
   omega
  exact zAk h h3 this
 by_cases h4:x.Op=4
 ·have:0≤x.A:=by
   unfold zlE zeC at hA
   rw [h4] at hA
   simp at hA
   omega
  exact zyh h h4 this
 by_cases h5:x.Op=5
 ·exact zCc h h5
 by_cases h6:x.Op=6
 ·exact zB9 h h6
 by_cases h7:x.Op=7
 ·exact zAm h h7
 by_cases h8:8≤x.Op∧x.Op≤19
 ·exact zye h h8
 by_cases h9:x.Op=37
 ·exact zCa h h9 (by omega)
 by_cases h11:38≤x.Op∧x.Op≤41
 ·exact zyg h h11 (by omega)
 by_cases h12:42≤x.Op∧x.Op≤45
 ·exact zAh h h12 (by omega) hc
 by_cases h13:x.Op=46∨x.Op=47
 ·exact zCd h h13
 by_cases h14:x.Op=48
 ·exact zAe h h14 hk.ret (zrx hk.ret)
 by_cases h15:x.Op=49∨x.Op=50∨x.Op=52∨x.Op=53
 ·exact zAf h h15 h10
 by_cases h16:x.Op=51∨x.Op=54∨x.Op=55
 ·exact zAg h h16
 by_cases h17:x.Op=56∨x.Op=57
 ·refine zAi h h17 ?_ (by omega)
  have ht:zhq x.Op=true:=by
   unfold zhq
   rcases h17 with e |e <;> rw [e] <;> rfl
  unfold zte at hC
  rw [ht] at hC
  simp only [cond_true] at hC
  unfold zqg at hC
  rw [Bool.and_eq_true] at hC
  exact hC.2
 by_cases h18:x.Op=58
 ·exact zyi h h18
 by_cases h19:x.Op=59
 ·exact zD9 h h19
 exact zCb h (by omega)
theorem zy2(n:Int):zhY n=zjP n:=rfl
theorem zxp(h:zfF l L m mt loc stk false)(hk:zmv mt){p:List Tx×List Tx×Bool}(hp:znC loc stk false p)(hb:p.2.2=false)(hr:(p.2.1.length:Int)≤mt.Stack):zfF l L m mt p.1 p.2.1 false:=by
 obtain ⟨_,⟨k1,k2,k3,k4⟩,k5⟩:=hp
 obtain ⟨k6,k7⟩:=k5 hb
 have hs:=hk.stack.2
 refine ⟨h.made,h.map,h.lens,⟨by rw [k1];exact h.shL.1,k3⟩,⟨by omega,k4⟩,fun t ht=>?_,hr,fun t ht=>?_⟩
 ·rcases k6 t ht with e |e
  ·exact h.on t e
  ·exact e.2
 ·rcases k7 t ht with e |e
  ·exact h.onL t e
  ·exact .inr (h.on t e)
end
section
variable {l L : List za} {m : List (Tx × Int)} {c : Tx} {mt : zb} {loc stk : List Tx} {b : Bool}
def zyb(L:List za)(m:List (Tx×Int))(c:Tx)(mt:zb)(z:List Tx×List Tx×Bool×Bool×Int):Option Bool:=
 (zl (fun z=>zaG c (zH.mk L m) mt z.1 z.2.1 z.2.2.1 z.2.2.2.1 z.2.2.2.2) z).bind fun o=>zD o (fun b=>zlb b.1 b.2.1 b.2.2) some
def zB0(L:List za)(c:Tx)(mt:zb)(z:List Tx×List Tx×Bool×Bool×Int):Option Bool:=
 (zl (fun z=>zaP c (zz.mk L) mt z.1 z.2.1 z.2.2.1 z.2.2.2.1 z.2.2.2.2) z).bind fun o=>zD o (fun b=>zjh b.1 b.2.1 b.2.2.1 b.2.2.2) some
theorem zz9{g g':Bool}{i i':Int}{loc' stk':List Tx}{b':Bool}(h:zaG c (zH.mk L m) mt loc stk b g i=some (.inl (loc',stk',b',g',i'))):zyb L m c mt (loc,stk,b,g,i)=zyb L m c mt (loc',stk',b',g',i'):=by
 unfold zyb
 rw [zI]
 show ((zaG c (zH.mk L m) mt loc stk b g i).bind _).bind _=_
 rw [h];rfl
theorem zuU{g:Bool}{i:Int}{v:Bool}(h:zaG c (zH.mk L m) mt loc stk b g i=some (.inr (.inr v))):zyb L m c mt (loc,stk,b,g,i)=some v:=by
 unfold zyb
 rw [zI]
 show ((zaG c (zH.mk L m) mt loc stk b g i).bind _).bind _=_
 rw [h];rfl
theorem zuT{g:Bool}{i:Int}(h:zaG c (zH.mk L m) mt loc stk b g i=some (.inr (.inl (loc,stk,b)))):zyb L m c mt (loc,stk,b,g,i)=some (!b):=by
 unfold zyb
 rw [zI]
 show ((zaG c (zH.mk L m) mt loc stk b g i).bind _).bind _=_
 rw [h];rfl
theorem zz8{g g':Bool}{i i':Int}{loc' stk':List Tx}{b':Bool}(h:zaP c (zz.mk L) mt loc stk b g i=some (.inl (loc',stk',b',g',i'))):zB0 L c mt (loc,stk,b,g,i)=zB0 L c mt (loc',stk',b',g',i'):=by
 unfold zB0
 rw [zI]
 show ((zaP c (zz.mk L) mt loc stk b g i).bind _).bind _=_
 rw [h];rfl
theorem zuS{g:Bool}{i:Int}(h:zaP c (zz.mk L) mt loc stk b g i=some (.inr (.inl (loc,stk,b,g)))):zB0 L c mt (loc,stk,b,g,i)=some (!b&&!g):=by
 unfold zB0
 rw [zI]
 show ((zaP c (zz.mk L) mt loc stk b g i).bind _).bind _=_
 rw [h];rfl
theorem zw6(h:zcg l L)(hm:zbr L m)(hk:zmv mt)(hl:ShL loc)(hs:ShL stk){g:Bool}{i:Nat}(hi:i≤mt.Code.length):zyb L m c mt (loc,stk,true,g,(i:Int))=some false:=by
 by_cases hlt:i<mt.Code.length
 ·refine zuU ?_
  unfold zaG
  have hx:mt.Code[i]?=some mt.Code[i]:=List.getElem?_eq_getElem hlt
  rw [zd9 hx,zr,hx]
  simp only [cond_true,Option.bind_some]
  rw [zy4 h hm hk hl hs]
  rfl
 ·refine zuT ?_
  unfold zaG
  rw [decide_eq_false (by omega)]
  rfl
theorem ztH{g:Bool}{i:Int}:zB0 L c mt (loc,stk,true,g,i)=some false:=by
 refine zuS ?_
 unfold zaP
 rw [Bool.not_true,Bool.and_false]
 rfl
theorem zDr(h:zcg l L)(hk:zmv mt)(hl:ShL loc)(hs:ShL stk){g:Bool}{i:Nat}{x:zp}(hx:mt.Code[i]?=some x):
  zaP c (zz.mk L) mt loc stk false g (i:Int) =
   (zb4 L c mt (zha L mt loc stk i g).1 (zha L mt loc stk i g).2.1 (zha L mt loc stk i g).2.2 (i:Int)).bind fun v98 =>
    (zj L c mt (zha L mt loc stk i g).1 (zha L mt loc stk i g).2.1 v98 x).bind fun v100=>some (.inl (v100.1,v100.2.1,v100.2.2,(!(zhY x.Op)),(IntKind.i64.wrap ((i:Int)+1)))):=by
 unfold zaP
 rw [zd9 hx]
 simp only [Bool.not_false,Bool.and_true,cond_true]
 rw [ztc hk]
 unfold zEE zha
 have key:∀(v:zS×Bool) (b:Bool) (p q:List Tx),zeg c (zz.mk L) mt g (i:Int) v b p q =
   (zb4 L c mt p q (b||!(v.2||g)) (i:Int)).bind fun v98=>(zj L c mt p q v98 x).bind fun v100=>some (.inl (v100.1,v100.2.1,v100.2.2,(!(zhY x.Op)),(IntKind.i64.wrap ((i:Int)+1)))):=fun v b p q=>by
  unfold zeg
  rw [zr,hx]
  rfl
 cases hf:zwI mt (i:Int) with
 |none =>
  simp only [Option.bind_some,Bool.false_and,cond_false]
  unfold zcS
  simp only [cond_false]
  rw [key]
  simp
 |some y =>
  have hy:=zrb hk hf
  simp only [Option.bind_some,Bool.true_and]
  have key2:∀b:Bool,zcS c (zz.mk L) mt loc stk g (i:Int) (y,true) b=(zb4 L c mt y.Locals y.Stack b (i:Int)).bind fun v98=>(zj L c mt y.Locals y.Stack v98 x).bind fun v100=>some (.inl (v100.1,v100.2.1,v100.2.2,(!(zhY x.Op)),(IntKind.i64.wrap ((i:Int)+1)))):=fun b=>by
   unfold zcS
   simp only [cond_true]
   rw [zyX (hy.shl hk).len (hy.shs hk).len]
   simp only [Option.bind_some]
   rw [key]
   simp
  rw [zzj h hk hl hs]
  cases g with
  |true=>simp only [cond_true,Option.bind_some,Bool.false_or,Bool.true_and];exact key2 _
  |false=>simp only [cond_false,Bool.false_and];exact key2 _
theorem zB1(hk:zmv mt)(hc:c.length≤25):∀(d i:Nat) (loc stk:List Tx) (g:Bool),d+i=mt.Code.length→zfF l L m mt loc stk false→(d=0→g=false) →
  ∃v,zyb L m c mt (loc,stk,false,g,(i:Int))=some v∧zB0 L c mt (loc,stk,false,g,(i:Int))=some v:=by
 intro d
 induction d with
 |zero =>
  intro i loc stk g hd h hg
  have hg:=hg rfl
  subst hg
  refine ⟨true,?_,?_⟩
  ·refine zuT ?_
   unfold zaG
   rw [decide_eq_false (by omega)]
   rfl
  ·refine zuS ?_
   unfold zaP
   rw [decide_eq_false (by omega)]
   rfl
 |succ d ih =>
  intro i loc stk g hd h hg
  have hlt:i<mt.Code.length:=by omega
  have hx:mt.Code[i]?=some mt.Code[i]:=List.getElem?_eq_getElem hlt
  have hxm:=hk.ins _ (List.getElem_mem hlt)
  have h100:=hk.code.2
  generalize mt.Code[i]=x at hx hxm
  have hw:IntKind.i64.wrap ((i:Int)+1)=((i+1:Nat):Int):=zN (by omega)
  have hE:∀b,zfF l L m mt (zha L mt loc stk i g).1 (zha L mt loc stk i g).2.1 b:=fun b=>zvk h hk
  have hD:=zDr (c:=c) h.made hk h.shL h.shS (g:=g) hx
  have hP:zaG c (zH.mk L m) mt loc stk false g (i:Int)=cond (zha L mt loc stk i g).2.2 (some (.inr (.inr false))) ((zel L m c mt (zha L mt loc stk i g).1 (zha L mt loc stk i g).2.1 (zha L mt loc stk i g).2.2 (i:Int)).bind fun v51=>(zg L m c mt (zha L mt loc stk i g).1 (zha L mt loc stk i g).2.1 v51 x).bind fun v52=>cond (zfA x.Op) ((zdy L m c mt v52.1 v52.2.1 v52.2.2 x.A).bind fun v53=>ze5 mt (i:Int) x v52 v53) (ze5 mt (i:Int) x v52 v52.2.2)):=by
   unfold zaG
   rw [zd9 hx,zr,hx]
   simp only [cond_true,Option.bind_some]
   rw [zy4 h.made h.map hk h.shL h.shS]
   rfl
  generalize zha L mt loc stk i g=E at hE hD hP
  obtain ⟨p,r,s1,s2,s3,s4⟩:=zB8 (c:=c) (hE (E.2.2||mt.Traps.any (zrK L mt E.1 i))) hk hxm hc
  rw [zEf h.made hk (hE false).shL] at hD
  simp only [Option.bind_some] at hD
  rw [s2] at hD
  simp only [Option.bind_some] at hD
  rw [hw,zy2] at hD
  have hDn:=zz8 hD
  cases hb:E.2.2 with
  |true =>
   rw [hb] at hP s4
   refine ⟨false,zuU hP,?_⟩
   have hpb:p.2.2=true:=s4.1 rfl
   have hrb:r.2.2=true:=by
    rw [←s3.1,hpb]
    cases zfA x.Op <;> rfl
   rw [hDn,hrb]
   exact ztH
  |false =>
   rw [hb] at hP s1 s4
   simp only [cond_false] at hP
   rw [zEe h.made h.map hk (hE false).shL] at hP
   simp only [Option.bind_some] at hP
   rw [s1] at hP
   simp only [Option.bind_some] at hP
   obtain ⟨k0,⟨k1,k2,k3,k4⟩,k5⟩:=s4
   have hroom:=(hE false).room
   have hst:=hk.stack.2
   have hl1:ShL p.1:=⟨by rw [k1];exact (hE false).shL.1,k3⟩
   have hs1:ShL p.2.1:=⟨by omega,k4⟩
   rw [zCD h.made h.map hk hl1 hs1] at hP
   have hP2:zaG c (zH.mk L m) mt loc stk false g (i:Int)=some (.inl (p.1,p.2.1,r.2.2,!zjP x.Op,((i+1:Nat):Int))):=by
    rw [hP,←s3.1,←hw]
    unfold ze5
    cases zfA x.Op <;> rfl
   have hPn:=zz9 hP2
   rw [hPn,hDn]
   cases hrb:r.2.2 with
   |true=>exact ⟨false,zw6 h.made h.map hk hl1 hs1 (by omega),ztH⟩
   |false =>
    obtain ⟨e1,e2⟩:=s3.2 hrb
    simp only at e1 e2
    rw [←e1,←e2]
    have hsum:=s3.1
    rw [hrb] at hsum
    simp only [Bool.or_eq_false_iff,Bool.not_eq_false',decide_eq_true_eq] at hsum
    have hpb:p.2.2=false:=by
     have:=hsum.1
     cases hq:zfA x.Op with
     |true=>rw [hq] at this;simp only [cond_true,Bool.or_eq_false_iff] at this;exact this.1
     |false=>rw [hq] at this;exact this
    have hT:(false||mt.Traps.any (zrK L mt E.1 i))=false:=by
     cases hq:(false||mt.Traps.any (zrK L mt E.1 i)) with
     |false=>rfl
     |true=>rw [hq] at k0;rw [k0 rfl] at hpb;cases hpb
    rw [hT] at k0
    refine ih (i+1) p.1 p.2.1 (!zjP x.Op) (by omega) (zxp (hE false) hk ⟨k0,⟨k1,k2,k3,k4⟩,k5⟩ hpb hsum.2) fun h0=>?_
    obtain ⟨y,hy1,hy2⟩:=hk.last
    rw [List.getLast?_eq_getElem?] at hy1
    have:mt.Code.length-1=i:=by omega
    rw [this,hx] at hy1
    cases hy1
    rw [hy2];rfl
end
theorem zwW{R:Type}{n:Int}{body:List Tx→Option (Sum (List Tx) (Sum (List Tx) R))}
  (hb:∀z:List Tx,body z=cond (decide (((List.length z):Int)<n)) ((zh9 16 z ([[84]])).bind fun v=>some (.inl v)) (some (.inr (.inl z)))):
  ∀(k:Nat) (z:List Tx),((z.length+k:Nat):Int)=n→z.length+k≤1000→zl body z=some (.inl (z++List.replicate k [84]))
 | 0,z,h,h2=>by
  rw [zI,hb,decide_eq_false (by omega)]
  simp
 |k+1,z,h,h2=>by
  rw [zI,hb,decide_eq_true (by omega),zc3 (by simp;omega) (by simp;omega)]
  simp only [cond_true,Option.bind_some,Sum.elim_inl]
  rw [zwW hb k (z++[[84]]) (by simp;omega) (by simp;omega)]
  simp [List.replicate_succ]
section
variable {l L : List za} {m : List (Tx × Int)} {c : Tx} {f : zb} {b : Bool}
def zpv(L:List za)(T:List Tx):Bool:=T.any fun t=>!zsB L t
theorem zAD(h:zcg l L)(hm:zbr L m){T:List Tx}(hT:ShL T):zjA T L m=some (!zpv L T):=by
 unfold zjA zba zcN
 rw [show ((zl (fun z=>zbh T L m z) 0).bind fun o=>zD o (fun b=>zey) some)=_ from zaD (l:=T) (p:=fun t=>!zsB L t) (by have:=hT.len;omega)
  (fun i x hx=>by
   have hl:=hT.2 x (List.mem_of_getElem? hx)
   unfold zbh znh zkc
   rw [zd9 hx,zr,hx]
   simp only [Option.bind_some,cond_true]
   rw [zoD h hm hl]
   rfl) (by unfold zbh;rw [zeD];rfl)]
 rw [Option.bind_some,zem]
 rfl
theorem zCl(h:zcg l L)(hm:zbr L m){T:List Tx}(hT:ShL T):zh7 T L m=some (!T.any fun t=>!thN L t):=by
 unfold zh7 zbb zcO
 rw [show ((zl (fun z=>zbi T L m z) 0).bind fun o=>zD o (fun b=>zez) some)=_ from zaD (l:=T) (p:=fun t=>!thN L t) (by have:=hT.len;omega)
  (fun i x hx=>by
   have hl:=hT.2 x (List.mem_of_getElem? hx)
   unfold zbi zke zkd
   rw [zd9 hx,zr,hx]
   simp only [Option.bind_some,cond_true]
   rw [zpL h hm hl (zvZ hl),zqw]
   rfl) (by unfold zbi;rw [zeD];rfl)]
 rw [Option.bind_some,zem]
 rfl
def zxS(c:Tx)(f:zb):List Tx:=cond (!f.Static) [c] []++f.Params
def zol(c:Tx)(f:zb):List Tx:=zxS c f++List.replicate (f.Locals.toNat-(zxS c f).length) [84]
theorem zun(hk:zmv f):((zxS c f).length:Int)=zao f:=by
 have h6:=hk.npar
 unfold zxS zao
 cases f.Static with
 |true=>simp
 |false =>
  rw [zlX (by omega) (by omega)]
  simp
theorem zCO{R:Type}(hk:zmv f){body:List Tx→Option (Sum (List Tx) (Sum (List Tx) R))}
  (hb:∀z:List Tx,body z=cond (decide (((List.length z):Int)<f.Locals)) ((zh9 16 z ([[84]])).bind fun v=>some (.inl v)) (some (.inr (.inl z)))):zl body (zxS c f)=some (.inl (zol c f)):=by
 have h1:=zun (c:=c) hk
 have h2:=hk.locs
 exact zwW hb _ _ (by omega) (by omega)
theorem zzu(hk:zmv f):((zol c f).length:Int)=f.Locals:=by
 have h1:=zun (c:=c) hk
 have h2:=hk.locs
 unfold zol
 simp
 omega
theorem zuo(hk:zmv f)(hc:zfz c=true):∀t∈zol c f,t.length≤25∧(t=[84]∨onS t):=by
 intro t ht
 unfold zol zxS at ht
 rcases List.mem_append.1 ht with h |h
 ·rcases List.mem_append.1 h with h |h
  ·have:t=c:=by
    cases hs:f.Static with
    |true=>rw [hs] at h;cases h
    |false=>rw [hs] at h;simpa using h
   rw [this]
   exact ⟨zl5 hc,.inr (.inr hc)⟩
  ·have:=hk.params t h
   exact ⟨zl5 this,.inr (.inr this)⟩
 ·rw [(List.mem_replicate.1 h).2]
  exact ⟨by decide,.inl rfl⟩
theorem zvd(h:zcg l L)(hm:zbr L m)(hL:zkg L)(hk:zmv f)(hc:zfz c=true):zfF l L m f (zol c f) [] false:=by
 have h1:=zzu (c:=c) hk
 have h2:=hk.locs
 have h3:=hk.stack
 exact ⟨h,hm,hL,⟨by omega,fun t ht=>(zuo hk hc t ht).1⟩,⟨Nat.zero_le _,fun t ht=>(List.not_mem_nil ht).elim⟩,fun t ht=>(List.not_mem_nil ht).elim,by simp;omega,fun t ht=>(zuo hk hc t ht).2⟩
def zCv(L:List za)(f:zb):Bool:=((f.Maps.any fun x=>zpv L x.Locals||zpv L x.Stack)||!((f.Ret == [86])||thN L f.Ret))||f.Params.any fun t=>!thN L t
theorem zDf(hk:zmv f)(b:Bool):zfk L c f [] [] b=some (zol c f):=by
 have h6:=hk.npar
 unfold zfk
 have key:zdK f (cond (!f.Static) [c] [])=some (zol c f):=by
  unfold zdK
  rw [zc3 (by cases f.Static <;> simp <;> omega) (by cases f.Static <;> simp <;> omega)]
  simp only [Option.bind_some]
  rw [show zl (fun z=>zgV f z) (cond (!f.Static) [c] []++f.Params)=_ from zCO (c:=c) hk (body:=fun z=>zgV f z) fun z=>rfl]
  rfl
 cases hs:f.Static with
 |true=>rw [hs] at key;exact key
 |false =>
  rw [hs] at key
  simp only [Bool.not_false,cond_true] at key ⊢
  rw [zc3 (by simp) (by simp)]
  exact key
theorem zzR(hk:zmv f):ShL f.Params:=⟨by have:=hk.npar;omega,fun s hs=>zl5 (hk.params s hs)⟩
theorem zBD(h:zcg l L)(hm:zbr L m)(hk:zmv f):((zl (fun z=>zed (zH.mk L m) f z.1 z.2) (false,0)).bind fun o=>zD o (fun b=>zjc c (zH.mk L m) f b) some)=zyb L m c f (zol c f,[],zCv L f,true,0):=by
 have h6:=hk.npar
 rw [znk (body:=fun z=>zed (zH.mk L m) f z.1 z.2) (l:=f.Maps) (p:=fun x=>zpv L x.Locals||zpv L x.Stack) (by have:=hk.nmaps;omega) (fun i x b hx=>by
  have hy:=hk.maps x (List.mem_of_getElem? hx)
  show zed (zH.mk L m) f b (i:Int)=_
  unfold zed
  rw [zd9 hx,zr,hx]
  simp only [cond_true,Option.bind_some]
  rw [zAD h hm (hy.shl hk),zAD h hm (hy.shs hk)]
  cases zpv L x.Locals <;> cases zpv L x.Stack <;> rfl) (fun b=>by
  show zed (zH.mk L m) f b (f.Maps.length:Int)=_
  unfold zed
  rw [zeD];rfl)]
 simp only [Option.bind_some,zD]
 have j4:∀(b v:Bool),zgq c (zH.mk L m) f b v (cond (!f.Static) [c] [])=zyb L m c f (zol c f,[],b||!v,true,0):=fun b v=>by
  unfold zgq
  rw [zc3 (by cases f.Static <;> simp <;> omega) (by cases f.Static <;> simp <;> omega)]
  simp only [Option.bind_some]
  rw [show zl (fun z=>zjd f z) (cond (!f.Static) [c] []++f.Params)=_ from zCO (c:=c) hk (body:=fun z=>zjd f z) fun z=>rfl]
  rfl
 have j3:∀b:Bool,zgp c (zH.mk L m) f b=zyb L m c f (zol c f,[],b||(f.Params.any fun t=>!thN L t),true,0):=fun b=>by
  unfold zgp
  rw [zCl h hm (zzR hk)]
  simp only [Option.bind_some]
  have:=j4 b (!f.Params.any fun t=>!thN L t)
  rw [Bool.not_not] at this
  rw [←this]
  cases hs:f.Static with
  |true=>rfl
  |false =>
   simp only [Bool.not_false,cond_true]
   rw [zc3 (by simp) (by simp)]
   rfl
 unfold zjc zCv
 have hr:=zrx hk.ret
 rw [zpL h hm hr (zvZ hr),zqw]
 simp only [Option.bind_some]
 rw [j3,j3]
 cases f.Ret == [86] <;> simp
theorem zBC(h:zcg l L)(hk:zmv f):((zl (fun z=>zcl (zz.mk L) f z.1 z.2) (false,0)).bind fun o=>zD o (fun b=>zhB c (zz.mk L) f b) some)=zB0 L c f (zol c f,[],zCv L f,true,0):=by
 have h6:=hk.npar
 rw [znk (body:=fun z=>zcl (zz.mk L) f z.1 z.2) (l:=f.Maps) (p:=fun x=>zpv L x.Locals||zpv L x.Stack) (by have:=hk.nmaps;omega) (fun i x b hx=>by
  have hy:=hk.maps x (List.mem_of_getElem? hx)
  have hl:=(hy.shl hk).1
  have hs:=(hy.shs hk).1
  show zcl (zz.mk L) f b (i:Int)=_
  unfold zcl
  rw [zd9 hx,zr,hx]
  simp only [cond_true,Option.bind_some]
  rw [zc3 (by simp;omega) (by simp;omega)]
  simp only [Option.bind_some,List.nil_append]
  rw [zc3 (by omega) (by omega)]
  simp only [Option.bind_some]
  rw [znk (body:=fun z=>zdk (zz.mk L) (x.Locals++x.Stack) z.1 z.2) (l:=x.Locals++x.Stack) (p:=fun t=>!zsB L t) (by simp;omega) (fun j t b ht=>by
   have hm:=List.mem_of_getElem? ht
   have h25:t.length≤25:=by
    rcases List.mem_append.1 hm with e |e
    ·exact hy.loc25 t e
    ·exact hy.stk25 t e
   show zdk (zz.mk L) (x.Locals++x.Stack) b (j:Int)=_
   unfold zdk
   rw [zd9 ht,zr,ht]
   simp only [cond_true,Option.bind_some]
   rw [zb5 h (by omega)]
   unfold zsB
   cases t == [84] <;> cases t == [78] <;> cases thN L t <;> rfl) (fun b=>by
   show zdk (zz.mk L) (x.Locals++x.Stack) b ((x.Locals++x.Stack).length:Int)=_
   unfold zdk
   rw [zeD];rfl)]
  rw [List.any_append]
  rfl) (fun b=>by
  show zcl (zz.mk L) f b (f.Maps.length:Int)=_
  unfold zcl
  rw [zeD];rfl)]
 simp only [Option.bind_some,zD]
 unfold zhB
 rw [znk (body:=fun z=>zdl (zz.mk L) f z.1 z.2) (l:=f.Params) (p:=fun t=>!thN L t) (by omega) (fun i t b ht=>by
  have h25:=(zzR hk).2 t (List.mem_of_getElem? ht)
  show zdl (zz.mk L) f b (i:Int)=_
  unfold zdl
  rw [zd9 ht,zr,ht]
  simp only [cond_true,Option.bind_some]
  rw [zb5 h (by omega)]
  rfl) (fun b=>by
  show zdl (zz.mk L) f b (f.Params.length:Int)=_
  unfold zdl
  rw [zeD];rfl)]
 simp only [Option.bind_some,zD]
 unfold zjY
 have hr:=zrx hk.ret
 rw [zb5 h (by omega)]
 have e:((cond (f.Ret == [86]) (some true) ((some (thN L f.Ret)).bind fun v69=>some v69)):Option Bool)=some ((f.Ret == [86])||thN L f.Ret):=by cases f.Ret == [86] <;> rfl
 rw [e]
 simp only [Option.bind_some]
 rw [zDf hk]
 simp only [Option.bind_some]
 have e2:(((false||f.Maps.any fun x=>zpv L x.Locals||zpv L x.Stack)||f.Params.any fun t=>!thN L t)||!((f.Ret == [86])||thN L f.Ret))=zCv L f:=by
  unfold zCv
  cases (f.Maps.any fun x=>zpv L x.Locals||zpv L x.Stack) <;> cases (f.Params.any fun t=>!thN L t) <;> cases ((f.Ret == [86])||thN L f.Ret) <;> rfl
 rw [e2]
 rfl
theorem zA6(h:zcg l L)(hm:zbr L m)(hL:zkg L)(hk:zmv f)(hc:zfz c=true):∃v,zyb L m c f (zol c f,[],zCv L f,true,0)=some v∧zB0 L c f (zol c f,[],zCv L f,true,0)=some v:=by
 have hA:=zvd h hm hL hk hc
 cases zCv L f with
 |true=>exact ⟨false,zw6 (i:=0) h hm hk hA.shL hA.shS (Nat.zero_le _),ztH⟩
 |false=>exact zB1 hk (zl5 hc) f.Code.length 0 (zol c f) [] true (by omega) hA fun e=>by have:=hk.code.1;omega
theorem zAE(h:zcg l L)(hm:zbr L m)(hL:zkg L)(c:Tx)(k:Int):∃v,zbX (some (zH.mk L m)) c k=some v∧zgn (some (zz.mk L)) c k=some v:=by
 have h26:=h.len
 unfold zbX zgn
 simp only [zuB]
 rw [zfG hm,zib (by omega)]
 simp only [Option.bind_some]
 rw [znJ]
 cases hc:cl L c with
 |none =>
  rw [zls hc]
  exact ⟨false,rfl,rfl⟩
 |some x =>
  rw [zgL hc,zjL,hc]
  simp only [Option.bind_some,Bool.not_true,Bool.false_or]
  by_cases h0:k<0
  ·rw [decide_eq_true h0]
   exact ⟨false,rfl,rfl⟩
  rw [decide_eq_false h0]
  simp only [Bool.false_or,cond_false]
  by_cases h1:(x.Methods.length:Int)≤k
  ·rw [decide_eq_true h1]
   exact ⟨false,rfl,rfl⟩
  rw [decide_eq_false h1]
  obtain ⟨n,rfl⟩:∃n:Nat,k=(n:Int):=⟨k.toNat,by omega⟩
  have hn:n<x.Methods.length:=by omega
  have hf:x.Methods[n]?=some x.Methods[n]:=List.getElem?_eq_getElem hn
  have hfm:=List.getElem_mem hn
  generalize x.Methods[n]=f at hf hfm
  rw [zr,hf]
  simp only [Option.bind_some,cond_false]
  cases ha:f.Abstract with
  |true=>exact ⟨false,rfl,rfl⟩
  |false =>
   have hk:=zEI (zwK h (zbs hc).1 hfm) ha
   have hcm:=zik (zkZ h (zgL hc))
   simp only [cond_false]
   rw [zBD h hm hk,zBC h hk]
   exact zA6 h hm hL hk hcm
end
theorem zF4{α:Type}{w:Nat}{a b:List α}(h:a.length+b.length≤1000)(hw:w≤1000):zh9 w a b=some (a++b):=zc3 (Nat.le_trans (Nat.mul_le_mul h hw) (by decide)) (by omega)
section
variable {l L : List za} {m : List (Tx × Int)}
def zhx(L:List za)(t:Tx):Bool:=(!(t == [86])&&!(t == []))&&!zsB L t
theorem zqW(h:zcg l L)(hm:zbr L m){t:Tx}(ht:t.length≤25):zer t L m=some (zhx L t):=by
 unfold zer zhx
 rw [zoD h hm ht]
 cases (!(t == [86])&&!(t == [])) <;> rfl
def zwO(L:List za)(x:zp):Bool:=
 cond ((((x.Op == 38)||(x.Op == 39))||(x.Op == 40))||(x.Op == 41)) (znE L x.C x.M).2.2
  (cond (((x.Op == 42)||(x.Op == 43))||(x.Op == 44)) ((((zeO L x.C).findSome? (znV L zaT x.M)).getD ([],zM,false)).2.2&&!isF L x.C) (cond (x.Op == 45) (zps L x.C x.M).2.2 true))
theorem zBE(h:zcg l L)(hm:zbr L m)(hL:zkg L)(x:zp):zkl L m x=some (zwO L x):=by
 unfold zkl zfM zgJ zfN zwO znE
 rw [zfG hm,zws h hm hL,zoX h hm hL,zy5 h hm hL,zuh]
 simp only [Option.bind_some]
 cases x.Op == 38 <;> cases x.Op == 39 <;> cases x.Op == 40 <;> cases x.Op == 41 <;> cases x.Op == 42 <;> cases x.Op == 43 <;> cases x.Op == 44 <;> cases x.Op == 45 <;> rfl
def zkH(L:List za)(x:zp):Bool:=zhx L x.C||!zwO L x
theorem zxN(h:zcg l L)(hm:zbr L m)(hL:zkg L){x:zp}(hx:x.C.length≤25):zho x L m L m=some (zkH L x):=by
 unfold zho zkH
 rw [zqW h hm hx,zBE h hm hL]
 cases zhx L x.C <;> rfl
theorem zyQ(h:zcg l L)(hm:zbr L m)(hL:zkg L){T:List zk}(hl:T.length≤10000)(hT:∀x∈T,x.Type_.length≤25):zag T L m=some (T.any fun x=>zhx L x.Type_):=by
 unfold zag zbR
 rw [show ((zl (fun z=>zaF T L m z) 0).bind fun o=>zD o (fun b=>zc0) some)=_ from zaD (l:=T) (p:=fun x:zk=>zhx L x.Type_) (by omega) (fun i x hx=>by
   unfold zaF zkF
   rw [zd9 hx,zr,hx]
   simp only [Option.bind_some,cond_true]
   rw [zqW h hm (hT x (List.mem_of_getElem? hx))]
   rfl) (by unfold zaF;rw [zeD];rfl)]
 rw [Option.bind_some,zem]
theorem zA7(h:zcg l L)(hm:zbr L m)(hL:zkg L){T:List zR}(hl:T.length≤10000)(hT:∀x∈T,x.C.length≤25):zaR T L m=some (T.any fun x=>zhx L x.C):=by
 unfold zaR zb1
 rw [show ((zl (fun z=>zaS T L m z) 0).bind fun o=>zD o (fun b=>zdB) some)=_ from zaD (l:=T) (p:=fun x:zR=>zhx L x.C) (by omega) (fun i x hx=>by
   unfold zaS zi3
   rw [zd9 hx,zr,hx]
   simp only [Option.bind_some,cond_true]
   rw [zqW h hm (hT x (List.mem_of_getElem? hx))]
   rfl) (by unfold zaS;rw [zeD];rfl)]
 rw [Option.bind_some,zem]
theorem zDi(h:zcg l L)(hm:zbr L m)(hL:zkg L){T:List zp}(hl:T.length≤10000)(hT:∀x∈T,x.C.length≤25):zaZ T L m L m=some (T.any fun x=>zkH L x):=by
 unfold zaZ zcp
 rw [show ((zl (fun z=>za0 T L m L m z) 0).bind fun o=>zD o (fun b=>zd7) some)=_ from zaD (l:=T) (p:=fun x:zp=>zkH L x) (by omega) (fun i x hx=>by
   unfold za0 
   rw [zd9 hx,zr,hx]
   simp only [Option.bind_some,cond_true]
   rw [zxN h hm hL (hT x (List.mem_of_getElem? hx))]
   rfl) (by unfold za0;rw [zeD];rfl)]
 rw [Option.bind_some,zem]
theorem zDk(h:zcg l L)(hm:zbr L m)(hL:zkg L){T:List Tx}(hl:T.length≤10000)(hT:∀x∈T,x.length≤25):zbc T L m=some (T.any fun x=>zhx L x):=by
 unfold zbc zcP
 rw [show ((zl (fun z=>zbj T L m z) 0).bind fun o=>zD o (fun b=>zeA) some)=_ from zaD (l:=T) (p:=fun x:Tx=>zhx L x) (by omega) (fun i x hx=>by
   unfold zbj 
   rw [zd9 hx,zr,hx]
   simp only [Option.bind_some,cond_true]
   rw [zqW h hm (hT x (List.mem_of_getElem? hx))]
   rfl) (by unfold zbj;rw [zeD];rfl)]
 rw [Option.bind_some,zem]
def zmU(L:List za)(f:zb):Bool:=((zhx L f.Ret||f.Params.any fun x=>zhx L x)||f.Traps.any fun x=>zhx L x.C)||f.Code.any fun x=>zkH L x
structure zC1(f:zb):Prop where
 pars:f.Params.length≤10000∧∀x∈f.Params,x.length≤25
 ret:f.Ret.length≤25
 traps:f.Traps.length≤10000∧∀x∈f.Traps,x.C.length≤25
 code:f.Code.length≤10000∧∀x∈f.Code,x.C.length≤25
theorem zmv.small{f:zb}(hk:zmv f):zC1 f where
 pars:=⟨by have:=hk.npar;omega,(zzR hk).2⟩
 ret:=zrx hk.ret
 traps:=⟨by have:=hk.ntraps;omega,fun y hy=>by
  rcases hk.traps y hy with e |e
  ·rw [e];exact Nat.zero_le _
  ·have:=zoK e;omega⟩
 code:=⟨by have:=hk.code.2;omega,fun x hx=>by have:=zBt (hk.ins x hx);omega⟩
theorem zxU(h:zcg l L)(hm:zbr L m)(hL:zkg L){f:zb}(hf:zC1 f):ziG f L m L m=some (zmU L f):=by
 unfold ziG zmU
 rw [zA7 h hm hL hf.traps.1 hf.traps.2,zDi h hm hL hf.code.1 hf.code.2,zqW h hm hf.ret,zDk h hm hL hf.pars.1 hf.pars.2]
 simp only [Option.bind_some]
 cases zhx L f.Ret <;> rfl
theorem zDj(h:zcg l L)(hm:zbr L m)(hL:zkg L){T:List zb}(hl:T.length≤10000)(hT:∀x∈T,zC1 x):z7 T L m L m=some (T.any fun x=>zmU L x):=by
 unfold z7 zbA
 rw [show ((zl (fun z=>zar T L m L m z) 0).bind fun o=>zD o (fun b=>zcA) some)=_ from zaD (l:=T) (p:=fun x:zb=>zmU L x) (by omega) (fun i x hx=>by
   unfold zar 
   rw [zd9 hx,zr,hx]
   simp only [Option.bind_some,cond_true]
   rw [zxU h hm hL (hT x (List.mem_of_getElem? hx))]
   rfl) (by unfold zar;rw [zeD];rfl)]
 rw [Option.bind_some,zem]
def zmc(L:List za)(c:za):Bool:=!(c.Fields.any fun x=>zhx L x.Type_)&&!(c.Methods.any fun x=>zmU L x)
theorem zCm(h:zcg l L)(hm:zbr L m)(hL:zkg L){c:za}(h1:c.Fields.length≤10000∧∀f∈c.Fields,f.Type_.length≤25)(h2:c.Methods.length≤10000∧∀f∈c.Methods,zC1 f):ziM L m c=some (zmc L c):=by
 unfold ziM zmc
 rw [zyQ h hm hL h1.1 h1.2,zDj h hm hL h2.1 h2.2]
 rfl
def zie(a b:zb):Bool:=(a.Params == b.Params)&&(a.Ret == b.Ret)
theorem zsG{a b:zb}(h:a.Params.length≤10000):ziq a b=some (zie a b):=by
 unfold ziq zie
 rw [zrD (by omega)]
 rfl
def zmX(f y:zb):Bool:=((y.Name == f.Name)&&!(f.Name == [36,105,110,105,116]))&&((!zie f y||f.Static)||y.Static)
theorem zBP{f y:zb}(h:f.Params.length≤10000):zgD y f.Name f.Params f.Ret f.Static f.Abstract f.Locals f.Stack f.Code f.Maps f.Traps=some (zmX f y):=by
 unfold zgD zmX
 rw [zsG (a:=zb.mk f.Name f.Params f.Ret f.Static f.Abstract f.Locals f.Stack f.Code f.Maps f.Traps) h]
 cases ((y.Name == f.Name)&&!(f.Name == [36,105,110,105,116])) <;> rfl
theorem zBQ{f:zb}(h:f.Params.length≤10000){T:List zb}(hl:T.length≤10000):z8 T f.Name f.Params f.Ret f.Static f.Abstract f.Locals f.Stack f.Code f.Maps f.Traps=some (T.any fun y=>zmX f y):=by
 unfold z8 zbB
 rw [show ((zl (fun z=>zas T f.Name f.Params f.Ret f.Static f.Abstract f.Locals f.Stack f.Code f.Maps f.Traps z) 0).bind fun o=>zD o (fun b=>zcB) some)=_ from zaD (l:=T) (p:=fun y:zb=>zmX f y) (by omega) (fun i x hx=>by
   unfold zas
   rw [zd9 hx,zr,hx]
   simp only [Option.bind_some,cond_true]
   rw [zBP h]
   rfl) (by unfold zas;rw [zeD];rfl)]
 rw [Option.bind_some,zem]
def zfX(L:List za)(s:Tx):List zb:=match cl L s with |some x=>x.Methods |none=>[]
def zqc(L:List za)(c:za):Bool:=!(c.Methods.any fun f=>((zeO L c.Name).drop 1).any fun s=>(zfX L s).any fun y=>zmX f y)
theorem zAq(h:zcg l L){n:Tx}(hn:zb0 L n=true):1≤(zeO L n).length:=by
 obtain ⟨x,hx⟩:=zeT hn
 unfold zeO
 cases hd:L.length with
 |zero =>
  have:L=[]:=List.eq_nil_of_length_eq_zero hd
  rw [this] at hn;cases hn
 |succ d =>
  unfold sup
  rw [hx]
  simp
theorem zuC(h:zcg l L)(hm:zbr L m)(hs:∀s,(zfX L s).length≤10000){c:za}(hc:zb0 L c.Name=true)(h2:c.Methods.length≤10000∧∀f∈c.Methods,zC1 f):zgk L m c=some (zqc L c):=by
 have h26:=zfD h c.Name
 have h1:=zAq h hc
 unfold zgk
 rw [show zl (fun z=>zc8 L m c z) 0=some (zjy () (c.Methods.findSome? (fun f=>cond (((zeO L c.Name).drop 1).any fun s=>(zfX L s).any fun y=>zmX f y) (some false) none))) from zaQ (fun i f hf=>by
  have hi:=(List.getElem?_eq_some_iff.1 hf).1
  have hF:=h2.2 f (List.mem_of_getElem? hf)
  show zc8 L m c (i:Int)=_
  unfold zc8
  rw [zd9 hf,zr,hf]
  simp only [cond_true,Option.bind_some]
  rw [zka h hm]
  simp only [Option.bind_some]
  rw [show (1:Int)=((1:Nat):Int) from rfl,zhg h1]
  simp only [Option.bind_some]
  have hin:zl (fun z=>zc7 L m f ((zeO L c.Name).drop 1) z) 0=some (zjy () (((zeO L c.Name).drop 1).findSome? (fun s=>cond ((zfX L s).any fun y=>zmX f y) (some false) none))):=zaQ (fun j s hj=>by
   have hjl:=(List.getElem?_eq_some_iff.1 hj).1
   simp only [List.length_drop] at hjl
   show zc7 L m f ((zeO L c.Name).drop 1) (j:Int)=_
   unfold zc7
   rw [zd9 hj,zr,hj]
   simp only [cond_true,Option.bind_some]
   obtain ⟨v,e1,e2⟩:∃v,zO L m s=some v∧v.1.Methods=zfX L s:=⟨_,zfG hm s,by unfold zfX;cases cl L s <;> rfl⟩
   rw [e1]
   simp only [Option.bind_some]
   rw [e2,zBQ hF.pars.1 (hs s),zN (by omega)]
   simp only [Option.bind_some]
   cases (zfX L s).any fun y=>zmX f y <;> rfl) (by
   show zc7 L m f ((zeO L c.Name).drop 1) (((zeO L c.Name).drop 1).length:Int)=_
   unfold zc7
   rw [zeD];rfl)
  rw [hin,zY]
  unfold zjG
  rw [zN (by omega)]
  cases ((zeO L c.Name).drop 1).any fun s=>(zfX L s).any fun y=>zmX f y <;> rfl) (by
  show zc8 L m c (c.Methods.length:Int)=_
  unfold zc8
  rw [zeD];rfl),zY]
 unfold zqc
 cases c.Methods.any fun f=>((zeO L c.Name).drop 1).any fun s=>(zfX L s).any fun y=>zmX f y <;> rfl
end
theorem zDg:zlz=some true:=by kernel_rfl
def zFt(i:Bool):List zp:=cond i [(zp.mk 1 0 [] []),(zp.mk 47 0 [] [])] [(zp.mk 46 0 [] [])]
def zGc(i:Bool):Tx:=cond i [73] [86]
def zFA(ps:List Tx)(i st:Bool):zb:=zb.mk [102] ps (zGc i) st false ((ps.length:Int)+1) 1 (zFt i) [] []
def m0:zb:=zFA [] false false
section
variable {l L : List za} {m : List (Tx × Int)}
theorem zuv(hL:L.length≤30):zfb L m=some (L.map (·.Name)):=by
 unfold zfb
 have key:∀(r pre:List za),L=pre++r→zl (fun z=>zbO L z.1 z.2) (pre.map (·.Name),(pre.length:Int))=some (.inl (L.map (·.Name))):=by
  intro r
  induction r with
  |nil =>
   intro pre e
   rw [List.append_nil] at e
   rw [zI]
   show (zbO L (pre.map (·.Name)) (pre.length:Int)).bind _=_
   unfold zbO
   rw [←e,zeD];rfl
  |cons c r ih =>
   intro pre e
   have hlen:L.length=pre.length+(r.length+1):=by rw [e];simp
   have hx:L[pre.length]?=some c:=by rw [e];simp
   have ih:=ih (pre++[c]) (by rw [e];simp)
   rw [show (pre++[c]).length=pre.length+1 by simp] at ih
   rw [zI]
   show (zbO L (pre.map (·.Name)) (pre.length:Int)).bind _=_
   unfold zbO
   rw [zd9 hx,zr,hx]
   simp only [cond_true,Option.bind_some]
   rw [zF4 (by simp;omega) (by omega),zN (by omega)]
   rw [List.map_append] at ih
   exact ih
 rw [show zl (fun z=>zbO L z.1 z.2) ([],0)=_ from key L [] rfl]
 rfl
def zrW(L:List za)(n:Tx):za:=(cl L n).getD zC
structure zF1(L:List za)(c:za):Prop where
 fields:c.Fields.length≤10000∧∀f∈c.Fields,f.Type_.length≤25
 methods:c.Methods.length≤10000∧∀f∈c.Methods,zC1 f
end
section
variable {l : List za} {m : List (Tx × Int)} {ps qs : List Tx} {i j s t : Bool}
end
section
variable {l L : List za} {m : List (Tx × Int)}
theorem zxB{f:zb}(h:zfu f=true)(ha:f.Abstract=true)(h1:f.Code.length≤10000)(h2:f.Maps.length≤10000)(h3:f.Traps.length≤10000):f.Code=[]∧f.Traps=[]:=by
 unfold zfu at h
 rw [ha] at h
 simp only [Bool.and_eq_true,cond_true] at h
 obtain ⟨_,h5⟩:=h
 unfold zf2 at h5
 simp only [Bool.and_eq_true] at h5
 have h6:=h5.2
 rw [zlX (n:=(f.Code.length:Int)+(f.Maps.length:Int)) (by omega) (by omega),zlX (by omega) (by omega)] at h6
 have h7:(f.Code.length:Int)+(f.Maps.length:Int)+(f.Traps.length:Int)=0:=by simpa using h6
 exact ⟨List.eq_nil_of_length_eq_zero (by omega),List.eq_nil_of_length_eq_zero (by omega)⟩
structure zAT(f:zb):Prop where
 pars:f.Params.length≤6∧∀s∈f.Params,zfz s=true
 ret:zsw f.Ret=true
 traps:f.Traps.length≤6∧∀y∈f.Traps,y.C=[]∨zbU y.C=true
 code:f.Code.length≤100∧∀x∈f.Code,zjg x=true
theorem zFB{f:zb}(h:zfu f=true)(hF:zCZ f):zAT f:=by
 obtain ⟨p1,p2,p3⟩:=ztg h
 cases ha:f.Abstract with
 |true =>
  obtain ⟨e1,e2⟩:=zxB h ha hF.code.len hF.maps.len hF.traps.len
  exact ⟨⟨p2,p1⟩,p3,by rw [e2];exact ⟨Nat.zero_le _,fun y hy=>by cases hy⟩,by rw [e1];exact ⟨Nat.zero_le _,fun y hy=>by cases hy⟩⟩
 |false =>
  have hk:=zEI h ha
  exact ⟨⟨p2,p1⟩,p3,⟨hk.ntraps,hk.traps⟩,hk.code.2,hk.ins⟩
theorem zAT.small{f:zb}(h:zAT f):zC1 f where
 pars:=⟨by have:=h.pars.1;omega,fun s hs=>zl5 (h.pars.2 s hs)⟩
 ret:=zrx h.ret
 traps:=⟨by have:=h.traps.1;omega,fun y hy=>by
  rcases h.traps.2 y hy with e |e
  ·rw [e];exact Nat.zero_le _
  ·have:=zoK e;omega⟩
 code:=⟨by have:=h.code.1;omega,fun x hx=>by have:=zBt (h.code.2 x hx);omega⟩
structure zrN(L:List za)(c:za):Prop where
 fields:c.Fields.length≤10000∧∀f∈c.Fields,zfz f.Type_=true
 methods:c.Methods.length≤10000∧∀f∈c.Methods,zAT f
 names:∀(i j:Nat) (f g:zb),c.Methods[i]?=some f→c.Methods[j]?=some g→f.Name=g.Name→i=j
theorem ztM{α:Type}{ok:α→Bool}{nm:α→List UInt8}:∀{r pre:List α},uB ok nm pre r=false→∀(i j:Nat) (x y:α),i<j→(pre++r)[i]?=some x→(pre++r)[j]?=some y→pre.length≤j→nm x≠nm y
 | [],pre,h,i,j,x,y,hij,hx,hy,hj=>by
  rw [List.append_nil] at hy
  have:=(List.getElem?_eq_some_iff.1 hy).1
  omega
 |z ::r,pre,h,i,j,x,y,hij,hx,hy,hj=>by
  unfold uB at h
  simp only [Bool.or_eq_false_iff] at h
  obtain ⟨⟨_,h2⟩,h3⟩:=h
  by_cases e:j=pre.length
  ·subst e
   have hz:y=z:=by simpa using hy.symm
   subst hz
   rw [List.getElem?_append_left hij] at hx
   rw [List.any_eq_false] at h2
   intro e
   exact h2 x (List.mem_of_getElem? hx) (by rw [e];simp)
  ·refine ztM (r:=r) (pre:=pre++[z]) h3 i j x y hij (by simpa using hx) (by simpa using hy) (by simp;omega)
theorem zCj{α:Type}{ok:α→Bool}{nm:α→List UInt8}{r:List α}(h:uB ok nm [] r=false)(i j:Nat)(x y:α)(hx:r[i]?=some x)(hy:r[j]?=some y)(e:nm x=nm y):i=j:=by
 rcases Nat.lt_trichotomy i j with k |k |k
 ·exact absurd e (ztM h i j x y k (by simpa using hx) (by simpa using hy) (Nat.zero_le _))
 ·exact k
 ·exact absurd e.symm (ztM h j i y x k (by simpa using hy) (by simpa using hx) (Nat.zero_le _))
theorem zy7{f:zk}(h:zl2 f=true):zfz f.Type_=true:=by
 unfold zl2 at h
 simp only [Bool.and_eq_true] at h
 exact h.2
theorem zEw(h:zcg l L)(hF:∀c∈L,zmw c){c:za}(hc:c∈L):zrN L c:=by
 have hf:=hF c hc
 have hfl:=hf.fields.len
 have hml:=hf.methods.len
 have hmd:∀f∈c.Methods,zAT f:=fun f hm=>zFB (zwK h hc hm) (hf.methods.all f hm)
 rw [h.app] at hc
 rcases List.mem_append.1 hc with e |e
 ·have hg:giv.all (fun c=>decide (c.Methods.length=0)&&decide (c.Fields.length=0))=true:=by decide +kernel
  have:=List.all_eq_true.1 hg c e
  simp only [Bool.and_eq_true,decide_eq_true_eq] at this
  have e1:=List.eq_nil_of_length_eq_zero this.1
  have e2:=List.eq_nil_of_length_eq_zero this.2
  exact ⟨⟨hfl,fun f hx=>by rw [e2] at hx;cases hx⟩,⟨hml,hmd⟩,fun i j f g hx=>by rw [e1] at hx;simp at hx⟩
 ·have hm:=h.may c e
  unfold zrO at hm
  simp only [Bool.and_eq_true,Bool.not_eq_true',decide_eq_true_eq] at hm
  obtain ⟨_,⟨⟨⟨_,_⟩,h5,_⟩,h6,_⟩⟩:=hm
  exact ⟨⟨hfl,fun f hx=>zy7 (zsE h5 f hx)⟩,⟨hml,hmd⟩,fun i j f g hx hy=>zCj h6 i j f g hx hy⟩
theorem zrN.small{c:za}(h:zrN L c):zF1 L c:=⟨⟨h.fields.1,fun f hf=>zl5 (h.fields.2 f hf)⟩,⟨h.methods.1,fun f hf=>(h.methods.2 f hf).small⟩⟩
theorem zvE:zfz []=false:=by decide +kernel
theorem zEG:zfz [84]=false:=by decide +kernel
theorem zEF:zfz [78]=false:=by decide +kernel
theorem zrc{t s:Tx}(h:zfz t=true)(hs:zfz s=false):(t == s)=false:=by
 refine beq_eq_false_iff_ne.2 fun e=>?_
 rw [e,hs] at h;cases h
theorem zoP{t:Tx}(h:zfz t=true):zhx L t=!thN L t:=by
 unfold zhx zsB
 rw [zrc h zDN,zrc h zvE,zrc h zEF,zrc h zEG]
 simp
theorem zwz:zhx L []=false:=by unfold zhx;simp
theorem zBp{t:Tx}(h:zsw t=true):zhx L t=(!(t == [86])&&!thN L t):=by
 unfold zsw at h
 rw [Bool.or_eq_true] at h
 rcases h with h |h
 ·unfold zhx;rw [h];rfl
 ·rw [zoP h,zrc h zDN];simp
theorem zE7{t:Tx}(h:zbU t=true):thN L t=zb0 L t:=by
 unfold thN zxb
 have e:ess t=t:=zpr (zjx h)
 rw [zik h,e,Bool.true_and]
 have:(t == [73])=false:=beq_eq_false_iff_ne.2 fun e=>by rw [e,zn7] at h;cases h
 rw [this,Bool.false_or]
theorem zzk{t:Tx}(h:t=[]∨zbU t=true):zhx L t=(!(t == [])&&!zb0 L t):=by
 rcases h with h |h
 ·rw [h,zwz];rfl
 ·rw [zoP (zik h),zE7 h,zrc (zik h) zvE];simp
theorem zBu{x:zp}(h:zjg x=true):x.C=[]∨zfz x.C=true:=by
 unfold zjg at h
 simp only [Bool.and_eq_true] at h
 have:=h.1.2
 unfold zte at this
 cases h1:zhq x.Op <;> rw [h1] at this
 ·cases h2:zBL x.Op <;> rw [h2] at this
  ·exact .inl (by simpa using this)
  ·exact .inr (zik this)
 ·simp only [cond_true] at this
  unfold zqg at this
  simp only [Bool.and_eq_true] at this
  exact .inr this.2
theorem zBo{x:zp}(h:zjg x=true):zhx L x.C=(!(x.C == [])&&!thN L x.C):=by
 rcases zBu h with e |e
 ·rw [e,zwz];rfl
 ·rw [zoP e,zrc e zvE];simp
theorem op4(o a b c d:Int)(h1:b=a+1)(h2:c=a+2)(h3:d=a+3):(decide (a≤o)&&decide (o≤d))=((((o == a)||(o == b))||(o == c))||(o == d)):=by
 rw [Bool.eq_iff_iff]
 simp only [Bool.and_eq_true,Bool.or_eq_true,decide_eq_true_eq,beq_iff_eq]
 omega
theorem op3(o a b c:Int)(h1:b=a+1)(h2:c=a+2):(decide (a≤o)&&decide (o≤c))=(((o == a)||(o == b))||(o == c)):=by
 rw [Bool.eq_iff_iff]
 simp only [Bool.and_eq_true,Bool.or_eq_true,decide_eq_true_eq,beq_iff_eq]
 omega
theorem zuP(h:zcg l L)(hL:zkg L){x:zp}(hx:zjg x=true):zh4 L x=some (!zkH L x):=by
 have h26:=h.len
 have h10:=zBt hx
 unfold zh4 zkH zcG
 rw [zBo hx,zb5 h (by omega),op4 x.Op 38 39 40 41 rfl rfl rfl,op3 x.Op 42 43 44 rfl rfl,zp4 h hL,zrv h hL,zlO h hL,zib (by omega)]
 have e:(cond (!(x.C == [])) ((some (thN L x.C)).bind fun v3=>some (!v3)) (some false):Option Bool)=some (!(x.C == [])&&!thN L x.C):=by cases x.C == [] <;> rfl
 rw [e]
 simp only [Option.bind_some]
 cases !(x.C == [])&&!thN L x.C with
 |true=>rfl
 |false =>
  unfold zwO znE
  simp only [cond_false,Bool.false_or,Bool.not_not]
  cases (((x.Op == 38)||(x.Op == 39))||(x.Op == 40))||(x.Op == 41) with
  |true=>rfl
  |false =>
   simp only [cond_false]
   cases ((x.Op == 42)||(x.Op == 43))||(x.Op == 44) with
   |false =>
    simp only [cond_false]
    cases x.Op == 45 <;> rfl
   |true =>
    simp only [cond_true]
    cases hq:(((zeO L x.C).findSome? (znV L zaT x.M)).getD ([],zM,false)).2.2 with
    |false=>rfl
    |true =>
     simp only [cond_true,Bool.true_and]
     rw [zjL]
     cases hc:cl L x.C with
     |none =>
      exfalso
      rw [zj9 (zls hc)] at hq
      cases hq
     |some c =>
      have:isF L x.C=c.Interface:=by unfold isF;rw [hc]
      rw [this]
      rfl
end
section
variable {l L : List za} {m : List (Tx × Int)}
theorem zD4(h:zcg l L){f:zb}(hf:zAT f):zl (fun z=>zd5 L f z) 0=some (zjy () (cond (f.Params.any fun x=>zhx L x) (some false) none)):=by
 have h6:=hf.pars.1
 rw [←zY]
 exact zaQ (fun i s hs=>by
  have hi:=(List.getElem?_eq_some_iff.1 hs).1
  have hm:=hf.pars.2 s (List.mem_of_getElem? hs)
  show zd5 L f (i:Int)=_
  unfold zd5
  rw [zd9 hs,zr,hs]
  simp only [cond_true,Option.bind_some]
  rw [zb5 h (by have:=zl5 hm;omega),zoP hm,zN (by omega)]
  simp only [Option.bind_some]
  cases thN L s <;> rfl) (by
  show zd5 L f (f.Params.length:Int)=_
  unfold zd5
  rw [zeD];rfl)
theorem zBY(h:zcg l L){f:zb}(hf:zAT f):zl (fun z=>zdr L f z) 0=some (zjy () (cond (f.Traps.any fun x=>zhx L x.C) (some false) none)):=by
 have h6:=hf.traps.1
 have h26:=h.len
 rw [←zY]
 exact zaQ (fun i s hs=>by
  have hi:=(List.getElem?_eq_some_iff.1 hs).1
  have hm:=hf.traps.2 s (List.mem_of_getElem? hs)
  show zdr L f (i:Int)=_
  unfold zdr
  rw [zd9 hs,zr,hs]
  simp only [cond_true,Option.bind_some]
  rw [zib (by omega),zzk hm,zN (by omega)]
  simp only [Option.bind_some]
  rw [znJ]
  cases s.C == [] <;> cases zb0 L s.C <;> rfl) (by
  show zdr L f (f.Traps.length:Int)=_
  unfold zdr
  rw [zeD];rfl)
theorem zD2(h:zcg l L)(hL:zkg L){f:zb}(hf:zAT f):zl (fun z=>zds L f z) 0=some (zjy () (cond (f.Code.any fun x=>zkH L x) (some false) none)):=by
 have h6:=hf.code.1
 rw [←zY]
 exact zaQ (fun i s hs=>by
  have hi:=(List.getElem?_eq_some_iff.1 hs).1
  have hm:=hf.code.2 s (List.mem_of_getElem? hs)
  show zds L f (i:Int)=_
  unfold zds
  rw [zd9 hs,zr,hs]
  simp only [cond_true,Option.bind_some]
  rw [zuP h hL hm,zN (by omega)]
  simp only [Option.bind_some]
  cases zkH L s <;> rfl) (by
  show zds L f (f.Code.length:Int)=_
  unfold zds
  rw [zeD];rfl)
theorem zD3(h:zcg l L)(hL:zkg L){c:za}(hc:zrN L c):zl (fun z=>zdt L c z) 0=some (zjy () (cond (c.Methods.any fun x=>zmU L x) (some false) none)):=by
 have h6:=hc.methods.1
 rw [←zY]
 exact zaQ (fun i f hs=>by
  have hi:=(List.getElem?_eq_some_iff.1 hs).1
  have hf:=hc.methods.2 f (List.mem_of_getElem? hs)
  show zdt L c (i:Int)=_
  unfold zdt
  rw [zd9 hs,zr,hs]
  simp only [cond_true,Option.bind_some]
  rw [zb5 h (by have:=zrx hf.ret;omega)]
  have e1:(cond (!(f.Ret == [86])) ((some (thN L f.Ret)).bind fun v37=>some (!v37)) (some false):Option Bool)=some (zhx L f.Ret):=by rw [zBp hf.ret];cases f.Ret == [86] <;> rfl
  rw [e1,zD4 h hf]
  unfold zj3
  rw [zBY h hf]
  unfold zj4
  rw [zD2 h hL hf]
  unfold zj5
  rw [zN (by omega)]
  unfold zmU
  cases zhx L f.Ret <;> cases (f.Params.any fun x=>zhx L x) <;> cases (f.Traps.any fun x=>zhx L x.C) <;> cases (f.Code.any fun x=>zkH L x) <;> rfl) (by
  show zdt L c (c.Methods.length:Int)=_
  unfold zdt
  rw [zeD];rfl)
theorem zvS(h:zcg l L)(hL:zkg L){c:za}(hc:zrN L c):zh5 L c=some (zmc L c):=by
 have h6:=hc.fields.1
 unfold zh5
 rw [show zl (fun z=>zd4 L c z) 0=some (zjy () (c.Fields.findSome? fun x=>cond (zhx L x.Type_) (some false) none)) from zaQ (fun i f hs=>by
  have hi:=(List.getElem?_eq_some_iff.1 hs).1
  have hm:=hc.fields.2 f (List.mem_of_getElem? hs)
  show zd4 L c (i:Int)=_
  unfold zd4
  rw [zd9 hs,zr,hs]
  simp only [cond_true,Option.bind_some]
  rw [zb5 h (by have:=zl5 hm;omega),zoP hm,zN (by omega)]
  simp only [Option.bind_some]
  cases thN L f.Type_ <;> rfl) (by
  show zd4 L c (c.Fields.length:Int)=_
  unfold zd4
  rw [zeD];rfl),zY]
 unfold zkx
 rw [zD3 h hL hc]
 unfold zmc
 cases (c.Fields.any fun x=>zhx L x.Type_) <;> cases (c.Methods.any fun x=>zmU L x) <;> rfl
def zFl(T:List zb):Prop:=∀(i j:Nat) (f g:zb),T[i]?=some f→T[j]?=some g→f.Name=g.Name→i=j
theorem zsK{T:List zb}{n:Tx}{q:zb→Bool}(hu:zFl T):(T.any fun y=>(y.Name == n)&&q y)=(match T.find? (fun y=>y.Name == n) with |some y=>q y |none=>false):=by
 cases hf:T.find? (fun y=>y.Name == n) with
 |none =>
  rw [List.find?_eq_none] at hf
  rw [List.any_eq_false]
  intro y hy
  have:=hf y hy
  simp only [Bool.not_eq_true] at this
  simp [this]
 |some y =>
  have h1:=List.mem_of_find?_eq_some hf
  have h2:y.Name=n:=by simpa using List.find?_some hf
  rw [Bool.eq_iff_iff,List.any_eq_true]
  constructor
  ·rintro ⟨z,hz,k⟩
   simp only [Bool.and_eq_true,beq_iff_eq] at k
   obtain ⟨i,hi⟩:=List.mem_iff_getElem?.1 hz
   obtain ⟨j,hj⟩:=List.mem_iff_getElem?.1 h1
   have:=hu i j z y hi hj (by rw [k.1,h2])
   subst this
   rw [hi] at hj
   cases hj
   exact k.2
  ·intro k
   exact ⟨y,h1,by simp [h2];exact k⟩
theorem zEC{α:Type}(p:α→Bool)(l:List α):decide (ixF p 0 l<0)=!(l.find? p).isSome:=by
 rw [←zjn]
 by_cases h:0≤ixF p 0 l
 ·rw [decide_eq_true h,decide_eq_false (by omega)];rfl
 ·rw [decide_eq_false h,decide_eq_true (by omega)];rfl
theorem zlf(a b:zb):zie a b=zie b a:=by
 unfold zie
 rw [Bool.eq_iff_iff]
 simp only [Bool.and_eq_true,beq_iff_eq]
 exact ⟨fun h=>⟨h.1.symm,h.2.symm⟩,fun h=>⟨h.1.symm,h.2.symm⟩⟩
theorem zm8{a b:zb}(h:a.Params.length≤10000):zix a b=some (zie a b):=by
 unfold zix zie
 rw [zqd (by omega)]
 rfl
theorem zti{s:Tx}{x:za}(h:cl L s=some x):zfX L s=x.Methods:=by unfold zfX;rw [h]
theorem zE1(h:zcg l L)(hD:∀c∈L,zrN L c){c:za}{T:List Tx}{i j:Nat}{f:zb}{s:Tx}(hf:c.Methods[i]?=some f)(hp:f.Params.length≤10000)(hj:T[j]?=some s)(hjl:j<1000)(hs:zb0 L s=true):
  zdn L c T (i:Int) (j:Int)=some (zu8 j (cond ((zfX L s).any fun y=>zmX f y) (some false) none)):=by
 have h26:=h.len
 obtain ⟨x,hx⟩:=zeT hs
 have hxd:=hD x (zbs hx).1
 have hm0:=hxd.methods.1
 unfold zdn
 rw [zd9 hj,zr T,hj]
 simp only [cond_true,Option.bind_some]
 rw [zib (by omega)]
 simp only [Option.bind_some]
 rw [zjL,hx]
 simp only [Option.bind_some]
 rw [zr c.Methods,hf]
 simp only [Option.bind_some]
 rw [zfw (by unfold zkB;omega)]
 simp only [Option.bind_some]
 rw [zEC,zkG,zti hx]
 have e:(x.Methods.any fun y=>zmX f y)=x.Methods.any fun y=>(y.Name == f.Name)&&(!(f.Name == [36,105,110,105,116])&&((!zie f y||f.Static)||y.Static)):=by
  congr 1;funext y;unfold zmX;rw [Bool.and_assoc]
 rw [e,zsK hxd.names]
 unfold zfh zge
 rw [zN (by omega)]
 cases hq:x.Methods.find? (fun y=>y.Name == f.Name) with
 |none=>rfl
 |some y =>
  have hy:=List.mem_of_find?_eq_some hq
  have hyd:=(hxd.methods.2 y hy).pars.1
  simp only [Option.isSome_some,Bool.not_true,cond_false,Option.bind_some]
  rw [zm8 (by omega),zlf y f]
  simp only [Option.bind_some]
  cases f.Name == [36,105,110,105,116] <;> cases zie f y <;> cases f.Static <;> cases y.Static <;> rfl
end
section
variable {l L : List za} {m : List (Tx × Int)}
theorem zBS(h:zcg l L)(hD:∀c∈L,zrN L c){c:za}{T:List Tx}{i:Nat}{f:zb}(hf:c.Methods[i]?=some f)(hp:f.Params.length≤10000)(hT:T.length≤1000)(hT2:∀s∈T,zb0 L s=true):
  zl (fun z=>zdn L c T (i:Int) z) 0=some (zjy () (cond (T.any fun s=>(zfX L s).any fun y=>zmX f y) (some false) none)):=by
 rw [←zY]
 exact zaQ (fun j s hj=>by
  have hjl:=(List.getElem?_eq_some_iff.1 hj).1
  exact zE1 h hD hf hp hj (by omega) (hT2 s (List.mem_of_getElem? hj))) (by
  show zdn L c T (i:Int) (T.length:Int)=_
  unfold zdn
  rw [zeD];rfl)
theorem zDW(h:zcg l L)(hD:∀c∈L,zrN L c){c:za}(hc:zrN L c){T:List Tx}(hT:T.length≤1000)(hT2:∀s∈T,zb0 L s=true):
  zl (fun z=>zdo L c T z) 0=some (zjy () (cond (c.Methods.any fun f=>T.any fun s=>(zfX L s).any fun y=>zmX f y) (some false) none)):=by
 have h6:=hc.methods.1
 rw [←zY]
 exact zaQ (fun i f hf=>by
  have hi:=(List.getElem?_eq_some_iff.1 hf).1
  have hm:=hc.methods.2 f (List.mem_of_getElem? hf)
  show zdo L c T (i:Int)=_
  unfold zdo
  rw [zd9 hf,zBS h hD hf (by have:=hm.pars.1;omega) hT hT2]
  unfold zj0
  rw [zN (by omega)]
  cases (T.any fun s=>(zfX L s).any fun y=>zmX f y) <;> rfl) (by
  show zdo L c T (c.Methods.length:Int)=_
  unfold zdo
  rw [zeD];rfl)
def zlY(f y:zb):Bool:=(y.Name == f.Name)&&!zie f y
def zyo(L:List za)(c:Tx)(f:zb):Bool:=(chN L c f.Name).2&&(zfX L (chN L c f.Name).1).any fun y=>(y.Name == f.Name)&&zie f y
theorem zur(hD:∀c∈L,zrN L c)(s:Tx):(zfX L s).length≤10000∧∀f∈zfX L s,zAT f:=by
 unfold zfX
 cases hc:cl L s with
 |none=>exact ⟨Nat.zero_le _,fun f hf=>by cases hf⟩
 |some x=>exact (hD x (zbs hc).1).methods
theorem zD0(h:zcg l L)(hD:∀c∈L,zrN L c){T:List Tx}{f:zb}(hp:f.Params.length≤10000)(hT:T.length≤1000)(hT2:∀s∈T,zb0 L s=true):
  zl (fun z=>zd3 L T f z) 0=some (zjy () (cond (T.any fun s=>(zfX L s).any fun y=>zlY f y) (some false) none)):=by
 have h26:=h.len
 rw [←zY]
 exact zaQ (fun j s hj=>by
  have hjl:=(List.getElem?_eq_some_iff.1 hj).1
  obtain ⟨x,hx⟩:=zeT (hT2 s (List.mem_of_getElem? hj))
  have hxd:=hD x (zbs hx).1
  have hm0:=hxd.methods.1
  show zd3 L T f (j:Int)=_
  unfold zd3
  rw [zd9 hj,zr T,hj]
  simp only [cond_true,Option.bind_some]
  rw [zib (by omega)]
  simp only [Option.bind_some]
  rw [zjL,hx]
  simp only [Option.bind_some]
  rw [zfw (by unfold zkB;omega)]
  simp only [Option.bind_some]
  rw [zjn,zkG,zti hx]
  have e:(x.Methods.any fun y=>zlY f y)=x.Methods.any fun y=>(y.Name == f.Name)&&!zie f y:=rfl
  rw [e,zsK hxd.names]
  unfold zgE
  rw [zN (by omega)]
  cases hq:x.Methods.find? (fun y=>y.Name == f.Name) with
  |none=>rfl
  |some y =>
   have hy:=List.mem_of_find?_eq_some hq
   have hyd:=(hxd.methods.2 y hy).pars.1
   simp only [Option.isSome_some,cond_true,Option.bind_some]
   rw [zm8 (by omega),zlf y f]
   simp only [Option.bind_some]
   cases zie f y <;> rfl) (by
  show zd3 L T f (T.length:Int)=_
  unfold zd3
  rw [zeD];rfl)
theorem zA8{c n:Tx}(h:(chN L c n).2=true):∃x f,cl L (chN L c n).1=some x∧x.Methods.find? (fun y=>y.Name == n)=some f:=by
 unfold chN at h ⊢
 cases hb:(zb0 L c&&!isF L c) with
 |false=>rw [hb] at h;cases h
 |true =>
  rw [hb] at h
  simp only [cond_true] at h ⊢
  cases hq:(zeO L c).findSome? (chG L n) with
  |none=>rw [hq] at h;cases h
  |some r =>
   rw [hq] at h
   simp only [Option.getD_some] at h ⊢
   obtain ⟨s,hs,hr⟩:=List.exists_of_findSome?_eq_some hq
   unfold chG at hr
   cases hc:cl L s with
   |none=>rw [hc] at hr;cases hr
   |some x =>
    rw [hc] at hr
    simp only at hr
    cases hf:x.Methods.find? (fun y=>y.Name == n) with
    |none=>rw [hf] at hr;cases hr
    |some f =>
     rw [hf] at hr
     simp only at hr
     cases hst:f.Static with
     |true=>rw [hst] at hr;cases hr
     |false =>
      rw [hst] at hr
      have e:r=(s,true):=by simpa using hr.symm
      rw [e]
      exact ⟨x,f,hc,hf⟩
theorem zBx(h:zcg l L)(hL:zkg L)(hD:∀c∈L,zrN L c){c:za}{T:List Tx}{f:zb}(hp:f.Params.length≤10000)(hT:T.length≤1000)(hT2:∀s∈T,zb0 L s=true):
  zgU L c T f=some (!(T.any fun s=>(zfX L s).any fun y=>zlY f y)&&(c.Interface||zyo L c.Name f)):=by
 have h26:=h.len
 unfold zgU
 rw [zD0 h hD hp hT hT2]
 cases (T.any fun s=>(zfX L s).any fun y=>zlY f y) with
 |true=>rfl
 |false =>
  simp only [cond_false,zjy,Option.bind_some,zD,Bool.not_false,Bool.true_and]
  unfold zkv
  cases c.Interface with
  |true=>rfl
  |false =>
   simp only [cond_false,Bool.false_or]
   rw [zuN h hL]
   simp only [Option.bind_some]
   unfold zyo
   cases hq:(chN L c.Name f.Name).2 with
   |false=>rfl
   |true =>
    obtain ⟨x,y,hx,hy⟩:=zA8 hq
    have hxd:=hD x (zbs hx).1
    have hm0:=hxd.methods.1
    have hyd:=(hxd.methods.2 y (List.mem_of_find?_eq_some hy)).pars.1
    simp only [Bool.not_true,cond_false,Bool.true_and]
    rw [zib (by omega)]
    simp only [Option.bind_some]
    rw [zjL,hx]
    simp only [Option.bind_some]
    rw [zfw (by unfold zkB;omega)]
    simp only [Option.bind_some]
    rw [zkG,hy]
    simp only [Option.bind_some]
    rw [zm8 (by omega),zti hx,zsK hxd.names,hy,zlf y f]
    rfl
def zve(L:List za)(n:Tx):List zb:=(zbZ L n).flatMap (zfX L)
def zjI(L:List za)(c:za):Bool:=!((zve L c.Name).any fun f=>(zve L c.Name).any fun y=>zlY f y)&&(c.Interface||!((zve L c.Name).any fun f=>!zyo L c.Name f))
theorem zBw(c:za):((zbZ L c.Name).any fun s=>(zfX L s).any fun f=>!(!((zbZ L c.Name).any fun s=>(zfX L s).any fun y=>zlY f y)&&(c.Interface||zyo L c.Name f)))=!zjI L c:=by
 have e1:∀f,((zbZ L c.Name).any fun s=>(zfX L s).any fun y=>zlY f y)=(zve L c.Name).any fun y=>zlY f y:=fun f=>by unfold zve;rw [List.any_flatMap]
 have e2:∀p:zb→Bool,((zbZ L c.Name).any fun s=>(zfX L s).any p)=(zve L c.Name).any p:=fun p=>by unfold zve;rw [List.any_flatMap]
 rw [e2]
 simp only [e1]
 unfold zjI
 generalize zve L c.Name=A
 rw [Bool.eq_iff_iff]
 simp only [Bool.not_eq_true',Bool.and_eq_false_iff,List.any_eq_true,Bool.or_eq_false_iff,Bool.not_eq_false',List.any_eq_true]
 constructor
 ·rintro ⟨f,hf,h |⟨h1,h2⟩⟩
  ·exact .inl ⟨f,hf,by simpa using h⟩
  ·exact .inr ⟨h1,f,hf,by simpa using h2⟩
 ·rintro (⟨f,hf,h⟩ |⟨h1,f,hf,h2⟩)
  ·exact ⟨f,hf,.inl (by simpa using h)⟩
  ·exact ⟨f,hf,.inr ⟨h1,by simpa using h2⟩⟩
theorem zBT(h:zcg l L)(hL:zkg L)(hD:∀c∈L,zrN L c){c:za}:zhD L c=some (zjI L c):=by
 have h26:=h.len
 have h52:=zkQ h c.Name
 unfold zhD
 rw [zm9 h]
 simp only [Option.bind_some]
 rw [show zl (fun z=>zdq L c (zbZ L c.Name) z) 0=some (zjy () ((zbZ L c.Name).findSome? fun s=>cond ((zfX L s).any fun f=>!(!((zbZ L c.Name).any fun s=>(zfX L s).any fun y=>zlY f y)&&(c.Interface||zyo L c.Name f))) (some false) none)) from zaQ (fun i s hs=>by
  have hi:=(List.getElem?_eq_some_iff.1 hs).1
  obtain ⟨x,hx⟩:=zeT (zkP h (List.mem_of_getElem? hs))
  have hxd:=hD x (zbs hx).1
  have hm0:=hxd.methods.1
  show zdq L c (zbZ L c.Name) (i:Int)=_
  unfold zdq
  rw [zd9 hs,zr,hs]
  simp only [cond_true,Option.bind_some]
  rw [zib (by omega)]
  simp only [Option.bind_some]
  rw [zjL,hx]
  simp only [Option.bind_some]
  rw [show zl (fun z=>zdp L c (zbZ L c.Name) x z) 0=some (zjy () (x.Methods.findSome? fun f=>cond (!(!((zbZ L c.Name).any fun s=>(zfX L s).any fun y=>zlY f y)&&(c.Interface||zyo L c.Name f))) (some false) none)) from zaQ (fun k f hf=>by
   have hk:=(List.getElem?_eq_some_iff.1 hf).1
   have hfd:=(hxd.methods.2 f (List.mem_of_getElem? hf)).pars.1
   show zdp L c (zbZ L c.Name) x (k:Int)=_
   unfold zdp
   rw [zd9 hf,zr,hf]
   simp only [cond_true,Option.bind_some]
   rw [zBx h hL hD (by omega) (by omega) (fun s hs=>zkP h hs),zN (by omega)]
   simp only [Option.bind_some]
   cases (!((zbZ L c.Name).any fun s=>(zfX L s).any fun y=>zlY f y)&&(c.Interface||zyo L c.Name f)) <;> rfl) (by
   show zdp L c (zbZ L c.Name) x (x.Methods.length:Int)=_
   unfold zdp
   rw [zeD];rfl),zY,zti hx]
  unfold zj1
  rw [zN (by omega)]
  cases (x.Methods.any fun f=>!(!((zbZ L c.Name).any fun s=>(zfX L s).any fun y=>zlY f y)&&(c.Interface||zyo L c.Name f))) <;> rfl) (by
  show zdq L c (zbZ L c.Name) ((zbZ L c.Name).length:Int)=_
  unfold zdq
  rw [zeD];rfl),zY,zBw]
 unfold zj2
 cases zjI L c <;> rfl
theorem zvR(h:zcg l L)(hL:zkg L)(hD:∀c∈L,zrN L c){c:za}(hc:c∈L):zh3 L c=some (zqc L c&&zjI L c):=by
 have hn:zb0 L c.Name=true:=zgL (h.nd.cl hc)
 have h1:=zAq h hn
 have h26:=zfD h c.Name
 unfold zh3
 rw [zgg h]
 simp only [Option.bind_some]
 rw [show (1:Int)=((1:Nat):Int) from rfl,zhg h1]
 simp only [Option.bind_some]
 rw [zDW h hD (hD c hc) (by simp;omega) (fun s hs=>zk9 h c.Name s (List.mem_of_mem_drop hs)),zBT h hL hD]
 unfold zqc
 cases (c.Methods.any fun f=>((zeO L c.Name).drop 1).any fun s=>(zfX L s).any fun y=>zmX f y) <;> rfl
end
section
variable {l L : List za} {m : List (Tx × Int)}
theorem zy6{f y:zb}(h:f.Params.length≤10000):ziF y f.Name f.Params f.Ret f.Static f.Abstract f.Locals f.Stack f.Code f.Maps f.Traps=some (zlY f y):=by
 unfold ziF zlY
 rw [zsG (a:=zb.mk f.Name f.Params f.Ret f.Static f.Abstract f.Locals f.Stack f.Code f.Maps f.Traps) h]
 cases y.Name == f.Name <;> rfl
theorem zDc{f:zb}(h:f.Params.length≤10000){T:List zb}(hl:T.length≤10000000):zaa T f.Name f.Params f.Ret f.Static f.Abstract f.Locals f.Stack f.Code f.Maps f.Traps=some (T.any fun y=>zlY f y):=by
 unfold zaa zbC
 rw [show ((zl (fun z=>zat T f.Name f.Params f.Ret f.Static f.Abstract f.Locals f.Stack f.Code f.Maps f.Traps z) 0).bind fun o=>zD o (fun b=>zcC) some)=_ from zaD (l:=T) (p:=fun y:zb=>zlY f y) (by omega) (fun i x hx=>by
   unfold zat
   rw [zd9 hx,zr,hx]
   simp only [Option.bind_some,cond_true]
   rw [zy6 h]
   rfl) (by unfold zat;rw [zeD];rfl)]
 rw [Option.bind_some,zem]
theorem zDD{f y:zb}(h:f.Params.length≤10000):zkk y f.Name f.Params f.Ret f.Static f.Abstract f.Locals f.Stack f.Code f.Maps f.Traps=some ((y.Name == f.Name)&&zie f y):=by
 unfold zkk
 rw [zsG (a:=zb.mk f.Name f.Params f.Ret f.Static f.Abstract f.Locals f.Stack f.Code f.Maps f.Traps) h]
 cases y.Name == f.Name <;> rfl
theorem zDF{f:zb}(h:f.Params.length≤10000){T:List zb}(hl:T.length≤10000):zac T f.Name f.Params f.Ret f.Static f.Abstract f.Locals f.Stack f.Code f.Maps f.Traps=some (T.any fun y=>(y.Name == f.Name)&&zie f y):=by
 unfold zac zbE
 rw [show ((zl (fun z=>zav T f.Name f.Params f.Ret f.Static f.Abstract f.Locals f.Stack f.Code f.Maps f.Traps z) 0).bind fun o=>zD o (fun b=>zcE) some)=_ from zaD (l:=T) (p:=fun y:zb=>(y.Name == f.Name)&&zie f y) (by omega) (fun i x hx=>by
   unfold zav
   rw [zd9 hx,zr,hx]
   simp only [Option.bind_some,cond_true]
   rw [zDD h]
   rfl) (by unfold zav;rw [zeD];rfl)]
 rw [Option.bind_some,zem]
theorem zFy(h:zcg l L)(hm:zbr L m)(hL:zkg L)(hD:∀c∈L,zrN L c){c:Tx}{f:zb}(hp:f.Params.length≤10000):zno L m c f=some (zyo L c f):=by
 unfold zno zyo
 rw [zA9 h hm hL]
 simp only [Option.bind_some]
 cases (chN L c f.Name).2 with
 |false=>rfl
 |true =>
  simp only [Bool.not_true,cond_false,Bool.true_and]
  obtain ⟨v,e1,e2⟩:∃v,zO L m (chN L c f.Name).1=some v∧v.1.Methods=zfX L (chN L c f.Name).1:=⟨_,zfG hm _,by unfold zfX;cases cl L (chN L c f.Name).1 <;> rfl⟩
  rw [e1]
  simp only [Option.bind_some]
  rw [e2,zDF hp (zur hD _).1]
  rfl
theorem zDU(h:zcg l L)(hm:zbr L m)(hL:zkg L)(hD:∀c∈L,zrN L c){c:za}{T:List zb}(hl:T.length≤10000000)(hT:∀f∈T,f.Params.length≤10000):
  zab T L m c.Name c.Super c.Interface c.Impl c.Fields c.Methods=some (T.any fun f=>!zyo L c.Name f):=by
 unfold zab zbD
 rw [show ((zl (fun z=>zau T L m c.Name c.Super c.Interface c.Impl c.Fields c.Methods z) 0).bind fun o=>zD o (fun b=>zcD) some)=_ from zaD (l:=T) (p:=fun f:zb=>!zyo L c.Name f) (by omega) (fun i x hx=>by
   unfold zau zkE
   rw [zd9 hx,zr,hx]
   simp only [Option.bind_some,cond_true]
   rw [zFy h hm hL hD (hT x (List.mem_of_getElem? hx))]
   rfl) (by unfold zau;rw [zeD];rfl)]
 rw [Option.bind_some,zem]
def zqB:List zb→List zb→Option (List zb)
 |acc,[]=>some acc
 |acc,f ::r=>cond (acc.any fun y=>zlY f y) none (zqB (acc++[f]) r)
theorem zv5:∀(A acc B:List zb),zqB acc (A++B)=(zqB acc A).bind fun a=>zqB a B
 | [],acc,B=>rfl
 |f ::r,acc,B=>by
  show cond (acc.any fun y=>zlY f y) none (zqB (acc++[f]) (r++B))=(cond (acc.any fun y=>zlY f y) none (zqB (acc++[f]) r)).bind fun a=>zqB a B
  rw [zv5 r (acc++[f]) B]
  cases (acc.any fun y=>zlY f y) <;> rfl
theorem zyw:∀(A acc a:List zb),zqB acc A=some a→a=acc++A
 | [],acc,a,h=>by
  have:a=acc:=by simpa [zqB] using h.symm
  rw [this];simp
 |f ::r,acc,a,h=>by
  have h:cond (acc.any fun y=>zlY f y) none (zqB (acc++[f]) r)=some a:=h
  cases hb:(acc.any fun y=>zlY f y) with
  |true=>rw [hb] at h;cases h
  |false =>
   rw [hb] at h
   rw [zyw r (acc++[f]) a h];simp
theorem zA4{f y:zb}(h:zlY f y=true):zlY y f=true:=by
 unfold zlY at h ⊢
 simp only [Bool.and_eq_true,beq_iff_eq] at h ⊢
 exact ⟨h.1.symm,by rw [zlf];exact h.2⟩
theorem zA5(f:zb):zlY f f=false:=by
 unfold zlY zie
 simp
theorem ztU:∀(A acc:List zb),(∃f∈A,∃y∈acc++A,zlY f y=true)→zqB acc A=none
 | [],acc,⟨f,hf,_⟩=>by cases hf
 |f ::r,acc,⟨g,hg,y,hy,hb⟩=>by
  show cond (acc.any fun y=>zlY f y) none (zqB (acc++[f]) r)=none
  cases ha:(acc.any fun y=>zlY f y) with
  |true=>rfl
  |false =>
   rw [List.any_eq_false] at ha
   show zqB (acc++[f]) r=none
   refine ztU r (acc++[f]) ?_
   have hy2:y∈(acc++[f])++r:=by simpa using hy
   rcases List.mem_cons.1 hg with e |e
   ·subst e
    rcases List.mem_append.1 hy with k |k
    ·exact absurd hb (ha y k)
    ·rcases List.mem_cons.1 k with e |e
     ·subst e;rw [zA5] at hb;cases hb
     ·exact ⟨y,e,g,by simp,zA4 hb⟩
   ·exact ⟨g,e,y,hy2,hb⟩
theorem ztV:∀(A acc:List zb),(∀f∈A,∀y∈acc++A,zlY f y=false)→zqB acc A=some (acc++A)
 | [],acc,_=>by simp [zqB]
 |f ::r,acc,h=>by
  show cond (acc.any fun y=>zlY f y) none (zqB (acc++[f]) r)=_
  have ha:(acc.any fun y=>zlY f y)=false:=by
   rw [List.any_eq_false]
   intro y hy
   rw [h f (by simp) y (by simp [hy])];simp
  rw [ha]
  show zqB (acc++[f]) r=_
  rw [ztV r (acc++[f]) fun g hg y hy=>h g (by simp [hg]) y (by simpa using hy)]
  simp
theorem zAY(A:List zb):zqB [] A=cond (A.any fun f=>A.any fun y=>zlY f y) none (some A):=by
 cases h:(A.any fun f=>A.any fun y=>zlY f y) with
 |true =>
  rw [List.any_eq_true] at h
  obtain ⟨f,hf,h⟩:=h
  rw [List.any_eq_true] at h
  obtain ⟨y,hy,h⟩:=h
  exact ztU A [] ⟨f,hf,y,by simpa using hy,h⟩
 |false =>
  rw [List.any_eq_false] at h
  have:=ztV A [] fun f hf y hy=>by
   have h1:=h f hf
   simp only [Bool.not_eq_true,List.any_eq_false] at h1
   simpa using h1 y (by simpa using hy)
  simpa using this
theorem zwv(x:za)(b:Bool)(hp:∀f∈x.Methods,f.Params.length≤10000)(hn:x.Methods.length≤10000):∀(r pre acc:List zb),x.Methods=pre++r→acc.length+r.length≤1000000 →
  zl (fun z=>zfK (x,b) z.1 z.2) (acc,(pre.length:Int))=some (match zqB acc r with |some a=>.inl a |none=>.inr false)
 | [],pre,acc,e,hl=>by
  rw [List.append_nil] at e
  rw [zI]
  show (zfK (x,b) acc (pre.length:Int)).bind _=_
  unfold zfK
  simp only
  rw [←e,zeD]
  rfl
 |f ::r,pre,acc,e,hl=>by
  have hx:x.Methods[pre.length]?=some f:=by rw [e];simp
  have hlen:x.Methods.length=pre.length+(r.length+1):=by rw [e];simp
  simp only [List.length_cons] at hl
  rw [zI]
  show (zfK (x,b) acc (pre.length:Int)).bind _=_
  unfold zfK
  simp only
  rw [zd9 hx,zr,hx]
  simp only [cond_true,Option.bind_some]
  rw [zDc (hp f (List.mem_of_getElem? hx)) (by omega)]
  simp only [Option.bind_some]
  show _=some (match cond (acc.any fun y=>zlY f y) none (zqB (acc++[f]) r) with |some a=>Sum.inl a |none=>Sum.inr false)
  cases (acc.any fun y=>zlY f y) with
  |true=>rfl
  |false =>
   simp only [cond_false]
   rw [zc3 (by simp;omega) (by simp;omega)]
   simp only [Option.bind_some]
   rw [zN (by omega)]
   have ih:=zwv x b hp hn r (pre++[f]) (acc++[f]) (by rw [e];simp) (by simp;omega)
   rw [show (pre++[f]).length=pre.length+1 by simp] at ih
   exact ih
theorem zww(h:zcg l L)(hm:zbr L m)(hD:∀c∈L,zrN L c){T:List Tx}(hT:T.length≤52):∀(r pre:List Tx) (acc:List zb),T=pre++r→acc.length≤10000*pre.length →
  zl (fun z=>zfL L m T z.1 z.2) (acc,(pre.length:Int))=some (match zqB acc (r.flatMap (zfX L)) with |some a=>.inl a |none=>.inr false)
 | [],pre,acc,e,hl=>by
  rw [List.append_nil] at e
  rw [zI]
  show (zfL L m T acc (pre.length:Int)).bind _=_
  unfold zfL
  rw [←e,zeD]
  rfl
 |s ::r,pre,acc,e,hl=>by
  have hx:T[pre.length]?=some s:=by rw [e];simp
  have hlen:T.length=pre.length+(r.length+1):=by rw [e];simp
  have hd:=zur hD s
  obtain ⟨x,b,e1,e2⟩:∃x b,zO L m s=some (x,b)∧x.Methods=zfX L s:=by
   rw [zfG hm]
   unfold zfX
   cases cl L s with
   |none=>exact ⟨_,_,rfl,rfl⟩
   |some x=>exact ⟨_,_,rfl,rfl⟩
  rw [zI]
  show (zfL L m T acc (pre.length:Int)).bind _=_
  unfold zfL
  rw [zd9 hx,zr,hx]
  simp only [cond_true,Option.bind_some]
  rw [e1]
  simp only [Option.bind_some]
  have hin:=zwv x b (fun f hf=>by rw [e2] at hf;have:=(hd.2 f hf).pars.1;omega) (by rw [e2];exact hd.1) x.Methods [] acc rfl (by rw [e2];have:=hd.1;omega)
  rw [show (([]:List zb).length:Int)=0 from rfl] at hin
  rw [hin,e2]
  rw [List.flatMap_cons,zv5]
  cases ha:zqB acc (zfX L s) with
  |none=>rfl
  |some a =>
   simp only [Option.bind_some,zD,Sum.elim]
   unfold zmB
   rw [zN (by omega)]
   have hal:a.length≤10000*(pre++[s]).length:=by
    rw [zyw _ _ _ ha]
    simp only [List.length_append,List.length_cons,List.length_nil]
    have:=hd.1
    omega
   have ih:=zww h hm hD hT r (pre++[s]) a (by rw [e];simp) hal
   rw [show (pre++[s]).length=pre.length+1 by simp] at ih
   exact ih
theorem zDt(h:zcg l L)(hm:zbr L m)(hL:zkg L)(hD:∀c∈L,zrN L c){c:za}:ziL L m c=some (zjI L c):=by
 have h52:=zkQ h c.Name
 unfold ziL
 rw [zqR h hm]
 simp only [Option.bind_some]
 have ho:=zww h hm hD h52 (zbZ L c.Name) [] [] rfl (by simp)
 rw [show (([]:List Tx).length:Int)=0 from rfl] at ho
 rw [ho]
 show (some (match zqB [] (zve L c.Name) with |some a=>Sum.inl a |none=>Sum.inr false):Option (Sum (List zb) Bool)).bind _=_
 rw [zAY]
 unfold zjI
 cases hb:((zve L c.Name).any fun f=>(zve L c.Name).any fun y=>zlY f y) with
 |true=>rfl
 |false =>
  simp only [cond_false,Option.bind_some,zD,Bool.not_false,Bool.true_and]
  unfold zmC
  have hlen:(zve L c.Name).length≤10000*52:=by
   unfold zve
   have:∀T:List Tx,(T.flatMap (zfX L)).length≤10000*T.length:=fun T=>by
    induction T with
    |nil=>simp
    |cons s T ih =>
     rw [List.flatMap_cons,List.length_append,List.length_cons]
     have:=(zur hD s).1
     omega
   have:=this (zbZ L c.Name)
   omega
  rw [zDU h hm hL hD (c:=c) (T:=zve L c.Name) (by omega) (fun f hf=>by
   unfold zve at hf
   obtain ⟨s,hs,hf⟩:=List.mem_flatMap.1 hf
   have:=((zur hD s).2 f hf).pars.1
   omega)]
  cases c.Interface <;> rfl
end
section
variable {l L : List za} {m : List (Tx × Int)}
def zxR(L:List za):Int:=cond (L.any fun c=>!zmc L c) 4 (cond (L.any fun c=>!(zqc L c&&zjI L c)) 1 0)
theorem zsi(h:zcg l L)(p:za→Bool):((L.map (·.Name)).any fun n=>p (zrW L n))=L.any p:=by
 have hnd:Nd L:=h.nd
 rw [List.any_map,Bool.eq_iff_iff,List.any_eq_true,List.any_eq_true]
 constructor
 ·rintro ⟨c,hc,k⟩
  refine ⟨c,hc,?_⟩
  have:zrW L c.Name=c:=by unfold zrW;rw [hnd.cl hc];rfl
  simpa [Function.comp,this] using k
 ·rintro ⟨c,hc,k⟩
  refine ⟨c,hc,?_⟩
  have:zrW L c.Name=c:=by unfold zrW;rw [hnd.cl hc];rfl
  simpa [Function.comp,this] using k
theorem zwN(h:zcg l L){i:Nat}{n:Tx}(hn:(L.map (·.Name))[i]?=some n):∃c,c∈L∧cl L n=some c∧c.Name=n∧zrW L n=c:=by
 have hnd:Nd L:=h.nd
 rw [List.getElem?_map] at hn
 cases hc:L[i]? with
 |none=>rw [hc] at hn;cases hn
 |some c =>
  rw [hc] at hn
  have e:c.Name=n:=by simpa using hn
  have hcm:=List.mem_of_getElem? hc
  have h2:cl L n=some c:=by rw [←e];exact hnd.cl hcm
  exact ⟨c,hcm,h2,e,by unfold zrW;rw [h2];rfl⟩
theorem zwH(h:zcg l L)(hm:zbr L m)(hL:zkg L)(hD:∀c∈L,zrN L c):ze9 (some (zH.mk L m))=some (zxR L):=by
 have h26:=h.len
 unfold ze9
 simp only [zuB]
 rw [zuv (by omega)]
 simp only [Option.bind_some]
 rw [show zl (fun z=>zeW (zH.mk L m) (L.map (·.Name)) z) 0=some (zjy () ((L.map (·.Name)).findSome? (fun n=>cond (!zmc L (zrW L n)) (some 4) none))) from zaQ (fun i n hn=>by
  have hi:=(List.getElem?_eq_some_iff.1 hn).1
  rw [List.length_map] at hi
  obtain ⟨c,c1,c2,c3,c4⟩:=zwN h hn
  have hs:=(hD c c1).small
  show zeW (zH.mk L m) (L.map (·.Name)) (i:Int)=_
  unfold zeW
  rw [zd9 hn,zr,hn]
  simp only [cond_true,Option.bind_some]
  rw [zfG hm,c2]
  simp only [Option.bind_some]
  rw [zCm h hm hL hs.fields hs.methods,zN (by omega),c4]
  cases zmc L c <;> rfl) (by
  show zeW (zH.mk L m) (L.map (·.Name)) ((L.map (·.Name)).length:Int)=_
  unfold zeW
  rw [zeD];rfl),zY,zsi h (fun c=>!zmc L c)]
 unfold zxR
 cases (L.any fun c=>!zmc L c) with
 |true=>rfl
 |false =>
  simp only [cond_false,zjy,Option.bind_some,zD]
  unfold zl1
  simp only
  rw [zuv (by omega)]
  simp only [Option.bind_some]
  rw [show zl (fun z=>zeX (zH.mk L m) (L.map (·.Name)) z) 0=some (zjy () ((L.map (·.Name)).findSome? (fun n=>cond (!(zqc L (zrW L n)&&zjI L (zrW L n))) (some 1) none))) from zaQ (fun i n hn=>by
   have hi:=(List.getElem?_eq_some_iff.1 hn).1
   rw [List.length_map] at hi
   obtain ⟨c,c1,c2,c3,c4⟩:=zwN h hn
   have hs:=(hD c c1).small
   show zeX (zH.mk L m) (L.map (·.Name)) (i:Int)=_
   unfold zeX
   rw [zd9 hn,zr,hn]
   simp only [cond_true,Option.bind_some]
   rw [zfG hm,c2]
   simp only [Option.bind_some]
   rw [zuC h hm (fun s=>(zur hD s).1) (by rw [c3];exact zgL c2) hs.methods,zDt h hm hL hD,zN (by omega),c4]
   cases zqc L c <;> cases zjI L c <;> rfl) (by
   show zeX (zH.mk L m) (L.map (·.Name)) ((L.map (·.Name)).length:Int)=_
   unfold zeX
   rw [zeD];rfl),zY,zsi h (fun c=>!(zqc L c&&zjI L c))]
  cases (L.any fun c=>!(zqc L c&&zjI L c)) <;> rfl
theorem zwG(h:zcg l L)(hL:zkg L)(hD:∀c∈L,zrN L c):zec (some (zz.mk L))=some (zxR L):=by
 have h26:=h.len
 unfold zec
 simp only [zuB]
 rw [show zl (fun z=>zdh (zz.mk L) z) 0=some (zjy () (L.findSome? (fun c=>cond (!zmc L c) (some 4) none))) from zaQ (fun i c hn=>by
  have hi:=(List.getElem?_eq_some_iff.1 hn).1
  have hc:=List.mem_of_getElem? hn
  show zdh (zz.mk L) (i:Int)=_
  unfold zdh
  simp only
  rw [zd9 hn,zr,hn]
  simp only [cond_true,Option.bind_some]
  rw [zvS h hL (hD c hc),zN (by omega)]
  cases zmc L c <;> rfl) (by
  show zdh (zz.mk L) (L.length:Int)=_
  unfold zdh
  simp only
  rw [zeD];rfl),zY]
 unfold zxR
 cases (L.any fun c=>!zmc L c) with
 |true=>rfl
 |false =>
  simp only [cond_false,zjy,Option.bind_some,zD]
  unfold zjW
  rw [show zl (fun z=>zdi (zz.mk L) z) 0=some (zjy () (L.findSome? (fun c=>cond (!(zqc L c&&zjI L c)) (some 1) none))) from zaQ (fun i c hn=>by
   have hi:=(List.getElem?_eq_some_iff.1 hn).1
   have hc:=List.mem_of_getElem? hn
   show zdi (zz.mk L) (i:Int)=_
   unfold zdi
   simp only
   rw [zd9 hn,zr,hn]
   simp only [cond_true,Option.bind_some]
   rw [zvR h hL hD hc,zN (by omega)]
   cases zqc L c <;> cases zjI L c <;> rfl) (by
   show zdi (zz.mk L) (L.length:Int)=_
   unfold zdi
   simp only
   rw [zeD];rfl),zY]
  cases (L.any fun c=>!(zqc L c&&zjI L c)) <;> rfl
def vN(L:List za)(n:Tx)(k:Int):Bool:=(zgn (some (zz.mk L)) n k).getD false
theorem zCX(h:zcg l L)(hm:zbr L m)(hL:zkg L)(n:Tx)(k:Int):zbX (some (zH.mk L m)) n k=some (vN L n k)∧zhC L n k=some (vN L n k):=by
 obtain ⟨v,v1,v2⟩:=zAE h hm hL n k
 have e:vN L n k=v:=by unfold vN;rw [v2];rfl
 rw [e]
 exact ⟨v1,v2⟩
def zFs(L:List za)(c:za)(k:Nat):Bool:=match c.Methods[k]? with |some f=>!f.Abstract&&!vN L c.Name (k:Int) |none=>false
def zvi(L:List za)(c:za):Bool:=(List.range c.Methods.length).any (zFs L c)
theorem zEu(h:zcg l L)(hm:zbr L m)(hL:zkg L){e:Int}{c:za}(hc:c.Methods.length≤10000):zl (fun z=>zfI (some (zH.mk L m),e) c z) 0=some (zjy () (cond (zvi L c) (some (none,5)) none)):=by
 unfold zvi
 rw [←zY]
 exact zpy (fun k hk=>by
  have hf:c.Methods[k]?=some c.Methods[k]:=List.getElem?_eq_getElem hk
  show zfI (some (zH.mk L m),e) c (k:Int)=_
  unfold zfI zFs
  rw [zd9 hf,zr,hf]
  simp only [cond_true,Option.bind_some]
  rw [(zCX h hm hL c.Name (k:Int)).1,zN (by omega)]
  cases (c.Methods[k]).Abstract <;> cases vN L c.Name (k:Int) <;> rfl) (by
  show zfI (some (zH.mk L m),e) c (c.Methods.length:Int)=_
  unfold zfI
  rw [zeD];rfl)
theorem zDl(h:zcg l L)(hm:zbr L m)(hL:zkg L)(hn:∀c∈l,c.Methods.length≤10000){e:Int}:zl (fun z=>zfJ l (some (zH.mk L m),e) z) 0=some (zjy () (cond (l.any (zvi L)) (some (none,5)) none)):=by
 have h16:=h.few
 rw [←zY]
 exact zaQ (fun i c hc=>by
  have hi:=(List.getElem?_eq_some_iff.1 hc).1
  show zfJ l (some (zH.mk L m),e) (i:Int)=_
  unfold zfJ
  rw [zd9 hc,zr,hc]
  simp only [cond_true,Option.bind_some]
  rw [zEu h hm hL (hn c (List.mem_of_getElem? hc))]
  unfold zmA
  rw [zN (by omega)]
  cases zvi L c <;> rfl) (by
  show zfJ l (some (zH.mk L m),e) (l.length:Int)=_
  unfold zfJ
  rw [zeD];rfl)
theorem zx7(h:zcg l L)(hm:zbr L m)(hL:zkg L){i:Nat}{c:za}(hi:L[i]?=some c)(hc:c.Methods.length≤10000):zl (fun z=>zg7 (i:Int) (zz.mk L) z) 0=some (zjy () (cond (zvi L c) (some (none,5)) none)):=by
 unfold zvi
 rw [←zY]
 exact zpy (fun k hk=>by
  have hf:c.Methods[k]?=some c.Methods[k]:=List.getElem?_eq_getElem hk
  show zg7 (i:Int) (zz.mk L) (k:Int)=_
  unfold zg7 zFs
  simp only
  rw [zr L,hi]
  simp only [Option.bind_some]
  rw [zd9 hf,zr,hf]
  simp only [cond_true,Option.bind_some]
  rw [(zCX h hm hL c.Name (k:Int)).2,zN (by omega)]
  cases (c.Methods[k]).Abstract <;> cases vN L c.Name (k:Int) <;> rfl) (by
  show zg7 (i:Int) (zz.mk L) (c.Methods.length:Int)=_
  unfold zg7
  simp only
  rw [zr L,hi]
  simp only [Option.bind_some]
  rw [zeD];rfl)
theorem zru(h:zcg l L)(hm:zbr L m)(hL:zkg L)(hn:∀c∈L,c.Methods.length≤10000):∀(r pre:List za),L=pre++r→zl (fun z=>zff z.1 z.2) (some (zz.mk L),(pre.length:Int))=some (cond (r.any (zvi L)) (.inr (none,5)) (.inl L))
 | [],pre,e=>by
  rw [List.append_nil] at e
  rw [zI]
  show (zff (some (zz.mk L)) (pre.length:Int)).bind _=_
  unfold zff
  simp only [zuB]
  rw [←e,zeD]
  rfl
 |c ::r,pre,e=>by
  have h26:=h.len
  have hx:L[pre.length]?=some c:=by rw [e];simp
  have hlen:L.length=pre.length+(r.length+1):=by rw [e];simp
  rw [zI]
  show (zff (some (zz.mk L)) (pre.length:Int)).bind _=_
  unfold zff
  simp only [zuB]
  rw [zd9 hx,zx7 h hm hL hx (hn c (List.mem_of_getElem? hx))]
  rw [List.any_cons]
  cases zvi L c with
  |true=>rfl
  |false =>
   simp only [cond_true,cond_false,zjy,Option.bind_some,zD,Bool.false_or]
   unfold zo9
   rw [zN (by omega)]
   have ih:=zru h hm hL hn r (pre++[c]) (by rw [e];simp)
   rw [show (pre++[c]).length=pre.length+1 by simp] at ih
   exact ih
theorem zDd(h:zcg l L):L.any (zvi L)=l.any (zvi L):=by
 have hg:giv.all (fun c=>decide (c.Methods.length=0))=true:=by decide +kernel
 have e:giv.any (zvi L)=false:=by
  rw [List.any_eq_false]
  intro c hc
  have:=of_decide_eq_true (List.all_eq_true.1 hg c hc)
  unfold zvi
  rw [this];simp
 have e2:(giv++l).any (zvi L)=l.any (zvi L):=by rw [List.any_append,e,Bool.false_or]
 rw [←h.app] at e2
 exact e2
theorem zxx(hf:∀c∈l,zmw c)(e:zbu):∃(r:Int) (m:List (Tx×Int)) (o:Option (List za)),zfY l e=some (o.map (fun L=>zH.mk L m),r)∧znw l e=some (o.map zz.mk,r)∧(∀L,o=some L→zcg l L∧zbr L m∧r=0):=by
 have hc:∀c∈l,zAO c:=fun c hc=>(hf c hc).cg
 obtain ⟨m,hm,he⟩:=zqY hc
 unfold zfY znw
 rw [he,zrq hc]
 simp only [Option.bind_some]
 cases hE:(ztO l).1 with
 |none =>
  have h0:=zzC hE
  refine ⟨(ztO l).2,m,none,?_,?_,fun L h=>by cases h⟩
  ·have:((ztO l).2 == (0:Int))=false:=beq_eq_false_iff_ne.2 h0
   rw [this];rfl
  ·have:((ztO l).2 == (0:Int))=false:=beq_eq_false_iff_ne.2 h0
   rw [this];rfl
 |some L =>
  obtain ⟨hM,hz⟩:=zuw hE
  have hmp:=hm L hE
  have hF:=zzw hM hf
  have hL:zkg L:=zzt hF
  have hD:∀c∈L,zrN L c:=fun c hc=>zEw hM hF hc
  rw [hz]
  simp only [Option.map_some,beq_self_eq_true,Bool.not_true,cond_false]
  rw [zwH hM hmp hL hD,zwG hM hL hD]
  simp only [Option.bind_some]
  cases h0:(zxR L == (0:Int)) with
  |false=>exact ⟨zxR L,m,none,rfl,rfl,fun L h=>by cases h⟩
  |true =>
   simp only [Bool.not_true,cond_false]
   rw [show zjN (some (zH.mk L m)) e.C e.M=zgv L m e.C e.M from rfl,zoX hM hmp hL]
   rw [show zeK (some (zz.mk L)) e.C e.M=ze4 L e.C e.M from rfl,zlO hM hL]
   simp only [Option.bind_some]
   generalize ((zeO L e.C).findSome? (znV L zaT e.M)).getD ([],zM,false)=V
   cases ((((!V.2.2)||(!V.2.1.Static))||(decide (0<(List.length V.2.1.Params:Int))))||(!(V.2.1.Ret == [86]))) with
   |true=>exact ⟨4,m,none,rfl,rfl,fun L h=>by cases h⟩
   |false =>
    simp only [cond_false]
    rw [zDl hM hmp hL (fun c hc=>(hf c hc).methods.len)]
    have hr:=zru hM hmp hL (fun c hc=>(hF c hc).methods.len) L [] rfl
    rw [show (([]:List za).length:Int)=0 from rfl] at hr
    rw [hr,zDd hM]
    cases l.any (zvi L) with
    |true=>exact ⟨5,m,none,rfl,rfl,fun L h=>by cases h⟩
    |false=>exact ⟨0,m,some L,rfl,rfl,fun L' h=>by cases h;exact ⟨hM,hmp,rfl⟩⟩
theorem zD6(hf:∀c∈l,zmw c)(e:zbu):zkV l e=some true:=by
 have hc:∀c∈l,zAO c:=fun c hc=>(hf c hc).cg
 obtain ⟨r,m0,o,h1,h2,_⟩:=zxx hf e
 obtain ⟨m,hm,he⟩:=zqY hc
 unfold zkV
 rw [h1,h2,he,zrq hc]
 simp only [Option.bind_some]
 have e1:((!(r == r))||(!((Option.isNone (o.map fun L=>zH.mk L m0)) == (Option.isNone (o.map zz.mk)))))=false:=by cases o <;> simp
 rw [e1]
 simp only [cond_false]
 cases hE:(ztO l).1 with
 |none=>rfl
 |some L =>
  obtain ⟨hM,hz⟩:=zuw hE
  have hF:=zzw hM hf
  have hL:zkg L:=zzt hF
  have hD:∀c∈L,zrN L c:=fun c hc=>zEw hM hF hc
  simp only [Option.map_some,Option.isNone_some,cond_false]
  rw [zwH hM (hm L hE) hL hD,zwG hM hL hD]
  simp
theorem zul(e:zbu):zmP e=some (zbu.mk (e.C.take 12) (e.M.take 12)):=by
 unfold zmP
 rw [show (12:Int)=((12:Nat):Int) from rfl,zea,zea]
 rfl
theorem zoT{l:List za}(h:∀c∈l,zld c)(e:zbu):zhV l e=some true:=by
 unfold zhV
 rw [zDg,zvx,zul]
 simp only [Option.bind_some,Bool.not_true,cond_false]
 rw [zD6 (fun c hc=>(zxq h c hc).fc)]
 rfl
theorem zrV(l:List za)(e:zbu)(h:wL zld l)(_:zu3 e):zam Tryz.prog 15 [.isl 6 (List.map zc l),.agg (zgO e)] (bA true):=zkp l e (zoT h.2 e)
end

end
end Go.Proofs.YtjbdfkapnffjnaaGreat
