/- ClosedAll: for every input the law returns true, and each argument reads as it read before. No further condition. Part 3 of 7. -/
import Derived.Test.YtjbdfkapnffjnaaGreatVh2
namespace Go.Proofs.YtjbdfkapnffjnaaGreat
noncomputable section
open List (length map)
set_option linter.unusedSimpArgs false
set_option linter.unusedVariables false
set_option maxRecDepth 100000
set_option maxHeartbeats 4000000
set_option linter.unusedSectionVars false
section
open Go.Sort Go.RowKit
theorem R.redo{A:Nat→Prop}{m:BM}{w w':World}{st:St}(hR:R A m w st){l k:Nat}{els els':List (List AV)}(hl:st[l]?=some (some (k,els))){b:Blk}(hb:m l=some b)(hh:b.has=true)(hm:b.mp=false)
  (hsize:w.heap.size≤w'.heap.size) (hos:w'.os=w.os) (htape:w'.tape=w.tape) (hout:w'.output=w.output) (hother:∀B,B<w.heap.size→B≠b.B→w'.heap[B]?=w.heap[B]?)
  (hlen:els'.length=els.length) (hthere:∀off,off<b.top→∃v,w'.cell? ⟨b.B,off,none⟩=some v) (hfree:∀off,off<b.top→fz w' ⟨b.B,off,none⟩=false) (hw:∀i (h:i<els'.length),els'[i].length=b.k)
  (hv:∀i (h:i<els'.length) j (h':j<els'[i].length),∃v,w'.cell? ⟨b.B,b.o+i*b.k+j,none⟩=some v∧V A m st.length w els'[i][j] v):
  R A m w' (st.set l (some (k,els')))∧ze6 A m st.length w A m st.length w':=by
 obtain ⟨hbk,hok,_⟩:=hR.at hb hl
 replace hok:=hok hh
 have hS:ze6 A m st.length w A m st.length w':=
  ⟨Nat.le_refl _,hsize,fun _ h=>h,fun _ h=>.inl h,fun _ _=>.inl rfl,fun l b h hh=>.inr ⟨l,b,h,hh,rfl⟩,fun B hB ho=>hother B hB (fun e=>ho l b hb hh e.symm),hos,htape,hout⟩
 have hV:∀av v,V A m st.length w av v→V A m st.length w' av v:=fun av v h=>h.step hR hS
 have hlt:l<st.length:=hR.lt hb
 refine ⟨⟨fun B hB=>Nat.lt_of_lt_of_le (hR.aLow B hB) hsize,hR.aOwn,hR.inj,fun l' b' h=>?_,fun l' k' els1 he=>?_⟩,hS⟩
 ·obtain ⟨els1,he⟩:=hR.live l' b' h
  by_cases e:l'=l
  ·subst e
   have:b'=b:=Option.some.inj (h.symm.trans hb)
   subst this
   exact ⟨els',by simp [hlt,hbk]⟩
  ·exact ⟨els1,by rw [List.getElem?_set_ne (Ne.symm e)];exact he⟩
 ·rw [List.length_set]
  by_cases e:l'=l
  ·subst e
   rw [List.getElem?_set_self hlt] at he
   simp at he
   obtain ⟨rfl,rfl⟩:=he
   refine ⟨b,hb,hbk,fun _=>zqz.blk ⟨Nat.lt_of_lt_of_le hok.low hsize,hthere,hfree,by rw [hlen];exact hok.fit hm,hw,fun i hi j hj=>?_⟩ hm,fun h=>by rw [hh] at h;cases h⟩
   obtain ⟨v,h1,h2⟩:=hv i hi j hj
   exact ⟨v,h1,hV _ _ h2⟩
  ·rw [List.getElem?_set_ne (Ne.symm e)] at he
   obtain ⟨b',h1,h2,h3,h4⟩:=hR.blk l' k' els1 he
   refine ⟨b',h1,h2,fun hh'=>(h3 hh').keep hsize (hother _ (h3 hh').low (fun e'=>e (hR.inj l' l b' b h1 hb hh' hh e'))) hV,h4⟩
def zwC(s:List UInt8):List (List UInt8)→List (List UInt8)
 | []=>[s]
 |x ::r=>if s≤x then s ::x ::r else x ::zwC s r
def zpY:List (List UInt8)→List (List UInt8)
 | []=>[]
 |x ::r=>zwC x (zpY r)
theorem zmM(s:List UInt8):∀l,(zwC s l).Perm (s ::l)
 | []=>.refl _
 |x ::r=>by
  unfold zwC
  split
  ·exact .refl _
  ·exact (List.Perm.cons x (zmM s r)).trans (List.Perm.swap s x r)
theorem zhy:∀l,(zpY l).Perm l
 | []=>.refl _
 |x ::r=>(zmM x (zpY r)).trans (List.Perm.cons x (zhy r))
theorem zCE(a b:List UInt8):a≤b∨b≤a:=List.le_total a b
theorem zog(s:List UInt8):∀{l:List (List UInt8)},l.Pairwise (·≤·)→(zwC s l).Pairwise (·≤·)
 | [],_=>by simp [zwC]
 |x ::r,h=>by
  obtain ⟨h1,h2⟩:=List.pairwise_cons.1 h
  unfold zwC
  split
  ·rename_i hs
   refine List.pairwise_cons.2 ⟨fun y hy=>?_,h⟩
   rcases List.mem_cons.1 hy with rfl |hy
   ·exact hs
   ·exact List.le_trans hs (h1 y hy)
  ·rename_i hs
   refine List.pairwise_cons.2 ⟨fun y hy=>?_,zog s h2⟩
   rcases List.mem_cons.1 ((zmM s r).mem_iff.1 hy) with rfl |hy
   ·exact (zCE y x).resolve_left hs
   ·exact h1 y hy
theorem zlw:∀l:List (List UInt8),(zpY l).Pairwise (·≤·)
 | []=>List.Pairwise.nil
 |x ::r=>zog x (zlw r)
theorem zzr(l:List (List UInt8)):(l.mergeSort fun x y=>decide (x≤y))=zpY l:=by
 have h1:(l.mergeSort fun x y=>decide (x≤y)).Pairwise (·≤·):=by
  have:=List.pairwise_mergeSort (le:=fun x y:List UInt8=>decide (x≤y)) (fun a b c h1 h2=>decide_eq_true (List.le_trans (of_decide_eq_true h1) (of_decide_eq_true h2))) (fun a b=>by
   rcases zCE a b with h |h
   ·simp [h]
   ·simp [h]) l
  exact this.imp fun h=>of_decide_eq_true h
 exact List.Perm.eq_of_pairwise (fun a b _ _ h1 h2=>List.le_antisymm h1 h2) h1 (zlw l) ((List.mergeSort_perm l _).trans (zhy l).symm)
def zyd(l:List (List UInt8)):Option (List (List UInt8)):=if l.length<4611686018427387904 then some (zpY l) else none
theorem zAb{l r:List (List UInt8)}(h:zyd l=some r):r.length=l.length:=by
 unfold zyd at h
 split at h
 ·cases h;exact (zhy _).length_eq
 ·cases h
theorem zBj{w w':World}{b:Nat}(h:∀c e fr,w.heap[b]?=some (.cells c e fr)→∃c',w'.heap[b]?=some (.cells c' e fr))(hc:∃c e fr,w.heap[b]?=some (.cells c e fr))(off:Nat):fz w' ⟨b,off,none⟩=fz w ⟨b,off,none⟩:=by
 obtain ⟨c,e,fr,h1⟩:=hc
 obtain ⟨c',h2⟩:=h c e fr h1
 simp only [fz,h1,h2]
theorem zB6(l:List (List UInt8)){r:List (List UInt8)}(h:zyd l=some r):SC Tryz.prog 210 [.msl 0 0 (List.length l)] [.many 1 (List.map zw l)] (.tup []) [.many 1 (List.map zw r)]:=by
 unfold zyd at h
 split at h
 case isFalse=>cases h
 rename_i hsz
 cases h
 refine ⟨⟨zia (sz:=1) (fun _=>rfl),trivial⟩,?_⟩
 cases l with
 |nil =>
  exact zvN (kn:=[]) (by kernel_rfl) (fun g h=>by cases h) 40 _ _ _ _ _ (by kernel_rfl)
 |cons x l =>
  generalize hl:x ::l=ss at *
  have hne:0<ss.length:=by rw [←hl];simp
  refine ⟨⟨_,Tryz.func210,by kernel_rfl,by kernel_rfl⟩,fun A m w vals hR hv=>?_⟩
  have h0:V A m 1 w (.msl 0 0 ss.length) (vals.getD 0 undef):=hv.2 0 (by simp)
  obtain ⟨hlt,a,n',cap,hval,hb⟩:=h0.msl_inv
  obtain ⟨b,h1,h2,h3,h4⟩:=hR.blk 0 1 (List.map zw ss) rfl
  obtain ⟨rfl,hcap,hc⟩:=hb b h1
  rcases hc with rfl |⟨hh,hm,rfl,hfit⟩
  ·omega
  have hok:=(h3 hh).cells hm
  have hvals:vals=#[.slice (some ⟨b.B,b.o,none⟩) ss.length cap]:=by
   have h5:vals.size=1:=hv.1
   obtain ⟨u,rfl⟩:=Array.size_eq_one_iff.1 h5
   have:u=.slice (some ⟨b.B,b.o+0*b.k,none⟩) ss.length cap:=hval
   rw [this];simp
  subst hvals
  rw [h2] at hfit
  have hcell:∀j (hj:j<ss.length),w.cell? ⟨b.B,b.o+j,none⟩=some (.string (B ss[j])):=fun j hj=>by
   obtain ⟨v,h5,h6⟩:=hok.val j (by simpa using hj) 0 (by simp [zw])
   rw [h2] at h5
   have e1:(List.map zw ss)[j]'(by simpa using hj)=[.lit (.string (B ss[j]))]:=by simp [zw]
   have h7:V A m 1 w (.lit (.string (B ss[j]))) v:=by
    have:((List.map zw ss)[j]'(by simpa using hj))[0]'(by simp [zw])=.lit (.string (B ss[j])):=by simp [zw]
    rw [←this];exact h6
   rw [h7.lit_inv] at h5
   simpa using h5
  have hH:Holds encStr w b.B b.o ss.toArray:=fun j hj=>by
   have hj':j<ss.length:=by simpa using hj
   refine ⟨?_,zqU (hok.free _ (by omega))⟩
   rw [hcell j hj']
   congr 1
   simp [encStr,hj']
  refine (Any.slices_Sort_string Tryz.lays190 b.B b.o cap ss w hH hok.low hsz).mono fun e w' ⟨he,n,os,hw'⟩=>?_
  rw [zzr] at hw'
  generalize hso:zpY ss=so at hw' ⊢
  have hsl:so.length=ss.length:=by rw [←hso];exact (zhy _).length_eq
  have hsa:so.toArray.size=ss.toArray.size:=by simp [hsl]
  have hlow:=hok.low
  have hheap:∀B,B<w.heap.size→B≠b.B→w'.heap[B]?=w.heap[B]?:=fun B hB hne=>by
   rw [hw',heap_grow_old _ _ (by simpa using hB)]
   show ((Go.Sort.ahead w n).heap.modify b.B _)[B]?=_
   rw [Array.getElem?_modify,if_neg (Ne.symm hne)];rfl
  have hcs:∀a:Addr,a.block=b.B→w'.cell? a=(putRow encStr w b.B b.o so.toArray).cell? a:=fun a ha=>by
   rw [hw',cell?_grow _ _ _ (by rw [ha];simpa using hlow)];rfl
  have hin:∀j (hj:j<so.length),w'.cell? ⟨b.B,b.o+j,none⟩=some (.string (B so[j])):=fun j hj=>by
   rw [hcs _ rfl,cell?_putRow encStr w b.B b.o ss.toArray so.toArray hH hsa j (by simpa using hj)]
   simp [encStr,hj]
  have hobj:∃c e fr,w.heap[b.B]?=some (.cells c e fr):=by
   obtain ⟨v,h5⟩:=hok.there b.o (by omega)
   unfold World.cell? at h5
   split at h5
   ·rename_i c e fr hq;exact ⟨c,e,_,hq⟩
   ·cases h5
  have hred:=hR.redo (w':=w') (l:=0) (k:=1) (els:=List.map zw ss) (els':=List.map zw so) rfl h1 hh hm (by rw [hw'];simp) (by rw [hw'];rfl) (by rw [hw'];rfl) (by rw [hw'];rfl) hheap (by simp [hsl])
   (fun off ho=>by
    rw [hcs _ rfl]
    by_cases hin2:b.o≤off∧off<b.o+so.length
    ·have:=hin (off-b.o) (by omega)
     rw [hcs _ rfl,show b.o+(off-b.o)=off by omega] at this
     exact ⟨_,this⟩
    ·rw [cell?_putRow_other _ _ _ _ _ _ (by right;simp;omega)]
     exact hok.there off ho)
   (fun off ho=>by
    rw [zBj (w:=w) (fun c e fr hq=>?_) hobj]
    ·exact hok.free off ho
    ·refine ⟨putCells encStr b.o so.toArray c,?_⟩
     rw [hw',heap_grow_old _ _ (by simpa using hlow)]
     show ((Go.Sort.ahead w n).heap.modify b.B _)[b.B]?=_
     rw [Array.getElem?_modify,if_pos rfl]
     show (w.heap[b.B]?).map _=_
     rw [hq];rfl)
   (fun i hi=>by rw [h2];simp [zw])
   (fun i hi j hj=>by
    have hi':i<so.length:=by simpa using hi
    have hj0:j=0:=by simp [zw] at hj;exact hj
    subst hj0
    refine ⟨.string (B so[i]),by rw [h2,Nat.mul_one,Nat.add_zero];exact hin i hi',?_⟩
    have:(List.map zw so)[i][0]'hj=.lit (.string (B so[i])):=by simp [zw]
    rw [this];exact .imm (.lit _))
  exact ⟨.tuple #[],A,m,_,.tup [],he,hred.1,hred.2,.imm (.tup _ _ rfl fun i hi=>by cases hi),rfl,rfl⟩
end
structure zp where
  Op:Int
  A:Int
  C:T0
  M:T0
def zt(x:zp):List AV:=[iA x.Op,iA x.A,sA x.C,sA x.M]
def zcR(a:UInt8):Bool:=
  ((decide (97≤(a.toNat:Int)))&&(decide ((a.toNat:Int)≤122)))
instance (a:UInt8):PF Tryz.prog 179 [.lit (.int .u8 (a.toNat:Int))] (some (zcR a)) bA:=.of fun r h=>by
 refine zh Tryz.func179 y kz y y ?_
 unfold zcR at h
 refine A ?_
 refine A ?_
 refine zy ?_
 obtain rfl:=h
 exact ⟨_,y,zad []⟩
def zd0(a:UInt8):Bool:=
  ((decide (65≤(a.toNat:Int)))&&(decide ((a.toNat:Int)≤90)))
instance (a:UInt8):PF Tryz.prog 191 [.lit (.int .u8 (a.toNat:Int))] (some (zd0 a)) bA:=.of fun r h=>by
 refine zh Tryz.func191 y kz y y ?_
 unfold zd0 at h
 refine A ?_
 refine A ?_
 refine zy ?_
 obtain rfl:=h
 exact ⟨_,y,zad []⟩
def zhG(a:UInt8):Bool:=
  ((decide (48≤(a.toNat:Int)))&&(decide ((a.toNat:Int)≤57)))
instance (a:UInt8):PF Tryz.prog 242 [.lit (.int .u8 (a.toNat:Int))] (some (zhG a)) bA:=.of fun r h=>by
 refine zh Tryz.func242 y kz y y ?_
 unfold zhG at h
 refine A ?_
 refine A ?_
 refine zy ?_
 obtain rfl:=h
 exact ⟨_,y,zad []⟩
def zuj(a:T0):Option (Bool):=
  some ((!(a == []))&&(decide ((length a:Int)≤8)))
def zhH(b:T0)(a:Int):Option (Sum (Int) (Sum (Unit) (Bool))):=
  cond (decide (a<(length b:Int))) ((idx b a).bind fun i=>(cond (!(zcR i)) ((idx b a).bind fun c=>some (!(zd0 c))) (some false)).bind fun d=>(cond d ((idx b a).bind fun e=>some (!(zhG e))) (some false)).bind fun f=>cond f (some (.inr (.inr false))) (some (.inl (IntKind.i64.wrap (a+1))))) (some (.inr (.inl ())))
def zmO(a:T0):Option (Bool):=
  (zl (fun z=>zhH a z) 0).bind fun o=>zD o (fun b=>zuj a) some
instance (a:T0):PF Tryz.prog 178 [sA a] (zmO a) bA:=⟨fun r h=>by
 refine zh Tryz.func178 y kz y y<|A ?_
 refine zf<|A ?_
 obtain ⟨o,ho,h⟩:=bs h
 refine lpB ho (fun z=>[(0,sA a),(5,iA (length a:Int)),(6,iA z)]) (fun z=>[]) (fun b=>[(0,sA a)]) (fun b=>[]) (pG Tryz.f178 bA) (zaf []) ?_ ?_
 ·rintro m r h
  refine A ?_
  refine zf ?_
  refine zeh h y (fun c h=>?_) fun c h=>?_
  ·refine ze<|zf<|zi<|A ?_
   obtain ⟨n,e,f,i,j,l,h⟩:=bs3 h
   refine A ?_
   refine zeh h y (fun d h=>?_) fun d h=>?_
   ·refine A ?_
    refine zy ?_
    obtain rfl:=sm h
    exact ⟨_,y,_,y,zad []⟩
   ·refine ze<|A ?_
    obtain rfl:=sm h
    exact ⟨_,y,zo []⟩
  ·refine zq ?_
   obtain rfl:=sm h
   exact ⟨y,_,y,zo []⟩
 ·rintro ⟨⟩ rfl
  refine zn<|A ?_
  exact RT0⟩
def zg0(a:T0):Option (Bool):=
  (zmO a).bind fun b=>(cond (b&&(decide (1<(length a:Int)))) ((idx a 0).bind fun c=>some (zd0 c)) (some false)).bind fun d=>some d
instance (a:T0):PF Tryz.prog 107 [sA a] (zg0 a) bA:=⟨fun r h=>by
 refine zh Tryz.func107 y kz y y<|A ?_
 obtain ⟨b,c,d,e,h⟩:=bs2 h
 refine A ?_
 exact RT0⟩
def zkU(a:T0):Option (Bool):=
  (cond (a == [36,105,110,105,116]) (some true) ((zmO a).bind fun b=>(cond b ((idx a 0).bind fun c=>some (zcR c)) (some false)).bind fun d=>some d)).bind fun e=>some e
instance (a:T0):PF Tryz.prog 101 [sA a] (zkU a) bA:=⟨fun r h=>by
 refine zh Tryz.func101 y kz y y<|A ?_
 obtain ⟨b,c,h⟩:=bs h
 refine A ?_
 exact RT0⟩
def zdH(b:T0)(a:T0):Option (Bool):=
  (cond (decide ((length a:Int)≤(length b:Int))) ((zkM b 0 (length a:Int)).bind fun c=>some (c == a)) (some false)).bind fun d=>some d
instance (f:T0)(e:T0):PF Tryz.prog 271 [sA f,sA e] (zdH f e) bA:=⟨fun r h=>by
 refine zh Tryz.func271 y kz y y<|A ?_
 obtain ⟨l,d,h⟩:=bs h
 refine A ?_
 refine ziU (x:=l) (j:=5) 6 y y y y y gpn (fun c=>by replace d:=bT c d;obtain ⟨m,i,d⟩:=bs d;obtain rfl:=sm d;exact g y c<|mv y<|g y c<|mv y<|g y c<|lnS ti y y<|g y c<|slS (a:=0) (b:=(length e:Int)) ti y y y (zpS y i) i<|g y c<|mv y<|g y c<|seq ti y y<|zx (eg [11,12,13,14,15,16] 6 y y y y)) (fun hb=>(sm (bF hb d)).symm)<|A ?_
 exact RT0⟩
def zdb(a:T0)(b:T0):Option (T0):=
  (zdH a b).bind fun c=>cond c ((zkM a (length b:Int) (length a:Int)).bind fun d=>some d) (some a)
instance (c:T0)(d:T0):PF Tryz.prog 243 [sA c,sA d] (zdb c d) sA:=⟨fun r h=>by
 refine zh Tryz.func243 y kz y y<|A ?_
 refine zf ?_
 obtain ⟨i,j,h⟩:=bs h
 refine A ?_
 refine zeh h y (fun e h=>?_) fun e h=>?_
 ·obtain ⟨l,f,h⟩:=bs h
  refine A ?_
  refine u<|slS (a:=(length d:Int)) (b:=(length c:Int)) ti y y (zlZ y f) y f<|A ?_
  exact RT0
 ·refine ze<|A ?_
  exact RT0⟩
def zfp(a:T0)(b:T0):Option (T0):=
  (zdb a b).bind fun c=>some c
instance (a:T0)(b:T0):PF Tryz.prog 180 [sA a,sA b] (zfp a b) sA:=⟨fun r h=>by
 refine zh Tryz.func180 y kz y y<|A ?_
 obtain ⟨c,d,h⟩:=bs h
 refine A ?_
 exact RT0⟩
def ziH(b:T0):Option (Bool):=
  (zfp b [91]).bind fun c=>(zfp c [91]).bind fun a=>(cond (a == [73]) (some true) ((zg0 a).bind fun d=>some d)).bind fun e=>some e
instance (a:T0):PF Tryz.prog 102 [sA a] (ziH a) bA:=⟨fun r h=>by
 refine zh Tryz.func102 y kz y y<|A ?_
 obtain ⟨b,c,d,e,h⟩:=bs2 h
 refine A ?_
 obtain ⟨f,i,h⟩:=bs h
 refine A ?_
 exact RT0⟩
def zlx(a:T0):Option (Bool):=
  (cond (!(a == [73])) ((ziH a).bind fun b=>some b) (some false)).bind fun c=>some c
instance (a:T0):PF Tryz.prog 64 [sA a] (zlx a) bA:=⟨fun r h=>by
 refine zh Tryz.func64 y kz y y<|A ?_
 obtain ⟨b,c,h⟩:=bs h
 refine A ?_
 exact RT0⟩
def zeC(a:Int)(b:Int)(c:Int):Bool:=
  ((decide (b≤a))&&(decide (a≤c)))
instance (a:Int)(b:Int)(c:Int):PF Tryz.prog 149 [iA a,iA b,iA c] (some (zeC a b c)) bA:=.of fun r h=>by
 refine zh Tryz.func149 y kz y y ?_
 unfold zeC at h
 refine A ?_
 refine A ?_
 refine zy ?_
 obtain rfl:=h
 exact ⟨_,y,zad []⟩
def zlD(a:Int):Bool:=
  (zeC a 1 61)
instance (a:Int):PF Tryz.prog 272 [iA a] (some (zlD a)) bA:=.of fun r h=>by
 refine zh Tryz.func272 y kz y y ?_
 unfold zlD at h
 refine A ?_
 refine A ?_
 refine zy ?_
 obtain rfl:=h
 exact ⟨_,y,zad []⟩
def zfA(a:Int):Bool:=
  (zeC a 20 36)
instance (a:Int):PF Tryz.prog 87 [iA a] (some (zfA a)) bA:=.of fun r h=>by
 refine zh Tryz.func87 y kz y y ?_
 unfold zfA at h
 refine A ?_
 refine A ?_
 refine zy ?_
 obtain rfl:=h
 exact ⟨_,y,zad []⟩
def zlE(a:Int)(b:Int):Bool:=
  cond (a == (1:Int)) ((zeC b (-2147483648) 2147483647)) (cond ((a == (3:Int))||(a == (4:Int))) ((zeC b 0 15)) (cond (zfA a) ((zeC b 0 99)) ((b == (0:Int)))))
instance (a:Int)(b:Int):PF Tryz.prog 273 [iA a,iA b] (some (zlE a b)) bA:=.of fun r h=>by
 refine zh Tryz.func273 y kz y y<|A ?_
 refine zf<|zi<|A ?_
 refine zeh h y (fun c h=>?_) fun c h=>?_
 ·refine A ?_
  refine zy ?_
  obtain rfl:=h
  exact ⟨_,y,zad []⟩
 ·refine A ?_
  refine zeh h y (fun d h=>?_) fun d h=>?_
  ·refine A ?_
   refine zy ?_
   obtain rfl:=h
   exact ⟨_,y,zad []⟩
  ·refine A ?_
   refine zeh h y (fun e h=>?_) fun e h=>?_
   ·refine A ?_
    refine zy ?_
    obtain rfl:=h
    exact ⟨_,y,zad []⟩
   ·refine ze<|A ?_
    refine zy ?_
    obtain rfl:=h
    exact ⟨_,y,zad []⟩
def zhq(a:Int):Bool:=
  (((a == (50:Int))||(a == (56:Int)))||(a == (57:Int)))
instance (a:Int):PF Tryz.prog 292 [iA a] (some (zhq a)) bA:=.of fun r h=>by
 refine zh Tryz.func292 y kz y y ?_
 unfold zhq at h
 refine A ?_
 refine A ?_
 refine zy ?_
 obtain rfl:=h
 exact ⟨_,y,zad []⟩
def zCM(a:Int):Bool:=
  (zeC a 38 45)
instance (a:Int):PF Tryz.prog 294 [iA a] (some (zCM a)) bA:=.of fun r h=>by
 refine zh Tryz.func294 y kz y y ?_
 unfold zCM at h
 refine A ?_
 refine A ?_
 refine zy ?_
 obtain rfl:=h
 exact ⟨_,y,zad []⟩
def zBL(a:Int):Bool:=
  (((a == (37:Int))||(zCM a))||(zhq a))
instance (a:Int):PF Tryz.prog 293 [iA a] (some (zBL a)) bA:=.of fun r h=>by
 refine zh Tryz.func293 y kz y y ?_
 unfold zBL at h
 refine A ?_
 refine A ?_
 refine zy ?_
 obtain rfl:=h
 exact ⟨_,y,zad []⟩
def zto(b:Int)(a:T0):Option (Bool):=
  cond (zhq b) ((zlx a).bind fun c=>some c) (cond (zBL b) ((zg0 a).bind fun d=>some d) (some (a == [])))
instance (a:Int)(b:T0):PF Tryz.prog 274 [iA a,sA b] (zto a b) bA:=⟨fun r h=>by
 refine zh Tryz.func274 y kz y y<|A ?_
 refine zf<|zi<|A ?_
 refine zeh h y (fun c h=>?_) fun c h=>?_
 ·obtain ⟨e,f,h⟩:=bs h
  refine A ?_
  exact RT0
 ·refine A ?_
  refine zeh h y (fun d h=>?_) fun d h=>?_
  ·obtain ⟨i,j,h⟩:=bs h
   refine A ?_
   exact RT0
  ·refine ze<|A ?_
   exact RT0⟩
def ztp(b:Int)(a:T0):Option (Bool):=
  cond (zCM b) ((zkU a).bind fun c=>some (c&&(!(a == [36,105,110,105,116])))) (some (a == []))
instance (a:Int)(b:T0):PF Tryz.prog 275 [iA a,sA b] (ztp a b) bA:=⟨fun r h=>by
 refine zh Tryz.func275 y kz y y<|A ?_
 refine zf<|A ?_
 refine zeh h y (fun c h=>?_) fun c h=>?_
 ·obtain ⟨d,e,h⟩:=bs h
  refine A ?_
  exact RT0
 ·refine ze<|A ?_
  exact RT0⟩
def zwT(a:zp):Option (Bool):=
  (cond ((zlD a.Op)&&(zlE a.Op a.A)) ((zto a.Op a.C).bind fun b=>some b) (some false)).bind fun c=>(cond c ((ztp a.Op a.M).bind fun d=>some d) (some false)).bind fun e=>some e
instance (a:zp):PF Tryz.prog 247 [.agg (zt a)] (zwT a) bA:=⟨fun r h=>by
 refine zh Tryz.func247 y kz y y<|A ?_
 obtain ⟨b,c,d,e,h⟩:=bs2 h
 refine A ?_
 exact RT0⟩
def zk6(a:UInt8):Bool:=
  ((decide (65≤(a.toNat:Int)))&&(decide ((a.toNat:Int)≤90)))
instance (a:UInt8):PF Tryz.prog 151 [.lit (.int .u8 (a.toNat:Int))] (some (zk6 a)) bA:=.of fun r h=>by
 refine zh Tryz.func151 y kz y y ?_
 unfold zk6 at h
 refine A ?_
 refine A ?_
 refine zy ?_
 obtain rfl:=h
 exact ⟨_,y,zad []⟩
def zjS(a:UInt8):Bool:=
  ((decide (97≤(a.toNat:Int)))&&(decide ((a.toNat:Int)≤122)))
instance (a:UInt8):PF Tryz.prog 152 [.lit (.int .u8 (a.toNat:Int))] (some (zjS a)) bA:=.of fun r h=>by
 refine zh Tryz.func152 y kz y y ?_
 unfold zjS at h
 refine A ?_
 refine A ?_
 refine zy ?_
 obtain rfl:=h
 exact ⟨_,y,zad []⟩
def zk5(a:UInt8):Bool:=
  ((decide (48≤(a.toNat:Int)))&&(decide ((a.toNat:Int)≤57)))
instance (a:UInt8):PF Tryz.prog 153 [.lit (.int .u8 (a.toNat:Int))] (some (zk5 a)) bA:=.of fun r h=>by
 refine zh Tryz.func153 y kz y y ?_
 unfold zk5 at h
 refine A ?_
 refine A ?_
 refine zy ?_
 obtain rfl:=h
 exact ⟨_,y,zad []⟩
def ztv(a:T0):Option (Bool):=
  some ((decide (2≤(length a:Int)))&&(decide ((length a:Int)≤8)))
def zeo(b:T0)(a:Int):Option (Sum (Int) (Sum (Unit) (Bool))):=
  cond (decide (a<(length b:Int))) ((idx b a).bind fun c=>(cond (!(zk6 c)) ((cond (a == (0:Int)) (some true) ((idx b a).bind fun d=>(cond (!(zjS d)) ((idx b a).bind fun e=>some (!(zk5 e))) (some false)).bind fun f=>some f)).bind fun i=>some i) (some false)).bind fun j=>cond j (some (.inr (.inr false))) (some (.inl (IntKind.i64.wrap (a+1))))) (some (.inr (.inl ())))
def zg4(a:T0):Option (Bool):=
  (zl (fun z=>zeo a z) 0).bind fun o=>zD o (fun b=>ztv a) some
instance (a:T0):PF Tryz.prog 90 [sA a] (zg4 a) bA:=⟨fun r h=>by
 refine zh Tryz.func90 y kz y y<|A ?_
 refine zf<|A ?_
 obtain ⟨o,ho,h⟩:=bs h
 refine lpB ho (fun z=>[(0,sA a),(3,iA z)]) (fun z=>[]) (fun b=>[(0,sA a)]) (fun b=>[]) (pG Tryz.f90 bA) (zaf []) ?_ ?_
 ·rintro l r h
  refine zf<|A ?_
  refine zeh h y (fun c h=>?_) fun c h=>?_
  ·refine ze<|zf<|zi ?_
   obtain ⟨e,f,i,j,h⟩:=bs2 h
   refine A ?_
   refine zeh h y (fun d h=>?_) fun d h=>?_
   ·refine A ?_
    refine zy ?_
    obtain rfl:=sm h
    exact ⟨_,y,_,y,zad []⟩
   ·refine ze<|A ?_
    obtain rfl:=sm h
    exact ⟨_,y,zo []⟩
  ·refine zq ?_
   obtain rfl:=sm h
   exact ⟨y,_,y,zo []⟩
 ·rintro ⟨⟩ rfl
  refine zn<|A ?_
  exact RT0⟩
def zhJ(a:Int):Bool:=
  ((decide (20≤a))&&(decide (a≤36)))
theorem zo6(a:Int){r:Bool}(h:zhJ a=r):zam Tryz.prog 251 [iA a] (bA r):=by
 refine zh Tryz.func251 y kz y y ?_
 unfold zhJ at h
 refine A ?_
 refine A ?_
 refine zy ?_
 obtain rfl:=h
 exact ⟨_,y,zad []⟩
instance (a:Int):PF Tryz.prog 251 [iA a] (some (zhJ a)) bA:=.of fun _=>zo6 a
def zju(a:Bool):Bool×Int×Bool:=
  cond a ((false,2,false)) ((false,0,false))
def zh0(a:Int)(b:Bool):Bool×Int×Bool:=
  cond b ((true,0,false)) (cond (a == (37:Int)) ((false,1,false)) (cond ((decide (38≤a))&&(decide (a≤45))) ((false,1,true)) (cond (a == (50:Int)) (zju (a == (50:Int))) (cond (a == (56:Int)) (zju (a == (56:Int))) (zju (a == (57:Int)))))))
def zgw(a:Int):Bool×Int×Bool:=
  cond (a == (1:Int)) (zh0 a (a == (1:Int))) (cond (a == (3:Int)) (zh0 a (a == (3:Int))) (cond (a == (4:Int)) (zh0 a (a == (4:Int))) (zh0 a (zhJ a))))
instance (a:Int):PF Tryz.prog 276 [iA a] (some (zgw a)) (fun r=>(.tup [bA r.1,iA r.2.1,bA r.2.2])):=.of fun r h=>by
 refine zh Tryz.func276 y kz y y<|A ?_
 refine zf<|zi ?_
 refine zal (X:=Bool) (fun z=>[(0,iA a),(5,bA z)]) (fun z=>[]) (fun z=>zh0 a z=r) ?_ ?_
 ·refine A ?_
  refine zeh h y (fun c h=>?_) fun c h=>?_
  ·refine ze ?_
   exact ⟨(a == (1:Int)),h,zo []⟩
  ·refine A ?_
   refine zeh h y (fun d h=>?_) fun d h=>?_
   ·refine ze ?_
    exact ⟨(a == (3:Int)),h,zo []⟩
   ·refine A ?_
    refine zeh h y (fun e h=>?_) fun e h=>?_
    ·refine ze ?_
     exact ⟨(a == (4:Int)),h,zo []⟩
    ·refine A ?_
     exact (⟨(zhJ a),h,zo []⟩)
 ·rintro n h
  refine zeh h y (fun f h=>?_) fun f h=>?_
  ·refine A ?_
   refine zy ?_
   obtain rfl:=h
   exact ⟨_,y,zad []⟩
  ·refine A ?_
   refine zeh h y (fun i h=>?_) fun i h=>?_
   ·refine A ?_
    refine zy ?_
    obtain rfl:=h
    exact ⟨_,y,zad []⟩
   ·refine A ?_
    refine zeh h y (fun j h=>?_) fun j h=>?_
    ·refine A ?_
     refine zy ?_
     obtain rfl:=h
     exact ⟨_,y,zad []⟩
    ·refine zal (X:=Bool) (fun z=>[(24,bA z)]) (fun z=>[]) (fun z=>zju z=r) ?_ ?_
     ·refine A ?_
      refine zeh h y (fun l h=>?_) fun l h=>?_
      ·refine ze ?_
       exact ⟨(a == (50:Int)),h,zo []⟩
      ·refine A ?_
       refine zeh h y (fun m h=>?_) fun m h=>?_
       ·refine ze ?_
        exact ⟨(a == (56:Int)),h,zo []⟩
       ·refine A ?_
        exact (⟨(a == (57:Int)),h,zo []⟩)
     ·rintro o h
      refine zeh h y (fun b h=>?_) fun b h=>?_
      ·refine A ?_
       refine zy ?_
       obtain rfl:=h
       exact ⟨_,y,zad []⟩
      ·refine ze<|A ?_
       refine zy ?_
       obtain rfl:=h
       exact ⟨_,y,zad []⟩
def zjT(b:Int)(a:Int):Bool:=
  cond (b == (1:Int)) (((decide ((-2147483648)≤a))&&(decide (a<2147483648)))) (cond (zhJ b) (((decide (0≤a))&&(decide (a<100)))) (((decide (0≤a))&&(decide (a<16)))))
instance (a:Int)(b:Int):PF Tryz.prog 277 [iA a,iA b] (some (zjT a b)) bA:=.of fun r h=>by
 refine zh Tryz.func277 y kz y y<|A ?_
 refine zf<|zi<|A ?_
 refine zeh h y (fun c h=>?_) fun c h=>?_
 ·refine A ?_
  refine zy ?_
  obtain rfl:=h
  exact ⟨_,y,zad []⟩
 ·refine A ?_
  refine zeh h y (fun d h=>?_) fun d h=>?_
  ·refine A ?_
   refine zy ?_
   obtain rfl:=h
   exact ⟨_,y,zad []⟩
  ·refine ze<|A ?_
   refine zy ?_
   obtain rfl:=h
   exact ⟨_,y,zad []⟩
def zoo(a:T0):Option (Bool):=
  (cond (a == [73]) (some true) ((zg4 a).bind fun b=>some b)).bind fun c=>some c
def ziw(a:T0)(b:Int):Option (Sum (T0×Int) (Sum (T0) (Bool))):=
  (cond ((decide (b<2))&&(decide (0<(length a:Int)))) ((idx a 0).bind fun e=>some ((e.toNat:Int) == (91:Int))) (some false)).bind fun c=>cond c ((zkM a 1 (length a:Int)).bind fun d=>some (.inl (d,(IntKind.i64.wrap (b+1))))) (some (.inr (.inl a)))
def zht(a:T0):Option (Bool):=
  (zl (fun z=>ziw z.1 z.2) (a,0)).bind fun o=>zD o (fun b=>zoo b) some
instance (e:T0):PF Tryz.prog 43 [sA e] (zht e) bA:=⟨fun r h=>by
 refine zh Tryz.func43 y kz y y<|A ?_
 refine zf<|A ?_
 obtain ⟨o,ho,h⟩:=bs h
 refine lpB ho (fun z=>[(0,sA z.1),(3,iA z.2)]) (fun z=>[]) (fun b=>[(0,sA b)]) (fun b=>[]) (pG Tryz.f43 bA) (zaf []) ?_ ?_
 ·rintro ⟨f,q⟩ r h
  refine zf ?_
  obtain ⟨i,j,h⟩:=bs h
  refine A ?_
  refine zeh h y (fun d h=>?_) fun d h=>?_
  ·refine ze<|zf<|zi ?_
   obtain ⟨l,c,h⟩:=bs h
   refine rl y<|u<|mv y<|u<|slS (a:=1) (b:=(length f:Int)) ti y y (zlZ y c) y c<|A ?_
   refine A ?_
   obtain rfl:=sm h
   exact ⟨_,y,zo []⟩
  ·refine zq ?_
   obtain rfl:=sm h
   exact ⟨y,_,y,zo []⟩
 ·rintro m rfl
  refine zn ?_
  obtain ⟨n,p,h⟩:=bs h
  refine A ?_
  exact RT0⟩
def zqu(a:T0):Option (Bool):=
  (cond (!(a == [73])) ((zht a).bind fun b=>some b) (some false)).bind fun c=>some c
instance (a:T0):PF Tryz.prog 278 [sA a] (zqu a) bA:=⟨fun r h=>by
 refine zh Tryz.func278 y kz y y<|A ?_
 obtain ⟨b,c,h⟩:=bs h
 refine A ?_
 exact RT0⟩
def zuH(a:T0):Option (Bool):=
  some ((decide (1≤(length a:Int)))&&(decide ((length a:Int)≤8)))
def zfe(b:T0)(a:Int):Option (Sum (Int) (Sum (Unit) (Bool))):=
  cond (decide (a<(length b:Int))) ((idx b a).bind fun c=>(cond (!(zjS c)) ((cond (a == (0:Int)) (some true) ((idx b a).bind fun d=>(cond (!(zk6 d)) ((idx b a).bind fun e=>some (!(zk5 e))) (some false)).bind fun f=>some f)).bind fun i=>some i) (some false)).bind fun j=>cond j (some (.inr (.inr false))) (some (.inl (IntKind.i64.wrap (a+1))))) (some (.inr (.inl ())))
def zk4(a:T0):Option (Bool):=
  cond (a == [36,105,110,105,116]) (some true) ((zl (fun z=>zfe a z) 0).bind fun o=>zD o (fun b=>zuH a) some)
instance (a:T0):PF Tryz.prog 117 [sA a] (zk4 a) bA:=⟨fun r h=>by
 refine zh Tryz.func117 y kz y y<|A ?_
 refine zf<|A ?_
 refine zeh h y (fun e h=>?_) fun e h=>?_
 ·refine A ?_
  exact RT0
 ·refine ze<|zf<|A ?_
  obtain ⟨o,ho,h⟩:=bs h
  refine lpB ho (fun z=>[(0,sA a),(3,iA z)]) (fun z=>[]) (fun b=>[(0,sA a)]) (fun b=>[]) (pG Tryz.f117 bA) (zaf []) ?_ ?_
  ·rintro m r h
   refine zf<|A ?_
   refine zeh h y (fun c h=>?_) fun c h=>?_
   ·refine ze<|zf<|zi ?_
    obtain ⟨f,i,j,l,h⟩:=bs2 h
    refine A ?_
    refine zeh h y (fun d h=>?_) fun d h=>?_
    ·refine A ?_
     refine zy ?_
     obtain rfl:=sm h
     exact ⟨_,y,_,y,zad []⟩
    ·refine ze<|A ?_
     obtain rfl:=sm h
     exact ⟨_,y,zo []⟩
   ·refine zq ?_
    obtain rfl:=sm h
    exact ⟨y,_,y,zo []⟩
  ·rintro ⟨⟩ rfl
   refine zn<|A ?_
   exact RT0⟩
def zjR(a:zp):Option (Bool):=
  cond ((decide (a.Op<1))||(decide (61<a.Op))) (some false) (cond ((((zgw a.Op).1)&&(!(zjT a.Op a.A)))||((!((zgw a.Op).1))&&(!(a.A == (0:Int))))) (some false) ((cond ((((zgw a.Op).2.1) == (0:Int))&&(!(a.C == []))) (some true) ((cond (((zgw a.Op).2.1) == (1:Int)) ((zg4 a.C).bind fun b=>some (!b)) (some false)).bind fun c=>some c)).bind fun d=>(cond d (some true) ((cond (((zgw a.Op).2.1) == (2:Int)) ((zqu a.C).bind fun e=>some (!e)) (some false)).bind fun f=>some f)).bind fun i=>cond i (some false) (cond ((zgw a.Op).2.2) ((zk4 a.M).bind fun j=>some (j&&(!(a.M == [36,105,110,105,116])))) (some (a.M == [])))))
theorem znX(c:zp){r:Bool}(h:zjR c=some r):zam Tryz.prog 250 [.agg (zt c)] (bA r):=by
 refine zh Tryz.func250 y kz y y<|A ?_
 refine A ?_
 refine zf<|zi<|A ?_
 refine zeh h y (fun d h=>?_) fun d h=>?_
 ·refine A ?_
  exact RT0
 ·refine A ?_
  refine zeh h y (fun e h=>?_) fun e h=>?_
  ·refine A ?_
   exact RT0
  ·obtain ⟨l,f,m,i,h⟩:=bs2 h
   refine A ?_
   refine zeh h y (fun a h=>?_) fun a h=>?_
   ·refine A ?_
    exact RT0
   ·refine A ?_
    refine zeh h y (fun b h=>?_) fun b h=>?_
    ·obtain ⟨n,j,h⟩:=bs h
     refine A ?_
     exact RT0
    ·refine ze<|A ?_
     exact RT0
instance (a:zp):PF Tryz.prog 250 [.agg (zt a)] (zjR a) bA:=⟨fun _=>znX a⟩
def zit(a:Bool):Bool:=
  cond a (true) (false)
def zjP(a:Int):Bool:=
  cond (a == (20:Int)) (zit (a == (20:Int))) (cond (a == (46:Int)) (zit (a == (46:Int))) (cond (a == (47:Int)) (zit (a == (47:Int))) (cond (a == (48:Int)) (zit (a == (48:Int))) (cond (a == (58:Int)) (zit (a == (58:Int))) (zit (a == (61:Int)))))))
instance (a:Int):PF Tryz.prog 89 [iA a] (some (zjP a)) bA:=.of fun r h=>by
 refine zh Tryz.func89 y kz y y<|A ?_
 refine zf<|A ?_
 refine zi ?_
 refine zal (X:=Bool) (fun z=>[(4,bA z)]) (fun z=>[]) (fun z=>zit z=r) ?_ ?_
 ·refine A ?_
  refine zeh h y (fun b h=>?_) fun b h=>?_
  ·refine ze ?_
   exact ⟨(a == (20:Int)),h,zo []⟩
  ·refine A ?_
   refine zeh h y (fun c h=>?_) fun c h=>?_
   ·refine ze ?_
    exact ⟨(a == (46:Int)),h,zo []⟩
   ·refine A ?_
    refine zeh h y (fun d h=>?_) fun d h=>?_
    ·refine ze ?_
     exact ⟨(a == (47:Int)),h,zo []⟩
    ·refine A ?_
     refine zeh h y (fun e h=>?_) fun e h=>?_
     ·refine ze ?_
      exact ⟨(a == (48:Int)),h,zo []⟩
     ·refine A ?_
      refine zeh h y (fun f h=>?_) fun f h=>?_
      ·refine ze ?_
       exact ⟨(a == (58:Int)),h,zo []⟩
      ·refine A ?_
       exact (⟨(a == (61:Int)),h,zo []⟩)
 ·rintro j h
  refine zeh h y (fun i h=>?_) fun i h=>?_
  ·refine A ?_
   refine zy ?_
   obtain rfl:=h
   exact ⟨_,y,zad []⟩
  ·refine ze<|A ?_
   refine zy ?_
   obtain rfl:=h
   exact ⟨_,y,zad []⟩
def zgP(a:Bool):Bool:=
  cond a (true) (false)
def zhY(a:Int):Bool:=
  cond (a == (20:Int)) (zgP (a == (20:Int))) (cond (a == (46:Int)) (zgP (a == (46:Int))) (cond (a == (47:Int)) (zgP (a == (47:Int))) (cond (a == (48:Int)) (zgP (a == (48:Int))) (cond (a == (58:Int)) (zgP (a == (58:Int))) (zgP (a == (61:Int)))))))
instance (a:Int):PF Tryz.prog 132 [iA a] (some (zhY a)) bA:=.of fun r h=>by
 refine zh Tryz.func132 y kz y y<|A ?_
 refine zf<|A ?_
 refine zi ?_
 refine zal (X:=Bool) (fun z=>[(4,bA z)]) (fun z=>[]) (fun z=>zgP z=r) ?_ ?_
 ·refine A ?_
  refine zeh h y (fun b h=>?_) fun b h=>?_
  ·refine ze ?_
   exact ⟨(a == (20:Int)),h,zo []⟩
  ·refine A ?_
   refine zeh h y (fun c h=>?_) fun c h=>?_
   ·refine ze ?_
    exact ⟨(a == (46:Int)),h,zo []⟩
   ·refine A ?_
    refine zeh h y (fun d h=>?_) fun d h=>?_
    ·refine ze ?_
     exact ⟨(a == (47:Int)),h,zo []⟩
    ·refine A ?_
     refine zeh h y (fun e h=>?_) fun e h=>?_
     ·refine ze ?_
      exact ⟨(a == (48:Int)),h,zo []⟩
     ·refine A ?_
      refine zeh h y (fun f h=>?_) fun f h=>?_
      ·refine ze ?_
       exact ⟨(a == (58:Int)),h,zo []⟩
      ·refine A ?_
       exact (⟨(a == (61:Int)),h,zo []⟩)
 ·rintro j h
  refine zeh h y (fun i h=>?_) fun i h=>?_
  ·refine A ?_
   refine zy ?_
   obtain rfl:=h
   exact ⟨_,y,zad []⟩
  ·refine ze<|A ?_
   refine zy ?_
   obtain rfl:=h
   exact ⟨_,y,zad []⟩
def zhh(a:T0):Option (T0×Bool):=
  (ziH a).bind fun b=>(cond (!b) (some true) ((idx a 0).bind fun c=>some (!((c.toNat:Int) == (91:Int))))).bind fun d=>cond d (some ([],false)) ((zkM a 1 (length a:Int)).bind fun e=>some (e,true))
instance (c:T0):PF Tryz.prog 135 [sA c] (zhh c) (fun r=>(.tup [sA r.1,bA r.2])):=⟨fun r h=>by
 refine zh Tryz.func135 y kz y y<|A ?_
 refine zf ?_
 obtain ⟨f,i,j,l,h⟩:=bs2 h
 refine A ?_
 refine zeh h y (fun d h=>?_) fun d h=>?_
 ·refine A ?_
  exact RT0
 ·refine ze ?_
  obtain ⟨m,e,h⟩:=bs h
  refine rg y<|u<|mv y<|u<|slS (a:=1) (b:=(length c:Int)) ti y y (zlZ y e) y e<|A ?_
  exact RT0⟩
structure zk where
  Name:T0
  Type_:T0
  Static:Bool
def zE(x:zk):List AV:=[sA x.Name,sA x.Type_,bA x.Static]
structure zS where
  At:Int
  Locals:T1
  Stack:T1
def zK(x:zS):List AV:=[iA x.At,.isl 1 (map zw x.Locals),.isl 1 (map zw x.Stack)]
structure zR where
  From:Int
  To:Int
  At:Int
  C:T0
def z6(x:zR):List AV:=[iA x.From,iA x.To,iA x.At,sA x.C]
structure zb where
  Name:T0
  Params:T1
  Ret:T0
  Static:Bool
  Abstract:Bool
  Locals:Int
  Stack:Int
  Code:List zp
  Maps:List zS
  Traps:List zR
def zd(x:zb):List AV:=[sA x.Name,.isl 1 (map zw x.Params),sA x.Ret,bA x.Static,bA x.Abstract,iA x.Locals,iA x.Stack,.isl 4 (map zt x.Code),.isl 3 (map zK x.Maps),.isl 4 (map z6 x.Traps)]
structure za where
  Name:T0
  Super:T0
  Interface:Bool
  Impl:T1
  Fields:List zk
  Methods:List zb
def zc(x:za):List AV:=[sA x.Name,sA x.Super,bA x.Interface,.isl 1 (map zw x.Impl),.isl 3 (map zE x.Fields),.isl 10 (map zd x.Methods)]
def zjE(a:zk):Option (Bool):=
  (zkU a.Name).bind fun b=>(cond (b&&(!(a.Name == [36,105,110,105,116]))) ((ziH a.Type_).bind fun c=>some c) (some false)).bind fun d=>some d
theorem znP(a:zk){r:Bool}(h:zjE a=some r):zam Tryz.prog 100 [.agg (zE a)] (bA r):=by
 refine zh Tryz.func100 y kz y y<|A ?_
 obtain ⟨b,c,d,e,h⟩:=bs2 h
 refine A ?_
 exact RT0
instance (a:zk):PF Tryz.prog 100 [.agg (zE a)] (zjE a) bA:=⟨fun _=>znP a⟩
def zjD(a:zk):T0:=
  a.Name
theorem znO(a:zk){r:T0}(h:zjD a=r):zam Tryz.prog 99 [.agg (zE a)] (sA r):=by
 refine zh Tryz.func99 y kz y y ?_
 unfold zjD at h
 refine A ?_
 refine A ?_
 refine zy ?_
 obtain rfl:=h
 exact ⟨_,y,zad []⟩
instance (a:zk):PF Tryz.prog 99 [.agg (zE a)] (some (zjD a)) sA:=.of fun _=>znO a
def zgI(a:zk)(b:T0)(c:T0)(d:Bool):Bool:=
  ((zjD (zk.mk b c d)) == (zjD a))
instance (d:zk)(a:T0)(b:T0)(c:Bool):PF Tryz.prog 177 [.agg (zE d),.ipt 1 [[.fn (.func 99) [] []]] 0 0,.ipt 3 [[sA a,sA b,bA c]] 0 0] (some (zgI d a b c)) bA:=.of fun r h=>by
 refine zh Tryz.func177 y kz y y ?_
 unfold zgI at h
 refine A ?_
 refine rdA [(4,_)] [] [] [0,1,2,3,4,5,6,7] [(4,_),(11,_),(10,_),(9,_),(8,_),(7,_),(6,_),(5,_)] 0 (zcw ⟨peC,peC,(by exact pb y (pc (znO (zk.mk a b c) y) y y y<|w)),peC,peC,peC,peC,peC,t⟩ (zaf [])) ?_
 refine zy ?_
 obtain rfl:=h
 exact ⟨_,y,zad []⟩
def zdV:Option (Int):=
  some (-1)
def zaV(b:List zk)(c:T0)(d:T0)(e:Bool)(a:Int):Option (Sum (Int) (Sum (Unit) (Int))):=
  cond (decide (a<(length b:Int))) ((idx b a).bind fun f=>cond (zgI f c d e) (some (.inr (.inr a))) (some (.inl (IntKind.i64.wrap (a+1))))) (some (.inr (.inl ())))
def zce(a:List zk)(c:T0)(d:T0)(e:Bool):Option (Int):=
  (zl (fun z=>zaV a c d e z) 0).bind fun o=>zD o (fun b=>zdV) some
instance (a:List zk)(c:T0)(d:T0)(e:Bool):PF Tryz.prog 241 [.isl 3 (map zE a),.fn (.func 177) [] [.ipt 1 [[.fn (.func 99) [] []]] 0 0,.ipt 3 [[sA c,sA d,bA e]] 0 0]] (zce a c d e) iA:=⟨fun r h=>by
 refine zh Tryz.func241 y kz y y<|A ?_
 refine zf<|A ?_
 obtain ⟨o,ho,h⟩:=bs h
 refine lpB ho (fun z=>[(0,.isl 3 (map zE a)),(1,.fn (.func 177) [] [.ipt 1 [[.fn (.func 99) [] []]] 0 0,.ipt 3 [[sA c,sA d,bA e]] 0 0]),(7,iA (length a:Int)),(8,iA z)]) (fun z=>[]) (fun b=>[]) (fun b=>[]) (pG Tryz.f241 iA) (zaf []) ?_ ?_
 ·rintro j r h
  refine A ?_
  refine zf ?_
  refine zeh h y (fun f h=>?_) fun f h=>?_
  ·refine ze<|zf<|zi<|A ?_
   obtain ⟨l,m,h⟩:=bs h
   refine A ?_
   refine zeh h y (fun i h=>?_) fun i h=>?_
   ·refine A ?_
    refine zy ?_
    obtain rfl:=sm h
    exact ⟨_,y,_,y,zad []⟩
   ·refine ze<|A ?_
    obtain rfl:=sm h
    exact ⟨_,y,zo []⟩
  ·refine zq ?_
   obtain rfl:=sm h
   exact ⟨y,_,y,zo []⟩
 ·rintro ⟨⟩ rfl
  refine zn<|A ?_
  exact RT0⟩
def zan(a:List zk)(b:T0)(c:T0)(d:Bool):Option (Bool):=
  (zce a b c d).bind fun e=>some (decide (0≤e))
theorem zcX(a:List zk)(b:T0)(c:T0)(d:Bool){r:Bool}(h:zan a b c d=some r):zam Tryz.prog 176 [.isl 3 (map zE a),.fn (.func 177) [] [.ipt 1 [[.fn (.func 99) [] []]] 0 0,.ipt 3 [[sA b,sA c,bA d]] 0 0]] (bA r):=by
 refine zh Tryz.func176 y kz y y<|A ?_
 obtain ⟨e,f,h⟩:=bs h
 refine A ?_
 exact RT0
instance (a:List zk)(b:T0)(c:T0)(d:Bool):PF Tryz.prog 176 [.isl 3 (map zE a),.fn (.func 177) [] [.ipt 1 [[.fn (.func 99) [] []]] 0 0,.ipt 3 [[sA b,sA c,bA d]] 0 0]] (zan a b c d) bA:=⟨fun _=>zcX a b c d⟩
def zmd(a:List zk)(b:Int):Option (Bool):=
  some (decide ((length a:Int)≤b))
def zgx(c:List zk)(b:Int):Option (Sum (Int) (Sum (Unit) (Bool))):=
  cond (decide (b<(length c:Int))) ((idx c b).bind fun a=>(zjE a).bind fun d=>(cond (!d) (some true) ((zkM c 0 b).bind fun e=>(zan e a.Name a.Type_ a.Static).bind fun f=>some f)).bind fun i=>cond i (some (.inr (.inr false))) (some (.inl (IntKind.i64.wrap (b+1))))) (some (.inr (.inl ())))
def zf0(a:List zk)(c:Int):Option (Bool):=
  (zl (fun z=>zgx a z) 0).bind fun o=>zD o (fun b=>zmd a c) some
instance (f:List zk)(i:Int):PF Tryz.prog 98 [.isl 3 (map zE f),iA i,.fn (.func 99) [] [],.fn (.func 100) [] []] (zf0 f i) bA:=⟨fun r h=>by
 refine zh Tryz.func98 y kz y y<|A ?_
 refine zf<|A ?_
 obtain ⟨o,ho,h⟩:=bs h
 refine lpB ho (fun z=>[(0,.isl 3 (map zE f)),(1,iA i),(3,.fn (.func 100) [] []),(6,.mpt 0 0 0),(11,.isl 3 (map zE f)),(12,iA (length f:Int)),(13,iA z)]) (fun z=>[some (1,[[.fn (.func 99) [] []]])]) (fun b=>[(0,.isl 3 (map zE f)),(1,iA i)]) (fun b=>[]) (pG Tryz.f98 bA) (zaf [.old 0]) ?_ ?_
 ·rintro B r h
  refine A ?_
  refine zf ?_
  refine zeh h y (fun n h=>?_) fun n h=>?_
  ·refine ze<|zf<|zi ?_
   obtain ⟨e,C,h⟩:=bs h
   refine A ?_
   obtain ⟨D,p,q,d,h⟩:=bs2 h
   refine rg y<|u<|mv y<|u<|ld ti y y<|u<|pc (znP e p) y y y<|u<|nt y<|u<|mv y<|ztr (x:=q) (j:=4) 5 y y y y y gpn (fun c=>by replace d:=bF c d;obtain ⟨s,l,d⟩:=bs d;obtain ⟨E,v,d⟩:=bs d;obtain rfl:=sm d;exact g y c<|mv y<|g y c<|mv y<|g y c<|slI (a:=0) (b:=B) ti y ti y y y (zpS y l) l<|g y c<|mf y y<|g y c<|pcs (zcX s e.Name e.Type_ e.Static v) y y (.cons (si y) (.cons (zfZ t ⟨(zbk y ⟨(si y),t⟩),(zbk y ⟨(si y),(si y),(si y),t⟩),t⟩) .nil)) zbI<|zx (eg [23,24,25,26,27] 5 y y y y)) (fun hb=>(sm (bT hb d)).symm)<|zx ?_
   refine zeh h y (fun m h=>?_) fun m h=>?_
   ·refine A ?_
    refine zy ?_
    obtain rfl:=sm h
    exact ⟨_,y,_,y,zad []⟩
   ·refine ze<|A ?_
    obtain rfl:=sm h
    exact ⟨_,y,zo [.old 0]⟩
  ·refine zq ?_
   obtain rfl:=sm h
   exact ⟨y,_,y,zo []⟩
 ·rintro ⟨⟩ rfl
  refine zn<|A ?_
  exact RT0⟩
def zlp(a:T0):Option (Bool):=
  (ziH a).bind fun b=>some (!b)
instance (a:T0):PF Tryz.prog 245 [sA a,.ipt 1 [[.fn (.func 102) [] []]] 0 0] (zlp a) bA:=⟨fun r h=>by
 refine zh Tryz.func245 y kz y y<|A ?_
 obtain ⟨b,c,h⟩:=bs h
 refine A ?_
 exact RT0⟩
def zfo:Option (Int):=
  some (-1)
def zbK(b:T1)(a:Int):Option (Sum (Int) (Sum (Unit) (Int))):=
  cond (decide (a<(length b:Int))) ((idx b a).bind fun c=>(zlp c).bind fun d=>cond d (some (.inr (.inr a))) (some (.inl (IntKind.i64.wrap (a+1))))) (some (.inr (.inl ())))
def zdW(a:T1):Option (Int):=
  (zl (fun z=>zbK a z) 0).bind fun o=>zD o (fun b=>zfo) some
instance (a:T1):PF Tryz.prog 110 [.isl 1 (map zw a),.fn (.func 245) [] [.ipt 1 [[.fn (.func 102) [] []]] 0 0]] (zdW a) iA:=⟨fun r h=>by
 refine zh Tryz.func110 y kz y y<|A ?_
 refine zf<|A ?_
 obtain ⟨o,ho,h⟩:=bs h
 refine lpB ho (fun z=>[(0,.isl 1 (map zw a)),(1,.fn (.func 245) [] [.ipt 1 [[.fn (.func 102) [] []]] 0 0]),(7,iA (length a:Int)),(8,iA z)]) (fun z=>[]) (fun b=>[]) (fun b=>[]) (pG Tryz.f110 iA) (zaf []) ?_ ?_
 ·rintro e r h
  refine A ?_
  refine zf ?_
  refine zeh h y (fun c h=>?_) fun c h=>?_
  ·refine ze<|zf<|zi<|A ?_
   obtain ⟨f,i,j,l,h⟩:=bs2 h
   refine A ?_
   refine zeh h y (fun d h=>?_) fun d h=>?_
   ·refine A ?_
    refine zy ?_
    obtain rfl:=sm h
    exact ⟨_,y,_,y,zad []⟩
   ·refine ze<|A ?_
    obtain rfl:=sm h
    exact ⟨_,y,zo []⟩
  ·refine zq ?_
   obtain rfl:=sm h
   exact ⟨y,_,y,zo []⟩
 ·rintro ⟨⟩ rfl
  refine zn<|A ?_
  exact RT0⟩
def zbJ(a:T1):Option (Bool):=
  (zdW a).bind fun b=>some (decide (0≤b))
theorem zet(a:T1){r:Bool}(h:zbJ a=some r):zam Tryz.prog 56 [.isl 1 (map zw a),.fn (.func 245) [] [.ipt 1 [[.fn (.func 102) [] []]] 0 0]] (bA r):=by
 refine zh Tryz.func56 y kz y y<|A ?_
 obtain ⟨b,c,h⟩:=bs h
 refine A ?_
 exact RT0
instance (a:T1):PF Tryz.prog 56 [.isl 1 (map zw a),.fn (.func 245) [] [.ipt 1 [[.fn (.func 102) [] []]] 0 0]] (zbJ a) bA:=⟨fun _=>zet a⟩
def zlo(a:T1):Option (Bool):=
  (zbJ a).bind fun b=>some (!b)
instance (a:T1):PF Tryz.prog 183 [.isl 1 (map zw a),.fn (.func 102) [] []] (zlo a) bA:=⟨fun r h=>by
 refine zh Tryz.func183 y kz y y<|A ?_
 obtain ⟨c,b,h⟩:=bs h
 refine A ?_
 refine u<|pcs (zet a b) y y (.cons (si y) (.cons (zfZ t ⟨(zbk y ⟨(si y),t⟩),t⟩) .nil)) zbI<|A ?_
 exact RT0⟩
def zqm(a:T0):Option (Bool):=
  (cond (a == [86]) (some true) ((ziH a).bind fun b=>some b)).bind fun c=>some c
instance (a:T0):PF Tryz.prog 184 [sA a] (zqm a) bA:=⟨fun r h=>by
 refine zh Tryz.func184 y kz y y<|A ?_
 obtain ⟨b,c,h⟩:=bs h
 refine A ?_
 exact RT0⟩
def zf2(a:zb):Bool:=
  (((((!a.Static)&&(!(a.Name == [36,105,110,105,116])))&&(a.Locals == (0:Int)))&&(a.Stack == (0:Int)))&&((IntKind.i64.wrap ((IntKind.i64.wrap ((length a.Code:Int)+(length a.Maps:Int)))+(length a.Traps:Int))) == (0:Int)))
instance (a:zb):PF Tryz.prog 185 [.agg (zd a)] (some (zf2 a)) bA:=.of fun r h=>by
 refine zh Tryz.func185 y kz y y ?_
 unfold zf2 at h
 refine A ?_
 refine A ?_
 refine zy ?_
 obtain rfl:=h
 exact ⟨_,y,zad []⟩
def zao(a:zb):Int:=
  cond a.Static ((length a.Params:Int)) ((IntKind.i64.wrap ((length a.Params:Int)+1)))
theorem zjk(a:zb){r:Int}(h:zao a=r):zam Tryz.prog 187 [.agg (zd a)] (iA r):=by
 refine zh Tryz.func187 y kz y y<|A ?_
 refine zf<|A ?_
 refine zeh h y (fun b h=>?_) fun b h=>?_
 ·refine A ?_
  refine zy ?_
  obtain rfl:=h
  exact ⟨_,y,zad []⟩
 ·refine ze<|A ?_
  refine zy ?_
  obtain rfl:=h
  exact ⟨_,y,zad []⟩
instance (a:zb):PF Tryz.prog 187 [.agg (zd a)] (some (zao a)) iA:=.of fun _=>zjk a
def zs(a:Int)(b:Int)(c:Int):Bool:=
  ((decide (b≤a))&&(decide (a≤c)))
theorem zeV(a:Int)(b:Int)(c:Int){r:Bool}(h:zs a b c=r):zam Tryz.prog 186 [iA a,iA b,iA c] (bA r):=by
 refine zh Tryz.func186 y kz y y ?_
 unfold zs at h
 refine A ?_
 refine A ?_
 refine zy ?_
 obtain rfl:=h
 exact ⟨_,y,zad []⟩
instance (a:Int)(b:Int)(c:Int):PF Tryz.prog 186 [iA a,iA b,iA c] (some (zs a b c)) bA:=.of fun _=>zeV a b c
def zhc(a:zp)(b:Int):Option (Bool):=
  (zwT a).bind fun c=>some ((!c)||((zfA a.Op)&&(decide (b≤a.A))))
instance (a:zp)(b:Int):PF Tryz.prog 246 [.agg (zt a),.ipt 1 [[iA b]] 0 0] (zhc a b) bA:=⟨fun r h=>by
 refine zh Tryz.func246 y kz y y<|A ?_
 obtain ⟨c,d,h⟩:=bs h
 refine A ?_
 exact RT0⟩
def zeL:Option (Int):=
  some (-1)
def zbo(b:List zp)(c:Int)(a:Int):Option (Sum (Int) (Sum (Unit) (Int))):=
  cond (decide (a<(length b:Int))) ((idx b a).bind fun d=>(zhc d c).bind fun e=>cond e (some (.inr (.inr a))) (some (.inl (IntKind.i64.wrap (a+1))))) (some (.inr (.inl ())))
def zc4(a:List zp)(c:Int):Option (Int):=
  (zl (fun z=>zbo a c z) 0).bind fun o=>zD o (fun b=>zeL) some
instance (a:List zp)(c:Int):PF Tryz.prog 264 [.isl 4 (map zt a),.fn (.func 246) [] [.ipt 1 [[iA c]] 0 0]] (zc4 a c) iA:=⟨fun r h=>by
 refine zh Tryz.func264 y kz y y<|A ?_
 refine zf<|A ?_
 obtain ⟨o,ho,h⟩:=bs h
 refine lpB ho (fun z=>[(0,.isl 4 (map zt a)),(1,.fn (.func 246) [] [.ipt 1 [[iA c]] 0 0]),(7,iA (length a:Int)),(8,iA z)]) (fun z=>[]) (fun b=>[]) (fun b=>[]) (pG Tryz.f264 iA) (zaf []) ?_ ?_
 ·rintro f r h
  refine A ?_
  refine zf ?_
  refine zeh h y (fun d h=>?_) fun d h=>?_
  ·refine ze<|zf<|zi<|A ?_
   obtain ⟨i,j,l,m,h⟩:=bs2 h
   refine A ?_
   refine zeh h y (fun e h=>?_) fun e h=>?_
   ·refine A ?_
    refine zy ?_
    obtain rfl:=sm h
    exact ⟨_,y,_,y,zad []⟩
   ·refine ze<|A ?_
    obtain rfl:=sm h
    exact ⟨_,y,zo []⟩
  ·refine zq ?_
   obtain rfl:=sm h
   exact ⟨y,_,y,zo []⟩
 ·rintro ⟨⟩ rfl
  refine zn<|A ?_
  exact RT0⟩
def zaK(a:List zp)(b:Int):Option (Bool):=
  (zc4 a b).bind fun c=>some (decide (0≤c))
theorem zd6(a:List zp)(b:Int){r:Bool}(h:zaK a b=some r):zam Tryz.prog 221 [.isl 4 (map zt a),.fn (.func 246) [] [.ipt 1 [[iA b]] 0 0]] (bA r):=by
 refine zh Tryz.func221 y kz y y<|A ?_
 obtain ⟨c,d,h⟩:=bs h
 refine A ?_
 exact RT0
instance (a:List zp)(b:Int):PF Tryz.prog 221 [.isl 4 (map zt a),.fn (.func 246) [] [.ipt 1 [[iA b]] 0 0]] (zaK a b) bA:=⟨fun _=>zd6 a b⟩
def ze8(a:zb):Option (Bool):=
  (cond (!(zs (length a.Code:Int) 1 100)) (some true) ((idx a.Code (IntKind.i64.wrap ((length a.Code:Int)-1))).bind fun b=>some (!(zjP b.Op)))).bind fun c=>cond c (some false) ((zaK a.Code (length a.Code:Int)).bind fun d=>some (!d))
theorem ziK(a:zb){r:Bool}(h:ze8 a=some r):zam Tryz.prog 188 [.agg (zd a)] (bA r):=by
 refine zh Tryz.func188 y kz y y<|A ?_
 refine A ?_
 refine zf ?_
 obtain ⟨d,e,h⟩:=bs h
 refine A ?_
 refine zeh h y (fun b h=>?_) fun b h=>?_
 ·refine A ?_
  exact RT0
 ·refine ze ?_
  obtain ⟨f,c,h⟩:=bs h
  refine A ?_
  refine u<|pcs (zd6 a.Code (length a.Code:Int) c) y y (.cons (si y) (.cons (zfZ t ⟨(zbk y ⟨(si y),t⟩),t⟩) .nil)) zbI<|A ?_
  exact RT0
instance (a:zb):PF Tryz.prog 188 [.agg (zd a)] (ze8 a) bA:=⟨fun _=>ziK a⟩
def znn(a:T0):Option (Bool):=
  (cond (((a == [73])||(a == [78]))||(a == [84])) (some true) ((zlx a).bind fun b=>some b)).bind fun c=>some c
instance (a:T0):PF Tryz.prog 248 [sA a] (znn a) bA:=⟨fun r h=>by
 refine zh Tryz.func248 y kz y y<|A ?_
 obtain ⟨b,c,h⟩:=bs h
 refine A ?_
 exact RT0⟩
def zi2(a:T0):Option (Bool):=
  (znn a).bind fun b=>some (!b)
instance (a:T0):PF Tryz.prog 245 [sA a,.ipt 1 [[.fn (.func 248) [] []]] 0 0] (zi2 a) bA:=⟨fun r h=>by
 refine zh Tryz.func245 y kz y y<|A ?_
 obtain ⟨b,c,h⟩:=bs h
 refine A ?_
 exact RT0⟩
def zeu:Option (Int):=
  some (-1)
def zbd(b:T1)(a:Int):Option (Sum (Int) (Sum (Unit) (Int))):=
  cond (decide (a<(length b:Int))) ((idx b a).bind fun c=>(zi2 c).bind fun d=>cond d (some (.inr (.inr a))) (some (.inl (IntKind.i64.wrap (a+1))))) (some (.inr (.inl ())))
def zcJ(a:T1):Option (Int):=
  (zl (fun z=>zbd a z) 0).bind fun o=>zD o (fun b=>zeu) some
instance (a:T1):PF Tryz.prog 110 [.isl 1 (map zw a),.fn (.func 245) [] [.ipt 1 [[.fn (.func 248) [] []]] 0 0]] (zcJ a) iA:=⟨fun r h=>by
 refine zh Tryz.func110 y kz y y<|A ?_
 refine zf<|A ?_
 obtain ⟨o,ho,h⟩:=bs h
 refine lpB ho (fun z=>[(0,.isl 1 (map zw a)),(1,.fn (.func 245) [] [.ipt 1 [[.fn (.func 248) [] []]] 0 0]),(7,iA (length a:Int)),(8,iA z)]) (fun z=>[]) (fun b=>[]) (fun b=>[]) (pG Tryz.f110 iA) (zaf []) ?_ ?_
 ·rintro e r h
  refine A ?_
  refine zf ?_
  refine zeh h y (fun c h=>?_) fun c h=>?_
  ·refine ze<|zf<|zi<|A ?_
   obtain ⟨f,i,j,l,h⟩:=bs2 h
   refine A ?_
   refine zeh h y (fun d h=>?_) fun d h=>?_
   ·refine A ?_
    refine zy ?_
    obtain rfl:=sm h
    exact ⟨_,y,_,y,zad []⟩
   ·refine ze<|A ?_
    obtain rfl:=sm h
    exact ⟨_,y,zo []⟩
  ·refine zq ?_
   obtain rfl:=sm h
   exact ⟨y,_,y,zo []⟩
 ·rintro ⟨⟩ rfl
  refine zn<|A ?_
  exact RT0⟩
def za9(a:T1):Option (Bool):=
  (zcJ a).bind fun b=>some (decide (0≤b))
theorem zdP(a:T1){r:Bool}(h:za9 a=some r):zam Tryz.prog 56 [.isl 1 (map zw a),.fn (.func 245) [] [.ipt 1 [[.fn (.func 248) [] []]] 0 0]] (bA r):=by
 refine zh Tryz.func56 y kz y y<|A ?_
 obtain ⟨b,c,h⟩:=bs h
 refine A ?_
 exact RT0
instance (a:T1):PF Tryz.prog 56 [.isl 1 (map zw a),.fn (.func 245) [] [.ipt 1 [[.fn (.func 248) [] []]] 0 0]] (za9 a) bA:=⟨fun _=>zdP a⟩
def zhf(a:T1):Option (Bool):=
  (za9 a).bind fun b=>some (!b)
instance (a:T1):PF Tryz.prog 183 [.isl 1 (map zw a),.fn (.func 248) [] []] (zhf a) bA:=⟨fun r h=>by
 refine zh Tryz.func183 y kz y y<|A ?_
 obtain ⟨c,b,h⟩:=bs h
 refine A ?_
 refine u<|pcs (zdP a b) y y (.cons (si y) (.cons (zfZ t ⟨(zbk y ⟨(si y),t⟩),t⟩) .nil)) zbI<|A ?_
 exact RT0⟩
def zgo:Option (Int):=
  some (-1)
def zck(b:T1)(c:T0)(a:Int):Option (Sum (Int) (Sum (Unit) (Int))):=
  cond (decide (a<(length b:Int))) ((idx b a).bind fun d=>cond (c == d) (some (.inr (.inr a))) (some (.inl (IntKind.i64.wrap (a+1))))) (some (.inr (.inl ())))
def zeU(a:T1)(c:T0):Option (Int):=
  (zl (fun z=>zck a c z) 0).bind fun o=>zD o (fun b=>zgo) some
instance (a:T1)(c:T0):PF Tryz.prog 193 [.isl 1 (map zw a),sA c] (zeU a c) iA:=⟨fun r h=>by
 refine zh Tryz.func193 y kz y y<|A ?_
 refine zf<|A ?_
 obtain ⟨o,ho,h⟩:=bs h
 refine lpB ho (fun z=>[(0,.isl 1 (map zw a)),(1,sA c),(7,iA (length a:Int)),(8,iA z)]) (fun z=>[]) (fun b=>[]) (fun b=>[]) (pG Tryz.f193 iA) (zaf []) ?_ ?_
 ·rintro f r h
  refine A ?_
  refine zf ?_
  refine zeh h y (fun d h=>?_) fun d h=>?_
  ·refine ze<|zf<|zi<|A ?_
   obtain ⟨i,j,h⟩:=bs h
   refine A ?_
   refine zeh h y (fun e h=>?_) fun e h=>?_
   ·refine A ?_
    refine zy ?_
    obtain rfl:=sm h
    exact ⟨_,y,_,y,zad []⟩
   ·refine ze<|A ?_
    obtain rfl:=sm h
    exact ⟨_,y,zo []⟩
  ·refine zq ?_
   obtain rfl:=sm h
   exact ⟨y,_,y,zo []⟩
 ·rintro ⟨⟩ rfl
  refine zn<|A ?_
  exact RT0⟩
def zP(a:T1)(b:T0):Option (Bool):=
  (zeU a b).bind fun c=>some (decide (0≤c))
theorem zaw(a:T1)(b:T0){r:Bool}(h:zP a b=some r):zam Tryz.prog 113 [.isl 1 (map zw a),sA b] (bA r):=by
 refine zh Tryz.func113 y kz y y<|A ?_
 obtain ⟨c,d,h⟩:=bs h
 refine A ?_
 exact RT0
instance (a:T1)(b:T0):PF Tryz.prog 113 [.isl 1 (map zw a),sA b] (zP a b) bA:=⟨fun _=>zaw a b⟩
def zsP(a:zb):Option (Bool):=
  some (decide ((length a.Maps:Int)≤100))
def zgX(b:zb)(c:Int)(a:zS)(d:Bool):Option (Sum (Int) (Sum (Unit) (Bool))):=
  cond d (some (.inr (.inr false))) ((cond ((!((length a.Locals:Int) == b.Locals))||(decide (b.Stack<(length a.Stack:Int)))) (some true) ((zhf a.Locals).bind fun e=>some (!e))).bind fun f=>(cond f (some true) ((zhf a.Stack).bind fun i=>some (!i))).bind fun j=>(cond j (some true) ((zP a.Stack [84]).bind fun l=>some l)).bind fun m=>cond m (some (.inr (.inr false))) (some (.inl (IntKind.i64.wrap (c+1)))))
def zgY(c:zb)(a:Int):Option (Sum (Int) (Sum (Unit) (Bool))):=
  cond (decide (a<(length c.Maps:Int))) ((idx c.Maps a).bind fun b=>cond (!(zs b.At 0 (IntKind.i64.wrap ((length c.Code:Int)-1)))) (zgX c a b true) (cond (decide (0<a)) ((idx c.Maps (IntKind.i64.wrap (a-1))).bind fun d=>zgX c a b (decide (b.At≤d.At))) (zgX c a b false))) (some (.inr (.inl ())))
def znl(a:zb):Option (Bool):=
  (zl (fun z=>zgY a z) 0).bind fun o=>zD o (fun b=>zsP a) some
instance (a:zb):PF Tryz.prog 189 [.agg (zd a)] (znl a) bA:=⟨fun r h=>by
 refine zh Tryz.func189 y kz y y<|A ?_
 refine zf<|A ?_
 obtain ⟨o,ho,h⟩:=bs h
 refine lpB ho (fun z=>[(1,.mpt 0 0 0),(6,.isl 3 (map zK a.Maps)),(7,iA (length a.Maps:Int)),(8,iA z)]) (fun z=>[some (10,[(zd a)])]) (fun b=>[(1,.mpt 0 0 0)]) (fun b=>[some (10,[(zd a)])]) (pG Tryz.f189 bA) (zaf [.old 0]) ?_ ?_
 ·rintro f r h
  refine A ?_
  refine zf ?_
  refine zeh h y (fun i h=>?_) fun i h=>?_
  ·refine ze<|zf<|zi ?_
   obtain ⟨e,n,h⟩:=bs h
   refine A ?_
   refine zf ?_
   refine zal (X:=Bool) (fun z=>[(1,.mpt 0 0 0),(4,.mpt 1 0 0),(6,.isl 3 (map zK a.Maps)),(7,iA (length a.Maps:Int)),(8,iA f),(36,bA z)]) (fun z=>[some (10,[(zd a)]),some (3,[(zK e)])]) (fun z=>zgX a f e z=some r) ?_ ?_
   ·rcases bb (!(zs e.At 0 (IntKind.i64.wrap ((length a.Code:Int)-1)))) with c |c
    ·replace h:=bT c h
     exact rdQ [] [0,1,2,3,4,5,6,7,8,9,10,11,12,13,14,15,16,17,18,19,20,21,22,23] [(36,_),(35,_),(34,_),(33,_),(32,_),(31,_),(30,_),(29,_),(28,_),(27,_),(26,_),(25,_),(24,_),(23,_),(22,_),(21,_),(20,_),(19,_),(18,_),(17,_),(16,_),(15,_),(14,_),(13,_)] 0 (zcw (z:=by exact ⟨true,h,zaf [.old 0,.old 1]⟩))
    ·replace h:=bF c h
     rcases bb (decide (0<f)) with d |d
     ·replace h:=bT d h
      obtain ⟨m,p,h⟩:=bs h
      exact rdQ [] [0,1,2,3,4,5,6,7,8,9,10,11,12,13,14,15,16,17,18,19,20,21,22,23] [(36,_),(35,_),(34,_),(33,_),(32,_),(31,_),(30,_),(29,_),(28,_),(27,_),(26,_),(25,_),(24,_),(23,_),(22,_),(21,_),(20,_),(19,_),(18,_),(17,_),(16,_),(15,_),(14,_),(13,_)] 0 (zcw (z:=by exact ⟨(decide (e.At≤m.At)),h,zaf [.old 0,.old 1]⟩))
     ·replace h:=bF d h
      exact rdQ [] [0,1,2,3,4,5,6,7,8,9,10,11,12,13,14,15,16,17,18,19,20,21,22,23] [(36,_),(35,_),(34,_),(33,_),(32,_),(31,_),(30,_),(29,_),(28,_),(27,_),(26,_),(25,_),(24,_),(23,_),(22,_),(21,_),(20,_),(19,_),(18,_),(17,_),(16,_),(15,_),(14,_),(13,_)] 0 (zcw (z:=by exact ⟨false,h,zaf [.old 0,.old 1]⟩))
   ·rintro q h
    refine zeh h y (fun j h=>?_) fun j h=>?_
    ·refine A ?_
     refine zy ?_
     obtain rfl:=sm h
     exact ⟨_,y,_,y,zad []⟩
    ·refine ze ?_
     obtain ⟨s,v,x,B,C,D,h⟩:=bs3 h
     refine A ?_
     refine zeh h y (fun l h=>?_) fun l h=>?_
     ·refine A ?_
      refine zy ?_
      obtain rfl:=sm h
      exact ⟨_,y,_,y,zad []⟩
     ·refine ze<|A ?_
      obtain rfl:=sm h
      exact ⟨_,y,zo [.old 0]⟩
  ·refine zq ?_
   obtain rfl:=sm h
   exact ⟨y,_,y,zo [.old 0]⟩
 ·rintro ⟨⟩ rfl
  refine zn<|A ?_
  exact RT0⟩
def zln(a:zR)(j:T0)(l:T1)(m:T0)(n:Bool)(o:Bool)(p:Int)(q:Int)(b:List zp)(f:List zS)(i:List zR):Option (Bool):=
  (cond ((((decide (a.From<0))||(decide (a.To≤a.From)))||(decide ((length b:Int)<a.To)))||(!(zs a.At 0 (IntKind.i64.wrap ((length b:Int)-1))))) (some true) ((cond (!(a.C == [])) ((zg0 a.C).bind fun c=>some (!c)) (some false)).bind fun d=>some d)).bind fun e=>some e
instance (c:zR)(d:T0)(e:T1)(f:T0)(i:Bool)(j:Bool)(l:Int)(m:Int)(n:List zp)(a:List zS)(b:List zR):PF Tryz.prog 249 [.agg (z6 c),.ipt 10 [[sA d,.isl 1 (map zw e),sA f,bA i,bA j,iA l,iA m,.isl 4 (map zt n),.isl 3 (map zK a),.isl 4 (map z6 b)]] 0 0] (zln c d e f i j l m n a b) bA:=⟨fun r h=>by
 refine zh Tryz.func249 y kz y y<|A ?_
 obtain ⟨o,p,h⟩:=bs h
 refine A ?_
 exact RT0⟩
def zei:Option (Int):=
  some (-1)
def za8(b:List zR)(i:T0)(j:T1)(l:T0)(m:Bool)(n:Bool)(o:Int)(p:Int)(q:List zp)(c:List zS)(d:List zR)(a:Int):Option (Sum (Int) (Sum (Unit) (Int))):=
  cond (decide (a<(length b:Int))) ((idx b a).bind fun e=>(zln e i j l m n o p q c d).bind fun f=>cond f (some (.inr (.inr a))) (some (.inl (IntKind.i64.wrap (a+1))))) (some (.inr (.inl ())))
def zcv(d:List zR)(e:T0)(f:T1)(i:T0)(j:Bool)(l:Bool)(m:Int)(n:Int)(p:List zp)(a:List zS)(c:List zR):Option (Int):=
  (zl (fun z=>za8 d e f i j l m n p a c z) 0).bind fun o=>zD o (fun b=>zei) some
instance (d:List zR)(e:T0)(f:T1)(i:T0)(j:Bool)(l:Bool)(m:Int)(n:Int)(p:List zp)(a:List zS)(c:List zR):PF Tryz.prog 263 [.isl 4 (map z6 d),.fn (.func 249) [] [.ipt 10 [[sA e,.isl 1 (map zw f),sA i,bA j,bA l,iA m,iA n,.isl 4 (map zt p),.isl 3 (map zK a),.isl 4 (map z6 c)]] 0 0]] (zcv d e f i j l m n p a c) iA:=⟨fun r h=>by
 refine zh Tryz.func263 y kz y y<|A ?_
 refine zf<|A ?_
 obtain ⟨o,ho,h⟩:=bs h
 refine lpB ho (fun z=>[(0,.isl 4 (map z6 d)),(1,.fn (.func 249) [] [.ipt 10 [[sA e,.isl 1 (map zw f),sA i,bA j,bA l,iA m,iA n,.isl 4 (map zt p),.isl 3 (map zK a),.isl 4 (map z6 c)]] 0 0]),(7,iA (length d:Int)),(8,iA z)]) (fun z=>[]) (fun b=>[]) (fun b=>[]) (pG Tryz.f263 iA) (zaf []) ?_ ?_
 ·rintro v r h
  refine A ?_
  refine zf ?_
  refine zeh h y (fun q h=>?_) fun q h=>?_
  ·refine ze<|zf<|zi<|A ?_
   obtain ⟨x,C,B,D,h⟩:=bs2 h
   refine A ?_
   refine zeh h y (fun s h=>?_) fun s h=>?_
   ·refine A ?_
    refine zy ?_
    obtain rfl:=sm h
    exact ⟨_,y,_,y,zad []⟩
   ·refine ze<|A ?_
    obtain rfl:=sm h
    exact ⟨_,y,zo []⟩
  ·refine zq ?_
   obtain rfl:=sm h
   exact ⟨y,_,y,zo []⟩
 ·rintro ⟨⟩ rfl
  refine zn<|A ?_
  exact RT0⟩
def za7(d:List zR)(e:T0)(f:T1)(i:T0)(j:Bool)(l:Bool)(m:Int)(n:Int)(o:List zp)(a:List zS)(b:List zR):Option (Bool):=
  (zcv d e f i j l m n o a b).bind fun c=>some (decide (0≤c))
theorem zdA(c:List zR)(d:T0)(e:T1)(f:T0)(i:Bool)(j:Bool)(l:Int)(m:Int)(n:List zp)(a:List zS)(b:List zR){r:Bool}(h:za7 c d e f i j l m n a b=some r):zam Tryz.prog 219 [.isl 4 (map z6 c),.fn (.func 249) [] [.ipt 10 [[sA d,.isl 1 (map zw e),sA f,bA i,bA j,iA l,iA m,.isl 4 (map zt n),.isl 3 (map zK a),.isl 4 (map z6 b)]] 0 0]] (bA r):=by
 refine zh Tryz.func219 y kz y y<|A ?_
 obtain ⟨o,p,h⟩:=bs h
 refine A ?_
 exact RT0
instance (c:List zR)(d:T0)(e:T1)(f:T0)(i:Bool)(j:Bool)(l:Int)(m:Int)(n:List zp)(a:List zS)(b:List zR):PF Tryz.prog 219 [.isl 4 (map z6 c),.fn (.func 249) [] [.ipt 10 [[sA d,.isl 1 (map zw e),sA f,bA i,bA j,iA l,iA m,.isl 4 (map zt n),.isl 3 (map zK a),.isl 4 (map z6 b)]] 0 0]] (za7 c d e f i j l m n a b) bA:=⟨fun _=>zdA c d e f i j l m n a b⟩
def zlm(a:zb):Option (Bool):=
  (za7 a.Traps a.Name a.Params a.Ret a.Static a.Abstract a.Locals a.Stack a.Code a.Maps a.Traps).bind fun b=>some ((!b)&&(decide ((length a.Traps:Int)≤6)))
instance (a:zb):PF Tryz.prog 190 [.agg (zd a)] (zlm a) bA:=⟨fun r h=>by
 refine zh Tryz.func190 y kz y y<|A ?_
 obtain ⟨c,b,h⟩:=bs h
 refine A ?_
 refine u<|pcs (zdA a.Traps a.Name a.Params a.Ret a.Static a.Abstract a.Locals a.Stack a.Code a.Maps a.Traps b) y y (.cons (si y) (.cons (zfZ t ⟨(zbk y ⟨(si y),(si y),(si y),(si y),(si y),(si y),(si y),(si y),(si y),(si y),t⟩),t⟩) .nil)) zbI<|A ?_
 refine A ?_
 exact RT0⟩
def zfH(a:Bool):Option (Bool):=
  some a
def zkj(a:zb):Option (Bool):=
  (zkU a.Name).bind fun b=>(cond ((!b)||(decide (6<(length a.Params:Int)))) (some true) ((zlo a.Params).bind fun c=>some (!c))).bind fun d=>(cond d (some true) ((zqm a.Ret).bind fun e=>some (!e))).bind fun f=>cond f (some false) (cond a.Abstract (some (zf2 a)) (cond ((a.Name == [36,105,110,105,116])&&(((!a.Static)||(decide (0<(length a.Params:Int))))||(!(a.Ret == [86])))) (some false) (cond (zs a.Locals (zao a) 16) (cond (zs a.Stack 0 16) ((ze8 a).bind fun i=>cond i ((znl a).bind fun j=>cond j ((zlm a).bind fun l=>zfH l) (zfH false)) (zfH false)) (zfH false)) (zfH false))))
instance (a:zb):PF Tryz.prog 106 [.agg (zd a)] (zkj a) bA:=⟨fun r h=>by
 refine zh Tryz.func106 y kz y y<|A ?_
 refine zf ?_
 obtain ⟨x,B,C,D,E,F,h⟩:=bs3 h
 refine A ?_
 refine zeh h y (fun m h=>?_) fun m h=>?_
 ·refine A ?_
  exact RT0
 ·refine ze<|zf<|A ?_
  refine zeh h y (fun j h=>?_) fun j h=>?_
  ·refine A ?_
   exact RT0
  ·refine ze<|zf<|A ?_
   refine zeh h y (fun l h=>?_) fun l h=>?_
   ·refine A ?_
    exact RT0
   ·refine ze ?_
    refine zal (X:=Bool) (fun z=>[(2,bA z)]) (fun z=>[]) (fun z=>zfH z=some r) ?_ ?_
    ·rcases bb (zs a.Locals (zao a) 16) with c |c
     ·replace h:=bT c h
      rcases bb (zs a.Stack 0 16) with d |d
      ·replace h:=bT d h
       obtain ⟨i,n,h⟩:=bs h
       rcases bb i with e |e
       ·replace h:=bT e h
        obtain ⟨o,q,h⟩:=bs h
        rcases bb o with f |f
        ·replace h:=bT f h
         obtain ⟨p,s,h⟩:=bs h
         exact rdQ [] [0,1,2,3,4,5,6,7,8,9,10,11,12,13,14,15,16,17,18,19,20,21,22] [(2,_),(69,_),(68,_),(67,_),(66,_),(65,_),(64,_),(63,_),(62,_),(61,_),(60,_),(59,_),(58,_),(57,_),(56,_),(55,_),(54,_),(53,_),(52,_),(51,_),(50,_),(49,_),(48,_)] 0 (zcw (z:=by exact ⟨p,h,zaf []⟩))
        ·replace h:=bF f h
         exact rdQ [] [0,1,2,3,4,5,6,7,8,9,10,11,12,13,14,15,16,17,18,19,20,21,22] [(2,_),(69,_),(68,_),(67,_),(66,_),(65,_),(64,_),(63,_),(62,_),(61,_),(60,_),(59,_),(58,_),(57,_),(56,_),(55,_),(54,_),(53,_),(52,_),(51,_),(50,_),(49,_),(48,_)] 0 (zcw (z:=by exact ⟨false,h,zaf []⟩))
       ·replace h:=bF e h
        exact zc1 [] [22,21,20,19,18,17,16,15,14,13,12,11,10,9,8,7,6,5,4,3,2,1,0] [(2,bA false),(69,bA false),(68,.lit undef),(67,.lit undef),(66,bA false),(65,bA false),(64,.lit undef),(63,.lit undef),(62,bA i),(61,bA i),(60,bA i),(59,.agg (zd a)),(58,bA (zs a.Stack 0 16)),(57,bA (zs a.Stack 0 16)),(56,bA (zs a.Stack 0 16)),(55,iA a.Stack),(54,.mpt 0 0 6),(53,bA (zs a.Locals (zao a) 16)),(52,bA (zs a.Locals (zao a) 16)),(51,iA (zao a)),(50,.agg (zd a)),(49,iA a.Locals),(48,.mpt 0 0 5)] 0 kz kz y kz (zvj ⟨pe,pe,pe,pe,pe,pe,pe,pe,pe,pe,(fun _=>pag (b:=(zs a.Stack 0 16)) y y y y d y (pc (ziK a n) y y y<|w)),(fun _=>pag (b:=(zs a.Stack 0 16)) y y y y d y (ld ti y y<|w)),pe,pe,(fun _=>pag (b:=(zs a.Locals (zao a) 16)) y y y y c y (pc (zeV a.Stack 0 16 y) y y y<|w)),(fun _=>pag (b:=(zs a.Locals (zao a) 16)) y y y y c y (ld ti y y<|w)),(fun _=>pag (b:=(zs a.Locals (zao a) 16)) y y y y c y (fa ti y y y<|w)),pe,(pb y (pc (zeV a.Locals (zao a) 16 y) y y y w)),(pb y (pc (zjk a y) y y y w)),(pb y (ld ti y y w)),(pb y (ld ti y y w)),(pb y (fa ti y y y w)),t⟩ ⟨false,h,zo []⟩)
      ·replace h:=bF d h
       exact zc1 [] [22,21,20,19,18,17,16,15,14,13,12,11,10,9,8,7,6,5,4,3,2,1,0] [(2,bA false),(69,bA false),(68,.lit undef),(67,.lit undef),(66,bA false),(65,bA false),(64,.lit undef),(63,.lit undef),(62,bA false),(61,bA false),(60,.lit undef),(59,.lit undef),(58,bA (zs a.Stack 0 16)),(57,bA (zs a.Stack 0 16)),(56,bA (zs a.Stack 0 16)),(55,iA a.Stack),(54,.mpt 0 0 6),(53,bA (zs a.Locals (zao a) 16)),(52,bA (zs a.Locals (zao a) 16)),(51,iA (zao a)),(50,.agg (zd a)),(49,iA a.Locals),(48,.mpt 0 0 5)] 0 kz kz y kz (zvj ⟨pe,pe,pe,pe,pe,pe,pe,pe,pe,pe,pe,pe,pe,pe,(fun _=>pag (b:=(zs a.Locals (zao a) 16)) y y y y c y (pc (zeV a.Stack 0 16 y) y y y<|w)),(fun _=>pag (b:=(zs a.Locals (zao a) 16)) y y y y c y (ld ti y y<|w)),(fun _=>pag (b:=(zs a.Locals (zao a) 16)) y y y y c y (fa ti y y y<|w)),pe,(pb y (pc (zeV a.Locals (zao a) 16 y) y y y w)),(pb y (pc (zjk a y) y y y w)),(pb y (ld ti y y w)),(pb y (ld ti y y w)),(pb y (fa ti y y y w)),t⟩ ⟨false,h,zo []⟩)
     ·replace h:=bF c h
      exact zc1 [] [22,21,20,19,18,17,16,15,14,13,12,11,10,9,8,7,6,5,4,3,2,1,0] [(2,bA false),(69,bA false),(68,.lit undef),(67,.lit undef),(66,bA false),(65,bA false),(64,.lit undef),(63,.lit undef),(62,bA false),(61,bA false),(60,.lit undef),(59,.lit undef),(58,bA false),(57,bA false),(56,.lit undef),(55,.lit undef),(54,.lit undef),(53,bA (zs a.Locals (zao a) 16)),(52,bA (zs a.Locals (zao a) 16)),(51,iA (zao a)),(50,.agg (zd a)),(49,iA a.Locals),(48,.mpt 0 0 5)] 0 kz kz y kz (zvj ⟨pe,pe,pe,pe,pe,pe,pe,pe,pe,pe,pe,pe,pe,pe,pe,pe,pe,pe,(pb y (pc (zeV a.Locals (zao a) 16 y) y y y w)),(pb y (pc (zjk a y) y y y w)),(pb y (ld ti y y w)),(pb y (ld ti y y w)),(pb y (fa ti y y y w)),t⟩ ⟨false,h,zo []⟩)
    ·rintro v h
     exact RT0⟩
def zlk(a:zb)(e:T0)(f:T0)(b:Bool)(i:T1)(j:List zk)(l:List zb):Option (Bool):=
  (cond (a.Abstract == b) ((zkj a).bind fun c=>some c) (some false)).bind fun d=>some d
theorem znR(a:zb)(b:T0)(c:T0)(d:Bool)(e:T1)(f:List zk)(i:List zb){r:Bool}(h:zlk a b c d e f i=some r):zam Tryz.prog 105 [.agg (zd a),.ipt 6 [[sA b,sA c,bA d,.isl 1 (map zw e),.isl 3 (map zE f),.isl 10 (map zd i)]] 0 0] (bA r):=by
 refine zh Tryz.func105 y kz y y<|A ?_
 obtain ⟨j,l,h⟩:=bs h
 refine A ?_
 exact RT0
instance (a:zb)(b:T0)(c:T0)(d:Bool)(e:T1)(f:List zk)(i:List zb):PF Tryz.prog 105 [.agg (zd a),.ipt 6 [[sA b,sA c,bA d,.isl 1 (map zw e),.isl 3 (map zE f),.isl 10 (map zd i)]] 0 0] (zlk a b c d e f i) bA:=⟨fun _=>znR a b c d e f i⟩
def zjF(a:zb):T0:=
  a.Name
theorem znQ(a:zb){r:T0}(h:zjF a=r):zam Tryz.prog 104 [.agg (zd a)] (sA r):=by
 refine zh Tryz.func104 y kz y y ?_
 unfold zjF at h
 refine A ?_
 refine A ?_
 refine zy ?_
 obtain rfl:=h
 exact ⟨_,y,zad []⟩
instance (a:zb):PF Tryz.prog 104 [.agg (zd a)] (some (zjF a)) sA:=.of fun _=>znQ a
def zgy(c:zb)(d:T0)(e:T1)(f:T0)(i:Bool)(j:Bool)(l:Int)(m:Int)(n:List zp)(a:List zS)(b:List zR):Bool:=
  ((zjF (zb.mk d e f i j l m n a b)) == (zjF c))
instance (n:zb)(c:T0)(d:T1)(e:T0)(f:Bool)(i:Bool)(j:Int)(l:Int)(m:List zp)(a:List zS)(b:List zR):PF Tryz.prog 182 [.agg (zd n),.ipt 1 [[.fn (.func 104) [] []]] 0 0,.ipt 10 [[sA c,.isl 1 (map zw d),sA e,bA f,bA i,iA j,iA l,.isl 4 (map zt m),.isl 3 (map zK a),.isl 4 (map z6 b)]] 0 0] (some (zgy n c d e f i j l m a b)) bA:=.of fun r h=>by
 refine zh Tryz.func182 y kz y y ?_
 unfold zgy at h
 refine A ?_
 refine rdA [(4,_)] [] [] [0,1,2,3,4,5,6,7] [(4,_),(11,_),(10,_),(9,_),(8,_),(7,_),(6,_),(5,_)] 0 (zcw ⟨peC,peC,(by exact pb y (pc (znQ (zb.mk c d e f i j l m a b) y) y y y<|w)),peC,peC,peC,peC,peC,t⟩ (zaf [])) ?_
 refine zy ?_
 obtain rfl:=h
 exact ⟨_,y,zad []⟩
def zc6:Option (Int):=
  some (-1)
def zaM(b:List zb)(f:T0)(i:T1)(j:T0)(l:Bool)(m:Bool)(n:Int)(o:Int)(p:List zp)(c:List zS)(d:List zR)(a:Int):Option (Sum (Int) (Sum (Unit) (Int))):=
  cond (decide (a<(length b:Int))) ((idx b a).bind fun e=>cond (zgy e f i j l m n o p c d) (some (.inr (.inr a))) (some (.inl (IntKind.i64.wrap (a+1))))) (some (.inr (.inl ())))
def zbW(d:List zb)(e:T0)(f:T1)(i:T0)(j:Bool)(l:Bool)(m:Int)(n:Int)(p:List zp)(a:List zS)(c:List zR):Option (Int):=
  (zl (fun z=>zaM d e f i j l m n p a c z) 0).bind fun o=>zD o (fun b=>zc6) some
instance (d:List zb)(e:T0)(f:T1)(i:T0)(j:Bool)(l:Bool)(m:Int)(n:Int)(p:List zp)(a:List zS)(c:List zR):PF Tryz.prog 244 [.isl 10 (map zd d),.fn (.func 182) [] [.ipt 1 [[.fn (.func 104) [] []]] 0 0,.ipt 10 [[sA e,.isl 1 (map zw f),sA i,bA j,bA l,iA m,iA n,.isl 4 (map zt p),.isl 3 (map zK a),.isl 4 (map z6 c)]] 0 0]] (zbW d e f i j l m n p a c) iA:=⟨fun r h=>by
 refine zh Tryz.func244 y kz y y<|A ?_
 refine zf<|A ?_
 obtain ⟨o,ho,h⟩:=bs h
 refine lpB ho (fun z=>[(0,.isl 10 (map zd d)),(1,.fn (.func 182) [] [.ipt 1 [[.fn (.func 104) [] []]] 0 0,.ipt 10 [[sA e,.isl 1 (map zw f),sA i,bA j,bA l,iA m,iA n,.isl 4 (map zt p),.isl 3 (map zK a),.isl 4 (map z6 c)]] 0 0]),(7,iA (length d:Int)),(8,iA z)]) (fun z=>[]) (fun b=>[]) (fun b=>[]) (pG Tryz.f244 iA) (zaf []) ?_ ?_
 ·rintro v r h
  refine A ?_
  refine zf ?_
  refine zeh h y (fun q h=>?_) fun q h=>?_
  ·refine ze<|zf<|zi<|A ?_
   obtain ⟨x,B,h⟩:=bs h
   refine A ?_
   refine zeh h y (fun s h=>?_) fun s h=>?_
   ·refine A ?_
    refine zy ?_
    obtain rfl:=sm h
    exact ⟨_,y,_,y,zad []⟩
   ·refine ze<|A ?_
    obtain rfl:=sm h
    exact ⟨_,y,zo []⟩
  ·refine zq ?_
   obtain rfl:=sm h
   exact ⟨y,_,y,zo []⟩
 ·rintro ⟨⟩ rfl
  refine zn<|A ?_
  exact RT0⟩
def zai(d:List zb)(e:T0)(f:T1)(i:T0)(j:Bool)(l:Bool)(m:Int)(n:Int)(o:List zp)(a:List zS)(b:List zR):Option (Bool):=
  (zbW d e f i j l m n o a b).bind fun c=>some (decide (0≤c))
theorem zcx(c:List zb)(d:T0)(e:T1)(f:T0)(i:Bool)(j:Bool)(l:Int)(m:Int)(n:List zp)(a:List zS)(b:List zR){r:Bool}(h:zai c d e f i j l m n a b=some r):zam Tryz.prog 181 [.isl 10 (map zd c),.fn (.func 182) [] [.ipt 1 [[.fn (.func 104) [] []]] 0 0,.ipt 10 [[sA d,.isl 1 (map zw e),sA f,bA i,bA j,iA l,iA m,.isl 4 (map zt n),.isl 3 (map zK a),.isl 4 (map z6 b)]] 0 0]] (bA r):=by
 refine zh Tryz.func181 y kz y y<|A ?_
 obtain ⟨o,p,h⟩:=bs h
 refine A ?_
 exact RT0
instance (c:List zb)(d:T0)(e:T1)(f:T0)(i:Bool)(j:Bool)(l:Int)(m:Int)(n:List zp)(a:List zS)(b:List zR):PF Tryz.prog 181 [.isl 10 (map zd c),.fn (.func 182) [] [.ipt 1 [[.fn (.func 104) [] []]] 0 0,.ipt 10 [[sA d,.isl 1 (map zw e),sA f,bA i,bA j,iA l,iA m,.isl 4 (map zt n),.isl 3 (map zK a),.isl 4 (map z6 b)]] 0 0]] (zai c d e f i j l m n a b) bA:=⟨fun _=>zcx c d e f i j l m n a b⟩
def zll(a:List zb)(b:Int):Option (Bool):=
  some (decide ((length a:Int)≤b))
def zf1(c:List zb)(j:T0)(l:T0)(m:Bool)(n:T1)(o:List zk)(p:List zb)(b:Int):Option (Sum (Int) (Sum (Unit) (Bool))):=
  cond (decide (b<(length c:Int))) ((idx c b).bind fun a=>(zlk a j l m n o p).bind fun d=>(cond (!d) (some true) ((zkM c 0 b).bind fun e=>(zai e a.Name a.Params a.Ret a.Static a.Abstract a.Locals a.Stack a.Code a.Maps a.Traps).bind fun f=>some f)).bind fun i=>cond i (some (.inr (.inr false))) (some (.inl (IntKind.i64.wrap (b+1))))) (some (.inr (.inl ())))
def zee(a:List zb)(c:Int)(d:T0)(e:T0)(f:Bool)(i:T1)(j:List zk)(l:List zb):Option (Bool):=
  (zl (fun z=>zf1 a d e f i j l z) 0).bind fun o=>zD o (fun b=>zll a c) some
theorem zhS(f:List zb)(i:Int)(l:T0)(m:T0)(n:Bool)(p:T1)(q:List zk)(s:List zb){r:Bool}(h:zee f i l m n p q s=some r):zam Tryz.prog 103 [.isl 10 (map zd f),iA i,.fn (.func 104) [] [],.fn (.func 105) [] [.ipt 6 [[sA l,sA m,bA n,.isl 1 (map zw p),.isl 3 (map zE q),.isl 10 (map zd s)]] 0 0]] (bA r):=by
 refine zh Tryz.func103 y kz y y<|A ?_
 refine zf<|A ?_
 obtain ⟨o,ho,h⟩:=bs h
 refine lpB ho (fun z=>[(0,.isl 10 (map zd f)),(1,iA i),(3,.fn (.func 105) [] [.ipt 6 [[sA l,sA m,bA n,.isl 1 (map zw p),.isl 3 (map zE q),.isl 10 (map zd s)]] 0 0]),(6,.mpt 0 0 0),(11,.isl 10 (map zd f)),(12,iA (length f:Int)),(13,iA z)]) (fun z=>[some (1,[[.fn (.func 104) [] []]])]) (fun b=>[(0,.isl 10 (map zd f)),(1,iA i)]) (fun b=>[]) (pG Tryz.f103 bA) (zaf [.old 0]) ?_ ?_
 ·rintro C r h
  refine A ?_
  refine zf ?_
  refine zeh h y (fun D h=>?_) fun D h=>?_
  ·refine ze<|zf<|zi ?_
   obtain ⟨c,I,h⟩:=bs h
   refine A ?_
   obtain ⟨J,E,F,e,h⟩:=bs2 h
   refine rg y<|u<|mv y<|u<|ld ti y y<|u<|pc (znR c l m n p q s E) y y y<|u<|nt y<|u<|mv y<|ztr (x:=F) (j:=4) 5 y y y y y gpn (fun d=>by replace e:=bF d e;obtain ⟨G,v,e⟩:=bs e;obtain ⟨K,H,e⟩:=bs e;obtain rfl:=sm e;exact g y d<|mv y<|g y d<|mv y<|g y d<|slI (a:=0) (b:=C) ti y ti y y y (zpS y v) v<|g y d<|mf y y<|g y d<|pcs (zcx G c.Name c.Params c.Ret c.Static c.Abstract c.Locals c.Stack c.Code c.Maps c.Traps H) y y (.cons (si y) (.cons (zfZ t ⟨(zbk y ⟨(si y),t⟩),(zbk y ⟨(si y),(si y),(si y),(si y),(si y),(si y),(si y),(si y),(si y),(si y),t⟩),t⟩) .nil)) zbI<|zx (eg [23,24,25,26,27] 5 y y y y)) (fun hb=>(sm (bT hb e)).symm)<|zx ?_
   refine zeh h y (fun B h=>?_) fun B h=>?_
   ·refine A ?_
    refine zy ?_
    obtain rfl:=sm h
    exact ⟨_,y,_,y,zad []⟩
   ·refine ze<|A ?_
    obtain rfl:=sm h
    exact ⟨_,y,zo [.old 0]⟩
  ·refine zq ?_
   obtain rfl:=sm h
   exact ⟨y,_,y,zo []⟩
 ·rintro ⟨⟩ rfl
  refine zn<|A ?_
  exact RT0
instance (a:List zb)(b:Int)(c:T0)(d:T0)(e:Bool)(f:T1)(i:List zk)(j:List zb):PF Tryz.prog 103 [.isl 10 (map zd a),iA b,.fn (.func 104) [] [],.fn (.func 105) [] [.ipt 6 [[sA c,sA d,bA e,.isl 1 (map zw f),.isl 3 (map zE i),.isl 10 (map zd j)]] 0 0]] (zee a b c d e f i j) bA:=⟨fun _=>zhS a b c d e f i j⟩
def znm(a:T0):T0:=
  a
instance (a:T0):PF Tryz.prog 109 [sA a] (some (znm a)) sA:=.of fun r h=>by
 refine zh Tryz.func109 y kz y y ?_
 unfold znm at h
 refine A ?_
 refine A ?_
 refine zy ?_
 obtain rfl:=h
 exact ⟨_,y,zad []⟩
def zhT(a:T0)(b:T0):Bool:=
  ((znm b) == (znm a))
instance (a:T0)(b:T0):PF Tryz.prog 192 [sA a,.ipt 1 [[.fn (.func 109) [] []]] 0 0,.ipt 1 [[sA b]] 0 0] (some (zhT a b)) bA:=.of fun r h=>by
 refine zh Tryz.func192 y kz y y ?_
 unfold zhT at h
 refine A ?_
 refine rdA [(4,_)] [] [] [0,1,2,3,4,5,6,7] [(4,_),(11,_),(10,_),(9,_),(8,_),(7,_),(6,_),(5,_)] 0 (zcw (z:=zaf [])) ?_
 refine zy ?_
 obtain rfl:=h
 exact ⟨_,y,zad []⟩
def zev:Option (Int):=
  some (-1)
def zbe(b:T1)(c:T0)(a:Int):Option (Sum (Int) (Sum (Unit) (Int))):=
  cond (decide (a<(length b:Int))) ((idx b a).bind fun d=>cond (zhT d c) (some (.inr (.inr a))) (some (.inl (IntKind.i64.wrap (a+1))))) (some (.inr (.inl ())))
def zcK(a:T1)(c:T0):Option (Int):=
  (zl (fun z=>zbe a c z) 0).bind fun o=>zD o (fun b=>zev) some
instance (a:T1)(c:T0):PF Tryz.prog 110 [.isl 1 (map zw a),.fn (.func 192) [] [.ipt 1 [[.fn (.func 109) [] []]] 0 0,.ipt 1 [[sA c]] 0 0]] (zcK a c) iA:=⟨fun r h=>by
 refine zh Tryz.func110 y kz y y<|A ?_
 refine zf<|A ?_
 obtain ⟨o,ho,h⟩:=bs h
 refine lpB ho (fun z=>[(0,.isl 1 (map zw a)),(1,.fn (.func 192) [] [.ipt 1 [[.fn (.func 109) [] []]] 0 0,.ipt 1 [[sA c]] 0 0]),(7,iA (length a:Int)),(8,iA z)]) (fun z=>[]) (fun b=>[]) (fun b=>[]) (pG Tryz.f110 iA) (zaf []) ?_ ?_
 ·rintro f r h
  refine A ?_
  refine zf ?_
  refine zeh h y (fun d h=>?_) fun d h=>?_
  ·refine ze<|zf<|zi<|A ?_
   obtain ⟨i,j,h⟩:=bs h
   refine A ?_
   refine zeh h y (fun e h=>?_) fun e h=>?_
   ·refine A ?_
    refine zy ?_
    obtain rfl:=sm h
    exact ⟨_,y,_,y,zad []⟩
   ·refine ze<|A ?_
    obtain rfl:=sm h
    exact ⟨_,y,zo []⟩
  ·refine zq ?_
   obtain rfl:=sm h
   exact ⟨y,_,y,zo []⟩
 ·rintro ⟨⟩ rfl
  refine zn<|A ?_
  exact RT0⟩
def zax(a:T1)(b:T0):Option (Bool):=
  (zcK a b).bind fun c=>some (decide (0≤c))
theorem zdQ(a:T1)(b:T0){r:Bool}(h:zax a b=some r):zam Tryz.prog 56 [.isl 1 (map zw a),.fn (.func 192) [] [.ipt 1 [[.fn (.func 109) [] []]] 0 0,.ipt 1 [[sA b]] 0 0]] (bA r):=by
 refine zh Tryz.func56 y kz y y<|A ?_
 obtain ⟨c,d,h⟩:=bs h
 refine A ?_
 exact RT0
instance (a:T1)(b:T0):PF Tryz.prog 56 [.isl 1 (map zw a),.fn (.func 192) [] [.ipt 1 [[.fn (.func 109) [] []]] 0 0,.ipt 1 [[sA b]] 0 0]] (zax a b) bA:=⟨fun _=>zdQ a b⟩
def zn8(a:T1)(b:Int):Option (Bool):=
  some (decide ((length a:Int)≤b))
def zhv(c:T1)(a:Int):Option (Sum (Int) (Sum (Unit) (Bool))):=
  cond (decide (a<(length c:Int))) ((idx c a).bind fun b=>(zg0 b).bind fun d=>(cond (!d) (some true) ((zkM c 0 a).bind fun e=>(zax e b).bind fun f=>some f)).bind fun i=>cond i (some (.inr (.inr false))) (some (.inl (IntKind.i64.wrap (a+1))))) (some (.inr (.inl ())))
def zhm(a:T1)(c:Int):Option (Bool):=
  (zl (fun z=>zhv a z) 0).bind fun o=>zD o (fun b=>zn8 a c) some
instance (e:T1)(f:Int):PF Tryz.prog 108 [.isl 1 (map zw e),iA f,.fn (.func 109) [] [],.fn (.func 107) [] []] (zhm e f) bA:=⟨fun r h=>by
 refine zh Tryz.func108 y kz y y<|A ?_
 refine zf<|A ?_
 obtain ⟨o,ho,h⟩:=bs h
 refine lpB ho (fun z=>[(0,.isl 1 (map zw e)),(1,iA f),(3,.fn (.func 107) [] []),(6,.mpt 0 0 0),(11,.isl 1 (map zw e)),(12,iA (length e:Int)),(13,iA z)]) (fun z=>[some (1,[[.fn (.func 109) [] []]])]) (fun b=>[(0,.isl 1 (map zw e)),(1,iA f)]) (fun b=>[]) (pG Tryz.f108 bA) (zaf [.old 0]) ?_ ?_
 ·rintro v r h
  refine A ?_
  refine zf ?_
  refine zeh h y (fun m h=>?_) fun m h=>?_
  ·refine ze<|zf<|zi ?_
   obtain ⟨n,B,h⟩:=bs h
   refine A ?_
   obtain ⟨C,D,p,d,h⟩:=bs2 h
   refine A ?_
   refine ztr (x:=p) (j:=4) 5 y y y y y gpn (fun c=>by replace d:=bF c d;obtain ⟨q,i,d⟩:=bs d;obtain ⟨E,s,d⟩:=bs d;obtain rfl:=sm d;exact g y c<|mv y<|g y c<|mv y<|g y c<|slI (a:=0) (b:=v) ti y ti y y y (zpS y i) i<|g y c<|mf y y<|g y c<|pcs (zdQ q n s) y y (.cons (si y) (.cons (zfZ t ⟨(zbk y ⟨(si y),t⟩),(zbk y ⟨(si y),t⟩),t⟩) .nil)) zbI<|zx (eg [23,24,25,26,27] 5 y y y y)) (fun hb=>(sm (bT hb d)).symm)<|zx ?_
   refine zeh h y (fun l h=>?_) fun l h=>?_
   ·refine A ?_
    refine zy ?_
    obtain rfl:=sm h
    exact ⟨_,y,_,y,zad []⟩
   ·refine ze<|A ?_
    obtain rfl:=sm h
    exact ⟨_,y,zo [.old 0]⟩
  ·refine zq ?_
   obtain rfl:=sm h
   exact ⟨y,_,y,zo []⟩
 ·rintro ⟨⟩ rfl
  refine zn<|A ?_
  exact RT0⟩
def zoJ(a:za):Option (Bool):=
  cond (a.Interface&&((!(a.Super == [79,98,106,101,99,116]))||(decide (0<(length a.Fields:Int))))) (some false) ((zf0 a.Fields 8).bind fun b=>(zee a.Methods 8 a.Name a.Super a.Interface a.Impl a.Fields a.Methods).bind fun c=>(zg0 a.Name).bind fun d=>(cond d ((zg0 a.Super).bind fun e=>some e) (some false)).bind fun f=>(cond f ((zhm a.Impl 4).bind fun i=>some i) (some false)).bind fun j=>some ((j&&b)&&c))
instance (a:za):PF Tryz.prog 55 [.agg (zc a)] (zoJ a) bA:=⟨fun r h=>by
 refine zh Tryz.func55 y kz y y<|A ?_
 refine zf<|A ?_
 refine zeh h y (fun b h=>?_) fun b h=>?_
 ·refine A ?_
  exact RT0
 ·refine ze ?_
  obtain ⟨e,f,h⟩:=bs h
  refine A ?_
  obtain ⟨i,c,h⟩:=bs h
  refine A ?_
  refine u<|pcs (zhS a.Methods 8 a.Name a.Super a.Interface a.Impl a.Fields a.Methods c) y y (.cons (si y) (.cons (si y) (.cons (si y) (.cons (zfZ t ⟨(zbk y ⟨(si y),(si y),(si y),(si y),(si y),(si y),t⟩),t⟩) .nil)))) zbI<|A ?_
  obtain ⟨j,l,m,n,o,d,h⟩:=bs3 h
  refine A ?_
  exact RT0⟩
def zkD(a:zb)(b:T0):Bool:=
  (a.Name == b)
instance (a:zb)(b:T0):PF Tryz.prog 268 [.agg (zd a),.ipt 1 [[sA b]] 0 0] (some (zkD a b)) bA:=.of fun r h=>by
 refine zh Tryz.func268 y kz y y ?_
 unfold zkD at h
 refine A ?_
 refine A ?_
 refine zy ?_
 obtain rfl:=h
 exact ⟨_,y,zad []⟩
def zcy:Option (Int):=
  some (-1)
def zaq(b:List zb)(c:T0)(a:Int):Option (Sum (Int) (Sum (Unit) (Int))):=
  cond (decide (a<(length b:Int))) ((idx b a).bind fun d=>cond (zkD d c) (some (.inr (.inr a))) (some (.inl (IntKind.i64.wrap (a+1))))) (some (.inr (.inl ())))
def zaN(a:List zb)(c:T0):Option (Int):=
  (zl (fun z=>zaq a c z) 0).bind fun o=>zD o (fun b=>zcy) some
theorem zcz(a:List zb)(c:T0){r:Int}(h:zaN a c=some r):zam Tryz.prog 244 [.isl 10 (map zd a),.fn (.func 268) [] [.ipt 1 [[sA c]] 0 0]] (iA r):=by
 refine zh Tryz.func244 y kz y y<|A ?_
 refine zf<|A ?_
 obtain ⟨o,ho,h⟩:=bs h
 refine lpB ho (fun z=>[(0,.isl 10 (map zd a)),(1,.fn (.func 268) [] [.ipt 1 [[sA c]] 0 0]),(7,iA (length a:Int)),(8,iA z)]) (fun z=>[]) (fun b=>[]) (fun b=>[]) (pG Tryz.f244 iA) (zaf []) ?_ ?_
 ·rintro f r h
  refine A ?_
  refine zf ?_
  refine zeh h y (fun d h=>?_) fun d h=>?_
  ·refine ze<|zf<|zi<|A ?_
   obtain ⟨i,j,h⟩:=bs h
   refine A ?_
   refine zeh h y (fun e h=>?_) fun e h=>?_
   ·refine A ?_
    refine zy ?_
    obtain rfl:=sm h
    exact ⟨_,y,_,y,zad []⟩
   ·refine ze<|A ?_
    obtain rfl:=sm h
    exact ⟨_,y,zo []⟩
  ·refine zq ?_
   obtain rfl:=sm h
   exact ⟨y,_,y,zo []⟩
 ·rintro ⟨⟩ rfl
  refine zn<|A ?_
  exact RT0
instance (a:List zb)(b:T0):PF Tryz.prog 244 [.isl 10 (map zd a),.fn (.func 268) [] [.ipt 1 [[sA b]] 0 0]] (zaN a b) iA:=⟨fun _=>zcz a b⟩
def ze7(a:za)(b:T0):Option (Int):=
  (zaN a.Methods b).bind fun c=>some c
theorem zgH(a:za)(b:T0){r:Int}(h:ze7 a b=some r):zam Tryz.prog 232 [.agg (zc a),sA b] (iA r):=by
 refine zh Tryz.func232 y kz y y<|A ?_
 obtain ⟨d,c,h⟩:=bs h
 refine A ?_
 refine u<|pcs (zcz a.Methods b c) y y (.cons (si y) (.cons (zfZ t ⟨(zbk y ⟨(si y),t⟩),t⟩) .nil)) zbI<|A ?_
 exact RT0
instance (a:za)(b:T0):PF Tryz.prog 232 [.agg (zc a),sA b] (ze7 a b) iA:=⟨fun _=>zgH a b⟩
def zlj(a:zk)(b:T0):Bool:=
  (a.Name == b)
instance (a:zk)(b:T0):PF Tryz.prog 269 [.agg (zE a),.ipt 1 [[sA b]] 0 0] (some (zlj a b)) bA:=.of fun r h=>by
 refine zh Tryz.func269 y kz y y ?_
 unfold zlj at h
 refine A ?_
 refine A ?_
 refine zy ?_
 obtain rfl:=h
 exact ⟨_,y,zad []⟩
def zcY:Option (Int):=
  some (-1)
def zaE(b:List zk)(c:T0)(a:Int):Option (Sum (Int) (Sum (Unit) (Int))):=
  cond (decide (a<(length b:Int))) ((idx b a).bind fun d=>cond (zlj d c) (some (.inr (.inr a))) (some (.inl (IntKind.i64.wrap (a+1))))) (some (.inr (.inl ())))
def zaW(a:List zk)(c:T0):Option (Int):=
  (zl (fun z=>zaE a c z) 0).bind fun o=>zD o (fun b=>zcY) some
theorem zcZ(a:List zk)(c:T0){r:Int}(h:zaW a c=some r):zam Tryz.prog 241 [.isl 3 (map zE a),.fn (.func 269) [] [.ipt 1 [[sA c]] 0 0]] (iA r):=by
 refine zh Tryz.func241 y kz y y<|A ?_
 refine zf<|A ?_
 obtain ⟨o,ho,h⟩:=bs h
 refine lpB ho (fun z=>[(0,.isl 3 (map zE a)),(1,.fn (.func 269) [] [.ipt 1 [[sA c]] 0 0]),(7,iA (length a:Int)),(8,iA z)]) (fun z=>[]) (fun b=>[]) (fun b=>[]) (pG Tryz.f241 iA) (zaf []) ?_ ?_
 ·rintro f r h
  refine A ?_
  refine zf ?_
  refine zeh h y (fun d h=>?_) fun d h=>?_
  ·refine ze<|zf<|zi<|A ?_
   obtain ⟨i,j,h⟩:=bs h
   refine A ?_
   refine zeh h y (fun e h=>?_) fun e h=>?_
   ·refine A ?_
    refine zy ?_
    obtain rfl:=sm h
    exact ⟨_,y,_,y,zad []⟩
   ·refine ze<|A ?_
    obtain rfl:=sm h
    exact ⟨_,y,zo []⟩
  ·refine zq ?_
   obtain rfl:=sm h
   exact ⟨y,_,y,zo []⟩
 ·rintro ⟨⟩ rfl
  refine zn<|A ?_
  exact RT0
instance (a:List zk)(b:T0):PF Tryz.prog 241 [.isl 3 (map zE a),.fn (.func 269) [] [.ipt 1 [[sA b]] 0 0]] (zaW a b) iA:=⟨fun _=>zcZ a b⟩
def zjC(a:za)(b:T0):Option (Int):=
  (zaW a.Fields b).bind fun c=>some c
theorem znN(a:za)(b:T0){r:Int}(h:zjC a b=some r):zam Tryz.prog 233 [.agg (zc a),sA b] (iA r):=by
 refine zh Tryz.func233 y kz y y<|A ?_
 obtain ⟨d,c,h⟩:=bs h
 refine A ?_
 refine u<|pcs (zcZ a.Fields b c) y y (.cons (si y) (.cons (zfZ t ⟨(zbk y ⟨(si y),t⟩),t⟩) .nil)) zbI<|A ?_
 exact RT0
instance (a:za)(b:T0):PF Tryz.prog 233 [.agg (zc a),sA b] (zjC a b) iA:=⟨fun _=>znN a b⟩
def zo5:Option (Int):=
  some (-1)
def zjs(b:za)(c:T0)(a:Int):Option (Sum (Int) (Sum (Unit) (Int))):=
  cond (decide (a<(length b.Fields:Int))) ((idx b.Fields a).bind fun d=>cond (d.Name == c) (some (.inr (.inr a))) (some (.inl (IntKind.i64.wrap (a+1))))) (some (.inr (.inl ())))
def zk2(a:za)(c:T0):Option (Int):=
  (zl (fun z=>zjs a c z) 0).bind fun o=>zD o (fun b=>zo5) some
instance (a:za)(c:T0):PF Tryz.prog 118 [.agg (zc a),sA c] (zk2 a c) iA:=⟨fun r h=>by
 refine zh Tryz.func118 y kz y y<|A ?_
 refine zf<|A ?_
 obtain ⟨o,ho,h⟩:=bs h
 refine lpB ho (fun z=>[(1,sA c),(2,.mpt 0 0 0),(5,iA z)]) (fun z=>[some (6,[(zc a)])]) (fun b=>[]) (fun b=>[]) (pG Tryz.f118 iA) (zaf [.old 0]) ?_ ?_
 ·rintro f r h
  refine zf<|A ?_
  refine zeh h y (fun d h=>?_) fun d h=>?_
  ·refine ze<|zf<|zi ?_
   obtain ⟨i,j,h⟩:=bs h
   refine A ?_
   refine zeh h y (fun e h=>?_) fun e h=>?_
   ·refine A ?_
    refine zy ?_
    obtain rfl:=sm h
    exact ⟨_,y,_,y,zad []⟩
   ·refine ze<|A ?_
    obtain rfl:=sm h
    exact ⟨_,y,zo [.old 0]⟩
  ·refine zq ?_
   obtain rfl:=sm h
   exact ⟨y,_,y,zo []⟩
 ·rintro ⟨⟩ rfl
  refine zn<|A ?_
  exact RT0⟩
def znY:Option (Int):=
  some (-1)
def ziI(b:za)(c:T0)(a:Int):Option (Sum (Int) (Sum (Unit) (Int))):=
  cond (decide (a<(length b.Methods:Int))) ((idx b.Methods a).bind fun d=>cond (d.Name == c) (some (.inr (.inr a))) (some (.inl (IntKind.i64.wrap (a+1))))) (some (.inr (.inl ())))
def zeb(a:za)(c:T0):Option (Int):=
  (zl (fun z=>ziI a c z) 0).bind fun o=>zD o (fun b=>znY) some
theorem znZ(a:za)(c:T0){r:Int}(h:zeb a c=some r):zam Tryz.prog 119 [.agg (zc a),sA c] (iA r):=by
 refine zh Tryz.func119 y kz y y<|A ?_
 refine zf<|A ?_
 obtain ⟨o,ho,h⟩:=bs h
 refine lpB ho (fun z=>[(1,sA c),(2,.mpt 0 0 0),(5,iA z)]) (fun z=>[some (6,[(zc a)])]) (fun b=>[]) (fun b=>[]) (pG Tryz.f119 iA) (zaf [.old 0]) ?_ ?_
 ·rintro f r h
  refine zf<|A ?_
  refine zeh h y (fun d h=>?_) fun d h=>?_
  ·refine ze<|zf<|zi ?_
   obtain ⟨i,j,h⟩:=bs h
   refine A ?_
   refine zeh h y (fun e h=>?_) fun e h=>?_
   ·refine A ?_
    refine zy ?_
    obtain rfl:=sm h
    exact ⟨_,y,_,y,zad []⟩
   ·refine ze<|A ?_
    obtain rfl:=sm h
    exact ⟨_,y,zo [.old 0]⟩
  ·refine zq ?_
   obtain rfl:=sm h
   exact ⟨y,_,y,zo []⟩
 ·rintro ⟨⟩ rfl
  refine zn<|A ?_
  exact RT0
instance (a:za)(b:T0):PF Tryz.prog 119 [.agg (zc a),sA b] (zeb a b) iA:=⟨fun _=>znZ a b⟩
def zqv(a:T0):Option (Bool):=
  (cond (a == [86]) (some true) ((zht a).bind fun b=>some b)).bind fun c=>some c
instance (a:T0):PF Tryz.prog 195 [sA a] (zqv a) bA:=⟨fun r h=>by
 refine zh Tryz.func195 y kz y y<|A ?_
 obtain ⟨b,c,h⟩:=bs h
 refine A ?_
 exact RT0⟩
def zuJ:Option (Bool):=
  some true
def zhL(c:zb)(b:Int):Option (Sum (Int) (Sum (Unit) (Bool))):=
  cond (decide (b<(length c.Traps:Int))) ((idx c.Traps b).bind fun a=>(cond (((((decide (a.From<0))||(decide (a.To≤a.From)))||(decide ((length c.Code:Int)<a.To)))||(decide (a.At<0)))||(decide ((length c.Code:Int)≤a.At))) (some true) ((cond (!(a.C == [])) ((zg4 a.C).bind fun d=>some (!d)) (some false)).bind fun e=>some e)).bind fun f=>cond f (some (.inr (.inr false))) (some (.inl (IntKind.i64.wrap (b+1))))) (some (.inr (.inl ())))
def zkt(a:zb):Option (Bool):=
  (zl (fun z=>zhL a z) 0).bind fun o=>zD o (fun b=>zuJ) some
def zhK(a:zb)(b:Int):Option (Sum (Int) (Sum (Unit) (Bool))):=
  cond (decide (b<(length a.Code:Int))) ((idx a.Code b).bind fun c=>(zjR c).bind fun d=>cond ((!d)||((zhJ c.Op)&&(decide ((length a.Code:Int)≤c.A)))) (some (.inr (.inr false))) (some (.inl (IntKind.i64.wrap (b+1))))) (some (.inr (.inl ())))
def zo7(a:zb):Option (Bool):=
  (cond ((decide ((length a.Code:Int)<1))||(decide (100<(length a.Code:Int)))) (some true) ((idx a.Code (IntKind.i64.wrap ((length a.Code:Int)-1))).bind fun c=>some (!(zhY c.Op)))).bind fun d=>cond (d||(decide (6<(length a.Traps:Int)))) (some false) ((zl (fun z=>zhK a z) 0).bind fun o=>zD o (fun b=>zkt a) some)
instance (d:zb):PF Tryz.prog 196 [.agg (zd d)] (zo7 d) bA:=⟨fun r h=>by
 refine zh Tryz.func196 y kz y y<|A ?_
 refine A ?_
 refine zf ?_
 obtain ⟨D,E,h⟩:=bs h
 refine A ?_
 refine zeh h y (fun m h=>?_) fun m h=>?_
 ·refine A ?_
  exact RT0
 ·refine ze<|zf<|A ?_
  obtain ⟨o,ho,h⟩:=bs h
  refine lpB ho (fun z=>[(1,.mpt 0 0 0),(3,iA (length d.Code:Int)),(4,iA z)]) (fun z=>[some (10,[(zd d)])]) (fun b=>[(1,.mpt 0 0 0),(3,iA (length d.Code:Int))]) (fun b=>[some (10,[(zd d)])]) (pG Tryz.f196 bA) (zaf [.old 0]) ?_ ?_
  ·rintro F r h
   refine zf<|A ?_
   refine zeh h y (fun e h=>?_) fun e h=>?_
   ·refine ze<|zf<|zi ?_
    obtain ⟨n,q,h⟩:=bs h
    refine A ?_
    obtain ⟨G,p,h⟩:=bs h
    refine rg y<|u<|ld ti y y<|u<|pc (znX n p) y y y<|u<|nt y<|u<|mv y<|ztr (j:=3) 9 y y y y y gpn (fun a=>g y a<|fa ti y y y<|g y a<|ld ti y y<|g y a<|pc (zo6 n.Op y) y y y<|g y a<|mv y<|ziU (j:=7) 4 y y y y y (gps y y a) (fun c=>g y c<|fa ti y y y<|g y c<|ld ti y y<|g y c<|mv y<|g y c<|geq ti y y<|zx (egA [52,53,54,55] 4 c y y y y)) zFr<|zx (egO [48,49,50,51,52,53,54,55,56] 5 a y y y y)) orT<|zx ?_
    refine zeh h y (fun f h=>?_) fun f h=>?_
    ·refine A ?_
     refine zy ?_
     obtain rfl:=sm h
     exact ⟨_,y,_,y,zad []⟩
    ·refine ze<|A ?_
     obtain rfl:=sm h
     exact ⟨_,y,zo [.old 0]⟩
   ·refine zq ?_
    obtain rfl:=sm h
    exact ⟨y,_,y,zo [.old 0]⟩
  ·rintro ⟨⟩ rfl
   refine zn<|zf<|A ?_
   obtain ⟨o,ho,h⟩:=bs h
   refine lpB ho (fun z=>[(1,.mpt 0 0 0),(3,iA (length d.Code:Int)),(6,iA z)]) (fun z=>[some (10,[(zd d)])]) (fun b=>[]) (fun b=>[]) (pG Tryz.f196 bA) (zaf [.old 0]) ?_ ?_
   ·rintro s r h
    refine zf<|A ?_
    refine zeh h y (fun i h=>?_) fun i h=>?_
    ·refine ze<|zf<|zi ?_
     obtain ⟨v,x,h⟩:=bs h
     refine A ?_
     obtain ⟨B,C,h⟩:=bs h
     refine A ?_
     refine zeh h y (fun l h=>?_) fun l h=>?_
     ·refine A ?_
      refine zy ?_
      obtain rfl:=sm h
      exact ⟨_,y,_,y,zad []⟩
     ·refine ze<|A ?_
      obtain rfl:=sm h
      exact ⟨_,y,zo [.old 0]⟩
    ·refine zq ?_
     obtain rfl:=sm h
     exact ⟨y,_,y,zo []⟩
   ·rintro ⟨⟩ rfl
    refine zn<|A ?_
    exact RT0⟩
def ztx:Option (Bool):=
  some true
def ztw(a:Int):Option (Sum (Int) (Sum (Unit) (Bool))):=
  some (.inl (IntKind.i64.wrap (a+1)))
def zgR(b:zS)(a:Int):Option (Sum (Int) (Sum (Unit) (Bool))):=
  cond (decide (a<(length b.Stack:Int))) ((idx b.Stack a).bind fun c=>(cond (!(c == [78])) ((zht c).bind fun d=>some (!d)) (some false)).bind fun e=>cond e (some (.inr (.inr false))) (some (.inl (IntKind.i64.wrap (a+1))))) (some (.inr (.inl ())))
def zm0(a:Int)(c:zS):Option (Sum (Int) (Sum (Unit) (Bool))):=
  (zl (fun z=>zgR c z) 0).bind fun o=>zD o (fun b=>ztw a) (fun r=>some (.inr (.inr r)))
def zgQ(c:zS)(a:Int):Option (Sum (Int) (Sum (Unit) (Bool))):=
  cond (decide (a<(length c.Locals:Int))) ((idx c.Locals a).bind fun b=>(cond ((!(b == [84]))&&(!(b == [78]))) ((zht b).bind fun d=>some (!d)) (some false)).bind fun e=>cond e (some (.inr (.inr false))) (some (.inl (IntKind.i64.wrap (a+1))))) (some (.inr (.inl ())))
def zcV(c:Int)(a:zS)(d:Bool):Option (Sum (Int) (Sum (Unit) (Bool))):=
  cond d (some (.inr (.inr false))) ((zl (fun z=>zgQ a z) 0).bind fun o=>zD o (fun b=>zm0 c a) (fun r=>some (.inr (.inr r))))
def zg6(c:zb)(b:Int):Option (Sum (Int) (Sum (Unit) (Bool))):=
  cond (decide (b<(length c.Maps:Int))) ((idx c.Maps b).bind fun a=>cond (decide (a.At<0)) (zcV b a true) (cond (decide ((length c.Code:Int)≤a.At)) (zcV b a true) (cond (decide (0<b)) ((idx c.Maps (IntKind.i64.wrap (b-1))).bind fun d=>cond (decide (a.At≤d.At)) (zcV b a true) (cond (!((length a.Locals:Int) == c.Locals)) (zcV b a true) (zcV b a (decide (c.Stack<(length a.Stack:Int)))))) (cond (!((length a.Locals:Int) == c.Locals)) (zcV b a true) (zcV b a (decide (c.Stack<(length a.Stack:Int)))))))) (some (.inr (.inl ())))
def zo8(a:zb):Option (Bool):=
  cond (decide (100<(length a.Maps:Int))) (some false) ((zl (fun z=>zg6 a z) 0).bind fun o=>zD o (fun b=>ztx) some)
instance (c:zb):PF Tryz.prog 197 [.agg (zd c)] (zo8 c) bA:=⟨fun r h=>by
 refine zh Tryz.func197 y kz y y<|A ?_
 refine zf<|A ?_
 refine zeh h y (fun B h=>?_) fun B h=>?_
 ·refine A ?_
  exact RT0
 ·refine ze<|zf<|A ?_
  obtain ⟨o,ho,h⟩:=bs h
  refine lpB ho (fun z=>[(1,.mpt 0 0 0),(3,iA z)]) (fun z=>[some (10,[(zd c)])]) (fun b=>[]) (fun b=>[]) (pG Tryz.f197 bA) (zaf [.old 0]) ?_ ?_
  ·rintro e r h
   refine zf<|A ?_
   refine zeh h y (fun n h=>?_) fun n h=>?_
   ·refine ze<|zf<|zi ?_
    obtain ⟨a,D,h⟩:=bs h
    refine A ?_
    refine zf ?_
    refine zal (X:=Bool) (fun z=>[(1,.mpt 0 0 0),(3,iA e),(4,.mpt 1 0 0),(67,bA z)]) (fun z=>[some (10,[(zd c)]),some (3,[(zK a)])]) (fun z=>zcV e a z=some r) ?_ ?_
    ·rcases bb (decide (a.At<0)) with d |d
     ·replace h:=bT d h
      exact rdQ [] [0,1,2,3,4,5,6,7,8,9,10,11,12,13,14,15,16,17,18,19,20,21,22,23,24,25,26,27,28,29,30,31,32,33,34,35,36,37,38,39,40,41,42] [(67,_),(66,_),(65,_),(64,_),(63,_),(62,_),(61,_),(60,_),(59,_),(58,_),(57,_),(56,_),(55,_),(54,_),(53,_),(52,_),(51,_),(50,_),(49,_),(48,_),(47,_),(46,_),(45,_),(44,_),(43,_),(42,_),(41,_),(40,_),(39,_),(38,_),(37,_),(36,_),(35,_),(34,_),(33,_),(32,_),(31,_),(30,_),(29,_),(28,_),(27,_),(26,_),(25,_)] 0 (zcw (z:=by exact ⟨true,h,zaf [.old 0,.old 1]⟩))
     ·replace h:=bF d h
      rcases bb (decide ((length c.Code:Int)≤a.At)) with i |i
      ·replace h:=bT i h
       exact rdQ [] [0,1,2,3,4,5,6,7,8,9,10,11,12,13,14,15,16,17,18,19,20,21,22,23,24,25,26,27,28,29,30,31,32,33,34,35,36,37,38,39,40,41,42] [(67,_),(66,_),(65,_),(64,_),(63,_),(62,_),(61,_),(60,_),(59,_),(58,_),(57,_),(56,_),(55,_),(54,_),(53,_),(52,_),(51,_),(50,_),(49,_),(48,_),(47,_),(46,_),(45,_),(44,_),(43,_),(42,_),(41,_),(40,_),(39,_),(38,_),(37,_),(36,_),(35,_),(34,_),(33,_),(32,_),(31,_),(30,_),(29,_),(28,_),(27,_),(26,_),(25,_)] 0 (zcw (z:=by exact ⟨true,h,zaf [.old 0,.old 1]⟩))
      ·replace h:=bF i h
       rcases bb (decide (0<e)) with j |j
       ·replace h:=bT j h
        obtain ⟨C,E,h⟩:=bs h
        rcases bb (decide (a.At≤C.At)) with l |l
        ·replace h:=bT l h
         exact rdQ [] [0,1,2,3,4,5,6,7,8,9,10,11,12,13,14,15,16,17,18,19,20,21,22,23,24,25,26,27,28,29,30,31,32,33,34,35,36,37,38,39,40,41,42] [(67,_),(66,_),(65,_),(64,_),(63,_),(62,_),(61,_),(60,_),(59,_),(58,_),(57,_),(56,_),(55,_),(54,_),(53,_),(52,_),(51,_),(50,_),(49,_),(48,_),(47,_),(46,_),(45,_),(44,_),(43,_),(42,_),(41,_),(40,_),(39,_),(38,_),(37,_),(36,_),(35,_),(34,_),(33,_),(32,_),(31,_),(30,_),(29,_),(28,_),(27,_),(26,_),(25,_)] 0 (zcw (z:=by exact ⟨true,h,zaf [.old 0,.old 1]⟩))
        ·replace h:=bF l h
         rcases bb (!((length a.Locals:Int) == c.Locals)) with m |m
         ·replace h:=bT m h
          exact rdQ [] [0,1,2,3,4,5,6,7,8,9,10,11,12,13,14,15,16,17,18,19,20,21,22,23,24,25,26,27,28,29,30,31,32,33,34,35,36,37,38,39,40,41,42] [(67,_),(66,_),(65,_),(64,_),(63,_),(62,_),(61,_),(60,_),(59,_),(58,_),(57,_),(56,_),(55,_),(54,_),(53,_),(52,_),(51,_),(50,_),(49,_),(48,_),(47,_),(46,_),(45,_),(44,_),(43,_),(42,_),(41,_),(40,_),(39,_),(38,_),(37,_),(36,_),(35,_),(34,_),(33,_),(32,_),(31,_),(30,_),(29,_),(28,_),(27,_),(26,_),(25,_)] 0 (zcw (z:=by exact ⟨true,h,zaf [.old 0,.old 1]⟩))
         ·replace h:=bF m h
          exact rdQ [] [0,1,2,3,4,5,6,7,8,9,10,11,12,13,14,15,16,17,18,19,20,21,22,23,24,25,26,27,28,29,30,31,32,33,34,35,36,37,38,39,40,41,42] [(67,_),(66,_),(65,_),(64,_),(63,_),(62,_),(61,_),(60,_),(59,_),(58,_),(57,_),(56,_),(55,_),(54,_),(53,_),(52,_),(51,_),(50,_),(49,_),(48,_),(47,_),(46,_),(45,_),(44,_),(43,_),(42,_),(41,_),(40,_),(39,_),(38,_),(37,_),(36,_),(35,_),(34,_),(33,_),(32,_),(31,_),(30,_),(29,_),(28,_),(27,_),(26,_),(25,_)] 0 (zcw (z:=by exact ⟨(decide (c.Stack<(length a.Stack:Int))),h,zaf [.old 0,.old 1]⟩))
       ·replace h:=bF j h
        rcases bb (!((length a.Locals:Int) == c.Locals)) with f |f
        ·replace h:=bT f h
         exact zc1 [] [42,41,40,39,38,37,36,35,34,33,32,31,30,29,28,27,26,25,24,23,22,21,20,19,18,17,16,15,14,13,12,11,10,9,8,7,6,5,4,3,2,1,0] [(67,bA true),(66,.lit undef),(65,.lit undef),(64,.lit undef),(63,.lit undef),(62,.lit undef),(61,.lit undef),(60,bA (!((length a.Locals:Int) == c.Locals))),(59,bA (!((length a.Locals:Int) == c.Locals))),(58,bA (!((length a.Locals:Int) == c.Locals))),(57,iA c.Locals),(56,.mpt 0 0 5),(55,iA (length a.Locals:Int)),(54,.isl 1 (map zw a.Locals)),(53,.mpt 1 0 1),(52,bA false),(51,bA false),(50,bA false),(49,.lit undef),(48,.lit undef),(47,.lit undef),(46,.lit undef),(45,.lit undef),(44,.lit undef),(43,.lit undef),(42,.lit undef),(41,.lit undef),(40,.lit undef),(39,bA (decide (0<e))),(38,bA (decide (0<e))),(37,iA e),(36,bA (decide ((length c.Code:Int)≤a.At))),(35,bA (decide ((length c.Code:Int)≤a.At))),(34,bA (decide ((length c.Code:Int)≤a.At))),(33,iA (length c.Code:Int)),(32,.isl 4 (map zt c.Code)),(31,.mpt 0 0 7),(30,iA a.At),(29,.mpt 1 0 0),(28,bA (decide (a.At<0))),(27,bA (decide (a.At<0))),(26,iA a.At),(25,.mpt 1 0 0)] 0 kz kz y kz (zvj ⟨pe,pe,pe,pe,pe,pe,pe,pe,pe,(fun _=>pag (b:=false) y y y y y y (neq ti y y<|w)),(fun _=>pag (b:=false) y y y y y y (ld ti y y<|w)),(fun _=>pag (b:=false) y y y y y y (fa ti y y y<|w)),(fun _=>pag (b:=false) y y y y y y (lnI ti y y<|w)),(fun _=>pag (b:=false) y y y y y y (ld ti y y<|w)),(fun _=>pag (b:=false) y y y y y y (fa ti y y y<|w)),pe,pe,pe,pe,pe,pe,pe,pe,pe,pe,pe,pe,pe,pe,(fun _=>pag (b:=(decide ((length c.Code:Int)≤a.At))) y y y y i y (gtr ti y y<|w)),pe,pe,pe,(fun _=>pag (b:=(decide (a.At<0))) y y y y d y (geq ti y y<|w)),(fun _=>pag (b:=(decide (a.At<0))) y y y y d y (lnI ti y y<|w)),(fun _=>pag (b:=(decide (a.At<0))) y y y y d y (ld ti y y<|w)),(fun _=>pag (b:=(decide (a.At<0))) y y y y d y (fa ti y y y<|w)),(fun _=>pag (b:=(decide (a.At<0))) y y y y d y (ld ti y y<|w)),(fun _=>pag (b:=(decide (a.At<0))) y y y y d y (fa ti y y y<|w)),pe,(pb y (lss ti y y w)),(pb y (ld ti y y w)),(pb y (fa ti y y y w)),t⟩ ⟨true,h,zo [.old 0,.old 1]⟩)
        ·replace h:=bF f h
         exact zc1 [] [42,41,40,39,38,37,36,35,34,33,32,31,30,29,28,27,26,25,24,23,22,21,20,19,18,17,16,15,14,13,12,11,10,9,8,7,6,5,4,3,2,1,0] [(67,bA (decide (c.Stack<(length a.Stack:Int)))),(66,bA (decide (c.Stack<(length a.Stack:Int)))),(65,iA c.Stack),(64,.mpt 0 0 6),(63,iA (length a.Stack:Int)),(62,.isl 1 (map zw a.Stack)),(61,.mpt 1 0 2),(60,bA (!((length a.Locals:Int) == c.Locals))),(59,bA (!((length a.Locals:Int) == c.Locals))),(58,bA (!((length a.Locals:Int) == c.Locals))),(57,iA c.Locals),(56,.mpt 0 0 5),(55,iA (length a.Locals:Int)),(54,.isl 1 (map zw a.Locals)),(53,.mpt 1 0 1),(52,bA false),(51,bA false),(50,bA false),(49,.lit undef),(48,.lit undef),(47,.lit undef),(46,.lit undef),(45,.lit undef),(44,.lit undef),(43,.lit undef),(42,.lit undef),(41,.lit undef),(40,.lit undef),(39,bA (decide (0<e))),(38,bA (decide (0<e))),(37,iA e),(36,bA (decide ((length c.Code:Int)≤a.At))),(35,bA (decide ((length c.Code:Int)≤a.At))),(34,bA (decide ((length c.Code:Int)≤a.At))),(33,iA (length c.Code:Int)),(32,.isl 4 (map zt c.Code)),(31,.mpt 0 0 7),(30,iA a.At),(29,.mpt 1 0 0),(28,bA (decide (a.At<0))),(27,bA (decide (a.At<0))),(26,iA a.At),(25,.mpt 1 0 0)] 0 kz kz y kz (zvj ⟨pe,(fun _=>pag (b:=(!((length a.Locals:Int) == c.Locals))) y y y y f y (gtr ti y y<|w)),(fun _=>pag (b:=(!((length a.Locals:Int) == c.Locals))) y y y y f y (ld ti y y<|w)),(fun _=>pag (b:=(!((length a.Locals:Int) == c.Locals))) y y y y f y (fa ti y y y<|w)),(fun _=>pag (b:=(!((length a.Locals:Int) == c.Locals))) y y y y f y (lnI ti y y<|w)),(fun _=>pag (b:=(!((length a.Locals:Int) == c.Locals))) y y y y f y (ld ti y y<|w)),(fun _=>pag (b:=(!((length a.Locals:Int) == c.Locals))) y y y y f y (fa ti y y y<|w)),pe,pe,(fun _=>pag (b:=false) y y y y y y (neq ti y y<|w)),(fun _=>pag (b:=false) y y y y y y (ld ti y y<|w)),(fun _=>pag (b:=false) y y y y y y (fa ti y y y<|w)),(fun _=>pag (b:=false) y y y y y y (lnI ti y y<|w)),(fun _=>pag (b:=false) y y y y y y (ld ti y y<|w)),(fun _=>pag (b:=false) y y y y y y (fa ti y y y<|w)),pe,pe,pe,pe,pe,pe,pe,pe,pe,pe,pe,pe,pe,pe,(fun _=>pag (b:=(decide ((length c.Code:Int)≤a.At))) y y y y i y (gtr ti y y<|w)),pe,pe,pe,(fun _=>pag (b:=(decide (a.At<0))) y y y y d y (geq ti y y<|w)),(fun _=>pag (b:=(decide (a.At<0))) y y y y d y (lnI ti y y<|w)),(fun _=>pag (b:=(decide (a.At<0))) y y y y d y (ld ti y y<|w)),(fun _=>pag (b:=(decide (a.At<0))) y y y y d y (fa ti y y y<|w)),(fun _=>pag (b:=(decide (a.At<0))) y y y y d y (ld ti y y<|w)),(fun _=>pag (b:=(decide (a.At<0))) y y y y d y (fa ti y y y<|w)),pe,(pb y (lss ti y y w)),(pb y (ld ti y y w)),(pb y (fa ti y y y w)),t⟩ ⟨(decide (c.Stack<(length a.Stack:Int))),h,zo [.old 0,.old 1]⟩)
    ·rintro F h
     refine zeh h y (fun p h=>?_) fun p h=>?_
     ·refine A ?_
      refine zy ?_
      obtain rfl:=sm h
      exact ⟨_,y,_,y,zad []⟩
     ·refine ze<|zf<|A ?_
      obtain ⟨o,ho,h⟩:=bs h
      refine lpS ho (fun z=>[(1,.mpt 0 0 0),(3,iA e),(4,.mpt 1 0 0),(5,iA z)]) (fun z=>[some (10,[(zd c)]),some (3,[(zK a)])]) (fun b=>[(1,.mpt 0 0 0),(3,iA e),(4,.mpt 1 0 0)]) (fun b=>[some (10,[(zd c)]),some (3,[(zK a)])]) (pG Tryz.f197 bA) (zaf [.old 0,.old 1]) ?_ ?_ ?_
      ·rintro G r h
       refine zf<|A ?_
       refine zeh h y (fun q h=>?_) fun q h=>?_
       ·refine ze<|zf<|zi ?_
        obtain ⟨H,I,h⟩:=bs h
        refine A ?_
        obtain ⟨J,K,h⟩:=bs h
        refine A ?_
        refine zeh h y (fun s h=>?_) fun s h=>?_
        ·refine A ?_
         refine zy ?_
         obtain rfl:=sm h
         exact ⟨_,y,_,y,zad []⟩
        ·refine ze<|A ?_
         obtain rfl:=sm h
         exact ⟨_,y,zo [.old 0,.old 1]⟩
       ·refine zq ?_
        obtain rfl:=sm h
        exact ⟨y,_,y,zo [.old 0,.old 1]⟩
      ·rintro ⟨⟩ rfl
       refine zn<|A ?_
       obtain ⟨o,ho,h⟩:=bs h
       refine lpS ho (fun z=>[(1,.mpt 0 0 0),(3,iA e),(4,.mpt 1 0 0),(7,iA z)]) (fun z=>[some (10,[(zd c)]),some (3,[(zK a)])]) (fun b=>[(1,.mpt 0 0 0),(3,iA e)]) (fun b=>[some (10,[(zd c)])]) (pG Tryz.f197 bA) (zaf [.old 0,.old 1]) ?_ ?_ ?_
       ·rintro L r h
        refine zf<|A ?_
        refine zeh h y (fun v h=>?_) fun v h=>?_
        ·refine ze<|zf<|zi ?_
         obtain ⟨M,N,h⟩:=bs h
         refine A ?_
         obtain ⟨O,P,h⟩:=bs h
         refine A ?_
         refine zeh h y (fun x h=>?_) fun x h=>?_
         ·refine A ?_
          refine zy ?_
          obtain rfl:=sm h
          exact ⟨_,y,_,y,zad []⟩
         ·refine ze<|A ?_
          obtain rfl:=sm h
          exact ⟨_,y,zo [.old 0,.old 1]⟩
        ·refine zq ?_
         obtain rfl:=sm h
         exact ⟨y,_,y,zo [.old 0]⟩
       ·rintro ⟨⟩ rfl
        refine zn<|A ?_
        obtain rfl:=sm h
        exact ⟨_,y,zo [.old 0]⟩
       ·rintro r' rfl env st hp
        obtain rfl:=sm h
        exact ⟨_,y,hp⟩
      ·rintro r' rfl env st hp
       obtain rfl:=sm h
       exact ⟨_,y,hp⟩
   ·refine zq ?_
    obtain rfl:=sm h
    exact ⟨y,_,y,zo []⟩
  ·rintro ⟨⟩ rfl
   refine zn<|A ?_
   exact RT0⟩
def zfT(a:zb)(b:Int):Option (Bool):=
  cond ((((decide (a.Locals<b))||(decide (16<a.Locals)))||(decide (a.Stack<0)))||(decide (16<a.Stack))) (some false) ((zo7 a).bind fun c=>(cond c ((zo8 a).bind fun d=>some d) (some false)).bind fun e=>some e)
def ziv(a:zb):Option (Bool):=
  cond a.Abstract (some (((((((!a.Static)&&(!(a.Name == [36,105,110,105,116])))&&(a.Locals == (0:Int)))&&(a.Stack == (0:Int)))&&((length a.Code:Int) == (0:Int)))&&((length a.Maps:Int) == (0:Int)))&&((length a.Traps:Int) == (0:Int)))) (cond ((a.Name == [36,105,110,105,116])&&(((!a.Static)||(decide (0<(length a.Params:Int))))||(!(a.Ret == [86])))) (some false) (cond (!a.Static) (zfT a (IntKind.i64.wrap ((length a.Params:Int)+1))) (zfT a (length a.Params:Int))))
def zeE(b:zb)(a:Int):Option (Sum (Int) (Sum (Unit) (Bool))):=
  cond (decide (a<(length b.Params:Int))) ((idx b.Params a).bind fun d=>(zht d).bind fun c=>cond (!c) (some (.inr (.inr false))) (some (.inl (IntKind.i64.wrap (a+1))))) (some (.inr (.inl ())))
def zhk(a:zb):Option (Bool):=
  (zk4 a.Name).bind fun c=>(cond ((!c)||(decide (6<(length a.Params:Int)))) (some true) ((zqv a.Ret).bind fun d=>some (!d))).bind fun e=>cond e (some false) ((zl (fun z=>zeE a z) 0).bind fun o=>zD o (fun b=>ziv a) some)
theorem zk3(a:zb){r:Bool}(h:zhk a=some r):zam Tryz.prog 120 [.agg (zd a)] (bA r):=by
 refine zh Tryz.func120 y kz y y<|A ?_
 refine zf ?_
 obtain ⟨C,D,E,F,h⟩:=bs2 h
 refine A ?_
 refine zeh h y (fun l h=>?_) fun l h=>?_
 ·refine A ?_
  exact RT0
 ·refine ze<|zf<|A ?_
  obtain ⟨o,ho,h⟩:=bs h
  refine lpB ho (fun z=>[(1,.mpt 0 0 0),(3,iA z)]) (fun z=>[some (10,[(zd a)])]) (fun b=>[(1,.mpt 0 0 0)]) (fun b=>[some (10,[(zd a)])]) (pG Tryz.f120 bA) (zaf [.old 0]) ?_ ?_
  ·rintro G r h
   refine zf<|A ?_
   refine zeh h y (fun c h=>?_) fun c h=>?_
   ·refine ze<|zf<|zi ?_
    obtain ⟨H,m,n,p,h⟩:=bs2 h
    refine A ?_
    refine zeh h y (fun d h=>?_) fun d h=>?_
    ·refine A ?_
     refine zy ?_
     obtain rfl:=sm h
     exact ⟨_,y,_,y,zad []⟩
    ·refine ze<|A ?_
     obtain rfl:=sm h
     exact ⟨_,y,zo [.old 0]⟩
   ·refine zq ?_
    obtain rfl:=sm h
    exact ⟨y,_,y,zo [.old 0]⟩
  ·rintro ⟨⟩ rfl
   refine zn<|zf<|A ?_
   refine zeh h y (fun e h=>?_) fun e h=>?_
   ·refine A ?_
    exact RT0
   ·refine ze<|zf<|A ?_
    refine zeh h y (fun f h=>?_) fun f h=>?_
    ·refine A ?_
     exact RT0
    ·refine ze<|A ?_
     refine zal (X:=Int) (fun z=>[(1,.mpt 0 0 0),(4,iA z)]) (fun z=>[some (10,[(zd a)])]) (fun z=>zfT a z=some r) ?_ ?_
     ·refine A ?_
      refine zeh h y (fun i h=>?_) fun i h=>?_
      ·refine A ?_
       exact (⟨(IntKind.i64.wrap ((length a.Params:Int)+1)),h,zo [.old 0]⟩)
      ·refine ze ?_
       exact ⟨(length a.Params:Int),h,zo [.old 0]⟩
     ·rintro q h
      refine zf<|A ?_
      refine zeh h y (fun j h=>?_) fun j h=>?_
      ·refine A ?_
       exact RT0
      ·refine ze ?_
       obtain ⟨s,v,x,B,h⟩:=bs2 h
       refine A ?_
       exact RT0
instance (a:zb):PF Tryz.prog 120 [.agg (zd a)] (zhk a) bA:=⟨fun _=>zk3 a⟩
def zpF:Option (Bool):=
  some true
def ze3(c:za)(a:Int):Option (Sum (Int) (Sum (Unit) (Bool))):=
  cond (decide (a<(length c.Methods:Int))) ((idx c.Methods a).bind fun b=>(cond (!(b.Abstract == c.Interface)) (some true) ((zeb c b.Name).bind fun d=>some (!(d == a)))).bind fun e=>(cond e (some true) ((zhk b).bind fun f=>some (!f))).bind fun i=>cond i (some (.inr (.inr false))) (some (.inl (IntKind.i64.wrap (a+1))))) (some (.inr (.inl ())))
def zl8(a:za):Option (Bool):=
  (zl (fun z=>ze3 a z) 0).bind fun o=>zD o (fun b=>zpF) some
def ze2(c:za)(a:Int):Option (Sum (Int) (Sum (Unit) (Bool))):=
  cond (decide (a<(length c.Fields:Int))) ((idx c.Fields a).bind fun b=>(zk4 b.Name).bind fun d=>(cond ((!d)||(b.Name == [36,105,110,105,116])) (some true) ((zht b.Type_).bind fun e=>some (!e))).bind fun f=>(cond f (some true) ((zk2 c b.Name).bind fun i=>some (!(i == a)))).bind fun j=>cond j (some (.inr (.inr false))) (some (.inl (IntKind.i64.wrap (a+1))))) (some (.inr (.inl ())))
def zl7(a:za):Option (Bool):=
  (zl (fun z=>ze2 a z) 0).bind fun o=>zD o (fun b=>zl8 a) some
def zqf(a:Int):Option (Sum (Int) (Sum (Unit) (Bool))):=
  some (.inl (IntKind.i64.wrap (a+1)))
def ze0(c:za)(b:Int)(a:Int):Option (Sum (Int) (Sum (Unit) (Bool))):=
  cond (decide (a<b)) ((idx c.Impl a).bind fun d=>(idx c.Impl b).bind fun e=>cond (d == e) (some (.inr (.inr false))) (some (.inl (IntKind.i64.wrap (a+1))))) (some (.inr (.inl ())))
def ze1(c:za)(a:Int):Option (Sum (Int) (Sum (Unit) (Bool))):=
  cond (decide (a<(length c.Impl:Int))) ((idx c.Impl a).bind fun d=>(zg4 d).bind fun e=>cond (!e) (some (.inr (.inr false))) ((zl (fun z=>ze0 c a z) 0).bind fun o=>zD o (fun b=>zqf a) (fun r=>some (.inr (.inr r))))) (some (.inr (.inl ())))
def zjt(a:za):Option (Bool):=
  (zg4 a.Name).bind fun c=>(cond (!c) (some true) ((zg4 a.Super).bind fun d=>some (!d))).bind fun e=>cond (((e||(decide (4<(length a.Impl:Int))))||(decide (8<(length a.Fields:Int))))||(decide (8<(length a.Methods:Int)))) (some false) (cond (a.Interface&&((!(a.Super == [79,98,106,101,99,116]))||(decide (0<(length a.Fields:Int))))) (some false) ((zl (fun z=>ze1 a z) 0).bind fun o=>zD o (fun b=>zl7 a) some))
instance (c:za):PF Tryz.prog 69 [.agg (zc c)] (zjt c) bA:=⟨fun r h=>by
 refine zh Tryz.func69 y kz y y<|A ?_
 refine zf ?_
 obtain ⟨v2,q1,v4,q4,h⟩:=bs2 h
 refine A ?_
 refine zeh h y (fun E h=>?_) fun E h=>?_
 ·refine A ?_
  exact RT0
 ·refine ze<|zf<|A ?_
  refine zeh h y (fun m h=>?_) fun m h=>?_
  ·refine A ?_
   exact RT0
  ·refine ze<|zf<|A ?_
   obtain ⟨o,ho,h⟩:=bs h
   refine lpB ho (fun z=>[(1,.mpt 0 0 0),(3,iA z)]) (fun z=>[some (6,[(zc c)])]) (fun b=>[(1,.mpt 0 0 0)]) (fun b=>[some (6,[(zc c)])]) (pG Tryz.f69 bA) (zaf [.old 0]) ?_ ?_
   ·rintro i r h
    refine zf<|A ?_
    refine zeh h y (fun n h=>?_) fun n h=>?_
    ·refine ze<|zf<|zi<|zf ?_
     obtain ⟨J,K,L,M,h⟩:=bs2 h
     refine A ?_
     refine zeh h y (fun p h=>?_) fun p h=>?_
     ·refine A ?_
      refine zy ?_
      obtain rfl:=sm h
      exact ⟨_,y,_,y,zad []⟩
     ·refine ze<|A ?_
      obtain ⟨o,ho,h⟩:=bs h
      refine lpS ho (fun z=>[(1,.mpt 0 0 0),(3,iA i),(4,iA z)]) (fun z=>[some (6,[(zc c)])]) (fun b=>[(1,.mpt 0 0 0),(3,iA i)]) (fun b=>[some (6,[(zc c)])]) (pG Tryz.f69 bA) (zaf [.old 0]) ?_ ?_ ?_
      ·rintro N r h
       refine zf<|A ?_
       refine zeh h y (fun q h=>?_) fun q h=>?_
       ·refine ze<|zf<|zi ?_
        obtain ⟨O,P,Q,R,h⟩:=bs2 h
        refine rdA [(1,_),(3,_),(4,_),(79,_)] [some (6,[(zc c)])] [] [0,1,2,3,4,5,6,7,8,9,10] [(79,_),(78,_),(77,_),(76,_),(75,_),(74,_),(73,_),(72,_),(71,_),(70,_),(69,_)] 0 (zcw (z:=zaf [.old 0])) ?_
        refine zeh h y (fun s h=>?_) fun s h=>?_
        ·refine A ?_
         refine zy ?_
         obtain rfl:=sm h
         exact ⟨_,y,_,y,zad []⟩
        ·refine ze<|A ?_
         obtain rfl:=sm h
         exact ⟨_,y,zo [.old 0]⟩
       ·refine zq ?_
        obtain rfl:=sm h
        exact ⟨y,_,y,zo [.old 0]⟩
      ·rintro ⟨⟩ rfl
       refine zn<|A ?_
       obtain rfl:=sm h
       exact ⟨_,y,zo [.old 0]⟩
      ·rintro r' rfl env st hp
       obtain rfl:=sm h
       exact ⟨_,y,hp⟩
    ·refine zq ?_
     obtain rfl:=sm h
     exact ⟨y,_,y,zo [.old 0]⟩
   ·rintro ⟨⟩ rfl
    refine zn<|zf<|A ?_
    obtain ⟨o,ho,h⟩:=bs h
    refine lpB ho (fun z=>[(1,.mpt 0 0 0),(5,iA z)]) (fun z=>[some (6,[(zc c)])]) (fun b=>[(1,.mpt 0 0 0)]) (fun b=>[some (6,[(zc c)])]) (pG Tryz.f69 bA) (zaf [.old 0]) ?_ ?_
    ·rintro S r h
     refine zf<|A ?_
     refine zeh h y (fun v h=>?_) fun v h=>?_
     ·refine ze<|zf<|zi ?_
      obtain ⟨T,U,h⟩:=bs h
      refine A ?_
      obtain ⟨V,W,X,Y,Z,q56,h⟩:=bs3 h
      refine A ?_
      refine zeh h y (fun B h=>?_) fun B h=>?_
      ·refine A ?_
       refine zy ?_
       obtain rfl:=sm h
       exact ⟨_,y,_,y,zad []⟩
      ·refine ze<|A ?_
       obtain rfl:=sm h
       exact ⟨_,y,zo [.old 0]⟩
     ·refine zq ?_
      obtain rfl:=sm h
      exact ⟨y,_,y,zo [.old 0]⟩
    ·rintro ⟨⟩ rfl
     refine zn<|zf<|A ?_
     obtain ⟨o,ho,h⟩:=bs h
     refine lpB ho (fun z=>[(1,.mpt 0 0 0),(7,iA z)]) (fun z=>[some (6,[(zc c)])]) (fun b=>[]) (fun b=>[]) (pG Tryz.f69 bA) (zaf [.old 0]) ?_ ?_
     ·rintro v43 r h
      refine zf<|A ?_
      refine zeh h y (fun C h=>?_) fun C h=>?_
      ·refine ze<|zf<|zi ?_
       obtain ⟨l,q68,h⟩:=bs h
       refine A ?_
       obtain ⟨F,d,G,e,h⟩:=bs2 h
       refine rg y<|u<|fa ti y y y<|u<|ld ti y y<|u<|fa ti y y y<|u<|ld ti y y<|u<|bne ti y y y<|u<|mv y<|ztr (x:=F) (j:=5) 6 y y y y y gpn (fun a=>by replace d:=bF a d;obtain ⟨v45,H,d⟩:=bs d;obtain rfl:=sm d;exact g y a<|ld ti y y<|g y a<|fa ti y y y<|g y a<|ld ti y y<|g y a<|pc (znZ c l.Name H) y y y<|g y a<|mv y<|g y a<|neq ti y y<|zx (eg [133,134,135,136,137,138] 6 y y y y)) (fun hb=>(sm (bT hb d)).symm)<|u<|mv y<|ztr (x:=G) (j:=13) 3 y y y y y gpn (fun f=>by replace e:=bF f e;obtain ⟨v47,I,e⟩:=bs e;obtain rfl:=sm e;exact g y f<|ld ti y y<|g y f<|pc (zk3 l I) y y y<|g y f<|nt y<|zx (eg [141,142,143] 3 y y y y)) (fun hb=>(sm (bT hb e)).symm)<|zx ?_
       refine zeh h y (fun D h=>?_) fun D h=>?_
       ·refine A ?_
        refine zy ?_
        obtain rfl:=sm h
        exact ⟨_,y,_,y,zad []⟩
       ·refine ze<|A ?_
        obtain rfl:=sm h
        exact ⟨_,y,zo [.old 0]⟩
      ·refine zq ?_
       obtain rfl:=sm h
       exact ⟨y,_,y,zo []⟩
     ·rintro ⟨⟩ rfl
      refine zn<|A ?_
      exact RT0⟩
def zrp:Option (Bool):=
  some true
def zhZ(b:T1)(c:T1)(a:Int):Option (Sum (Int) (Sum (Unit) (Bool))):=
  cond (decide (a<(length b:Int))) ((idx b a).bind fun d=>(idx c a).bind fun e=>cond (!(d == e)) (some (.inr (.inr false))) (some (.inl (IntKind.i64.wrap (a+1))))) (some (.inr (.inl ())))
def zks(a:T1)(c:T1):Option (Bool):=
  cond (!((length a:Int) == (length c:Int))) (some false) ((zl (fun z=>zhZ a c z) 0).bind fun o=>zD o (fun b=>zrp) some)
instance (a:T1)(c:T1):PF Tryz.prog 50 [.isl 1 (map zw a),.isl 1 (map zw c)] (zks a c) bA:=⟨fun r h=>by
 refine zh Tryz.func50 y kz y y<|A ?_
 refine zf<|A ?_
 refine zeh h y (fun d h=>?_) fun d h=>?_
 ·refine A ?_
  exact RT0
 ·refine ze<|zf<|A ?_
  obtain ⟨o,ho,h⟩:=bs h
  refine lpB ho (fun z=>[(0,.isl 1 (map zw a)),(1,.isl 1 (map zw c)),(5,iA z)]) (fun z=>[]) (fun b=>[]) (fun b=>[]) (pG Tryz.f50 bA) (zaf []) ?_ ?_
  ·rintro i r h
   refine zf<|A ?_
   refine zeh h y (fun e h=>?_) fun e h=>?_
   ·refine ze<|zf<|zi ?_
    obtain ⟨j,l,m,n,h⟩:=bs2 h
    refine rdA [(0,_),(1,_),(5,_),(25,_)] [] [] [0,1,2,3,4,5,6,7,8] [(25,_),(24,_),(23,_),(22,_),(21,_),(20,_),(19,_),(18,_),(17,_)] 0 (zcw (z:=zaf [])) ?_
    refine zeh h y (fun f h=>?_) fun f h=>?_
    ·refine A ?_
     refine zy ?_
     obtain rfl:=sm h
     exact ⟨_,y,_,y,zad []⟩
    ·refine ze<|A ?_
     obtain rfl:=sm h
     exact ⟨_,y,zo []⟩
   ·refine zq ?_
    obtain rfl:=sm h
    exact ⟨y,_,y,zo []⟩
  ·rintro ⟨⟩ rfl
   refine zn<|A ?_
   exact RT0⟩
structure zH where
  l:List za
  at_:T2
def zbl(x:zH):List AV:=[.isl 6 (map zc x.l),.imp (map (rKV (fun x=>iA x)) x.at_)]
def zci(a:T0)(b:Int):Option (T0):=
  cond (decide (b<(length a:Int))) ((zkM a 0 b).bind fun c=>some c) (some a)
instance (d:T0)(c:Int):PF Tryz.prog 47 [sA d,iA c] (zci d c) sA:=⟨fun r h=>by
 refine zh Tryz.func47 y kz y y<|A ?_
 refine zf<|A ?_
 refine zeh h y (fun e h=>?_) fun e h=>?_
 ·obtain ⟨i,f,h⟩:=bs h
  refine A ?_
  refine u<|slS (a:=0) (b:=c) ti y y y (zpS y f) f<|A ?_
  exact RT0
 ·refine ze<|A ?_
  exact RT0⟩
def zs3(a:T1):Option (T1):=
  some a
def zg2(b:T1)(i:Int)(c:T1)(a:Int):Option (Sum (T1×Int) (Sum (T1) (T1))):=
  cond ((decide (a<(length b:Int)))&&(decide (a<i))) ((idx b a).bind fun d=>(zci d 12).bind fun e=>(zh9 16 c [e]).bind fun f=>some (.inl (f,(IntKind.i64.wrap (a+1))))) (some (.inr (.inl c)))
def zeY(a:T1)(c:Int):Option (T1):=
  (zl (fun z=>zg2 a c z.1 z.2) ([],0)).bind fun o=>zD o (fun b=>zs3 b) some
theorem zg3(a:T1)(c:Int){r:T1}(h:zeY a c=some r):zam Tryz.prog 114 [.isl 1 (map zw a),iA c] (.isl 1 (map zw r)):=by
 refine zh Tryz.func114 y kz y y<|A ?_
 refine A ?_
 refine zf<|A ?_
 obtain ⟨o,ho,h⟩:=bs h
 refine lpB ho (fun z=>[(0,.isl 1 (map zw a)),(1,iA c),(5,.msl 0 0 (length z.1)),(6,iA z.2)]) (fun z=>[some (1,map zw z.1)]) (fun b=>[(5,.msl 0 0 (length b))]) (fun b=>[some (1,map zw b)]) (pG Tryz.f114 (fun r=>.isl 1 (map zw r))) ⟨[.fresh 1],ce y y<|ce y y<|cv y (.nilown y)<|ce y y<|cn,y,⟨w,t⟩,y,k⟩ ?_ ?_
 ·rintro ⟨n,p⟩ r h
  refine zf<|A ?_
  refine zeh h y (fun d h=>?_) fun d h=>?_
  ·refine ze<|zf<|zi ?_
   obtain ⟨j,q,e,s,l,i,h⟩:=bs3 h
   refine A ?_
   refine u<|apM 2 ti y ti y y (by decide) ti y y y y (roX (f:=zw) (z:=[e]) y y) (fun _=>y) y i<|A ?_
   refine A ?_
   obtain rfl:=sm h
   exact ⟨_,y,zo [.old 2]⟩
  ·refine zq ?_
   obtain rfl:=sm h
   exact ⟨y,_,y,zo [.old 0]⟩
 ·rintro m rfl
  refine zn<|A ?_
  exact RT0
instance (a:T1)(b:Int):PF Tryz.prog 114 [.isl 1 (map zw a),iA b] (zeY a b) (fun r=>(.isl 1 (map zw r))):=⟨fun _=>zg3 a b⟩
def zqn(a:zp):Option (zp):=
  (zci a.C 14).bind fun b=>(zci a.M 12).bind fun c=>some (zp.mk a.Op a.A b c)
instance (a:zp):PF Tryz.prog 194 [.agg (zt a)] (zqn a) (fun r=>(.agg (zt r))):=⟨fun r h=>by
 refine zh Tryz.func194 y kz y y<|A ?_
 obtain ⟨b,d,c,e,h⟩:=bs2 h
 refine rdA [(1,_),(2,_)] [some (4,[[iA a.Op,iA a.A,sA b,sA c]]),some (4,[[iA 0,iA 0,sA [],sA []]])] [7,9] [0,1,2,3,4,5,6] [(9,_),(8,_),(7,_),(6,_),(5,_),(4,_),(3,_)] 2 (zcq (z:=by exact ⟨(fun _ _=>⟨_,y,y,sto ti y y y<|⟨.any,[8],[(10,_)],y,y,y,t,zcq (z:=by exact ⟨nv,(fun _ _=>⟨_,y,y,sto ti y y y<|⟨.any,[],[],y,y,y,t,zcw (z:=zaf [.old 0,.old 1])⟩⟩),t⟩)⟩⟩),nw,t⟩)) ?_
 refine A ?_
 exact RT0⟩
def zr1(a:zb)(e:T0)(f:T1)(i:T0)(b:List zp)(c:List zS)(d:List zR):Option (zb):=
  some (zb.mk e f i a.Static a.Abstract a.Locals a.Stack b c d)
def zgu(d:zb)(c:List zR)(a:Int):Option (Sum ((List zR)×Int) (Sum ((List zR)) (zb))):=
  cond ((decide (a<(length d.Traps:Int)))&&(decide (a<8))) ((idx d.Traps a).bind fun b=>(zci b.C 10).bind fun e=>(zh9 40 c [(zR.mk b.From b.To b.At e)]).bind fun f=>some (.inl (f,(IntKind.i64.wrap (a+1))))) (some (.inr (.inl c)))
def zkJ(a:zb)(e:T0)(f:T1)(i:T0)(c:List zp)(d:List zS):Option (zb):=
  (zl (fun z=>zgu a z.1 z.2) ([],0)).bind fun o=>zD o (fun b=>zr1 a e f i c d b) some
def zgt(b:zb)(c:List zS)(a:Int):Option (Sum ((List zS)×Int) (Sum ((List zS)) (zb))):=
  cond ((decide (a<(length b.Maps:Int)))&&(decide (a<104))) ((idx b.Maps a).bind fun d=>(idx b.Maps a).bind fun e=>(zeY e.Locals 20).bind fun f=>(idx b.Maps a).bind fun i=>(zeY i.Stack 20).bind fun j=>(zh9 56 c [(zS.mk d.At f j)]).bind fun l=>some (.inl (l,(IntKind.i64.wrap (a+1))))) (some (.inr (.inl c)))
def zkI(a:zb)(d:T0)(e:T1)(f:T0)(c:List zp):Option (zb):=
  (zl (fun z=>zgt a z.1 z.2) ([],0)).bind fun o=>zD o (fun b=>zkJ a d e f c b) some
def zgs(c:zb)(b:List zp)(a:Int):Option (Sum ((List zp)×Int) (Sum ((List zp)) (zb))):=
  cond ((decide (a<(length c.Code:Int)))&&(decide (a<104))) ((idx c.Code a).bind fun d=>(zqn d).bind fun e=>(zh9 48 b [e]).bind fun f=>some (.inl (f,(IntKind.i64.wrap (a+1))))) (some (.inr (.inl b)))
def zlA(a:zb):Option (zb):=
  (zci a.Name 10).bind fun c=>(zeY a.Params 8).bind fun d=>(zci a.Ret 12).bind fun e=>(zl (fun z=>zgs a z.1 z.2) ([],0)).bind fun o=>zD o (fun b=>zkI a c d e b) some
instance (a:zb):PF Tryz.prog 115 [.agg (zd a)] (zlA a) (fun r=>(.agg (zd r))):=⟨fun r h=>by
 refine zh Tryz.func115 y kz y y<|A ?_
 obtain ⟨e,q1,i,q2,j,q3,h⟩:=bs3 h
 refine rdA [(1,_),(2,_),(3,_)] [some (10,[(zd a)]),some (10,[[sA [],.lit (.slice none 0 0),sA [],bA false,bA false,iA 0,iA 0,.lit (.slice none 0 0),.lit (.slice none 0 0),.lit (.slice none 0 0)]]),some (10,[[sA e,.isl 1 (map zw i),sA j,bA a.Static,bA a.Abstract,iA a.Locals,iA a.Stack,.lit (.slice none 0 0),.lit (.slice none 0 0),.lit (.slice none 0 0)]])] [18,19] [0,1,2,3,4,5,6,7,8,9,10,11,12,13,14,15,16,17] [(25,_),(24,_),(23,_),(22,_),(21,_),(20,_),(19,_),(18,_),(17,_),(16,_),(15,_),(14,_),(13,_),(12,_),(11,_),(10,_),(9,_),(8,_)] 2 (zcq ⟨peC,peC,peC,peC,peC,peC,peC,peC,peC,peC,peC,peC,peC,peC,peC,peC,peC,(by exact pb y (bd (parts:=[(0,sA e),(1,.isl 1 (map zw i)),(2,sA j),(3,bA a.Static),(4,bA a.Abstract),(5,iA a.Locals),(6,iA a.Stack)]) (cs:=[sA e,.isl 1 (map zw i),sA j,bA a.Static,bA a.Abstract,iA a.Locals,iA a.Stack,.lit (.slice none 0 0),.lit (.slice none 0 0),.lit (.slice none 0 0)]) ti y y kz<|w)),t⟩ (by exact ⟨(fun _ _=>⟨_,y,y,al 2 ti y<|⟨(.mpt 2 0 0),[],[(3,_)],y,y,y,y,zcq ⟨peC,peC,peC,peC,peC,peC,peC,peC,peC,peC,peC,peC,peC,peC,peC,peC,peC,(by exact pb y (bd (parts:=[(0,sA e),(1,.isl 1 (map zw i)),(2,sA j),(3,bA a.Static),(4,bA a.Abstract),(5,iA a.Locals),(6,iA a.Stack)]) (cs:=[sA e,.isl 1 (map zw i),sA j,bA a.Static,bA a.Abstract,iA a.Locals,iA a.Stack,.lit (.slice none 0 0),.lit (.slice none 0 0),.lit (.slice none 0 0)]) ti y y kz<|w)),t⟩ (by exact ⟨nv,(fun _ _=>⟨_,y,y,sto ti y y y<|⟨.any,[],[],y,y,y,t,zcw (z:=zaf [.old 0,.old 1,.old 2])⟩⟩),t⟩)⟩⟩),nw,t⟩)) ?_
 refine zf<|A ?_
 obtain ⟨o,ho,h⟩:=bs h
 refine lpB ho (fun z=>[(1,.mpt 0 0 0),(2,.mpt 1 0 0),(3,.mpt 2 0 0),(4,iA z.2)]) (fun z=>[some (10,[(zd a)]),some (10,[[sA [],.lit (.slice none 0 0),sA [],bA false,bA false,iA 0,iA 0,.lit (.slice none 0 0),.lit (.slice none 0 0),.lit (.slice none 0 0)]]),some (10,[[sA e,.isl 1 (map zw i),sA j,bA a.Static,bA a.Abstract,iA a.Locals,iA a.Stack,.msl 3 0 (length z.1),.lit (.slice none 0 0),.lit (.slice none 0 0)]]),some (4,map zt z.1)]) (fun b=>[(1,.mpt 0 0 0),(2,.mpt 1 0 0),(3,.mpt 2 0 0)]) (fun b=>[some (10,[(zd a)]),some (10,[[sA [],.lit (.slice none 0 0),sA [],bA false,bA false,iA 0,iA 0,.lit (.slice none 0 0),.lit (.slice none 0 0),.lit (.slice none 0 0)]]),some (10,[[sA e,.isl 1 (map zw i),sA j,bA a.Static,bA a.Abstract,iA a.Locals,iA a.Stack,.msl 3 0 (length b),.lit (.slice none 0 0),.lit (.slice none 0 0)]]),some (4,map zt b)]) (pG Tryz.f115 (fun r=>.agg (zd r))) ⟨[.old 0,.old 1,.old 2,.fresh 4],cv y (.mpt y)<|cv y (.mpt y)<|cv y (.mpt y)<|ce y y<|cn,y,⟨⟨_,y,zhR (ciL y)⟩,⟨_,y,zhR (ciL y)⟩,⟨_,y,zhR ⟨ci y,ci y,ci y,ci y,ci y,ci y,ci y,.nilown y,ci y,ci y,t⟩⟩,w,t⟩,y,k⟩ ?_ ?_
 ·rintro ⟨Q,R⟩ r h
  refine zf<|A ?_
  refine zeh h y (fun H h=>?_) fun H h=>?_
  ·refine ze<|zf<|zi ?_
   obtain ⟨S,T,K,U,v,L,h⟩:=bs3 h
   refine zjQ [(1,_),(2,_),(3,_),(4,_)] [some (10,[(zd a)]),some (10,[[sA [],.lit (.slice none 0 0),sA [],bA false,bA false,iA 0,iA 0,.lit (.slice none 0 0),.lit (.slice none 0 0),.lit (.slice none 0 0)]]),some (10,[[sA e,.isl 1 (map zw i),sA j,bA a.Static,bA a.Abstract,iA a.Locals,iA a.Stack,.msl 3 0 (length v),.lit (.slice none 0 0),.lit (.slice none 0 0)]]),some (4,map zt v)] [8,9,11] [0,1,2,3,4,5,6,7] [(44,_),(43,_),(42,_),(41,_),(40,_),(39,_),(38,_),(37,_)] 3 (zcq (z:=by exact ⟨(fun _ _=>⟨_,y,y,bl 4 ti y ti y (by decide) (by decide) y y y<|⟨(.msl 4 0 1),[],[(45,_)],y,y,y,y,zcq (z:=by exact ⟨nv,(fun _ _=>⟨_,y,y,apM 5 ti y ti y y (by decide) ti y y y y (roX (f:=zt) (z:=[K]) y y) (fun _=>y) y L<|⟨(.msl 5 0 (length v)),[10],[(47,_),(46,_)],y,y,y,y,zcq (z:=by exact ⟨nv,nv,(fun _ _=>⟨_,y,y,sto ti y y y<|⟨.any,[],[],y,y,y,t,zcw (z:=zaf [.old 0,.old 1,.old 2,.old 5])⟩⟩),t⟩)⟩⟩),nw,t⟩)⟩⟩),nw,nw,t⟩)) ?_
   refine A ?_
   obtain rfl:=sm h
   exact ⟨_,y,zo [.old 0,.old 1,.old 2,.old 3]⟩
  ·refine zq ?_
   obtain rfl:=sm h
   exact ⟨y,_,y,zo [.old 0,.old 1,.old 2,.old 3]⟩
 ·rintro c rfl
  refine zn<|zf<|A ?_
  obtain ⟨o,ho,h⟩:=bs h
  refine lpB ho (fun z=>[(1,.mpt 0 0 0),(2,.mpt 1 0 0),(3,.mpt 2 0 0),(5,iA z.2)]) (fun z=>[some (10,[(zd a)]),some (10,[[sA [],.lit (.slice none 0 0),sA [],bA false,bA false,iA 0,iA 0,.lit (.slice none 0 0),.lit (.slice none 0 0),.lit (.slice none 0 0)]]),some (10,[[sA e,.isl 1 (map zw i),sA j,bA a.Static,bA a.Abstract,iA a.Locals,iA a.Stack,.msl 3 0 (length c),.msl 4 0 (length z.1),.lit (.slice none 0 0)]]),some (4,map zt c),some (3,map zK z.1)]) (fun b=>[(1,.mpt 0 0 0),(2,.mpt 1 0 0),(3,.mpt 2 0 0)]) (fun b=>[some (10,[(zd a)]),some (10,[[sA [],.lit (.slice none 0 0),sA [],bA false,bA false,iA 0,iA 0,.lit (.slice none 0 0),.lit (.slice none 0 0),.lit (.slice none 0 0)]]),some (10,[[sA e,.isl 1 (map zw i),sA j,bA a.Static,bA a.Abstract,iA a.Locals,iA a.Stack,.msl 3 0 (length c),.msl 4 0 (length b),.lit (.slice none 0 0)]]),some (4,map zt c),some (3,map zK b)]) (pG Tryz.f115 (fun r=>.agg (zd r))) ⟨[.old 0,.old 1,.old 2,.old 3,.fresh 3],cv y (.mpt y)<|cv y (.mpt y)<|cv y (.mpt y)<|ce y y<|cn,y,⟨⟨_,y,zhR (ciL y)⟩,⟨_,y,zhR (ciL y)⟩,⟨_,y,zhR ⟨ci y,ci y,ci y,ci y,ci y,ci y,ci y,.msl y,.nilown y,ci y,t⟩⟩,⟨_,y,zi8 (fun _=>y)⟩,w,t⟩,y,k⟩ ?_ ?_
  ·rintro ⟨M,d⟩ r h
   refine zf<|A ?_
   refine zeh h y (fun I h=>?_) fun I h=>?_
   ·refine ze<|zf<|zi ?_
    obtain ⟨x,l,p,m,B,C,D,n,h⟩:=bs4 h
    obtain ⟨E,G,q,N,h⟩:=bs2 h
    refine zjQ [(1,.mpt 0 0 0),(2,.mpt 1 0 0),(3,.mpt 2 0 0),(5,iA d)] [some (10,[(zd a)]),some (10,[[sA [],.lit (.slice none 0 0),sA [],bA false,bA false,iA 0,iA 0,.lit (.slice none 0 0),.lit (.slice none 0 0),.lit (.slice none 0 0)]]),some (10,[[sA e,.isl 1 (map zw i),sA j,bA a.Static,bA a.Abstract,iA a.Locals,iA a.Stack,.msl 3 0 (length c),.msl 4 0 (length q),.lit (.slice none 0 0)]]),some (4,map zt c),some (3,map zK q)] [23,24,26] [22,21,20,19,18,17,16,15,14,13,12,11,10,9,8,7,6,5,4,3,2,1,0] [(81,.agg [iA x.At,.isl 1 (map zw B),.isl 1 (map zw E)]),(80,.isl 1 (map zw E)),(79,.isl 1 (map zw D.Stack)),(78,.ipt 3 (map zK a.Maps) (Int.toNat d) 2),(77,.ipt 3 (map zK a.Maps) (Int.toNat d) 0),(76,iA d),(75,.isl 3 (map zK a.Maps)),(74,.mpt 0 0 8),(73,.isl 1 (map zw B)),(72,.isl 1 (map zw p.Locals)),(71,.ipt 3 (map zK a.Maps) (Int.toNat d) 1),(70,.ipt 3 (map zK a.Maps) (Int.toNat d) 0),(69,iA d),(68,.isl 3 (map zK a.Maps)),(67,.mpt 0 0 8),(66,iA x.At),(65,.ipt 3 (map zK a.Maps) (Int.toNat d) 0),(64,.ipt 3 (map zK a.Maps) (Int.toNat d) 0),(63,iA d),(62,.isl 3 (map zK a.Maps)),(61,.mpt 0 0 8),(60,.msl 4 0 (length M)),(59,.mpt 2 0 8)] 3 (zwp ⟨(pb y (bd ti y y y w)),(pb y (pc (zg3 D.Stack 20 G) y y y w)),(pb y (ldI ti y (zaj n).2.2 y w)),(pb y (fa ti y y y w)),(pb y (ixI ti y ti y y y n w)),pe,(pb y (ld ti y y w)),(pb y (fa ti y y y w)),(pb y (pc (zg3 p.Locals 20 C) y y y w)),(pb y (ldI ti y (zaj m).2.2 y w)),(pb y (fa ti y y y w)),(pb y (ixI ti y ti y y y m w)),pe,(pb y (ld ti y y w)),(pb y (fa ti y y y w)),(pb y (ldI ti y (zaj l).2.2 y w)),(pb y (fa ti y y y w)),(pb y (ixI ti y ti y y y l w)),pe,(pb y (ld ti y y w)),(pb y (fa ti y y y w)),(pb y (ld ti y y w)),(pb y (fa ti y y y w)),t⟩ ⟨(fun _ _=>⟨_,y,y,bl 5 ti y ti y (by decide) (by decide) y y y<|⟨(.msl 5 0 1),[],[(82,.msl 5 0 1)],y,y,kz,y,zwp ⟨pe,(pb y (pc (zg3 D.Stack 20 G) y y y w)),(pb y (ldI ti y (zaj n).2.2 y w)),(pb y (fa ti y y y w)),(pb y (ixI ti y ti y y y n w)),pe,(pb y (ld ti y y w)),(pb y (fa ti y y y w)),(pb y (pc (zg3 p.Locals 20 C) y y y w)),(pb y (ldI ti y (zaj m).2.2 y w)),(pb y (fa ti y y y w)),(pb y (ixI ti y ti y y y m w)),pe,(pb y (ld ti y y w)),(pb y (fa ti y y y w)),(pb y (ldI ti y (zaj l).2.2 y w)),(pb y (fa ti y y y w)),(pb y (ixI ti y ti y y y l w)),pe,(pb y (ld ti y y w)),(pb y (fa ti y y y w)),(pb y (ld ti y y w)),(pb y (fa ti y y y w)),t⟩ ⟨nv,(fun _ _=>⟨_,y,y,apM 6 ti y ti y y (by decide) ti y y y y (roX (f:=zK) (z:=[(zS.mk x.At B E)]) y y) (fun _=>y) y N<|⟨(.msl 6 0 (length q)),[25],[(84,.mpt 2 0 8),(83,.msl 6 0 (length q))],y,y,kz,y,zwp ⟨(pb y (fa ti y y y w)),pe,pe,(pb y (ldI ti y (zaj n).2.2 y w)),(pb y (fa ti y y y w)),(pb y (ixI ti y ti y y y n w)),pe,(pb y (ld ti y y w)),(pb y (fa ti y y y w)),(pb y (pc (zg3 p.Locals 20 C) y y y w)),(pb y (ldI ti y (zaj m).2.2 y w)),(pb y (fa ti y y y w)),(pb y (ixI ti y ti y y y m w)),pe,(pb y (ld ti y y w)),(pb y (fa ti y y y w)),(pb y (ldI ti y (zaj l).2.2 y w)),(pb y (fa ti y y y w)),(pb y (ixI ti y ti y y y l w)),pe,(pb y (ld ti y y w)),(pb y (fa ti y y y w)),pe,(pb y (fa ti y y y w)),t⟩ ⟨nv,nv,(fun _ _=>⟨_,y,y,sto ti y y y<|⟨.any,[],[],y,y,kz,t,zFv (zo [.old 0,.old 1,.old 2,.old 3,.old 6])⟩⟩),t⟩⟩⟩),nw,t⟩⟩⟩),nw,nw,t⟩) ?_
    refine A ?_
    obtain rfl:=sm h
    exact ⟨_,y,zo [.old 0,.old 1,.old 2,.old 3,.old 4]⟩
   ·refine zq ?_
    obtain rfl:=sm h
    exact ⟨y,_,y,zo [.old 0,.old 1,.old 2,.old 3,.old 4]⟩
  ·rintro s rfl
   refine zn<|zf<|A ?_
   obtain ⟨o,ho,h⟩:=bs h
   refine lpB ho (fun z=>[(1,.mpt 0 0 0),(2,.mpt 1 0 0),(3,.mpt 2 0 0),(6,iA z.2)]) (fun z=>[some (10,[(zd a)]),some (10,[[sA [],.lit (.slice none 0 0),sA [],bA false,bA false,iA 0,iA 0,.lit (.slice none 0 0),.lit (.slice none 0 0),.lit (.slice none 0 0)]]),some (10,[[sA e,.isl 1 (map zw i),sA j,bA a.Static,bA a.Abstract,iA a.Locals,iA a.Stack,.msl 3 0 (length c),.msl 4 0 (length s),.msl 5 0 (length z.1)]]),some (4,map zt c),some (3,map zK s),some (4,map z6 z.1)]) (fun b=>[(2,.mpt 0 0 0),(3,.mpt 1 0 0)]) (fun b=>[some (10,[[sA [],.lit (.slice none 0 0),sA [],bA false,bA false,iA 0,iA 0,.lit (.slice none 0 0),.lit (.slice none 0 0),.lit (.slice none 0 0)]]),some (10,[[sA e,.isl 1 (map zw i),sA j,bA a.Static,bA a.Abstract,iA a.Locals,iA a.Stack,.msl 2 0 (length c),.msl 3 0 (length s),.msl 4 0 (length b)]]),some (4,map zt c),some (3,map zK s),some (4,map z6 b)]) (pG Tryz.f115 (fun r=>.agg (zd r))) ⟨[.old 0,.old 1,.old 2,.old 3,.old 4,.fresh 4],cv y (.mpt y)<|cv y (.mpt y)<|cv y (.mpt y)<|ce y y<|cn,y,⟨⟨_,y,zhR (ciL y)⟩,⟨_,y,zhR (ciL y)⟩,⟨_,y,zhR ⟨ci y,ci y,ci y,ci y,ci y,ci y,ci y,.msl y,.msl y,.nilown y,t⟩⟩,⟨_,y,zi8 (fun _=>y)⟩,⟨_,y,zi8 (fun _=>y)⟩,w,t⟩,y,k⟩ ?_ ?_
   ·rintro ⟨V,W⟩ r h
    refine zf<|A ?_
    refine zeh h y (fun J h=>?_) fun J h=>?_
    ·refine ze<|zf<|zi ?_
     obtain ⟨F,X,h⟩:=bs h
     refine A ?_
     obtain ⟨O,Y,h⟩:=bs h
     refine A ?_
     obtain ⟨Z,P,h⟩:=bs h
     refine A ?_
     refine u<|apM 8 ti y ti y y (by decide) ti y y y y (roX (f:=z6) (z:=[(zR.mk F.From F.To F.At O)]) y y) (fun _=>y) y P<|A ?_
     refine A ?_
     obtain rfl:=sm h
     exact ⟨_,y,zo [.old 0,.old 1,.old 2,.old 3,.old 4,.old 8]⟩
    ·refine zq ?_
     obtain rfl:=sm h
     exact ⟨y,_,y,zo [.old 1,.old 2,.old 3,.old 4,.old 5]⟩
   ·rintro v43 rfl
    refine zn<|A ?_
    exact RT0⟩
def zvB(c:T0)(d:T0)(e:T1)(a:List zk)(b:List zb):Option (T0×T0×T1×(List zk)×(List zb)):=
  some (c,d,e,a,b)
def zip(c:za)(b:List zb)(a:Int):Option (Sum ((List zb)×Int) (Sum ((List zb)) (T0×T0×T1×(List zk)×(List zb)))):=
  cond ((decide (a<(length c.Methods:Int)))&&(decide (a<10))) ((idx c.Methods a).bind fun d=>(zlA d).bind fun e=>(zh9 152 b [e]).bind fun f=>some (.inl (f,(IntKind.i64.wrap (a+1))))) (some (.inr (.inl b)))
def zok(c:za)(d:T0)(e:T0)(f:T1)(a:List zk):Option (T0×T0×T1×(List zk)×(List zb)):=
  (zl (fun z=>zip c z.1 z.2) ([],0)).bind fun o=>zD o (fun b=>zvB d e f a b) some
def zio(d:za)(c:List zk)(a:Int):Option (Sum ((List zk)×Int) (Sum ((List zk)) (T0×T0×T1×(List zk)×(List zb)))):=
  cond ((decide (a<(length d.Fields:Int)))&&(decide (a<10))) ((idx d.Fields a).bind fun b=>(zci b.Name 10).bind fun e=>(zci b.Type_ 12).bind fun f=>(zh9 40 c [(zk.mk e f b.Static)]).bind fun i=>some (.inl (i,(IntKind.i64.wrap (a+1))))) (some (.inr (.inl c)))
def zqp(a:za):Option (T0×T0×T1×(List zk)×(List zb)):=
  (zci a.Name 10).bind fun c=>(zci a.Super 10).bind fun d=>(zeY a.Impl 6).bind fun e=>(zl (fun z=>zio a z.1 z.2) ([],0)).bind fun o=>zD o (fun b=>zok a c d e b) some
theorem zvC(a:za){r:T0×T0×T1×(List zk)×(List zb)}(h:zqp a=some r):SC Tryz.prog 67 [.agg (zc a)] [] (.agg [sA r.1,sA r.2.1,bA a.Interface,.isl 1 (map zw r.2.2.1),.msl 0 0 (length r.2.2.2.1),.msl 1 0 (length r.2.2.2.2)]) [.many 3 (map zE r.2.2.2.1),.many 10 (map zd r.2.2.2.2)]:=by
 refine ⟨⟨zia (sz:=3) (fun _=>y),zia (sz:=10) (fun _=>y),t⟩,zX Tryz.func67 y kz y ?_⟩
 refine A ?_
 obtain ⟨d,N,e,O,i,P,h⟩:=bs3 h
 refine rdA [(1,_),(2,_),(3,_)] [some (6,[(zc a)]),some (6,[[sA [],sA [],bA false,.lit (.slice none 0 0),.lit (.slice none 0 0),.lit (.slice none 0 0)]]),some (6,[[sA d,sA e,bA a.Interface,.isl 1 (map zw i),.lit (.slice none 0 0),.lit (.slice none 0 0)]])] [12,13] [0,1,2,3,4,5,6,7,8,9,10,11] [(18,_),(17,_),(16,_),(15,_),(14,_),(13,_),(12,_),(11,_),(10,_),(9,_),(8,_),(7,_)] 2 (zcq (z:=by exact ⟨(fun _ _=>⟨_,y,y,al 2 ti y<|⟨(.mpt 2 0 0),[],[(3,_)],y,y,y,y,zcq (z:=by exact ⟨nv,(fun _ _=>⟨_,y,y,sto ti y y y<|⟨.any,[],[],y,y,y,t,zcw (z:=zaf [.old 0,.old 1,.old 2])⟩⟩),t⟩)⟩⟩),nw,t⟩)) ?_
 refine zf<|A ?_
 obtain ⟨o,ho,h⟩:=bs h
 refine lpB ho (fun z=>[(1,.mpt 0 0 0),(2,.mpt 1 0 0),(3,.mpt 2 0 0),(4,iA z.2)]) (fun z=>[some (6,[(zc a)]),some (6,[[sA [],sA [],bA false,.lit (.slice none 0 0),.lit (.slice none 0 0),.lit (.slice none 0 0)]]),some (6,[[sA d,sA e,bA a.Interface,.isl 1 (map zw i),.msl 3 0 (length z.1),.lit (.slice none 0 0)]]),some (3,map zE z.1)]) (fun b=>[(1,.mpt 0 0 0),(2,.mpt 1 0 0),(3,.mpt 2 0 0)]) (fun b=>[some (6,[(zc a)]),some (6,[[sA [],sA [],bA false,.lit (.slice none 0 0),.lit (.slice none 0 0),.lit (.slice none 0 0)]]),some (6,[[sA d,sA e,bA a.Interface,.isl 1 (map zw i),.msl 3 0 (length b),.lit (.slice none 0 0)]]),some (3,map zE b)]) (pF Tryz.f67 (fun r=>.agg [sA r.1,sA r.2.1,bA a.Interface,.isl 1 (map zw r.2.2.1),.msl 0 0 (length r.2.2.2.1),.msl 1 0 (length r.2.2.2.2)]) fun r=>[some (3,map zE r.2.2.2.1),some (10,map zd r.2.2.2.2)]) ⟨[.old 0,.old 1,.old 2,.fresh 3],cv y (.mpt y)<|cv y (.mpt y)<|cv y (.mpt y)<|ce y y<|cn,y,⟨⟨_,y,zhR (ciL y)⟩,⟨_,y,zhR (ciL y)⟩,⟨_,y,zhR ⟨ci y,ci y,ci y,ci y,.nilown y,ci y,t⟩⟩,w,t⟩,y,k⟩ ?_ ?_
 ·rintro ⟨C,D⟩ r h
  refine zf<|A ?_
  refine zeh h y (fun m h=>?_) fun m h=>?_
  ·refine ze<|zf<|zi ?_
   obtain ⟨p,E,h⟩:=bs h
   refine A ?_
   obtain ⟨q,F,s,G,j,v,h⟩:=bs3 h
   refine zjQ [(1,_),(2,_),(3,_),(4,_)] [some (6,[(zc a)]),some (6,[[sA [],sA [],bA false,.lit (.slice none 0 0),.lit (.slice none 0 0),.lit (.slice none 0 0)]]),some (6,[[sA d,sA e,bA a.Interface,.isl 1 (map zw i),.msl 3 0 (length j),.lit (.slice none 0 0)]]),some (3,map zE j)] [11,12,14] [0,1,2,3,4,5,6,7,8,9,10] [(45,_),(44,_),(43,_),(42,_),(41,_),(40,_),(39,_),(38,_),(37,_),(36,_),(35,_)] 3 (zcq (z:=by exact ⟨(fun _ _=>⟨_,y,y,bl 5 ti y ti y (by decide) (by decide) y y y<|⟨(.msl 5 0 1),[],[(46,_)],y,y,y,y,zcq (z:=by exact ⟨nv,(fun _ _=>⟨_,y,y,apM 6 ti y ti y y (by decide) ti y y y y (roX (f:=zE) (z:=[(zk.mk q s p.Static)]) y y) (fun _=>y) y v<|⟨(.msl 6 0 (length j)),[13],[(48,_),(47,_)],y,y,y,y,zcq (z:=by exact ⟨nv,nv,(fun _ _=>⟨_,y,y,sto ti y y y<|⟨.any,[],[],y,y,y,t,zcw (z:=zaf [.old 0,.old 1,.old 2,.old 6])⟩⟩),t⟩)⟩⟩),nw,t⟩)⟩⟩),nw,nw,t⟩)) ?_
   refine A ?_
   obtain rfl:=sm h
   exact ⟨_,y,zo [.old 0,.old 1,.old 2,.old 3]⟩
  ·refine zq ?_
   obtain rfl:=sm h
   exact ⟨y,_,y,zo [.old 0,.old 1,.old 2,.old 3]⟩
 ·rintro c rfl
  refine zn<|zf<|A ?_
  obtain ⟨o,ho,h⟩:=bs h
  refine lpB ho (fun z=>[(1,.mpt 0 0 0),(2,.mpt 1 0 0),(3,.mpt 2 0 0),(6,iA z.2)]) (fun z=>[some (6,[(zc a)]),some (6,[[sA [],sA [],bA false,.lit (.slice none 0 0),.lit (.slice none 0 0),.lit (.slice none 0 0)]]),some (6,[[sA d,sA e,bA a.Interface,.isl 1 (map zw i),.msl 3 0 (length c),.msl 4 0 (length z.1)]]),some (3,map zE c),some (10,map zd z.1)]) (fun b=>[(2,.mpt 0 0 0),(3,.mpt 1 0 0)]) (fun b=>[some (6,[[sA [],sA [],bA false,.lit (.slice none 0 0),.lit (.slice none 0 0),.lit (.slice none 0 0)]]),some (6,[[sA d,sA e,bA a.Interface,.isl 1 (map zw i),.msl 2 0 (length c),.msl 3 0 (length b)]]),some (3,map zE c),some (10,map zd b)]) (pF Tryz.f67 (fun r=>.agg [sA r.1,sA r.2.1,bA a.Interface,.isl 1 (map zw r.2.2.1),.msl 0 0 (length r.2.2.2.1),.msl 1 0 (length r.2.2.2.2)]) fun r=>[some (3,map zE r.2.2.2.1),some (10,map zd r.2.2.2.2)]) ⟨[.old 0,.old 1,.old 2,.old 3,.fresh 10],cv y (.mpt y)<|cv y (.mpt y)<|cv y (.mpt y)<|ce y y<|cn,y,⟨⟨_,y,zhR (ciL y)⟩,⟨_,y,zhR (ciL y)⟩,⟨_,y,zhR ⟨ci y,ci y,ci y,ci y,.msl y,.nilown y,t⟩⟩,⟨_,y,zi8 (fun _=>y)⟩,w,t⟩,y,k⟩ ?_ ?_
  ·rintro ⟨H,I⟩ r h
   refine zf<|A ?_
   refine zeh h y (fun n h=>?_) fun n h=>?_
   ·refine ze<|zf<|zi ?_
    obtain ⟨J,K,x,L,l,B,h⟩:=bs3 h
    refine zjQ [(1,_),(2,_),(3,_),(6,_)] [some (6,[(zc a)]),some (6,[[sA [],sA [],bA false,.lit (.slice none 0 0),.lit (.slice none 0 0),.lit (.slice none 0 0)]]),some (6,[[sA d,sA e,bA a.Interface,.isl 1 (map zw i),.msl 3 0 (length c),.msl 4 0 (length l)]]),some (3,map zE c),some (10,map zd l)] [8,9,11] [0,1,2,3,4,5,6,7] [(67,_),(66,_),(65,_),(64,_),(63,_),(62,_),(61,_),(60,_)] 3 (zcq (z:=by exact ⟨(fun _ _=>⟨_,y,y,bl 5 ti y ti y (by decide) (by decide) y y y<|⟨(.msl 5 0 1),[],[(68,_)],y,y,y,y,zcq (z:=by exact ⟨nv,(fun _ _=>⟨_,y,y,apM 6 ti y ti y y (by decide) ti y y y y (roX (f:=zd) (z:=[x]) y y) (fun _=>y) y B<|⟨(.msl 6 0 (length l)),[10],[(70,_),(69,_)],y,y,y,y,zcq (z:=by exact ⟨nv,nv,(fun _ _=>⟨_,y,y,sto ti y y y<|⟨.any,[],[],y,y,y,t,zcw (z:=zaf [.old 0,.old 1,.old 2,.old 3,.old 6])⟩⟩),t⟩)⟩⟩),nw,t⟩)⟩⟩),nw,nw,t⟩)) ?_
    refine A ?_
    obtain rfl:=sm h
    exact ⟨_,y,zo [.old 0,.old 1,.old 2,.old 3,.old 4]⟩
   ·refine zq ?_
    obtain rfl:=sm h
    exact ⟨y,_,y,zo [.old 1,.old 2,.old 3,.old 4]⟩
  ·rintro M rfl
   refine zn<|A ?_
   refine zy ?_
   obtain rfl:=sm h
   exact ⟨_,y,zAL [.old 2,.old 3]⟩
def zvy(a:List za):Option ((List za)):=
  some a
def zin(c:List za)(d:List za)(b:Int):Option (Sum ((List za)×Int) (Sum ((List za)) ((List za)))):=
  cond ((decide (b<(length c:Int)))&&(decide (b<18))) ((idx c b).bind fun e=>(zqp e).bind fun a=>(zh9 112 d [(za.mk a.1 a.2.1 e.Interface a.2.2.1 a.2.2.2.1 a.2.2.2.2)]).bind fun f=>some (.inl (f,(IntKind.i64.wrap (b+1))))) (some (.inr (.inl d)))
def zqo(a:List za):Option ((List za)):=
  (zl (fun z=>zin a z.1 z.2) ([],0)).bind fun o=>zD o (fun b=>zvy b) some
theorem zvz(c:List za){r:(List za)}(h:zqo c=some r):SC Tryz.prog 27 [.isl 6 (map zc c)] [] (.msl 0 0 (length r)) [.many 6 (map zc r)]:=by
 refine ⟨⟨zia (sz:=6) (fun _=>y),t⟩,zX Tryz.func27 y kz y ?_⟩
 refine A ?_
 refine A ?_
 refine zf<|A ?_
 obtain ⟨o,ho,h⟩:=bs h
 refine lpB ho (fun z=>[(0,.isl 6 (map zc c)),(3,.msl 0 0 (length z.1)),(4,iA z.2)]) (fun z=>[some (6,map zc z.1)]) (fun b=>[(3,.msl 0 0 (length b))]) (fun b=>[some (6,map zc b)]) (pF Tryz.f27 (fun r=>.msl 0 0 (length r)) fun r=>[some (6,map zc r)]) ⟨[.fresh 6],ce y y<|cv y (.nilown y)<|ce y y<|cn,y,⟨w,t⟩,y,k⟩ ?_ ?_
 ·rintro ⟨d,f⟩ r h
  refine zf<|A ?_
  refine zeh h y (fun i h=>?_) fun i h=>?_
  ·refine ze<|zf<|zi ?_
   obtain ⟨e,p,a,l,m,j,h⟩:=bs3 h
   refine A ?_
   refine u<|sx [] (zvC e l)<|zv (env0:=[(0,.isl 6 (map zc c)),(4,iA f),(15,.msl 0 0 (length d)),(20,.agg [sA a.1,sA a.2.1,bA e.Interface,.isl 1 (map zw a.2.2.1),.msl 1 0 (length a.2.2.2.1),.msl 2 0 (length a.2.2.2.2)])]) (st0:=[some (6,map zc d),some (3,map zE a.2.2.2.1),some (10,map zd a.2.2.2.2)]) (zo [.old 0,.old 1,.old 2])<|A ?_
   refine zv (env0:=[(0,.isl 6 (map zc c)),(4,iA f),(15,.msl 0 0 (length d)),(21,.msl 1 0 (length [(za.mk a.1 a.2.1 e.Interface a.2.2.1 a.2.2.2.1 a.2.2.2.2)]))]) (st0:=[some (6,map zc d),some (6,map zc [(za.mk a.1 a.2.1 e.Interface a.2.2.1 a.2.2.2.1 a.2.2.2.2)])]) (zo [.old 0,.old 3])<|u<|apM 2 ti y ti y y (by decide) ti y y y y (roM y) (fun _=>y) y j<|A ?_
   refine A ?_
   obtain rfl:=sm h
   exact ⟨_,y,zo [.old 2]⟩
  ·refine zq ?_
   obtain rfl:=sm h
   exact ⟨y,_,y,zo [.old 0]⟩
 ·rintro n rfl
  refine zn<|A ?_
  exact RT1
def zd1:T1:=
  ([[79,98,106,101,99,116],[84,104,114,111,119,110],[78,117,108,108,69,114,114],[82,97,110,103,101,69,114,114],[77,97,116,104,69,114,114],[67,97,115,116,69,114,114],[83,105,122,101,69,114,114],[83,116,111,114,101,69,114,114],[73,110,105,116,69,114,114],[67,108,97,115,115,69,114,114]])
theorem ztz{r:T1}(h:zd1=r):SC Tryz.prog 116 [] [] (.msl 0 0 (length r)) [.many 1 (map zw r)]:=by
 refine ⟨⟨zia (sz:=1) (fun _=>y),t⟩,zX Tryz.func116 y kz y ?_⟩
 unfold zd1 at h
 refine A ?_
 refine A ?_
 refine zy ?_
 obtain rfl:=h
 exact ⟨_,y,zad [.old 0]⟩
def zb7:T1:=
  ([[79,98,106,101,99,116],[84,104,114,111,119,110],[78,117,108,108,69,114,114],[82,97,110,103,101,69,114,114],[77,97,116,104,69,114,114],[67,97,115,116,69,114,114],[83,105,122,101,69,114,114],[83,116,111,114,101,69,114,114],[73,110,105,116,69,114,114],[67,108,97,115,115,69,114,114]])
theorem zsW{r:T1}(h:zb7=r):SC Tryz.prog 62 [] [] (.msl 0 0 (length r)) [.many 1 (map zw r)]:=by
 refine ⟨⟨zia (sz:=1) (fun _=>y),t⟩,zX Tryz.func62 y kz y ?_⟩
 unfold zb7 at h
 refine A ?_
 refine A ?_
 refine zy ?_
 obtain rfl:=h
 exact ⟨_,y,zad [.old 0]⟩
def zsY(a:List za):Option ((List za)):=
  some a
def zlv(c:List za)(d:Int)(e:T0)(a:T0):Option (Sum ((List za)×Int) (Sum ((List za)) ((List za)))):=
  (zh9 112 c ([(za.mk e a false [] [] [])])).bind fun b=>some (.inl (b,(IntKind.i64.wrap (d+1))))
def zsZ(b:List za)(a:Int):Option (Sum ((List za)×Int) (Sum ((List za)) ((List za)))):=
  cond (decide (a<((length (zb7)):Int))) ((idx (zb7) a).bind fun c=>cond (decide (a<2)) ((idx ([[],[79,98,106,101,99,116]]) a).bind fun d=>zlv b a c d) (zlv b a c [84,104,114,111,119,110])) (some (.inr (.inl b)))
def zpw:Option ((List za)):=
  (zl (fun z=>zsZ z.1 z.2) ([],0)).bind fun o=>zD o (fun b=>zsY b) some
theorem zs0{r:(List za)}(h:zpw=some r):SC Tryz.prog 54 [] [] (.msl 0 0 (length r)) [.many 6 (map zc r)]:=by
 refine ⟨⟨zia (sz:=6) (fun _=>y),t⟩,zX Tryz.func54 y kz y ?_⟩
 refine A ?_
 refine A ?_
 refine zf ?_
 refine rg y<|u<|sx [] (zsW y)<|zv (env0:=[(1,.lit (.slice none 0 0)),(5,.msl 0 0 (length (zb7)))]) (st0:=[some (1,map zw (zb7))]) (zo [.old 0])<|A ?_
 obtain ⟨o,ho,h⟩:=bs h
 refine lpB ho (fun z=>[(1,.msl 0 0 (length z.1)),(5,.msl 1 0 (length (zb7))),(6,iA ((length (zb7)):Int)),(7,iA z.2)]) (fun z=>[some (6,map zc z.1),some (1,map zw (zb7))]) (fun b=>[(1,.msl 0 0 (length b))]) (fun b=>[some (6,map zc b)]) (pF Tryz.f54 (fun r=>.msl 0 0 (length r)) fun r=>[some (6,map zc r)]) ⟨[.fresh 6,.old 0],cv y (.nilown y)<|cv y (.msl y)<|ce y y<|ce y y<|cn,y,⟨w,⟨_,y,zi8 (fun _=>y)⟩,t⟩,y,k⟩ ?_ ?_
 ·rintro ⟨a,c⟩ r h
  refine A ?_
  refine zf ?_
  refine zeh h y (fun f h=>?_) fun f h=>?_
  ·refine ze<|zf<|zi ?_
   obtain ⟨d,q,h⟩:=bs h
   refine A ?_
   refine A ?_
   refine zal (X:=T0) (fun z=>[(1,.msl 0 0 (length a)),(4,.mpt 1 0 0),(5,.msl 2 0 (length (zb7))),(6,iA ((length (zb7)):Int)),(7,iA c)]) (fun z=>[some (6,map zc a),some (6,[[sA d,sA z,bA false,.lit (.slice none 0 0),.lit (.slice none 0 0),.lit (.slice none 0 0)]]),some (1,map zw (zb7))]) (fun z=>zlv a c d z=some r) ?_ ?_
   ·refine A ?_
    refine zeh h y (fun i h=>?_) fun i h=>?_
    ·obtain ⟨l,j,h⟩:=bs h
     exact rl y<|u<|bl 3 ti y ti y (by decide) (by decide) y y y<|u<|mv y<|zv (env0:=[(1,.msl 0 0 (length a)),(4,.mpt 1 0 0),(5,.msl 2 0 (length (zb7))),(6,iA ((length (zb7)):Int)),(7,iA c),(16,.msl 3 0 (length ([[],[79,98,106,101,99,116]]))),(17,iA c)]) (st0:=[some (6,map zc a),some (6,[[sA d,sA [84,104,114,111,119,110],bA false,.lit (.slice none 0 0),.lit (.slice none 0 0),.lit (.slice none 0 0)]]),some (1,map zw (zb7)),some (1,map zw ([[],[79,98,106,101,99,116]]))]) (zo [.old 0,.old 2,.old 1,.old 3])<|u<|ixM ti y ti y y y y j<|u<|ldM ti y y (zaj j).2.2 y<|u<|fa ti y y y<|u<|sto ti y y y<|zx (⟨l,h,zo [.old 0,.old 1,.old 2]⟩)
    ·refine ze ?_
     exact ⟨[84,104,114,111,119,110],h,zo [.old 0,.old 2,.old 1]⟩
   ·rintro e h
    obtain ⟨n,m,h⟩:=bs h
    refine A ?_
    refine zv (env0:=[(5,.msl 0 0 (length (zb7))),(6,iA ((length (zb7)):Int)),(7,iA c),(21,.msl 1 0 (length a)),(23,.msl 2 0 (length ([(za.mk d e false [] [] [])])))]) (st0:=[some (1,map zw (zb7)),some (6,map zc a),some (6,map zc ([(za.mk d e false [] [] [])]))]) (zo [.old 2,.old 0,.old 3])<|u<|apM 3 ti y ti y y (by decide) ti y y y y (roM y) (fun _=>y) y m<|A ?_
    refine A ?_
    obtain rfl:=sm h
    exact ⟨_,y,zo [.old 3,.old 0]⟩
  ·refine zq ?_
   obtain rfl:=sm h
   exact ⟨y,_,y,zo [.old 0]⟩
 ·rintro p rfl
  refine zn<|A ?_
  exact RT1
def zjz(a:za):Option (T1):=
  (zh9 16 [a.Super] a.Impl).bind fun b=>some b
theorem zlu(a:za){r:T1}(h:zjz a=some r):SC Tryz.prog 57 [.agg (zc a)] [] (.msl 0 0 (length r)) [.many 1 (map zw r)]:=by
 refine ⟨⟨zia (sz:=1) (fun _=>y),t⟩,zX Tryz.func57 y kz y ?_⟩
 refine A ?_
 obtain ⟨c,b,h⟩:=bs h
 refine A ?_
 refine u<|apM (l:=[a.Super]) (f:=zw) 2 ti y ti y y (by decide) ti y y y y roI (fun _=>y) y b<|A ?_
 refine zy ?_
 obtain rfl:=sm h
 exact ⟨_,y,zAL [.old 2]⟩
def zbm(c:List za)(a:T2)(b:T0):Bool:=
  (Option.isSome (zeI b a))
theorem zl3(b:List za)(a:T2)(c:T0){r:Bool}(h:zbm b a c=r):zam Tryz.prog 59 [.ipt 2 [[.isl 6 (map zc b),.imp (map (rKV (fun x=>iA x)) a)]] 0 0,sA c] (bA r):=by
 refine zh Tryz.func59 y kz y y ?_
 unfold zbm at h
 refine A ?_
 refine zf<|A ?_
 refine znf y (fun hx=>by cases hx) (fun _=>?_)
 refine ze<|A ?_
 refine u<|zFU (g:=(fun x=>iA x)) (z:=0) (l:=a) y ti y y y y<|A ?_
 refine A ?_
 refine zy ?_
 obtain rfl:=h
 exact ⟨_,y,zad []⟩
instance (a:List za)(b:T2)(c:T0):PF Tryz.prog 59 [.ipt 2 [[.isl 6 (map zc a),.imp (map (rKV (fun x=>iA x)) b)]] 0 0,sA c] (some (zbm a b c)) bA:=.of fun _=>zl3 a b c
def znr(a:T0)(b:List za)(c:T2):Bool:=
  (!(zbm b c a))
instance (a:T0)(b:List za)(c:T2):PF Tryz.prog 58 [sA a,.ipt 1 [[.ipt 2 [[.isl 6 (map zc b),.imp (map (rKV (fun x=>iA x)) c)]] 0 0]] 0 0] (some (znr a b c)) bA:=.of fun r h=>by
 refine zh Tryz.func58 y kz y y ?_
 unfold znr at h
 refine A ?_
 refine A ?_
 refine zy ?_
 obtain rfl:=h
 exact ⟨_,y,zad []⟩
def zew:Option (Int):=
  some (-1)
def zbf(b:T1)(c:List za)(d:T2)(a:Int):Option (Sum (Int) (Sum (Unit) (Int))):=
  cond (decide (a<(length b:Int))) ((idx b a).bind fun e=>cond (znr e c d) (some (.inr (.inr a))) (some (.inl (IntKind.i64.wrap (a+1))))) (some (.inr (.inl ())))
def zcL(a:T1)(c:List za)(d:T2):Option (Int):=
  (zl (fun z=>zbf a c d z) 0).bind fun o=>zD o (fun b=>zew) some
instance (a:T1)(c:List za)(d:T2):PF Tryz.prog 110 [.isl 1 (map zw a),.fn (.func 58) [] [.ipt 1 [[.ipt 2 [[.isl 6 (map zc c),.imp (map (rKV (fun x=>iA x)) d)]] 0 0]] 0 0]] (zcL a c d) iA:=⟨fun r h=>by
 refine zh Tryz.func110 y kz y y<|A ?_
 refine zf<|A ?_
 obtain ⟨o,ho,h⟩:=bs h
 refine lpB ho (fun z=>[(0,.isl 1 (map zw a)),(1,.fn (.func 58) [] [.ipt 1 [[.ipt 2 [[.isl 6 (map zc c),.imp (map (rKV (fun x=>iA x)) d)]] 0 0]] 0 0]),(7,iA (length a:Int)),(8,iA z)]) (fun z=>[]) (fun b=>[]) (fun b=>[]) (pG Tryz.f110 iA) (zaf []) ?_ ?_
 ·rintro i r h
  refine A ?_
  refine zf ?_
  refine zeh h y (fun e h=>?_) fun e h=>?_
  ·refine ze<|zf<|zi<|A ?_
   obtain ⟨j,l,h⟩:=bs h
   refine A ?_
   refine zeh h y (fun f h=>?_) fun f h=>?_
   ·refine A ?_
    refine zy ?_
    obtain rfl:=sm h
    exact ⟨_,y,_,y,zad []⟩
   ·refine ze<|A ?_
    obtain rfl:=sm h
    exact ⟨_,y,zo []⟩
  ·refine zq ?_
   obtain rfl:=sm h
   exact ⟨y,_,y,zo []⟩
 ·rintro ⟨⟩ rfl
  refine zn<|A ?_
  exact RT0⟩
def zay(a:T1)(b:List za)(c:T2):Option (Bool):=
  (zcL a b c).bind fun d=>some (decide (0≤d))
theorem zdR(a:T1)(b:List za)(c:T2){r:Bool}(h:zay a b c=some r):zam Tryz.prog 56 [.isl 1 (map zw a),.fn (.func 58) [] [.ipt 1 [[.ipt 2 [[.isl 6 (map zc b),.imp (map (rKV (fun x=>iA x)) c)]] 0 0]] 0 0]] (bA r):=by
 refine zh Tryz.func56 y kz y y<|A ?_
 obtain ⟨d,e,h⟩:=bs h
 refine A ?_
 exact RT0
instance (a:T1)(b:List za)(c:T2):PF Tryz.prog 56 [.isl 1 (map zw a),.fn (.func 58) [] [.ipt 1 [[.ipt 2 [[.isl 6 (map zc b),.imp (map (rKV (fun x=>iA x)) c)]] 0 0]] 0 0]] (zay a b c) bA:=⟨fun _=>zdR a b c⟩
def zdC(a:List za)(b:T2)(c:T0):Option (za):=
  (idx a (Option.getD (zeI c b) 0)).bind fun d=>some d
instance (b:List za)(a:T2)(c:T0):PF Tryz.prog 111 [.ipt 2 [[.isl 6 (map zc b),.imp (map (rKV (fun x=>iA x)) a)]] 0 0,sA c] (zdC b a c) (fun r=>(.agg (zc r))):=⟨fun r h=>by
 refine zh Tryz.func111 y kz y y<|A ?_
 obtain ⟨d,e,h⟩:=bs h
 refine rdA [(4,_)] [some (6,[(zc d)])] [12] [0,1,2,3,4,5,6,7,8,9,10,11] [(16,_),(15,_),(14,_),(13,_),(12,_),(11,_),(10,_),(9,_),(8,_),(7,_),(6,_),(5,_)] 1 (zcq ⟨peC,peC,peC,peC,peC,peC,peC,peC,peC,(by exact pb y (zF6 (g:=(fun x=>iA x)) (z:=0) (l:=a) y ti y y y y<|w)),peC,peC,t⟩ (by exact ⟨(fun _ _=>⟨_,y,y,sto ti y y y<|⟨.any,[],[],y,y,y,t,zcw (z:=zaf [.old 0])⟩⟩),t⟩)) ?_
 exact RT0⟩
def zi6(a:T0)(b:List za)(c:T2):Option (Bool):=
  (zdC b c a).bind fun d=>some (!d.Interface)
instance (a:T0)(b:List za)(c:T2):PF Tryz.prog 112 [sA a,.ipt 1 [[.ipt 2 [[.isl 6 (map zc b),.imp (map (rKV (fun x=>iA x)) c)]] 0 0]] 0 0] (zi6 a b c) bA:=⟨fun r h=>by
 refine zh Tryz.func112 y kz y y<|A ?_
 obtain ⟨d,e,h⟩:=bs h
 refine A ?_
 exact RT0⟩
def zex:Option (Int):=
  some (-1)
def zbg(b:T1)(c:List za)(d:T2)(a:Int):Option (Sum (Int) (Sum (Unit) (Int))):=
  cond (decide (a<(length b:Int))) ((idx b a).bind fun e=>(zi6 e c d).bind fun f=>cond f (some (.inr (.inr a))) (some (.inl (IntKind.i64.wrap (a+1))))) (some (.inr (.inl ())))
def zcM(a:T1)(c:List za)(d:T2):Option (Int):=
  (zl (fun z=>zbg a c d z) 0).bind fun o=>zD o (fun b=>zex) some
instance (a:T1)(c:List za)(d:T2):PF Tryz.prog 110 [.isl 1 (map zw a),.fn (.func 112) [] [.ipt 1 [[.ipt 2 [[.isl 6 (map zc c),.imp (map (rKV (fun x=>iA x)) d)]] 0 0]] 0 0]] (zcM a c d) iA:=⟨fun r h=>by
 refine zh Tryz.func110 y kz y y<|A ?_
 refine zf<|A ?_
 obtain ⟨o,ho,h⟩:=bs h
 refine lpB ho (fun z=>[(0,.isl 1 (map zw a)),(1,.fn (.func 112) [] [.ipt 1 [[.ipt 2 [[.isl 6 (map zc c),.imp (map (rKV (fun x=>iA x)) d)]] 0 0]] 0 0]),(7,iA (length a:Int)),(8,iA z)]) (fun z=>[]) (fun b=>[]) (fun b=>[]) (pG Tryz.f110 iA) (zaf []) ?_ ?_
 ·rintro i r h
  refine A ?_
  refine zf ?_
  refine zeh h y (fun e h=>?_) fun e h=>?_
  ·refine ze<|zf<|zi<|A ?_
   obtain ⟨j,l,m,n,h⟩:=bs2 h
   refine A ?_
   refine zeh h y (fun f h=>?_) fun f h=>?_
   ·refine A ?_
    refine zy ?_
    obtain rfl:=sm h
    exact ⟨_,y,_,y,zad []⟩
   ·refine ze<|A ?_
    obtain rfl:=sm h
    exact ⟨_,y,zo []⟩
  ·refine zq ?_
   obtain rfl:=sm h
   exact ⟨y,_,y,zo []⟩
 ·rintro ⟨⟩ rfl
  refine zn<|A ?_
  exact RT0⟩
def zaz(a:T1)(b:List za)(c:T2):Option (Bool):=
  (zcM a b c).bind fun d=>some (decide (0≤d))
theorem zdS(a:T1)(b:List za)(c:T2){r:Bool}(h:zaz a b c=some r):zam Tryz.prog 56 [.isl 1 (map zw a),.fn (.func 112) [] [.ipt 1 [[.ipt 2 [[.isl 6 (map zc b),.imp (map (rKV (fun x=>iA x)) c)]] 0 0]] 0 0]] (bA r):=by
 refine zh Tryz.func56 y kz y y<|A ?_
 obtain ⟨d,e,h⟩:=bs h
 refine A ?_
 exact RT0
instance (a:T1)(b:List za)(c:T2):PF Tryz.prog 56 [.isl 1 (map zw a),.fn (.func 112) [] [.ipt 1 [[.ipt 2 [[.isl 6 (map zc b),.imp (map (rKV (fun x=>iA x)) c)]] 0 0]] 0 0]] (zaz a b c) bA:=⟨fun _=>zdS a b c⟩
def zoQ:Option (Bool):=
  some true
def zkR(a:Int)(b:T1):Option (Sum (T1×Int) (Sum (Unit) (Bool))):=
  some (.inl (b,(IntKind.i64.wrap (a+1))))
def zgZ(a:Int)(b:T1):Option (Sum (T1×Int) (Sum (T1) (Bool))):=
  some (.inl (b,(IntKind.i64.wrap (a+1))))
def zeB(d:T1)(a:T1)(b:Int):Option (Sum (T1×Int) (Sum (T1) (Bool))):=
  cond (decide (b<((length d):Int))) ((idx d b).bind fun c=>(cond (!(c == [])) ((zP a c).bind fun e=>some (!e)) (some false)).bind fun f=>cond f ((zh9 16 a [c]).bind fun i=>zgZ b i) (zgZ b a)) (some (.inr (.inl a)))
def zda(j:List za)(l:T2)(m:za)(a:T1)(c:Int):Option (Sum (T1×Int) (Sum (Unit) (Bool))):=
  cond (decide (c<((length a):Int))) ((idx a c).bind fun d=>cond (d == m.Name) (some (.inr (.inr false))) ((idx a c).bind fun e=>(zdC j l e).bind fun f=>(zjz f).bind fun i=>(zl (fun z=>zeB i z.1 z.2) (a,0)).bind fun o=>zD o (fun b=>zkR c b) (fun r=>some (.inr (.inr r))))) (some (.inr (.inl ())))
def zgr(c:List za)(d:T2)(a:za):Option (Bool):=
  (zdC c d a.Super).bind fun e=>(cond e.Interface (some true) ((zaz a.Impl c d).bind fun f=>some f)).bind fun i=>cond i (some false) ((zjz a).bind fun j=>(zl (fun z=>zda c d a z.1 z.2) (j,0)).bind fun o=>zD o (fun b=>zoQ) some)
theorem zkS(e:List za)(i:T2)(c:za){r:Bool}(h:zgr e i c=some r):zam Tryz.prog 60 [.ipt 2 [[.isl 6 (map zc e),.imp (map (rKV (fun x=>iA x)) i)]] 0 0,.agg (zc c)] (bA r):=by
 refine zh Tryz.func60 y kz y y<|A ?_
 refine zf ?_
 obtain ⟨v4,q1,O,n,h⟩:=bs2 h
 refine A ?_
 refine ztr (x:=O) (j:=5) 4 y y y y y gpn (fun m=>by replace n:=bF m n;obtain ⟨v5,P,n⟩:=bs n;obtain rfl:=sm n;exact g y m<|fa ti y y y<|g y m<|ld ti y y<|g y m<|mf y y<|g y m<|pcs (zdS c.Impl e i P) y y (.cons (si y) (.cons (zfZ t ⟨(zbk y ⟨(si y),t⟩),t⟩) .nil)) zbI<|zx (eg [15,16,17,18] 4 y y y y)) (fun hb=>(sm (bT hb n)).symm)<|zx ?_
 refine zeh h y (fun G h=>?_) fun G h=>?_
 ·refine A ?_
  exact RT0
 ·refine ze ?_
  obtain ⟨H,Q,h⟩:=bs h
  refine A ?_
  refine u<|sx [] (zlu c Q)<|zv (env0:=[(2,.mpt 0 0 0),(3,.mpt 1 0 0),(21,.msl 2 0 (length H))]) (st0:=[some (1,[[.ipt 2 [[.isl 6 (map zc e),.imp (map (rKV (fun x=>iA x)) i)]] 0 0]]),some (6,[(zc c)]),some (1,map zw H)]) (zo [.old 0,.old 1,.old 2])<|A ?_
  refine zf<|A ?_
  obtain ⟨o,ho,h⟩:=bs h
  refine lpB ho (fun z=>[(2,.mpt 0 0 0),(3,.mpt 1 0 0),(5,.msl 2 0 (length z.1)),(6,iA z.2)]) (fun z=>[some (1,[[.ipt 2 [[.isl 6 (map zc e),.imp (map (rKV (fun x=>iA x)) i)]] 0 0]]),some (6,[(zc c)]),some (1,map zw z.1)]) (fun b=>[]) (fun b=>[]) (pG Tryz.f60 bA) (zaf [.old 0,.old 1,.old 2]) ?_ ?_
  ·rintro ⟨q,p⟩ r h
   refine zf<|A ?_
   refine zeh h y (fun C h=>?_) fun C h=>?_
   ·refine ze<|zf<|zi<|zf ?_
    obtain ⟨R,S,h⟩:=bs h
    refine rdA [(2,_),(3,_),(5,_),(6,_),(34,_)] [some (1,[[.ipt 2 [[.isl 6 (map zc e),.imp (map (rKV (fun x=>iA x)) i)]] 0 0]]),some (6,[(zc c)]),some (1,map zw q)] [] [0,1,2,3,4,5,6] [(34,_),(33,_),(32,_),(31,_),(30,_),(29,_),(28,_)] 0 (zcw (z:=zaf [.old 0,.old 1,.old 2])) ?_
    refine zeh h y (fun D h=>?_) fun D h=>?_
    ·refine A ?_
     refine zy ?_
     obtain rfl:=sm h
     exact ⟨_,y,_,y,zad []⟩
    ·refine ze ?_
     obtain ⟨T,U,I,V,a,J,h⟩:=bs3 h
     refine rdA [(2,_),(3,_),(5,_),(6,_),(41,_),(42,_),(43,_)] [some (1,[[.ipt 2 [[.isl 6 (map zc e),.imp (map (rKV (fun x=>iA x)) i)]] 0 0]]),some (6,[(zc c)]),some (1,map zw q),some (1,map zw a)] [6] [0,1,2,3,4,5,8] [(43,_),(40,_),(39,_),(38,_),(37,_),(36,_),(35,_)] 1 (zcq (z:=by exact ⟨(fun _ _=>⟨_,y,y,sx [] (zlu I J)<|⟨(.msl 3 0 (length a)),[7],[(42,_),(41,_)],y,y,y,y,zcw (z:=zaf [.old 0,.old 1,.old 2,.old 3])⟩⟩),t⟩)) ?_
     obtain ⟨o,ho,h⟩:=bs h
     refine lpS ho (fun z=>[(2,.mpt 0 0 0),(3,.mpt 1 0 0),(5,.msl 2 0 (length z.1)),(6,iA p),(41,.msl 3 0 (length a)),(42,iA ((length a):Int)),(43,iA z.2)]) (fun z=>[some (1,[[.ipt 2 [[.isl 6 (map zc e),.imp (map (rKV (fun x=>iA x)) i)]] 0 0]]),some (6,[(zc c)]),some (1,map zw z.1),some (1,map zw a)]) (fun b=>[(2,.mpt 0 0 0),(3,.mpt 1 0 0),(5,.msl 2 0 (length b)),(6,iA p)]) (fun b=>[some (1,[[.ipt 2 [[.isl 6 (map zc e),.imp (map (rKV (fun x=>iA x)) i)]] 0 0]]),some (6,[(zc c)]),some (1,map zw b)]) (pG Tryz.f60 bA) (zaf [.old 0,.old 1,.old 2,.old 3]) ?_ ?_ ?_
     ·rintro ⟨s,v⟩ r h
      refine A ?_
      refine zf ?_
      refine zeh h y (fun E h=>?_) fun E h=>?_
      ·refine ze ?_
       refine zal (X:=T1) (fun z=>[(2,.mpt 0 0 0),(3,.mpt 1 0 0),(5,.msl 2 0 (length z)),(6,iA p),(41,.msl 3 0 (length a)),(42,iA ((length a):Int)),(43,iA v)]) (fun z=>[some (1,[[.ipt 2 [[.isl 6 (map zc e),.imp (map (rKV (fun x=>iA x)) i)]] 0 0]]),some (6,[(zc c)]),some (1,map zw z),some (1,map zw a)]) (fun z=>zgZ v z=some r) ?_ ?_
       ·refine zi ?_
        obtain ⟨B,W,h⟩:=bs h
        refine A ?_
        obtain ⟨K,l,h⟩:=bs h
        refine A ?_
        refine ziU (x:=K) (j:=2) 4 y y y y y gpn (fun d=>by replace l:=bT d l;obtain ⟨Y,L,l⟩:=bs l;obtain rfl:=sm l;exact g y d<|mv y<|g y d<|mv y<|g y d<|pcs (zaw s B L) y y (.cons (zhE y (fun _=>y)) (.cons (si y) .nil)) zbI<|g y d<|nt y<|zx (eg [50,51,52,53] 4 y y y y)) (fun hb=>(sm (bF hb l)).symm)<|zx ?_
        refine zeh h y (fun F h=>?_) fun F h=>?_
        ·obtain ⟨M,N,h⟩:=bs h
         refine A ?_
         refine u<|apM 5 ti y ti y y (by decide) ti y y y y (roX (f:=zw) (z:=[B]) y y) (fun _=>y) y N<|A ?_
         exact (⟨M,h,zo [.old 0,.old 1,.old 5,.old 3]⟩)
        ·refine ze ?_
         exact ⟨s,h,zo [.old 0,.old 1,.old 2,.old 3]⟩
       ·rintro Z h
        refine A ?_
        obtain rfl:=sm h
        exact ⟨_,y,zo [.old 0,.old 1,.old 2,.old 3]⟩
      ·refine zq ?_
       obtain rfl:=sm h
       exact ⟨y,_,y,zo [.old 0,.old 1,.old 2]⟩
     ·rintro v49 rfl
      refine zn<|A ?_
      obtain rfl:=sm h
      exact ⟨_,y,zo [.old 0,.old 1,.old 2]⟩
     ·rintro r' rfl env st hp
      obtain rfl:=sm h
      exact ⟨_,y,hp⟩
   ·refine zq ?_
    obtain rfl:=sm h
    exact ⟨y,_,y,zo []⟩
  ·rintro ⟨⟩ rfl
   refine zn<|A ?_
   exact RT0
instance (a:List za)(b:T2)(c:za):PF Tryz.prog 60 [.ipt 2 [[.isl 6 (map zc a),.imp (map (rKV (fun x=>iA x)) b)]] 0 0,.agg (zc c)] (zgr a b c) bA:=⟨fun _=>zkS a b c⟩
def zvr(a:List za)(b:T2):Option ((Option zH)×Int):=
  some ((some (zH.mk a b)),0)
def zim(b:List za)(c:List za)(d:T2)(a:Int):Option (Sum (Int) (Sum (Unit) ((Option zH)×Int))):=
  cond (decide (a<(length b:Int))) ((idx b a).bind fun e=>(zgr c d e).bind fun f=>cond (!f) (some (.inr (.inr (none,1)))) (some (.inl (IntKind.i64.wrap (a+1))))) (some (.inr (.inl ())))
def zq1(d:List za)(a:List za)(c:T2):Option ((Option zH)×Int):=
  (zl (fun z=>zim d a c z) 0).bind fun o=>zD o (fun b=>zvr a c) some
def zil(b:List za)(c:List za)(d:T2)(a:Int):Option (Sum (Int) (Sum (Unit) ((Option zH)×Int))):=
  cond (decide (a<(length b:Int))) ((idx b a).bind fun e=>(zjz e).bind fun f=>(zay f c d).bind fun i=>cond i (some (.inr (.inr (none,4)))) (some (.inl (IntKind.i64.wrap (a+1))))) (some (.inr (.inl ())))
def zq0(d:List za)(a:List za)(c:T2):Option ((Option zH)×Int):=
  (zl (fun z=>zil d a c z) 0).bind fun o=>zD o (fun b=>zq1 d a c) some
def zeH(e:List za)(b:List za)(c:T2)(d:Int):Option (Sum ((List za)×T2×Int) (Sum ((List za)×T2) ((Option zH)×Int))):=
  cond (decide (d<(length e:Int))) ((idx e d).bind fun a=>(cond (Option.isSome (zeI a.Name c)) (some true) ((zoJ a).bind fun f=>some (!f))).bind fun i=>cond i (some (.inr (.inr (none,1)))) ((zh9 112 b [a]).bind fun j=>some (.inl (j,(zhj a.Name ((length b):Int) c),(IntKind.i64.wrap (d+1)))))) (some (.inr (.inl (b,c))))
def zqZ(a:List za)(c:(List za))(d:T2):Option ((Option zH)×Int):=
  (zl (fun z=>zeH a z.1 z.2.1 z.2.2) (c,d,0)).bind fun o=>zD o (fun b=>zq0 a b.1 b.2) some
def zq2(b:(List za))(c:T2)(a:Int):Option (Sum (T2×Int) (Sum (T2) ((Option zH)×Int))):=
  cond (decide (a<((length b):Int))) ((idx b a).bind fun d=>some (.inl ((zhj d.Name a c),(IntKind.i64.wrap (a+1))))) (some (.inr (.inl c)))
def zko(a:List za):Option ((Option zH)×Int):=
  cond (decide (16<(length a:Int))) (some (none,3)) ((zpw).bind fun c=>(zl (fun z=>zq2 c z.1 z.2) ([],0)).bind fun o=>zD o (fun b=>zqZ a c b) some)
theorem zof(c:List za){r:(Option zH)×Int}(h:zko c=some r):zam Tryz.prog 23 [.isl 6 (map zc c)] (.tup [ziT 2 zbl r.1,iA r.2]):=by
 refine zh Tryz.func23 y kz y (zwB (ztN (zpX (fun _=>y)) (y))) ?_
 refine A ?_
 refine zf<|A ?_
 refine zeh h y (fun H h=>?_) fun H h=>?_
 ·refine A ?_
  exact RT0
 ·refine ze ?_
  obtain ⟨j,T,h⟩:=bs h
  refine rg y<|u<|sx [] (zs0 T)<|zv (env0:=[(0,.isl 6 (map zc c)),(18,.msl 0 0 (length j))]) (st0:=[some (6,map zc j)]) (zo [.old 0])<|u<|mmk (e:=3) 1 y y<|A ?_
  refine zf<|A ?_
  obtain ⟨o,ho,h⟩:=bs h
  refine lpB ho (fun z=>[(0,.isl 6 (map zc c)),(4,.mpt 0 0 0),(25,.msl 2 0 (length j)),(26,iA ((length j):Int)),(27,iA z.2)]) (fun z=>[some (1,[[.mpt 1 0 0]]),some (2,[[.msl 2 0 (length j),.mmp 3]]),some (6,map zc j),some (2,map (rKV (fun x=>iA x)) z.1)]) (fun b=>[(0,.isl 6 (map zc c)),(4,.mpt 0 0 0)]) (fun b=>[some (1,[[.mpt 1 0 0]]),some (2,[[.msl 2 0 (length j),.mmp 3]]),some (6,map zc j),some (2,map (rKV (fun x=>iA x)) b)]) (pG Tryz.f23 (fun r=>.tup [ziT 2 zbl r.1,iA r.2])) (zaf [.old 3,.old 2,.old 0,.old 1]) ?_ ?_
  ·rintro ⟨I,J⟩ r h
   refine A ?_
   refine zf ?_
   refine zeh h y (fun K h=>?_) fun K h=>?_
   ·refine ze<|zf<|zi ?_
    obtain ⟨L,q6,h⟩:=bs h
    refine A ?_
    refine zjQ [(0,_),(4,_),(25,_),(26,_),(27,_)] [some (1,[[.mpt 1 0 0]]),some (2,[[.msl 2 0 (length j),.mmp 3]]),some (6,map zc j),some (2,map (rKV (fun x=>iA x)) (zhj L.Name J I))] [7] [0,1,2,3,4,5,6] [(38,_),(37,_),(36,_),(35,_),(34,_),(33,_),(32,_)] 1 (zcq (z:=by exact ⟨(fun _ _=>⟨_,y,y,mup (v:=J) (g:=(fun x=>iA x)) (l:=I) (s:=L.Name) y y y y y y<|⟨.any,[],[],y,y,y,t,zcw (z:=zaf [.old 0,.old 1,.old 2,.old 3])⟩⟩),t⟩)) ?_
    refine A ?_
    obtain rfl:=sm h
    exact ⟨_,y,zo [.old 0,.old 1,.old 2,.old 3]⟩
   ·refine zq ?_
    obtain rfl:=sm h
    exact ⟨y,_,y,zo [.old 0,.old 1,.old 2,.old 3]⟩
  ·rintro v9 rfl
   refine zn<|zf<|A ?_
   obtain ⟨o,ho,h⟩:=bs h
   refine lpB ho (fun z=>[(0,.isl 6 (map zc c)),(4,.mpt 0 0 0),(40,.isl 6 (map zc c)),(41,iA (length c:Int)),(42,iA z.2.2)]) (fun z=>[some (1,[[.mpt 1 0 0]]),some (2,[[.msl 2 0 (length z.1),.mmp 3]]),some (6,map zc z.1),some (2,map (rKV (fun x=>iA x)) z.2.1)]) (fun b=>[(0,.isl 6 (map zc c)),(4,.mpt 0 0 0)]) (fun b=>[some (1,[[.mpt 1 0 0]]),some (2,[[.msl 2 0 (length b.1),.mmp 3]]),some (6,map zc b.1),some (2,map (rKV (fun x=>iA x)) b.2)]) (pG Tryz.f23 (fun r=>.tup [ziT 2 zbl r.1,iA r.2])) (zaf [.old 0,.old 1,.old 2,.old 3]) ?_ ?_
   ·rintro ⟨d,n,U⟩ r h
    refine A ?_
    refine zf ?_
    refine zeh h y (fun B h=>?_) fun B h=>?_
    ·refine ze<|zf<|zi ?_
     obtain ⟨m,V,h⟩:=bs h
     refine A ?_
     refine zf ?_
     refine rdA [(0,_),(4,_),(8,_),(10,_),(40,_),(41,_),(42,_)] [some (1,[[.mpt 1 0 0]]),some (2,[[.msl 2 0 (length d),.mmp 3]]),some (6,map zc d),some (2,map (rKV (fun x=>iA x)) n),some (6,[(zc m)])] [] [0,1,2,3,4,5,6,7,8,9,10,11] [(10,_),(9,_),(55,_),(54,_),(46,_),(53,_),(52,_),(51,_),(50,_),(49,_),(48,_),(47,_)] 0 (zcw ⟨peC,peC,peC,peC,peC,peC,(by exact pb y (zFU (g:=(fun x=>iA x)) (z:=0) (l:=n) y ti y y y y<|w)),peC,peC,peC,peC,peC,t⟩ (zaf [.old 0,.old 1,.old 2,.old 3,.old 4])) ?_
     obtain ⟨W,X,h⟩:=bs h
     refine A ?_
     refine zeh h y (fun C h=>?_) fun C h=>?_
     ·refine A ?_
      refine zy ?_
      obtain rfl:=sm h
      exact ⟨_,y,_,y,zad []⟩
     ·refine ze ?_
      refine rdA [(0,_),(4,_),(8,_),(40,_),(41,_),(42,_)] [some (1,[[.mpt 1 0 0]]),some (2,[[.msl 2 0 (length d),.mmp 3]]),some (6,map zc d),some (2,map (rKV (fun x=>iA x)) (zhj m.Name ((length d):Int) n)),some (6,[(zc m)])] [11] [0,1,2,3,4,5,6,7,8,9,10] [(72,_),(71,_),(70,_),(69,_),(68,_),(67,_),(66,_),(65,_),(64,_),(63,_),(62,_)] 1 (zcq (z:=by exact ⟨(fun _ _=>⟨_,y,y,mup (v:=((length d):Int)) (g:=(fun x=>iA x)) (l:=n) (s:=m.Name) y y y y y y<|⟨.any,[],[],y,y,y,t,zcw (z:=zaf [.old 0,.old 1,.old 2,.old 3,.old 4])⟩⟩),t⟩)) ?_
      obtain ⟨p,M,h⟩:=bs h
      refine zjQ [(0,_),(4,_),(40,_),(41,_),(42,_)] [some (1,[[.mpt 1 0 0]]),some (2,[[.msl 2 0 (length p),.mmp 3]]),some (6,map zc p),some (2,map (rKV (fun x=>iA x)) (zhj m.Name ((length d):Int) n))] [6,7,10] [0,1,2,3,4,5] [(78,_),(77,_),(76,_),(75,_),(74,_),(73,_)] 3 (zcq (z:=by exact ⟨(fun _ _=>⟨_,y,y,bl 5 ti y ti y (by decide) (by decide) y y y<|⟨(.msl 5 0 1),[],[(79,_)],y,y,y,y,zcq (z:=by exact ⟨nv,(fun _ _=>⟨_,y,y,apM 6 ti y ti y y (by decide) ti y y y y (roX (f:=zc) (z:=[m]) y y) (fun _=>y) y M<|⟨(.msl 6 0 (length p)),[8,9],[(82,_),(81,_),(80,_)],y,y,y,y,zcq (z:=by exact ⟨nv,nv,(fun _ _=>⟨_,y,y,sto ti y y y<|⟨.any,[],[],y,y,y,t,zcw (z:=zaf [.old 0,.old 1,.old 6,.old 3])⟩⟩),t⟩)⟩⟩),nw,t⟩)⟩⟩),nw,nw,t⟩)) ?_
      refine A ?_
      obtain rfl:=sm h
      exact ⟨_,y,zo [.old 0,.old 1,.old 2,.old 3]⟩
    ·refine zq ?_
     obtain rfl:=sm h
     exact ⟨y,_,y,zo [.old 0,.old 1,.old 2,.old 3]⟩
   ·rintro ⟨a,i⟩ rfl
    refine zn<|zf<|A ?_
    obtain ⟨o,ho,h⟩:=bs h
    refine lpB ho (fun z=>[(0,.isl 6 (map zc c)),(4,.mpt 0 0 0),(84,.isl 6 (map zc c)),(85,iA (length c:Int)),(86,iA z)]) (fun z=>[some (1,[[.mpt 1 0 0]]),some (2,[[.msl 2 0 (length a),.mmp 3]]),some (6,map zc a),some (2,map (rKV (fun x=>iA x)) i)]) (fun b=>[(0,.isl 6 (map zc c)),(4,.mpt 0 0 0)]) (fun b=>[some (1,[[.mpt 1 0 0]]),some (2,[[.msl 2 0 (length a),.mmp 3]]),some (6,map zc a),some (2,map (rKV (fun x=>iA x)) i)]) (pG Tryz.f23 (fun r=>.tup [ziT 2 zbl r.1,iA r.2])) (zaf [.old 0,.old 1,.old 2,.old 3]) ?_ ?_
    ·rintro N r h
     refine A ?_
     refine zf ?_
     refine zeh h y (fun D h=>?_) fun D h=>?_
     ·refine ze<|zf<|zi ?_
      obtain ⟨O,Y,h⟩:=bs h
      refine A ?_
      obtain ⟨q,P,Z,Q,h⟩:=bs2 h
      refine rg y<|u<|ld ti y y<|u<|sx [] (zlu O P)<|zv (env0:=[(0,.isl 6 (map zc c)),(4,.mpt 0 0 0),(84,.isl 6 (map zc c)),(85,iA (length c:Int)),(86,iA N),(91,.msl 4 0 (length q))]) (st0:=[some (1,[[.mpt 1 0 0]]),some (2,[[.msl 2 0 (length a),.mmp 3]]),some (6,map zc a),some (2,map (rKV (fun x=>iA x)) i),some (1,map zw q)]) (zo [.old 0,.old 1,.old 2,.old 3,.old 5])<|u<|mf y y<|u<|pcs (zdR q a i Q) y y (.cons (zhE y (fun _=>y)) (.cons (zfZ t ⟨(zbk y ⟨(zbk y ⟨(zhE y (fun _=>y)),(zAa y (fun _=>y)),t⟩),t⟩),t⟩) .nil)) zbI<|zx ?_
      refine zeh h y (fun E h=>?_) fun E h=>?_
      ·refine A ?_
       refine zy ?_
       obtain rfl:=sm h
       exact ⟨_,y,_,y,zad []⟩
      ·refine ze<|A ?_
       obtain rfl:=sm h
       exact ⟨_,y,zo [.old 0,.old 1,.old 2,.old 3]⟩
     ·refine zq ?_
      obtain rfl:=sm h
      exact ⟨y,_,y,zo [.old 0,.old 1,.old 2,.old 3]⟩
    ·rintro ⟨⟩ rfl
     refine zn<|zf<|A ?_
     obtain ⟨o,ho,h⟩:=bs h
     refine lpB ho (fun z=>[(4,.mpt 0 0 0),(95,.isl 6 (map zc c)),(96,iA (length c:Int)),(97,iA z)]) (fun z=>[some (1,[[.mpt 1 0 0]]),some (2,[[.msl 2 0 (length a),.mmp 3]]),some (6,map zc a),some (2,map (rKV (fun x=>iA x)) i)]) (fun b=>[(4,.mpt 0 0 0)]) (fun b=>[some (1,[[.mpt 1 0 0]]),some (2,[[.msl 2 0 (length a),.mmp 3]]),some (6,map zc a),some (2,map (rKV (fun x=>iA x)) i)]) (pG Tryz.f23 (fun r=>.tup [ziT 2 zbl r.1,iA r.2])) (zaf [.old 0,.old 1,.old 2,.old 3]) ?_ ?_
     ·rintro v37 r h
      refine A ?_
      refine zf ?_
      refine zeh h y (fun F h=>?_) fun F h=>?_
      ·refine ze<|zf<|zi ?_
       obtain ⟨R,q36,h⟩:=bs h
       refine A ?_
       obtain ⟨v39,S,h⟩:=bs h
       refine A ?_
       refine u<|pcs (zkS a i R S) y y (.cons (zbk y ⟨(zhE y (fun _=>y)),(zAa y (fun _=>y)),t⟩) (.cons (si y) .nil)) zbI<|A ?_
       refine zeh h y (fun G h=>?_) fun G h=>?_
       ·refine A ?_
        refine zy ?_
        obtain rfl:=sm h
        exact ⟨_,y,_,y,zad []⟩
       ·refine ze<|A ?_
        obtain rfl:=sm h
        exact ⟨_,y,zo [.old 0,.old 1,.old 2,.old 3]⟩
      ·refine zq ?_
       obtain rfl:=sm h
       exact ⟨y,_,y,zo [.old 0,.old 1,.old 2,.old 3]⟩
     ·rintro ⟨⟩ rfl
      refine zn<|A ?_
      refine zy ?_
      obtain rfl:=sm h
      exact ⟨_,y,[],zrA ⟨(rsP y y ⟨(zl9 y y (fun _=>y)),(zz7 y y (fun _=>y)),t⟩ y),(ci y),t⟩,y,t,y,k⟩
instance (a:List za):PF Tryz.prog 23 [.isl 6 (map zc a)] (zko a) (fun r=>(.tup [ziT 2 zbl r.1,iA r.2])):=⟨fun _=>zof a⟩
def zu4(x:zk):Prop:=(wS) x.Name∧(wS) x.Type_∧(wT) x.Static
theorem zxL{n:Nat}{avs:List AV}(h:zpj Tryz.prog (n+2) 52 avs):∃x:zk,avs=zE x∧zu4 x:=by
 obtain ⟨parts,rfl,hl,hg⟩:=gdF Tryz.underlying52 h
 match parts,hl with
 | [p0,p1,p2],_ =>
  obtain ⟨x0,rfl,w0⟩:=gdS Tryz.underlying9 (hg 0 _ p0 rfl rfl)
  obtain ⟨x1,rfl,w1⟩:=gdS Tryz.underlying9 (hg 1 _ p1 rfl rfl)
  obtain ⟨x2,rfl,w2⟩:=gdB Tryz.underlying4 (hg 2 _ p2 rfl rfl)
  exact ⟨⟨x0,x1,x2⟩,rfl,w0,w1,w2⟩
def zAF(x:zp):Prop:=(wI .i64) x.Op∧(wI .i64) x.A∧(wS) x.C∧(wS) x.M
theorem zBk{n:Nat}{avs:List AV}(h:zpj Tryz.prog (n+2) 69 avs):∃x:zp,avs=zt x∧zAF x:=by
 obtain ⟨parts,rfl,hl,hg⟩:=gdF Tryz.underlying69 h
 match parts,hl with
 | [p0,p1,p2,p3],_ =>
  obtain ⟨x0,rfl,w0⟩:=gdI Tryz.underlying3 (hg 0 _ p0 rfl rfl)
  obtain ⟨x1,rfl,w1⟩:=gdI Tryz.underlying3 (hg 1 _ p1 rfl rfl)
  obtain ⟨x2,rfl,w2⟩:=gdS Tryz.underlying9 (hg 2 _ p2 rfl rfl)
  obtain ⟨x3,rfl,w3⟩:=gdS Tryz.underlying9 (hg 3 _ p3 rfl rfl)
  exact ⟨⟨x0,x1,x2,x3⟩,rfl,w0,w1,w2,w3⟩
def zAG(x:zS):Prop:=(wI .i64) x.At∧(wL (wS)) x.Locals∧(wL (wS)) x.Stack
theorem zBl{n:Nat}{avs:List AV}(h:zpj Tryz.prog (n+3) 78 avs):∃x:zS,avs=zK x∧zAG x:=by
 obtain ⟨parts,rfl,hl,hg⟩:=gdF Tryz.underlying78 h
 match parts,hl with
 | [p0,p1,p2],_ =>
  obtain ⟨x0,rfl,w0⟩:=gdI Tryz.underlying3 (hg 0 _ p0 rfl rfl)
  obtain ⟨x1,rfl,w1⟩:=gdL (k:=1) Tryz.underlying25 (by kernel_rfl) (fun h=>gdS Tryz.underlying9 h) (hg 1 _ p1 rfl rfl)
  obtain ⟨x2,rfl,w2⟩:=gdL (k:=1) Tryz.underlying25 (by kernel_rfl) (fun h=>gdS Tryz.underlying9 h) (hg 2 _ p2 rfl rfl)
  exact ⟨⟨x0,x1,x2⟩,rfl,w0,w1,w2⟩
def zxl(x:zR):Prop:=(wI .i64) x.From∧(wI .i64) x.To∧(wI .i64) x.At∧(wS) x.C
theorem zze{n:Nat}{avs:List AV}(h:zpj Tryz.prog (n+2) 85 avs):∃x:zR,avs=z6 x∧zxl x:=by
 obtain ⟨parts,rfl,hl,hg⟩:=gdF Tryz.underlying85 h
 match parts,hl with
 | [p0,p1,p2,p3],_ =>
  obtain ⟨x0,rfl,w0⟩:=gdI Tryz.underlying3 (hg 0 _ p0 rfl rfl)
  obtain ⟨x1,rfl,w1⟩:=gdI Tryz.underlying3 (hg 1 _ p1 rfl rfl)
  obtain ⟨x2,rfl,w2⟩:=gdI Tryz.underlying3 (hg 2 _ p2 rfl rfl)
  obtain ⟨x3,rfl,w3⟩:=gdS Tryz.underlying9 (hg 3 _ p3 rfl rfl)
  exact ⟨⟨x0,x1,x2,x3⟩,rfl,w0,w1,w2,w3⟩
def zpM(x:zb):Prop:=(wS) x.Name∧(wL (wS)) x.Params∧(wS) x.Ret∧(wT) x.Static∧(wT) x.Abstract∧(wI .i64) x.Locals∧(wI .i64) x.Stack∧(wL (zAF)) x.Code∧(wL (zAG)) x.Maps∧(wL (zxl)) x.Traps
theorem zvq{n:Nat}{avs:List AV}(h:zpj Tryz.prog (n+5) 76 avs):∃x:zb,avs=zd x∧zpM x:=by
 obtain ⟨parts,rfl,hl,hg⟩:=gdF Tryz.underlying76 h
 match parts,hl with
 | [p0,p1,p2,p3,p4,p5,p6,p7,p8,p9],_ =>
  obtain ⟨x0,rfl,w0⟩:=gdS Tryz.underlying9 (hg 0 _ p0 rfl rfl)
  obtain ⟨x1,rfl,w1⟩:=gdL (k:=1) Tryz.underlying25 (by kernel_rfl) (fun h=>gdS Tryz.underlying9 h) (hg 1 _ p1 rfl rfl)
  obtain ⟨x2,rfl,w2⟩:=gdS Tryz.underlying9 (hg 2 _ p2 rfl rfl)
  obtain ⟨x3,rfl,w3⟩:=gdB Tryz.underlying4 (hg 3 _ p3 rfl rfl)
  obtain ⟨x4,rfl,w4⟩:=gdB Tryz.underlying4 (hg 4 _ p4 rfl rfl)
  obtain ⟨x5,rfl,w5⟩:=gdI Tryz.underlying3 (hg 5 _ p5 rfl rfl)
  obtain ⟨x6,rfl,w6⟩:=gdI Tryz.underlying3 (hg 6 _ p6 rfl rfl)
  obtain ⟨x7,rfl,w7⟩:=gdL (k:=4) Tryz.underlying72 (by kernel_rfl) (fun h=>zBk h) (hg 7 _ p7 rfl rfl)
  obtain ⟨x8,rfl,w8⟩:=gdL (k:=3) Tryz.underlying73 (by kernel_rfl) (fun h=>zBl h) (hg 8 _ p8 rfl rfl)
  obtain ⟨x9,rfl,w9⟩:=gdL (k:=4) Tryz.underlying74 (by kernel_rfl) (fun h=>zze h) (hg 9 _ p9 rfl rfl)
  exact ⟨⟨x0,x1,x2,x3,x4,x5,x6,x7,x8,x9⟩,rfl,w0,w1,w2,w3,w4,w5,w6,w7,w8,w9⟩
def zld(x:za):Prop:=(wS) x.Name∧(wS) x.Super∧(wT) x.Interface∧(wL (wS)) x.Impl∧(wL (zu4)) x.Fields∧(wL (zpM)) x.Methods
theorem zxJ{n:Nat}{avs:List AV}(h:zpj Tryz.prog (n+7) 29 avs):∃x:za,avs=zc x∧zld x:=by
 obtain ⟨parts,rfl,hl,hg⟩:=gdF Tryz.underlying29 h
 match parts,hl with
 | [p0,p1,p2,p3,p4,p5],_ =>
  obtain ⟨x0,rfl,w0⟩:=gdS Tryz.underlying9 (hg 0 _ p0 rfl rfl)
  obtain ⟨x1,rfl,w1⟩:=gdS Tryz.underlying9 (hg 1 _ p1 rfl rfl)
  obtain ⟨x2,rfl,w2⟩:=gdB Tryz.underlying4 (hg 2 _ p2 rfl rfl)
  obtain ⟨x3,rfl,w3⟩:=gdL (k:=1) Tryz.underlying25 (by kernel_rfl) (fun h=>gdS Tryz.underlying9 h) (hg 3 _ p3 rfl rfl)
  obtain ⟨x4,rfl,w4⟩:=gdL (k:=3) Tryz.underlying26 (by kernel_rfl) (fun h=>zxL h) (hg 4 _ p4 rfl rfl)
  obtain ⟨x5,rfl,w5⟩:=gdL (k:=10) Tryz.underlying27 (by kernel_rfl) (fun h=>zvq h) (hg 5 _ p5 rfl rfl)
  exact ⟨⟨x0,x1,x2,x3,x4,x5⟩,rfl,w0,w1,w2,w3,w4,w5⟩
structure zz where
  L:List za
def zeJ(x:zz):List AV:=[.isl 6 (map zc x.L)]
def ztB(a:List za):Option ((List za)):=
  some a
def zlL(c:List za)(d:Int)(e:T0)(a:T0):Option (Sum ((List za)×Int) (Sum ((List za)) ((List za)))):=
  (zh9 112 c ([(za.mk e a false [] [] [])])).bind fun b=>some (.inl (b,(IntKind.i64.wrap (d+1))))
def zlK(b:List za)(a:Int)(c:T0)(d:T0):Option (Sum ((List za)×Int) (Sum ((List za)) ((List za)))):=
  cond (a == (1:Int)) (zlL b a c [79,98,106,101,99,116]) (zlL b a c d)
def ztC(b:List za)(a:Int):Option (Sum ((List za)×Int) (Sum ((List za)) ((List za)))):=
  cond (decide (a<((length (zd1)):Int))) ((idx (zd1) a).bind fun c=>cond (a == (0:Int)) (zlK b a c []) (zlK b a c [84,104,114,111,119,110])) (some (.inr (.inl b)))
def zpI:Option ((List za)):=
  (zl (fun z=>ztC z.1 z.2) ([],0)).bind fun o=>zD o (fun b=>ztB b) some
theorem ztD{r:(List za)}(h:zpI=some r):SC Tryz.prog 68 [] [] (.msl 0 0 (length r)) [.many 6 (map zc r)]:=by
 refine ⟨⟨zia (sz:=6) (fun _=>y),t⟩,zX Tryz.func68 y kz y ?_⟩
 refine A ?_
 refine rg y<|u<|sx [] (ztz y)<|zv (env0:=[(5,.msl 0 0 (length (zd1)))]) (st0:=[some (1,map zw (zd1))]) (zo [.old 0])<|A ?_
 refine A ?_
 refine zf<|A ?_
 obtain ⟨o,ho,h⟩:=bs h
 refine lpB ho (fun z=>[(1,.msl 0 0 (length (zd1))),(2,.msl 1 0 (length z.1)),(3,iA z.2)]) (fun z=>[some (1,map zw (zd1)),some (6,map zc z.1)]) (fun b=>[(2,.msl 0 0 (length b))]) (fun b=>[some (6,map zc b)]) (pF Tryz.f68 (fun r=>.msl 0 0 (length r)) fun r=>[some (6,map zc r)]) ⟨[.old 0,.fresh 6],cv y (.msl y)<|cv y (.nilown y)<|ce y y<|cn,y,⟨⟨_,y,zi8 (fun _=>y)⟩,w,t⟩,y,k⟩ ?_ ?_
 ·rintro ⟨a,d⟩ r h
  refine zf<|A ?_
  refine zeh h y (fun f h=>?_) fun f h=>?_
  ·refine ze<|zf<|zi ?_
   obtain ⟨c,q,h⟩:=bs h
   refine A ?_
   refine zal (X:=T0) (fun z=>[(1,.msl 0 0 (length (zd1))),(2,.msl 1 0 (length a)),(3,iA d),(4,.mpt 2 0 0)]) (fun z=>[some (1,map zw (zd1)),some (6,map zc a),some (6,[[sA c,sA z,bA false,.lit (.slice none 0 0),.lit (.slice none 0 0),.lit (.slice none 0 0)]])]) (fun z=>zlK a d c z=some r) ?_ ?_
   ·refine A ?_
    refine zeh h y (fun i h=>?_) fun i h=>?_
    ·refine A ?_
     exact (⟨[],h,zo [.old 0,.old 1,.old 2]⟩)
    ·refine ze ?_
     exact ⟨[84,104,114,111,119,110],h,zo [.old 0,.old 1,.old 2]⟩
   ·rintro j h
    refine zal (X:=T0) (fun z=>[(1,.msl 0 0 (length (zd1))),(2,.msl 1 0 (length a)),(3,iA d),(4,.mpt 2 0 0)]) (fun z=>[some (1,map zw (zd1)),some (6,map zc a),some (6,[[sA c,sA z,bA false,.lit (.slice none 0 0),.lit (.slice none 0 0),.lit (.slice none 0 0)]])]) (fun z=>zlL a d c z=some r) ?_ ?_
    ·refine A ?_
     refine zeh h y (fun l h=>?_) fun l h=>?_
     ·refine A ?_
      exact (⟨[79,98,106,101,99,116],h,zo [.old 0,.old 1,.old 2]⟩)
     ·refine ze ?_
      exact ⟨j,h,zo [.old 0,.old 1,.old 2]⟩
    ·rintro e h
     obtain ⟨n,m,h⟩:=bs h
     refine A ?_
     refine zv (env0:=[(1,.msl 0 0 (length (zd1))),(3,iA d),(23,.msl 1 0 (length a)),(25,.msl 2 0 (length ([(za.mk c e false [] [] [])])))]) (st0:=[some (1,map zw (zd1)),some (6,map zc a),some (6,map zc ([(za.mk c e false [] [] [])]))]) (zo [.old 0,.old 1,.old 3])<|u<|apM 3 ti y ti y y (by decide) ti y y y y (roM y) (fun _=>y) y m<|A ?_
     refine A ?_
     obtain rfl:=sm h
     exact ⟨_,y,zo [.old 0,.old 3]⟩
  ·refine zq ?_
   obtain rfl:=sm h
   exact ⟨y,_,y,zo [.old 1]⟩
 ·rintro p rfl
  refine zn<|A ?_
  exact RT1
def zm1:Option (Int):=
  some (-1)
def zh1(b:List za)(c:T0)(a:Int):Option (Sum (Int) (Sum (Unit) (Int))):=
  cond (decide (a<(length b:Int))) ((idx b a).bind fun d=>cond (d.Name == c) (some (.inr (.inr a))) (some (.inl (IntKind.i64.wrap (a+1))))) (some (.inr (.inl ())))
def zU(a:List za)(c:T0):Option (Int):=
  (zl (fun z=>zh1 a c z) 0).bind fun o=>zD o (fun b=>zm1) some
theorem zdJ(a:List za)(c:T0){r:Int}(h:zU a c=some r):zam Tryz.prog 70 [.ipt 1 [[.isl 6 (map zc a)]] 0 0,sA c] (iA r):=by
 refine zh Tryz.func70 y kz y y<|A ?_
 refine zf<|A ?_
 obtain ⟨o,ho,h⟩:=bs h
 refine lpB ho (fun z=>[(0,.ipt 1 [[.isl 6 (map zc a)]] 0 0),(1,sA c),(5,iA z)]) (fun z=>[]) (fun b=>[]) (fun b=>[]) (pG Tryz.f70 iA) (zaf []) ?_ ?_
 ·rintro f r h
  refine zf<|A ?_
  refine zeh h y (fun d h=>?_) fun d h=>?_
  ·refine ze<|zf<|zi ?_
   obtain ⟨i,j,h⟩:=bs h
   refine A ?_
   refine zeh h y (fun e h=>?_) fun e h=>?_
   ·refine A ?_
    refine zy ?_
    obtain rfl:=sm h
    exact ⟨_,y,_,y,zad []⟩
   ·refine ze<|A ?_
    obtain rfl:=sm h
    exact ⟨_,y,zo []⟩
  ·refine zq ?_
   obtain rfl:=sm h
   exact ⟨y,_,y,zo []⟩
 ·rintro ⟨⟩ rfl
  refine zn<|A ?_
  exact RT0
instance (a:List za)(b:T0):PF Tryz.prog 70 [.ipt 1 [[.isl 6 (map zc a)]] 0 0,sA b] (zU a b) iA:=⟨fun _=>zdJ a b⟩
def zow(c:Int)(a:List Bool):Option (Bool):=
  (idx a c).bind fun b=>some b
def zjZ(a:List Bool)(b:Bool):Option (Sum ((List Bool)×Bool×Bool) (Sum ((List Bool)) (Bool))):=
  some (.inl (a,b,false))
def zgc(a:Int)(b:List Bool)(c:Bool):Option (Sum ((List Bool)×Bool×Int) (Sum ((List Bool)×Bool) (Bool))):=
  some (.inl (b,c,(IntKind.i64.wrap (a+1))))
def zgd(a:Int)(b:List Bool)(c:Bool):Option (Sum ((List Bool)×Bool×Int) (Sum ((List Bool)×Bool) (Bool))):=
  zgc a b c
def zgb(a:Int)(b:List Bool)(c:Bool):Option (Sum ((List Bool)×Bool×Int) (Sum ((List Bool)×Bool) (Bool))):=
  some (.inl (b,c,(IntKind.i64.wrap (a+1))))
def zdm(l:List za)(d:T1)(a:List Bool)(e:Bool)(b:Int):Option (Sum ((List Bool)×Bool×Int) (Sum ((List Bool)×Bool) (Bool))):=
  cond (decide (b<((length d):Int))) ((idx d b).bind fun f=>(zU l f).bind fun c=>(cond (decide (0≤c)) ((idx a c).bind fun i=>some (!i)) (some false)).bind fun j=>cond j ((idx a c).bind fun m=>zgb b (List.set a (Int.toNat c) true) true) (zgb b a e)) (some (.inr (.inl (a,e))))
def zcm(e:List za)(n:Int)(m:Bool)(c:List Bool)(d:Bool)(a:Int):Option (Sum ((List Bool)×Bool×Int) (Sum ((List Bool)×Bool) (Bool))):=
  cond (decide (a<(length e:Int))) ((idx c a).bind fun f=>cond ((!f)&&(!(m&&(a == n)))) (zgc a c d) ((idx e a).bind fun i=>(idx e a).bind fun j=>(zh9 16 [i.Super] j.Impl).bind fun l=>(zl (fun z=>zdm e l z.1 z.2.1 z.2.2) (c,d,0)).bind fun o=>zD o (fun b=>zgd a b.1 b.2) (fun r=>some (.inr (.inr r))))) (some (.inr (.inl (c,d))))
def zcn(e:List za)(f:Int)(a:List Bool)(c:Bool)(d:Bool):Option (Sum ((List Bool)×Bool×Bool) (Sum ((List Bool)) (Bool))):=
  cond c ((zl (fun z=>zcm e f d z.1 z.2.1 z.2.2) (a,false,0)).bind fun o=>zD o (fun b=>zjZ b.1 b.2) (fun r=>some (.inr (.inr r)))) (some (.inr (.inl a)))
def zgT(a:List za)(c:Int):Option (Bool):=
  (mkP 1 (length a:Int)).bind fun d=>(zl (fun z=>zcn a c z.1 z.2.1 z.2.2) ((List.replicate d false),true,true)).bind fun o=>zD o (fun b=>zow c b) some
theorem zku(c:List za)(e:Int){r:Bool}(h:zgT c e=some r):zam Tryz.prog 71 [.ipt 1 [[.isl 6 (map zc c)]] 0 0,iA e] (bA r):=by
 refine zh Tryz.func71 y kz y y<|A ?_
 obtain ⟨v3,M,h⟩:=bs h
 refine A ?_
 refine u<|mks (f:=rB) (z:=false) 0 ti y ti y y y y y y M<|A ?_
 refine zf<|A ?_
 obtain ⟨o,ho,h⟩:=bs h
 refine lpB ho (fun z=>[(0,.ipt 1 [[.isl 6 (map zc c)]] 0 0),(1,iA e),(5,.msl 0 0 (length z.1)),(6,bA z.2.1),(7,bA z.2.2)]) (fun z=>[some (1,map rB z.1)]) (fun b=>[(1,iA e),(5,.msl 0 0 (length b))]) (fun b=>[some (1,map rB b)]) (pG Tryz.f71 bA) (zaf [.old 0]) ?_ ?_
 ·rintro ⟨v71,v72,i⟩ r h
  refine zf<|A ?_
  refine zeh h y (fun C h=>?_) fun C h=>?_
  ·refine ze<|zf<|zi<|A ?_
   refine A ?_
   obtain ⟨o,ho,h⟩:=bs h
   refine lpS ho (fun z=>[(0,.ipt 1 [[.isl 6 (map zc c)]] 0 0),(1,iA e),(5,.msl 0 0 (length z.1)),(6,bA z.2.1),(7,bA i),(8,iA z.2.2)]) (fun z=>[some (1,map rB z.1)]) (fun b=>[(0,.ipt 1 [[.isl 6 (map zc c)]] 0 0),(1,iA e),(5,.msl 0 0 (length b.1)),(6,bA b.2)]) (fun b=>[some (1,map rB b.1)]) (pG Tryz.f71 bA) (zaf [.old 0]) ?_ ?_ ?_
   ·rintro ⟨m,p,a⟩ r h
    refine zf<|A ?_
    refine zeh h y (fun D h=>?_) fun D h=>?_
    ·refine ze ?_
     refine zal (X:=(List Bool)×Bool) (fun z=>[(0,.ipt 1 [[.isl 6 (map zc c)]] 0 0),(1,iA e),(5,.msl 0 0 (length z.1)),(6,bA z.2),(7,bA i),(8,iA a)]) (fun z=>[some (1,map rB z.1)]) (fun z=>zgc a z.1 z.2=some r) ?_ ?_
     ·refine zi<|zf ?_
      obtain ⟨N,q74,h⟩:=bs h
      refine A ?_
      refine zeh h y (fun E h=>?_) fun E h=>?_
      ·refine zq ?_
       exact ⟨⟨m,p⟩,h,zo [.old 0]⟩
      ·refine ze ?_
       obtain ⟨q,n,F,j,d,K,h⟩:=bs3 h
       refine rdA [(0,.ipt 1 [[.isl 6 (map zc c)]] 0 0),(1,iA e),(5,.msl 0 0 (length m)),(6,bA p),(7,bA i),(8,iA a),(9,.msl 1 0 (length d))] [some (1,map rB m),some (1,map zw d)] [8,17] [16,15,14,13,12,11,10,9,7,6,5,4,3,2,1,0] [(58,.isl 1 (map zw F.Impl)),(57,.ipt 6 (map zc c) (Int.toNat a) 3),(56,.ipt 6 (map zc c) (Int.toNat a) 0),(55,iA a),(54,.isl 6 (map zc c)),(53,.ipt 1 [[.isl 6 (map zc c)]] 0 0),(52,.ipt 1 [[.isl 6 (map zc c)]] 0 0),(51,.ipt 1 [[.isl 6 (map zc c)]] 0 0),(49,sA q.Super),(48,.ipt 6 (map zc c) (Int.toNat a) 1),(47,.ipt 6 (map zc c) (Int.toNat a) 0),(46,iA a),(45,.isl 6 (map zc c)),(44,.ipt 1 [[.isl 6 (map zc c)]] 0 0),(43,.ipt 1 [[.isl 6 (map zc c)]] 0 0),(42,.ipt 1 [[.isl 6 (map zc c)]] 0 0)] 2 (zwp ⟨(pb y (ldI ti y (zaj j).2.2 y w)),(pb y (fa ti y y y w)),(pb y (ixI ti y ti y y y j w)),pe,(pb y (ld ti y y w)),(pb y (fa ti y y y w)),pe,pe,(pb y (ldI ti y (zaj n).2.2 y w)),(pb y (fa ti y y y w)),(pb y (ixI ti y ti y y y n w)),pe,(pb y (ld ti y y w)),(pb y (fa ti y y y w)),pe,pe,t⟩ ⟨(fun _ _=>⟨_,y,y,bl 1 ti y ti y (by decide) (by decide) y y y<|⟨(.msl 1 0 1),[],[(50,.msl 1 0 1)],y,y,kz,y,zwp ⟨(pb y (ldI ti y (zaj j).2.2 y w)),(pb y (fa ti y y y w)),(pb y (ixI ti y ti y y y j w)),pe,(pb y (ld ti y y w)),(pb y (fa ti y y y w)),pe,pe,pe,(pb y (fa ti y y y w)),(pb y (ixI ti y ti y y y n w)),pe,(pb y (ld ti y y w)),(pb y (fa ti y y y w)),pe,pe,t⟩ ⟨nv,(fun _ _=>⟨_,y,y,apM (l:=[q.Super]) (f:=zw) 2 ti y ti y y (by decide) ti y y y y roI (fun _=>y) y K<|⟨(.msl 2 0 (length d)),[18],[(9,.msl 2 0 (length d)),(59,.msl 2 0 (length d))],y,y,kz,y,zvj ⟨pe,pe,(pb y (fa ti y y y w)),(pb y (ixI ti y ti y y y j w)),pe,(pb y (ld ti y y w)),(pb y (fa ti y y y w)),pe,pe,pe,(pb y (fa ti y y y w)),(pb y (ixI ti y ti y y y n w)),pe,(pb y (ld ti y y w)),(pb y (fa ti y y y w)),pe,pe,t⟩ (zo [.old 0,.old 2])⟩⟩),t⟩⟩⟩),nw,t⟩) ?_
       refine A ?_
       obtain ⟨o,ho,h⟩:=bs h
       refine lpS ho (fun z=>[(0,.ipt 1 [[.isl 6 (map zc c)]] 0 0),(1,iA e),(5,.msl 0 0 (length z.1)),(6,bA z.2.1),(7,bA i),(8,iA a),(9,.msl 1 0 (length d)),(10,iA z.2.2)]) (fun z=>[some (1,map rB z.1),some (1,map zw d)]) (fun b=>[(0,.ipt 1 [[.isl 6 (map zc c)]] 0 0),(1,iA e),(5,.msl 0 0 (length b.1)),(6,bA b.2),(7,bA i),(8,iA a)]) (fun b=>[some (1,map rB b.1)]) (pG Tryz.f71 bA) (zaf [.old 0,.old 1]) ?_ ?_ ?_
       ·rintro ⟨s,G,v⟩ r h
        refine zf<|A ?_
        refine zeh h y (fun H h=>?_) fun H h=>?_
        ·refine ze ?_
         refine zal (X:=(List Bool)×Bool) (fun z=>[(0,.ipt 1 [[.isl 6 (map zc c)]] 0 0),(1,iA e),(5,.msl 0 0 (length z.1)),(6,bA z.2),(7,bA i),(8,iA a),(9,.msl 1 0 (length d)),(10,iA v)]) (fun z=>[some (1,map rB z.1),some (1,map zw d)]) (fun z=>zgb v z.1 z.2=some r) ?_ ?_
         ·refine zi ?_
          obtain ⟨O,q90,I,q91,h⟩:=bs2 h
          refine A ?_
          obtain ⟨P,q94,h⟩:=bs h
          refine A ?_
          refine zeh h y (fun J h=>?_) fun J h=>?_
          ·obtain ⟨Q,L,h⟩:=bs h
           refine A ?_
           refine u<|zE6 (c':=true) ti y y (zaj L).2.2 y y y y y<|A ?_
           exact (⟨⟨(List.set s (Int.toNat I) true),true⟩,h,[.old 0,.old 1],ce y y<|ce y y<|cv y (zEK (by simp) y)<|ce y y<|ce y y<|ce y y<|cv y (.msl y)<|ce y y<|cn,y,⟨⟨_,y,zi8 (fun _=>y)⟩,⟨_,y,zi8 (fun _=>y)⟩,t⟩,y,k⟩)
          ·refine ze ?_
           exact ⟨⟨s,G⟩,h,zo [.old 0,.old 1]⟩
         ·rintro ⟨R,S⟩ h
          refine A ?_
          obtain rfl:=sm h
          exact ⟨_,y,zo [.old 0,.old 1]⟩
        ·refine zq ?_
         obtain rfl:=sm h
         exact ⟨y,_,y,zo [.old 0]⟩
       ·rintro ⟨x,B⟩ rfl
        replace h:zgd a x B=some r:=h
        unfold zgd at h
        refine zn ?_
        exact ⟨⟨x,B⟩,h,zo [.old 0]⟩
       ·rintro r' rfl env st hp
        obtain rfl:=sm h
        exact ⟨_,y,hp⟩
     ·rintro ⟨T,U⟩ h
      refine A ?_
      obtain rfl:=sm h
      exact ⟨_,y,zo [.old 0]⟩
    ·refine zq ?_
     obtain rfl:=sm h
     exact ⟨y,_,y,zo [.old 0]⟩
   ·rintro ⟨V,W⟩ rfl
    refine zn<|A ?_
    obtain rfl:=sm h
    exact ⟨_,y,zo [.old 0]⟩
   ·rintro r' rfl env st hp
    obtain rfl:=sm h
    exact ⟨_,y,hp⟩
  ·refine zq ?_
   obtain rfl:=sm h
   exact ⟨y,_,y,zo [.old 0]⟩
 ·rintro Y rfl
  refine zn ?_
  obtain ⟨Z,q97,h⟩:=bs h
  refine A ?_
  exact RT0
instance (a:List za)(b:Int):PF Tryz.prog 71 [.ipt 1 [[.isl 6 (map zc a)]] 0 0,iA b] (zgT a b) bA:=⟨fun _=>zku a b⟩
def zuL(a:List za):Option ((Option zz)×Int):=
  some ((some (zz.mk a)),0)
def zp3(a:Int)(b:Bool):Option (Sum (Int) (Sum (Unit) ((Option zz)×Int))):=
  cond b (some (.inr (.inr (none,1)))) (some (.inl (IntKind.i64.wrap (a+1))))
def zfi(b:List za)(c:za)(d:Bool)(a:Int):Option (Sum (Bool×Int) (Sum (Bool) ((Option zz)×Int))):=
  cond (decide (a<(length c.Impl:Int))) (cond d (some (.inl (true,(IntKind.i64.wrap (a+1))))) ((idx c.Impl a).bind fun e=>(zU b e).bind fun f=>(idx b f).bind fun i=>some (.inl ((!i.Interface),(IntKind.i64.wrap (a+1)))))) (some (.inr (.inl d)))
def zky(a:List za)(c:Int)(d:za)(e:Bool):Option (Sum (Int) (Sum (Unit) ((Option zz)×Int))):=
  (zl (fun z=>zfi a d z.1 z.2) (e,0)).bind fun o=>zD o (fun b=>zp3 c b) (fun r=>some (.inr (.inr r)))
def zhM(a:List za)(b:Int):Option (Sum (Int) (Sum (Unit) ((Option zz)×Int))):=
  cond (decide (b<((length a):Int))) ((idx a b).bind fun c=>(zU a c.Super).bind fun d=>(idx a d).bind fun e=>cond e.Interface (zky a b c true) ((zgT a b).bind fun f=>zky a b c f)) (some (.inr (.inl ())))
def zrt(a:List za):Option ((Option zz)×Int):=
  (zl (fun z=>zhM a z) 1).bind fun o=>zD o (fun b=>zuL a) some
def zrs(a:Int):Option (Sum (Int) (Sum (Unit) ((Option zz)×Int))):=
  some (.inl (IntKind.i64.wrap (a+1)))
def ziy(c:List za)(b:za)(a:Int):Option (Sum (Int) (Sum (Unit) ((Option zz)×Int))):=
  cond (decide (a<(length b.Impl:Int))) ((idx b.Impl a).bind fun d=>(zU c d).bind fun e=>cond (decide (e<0)) (some (.inr (.inr (none,4)))) (some (.inl (IntKind.i64.wrap (a+1))))) (some (.inr (.inl ())))
def ziz(a:List za)(c:Int):Option (Sum (Int) (Sum (Unit) ((Option zz)×Int))):=
  cond (decide (c<((length a):Int))) ((idx a c).bind fun d=>(zU a d.Super).bind fun e=>cond (decide (e<0)) (some (.inr (.inr (none,4)))) ((zl (fun z=>ziy a d z) 0).bind fun o=>zD o (fun b=>zrs c) (fun r=>some (.inr (.inr r))))) (some (.inr (.inl ())))
def zrr(a:List za):Option ((Option zz)×Int):=
  (zl (fun z=>ziz a z) 1).bind fun o=>zD o (fun b=>zrt a) some
def zgf(c:List za)(b:List za)(a:Int):Option (Sum ((List za)×Int) (Sum ((List za)) ((Option zz)×Int))):=
  cond (decide (a<(length c:Int))) ((idx c a).bind fun d=>(zjt d).bind fun e=>(cond (!e) (some true) ((idx c a).bind fun f=>(zU b f.Name).bind fun i=>some (decide (0≤i)))).bind fun j=>cond j (some (.inr (.inr (none,1)))) ((idx c a).bind fun l=>(zh9 112 b [l]).bind fun m=>some (.inl (m,(IntKind.i64.wrap (a+1)))))) (some (.inr (.inl b)))
def zpb(a:List za):Option ((Option zz)×Int):=
  cond (decide (16<(length a:Int))) (some (none,3)) ((zpI).bind fun c=>(zl (fun z=>zgf a z.1 z.2) (c,0)).bind fun o=>zD o (fun b=>zrr b) some)
instance (p:List za):PF Tryz.prog 28 [.isl 6 (map zc p)] (zpb p) (fun r=>(.tup [ziT 1 zeJ r.1,iA r.2])):=⟨fun r h=>by
 refine zh Tryz.func28 y kz y (zwB (ztN (zpX (fun _=>y)) (y))) ?_
 refine A ?_
 refine zf<|A ?_
 refine zeh h y (fun N h=>?_) fun N h=>?_
 ·refine A ?_
  exact RT0
 ·refine ze ?_
  obtain ⟨O,q2,h⟩:=bs h
  refine rg y<|u<|sx [] (ztD q2)<|zv (env0:=[(0,.isl 6 (map zc p)),(16,.msl 0 0 (length O))]) (st0:=[some (6,map zc O)]) (zo [.old 0])<|A ?_
  refine zf<|A ?_
  obtain ⟨o,ho,h⟩:=bs h
  refine lpB ho (fun z=>[(0,.isl 6 (map zc p)),(4,.mpt 0 0 0),(5,iA z.2)]) (fun z=>[some (1,[[.msl 1 0 (length z.1)]]),some (6,map zc z.1)]) (fun b=>[(4,.mpt 0 0 0)]) (fun b=>[some (1,[[.msl 1 0 (length b)]]),some (6,map zc b)]) (pG Tryz.f28 (fun r=>.tup [ziT 1 zeJ r.1,iA r.2])) (zaf [.old 1,.old 0]) ?_ ?_
  ·rintro ⟨P,v13⟩ r h
   refine zf<|A ?_
   refine zeh h y (fun E h=>?_) fun E h=>?_
   ·refine ze<|zf<|zi<|zf ?_
    obtain ⟨v14,q14,v15,q15,Q,d,h⟩:=bs3 h
    refine A ?_
    refine ztr (x:=Q) (j:=6) 8 y y y y y gpn (fun c=>by replace d:=bF c d;obtain ⟨R,q,d⟩:=bs d;obtain ⟨v17,S,d⟩:=bs d;obtain rfl:=sm d;exact g y c<|mv y<|g y c<|mv y<|g y c<|mv y<|g y c<|ixI ti y ti y y y q<|g y c<|fa ti y y y<|g y c<|ldI ti y (zaj q).2.2 y<|g y c<|pcs (zdJ P R.Name S) y y (.cons (zbk y ⟨(zhE y (fun _=>y)),t⟩) (.cons (si y) .nil)) zbI<|g y c<|geq ti y y<|zx (eg [32,33,34,35,36,37,38,39] 8 y y y y)) (fun hb=>(sm (bT hb d)).symm)<|zx ?_
    refine zeh h y (fun F h=>?_) fun F h=>?_
    ·refine A ?_
     refine zy ?_
     obtain rfl:=sm h
     exact ⟨_,y,_,y,zad []⟩
    ·refine ze ?_
     obtain ⟨T,q21,n,U,h⟩:=bs2 h
     refine zjQ [(0,_),(4,_),(5,_)] [some (1,[[.msl 1 0 (length n)]]),some (6,map zc n)] [9,10,13] [0,1,2,3,4,5,6,7,8] [(49,_),(48,_),(47,_),(46,_),(45,_),(44,_),(43,_),(42,_),(41,_)] 3 (zcq (z:=by exact ⟨(fun _ _=>⟨_,y,y,bl 2 ti y ti y (by decide) (by decide) y y y<|⟨(.msl 2 0 1),[],[(50,_)],y,y,y,y,zcq (z:=by exact ⟨nv,(fun _ _=>⟨_,y,y,apM 3 ti y ti y y (by decide) ti y y y y (roX (f:=zc) (z:=[T]) y y) (fun _=>y) y U<|⟨(.msl 3 0 (length n)),[11,12],[(53,_),(52,_),(51,_)],y,y,y,y,zcq (z:=by exact ⟨nv,nv,(fun _ _=>⟨_,y,y,sto ti y y y<|⟨.any,[],[],y,y,y,t,zcw (z:=zaf [.old 0,.old 3])⟩⟩),t⟩)⟩⟩),nw,t⟩)⟩⟩),nw,nw,t⟩)) ?_
     refine A ?_
     obtain rfl:=sm h
     exact ⟨_,y,zo [.old 0,.old 1]⟩
   ·refine zq ?_
    obtain rfl:=sm h
    exact ⟨y,_,y,zo [.old 0,.old 1]⟩
  ·rintro a rfl
   refine zn<|zf<|A ?_
   obtain ⟨o,ho,h⟩:=bs h
   refine lpB ho (fun z=>[(4,.mpt 0 0 0),(6,iA z)]) (fun z=>[some (1,[[.msl 1 0 (length a)]]),some (6,map zc a)]) (fun b=>[(4,.mpt 0 0 0)]) (fun b=>[some (1,[[.msl 1 0 (length a)]]),some (6,map zc a)]) (pG Tryz.f28 (fun r=>.tup [ziT 1 zeJ r.1,iA r.2])) (zaf [.old 0,.old 1]) ?_ ?_
   ·rintro s r h
    refine zf<|A ?_
    refine zeh h y (fun G h=>?_) fun G h=>?_
    ·refine ze<|zf<|zi ?_
     obtain ⟨v,q36,h⟩:=bs h
     refine A ?_
     refine zf ?_
     obtain ⟨v33,V,h⟩:=bs h
     refine A ?_
     refine u<|pcs (zdJ a v.Super V) y y (.cons (zbk y ⟨(zhE y (fun _=>y)),t⟩) (.cons (si y) .nil)) zbI<|A ?_
     refine zeh h y (fun H h=>?_) fun H h=>?_
     ·refine A ?_
      refine zy ?_
      obtain rfl:=sm h
      exact ⟨_,y,_,y,zad []⟩
     ·refine ze<|A ?_
      obtain ⟨o,ho,h⟩:=bs h
      refine lpS ho (fun z=>[(4,.mpt 0 0 0),(6,iA s),(7,.mpt 2 0 0),(8,iA z)]) (fun z=>[some (1,[[.msl 1 0 (length a)]]),some (6,map zc a),some (6,[(zc v)])]) (fun b=>[(4,.mpt 0 0 0),(6,iA s)]) (fun b=>[some (1,[[.msl 1 0 (length a)]]),some (6,map zc a)]) (pG Tryz.f28 (fun r=>.tup [ziT 1 zeJ r.1,iA r.2])) (zaf [.old 0,.old 1,.old 2]) ?_ ?_ ?_
      ·rintro v37 r h
       refine zf<|A ?_
       refine zeh h y (fun I h=>?_) fun I h=>?_
       ·refine ze<|zf<|zi ?_
        obtain ⟨W,q44,v39,Y,h⟩:=bs2 h
        refine A ?_
        refine u<|pcs (zdJ a W Y) y y (.cons (zbk y ⟨(zhE y (fun _=>y)),t⟩) (.cons (si y) .nil)) zbI<|A ?_
        refine zeh h y (fun J h=>?_) fun J h=>?_
        ·refine A ?_
         refine zy ?_
         obtain rfl:=sm h
         exact ⟨_,y,_,y,zad []⟩
        ·refine ze<|A ?_
         obtain rfl:=sm h
         exact ⟨_,y,zo [.old 0,.old 1,.old 2]⟩
       ·refine zq ?_
        obtain rfl:=sm h
        exact ⟨y,_,y,zo [.old 0,.old 1]⟩
      ·rintro ⟨⟩ rfl
       refine zn<|A ?_
       obtain rfl:=sm h
       exact ⟨_,y,zo [.old 0,.old 1]⟩
      ·rintro r' rfl env st hp
       obtain rfl:=sm h
       exact ⟨_,y,hp⟩
    ·refine zq ?_
     obtain rfl:=sm h
     exact ⟨y,_,y,zo [.old 0,.old 1]⟩
   ·rintro ⟨⟩ rfl
    refine zn<|zf<|A ?_
    obtain ⟨o,ho,h⟩:=bs h
    refine lpB ho (fun z=>[(4,.mpt 0 0 0),(9,iA z)]) (fun z=>[some (1,[[.msl 1 0 (length a)]]),some (6,map zc a)]) (fun b=>[(4,.mpt 0 0 0)]) (fun b=>[some (1,[[.msl 1 0 (length a)]]),some (6,map zc a)]) (pG Tryz.f28 (fun r=>.tup [ziT 1 zeJ r.1,iA r.2])) (zaf [.old 0,.old 1]) ?_ ?_
    ·rintro m r h
     refine zf<|A ?_
     refine zeh h y (fun K h=>?_) fun K h=>?_
     ·refine ze<|zf<|zi ?_
      obtain ⟨e,q65,h⟩:=bs h
      refine A ?_
      refine zal (X:=Bool) (fun z=>[(4,.mpt 0 0 0),(9,iA m),(10,.mpt 2 0 0),(11,bA z)]) (fun z=>[some (1,[[.msl 1 0 (length a)]]),some (6,map zc a),some (6,[(zc e)])]) (fun z=>zky a m e z=some r) ?_ ?_
      ·obtain ⟨v59,B,C,q67,h⟩:=bs2 h
       rcases bb C.Interface with i |i
       ·replace h:=bT i h
        exact rdQ [] [0,1,2,3,4,5,6,7,8,9,10,11,12,13,14,15,16] [(11,_),(121,_),(120,_),(119,_),(118,_),(117,_),(116,_),(115,_),(114,_),(113,_),(112,_),(111,_),(110,_),(109,_),(108,_),(107,_),(106,_)] 0 (zcw ⟨peC,peC,peC,peC,peC,peC,peC,(by exact pb y (pcs (zdJ a e.Super B) y y (.cons (zbk y ⟨(zhE y (fun _=>y)),t⟩) (.cons (si y) .nil)) zbI<|w)),peC,peC,peC,peC,peC,peC,peC,peC,peC,t⟩ (by exact ⟨true,h,zaf [.old 0,.old 1,.old 2]⟩))
       ·replace h:=bF i h
        obtain ⟨Z,q69,h⟩:=bs h
        exact rdQ [] [0,1,2,3,4,5,6,7,8,9,10,11,12,13,14,15,16] [(11,_),(121,_),(120,_),(119,_),(118,_),(117,_),(116,_),(115,_),(114,_),(113,_),(112,_),(111,_),(110,_),(109,_),(108,_),(107,_),(106,_)] 0 (zcw ⟨peC,peC,peC,peC,peC,peC,peC,(by exact pb y (pcs (zdJ a e.Super B) y y (.cons (zbk y ⟨(zhE y (fun _=>y)),t⟩) (.cons (si y) .nil)) zbI<|w)),peC,peC,peC,peC,peC,peC,(by exact fun _=>pag (b:=C.Interface) y y y y i y (pcs (zku a m q69) y y (.cons (zbk y ⟨(zhE y (fun _=>y)),t⟩) (.cons (si y) .nil)) zbI<|w)),peC,peC,t⟩ (by exact ⟨Z,h,zaf [.old 0,.old 1,.old 2]⟩))
      ·rintro v62 h
       refine zf<|A ?_
       obtain ⟨o,ho,h⟩:=bs h
       refine lpS ho (fun z=>[(4,.mpt 0 0 0),(9,iA m),(10,.mpt 2 0 0),(11,bA z.1),(12,iA z.2)]) (fun z=>[some (1,[[.msl 1 0 (length a)]]),some (6,map zc a),some (6,[(zc e)])]) (fun b=>[(4,.mpt 0 0 0),(9,iA m),(11,bA b)]) (fun b=>[some (1,[[.msl 1 0 (length a)]]),some (6,map zc a)]) (pG Tryz.f28 (fun r=>.tup [ziT 1 zeJ r.1,iA r.2])) (zaf [.old 0,.old 1,.old 2]) ?_ ?_ ?_
       ·rintro ⟨D,v69⟩ r h
        refine zf<|A ?_
        refine zeh h y (fun L h=>?_) fun L h=>?_
        ·refine ze<|zf<|zi ?_
         rcases bb D with l |l
         ·replace h:=bT l h
          refine zjQ [(4,_),(9,_),(10,_),(11,_),(12,_)] [some (1,[[.msl 1 0 (length a)]]),some (6,map zc a),some (6,[(zc e)])] [] [0,1,2,3,4,5,6,7,8,9,10,11,12,13,14,15,16,17,18] [(11,_),(146,_),(145,_),(144,_),(143,_),(142,_),(141,_),(140,_),(139,_),(138,_),(137,_),(136,_),(135,_),(134,_),(133,_),(132,_),(131,_),(130,_),(129,_)] 0 (zcw (z:=zaf [.old 0,.old 1,.old 2])) ?_
          refine A ?_
          obtain rfl:=sm h
          exact ⟨_,y,zo [.old 0,.old 1,.old 2]⟩
         ·replace h:=bF l h
          obtain ⟨v70,q77,v71,q78,v72,q79,h⟩:=bs3 h
          refine zjQ [(4,_),(9,_),(10,_),(11,_),(12,_)] [some (1,[[.msl 1 0 (length a)]]),some (6,map zc a),some (6,[(zc e)])] [] [0,1,2,3,4,5,6,7,8,9,10,11,12,13,14,15,16,17,18] [(11,_),(146,_),(145,_),(144,_),(143,_),(142,_),(141,_),(140,_),(139,_),(138,_),(137,_),(136,_),(135,_),(134,_),(133,_),(132,_),(131,_),(130,_),(129,_)] 0 (zcw ⟨peC,peC,peC,peC,peC,peC,peC,peC,peC,peC,peC,peC,(by exact fun _=>pag (b:=D) y y y y l y (pcs (zdJ a v70 q78) y y (.cons (zbk y ⟨(zhE y (fun _=>y)),t⟩) (.cons (si y) .nil)) zbI<|w)),peC,peC,peC,peC,peC,peC,t⟩ (zaf [.old 0,.old 1,.old 2])) ?_
          refine A ?_
          obtain rfl:=sm h
          exact ⟨_,y,zo [.old 0,.old 1,.old 2]⟩
        ·refine zq ?_
         obtain rfl:=sm h
         exact ⟨y,_,y,zo [.old 0,.old 1]⟩
       ·rintro v73 rfl
        refine zn<|A ?_
        refine zeh h y (fun M h=>?_) fun M h=>?_
        ·refine A ?_
         refine zy ?_
         obtain rfl:=sm h
         exact ⟨_,y,_,y,zad []⟩
        ·refine ze<|A ?_
         obtain rfl:=sm h
         exact ⟨_,y,zo [.old 0,.old 1]⟩
       ·rintro r' rfl env st hp
        obtain rfl:=sm h
        exact ⟨_,y,hp⟩
     ·refine zq ?_
      obtain rfl:=sm h
      exact ⟨y,_,y,zo [.old 0,.old 1]⟩
    ·rintro ⟨⟩ rfl
     refine zn<|A ?_
     refine zy ?_
     obtain rfl:=sm h
     exact ⟨_,y,[],zrA ⟨(rsP y y ⟨(zl9 y y (fun _=>y)),t⟩ y),(ci y),t⟩,y,t,y,k⟩⟩
theorem R.trunc{A:Nat→Prop}{m:BM}{w:World}{st:St}(hR:R A m w st){l k:Nat}{els:List (List AV)}(he:st[l]?=some (some (k,els)))(q:Nat)(hk:Nat.beq k 2=false):
  R A m w (st.set l (some (k,els.take q))):=by
 have hl:l<st.length:=(List.getElem?_eq_some_iff.1 he).1
 have hk2:k≠2:=fun e=>by subst e;cases hk
 refine ⟨hR.aLow,hR.aOwn,hR.inj,fun x b hb=>?_,fun x k' els' hx=>?_⟩
 ·by_cases e:l=x
  ·subst e
   exact ⟨els.take q,by rw [List.getElem?_set_self hl,(hR.at hb he).1]⟩
  ·obtain ⟨els1,h1⟩:=hR.live x b hb
   exact ⟨els1,by rw [List.getElem?_set_ne e];exact h1⟩
 ·rw [List.length_set]
  by_cases e:l=x
  ·subst e
   rw [List.getElem?_set_self hl] at hx
   cases hx
   obtain ⟨b,h1,h2,h3,h4⟩:=hR.blk l k els he
   refine ⟨b,h1,h2,fun hh=>?_,fun hh=>by rw [h4 hh];simp⟩
   have ho:=h3 hh
   refine ⟨ho.low,ho.there,ho.free,fun hq=>?_,fun i hi=>?_,fun hq i hi j hj=>?_,fun hq=>?_⟩
   ·refine Nat.le_trans (Nat.add_le_add_left (Nat.mul_le_mul_right _ ?_) _) (ho.fit hq)
    simp;omega
   ·simp only [List.getElem_take];exact ho.wide _ _
   ·simp only [List.getElem_take] at hj ⊢
    exact ho.val hq i (by simp at hi;omega) j hj
   ·exact absurd (h2.symm.trans (ho.mval hq).1) hk2
  ·rw [List.getElem?_set_ne e] at hx
   exact hR.blk x k' els' hx
theorem zyY{α:Type}{l r:List α}{c:Int}(h:zkM l 0 c=some r):r=l.take c.toNat:=by
 unfold zkM at h
 split at h
 ·cases h;simp
 ·cases h
section
variable {P : Program} {n nb0 : Nat} {all l1 l2 : List Oper} {K : Ev → St → Prop} {env : Ev} {st : St} {d : Nat} {ty : TypeId} {pos : String} {aft : Array Edge} {gu : Option (Nat × Bool)}
theorem zFM{α:Type}{cd:Code}{Q:Exit→Ev→St→Prop}{b sz:Nat}{l r:List α}{f:α→List AV}{c:Int}(hb:st[b]?=some (some (sz,l.map f)))(hk:Nat.beq sz 2=false)(h:zkM l 0 c=some r)
  (k:SW P n nb0 cd Q env (st.set b (some (sz,r.map f)))):SW P n nb0 cd Q env st:=by
 intro A m w a h0 hR hE
 have e:r.map f=(l.map f).take c.toNat:=by rw [zyY h,List.map_take]
 rw [e] at k
 have hlen:(st.set b (some (sz,(l.map f).take c.toNat))).length=st.length:=by simp
 exact k A m w a (by rw [hlen];exact h0) (hR.trunc hb c.toNat hk) (by rw [hlen];exact hE)
theorem slM{α:Type}{t e:TypeId}{x:Operand}{hi:Option Operand}{ti te:TI}{sz b:Nat}{l r:List α}{f:α→List AV}{c:Int}(ht:zcf P t=some ti)(hk:ti.k=.slc e)(he:zcf P e=some te)(hs:te.size=sz)(hx:ev env x=some (.msl b 0 l.length))
  (hb:st[b]?=some (some (sz,l.map f))) (hhi:zmx env l.length hi=some c.toNat) (h:zkM l 0 c=some r) (k:K ((d,.msl b 0 r.length)::env) st):SOp P ⟨some d,.slice t x none hi none,ty,pos,aft,gu⟩ env st K:=zgz rfl (by
   unfold zkM at h
   split at h
   ·rename_i h1
    cases h
    have e':zu7 (.msl b 0 l.length)=some l.length:=rfl
    have e0:zmx env 0 none=some 0:=rfl
    simp only [aop,ht,hk,hx,e',he,hhi,e0,zCt,hb]
    rw [if_pos ⟨hs.symm,by omega,by omega⟩]
    have:((l.drop (0:Int).toNat).take (c.toNat-(0:Int).toNat)).length=c.toNat-0:=by simp;omega
    rw [this];rfl
   ·cases h) k
theorem zGa{α:Type}{sz:Nat}{l:List α}{f:α→List AV}{i:Int}{c:α}(h:idx l i=some c)(k:SR P n nb0 all l1 l2 K ((d,.ipt sz [f c] 0 0)::env) st):SR P n nb0 all l1 l2 K ((d,.ipt sz (l.map f) i.toNat 0)::env) st:=by
 intro ops q ho hd hn A m w a h0 hR hE Q hQ
 obtain ⟨_,hi,hc⟩:=zaj h
 refine k ops q ho hd hn A m w a h0 hR ⟨hE.size,fun t v hl=>?_,hE.defers⟩ Q hQ
 simp only [look] at hl
 split at hl
 ·rename_i e
  cases hl
  obtain ⟨h1,h2⟩:=hE.val t (.ipt sz (l.map f) i.toNat 0) (by simp [look,e])
  refine ⟨h1,.imm ?_⟩
  have h3:=h2.ipt_inv
  generalize a.tmps.getD t undef=v at h3
  have hg:(l.map f)[i.toNat]'(by simpa using hi)=f c:=by
   have:=(List.getElem?_eq_some_iff.1 hc).2
   simp [this]
  cases h3 with
  |ipt _ _ _ _ B o vs hA hk hcell hval =>
   have:=VI.ipt (A:=A) (w:=w) sz [f c] 0 0 B (o+i.toNat*sz) (fun _ j=>vs i.toNat j) hA
    (fun i' hi'=>by
     have:i'=0:=by simpa using hi'
     subst this
     show (f c).length=sz
     rw [←hg];exact hk _ _)
    (fun i' j hi' hj=>by
     have:i'=0:=by simpa using hi'
     subst this
     rw [←hcell i.toNat j (by simpa using hi) hj]
     congr 2;omega)
    (fun i' hi' j hj=>by
     have:i'=0:=by simpa using hi'
     subst this
     have hj':j<((l.map f)[i.toNat]'(by simpa using hi)).length:=by rw [hg];exact hj
     have h5:=hval i.toNat (by simpa using hi) j hj'
     have e5:((l.map f)[i.toNat]'(by simpa using hi))[j]=(f c)[j]'hj:=by simp only [hg]
     rw [e5] at h5
     exact h5)
   simpa using this
 ·rename_i e
  exact hE.val t v (by simp [look,e,hl])
theorem zFH{α:Type}{t u' e:TypeId}{x y:Operand}{ti:TI}{sz:Nat}{l:List α}{f:α→List AV}(ht:zcf P t=some ti)(hk:ti.k=.slc e)(hx:ev env x=some (.isl sz (l.map f)))(hy:ev env y=some (.lit (.slice none 0 0)))
  (hh:(l=[]→SR P n nb0 all l1 l2 K ((d,.lit (.bool true))::env) st)∧SR P n nb0 all l1 l2 K ((d,.lit (.bool false))::env) st):SR P n nb0 all (⟨some d,.binOp .eql t x y u',ty,pos,aft,none⟩::l1) l2 K env st:=by
 obtain ⟨h1,h2⟩:=hh
 intro ops i ho hd hn A m w a h0 hR hE Q hQ
 obtain ⟨hi,hd',hdo⟩:=zFG ho hd hn
 have e:((⟨some d,.binOp .eql t x y u',ty,pos,aft,none⟩:Oper)::l1).length+l2.length=(l1.length+l2.length)+1:=by simp;omega
 rw [e,List.range'_succ]
 simp only [wpOps,hi]
 rw [zgK (b:=true) hE (by rfl)]
 simp only [if_true]
 refine .inl ?_
 obtain ⟨dd,i0,hdd,_,_,_,_,hdk,_⟩:=zbL ht
 rw [hk] at hdk
 have hds:=zla hdk
 subst hds
 have fin:∀b:Bool,(execOp a.eval ⟨some d,.binOp .eql t x y u',ty,pos,aft,none⟩).run P w=.ok (.value (.bool b)) w→SR P n nb0 all l1 l2 K ((d,.lit (.bool b))::env) st →
   Oper.wp P ⟨some d,.binOp .eql t x y u',ty,pos,aft,none⟩ a w (fun a' w'=>wpOps P ops Q (List.range' (i+1) (l1.length+l2.length)) a' w') Q:=fun b hr k=>by
  unfold Oper.wp
  rw [hr]
  refine k ops (i+1) ho hd' hn A m w _ h0 hR (hE.aput (d:=some d) hdo (.imm (.lit _))) Q fun a2 w2 k2=>?_
  have:=hQ a2 w2 k2
  rwa [List.length_cons,Nat.add_comm l1.length 1,←Nat.add_assoc] at this
 have run:∀(ad:Option Addr) (n1 c1:Nat),a.eval x=.slice ad n1 c1→(execOp a.eval ⟨some d,.binOp .eql t x y u',ty,pos,aft,none⟩).run P w=.ok (.value (.bool ad.isNone)) w:=fun ad n1 c1 hq=>by
  have hy':=(z2 hE hy).lit_inv
  have e1:=znz (P:=P) (w:=w) hdd ad n1 c1
  show ((do pure (.value (←(do eqGuard .eql t x y (a.eval x) (a.eval y);binOp .eql t (a.eval x) (a.eval y):Sem Value))):Sem Next).run P w)=_
  rw [hq,hy']
  simp only [Sem.run_bind,zmI,Result.andThen_ok,binOp,e1]
  rfl
 have hv:=(z2 hE hx).isl_inv
 generalize hg:l.map f=els at hv
 generalize hq:a.eval x=v at hv
 cases hv with
 |isl _ _ B o cap vs hA hcap hk hcell hval=>exact fin _ (run _ _ _ hq) h2
 |inil _ ad cap =>
  have hl:l=[]:=by simpa using hg
  cases ad with
  |none=>exact fin _ (run _ _ _ hq) (h1 hl)
  |some _=>exact fin _ (run _ _ _ hq) h2
theorem zFI{v v':AV}(e:v=v')(k:SR P n nb0 all l1 l2 K ((d,v')::env) st):SR P n nb0 all l1 l2 K ((d,v)::env) st:=by rw [e];exact k
end
theorem zz6{α:Type}{τ:Nat→Nat}{k:Nat}{f:α→List AV}{o:Option α}:rn τ (ziT k f o)=ziT k f o:=by cases o <;> rfl
def vK(h0:List za)(h1:T2)(c:T0)(m:zb)(x0:AV)(x1:AV)(x2:AV):List AV:=[.ipt 2 [[.isl 6 (map zc h0),.imp (map (rKV (fun x=>iA x)) h1)]] 0 0,sA c,sA m.Name,.isl 1 (map zw m.Params),sA m.Ret,bA m.Static,bA m.Abstract,iA m.Locals,iA m.Stack,.isl 4 (map zt m.Code),.isl 3 (map zK m.Maps),.isl 4 (map z6 m.Traps),x0,x1,x2]
abbrev sV(h0:List za)(h1:T2)(c:T0)(m:zb)(x y:T1)(b:Bool)(t:St):St:=some (15,[vK h0 h1 c m (.msl 1 0 x.length) (.msl 2 0 y.length) (bA b)])::some (1,x.map zw)::some (1,y.map zw)::t
abbrev sU(h0:List za)(h1:T2)(c:T0)(m:zb)(x y:T1)(b:Bool)(t:St):St:=some (15,[vK h0 h1 c m (.msl 1 0 x.length) (.msl 3 0 y.length) (bA b)])::some (1,x.map zw)::none ::some (1,y.map zw)::t
abbrev tV(h0:List za)(h1:T2)(c:T0)(m:zb)(x y:T1)(b:Bool)(t:List SB):List SB:=.one 15 (vK h0 h1 c m (.msl 1 0 x.length) (.msl 2 0 y.length) (bA b)):: .many 1 (x.map zw):: .many 1 (y.map zw)::t
abbrev tU(h0:List za)(h1:T2)(c:T0)(m:zb)(x y:T1)(b:Bool)(t:List SB):List SB:=.one 15 (vK h0 h1 c m (.msl 1 0 x.length) (.msl 3 0 y.length) (bA b)):: .many 1 (x.map zw):: .no :: .many 1 (y.map zw)::t
def zwD(a:T0):Unit:=
  ()
theorem zvD(a:T0){r:Unit}(h:zwD a=r):SC Tryz.prog 22 [sA a] [] (.agg [sA a,sA [79,98,106,101,99,116],bA false,.lit (.slice none 0 0),.msl 0 0 1,.msl 1 0 1]) [.xs 3 [[sA [120],sA [73],bA false]],.xs 10 [[sA [109,97,105,110],.lit (.slice none 0 0),sA [86],bA true,bA false,iA 0,iA 0,.msl 2 0 1,.lit (.slice none 0 0),.lit (.slice none 0 0)]],.xs 4 [[iA 46,iA 0,sA [],sA []]]]:=by
 refine ⟨⟨t,t,t,t⟩,zX Tryz.func22 y kz y ?_⟩
 unfold zwD at h
 refine A ?_
 refine A ?_
 refine zy ?_
 obtain rfl:=h
 exact ⟨_,y,zad [.old 1,.old 3,.old 2]⟩
def zwE:Unit:=
  ()
theorem zjM{r:Unit}(h:zwE=r):SC Tryz.prog 51 [] [] (.msl 0 0 3) [.xs 6 [[sA [70,97,99,101],sA [79,98,106,101,99,116],bA true,.lit (.slice none 0 0),.lit (.slice none 0 0),.msl 1 0 1],[sA [65,97],sA [79,98,106,101,99,116],bA false,.msl 2 0 1,.msl 3 0 2,.msl 4 0 1],[sA [66,98],sA [65,97],bA false,.lit (.slice none 0 0),.msl 6 0 1,.msl 7 0 1]],.xs 10 [[sA [102],.lit (.slice none 0 0),sA [73],bA false,bA true,iA 0,iA 0,.lit (.slice none 0 0),.lit (.slice none 0 0),.lit (.slice none 0 0)]],.xs 1 [[sA [70,97,99,101]]],.xs 3 [[sA [120],sA [73],bA false],[sA [115],sA [73],bA true]],.xs 10 [[sA [102],.lit (.slice none 0 0),sA [73],bA false,bA false,iA 1,iA 1,.msl 5 0 2,.lit (.slice none 0 0),.lit (.slice none 0 0)]],.xs 4 [[iA 1,iA 5,sA [],sA []],[iA 47,iA 0,sA [],sA []]],.xs 3 [[sA [121],sA [91,65,97],bA false]],.xs 10 [[sA [109,97,105,110],.lit (.slice none 0 0),sA [86],bA true,bA false,iA 0,iA 0,.msl 8 0 1,.lit (.slice none 0 0),.lit (.slice none 0 0)]],.xs 4 [[iA 46,iA 0,sA [],sA []]]]:=by
 refine ⟨⟨t,t,t,t,t,t,t,t,t,t⟩,zX Tryz.func51 y kz y ?_⟩
 unfold zwE at h
 refine A ?_
 refine A ?_
 refine rg y<|u<|bl 2 ti y ti y (by decide) (by decide) y y y<|u<|bd ti y y y<|u<|bd ti y y y<|u<|bl 3 ti y ti y (by decide) (by decide) y y y<|u<|bd ti y y y<|u<|bd ti y y y<|u<|bl 4 ti y ti y (by decide) (by decide) y y y<|u<|bd (parts:=[(0,sA [102]),(2,sA [73]),(5,iA 1),(6,iA 1),(7,.msl 4 0 2)]) (cs:=[sA [102],.lit (.slice none 0 0),sA [73],bA false,bA false,iA 1,iA 1,.msl 4 0 2,.lit (.slice none 0 0),.lit (.slice none 0 0)]) ti y y kz<|u<|bl 5 ti y ti y (by decide) (by decide) y y y<|u<|bd (parts:=[(0,sA [65,97]),(1,sA [79,98,106,101,99,116]),(3,.msl 2 0 1),(4,.msl 3 0 2),(5,.msl 5 0 1)]) (cs:=[sA [65,97],sA [79,98,106,101,99,116],bA false,.msl 2 0 1,.msl 3 0 2,.msl 5 0 1]) ti y y kz<|u<|al 6 ti y<|u<|sto ti y y y<|zx ?_
 refine rg y<|u<|sx [] (zvD [66,98] y)<|u<|al 10 ti y<|A ?_
 refine A ?_
 refine A ?_
 refine u<|bl 11 ti y ti y (by decide) (by decide) y y y<|A ?_
 refine A ?_
 refine u<|bl 12 ti y ti y (by decide) (by decide) y y y<|A ?_
 refine zy ?_
 obtain rfl:=h
 exact ⟨_,y,zad [.old 12,.old 0,.old 2,.old 3,.old 5,.old 4,.old 11,.old 8,.old 9]⟩
def znt:Bool:=
  true
theorem zoV{r:Bool}(h:znt=r):zam Tryz.prog 76 [] (bA r):=by
 refine zh Tryz.func76 y kz y y ?_
 unfold znt at h
 refine A ?_
 refine rg y<|u<|pc (zs4 y) y y y<|u<|asg y<|zx ?_
 refine zy ?_
 obtain rfl:=h
 exact ⟨_,y,zad []⟩
instance:PF Tryz.prog 76 [] (some (znt)) bA:=.of fun _=>zoV 
def zO(a:List za)(b:T2)(c:T0):Option (za×Bool):=
  cond (!(zbm a b c)) (some ((za.mk [] [] false [] [] []),false)) ((zdC a b c).bind fun d=>some (d,true))
theorem ziO(a:List za)(b:T2)(c:T0){r:za×Bool}(h:zO a b c=some r):zam Tryz.prog 63 [.ipt 2 [[.isl 6 (map zc a),.imp (map (rKV (fun x=>iA x)) b)]] 0 0,sA c] (.tup [.agg (zc r.1),bA r.2]):=by
 refine zh Tryz.func63 y kz y y<|A ?_
 refine zf<|A ?_
 refine zeh h y (fun d h=>?_) fun d h=>?_
 ·refine A ?_
  exact RT0
 ·refine ze ?_
  obtain ⟨e,f,h⟩:=bs h
  refine A ?_
  exact RT0
instance (a:List za)(b:T2)(c:T0):PF Tryz.prog 63 [.ipt 2 [[.isl 6 (map zc a),.imp (map (rKV (fun x=>iA x)) b)]] 0 0,sA c] (zO a b c) (fun r=>(.tup [.agg (zc r.1),bA r.2])):=⟨fun _=>ziO a b c⟩
def ziQ(b:List za)(c:T2)(a:T0):Option (Bool):=
  some ((a == [73])||(zbm b c a))
def zdG(d:T0)(a:T0)(c:Bool):Option (Sum (T0×T0×Bool) (Sum (T0) (Bool))):=
  cond c ((zhh a).bind fun b=>some (.inl (a,b.1,b.2))) (some (.inr (.inl d)))
def zfc(d:List za)(e:T2)(a:T0):Option (Bool):=
  (zhh a).bind fun c=>(zl (fun z=>zdG z.1 z.2.1 z.2.2) (a,c.1,c.2)).bind fun o=>zD o (fun b=>ziQ d e b) some
instance (c:List za)(d:T2)(e:T0):PF Tryz.prog 134 [.ipt 2 [[.isl 6 (map zc c),.imp (map (rKV (fun x=>iA x)) d)]] 0 0,sA e] (zfc c d e) bA:=⟨fun r h=>by
 refine zh Tryz.func134 y kz y y<|A ?_
 refine zf ?_
 obtain ⟨p,q,h⟩:=bs h
 refine A ?_
 obtain ⟨o,ho,h⟩:=bs h
 refine lpB ho (fun z=>[(0,.ipt 2 [[.isl 6 (map zc c),.imp (map (rKV (fun x=>iA x)) d)]] 0 0),(1,sA z.1),(5,sA z.2.1),(6,bA z.2.2)]) (fun z=>[]) (fun b=>[(0,.ipt 2 [[.isl 6 (map zc c),.imp (map (rKV (fun x=>iA x)) d)]] 0 0),(1,sA b)]) (fun b=>[]) (pG Tryz.f134 bA) (zaf []) ?_ ?_
 ·rintro ⟨s,l,m⟩ r h
  refine zf<|A ?_
  refine zeh h y (fun f h=>?_) fun f h=>?_
  ·refine ze<|zf<|zi<|A ?_
   obtain ⟨n,v,h⟩:=bs h
   refine A ?_
   obtain rfl:=sm h
   exact ⟨_,y,zo []⟩
  ·refine zq ?_
   obtain rfl:=sm h
   exact ⟨y,_,y,zo []⟩
 ·rintro i rfl
  refine zn ?_
  refine rg y<|u<|mv y<|u<|nep ti y y y y y y<|u<|mv y<|g y y<|mv y<|g y y<|seq ti y y<|g y y<|mv y<|ztr (j:=5) 3 y y y y y (gps y y y) (fun a=>g y a<|mv y<|g y a<|mv y<|g y a<|pc (zl3 c d i y) y y y<|zx (egO [25,26,27] 3 a y y y y)) orT<|u<|pk (b:=true) y y<|u<|asg y<|zx ?_
  exact RT0⟩
def zme(a:T1):Option (T1):=
  some a
def zby(b:List za)(c:T2)(a:T0)(d:T1):Option (Sum (T0×T1) (Sum (T1) (T1))):=
  cond (zbm b c a) ((zh9 16 d [a]).bind fun e=>(zdC b c a).bind fun f=>some (.inl (f.Super,e))) (some (.inr (.inl d)))
def zaH(a:List za)(c:T2)(d:T0):Option (T1):=
  (zl (fun z=>zby a c z.1 z.2) (d,[])).bind fun o=>zD o (fun b=>zme b) some
theorem za1(a:List za)(c:T2)(d:T0){r:T1}(h:zaH a c d=some r):SC Tryz.prog 66 [.ipt 2 [[.isl 6 (map zc a),.imp (map (rKV (fun x=>iA x)) c)]] 0 0,sA d] [] (.msl 0 0 (length r)) [.many 1 (map zw r)]:=by
 refine ⟨⟨zia (sz:=1) (fun _=>y),t⟩,zX Tryz.func66 y kz y ?_⟩
 refine A ?_
 refine A ?_
 obtain ⟨o,ho,h⟩:=bs h
 refine lpA ho (fun z=>[(0,.ipt 2 [[.isl 6 (map zc a),.imp (map (rKV (fun x=>iA x)) c)]] 0 0),(1,sA z.1),(5,.msl 0 0 (length z.2))]) (fun z=>[some (1,map zw z.2)]) (fun b=>[(5,.msl 0 0 (length b))]) (fun b=>[some (1,map zw b)]) (pF Tryz.f66 (fun r=>.msl 0 0 (length r)) fun r=>[some (1,map zw r)]) ⟨[.fresh 1],ce y y<|ce y y<|cv y (.nilown y)<|cn,y,⟨w,t⟩,y,k⟩ ?_ ?_
 ·rintro ⟨i,p⟩ r h
  refine zf<|A ?_
  refine zeh h y (fun e h=>?_) fun e h=>?_
  ·refine ze<|zi ?_
   obtain ⟨l,j,h⟩:=bs h
   refine A ?_
   refine u<|apM 2 ti y ti y y (by decide) ti y y y y (roX (f:=zw) (z:=[i]) y y) (fun _=>y) y j<|A ?_
   obtain ⟨m,q,h⟩:=bs h
   refine A ?_
   obtain rfl:=sm h
   exact ⟨_,y,zo [.old 2]⟩
  ·refine zq ?_
   obtain rfl:=sm h
   exact ⟨y,_,y,zo [.old 0]⟩
 ·rintro n rfl
  refine A ?_
  exact RT1
def zih(a:T1):Option (T1):=
  (zyd a).bind fun b=>some b
def zif(a:Int)(b:T1)(c:T1):Option (Sum (T1×T1×Int) (Sum (T1) (T1))):=
  some (.inl (b,c,(IntKind.i64.wrap (a+1))))
def zfa(a:Int)(b:T1):Option (Sum (T1×Int) (Sum (T1) (T1))):=
  some (.inl (b,(IntKind.i64.wrap (a+1))))
def zdF(c:za)(a:T1)(b:Int):Option (Sum (T1×Int) (Sum (T1) (T1))):=
  cond (decide (b<(length c.Impl:Int))) ((idx c.Impl b).bind fun d=>(zP a d).bind fun e=>cond (!e) ((zh9 16 a [d]).bind fun f=>zfa b f) (zfa b a)) (some (.inr (.inl a)))
def zdE(a:T1)(c:Int)(d:za)(e:T1):Option (Sum (T1×T1×Int) (Sum (T1) (T1))):=
  (zl (fun z=>zdF d z.1 z.2) (a,0)).bind fun o=>zD o (fun b=>zif c e b) (fun r=>some (.inr (.inr r)))
def zbx(i:List za)(j:T2)(d:T1)(a:T1)(b:Int):Option (Sum (T1×T1×Int) (Sum (T1) (T1))):=
  cond (decide (b<((length a):Int))) ((idx a b).bind fun e=>(zdC i j e).bind fun c=>cond c.Interface ((zh9 16 d [c.Name]).bind fun f=>zdE a b c f) (zdE a b c d)) (some (.inr (.inl d)))
def zdZ(a:List za)(c:T2)(d:T0):Option (T1):=
  cond (!(zbm a c d)) (some []) ((zaH a c d).bind fun e=>(zl (fun z=>zbx a c z.1 z.2.1 z.2.2) ([],e,0)).bind fun o=>zD o (fun b=>zih b) some)
theorem zgM(d:List za)(e:T2)(s:T0){r:T1}(h:zdZ d e s=some r):SC Tryz.prog 136 [.ipt 2 [[.isl 6 (map zc d),.imp (map (rKV (fun x=>iA x)) e)]] 0 0,sA s] [] (.msl 0 0 (length r)) [.many 1 (map zw r)]:=by
 refine ⟨⟨zia (sz:=1) (fun _=>y),t⟩,zX Tryz.func136 y kz y ?_⟩
 refine A ?_
 refine zf<|A ?_
 refine zeh h y (fun E h=>?_) fun E h=>?_
 ·refine A ?_
  refine zy ?_
  obtain rfl:=sm h
  exact ⟨_,y,[.fresh 1],.nilown y,y,⟨w,t⟩,y,k⟩
 ·refine ze<|A ?_
  obtain ⟨F,N,h⟩:=bs h
  refine A ?_
  refine u<|sx [] (za1 d e s N)<|zv (env0:=[(0,.ipt 2 [[.isl 6 (map zc d),.imp (map (rKV (fun x=>iA x)) e)]] 0 0),(5,.lit (.slice none 0 0)),(17,.msl 0 0 (length F))]) (st0:=[some (1,map zw F)]) (zo [.old 0])<|A ?_
  refine zf<|A ?_
  obtain ⟨o,ho,h⟩:=bs h
  refine lpB ho (fun z=>[(0,.ipt 2 [[.isl 6 (map zc d),.imp (map (rKV (fun x=>iA x)) e)]] 0 0),(5,.msl 0 0 (length z.1)),(6,.msl 1 0 (length z.2.1)),(7,iA z.2.2)]) (fun z=>[some (1,map zw z.1),some (1,map zw z.2.1)]) (fun b=>[(5,.msl 0 0 (length b))]) (fun b=>[some (1,map zw b)]) (pF Tryz.f136 (fun r=>.msl 0 0 (length r)) fun r=>[some (1,map zw r)]) ⟨[.fresh 1,.old 0],ce y y<|cv y (.nilown y)<|cv y (.msl y)<|ce y y<|cn,y,⟨w,⟨_,y,zi8 (fun _=>y)⟩,t⟩,y,k⟩ ?_ ?_
  ·rintro ⟨G,j,i⟩ r h
   refine zf<|A ?_
   refine zeh h y (fun v h=>?_) fun v h=>?_
   ·refine ze<|zf<|zi ?_
    obtain ⟨O,P,a,Q,h⟩:=bs2 h
    refine A ?_
    refine zal (X:=T1) (fun z=>[(0,.ipt 2 [[.isl 6 (map zc d),.imp (map (rKV (fun x=>iA x)) e)]] 0 0),(5,.msl 0 0 (length z)),(6,.msl 1 0 (length j)),(7,iA i),(8,.mpt 2 0 0)]) (fun z=>[some (1,map zw z),some (1,map zw j),some (6,[(zc a)])]) (fun z=>zdE j i a z=some r) ?_ ?_
    ·refine A ?_
     refine zeh h y (fun B h=>?_) fun B h=>?_
     ·obtain ⟨H,I,h⟩:=bs h
      refine A ?_
      refine u<|apM 4 ti y ti y y (by decide) ti y y y y (roX (f:=zw) (z:=[a.Name]) y y) (fun _=>y) y I<|A ?_
      exact (⟨H,h,zo [.old 4,.old 1,.old 2]⟩)
     ·refine ze ?_
      exact ⟨G,h,zo [.old 0,.old 1,.old 2]⟩
    ·rintro c h
     refine A ?_
     obtain ⟨o,ho,h⟩:=bs h
     refine lpS ho (fun z=>[(0,.ipt 2 [[.isl 6 (map zc d),.imp (map (rKV (fun x=>iA x)) e)]] 0 0),(5,.msl 0 0 (length c)),(6,.msl 1 0 (length z.1)),(7,iA i),(38,.isl 1 (map zw a.Impl)),(39,iA (length a.Impl:Int)),(40,iA z.2)]) (fun z=>[some (1,map zw c),some (1,map zw z.1)]) (fun b=>[(0,.ipt 2 [[.isl 6 (map zc d),.imp (map (rKV (fun x=>iA x)) e)]] 0 0),(5,.msl 0 0 (length c)),(6,.msl 1 0 (length b)),(7,iA i)]) (fun b=>[some (1,map zw c),some (1,map zw b)]) (pF Tryz.f136 (fun r=>.msl 0 0 (length r)) fun r=>[some (1,map zw r)]) (zaf [.old 0,.old 1]) ?_ ?_ ?_
     ·rintro ⟨l,m⟩ r h
      refine A ?_
      refine zf ?_
      refine zeh h y (fun C h=>?_) fun C h=>?_
      ·refine ze ?_
       refine zal (X:=T1) (fun z=>[(0,.ipt 2 [[.isl 6 (map zc d),.imp (map (rKV (fun x=>iA x)) e)]] 0 0),(5,.msl 0 0 (length c)),(6,.msl 1 0 (length z)),(7,iA i),(38,.isl 1 (map zw a.Impl)),(39,iA (length a.Impl:Int)),(40,iA m)]) (fun z=>[some (1,map zw c),some (1,map zw z)]) (fun z=>zfa m z=some r) ?_ ?_
       ·refine zi ?_
        obtain ⟨n,R,h⟩:=bs h
        refine A ?_
        obtain ⟨S,J,h⟩:=bs h
        refine rg y<|u<|mv y<|u<|mv y<|u<|pcs (zaw l n J) y y (.cons (zhE y (fun _=>y)) (.cons (si y) .nil)) zbI<|A ?_
        refine zeh h y (fun D h=>?_) fun D h=>?_
        ·obtain ⟨K,L,h⟩:=bs h
         refine A ?_
         refine u<|apM 3 ti y ti y y (by decide) ti y y y y (roX (f:=zw) (z:=[n]) y y) (fun _=>y) y L<|A ?_
         exact (⟨K,h,zo [.old 0,.old 3]⟩)
        ·refine ze ?_
         exact ⟨l,h,zo [.old 0,.old 1]⟩
       ·rintro T h
        refine A ?_
        obtain rfl:=sm h
        exact ⟨_,y,zo [.old 0,.old 1]⟩
      ·refine zq ?_
       obtain rfl:=sm h
       exact ⟨y,_,y,zo [.old 0,.old 1]⟩
     ·rintro U rfl
      refine zn<|A ?_
      obtain rfl:=sm h
      exact ⟨_,y,zo [.old 0,.old 1]⟩
     ·rintro r' rfl env st hp
      obtain rfl:=sm h
      exact ⟨_,y,hp⟩
   ·refine zq ?_
    obtain rfl:=sm h
    exact ⟨y,_,y,zo [.old 0]⟩
  ·rintro M rfl
   refine zn ?_
   obtain ⟨p,q,h⟩:=bs h
   refine rg y<|u<|mv y<|u<|sx [0] (zB6 M q)<|zv (env0:=[(5,.msl 0 0 (length p))]) (st0:=[some (1,map zw p)]) ⟨[.old 0],cv y (zEK (zAb q) y)<|cn,y,⟨⟨_,y,zi8 (fun _=>y)⟩,t⟩,y,k⟩<|zx ?_
   refine A ?_
   exact RT1
def zb2(q:((List za)×T2×T0×T0→Option Bool))(b:List za)(c:T2)(d:T0)(a:T0):Option (Bool):=
  (zfc b c d).bind fun s=>(cond (!s) (some true) ((zfc b c a).bind fun v=>some (!v))).bind fun x=>cond x (some false) ((zhh d).bind fun e=>(zhh a).bind fun f=>cond (d == a) (some true) (cond (e.2&&f.2) ((cond ((!(e.1 == [73]))&&(!(f.1 == [73]))) ((q (b,c,e.1,f.1)).bind fun i=>some i) (some false)).bind fun j=>some j) (cond e.2 (some (a == [79,98,106,101,99,116])) ((zaH b c d).bind fun l=>(zP l a).bind fun m=>(cond m (some true) ((zdZ b c d).bind fun n=>(zP n a).bind fun o=>some o)).bind fun p=>some p))))
theorem zmK(p:((List za)×T2×T0×T0→Option Bool))(hrec:∀z r,p z=some r→zam Tryz.prog 82 [.ipt 2 [[.isl 6 (map zc z.1),.imp (map (rKV (fun x=>iA x)) z.2.1)]] 0 0,sA z.2.2.1,sA z.2.2.2] (bA r))(e:List za)(f:T2)(i:T0)(l:T0){r:Bool}(h:zb2 p e f i l=some r):zam Tryz.prog 82 [.ipt 2 [[.isl 6 (map zc e),.imp (map (rKV (fun x=>iA x)) f)]] 0 0,sA i,sA l] (bA r):=by
 refine zh Tryz.func82 y kz y y<|A ?_
 refine zf ?_
 obtain ⟨N,O,P,Q,h⟩:=bs2 h
 refine A ?_
 refine zeh h y (fun q h=>?_) fun q h=>?_
 ·refine A ?_
  exact RT0
 ·refine ze ?_
  obtain ⟨I,R,h⟩:=bs h
  refine A ?_
  obtain ⟨J,S,h⟩:=bs h
  refine A ?_
  refine zf<|zi<|A ?_
  refine zeh h y (fun s h=>?_) fun s h=>?_
  ·refine A ?_
   exact RT0
  ·refine A ?_
   refine zeh h y (fun n h=>?_) fun n h=>?_
   ·obtain ⟨v,d,h⟩:=bs h
    refine A ?_
    refine ziU (x:=v) (j:=6) 4 y y y y y gpn (fun c=>by replace d:=bT c d;obtain ⟨K,B,d⟩:=bs d;obtain rfl:=sm d;exact g y c<|mv y<|g y c<|mv y<|g y c<|mv y<|g y c<|pc (hrec (e,f,I.1,J.1) _ B) y y y<|zx (eg [47,48,49,50] 4 y y y y)) (fun hb=>(sm (bF hb d)).symm)<|A ?_
    exact RT0
   ·refine A ?_
    refine zeh h y (fun o h=>?_) fun o h=>?_
    ·refine A ?_
     exact RT0
    ·refine ze ?_
     obtain ⟨m,C,L,D,E,b,h⟩:=bs3 h
     refine A ?_
     refine u<|sx [] (za1 e f i C)<|zv (env0:=[(0,.ipt 2 [[.isl 6 (map zc e),.imp (map (rKV (fun x=>iA x)) f)]] 0 0),(1,sA i),(2,sA l),(58,.msl 0 0 (length m))]) (st0:=[some (1,map zw m)]) (zo [.old 0])<|u<|mv y<|u<|pcs (zaw m l D) y y (.cons (zhE y (fun _=>y)) (.cons (si y) .nil)) zbI<|u<|mv y<|zEY (x:=E) (j:=5) 5 1 y y y y y gpn (fun a=>by replace b:=bF a b;obtain ⟨F,G,b⟩:=bs b;obtain ⟨M,H,b⟩:=bs b;obtain rfl:=sm b;exact g y a<|mv y<|g y a<|mv y<|g y a<|sx [] (zgM e f i G)<|g y a<|mv y<|g y a<|pcs (zaw F l H) y y (.cons (zhE y (fun _=>y)) (.cons (si y) .nil)) zbI<|zx (xg [62,63,64,65,66] 5 y y y y y y)) (fun hb=>(sm (bT hb b)).symm)<|A ?_
     exact RT0
def zch(a:List za)(b:T2)(c:T0)(d:T0):Option Bool:=
  zDX (fun e z=>zb2 e z.1 z.2.1 z.2.2.1 z.2.2.2) (a,b,c,d)
theorem zc9(b:List za)(c:T2)(d:T0)(e:T0){r:Bool}(h:zch b c d e=some r):zam Tryz.prog 82 [.ipt 2 [[.isl 6 (map zc b),.imp (map (rKV (fun x=>iA x)) c)]] 0 0,sA d,sA e] (bA r):=
  zz0 (F:=(fun a z=>zb2 a z.1 z.2.1 z.2.2.1 z.2.2.2)) (Q:=fun z r=>zam Tryz.prog 82 [.ipt 2 [[.isl 6 (map zc z.1),.imp (map (rKV (fun x=>iA x)) z.2.1)]] 0 0,sA z.2.2.1,sA z.2.2.2] (bA r)) (fun a hv z r h=>zmK a hv z.1 z.2.1 z.2.2.1 z.2.2.2 h) h
def zdD(b:List za)(c:T2)(a:T0):Option (Bool):=
  (cond ((a == [78])||(a == [84])) (some true) ((zch b c a a).bind fun d=>some d)).bind fun e=>some e
instance (f:List za)(i:T2)(e:T0):PF Tryz.prog 79 [.ipt 2 [[.isl 6 (map zc f),.imp (map (rKV (fun x=>iA x)) i)]] 0 0,sA e] (zdD f i e) bA:=⟨fun r h=>by
 refine zh Tryz.func79 y kz y y<|A ?_
 obtain ⟨l,c,h⟩:=bs h
 refine rg y<|u<|mv y<|u<|nep ti y y y y y y<|u<|mv y<|g y y<|mv y<|g y y<|seq ti y y<|g y y<|mv y<|ztr (j:=5) 2 y y y y y (gps y y y) (fun d=>g y d<|mv y<|g y d<|seq ti y y<|zx (egO [11,12] 2 d y y y y)) orT<|g y y<|mv y<|ztr (x:=l) (j:=9) 4 y y y y y (gps y y y) (fun a=>by replace c:=bF a c;obtain ⟨n,m,c⟩:=bs c;obtain rfl:=sm c;exact g y a<|mv y<|g y a<|mv y<|g y a<|mv y<|g y a<|pc (zc9 f i e e m) y y y<|zx (eg [15,16,17,18] 4 y y y y)) (fun hb=>(sm (bT hb c)).symm)<|u<|pk (b:=true) y y<|u<|asg y<|zx ?_
 exact RT0⟩
def zkc(a:T0)(b:List za)(c:T2):Option (Bool):=
  (zdD b c a).bind fun d=>some d
instance (a:T0)(b:List za)(c:T2):PF Tryz.prog 78 [sA a,.ipt 1 [[.ipt 2 [[.isl 6 (map zc b),.imp (map (rKV (fun x=>iA x)) c)]] 0 0]] 0 0] (zkc a b c) bA:=⟨fun r h=>by
 refine zh Tryz.func78 y kz y y<|A ?_
 obtain ⟨d,e,h⟩:=bs h
 refine A ?_
 exact RT0⟩
def znh(a:T0)(b:List za)(c:T2):Option (Bool):=
  (zkc a b c).bind fun d=>some (!d)
instance (a:T0)(b:List za)(c:T2):PF Tryz.prog 133 [sA a,.ipt 1 [[.fn (.func 78) [] [.ipt 1 [[.ipt 2 [[.isl 6 (map zc b),.imp (map (rKV (fun x=>iA x)) c)]] 0 0]] 0 0]]] 0 0] (znh a b c) bA:=⟨fun r h=>by
 refine zh Tryz.func133 y kz y y<|A ?_
 obtain ⟨d,e,h⟩:=bs h
 refine A ?_
 exact RT0⟩
def zey:Option (Int):=
  some (-1)
def zbh(b:T1)(c:List za)(d:T2)(a:Int):Option (Sum (Int) (Sum (Unit) (Int))):=
  cond (decide (a<(length b:Int))) ((idx b a).bind fun e=>(znh e c d).bind fun f=>cond f (some (.inr (.inr a))) (some (.inl (IntKind.i64.wrap (a+1))))) (some (.inr (.inl ())))
def zcN(a:T1)(c:List za)(d:T2):Option (Int):=
  (zl (fun z=>zbh a c d z) 0).bind fun o=>zD o (fun b=>zey) some
instance (a:T1)(c:List za)(d:T2):PF Tryz.prog 110 [.isl 1 (map zw a),.fn (.func 133) [] [.ipt 1 [[.fn (.func 78) [] [.ipt 1 [[.ipt 2 [[.isl 6 (map zc c),.imp (map (rKV (fun x=>iA x)) d)]] 0 0]] 0 0]]] 0 0]] (zcN a c d) iA:=⟨fun r h=>by
 refine zh Tryz.func110 y kz y y<|A ?_
 refine zf<|A ?_
 obtain ⟨o,ho,h⟩:=bs h
 refine lpB ho (fun z=>[(0,.isl 1 (map zw a)),(1,.fn (.func 133) [] [.ipt 1 [[.fn (.func 78) [] [.ipt 1 [[.ipt 2 [[.isl 6 (map zc c),.imp (map (rKV (fun x=>iA x)) d)]] 0 0]] 0 0]]] 0 0]),(7,iA (length a:Int)),(8,iA z)]) (fun z=>[]) (fun b=>[]) (fun b=>[]) (pG Tryz.f110 iA) (zaf []) ?_ ?_
 ·rintro i r h
  refine A ?_
  refine zf ?_
  refine zeh h y (fun e h=>?_) fun e h=>?_
  ·refine ze<|zf<|zi<|A ?_
   obtain ⟨j,l,m,n,h⟩:=bs2 h
   refine A ?_
   refine zeh h y (fun f h=>?_) fun f h=>?_
   ·refine A ?_
    refine zy ?_
    obtain rfl:=sm h
    exact ⟨_,y,_,y,zad []⟩
   ·refine ze<|A ?_
    obtain rfl:=sm h
    exact ⟨_,y,zo []⟩
  ·refine zq ?_
   obtain rfl:=sm h
   exact ⟨y,_,y,zo []⟩
 ·rintro ⟨⟩ rfl
  refine zn<|A ?_
  exact RT0⟩
def zba(a:T1)(b:List za)(c:T2):Option (Bool):=
  (zcN a b c).bind fun d=>some (decide (0≤d))
theorem zdT(a:T1)(b:List za)(c:T2){r:Bool}(h:zba a b c=some r):zam Tryz.prog 56 [.isl 1 (map zw a),.fn (.func 133) [] [.ipt 1 [[.fn (.func 78) [] [.ipt 1 [[.ipt 2 [[.isl 6 (map zc b),.imp (map (rKV (fun x=>iA x)) c)]] 0 0]] 0 0]]] 0 0]] (bA r):=by
 refine zh Tryz.func56 y kz y y<|A ?_
 obtain ⟨d,e,h⟩:=bs h
 refine A ?_
 exact RT0
instance (a:T1)(b:List za)(c:T2):PF Tryz.prog 56 [.isl 1 (map zw a),.fn (.func 133) [] [.ipt 1 [[.fn (.func 78) [] [.ipt 1 [[.ipt 2 [[.isl 6 (map zc b),.imp (map (rKV (fun x=>iA x)) c)]] 0 0]] 0 0]]] 0 0]] (zba a b c) bA:=⟨fun _=>zdT a b c⟩
def zjA(a:T1)(b:List za)(c:T2):Option (Bool):=
  (zba a b c).bind fun d=>some (!d)
theorem zlS(a:T1)(b:List za)(c:T2){r:Bool}(h:zjA a b c=some r):zam Tryz.prog 81 [.isl 1 (map zw a),.fn (.func 78) [] [.ipt 1 [[.ipt 2 [[.isl 6 (map zc b),.imp (map (rKV (fun x=>iA x)) c)]] 0 0]] 0 0]] (bA r):=by
 refine zh Tryz.func81 y kz y y<|A ?_
 obtain ⟨e,d,h⟩:=bs h
 refine A ?_
 refine u<|pcs (zdT a b c d) y y (.cons (si y) (.cons (zfZ t ⟨(zbk y ⟨(si y),t⟩),t⟩) .nil)) zbI<|A ?_
 exact RT0
instance (a:T1)(b:List za)(c:T2):PF Tryz.prog 81 [.isl 1 (map zw a),.fn (.func 78) [] [.ipt 1 [[.ipt 2 [[.isl 6 (map zc b),.imp (map (rKV (fun x=>iA x)) c)]] 0 0]] 0 0]] (zjA a b c) bA:=⟨fun _=>zlS a b c⟩
def zkf(a:List za)(b:T2)(c:T0)(d:zb)(e:T1)(f:T1)(i:Bool)(j:Bool):Unit:=
  ()
theorem zu(a:List za)(b:T2)(c:T0)(d:zb)(e:T1)(f:T1)(i:Bool)(j:Bool){r:Unit}(h:zkf a b c d e f i j=r):SC Tryz.prog 80 [.mpt 0 0 0,bA j] (tV a b c d e f i []) (.tup []) (tV a b c d e f (i||(!j)) []):=by
 refine ⟨⟨t,zia (sz:=1) (fun _=>y),zia (sz:=1) (fun _=>y),t⟩,zX Tryz.func80 y kz y ?_⟩
 unfold zkf at h
 refine A ?_
 obtain rfl:=h
 exact ⟨_,y,zad [.old 0,.old 1,.old 2]⟩
def zkd(a:T0)(b:List za)(c:T2):Option (Bool):=
  (zch b c a a).bind fun d=>some d
instance (a:T0)(b:List za)(c:T2):PF Tryz.prog 83 [sA a,.ipt 1 [[.ipt 2 [[.isl 6 (map zc b),.imp (map (rKV (fun x=>iA x)) c)]] 0 0]] 0 0] (zkd a b c) bA:=⟨fun r h=>by
 refine zh Tryz.func83 y kz y y<|A ?_
 obtain ⟨e,d,h⟩:=bs h
 refine rg y<|u<|ld ti y y<|u<|mv y<|u<|mv y<|u<|pc (zc9 b c a a d) y y y<|u<|asg y<|zx ?_
 exact RT0⟩
def zke(a:T0)(b:List za)(c:T2):Option (Bool):=
  (zkd a b c).bind fun d=>some (!d)
instance (a:T0)(b:List za)(c:T2):PF Tryz.prog 133 [sA a,.ipt 1 [[.fn (.func 83) [] [.ipt 1 [[.ipt 2 [[.isl 6 (map zc b),.imp (map (rKV (fun x=>iA x)) c)]] 0 0]] 0 0]]] 0 0] (zke a b c) bA:=⟨fun r h=>by
 refine zh Tryz.func133 y kz y y<|A ?_
 obtain ⟨d,e,h⟩:=bs h
 refine A ?_
 exact RT0⟩
def zez:Option (Int):=
  some (-1)
def zbi(b:T1)(c:List za)(d:T2)(a:Int):Option (Sum (Int) (Sum (Unit) (Int))):=
  cond (decide (a<(length b:Int))) ((idx b a).bind fun e=>(zke e c d).bind fun f=>cond f (some (.inr (.inr a))) (some (.inl (IntKind.i64.wrap (a+1))))) (some (.inr (.inl ())))
def zcO(a:T1)(c:List za)(d:T2):Option (Int):=
  (zl (fun z=>zbi a c d z) 0).bind fun o=>zD o (fun b=>zez) some
instance (a:T1)(c:List za)(d:T2):PF Tryz.prog 110 [.isl 1 (map zw a),.fn (.func 133) [] [.ipt 1 [[.fn (.func 83) [] [.ipt 1 [[.ipt 2 [[.isl 6 (map zc c),.imp (map (rKV (fun x=>iA x)) d)]] 0 0]] 0 0]]] 0 0]] (zcO a c d) iA:=⟨fun r h=>by
 refine zh Tryz.func110 y kz y y<|A ?_
 refine zf<|A ?_
 obtain ⟨o,ho,h⟩:=bs h
 refine lpB ho (fun z=>[(0,.isl 1 (map zw a)),(1,.fn (.func 133) [] [.ipt 1 [[.fn (.func 83) [] [.ipt 1 [[.ipt 2 [[.isl 6 (map zc c),.imp (map (rKV (fun x=>iA x)) d)]] 0 0]] 0 0]]] 0 0]),(7,iA (length a:Int)),(8,iA z)]) (fun z=>[]) (fun b=>[]) (fun b=>[]) (pG Tryz.f110 iA) (zaf []) ?_ ?_
 ·rintro i r h
  refine A ?_
  refine zf ?_
  refine zeh h y (fun e h=>?_) fun e h=>?_
  ·refine ze<|zf<|zi<|A ?_
   obtain ⟨j,l,m,n,h⟩:=bs2 h
   refine A ?_
   refine zeh h y (fun f h=>?_) fun f h=>?_
   ·refine A ?_
    refine zy ?_
    obtain rfl:=sm h
    exact ⟨_,y,_,y,zad []⟩
   ·refine ze<|A ?_
    obtain rfl:=sm h
    exact ⟨_,y,zo []⟩
  ·refine zq ?_
   obtain rfl:=sm h
   exact ⟨y,_,y,zo []⟩
 ·rintro ⟨⟩ rfl
  refine zn<|A ?_
  exact RT0⟩
def zbb(a:T1)(b:List za)(c:T2):Option (Bool):=
  (zcO a b c).bind fun d=>some (decide (0≤d))
theorem zdU(a:T1)(b:List za)(c:T2){r:Bool}(h:zbb a b c=some r):zam Tryz.prog 56 [.isl 1 (map zw a),.fn (.func 133) [] [.ipt 1 [[.fn (.func 83) [] [.ipt 1 [[.ipt 2 [[.isl 6 (map zc b),.imp (map (rKV (fun x=>iA x)) c)]] 0 0]] 0 0]]] 0 0]] (bA r):=by
 refine zh Tryz.func56 y kz y y<|A ?_
 obtain ⟨d,e,h⟩:=bs h
 refine A ?_
 exact RT0
instance (a:T1)(b:List za)(c:T2):PF Tryz.prog 56 [.isl 1 (map zw a),.fn (.func 133) [] [.ipt 1 [[.fn (.func 83) [] [.ipt 1 [[.ipt 2 [[.isl 6 (map zc b),.imp (map (rKV (fun x=>iA x)) c)]] 0 0]] 0 0]]] 0 0]] (zbb a b c) bA:=⟨fun _=>zdU a b c⟩
def zh7(a:T1)(b:List za)(c:T2):Option (Bool):=
  (zbb a b c).bind fun d=>some (!d)
theorem zmb(a:T1)(b:List za)(c:T2){r:Bool}(h:zh7 a b c=some r):zam Tryz.prog 81 [.isl 1 (map zw a),.fn (.func 83) [] [.ipt 1 [[.ipt 2 [[.isl 6 (map zc b),.imp (map (rKV (fun x=>iA x)) c)]] 0 0]] 0 0]] (bA r):=by
 refine zh Tryz.func81 y kz y y<|A ?_
 obtain ⟨e,d,h⟩:=bs h
 refine A ?_
 refine u<|pcs (zdU a b c d) y y (.cons (si y) (.cons (zfZ t ⟨(zbk y ⟨(si y),t⟩),t⟩) .nil)) zbI<|A ?_
 exact RT0
instance (a:T1)(b:List za)(c:T2):PF Tryz.prog 81 [.isl 1 (map zw a),.fn (.func 83) [] [.ipt 1 [[.ipt 2 [[.isl 6 (map zc b),.imp (map (rKV (fun x=>iA x)) c)]] 0 0]] 0 0]] (zh7 a b c) bA:=⟨fun _=>zmb a b c⟩
def zfs(a:zS)(b:Int):Bool:=
  (a.At == b)
instance (a:zS)(b:Int):PF Tryz.prog 212 [.agg (zK a),.ipt 1 [[iA b]] 0 0] (some (zfs a b)) bA:=.of fun r h=>by
 refine zh Tryz.func212 y kz y y ?_
 unfold zfs at h
 refine A ?_
 refine A ?_
 refine zy ?_
 obtain rfl:=h
 exact ⟨_,y,zad []⟩
def zeM:Option (Int):=
  some (-1)
def zbp(b:List zS)(c:Int)(a:Int):Option (Sum (Int) (Sum (Unit) (Int))):=
  cond (decide (a<(length b:Int))) ((idx b a).bind fun d=>cond (zfs d c) (some (.inr (.inr a))) (some (.inl (IntKind.i64.wrap (a+1))))) (some (.inr (.inl ())))
def zbN(a:List zS)(c:Int):Option (Int):=
  (zl (fun z=>zbp a c z) 0).bind fun o=>zD o (fun b=>zeM) some
theorem zeN(a:List zS)(c:Int){r:Int}(h:zbN a c=some r):zam Tryz.prog 211 [.isl 3 (map zK a),.fn (.func 212) [] [.ipt 1 [[iA c]] 0 0]] (iA r):=by
 refine zh Tryz.func211 y kz y y<|A ?_
 refine zf<|A ?_
 obtain ⟨o,ho,h⟩:=bs h
 refine lpB ho (fun z=>[(0,.isl 3 (map zK a)),(1,.fn (.func 212) [] [.ipt 1 [[iA c]] 0 0]),(7,iA (length a:Int)),(8,iA z)]) (fun z=>[]) (fun b=>[]) (fun b=>[]) (pG Tryz.f211 iA) (zaf []) ?_ ?_
 ·rintro f r h
  refine A ?_
  refine zf ?_
  refine zeh h y (fun d h=>?_) fun d h=>?_
  ·refine ze<|zf<|zi<|A ?_
   obtain ⟨i,j,h⟩:=bs h
   refine A ?_
   refine zeh h y (fun e h=>?_) fun e h=>?_
   ·refine A ?_
    refine zy ?_
    obtain rfl:=sm h
    exact ⟨_,y,_,y,zad []⟩
   ·refine ze<|A ?_
    obtain rfl:=sm h
    exact ⟨_,y,zo []⟩
  ·refine zq ?_
   obtain rfl:=sm h
   exact ⟨y,_,y,zo []⟩
 ·rintro ⟨⟩ rfl
  refine zn<|A ?_
  exact RT0
instance (a:List zS)(b:Int):PF Tryz.prog 211 [.isl 3 (map zK a),.fn (.func 212) [] [.ipt 1 [[iA b]] 0 0]] (zbN a b) iA:=⟨fun _=>zeN a b⟩

end
end Go.Proofs.YtjbdfkapnffjnaaGreat
