/- CodeAll holds. Part 7 of 9. -/
import Derived.Test.YthmnlfenkhmmhaaGreatTx6
namespace Go.Proofs.YthmnlfenkhmmhaaGreat
noncomputable section
open List (length map)
open IntKind (i64)
open Go.Proofs.Tryz
set_option linter.unusedSimpArgs false
set_option linter.unusedVariables false
variable {VK:List Bool}{b:Vs}{L l:Vr}{x n s:Tx}{p:za->Bool}
def L5(L:Vr)(c:za):Bool:=(c.Super::c.Impl).any (λs=>!Xi L s)
def UI(l:Vr):Option (Vr)×Int:=
 cond (decide (16<(l.length:Int))) (none,3) (match LX Lb l with
  |none=>(none,1)
  |some L=>cond (l.any (L5 L)) (none,4) (cond (l.any (UJ L)) (none,1) (some L,0)))
theorem wc(h:LX Lb l=some L)(hm:l.any (L5 L)=false):DO L/\∀c∈l,c.Super≠[]:=by
 obtain⟨h1,h2,h3⟩:=OX l Lb L OY h;have hO:=R9 h
 have noE:Xi L []=false:=by
  cases hh:Xi L []with
  |false=>rfl
  |true =>
   obtain⟨c,hc⟩:=XY hh;exact absurd (XG hc).2 (hO c (XG hc).1).name
 have hl:∀c∈l,∀s∈c.Super::c.Impl,Xi L s=true:=λc hc s hs=>by
  have:=Qq.1 hm c hc;unfold L5 at this;rw[Yz,Qq]at this;simpa using this s hs
 refine⟨⟨h2,noE,λc hc s hs hne=>?_,λc hc hm=>(hO c hc).implE [] hm rfl⟩,λc hc e=>?_⟩
 .rw[h1]at hc
  rcases Qp.1 hc with e|e
  .have hg:Lb.all (λc=>(c.Super::c.Impl).all (λs=>s==[]||Xi Lb s))=true:=by decide +kernel
   have:=Qr.1 (Qr.1 hg c e) s hs;rw[Qv,YN]at this
   rcases this with e|e
   .exact absurd e hne
   rw[KP]at e ⊢;rw[h1,Jt];exact Q8 _ e
  exact hl c e s hs
 have:=hl c hc c.Super YC;rw[e,noE]at this;cases this
theorem sw{m:List (Tx×Int)}(hl:l.length<=16)(hm:Xq L m)(hO:∀c∈l,c.Impl.length<=4):zk (λz=>EQ l L m z) 0=some (XJ () (cond (l.any (L5 L)) (some (none,4)) none)):=by
 rw[<-z8];refine Zq (λi c hc=>?_) ?_;.show EQ l L m (i:Int)=_;have:=hO c (Qc hc);have hi:=(Qb.1 hc).1;unfold EQ;rw[Xl hc,zo,hc];simp only[YF,Qa];rw[kp this];simp only[Qa];rw[zEF hm (by simp;omega),zz YA];simp only[Qa];show _=some (U6 i (cond (L5 L c) _ _));unfold L5;cases((c.Super::c.Impl).any λs=>!Xi L s)<;>rfl
 show EQ l L m (l.length:Int)=_;unfold EQ;rw[Xm];rfl
theorem su{m:List (Tx×Int)}(hl:l.length<=16)(hf:∀c∈l,Id L m c=some (!UJ L c)):zk (λz=>EP l L m z) 0=some (XJ () (cond (l.any (UJ L)) (some (none,1)) none)):=by
 rw[<-z8];refine Zq (λi c hc=>?_) ?_;.show EP l L m (i:Int)=_;have hi:=(Qb.1 hc).1;unfold EP;rw[Xl hc,zo,hc];simp only[YF,Qa];rw[hf c (Qc hc),zz YA];simp only[Qa];cases UJ L c<;>rfl
 show EP l L m (l.length:Int)=_;unfold EP;rw[Xm];rfl
theorem zAv(hc:∀c∈l,W3 c):∃m,(∀L,(UI l).1=some L->Xq L m)/\Wb l=some ((UI l).1.map (λL=>zu.mk L m),(UI l).2):=by
 unfold Wb UI
 cases hl:decide (16<(l.length:Int))with
 |true=>exact⟨[],λL h=>(by cases h),rfl⟩
 |false =>
  have hl:=YR hl;rw[lY];simp only[YG,Qa];rw[aB];simp only[Qa,zE]
  have hl16:l.length<=16:=YA
  obtain⟨h1,h2⟩:=ff hl16 hc l [] Lb _ rfl zE3 rfl;unfold oI
  cases hy:LX Lb l with
  |none =>
   rw[show zk (λz=>G8 l z.1 z.2.1 z.2.2) (Lb,DU 0 [] Lb,0)=_ from h1 hy];exact⟨[],λL h=>(by cases h),rfl⟩
  |some L =>
   obtain⟨m,hm,e⟩:=h2 L hy;rw[show zk (λz=>G8 l z.1 z.2.1 z.2.2) (Lb,DU 0 [] Lb,0)=_ from e];obtain⟨k1,k2,k3⟩:=OX l Lb L OY hy;have hO:=R9 hy
   have hlL:∀c∈l,c∈L:=λc hc=>by rw[k1];exact List.mem_append_right _ hc
   have VR:L.length<=100:=by rw[k1,Qx];have:Lb.length=10:=rfl;omega
   simp only[Qa,zE];unfold oH;rw[sw hl16 hm (λc hc=>(hO c (hlL c hc)).impl)]
   cases hmis:l.any (L5 L)with
   |true=>exact⟨[],λL h=>(by cases h),rfl⟩
   |false =>
    obtain⟨hL,hS⟩:=wc hy hmis;simp only[YG,Qa,zE,XJ];unfold oG;rw[su hl16 (λc hc=>aF hm hL hO VR (hlL c hc) (hS c hc))]
    cases hb:l.any (UJ L)with
    |true=>exact⟨[],λL h=>(by cases h),rfl⟩
    |false=>exact⟨m,λL' h=>(by cases h;exact hm),rfl⟩
theorem Zc(hl:L.length<=1000)(n:Tx):zR L n=some (Lm L n):=by
 unfold zR
 rw[show((zk (λz=>T8 L n z) 0).bind λo=>zE o (λb=>eL) some)=_ from Zt (l:=L) (p:=λc:za=>c.Name==n) YA
  (λi x hx=>by unfold T8;rw[Xl hx,zo,hx];rfl) (by unfold T8;rw[Xm];rfl)]
 rfl
theorem yD{l:Vr}(hl:l.length<=16)(hc:∀c∈l,W3 c):∀(r pre L:Vr),l=pre++r->L.length=10+pre.length->
  zk (λz=>Dq l z.1 z.2) (L,(pre.length:Int))=some (match LX L r with|none=>.inr (none,1)|some L'=>.inl L')
 |[],pre,L,e,hL=>by
  rw[Qy]at e;subst e;rw[zH];show(Dq l L (l.length:Int)).bind _=_;unfold Dq;rw[Xm];rfl
 |c::r,pre,L,e,hL=>by
  have VR:l.length=pre.length+(r.length+1):=by rw[e];simp
  have hx:l[pre.length]?=some c:=by rw[e];simp
  have hcm:c∈l:=Qc hx
  have step:zk (λz=>Dq l z.1 z.2) (L,(pre.length:Int))=(cond (Xi L c.Name||!ZT c) (some (.inr (.inr (none,1)))) (some (.inl (L++[c],((pre.length+1:Nat):Int))))).bind (Sum.elim (zk (λz=>Dq l z.1 z.2)) some):=by
   rw[zH];show(Dq l L (pre.length:Int)).bind _=_;congr 1;unfold Dq;rw[Xl hx,zo,hx];simp only[YF,Qa];rw[mV (hc c hcm),Zc YA,j7 YA YA,zz YA];simp only[Qa];rw[Bd];cases Xi L c.Name<;>cases ZT c<;>rfl
  rw[step];unfold LX
  cases h1:(Xi L c.Name||!ZT c)with
  |true=>rfl
  |false =>
   have:=yD hl hc r (pre++[c]) (L++[c]) (by rw[e];simp) (by simp;omega);rw[show(pre++[c]).length=pre.length+1 by simp]at this;exact this
theorem sY(hL:L.length<=100){c:za}(hi:c.Impl.length<=4):zk (λz=>EU L c z) 0=some (XJ () (cond (c.Impl.any (λs=>!Xi L s)) (some (none,4)) none)):=by
 rw[<-z8];refine Zq (λi s hs=>?_) ?_;.show EU L c (i:Int)=_;have hi:=(Qb.1 hs).1;unfold EU;rw[Xl hs,zo,hs];simp only[YF,Qa];rw[Zc YA,zz YA];simp only[Qa];rw[Gy];cases Xi L s<;>rfl
 show EU L c (c.Impl.length:Int)=_;unfold EU;rw[Xm];rfl
theorem sX(hL:L.length<=100)(h1:1<=L.length)(hO:∀c∈L,Mp c):zk (λz=>ET L z) 1=some (XJ () (cond ((L.drop 1).any (L5 L)) (some (none,4)) none)):=by
 rw[<-z8];refine N8 (k:=1) (λi c _ hc=>?_) ?_ h1;.show ET L (i:Int)=_;have hi:=(Qb.1 hc).1;unfold ET;rw[Xl hc,zo,hc];simp only[YF,Qa];rw[Zc YA];simp only[Qa];rw[Gy,sY hL (hO c (Qc hc)).impl];unfold ow;rw[zz YA];show _=some (U6 i (cond (L5 L c) _ _));unfold L5;rw[Q2];cases Xi L c.Super<;>cases(c.Impl.any λs=>!Xi L s)<;>rfl
 show ET L (L.length:Int)=_;unfold ET;rw[Xm];rfl
theorem zAg{l:Vs}(hL:L.length<=100)(hl:l.length<=100)(hi:VK.length=L.length)(more:Bool):zk (λz=>IW L l z.1 z.2.1 z.2.2) (VK,more,0)=some (.inl (LJ L VK l,more||l.any (ZS L VK))):=by
 refine uu (l:=l) YA (λj s VK more hi hs=>?_) (λVK more=>?_) l [] VK more rfl hi
 .show IW L l VK more (j:Int)=_;unfold IW AA;rw[Xl hs,zo,hs];simp only[YF,Qa];rw[Zc YA];simp only[Qa];rw[Bd];unfold mk1 ZS
  cases hh:Xi L s with
  |false=>simp
  |true =>
   obtain⟨g1,g2⟩:=OO hh
   have e:idx VK (Lm L s)=some (Ld VK (Lm L s).toNat):=by
    unfold idx Ld;rw[YK g1,Ql,Qe YA];rfl
   rw[e];simp only[YF,Qa,QD];cases Ld VK (Lm L s).toNat<;>simp
 show IW L l VK more (l.length:Int)=_;unfold IW;rw[Xm];rfl
theorem C8{k:Nat}(h:k<VK.length):idx VK (k:Int)=some (Ld VK k):=by rw[zo,Qe h];unfold Ld;rw[Ql,Qe h];rfl
abbrev Mk(c:za):Vs:=c.Super::c.Impl
theorem oa(hL:L.length<=100)(hO:∀c∈L,Mp c)(v:Nat)(first:Bool)(hi:VK.length=L.length)(more:Bool):zk (λz=>Oe L (v:Int) first z.1 z.2.1 z.2.2) (VK,more,0)=some (.inl (ZP L Mk (λk=>first&&Nat.beq k v) VK 0 L,more||U9 L Mk (λk=>first&&Nat.beq k v) VK 0 L)):=by
 refine ub (st:=λa b c=>(a,b,c)) (nx:=Mk) (act:=λk=>first&&Nat.beq k v) YA (λk c VK more hi hc=>?_) (λVK more=>?_) L [] VK more rfl hi
 .show Oe L (v:Int) first VK more (k:Int)=_
  have hk:=(Qb.1 hc).1;have h4:=(hO c (Qc hc)).impl;unfold Oe;rw[Xl hc,C8 YA,zo,hc];simp only[YF,Qa];rw[fe h4];simp only[Qa];rw[zAg hL (by simp;omega) hi];unfold AL Az;rw[zz YA]
  have e:((k:Int)==(v:Int))=Nat.beq k v:=by
   rw[QJ,YN,Nat.beq_eq];omega
  rw[e]
  cases Ld VK k<;>cases first<;>cases Nat.beq k v<;>rfl
 show Oe L (v:Int) first VK more (L.length:Int)=_
 unfold Oe;rw[Xm];rfl
theorem zD8(hL:L.length<=100)(hO:∀c∈L,Mp c)(h:DO L){v:Nat}{c0:za}(hv:L[v]?=some c0):PN L (v:Int)=some (Mo L c0.Name):=by
 have hvl:=(Qb.1 hv).1
 let Q:Nat->Prop:=λn=>∃c,L[n]?=some c/\Rc (LF L) c0.Name c.Name
 have hnx:∀{c:za},c∈L->∀s∈Mk c,Xi L s=true->s∈LF L c.Name:=λ{c} hc s hs hh=>by
  rw[W6 (h.nd.cl hc)];refine Ji.2 ⟨hs,?_⟩
  have:s≠[]:=λe=>by rw[e,h.noE]at hh;cases hh
  simpa using this
 have hat:∀{s:Tx},Xi L s=true->∃d,L[(Lm L s).toNat]?=some d/\d.Name=s:=λ{s} hh=>by
  obtain⟨d,hd⟩:=XY hh;have e:=Kp L s;rw[hd]at e;obtain⟨g1,g2⟩:=OO hh;refine⟨d,?_,(XG hd).2⟩;unfold idx at e;rw[YK g1]at e;exact e
 have hQ:∀(a:Nat->Bool),(∀k,a k=true->k=v)->∀(j:Nat) c,L[j]?=some c->(Q j\/a j=true)->∀s∈Mk c,Xi L s=true->Q (Lm L s).toNat:=λa ha j c hj hor s hs hh=>by
  obtain⟨d,hd,hd2⟩:=hat hh;have hsx:=hnx (Qc hj) s hs hh;refine⟨d,hd,?_⟩;rw[hd2]
  rcases hor with ⟨c',hc',hr⟩|hj2
  .rw[hj]at hc';cases hc';exact hr.snoc hsx
  have:=ha j hj2;subst this;rw[hj]at hv;cases hv;exact .one hsx
 have body2:∀VK more first,Od L (v:Int) VK more first=cond more ((zk (λz=>Oe L (v:Int) first z.1 z.2.1 z.2.2) (VK,false,0)).bind λo=>zE o (λb=>iI b.1 b.2) (λr=>some (.inr (.inr r)))) (some (.inr (.inl VK))):=λ_ _ _=>rfl
 have hrep:(List.replicate L.length false).length=L.length:=YC
 have hoff:∀n,Ld (List.replicate L.length false) n=false:=λn=>by
  unfold Ld;rw[Ql,JA];split<;>rfl
 have hF:∃F,zk (λz=>Od L (v:Int) z.1 z.2.1 z.2.2) (List.replicate L.length false,true,true)=some (.inl F)/\F.length=L.length/\dr L Mk (λ_=>false) F/\(∀s∈Mk c0,Xi L s=true->Ld F (Lm L s).toNat=true)/\(∀n,Ld F n=true->Q n):=by
  let inn1:=ZP L Mk (λk=>true&&Nat.beq k v) (List.replicate L.length false) 0 L
  have hl1:inn1.length=L.length:=(xX L 0 _).trans hrep
  have hq1:∀n,Ld inn1 n=true->Q n:=uI L 0 _ hrep (λj c hj hor=>by
   rw[QN]at hor
   exact hQ (λk=>true&&Nat.beq k v) (λk hk=>by simpa using hk) j c hj hor) (λn hn=>by rw[hoff]at hn;cases hn)
  have ha1:∀s∈Mk c0,Xi L s=true->Ld inn1 (Lm L s).toNat=true:=vu L 0 _ hrep v c0 hv YC;rw[zH];show ∃F,(Od L (v:Int) (List.replicate L.length false) true true).bind _=_/\_;rw[body2,oa hL hO v true hrep false]
  cases hg:U9 L Mk (λk=>true&&Nat.beq k v) (List.replicate L.length false) 0 L with
  |false =>
   refine⟨inn1,?_,hl1,?_,ha1,hq1⟩;.show zk (λz=>Od L (v:Int) z.1 z.2.1 z.2.2) (inn1,false,false)=_;rw[zH];rfl
   .have e:inn1=List.replicate L.length false:=(SY L 0 _ hg).1;rw[e];intro k c hk hb;rw[hoff]at hb;cases hb
  |true =>
   obtain⟨F,k1,k2,k3,k4,k5⟩:=uJ (L:=L) (nx:=Mk) (act:=λk=>false&&Nat.beq k v) (R:=Bool) (st:=λa b=>(a,b,false)) (body:=λz=>Od L (v:Int) z.1 z.2.1 z.2.2) (Q:=Q)
    (λVK hi=>by
     show Od L (v:Int) VK true false=_;rw[body2,oa hL hO v false hi false]
     rfl) (λVK hi=>rfl) (hQ _ (λk hk=>by simp at hk)) L.length inn1 hl1 YA hq1
   refine⟨F,k1,k2,λk c hk hb=>k3 k c hk (by simpa using hb),λs hs hh=>k4 _ (ha1 s hs hh),k5⟩
 obtain⟨F,f1,f2,f3,f4,f5⟩:=hF;unfold PN;rw[show Mj 1 (L.length:Int)=some L.length by unfold Mj;rw[YK YA,Ja]];simp only[Qa];rw[f1];show(idx F (v:Int)).bind _=_;rw[C8 YA];show some (Ld F v)=_;congr 1;rw[QJ,R5];constructor;.intro hb;obtain⟨c,hc,hr⟩:=f5 v hb;rw[hv]at hc;cases hc;exact hr
 intro hr
 have key:∀x,Rc (LF L) c0.Name x->Ld F (Lm L x).toNat=true:=λx hx=>by
  refine hx.into (F:=λy=>Ld F (Lm L y).toNat=true/\Xi L y=true) (λy hy z hz=>?_) (λy hy=>?_) |>.1
  .have hz2:Xi L z=true:=KP.2 (h.nxA_in y z hz);obtain⟨d,hd,hd2⟩:=hat hy.2;refine⟨f3 _ d hd (by rw[hy.1];rfl) z ?_ hz2,hz2⟩;rw[<-hd2,W6 (h.nd.cl (Qc hd))]at hz;exact(Ji.1 hz).1
  have hy2:Xi L y=true:=KP.2 (h.nxA_in _ y hy);refine⟨f4 y ?_ hy2,hy2⟩;rw[W6 (h.nd.cl (Qc hv))]at hy;exact(Ji.1 hy).1
 have:=key _ hr;rw[h.nd.at hv,Ja]at this;exact this
theorem O0(h:L=Lb++l){c:za}(hc:cl Lb n=some c):cl L n=some c:=by rw[h];unfold cl at hc ⊢;rw[List.find?_append,hc];rfl
theorem tI(h:L=Lb++l)(hn:Xi Lb n=true):cl L n=cl Lb n:=by obtain⟨c,hc⟩:=XY hn;rw[hc,O0 h hc]
theorem aW(h:L=Lb++l)(hn:Xi Lb n=true):Xi L n=true:=by obtain⟨c,hc⟩:=XY hn;exact ZC (O0 h hc)
theorem cK:Lb.all (λc=>(LF Lb c.Name).all (λs=>decide (Lm Lb s<Lm Lb c.Name)&&Xi Lb s))=true:=by decide +kernel
theorem tY(h:L=Lb++l){a b:Tx}(hr:Rc (LF L) a b):Xi Lb a=true->Lm Lb b<Lm Lb a/\Xi Lb b=true:=by
 have one:∀{a b:Tx},b∈LF L a->Xi Lb a=true->Lm Lb b<Lm Lb a/\Xi Lb b=true:=λ{a b} hb ha=>by
  have e:LF L a=LF Lb a:=by unfold LF;rw[tI h ha]
  rw[e]at hb;obtain⟨c,hc⟩:=XY ha;have h1:=Qr.1 cK c (XG hc).1;rw[(XG hc).2]at h1;have h2:=Qr.1 h1 b hb;rw[Qd,YJ]at h2;exact h2
 induction hr with
 |one hb=>exact one hb
 |more hb _ ih =>
  intro ha;have h1:=one hb ha;have h2:=ih h1.2;exact⟨YA,h2.2⟩
theorem aD(h:L=Lb++l){c:za}(hc:c∈Lb):Mo L c.Name=false:=by
 cases hh:Mo L c.Name with
 |false=>rfl
 |true =>
  have:=(tY h (R5.1 hh) (ZC (OY.cl hc))).1;omega
theorem zE2:Lb.all (λc=>(c.Impl==[])&&!c.Interface&&(c.Super==[]||Xi Lb c.Super))=true:=by decide +kernel
theorem bQ:(Lb.drop 1).all (λc=>!(c.Super==[]))=true:=by decide +kernel
theorem CP{c:za}(hc:c∈Lb):c.Impl=[]/\c.Interface=false/\(c.Super=[]\/Xi Lb c.Super=true):=by have:=Qr.1 zE2 c hc;simp only[Qd,YN,Qm,Qv]at this;exact⟨this.1.1,this.1.2,this.2⟩
theorem aC(h:L=Lb++l)(hn:Xi Lb n=true):Lg L n=false:=by obtain⟨c,hc⟩:=XY hn;unfold Lg;rw[O0 h hc];exact(CP (XG hc).1).2.1
theorem vd(h:L=Lb++l)(hE:Xi L []=false){c:za}(hc:c∈Lb):UJ L c=false:=by
 obtain⟨h1,h2,h3⟩:=CP hc;unfold UJ;rw[aD h hc,h1]
 rcases h3 with e|e
 .rw[e]
  have:Lg L []=false:=by
   unfold Lg
   cases hcl:cl L []with
   |none=>rfl
   |some d=>rw[ZC hcl]at hE;cases hE
  rw[this];rfl
 rw[aC h e];rfl
theorem az(h:L=Lb++l){c:za}(hc:c∈Lb.drop 1):L5 L c=false:=by
 obtain⟨h1,h2,h3⟩:=CP (Ye hc);have hs:=Qr.1 bQ c hc;unfold L5;rw[h1,Q2,List.any_nil,Q5]
 rcases h3 with e|e
 .rw[e]at hs;cases hs
 rw[aW h e];rfl
theorem fD(h:L=Lb++l)(hp:∀c∈Lb.drop 1,p c=false):(L.drop 1).any p=l.any p:=by
 have e:L.drop 1=Lb.drop 1++l:=by rw[h];rfl
 rw[e,List.any_append,Qq.2 (λc hc=>by rw[hp c hc];exact Jc),QR]
theorem KO{c:za}(h:cl L n=some c):idx L (Lm L n)=some c:=by rw[Kp,h]
theorem yH(hL:L.length<=100){c:za}(hi:c.Impl.length<=4)(hh:∀s∈c.Impl,Xi L s=true)(b:Bool):zk (λz=>Dr L c z.1 z.2) (b,0)=some (.inl (b||c.Impl.any (λs=>!Lg L s))):=by
 have key:∀(r pre:Vs) (b:Bool),c.Impl=pre++r->zk (λz=>Dr L c z.1 z.2) (b,(pre.length:Int))=some (.inl (b||r.any (λs=>!Lg L s))):=by
  intro r
  induction r with
  |nil =>
   intro pre b e;rw[Qy]at e;rw[zH];show(Dr L c b (pre.length:Int)).bind _=_;unfold Dr;rw[<-e,Xm];simp
  |cons s r ih =>
   intro pre b e
   have VR:c.Impl.length=pre.length+(r.length+1):=by rw[e];simp
   have hx:c.Impl[pre.length]?=some s:=by rw[e];simp
   obtain⟨d,hd⟩:=XY (hh s (Qc hx))
   have step:Dr L c b (pre.length:Int)=some (.inl (b||!Lg L s,((pre.length+1:Nat):Int))):=by
    unfold Dr;rw[Xl hx,zo,hx];simp only[YF,Qa];rw[Zc YA];simp only[Qa];rw[KO hd,zz YA];unfold Lg;rw[hd];cases b<;>rfl
   rw[zH];show(Dr L c b (pre.length:Int)).bind _=_;rw[step];show zk (λz=>Dr L c z.1 z.2) (b||!Lg L s,((pre.length+1:Nat):Int))=_;have:=ih (pre++[s]) (b||!Lg L s) (by rw[e];simp);rw[show(pre++[s]).length=pre.length+1 by simp]at this;rw[this,Q2,JQ]
 exact key c.Impl [] b rfl
theorem tr(hL:L.length<=100)(h1:1<=L.length)(hO:∀c∈L,Mp c)(h:DO L)(hS:∀c∈L.drop 1,c.Super≠[]):zk (λz=>EI L z) 1=some (XJ () (cond ((L.drop 1).any (UJ L)) (some (none,1)) none)):=by
 rw[<-z8];refine N8 (k:=1) (λi c hk hc=>?_) ?_ h1;.show EI L (i:Int)=_;have hcm:=Qc hc;have hi:=(Qb.1 hc).1;have hcd:c∈L.drop 1:=Qc (i:=i-1) (by rw[JD,show 1+(i-1)=i by omega,hc]);obtain⟨x,hx⟩:=XY (h.closed c hcm c.Super YC (hS c hcd));have himp:∀s∈c.Impl,Xi L s=true:=λs hs=>h.closed c hcm s (by simp[hs]) ((hO c hcm).implE s hs);unfold EI;rw[Xl hc,zo,hc];simp only[YF,Qa];rw[Zc YA];simp only[Qa];rw[KO hx];simp only[Qa];rw[zD8 hL hO h hc];simp only[Qa];unfold Tq;rw[yH hL (hO c hcm).impl himp,yH hL (hO c hcm).impl himp];simp only[Qa,zE];unfold oS;rw[zz YA];show _=some (U6 i (cond (UJ L c) _ _));unfold UJ;rw[show Lg L c.Super=x.Interface by unfold Lg;rw[hx]];cases x.Interface<;>cases(c.Impl.any λs=>!Lg L s)<;>cases Mo L c.Name<;>rfl
 show EI L (L.length:Int)=_;unfold EI;rw[Xm];rfl
theorem zC5(h:L=Lb++l)(hS:∀c∈l,c.Super≠[]):∀c∈L.drop 1,c.Super≠[]:=by
 have e:L.drop 1=Lb.drop 1++l:=by rw[h];rfl
 intro c hc;rw[e]at hc
 rcases Qp.1 hc with e|e
 .have:=Qr.1 bQ c e;intro e2;rw[e2]at this;cases this
 exact hS c e
theorem zAZ(hc:∀c∈l,W3 c):Sy l=some ((UI l).1.map zG.mk,(UI l).2):=by
 unfold Sy UI
 cases hl:decide (16<(l.length:Int))with
 |true=>rfl
 |false =>
  have hl:=YR hl;rw[lA];simp only[YG,Qa]
  have hl16:l.length<=16:=YA
  rw[show zk (λz=>Dq l z.1 z.2) (Lb,0)=_ from yD hl16 hc l [] Lb rfl rfl]
  cases hy:LX Lb l with
  |none=>rfl
  |some L =>
   obtain⟨k1,k2,k3⟩:=OX l Lb L OY hy;have hO:=R9 hy
   have VR:L.length<=100:=by rw[k1,Qx];have:Lb.length=10:=rfl;omega
   have hpos:1<=L.length:=by rw[k1,Qx];have:Lb.length=10:=rfl;omega
   simp only[Qa,zE];unfold ox;rw[sX VR hpos hO,fD k1 (λc hc=>az k1 hc)]
   cases hmis:l.any (L5 L)with
   |true=>rfl
   |false =>
    obtain⟨hL,hS⟩:=wc hy hmis;simp only[YG,Qa,zE,XJ];unfold ov;rw[tr VR hpos hO hL (zC5 k1 hS),fD k1 (λc hc=>vd k1 hL.noE (Ye hc))]
    cases hb:l.any (UJ L)with
    |true=>rfl
    |false=>rfl
structure Xf(l L:Vr):Prop extends Wf L where
 app:L=Lb++l
 few:l.length<=16
 okc:∀c∈L,Mp c
 may:∀c∈l,ZT c=true
theorem Xf.len(h:Xf l L):L.length<=26:=by rw[h.app,Qx];have:Lb.length=10:=rfl;have:=h.few;omega
theorem zFn(h:(UI l).1=some L):Xf l L/\(UI l).2=0:=by
 unfold UI at h ⊢
 cases hl:decide (16<(l.length:Int))with
 |true=>rw[hl]at h;cases h
 |false =>
  rw[hl]at h;have hl:=YR hl;simp only[YG]at h ⊢
  cases hy:LX Lb l with
  |none=>rw[hy]at h;cases h
  |some L' =>
   rw[hy]at h;simp only at h ⊢
   cases hmis:l.any (L5 L')with
   |true=>rw[hmis]at h;cases h
   |false =>
    cases hb:l.any (UJ L')with
    |true=>rw[hmis,hb]at h;cases h
    |false =>
     rw[hmis,hb]at h
     have e:L'=L:=by
      have h:some L'=some L:=h;cases h;rfl
     subst e;obtain⟨hL,hS⟩:=wc hy hmis;obtain⟨k1,k2,k3⟩:=OX l Lb L' OY hy
     have bad:∀c∈L',UJ L' c=false:=λc hc=>by
      rw[k1]at hc
      rcases Qp.1 hc with e|e
      .exact vd k1 hL.noE e
      simpa using Qq.1 hb c e
     have bad':∀c∈L',Lg L' c.Super=false/\(c.Impl.any (λs=>!Lg L' s)=false/\Mo L' c.Name=false):=λc hc=>by
      have:=bad c hc;unfold UJ at this;rw[Qh,Qh]at this;exact this
     refine⟨⟨⟨hL,λn hr=>?_,λc hc=>(bad' c hc).1,λc hc s hs=>?_⟩,k1,YA,R9 hy,k3⟩,rfl⟩
     .cases hn:cl L' n with
      |none =>
       have:LF L' n=[]:=by unfold LF;rw[hn]
       cases hr with
       |one h=>rw[this]at h;cases h
       |more h _=>rw[this]at h;cases h
      |some c =>
       have h1:=(bad' c (XG hn).1).2.2;rw[(XG hn).2]at h1;rw[R5.2 hr]at h1;cases h1
     have:=Qq.1 (bad' c hc).2.1 s hs;simpa using this
theorem zFo(h:(UI l).1=none):(UI l).2≠0:=by
 unfold UI at h ⊢
 cases hl:decide (16<(l.length:Int))with
 |true=>simp
 |false =>
  rw[hl]at h;simp only[YG]at h ⊢
  cases hy:LX Lb l with
  |none=>simp
  |some L' =>
   rw[hy]at h;simp only at h ⊢
   cases hmis:l.any (L5 L')with
   |true=>simp
   |false =>
    cases hb:l.any (UJ L')with
    |true=>simp
    |false=>rw[hmis,hb]at h;simp at h
section
variable {m:List (Tx×Int)}
theorem om(h:Xf l L)(hm:Xq L m):∀(d:Nat) (n:Tx) (VQ:Vs),Ki L d n=true->VQ.length+d<=200->zk (λz=>OE L m z.1 z.2) (n,VQ)=some (.inl (VQ++LE L d n))
 |0,n,VQ,hf,hd=>by
  rw[zH];show(OE L m n VQ).bind _=_;unfold OE Ky;rw[hm.has]
  have:Xi L n=false:=by simpa[Ki]using hf
  rw[this];simp[LE]
 |d+1,n,VQ,hf,hd=>by
  rw[zH];show(OE L m n VQ).bind _=_;unfold OE Ky;rw[hm.has];unfold Ki at hf;unfold LE
  cases hc:cl L n with
  |none=>rw[Db hc];simp
  |some c =>
   rw[hc]at hf;rw[ZC hc,OZ hm (ZC hc),hc,XH (by simp;omega) (by simp;omega)];show zk (λz=>OE L m z.1 z.2) (c.Super,VQ++[n])=_;rw[om h hm d c.Super (VQ++[n]) hf (by simp;omega)];simp
def Xh(L:Vr)(n:Tx):Vs:=LE L L.length n
theorem Dj(h:Xf l L)(hm:Xq L m)(n:Tx):Kz L m n=some (Xh L n):=by unfold Kz;rw[om h hm L.length n [] (xA h.toWf n) (by have:=h.len;simp;omega)];rfl
theorem eI(h:Xf l L):∀(d:Nat) (n:Tx) (VQ:Vs),Ki L d n=true->VQ.length+d<=200->zk (λz=>Oz L z.1 z.2) (VQ,Lm L n)=some (.inl (VQ++LE L d n))
 |0,n,VQ,hf,hd=>by
  rw[zH];show(Oz L VQ (Lm L n)).bind _=_;unfold Oz
  have:Xi L n=false:=by simpa[Ki]using hf
  rw[Bd,this];simp[LE]
 |d+1,n,VQ,hf,hd=>by
  rw[zH];show(Oz L VQ (Lm L n)).bind _=_;unfold Oz;rw[Bd];unfold Ki at hf;unfold LE
  cases hc:cl L n with
  |none=>rw[Db hc];simp
  |some c =>
   rw[hc]at hf;have:=h.len;rw[ZC hc,KO hc];simp only[YF,Qa];rw[Zc YA,XH (by simp;omega) (by simp;omega),(XG hc).2];show zk (λz=>Oz L z.1 z.2) (VQ++[n],Lm L c.Super)=_;rw[eI h d c.Super (VQ++[n]) hf (by simp;omega)];simp
theorem HN(h:Xf l L)(n:Tx):KY L n=some (Xh L n):=by have:=h.len;unfold KY;rw[Zc YA];simp only[Qa];rw[eI h L.length n [] (xA h.toWf n) (by simp;omega)];rfl
theorem yo:∀(d:Nat) (n:Tx),(LE L d n).length<=d
 |0,n=>by simp[LE]
 |d+1,n=>by
  unfold LE
  cases cl L n with
  |none=>simp
  |some c=>have:=yo d c.Super;simpa using this
theorem Z4(h:Xf l L)(n:Tx):(Xh L n).length<=26:=QK (yo _ n) h.len
theorem wa(h:Xf l L):∀d,LE L d []=[]
 |0=>rfl
 |d+1=>by
  unfold LE
  cases hE:cl L []with
  |none=>rfl
  |some c=>have:=ZC hE;rw[h.noE]at this;cases this
theorem Ul(h:Xf l L):∀(d:Nat) (n x:Tx),x∈LE L d n->Xi L x=true/\(x=n\/Rc (LF L) n x)/\(x=n\/∃c∈L,x=c.Super)
 |0,n,x,hx=>by simp[LE]at hx
 |d+1,n,x,hx=>by
  unfold LE at hx
  cases hc:cl L n with
  |none=>rw[hc]at hx;cases hx
  |some c =>
   rw[hc]at hx
   rcases Qu.1 hx with e|e
   .subst e;exact⟨ZC hc,.inl rfl,.inl rfl⟩
   obtain⟨h1,h2,h3⟩:=Ul h d c.Super x e
   have hne:c.Super≠[]:=λe2=>by rw[e2,wa h]at e;cases e
   have h6:c.Super∈LF L n:=by rw[W6 hc];exact Ji.2 ⟨YC,by simpa using hne⟩
   refine⟨h1,.inr ?_,.inr ?_⟩
   .rcases h2 with e2|e2
    .rw[e2];exact .one h6
    exact .more h6 e2
   rcases h3 with e2|e2
   .exact⟨c,(XG hc).1,e2⟩
   exact e2
theorem be(h:Xf l L):∀(d:Nat) (n:Tx),(LE L d n).Nodup
 |0,n=>by simp[LE]
 |d+1,n=>by
  unfold LE
  cases hc:cl L n with
  |none=>simp
  |some c =>
   refine Jh.2 ⟨λhm=>?_,be h d c.Super⟩
   have hne:c.Super≠[]:=λe2=>by rw[e2,wa h]at hm;cases hm
   have h6:c.Super∈LF L n:=by rw[W6 hc];exact Ji.2 ⟨YC,by simpa using hne⟩
   obtain⟨_,h2,_⟩:=Ul h d c.Super n hm
   rcases h2 with e2|e2
   .exact h.acyc n (.one (by rw[<-e2]at h6;exact h6))
   exact h.acyc n (.more h6 e2)
theorem yq(h:Xf l L)(hx:x∈Xh L n):x∈L.map (·.Name):=KP.1 (Ul h _ n x hx).1
theorem zGk(hn:Xi L n=true):n∈Xh L n:=by
 unfold Xh;obtain⟨c,hc⟩:=XY hn
 have:L≠[]:=λe=>by rw[e]at hn;cases hn
 cases hL:L.length with
 |zero=>exact absurd (Qf hL) this
 |succ d=>unfold LE;rw[hc];simp
theorem GD(hn:Xi L n=false):Xh L n=[]:=by
 unfold Xh
 cases L.length with
 |zero=>rfl
 |succ d =>
  unfold LE
  cases hc:cl L n with
  |none=>rfl
  |some c=>rw[ZC hc]at hn;cases hn
end
theorem xU:∀(a b:List UInt8),Op.bytesLess a b=true↔a<b
 |a,[]=>by
  have e:Op.bytesLess a []=false:=by cases a<;>rfl
  rw[e];constructor;.intro h;cases h
  .intro h;exact absurd h (List.not_lt_nil a)
 |[],b::y=>by
  constructor;.intro _;exact List.nil_lt_cons b y
  .intro _;rfl
 |a::x,b::y=>by
  rw[List.cons_lt_cons_iff,<-xU x y];show(decide (a<b)||(a==b&&Op.bytesLess x y))=true↔_;rw[Qv,YJ,Qd,YN]
theorem bN:∀(s:Tx) (l:Vs),K5 s l=l.takeWhile (λx=>Op.bytesLess x s)++s::l.dropWhile (λx=>Op.bytesLess x s)
 |s,[]=>rfl
 |s,x::r=>by
  unfold K5;rw[Jq,Jy];by_cases h:s<=x;.rw[YK h];have:¬(Op.bytesLess x s=true):=λh2=>absurd ((xU x s).1 h2) (List.not_lt.2 h);rw[YM this,YM this];rfl
  rw[YM h];have:Op.bytesLess x s=true:=(xU x s).2 (List.not_le.1 h);rw[YK this,YK this,bN s r];rfl
theorem eJ{s:Tx}{l:Vs}(hl:l.length<=1000):∀(r pre:Vs),l=pre++r->zk (λz=>Wt l s z) (pre.length:Int)=some (.inl ((pre.length+(r.takeWhile (λx=>Op.bytesLess x s)).length:Nat):Int))
 |[],pre,e=>by
  rw[Qy]at e;rw[zH];show(Wt l s (pre.length:Int)).bind _=_;unfold Wt;rw[<-e,Xm];rfl
 |x::r,pre,e=>by
  have VR:l.length=pre.length+(r.length+1):=by rw[e];simp
  have hx:l[pre.length]?=some x:=by rw[e];simp
  rw[zH];show(Wt l s (pre.length:Int)).bind _=_;unfold Wt;rw[Xl hx,zo,hx,Jq,zz YA]
  cases hb:Op.bytesLess x s with
  |false=>simp[hb]
  |true =>
   simp only[YF,Qa,hb,YQ];show zk (λz=>Wt l s z) ((pre.length+1:Nat):Int)=_;have:=eJ (s:=s) hl r (pre++[x]) (by rw[e];simp);rw[show(pre++[x]).length=pre.length+1 by simp]at this;rw[this,Qw];congr 2;omega
theorem ym{α:Type}(p:α->Bool):∀(l:List α),l.take (l.takeWhile p).length=l.takeWhile p/\l.drop (l.takeWhile p).length=l.dropWhile p/\(l.takeWhile p).length<=l.length
 |[]=>YC
 |x::r=>by
  rw[Jq,Jy]
  cases p x with
  |false=>simp
  |true =>
   obtain⟨h1,h2,h3⟩:=ym p r;simp[h1,h2,h3]
theorem lw{l:Vs}(hl:l.length<=900):Tg l s=some (K5 s l):=by
 unfold Tg;obtain⟨h1,h2,h3⟩:=ym (λx=>Op.bytesLess x s) l;rw[show zk (λz=>Wt l s z) 0=_ from eJ YA l [] rfl];simp only[Qa,zE,Q6,QN];unfold eG;rw[Ea h3,h1];simp only[Qa];rw[XH (w:=16) (l:=[]) (by simp;omega) (by simp;omega)];simp only[Qa,Jo];rw[G5 h3,h2];simp only[Qa];rw[XH (w:=16) (x:=[s]) (by simp;omega) (by simp;omega)];simp only[Qa]
 have h4:(l.dropWhile (λx=>Op.bytesLess x s)).length<=l.length:=by rw[<-h2,List.length_drop];omega
 rw[XH (w:=16) (by simp;omega) (by simp;omega),bN];simp
theorem uZ:∀{l:Vs} (a:Tx),l.Nodup->l.count a=if a∈l then 1 else 0
 |[],a,_=>YC
 |x::r,a,h=>by
  rw[Jh]at h;rw[List.count_cons,uZ a h.2];by_cases e:x=a;.subst e;simp[h.1]
  have:a≠x:=λe2=>e e2.symm;simp[e,this]
theorem zDz{a:Vs}(ha:a.Nodup)(hb:b.Nodup)(h:∀x,x∈a↔x∈b):a.Perm b:=by
 rw[List.perm_iff_count];intro x;rw[uZ x ha,uZ x hb];by_cases hx:x∈a;.rw[YK hx,YK ((h x).1 hx)]
 rw[YM hx,YM (λhb=>hx ((h x).2 hb))]
theorem zF7{a:Vs}(ha:a.Pairwise (·<=·))(hb:b.Pairwise (·<=·))(h:a.Perm b):a=b:=Yu (λa b _ _ h1 h2=>List.le_antisymm h1 h2) ha hb h
theorem bu{nx:Tx->Vs}:∀(d i:Nat) (Xc:Vs),Xc.Nodup->(LM nx d i Xc).Nodup
 |0,i,Xc,h=>h
 |d+1,i,Xc,h=>by
  unfold LM
  cases Xc[i]? with
  |none=>exact h
  |some x =>
   refine bu d (i+1) _ ?_;obtain⟨t,k1,k2,k3,k4⟩:=Dg (nx x) Xc;rw[k1];exact Jv.2 ⟨h,k2,λa ha b hb e=>(k3 b hb).1 (by rw[<-e];exact ha)⟩
theorem oJ{R:Type}{I:Vs->Prop}{nx:Tx->Vs}{p:Tx->Bool}{body:Vs×Vs×Int->Option (Sum (Vs×Vs×Int) (Sum (Vs) R))}
  (hb:∀(i:Nat) VQ Xc x,I Xc->VQ.length<=i->Xc[i]?=some x->body (VQ,Xc,(i:Int))=some (.inl (cond (p x) (VQ++[x]) VQ,push Xc (nx x),((i+1:Nat):Int))))
  (he:∀(i:Nat) VQ Xc,I Xc->Xc.length<=i->body (VQ,Xc,(i:Int))=some (.inr (.inl VQ)))
  (hp:∀Xc x,I Xc->x∈Xc->I (push Xc (nx x))):∀(d i:Nat) (VQ Xc:Vs),I Xc->VQ.length<=i->fin nx d i Xc=true->
  zk body (VQ,Xc,(i:Int))=some (.inl (VQ++((LM nx d i Xc).drop i).filter p))
 |0,i,VQ,Xc,hI,ha,hf=>by
  have hl:Xc.length<=i:=YO hf;rw[zH,he i VQ Xc hI hl];show some (Sum.inl VQ:Sum (Vs) R)=some (Sum.inl (VQ++((Xc.drop i).filter p)));rw[JG hl];simp
 |d+1,i,VQ,Xc,hI,ha,hf=>by
  unfold fin at hf;unfold LM
  cases hi:Xc[i]? with
  |none =>
   have hl:Xc.length<=i:=JM.1 hi;rw[zH,he i VQ Xc hI hl];show some (Sum.inl VQ:Sum (Vs) R)=some (Sum.inl (VQ++((Xc.drop i).filter p)));rw[JG hl];simp
  |some x =>
   rw[hi]at hf;obtain⟨t,ht⟩:=NV (nx:=nx) d (i+1) (push Xc (nx x));obtain⟨u,hu,_⟩:=Dg (nx x) Xc
   have hx:(LM nx d (i+1) (push Xc (nx x)))[i]?=some x:=by
    rw[ht,hu,Q4,Qs (Qb.1 hi).1,hi]
   obtain⟨hlt,hge⟩:=Qb.1 hx;have ih:=λa ha=>oJ hb he hp d (i+1) a _ (hp _ _ hI (Qc hi)) ha hf;rw[zH,hb i VQ Xc x hI ha hi];show zk body (cond (p x) (VQ++[x]) VQ,push Xc (nx x),((i+1:Nat):Int))=some (.inl (VQ++((LM nx d (i+1) (push Xc (nx x))).drop i).filter p));rw[ih _ (by cases p x<;>simp<;>omega),JL hlt,hge]
   cases hpx:p x with
   |true=>rw[Yy hpx];simp
   |false=>rw[Yx (by rw[hpx];exact Jc)];rfl
def Uz(L:Vr)(n:Tx):Vs:=LM (Mn L) 100 0 (Xh L n)
def XT(L:Vr)(n:Tx):Vs:=D4 ((Uz L n).filter (Lg L))
section
variable {m:List (Tx×Int)}
theorem vI(h:Xf l L)(n:Tx):fin (Mn L) 100 0 (Xh L n)=true:=dZ (U:=List.map (λc:za=>c.Name) L) (s0:=Xh L n) h.nxI_in _ _ _ .start (by have:=Z4 h n;have:=h.len;simp;omega)
theorem vH(h:Xf l L)(n:Tx):L7 (List.map (λc:za=>c.Name) L) (Xh L n) (Uz L n):=yU h.nxI_in _ _ _ .start
theorem vG(h:Xf l L)(n:Tx):(Uz L n).length<=52:=by have h1:=(vH h n).len;have h2:=Z4 h n;have h3:=h.len;simp only[QY]at h1;omega
theorem R2(h:Xf l L)(hx:x∈Uz L n):Xi L x=true:=KP.2 ((vH h n).mem (λy hy=>yq h hy) x hx)
theorem dO{c:za}(hc:cl L n=some c):Mn L n=c.Impl:=by unfold Mn;rw[hc]
theorem zC8{R:Type}{body:Vs×Int->Option (Sum (Vs×Int) (Sum (Vs) R))}{l:Vs}(hl:l.length<=100) (hb:∀(i:Nat) x Xc,Xc.length<=1000->l[i]?=some x->body (Xc,(i:Int))=some (.inl (cond (!(Xc.any λy=>x==y)) (Xc++[x]) Xc,i64.wrap ((i:Int)+1)))) (he:∀Xc,body (Xc,(l.length:Int))=some (.inr (.inl Xc))) (Xc:Vs) (hs:Xc.length<=800):zk body (Xc,0)=some (.inl (push Xc l)):=by have:=xY (p:=λ_=>true) hl (λi x s h hx=>by rw[hb i x s h hx];rfl) he l [] Xc rfl YA;rw[List.filter_eq_self.2 (λ_ _=>rfl)]at this;exact this
theorem uk(h:Xf l L)(hm:Xq L m)(n:Tx):IL L m n=some (XT L n):=by
 unfold IL Ky;rw[hm.has]
 cases hn:Xi L n with
 |false =>
  unfold XT Uz;rw[GD hn];rfl
 |true =>
  rw[Dj h hm];simp only[Qo,YG,Qa];have h26:=h.len;have hs26:=Z4 h n
  have hl:=oJ (R:=Vs) (I:=λs=>L7 (List.map (λc:za=>c.Name) L) (Xh L n) s) (nx:=Mn L) (p:=Lg L) (body:=λz=>OF L m z.1 z.2.1 z.2.2)
   (λi VQ Xc x hI ha hx=>by
    have hsl:=hI.len;simp only[QY]at hsl;have hxm:Xi L x=true:=KP.2 (hI.mem (λy hy=>yq h hy) x (Qc hx));obtain⟨c,hc⟩:=XY hxm;have h4:=(h.okc c (XG hc).1).impl;have hilt:=(Qb.1 hx).1
    have hp:∀acc',Rh Xc (i:Int) c acc'=some (.inl (acc',push Xc c.Impl,((i+1:Nat):Int))):=λacc'=>by
     unfold Rh
     rw[zC8 (l:=c.Impl) YA (λj y s hs hy=>by
      show Rg c s (j:Int)=_;unfold Rg AT;rw[Xl hy,zo,hy];simp only[YF,Qa];rw[Sr hs,XH (w:=16) (l:=s) (x:=[y]) (by simp;omega) (by simp;omega)]
      cases(s.any λz=>y==z)<;>rfl) (λs=>by
      show Rg c s (c.Impl.length:Int)=_;unfold Rg
      rw[Xm];rfl) Xc YA]
     simp only[Qa,zE];unfold i7;rw[zz YA]
    show OF L m VQ Xc (i:Int)=_;unfold OF;rw[Xl hx,zo,hx];simp only[YF,Qa];rw[OZ hm hxm,hc];simp only[Qa];rw[hp,XH (w:=16) (l:=VQ) (x:=[c.Name]) (by simp;omega) (by simp;omega)];simp only[Qa];rw[hp,dO hc,(XG hc).2]
    have e:Lg L x=c.Interface:=by unfold Lg;rw[hc]
    rw[e]
    cases c.Interface<;>rfl)
   (λi VQ Xc hI hle=>by
    show OF L m VQ Xc (i:Int)=_;unfold OF
    rw[YI YA];rfl)
   (λzat y hI hy=>hI.push (h.nxI_in y)) 100 0 [] (Xh L n) .start YC (vI h n)
  rw[show zk (λz=>OF L m z.1 z.2.1 z.2.2) ([],Xh L n,0)=_ from hl];simp only[Qa,zE,Yj,Jo];unfold i6 Nh;have h1:((LM (Mn L) 100 0 (Xh L n)).filter (Lg L)).length<=52:=QK (J1 _ _) (vG h n);rw[YK YA];rfl
theorem lH(n:Tx):(XT L n).Pairwise (·<=·):=kD _
theorem bp:x∈XT L n↔x∈Uz L n/\Lg L x=true:=by unfold XT;rw[(BE _).mem_iff,Ji]
theorem zDX(h:Xf l L)(n:Tx):(Uz L n).Nodup:=bu _ _ _ (be h _ n)
theorem xy(hx:x∈Xh L n):x∈Uz L n:=by obtain⟨t,e⟩:=NV (nx:=Mn L) 100 0 (Xh L n);unfold Uz;rw[e];exact Q8 _ hx
theorem uf(h:Xf l L){y:Tx}(hx:x∈Uz L n)(hy:y∈Mn L x):y∈Uz L n:=uz 100 0 _ (vI h n) (λj x hj=>YA) x hx y hy
end
theorem SU{l:Vs}(hl:l.length<=1000)(n:Tx):D9 l n=some (l.any λy=>y==n):=by
 unfold D9
 rw[show zk (λz=>ES l n z) 0=some (XJ () (cond (l.any λy=>y==n) (some true) none))from by
  rw[<-z8];refine Zq (λi x hx=>?_) ?_;.show ES l n (i:Int)=_;have hi:=(Qb.1 hx).1;unfold ES;rw[Xl hx,zo,hx,zz YA];simp only[YF,Qa];cases x==n<;>rfl
  show ES l n (l.length:Int)=_;unfold ES
  rw[Xm];rfl]
 cases(l.any λy=>y==n)<;>rfl
def DM(L:Vr)(n:Tx)(k:Nat):Bool:=match L[k]? with|some c=>(Xh L n).any (λy=>y==c.Name)|none=>false
theorem zAq(h:Xf l L){c:za}(hc:c∈L)(hi:VK.length=L.length)(more:Bool):zk (λz=>I3 L c z.1 z.2.1 z.2.2) (VK,more,0)=some (.inl (LJ L VK c.Impl,more||c.Impl.any (ZS L VK))):=by
 have h26:=h.len;have h4:=(h.okc c hc).impl;refine uu (l:=c.Impl) YA (λj s VK more hi hs=>?_) (λVK more=>?_) c.Impl [] VK more rfl hi
 .show I3 L c VK more (j:Int)=_;have hsm:=Qc hs;have hh:Xi L s=true:=h.closed c hc s (Jl _ hsm) ((h.okc c hc).implE s hsm);unfold I3 AF;rw[Xl hs,zo,hs];simp only[YF,Qa];rw[Zc YA];simp only[Qa];unfold mk1 ZS;obtain⟨g1,g2⟩:=OO hh
  have e:idx VK (Lm L s)=some (Ld VK (Lm L s).toNat):=by
   unfold idx Ld;rw[YK g1,Ql,Qe YA];rfl
  rw[e,hh];simp only[Qa,QD];cases Ld VK (Lm L s).toNat<;>simp
 show I3 L c VK more (c.Impl.length:Int)=_;unfold I3;rw[Xm];rfl
theorem zC7(h:Xf l L)(n:Tx)(hi:VK.length=L.length)(more:Bool):zk (λz=>I2 L (Xh L n) z.1 z.2.1 z.2.2) (VK,more,0)=some (.inl (ZP L (·.Impl) (DM L n) VK 0 L,more||U9 L (·.Impl) (DM L n) VK 0 L)):=by
 have h26:=h.len;have hs26:=Z4 h n;refine ub (st:=λa b c=>(a,b,c)) (nx:=(·.Impl)) (act:=DM L n) YA (λk c VK more hi hc=>?_) (λVK more=>?_) L [] VK more rfl hi
 .show I2 L (Xh L n) VK more (k:Int)=_;have hk:=(Qb.1 hc).1
  have e:DM L n k=(Xh L n).any (λy=>y==c.Name):=by unfold DM;rw[hc]
  unfold I2;rw[Xl hc,C8 YA,zo,hc];simp only[YF,Qa];rw[SU YA,zAq h (Qc hc) hi,e];unfold AC AE;rw[zz YA];cases Ld VK k<;>cases((Xh L n).any (λy=>y==c.Name))<;>rfl
 show I2 L (Xh L n) VK more (L.length:Int)=_;unfold I2;rw[Xm];rfl
def GZ(F:List Bool):Nat->Vr->Vs
 |_,[]=>[]
 |k,c::r=>cond (Ld F k) (c.Name::GZ F (k+1) r) (GZ F (k+1) r)
theorem u6{F:List Bool}:∀(r:Vr) (k:Nat) (x:Tx),x∈GZ F k r↔∃(j:Nat) (c:za),r[j]?=some c/\Ld F (k+j)=true/\c.Name=x
 |[],k,x=>by
  constructor;.intro h;cases h
  .rintro⟨j,c,h,_⟩;simp at h
 |c::r,k,x=>by
  have ih:=u6 (F:=F) r (k+1) x
  have back:(∃(j:Nat) (d:za),r[j]?=some d/\Ld F (k+1+j)=true/\d.Name=x)↔∃(j:Nat) (d:za),0<j/\(c::r)[j]?=some d/\Ld F (k+j)=true/\d.Name=x:=by
   constructor;.rintro⟨j,d,h1,h2,h3⟩;exact⟨j+1,d,YA,by simpa using h1,by rw[show k+(j+1)=k+1+j by omega];exact h2,h3⟩
   rintro⟨j,d,h0,h1,h2,h3⟩
   cases j with
   |zero=>omega
   |succ j=>exact⟨j,d,by simpa using h1,by rw[show k+1+j=k+(j+1)by omega];exact h2,h3⟩
  unfold GZ
  cases hb:Ld F k with
  |true =>
   rw[YF,Qu,ih,back];constructor
   .rintro(e|⟨j,d,_,h1⟩);.exact⟨0,c,rfl,hb,e.symm⟩
    exact⟨j,d,h1⟩
   .rintro⟨j,d,h1,h2,h3⟩
    cases j with
    |zero=>left;have e:c=d:=(by simpa using h1);rw[e];exact h3.symm
    |succ j=>exact .inr ⟨j+1,d,YA,h1,h2,h3⟩
  |false =>
   rw[YG,ih,back];constructor;.rintro⟨j,d,_,h1⟩;exact⟨j,d,h1⟩
   rintro⟨j,d,h1,h2,h3⟩
   cases j with
   |zero=>rw[Je,hb]at h2;cases h2
   |succ j=>exact⟨j+1,d,YA,h1,h2,h3⟩
theorem oX{F:List Bool}:∀(r pre:Vr),Nd (pre++r)->(GZ F pre.length r).Nodup
 |[],pre,h=>by simp[GZ]
 |c::r,pre,h=>by
  have ih:=oX (F:=F) r (pre++[c]) (by simpa using h);rw[show(pre++[c]).length=pre.length+1 by simp]at ih;unfold GZ
  cases Ld F pre.length with
  |false=>exact ih
  |true =>
   refine Jh.2 ⟨λhm=>?_,ih⟩;obtain⟨j,d,h1,_,h3⟩:=(u6 r _ _).1 hm;have:=h pre.length (pre.length+(j+1)) c d YC (by rw[Qt YA,show pre.length+(j+1)-pre.length=j+1 by omega];simpa using h1) h3.symm;omega
def O5(VQ:Vs):Vs->Vs
 |[]=>VQ
 |x::r=>O5 (K5 x VQ) r
theorem oo:∀(r VQ:Vs),(O5 VQ r).Perm (VQ++r)
 |[],VQ=>by simp[O5]
 |x::r,VQ=>(oo r (K5 x VQ)).trans (by
  refine((Pa x VQ).append_right r).trans ?_
  exact(List.perm_middle (l₁:=VQ) (l₂:=r) (a:=x)).symm)
theorem oL:∀(r VQ:Vs),VQ.Pairwise (·<=·)->(O5 VQ r).Pairwise (·<=·)
 |[],VQ,h=>h
 |x::r,VQ,h=>oL r _ (uX x h)
theorem cD(x:Tx)(l:Vs):(K5 x l).length=l.length+1:=by rw[(Pa x l).length_eq];rfl
theorem oO{F:List Bool}(hl:L.length<=100)(hF:F.length=L.length):∀(r pre:Vr) (VQ:Vs),L=pre++r->VQ.length<=pre.length->
  zk (λz=>DD L F z.1 z.2) (VQ,(pre.length:Int))=some (.inl (O5 VQ (GZ F pre.length r)))
 |[],pre,VQ,e,ha=>by
  rw[Qy]at e;rw[zH];show(DD L F VQ (pre.length:Int)).bind _=_;unfold DD;rw[<-e,Xm];rfl
 |c::r,pre,VQ,e,ha=>by
  have VR:L.length=pre.length+(r.length+1):=by rw[e];simp
  have hx:L[pre.length]?=some c:=by rw[e];simp
  have ih:=λa ha=>oO hl hF r (pre++[c]) a (by rw[e];simp) ha;rw[show(pre++[c]).length=pre.length+1 by simp]at ih;rw[zH];show(DD L F VQ (pre.length:Int)).bind _=_;unfold DD;rw[Xl hx,C8 YA,zo,hx];simp only[YF,Qa];rw[lw YA];unfold AD GZ;rw[zz YA]
  cases Ld F pre.length with
  |false =>
   show zk (λz=>DD L F z.1 z.2) (VQ,((pre.length+1:Nat):Int))=_;exact ih VQ YA
  |true =>
   show zk (λz=>DD L F z.1 z.2) (K5 c.Name VQ,((pre.length+1:Nat):Int))=_;exact ih _ (by rw[cD];omega)
theorem xe(h:Xf l L)(hh:Xi L s=true):∃d,L[(Lm L s).toNat]?=some d/\d.Name=s:=by obtain⟨d,hd⟩:=XY hh;have e:=Kp L s;rw[hd]at e;obtain⟨g1,g2⟩:=OO hh;refine⟨d,?_,(XG hd).2⟩;unfold idx at e;rw[YK g1]at e;exact e
theorem fw(h:Xf l L)(hn:Xi L n=true)(hi:VK.length=L.length)(h0:∀k,Ld VK k=true↔(Lg L n=true/\k=(Lm L n).toNat)):PX L n VK=some (XT L n):=by
 have h26:=h.len
 let Q:Nat->Prop:=λk=>∃c,L[k]?=some c/\c.Name∈Uz L n/\c.Interface=true
 have isF_of:∀{k:Nat} {c:za},L[k]?=some c->Lg L c.Name=c.Interface:=λ{k c} hk=>by
  unfold Lg;rw[h.nd.cl (Qc hk)]
 have hq0:∀k,Ld VK k=true->Q k:=λk hk=>by
  obtain⟨h1,h2⟩:=(h0 k).1 hk;obtain⟨d,hd,hd2⟩:=xe h hn;refine⟨d,by rw[h2];exact hd,by rw[hd2];exact xy (zGk hn),?_⟩;rw[<-isF_of hd,hd2];exact h1
 have hQ:∀(j:Nat) c,L[j]?=some c->(Q j\/DM L n j=true)->∀s∈c.Impl,Xi L s=true->Q (Lm L s).toNat:=λj c hj hor s hs hh=>by
  have hcT:c.Name∈Uz L n:=by
   rcases hor with ⟨c',hc',hm,_⟩|ha
   .rw[hj]at hc';cases hc';exact hm
   unfold DM at ha;rw[hj]at ha;have ha:(Xh L n).any (λy=>y==c.Name)=true:=ha;rw[QB]at ha;obtain⟨y,hy,e⟩:=ha;rw[<-YP e];exact xy hy
  obtain⟨d,hd,hd2⟩:=xe h hh;refine⟨d,hd,?_,?_⟩;.rw[hd2];exact uf h hcT (by rw[dO (h.nd.cl (Qc hj))];exact hs)
  rw[<-isF_of hd,hd2];exact h.implF c (Qc hj) s hs
 obtain⟨F,k1,k2,k3,k4,k5⟩:=uJ (L:=L) (nx:=(·.Impl)) (act:=DM L n) (R:=Vs) (st:=λa b=>(a,b)) (body:=λz=>AB L (Xh L n) z.1 z.2) (Q:=Q)
  (λVK hi=>by
   show AB L (Xh L n) VK true=_;unfold AB;rw[zC7 h n hi false]
   rfl) (λVK hi=>rfl) hQ L.length VK hi YA hq0
 unfold PX;rw[HN h];simp only[Qa];rw[k1];simp only[Qa,zE];unfold iN;rw[show zk (λz=>DD L F z.1 z.2) ([],0)=_ from oO YA k2 L [] [] rfl YC];simp only[Qa,zE];show some (O5 [] (GZ F 0 L))=_;congr 1;refine zF7 (oL _ _ YC) (lH n) ((oo _ _).trans ?_);rw[Jo];refine(zDz (oX (F:=F) L [] h.nd) ((zDX h n).filter (Lg L)) λx=>?_).trans (BE _).symm;show x∈GZ F 0 L↔_;rw[u6,Ji];constructor;.rintro⟨j,c,h1,h2,h3⟩;rw[QN]at h2;obtain⟨c',hc',hm,hI⟩:=k5 j h2;rw[h1]at hc';cases hc';rw[<-h3];exact⟨hm,by rw[isF_of h1];exact hI⟩
 rintro⟨hx,hxF⟩
 have key:∀y∈Uz L n,y∈Uz L n/\(y∈Xh L n\/Ld F (Lm L y).toNat=true):=by
  refine un (Q:=λy=>y∈Uz L n/\(y∈Xh L n\/Ld F (Lm L y).toNat=true)) (λy hy z hz=>?_) 100 0 _ (λy hy=>⟨xy hy,.inl hy⟩);refine⟨uf h hy.1 hz,.inr ?_⟩;have hyh:=R2 h hy.1;obtain⟨d,hd,hd2⟩:=xe h hyh;have hzh:=R2 h (uf h hy.1 hz);rw[<-hd2,dO (h.nd.cl (Qc hd))]at hz;refine k3 _ d hd ?_ z hz hzh;rw[Qv]
  rcases hy.2 with h1|h1
  .right;unfold DM;rw[hd];show(Xh L n).any (λw=>w==d.Name)=true;rw[hd2,QB];exact⟨y,h1,YL _⟩
  exact .inl h1
 have hxh:=R2 h hx;obtain⟨d,hd,hd2⟩:=xe h hxh;refine⟨(Lm L x).toNat,d,hd,?_,hd2⟩;rw[QN]
 rcases(key x hx).2 with h1|h1
 .rcases(Ul h _ n x h1).2.2 with e|⟨c,hc,e⟩
  .subst e;exact k4 _ ((h0 _).2 ⟨hxF,rfl⟩)
  rw[e,h.superF c hc]at hxF;cases hxF
 exact h1
theorem u9(h:Xf l L)(n:Tx):If L n=some (XT L n):=by
 have h26:=h.len;unfold If;rw[show Mj 1 (L.length:Int)=some L.length by unfold Mj;rw[YK YA,Ja],Zc YA];simp only[Qa];rw[Gy]
 have hrep:(List.replicate L.length false).length=L.length:=YC
 have hoff:∀n,Ld (List.replicate L.length false) n=false:=λn=>by
  unfold Ld;rw[Ql,JA];split<;>rfl
 cases hn:Xi L n with
 |false =>
  unfold XT Uz;rw[GD hn];rfl
 |true =>
  obtain⟨c,hc⟩:=XY hn;obtain⟨g1,g2⟩:=OO hn
  have eF:Lg L n=c.Interface:=by unfold Lg;rw[hc]
  rw[KO hc];simp only[Qo,YG,Qa]
  cases hI:c.Interface with
  |false =>
   simp only[YG];refine fw h hn hrep λk=>?_;rw[hoff,eF,hI];simp
  |true =>
   have e:idx (List.replicate L.length false) (Lm L n)=some false:=by
    unfold idx;rw[YK g1,JA,YK g2]
   rw[e];simp only[YF,Qa];refine fw h hn YC λk=>?_;rw[qM (by rw[hrep];exact g2),hoff,QR,eF,hI,Nat.beq_eq];simp
variable {α:Type}{v0:(Vr)×(List (Tx×Int))×Tx×Tx->Option Bool}{T:Vs}{n:Nat}{b:Tx}{nx:Tx->Vs}{may:zb->Bool}{Q:α->Prop}
def Lu:Tx->Bool
 |[]=>false
 |x::_=>x==91
def Md(s:Tx):Tx:=X3 (X3 s)
theorem El(h:Lu s=false):X3 s=s:=by
 cases s with
 |nil=>rfl
 |cons x r =>
  rw[Dk,YM];intro e;subst e;cases h
theorem Hy(h:Lu s=true):X3 s=s.drop 1/\s=91::s.drop 1:=by
 cases s with
 |nil=>cases h
 |cons x r =>
  have:x=91:=by simpa[Lu]using h
  subst this;exact⟨rfl,rfl⟩
theorem BA(h:XM s=true):Lu s=false:=by
 cases s with
 |nil=>rfl
 |cons x r =>
  cases hb:(x==91)with
  |false=>exact hb
  |true =>
   have:x=91:=by simpa using hb
   subst this;unfold XM at h;rw[Qd]at h;have h2:KT 91=true:=h.2;exact absurd h2 (by decide +kernel)
theorem cX(h:XM s=true):(s==[73])=false:=by
 cases hb:(s==[73])with
 |false=>rfl
 |true =>
  have:s=[73]:=by simpa using hb
  subst this;unfold XM at h;simp at h
theorem Wh(h:XM s=true):Xr s=true:=by unfold Xr;rw[El (BA h),El (BA h),h,Ju]
theorem aI(h:Xr s=true):Lu (Md s)=false:=by
 unfold Xr at h;rw[Qv]at h
 rcases h with h|h
 .unfold Md;rw[YP h];rfl
 exact BA h
theorem N0(h:Xr s=true)(hb:Lu s=true):Xr (s.drop 1)=true/\Md (s.drop 1)=Md s:=by
 obtain⟨h1,h2⟩:=Hy hb;have h3:=aI h
 have e:X3 (X3 (s.drop 1))=X3 (X3 s):=by
  rw[h1];exact El (show Lu (X3 (s.drop 1))=false from by rw[<-h1];exact h3)
 exact⟨by unfold Xr at h ⊢;rw[e];exact h,e⟩
theorem O9(hb:Lu s=false):Md s=s:=by unfold Md;rw[El hb,El hb]
theorem zE1:Lb.all (λc=>XM c.Name)=true:=by decide +kernel
def xc(L:Vr)(t:Tx):Bool:=(Md t==[73])||Xi L (Md t)
def Lk(L:Vr)(t:Tx):Bool:=Xr t&&xc L t
section
variable {m:List (Tx×Int)}
theorem Dm(h:Xf l L){n:Tx}(hn:Xi L n=true):XM n=true:=by
 obtain⟨c,hc⟩:=XY hn;obtain⟨h1,h2⟩:=XG hc;rw[<-h2];rw[h.app]at h1
 rcases Qp.1 h1 with e|e
 .exact Qr.1 zE1 c e
 have:=h.may c e;unfold ZT at this;simp only[Qd]at this;exact this.2.1.1.1.1
def XK(s:Tx):Tx×Bool:=cond (Xr s&&Lu s) (s.drop 1,true) ([],false)
theorem Wn(h:Lf s):GE s=some (XK s):=by
 unfold GE XK;rw[BD h]
 cases hm:Xr s with
 |false=>rfl
 |true =>
  cases s with
  |nil =>
   exfalso;unfold Xr at hm;rw[show X3 (X3 [])=[]from rfl]at hm;simp at hm;exact Ey hm rfl
  |cons x r =>
   simp only[Qa,Qo,YG,QD];rw[HC]
   have e:((x.toNat:Int)==(91:Int))=(x==91):=by
    rw[QJ,YN,YN];constructor;.intro h;exact JS.1 (by simpa using(Yv.1 h))
    intro h;rw[h];rfl
   simp only[Q3,Qa,e];rw[show(1:Int)=((1:Nat):Int)from rfl,G5 YC];show cond (!(x==91)) _ _=some (cond (x==91) _ _);cases x==91<;>rfl
theorem bU{s:Tx}:∀(d:Nat) (t:Tx),t.length<=d->Lf t->zk (λz=>Re z.1 z.2.1 z.2.2) (t,(XK t).1,(XK t).2)=some (.inl (cond (Xr t) (Md t) t))
 |d,t,hd,hl=>by
  rw[zH];show(Re t (XK t).1 (XK t).2).bind _=_;unfold Re
  cases hm:Xr t with
  |false =>
   have:XK t=([],false):=by unfold XK;rw[hm];rfl
   rw[this];rfl
  |true =>
   cases hb:Lu t with
   |false =>
    have:XK t=([],false):=by unfold XK;rw[hm,hb];rfl
    rw[this,O9 hb];rfl
   |true =>
    have:XK t=(t.drop 1,true):=by unfold XK;rw[hm,hb];rfl
    obtain⟨k1,k2⟩:=N0 hm hb
    have VR:(t.drop 1).length=t.length-1:=YC
    have hpos:0<t.length:=by rw[(Hy hb).2];simp
    have hl2:Lf (t.drop 1):=by unfold Lf at *;omega
    rw[this];show((GE (t.drop 1)).bind _).bind _=_;rw[Wn hl2];show zk (λz=>Re z.1 z.2.1 z.2.2) (t.drop 1,(XK (t.drop 1)).1,(XK (t.drop 1)).2)=_
    cases d with
    |zero=>omega
    |succ d =>
     rw[bU (s:=s) d (t.drop 1) YA hl2,k1,k2];rfl
theorem vJ(h:Xf l L)(hm:Xq L m){t:Tx}(hl:Lf t):P1 L m t=some (Lk L t):=by
 unfold P1;rw[Wn hl];simp only[Qa];rw[bU (s:=t) t.length t (Qg _) hl];simp only[Qa,zE];unfold iQ Ky;rw[hm.has];unfold Lk xc
 cases hmay:Xr t with
 |true=>rfl
 |false =>
  simp only[YG,Jm];congr 1;rw[Qh];constructor
  .cases hI:(t==[73])with
   |false=>rfl
   |true =>
    have:t=[73]:=by simpa using hI
    rw[this]at hmay;exact absurd hmay (by decide +kernel)
  cases hh:Xi L t with
  |false=>rfl
  |true=>rw[Wh (Dm h hh)]at hmay;cases hmay
theorem bw:∀(t:Tx) (k:Nat),t.length+k<=1000->zk (λz=>EH z.1 z.2) (t,(k:Int))=some (.inl (t.dropWhile (·==91),((k+(t.takeWhile (·==91)).length:Nat):Int)))
 |[],k,hk=>by
  rw[zH];rfl
 |x::r,k,hk=>by
  simp only[Qw]at hk;rw[zH];show(EH (x::r) (k:Int)).bind _=_;unfold EH
  have e:((x.toNat:Int)==(91:Int))=(x==91):=by
   rw[QJ,YN,YN];constructor;.intro h;exact JS.1 (by simpa using(Yv.1 h))
   intro h;rw[h];rfl
  rw[YH (show(0:Int)<((x::r).length:Int)by simp only[Qw];omega),HC];simp only[YF,Q3,Qa,e];rw[show(1:Int)=((1:Nat):Int)from rfl,G5 YC,Jy,Jq]
  cases hx:(x==91)with
  |false=>simp
  |true =>
   simp only[YF,Qa,YQ,List.drop_one,List.tail_cons];rw[show((1:Nat):Int)=1 from rfl,zz YA];show zk (λz=>EH z.1 z.2) (r,((k+1:Nat):Int))=_;rw[bw r (k+1) YA];simp only[Qw];congr 3;omega
theorem ae{t:Tx}(h:t.length<=900):Bu t=some (t.dropWhile (·==91),((t.takeWhile (·==91)).length:Int)):=by unfold Bu;rw[show zk (λz=>EH z.1 z.2) (t,0)=_ from bw t 0 YA];simp only[Qa,zE,QN];rfl
theorem fy{t:Tx}(h:Lu t=false):t.dropWhile (·==91)=t/\t.takeWhile (·==91)=[]:=by
 cases t with
 |nil=>exact⟨rfl,rfl⟩
 |cons x r =>
  have:(x==91)=false:=h;simp[Jy,Jq,this]
theorem fB{t:Tx}(h:Lu t=true):t.dropWhile (·==91)=(t.drop 1).dropWhile (·==91)/\(t.takeWhile (·==91)).length=((t.drop 1).takeWhile (·==91)).length+1:=by
 cases t with
 |nil=>cases h
 |cons x r =>
  have:(x==91)=true:=h;simp[Jy,Jq,this]
theorem fA:∀(d:Nat) (t:Tx),t.length<=d->Xr t=true->t.dropWhile (·==91)=Md t
 |d,t,hd,hm=>by
  cases hb:Lu t with
  |false=>rw[(fy hb).1,O9 hb]
  |true =>
   obtain⟨k1,k2⟩:=N0 hm hb
   have VR:(t.drop 1).length=t.length-1:=YC
   have hpos:0<t.length:=by rw[(Hy hb).2];simp
   cases d with
   |zero=>omega
   |succ d=>rw[(fB hb).1,fA d (t.drop 1) YA k1,k2]
theorem xH{t:Tx}(h:t.length<=900)(hm:Xr t=true):∃k:Nat,Bu t=some (Md t,(k:Int))/\(((k:Int)==0)=!Lu t):=by
 refine⟨_,by rw[ae h,fA _ t (Qg _) hm],?_⟩
 cases hb:Lu t with
 |false=>rw[(fy hb).2];rfl
 |true=>rw[(fB hb).2];exact beq_eq_false_iff_ne.2 YA
theorem KX(h:Xf l L){t:Tx}(hl:t.length<=900):zS L t=some (Lk L t):=by
 have h26:=h.len;unfold zS;rw[Dp (by unfold Lf;omega)];unfold Lk
 cases hm:Xr t with
 |false=>rfl
 |true =>
  obtain⟨k,hk,_⟩:=xH hl hm;rw[hk];simp only[Qa,Qo,YG];rw[Zc YA];simp only[Qa];rw[Bd];unfold xc;cases(Md t==[73])<;>rfl
end
def KC(L:Vr):Tx->Tx->Bool
 |[],b=>Lk L []&&(Lk L b&&(([]:Tx)==b))
 |x::r,b=>Lk L (x::r)&&(Lk L b&&(((x::r)==b)||cond (x==91) (cond (Lu b) ((!(r==[73]))&&((!(b.drop 1==[73]))&&KC L r (b.drop 1))) (b==K4)) ((Xh L (x::r)).any (λy=>b==y)||(XT L (x::r)).any (λy=>b==y))))
theorem wb(L:Vr)(a b:Tx):KC L a b=(Lk L a&&(Lk L b&&((a==b)||cond (Lu a) (cond (Lu b) ((!(a.drop 1==[73]))&&((!(b.drop 1==[73]))&&KC L (a.drop 1) (b.drop 1))) (b==K4)) ((Xh L a).any (λy=>b==y)||(XT L a).any (λy=>b==y))))):=by
 cases a with
 |nil =>
  have:Lk L []=false:=by
   unfold Lk
   have:Xr []=false:=by
    cases h:Xr []with
    |false=>rfl
    |true =>
     unfold Xr at h;rw[show X3 (X3 [])=[]from rfl]at h;simp at h;exact absurd rfl (Ey h)
   rw[this];rfl
  rw[this];show(Lk L []&&_)=_;rw[this];rfl
 |cons x r=>rfl
section
variable {m:List (Tx×Int)}
theorem oB{l:Vs}(hl:l.length<=1000)(n:Tx):zO l n=some (l.any λy=>n==y):=Sr hl n
theorem Eu(h:Xf l L)(n:Tx):(XT L n).length<=52:=by unfold XT;rw[(BE _).length_eq];exact QK (J1 _ _) (vG h n)
theorem dL{t:Tx}(h:Lk L t=true):Xr t=true:=by unfold Lk at h;rw[Qd]at h;exact h.1
theorem y8{t:Tx}(h:Lk L t=true):XK t=cond (Lu t) (t.drop 1,true) ([],false):=by unfold XK;rw[dL h,QD]
theorem cb(h:Xf l L)(hm:Xq L m){a:Tx}(ha:Lf a)(hb:Lf b)(hv:Lu a=true->Lu b=true->v0 (L,m,a.drop 1,b.drop 1)=some (KC L (a.drop 1) (b.drop 1))):WL v0 L m a b=some (KC L a b):=by
 have h1:=Z4 h a;have h2:=Eu h a;unfold WL;rw[vJ h hm ha,vJ h hm hb,wb]
 cases ta:Lk L a with
 |false=>rfl
 |true =>
  cases tb:Lk L b with
  |false=>rfl
  |true =>
   simp only[Qa,Qo,YG,QD];rw[Wn ha,Wn hb,y8 ta,y8 tb];simp only[Qa]
   cases hab:(a==b)with
   |true=>rfl
   |false =>
    cases ba:Lu a with
    |true =>
     cases bb:Lu b with
     |true =>
      simp only[YF,YG,JR,QR];rw[hv ba bb];cases(a.drop 1==[73])<;>cases(b.drop 1==[73])<;>rfl
     |false=>rfl
    |false =>
     simp only[YF,YG,Jm,QR];rw[Dj h hm,uk h hm];simp only[Qa];rw[oB YA,oB YA];simp only[Qa];cases((Xh L a).any λy=>b==y)<;>rfl
theorem yb(h:Xf l L)(hm:Xq L m):∀(d k:Nat) (a b:Tx),a.length<=d->d<k->Lf a->Lf b->DL (λv0 z=>WL v0 z.1 z.2.1 z.2.2.1 z.2.2.2) k (L,m,a,b)=some (KC L a b)
 |d,0,a,b,hd,hk,ha,hb=>YA
 |d,k+1,a,b,hd,hk,ha,hb=>by
  show WL (DL (λv0 z=>WL v0 z.1 z.2.1 z.2.2.1 z.2.2.2) k) L m a b=_;refine cb h hm ha hb λb1 b2=>?_
  have VR:(a.drop 1).length=a.length-1:=YC
  have hlen2:(b.drop 1).length=b.length-1:=YC
  have hpos:0<a.length:=by rw[(Hy b1).2];simp
  cases d with
  |zero=>omega
  |succ d=>exact yb h hm d k _ _ YA YA (by unfold Lf at *;omega) (by unfold Lf at *;omega)
theorem Ec(h:Xf l L)(hm:Xq L m){a:Tx}(ha:a.length<=25)(hb:Lf b):Dy L m a b=some (KC L a b):=by unfold Dy OH;rw[yb h hm 25 30 a b ha YA (by unfold Lf;omega) hb]
theorem vZ(l:Vs)(n:Tx):(l.any λy=>y==n)=l.any λy=>n==y:=by congr 1;funext y;exact qx _ _
theorem SI(h:Xf l L)(hT:∀x∈T,Xi L x=true)(hb:XM b=false):(T.any λy=>b==y)=false:=by rw[Qq];intro y hy e;have:=Dm h (hT y hy);rw[<-YP e,hb]at this;cases this
theorem Ew(h:Xf l L){n:Tx}(hx:x∈XT L n):Xi L x=true:=R2 h (bp.1 hx).1
theorem zAp{n:Tx}(hn:Xi L n=false):XT L n=[]:=by unfold XT Uz;rw[GD hn];rfl
theorem eC(hb:Lu b=true):XM b=false:=by
 cases h:XM b with
 |false=>rfl
 |true=>rw[BA h]at hb;cases hb
theorem u4:XM [73]=false:=by
 cases h:XM [73]with
 |false=>rfl
 |true=>exact absurd (cX h) YC
theorem zDK(h:Xf l L){v0:(Vr)×Tx×Tx->Option Bool}{a:Tx}(ha:a.length<=800)(hb:b.length<=800)(hv:Lu a=true->Lu b=true->v0 (L,a.drop 1,b.drop 1)=some (KC L (a.drop 1) (b.drop 1))):WJ v0 L a b=some (KC L a b):=by
 unfold WJ;rw[KX h YA,KX h YA,wb]
 cases ta:Lk L a with
 |false=>rfl
 |true =>
  cases tb:Lk L b with
  |false=>rfl
  |true =>
   simp only[Qa,Qo,YG,QD];obtain⟨k1,e1,f1⟩:=xH (t:=a) YA (dL ta);obtain⟨k2,e2,f2⟩:=xH (t:=b) YA (dL tb);rw[e1,e2];simp only[Qa]
   cases hab:(a==b)with
   |true=>rfl
   |false =>
    rw[f1,f2];simp only[YG,QR]
    cases ba:Lu a with
    |true =>
     cases bb:Lu b with
     |true =>
      simp only[YF,YG,Qo,JR,Jm];rw[show(1:Int)=((1:Nat):Int)from rfl,G5 (by rw[(Hy ba).2];simp),G5 (by rw[(Hy bb).2];simp)];simp only[Qa];rw[hv ba bb];cases(a.drop 1==[73])<;>cases(b.drop 1==[73])<;>rfl
     |false =>
      simp only[YF,YG,Qo,QI,Jm];rw[O9 bb];rfl
    |false =>
     cases bb:Lu b with
     |true =>
      simp only[YF,YG,Qo,QI,Jf];rw[SI (T:=Xh L a) h (λx hx=>(Ul h _ a x hx).1) (eC bb),SI (T:=XT L a) h (λx hx=>Ew h hx) (eC bb)];rfl
     |false =>
      simp only[YF,YG,QI,JR];rw[O9 ba,O9 bb];have h1:=Z4 h a;have h2:=Eu h a
      cases hI:(a==[73])with
      |true =>
       have e:a=[73]:=by simpa using hI
       have hn:Xi L a=false:=by
        cases hh:Xi L a with
        |false=>rfl
        |true=>have:=Dm h hh;rw[e,u4]at this;cases this
       rw[GD hn,zAp hn];rfl
      |false =>
       cases hI2:(b==[73])with
       |true =>
        have e:b=[73]:=by simpa using hI2
        have hc:XM b=false:=by rw[e];exact u4
        rw[SI (T:=Xh L a) h (λx hx=>(Ul h _ a x hx).1) hc,SI (T:=XT L a) h (λx hx=>Ew h hx) hc];rfl
       |false =>
        simp only[QI,JR,YF];rw[HN h,u9 h];simp only[Qa];rw[SU YA,SU YA,vZ,vZ];simp only[Qa];cases((Xh L a).any λy=>b==y)<;>rfl
theorem vo(h:Xf l L):∀(d k:Nat) (a b:Tx),a.length<=d->d<k->a.length<=800->b.length<=800->DL (λv0 z=>WJ v0 z.1 z.2.1 z.2.2) k (L,a,b)=some (KC L a b)
 |d,0,a,b,hd,hk,ha,hb=>YA
 |d,k+1,a,b,hd,hk,ha,hb=>by
  show WJ (DL (λv0 z=>WJ v0 z.1 z.2.1 z.2.2) k) L a b=_;refine zDK h ha hb λb1 b2=>?_
  have VR:(a.drop 1).length=a.length-1:=YC
  have hlen2:(b.drop 1).length=b.length-1:=YC
  have hpos:0<a.length:=by rw[(Hy b1).2];simp
  cases d with
  |zero=>omega
  |succ d=>exact vo h d k _ _ YA YA YA YA
theorem od(h:Xf l L){a:Tx}(ha:a.length<=25)(hb:b.length<=800):PH L a b=some (KC L a b):=by unfold PH OH;rw[vo h 25 30 a b ha YA YA hb]
end
abbrev Mv(n:Int):Prop:=-9223372036854775808<=n/\n<=9223372036854775807
abbrev FS(s:List UInt8):Prop:=s.length<=10000
structure FL{α:Type}(Q:α->Prop)(l:List α):Prop where
 len:l.length<=10000
 all:∀x∈l,Q x
structure tP(f:zh):Prop where
 name:FS f.Name
 type:FS f.Type_
structure r7(x:zp):Prop where
 op:Mv x.Op
 a:Mv x.A
 c:FS x.C
 m:FS x.M
structure r6(x:zZ):Prop where
 pl:Mv x.At
 locals:FL FS x.Locals
 stack:FL FS x.Stack
structure s9(x:zU):Prop where
 lo:Mv x.From
 hi:Mv x.To
 pl:Mv x.At
 c:FS x.C
structure C1(m:zb):Prop where
 name:FS m.Name
 params:FL FS m.Params
 ret:FS m.Ret
 locals:Mv m.Locals
 stack:Mv m.Stack
 code:FL r7 m.Code
 maps:FL r6 m.Maps
 traps:FL s9 m.Traps
structure XI(c:za):Prop where
 name:FS c.Name
 super:FS c.Super
 impl:FL FS c.Impl
 fields:FL tP c.Fields
 methods:FL C1 c.Methods
theorem FL.le{l:List α}(h:FL Q l):XP l:=by have:=h.len;unfold XP;omega
theorem FS.le{s:List UInt8}(h:FS s):Lf s:=by unfold FS at h;unfold Lf;omega
theorem XI.cg{c:za}(h:XI c):W3 c where
 name:=h.name.le
 super:=h.super.le
 impl:=⟨h.impl.le,λs hs=>(h.impl.all s hs).le⟩
 fields:=⟨h.fields.le,λf hf=>⟨(h.fields.all f hf).name.le,(h.fields.all f hf).type.le⟩⟩
 methods:=⟨h.methods.le,λm hm=>by
  have g:=h.methods.all m hm;have g1:=g.params.len;have g2:=g.code.len;have g3:=g.maps.len;have g4:=g.traps.len
  exact⟨g.name.le,⟨YA,λs hs=>(g.params.all s hs).le⟩,g.ret.le,
   ⟨g.maps.le,g.code.le,λx hx=>⟨⟨(g.maps.all x hx).locals.le,λs hs=>((g.maps.all x hx).locals.all s hs).le⟩,(g.maps.all x hx).stack.le,λs hs=>((g.maps.all x hx).stack.all s hs).le⟩⟩,
   ⟨⟨g.code.le,λx hx=>⟨(g.code.all x hx).c.le,(g.code.all x hx).m.le⟩⟩,⟨g.traps.le,λx hx=>(g.traps.all x hx).c.le⟩⟩,⟨YA,YA,YA⟩⟩⟩
theorem GG{s:List UInt8}:ZN s (n:Int)=some (s.take n):=by
 unfold ZN;by_cases h:n<s.length;.rw[YH (show(n:Int)<(s.length:Int)by omega),Ea YA];rfl
 rw[YI (show ¬(n:Int)<(s.length:Int)by omega),JF YA];rfl
theorem Br{β R:Type}{body:List β×Int->Option (Sum (List β×Int) (Sum (List β) R))}{l:List α}{f:α->β}(hn:n<=1000)(hb:∀VQ (i:Nat) x,l[i]?=some x->i<n->VQ.length=i->body (VQ,(i:Int))=some (.inl (VQ++[f x],i64.wrap ((i:Int)+1))))(he:∀VQ (i:Nat),(decide ((i:Int)<(l.length:Int))&&decide ((i:Int)<(n:Int)))=false->body (VQ,(i:Int))=some (.inr (.inl VQ))):zk body ([],0)=some (.inl ((l.take n).map f)):=by
 have key:∀d i,(l.take n).length-i=d->i<=(l.take n).length->zk body (((l.take n).take i).map f,(i:Int))=some (.inl ((l.take n).map f)):=by
  intro d
  induction d with
  |zero =>
   intro i hd hi
   have e:i=(l.take n).length:=YA
   rw[zH,he _ i (by
    rw[QO]at e;rw[JI]
    rcases Nat.le_total n l.length with h|h
    .exact .inr (YI YA)
    exact .inl (YI YA)),e,J9]
   rfl
  |succ d ih =>
   intro i hd hi
   have hlt:i<(l.take n).length:=YA
   have h2:i<n/\i<l.length:=by rw[QO]at hlt;omega
   have hx:l[i]?=some l[i]:=Qe h2.2;rw[zH,hb _ i l[i] hx h2.1 (by rw[QY,QO];omega),zz YA];have:=ih (i+1) YA YA;rw[JW,JP h2.1,hx]at this;simp only[Option.toList_some,Jt,Yq,List.map_nil]at this;exact this
 exact key _ 0 rfl (Qk _)
theorem more{l:List α}{i:Nat}{x:α}(h:l[i]?=some x)(hi:i<n):(decide ((i:Int)<(l.length:Int))&&decide ((i:Int)<(n:Int)))=true:=by rw[Xl h,YH YA];rfl
def j5(f:zh):zh:=zh.mk (f.Name.take 10) (f.Type_.take 12) f.Static
def dm(x:zp):zp:=zp.mk x.Op x.A (x.C.take 14) (x.M.take 12)
def WY(n:Nat)(l:List (List UInt8)):List (List UInt8):=(l.take n).map (·.take 12)
def qW(x:zZ):zZ:=zZ.mk x.At (WY 20 x.Locals) (WY 20 x.Stack)
def j1(x:zU):zU:=zU.mk x.From x.To x.At (x.C.take 10)
def CK(m:zb):zb:=zb.mk (m.Name.take 10) (WY 8 m.Params) (m.Ret.take 12) m.Static m.Abstract m.Locals m.Stack ((m.Code.take 104).map dm) ((m.Maps.take 104).map qW) ((m.Traps.take 8).map j1)
def WZ(c:za):za:=za.mk (c.Name.take 10) (c.Super.take 10) c.Interface (WY 6 c.Impl) ((c.Fields.take 10).map j5) ((c.Methods.take 10).map CK)
theorem TY{l:List (List UInt8)}(hn:n<=100):GF l (n:Int)=some (WY n l):=by
 unfold GF
 rw[show zk (λz=>E1 l (n:Int) z.1 z.2) ([],0)=some (.inl (WY n l))from Br YA (λVQ i x hx hi ha=>by
  show E1 l (n:Int) VQ (i:Int)=_;unfold E1;rw[more hx hi,zo,hx];simp only[Qa,YF]
  rw[show ZN x 12=_ from GG (n:=12),Qa,XH (by simp;omega) (by simp;omega)];rfl) (λVQ i h=>by
  show E1 l (n:Int) VQ (i:Int)=_;unfold E1
  rw[h];rfl)]
 rfl
theorem zAA(x:zp):Sp x=some (dm x):=by unfold Sp;rw[show ZN x.C 14=_ from GG (n:=14),show ZN x.M 12=_ from GG (n:=12)];rfl
theorem ml(m:zb):Tj m=some (CK m):=by
 unfold Tj;rw[show ZN m.Name 10=_ from GG (n:=10),show ZN m.Ret 12=_ from GG (n:=12),show GF m.Params 8=_ from TY (n:=8) YB];simp only[Qa]
 rw[show zk (λz=>Ic m z.1 z.2) ([],0)=some (.inl ((m.Code.take 104).map dm))from Br YB (λVQ i x hx hi ha=>by
  show Ic m VQ (i:Int)=_;unfold Ic;rw[show(decide ((i:Int)<(m.Code.length:Int))&&decide ((i:Int)<104))=true from more hx hi,zo,hx];simp only[Qa,YF]
  rw[zAA,Qa,XH (by simp;omega) (by simp;omega)];rfl) (λVQ i h=>by
  show Ic m VQ (i:Int)=_;unfold Ic
  rw[show(decide ((i:Int)<(m.Code.length:Int))&&decide ((i:Int)<104))=false from h];rfl)]
 simp only[Qa];show kL m _ _ _ _=_;unfold kL
 rw[show zk (λz=>Ib m z.1 z.2) ([],0)=some (.inl ((m.Maps.take 104).map qW))from Br YB (λVQ i x hx hi ha=>by
  show Ib m VQ (i:Int)=_;unfold Ib;rw[show(decide ((i:Int)<(m.Maps.length:Int))&&decide ((i:Int)<104))=true from more hx hi,zo,hx];simp only[Qa,YF];rw[show GF x.Locals 20=_ from TY (n:=20) YB,show GF x.Stack 20=_ from TY (n:=20) YB];simp only[Qa]
  rw[XH (by simp;omega) (by simp;omega)];rfl) (λVQ i h=>by
  show Ib m VQ (i:Int)=_;unfold Ib
  rw[show(decide ((i:Int)<(m.Maps.length:Int))&&decide ((i:Int)<104))=false from h];rfl)]
 simp only[Qa];show kK m _ _ _ _ _=_;unfold kK
 rw[show zk (λz=>Ia m z.1 z.2) ([],0)=some (.inl ((m.Traps.take 8).map j1))from Br YB (λVQ i x hx hi ha=>by
  show Ia m VQ (i:Int)=_;unfold Ia;rw[show(decide ((i:Int)<(m.Traps.length:Int))&&decide ((i:Int)<8))=true from more hx hi,zo,hx];simp only[Qa,YF]
  rw[show ZN x.C 10=_ from GG (n:=10),Qa,XH (by simp;omega) (by simp;omega)];rfl) (λVQ i h=>by
  show Ia m VQ (i:Int)=_;unfold Ia
  rw[show(decide ((i:Int)<(m.Traps.length:Int))&&decide ((i:Int)<8))=false from h];rfl)]
 rfl
theorem zAE(c:za):Sn c=some ((WZ c).Name,(WZ c).Super,(WZ c).Impl,(WZ c).Fields,(WZ c).Methods):=by
 unfold Sn;rw[show ZN c.Name 10=_ from GG (n:=10),show ZN c.Super 10=_ from GG (n:=10),show GF c.Impl 6=_ from TY (n:=6) YB];simp only[Qa]
 rw[show zk (λz=>EN c z.1 z.2) ([],0)=some (.inl ((c.Fields.take 10).map j5))from Br YB (λVQ i x hx hi ha=>by
  show EN c VQ (i:Int)=_;unfold EN;rw[show(decide ((i:Int)<(c.Fields.length:Int))&&decide ((i:Int)<10))=true from more hx hi,zo,hx];simp only[Qa,YF];rw[show ZN x.Name 10=_ from GG (n:=10),show ZN x.Type_ 12=_ from GG (n:=12)];simp only[Qa]
  rw[XH (by simp;omega) (by simp;omega)];rfl) (λVQ i h=>by
  show EN c VQ (i:Int)=_;unfold EN
  rw[show(decide ((i:Int)<(c.Fields.length:Int))&&decide ((i:Int)<10))=false from h];rfl)]
 simp only[Qa];show uN c _ _ _ _=_;unfold uN
 rw[show zk (λz=>EM c z.1 z.2) ([],0)=some (.inl ((c.Methods.take 10).map CK))from Br YB (λVQ i x hx hi ha=>by
  show EM c VQ (i:Int)=_;unfold EM;rw[show(decide ((i:Int)<(c.Methods.length:Int))&&decide ((i:Int)<10))=true from more hx hi,zo,hx];simp only[Qa,YF]
  rw[ml,Qa,XH (by simp;omega) (by simp;omega)];rfl) (λVQ i h=>by
  show EM c VQ (i:Int)=_;unfold EM
  rw[show(decide ((i:Int)<(c.Methods.length:Int))&&decide ((i:Int)<10))=false from h];rfl)]
 rfl
theorem DX{n:Int}(h:wI .i64 n):Mv n:=by have h:(Lit.int .i64 n).wf=true:=h;unfold Lit.wf at h;simp[IntKind.min,IntKind.max,IntKind.bits,IntKind.signed]at h;exact⟨YA,YA⟩
theorem FS.take(s:List UInt8){n:Nat}(hn:n<=100):FS (s.take n):=by unfold FS;rw[QO];omega
theorem R6{l:List (List UInt8)}(hn:n<=100):FL FS (WY n l):=by refine⟨by unfold WY;rw[QY,QO];omega,λx hx=>?_⟩;obtain⟨y,_,rfl⟩:=QP.1 hx;exact FS.take y YB
theorem NQ{l:List α}{f:α->α}(hn:n<=200)(h:∀x∈l,Q (f x)):FL Q ((l.take n).map f):=by refine⟨by rw[QY,QO];omega,λx hx=>?_⟩;obtain⟨y,hy,rfl⟩:=QP.1 hx;exact h y (Yb hy)
theorem aL{m:zb}(h:uC m):C1 (CK m):=by
 obtain⟨_,_,_,_,_,h1,h2,h3,h4,h5⟩:=h
 exact⟨FS.take _ YB,R6 YB,FS.take _ YB,DX h1,DX h2,
  NQ YB λx hx=>⟨DX (h3.2 x hx).1,DX (h3.2 x hx).2.1,FS.take _ YB,FS.take _ YB⟩,
  NQ YB λx hx=>⟨DX (h4.2 x hx).1,R6 YB,R6 YB⟩,
  NQ YB λx hx=>⟨DX (h5.2 x hx).1,DX (h5.2 x hx).2.1,DX (h5.2 x hx).2.2.1,FS.take _ YB⟩⟩
theorem aM{c:za}(h:Em c):XI (WZ c):=by obtain⟨_,_,_,_,_,h1⟩:=h;exact⟨FS.take _ YB,FS.take _ YB,R6 YB,NQ YB λx hx=>⟨FS.take _ YB,FS.take _ YB⟩,NQ YB λx hx=>aL (h1.2 x hx)⟩
def RH(l:Vr):Vr:=(l.take 18).map WZ
theorem zAB(l:Vr):So l=some (RH l):=by
 unfold So
 rw[show zk (λz=>EO l z.1 z.2) ([],0)=some (.inl (RH l))from Br YB (λVQ i x hx hi ha=>by
  show EO l VQ (i:Int)=_;unfold EO;rw[show(decide ((i:Int)<(l.length:Int))&&decide ((i:Int)<18))=true from more hx hi,zo,hx];simp only[Qa,YF]
  rw[zAE,Qa,XH (by simp;omega) (by simp;omega)];rfl) (λVQ i h=>by
  show EO l VQ (i:Int)=_;unfold EO
  rw[show(decide ((i:Int)<(l.length:Int))&&decide ((i:Int)<18))=false from h];rfl)]
 rfl
structure qz(c:za):Prop where
 fc:XI c
 name:c.Name.length<=10
 super:c.Super.length<=10
 impl:∀s∈c.Impl,s.length<=12
theorem zC3{c:za}(h:Em c):qz (WZ c):=by
 refine⟨aM h,?_,?_,λs hs=>?_⟩;.show(c.Name.take 10).length<=10;rw[QO];omega
 .show(c.Super.take 10).length<=10;rw[QO];omega
 obtain⟨y,_,rfl⟩:=QP.1 (show s∈(c.Impl.take 6).map (·.take 12)from hs);rw[QO];omega
theorem zCR(h:∀c∈l,Em c):∀c∈RH l,qz c:=λc hc=>by
 obtain⟨d,hd,rfl⟩:=QP.1 hc;exact zC3 (h d (Yb hd))
section
variable {m:List (Tx×Int)}
theorem tZ:∀c∈Lb,XI c:=by
 intro c hc
 have hg:Lb.all (λc=>decide (c.Name.length<=10)&&decide (c.Super.length<=10)&&(c.Impl==[])&&decide (c.Fields.length=0)&&decide (c.Methods.length=0))=true:=by decide +kernel
 have:=Qr.1 hg c hc;simp only[Qd,YJ,YN]at this;obtain⟨⟨⟨⟨h1,h2⟩,h3⟩,h4⟩,h5⟩:=this;refine⟨by unfold FS;omega,by unfold FS;omega,⟨by rw[h3];simp,λs hs=>by rw[h3]at hs;cases hs⟩,⟨YA,λs hs=>?_⟩,⟨YA,λs hs=>?_⟩⟩;.rw[Qf h4]at hs;cases hs
 rw[Qf h5]at hs;cases hs
theorem yC(h:Xf l L)(hs:∀c∈l,XI c):∀c∈L,XI c:=by
 intro c hc;rw[h.app]at hc
 rcases Qp.1 hc with e|e
 .exact tZ c e
 exact hs c e
def zC:za:=za.mk [] [] false [] [] []
theorem vP(hm:Xq L m)(n:Tx):zI L m n=some (match cl L n with|some c=>(c,true)|none=>(zC,false)):=by
 show cond (!(Ky L m n)) (some (zC,false)) ((HO L m n).bind λv4=>some (v4,true))=_;unfold Ky;rw[hm.has]
 cases hc:cl L n with
 |none=>rw[Db hc];rfl
 |some c=>rw[ZC hc,OZ hm (ZC hc),hc];rfl
end
section
variable {m:List (Tx×Int)}
theorem Rc.trans{a c:Tx}(h:Rc nx a b)(k:Rc nx b c):Rc nx a c:=by
 induction h with
 |one h=>exact .more h k
 |more h _ ih=>exact .more h (ih k)
end
theorem Hx(p:α->Bool)(l:List α):idx l (Lq p 0 l)=l.find? p:=by
 rcases De p l 0 with ⟨j,x,h1,h2,h3,h4⟩|⟨h1,h2⟩
 .rw[h1,h4,zo,QN,h2]
 rw[h1,h2];rfl
theorem HB(p:α->Bool)(l:List α):decide (0<=Lq p 0 l)=(l.find? p).isSome:=by rw[ZK,QJ,QB,List.find?_isSome]
theorem oN{α β:Type}{f g:α->Option β}:∀{l:List α},(∀x∈l,f x=g x)->l.findSome? f=l.findSome? g
 |[],_=>rfl
 |x::l,h=>by
  rw[Q7,Q7,h x YC,oN λy hy=>h y (by simp[hy])]
def zF:zh:=zh.mk [] [] false
def zM:zb:=zb.mk [] [] [] false false 0 0 [] [] []
abbrev FR:=List UInt8×zh×Bool
abbrev MR:=List UInt8×zb×Bool
def Ud(L:Vr)(n s:Tx):Option FR:=match cl L s with|some x=>(match x.Fields.find? (λy=>y.Name==n)with|some f=>some (s,f,true)|none=>none)|none=>none
def X4(L:Vr)(may:zb->Bool)(n s:Tx):Option MR:=match cl L s with|some x=>(match x.Methods.find? (λy=>y.Name==n)with|some f=>cond (may f) (some (s,f,true)) none|none=>none)|none=>none
theorem We{R:Type}(o:Option R)(z:R):(some (XJ () o):Option (Sum Unit R)).bind (λo=>zE o (λ_=>some z) some)=some (o.getD z):=by cases o<;>rfl
section
variable {m:List (Tx×Int)}
theorem Us(hm:Xq L m)(n:Tx):zI L m n=some (match cl L n with|some c=>(c,true)|none=>(zC,false)):=vP hm n
def XQ(L:Vr):Prop:=∀c∈L,XP c.Fields/\XP c.Methods
theorem Kf(h:∀c∈L,XI c):XQ L:=λc hc=>⟨(h c hc).fields.le,(h c hc).methods.le⟩
theorem Bm(h:Xf l L)(hm:Xq L m)(hL:XQ L)(c n:Tx):Wq L m c n=some (((Xh L c).findSome? (Ud L n)).getD ([],zF,false)):=by
 have h26:=Z4 h c;unfold Wq;rw[Dj h hm];simp only[Qa]
 rw[show zk (λz=>Ix L m n (Xh L c) z) 0=some (XJ () ((Xh L c).findSome? (Ud L n)))from Zq (λi s hs=>by
  have hi:=(Qb.1 hs).1;obtain⟨x,hx⟩:=XY (Ul h _ c s (Qc hs)).1;show Ix L m n (Xh L c) (i:Int)=_;unfold Ix;rw[Xl hs,zo,hs];simp only[YF,Qa];rw[Us hm,hx];simp only[Qa];rw[mS (hL x (XG hx).1).1];simp only[Qa];rw[HB,Hx,zz YA];unfold Ud;rw[hx]
  show _=some (U6 i (match x.Fields.find? (λy=>y.Name==n)with|some f=>some (s,f,true)|none=>none))
  cases x.Fields.find? (λy=>y.Name==n)<;>rfl) (by
  show Ix L m n (Xh L c) ((Xh L c).length:Int)=_;unfold Ix
  rw[Xm];rfl)]
 exact We _ _
theorem Tp(h:Xf l L)(hL:XQ L)(c n:Tx):BV L c n=some (((Xh L c).findSome? (Ud L n)).getD ([],zF,false)):=by
 have h26:=Z4 h c;have hl:=h.len;unfold BV;rw[HN h];simp only[Qa]
 rw[show zk (λz=>IJ L n (Xh L c) z) 0=some (XJ () ((Xh L c).findSome? (Ud L n)))from Zq (λi s hs=>by
  have hi:=(Qb.1 hs).1;obtain⟨x,hx⟩:=XY (Ul h _ c s (Qc hs)).1;show IJ L n (Xh L c) (i:Int)=_;unfold IJ;rw[Xl hs,zo,hs];simp only[YF,Qa];rw[Zc YA];simp only[Qa];rw[KO hx];simp only[Qa];rw[oW (hL x (XG hx).1).1];simp only[Qa];rw[HB,Hx,zz YA];unfold Ud;rw[hx]
  show _=some (U6 i (match x.Fields.find? (λy=>y.Name==n)with|some f=>some (s,f,true)|none=>none))
  cases x.Fields.find? (λy=>y.Name==n)<;>rfl) (by
  show IJ L n (Xh L c) ((Xh L c).length:Int)=_;unfold IJ
  rw[Xm];rfl)]
 exact We _ _
theorem xM(h:Xf l L)(hm:Xq L m)(hL:XQ L)(hT:T.length<=1000)(n:Tx){body:Int->Option (Sum Int (Sum Unit MR))}(FK:∀s∈T,Xi L s=true)(hb:∀(i:Nat) s x,T[i]?=some s->cl L s=some x->body (i:Int)=((HM x n).bind λv15=>(cond (decide (0<=v15)) ((idx x.Methods v15).bind λv16=>some (may v16)) (some false)).bind λv17=>cond v17 ((idx x.Methods v15).bind λv18=>some (.inr (.inr (s,v18,true)))) (some (.inl (i64.wrap ((i:Int)+1))))))(he:body (T.length:Int)=some (.inr (.inl ()))):zk body 0=some (XJ () (T.findSome? (X4 L may n))):=by
 refine Zq (λi s hs=>?_) he;have hi:=(Qb.1 hs).1;obtain⟨x,hx⟩:=XY (FK s (Qc hs));rw[hb i s x hs hx,e6 (hL x (XG hx).1).2];simp only[Qa];rw[HB,Hx,zz YA];unfold X4;rw[hx]
 show _=some (U6 i (match x.Methods.find? (λy=>y.Name==n)with|some f=>cond (may f) (some (s,f,true)) none|none=>none))
 cases x.Methods.find? (λy=>y.Name==n)with
 |none=>rfl
 |some f =>
  simp only[JH,YF,Qa];cases may f<;>rfl
theorem cR(h:Xf l L)(hm:Xq L m)(hL:XQ L)(hT:T.length<=1000)(FK:∀s∈T,Xi L s=true)(n:Tx):Pr L m T n=some ((T.findSome? (X4 L ZY n)).getD ([],zM,false)):=by
 unfold Pr
 rw[show zk (λz=>Ih L m T n z) 0=some (XJ () (T.findSome? (X4 L ZY n)))from xM h hm hL hT n FK (λi s x hs hx=>by
  show Ih L m T n (i:Int)=_;unfold Ih;rw[Xl hs,zo,hs];simp only[YF,Qa]
  rw[Us hm,hx];rfl) (by
  show Ih L m T n (T.length:Int)=_;unfold Ih
  rw[Xm];rfl)]
 exact We _ _
theorem cQ(h:Xf l L)(hm:Xq L m)(hL:XQ L)(hT:T.length<=1000)(FK:∀s∈T,Xi L s=true)(n:Tx):Tu L m T n=some ((T.findSome? (X4 L HJ n)).getD ([],zM,false)):=by
 unfold Tu
 rw[show zk (λz=>Ig L m T n z) 0=some (XJ () (T.findSome? (X4 L HJ n)))from xM h hm hL hT n FK (λi s x hs hx=>by
  show Ig L m T n (i:Int)=_;unfold Ig;rw[Xl hs,zo,hs];simp only[YF,Qa]
  rw[Us hm,hx];rfl) (by
  show Ig L m T n (T.length:Int)=_;unfold Ig
  rw[Xm];rfl)]
 exact We _ _
theorem cS(h:Xf l L)(hm:Xq L m)(hL:XQ L)(hT:T.length<=1000)(FK:∀s∈T,Xi L s=true)(n:Tx):Tv L m T n=some ((T.findSome? (X4 L KW n)).getD ([],zM,false)):=by
 unfold Tv
 rw[show zk (λz=>Ii L m T n z) 0=some (XJ () (T.findSome? (X4 L KW n)))from xM h hm hL hT n FK (λi s x hs hx=>by
  show Ii L m T n (i:Int)=_;unfold Ii;rw[Xl hs,zo,hs];simp only[YF,Qa]
  rw[Us hm,hx];rfl) (by
  show Ii L m T n (T.length:Int)=_;unfold Ii
  rw[Xm];rfl)]
 exact We _ _
theorem En(h:Xf l L)(c:Tx):∀s∈Xh L c,Xi L s=true:=λs hs=>(Ul h _ c s hs).1
theorem Wc(h:Xf l L)(hm:Xq L m)(hL:XQ L)(c n:Tx):BP L m c n=some (((Xh L c).findSome? (X4 L ZY n)).getD ([],zM,false)):=by have h26:=Z4 h c;unfold BP;rw[Dj h hm];simp only[Qa];rw[cR h hm hL YA (En h c)];rfl
theorem TC(h:Xf l L)(hL:XQ L)(c n:Tx):BU L c n=some (((Xh L c).findSome? (X4 L ZY n)).getD ([],zM,false)):=by
 have h26:=Z4 h c;have hl:=h.len;unfold BU;rw[HN h];simp only[Qa]
 rw[show zk (λz=>IZ L n (Xh L c) z) 0=some (XJ () ((Xh L c).findSome? (X4 L ZY n)))from Zq (λi s hs=>by
  have hi:=(Qb.1 hs).1;obtain⟨x,hx⟩:=XY (En h c s (Qc hs));show IZ L n (Xh L c) (i:Int)=_;unfold IZ;rw[Xl hs,zo,hs];simp only[YF,Qa];rw[Zc YA];simp only[Qa];rw[KO hx];simp only[Qa];rw[Wu (hL x (XG hx).1).2];simp only[Qa];rw[HB,Hx,zz YA];unfold X4;rw[hx]
  show _=some (U6 i (match x.Methods.find? (λy=>y.Name==n)with|some f=>cond (ZY f) (some (s,f,true)) none|none=>none))
  cases hf:x.Methods.find? (λy=>y.Name==n)with
  |none=>rfl
  |some f =>
   have e:f.Name=n:=by have:=List.find?_some hf;simpa using this
   simp only[ZY,JH,QD,Qa,e]
   cases(n==[36,105,110,105,116])<;>rfl) (by
  show IZ L n (Xh L c) ((Xh L c).length:Int)=_;unfold IZ
  rw[Xm];rfl)]
 exact We _ _
def Ux(L:Vr)(c n:Tx):MR:=cond (Lg L c) (((c::XT L c).findSome? (X4 L HJ n)).getD ([],zM,false)) ([],zM,false)
theorem wd{c:Tx}(h:Lg L c=true):Xi L c=true:=by
 unfold Lg at h
 cases hc:cl L c with
 |none=>rw[hc]at h;cases h
 |some x=>exact ZC hc
theorem R4(h:Xf l L)(hm:Xq L m)(hL:XQ L)(c n:Tx):E4 L m c n=some (Ux L c n):=by
 have h52:=Eu h c;unfold E4 Ux;rw[Us hm]
 have e:Lg L c=(match cl L c with|some c=>(c,true)|none=>(zC,false)).1.Interface:=by
  unfold Lg;cases cl L c<;>rfl
 cases hF:Lg L c with
 |false =>
  rw[hF]at e;simp only[Qa];rw[<-e];rfl
 |true =>
  rw[hF]at e;simp only[Qa];rw[<-e];simp only[Qo,YG];rw[uk h hm];simp only[Qa];rw[XH (by simp;omega) (by simp;omega)];simp only[Qa]
  rw[cQ h hm hL (by simp;omega) (λs hs=>by
   rcases Qu.1 (show s∈c::XT L c from hs)with e|e
   .rw[e];exact wd hF
   exact Ew h e)]
  rfl
theorem uM(h:Xf l L)(hL:XQ L)(c n:Tx):E6 L c n=some (Ux L c n):=by
 have h52:=Eu h c;have hl:=h.len;unfold E6 Ux;rw[Zc YA];simp only[Qa];rw[Gy,Kp]
 have e:(cond (!Xi L c) (some true) ((cl L c).bind λv5=>some (!v5.Interface)))=some (!Lg L c):=by
  unfold Lg
  cases hc:cl L c with
  |none=>rw[Db hc];rfl
  |some x=>rw[ZC hc];rfl
 rw[e];simp only[Qa]
 cases hF:Lg L c with
 |false=>rfl
 |true =>
  simp only[Qo,YG,YF];rw[u9 h];simp only[Qa];rw[XH (by simp;omega) (by simp;omega)];simp only[Qa]
  rw[show zk (λz=>IN L n ([c]++XT L c) z) 0=some (XJ () ((c::XT L c).findSome? (X4 L HJ n)))from Zq (l:=c::XT L c) (λi s hs=>by
   have hi:=(Qb.1 hs).1;simp only[Qw]at hi
   have FT:Xi L s=true:=by
    rcases Qu.1 (Qc hs)with e|e
    .rw[e];exact wd hF
    exact Ew h e
   obtain⟨x,hx⟩:=XY FT;show IN L n (c::XT L c) (i:Int)=_;unfold IN;rw[Xl hs,zo,hs];simp only[YF,Qa];rw[Zc YA];simp only[Qa];rw[KO hx];simp only[Qa];rw[Wu (hL x (XG hx).1).2];simp only[Qa];rw[HB,Hx,zz YA];unfold X4 HJ;rw[hx]
   show _=some (U6 i (match x.Methods.find? (λy=>y.Name==n)with|some f=>cond true (some (s,f,true)) none|none=>none))
   cases x.Methods.find? (λy=>y.Name==n)<;>rfl) (by
   show IN L n (c::XT L c) ((c::XT L c).length:Int)=_;unfold IN
   rw[Xm];rfl)]
  exact We _ _
theorem Pq(h:Xf l L){x:za}(hx:x∈L){f:zb}(hf:f∈x.Methods):f.Abstract=x.Interface:=by
 rw[h.app]at hx
 rcases Qp.1 hx with e|e
 .have hg:Lb.all (λc=>decide (c.Methods.length=0))=true:=by decide +kernel
  have:=YO (Qr.1 hg x e);rw[Qf this]at hf;cases hf
 have:=h.may x e;unfold ZT at this;simp only[Qd,Qm,YJ]at this;have h2:=OU this.2.2.1 f hf;rw[Qd,YN]at h2;exact h2.1
def MM(L:Vr)(n s:Tx):Option (List UInt8×Bool):=match cl L s with|some x=>(match x.Methods.find? (λy=>y.Name==n)with|some f=>cond (!f.Static) (some (s,true)) none|none=>none)|none=>none
theorem zEA(h:Xf l L)(hm:Xq L m)(hL:XQ L)(c n:Tx):PD L m c n=some ((((Xh L c).findSome? (X4 L KW n)).getD ([],zM,false)).1,(((Xh L c).findSome? (X4 L KW n)).getD ([],zM,false)).2.2):=by have h26:=Z4 h c;unfold PD;rw[Dj h hm];simp only[Qa];rw[cS h hm hL YA (En h c)];rfl
theorem oM{α β γ:Type}{f:α->Option β}{g:β->γ}:∀{l:List α},(l.findSome? f).map g=l.findSome? (λx=>(f x).map g)
 |[]=>rfl
 |x::l=>by
  rw[Q7,Q7]
  cases f x with
  |some y=>rfl
  |none=>exact oM
theorem o4{α β:Type}{f:α->Option β}:∀{l:List α},(∀x∈l,f x=none)->l.findSome? f=none
 |[],_=>rfl
 |x::l,h=>by
  rw[Q7,h x YC];exact o4 λy hy=>h y (by simp[hy])
theorem zHO(h:Xf l L)(may:zb->Bool)(n:Tx):X4 L may n K4=none:=by have e:cl L K4=some (gC K4 []):=O0 h.app rfl;unfold X4;rw[e];rfl
theorem yp(h:Xf l L){c:Tx}(hs:s∈Xh L c)(hF:Lg L c=false):Lg L s=false:=by
 rcases(Ul h _ c s hs).2.2 with e|⟨x,hx,e⟩
 .rw[e];exact hF
 rw[e];exact h.superF x hx
theorem vf(h:Xf l L){c:Tx}(hs:s∈Xh L c)(hF:Lg L c=true):s=c\/s=K4:=by
 unfold Xh at hs;have hn:=wd hF
 cases hd:L.length with
 |zero=>rw[hd]at hs;simp[LE]at hs
 |succ d =>
  rw[hd]at hs;unfold LE at hs;obtain⟨x,hx⟩:=XY hn;rw[hx]at hs
  rcases Qu.1 hs with e|e
  .exact .inl e
  right
  have hI:x.Interface=true:=by unfold Lg at hF;rw[hx]at hF;exact hF
  have hxS:x.Super=K4:=by
   have hxm:=(XG hx).1;rw[h.app]at hxm
   rcases Qp.1 hxm with e|e
   .rw[(CP e).2.1]at hI;cases hI
   have:=h.may x e;unfold ZT at this;rw[hI]at this;simp only[Qd,Qm,QD,Qh,QT]at this;exact YP this.1.1
  rw[hxS]at e
  cases d with
  |zero=>simp[LE]at e
  |succ d =>
   unfold LE at e;have eo:cl L K4=some (gC K4 []):=O0 h.app rfl;rw[eo]at e
   rcases Qu.1 e with e|e
   .exact e
   rw[show(gC K4 []).Super=[]from rfl,wa h]at e;cases e
def Ma(L:Vr)(c n:Tx):List UInt8×Bool:=cond (Xi L c&&!Lg L c) (((Xh L c).findSome? (MM L n)).getD ([],false)) ([],false)
theorem zG9(h:Xf l L)(hm:Xq L m)(hL:XQ L)(c n:Tx):PD L m c n=some (Ma L c n):=by
 rw[zEA h hm hL];congr 1;unfold Ma
 cases hn:Xi L c with
 |false=>rw[GD hn];rfl
 |true =>
  cases hF:Lg L c with
  |true =>
   rw[o4 (λs hs=>?_)];.rfl
   .rcases vf h hs hF with e|e
    .subst e;obtain⟨x,hx⟩:=XY hn
     have hI:x.Interface=true:=by unfold Lg at hF;rw[hx]at hF;exact hF
     unfold X4;rw[hx]
     show(match x.Methods.find? (λy=>y.Name==n)with|some f=>cond (KW f) (some (s,f,true)) none|none=>none)=none
     cases hf:x.Methods.find? (λy=>y.Name==n)with
     |none=>rfl
     |some f =>
      have:=Pq h (XG hx).1 (QG hf);simp only[KW,this,hI,Qo,Jf,YG]
    .rw[e];exact zHO h _ _
  |false =>
   simp only[QI,JR,YF]
   have e:(Xh L c).findSome? (MM L n)=((Xh L c).findSome? (X4 L KW n)).map (λz:MR=>(z.1,z.2.2)):=by
    rw[oM];refine oN λs hs=>?_;obtain⟨x,hx⟩:=XY (En h c s hs)
    have hI:x.Interface=false:=by
     have:=yp h hs hF;unfold Lg at this;rw[hx]at this;exact this
    unfold MM X4;rw[hx]
    show(match x.Methods.find? (λy=>y.Name==n)with|some f=>cond (!f.Static) (some (s,true)) none|none=>none)=Option.map _ (match x.Methods.find? (λy=>y.Name==n)with|some f=>cond (KW f) (some (s,f,true)) none|none=>none)
    cases hf:x.Methods.find? (λy=>y.Name==n)with
    |none=>rfl
    |some f =>
     have:=Pq h (XG hx).1 (QG hf);simp only[KW,this,hI,QI,Ys];cases f.Static<;>rfl
   rw[e];cases(Xh L c).findSome? (X4 L KW n)<;>rfl
theorem ln(h:Xf l L)(hL:XQ L)(c n:Tx):Ah L c n=some (Ma L c n):=by
 have h26:=Z4 h c;have hl:=h.len;unfold Ah Ma;rw[Zc YA];simp only[Qa];rw[Gy,Kp]
 have e:(cond (!Xi L c) (some true) ((cl L c).bind λv5=>some v5.Interface))=some (!(Xi L c&&!Lg L c)):=by
  unfold Lg
  cases hc:cl L c with
  |none=>rw[Db hc];rfl
  |some x=>rw[ZC hc];simp
 rw[e];simp only[Qa]
 cases hB:(Xi L c&&!Lg L c)with
 |false=>rfl
 |true =>
  simp only[Qo,YG,YF];rw[HN h];simp only[Qa]
  rw[show zk (λz=>I4 L n (Xh L c) z) 0=some (XJ () ((Xh L c).findSome? (MM L n)))from Zq (λi s hs=>by
   have hi:=(Qb.1 hs).1;obtain⟨x,hx⟩:=XY (En h c s (Qc hs));show I4 L n (Xh L c) (i:Int)=_;unfold I4;rw[Xl hs,zo,hs];simp only[YF,Qa];rw[Zc YA];simp only[Qa];rw[KO hx];simp only[Qa];rw[Wu (hL x (XG hx).1).2];simp only[Qa];rw[HB,Hx,zz YA];unfold MM;rw[hx]
   show _=some (U6 i (match x.Methods.find? (λy=>y.Name==n)with|some f=>cond (!f.Static) (some (s,true)) none|none=>none))
   cases x.Methods.find? (λy=>y.Name==n)with
   |none=>rfl
   |some f =>
    simp only[JH,YF,Qa]
    cases f.Static<;>rfl) (by
   show I4 L n (Xh L c) ((Xh L c).length:Int)=_;unfold I4
   rw[Xm];rfl)]
  exact We _ _
end
section
variable {m:List (Tx×Int)}
def Uc(L:Vr)(t:Tx):Bool:=((t==[78])||(t==[84]))||Lk L t
def He(L:Vr)(t:Tx):Bool:=!(t==[73])&&Lk L t
def Zl(L:Vr)(a b:Tx):Bool:=(Uc L a&&Uc L b)&&cond ((b==[84])||(a==b)) true (cond (a==[78]) (He L b) ((He L a&&He L b)&&(Lg L b||KC L a b)))
theorem sub_self(t:Tx):KC L t t=Lk L t:=by rw[wb];simp
theorem dH:Xr [78]=false:=by decide +kernel
theorem dG:Xr [84]=false:=by decide +kernel
theorem qa:Lk L [78]=false:=by unfold Lk;rw[dH];rfl
theorem rE:Lk L [84]=false:=by unfold Lk;rw[dG];rfl
theorem Bg(h:Xf l L)(hm:Xq L m){t:Tx}(ht:t.length<=25):Du L m t=some (Uc L t):=by
 unfold Du Uc;rw[Ec h hm ht (by unfold Lf;omega),sub_self]
 cases((t==[78])||(t==[84]))<;>rfl
theorem yI(h:Xf l L)(hm:Xq L m){t:Tx}(ht:t.length<=25):EF L m t=some (He L t):=by unfold EF He;rw[Ec h hm ht (by unfold Lf;omega),sub_self];cases(t==[73])<;>rfl
theorem bM(b:Tx):Lg L b=(match cl L b with|some c=>(c,true)|none=>(zC,false)).1.Interface:=by unfold Lg;cases cl L b<;>rfl
theorem Ss(h:Xf l L)(hm:Xq L m){a:Tx}(ha:a.length<=25)(hb:b.length<=25):Ws L m a b=some (Zl L a b):=by
 unfold Ws Zl;rw[Bg h hm ha,Bg h hm hb,yI h hm ha,yI h hm hb,Ec h hm ha (by unfold Lf;omega)]
 have e:zI L m b=some (match cl L b with|some c=>(c,true)|none=>(zC,false)):=vP hm b
 rw[e];simp only[Qa];rw[<-bM]
 cases Uc L a<;>cases Uc L b<;>cases((b==[84])||(a==b))<;>cases(a==[78])<;>cases He L a<;>cases He L b<;>cases Lg L b<;>rfl
theorem Gv{a:Tx}(h:a≠b):(a==b)=false:=beq_eq_false_iff_ne.2 h
theorem y6(a b:Tx):Zl L a b=cond (b==[84]) (((a==[84])||(a==[78]))||Lk L a) (cond (a==[78]) ((b==[78])||(!(b==[73])&&Lk L b)) (cond (a==b) (Lk L a) (cond (((a==[73])||(b==[73]))||!Lk L a) false (cond (!Lk L b) false (Lg L b||KC L a b))))):=by
 unfold Zl;by_cases hbT:b=[84];.subst hbT;unfold Uc;cases(a==[84])<;>cases(a==[78])<;>cases Lk L a<;>simp
 rw[Gv hbT];by_cases haN:a=[78]
 .subst haN;by_cases hbN:b=[78];.subst hbN;unfold Uc;simp
  have e:(([78]:Tx)==b)=false:=Gv (Ne.symm hbN);unfold Uc He;rw[e,Gv hbN,Gv hbT,qa];cases(b==[73])<;>cases Lk L b<;>simp
 rw[Gv haN];by_cases hab:a=b;.subst hab;unfold Uc;rw[Gv haN,Gv hbT];cases Lk L a<;>simp
 rw[Gv hab];by_cases haT:a=[84];.subst haT;unfold He;rw[rE];simp
 by_cases hbN:b=[78];.subst hbN;unfold He;rw[qa];simp
 unfold Uc He;rw[Gv haN,Gv haT,Gv hbN,Gv hbT];cases(a==[73])<;>cases(b==[73])<;>cases Lk L a<;>cases Lk L b<;>simp
theorem EG(h:Xf l L){a:Tx}(ha:a.length<=25)(hb:b.length<=25):Dw L a b=some (Zl L a b):=by
 have h26:=h.len;rw[y6];unfold Dw;rw[KX h YA,KX h YA,Zc YA,od h ha YA];simp only[Qa]
 have e:(cond (decide (0<=Lm L b)) ((idx L (Lm L b)).bind λv15=>some v15.Interface) (some false))=some (Lg L b):=by
  rw[Bd,Kp];unfold Lg
  cases hc:cl L b with
  |none=>rw[Db hc];rfl
  |some c=>rw[ZC hc];rfl
 rw[e];simp only[Qa];cases(b==[84])<;>cases(a==[84])<;>cases(a==[78])<;>cases(b==[78])<;>cases(a==[73])<;>cases(b==[73])<;>cases(a==b)<;>cases Lk L a<;>cases Lk L b<;>cases Lg L b<;>rfl
end
variable {b:Bool}{a n V4:Int}{m:List (Tx×Int)}{VG s ts VH:Vs}{c e:Tx}{mt:zb}{x:zp}
def Li(l:Vs):Prop:=l.length<=100/\∀t∈l,t.length<=25
theorem Li.add{l:Vs}{t:Tx}(h:l.length<=99/\∀t∈l,t.length<=25)(ht:t.length<=25):Li (l++[t]):=
 ⟨by simp;omega,λx hx=>by
  rcases Qp.1 hx with h1|h1
  .exact h.2 x h1
  rw[QC.1 h1];exact ht⟩
theorem Li.drop{l:Vs}(h:Li l):Li l.dropLast:=⟨by rw[List.length_dropLast];have:=h.1;omega,λx hx=>h.2 x (List.dropLast_subset l hx)⟩
def Xj(e:Tx)(s:Vs)(b:Bool):Tx×Vs×Bool:=match s.getLast? with|some t=>(t,s.dropLast,b)|none=>(e,s,true)
theorem Bo(e:Tx)(s:Vs)(t:Tx)(b:Bool):Xj e (s++[t]) b=(t,s,b):=by simp[Xj]
theorem Bx(s:Vs):s=[]\/∃r t,s=r++[t]:=by
 rcases List.eq_nil_or_concat s with h|⟨r,t,h⟩
 .exact .inl h
 exact .inr ⟨r,t,by simpa using h⟩
theorem ZR(h:Li s)(he:e.length<=25):(Xj e s b).1.length<=25/\Li (Xj e s b).2.1:=by
 rcases Bx s with rfl|⟨r,t,rfl⟩
 .exact⟨he,h⟩
 rw[Bo];refine⟨h.2 t YC,⟨?_,λx hx=>h.2 x (by simp[hx])⟩⟩;have:=h.1;simp at this;show r.length<=100;omega
theorem GB(h:b=true):(Xj e s b).2.2=true:=by unfold Xj;split<;>simp[h]
theorem Ht(hs:VG.length<=1000):KZ L m c mt VH VG b=some (Xj [84] VG b):=by
 unfold KZ
 rcases Bx VG with rfl|⟨r,t,rfl⟩
 .rfl
 have hl:((r++[t]).length:Int)=(r.length:Int)+1:=YC
 have h0:(((r++[t]).length:Int)==0)=false:=beq_eq_false_iff_ne.2 YA
 have hw:i64.wrap (((r++[t]).length:Int)-1)=(r.length:Int):=by
  rw[hl,ZA YA (by simp at hs;omega)];omega
 rw[h0,hw,Bo,zo]
 have h1:(r++[t])[r.length]?=some t:=YC
 have h2:XR (r++[t]) 0 (r.length:Int)=some r:=by
  unfold XR;rw[YK ⟨YA,YA,YA⟩];simp
 rw[h1,h2];rfl
theorem Z9{t:Tx}(hs:VG.length<=1000):zN L m c mt VH VG b t=some (VG++[t]):=by unfold zN Xu;rw[YK (by simp;omega)];rfl
theorem xG{x:Vs}(hs:x.length<=1000):KL x=some x:=by unfold KL Xu;rw[YK (by simp;omega)];rfl
def Xp(L:Vr)(e:Tx):Vs->Vs->Bool->Vs×Bool
 |[],s,b=>(s,b)
 |w::r,s,b=>Xp L e r (Xj e s b).2.1 ((Xj e s b).2.2||!Zl L (Xj e s b).1 w)
theorem Uq(he:e.length<=25):∀(ts s:Vs) (b:Bool),Li s->Li (Xp L e ts s b).1:=by
 intro ts
 induction ts with
 |nil=>intro s b h;exact h
 |cons w r ih=>intro s b h;exact ih _ _ (ZR h he).2
theorem ZL:∀(ts s:Vs) (b:Bool),b=true->(Xp L e ts s b).2=true:=by
 intro ts
 induction ts with
 |nil=>intro s b h;exact h
 |cons w r ih=>intro s b h;exact ih _ _ (by rw[GB h];rfl)
theorem tW(h:Xf l L)(hm:Xq L m)(ht:Li ts):∀(k:Nat),k<=ts.length->∀(s:Vs) (b:Bool),Li s->zk (λz=>DC L m c mt VH ts z.1 z.2.1 z.2.2) (s,b,(k:Int)-1)=some (.inl (Xp L [84] (ts.take k).reverse s b)):=by
 intro k
 induction k with
 |zero =>
  intro _ s b hs;rw[zH];show(DC L m c mt VH ts s b (((0:Nat):Int)-1)).bind _=_;unfold DC;rw[YI YA];rfl
 |succ k ih =>
  intro hk s b hs;rw[zH];show(DC L m c mt VH ts s b (((k+1:Nat):Int)-1)).bind _=_
  have e1:(((k+1:Nat):Int)-1)=(k:Int):=YA
  have hlt:k<ts.length:=YA
  obtain⟨h1,h2⟩:=ZR (b:=b) hs (e:=[84]) YB;have hw:i64.wrap ((k:Int)-1)=(k:Int)-1:=ZA YA (by have:=ht.1;omega)
  have step:DC L m c mt VH ts s b (((k+1:Nat):Int)-1)=some (.inl ((Xj [84] s b).2.1,(Xj [84] s b).2.2||!Zl L (Xj [84] s b).1 ts[k],(k:Int)-1)):=by
   unfold DC;rw[e1,YH YA,zo,Qe hlt,Ht (by have:=hs.1;omega)];simp only[YF,Qa];rw[Ss h hm h1 (ht.2 _ (Qj hlt)),hw];rfl
  rw[step];simp only[Qa,JV];rw[show zk (λz=>DC L m c mt VH ts z.1 z.2.1 z.2.2) ((Xj [84] s b).2.1,(Xj [84] s b).2.2||!Zl L (Xj [84] s b).1 ts[k],(k:Int)-1)=_ from ih YA _ _ h2]
  have e2:(ts.take (k+1)).reverse=ts[k]::(ts.take k).reverse:=by
   rw[JW,Qe hlt];simp
  rw[e2];rfl
theorem Up(h:Xf l L)(hm:Xq L m)(ht:Li ts)(hs:Li VG):zQ L m c mt VH VG b ts=some (Xp L [84] ts.reverse VG b):=by unfold zQ;have hw:i64.wrap ((ts.length:Int)-1)=(ts.length:Int)-1:=ZA YA (by have:=ht.1;omega);rw[hw,show zk (λz=>DC L m c mt VH ts z.1 z.2.1 z.2.2) (VG,b,(ts.length:Int)-1)=_ from tW h hm ht ts.length (Qg _) VG b hs,J9];rfl
theorem LK{t:Tx}(h:t.length<=25):Li [t]:=⟨YC,λx hx=>by rw[QC.1 hx];exact h⟩
theorem MJ{t u:Tx}(h:t.length<=25)(k:u.length<=25):Li [t,u]:=⟨YC,λx hx=>by
 rcases Qu.1 hx with rfl|hx
 .exact h
 rw[QC.1 hx];exact k⟩
theorem fJ{t u v:Tx}(h:t.length<=25)(k:u.length<=25)(j:v.length<=25):Li [t,u,v]:=⟨YC,λx hx=>by
 rcases Qu.1 hx with rfl|hx
 .exact h
 exact(MJ k j).2 x hx⟩
theorem Li.len{l:Vs}(h:Li l):l.length<=1000:=by have:=h.1;omega
theorem OM{t:Tx}(h:t.length<=25):Lf t:=by show t.length<=9223372036854775807;omega
def XB(e:Tx)(s:Vs)(b:Bool):Tx×Vs×Bool:=((Xj e s b).1,(Xj e s b).2.1,(Xj e s b).2.2||!(((Xj e s b).1==[78])||Zu (Xj e s b).1))
theorem R3(h:Li s)(he:e.length<=25):(XB e s b).1.length<=25/\Li (XB e s b).2.1:=ZR h he
theorem O6(hs:Li VG):WH L m c mt VH VG b=some (XB [84] VG b):=by unfold WH XB;obtain⟨h1,h2⟩:=ZR (b:=b) hs (e:=[84]) YB;rw[Ht hs.len];simp only[Qa];rw[BC (OM h1)];cases(Xj [84] VG b).1==[78]<;>rfl
def X2(e:Tx)(s:Vs)(b:Bool):Tx×Vs×Bool:=(cond ((Xj e s b).1==[78]) (Xj e s b).1 (XK (Xj e s b).1).1,(Xj e s b).2.1,(Xj e s b).2.2||!(((Xj e s b).1==[78])||((XK (Xj e s b).1).2&&!((XK (Xj e s b).1).1==[73]))))
theorem zEL{t:Tx}(h:t.length<=25):(XK t).1.length<=25:=by
 unfold XK;cases Xr t&&Lu t;.exact Qk _
 show(t.drop 1).length<=25;simp;omega
theorem wi(h:Li s)(he:e.length<=25):(X2 e s b).1.length<=25/\Li (X2 e s b).2.1:=by
 obtain⟨h1,h2⟩:=ZR (b:=b) h he;refine⟨?_,h2⟩;unfold X2;cases(Xj e s b).1==[78];.exact zEL h1
 exact h1
theorem vU(hs:Li VG):P4 L m c mt VH VG b=some (X2 [84] VG b):=by unfold P4 X2;obtain⟨h1,h2⟩:=ZR (b:=b) hs (e:=[84]) YB;rw[Ht hs.len];simp only[Qa];rw[Wn (OM h1)];cases(Xj [84] VG b).1==[78]<;>rfl
theorem Gd(e f:Tx)(s:Vs)(b:Bool):(Xj e s b).2=(Xj f s b).2:=by unfold Xj;split<;>rfl
theorem G7(e f:Tx)(s:Vs)(b:Bool)(h:(Xj e s b).2.2=false):(Xj e s b).1=(Xj f s b).1:=by
 unfold Xj at h ⊢;split;.rfl
 rename_i hq;rw[hq]at h;cases h
theorem NM{a p q:Bool}(h:a=false->p=q):(a||p)=(a||q):=by
 cases a;.rw[h rfl]
 rfl
theorem Z7(e f:Tx):∀(ts s:Vs) (b:Bool),Xp L e ts s b=Xp L f ts s b:=by
 intro ts
 induction ts with
 |nil=>intro s b;rfl
 |cons w r ih =>
  intro s b;show Xp L e r (Xj e s b).2.1 ((Xj e s b).2.2||!Zl L (Xj e s b).1 w)=Xp L f r (Xj f s b).2.1 ((Xj f s b).2.2||!Zl L (Xj f s b).1 w);rw[ih,<-Gd e f s b,NM (λh=>by rw[G7 e f s b h])]
theorem yc(e f:Tx)(s:Vs)(b:Bool):(XB e s b).2=(XB f s b).2:=by unfold XB;rw[<-Gd e f s b,NM (λh=>by rw[G7 e f s b h])]
theorem zDF(e f:Tx)(s:Vs)(b:Bool)(h:(XB e s b).2.2=false):(XB e s b).1=(XB f s b).1:=G7 e f s b (by unfold XB at h;simp only[Qh]at h;exact h.1)
theorem qY(e f:Tx)(s:Vs)(b:Bool):(X2 e s b).2=(X2 f s b).2:=by unfold X2;rw[<-Gd e f s b,NM (λh=>by rw[G7 e f s b h])]
theorem zCW(e f:Tx)(s:Vs)(b:Bool)(h:(X2 e s b).2.2=false):(X2 e s b).1=(X2 f s b).1:=by
 have h1:(Xj e s b).2.2=false:=by unfold X2 at h;simp only[Qh]at h;exact h.1
 unfold X2;rw[G7 e f s b h1]
theorem G2(hs:VG.length<=1000):KB L c mt VH VG b=some (Xj [78] VG b):=by
 unfold KB
 rcases Bx VG with rfl|⟨r,t,rfl⟩
 .rfl
 have hl:((r++[t]).length:Int)=(r.length:Int)+1:=YC
 have h0:(((r++[t]).length:Int)==0)=false:=beq_eq_false_iff_ne.2 YA
 have hw:i64.wrap (((r++[t]).length:Int)-1)=(r.length:Int):=by
  rw[hl,ZA YA (by simp at hs;omega)];omega
 rw[h0,hw,Bo,zo]
 have h1:(r++[t])[r.length]?=some t:=YC
 have h2:XR (r++[t]) 0 (r.length:Int)=some r:=by
  unfold XR;rw[YK ⟨YA,YA,YA⟩];simp
 rw[h1,h2];rfl
theorem zH7(h:Xf l L)(ht:Li ts):∀(k:Nat),k<=ts.length->∀(s:Vs) (b:Bool),Li s->zk (λz=>Dz L c mt VH ts z.1 z.2.1 z.2.2) (s,b,(k:Int)-1)=some (.inl (Xp L [78] (ts.take k).reverse s b)):=by
 intro k
 induction k with
 |zero =>
  intro _ s b hs;rw[zH];show(Dz L c mt VH ts s b (((0:Nat):Int)-1)).bind _=_;unfold Dz;rw[YI YA];rfl
 |succ k ih =>
  intro hk s b hs;rw[zH];show(Dz L c mt VH ts s b (((k+1:Nat):Int)-1)).bind _=_
  have e1:(((k+1:Nat):Int)-1)=(k:Int):=YA
  have hlt:k<ts.length:=YA
  obtain⟨h1,h2⟩:=ZR (b:=b) hs (e:=[78]) YB;have hw:i64.wrap ((k:Int)-1)=(k:Int)-1:=ZA YA (by have:=ht.1;omega)
  have step:Dz L c mt VH ts s b (((k+1:Nat):Int)-1)=some (.inl ((Xj [78] s b).2.1,(Xj [78] s b).2.2||!Zl L (Xj [78] s b).1 ts[k],(k:Int)-1)):=by
   unfold Dz;rw[e1,YH YA,zo,Qe hlt,G2 hs.len];simp only[YF,Qa];rw[EG h h1 (ht.2 _ (Qj hlt)),hw];rfl
  rw[step];simp only[Qa,JV];rw[show zk (λz=>Dz L c mt VH ts z.1 z.2.1 z.2.2) ((Xj [78] s b).2.1,(Xj [78] s b).2.2||!Zl L (Xj [78] s b).1 ts[k],(k:Int)-1)=_ from ih YA _ _ h2]
  have e2:(ts.take (k+1)).reverse=ts[k]::(ts.take k).reverse:=by
   rw[JW,Qe hlt];simp
  rw[e2];rfl
theorem UE(h:Xf l L)(ht:Li ts)(hs:Li VG):Ut L c mt VH VG b ts=some (Xp L [78] ts.reverse VG b):=by unfold Ut;have hw:i64.wrap ((ts.length:Int)-1)=(ts.length:Int)-1:=ZA YA (by have:=ht.1;omega);rw[hw,show zk (λz=>Dz L c mt VH ts z.1 z.2.1 z.2.2) (VG,b,(ts.length:Int)-1)=_ from zH7 h ht ts.length (Qg _) VG b hs,J9];rfl
def ZI(V4:Int)(s:Vs)(b:Bool)(t:Tx):Vs×Bool:=(s++[t],b||!decide (((s++[t]).length:Int)<=V4))
theorem Z8{t:Tx}(hs:VG.length<=1000):z7 L c mt VH VG b t=some (ZI mt.Stack VG b t):=by unfold z7 ZI Xu;rw[YK (by simp;omega)];simp only[Jo,Qa];rw[YK (by simp;omega)];rfl
def Ko(s:Vs)(b:Bool):Tx×Vs×Bool:=((Xj [78] s b).1,(Xj [78] s b).2.1,(Xj [78] s b).2.2||!(!((Xj [78] s b).1==[73])))
theorem Bi(hs:Li VG):HP L c mt VH VG b=some (Ko VG b):=by unfold HP;rw[G2 hs.len];rfl
theorem va{p q:Vs}(hp:p.length<=1000)(hq:q.length<=1000):Wz (HF.mk p q)=some (p,q):=by unfold Wz Xu;simp only;rw[YK (by simp;omega),YK (by simp;omega)];rfl
def ZE(V4:Int)(p r:Vs×Vs×Bool):Prop:=(p.2.2||!decide ((p.2.1.length:Int)<=V4))=r.2.2/\(r.2.2=false->p.1=r.1/\p.2.1=r.2.1)
theorem UX(t:Tx):ZE V4 (VH,s++[t],b) (VH,(ZI V4 s b t).1,(ZI V4 s b t).2):=⟨rfl,λ_=>⟨rfl,rfl⟩⟩
theorem bh(t u:Tx):ZE V4 (VH,s++[t]++[u],b) (VH,(ZI V4 (ZI V4 s b t).1 (ZI V4 s b t).2 u).1,(ZI V4 (ZI V4 s b t).1 (ZI V4 s b t).2 u).2):=by
 refine⟨?_,λ_=>⟨rfl,rfl⟩⟩;show(b||!decide (((s++[t]++[u]).length:Int)<=V4))=((b||!decide (((s++[t]).length:Int)<=V4))||!decide (((s++[t]++[u]).length:Int)<=V4));by_cases h:((s++[t]++[u]).length:Int)<=V4
 .have h2:((s++[t]).length:Int)<=V4:=by simp at h ⊢;omega
  rw[YH h,YH h2];simp
 rw[YI h];simp
theorem Gh(h:b=false->(s.length:Int)<=V4):ZE V4 (VH,s,b) (VH,s,b):=by
 refine⟨?_,λ_=>⟨rfl,rfl⟩⟩;show(b||!decide ((s.length:Int)<=V4))=b
 cases b with
 |true=>rfl
 |false=>rw[YH (h rfl)];rfl
theorem KQ{p r:Vs×Vs×Bool}(hp:p.2.2=true)(hr:r.2.2=true):ZE V4 p r:=⟨by rw[hp,hr];rfl,λh=>by rw[hr]at h;cases h⟩
theorem NL(e:Tx)(s:Vs)(b:Bool):(Xj e s b).2.1.length<=s.length:=by
 rcases Bx s with rfl|⟨r,t,rfl⟩
 .exact Qg _
 rw[Bo];simp
theorem D8(e:Tx):∀(ts s:Vs) (b:Bool),(Xp L e ts s b).1.length<=s.length:=by
 intro ts
 induction ts with
 |nil=>intro s b;exact Qg _
 |cons w r ih=>intro s b;exact QK (ih _ _) (NL e s b)
theorem zGp(e w w':Tx)(s:Vs)(b:Bool):Xp L e [w,w'] s b=Xp L e [w'] (Xp L e [w] s b).1 (Xp L e [w] s b).2:=rfl
def Mr(t:Tx):Prop:=t=[78]\/Xr t=true
theorem SQ(h:∀t∈s,Mr t):(Ko s b).2=(XB [84] s b).2/\((Ko s b).2.2=false->(Ko s b).1=(XB [84] s b).1):=by
 have key:(Ko s b).2=(XB [78] s b).2:=by
  unfold Ko XB
  rcases Bx s with rfl|⟨r,t,rfl⟩
  .rfl
  rw[Bo];have ht:=h t YC;show(r,b||!(!(t==[73])))=(r,b||!((t==[78])||Zu t))
  rcases ht with rfl|ht
  .rfl
  unfold Zu;rw[ht]
  have:(t==[78])=false:=beq_eq_false_iff_ne.2 λe=>by rw[e,dH]at ht;cases ht
  rw[this];cases t==[73]<;>rfl
 refine⟨key.trans (yc [78] [84] s b),λhf=>?_⟩
 have:(Ko s b).2.2=(XB [84] s b).2.2:=by rw[key,yc [78] [84] s b]
 rw[this]at hf;exact(zDF [84] [78] s b hf).symm
def DQ(t:Tx):Prop:=t.length<=25/\Mr t
theorem UR:DQ [73]:=⟨YB,.inr (by decide +kernel)⟩
theorem CS:DQ [78]:=⟨YB,.inl rfl⟩
theorem Nb{t:Tx}(h:Xr t=true)(hl:t.length<=25):DQ t:=⟨hl,.inr h⟩
def Zh(VH VG:Vs)(b:Bool)(p:Vs×Vs×Bool):Prop:=
 (b=true->p.2.2=true)/\
 (p.1.length=VH.length/\p.2.1.length<=VG.length+2/\(∀t∈p.1,t.length<=25)/\∀t∈p.2.1,t.length<=25)/\
 (p.2.2=false->(∀t∈p.2.1,t∈VG\/DQ t)/\∀t∈p.1,t∈VH\/t∈VG)
theorem GA(e:Tx)(s:Vs)(b:Bool):(Xj e s b).2.1<+:s:=by
 rcases Bx s with rfl|⟨r,t,rfl⟩
 .exact QX _
 rw[Bo];exact List.prefix_append _ _
theorem D6(h:(Xj e s b).2.2=false):(Xj e s b).1∈s:=by
 rcases Bx s with rfl|⟨r,t,rfl⟩
 .cases h
 rw[Bo];simp
theorem Bn(e:Tx)(s:Vs)(b:Bool):(XB e s b).2.1<+:s:=GA e s b
theorem vW(e:Tx)(s:Vs)(b:Bool):(X2 e s b).2.1<+:s:=GA e s b
theorem Ef(h:b=true):(XB e s b).2.2=true:=by unfold XB;rw[GB h];rfl
theorem vX(h:b=true):(X2 e s b).2.2=true:=by unfold X2;rw[GB h];rfl
theorem UZ(L:Vr)(e:Tx):∀(ts s:Vs) (b:Bool),(Xp L e ts s b).1<+:s:=by
 intro ts
 induction ts with
 |nil=>intro s b;exact QX _
 |cons w r ih=>intro s b;exact(ih _ _).trans (GA e s b)
section
variable {b0:Bool}
theorem Gi(FW:b0=true->b=true)(hl:Li VH)(hs:Li VG)(h:s<+:VG):Zh VH VG b0 (VH,s,b):=⟨FW,⟨rfl,by have:=h.length_le;show s.length<=_;omega,hl.2,λt ht=>hs.2 t (h.subset ht)⟩,λ_=>⟨λt ht=>.inl (h.subset ht),λt ht=>.inl ht⟩⟩
theorem UF{u:Tx}(FW:b0=true->b=true)(hl:Li VH)(hs:Li VG)(h:s<+:VG)(h1:u.length<=25)(hu:b=false->u∈VG\/DQ u):Zh VH VG b0 (VH,s++[u],b):=
 ⟨FW,⟨rfl,by have:=h.length_le;show(s++[u]).length<=_;simp;omega,hl.2,λt ht=>by
  rcases Qp.1 ht with k|k
  .exact hs.2 t (h.subset k)
  .rw[QC.1 k];exact h1⟩,λhb=>⟨λt ht=>by
  rcases Qp.1 ht with k|k
  .exact .inl (h.subset k)
  rw[QC.1 k];exact hu hb,λt ht=>.inl ht⟩⟩
theorem bL{u v:Tx}(FW:b0=true->b=true)(hl:Li VH)(hs:Li VG)(h:s<+:VG)(h1:u.length<=25)(hu:b=false->u∈VG\/DQ u)(h2:v.length<=25)(hv:b=false->v∈VG\/DQ v):Zh VH VG b0 (VH,s++[u]++[v],b):=
 ⟨FW,⟨rfl,by have:=h.length_le;show(s++[u]++[v]).length<=_;simp;omega,hl.2,λt ht=>by
  rcases Qp.1 ht with k|k
  .rcases Qp.1 k with k|k
   .exact hs.2 t (h.subset k)
   rw[QC.1 k];exact h1
  .rw[QC.1 k];exact h2⟩,λhb=>⟨λt ht=>by
  rcases Qp.1 ht with k|k
  .rcases Qp.1 k with k|k
   .exact .inl (h.subset k)
   rw[QC.1 k];exact hu hb
  rw[QC.1 k];exact hv hb,λt ht=>.inl ht⟩⟩
theorem bX{k:Nat}{u:Tx}(FW:b0=true->b=true)(hl:Li VH)(hs:Li VG)(h:s<+:VG)(h1:u.length<=25)(hu:b=false->u∈VG):Zh VH VG b0 (VH.set k u,s,b):=
 ⟨FW,⟨Jg ..,by have:=h.length_le;show s.length<=_;omega,λt ht=>by
  rcases Yp ht with k|rfl
  .exact hl.2 t k
  .exact h1,λt ht=>hs.2 t (h.subset ht)⟩,λhb=>⟨λt ht=>.inl (h.subset ht),λt ht=>by
  rcases Yp ht with k|rfl
  .exact .inl k
  exact .inr (hu hb)⟩⟩
end
theorem bt{b:Int}(h:a<=n/\n<=b):U4 n a b=true:=by unfold U4;rw[YH h.1,YH h.2];rfl
theorem bf{b:Int}(h:¬(a<=n/\n<=b)):U4 n a b=false:=by unfold U4;rw[JI,YS,YS];omega
theorem ct{b:Int}(h:a<=n/\n<=b):(decide (a<=n)&&decide (n<=b))=true:=bt h
theorem cf{b:Int}(h:¬(a<=n/\n<=b)):(decide (a<=n)&&decide (n<=b))=false:=bf h
theorem qt{k:Int}(h:n=k):(n==k)=true:=by rw[h];exact YL k
theorem qf{k:Int}(h:n≠k):(n==k)=false:=beq_eq_false_iff_ne.2 h
structure XW(l L:Vr)(m:List (Tx×Int))(mt:zb)(VH VG:Vs)(b:Bool):Prop where
 made:Xf l L
 map:Xq L m
 lens:XQ L
 shL:Li VH
 shS:Li VG
 on:∀t∈VG,Mr t
 room:(VG.length:Int)<=mt.Stack
 onL:∀t∈VH,t=[84]\/Mr t
theorem zDQ(h:XW l L m mt VH VG b)(ho:8<=x.Op/\x.Op<=19):∃p r,zj L m c mt VH VG b x=some p/\zq L c mt VH VG b x=some r/\ZE mt.Stack p r/\Zh VH VG b p:=by
 have h73:([73]:Tx).length<=25:=YB
 by_cases hn:x.Op=13
 .refine⟨(VH,(Xp L [84] [[73]] VG b).1++[[73]],(Xp L [84] [[73]] VG b).2),_,?_,?_,UX _,UF (ZL _ _ _) h.shL h.shS (UZ _ _ _ _ _) YB λ_=>.inr UR⟩;.unfold zj;rw[bf YA,qt hn,Up h.made h.map (LK h73) h.shS];simp only[YG,YF,Qa,QA];rw[Z9 (Uq YB _ _ _ h.shS).len];rfl
  unfold zq;rw[ct ho,UE h.made (LK h73) h.shS,qt hn];simp only[YG,YF,Qa,QA,Qo];unfold Ra;rw[Z8 (Uq YB _ _ _ h.shS).len,Z7 [78] [84]];rfl
 refine⟨(VH,(Xp L [84] [[73],[73]] VG b).1++[[73]],(Xp L [84] [[73],[73]] VG b).2),_,?_,?_,UX _,UF (ZL _ _ _) h.shL h.shS (UZ _ _ _ _ _) YB λ_=>.inr UR⟩;.unfold zj;rw[bf YA,qf hn,bt ho,Up h.made h.map (MJ h73 h73) h.shS];simp only[YG,YF,Qa];rw[show([[73],[73]]:Vs).reverse=[[73],[73]]from rfl,Z9 (Uq YB _ _ _ h.shS).len];rfl
 unfold zq;have hs:=Uq (L:=L) (e:=[78]) YB [[73]] VG b h.shS;rw[ct ho,UE h.made (LK h73) h.shS,qf hn];simp only[YG,YF,Qa,QA,QI];rw[UE h.made (LK h73) hs];simp only[Qa,QA];unfold Ra;rw[Z8 (Uq YB _ _ _ hs).len];rw[<-zGp,Z7 [78] [84]];rfl
theorem instr_plain(h1:¬(8<=x.Op/\x.Op<=45))(h2:¬(49<=x.Op/\x.Op<=55)):zq L c mt VH VG b x=(UH L c mt VH VG b x).bind λv=>some (v.1,v.2.1,v.2.2):=by unfold zq;rw[cf YA,cf YA,qf (show x.Op≠20 by omega),cf YA,cf YA,cf YA];rfl
theorem Bq(h:1<=x.Op/\x.Op<=7):zj L m c mt VH VG b x=(HQ L m c mt VH VG b x).bind λv=>some (v.1,v.2.1,v.2.2):=by unfold zj;rw[bt h];rfl
theorem NZ(h:56<=x.Op/\x.Op<=61):zj L m c mt VH VG b x=(WF L m c mt VH VG b x).bind λv=>some (VH,v.1,v.2):=by unfold zj;rw[bf YA,qf YA,bf YA,qf YA,bf YA,bf YA,bf YA,bf YA,qf YA,bf YA,bf YA,bf YA,bf YA];rfl
theorem zDR(h:XW l L m mt VH VG b)(ho:x.Op=1\/x.Op=2):∃p r,zj L m c mt VH VG b x=some p/\zq L c mt VH VG b x=some r/\ZE mt.Stack p r/\Zh VH VG b p:=by
 rcases ho with ho|ho
 .refine⟨(VH,VG++[[73]],b),_,?_,?_,UX _,UF id h.shL h.shS (QX _) YB λ_=>.inr UR⟩;.rw[Bq YA];unfold HQ;rw[qt ho,Z9 h.shS.len];rfl
  rw[instr_plain YA YA];unfold UH;rw[qt ho,Z8 h.shS.len];rfl
 refine⟨(VH,VG++[[78]],b),_,?_,?_,UX _,UF id h.shL h.shS (QX _) YB λ_=>.inr CS⟩;.rw[Bq YA];unfold HQ;rw[qf (show x.Op≠1 by omega),qt ho];simp only[YG,YF];rw[Z9 h.shS.len];rfl
 rw[instr_plain YA YA];unfold UH;rw[qf (show x.Op≠1 by omega),qt ho];simp only[YG,YF];rw[Z8 h.shS.len];rfl
theorem ck(h:XW l L m mt VH VG b)(ho:x.Op=5):∃p r,zj L m c mt VH VG b x=some p/\zq L c mt VH VG b x=some r/\ZE mt.Stack p r/\Zh VH VG b p:=by
 obtain⟨g1,g2⟩:=ZR (b:=b) h.shS (e:=[84]) YB;obtain⟨k1,k2⟩:=ZR (b:=b) h.shS (e:=[78]) YB
 .refine⟨(VH,(Xj [84] VG b).2.1,(Xj [84] VG b).2.2),(VH,(Xj [84] VG b).2.1,(Xj [84] VG b).2.2),?_,?_,Gh λ_=>?_,Gi GB h.shL h.shS (GA _ _ _)⟩;.rw[Bq YA];unfold HQ;rw[qf (show x.Op≠1 by omega),qf (show x.Op≠2 by omega),qf (show x.Op≠3 by omega),qf (show x.Op≠4 by omega),qt ho];simp only[YG,YF];rw[Ht h.shS.len];rfl
  .rw[instr_plain YA YA];unfold UH;rw[qf (show x.Op≠1 by omega),qf (show x.Op≠2 by omega),qf (show x.Op≠3 by omega),qf (show x.Op≠4 by omega),qt ho];simp only[YG,YF];rw[G2 h.shS.len,Gd [84] [78]];rfl
  have:=NL [84] VG b;have:=h.room;omega
theorem NX{t:Tx}(h:b=true):(ZI V4 s b t).2=true:=by unfold ZI;rw[h];rfl
theorem cp(h:XW l L m mt VH VG b)(ho:x.Op=6):∃p r,zj L m c mt VH VG b x=some p/\zq L c mt VH VG b x=some r/\ZE mt.Stack p r/\Zh VH VG b p:=by
 obtain⟨g1,g2⟩:=ZR (b:=b) h.shS (e:=[84]) YB;obtain⟨k1,k2⟩:=ZR (b:=b) h.shS (e:=[78]) YB
 refine⟨(VH,(Xj [84] VG b).2.1++[(Xj [84] VG b).1]++[(Xj [84] VG b).1],(Xj [84] VG b).2.2),
  (VH,(ZI mt.Stack (ZI mt.Stack (Xj [78] VG b).2.1 (Xj [78] VG b).2.2 (Xj [78] VG b).1).1 (ZI mt.Stack (Xj [78] VG b).2.1 (Xj [78] VG b).2.2 (Xj [78] VG b).1).2 (Xj [78] VG b).1).1,
   (ZI mt.Stack (ZI mt.Stack (Xj [78] VG b).2.1 (Xj [78] VG b).2.2 (Xj [78] VG b).1).1 (ZI mt.Stack (Xj [78] VG b).2.1 (Xj [78] VG b).2.2 (Xj [78] VG b).1).2 (Xj [78] VG b).1).2),?_,?_,?_,bL GB h.shL h.shS (GA _ _ _) g1 (λhb=>.inl (D6 hb)) g1 λhb=>.inl (D6 hb)⟩
 .rw[Bq YA];unfold HQ;rw[qf (show x.Op≠1 by omega),qf (show x.Op≠2 by omega),qf (show x.Op≠3 by omega),qf (show x.Op≠4 by omega),qf (show x.Op≠5 by omega),qt ho];simp only[YG,YF];rw[Ht h.shS.len];simp only[Qa];rw[Z9 g2.len];simp only[Qa];rw[Z9 (by have:=g2.1;simp;omega)];rfl
 .rw[instr_plain YA YA];unfold UH;rw[qf (show x.Op≠1 by omega),qf (show x.Op≠2 by omega),qf (show x.Op≠3 by omega),qf (show x.Op≠4 by omega),qf (show x.Op≠5 by omega),qt ho];simp only[YG,YF];rw[G2 h.shS.len];simp only[Qa];rw[Z8 k2.len];simp only[Qa];rw[Z8 (by have:=k2.1;show((Xj [78] VG b).2.1++[(Xj [78] VG b).1]).length<=1000;simp;omega)];rfl
 cases hb:(Xj [84] VG b).2.2 with
 |true =>
  refine KQ rfl ?_
  have:(Xj [78] VG b).2.2=true:=by rw[<-Gd [84] [78]];exact hb
  exact NX (NX this)
 |false =>
  have e1:=G7 [84] [78] VG b hb;have e2:=Gd [84] [78] VG b;rw[<-e1,<-e2,hb];exact bh _ _
theorem vr(h:(Xj e s b).2.2=false):b=false:=by
 cases b with
 |false=>rfl
 |true=>rw[GB rfl]at h;cases h
theorem zGi(h:XW l L m mt VH VG b)(ho:x.Op=7):∃p r,zj L m c mt VH VG b x=some p/\zq L c mt VH VG b x=some r/\ZE mt.Stack p r/\Zh VH VG b p:=by
 obtain⟨g1,g2⟩:=ZR (b:=b) h.shS (e:=[84]) YB;obtain⟨k1,k2⟩:=ZR (b:=b) h.shS (e:=[78]) YB;generalize hP:Xj [84] VG b=P at g1 g2;generalize hR:Xj [78] VG b=R at k1 k2;obtain⟨g3,g4⟩:=ZR (b:=P.2.2) g2 (e:=[84]) YB;obtain⟨k3,k4⟩:=ZR (b:=R.2.2) k2 (e:=[78]) YB
 have hPs:P.2.1<+:VG:=by rw[<-hP];exact GA _ _ _
 have hPb:b=true->P.2.2=true:=by rw[<-hP];exact GB
 have hPi:P.2.2=false->P.1∈VG:=by rw[<-hP];exact D6
 refine⟨(VH,(Xj [84] P.2.1 P.2.2).2.1++[P.1]++[(Xj [84] P.2.1 P.2.2).1],(Xj [84] P.2.1 P.2.2).2.2),
  (VH,(ZI mt.Stack (ZI mt.Stack (Xj [78] R.2.1 R.2.2).2.1 (Xj [78] R.2.1 R.2.2).2.2 R.1).1 (ZI mt.Stack (Xj [78] R.2.1 R.2.2).2.1 (Xj [78] R.2.1 R.2.2).2.2 R.1).2 (Xj [78] R.2.1 R.2.2).1).1,
   (ZI mt.Stack (ZI mt.Stack (Xj [78] R.2.1 R.2.2).2.1 (Xj [78] R.2.1 R.2.2).2.2 R.1).1 (ZI mt.Stack (Xj [78] R.2.1 R.2.2).2.1 (Xj [78] R.2.1 R.2.2).2.2 R.1).2 (Xj [78] R.2.1 R.2.2).1).2),?_,?_,?_,bL (λe=>GB (hPb e)) h.shL h.shS ((GA _ _ _).trans hPs) g1 (λhb=>.inl (hPi (vr hb))) g3 λhb=>.inl (hPs.subset (D6 hb))⟩
 .rw[Bq YA];unfold HQ;rw[qf (show x.Op≠1 by omega),qf (show x.Op≠2 by omega),qf (show x.Op≠3 by omega),qf (show x.Op≠4 by omega),qf (show x.Op≠5 by omega),qf (show x.Op≠6 by omega),qt ho];simp only[YG,YF];rw[Ht h.shS.len,hP];simp only[Qa];rw[Ht g2.len];simp only[Qa];rw[Z9 g4.len];simp only[Qa];rw[Z9 (by have:=g4.1;simp;omega)];rfl
 .rw[instr_plain YA YA];unfold UH;rw[qf (show x.Op≠1 by omega),qf (show x.Op≠2 by omega),qf (show x.Op≠3 by omega),qf (show x.Op≠4 by omega),qf (show x.Op≠5 by omega),qf (show x.Op≠6 by omega),qt ho];simp only[YG,YF];rw[G2 h.shS.len,hR];simp only[Qa];rw[G2 k2.len];simp only[Qa];rw[Z8 k4.len];simp only[Qa];rw[Z8 (by have:=k4.1;show((Xj [78] R.2.1 R.2.2).2.1++[R.1]).length<=1000;simp;omega)];rfl
 have e2:P.2=R.2:=by rw[<-hP,<-hR];exact Gd [84] [78] VG b
 cases hb:(Xj [84] P.2.1 P.2.2).2.2 with
 |true =>
  refine KQ rfl ?_
  have:(Xj [78] R.2.1 R.2.2).2.2=true:=by rw[<-e2,<-Gd [84] [78]];exact hb
  exact NX (NX this)
 |false =>
  have e1:P.1=R.1:=by
   rw[<-hP,<-hR];exact G7 [84] [78] VG b (by rw[hP];exact vr hb)
  have e3:=G7 [84] [78] P.2.1 P.2.2 hb;have e4:=Gd [84] [78] P.2.1 P.2.2;rw[<-e2,<-e1,<-e3,<-e4,hb];exact bh _ _
theorem uH(h:58<=x.Op):∀k:Int,k<58->(x.Op==k)=false:=λk hk=>qf YA
theorem tf(h:XW l L m mt VH VG b)(ho:x.Op=59):∃p r,zj L m c mt VH VG b x=some p/\zq L c mt VH VG b x=some r/\ZE mt.Stack p r/\Zh VH VG b p:=by
 have hq:=uH (x:=x) YA;refine⟨(VH,VG++[[73]],b),_,?_,?_,UX _,UF id h.shL h.shS (QX _) YB λ_=>.inr UR⟩;.rw[NZ YA];unfold WF;rw[hq 56 YA,hq 57 YA];unfold WP;rw[qf (show x.Op≠58 by omega),qt ho];simp only[YG,YF];rw[Z9 h.shS.len];rfl
 rw[instr_plain YA YA];unfold UH;rw[hq 1 YA,hq 2 YA,hq 3 YA,hq 4 YA,hq 5 YA,hq 6 YA,hq 7 YA,hq 46 YA,hq 47 YA,hq 48 YA,hq 56 YA,hq 57 YA,qf (show x.Op≠58 by omega),qt ho];simp only[YG,YF];rw[Z8 h.shS.len];rfl
theorem cm(h:XW l L m mt VH VG b)(ho:x.Op=60\/x.Op=61):∃p r,zj L m c mt VH VG b x=some p/\zq L c mt VH VG b x=some r/\ZE mt.Stack p r/\Zh VH VG b p:=by
 have hq:=uH (x:=x) YA
 have h73:([73]:Tx).length<=25:=YB
 refine⟨(VH,(Xp L [84] [[73]] VG b).1,(Xp L [84] [[73]] VG b).2),(VH,(Xp L [84] [[73]] VG b).1,(Xp L [84] [[73]] VG b).2),?_,?_,Gh λ_=>?_,Gi (ZL _ _ _) h.shL h.shS (UZ _ _ _ _ _)⟩;.rw[NZ YA];unfold WF;rw[hq 56 YA,hq 57 YA];unfold WP;rw[qf (show x.Op≠58 by omega),qf (show x.Op≠59 by omega)];simp only[YG,YF];rw[Up h.made h.map (LK h73) h.shS];rfl
 .rw[instr_plain YA YA];unfold UH;rw[hq 1 YA,hq 2 YA,hq 3 YA,hq 4 YA,hq 5 YA,hq 6 YA,hq 7 YA,hq 46 YA,hq 47 YA,hq 48 YA,hq 56 YA,hq 57 YA,qf (show x.Op≠58 by omega),qf (show x.Op≠59 by omega)];simp only[YG]
  have key:∀v,v=true->(P9 L c mt VH VG b v).bind (λv=>some (v.1,v.2.1,v.2.2))=some (VH,(Xp L [84] [[73]] VG b).1,(Xp L [84] [[73]] VG b).2):=λv hv=>by
   unfold P9;rw[hv,UE h.made (LK h73) h.shS,Z7 [78] [84]];rfl
  rcases ho with ho|ho
  .rw[qt ho];exact key _ rfl
  rw[qf (show x.Op≠60 by omega),qt ho];exact key _ rfl
 have:=D8 (L:=L) [84] [[73]] VG b;have:=h.room;omega
theorem zDU(h:XW l L m mt VH VG b)(ho:x.Op=58):∃p r,zj L m c mt VH VG b x=some p/\zq L c mt VH VG b x=some r/\ZE mt.Stack p r/\Zh VH VG b p:=by
 have hq:=uH (x:=x) YA
 have ht:([84,104,114,111,119,110]:Tx).length<=25:=YB
 obtain⟨k1,k2⟩:=ZR (b:=b) h.shS (e:=[78]) YB;refine⟨(VH,(Xp L [84] [[84,104,114,111,119,110]] VG b).1,(Xp L [84] [[84,104,114,111,119,110]] VG b).2),(VH,(Xp L [84] [[84,104,114,111,119,110]] VG b).1,(Xp L [84] [[84,104,114,111,119,110]] VG b).2),?_,?_,Gh λ_=>?_,Gi (ZL _ _ _) h.shL h.shS (UZ _ _ _ _ _)⟩;.rw[NZ YA];unfold WF;rw[hq 56 YA,hq 57 YA];unfold WP;rw[qt ho];simp only[YG,YF];rw[Up h.made h.map (LK ht) h.shS];rfl
 .rw[instr_plain YA YA];unfold UH;rw[hq 1 YA,hq 2 YA,hq 3 YA,hq 4 YA,hq 5 YA,hq 6 YA,hq 7 YA,hq 46 YA,hq 47 YA,hq 48 YA,hq 56 YA,hq 57 YA,qt ho];simp only[YG,YF];rw[G2 h.shS.len];simp only[Qa];rw[EG h.made k1 ht,Z7 [84] [78]];rfl
 have:=D8 (L:=L) [84] [[84,104,114,111,119,110]] VG b;have:=h.room;omega
theorem wm(h:46<=x.Op/\x.Op<=48):zj L m c mt VH VG b x=(IF L m c mt VH VG b x.Op).bind λv=>some (VH,v.1,v.2):=by unfold zj;rw[bf YA,qf (show x.Op≠13 by omega),bf YA,qf (show x.Op≠20 by omega),bf YA,bf YA,bf YA,bf YA,qf (show x.Op≠37 by omega),bf YA,bf YA,bt h];rfl
theorem cj(h:XW l L m mt VH VG b)(ho:x.Op=46\/x.Op=47):∃p r,zj L m c mt VH VG b x=some p/\zq L c mt VH VG b x=some r/\ZE mt.Stack p r/\Zh VH VG b p:=by
 have h73:([73]:Tx).length<=25:=YB
 have hq:∀k:Int,k<46->(x.Op==k)=false:=λk hk=>qf YA
 rcases ho with ho|ho
 .refine⟨(VH,VG,b||!(mt.Ret==[86])),(VH,VG,b||!(mt.Ret==[86])),?_,?_,Gh λ_=>h.room,Gi (λe=>by rw[e];rfl) h.shL h.shS (QX _)⟩;.rw[wm YA];unfold IF;rw[qt ho];rfl
  rw[instr_plain YA YA];unfold UH;rw[hq 1 YA,hq 2 YA,hq 3 YA,hq 4 YA,hq 5 YA,hq 6 YA,hq 7 YA,qt ho];rfl
 refine⟨(VH,(Xp L [84] [[73]] VG (b||!(mt.Ret==[73]))).1,(Xp L [84] [[73]] VG (b||!(mt.Ret==[73]))).2),(VH,(Xp L [84] [[73]] VG b).1,(Xp L [84] [[73]] VG b).2||!(mt.Ret==[73])),?_,?_,?_,Gi (λe=>ZL _ _ _ (by rw[e];rfl)) h.shL h.shS (UZ _ _ _ _ _)⟩;.rw[wm YA];unfold IF;rw[qf (show x.Op≠46 by omega),qt ho];simp only[YG,YF];rw[Up h.made h.map (LK h73) h.shS];rfl
 .rw[instr_plain YA YA];unfold UH;rw[hq 1 YA,hq 2 YA,hq 3 YA,hq 4 YA,hq 5 YA,hq 6 YA,hq 7 YA,qf (show x.Op≠46 by omega),qt ho];simp only[YG,YF];rw[UE h.made (LK h73) h.shS,Z7 [78] [84]];rfl
 have hl:=D8 (L:=L) [84] [[73]] VG b;have hr:=h.room
 cases mt.Ret==[73]with
 |true =>
  rw[show(b||!true)=b by simp];rw[show((Xp L [84] [[73]] VG b).2||!true)=(Xp L [84] [[73]] VG b).2 by simp]
  exact Gh λ_=>YA
 |false=>exact KQ (ZL _ _ _ YC) YC
theorem zGg(h:XW l L m mt VH VG b)(ho:x.Op=3)(hA:0<=x.A):∃p r,zj L m c mt VH VG b x=some p/\zq L c mt VH VG b x=some r/\ZE mt.Stack p r/\Zh VH VG b p:=by
 have P0:zj L m c mt VH VG b x=(cond (decide (((List.length VH):Int)<=x.A)) (Or L m c mt VH VG b x true) ((idx VH x.A).bind λv11=>Or L m c mt VH VG b x (v11==[84]))).bind λv=>some (v.1,v.2.1,v.2.2):=by
  rw[Bq YA];unfold HQ;rw[qf (show x.Op≠1 by omega),qf (show x.Op≠2 by omega),qt ho];rfl
 have R0:zq L c mt VH VG b x=(cond (decide (x.A<(List.length VH:Int))) ((idx VH (if(i64.wrap ((List.length VH:Int)-1))<x.A then(i64.wrap ((List.length VH:Int)-1))else x.A)).bind λv10=>Om L c mt VH VG x (b||(!(!(v10==[84]))))) (Om L c mt VH VG x (b||(!false)))).bind λv=>some (v.1,v.2.1,v.2.2):=by
  rw[instr_plain YA YA];unfold UH;rw[qf (show x.Op≠1 by omega),qf (show x.Op≠2 by omega),qt ho];rfl
 rw[P0,R0];by_cases hlt:x.A<(VH.length:Int)
 .obtain⟨k,hk⟩:∃k:Nat,x.A=(k:Int):=⟨x.A.toNat,YA⟩
  have hkl:k<VH.length:=YA
  have hw:i64.wrap ((VH.length:Int)-1)=(VH.length:Int)-1:=ZA YA (by have:=h.shL.1;omega)
  have hi:idx VH x.A=some VH[k]:=by rw[hk,zo,Qe hkl]
  rw[hw,YM YA,YI YA,YH hlt,hi];simp only[YG,YF,Qa];unfold Or Om;rw[hi];simp only[Qa]
  cases ht:VH[k]==[84]with
  |true =>
   refine⟨_,_,rfl,?_,KQ (r:=(VH,VG,true)) rfl rfl,Gi (λ_=>rfl) h.shL h.shS (QX _)⟩;simp
  |false =>
   rw[Z9 h.shS.len]
   cases b with
   |true=>exact⟨_,_,rfl,rfl,KQ rfl rfl,UF id h.shL h.shS (QX _) (h.shL.2 _ (Qj hkl)) λe=>by cases e⟩
   |false =>
    simp only[QI,Qo,Q5,YF];rw[Z8 h.shS.len];exact⟨_,_,rfl,rfl,UX _,UF id h.shL h.shS (QX _) (h.shL.2 _ (Qj hkl)) λ_=>.inr ⟨h.shL.2 _ (Qj hkl),(h.onL _ (Qj hkl)).resolve_left λe=>by rw[e]at ht;cases ht⟩⟩
 rw[YH YA,YI hlt];simp only[YG,YF];unfold Or Om;refine⟨_,_,rfl,?_,KQ (r:=(VH,VG,true)) rfl rfl,Gi (λ_=>rfl) h.shL h.shS (QX _)⟩;simp
theorem zDT(h:XW l L m mt VH VG b)(ho:x.Op=4)(hA:0<=x.A):∃p r,zj L m c mt VH VG b x=some p/\zq L c mt VH VG b x=some r/\ZE mt.Stack p r/\Zh VH VG b p:=by
 have P0:zj L m c mt VH VG b x=((KZ L m c mt VH VG b).bind λv15=>cond (decide (((List.length VH):Int)<=x.A)) (some (VH,v15.2.1,true)) ((KL VH).bind λv16=>(idx v16 x.A).bind λv17=>some ((List.set v16 (Int.toNat x.A) v15.1),v15.2.1,v15.2.2))).bind λv=>some (v.1,v.2.1,v.2.2):=by
  rw[Bq YA];unfold HQ;rw[qf (show x.Op≠1 by omega),qf (show x.Op≠2 by omega),qf (show x.Op≠3 by omega),qt ho];rfl
 have R0:zq L c mt VH VG b x=((KB L c mt VH VG b).bind λv14=>cond (!(v14.2.2||(!(decide (x.A<(List.length VH:Int)))))) ((Wz (HF.mk VH v14.2.1)).bind λv15=>(idx v15.1 x.A).bind λv16=>some ((List.set v15.1 (Int.toNat x.A) v14.1),v15.2,(v14.2.2||(!(decide (x.A<(List.length VH:Int))))))) (some (VH,v14.2.1,(v14.2.2||(!(decide (x.A<(List.length VH:Int)))))))).bind λv=>some (v.1,v.2.1,v.2.2):=by
  rw[instr_plain YA YA];unfold UH;rw[qf (show x.Op≠1 by omega),qf (show x.Op≠2 by omega),qf (show x.Op≠3 by omega),qt ho];rfl
 obtain⟨g1,g2⟩:=ZR (b:=b) h.shS (e:=[84]) YB;obtain⟨k1,k2⟩:=ZR (b:=b) h.shS (e:=[78]) YB;rw[P0,R0,Ht h.shS.len,G2 h.shS.len];simp only[Qa];by_cases hlt:x.A<(VH.length:Int)
 .obtain⟨k,hk⟩:∃k:Nat,x.A=(k:Int):=⟨x.A.toNat,YA⟩
  have hkl:k<VH.length:=YA
  have hi:idx VH x.A=some VH[k]:=by rw[hk,zo,Qe hkl]
  rw[YI YA,YH hlt,xG h.shL.len,va h.shL.len k2.len];simp only[YG,Qa,Qo,Q5];rw[hi];have e2:=Gd [84] [78] VG b
  cases hb:(Xj [78] VG b).2.2 with
  |true=>exact⟨_,_,rfl,rfl,KQ (by show(Xj [84] VG b).2.2=true;rw[e2];exact hb) rfl,bX GB h.shL h.shS (GA _ _ _) g1 D6⟩
  |false =>
   have e1:=G7 [78] [84] VG b hb;refine⟨_,_,rfl,rfl,?_,bX GB h.shL h.shS (GA _ _ _) g1 D6⟩;rw[e1,e2,hb];refine Gh λ_=>?_;have:=NL [78] VG b;have:=h.room;omega
 rw[YH YA,YI hlt];simp only[YF,QI,Ju,Qo,YG];exact⟨_,_,rfl,rfl,KQ rfl rfl,Gi (λ_=>rfl) h.shL h.shS (GA _ _ _)⟩
theorem xz{t:Tx}(ht:Xr t=true):Uc L t=Lk L t:=by
 unfold Uc
 have e1:(t==[78])=false:=beq_eq_false_iff_ne.2 λe=>by rw[e,dH]at ht;cases ht
 have e2:(t==[84])=false:=beq_eq_false_iff_ne.2 λe=>by rw[e,dG]at ht;cases ht
 rw[e1,e2];rfl
theorem zGe(h:XW l L m mt VH VG b)(ho:x.Op=56\/x.Op=57)(hC:Xr x.C=true)(hl:x.C.length<=25):∃p r,zj L m c mt VH VG b x=some p/\zq L c mt VH VG b x=some r/\ZE mt.Stack p r/\Zh VH VG b p:=by
 have hq:∀k:Int,k<56->(x.Op==k)=false:=λk hk=>qf YA;obtain⟨g1,g2⟩:=R3 (b:=b) h.shS (e:=[84]) YB;have e2:=(SQ (b:=b) h.on).1
 have k2:Li (Ko VG b).2.1:=by rw[e2];exact g2
 rcases ho with ho|ho
 .refine⟨(VH,(XB [84] VG b).2.1++[x.C],(XB [84] VG b).2.2||!Lk L x.C),_,?_,?_,UX _,UF (λe=>by rw[Ef e];rfl) h.shL h.shS (Bn _ _ _) hl λ_=>.inr (Nb hC hl)⟩;.rw[NZ YA];unfold WF;rw[qt ho];unfold WP;simp only[YF];rw[O6 h.shS];simp only[Qa];rw[Bg h.made h.map hl,xz hC];simp only[Qa];rw[qt ho];simp only[YF];rw[Z9 g2.len];rfl
  rw[instr_plain YA YA];unfold UH;rw[hq 1 YA,hq 2 YA,hq 3 YA,hq 4 YA,hq 5 YA,hq 6 YA,hq 7 YA,hq 46 YA,hq 47 YA,hq 48 YA,qt ho];simp only[YG,YF];rw[Bi h.shS];simp only[Qa];rw[KX h.made YA];simp only[Qa];rw[Z8 k2.len,e2];rfl
 refine⟨(VH,(XB [84] VG b).2.1++[[73]],(XB [84] VG b).2.2||!Lk L x.C),_,?_,?_,UX _,UF (λe=>by rw[Ef e];rfl) h.shL h.shS (Bn _ _ _) YB λ_=>.inr UR⟩;.rw[NZ YA];unfold WF;rw[qf (show x.Op≠56 by omega),qt ho];unfold WP;simp only[YF,YG];rw[O6 h.shS];simp only[Qa];rw[Bg h.made h.map hl,xz hC];simp only[Qa];rw[qf (show x.Op≠56 by omega)];simp only[YG];rw[Z9 g2.len];rfl
 rw[instr_plain YA YA];unfold UH;rw[hq 1 YA,hq 2 YA,hq 3 YA,hq 4 YA,hq 5 YA,hq 6 YA,hq 7 YA,hq 46 YA,hq 47 YA,hq 48 YA,qf (show x.Op≠56 by omega),qt ho];simp only[YG,YF];rw[Bi h.shS];simp only[Qa];rw[KX h.made YA];simp only[Qa];rw[Z8 k2.len,e2];rfl
theorem aG{t:Tx}(h1:(t==[73])=false)(h2:Xr t=true):Zl L [73] t=false:=by
 have e2:(t==[84])=false:=beq_eq_false_iff_ne.2 λe=>by rw[e,dG]at h2;cases h2
 have e3:(([73]:Tx)==t)=false:=by rw[Bool.eq_false_iff]at h1 ⊢;intro h;exact h1 (by rw[YN]at h ⊢;exact h.symm)
 rw[y6,e2];simp only[YG];rw[show(([73]:Tx)==[78])=false from by decide,e3];simp
theorem dF:Xr [86]=false:=by decide +kernel
theorem zGa(h:XW l L m mt VH VG b)(ho:x.Op=48)(hr:Ui mt.Ret=true)(hl:mt.Ret.length<=25):∃p r,zj L m c mt VH VG b x=some p/\zq L c mt VH VG b x=some r/\ZE mt.Stack p r/\Zh VH VG b p:=by
 have hq:∀k:Int,k<48->(x.Op==k)=false:=λk hk=>qf YA;obtain⟨k1,k2⟩:=ZR (b:=b) h.shS (e:=[78]) YB
 have P0:zj L m c mt VH VG b x=some (VH,(Xp L [84] [mt.Ret] VG (b||!Zu mt.Ret)).1,(Xp L [84] [mt.Ret] VG (b||!Zu mt.Ret)).2):=by
  rw[wm YA];unfold IF;rw[hq 46 YA,hq 47 YA,BC (OM hl)];simp only[YG,Qa];rw[Up h.made h.map (LK hl) h.shS];rfl
 have R0:zq L c mt VH VG b x=some (VH,(Ko VG b).2.1,(Ko VG b).2.2||!(!(mt.Ret==[86])&&(!(mt.Ret==[73])&&Zl L (Ko VG b).1 mt.Ret))):=by
  rw[instr_plain YA YA];unfold UH;rw[hq 1 YA,hq 2 YA,hq 3 YA,hq 4 YA,hq 5 YA,hq 6 YA,hq 7 YA,hq 46 YA,hq 47 YA,qt ho];simp only[YG,YF];rw[Bi h.shS];simp only[Qa];rw[EG h.made (show(Ko VG b).1.length<=25 from k1) hl];cases mt.Ret==[86]<;>cases mt.Ret==[73]<;>rfl
 refine⟨_,_,P0,R0,?_,Gi (λe=>ZL _ _ _ (by rw[e];rfl)) h.shL h.shS (UZ _ _ _ _ _)⟩
 cases h1:mt.Ret==[86]with
 |true =>
  have e:mt.Ret=[86]:=by simpa using h1
  have:Zu mt.Ret=false:=by unfold Zu;rw[e,dF];rfl
  rw[this];exact KQ (ZL _ _ _ YC) YC
 |false =>
  cases h2:mt.Ret==[73]with
  |true =>
   have:Zu mt.Ret=false:=by unfold Zu;rw[h2];rfl
   rw[this];exact KQ (ZL _ _ _ YC) YC
  |false =>
   have hm:Xr mt.Ret=true:=by unfold Ui at hr;rw[h1]at hr;simpa using hr
   have:Zu mt.Ret=true:=by unfold Zu;rw[h2,hm];rfl
   rw[this];simp only[Qo,Q5,QI,QD]
   have key:((Ko VG b).2.1,(Ko VG b).2.2||!Zl L (Ko VG b).1 mt.Ret)=Xp L [84] [mt.Ret] VG b:=by
    rw[Z7 [84] [78]];show((Xj [78] VG b).2.1,((Xj [78] VG b).2.2||!(!((Xj [78] VG b).1==[73])))||!Zl L (Xj [78] VG b).1 mt.Ret)=((Xj [78] VG b).2.1,(Xj [78] VG b).2.2||!Zl L (Xj [78] VG b).1 mt.Ret)
    cases h3:(Xj [78] VG b).1==[73]with
    |true =>
     have e:(Xj [78] VG b).1=[73]:=by simpa using h3
     rw[e,aG h2 hm];simp
    |false=>simp
   rw[<-key];refine Gh λ_=>?_;have:=NL [78] VG b;have:=h.room;show(((Xj [78] VG b).2.1).length:Int)<=mt.Stack;omega
theorem yw(t:Tx):t.length<=(X3 t).length+1:=by
 cases t with
 |nil=>exact Qk _
 |cons x r=>rw[Dk];split<;>simp
theorem NU{t:Tx}(h:XM t=true):t.length<=8:=by unfold XM KE at h;simp only[Qd,YJ]at h;have:=h.1.1.2.2;omega
theorem qP{t:Tx}(h:Xr t=true):t.length<=10:=by
 have h1:=yw t;have h2:=yw (X3 t);unfold Xr at h;rw[Qv]at h
 rcases h with h|h
 .have e:X3 (X3 t)=[73]:=by simpa using h
  rw[e]at h2;simp at h2;omega
 have:=NU h;omega
theorem KK{t:Tx}(h:Xr t=true):t.length<=25:=by have:=qP h;omega
theorem Bb{t:Tx}(h:Ui t=true):t.length<=25:=by
 unfold Ui at h;rw[Qv]at h
 rcases h with h|h
 .have e:t=[86]:=by simpa using h
  rw[e];decide
 exact KK h
theorem CN{t:Tx}(h:Kn t=true):t.length<=25/\(t=[84]\/Mr t):=by
 unfold Kn at h;simp only[Qv,YN]at h
 rcases h with ((h|h)|h)|h
 .subst h;exact⟨UR.1,.inr UR.2⟩
 .subst h;exact⟨CS.1,.inr CS.2⟩
 .subst h;exact⟨YB,.inl rfl⟩
 unfold Zu at h;rw[Qd]at h;exact⟨KK h.2,.inr (.inr h.2)⟩
theorem qT{α:Type}{bad:List α->α->Bool}:∀{l pre:List α},gB bad pre l=false->∀x∈l,∃q,bad q x=false
 |[],_,_,x,hx=>by cases hx
 |y::r,pre,h,x,hx=>by
  unfold gB at h;rw[Qh]at h
  rcases Qu.1 hx with e|e
  .rw[e];exact⟨pre,h.1⟩
  exact qT h.2 x e
structure Hj(m:zb)(x:zZ):Prop where
 locs:(x.Locals.length:Int)=m.Locals
 stks:(x.Stack.length:Int)<=m.Stack
 locT:∀t∈x.Locals,Kn t=true
 stkT:∀t∈x.Stack,Kn t=true/\t≠[84]
variable {b' ok e:Bool}{body:Int->Option (Sum Int (Sum Unit Bool))}{a q:Vs}{p:Vs×Bool}{C:Tx}{f:zb}
structure X7(m:zb):Prop where
 params:∀s∈m.Params,Xr s=true
 npar:m.Params.length<=6
 ret:Ui m.Ret=true
 locs:Zx m<=m.Locals/\m.Locals<=16
 stack:0<=m.Stack/\m.Stack<=16
 code:1<=m.Code.length/\m.Code.length<=100
 last:∃y,m.Code.getLast?=some y/\Gf y.Op=true
 ins:∀x∈m.Code,UT x=true
 traps:∀y∈m.Traps,y.C=[]\/XM y.C=true
 ntraps:m.Traps.length<=6
 maps:∀x∈m.Maps,Hj m x
 nmaps:m.Maps.length<=100
theorem wG{a b:Int}(h:zB n a b=true):a<=n/\n<=b:=by unfold zB at h;simpa using h
theorem bg{l:Vs}(h:UV l=true):∀t∈l,Kn t=true:=λt ht=>by
 unfold UV at h;rw[Qm,Qq]at h;simpa using h t ht
theorem xN{m:zb}(h:ZX m=true):(∀s∈m.Params,Xr s=true)/\m.Params.length<=6/\Ui m.Ret=true:=by unfold ZX at h;simp only[Qd,Qm,Qh,YS]at h;obtain⟨⟨⟨⟨h1,h2⟩,h3⟩,h4⟩,h5⟩:=h;refine⟨λs hs=>?_,YA,h4⟩;unfold NE at h3;rw[Qm,Qq]at h3;simpa using h3 s hs
theorem zHJ{m:zb}(h:ZX m=true)(ha:m.Abstract=true):m.Static=false:=by
 unfold ZX at h;rw[ha]at h;simp only[Qd,YF]at h;obtain⟨_,h5⟩:=h;unfold HK at h5;simp only[Qd,Qm]at h5
 first
  |exact h5.1
  |exact h5.1.1
  |exact h5.1.1.1
  |exact h5.1.1.1.1
theorem dy{m:zb}(h:ZX m=true)(ha:m.Abstract=false):X7 m:=by
 obtain⟨p1,p2,p3⟩:=xN h;unfold ZX at h;rw[ha]at h;simp only[Qd,YG]at h;obtain⟨_,_,hl,hs,⟨hi,ht⟩,hm⟩:=h;have hl:=wG hl;have hs:=wG hs;unfold instrN at hi;simp only[Qd,Qm]at hi;obtain⟨i1,i2,i3⟩:=hi;have i1:=wG i1;unfold H7 at ht;simp only[Qd,Qm,YJ]at ht;obtain⟨t1,t2⟩:=ht;unfold H6 at hm;simp only[Qd,Qm,YJ]at hm;obtain⟨m1,m2⟩:=hm;refine⟨p1,p2,p3,hl,hs,YA,?_,λx hx=>?_,λy hy=>?_,YA,λx hx=>?_,YA⟩
 .cases hg:m.Code.getLast? with
  |none=>rw[hg]at i2;cases i2
  |some y=>rw[hg]at i2;exact⟨y,rfl,i2⟩
 .have:=(Qq.1 i3) x hx;unfold OL at this;simp only[Qv,Qm,not_or]at this;simpa using this.1
 .have:=(Qq.1 t1) y hy;unfold Hq at this;simp only[Qv,not_or,Qd,Qm,not_and,beq_eq_false_iff_ne]at this;by_cases e:y.C=[];.exact .inl e
  right;have:=this.2 e;simpa using this
 obtain⟨q,hq⟩:=qT m1 x hx;unfold WW at hq;simp only[Qh,QT,YN,YS]at hq;obtain⟨_,⟨h1,h2⟩,⟨h3,h4⟩,h5⟩:=hq;refine⟨h1,YA,bg h3,λt ht=>⟨bg h4 t ht,λe=>?_⟩⟩;subst e;have:=(Qq.1 h5) [84] ht;simp at this
theorem O8(h:Xf l L){x:za}(hx:x∈L)(hf:f∈x.Methods):ZX f=true:=by
 rw[h.app]at hx
 rcases Qp.1 hx with e|e
 .have hg:Lb.all (λc=>decide (c.Methods.length=0))=true:=by decide +kernel
  have:=YO (Qr.1 hg x e);rw[Qf this]at hf;cases hf
 have:=h.may x e;unfold ZT at this;simp only[Qd,Qm,YJ]at this;have h2:=OU this.2.2.1 f hf;rw[Qd]at h2;exact h2.2
theorem cT(h:Xf l L){x:za}(hx:x∈L){f:zh}(hf:f∈x.Fields):Xr f.Type_=true:=by
 rw[h.app]at hx
 rcases Qp.1 hx with e|e
 .have hg:Lb.all (λc=>decide (c.Fields.length=0))=true:=by decide +kernel
  have:=YO (Qr.1 hg x e);rw[Qf this]at hf;cases hf
 have:=h.may x e;unfold ZT at this;simp only[Qd,Qm,YJ]at this;have h2:=OU this.2.1.2.1 f hf;unfold Gw at h2;simp only[Qd]at h2;exact h2.2
theorem M9(h:UT x=true):x.C.length<=10:=by
 unfold UT at h;simp only[Qd]at h;have:=h.1.2;unfold H5 at this;cases h1:GC x.Op<;>rw[h1]at this
 .cases h2:DH x.Op<;>rw[h2]at this
  .have e:x.C=[]:=by simpa using this
   rw[e];decide
  have:=NU (show XM x.C=true from this);omega
 have:Zu x.C=true:=this;unfold Zu at this;rw[Qd]at this;exact qP this.2
def Ga(mt:zb)(n:Int):Option zZ:=mt.Maps.find? (λx=>x.At==n)
def Gp(L:Vr)(a b:Vs):Bool:=((a.length:Int)==(b.length:Int))&&!(List.range a.length).any (λi=>!Zl L ((a[i]?).getD []) ((b[i]?).getD []))
def KI(L:Vr)(mt:zb)(VH VG:Vs)(n:Int):Bool:=match Ga mt n with|some x=>Gp L VH x.Locals&&Gp L VG x.Stack|none=>false
theorem aU(p:α->Bool)(l:List α):decide (Lq p 0 l<0)=!(l.find? p).isSome:=by
 rw[<-HB];by_cases h:Lq p 0 l<0;.rw[YH h,YI YA];rfl
 rw[YI h,YH YA];rfl
theorem fb{b:Vs}(ha:a.length<=1000)(hn:a.length=b.length)(hb:∀(i:Nat) x y,a[i]?=some x->b[i]?=some y->body (i:Int)=cond (!Zl L x y) (some (.inr (.inr false))) (some (.inl (i64.wrap ((i:Int)+1)))))(he:body (a.length:Int)=some (.inr (.inl ()))):((zk body 0).bind λo=>zE o (λ_=>some true) some)=some (Gp L a b):=by
 rw[uv (n:=a.length) (g:=λi=>cond (!Zl L ((a[i]?).getD []) ((b[i]?).getD [])) (some false) none) (u:=()) (λi hi=>by
  have h1:a[i]?=some a[i]:=Qe hi;have h2:b[i]?=some (b[i]' YA):=Qe YA;rw[hb i _ _ h1 h2,h1,h2,zz YA];simp only[Jk]
  cases Zl L a[i] (b[i]' YA)<;>rfl) he,z8]
 unfold Gp;rw[hn,YL,QD];cases(List.range b.length).any (λi=>!Zl L ((a[i]?).getD []) ((b[i]?).getD []))<;>rfl
theorem yZ{b:Vs}(h:a.length≠b.length):Gp L a b=false:=by unfold Gp;rw[beq_eq_false_iff_ne.2 (show(a.length:Int)≠(b.length:Int)by omega)];rfl
theorem y4(h:Xf l L)(hm:Xq L m){b:Vs}(ha:Li a)(FV:∀t∈b,t.length<=25):Pv L m a b=some (Gp L a b):=by
 unfold Pv;by_cases hn:a.length=b.length
 .rw[show((a.length:Int)==(b.length:Int))=true by rw[hn];exact YL _]
  exact fb (body:=λz=>Is L m a b z) ha.len hn (λi x y hx hy=>by
   show Is L m a b (i:Int)=_;have:=ha.2 x (Qc hx);have:=FV y (Qc hy);unfold Is;rw[Xl hx,zo,zo,hx,hy];simp only[YF,Qa]
   rw[Ss h hm YA YA];rfl) (by
   show Is L m a b (a.length:Int)=_;unfold Is
   rw[Xm];rfl)
 rw[beq_eq_false_iff_ne.2 (show(a.length:Int)≠(b.length:Int)by omega),yZ hn];rfl
theorem X7.lenM(hk:X7 mt):XP mt.Maps:=by have:=hk.nmaps;unfold XP;omega
theorem W9(hk:X7 mt){x:zZ}(h:Ga mt n=some x):Hj mt x:=hk.maps x (QG h)
theorem Hj.loc25{x:zZ}(h:Hj mt x):∀t∈x.Locals,t.length<=25:=λt ht=>(CN (h.locT t ht)).1
theorem Hj.stk25{x:zZ}(h:Hj mt x):∀t∈x.Stack,t.length<=25:=λt ht=>(CN (h.stkT t ht).1).1
theorem wg(hk:X7 mt):I7 L m c mt VH VG b n=some (Ga mt n):=by
 unfold I7 AZ
 rw[show((zk (λz=>Ch mt.Maps n z) 0).bind λo=>zE o (λb=>jd) some)=_ from Zt (p:=λx:zZ=>x.At==n) hk.lenM
  (λi x hx=>by
   unfold Ch AU
   rw[Xl hx,zo,hx];rfl) (by unfold Ch;rw[Xm];rfl)]
 simp only[Qa];rw[aU,Hx];unfold Ga;cases mt.Maps.find? (λx=>x.At==n)<;>rfl
theorem fo(h:Xf l L)(hm:Xq L m){x:zZ}(hx:Hj mt x)(hl:Li VH)(hs:Li VG):Wr L m x VH VG=some (Gp L VH x.Locals&&Gp L VG x.Stack):=by unfold Wr;rw[y4 h hm hl hx.loc25,y4 h hm hs hx.stk25];cases Gp L VH x.Locals<;>rfl
theorem d6(h:Xf l L)(hm:Xq L m)(hk:X7 mt)(hl:Li VH)(hs:Li VG):Ob L m c mt VH VG b n=some (b||!KI L mt VH VG n):=by
 unfold Ob KI;rw[wg hk];simp only[Qa]
 cases hf:Ga mt n with
 |none=>rfl
 |some x =>
  show(Wr L m x VH VG).bind _=_;rw[fo h hm (W9 hk hf) hl hs];rfl
theorem au(h:Xf l L)(hm:Xq L m)(hk:X7 mt)(hl:Li VH)(hs:Li s):AM L m c mt VH VG b n s=some (b||!KI L mt VH s n):=by
 unfold AM KI;rw[wg hk];simp only[Qa]
 cases hf:Ga mt n with
 |none=>rfl
 |some x =>
  show(Wr L m x VH s).bind _=_;rw[fo h hm (W9 hk hf) hl hs];rfl
def Zg(L:Vr)(C M:Tx):FR:=((Xh L C).findSome? (Ud L M)).getD ([],zF,false)
theorem xk(h:Xf l L)(C M:Tx):(Zg L C M).2.1.Type_.length<=25/\((Zg L C M).2.2=true->Xr (Zg L C M).2.1.Type_=true):=by
 unfold Zg
 cases hq:(Xh L C).findSome? (Ud L M)with
 |none=>exact⟨Qk _,λe=>by cases e⟩
 |some r =>
  obtain⟨s,hs,e⟩:=QQ hq;unfold Ud at e
  cases hc:cl L s with
  |none=>rw[hc]at e;cases e
  |some y =>
   rw[hc]at e;simp only at e
   cases hf:y.Fields.find? (λy=>y.Name==M)with
   |none=>rw[hf]at e;cases e
   |some f =>
    rw[hf]at e;cases e;have:=cT h (XG hc).1 (QG hf);exact⟨KK this,λ_=>this⟩
structure dt(r:MR):Prop where
 params:∀s∈r.2.1.Params,Xr s=true
 npar:r.2.1.Params.length<=6
 ret25:r.2.1.Ret.length<=25
 ret:r.2.2=true->Ui r.2.1.Ret=true
theorem yz:dt ([],zM,false):=⟨λs hs=>(List.not_mem_nil (show s∈([]:Vs)from hs)).elim,Qk _,Qk _,λe=>by cases e⟩
theorem yB{n s:Tx}{r:MR}(e:X4 L may n s=some r):∃y f,cl L s=some y/\f∈y.Methods/\r=(s,f,true):=by
 unfold X4 at e
 cases hc:cl L s with
 |none=>rw[hc]at e;cases e
 |some y =>
  rw[hc]at e;simp only at e
  cases hf:y.Methods.find? (λy=>y.Name==n)with
  |none=>rw[hf]at e;cases e
  |some f =>
   rw[hf]at e;simp only at e
   cases hm:may f with
   |false=>rw[hm]at e;cases e
   |true =>
    rw[hm]at e;cases e;exact⟨y,f,rfl,QG hf,rfl⟩
theorem wo(h:Xf l L)(may:zb->Bool)(n:Tx)(T:Vs):dt ((T.findSome? (X4 L may n)).getD ([],zM,false)):=by
 cases hq:T.findSome? (X4 L may n)with
 |none=>exact yz
 |some r =>
  obtain⟨s,hs,e⟩:=QQ hq;obtain⟨y,f,hc,hf,rfl⟩:=yB e;obtain⟨p1,p2,p3⟩:=xN (O8 h (XG hc).1 hf);exact⟨p1,p2,Bb p3,λ_=>p3⟩
theorem yA(h:Xf l L)(C n:Tx):dt (Ux L C n)/\((Ux L C n).2.2=true->(Ux L C n).2.1.Static=false):=by
 unfold Ux
 cases hF:Lg L C with
 |false=>exact⟨yz,λe=>by cases e⟩
 |true =>
  refine⟨wo h _ _ _,?_⟩;simp only[YF]
  cases hq:(C::XT L C).findSome? (X4 L HJ n)with
  |none=>exact λe=>by cases e
  |some r =>
   obtain⟨s,hs,e⟩:=QQ hq;obtain⟨y,f,hc,hf,rfl⟩:=yB e;intro _
   have hI:Lg L s=true:=by
    rcases Qu.1 hs with e|e
    .rw[e];exact hF
    exact(bp.1 e).2
   have hy:y.Interface=true:=by unfold Lg at hI;rw[hc]at hI;exact hI
   have ha:=Pq h (XG hc).1 hf;exact zHJ (O8 h (XG hc).1 hf) (ha.trans hy)
theorem zFt(ho:x.Op=20):zj L m c mt VH VG b x=some (VH,VG,b):=by unfold zj;rw[bf YA,qf (show x.Op≠13 by omega),bf YA,qt ho];rfl
theorem zFu(h:XW l L m mt VH VG b)(ho:21<=x.Op/\x.Op<=26):zj L m c mt VH VG b x=some (VH,Xp L [84] [[73]] VG b):=by unfold zj;rw[bf YA,qf (show x.Op≠13 by omega),bf YA,qf (show x.Op≠20 by omega),bt ho];simp only[YG,YF];rw[Up h.made h.map (LK UR.1) h.shS];rfl
theorem zFv(h:XW l L m mt VH VG b)(ho:27<=x.Op/\x.Op<=32):zj L m c mt VH VG b x=some (VH,Xp L [84] [[73],[73]] VG b):=by unfold zj;rw[bf YA,qf (show x.Op≠13 by omega),bf YA,qf (show x.Op≠20 by omega),bf YA,bt ho];simp only[YG,YF];rw[Up h.made h.map (MJ UR.1 UR.1) h.shS];rfl
theorem zFw(h:XW l L m mt VH VG b)(ho:33<=x.Op/\x.Op<=34):zj L m c mt VH VG b x=some (VH,(XB [84] VG b).2):=by unfold zj;rw[bf YA,qf (show x.Op≠13 by omega),bf YA,qf (show x.Op≠20 by omega),bf YA,bf YA,bt ho];simp only[YG,YF];rw[O6 h.shS];rfl
theorem zFx(h:XW l L m mt VH VG b)(ho:35<=x.Op/\x.Op<=36):zj L m c mt VH VG b x=some (VH,(XB [84] (XB [84] VG b).2.1 (XB [84] VG b).2.2).2):=by unfold zj;rw[bf YA,qf (show x.Op≠13 by omega),bf YA,qf (show x.Op≠20 by omega),bf YA,bf YA,bf YA,bt ho];simp only[YG,YF];rw[O6 h.shS];simp only[Qa];rw[O6 (R3 h.shS YB).2];rfl
theorem wK(ho:37<=x.Op/\x.Op<=41):zj L m c mt VH VG b x=(P3 L m c mt VH VG b x).bind λv=>some (VH,v.1,v.2):=by
 have e:((x.Op==(37:Int))||U4 x.Op 38 41)=true:=by
  by_cases h:x.Op=37;.rw[qt h];rfl
  rw[bt (show(38:Int)<=x.Op/\x.Op<=41 by omega),Ju]
 unfold zj;rw[bf YA,qf (show x.Op≠13 by omega),bf YA,qf (show x.Op≠20 by omega),bf YA,bf YA,bf YA,bf YA,e];rfl
theorem vx(ho:42<=x.Op/\x.Op<=45):zj L m c mt VH VG b x=(WG L m c mt VH VG b x).bind λv=>some (VH,v.1,v.2):=by unfold zj;rw[bf YA,qf (show x.Op≠13 by omega),bf YA,qf (show x.Op≠20 by omega),bf YA,bf YA,bf YA,bf YA,qf (show x.Op≠37 by omega),bf YA,bt ho];rfl
theorem Bw(ho:49<=x.Op/\x.Op<=55):zj L m c mt VH VG b x=(HV L m c mt VH VG b x).bind λv=>some (VH,v.1,v.2):=by unfold zj;rw[bf YA,qf (show x.Op≠13 by omega),bf YA,qf (show x.Op≠20 by omega),bf YA,bf YA,bf YA,bf YA,qf (show x.Op≠37 by omega),bf YA,bf YA,bf YA,bt ho];rfl
theorem Ek{R:Type}{body:Bool×Int->Option (Sum (Bool×Int) (Sum Bool R))}{l:List α}{p:α->Bool}(hl:l.length<=1000000)(hb:∀(i:Nat) x (b:Bool),l[i]?=some x->body (b,(i:Int))=some (.inl (b||p x,i64.wrap ((i:Int)+1))))(he:∀b:Bool,body (b,(l.length:Int))=some (.inr (.inl b)))(b0:Bool):zk body (b0,0)=some (.inl (b0||l.any p)):=by
 have key:∀(r pre:List α) (b:Bool),l=pre++r->zk body (b,(pre.length:Int))=some (.inl (b||r.any p)):=by
  intro r
  induction r with
  |nil =>
   intro pre b h
   have e:l=pre:=by rw[h,Qy]
   subst e;rw[zH,he];simp
  |cons x r ih =>
   intro pre b h
   have VR:l.length=pre.length+(r.length+1):=by rw[h];simp
   have hx:l[pre.length]?=some x:=by rw[h];simp
   rw[zH,hb _ x b hx,zz YA];have:=ih (pre++[x]) (b||p x) (by rw[h];simp);rw[show(pre++[x]).length=pre.length+1 by simp]at this;simp only[Qa,JV];rw[this,Q2,JQ]
 exact key l [] b0 rfl
def Zp(L:Vr)(mt:zb)(VH VG:Vs)(n:Int)(g:Bool):Vs×Vs×Bool:=match Ga mt n with|none=>(VH,VG,!g)|some x=>(x.Locals,x.Stack,g&&!KI L mt VH VG n)
def NP:Tx:=[84,104,114,111,119,110]
def Hk(t:zU):Tx:=cond (t.C==[]) NP t.C
def KF(L:Vr)(mt:zb)(VH:Vs)(n:Int)(t:zU):Bool:=!KC L (Hk t) NP||((decide (t.From<=n)&&decide (n<t.To))&&!KI L mt VH [Hk t] t.At)
theorem Hj.shl{x:zZ}(hk:X7 mt)(h:Hj mt x):Li x.Locals:=⟨by have:=h.locs;have:=hk.locs.2;omega,h.loc25⟩
theorem Hj.shs{x:zZ}(hk:X7 mt)(h:Hj mt x):Li x.Stack:=⟨by have:=h.stks;have:=hk.stack.2;omega,h.stk25⟩
theorem wh(h:Xf l L)(hm:Xq L m)(hk:X7 mt)(hl:Li VH)(hs:Li VG){g:Bool}:Av L m c mt VH VG b n g=some ((Zp L mt VH VG n g).1,(Zp L mt VH VG n g).2.1,b||(Zp L mt VH VG n g).2.2):=by
 unfold Av Zp;rw[wg hk];simp only[Qa]
 cases hf:Ga mt n with
 |none=>rfl
 |some x =>
  have hx:=W9 hk hf;simp only[Option.isNone_some,YG]
  have key:∀v:Bool,Oy (some x) v=some (x.Locals,x.Stack,v):=λv=>by
   unfold Oy;show(KL x.Locals).bind _=_;rw[xG (hx.shl hk).len];simp only[Qa];rw[xG (hx.shs hk).len];rfl
  rw[d6 h hm hk hl hs]
  cases g with
  |true=>simp only[YF,Qa];rw[key];rfl
  |false=>simp only[YG];rw[key];simp
theorem XW.to(h:XW l L m mt VH VG b):XW l L m mt VH VG b':=⟨h.made,h.map,h.lens,h.shL,h.shS,h.on,h.room,h.onL⟩
theorem oz(h:XW l L m mt VH VG b)(hk:X7 mt){g:Bool}:XW l L m mt (Zp L mt VH VG n g).1 (Zp L mt VH VG n g).2.1 b':=by
 unfold Zp
 cases hf:Ga mt n with
 |none=>exact h.to
 |some x =>
  have hx:=W9 hk hf;exact⟨h.made,h.map,h.lens,hx.shl hk,hx.shs hk,λt ht=>((CN (hx.stkT t ht).1).2).resolve_left (hx.stkT t ht).2,hx.stks,λt ht=>(CN (hx.locT t ht)).2⟩
theorem vF(hk:X7 mt){t:zU}(ht:t∈mt.Traps):(Hk t).length<=25:=by
 unfold Hk
 rcases hk.traps t ht with e|e
 .rw[e];decide
 cases t.C==[];.have:=NU e;show t.C.length<=25;omega
 show NP.length<=25;decide
theorem yk(h:Xf l L)(hm:Xq L m)(hk:X7 mt)(hl:Li VH):MT L m c mt VH VG b n=some (b||mt.Traps.any (KF L mt VH n)):=by
 unfold MT
 rw[Ek (body:=λz=>MZ L m c mt VH VG n z.1 z.2) (l:=mt.Traps) (p:=KF L mt VH n) (by have:=hk.ntraps;omega) (λi t b hi=>by
  have ht:=Qc hi;have hc:=vF hk ht
  have key:∀v:Tx,v=Hk t->Rj L m c mt VH VG n b (i:Int) t v=some (.inl (b||KF L mt VH n t,i64.wrap ((i:Int)+1))):=λv hv=>by
   unfold Rj AX;rw[hv,Ec h hm hc (by show _<=_;decide)];simp only[Qa];rw[au h hm hk hl (LK hc)];unfold KF NP;simp only[Qa];cases decide (t.From<=n)&&decide (n<t.To)<;>cases b<;>simp
  show MZ L m c mt VH VG n b (i:Int)=_;unfold MZ;rw[Xl hi,zo,hi];simp only[YF,Qa]
  cases he:t.C==[]with
  |true=>exact key _ (by unfold Hk;rw[he];rfl)
  |false=>exact key _ (by unfold Hk;rw[he];rfl)) (λb=>by
  show MZ L m c mt VH VG n b (mt.Traps.length:Int)=_;unfold MZ
  rw[Xm];rfl)]
 rfl
theorem fv{α β:Type}(p:α->Bool)(g:α->β):∀l:List α,l.findSome? (λx=>cond (p x) (some (g x)) none)=(l.find? p).map g
 |[]=>rfl
 |x::l=>by
  rw[Q7,List.find?_cons]
  cases p x with
  |true=>rfl
  |false=>exact fv p g l
def RC(mt:zb)(n:Int):zZ×Bool:=match Ga mt n with|some x=>(x,true)|none=>(zZ.mk 0 [] [],false)
theorem xQ(hk:X7 mt):Oh L c mt VH VG b n=some (RC mt n):=by
 have hl:=hk.nmaps;unfold Oh
 rw[show zk (λz=>MS mt n z) 0=some (XJ () (mt.Maps.findSome? (λx=>cond (x.At==n) (some (x,true)) none)))from Zq (λi x hx=>by
  have hi:=(Qb.1 hx).1;show MS mt n (i:Int)=_;unfold MS;rw[Xl hx,zo,hx,zz YA];simp only[YF,Qa]
  cases x.At==n<;>rfl) (by
  show MS mt n (mt.Maps.length:Int)=_;unfold MS
  rw[Xm];rfl),fv (λx:zZ=>x.At==n)]
 unfold RC Ga;cases mt.Maps.find? (λx=>x.At==n)<;>rfl
theorem C0(h:Xf l L){b:Vs}(ha:Li a)(FV:∀t∈b,t.length<=25):WD L a b=some (Gp L a b):=by
 unfold WD;by_cases hn:a.length=b.length
 .rw[show((a.length:Int)==(b.length:Int))=true by rw[hn];exact YL _]
  exact fb (body:=λz=>I5 L a b z) ha.len hn (λi x y hx hy=>by
   show I5 L a b (i:Int)=_;have:=ha.2 x (Qc hx);have:=FV y (Qc hy);unfold I5;rw[Xl hx,zo,zo,hx,hy];simp only[YF,Qa]
   rw[EG h YA YA];rfl) (by
   show I5 L a b (a.length:Int)=_;unfold I5
   rw[Xm];rfl)
 rw[beq_eq_false_iff_ne.2 (show(a.length:Int)≠(b.length:Int)by omega),yZ hn];rfl
theorem d5(h:Xf l L)(hk:X7 mt){p:Vs}(hp:Li p)(hq:Li q):B7 L c mt VH VG b n p q=some (b||!KI L mt p q n):=by
 unfold B7 KI;rw[xQ hk];unfold RC
 cases hf:Ga mt n with
 |none=>rfl
 |some x =>
  have hx:=W9 hk hf;simp only[Qa,YF];rw[C0 h hp hx.loc25,C0 h hq hx.stk25];cases Gp L p x.Locals<;>rfl
theorem ar(h:Xf l L)(hk:X7 mt){p:Vs}(hp:Li p)(hq:Li q):Aw L c mt VH VG b n p q=some (b||!KI L mt p q n):=by
 unfold Aw KI;rw[xQ hk];unfold RC
 cases hf:Ga mt n with
 |none=>rfl
 |some x =>
  have hx:=W9 hk hf;simp only[Qa,YF];rw[C0 h hp hx.loc25,C0 h hq hx.stk25];cases Gp L p x.Locals<;>rfl
theorem tT(h:Xf l L)(hk:X7 mt)(hl:Li VH):WI L c mt VH VG b n=some (b||mt.Traps.any (KF L mt VH n)):=by
 unfold WI
 rw[Ek (body:=λz=>MQ L c mt VH VG n z.1 z.2) (l:=mt.Traps) (p:=KF L mt VH n) (by have:=hk.ntraps;omega) (λi t b hi=>by
  have ht:=Qc hi;have hc:=vF hk ht
  have key:∀v:Tx,v=Hk t->P8 L c mt VH VG n b (i:Int) t v=some (.inl (b||KF L mt VH n t,i64.wrap ((i:Int)+1))):=λv hv=>by
   unfold P8 AQ;rw[hv,od h hc YB];simp only[Qa];rw[ar h hk hl (LK hc)];unfold KF NP;simp only[Qa];cases decide (t.From<=n)&&decide (n<t.To)<;>cases b<;>simp
  show MQ L c mt VH VG n b (i:Int)=_;unfold MQ;rw[Xl hi,zo,hi];simp only[YF,Qa]
  cases he:t.C==[]with
  |true=>exact key _ (by unfold Hk;rw[he];rfl)
  |false=>exact key _ (by unfold Hk;rw[he];rfl)) (λb=>by
  show MQ L c mt VH VG n b (mt.Traps.length:Int)=_;unfold MQ
  rw[Xm];rfl)]
 rfl
theorem N1(h:XW l L m mt VH VG b)(hk:X7 mt)(hp:zj L m c mt VH VG b x=some (VH,s,e))(hr:zq L c mt VH VG b x=(WS L c mt VH x s e).bind λv=>some (VH,v.1,v.2))(hs:s<+:VG)(he:b=true->e=true):∃p r,zj L m c mt VH VG b x=some p/\zq L c mt VH VG b x=some r/\ZE mt.Stack (p.1,p.2.1,p.2.2||!KI L mt p.1 p.2.1 x.A) r/\Zh VH VG b p:=by have hl:=hs.length_le;have hS:Li s:=⟨by have:=h.shS.1;omega,λt ht=>h.shS.2 t (hs.subset ht)⟩;refine⟨(VH,s,e),(VH,s,e||!KI L mt VH s x.A),hp,?_,Gh λ_=>by have:=h.room;show(s.length:Int)<=mt.Stack;omega,Gi he h.shL h.shS hs⟩;rw[hr];unfold WS;rw[d5 h.made hk h.shL hS];rfl
theorem instr_test(ho:21<=x.Op/\x.Op<=36):zq L c mt VH VG b x=(B6 L c mt VH VG b x).bind λv=>some (VH,v.1,v.2):=by unfold zq;rw[cf YA,ct ho];rfl
theorem zGf(h:XW l L m mt VH VG b)(hk:X7 mt)(ho:20<=x.Op/\x.Op<=36):∃p r,zj L m c mt VH VG b x=some p/\zq L c mt VH VG b x=some r/\ZE mt.Stack (p.1,p.2.1,p.2.2||!KI L mt p.1 p.2.1 x.A) r/\Zh VH VG b p:=by
 by_cases h0:x.Op=20;.refine N1 (s:=VG) (e:=b) h hk (zFt h0) ?_ (QX _) id;unfold zq WS;rw[cf YA,cf YA,qt h0];simp only[YG,YF];rw[d5 h.made hk h.shL h.shS];rfl
 by_cases h1:x.Op<=26;.refine N1 (s:=(Xp L [84] [[73]] VG b).1) (e:=(Xp L [84] [[73]] VG b).2) h hk (zFu h ⟨YA,h1⟩) ?_ (UZ _ _ _ _ _) (ZL _ _ _);rw[instr_test ⟨YA,ho.2⟩];unfold B6;rw[YH h1];simp only[YF];rw[UE h.made (LK UR.1) h.shS,Z7 [78] [84]];rfl
 by_cases h2:x.Op<=32;.refine N1 (s:=(Xp L [84] [[73],[73]] VG b).1) (e:=(Xp L [84] [[73],[73]] VG b).2) h hk (zFv h ⟨YA,h2⟩) ?_ (UZ _ _ _ _ _) (ZL _ _ _);rw[instr_test ⟨YA,ho.2⟩];unfold B6;rw[YI h1,YH h2];simp only[YF,YG];rw[UE h.made (MJ UR.1 UR.1) h.shS,Z7 [78] [84]];rfl
 have e2:=(SQ (b:=b) h.on).1;by_cases h3:x.Op<=34;.refine N1 (s:=(XB [84] VG b).2.1) (e:=(XB [84] VG b).2.2) h hk (zFw h ⟨YA,h3⟩) ?_ (Bn _ _ _) Ef;rw[instr_test ⟨YA,ho.2⟩];unfold B6;rw[YI h1,YI h2,YH h3];simp only[YF,YG];rw[Bi h.shS];simp only[Qa];rw[e2]
 refine N1 (s:=(XB [84] (XB [84] VG b).2.1 (XB [84] VG b).2.2).2.1) (e:=(XB [84] (XB [84] VG b).2.1 (XB [84] VG b).2.2).2.2) h hk (zFx h ⟨YA,ho.2⟩) ?_ ((Bn _ _ _).trans (Bn _ _ _)) (λe=>Ef (Ef e));rw[instr_test ⟨YA,ho.2⟩];unfold B6;rw[YI h1,YI h2,YI h3];simp only[YG];rw[Bi h.shS];simp only[Qa];rw[e2,Bi (R3 h.shS YB).2];simp only[Qa];rw[(SQ λt ht=>h.on t ((Bn _ _ _).subset ht)).1]
theorem instr_field(ho:37<=x.Op/\x.Op<=41):zq L c mt VH VG b x=(Oi L c mt VH VG b x).bind λv=>some (VH,v.1,v.2):=by unfold zq;rw[cf YA,cf YA,qf (show x.Op≠20 by omega),ct ho];rfl
def WU(L:Vr)(C:Tx):Bool:=match cl L C with|some y=>!y.Interface|none=>false
theorem co(h:XW l L m mt VH VG b)(ho:x.Op=37)(hC:x.C.length<=25):∃p r,zj L m c mt VH VG b x=some p/\zq L c mt VH VG b x=some r/\ZE mt.Stack p r/\Zh VH VG b p:=by
 have h26:=h.made.len
 have hP:zj L m c mt VH VG b x=some (VH,VG++[x.C],b||!WU L x.C):=by
  rw[wK YA];unfold P3 WU;rw[qt ho];simp only[YF];rw[Us h.map];simp only[Qa];rw[Z9 h.shS.len];cases cl L x.C<;>rfl
 have hK:Zh VH VG b (VH,VG++[x.C],b||!WU L x.C):=UF (λe=>by rw[e];rfl) h.shL h.shS (QX _) hC λhb=>.inr (by
  simp only[Qh,QT]at hb;have hn:=hb.2;unfold WU at hn
  cases hc:cl L x.C with
  |none=>rw[hc]at hn;cases hn
  |some y=>exact Nb (Wh (Dm h.made (ZC hc))) hC)
 cases hc:cl L x.C with
 |none =>
  have e:WU L x.C=false:=by unfold WU;rw[hc]
  refine⟨_,(VH,VG,true),hP,?_,KQ (by rw[e];simp) rfl,hK⟩;rw[instr_field YA];unfold Oi;rw[Zc YA];simp only[Qa];rw[Gy,Db hc];rfl
 |some y =>
  have e:WU L x.C=!y.Interface:=by unfold WU;rw[hc]
  refine⟨_,_,hP,?_,UX _,hK⟩;.rw[instr_field YA];unfold Oi;rw[Zc YA];simp only[Qa];rw[Gy,ZC hc,qt ho];simp only[Qo,YG,YF];rw[Kp,hc];simp only[Qa];rw[Z8 h.shS.len,<-e];rfl
theorem uq{b0:Bool}(hb:b0=true->b=true)(hl:Li VH)(hs:Li VG):Zh VH VG b0 (VH,Xp L [84] ts VG b):=Gi (s:=(Xp L [84] ts VG b).1) (b:=(Xp L [84] ts VG b).2) (λe=>ZL _ _ _ (hb e)) hl hs (UZ _ _ _ _ _)
def Ue(L:Vr)(b:Bool)(x:zp):Bool:=b||!((Zg L x.C x.M).2.2&&((Zg L x.C x.M).2.1.Static==((x.Op==(40:Int))||(x.Op==(41:Int)))))
def K6(L:Vr)(VG:Vs)(b:Bool)(x:zp):Vs×Bool:=
 cond (x.Op==38) ((Xp L [84] [x.C] VG (Ue L b x)).1++[(Zg L x.C x.M).2.1.Type_],(Xp L [84] [x.C] VG (Ue L b x)).2)
  (cond (x.Op==39) (Xp L [84] [(Zg L x.C x.M).2.1.Type_,x.C] VG (Ue L b x))
   (cond (x.Op==40) (VG++[(Zg L x.C x.M).2.1.Type_],Ue L b x) (Xp L [84] [(Zg L x.C x.M).2.1.Type_] VG (Ue L b x))))
theorem NN(h:XW l L m mt VH VG b)(ho:38<=x.Op/\x.Op<=41)(hC:x.C.length<=25):zj L m c mt VH VG b x=some (VH,K6 L VG b x):=by have hT:=(xk h.made x.C x.M).1;rw[wK YA];unfold P3 K6;rw[qf (show x.Op≠37 by omega),Bm h.made h.map h.lens];simp only[YG,Qa];rw[show(((Xh L x.C).findSome? (Ud L x.M)).getD ([],zF,false))=Zg L x.C x.M from rfl];rw[show(b||!((Zg L x.C x.M).2.2&&((Zg L x.C x.M).2.1.Static==((x.Op==(40:Int))||(x.Op==(41:Int))))))=Ue L b x from rfl];rw[Up h.made h.map (LK hC) h.shS,Up h.made h.map (MJ hC hT) h.shS,Up h.made h.map (LK hT) h.shS,Z9 h.shS.len];simp only[Qa,QA];rw[Z9 (Uq YB _ _ _ h.shS).len];cases x.Op==38<;>cases x.Op==39<;>cases x.Op==40<;>rfl
theorem cP(hb:Ue L b x=true):(K6 L VG b x).2=true:=by
 unfold K6
 cases x.Op==38<;>cases x.Op==39<;>cases x.Op==40<;>first|exact ZL _ _ _ hb|exact hb
theorem N5(h:XW l L m mt VH VG b)(hC:x.C.length<=25):Zh VH VG b (VH,K6 L VG b x):=by
 obtain⟨hT,hM⟩:=xk h.made x.C x.M
 have FW:b=true->Ue L b x=true:=λe=>by unfold Ue;rw[e];rfl
 have hF:Ue L b x=false->DQ (Zg L x.C x.M).2.1.Type_:=λe=>by
  unfold Ue at e;simp only[Qh,QT,Qd]at e;exact Nb (hM e.2.1) hT
 have ht:∀{ts:Vs},(Xp L [84] ts VG (Ue L b x)).2=false->Ue L b x=false:=λ{ts} e=>by
  cases hq:Ue L b x with
  |false=>rfl
  |true=>rw[ZL _ _ _ hq]at e;cases e
 unfold K6
 cases x.Op==38 with
 |true=>exact UF (λe=>ZL _ _ _ (FW e)) h.shL h.shS (UZ _ _ _ _ _) hT λe=>.inr (hF (ht e))
 |false =>
  cases x.Op==39 with
  |true=>exact uq FW h.shL h.shS
  |false =>
   cases x.Op==40 with
   |true=>exact UF FW h.shL h.shS (QX _) hT λe=>.inr (hF e)
   |false=>exact uq FW h.shL h.shS
theorem zDS(h:XW l L m mt VH VG b)(ho:38<=x.Op/\x.Op<=41)(hC:x.C.length<=25):∃p r,zj L m c mt VH VG b x=some p/\zq L c mt VH VG b x=some r/\ZE mt.Stack p r/\Zh VH VG b p:=by
 have h26:=h.made.len;have hT:=(xk h.made x.C x.M).1
 have hD:Oi L c mt VH VG b x=cond (!Xi L x.C) (some (VG,true)) (cond (Ue L b x) (some (VG,Ue L b x))
   (cond ((x.Op==(39:Int))||(x.Op==(41:Int))) ((Ut L c mt VH VG (Ue L b x) [(Zg L x.C x.M).2.1.Type_]).bind λv12=>DB L c mt VH x (Zg L x.C x.M) v12.1 v12.2) (DB L c mt VH x (Zg L x.C x.M) VG (Ue L b x)))):=by
  unfold Oi;rw[Zc YA];simp only[Qa];rw[Gy,qf (show x.Op≠37 by omega),Tp h.made h.lens];rfl
 cases hb:Ue L b x with
 |true =>
  refine⟨_,(VH,VG,true),NN (c:=c) h ho hC,?_,KQ (cP hb) rfl,N5 h hC⟩;rw[instr_field YA,hD,hb];cases Xi L x.C<;>rfl
 |false =>
  have hn:Xi L x.C=true:=by
   cases hq:Xi L x.C with
   |true=>rfl
   |false =>
    have:Zg L x.C x.M=([],zF,false):=by unfold Zg;rw[GD hq];rfl
    unfold Ue at hb;rw[this]at hb;simp at hb
  rw[hn,hb]at hD;simp only[Qo,YG]at hD;have hr:=h.room;have hl1:=D8 (L:=L) [84] [x.C] VG false;have hl2:=D8 (L:=L) [84] [(Zg L x.C x.M).2.1.Type_,x.C] VG false;have hl3:=D8 (L:=L) [84] [(Zg L x.C x.M).2.1.Type_] VG false;have hs3:=Uq (L:=L) (e:=[84]) YB [(Zg L x.C x.M).2.1.Type_] VG false h.shS
  have ho4:x.Op=38\/x.Op=39\/x.Op=40\/x.Op=41:=YA
  rcases ho4 with h4|h4|h4|h4
  .have e:K6 L VG b x=((Xp L [84] [x.C] VG false).1++[(Zg L x.C x.M).2.1.Type_],(Xp L [84] [x.C] VG false).2):=by unfold K6;rw[hb,qt h4];rfl
   have hO:=NN (c:=c) h ho hC;have hK:=N5 (x:=x) h hC;rw[e]at hO hK;refine⟨_,_,hO,?_,UX _,hK⟩;.rw[instr_field YA,hD];unfold DB On;rw[qf (show x.Op≠39 by omega),qf (show x.Op≠41 by omega),qt h4];simp only[Q5,Bool.true_or,YG,YF];rw[UE h.made (LK hC) h.shS,Z7 [78] [84]];simp only[Qa,QA];rw[Z8 (Uq YB _ _ _ h.shS).len];rfl
  .have e:K6 L VG b x=Xp L [84] [(Zg L x.C x.M).2.1.Type_,x.C] VG false:=by unfold K6;rw[hb,qf (show x.Op≠38 by omega),qt h4];rfl
   refine⟨_,(VH,Xp L [84] [(Zg L x.C x.M).2.1.Type_,x.C] VG false),NN (c:=c) h ho hC,?_,?_,N5 (x:=x) h hC⟩;.rw[instr_field YA,hD];unfold DB On;rw[qf (show x.Op≠38 by omega),qf (show x.Op≠40 by omega),qt h4];simp only[Q5,Bool.true_or,Ju,YG,YF];rw[UE h.made (LK hT) h.shS,Z7 [78] [84]];simp only[Qa,QA];rw[UE h.made (LK hC) hs3,Z7 [78] [84]];rfl
   rw[e];exact Gh λ_=>by show((Xp L [84] [(Zg L x.C x.M).2.1.Type_,x.C] VG false).1.length:Int)<=mt.Stack;omega
  .have e:K6 L VG b x=(VG++[(Zg L x.C x.M).2.1.Type_],false):=by unfold K6;rw[hb,qf (show x.Op≠38 by omega),qf (show x.Op≠39 by omega),qt h4];rfl
   have hO:=NN (c:=c) h ho hC;have hK:=N5 (x:=x) h hC;rw[e]at hO hK;refine⟨_,_,hO,?_,UX _,hK⟩;.rw[instr_field YA,hD];unfold DB On;rw[qf (show x.Op≠38 by omega),qf (show x.Op≠39 by omega),qf (show x.Op≠41 by omega),qt h4];simp only[Q5,Ju,YG,YF];rw[Z8 h.shS.len];rfl
  have e:K6 L VG b x=Xp L [84] [(Zg L x.C x.M).2.1.Type_] VG false:=by unfold K6;rw[hb,qf (show x.Op≠38 by omega),qf (show x.Op≠39 by omega),qf (show x.Op≠40 by omega)];rfl
  refine⟨_,(VH,Xp L [84] [(Zg L x.C x.M).2.1.Type_] VG false),NN (c:=c) h ho hC,?_,?_,N5 (x:=x) h hC⟩;.rw[instr_field YA,hD];unfold DB On;rw[qf (show x.Op≠38 by omega),qf (show x.Op≠39 by omega),qf (show x.Op≠40 by omega),qt h4];simp only[Q5,Ju,YG,YF];rw[UE h.made (LK hT) h.shS,Z7 [78] [84]];rfl
  rw[e];exact Gh λ_=>by show((Xp L [84] [(Zg L x.C x.M).2.1.Type_] VG false).1.length:Int)<=mt.Stack;omega
theorem instr_call(ho:42<=x.Op/\x.Op<=45):zq L c mt VH VG b x=(IM L c mt VH VG b x).bind λv=>some (VH,v.1,v.2):=by unfold zq;rw[cf YA,cf YA,qf (show x.Op≠20 by omega),cf YA,ct ho];rfl
def HW(t:Tx)(p:Vs×Bool):Vs×Bool:=cond (!(t==[86])) (p.1++[t],p.2) p
def K8(L:Vr)(c:Tx)(x:zp)(s:Tx)(p:Vs×Bool):Vs×Bool:=
 cond ((x.Op==43)||(x.Op==45)) (Xp L [84] [x.C] p.1 p.2)
  (cond (x.Op==44) ((Xj [84] p.1 p.2).2.1,(Xj [84] p.1 p.2).2.2||!(Zl L (Xj [84] p.1 p.2).1 x.C&&(Zl L (Xj [84] p.1 p.2).1 c&&(Xh L c).any (λy=>s==y)))) p)
def Gs(L:Vr)(c:Tx)(VG:Vs)(b:Bool)(x:zp)(s:Tx)(f:zb)(ok:Bool):Vs×Bool:=HW f.Ret (K8 L c x s (Xp L [84] f.Params.reverse VG (b||!(ok&&(f.Static==(x.Op==(42:Int)))))))
theorem vz(c:Tx)(x:zp)(s:Tx)(p:Vs×Bool):(K8 L c x s p).1<+:p.1:=by
 unfold K8
 cases(x.Op==43)||(x.Op==45)with
 |true=>exact UZ _ _ _ _ _
 |false =>
  cases x.Op==44 with
  |true=>exact GA _ _ _
  |false=>exact QX _
theorem Sj{s:Tx}(h:p.2=true):(K8 L c x s p).2=true:=by
 unfold K8
 cases(x.Op==43)||(x.Op==45)with
 |true=>exact ZL _ _ _ h
 |false =>
  cases x.Op==44 with
  |true=>show((Xj [84] p.1 p.2).2.2||_)=true;rw[GB h];rfl
  |false=>exact h
theorem zCX(h:XW l L m mt VH VG b){s:Tx}(hR:f.Ret.length<=25)(hM:ok=true->Ui f.Ret=true):Zh VH VG b (VH,Gs L c VG b x s f ok):=by
 have hp:=(vz (L:=L) c x s (Xp L [84] f.Params.reverse VG (b||!(ok&&(f.Static==(x.Op==(42:Int))))))).trans (UZ _ _ _ _ _);have hb:b=true->(K8 L c x s (Xp L [84] f.Params.reverse VG (b||!(ok&&(f.Static==(x.Op==(42:Int))))))).2=true:=λe=>Sj (ZL _ _ _ (by rw[e];rfl));unfold Gs HW
 cases hv:f.Ret==[86]with
 |true=>exact Gi hb h.shL h.shS hp
 |false =>
  refine UF hb h.shL h.shS hp hR λe=>.inr ?_
  have:ok=true:=by
   cases ok with
   |true=>rfl
   |false =>
    rw[Sj (ZL _ _ _ YC)]at e;cases e
  have hr:=hM this;unfold Ui at hr;rw[hv]at hr;exact Nb (by simpa using hr) hR
theorem yP(h1:∀s∈f.Params,Xr s=true)(h2:f.Params.length<=6):Li f.Params:=⟨YA,λs hs=>KK (h1 s hs)⟩
theorem CX(hs:s.length<=1000):WQ L m c mt VH f s e=some (HW f.Ret (s,e)):=by unfold WQ HW;rw[Z9 hs];cases f.Ret==[86]<;>rfl
theorem yS(h:XW l L m mt VH VG b)(ho:42<=x.Op/\x.Op<=45)(hC:x.C.length<=25)(hc:c.length<=25){s:Tx}(h1:∀s∈f.Params,Xr s=true)(h2:f.Params.length<=6):Ot L m c mt VH VG b x s f ok=some (Gs L c VG b x s f ok):=by
 have h26:=Z4 h.made c;unfold Ot Gs;rw[Up h.made h.map (yP h1 h2) h.shS];simp only[Qa]
 generalize hq:Xp L [84] f.Params.reverse VG (b||!(ok&&(f.Static==(x.Op==(42:Int)))))=q
 have hs:Li q.1:=by rw[<-hq];exact Uq YB _ _ _ h.shS
 obtain⟨g1,g2⟩:=ZR (b:=q.2) hs (e:=[84]) YB
 have hT:∀v:Bool,v=true->Os L m c mt VH x s f q v=some (HW f.Ret (Xp L [84] [x.C] q.1 q.2)):=λv hv=>by
  unfold Os;rw[hv];simp only[YF];rw[Up h.made h.map (LK hC) hs];simp only[Qa,QA];rw[CX (Uq YB _ _ _ hs).len]
 have ho4:x.Op=42\/x.Op=43\/x.Op=44\/x.Op=45:=YA
 unfold K8
 rcases ho4 with h4|h4|h4|h4
 .rw[qf (show x.Op≠43 by omega),qf (show x.Op≠45 by omega),qf (show x.Op≠44 by omega)];simp only[YG,Q5];unfold Os;rw[qf (show x.Op≠44 by omega)];simp only[YG];exact CX hs.len
 .rw[qt h4];simp only[YF,Bool.true_or];exact hT _ rfl
 .rw[qf (show x.Op≠43 by omega),qf (show x.Op≠45 by omega),qt h4];simp only[YG,Q5,YF];unfold Os;rw[qt h4];simp only[YG,YF];rw[Ht hs.len];simp only[Qa];rw[Ss h.made h.map g1 hC,Ss h.made h.map g1 hc,Dj h.made h.map];simp only[Qa];rw[Sr YA];simp only[Qa];rw[CX g2.len,CX g2.len];cases Zl L (Xj [84] q.1 q.2).1 x.C<;>cases Zl L (Xj [84] q.1 q.2).1 c<;>rfl
 rw[qf (show x.Op≠43 by omega),qt h4];simp only[YG,YF,Ju];exact hT _ rfl
theorem zG2(T:Vs)(s:Tx):(T.any λy=>s==y)=T.any λy=>y==s:=by congr 1;funext y;rw[QJ,YN,YN];exact eq_comm
theorem tK(h:XW l L m mt VH VG false)(ho:42<=x.Op/\x.Op<=45)(hC:x.C.length<=25)(hc:c.length<=25){s:Tx}(h1:∀s∈f.Params,Xr s=true)(h2:f.Params.length<=6):DA L c mt VH VG false x f s true=WR L c mt VH f (K8 L c x s (Xp L [84] f.Params.reverse VG false)).1 (K8 L c x s (Xp L [84] f.Params.reverse VG false)).2:=by
 have h26:=Z4 h.made c;unfold DA;simp only[Qo,Q5,YG];rw[UE h.made (yP h1 h2) h.shS,Z7 [78] [84]];simp only[Qa];generalize hq:Xp L [84] f.Params.reverse VG false=q
 have hs:Li q.1:=by rw[<-hq];exact Uq YB _ _ _ h.shS
 obtain⟨g1,g2⟩:=ZR (b:=q.2) hs (e:=[78]) YB
 have ho4:x.Op=42\/x.Op=43\/x.Op=44\/x.Op=45:=YA
 unfold K8;rw[G2 hs.len];simp only[Qa];rw[EG h.made g1 hC,EG h.made g1 hc,HN h.made];simp only[Qa];rw[SU YA];simp only[Qa]
 rcases ho4 with h4|h4|h4|h4
 .rw[qt h4,qf (show x.Op≠43 by omega),qf (show x.Op≠45 by omega),qf (show x.Op≠44 by omega)];rfl
 .rw[qt h4,qf (show x.Op≠42 by omega),qf (show x.Op≠44 by omega),Z7 [84] [78]];rfl
 .rw[qt h4,qf (show x.Op≠42 by omega),qf (show x.Op≠43 by omega),qf (show x.Op≠45 by omega)];simp only[QI,YF,YG,Q5];have e2:=Gd [84] [78] q.1 q.2;rw[zG2,e2]
  have e3:((Xj [78] q.1 q.2).2.2||!(Zl L (Xj [84] q.1 q.2).1 x.C&&(Zl L (Xj [84] q.1 q.2).1 c&&(Xh L c).any (λy=>y==s))))=((Xj [78] q.1 q.2).2.2||!(Zl L (Xj [78] q.1 q.2).1 x.C&&(Zl L (Xj [78] q.1 q.2).1 c&&(Xh L c).any (λy=>y==s)))):=
   NM λe=>by rw[G7 [78] [84] q.1 q.2 e]
  rw[e3];cases Zl L (Xj [78] q.1 q.2).1 x.C<;>cases Zl L (Xj [78] q.1 q.2).1 c<;>cases(Xh L c).any (λy=>y==s)<;>simp
 rw[qt h4,qf (show x.Op≠42 by omega),qf (show x.Op≠43 by omega),qf (show x.Op≠44 by omega),Z7 [84] [78]];rfl
theorem vQ(h:XW l L m mt VH VG b)(ho:42<=x.Op/\x.Op<=45)(hC:x.C.length<=25)(hc:c.length<=25){s:Tx}(h1:∀s∈f.Params,Xr s=true)(h2:f.Params.length<=6)(h3:f.Ret.length<=25)(h4:ok=true->Ui f.Ret=true)(hP:WG L m c mt VH VG b x=Ot L m c mt VH VG b x s f ok)(hD:IM L c mt VH VG b x=DA L c mt VH VG b x f s (ok&&(f.Static==(x.Op==(42:Int))))):∃p r,zj L m c mt VH VG b x=some p/\zq L c mt VH VG b x=some r/\ZE mt.Stack p r/\Zh VH VG b p:=by
 have hO:zj L m c mt VH VG b x=some (VH,Gs L c VG b x s f ok):=by
  rw[vx ho,hP,yS h ho hC hc h1 h2];rfl
 have hK:=zCX (c:=c) (x:=x) (s:=s) h h3 h4
 cases hb:(b||!(ok&&(f.Static==(x.Op==(42:Int)))))with
 |true =>
  refine⟨_,(VH,VG,true),hO,?_,KQ ?_ rfl,hK⟩;.rw[instr_call ho,hD];unfold DA;rw[hb];rfl
  .show(Gs L c VG b x s f ok).2=true;have:(K8 L c x s (Xp L [84] f.Params.reverse VG (b||!(ok&&(f.Static==(x.Op==(42:Int))))))).2=true:=Sj (ZL _ _ _ hb);unfold Gs HW;cases f.Ret==[86]<;>exact this
 |false =>
  have hb1:b=false:=by simp only[Qh]at hb;exact hb.1
  have FV:(ok&&(f.Static==(x.Op==(42:Int))))=true:=by simp only[Qh,QT]at hb;exact hb.2
  subst hb1;rw[FV,tK h ho hC hc h1 h2]at hD;have hl:=(vz (L:=L) c x s (Xp L [84] f.Params.reverse VG false)).length_le;have hl2:=D8 (L:=L) [84] f.Params.reverse VG false;have hr:=h.room;have FT:=h.shS.1
  have eK:Gs L c VG false x s f ok=HW f.Ret (K8 L c x s (Xp L [84] f.Params.reverse VG false)):=by unfold Gs;rw[hb]
  generalize K8 L c x s (Xp L [84] f.Params.reverse VG false)=q at hD hl eK
  cases hv:f.Ret==[86]with
  |true =>
   refine⟨_,(VH,q.1,q.2),hO,?_,?_,hK⟩;.rw[instr_call ho,hD];unfold WR;rw[hv];rfl
   .rw[eK];unfold HW;rw[hv]
    exact Gh λ_=>YA
  |false =>
   rw[eK]at hO hK;unfold HW at hO hK;rw[hv]at hO hK;refine⟨_,_,hO,?_,UX _,hK⟩;rw[instr_call ho,hD];unfold WR;rw[hv];simp only[QI,YF];rw[Z8 YA];rfl
theorem zGd(h:XW l L m mt VH VG b)(ho:42<=x.Op/\x.Op<=45)(hC:x.C.length<=25)(hc:c.length<=25):∃p r,zj L m c mt VH VG b x=some p/\zq L c mt VH VG b x=some r/\ZE mt.Stack p r/\Zh VH VG b p:=by
 by_cases h5:x.Op=45
 .obtain⟨⟨k1,k2,k3,k4⟩,k5⟩:=yA h.made x.C x.M;refine vQ (s:=(Ux L x.C x.M).1) (f:=(Ux L x.C x.M).2.1) (ok:=(Ux L x.C x.M).2.2) h ho hC hc k1 k2 k3 k4 ?_ ?_;.unfold WG;rw[Wc h.made h.map h.lens,qt h5,R4 h.made h.map h.lens];rfl
  unfold IM;rw[qt h5,uM h.made h.lens,qf (show x.Op≠42 by omega)];show DA L c mt VH VG b x _ _ _=_;congr 1
  cases hq:(Ux L x.C x.M).2.2 with
  |false=>rfl
  |true=>rw[k5 hq];rfl
 obtain⟨k1,k2,k3,k4⟩:=wo h.made ZY x.M (Xh L x.C);generalize hR:((Xh L x.C).findSome? (X4 L ZY x.M)).getD ([],zM,false)=R at k1 k2 k3 k4;refine vQ (s:=R.1) (f:=R.2.1) (ok:=R.2.2&&!R.2.1.Abstract) h ho hC hc k1 k2 k3 (λe=>k4 (by rw[Qd]at e;exact e.1)) ?_ ?_;.unfold WG;rw[Wc h.made h.map h.lens,qf h5,hR];rfl
 unfold IM;rw[qf h5,TC h.made h.lens,hR];show DA L c mt VH VG b x _ _ _=_;congr 1;cases R.2.2<;>cases R.2.1.Abstract<;>cases R.2.1.Static==(x.Op==(42:Int))<;>rfl
theorem instr_arrays(ho:49<=x.Op/\x.Op<=55):zq L c mt VH VG b x=(HR L c mt VH VG b x).bind λv=>some (VH,v.1,v.2):=by unfold zq;rw[cf YA,cf YA,qf (show x.Op≠20 by omega),cf YA,cf YA,ct ho];rfl
def Ug(C:Tx):Tx:=cond (Xr (91::C)) (91::C) []
theorem tG(h:Xr (91::C)=true):Xr C=true:=by
 have e:X3 (91::C)=C:=by rw[Dk,YK rfl]
 unfold Xr at h ⊢;rw[e]at h
 have hb:Lu (X3 C)=false:=by
  rw[Qv]at h
  rcases h with h|h
  .have:X3 C=[73]:=by simpa using h
   rw[this];rfl
  exact BA h
 rw[El hb];exact h
theorem T3(h:C.length<=1000):ED C=some (Ug C):=by
 unfold ED Ug
 have hl:Lf C:=by show C.length<=9223372036854775807;omega
 have hl2:Lf (91::C):=by show(91::C).length<=9223372036854775807;simp;omega
 rw[BD hl,Z3 (by simp;omega)];simp only[Qa,J2];rw[BD hl2]
 cases h1:Xr (91::C)with
 |true=>rw[tG h1];rfl
 |false=>cases Xr C<;>rfl
theorem kB(h:C.length<=1000):EC C=some (Ug C):=by
 unfold EC Ug
 have hl2:Lf (91::C):=by show(91::C).length<=9223372036854775807;simp;omega
 rw[Z3 (by simp;omega)];simp only[Qa,J2];rw[Dp hl2];cases Xr (91::C)<;>rfl
theorem yT(x:UInt8):((x.toNat:Int)==(91:Int))=(x==91):=by
 rw[QJ,YN,YN];constructor;.intro h;exact JS.1 (by simpa using(Yv.1 h))
 intro h;rw[h];rfl
theorem fZ{s:Tx}(h:Lf s):SK s=some (XK s):=by
 unfold SK XK;rw[Dp h]
 cases hm:Xr s with
 |false=>rfl
 |true =>
  cases s with
  |nil =>
   exfalso;unfold Xr at hm;rw[show X3 (X3 [])=[]from rfl]at hm;simp at hm;exact Ey hm rfl
  |cons x r =>
   simp only[Qa,Qo,YG,QD];rw[HC];simp only[Q3,Qa,yT];rw[show(1:Int)=((1:Nat):Int)from rfl,G5 YC];show cond (!(x==91)) _ _=some (cond (x==91) _ _);cases x==91<;>rfl
theorem wH(hs:Li VG):PV L c mt VH VG b=some (X2 [78] VG b):=by
 unfold PV X2;obtain⟨h1,h2⟩:=ZR (b:=b) hs (e:=[78]) YB;rw[G2 hs.len];simp only[Qa];rw[fZ (OM h1)]
 cases hq:(Xj [78] VG b).1==[78]with
 |true =>
  have e:(Xj [78] VG b).1=[78]:=by simpa using hq
  rw[e];simp
 |false=>rfl
def M4(t:Tx):Bool:=(t==[78])||(decide (1<(t.length:Int))&&Lu t)
theorem aS(t:Tx):((cond (t==[78]) (some true) ((cond (decide (1<(List.length t:Int))) ((idx t 0).bind λv16=>some ((v16.toNat:Int)==(91:Int))) (some false)).bind λv17=>some v17)):Option Bool)=some (M4 t):=by
 unfold M4
 cases t==[78]with
 |true=>rfl
 |false =>
  cases t with
  |nil=>rfl
  |cons x r =>
   rw[HC];simp only[Q3,Qa,yT];show((cond (decide (1<(List.length (x::r):Int))) (some (x==91)) (some false)).bind λv17=>some v17)=some (false||(decide (1<(List.length (x::r):Int))&&(x==91)));cases decide (1<(List.length (x::r):Int))<;>rfl
theorem sN{t:Tx}(h:Mr t):M4 t=((XK t).2||(t==[78])):=by
 rcases h with rfl|h
 .unfold M4;rw[YL];simp
 unfold M4 XK;rw[h]
 cases hb:Lu t with
 |false=>simp
 |true =>
  have h1:=(N0 h hb).1
  have h2:t.drop 1≠[]:=λe=>by
   rw[e]at h1;unfold Xr at h1;rw[show X3 (X3 [])=[]from rfl]at h1;simp at h1;exact Ey h1 rfl
  have h3:1<t.length:=by
   have:0<(t.drop 1).length:=List.length_pos_iff.2 h2;simp at this;omega
  rw[YH (show 1<(t.length:Int)by omega)];simp
def MG(L:Vr)(C:Tx):Bool:=Xr (91::C)&&Lk L (91::C)
theorem qJ(C:Tx)(T:Tx->Bool)(h:Xr (91::C)=true->T (91::C)=Lk L (91::C)):(cond (!(Ug C==[])) (some (T (Ug C))) (some false))=some (MG L C):=by
 unfold Ug MG
 cases hm:Xr (91::C)with
 |true =>
  rw[<-h hm];rfl
 |false=>rfl
theorem zGb(h:XW l L m mt VH VG b)(ho:x.Op=49\/x.Op=50\/x.Op=52\/x.Op=53)(hC:x.C.length<=10):∃p r,zj L m c mt VH VG b x=some p/\zq L c mt VH VG b x=some r/\ZE mt.Stack p r/\Zh VH VG b p:=by
 have hI:=UR.1
 have hA:([91,73]:Tx).length<=25:=YB
 have hr:=h.room
 rcases ho with h4|h4|h4|h4
 .refine⟨(VH,(Xp L [84] [[73]] VG b).1++[[91,73]],(Xp L [84] [[73]] VG b).2),_,?_,?_,UX _,UF (ZL _ _ _) h.shL h.shS (UZ _ _ _ _ _) hA λ_=>.inr ⟨hA,.inr (by decide +kernel)⟩⟩;.rw[Bw YA];unfold HV;rw[qt h4];simp only[YF];rw[Up h.made h.map (LK hI) h.shS];simp only[Qa,QA];rw[Z9 (Uq YB _ _ _ h.shS).len];rfl
  rw[instr_arrays YA];unfold HR;rw[qt h4];simp only[YF];rw[UE h.made (LK hI) h.shS,Z7 [78] [84]];simp only[Qa,QA];rw[Z8 (Uq YB _ _ _ h.shS).len];rfl
 .have hT:(Ug x.C).length<=25:=by
   unfold Ug;cases Xr (91::x.C);.exact Qk _
   show(91::x.C).length<=25;simp;omega
  refine⟨(VH,(Xp L [84] [[73]] VG (b||!MG L x.C)).1++[Ug x.C],(Xp L [84] [[73]] VG (b||!MG L x.C)).2),_,?_,?_,UX _,UF (λe=>ZL _ _ _ (by rw[e];rfl)) h.shL h.shS (UZ _ _ _ _ _) hT λe=>.inr ?_⟩;.rw[Bw YA];unfold HV;rw[qf (show x.Op≠49 by omega),qt h4];simp only[YF,YG];rw[T3 YA];simp only[Qa];rw[Bg h.made h.map hT];simp only[Qa];rw[qJ x.C (Uc L) λhm=>xz hm];simp only[Qa];rw[Up h.made h.map (LK hI) h.shS];simp only[Qa,QA];rw[Z9 (Uq YB _ _ _ h.shS).len];rfl
  .rw[instr_arrays YA];unfold HR;rw[qf (show x.Op≠49 by omega),qt h4];simp only[YF,YG];rw[kB YA];simp only[Qa];rw[KX h.made YA];simp only[Qa];rw[qJ x.C (Lk L) λhm=>rfl];simp only[Qa];rw[UE h.made (LK hI) h.shS,Z7 [78] [84]];simp only[Qa,QA];rw[Z8 (Uq YB _ _ _ h.shS).len];rfl
  have hth:MG L x.C=true:=by
   cases hq:MG L x.C with
   |true=>rfl
   |false=>rw[hq,ZL _ _ _ YC]at e;cases e
  unfold MG at hth;rw[Qd]at hth;unfold Ug at hT ⊢;rw[hth.1]at hT ⊢;exact Nb hth.1 hT
 .refine⟨(VH,(Xp L [84] [[73],[91,73]] VG b).1++[[73]],(Xp L [84] [[73],[91,73]] VG b).2),_,?_,?_,UX _,UF (ZL _ _ _) h.shL h.shS (UZ _ _ _ _ _) hI λ_=>.inr UR⟩;.rw[Bw YA];unfold HV;rw[qf (show x.Op≠49 by omega),qf (show x.Op≠50 by omega),qf (show x.Op≠51 by omega),qt h4];simp only[YF,YG];rw[Up h.made h.map (MJ hA hI) h.shS];simp only[Qa];rw[show([[91,73],[73]]:Vs).reverse=[[73],[91,73]]from rfl,Z9 (Uq YB _ _ _ h.shS).len];rfl
  rw[instr_arrays YA];unfold HR;rw[qf (show x.Op≠49 by omega),qf (show x.Op≠50 by omega),qf (show x.Op≠51 by omega),qt h4];simp only[YF,YG];rw[UE h.made (MJ hA hI) h.shS,Z7 [78] [84]];simp only[Qa];rw[show([[91,73],[73]]:Vs).reverse=[[73],[91,73]]from rfl,Z8 (Uq YB _ _ _ h.shS).len];rfl
 have hl:=D8 (L:=L) [84] [[73],[73],[91,73]] VG b;refine⟨(VH,Xp L [84] [[73],[73],[91,73]] VG b),(VH,Xp L [84] [[73],[73],[91,73]] VG b),?_,?_,Gh λ_=>by show((Xp L [84] [[73],[73],[91,73]] VG b).1.length:Int)<=mt.Stack;omega,uq id h.shL h.shS⟩;.rw[Bw YA];unfold HV;rw[qf (show x.Op≠49 by omega),qf (show x.Op≠50 by omega),qf (show x.Op≠51 by omega),qf (show x.Op≠52 by omega),qt h4];simp only[YF,YG];rw[Up h.made h.map (fJ hA hI hI) h.shS];rfl
 rw[instr_arrays YA];unfold HR;rw[qf (show x.Op≠49 by omega),qf (show x.Op≠50 by omega),qf (show x.Op≠51 by omega),qf (show x.Op≠52 by omega),qt h4];simp only[YF,YG];rw[UE h.made (fJ hA hI hI) h.shS,Z7 [78] [84]];rfl
theorem ai(e:Tx)(s:Vs)(b:Bool):(X2 e s b).2.1.length<=s.length:=NL e s b
theorem ah(hs:∀t∈s,Mr t)(hl:∀t∈s,t.length<=25)(h:(X2 [84] s b).2.2=false):DQ (X2 [84] s b).1:=by
 unfold X2 at h ⊢;simp only[Qh,QT]at h;have Fm:=D6 h.1;generalize (Xj [84] s b).1=t at h Fm;have h1:=hl t Fm;simp only
 cases hq:t==[78]with
 |true =>
  have e:t=[78]:=by simpa using hq
  rw[e];exact CS
 |false =>
  rw[hq]at h;simp only[QR,Qd]at h;have h2:=h.2.1;unfold XK at h2 ⊢
  cases hb:Xr t&&Lu t with
  |false=>rw[hb]at h2;cases h2
  |true =>
   rw[Qd]at hb;refine Nb (N0 hb.1 hb.2).1 ?_;show(t.drop 1).length<=25;simp;omega
theorem zGc(h:XW l L m mt VH VG b)(ho:x.Op=51\/x.Op=54\/x.Op=55):∃p r,zj L m c mt VH VG b x=some p/\zq L c mt VH VG b x=some r/\ZE mt.Stack p r/\Zh VH VG b p:=by
 have hI:=UR.1;have hr:=h.room
 rcases ho with h4|h4|h4
 .obtain⟨g1,g2⟩:=ZR (b:=b) h.shS (e:=[84]) YB;obtain⟨k1,k2⟩:=ZR (b:=b) h.shS (e:=[78]) YB
  have hb:((Xj [78] VG b).2.2||!M4 (Xj [78] VG b).1)=((Xj [84] VG b).2.2||!((XK (Xj [84] VG b).1).2||((Xj [84] VG b).1==[78]))):=by
   have e2:=Gd [78] [84] VG b;rw[e2];refine NM λe=>?_;rw[<-G7 [84] [78] VG b e,sN (h.on _ (D6 e))]
  refine⟨(VH,(Xj [84] VG b).2.1++[[73]],(Xj [84] VG b).2.2||!((XK (Xj [84] VG b).1).2||((Xj [84] VG b).1==[78]))),_,?_,?_,UX _,UF (λe=>by rw[GB e];rfl) h.shL h.shS (GA _ _ _) hI λ_=>.inr UR⟩;.rw[Bw YA];unfold HV;rw[qf (show x.Op≠49 by omega),qf (show x.Op≠50 by omega),qt h4];simp only[YF,YG];rw[Ht h.shS.len];simp only[Qa];rw[Wn (OM g1)];simp only[Qa];rw[Z9 g2.len];rfl
  rw[instr_arrays YA];unfold HR;rw[qf (show x.Op≠49 by omega),qf (show x.Op≠50 by omega),qt h4];simp only[YF,YG];rw[G2 h.shS.len];simp only[Qa];rw[aS];simp only[Qa];rw[Z8 k2.len,hb,Gd [78] [84]];rfl
 .have hT:=Uq (L:=L) (e:=[84]) YB [[73]] VG b h.shS;have hP:=UZ L [84] [[73]] VG b;have hB:b=true->(Xp L [84] [[73]] VG b).2=true:=ZL _ _ _;have hOn:∀t∈(Xp L [84] [[73]] VG b).1,Mr t:=λt ht=>h.on t (hP.subset ht)
  have hO:zj L m c mt VH VG b x=some (VH,(X2 [84] (Xp L [84] [[73]] VG b).1 (Xp L [84] [[73]] VG b).2).2.1++[(X2 [84] (Xp L [84] [[73]] VG b).1 (Xp L [84] [[73]] VG b).2).1],(X2 [84] (Xp L [84] [[73]] VG b).1 (Xp L [84] [[73]] VG b).2).2.2):=by
   rw[Bw YA];unfold HV;rw[qf (show x.Op≠49 by omega),qf (show x.Op≠50 by omega),qf (show x.Op≠51 by omega),qf (show x.Op≠52 by omega),qf (show x.Op≠53 by omega),qt h4];simp only[YF,YG];rw[Up h.made h.map (LK hI) h.shS];simp only[Qa,QA];rw[vU hT];simp only[Qa];rw[Z9 (wi hT YB).2.len];rfl
  have hD:zq L c mt VH VG b x=some (VH,(ZI mt.Stack (X2 [78] (Xp L [84] [[73]] VG b).1 (Xp L [84] [[73]] VG b).2).2.1 (X2 [78] (Xp L [84] [[73]] VG b).1 (Xp L [84] [[73]] VG b).2).2.2 (X2 [78] (Xp L [84] [[73]] VG b).1 (Xp L [84] [[73]] VG b).2).1).1,(ZI mt.Stack (X2 [78] (Xp L [84] [[73]] VG b).1 (Xp L [84] [[73]] VG b).2).2.1 (X2 [78] (Xp L [84] [[73]] VG b).1 (Xp L [84] [[73]] VG b).2).2.2 (X2 [78] (Xp L [84] [[73]] VG b).1 (Xp L [84] [[73]] VG b).2).1).2):=by
   rw[instr_arrays YA];unfold HR;rw[qf (show x.Op≠49 by omega),qf (show x.Op≠50 by omega),qf (show x.Op≠51 by omega),qf (show x.Op≠52 by omega),qf (show x.Op≠53 by omega),qt h4];simp only[YF,YG];rw[UE h.made (LK hI) h.shS,Z7 [78] [84]];simp only[Qa,QA];rw[wH hT];simp only[Qa];rw[Z8 (wi hT YB).2.len];rfl
  generalize Xp L [84] [[73]] VG b=q at hT hP hB hOn hO hD
  have hK:Zh VH VG b (VH,(X2 [84] q.1 q.2).2.1++[(X2 [84] q.1 q.2).1],(X2 [84] q.1 q.2).2.2):=
   UF (λe=>vX (hB e)) h.shL h.shS ((vW _ _ _).trans hP) (wi hT YB).1 λe=>.inr (ah hOn hT.2 e)
  refine⟨_,_,hO,hD,?_,hK⟩;have e2:=qY [78] [84] q.1 q.2
  cases hb:(X2 [84] q.1 q.2).2.2 with
  |true=>exact KQ rfl (NX (by rw[e2];exact hb))
  |false =>
   rw[<-zCW [84] [78] q.1 q.2 hb,e2,hb];exact UX _
 have e2:=(SQ (b:=b) h.on).1;obtain⟨g1,g2⟩:=R3 (b:=b) h.shS (e:=[84]) YB;have hP0:=Bn [84] VG b;have hB0:b=true->(XB [84] VG b).2.2=true:=Ef;have hT:=Uq (L:=L) (e:=[84]) YB [[73]] (XB [84] VG b).2.1 (XB [84] VG b).2.2 g2;have hP:=(UZ L [84] [[73]] (XB [84] VG b).2.1 (XB [84] VG b).2.2).trans hP0;have hB:b=true->(Xp L [84] [[73]] (XB [84] VG b).2.1 (XB [84] VG b).2.2).2=true:=λe=>ZL _ _ _ (hB0 e)
 have hO:zj L m c mt VH VG b x=some (VH,(X2 [84] (Xp L [84] [[73]] (XB [84] VG b).2.1 (XB [84] VG b).2.2).1 (Xp L [84] [[73]] (XB [84] VG b).2.1 (XB [84] VG b).2.2).2).2.1,(X2 [84] (Xp L [84] [[73]] (XB [84] VG b).2.1 (XB [84] VG b).2.2).1 (Xp L [84] [[73]] (XB [84] VG b).2.1 (XB [84] VG b).2.2).2).2.2):=by
  rw[Bw YA];unfold HV;rw[qf (show x.Op≠49 by omega),qf (show x.Op≠50 by omega),qf (show x.Op≠51 by omega),qf (show x.Op≠52 by omega),qf (show x.Op≠53 by omega),qf (show x.Op≠54 by omega)];simp only[YF,YG];rw[O6 h.shS];simp only[Qa];rw[Up h.made h.map (LK hI) g2];simp only[Qa,QA];rw[vU hT];rfl
 have hD:zq L c mt VH VG b x=some (VH,(X2 [78] (Xp L [84] [[73]] (XB [84] VG b).2.1 (XB [84] VG b).2.2).1 (Xp L [84] [[73]] (XB [84] VG b).2.1 (XB [84] VG b).2.2).2).2.1,(X2 [78] (Xp L [84] [[73]] (XB [84] VG b).2.1 (XB [84] VG b).2.2).1 (Xp L [84] [[73]] (XB [84] VG b).2.1 (XB [84] VG b).2.2).2).2.2):=by
  rw[instr_arrays YA];unfold HR;rw[qf (show x.Op≠49 by omega),qf (show x.Op≠50 by omega),qf (show x.Op≠51 by omega),qf (show x.Op≠52 by omega),qf (show x.Op≠53 by omega),qf (show x.Op≠54 by omega),qt h4];simp only[YF,YG];rw[Bi h.shS];simp only[Qa];rw[e2,UE h.made (LK hI) g2,Z7 [78] [84]];simp only[Qa,QA];rw[wH hT];rfl
 rw[qY [78] [84]]at hD;have hl:=ai [84] (Xp L [84] [[73]] (XB [84] VG b).2.1 (XB [84] VG b).2.2).1 (Xp L [84] [[73]] (XB [84] VG b).2.1 (XB [84] VG b).2.2).2;have hl2:=hP.length_le;exact⟨_,_,hO,hD,Gh λ_=>YA,Gi (λe=>vX (hB e)) h.shL h.shS ((vW _ _ _).trans hP)⟩
theorem zFa(h:UT x=true):(1<=x.Op/\x.Op<=61)/\Dd x.Op x.A=true/\H5 x.Op x.C=true:=by unfold UT Bp Gj at h;simp only[Qd,YJ]at h;exact⟨h.1.1.1,h.1.1.2,h.1.2⟩
def qZ(L:Vr)(m:List (Tx×Int))(c:Tx)(mt:zb)(VH VG:Vs)(b:Bool)(x:zp):Prop:=∃p r,zj L m c mt VH VG b x=some p/\zq L c mt VH VG b x=some r/\ZE mt.Stack (p.1,p.2.1,cond (Ur x.Op) (p.2.2||!KI L mt p.1 p.2.1 x.A) p.2.2) r/\Zh VH VG b p
theorem td(hj:Ur x.Op=false)(h:∃p r,zj L m c mt VH VG b x=some p/\zq L c mt VH VG b x=some r/\ZE mt.Stack p r/\Zh VH VG b p):qZ L m c mt VH VG b x:=by obtain⟨p,r,h1,h2,h3,h4⟩:=h;exact⟨p,r,h1,h2,by rw[hj];exact h3,h4⟩
theorem vg(h:XW l L m mt VH VG b)(hk:X7 mt)(hm:UT x=true)(hc:c.length<=25):qZ L m c mt VH VG b x:=by
 obtain⟨hO,hA,hC⟩:=zFa hm;have h10:=M9 hm;by_cases hj:20<=x.Op/\x.Op<=36;.have e:Ur x.Op=true:=bt hj;obtain⟨p,r,h1,h2,h3,h4⟩:=zGf (c:=c) h hk hj;exact⟨p,r,h1,h2,by rw[e];exact h3,h4⟩
 have e:Ur x.Op=false:=bf hj;refine td e ?_;by_cases h1:x.Op=1\/x.Op=2;.exact zDR h h1
 by_cases h3:x.Op=3
 .have:0<=x.A:=by
   unfold Dd Gj at hA;rw[h3]at hA;simp at hA;omega
  exact zGg h h3 this
 by_cases h4:x.Op=4
 .have:0<=x.A:=by
   unfold Dd Gj at hA;rw[h4]at hA;simp at hA;omega
  exact zDT h h4 this
 by_cases h5:x.Op=5;.exact ck h h5
 by_cases h6:x.Op=6;.exact cp h h6
 by_cases h7:x.Op=7;.exact zGi h h7
 by_cases h8:8<=x.Op/\x.Op<=19;.exact zDQ h h8
 by_cases h9:x.Op=37;.exact co h h9 YA
 by_cases h11:38<=x.Op/\x.Op<=41;.exact zDS h h11 YA
 by_cases h12:42<=x.Op/\x.Op<=45;.exact zGd h h12 YA hc
 by_cases h13:x.Op=46\/x.Op=47;.exact cj h h13
 by_cases h14:x.Op=48;.exact zGa h h14 hk.ret (Bb hk.ret)
 by_cases h15:x.Op=49\/x.Op=50\/x.Op=52\/x.Op=53;.exact zGb h h15 h10
 by_cases h16:x.Op=51\/x.Op=54\/x.Op=55;.exact zGc h h16
 by_cases h17:x.Op=56\/x.Op=57
 .refine zGe h h17 ?_ YA
  have ht:GC x.Op=true:=by
   unfold GC
   rcases h17 with e|e<;>rw[e]<;>rfl
  unfold H5 at hC;rw[ht]at hC;simp only[YF]at hC;unfold Zu at hC;rw[Qd]at hC;exact hC.2
 by_cases h18:x.Op=58;.exact zDU h h18
 by_cases h19:x.Op=59;.exact tf h h19
 exact cm h YA
theorem zEN(n:Int):Di n=Gf n:=rfl
theorem b9(h:XW l L m mt VH VG false)(hk:X7 mt){p:Vs×Vs×Bool}(hp:Zh VH VG false p)(hb:p.2.2=false)(hr:(p.2.1.length:Int)<=mt.Stack):XW l L m mt p.1 p.2.1 false:=by
 obtain⟨_,⟨k1,k2,k3,k4⟩,k5⟩:=hp;obtain⟨k6,k7⟩:=k5 hb;have hs:=hk.stack.2;refine⟨h.made,h.map,h.lens,⟨by rw[k1];exact h.shL.1,k3⟩,⟨YA,k4⟩,λt ht=>?_,hr,λt ht=>?_⟩
 .rcases k6 t ht with e|e
  .exact h.on t e
  exact e.2
 rcases k7 t ht with e|e
 .exact h.onL t e
 exact .inr (h.on t e)
def K3(L:Vr)(m:List (Tx×Int))(c:Tx)(mt:zb)(z:Vs×Vs×Bool×Bool×Int):Option Bool:=(zk (λz=>U0 c (zu.mk L m) mt z.1 z.2.1 z.2.2.1 z.2.2.2.1 z.2.2.2.2) z).bind λo=>zE o (λb=>e8 b.1 b.2.1 b.2.2) some
def DK(L:Vr)(c:Tx)(mt:zb)(z:Vs×Vs×Bool×Bool×Int):Option Bool:=(zk (λz=>HS c (zG.mk L) mt z.1 z.2.1 z.2.2.1 z.2.2.2.1 z.2.2.2.2) z).bind λo=>zE o (λb=>iU b.1 b.2.1 b.2.2.1 b.2.2.2) some
theorem bj{g g':Bool}{i i':Int}{FY FX:Vs}(h:U0 c (zu.mk L m) mt VH VG b g i=some (.inl (FY,FX,b',g',i'))):K3 L m c mt (VH,VG,b,g,i)=K3 L m c mt (FY,FX,b',g',i'):=by unfold K3;rw[zH];show((U0 c (zu.mk L m) mt VH VG b g i).bind _).bind _=_;rw[h];rfl
theorem ug{g:Bool}{i:Int}{v:Bool}(h:U0 c (zu.mk L m) mt VH VG b g i=some (.inr (.inr v))):K3 L m c mt (VH,VG,b,g,i)=some v:=by unfold K3;rw[zH];show((U0 c (zu.mk L m) mt VH VG b g i).bind _).bind _=_;rw[h];rfl
theorem bk{g:Bool}{i:Int}(h:U0 c (zu.mk L m) mt VH VG b g i=some (.inr (.inl (VH,VG,b)))):K3 L m c mt (VH,VG,b,g,i)=some (!b):=by unfold K3;rw[zH];show((U0 c (zu.mk L m) mt VH VG b g i).bind _).bind _=_;rw[h];rfl
theorem zF5{g g':Bool}{i i':Int}{FY FX:Vs}(h:HS c (zG.mk L) mt VH VG b g i=some (.inl (FY,FX,b',g',i'))):DK L c mt (VH,VG,b,g,i)=DK L c mt (FY,FX,b',g',i'):=by unfold DK;rw[zH];show((HS c (zG.mk L) mt VH VG b g i).bind _).bind _=_;rw[h];rfl
theorem bm{g:Bool}{i:Int}(h:HS c (zG.mk L) mt VH VG b g i=some (.inr (.inl (VH,VG,b,g)))):DK L c mt (VH,VG,b,g,i)=some (!b&&!g):=by unfold DK;rw[zH];show((HS c (zG.mk L) mt VH VG b g i).bind _).bind _=_;rw[h];rfl
theorem Sx(h:Xf l L)(hm:Xq L m)(hk:X7 mt)(hl:Li VH)(hs:Li VG){g:Bool}{i:Nat}(hi:i<=mt.Code.length):K3 L m c mt (VH,VG,true,g,(i:Int))=some false:=by
 by_cases hlt:i<mt.Code.length;.apply ug;unfold U0;have hx:mt.Code[i]?=some mt.Code[i]:=Qe hlt;rw[Xl hx,zo,hx];simp only[YF,Qa];rw[wh h hm hk hl hs];rfl
 apply bk;unfold U0;rw[YI YA];rfl
theorem xB{g:Bool}{i:Int}:DK L c mt (VH,VG,true,g,i)=some false:=by apply bm;unfold HS;rw[Qo,Jf];rfl
theorem aJ(h:Xf l L)(hk:X7 mt)(hl:Li VH)(hs:Li VG){g:Bool}{i:Nat}(hx:mt.Code[i]?=some x):HS c (zG.mk L) mt VH VG false g (i:Int)=(WI L c mt (Zp L mt VH VG i g).1 (Zp L mt VH VG i g).2.1 (Zp L mt VH VG i g).2.2 (i:Int)).bind λv98 => (zq L c mt (Zp L mt VH VG i g).1 (Zp L mt VH VG i g).2.1 v98 x).bind λv100=>some (.inl (v100.1,v100.2.1,v100.2.2,(!(Di x.Op)),(i64.wrap ((i:Int)+1)))):=by
 unfold HS;rw[Xl hx];simp only[QI,Ys,YF];rw[xQ hk];unfold RC Zp
 have key:∀(v:zZ×Bool) (b:Bool) (p q:Vs),Ax c (zG.mk L) mt g (i:Int) v b p q =
   (WI L c mt p q (b||!(v.2||g)) (i:Int)).bind λv98=>(zq L c mt p q v98 x).bind λv100=>some (.inl (v100.1,v100.2.1,v100.2.2,(!(Di x.Op)),(i64.wrap ((i:Int)+1)))):=λv b p q=>by
  unfold Ax;rw[zo,hx];rfl
 cases hf:Ga mt (i:Int)with
 |none =>
  simp only[Qa,Jm,YG];unfold P5;simp only[YG];rw[key];simp
 |some y =>
  have hy:=W9 hk hf;simp only[Qa,QD]
  have key2:∀b:Bool,P5 c (zG.mk L) mt VH VG g (i:Int) (y,true) b=(WI L c mt y.Locals y.Stack b (i:Int)).bind λv98=>(zq L c mt y.Locals y.Stack v98 x).bind λv100=>some (.inl (v100.1,v100.2.1,v100.2.2,(!(Di x.Op)),(i64.wrap ((i:Int)+1)))):=λb=>by
   unfold P5;simp only[YF];rw[va (hy.shl hk).len (hy.shs hk).len];simp only[Qa];rw[key];simp
  rw[d5 h hk hl hs]
  cases g with
  |true=>simp only[YF,Qa,QR,QD];exact key2 _
  |false=>simp only[YG,Jm];exact key2 _
theorem zH9(hk:X7 mt)(hc:c.length<=25):∀(d i:Nat) (VH VG:Vs) (g:Bool),d+i=mt.Code.length->XW l L m mt VH VG false->(d=0->g=false)->∃v,K3 L m c mt (VH,VG,false,g,(i:Int))=some v/\DK L c mt (VH,VG,false,g,(i:Int))=some v:=by
 intro d
 induction d with
 |zero =>
  intro i VH VG g hd h hg;have hg:=hg rfl;subst hg;refine⟨true,?_,?_⟩;.apply bk;unfold U0;rw[YI YA];rfl
  .apply bm;unfold HS;rw[YI YA];rfl
 |succ d ih =>
  intro i VH VG g hd h hg
  have hlt:i<mt.Code.length:=YA
  have hx:mt.Code[i]?=some mt.Code[i]:=Qe hlt;have hxm:=hk.ins _ (Qj hlt);have h100:=hk.code.2;generalize mt.Code[i]=x at hx hxm;have hw:i64.wrap ((i:Int)+1)=((i+1:Nat):Int):=zz YA;have hE:∀b,XW l L m mt (Zp L mt VH VG i g).1 (Zp L mt VH VG i g).2.1 b:=λb=>oz h hk;have hD:=aJ (c:=c) h.made hk h.shL h.shS (g:=g) hx
  have hP:U0 c (zu.mk L m) mt VH VG false g (i:Int)=cond (Zp L mt VH VG i g).2.2 (some (.inr (.inr false))) ((MT L m c mt (Zp L mt VH VG i g).1 (Zp L mt VH VG i g).2.1 (Zp L mt VH VG i g).2.2 (i:Int)).bind λv51=>(zj L m c mt (Zp L mt VH VG i g).1 (Zp L mt VH VG i g).2.1 v51 x).bind λv52=>cond (Ur x.Op) ((Ob L m c mt v52.1 v52.2.1 v52.2.2 x.A).bind λv53=>Dx mt (i:Int) x v52 v53) (Dx mt (i:Int) x v52 v52.2.2)):=by
   unfold U0;rw[Xl hx,zo,hx];simp only[YF,Qa];rw[wh h.made h.map hk h.shL h.shS];rfl
  generalize Zp L mt VH VG i g=E at hE hD hP;obtain⟨p,r,s1,s2,s3,s4⟩:=vg (c:=c) (hE (E.2.2||mt.Traps.any (KF L mt E.1 i))) hk hxm hc;rw[tT h.made hk (hE false).shL]at hD;simp only[Qa]at hD;rw[s2]at hD;simp only[Qa]at hD;rw[hw,zEN]at hD;have hDn:=zF5 hD
  cases hb:E.2.2 with
  |true =>
   rw[hb]at hP s4;refine⟨false,ug hP,?_⟩;have hpb:p.2.2=true:=s4.1 rfl
   have hrb:r.2.2=true:=by
    rw[<-s3.1,hpb];cases Ur x.Op<;>rfl
   rw[hDn,hrb];exact xB
  |false =>
   rw[hb]at hP s1 s4;simp only[YG]at hP;rw[yk h.made h.map hk (hE false).shL]at hP;simp only[Qa]at hP;rw[s1]at hP;simp only[Qa]at hP;obtain⟨k0,⟨k1,k2,k3,k4⟩,k5⟩:=s4;have hroom:=(hE false).room;have Fk:=hk.stack.2;have hl1:Li p.1:=⟨by rw[k1];exact(hE false).shL.1,k3⟩;have hs1:Li p.2.1:=⟨YA,k4⟩;rw[d6 h.made h.map hk hl1 hs1]at hP
   have hP2:U0 c (zu.mk L m) mt VH VG false g (i:Int)=some (.inl (p.1,p.2.1,r.2.2,!Gf x.Op,((i+1:Nat):Int))):=by
    rw[hP,<-s3.1,<-hw];unfold Dx;cases Ur x.Op<;>rfl
   have hPn:=bj hP2;rw[hPn,hDn]
   cases hrb:r.2.2 with
   |true=>exact⟨false,Sx h.made h.map hk hl1 hs1 YA,xB⟩
   |false =>
    obtain⟨e1,e2⟩:=s3.2 hrb;simp only at e1 e2;rw[<-e1,<-e2];have hsum:=s3.1;rw[hrb]at hsum;simp only[Qh,QT,YJ]at hsum
    have hpb:p.2.2=false:=by
     have:=hsum.1
     cases hq:Ur x.Op with
     |true=>rw[hq]at this;simp only[YF,Qh]at this;exact this.1
     |false=>rw[hq]at this;exact this
    have hT:(false||mt.Traps.any (KF L mt E.1 i))=false:=by
     cases hq:(false||mt.Traps.any (KF L mt E.1 i))with
     |false=>rfl
     |true=>rw[hq]at k0;rw[k0 rfl]at hpb;cases hpb
    rw[hT]at k0;refine ih (i+1) p.1 p.2.1 (!Gf x.Op) YA (b9 (hE false) hk ⟨k0,⟨k1,k2,k3,k4⟩,k5⟩ hpb hsum.2) λh0=>?_;obtain⟨y,hy1,hy2⟩:=hk.last;rw[Js]at hy1
    have:mt.Code.length-1=i:=YA
    rw[this,hx]at hy1;cases hy1;rw[hy2];rfl
end
end Go.Proofs.YthmnlfenkhmmhaaGreat
