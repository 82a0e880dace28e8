/- CodeAll holds. Part 8 of 9. -/
import Derived.Test.YthmnlfenkhmmhaaGreatTx7
namespace Go.Proofs.YthmnlfenkhmmhaaGreat
noncomputable section
open List (length map)
open IntKind (i64)
open Go.Proofs.Tryz
set_option linter.unusedSimpArgs false
set_option linter.unusedSectionVars false
set_option linter.unusedVariables false
variable {α:Type}{m:List (Tx×Int)}{T:Vs}{L l:Vr}{r:List α}{i:Nat}{s:Tx}{c:za}{a b:zb}{q:zb->Bool}{x:zp}{ok:α->Bool}{nm:α->List UInt8}
theorem vv{R:Type}{n:Int}{body:Vs->Option (Sum (Vs) (Sum (Vs) R))}
  (hb:∀z:Vs,body z=cond (decide (((List.length z):Int)<n)) ((Xu 16 z ([[84]])).bind λv=>some (.inl v)) (some (.inr (.inl z)))):
  ∀(k:Nat) (z:Vs),((z.length+k:Nat):Int)=n->z.length+k<=1000->zk body z=some (.inl (z++List.replicate k [84]))
 |0,z,h,h2=>by
  rw[zH,hb,YI YA];simp
 |k+1,z,h,h2=>by
  rw[zH,hb,YH YA,XH (by simp;omega) (by simp;omega)];simp only[YF,Qa,JV];rw[vv hb k (z++[[84]]) (by simp;omega) (by simp;omega)];simp[List.replicate_succ]
section
variable {c:Tx} {f:zb} {b:Bool}
def Gb(L:Vr)(T:Vs):Bool:=T.any λt=>!Uc L t
theorem yv(h:Xf l L)(hm:Xq L m)(hT:Li T):EB T L m=some (!Gb L T):=by
 unfold EB Cu gU
 rw[show((zk (λz=>Cn T L m z) 0).bind λo=>zE o (λb=>jn) some)=_ from Zt (l:=T) (p:=λt=>!Uc L t) (by have:=hT.len;omega)
  (λi x hx=>by
   have hl:=hT.2 x (Qc hx);unfold Cn ki kT;rw[Xl hx,zo,hx];simp only[Qa,YF];rw[Bg h hm hl]
   rfl) (by unfold Cn;rw[Xm];rfl)]
 rw[Qa,ZK];rfl
theorem a7(h:Xf l L)(hm:Xq L m)(hT:Li T):Py T L m=some (!T.any λt=>!Lk L t):=by
 unfold Py Ct gT
 rw[show((zk (λz=>Cm T L m z) 0).bind λo=>zE o (λb=>jm) some)=_ from Zt (l:=T) (p:=λt=>!Lk L t) (by have:=hT.len;omega)
  (λi x hx=>by
   have hl:=hT.2 x (Qc hx);unfold Cm kR kS;rw[Xl hx,zo,hx];simp only[Qa,YF];rw[Ec h hm hl (OM hl),sub_self]
   rfl) (by unfold Cm;rw[Xm];rfl)]
 rw[Qa,ZK];rfl
def M7(c:Tx)(f:zb):Vs:=cond (!f.Static) [c] []++f.Params
def Ka(c:Tx)(f:zb):Vs:=M7 c f++List.replicate (f.Locals.toNat-(M7 c f).length) [84]
theorem wR(hk:X7 f):((M7 c f).length:Int)=Zx f:=by
 have h6:=hk.npar;unfold M7 Zx
 cases f.Static with
 |true=>simp
 |false =>
  rw[ZA YA YA];simp
theorem yg{R:Type}(hk:X7 f){body:Vs->Option (Sum (Vs) (Sum (Vs) R))} (hb:∀z:Vs,body z=cond (decide (((List.length z):Int)<f.Locals)) ((Xu 16 z ([[84]])).bind λv=>some (.inl v)) (some (.inr (.inl z)))):zk body (M7 c f)=some (.inl (Ka c f)):=by have h1:=wR (c:=c) hk;have h2:=hk.locs;exact vv hb _ _ YA YA
theorem zFe(hk:X7 f):((Ka c f).length:Int)=f.Locals:=by have h1:=wR (c:=c) hk;have h2:=hk.locs;unfold Ka;simp;omega
theorem wQ(hk:X7 f)(hc:Xr c=true):∀t∈Ka c f,t.length<=25/\(t=[84]\/Mr t):=by
 intro t ht;unfold Ka M7 at ht
 rcases Qp.1 ht with h|h
 .rcases Qp.1 h with h|h
  .have:t=c:=by
    cases hs:f.Static with
    |true=>rw[hs]at h;cases h
    |false=>rw[hs]at h;simpa using h
   rw[this];exact⟨KK hc,.inr (.inr hc)⟩
  have:=hk.params t h;exact⟨KK this,.inr (.inr this)⟩
 rw[(List.mem_replicate.1 h).2];exact⟨YB,.inl rfl⟩
theorem oE(h:Xf l L)(hm:Xq L m)(hL:XQ L)(hk:X7 f)(hc:Xr c=true):XW l L m f (Ka c f) [] false:=by have h1:=zFe (c:=c) hk;have h2:=hk.locs;have h3:=hk.stack;exact⟨h,hm,hL,⟨YA,λt ht=>(wQ hk hc t ht).1⟩,⟨Qk _,λt ht=>(List.not_mem_nil ht).elim⟩,λt ht=>(List.not_mem_nil ht).elim,by simp;omega,λt ht=>(wQ hk hc t ht).2⟩
def DR(L:Vr)(f:zb):Bool:=((f.Maps.any λx=>Gb L x.Locals||Gb L x.Stack)||!((f.Ret==[86])||Lk L f.Ret))||f.Params.any λt=>!Lk L t
theorem ac(hk:X7 f)(b:Bool):PU L c f [] [] b=some (Ka c f):=by
 have h6:=hk.npar;unfold PU
 have key:Rb f (cond (!f.Static) [c] [])=some (Ka c f):=by
  unfold Rb;rw[XH (by cases f.Static<;>simp<;>omega) (by cases f.Static<;>simp<;>omega)];simp only[Qa];rw[show zk (λz=>gH f z) (cond (!f.Static) [c] []++f.Params)=_ from yg (c:=c) hk (body:=λz=>gH f z) λz=>rfl];rfl
 cases hs:f.Static with
 |true=>rw[hs]at key;exact key
 |false =>
  rw[hs]at key;simp only[QI,YF]at key ⊢;rw[XH YC YC];exact key
theorem dT(hk:X7 f):Li f.Params:=⟨by have:=hk.npar;omega,λs hs=>KK (hk.params s hs)⟩
theorem fF(h:Xf l L)(hm:Xq L m)(hk:X7 f):((zk (λz=>BT (zu.mk L m) f z.1 z.2) (false,0)).bind λo=>zE o (λb=>kV c (zu.mk L m) f b) some)=K3 L m c f (Ka c f,[],DR L f,true,0):=by
 have h6:=hk.npar
 rw[Ek (body:=λz=>BT (zu.mk L m) f z.1 z.2) (l:=f.Maps) (p:=λx=>Gb L x.Locals||Gb L x.Stack) (by have:=hk.nmaps;omega) (λi x b hx=>by
  have hy:=hk.maps x (Qc hx);show BT (zu.mk L m) f b (i:Int)=_;unfold BT;rw[Xl hx,zo,hx];simp only[YF,Qa];rw[yv h hm (hy.shl hk),yv h hm (hy.shs hk)]
  cases Gb L x.Locals<;>cases Gb L x.Stack<;>rfl) (λb=>by
  show BT (zu.mk L m) f b (f.Maps.length:Int)=_;unfold BT
  rw[Xm];rfl)]
 simp only[Qa,zE]
 have j4:∀(b v:Bool),PE c (zu.mk L m) f b v (cond (!f.Static) [c] [])=K3 L m c f (Ka c f,[],b||!v,true,0):=λb v=>by
  unfold PE;rw[XH (by cases f.Static<;>simp<;>omega) (by cases f.Static<;>simp<;>omega)];simp only[Qa];rw[show zk (λz=>kU f z) (cond (!f.Static) [c] []++f.Params)=_ from yg (c:=c) hk (body:=λz=>kU f z) λz=>rfl];rfl
 have j3:∀b:Bool,PG c (zu.mk L m) f b=K3 L m c f (Ka c f,[],b||(f.Params.any λt=>!Lk L t),true,0):=λb=>by
  unfold PG;rw[a7 h hm (dT hk)];simp only[Qa];have:=j4 b (!f.Params.any λt=>!Lk L t);rw[Bool.not_not]at this;rw[<-this]
  cases hs:f.Static with
  |true=>rfl
  |false =>
   simp only[QI,YF];rw[XH YC YC];rfl
 unfold kV DR;have hr:=Bb hk.ret;rw[Ec h hm hr (OM hr),sub_self];simp only[Qa];rw[j3,j3];cases f.Ret==[86]<;>simp
theorem zHK(h:Xf l L)(hk:X7 f):((zk (λz=>Of (zG.mk L) f z.1 z.2) (false,0)).bind λo=>zE o (λb=>gt c (zG.mk L) f b) some)=DK L c f (Ka c f,[],DR L f,true,0):=by
 have h6:=hk.npar
 rw[Ek (body:=λz=>Of (zG.mk L) f z.1 z.2) (l:=f.Maps) (p:=λx=>Gb L x.Locals||Gb L x.Stack) (by have:=hk.nmaps;omega) (λi x b hx=>by
  have hy:=hk.maps x (Qc hx);have hl:=(hy.shl hk).1;have hs:=(hy.shs hk).1;show Of (zG.mk L) f b (i:Int)=_;unfold Of;rw[Xl hx,zo,hx];simp only[YF,Qa];rw[XH (by simp;omega) (by simp;omega)];simp only[Qa,Jo];rw[XH YA YA];simp only[Qa]
  rw[Ek (body:=λz=>IY (zG.mk L) (x.Locals++x.Stack) z.1 z.2) (l:=x.Locals++x.Stack) (p:=λt=>!Uc L t) (by simp;omega) (λj t b ht=>by
   have hm:=Qc ht
   have h25:t.length<=25:=by
    rcases Qp.1 hm with e|e
    .exact hy.loc25 t e
    exact hy.stk25 t e
   show IY (zG.mk L) (x.Locals++x.Stack) b (j:Int)=_;unfold IY;rw[Xl ht,zo,ht];simp only[YF,Qa];rw[KX h YA];unfold Uc
   cases t==[84]<;>cases t==[78]<;>cases Lk L t<;>rfl) (λb=>by
   show IY (zG.mk L) (x.Locals++x.Stack) b ((x.Locals++x.Stack).length:Int)=_;unfold IY
   rw[Xm];rfl)]
  rw[List.any_append]
  rfl) (λb=>by
  show Of (zG.mk L) f b (f.Maps.length:Int)=_;unfold Of
  rw[Xm];rfl)]
 simp only[Qa,zE];unfold gt
 rw[Ek (body:=λz=>IX (zG.mk L) f z.1 z.2) (l:=f.Params) (p:=λt=>!Lk L t) YA (λi t b ht=>by
  have h25:=(dT hk).2 t (Qc ht);show IX (zG.mk L) f b (i:Int)=_;unfold IX;rw[Xl ht,zo,ht];simp only[YF,Qa];rw[KX h YA]
  rfl) (λb=>by
  show IX (zG.mk L) f b (f.Params.length:Int)=_;unfold IX
  rw[Xm];rfl)]
 simp only[Qa,zE];unfold iJ;have hr:=Bb hk.ret;rw[KX h YA]
 have e:((cond (f.Ret==[86]) (some true) ((some (Lk L f.Ret)).bind λv69=>some v69)):Option Bool)=some ((f.Ret==[86])||Lk L f.Ret):=by cases f.Ret==[86]<;>rfl
 rw[e];simp only[Qa];rw[ac hk];simp only[Qa]
 have e2:(((false||f.Maps.any λx=>Gb L x.Locals||Gb L x.Stack)||f.Params.any λt=>!Lk L t)||!((f.Ret==[86])||Lk L f.Ret))=DR L f:=by
  unfold DR
  cases(f.Maps.any λx=>Gb L x.Locals||Gb L x.Stack)<;>cases(f.Params.any λt=>!Lk L t)<;>cases((f.Ret==[86])||Lk L f.Ret)<;>rfl
 rw[e2];rfl
theorem zG6(h:Xf l L)(hm:Xq L m)(hL:XQ L)(hk:X7 f)(hc:Xr c=true):∃v,K3 L m c f (Ka c f,[],DR L f,true,0)=some v/\DK L c f (Ka c f,[],DR L f,true,0)=some v:=by
 have hA:=oE h hm hL hk hc
 cases DR L f with
 |true=>exact⟨false,Sx (i:=0) h hm hk hA.shL hA.shS (Qk _),xB⟩
 |false=>exact zH9 hk (KK hc) f.Code.length 0 (Ka c f) [] true YA hA λe=>by have:=hk.code.1;omega
theorem zGD(h:Xf l L)(hm:Xq L m)(hL:XQ L)(c:Tx)(k:Int):∃v,KV (some (zu.mk L m)) c k=some v/\kZ (some (zG.mk L)) c k=some v:=by
 have h26:=h.len;unfold KV kZ;simp only[ZG];rw[Us hm,Zc YA];simp only[Qa];rw[Gy]
 cases hc:cl L c with
 |none =>
  rw[Db hc];exact⟨false,rfl,rfl⟩
 |some x =>
  rw[ZC hc,Kp,hc];simp only[Qa,Qo,QR];by_cases h0:k<0;.rw[YH h0];exact⟨false,rfl,rfl⟩
  rw[YI h0];simp only[QR,YG];by_cases h1:(x.Methods.length:Int)<=k;.rw[YH h1];exact⟨false,rfl,rfl⟩
  rw[YI h1];obtain⟨n,rfl⟩:∃n:Nat,k=(n:Int):=⟨k.toNat,YA⟩
  have hn:n<x.Methods.length:=YA
  have hf:x.Methods[n]?=some x.Methods[n]:=Qe hn;have hfm:=Qj hn;generalize x.Methods[n]=f at hf hfm;rw[zo,hf];simp only[Qa,YG]
  cases ha:f.Abstract with
  |true=>exact⟨false,rfl,rfl⟩
  |false =>
   have hk:=dy (O8 h (XG hc).1 hfm) ha;have hcm:=Wh (Dm h (ZC hc));simp only[YG];rw[fF h hm hk,zHK h hk];exact zG6 h hm hL hk hcm
end
theorem r5{w:Nat}{a b:List α}(h:a.length+b.length<=1000)(hw:w<=1000):Xu w a b=some (a++b):=XH (QK (Nat.mul_le_mul h hw) YB) YA
def Zi(L:Vr)(t:Tx):Bool:=(!(t==[86])&&!(t==[]))&&!Uc L t
theorem NT(h:Xf l L)(hm:Xq L m){t:Tx}(ht:t.length<=25):Wy t L m=some (Zi L t):=by unfold Wy Zi;rw[Bg h hm ht];cases(!(t==[86])&&!(t==[]))<;>rfl
def W7(L:Vr)(x:zp):Bool:=
 cond ((((x.Op==38)||(x.Op==39))||(x.Op==40))||(x.Op==41)) (Zg L x.C x.M).2.2
  (cond (((x.Op==42)||(x.Op==43))||(x.Op==44)) ((((Xh L x.C).findSome? (X4 L ZY x.M)).getD ([],zM,false)).2.2&&!Lg L x.C) (cond (x.Op==45) (Ux L x.C x.M).2.2 true))
theorem zHL(h:Xf l L)(hm:Xq L m)(hL:XQ L)(x:zp):TA L m x=some (W7 L x):=by unfold TA Ik PK Ij W7 Zg;rw[Us hm,Bm h hm hL,Wc h hm hL,R4 h hm hL,bM];simp only[Qa];cases x.Op==38<;>cases x.Op==39<;>cases x.Op==40<;>cases x.Op==41<;>cases x.Op==42<;>cases x.Op==43<;>cases x.Op==44<;>cases x.Op==45<;>rfl
def Kv(L:Vr)(x:zp):Bool:=Zi L x.C||!W7 L x
theorem zDj(h:Xf l L)(hm:Xq L m)(hL:XQ L)(hx:x.C.length<=25):An x L m L m=some (Kv L x):=by unfold An Kv;rw[NT h hm hx,zHL h hm hL];cases Zi L x.C<;>rfl
theorem zEy(h:Xf l L)(hm:Xq L m)(hL:XQ L){T:Vv}(hl:T.length<=10000)(hT:∀x∈T,x.Type_.length<=25):Rl T L m=some (T.any λx=>Zi L x.Type_):=by
 unfold Rl g5
 rw[show((zk (λz=>CB T L m z) 0).bind λo=>zE o (λb=>jP) some)=_ from Zt (l:=T) (p:=λx:zh=>Zi L x.Type_) YA (λi x hx=>by
   unfold CB kM;rw[Xl hx,zo,hx];simp only[Qa,YF];rw[NT h hm (hT x (Qc hx))]
   rfl) (by unfold CB;rw[Xm];rfl)]
 rw[Qa,ZK]
theorem zG7(h:Xf l L)(hm:Xq L m)(hL:XQ L){T:Vx}(hl:T.length<=10000)(hT:∀x∈T,x.C.length<=25):Ce T L m=some (T.any λx=>Zi L x.C):=by
 unfold Ce hX
 rw[show((zk (λz=>Cd T L m z) 0).bind λo=>zE o (λb=>ju) some)=_ from Zt (l:=T) (p:=λx:zU=>Zi L x.C) YA (λi x hx=>by
   unfold Cd gb;rw[Xl hx,zo,hx];simp only[Qa,YF];rw[NT h hm (hT x (Qc hx))]
   rfl) (by unfold Cd;rw[Xm];rfl)]
 rw[Qa,ZK]
theorem aa(h:Xf l L)(hm:Xq L m)(hL:XQ L){T:Vw}(hl:T.length<=10000)(hT:∀x∈T,x.C.length<=25):Ca T L m L m=some (T.any λx=>Kv L x):=by
 unfold Ca gQ
 rw[show((zk (λz=>A9 T L m L m z) 0).bind λo=>zE o (λb=>jh) some)=_ from Zt (l:=T) (p:=λx:zp=>Kv L x) YA (λi x hx=>by
   unfold A9 ;rw[Xl hx,zo,hx];simp only[Qa,YF];rw[zDj h hm hL (hT x (Qc hx))]
   rfl) (by unfold A9;rw[Xm];rfl)]
 rw[Qa,ZK]
theorem aP(h:Xf l L)(hm:Xq L m)(hL:XQ L)(hl:T.length<=10000)(hT:∀x∈T,x.length<=25):Cs T L m=some (T.any λx=>Zi L x):=by
 unfold Cs gS
 rw[show((zk (λz=>Ck T L m z) 0).bind λo=>zE o (λb=>jl) some)=_ from Zt (l:=T) (p:=λx:Tx=>Zi L x) YA (λi x hx=>by
   unfold Ck ;rw[Xl hx,zo,hx];simp only[Qa,YF];rw[NT h hm (hT x (Qc hx))]
   rfl) (by unfold Ck;rw[Xm];rfl)]
 rw[Qa,ZK]
def G0(L:Vr)(f:zb):Bool:=((Zi L f.Ret||f.Params.any λx=>Zi L x)||f.Traps.any λx=>Zi L x.C)||f.Code.any λx=>Kv L x
structure DN(f:zb):Prop where
 pars:f.Params.length<=10000/\∀x∈f.Params,x.length<=25
 ret:f.Ret.length<=25
 traps:f.Traps.length<=10000/\∀x∈f.Traps,x.C.length<=25
 code:f.Code.length<=10000/\∀x∈f.Code,x.C.length<=25
theorem X7.small{f:zb}(hk:X7 f):DN f where
 pars:=⟨by have:=hk.npar;omega,(dT hk).2⟩
 ret:=Bb hk.ret
 traps:=⟨by have:=hk.ntraps;omega,λy hy=>by
  rcases hk.traps y hy with e|e
  .rw[e];exact Qk _
  have:=NU e;omega⟩
 code:=⟨by have:=hk.code.2;omega,λx hx=>by have:=M9 (hk.ins x hx);omega⟩
theorem zDt(h:Xf l L)(hm:Xq L m)(hL:XQ L){f:zb}(hf:DN f):TR f L m L m=some (G0 L f):=by unfold TR G0;rw[zG7 h hm hL hf.traps.1 hf.traps.2,aa h hm hL hf.code.1 hf.code.2,NT h hm hf.ret,aP h hm hL hf.pars.1 hf.pars.2];simp only[Qa];cases Zi L f.Ret<;>rfl
theorem t8(h:Xf l L)(hm:Xq L m)(hL:XQ L){T:Vu}(hl:T.length<=10000)(hT:∀x∈T,DN x):Rr T L m L m=some (T.any λx=>G0 L x):=by
 unfold Rr da
 rw[show((zk (λz=>Cz T L m L m z) 0).bind λo=>zE o (λb=>jK) some)=_ from Zt (l:=T) (p:=λx:zb=>G0 L x) YA (λi x hx=>by
   unfold Cz ;rw[Xl hx,zo,hx];simp only[Qa,YF];rw[zDt h hm hL (hT x (Qc hx))]
   rfl) (by unfold Cz;rw[Xm];rfl)]
 rw[Qa,ZK]
def Ks(L:Vr)(c:za):Bool:=!(c.Fields.any λx=>Zi L x.Type_)&&!(c.Methods.any λx=>G0 L x)
theorem a6(h:Xf l L)(hm:Xq L m)(hL:XQ L)(h1:c.Fields.length<=10000/\∀f∈c.Fields,f.Type_.length<=25)(h2:c.Methods.length<=10000/\∀f∈c.Methods,DN f):Pt L m c=some (Ks L c):=by unfold Pt Ks;rw[zEy h hm hL h1.1 h1.2,t8 h hm hL h2.1 h2.2];rfl
def UA(a b:zb):Bool:=(a.Params==b.Params)&&(a.Ret==b.Ret)
theorem xK(h:a.Params.length<=10000):By a b=some (UA a b):=by unfold By UA;rw[mH YA];rfl
def UP(f y:zb):Bool:=((y.Name==f.Name)&&!(f.Name==[36,105,110,105,116]))&&((!UA f y||f.Static)||y.Static)
theorem c6{f y:zb}(h:f.Params.length<=10000):Au y f.Name f.Params f.Ret f.Static f.Abstract f.Locals f.Stack f.Code f.Maps f.Traps=some (UP f y):=by unfold Au UP;rw[xK (a:=zb.mk f.Name f.Params f.Ret f.Static f.Abstract f.Locals f.Stack f.Code f.Maps f.Traps) h];cases((y.Name==f.Name)&&!(f.Name==[36,105,110,105,116]))<;>rfl
theorem cZ{f:zb}(h:f.Params.length<=10000){T:Vu}(hl:T.length<=10000):Rq T f.Name f.Params f.Ret f.Static f.Abstract f.Locals f.Stack f.Code f.Maps f.Traps=some (T.any λy=>UP f y):=by
 unfold Rq hZ
 rw[show((zk (λz=>Cy T f.Name f.Params f.Ret f.Static f.Abstract f.Locals f.Stack f.Code f.Maps f.Traps z) 0).bind λo=>zE o (λb=>jJ) some)=_ from Zt (l:=T) (p:=λy:zb=>UP f y) YA (λi x hx=>by
   unfold Cy;rw[Xl hx,zo,hx];simp only[Qa,YF];rw[c6 h]
   rfl) (by unfold Cy;rw[Xm];rfl)]
 rw[Qa,ZK]
def XZ(L:Vr)(s:Tx):Vu:=match cl L s with|some x=>x.Methods|none=>[]
def Gr(L:Vr)(c:za):Bool:=!(c.Methods.any λf=>((Xh L c.Name).drop 1).any λs=>(XZ L s).any λy=>UP f y)
theorem yn(h:Xf l L){n:Tx}(hn:Xi L n=true):1<=(Xh L n).length:=by
 obtain⟨x,hx⟩:=XY hn;unfold Xh
 cases hd:L.length with
 |zero =>
  have:L=[]:=Qf hd;rw[this]at hn;cases hn
 |succ d =>
  unfold LE;rw[hx];simp
theorem f0(h:Xf l L)(hm:Xq L m)(hs:∀s,(XZ L s).length<=10000)(hc:Xi L c.Name=true)(h2:c.Methods.length<=10000/\∀f∈c.Methods,DN f):PR L m c=some (Gr L c):=by
 have h26:=Z4 h c.Name;have h1:=yn h hc;unfold PR
 rw[show zk (λz=>MX L m c z) 0=some (XJ () (c.Methods.findSome? (λf=>cond (((Xh L c.Name).drop 1).any λs=>(XZ L s).any λy=>UP f y) (some false) none)))from Zq (λi f hf=>by
  have hi:=(Qb.1 hf).1;have hF:=h2.2 f (Qc hf);show MX L m c (i:Int)=_;unfold MX;rw[Xl hf,zo,hf];simp only[YF,Qa];rw[Dj h hm];simp only[Qa];rw[show(1:Int)=((1:Nat):Int)from rfl,G5 h1];simp only[Qa]
  have Fm:zk (λz=>MY L m f ((Xh L c.Name).drop 1) z) 0=some (XJ () (((Xh L c.Name).drop 1).findSome? (λs=>cond ((XZ L s).any λy=>UP f y) (some false) none))):=Zq (λj s hj=>by
   have hjl:=(Qb.1 hj).1;simp only[List.length_drop]at hjl;show MY L m f ((Xh L c.Name).drop 1) (j:Int)=_;unfold MY;rw[Xl hj,zo,hj];simp only[YF,Qa];obtain⟨v,e1,e2⟩:∃v,zI L m s=some v/\v.1.Methods=XZ L s:=⟨_,Us hm s,by unfold XZ;cases cl L s<;>rfl⟩;rw[e1];simp only[Qa];rw[e2,cZ hF.pars.1 (hs s),zz YA];simp only[Qa]
   cases(XZ L s).any λy=>UP f y<;>rfl) (by
   show MY L m f ((Xh L c.Name).drop 1) (((Xh L c.Name).drop 1).length:Int)=_;unfold MY
   rw[Xm];rfl)
  rw[Fm,z8];unfold iz;rw[zz YA]
  cases((Xh L c.Name).drop 1).any λs=>(XZ L s).any λy=>UP f y<;>rfl) (by
  show MX L m c (c.Methods.length:Int)=_;unfold MX
  rw[Xm];rfl),z8]
 unfold Gr;cases c.Methods.any λf=>((Xh L c.Name).drop 1).any λs=>(XZ L s).any λy=>UP f y<;>rfl
def s8(i:Bool):Vw:=cond i [(zp.mk 1 0 [] []),(zp.mk 47 0 [] [])] [(zp.mk 46 0 [] [])]
def rM(i:Bool):Tx:=cond i [73] [86]
def rW(ps:Vs)(i st:Bool):zb:=zb.mk [102] ps (rM i) st false ((ps.length:Int)+1) 1 (s8 i) [] []
def m0:zb:=rW [] false false
theorem SL(hL:L.length<=30):WM L m=some (L.map (·.Name)):=by
 unfold WM
 have key:∀(r pre:Vr),L=pre++r->zk (λz=>Oq L z.1 z.2) (pre.map (·.Name),(pre.length:Int))=some (.inl (L.map (·.Name))):=by
  intro r
  induction r with
  |nil =>
   intro pre e;rw[Qy]at e;rw[zH];show(Oq L (pre.map (·.Name)) (pre.length:Int)).bind _=_;unfold Oq;rw[<-e,Xm];rfl
  |cons c r ih =>
   intro pre e
   have VR:L.length=pre.length+(r.length+1):=by rw[e];simp
   have hx:L[pre.length]?=some c:=by rw[e];simp
   have ih:=ih (pre++[c]) (by rw[e];simp);rw[show(pre++[c]).length=pre.length+1 by simp]at ih;rw[zH];show(Oq L (pre.map (·.Name)) (pre.length:Int)).bind _=_;unfold Oq;rw[Xl hx,zo,hx];simp only[YF,Qa];rw[r5 (by simp;omega) YA,zz YA];rw[Jt]at ih;exact ih
 rw[show zk (λz=>Oq L z.1 z.2) ([],0)=_ from key L [] rfl];rfl
def X0(L:Vr)(n:Tx):za:=(cl L n).getD zC
structure r8(L:Vr)(c:za):Prop where
 fields:c.Fields.length<=10000/\∀f∈c.Fields,f.Type_.length<=25
 methods:c.Methods.length<=10000/\∀f∈c.Methods,DN f
theorem bZ{f:zb}(h:ZX f=true)(ha:f.Abstract=true)(h1:f.Code.length<=10000)(h2:f.Maps.length<=10000)(h3:f.Traps.length<=10000):f.Code=[]/\f.Traps=[]:=by
 unfold ZX at h;rw[ha]at h;simp only[Qd,YF]at h;obtain⟨_,h5⟩:=h;unfold HK at h5;simp only[Qd]at h5;have h6:=h5.2;rw[ZA (n:=(f.Code.length:Int)+(f.Maps.length:Int)) YA YA,ZA YA YA]at h6
 have h7:(f.Code.length:Int)+(f.Maps.length:Int)+(f.Traps.length:Int)=0:=by simpa using h6
 exact⟨Qf YA,Qf YA⟩
structure H2(f:zb):Prop where
 pars:f.Params.length<=6/\∀s∈f.Params,Xr s=true
 ret:Ui f.Ret=true
 traps:f.Traps.length<=6/\∀y∈f.Traps,y.C=[]\/XM y.C=true
 code:f.Code.length<=100/\∀x∈f.Code,UT x=true
theorem rV{f:zb}(h:ZX f=true)(hF:C1 f):H2 f:=by
 obtain⟨p1,p2,p3⟩:=xN h
 cases ha:f.Abstract with
 |true =>
  obtain⟨e1,e2⟩:=bZ h ha hF.code.len hF.maps.len hF.traps.len;exact⟨⟨p2,p1⟩,p3,by rw[e2];exact⟨Qk _,λy hy=>by cases hy⟩,by rw[e1];exact⟨Qk _,λy hy=>by cases hy⟩⟩
 |false =>
  have hk:=dy h ha;exact⟨⟨p2,p1⟩,p3,⟨hk.ntraps,hk.traps⟩,hk.code.2,hk.ins⟩
theorem H2.small{f:zb}(h:H2 f):DN f where
 pars:=⟨by have:=h.pars.1;omega,λs hs=>KK (h.pars.2 s hs)⟩
 ret:=Bb h.ret
 traps:=⟨by have:=h.traps.1;omega,λy hy=>by
  rcases h.traps.2 y hy with e|e
  .rw[e];exact Qk _
  have:=NU e;omega⟩
 code:=⟨by have:=h.code.1;omega,λx hx=>by have:=M9 (h.code.2 x hx);omega⟩
structure Zr(L:Vr)(c:za):Prop where
 fields:c.Fields.length<=10000/\∀f∈c.Fields,Xr f.Type_=true
 methods:c.Methods.length<=10000/\∀f∈c.Methods,H2 f
 names:∀(i j:Nat) (f g:zb),c.Methods[i]?=some f->c.Methods[j]?=some g->f.Name=g.Name->i=j
theorem xx{α:Type}{ok:α->Bool}{nm:α->List UInt8}:∀{r pre:List α},uB ok nm pre r=false->∀(i j:Nat) (x y:α),i<j->(pre++r)[i]?=some x->(pre++r)[j]?=some y->pre.length<=j->nm x≠nm y
 |[],pre,h,i,j,x,y,hij,hx,hy,hj=>by
  rw[Qy]at hy;have:=(Qb.1 hy).1;omega
 |z::r,pre,h,i,j,x,y,hij,hx,hy,hj=>by
  unfold uB at h;simp only[Qh]at h;obtain⟨⟨_,h2⟩,h3⟩:=h;by_cases e:j=pre.length
  .subst e
   have hz:y=z:=by simpa using hy.symm
   subst hz;rw[Qs hij]at hx;rw[Qq]at h2;intro e;exact h2 x (Qc hx) (by rw[e];simp)
  refine xx (r:=r) (pre:=pre++[z]) h3 i j x y hij (by simpa using hx) (by simpa using hy) (by simp;omega)
theorem vE(h:uB ok nm [] r=false)(i j:Nat)(x y:α)(hx:r[i]?=some x)(hy:r[j]?=some y)(e:nm x=nm y):i=j:=by
 rcases Nat.lt_trichotomy i j with k|k|k
 .exact absurd e (xx h i j x y k (by simpa using hx) (by simpa using hy) (Qk _))
 .exact k
 exact absurd e.symm (xx h j i y x k (by simpa using hy) (by simpa using hx) (Qk _))
theorem zER{f:zh}(h:Gw f=true):Xr f.Type_=true:=by unfold Gw at h;simp only[Qd]at h;exact h.2
theorem qE(h:Xf l L)(hF:∀c∈L,XI c)(hc:c∈L):Zr L c:=by
 have hf:=hF c hc;have hfl:=hf.fields.len;have hml:=hf.methods.len;have hmd:∀f∈c.Methods,H2 f:=λf hm=>rV (O8 h hc hm) (hf.methods.all f hm);rw[h.app]at hc
 rcases Qp.1 hc with e|e
 .have hg:Lb.all (λc=>decide (c.Methods.length=0)&&decide (c.Fields.length=0))=true:=by decide +kernel
  have:=Qr.1 hg c e;simp only[Qd,YJ]at this;have e1:=Qf this.1;have e2:=Qf this.2;exact⟨⟨hfl,λf hx=>by rw[e2]at hx;cases hx⟩,⟨hml,hmd⟩,λi j f g hx=>by rw[e1]at hx;simp at hx⟩
 have hm:=h.may c e;unfold ZT at hm;simp only[Qd,Qm,YJ]at hm;obtain⟨_,⟨⟨⟨_,_⟩,h5,_⟩,h6,_⟩⟩:=hm;exact⟨⟨hfl,λf hx=>zER (OU h5 f hx)⟩,⟨hml,hmd⟩,λi j f g hx hy=>vE h6 i j f g hx hy⟩
theorem Zr.small{c:za}(h:Zr L c):r8 L c:=⟨⟨h.fields.1,λf hf=>KK (h.fields.2 f hf)⟩,⟨h.methods.1,λf hf=>(h.methods.2 f hf).small⟩⟩
theorem wr:Xr []=false:=by decide +kernel
theorem sL:Xr [84]=false:=by decide +kernel
theorem sM:Xr [78]=false:=by decide +kernel
theorem W8{t:Tx}(h:Xr t=true)(hs:Xr s=false):(t==s)=false:=by refine beq_eq_false_iff_ne.2 λe=>?_;rw[e,hs]at h;cases h
theorem N2{t:Tx}(h:Xr t=true):Zi L t=!Lk L t:=by unfold Zi Uc;rw[W8 h dF,W8 h wr,W8 h sM,W8 h sL];simp
theorem fm:Zi L []=false:=by unfold Zi;simp
theorem cI{t:Tx}(h:Ui t=true):Zi L t=(!(t==[86])&&!Lk L t):=by
 unfold Ui at h;rw[Qv]at h
 rcases h with h|h
 .unfold Zi;rw[h];rfl
 rw[N2 h,W8 h dF];simp
theorem sW{t:Tx}(h:XM t=true):Lk L t=Xi L t:=by
 unfold Lk xc;have e:Md t=t:=O9 (BA h);rw[Wh h,e,QD]
 have:(t==[73])=false:=beq_eq_false_iff_ne.2 λe=>by rw[e,u4]at h;cases h
 rw[this,QR]
theorem bP{t:Tx}(h:t=[]\/XM t=true):Zi L t=(!(t==[])&&!Xi L t):=by
 rcases h with h|h
 .rw[h,fm];rfl
 rw[N2 (Wh h),sW h,W8 (Wh h) wr];simp
theorem fj(h:UT x=true):x.C=[]\/Xr x.C=true:=by
 unfold UT at h;simp only[Qd]at h;have:=h.1.2;unfold H5 at this;cases h1:GC x.Op<;>rw[h1]at this
 .cases h2:DH x.Op<;>rw[h2]at this;.exact .inl (by simpa using this)
  exact .inr (Wh this)
 simp only[YF]at this;unfold Zu at this;simp only[Qd]at this;exact .inr this.2
theorem cJ(h:UT x=true):Zi L x.C=(!(x.C==[])&&!Lk L x.C):=by
 rcases fj h with e|e
 .rw[e,fm];rfl
 rw[N2 e,W8 e wr];simp
theorem op4(o a b c d:Int)(h1:b=a+1)(h2:c=a+2)(h3:d=a+3):(decide (a<=o)&&decide (o<=d))=((((o==a)||(o==b))||(o==c))||(o==d)):=by rw[QJ];simp only[Qd,Qv,YJ,YN];omega
theorem op3(o a b c:Int)(h1:b=a+1)(h2:c=a+2):(decide (a<=o)&&decide (o<=c))=(((o==a)||(o==b))||(o==c)):=by rw[QJ];simp only[Qd,Qv,YJ,YN];omega
theorem ll(h:Xf l L)(hL:XQ L)(hx:UT x=true):T6 L x=some (!Kv L x):=by
 have h26:=h.len;have h10:=M9 hx;unfold T6 Kv Oj;rw[cJ hx,KX h YA,op4 x.Op 38 39 40 41 rfl rfl rfl,op3 x.Op 42 43 44 rfl rfl,Tp h hL,uM h hL,TC h hL,Zc YA]
 have e:(cond (!(x.C==[])) ((some (Lk L x.C)).bind λv3=>some (!v3)) (some false):Option Bool)=some (!(x.C==[])&&!Lk L x.C):=by cases x.C==[]<;>rfl
 rw[e];simp only[Qa]
 cases !(x.C==[])&&!Lk L x.C with
 |true=>rfl
 |false =>
  unfold W7 Zg;simp only[YG,QR,Bool.not_not]
  cases(((x.Op==38)||(x.Op==39))||(x.Op==40))||(x.Op==41)with
  |true=>rfl
  |false =>
   simp only[YG]
   cases((x.Op==42)||(x.Op==43))||(x.Op==44)with
   |false =>
    simp only[YG];cases x.Op==45<;>rfl
   |true =>
    simp only[YF]
    cases hq:(((Xh L x.C).findSome? (X4 L ZY x.M)).getD ([],zM,false)).2.2 with
    |false=>rfl
    |true =>
     simp only[YF,QD];rw[Kp]
     cases hc:cl L x.C with
     |none =>
      exfalso;rw[GD (Db hc)]at hq;cases hq
     |some c =>
      have:Lg L x.C=c.Interface:=by unfold Lg;rw[hc]
      rw[this];rfl
theorem tl(h:Xf l L){f:zb}(hf:H2 f):zk (λz=>IG L f z) 0=some (XJ () (cond (f.Params.any λx=>Zi L x) (some false) none)):=by
 have h6:=hf.pars.1;rw[<-z8]
 exact Zq (λi s hs=>by
  have hi:=(Qb.1 hs).1;have hm:=hf.pars.2 s (Qc hs);show IG L f (i:Int)=_;unfold IG;rw[Xl hs,zo,hs];simp only[YF,Qa];rw[KX h (by have:=KK hm;omega),N2 hm,zz YA];simp only[Qa]
  cases Lk L s<;>rfl) (by
  show IG L f (f.Params.length:Int)=_;unfold IG
  rw[Xm];rfl)
theorem zH6(h:Xf l L){f:zb}(hf:H2 f):zk (λz=>IR L f z) 0=some (XJ () (cond (f.Traps.any λx=>Zi L x.C) (some false) none)):=by
 have h6:=hf.traps.1;have h26:=h.len;rw[<-z8]
 exact Zq (λi s hs=>by
  have hi:=(Qb.1 hs).1;have hm:=hf.traps.2 s (Qc hs);show IR L f (i:Int)=_;unfold IR;rw[Xl hs,zo,hs];simp only[YF,Qa];rw[Zc YA,bP hm,zz YA];simp only[Qa];rw[Gy]
  cases s.C==[]<;>cases Xi L s.C<;>rfl) (by
  show IR L f (f.Traps.length:Int)=_;unfold IR
  rw[Xm];rfl)
theorem tn(h:Xf l L)(hL:XQ L){f:zb}(hf:H2 f):zk (λz=>IQ L f z) 0=some (XJ () (cond (f.Code.any λx=>Kv L x) (some false) none)):=by
 have h6:=hf.code.1;rw[<-z8]
 exact Zq (λi s hs=>by
  have hi:=(Qb.1 hs).1;have hm:=hf.code.2 s (Qc hs);show IQ L f (i:Int)=_;unfold IQ;rw[Xl hs,zo,hs];simp only[YF,Qa];rw[ll h hL hm,zz YA];simp only[Qa]
  cases Kv L s<;>rfl) (by
  show IQ L f (f.Code.length:Int)=_;unfold IQ
  rw[Xm];rfl)
theorem tm(h:Xf l L)(hL:XQ L)(hc:Zr L c):zk (λz=>I8 L c z) 0=some (XJ () (cond (c.Methods.any λx=>G0 L x) (some false) none)):=by
 have h6:=hc.methods.1;rw[<-z8]
 exact Zq (λi f hs=>by
  have hi:=(Qb.1 hs).1;have hf:=hc.methods.2 f (Qc hs);show I8 L c (i:Int)=_;unfold I8;rw[Xl hs,zo,hs];simp only[YF,Qa];rw[KX h (by have:=Bb hf.ret;omega)]
  have e1:(cond (!(f.Ret==[86])) ((some (Lk L f.Ret)).bind λv37=>some (!v37)) (some false):Option Bool)=some (Zi L f.Ret):=by rw[cI hf.ret];cases f.Ret==[86]<;>rfl
  rw[e1,tl h hf];unfold iE;rw[zH6 h hf];unfold iD;rw[tn h hL hf];unfold iC;rw[zz YA];unfold G0
  cases Zi L f.Ret<;>cases(f.Params.any λx=>Zi L x)<;>cases(f.Traps.any λx=>Zi L x.C)<;>cases(f.Code.any λx=>Kv L x)<;>rfl) (by
  show I8 L c (c.Methods.length:Int)=_;unfold I8
  rw[Xm];rfl)
theorem zA2(h:Xf l L)(hL:XQ L)(hc:Zr L c):T5 L c=some (Ks L c):=by
 have h6:=hc.fields.1;unfold T5
 rw[show zk (λz=>IH L c z) 0=some (XJ () (c.Fields.findSome? λx=>cond (Zi L x.Type_) (some false) none))from Zq (λi f hs=>by
  have hi:=(Qb.1 hs).1;have hm:=hc.fields.2 f (Qc hs);show IH L c (i:Int)=_;unfold IH;rw[Xl hs,zo,hs];simp only[YF,Qa];rw[KX h (by have:=KK hm;omega),N2 hm,zz YA];simp only[Qa]
  cases Lk L f.Type_<;>rfl) (by
  show IH L c (c.Fields.length:Int)=_;unfold IH
  rw[Xm];rfl),z8]
 unfold ig;rw[tm h hL hc];unfold Ks;cases(c.Fields.any λx=>Zi L x.Type_)<;>cases(c.Methods.any λx=>G0 L x)<;>rfl
def tc(T:Vu):Prop:=∀(i j:Nat) (f g:zb),T[i]?=some f->T[j]?=some g->f.Name=g.Name->i=j
theorem xJ{T:Vu}{n:Tx}(hu:tc T):(T.any λy=>(y.Name==n)&&q y)=(match T.find? (λy=>y.Name==n)with|some y=>q y|none=>false):=by
 cases hf:T.find? (λy=>y.Name==n)with
 |none =>
  rw[JT]at hf;rw[Qq];intro y hy;have:=hf y hy;simp only[Yz]at this;simp[this]
 |some y =>
  have h1:=QG hf
  have h2:y.Name=n:=by simpa using List.find?_some hf
  rw[QJ,QB];constructor;.rintro⟨z,hz,k⟩;simp only[Qd,YN]at k;obtain⟨i,hi⟩:=J3.1 hz;obtain⟨j,hj⟩:=J3.1 h1;have:=hu i j z y hi hj (by rw[k.1,h2]);subst this;rw[hi]at hj;cases hj;exact k.2
  intro k;exact⟨y,h1,by simp[h2];exact k⟩
theorem qR(p:α->Bool)(l:List α):decide (Lq p 0 l<0)=!(l.find? p).isSome:=by
 rw[<-HB];by_cases h:0<=Lq p 0 l;.rw[YH h,YI YA];rfl
 rw[YI h,YH YA];rfl
theorem Tf(a b:zb):UA a b=UA b a:=by unfold UA;rw[QJ];simp only[Qd,YN];exact⟨λh=>⟨h.1.symm,h.2.symm⟩,λh=>⟨h.1.symm,h.2.symm⟩⟩
theorem kf(h:a.Params.length<=10000):BB a b=some (UA a b):=by unfold BB UA;rw[mW YA];rfl
theorem Sh{x:za}(h:cl L s=some x):XZ L s=x.Methods:=by unfold XZ;rw[h]
theorem sZ(h:Xf l L)(hD:∀c∈L,Zr L c){j:Nat}{f:zb}(hf:c.Methods[i]?=some f)(hp:f.Params.length<=10000)(hj:T[j]?=some s)(hjl:j<1000)(hs:Xi L s=true):IV L c T (i:Int) (j:Int)=some (U6 j (cond ((XZ L s).any λy=>UP f y) (some false) none)):=by
 have h26:=h.len;obtain⟨x,hx⟩:=XY hs;have hxd:=hD x (XG hx).1;have hm0:=hxd.methods.1;unfold IV;rw[Xl hj,zo T,hj];simp only[YF,Qa];rw[Zc YA];simp only[Qa];rw[Kp,hx];simp only[Qa];rw[zo c.Methods,hf];simp only[Qa];rw[Wu (by unfold XP;omega)];simp only[Qa];rw[qR,Hx,Sh hx]
 have e:(x.Methods.any λy=>UP f y)=x.Methods.any λy=>(y.Name==f.Name)&&(!(f.Name==[36,105,110,105,116])&&((!UA f y||f.Static)||y.Static)):=by
  congr 1;funext y;unfold UP;rw[Bool.and_assoc]
 rw[e,xJ hxd.names];unfold PW AK;rw[zz YA]
 cases hq:x.Methods.find? (λy=>y.Name==f.Name)with
 |none=>rfl
 |some y =>
  have hy:=QG hq;have hyd:=(hxd.methods.2 y hy).pars.1;simp only[JH,Qo,YG,Qa];rw[kf YA,Tf y f];simp only[Qa];cases f.Name==[36,105,110,105,116]<;>cases UA f y<;>cases f.Static<;>cases y.Static<;>rfl
theorem zH0(h:Xf l L)(hD:∀c∈L,Zr L c){f:zb}(hf:c.Methods[i]?=some f)(hp:f.Params.length<=10000)(hT:T.length<=1000)(FK:∀s∈T,Xi L s=true):zk (λz=>IV L c T (i:Int) z) 0=some (XJ () (cond (T.any λs=>(XZ L s).any λy=>UP f y) (some false) none)):=by
 rw[<-z8]
 exact Zq (λj s hj=>by
  have hjl:=(Qb.1 hj).1
  exact sZ h hD hf hp hj YA (FK s (Qc hj))) (by
  show IV L c T (i:Int) (T.length:Int)=_;unfold IV
  rw[Xm];rfl)
theorem tv(h:Xf l L)(hD:∀c∈L,Zr L c)(hc:Zr L c)(hT:T.length<=1000)(FK:∀s∈T,Xi L s=true):zk (λz=>IU L c T z) 0=some (XJ () (cond (c.Methods.any λf=>T.any λs=>(XZ L s).any λy=>UP f y) (some false) none)):=by
 have h6:=hc.methods.1;rw[<-z8]
 exact Zq (λi f hf=>by
  have hi:=(Qb.1 hf).1;have hm:=hc.methods.2 f (Qc hf);show IU L c T (i:Int)=_;unfold IU;rw[Xl hf,zH0 h hD hf (by have:=hm.pars.1;omega) hT FK];unfold iH;rw[zz YA]
  cases(T.any λs=>(XZ L s).any λy=>UP f y)<;>rfl) (by
  show IU L c T (c.Methods.length:Int)=_;unfold IU
  rw[Xm];rfl)
def X5(f y:zb):Bool:=(y.Name==f.Name)&&!UA f y
def GQ(L:Vr)(c:Tx)(f:zb):Bool:=(Ma L c f.Name).2&&(XZ L (Ma L c f.Name).1).any λy=>(y.Name==f.Name)&&UA f y
theorem NC(hD:∀c∈L,Zr L c)(s:Tx):(XZ L s).length<=10000/\∀f∈XZ L s,H2 f:=by
 unfold XZ
 cases hc:cl L s with
 |none=>exact⟨Qk _,λf hf=>by cases hf⟩
 |some x=>exact(hD x (XG hc).1).methods
theorem tq(h:Xf l L)(hD:∀c∈L,Zr L c){f:zb}(hp:f.Params.length<=10000)(hT:T.length<=1000)(FK:∀s∈T,Xi L s=true):zk (λz=>II L T f z) 0=some (XJ () (cond (T.any λs=>(XZ L s).any λy=>X5 f y) (some false) none)):=by
 have h26:=h.len;rw[<-z8]
 exact Zq (λj s hj=>by
  have hjl:=(Qb.1 hj).1;obtain⟨x,hx⟩:=XY (FK s (Qc hj));have hxd:=hD x (XG hx).1;have hm0:=hxd.methods.1;show II L T f (j:Int)=_;unfold II;rw[Xl hj,zo T,hj];simp only[YF,Qa];rw[Zc YA];simp only[Qa];rw[Kp,hx];simp only[Qa];rw[Wu (by unfold XP;omega)];simp only[Qa];rw[HB,Hx,Sh hx];have e:(x.Methods.any λy=>X5 f y)=x.Methods.any λy=>(y.Name==f.Name)&&!UA f y:=rfl;rw[e,xJ hxd.names];unfold Ar;rw[zz YA]
  cases hq:x.Methods.find? (λy=>y.Name==f.Name)with
  |none=>rfl
  |some y =>
   have hy:=QG hq;have hyd:=(hxd.methods.2 y hy).pars.1;simp only[JH,YF,Qa];rw[kf YA,Tf y f];simp only[Qa]
   cases UA f y<;>rfl) (by
  show II L T f (T.length:Int)=_;unfold II
  rw[Xm];rfl)
theorem zG8{c n:Tx}(h:(Ma L c n).2=true):∃x f,cl L (Ma L c n).1=some x/\x.Methods.find? (λy=>y.Name==n)=some f:=by
 unfold Ma at h ⊢
 cases hb:(Xi L c&&!Lg L c)with
 |false=>rw[hb]at h;cases h
 |true =>
  rw[hb]at h;simp only[YF]at h ⊢
  cases hq:(Xh L c).findSome? (MM L n)with
  |none=>rw[hq]at h;cases h
  |some r =>
   rw[hq]at h;simp only[Jk]at h ⊢;obtain⟨s,hs,hr⟩:=QQ hq;unfold MM at hr
   cases hc:cl L s with
   |none=>rw[hc]at hr;cases hr
   |some x =>
    rw[hc]at hr;simp only at hr
    cases hf:x.Methods.find? (λy=>y.Name==n)with
    |none=>rw[hf]at hr;cases hr
    |some f =>
     rw[hf]at hr;simp only at hr
     cases Fk:f.Static with
     |true=>rw[Fk]at hr;cases hr
     |false =>
      rw[Fk]at hr
      have e:r=(s,true):=by simpa using hr.symm
      rw[e];exact⟨x,f,hc,hf⟩
theorem zHD(h:Xf l L)(hL:XQ L)(hD:∀c∈L,Zr L c){f:zb}(hp:f.Params.length<=10000)(hT:T.length<=1000)(FK:∀s∈T,Xi L s=true):PM L c T f=some (!(T.any λs=>(XZ L s).any λy=>X5 f y)&&(c.Interface||GQ L c.Name f)):=by
 have h26:=h.len;unfold PM;rw[tq h hD hp hT FK]
 cases(T.any λs=>(XZ L s).any λy=>X5 f y)with
 |true=>rfl
 |false =>
  simp only[YG,XJ,Qa,zE,QI,QD];unfold ij
  cases c.Interface with
  |true=>rfl
  |false =>
   simp only[YG,QR];rw[ln h hL];simp only[Qa];unfold GQ
   cases hq:(Ma L c.Name f.Name).2 with
   |false=>rfl
   |true =>
    obtain⟨x,y,hx,hy⟩:=zG8 hq;have hxd:=hD x (XG hx).1;have hm0:=hxd.methods.1;have hyd:=(hxd.methods.2 y (QG hy)).pars.1;simp only[Qo,YG,QD];rw[Zc YA];simp only[Qa];rw[Kp,hx];simp only[Qa];rw[Wu (by unfold XP;omega)];simp only[Qa];rw[Hx,hy];simp only[Qa];rw[kf YA,Sh hx,xJ hxd.names,hy,Tf y f];rfl
def KD(L:Vr)(n:Tx):Vu:=(XT L n).flatMap (XZ L)
def Kq(L:Vr)(c:za):Bool:=!((KD L c.Name).any λf=>(KD L c.Name).any λy=>X5 f y)&&(c.Interface||!((KD L c.Name).any λf=>!GQ L c.Name f))
theorem zHC(c:za):((XT L c.Name).any λs=>(XZ L s).any λf=>!(!((XT L c.Name).any λs=>(XZ L s).any λy=>X5 f y)&&(c.Interface||GQ L c.Name f)))=!Kq L c:=by
 have e1:∀f,((XT L c.Name).any λs=>(XZ L s).any λy=>X5 f y)=(KD L c.Name).any λy=>X5 f y:=λf=>by unfold KD;rw[List.any_flatMap]
 have e2:∀p:zb->Bool,((XT L c.Name).any λs=>(XZ L s).any p)=(KD L c.Name).any p:=λp=>by unfold KD;rw[List.any_flatMap]
 rw[e2];simp only[e1];unfold Kq;generalize KD L c.Name=A;rw[QJ];simp only[Qm,JI,QB,Qh,QT,QB];constructor
 .rintro⟨f,hf,h|⟨h1,h2⟩⟩;.exact .inl ⟨f,hf,by simpa using h⟩
  exact .inr ⟨h1,f,hf,by simpa using h2⟩
 rintro(⟨f,hf,h⟩|⟨h1,f,hf,h2⟩);.exact⟨f,hf,.inl (by simpa using h)⟩
 exact⟨f,hf,.inr ⟨h1,by simpa using h2⟩⟩
theorem zH1(h:Xf l L)(hL:XQ L)(hD:∀c∈L,Zr L c):gq L c=some (Kq L c):=by
 have h26:=h.len;have h52:=Eu h c.Name;unfold gq;rw[u9 h];simp only[Qa]
 rw[show zk (λz=>IS L c (XT L c.Name) z) 0=some (XJ () ((XT L c.Name).findSome? λs=>cond ((XZ L s).any λf=>!(!((XT L c.Name).any λs=>(XZ L s).any λy=>X5 f y)&&(c.Interface||GQ L c.Name f))) (some false) none))from Zq (λi s hs=>by
  have hi:=(Qb.1 hs).1;obtain⟨x,hx⟩:=XY (Ew h (Qc hs));have hxd:=hD x (XG hx).1;have hm0:=hxd.methods.1;show IS L c (XT L c.Name) (i:Int)=_;unfold IS;rw[Xl hs,zo,hs];simp only[YF,Qa];rw[Zc YA];simp only[Qa];rw[Kp,hx];simp only[Qa]
  rw[show zk (λz=>IT L c (XT L c.Name) x z) 0=some (XJ () (x.Methods.findSome? λf=>cond (!(!((XT L c.Name).any λs=>(XZ L s).any λy=>X5 f y)&&(c.Interface||GQ L c.Name f))) (some false) none))from Zq (λk f hf=>by
   have hk:=(Qb.1 hf).1;have hfd:=(hxd.methods.2 f (Qc hf)).pars.1;show IT L c (XT L c.Name) x (k:Int)=_;unfold IT;rw[Xl hf,zo,hf];simp only[YF,Qa];rw[zHD h hL hD YA YA (λs hs=>Ew h hs),zz YA];simp only[Qa]
   cases(!((XT L c.Name).any λs=>(XZ L s).any λy=>X5 f y)&&(c.Interface||GQ L c.Name f))<;>rfl) (by
   show IT L c (XT L c.Name) x (x.Methods.length:Int)=_;unfold IT
   rw[Xm];rfl),z8,Sh hx]
  unfold iG;rw[zz YA]
  cases(x.Methods.any λf=>!(!((XT L c.Name).any λs=>(XZ L s).any λy=>X5 f y)&&(c.Interface||GQ L c.Name f)))<;>rfl) (by
  show IS L c (XT L c.Name) ((XT L c.Name).length:Int)=_;unfold IS
  rw[Xm];rfl),z8,zHC]
 unfold iF;cases Kq L c<;>rfl
theorem zA1(h:Xf l L)(hL:XQ L)(hD:∀c∈L,Zr L c)(hc:c∈L):T7 L c=some (Gr L c&&Kq L c):=by have hn:Xi L c.Name=true:=ZC (h.nd.cl hc);have h1:=yn h hn;have h26:=Z4 h c.Name;unfold T7;rw[HN h];simp only[Qa];rw[show(1:Int)=((1:Nat):Int)from rfl,G5 h1];simp only[Qa];rw[tv h hD (hD c hc) (by simp;omega) (λs hs=>En h c.Name s (Ye hs)),zH1 h hL hD];unfold Gr;cases(c.Methods.any λf=>((Xh L c.Name).drop 1).any λs=>(XZ L s).any λy=>UP f y)<;>rfl
theorem zEQ{f y:zb}(h:f.Params.length<=10000):TS y f.Name f.Params f.Ret f.Static f.Abstract f.Locals f.Stack f.Code f.Maps f.Traps=some (X5 f y):=by unfold TS X5;rw[xK (a:=zb.mk f.Name f.Params f.Ret f.Static f.Abstract f.Locals f.Stack f.Code f.Maps f.Traps) h];cases y.Name==f.Name<;>rfl
theorem af{f:zb}(h:f.Params.length<=10000){T:Vu}(hl:T.length<=10000000):Rp T f.Name f.Params f.Ret f.Static f.Abstract f.Locals f.Stack f.Code f.Maps f.Traps=some (T.any λy=>X5 f y):=by
 unfold Rp g9
 rw[show((zk (λz=>Cx T f.Name f.Params f.Ret f.Static f.Abstract f.Locals f.Stack f.Code f.Maps f.Traps z) 0).bind λo=>zE o (λb=>jI) some)=_ from Zt (l:=T) (p:=λy:zb=>X5 f y) YA (λi x hx=>by
   unfold Cx;rw[Xl hx,zo,hx];simp only[Qa,YF];rw[zEQ h]
   rfl) (by unfold Cx;rw[Xm];rfl)]
 rw[Qa,ZK]
theorem ao{f y:zb}(h:f.Params.length<=10000):TD y f.Name f.Params f.Ret f.Static f.Abstract f.Locals f.Stack f.Code f.Maps f.Traps=some ((y.Name==f.Name)&&UA f y):=by unfold TD;rw[xK (a:=zb.mk f.Name f.Params f.Ret f.Static f.Abstract f.Locals f.Stack f.Code f.Maps f.Traps) h];cases y.Name==f.Name<;>rfl
theorem am{f:zb}(h:f.Params.length<=10000){T:Vu}(hl:T.length<=10000):Rm T f.Name f.Params f.Ret f.Static f.Abstract f.Locals f.Stack f.Code f.Maps f.Traps=some (T.any λy=>(y.Name==f.Name)&&UA f y):=by
 unfold Rm g7
 rw[show((zk (λz=>Cv T f.Name f.Params f.Ret f.Static f.Abstract f.Locals f.Stack f.Code f.Maps f.Traps z) 0).bind λo=>zE o (λb=>jG) some)=_ from Zt (l:=T) (p:=λy:zb=>(y.Name==f.Name)&&UA f y) YA (λi x hx=>by
   unfold Cv;rw[Xl hx,zo,hx];simp only[Qa,YF];rw[ao h]
   rfl) (by unfold Cv;rw[Xm];rfl)]
 rw[Qa,ZK]
theorem rY(h:Xf l L)(hm:Xq L m)(hL:XQ L)(hD:∀c∈L,Zr L c){c:Tx}{f:zb}(hp:f.Params.length<=10000):S5 L m c f=some (GQ L c f):=by
 unfold S5 GQ;rw[zG9 h hm hL];simp only[Qa]
 cases(Ma L c f.Name).2 with
 |false=>rfl
 |true =>
  simp only[Qo,YG,QD];obtain⟨v,e1,e2⟩:∃v,zI L m (Ma L c f.Name).1=some v/\v.1.Methods=XZ L (Ma L c f.Name).1:=⟨_,Us hm _,by unfold XZ;cases cl L (Ma L c f.Name).1<;>rfl⟩;rw[e1];simp only[Qa];rw[e2,am hp (NC hD _).1];rfl
theorem tw(h:Xf l L)(hm:Xq L m)(hL:XQ L)(hD:∀c∈L,Zr L c){T:Vu}(hl:T.length<=10000000)(hT:∀f∈T,f.Params.length<=10000):Ro T L m c.Name c.Super c.Interface c.Impl c.Fields c.Methods=some (T.any λf=>!GQ L c.Name f):=by
 unfold Ro g8
 rw[show((zk (λz=>Cw T L m c.Name c.Super c.Interface c.Impl c.Fields c.Methods z) 0).bind λo=>zE o (λb=>jH) some)=_ from Zt (l:=T) (p:=λf:zb=>!GQ L c.Name f) YA (λi x hx=>by
   unfold Cw kN;rw[Xl hx,zo,hx];simp only[Qa,YF];rw[rY h hm hL hD (hT x (Qc hx))]
   rfl) (by unfold Cw;rw[Xm];rfl)]
 rw[Qa,ZK]
def ZU:Vu->Vu->Option (Vu)
 |VQ,[]=>some VQ
 |VQ,f::r=>cond (VQ.any λy=>X5 f y) none (ZU (VQ++[f]) r)
theorem fd:∀(A VQ B:Vu),ZU VQ (A++B)=(ZU VQ A).bind λa=>ZU a B
 |[],VQ,B=>rfl
 |f::r,VQ,B=>by
  show cond (VQ.any λy=>X5 f y) none (ZU (VQ++[f]) (r++B))=(cond (VQ.any λy=>X5 f y) none (ZU (VQ++[f]) r)).bind λa=>ZU a B;rw[fd r (VQ++[f]) B];cases(VQ.any λy=>X5 f y)<;>rfl
theorem y5:∀(A VQ a:Vu),ZU VQ A=some a->a=VQ++A
 |[],VQ,a,h=>by
  have:a=VQ:=by simpa[ZU]using h.symm
  rw[this];simp
 |f::r,VQ,a,h=>by
  have h:cond (VQ.any λy=>X5 f y) none (ZU (VQ++[f]) r)=some a:=h
  cases hb:(VQ.any λy=>X5 f y)with
  |true=>rw[hb]at h;cases h
  |false =>
   rw[hb]at h;rw[y5 r (VQ++[f]) a h];simp
theorem zG3{f y:zb}(h:X5 f y=true):X5 y f=true:=by unfold X5 at h ⊢;simp only[Qd,YN]at h ⊢;exact⟨h.1.symm,by rw[Tf];exact h.2⟩
theorem zG4(f:zb):X5 f f=false:=by unfold X5 UA;simp
theorem bK:∀(A VQ:Vu),(∃f∈A,∃y∈VQ++A,X5 f y=true)->ZU VQ A=none
 |[],VQ,⟨f,hf,_⟩=>by cases hf
 |f::r,VQ,⟨g,hg,y,hy,hb⟩=>by
  show cond (VQ.any λy=>X5 f y) none (ZU (VQ++[f]) r)=none
  cases ha:(VQ.any λy=>X5 f y)with
  |true=>rfl
  |false =>
   rw[Qq]at ha;show ZU (VQ++[f]) r=none;refine bK r (VQ++[f]) ?_
   have hy2:y∈(VQ++[f])++r:=by simpa using hy
   rcases Qu.1 hg with e|e
   .subst e
    rcases Qp.1 hy with k|k
    .exact absurd hb (ha y k)
    rcases Qu.1 k with e|e
    .subst e;rw[zG4]at hb;cases hb
    exact⟨y,e,g,YC,zG3 hb⟩
   exact⟨g,e,y,hy2,hb⟩
theorem bJ:∀(A VQ:Vu),(∀f∈A,∀y∈VQ++A,X5 f y=false)->ZU VQ A=some (VQ++A)
 |[],VQ,_=>by simp[ZU]
 |f::r,VQ,h=>by
  show cond (VQ.any λy=>X5 f y) none (ZU (VQ++[f]) r)=_
  have ha:(VQ.any λy=>X5 f y)=false:=by
   rw[Qq];intro y hy;rw[h f YC y (by simp[hy])];simp
  rw[ha];show ZU (VQ++[f]) r=_;rw[bJ r (VQ++[f]) λg hg y hy=>h g (by simp[hg]) y (by simpa using hy)];simp
theorem zGX(A:Vu):ZU [] A=cond (A.any λf=>A.any λy=>X5 f y) none (some A):=by
 cases h:(A.any λf=>A.any λy=>X5 f y)with
 |true =>
  rw[QB]at h;obtain⟨f,hf,h⟩:=h;rw[QB]at h;obtain⟨y,hy,h⟩:=h;exact bK A [] ⟨f,hf,y,by simpa using hy,h⟩
 |false =>
  rw[Qq]at h
  have:=bJ A [] λf hf y hy=>by
   have h1:=h f hf;simp only[Yz,Qq]at h1;simpa using h1 y (by simpa using hy)
  simpa using this
theorem ft(x:za)(b:Bool)(hp:∀f∈x.Methods,f.Params.length<=10000)(hn:x.Methods.length<=10000):∀(r pre VQ:Vu),x.Methods=pre++r->VQ.length+r.length<=1000000->
  zk (λz=>Im (x,b) z.1 z.2) (VQ,(pre.length:Int))=some (match ZU VQ r with|some a=>.inl a|none=>.inr false)
 |[],pre,VQ,e,hl=>by
  rw[Qy]at e;rw[zH];show(Im (x,b) VQ (pre.length:Int)).bind _=_;unfold Im;simp only;rw[<-e,Xm];rfl
 |f::r,pre,VQ,e,hl=>by
  have hx:x.Methods[pre.length]?=some f:=by rw[e];simp
  have VR:x.Methods.length=pre.length+(r.length+1):=by rw[e];simp
  simp only[Qw]at hl;rw[zH];show(Im (x,b) VQ (pre.length:Int)).bind _=_;unfold Im;simp only;rw[Xl hx,zo,hx];simp only[YF,Qa];rw[af (hp f (Qc hx)) YA];simp only[Qa]
  show _=some (match cond (VQ.any λy=>X5 f y) none (ZU (VQ++[f]) r)with|some a=>Sum.inl a|none=>Sum.inr false)
  cases(VQ.any λy=>X5 f y)with
  |true=>rfl
  |false =>
   simp only[YG];rw[XH (by simp;omega) (by simp;omega)];simp only[Qa];rw[zz YA];have ih:=ft x b hp hn r (pre++[f]) (VQ++[f]) (by rw[e];simp) (by simp;omega);rw[show(pre++[f]).length=pre.length+1 by simp]at ih;exact ih
theorem fq(h:Xf l L)(hm:Xq L m)(hD:∀c∈L,Zr L c){T:Vs}(hT:T.length<=52):∀(r pre:Vs) (VQ:Vu),T=pre++r->VQ.length<=10000*pre.length->
  zk (λz=>Il L m T z.1 z.2) (VQ,(pre.length:Int))=some (match ZU VQ (r.flatMap (XZ L))with|some a=>.inl a|none=>.inr false)
 |[],pre,VQ,e,hl=>by
  rw[Qy]at e;rw[zH];show(Il L m T VQ (pre.length:Int)).bind _=_;unfold Il;rw[<-e,Xm];rfl
 |s::r,pre,VQ,e,hl=>by
  have hx:T[pre.length]?=some s:=by rw[e];simp
  have VR:T.length=pre.length+(r.length+1):=by rw[e];simp
  have hd:=NC hD s
  obtain⟨x,b,e1,e2⟩:∃x b,zI L m s=some (x,b)/\x.Methods=XZ L s:=by
   rw[Us hm];unfold XZ
   cases cl L s with
   |none=>exact⟨_,_,rfl,rfl⟩
   |some x=>exact⟨_,_,rfl,rfl⟩
  rw[zH];show(Il L m T VQ (pre.length:Int)).bind _=_;unfold Il;rw[Xl hx,zo,hx];simp only[YF,Qa];rw[e1];simp only[Qa];have Fm:=ft x b (λf hf=>by rw[e2]at hf;have:=(hd.2 f hf).pars.1;omega) (by rw[e2];exact hd.1) x.Methods [] VQ rfl (by rw[e2];have:=hd.1;omega);rw[show(([]:Vu).length:Int)=0 from rfl]at Fm;rw[Fm,e2];rw[List.flatMap_cons,fd]
  cases ha:ZU VQ (XZ L s)with
  |none=>rfl
  |some a =>
   simp only[Qa,zE,Sum.elim];unfold eY;rw[zz YA]
   have hal:a.length<=10000*(pre++[s]).length:=by
    rw[y5 _ _ _ ha];simp only[Qx,Qw,Q6];have:=hd.1;omega
   have ih:=fq h hm hD hT r (pre++[s]) a (by rw[e];simp) hal;rw[show(pre++[s]).length=pre.length+1 by simp]at ih;exact ih
theorem aH(h:Xf l L)(hm:Xq L m)(hL:XQ L)(hD:∀c∈L,Zr L c):Pu L m c=some (Kq L c):=by
 have h52:=Eu h c.Name;unfold Pu;rw[uk h hm];simp only[Qa];have ho:=fq h hm hD h52 (XT L c.Name) [] [] rfl YC;rw[show(([]:Vs).length:Int)=0 from rfl]at ho;rw[ho]
 show(some (match ZU [] (KD L c.Name)with|some a=>Sum.inl a|none=>Sum.inr false):Option (Sum (Vu) Bool)).bind _=_
 rw[zGX];unfold Kq
 cases hb:((KD L c.Name).any λf=>(KD L c.Name).any λy=>X5 f y)with
 |true=>rfl
 |false =>
  simp only[YG,Qa,zE,QI,QD];unfold eX
  have VR:(KD L c.Name).length<=10000*52:=by
   unfold KD
   have:∀T:Vs,(T.flatMap (XZ L)).length<=10000*T.length:=λT=>by
    induction T with
    |nil=>simp
    |cons s T ih =>
     rw[List.flatMap_cons,Qx,Qw];have:=(NC hD s).1;omega
   have:=this (XT L c.Name);omega
  rw[tw h hm hL hD (c:=c) (T:=KD L c.Name) YA (λf hf=>by
   unfold KD at hf;obtain⟨s,hs,hf⟩:=J8.1 hf;have:=((NC hD s).2 f hf).pars.1
   omega)]
  cases c.Interface<;>rfl
def Ho(L:Vr):Int:=cond (L.any λc=>!Ks L c) 4 (cond (L.any λc=>!(Gr L c&&Kq L c)) 1 0)
theorem b7(h:Xf l L)(p:za->Bool):((L.map (·.Name)).any λn=>p (X0 L n))=L.any p:=by
 have hnd:Nd L:=h.nd;rw[List.any_map,QJ,QB,QB];constructor
 .rintro⟨c,hc,k⟩;refine⟨c,hc,?_⟩
  have:X0 L c.Name=c:=by unfold X0;rw[hnd.cl hc];rfl
  simpa[Function.comp,this]using k
 rintro⟨c,hc,k⟩;refine⟨c,hc,?_⟩
 have:X0 L c.Name=c:=by unfold X0;rw[hnd.cl hc];rfl
 simpa[Function.comp,this]using k
theorem Sm(h:Xf l L){n:Tx}(hn:(L.map (·.Name))[i]?=some n):∃c,c∈L/\cl L n=some c/\c.Name=n/\X0 L n=c:=by
 have hnd:Nd L:=h.nd;rw[Jn]at hn
 cases hc:L[i]? with
 |none=>rw[hc]at hn;cases hn
 |some c =>
  rw[hc]at hn
  have e:c.Name=n:=by simpa using hn
  have hcm:=Qc hc
  have h2:cl L n=some c:=by rw[<-e];exact hnd.cl hcm
  exact⟨c,hcm,h2,e,by unfold X0;rw[h2];rfl⟩
theorem zHF(h:Xf l L)(hm:Xq L m)(hL:XQ L)(hD:∀c∈L,Zr L c):BN (some (zu.mk L m))=some (Ho L):=by
 have h26:=h.len;unfold BN;simp only[ZG];rw[SL YA];simp only[Qa]
 rw[show zk (λz=>IC (zu.mk L m) (L.map (·.Name)) z) 0=some (XJ () ((L.map (·.Name)).findSome? (λn=>cond (!Ks L (X0 L n)) (some 4) none)))from Zq (λi n hn=>by
  have hi:=(Qb.1 hn).1;rw[QY]at hi;obtain⟨c,c1,c2,c3,c4⟩:=Sm h hn;have hs:=(hD c c1).small;show IC (zu.mk L m) (L.map (·.Name)) (i:Int)=_;unfold IC;rw[Xl hn,zo,hn];simp only[YF,Qa];rw[Us hm,c2];simp only[Qa];rw[a6 h hm hL hs.fields hs.methods,zz YA,c4]
  cases Ks L c<;>rfl) (by
  show IC (zu.mk L m) (L.map (·.Name)) ((L.map (·.Name)).length:Int)=_;unfold IC
  rw[Xm];rfl),z8,b7 h (λc=>!Ks L c)]
 unfold Ho
 cases(L.any λc=>!Ks L c)with
 |true=>rfl
 |false =>
  simp only[YG,XJ,Qa,zE];unfold ib;simp only;rw[SL YA];simp only[Qa]
  rw[show zk (λz=>IB (zu.mk L m) (L.map (·.Name)) z) 0=some (XJ () ((L.map (·.Name)).findSome? (λn=>cond (!(Gr L (X0 L n)&&Kq L (X0 L n))) (some 1) none)))from Zq (λi n hn=>by
   have hi:=(Qb.1 hn).1;rw[QY]at hi;obtain⟨c,c1,c2,c3,c4⟩:=Sm h hn;have hs:=(hD c c1).small;show IB (zu.mk L m) (L.map (·.Name)) (i:Int)=_;unfold IB;rw[Xl hn,zo,hn];simp only[YF,Qa];rw[Us hm,c2];simp only[Qa];rw[f0 h hm (λs=>(NC hD s).1) (by rw[c3];exact ZC c2) hs.methods,aH h hm hL hD,zz YA,c4]
   cases Gr L c<;>cases Kq L c<;>rfl) (by
   show IB (zu.mk L m) (L.map (·.Name)) ((L.map (·.Name)).length:Int)=_;unfold IB
   rw[Xm];rfl),z8,b7 h (λc=>!(Gr L c&&Kq L c))]
  cases(L.any λc=>!(Gr L c&&Kq L c))<;>rfl
theorem zHE(h:Xf l L)(hL:XQ L)(hD:∀c∈L,Zr L c):IE (some (zG.mk L))=some (Ho L):=by
 have h26:=h.len;unfold IE;simp only[ZG]
 rw[show zk (λz=>I1 (zG.mk L) z) 0=some (XJ () (L.findSome? (λc=>cond (!Ks L c) (some 4) none)))from Zq (λi c hn=>by
  have hi:=(Qb.1 hn).1;have hc:=Qc hn;show I1 (zG.mk L) (i:Int)=_;unfold I1;simp only;rw[Xl hn,zo,hn];simp only[YF,Qa];rw[zA2 h hL (hD c hc),zz YA]
  cases Ks L c<;>rfl) (by
  show I1 (zG.mk L) (L.length:Int)=_;unfold I1;simp only
  rw[Xm];rfl),z8]
 unfold Ho
 cases(L.any λc=>!Ks L c)with
 |true=>rfl
 |false =>
  simp only[YG,XJ,Qa,zE];unfold iM
  rw[show zk (λz=>I0 (zG.mk L) z) 0=some (XJ () (L.findSome? (λc=>cond (!(Gr L c&&Kq L c)) (some 1) none)))from Zq (λi c hn=>by
   have hi:=(Qb.1 hn).1;have hc:=Qc hn;show I0 (zG.mk L) (i:Int)=_;unfold I0;simp only;rw[Xl hn,zo,hn];simp only[YF,Qa];rw[zA1 h hL hD hc,zz YA]
   cases Gr L c<;>cases Kq L c<;>rfl) (by
   show I0 (zG.mk L) (L.length:Int)=_;unfold I0;simp only
   rw[Xm];rfl),z8]
  cases(L.any λc=>!(Gr L c&&Kq L c))<;>rfl
def vN(L:Vr)(n:Tx)(k:Int):Bool:=(kZ (some (zG.mk L)) n k).getD false
theorem dM(h:Xf l L)(hm:Xq L m)(hL:XQ L)(n:Tx)(k:Int):KV (some (zu.mk L m)) n k=some (vN L n k)/\gr L n k=some (vN L n k):=by
 obtain⟨v,v1,v2⟩:=zGD h hm hL n k
 have e:vN L n k=v:=by unfold vN;rw[v2];rfl
 rw[e];exact⟨v1,v2⟩
def RF(L:Vr)(c:za)(k:Nat):Bool:=match c.Methods[k]? with|some f=>!f.Abstract&&!vN L c.Name (k:Int)|none=>false
def UK(L:Vr)(c:za):Bool:=(List.range c.Methods.length).any (RF L c)
theorem tJ(h:Xf l L)(hm:Xq L m)(hL:XQ L){e:Int}(hc:c.Methods.length<=10000):zk (λz=>Ip (some (zu.mk L m),e) c z) 0=some (XJ () (cond (UK L c) (some (none,5)) none)):=by
 unfold UK;rw[<-z8]
 exact uv (λk hk=>by
  have hf:c.Methods[k]?=some c.Methods[k]:=Qe hk;show Ip (some (zu.mk L m),e) c (k:Int)=_;unfold Ip RF;rw[Xl hf,zo,hf];simp only[YF,Qa];rw[(dM h hm hL c.Name (k:Int)).1,zz YA]
  cases(c.Methods[k]).Abstract<;>cases vN L c.Name (k:Int)<;>rfl) (by
  show Ip (some (zu.mk L m),e) c (c.Methods.length:Int)=_;unfold Ip
  rw[Xm];rfl)
theorem aO(h:Xf l L)(hm:Xq L m)(hL:XQ L)(hn:∀c∈l,c.Methods.length<=10000){e:Int}:zk (λz=>Io l (some (zu.mk L m),e) z) 0=some (XJ () (cond (l.any (UK L)) (some (none,5)) none)):=by
 have h16:=h.few;rw[<-z8]
 exact Zq (λi c hc=>by
  have hi:=(Qb.1 hc).1;show Io l (some (zu.mk L m),e) (i:Int)=_;unfold Io;rw[Xl hc,zo,hc];simp only[YF,Qa];rw[tJ h hm hL (hn c (Qc hc))];unfold eZ;rw[zz YA]
  cases UK L c<;>rfl) (by
  show Io l (some (zu.mk L m),e) (l.length:Int)=_;unfold Io
  rw[Xm];rfl)
theorem zDH(h:Xf l L)(hm:Xq L m)(hL:XQ L)(hi:L[i]?=some c)(hc:c.Methods.length<=10000):zk (λz=>EX (i:Int) (zG.mk L) z) 0=some (XJ () (cond (UK L c) (some (none,5)) none)):=by
 unfold UK;rw[<-z8]
 exact uv (λk hk=>by
  have hf:c.Methods[k]?=some c.Methods[k]:=Qe hk;show EX (i:Int) (zG.mk L) (k:Int)=_;unfold EX RF;simp only;rw[zo L,hi];simp only[Qa];rw[Xl hf,zo,hf];simp only[YF,Qa];rw[(dM h hm hL c.Name (k:Int)).2,zz YA]
  cases(c.Methods[k]).Abstract<;>cases vN L c.Name (k:Int)<;>rfl) (by
  show EX (i:Int) (zG.mk L) (c.Methods.length:Int)=_;unfold EX;simp only;rw[zo L,hi];simp only[Qa]
  rw[Xm];rfl)
theorem ou(h:Xf l L)(hm:Xq L m)(hL:XQ L)(hn:∀c∈L,c.Methods.length<=10000):∀(r pre:Vr),L=pre++r->zk (λz=>Wo z.1 z.2) (some (zG.mk L),(pre.length:Int))=some (cond (r.any (UK L)) (.inr (none,5)) (.inl L))
 |[],pre,e=>by
  rw[Qy]at e;rw[zH];show(Wo (some (zG.mk L)) (pre.length:Int)).bind _=_;unfold Wo;simp only[ZG];rw[<-e,Xm];rfl
 |c::r,pre,e=>by
  have h26:=h.len
  have hx:L[pre.length]?=some c:=by rw[e];simp
  have VR:L.length=pre.length+(r.length+1):=by rw[e];simp
  rw[zH];show(Wo (some (zG.mk L)) (pre.length:Int)).bind _=_;unfold Wo;simp only[ZG];rw[Xl hx,zDH h hm hL hx (hn c (Qc hx))];rw[Q2]
  cases UK L c with
  |true=>rfl
  |false =>
   simp only[YF,YG,XJ,Qa,zE,QR];unfold o6;rw[zz YA];have ih:=ou h hm hL hn r (pre++[c]) (by rw[e];simp);rw[show(pre++[c]).length=pre.length+1 by simp]at ih;exact ih
theorem yV(h:Xf l L):L.any (UK L)=l.any (UK L):=by
 have hg:Lb.all (λc=>decide (c.Methods.length=0))=true:=by decide +kernel
 have e:Lb.any (UK L)=false:=by
  rw[Qq];intro c hc;have:=YO (Qr.1 hg c hc);unfold UK;rw[this];simp
 have e2:(Lb++l).any (UK L)=l.any (UK L):=by rw[List.any_append,e,QR]
 rw[<-h.app]at e2;exact e2
theorem f9(e:X9):Es e=some (X9.mk (e.C.take 12) (e.M.take 12)):=by unfold Es;rw[show(12:Int)=((12:Nat):Int)from rfl,GG,GG];rfl
variable {b:Bool}{v:List (Tx×zy)}{a:Vs}{L2:Vr}
theorem ZM{β S U R:Type}{body:S->Option (Sum S (Sum U R))}(mk:β->Int->S)(fi:β->U){l:List α}{f:β->α->β}{I:β->Nat->Prop}(hb:∀(i:Nat) x b,I b i->l[i]?=some x->body (mk b (i:Int))=some (.inl (mk (f b x) ((i+1:Nat):Int)))/\I (f b x) (i+1))(he:∀b,I b l.length->body (mk b (l.length:Int))=some (.inr (.inl (fi b)))){b0:β}(h0:I b0 0):zk body (mk b0 0)=some (.inl (fi (l.foldl f b0)))/\I (l.foldl f b0) l.length:=by
 have key:∀(r pre:List α) (b:β),l=pre++r->I b pre.length->zk body (mk b (pre.length:Int))=some (.inl (fi (r.foldl f b)))/\I (r.foldl f b) l.length:=by
  intro r
  induction r with
  |nil =>
   intro pre b e hI;rw[Qy]at e;subst e;rw[zH,he b hI];exact⟨rfl,hI⟩
  |cons x r ih =>
   intro pre b e hI
   have hx:l[pre.length]?=some x:=by rw[e];simp
   obtain⟨h1,h2⟩:=hb pre.length x b hI hx;rw[zH,h1];have:=ih (pre++[x]) (f b x) (by rw[e];simp) (by rw[Qx];exact h2);rw[show(pre++[x]).length=pre.length+1 by simp]at this;exact this
 exact key l [] b0 rfl h0
theorem vn:∀(d:Nat) (a x b:Vs),x.length<=d->(a++x++b).length<=1000000->
  zk (λz=>OG z.1 z.2.1 z.2.2) (a++x++b,((a.length:Nat):Int),(a.length:Int)+(x.length:Int)-1)=some (.inl (a++x.reverse++b))
 |d,a,x,b,hd,hl=>by
  rw[zH];show(OG (a++x++b) (a.length:Int) ((a.length:Int)+(x.length:Int)-1)).bind _=_;unfold OG;by_cases h2:x.length<2
  .rw[YI YA]
   have e:x.reverse=x:=by
    match x,h2 with
    |[],_=>rfl
    |[y],_=>rfl
   rw[e];rfl
  rw[YH YA]
  obtain⟨p,q,y,e⟩:∃p q y,x=p::(y++[q]):=by
   match x,h2 with
   |p::r,h2 =>
    have hr:r≠[]:=λe=>by subst e;simp at h2
    exact⟨p,r.getLast hr,r.dropLast,by rw[List.dropLast_concat_getLast hr]⟩
  subst e
  have hx:(p::(y++[q])).length=y.length+2:=YC
  have hJ:(a.length:Int)+((p::(y++[q])).length:Int)-1=((a.length+y.length+1:Nat):Int):=by rw[hx];omega
  rw[hJ,zo,zo]
  have g1:(a++p::(y++[q])++b)[a.length+y.length+1]?=some q:=by
   rw[show a++p::(y++[q])++b=(a++p::y)++(q::b)by simp,Qt (by simp;omega)];rw[show a.length+y.length+1-(a++p::y).length=0 by simp;omega];rfl
  have g2:(a++p::(y++[q])++b)[a.length]?=some p:=by
   rw[Q4,Qt (Qg _),Nat.sub_self];rfl
  have s1:(a++p::(y++[q])++b).set a.length q=(a++q::y)++(q::b):=by
   rw[Q4,List.set_append_right _ _ (Qg _),Nat.sub_self];simp
  have s2:((a++q::y)++(q::b)).set (a.length+y.length+1) p=(a++[q])++y++(p::b):=by
   rw[List.set_append_right _ _ (by simp;omega),show a.length+y.length+1-(a++q::y).length=0 by simp;omega];simp
  have g3:((a++q::y)++(q::b))[a.length+y.length+1]?=some q:=by
   rw[Qt (by simp;omega),show a.length+y.length+1-(a++q::y).length=0 by simp;omega];rfl
  rw[g1,g2];simp only[YF,Qa,Ja];rw[s1,zo,g3];simp only[Qa];rw[s2];rw[Qx,Qx,hx]at hl
  cases d with
  |zero=>rw[hx]at hd;omega
  |succ d =>
   have ih:=vn d (a++[q]) y (p::b) (by rw[hx]at hd;omega) (by simp only[Qx,Qw,Q6];omega);rw[zz YA,ZA YA YA]
   have e1:((a++[q]).length:Int)=((a.length+1:Nat):Int):=YC
   have e2:((a++[q]).length:Int)+(y.length:Int)-1=((a.length+y.length+1:Nat):Int)-1:=by rw[e1];omega
   rw[e2,e1]at ih;show zk (λz=>OG z.1 z.2.1 z.2.2) ((a++[q])++y++(p::b),((a.length+1:Nat):Int),((a.length+y.length+1:Nat):Int)-1)=_;rw[ih];simp
theorem zDL{l:Vs}(h:l.length<=1000000):Rk l=some l.reverse:=by unfold Rk;rw[ZA YA YA];have:=vn l.length [] l [] (Qg _) (by simpa using h);simp only[Jo,Qy,Q6]at this;rw[show((0:Nat):Int)+(l.length:Int)-1=(l.length:Int)-1 by omega]at this;rw[show(0:Int)=((0:Nat):Int)from rfl,this];rfl
def Ls(n x:Tx):Tx:=n++[46]++x
def wF(n:Tx)(a:Vs)(f:zh):Vs:=cond (!f.Static) (a++[Ls n f.Name]) a
def wC(a:Vs)(c:za):Vs:=c.Fields.foldl (wF c.Name) a
def GY(cs:Vr):Vs:=cs.foldl wC []
def sF(a:Vs)(f:zb):Vs:=cond (((!f.Static)&&(!f.Abstract))&&!(a.any λy=>f.Name==y)) (a++[f.Name]) a
def sC(a:Vs)(c:za):Vs:=c.Methods.foldl sF a
def D5(cs:Vr):Vs:=cs.foldl sC []
theorem fu{α β:Type}{f:List β->α->List β}(h:∀a x,∃t,f a x=a++t):∀(l:List α) (a:List β),∃t,l.foldl f a=a++t
 |[],a=>⟨[],YC⟩
 |x::r,a=>by
  obtain⟨t,e⟩:=h a x;obtain⟨u,k⟩:=fu h r (f a x);exact⟨t++u,by rw[Qz,k,e,Q4]⟩
section
variable {t me st:Vs}
def XS(L:Vr)(n:Tx):Vr:=(Xh L n).reverse.map (X0 L)
theorem vL{d:Nat}:∀{d:Nat} {n:Tx},Ki L d n=true->LE L (d+1) n=LE L d n
 |0,n,h=>by
  have:Xi L n=false:=by simpa[Ki]using h
  show(match cl L n with|none=>[]|some c=>n::LE L 0 c.Super)=[]
  cases hc:cl L n with
  |none=>rfl
  |some c=>rw[ZC hc]at this;cases this
 |d+1,n,h=>by
  show(match cl L n with|none=>[]|some c=>n::LE L (d+1) c.Super)=(match cl L n with|none=>[]|some c=>n::LE L d c.Super)
  unfold Ki at h
  cases hc:cl L n with
  |none=>rfl
  |some c =>
   rw[hc]at h;show n::LE L (d+1) c.Super=n::LE L d c.Super;rw[vL (d:=d) h]
theorem Eo(h:Xf l L){n:Tx}(hc:cl L n=some c):Xh L n=n::Xh L c.Super:=by
 have hf:=xA h.toWf n;unfold Xh
 cases hL:L.length with
 |zero=>have:=Qf hL;subst this;cases hc
 |succ d =>
  rw[hL]at hf;unfold Ki at hf;rw[hc]at hf;rw[vL (d:=d) hf]
  show(match cl L n with|none=>[]|some c=>n::LE L d c.Super)=_
  rw[hc]
theorem zC4(h:Xf l L){n:Tx}(hc:cl L n=some c):XS L n=XS L c.Super++[c]:=by unfold XS;rw[Eo h hc,List.reverse_cons,Jt];congr 1;show[X0 L n]=[c];unfold X0;rw[hc];rfl
theorem SO(h:Xf l L){n:Tx}(hc:c∈XS L n):c∈L/\c.Name∈Xh L n:=by
 unfold XS at hc;obtain⟨x,hx,e⟩:=QP.1 hc;rw[JB]at hx;obtain⟨d,hd⟩:=XY (Ul h _ n x hx).1
 have:X0 L x=d:=by unfold X0;rw[hd];rfl
 rw[this]at e;subst e;exact⟨(XG hd).1,by rw[(XG hd).2];exact hx⟩
theorem bq(h:Xf l L)(n:Tx):(XS L n).length<=26:=by unfold XS;rw[QY,List.length_reverse];exact Z4 h n
theorem y9(h:Xf l L)(hm:Xq L m)(n:Tx):PZ L m t me st n=some (XS L n):=by
 have h26:=Z4 h n;unfold PZ;rw[Dj h hm];simp only[Qa];rw[zDL YA];simp only[Qa]
 have hl:=(ZM (β:=Vr) (S:=Vr×Int) (U:=Vr) (R:=Vr) (body:=λz=>Oo L m (Xh L n).reverse z.1 z.2) (λb i=>(b,i)) (λb=>b)
  (l:=(Xh L n).reverse) (f:=λa x=>a++[X0 L x]) (I:=λb i=>b.length=i/\i<=(Xh L n).length) (λi x b hI hx=>by
   have hi:=(Qb.1 hx).1;rw[List.length_reverse]at hi;obtain⟨c,hc⟩:=XY (Ul h _ n x (JB.1 (Qc hx))).1
   have e:X0 L x=c:=by unfold X0;rw[hc];rfl
   refine⟨?_,by simp[hI.1],YA⟩;show Oo L m (Xh L n).reverse b (i:Int)=_;unfold Oo;rw[Xl hx,zo,hx];simp only[YF,Qa];rw[Us hm,hc];simp only[Qa];rw[XH (by simp;omega) (by simp;omega),zz YA,e]
   rfl) (λb hI=>by
   show Oo L m (Xh L n).reverse b ((Xh L n).reverse.length:Int)=_;unfold Oo
   rw[Xm];rfl) (b0:=[]) ⟨rfl,Qk _⟩).1
 rw[show zk (λz=>Oo L m (Xh L n).reverse z.1 z.2) ([],0)=_ from hl]
 have e:∀(r:Vs) (a:Vr),r.foldl (λa x=>a++[X0 L x]) a=a++r.map (X0 L):=by
  intro r
  induction r with
  |nil=>intro a;simp
  |cons x r ih=>intro a;rw[Qz,ih];simp
 rw[e];rfl
theorem aX(hc:XI c){k:Nat}(ha:a.length<=10000*k)(hk:k<=1000):zk (λz=>OB c z.1 z.2) (a,0)=some (.inl (wC a c))/\(wC a c).length<=10000*(k+1):=by
 have hF:=hc.fields.len
 have:=ZM (β:=Vs) (S:=Vs×Int) (U:=Vs) (R:=Vs) (body:=λz=>OB c z.1 z.2) (λb i=>(b,i)) (λb=>b)
  (l:=c.Fields) (f:=wF c.Name) (I:=λb i=>b.length<=10000*k+i/\i<=c.Fields.length) (λi x b hI hx=>by
   have hi:=(Qb.1 hx).1;have hn:=hc.name;have hxn:=(hc.fields.all x (Qc hx)).name;unfold FS at hn hxn;have hI1:=hI.1;constructor;.show OB c b (i:Int)=_;unfold OB AO wF;rw[Xl hx,zo,hx,Z3 (by simp;omega)];simp only[YF,Qa];rw[Z3 (by simp;omega)];simp only[Qa];rw[XH (by simp;omega) (by simp;omega),zz YA];cases x.Static<;>rfl
   .refine⟨?_,YA⟩;unfold wF
    cases x.Static<;>simp<;>omega) (λb hI=>by
   show OB c b (c.Fields.length:Int)=_;unfold OB
   rw[Xm];rfl) (b0:=a) ⟨ha,Qk _⟩
 refine⟨this.1,?_⟩;have h2:=this.2.1;show(c.Fields.foldl (wF c.Name) a).length<=_;omega
theorem aY(h:Xf l L)(hm:Xq L m)(hF:∀c∈L,XI c)(n:Tx):P7 L m t me st n=some (GY (XS L n))/\(GY (XS L n)).length<=260000:=by
 have h26:=bq h n;unfold P7;rw[y9 h hm];simp only[Qa]
 have:=ZM (β:=Vs) (S:=Vs×Int) (U:=Vs) (R:=Vs) (body:=λz=>OA (XS L n) z.1 z.2) (λb i=>(b,i)) (λb=>b)
  (l:=XS L n) (f:=wC) (I:=λb i=>b.length<=10000*i/\i<=(XS L n).length) (λi x b hI hx=>by
   have hi:=(Qb.1 hx).1;obtain⟨w1,w2⟩:=aX (hF x (SO h (Qc hx)).1) hI.1 YA;refine⟨?_,w2,YA⟩;show OA (XS L n) b (i:Int)=_;unfold OA;rw[Xl hx,zo,hx];simp only[YF,Qa];rw[w1];show some (Sum.inl (wC b x,i64.wrap ((i:Int)+1)))=_
   rw[zz YA]) (λb hI=>by
   show OA (XS L n) b ((XS L n).length:Int)=_;unfold OA
   rw[Xm];rfl) (b0:=[]) ⟨Qk _,Qk _⟩
 rw[show zk (λz=>OA (XS L n) z.1 z.2) ([],0)=_ from this.1];refine⟨rfl,?_⟩;have h2:=this.2.1;show((XS L n).foldl wC []).length<=_;omega
theorem cw(hc:XI c){k:Nat}(ha:a.length<=10000*k)(hk:k<=1000):zk (λz=>OD c z.1 z.2) (a,0)=some (.inl (sC a c))/\(sC a c).length<=10000*(k+1):=by
 have hF:=hc.methods.len
 have:=ZM (β:=Vs) (S:=Vs×Int) (U:=Vs) (R:=Vs) (body:=λz=>OD c z.1 z.2) (λb i=>(b,i)) (λb=>b)
  (l:=c.Methods) (f:=sF) (I:=λb i=>b.length<=10000*k+i/\i<=c.Methods.length) (λi x b hI hx=>by
   have hi:=(Qb.1 hx).1;have hI1:=hI.1;constructor;.show OD c b (i:Int)=_;unfold OD AP sF;rw[Xl hx,zo,hx];simp only[YF,Qa];rw[Sb (by unfold XP;omega),XH (by simp;omega) (by simp;omega),zz YA];cases x.Static<;>cases x.Abstract<;>cases(b.any λy=>x.Name==y)<;>rfl
   .refine⟨?_,YA⟩;unfold sF
    cases(((!x.Static)&&(!x.Abstract))&&!(b.any λy=>x.Name==y))<;>simp<;>omega) (λb hI=>by
   show OD c b (c.Methods.length:Int)=_;unfold OD
   rw[Xm];rfl) (b0:=a) ⟨ha,Qk _⟩
 refine⟨this.1,?_⟩;have h2:=this.2.1;show(c.Methods.foldl sF a).length<=_;omega
theorem vj(h:Xf l L)(hm:Xq L m)(hF:∀c∈L,XI c)(n:Tx):AI L m t me st n=some (D5 (XS L n))/\(D5 (XS L n)).length<=260000:=by
 have h26:=bq h n;unfold AI;rw[y9 h hm];simp only[Qa]
 have:=ZM (β:=Vs) (S:=Vs×Int) (U:=Vs) (R:=Vs) (body:=λz=>OC (XS L n) z.1 z.2) (λb i=>(b,i)) (λb=>b)
  (l:=XS L n) (f:=sC) (I:=λb i=>b.length<=10000*i/\i<=(XS L n).length) (λi x b hI hx=>by
   have hi:=(Qb.1 hx).1;obtain⟨w1,w2⟩:=cw (hF x (SO h (Qc hx)).1) hI.1 YA;refine⟨?_,w2,YA⟩;show OC (XS L n) b (i:Int)=_;unfold OC;rw[Xl hx,zo,hx];simp only[YF,Qa];rw[w1];show some (Sum.inl (sC b x,i64.wrap ((i:Int)+1)))=_
   rw[zz YA]) (λb hI=>by
   show OC (XS L n) b ((XS L n).length:Int)=_;unfold OC
   rw[Xm];rfl) (b0:=[]) ⟨Qk _,Qk _⟩
 rw[show zk (λz=>OC (XS L n) z.1 z.2) ([],0)=_ from this.1];refine⟨rfl,?_⟩;have h2:=this.2.1;show((XS L n).foldl sC []).length<=_;omega
def Uh:Nat->Vs->Tx->Vs
 |0,a,t=>a
 |d+1,a,t=>cond ((XK t).2&&!(a.any λy=>t==y)) (Uh d (a++[t]) (XK t).1) a
def UL(a:Vs)(t:Tx):Vs:=Uh t.length a t
theorem b5{t:Tx}(h:(XK t).2=true):(XK t).1.length+1=t.length/\Xr t=true:=by
 unfold XK at h ⊢
 cases hc:(Xr t&&Lu t)with
 |false=>rw[hc]at h;cases h
 |true =>
  rw[Qd]at hc;have:=(Hy hc.2).2
  have h2:0<t.length:=by rw[this];simp
  exact⟨by simp;omega,hc.1⟩
theorem b6:∀(d:Nat) (a:Vs) (t:Tx),t.length=d->a.length+d<=1000000000000->Lf t->
  zk (λz=>AN z.1 z.2.1 z.2.2.1 z.2.2.2) (a,t,(XK t).1,(XK t).2)=some (.inl (Uh d a t))
 |d,a,t,hd,ha,hl=>by
  rw[zH];show(AN a t (XK t).1 (XK t).2).bind _=_;unfold AN
  cases h2:(XK t).2 with
  |false =>
   have e:Uh d a t=a:=by
    cases d with
    |zero=>rfl
    |succ d=>unfold Uh;rw[h2];rfl
   rw[e];rfl
  |true =>
   obtain⟨k1,k2⟩:=b5 h2
   cases d with
   |zero=>omega
   |succ d =>
    unfold Uh;rw[Sb (by unfold XP;omega),h2]
    cases hh:(a.any λy=>t==y)with
    |true=>rfl
    |false =>
     have hl2:Lf (XK t).1:=by unfold Lf at *;omega
     simp only[YF,Qa,QI,QD];rw[XH (by simp;omega) (by simp;omega),Wn hl2];exact b6 d (a++[t]) (XK t).1 YA (by simp;omega) hl2
theorem vV:∀(d:Nat) (a:Vs) (t:Tx),a.length<=(Uh d a t).length/\(Uh d a t).length<=a.length+d
 |0,a,t=>⟨Qg _,Qg _⟩
 |d+1,a,t=>by
  unfold Uh
  cases((XK t).2&&!(a.any λy=>t==y))with
  |false=>simp
  |true =>
   have:=vV d (a++[t]) (XK t).1;simp only[Qx,Qw,Q6]at this;simp only[YF];omega
theorem Sv(a:Vs)(t:Tx):(UL a t).length<=a.length+25:=by
 unfold UL
 cases h:(XK t).2 with
 |false =>
  have e:Uh t.length a t=a:=by
   cases t.length with
   |zero=>rfl
   |succ d=>unfold Uh;rw[h];rfl
  rw[e];omega
 |true =>
  have h1:=KK (b5 h).2;have h2:=vV t.length a t;omega
theorem up{x:Tx}(ha:a.length<=900000000000)(hx:FS x):I6 L m a me st x=some (UL a x):=by
 unfold FS at hx;unfold I6
 have hl:Lf x:=by unfold Lf;omega
 rw[Wn hl];simp only[Qa];rw[b6 x.length a x rfl YA hl];rfl
def ZV(a:Vs)(x:zp):Vs:=cond (x.Op==(50:Int)) (UL a (Ug x.C)) (cond ((x.Op==(56:Int))||(x.Op==(57:Int))) (UL a x.C) a)
theorem fk(a:Vs)(x:zp):(ZV a x).length<=a.length+25:=by
 unfold ZV;have h1:=Sv a (Ug x.C);have h2:=Sv a x.C
 cases(x.Op==(50:Int))<;>cases((x.Op==(56:Int))||(x.Op==(57:Int)))<;>simp only[YF,YG]<;>omega
theorem xI{C:Tx}(h:C.length<=1000):(Ug C).length<=1001:=by unfold Ug;cases Xr (91::C)<;>simp<;>omega
theorem lR(ha:a.length<=900000000000)(hx:x.C.length<=25):Ae L m a me st x=some (ZV a x):=by have h1:=xI (C:=x.C) YA;unfold Ae Ay ZV;rw[T3 YA,up ha (by unfold FS;omega)];simp only[Qa];rw[up ha (by unfold FS;omega)];cases(x.Op==(50:Int))<;>cases(x.Op==(56:Int))<;>cases(x.Op==(57:Int))<;>rfl
def nF(n:Tx)(p:Vs×Vs)(f:zh):Vs×Vs:=(UL p.1 f.Type_,cond f.Static (p.2++[Ls n f.Name]) p.2)
def nM(n:Tx)(p:Vs×Vs)(f:zb):Vs×Vs:=(f.Code.foldl ZV p.1,p.2++[Ls n f.Name])
def nC(p:Vs×Vs×Vs)(c:za):Vs×Vs×Vs:=
 let q:=c.Fields.foldl (nF c.Name) (p.1,p.2.2)
 let r:=c.Methods.foldl (nM c.Name) (q.1,p.2.1)
 (r.1,r.2,q.2)
def Xy(L:Vr):Vs×Vs×Vs:=L.foldl nC (L.map (·.Name)++[[91,73]],[],[])
theorem fT{A B D K1 K2 K:Nat}(hK:K1+K2<=K)(h1:A<=B+K1+K2)(h2:B<=D+K*i):A<=D+K*(i+1):=QK h1 (by rw[Nat.mul_succ,<-QW,QW B];exact Nat.add_le_add h2 hK)
theorem fS{A B:Nat}(h1:A<=B+10000)(h2:B<=10000*i):A<=10000*(i+1):=by omega
theorem fR{A B C K:Nat}(h1:A<=B+K)(h2:B<=C+K*i):A<=C+K*(i+1):=QK h1 (by rw[Nat.mul_succ,<-QW];exact Yf h2 K)
theorem zHN{x:zu}{f:zb}(hf:DN f)(ha:a.length<=800000000000):zk (λz=>Ww x st f me z.1 z.2) (a,0)=some (.inl (f.Code.foldl ZV a))/\(f.Code.foldl ZV a).length<=a.length+250000:=by
 have hF:=hf.code.1
 have:=ZM (β:=Vs) (S:=Vs×Int) (U:=Vs) (R:=Vr×List (Tx×Int)×Vs×Vs×Vs) (body:=λz=>Ww x st f me z.1 z.2) (λb i=>(b,i)) (λb=>b)
  (l:=f.Code) (f:=ZV) (I:=λb i=>b.length<=a.length+25*i/\i<=f.Code.length) (λi y b hI hx=>by
   have hi:=(Qb.1 hx).1;have hI1:=hI.1;have hl:=fk b y;refine⟨?_,YA,YA⟩;show Ww x st f me b (i:Int)=_;unfold Ww;rw[Xl hx,zo,hx];simp only[YF,Qa];rw[lR YA (hf.code.2 y (Qc hx)),zz YA]
   rfl) (λb hI=>by
   show Ww x st f me b (f.Code.length:Int)=_;unfold Ww
   rw[Xm];rfl) (b0:=a) ⟨Qg _,Qk _⟩
 refine⟨this.1,?_⟩;have h2:=this.2.1;omega
theorem zDw{x:zu}{n:Tx}(hn:FS n)(hc:XI c){a:Vs×Vs}(ha:a.1.length<=700000000000)(ha2:a.2.length<=1000000):zk (λz=>Wx x me n (c,b) z.1 z.2.1 z.2.2) (a.1,a.2,0)=some (.inl (c.Fields.foldl (nF n) a))/\(c.Fields.foldl (nF n) a).1.length<=a.1.length+250000/\(c.Fields.foldl (nF n) a).2.length<=a.2.length+10000:=by
 have hF:=hc.fields.len
 have:=ZM (β:=Vs×Vs) (S:=Vs×Vs×Int) (U:=Vs×Vs) (R:=Vr×List (Tx×Int)×Vs×Vs×Vs) (body:=λz=>Wx x me n (c,b) z.1 z.2.1 z.2.2) (λb i=>(b.1,b.2,i)) (λb=>b)
  (l:=c.Fields) (f:=nF n) (I:=λb i=>b.1.length<=a.1.length+25*i/\b.2.length<=a.2.length+i/\i<=c.Fields.length) (λi y b hI hx=>by
   have hi:=(Qb.1 hx).1;have hI1:=hI.1;have hI2:=hI.2.1;have hy:=hc.fields.all y (Qc hx);have hyn:=hy.name;unfold FS at hn hyn;have hl:=Sv b.1 y.Type_;refine⟨?_,?_,?_,YA⟩;.show Wx x me n (c,_) b.1 b.2 (i:Int)=_;unfold Wx TP;simp only;rw[Xl hx,zo,hx];simp only[YF,Qa];rw[up YA hy.type,Z3 (by simp;omega)];simp only[Qa];rw[Z3 (by simp;omega)];simp only[Qa];rw[XH (by simp;omega) (by simp;omega),zz YA];unfold nF;cases y.Static<;>rfl
   .show(UL b.1 y.Type_).length<=_;omega
   .show(cond y.Static (b.2++[Ls n y.Name]) b.2).length<=_
    cases y.Static<;>simp<;>omega) (λb hI=>by
   show Wx x me n (c,_) b.1 b.2 (c.Fields.length:Int)=_;unfold Wx;simp only
   rw[Xm];rfl) (b0:=a) ⟨Qg _,Qg _,Qk _⟩
 refine⟨this.1,?_,?_⟩;.have h2:=this.2.1;omega
 have h2:=this.2.2.1;omega
theorem zAP{x:zu}{n:Tx}(hn:FS n)(hc:XI c)(hs:∀f∈c.Methods,DN f){a:Vs×Vs}(ha:a.1.length<=700000000000)(ha2:a.2.length<=1000000):zk (λz=>Wv x n (c,b) st z.1 z.2.1 z.2.2) (a.1,a.2,0)=some (.inl (c.Methods.foldl (nM n) a))/\(c.Methods.foldl (nM n) a).1.length<=a.1.length+2500000000/\(c.Methods.foldl (nM n) a).2.length<=a.2.length+10000:=by
 have hF:=hc.methods.len
 have:=ZM (β:=Vs×Vs) (S:=Vs×Vs×Int) (U:=Vs×Vs) (R:=Vr×List (Tx×Int)×Vs×Vs×Vs) (body:=λz=>Wv x n (c,b) st z.1 z.2.1 z.2.2) (λb i=>(b.1,b.2,i)) (λb=>b)
  (l:=c.Methods) (f:=nM n) (I:=λb i=>b.1.length<=a.1.length+250000*i/\b.2.length<=a.2.length+i/\i<=c.Methods.length) (λi y b hI hx=>by
   have hi:=(Qb.1 hx).1;have hI1:=hI.1;have hI2:=hI.2.1;have hy:=hc.methods.all y (Qc hx);have hyn:=hy.name;unfold FS at hn hyn;obtain⟨l1,l2⟩:=zHN (x:=x) (st:=st) (me:=b.2++[Ls n y.Name]) (hs y (Qc hx)) (a:=b.1) YA;refine⟨?_,fR l2 hI1,?_,JX hi⟩;.clear l2;show Wv x n (c,_) st b.1 b.2 (i:Int)=_;unfold Wv;simp only;rw[Xl hx,zo,hx,Z3 (by simp;omega)];simp only[YF,Qa];rw[Z3 (by simp;omega)];simp only[Qa];rw[XH (by simp;omega) (by simp;omega)];simp only[Qa];rw[show zk (λz=>Ww x st y (b.2++[n++[46]++y.Name]) z.1 z.2) (b.1,0)=_ from l1];show some (Sum.inl (_,_,i64.wrap ((i:Int)+1)))=_;rw[zz YA];rfl
   .show(b.2++[Ls n y.Name]).length<=_;clear l1 l2
    simp;omega) (λb hI=>by
   show Wv x n (c,_) st b.1 b.2 (c.Methods.length:Int)=_;unfold Wv;simp only
   rw[Xm];rfl) (b0:=a) ⟨Qg _,Qg _,Qk _⟩
 refine⟨this.1,?_,?_⟩;.have h2:=this.2.1;omega
 have h2:=this.2.2.1;omega
theorem oY(h:Xf l L)(hm:Xq L m)(hF:∀c∈L,XI c)(hD:∀c∈L,Zr L c):Bz (some (zu.mk L m))=some (L,m,Xy L)/\(Xy L).1.length<=70000000000/\(Xy L).2.1.length<=260000/\(Xy L).2.2.length<=260000:=by
 have h26:=h.len;unfold Bz;simp only[ZG];rw[SL YA];simp only[Qa];rw[XH (by simp;omega) (by simp;omega)];simp only[Qa];have VR:(L.map (·.Name)).length=L.length:=QY ..
 have:=ZM (β:=Vs×Vs×Vs) (S:=Vs×Vs×Vs×Int) (U:=Vs×Vs×Vs) (R:=Vr×List (Tx×Int)×Vs×Vs×Vs) (body:=λz=>BQ (zu.mk L m) (L.map (·.Name)) z.1 z.2.1 z.2.2.1 z.2.2.2) (λb i=>(b.1,b.2.1,b.2.2,i)) (λb=>b)
  (l:=L.map (·.Name)) (f:=λp n=>nC p (X0 L n)) (I:=λb i=>b.1.length<=27+2600000000*i/\b.2.1.length<=10000*i/\b.2.2.length<=10000*i/\i<=L.length) (λi n b hI hx=>by
   have hi:=(Qb.1 hx).1;rw[VR]at hi;obtain⟨c,c1,c2,c3,c4⟩:=Sm h hx;subst c3;obtain⟨i1,i2,i3,i4⟩:=hI;have hc:=hF c c1;have hs:=(hD c c1).small;obtain⟨f1,f2,f3⟩:=zDw (x:=zu.mk L m) (me:=b.2.1) (b:=true) hc.name hc (a:=(b.1,b.2.2)) (by show b.1.length<=_;omega) (by show b.2.2.length<=_;omega);have g2:(c.Fields.foldl (nF c.Name) (b.1,b.2.2)).1.length<=b.1.length+250000:=f2;have g3:(c.Fields.foldl (nF c.Name) (b.1,b.2.2)).2.length<=b.2.2.length+10000:=f3;obtain⟨m1,m2,m3⟩:=zAP (x:=zu.mk L m) (st:=(c.Fields.foldl (nF c.Name) (b.1,b.2.2)).2) (b:=true) hc.name hc hs.methods.2 (a:=((c.Fields.foldl (nF c.Name) (b.1,b.2.2)).1,b.2.1)) (by show(c.Fields.foldl (nF c.Name) (b.1,b.2.2)).1.length<=_;omega) (by show b.2.1.length<=_;omega);rw[c4];refine⟨?_,fT YB (QK m2 (Yf g2 _)) i1,fS m3 i2,fS f3 i3,JX hi⟩;clear m2 m3 f2 f3 g2 g3;show BQ (zu.mk L m) (L.map (·.Name)) b.1 b.2.1 b.2.2 (i:Int)=_;unfold BQ;rw[Xl hx,zo,hx];simp only[YF,Qa];rw[Us hm,c2];simp only[Qa];rw[show zk (λz=>Wx (zu.mk L m) b.2.1 c.Name (c,true) z.1 z.2.1 z.2.2) (b.1,b.2.2,0)=_ from f1];simp only[Qa,zE];unfold ei;rw[show zk (λz=>Wv (zu.mk L m) c.Name (c,true) (c.Fields.foldl (nF c.Name) (b.1,b.2.2)).2 z.1 z.2.1 z.2.2) ((c.Fields.foldl (nF c.Name) (b.1,b.2.2)).1,b.2.1,0)=_ from m1];show some (Sum.inl (_,_,_,i64.wrap ((i:Int)+1)))=_;rw[zz YA]
   rfl) (λb hI=>by
   show BQ (zu.mk L m) (L.map (·.Name)) b.1 b.2.1 b.2.2 ((L.map (·.Name)).length:Int)=_;unfold BQ
   rw[Xm];rfl) (b0:=(L.map (·.Name)++[[91,73]],[],[])) ⟨by simp;omega,Qk _,Qk _,Qk _⟩
 have e:(L.map (·.Name)).foldl (λp n=>nC p (X0 L n)) (L.map (·.Name)++[[91,73]],[],[])=Xy L:=by
  unfold Xy;rw[List.foldl_map];have hnd:Nd L:=h.nd
  have:∀(r:Vr) p,(∀c∈r,c∈L)->r.foldl (λp c=>nC p (X0 L c.Name)) p=r.foldl nC p:=by
   intro r
   induction r with
   |nil=>intro p _;rfl
   |cons c r ih =>
    intro p hr;rw[Qz,Qz]
    have:X0 L c.Name=c:=by unfold X0;rw[hnd.cl (hr c YC)];rfl
    rw[this];exact ih _ (λd hd=>hr d (by simp[hd]))
  exact this L _ (λc hc=>hc)
 rw[e]at this;rw[show zk (λz=>BQ (zu.mk L m) (L.map (·.Name)) z.1 z.2.1 z.2.2.1 z.2.2.2) (L.map (·.Name)++[[91,73]],[],[],0)=_ from this.1];obtain⟨i1,i2,i3,i4⟩:=this.2;rw[VR]at i1 i2 i3;exact⟨rfl,YA,YA,YA⟩
end
theorem s7(l:Vr)(e:X9):Er (G6.mk l e [] 0)=some (G6.mk (RH l) (X9.mk (e.C.take 12) (e.M.take 12)) [] 0):=by unfold Er;simp only;have h1:(XR ([]:List Int) 0 (if 30<((([]:List Int).length:Nat):Int)then 30 else((([]:List Int).length:Nat):Int)))=some []:=rfl;have h2:Xu 4 ([]:List Int) []=some []:=XH YC YC;have h3:RD 0 600=some 0:=rfl;have h4:RD (i64.wrap (0+600)) 600=some 0:=rfl;rw[h1];simp only[Qa];rw[h2,h3];simp only[Qa];rw[h4,zAB,f9];rfl
section
variable {m2 d:List (Tx×Int)} {t me st s:Vs}
theorem PA{l:List (List UInt8)}(hl:XP l)(n:List UInt8):Ha l n=some (Lq (λy=>n==y) 0 l):=by unfold Ha;exact Zt (p:=λy:List UInt8=>n==y) hl (λi x hx=>by unfold M1;rw[Xl hx,zo,hx];rfl) (by unfold M1;rw[Xm];rfl)
theorem ud{x:Vs}(h:x.length<=8000000000000):KL x=some x:=by unfold KL;rw[XH (by simp;omega) (by simp;omega)];simp
theorem Hw(ht:t.length<=70000000000)(n:Tx):Gm L m t me st n=some (Lq (λy=>n==y) 0 t):=by unfold Gm AH;rw[ud YA];simp only[Qa];rw[PA YA];rfl
theorem SZ(hm:me.length<=1000000){c n:Tx}(hc:c.length<=1000000)(hn:n.length<=1000000):Ou L m t me st c n=some (Lq (λy=>Ls c n==y) 0 me):=by unfold Ou AS;rw[ud YA];simp only[Qa];rw[Z3 (by simp;omega)];simp only[Qa];rw[Z3 (by simp;omega)];simp only[Qa];rw[PA YA];rfl
theorem oe(hm:st.length<=1000000){c n:Tx}(hc:c.length<=1000000)(hn:n.length<=1000000):MU L m t me st c n=some (Lq (λy=>Ls c n==y) 0 st):=by unfold MU gA;rw[ud YA];simp only[Qa];rw[Z3 (by simp;omega)];simp only[Qa];rw[Z3 (by simp;omega)];simp only[Qa];rw[PA YA];rfl
theorem fI(h:Xf l L)(hm:Xq L m)(hF:∀c∈L,XI c)(c n:Tx):Oa L m t me st c n=some (Lq (λy=>n==y) 0 (D5 (XS L c))):=by obtain⟨s1,s2⟩:=vj (t:=t) (me:=me) (st:=st) h hm hF c;unfold Oa;rw[s1];simp only[Qa];rw[PA YA];rfl
def UO(L:Vr)(c n:Tx):FR:=((Xh L c).findSome? (Ud L n)).getD ([],zF,false)
def ZJ(L:Vr)(c n:Tx):MR:=((Xh L c).findSome? (X4 L ZY n)).getD ([],zM,false)
theorem NJ(hF:∀c∈L,XI c)(c n:Tx):FS (UO L c n).1/\FS (UO L c n).2.1.Type_:=by
 unfold UO
 cases hh:(Xh L c).findSome? (Ud L n)with
 |none=>exact⟨Qk _,Qk _⟩
 |some r =>
  obtain⟨x,hx,e⟩:=QQ hh;unfold Ud at e
  cases hc:cl L x with
  |none=>rw[hc]at e;cases e
  |some k =>
   rw[hc]at e;simp only at e;obtain⟨k1,k2⟩:=XG hc
   cases hf:k.Fields.find? (λy=>y.Name==n)with
   |none=>rw[hf]at e;cases e
   |some f =>
    rw[hf]at e;simp only[Option.some.injEq]at e;subst e;exact⟨by show FS x;rw[<-k2];exact(hF k k1).name,((hF k k1).fields.all f (QG hf)).type⟩
theorem wq(hF:∀c∈L,XI c){n:Tx}:FS ((T.findSome? (X4 L q n)).getD ([],zM,false)).1:=by
 cases hh:T.findSome? (X4 L q n)with
 |none=>exact Qk _
 |some r =>
  obtain⟨x,hx,e⟩:=QQ hh;unfold X4 at e
  cases hc:cl L x with
  |none=>rw[hc]at e;cases e
  |some k =>
   rw[hc]at e;simp only at e;obtain⟨k1,k2⟩:=XG hc
   cases hf:k.Methods.find? (λy=>y.Name==n)with
   |none=>rw[hf]at e;cases e
   |some f =>
    rw[hf]at e;simp only at e
    cases hq:q f with
    |false=>rw[hq]at e;cases e
    |true =>
     rw[hq]at e;simp only[YF,Option.some.injEq]at e;subst e;show FS x;rw[<-k2];exact(hF k k1).name
theorem y7(hF:∀c∈L,XI c)(c n:Tx):FS (Ux L c n).1:=by
 unfold Ux
 cases Lg L c with
 |false=>exact Qk _
 |true=>exact wq hF
theorem fH(h:Xf l L)(hm:Xq L m)(hF:∀c∈L,XI c){c n:Tx}(hn:n.length<=1000000):IK L m t me st c n=some (Lq (λy=>Ls (UO L c n).1 n==y) 0 (GY (XS L c))):=by obtain⟨s1,s2⟩:=aY (t:=t) (me:=me) (st:=st) h hm hF c;have hf:=(NJ hF c n).1;unfold FS at hf;unfold IK;rw[Bm h hm (Kf hF)];simp only[Qa];rw[s1];simp only[Qa];have e:(((Xh L c).findSome? (Ud L n)).getD ([],zF,false)).1=(UO L c n).1:=rfl;rw[e,Z3 (by simp;omega)];simp only[Qa];rw[Z3 (by simp;omega)];simp only[Qa];rw[PA YA];rfl
def DG(L:Vr)(d:List (Tx×Int))(n:Tx):Bool:=decide (0<=Lq (λy:zb=>y.Name==[36,105,110,105,116]) 0 (match cl L n with|some c=>c.Methods|none=>[]))&&!((XE n d).getD 0==(2:Int))
theorem aq(hm:Xq L m)(hF:∀c∈L,XI c)(n:Tx):Tz n L m L2 m2 d v s=some (DG L d n):=by
 unfold Tz DG PQ;rw[Us hm]
 cases hc:cl L n with
 |none=>rfl
 |some c =>
  simp only[Qa];rw[e6 (hF c (XG hc).1).methods.le];rfl
theorem ap(hm:Xq L m)(hF:∀c∈L,XI c)(hT:T.length<=1000):M2 T L m L2 m2 d v s=some (T.any (DG L d)):=by
 unfold M2 gR
 rw[show((zk (λz=>Cj T L m L2 m2 d v s z) 0).bind λo=>zE o (λb=>jk) some)=_ from Zt (p:=DG L d) (l:=T) YA
  (λi x hx=>by
   unfold Cj;rw[Xl hx,zo,hx];simp only[Qa,YF];rw[aq hm hF]
   rfl) (by unfold Cj;rw[Xm];rfl)]
 rw[Qa,ZK]
def WX(L:Vr)(d:List (Tx×Int))(t:Vs)(n:Tx):Int:=cond (!((Xh L n).any (DG L d))) (-1) (Lq (λy=>n==y) 0 t)
theorem fl(h:Xf l L)(hm:Xq L m)(hF:∀c∈L,XI c)(ht:t.length<=70000000000)(n:Tx):Pd L m L m t me st L2 m2 d v s n=some (WX L d t n):=by have:=Z4 h n;unfold Pd WX;rw[Dj h hm];simp only[Qa];rw[ap hm hF YA];simp only[Qa];rw[Hw ht];cases(Xh L n).any (DG L d)<;>rfl
theorem SD(h:Xf l L)(hm:Xq L m)(hF:∀c∈L,XI c)(ht:t.length<=70000000000)(n:Tx):Ol L m L m t me st L2 m2 d v s n=some (WX L d t n):=by unfold Ol;rw[fl h hm hF ht];rfl
structure W2(t me st:Vs):Prop where
 t:t.length<=70000000000
 me:me.length<=1000000
 st:st.length<=1000000
def MD(L:Vr)(d:List (Tx×Int))(t:Vs)(x:zp)(r:Option X1):Prop:=∃a c,r=some (X1.mk x.Op x.A a c)/\((∀n,WX L d t n=-1)->(x.Op=37\/x.Op=40\/x.Op=41\/x.Op=42)->c=-1)
theorem O7{a c:Int}(h:¬(x.Op=37\/x.Op=40\/x.Op=41\/x.Op=42)):MD L d t x (Gn x a c):=⟨a,c,rfl,λ_ h2=>absurd h2 h⟩
theorem yy{a c:Int}(h:(∀n,WX L d t n=-1)->c=-1):MD L d t x (Gn x a c):=⟨a,c,rfl,λg _=>h g⟩
theorem ab(h:Xf l L)(hm:Xq L m)(hF:∀c∈L,XI c)(hl:W2 t me st)(hc:x.C.length<=25)(hM:FS x.M):∃a c,IA L m L m t me st L2 m2 d v s x=some (a,c)/\((∀n,WX L d t n=-1)->x.Op=42->c=-1):=by
 unfold FS at hM;unfold IA MW;rw[Wc h hm (Kf hF)];have hV:=wq (L:=L) hF (q:=ZY) (n:=x.M) (T:=Xh L x.C);have hW:=y7 hF x.C x.M;unfold FS at hV hW;simp only[Qa];rw[SZ hl.me YA YA,SD h hm hF hl.t,fI h hm hF,R4 h hm (Kf hF)];simp only[Qa];rw[SZ hl.me YA YA]
 cases h42:(x.Op==(42:Int))with
 |true=>exact⟨_,_,rfl,λg _=>g _⟩
 |false =>
  have hn:¬x.Op=42:=λe=>by rw[e]at h42;cases h42
  cases h43:(x.Op==(43:Int))with
  |true=>exact⟨_,_,rfl,λ_ e=>absurd e hn⟩
  |false =>
   cases h45:(x.Op==(45:Int))with
   |true=>exact⟨_,_,rfl,λ_ e=>absurd e hn⟩
   |false=>exact⟨_,_,rfl,λ_ e=>absurd e hn⟩
theorem qA(hl:W2 t me st)(hn:¬(x.Op=37\/x.Op=40\/x.Op=41\/x.Op=42)):MD L d t x (I9 L m t me st x b):=by
 unfold I9;rw[Hw hl.t]
 cases b with
 |true=>exact O7 hn
 |false=>exact O7 hn
theorem CW(h:Xf l L)(hm:Xq L m)(hF:∀c∈L,XI c)(hl:W2 t me st)(hc:x.C.length<=25)(hM:FS x.M)(hb:x.Op=42->b=true)(hn:¬(x.Op=37\/x.Op=40\/x.Op=41)):MD L d t x (GN L m L m t me st L2 m2 d v s x b):=by
 unfold GN;obtain⟨a,c,e,g⟩:=ab (d:=d) (v:=v) (s:=s) (L2:=L2) (m2:=m2) h hm hF hl hc hM;rw[e,Hw hl.t,T3 YA];simp only[Qa];rw[Hw hl.t]
 cases b with
 |true=>exact⟨a,c,rfl,λg1 g2=>g g1 (by
   rcases g2 with e|e|e|e
   .exact absurd (.inl e) hn
   .exact absurd (.inr (.inl e)) hn
   .exact absurd (.inr (.inr e)) hn
   .exact e)⟩
 |false =>
  have hn':¬(x.Op=37\/x.Op=40\/x.Op=41\/x.Op=42):=λg2=>by
   rcases g2 with e|e|e|e
   .exact hn (.inl e)
   .exact hn (.inr (.inl e))
   .exact hn (.inr (.inr e))
   cases hb e
  cases(x.Op==(49:Int))with
  |true=>exact O7 hn'
  |false =>
   cases(x.Op==(50:Int))with
   |true=>exact O7 hn'
   |false =>
    cases(x.Op==(56:Int))with
    |true=>simp only[YF,YG];exact qA hl hn'
    |false=>simp only[YF,YG];exact qA hl hn'
theorem qB(h:Xf l L)(hm:Xq L m)(hF:∀c∈L,XI c)(hl:W2 t me st)(hc:x.C.length<=25)(hM:FS x.M)(hb:x.Op=40\/x.Op=41->b=true)(hn:¬x.Op=37):MD L d t x (WN L m L m t me st L2 m2 d v s x b):=by
 unfold WN;rw[Bm h hm (Kf hF)];have hf:=(NJ hF x.C x.M).1;unfold FS at hf hM;simp only[Qa];have e:(((Xh L x.C).findSome? (Ud L x.M)).getD ([],zF,false)).1=(UO L x.C x.M).1:=rfl;rw[e,oe hl.st YA YA,SD h hm hF hl.t]
 cases b with
 |true=>exact yy (λg=>g _)
 |false =>
  have hn':¬(x.Op=37\/x.Op=40\/x.Op=41):=λg2=>by
   rcases g2 with e|e|e
   .exact hn e
   .cases hb (.inl e)
   cases hb (.inr e)
  cases h42:(x.Op==(42:Int))with
  |true=>simp only[YF,YG];exact CW h hm hF hl hc hM (λ_=>rfl) hn'
  |false =>
   have h42':∀{b:Bool},x.Op=42->b=true:=λe=>by rw[e]at h42;cases h42
   cases(x.Op==(43:Int))with
   |true=>simp only[YF,YG];exact CW h hm hF hl hc hM h42' hn'
   |false =>
    cases(x.Op==(44:Int))with
    |true=>simp only[YF,YG];exact CW h hm hF hl hc hM h42' hn'
    |false=>simp only[YF,YG];exact CW h hm hF hl hc hM h42' hn'
theorem qC(h:Xf l L)(hm:Xq L m)(hF:∀c∈L,XI c)(hl:W2 t me st)(hc:x.C.length<=25)(hM:FS x.M)(hb:b=true->x.Op=38\/x.Op=39)(hn:¬x.Op=37):MD L d t x (WO L m L m t me st L2 m2 d v s x b):=by
 unfold WO;rw[Bm h hm (Kf hF)];have hf:=(NJ hF x.C x.M).2;have hM':=hM;unfold FS at hf hM';simp only[Qa];have e:(((Xh L x.C).findSome? (Ud L x.M)).getD ([],zF,false)).2.1=(UO L x.C x.M).2.1:=rfl;rw[e,fH h hm hF YA,BC (by unfold Lf;omega)]
 cases b with
 |true =>
  have hn':¬(x.Op=37\/x.Op=40\/x.Op=41\/x.Op=42):=λg2=>by
   rcases hb rfl with e|e<;>rw[e]at g2<;>omega
  simp only[YF,Qa]
  cases Zu (UO L x.C x.M).2.1.Type_ with
  |true=>exact O7 hn'
  |false=>exact O7 hn'
 |false =>
  cases h40:(x.Op==(40:Int))with
  |true=>simp only[YF,YG];exact qB h hm hF hl hc hM (λ_=>rfl) hn
  |false =>
   simp only[YF,YG];refine qB h hm hF hl hc hM (λe=>?_) hn
   rcases e with e|e
   .rw[e]at h40;cases h40
   rw[e];rfl
theorem yi(h:Xf l L)(hm:Xq L m)(hF:∀c∈L,XI c)(hl:W2 t me st)(hc:x.C.length<=25)(hM:FS x.M):MD L d t x (G9 L m L m t me st L2 m2 d v s x):=by
 unfold G9;rw[Hw hl.t,SD h hm hF hl.t]
 cases h37:(x.Op==(37:Int))with
 |true=>exact yy (λg=>g _)
 |false =>
  have hn:¬x.Op=37:=λe=>by rw[e]at h37;cases h37
  cases h38:(x.Op==(38:Int))with
  |true=>simp only[YF,YG];exact qC h hm hF hl hc hM (λ_=>.inl (YP h38)) hn
  |false=>simp only[YF,YG];exact qC h hm hF hl hc hM (λe=>.inr (YP e)) hn
def Nc(t:Vs)(y:zU):ZO:=ZO.mk y.From y.To y.At (cond (!(y.C==[])) (Lq (λz=>y.C==z) 0 t) (-1))
theorem Ej{α β:Type}(g:α->β):∀(r:List α) (a:List β),r.foldl (λa x=>a++[g x]) a=a++r.map g
 |[],a=>YC
 |x::r,a=>by rw[Qz,Ej g r];simp
theorem sS{a b:Tx}(ha:a.length<=1000000)(hb:b.length<=1000000):Bs a b=some (Ls a b):=by unfold Bs;rw[Z3 (by simp;omega)];simp only[Qa];rw[Z3 (by simp;omega)];rfl
theorem sy{n:Tx}(hn:FS n)(hc:XI c){a:List (Tx×zy)×Vs}(ha:a.2.length<=1000000):∃z,zk (λz=>Wm n (c,b) z.1 z.2.1 z.2.2) (a.1,a.2,0)=some (.inl z)/\z.2.length<=a.2.length+10000:=by
 have hF:=hc.fields.len
 have:=ZM (β:=List (Tx×zy)×Vs) (S:=List (Tx×zy)×Vs×Int) (U:=List (Tx×zy)×Vs) (R:=Vr×List (Tx×Int)×List (Tx×Int)×List (Tx×zy)×Vs) (body:=λz=>Wm n (c,b) z.1 z.2.1 z.2.2) (λb i=>(b.1,b.2,i)) (λb=>b)
  (l:=c.Fields) (f:=λa f=>cond f.Static (XO (Ls n f.Name) (zy.mk (Zu f.Type_) 0) a.1,a.2++[Ls n f.Name]) a) (I:=λb i=>b.2.length<=a.2.length+i/\i<=c.Fields.length) (λi y b hI hx=>by
   have hi:=(Qb.1 hx).1;have hI1:=hI.1;have hy:=hc.fields.all y (Qc hx);have hyn:=hy.name;have hyt:=hy.type;unfold FS at hn hyn hyt;refine⟨?_,?_,YA⟩;.show Wm n (c,_) b.1 b.2 (i:Int)=_;unfold Wm Tm;simp only;rw[Xl hx,zo,hx];simp only[YF,Qa];rw[sS YA YA,BC (by unfold Lf;omega)];simp only[Qa];rw[XH (by simp;omega) (by simp;omega),zz YA];cases y.Static<;>rfl
   .show(cond y.Static (_,_) b).2.length<=_
    cases y.Static<;>simp<;>omega) (λb hI=>by
   show Wm n (c,_) b.1 b.2 (c.Fields.length:Int)=_;unfold Wm;simp only
   rw[Xm];rfl) (b0:=a) ⟨Qg _,Qk _⟩
 exact⟨_,this.1,by have:=this.2.1;omega⟩
theorem aw:((Z5.length:Nat):Int)=10:=by decide +kernel
end
section
variable {m2 d:List (Tx×Int)} {t me st s:Vs}
theorem CR{α β γ:Type}{f:β->α->β}{g:β->List γ}(h:∀a x,∃t,g (f a x)=g a++t):∀(l:List α) (a:β),∃t,g (l.foldl f a)=g a++t
 |[],a=>⟨[],YC⟩
 |x::r,a=>by
  obtain⟨t,e⟩:=h a x;obtain⟨u,k⟩:=CR h r (f a x);exact⟨t++u,by rw[Qz,k,e,Q4]⟩
theorem Su:∀(d:Nat) (a:Vs) (t:Tx),∃u,Uh d a t=a++u
 |0,a,t=>⟨[],by simp[Uh]⟩
 |d+1,a,t=>by
  unfold Uh
  cases((XK t).2&&!(a.any λy=>t==y))with
  |false=>exact⟨[],YC⟩
  |true =>
   obtain⟨u,e⟩:=Su d (a++[t]) (XK t).1;exact⟨t::u,by simp only[YF];rw[e];simp⟩
theorem cE(a:Vs)(x:zp):∃u,ZV a x=a++u:=by
 unfold ZV UL
 cases(x.Op==(50:Int))with
 |true=>exact Su _ _ _
 |false =>
  cases((x.Op==(56:Int))||(x.Op==(57:Int)))with
  |true=>exact Su _ _ _
  |false=>exact⟨[],YC⟩
theorem sB(p:Vs×Vs×Vs)(c:za):∃u,(nC p c).1=p.1++u:=by obtain⟨u,e⟩:=CR (f:=nF c.Name) (g:=λq:Vs×Vs=>q.1) (λa x=>Su _ _ _) c.Fields (p.1,p.2.2);obtain⟨w,k⟩:=CR (f:=nM c.Name) (g:=λq:Vs×Vs=>q.1) (λa x=>fu cE x.Code a.1) c.Methods ((c.Fields.foldl (nF c.Name) (p.1,p.2.2)).1,p.2.1);refine⟨u++w,?_⟩;show(c.Methods.foldl (nM c.Name) ((c.Fields.foldl (nF c.Name) (p.1,p.2.2)).1,p.2.1)).1=_;have k':(c.Methods.foldl (nM c.Name) ((c.Fields.foldl (nF c.Name) (p.1,p.2.2)).1,p.2.1)).1=(c.Fields.foldl (nF c.Name) (p.1,p.2.2)).1++w:=k;have e':(c.Fields.foldl (nF c.Name) (p.1,p.2.2)).1=p.1++u:=e;rw[k',e',Q4]
theorem zDp(L:Vr):∃u,(Xy L).1=L.map (·.Name)++u:=by obtain⟨u,e⟩:=CR (f:=nC) (g:=λq:Vs×Vs×Vs=>q.1) sB L (L.map (·.Name)++[[91,73]],[],[]);have e':(Xy L).1=(L.map (·.Name)++[[91,73]])++u:=e;exact⟨[91,73]::u,by rw[e'];simp⟩
theorem aZ(h:Ho L=0):∀c∈L,Ks L c=true:=by
 unfold Ho at h
 cases hh:(L.any λc=>!Ks L c)with
 |true=>rw[hh]at h;cases h
 |false =>
  intro c hc;have:=Qq.1 hh c hc;simpa using this
theorem M8(h:Xf l L)(hm:Xq L m)(hF:∀c∈L,XI c)(hD:∀c∈L,Zr L c):W2 (Xy L).1 (Xy L).2.1 (Xy L).2.2:=by obtain⟨_,h1,h2,h3⟩:=oY h hm hF hD;exact⟨h1,YA,YA⟩
theorem mn:Tk=some true:=by kernel_rfl
end
section
variable {t me st:Vs}
def GP:Nat->Vs->Tx->Vs
 |0,a,t=>a
 |d+1,a,t=>cond (Lu t) (GP d (cond (a.any λy=>y==t) a (a++[t])) (t.drop 1)) a
theorem qy{t:Tx}:(a.any λy=>t==y)=decide (t∈a):=by rw[QJ,QB,YJ];exact⟨λ⟨y,h1,h2⟩=>by rw[YP h2];exact h1,λh=>⟨t,h,YC⟩⟩
theorem dA{t:Tx}:(a.any λy=>y==t)=decide (t∈a):=by rw[QJ,QB,YJ];exact⟨λ⟨y,h1,h2⟩=>by rw[<-YP h2];exact h1,λh=>⟨t,h,YC⟩⟩
theorem cF(t:Tx):(cond (decide (0<(t.length:Int))) ((idx t 0).bind λv=>some ((v.toNat:Int)==(91:Int))) (some false))=some (Lu t):=by
 cases t with
 |nil=>rfl
 |cons x r =>
  rw[YH YC,HC]
  have e:((x.toNat:Int)==(91:Int))=(x==91):=by
   rw[QJ,YN,YN];constructor;.intro h;exact JS.1 (by simpa using(Yv.1 h))
   intro h;rw[h];rfl
  simp only[Q3,Qa,YF,e];rfl
theorem zDc{t:Tx}(ha:a.length<=1000000000000):zk (λz=>WA a t z.1 z.2) (false,0)=some (.inl (a.any λy=>y==t)):=by
 have:=(ZM (β:=Bool) (S:=Bool×Int) (U:=Bool) (R:=Vs) (body:=λz=>WA a t z.1 z.2) (λb i=>(b,i)) (λb=>b)
  (l:=a) (f:=λb x=>b||(x==t)) (I:=λ_ i=>i<=a.length) (λi x b hI hx=>by
   have hi:=(Qb.1 hx).1;refine⟨?_,YA⟩;show WA a t b (i:Int)=_;unfold WA;rw[Xl hx,zo,hx,zz YA]
   cases b<;>rfl) (λb hI=>by
   show WA a t b (a.length:Int)=_;unfold WA
   rw[Xm];rfl) (b0:=false) (Qk _)).1
 rw[show zk (λz=>WA a t z.1 z.2) (false,0)=_ from this]
 have e:∀(r:Vs) (b:Bool),r.foldl (λb x=>b||(x==t)) b=(b||r.any λy=>y==t):=by
  intro r
  induction r with
  |nil=>intro b;simp
  |cons x r ih=>intro b;rw[Qz,ih,Q2,JQ]
 rw[e,QR]
theorem ka:∀(d:Nat) (a:Vs) (t:Tx),t.length=d->a.length+d<=1000000000000->zk (λz=>Aa z.1 z.2) (a,t)=some (.inl (GP d a t))
 |d,a,t,hd,ha=>by
  rw[zH];show(Aa a t).bind _=_;unfold Aa;rw[cF];simp only[Qa]
  cases hb:Lu t with
  |false =>
   have e:GP d a t=a:=by
    cases d with
    |zero=>rfl
    |succ d=>unfold GP;rw[hb];rfl
   rw[e];rfl
  |true =>
   have hpos:0<t.length:=by rw[(Hy hb).2];simp
   cases d with
   |zero=>omega
   |succ d =>
    unfold GP;rw[hb,zDc YA];simp only[YF,Qa,zE];unfold eN Ab;rw[show(1:Int)=((1:Nat):Int)from rfl,G5 YA]
    have hl:(t.drop 1).length=d:=by simp;omega
    cases hh:(a.any λy=>y==t)with
    |true =>
     simp only[Qo,YG,YF,Qa];exact ka d a (t.drop 1) hl YA
    |false =>
     simp only[QI,YF,YG];rw[XH (by simp;omega) (by simp;omega)];simp only[Qa];exact ka d (a++[t]) (t.drop 1) hl (by simp;omega)
theorem zDG{t:Tx}(ha:a.length<=900000000000)(ht:FS t):BI a t=some (GP t.length a t):=by unfold FS at ht;unfold BI;rw[ka t.length a t rfl YA];rfl
def Cl(a:Vs):Prop:=∀u∈a,Lu u=true->Lu (u.drop 1)=true->u.drop 1∈a
theorem yJ{a:Vs}(hc:Cl a):∀(d:Nat) (t:Tx),(Lu t=true->t∈a)->GP d a t=a
 |0,t,_=>rfl
 |d+1,t,h=>by
  unfold GP
  cases hb:Lu t with
  |false=>rfl
  |true =>
   rw[dA,YH (h hb)];simp only[YF];exact yJ hc d (t.drop 1) (λh2=>hc t (h hb) hb h2)
theorem yK:∀(d:Nat) (a:Vs) (t:Tx),t.length=d->(Lu t=true->Xr t=true)->(∀u∈a,Lu u=true->Lu (u.drop 1)=true->u.drop 1∈a\/u.drop 1=t)->a.Nodup->GP d a t=Uh d a t/\Cl (Uh d a t)/\(Uh d a t).Nodup
 |d,a,t,hd,hm,hc,hn=>by
  cases hb:Lu t with
  |false =>
   have e1:GP d a t=a:=by
    cases d with
    |zero=>rfl
    |succ d=>unfold GP;rw[hb];rfl
   have e2:Uh d a t=a:=by
    cases d with
    |zero=>rfl
    |succ d =>
     unfold Uh
     have:(XK t).2=false:=by unfold XK;rw[hb,Jf];rfl
     rw[this];rfl
   rw[e1,e2];refine⟨rfl,λu hu h1 h2=>?_,hn⟩
   rcases hc u hu h1 h2 with e|e
   .exact e
   .rw[e,hb]at h2;cases h2
  |true =>
   have hpos:0<t.length:=by rw[(Hy hb).2];simp
   cases d with
   |zero=>omega
   |succ d =>
    have he:XK t=(t.drop 1,true):=by unfold XK;rw[hm hb,hb];rfl
    unfold GP Uh;rw[hb,he,qy,dA];by_cases ht:t∈a
    .rw[YH ht]
     have hC:Cl a:=λu hu h1 h2=>by
      rcases hc u hu h1 h2 with e|e
      .exact e
      rw[e];exact ht
     simp only[YF,Qo,Jf,YG];exact⟨yJ hC d _ (λh2=>hC t ht hb h2),hC,hn⟩
    rw[YI ht];simp only[YF,YG,QI,Ys];refine yK d (a++[t]) (t.drop 1) (by simp;omega) (λ_=>(N0 (hm hb) hb).1) (λu hu h1 h2=>?_) ?_
    .rcases Qp.1 hu with e|e
     .rcases hc u e h1 h2 with e|e
      .exact .inl (Q8 _ e)
      rw[e];exact .inl YC
     rw[QC.1 e];exact .inr rfl
    exact Jv.2 ⟨hn,YC,λx hx y hy e=>ht (by rw[<-QC.1 hy,<-e];exact hx)⟩
structure L0(a:Vs):Prop where
 cl:Cl a
 nd:a.Nodup
theorem NW{t:Tx}(ha:a.length<=900000000000)(ht:FS t)(hm:Lu t=true->Xr t=true)(h:L0 a):BI a t=some (UL a t)/\L0 (UL a t):=by obtain⟨h1,h2,h3⟩:=yK t.length a t rfl hm (λu hu k1 k2=>.inl (h.cl u hu k1 k2)) h.nd;rw[zDG ha ht,h1];exact⟨rfl,h2,h3⟩
theorem tX(ha:a.length<=900000000000)(hx:x.C.length<=25)(hm:x.C=[]\/Xr x.C=true)(h:L0 a):L0 (ZV a x):=by
 have hm':Lu x.C=true->Xr x.C=true:=λhb=>by
  rcases hm with e|e
  .rw[e]at hb;cases hb
  exact e
 have h1:=xI (C:=x.C) YA
 have hA:Lu (Ug x.C)=true->Xr (Ug x.C)=true:=λhb=>by
  unfold Ug at hb ⊢
  cases hh:Xr (91::x.C)with
  |true=>exact hh
  |false=>rw[hh]at hb;cases hb
 unfold ZV
 cases(x.Op==(50:Int))with
 |true=>exact(NW ha (by unfold FS;omega) hA h).2
 |false =>
  cases((x.Op==(56:Int))||(x.Op==(57:Int)))with
  |true=>exact(NW ha (by unfold FS;omega) hm' h).2
  |false=>exact h
def tC(a:Vs)(c:za):Vs:=c.Methods.foldl (λa f=>f.Code.foldl ZV a) (c.Fields.foldl (λa f=>UL a f.Type_) a)
theorem D7{α β γ:Type}{f:β->α->β}{g:γ->α->γ}{p:β->γ}(h:∀b x,p (f b x)=g (p b) x):∀(l:List α) (b:β),p (l.foldl f b)=l.foldl g (p b)
 |[],b=>rfl
 |x::r,b=>by rw[Qz,Qz,D7 h r,h]
theorem sb(p:Vs×Vs×Vs)(c:za):(nC p c).1=tC p.1 c:=by have h1:(c.Fields.foldl (nF c.Name) (p.1,p.2.2)).1=c.Fields.foldl (λa f=>UL a f.Type_) p.1:=D7 (p:=λq:Vs×Vs=>q.1) (λb x=>rfl) c.Fields _;have h2:(c.Methods.foldl (nM c.Name) ((c.Fields.foldl (nF c.Name) (p.1,p.2.2)).1,p.2.1)).1=c.Methods.foldl (λa f=>f.Code.foldl ZV a) (c.Fields.foldl (nF c.Name) (p.1,p.2.2)).1:=D7 (p:=λq:Vs×Vs=>q.1) (λb x=>rfl) c.Methods _;show(c.Methods.foldl (nM c.Name) ((c.Fields.foldl (nF c.Name) (p.1,p.2.2)).1,p.2.1)).1=_;rw[h2,h1];rfl
def mC(a:Vs)(c:za):Vs:=c.Methods.foldl (λa f=>a++[Ls c.Name f.Name]) a
def xo(a:Vs)(c:za):Vs:=c.Fields.foldl (λa f=>cond f.Static (a++[Ls c.Name f.Name]) a) a
theorem se(p:Vs×Vs×Vs)(c:za):(nC p c).2.1=mC p.2.1 c:=D7 (p:=λq:Vs×Vs=>q.2) (λb x=>rfl) c.Methods ((c.Fields.foldl (nF c.Name) (p.1,p.2.2)).1,p.2.1)
theorem sd(p:Vs×Vs×Vs)(c:za):(nC p c).2.2=xo p.2.2 c:=D7 (p:=λq:Vs×Vs=>q.2) (λb x=>rfl) c.Fields (p.1,p.2.2)
theorem sO(L:Vr):(Xy L).1=L.foldl tC (L.map (·.Name)++[[91,73]]):=D7 (p:=λq:Vs×Vs×Vs=>q.1) sb L _
theorem sQ(L:Vr):(Xy L).2.1=L.foldl mC []:=D7 (p:=λq:Vs×Vs×Vs=>q.2.1) se L _
theorem sP(L:Vr):(Xy L).2.2=L.foldl xo []:=D7 (p:=λq:Vs×Vs×Vs=>q.2.2) sd L _
theorem tA(h:Xf l L):L0 (L.map (·.Name)++[[91,73]]):=by
 have hb:∀n∈L.map (·.Name),Lu n=false:=λn hn=>BA (Dm h (KP.2 hn));refine⟨λu hu h1 h2=>?_,?_⟩
 .rcases Qp.1 hu with e|e
  .rw[hb u e]at h1;cases h1
  rw[QC.1 e]at h2;cases h2
 refine Jv.2 ⟨?_,YC,λx hx y hy e=>?_⟩;.show List.Pairwise (·≠·) _;rw[JN];intro i j hi hj hij e;rw[Ya,Ya]at e;rw[QY]at hi hj;have:=h.nd i j L[i] L[j] (Qe hi) (Qe hj) e;omega
 have:=hb x hx;rw[e,QC.1 hy]at this;cases this
theorem zH5{f:zb}{k:Nat}(hk:c.Methods[k]?=some f)(hf:H2 f)(ha:a.length<=800000000000)(hd:L0 a):zk (λz=>WK c (k:Int) z.1 z.2) (a,0)=some (.inl (f.Code.foldl ZV a))/\(f.Code.foldl ZV a).length<=a.length+250000/\L0 (f.Code.foldl ZV a):=by
 have hc:=hf.small.code.1
 have:=ZM (β:=Vs) (S:=Vs×Int) (U:=Vs) (R:=Vs) (body:=λz=>WK c (k:Int) z.1 z.2) (λb i=>(b,i)) (λb=>b)
  (l:=f.Code) (f:=ZV) (I:=λb i=>b.length<=a.length+25*i/\i<=f.Code.length/\L0 b) (λi y b hI hx=>by
   have hi:=(Qb.1 hx).1;obtain⟨i1,i2,i3⟩:=hI;have hl:=fk b y;have hym:=Qc hx;have hy25:=hf.small.code.2 y hym;have hyk:=fj (hf.code.2 y hym);have hT:=xI (C:=y.C) YA;refine⟨?_,YA,YA,tX YA hy25 hyk i3⟩;show WK c (k:Int) b (i:Int)=_;unfold WK As PY ZV
   have a1:=(NW (a:=b) (t:=Ug y.C) YA (by unfold FS;omega) (λhb=>by
    unfold Ug at hb ⊢
    cases hh:Xr (91::y.C)with
    |true=>exact hh
    |false=>rw[hh]at hb;cases hb) i3).1
   have a2:=(NW (a:=b) (t:=y.C) YA (by unfold FS;omega) (λhb=>by
    rcases hyk with e|e
    .rw[e]at hb;cases hb
    exact e) i3).1
   rw[zo,hk];simp only[Qa];rw[Xl hx,zo,hx];simp only[YF,Qa];rw[kB YA];simp only[Qa];rw[a1,a2,zz YA]
   cases(y.Op==(50:Int))<;>cases(y.Op==(56:Int))<;>cases(y.Op==(57:Int))<;>rfl) (λb hI=>by
   show WK c (k:Int) b (f.Code.length:Int)=_;unfold WK;rw[zo,hk];simp only[Qa]
   rw[Xm];rfl) (b0:=a) ⟨Qg _,Qk _,hd⟩
 refine⟨this.1,?_,this.2.2.2⟩;have h2:=this.2.1;omega
theorem zDM(hc:XI c)(hD:Zr L c)(ha:a.length<=700000000000)(hd:L0 a):zk (λz=>B8 c z.1 z.2) (a,0)=some (.inl (c.Methods.foldl (λa f=>f.Code.foldl ZV a) a))/\(c.Methods.foldl (λa f=>f.Code.foldl ZV a) a).length<=a.length+2500000000/\L0 (c.Methods.foldl (λa f=>f.Code.foldl ZV a) a):=by
 have hml:=hc.methods.len
 have:=ZM (β:=Vs) (S:=Vs×Int) (U:=Vs) (R:=Vs) (body:=λz=>B8 c z.1 z.2) (λb i=>(b,i)) (λb=>b)
  (l:=c.Methods) (f:=λa f=>f.Code.foldl ZV a) (I:=λb i=>b.length<=a.length+250000*i/\i<=c.Methods.length/\L0 b) (λi y b hI hx=>by
   have hi:=(Qb.1 hx).1;obtain⟨i1,i2,i3⟩:=hI;obtain⟨k1,k2,k3⟩:=zH5 hx (hD.methods.2 y (Qc hx)) (a:=b) YA i3;refine⟨?_,fR k2 i1,JX hi,k3⟩;clear k2;show B8 c b (i:Int)=_;unfold B8;rw[Xl hx];simp only[YF];rw[show zk (λz=>WK c (i:Int) z.1 z.2) (b,0)=_ from k1];show some (Sum.inl (_,i64.wrap ((i:Int)+1)))=_
   rw[zz YA]) (λb hI=>by
   show B8 c b (c.Methods.length:Int)=_;unfold B8
   rw[Xm];rfl) (b0:=a) ⟨Qg _,Qk _,hd⟩
 refine⟨this.1,?_,this.2.2.2⟩;have h2:=this.2.1;omega
theorem zF4(hc:XI c)(hD:Zr L c)(ha:a.length<=700000000000)(hd:L0 a):zk (λz=>B9 c z.1 z.2) (a,0)=some (.inl (c.Fields.foldl (λa f=>UL a f.Type_) a))/\(c.Fields.foldl (λa f=>UL a f.Type_) a).length<=a.length+250000/\L0 (c.Fields.foldl (λa f=>UL a f.Type_) a):=by
 have hml:=hc.fields.len
 have:=ZM (β:=Vs) (S:=Vs×Int) (U:=Vs) (R:=Vs) (body:=λz=>B9 c z.1 z.2) (λb i=>(b,i)) (λb=>b)
  (l:=c.Fields) (f:=λa f=>UL a f.Type_) (I:=λb i=>b.length<=a.length+25*i/\i<=c.Fields.length/\L0 b) (λi y b hI hx=>by
   have hi:=(Qb.1 hx).1;obtain⟨i1,i2,i3⟩:=hI;have hym:=Qc hx;obtain⟨k1,k2⟩:=NW (a:=b) (t:=y.Type_) YA (hc.fields.all y hym).type (λ_=>hD.fields.2 y hym) i3;have hl:=Sv b y.Type_;refine⟨?_,YA,YA,k2⟩;show B9 c b (i:Int)=_;unfold B9;rw[Xl hx,zo,hx];simp only[YF,Qa];rw[k1,zz YA]
   rfl) (λb hI=>by
   show B9 c b (c.Fields.length:Int)=_;unfold B9
   rw[Xm];rfl) (b0:=a) ⟨Qg _,Qk _,hd⟩
 refine⟨this.1,?_,this.2.2.2⟩;have h2:=this.2.1;omega
theorem lh(h:Xf l L)(hF:∀c∈L,XI c)(hD:∀c∈L,Zr L c):TN L=some (Xy L).1/\L0 (Xy L).1:=by
 have h26:=h.len;unfold TN
 have n1:=(ZM (β:=Vs) (S:=Vs×Int) (U:=Vs) (R:=Vs) (body:=λz=>B3 L z.1 z.2) (λb i=>(b,i)) (λb=>b)
  (l:=L) (f:=λa (c:za)=>a++[c.Name]) (I:=λb i=>b.length=i/\i<=L.length) (λi y b hI hx=>by
   have hi:=(Qb.1 hx).1;refine⟨?_,by simp[hI.1],YA⟩;show B3 L b (i:Int)=_;unfold B3;rw[Xl hx,zo,hx];simp only[YF,Qa];rw[XH (by simp;omega) (by simp;omega),zz YA]
   rfl) (λb hI=>by
   show B3 L b (L.length:Int)=_;unfold B3
   rw[Xm];rfl) (b0:=[]) ⟨rfl,Qk _⟩).1
 rw[show zk (λz=>B3 L z.1 z.2) ([],0)=_ from n1,Ej];simp only[Qa,zE,Jo];unfold iv;rw[XH (by simp;omega) (by simp;omega)];simp only[Qa]
 have:=ZM (β:=Vs) (S:=Vs×Int) (U:=Vs) (R:=Vs) (body:=λz=>Ok L z.1 z.2) (λb i=>(b,i)) (λb=>b)
  (l:=L) (f:=tC) (I:=λb i=>b.length<=27+2600000000*i/\i<=L.length/\L0 b) (λi y b hI hx=>by
   have hi:=(Qb.1 hx).1;obtain⟨i1,i2,i3⟩:=hI;have hym:=Qc hx;obtain⟨f1,f2,f3⟩:=zF4 (hF y hym) (hD y hym) (a:=b) YA i3;obtain⟨m1,m2,m3⟩:=zDM (hF y hym) (hD y hym) (a:=y.Fields.foldl (λa f=>UL a f.Type_) b) (QK f2 (by clear f2;omega)) f3;refine⟨?_,fT YB (QK m2 (Yf f2 _)) i1,JX hi,m3⟩;clear m2 f2;show Ok L b (i:Int)=_;unfold Ok;rw[Xl hx,zo,hx];simp only[YF,Qa];rw[f1];simp only[Qa,zE];unfold il;rw[m1];show some (Sum.inl (_,i64.wrap ((i:Int)+1)))=_;rw[zz YA]
   rfl) (λb hI=>by
   show Ok L b (L.length:Int)=_;unfold Ok
   rw[Xm];rfl) (b0:=L.map (·.Name)++[[91,73]]) ⟨by simp;omega,Qk _,tA h⟩
 rw[show zk (λz=>Ok L z.1 z.2) (L.map (·.Name)++[[91,73]],0)=_ from this.1,sO];exact⟨rfl,this.2.2.2⟩
theorem l5(h:Xf l L)(hF:∀c∈L,XI c):Aj L=some (Xy L).2.1:=by
 have h26:=h.len;unfold Aj
 have:=ZM (β:=Vs) (S:=Vs×Int) (U:=Vs) (R:=Vs) (body:=λz=>Ow L z.1 z.2) (λb i=>(b,i)) (λb=>b)
  (l:=L) (f:=mC) (I:=λb i=>b.length<=10000*i/\i<=L.length) (λi c b hI hx=>by
   have hi:=(Qb.1 hx).1;have hc:=hF c (Qc hx);have hn:=hc.name;have hml:=hc.methods.len;have hI1:=hI.1
   have inner:=ZM (β:=Vs) (S:=Vs×Int) (U:=Vs) (R:=Vs) (body:=λz=>Ox L (i:Int) z.1 z.2) (λb i=>(b,i)) (λb=>b)
    (l:=c.Methods) (f:=λa f=>a++[Ls c.Name f.Name]) (I:=λa k=>a.length<=10000*i+k/\k<=c.Methods.length) (λk f a hk hy=>by
     have hkk:=(Qb.1 hy).1;have hf:=(hc.methods.all f (Qc hy)).name;have hk1:=hk.1;unfold FS at hn hf;refine⟨?_,by simp;omega,YA⟩;show Ox L (i:Int) a (k:Int)=_;unfold Ox;rw[zo L,hx];simp only[Qa];rw[Xl hy,zo,hy];simp only[YF,Qa];rw[Z3 (by simp;omega)];simp only[Qa];rw[Z3 (by simp;omega)];simp only[Qa];rw[XH (by simp;omega) (by simp;omega),zz YA]
     rfl) (λa hk=>by
     show Ox L (i:Int) a (c.Methods.length:Int)=_;unfold Ox;rw[zo L,hx];simp only[Qa]
     rw[Xm];rfl) (b0:=b) ⟨hI1,Qk _⟩
   have e2:(mC b c).length<=10000*i+c.Methods.length:=inner.2.1;refine⟨?_,YA,YA⟩;show Ow L b (i:Int)=_;unfold Ow;rw[Xl hx];simp only[YF];rw[show zk (λz=>Ox L (i:Int) z.1 z.2) (b,0)=_ from inner.1];show some (Sum.inl (_,i64.wrap ((i:Int)+1)))=_;rw[zz YA]
   rfl) (λb hI=>by
   show Ow L b (L.length:Int)=_;unfold Ow
   rw[Xm];rfl) (b0:=[]) ⟨Qk _,Qk _⟩
 rw[show zk (λz=>Ow L z.1 z.2) ([],0)=_ from this.1,sQ];rfl
theorem l4(h:Xf l L)(hF:∀c∈L,XI c):Ai L=some (Xy L).2.2:=by
 have h26:=h.len;unfold Ai
 have:=ZM (β:=Vs) (S:=Vs×Int) (U:=Vs) (R:=Vs) (body:=λz=>Og L z.1 z.2) (λb i=>(b,i)) (λb=>b)
  (l:=L) (f:=xo) (I:=λb i=>b.length<=10000*i/\i<=L.length) (λi c b hI hx=>by
   have hi:=(Qb.1 hx).1;have hc:=hF c (Qc hx);have hn:=hc.name;have hml:=hc.fields.len;have hI1:=hI.1
   have inner:=ZM (β:=Vs) (S:=Vs×Int) (U:=Vs) (R:=Vs) (body:=λz=>Ov L (i:Int) z.1 z.2) (λb i=>(b,i)) (λb=>b)
    (l:=c.Fields) (f:=λa f=>cond f.Static (a++[Ls c.Name f.Name]) a) (I:=λa k=>a.length<=10000*i+k/\k<=c.Fields.length) (λk f a hk hy=>by
     have hkk:=(Qb.1 hy).1;have hf:=(hc.fields.all f (Qc hy)).name;have hk1:=hk.1;unfold FS at hn hf;refine⟨?_,by cases f.Static<;>simp<;>omega,YA⟩;show Ov L (i:Int) a (k:Int)=_;unfold Ov AG;rw[zo L,hx];simp only[Qa];rw[Xl hy,zo,hy];simp only[YF,Qa];rw[Z3 (by simp;omega)];simp only[Qa];rw[Z3 (by simp;omega)];simp only[Qa];rw[XH (by simp;omega) (by simp;omega),zz YA]
     cases f.Static<;>rfl) (λa hk=>by
     show Ov L (i:Int) a (c.Fields.length:Int)=_;unfold Ov;rw[zo L,hx];simp only[Qa]
     rw[Xm];rfl) (b0:=b) ⟨hI1,Qk _⟩
   have e2:(xo b c).length<=10000*i+c.Fields.length:=inner.2.1;refine⟨?_,YA,YA⟩;show Og L b (i:Int)=_;unfold Og;rw[Xl hx];simp only[YF];rw[show zk (λz=>Ov L (i:Int) z.1 z.2) (b,0)=_ from inner.1];show some (Sum.inl (_,i64.wrap ((i:Int)+1)))=_;rw[zz YA]
   rfl) (λb hI=>by
   show Og L b (L.length:Int)=_;unfold Og
   rw[Xm];rfl) (b0:=[]) ⟨Qk _,Qk _⟩
 rw[show zk (λz=>Og L z.1 z.2) ([],0)=_ from this.1,sP];rfl
end
variable {d:List (Tx×Int)}{p P:Vs×Vv}{cs:Vr}{o:Sum Unit Int}{M:Tx}
theorem bR{β S U R:Type}{body:S->Option (Sum S (Sum U R))}(mk:β->Int->S)(fi:β->U){l:List α}{f:β->α->β}{I:β->Nat->Prop}(hb:∀(i:Nat) x b,I b (i+1)->l[i]?=some x->body (mk b (i:Int))=some (.inl (mk (f b x) ((i:Int)-1)))/\I (f b x) i)(he:∀b,I b 0->body (mk b (-1))=some (.inr (.inl (fi b)))){b0:β}(h0:I b0 l.length):zk body (mk b0 ((l.length:Int)-1))=some (.inl (fi (l.reverse.foldl f b0)))/\I (l.reverse.foldl f b0) 0:=by
 have key:∀(n:Nat) (b:β),n<=l.length->I b n->zk body (mk b ((n:Int)-1))=some (.inl (fi ((l.take n).reverse.foldl f b)))/\I ((l.take n).reverse.foldl f b) 0:=by
  intro n
  induction n with
  |zero =>
   intro b _ hI;rw[show((0:Nat):Int)-1=-1 from rfl,zH,he b hI];exact⟨rfl,hI⟩
  |succ n ih =>
   intro b hn hI;have hx:l[n]?=some l[n]:=Qe YA;obtain⟨h1,h2⟩:=hb n l[n] b hI hx;rw[show((n+1:Nat):Int)-1=(n:Int)by omega,zH,h1,JW,hx];simp only[Option.toList_some,List.reverse_append,List.reverse_cons,List.reverse_nil,Jo,J2,Qz];exact ih (f b l[n]) YA h2
 have:=key l.length b0 (Qg _) h0;rw[J9]at this;exact this
section
variable {t me st:Vs}
def fW(n:Tx)(p:Vs×Vv)(g:zh):Vs×Vv:=cond (!g.Static) (p.1++[n],p.2++[g]) p
def fC(L:Vr)(p:Vs×Vv)(s:Tx):Vs×Vv:=(X0 L s).Fields.foldl (fW s) p
def zW(p:Vs×Vv):Vs:=(p.1.zip p.2).map (λx=>Ls x.1 x.2.Name)
structure Mf(p:Vs×Vv):Prop where
 len:p.1.length=p.2.length
 n:∀s∈p.1,FS s
 f:∀g∈p.2,FS g.Name
theorem dl{n:Tx}{g:zh}(h:Mf p)(hn:FS n)(hg:FS g.Name):Mf (fW n p g)/\zW (fW n p g)=wF n (zW p) g:=by
 unfold fW wF
 cases g.Static with
 |true=>exact⟨h,rfl⟩
 |false =>
  refine⟨⟨by simp[h.len],λs hs=>?_,λx hx=>?_⟩,?_⟩
  .rcases Qp.1 hs with e|e
   .exact h.n s e
   rw[QC.1 e];exact hn
  .rcases Qp.1 hx with e|e
   .exact h.f x e
   rw[QC.1 e];exact hg
  show((p.1++[n]).zip (p.2++[g])).map _=_;rw[List.zip_append h.len,Jt];rfl
theorem zES(hs:FS s)(hc:XI c)(hT:T[i]?=some s){k:Nat}(hp:p.1.length<=10000*k)(hk:k<=1000)(hd:Mf p):zk (λz=>WB T (i:Int) c z.1 z.2.1 z.2.2) (p.1,p.2,0)=some (.inl (c.Fields.foldl (fW s) p))/\(c.Fields.foldl (fW s) p).1.length<=10000*(k+1)/\Mf (c.Fields.foldl (fW s) p)/\zW (c.Fields.foldl (fW s) p)=c.Fields.foldl (wF s) (zW p):=by
 have hfl:=hc.fields.len
 have:=ZM (β:=(Vs×Vv)) (S:=Vs×Vv×Int) (U:=Vs×Vv) (R:=Vs×Vv) (body:=λz=>WB T (i:Int) c z.1 z.2.1 z.2.2) (λb j=>(b.1,b.2,j)) (λb=>b)
  (l:=c.Fields) (f:=fW s) (I:=λb j=>b.1.length<=10000*k+j/\j<=c.Fields.length/\Mf b) (λj g b hI hx=>by
   have hj:=(Qb.1 hx).1;obtain⟨i1,i2,i3⟩:=hI;have hg:=(hc.fields.all g (Qc hx)).name;have hl:=i3.len;refine⟨?_,?_,YA,(dl i3 hs hg).1⟩;.show WB T (i:Int) c b.1 b.2 (j:Int)=_;unfold WB Ac fW;rw[Xl hx,zo,hx,zo,hT];simp only[YF,Qa];rw[XH (by simp;omega) (by simp;omega)];simp only[Qa];rw[XH (by simp;omega) (by simp;omega),zz YA];cases g.Static<;>rfl
   .unfold fW
    cases g.Static<;>simp<;>omega) (λb hI=>by
   show WB T (i:Int) c b.1 b.2 (c.Fields.length:Int)=_;unfold WB
   rw[Xm];rfl) (b0:=p) ⟨hp,Qk _,hd⟩
 refine⟨this.1,by have:=this.2.1;omega,this.2.2.2,?_⟩
 have e:∀(r:Vv) (q:Vs×Vv),(∀g∈r,FS g.Name)->Mf q->zW (r.foldl (fW s) q)=r.foldl (wF s) (zW q):=by
  intro r
  induction r with
  |nil=>intro q _ _;rfl
  |cons g r ih =>
   intro q hr hq;obtain⟨h1,h2⟩:=dl hq hs (hr g YC);rw[Qz,Qz,ih _ (λx hx=>hr x (by simp[hx])) h1,h2]
 exact e c.Fields p (λg hg=>(hc.fields.all g hg).name) hd
theorem vt(ha:a.length<=1000000000000)(x:Tx):KU a x=some (Lq (λy=>y==x) 0 a):=by unfold KU;exact Zt (l:=a) (p:=λy:Tx=>y==x) YA (λi y hy=>by unfold kJ;rw[Xl hy,zo,hy];rfl) (by unfold kJ;rw[Xm];rfl)
theorem aT(x:Tx):Lq (λy=>y==x) 0 a=Lq (λy=>x==y) 0 a:=by congr 1;funext y;exact BEq.comm
def Mw(a:Vs)(f:zb):Vs:=cond ((!f.Static)&&!(a.any λy=>f.Name==y)) (a++[f.Name]) a
theorem zFK(x:Tx):decide (Lq (λy:Tx=>y==x) 0 a<0)=!(a.any λy=>x==y):=by rw[qR,<-HB,ZK,qy,dA]
theorem zF3(hc:XI c){k:Nat}(ha:a.length<=10000*k)(hk:k<=1000):zk (λz=>B4 c z.1 z.2) (a,0)=some (.inl (c.Methods.foldl Mw a))/\(c.Methods.foldl Mw a).length<=10000*(k+1):=by
 have hF:=hc.methods.len
 have:=ZM (β:=Vs) (S:=Vs×Int) (U:=Vs) (R:=Vs) (body:=λz=>B4 c z.1 z.2) (λb i=>(b,i)) (λb=>b)
  (l:=c.Methods) (f:=Mw) (I:=λb i=>b.length<=10000*k+i/\i<=c.Methods.length) (λi x b hI hx=>by
   have hi:=(Qb.1 hx).1;have hI1:=hI.1;constructor;.show B4 c b (i:Int)=_;unfold B4 Ad Mw;rw[Xl hx,zo,hx];simp only[YF,Qa];rw[vt YA];simp only[Qa];rw[zFK,XH (by simp;omega) (by simp;omega),zz YA];cases x.Static<;>cases(b.any λy=>x.Name==y)<;>rfl
   .refine⟨?_,YA⟩;unfold Mw
    cases((!x.Static)&&!(b.any λy=>x.Name==y))<;>simp<;>omega) (λb hI=>by
   show B4 c b (c.Methods.length:Int)=_;unfold B4
   rw[Xm];rfl) (b0:=a) ⟨ha,Qk _⟩
 refine⟨this.1,?_⟩;have h2:=this.2.1;omega
theorem xW{α β:Type}{f g:β->α->β}:∀(l:List α) (b:β),(∀b,∀x∈l,f b x=g b x)->l.foldl f b=l.foldl g b
 |[],b,_=>rfl
 |x::r,b,h=>by rw[Qz,Qz,h b x YC,xW r _ (λb y hy=>h b y (by simp[hy]))]
theorem xV{α β:Type}{f:β->α->β}:∀(l:List α) (b:β),(∀b,∀x∈l,f b x=b)->l.foldl f b=b
 |[],b,_=>rfl
 |x::r,b,h=>by rw[Qz,h b x YC,xV r _ (λb y hy=>h b y (by simp[hy]))]
theorem lj(h:Xf l L)(hF:∀c∈L,XI c)(hc:c∈L):TO L c.Name=some (D5 (XS L c.Name)):=by
 have h26:=h.len;have hs26:=Z4 h c.Name;have hcl:cl L c.Name=some c:=(show Nd L from h.nd).cl hc;unfold TO;rw[Zc YA];simp only[Qa];rw[Gy,ZC hcl,KO hcl];simp only[Qo,YG,Qa];have Fm:∀x∈XS L c.Name,x∈L/\x.Name∈Xh L c.Name:=λx hx=>SO h hx
 cases hi:c.Interface with
 |true =>
  have hisF:Lg L c.Name=true:=by unfold Lg;rw[hcl];exact hi
  have e:D5 (XS L c.Name)=[]:=by
   unfold D5;refine xV _ _ (λa x hx=>?_);obtain⟨x1,x2⟩:=Fm x hx;unfold sC;refine xV _ _ (λa f hf=>?_)
   have hab:f.Abstract=true:=by
    rw[Pq h x1 hf]
    rcases vf h x2 hisF with e|e
    .have:=(show Nd L from h.nd).cl x1;rw[e,hcl]at this;cases this;exact hi
    exfalso
    have h0:cl Lb K4=some (gC K4 []):=YD
    have:=(show Nd L from h.nd).cl x1;rw[e,O0 h.app h0]at this;cases this;cases hf
   unfold sF;rw[hab];simp
  rw[e];rfl
 |false =>
  have hisF:Lg L c.Name=false:=by unfold Lg;rw[hcl];exact hi
  simp only[YG];rw[HN h];simp only[Qa]
  have key:=bR (β:=Vs) (S:=Vs×Int) (U:=Vs) (R:=Vs) (body:=λz=>PP L (Xh L c.Name) z.1 z.2) (λb j=>(b,j)) (λb=>b)
   (l:=Xh L c.Name) (f:=λa s=>(X0 L s).Methods.foldl Mw a) (I:=λb i=>b.length<=10000*(26-i)/\i<=26) (λi s b hI hx=>by
    have hi:=(Qb.1 hx).1;obtain⟨i1,i2⟩:=hI;obtain⟨x,hxc⟩:=XY (Ul h _ c.Name s (Qc hx)).1
    have e:X0 L s=x:=by unfold X0;rw[hxc];rfl
    obtain⟨k1,k2⟩:=zF3 (hF x (XG hxc).1) (a:=b) (k:=26-(i+1)) i1 YA;rw[e];refine⟨?_,by rw[show 26-i=26-(i+1)+1 by omega];exact k2,YA⟩;show PP L (Xh L c.Name) b (i:Int)=_;unfold PP;rw[YH YA,zo,hx];simp only[YF,Qa];rw[Zc YA];simp only[Qa];rw[KO hxc];simp only[Qa];rw[k1];show some (Sum.inl (_,i64.wrap ((i:Int)-1)))=_
    rw[ZA YA YA]) (λb hI=>rfl) (b0:=[]) ⟨Qk _,hs26⟩
  rw[ZA YA YA,show zk (λz=>PP L (Xh L c.Name) z.1 z.2) ([],((Xh L c.Name).length:Int)-1)=_ from key.1]
  have e:(Xh L c.Name).reverse.foldl (λa s=>(X0 L s).Methods.foldl Mw a) []=D5 (XS L c.Name):=by
   unfold D5 XS;rw[List.foldl_map];refine xW _ _ (λa s hs=>?_);rw[JB]at hs;obtain⟨x,hxc⟩:=XY (Ul h _ c.Name s hs).1
   have e:X0 L s=x:=by unfold X0;rw[hxc];rfl
   rw[e];unfold sC;refine xW _ _ (λa f hf=>?_)
   have hab:f.Abstract=false:=by
    rw[Pq h (XG hxc).1 hf];have:=yp h hs hisF;unfold Lg at this;rw[hxc]at this;exact this
   unfold Mw sF;rw[hab];simp
  rw[e];rfl
theorem xO{α β:Type}{f:List β->α->List β}{P:α->β->Prop}{y:β}(h:∀a x,y∈f a x->y∈a\/P x y):∀(l:List α) (a:List β),y∈l.foldl f a->y∈a\/∃x∈l,P x y
 |[],a,hy=>.inl hy
 |x::r,a,hy=>by
  rw[Qz]at hy
  rcases xO h r (f a x) hy with e|⟨z,z1,z2⟩
  .rcases h a x e with e|e
   .exact .inl e
   exact .inr ⟨x,YC,e⟩
  exact .inr ⟨z,by simp[z1],z2⟩
theorem zGG{y:Tx}(hy:y∈GY cs):∃d∈cs,∃g∈d.Fields,g.Static=false/\y=Ls d.Name g.Name:=by
 rcases xO (P:=λ(d:za) y=>∃g∈d.Fields,g.Static=false/\y=Ls d.Name g.Name) (λa d hy=>xO (P:=λ(g:zh) y=>g.Static=false/\y=Ls d.Name g.Name) (λa g hy=>by
  unfold wF at hy
  cases hs:g.Static with
  |true=>rw[hs]at hy;exact .inl hy
  |false =>
   rw[hs]at hy
   rcases Qp.1 hy with e|e
   .exact .inl e
   exact .inr ⟨rfl,QC.1 e⟩) d.Fields a hy) cs [] hy with e|e
 .cases e
 exact e
theorem xm:∀{a b x y:Tx},(46:UInt8)∉a->(46:UInt8)∉b->Ls a x=Ls b y->a=b/\x=y
 |[],[],x,y,_,_,h=>⟨rfl,by simpa[Ls]using h⟩
 |[],b::bs,x,y,_,hb,h=>by
  have:(46:UInt8)=b:=by simp[Ls]at h;exact h.1
  exact absurd (by simp[this]) hb
 |a::u,[],x,y,ha,_,h=>by
  have:a=(46:UInt8):=by simp[Ls]at h;exact h.1
  exact absurd (by simp[this]) ha
 |a::u,b::bs,x,y,ha,hb,h=>by
  have h2:a=b/\Ls u x=Ls bs y:=by simpa[Ls]using h
  obtain⟨e1,e2⟩:=xm (λe=>ha (by simp[e])) (λe=>hb (by simp[e])) h2.2;exact⟨by rw[h2.1,e1],e2⟩
theorem zEC(h:XM s=true):(46:UInt8)∉s:=by intro e;unfold XM KE at h;simp only[Qd]at h;have:=Qr.1 h.1.1.1 46 e;exact absurd this (by decide +kernel)
end
section
variable {c:Tx} {mt:zb} {VH VG:Vs}
theorem zF9(h:XW l L m mt VH VG b)(ho:x.Op=43\/x.Op=44)(hC:x.C.length<=25)(hc:c.length<=25){p:Vs×Vs×Bool} (hp:zj L m c mt VH VG b x=some p) (hb:p.2.2=false):(ZJ L x.C x.M).2.1.Static=false:=by
 obtain⟨k1,k2,k3,k4⟩:=wo h.made ZY x.M (Xh L x.C);have hR:((Xh L x.C).findSome? (X4 L ZY x.M)).getD ([],zM,false)=ZJ L x.C x.M:=rfl;rw[hR]at k1 k2 k3 k4
 have hP:WG L m c mt VH VG b x=Ot L m c mt VH VG b x (ZJ L x.C x.M).1 (ZJ L x.C x.M).2.1 ((ZJ L x.C x.M).2.2&&!(ZJ L x.C x.M).2.1.Abstract):=by
  unfold WG;rw[Wc h.made h.map h.lens,qf (show x.Op≠45 by omega),hR];rfl
 rw[vx YA,hP,yS h YA hC hc k1 k2]at hp
 cases hs:(ZJ L x.C x.M).2.1.Static with
 |false=>rfl
 |true =>
  cases hp;have e:(x.Op==(42:Int))=false:=qf YA;have hbad:(K8 L c x (ZJ L x.C x.M).1 (Xp L [84] (ZJ L x.C x.M).2.1.Params.reverse VG (b||!(((ZJ L x.C x.M).2.2&&!(ZJ L x.C x.M).2.1.Abstract)&&((ZJ L x.C x.M).2.1.Static==(x.Op==(42:Int))))))).2=true:=Sj (ZL _ _ _ (by rw[hs,e];simp))
  have:(Gs L c VG b x (ZJ L x.C x.M).1 (ZJ L x.C x.M).2.1 ((ZJ L x.C x.M).2.2&&!(ZJ L x.C x.M).2.1.Abstract)).2=true:=by
   unfold Gs HW;cases(ZJ L x.C x.M).2.1.Ret==[86]<;>exact hbad
  rw[show(Gs L c VG b x (ZJ L x.C x.M).1 (ZJ L x.C x.M).2.1 ((ZJ L x.C x.M).2.2&&!(ZJ L x.C x.M).2.1.Abstract)).2=false from hb]at this;cases this
theorem cA(hk:X7 mt)(hc:c.length<=25):∀(d i:Nat) (VH VG:Vs) (g:Bool),d+i=mt.Code.length->XW l L m mt VH VG false->K3 L m c mt (VH,VG,false,g,(i:Int))=some true->∀(j:Nat) x,i<=j->mt.Code[j]?=some x->(x.Op=43\/x.Op=44)->(ZJ L x.C x.M).2.1.Static=false:=by
 intro d
 induction d with
 |zero =>
  intro i VH VG g hd h hr j x hj hx;have:=(Qb.1 hx).1;omega
 |succ d ih =>
  intro i VH VG g hd h hr j y hj hy ho
  have hlt:i<mt.Code.length:=YA
  have hx:mt.Code[i]?=some mt.Code[i]:=Qe hlt;have hxm:=hk.ins _ (Qj hlt);have h100:=hk.code.2;generalize mt.Code[i]=x at hx hxm;have hw:i64.wrap ((i:Int)+1)=((i+1:Nat):Int):=zz YA;have hE:∀b,XW l L m mt (Zp L mt VH VG i g).1 (Zp L mt VH VG i g).2.1 b:=λb=>oz h hk
  have hP:U0 c (zu.mk L m) mt VH VG false g (i:Int)=cond (Zp L mt VH VG i g).2.2 (some (.inr (.inr false))) ((MT L m c mt (Zp L mt VH VG i g).1 (Zp L mt VH VG i g).2.1 (Zp L mt VH VG i g).2.2 (i:Int)).bind λv51=>(zj L m c mt (Zp L mt VH VG i g).1 (Zp L mt VH VG i g).2.1 v51 x).bind λv52=>cond (Ur x.Op) ((Ob L m c mt v52.1 v52.2.1 v52.2.2 x.A).bind λv53=>Dx mt (i:Int) x v52 v53) (Dx mt (i:Int) x v52 v52.2.2)):=by
   unfold U0;rw[Xl hx,zo,hx];simp only[YF,Qa];rw[wh h.made h.map hk h.shL h.shS];rfl
  generalize Zp L mt VH VG i g=E at hE hP;obtain⟨p,r,s1,s2,s3,s4⟩:=vg (c:=c) (hE (E.2.2||mt.Traps.any (KF L mt E.1 i))) hk hxm hc
  cases hb:E.2.2 with
  |true =>
   rw[hb]at hP;rw[ug hP]at hr;cases hr
  |false =>
   rw[hb]at hP s1 s4;simp only[YG]at hP;rw[yk h.made h.map hk (hE false).shL]at hP;simp only[Qa]at hP;rw[s1]at hP;simp only[Qa]at hP;obtain⟨k0,⟨k1,k2,k3,k4⟩,k5⟩:=s4;have hroom:=(hE false).room;have Fk:=hk.stack.2;have hl1:Li p.1:=⟨by rw[k1];exact(hE false).shL.1,k3⟩;have hs1:Li p.2.1:=⟨YA,k4⟩;rw[d6 h.made h.map hk hl1 hs1]at hP
   have hP2:U0 c (zu.mk L m) mt VH VG false g (i:Int)=some (.inl (p.1,p.2.1,r.2.2,!Gf x.Op,((i+1:Nat):Int))):=by
    rw[hP,<-s3.1,<-hw];unfold Dx;cases Ur x.Op<;>rfl
   rw[bj hP2]at hr
   cases hrb:r.2.2 with
   |true =>
    rw[hrb,Sx h.made h.map hk hl1 hs1 YA]at hr;cases hr
   |false =>
    rw[hrb]at hr;have hsum:=s3.1;rw[hrb]at hsum;simp only[Qh,QT,YJ]at hsum
    have hpb:p.2.2=false:=by
     have:=hsum.1
     cases hq:Ur x.Op with
     |true=>rw[hq]at this;simp only[YF,Qh]at this;exact this.1
     |false=>rw[hq]at this;exact this
    have hT:(false||mt.Traps.any (KF L mt E.1 i))=false:=by
     cases hq:(false||mt.Traps.any (KF L mt E.1 i))with
     |false=>rfl
     |true=>rw[hq]at k0;rw[k0 rfl]at hpb;cases hpb
    by_cases e:j=i;.subst e;rw[hx]at hy;cases hy;have h10:=M9 hxm;exact zF9 (hE _) ho YA hc s1 hpb
    rw[hT]at k0;exact ih (i+1) p.1 p.2.1 (!Gf x.Op) YA (b9 (hE false) hk ⟨k0,⟨k1,k2,k3,k4⟩,k5⟩ hpb hsum.2) hr j y YA hy ho
theorem tQ(h:Xf l L)(hm:Xq L m)(hL:XQ L){k:za}(hk:k∈L){f:zb}(hf:k.Methods[i]?=some f)(ha:f.Abstract=false)(hv:vN L k.Name (i:Int)=true):∀x∈f.Code,(x.Op=43\/x.Op=44)->(ZJ L x.C x.M).2.1.Static=false:=by
 have hc:cl L k.Name=some k:=(show Nd L from h.nd).cl hk;have hn:=(Qb.1 hf).1;have hkk:=dy (O8 h hk (Qc hf)) ha;have hcm:=Wh (Dm h (ZC hc));have e:=(dM h hm hL k.Name (i:Int)).1;rw[hv]at e;unfold KV at e;simp only[ZG]at e;rw[Us hm,hc]at e;simp only[Qa,Qo,QR]at e;rw[YI YA,YI YA,zo,hf]at e;simp only[QR,YG,Qa,ha]at e;rw[fF h hm hkk]at e;have hA:=oE h hm hL hkk hcm;intro x hx ho;obtain⟨j,hj⟩:=J3.1 hx
 cases hb:DR L f with
 |true =>
  rw[hb,show(0:Int)=((0:Nat):Int)from rfl,Sx (i:=0) h hm hkk hA.shL hA.shS (Qk _)]at e;cases e
 |false =>
  rw[hb]at e;exact cA hkk (KK hcm) f.Code.length 0 (Ka k.Name f) [] true YA hA e j x (Qk _) hj ho
end
section
variable {a:List Int}
structure Nz(L:Vr)(d:List (Tx×Int))(a:List Int):Prop where
 len:a.length=L.length
 eq:∀(i:Nat) c x,L[i]?=some c->a[i]?=some x->(((XE c.Name d).getD 0==(2:Int))=(x==(2:Int)))
theorem ag(hA:Nz L d a)(hc:cl L s=some c):∃x,idx a (Lm L s)=some x/\(((XE s d).getD 0==(2:Int))=(x==(2:Int))):=by obtain⟨h1,h2,h3⟩:=zT (KO hc);have hl:=hA.len;obtain⟨k,hk⟩:∃k:Nat,Lm L s=(k:Int):=⟨_,(Int.toNat_of_nonneg h1).symm⟩;rw[hk]at h2 h3 ⊢;rw[Ja]at h2 h3;have hx:a[k]?=some (a[k]' YA):=Qe _;have:=hA.eq _ c _ h3 hx;rw[(XG hc).2]at this;exact⟨_,by rw[zo];exact hx,this⟩
theorem yE{α β:Type}(p:β->Bool)(f:α->β):∀(k:Nat) (l:List α),Lq p k (l.map f)=Lq (λx=>p (f x)) k l
 |_,[]=>rfl
 |k,x::r=>by
  show cond (p (f x)) _ _=cond (p (f x)) _ _;rw[yE p f (k+1) r]
theorem qG{n:Tx}(hn:Xi L n=true):Lq (λy=>n==y) 0 (Xy L).1=Lm L n:=by obtain⟨u,e⟩:=zDp L;have h2:(L.map (·.Name)).any (λy=>n==y)=true:=QB.2 ⟨n,KP.1 hn,YC⟩;rw[e,S2,h2,YF,yE];unfold Lm;congr 1;funext c;exact BEq.comm
theorem uh(h:Xf l L)(hF:∀c∈L,XI c)(hA:Nz L d a)(n:Tx):Wi L a n=some (WX L d (Xy L).1 n):=by
 have h26:=h.len;have hln:=Z4 h n;unfold Wi;rw[HN h];simp only[Qa]
 rw[show zk (λz=>E9 L a n (Xh L n) z) 0=some (XJ () ((Xh L n).findSome? (λs=>cond (DG L d s) (some (Lm L n)) none)))from Zq (λi s hs=>by
  have hi:=(Qb.1 hs).1;obtain⟨c,hc⟩:=XY (Ul h _ n s (Qc hs)).1;obtain⟨x,x1,x2⟩:=ag hA hc;have hml:=(hF c (XG hc).1).methods.le;show E9 L a n (Xh L n) (i:Int)=_;unfold E9 DG;rw[Xl hs,zo,hs];simp only[YF,Qa];rw[Zc YA,Zc YA];simp only[Qa];rw[KO hc];simp only[Qa];rw[Wu hml,hc];simp only[Qa];rw[x1,x2,zz YA];simp only[Qa]
  cases decide (0<=Lq (λy:zb=>y.Name==[36,105,110,105,116]) 0 c.Methods)<;>cases(x==(2:Int))<;>rfl) (by
  show E9 L a n (Xh L n) ((Xh L n).length:Int)=_;unfold E9
  rw[Xm];rfl),z8]
 unfold WX
 cases hb:(Xh L n).any (DG L d)with
 |false=>rfl
 |true =>
  have hn:Xi L n=true:=by
   cases hq:Xi L n with
   |true=>rfl
   |false=>rw[GD hq]at hb;cases hb
  rw[qG hn];rfl
end
theorem d9(h:Xf l L):∀(k:Nat) (y x:Tx),(Xh L y).length<=k->x∈Xh L y->∃t,Xh L y=t++Xh L x
 |0,y,x,hk,hx=>by
  have:=List.length_pos_of_mem hx;omega
 |k+1,y,x,hk,hx=>by
  cases hq:Xi L y with
  |false=>rw[GD hq]at hx;cases hx
  |true =>
   obtain⟨c,hc⟩:=XY hq;have e:=Eo h hc;rw[e]at hx hk
   rcases Qu.1 hx with r|r
   .exact⟨[],by rw[r];rfl⟩
   obtain⟨t,ht⟩:=d9 h k c.Super x (by simp at hk;omega) r;exact⟨y::t,by rw[e,ht];rfl⟩
theorem bc(h:Xf l L){n:Tx}(hc:cl L n=some c):n∉Xh L c.Super:=λhx=>by
 obtain⟨t,ht⟩:=d9 h _ c.Super n (Qg _) hx;have e:=congrArg List.length (Eo h hc);have e2:=congrArg List.length ht;simp at e e2;omega
theorem qL(h:Xf l L):∀(k:Nat) (y:Tx),(Xh L y).length<=k->(Xh L y).Nodup
 |0,y,hk=>by rw[Qf (Nat.le_zero.1 hk)];exact JK
 |k+1,y,hk=>by
  cases hq:Xi L y with
  |false=>rw[GD hq];exact JK
  |true =>
   obtain⟨c,hc⟩:=XY hq;have e:=Eo h hc;rw[e]at hk ⊢;exact Jh.2 ⟨bc h hc,qL h k c.Super (by simp at hk;omega)⟩
theorem cW(h:Xf l L){y x:Tx}(hx:x∈Xh L y):∃t:Vs,XS L y=XS L x++t.map (X0 L)/\x∉t/\∀s∈t,s∈Xh L y:=by
 obtain⟨t,ht⟩:=d9 h _ y x (Qg _) hx;have hn:=qL h _ y (Qg _);have hq:Xi L x=true:=(Ul h _ y x hx).1;obtain⟨c,hc⟩:=XY hq;refine⟨t.reverse,?_,?_,?_⟩;.unfold XS;rw[ht,List.reverse_append,Jt]
 .intro hm;rw[ht]at hn;have h1:=(Jv.1 hn).2.2 x (JB.1 hm) x (by rw[Eo h hc];simp);exact h1 rfl
 intro s hs;rw[ht];exact Q8 _ (JB.1 hs)
def Ms(c:za):Vv:=c.Fields.filter λf=>!f.Static
theorem qn(c:za)(a:Vs):wC a c=a++(Ms c).map (λf=>Ls c.Name f.Name):=by
 unfold wC Ms
 have:∀(r:Vv) (a:Vs),r.foldl (wF c.Name) a=a++(r.filter λf=>!f.Static).map (λf=>Ls c.Name f.Name):=by
  intro r
  induction r with
  |nil=>intro a;simp
  |cons f r ih =>
   intro a;rw[Qz,ih];unfold wF;cases hs:f.Static<;>simp[hs]
 exact this _ _
theorem bS:∀(cs:Vr) (a:Vs),cs.foldl wC a=a++cs.flatMap λc=>(Ms c).map (λf=>Ls c.Name f.Name)
 |[],a=>YC
 |c::r,a=>by rw[Qz,bS r,qn];simp
theorem NR(h:Xf l L){n:Tx}(hn:Xi L n=true):(46:UInt8)∉n:=zEC (Dm h hn)
theorem zET(h:Xf l L)(hc:c∈L):(c.Fields.map (·.Name)).Nodup:=by
 rw[h.app]at hc
 rcases Qp.1 hc with e|e
 .have hg:Lb.all (λc=>decide (c.Fields.length=0))=true:=by decide +kernel
  have:=Qr.1 hg c e;simp only[YJ]at this;rw[Qf this];exact JK
 have hm:=h.may c e;unfold ZT at hm;simp only[Qd,Qm,YJ]at hm;obtain⟨_,⟨⟨⟨_,_⟩,h5,_⟩,h6,_⟩⟩:=hm;refine JN.2 λi j hi hj hij e=>?_;rw[QY]at hi hj;rw[Ya,Ya]at e;have:=vE h5 i j _ _ (Qe hi) (Qe hj) e;omega
theorem rU(h:Xf l L)(hc:c∈L):((Ms c).map (λf=>Ls c.Name f.Name)).Nodup:=by
 have h1:=zET h hc;have h2:((Ms c).map (·.Name)).Nodup:=List.Sublist.nodup (List.Sublist.map _ (List.filter_sublist)) h1
 have h3:((Ms c).map (λf=>Ls c.Name f.Name))=((Ms c).map (·.Name)).map (λx=>Ls c.Name x):=by rw[List.map_map];rfl
 rw[h3];exact List.pairwise_map.2 (List.Pairwise.imp (λhab e=>hab (List.append_cancel_left (show c.Name++[46]++_=c.Name++[46]++_ from e))) h2)
theorem vA(h:Xf l L):∀(k:Nat) (n:Tx),(Xh L n).length<=k->(GY (XS L n)).Nodup
 |0,n,hk=>by
  have:Xh L n=[]:=Qf (Nat.le_zero.1 hk);unfold XS;rw[this];exact JK
 |k+1,n,hk=>by
  cases hq:Xi L n with
  |false=>unfold XS;rw[GD hq];exact JK
  |true =>
   obtain⟨c,hc⟩:=XY hq;obtain⟨c1,c2⟩:=XG hc;have e:=Eo h hc;have ih:=vA h k c.Super (by rw[e]at hk;simp at hk;omega);rw[zC4 h hc];unfold GY at ih ⊢;rw[List.foldl_append,Qz,List.foldl_nil,qn];refine Jv.2 ⟨ih,rU h c1,λx hx y hy=>?_⟩;rintro rfl;obtain⟨f,hf,rfl⟩:=QP.1 hy;obtain⟨b,hb,g,hg,_,hge⟩:=zGG hx;obtain⟨b1,b2⟩:=SO h hb;have hbn:Xi L b.Name=true:=ZC ((show Nd L from h.nd).cl b1);have:=(xm (NR h (by rw[c2];exact hq)) (NR h hbn) hge).1;rw[<-this,c2]at b2;exact bc h hc b2
theorem qU{s:Tx}:∀(r:Vv) (p:Vs×Vv),∀x∈(r.foldl (fW s) p).1,x∈p.1\/x=s
 |[],p,x,hx=>.inl hx
 |g::r,p,x,hx=>by
  rw[Qz]at hx
  rcases qU r _ x hx with e|e
  .unfold fW at e
   cases hs:g.Static with
   |true=>rw[hs]at e;exact .inl e
   |false =>
    rw[hs]at e
    rcases Qp.1 e with e|e
    .exact .inl e
    exact .inr (QC.1 e)
  exact .inr e
theorem zDI(h:Xf l L)(hF:∀c∈L,XI c)(n:Tx):∃P,Tt L n=some P/\Mf P/\zW P=GY (XS L n)/\P.1.length<=260000/\∀s∈P.1,s∈Xh L n:=by
 have h26:=h.len;have hs26:=Z4 h n
 have Fm:∀s∈Xh L n,∃c,c∈L/\cl L s=some c/\c.Name=s/\X0 L s=c:=λs hs=>by
  obtain⟨c,hc⟩:=XY (Ul h _ n s hs).1;exact⟨c,(XG hc).1,hc,(XG hc).2,by unfold X0;rw[hc];rfl⟩
 have key:=bR (β:=(Vs×Vv)) (S:=Vs×Vv×Int) (U:=Vs×Vv) (R:=Vs×Vv) (body:=λz=>PJ L (Xh L n) z.1 z.2.1 z.2.2) (λb j=>(b.1,b.2,j)) (λb=>b)
  (l:=Xh L n) (f:=fC L) (I:=λb i=>b.1.length<=10000*(26-i)/\i<=26/\Mf b/\∀s∈b.1,s∈Xh L n) (λi s b hI hx=>by
   have hi:=(Qb.1 hx).1;obtain⟨i1,i2,i3,i4⟩:=hI;have hsm:=Qc hx;obtain⟨c,c1,c2,c3,c4⟩:=Fm s hsm
   have hs:FS s:=by rw[<-c3];exact(hF c c1).name
   obtain⟨k1,k2,k3,_⟩:=zES hs (hF c c1) hx (p:=b) (k:=26-(i+1)) i1 YA i3
   have e:fC L b s=c.Fields.foldl (fW s) b:=by unfold fC;rw[c4]
   rw[e];refine⟨?_,by rw[show 26-i=26-(i+1)+1 by omega];exact k2,YA,k3,λx hx=>?_⟩;.show PJ L (Xh L n) b.1 b.2 (i:Int)=_;unfold PJ;rw[YH YA,zo,hx];simp only[YF,Qa];rw[Zc YA];simp only[Qa];rw[KO c2];simp only[Qa];rw[show zk (λz=>WB (Xh L n) (i:Int) c z.1 z.2.1 z.2.2) (b.1,b.2,0)=_ from k1];show some (Sum.inl (_,_,i64.wrap ((i:Int)-1)))=_;rw[ZA YA YA]
   rcases qU _ _ x hx with e|e
   .exact i4 x e
   rw[e];exact hsm) (λb hI=>rfl) (b0:=([],[])) ⟨Qk _,hs26,⟨rfl,λs hs=>by simp at hs,λs hs=>by simp at hs⟩,λs hs=>by cases hs⟩
 obtain⟨k1,k2,_,k4,k5⟩:=key;unfold Tt;rw[HN h];simp only[Qa];rw[ZA YA YA,show zk (λz=>PJ L (Xh L n) z.1 z.2.1 z.2.2) ([],[],((Xh L n).length:Int)-1)=_ from k1];generalize hP:(Xh L n).reverse.foldl (fC L) ([],[])=P at k1 k2 k4 k5;refine⟨P,rfl,k4,?_,YA,k5⟩;rw[<-hP];unfold GY XS;rw[List.foldl_map]
 have e:∀(r:Vs) (q:Vs×Vv) ,(∀s∈r,s∈Xh L n)->Mf q->zW (r.foldl (fC L) q)=r.foldl (λa s=>wC a (X0 L s)) (zW q):=by
  intro r
  induction r with
  |nil=>intro q _ _;rfl
  |cons s r ih =>
   intro q hr hq;obtain⟨c,c1,c2,c3,c4⟩:=Fm s (hr s YC)
   have hs:FS s:=by rw[<-c3];exact(hF c c1).name
   have e2:∀(r:Vv) (q:Vs×Vv),(∀g∈r,FS g.Name)->Mf q->Mf (r.foldl (fW s) q)/\zW (r.foldl (fW s) q)=r.foldl (wF s) (zW q):=by
    intro r
    induction r with
    |nil=>intro q _ hq;exact⟨hq,rfl⟩
    |cons g r ih =>
     intro q hr hq;obtain⟨h1,h2⟩:=dl hq hs (hr g YC);rw[Qz,Qz,<-h2];exact ih _ (λx hx=>hr x (by simp[hx])) h1
   have hcf:∀g∈c.Fields,FS g.Name:=λg hg=>((hF c c1).fields.all g hg).name;obtain⟨h1,h2⟩:=e2 c.Fields q hcf hq;rw[Qz,Qz]
   have e3:fC L q s=c.Fields.foldl (fW s) q:=by unfold fC;rw[c4]
   rw[e3,ih _ (λx hx=>hr x (by simp[hx])) h1,h2,c4];congr 1;unfold wC;rw[c3]
 exact e _ _ (λs hs=>JB.1 hs) ⟨rfl,λs hs=>by simp at hs,λs hs=>by simp at hs⟩
theorem wV(hP:Mf P)(hs:∀s∈P.1,(46:UInt8)∉s){d:Tx}(hd:(46:UInt8)∉d)(hi:i<P.2.length):∃y,(zW P)[i]?=some y/\Wp d M P (i:Int)=cond (Ls d M==y) (some (.inr (.inr (i:Int)))) (some (.inl (i64.wrap ((i:Int)-1)))):=by
 have h1:P.1[i]?=some (P.1[i]'(by rw[hP.len];exact hi)):=Qe _;have h2:P.2[i]?=some P.2[i]:=Qe hi;have hm:=hs _ (Qj (by rw[hP.len];exact hi));generalize P.1[i]'(by rw[hP.len];exact hi)=s at h1 hm;generalize P.2[i]=g at h2;refine⟨Ls s g.Name,?_,?_⟩;.unfold zW;have hz:(P.1.zip P.2)[i]?=some (s,g):=List.getElem?_zip_eq_some.2 ⟨h1,h2⟩;rw[Jn,hz];rfl
 unfold Wp;rw[YH YA,zo,h1,zo,h2];simp only[YF,Qa]
 have e:(Ls d M==Ls s g.Name)=cond (s==d) (g.Name==M) false:=by
  rw[QJ,YN];constructor;.intro e;obtain⟨e1,e2⟩:=xm hd hm e;rw[e1,e2];simp
  intro e
  cases hq:s==d with
  |false=>rw[hq]at e;cases e
  |true =>
   rw[hq]at e;rw[YP hq,YP (show(g.Name==M)=true from e)]
 rw[e];cases s==d<;>cases g.Name==M<;>rfl
theorem wW(hP:Mf P)(hs:∀s∈P.1,(46:UInt8)∉s)(hl:P.2.length<=1000000){d:Tx}(hd:(46:UInt8)∉d){r:Nat}(hr:(r=0/\o=.inl ())\/(∃k:Nat,r=k+1/\(zW P)[k]?=some (Ls d M)/\o=.inr (k:Int))):∀e,r+e<=P.2.length->(∀i,r<=i->i<r+e->(zW P)[i]?≠some (Ls d M))->zk (λz=>Wp d M P z) (((r+e:Nat):Int)-1)=some o:=by
 intro e
 induction e with
 |zero =>
  intro he _;rw[zH];show(Wp d M P _).bind _=_
  rcases hr with ⟨h1,h2⟩|⟨k,h1,h2,h3⟩
  .subst h1;subst h2;rfl
  .subst h1;subst h3;obtain⟨y,y1,y2⟩:=wV hP hs (M:=M) hd (show k<P.2.length by omega);rw[y1]at h2;cases h2;rw[show(((k+1+0:Nat):Int)-1)=(k:Int)by omega,y2];simp
 |succ e ih =>
  intro he hne;rw[zH];show(Wp d M P _).bind _=_;obtain⟨y,y1,y2⟩:=wV hP hs (M:=M) hd (show r+e<P.2.length by omega)
  have hy:(Ls d M==y)=false:=by
   refine beq_eq_false_iff_ne.2 λe2=>hne (r+e) YA YA ?_;rw[y1,e2]
  rw[show(((r+(e+1):Nat):Int)-1)=((r+e:Nat):Int)by omega,y2,hy];show zk _ (i64.wrap (((r+e:Nat):Int)-1))=_;rw[ZA YA YA];exact ih YA λi h1 h2=>hne i h1 YA
theorem cz(h:Xf l L)(hF:∀c∈L,XI c){C d:Tx}(hd:d∈Xh L C):SV L d M=some (Lq (λy=>Ls d M==y) 0 (GY (XS L C))):=by
 obtain⟨P,p1,p2,p3,p4,p5⟩:=zDI h hF d
 have hl:P.2.length<=1000000:=by rw[<-p2.len];omega
 have Fj:=NR h (Ul h _ C d hd).1;have hs:∀s∈P.1,(46:UInt8)∉s:=λs hs=>NR h (Ul h _ d s (p5 s hs)).1
 have hzl:(zW P).length=P.2.length:=by unfold zW;rw[QY,List.length_zip,p2.len];simp
 have hnd:=vA h _ d (Qg _);rw[<-p3]at hnd;obtain⟨t,t1,t2,t3⟩:=cW h hd
 have e:Lq (λy=>Ls d M==y) 0 (GY (XS L C))=Lq (λy=>Ls d M==y) 0 (zW P):=by
  unfold GY at p3 ⊢;rw[t1,List.foldl_append,<-p3,bS,S2]
  cases hq:(zW P).any (λy=>Ls d M==y)with
  |true=>rfl
  |false =>
   have h1:∀k,Lq (λy=>Ls d M==y) k ((t.map (X0 L)).flatMap λc=>(Ms c).map (λf=>Ls c.Name f.Name))=-1:=λk=>by
    rcases De (λy=>Ls d M==y) ((t.map (X0 L)).flatMap λc=>(Ms c).map (λf=>Ls c.Name f.Name)) k with ⟨j,x,_,hx,hp,_⟩|⟨e,_⟩
    .exfalso;obtain⟨c,hc,hx⟩:=J8.1 (Qc hx);obtain⟨s,hs,rfl⟩:=QP.1 hc;obtain⟨f,hf,rfl⟩:=QP.1 hx;obtain⟨c,hc⟩:=XY (Ul h _ C s (t3 s hs)).1
     have e1:X0 L s=c:=by unfold X0;rw[hc];rfl
     rw[e1,(XG hc).2]at hp;have:=(xm Fj (NR h (ZC hc)) (YP hp)).1;rw[this]at t2;exact t2 hs
    exact e
   have h2:Lq (λy=>Ls d M==y) 0 (zW P)=-1:=by
    rcases De (λy=>Ls d M==y) (zW P) 0 with ⟨j,x,_,hx,hp,_⟩|⟨e,_⟩
    .have:=Qq.1 hq x (Qc hx);exact absurd hp this
    exact e
   rw[YG,h1,h2]
 rw[e];unfold SV;rw[p1];simp only[Qa];rw[ZA YA YA]
 rcases De (λy=>Ls d M==y) (zW P) 0 with ⟨j,x,e1,hx,hp,_⟩|⟨e1,e2⟩
 .have hj:=(Qb.1 hx).1;have hxe:Ls d M=x:=YP hp;rw[<-hxe]at hx
  have:=wW p2 hs hl Fj (M:=M) (r:=j+1) (o:=.inr (j:Int)) (.inr ⟨j,rfl,hx,rfl⟩) (P.2.length-(j+1)) YA (λi hi1 hi2 he=>by
   have hi:i<(zW P).length:=YA
   have h3:=JN.1 hnd j i hj hi YA;rw[Qe hi]at he;rw[Qe hj]at hx
   exact h3 (by rw[Option.some.inj he,Option.some.inj hx]))
  rw[show(((j+1+(P.2.length-(j+1)):Nat):Int)-1)=(P.2.length:Int)-1 by omega]at this;rw[show zk (λz=>Wp d M P z) ((P.2.length:Int)-1)=_ from this,e1];show some (j:Int)=some ((0+j:Nat):Int);rw[QN]
 have:=wW p2 hs hl Fj (M:=M) (r:=0) (o:=.inl ()) (.inl ⟨rfl,rfl⟩) P.2.length YA (λi _ hi he=>by
  have:=JT.1 e2 _ (Qc he)
  exact this YC)
 rw[QN]at this;rw[show zk (λz=>Wp d M P z) ((P.2.length:Int)-1)=_ from this,e1];rfl
section
variable {m2:List (Tx×Int)} {a:List Int} {s:Vs}
theorem xC(h:Xf l L)(hm:Xq L m)(hF:∀c∈L,XI c)(hA:Nz L d a)(ht:(Xy L).1.length<=70000000000)(n:Tx):Ol L m L m (Xy L).1 (Xy L).2.1 (Xy L).2.2 L2 m2 d v s n=Wi L a n:=by rw[uh h hF hA,SD h hm hF ht]
theorem Wa(hT:T.length<=1000000000000)(x:Tx):KU T x=some (Lq (λy=>x==y) 0 T):=by rw[vt hT,aT]
theorem dV{R:Type}{c n:Tx}(hc:c.length<=1000000)(hn:n.length<=1000000)(K:Tx->Option R):((Ze c [46]).bind λy=>(Ze y n).bind K)=K (Ls c n):=by rw[Z3 (by simp;omega),Qa,Z3 (by simp;omega),Qa];rfl
theorem vY{f:zb}(h:f.Static=false):Ua f=i64.wrap ((f.Params.length:Int)+1):=by unfold Ua;rw[h];rfl
theorem aE{C:Tx}(hf:(UO L C M).2.2=true):(UO L C M).1∈Xh L C:=by
 unfold UO at hf ⊢
 cases hh:(Xh L C).findSome? (Ud L M)with
 |none=>rw[hh]at hf;cases hf
 |some r =>
  obtain⟨x,hx,e⟩:=QQ hh
  have:r.1=x:=by
   unfold Ud at e
   cases hc:cl L x with
   |none=>rw[hc]at e;cases e
   |some k =>
    rw[hc]at e;dsimp only at e
    cases hk:k.Fields.find? (λy=>y.Name==M)with
    |none=>rw[hk]at e;cases e
    |some g=>rw[hk]at e;cases e;rfl
  show r.1∈_;rw[this];exact hx
variable (h:Xf l L) (hm:Xq L m) (hF:∀ c ∈ L,XI c) (hD:∀ c ∈ L,Zr L c) (hA:Nz L d a) (hx:UT x =true) (hg:Kv L x =false) (hM:FS x.M)
include h hm hF hD hA hx hg hM
theorem vS(ho:x.Op=38\/x.Op=39):WO L m L m (Xy L).1 (Xy L).2.1 (Xy L).2.2 L2 m2 d v s x true=E8 L a x (Xy L).1 (Xy L).2.1 true:=by
 have hM':=hM;unfold FS at hM'
 have hn:(UO L x.C x.M).2.2=true:=by
  unfold Kv W7 at hg
  have e:((((x.Op==(38:Int))||(x.Op==39))||(x.Op==40))||(x.Op==41))=true:=by rcases ho with e|e<;>rw[e]<;>rfl
  rw[e]at hg;simp only[YF,Qh,QT]at hg;exact hg.2
 have hf:=(NJ hF x.C x.M).2;unfold FS at hf;unfold WO E8;simp only[YF];rw[Bm h hm (Kf hF),Tp h (Kf hF)];simp only[Qa];have e:((Xh L x.C).findSome? (Ud L x.M)).getD ([],zF,false)=UO L x.C x.M:=rfl;rw[e,fH h hm hF YA,BC (by unfold Lf;omega),cz h hF (aE hn)];simp only[Qa]
 have hr:Zu (UO L x.C x.M).2.1.Type_=!((UO L x.C x.M).2.1.Type_==[73]):=by
  have:=(xk h x.C x.M).2 hn;have e2:Xr (UO L x.C x.M).2.1.Type_=true:=this;unfold Zu;rw[e2];simp
 rw[hr];rfl
theorem vR(ho:x.Op=40\/x.Op=41):WN L m L m (Xy L).1 (Xy L).2.1 (Xy L).2.2 L2 m2 d v s x true=E7 L a x (Xy L).1 (Xy L).2.1 true:=by have hl:=M8 h hm hF hD;have ht:=hl.t;have Fk:=hl.st;have hM':=hM;unfold FS at hM';have hf:=(NJ hF x.C x.M).1;unfold FS at hf;unfold WN E7;simp only[YF];rw[Bm h hm (Kf hF),Tp h (Kf hF),l4 h hF];simp only[Qa];have e:((Xh L x.C).findSome? (Ud L x.M)).getD ([],zF,false)=UO L x.C x.M:=rfl;rw[e,oe Fk YA YA,xC h hm hF hA ht,dV YA YA];simp only[Qa];rw[Wa YA];rfl
theorem um(ho:x.Op=42\/x.Op=43\/x.Op=44)(Fk:x.Op=43\/x.Op=44->(ZJ L x.C x.M).2.1.Static=false):GN L m L m (Xy L).1 (Xy L).2.1 (Xy L).2.2 L2 m2 d v s x true=Dv L a x (Xy L).1 (Xy L).2.1 true:=by
 have hl:=M8 h hm hF hD;have ht:=hl.t;have hme:=hl.me;have hM':=hM;unfold FS at hM';have hV:=wq (L:=L) hF (q:=ZY) (n:=x.M) (T:=Xh L x.C);unfold FS at hV;have e:((Xh L x.C).findSome? (X4 L ZY x.M)).getD ([],zM,false)=ZJ L x.C x.M:=rfl
 have hn:Xi L x.C=true:=by
  unfold Kv W7 at hg
  have e1:((((x.Op==(38:Int))||(x.Op==39))||(x.Op==40))||(x.Op==41))=false:=by rcases ho with e|e|e<;>rw[e]<;>rfl
  have e2:(((x.Op==(42:Int))||(x.Op==43))||(x.Op==44))=true:=by rcases ho with e|e|e<;>rw[e]<;>rfl
  rw[e1,e2]at hg;simp only[YF,YG,Qh,QT,Qd]at hg
  cases hq:Xi L x.C with
  |true=>rfl
  |false=>rw[GD hq]at hg;exact absurd hg.2.1 Jc
 obtain⟨c,hc⟩:=XY hn;have hsl:=(vj (t:=[]) (me:=[]) (st:=[]) h hm hF x.C).2;have hrs:=lj h hF (XG hc).1;rw[(XG hc).2]at hrs;unfold GN Dv IA MW TM;simp only[YF];rw[Wc h hm (Kf hF),TC h (Kf hF),e];rw[e]at hV;simp only[Qa];rw[SZ hme YA YA,xC h hm hF hA ht,uh h hF hA,dV YA YA,fI h hm hF,hrs];simp only[Qa];rw[Wa YA,Wa YA];simp only[Qa]
 rcases ho with e1|e1
 .rw[qt e1,qf (show x.Op≠43 by omega)];rfl
 rw[vY (Fk e1),qf (show x.Op≠42 by omega),qf (show x.Op≠45 by omega)]
 rcases e1 with e1|e1
 .rw[qt e1];rfl
 rw[qf (show x.Op≠43 by omega)];rfl
theorem zEt(ho:x.Op=45):GN L m L m (Xy L).1 (Xy L).2.1 (Xy L).2.2 L2 m2 d v s x true=Dv L a x (Xy L).1 (Xy L).2.1 false:=by
 have hl:=M8 h hm hF hD;have ht:=hl.t;have hme:=hl.me;have hM':=hM;unfold FS at hM';have hW:=y7 hF x.C x.M;unfold FS at hW
 have hn:(Ux L x.C x.M).2.2=true:=by
  unfold Kv W7 at hg;rw[ho]at hg;have hg':(Zi L x.C||!(Ux L x.C x.M).2.2)=false:=hg;simp only[Qh,QT]at hg';exact hg'.2
 have hs:=(yA h x.C x.M).2 hn;unfold GN Dv IA MW;simp only[YF,YG];rw[Wc h hm (Kf hF),R4 h hm (Kf hF),uM h (Kf hF),qt ho,qf (show x.Op≠42 by omega),qf (show x.Op≠43 by omega)];simp only[YF,YG,Qa];rw[SZ hme YA YA,dV YA YA,Wa YA];simp only[Qa];show Gn x _ (Ua (Ux L x.C x.M).2.1)=_;rw[vY hs];rfl
theorem zHQ(Fk:x.Op=43\/x.Op=44->(ZJ L x.C x.M).2.1.Static=false):G9 L m L m (Xy L).1 (Xy L).2.1 (Xy L).2.2 L2 m2 d v s x=Th L a x:=by
 have hl:=M8 h hm hF hD;have ht:=hl.t;have hme:=hl.me;have h10:=M9 hx;unfold G9 Th;rw[(lh h hF hD).1,l5 h hF,Hw ht,xC h hm hF hA ht];simp only[Qa];rw[Wa YA];by_cases e37:x.Op=37;.rw[qt e37];rfl
 rw[qf e37];by_cases e38:x.Op=38;.rw[qt e38];exact vS (v:=v) (s:=s) (L2:=L2) (m2:=m2) h hm hF hD hA hx hg hM (.inl e38)
 rw[qf e38];by_cases e39:x.Op=39;.rw[qt e39];exact vS (v:=v) (s:=s) (L2:=L2) (m2:=m2) h hm hF hD hA hx hg hM (.inr e39)
 rw[qf e39];simp only[YG];unfold WO E8;by_cases e40:x.Op=40;.rw[qt e40];exact vR (v:=v) (s:=s) (L2:=L2) (m2:=m2) h hm hF hD hA hx hg hM (.inl e40)
 rw[qf e40];by_cases e41:x.Op=41;.rw[qt e41];exact vR (v:=v) (s:=s) (L2:=L2) (m2:=m2) h hm hF hD hA hx hg hM (.inr e41)
 rw[qf e41];simp only[YG];unfold WN E7;by_cases e42:x.Op=42;.rw[qt e42];exact um (v:=v) (s:=s) (L2:=L2) (m2:=m2) h hm hF hD hA hx hg hM (.inl e42) Fk
 rw[qf e42];by_cases e43:x.Op=43;.rw[qt e43,qf (show x.Op≠44 by omega)];exact um (v:=v) (s:=s) (L2:=L2) (m2:=m2) h hm hF hD hA hx hg hM (.inr (.inl e43)) Fk
 rw[qf e43];by_cases e44:x.Op=44;.rw[qt e44];exact um (v:=v) (s:=s) (L2:=L2) (m2:=m2) h hm hF hD hA hx hg hM (.inr (.inr e44)) Fk
 rw[qf e44];by_cases e45:x.Op=45;.rw[qt e45];exact zEt (v:=v) (s:=s) (L2:=L2) (m2:=m2) h hm hF hD hA hx hg hM e45
 rw[qf e45];simp only[YG];unfold GN Dv;rw[T3 YA,kB YA,qf e45,Hw ht];simp only[YG,Qa];rw[Hw ht,Wa YA,Wa YA];unfold I9 TL;rw[Hw ht,Wa YA];cases x.Op==49<;>cases x.Op==50<;>cases x.Op==56<;>cases x.Op==57<;>rfl
end
section
variable {m2:List (Tx×Int)} {a:List Int} {t me st s:Vs}
theorem tE(h:Xf l L)(hm:Xq L m)(hF:∀c∈L,XI c)(hD:∀c∈L,Zr L c)(hl:W2 t me st)(hc:c∈L){k:Nat}{f:zb}(hf:c.Methods[k]?=some f):BF (some (zu.mk L m)) L m t me st L2 m2 d v s c.Name (k:Int)=some (Zd.mk (Ua f) f.Locals f.Stack (!(f.Ret==[86])) (f.Code.map (λx=>(G9 L m L m t me st L2 m2 d v s x).getD (X1.mk 0 0 0 0))) (f.Traps.map (Nc t))):=by
 have hk:=(Qb.1 hf).1;have hfm:=Qc hf;have hM:=(hF c hc).methods.all f hfm;have hml:=(hF c hc).methods.len;have hS:=((hD c hc).small.methods.2 f hfm);have hcl:cl L c.Name=some c:=(show Nd L from h.nd).cl hc;have one:∀x∈f.Code,MD L d t x (G9 L m L m t me st L2 m2 d v s x):=λx hx=>yi h hm hF hl (hS.code.2 x hx) (hM.code.all x hx).m
 .unfold BF;simp only[ZG];rw[Us hm,hcl];simp only[Qa];rw[YI YA,YI YA,zo,hf];simp only[Qa,Yi,YG];have hcl:=hM.code.len
  have hl1:=(ZM (β:=VB) (S:=VB×Int) (U:=VB) (R:=Zd) (body:=λz=>BS L m t me st L2 m2 d v s (zu.mk L m) f z.1 z.2) (λb i=>(b,i)) (λb=>b)
   (l:=f.Code) (f:=λa x=>a++[(G9 L m L m t me st L2 m2 d v s x).getD (X1.mk 0 0 0 0)]) (I:=λb i=>b.length=i/\i<=f.Code.length) (λi x b hI hx=>by
    have hi:=(Qb.1 hx).1;obtain⟨a,y,e,_⟩:=one x (Qc hx);refine⟨?_,by simp[hI.1],YA⟩;show BS L m t me st L2 m2 d v s (zu.mk L m) f b (i:Int)=_;unfold BS;rw[Xl hx,zo,hx];simp only[YF,Qa];rw[e];simp only[Qa,Jk];rw[XH (by simp;omega) (by simp;omega),zz YA]
    rfl) (λb hI=>by
    show BS L m t me st L2 m2 d v s (zu.mk L m) f b (f.Code.length:Int)=_;unfold BS
    rw[Xm];rfl) (b0:=[]) ⟨rfl,Qk _⟩).1
  rw[show zk (λz=>BS L m t me st L2 m2 d v s (zu.mk L m) f z.1 z.2) ([],0)=_ from hl1];simp only[Qa,zE];unfold eu;have htl:=hM.traps.len
  have hl2:=(ZM (β:=VA) (S:=VA×Int) (U:=VA) (R:=Zd) (body:=λz=>BR L m t me st f z.1 z.2) (λb i=>(b,i)) (λb=>b)
   (l:=f.Traps) (f:=λa x=>a++[Nc t x]) (I:=λb i=>b.length=i/\i<=f.Traps.length) (λi x b hI hx=>by
    have hi:=(Qb.1 hx).1;refine⟨?_,by simp[hI.1],YA⟩;show BR L m t me st f b (i:Int)=_;unfold BR TQ Nc;rw[Xl hx,zo,hx];simp only[YF,Qa];rw[Hw hl.t];simp only[Qa];rw[XH (by simp;omega) (by simp;omega),XH (by simp;omega) (by simp;omega),zz YA]
    cases(x.C==[])<;>rfl) (λb hI=>by
    show BR L m t me st f b (f.Traps.length:Int)=_;unfold BR
    rw[Xm];rfl) (b0:=[]) ⟨rfl,Qk _⟩).1
  rw[show zk (λz=>BR L m t me st f z.1 z.2) ([],0)=_ from hl2];rw[Ej,Ej];rfl
theorem zGV{f:zb}(h:ZX f=true)(ha:f.Abstract=true)(hF:C1 f):f.Code=[]/\f.Traps=[]/\f.Locals=0/\f.Stack=0:=by obtain⟨e1,e2⟩:=bZ h ha hF.code.len hF.maps.len hF.traps.len;unfold ZX at h;rw[ha]at h;simp only[Qd,YF]at h;obtain⟨_,h5⟩:=h;unfold HK at h5;simp only[Qd,YN]at h5;exact⟨e1,e2,h5.1.1.2,h5.1.2⟩
theorem tN(h:Xf l L):Lm L []=-1:=by
 have hn:Xi L []=false:=by
  cases hq:Xi L []with
  |false=>rfl
  |true=>exact absurd (Dm h hq) (by decide +kernel)
 have:=Gy L [];rw[hn]at this
 rcases De (λc:za=>c.Name==[]) L 0 with ⟨j,x,e,_⟩|⟨e,_⟩
 .have e':Lm L []=((0+j:Nat):Int):=e;rw[e']at this;simp at this;omega
 exact e
theorem cU(r:Zd)(h1:r.Code.length<=1000000)(h2:r.Traps.length<=1000000):PC r r=some true:=by
 unfold PC
 have l1:zk (λz=>B2 r r z) 0=some (.inl ()):=by
  have:=HG (body:=λz=>B2 r r z) (bad:=λ_=>false) (l:=r.Code) YA (λi x hx=>by
   have hi:=(Qb.1 hx).1;show B2 r r (i:Int)=_;unfold B2;rw[Xl hx,zo,hx]
   simp only[YF,Qa,YL,Qo,Yi,YG]) (by
   show B2 r r (r.Code.length:Int)=_;unfold B2
   rw[Xm];rfl)
  rw[show r.Code.any (λ_=>false)=false from Qq.2 (λ_ _=>Jc)]at this;exact this
 have l2:zk (λz=>B0 r r z) 0=some (.inl ()):=by
  have:=HG (body:=λz=>B0 r r z) (bad:=λ_=>false) (l:=r.Traps) YA (λi x hx=>by
   have hi:=(Qb.1 hx).1;show B0 r r (i:Int)=_;unfold B0;rw[Xl hx,zo,hx]
   simp only[YF,Qa,YL,Qo,Yi,YG]) (by
   show B0 r r (r.Traps.length:Int)=_;unfold B0
   rw[Xm];rfl)
  rw[show r.Traps.any (λ_=>false)=false from Qq.2 (λ_ _=>Jc)]at this;exact this
 simp only[YL,Qo,Yi,YG];rw[l1];simp only[Qa,zE];unfold iu;rw[l2];rfl
theorem zFi(h:Xf l L)(hm:Xq L m)(hF:∀c∈L,XI c)(hD:∀c∈L,Zr L c)(hA:Nz L d a)(hw:Ho L=0)(hc:c∈L){k:Nat}{f:zb}(hf:c.Methods[k]?=some f)(hv:f.Abstract=false->vN L c.Name (k:Int)=true):∃r,BF (some (zu.mk L m)) L m (Xy L).1 (Xy L).2.1 (Xy L).2.2 L2 m2 d v s c.Name (k:Int)=some r/\Ts L a c.Name (k:Int)=some r/\PC r r=some true:=by
 have h26:=h.len;have hl:=M8 h hm hF hD;have hfm:=Qc hf;have hM:=(hF c hc).methods.all f hfm;have hS:=((hD c hc).small.methods.2 f hfm);have hMd:=(hD c hc).methods.2 f hfm;have hcl:cl L c.Name=some c:=(show Nd L from h.nd).cl hc;have hcl2:=hM.code.len;have htl:=hM.traps.len;refine⟨_,tE h hm hF hD hl hc hf,?_,cU _ (by simp;omega) (by simp;omega)⟩
 have hwh:G0 L f=false:=by
  have h1:=aZ hw c hc;unfold Ks at h1;rw[Qd]at h1
  have h2:(c.Methods.any λx=>G0 L x)=false:=by simpa using h1.2
  simpa using Qq.1 h2 f hfm
 unfold G0 at hwh;simp only[Qh]at hwh;unfold Ts;rw[Zc YA];simp only[Qa];rw[KO hcl];simp only[Qa];rw[zo,hf];simp only[Qa]
 have key:PI L a f (Ua f)=some (Zd.mk (Ua f) f.Locals f.Stack (!(f.Ret==[86])) (f.Code.map (λx=>(G9 L m L m (Xy L).1 (Xy L).2.1 (Xy L).2.2 L2 m2 d v s x).getD (X1.mk 0 0 0 0))) (f.Traps.map (Nc (Xy L).1))):=by
  unfold PI
  cases ha:f.Abstract with
  |true =>
   obtain⟨e1,e2,e3,e4⟩:=zGV (O8 h hc hfm) ha hM;rw[e1,e2,e3,e4];rfl
  |false =>
   simp only[YG];have Fk:=tQ h hm (Kf hF) hc hf ha (hv ha)
   have hl1:=(ZM (β:=VB) (S:=VB×Int) (U:=VB) (R:=Zd) (body:=λz=>BY L a f z.1 z.2) (λb i=>(b,i)) (λb=>b)
    (l:=f.Code) (f:=λq x=>q++[(G9 L m L m (Xy L).1 (Xy L).2.1 (Xy L).2.2 L2 m2 d v s x).getD (X1.mk 0 0 0 0)]) (I:=λb i=>b.length=i/\i<=f.Code.length) (λi x b hI hx=>by
     have hi:=(Qb.1 hx).1;have hxm:=Qc hx
     have hg:Kv L x=false:=by simpa using Qq.1 hwh.2 x hxm
     obtain⟨p,y,e,_⟩:=yi (d:=d) (v:=v) (s:=s) (L2:=L2) (m2:=m2) h hm hF hl (hS.code.2 x hxm) (hM.code.all x hxm).m;have e2:=zHQ (v:=v) (s:=s) (L2:=L2) (m2:=m2) h hm hF hD hA (hMd.code.2 x hxm) hg (hM.code.all x hxm).m (Fk x hxm);refine⟨?_,by simp[hI.1],YA⟩;show BY L a f b (i:Int)=_;unfold BY;rw[Xl hx,zo,hx];simp only[YF,Qa];rw[<-e2,e];simp only[Qa,Jk];rw[XH (by simp;omega) (by simp;omega),zz YA]
     rfl) (λb hI=>by
     show BY L a f b (f.Code.length:Int)=_;unfold BY
     rw[Xm];rfl) (b0:=[]) ⟨rfl,Qk _⟩).1
   rw[show zk (λz=>BY L a f z.1 z.2) ([],0)=_ from hl1];simp only[Qa,zE];unfold eM
   have hl2:=(ZM (β:=VA) (S:=VA×Int) (U:=VA) (R:=Zd) (body:=λz=>BX L f z.1 z.2) (λb i=>(b,i)) (λb=>b)
    (l:=f.Traps) (f:=λq x=>q++[Nc (Xy L).1 x]) (I:=λb i=>b.length=i/\i<=f.Traps.length) (λi x b hI hx=>by
     have hi:=(Qb.1 hx).1;have hxm:=Qc hx;refine⟨?_,by simp[hI.1],YA⟩;show BX L f b (i:Int)=_;unfold BX Nc;rw[Xl hx,zo,hx];simp only[YF,Qa];rw[Zc YA];simp only[Qa];rw[XH (by simp;omega) (by simp;omega),zz YA]
     have e:Lm L x.C=cond (!(x.C==[])) (Lq (λz=>x.C==z) 0 (Xy L).1) (-1):=by
      have hgo:Zi L x.C=false:=by simpa using Qq.1 hwh.1.2 x hxm
      rw[bP (hMd.traps.2 x hxm)]at hgo
      cases hn:x.C==[]with
      |true=>rw[YP hn,tN h];rfl
      |false =>
       rw[hn]at hgo;rw[qG (show Xi L x.C=true by simpa using hgo)];rfl
     rw[e]
     rfl) (λb hI=>by
     show BX L f b (f.Traps.length:Int)=_;unfold BX
     rw[Xm];rfl) (b0:=[]) ⟨rfl,Qk _⟩).1
   rw[show zk (λz=>BX L f z.1 z.2) ([],0)=_ from hl2];rw[Ej,Ej];rfl
 have ea:Ua f=cond f.Static ((f.Params.length:Nat):Int) (i64.wrap (((f.Params.length:Nat):Int)+1)):=rfl;rw[<-key,ea];cases f.Static<;>rfl
end
section
variable {m2:List (Tx×Int)} {a:List Int} {t me st s:Vs}
theorem zEz(hf:∀c∈l,XI c)(e:X9):∃(r:Int) (m:List (Tx×Int)) (o:Option (Vr)),HL l e=some (o.map (λL=>zu.mk L m),r)/\Pe l e=some (o.map zG.mk,r)/\(∀L,o=some L->Xf l L/\Xq L m/\Ho L=0/\L.any (UK L)=false):=by
 have hc:∀c∈l,W3 c:=λc hc=>(hf c hc).cg;obtain⟨m,hm,he⟩:=zAv hc;unfold HL Pe;rw[he,zAZ hc];simp only[Qa]
 cases hE:(UI l).1 with
 |none =>
  have h0:=zFo hE;refine⟨(UI l).2,m,none,?_,?_,λL h=>by cases h⟩;.have:((UI l).2==(0:Int))=false:=beq_eq_false_iff_ne.2 h0;rw[this];rfl
  .have:((UI l).2==(0:Int))=false:=beq_eq_false_iff_ne.2 h0;rw[this];rfl
 |some L =>
  obtain⟨hM,hz⟩:=zFn hE;have hmp:=hm L hE;have hF:=yC hM hf;have hL:XQ L:=Kf hF;have hD:∀c∈L,Zr L c:=λc hc=>qE hM hF hc;rw[hz];simp only[QS,YL,Qo,YG];rw[zHF hM hmp hL hD,zHE hM hL hD];simp only[Qa]
  cases h0:(Ho L==(0:Int))with
  |false=>exact⟨Ho L,m,none,rfl,rfl,λL h=>by cases h⟩
  |true =>
   simp only[Qo,YG];rw[show Pl (some (zu.mk L m)) e.C e.M=BP L m e.C e.M from rfl,Wc hM hmp hL];rw[show PS (some (zG.mk L)) e.C e.M=BU L e.C e.M from rfl,TC hM hL];simp only[Qa];generalize ((Xh L e.C).findSome? (X4 L ZY e.M)).getD ([],zM,false)=V
   cases((((!V.2.2)||(!V.2.1.Static))||(decide (0<(List.length V.2.1.Params:Int))))||(!(V.2.1.Ret==[86])))with
   |true=>exact⟨4,m,none,rfl,rfl,λL h=>by cases h⟩
   |false =>
    simp only[YG];rw[aO hM hmp hL (λc hc=>(hf c hc).methods.len)];have hr:=ou hM hmp hL (λc hc=>(hF c hc).methods.len) L [] rfl;rw[show(([]:Vr).length:Int)=0 from rfl]at hr;rw[hr,yV hM]
    cases hb:l.any (UK L)with
    |true=>exact⟨5,m,none,rfl,rfl,λL h=>by cases h⟩
    |false=>exact⟨0,m,some L,rfl,rfl,λL' h=>by cases h;exact⟨hM,hmp,YP h0,by rw[yV hM];exact hb⟩⟩
theorem cC{β S U R:Type}{body:S->Option (Sum S (Sum U R))}(mk:β->Int->S)(fi:β->U){n:Nat}{I:β->Nat->Prop} (hb:∀(i:Nat) b,I b i->i<n->∃b',body (mk b (i:Int))=some (.inl (mk b' ((i+1:Nat):Int)))/\I b' (i+1)) (he:∀b,I b n->body (mk b (n:Int))=some (.inr (.inl (fi b)))) {b0:β} (h0:I b0 0):∃b,zk body (mk b0 0)=some (.inl (fi b))/\I b n:=by
 have key:∀(d i:Nat) (b:β),n-i=d->i<=n->I b i->∃b',zk body (mk b (i:Int))=some (.inl (fi b'))/\I b' n:=by
  intro d
  induction d with
  |zero =>
   intro i b hd hi hI
   have:i=n:=YA
   subst this;exact⟨b,by rw[zH,he b hI];rfl,hI⟩
  |succ d ih =>
   intro i b hd hi hI;obtain⟨b1,h1,h2⟩:=hb i b hI YA;obtain⟨b',h3,h4⟩:=ih (i+1) b1 YA YA h2;exact⟨b',by rw[zH,h1];exact h3,h4⟩
 exact key n 0 b0 YA YA h0
def Nu(L:Vr)(i:Nat)(d:List (Tx×Int)):Prop:=∀(j:Nat) n,j<i->(L.map (·.Name))[j]?=some n->XE n d=some (if j<10 then 2 else 0)
theorem tz(h:Xf l L){n:Tx}(hn:(L.map (·.Name))[i]?=some n)(hd:Nu L i d):Nu L (i+1) (cond (decide ((i:Int)<10)) (XO n 2 (XO n 0 d)) (XO n 0 d)):=by
 have same:∀(j:Nat),(L.map (·.Name))[j]?=some n->j=i:=λj hj=>by
  rw[Jn]at hn hj
  cases h1:L[i]? with
  |none=>rw[h1]at hn;cases hn
  |some c1 =>
   cases h2:L[j]? with
   |none=>rw[h2]at hj;cases hj
   |some c2 =>
    rw[h1]at hn;rw[h2]at hj
    have e1:c1.Name=n:=by simpa using hn
    have e2:c2.Name=n:=by simpa using hj
    exact h.nd j i c2 c1 h2 h1 (by rw[e1,e2])
 intro j n' hj hn';by_cases e:n'=n
 .subst e;have:=same j hn';subst this;by_cases hi:j<10;.rw[YH YA,YF,Dn,YK rfl,YK hi]
  rw[YI YA,YG,Dn,YK rfl,YM hi]
 have hji:j≠i:=λe2=>by subst e2;rw[hn]at hn';cases hn';exact e rfl
 have h2:=hd j n' YA hn';by_cases hi:i<10;.rw[YH YA,YF,Dn,YM e,Dn,YM e];exact h2
 rw[YI YA,YG,Dn,YM e];exact h2
theorem zDP(h:Xf l L)(hm:Xq L m)(hF:∀c∈L,XI c):∃d v s,Bt (some (zu.mk L m))=some (L,m,d,v,s)/\Nu L L.length d:=by
 have h26:=h.len;unfold Bt;simp only[ZG];rw[SL YA];simp only[Qa];have VR:(L.map (·.Name)).length=L.length:=QY ..
 have key:∀(r pre:Vs) (d:List (Tx×Int)) (v:List (Tx×zy)) (s:Vs),L.map (·.Name)=pre++r->s.length<=10000*pre.length->Nu L pre.length d->
   ∃d' v' s',zk (λz=>BO (zu.mk L m) (L.map (·.Name)) z.1 z.2.1 z.2.2.1 z.2.2.2) (d,v,s,(pre.length:Int))=some (.inl (d',v',s'))/\Nu L L.length d':=by
  intro r
  induction r with
  |nil =>
   intro pre d v s e hs hd;rw[Qy]at e;refine⟨d,v,s,?_,by rw[<-VR,e];exact hd⟩;rw[zH];show(BO (zu.mk L m) (L.map (·.Name)) d v s (pre.length:Int)).bind _=_;unfold BO;rw[e,Xm];rfl
  |cons n r ih =>
   intro pre d v s e hs hd
   have hx:(L.map (·.Name))[pre.length]?=some n:=by rw[e];simp
   have hpl:pre.length+(r.length+1)=L.length:=by rw[<-VR,e];simp
   obtain⟨c,c1,c2,c3,c4⟩:=Sm h hx;have hc:=hF c c1;obtain⟨z,z1,z2⟩:=sy (b:=true) (n:=n) (by rw[<-c3];exact hc.name) hc (a:=(v,s)) (by show s.length<=_;omega);have hz:z.2.length<=s.length+10000:=z2;obtain⟨d',v',s',k1,k2⟩:=ih (pre++[n]) _ z.1 z.2 (by rw[e];simp) (by simp;omega) (by rw[Qx];exact tz h hx hd);refine⟨d',v',s',?_,k2⟩;rw[zH];show(BO (zu.mk L m) (L.map (·.Name)) d v s (pre.length:Int)).bind _=_;unfold BO Tn;rw[Xl hx,zo,hx,aw];simp only[YF,Qa];rw[Us hm,c2];simp only[Qa];rw[show zk (λz=>Wm n (c,true) z.1 z.2.1 z.2.2) (v,s,0)=_ from z1];rw[show(pre++[n]).length=pre.length+1 by simp]at k1;rw[<-k1]
   cases decide ((pre.length:Int)<10)with
   |true =>
    show zk _ (_,_,_,i64.wrap ((pre.length:Int)+1))=_;rw[zz YA];rfl
   |false =>
    show zk _ (_,_,_,i64.wrap ((pre.length:Int)+1))=_;rw[zz YA];rfl
 obtain⟨d',v',s',k1,k2⟩:=key (L.map (·.Name)) [] [] [] [] rfl (Qk _) (λj n hj=>by simp at hj);rw[show zk (λz=>BO (zu.mk L m) (L.map (·.Name)) z.1 z.2.1 z.2.2.1 z.2.2.2) ([],[],[],0)=_ from k1];exact⟨d',v',s',rfl,k2⟩
theorem rH{n:Tx}{y:Int}(h:XE n d=some y):Kh L2 m2 d v s n 2=XO n 2 d:=by unfold Kh;rw[h];rfl
theorem sD{n:Nat}(h1:n<=1000):Mj 8 (n:Int)=some n:=by unfold Mj;rw[YK ⟨YA,YA,YA⟩,Ja]
theorem zDb(h:Xf l L){v9:Vr×List (Tx×Int)×List (Tx×Int)×List (Tx×zy)×Vs}(hd:Nu L L.length d)(dn:List Bool):∃b:List (Tx×Int)×List Int,zk (λz=>WE dn v9 (zG.mk L) z.1 z.2.1 z.2.2) (d,List.replicate L.length 0,0)=some (.inl b)/\Nz L b.1 b.2:=by
 have h26:=h.len
 obtain⟨b,b1,b2,b3⟩:=cC (β:=List (Tx×Int)×List Int) (S:=List (Tx×Int)×List Int×Int) (U:=List (Tx×Int)×List Int) (R:=Bool) (body:=λz=>WE dn v9 (zG.mk L) z.1 z.2.1 z.2.2) (λb i=>(b.1,b.2,i)) (λb=>b)
  (n:=L.length) (I:=λb i=>b.2.length=L.length/\∀(j:Nat) c x,L[j]?=some c->b.2[j]?=some x->(j<i->(((XE c.Name b.1).getD 0==(2:Int))=(x==(2:Int))))/\(i<=j->x=0/\XE c.Name b.1=some (if j<10 then 2 else 0)))
  (λi b hI hi=>by
   obtain⟨i1,i2⟩:=hI;have hx:L[i]?=some L[i]:=Qe hi;have hxa:b.2[i]?=some (b.2[i]' YA):=Qe _;generalize L[i]=c at hx;generalize b.2[i]' YA=x0 at hxa;obtain⟨e0,e1⟩:=(i2 i c x0 hx hxa).2 (Qg _)
   obtain⟨f,hf1,hf2⟩:∃f:Bool,(cond (decide ((i:Int)<10)) (some true) ((cond (decide ((i64.wrap ((i:Int)-10))<(List.length dn:Int))) ((idx dn (i64.wrap ((i:Int)-10))).bind λv26=>some v26) (some false)).bind λv27=>some v27):Option Bool)=some f/\(f=false->¬i<10):=by
    by_cases h10:i<10;.exact⟨true,by rw[YH YA];rfl,λe=>by cases e⟩
    rw[YI YA,YG,ZA YA YA,show((i:Int)-10)=((i-10:Nat):Int)by omega];by_cases hl:i-10<dn.length;.rw[YH YA,YF,zo,Qe hl];exact⟨_,rfl,λ_=>h10⟩
    rw[YI YA];exact⟨false,rfl,λ_=>h10⟩
   have body:WE dn v9 (zG.mk L) b.1 b.2 (i:Int)=cond f (some (.inl (XO c.Name 2 b.1,b.2.set i 2,((i+1:Nat):Int)))) (some (.inl (b.1,b.2,((i+1:Nat):Int)))):=by
    unfold WE Ak;simp only;rw[Xl hx,hf1,zo,hxa,zo,hx,zz YA];simp only[YF,Qa];rw[rH e1,Ja]
   cases f with
   |true =>
    refine⟨(XO c.Name 2 b.1,b.2.set i 2),body,by simp[i1],λj c' x hj hxj=>?_⟩;have hjl:=(Qb.1 hj).1;by_cases e:j=i;.subst e;rw[hx]at hj;cases hj;have hxj':(b.2.set j 2)[j]?=some x:=hxj;rw[QM YA]at hxj';cases hxj';refine⟨λ_=>?_,λhh=>YA⟩;show((XE c.Name (XO c.Name 2 b.1)).getD 0==(2:Int))=_;rw[Dn,YK rfl];rfl
    .have hne:c'.Name≠c.Name:=λe2=>e (h.nd j i c' c hj hx e2);have hxj':(b.2.set i 2)[j]?=some x:=hxj;rw[QH (Ne.symm e)]at hxj';obtain⟨g1,g2⟩:=i2 j c' x hj hxj'
     have em:XE c'.Name (XO c.Name 2 b.1)=XE c'.Name b.1:=by rw[Dn,YM hne]
     refine⟨λhh=>?_,λhh=>?_⟩;.show((XE c'.Name (XO c.Name 2 b.1)).getD 0==(2:Int))=_;rw[em];exact g1 YA
     .show x=0/\XE c'.Name (XO c.Name 2 b.1)=_;rw[em];exact g2 YA
   |false =>
    refine⟨b,body,i1,λj c' x hj hxj=>?_⟩;obtain⟨g1,g2⟩:=i2 j c' x hj hxj;refine⟨λhh=>?_,λhh=>g2 YA⟩;by_cases e:j=i;.subst e;obtain⟨k1,k2⟩:=g2 (Qg _);rw[k1,k2,YM (hf2 rfl)];rfl
    exact g1 YA)
  (λb hI=>by
   show WE dn v9 (zG.mk L) b.1 b.2 (L.length:Int)=_;unfold WE;simp only
   rw[Xm];rfl) (b0:=(d,List.replicate L.length 0)) ⟨YC,λj c x hj hxj=>by
   have hjl:=(Qb.1 hj).1;have hxj':(List.replicate L.length (0:Int))[j]?=some x:=hxj;rw[JA,YK hjl]at hxj';cases hxj'
   refine⟨λhh=>YA,λ_=>⟨rfl,hd j c.Name hjl (by rw[Jn,hj];rfl)⟩⟩⟩
 exact⟨b,b1,b2,λi c x hi hx=>(b3 i c x hi hx).1 (Qb.1 hi).1⟩
theorem zC0(h:∀c∈l,Em c)(e:X9)(dn:List Bool):TZ l e dn=some true:=by
 unfold TZ;rw[mn,s7];simp only[Qa,Qo,YG];have hf:∀c∈RH l,XI c:=λc hc=>(zCR h c hc).fc;obtain⟨r,m,o,h1,h2,h3⟩:=zEz hf (X9.mk (e.C.take 12) (e.M.take 12));rw[h1,h2];simp only[Qa]
 cases o with
 |none=>simp
 |some L =>
  obtain⟨hM,hm,hw,hb⟩:=h3 L rfl;have hF:=yC hM hf;have hD:∀c∈L,Zr L c:=λc hc=>qE hM hF hc;have h26:=hM.len;have hl:=M8 hM hm hF hD;have ht:=hl.t;simp only[QS,YL,Qo,Option.isNone_some,Yi,YG];obtain⟨d,v,s,hs,hd⟩:=zDP hM hm hF;rw[(oY hM hm hF hD).1,hs];simp only[Qa,ZG];rw[sD YA];simp only[Qa];obtain⟨b,b1,hA⟩:=zDb (v9:=(L,m,d,v,s)) hM hd dn;rw[show zk (λz=>WE dn (L,m,d,v,s) (zG.mk L) z.1 z.2.1 z.2.2) (d,List.replicate L.length 0,0)=_ from b1];simp only[Qa,zE];unfold eT
  rw[show zk (λz=>Iy (some (zu.mk L m),r) (L,m,Xy L) (L,m,d,v,s) (zG.mk L) b.1 b.2 z) 0=_ from HG (bad:=λ_=>false) (l:=L) YA (λi c hc=>by
   have hi:=(Qb.1 hc).1;have hcL:=Qc hc;have hml:=(hF c hcL).methods.len;show Iy (some (zu.mk L m),r) (L,m,Xy L) (L,m,d,v,s) (zG.mk L) b.1 b.2 (i:Int)=_;unfold Iy;simp only;rw[Xl hc,zo,hc];simp only[YF,Qa];rw[show BL (some (zu.mk L m)) L m (Xy L).1 (Xy L).2.1 (Xy L).2.2 L m b.1 v s c.Name=Pd L m L m (Xy L).1 (Xy L).2.1 (Xy L).2.2 L m b.1 v s c.Name from rfl,fl hM hm hF ht,uh hM hF hA];simp only[Qa,YL,Qo,YG]
   rw[show zk (λz=>Iz (some (zu.mk L m),r) (L,m,Xy L) (L,m,d,v,s) (zG.mk L) b.1 b.2 (i:Int) z) 0=_ from HG (bad:=λ_=>false) (l:=c.Methods) YA (λk f hk=>by
    have hkl:=(Qb.1 hk).1
    have hv:f.Abstract=false->vN L c.Name (k:Int)=true:=λha=>by
     have h1:=Qq.1 hb c hcL;unfold UK at h1;have h2:=Qq.1 (by simpa using h1:((List.range c.Methods.length).any (RF L c))=false) k (Jz.2 hkl);unfold RF at h2;rw[hk]at h2;simpa[ha]using h2
    obtain⟨q,q1,q2,q3⟩:=zFi (d:=b.1) (v:=v) (s:=s) (L2:=L) (m2:=m) hM hm hF hD hA hw hcL hk hv;show Iz (some (zu.mk L m),r) (L,m,Xy L) (L,m,d,v,s) (zG.mk L) b.1 b.2 (i:Int) (k:Int)=_;unfold Iz;simp only;rw[zo,hc];simp only[Qa];rw[Xl hk,q1,q2];simp only[YF,Qa];rw[q3]
    rfl) (by
    show Iz (some (zu.mk L m),r) (L,m,Xy L) (L,m,d,v,s) (zG.mk L) b.1 b.2 (i:Int) (c.Methods.length:Int)=_;unfold Iz;simp only;rw[zo,hc];simp only[Qa]
    rw[Xm];rfl)]
   rw[show c.Methods.any (λ_=>false)=false from Qq.2 (λ_ _=>Jc)]
   rfl) (by
   show Iy (some (zu.mk L m),r) (L,m,Xy L) (L,m,d,v,s) (zG.mk L) b.1 b.2 (L.length:Int)=_;unfold Iy;simp only
   rw[Xm];rfl)]
  rw[show L.any (λ_=>false)=false from Qq.2 (λ_ _=>Jc)];rfl
end
theorem zyV(l:Vr)(e:X9)(dn:List Bool)(h:wL Em l)(_:wY e)(_:wL wT dn):VD 12 [.isl 6 (List.map zf l),.agg (KR e),.isl 1 (List.map rB dn)] (bA true):=eS l e dn (zC0 h.2 e dn)

end
end Go.Proofs.YthmnlfenkhmmhaaGreat
