/- CodeAll holds. Part 4 of 9. -/
import Derived.Test.YthmnlfenkhmmhaaGreatTx3
namespace Go.Proofs.YthmnlfenkhmmhaaGreat
noncomputable section
open List (length map)
open IntKind (i64)
open Go.Proofs.Tryz
set_option linter.unusedSimpArgs false
set_option linter.unusedVariables false
set_option maxRecDepth 100000
set_option maxHeartbeats 4000000
variable {r f:Bool}{E:Int}{p:Vx}{q:Vy}{a v:Vr}{j:Vu}{s:Vv}{o:Vw}{n b i:T0}{d:T1}{G e:T2}{c:zb}
structure X9 where
  C:T0
  M:T0
def KR(x:X9):Vt:=[sA x.C,sA x.M]
def vK(h0:Vr)(h1:T2)(c:T0)(m:zb)(x0:AV)(x1:AV)(x2:AV):Vt:=[.ipt 2 [[cL h0,mI h1]] 0 0,sA c,sA m.Name,tL m.Params,sA m.Ret,bA m.Static,bA m.Abstract,iA m.Locals,iA m.Stack,.isl 4 (map zs m.Code),.isl 3 (map zV m.Maps),.isl 4 (map XF m.Traps),x0,x1,x2]
abbrev sV(h0:Vr)(h1:T2)(c:T0)(m:zb)(x y:T1)(b:Bool)(t:St):St:=some (15,[vK h0 h1 c m (.msl 1 0 x.length) (.msl 2 0 y.length) (bA b)])::some (1,x.map Xe)::some (1,y.map Xe)::t
abbrev sU(h0:Vr)(h1:T2)(c:T0)(m:zb)(x y:T1)(b:Bool)(t:St):St:=some (15,[vK h0 h1 c m (.msl 1 0 x.length) (.msl 3 0 y.length) (bA b)])::some (1,x.map Xe)::none::some (1,y.map Xe)::t
abbrev tV(h0:Vr)(h1:T2)(c:T0)(m:zb)(x y:T1)(b:Bool)(t:Vz):Vz:=.one 15 (vK h0 h1 c m (.msl 1 0 x.length) (.msl 2 0 y.length) (bA b))::.many 1 (x.map Xe)::.many 1 (y.map Xe)::t
abbrev tU(h0:Vr)(h1:T2)(c:T0)(m:zb)(x y:T1)(b:Bool)(t:Vz):Vz:=.one 15 (vK h0 h1 c m (.msl 1 0 x.length) (.msl 3 0 y.length) (bA b))::.many 1 (x.map Xe)::.no::.many 1 (y.map Xe)::t
def fh(a:T0):Unit:=()
theorem zAH(b:T0){r:Unit}(h:fh b=r):VE 21 [sA b] [] (.agg [sA b,sA [79,98,106,101,99,116],bA false,nS,.msl 0 0 1,.msl 1 0 1]) [.xs 3 [[sA [120],sA [73],bA false]],.xs 10 [[sA [109,97,105,110],nS,sA [86],bA true,bA false,iA 0,iA 0,.msl 2 0 1,nS,nS]],.xs 4 [[iA 46,iA 0,sA [],sA []]]]:=by refine⟨⟨t,t,t,t⟩,zK func21 y kz y ?_⟩;unfold fh at h;refine A ?_;refine A ?_;apply zA;obtain rfl:=h;exact⟨_,y,Xb [1,3,2]⟩
def fg:Unit:=()
theorem Wj{r:Unit}(h:fg=r):VE 93 [] [] (.msl 0 0 3) [.xs 6 [[sA [70,97,99,101],sA [79,98,106,101,99,116],bA true,nS,nS,.msl 1 0 1],[sA [65,97],sA [79,98,106,101,99,116],bA false,.msl 2 0 1,.msl 3 0 2,.msl 4 0 1],[sA [66,98],sA [65,97],bA false,nS,.msl 6 0 1,.msl 7 0 1]],.xs 10 [[sA [102],nS,sA [73],bA false,bA true,iA 0,iA 0,nS,nS,nS]],.xs 1 [[sA [70,97,99,101]]],.xs 3 [[sA [120],sA [73],bA false],[sA [115],sA [73],bA true]],.xs 10 [[sA [102],nS,sA [73],bA false,bA false,iA 1,iA 1,.msl 5 0 2,nS,nS]],.xs 4 [[iA 1,iA 5,sA [],sA []],[iA 47,iA 0,sA [],sA []]],.xs 3 [[sA [121],sA [91,65,97],bA false]],.xs 10 [[sA [109,97,105,110],nS,sA [86],bA true,bA false,iA 0,iA 0,.msl 8 0 1,nS,nS]],.xs 4 [[iA 46,iA 0,sA [],sA []]]]:=by refine⟨⟨t,t,t,t,t,t,t,t,t,t⟩,zK func93 y kz y ?_⟩;unfold fg at h;refine A ?_;refine A ?_;refine rg y<|u<|bl 2 ti y ti y YB YB y y y<|u<|bd ti y y y<|u<|bd ti y y y<|u<|bl 3 ti y ti y YB YB y y y<|u<|bd ti y y y<|u<|bd ti y y y<|u<|bl 4 ti y ti y YB YB y y y<|u<|bd (parts:=[(0,sA [102]),(2,sA [73]),(5,iA 1),(6,iA 1),(7,.msl 4 0 2)]) (cs:=[sA [102],nS,sA [73],bA false,bA false,iA 1,iA 1,.msl 4 0 2,nS,nS]) ti y y kz<|u<|bl 5 ti y ti y YB YB y y y<|u<|bd (parts:=[(0,sA [65,97]),(1,sA [79,98,106,101,99,116]),(3,.msl 2 0 1),(4,.msl 3 0 2),(5,.msl 5 0 1)]) (cs:=[sA [65,97],sA [79,98,106,101,99,116],bA false,.msl 2 0 1,.msl 3 0 2,.msl 5 0 1]) ti y y kz<|u<|al 6 ti y<|u<|La ti y y y<|zx ?_;refine rg y<|u<|sx [] (zAH [66,98] y)<|u<|al 10 ti y<|A ?_;refine A ?_;refine A ?_;refine u<|bl 11 ti y ti y YB YB y y y<|A ?_;refine A ?_;refine u<|bl 12 ti y ti y YB YB y y y<|A ?_;apply zA;obtain rfl:=h;exact⟨_,y,Xb [12,0,2,3,5,4,11,8,9]⟩
def pJ(a:T1):Option (T1):=some a
def Oq(b:Vr)(c:T1)(a:Int):zL (T1×Int) (T1) (T1):=cond (decide (a<(length b:Int))) ((idx b a).bind λe=>(Xu 16 c [e.Name]).bind λd=>some (.inl (d,(i64.wrap (a+1))))) (some (.inr (.inl c)))
def WM(a:Vr)(c:T2):Option (T1):=(zk (λz=>Oq a z.1 z.2) ([],0)).bind λo=>zE o (λb=>pJ b) some
theorem Rf{r:T1}(h:WM a e=some r):VE 104 [.ipt 2 [[cL a,mI e]] 0 0] [] (.msl 0 0 (length r)) [.many 1 (map Xe r)]:=by
 refine⟨⟨Xo (sz:=1) (λ_=>y),t⟩,zK func104 y kz y ?_⟩;refine A ?_;refine ze<|A ?_;refine UC y (λhx=>by cases hx) (λ_=>?_);refine zc<|A ?_;refine ze<|A ?_;obtain⟨o,ho,h⟩:=bs h;refine F7 ho (λz=>[(3,.msl 0 0 (length z.1)),(11,cL a),(12,iA (length a:Int)),(13,iA z.2)]) (λz=>[sT z.1]) (λb=>[(3,.msl 0 0 (length b))]) (λb=>[sT b]) (pF f104 (λr=>.msl 0 0 (length r)) λr=>[sT r]) ⟨[.fresh 1],cv y (.nilown y)<|ce y y<|ce y y<|ce y y<|cn,y,⟨w,t⟩,y,k⟩ ?_ ?_
 .rintro⟨m,n⟩ r h;refine A ?_;apply ze;apply Xa h y<;>intro c h;.refine zc<|ze<|zg ?_;obtain⟨d,p,h⟩:=bs h;refine A ?_;obtain⟨j,i,h⟩:=bs h;refine A ?_;refine u<|Lo 3 ti y ti y y YB ti y y y y (Lx (f:=Xe) (z:=[d.Name]) y y) (λ_=>y) y i<|A ?_;refine A ?_;cases h;exact⟨_,y,zl [3]⟩
  exact Lv
 rintro l rfl;refine zm<|A ?_;exact LP
def zI(a:Vr)(b:T2)(c:T0):Option (za×Bool):=cond (!(Ky a b c)) (some ((za.mk [] [] false [] [] []),false)) ((HO a b c).bind λd=>some (d,true))
theorem gE(a:Vr)(e:T2)(b:T0){r:za×Bool}(h:zI a e b=some r):VD 106 [.ipt 2 [[cL a,mI e]] 0 0,sA b] (.tup [.agg (zf r.1),bA r.2]):=by
 refine zi func106 y kz y y<|A ?_;refine ze<|A ?_;apply Xa h y<;>intro c h
 .refine A ?_;exact F4
 apply zc;obtain⟨d,f,h⟩:=bs h;refine A ?_;exact F4
instance :VF 106 [.ipt 2 [[cL a,mI e]] 0 0,sA b] (zI a e b) (λr=>(.tup [.agg (zf r.1),bA r.2])):=⟨λ_=>gE a e b⟩
def iQ(b:Vr)(c:T2)(a:T0):Option (Bool):=some ((a==[73])||(Ky b c a))
def Re(d:T0)(a:T0)(c:Bool):zL (T0×T0×Bool) (T0) (Bool):=cond c ((GE a).bind λb=>some (.inl (a,b.1,b.2))) (some (.inr (.inl d)))
def P1(d:Vr)(e:T2)(a:T0):Option (Bool):=(GE a).bind λc=>(zk (λz=>Re z.1 z.2.1 z.2.2) (a,c.1,c.2)).bind λo=>zE o (λb=>iQ d e b) some
instance (d:T0):VF 275 [.ipt 2 [[cL a,mI e]] 0 0,sA d] (P1 a e d) bA:=⟨λr h=>by
 refine zi func275 y kz y y<|A ?_;apply ze;obtain⟨p,q,h⟩:=bs h;refine A ?_;obtain⟨o,ho,h⟩:=bs h;refine F7 ho (λz=>[(0,.ipt 2 [[cL a,mI e]] 0 0),(1,sA z.1),(5,sA z.2.1),(6,bA z.2.2)]) (λz=>[]) (λb=>[(0,.ipt 2 [[cL a,mI e]] 0 0),(1,sA b)]) (λb=>[]) (pG f275 bA) (z6 []) ?_ ?_
 .rintro⟨s,l,m⟩ r h;refine ze<|A ?_;apply Xa h y<;>intro f h
  .refine zc<|ze<|zg<|A ?_;obtain⟨n,v,h⟩:=bs h;refine A ?_;exact LB
  exact Ll
 rintro i rfl;apply zm;refine rg y<|u<|mv y<|u<|Mt ti y y y y y y<|u<|mv y<|g y y<|mv y<|g y y<|seq ti y y<|g y y<|mv y<|Uj (j:=5) 3 y y y y y (MA y y y) (λc=>g y c<|mv y<|g y c<|mv y<|g y c<|pc (eU a e i y) y y y<|zx (MC [25,26,27] 3 c y y y y)) Mq<|u<|pk (b:=true) y y<|u<|Lw y<|zx ?_
 exact F4⟩
def pH(a:T1):Option (T1):=some a
def OE(b:Vr)(c:T2)(a:T0)(d:T1):zL (T0×T1) (T1) (T1):=cond (Ky b c a) ((Xu 16 d [a]).bind λe=>(HO b c a).bind λf=>some (.inl (f.Super,e))) (some (.inr (.inl d)))
def Kz(a:Vr)(c:T2)(d:T0):Option (T1):=(zk (λz=>OE a c z.1 z.2) (d,[])).bind λo=>zE o (λb=>pH b) some
theorem GM{c:T0}{r:T1}(h:Kz a e c=some r):VE 109 [.ipt 2 [[cL a,mI e]] 0 0,sA c] [] (.msl 0 0 (length r)) [.many 1 (map Xe r)]:=by
 refine⟨⟨Xo (sz:=1) (λ_=>y),t⟩,zK func109 y kz y ?_⟩;refine A ?_;refine A ?_;obtain⟨o,ho,h⟩:=bs h;refine Nr ho (λz=>[(0,.ipt 2 [[cL a,mI e]] 0 0),(1,sA z.1),(5,.msl 0 0 (length z.2))]) (λz=>[sT z.2]) (λb=>[(5,.msl 0 0 (length b))]) (λb=>[sT b]) (pF f109 (λr=>.msl 0 0 (length r)) λr=>[sT r]) ⟨[.fresh 1],ce y y<|ce y y<|cv y (.nilown y)<|cn,y,⟨w,t⟩,y,k⟩ ?_ ?_
 .rintro⟨i,p⟩ r h;refine ze<|A ?_;apply Xa h y<;>intro d h
  .refine zc<|zg ?_;obtain⟨l,j,h⟩:=bs h;refine A ?_;refine u<|Lo 2 ti y ti y y YB ti y y y y (Lx (f:=Xe) (z:=[i]) y y) (λ_=>y) y j<|A ?_;obtain⟨m,q,h⟩:=bs h;refine A ?_;cases h;exact⟨_,y,zl [2]⟩
  exact Lv
 rintro n rfl;refine A ?_;exact LP
def i6(a:T1):Option (T1):=(Nh a).bind λb=>some b
def i7(a:Int)(b:T1)(c:T1):zL (T1×T1×Int) (T1) (T1):=some (.inl (b,c,(i64.wrap (a+1))))
def AT(a:Int)(b:T1):zL (T1×Int) (T1) (T1):=some (.inl (b,(i64.wrap (a+1))))
def Rg(c:za)(a:T1)(b:Int):zL (T1×Int) (T1) (T1):=cond (decide (b<(length c.Impl:Int))) ((idx c.Impl b).bind λd=>(zO a d).bind λe=>cond (!e) ((Xu 16 a [d]).bind λf=>AT b f) (AT b a)) (some (.inr (.inl a)))
def Rh(a:T1)(c:Int)(d:za)(e:T1):zL (T1×T1×Int) (T1) (T1):=(zk (λz=>Rg d z.1 z.2) (a,0)).bind λo=>zE o (λb=>i7 c e b) (λr=>some (.inr (.inr r)))
def OF(i:Vr)(j:T2)(d:T1)(a:T1)(b:Int):zL (T1×T1×Int) (T1) (T1):=cond (decide (b<((length a):Int))) ((idx a b).bind λe=>(HO i j e).bind λc=>cond c.Interface ((Xu 16 d [c.Name]).bind λf=>Rh a b c f) (Rh a b c d)) (some (.inr (.inl d)))
def IL(a:Vr)(c:T2)(d:T0):Option (T1):=cond (!(Ky a c d)) (some []) ((Kz a c d).bind λe=>(zk (λz=>OF a c z.1 z.2.1 z.2.2) ([],e,0)).bind λo=>zE o (λb=>i6 b) some)
theorem gD{s:T0}{r:T1}(h:IL a e s=some r):VE 276 [.ipt 2 [[cL a,mI e]] 0 0,sA s] [] (.msl 0 0 (length r)) [.many 1 (map Xe r)]:=by
 refine⟨⟨Xo (sz:=1) (λ_=>y),t⟩,zK func276 y kz y ?_⟩;refine A ?_;refine ze<|A ?_;apply Xa h y<;>intro D h
 .refine A ?_;apply zA;cases h;exact⟨_,y,[.fresh 1],.nilown y,y,⟨w,t⟩,y,k⟩
 refine zc<|A ?_;obtain⟨E,M,h⟩:=bs h;refine A ?_;refine u<|sx [] (GM M)<|zw (VC:=[(0,.ipt 2 [[cL a,mI e]] 0 0),(5,nS),(17,.msl 0 0 (length E))]) (VJ:=[sT E]) (zl [0])<|A ?_;refine ze<|A ?_;obtain⟨o,ho,h⟩:=bs h;refine F7 ho (λz=>[(0,.ipt 2 [[cL a,mI e]] 0 0),(5,.msl 0 0 (length z.1)),(6,.msl 1 0 (length z.2.1)),(7,iA z.2.2)]) (λz=>[sT z.1,sT z.2.1]) (λb=>[(5,.msl 0 0 (length b))]) (λb=>[sT b]) (pF f276 (λr=>.msl 0 0 (length r)) λr=>[sT r]) ⟨[.fresh 1,0],ce y y<|cv y (.nilown y)<|cv y (.msl y)<|ce y y<|cn,y,⟨w,⟨_,y,XL (λ_=>y)⟩,t⟩,y,k⟩ ?_ ?_
 .rintro⟨F,j,i⟩ r h;refine ze<|A ?_;apply Xa h y<;>intro v h
  .refine zc<|ze<|zg ?_;obtain⟨N,O,c,P,h⟩:=F6 h;refine A ?_;refine zY (X:=T1) (λz=>[(0,.ipt 2 [[cL a,mI e]] 0 0),(5,.msl 0 0 (length z)),(6,.msl 1 0 (length j)),(7,iA i),(8,Vj)]) (λz=>[sT z,sT j,some (6,[(zf c)])]) (λz=>Rh j i c z=some r) ?_ ?_
   .refine A ?_;apply Xa h y<;>intro x h;.obtain⟨G,H,h⟩:=bs h;refine A ?_;refine u<|Lo 4 ti y ti y y YB ti y y y y (Lx (f:=Xe) (z:=[c.Name]) y y) (λ_=>y) y H<|A ?_;exact(⟨G,h,zl [4,1,2]⟩)
    apply zc;exact⟨F,h,zl [0,1,2]⟩
   rintro d h;refine A ?_;obtain⟨o,ho,h⟩:=bs h;refine LG ho (λz=>[(0,.ipt 2 [[cL a,mI e]] 0 0),(5,.msl 0 0 (length d)),(6,.msl 1 0 (length z.1)),(7,iA i),(38,tL c.Impl),(39,iA (length c.Impl:Int)),(40,iA z.2)]) (λz=>[sT d,sT z.1]) (λb=>[(0,.ipt 2 [[cL a,mI e]] 0 0),(5,.msl 0 0 (length d)),(6,.msl 1 0 (length b)),(7,iA i)]) (λb=>[sT d,sT b]) (pF f276 (λr=>.msl 0 0 (length r)) λr=>[sT r]) (z6 [0,1]) ?_ ?_ ?_
   .rintro⟨l,m⟩ r h;refine A ?_;apply ze;apply Xa h y<;>intro B h
    .apply zc;refine zY (X:=T1) (λz=>[(0,.ipt 2 [[cL a,mI e]] 0 0),(5,.msl 0 0 (length d)),(6,.msl 1 0 (length z)),(7,iA i),(38,tL c.Impl),(39,iA (length c.Impl:Int)),(40,iA m)]) (λz=>[sT d,sT z]) (λz=>AT m z=some r) ?_ ?_
     .apply zg;obtain⟨n,Q,h⟩:=bs h;refine A ?_;obtain⟨R,I,h⟩:=bs h;refine rg y<|u<|mv y<|u<|mv y<|u<|Lj (WT l n I) y y (.cons (XU y (λ_=>y)) (.cons (si y) .nil)) Xx<|A ?_;apply Xa h y<;>intro C h
      .obtain⟨J,K,h⟩:=bs h;refine A ?_;refine u<|Lo 3 ti y ti y y YB ti y y y y (Lx (f:=Xe) (z:=[n]) y y) (λ_=>y) y K<|A ?_;exact(⟨J,h,zl [0,3]⟩)
      apply zc;exact⟨l,h,zl [0,1]⟩
     rintro S h;refine A ?_;exact LH
    exact LW
   .rintro T rfl;refine zm<|A ?_;exact LH
   rintro r' rfl env st hp;cases h;exact⟨_,y,hp⟩
  exact Lv
 rintro L rfl;apply zm;obtain⟨p,q,h⟩:=bs h;refine rg y<|u<|mv y<|u<|sx [0] (cu q)<|zw (VC:=[(5,.msl 0 0 (length p))]) (VJ:=[sT p]) ⟨[0],cv y (HX (zF6 q) y)<|cn,y,⟨⟨_,y,XL (λ_=>y)⟩,t⟩,y,k⟩<|zx ?_;refine A ?_;exact LP
def WL(q:((Vr)×T2×T0×T0->Option Bool))(b:Vr)(c:T2)(d:T0)(a:T0):Option (Bool):=(P1 b c d).bind λs=>(cond (!s) (some true) ((P1 b c a).bind λv=>some (!v))).bind λx=>cond x (some false) ((GE d).bind λe=>(GE a).bind λf=>cond (d==a) (some true) (cond (e.2&&f.2) ((cond ((!(e.1==[73]))&&(!(f.1==[73]))) ((q (b,c,e.1,f.1)).bind λi=>some i) (some false)).bind λj=>some j) (cond e.2 (some (a==[79,98,106,101,99,116])) ((Kz b c d).bind λl=>(zO l a).bind λm=>(cond m (some true) ((IL b c d).bind λn=>(zO n a).bind λo=>some o)).bind λp=>some p))))
theorem pW(R:((Vr)×T2×T0×T0->Option Bool))(hrec:∀z r,R z=some r->VD 196 [.ipt 2 [[cL z.1,mI z.2.1]] 0 0,sA z.2.2.1,sA z.2.2.2] (bA r))(a:Vr)(e:T2)(b:T0)(n:T0)(h:WL R a e b n=some r):VD 196 [.ipt 2 [[cL a,mI e]] 0 0,sA b,sA n] (bA r):=by
 refine zi func196 y kz y y<|A ?_;apply ze;obtain⟨M,N,O,P,h⟩:=F6 h;refine A ?_;apply Xa h y<;>intro p h
 .refine A ?_;exact F4
 apply zc;obtain⟨H,Q,h⟩:=bs h;refine A ?_;obtain⟨I,S,h⟩:=bs h;refine A ?_;refine ze<|zg<|A ?_;apply Xa h y<;>intro q h
 .refine A ?_;exact F4
 refine A ?_;apply Xa h y<;>intro m h;.obtain⟨s,i,h⟩:=bs h;refine A ?_;refine XV (x:=s) (j:=6) 4 y y y y y Lr (λf=>by replace i:=bT f i;obtain⟨J,v,i⟩:=bs i;obtain rfl:=sm i;exact g y f<|mv y<|g y f<|mv y<|g y f<|mv y<|g y f<|pc (hrec (a,e,H.1,I.1) _ v) y y y<|zx (eg [47,48,49,50] 4 y y y y)) (λhb=>(sm (bF hb i)).symm)<|A ?_;exact F4
 refine A ?_;apply Xa h y<;>intro o h;.refine A ?_;exact F4
 apply zc;obtain⟨l,B,K,C,D,d,h⟩:=LA h;refine A ?_;refine u<|sx [] (GM B)<|zw (VC:=[(0,.ipt 2 [[cL a,mI e]] 0 0),(1,sA b),(2,sA n),(58,.msl 0 0 (length l))]) (VJ:=[sT l]) (zl [0])<|u<|mv y<|u<|Lj (WT l n C) y y (.cons (XU y (λ_=>y)) (.cons (si y) .nil)) Xx<|u<|mv y<|qs (x:=D) (j:=5) 5 1 y y y y y Lr (λc=>by replace d:=bF c d;obtain⟨E,F,d⟩:=bs d;obtain⟨L,G,d⟩:=bs d;obtain rfl:=sm d;exact g y c<|mv y<|g y c<|mv y<|g y c<|sx [] (gD F)<|g y c<|mv y<|g y c<|Lj (WT E n G) y y (.cons (XU y (λ_=>y)) (.cons (si y) .nil)) Xx<|zx (xg [62,63,64,65,66] 5 y y y y y y)) (λhb=>(sm (bT hb d)).symm)<|A ?_;exact F4
def Dy(a:Vr)(b:T2)(c:T0)(d:T0):Option Bool:=OH (λe z=>WL e z.1 z.2.1 z.2.2.1 z.2.2.2) (a,b,c,d)
theorem MV(h:Dy a e b n=some r):VD 196 [.ipt 2 [[cL a,mI e]] 0 0,sA b,sA n] (bA r):=yL (F:=(λc z=>WL c z.1 z.2.1 z.2.2.1 z.2.2.2)) (Q:=λz r=>VD 196 [.ipt 2 [[cL z.1,mI z.2.1]] 0 0,sA z.2.2.1,sA z.2.2.2] (bA r)) (λc hv z r h=>pW c hv z.1 z.2.1 z.2.2.1 z.2.2.2 h) h
def Du(b:Vr)(c:T2)(a:T0):Option (Bool):=(cond ((a==[78])||(a==[84])) (some true) ((Dy b c a a).bind λd=>some d)).bind λe=>some e
instance :VF 193 [.ipt 2 [[cL a,mI e]] 0 0,sA i] (Du a e i) bA:=⟨λr h=>by
 refine zi func193 y kz y y<|A ?_;obtain⟨l,d,h⟩:=bs h;refine rg y<|u<|mv y<|u<|Mt ti y y y y y y<|u<|mv y<|g y y<|mv y<|g y y<|seq ti y y<|g y y<|mv y<|Uj (j:=5) 2 y y y y y (MA y y y) (λf=>g y f<|mv y<|g y f<|seq ti y y<|zx (MC [11,12] 2 f y y y y)) Mq<|g y y<|mv y<|Uj (x:=l) (j:=9) 4 y y y y y (MA y y y) (λc=>by replace d:=bF c d;obtain⟨n,m,d⟩:=bs d;obtain rfl:=sm d;exact g y c<|mv y<|g y c<|mv y<|g y c<|mv y<|g y c<|pc (MV m) y y y<|zx (eg [15,16,17,18] 4 y y y y)) (λhb=>(sm (bT hb d)).symm)<|u<|pk (b:=true) y y<|u<|Lw y<|zx ?_
 exact F4⟩
def Wy(a:T0)(b:Vr)(c:T2):Option (Bool):=(cond ((!(a==[86]))&&(!(a==[]))) ((Du b c a).bind λd=>some (!d)) (some false)).bind λe=>some e
instance :VF 299 [sA b,.ipt 1 [[.ipt 2 [[cL a,mI e]] 0 0]] 0 0] (Wy b a e) bA:=⟨λr h=>by
 refine zi func299 y kz y y<|A ?_;obtain⟨c,d,h⟩:=bs h;refine A ?_
 exact F4⟩
def kM(a:zh)(b:Vr)(c:T2):Option (Bool):=(Wy a.Type_ b c).bind λd=>some d
instance (J:zh):VF 300 [.agg (zv J),.ipt 1 [[.fn (.func 299) [] [.ipt 1 [[.ipt 2 [[cL a,mI e]] 0 0]] 0 0]]] 0 0] (kM J a e) bA:=⟨λr h=>by
 refine zi func300 y kz y y<|A ?_;obtain⟨b,c,h⟩:=bs h;refine A ?_
 exact F4⟩
def jP:Option (Int):=some (-1)
def CB(b:Vv)(c:Vr)(d:T2)(a:Int):zL (Int) (Unit) (Int):=cond (decide (a<(length b:Int))) ((idx b a).bind λe=>(kM e c d).bind λf=>cond f (some (.inr (.inr a))) (some (.inl (i64.wrap (a+1))))) (some (.inr (.inl ())))
def g5(a:Vv)(c:Vr)(d:T2):Option (Int):=(zk (λz=>CB a c d z) 0).bind λo=>zE o (λb=>jP) some
instance :VF 315 [.isl 3 (map zv s),.fn (.func 300) [] [.ipt 1 [[.fn (.func 299) [] [.ipt 1 [[.ipt 2 [[cL a,mI e]] 0 0]] 0 0]]] 0 0]] (g5 s a e) iA:=⟨λr h=>by
 refine zi func315 y kz y y<|A ?_;refine ze<|A ?_;obtain⟨o,ho,h⟩:=bs h;refine F7 ho (λz=>[(0,.isl 3 (map zv s)),(1,.fn (.func 300) [] [.ipt 1 [[.fn (.func 299) [] [.ipt 1 [[.ipt 2 [[cL a,mI e]] 0 0]] 0 0]]] 0 0]),(7,iA (length s:Int)),(8,iA z)]) (λz=>[]) (λb=>[]) (λb=>[]) (pG f315 iA) (z6 []) ?_ ?_
 .rintro f r h;refine A ?_;apply ze;apply Xa h y<;>intro c h
  .refine zc<|ze<|zg<|A ?_;obtain⟨i,j,l,m,h⟩:=F6 h;refine A ?_;apply Xa h y<;>intro d h
   .refine A ?_;apply zA;cases h;exact⟨_,y,_,y,Xb []⟩
   refine zc<|A ?_;exact LB
  exact Ll
 rintro⟨⟩ rfl;refine zm<|A ?_
 exact F4⟩
def Rl(a:Vv)(b:Vr)(c:T2):Option (Bool):=(g5 a b c).bind λd=>some (decide (0<=d))
theorem jO(s:Vv)(a:Vr)(e:T2)(h:Rl s a e=some r):VD 234 [.isl 3 (map zv s),.fn (.func 300) [] [.ipt 1 [[.fn (.func 299) [] [.ipt 1 [[.ipt 2 [[cL a,mI e]] 0 0]] 0 0]]] 0 0]] (bA r):=by refine zi func234 y kz y y<|A ?_;obtain⟨b,c,h⟩:=bs h;refine A ?_;exact F4
instance :VF 234 [.isl 3 (map zv s),.fn (.func 300) [] [.ipt 1 [[.fn (.func 299) [] [.ipt 1 [[.ipt 2 [[cL a,mI e]] 0 0]] 0 0]]] 0 0]] (Rl s a e) bA:=⟨λ_=>jO s a e⟩
def gb(a:zU)(b:Vr)(c:T2):Option (Bool):=(Wy a.C b c).bind λd=>some d
instance (b:zU):VF 303 [.agg (XF b),.ipt 1 [[.fn (.func 299) [] [.ipt 1 [[.ipt 2 [[cL a,mI e]] 0 0]] 0 0]]] 0 0] (gb b a e) bA:=⟨λr h=>by
 refine zi func303 y kz y y<|A ?_;obtain⟨c,d,h⟩:=bs h;refine A ?_
 exact F4⟩
def ju:Option (Int):=some (-1)
def Cd(b:Vx)(c:Vr)(d:T2)(a:Int):zL (Int) (Unit) (Int):=cond (decide (a<(length b:Int))) ((idx b a).bind λe=>(gb e c d).bind λf=>cond f (some (.inr (.inr a))) (some (.inl (i64.wrap (a+1))))) (some (.inr (.inl ())))
def hX(a:Vx)(c:Vr)(d:T2):Option (Int):=(zk (λz=>Cd a c d z) 0).bind λo=>zE o (λb=>ju) some
instance :VF 348 [.isl 4 (map XF p),.fn (.func 303) [] [.ipt 1 [[.fn (.func 299) [] [.ipt 1 [[.ipt 2 [[cL a,mI e]] 0 0]] 0 0]]] 0 0]] (hX p a e) iA:=⟨λr h=>by
 refine zi func348 y kz y y<|A ?_;refine ze<|A ?_;obtain⟨o,ho,h⟩:=bs h;refine F7 ho (λz=>[(0,.isl 4 (map XF p)),(1,.fn (.func 303) [] [.ipt 1 [[.fn (.func 299) [] [.ipt 1 [[.ipt 2 [[cL a,mI e]] 0 0]] 0 0]]] 0 0]),(7,iA (length p:Int)),(8,iA z)]) (λz=>[]) (λb=>[]) (λb=>[]) (pG f348 iA) (z6 []) ?_ ?_
 .rintro f r h;refine A ?_;apply ze;apply Xa h y<;>intro c h
  .refine zc<|ze<|zg<|A ?_;obtain⟨i,j,l,m,h⟩:=F6 h;refine A ?_;apply Xa h y<;>intro d h
   .refine A ?_;apply zA;cases h;exact⟨_,y,_,y,Xb []⟩
   refine zc<|A ?_;exact LB
  exact Ll
 rintro⟨⟩ rfl;refine zm<|A ?_
 exact F4⟩
def Ce(a:Vx)(b:Vr)(c:T2):Option (Bool):=(hX a b c).bind λd=>some (decide (0<=d))
instance :VF 302 [.isl 4 (map XF p),.fn (.func 303) [] [.ipt 1 [[.fn (.func 299) [] [.ipt 1 [[.ipt 2 [[cL a,mI e]] 0 0]] 0 0]]] 0 0]] (Ce p a e) bA:=⟨λr h=>by
 refine zi func302 y kz y y<|A ?_;obtain⟨b,c,h⟩:=bs h;refine A ?_
 exact F4⟩
def mY:Option (T0×zh×Bool):=some ([],(zh.mk [] [] false),false)
def Ix(i:Vr)(j:T2)(l:T0)(e:T1)(a:Int):zL (Int) (Unit) (T0×zh×Bool):=cond (decide (a<((length e):Int))) ((idx e a).bind λb=>(zI i j b).bind λc=>(Pp c.1 l).bind λd=>cond (decide (0<=d)) ((idx c.1.Fields d).bind λf=>some (.inr (.inr (b,f,true)))) (some (.inl (i64.wrap (a+1))))) (some (.inr (.inl ())))
def Wq(a:Vr)(c:T2)(d:T0)(e:T0):Option (T0×zh×Bool):=(Kz a c d).bind λf=>(zk (λz=>Ix a c e f z) 0).bind λo=>zE o (λb=>mY) some
instance (d:T0):VF 134 [.ipt 2 [[cL a,mI e]] 0 0,sA d,sA n] (Wq a e d n) (λr=>(.tup [sA r.1,.agg (zv r.2.1),bA r.2.2])):=⟨λr h=>by
 refine zi func134 y kz y y<|A ?_;apply ze;obtain⟨c,p,h⟩:=bs h;refine A ?_;refine u<|sx [] (GM p)<|zw (VC:=[(0,.ipt 2 [[cL a,mI e]] 0 0),(2,sA n),(7,Vg),(16,.msl 1 0 (length c))]) (VJ:=[some (3,[[sA [],sA [],bA false]]),sT c]) (zl [0,1])<|A ?_;obtain⟨o,ho,h⟩:=bs h;refine F7 ho (λz=>[(0,.ipt 2 [[cL a,mI e]] 0 0),(2,sA n),(7,Vg),(16,.msl 1 0 (length c)),(17,iA ((length c):Int)),(18,iA z)]) (λz=>[some (3,[[sA [],sA [],bA false]]),sT c]) (λb=>[(7,Vg)]) (λb=>[some (3,[[sA [],sA [],bA false]])]) (pG f134 (λr=>.tup [sA r.1,.agg (zv r.2.1),bA r.2.2])) (z6 [0,1]) ?_ ?_
 .rintro q r h;refine A ?_;apply ze;apply Xa h y<;>intro i h
  .refine zc<|ze<|zg ?_;obtain⟨s,C,h⟩:=bs h;refine A ?_;obtain⟨j,v,h⟩:=bs h;refine A ?_;obtain⟨x,l,h⟩:=bs h;refine rg y<|u<|ld ti y y<|u<|mv y<|u<|pc (eB j.1 n l) y y y<|u<|Lw y<|zx ?_;refine rg y<|u<|mv y<|u<|geq ti y y<|zx ?_;apply Xa h y<;>intro f h
   .obtain⟨m,B,h⟩:=bs h;refine Lc [(6,_),(7,_),(8,_)] [some (3,[(zv m)])] [7] Y2 [(6,_),(38,_),(37,_),(36,_),(35,_),(34,_),(33,_)] 1 (Xd (z:=by exact⟨(λ_ _=>⟨_,y,y,La ti y y y<|⟨.any,[8],[(8,_)],y,y,y,t,Xg (z:=z6 [0])⟩⟩),t⟩)) ?_;apply zA;cases h;exact⟨_,y,_,y,Xb []⟩
   refine zc<|A ?_;exact LH
  exact Lv
 rintro⟨⟩ rfl;refine zm<|A ?_
 exact F4⟩
def ZY(a:zb):Bool:=(!(a.Name==[36,105,110,105,116]))
theorem k8(c:zb)(h:ZY c=r):VD 219 [.agg (zd c)] (bA r):=by refine zi func219 y kz y y ?_;unfold ZY at h;refine A ?_;refine A ?_;apply zA;obtain rfl:=h;exact⟨_,y,Xb []⟩
instance :VF 219 [.agg (zd c)] (some (ZY c)) bA:=.of λ_=>k8 c
def mA:Option (T0×zb×Bool):=some ([],(zb.mk [] [] [] false false 0 0 [] [] []),false)
def Ih(l:Vr)(m:T2)(e:T1)(n:T0)(a:Int):zL (Int) (Unit) (T0×zb×Bool):=cond (decide (a<(length e:Int))) ((idx e a).bind λd=>(zI l m d).bind λb=>(HM b.1 n).bind λc=>(cond (decide (0<=c)) ((idx b.1.Methods c).bind λf=>some (ZY f)) (some false)).bind λi=>cond i ((idx b.1.Methods c).bind λj=>some (.inr (.inr (d,j,true)))) (some (.inl (i64.wrap (a+1))))) (some (.inr (.inl ())))
def Pr(a:Vr)(c:T2)(d:T1)(e:T0):Option (T0×zb×Bool):=(zk (λz=>Ih a c d e z) 0).bind λo=>zE o (λb=>mA) some
instance :VF 218 [.ipt 2 [[cL a,mI e]] 0 0,tL d,sA i,.fn (.func 219) [] []] (Pr a e d i) (λr=>(.tup [sA r.1,.agg (zd r.2.1),bA r.2.2])):=⟨λr h=>by
 refine zi func218 y kz y y<|A ?_;refine ze<|A ?_;obtain⟨o,ho,h⟩:=bs h;refine F7 ho (λz=>[(0,.ipt 2 [[cL a,mI e]] 0 0),(2,sA i),(3,.fn (.func 219) [] []),(9,Vg),(16,tL d),(17,iA (length d:Int)),(18,iA z)]) (λz=>[Zf]) (λb=>[(9,Vg)]) (λb=>[Zf]) (pG f218 (λr=>.tup [sA r.1,.agg (zd r.2.1),bA r.2.2])) (z6 [0]) ?_ ?_
 .rintro C r h;refine A ?_;apply ze;apply Xa h y<;>intro m h
  .refine zc<|ze<|zg ?_;obtain⟨D,E,h⟩:=bs h;refine A ?_;obtain⟨p,F,h⟩:=bs h;refine A ?_;obtain⟨G,q,h⟩:=bs h;refine rg y<|u<|ld ti y y<|u<|mv y<|u<|pc (Ir p.1 i q) y y y<|u<|Lw y<|zx ?_;obtain⟨s,f,h⟩:=bs h;refine rg y<|u<|mv y<|u<|geq ti y y<|u<|mv y<|XV (x:=s) (j:=2) 7 y y y y y Lr (λc=>by replace f:=bT c f;obtain⟨v,l,f⟩:=bs f;obtain rfl:=sm f;exact g y c<|mv y<|g y c<|fa ti y y y<|g y c<|ld ti y y<|g y c<|mv y<|g y c<|Lp ti y ti y y y l<|g y c<|Lt ti y (zT l).2.2 y<|g y c<|pc (k8 v y) y y y<|zx (eg [34,35,36,37,38,39,40] 7 y y y y)) (λhb=>(sm (bF hb f)).symm)<|zx ?_;apply Xa h y<;>intro n h
   .obtain⟨B,H,h⟩:=bs h;refine Lc [(8,_),(9,_),(10,_)] [some (10,[(zd B)])] [7] Y2 [(8,_),(47,_),(46,_),(45,_),(44,_),(43,_),(42,_)] 1 (Xd (z:=by exact⟨(λ_ _=>⟨_,y,y,La ti y y y<|⟨.any,[8],[(10,_)],y,y,y,t,Xg (z:=z6 [0])⟩⟩),t⟩)) ?_;apply zA;cases h;exact⟨_,y,_,y,Xb []⟩
   refine zc<|A ?_;exact LC
  exact Lv
 rintro⟨⟩ rfl;refine zm<|A ?_
 exact F4⟩
def BP(b:Vr)(c:T2)(d:T0)(e:T0):Option (T0×zb×Bool):=(Kz b c d).bind λf=>(Pr b c f e).bind λa=>some (a.1,a.2.1,a.2.2)
instance :VF 124 [.ipt 2 [[cL a,mI e]] 0 0,sA b,sA n] (BP a e b n) (λr=>(.tup [sA r.1,.agg (zd r.2.1),bA r.2.2])):=⟨λr h=>by
 refine zi func124 y kz y y<|A ?_;obtain⟨c,d,f,i,h⟩:=F6 h;refine A ?_;refine u<|sx [] (GM d)<|zw (VC:=[(2,sA n),(7,Vg),(9,.ipt 2 [[cL a,mI e]] 0 0),(12,.msl 1 0 (length c))]) (VJ:=[Zf,sT c]) (zl [0,1])<|u<|mv y<|zw (VC:=[(7,Vg),(9,.ipt 2 [[cL a,mI e]] 0 0),(12,tL c),(13,sA n)]) (VJ:=[Zf]) (zl [0])<|A ?_
 exact F4⟩
def HJ(a:zb):Bool:=true
theorem eh(c:zb)(h:HJ c=r):VD 329 [.agg (zd c)] (bA r):=by refine zi func329 y kz y y ?_;unfold HJ at h;refine A ?_;refine A ?_;apply zA;obtain rfl:=h;exact⟨_,y,Xb []⟩
instance :VF 329 [.agg (zd c)] (some (HJ c)) bA:=.of λ_=>eh c
def mz:Option (T0×zb×Bool):=some ([],(zb.mk [] [] [] false false 0 0 [] [] []),false)
def Ig(l:Vr)(m:T2)(e:T1)(n:T0)(a:Int):zL (Int) (Unit) (T0×zb×Bool):=cond (decide (a<(length e:Int))) ((idx e a).bind λd=>(zI l m d).bind λb=>(HM b.1 n).bind λc=>(cond (decide (0<=c)) ((idx b.1.Methods c).bind λf=>some (HJ f)) (some false)).bind λi=>cond i ((idx b.1.Methods c).bind λj=>some (.inr (.inr (d,j,true)))) (some (.inl (i64.wrap (a+1))))) (some (.inr (.inl ())))
def Tu(a:Vr)(c:T2)(d:T1)(e:T0):Option (T0×zb×Bool):=(zk (λz=>Ig a c d e z) 0).bind λo=>zE o (λb=>mz) some
instance :VF 218 [.ipt 2 [[cL a,mI e]] 0 0,tL d,sA i,.fn (.func 329) [] []] (Tu a e d i) (λr=>(.tup [sA r.1,.agg (zd r.2.1),bA r.2.2])):=⟨λr h=>by
 refine zi func218 y kz y y<|A ?_;refine ze<|A ?_;obtain⟨o,ho,h⟩:=bs h;refine F7 ho (λz=>[(0,.ipt 2 [[cL a,mI e]] 0 0),(2,sA i),(3,.fn (.func 329) [] []),(9,Vg),(16,tL d),(17,iA (length d:Int)),(18,iA z)]) (λz=>[Zf]) (λb=>[(9,Vg)]) (λb=>[Zf]) (pG f218 (λr=>.tup [sA r.1,.agg (zd r.2.1),bA r.2.2])) (z6 [0]) ?_ ?_
 .rintro C r h;refine A ?_;apply ze;apply Xa h y<;>intro m h
  .refine zc<|ze<|zg ?_;obtain⟨D,E,h⟩:=bs h;refine A ?_;obtain⟨p,F,h⟩:=bs h;refine A ?_;obtain⟨G,q,h⟩:=bs h;refine rg y<|u<|ld ti y y<|u<|mv y<|u<|pc (Ir p.1 i q) y y y<|u<|Lw y<|zx ?_;obtain⟨s,f,h⟩:=bs h;refine rg y<|u<|mv y<|u<|geq ti y y<|u<|mv y<|XV (x:=s) (j:=2) 7 y y y y y Lr (λc=>by replace f:=bT c f;obtain⟨v,l,f⟩:=bs f;obtain rfl:=sm f;exact g y c<|mv y<|g y c<|fa ti y y y<|g y c<|ld ti y y<|g y c<|mv y<|g y c<|Lp ti y ti y y y l<|g y c<|Lt ti y (zT l).2.2 y<|g y c<|pc (eh v y) y y y<|zx (eg [34,35,36,37,38,39,40] 7 y y y y)) (λhb=>(sm (bF hb f)).symm)<|zx ?_;apply Xa h y<;>intro n h
   .obtain⟨B,H,h⟩:=bs h;refine Lc [(8,_),(9,_),(10,_)] [some (10,[(zd B)])] [7] Y2 [(8,_),(47,_),(46,_),(45,_),(44,_),(43,_),(42,_)] 1 (Xd (z:=by exact⟨(λ_ _=>⟨_,y,y,La ti y y y<|⟨.any,[8],[(10,_)],y,y,y,t,Xg (z:=z6 [0])⟩⟩),t⟩)) ?_;apply zA;cases h;exact⟨_,y,_,y,Xb []⟩
   refine zc<|A ?_;exact LC
  exact Lv
 rintro⟨⟩ rfl;refine zm<|A ?_
 exact F4⟩
def E4(a:Vr)(b:T2)(c:T0)(e:T0):Option (T0×zb×Bool):=(zI a b c).bind λf=>cond (!f.1.Interface) (some ([],(zb.mk [] [] [] false false 0 0 [] [] []),false)) ((IL a b c).bind λi=>(Xu 16 [c] i).bind λj=>(Tu a b j e).bind λd=>some (d.1,d.2.1,d.2.2))
instance :VF 252 [.ipt 2 [[cL a,mI e]] 0 0,sA b,sA n] (E4 a e b n) (λr=>(.tup [sA r.1,.agg (zd r.2.1),bA r.2.2])):=⟨λr h=>by
 refine zi func252 y kz y y<|A ?_;obtain⟨m,o,h⟩:=bs h;refine A ?_;refine ze<|A ?_;apply Xa h y<;>intro c h
 .refine A ?_;exact F4
 apply zc;obtain⟨p,d,i,j,q,s,h⟩:=LA h;refine A ?_;refine u<|sx [] (gD d)<|u<|Lo (l:=[b]) (f:=Xe) 4 ti y ti y y YB ti y y y y (Mx y) (λ_=>y) y j<|u<|mv y<|zw (VC:=[(7,Vg),(21,.ipt 2 [[cL a,mI e]] 0 0),(27,tL i),(28,sA n)]) (VJ:=[Zf]) (zl [0])<|A ?_
 exact F4⟩
def Ij(a:Bool):Option (Bool):=some a
def PK(b:Vr)(c:T2)(a:zp)(d:za×Bool)(e:Bool):Option (Bool):=cond e ((BP b c a.C a.M).bind λf=>Ij (f.2.2&&(!d.1.Interface))) (cond (a.Op==45) ((E4 b c a.C a.M).bind λi=>Ij i.2.2) (Ij true))
def Ik(b:Vr)(c:T2)(a:zp)(d:za×Bool)(e:Bool):Option (Bool):=cond e ((Wq b c a.C a.M).bind λf=>Ij f.2.2) (cond (a.Op==42) (PK b c a d (a.Op==42)) (cond (a.Op==43) (PK b c a d (a.Op==43)) (PK b c a d (a.Op==44))))
def TA(b:Vr)(c:T2)(a:zp):Option (Bool):=(zI b c a.C).bind λd=>cond (a.Op==38) (Ik b c a d (a.Op==38)) (cond (a.Op==39) (Ik b c a d (a.Op==39)) (cond (a.Op==40) (Ik b c a d (a.Op==40)) (Ik b c a d (a.Op==41))))
instance (B:zp):VF 306 [.ipt 2 [[cL a,mI e]] 0 0,.agg (zs B)] (TA a e B) bA:=⟨λr h=>by
 refine zi func306 y kz y y<|A ?_;obtain⟨b,C,h⟩:=bs h;refine A ?_;refine A ?_;refine zY (X:=Bool) (λz=>[(7,bA z)]) (λz=>[]) (λz=>Ij z=some r) ?_ ?_
 .refine A ?_;apply zg;refine zY (X:=Bool) (λz=>[(0,.ipt 2 [[cL a,mI e]] 0 0),(3,Vg),(5,Vh),(7,bA true),(16,iA B.Op),(17,bA z)]) (λz=>[some (4,[(zs B)]),some (6,[(zf b.1)])]) (λz=>Ik a e B b z=some r) ?_ ?_
  .refine A ?_;apply Xa h y<;>intro d h;.apply zc;exact⟨(B.Op==38),h,zl [0,1]⟩
   refine A ?_;apply Xa h y<;>intro f h;.apply zc;exact⟨(B.Op==39),h,zl [0,1]⟩
   refine A ?_;apply Xa h y<;>intro i h;.apply zc;exact⟨(B.Op==40),h,zl [0,1]⟩
   refine A ?_;exact(⟨(B.Op==41),h,zl [0,1]⟩)
  rintro D h;apply Xa h y<;>intro j h;.obtain⟨o,E,h⟩:=bs h;refine A ?_;exact(⟨o.2.2,h,zl []⟩)
  refine zY (X:=Bool) (λz=>[(0,.ipt 2 [[cL a,mI e]] 0 0),(3,Vg),(5,Vh),(7,bA true),(16,iA B.Op),(32,bA z)]) (λz=>[some (4,[(zs B)]),some (6,[(zf b.1)])]) (λz=>PK a e B b z=some r) ?_ ?_
  .refine A ?_;apply Xa h y<;>intro l h;.apply zc;exact⟨(B.Op==42),h,zl [0,1]⟩
   refine A ?_;apply Xa h y<;>intro m h;.apply zc;exact⟨(B.Op==43),h,zl [0,1]⟩
   refine A ?_;exact(⟨(B.Op==44),h,zl [0,1]⟩)
  rintro F h;apply Xa h y<;>intro n h;.obtain⟨p,s,h⟩:=bs h;refine A ?_;refine A ?_;exact(⟨(p.2.2&&(!b.1.Interface)),h,zl []⟩)
  refine A ?_;apply Xa h y<;>intro c h;.obtain⟨q,v,h⟩:=bs h;refine A ?_;exact(⟨q.2.2,h,zl []⟩)
  apply zc;exact⟨true,h,zl []⟩
 rintro x h;refine A ?_
 exact F4⟩
def An(a:zp)(b:Vr)(c:T2)(d:Vr)(e:T2):Option (Bool):=(Wy a.C b c).bind λf=>(cond f (some true) ((TA d e a).bind λi=>some (!i))).bind λj=>some j
instance (B:zp):VF 305 [.agg (zs B),.ipt 1 [[.fn (.func 299) [] [.ipt 1 [[.ipt 2 [[cL a,mI e]] 0 0]] 0 0]]] 0 0,.ipt 1 [[.ipt 2 [[cL v,mI G]] 0 0]] 0 0] (An B a e v G) bA:=⟨λr h=>by
 refine zi func305 y kz y y<|A ?_;obtain⟨b,c,d,f,h⟩:=F6 h;refine A ?_
 exact F4⟩
def jh:Option (Int):=some (-1)
def A9(b:Vw)(e:Vr)(f:T2)(i:Vr)(j:T2)(a:Int):zL (Int) (Unit) (Int):=cond (decide (a<(length b:Int))) ((idx b a).bind λc=>(An c e f i j).bind λd=>cond d (some (.inr (.inr a))) (some (.inl (i64.wrap (a+1))))) (some (.inr (.inl ())))
def gQ(a:Vw)(c:Vr)(d:T2)(e:Vr)(f:T2):Option (Int):=(zk (λz=>A9 a c d e f z) 0).bind λo=>zE o (λb=>jh) some
instance (c:Vw):VF 349 [.isl 4 (map zs c),.fn (.func 305) [] [.ipt 1 [[.fn (.func 299) [] [.ipt 1 [[.ipt 2 [[cL a,mI e]] 0 0]] 0 0]]] 0 0,.ipt 1 [[.ipt 2 [[cL v,mI G]] 0 0]] 0 0]] (gQ c a e v G) iA:=⟨λr h=>by
 refine zi func349 y kz y y<|A ?_;refine ze<|A ?_;obtain⟨o,ho,h⟩:=bs h;refine F7 ho (λz=>[(0,.isl 4 (map zs c)),(1,.fn (.func 305) [] [.ipt 1 [[.fn (.func 299) [] [.ipt 1 [[.ipt 2 [[cL a,mI e]] 0 0]] 0 0]]] 0 0,.ipt 1 [[.ipt 2 [[cL v,mI G]] 0 0]] 0 0]),(7,iA (length c:Int)),(8,iA z)]) (λz=>[]) (λb=>[]) (λb=>[]) (pG f349 iA) (z6 []) ?_ ?_
 .rintro l r h;refine A ?_;apply ze;apply Xa h y<;>intro d h
  .refine zc<|ze<|zg<|A ?_;obtain⟨i,m,j,n,h⟩:=F6 h;refine A ?_;apply Xa h y<;>intro f h
   .refine A ?_;apply zA;cases h;exact⟨_,y,_,y,Xb []⟩
   refine zc<|A ?_;exact LB
  exact Ll
 rintro⟨⟩ rfl;refine zm<|A ?_
 exact F4⟩
def Ca(a:Vw)(b:Vr)(c:T2)(d:Vr)(e:T2):Option (Bool):=(gQ a b c d e).bind λf=>some (decide (0<=f))
instance :VF 304 [.isl 4 (map zs o),.fn (.func 305) [] [.ipt 1 [[.fn (.func 299) [] [.ipt 1 [[.ipt 2 [[cL a,mI e]] 0 0]] 0 0]]] 0 0,.ipt 1 [[.ipt 2 [[cL v,mI G]] 0 0]] 0 0]] (Ca o a e v G) bA:=⟨λr h=>by
 refine zi func304 y kz y y<|A ?_;obtain⟨b,c,h⟩:=bs h;refine A ?_
 exact F4⟩
def jl:Option (Int):=some (-1)
def Ck(b:T1)(c:Vr)(d:T2)(a:Int):zL (Int) (Unit) (Int):=cond (decide (a<(length b:Int))) ((idx b a).bind λe=>(Wy e c d).bind λf=>cond f (some (.inr (.inr a))) (some (.inl (i64.wrap (a+1))))) (some (.inr (.inl ())))
def gS(a:T1)(c:Vr)(d:T2):Option (Int):=(zk (λz=>Ck a c d z) 0).bind λo=>zE o (λb=>jl) some
instance :VF 181 [tL d,.fn (.func 299) [] [.ipt 1 [[.ipt 2 [[cL a,mI e]] 0 0]] 0 0]] (gS d a e) iA:=⟨λr h=>by
 refine zi func181 y kz y y<|A ?_;refine ze<|A ?_;obtain⟨o,ho,h⟩:=bs h;refine F7 ho (λz=>[(0,tL d),(1,.fn (.func 299) [] [.ipt 1 [[.ipt 2 [[cL a,mI e]] 0 0]] 0 0]),(7,iA (length d:Int)),(8,iA z)]) (λz=>[]) (λb=>[]) (λb=>[]) (pG f181 iA) (z6 []) ?_ ?_
 .rintro i r h;refine A ?_;apply ze;apply Xa h y<;>intro c h
  .refine zc<|ze<|zg<|A ?_;obtain⟨j,l,m,n,h⟩:=F6 h;refine A ?_;apply Xa h y<;>intro f h
   .refine A ?_;apply zA;cases h;exact⟨_,y,_,y,Xb []⟩
   refine zc<|A ?_;exact LB
  exact Ll
 rintro⟨⟩ rfl;refine zm<|A ?_
 exact F4⟩
def Cs(a:T1)(b:Vr)(c:T2):Option (Bool):=(gS a b c).bind λd=>some (decide (0<=d))
instance :VF 99 [tL d,.fn (.func 299) [] [.ipt 1 [[.ipt 2 [[cL a,mI e]] 0 0]] 0 0]] (Cs d a e) bA:=⟨λr h=>by
 refine zi func99 y kz y y<|A ?_;obtain⟨b,c,h⟩:=bs h;refine A ?_
 exact F4⟩
def TR(a:zb)(b:Vr)(c:T2)(e:Vr)(f:T2):Option (Bool):=(Ce a.Traps b c).bind λi=>(Ca a.Code b c e f).bind λj=>(Wy a.Ret b c).bind λl=>(cond l (some true) ((Cs a.Params b c).bind λm=>some m)).bind λd=>some ((d||i)||j)
instance :VF 301 [.agg (zd c),.ipt 1 [[.fn (.func 299) [] [.ipt 1 [[.ipt 2 [[cL a,mI e]] 0 0]] 0 0]]] 0 0,.ipt 1 [[.ipt 2 [[cL v,mI G]] 0 0]] 0 0] (TR c a e v G) bA:=⟨λr h=>by
 refine zi func301 y kz y y<|A ?_;obtain⟨d,f,h⟩:=bs h;refine A ?_;obtain⟨i,j,h⟩:=bs h;refine A ?_;obtain⟨l,m,b,n,h⟩:=F6 h;refine A ?_
 exact F4⟩
def jK:Option (Int):=some (-1)
def Cz(b:Vu)(e:Vr)(f:T2)(i:Vr)(j:T2)(a:Int):zL (Int) (Unit) (Int):=cond (decide (a<(length b:Int))) ((idx b a).bind λc=>(TR c e f i j).bind λd=>cond d (some (.inr (.inr a))) (some (.inl (i64.wrap (a+1))))) (some (.inr (.inl ())))
def da(a:Vu)(c:Vr)(d:T2)(e:Vr)(f:T2):Option (Int):=(zk (λz=>Cz a c d e f z) 0).bind λo=>zE o (λb=>jK) some
instance :VF 225 [.isl 10 (map zd j),.fn (.func 301) [] [.ipt 1 [[.fn (.func 299) [] [.ipt 1 [[.ipt 2 [[cL a,mI e]] 0 0]] 0 0]]] 0 0,.ipt 1 [[.ipt 2 [[cL v,mI G]] 0 0]] 0 0]] (da j a e v G) iA:=⟨λr h=>by
 refine zi func225 y kz y y<|A ?_;refine ze<|A ?_;obtain⟨o,ho,h⟩:=bs h;refine F7 ho (λz=>[(0,.isl 10 (map zd j)),(1,.fn (.func 301) [] [.ipt 1 [[.fn (.func 299) [] [.ipt 1 [[.ipt 2 [[cL a,mI e]] 0 0]] 0 0]]] 0 0,.ipt 1 [[.ipt 2 [[cL v,mI G]] 0 0]] 0 0]),(7,iA (length j:Int)),(8,iA z)]) (λz=>[]) (λb=>[]) (λb=>[]) (pG f225 iA) (z6 []) ?_ ?_
 .rintro l r h;refine A ?_;apply ze;apply Xa h y<;>intro c h
  .refine zc<|ze<|zg<|A ?_;obtain⟨f,m,i,n,h⟩:=F6 h;refine A ?_;apply Xa h y<;>intro d h
   .refine A ?_;apply zA;cases h;exact⟨_,y,_,y,Xb []⟩
   refine zc<|A ?_;exact LB
  exact Ll
 rintro⟨⟩ rfl;refine zm<|A ?_
 exact F4⟩
def Rr(a:Vu)(b:Vr)(c:T2)(d:Vr)(e:T2):Option (Bool):=(da a b c d e).bind λf=>some (decide (0<=f))
theorem jY(j:Vu)(a:Vr)(e:T2)(v:Vr)(G:T2)(h:Rr j a e v G=some r):VD 239 [.isl 10 (map zd j),.fn (.func 301) [] [.ipt 1 [[.fn (.func 299) [] [.ipt 1 [[.ipt 2 [[cL a,mI e]] 0 0]] 0 0]]] 0 0,.ipt 1 [[.ipt 2 [[cL v,mI G]] 0 0]] 0 0]] (bA r):=by refine zi func239 y kz y y<|A ?_;obtain⟨b,c,h⟩:=bs h;refine A ?_;exact F4
instance :VF 239 [.isl 10 (map zd j),.fn (.func 301) [] [.ipt 1 [[.fn (.func 299) [] [.ipt 1 [[.ipt 2 [[cL a,mI e]] 0 0]] 0 0]]] 0 0,.ipt 1 [[.ipt 2 [[cL v,mI G]] 0 0]] 0 0]] (Rr j a e v G) bA:=⟨λ_=>jY j a e v G⟩
def Pt(a:Vr)(b:T2)(c:za):Option (Bool):=(Rl c.Fields a b).bind λd=>(Rr c.Methods a b a b).bind λe=>some ((!d)&&(!e))
theorem eV(a:Vr)(e:T2)(x:za)(h:Pt a e x=some r):VD 213 [.ipt 2 [[cL a,mI e]] 0 0,.agg (zf x)] (bA r):=by refine zi func213 y kz y y<|A ?_;refine A ?_;obtain⟨d,b,h⟩:=bs h;refine A ?_;refine u<|Lj (jO x.Fields a e b) y y (.cons (si y) (.cons (ZB t ⟨(XC y ⟨(ZB t ⟨(XC y ⟨(si y),t⟩),t⟩),t⟩),t⟩) .nil)) Xx<|A ?_;obtain⟨f,c,h⟩:=bs h;refine A ?_;refine u<|Lj (jY x.Methods a e a e c) y y (.cons (si y) (.cons (ZB t ⟨(XC y ⟨(ZB t ⟨(XC y ⟨(si y),t⟩),t⟩),t⟩),(XC y ⟨(si y),t⟩),t⟩) .nil)) Xx<|A ?_;refine A ?_;exact F4
instance (x:za):VF 213 [.ipt 2 [[cL a,mI e]] 0 0,.agg (zf x)] (Pt a e x) bA:=⟨λ_=>eV a e x⟩
def rp:Option (Bool):=some true
def A5(b:T1)(c:T1)(a:Int):zL (Int) (Unit) (Bool):=cond (decide (a<(length b:Int))) ((idx b a).bind λd=>(idx c a).bind λe=>cond (!(d==e)) (some (.inr (.inr false))) (some (.inl (i64.wrap (a+1))))) (some (.inr (.inl ())))
def AY(a:T1)(c:T1):Option (Bool):=cond (!((length a:Int)==(length c:Int))) (some false) ((zk (λz=>A5 a c z) 0).bind λo=>zE o (λb=>rp) some)
instance (l:T1):VF 318 [tL d,tL l] (AY d l) bA:=⟨λr h=>by
 refine zi func318 y kz y y<|A ?_;refine ze<|A ?_;apply Xa h y<;>intro a h
 .refine A ?_;exact F4
 refine zc<|ze<|A ?_;obtain⟨o,ho,h⟩:=bs h;refine F7 ho (λz=>[(0,tL d),(1,tL l),(12,iA (length d:Int)),(13,iA z)]) (λz=>[]) (λb=>[]) (λb=>[]) (pG f318 bA) (z6 []) ?_ ?_
 .rintro f r h;refine A ?_;apply ze;apply Xa h y<;>intro c h
  .refine zc<|ze<|zg<|A ?_;obtain⟨i,j,m,n,h⟩:=F6 h;refine Lc [(0,_),(1,_),(12,_),(13,_),(24,_)] [] [] Y1 [(24,_),(23,_),(22,_),(21,_),(20,_),(19,_),(18,_),(17,_),(16,_)] 0 (Xg (z:=z6 [])) ?_;apply Xa h y<;>intro e h
   .refine A ?_;apply zA;cases h;exact⟨_,y,_,y,Xb []⟩
   refine zc<|A ?_;exact LB
  exact Ll
 rintro⟨⟩ rfl;refine zm<|A ?_
 exact F4⟩
def By(a:zb)(b:zb):Option (Bool):=(AY a.Params b.Params).bind λc=>some (c&&(a.Ret==b.Ret))
theorem TX(c:zb)(O:zb)(h:By c O=some r):VD 255 [.agg (zd c),.agg (zd O)] (bA r):=by refine zi func255 y kz y y<|A ?_;obtain⟨a,b,h⟩:=bs h;refine A ?_;exact F4
instance (O:zb):VF 255 [.agg (zd c),.agg (zd O)] (By c O) bA:=⟨λ_=>TX c O⟩
def Au(a:zb)(b:T0)(j:T1)(l:T0)(c:Bool)(m:Bool)(n:Int)(o:Int)(p:Vw)(d:Vy)(e:Vx):Option (Bool):=(cond ((a.Name==b)&&(!(b==[36,105,110,105,116]))) ((By (zb.mk b j l c m n o p d e) a).bind λf=>some (((!f)||c)||a.Static)) (some false)).bind λi=>some i
instance (C:Bool)(i:Int):VF 307 [.agg (zd c),.ipt 10 [[sA b,tL d,sA n,bA f,bA C,iA i,iA E,.isl 4 (map zs o),.isl 3 (map zV q),.isl 4 (map XF p)]] 0 0] (Au c b d n f C i E o q p) bA:=⟨λr h=>by
 refine zi func307 y kz y y<|A ?_;obtain⟨s,e,h⟩:=bs h;refine A ?_;refine XV (x:=s) (j:=10) 12 y y y y y Lr (λa=>by replace e:=bT a e;obtain⟨B,v,e⟩:=bs e;obtain rfl:=sm e;exact g y a<|ld ti y y<|g y a<|ld ti y y<|g y a<|pc (TX (zb.mk b d n f C i E o q p) c v) y y y<|g y a<|nt y<|g y a<|mv y<|Uj (j:=15) 2 y y y y y (MA y y a) (λl=>g y l<|fa ti y y y<|g y l<|ld ti y y<|zx (MC [20,21] 2 l y y y y)) Mq<|g y a<|mv y<|Uj (j:=19) 2 y y y y y (MA y y a) (λm=>g y m<|fa ti y y y<|g y m<|ld ti y y<|zx (MC [24,25] 2 m y y y y)) Mq<|zx (eg [15,16,17,18,19,20,21,22,23,24,25,26] 8 y y y y)) (λhb=>(sm (bF hb e)).symm)<|A ?_
 exact F4⟩
def jJ:Option (Int):=some (-1)
def Cy(b:Vu)(i:T0)(j:T1)(l:T0)(m:Bool)(n:Bool)(o:Int)(p:Int)(q:Vw)(c:Vy)(d:Vx)(a:Int):zL (Int) (Unit) (Int):=cond (decide (a<(length b:Int))) ((idx b a).bind λe=>(Au e i j l m n o p q c d).bind λf=>cond f (some (.inr (.inr a))) (some (.inl (i64.wrap (a+1))))) (some (.inr (.inl ())))
def hZ(d:Vu)(e:T0)(f:T1)(i:T0)(j:Bool)(l:Bool)(m:Int)(n:Int)(p:Vw)(a:Vy)(c:Vx):Option (Int):=(zk (λz=>Cy d e f i j l m n p a c z) 0).bind λo=>zE o (λb=>jJ) some
instance (a:T0)(C:Bool)(i:Int)(c:Vw):VF 225 [.isl 10 (map zd j),.fn (.func 307) [] [.ipt 10 [[sA a,tL d,sA n,bA f,bA C,iA i,iA E,.isl 4 (map zs c),.isl 3 (map zV q),.isl 4 (map XF p)]] 0 0]] (hZ j a d n f C i E c q p) iA:=⟨λr h=>by
 refine zi func225 y kz y y<|A ?_;refine ze<|A ?_;obtain⟨o,ho,h⟩:=bs h;refine F7 ho (λz=>[(0,.isl 10 (map zd j)),(1,.fn (.func 307) [] [.ipt 10 [[sA a,tL d,sA n,bA f,bA C,iA i,iA E,.isl 4 (map zs c),.isl 3 (map zV q),.isl 4 (map XF p)]] 0 0]),(7,iA (length j:Int)),(8,iA z)]) (λz=>[]) (λb=>[]) (λb=>[]) (pG f225 iA) (z6 []) ?_ ?_
 .rintro m r h;refine A ?_;apply ze;apply Xa h y<;>intro e h
  .refine zc<|ze<|zg<|A ?_;obtain⟨s,x,v,B,h⟩:=F6 h;refine A ?_;apply Xa h y<;>intro l h
   .refine A ?_;apply zA;cases h;exact⟨_,y,_,y,Xb []⟩
   refine zc<|A ?_;exact LB
  exact Ll
 rintro⟨⟩ rfl;refine zm<|A ?_
 exact F4⟩
variable {C:Bool}{i:Int}{I:Vu}{D:Option zu}{l:T1}{x:za}
def Rq(d:Vu)(e:T0)(f:T1)(i:T0)(j:Bool)(l:Bool)(m:Int)(n:Int)(o:Vw)(a:Vy)(b:Vx):Option (Bool):=(hZ d e f i j l m n o a b).bind λc=>some (decide (0<=c))
theorem jX(j:Vu)(b:T0)(d:T1)(n:T0)(f:Bool)(C:Bool)(i:Int)(E:Int)(o:Vw)(q:Vy)(p:Vx)(h:Rq j b d n f C i E o q p=some r):VD 239 [.isl 10 (map zd j),.fn (.func 307) [] [.ipt 10 [[sA b,tL d,sA n,bA f,bA C,iA i,iA E,.isl 4 (map zs o),.isl 3 (map zV q),.isl 4 (map XF p)]] 0 0]] (bA r):=by refine zi func239 y kz y y<|A ?_;obtain⟨a,c,h⟩:=bs h;refine A ?_;exact F4
instance :VF 239 [.isl 10 (map zd j),.fn (.func 307) [] [.ipt 10 [[sA b,tL d,sA n,bA f,bA C,iA i,iA E,.isl 4 (map zs o),.isl 3 (map zV q),.isl 4 (map XF p)]] 0 0]] (Rq j b d n f C i E o q p) bA:=⟨λ_=>jX j b d n f C i E o q p⟩
def nP:Option (Bool):=some true
def iz(a:Int):zL (Int) (Unit) (Bool):=some (.inl (i64.wrap (a+1)))
def MY(i:Vr)(j:T2)(a:zb)(c:T1)(b:Int):zL (Int) (Unit) (Bool):=cond (decide (b<(length c:Int))) ((idx c b).bind λd=>(zI i j d).bind λe=>(Rq e.1.Methods a.Name a.Params a.Ret a.Static a.Abstract a.Locals a.Stack a.Code a.Maps a.Traps).bind λf=>cond f (some (.inr (.inr false))) (some (.inl (i64.wrap (b+1))))) (some (.inr (.inl ())))
def MX(e:Vr)(f:T2)(d:za)(a:Int):zL (Int) (Unit) (Bool):=cond (decide (a<(length d.Methods:Int))) ((idx d.Methods a).bind λi=>(Kz e f d.Name).bind λc=>(XR c 1 (length c:Int)).bind λj=>(zk (λz=>MY e f i j z) 0).bind λo=>zE o (λb=>iz a) (λr=>some (.inr (.inr r)))) (some (.inr (.inl ())))
def PR(a:Vr)(c:T2)(d:za):Option (Bool):=(zk (λz=>MX a c d z) 0).bind λo=>zE o (λb=>nP) some
theorem iy(d:Vr)(e:T2)(x:za)(h:PR d e x=some r):VD 214 [.ipt 2 [[cL d,mI e]] 0 0,.agg (zf x)] (bA r):=by
 refine zi func214 y kz y y<|A ?_;refine ze<|A ?_;obtain⟨o,ho,h⟩:=bs h;refine F7 ho (λz=>[(0,.ipt 2 [[cL d,mI e]] 0 0),(3,Vg),(12,.isl 10 (map zd x.Methods)),(13,iA (length x.Methods:Int)),(14,iA z)]) (λz=>[some (6,[(zf x)])]) (λb=>[]) (λb=>[]) (pG f214 bA) (z6 [0]) ?_ ?_
 .rintro f r h;refine A ?_;apply ze;apply Xa h y<;>intro m h
  .refine zc<|ze<|zg ?_;obtain⟨c,B,h⟩:=bs h;refine A ?_;obtain⟨i,q,j,l,h⟩:=F6 h;refine A ?_;refine u<|sx [] (GM q)<|zw (VC:=[(0,.ipt 2 [[cL d,mI e]] 0 0),(3,Vg),(6,Vh),(12,.isl 10 (map zd x.Methods)),(13,iA (length x.Methods:Int)),(14,iA f),(21,.msl 2 0 (length i))]) (VJ:=[some (6,[(zf x)]),some (10,[(zd c)]),sT i]) (zl [0,1,2])<|zw (VC:=[(0,.ipt 2 [[cL d,mI e]] 0 0),(3,Vg),(6,Vh),(12,.isl 10 (map zd x.Methods)),(13,iA (length x.Methods:Int)),(14,iA f),(21,tL i)]) (VJ:=[some (6,[(zf x)]),some (10,[(zd c)])]) (zl [0,1])<|u<|Mi (a:=1) (b:=(length i:Int)) ti y ti y y (Gc y l) y l<|A ?_;obtain⟨o,ho,h⟩:=bs h;refine LG ho (λz=>[(0,.ipt 2 [[cL d,mI e]] 0 0),(3,Vg),(6,Vh),(12,.isl 10 (map zd x.Methods)),(13,iA (length x.Methods:Int)),(14,iA f),(22,tL j),(23,iA (length j:Int)),(24,iA z)]) (λz=>[some (6,[(zf x)]),some (10,[(zd c)])]) (λb=>[(0,.ipt 2 [[cL d,mI e]] 0 0),(3,Vg),(12,.isl 10 (map zd x.Methods)),(13,iA (length x.Methods:Int)),(14,iA f)]) (λb=>[some (6,[(zf x)])]) (pG f214 bA) (z6 [0,1]) ?_ ?_ ?_
   .rintro C r h;refine A ?_;apply ze;apply Xa h y<;>intro n h
    .refine zc<|ze<|zg ?_;obtain⟨D,E,h⟩:=bs h;refine A ?_;obtain⟨s,F,h⟩:=bs h;refine A ?_;obtain⟨G,v,h⟩:=bs h;refine A ?_;refine u<|Lj (jX s.1.Methods c.Name c.Params c.Ret c.Static c.Abstract c.Locals c.Stack c.Code c.Maps c.Traps v) y y (.cons (si y) (.cons (ZB t ⟨(XC y ⟨(si y),(si y),(si y),(si y),(si y),(si y),(si y),(si y),(si y),(si y),t⟩),t⟩) .nil)) Xx<|zx ?_;apply Xa h y<;>intro p h
     .refine A ?_;apply zA;cases h;exact⟨_,y,_,y,Xb []⟩
     refine zc<|A ?_;exact LH
    exact Lv
   .rintro⟨⟩ rfl;refine zm<|A ?_;exact LC
   rintro r' rfl env st hp;cases h;exact⟨_,y,hp⟩
  exact Ll
 rintro⟨⟩ rfl;refine zm<|A ?_;exact F4
instance :VF 214 [.ipt 2 [[cL a,mI e]] 0 0,.agg (zf x)] (PR a e x) bA:=⟨λ_=>iy a e x⟩
def TS(a:zb)(b:T0)(i:T1)(j:T0)(l:Bool)(m:Bool)(n:Int)(o:Int)(p:Vw)(c:Vy)(d:Vx):Option (Bool):=(cond (a.Name==b) ((By (zb.mk b i j l m n o p c d) a).bind λe=>some (!e)) (some false)).bind λf=>some f
instance :VF 308 [.agg (zd c),.ipt 10 [[sA b,tL d,sA n,bA f,bA C,iA i,iA E,.isl 4 (map zs o),.isl 3 (map zV q),.isl 4 (map XF p)]] 0 0] (TS c b d n f C i E o q p) bA:=⟨λr h=>by
 refine zi func308 y kz y y<|A ?_;obtain⟨l,e,h⟩:=bs h;refine A ?_;refine XV (x:=l) (j:=5) 4 y y y y y Lr (λa=>by replace e:=bT a e;obtain⟨s,m,e⟩:=bs e;obtain rfl:=sm e;exact g y a<|ld ti y y<|g y a<|ld ti y y<|g y a<|pc (TX (zb.mk b d n f C i E o q p) c m) y y y<|g y a<|nt y<|zx (eg [10,11,12,13] 4 y y y y)) (λhb=>(sm (bF hb e)).symm)<|A ?_
 exact F4⟩
def jI:Option (Int):=some (-1)
def Cx(b:Vu)(i:T0)(j:T1)(l:T0)(m:Bool)(n:Bool)(o:Int)(p:Int)(q:Vw)(c:Vy)(d:Vx)(a:Int):zL (Int) (Unit) (Int):=cond (decide (a<(length b:Int))) ((idx b a).bind λe=>(TS e i j l m n o p q c d).bind λf=>cond f (some (.inr (.inr a))) (some (.inl (i64.wrap (a+1))))) (some (.inr (.inl ())))
def g9(d:Vu)(e:T0)(f:T1)(i:T0)(j:Bool)(l:Bool)(m:Int)(n:Int)(p:Vw)(a:Vy)(c:Vx):Option (Int):=(zk (λz=>Cx d e f i j l m n p a c z) 0).bind λo=>zE o (λb=>jI) some
instance (a:T0)(c:Vw):VF 225 [.isl 10 (map zd j),.fn (.func 308) [] [.ipt 10 [[sA a,tL d,sA n,bA f,bA C,iA i,iA E,.isl 4 (map zs c),.isl 3 (map zV q),.isl 4 (map XF p)]] 0 0]] (g9 j a d n f C i E c q p) iA:=⟨λr h=>by
 refine zi func225 y kz y y<|A ?_;refine ze<|A ?_;obtain⟨o,ho,h⟩:=bs h;refine F7 ho (λz=>[(0,.isl 10 (map zd j)),(1,.fn (.func 308) [] [.ipt 10 [[sA a,tL d,sA n,bA f,bA C,iA i,iA E,.isl 4 (map zs c),.isl 3 (map zV q),.isl 4 (map XF p)]] 0 0]),(7,iA (length j:Int)),(8,iA z)]) (λz=>[]) (λb=>[]) (λb=>[]) (pG f225 iA) (z6 []) ?_ ?_
 .rintro m r h;refine A ?_;apply ze;apply Xa h y<;>intro e h
  .refine zc<|ze<|zg<|A ?_;obtain⟨s,x,v,B,h⟩:=F6 h;refine A ?_;apply Xa h y<;>intro l h
   .refine A ?_;apply zA;cases h;exact⟨_,y,_,y,Xb []⟩
   refine zc<|A ?_;exact LB
  exact Ll
 rintro⟨⟩ rfl;refine zm<|A ?_
 exact F4⟩
def Rp(d:Vu)(e:T0)(f:T1)(i:T0)(j:Bool)(l:Bool)(m:Int)(n:Int)(o:Vw)(a:Vy)(b:Vx):Option (Bool):=(g9 d e f i j l m n o a b).bind λc=>some (decide (0<=c))
theorem jW(j:Vu)(b:T0)(d:T1)(n:T0)(f:Bool)(C:Bool)(i:Int)(E:Int)(o:Vw)(q:Vy)(p:Vx)(h:Rp j b d n f C i E o q p=some r):VD 239 [.isl 10 (map zd j),.fn (.func 308) [] [.ipt 10 [[sA b,tL d,sA n,bA f,bA C,iA i,iA E,.isl 4 (map zs o),.isl 3 (map zV q),.isl 4 (map XF p)]] 0 0]] (bA r):=by refine zi func239 y kz y y<|A ?_;obtain⟨a,c,h⟩:=bs h;refine A ?_;exact F4
instance :VF 239 [.isl 10 (map zd j),.fn (.func 308) [] [.ipt 10 [[sA b,tL d,sA n,bA f,bA C,iA i,iA E,.isl 4 (map zs o),.isl 3 (map zV q),.isl 4 (map XF p)]] 0 0]] (Rp j b d n f C i E o q p) bA:=⟨λ_=>jW j b d n f C i E o q p⟩
def KW(a:zb):Bool:=((!a.Static)&&(!a.Abstract))
theorem eR(c:zb)(h:KW c=r):VD 330 [.agg (zd c)] (bA r):=by refine zi func330 y kz y y ?_;unfold KW at h;refine A ?_;refine A ?_;apply zA;obtain rfl:=h;exact⟨_,y,Xb []⟩
instance :VF 330 [.agg (zd c)] (some (KW c)) bA:=.of λ_=>eR c
def mE:Option (T0×zb×Bool):=some ([],(zb.mk [] [] [] false false 0 0 [] [] []),false)
def Ii(l:Vr)(m:T2)(e:T1)(n:T0)(a:Int):zL (Int) (Unit) (T0×zb×Bool):=cond (decide (a<(length e:Int))) ((idx e a).bind λd=>(zI l m d).bind λb=>(HM b.1 n).bind λc=>(cond (decide (0<=c)) ((idx b.1.Methods c).bind λf=>some (KW f)) (some false)).bind λi=>cond i ((idx b.1.Methods c).bind λj=>some (.inr (.inr (d,j,true)))) (some (.inl (i64.wrap (a+1))))) (some (.inr (.inl ())))
def Tv(a:Vr)(c:T2)(d:T1)(e:T0):Option (T0×zb×Bool):=(zk (λz=>Ii a c d e z) 0).bind λo=>zE o (λb=>mE) some
instance (i:T0):VF 218 [.ipt 2 [[cL a,mI e]] 0 0,tL d,sA i,.fn (.func 330) [] []] (Tv a e d i) (λr=>(.tup [sA r.1,.agg (zd r.2.1),bA r.2.2])):=⟨λr h=>by
 refine zi func218 y kz y y<|A ?_;refine ze<|A ?_;obtain⟨o,ho,h⟩:=bs h;refine F7 ho (λz=>[(0,.ipt 2 [[cL a,mI e]] 0 0),(2,sA i),(3,.fn (.func 330) [] []),(9,Vg),(16,tL d),(17,iA (length d:Int)),(18,iA z)]) (λz=>[Zf]) (λb=>[(9,Vg)]) (λb=>[Zf]) (pG f218 (λr=>.tup [sA r.1,.agg (zd r.2.1),bA r.2.2])) (z6 [0]) ?_ ?_
 .rintro C r h;refine A ?_;apply ze;apply Xa h y<;>intro m h
  .refine zc<|ze<|zg ?_;obtain⟨D,E,h⟩:=bs h;refine A ?_;obtain⟨p,F,h⟩:=bs h;refine A ?_;obtain⟨G,q,h⟩:=bs h;refine rg y<|u<|ld ti y y<|u<|mv y<|u<|pc (Ir p.1 i q) y y y<|u<|Lw y<|zx ?_;obtain⟨s,f,h⟩:=bs h;refine rg y<|u<|mv y<|u<|geq ti y y<|u<|mv y<|XV (x:=s) (j:=2) 7 y y y y y Lr (λc=>by replace f:=bT c f;obtain⟨v,l,f⟩:=bs f;obtain rfl:=sm f;exact g y c<|mv y<|g y c<|fa ti y y y<|g y c<|ld ti y y<|g y c<|mv y<|g y c<|Lp ti y ti y y y l<|g y c<|Lt ti y (zT l).2.2 y<|g y c<|pc (eR v y) y y y<|zx (eg [34,35,36,37,38,39,40] 7 y y y y)) (λhb=>(sm (bF hb f)).symm)<|zx ?_;apply Xa h y<;>intro n h
   .obtain⟨B,H,h⟩:=bs h;refine Lc [(8,_),(9,_),(10,_)] [some (10,[(zd B)])] [7] Y2 [(8,_),(47,_),(46,_),(45,_),(44,_),(43,_),(42,_)] 1 (Xd (z:=by exact⟨(λ_ _=>⟨_,y,y,La ti y y y<|⟨.any,[8],[(10,_)],y,y,y,t,Xg (z:=z6 [0])⟩⟩),t⟩)) ?_;apply zA;cases h;exact⟨_,y,_,y,Xb []⟩
   refine zc<|A ?_;exact LC
  exact Lv
 rintro⟨⟩ rfl;refine zm<|A ?_
 exact F4⟩
def PD(a:Vr)(b:T2)(d:T0)(e:T0):Option (T0×Bool):=(Kz a b d).bind λf=>(Tv a b f e).bind λc=>some (c.1,c.2.2)
instance :VF 253 [.ipt 2 [[cL a,mI e]] 0 0,sA b,sA n] (PD a e b n) (λr=>(.tup [sA r.1,bA r.2])):=⟨λr h=>by
 refine zi func253 y kz y y<|A ?_;obtain⟨c,d,f,i,h⟩:=F6 h;refine A ?_;refine u<|sx [] (GM d)<|zw (VC:=[(2,sA n),(12,.ipt 2 [[cL a,mI e]] 0 0),(15,.msl 0 0 (length c))]) (VJ:=[sT c]) (zl [0])<|u<|mv y<|zw (VC:=[(12,.ipt 2 [[cL a,mI e]] 0 0),(15,tL c),(16,sA n)]) (VJ:=[]) (zl [])<|A ?_;refine A ?_
 exact F4⟩
def TD(a:zb)(b:T0)(i:T1)(j:T0)(l:Bool)(m:Bool)(n:Int)(o:Int)(p:Vw)(c:Vy)(d:Vx):Option (Bool):=(cond (a.Name==b) ((By (zb.mk b i j l m n o p c d) a).bind λe=>some e) (some false)).bind λf=>some f
instance :VF 350 [.agg (zd c),.ipt 10 [[sA b,tL d,sA n,bA f,bA C,iA i,iA E,.isl 4 (map zs o),.isl 3 (map zV q),.isl 4 (map XF p)]] 0 0] (TD c b d n f C i E o q p) bA:=⟨λr h=>by
 refine zi func350 y kz y y<|A ?_;obtain⟨l,e,h⟩:=bs h;refine A ?_;refine XV (x:=l) (j:=5) 3 y y y y y Lr (λa=>by replace e:=bT a e;obtain⟨s,m,e⟩:=bs e;obtain rfl:=sm e;exact g y a<|ld ti y y<|g y a<|ld ti y y<|g y a<|pc (TX (zb.mk b d n f C i E o q p) c m) y y y<|zx (eg [10,11,12] 3 y y y y)) (λhb=>(sm (bF hb e)).symm)<|A ?_
 exact F4⟩
def jG:Option (Int):=some (-1)
def Cv(b:Vu)(i:T0)(j:T1)(l:T0)(m:Bool)(n:Bool)(o:Int)(p:Int)(q:Vw)(c:Vy)(d:Vx)(a:Int):zL (Int) (Unit) (Int):=cond (decide (a<(length b:Int))) ((idx b a).bind λe=>(TD e i j l m n o p q c d).bind λf=>cond f (some (.inr (.inr a))) (some (.inl (i64.wrap (a+1))))) (some (.inr (.inl ())))
def g7(d:Vu)(e:T0)(f:T1)(i:T0)(j:Bool)(l:Bool)(m:Int)(n:Int)(p:Vw)(a:Vy)(c:Vx):Option (Int):=(zk (λz=>Cv d e f i j l m n p a c z) 0).bind λo=>zE o (λb=>jG) some
instance (a:T0)(c:Vw):VF 225 [.isl 10 (map zd j),.fn (.func 350) [] [.ipt 10 [[sA a,tL d,sA n,bA f,bA C,iA i,iA E,.isl 4 (map zs c),.isl 3 (map zV q),.isl 4 (map XF p)]] 0 0]] (g7 j a d n f C i E c q p) iA:=⟨λr h=>by
 refine zi func225 y kz y y<|A ?_;refine ze<|A ?_;obtain⟨o,ho,h⟩:=bs h;refine F7 ho (λz=>[(0,.isl 10 (map zd j)),(1,.fn (.func 350) [] [.ipt 10 [[sA a,tL d,sA n,bA f,bA C,iA i,iA E,.isl 4 (map zs c),.isl 3 (map zV q),.isl 4 (map XF p)]] 0 0]),(7,iA (length j:Int)),(8,iA z)]) (λz=>[]) (λb=>[]) (λb=>[]) (pG f225 iA) (z6 []) ?_ ?_
 .rintro m r h;refine A ?_;apply ze;apply Xa h y<;>intro e h
  .refine zc<|ze<|zg<|A ?_;obtain⟨s,x,v,B,h⟩:=F6 h;refine A ?_;apply Xa h y<;>intro l h
   .refine A ?_;apply zA;cases h;exact⟨_,y,_,y,Xb []⟩
   refine zc<|A ?_;exact LB
  exact Ll
 rintro⟨⟩ rfl;refine zm<|A ?_
 exact F4⟩
def Rm(d:Vu)(e:T0)(f:T1)(i:T0)(j:Bool)(l:Bool)(m:Int)(n:Int)(o:Vw)(a:Vy)(b:Vx):Option (Bool):=(g7 d e f i j l m n o a b).bind λc=>some (decide (0<=c))
theorem jU(j:Vu)(b:T0)(d:T1)(n:T0)(f:Bool)(C:Bool)(i:Int)(E:Int)(o:Vw)(q:Vy)(p:Vx)(h:Rm j b d n f C i E o q p=some r):VD 239 [.isl 10 (map zd j),.fn (.func 350) [] [.ipt 10 [[sA b,tL d,sA n,bA f,bA C,iA i,iA E,.isl 4 (map zs o),.isl 3 (map zV q),.isl 4 (map XF p)]] 0 0]] (bA r):=by refine zi func239 y kz y y<|A ?_;obtain⟨a,c,h⟩:=bs h;refine A ?_;exact F4
instance :VF 239 [.isl 10 (map zd j),.fn (.func 350) [] [.ipt 10 [[sA b,tL d,sA n,bA f,bA C,iA i,iA E,.isl 4 (map zs o),.isl 3 (map zV q),.isl 4 (map XF p)]] 0 0]] (Rm j b d n f C i E o q p) bA:=⟨λ_=>jU j b d n f C i E o q p⟩
def S5(b:Vr)(c:T2)(e:T0)(a:zb):Option (Bool):=(PD b c e a.Name).bind λd=>cond (!d.2) (some false) ((zI b c d.1).bind λf=>(Rm f.1.Methods a.Name a.Params a.Ret a.Static a.Abstract a.Locals a.Stack a.Code a.Maps a.Traps).bind λi=>some i)
instance :VF 310 [.ipt 2 [[cL a,mI e]] 0 0,sA b,.agg (zd c)] (S5 a e b c) bA:=⟨λr h=>by
 refine zi func310 y kz y y<|A ?_;obtain⟨j,l,h⟩:=bs h;refine A ?_;refine ze<|A ?_;apply Xa h y<;>intro d h
 .refine A ?_;exact F4
 apply zc;obtain⟨f,m,h⟩:=bs h;refine A ?_;obtain⟨n,i,h⟩:=bs h;refine A ?_;refine u<|Lj (jU f.1.Methods c.Name c.Params c.Ret c.Static c.Abstract c.Locals c.Stack c.Code c.Maps c.Traps i) y y (.cons (si y) (.cons (ZB t ⟨(XC y ⟨(si y),(si y),(si y),(si y),(si y),(si y),(si y),(si y),(si y),(si y),t⟩),t⟩) .nil)) Xx<|A ?_
 exact F4⟩
def kN(b:zb)(c:Vr)(d:T2)(e:T0)(f:T0)(i:Bool)(j:T1)(l:Vv)(m:Vu):Option (Bool):=(S5 c d e b).bind λa=>some (!a)
instance :VF 309 [.agg (zd c),.ipt 1 [[.ipt 2 [[cL a,mI e]] 0 0]] 0 0,.ipt 6 [[sA b,sA n,bA f,tL d,.isl 3 (map zv s),.isl 10 (map zd j)]] 0 0] (kN c a e b n f d s j) bA:=⟨λr h=>by
 refine zi func309 y kz y y<|A ?_;obtain⟨i,l,h⟩:=bs h;refine A ?_
 exact F4⟩
def jH:Option (Int):=some (-1)
def Cw(b:Vu)(e:Vr)(f:T2)(i:T0)(j:T0)(l:Bool)(m:T1)(n:Vv)(o:Vu)(a:Int):zL (Int) (Unit) (Int):=cond (decide (a<(length b:Int))) ((idx b a).bind λc=>(kN c e f i j l m n o).bind λd=>cond d (some (.inr (.inr a))) (some (.inl (i64.wrap (a+1))))) (some (.inr (.inl ())))
def g8(a:Vu)(c:Vr)(d:T2)(e:T0)(f:T0)(i:Bool)(j:T1)(l:Vv)(m:Vu):Option (Int):=(zk (λz=>Cw a c d e f i j l m z) 0).bind λo=>zE o (λb=>jH) some
instance (c:T0):VF 225 [.isl 10 (map zd j),.fn (.func 309) [] [.ipt 1 [[.ipt 2 [[cL a,mI e]] 0 0]] 0 0,.ipt 6 [[sA c,sA n,bA f,tL d,.isl 3 (map zv s),.isl 10 (map zd I)]] 0 0]] (g8 j a e c n f d s I) iA:=⟨λr h=>by
 refine zi func225 y kz y y<|A ?_;refine ze<|A ?_;obtain⟨o,ho,h⟩:=bs h;refine F7 ho (λz=>[(0,.isl 10 (map zd j)),(1,.fn (.func 309) [] [.ipt 1 [[.ipt 2 [[cL a,mI e]] 0 0]] 0 0,.ipt 6 [[sA c,sA n,bA f,tL d,.isl 3 (map zv s),.isl 10 (map zd I)]] 0 0]),(7,iA (length j:Int)),(8,iA z)]) (λz=>[]) (λb=>[]) (λb=>[]) (pG f225 iA) (z6 []) ?_ ?_
 .rintro m r h;refine A ?_;apply ze;apply Xa h y<;>intro i h
  .refine zc<|ze<|zg<|A ?_;obtain⟨p,v,q,x,h⟩:=F6 h;refine A ?_;apply Xa h y<;>intro l h
   .refine A ?_;apply zA;cases h;exact⟨_,y,_,y,Xb []⟩
   refine zc<|A ?_;exact LB
  exact Ll
 rintro⟨⟩ rfl;refine zm<|A ?_
 exact F4⟩
def Ro(b:Vu)(c:Vr)(d:T2)(e:T0)(f:T0)(i:Bool)(j:T1)(l:Vv)(m:Vu):Option (Bool):=(g8 b c d e f i j l m).bind λa=>some (decide (0<=a))
theorem jV(j:Vu)(a:Vr)(e:T2)(b:T0)(n:T0)(f:Bool)(d:T1)(s:Vv)(I:Vu)(h:Ro j a e b n f d s I=some r):VD 239 [.isl 10 (map zd j),.fn (.func 309) [] [.ipt 1 [[.ipt 2 [[cL a,mI e]] 0 0]] 0 0,.ipt 6 [[sA b,sA n,bA f,tL d,.isl 3 (map zv s),.isl 10 (map zd I)]] 0 0]] (bA r):=by refine zi func239 y kz y y<|A ?_;obtain⟨c,i,h⟩:=bs h;refine A ?_;exact F4
instance :VF 239 [.isl 10 (map zd j),.fn (.func 309) [] [.ipt 1 [[.ipt 2 [[cL a,mI e]] 0 0]] 0 0,.ipt 6 [[sA b,sA n,bA f,tL d,.isl 3 (map zv s),.isl 10 (map zd I)]] 0 0]] (Ro j a e b n f d s I) bA:=⟨λ_=>jV j a e b n f d s I⟩
def eX(d:Vr)(e:T2)(a:za)(b:Vu):Option (Bool):=cond a.Interface (some true) ((Ro b d e a.Name a.Super a.Interface a.Impl a.Fields a.Methods).bind λc=>some (!c))
def eY(a:Int)(b:Vu):zL ((Vu)×Int) ((Vu)) (Bool):=some (.inl (b,(i64.wrap (a+1))))
def Im(d:za×Bool)(b:Vu)(c:Int):zL ((Vu)×Int) ((Vu)) (Bool):=cond (decide (c<(length d.1.Methods:Int))) ((idx d.1.Methods c).bind λa=>(Rp b a.Name a.Params a.Ret a.Static a.Abstract a.Locals a.Stack a.Code a.Maps a.Traps).bind λe=>cond e (some (.inr (.inr false))) ((Xu 152 b [a]).bind λf=>some (.inl (f,(i64.wrap (c+1)))))) (some (.inr (.inl b)))
def Il(i:Vr)(j:T2)(d:T1)(c:Vu)(a:Int):zL ((Vu)×Int) ((Vu)) (Bool):=cond (decide (a<((length d):Int))) ((idx d a).bind λe=>(zI i j e).bind λf=>(zk (λz=>Im f z.1 z.2) (c,0)).bind λo=>zE o (λb=>eY a b) (λr=>some (.inr (.inr r)))) (some (.inr (.inl c)))
def Pu(a:Vr)(c:T2)(d:za):Option (Bool):=(IL a c d.Name).bind λe=>(zk (λz=>Il a c e z.1 z.2) ([],0)).bind λo=>zE o (λb=>eX a c d b) some
theorem eW(a:Vr)(e:T2)(x:za)(h:Pu a e x=some r):VD 215 [.ipt 2 [[cL a,mI e]] 0 0,.agg (zf x)] (bA r):=by
 refine zi func215 y kz y y<|A ?_;refine A ?_;apply ze;obtain⟨d,D,h⟩:=bs h;refine A ?_;refine u<|sx [] (gD D)<|zw (VC:=[(2,Vg),(3,Vh),(5,nS),(15,.msl 2 0 (length d))]) (VJ:=[some (1,[[.ipt 2 [[cL a,mI e]] 0 0]]),some (6,[(zf x)]),sT d]) (zl [0,1,2])<|A ?_;obtain⟨o,ho,h⟩:=bs h;refine F7 ho (λz=>[(2,Vg),(3,Vh),(5,.msl 2 0 (length z.1)),(15,.msl 3 0 (length d)),(16,iA ((length d):Int)),(17,iA z.2)]) (λz=>[some (1,[[.ipt 2 [[cL a,mI e]] 0 0]]),some (6,[(zf x)]),some (10,map zd z.1),sT d]) (λb=>[(2,Vg),(3,Vh),(5,.msl 2 0 (length b))]) (λb=>[some (1,[[.ipt 2 [[cL a,mI e]] 0 0]]),some (6,[(zf x)]),some (10,map zd b)]) (pG f215 bA) ⟨[0,1,.fresh 10,2],cv y (.mpt y)<|cv y (.mpt y)<|cv y (.nilown y)<|cv y (.msl y)<|ce y y<|ce y y<|cn,y,⟨⟨_,y,XN ⟨ci y,t⟩⟩,⟨_,y,XN (LO y)⟩,w,⟨_,y,XL (λ_=>y)⟩,t⟩,y,k⟩ ?_ ?_
 .rintro⟨E,i⟩ r h;refine A ?_;apply ze;apply Xa h y<;>intro l h
  .refine zc<|ze<|zg ?_;obtain⟨F,G,h⟩:=bs h;refine A ?_;obtain⟨j,H,h⟩:=bs h;refine A ?_;refine A ?_;obtain⟨o,ho,h⟩:=bs h;refine LG ho (λz=>[(2,Vg),(3,Vh),(5,.msl 2 0 (length z.1)),(15,.msl 3 0 (length d)),(16,iA ((length d):Int)),(17,iA i),(28,.isl 10 (map zd j.1.Methods)),(29,iA (length j.1.Methods:Int)),(30,iA z.2)]) (λz=>[some (1,[[.ipt 2 [[cL a,mI e]] 0 0]]),some (6,[(zf x)]),some (10,map zd z.1),sT d]) (λb=>[(2,Vg),(3,Vh),(5,.msl 2 0 (length b)),(15,.msl 3 0 (length d)),(16,iA ((length d):Int)),(17,iA i)]) (λb=>[some (1,[[.ipt 2 [[cL a,mI e]] 0 0]]),some (6,[(zf x)]),some (10,map zd b),sT d]) (pG f215 bA) (z6 [0,1,2,3]) ?_ ?_ ?_
   .rintro⟨q,I⟩ r h;refine A ?_;apply ze;apply Xa h y<;>intro m h
    .refine zc<|ze<|zg ?_;obtain⟨c,J,h⟩:=bs h;refine A ?_;apply ze;obtain⟨K,s,h⟩:=bs h;refine A ?_;refine u<|Lj (jW q c.Name c.Params c.Ret c.Static c.Abstract c.Locals c.Stack c.Code c.Maps c.Traps s) y y (.cons (XU y (λ_=>y)) (.cons (ZB t ⟨(XC y ⟨(si y),(si y),(si y),(si y),(si y),(si y),(si y),(si y),(si y),(si y),t⟩),t⟩) .nil)) Xx<|zx ?_;apply Xa h y<;>intro n h
     .refine A ?_;apply zA;cases h;exact⟨_,y,_,y,Xb []⟩
     apply zc;obtain⟨L,v,h⟩:=bs h;refine A ?_;refine u<|Lo 6 ti y ti y y YB ti y y y y (Lx (f:=zd) (z:=[c]) y y) (λ_=>y) y v<|A ?_;refine A ?_;cases h;exact⟨_,y,zl [0,1,6,3]⟩
    exact Mg
   .rintro M rfl;refine zm<|A ?_;cases h;exact⟨_,y,zl [0,1,2,3]⟩
   rintro r' rfl env st hp;cases h;exact⟨_,y,hp⟩
  apply zr;cases h;exact⟨y,_,y,zl [0,1,2]⟩
 rintro B rfl;refine zm<|ze<|A ?_;apply Xa h y<;>intro p h
 .refine A ?_;exact F4
 apply zc;obtain⟨N,C,h⟩:=bs h;refine A ?_;refine u<|Lj (jV B a e x.Name x.Super x.Interface x.Impl x.Fields x.Methods C) y y (.cons (XU y (λ_=>y)) (.cons (ZB t ⟨(XC y ⟨(si y),t⟩),(XC y ⟨(si y),(si y),(si y),(si y),(si y),(si y),t⟩),t⟩) .nil)) Xx<|A ?_;exact F4
instance :VF 215 [.ipt 2 [[cL a,mI e]] 0 0,.agg (zf x)] (Pu a e x) bA:=⟨λ_=>eW a e x⟩
def m5:Option (Int):=some 0
def IB(a:zu)(c:T1)(b:Int):zL (Int) (Unit) (Int):=cond (decide (b<((length c):Int))) ((idx c b).bind λe=>(zI a.l a.at_ e).bind λd=>(PR a.l a.at_ d.1).bind λf=>(cond (!f) (some true) ((Pu a.l a.at_ d.1).bind λi=>some (!i))).bind λj=>cond j (some (.inr (.inr 1))) (some (.inl (i64.wrap (b+1))))) (some (.inr (.inl ())))
def ib(a:zu):Option (Int):=(WM a.l a.at_).bind λc=>(zk (λz=>IB a c z) 0).bind λo=>zE o (λb=>m5) some
def IC(a:zu)(c:T1)(b:Int):zL (Int) (Unit) (Int):=cond (decide (b<((length c):Int))) ((idx c b).bind λf=>(zI a.l a.at_ f).bind λd=>(Pt a.l a.at_ d.1).bind λe=>cond (!e) (some (.inr (.inr 4))) (some (.inl (i64.wrap (b+1))))) (some (.inr (.inl ())))
def BN(c:Option zu):Option (Int):=ZG c (none) (λa=>(WM a.l a.at_).bind λd=>(zk (λz=>IC a d z) 0).bind λo=>zE o (λb=>ib a) some)
theorem gc(D:Option zu){r:Int}(h:BN D=some r):VD 121 [Xz 2 XX D] (iA r):=by
 refine zi func121 y kz y y ?_;unfold BN at h
 rcases D with _|a
 .replace h:=L9 h;cases h
 replace h:=L8 h;refine A ?_;apply ze;obtain⟨f,G,h⟩:=bs h;refine rg y<|u<|mv y<|u<|sx [] (Rf G)<|zw (VC:=[(0,.ipt 2 [[cL a.l,mI a.at_]] 0 0),(12,.msl 0 0 (length f))]) (VJ:=[sT f]) (zl [0])<|A ?_;obtain⟨o,ho,h⟩:=bs h;refine F7 ho (λz=>[(0,.ipt 2 [[cL a.l,mI a.at_]] 0 0),(12,.msl 0 0 (length f)),(13,iA ((length f):Int)),(14,iA z)]) (λz=>[sT f]) (λb=>[(0,.ipt 2 [[cL a.l,mI a.at_]] 0 0)]) (λb=>[]) (pG f121 iA) (z6 [0]) ?_ ?_
 .rintro O r h;refine A ?_;apply ze;apply Xa h y<;>intro q h
  .refine zc<|ze<|zg ?_;obtain⟨P,Q,h⟩:=bs h;refine A ?_;obtain⟨s,R,h⟩:=bs h;refine A ?_;obtain⟨H,v,h⟩:=bs h;refine rg y<|u<|mv y<|u<|ld ti y y<|u<|pc (eV a.l a.at_ s.1 v) y y y<|u<|nt y<|zx ?_;apply Xa h y<;>intro m h
   .refine A ?_;apply zA;cases h;exact⟨_,y,_,y,Xb []⟩
   refine zc<|A ?_;exact LC
  exact Ll
 rintro⟨⟩ rfl;refine zm<|ze ?_;obtain⟨e,B,h⟩:=bs h;refine rg y<|u<|mv y<|u<|sx [] (Rf B)<|zw (VC:=[(0,.ipt 2 [[cL a.l,mI a.at_]] 0 0),(30,.msl 0 0 (length e))]) (VJ:=[sT e]) (zl [0])<|A ?_;obtain⟨o,ho,h⟩:=bs h;refine F7 ho (λz=>[(0,.ipt 2 [[cL a.l,mI a.at_]] 0 0),(30,.msl 0 0 (length e)),(31,iA ((length e):Int)),(32,iA z)]) (λz=>[sT e]) (λb=>[]) (λb=>[]) (pG f121 iA) (z6 [0]) ?_ ?_
 .rintro I r h;refine A ?_;apply ze;apply Xa h y<;>intro n h
  .refine zc<|ze<|zg ?_;obtain⟨J,K,h⟩:=bs h;refine A ?_;obtain⟨i,L,h⟩:=bs h;refine A ?_;obtain⟨M,C,E,d,h⟩:=F6 h;refine rg y<|u<|mv y<|u<|ld ti y y<|u<|pc (iy a.l a.at_ i.1 C) y y y<|u<|nt y<|u<|mv y<|Uj (x:=E) (j:=4) 4 y y y y y Lr (λc=>by replace d:=bF c d;obtain⟨N,F,d⟩:=bs d;obtain rfl:=sm d;exact g y c<|mv y<|g y c<|ld ti y y<|g y c<|pc (eW a.l a.at_ i.1 F) y y y<|g y c<|nt y<|zx (eg [47,48,49,50] 4 y y y y)) (λhb=>(sm (bT hb d)).symm)<|zx ?_;apply Xa h y<;>intro p h
   .refine A ?_;apply zA;cases h;exact⟨_,y,_,y,Xb []⟩
   refine zc<|A ?_;exact LC
  exact Ll
 rintro⟨⟩ rfl;refine zm<|A ?_;exact F4
instance :VF 121 [Xz 2 XX D] (BN D) iA:=⟨λ_=>gc D⟩
def Al(a:T0):Bool:=false
instance :VF 102 [.lit (.pointer none),sA b] (some (Al b)) bA:=.of λr h=>by
 refine zi func102 y kz y y ?_;unfold Al at h;refine A ?_;refine ze<|A ?_;refine UC y (λ_=>?_) (λhx=>by cases hx);refine A ?_;apply zA;obtain rfl:=h;exact⟨_,y,Xb []⟩
def nN:Option (T1):=some []
def nL(a:T0):zL (Unit) (Unit) (T1):=cond (Al a) ((Xu 16 ([]:T1) [a]).bind λb=>none) (some (.inr (.inl ())))
def ga(a:T0):Option (T1):=(zk (λz=>nL a) ()).bind λo=>zE o (λb=>nN) some
theorem iw(a:T0){r:T1}(h:ga a=some r):VD 109 [.lit (.pointer none),sA a] (tL r):=by
 refine zi func109 y kz y y<|A ?_;refine A ?_;obtain⟨o,ho,h⟩:=bs h;refine Nr ho (λz=>[(0,.lit (.pointer none)),(1,sA a),(5,nS)]) (λz=>[]) (λb=>[(5,nS)]) (λb=>[]) (pG f109 (λr=>tL r)) (z6 []) ?_ ?_
 .rintro⟨⟩ r h;refine ze<|A ?_;apply Xa h y<;>intro c h
  .refine zc<|zg ?_;obtain⟨e,d,h⟩:=bs h;refine A ?_;refine u<|MO (f:=Xe) 1 ti y ti y y YB ti y y y (Lx (f:=Xe) (z:=[a]) y y) (λ_=>y) y d<|A ?_;cases h
  exact Ll
 rintro⟨⟩ rfl;refine A ?_;exact F4
instance :VF 109 [.lit (.pointer none),sA b] (ga b) (λr=>(tL r)):=⟨λ_=>iw b⟩
def im(a:T0):Option (za×Bool):=cond (!(Al a)) (some ((za.mk [] [] false [] [] []),false)) (none)
instance :VF 106 [.lit (.pointer none),sA b] (im b) (λr=>(.tup [.agg (zf r.1),bA r.2])):=⟨λr h=>by
 refine zi func106 y kz y y<|A ?_;refine ze<|A ?_;apply Xa h y<;>intro a h
 .refine A ?_;exact F4
 refine zc ?_
 cases h⟩
def mD:Option (T0×zb×Bool):=some ([],(zb.mk [] [] [] false false 0 0 [] [] []),false)
def mB(e:T1)(l:T0)(a:Int):zL (Int) (Unit) (T0×zb×Bool):=cond (decide (a<(length e:Int))) ((idx e a).bind λd=>(im d).bind λb=>(HM b.1 l).bind λc=>(cond (decide (0<=c)) ((idx b.1.Methods c).bind λf=>some (ZY f)) (some false)).bind λi=>cond i ((idx b.1.Methods c).bind λj=>some (.inr (.inr (d,j,true)))) (some (.inl (i64.wrap (a+1))))) (some (.inr (.inl ())))
def km(a:T1)(c:T0):Option (T0×zb×Bool):=(zk (λz=>mB a c z) 0).bind λo=>zE o (λb=>mD) some
theorem e7(d:T1)(e:T0){r:T0×zb×Bool}(h:km d e=some r):VD 218 [.lit (.pointer none),tL d,sA e,.fn (.func 219) [] []] (.tup [sA r.1,.agg (zd r.2.1),bA r.2.2]):=by
 refine zi func218 y kz y y<|A ?_;refine ze<|A ?_;obtain⟨o,ho,h⟩:=bs h;refine F7 ho (λz=>[(0,.lit (.pointer none)),(2,sA e),(3,.fn (.func 219) [] []),(9,Vg),(16,tL d),(17,iA (length d:Int)),(18,iA z)]) (λz=>[Zf]) (λb=>[(9,Vg)]) (λb=>[Zf]) (pG f218 (λr=>.tup [sA r.1,.agg (zd r.2.1),bA r.2.2])) (z6 [0]) ?_ ?_
 .rintro v r h;refine A ?_;apply ze;apply Xa h y<;>intro i h
  .refine zc<|ze<|zg ?_;obtain⟨B,C,h⟩:=bs h;refine A ?_;obtain⟨m,D,h⟩:=bs h;refine A ?_;obtain⟨E,n,h⟩:=bs h;refine rg y<|u<|ld ti y y<|u<|mv y<|u<|pc (Ir m.1 e n) y y y<|u<|Lw y<|zx ?_;obtain⟨p,c,h⟩:=bs h;refine rg y<|u<|mv y<|u<|geq ti y y<|u<|mv y<|XV (x:=p) (j:=2) 7 y y y y y Lr (λa=>by replace c:=bT a c;obtain⟨q,f,c⟩:=bs c;obtain rfl:=sm c;exact g y a<|mv y<|g y a<|fa ti y y y<|g y a<|ld ti y y<|g y a<|mv y<|g y a<|Lp ti y ti y y y f<|g y a<|Lt ti y (zT f).2.2 y<|g y a<|pc (k8 q y) y y y<|zx (eg [34,35,36,37,38,39,40] 7 y y y y)) (λhb=>(sm (bF hb c)).symm)<|zx ?_;apply Xa h y<;>intro l h
   .obtain⟨s,F,h⟩:=bs h;refine Lc [(8,_),(9,_),(10,_)] [some (10,[(zd s)])] [7] Y2 [(8,_),(47,_),(46,_),(45,_),(44,_),(43,_),(42,_)] 1 (Xd (z:=by exact⟨(λ_ _=>⟨_,y,y,La ti y y y<|⟨.any,[8],[(10,_)],y,y,y,t,Xg (z:=z6 [0])⟩⟩),t⟩)) ?_;apply zA;cases h;exact⟨_,y,_,y,Xb []⟩
   refine zc<|A ?_;exact LC
  exact Lv
 rintro⟨⟩ rfl;refine zm<|A ?_;exact F4
instance :VF 218 [.lit (.pointer none),tL d,sA b,.fn (.func 219) [] []] (km d b) (λr=>(.tup [sA r.1,.agg (zd r.2.1),bA r.2.2])):=⟨λ_=>e7 d b⟩
def Pl(f:Option zu)(d:T0)(e:T0):Option (T0×zb×Bool):=ZG f ((ga d).bind λi=>(km i e).bind λb=>some (b.1,b.2.1,b.2.2)) (λa=>(Kz a.l a.at_ d).bind λj=>(Pr a.l a.at_ j e).bind λc=>some (c.1,c.2.1,c.2.2))
theorem ef(D:Option zu)(b:T0)(n:T0){r:T0×zb×Bool}(h:Pl D b n=some r):VD 124 [Xz 2 XX D,sA b,sA n] (.tup [sA r.1,.agg (zd r.2.1),bA r.2.2]):=by
 refine zi func124 y kz y y ?_;unfold Pl at h
 rcases D with _|a
 .replace h:=L9 h;refine A ?_;obtain⟨d,e,j,f,h⟩:=F6 h;refine rg y<|u<|mv y<|u<|mv y<|u<|mv y<|u<|pc (iw b e) y y y<|u<|mv y<|u<|pc (e7 d n f) y y y<|u<|ex y y<|u<|ex y y<|u<|ex y y<|u<|Lw y<|u<|La ti y y y<|u<|Lw y<|zx ?_;exact F4
 replace h:=L8 h;refine A ?_;obtain⟨c,i,m,o,h⟩:=F6 h;refine A ?_;refine u<|sx [] (GM i)<|zw (VC:=[(2,sA n),(7,Vg),(9,.ipt 2 [[cL a.l,mI a.at_]] 0 0),(12,.msl 1 0 (length c))]) (VJ:=[Zf,sT c]) (zl [0,1])<|u<|mv y<|zw (VC:=[(7,Vg),(9,.ipt 2 [[cL a.l,mI a.at_]] 0 0),(12,tL c),(13,sA n)]) (VJ:=[Zf]) (zl [0])<|A ?_;exact F4
instance :VF 124 [Xz 2 XX D,sA b,sA n] (Pl D b n) (λr=>(.tup [sA r.1,.agg (zd r.2.1),bA r.2.2])):=⟨λ_=>ef D b n⟩
def kT(a:T0)(b:Vr)(c:T2):Option (Bool):=(Du b c a).bind λd=>some d
instance :VF 192 [sA b,.ipt 1 [[.ipt 2 [[cL a,mI e]] 0 0]] 0 0] (kT b a e) bA:=⟨λr h=>by
 refine zi func192 y kz y y<|A ?_;obtain⟨c,d,h⟩:=bs h;refine A ?_
 exact F4⟩
def ki(a:T0)(b:Vr)(c:T2):Option (Bool):=(kT a b c).bind λd=>some (!d)
instance :VF 274 [sA b,.ipt 1 [[.fn (.func 192) [] [.ipt 1 [[.ipt 2 [[cL a,mI e]] 0 0]] 0 0]]] 0 0] (ki b a e) bA:=⟨λr h=>by
 refine zi func274 y kz y y<|A ?_;obtain⟨c,d,h⟩:=bs h;refine A ?_
 exact F4⟩
def jn:Option (Int):=some (-1)
def Cn(b:T1)(c:Vr)(d:T2)(a:Int):zL (Int) (Unit) (Int):=cond (decide (a<(length b:Int))) ((idx b a).bind λe=>(ki e c d).bind λf=>cond f (some (.inr (.inr a))) (some (.inl (i64.wrap (a+1))))) (some (.inr (.inl ())))
def gU(a:T1)(c:Vr)(d:T2):Option (Int):=(zk (λz=>Cn a c d z) 0).bind λo=>zE o (λb=>jn) some
instance :VF 181 [tL d,.fn (.func 274) [] [.ipt 1 [[.fn (.func 192) [] [.ipt 1 [[.ipt 2 [[cL a,mI e]] 0 0]] 0 0]]] 0 0]] (gU d a e) iA:=⟨λr h=>by
 refine zi func181 y kz y y<|A ?_;refine ze<|A ?_;obtain⟨o,ho,h⟩:=bs h;refine F7 ho (λz=>[(0,tL d),(1,.fn (.func 274) [] [.ipt 1 [[.fn (.func 192) [] [.ipt 1 [[.ipt 2 [[cL a,mI e]] 0 0]] 0 0]]] 0 0]),(7,iA (length d:Int)),(8,iA z)]) (λz=>[]) (λb=>[]) (λb=>[]) (pG f181 iA) (z6 []) ?_ ?_
 .rintro i r h;refine A ?_;apply ze;apply Xa h y<;>intro c h
  .refine zc<|ze<|zg<|A ?_;obtain⟨j,l,m,n,h⟩:=F6 h;refine A ?_;apply Xa h y<;>intro f h
   .refine A ?_;apply zA;cases h;exact⟨_,y,_,y,Xb []⟩
   refine zc<|A ?_;exact LB
  exact Ll
 rintro⟨⟩ rfl;refine zm<|A ?_
 exact F4⟩
def Cu(a:T1)(b:Vr)(c:T2):Option (Bool):=(gU a b c).bind λd=>some (decide (0<=d))
theorem jz(d:T1)(a:Vr)(e:T2)(h:Cu d a e=some r):VD 99 [tL d,.fn (.func 274) [] [.ipt 1 [[.fn (.func 192) [] [.ipt 1 [[.ipt 2 [[cL a,mI e]] 0 0]] 0 0]]] 0 0]] (bA r):=by refine zi func99 y kz y y<|A ?_;obtain⟨b,c,h⟩:=bs h;refine A ?_;exact F4
instance :VF 99 [tL d,.fn (.func 274) [] [.ipt 1 [[.fn (.func 192) [] [.ipt 1 [[.ipt 2 [[cL a,mI e]] 0 0]] 0 0]]] 0 0]] (Cu d a e) bA:=⟨λ_=>jz d a e⟩
def EB(a:T1)(b:Vr)(c:T2):Option (Bool):=(Cu a b c).bind λd=>some (!d)
theorem kG(d:T1)(a:Vr)(e:T2)(h:EB d a e=some r):VD 195 [tL d,.fn (.func 192) [] [.ipt 1 [[.ipt 2 [[cL a,mI e]] 0 0]] 0 0]] (bA r):=by refine zi func195 y kz y y<|A ?_;obtain⟨c,b,h⟩:=bs h;refine A ?_;refine u<|Lj (jz d a e b) y y (.cons (si y) (.cons (ZB t ⟨(XC y ⟨(si y),t⟩),t⟩) .nil)) Xx<|A ?_;exact F4
instance :VF 195 [tL d,.fn (.func 192) [] [.ipt 1 [[.ipt 2 [[cL a,mI e]] 0 0]] 0 0]] (EB d a e) bA:=⟨λ_=>kG d a e⟩
def iB(a:Vr)(b:T2)(c:T0)(d:zb)(e:T1)(f:T1)(i:Bool)(j:Bool):Unit:=()
theorem zD(a:Vr)(e:T2)(b:T0)(c:zb)(d:T1)(l:T1)(f:Bool)(C:Bool){r:Unit}(h:iB a e b c d l f C=r):VE 194 [Vg,bA C] (tV a e b c d l f []) (.tup []) (tV a e b c d l (f||(!C)) []):=by refine⟨⟨t,Xo (sz:=1) (λ_=>y),Xo (sz:=1) (λ_=>y),t⟩,zK func194 y kz y ?_⟩;unfold iB at h;refine A ?_;obtain rfl:=h;exact⟨_,y,Xb [0,1,2]⟩
def kS(a:T0)(b:Vr)(c:T2):Option (Bool):=(Dy b c a a).bind λd=>some d
instance :VF 197 [sA b,.ipt 1 [[.ipt 2 [[cL a,mI e]] 0 0]] 0 0] (kS b a e) bA:=⟨λr h=>by
 refine zi func197 y kz y y<|A ?_;obtain⟨d,c,h⟩:=bs h;refine rg y<|u<|ld ti y y<|u<|mv y<|u<|mv y<|u<|pc (MV c) y y y<|u<|Lw y<|zx ?_
 exact F4⟩
def kR(a:T0)(b:Vr)(c:T2):Option (Bool):=(kS a b c).bind λd=>some (!d)
instance :VF 274 [sA b,.ipt 1 [[.fn (.func 197) [] [.ipt 1 [[.ipt 2 [[cL a,mI e]] 0 0]] 0 0]]] 0 0] (kR b a e) bA:=⟨λr h=>by
 refine zi func274 y kz y y<|A ?_;obtain⟨c,d,h⟩:=bs h;refine A ?_
 exact F4⟩
def jm:Option (Int):=some (-1)
def Cm(b:T1)(c:Vr)(d:T2)(a:Int):zL (Int) (Unit) (Int):=cond (decide (a<(length b:Int))) ((idx b a).bind λe=>(kR e c d).bind λf=>cond f (some (.inr (.inr a))) (some (.inl (i64.wrap (a+1))))) (some (.inr (.inl ())))
def gT(a:T1)(c:Vr)(d:T2):Option (Int):=(zk (λz=>Cm a c d z) 0).bind λo=>zE o (λb=>jm) some
instance :VF 181 [tL d,.fn (.func 274) [] [.ipt 1 [[.fn (.func 197) [] [.ipt 1 [[.ipt 2 [[cL a,mI e]] 0 0]] 0 0]]] 0 0]] (gT d a e) iA:=⟨λr h=>by
 refine zi func181 y kz y y<|A ?_;refine ze<|A ?_;obtain⟨o,ho,h⟩:=bs h;refine F7 ho (λz=>[(0,tL d),(1,.fn (.func 274) [] [.ipt 1 [[.fn (.func 197) [] [.ipt 1 [[.ipt 2 [[cL a,mI e]] 0 0]] 0 0]]] 0 0]),(7,iA (length d:Int)),(8,iA z)]) (λz=>[]) (λb=>[]) (λb=>[]) (pG f181 iA) (z6 []) ?_ ?_
 .rintro i r h;refine A ?_;apply ze;apply Xa h y<;>intro c h
  .refine zc<|ze<|zg<|A ?_;obtain⟨j,l,m,n,h⟩:=F6 h;refine A ?_;apply Xa h y<;>intro f h
   .refine A ?_;apply zA;cases h;exact⟨_,y,_,y,Xb []⟩
   refine zc<|A ?_;exact LB
  exact Ll
 rintro⟨⟩ rfl;refine zm<|A ?_
 exact F4⟩
def Ct(a:T1)(b:Vr)(c:T2):Option (Bool):=(gT a b c).bind λd=>some (decide (0<=d))
theorem jy(d:T1)(a:Vr)(e:T2)(h:Ct d a e=some r):VD 99 [tL d,.fn (.func 274) [] [.ipt 1 [[.fn (.func 197) [] [.ipt 1 [[.ipt 2 [[cL a,mI e]] 0 0]] 0 0]]] 0 0]] (bA r):=by refine zi func99 y kz y y<|A ?_;obtain⟨b,c,h⟩:=bs h;refine A ?_;exact F4
instance :VF 99 [tL d,.fn (.func 274) [] [.ipt 1 [[.fn (.func 197) [] [.ipt 1 [[.ipt 2 [[cL a,mI e]] 0 0]] 0 0]]] 0 0]] (Ct d a e) bA:=⟨λ_=>jy d a e⟩
def Py(a:T1)(b:Vr)(c:T2):Option (Bool):=(Ct a b c).bind λd=>some (!d)
theorem eO(d:T1)(a:Vr)(e:T2)(h:Py d a e=some r):VD 195 [tL d,.fn (.func 197) [] [.ipt 1 [[.ipt 2 [[cL a,mI e]] 0 0]] 0 0]] (bA r):=by refine zi func195 y kz y y<|A ?_;obtain⟨c,b,h⟩:=bs h;refine A ?_;refine u<|Lj (jy d a e b) y y (.cons (si y) (.cons (ZB t ⟨(XC y ⟨(si y),t⟩),t⟩) .nil)) Xx<|A ?_;exact F4
instance :VF 195 [tL d,.fn (.func 197) [] [.ipt 1 [[.ipt 2 [[cL a,mI e]] 0 0]] 0 0]] (Py d a e) bA:=⟨λ_=>eO d a e⟩
def AU(a:zZ)(b:Int):Bool:=(a.At==b)
instance (U:zZ):VF 340 [.agg (zV U),.ipt 1 [[iA i]] 0 0] (some (AU U i)) bA:=.of λr h=>by
 refine zi func340 y kz y y ?_;unfold AU at h;refine A ?_;refine A ?_;apply zA;obtain rfl:=h;exact⟨_,y,Xb []⟩
def jd:Option (Int):=some (-1)
def Ch(b:Vy)(c:Int)(a:Int):zL (Int) (Unit) (Int):=cond (decide (a<(length b:Int))) ((idx b a).bind λd=>cond (AU d c) (some (.inr (.inr a))) (some (.inl (i64.wrap (a+1))))) (some (.inr (.inl ())))
def AZ(a:Vy)(c:Int):Option (Int):=(zk (λz=>Ch a c z) 0).bind λo=>zE o (λb=>jd) some
theorem jc(q:Vy)(i:Int){r:Int}(h:AZ q i=some r):VD 339 [.isl 3 (map zV q),.fn (.func 340) [] [.ipt 1 [[iA i]] 0 0]] (iA r):=by
 refine zi func339 y kz y y<|A ?_;refine ze<|A ?_;obtain⟨o,ho,h⟩:=bs h;refine F7 ho (λz=>[(0,.isl 3 (map zV q)),(1,.fn (.func 340) [] [.ipt 1 [[iA i]] 0 0]),(7,iA (length q:Int)),(8,iA z)]) (λz=>[]) (λb=>[]) (λb=>[]) (pG f339 iA) (z6 []) ?_ ?_
 .rintro d r h;refine A ?_;apply ze;apply Xa h y<;>intro a h
  .refine zc<|ze<|zg<|A ?_;obtain⟨e,f,h⟩:=bs h;refine A ?_;apply Xa h y<;>intro c h
   .refine A ?_;apply zA;cases h;exact⟨_,y,_,y,Xb []⟩
   refine zc<|A ?_;exact LB
  exact Ll
 rintro⟨⟩ rfl;refine zm<|A ?_;exact F4
instance :VF 339 [.isl 3 (map zV q),.fn (.func 340) [] [.ipt 1 [[iA i]] 0 0]] (AZ q i) iA:=⟨λ_=>jc q i⟩
def I7(e:Vr)(f:T2)(i:T0)(a:zb)(j:T1)(l:T1)(m:Bool)(d:Int):Option ((Option zZ)):=(AZ a.Maps d).bind λb=>cond (decide (b<0)) (some none) ((idx a.Maps b).bind λc=>some (some c))
theorem gv{r:(Option zZ)}(h:I7 a e b c d l f i=some r):VE 277 [Vg,iA i] (tV a e b c d l f []) (Xz 3 zV r) (tV a e b c d l f []):=by
 refine⟨⟨t,Xo (sz:=1) (λ_=>y),Xo (sz:=1) (λ_=>y),t⟩,zK func277 y kz y ?_⟩;refine A ?_;obtain⟨p,n,h⟩:=bs h;refine A ?_;refine u<|Lj (jc c.Maps i n) y y (.cons (si y) (.cons (ZB t ⟨(XC y ⟨(si y),t⟩),t⟩) .nil)) Xx<|A ?_;refine ze<|A ?_;apply Xa h y<;>intro j h
 .refine A ?_;exact MP
 apply zc;obtain⟨o,m,h⟩:=bs h;refine rg y<|u<|mv y<|u<|nc y y<|u<|fa ti y y y<|u<|fa ti y y y<|u<|ld ti y y<|u<|mv y<|u<|Lp ti y ti y y y m<|rN m<|u<|Lw y<|zx ?_;exact MP
def EF(b:Vr)(c:T2)(a:T0):Option (Bool):=(cond (!(a==[73])) ((Dy b c a a).bind λd=>some d) (some false)).bind λe=>some e
instance :VF 337 [.ipt 2 [[cL a,mI e]] 0 0,sA b] (EF a e b) bA:=⟨λr h=>by
 refine zi func337 y kz y y<|A ?_;obtain⟨f,d,h⟩:=bs h;refine rg y<|u<|mv y<|u<|MI ti y y<|u<|mv y<|XV (x:=f) (j:=2) 4 y y y y y Lr (λc=>by replace d:=bT c d;obtain⟨l,i,d⟩:=bs d;obtain rfl:=sm d;exact g y c<|mv y<|g y c<|mv y<|g y c<|mv y<|g y c<|pc (MV i) y y y<|zx (eg [8,9,10,11] 4 y y y y)) (λhb=>(sm (bF hb d)).symm)<|u<|Lw y<|zx ?_
 exact F4⟩
def Ws(a:Vr)(b:T2)(d:T0)(c:T0):Option (Bool):=(Du a b d).bind λm=>(cond (!m) (some true) ((Du a b c).bind λn=>some (!n))).bind λo=>cond o (some false) (cond ((c==[84])||(d==c)) (some true) (cond (d==[78]) ((EF a b c).bind λp=>some p) ((EF a b d).bind λq=>(cond (!q) (some true) ((EF a b c).bind λe=>some (!e))).bind λf=>cond f (some false) ((zI a b c).bind λi=>(cond i.1.Interface (some true) ((Dy a b d c).bind λj=>some j)).bind λl=>some l))))
theorem kX(a:Vr)(e:T2)(b:T0)(n:T0)(h:Ws a e b n=some r):VD 271 [.ipt 2 [[cL a,mI e]] 0 0,sA b,sA n] (bA r):=by
 refine zi func271 y kz y y<|A ?_;refine ze<|zg ?_;obtain⟨E,F,G,H,h⟩:=F6 h;refine A ?_;apply Xa h y<;>intro i h
 .refine A ?_;exact F4
 refine A ?_;apply Xa h y<;>intro l h;.refine A ?_;exact F4
 refine A ?_;apply Xa h y<;>intro m h;.obtain⟨I,J,h⟩:=bs h;refine A ?_;exact F4
 obtain⟨K,q,s,v,h⟩:=F6 h;refine A ?_;apply Xa h y<;>intro f h;.refine A ?_;exact F4
 apply zc;obtain⟨B,C,h⟩:=bs h;refine A ?_;obtain⟨o,d,h⟩:=bs h;refine rg y<|u<|fa ti y y y<|u<|ld ti y y<|u<|mv y<|Uj (x:=o) (j:=2) 4 y y y y y Lr (λc=>by replace d:=bF c d;obtain⟨D,p,d⟩:=bs d;obtain rfl:=sm d;exact g y c<|mv y<|g y c<|mv y<|g y c<|mv y<|g y c<|pc (MV p) y y y<|zx (eg [54,55,56,57] 4 y y y y)) (λhb=>(sm (bT hb d)).symm)<|u<|Lw y<|zx ?_;exact F4
instance :VF 271 [.ipt 2 [[cL a,mI e]] 0 0,sA b,sA n] (Ws a e b n) bA:=⟨λ_=>kX a e b n⟩
def mG:Option (Bool):=some true
def Is(f:Vr)(i:T2)(b:T1)(j:T1)(a:Int):zL (Int) (Unit) (Bool):=cond (decide (a<(length b:Int))) ((idx b a).bind λc=>(idx j a).bind λd=>(Ws f i c d).bind λe=>cond (!e) (some (.inr (.inr false))) (some (.inl (i64.wrap (a+1))))) (some (.inr (.inl ())))
def Pv(d:Vr)(e:T2)(a:T1)(c:T1):Option (Bool):=cond (!((length a:Int)==(length c:Int))) (some false) ((zk (λz=>Is d e a c z) 0).bind λo=>zE o (λb=>mG) some)
instance :VF 272 [.ipt 2 [[cL a,mI e]] 0 0,tL d,tL l] (Pv a e d l) bA:=⟨λr h=>by
 refine zi func272 y kz y y<|A ?_;refine ze<|A ?_;apply Xa h y<;>intro f h
 .refine A ?_;exact F4
 refine zc<|ze<|A ?_;obtain⟨o,ho,h⟩:=bs h;refine F7 ho (λz=>[(0,.ipt 2 [[cL a,mI e]] 0 0),(1,tL d),(2,tL l),(14,iA (length d:Int)),(15,iA z)]) (λz=>[]) (λb=>[]) (λb=>[]) (pG f272 bA) (z6 []) ?_ ?_
 .rintro q r h;refine A ?_;apply ze;apply Xa h y<;>intro i h
  .refine zc<|ze<|zg<|A ?_;obtain⟨j,s,m,v,n,p,h⟩:=LA h;refine Lc [(0,_),(1,_),(2,_),(14,_),(15,_),(28,_)] [] [] Y0 [(28,_),(27,_),(26,_),(25,_),(24,_),(23,_),(22,_),(21,_),(20,_),(19,_),(18,_)] 0 (Xg (z:=z6 [])) ?_;apply Xa h y<;>intro c h
   .refine A ?_;apply zA;cases h;exact⟨_,y,_,y,Xb []⟩
   refine zc<|A ?_;exact LB
  exact Ll
 rintro⟨⟩ rfl;refine zm<|A ?_
 exact F4⟩
variable {j:T0}{F:T1}{r:T1×Bool}
def Wr(a:Vr)(b:T2)(c:zZ)(d:T1)(e:T1):Option (Bool):=(Pv a b d c.Locals).bind λf=>(cond f ((Pv a b e c.Stack).bind λi=>some i) (some false)).bind λj=>some j
theorem kW(a:Vr)(e:T2)(U:zZ)(d:T1)(l:T1){r:Bool}(h:Wr a e U d l=some r):VD 273 [.ipt 2 [[cL a,mI e]] 0 0,.agg (zV U),tL d,tL l] (bA r):=by refine zi func273 y kz y y<|A ?_;obtain⟨b,c,f,i,h⟩:=F6 h;refine A ?_;exact F4
instance (U:zZ):VF 273 [.ipt 2 [[cL a,mI e]] 0 0,.agg (zV U),tL d,tL l] (Wr a e U d l) bA:=⟨λ_=>kW a e U d l⟩
def Ob(b:Vr)(c:T2)(j:T0)(l:zb)(d:T1)(e:T1)(a:Bool)(m:Int):Option (Bool):=(I7 b c j l d e a m).bind λn=>ZG n (some (a||(!false))) (λf=>(Wr b c f d e).bind λi=>some (a||(!i)))
theorem iX{r:Bool}(h:Ob a e j c d l f i=some r):VE 202 [Vg,iA i,.msl 2 0 (length l)] (tV a e j c d l f []) (.tup []) (tV a e j c d l r []):=by
 refine⟨⟨t,Xo (sz:=1) (λ_=>y),Xo (sz:=1) (λ_=>y),t⟩,zK func202 y kz y ?_⟩;obtain⟨n,p,h⟩:=bs h;refine A ?_;refine u<|sx [0,1,2] (gv p)<|dg dQ<|zw (VC:=[(0,Vg),(2,.msl 2 0 (length l)),(9,Xz 3 zV n)]) (VJ:=(sV a e j c d l f [])) (zl [0,1,2])<|A ?_
 rcases n with _|o
 .replace h:=L9 h;refine XA [] (sV a e j c d l (f||(!false)) []) [18] Y7 [(27,bA false),(26,Vq),(25,Vq),(24,Vq),(23,Vq),(22,Vq),(21,Vq),(20,Vq),(19,Vq),(18,Vq),(17,Vq),(16,Vq),(15,Vq),(14,Vq),(13,bA false),(12,bA false),(11,.lit (.pointer none)),(10,Vg)] 1 (Z1 ⟨pe,pe,pe,pe,pe,pe,pe,pe,pe,pe,pe,pe,pe,pe,pe,(pb y (Mt ti y y y y y y w)),pe,pe,t⟩ ⟨(λ_ _=>⟨_,y,y,sc [0,1,2] (args:=[Vg,bA false]) (zD a e j c d l f false y) y y y y ⟨(.mpt y),(Ln y),t⟩ ⟨⟨_,y,(Hd y ⟨(.msl y),(.msl y),(Ln y),t⟩)⟩,⟨y,LD (λ_=>y)⟩,⟨y,LD (λ_=>y)⟩,t⟩<|⟨(.tup []),[],[(28,.tup [])],y,y,kz,y,U5 ⟨pe,pe,pe,pe,pe,pe,pe,pe,pe,pe,pe,pe,pe,pe,pe,(pb y (Mt ti y y y y y y w)),pe,pe,t⟩ (zl [0,1,2])⟩⟩),t⟩) ?_;cases h;exact⟨_,y,Xb [0,1,2]⟩
 replace h:=L8 h;obtain⟨m,q,h⟩:=bs h;refine XA [] (sV a e j c d l (f||(!m)) []) [18] Y3 [(27,_),(26,_),(25,_),(24,_),(23,_),(22,_),(21,_),(20,_),(19,_),(18,_),(17,_),(16,_),(15,_),(14,_),(13,_),(12,_),(11,_),(10,_)] 1 (Xd ⟨F1,F1,F1,F1,F1,F1,F1,F1,F1,F1,F1,F1,F1,F1,F1,F1,(by exact λ_=>Le (b:=true) y y y y y y (Lj (kW a e o d l q) y y (.cons (si y) (.cons (si y) (.cons (XU y (λ_=>y)) (.cons (XU y (λ_=>y)) .nil)))) Xx<|w)),F1,t⟩ (by exact⟨(λ_ _=>⟨_,y,y,sc [0,1,2] (args:=[Vg,bA m]) (zD a e j c d l f m y) y y y y ⟨(.mpt y),(Ln y),t⟩ ⟨⟨_,y,(Hd y ⟨(.msl y),(.msl y),(Ln y),t⟩)⟩,⟨y,LD (λ_=>y)⟩,⟨y,LD (λ_=>y)⟩,t⟩<|⟨(.tup []),[],[(28,_)],y,y,y,y,Xg (z:=z6 [0,1,2])⟩⟩),t⟩)) ?_;cases h;exact⟨_,y,Xb [0,1,2]⟩
def KL(a:T1):Option T1:=Xu 16 ([]:T1) a
theorem Ex{r:T1}(h:KL d=some r):VE 130 [tL d] [] (.msl 0 0 (length r)) [.many 1 (map Xe r)]:=by
 refine⟨⟨Xo (sz:=1) (λ_=>y),t⟩,zK func130 y kz y ?_⟩;unfold KL at h;refine A ?_;apply ze;refine rg y<|u<|mv y<|rR ti y y y<|And.intro ?_ ?_
 · intro hl;apply zx;subst hl
   obtain rfl:[]=r:=by simpa[Xu]using h
   refine UC y (λ_=>?_) (λhx=>by cases hx);refine A ?_;apply zA;exact⟨_,y,[.fresh 1],.nilown y,y,⟨w,t⟩,y,k⟩
 · apply zx;refine UC y (λhx=>by cases hx) (λ_=>?_);refine zc<|A ?_;refine u<|Lo (l:=([]:T1)) (f:=Xe) 1 ti y ti y y YB ti y y y y Mc (λ_=>y) y h<|A ?_;apply zA;exact⟨_,y,Xb [1]⟩
def Oy(b:(Option zZ))(c:Bool):Option (T1×T1×Bool):=ZG b (none) (λa=>(KL a.Locals).bind λd=>(KL a.Stack).bind λe=>some (d,e,c))
def Av(e:Vr)(f:T2)(i:T0)(j:zb)(c:T1)(d:T1)(b:Bool)(l:Int)(m:Bool):Option (T1×T1×Bool):=(I7 e f i j c d b l).bind λa=>cond (Option.isNone a) (some (c,d,(b||(!m)))) (cond m ((Ob e f i j c d b l).bind λn=>Oy a n) (Oy a b))
theorem rk{r:T1×T1×Bool}(h:Av a e b c d l f i C=some r):VE 198 [Vg,iA i,bA C] (tV a e b c d l f []) (.tup []) [.one 15 (vK a e b c (.msl 3 0 (length r.1)) (.msl 4 0 (length r.2.1)) (bA r.2.2)),.no,.no,.many 1 (map Xe r.1),.many 1 (map Xe r.2.1)]:=by
 refine⟨⟨t,t,t,Xo (sz:=1) (λ_=>y),Xo (sz:=1) (λ_=>y),t⟩,zK func198 y kz y ?_⟩;obtain⟨j,x,h⟩:=bs h;refine A ?_;refine u<|sx [0,1,2] (gv x)<|dg dQ<|zw (VC:=[(0,Vg),(1,iA i),(2,bA C),(9,Xz 3 zV j)]) (VJ:=(sV a e b c d l f [])) (zl [0,1,2])<|A ?_;apply ze;refine rg y<|u<|mv y<|u<|qj ti y y y<|zx ?_;apply Xa h y<;>intro s h
 .refine A ?_;refine u<|sx [0,1,2] (zD a e b c d l f C y)<|zw (VC:=[]) (VJ:=(sV a e b c d l (f||(!C)) [])) (zl [0,1,2])<|zx ?_;apply zA;cases h;exact⟨_,y,Kl [0,.dead,.dead,1,2]⟩
 apply zc;refine zY (X:=Bool) (λz=>[(0,Vg),(6,Xz 3 zV j)]) (λz=>(sV a e b c d l z [])) (λz=>Oy j z=some r) ?_ ?_
 .refine A ?_;apply Xa h y<;>intro v h;.obtain⟨o,B,h⟩:=bs h;refine A ?_;exact u<|sx [0,1,2] (iX B)<|zw (VC:=[(0,Vg),(6,Xz 3 zV j)]) (VJ:=(sV a e b c d l o [])) (zl [0,1,2])<|zx (⟨o,h,zl [0,1,2]⟩)
  apply zc;exact⟨f,h,zl [0,1,2]⟩
 rintro p h;replace h:Oy j p=some r:=h;unfold Oy at h
 rcases j with _|q
 .replace h:=L9 h;cases h
 replace h:=L8 h;obtain⟨m,D,n,E,h⟩:=F6 h;refine XA [] [some (15,[(vK a e b c (.msl 3 0 (length m)) (.msl 4 0 (length n)) (bA p))]),sT d,sT l,sT m,sT n] [6,11,14,17] [0,1,2,3,4,5,7,8,9,10] [(33,_),(32,_),(31,_),(30,_),(28,_),(27,_),(26,_),(25,_),(24,_),(23,_)] 4 (Xd (z:=by exact⟨(λ_ _=>⟨_,y,y,sx [] (Ex D)<|⟨(.msl 3 0 (length m)),[],[(29,_)],y,y,y,y,Xd (z:=by exact⟨nv,(λ_ _=>⟨_,y,y,sx [] (Ex E)<|⟨(.msl 4 0 (length n)),[12,13],[(36,_),(35,_),(34,_)],y,y,y,y,Xd (z:=by exact⟨nv,nv,(λ_ _=>⟨_,y,y,La ti y y y<|⟨.any,[15,16],[(38,_),(37,_)],y,y,y,t,Xd (z:=by exact⟨nv,nv,nv,(λ_ _=>⟨_,y,y,La ti y y y<|⟨.any,[],[],y,y,y,t,Xg (z:=z6 [0,1,2,3,4])⟩⟩),t⟩)⟩⟩),nw,t⟩)⟩⟩),nw,nw,t⟩)⟩⟩),nw,nw,nw,t⟩)) ?_;cases h;exact⟨_,y,Xb [0,.dead,.dead,3,4]⟩
def AM(b:Vr)(c:T2)(j:T0)(l:zb)(d:T1)(m:T1)(a:Bool)(n:Int)(o:T1):Option (Bool):=(I7 b c j l d m a n).bind λe=>ZG e (some (a||(!false))) (λf=>(Wr b c f d o).bind λi=>some (a||(!i)))
theorem ro{r:Bool}(h:AM a e j c d l f i F=some r):VE 202 [Vg,iA i,.msl 3 0 (length F)] (tV a e j c d l f [.many 1 (map Xe F)]) (.tup []) (tV a e j c d l r [.many 1 (map Xe F)]):=by
 refine⟨⟨t,Xo (sz:=1) (λ_=>y),Xo (sz:=1) (λ_=>y),Xo (sz:=1) (λ_=>y),t⟩,zK func202 y kz y ?_⟩;obtain⟨n,p,h⟩:=bs h;refine A ?_;refine u<|sx [0,1,2] (gv p)<|dg dQ<|zw (VC:=[(0,Vg),(2,.msl 3 0 (length F)),(9,Xz 3 zV n)]) (VJ:=(sV a e j c d l f [sT F])) (zl [0,1,2,3])<|A ?_
 rcases n with _|o
 .replace h:=L9 h;refine XA [] (sV a e j c d l (f||(!false)) [sT F]) [18] Y7 [(27,bA false),(26,Vq),(25,Vq),(24,Vq),(23,Vq),(22,Vq),(21,Vq),(20,Vq),(19,Vq),(18,Vq),(17,Vq),(16,Vq),(15,Vq),(14,Vq),(13,bA false),(12,bA false),(11,.lit (.pointer none)),(10,Vg)] 1 (Z1 ⟨pe,pe,pe,pe,pe,pe,pe,pe,pe,pe,pe,pe,pe,pe,pe,(pb y (Mt ti y y y y y y w)),pe,pe,t⟩ ⟨(λ_ _=>⟨_,y,y,sc [0,1,2] (args:=[Vg,bA false]) (zD a e j c d l f false y) y y y y ⟨(.mpt y),(Ln y),t⟩ ⟨⟨_,y,(Hd y ⟨(.msl y),(.msl y),(Ln y),t⟩)⟩,⟨y,LD (λ_=>y)⟩,⟨y,LD (λ_=>y)⟩,t⟩<|⟨(.tup []),[],[(28,.tup [])],y,y,kz,y,U5 ⟨pe,pe,pe,pe,pe,pe,pe,pe,pe,pe,pe,pe,pe,pe,pe,(pb y (Mt ti y y y y y y w)),pe,pe,t⟩ (zl [0,1,2,3])⟩⟩),t⟩) ?_;cases h;exact⟨_,y,Xb [0,1,2,3]⟩
 replace h:=L8 h;obtain⟨m,q,h⟩:=bs h;refine XA [] (sV a e j c d l (f||(!m)) [sT F]) [18] Y3 [(27,_),(26,_),(25,_),(24,_),(23,_),(22,_),(21,_),(20,_),(19,_),(18,_),(17,_),(16,_),(15,_),(14,_),(13,_),(12,_),(11,_),(10,_)] 1 (Xd ⟨F1,F1,F1,F1,F1,F1,F1,F1,F1,F1,F1,F1,F1,F1,F1,F1,(by exact λ_=>Le (b:=true) y y y y y y (Lj (kW a e o d F q) y y (.cons (si y) (.cons (si y) (.cons (XU y (λ_=>y)) (.cons (XU y (λ_=>y)) .nil)))) Xx<|w)),F1,t⟩ (by exact⟨(λ_ _=>⟨_,y,y,sc [0,1,2] (args:=[Vg,bA m]) (zD a e j c d l f m y) y y y y ⟨(.mpt y),(Ln y),t⟩ ⟨⟨_,y,(Hd y ⟨(.msl y),(.msl y),(Ln y),t⟩)⟩,⟨y,LD (λ_=>y)⟩,⟨y,LD (λ_=>y)⟩,t⟩<|⟨(.tup []),[],[(28,_)],y,y,y,y,Xg (z:=z6 [0,1,2,3])⟩⟩),t⟩)) ?_;cases h;exact⟨_,y,Xb [0,1,2,3]⟩
def rh(a:Bool):Option (Bool):=some a
def AX(a:Int)(b:Bool):zL (Bool×Int) (Bool) (Bool):=some (.inl (b,(i64.wrap (a+1))))
def Rj(f:Vr)(i:T2)(m:T0)(n:zb)(o:T1)(p:T1)(j:Int)(b:Bool)(c:Int)(a:zU)(d:T0):zL (Bool×Int) (Bool) (Bool):=(Dy f i d [84,104,114,111,119,110]).bind λe=>cond ((decide (a.From<=j))&&(decide (j<a.To))) ((AM f i m n o p (b||(!e)) a.At [d]).bind λl=>AX c l) (AX c (b||(!e)))
def MZ(e:Vr)(f:T2)(i:T0)(d:zb)(j:T1)(l:T1)(m:Int)(c:Bool)(a:Int):zL (Bool×Int) (Bool) (Bool):=cond (decide (a<(length d.Traps:Int))) ((idx d.Traps a).bind λb=>cond (b.C==[]) (Rj e f i d j l m c a b [84,104,114,111,119,110]) (Rj e f i d j l m c a b b.C)) (some (.inr (.inl c)))
def MT(a:Vr)(c:T2)(d:T0)(e:zb)(f:T1)(i:T1)(j:Bool)(l:Int):Option (Bool):=(zk (λz=>MZ a c d e f i l z.1 z.2) (j,0)).bind λo=>zE o (λb=>rh b) some
theorem rf{r:Bool}(h:MT a e j c d l f i=some r):VE 199 [Vg,iA i] (tV a e j c d l f []) (.tup []) (tV a e j c d l r []):=by
 refine⟨⟨t,Xo (sz:=1) (λ_=>y),Xo (sz:=1) (λ_=>y),t⟩,zK func199 y kz y ?_⟩;refine A ?_;obtain⟨o,ho,h⟩:=bs h;refine F7 ho (λz=>[(0,Vg),(1,iA i),(11,.isl 4 (map XF c.Traps)),(12,iA (length c.Traps:Int)),(13,iA z.2)]) (λz=>(sV a e j c d l z.1 [])) (λb=>[]) (λb=>(sV a e j c d l b [])) (λr env st=>Uy prog f199 3 (.tup []) (sV a e j c d l r []) env st) (z6 [0,1,2]) ?_ ?_
 .rintro⟨m,n⟩ r h;refine A ?_;apply ze;apply Xa h y<;>intro D h
  .apply zc;refine zY (X:=Bool) (λz=>[(0,Vg),(1,iA i),(11,.isl 4 (map XF c.Traps)),(12,iA (length c.Traps:Int)),(13,iA n)]) (λz=>(sV a e j c d l z [])) (λz=>AX n z=some r) ?_ ?_
   .apply zg;obtain⟨p,I,h⟩:=bs h;refine A ?_;refine A ?_;refine zY (X:=T0) (λz=>[(0,Vg),(1,iA i),(5,Vk),(6,sA z),(11,.isl 4 (map XF c.Traps)),(12,iA (length c.Traps:Int)),(13,iA n)]) (λz=>(sV a e j c d l m [some (4,[(XF p)])])) (λz=>Rj a e j c d l i m n p z=some r) ?_ ?_
    .refine A ?_;apply Xa h y<;>intro x h;.refine A ?_;exact(⟨[84,104,114,111,119,110],h,zl [0,1,2,3]⟩)
     apply zc;exact⟨p.C,h,zl [0,1,2,3]⟩
    rintro s h;obtain⟨q,E,h⟩:=bs h;refine rg y<|u<|mv y<|u<|mv y<|u<|nc y y<|u<|fa ti y y y<|u<|ld ti y y<|u<|mv y<|u<|pc (MV E) y y y<|u<|sx [0,1,2] (zD a e j c d l m q y)<|zw (VC:=[(0,Vg),(1,iA i),(5,Vk),(6,sA s),(11,.isl 4 (map XF c.Traps)),(12,iA (length c.Traps:Int)),(13,iA n)]) (VJ:=(sV a e j c d l (m||(!q)) [some (4,[(XF p)])])) (zl [0,1,2,3])<|zx ?_;refine A ?_;apply Xa h y<;>intro B h
    .obtain⟨v,F,h⟩:=bs h;refine A ?_;exact u<|sx [0,1,2,4] (ro F)<|zw (VC:=[(0,Vg),(1,iA i),(11,.isl 4 (map XF c.Traps)),(12,iA (length c.Traps:Int)),(13,iA n)]) (VJ:=(sV a e j c d l v [])) (zl [0,1,2])<|zx (⟨v,h,zl [0,1,2]⟩)
    apply zc;exact⟨(m||(!q)),h,zl [0,1,2]⟩
   rintro G h;refine A ?_;exact Mh
  apply zr;cases h;exact⟨y,_,y,zl [0,1,2]⟩
 rintro H rfl;apply zm;cases h;exact⟨_,y,Xb [0,1,2]⟩
def U4(a:Int)(b:Int)(c:Int):Bool:=((decide (b<=a))&&(decide (a<=c)))
instance (V:Int):VF 278 [iA i,iA E,iA V] (some (U4 i E V)) bA:=.of λr h=>by
 refine zi func278 y kz y y ?_;unfold U4 at h;refine A ?_;refine A ?_;apply zA;obtain rfl:=h;exact⟨_,y,Xb []⟩
def zN(d:Vr)(e:T2)(f:T0)(i:zb)(j:T1)(a:T1)(l:Bool)(b:T0):Option (T1):=(Xu 16 a [b]).bind λc=>some c
theorem zJ{i:Bool}{r:T1}(h:zN a e b c d l i n=some r):VE 281 [Vg,sA n] (tV a e b c d l i []) (.tup []) (tU a e b c d r i []):=by refine⟨⟨t,Xo (sz:=1) (λ_=>y),t,Xo (sz:=1) (λ_=>y),t⟩,zK func281 y kz y ?_⟩;obtain⟨m,j,h⟩:=bs h;refine A ?_;refine u<|Lo 4 ti y ti y y YB ti y y y y (Lx (f:=Xe) (z:=[n]) y y) (λ_=>y) y j<|A ?_;cases h;exact⟨_,y,Xb [0,1,.dead,4]⟩
def KZ(e:Vr)(f:T2)(i:T0)(j:zb)(l:T1)(a:T1)(b:Bool):Option (T0×T1×Bool):=cond (((length a):Int)==0) (some ([84],a,true)) ((idx a (i64.wrap (((length a):Int)-1))).bind λc=>(XR a 0 (i64.wrap (((length a):Int)-1))).bind λd=>some (c,d,b))
theorem HU{m:zb}{i:T1}{n:Bool}{r:T0×T1×Bool}(h:KZ a e j m d i n=some r):VE 341 [Vg] (tV a e j m d i n []) (sA r.1) (tV a e j m d r.2.1 r.2.2 []):=by
 refine⟨⟨t,Xo (sz:=1) (λ_=>y),Xo (sz:=1) (λ_=>y),t⟩,zK func341 y kz y ?_⟩;refine A ?_;refine ze<|A ?_;apply Xa h y<;>intro p h
 .refine A ?_;refine A ?_;exact MP
 apply zc;obtain⟨s,v,h⟩:=bs h;refine Lc [(0,_),(3,_)] (sV a e j m d i n []) [] Y8 [(3,_),(24,_),(23,_),(22,_),(21,_),(20,_),(19,_),(18,_),(17,_),(16,_),(15,_),(14,_),(13,_)] 0 (Xg (z:=z6 [0,1,2])) ?_;obtain⟨q,o,h⟩:=bs h;refine Lc [(3,_)] [some (15,[(vK a e j m (.msl 1 0 (length d)) (.msl 2 0 (length q)) (bA n))]),sT d,sT i] [14] Y9 [(38,_),(37,_),(36,_),(35,_),(34,_),(33,_),(32,_),(31,_),(30,_),(29,_),(28,_),(27,_),(26,_),(25,_)] 1 (Xd ⟨F1,F1,F1,F1,F1,F1,F1,F1,F1,F1,F1,(by exact pb y (slM (l:=i) (c:=(i64.wrap (((length i):Int)-1))) ti y ti y y y (H8 y o) o<|w)),F1,F1,t⟩ (by exact⟨(λ_ _=>⟨_,y,y,La ti y y y<|⟨.any,[],[],y,y,y,t,Xg (z:=z6 [0,1,2])⟩⟩),t⟩)) ?_;refine rP (b:=2) (l:=i) (f:=Xe) (c:=(i64.wrap (((length i):Int)-1))) y y o ?_;refine A ?_;exact MP
def Or(i:Vr)(j:T2)(l:T0)(m:zb)(a:T1)(b:T1)(c:Bool)(n:zp)(d:Bool):Option (T1×T1×Bool):=cond d (some (a,b,true)) ((idx a n.A).bind λe=>(zN i j l m a b c e).bind λf=>some (a,f,c))
def HQ(c:Vr)(d:T2)(e:T0)(f:zb)(a:T1)(l:T1)(i:Bool)(b:zp):Option (T1×T1×Bool):=cond (b.Op==1) ((zN c d e f a l i [73]).bind λE=>some (a,E,i)) (cond (b.Op==2) ((zN c d e f a l i [78]).bind λs=>some (a,s,i)) (cond (b.Op==3) (cond (decide (((length a):Int)<=b.A)) (Or c d e f a l i b true) ((idx a b.A).bind λv=>Or c d e f a l i b (v==[84]))) (cond (b.Op==4) ((KZ c d e f a l i).bind λn=>cond (decide (((length a):Int)<=b.A)) (some (a,n.2.1,true)) ((KL a).bind λp=>(idx p b.A).bind λF=>some ((List.set p (Int.toNat b.A) n.1),n.2.1,n.2.2))) (cond (b.Op==5) ((KZ c d e f a l i).bind λq=>some (a,q.2.1,q.2.2)) (cond (b.Op==6) ((KZ c d e f a l i).bind λj=>(zN c d e f a j.2.1 j.2.2 j.1).bind λx=>(zN c d e f a x j.2.2 j.1).bind λB=>some (a,B,j.2.2)) (cond (b.Op==7) ((KZ c d e f a l i).bind λo=>(KZ c d e f a o.2.1 o.2.2).bind λm=>(zN c d e f a m.2.1 m.2.2 o.1).bind λC=>(zN c d e f a C m.2.2 m.1).bind λD=>some (a,D,m.2.2)) (some (a,l,i))))))))
theorem pN{B:zp}{r:T1×T1×Bool}(h:HQ a e b c d l f B=some r):VE 279 [Vg,.agg (zs B)] (tV a e b c d l f []) (.tup []) [.one 15 (vK a e b c (.msl 3 0 (length r.1)) (.msl 4 0 (length r.2.1)) (bA r.2.2)),.no,.no,.many 1 (map Xe r.1),.many 1 (map Xe r.2.1)]:=by
 refine⟨⟨t,t,t,Xo (sz:=1) (λ_=>y),Xo (sz:=1) (λ_=>y),t⟩,zK func279 y kz y ?_⟩;refine A ?_;refine A ?_;refine zg<|A ?_;apply Xa h y<;>intro G h
 .obtain⟨v9,q2,h⟩:=bs h;refine rl y<|u<|mv y<|u<|sx [0,1,2] (zJ q2)<|zw (VC:=[]) (VJ:=(sU a e b c d v9 f [])) (zl [0,1,.dead,4])<|zx ?_;cases h;exact⟨_,y,Xb [0,.dead,.dead,1,3]⟩
 refine A ?_;apply Xa h y<;>intro H h;.obtain⟨I,q4,h⟩:=bs h;refine rl y<|u<|mv y<|u<|sx [0,1,2] (zJ q4)<|zw (VC:=[]) (VJ:=(sU a e b c d I f [])) (zl [0,1,.dead,4])<|zx ?_;cases h;exact⟨_,y,Xb [0,.dead,.dead,1,3]⟩
 refine A ?_;apply Xa h y<;>intro J h
 .apply ze;refine zY (X:=Bool) (λz=>[(0,Vg),(3,Vk),(38,bA z)]) (λz=>(sV a e b c d l f [some (4,[(zs B)])])) (λz=>Or a e b c d l f B z=some r) ?_ ?_
  .rcases bb (decide (((length d):Int)<=B.A))with p|p
   .replace h:=bT p h;exact LU [] Y6 [(38,_),(37,_),(36,_),(35,_),(34,_),(33,_),(32,_),(31,_),(30,_),(29,_),(28,_),(27,_),(26,_),(25,_),(24,_),(23,_),(22,_),(21,_),(20,_)] 0 (Xg (z:=by exact⟨true,h,z6 [0,1,2,3]⟩))
   replace h:=bF p h;obtain⟨K,q7,h⟩:=bs h;exact LU [] Y6 [(38,_),(37,_),(36,_),(35,_),(34,_),(33,_),(32,_),(31,_),(30,_),(29,_),(28,_),(27,_),(26,_),(25,_),(24,_),(23,_),(22,_),(21,_),(20,_)] 0 (Xg (z:=by exact⟨(K==[84]),h,z6 [0,1,2,3]⟩))
  rintro v12 h;apply Xa h y<;>intro L h;.refine A ?_;apply zA;cases h;exact⟨_,y,Kl [0,.dead,.dead,1,2]⟩
  apply zc;obtain⟨M,q9,N,O,h⟩:=F6 h;refine XA [] (sU a e b c d N f []) [9] Y1 [(50,_),(49,_),(48,_),(47,_),(46,_),(45,_),(44,_),(43,_),(42,_)] 1 (Xd (z:=by exact⟨(λ_ _=>⟨_,y,y,sx [0,1,2] (zJ O)<|⟨(.tup []),[],[(51,_)],y,y,y,y,Xg (z:=z6 [0,1,.dead,4])⟩⟩),t⟩)) ?_;cases h;exact⟨_,y,Xb [0,.dead,.dead,1,3]⟩
 refine A ?_;apply Xa h y<;>intro x h
 .obtain⟨i,P,h⟩:=bs h;refine rg y<|u<|mv y<|u<|sx [0,1,2] (HU P)<|zw (VC:=[(0,Vg),(3,Vk),(55,sA i.1)]) (VJ:=(sV a e b c d i.2.1 i.2.2 [some (4,[(zs B)])])) (zl [0,1,2,3])<|A ?_;apply ze;refine Lc [(0,_),(3,_),(4,_),(63,_)] (sV a e b c d i.2.1 i.2.2 [some (4,[(zs B)])]) [] YU [(63,_),(62,_),(61,_),(60,_),(59,_),(58,_),(57,_),(56,_)] 0 (Xg (z:=z6 [0,1,2,3])) ?_;apply Xa h y<;>intro C h
  .refine A ?_;apply zA;cases h;exact⟨_,y,Kl [0,.dead,.dead,1,2]⟩
  apply zc;obtain⟨o,Q,h⟩:=bs h;refine A ?_;refine zw (VC:=[(0,Vg),(3,Vk),(4,sA i.1),(67,Vg),(71,tL d)]) (VJ:=[some (15,[(vK a e b c (tL d) (.msl 2 0 (length i.2.1)) (bA i.2.2))]),none,sT i.2.1,some (4,[(zs B)])]) (zl [0,.dead,2,3])<|u<|sx [] (Ex Q)<|zw (VC:=[(0,Vg),(3,Vk),(4,sA i.1),(67,Vg),(72,.msl 4 0 (length o))]) (VJ:=[some (15,[(vK a e b c (tL d) (.msl 2 0 (length i.2.1)) (bA i.2.2))]),none,sT i.2.1,some (4,[(zs B)]),sT o]) (zl [0,.dead,2,3,4])<|A ?_;obtain⟨v17,R,h⟩:=bs h;refine XA [] [some (15,[(vK a e b c (.msl 3 0 (length (List.set o (Int.toNat B.A) i.1))) (.msl 2 0 (length i.2.1)) (bA i.2.2))]),none,sT i.2.1,sT (List.set o (Int.toNat B.A) i.1)] [8] YU [(82,_),(81,_),(80,_),(79,_),(78,_),(77,_),(76,_),(75,_)] 1 (Xd (z:=by exact⟨(λ_ _=>⟨_,y,y,W4 (c':=i.1) ti y y (zT R).2.2 y y y y y<|⟨.any,[],[],y,y,y,t,Xg (z:=by exact⟨[0,.dead,2,4],cn,y,⟨⟨_,y,XN (RE y (by exact⟨HX (by simp) y,.msl y,ci y,t⟩))⟩,⟨_,y,XL (λ_=>y)⟩,⟨_,y,XL (λ_=>y)⟩,t⟩,y,k⟩)⟩⟩),t⟩)) ?_;cases h;exact⟨_,y,Xb [0,.dead,.dead,3,2]⟩
 refine A ?_;apply Xa h y<;>intro D h;.obtain⟨q,S,h⟩:=bs h;refine rl y<|u<|mv y<|u<|sx [0,1,2] (HU S)<|zw (VC:=[]) (VJ:=(sV a e b c d q.2.1 q.2.2 [])) (zl [0,1,2])<|zx ?_;cases h;exact⟨_,y,Xb [0,.dead,.dead,1,2]⟩
 refine A ?_;apply Xa h y<;>intro E h;.obtain⟨j,T,h⟩:=bs h;refine rg y<|u<|mv y<|u<|sx [0,1,2] (HU T)<|zw (VC:=[(0,Vg),(90,sA j.1)]) (VJ:=(sV a e b c d j.2.1 j.2.2 [])) (zl [0,1,2])<|A ?_;obtain⟨s,U,h⟩:=bs h;refine rg y<|u<|mv y<|u<|mv y<|u<|sx [0,1,2] (zJ U)<|zw (VC:=[(0,Vg),(5,sA j.1)]) (VJ:=(sU a e b c d s j.2.2 [])) (zl [0,1,.dead,3])<|zx ?_;obtain⟨V,W,h⟩:=bs h;refine rl y<|u<|mv y<|u<|mv y<|u<|sx [0,1,3] (zJ W)<|zw (VC:=[]) (VJ:=(sU a e b c d V j.2.2 [])) (zl [0,1,.dead,4])<|zx ?_;cases h;exact⟨_,y,Xb [0,.dead,.dead,1,3]⟩
 refine A ?_;apply Xa h y<;>intro F h;.obtain⟨n,Y,m,Z,h⟩:=F6 h;refine rg y<|u<|mv y<|u<|sx [0,1,2] (HU Y)<|zw (VC:=[(0,Vg),(100,sA n.1)]) (VJ:=(sV a e b c d n.2.1 n.2.2 [])) (zl [0,1,2])<|u<|mv y<|u<|sx [0,1,2] (HU Z)<|zw (VC:=[(0,Vg),(100,sA n.1),(102,sA m.1)]) (VJ:=(sV a e b c d m.2.1 m.2.2 [])) (zl [0,1,2])<|A ?_;obtain⟨v,q25,h⟩:=bs h;refine rg y<|u<|mv y<|u<|mv y<|u<|sx [0,1,2] (zJ q25)<|zw (VC:=[(0,Vg),(7,sA m.1)]) (VJ:=(sU a e b c d v m.2.2 [])) (zl [0,1,.dead,3])<|zx ?_;obtain⟨v25,q26,h⟩:=bs h;refine rl y<|u<|mv y<|u<|mv y<|u<|sx [0,1,3] (zJ q26)<|zw (VC:=[]) (VJ:=(sU a e b c d v25 m.2.2 [])) (zl [0,1,.dead,4])<|zx ?_;cases h;exact⟨_,y,Xb [0,.dead,.dead,1,3]⟩
 apply zc;cases h;exact⟨_,y,Xb [0,.dead,.dead,1,2]⟩
def pL(a:T1)(b:Bool):Option (T1×Bool):=some (a,b)
def DC(e:Vr)(f:T2)(l:T0)(m:zb)(n:T1)(o:T1)(c:T1)(d:Bool)(a:Int):zL (T1×Bool×Int) (T1×Bool) (T1×Bool):=cond (decide (0<=a)) ((idx o a).bind λi=>(KZ e f l m n c d).bind λb=>(Ws e f b.1 i).bind λj=>some (.inl (b.2.1,(b.2.2||(!j)),(i64.wrap (a-1))))) (some (.inr (.inl (c,d))))
def zQ(c:Vr)(d:T2)(e:T0)(f:zb)(i:T1)(j:T1)(l:Bool)(a:T1):Option (T1×Bool):=(zk (λz=>DC c d e f i a z.1 z.2.1 z.2.2) (j,l,(i64.wrap ((length a:Int)-1)))).bind λo=>zE o (λb=>pL b.1 b.2) some
theorem zP{i:T0}(h:zQ a e i c d l f F=some r):VE 280 [Vg,tL F] (tV a e i c d l f []) (.tup []) (tV a e i c d r.1 r.2 []):=by
 refine⟨⟨t,Xo (sz:=1) (λ_=>y),Xo (sz:=1) (λ_=>y),t⟩,zK func280 y kz y ?_⟩;refine A ?_;obtain⟨o,ho,h⟩:=bs h;refine F7 ho (λz=>[(0,Vg),(1,tL F),(4,iA z.2.2)]) (λz=>(sV a e i c d z.1 z.2.1 [])) (λb=>[]) (λb=>(sV a e i c d b.1 b.2 [])) (λr env st=>Uy prog f280 3 (.tup []) (sV a e i c d r.1 r.2 []) env st) (z6 [0,1,2]) ?_ ?_
 .rintro⟨n,p,v⟩ r h;refine ze<|A ?_;apply Xa h y<;>intro q h
  .refine zc<|ze<|zg ?_;obtain⟨x,D,j,s,m,E,h⟩:=LA h;refine XA [(0,_),(1,_),(4,_)] (sV a e i c d j.2.1 (j.2.2||(!m)) []) [6,12] [0,1,2,3,4,5,7,8,9,10] [(22,_),(21,_),(20,_),(19,_),(17,_),(16,_),(15,_),(14,_),(13,_),(12,_)] 2 (Xd (z:=by exact⟨(λ_ _=>⟨_,y,y,sx [0,1,2] (HU s)<|⟨(sA j.1),[11],[(23,_),(18,_)],y,y,y,y,Xd (z:=by exact⟨nv,(λ_ _=>⟨_,y,y,sx [0,1,2] (zD a e i c d j.2.1 j.2.2 m y)<|⟨(.tup []),[],[(24,_)],y,y,y,y,Xg (z:=z6 [0,1,2])⟩⟩),t⟩)⟩⟩),nw,t⟩)) ?_;refine A ?_;exact Mh
  apply zr;cases h;exact⟨y,_,y,zl [0,1,2]⟩
 rintro⟨B,C⟩ rfl;apply zm;cases h;exact⟨_,y,Xb [0,1,2]⟩
def WH(c:Vr)(d:T2)(e:T0)(f:zb)(i:T1)(j:T1)(l:Bool):Option (T0×T1×Bool):=(KZ c d e f i j l).bind λa=>(cond (a.1==[78]) (some true) ((Dh a.1).bind λm=>some m)).bind λb=>some (a.1,a.2.1,(a.2.2||(!b)))
theorem Ri{r:T0×T1×Bool}(h:WH a e b c d l f=some r):VE 282 [Vg] (tV a e b c d l f []) (sA r.1) (tV a e b c d r.2.1 r.2.2 []):=by refine⟨⟨t,Xo (sz:=1) (λ_=>y),Xo (sz:=1) (λ_=>y),t⟩,zK func282 y kz y ?_⟩;refine A ?_;obtain⟨i,m,h⟩:=bs h;refine rg y<|u<|mv y<|u<|sx [0,1,2] (HU m)<|zw (VC:=[(0,Vg),(5,sA i.1)]) (VJ:=(sV a e b c d i.2.1 i.2.2 [])) (zl [0,1,2])<|A ?_;obtain⟨j,n,h⟩:=bs h;refine A ?_;refine u<|sx [0,1,2] (zD a e b c d i.2.1 i.2.2 j y)<|zw (VC:=[(3,sA i.1)]) (VJ:=(sV a e b c d i.2.1 (i.2.2||(!j)) [])) (zl [0,1,2])<|zx ?_;refine A ?_;exact MP
def P3(c:Vr)(d:T2)(f:T0)(i:zb)(j:T1)(l:T1)(e:Bool)(b:zp):Option (T1×Bool):=cond (b.Op==37) ((zI c d b.C).bind λn=>(zN c d f i j l (e||(!(n.2&&(!n.1.Interface)))) b.C).bind λq=>some (q,(e||(!(n.2&&(!n.1.Interface)))))) ((Wq c d b.C b.M).bind λa=>cond (b.Op==38) ((zQ c d f i j l (e||(!(a.2.2&&(a.2.1.Static==((b.Op==40)||(b.Op==41)))))) [b.C]).bind λm=>(zN c d f i j m.1 m.2 a.2.1.Type_).bind λs=>some (s,m.2)) (cond (b.Op==39) ((zQ c d f i j l (e||(!(a.2.2&&(a.2.1.Static==((b.Op==40)||(b.Op==41)))))) [b.C,a.2.1.Type_]).bind λo=>some (o.1,o.2)) (cond (b.Op==40) ((zN c d f i j l (e||(!(a.2.2&&(a.2.1.Static==((b.Op==40)||(b.Op==41)))))) a.2.1.Type_).bind λv=>some (v,(e||(!(a.2.2&&(a.2.1.Static==((b.Op==40)||(b.Op==41)))))))) ((zQ c d f i j l (e||(!(a.2.2&&(a.2.1.Static==((b.Op==40)||(b.Op==41)))))) [a.2.1.Type_]).bind λp=>some (p.1,p.2)))))
theorem ri{B:zp}(h:P3 a e b c d l f B=some r):VE 283 [Vg,.agg (zs B)] (tV a e b c d l f []) (.tup []) (tU a e b c d r.1 r.2 []):=by
 refine⟨⟨t,Xo (sz:=1) (λ_=>y),t,Xo (sz:=1) (λ_=>y),t⟩,zK func283 y kz y ?_⟩;refine A ?_;refine ze<|A ?_;apply Xa h y<;>intro s h
 .obtain⟨j,L,h⟩:=bs h;refine Lc [(0,_),(3,_),(4,_),(5,_)] (sV a e b c d l f [some (4,[(zs B)]),some (6,[(zf j.1)])]) [10,11] Va [(21,_),(20,_),(12,_),(19,_),(18,_),(17,_),(16,_),(15,_),(14,_),(13,_)] 2 (Xd (z:=by exact⟨(λ_ _=>⟨_,y,y,al 4 ti y<|⟨(Vl),[],[(4,_)],y,y,y,y,Xd (z:=by exact⟨nv,(λ_ _=>⟨_,y,y,La ti y y y<|⟨.any,[12],[(5,_)],y,y,y,t,Xg (z:=z6 [0,1,2,3,4])⟩⟩),t⟩)⟩⟩),nw,t⟩)) ?_;refine A ?_;refine u<|sx [0,1,2] (zD a e b c d l f (j.2&&(!j.1.Interface)) y)<|zw (VC:=[(0,Vg),(3,Vk)]) (VJ:=(sV a e b c d l (f||(!(j.2&&(!j.1.Interface)))) [some (4,[(zs B)])])) (zl [0,1,2,3])<|zx ?_;obtain⟨v,J,h⟩:=bs h;refine A ?_;refine u<|sx [0,1,2] (zJ J)<|zw (VC:=[]) (VJ:=(sU a e b c d v (f||(!(j.2&&(!j.1.Interface)))) [])) (zl [0,1,.dead,4])<|zx ?_;apply zA;cases h;exact⟨_,y,Kl [0,1,.dead,3]⟩
 apply zc;obtain⟨i,M,h⟩:=bs h;refine Lc [(0,_),(3,_),(7,_),(8,_)] (sV a e b c d l f [some (4,[(zs B)]),some (3,[(zv i.2.1)])]) [13,15] Y8 [(46,_),(45,_),(44,_),(34,_),(43,_),(42,_),(41,_),(40,_),(39,_),(38,_),(37,_),(36,_),(35,_)] 2 (Xd (z:=by exact⟨(λ_ _=>⟨_,y,y,al 4 ti y<|⟨(Vl),[14],[(6,_),(7,_)],y,y,y,y,Xd (z:=by exact⟨nv,(λ_ _=>⟨_,y,y,La ti y y y<|⟨.any,[16],[(8,_)],y,y,y,t,Xg (z:=z6 [0,1,2,3,4])⟩⟩),t⟩)⟩⟩),nw,t⟩)) ?_;refine A ?_;refine u<|sx [0,1,2] (zD a e b c d l f (i.2.2&&(i.2.1.Static==((B.Op==40)||(B.Op==41)))) y)<|zw (VC:=[(0,Vg),(3,Vk),(7,Vl)]) (VJ:=(sV a e b c d l (f||(!(i.2.2&&(i.2.1.Static==((B.Op==40)||(B.Op==41)))))) [some (4,[(zs B)]),some (3,[(zv i.2.1)])])) (zl [0,1,2,3,4])<|zx ?_;refine A ?_;refine zg<|A ?_;apply Xa h y<;>intro x h
 .obtain⟨m,K,h⟩:=bs h;refine A ?_;refine zw (VC:=[(0,Vg),(7,Vk),(72,Vg),(75,.isl 1 (map Xe [B.C]))]) (VJ:=(sV a e b c d l (f||(!(i.2.2&&(i.2.1.Static==((B.Op==40)||(B.Op==41)))))) [some (3,[(zv i.2.1)])])) (zl [0,1,2,4])<|u<|sx [0,1,2] (zP K)<|zw (VC:=[(0,Vg),(7,Vk)]) (VJ:=(sV a e b c d m.1 m.2 [some (3,[(zv i.2.1)])])) (zl [0,1,2,3])<|zx ?_;obtain⟨D,E,h⟩:=bs h;refine A ?_;refine u<|sx [0,1,2] (zJ E)<|zw (VC:=[]) (VJ:=(sU a e b c d D m.2 [])) (zl [0,1,.dead,4])<|zx ?_;cases h;exact⟨_,y,Xb [0,1,.dead,3]⟩
 refine A ?_;apply Xa h y<;>intro p h;.obtain⟨n,F,h⟩:=bs h;refine A ?_;refine zw (VC:=[(83,Vg),(88,.isl 1 (map Xe [B.C,i.2.1.Type_]))]) (VJ:=(sV a e b c d l (f||(!(i.2.2&&(i.2.1.Static==((B.Op==40)||(B.Op==41)))))) [])) (zl [0,1,2])<|u<|sx [0,1,2] (zP F)<|zw (VC:=[]) (VJ:=(sV a e b c d n.1 n.2 [])) (zl [0,1,2])<|zx ?_;cases h;exact⟨_,y,Xb [0,1,.dead,2]⟩
 refine A ?_;apply Xa h y<;>intro q h;.obtain⟨G,H,h⟩:=bs h;refine A ?_;refine u<|sx [0,1,2] (zJ H)<|zw (VC:=[]) (VJ:=(sU a e b c d G (f||(!(i.2.2&&(i.2.1.Static==((B.Op==40)||(B.Op==41)))))) [])) (zl [0,1,.dead,5])<|zx ?_;cases h;exact⟨_,y,Xb [0,1,.dead,3]⟩
 obtain⟨o,I,h⟩:=bs h;refine A ?_;refine zw (VC:=[(65,Vg),(68,.isl 1 (map Xe [i.2.1.Type_]))]) (VJ:=(sV a e b c d l (f||(!(i.2.2&&(i.2.1.Static==((B.Op==40)||(B.Op==41)))))) [])) (zl [0,1,2])<|u<|sx [0,1,2] (zP I)<|zw (VC:=[]) (VJ:=(sV a e b c d o.1 o.2 [])) (zl [0,1,2])<|zx ?_;cases h;exact⟨_,y,Xb [0,1,.dead,2]⟩
def WQ(e:Vr)(f:T2)(i:T0)(j:zb)(l:T1)(b:zb)(c:T1)(a:Bool):Option (T1×Bool):=cond (!(b.Ret==[86])) ((zN e f i j l c a b.Ret).bind λd=>some (d,a)) (some (c,a))
def Os(b:Vr)(c:T2)(e:T0)(i:zb)(j:T1)(m:zp)(n:T0)(f:zb)(d:T1×Bool)(o:Bool):Option (T1×Bool):=cond o ((zQ b c e i j d.1 d.2 [m.C]).bind λl=>WQ b c e i j f l.1 l.2) (cond (m.Op==44) ((KZ b c e i j d.1 d.2).bind λa=>(Ws b c a.1 m.C).bind λp=>cond p ((Ws b c a.1 e).bind λq=>cond q ((Kz b c e).bind λs=>(zO s n).bind λv=>WQ b c e i j f a.2.1 (a.2.2||(!v))) (WQ b c e i j f a.2.1 (a.2.2||(!false)))) (WQ b c e i j f a.2.1 (a.2.2||(!false)))) (WQ b c e i j f d.1 d.2))
def Ot(e:Vr)(f:T2)(i:T0)(j:zb)(l:T1)(n:T1)(o:Bool)(b:zp)(c:T0)(a:zb)(m:Bool):Option (T1×Bool):=(zQ e f i j l n (o||(!(m&&(a.Static==(b.Op==42))))) a.Params).bind λd=>cond (b.Op==43) (Os e f i j l b c a d (b.Op==43)) (Os e f i j l b c a d (b.Op==45))
def WG(c:Vr)(d:T2)(f:T0)(i:zb)(j:T1)(l:T1)(m:Bool)(a:zp):Option (T1×Bool):=(BP c d a.C a.M).bind λe=>cond (a.Op==45) ((E4 c d a.C a.M).bind λb=>Ot c d f i j l m a b.1 b.2.1 b.2.2) (Ot c d f i j l m a e.1 e.2.1 (e.2.2&&(!e.2.1.Abstract)))
theorem pO{B:zp}(h:WG a e j c d l f B=some r):VE 284 [Vg,.agg (zs B)] (tV a e j c d l f []) (.tup []) (tU a e j c d r.1 r.2 []):=by
 refine⟨⟨t,Xo (sz:=1) (λ_=>y),t,Xo (sz:=1) (λ_=>y),t⟩,zK func284 y kz y ?_⟩;refine A ?_;obtain⟨D,q1,h⟩:=bs h;refine Lc [(0,_),(3,_),(4,_),(5,_),(6,_)] (sV a e j c d l f [some (4,[(zs B)]),some (10,[(zd D.2.1)])]) [13,15] Y8 [(20,_),(19,_),(18,_),(8,_),(17,_),(16,_),(15,_),(14,_),(13,_),(12,_),(11,_),(10,_),(9,_)] 2 (Xd (z:=by exact⟨(λ_ _=>⟨_,y,y,al 4 ti y<|⟨(Vl),[14],[(4,_),(5,_)],y,y,y,y,Xd (z:=by exact⟨nv,(λ_ _=>⟨_,y,y,La ti y y y<|⟨.any,[16],[(6,_)],y,y,y,t,Xg (z:=z6 [0,1,2,3,4])⟩⟩),t⟩)⟩⟩),nw,t⟩)) ?_;refine A ?_;refine zY (X:=T0×zb×Bool) (λz=>[(0,Vg),(3,Vk),(4,sA z.1),(5,Vl),(6,bA z.2.2)]) (λz=>(sV a e j c d l f [some (4,[(zs B)]),some (10,[(zd z.2.1)])])) (λz=>Ot a e j c d l f B z.1 z.2.1 z.2.2=some r) ?_ ?_
 .refine A ?_;apply Xa h y<;>intro M h;.obtain⟨s,q4,h⟩:=bs h;refine XA [(0,_),(3,_),(4,_),(5,_),(6,_)] (sV a e j c d l f [some (4,[(zs B)]),some (10,[(zd s.2.1)])]) [14] Y9 [(4,_),(42,_),(41,_),(40,_),(30,_),(39,_),(38,_),(37,_),(36,_),(35,_),(34,_),(33,_),(32,_),(31,_)] 1 (Xd (z:=by exact⟨(λ_ _=>⟨_,y,y,La ti y y y<|⟨.any,[15],[(6,_)],y,y,y,t,Xg (z:=z6 [0,1,2,3,4])⟩⟩),t⟩)) ?_;exact⟨⟨s.1,s.2.1,s.2.2⟩,h,zl [0,1,2,3,4]⟩
  apply zc;exact⟨⟨D.1,D.2.1,(D.2.2&&(!D.2.1.Abstract))⟩,h,zl [0,1,2,3,4]⟩
 rintro⟨p,m,E⟩ h;refine A ?_;refine u<|sx [0,1,2] (zD a e j c d l f (E&&(m.Static==(B.Op==42))) y)<|zw (VC:=[(0,Vg),(3,Vk),(4,sA p),(5,Vl)]) (VJ:=(sV a e j c d l (f||(!(E&&(m.Static==(B.Op==42))))) [some (4,[(zs B)]),some (10,[(zd m)])])) (zl [0,1,2,3,4])<|zx ?_;obtain⟨n,V,h⟩:=bs h;refine A ?_;refine u<|sx [0,1,2] (zP V)<|zw (VC:=[(0,Vg),(3,Vk),(4,sA p),(5,Vl)]) (VJ:=(sV a e j c d n.1 n.2 [some (4,[(zs B)]),some (10,[(zd m)])])) (zl [0,1,2,3,4])<|zx ?_;refine zY (X:=T1×Bool) (λz=>[(0,Vg),(5,Vk)]) (λz=>(sV a e j c d z.1 z.2 [some (10,[(zd m)])])) (λz=>WQ a e j c d m z.1 z.2=some r) ?_ ?_
 .refine A ?_;apply zg;refine zY (X:=Bool) (λz=>[(0,Vg),(3,Vk),(4,sA p),(5,Vl),(59,iA B.Op),(60,bA z)]) (λz=>(sV a e j c d n.1 n.2 [some (4,[(zs B)]),some (10,[(zd m)])])) (λz=>Os a e j c d B p m n z=some r) ?_ ?_
  .refine A ?_;apply Xa h y<;>intro N h;.apply zc;exact⟨(B.Op==43),h,zl [0,1,2,3,4]⟩
   refine A ?_;exact(⟨(B.Op==45),h,zl [0,1,2,3,4]⟩)
  rintro Y h;apply Xa h y<;>intro O h;.obtain⟨v,W,h⟩:=bs h;refine A ?_;exact zw (VC:=[(0,Vg),(5,Vk),(63,Vg),(66,.isl 1 (map Xe [B.C]))]) (VJ:=(sV a e j c d n.1 n.2 [some (10,[(zd m)])])) (zl [0,1,2,4])<|u<|sx [0,1,2] (zP W)<|zw (VC:=[(0,Vg),(5,Vk)]) (VJ:=(sV a e j c d v.1 v.2 [some (10,[(zd m)])])) (zl [0,1,2,3])<|zx (⟨⟨v.1,v.2⟩,h,zl [0,1,2,3]⟩)
  refine A ?_;apply Xa h y<;>intro K h
  .obtain⟨i,P,h⟩:=bs h;refine rg y<|u<|mv y<|u<|sx [0,1,2] (HU P)<|zw (VC:=[(0,Vg),(3,Vk),(4,sA p),(5,Vl),(71,sA i.1)]) (VJ:=(sV a e j c d i.2.1 i.2.2 [some (4,[(zs B)]),some (10,[(zd m)])])) (zl [0,1,2,3,4])<|A ?_;obtain⟨F,H,h⟩:=bs h
   rcases bb F with q|q
   .replace h:=bT q h;obtain⟨G,Z,h⟩:=bs h
    rcases bb G with o|o
    .replace h:=bT o h;obtain⟨I,Q,x,R,h⟩:=F6 h;refine XA [(0,Vg),(5,Vk)] (sV a e j c d i.2.1 (i.2.2||(!x)) [some (10,[(zd m)])]) [30,34] [0,1,2,3,4,5,6,7,8,9,10,11,12,13,14,15,16,17,18,19,20,21,22,23,24,25,26,27,28,29,31] [(103,_),(101,_),(100,_),(99,_),(98,_),(97,_),(96,_),(95,_),(94,_),(93,_),(92,_),(91,_),(90,_),(89,_),(88,_),(87,_),(86,_),(85,_),(84,_),(83,_),(82,_),(81,_),(80,_),(79,_),(78,_),(77,_),(76,_),(75,_),(74,_),(73,_),(72,_)] 2 (Xd (z:=by exact⟨(λ_ _=>⟨_,y,cg (b:=G) y o,sx [] (GM Q)<|⟨(.msl 5 0 (length I)),[32,33],[(105,_),(104,_),(102,_)],y,y,y,y,Xd ⟨(by exact λ_=>Le (b:=G) y y y y o y (Lj (WT I p R) y y (.cons (XU y (λ_=>y)) (.cons (si y) .nil)) Xx<|w)),F1,F1,F1,F1,F1,F1,F1,F1,F1,F1,F1,F1,F1,F1,F1,F1,F1,F1,F1,F1,F1,F1,F1,F1,F1,F1,F1,F1,F1,F1,F1,F1,t⟩ (by exact⟨nv,(λ_ _=>⟨_,y,y,sc [0,1,2] (args:=[Vg,bA x]) (zD a e j c d i.2.1 i.2.2 x y) y y y y ⟨(.mpt y),(Ln y),t⟩ ⟨⟨_,y,(Hd y ⟨(.msl y),(.msl y),(Ln y),t⟩)⟩,⟨y,LD (λ_=>y)⟩,⟨y,LD (λ_=>y)⟩,t⟩<|⟨(.tup []),[],[(106,_)],y,y,y,y,Xg (z:=z6 [0,1,2,4])⟩⟩),t⟩)⟩⟩),nw,t⟩)) ?_;exact⟨⟨i.2.1,(i.2.2||(!x))⟩,h,zl [0,1,2,3]⟩
    replace h:=bF o h;refine XA [(0,Vg),(5,Vk)] (sV a e j c d i.2.1 (i.2.2||(!false)) [some (10,[(zd m)])]) [34] [0,1,2,3,4,5,6,7,8,9,10,11,12,13,14,15,16,17,18,19,20,21,22,23,24,25,26,27,28,29,30,31,32,33] [(105,_),(104,_),(103,_),(102,_),(101,_),(100,_),(99,_),(98,_),(97,_),(96,_),(95,_),(94,_),(93,_),(92,_),(91,_),(90,_),(89,_),(88,_),(87,_),(86,_),(85,_),(84,_),(83,_),(82,_),(81,_),(80,_),(79,_),(78,_),(77,_),(76,_),(75,_),(74,_),(73,_),(72,_)] 1 (Xd (z:=by exact⟨(λ_ _=>⟨_,y,y,sc [0,1,2] (args:=[Vg,bA false]) (zD a e j c d i.2.1 i.2.2 false y) y y y y ⟨(.mpt y),(Ln y),t⟩ ⟨⟨_,y,(Hd y ⟨(.msl y),(.msl y),(Ln y),t⟩)⟩,⟨y,LD (λ_=>y)⟩,⟨y,LD (λ_=>y)⟩,t⟩<|⟨(.tup []),[],[(106,_)],y,y,y,y,Xg (z:=z6 [0,1,2,4])⟩⟩),t⟩)) ?_;exact⟨⟨i.2.1,(i.2.2||(!false))⟩,h,zl [0,1,2,3]⟩
   replace h:=bF q h;refine XA [(0,Vg),(5,Vk)] (sV a e j c d i.2.1 (i.2.2||(!false)) [some (10,[(zd m)])]) [34] [33,32,31,30,29,28,27,26,25,24,23,22,21,20,19,18,17,16,15,14,13,12,11,10,9,8,7,6,5,4,3,2,1,0] [(105,bA false),(104,Vq),(103,Vq),(102,Vq),(101,Vq),(100,Vq),(99,Vq),(98,Vq),(97,Vq),(96,Vq),(95,Vq),(94,Vq),(93,bA false),(92,bA false),(91,Vq),(90,Vq),(89,Vq),(88,Vq),(87,Vq),(86,Vq),(85,Vq),(84,Vq),(83,Vq),(82,Vq),(81,bA F),(80,bA F),(79,sA B.C),(78,.mpt 3 0 2),(77,sA i.1),(76,.ipt 2 [[cL a,mI e]] 0 0),(75,Vg),(74,Vg),(73,Vg),(72,Vg)] 1 (Z1 ⟨pe,pe,pe,pe,pe,pe,pe,pe,pe,pe,pe,pe,pe,pe,pe,pe,pe,pe,pe,pe,pe,pe,pe,pe,pe,(pb y (pc (kX a e i.1 B.C H) y y y w)),(pb y (ld ti y y w)),(pb y (fa ti y y y w)),pe,(pb y (ld ti y y w)),(pb y (fa ti y y y w)),pe,pe,pe,t⟩ ⟨(λ_ _=>⟨_,y,y,sc [0,1,2] (args:=[Vg,bA false]) (zD a e j c d i.2.1 i.2.2 false y) y y y y ⟨(.mpt y),(Ln y),t⟩ ⟨⟨_,y,(Hd y ⟨(.msl y),(.msl y),(Ln y),t⟩)⟩,⟨y,LD (λ_=>y)⟩,⟨y,LD (λ_=>y)⟩,t⟩<|⟨(.tup []),[],[(106,.tup [])],y,y,kz,y,U5 ⟨pe,pe,pe,pe,pe,pe,pe,pe,pe,pe,pe,pe,pe,pe,pe,pe,pe,pe,pe,pe,pe,pe,pe,pe,pe,(pb y (pc (kX a e i.1 B.C H) y y y w)),(pb y (ld ti y y w)),(pb y (fa ti y y y w)),pe,(pb y (ld ti y y w)),(pb y (fa ti y y y w)),pe,pe,pe,t⟩ (zl [0,1,2,4])⟩⟩),t⟩) ?_;exact⟨⟨i.2.1,(i.2.2||(!false))⟩,h,zl [0,1,2,3]⟩
  apply zc;exact⟨⟨n.1,n.2⟩,h,zl [0,1,2,4]⟩
 rintro⟨S,J⟩ h;refine A ?_;apply Xa h y<;>intro L h;.obtain⟨T,U,h⟩:=bs h;refine A ?_;refine u<|sx [0,1,2] (zJ U)<|zw (VC:=[]) (VJ:=(sU a e j c d T J [])) (zl [0,1,.dead,4])<|zx ?_;cases h;exact⟨_,y,Xb [0,1,.dead,3]⟩
 apply zc;cases h;exact⟨_,y,Xb [0,1,.dead,2]⟩
def IF(e:Vr)(f:T2)(i:T0)(a:zb)(j:T1)(c:T1)(d:Bool)(l:Int):Option (T1×Bool):=cond (l==46) (some (c,(d||(!(a.Ret==[86]))))) (cond (l==47) ((zQ e f i a j c (d||(!(a.Ret==[73]))) ([[73]])).bind λm=>some (m.1,m.2)) ((Dh a.Ret).bind λn=>(zQ e f i a j c (d||(!n)) [a.Ret]).bind λb=>some (b.1,b.2)))
theorem po(h:IF a e b c d l f i=some r):VE 285 [Vg,iA i] (tV a e b c d l f []) (.tup []) (tV a e b c d r.1 r.2 []):=by
 refine⟨⟨t,Xo (sz:=1) (λ_=>y),Xo (sz:=1) (λ_=>y),t⟩,zK func285 y kz y ?_⟩;refine zg<|A ?_;apply Xa h y<;>intro n h
 .refine A ?_;refine u<|sx [0,1,2] (zD a e b c d l f (c.Ret==[86]) y)<|zw (VC:=[]) (VJ:=(sV a e b c d l (f||(!(c.Ret==[86]))) [])) (zl [0,1,2])<|zx ?_;cases h;exact⟨_,y,Xb [0,1,2]⟩
 refine A ?_;apply Xa h y<;>intro o h;.refine A ?_;refine u<|sx [0,1,2] (zD a e b c d l f (c.Ret==[73]) y)<|zw (VC:=[(0,Vg)]) (VJ:=(sV a e b c d l (f||(!(c.Ret==[73]))) [])) (zl [0,1,2])<|zx ?_;obtain⟨p,q,h⟩:=bs h;refine A ?_;refine zw (VC:=[(42,Vg),(43,tL ([[73]]))]) (VJ:=(sV a e b c d l (f||(!(c.Ret==[73]))) [])) (zl [0,1,2])<|u<|sx [0,1,2] (zP q)<|zw (VC:=[]) (VJ:=(sV a e b c d p.1 p.2 [])) (zl [0,1,2])<|zx ?_;cases h;exact⟨_,y,Xb [0,1,2]⟩
 obtain⟨j,v,h⟩:=bs h;refine A ?_;refine u<|sx [0,1,2] (zD a e b c d l f j y)<|zw (VC:=[(0,Vg)]) (VJ:=(sV a e b c d l (f||(!j)) [])) (zl [0,1,2])<|zx ?_;obtain⟨m,s,h⟩:=bs h;refine A ?_;refine zw (VC:=[(12,Vg),(18,.isl 1 (map Xe [c.Ret]))]) (VJ:=(sV a e b c d l (f||(!j)) [])) (zl [0,1,2])<|u<|sx [0,1,2] (zP s)<|zw (VC:=[]) (VJ:=(sV a e b c d m.1 m.2 [])) (zl [0,1,2])<|zx ?_;cases h;exact⟨_,y,Xb [0,1,2]⟩
def ED(a:T0):Option (T0):=(HA a).bind λb=>(cond (!b) (some true) ((Ze [91] a).bind λc=>(HA c).bind λd=>some (!d))).bind λe=>cond e (some []) ((Ze [91] a).bind λf=>some f)
instance :VF 221 [sA b] (ED b) sA:=⟨λr h=>by
 refine zi func221 y kz y y<|A ?_;apply ze;obtain⟨c,d,e,f,h⟩:=F6 h;refine A ?_;apply Xa h y<;>intro a h
 .refine A ?_;exact F4
 apply zc;obtain⟨i,j,h⟩:=bs h;refine A ?_
 exact F4⟩
def P4(c:Vr)(d:T2)(e:T0)(f:zb)(i:T1)(j:T1)(l:Bool):Option (T0×T1×Bool):=(KZ c d e f i j l).bind λa=>(GE a.1).bind λb=>cond (a.1==[78]) (some (a.1,a.2.1,(a.2.2||(!((a.1==[78])||(b.2&&(!(b.1==[73])))))))) (some (b.1,a.2.1,(a.2.2||(!((a.1==[78])||(b.2&&(!(b.1==[73]))))))))
theorem i8{r:T0×T1×Bool}(h:P4 a e b c d l f=some r):VE 342 [Vg] (tV a e b c d l f []) (sA r.1) (tV a e b c d r.2.1 r.2.2 []):=by
 refine⟨⟨t,Xo (sz:=1) (λ_=>y),Xo (sz:=1) (λ_=>y),t⟩,zK func342 y kz y ?_⟩;refine A ?_;obtain⟨i,n,h⟩:=bs h;refine rg y<|u<|mv y<|u<|sx [0,1,2] (HU n)<|zw (VC:=[(0,Vg),(7,sA i.1)]) (VJ:=(sV a e b c d i.2.1 i.2.2 [])) (zl [0,1,2])<|A ?_;obtain⟨j,o,h⟩:=bs h;refine A ?_;refine A ?_;refine u<|sx [0,1,2] (zD a e b c d i.2.1 i.2.2 ((i.1==[78])||(j.2&&(!(j.1==[73])))) y)<|zw (VC:=[(3,sA i.1),(4,sA j.1)]) (VJ:=(sV a e b c d i.2.1 (i.2.2||(!((i.1==[78])||(j.2&&(!(j.1==[73])))))) [])) (zl [0,1,2])<|zx ?_;refine ze<|A ?_;apply Xa h y<;>intro m h
 .refine A ?_;exact MP
 refine zc<|A ?_;exact MP
def HV(a:Vr)(b:T2)(c:T0)(d:zb)(e:T1)(i:T1)(j:Bool)(l:zp):Option (T1×Bool):=cond (l.Op==49) ((zQ a b c d e i j ([[73]])).bind λE=>(zN a b c d e E.1 E.2 [91,73]).bind λF=>some (F,E.2)) (cond (l.Op==50) ((ED l.C).bind λn=>(cond (!(n==[])) ((Du a b n).bind λG=>some G) (some false)).bind λH=>(zQ a b c d e i (j||(!H)) ([[73]])).bind λo=>(zN a b c d e o.1 o.2 n).bind λI=>some (I,o.2)) (cond (l.Op==51) ((KZ a b c d e i j).bind λf=>(GE f.1).bind λq=>(zN a b c d e f.2.1 (f.2.2||(!(q.2||(f.1==[78])))) [73]).bind λJ=>some (J,(f.2.2||(!(q.2||(f.1==[78])))))) (cond (l.Op==52) ((zQ a b c d e i j ([[91,73],[73]])).bind λp=>(zN a b c d e p.1 p.2 [73]).bind λK=>some (K,p.2)) (cond (l.Op==53) ((zQ a b c d e i j ([[91,73],[73],[73]])).bind λs=>some (s.1,s.2)) (cond (l.Op==54) ((zQ a b c d e i j ([[73]])).bind λv=>(P4 a b c d e v.1 v.2).bind λm=>(zN a b c d e m.2.1 m.2.2 m.1).bind λL=>some (L,m.2.2)) ((WH a b c d e i j).bind λx=>(zQ a b c d e x.2.1 x.2.2 ([[73]])).bind λB=>(P4 a b c d e B.1 B.2).bind λD=>some (D.2.1,D.2.2)))))))
theorem pY{B:zp}(h:HV a e b c d l f B=some r):VE 286 [Vg,.agg (zs B)] (tV a e b c d l f []) (.tup []) (tU a e b c d r.1 r.2 []):=by
 refine⟨⟨t,Xo (sz:=1) (λ_=>y),t,Xo (sz:=1) (λ_=>y),t⟩,zK func286 y kz y ?_⟩;refine A ?_;refine A ?_;refine zg<|A ?_;apply Xa h y<;>intro J h
 .obtain⟨C,q2,h⟩:=bs h;refine A ?_;refine zw (VC:=[(0,Vg),(19,Vg),(20,tL ([[73]]))]) (VJ:=(sV a e b c d l f [])) (zl [0,1,2])<|u<|sx [0,1,2] (zP q2)<|zw (VC:=[(0,Vg)]) (VJ:=(sV a e b c d C.1 C.2 [])) (zl [0,1,2])<|zx ?_;obtain⟨K,q3,h⟩:=bs h;refine rl y<|u<|mv y<|u<|sx [0,1,2] (zJ q3)<|zw (VC:=[]) (VJ:=(sU a e b c d K C.2 [])) (zl [0,1,.dead,3])<|zx ?_;cases h;exact⟨_,y,Xb [0,1,.dead,3]⟩
 refine A ?_;apply Xa h y<;>intro L h;.obtain⟨p,q5,h⟩:=bs h;refine A ?_;obtain⟨q,q8,h⟩:=bs h;refine A ?_;refine u<|sx [0,1,2] (zD a e b c d l f q y)<|zw (VC:=[(0,Vg),(4,sA p)]) (VJ:=(sV a e b c d l (f||(!q)) [])) (zl [0,1,2])<|zx ?_;obtain⟨n,q9,h⟩:=bs h;refine A ?_;refine zw (VC:=[(0,Vg),(4,sA p),(41,Vg),(42,tL ([[73]]))]) (VJ:=(sV a e b c d l (f||(!q)) [])) (zl [0,1,2])<|u<|sx [0,1,2] (zP q9)<|zw (VC:=[(0,Vg),(4,sA p)]) (VJ:=(sV a e b c d n.1 n.2 [])) (zl [0,1,2])<|zx ?_;obtain⟨M,N,h⟩:=bs h;refine A ?_;refine u<|sx [0,1,2] (zJ N)<|zw (VC:=[]) (VJ:=(sU a e b c d M n.2 [])) (zl [0,1,.dead,3])<|zx ?_;cases h;exact⟨_,y,Xb [0,1,.dead,3]⟩
 refine A ?_;apply Xa h y<;>intro F h;.obtain⟨i,O,h⟩:=bs h;refine rg y<|u<|mv y<|u<|sx [0,1,2] (HU O)<|zw (VC:=[(0,Vg),(50,sA i.1)]) (VJ:=(sV a e b c d i.2.1 i.2.2 [])) (zl [0,1,2])<|A ?_;obtain⟨s,q13,h⟩:=bs h;refine A ?_;refine A ?_;refine u<|sx [0,1,2] (zD a e b c d i.2.1 i.2.2 (s.2||(i.1==[78])) y)<|zw (VC:=[(0,Vg)]) (VJ:=(sV a e b c d i.2.1 (i.2.2||(!(s.2||(i.1==[78])))) [])) (zl [0,1,2])<|zx ?_;obtain⟨P,Q,h⟩:=bs h;refine rl y<|u<|mv y<|u<|sx [0,1,2] (zJ Q)<|zw (VC:=[]) (VJ:=(sU a e b c d P (i.2.2||(!(s.2||(i.1==[78])))) [])) (zl [0,1,.dead,3])<|zx ?_;cases h;exact⟨_,y,Xb [0,1,.dead,3]⟩
 refine A ?_;apply Xa h y<;>intro G h;.obtain⟨o,R,h⟩:=bs h;refine A ?_;refine zw (VC:=[(0,Vg),(67,Vg),(68,tL ([[91,73],[73]]))]) (VJ:=(sV a e b c d l f [])) (zl [0,1,2])<|u<|sx [0,1,2] (zP R)<|zw (VC:=[(0,Vg)]) (VJ:=(sV a e b c d o.1 o.2 [])) (zl [0,1,2])<|zx ?_;obtain⟨S,T,h⟩:=bs h;refine rl y<|u<|mv y<|u<|sx [0,1,2] (zJ T)<|zw (VC:=[]) (VJ:=(sU a e b c d S o.2 [])) (zl [0,1,.dead,3])<|zx ?_;cases h;exact⟨_,y,Xb [0,1,.dead,3]⟩
 refine A ?_;apply Xa h y<;>intro H h;.obtain⟨D,U,h⟩:=bs h;refine A ?_;refine zw (VC:=[(74,Vg),(75,tL ([[91,73],[73],[73]]))]) (VJ:=(sV a e b c d l f [])) (zl [0,1,2])<|u<|sx [0,1,2] (zP U)<|zw (VC:=[]) (VJ:=(sV a e b c d D.1 D.2 [])) (zl [0,1,2])<|zx ?_;cases h;exact⟨_,y,Xb [0,1,.dead,2]⟩
 refine A ?_;apply Xa h y<;>intro I h;.obtain⟨v,V,h⟩:=bs h;refine A ?_;refine zw (VC:=[(0,Vg),(79,Vg),(80,tL ([[73]]))]) (VJ:=(sV a e b c d l f [])) (zl [0,1,2])<|u<|sx [0,1,2] (zP V)<|zw (VC:=[(0,Vg)]) (VJ:=(sV a e b c d v.1 v.2 [])) (zl [0,1,2])<|zx ?_;obtain⟨j,W,X,Y,h⟩:=F6 h;refine rl y<|u<|mv y<|u<|mv y<|u<|sx [0,1,2] (i8 W)<|zw (VC:=[(82,Vg),(84,sA j.1)]) (VJ:=(sV a e b c d j.2.1 j.2.2 [])) (zl [0,1,2])<|u<|sx [0,1,2] (zJ Y)<|zw (VC:=[]) (VJ:=(sU a e b c d X j.2.2 [])) (zl [0,1,.dead,3])<|zx ?_;cases h;exact⟨_,y,Xb [0,1,.dead,3]⟩
 obtain⟨m,Z,h⟩:=bs h;refine rg y<|u<|mv y<|u<|sx [0,1,2] (Ri Z)<|zw (VC:=[(0,Vg)]) (VJ:=(sV a e b c d m.2.1 m.2.2 [])) (zl [0,1,2])<|zx ?_;obtain⟨x,q26,h⟩:=bs h;refine A ?_;refine zw (VC:=[(0,Vg),(12,Vg),(13,tL ([[73]]))]) (VJ:=(sV a e b c d m.2.1 m.2.2 [])) (zl [0,1,2])<|u<|sx [0,1,2] (zP q26)<|zw (VC:=[(0,Vg)]) (VJ:=(sV a e b c d x.1 x.2 [])) (zl [0,1,2])<|zx ?_;obtain⟨E,q27,h⟩:=bs h;refine rl y<|u<|mv y<|u<|sx [0,1,2] (i8 q27)<|zw (VC:=[]) (VJ:=(sV a e b c d E.2.1 E.2.2 [])) (zl [0,1,2])<|zx ?_;cases h;exact⟨_,y,Xb [0,1,.dead,2]⟩
variable {r:Bool}
def WP(b:Vr)(c:T2)(e:T0)(f:zb)(i:T1)(m:T1)(j:Bool)(l:zp)(v:Bool):Option (T1×Bool):=cond v ((WH b c e f i m j).bind λa=>(Du b c l.C).bind λd=>cond (l.Op==56) ((zN b c e f i a.2.1 (a.2.2||(!d)) l.C).bind λp=>some (p,(a.2.2||(!d)))) ((zN b c e f i a.2.1 (a.2.2||(!d)) [73]).bind λq=>some (q,(a.2.2||(!d))))) (cond (l.Op==58) ((zQ b c e f i m j ([[84,104,114,111,119,110]])).bind λn=>some (n.1,n.2)) (cond (l.Op==59) ((zN b c e f i m j [73]).bind λs=>some (s,j)) ((zQ b c e f i m j ([[73]])).bind λo=>some (o.1,o.2))))
def WF(b:Vr)(c:T2)(d:T0)(e:zb)(f:T1)(i:T1)(j:Bool)(a:zp):Option (T1×Bool):=cond (a.Op==56) (WP b c d e f i j a (a.Op==56)) (WP b c d e f i j a (a.Op==57))
theorem pM{B:zp}{r:T1×Bool}(h:WF a e b c d l f B=some r):VE 287 [Vg,.agg (zs B)] (tV a e b c d l f []) (.tup []) (tU a e b c d r.1 r.2 []):=by
 refine⟨⟨t,Xo (sz:=1) (λ_=>y),t,Xo (sz:=1) (λ_=>y),t⟩,zK func287 y kz y ?_⟩;refine A ?_;refine A ?_;apply zg;refine zY (X:=Bool) (λz=>[(0,Vg),(3,Vk),(5,iA B.Op),(9,bA z)]) (λz=>(sV a e b c d l f [some (4,[(zs B)])])) (λz=>WP a e b c d l f B z=some r) ?_ ?_
 .refine A ?_;apply Xa h y<;>intro p h;.apply zc;exact⟨(B.Op==56),h,zl [0,1,2,3]⟩
  refine A ?_;exact(⟨(B.Op==57),h,zl [0,1,2,3]⟩)
 rintro L h;apply Xa h y<;>intro q h
 .obtain⟨i,H,h⟩:=bs h;refine rg y<|u<|mv y<|u<|sx [0,1,2] (Ri H)<|zw (VC:=[(0,Vg),(3,Vk)]) (VJ:=(sV a e b c d i.2.1 i.2.2 [some (4,[(zs B)])])) (zl [0,1,2,3])<|zx ?_;obtain⟨j,M,h⟩:=bs h;refine Lc [(0,_),(3,_)] (sV a e b c d i.2.1 (i.2.2||(!j)) [some (4,[(zs B)])]) [8] YU [(21,_),(20,_),(19,_),(18,_),(17,_),(16,_),(15,_),(14,_)] 1 (Xd (z:=by exact⟨(λ_ _=>⟨_,y,y,sx [0,1,2] (zD a e b c d i.2.1 i.2.2 j y)<|⟨(.tup []),[],[(22,_)],y,y,y,y,Xg (z:=z6 [0,1,2,3])⟩⟩),t⟩)) ?_;refine A ?_;apply Xa h y<;>intro s h
  .obtain⟨v,I,h⟩:=bs h;refine A ?_;refine u<|sx [0,1,2] (zJ I)<|zw (VC:=[]) (VJ:=(sU a e b c d v (i.2.2||(!j)) [])) (zl [0,1,.dead,4])<|zx ?_;cases h;exact⟨_,y,Xb [0,1,.dead,3]⟩
  obtain⟨x,J,h⟩:=bs h;refine rl y<|u<|mv y<|u<|sx [0,1,2] (zJ J)<|zw (VC:=[]) (VJ:=(sU a e b c d x (i.2.2||(!j)) [])) (zl [0,1,.dead,4])<|zx ?_;cases h;exact⟨_,y,Xb [0,1,.dead,3]⟩
 refine A ?_;apply Xa h y<;>intro D h;.obtain⟨m,K,h⟩:=bs h;refine A ?_;refine zw (VC:=[(34,Vg),(35,tL ([[84,104,114,111,119,110]]))]) (VJ:=(sV a e b c d l f [])) (zl [0,1,2])<|u<|sx [0,1,2] (zP K)<|zw (VC:=[]) (VJ:=(sV a e b c d m.1 m.2 [])) (zl [0,1,2])<|zx ?_;cases h;exact⟨_,y,Xb [0,1,.dead,2]⟩
 refine A ?_;apply Xa h y<;>intro o h;.obtain⟨E,F,h⟩:=bs h;refine rl y<|u<|mv y<|u<|sx [0,1,2] (zJ F)<|zw (VC:=[]) (VJ:=(sU a e b c d E f [])) (zl [0,1,.dead,4])<|zx ?_;cases h;exact⟨_,y,Xb [0,1,.dead,3]⟩
 obtain⟨n,G,h⟩:=bs h;refine A ?_;refine zw (VC:=[(6,Vg),(7,tL ([[73]]))]) (VJ:=(sV a e b c d l f [])) (zl [0,1,2])<|u<|sx [0,1,2] (zP G)<|zw (VC:=[]) (VJ:=(sV a e b c d n.1 n.2 [])) (zl [0,1,2])<|zx ?_;cases h;exact⟨_,y,Xb [0,1,.dead,2]⟩
def zj(c:Vr)(d:T2)(e:T0)(f:zb)(a:T1)(i:T1)(j:Bool)(b:zp):Option (T1×T1×Bool):=cond (U4 b.Op 1 7) ((HQ c d e f a i j b).bind λE=>some (E.1,E.2.1,E.2.2)) (cond (b.Op==13) ((zQ c d e f a i j ([[73]])).bind λl=>(zN c d e f a l.1 l.2 [73]).bind λF=>some (a,F,l.2)) (cond (U4 b.Op 8 19) ((zQ c d e f a i j ([[73],[73]])).bind λm=>(zN c d e f a m.1 m.2 [73]).bind λG=>some (a,G,m.2)) (cond (b.Op==20) (some (a,i,j)) (cond (U4 b.Op 21 26) ((zQ c d e f a i j ([[73]])).bind λn=>some (a,n.1,n.2)) (cond (U4 b.Op 27 32) ((zQ c d e f a i j ([[73],[73]])).bind λo=>some (a,o.1,o.2)) (cond (U4 b.Op 33 34) ((WH c d e f a i j).bind λp=>some (a,p.2.1,p.2.2)) (cond (U4 b.Op 35 36) ((WH c d e f a i j).bind λq=>(WH c d e f a q.2.1 q.2.2).bind λs=>some (a,s.2.1,s.2.2)) (cond ((b.Op==37)||(U4 b.Op 38 41)) ((P3 c d e f a i j b).bind λv=>some (a,v.1,v.2)) (cond (U4 b.Op 42 45) ((WG c d e f a i j b).bind λx=>some (a,x.1,x.2)) (cond (U4 b.Op 46 48) ((IF c d e f a i j b.Op).bind λB=>some (a,B.1,B.2)) (cond (U4 b.Op 49 55) ((HV c d e f a i j b).bind λC=>some (a,C.1,C.2)) ((WF c d e f a i j b).bind λD=>some (a,D.1,D.2)))))))))))))
theorem pp{B:zp}{r:T1×T1×Bool}(h:zj a e b c d l f B=some r):VE 200 [Vg,.agg (zs B)] (tV a e b c d l f []) (.tup []) [.one 15 (vK a e b c (.msl 3 0 (length r.1)) (.msl 4 0 (length r.2.1)) (bA r.2.2)),.no,.no,.many 1 (map Xe r.1),.many 1 (map Xe r.2.1)]:=by
 refine⟨⟨t,t,t,Xo (sz:=1) (λ_=>y),Xo (sz:=1) (λ_=>y),t⟩,zK func200 y kz y ?_⟩;refine A ?_;refine A ?_;refine zg<|A ?_;apply Xa h y<;>intro N h
 .obtain⟨n,q2,h⟩:=bs h;refine A ?_;refine u<|sx [0,1,2] (pN q2)<|zw (VC:=[]) (VJ:=[some (15,[(vK a e b c (.msl 3 0 (length n.1)) (.msl 4 0 (length n.2.1)) (bA n.2.2))]),none,none,sT n.1,sT n.2.1]) (zl [0,.dead,.dead,4,5])<|zx ?_;cases h;exact⟨_,y,Xb [0,.dead,.dead,3,4]⟩
 refine A ?_;apply Xa h y<;>intro O h;.obtain⟨i,q4,h⟩:=bs h;refine A ?_;refine zw (VC:=[(0,Vg),(19,Vg),(20,tL ([[73]]))]) (VJ:=(sV a e b c d l f [])) (zl [0,1,2])<|u<|sx [0,1,2] (zP q4)<|zw (VC:=[(0,Vg)]) (VJ:=(sV a e b c d i.1 i.2 [])) (zl [0,1,2])<|zx ?_;obtain⟨P,q5,h⟩:=bs h;refine rl y<|u<|mv y<|u<|sx [0,1,2] (zJ q5)<|zw (VC:=[]) (VJ:=(sU a e b c d P i.2 [])) (zl [0,1,.dead,3])<|zx ?_;cases h;exact⟨_,y,Xb [0,.dead,.dead,1,3]⟩
 refine A ?_;apply Xa h y<;>intro Q h;.obtain⟨j,q7,h⟩:=bs h;refine A ?_;refine zw (VC:=[(0,Vg),(27,Vg),(28,tL ([[73],[73]]))]) (VJ:=(sV a e b c d l f [])) (zl [0,1,2])<|u<|sx [0,1,2] (zP q7)<|zw (VC:=[(0,Vg)]) (VJ:=(sV a e b c d j.1 j.2 [])) (zl [0,1,2])<|zx ?_;obtain⟨R,q8,h⟩:=bs h;refine rl y<|u<|mv y<|u<|sx [0,1,2] (zJ q8)<|zw (VC:=[]) (VJ:=(sU a e b c d R j.2 [])) (zl [0,1,.dead,3])<|zx ?_;cases h;exact⟨_,y,Xb [0,.dead,.dead,1,3]⟩
 refine A ?_;apply Xa h y<;>intro S h;.apply zc;cases h;exact⟨_,y,Xb [0,.dead,.dead,1,2]⟩
 refine A ?_;apply Xa h y<;>intro F h;.obtain⟨o,T,h⟩:=bs h;refine A ?_;refine zw (VC:=[(38,Vg),(39,tL ([[73]]))]) (VJ:=(sV a e b c d l f [])) (zl [0,1,2])<|u<|sx [0,1,2] (zP T)<|zw (VC:=[]) (VJ:=(sV a e b c d o.1 o.2 [])) (zl [0,1,2])<|zx ?_;cases h;exact⟨_,y,Xb [0,.dead,.dead,1,2]⟩
 refine A ?_;apply Xa h y<;>intro G h;.obtain⟨p,U,h⟩:=bs h;refine A ?_;refine zw (VC:=[(44,Vg),(45,tL ([[73],[73]]))]) (VJ:=(sV a e b c d l f [])) (zl [0,1,2])<|u<|sx [0,1,2] (zP U)<|zw (VC:=[]) (VJ:=(sV a e b c d p.1 p.2 [])) (zl [0,1,2])<|zx ?_;cases h;exact⟨_,y,Xb [0,.dead,.dead,1,2]⟩
 refine A ?_;apply Xa h y<;>intro H h;.obtain⟨q,V,h⟩:=bs h;refine rl y<|u<|mv y<|u<|sx [0,1,2] (Ri V)<|zw (VC:=[]) (VJ:=(sV a e b c d q.2.1 q.2.2 [])) (zl [0,1,2])<|zx ?_;cases h;exact⟨_,y,Xb [0,.dead,.dead,1,2]⟩
 refine A ?_;apply Xa h y<;>intro I h;.obtain⟨m,W,h⟩:=bs h;refine rg y<|u<|mv y<|u<|sx [0,1,2] (Ri W)<|zw (VC:=[(0,Vg)]) (VJ:=(sV a e b c d m.2.1 m.2.2 [])) (zl [0,1,2])<|zx ?_;obtain⟨s,X,h⟩:=bs h;refine rl y<|u<|mv y<|u<|sx [0,1,2] (Ri X)<|zw (VC:=[]) (VJ:=(sV a e b c d s.2.1 s.2.2 [])) (zl [0,1,2])<|zx ?_;cases h;exact⟨_,y,Xb [0,.dead,.dead,1,2]⟩
 refine A ?_;apply Xa h y<;>intro J h;.obtain⟨v,Y,h⟩:=bs h;refine A ?_;refine u<|sx [0,1,2] (ri Y)<|zw (VC:=[]) (VJ:=(sU a e b c d v.1 v.2 [])) (zl [0,1,.dead,4])<|zx ?_;cases h;exact⟨_,y,Xb [0,.dead,.dead,1,3]⟩
 refine A ?_;apply Xa h y<;>intro K h;.obtain⟨x,Z,h⟩:=bs h;refine A ?_;refine u<|sx [0,1,2] (pO Z)<|zw (VC:=[]) (VJ:=(sU a e b c d x.1 x.2 [])) (zl [0,1,.dead,4])<|zx ?_;cases h;exact⟨_,y,Xb [0,.dead,.dead,1,3]⟩
 refine A ?_;apply Xa h y<;>intro L h;.obtain⟨C,q25,h⟩:=bs h;refine rl y<|u<|mv y<|u<|mv y<|u<|sx [0,1,2] (po q25)<|zw (VC:=[]) (VJ:=(sV a e b c d C.1 C.2 [])) (zl [0,1,2])<|zx ?_;cases h;exact⟨_,y,Xb [0,.dead,.dead,1,2]⟩
 refine A ?_;apply Xa h y<;>intro M h;.obtain⟨D,q27,h⟩:=bs h;refine A ?_;refine u<|sx [0,1,2] (pY q27)<|zw (VC:=[]) (VJ:=(sU a e b c d D.1 D.2 [])) (zl [0,1,.dead,4])<|zx ?_;cases h;exact⟨_,y,Xb [0,.dead,.dead,1,3]⟩
 obtain⟨E,q28,h⟩:=bs h;refine A ?_;refine u<|sx [0,1,2] (pM q28)<|zw (VC:=[]) (VJ:=(sU a e b c d E.1 E.2 [])) (zl [0,1,.dead,4])<|zx ?_;cases h;exact⟨_,y,Xb [0,.dead,.dead,1,3]⟩
def e8(b:T1)(c:T1)(a:Bool):Option (Bool):=some (!a)
def Dx(e:zb)(b:Int)(c:zp)(a:T1×T1×Bool)(d:Bool):zL (T1×T1×Bool×Bool×Int) (T1×T1×Bool) (Bool):=some (.inl (a.1,a.2.1,(d||(!(decide (((length a.2.1):Int)<=e.Stack)))),(!(Gf c.Op)),(i64.wrap (b+1))))
def U0(i:T0)(d:zu)(e:zb)(j:T1)(m:T1)(n:Bool)(o:Bool)(a:Int):zL (T1×T1×Bool×Bool×Int) (T1×T1×Bool) (Bool):=cond (decide (a<(length e.Code:Int))) ((idx e.Code a).bind λf=>(Av d.l d.at_ i e j m n a o).bind λb=>cond b.2.2 (some (.inr (.inr false))) ((MT d.l d.at_ i e b.1 b.2.1 b.2.2 a).bind λp=>(zj d.l d.at_ i e b.1 b.2.1 p f).bind λc=>cond (Ur f.Op) ((Ob d.l d.at_ i e c.1 c.2.1 c.2.2 f.A).bind λq=>Dx e a f c q) (Dx e a f c c.2.2))) (some (.inr (.inl (j,m,n))))
def mT(e:T0)(f:zu)(i:zb)(a:Bool)(c:Bool)(d:T1):Option (Bool):=(zk (λz=>U0 e f i z.1 z.2.1 z.2.2.1 z.2.2.2.1 z.2.2.2.2) (d,[],(a||(!c)),true,0)).bind λo=>zE o (λb=>e8 b.1 b.2.1 b.2.2) some
def kU(c:zb)(a:T1):zL (T1) (T1) (Bool):=cond (decide (((length a):Int)<c.Locals)) ((Xu 16 a ([[84]])).bind λb=>some (.inl b)) (some (.inr (.inl a)))
def PE(i:T0)(j:zu)(a:zb)(c:Bool)(d:Bool)(e:T1):Option (Bool):=(Xu 16 e a.Params).bind λf=>(zk (λz=>kU a z) f).bind λo=>zE o (λb=>mT i j a c d b) some
def PG(e:T0)(a:zu)(b:zb)(c:Bool):Option (Bool):=(Py b.Params a.l a.at_).bind λd=>cond (!b.Static) ((Xu 16 ([]:T1) [e]).bind λf=>PE e a b c d f) (PE e a b c d [])
def kV(d:T0)(b:zu)(a:zb)(c:Bool):Option (Bool):=cond (a.Ret==[86]) (PG d b a (c||(!true))) ((Dy b.l b.at_ a.Ret a.Ret).bind λe=>PG d b a (c||(!e)))
def BT(b:zu)(e:zb)(c:Bool)(a:Int):zL (Bool×Int) (Bool) (Bool):=cond (decide (a<(length e.Maps:Int))) ((idx e.Maps a).bind λd=>(EB d.Locals b.l b.at_).bind λf=>(cond f ((EB d.Stack b.l b.at_).bind λi=>some i) (some false)).bind λj=>some (.inl ((c||(!j)),(i64.wrap (a+1))))) (some (.inr (.inl c)))
def KV(i:Option zu)(e:T0)(a:Int):Option (Bool):=ZG i (none) (λc=>(zI c.l c.at_ e).bind λd=>(cond (((!d.2)||(decide (a<0)))||(decide ((length d.1.Methods:Int)<=a))) (some true) ((idx d.1.Methods a).bind λj=>some j.Abstract)).bind λm=>cond m (some false) ((idx d.1.Methods a).bind λf=>(zk (λz=>BT c f z.1 z.2) (false,0)).bind λo=>zE o (λb=>kV e c f b) some))
theorem WC(D:Option zu)(d:T0)(i:Int)(h:KV D d i=some r):VD 118 [Xz 2 XX D,sA d,iA i] (bA r):=by
 refine zi func118 y kz y y ?_;unfold KV at h
 rcases D with _|a
 .replace h:=L9 h;cases h
 replace h:=L8 h;refine A ?_;obtain⟨v5,q1,h⟩:=bs h;refine rg y<|u<|ld ti y y<|u<|mv y<|u<|pc (gE a.l a.at_ d q1) y y y<|u<|mv y<|u<|ex y y<|u<|ex y y<|u<|al 1 ti y<|u<|La ti y y y<|u<|Lw y<|zx ?_;apply ze;obtain⟨v7,q6,h⟩:=bs h;refine A ?_;apply Xa h y<;>intro U h
 .refine A ?_;exact F4
 apply zc;obtain⟨c,q8,h⟩:=bs h;refine Lc [(1,sA d),(3,Vg),(9,Vh)] [some (1,[[.ipt 2 [[cL a.l,mI a.at_]] 0 0]]),some (15,[(vK a.l a.at_ d c (nS) (nS) (bA false))])] [8] YU [(50,_),(49,_),(48,_),(47,_),(46,_),(45,_),(44,_),(43,_)] 1 (Xd (z:=by exact⟨(λ_ _=>⟨_,y,y,bx 2 15 y y y y<|⟨(Vj),[9],[(9,_),(51,_)],y,y,y,y,Xg (z:=z6 [0,2])⟩⟩),t⟩)) ?_;refine ze<|A ?_;obtain⟨o,ho,h⟩:=bs h;refine F7 ho (λz=>[(1,sA d),(3,Vg),(9,Vh),(56,.isl 3 (map zV c.Maps)),(57,iA (length c.Maps:Int)),(58,iA z.2)]) (λz=>[some (1,[[.ipt 2 [[cL a.l,mI a.at_]] 0 0]]),some (15,[(vK a.l a.at_ d c (.msl 2 0 0) (.msl 3 0 0) (bA z.1))]),some (1,map Xe []),some (1,map Xe [])]) (λb=>[(1,sA d),(3,Vg),(9,Vh)]) (λb=>[some (1,[[.ipt 2 [[cL a.l,mI a.at_]] 0 0]]),some (15,[(vK a.l a.at_ d c (.msl 2 0 0) (.msl 3 0 0) (bA b))]),some (1,map Xe []),some (1,map Xe [])]) (pG f118 bA) ⟨[0,1,.fresh 1,.fresh 1],ce y y<|cv y (.mpt y)<|cv y (.mpt y)<|ce y y<|ce y y<|ce y y<|cn,y,⟨⟨_,y,XN ⟨ci y,t⟩⟩,⟨_,y,XN (RE y (by exact⟨.nilown y,.nilown y,ci y,t⟩))⟩,w,w,t⟩,y,k⟩ ?_ ?_
 .rintro⟨I,V⟩ r h;refine A ?_;apply ze;apply Xa h y<;>intro O h;.refine zc<|ze<|zg ?_;obtain⟨J,q16,h⟩:=bs h;refine A ?_;refine A ?_;obtain⟨v18,W,G,C,h⟩:=F6 h;refine A ?_;refine u<|Lj (kG J.Locals a.l a.at_ W) y y (.cons (si y) (.cons (ZB t ⟨(XC y ⟨(si y),t⟩),t⟩) .nil)) Xx<|u<|mv y<|XV (x:=G) (j:=5) 4 y y y y y Lr (λB=>by replace C:=bT B C;obtain⟨v19,Y,C⟩:=bs C;obtain rfl:=sm C;exact g y B<|fa ti y y y<|g y B<|ld ti y y<|g y B<|mv y<|g y B<|Lj (kG J.Stack a.l a.at_ Y) y y (.cons (si y) (.cons (ZB t ⟨(XC y ⟨(si y),t⟩),t⟩) .nil)) Xx<|zx (eg [69,70,71,72] 4 y y y y)) (λhb=>(sm (bF hb C)).symm)<|u<|sx [1,2,3] (zD a.l a.at_ d c [] [] I G y)<|zw (VC:=[(1,sA d),(3,Vg),(9,Vh),(56,.isl 3 (map zV c.Maps)),(57,iA (length c.Maps:Int)),(58,iA V)]) (VJ:=[some (1,[[.ipt 2 [[cL a.l,mI a.at_]] 0 0]]),some (15,[(vK a.l a.at_ d c (.msl 2 0 0) (.msl 3 0 0) (bA (I||(!G))))]),some (1,map Xe []),some (1,map Xe [])]) (zl [0,1,2,3])<|zx ?_;refine A ?_;cases h;exact⟨_,y,zl [0,1,2,3]⟩
  exact Mg
 rintro F rfl;apply zm;refine zY (X:=Bool) (λz=>[(1,sA d),(3,Vg),(9,Vh)]) (λz=>[some (1,[[.ipt 2 [[cL a.l,mI a.at_]] 0 0]]),some (15,[(vK a.l a.at_ d c (.msl 2 0 0) (.msl 3 0 0) (bA z))]),some (1,map Xe []),some (1,map Xe [])]) (λz=>PG d a c z=some r) ?_ ?_
 .rcases bb (c.Ret==[86])with e|e
  .replace h:=bT e h;exact LU [21] [0,1,2,3,4,5,6,7,8,9,10,11,12,13,14,15,16,17,18,19,20] [(96,_),(95,_),(94,_),(93,_),(92,_),(91,_),(90,_),(89,_),(88,_),(87,_),(86,_),(85,_),(84,_),(83,_),(82,_),(81,_),(80,_),(79,_),(78,_),(77,_),(76,_)] 1 (Xd (z:=by exact⟨(λ_ _=>⟨_,y,y,sc [1,2,3] (args:=[Vh,bA true]) (zD a.l a.at_ d c [] [] F true y) y y y y ⟨(.mpt y),(Ln y),t⟩ ⟨⟨_,y,(Hd y ⟨(.msl y),(.msl y),(Ln y),t⟩)⟩,⟨y,LD (λ_=>y)⟩,⟨y,LD (λ_=>y)⟩,t⟩<|⟨(.tup []),[],[(97,_)],y,y,y,y,Xg (z:=by exact⟨(F||(!true)),h,z6 [0,1,2,3]⟩)⟩⟩),t⟩))
  replace h:=bF e h;obtain⟨E,Z,h⟩:=bs h;exact GH [21] [20,19,18,17,16,15,14,13,12,11,10,9,8,7,6,5,4,3,2,1,0] [(96,bA E),(95,bA E),(94,sA c.Ret),(93,.mpt 1 0 4),(92,.mpt 1 0 2),(91,Vh),(90,Vh),(89,sA c.Ret),(88,.mpt 1 0 4),(87,.mpt 1 0 2),(86,Vh),(85,Vh),(84,.ipt 2 [[cL a.l,mI a.at_]] 0 0),(83,bA (c.Ret==[86])),(82,bA (c.Ret==[86])),(81,sA c.Ret),(80,.mpt 1 0 4),(79,.mpt 1 0 2),(78,Vh),(77,Vh),(76,Vh)] 1 kz kz y kz (Z1 ⟨pe,(λ_=>Le (b:=(c.Ret==[86])) y y y y e y (pc (MV Z) y y y<|w)),(λ_=>Le (b:=(c.Ret==[86])) y y y y e y (ld ti y y<|w)),(λ_=>Le (b:=(c.Ret==[86])) y y y y e y (fa ti y y y<|w)),(λ_=>Le (b:=(c.Ret==[86])) y y y y e y (fa ti y y y<|w)),pe,pe,(λ_=>Le (b:=(c.Ret==[86])) y y y y e y (ld ti y y<|w)),(λ_=>Le (b:=(c.Ret==[86])) y y y y e y (fa ti y y y<|w)),(λ_=>Le (b:=(c.Ret==[86])) y y y y e y (fa ti y y y<|w)),pe,pe,(λ_=>Le (b:=(c.Ret==[86])) y y y y e y (ld ti y y<|w)),pe,(pb y (seq ti y y w)),(pb y (ld ti y y w)),(pb y (fa ti y y y w)),(pb y (fa ti y y y w)),pe,pe,pe,t⟩ ⟨(λ_ _=>⟨_,y,y,sc [1,2,3] (args:=[Vh,bA E]) (zD a.l a.at_ d c [] [] F E y) y y y y ⟨(.mpt y),(Ln y),t⟩ ⟨⟨_,y,(Hd y ⟨(.msl y),(.msl y),(Ln y),t⟩)⟩,⟨y,LD (λ_=>y)⟩,⟨y,LD (λ_=>y)⟩,t⟩<|⟨(.tup []),[],[(97,.tup [])],y,y,kz,y,U5 ⟨pe,pe,(λ_=>Le (b:=(c.Ret==[86])) y y y y e y (ld ti y y<|w)),(λ_=>Le (b:=(c.Ret==[86])) y y y y e y (fa ti y y y<|w)),(λ_=>Le (b:=(c.Ret==[86])) y y y y e y (fa ti y y y<|w)),pe,pe,(λ_=>Le (b:=(c.Ret==[86])) y y y y e y (ld ti y y<|w)),(λ_=>Le (b:=(c.Ret==[86])) y y y y e y (fa ti y y y<|w)),(λ_=>Le (b:=(c.Ret==[86])) y y y y e y (fa ti y y y<|w)),pe,pe,(λ_=>Le (b:=(c.Ret==[86])) y y y y e y (ld ti y y<|w)),pe,(pb y (seq ti y y w)),(pb y (ld ti y y w)),(pb y (fa ti y y y w)),(pb y (fa ti y y y w)),pe,pe,pe,t⟩ ⟨(F||(!E)),h,zl [0,1,2,3]⟩⟩⟩),t⟩)
 rintro q h;obtain⟨s,q23,h⟩:=bs h;refine A ?_;refine u<|Lj (eO c.Params a.l a.at_ q23) y y (.cons (si y) (.cons (ZB t ⟨(XC y ⟨(si y),t⟩),t⟩) .nil)) Xx<|u<|sx [1,2,3] (zD a.l a.at_ d c [] [] q s y)<|zw (VC:=[(1,sA d),(9,Vg)]) (VJ:=[some (15,[(vK a.l a.at_ d c (.msl 1 0 0) (.msl 2 0 0) (bA (q||(!s))))]),some (1,map Xe []),some (1,map Xe [])]) (zl [1,2,3])<|zx ?_;refine zY (X:=T1) (λz=>[(9,Vg)]) (λz=>[some (15,[(vK a.l a.at_ d c (.msl 1 0 (length z)) (.msl 2 0 0) (bA (q||(!s))))]),sT z,some (1,map Xe [])]) (λz=>PE d a c q s z=some r) ?_ ?_
 .refine A ?_;apply Xa h y<;>intro P h;.obtain⟨v25,q25,h⟩:=bs h;refine A ?_;refine u<|Lo 4 ti y ti y y YB ti y y y y (Lx (f:=Xe) (z:=[d]) y y) (λ_=>y) y q25<|A ?_;exact(⟨v25,h,zl [0,4,2]⟩)
  apply zc;exact⟨[],h,zl [0,1,2]⟩
 rintro v26 h;obtain⟨H,q26,h⟩:=bs h;refine Lc [(9,_)] [some (15,[(vK a.l a.at_ d c (.msl 1 0 (length H)) (.msl 2 0 0) (bA (q||(!s))))]),sT H,some (1,map Xe [])] [10,13] Va [(132,_),(131,_),(130,_),(129,_),(128,_),(127,_),(126,_),(125,_),(124,_),(123,_)] 2 (Xd (z:=by exact⟨(λ_ _=>⟨_,y,y,Lo 3 ti y ti y y YB ti y y y y Mc (λ_=>y) y q26<|⟨(.msl 3 0 (length H)),[11,12],[(135,_),(134,_),(133,_)],y,y,y,y,Xd (z:=by exact⟨nv,(λ_ _=>⟨_,y,y,La ti y y y<|⟨.any,[],[],y,y,y,t,Xg (z:=z6 [0,3,2])⟩⟩),t⟩)⟩⟩),nw,t⟩)) ?_;obtain⟨o,ho,h⟩:=bs h;refine Nr ho (λz=>[(9,Vg)]) (λz=>[some (15,[(vK a.l a.at_ d c (.msl 1 0 (length z)) (.msl 2 0 0) (bA (q||(!s))))]),sT z,some (1,map Xe [])]) (λb=>[(9,Vg)]) (λb=>[some (15,[(vK a.l a.at_ d c (.msl 1 0 (length b)) (.msl 2 0 0) (bA (q||(!s))))]),sT b,some (1,map Xe [])]) (pG f118 bA) (z6 [0,1,2]) ?_ ?_
 .rintro K r h;apply ze;refine Lc [(9,_),(146,_)] [some (15,[(vK a.l a.at_ d c (.msl 1 0 (length K)) (.msl 2 0 0) (bA (q||(!s))))]),sT K,some (1,map Xe [])] [] Y0 [(146,_),(145,_),(144,_),(143,_),(142,_),(141,_),(140,_),(139,_),(138,_),(137,_),(136,_)] 0 (Xg (z:=z6 [0,1,2])) ?_;apply Xa h y<;>intro Q h;.refine zc<|zg ?_;obtain⟨v31,q30,h⟩:=bs h;refine A ?_;refine u<|Lo 4 ti y ti y y YB ti y y y y (Lx (f:=Xe) (z:=[[84]]) y y) (λ_=>y) y q30<|A ?_;cases h;exact⟨_,y,zl [0,4,2]⟩
  apply zr;cases h;exact⟨y,_,y,zl [0,1,2]⟩
 rintro v32 rfl;refine A ?_;refine ze<|A ?_;obtain⟨o,ho,h⟩:=bs h;refine F7 ho (λz=>[(9,Vg),(13,bA z.2.2.2.1),(160,.isl 4 (map zs c.Code)),(161,iA (length c.Code:Int)),(162,iA z.2.2.2.2)]) (λz=>(sV a.l a.at_ d c z.1 z.2.1 z.2.2.1 [])) (λb=>[(9,Vg)]) (λb=>(sV a.l a.at_ d c b.1 b.2.1 b.2.2 [])) (pG f118 bA) (z6 [0,1,2]) ?_ ?_
 .rintro⟨v44,v45,v46,v47,v⟩ r h;refine A ?_;apply ze;apply Xa h y<;>intro R h
  .refine zc<|ze<|zg ?_;obtain⟨p,q40,h⟩:=bs h;refine A ?_;obtain⟨n,q41,h⟩:=bs h;refine A ?_;refine u<|sx [0,1,2] (rk q41)<|zw (VC:=[(9,Vg),(14,iA v),(15,Vk),(160,.isl 4 (map zs c.Code)),(161,iA (length c.Code:Int)),(162,iA v)]) (VJ:=(sV a.l a.at_ d c n.1 n.2.1 n.2.2 [some (4,[(zs p)])])) (zl [0,4,5,3])<|zx ?_;refine ze<|A ?_;apply Xa h y<;>intro S h
   .refine A ?_;apply zA;cases h;exact⟨_,y,_,y,Xb []⟩
   apply zc;obtain⟨L,q43,h⟩:=bs h;refine rg y<|u<|mv y<|u<|mv y<|u<|sx [0,1,2] (rf q43)<|zw (VC:=[(9,Vg),(15,Vk),(160,.isl 4 (map zs c.Code)),(161,iA (length c.Code:Int)),(162,iA v)]) (VJ:=(sV a.l a.at_ d c n.1 n.2.1 L [some (4,[(zs p)])])) (zl [0,1,2,3])<|zx ?_;obtain⟨m,q44,h⟩:=bs h;refine A ?_;refine u<|sx [0,1,2] (pp q44)<|zw (VC:=[(9,Vg),(15,Vk),(160,.isl 4 (map zs c.Code)),(161,iA (length c.Code:Int)),(162,iA v)]) (VJ:=(sV a.l a.at_ d c m.1 m.2.1 m.2.2 [some (4,[(zs p)])])) (zl [0,4,5,3])<|zx ?_;refine zY (X:=Bool) (λz=>[(9,Vg),(15,Vk),(160,.isl 4 (map zs c.Code)),(161,iA (length c.Code:Int)),(162,iA v)]) (λz=>(sV a.l a.at_ d c m.1 m.2.1 z [some (4,[(zs p)])])) (λz=>Dx c v p m z=some r) ?_ ?_
   .refine A ?_;apply Xa h y<;>intro T h;.obtain⟨M,q46,h⟩:=bs h;refine XA [(9,_),(15,_),(160,_),(161,_),(162,_)] (sV a.l a.at_ d c m.1 m.2.1 M [some (4,[(zs p)])]) [7] Y2 [(190,_),(189,_),(188,_),(187,_),(186,_),(185,_),(184,_)] 1 (Xd (z:=by exact⟨(λ_ _=>⟨_,y,y,sx [0,1,2] (iX q46)<|⟨(.tup []),[],[(191,_)],y,y,y,y,Xg (z:=z6 [0,1,2,3])⟩⟩),t⟩)) ?_;exact⟨M,h,zl [0,1,2,3]⟩
    apply zc;exact⟨m.2.2,h,zl [0,1,2,3]⟩
   rintro N h;refine Lc [(9,_),(15,_),(160,_),(161,_),(162,_)] (sV a.l a.at_ d c m.1 m.2.1 (N||(!(decide (((length m.2.1):Int)<=c.Stack)))) [some (4,[(zs p)])]) [12] Y4 [(203,_),(202,_),(201,_),(200,_),(199,_),(198,_),(197,_),(196,_),(195,_),(194,_),(193,_),(192,_)] 1 (Xd (z:=by exact⟨(λ_ _=>⟨_,y,y,sx [0,1,2] (zD a.l a.at_ d c m.1 m.2.1 N (decide (((length m.2.1):Int)<=c.Stack)) y)<|⟨(.tup []),[],[(204,_)],y,y,y,y,Xg (z:=z6 [0,1,2,3])⟩⟩),t⟩)) ?_;refine A ?_;refine A ?_;exact Mh
  apply zr;cases h;exact⟨y,_,y,zl [0,1,2]⟩
 rintro⟨v55,v56,v57⟩ rfl;refine zm<|A ?_;exact F4
instance :VF 118 [Xz 2 XX D,sA b,iA i] (KV D b i) bA:=⟨λ_=>WC D b i⟩
def m7(a:(Option zu)×Int):Option ((Option zu)×Int):=some (a.1,0)
def eZ(a:Int):zL (Int) (Unit) ((Option zu)×Int):=some (.inl (i64.wrap (a+1)))
def Ip(f:(Option zu)×Int)(b:za)(a:Int):zL (Int) (Unit) ((Option zu)×Int):=cond (decide (a<(length b.Methods:Int))) ((idx b.Methods a).bind λc=>(cond (!c.Abstract) ((KV f.1 b.Name a).bind λd=>some (!d)) (some false)).bind λe=>cond e (some (.inr (.inr (none,5)))) (some (.inl (i64.wrap (a+1))))) (some (.inr (.inl ())))
def Io(c:Vr)(e:(Option zu)×Int)(a:Int):zL (Int) (Unit) ((Option zu)×Int):=cond (decide (a<(length c:Int))) ((idx c a).bind λd=>(zk (λz=>Ip e d z) 0).bind λo=>zE o (λb=>eZ a) (λr=>some (.inr (.inr r)))) (some (.inr (.inl ())))
def HL(d:Vr)(e:X9):Option ((Option zu)×Int):=(Wb d).bind λa=>cond (!(a.2==0)) (some (none,a.2)) ((BN a.1).bind λf=>cond (!(f==0)) (some (none,f)) ((Pl a.1 e.C e.M).bind λc=>cond ((((!c.2.2)||(!c.2.1.Static))||(decide (0<(length c.2.1.Params:Int))))||(!(c.2.1.Ret==[86]))) (some (none,4)) ((zk (λz=>Io d a z) 0).bind λo=>zE o (λb=>m7 a) some)))
theorem BZ(a:Vr)(H:X9){r:(Option zu)×Int}(h:HL a H=some r):VD 42 [cL a,.agg (KR H)] (.tup [Xz 2 XX r.1,iA r.2]):=by
 refine zi func42 y kz y (xi (Kk (Zo (λ_=>y)) (y))) ?_;refine A ?_;obtain⟨e,L,h⟩:=bs h;refine A ?_;refine ze<|A ?_;apply Xa h y<;>intro p h
 .refine A ?_;exact F4
 refine zc<|ze ?_;obtain⟨N,E,h⟩:=bs h;refine rg y<|u<|mv y<|u<|pc (gc e.1 E) y y (Kk (Zo (λ_=>y)) (y))<|A ?_;refine A ?_;apply Xa h y<;>intro q h
 .refine A ?_;exact F4
 refine zc<|ze ?_;obtain⟨O,F,h⟩:=bs h;refine A ?_;refine u<|pc (ef e.1 H.C H.M F) y y (Kk (Zo (λ_=>y)) (y))<|A ?_;refine A ?_;apply Xa h y<;>intro s h
 .refine A ?_;exact F4
 refine zc<|ze<|A ?_;obtain⟨o,ho,h⟩:=bs h;refine F7 ho (λz=>[(6,Xz 2 XX e.1),(57,cL a),(58,iA (length a:Int)),(59,iA z)]) (λz=>[]) (λb=>[(6,Xz 2 XX e.1)]) (λb=>[]) (pG f42 (λr=>.tup [Xz 2 XX r.1,iA r.2])) (z6 []) ?_ ?_
 .rintro i r h;refine A ?_;apply ze;apply Xa h y<;>intro l h
  .refine zc<|ze<|zg ?_;obtain⟨f,G,h⟩:=bs h;refine A ?_;refine A ?_;obtain⟨o,ho,h⟩:=bs h;refine LG ho (λz=>[(6,Xz 2 XX e.1),(13,Vg),(57,cL a),(58,iA (length a:Int)),(59,iA i),(64,.isl 10 (map zd f.Methods)),(65,iA (length f.Methods:Int)),(66,iA z)]) (λz=>[some (6,[(zf f)])]) (λb=>[(6,Xz 2 XX e.1),(57,cL a),(58,iA (length a:Int)),(59,iA i)]) (λb=>[]) (pG f42 (λr=>.tup [Xz 2 XX r.1,iA r.2])) (z6 [0]) ?_ ?_ ?_
   .rintro v r h;refine A ?_;apply ze;apply Xa h y<;>intro m h
    .refine zc<|ze<|zg ?_;obtain⟨I,J,h⟩:=bs h;refine A ?_;obtain⟨B,d,h⟩:=bs h;refine A ?_;refine XV (x:=B) (j:=3) 6 y y y y y Lr (λc=>by replace d:=bT c d;obtain⟨K,D,d⟩:=bs d;obtain rfl:=sm d;exact g y c<|mv y<|g y c<|fa ti y y y<|g y c<|ld ti y y<|g y c<|mv y<|g y c<|pc (WC e.1 f.Name v D) y y (Kk (Zo (λ_=>y)) (y))<|g y c<|nt y<|zx (eg [75,76,77,78,79,80] 6 y y y y)) (λhb=>(sm (bF hb d)).symm)<|zx ?_;apply Xa h y<;>intro n h
     .refine A ?_;apply zA;cases h;exact⟨_,y,_,y,Xb []⟩
     refine zc<|A ?_;exact LC
    exact Ll
   .rintro⟨⟩ rfl;refine zm<|A ?_;exact LB
   rintro r' rfl env st hp;cases h;exact⟨_,y,hp⟩
  exact Ll
 rintro⟨⟩ rfl;refine zm<|A ?_;exact F4
instance (H:X9):VF 42 [cL a,.agg (KR H)] (HL a H) (λr=>(.tup [Xz 2 XX r.1,iA r.2])):=⟨λ_=>BZ a H⟩
def S0:Bool:=true
theorem oZ(h:S0=r):VD 117 [] (bA r):=by refine zi func117 y kz y y ?_;unfold S0 at h;refine A ?_;refine rg y<|u<|pc (lS y) y y y<|u<|Lw y<|zx ?_;apply zA;obtain rfl:=h;exact⟨_,y,Xb []⟩
instance:VF 117 [] (some (S0)) bA:=.of λ_=>oZ 
def uU:Option (Bool):=(Wb Km).bind λa=>(Wb ([(za.mk [70,97,99,101] [79,98,106,101,99,116] true [] [] ([(zb.mk [102] [] [73] false true 0 0 [] [] [])])),(za.mk [65,97] [79,98,106,101,99,116] false ([[70,97,99,101]]) ([(zh.mk [120] [73] false),(zh.mk [115] [73] true)]) ([(zb.mk [102] [] [73] false false 1 1 ([(zp.mk 2 0 [] []),(zp.mk 47 0 [] [])]) [] [])])),(za.mk [66,98] [65,97] false [] ([(zh.mk [121] [91,65,97] false)]) ([(zb.mk [109,97,105,110] [] [86] true false 0 0 ([(zp.mk 46 0 [] [])]) [] [])]))])).bind λb=>cond ((!(a.2==0))||(!(b.2==0))) (some false) ((cond (S0) ((KV a.1 [65,97] 0).bind λj=>some j) (some false)).bind λl=>(cond l ((KV a.1 [66,98] 0).bind λm=>some m) (some false)).bind λn=>(cond n ((KV b.1 [65,97] 0).bind λo=>some (!o)) (some false)).bind λp=>(cond p ((KV a.1 [70,97,99,101] 0).bind λq=>some (!q)) (some false)).bind λc=>(cond c ((KV a.1 [65,97] 1).bind λd=>some (!d)) (some false)).bind λe=>(cond e ((KV a.1 [90,122] 0).bind λf=>some (!f)) (some false)).bind λi=>some i)
theorem mw(h:uU=some r):VD 34 [] (bA r):=by
 refine zi func34 y kz y y<|A ?_;obtain⟨f,H,h⟩:=bs h;refine rg y<|u<|sx [] (Wj y)<|zw (VC:=[(7,.msl 0 0 3)]) (VJ:=NH) (zl [0,1,2,3,4,5,6,7,8])<|zw (VC:=[(7,.isl 6 (map zf Km))]) (VJ:=[]) (zl [])<|u<|pc (Ta Km H) y y y<|A ?_;refine rg y<|u<|sx [] (Wj y)<|zw (VC:=[(1,Xz 2 XX f.1),(2,iA f.2),(11,.msl 0 0 3)]) (VJ:=NH) (zl [0,1,2,3,4,5,6,7,8])<|A ?_;refine rg y<|u<|mv y<|u<|Mz ti y ti y y y<|A ?_;refine u<|Mz ti y ti y y y<|A ?_;refine u<|Mz ti y ti y y y<|A ?_;obtain⟨I,J,h⟩:=bs h;refine rg y<|u<|mv y<|zw (VC:=[(1,Xz 2 XX f.1),(2,iA f.2),(22,.isl 6 (map zf ([(za.mk [70,97,99,101] [79,98,106,101,99,116] true [] [] ([(zb.mk [102] [] [73] false true 0 0 [] [] [])])),(za.mk [65,97] [79,98,106,101,99,116] false ([[70,97,99,101]]) ([(zh.mk [120] [73] false),(zh.mk [115] [73] true)]) ([(zb.mk [102] [] [73] false false 1 1 ([(zp.mk 2 0 [] []),(zp.mk 47 0 [] [])]) [] [])])),(za.mk [66,98] [65,97] false [] ([(zh.mk [121] [91,65,97] false)]) ([(zb.mk [109,97,105,110] [] [86] true false 0 0 ([(zp.mk 46 0 [] [])]) [] [])]))])))]) (VJ:=[]) (zl [])<|u<|pc (Ta ([(za.mk [70,97,99,101] [79,98,106,101,99,116] true [] [] ([(zb.mk [102] [] [73] false true 0 0 [] [] [])])),(za.mk [65,97] [79,98,106,101,99,116] false ([[70,97,99,101]]) ([(zh.mk [120] [73] false),(zh.mk [115] [73] true)]) ([(zb.mk [102] [] [73] false false 1 1 ([(zp.mk 2 0 [] []),(zp.mk 47 0 [] [])]) [] [])])),(za.mk [66,98] [65,97] false [] ([(zh.mk [121] [91,65,97] false)]) ([(zb.mk [109,97,105,110] [] [86] true false 0 0 ([(zp.mk 46 0 [] [])]) [] [])]))]) J) y y y<|A ?_;refine ze<|A ?_;apply Xa h y<;>intro s h
 .refine A ?_;exact F4
 apply zc;obtain⟨K,o,L,a,M,b,v,c,h⟩:=Me h;obtain⟨B,d,C,e,h⟩:=F6 h;refine rg y<|u<|pc (oZ y) y y y<|u<|mv y<|XV (x:=K) (j:=1) 2 y y y y y Lr (λp=>by replace o:=bT p o;obtain⟨R,N,o⟩:=bs o;obtain rfl:=sm o;exact g y p<|mv y<|g y p<|pc (WC f.1 [65,97] 0 N) y y (Kk (Zo (λ_=>y)) (y))<|zx (eg [34,35] 2 y y y y)) (λhb=>(sm (bF hb o)).symm)<|u<|mv y<|XV (x:=L) (j:=5) 2 y y y y y Lr (λq=>by replace a:=bT q a;obtain⟨S,O,a⟩:=bs a;obtain rfl:=sm a;exact g y q<|mv y<|g y q<|pc (WC f.1 [66,98] 0 O) y y (Kk (Zo (λ_=>y)) (y))<|zx (eg [38,39] 2 y y y y)) (λhb=>(sm (bF hb a)).symm)<|u<|mv y<|XV (x:=M) (j:=9) 3 y y y y y Lr (λi=>by replace b:=bT i b;obtain⟨T,D,b⟩:=bs b;obtain rfl:=sm b;exact g y i<|mv y<|g y i<|pc (WC I.1 [65,97] 0 D) y y (Kk (Zo (λ_=>y)) (y))<|g y i<|nt y<|zx (eg [42,43,44] 3 y y y y)) (λhb=>(sm (bF hb b)).symm)<|u<|mv y<|XV (x:=v) (j:=14) 3 y y y y y Lr (λl=>by replace c:=bT l c;obtain⟨U,E,c⟩:=bs c;obtain rfl:=sm c;exact g y l<|mv y<|g y l<|pc (WC f.1 [70,97,99,101] 0 E) y y (Kk (Zo (λ_=>y)) (y))<|g y l<|nt y<|zx (eg [47,48,49] 3 y y y y)) (λhb=>(sm (bF hb c)).symm)<|u<|mv y<|XV (x:=B) (j:=19) 3 y y y y y Lr (λm=>by replace d:=bT m d;obtain⟨P,F,d⟩:=bs d;obtain rfl:=sm d;exact g y m<|mv y<|g y m<|pc (WC f.1 [65,97] 1 F) y y (Kk (Zo (λ_=>y)) (y))<|g y m<|nt y<|zx (eg [52,53,54] 3 y y y y)) (λhb=>(sm (bF hb d)).symm)<|u<|mv y<|XV (x:=C) (j:=24) 3 y y y y y Lr (λn=>by replace e:=bT n e;obtain⟨Q,G,e⟩:=bs e;obtain rfl:=sm e;exact g y n<|mv y<|g y n<|pc (WC f.1 [90,122] 0 G) y y (Kk (Zo (λ_=>y)) (y))<|g y n<|nt y<|zx (eg [57,58,59] 3 y y y y)) (λhb=>(sm (bF hb e)).symm)<|u<|Lw y<|zx ?_;exact F4
instance:VF 34 [] (uU) bA:=⟨λ_=>mw ⟩
def uV:Option (Bool):=(uU).bind λa=>some a
theorem mN(h:uV=some r):VD 120 [] (bA r):=by refine zi func120 y kz y y<|A ?_;obtain⟨a,b,h⟩:=bs h;refine A ?_;exact F4
instance:VF 120 [] (uV) bA:=⟨λ_=>mN ⟩
def uS:Option (Bool):=(HL Km (X9.mk [66,98] [109,97,105,110])).bind λa=>(HL Km (X9.mk [66,98] [102])).bind λb=>(HL ([(za.mk [70,97,99,101] [79,98,106,101,99,116] true [] [] ([(zb.mk [102] [] [73] false true 0 0 [] [] [])])),(za.mk [65,97] [79,98,106,101,99,116] false ([[70,97,99,101]]) ([(zh.mk [120] [73] false),(zh.mk [115] [73] true)]) []),(za.mk [66,98] [65,97] false [] ([(zh.mk [121] [91,65,97] false)]) ([(zb.mk [109,97,105,110] [] [86] true false 0 0 ([(zp.mk 46 0 [] [])]) [] [])]))]) (X9.mk [66,98] [109,97,105,110])).bind λc=>(uV).bind λd=>(cond ((((d&&(a.2==0))&&(!Option.isNone a.1))&&(b.2==4))&&(c.2==1)) ((BN a.1).bind λe=>some (e==0)) (some false)).bind λf=>some f
theorem mu(h:uS=some r):VD 36 [] (bA r):=by refine zi func36 y kz y y<|A ?_;obtain⟨b,i,h⟩:=bs h;refine rg y<|u<|sx [] (Wj y)<|zw (VC:=[(9,.msl 0 0 3)]) (VJ:=NH) (zl [0,1,2,3,4,5,6,7,8])<|u<|bd ti y y y<|zw (VC:=[(9,.isl 6 (map zf Km)),(10,.agg [sA [66,98],sA [109,97,105,110]])]) (VJ:=[]) (zl [])<|u<|pc (BZ Km (X9.mk [66,98] [109,97,105,110]) i) y y y<|A ?_;obtain⟨e,l,h⟩:=bs h;refine rg y<|u<|sx [] (Wj y)<|zw (VC:=[(1,Xz 2 XX b.1),(2,iA b.2),(15,.msl 0 0 3)]) (VJ:=NH) (zl [0,1,2,3,4,5,6,7,8])<|u<|bd ti y y y<|zw (VC:=[(1,Xz 2 XX b.1),(2,iA b.2),(15,.isl 6 (map zf Km)),(16,.agg [sA [66,98],sA [102]])]) (VJ:=[]) (zl [])<|u<|pc (BZ Km (X9.mk [66,98] [102]) l) y y y<|A ?_;refine rg y<|u<|sx [] (Wj y)<|zw (VC:=[(1,Xz 2 XX b.1),(2,iA b.2),(4,iA e.2),(20,.msl 0 0 3)]) (VJ:=NH) (zl [0,1,2,3,4,5,6,7,8])<|A ?_;refine rg y<|u<|mv y<|u<|Mz ti y ti y y y<|A ?_;obtain⟨o,m,h⟩:=bs h;refine A ?_;refine zw (VC:=[(1,Xz 2 XX b.1),(2,iA b.2),(4,iA e.2),(25,.isl 6 (map zf ([(za.mk [70,97,99,101] [79,98,106,101,99,116] true [] [] ([(zb.mk [102] [] [73] false true 0 0 [] [] [])])),(za.mk [65,97] [79,98,106,101,99,116] false ([[70,97,99,101]]) ([(zh.mk [120] [73] false),(zh.mk [115] [73] true)]) []),(za.mk [66,98] [65,97] false [] ([(zh.mk [121] [91,65,97] false)]) ([(zb.mk [109,97,105,110] [] [86] true false 0 0 ([(zp.mk 46 0 [] [])]) [] [])]))]))),(26,.agg [sA [66,98],sA [109,97,105,110]])]) (VJ:=[]) (zl [])<|u<|pc (BZ ([(za.mk [70,97,99,101] [79,98,106,101,99,116] true [] [] ([(zb.mk [102] [] [73] false true 0 0 [] [] [])])),(za.mk [65,97] [79,98,106,101,99,116] false ([[70,97,99,101]]) ([(zh.mk [120] [73] false),(zh.mk [115] [73] true)]) []),(za.mk [66,98] [65,97] false [] ([(zh.mk [121] [91,65,97] false)]) ([(zb.mk [109,97,105,110] [] [86] true false 0 0 ([(zp.mk 46 0 [] [])]) [] [])]))]) (X9.mk [66,98] [109,97,105,110]) m) y y y<|A ?_;obtain⟨p,q,n,a,h⟩:=F6 h;refine A ?_;refine XV (j:=5) 2 y y y y y Lr (λd=>g y d<|mv y<|g y d<|sa ti y y y<|zx (LY [36,37] 2 d y y y y)) Uu<|A ?_;refine XV (x:=n) (j:=17) 3 y y y y y Lr (λc=>by replace a:=bT c a;obtain⟨s,f,a⟩:=bs a;obtain rfl:=sm a;exact g y c<|mv y<|g y c<|pc (gc b.1 f) y y (Kk (Zo (λ_=>y)) (y))<|g y c<|eql ti y y<|zx (eg [48,49,50] 3 y y y y)) (λhb=>(sm (bF hb a)).symm)<|A ?_;exact F4
instance:VF 36 [] (uS) bA:=⟨λ_=>mu ⟩
def rK(h0:Vr)(c:T0)(m:zb)(x0:AV)(x1:AV)(x2:AV):Vt:=[.ipt 1 [[cL h0]] 0 0,sA c,sA m.Name,tL m.Params,sA m.Ret,bA m.Static,bA m.Abstract,iA m.Locals,iA m.Stack,.isl 4 (map zs m.Code),.isl 3 (map zV m.Maps),.isl 4 (map XF m.Traps),x0,x1,x2]
abbrev sR(h0:Vr)(c:T0)(m:zb)(x y:T1)(b:Bool)(t:St):St:=some (15,[rK h0 c m (.isl 1 (x.map Xe)) (.isl 1 (y.map Xe)) (bA b)])::t
abbrev tR(h0:Vr)(c:T0)(m:zb)(x y:T1)(b:Bool)(t:Vz):Vz:=.one 15 (rK h0 c m (.isl 1 (x.map Xe)) (.isl 1 (y.map Xe)) (bA b))::t
structure HF where
  locals:T1
  stack:T1
def zDD(x:HF):Vt:=[tL x.locals,tL x.stack]
def lq(a:T0)(b:Int):Option (T0×Int):=some (a,b)
def EH(a:T0)(b:Int):zL (T0×Int) (T0×Int) (T0×Int):=(cond (decide (0<(length a:Int))) ((idx a 0).bind λe=>some ((e.toNat:Int)==91)) (some false)).bind λc=>cond c ((XR a 1 (length a:Int)).bind λd=>some (.inl (d,(i64.wrap (b+1))))) (some (.inr (.inl (a,b))))
def Bu(a:T0):Option (T0×Int):=(zk (λz=>EH z.1 z.2) (a,0)).bind λo=>zE o (λb=>lq b.1 b.2) some
instance (d:T0):VF 289 [sA d] (Bu d) (λr=>(.tup [sA r.1,iA r.2])):=⟨λr h=>by
 refine zi func289 y kz y y<|A ?_;refine A ?_;obtain⟨o,ho,h⟩:=bs h;refine Nr ho (λz=>[(0,sA z.1),(4,iA z.2)]) (λz=>[]) (λb=>[(0,sA b.1),(4,iA b.2)]) (λb=>[]) (pG f289 (λr=>.tup [sA r.1,iA r.2])) (z6 []) ?_ ?_
 .rintro⟨f,n⟩ r h;apply ze;obtain⟨i,p,h⟩:=bs h;refine A ?_;apply Xa h y<;>intro e h;.refine zc<|zg ?_;obtain⟨j,c,h⟩:=bs h;refine rg y<|u<|mv y<|u<|Mm (a:=1) (b:=(length f:Int)) ti y y (Gc y c) y c<|A ?_;refine A ?_;exact LB
  exact Ll
 rintro⟨l,m⟩ rfl;refine A ?_
 exact F4⟩
def zS(c:Vr)(a:T0):Option (Bool):=(Gz a).bind λd=>cond (!d) (some false) ((Bu a).bind λb=>(cond (b.1==[73]) (some true) ((zR c b.1).bind λe=>some (decide (0<=e)))).bind λf=>some f)
instance :VF 205 [.ipt 1 [[cL a]] 0 0,sA b] (zS a b) bA:=⟨λr h=>by
 refine zi func205 y kz y y<|A ?_;apply ze;obtain⟨d,e,h⟩:=bs h;refine A ?_;apply Xa h y<;>intro c h
 .refine A ?_;exact F4
 apply zc;obtain⟨f,i,h⟩:=bs h;refine A ?_;obtain⟨j,l,h⟩:=bs h;refine A ?_
 exact F4⟩
def ia(a:Vr)(b:T0)(c:zb)(d:Bool)(e:Bool):Unit:=()
theorem gi(a:Vr)(b:T0)(c:zb)(f:Bool)(C:Bool){r:Unit}(h:ia a b c f C=r):VE 204 [Vg,bA C] [.one 15 (rK a b c (nS) (nS) (bA f))] (.tup []) [.one 15 (rK a b c (nS) (nS) (bA (f||(!C))))]:=by refine⟨⟨t,t⟩,zK func204 y kz y ?_⟩;unfold ia at h;refine A ?_;obtain rfl:=h;exact⟨_,y,Xb [0]⟩
def pm(a:T1):Option (T1):=some a
def gH(c:zb)(a:T1):zL (T1) (T1) (T1):=cond (decide (((length a):Int)<c.Locals)) ((Xu 16 a ([[84]])).bind λb=>some (.inl b)) (some (.inr (.inl a)))
def Rb(a:zb)(c:T1):Option (T1):=(Xu 16 c a.Params).bind λd=>(zk (λz=>gH a z) d).bind λo=>zE o (λb=>pm b) some
def PU(e:Vr)(c:T0)(a:zb)(b:T1)(f:T1)(i:Bool):Option (T1):=cond (!a.Static) ((Xu 16 b [c]).bind λd=>Rb a d) (Rb a b)
theorem pj{e:T0}{i:Bool}{r:T1}(h:PU a e c d l i=some r):VE 206 [Vg] [.one 15 (rK a e c (.msl 1 0 (length d)) (.msl 2 0 (length l)) (bA i)),.many 1 (map Xe d),.many 1 (map Xe l)] (.tup []) [.one 15 (rK a e c (.msl 3 0 (length r)) (.msl 2 0 (length l)) (bA i)),.no,.many 1 (map Xe l),.many 1 (map Xe r)]:=by
 refine⟨⟨t,t,Xo (sz:=1) (λ_=>y),Xo (sz:=1) (λ_=>y),t⟩,zK func206 y kz y ?_⟩;refine zY (X:=T1) (λz=>[(0,Vg)]) (λz=>[some (15,[(rK a e c (.msl 3 0 (length z)) (.msl 2 0 (length l)) (bA i))]),none,sT l,sT z]) (λz=>Rb c z=some r) ?_ ?_
 .refine A ?_;apply Xa h y<;>intro p h;.obtain⟨j,s,h⟩:=bs h;refine XA [(0,_)] [some (15,[(rK a e c (.msl 3 0 (length j)) (.msl 2 0 (length l)) (bA i))]),none,sT l,sT j] [10,11,15] Va [(17,_),(16,_),(15,_),(14,_),(13,_),(12,_),(11,_),(10,_),(9,_),(8,_)] 3 (Xd (z:=by exact⟨(λ_ _=>⟨_,y,y,bl 3 ti y ti y YB YB y y y<|⟨(.msl 3 0 1),[],[(18,_)],y,y,y,y,Xd (z:=by exact⟨nv,(λ_ _=>⟨_,y,y,Lo 4 ti y ti y y YB ti y y y y (Lx (f:=Xe) (z:=[e]) y y) (λ_=>y) y s<|⟨(.msl 4 0 (length j)),[12,13,14],[(22,_),(21,_),(20,_),(19,_)],y,y,y,y,Xd (z:=by exact⟨nv,nv,(λ_ _=>⟨_,y,y,La ti y y y<|⟨.any,[],[],y,y,y,t,Xg (z:=z6 [0,.dead,2,4])⟩⟩),t⟩)⟩⟩),nw,t⟩)⟩⟩),nw,nw,t⟩)) ?_;exact⟨j,h,zl [0,.dead,2,3]⟩
  apply zc;exact⟨d,h,zl [0,.dead,2,1]⟩
 rintro D h;obtain⟨n,v,h⟩:=bs h;refine Lc [(0,_)] [some (15,[(rK a e c (.msl 3 0 (length n)) (.msl 2 0 (length l)) (bA i))]),none,sT l,sT n] [11,15] Y0 [(33,_),(32,_),(31,_),(30,_),(29,_),(28,_),(27,_),(26,_),(25,_),(24,_),(23,_)] 2 (Xd (z:=by exact⟨(λ_ _=>⟨_,y,y,Lo 4 ti y ti y y YB ti y y y y Mc (λ_=>y) y v<|⟨(.msl 4 0 (length n)),[12,13,14],[(37,_),(36,_),(35,_),(34,_)],y,y,y,y,Xd (z:=by exact⟨nv,(λ_ _=>⟨_,y,y,La ti y y y<|⟨.any,[],[],y,y,y,t,Xg (z:=z6 [0,.dead,2,4])⟩⟩),t⟩)⟩⟩),nw,t⟩)) ?_;obtain⟨o,ho,h⟩:=bs h;refine F7 ho (λz=>[(0,Vg)]) (λz=>[some (15,[(rK a e c (.msl 3 0 (length z)) (.msl 2 0 (length l)) (bA i))]),none,sT l,sT z]) (λb=>[]) (λb=>[some (15,[(rK a e c (.msl 3 0 (length b)) (.msl 2 0 (length l)) (bA i))]),none,sT l,sT b]) (λr env st=>Uy prog f206 3 (.tup []) [some (15,[(rK a e c (.msl 3 0 (length r)) (.msl 2 0 (length l)) (bA i))]),none,sT l,sT r] env st) (z6 [0,.dead,2,3]) ?_ ?_
 .rintro m r h;apply ze;refine Lc [(0,_),(49,_)] [some (15,[(rK a e c (.msl 3 0 (length m)) (.msl 2 0 (length l)) (bA i))]),none,sT l,sT m] [] Y4 [(49,_),(48,_),(47,_),(46,_),(45,_),(44,_),(43,_),(42,_),(41,_),(40,_),(39,_),(38,_)] 0 (Xg (z:=z6 [0,.dead,2,3])) ?_;apply Xa h y<;>intro q h;.refine zc<|zg ?_;obtain⟨B,x,h⟩:=bs h;refine A ?_;refine u<|Lo 5 ti y ti y y YB ti y y y y (Lx (f:=Xe) (z:=[[84]]) y y) (λ_=>y) y x<|A ?_;cases h;exact⟨_,y,zl [0,.dead,2,5]⟩
  apply zr;cases h;exact⟨y,_,y,zl [0,.dead,2,3]⟩
 rintro C rfl;apply zm;cases h;exact⟨_,y,Xb [0,.dead,2,3]⟩
def pd:Option (zZ×Bool):=some ((zZ.mk 0 [] []),false)
def MS(b:zb)(e:Int)(a:Int):zL (Int) (Unit) (zZ×Bool):=cond (decide (a<(length b.Maps:Int))) ((idx b.Maps a).bind λc=>cond (c.At==e) ((idx b.Maps a).bind λd=>some (.inr (.inr (d,true)))) (some (.inl (i64.wrap (a+1))))) (some (.inr (.inl ())))
def Oh(d:Vr)(e:T0)(a:zb)(f:T1)(i:T1)(j:Bool)(c:Int):Option (zZ×Bool):=(zk (λz=>MS a c z) 0).bind λo=>zE o (λb=>pd) some
theorem gG{e:T0}{r:zZ×Bool}(h:Oh a e c d l f i=some r):VE 207 [Vg,iA i] (tR a e c d l f []) (.tup [.agg (zV r.1),bA r.2]) (tR a e c d l f []):=by
 refine⟨⟨t,t⟩,zK func207 y kz y ?_⟩;refine A ?_;refine ze<|A ?_;obtain⟨o,ho,h⟩:=bs h;refine F7 ho (λz=>[(0,Vg),(1,iA i),(4,Vh),(6,iA z)]) (λz=>(sR a e c d l f [some (3,[[iA 0,nS,nS]])])) (λb=>[(4,Vh)]) (λb=>(sR a e c d l f [some (3,[[iA 0,nS,nS]])])) (λr env st=>Uy prog f207 1 (.tup [.agg (zV r.1),bA r.2]) (sR a e c d l f []) env st) (z6 [0,1]) ?_ ?_
 .rintro n r h;refine ze<|A ?_;apply Xa h y<;>intro j h
  .refine zc<|ze<|zg ?_;obtain⟨p,s,h⟩:=bs h;refine A ?_;apply Xa h y<;>intro m h
   .obtain⟨q,v,h⟩:=bs h;refine A ?_;apply zA;cases h;exact⟨_,y,_,y,Xb [0]⟩
   refine zc<|A ?_;exact LH
  exact LW
 rintro⟨⟩ rfl;refine zm<|A ?_;exact LP
def pw(a:T1):Option (T1):=some a
def Oz(c:Vr)(b:T1)(a:Int):zL (T1×Int) (T1) (T1):=cond (decide (0<=a)) ((idx c a).bind λd=>(Xu 16 b [d.Name]).bind λe=>(idx c a).bind λf=>(zR c f.Super).bind λi=>some (.inl (e,i))) (some (.inr (.inl b)))
def KY(a:Vr)(c:T0):Option (T1):=(zR a c).bind λd=>(zk (λz=>Oz a z.1 z.2) ([],d)).bind λo=>zE o (λb=>pw b) some
theorem GL{c:T0}{r:T1}(h:KY a c=some r):VE 142 [.ipt 1 [[cL a]] 0 0,sA c] [] (.msl 0 0 (length r)) [.many 1 (map Xe r)]:=by
 refine⟨⟨Xo (sz:=1) (λ_=>y),t⟩,zK func142 y kz y ?_⟩;refine A ?_;refine A ?_;apply ze;obtain⟨x,B,h⟩:=bs h;refine A ?_;obtain⟨o,ho,h⟩:=bs h;refine F7 ho (λz=>[(0,.ipt 1 [[cL a]] 0 0),(5,.msl 0 0 (length z.1)),(6,iA z.2)]) (λz=>[sT z.1]) (λb=>[(5,.msl 0 0 (length b))]) (λb=>[sT b]) (pF f142 (λr=>.msl 0 0 (length r)) λr=>[sT r]) ⟨[.fresh 1],ce y y<|cv y (.nilown y)<|ce y y<|cn,y,⟨w,t⟩,y,k⟩ ?_ ?_
 .rintro⟨j,l⟩ r h;refine ze<|A ?_;apply Xa h y<;>intro d h
  .refine zc<|ze<|zg ?_;obtain⟨e,C,m,i,h⟩:=F6 h;refine A ?_;refine u<|Lo 2 ti y ti y y YB ti y y y y (Lx (f:=Xe) (z:=[e.Name]) y y) (λ_=>y) y i<|A ?_;obtain⟨n,p,q,s,h⟩:=F6 h;refine A ?_;cases h;exact⟨_,y,zl [2]⟩
  exact Lv
 rintro v rfl;refine zm<|A ?_;exact LP
def zA0:Option (Bool):=some false
def ES(b:T1)(c:T0)(a:Int):zL (Int) (Unit) (Bool):=cond (decide (a<(length b:Int))) ((idx b a).bind λd=>cond (d==c) (some (.inr (.inr true))) (some (.inl (i64.wrap (a+1))))) (some (.inr (.inl ())))
def D9(a:T1)(c:T0):Option (Bool):=(zk (λz=>ES a c z) 0).bind λo=>zE o (λb=>zA0) some
theorem Wl(d:T1)(a:T0)(h:D9 d a=some r):VD 344 [tL d,sA a] (bA r):=by
 refine zi func344 y kz y y<|A ?_;refine ze<|A ?_;obtain⟨o,ho,h⟩:=bs h;refine F7 ho (λz=>[(0,tL d),(1,sA a),(5,iA z)]) (λz=>[]) (λb=>[]) (λb=>[]) (pG f344 bA) (z6 []) ?_ ?_
 .rintro f r h;refine ze<|A ?_;apply Xa h y<;>intro c h
  .refine zc<|ze<|zg ?_;obtain⟨i,j,h⟩:=bs h;refine A ?_;apply Xa h y<;>intro e h
   .refine A ?_;apply zA;cases h;exact⟨_,y,_,y,Xb []⟩
   refine zc<|A ?_;exact LB
  exact Ll
 rintro⟨⟩ rfl;refine zm<|A ?_;exact F4
instance :VF 344 [tL d,sA b] (D9 d b) bA:=⟨λ_=>Wl d b⟩
def eG(a:T1)(j:T0)(b:Int):Option (T1):=(XR a 0 b).bind λc=>(Xu 16 ([]:T1) c).bind λd=>(XR a b (length a:Int)).bind λe=>(Xu 16 d [j]).bind λf=>(Xu 16 f e).bind λi=>some i
def Wt(b:T1)(c:T0)(a:Int):zL (Int) (Int) (T1):=(cond (decide (a<(length b:Int))) ((idx b a).bind λd=>some (Op.bytesLess d c)) (some false)).bind λe=>cond e (some (.inl (i64.wrap (a+1)))) (some (.inr (.inl a)))
def Tg(a:T1)(c:T0):Option (T1):=(zk (λz=>Wt a c z) 0).bind λo=>zE o (λb=>eG a c b) some
theorem l6{e:T0}{r:T1}(h:Tg d e=some r):VE 351 [tL d,sA e] [] (.msl 0 0 (length r)) [.many 1 (map Xe r)]:=by
 refine⟨⟨Xo (sz:=1) (λ_=>y),t⟩,zK func351 y kz y ?_⟩;refine A ?_;refine A ?_;obtain⟨o,ho,h⟩:=bs h;refine Nr ho (λz=>[(0,tL d),(1,sA e),(5,iA z)]) (λz=>[]) (λb=>[(0,tL d),(1,sA e),(5,iA b)]) (λb=>[]) (pF f351 (λr=>.msl 0 0 (length r)) λr=>[sT r]) (z6 []) ?_ ?_
 .rintro C r h;apply ze;obtain⟨D,E,h⟩:=bs h;refine A ?_;apply Xa h y<;>intro l h;.refine zc<|zg<|A ?_;exact LB
  exact Ll
 rintro j rfl;obtain⟨v,m,x,n,h⟩:=F6 h;refine A ?_;refine u<|Mi (a:=0) (b:=j) ti y ti y y y (H8 y m) m<|u<|MO (f:=Xe) 0 ti y ti y y YB ti y y y Mc (λ_=>y) y n<|A ?_;obtain⟨B,c,p,q,i,s,h⟩:=LA h;refine Lc [(4,.msl 0 0 (length i))] [sT i] [2,3,7] [0,1,4,5,6] [(31,_),(30,_),(29,_),(26,_),(25,_)] 3 (Xd ⟨F1,F1,F1,F1,(by exact pb y (Mi (a:=j) (b:=(length d:Int)) ti y ti y y (Gc y c) y c<|w)),t⟩ (by exact⟨(λ_ _=>⟨_,y,y,bl 1 ti y ti y YB YB y y y<|⟨(.msl 1 0 1),[],[(27,_)],y,y,y,y,Xd ⟨F1,F1,F1,F1,(by exact pb y (Mi (a:=j) (b:=(length d:Int)) ti y ti y y (Gc y c) y c<|w)),t⟩ (by exact⟨nv,(λ_ _=>⟨_,y,y,Lo 2 ti y ti y y YB ti y y y y (Lx (f:=Xe) (z:=[e]) y y) (λ_=>y) y q<|⟨(.msl 2 0 (length p)),[],[(28,_)],y,y,y,y,Xd ⟨F1,F1,F1,F1,(by exact pb y (Mi (a:=j) (b:=(length d:Int)) ti y ti y y (Gc y c) y c<|w)),t⟩ (by exact⟨nv,nv,(λ_ _=>⟨_,y,y,Lo 3 ti y ti y y YB ti y y y y Mc (λ_=>y) y s<|⟨(.msl 3 0 (length i)),[8],[(4,_),(32,_)],y,y,y,y,Xg (z:=z6 [3])⟩⟩),t⟩)⟩⟩),nw,t⟩)⟩⟩),nw,nw,t⟩)) ?_;exact LP
def nT(a:T1):Option (T1):=some a
def AD(a:Int)(b:T1):zL (T1×Int) (T1) (T1):=some (.inl (b,(i64.wrap (a+1))))
def DD(i:Vr)(c:List Bool)(b:T1)(a:Int):zL (T1×Int) (T1) (T1):=cond (decide (a<(length i:Int))) ((idx c a).bind λd=>cond d ((idx i a).bind λe=>(Tg b e.Name).bind λf=>AD a f) (AD a b)) (some (.inr (.inl b)))
def iN(c:Vr)(a:List Bool):Option (T1):=(zk (λz=>DD c a z.1 z.2) ([],0)).bind λo=>zE o (λb=>nT b) some
def nU(a:List Bool)(b:Bool):zL ((List Bool)×Bool) ((List Bool)) (T1):=some (.inl (a,b))
def AE(a:Int)(b:List Bool)(c:Bool):zL ((List Bool)×Bool×Int) ((List Bool)×Bool) (T1):=some (.inl (b,c,(i64.wrap (a+1))))
def AC(a:Int)(b:List Bool)(c:Bool):zL ((List Bool)×Bool×Int) ((List Bool)×Bool) (T1):=AE a b c
def AF(a:Int)(b:List Bool)(c:Bool):zL ((List Bool)×Bool×Int) ((List Bool)×Bool) (T1):=some (.inl (b,c,(i64.wrap (a+1))))
def I3(j:Vr)(d:za)(a:List Bool)(e:Bool)(b:Int):zL ((List Bool)×Bool×Int) ((List Bool)×Bool) (T1):=cond (decide (b<(length d.Impl:Int))) ((idx d.Impl b).bind λf=>(zR j f).bind λc=>(idx a c).bind λi=>cond (!i) ((idx a c).bind λl=>AF b (List.set a (Int.toNat c) true) true) (AF b a e)) (some (.inr (.inl (a,e))))
def I2(f:Vr)(m:T1)(c:List Bool)(d:Bool)(a:Int):zL ((List Bool)×Bool×Int) ((List Bool)×Bool) (T1):=cond (decide (a<(length f:Int))) ((idx f a).bind λe=>(idx c a).bind λi=>(cond (!i) ((D9 m e.Name).bind λj=>some (!j)) (some false)).bind λl=>cond l (AE a c d) ((zk (λz=>I3 f e z.1 z.2.1 z.2.2) (c,d,0)).bind λo=>zE o (λb=>AC a b.1 b.2) (λr=>some (.inr (.inr r))))) (some (.inr (.inl (c,d))))
def AB(d:Vr)(e:T1)(a:List Bool)(c:Bool):zL ((List Bool)×Bool) ((List Bool)) (T1):=cond c ((zk (λz=>I2 d e z.1 z.2.1 z.2.2) (a,false,0)).bind λo=>zE o (λb=>nU b.1 b.2) (λr=>some (.inr (.inr r)))) (some (.inr (.inl a)))
def PX(a:Vr)(c:T0)(d:List Bool):Option (T1):=(KY a c).bind λe=>(zk (λz=>AB a e z.1 z.2) (d,true)).bind λo=>zE o (λb=>iN a b) some
def If(a:Vr)(c:T0):Option (T1):=(Mj 1 (length a:Int)).bind λd=>(zR a c).bind λb=>cond (decide (b<0)) (some []) ((idx a b).bind λe=>cond e.Interface ((idx (List.replicate d false) b).bind λf=>PX a c (List.set (List.replicate d false) (Int.toNat b) true)) (PX a c (List.replicate d false)))
theorem ge{s:T0}{r:T1}(h:If a s=some r):VE 313 [.ipt 1 [[cL a]] 0 0,sA s] [] (.msl 0 0 (length r)) [.many 1 (map Xe r)]:=by
 refine⟨⟨Xo (sz:=1) (λ_=>y),t⟩,zK func313 y kz y ?_⟩;refine A ?_;obtain⟨R,Z,h⟩:=bs h;refine A ?_;refine u<|wB (f:=rB) (z:=false) 0 ti y ti y y y y y y Z<|A ?_;obtain⟨v4,q2,h⟩:=bs h;refine A ?_;refine ze<|A ?_;apply Xa h y<;>intro S h
 .refine A ?_;apply zA;cases h;exact⟨_,y,[.fresh 1],.nilown y,y,⟨w,t⟩,y,k⟩
 apply zc;refine zY (X:=(List Bool)) (λz=>[(0,.ipt 1 [[cL a]] 0 0),(1,sA s),(5,.msl 0 0 (length z))]) (λz=>[some (1,map rB z)]) (λz=>PX a s z=some r) ?_ ?_
 .obtain⟨v5,q4,h⟩:=bs h;refine A ?_;apply Xa h y<;>intro T h;.obtain⟨v6,q6,h⟩:=bs h;refine A ?_;exact u<|W4 (c':=true) ti y y (zT q6).2.2 y y y y y<|zx (⟨(List.set (List.replicate R false) (Int.toNat v4) true),h,[0],ce y y<|ce y y<|cv y (HX (by simp) y)<|cn,y,⟨⟨_,y,XL (λ_=>y)⟩,t⟩,y,k⟩)
  apply zc;exact⟨(List.replicate R false),h,zl [0]⟩
 rintro U h;obtain⟨c,q7,h⟩:=bs h;refine A ?_;refine u<|sx [] (GL q7)<|zw (VC:=[(0,.ipt 1 [[cL a]] 0 0),(5,.msl 0 0 (length U)),(39,.msl 1 0 (length c))]) (VJ:=[some (1,map rB U),sT c]) (zl [0,1])<|A ?_;refine ze<|A ?_;obtain⟨o,ho,h⟩:=bs h;refine F7 ho (λz=>[(0,.ipt 1 [[cL a]] 0 0),(5,.msl 0 0 (length z.1)),(7,.msl 1 0 (length c)),(8,bA z.2)]) (λz=>[some (1,map rB z.1),sT c]) (λb=>[(0,.ipt 1 [[cL a]] 0 0),(5,.msl 0 0 (length b))]) (λb=>[some (1,map rB b)]) (pF f313 (λr=>.msl 0 0 (length r)) λr=>[sT r]) (z6 [0,1]) ?_ ?_
 .rintro⟨v71,v72⟩ r h;refine ze<|A ?_;apply Xa h y<;>intro F h
  .refine zc<|zg<|A ?_;refine A ?_;obtain⟨o,ho,h⟩:=bs h;refine LG ho (λz=>[(0,.ipt 1 [[cL a]] 0 0),(5,.msl 0 0 (length z.1)),(7,.msl 1 0 (length c)),(8,bA z.2.1),(9,iA z.2.2)]) (λz=>[some (1,map rB z.1),sT c]) (λb=>[(0,.ipt 1 [[cL a]] 0 0),(5,.msl 0 0 (length b.1)),(7,.msl 1 0 (length c)),(8,bA b.2)]) (λb=>[some (1,map rB b.1),sT c]) (pF f313 (λr=>.msl 0 0 (length r)) λr=>[sT r]) (z6 [0,1]) ?_ ?_ ?_
   .rintro⟨G,H,e⟩ r h;refine ze<|A ?_;apply Xa h y<;>intro I h
    .apply zc;refine zY (X:=(List Bool)×Bool) (λz=>[(0,.ipt 1 [[cL a]] 0 0),(5,.msl 0 0 (length z.1)),(7,.msl 1 0 (length c)),(8,bA z.2),(9,iA e)]) (λz=>[some (1,map rB z.1),sT c]) (λz=>AE e z.1 z.2=some r) ?_ ?_
     .apply zg;obtain⟨n,q67,h⟩:=bs h;refine A ?_;apply ze;obtain⟨v106,q68,J,l,h⟩:=F6 h;refine A ?_;refine XV (x:=J) (j:=5) 5 y y y y y Lr (λi=>by replace l:=bT i l;obtain⟨v107,V,l⟩:=bs l;obtain rfl:=sm l;exact g y i<|mv y<|g y i<|fa ti y y y<|g y i<|ld ti y y<|g y i<|Lj (Wl c n.Name V) y y (.cons (XU y (λ_=>y)) (.cons (si y) .nil)) Xx<|g y i<|nt y<|zx (eg [63,64,65,66,67] 5 y y y y)) (λhb=>(sm (bF hb l)).symm)<|zx ?_;apply Xa h y<;>intro K h
      .apply zr;exact⟨⟨G,H⟩,h,zl [0,1]⟩
      refine zc<|A ?_;obtain⟨o,ho,h⟩:=bs h;refine LG ho (λz=>[(0,.ipt 1 [[cL a]] 0 0),(5,.msl 0 0 (length z.1)),(7,.msl 1 0 (length c)),(8,bA z.2.1),(9,iA e),(10,Vj),(11,iA z.2.2)]) (λz=>[some (1,map rB z.1),sT c,some (6,[(zf n)])]) (λb=>[(0,.ipt 1 [[cL a]] 0 0),(5,.msl 0 0 (length b.1)),(7,.msl 1 0 (length c)),(8,bA b.2),(9,iA e)]) (λb=>[some (1,map rB b.1),sT c]) (pF f313 (λr=>.msl 0 0 (length r)) λr=>[sT r]) (z6 [0,1,2]) ?_ ?_ ?_
      .rintro⟨v,L,B⟩ r h;refine ze<|A ?_;apply Xa h y<;>intro M h
       .apply zc;refine zY (X:=(List Bool)×Bool) (λz=>[(0,.ipt 1 [[cL a]] 0 0),(5,.msl 0 0 (length z.1)),(7,.msl 1 0 (length c)),(8,bA z.2),(9,iA e),(10,Vj),(11,iA B)]) (λz=>[some (1,map rB z.1),sT c,some (6,[(zf n)])]) (λz=>AF B z.1 z.2=some r) ?_ ?_
        .apply zg;obtain⟨v121,q80,N,q81,h⟩:=F6 h;refine A ?_;obtain⟨v123,q82,h⟩:=bs h;refine A ?_;apply Xa h y<;>intro O h;.obtain⟨v124,W,h⟩:=bs h;refine A ?_;refine u<|W4 (c':=true) ti y y (zT W).2.2 y y y y y<|A ?_;exact(⟨⟨(List.set v (Int.toNat N) true),true⟩,h,[0,1,2],ce y y<|cv y (HX (by simp) y)<|cv y (.msl y)<|ce y y<|ce y y<|cv y (.mpt y)<|ce y y<|cn,y,⟨⟨_,y,XL (λ_=>y)⟩,⟨_,y,XL (λ_=>y)⟩,⟨_,y,XN (LO y)⟩,t⟩,y,k⟩)
         apply zc;exact⟨⟨v,L⟩,h,zl [0,1,2]⟩
        rintro⟨v125,v126⟩ h;refine A ?_;exact Mh
       exact LW
      .rintro⟨C,D⟩ rfl;replace h:AC e C D=some r:=h;unfold AC at h;apply zm;exact⟨⟨C,D⟩,h,zl [0,1]⟩
      rintro r' rfl env st hp;cases h;exact⟨_,y,hp⟩
     rintro⟨v129,v130⟩ h;refine A ?_;exact LH
    exact LW
   .rintro⟨v131,v132⟩ rfl;exact zm LH
   rintro r' rfl env st hp;cases h;exact⟨_,y,hp⟩
  exact Lv
 rintro d rfl;refine zm<|A ?_;refine ze<|A ?_;obtain⟨o,ho,h⟩:=bs h;refine F7 ho (λz=>[(0,.ipt 1 [[cL a]] 0 0),(5,.msl 0 0 (length d)),(13,.msl 1 0 (length z.1)),(14,iA z.2)]) (λz=>[some (1,map rB d),sT z.1]) (λb=>[(13,.msl 0 0 (length b))]) (λb=>[sT b]) (pF f313 (λr=>.msl 0 0 (length r)) λr=>[sT r]) ⟨[0,.fresh 1],ce y y<|cv y (.msl y)<|cv y (.nilown y)<|ce y y<|cn,y,⟨⟨_,y,XL (λ_=>y)⟩,w,t⟩,y,k⟩ ?_ ?_
 .rintro⟨p,m⟩ r h;refine ze<|A ?_;apply Xa h y<;>intro P h
  .apply zc;refine zY (X:=T1) (λz=>[(0,.ipt 1 [[cL a]] 0 0),(5,.msl 0 0 (length d)),(13,.msl 1 0 (length z)),(14,iA m)]) (λz=>[some (1,map rB d),sT z]) (λz=>AD m z=some r) ?_ ?_
   .apply zg;obtain⟨v142,q91,h⟩:=bs h;refine A ?_;apply Xa h y<;>intro Q h;.obtain⟨E,q93,q,Y,h⟩:=F6 h;refine A ?_;refine zw (VC:=[(0,.ipt 1 [[cL a]] 0 0),(5,.msl 0 0 (length d)),(14,iA m),(104,tL p),(112,sA E.Name)]) (VJ:=[some (1,map rB d)]) (zl [0])<|u<|sx [] (l6 Y)<|zw (VC:=[(0,.ipt 1 [[cL a]] 0 0),(5,.msl 0 0 (length d)),(14,iA m),(113,.msl 1 0 (length q))]) (VJ:=[some (1,map rB d),sT q]) (zl [0,1])<|A ?_;exact(⟨q,h,zl [0,1]⟩)
    apply zc;exact⟨p,h,zl [0,1]⟩
   rintro v145 h;refine A ?_;exact LH
  apply zr;cases h;exact⟨y,_,y,zl [1]⟩
 rintro v146 rfl;refine zm<|A ?_;exact LP
def WJ(s:((Vr)×T0×T0->Option Bool))(b:Vr)(c:T0)(d:T0):Option (Bool):=(zS b c).bind λv=>(cond (!v) (some true) ((zS b d).bind λx=>some (!x))).bind λB=>cond B (some false) (cond (c==d) (some true) ((Bu c).bind λe=>(Bu d).bind λa=>cond ((e.2==0)&&(a.2==0)) ((cond ((!(e.1==[73]))&&(!(a.1==[73]))) ((KY b e.1).bind λC=>(D9 C a.1).bind λj=>(cond j (some true) ((If b e.1).bind λl=>(D9 l a.1).bind λm=>some m)).bind λn=>some n) (some false)).bind λo=>some o) (cond (a.2==0) (some (a.1==[79,98,106,101,99,116])) (cond (e.2==0) (some false) ((XR c 1 (length c:Int)).bind λf=>(XR d 1 (length d:Int)).bind λi=>(cond ((!(f==[73]))&&(!(i==[73]))) ((s (b,f,i)).bind λp=>some p) (some false)).bind λq=>some q)))))
theorem pn(S:((Vr)×T0×T0->Option Bool))(hrec:∀z r,S z=some r->VD 291 [.ipt 1 [[cL z.1]] 0 0,sA z.2.1,sA z.2.2] (bA r))(m:Vr)(q:T0)(n:T0)(h:WJ S m q n=some r):VD 291 [.ipt 1 [[cL m]] 0 0,sA q,sA n] (bA r):=by
 refine zi func291 y kz y y<|A ?_;apply ze;obtain⟨W,X,Y,Z,h⟩:=F6 h;refine A ?_;apply Xa h y<;>intro C h
 .refine A ?_;exact F4
 refine zc<|ze<|A ?_;apply Xa h y<;>intro D h
 .refine A ?_;exact F4
 apply zc;obtain⟨E,q7,h⟩:=bs h;refine A ?_;obtain⟨F,q8,h⟩:=bs h;refine A ?_;refine ze<|zg<|A ?_;apply Xa h y<;>intro s h
 .obtain⟨G,d,h⟩:=bs h;refine A ?_;refine s5 (x:=G) (j:=6) 12 2 y y y y y Lr (λc=>by replace d:=bT c d;obtain⟨R,H,d⟩:=bs d;obtain⟨T,I,d⟩:=bs d;obtain⟨J,f,d⟩:=bs d;obtain rfl:=sm d;exact g y c<|mv y<|g y c<|mv y<|g y c<|sx [] (GL H)<|g y c<|mv y<|g y c<|Lj (Wl R F.1 I) y y (.cons (XU y (λ_=>y)) (.cons (si y) .nil)) Xx<|g y c<|mv y<|qs (x:=J) (j:=12) 5 1 y y y y y (MA y y c) (λe=>by replace f:=bF e f;obtain⟨K,L,f⟩:=bs f;obtain⟨U,M,f⟩:=bs f;obtain rfl:=sm f;exact g y e<|mv y<|g y e<|mv y<|g y e<|sx [] (ge L)<|g y e<|mv y<|g y e<|Lj (Wl K F.1 M) y y (.cons (XU y (λ_=>y)) (.cons (si y) .nil)) Xx<|zx (xg [56,57,58,59,60] 5 y y y y y y)) (λhb=>(sm (bT hb f)).symm)<|zx (xg [50,51,52,53,54,55,56,57,58,59,60,61] 7 y y y y y y)) (λhb=>(sm (bF hb d)).symm)<|A ?_;exact F4
 refine A ?_;apply Xa h y<;>intro v h;.refine A ?_;exact F4
 refine A ?_;apply Xa h y<;>intro B h;.refine A ?_;exact F4
 apply zc;obtain⟨N,o,O,p,h⟩:=F6 h;refine Lc [(0,_),(11,_),(12,_)] [] [] [0,1,2,3,4,5] [(12,_),(11,_),(74,_),(73,_),(72,_),(71,_)] 0 (Xg ⟨F1,(by exact pb y (Mm (a:=1) (b:=(length q:Int)) ti y y (Gc y o) y o<|w)),F1,(by exact pb y (Mm (a:=1) (b:=(length n:Int)) ti y y (Gc y p) y p<|w)),F1,F1,t⟩ (z6 [])) ?_;obtain⟨P,l,h⟩:=bs h;refine A ?_;refine XV (x:=P) (j:=6) 4 y y y y y Lr (λi=>by replace l:=bT i l;obtain⟨V,Q,l⟩:=bs l;obtain rfl:=sm l;exact g y i<|mv y<|g y i<|mv y<|g y i<|mv y<|g y i<|pc (hrec (m,N,O) _ Q) y y y<|zx (eg [82,83,84,85] 4 y y y y)) (λhb=>(sm (bF hb l)).symm)<|A ?_;exact F4
def PH(a:Vr)(b:T0)(c:T0):Option Bool:=OH (λd z=>WJ d z.1 z.2.1 z.2.2) (a,b,c)
theorem iK(h:PH a b n=some r):VD 291 [.ipt 1 [[cL a]] 0 0,sA b,sA n] (bA r):=yL (F:=(λc z=>WJ c z.1 z.2.1 z.2.2)) (Q:=λz r=>VD 291 [.ipt 1 [[cL z.1]] 0 0,sA z.2.1,sA z.2.2] (bA r)) (λc hv z r h=>pn c hv z.1 z.2.1 z.2.2 h) h
def Dw(c:Vr)(a:T0)(b:T0):Option (Bool):=cond (b==[84]) ((cond ((a==[84])||(a==[78])) (some true) ((zS c a).bind λo=>some o)).bind λp=>some p) (cond (a==[78]) ((cond (b==[78]) (some true) ((cond (!(b==[73])) ((zS c b).bind λq=>some q) (some false)).bind λs=>some s)).bind λv=>some v) (cond (a==b) ((zS c a).bind λx=>some x) ((cond ((a==[73])||(b==[73])) (some true) ((zS c a).bind λe=>some (!e))).bind λf=>(cond f (some true) ((zS c b).bind λi=>some (!i))).bind λj=>cond j (some false) ((zR c b).bind λd=>(cond (decide (0<=d)) ((idx c d).bind λl=>some l.Interface) (some false)).bind λm=>cond m (some true) ((PH c a b).bind λn=>some n)))))
instance :VF 343 [.ipt 1 [[cL a]] 0 0,sA b,sA n] (Dw a b n) bA:=⟨λr h=>by
 refine zi func343 y kz y y<|A ?_;refine ze<|zg<|A ?_;apply Xa h y<;>intro f h
 .obtain⟨E,F,h⟩:=bs h;refine A ?_;exact F4
 refine A ?_;apply Xa h y<;>intro i h;.obtain⟨G,l,h⟩:=bs h;refine A ?_;exact F4
 refine A ?_;apply Xa h y<;>intro c h;.obtain⟨H,m,h⟩:=bs h;refine A ?_;exact F4
 obtain⟨o,p,q,s,h⟩:=F6 h;refine A ?_;apply Xa h y<;>intro d h;.refine A ?_;exact F4
 refine zc<|ze ?_;obtain⟨v,x,h⟩:=bs h;refine A ?_;obtain⟨B,C,h⟩:=bs h;refine A ?_;apply Xa h y<;>intro e h
 .refine A ?_;exact F4
 apply zc;obtain⟨D,j,h⟩:=bs h;refine rg y<|u<|mv y<|u<|mv y<|u<|mv y<|u<|pc (iK j) y y y<|u<|Lw y<|zx ?_
 exact F4⟩
def nW:Option (Bool):=some true
def I5(e:Vr)(b:T1)(f:T1)(a:Int):zL (Int) (Unit) (Bool):=cond (decide (a<(length b:Int))) ((idx b a).bind λi=>(idx f a).bind λc=>(Dw e i c).bind λd=>cond (!d) (some (.inr (.inr false))) (some (.inl (i64.wrap (a+1))))) (some (.inr (.inl ())))
def WD(d:Vr)(a:T1)(c:T1):Option (Bool):=cond (!((length a:Int)==(length c:Int))) (some false) ((zk (λz=>I5 d a c z) 0).bind λo=>zE o (λb=>nW) some)
theorem iO(a:Vr)(d:T1)(l:T1)(h:WD a d l=some r):VD 290 [.ipt 1 [[cL a]] 0 0,tL d,tL l] (bA r):=by
 refine zi func290 y kz y y<|A ?_;refine ze<|A ?_;apply Xa h y<;>intro e h
 .refine A ?_;exact F4
 refine zc<|ze<|A ?_;obtain⟨o,ho,h⟩:=bs h;refine F7 ho (λz=>[(0,.ipt 1 [[cL a]] 0 0),(1,tL d),(2,tL l),(7,iA z)]) (λz=>[]) (λb=>[]) (λb=>[]) (pG f290 bA) (z6 []) ?_ ?_
 .rintro n r h;refine ze<|A ?_;apply Xa h y<;>intro f h
  .refine zc<|ze<|zg ?_;obtain⟨p,q,i,s,j,m,h⟩:=LA h;refine Lc [(0,_),(1,_),(2,_),(7,_),(29,_)] [] [] Y0 [(29,_),(28,_),(27,_),(26,_),(25,_),(24,_),(23,_),(22,_),(21,_),(20,_),(19,_)] 0 (Xg (z:=z6 [])) ?_;apply Xa h y<;>intro c h
   .refine A ?_;apply zA;cases h;exact⟨_,y,_,y,Xb []⟩
   refine zc<|A ?_;exact LB
  exact Ll
 rintro⟨⟩ rfl;refine zm<|A ?_;exact F4
instance :VF 290 [.ipt 1 [[cL a]] 0 0,tL d,tL l] (WD a d l) bA:=⟨λ_=>iO a d l⟩
def iT(a:Vr)(b:T0)(c:zb)(d:T1)(e:T1)(f:Bool)(i:Bool):Unit:=()
theorem zt(a:Vr)(b:T0)(c:zb)(d:T1)(l:T1)(f:Bool)(C:Bool){r:Unit}(h:iT a b c d l f C=r):VE 204 [Vg,bA C] (tR a b c d l f []) (.tup []) (tR a b c d l (f||(!C)) []):=by
 refine⟨⟨t,t⟩,zK func204 y kz y ?_⟩;unfold iT at h;refine A ?_;obtain rfl:=h;exact⟨_,y,Xb [0]⟩

end
end Go.Proofs.YthmnlfenkhmmhaaGreat
