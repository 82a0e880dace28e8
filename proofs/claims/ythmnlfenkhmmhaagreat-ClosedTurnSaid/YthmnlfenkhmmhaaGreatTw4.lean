/- ClosedTurn: for every input the law returns true, and each argument reads as it read before. No further condition. Part 4 of 8. -/
import Derived.Test.YthmnlfenkhmmhaaGreatTw3
namespace Go.Proofs.YthmnlfenkhmmhaaGreat
noncomputable section
open List (length map)
open IntKind (i64)
open Go.Proofs.Tryz
set_option linter.unusedSimpArgs false
set_option linter.unusedVariables false
set_option maxRecDepth 100000
set_option maxHeartbeats 4000000
variable [Flo]
structure XW where
  C:T0
  M:T0
def Uj(x:XW):List AV:=[sA x.C,sA x.M]
def vK(h0:List za)(h1:T2)(c:T0)(m:zb)(x0:AV)(x1:AV)(x2:AV):List AV:=[.ipt 2 [[cL h0,mI h1]] 0 0,sA c,sA m.Name,tL m.Params,sA m.Ret,bA m.Static,bA m.Abstract,iA m.Locals,iA m.Stack,.isl 4 (map zn m.Code),.isl 3 (map zA m.Maps),.isl 4 (map zY m.Traps),x0,x1,x2]
abbrev sV(h0:List za)(h1:T2)(c:T0)(m:zb)(x y:T1)(b:Bool)(t:St):St:=some (15,[vK h0 h1 c m (.msl 1 0 x.length) (.msl 2 0 y.length) (bA b)])::some (1,x.map Xe)::some (1,y.map Xe)::t
abbrev sU(h0:List za)(h1:T2)(c:T0)(m:zb)(x y:T1)(b:Bool)(t:St):St:=some (15,[vK h0 h1 c m (.msl 1 0 x.length) (.msl 3 0 y.length) (bA b)])::some (1,x.map Xe)::none ::some (1,y.map Xe)::t
abbrev tV(h0:List za)(h1:T2)(c:T0)(m:zb)(x y:T1)(b:Bool)(t:List SB):List SB:=.one 15 (vK h0 h1 c m (.msl 1 0 x.length) (.msl 2 0 y.length) (bA b)):: .many 1 (x.map Xe):: .many 1 (y.map Xe)::t
abbrev tU(h0:List za)(h1:T2)(c:T0)(m:zb)(x y:T1)(b:Bool)(t:List SB):List SB:=.one 15 (vK h0 h1 c m (.msl 1 0 x.length) (.msl 3 0 y.length) (bA b)):: .many 1 (x.map Xe):: .no :: .many 1 (y.map Xe)::t
def zxA(a:T0):Unit:=
  ()
theorem zws(a:T0){r:Unit}(h:zxA a=r):SC prog 21 [sA a] [] (.agg [sA a,sA [79,98,106,101,99,116],bA false,nS,.msl 0 0 1,.msl 1 0 1]) [.xs 3 [[sA [120],sA [73],bA false]],.xs 10 [[sA [109,97,105,110],nS,sA [86],bA true,bA false,iA 0,iA 0,.msl 2 0 1,nS,nS]],.xs 4 [[iA 46,iA 0,sA [],sA []]]]:=by
 refine ⟨⟨t,t,t,t⟩,zZ func21 y kz y ?_⟩;unfold zxA at h;refine A ?_;refine A ?_;refine zy ?_;obtain rfl:=h;exact ⟨_,y,Xb [1,3,2]⟩
def zxB:Unit:=
  ()
theorem IZ{r:Unit}(h:zxB=r):SC prog 93 [] [] (.msl 0 0 3) [.xs 6 [[sA [70,97,99,101],sA [79,98,106,101,99,116],bA true,nS,nS,.msl 1 0 1],[sA [65,97],sA [79,98,106,101,99,116],bA false,.msl 2 0 1,.msl 3 0 2,.msl 4 0 1],[sA [66,98],sA [65,97],bA false,nS,.msl 6 0 1,.msl 7 0 1]],.xs 10 [[sA [102],nS,sA [73],bA false,bA true,iA 0,iA 0,nS,nS,nS]],.xs 1 [[sA [70,97,99,101]]],.xs 3 [[sA [120],sA [73],bA false],[sA [115],sA [73],bA true]],.xs 10 [[sA [102],nS,sA [73],bA false,bA false,iA 1,iA 1,.msl 5 0 2,nS,nS]],.xs 4 [[iA 1,iA 5,sA [],sA []],[iA 47,iA 0,sA [],sA []]],.xs 3 [[sA [121],sA [91,65,97],bA false]],.xs 10 [[sA [109,97,105,110],nS,sA [86],bA true,bA false,iA 0,iA 0,.msl 8 0 1,nS,nS]],.xs 4 [[iA 46,iA 0,sA [],sA []]]]:=by
 refine ⟨⟨t,t,t,t,t,t,t,t,t,t⟩,zZ func93 y kz y ?_⟩;unfold zxB at h;refine A ?_;refine A ?_;refine rg y<|u<|bl 2 ti y ti y (by decide) (by decide) y y y<|u<|bd ti y y y<|u<|bd ti y y y<|u<|bl 3 ti y ti y (by decide) (by decide) y y y<|u<|bd ti y y y<|u<|bd ti y y y<|u<|bl 4 ti y ti y (by decide) (by decide) y y y<|u<|bd (parts:=[(0,sA [102]),(2,sA [73]),(5,iA 1),(6,iA 1),(7,.msl 4 0 2)]) (cs:=[sA [102],nS,sA [73],bA false,bA false,iA 1,iA 1,.msl 4 0 2,nS,nS]) ti y y kz<|u<|bl 5 ti y ti y (by decide) (by decide) y y y<|u<|bd (parts:=[(0,sA [65,97]),(1,sA [79,98,106,101,99,116]),(3,.msl 2 0 1),(4,.msl 3 0 2),(5,.msl 5 0 1)]) (cs:=[sA [65,97],sA [79,98,106,101,99,116],bA false,.msl 2 0 1,.msl 3 0 2,.msl 5 0 1]) ti y y kz<|u<|al 6 ti y<|u<|sto ti y y y<|zo ?_;refine rg y<|u<|sx [] (zws [66,98] y)<|u<|al 10 ti y<|A ?_;refine A ?_;refine A ?_;refine u<|bl 11 ti y ti y (by decide) (by decide) y y y<|A ?_;refine A ?_;refine u<|bl 12 ti y ti y (by decide) (by decide) y y y<|A ?_;refine zy ?_;obtain rfl:=h;exact ⟨_,y,Xb [12,0,2,3,5,4,11,8,9]⟩
def znh(a:T1):Option (T1):=
  some a
def Bq(b:List za)(c:T1)(a:Int):zL (T1×Int) (T1) (T1):=
  cond (decide (a<(length b:Int))) ((idx b a).bind λe=>(Xx 16 c [e.Name]).bind λd=>some (.inl (d,(i64.wrap (a+1))))) (some (.inr (.inl c)))
def zfq(a:List za)(c:T2):Option (T1):=
  (zp (λz=>Bq a z.1 z.2) ([],0)).bind λo=>zH o (λb=>znh b) some
theorem zjg(a:List za)(c:T2){r:T1}(h:zfq a c=some r):SC prog 104 [.ipt 2 [[cL a,mI c]] 0 0] [] (.msl 0 0 (length r)) [.many 1 (map Xe r)]:=by
 refine ⟨⟨Xw (sz:=1) (λ_=>y),t⟩,zZ func104 y kz y ?_⟩;refine A ?_;refine ze<|A ?_;refine U5 y (λhx=>by cases hx) (λ_=>?_);refine zd<|A ?_;refine ze<|A ?_;obtain ⟨o,ho,h⟩:=bs h;refine lpB ho (λz=>[(3,.msl 0 0 (length z.1)),(11,cL a),(12,iA (length a:Int)),(13,iA z.2)]) (λz=>[sT z.1]) (λb=>[(3,.msl 0 0 (length b))]) (λb=>[sT b]) (pF f104 (λr=>.msl 0 0 (length r)) λr=>[sT r]) ⟨[.fresh 1],cv y (.nilown y)<|ce y y<|ce y y<|ce y y<|cn,y,⟨w,t⟩,y,k⟩ ?_ ?_
 .rintro ⟨m,n⟩ r h;refine A ?_;refine ze ?_;apply Xa h y<;>intro d h
  .refine zd<|ze<|zh ?_;obtain ⟨e,p,h⟩:=bs h;refine A ?_;obtain ⟨j,i,h⟩:=bs h;refine A ?_;refine u<|apM 3 ti y ti y y (by decide) ti y y y y (roX (f:=Xe) (z:=[e.Name]) y y) (λ_=>y) y i<|A ?_;refine A ?_;cases h;exact ⟨_,y,zl [3]⟩
  .refine zs ?_;cases h;exact ⟨y,_,y,zl [0]⟩
 .rintro l rfl;refine zm<|A ?_;exact RT1
def zQ(a:List za)(b:T2)(c:T0):Option (za×Bool):=
  cond (!(U7 a b c)) (some ((za.mk [] [] false [] [] []),false)) ((Hg a b c).bind λd=>some (d,true))
theorem zjf(a:List za)(b:T2)(c:T0){r:za×Bool}(h:zQ a b c=some r):Xm prog 106 [.ipt 2 [[cL a,mI b]] 0 0,sA c] (.tup [.agg (zf r.1),bA r.2]):=by
 refine zi func106 y kz y y<|A ?_;refine ze<|A ?_;apply Xa h y<;>intro d h
 .refine A ?_;exact RT0
 .refine zd ?_;obtain ⟨e,f,h⟩:=bs h;refine A ?_;exact RT0
instance (a:List za)(b:T2)(c:T0):PF prog 106 [.ipt 2 [[cL a,mI b]] 0 0,sA c] (zQ a b c) (λr=>(.tup [.agg (zf r.1),bA r.2])):=⟨λ_=>zjf a b c⟩
def zjh(b:List za)(c:T2)(a:T0):Option (Bool):=
  some ((a == [73])||(U7 b c a))
def zdS(d:T0)(a:T0)(c:Bool):zL (T0×T0×Bool) (T0) (Bool):=
  cond c ((Hc a).bind λb=>some (.inl (a,b.1,b.2))) (some (.inr (.inl d)))
def zfr(d:List za)(e:T2)(a:T0):Option (Bool):=
  (Hc a).bind λc=>(zp (λz=>zdS z.1 z.2.1 z.2.2) (a,c.1,c.2)).bind λo=>zH o (λb=>zjh d e b) some
instance (c:List za)(d:T2)(e:T0):PF prog 275 [.ipt 2 [[cL c,mI d]] 0 0,sA e] (zfr c d e) bA:=⟨λr h=>by
 refine zi func275 y kz y y<|A ?_;refine ze ?_;obtain ⟨p,q,h⟩:=bs h;refine A ?_;obtain ⟨o,ho,h⟩:=bs h;refine lpB ho (λz=>[(0,.ipt 2 [[cL c,mI d]] 0 0),(1,sA z.1),(5,sA z.2.1),(6,bA z.2.2)]) (λz=>[]) (λb=>[(0,.ipt 2 [[cL c,mI d]] 0 0),(1,sA b)]) (λb=>[]) (pG f275 bA) (Xd []) ?_ ?_
 .rintro ⟨s,l,m⟩ r h;refine ze<|A ?_;apply Xa h y<;>intro f h
  .refine zd<|ze<|zh<|A ?_;obtain ⟨n,v,h⟩:=bs h;refine A ?_;cases h;exact ⟨_,y,zl []⟩
  .refine zs ?_;cases h;exact ⟨y,_,y,zl []⟩
 .rintro i rfl;refine zm ?_;refine rg y<|u<|mv y<|u<|nep ti y y y y y y<|u<|mv y<|g y y<|mv y<|g y y<|seq ti y y<|g y y<|mv y<|ZK (j:=5) 3 y y y y y (gps y y y) (λa=>g y a<|mv y<|g y a<|mv y<|g y a<|pc (zmA c d i y) y y y<|zo (egO [25,26,27] 3 a y y y y)) orT<|u<|pk (b:=true) y y<|u<|asg y<|zo ?_
  exact RT0⟩
def zmN(a:T1):Option (T1):=
  some a
def Bu(b:List za)(c:T2)(a:T0)(d:T1):zL (T0×T1) (T1) (T1):=
  cond (U7 b c a) ((Xx 16 d [a]).bind λe=>(Hg b c a).bind λf=>some (.inl (f.Super,e))) (some (.inr (.inl d)))
def GP(a:List za)(c:T2)(d:T0):Option (T1):=
  (zp (λz=>Bu a c z.1 z.2) (d,[])).bind λo=>zH o (λb=>zmN b) some
theorem Wj(a:List za)(c:T2)(d:T0){r:T1}(h:GP a c d=some r):SC prog 109 [.ipt 2 [[cL a,mI c]] 0 0,sA d] [] (.msl 0 0 (length r)) [.many 1 (map Xe r)]:=by
 refine ⟨⟨Xw (sz:=1) (λ_=>y),t⟩,zZ func109 y kz y ?_⟩;refine A ?_;refine A ?_;obtain ⟨o,ho,h⟩:=bs h;refine lpA ho (λz=>[(0,.ipt 2 [[cL a,mI c]] 0 0),(1,sA z.1),(5,.msl 0 0 (length z.2))]) (λz=>[sT z.2]) (λb=>[(5,.msl 0 0 (length b))]) (λb=>[sT b]) (pF f109 (λr=>.msl 0 0 (length r)) λr=>[sT r]) ⟨[.fresh 1],ce y y<|ce y y<|cv y (.nilown y)<|cn,y,⟨w,t⟩,y,k⟩ ?_ ?_
 .rintro ⟨i,p⟩ r h;refine ze<|A ?_;apply Xa h y<;>intro e h
  .refine zd<|zh ?_;obtain ⟨l,j,h⟩:=bs h;refine A ?_;refine u<|apM 2 ti y ti y y (by decide) ti y y y y (roX (f:=Xe) (z:=[i]) y y) (λ_=>y) y j<|A ?_;obtain ⟨m,q,h⟩:=bs h;refine A ?_;cases h;exact ⟨_,y,zl [2]⟩
  .refine zs ?_;cases h;exact ⟨y,_,y,zl [0]⟩
 .rintro n rfl;refine A ?_;exact RT1
def ziG(a:T1):Option (T1):=
  (BF a).bind λb=>some b
def ziF(a:Int)(b:T1)(c:T1):zL (T1×T1×Int) (T1) (T1):=
  some (.inl (b,c,(i64.wrap (a+1))))
def zfp(a:Int)(b:T1):zL (T1×Int) (T1) (T1):=
  some (.inl (b,(i64.wrap (a+1))))
def zdR(c:za)(a:T1)(b:Int):zL (T1×Int) (T1) (T1):=
  cond (decide (b<(length c.Impl:Int))) ((idx c.Impl b).bind λd=>(zR a d).bind λe=>cond (!e) ((Xx 16 a [d]).bind λf=>zfp b f) (zfp b a)) (some (.inr (.inl a)))
def zdQ(a:T1)(c:Int)(d:za)(e:T1):zL (T1×T1×Int) (T1) (T1):=
  (zp (λz=>zdR d z.1 z.2) (a,0)).bind λo=>zH o (λb=>ziF c e b) (λr=>some (.inr (.inr r)))
def Bv(i:List za)(j:T2)(d:T1)(a:T1)(b:Int):zL (T1×T1×Int) (T1) (T1):=
  cond (decide (b<((length a):Int))) ((idx a b).bind λe=>(Hg i j e).bind λc=>cond c.Interface ((Xx 16 d [c.Name]).bind λf=>zdQ a b c f) (zdQ a b c d)) (some (.inr (.inl d)))
def Et(a:List za)(c:T2)(d:T0):Option (T1):=
  cond (!(U7 a c d)) (some []) ((GP a c d).bind λe=>(zp (λz=>Bv a c z.1 z.2.1 z.2.2) ([],e,0)).bind λo=>zH o (λb=>ziG b) some)
theorem zg1(d:List za)(e:T2)(s:T0){r:T1}(h:Et d e s=some r):SC prog 276 [.ipt 2 [[cL d,mI e]] 0 0,sA s] [] (.msl 0 0 (length r)) [.many 1 (map Xe r)]:=by
 refine ⟨⟨Xw (sz:=1) (λ_=>y),t⟩,zZ func276 y kz y ?_⟩;refine A ?_;refine ze<|A ?_;apply Xa h y<;>intro D h
 .refine A ?_;refine zy ?_;cases h;exact ⟨_,y,[.fresh 1],.nilown y,y,⟨w,t⟩,y,k⟩
 .refine zd<|A ?_;obtain ⟨E,M,h⟩:=bs h;refine A ?_;refine u<|sx [] (Wj d e s M)<|zx (env0:=[(0,.ipt 2 [[cL d,mI e]] 0 0),(5,nS),(17,.msl 0 0 (length E))]) (st0:=[sT E]) (zl [0])<|A ?_;refine ze<|A ?_;obtain ⟨o,ho,h⟩:=bs h;refine lpB ho (λz=>[(0,.ipt 2 [[cL d,mI e]] 0 0),(5,.msl 0 0 (length z.1)),(6,.msl 1 0 (length z.2.1)),(7,iA z.2.2)]) (λz=>[sT z.1,sT z.2.1]) (λb=>[(5,.msl 0 0 (length b))]) (λb=>[sT b]) (pF f276 (λr=>.msl 0 0 (length r)) λr=>[sT r]) ⟨[.fresh 1,0],ce y y<|cv y (.nilown y)<|cv y (.msl y)<|ce y y<|cn,y,⟨w,⟨_,y,Zb (λ_=>y)⟩,t⟩,y,k⟩ ?_ ?_
  .rintro ⟨F,j,i⟩ r h;refine ze<|A ?_;apply Xa h y<;>intro v h
   .refine zd<|ze<|zh ?_;obtain ⟨N,O,a,P,h⟩:=bs2 h;refine A ?_;refine Xz (X:=T1) (λz=>[(0,.ipt 2 [[cL d,mI e]] 0 0),(5,.msl 0 0 (length z)),(6,.msl 1 0 (length j)),(7,iA i),(8,.mpt 2 0 0)]) (λz=>[sT z,sT j,some (6,[(zf a)])]) (λz=>zdQ j i a z=some r) ?_ ?_
    .refine A ?_;apply Xa h y<;>intro x h
     .obtain ⟨G,H,h⟩:=bs h;refine A ?_;refine u<|apM 4 ti y ti y y (by decide) ti y y y y (roX (f:=Xe) (z:=[a.Name]) y y) (λ_=>y) y H<|A ?_;exact (⟨G,h,zl [4,1,2]⟩)
     .refine zd ?_;exact ⟨F,h,zl [0,1,2]⟩
    .rintro c h;refine A ?_;obtain ⟨o,ho,h⟩:=bs h;refine lpS ho (λz=>[(0,.ipt 2 [[cL d,mI e]] 0 0),(5,.msl 0 0 (length c)),(6,.msl 1 0 (length z.1)),(7,iA i),(38,tL a.Impl),(39,iA (length a.Impl:Int)),(40,iA z.2)]) (λz=>[sT c,sT z.1]) (λb=>[(0,.ipt 2 [[cL d,mI e]] 0 0),(5,.msl 0 0 (length c)),(6,.msl 1 0 (length b)),(7,iA i)]) (λb=>[sT c,sT b]) (pF f276 (λr=>.msl 0 0 (length r)) λr=>[sT r]) (Xd [0,1]) ?_ ?_ ?_
     .rintro ⟨l,m⟩ r h;refine A ?_;refine ze ?_;apply Xa h y<;>intro B h
      .refine zd ?_;refine Xz (X:=T1) (λz=>[(0,.ipt 2 [[cL d,mI e]] 0 0),(5,.msl 0 0 (length c)),(6,.msl 1 0 (length z)),(7,iA i),(38,tL a.Impl),(39,iA (length a.Impl:Int)),(40,iA m)]) (λz=>[sT c,sT z]) (λz=>zfp m z=some r) ?_ ?_
       .refine zh ?_;obtain ⟨n,Q,h⟩:=bs h;refine A ?_;obtain ⟨R,I,h⟩:=bs h;refine rg y<|u<|mv y<|u<|mv y<|u<|pcs (E3 l n I) y y (.cons (X9 y (λ_=>y)) (.cons (si y) .nil)) XD<|A ?_;apply Xa h y<;>intro C h
        .obtain ⟨J,K,h⟩:=bs h;refine A ?_;refine u<|apM 3 ti y ti y y (by decide) ti y y y y (roX (f:=Xe) (z:=[n]) y y) (λ_=>y) y K<|A ?_;exact (⟨J,h,zl [0,3]⟩)
        .refine zd ?_;exact ⟨l,h,zl [0,1]⟩
       .rintro S h;refine A ?_;cases h;exact ⟨_,y,zl [0,1]⟩
      .refine zs ?_;cases h;exact ⟨y,_,y,zl [0,1]⟩
     .rintro T rfl;refine zm<|A ?_;cases h;exact ⟨_,y,zl [0,1]⟩
     .rintro r' rfl env st hp;cases h;exact ⟨_,y,hp⟩
   .refine zs ?_;cases h;exact ⟨y,_,y,zl [0]⟩
  .rintro L rfl;refine zm ?_;obtain ⟨p,q,h⟩:=bs h;refine rg y<|u<|mv y<|u<|sx [0] (zDk L q)<|zx (env0:=[(5,.msl 0 0 (length p))]) (st0:=[sT p]) ⟨[0],cv y (zF8 (zBk q) y)<|cn,y,⟨⟨_,y,Zb (λ_=>y)⟩,t⟩,y,k⟩<|zo ?_;refine A ?_;exact RT1
def Wg(q:((List za)×T2×T0×T0->Option Bool))(b:List za)(c:T2)(d:T0)(a:T0):Option (Bool):=
  (zfr b c d).bind λs=>(cond (!s) (some true) ((zfr b c a).bind λv=>some (!v))).bind λx=>cond x (some false) ((Hc d).bind λe=>(Hc a).bind λf=>cond (d == a) (some true) (cond (e.2&&f.2) ((cond ((!(e.1 == [73]))&&(!(f.1 == [73]))) ((q (b,c,e.1,f.1)).bind λi=>some i) (some false)).bind λj=>some j) (cond e.2 (some (a == [79,98,106,101,99,116])) ((GP b c d).bind λl=>(zR l a).bind λm=>(cond m (some true) ((Et b c d).bind λn=>(zR n a).bind λo=>some o)).bind λp=>some p))))
theorem zni(p:((List za)×T2×T0×T0->Option Bool))(hrec:∀z r,p z=some r->Xm prog 196 [.ipt 2 [[cL z.1,mI z.2.1]] 0 0,sA z.2.2.1,sA z.2.2.2] (bA r))(e:List za)(f:T2)(i:T0)(l:T0){r:Bool}(h:Wg p e f i l=some r):Xm prog 196 [.ipt 2 [[cL e,mI f]] 0 0,sA i,sA l] (bA r):=by
 refine zi func196 y kz y y<|A ?_;refine ze ?_;obtain ⟨N,O,P,Q,h⟩:=bs2 h;refine A ?_;apply Xa h y<;>intro q h
 .refine A ?_;exact RT0
 .refine zd ?_;obtain ⟨I,R,h⟩:=bs h;refine A ?_;obtain ⟨J,S,h⟩:=bs h;refine A ?_;refine ze<|zh<|A ?_;apply Xa h y<;>intro s h
  .refine A ?_;exact RT0
  .refine A ?_;apply Xa h y<;>intro n h
   .obtain ⟨v,d,h⟩:=bs h;refine A ?_;refine X1 (x:=v) (j:=6) 4 y y y y y gpn (λc=>by replace d:=bT c d;obtain ⟨K,B,d⟩:=bs d;obtain rfl:=sm d;exact g y c<|mv y<|g y c<|mv y<|g y c<|mv y<|g y c<|pc (hrec (e,f,I.1,J.1) _ B) y y y<|zo (eg [47,48,49,50] 4 y y y y)) (λhb=>(sm (bF hb d)).symm)<|A ?_;exact RT0
   .refine A ?_;apply Xa h y<;>intro o h
    .refine A ?_;exact RT0
    .refine zd ?_;obtain ⟨m,C,L,D,E,b,h⟩:=bs3 h;refine A ?_;refine u<|sx [] (Wj e f i C)<|zx (env0:=[(0,.ipt 2 [[cL e,mI f]] 0 0),(1,sA i),(2,sA l),(58,.msl 0 0 (length m))]) (st0:=[sT m]) (zl [0])<|u<|mv y<|u<|pcs (E3 m l D) y y (.cons (X9 y (λ_=>y)) (.cons (si y) .nil)) XD<|u<|mv y<|zGn (x:=E) (j:=5) 5 1 y y y y y gpn (λa=>by replace b:=bF a b;obtain ⟨F,G,b⟩:=bs b;obtain ⟨M,H,b⟩:=bs b;obtain rfl:=sm b;exact g y a<|mv y<|g y a<|mv y<|g y a<|sx [] (zg1 e f i G)<|g y a<|mv y<|g y a<|pcs (E3 F l H) y y (.cons (X9 y (λ_=>y)) (.cons (si y) .nil)) XD<|zo (xg [62,63,64,65,66] 5 y y y y y y)) (λhb=>(sm (bT hb b)).symm)<|A ?_;exact RT0
def H1(a:List za)(b:T2)(c:T0)(d:T0):Option Bool:=
  Bx (λe z=>Wg e z.1 z.2.1 z.2.2.1 z.2.2.2) (a,b,c,d)
theorem EM(b:List za)(c:T2)(d:T0)(e:T0){r:Bool}(h:H1 b c d e=some r):Xm prog 196 [.ipt 2 [[cL b,mI c]] 0 0,sA d,sA e] (bA r):=
  zA8 (F:=(λa z=>Wg a z.1 z.2.1 z.2.2.1 z.2.2.2)) (Q:=λz r=>Xm prog 196 [.ipt 2 [[cL z.1,mI z.2.1]] 0 0,sA z.2.2.1,sA z.2.2.2] (bA r)) (λa hv z r h=>zni a hv z.1 z.2.1 z.2.2.1 z.2.2.2 h) h
def HZ(b:List za)(c:T2)(a:T0):Option (Bool):=
  (cond ((a == [78])||(a == [84])) (some true) ((H1 b c a a).bind λd=>some d)).bind λe=>some e
instance (f:List za)(i:T2)(e:T0):PF prog 193 [.ipt 2 [[cL f,mI i]] 0 0,sA e] (HZ f i e) bA:=⟨λr h=>by
 refine zi func193 y kz y y<|A ?_;obtain ⟨l,c,h⟩:=bs h;refine rg y<|u<|mv y<|u<|nep ti y y y y y y<|u<|mv y<|g y y<|mv y<|g y y<|seq ti y y<|g y y<|mv y<|ZK (j:=5) 2 y y y y y (gps y y y) (λd=>g y d<|mv y<|g y d<|seq ti y y<|zo (egO [11,12] 2 d y y y y)) orT<|g y y<|mv y<|ZK (x:=l) (j:=9) 4 y y y y y (gps y y y) (λa=>by replace c:=bF a c;obtain ⟨n,m,c⟩:=bs c;obtain rfl:=sm c;exact g y a<|mv y<|g y a<|mv y<|g y a<|mv y<|g y a<|pc (EM f i e e m) y y y<|zo (eg [15,16,17,18] 4 y y y y)) (λhb=>(sm (bT hb c)).symm)<|u<|pk (b:=true) y y<|u<|asg y<|zo ?_
 exact RT0⟩
def D4(a:T0)(b:List za)(c:T2):Option (Bool):=
  (cond ((!(a == [86]))&&(!(a == []))) ((HZ b c a).bind λd=>some (!d)) (some false)).bind λe=>some e
instance (a:T0)(b:List za)(c:T2):PF prog 299 [sA a,.ipt 1 [[.ipt 2 [[cL b,mI c]] 0 0]] 0 0] (D4 a b c) bA:=⟨λr h=>by
 refine zi func299 y kz y y<|A ?_;obtain ⟨d,e,h⟩:=bs h;refine A ?_
 exact RT0⟩
def zla(a:zj)(b:List za)(c:T2):Option (Bool):=
  (D4 a.Type_ b c).bind λd=>some d
instance (a:zj)(b:List za)(c:T2):PF prog 300 [.agg (zv a),.ipt 1 [[.fn (.func 299) [] [.ipt 1 [[.ipt 2 [[cL b,mI c]] 0 0]] 0 0]]] 0 0] (zla a b c) bA:=⟨λr h=>by
 refine zi func300 y kz y y<|A ?_;obtain ⟨d,e,h⟩:=bs h;refine A ?_
 exact RT0⟩
def zc8:Option (Int):=
  some (-1)
def zaG(b:List zj)(c:List za)(d:T2)(a:Int):zL (Int) (Unit) (Int):=
  cond (decide (a<(length b:Int))) ((idx b a).bind λe=>(zla e c d).bind λf=>cond f (some (.inr (.inr a))) (some (.inl (i64.wrap (a+1))))) (some (.inr (.inl ())))
def zbW(a:List zj)(c:List za)(d:T2):Option (Int):=
  (zp (λz=>zaG a c d z) 0).bind λo=>zH o (λb=>zc8) some
instance (a:List zj)(c:List za)(d:T2):PF prog 315 [.isl 3 (map zv a),.fn (.func 300) [] [.ipt 1 [[.fn (.func 299) [] [.ipt 1 [[.ipt 2 [[cL c,mI d]] 0 0]] 0 0]]] 0 0]] (zbW a c d) iA:=⟨λr h=>by
 refine zi func315 y kz y y<|A ?_;refine ze<|A ?_;obtain ⟨o,ho,h⟩:=bs h;refine lpB ho (λz=>[(0,.isl 3 (map zv a)),(1,.fn (.func 300) [] [.ipt 1 [[.fn (.func 299) [] [.ipt 1 [[.ipt 2 [[cL c,mI d]] 0 0]] 0 0]]] 0 0]),(7,iA (length a:Int)),(8,iA z)]) (λz=>[]) (λb=>[]) (λb=>[]) (pG f315 iA) (Xd []) ?_ ?_
 .rintro i r h;refine A ?_;refine ze ?_;apply Xa h y<;>intro e h
  .refine zd<|ze<|zh<|A ?_;obtain ⟨j,l,m,n,h⟩:=bs2 h;refine A ?_;apply Xa h y<;>intro f h
   .refine A ?_;refine zy ?_;cases h;exact ⟨_,y,_,y,Xb []⟩
   .refine zd<|A ?_;cases h;exact ⟨_,y,zl []⟩
  .refine zs ?_;cases h;exact ⟨y,_,y,zl []⟩
 .rintro ⟨⟩ rfl;refine zm<|A ?_
  exact RT0⟩
def zai(a:List zj)(b:List za)(c:T2):Option (Bool):=
  (zbW a b c).bind λd=>some (decide (0≤d))
theorem zcw(a:List zj)(b:List za)(c:T2){r:Bool}(h:zai a b c=some r):Xm prog 234 [.isl 3 (map zv a),.fn (.func 300) [] [.ipt 1 [[.fn (.func 299) [] [.ipt 1 [[.ipt 2 [[cL b,mI c]] 0 0]] 0 0]]] 0 0]] (bA r):=by
 refine zi func234 y kz y y<|A ?_;obtain ⟨d,e,h⟩:=bs h;refine A ?_;exact RT0
instance (a:List zj)(b:List za)(c:T2):PF prog 234 [.isl 3 (map zv a),.fn (.func 300) [] [.ipt 1 [[.fn (.func 299) [] [.ipt 1 [[.ipt 2 [[cL b,mI c]] 0 0]] 0 0]]] 0 0]] (zai a b c) bA:=⟨λ_=>zcw a b c⟩
def zju(a:zT)(b:List za)(c:T2):Option (Bool):=
  (D4 a.C b c).bind λd=>some d
instance (a:zT)(b:List za)(c:T2):PF prog 303 [.agg (zY a),.ipt 1 [[.fn (.func 299) [] [.ipt 1 [[.ipt 2 [[cL b,mI c]] 0 0]] 0 0]]] 0 0] (zju a b c) bA:=⟨λr h=>by
 refine zi func303 y kz y y<|A ?_;obtain ⟨d,e,h⟩:=bs h;refine A ?_
 exact RT0⟩
def zdL:Option (Int):=
  some (-1)
def zaU(b:List zT)(c:List za)(d:T2)(a:Int):zL (Int) (Unit) (Int):=
  cond (decide (a<(length b:Int))) ((idx b a).bind λe=>(zju e c d).bind λf=>cond f (some (.inr (.inr a))) (some (.inl (i64.wrap (a+1))))) (some (.inr (.inl ())))
def zb6(a:List zT)(c:List za)(d:T2):Option (Int):=
  (zp (λz=>zaU a c d z) 0).bind λo=>zH o (λb=>zdL) some
instance (a:List zT)(c:List za)(d:T2):PF prog 348 [.isl 4 (map zY a),.fn (.func 303) [] [.ipt 1 [[.fn (.func 299) [] [.ipt 1 [[.ipt 2 [[cL c,mI d]] 0 0]] 0 0]]] 0 0]] (zb6 a c d) iA:=⟨λr h=>by
 refine zi func348 y kz y y<|A ?_;refine ze<|A ?_;obtain ⟨o,ho,h⟩:=bs h;refine lpB ho (λz=>[(0,.isl 4 (map zY a)),(1,.fn (.func 303) [] [.ipt 1 [[.fn (.func 299) [] [.ipt 1 [[.ipt 2 [[cL c,mI d]] 0 0]] 0 0]]] 0 0]),(7,iA (length a:Int)),(8,iA z)]) (λz=>[]) (λb=>[]) (λb=>[]) (pG f348 iA) (Xd []) ?_ ?_
 .rintro i r h;refine A ?_;refine ze ?_;apply Xa h y<;>intro e h
  .refine zd<|ze<|zh<|A ?_;obtain ⟨j,l,m,n,h⟩:=bs2 h;refine A ?_;apply Xa h y<;>intro f h
   .refine A ?_;refine zy ?_;cases h;exact ⟨_,y,_,y,Xb []⟩
   .refine zd<|A ?_;cases h;exact ⟨_,y,zl []⟩
  .refine zs ?_;cases h;exact ⟨y,_,y,zl []⟩
 .rintro ⟨⟩ rfl;refine zm<|A ?_
  exact RT0⟩
def zaT(a:List zT)(b:List za)(c:T2):Option (Bool):=
  (zb6 a b c).bind λd=>some (decide (0≤d))
instance (a:List zT)(b:List za)(c:T2):PF prog 302 [.isl 4 (map zY a),.fn (.func 303) [] [.ipt 1 [[.fn (.func 299) [] [.ipt 1 [[.ipt 2 [[cL b,mI c]] 0 0]] 0 0]]] 0 0]] (zaT a b c) bA:=⟨λr h=>by
 refine zi func302 y kz y y<|A ?_;obtain ⟨d,e,h⟩:=bs h;refine A ?_
 exact RT0⟩
def zqV:Option (T0×zj×Bool):=
  some ([],(zj.mk [] [] false),false)
def O9(i:List za)(j:T2)(l:T0)(e:T1)(a:Int):zL (Int) (Unit) (T0×zj×Bool):=
  cond (decide (a<((length e):Int))) ((idx e a).bind λb=>(zQ i j b).bind λc=>(zj4 c.1 l).bind λd=>cond (decide (0≤d)) ((idx c.1.Fields d).bind λf=>some (.inr (.inr (b,f,true)))) (some (.inl (i64.wrap (a+1))))) (some (.inr (.inl ())))
def zin(a:List za)(c:T2)(d:T0)(e:T0):Option (T0×zj×Bool):=
  (GP a c d).bind λf=>(zp (λz=>O9 a c e f z) 0).bind λo=>zH o (λb=>zqV) some
instance (a:List za)(c:T2)(f:T0)(d:T0):PF prog 134 [.ipt 2 [[cL a,mI c]] 0 0,sA f,sA d] (zin a c f d) (λr=>(.tup [sA r.1,.agg (zv r.2.1),bA r.2.2])):=⟨λr h=>by
 refine zi func134 y kz y y<|A ?_;refine ze ?_;obtain ⟨e,p,h⟩:=bs h;refine A ?_;refine u<|sx [] (Wj a c f p)<|zx (env0:=[(0,.ipt 2 [[cL a,mI c]] 0 0),(2,sA d),(7,.mpt 0 0 0),(16,.msl 1 0 (length e))]) (st0:=[some (3,[[sA [],sA [],bA false]]),sT e]) (zl [0,1])<|A ?_;obtain ⟨o,ho,h⟩:=bs h;refine lpB ho (λz=>[(0,.ipt 2 [[cL a,mI c]] 0 0),(2,sA d),(7,.mpt 0 0 0),(16,.msl 1 0 (length e)),(17,iA ((length e):Int)),(18,iA z)]) (λz=>[some (3,[[sA [],sA [],bA false]]),sT e]) (λb=>[(7,.mpt 0 0 0)]) (λb=>[some (3,[[sA [],sA [],bA false]])]) (pG f134 (λr=>.tup [sA r.1,.agg (zv r.2.1),bA r.2.2])) (Xd [0,1]) ?_ ?_
 .rintro q r h;refine A ?_;refine ze ?_;apply Xa h y<;>intro j h
  .refine zd<|ze<|zh ?_;obtain ⟨s,C,h⟩:=bs h;refine A ?_;obtain ⟨l,v,h⟩:=bs h;refine A ?_;obtain ⟨x,m,h⟩:=bs h;refine rg y<|u<|ld ti y y<|u<|mv y<|u<|pc (zom l.1 d m) y y y<|u<|asg y<|zo ?_;refine rg y<|u<|mv y<|u<|geq ti y y<|zo ?_;apply Xa h y<;>intro i h
   .obtain ⟨n,B,h⟩:=bs h;refine rdA [(6,_),(7,_),(8,_)] [some (3,[(zv n)])] [7] [0,1,2,3,4,5,6] [(6,_),(38,_),(37,_),(36,_),(35,_),(34,_),(33,_)] 1 (Xj (z:=by exact ⟨(λ_ _=>⟨_,y,y,sto ti y y y<|⟨.any,[8],[(8,_)],y,y,y,t,Xk (z:=Xd [0])⟩⟩),t⟩)) ?_;refine zy ?_;cases h;exact ⟨_,y,_,y,Xb []⟩
   .refine zd<|A ?_;cases h;exact ⟨_,y,zl [0,1]⟩
  .refine zs ?_;cases h;exact ⟨y,_,y,zl [0]⟩
 .rintro ⟨⟩ rfl;refine zm<|A ?_
  exact RT0⟩
def UB(a:zb):Bool:=
  (!(a.Name == [36,105,110,105,116]))
theorem zjy(a:zb){r:Bool}(h:UB a=r):Xm prog 219 [.agg (zc a)] (bA r):=by
 refine zi func219 y kz y y ?_;unfold UB at h;refine A ?_;refine A ?_;refine zy ?_;obtain rfl:=h;exact ⟨_,y,Xb []⟩
instance (a:zb):PF prog 219 [.agg (zc a)] (some (UB a)) bA:=.of λ_=>zjy a
def zrP:Option (T0×zb×Bool):=
  some ([],(zb.mk [] [] [] false false 0 0 [] [] []),false)
def Eh(l:List za)(m:T2)(e:T1)(n:T0)(a:Int):zL (Int) (Unit) (T0×zb×Bool):=
  cond (decide (a<(length e:Int))) ((idx e a).bind λd=>(zQ l m d).bind λb=>(HW b.1 n).bind λc=>(cond (decide (0≤c)) ((idx b.1.Methods c).bind λf=>some (UB f)) (some false)).bind λi=>cond i ((idx b.1.Methods c).bind λj=>some (.inr (.inr (d,j,true)))) (some (.inl (i64.wrap (a+1))))) (some (.inr (.inl ())))
def I5(a:List za)(c:T2)(d:T1)(e:T0):Option (T0×zb×Bool):=
  (zp (λz=>Eh a c d e z) 0).bind λo=>zH o (λb=>zrP) some
instance (i:List za)(l:T2)(d:T1)(e:T0):PF prog 218 [.ipt 2 [[cL i,mI l]] 0 0,tL d,sA e,.fn (.func 219) [] []] (I5 i l d e) (λr=>(.tup [sA r.1,.agg (zc r.2.1),bA r.2.2])):=⟨λr h=>by
 refine zi func218 y kz y y<|A ?_;refine ze<|A ?_;obtain ⟨o,ho,h⟩:=bs h;refine lpB ho (λz=>[(0,.ipt 2 [[cL i,mI l]] 0 0),(2,sA e),(3,.fn (.func 219) [] []),(9,.mpt 0 0 0),(16,tL d),(17,iA (length d:Int)),(18,iA z)]) (λz=>[some (10,[[sA [],nS,sA [],bA false,bA false,iA 0,iA 0,nS,nS,nS]])]) (λb=>[(9,.mpt 0 0 0)]) (λb=>[some (10,[[sA [],nS,sA [],bA false,bA false,iA 0,iA 0,nS,nS,nS]])]) (pG f218 (λr=>.tup [sA r.1,.agg (zc r.2.1),bA r.2.2])) (Xd [0]) ?_ ?_
 .rintro C r h;refine A ?_;refine ze ?_;apply Xa h y<;>intro m h
  .refine zd<|ze<|zh ?_;obtain ⟨D,E,h⟩:=bs h;refine A ?_;obtain ⟨p,F,h⟩:=bs h;refine A ?_;obtain ⟨G,q,h⟩:=bs h;refine rg y<|u<|ld ti y y<|u<|mv y<|u<|pc (zgW p.1 e q) y y y<|u<|asg y<|zo ?_;obtain ⟨s,c,h⟩:=bs h;refine rg y<|u<|mv y<|u<|geq ti y y<|u<|mv y<|X1 (x:=s) (j:=2) 7 y y y y y gpn (λa=>by replace c:=bT a c;obtain ⟨v,f,c⟩:=bs c;obtain rfl:=sm c;exact g y a<|mv y<|g y a<|fa ti y y y<|g y a<|ld ti y y<|g y a<|mv y<|g y a<|ixI ti y ti y y y f<|g y a<|ldI ti y (zz f).2.2 y<|g y a<|pc (zjy v y) y y y<|zo (eg [34,35,36,37,38,39,40] 7 y y y y)) (λhb=>(sm (bF hb c)).symm)<|zo ?_;apply Xa h y<;>intro n h
   .obtain ⟨B,H,h⟩:=bs h;refine rdA [(8,_),(9,_),(10,_)] [some (10,[(zc B)])] [7] [0,1,2,3,4,5,6] [(8,_),(47,_),(46,_),(45,_),(44,_),(43,_),(42,_)] 1 (Xj (z:=by exact ⟨(λ_ _=>⟨_,y,y,sto ti y y y<|⟨.any,[8],[(10,_)],y,y,y,t,Xk (z:=Xd [0])⟩⟩),t⟩)) ?_;refine zy ?_;cases h;exact ⟨_,y,_,y,Xb []⟩
   .refine zd<|A ?_;cases h;exact ⟨_,y,zl [0]⟩
  .refine zs ?_;cases h;exact ⟨y,_,y,zl [0]⟩
 .rintro ⟨⟩ rfl;refine zm<|A ?_
  exact RT0⟩
def O1(b:List za)(c:T2)(d:T0)(e:T0):Option (T0×zb×Bool):=
  (GP b c d).bind λf=>(I5 b c f e).bind λa=>some (a.1,a.2.1,a.2.2)
instance (a:List za)(b:T2)(d:T0)(c:T0):PF prog 124 [.ipt 2 [[cL a,mI b]] 0 0,sA d,sA c] (O1 a b d c) (λr=>(.tup [sA r.1,.agg (zc r.2.1),bA r.2.2])):=⟨λr h=>by
 refine zi func124 y kz y y<|A ?_;obtain ⟨e,f,i,j,h⟩:=bs2 h;refine A ?_;refine u<|sx [] (Wj a b d f)<|zx (env0:=[(2,sA c),(7,.mpt 0 0 0),(9,.ipt 2 [[cL a,mI b]] 0 0),(12,.msl 1 0 (length e))]) (st0:=[some (10,[[sA [],nS,sA [],bA false,bA false,iA 0,iA 0,nS,nS,nS]]),sT e]) (zl [0,1])<|u<|mv y<|zx (env0:=[(7,.mpt 0 0 0),(9,.ipt 2 [[cL a,mI b]] 0 0),(12,tL e),(13,sA c)]) (st0:=[some (10,[[sA [],nS,sA [],bA false,bA false,iA 0,iA 0,nS,nS,nS]])]) (zl [0])<|A ?_
 exact RT0⟩
def Hf(a:zb):Bool:=
  true
theorem zou(a:zb){r:Bool}(h:Hf a=r):Xm prog 329 [.agg (zc a)] (bA r):=by
 refine zi func329 y kz y y ?_;unfold Hf at h;refine A ?_;refine A ?_;refine zy ?_;obtain rfl:=h;exact ⟨_,y,Xb []⟩
instance (a:zb):PF prog 329 [.agg (zc a)] (some (Hf a)) bA:=.of λ_=>zou a
def zrQ:Option (T0×zb×Bool):=
  some ([],(zb.mk [] [] [] false false 0 0 [] [] []),false)
def Eg(l:List za)(m:T2)(e:T1)(n:T0)(a:Int):zL (Int) (Unit) (T0×zb×Bool):=
  cond (decide (a<(length e:Int))) ((idx e a).bind λd=>(zQ l m d).bind λb=>(HW b.1 n).bind λc=>(cond (decide (0≤c)) ((idx b.1.Methods c).bind λf=>some (Hf f)) (some false)).bind λi=>cond i ((idx b.1.Methods c).bind λj=>some (.inr (.inr (d,j,true)))) (some (.inl (i64.wrap (a+1))))) (some (.inr (.inl ())))
def zkV(a:List za)(c:T2)(d:T1)(e:T0):Option (T0×zb×Bool):=
  (zp (λz=>Eg a c d e z) 0).bind λo=>zH o (λb=>zrQ) some
instance (i:List za)(l:T2)(d:T1)(e:T0):PF prog 218 [.ipt 2 [[cL i,mI l]] 0 0,tL d,sA e,.fn (.func 329) [] []] (zkV i l d e) (λr=>(.tup [sA r.1,.agg (zc r.2.1),bA r.2.2])):=⟨λr h=>by
 refine zi func218 y kz y y<|A ?_;refine ze<|A ?_;obtain ⟨o,ho,h⟩:=bs h;refine lpB ho (λz=>[(0,.ipt 2 [[cL i,mI l]] 0 0),(2,sA e),(3,.fn (.func 329) [] []),(9,.mpt 0 0 0),(16,tL d),(17,iA (length d:Int)),(18,iA z)]) (λz=>[some (10,[[sA [],nS,sA [],bA false,bA false,iA 0,iA 0,nS,nS,nS]])]) (λb=>[(9,.mpt 0 0 0)]) (λb=>[some (10,[[sA [],nS,sA [],bA false,bA false,iA 0,iA 0,nS,nS,nS]])]) (pG f218 (λr=>.tup [sA r.1,.agg (zc r.2.1),bA r.2.2])) (Xd [0]) ?_ ?_
 .rintro C r h;refine A ?_;refine ze ?_;apply Xa h y<;>intro m h
  .refine zd<|ze<|zh ?_;obtain ⟨D,E,h⟩:=bs h;refine A ?_;obtain ⟨p,F,h⟩:=bs h;refine A ?_;obtain ⟨G,q,h⟩:=bs h;refine rg y<|u<|ld ti y y<|u<|mv y<|u<|pc (zgW p.1 e q) y y y<|u<|asg y<|zo ?_;obtain ⟨s,c,h⟩:=bs h;refine rg y<|u<|mv y<|u<|geq ti y y<|u<|mv y<|X1 (x:=s) (j:=2) 7 y y y y y gpn (λa=>by replace c:=bT a c;obtain ⟨v,f,c⟩:=bs c;obtain rfl:=sm c;exact g y a<|mv y<|g y a<|fa ti y y y<|g y a<|ld ti y y<|g y a<|mv y<|g y a<|ixI ti y ti y y y f<|g y a<|ldI ti y (zz f).2.2 y<|g y a<|pc (zou v y) y y y<|zo (eg [34,35,36,37,38,39,40] 7 y y y y)) (λhb=>(sm (bF hb c)).symm)<|zo ?_;apply Xa h y<;>intro n h
   .obtain ⟨B,H,h⟩:=bs h;refine rdA [(8,_),(9,_),(10,_)] [some (10,[(zc B)])] [7] [0,1,2,3,4,5,6] [(8,_),(47,_),(46,_),(45,_),(44,_),(43,_),(42,_)] 1 (Xj (z:=by exact ⟨(λ_ _=>⟨_,y,y,sto ti y y y<|⟨.any,[8],[(10,_)],y,y,y,t,Xk (z:=Xd [0])⟩⟩),t⟩)) ?_;refine zy ?_;cases h;exact ⟨_,y,_,y,Xb []⟩
   .refine zd<|A ?_;cases h;exact ⟨_,y,zl [0]⟩
  .refine zs ?_;cases h;exact ⟨y,_,y,zl [0]⟩
 .rintro ⟨⟩ rfl;refine zm<|A ?_
  exact RT0⟩
def I6(a:List za)(b:T2)(c:T0)(e:T0):Option (T0×zb×Bool):=
  (zQ a b c).bind λf=>cond (!f.1.Interface) (some ([],(zb.mk [] [] [] false false 0 0 [] [] []),false)) ((Et a b c).bind λi=>(Xx 16 [c] i).bind λj=>(zkV a b j e).bind λd=>some (d.1,d.2.1,d.2.2))
instance (a:List za)(b:T2)(c:T0)(d:T0):PF prog 252 [.ipt 2 [[cL a,mI b]] 0 0,sA c,sA d] (I6 a b c d) (λr=>(.tup [sA r.1,.agg (zc r.2.1),bA r.2.2])):=⟨λr h=>by
 refine zi func252 y kz y y<|A ?_;obtain ⟨n,o,h⟩:=bs h;refine A ?_;refine ze<|A ?_;apply Xa h y<;>intro e h
 .refine A ?_;exact RT0
 .refine zd ?_;obtain ⟨p,i,j,m,q,s,h⟩:=bs3 h;refine A ?_;refine u<|sx [] (zg1 a b c i)<|u<|apM (l:=[c]) (f:=Xe) 4 ti y ti y y (by decide) ti y y y y (roM y) (λ_=>y) y m<|u<|mv y<|zx (env0:=[(7,.mpt 0 0 0),(21,.ipt 2 [[cL a,mI b]] 0 0),(27,tL j),(28,sA d)]) (st0:=[some (10,[[sA [],nS,sA [],bA false,bA false,iA 0,iA 0,nS,nS,nS]])]) (zl [0])<|A ?_
  exact RT0⟩
def Ej(a:Bool):Option (Bool):=
  some a
def zgY(b:List za)(c:T2)(a:zr)(d:za×Bool)(e:Bool):Option (Bool):=
  cond e ((O1 b c a.C a.M).bind λf=>Ej (f.2.2&&(!d.1.Interface))) (cond (a.Op == 45) ((I6 b c a.C a.M).bind λi=>Ej i.2.2) (Ej true))
def Ek(b:List za)(c:T2)(a:zr)(d:za×Bool)(e:Bool):Option (Bool):=
  cond e ((zin b c a.C a.M).bind λf=>Ej f.2.2) (cond (a.Op == 42) (zgY b c a d (a.Op == 42)) (cond (a.Op == 43) (zgY b c a d (a.Op == 43)) (zgY b c a d (a.Op == 44))))
def zkQ(b:List za)(c:T2)(a:zr):Option (Bool):=
  (zQ b c a.C).bind λd=>cond (a.Op == 38) (Ek b c a d (a.Op == 38)) (cond (a.Op == 39) (Ek b c a d (a.Op == 39)) (cond (a.Op == 40) (Ek b c a d (a.Op == 40)) (Ek b c a d (a.Op == 41))))
instance (b:List za)(c:T2)(a:zr):PF prog 306 [.ipt 2 [[cL b,mI c]] 0 0,.agg (zn a)] (zkQ b c a) bA:=⟨λr h=>by
 refine zi func306 y kz y y<|A ?_;obtain ⟨d,C,h⟩:=bs h;refine A ?_;refine A ?_;refine Xz (X:=Bool) (λz=>[(7,bA z)]) (λz=>[]) (λz=>Ej z=some r) ?_ ?_
 .refine A ?_;refine zh ?_;refine Xz (X:=Bool) (λz=>[(0,.ipt 2 [[cL b,mI c]] 0 0),(3,.mpt 0 0 0),(5,.mpt 1 0 0),(7,bA true),(16,iA a.Op),(17,bA z)]) (λz=>[some (4,[(zn a)]),some (6,[(zf d.1)])]) (λz=>Ek b c a d z=some r) ?_ ?_
  .refine A ?_;apply Xa h y<;>intro f h
   .refine zd ?_;exact ⟨(a.Op == 38),h,zl [0,1]⟩
   .refine A ?_;apply Xa h y<;>intro i h
    .refine zd ?_;exact ⟨(a.Op == 39),h,zl [0,1]⟩
    .refine A ?_;apply Xa h y<;>intro j h
     .refine zd ?_;exact ⟨(a.Op == 40),h,zl [0,1]⟩
     .refine A ?_;exact (⟨(a.Op == 41),h,zl [0,1]⟩)
  .rintro D h;apply Xa h y<;>intro l h
   .obtain ⟨p,E,h⟩:=bs h;refine A ?_;exact (⟨p.2.2,h,zl []⟩)
   .refine Xz (X:=Bool) (λz=>[(0,.ipt 2 [[cL b,mI c]] 0 0),(3,.mpt 0 0 0),(5,.mpt 1 0 0),(7,bA true),(16,iA a.Op),(32,bA z)]) (λz=>[some (4,[(zn a)]),some (6,[(zf d.1)])]) (λz=>zgY b c a d z=some r) ?_ ?_
    .refine A ?_;apply Xa h y<;>intro m h
     .refine zd ?_;exact ⟨(a.Op == 42),h,zl [0,1]⟩
     .refine A ?_;apply Xa h y<;>intro n h
      .refine zd ?_;exact ⟨(a.Op == 43),h,zl [0,1]⟩
      .refine A ?_;exact (⟨(a.Op == 44),h,zl [0,1]⟩)
    .rintro F h;apply Xa h y<;>intro o h
     .obtain ⟨q,v,h⟩:=bs h;refine A ?_;refine A ?_;exact (⟨(q.2.2&&(!d.1.Interface)),h,zl []⟩)
     .refine A ?_;apply Xa h y<;>intro e h
      .obtain ⟨s,x,h⟩:=bs h;refine A ?_;exact (⟨s.2.2,h,zl []⟩)
      .refine zd ?_;exact ⟨true,h,zl []⟩
 .rintro B h;refine A ?_
  exact RT0⟩
def zhH(a:zr)(b:List za)(c:T2)(d:List za)(e:T2):Option (Bool):=
  (D4 a.C b c).bind λf=>(cond f (some true) ((zkQ d e a).bind λi=>some (!i))).bind λj=>some j
instance (a:zr)(b:List za)(c:T2)(d:List za)(e:T2):PF prog 305 [.agg (zn a),.ipt 1 [[.fn (.func 299) [] [.ipt 1 [[.ipt 2 [[cL b,mI c]] 0 0]] 0 0]]] 0 0,.ipt 1 [[.ipt 2 [[cL d,mI e]] 0 0]] 0 0] (zhH a b c d e) bA:=⟨λr h=>by
 refine zi func305 y kz y y<|A ?_;obtain ⟨f,i,j,l,h⟩:=bs2 h;refine A ?_
 exact RT0⟩
def zel:Option (Int):=
  some (-1)
def za2(b:List zr)(e:List za)(f:T2)(i:List za)(j:T2)(a:Int):zL (Int) (Unit) (Int):=
  cond (decide (a<(length b:Int))) ((idx b a).bind λc=>(zhH c e f i j).bind λd=>cond d (some (.inr (.inr a))) (some (.inl (i64.wrap (a+1))))) (some (.inr (.inl ())))
def zcs(a:List zr)(c:List za)(d:T2)(e:List za)(f:T2):Option (Int):=
  (zp (λz=>za2 a c d e f z) 0).bind λo=>zH o (λb=>zel) some
instance (a:List zr)(c:List za)(d:T2)(e:List za)(f:T2):PF prog 349 [.isl 4 (map zn a),.fn (.func 305) [] [.ipt 1 [[.fn (.func 299) [] [.ipt 1 [[.ipt 2 [[cL c,mI d]] 0 0]] 0 0]]] 0 0,.ipt 1 [[.ipt 2 [[cL e,mI f]] 0 0]] 0 0]] (zcs a c d e f) iA:=⟨λr h=>by
 refine zi func349 y kz y y<|A ?_;refine ze<|A ?_;obtain ⟨o,ho,h⟩:=bs h;refine lpB ho (λz=>[(0,.isl 4 (map zn a)),(1,.fn (.func 305) [] [.ipt 1 [[.fn (.func 299) [] [.ipt 1 [[.ipt 2 [[cL c,mI d]] 0 0]] 0 0]]] 0 0,.ipt 1 [[.ipt 2 [[cL e,mI f]] 0 0]] 0 0]),(7,iA (length a:Int)),(8,iA z)]) (λz=>[]) (λb=>[]) (λb=>[]) (pG f349 iA) (Xd []) ?_ ?_
 .rintro n r h;refine A ?_;refine ze ?_;apply Xa h y<;>intro i h
  .refine zd<|ze<|zh<|A ?_;obtain ⟨l,p,m,q,h⟩:=bs2 h;refine A ?_;apply Xa h y<;>intro j h
   .refine A ?_;refine zy ?_;cases h;exact ⟨_,y,_,y,Xb []⟩
   .refine zd<|A ?_;cases h;exact ⟨_,y,zl []⟩
  .refine zs ?_;cases h;exact ⟨y,_,y,zl []⟩
 .rintro ⟨⟩ rfl;refine zm<|A ?_
  exact RT0⟩
def za1(a:List zr)(b:List za)(c:T2)(d:List za)(e:T2):Option (Bool):=
  (zcs a b c d e).bind λf=>some (decide (0≤f))
instance (a:List zr)(b:List za)(c:T2)(d:List za)(e:T2):PF prog 304 [.isl 4 (map zn a),.fn (.func 305) [] [.ipt 1 [[.fn (.func 299) [] [.ipt 1 [[.ipt 2 [[cL b,mI c]] 0 0]] 0 0]]] 0 0,.ipt 1 [[.ipt 2 [[cL d,mI e]] 0 0]] 0 0]] (za1 a b c d e) bA:=⟨λr h=>by
 refine zi func304 y kz y y<|A ?_;obtain ⟨f,i,h⟩:=bs h;refine A ?_
 exact RT0⟩
def zeP:Option (Int):=
  some (-1)
def zbn(b:T1)(c:List za)(d:T2)(a:Int):zL (Int) (Unit) (Int):=
  cond (decide (a<(length b:Int))) ((idx b a).bind λe=>(D4 e c d).bind λf=>cond f (some (.inr (.inr a))) (some (.inl (i64.wrap (a+1))))) (some (.inr (.inl ())))
def zcW(a:T1)(c:List za)(d:T2):Option (Int):=
  (zp (λz=>zbn a c d z) 0).bind λo=>zH o (λb=>zeP) some
instance (a:T1)(c:List za)(d:T2):PF prog 181 [tL a,.fn (.func 299) [] [.ipt 1 [[.ipt 2 [[cL c,mI d]] 0 0]] 0 0]] (zcW a c d) iA:=⟨λr h=>by
 refine zi func181 y kz y y<|A ?_;refine ze<|A ?_;obtain ⟨o,ho,h⟩:=bs h;refine lpB ho (λz=>[(0,tL a),(1,.fn (.func 299) [] [.ipt 1 [[.ipt 2 [[cL c,mI d]] 0 0]] 0 0]),(7,iA (length a:Int)),(8,iA z)]) (λz=>[]) (λb=>[]) (λb=>[]) (pG f181 iA) (Xd []) ?_ ?_
 .rintro i r h;refine A ?_;refine ze ?_;apply Xa h y<;>intro e h
  .refine zd<|ze<|zh<|A ?_;obtain ⟨j,l,m,n,h⟩:=bs2 h;refine A ?_;apply Xa h y<;>intro f h
   .refine A ?_;refine zy ?_;cases h;exact ⟨_,y,_,y,Xb []⟩
   .refine zd<|A ?_;cases h;exact ⟨_,y,zl []⟩
  .refine zs ?_;cases h;exact ⟨y,_,y,zl []⟩
 .rintro ⟨⟩ rfl;refine zm<|A ?_
  exact RT0⟩
def zbg(a:T1)(b:List za)(c:T2):Option (Bool):=
  (zcW a b c).bind λd=>some (decide (0≤d))
instance (a:T1)(b:List za)(c:T2):PF prog 99 [tL a,.fn (.func 299) [] [.ipt 1 [[.ipt 2 [[cL b,mI c]] 0 0]] 0 0]] (zbg a b c) bA:=⟨λr h=>by
 refine zi func99 y kz y y<|A ?_;obtain ⟨d,e,h⟩:=bs h;refine A ?_
 exact RT0⟩
def zi5(a:zb)(b:List za)(c:T2)(e:List za)(f:T2):Option (Bool):=
  (zaT a.Traps b c).bind λi=>(za1 a.Code b c e f).bind λj=>(D4 a.Ret b c).bind λl=>(cond l (some true) ((zbg a.Params b c).bind λm=>some m)).bind λd=>some ((d||i)||j)
instance (a:zb)(b:List za)(c:T2)(d:List za)(e:T2):PF prog 301 [.agg (zc a),.ipt 1 [[.fn (.func 299) [] [.ipt 1 [[.ipt 2 [[cL b,mI c]] 0 0]] 0 0]]] 0 0,.ipt 1 [[.ipt 2 [[cL d,mI e]] 0 0]] 0 0] (zi5 a b c d e) bA:=⟨λr h=>by
 refine zi func301 y kz y y<|A ?_;obtain ⟨i,j,h⟩:=bs h;refine A ?_;obtain ⟨l,m,h⟩:=bs h;refine A ?_;obtain ⟨n,o,f,p,h⟩:=bs2 h;refine A ?_
 exact RT0⟩
def zcD:Option (Int):=
  some (-1)
def zas(b:List zb)(e:List za)(f:T2)(i:List za)(j:T2)(a:Int):zL (Int) (Unit) (Int):=
  cond (decide (a<(length b:Int))) ((idx b a).bind λc=>(zi5 c e f i j).bind λd=>cond d (some (.inr (.inr a))) (some (.inl (i64.wrap (a+1))))) (some (.inr (.inl ())))
def zbE(a:List zb)(c:List za)(d:T2)(e:List za)(f:T2):Option (Int):=
  (zp (λz=>zas a c d e f z) 0).bind λo=>zH o (λb=>zcD) some
instance (a:List zb)(c:List za)(d:T2)(e:List za)(f:T2):PF prog 225 [.isl 10 (map zc a),.fn (.func 301) [] [.ipt 1 [[.fn (.func 299) [] [.ipt 1 [[.ipt 2 [[cL c,mI d]] 0 0]] 0 0]]] 0 0,.ipt 1 [[.ipt 2 [[cL e,mI f]] 0 0]] 0 0]] (zbE a c d e f) iA:=⟨λr h=>by
 refine zi func225 y kz y y<|A ?_;refine ze<|A ?_;obtain ⟨o,ho,h⟩:=bs h;refine lpB ho (λz=>[(0,.isl 10 (map zc a)),(1,.fn (.func 301) [] [.ipt 1 [[.fn (.func 299) [] [.ipt 1 [[.ipt 2 [[cL c,mI d]] 0 0]] 0 0]]] 0 0,.ipt 1 [[.ipt 2 [[cL e,mI f]] 0 0]] 0 0]),(7,iA (length a:Int)),(8,iA z)]) (λz=>[]) (λb=>[]) (λb=>[]) (pG f225 iA) (Xd []) ?_ ?_
 .rintro n r h;refine A ?_;refine ze ?_;apply Xa h y<;>intro i h
  .refine zd<|ze<|zh<|A ?_;obtain ⟨l,p,m,q,h⟩:=bs2 h;refine A ?_;apply Xa h y<;>intro j h
   .refine A ?_;refine zy ?_;cases h;exact ⟨_,y,_,y,Xb []⟩
   .refine zd<|A ?_;cases h;exact ⟨_,y,zl []⟩
  .refine zs ?_;cases h;exact ⟨y,_,y,zl []⟩
 .rintro ⟨⟩ rfl;refine zm<|A ?_
  exact RT0⟩
def zab(a:List zb)(b:List za)(c:T2)(d:List za)(e:T2):Option (Bool):=
  (zbE a b c d e).bind λf=>some (decide (0≤f))
theorem zce(a:List zb)(b:List za)(c:T2)(d:List za)(e:T2){r:Bool}(h:zab a b c d e=some r):Xm prog 239 [.isl 10 (map zc a),.fn (.func 301) [] [.ipt 1 [[.fn (.func 299) [] [.ipt 1 [[.ipt 2 [[cL b,mI c]] 0 0]] 0 0]]] 0 0,.ipt 1 [[.ipt 2 [[cL d,mI e]] 0 0]] 0 0]] (bA r):=by
 refine zi func239 y kz y y<|A ?_;obtain ⟨f,i,h⟩:=bs h;refine A ?_;exact RT0
instance (a:List zb)(b:List za)(c:T2)(d:List za)(e:T2):PF prog 239 [.isl 10 (map zc a),.fn (.func 301) [] [.ipt 1 [[.fn (.func 299) [] [.ipt 1 [[.ipt 2 [[cL b,mI c]] 0 0]] 0 0]]] 0 0,.ipt 1 [[.ipt 2 [[cL d,mI e]] 0 0]] 0 0]] (zab a b c d e) bA:=⟨λ_=>zce a b c d e⟩
def I9(a:List za)(b:T2)(c:za):Option (Bool):=
  (zai c.Fields a b).bind λd=>(zab c.Methods a b a b).bind λe=>some ((!d)&&(!e))
theorem znc(a:List za)(b:T2)(c:za){r:Bool}(h:I9 a b c=some r):Xm prog 213 [.ipt 2 [[cL a,mI b]] 0 0,.agg (zf c)] (bA r):=by
 refine zi func213 y kz y y<|A ?_;refine A ?_;obtain ⟨f,d,h⟩:=bs h;refine A ?_;refine u<|pcs (zcw c.Fields a b d) y y (.cons (si y) (.cons (Zt t ⟨(XO y ⟨(Zt t ⟨(XO y ⟨(si y),t⟩),t⟩),t⟩),t⟩) .nil)) XD<|A ?_;obtain ⟨i,e,h⟩:=bs h;refine A ?_;refine u<|pcs (zce c.Methods a b a b e) y y (.cons (si y) (.cons (Zt t ⟨(XO y ⟨(Zt t ⟨(XO y ⟨(si y),t⟩),t⟩),t⟩),(XO y ⟨(si y),t⟩),t⟩) .nil)) XD<|A ?_;refine A ?_;exact RT0
instance (a:List za)(b:T2)(c:za):PF prog 213 [.ipt 2 [[cL a,mI b]] 0 0,.agg (zf c)] (I9 a b c) bA:=⟨λ_=>znc a b c⟩
def zjz:Option (Bool):=
  some true
def zcm(b:T1)(c:T1)(a:Int):zL (Int) (Unit) (Bool):=
  cond (decide (a<(length b:Int))) ((idx b a).bind λd=>(idx c a).bind λe=>cond (!(d == e)) (some (.inr (.inr false))) (some (.inl (i64.wrap (a+1))))) (some (.inr (.inl ())))
def zdd(a:T1)(c:T1):Option (Bool):=
  cond (!((length a:Int) == (length c:Int))) (some false) ((zp (λz=>zcm a c z) 0).bind λo=>zH o (λb=>zjz) some)
instance (a:T1)(c:T1):PF prog 318 [tL a,tL c] (zdd a c) bA:=⟨λr h=>by
 refine zi func318 y kz y y<|A ?_;refine ze<|A ?_;apply Xa h y<;>intro d h
 .refine A ?_;exact RT0
 .refine zd<|ze<|A ?_;obtain ⟨o,ho,h⟩:=bs h;refine lpB ho (λz=>[(0,tL a),(1,tL c),(12,iA (length a:Int)),(13,iA z)]) (λz=>[]) (λb=>[]) (λb=>[]) (pG f318 bA) (Xd []) ?_ ?_
  .rintro i r h;refine A ?_;refine ze ?_;apply Xa h y<;>intro e h
   .refine zd<|ze<|zh<|A ?_;obtain ⟨j,l,m,n,h⟩:=bs2 h;refine rdA [(0,_),(1,_),(12,_),(13,_),(24,_)] [] [] [0,1,2,3,4,5,6,7,8] [(24,_),(23,_),(22,_),(21,_),(20,_),(19,_),(18,_),(17,_),(16,_)] 0 (Xk (z:=Xd [])) ?_;apply Xa h y<;>intro f h
    .refine A ?_;refine zy ?_;cases h;exact ⟨_,y,_,y,Xb []⟩
    .refine zd<|A ?_;cases h;exact ⟨_,y,zl []⟩
   .refine zs ?_;cases h;exact ⟨y,_,y,zl []⟩
  .rintro ⟨⟩ rfl;refine zm<|A ?_
   exact RT0⟩
def W2(a:zb)(b:zb):Option (Bool):=
  (zdd a.Params b.Params).bind λc=>some (c&&(a.Ret == b.Ret))
theorem zjN(a:zb)(b:zb){r:Bool}(h:W2 a b=some r):Xm prog 255 [.agg (zc a),.agg (zc b)] (bA r):=by
 refine zi func255 y kz y y<|A ?_;obtain ⟨c,d,h⟩:=bs h;refine A ?_;exact RT0
instance (a:zb)(b:zb):PF prog 255 [.agg (zc a),.agg (zc b)] (W2 a b) bA:=⟨λ_=>zjN a b⟩
def zgS(a:zb)(b:T0)(j:T1)(l:T0)(c:Bool)(m:Bool)(n:Int)(o:Int)(p:List zr)(d:List zS)(e:List zT):Option (Bool):=
  (cond ((a.Name == b)&&(!(b == [36,105,110,105,116]))) ((W2 (zb.mk b j l c m n o p d e) a).bind λf=>some (((!f)||c)||a.Static)) (some false)).bind λi=>some i
instance (i:zb)(l:T0)(m:T1)(n:T0)(o:Bool)(p:Bool)(q:Int)(s:Int)(v:List zr)(c:List zS)(d:List zT):PF prog 307 [.agg (zc i),.ipt 10 [[sA l,tL m,sA n,bA o,bA p,iA q,iA s,.isl 4 (map zn v),.isl 3 (map zA c),.isl 4 (map zY d)]] 0 0] (zgS i l m n o p q s v c d) bA:=⟨λr h=>by
 refine zi func307 y kz y y<|A ?_;obtain ⟨B,b,h⟩:=bs h;refine A ?_;refine X1 (x:=B) (j:=10) 12 y y y y y gpn (λa=>by replace b:=bT a b;obtain ⟨D,C,b⟩:=bs b;obtain rfl:=sm b;exact g y a<|ld ti y y<|g y a<|ld ti y y<|g y a<|pc (zjN (zb.mk l m n o p q s v c d) i C) y y y<|g y a<|nt y<|g y a<|mv y<|ZK (j:=15) 2 y y y y y (gps y y a) (λe=>g y e<|fa ti y y y<|g y e<|ld ti y y<|zo (egO [20,21] 2 e y y y y)) orT<|g y a<|mv y<|ZK (j:=19) 2 y y y y y (gps y y a) (λf=>g y f<|fa ti y y y<|g y f<|ld ti y y<|zo (egO [24,25] 2 f y y y y)) orT<|zo (eg [15,16,17,18,19,20,21,22,23,24,25,26] 8 y y y y)) (λhb=>(sm (bF hb b)).symm)<|A ?_
 exact RT0⟩
def zcE:Option (Int):=
  some (-1)
def zat(b:List zb)(i:T0)(j:T1)(l:T0)(m:Bool)(n:Bool)(o:Int)(p:Int)(q:List zr)(c:List zS)(d:List zT)(a:Int):zL (Int) (Unit) (Int):=
  cond (decide (a<(length b:Int))) ((idx b a).bind λe=>(zgS e i j l m n o p q c d).bind λf=>cond f (some (.inr (.inr a))) (some (.inl (i64.wrap (a+1))))) (some (.inr (.inl ())))
def zbF(d:List zb)(e:T0)(f:T1)(i:T0)(j:Bool)(l:Bool)(m:Int)(n:Int)(p:List zr)(a:List zS)(c:List zT):Option (Int):=
  (zp (λz=>zat d e f i j l m n p a c z) 0).bind λo=>zH o (λb=>zcE) some
instance (d:List zb)(e:T0)(f:T1)(i:T0)(j:Bool)(l:Bool)(m:Int)(n:Int)(p:List zr)(a:List zS)(c:List zT):PF prog 225 [.isl 10 (map zc d),.fn (.func 307) [] [.ipt 10 [[sA e,tL f,sA i,bA j,bA l,iA m,iA n,.isl 4 (map zn p),.isl 3 (map zA a),.isl 4 (map zY c)]] 0 0]] (zbF d e f i j l m n p a c) iA:=⟨λr h=>by
 refine zi func225 y kz y y<|A ?_;refine ze<|A ?_;obtain ⟨o,ho,h⟩:=bs h;refine lpB ho (λz=>[(0,.isl 10 (map zc d)),(1,.fn (.func 307) [] [.ipt 10 [[sA e,tL f,sA i,bA j,bA l,iA m,iA n,.isl 4 (map zn p),.isl 3 (map zA a),.isl 4 (map zY c)]] 0 0]),(7,iA (length d:Int)),(8,iA z)]) (λz=>[]) (λb=>[]) (λb=>[]) (pG f225 iA) (Xd []) ?_ ?_
 .rintro v r h;refine A ?_;refine ze ?_;apply Xa h y<;>intro q h
  .refine zd<|ze<|zh<|A ?_;obtain ⟨x,C,B,D,h⟩:=bs2 h;refine A ?_;apply Xa h y<;>intro s h
   .refine A ?_;refine zy ?_;cases h;exact ⟨_,y,_,y,Xb []⟩
   .refine zd<|A ?_;cases h;exact ⟨_,y,zl []⟩
  .refine zs ?_;cases h;exact ⟨y,_,y,zl []⟩
 .rintro ⟨⟩ rfl;refine zm<|A ?_
  exact RT0⟩
def zac(d:List zb)(e:T0)(f:T1)(i:T0)(j:Bool)(l:Bool)(m:Int)(n:Int)(o:List zr)(a:List zS)(b:List zT):Option (Bool):=
  (zbF d e f i j l m n o a b).bind λc=>some (decide (0≤c))
theorem zcf(c:List zb)(d:T0)(e:T1)(f:T0)(i:Bool)(j:Bool)(l:Int)(m:Int)(n:List zr)(a:List zS)(b:List zT){r:Bool}(h:zac c d e f i j l m n a b=some r):Xm prog 239 [.isl 10 (map zc c),.fn (.func 307) [] [.ipt 10 [[sA d,tL e,sA f,bA i,bA j,iA l,iA m,.isl 4 (map zn n),.isl 3 (map zA a),.isl 4 (map zY b)]] 0 0]] (bA r):=by
 refine zi func239 y kz y y<|A ?_;obtain ⟨o,p,h⟩:=bs h;refine A ?_;exact RT0
instance (c:List zb)(d:T0)(e:T1)(f:T0)(i:Bool)(j:Bool)(l:Int)(m:Int)(n:List zr)(a:List zS)(b:List zT):PF prog 239 [.isl 10 (map zc c),.fn (.func 307) [] [.ipt 10 [[sA d,tL e,sA f,bA i,bA j,iA l,iA m,.isl 4 (map zn n),.isl 3 (map zA a),.isl 4 (map zY b)]] 0 0]] (zac c d e f i j l m n a b) bA:=⟨λ_=>zcf c d e f i j l m n a b⟩
def zoI:Option (Bool):=
  some true
def zj8(a:Int):zL (Int) (Unit) (Bool):=
  some (.inl (i64.wrap (a+1)))
def EO(i:List za)(j:T2)(a:zb)(c:T1)(b:Int):zL (Int) (Unit) (Bool):=
  cond (decide (b<(length c:Int))) ((idx c b).bind λd=>(zQ i j d).bind λe=>(zac e.1.Methods a.Name a.Params a.Ret a.Static a.Abstract a.Locals a.Stack a.Code a.Maps a.Traps).bind λf=>cond f (some (.inr (.inr false))) (some (.inl (i64.wrap (b+1))))) (some (.inr (.inl ())))
def EN(e:List za)(f:T2)(d:za)(a:Int):zL (Int) (Unit) (Bool):=
  cond (decide (a<(length d.Methods:Int))) ((idx d.Methods a).bind λi=>(GP e f d.Name).bind λc=>(XJ c 1 (length c:Int)).bind λj=>(zp (λz=>EO e f i j z) 0).bind λo=>zH o (λb=>zj8 a) (λr=>some (.inr (.inr r)))) (some (.inr (.inl ())))
def zgB(a:List za)(c:T2)(d:za):Option (Bool):=
  (zp (λz=>EN a c d z) 0).bind λo=>zH o (λb=>zoI) some
theorem zj9(e:List za)(f:T2)(d:za){r:Bool}(h:zgB e f d=some r):Xm prog 214 [.ipt 2 [[cL e,mI f]] 0 0,.agg (zf d)] (bA r):=by
 refine zi func214 y kz y y<|A ?_;refine ze<|A ?_;obtain ⟨o,ho,h⟩:=bs h;refine lpB ho (λz=>[(0,.ipt 2 [[cL e,mI f]] 0 0),(3,.mpt 0 0 0),(12,.isl 10 (map zc d.Methods)),(13,iA (length d.Methods:Int)),(14,iA z)]) (λz=>[some (6,[(zf d)])]) (λb=>[]) (λb=>[]) (pG f214 bA) (Xd [0]) ?_ ?_
 .rintro i r h;refine A ?_;refine ze ?_;apply Xa h y<;>intro n h
  .refine zd<|ze<|zh ?_;obtain ⟨c,B,h⟩:=bs h;refine A ?_;obtain ⟨j,s,l,m,h⟩:=bs2 h;refine A ?_;refine u<|sx [] (Wj e f d.Name s)<|zx (env0:=[(0,.ipt 2 [[cL e,mI f]] 0 0),(3,.mpt 0 0 0),(6,.mpt 1 0 0),(12,.isl 10 (map zc d.Methods)),(13,iA (length d.Methods:Int)),(14,iA i),(21,.msl 2 0 (length j))]) (st0:=[some (6,[(zf d)]),some (10,[(zc c)]),sT j]) (zl [0,1,2])<|zx (env0:=[(0,.ipt 2 [[cL e,mI f]] 0 0),(3,.mpt 0 0 0),(6,.mpt 1 0 0),(12,.isl 10 (map zc d.Methods)),(13,iA (length d.Methods:Int)),(14,iA i),(21,tL j)]) (st0:=[some (6,[(zf d)]),some (10,[(zc c)])]) (zl [0,1])<|u<|slI (a:=1) (b:=(length j:Int)) ti y ti y y (K5 y m) y m<|A ?_;obtain ⟨o,ho,h⟩:=bs h;refine lpS ho (λz=>[(0,.ipt 2 [[cL e,mI f]] 0 0),(3,.mpt 0 0 0),(6,.mpt 1 0 0),(12,.isl 10 (map zc d.Methods)),(13,iA (length d.Methods:Int)),(14,iA i),(22,tL l),(23,iA (length l:Int)),(24,iA z)]) (λz=>[some (6,[(zf d)]),some (10,[(zc c)])]) (λb=>[(0,.ipt 2 [[cL e,mI f]] 0 0),(3,.mpt 0 0 0),(12,.isl 10 (map zc d.Methods)),(13,iA (length d.Methods:Int)),(14,iA i)]) (λb=>[some (6,[(zf d)])]) (pG f214 bA) (Xd [0,1]) ?_ ?_ ?_
   .rintro C r h;refine A ?_;refine ze ?_;apply Xa h y<;>intro p h
    .refine zd<|ze<|zh ?_;obtain ⟨D,E,h⟩:=bs h;refine A ?_;obtain ⟨v,F,h⟩:=bs h;refine A ?_;obtain ⟨G,x,h⟩:=bs h;refine A ?_;refine u<|pcs (zcf v.1.Methods c.Name c.Params c.Ret c.Static c.Abstract c.Locals c.Stack c.Code c.Maps c.Traps x) y y (.cons (si y) (.cons (Zt t ⟨(XO y ⟨(si y),(si y),(si y),(si y),(si y),(si y),(si y),(si y),(si y),(si y),t⟩),t⟩) .nil)) XD<|zo ?_;apply Xa h y<;>intro q h
     .refine A ?_;refine zy ?_;cases h;exact ⟨_,y,_,y,Xb []⟩
     .refine zd<|A ?_;cases h;exact ⟨_,y,zl [0,1]⟩
    .refine zs ?_;cases h;exact ⟨y,_,y,zl [0]⟩
   .rintro ⟨⟩ rfl;refine zm<|A ?_;cases h;exact ⟨_,y,zl [0]⟩
   .rintro r' rfl env st hp;cases h;exact ⟨_,y,hp⟩
  .refine zs ?_;cases h;exact ⟨y,_,y,zl []⟩
 .rintro ⟨⟩ rfl;refine zm<|A ?_;exact RT0
instance (a:List za)(b:T2)(c:za):PF prog 214 [.ipt 2 [[cL a,mI b]] 0 0,.agg (zf c)] (zgB a b c) bA:=⟨λ_=>zj9 a b c⟩
def zi4(a:zb)(b:T0)(i:T1)(j:T0)(l:Bool)(m:Bool)(n:Int)(o:Int)(p:List zr)(c:List zS)(d:List zT):Option (Bool):=
  (cond (a.Name == b) ((W2 (zb.mk b i j l m n o p c d) a).bind λe=>some (!e)) (some false)).bind λf=>some f
instance (e:zb)(f:T0)(i:T1)(l:T0)(m:Bool)(n:Bool)(o:Int)(p:Int)(q:List zr)(c:List zS)(d:List zT):PF prog 308 [.agg (zc e),.ipt 10 [[sA f,tL i,sA l,bA m,bA n,iA o,iA p,.isl 4 (map zn q),.isl 3 (map zA c),.isl 4 (map zY d)]] 0 0] (zi4 e f i l m n o p q c d) bA:=⟨λr h=>by
 refine zi func308 y kz y y<|A ?_;obtain ⟨s,b,h⟩:=bs h;refine A ?_;refine X1 (x:=s) (j:=5) 4 y y y y y gpn (λa=>by replace b:=bT a b;obtain ⟨B,v,b⟩:=bs b;obtain rfl:=sm b;exact g y a<|ld ti y y<|g y a<|ld ti y y<|g y a<|pc (zjN (zb.mk f i l m n o p q c d) e v) y y y<|g y a<|nt y<|zo (eg [10,11,12,13] 4 y y y y)) (λhb=>(sm (bF hb b)).symm)<|A ?_
 exact RT0⟩
def zcF:Option (Int):=
  some (-1)
def zau(b:List zb)(i:T0)(j:T1)(l:T0)(m:Bool)(n:Bool)(o:Int)(p:Int)(q:List zr)(c:List zS)(d:List zT)(a:Int):zL (Int) (Unit) (Int):=
  cond (decide (a<(length b:Int))) ((idx b a).bind λe=>(zi4 e i j l m n o p q c d).bind λf=>cond f (some (.inr (.inr a))) (some (.inl (i64.wrap (a+1))))) (some (.inr (.inl ())))
def zbG(d:List zb)(e:T0)(f:T1)(i:T0)(j:Bool)(l:Bool)(m:Int)(n:Int)(p:List zr)(a:List zS)(c:List zT):Option (Int):=
  (zp (λz=>zau d e f i j l m n p a c z) 0).bind λo=>zH o (λb=>zcF) some
instance (d:List zb)(e:T0)(f:T1)(i:T0)(j:Bool)(l:Bool)(m:Int)(n:Int)(p:List zr)(a:List zS)(c:List zT):PF prog 225 [.isl 10 (map zc d),.fn (.func 308) [] [.ipt 10 [[sA e,tL f,sA i,bA j,bA l,iA m,iA n,.isl 4 (map zn p),.isl 3 (map zA a),.isl 4 (map zY c)]] 0 0]] (zbG d e f i j l m n p a c) iA:=⟨λr h=>by
 refine zi func225 y kz y y<|A ?_;refine ze<|A ?_;obtain ⟨o,ho,h⟩:=bs h;refine lpB ho (λz=>[(0,.isl 10 (map zc d)),(1,.fn (.func 308) [] [.ipt 10 [[sA e,tL f,sA i,bA j,bA l,iA m,iA n,.isl 4 (map zn p),.isl 3 (map zA a),.isl 4 (map zY c)]] 0 0]),(7,iA (length d:Int)),(8,iA z)]) (λz=>[]) (λb=>[]) (λb=>[]) (pG f225 iA) (Xd []) ?_ ?_
 .rintro v r h;refine A ?_;refine ze ?_;apply Xa h y<;>intro q h
  .refine zd<|ze<|zh<|A ?_;obtain ⟨x,C,B,D,h⟩:=bs2 h;refine A ?_;apply Xa h y<;>intro s h
   .refine A ?_;refine zy ?_;cases h;exact ⟨_,y,_,y,Xb []⟩
   .refine zd<|A ?_;cases h;exact ⟨_,y,zl []⟩
  .refine zs ?_;cases h;exact ⟨y,_,y,zl []⟩
 .rintro ⟨⟩ rfl;refine zm<|A ?_
  exact RT0⟩
def zad(d:List zb)(e:T0)(f:T1)(i:T0)(j:Bool)(l:Bool)(m:Int)(n:Int)(o:List zr)(a:List zS)(b:List zT):Option (Bool):=
  (zbG d e f i j l m n o a b).bind λc=>some (decide (0≤c))
theorem zcg(c:List zb)(d:T0)(e:T1)(f:T0)(i:Bool)(j:Bool)(l:Int)(m:Int)(n:List zr)(a:List zS)(b:List zT){r:Bool}(h:zad c d e f i j l m n a b=some r):Xm prog 239 [.isl 10 (map zc c),.fn (.func 308) [] [.ipt 10 [[sA d,tL e,sA f,bA i,bA j,iA l,iA m,.isl 4 (map zn n),.isl 3 (map zA a),.isl 4 (map zY b)]] 0 0]] (bA r):=by
 refine zi func239 y kz y y<|A ?_;obtain ⟨o,p,h⟩:=bs h;refine A ?_;exact RT0
instance (c:List zb)(d:T0)(e:T1)(f:T0)(i:Bool)(j:Bool)(l:Int)(m:Int)(n:List zr)(a:List zS)(b:List zT):PF prog 239 [.isl 10 (map zc c),.fn (.func 308) [] [.ipt 10 [[sA d,tL e,sA f,bA i,bA j,iA l,iA m,.isl 4 (map zn n),.isl 3 (map zA a),.isl 4 (map zY b)]] 0 0]] (zad c d e f i j l m n a b) bA:=⟨λ_=>zcg c d e f i j l m n a b⟩
def Ks(a:zb):Bool:=
  ((!a.Static)&&(!a.Abstract))
theorem zmB(a:zb){r:Bool}(h:Ks a=r):Xm prog 330 [.agg (zc a)] (bA r):=by
 refine zi func330 y kz y y ?_;unfold Ks at h;refine A ?_;refine A ?_;refine zy ?_;obtain rfl:=h;exact ⟨_,y,Xb []⟩
instance (a:zb):PF prog 330 [.agg (zc a)] (some (Ks a)) bA:=.of λ_=>zmB a
def zrM:Option (T0×zb×Bool):=
  some ([],(zb.mk [] [] [] false false 0 0 [] [] []),false)
def Ei(l:List za)(m:T2)(e:T1)(n:T0)(a:Int):zL (Int) (Unit) (T0×zb×Bool):=
  cond (decide (a<(length e:Int))) ((idx e a).bind λd=>(zQ l m d).bind λb=>(HW b.1 n).bind λc=>(cond (decide (0≤c)) ((idx b.1.Methods c).bind λf=>some (Ks f)) (some false)).bind λi=>cond i ((idx b.1.Methods c).bind λj=>some (.inr (.inr (d,j,true)))) (some (.inl (i64.wrap (a+1))))) (some (.inr (.inl ())))
def zkU(a:List za)(c:T2)(d:T1)(e:T0):Option (T0×zb×Bool):=
  (zp (λz=>Ei a c d e z) 0).bind λo=>zH o (λb=>zrM) some
instance (i:List za)(l:T2)(d:T1)(e:T0):PF prog 218 [.ipt 2 [[cL i,mI l]] 0 0,tL d,sA e,.fn (.func 330) [] []] (zkU i l d e) (λr=>(.tup [sA r.1,.agg (zc r.2.1),bA r.2.2])):=⟨λr h=>by
 refine zi func218 y kz y y<|A ?_;refine ze<|A ?_;obtain ⟨o,ho,h⟩:=bs h;refine lpB ho (λz=>[(0,.ipt 2 [[cL i,mI l]] 0 0),(2,sA e),(3,.fn (.func 330) [] []),(9,.mpt 0 0 0),(16,tL d),(17,iA (length d:Int)),(18,iA z)]) (λz=>[some (10,[[sA [],nS,sA [],bA false,bA false,iA 0,iA 0,nS,nS,nS]])]) (λb=>[(9,.mpt 0 0 0)]) (λb=>[some (10,[[sA [],nS,sA [],bA false,bA false,iA 0,iA 0,nS,nS,nS]])]) (pG f218 (λr=>.tup [sA r.1,.agg (zc r.2.1),bA r.2.2])) (Xd [0]) ?_ ?_
 .rintro C r h;refine A ?_;refine ze ?_;apply Xa h y<;>intro m h
  .refine zd<|ze<|zh ?_;obtain ⟨D,E,h⟩:=bs h;refine A ?_;obtain ⟨p,F,h⟩:=bs h;refine A ?_;obtain ⟨G,q,h⟩:=bs h;refine rg y<|u<|ld ti y y<|u<|mv y<|u<|pc (zgW p.1 e q) y y y<|u<|asg y<|zo ?_;obtain ⟨s,c,h⟩:=bs h;refine rg y<|u<|mv y<|u<|geq ti y y<|u<|mv y<|X1 (x:=s) (j:=2) 7 y y y y y gpn (λa=>by replace c:=bT a c;obtain ⟨v,f,c⟩:=bs c;obtain rfl:=sm c;exact g y a<|mv y<|g y a<|fa ti y y y<|g y a<|ld ti y y<|g y a<|mv y<|g y a<|ixI ti y ti y y y f<|g y a<|ldI ti y (zz f).2.2 y<|g y a<|pc (zmB v y) y y y<|zo (eg [34,35,36,37,38,39,40] 7 y y y y)) (λhb=>(sm (bF hb c)).symm)<|zo ?_;apply Xa h y<;>intro n h
   .obtain ⟨B,H,h⟩:=bs h;refine rdA [(8,_),(9,_),(10,_)] [some (10,[(zc B)])] [7] [0,1,2,3,4,5,6] [(8,_),(47,_),(46,_),(45,_),(44,_),(43,_),(42,_)] 1 (Xj (z:=by exact ⟨(λ_ _=>⟨_,y,y,sto ti y y y<|⟨.any,[8],[(10,_)],y,y,y,t,Xk (z:=Xd [0])⟩⟩),t⟩)) ?_;refine zy ?_;cases h;exact ⟨_,y,_,y,Xb []⟩
   .refine zd<|A ?_;cases h;exact ⟨_,y,zl [0]⟩
  .refine zs ?_;cases h;exact ⟨y,_,y,zl [0]⟩
 .rintro ⟨⟩ rfl;refine zm<|A ?_
  exact RT0⟩
def zhB(a:List za)(b:T2)(d:T0)(e:T0):Option (T0×Bool):=
  (GP a b d).bind λf=>(zkU a b f e).bind λc=>some (c.1,c.2.2)
instance (a:List za)(b:T2)(d:T0)(c:T0):PF prog 253 [.ipt 2 [[cL a,mI b]] 0 0,sA d,sA c] (zhB a b d c) (λr=>(.tup [sA r.1,bA r.2])):=⟨λr h=>by
 refine zi func253 y kz y y<|A ?_;obtain ⟨e,f,i,j,h⟩:=bs2 h;refine A ?_;refine u<|sx [] (Wj a b d f)<|zx (env0:=[(2,sA c),(12,.ipt 2 [[cL a,mI b]] 0 0),(15,.msl 0 0 (length e))]) (st0:=[sT e]) (zl [0])<|u<|mv y<|zx (env0:=[(12,.ipt 2 [[cL a,mI b]] 0 0),(15,tL e),(16,sA c)]) (st0:=[]) (zl [])<|A ?_;refine A ?_
 exact RT0⟩
def zkP(a:zb)(b:T0)(i:T1)(j:T0)(l:Bool)(m:Bool)(n:Int)(o:Int)(p:List zr)(c:List zS)(d:List zT):Option (Bool):=
  (cond (a.Name == b) ((W2 (zb.mk b i j l m n o p c d) a).bind λe=>some e) (some false)).bind λf=>some f
instance (e:zb)(f:T0)(i:T1)(l:T0)(m:Bool)(n:Bool)(o:Int)(p:Int)(q:List zr)(c:List zS)(d:List zT):PF prog 350 [.agg (zc e),.ipt 10 [[sA f,tL i,sA l,bA m,bA n,iA o,iA p,.isl 4 (map zn q),.isl 3 (map zA c),.isl 4 (map zY d)]] 0 0] (zkP e f i l m n o p q c d) bA:=⟨λr h=>by
 refine zi func350 y kz y y<|A ?_;obtain ⟨s,b,h⟩:=bs h;refine A ?_;refine X1 (x:=s) (j:=5) 3 y y y y y gpn (λa=>by replace b:=bT a b;obtain ⟨B,v,b⟩:=bs b;obtain rfl:=sm b;exact g y a<|ld ti y y<|g y a<|ld ti y y<|g y a<|pc (zjN (zb.mk f i l m n o p q c d) e v) y y y<|zo (eg [10,11,12] 3 y y y y)) (λhb=>(sm (bF hb b)).symm)<|A ?_
 exact RT0⟩
def zcH:Option (Int):=
  some (-1)
def zaw(b:List zb)(i:T0)(j:T1)(l:T0)(m:Bool)(n:Bool)(o:Int)(p:Int)(q:List zr)(c:List zS)(d:List zT)(a:Int):zL (Int) (Unit) (Int):=
  cond (decide (a<(length b:Int))) ((idx b a).bind λe=>(zkP e i j l m n o p q c d).bind λf=>cond f (some (.inr (.inr a))) (some (.inl (i64.wrap (a+1))))) (some (.inr (.inl ())))
def zbI(d:List zb)(e:T0)(f:T1)(i:T0)(j:Bool)(l:Bool)(m:Int)(n:Int)(p:List zr)(a:List zS)(c:List zT):Option (Int):=
  (zp (λz=>zaw d e f i j l m n p a c z) 0).bind λo=>zH o (λb=>zcH) some
instance (d:List zb)(e:T0)(f:T1)(i:T0)(j:Bool)(l:Bool)(m:Int)(n:Int)(p:List zr)(a:List zS)(c:List zT):PF prog 225 [.isl 10 (map zc d),.fn (.func 350) [] [.ipt 10 [[sA e,tL f,sA i,bA j,bA l,iA m,iA n,.isl 4 (map zn p),.isl 3 (map zA a),.isl 4 (map zY c)]] 0 0]] (zbI d e f i j l m n p a c) iA:=⟨λr h=>by
 refine zi func225 y kz y y<|A ?_;refine ze<|A ?_;obtain ⟨o,ho,h⟩:=bs h;refine lpB ho (λz=>[(0,.isl 10 (map zc d)),(1,.fn (.func 350) [] [.ipt 10 [[sA e,tL f,sA i,bA j,bA l,iA m,iA n,.isl 4 (map zn p),.isl 3 (map zA a),.isl 4 (map zY c)]] 0 0]),(7,iA (length d:Int)),(8,iA z)]) (λz=>[]) (λb=>[]) (λb=>[]) (pG f225 iA) (Xd []) ?_ ?_
 .rintro v r h;refine A ?_;refine ze ?_;apply Xa h y<;>intro q h
  .refine zd<|ze<|zh<|A ?_;obtain ⟨x,C,B,D,h⟩:=bs2 h;refine A ?_;apply Xa h y<;>intro s h
   .refine A ?_;refine zy ?_;cases h;exact ⟨_,y,_,y,Xb []⟩
   .refine zd<|A ?_;cases h;exact ⟨_,y,zl []⟩
  .refine zs ?_;cases h;exact ⟨y,_,y,zl []⟩
 .rintro ⟨⟩ rfl;refine zm<|A ?_
  exact RT0⟩
def zaf(d:List zb)(e:T0)(f:T1)(i:T0)(j:Bool)(l:Bool)(m:Int)(n:Int)(o:List zr)(a:List zS)(b:List zT):Option (Bool):=
  (zbI d e f i j l m n o a b).bind λc=>some (decide (0≤c))
theorem zci(c:List zb)(d:T0)(e:T1)(f:T0)(i:Bool)(j:Bool)(l:Int)(m:Int)(n:List zr)(a:List zS)(b:List zT){r:Bool}(h:zaf c d e f i j l m n a b=some r):Xm prog 239 [.isl 10 (map zc c),.fn (.func 350) [] [.ipt 10 [[sA d,tL e,sA f,bA i,bA j,iA l,iA m,.isl 4 (map zn n),.isl 3 (map zA a),.isl 4 (map zY b)]] 0 0]] (bA r):=by
 refine zi func239 y kz y y<|A ?_;obtain ⟨o,p,h⟩:=bs h;refine A ?_;exact RT0
instance (c:List zb)(d:T0)(e:T1)(f:T0)(i:Bool)(j:Bool)(l:Int)(m:Int)(n:List zr)(a:List zS)(b:List zT):PF prog 239 [.isl 10 (map zc c),.fn (.func 350) [] [.ipt 10 [[sA d,tL e,sA f,bA i,bA j,iA l,iA m,.isl 4 (map zn n),.isl 3 (map zA a),.isl 4 (map zY b)]] 0 0]] (zaf c d e f i j l m n a b) bA:=⟨λ_=>zci c d e f i j l m n a b⟩
def znW(b:List za)(c:T2)(e:T0)(a:zb):Option (Bool):=
  (zhB b c e a.Name).bind λd=>cond (!d.2) (some false) ((zQ b c d.1).bind λf=>(zaf f.1.Methods a.Name a.Params a.Ret a.Static a.Abstract a.Locals a.Stack a.Code a.Maps a.Traps).bind λi=>some i)
instance (b:List za)(c:T2)(d:T0)(a:zb):PF prog 310 [.ipt 2 [[cL b,mI c]] 0 0,sA d,.agg (zc a)] (znW b c d a) bA:=⟨λr h=>by
 refine zi func310 y kz y y<|A ?_;obtain ⟨j,l,h⟩:=bs h;refine A ?_;refine ze<|A ?_;apply Xa h y<;>intro e h
 .refine A ?_;exact RT0
 .refine zd ?_;obtain ⟨f,m,h⟩:=bs h;refine A ?_;obtain ⟨n,i,h⟩:=bs h;refine A ?_;refine u<|pcs (zci f.1.Methods a.Name a.Params a.Ret a.Static a.Abstract a.Locals a.Stack a.Code a.Maps a.Traps i) y y (.cons (si y) (.cons (Zt t ⟨(XO y ⟨(si y),(si y),(si y),(si y),(si y),(si y),(si y),(si y),(si y),(si y),t⟩),t⟩) .nil)) XD<|A ?_
  exact RT0⟩
def zk9(b:zb)(c:List za)(d:T2)(e:T0)(f:T0)(i:Bool)(j:T1)(l:List zj)(m:List zb):Option (Bool):=
  (znW c d e b).bind λa=>some (!a)
instance (a:zb)(b:List za)(c:T2)(d:T0)(e:T0)(f:Bool)(i:T1)(j:List zj)(l:List zb):PF prog 309 [.agg (zc a),.ipt 1 [[.ipt 2 [[cL b,mI c]] 0 0]] 0 0,.ipt 6 [[sA d,sA e,bA f,tL i,.isl 3 (map zv j),.isl 10 (map zc l)]] 0 0] (zk9 a b c d e f i j l) bA:=⟨λr h=>by
 refine zi func309 y kz y y<|A ?_;obtain ⟨m,n,h⟩:=bs h;refine A ?_
 exact RT0⟩
def zcG:Option (Int):=
  some (-1)
def zav(b:List zb)(e:List za)(f:T2)(i:T0)(j:T0)(l:Bool)(m:T1)(n:List zj)(o:List zb)(a:Int):zL (Int) (Unit) (Int):=
  cond (decide (a<(length b:Int))) ((idx b a).bind λc=>(zk9 c e f i j l m n o).bind λd=>cond d (some (.inr (.inr a))) (some (.inl (i64.wrap (a+1))))) (some (.inr (.inl ())))
def zbH(a:List zb)(c:List za)(d:T2)(e:T0)(f:T0)(i:Bool)(j:T1)(l:List zj)(m:List zb):Option (Int):=
  (zp (λz=>zav a c d e f i j l m z) 0).bind λo=>zH o (λb=>zcG) some
instance (a:List zb)(c:List za)(d:T2)(e:T0)(f:T0)(i:Bool)(j:T1)(l:List zj)(m:List zb):PF prog 225 [.isl 10 (map zc a),.fn (.func 309) [] [.ipt 1 [[.ipt 2 [[cL c,mI d]] 0 0]] 0 0,.ipt 6 [[sA e,sA f,bA i,tL j,.isl 3 (map zv l),.isl 10 (map zc m)]] 0 0]] (zbH a c d e f i j l m) iA:=⟨λr h=>by
 refine zi func225 y kz y y<|A ?_;refine ze<|A ?_;obtain ⟨o,ho,h⟩:=bs h;refine lpB ho (λz=>[(0,.isl 10 (map zc a)),(1,.fn (.func 309) [] [.ipt 1 [[.ipt 2 [[cL c,mI d]] 0 0]] 0 0,.ipt 6 [[sA e,sA f,bA i,tL j,.isl 3 (map zv l),.isl 10 (map zc m)]] 0 0]),(7,iA (length a:Int)),(8,iA z)]) (λz=>[]) (λb=>[]) (λb=>[]) (pG f225 iA) (Xd []) ?_ ?_
 .rintro q r h;refine A ?_;refine ze ?_;apply Xa h y<;>intro n h
  .refine zd<|ze<|zh<|A ?_;obtain ⟨s,x,v,B,h⟩:=bs2 h;refine A ?_;apply Xa h y<;>intro p h
   .refine A ?_;refine zy ?_;cases h;exact ⟨_,y,_,y,Xb []⟩
   .refine zd<|A ?_;cases h;exact ⟨_,y,zl []⟩
  .refine zs ?_;cases h;exact ⟨y,_,y,zl []⟩
 .rintro ⟨⟩ rfl;refine zm<|A ?_
  exact RT0⟩
def zae(b:List zb)(c:List za)(d:T2)(e:T0)(f:T0)(i:Bool)(j:T1)(l:List zj)(m:List zb):Option (Bool):=
  (zbH b c d e f i j l m).bind λa=>some (decide (0≤a))
theorem zch(a:List zb)(b:List za)(c:T2)(d:T0)(e:T0)(f:Bool)(i:T1)(j:List zj)(l:List zb){r:Bool}(h:zae a b c d e f i j l=some r):Xm prog 239 [.isl 10 (map zc a),.fn (.func 309) [] [.ipt 1 [[.ipt 2 [[cL b,mI c]] 0 0]] 0 0,.ipt 6 [[sA d,sA e,bA f,tL i,.isl 3 (map zv j),.isl 10 (map zc l)]] 0 0]] (bA r):=by
 refine zi func239 y kz y y<|A ?_;obtain ⟨m,n,h⟩:=bs h;refine A ?_;exact RT0
instance (a:List zb)(b:List za)(c:T2)(d:T0)(e:T0)(f:Bool)(i:T1)(j:List zj)(l:List zb):PF prog 239 [.isl 10 (map zc a),.fn (.func 309) [] [.ipt 1 [[.ipt 2 [[cL b,mI c]] 0 0]] 0 0,.ipt 6 [[sA d,sA e,bA f,tL i,.isl 3 (map zv j),.isl 10 (map zc l)]] 0 0]] (zae a b c d e f i j l) bA:=⟨λ_=>zch a b c d e f i j l⟩
def zna(d:List za)(e:T2)(a:za)(b:List zb):Option (Bool):=
  cond a.Interface (some true) ((zae b d e a.Name a.Super a.Interface a.Impl a.Fields a.Methods).bind λc=>some (!c))
def zm9(a:Int)(b:List zb):zL ((List zb)×Int) ((List zb)) (Bool):=
  some (.inl (b,(i64.wrap (a+1))))
def Em(d:za×Bool)(b:List zb)(c:Int):zL ((List zb)×Int) ((List zb)) (Bool):=
  cond (decide (c<(length d.1.Methods:Int))) ((idx d.1.Methods c).bind λa=>(zad b a.Name a.Params a.Ret a.Static a.Abstract a.Locals a.Stack a.Code a.Maps a.Traps).bind λe=>cond e (some (.inr (.inr false))) ((Xx 152 b [a]).bind λf=>some (.inl (f,(i64.wrap (c+1)))))) (some (.inr (.inl b)))
def El(i:List za)(j:T2)(d:T1)(c:List zb)(a:Int):zL ((List zb)×Int) ((List zb)) (Bool):=
  cond (decide (a<((length d):Int))) ((idx d a).bind λe=>(zQ i j e).bind λf=>(zp (λz=>Em f z.1 z.2) (c,0)).bind λo=>zH o (λb=>zm9 a b) (λr=>some (.inr (.inr r)))) (some (.inr (.inl c)))
def zjb(a:List za)(c:T2)(d:za):Option (Bool):=
  (Et a c d.Name).bind λe=>(zp (λz=>El a c e z.1 z.2) ([],0)).bind λo=>zH o (λb=>zna a c d b) some
theorem znb(e:List za)(i:T2)(c:za){r:Bool}(h:zjb e i c=some r):Xm prog 215 [.ipt 2 [[cL e,mI i]] 0 0,.agg (zf c)] (bA r):=by
 refine zi func215 y kz y y<|A ?_;refine A ?_;refine ze ?_;obtain ⟨d,D,h⟩:=bs h;refine A ?_;refine u<|sx [] (zg1 e i c.Name D)<|zx (env0:=[(2,.mpt 0 0 0),(3,.mpt 1 0 0),(5,nS),(15,.msl 2 0 (length d))]) (st0:=[some (1,[[.ipt 2 [[cL e,mI i]] 0 0]]),some (6,[(zf c)]),sT d]) (zl [0,1,2])<|A ?_;obtain ⟨o,ho,h⟩:=bs h;refine lpB ho (λz=>[(2,.mpt 0 0 0),(3,.mpt 1 0 0),(5,.msl 2 0 (length z.1)),(15,.msl 3 0 (length d)),(16,iA ((length d):Int)),(17,iA z.2)]) (λz=>[some (1,[[.ipt 2 [[cL e,mI i]] 0 0]]),some (6,[(zf c)]),some (10,map zc z.1),sT d]) (λb=>[(2,.mpt 0 0 0),(3,.mpt 1 0 0),(5,.msl 2 0 (length b))]) (λb=>[some (1,[[.ipt 2 [[cL e,mI i]] 0 0]]),some (6,[(zf c)]),some (10,map zc b)]) (pG f215 bA) ⟨[0,1,.fresh 10,2],cv y (.mpt y)<|cv y (.mpt y)<|cv y (.nilown y)<|cv y (.msl y)<|ce y y<|ce y y<|cn,y,⟨⟨_,y,XG ⟨ci y,t⟩⟩,⟨_,y,XG (ciL y)⟩,w,⟨_,y,Zb (λ_=>y)⟩,t⟩,y,k⟩ ?_ ?_
 .rintro ⟨E,j⟩ r h;refine A ?_;refine ze ?_;apply Xa h y<;>intro m h
  .refine zd<|ze<|zh ?_;obtain ⟨F,G,h⟩:=bs h;refine A ?_;obtain ⟨l,H,h⟩:=bs h;refine A ?_;refine A ?_;obtain ⟨o,ho,h⟩:=bs h;refine lpS ho (λz=>[(2,.mpt 0 0 0),(3,.mpt 1 0 0),(5,.msl 2 0 (length z.1)),(15,.msl 3 0 (length d)),(16,iA ((length d):Int)),(17,iA j),(28,.isl 10 (map zc l.1.Methods)),(29,iA (length l.1.Methods:Int)),(30,iA z.2)]) (λz=>[some (1,[[.ipt 2 [[cL e,mI i]] 0 0]]),some (6,[(zf c)]),some (10,map zc z.1),sT d]) (λb=>[(2,.mpt 0 0 0),(3,.mpt 1 0 0),(5,.msl 2 0 (length b)),(15,.msl 3 0 (length d)),(16,iA ((length d):Int)),(17,iA j)]) (λb=>[some (1,[[.ipt 2 [[cL e,mI i]] 0 0]]),some (6,[(zf c)]),some (10,map zc b),sT d]) (pG f215 bA) (Xd [0,1,2,3]) ?_ ?_ ?_
   .rintro ⟨s,I⟩ r h;refine A ?_;refine ze ?_;apply Xa h y<;>intro n h
    .refine zd<|ze<|zh ?_;obtain ⟨a,J,h⟩:=bs h;refine A ?_;refine ze ?_;obtain ⟨K,v,h⟩:=bs h;refine A ?_;refine u<|pcs (zcg s a.Name a.Params a.Ret a.Static a.Abstract a.Locals a.Stack a.Code a.Maps a.Traps v) y y (.cons (X9 y (λ_=>y)) (.cons (Zt t ⟨(XO y ⟨(si y),(si y),(si y),(si y),(si y),(si y),(si y),(si y),(si y),(si y),t⟩),t⟩) .nil)) XD<|zo ?_;apply Xa h y<;>intro p h
     .refine A ?_;refine zy ?_;cases h;exact ⟨_,y,_,y,Xb []⟩
     .refine zd ?_;obtain ⟨L,x,h⟩:=bs h;refine A ?_;refine u<|apM 6 ti y ti y y (by decide) ti y y y y (roX (f:=zc) (z:=[a]) y y) (λ_=>y) y x<|A ?_;refine A ?_;cases h;exact ⟨_,y,zl [0,1,6,3]⟩
    .refine zs ?_;cases h;exact ⟨y,_,y,zl [0,1,2,3]⟩
   .rintro M rfl;refine zm<|A ?_;cases h;exact ⟨_,y,zl [0,1,2,3]⟩
   .rintro r' rfl env st hp;cases h;exact ⟨_,y,hp⟩
  .refine zs ?_;cases h;exact ⟨y,_,y,zl [0,1,2]⟩
 .rintro B rfl;refine zm<|ze<|A ?_;apply Xa h y<;>intro q h
  .refine A ?_;exact RT0
  .refine zd ?_;obtain ⟨N,C,h⟩:=bs h;refine A ?_;refine u<|pcs (zch B e i c.Name c.Super c.Interface c.Impl c.Fields c.Methods C) y y (.cons (X9 y (λ_=>y)) (.cons (Zt t ⟨(XO y ⟨(si y),t⟩),(XO y ⟨(si y),(si y),(si y),(si y),(si y),(si y),t⟩),t⟩) .nil)) XD<|A ?_;exact RT0
instance (a:List za)(b:T2)(c:za):PF prog 215 [.ipt 2 [[cL a,mI b]] 0 0,.agg (zf c)] (zjb a b c) bA:=⟨λ_=>znb a b c⟩
def zqT:Option (Int):=
  some 0
def Ea(a:zJ)(c:T1)(b:Int):zL (Int) (Unit) (Int):=
  cond (decide (b<((length c):Int))) ((idx c b).bind λe=>(zQ a.l a.at_ e).bind λd=>(zgB a.l a.at_ d.1).bind λf=>(cond (!f) (some true) ((zjb a.l a.at_ d.1).bind λi=>some (!i))).bind λj=>cond j (some (.inr (.inr 1))) (some (.inl (i64.wrap (b+1))))) (some (.inr (.inl ())))
def zmy(a:zJ):Option (Int):=
  (zfq a.l a.at_).bind λc=>(zp (λz=>Ea a c z) 0).bind λo=>zH o (λb=>zqT) some
def Eb(a:zJ)(c:T1)(b:Int):zL (Int) (Unit) (Int):=
  cond (decide (b<((length c):Int))) ((idx c b).bind λf=>(zQ a.l a.at_ f).bind λd=>(I9 a.l a.at_ d.1).bind λe=>cond (!e) (some (.inr (.inr 4))) (some (.inl (i64.wrap (b+1))))) (some (.inr (.inl ())))
def DX(c:Option zJ):Option (Int):=
  Um c (none) (λa=>(zfq a.l a.at_).bind λd=>(zp (λz=>Eb a d z) 0).bind λo=>zH o (λb=>zmy a) some)
theorem zhG(m:Option zJ){r:Int}(h:DX m=some r):Xm prog 121 [XB 2 Zu m] (iA r):=by
 refine zi func121 y kz y y ?_;unfold DX at h
 rcases m with _ |a
 .replace h:=oeN h;cases h
 .replace h:=oeS h;refine A ?_;refine ze ?_;obtain ⟨f,G,h⟩:=bs h;refine rg y<|u<|mv y<|u<|sx [] (zjg a.l a.at_ G)<|zx (env0:=[(0,.ipt 2 [[cL a.l,mI a.at_]] 0 0),(12,.msl 0 0 (length f))]) (st0:=[sT f]) (zl [0])<|A ?_;obtain ⟨o,ho,h⟩:=bs h;refine lpB ho (λz=>[(0,.ipt 2 [[cL a.l,mI a.at_]] 0 0),(12,.msl 0 0 (length f)),(13,iA ((length f):Int)),(14,iA z)]) (λz=>[sT f]) (λb=>[(0,.ipt 2 [[cL a.l,mI a.at_]] 0 0)]) (λb=>[]) (pG f121 iA) (Xd [0]) ?_ ?_
  .rintro O r h;refine A ?_;refine ze ?_;apply Xa h y<;>intro s h
   .refine zd<|ze<|zh ?_;obtain ⟨P,Q,h⟩:=bs h;refine A ?_;obtain ⟨v,R,h⟩:=bs h;refine A ?_;obtain ⟨H,B,h⟩:=bs h;refine rg y<|u<|mv y<|u<|ld ti y y<|u<|pc (znc a.l a.at_ v.1 B) y y y<|u<|nt y<|zo ?_;apply Xa h y<;>intro n h
    .refine A ?_;refine zy ?_;cases h;exact ⟨_,y,_,y,Xb []⟩
    .refine zd<|A ?_;cases h;exact ⟨_,y,zl [0]⟩
   .refine zs ?_;cases h;exact ⟨y,_,y,zl []⟩
  .rintro ⟨⟩ rfl;refine zm<|ze ?_;obtain ⟨e,C,h⟩:=bs h;refine rg y<|u<|mv y<|u<|sx [] (zjg a.l a.at_ C)<|zx (env0:=[(0,.ipt 2 [[cL a.l,mI a.at_]] 0 0),(30,.msl 0 0 (length e))]) (st0:=[sT e]) (zl [0])<|A ?_;obtain ⟨o,ho,h⟩:=bs h;refine lpB ho (λz=>[(0,.ipt 2 [[cL a.l,mI a.at_]] 0 0),(30,.msl 0 0 (length e)),(31,iA ((length e):Int)),(32,iA z)]) (λz=>[sT e]) (λb=>[]) (λb=>[]) (pG f121 iA) (Xd [0]) ?_ ?_
   .rintro I r h;refine A ?_;refine ze ?_;apply Xa h y<;>intro p h
    .refine zd<|ze<|zh ?_;obtain ⟨J,K,h⟩:=bs h;refine A ?_;obtain ⟨i,L,h⟩:=bs h;refine A ?_;obtain ⟨M,D,E,d,h⟩:=bs2 h;refine rg y<|u<|mv y<|u<|ld ti y y<|u<|pc (zj9 a.l a.at_ i.1 D) y y y<|u<|nt y<|u<|mv y<|ZK (x:=E) (j:=4) 4 y y y y y gpn (λc=>by replace d:=bF c d;obtain ⟨N,F,d⟩:=bs d;obtain rfl:=sm d;exact g y c<|mv y<|g y c<|ld ti y y<|g y c<|pc (znb a.l a.at_ i.1 F) y y y<|g y c<|nt y<|zo (eg [47,48,49,50] 4 y y y y)) (λhb=>(sm (bT hb d)).symm)<|zo ?_;apply Xa h y<;>intro q h
     .refine A ?_;refine zy ?_;cases h;exact ⟨_,y,_,y,Xb []⟩
     .refine zd<|A ?_;cases h;exact ⟨_,y,zl [0]⟩
    .refine zs ?_;cases h;exact ⟨y,_,y,zl []⟩
   .rintro ⟨⟩ rfl;refine zm<|A ?_;exact RT0
instance (a:Option zJ):PF prog 121 [XB 2 Zu a] (DX a) iA:=⟨λ_=>zhG a⟩
def zhJ(a:T0):Bool:=
  false
instance (a:T0):PF prog 102 [.lit (.pointer none),sA a] (some (zhJ a)) bA:=.of λr h=>by
 refine zi func102 y kz y y ?_;unfold zhJ at h;refine A ?_;refine ze<|A ?_;refine U5 y (λ_=>?_) (λhx=>by cases hx);refine A ?_;refine zy ?_;obtain rfl:=h;exact ⟨_,y,Xb []⟩
def zoL:Option (T1):=
  some []
def zoM(a:T0):zL (Unit) (Unit) (T1):=
  cond (zhJ a) ((Xx 16 ([]:T1) [a]).bind λb=>none) (some (.inr (.inl ())))
def zjw(a:T0):Option (T1):=
  (zp (λz=>zoM a) ()).bind λo=>zH o (λb=>zoL) some
theorem zkc(a:T0){r:T1}(h:zjw a=some r):Xm prog 109 [.lit (.pointer none),sA a] (tL r):=by
 refine zi func109 y kz y y<|A ?_;refine A ?_;obtain ⟨o,ho,h⟩:=bs h;refine lpA ho (λz=>[(0,.lit (.pointer none)),(1,sA a),(5,nS)]) (λz=>[]) (λb=>[(5,nS)]) (λb=>[]) (pG f109 (λr=>tL r)) (Xd []) ?_ ?_
 .rintro ⟨⟩ r h;refine ze<|A ?_;apply Xa h y<;>intro c h
  .refine zd<|zh ?_;obtain ⟨e,d,h⟩:=bs h;refine A ?_;refine u<|apN (f:=Xe) 1 ti y ti y y (by decide) ti y y y (roX (f:=Xe) (z:=[a]) y y) (λ_=>y) y d<|A ?_;cases h
  .refine zs ?_;cases h;exact ⟨y,_,y,zl []⟩
 .rintro ⟨⟩ rfl;refine A ?_;exact RT0
instance (a:T0):PF prog 109 [.lit (.pointer none),sA a] (zjw a) (λr=>(tL r)):=⟨λ_=>zkc a⟩
def zkR(a:T0):Option (za×Bool):=
  cond (!(zhJ a)) (some ((za.mk [] [] false [] [] []),false)) (none)
instance (a:T0):PF prog 106 [.lit (.pointer none),sA a] (zkR a) (λr=>(.tup [.agg (zf r.1),bA r.2])):=⟨λr h=>by
 refine zi func106 y kz y y<|A ?_;refine ze<|A ?_;apply Xa h y<;>intro b h
 .refine A ?_;exact RT0
 .refine zd ?_
  cases h⟩
def zrN:Option (T0×zb×Bool):=
  some ([],(zb.mk [] [] [] false false 0 0 [] [] []),false)
def zrO(e:T1)(l:T0)(a:Int):zL (Int) (Unit) (T0×zb×Bool):=
  cond (decide (a<(length e:Int))) ((idx e a).bind λd=>(zkR d).bind λb=>(HW b.1 l).bind λc=>(cond (decide (0≤c)) ((idx b.1.Methods c).bind λf=>some (UB f)) (some false)).bind λi=>cond i ((idx b.1.Methods c).bind λj=>some (.inr (.inr (d,j,true)))) (some (.inl (i64.wrap (a+1))))) (some (.inr (.inl ())))
def zno(a:T1)(c:T0):Option (T0×zb×Bool):=
  (zp (λz=>zrO a c z) 0).bind λo=>zH o (λb=>zrN) some
theorem znp(d:T1)(e:T0){r:T0×zb×Bool}(h:zno d e=some r):Xm prog 218 [.lit (.pointer none),tL d,sA e,.fn (.func 219) [] []] (.tup [sA r.1,.agg (zc r.2.1),bA r.2.2]):=by
 refine zi func218 y kz y y<|A ?_;refine ze<|A ?_;obtain ⟨o,ho,h⟩:=bs h;refine lpB ho (λz=>[(0,.lit (.pointer none)),(2,sA e),(3,.fn (.func 219) [] []),(9,.mpt 0 0 0),(16,tL d),(17,iA (length d:Int)),(18,iA z)]) (λz=>[some (10,[[sA [],nS,sA [],bA false,bA false,iA 0,iA 0,nS,nS,nS]])]) (λb=>[(9,.mpt 0 0 0)]) (λb=>[some (10,[[sA [],nS,sA [],bA false,bA false,iA 0,iA 0,nS,nS,nS]])]) (pG f218 (λr=>.tup [sA r.1,.agg (zc r.2.1),bA r.2.2])) (Xd [0]) ?_ ?_
 .rintro v r h;refine A ?_;refine ze ?_;apply Xa h y<;>intro i h
  .refine zd<|ze<|zh ?_;obtain ⟨B,C,h⟩:=bs h;refine A ?_;obtain ⟨m,D,h⟩:=bs h;refine A ?_;obtain ⟨E,n,h⟩:=bs h;refine rg y<|u<|ld ti y y<|u<|mv y<|u<|pc (zgW m.1 e n) y y y<|u<|asg y<|zo ?_;obtain ⟨p,c,h⟩:=bs h;refine rg y<|u<|mv y<|u<|geq ti y y<|u<|mv y<|X1 (x:=p) (j:=2) 7 y y y y y gpn (λa=>by replace c:=bT a c;obtain ⟨q,f,c⟩:=bs c;obtain rfl:=sm c;exact g y a<|mv y<|g y a<|fa ti y y y<|g y a<|ld ti y y<|g y a<|mv y<|g y a<|ixI ti y ti y y y f<|g y a<|ldI ti y (zz f).2.2 y<|g y a<|pc (zjy q y) y y y<|zo (eg [34,35,36,37,38,39,40] 7 y y y y)) (λhb=>(sm (bF hb c)).symm)<|zo ?_;apply Xa h y<;>intro l h
   .obtain ⟨s,F,h⟩:=bs h;refine rdA [(8,_),(9,_),(10,_)] [some (10,[(zc s)])] [7] [0,1,2,3,4,5,6] [(8,_),(47,_),(46,_),(45,_),(44,_),(43,_),(42,_)] 1 (Xj (z:=by exact ⟨(λ_ _=>⟨_,y,y,sto ti y y y<|⟨.any,[8],[(10,_)],y,y,y,t,Xk (z:=Xd [0])⟩⟩),t⟩)) ?_;refine zy ?_;cases h;exact ⟨_,y,_,y,Xb []⟩
   .refine zd<|A ?_;cases h;exact ⟨_,y,zl [0]⟩
  .refine zs ?_;cases h;exact ⟨y,_,y,zl [0]⟩
 .rintro ⟨⟩ rfl;refine zm<|A ?_;exact RT0
instance (a:T1)(b:T0):PF prog 218 [.lit (.pointer none),tL a,sA b,.fn (.func 219) [] []] (zno a b) (λr=>(.tup [sA r.1,.agg (zc r.2.1),bA r.2.2])):=⟨λ_=>znp a b⟩
def IY(f:Option zJ)(d:T0)(e:T0):Option (T0×zb×Bool):=
  Um f ((zjw d).bind λi=>(zno i e).bind λb=>some (b.1,b.2.1,b.2.2)) (λa=>(GP a.l a.at_ d).bind λj=>(I5 a.l a.at_ j e).bind λc=>some (c.1,c.2.1,c.2.2))
theorem zov(d:Option zJ)(c:T0)(b:T0){r:T0×zb×Bool}(h:IY d c b=some r):Xm prog 124 [XB 2 Zu d,sA c,sA b] (.tup [sA r.1,.agg (zc r.2.1),bA r.2.2]):=by
 refine zi func124 y kz y y ?_;unfold IY at h
 rcases d with _ |a
 .replace h:=oeN h;refine A ?_;obtain ⟨f,i,n,j,h⟩:=bs2 h;refine rg y<|u<|mv y<|u<|mv y<|u<|mv y<|u<|pc (zkc c i) y y y<|u<|mv y<|u<|pc (znp f b j) y y y<|u<|ex y y<|u<|ex y y<|u<|ex y y<|u<|asg y<|u<|sto ti y y y<|u<|asg y<|zo ?_;exact RT0
 .replace h:=oeS h;refine A ?_;obtain ⟨e,m,o,p,h⟩:=bs2 h;refine A ?_;refine u<|sx [] (Wj a.l a.at_ c m)<|zx (env0:=[(2,sA b),(7,.mpt 0 0 0),(9,.ipt 2 [[cL a.l,mI a.at_]] 0 0),(12,.msl 1 0 (length e))]) (st0:=[some (10,[[sA [],nS,sA [],bA false,bA false,iA 0,iA 0,nS,nS,nS]]),sT e]) (zl [0,1])<|u<|mv y<|zx (env0:=[(7,.mpt 0 0 0),(9,.ipt 2 [[cL a.l,mI a.at_]] 0 0),(12,tL e),(13,sA b)]) (st0:=[some (10,[[sA [],nS,sA [],bA false,bA false,iA 0,iA 0,nS,nS,nS]])]) (zl [0])<|A ?_;exact RT0
instance (a:Option zJ)(b:T0)(c:T0):PF prog 124 [XB 2 Zu a,sA b,sA c] (IY a b c) (λr=>(.tup [sA r.1,.agg (zc r.2.1),bA r.2.2])):=⟨λ_=>zov a b c⟩
def zkG(a:T0)(b:List za)(c:T2):Option (Bool):=
  (HZ b c a).bind λd=>some d
instance (a:T0)(b:List za)(c:T2):PF prog 192 [sA a,.ipt 1 [[.ipt 2 [[cL b,mI c]] 0 0]] 0 0] (zkG a b c) bA:=⟨λr h=>by
 refine zi func192 y kz y y<|A ?_;obtain ⟨d,e,h⟩:=bs h;refine A ?_
 exact RT0⟩
def znP(a:T0)(b:List za)(c:T2):Option (Bool):=
  (zkG a b c).bind λd=>some (!d)
instance (a:T0)(b:List za)(c:T2):PF prog 274 [sA a,.ipt 1 [[.fn (.func 192) [] [.ipt 1 [[.ipt 2 [[cL b,mI c]] 0 0]] 0 0]]] 0 0] (znP a b c) bA:=⟨λr h=>by
 refine zi func274 y kz y y<|A ?_;obtain ⟨d,e,h⟩:=bs h;refine A ?_
 exact RT0⟩
def zeN:Option (Int):=
  some (-1)
def zbl(b:T1)(c:List za)(d:T2)(a:Int):zL (Int) (Unit) (Int):=
  cond (decide (a<(length b:Int))) ((idx b a).bind λe=>(znP e c d).bind λf=>cond f (some (.inr (.inr a))) (some (.inl (i64.wrap (a+1))))) (some (.inr (.inl ())))
def zcU(a:T1)(c:List za)(d:T2):Option (Int):=
  (zp (λz=>zbl a c d z) 0).bind λo=>zH o (λb=>zeN) some
instance (a:T1)(c:List za)(d:T2):PF prog 181 [tL a,.fn (.func 274) [] [.ipt 1 [[.fn (.func 192) [] [.ipt 1 [[.ipt 2 [[cL c,mI d]] 0 0]] 0 0]]] 0 0]] (zcU a c d) iA:=⟨λr h=>by
 refine zi func181 y kz y y<|A ?_;refine ze<|A ?_;obtain ⟨o,ho,h⟩:=bs h;refine lpB ho (λz=>[(0,tL a),(1,.fn (.func 274) [] [.ipt 1 [[.fn (.func 192) [] [.ipt 1 [[.ipt 2 [[cL c,mI d]] 0 0]] 0 0]]] 0 0]),(7,iA (length a:Int)),(8,iA z)]) (λz=>[]) (λb=>[]) (λb=>[]) (pG f181 iA) (Xd []) ?_ ?_
 .rintro i r h;refine A ?_;refine ze ?_;apply Xa h y<;>intro e h
  .refine zd<|ze<|zh<|A ?_;obtain ⟨j,l,m,n,h⟩:=bs2 h;refine A ?_;apply Xa h y<;>intro f h
   .refine A ?_;refine zy ?_;cases h;exact ⟨_,y,_,y,Xb []⟩
   .refine zd<|A ?_;cases h;exact ⟨_,y,zl []⟩
  .refine zs ?_;cases h;exact ⟨y,_,y,zl []⟩
 .rintro ⟨⟩ rfl;refine zm<|A ?_
  exact RT0⟩
def zbe(a:T1)(b:List za)(c:T2):Option (Bool):=
  (zcU a b c).bind λd=>some (decide (0≤d))
theorem zd5(a:T1)(b:List za)(c:T2){r:Bool}(h:zbe a b c=some r):Xm prog 99 [tL a,.fn (.func 274) [] [.ipt 1 [[.fn (.func 192) [] [.ipt 1 [[.ipt 2 [[cL b,mI c]] 0 0]] 0 0]]] 0 0]] (bA r):=by
 refine zi func99 y kz y y<|A ?_;obtain ⟨d,e,h⟩:=bs h;refine A ?_;exact RT0
instance (a:T1)(b:List za)(c:T2):PF prog 99 [tL a,.fn (.func 274) [] [.ipt 1 [[.fn (.func 192) [] [.ipt 1 [[.ipt 2 [[cL b,mI c]] 0 0]] 0 0]]] 0 0]] (zbe a b c) bA:=⟨λ_=>zd5 a b c⟩
def Ot(a:T1)(b:List za)(c:T2):Option (Bool):=
  (zbe a b c).bind λd=>some (!d)
theorem zmp(a:T1)(b:List za)(c:T2){r:Bool}(h:Ot a b c=some r):Xm prog 195 [tL a,.fn (.func 192) [] [.ipt 1 [[.ipt 2 [[cL b,mI c]] 0 0]] 0 0]] (bA r):=by
 refine zi func195 y kz y y<|A ?_;obtain ⟨e,d,h⟩:=bs h;refine A ?_;refine u<|pcs (zd5 a b c d) y y (.cons (si y) (.cons (Zt t ⟨(XO y ⟨(si y),t⟩),t⟩) .nil)) XD<|A ?_;exact RT0
instance (a:T1)(b:List za)(c:T2):PF prog 195 [tL a,.fn (.func 192) [] [.ipt 1 [[.ipt 2 [[cL b,mI c]] 0 0]] 0 0]] (Ot a b c) bA:=⟨λ_=>zmp a b c⟩
def zkJ(a:List za)(b:T2)(c:T0)(d:zb)(e:T1)(f:T1)(i:Bool)(j:Bool):Unit:=
  ()
theorem zw(a:List za)(b:T2)(c:T0)(d:zb)(e:T1)(f:T1)(i:Bool)(j:Bool){r:Unit}(h:zkJ a b c d e f i j=r):SC prog 194 [.mpt 0 0 0,bA j] (tV a b c d e f i []) (.tup []) (tV a b c d e f (i||(!j)) []):=by
 refine ⟨⟨t,Xw (sz:=1) (λ_=>y),Xw (sz:=1) (λ_=>y),t⟩,zZ func194 y kz y ?_⟩;unfold zkJ at h;refine A ?_;obtain rfl:=h;exact ⟨_,y,Xb [0,1,2]⟩
def zkH(a:T0)(b:List za)(c:T2):Option (Bool):=
  (H1 b c a a).bind λd=>some d
instance (a:T0)(b:List za)(c:T2):PF prog 197 [sA a,.ipt 1 [[.ipt 2 [[cL b,mI c]] 0 0]] 0 0] (zkH a b c) bA:=⟨λr h=>by
 refine zi func197 y kz y y<|A ?_;obtain ⟨e,d,h⟩:=bs h;refine rg y<|u<|ld ti y y<|u<|mv y<|u<|mv y<|u<|pc (EM b c a a d) y y y<|u<|asg y<|zo ?_
 exact RT0⟩
def zkI(a:T0)(b:List za)(c:T2):Option (Bool):=
  (zkH a b c).bind λd=>some (!d)
instance (a:T0)(b:List za)(c:T2):PF prog 274 [sA a,.ipt 1 [[.fn (.func 197) [] [.ipt 1 [[.ipt 2 [[cL b,mI c]] 0 0]] 0 0]]] 0 0] (zkI a b c) bA:=⟨λr h=>by
 refine zi func274 y kz y y<|A ?_;obtain ⟨d,e,h⟩:=bs h;refine A ?_
 exact RT0⟩
def zeO:Option (Int):=
  some (-1)
def zbm(b:T1)(c:List za)(d:T2)(a:Int):zL (Int) (Unit) (Int):=
  cond (decide (a<(length b:Int))) ((idx b a).bind λe=>(zkI e c d).bind λf=>cond f (some (.inr (.inr a))) (some (.inl (i64.wrap (a+1))))) (some (.inr (.inl ())))
def zcV(a:T1)(c:List za)(d:T2):Option (Int):=
  (zp (λz=>zbm a c d z) 0).bind λo=>zH o (λb=>zeO) some
instance (a:T1)(c:List za)(d:T2):PF prog 181 [tL a,.fn (.func 274) [] [.ipt 1 [[.fn (.func 197) [] [.ipt 1 [[.ipt 2 [[cL c,mI d]] 0 0]] 0 0]]] 0 0]] (zcV a c d) iA:=⟨λr h=>by
 refine zi func181 y kz y y<|A ?_;refine ze<|A ?_;obtain ⟨o,ho,h⟩:=bs h;refine lpB ho (λz=>[(0,tL a),(1,.fn (.func 274) [] [.ipt 1 [[.fn (.func 197) [] [.ipt 1 [[.ipt 2 [[cL c,mI d]] 0 0]] 0 0]]] 0 0]),(7,iA (length a:Int)),(8,iA z)]) (λz=>[]) (λb=>[]) (λb=>[]) (pG f181 iA) (Xd []) ?_ ?_
 .rintro i r h;refine A ?_;refine ze ?_;apply Xa h y<;>intro e h
  .refine zd<|ze<|zh<|A ?_;obtain ⟨j,l,m,n,h⟩:=bs2 h;refine A ?_;apply Xa h y<;>intro f h
   .refine A ?_;refine zy ?_;cases h;exact ⟨_,y,_,y,Xb []⟩
   .refine zd<|A ?_;cases h;exact ⟨_,y,zl []⟩
  .refine zs ?_;cases h;exact ⟨y,_,y,zl []⟩
 .rintro ⟨⟩ rfl;refine zm<|A ?_
  exact RT0⟩
def zbf(a:T1)(b:List za)(c:T2):Option (Bool):=
  (zcV a b c).bind λd=>some (decide (0≤d))
theorem zd6(a:T1)(b:List za)(c:T2){r:Bool}(h:zbf a b c=some r):Xm prog 99 [tL a,.fn (.func 274) [] [.ipt 1 [[.fn (.func 197) [] [.ipt 1 [[.ipt 2 [[cL b,mI c]] 0 0]] 0 0]]] 0 0]] (bA r):=by
 refine zi func99 y kz y y<|A ?_;obtain ⟨d,e,h⟩:=bs h;refine A ?_;exact RT0
instance (a:T1)(b:List za)(c:T2):PF prog 99 [tL a,.fn (.func 274) [] [.ipt 1 [[.fn (.func 197) [] [.ipt 1 [[.ipt 2 [[cL b,mI c]] 0 0]] 0 0]]] 0 0]] (zbf a b c) bA:=⟨λ_=>zd6 a b c⟩
def ziz(a:T1)(b:List za)(c:T2):Option (Bool):=
  (zbf a b c).bind λd=>some (!d)
theorem zmJ(a:T1)(b:List za)(c:T2){r:Bool}(h:ziz a b c=some r):Xm prog 195 [tL a,.fn (.func 197) [] [.ipt 1 [[.ipt 2 [[cL b,mI c]] 0 0]] 0 0]] (bA r):=by
 refine zi func195 y kz y y<|A ?_;obtain ⟨e,d,h⟩:=bs h;refine A ?_;refine u<|pcs (zd6 a b c d) y y (.cons (si y) (.cons (Zt t ⟨(XO y ⟨(si y),t⟩),t⟩) .nil)) XD<|A ?_;exact RT0
instance (a:T1)(b:List za)(c:T2):PF prog 195 [tL a,.fn (.func 197) [] [.ipt 1 [[.ipt 2 [[cL b,mI c]] 0 0]] 0 0]] (ziz a b c) bA:=⟨λ_=>zmJ a b c⟩
def zfI(a:zS)(b:Int):Bool:=
  (a.At == b)
instance (a:zS)(b:Int):PF prog 340 [.agg (zA a),.ipt 1 [[iA b]] 0 0] (some (zfI a b)) bA:=.of λr h=>by
 refine zi func340 y kz y y ?_;unfold zfI at h;refine A ?_;refine A ?_;refine zy ?_;obtain rfl:=h;exact ⟨_,y,Xb []⟩
def ze2:Option (Int):=
  some (-1)
def zbt(b:List zS)(c:Int)(a:Int):zL (Int) (Unit) (Int):=
  cond (decide (a<(length b:Int))) ((idx b a).bind λd=>cond (zfI d c) (some (.inr (.inr a))) (some (.inl (i64.wrap (a+1))))) (some (.inr (.inl ())))
def zbS(a:List zS)(c:Int):Option (Int):=
  (zp (λz=>zbt a c z) 0).bind λo=>zH o (λb=>ze2) some
theorem ze3(a:List zS)(c:Int){r:Int}(h:zbS a c=some r):Xm prog 339 [.isl 3 (map zA a),.fn (.func 340) [] [.ipt 1 [[iA c]] 0 0]] (iA r):=by
 refine zi func339 y kz y y<|A ?_;refine ze<|A ?_;obtain ⟨o,ho,h⟩:=bs h;refine lpB ho (λz=>[(0,.isl 3 (map zA a)),(1,.fn (.func 340) [] [.ipt 1 [[iA c]] 0 0]),(7,iA (length a:Int)),(8,iA z)]) (λz=>[]) (λb=>[]) (λb=>[]) (pG f339 iA) (Xd []) ?_ ?_
 .rintro f r h;refine A ?_;refine ze ?_;apply Xa h y<;>intro d h
  .refine zd<|ze<|zh<|A ?_;obtain ⟨i,j,h⟩:=bs h;refine A ?_;apply Xa h y<;>intro e h
   .refine A ?_;refine zy ?_;cases h;exact ⟨_,y,_,y,Xb []⟩
   .refine zd<|A ?_;cases h;exact ⟨_,y,zl []⟩
  .refine zs ?_;cases h;exact ⟨y,_,y,zl []⟩
 .rintro ⟨⟩ rfl;refine zm<|A ?_;exact RT0
instance (a:List zS)(b:Int):PF prog 339 [.isl 3 (map zA a),.fn (.func 340) [] [.ipt 1 [[iA b]] 0 0]] (zbS a b) iA:=⟨λ_=>ze3 a b⟩
def EQ(e:List za)(f:T2)(i:T0)(a:zb)(j:T1)(l:T1)(m:Bool)(d:Int):Option ((Option zS)):=
  (zbS a.Maps d).bind λb=>cond (decide (b<0)) (some none) ((idx a.Maps b).bind λc=>some (some c))
theorem zgQ(b:List za)(c:T2)(d:T0)(a:zb)(e:T1)(f:T1)(i:Bool)(j:Int){r:(Option zS)}(h:EQ b c d a e f i j=some r):SC prog 277 [.mpt 0 0 0,iA j] (tV b c d a e f i []) (XB 3 zA r) (tV b c d a e f i []):=by
 refine ⟨⟨t,Xw (sz:=1) (λ_=>y),Xw (sz:=1) (λ_=>y),t⟩,zZ func277 y kz y ?_⟩;refine A ?_;obtain ⟨p,n,h⟩:=bs h;refine A ?_;refine u<|pcs (ze3 a.Maps j n) y y (.cons (si y) (.cons (Zt t ⟨(XO y ⟨(si y),t⟩),t⟩) .nil)) XD<|A ?_;refine ze<|A ?_;apply Xa h y<;>intro l h
 .refine A ?_;exact RT3
 .refine zd ?_;obtain ⟨o,m,h⟩:=bs h;refine rg y<|u<|mv y<|u<|nc y y<|u<|fa ti y y y<|u<|fa ti y y y<|u<|ld ti y y<|u<|mv y<|u<|ixI ti y ti y y y m<|zHZ m<|u<|asg y<|zo ?_;exact RT3
def Oz(b:List za)(c:T2)(a:T0):Option (Bool):=
  (cond (!(a == [73])) ((H1 b c a a).bind λd=>some d) (some false)).bind λe=>some e
instance (d:List za)(e:T2)(c:T0):PF prog 337 [.ipt 2 [[cL d,mI e]] 0 0,sA c] (Oz d e c) bA:=⟨λr h=>by
 refine zi func337 y kz y y<|A ?_;obtain ⟨f,b,h⟩:=bs h;refine rg y<|u<|mv y<|u<|sne ti y y<|u<|mv y<|X1 (x:=f) (j:=2) 4 y y y y y gpn (λa=>by replace b:=bT a b;obtain ⟨l,i,b⟩:=bs b;obtain rfl:=sm b;exact g y a<|mv y<|g y a<|mv y<|g y a<|mv y<|g y a<|pc (EM d e c c i) y y y<|zo (eg [8,9,10,11] 4 y y y y)) (λhb=>(sm (bF hb b)).symm)<|u<|asg y<|zo ?_
 exact RT0⟩
def DZ(a:List za)(b:T2)(d:T0)(c:T0):Option (Bool):=
  (HZ a b d).bind λm=>(cond (!m) (some true) ((HZ a b c).bind λn=>some (!n))).bind λo=>cond o (some false) (cond ((c == [84])||(d == c)) (some true) (cond (d == [78]) ((Oz a b c).bind λp=>some p) ((Oz a b d).bind λq=>(cond (!q) (some true) ((Oz a b c).bind λe=>some (!e))).bind λf=>cond f (some false) ((zQ a b c).bind λi=>(cond i.1.Interface (some true) ((H1 a b d c).bind λj=>some j)).bind λl=>some l))))
theorem zjA(c:List za)(d:T2)(e:T0)(f:T0){r:Bool}(h:DZ c d e f=some r):Xm prog 271 [.ipt 2 [[cL c,mI d]] 0 0,sA e,sA f] (bA r):=by
 refine zi func271 y kz y y<|A ?_;refine ze<|zh ?_;obtain ⟨E,F,G,H,h⟩:=bs2 h;refine A ?_;apply Xa h y<;>intro l h
 .refine A ?_;exact RT0
 .refine A ?_;apply Xa h y<;>intro m h
  .refine A ?_;exact RT0
  .refine A ?_;apply Xa h y<;>intro n h
   .obtain ⟨I,J,h⟩:=bs h;refine A ?_;exact RT0
   .obtain ⟨K,q,s,v,h⟩:=bs2 h;refine A ?_;apply Xa h y<;>intro i h
    .refine A ?_;exact RT0
    .refine zd ?_;obtain ⟨B,C,h⟩:=bs h;refine A ?_;obtain ⟨o,b,h⟩:=bs h;refine rg y<|u<|fa ti y y y<|u<|ld ti y y<|u<|mv y<|ZK (x:=o) (j:=2) 4 y y y y y gpn (λa=>by replace b:=bF a b;obtain ⟨D,p,b⟩:=bs b;obtain rfl:=sm b;exact g y a<|mv y<|g y a<|mv y<|g y a<|mv y<|g y a<|pc (EM c d e f p) y y y<|zo (eg [54,55,56,57] 4 y y y y)) (λhb=>(sm (bT hb b)).symm)<|u<|asg y<|zo ?_;exact RT0
instance (a:List za)(b:T2)(c:T0)(d:T0):PF prog 271 [.ipt 2 [[cL a,mI b]] 0 0,sA c,sA d] (DZ a b c d) bA:=⟨λ_=>zjA a b c d⟩
def zss:Option (Bool):=
  some true
def OZ(f:List za)(i:T2)(b:T1)(j:T1)(a:Int):zL (Int) (Unit) (Bool):=
  cond (decide (a<(length b:Int))) ((idx b a).bind λc=>(idx j a).bind λd=>(DZ f i c d).bind λe=>cond (!e) (some (.inr (.inr false))) (some (.inl (i64.wrap (a+1))))) (some (.inr (.inl ())))
def I3(d:List za)(e:T2)(a:T1)(c:T1):Option (Bool):=
  cond (!((length a:Int) == (length c:Int))) (some false) ((zp (λz=>OZ d e a c z) 0).bind λo=>zH o (λb=>zss) some)
instance (c:List za)(d:T2)(a:T1)(e:T1):PF prog 272 [.ipt 2 [[cL c,mI d]] 0 0,tL a,tL e] (I3 c d a e) bA:=⟨λr h=>by
 refine zi func272 y kz y y<|A ?_;refine ze<|A ?_;apply Xa h y<;>intro i h
 .refine A ?_;exact RT0
 .refine zd<|ze<|A ?_;obtain ⟨o,ho,h⟩:=bs h;refine lpB ho (λz=>[(0,.ipt 2 [[cL c,mI d]] 0 0),(1,tL a),(2,tL e),(14,iA (length a:Int)),(15,iA z)]) (λz=>[]) (λb=>[]) (λb=>[]) (pG f272 bA) (Xd []) ?_ ?_
  .rintro q r h;refine A ?_;refine ze ?_;apply Xa h y<;>intro j h
   .refine zd<|ze<|zh<|A ?_;obtain ⟨l,s,m,v,n,p,h⟩:=bs3 h;refine rdA [(0,_),(1,_),(2,_),(14,_),(15,_),(28,_)] [] [] [0,1,2,3,4,5,6,7,8,9,10] [(28,_),(27,_),(26,_),(25,_),(24,_),(23,_),(22,_),(21,_),(20,_),(19,_),(18,_)] 0 (Xk (z:=Xd [])) ?_;apply Xa h y<;>intro f h
    .refine A ?_;refine zy ?_;cases h;exact ⟨_,y,_,y,Xb []⟩
    .refine zd<|A ?_;cases h;exact ⟨_,y,zl []⟩
   .refine zs ?_;cases h;exact ⟨y,_,y,zl []⟩
  .rintro ⟨⟩ rfl;refine zm<|A ?_
   exact RT0⟩
def DY(a:List za)(b:T2)(c:zS)(d:T1)(e:T1):Option (Bool):=
  (I3 a b d c.Locals).bind λf=>(cond f ((I3 a b e c.Stack).bind λi=>some i) (some false)).bind λj=>some j
theorem zjB(a:List za)(b:T2)(c:zS)(d:T1)(e:T1){r:Bool}(h:DY a b c d e=some r):Xm prog 273 [.ipt 2 [[cL a,mI b]] 0 0,.agg (zA c),tL d,tL e] (bA r):=by
 refine zi func273 y kz y y<|A ?_;obtain ⟨f,i,j,l,h⟩:=bs2 h;refine A ?_;exact RT0
instance (a:List za)(b:T2)(c:zS)(d:T1)(e:T1):PF prog 273 [.ipt 2 [[cL a,mI b]] 0 0,.agg (zA c),tL d,tL e] (DY a b c d e) bA:=⟨λ_=>zjB a b c d e⟩
def EP(b:List za)(c:T2)(j:T0)(l:zb)(d:T1)(e:T1)(a:Bool)(m:Int):Option (Bool):=
  (EQ b c j l d e a m).bind λn=>Um n (some (a||(!false))) (λf=>(DY b c f d e).bind λi=>some (a||(!i)))
theorem ziK(c:List za)(d:T2)(f:T0)(i:zb)(e:T1)(a:T1)(j:Bool)(m:Int){r:Bool}(h:EP c d f i e a j m=some r):SC prog 202 [.mpt 0 0 0,iA m,.msl 2 0 (length a)] (tV c d f i e a j []) (.tup []) (tV c d f i e a r []):=by
 refine ⟨⟨t,Xw (sz:=1) (λ_=>y),Xw (sz:=1) (λ_=>y),t⟩,zZ func202 y kz y ?_⟩;obtain ⟨n,p,h⟩:=bs h;refine A ?_;refine u<|sx [0,1,2] (zgQ c d f i e a j m p)<|zHc zBe<|zx (env0:=[(0,.mpt 0 0 0),(2,.msl 2 0 (length a)),(9,XB 3 zA n)]) (st0:=(sV c d f i e a j [])) (zl [0,1,2])<|A ?_
 rcases n with _ |o
 .replace h:=oeN h;refine XA [] (sV c d f i e a (j||(!false)) []) [18] [17,16,15,14,13,12,11,10,9,8,7,6,5,4,3,2,1,0] [(27,bA false),(26,.lit undef),(25,.lit undef),(24,.lit undef),(23,.lit undef),(22,.lit undef),(21,.lit undef),(20,.lit undef),(19,.lit undef),(18,.lit undef),(17,.lit undef),(16,.lit undef),(15,.lit undef),(14,.lit undef),(13,bA false),(12,bA false),(11,.lit (.pointer none)),(10,.mpt 0 0 0)] 1 (X5 ⟨pe,pe,pe,pe,pe,pe,pe,pe,pe,pe,pe,pe,pe,pe,pe,(pb y (nep ti y y y y y y w)),pe,pe,t⟩ ⟨(λ_ _=>⟨_,y,y,sc [0,1,2] (args:=[.mpt 0 0 0,bA false]) (zw c d f i e a j false y) y y y y ⟨(.mpt y),(rnI y),t⟩ ⟨⟨_,y,(KA y ⟨(.msl y),(.msl y),(rnI y),t⟩)⟩,⟨y,mkI (λ_=>y)⟩,⟨y,mkI (λ_=>y)⟩,t⟩<|⟨(.tup []),[],[(28,.tup [])],y,y,kz,y,ZC ⟨pe,pe,pe,pe,pe,pe,pe,pe,pe,pe,pe,pe,pe,pe,pe,(pb y (nep ti y y y y y y w)),pe,pe,t⟩ (zl [0,1,2])⟩⟩),t⟩) ?_;cases h;exact ⟨_,y,Xb [0,1,2]⟩
 .replace h:=oeS h;obtain ⟨l,q,h⟩:=bs h;refine XA [] (sV c d f i e a (j||(!l)) []) [18] [0,1,2,3,4,5,6,7,8,9,10,11,12,13,14,15,16,17] [(27,_),(26,_),(25,_),(24,_),(23,_),(22,_),(21,_),(20,_),(19,_),(18,_),(17,_),(16,_),(15,_),(14,_),(13,_),(12,_),(11,_),(10,_)] 1 (Xj ⟨peC,peC,peC,peC,peC,peC,peC,peC,peC,peC,peC,peC,peC,peC,peC,peC,(by exact λ_=>pag (b:=true) y y y y y y (pcs (zjB c d o e a q) y y (.cons (si y) (.cons (si y) (.cons (X9 y (λ_=>y)) (.cons (X9 y (λ_=>y)) .nil)))) XD<|w)),peC,t⟩ (by exact ⟨(λ_ _=>⟨_,y,y,sc [0,1,2] (args:=[.mpt 0 0 0,bA l]) (zw c d f i e a j l y) y y y y ⟨(.mpt y),(rnI y),t⟩ ⟨⟨_,y,(KA y ⟨(.msl y),(.msl y),(rnI y),t⟩)⟩,⟨y,mkI (λ_=>y)⟩,⟨y,mkI (λ_=>y)⟩,t⟩<|⟨(.tup []),[],[(28,_)],y,y,y,y,Xk (z:=Xd [0,1,2])⟩⟩),t⟩)) ?_;cases h;exact ⟨_,y,Xb [0,1,2]⟩
def Hy(a:T1):Option T1:=Xx 16 ([]:T1) a
theorem zrr(a:T1){r:T1}(h:Hy a=some r):SC prog 130 [tL a] [] (.msl 0 0 (length r)) [.many 1 (map Xe r)]:=by
 refine ⟨⟨Xw (sz:=1) (λ_=>y),t⟩,zZ func130 y kz y ?_⟩;unfold Hy at h;refine A ?_;refine ze ?_;refine rg y<|u<|mv y<|zHb ti y y y<|And.intro ?_ ?_
 · intro hl;refine zo ?_;subst hl
   obtain rfl:[]=r:=by simpa [Xx] using h
   refine U5 y (λ_=>?_) (λhx=>by cases hx);refine A ?_;refine zy ?_;exact ⟨_,y,[.fresh 1],.nilown y,y,⟨w,t⟩,y,k⟩
 · refine zo ?_;refine U5 y (λhx=>by cases hx) (λ_=>?_);refine zd<|A ?_;refine u<|apM (l:=([]:T1)) (f:=Xe) 1 ti y ti y y (by decide) ti y y y y roI (λ_=>y) y h<|A ?_;refine zy ?_;exact ⟨_,y,Xb [1]⟩
def Bn(b:(Option zS))(c:Bool):Option (T1×T1×Bool):=
  Um b (none) (λa=>(Hy a.Locals).bind λd=>(Hy a.Stack).bind λe=>some (d,e,c))
def zfU(e:List za)(f:T2)(i:T0)(j:zb)(c:T1)(d:T1)(b:Bool)(l:Int)(m:Bool):Option (T1×T1×Bool):=
  (EQ e f i j c d b l).bind λa=>cond (Option.isNone a) (some (c,d,(b||(!m)))) (cond m ((EP e f i j c d b l).bind λn=>Bn a n) (Bn a b))
theorem zmq(a:List za)(b:T2)(c:T0)(d:zb)(e:T1)(f:T1)(j:Bool)(l:Int)(m:Bool){r:T1×T1×Bool}(h:zfU a b c d e f j l m=some r):SC prog 198 [.mpt 0 0 0,iA l,bA m] (tV a b c d e f j []) (.tup []) [.one 15 (vK a b c d (.msl 3 0 (length r.1)) (.msl 4 0 (length r.2.1)) (bA r.2.2)),.no,.no,.many 1 (map Xe r.1),.many 1 (map Xe r.2.1)]:=by
 refine ⟨⟨t,t,t,Xw (sz:=1) (λ_=>y),Xw (sz:=1) (λ_=>y),t⟩,zZ func198 y kz y ?_⟩;obtain ⟨i,B,h⟩:=bs h;refine A ?_;refine u<|sx [0,1,2] (zgQ a b c d e f j l B)<|zHc zBe<|zx (env0:=[(0,.mpt 0 0 0),(1,iA l),(2,bA m),(9,XB 3 zA i)]) (st0:=(sV a b c d e f j [])) (zl [0,1,2])<|A ?_;refine ze ?_;refine rg y<|u<|mv y<|u<|zGD ti y y y<|zo ?_;apply Xa h y<;>intro v h
 .refine A ?_;refine u<|sx [0,1,2] (zw a b c d e f j m y)<|zx (env0:=[]) (st0:=(sV a b c d e f (j||(!m)) [])) (zl [0,1,2])<|zo ?_;refine zy ?_;cases h;exact ⟨_,y,Ho [0,.dead,.dead,1,2]⟩
 .refine zd ?_;refine Xz (X:=Bool) (λz=>[(0,.mpt 0 0 0),(6,XB 3 zA i)]) (λz=>(sV a b c d e f z [])) (λz=>Bn i z=some r) ?_ ?_
  .refine A ?_;apply Xa h y<;>intro x h
   .obtain ⟨p,C,h⟩:=bs h;refine A ?_;exact u<|sx [0,1,2] (ziK a b c d e f j l C)<|zx (env0:=[(0,.mpt 0 0 0),(6,XB 3 zA i)]) (st0:=(sV a b c d e f p [])) (zl [0,1,2])<|zo (⟨p,h,zl [0,1,2]⟩)
   .refine zd ?_;exact ⟨j,h,zl [0,1,2]⟩
  .rintro q h;replace h:Bn i q=some r:=h;unfold Bn at h
   rcases i with _ |s
   .replace h:=oeN h;cases h
   .replace h:=oeS h;obtain ⟨n,D,o,E,h⟩:=bs2 h;refine XA [] [some (15,[(vK a b c d (.msl 3 0 (length n)) (.msl 4 0 (length o)) (bA q))]),sT e,sT f,sT n,sT o] [6,11,14,17] [0,1,2,3,4,5,7,8,9,10] [(33,_),(32,_),(31,_),(30,_),(28,_),(27,_),(26,_),(25,_),(24,_),(23,_)] 4 (Xj (z:=by exact ⟨(λ_ _=>⟨_,y,y,sx [] (zrr s.Locals D)<|⟨(.msl 3 0 (length n)),[],[(29,_)],y,y,y,y,Xj (z:=by exact ⟨nv,(λ_ _=>⟨_,y,y,sx [] (zrr s.Stack E)<|⟨(.msl 4 0 (length o)),[12,13],[(36,_),(35,_),(34,_)],y,y,y,y,Xj (z:=by exact ⟨nv,nv,(λ_ _=>⟨_,y,y,sto ti y y y<|⟨.any,[15,16],[(38,_),(37,_)],y,y,y,t,Xj (z:=by exact ⟨nv,nv,nv,(λ_ _=>⟨_,y,y,sto ti y y y<|⟨.any,[],[],y,y,y,t,Xk (z:=Xd [0,1,2,3,4])⟩⟩),t⟩)⟩⟩),nw,t⟩)⟩⟩),nw,nw,t⟩)⟩⟩),nw,nw,nw,t⟩)) ?_;cases h;exact ⟨_,y,Xb [0,.dead,.dead,3,4]⟩
def ze7(b:List za)(c:T2)(j:T0)(l:zb)(d:T1)(m:T1)(a:Bool)(n:Int)(o:T1):Option (Bool):=
  (EQ b c j l d m a n).bind λe=>Um e (some (a||(!false))) (λf=>(DY b c f d o).bind λi=>some (a||(!i)))
theorem zlf(a:List za)(c:T2)(e:T0)(f:zb)(d:T1)(i:T1)(l:Bool)(o:Int)(j:T1){r:Bool}(h:ze7 a c e f d i l o j=some r):SC prog 202 [.mpt 0 0 0,iA o,.msl 3 0 (length j)] (tV a c e f d i l [.many 1 (map Xe j)]) (.tup []) (tV a c e f d i r [.many 1 (map Xe j)]):=by
 refine ⟨⟨t,Xw (sz:=1) (λ_=>y),Xw (sz:=1) (λ_=>y),Xw (sz:=1) (λ_=>y),t⟩,zZ func202 y kz y ?_⟩;obtain ⟨n,q,h⟩:=bs h;refine A ?_;refine u<|sx [0,1,2] (zgQ a c e f d i l o q)<|zHc zBe<|zx (env0:=[(0,.mpt 0 0 0),(2,.msl 3 0 (length j)),(9,XB 3 zA n)]) (st0:=(sV a c e f d i l [sT j])) (zl [0,1,2,3])<|A ?_
 rcases n with _ |p
 .replace h:=oeN h;refine XA [] (sV a c e f d i (l||(!false)) [sT j]) [18] [17,16,15,14,13,12,11,10,9,8,7,6,5,4,3,2,1,0] [(27,bA false),(26,.lit undef),(25,.lit undef),(24,.lit undef),(23,.lit undef),(22,.lit undef),(21,.lit undef),(20,.lit undef),(19,.lit undef),(18,.lit undef),(17,.lit undef),(16,.lit undef),(15,.lit undef),(14,.lit undef),(13,bA false),(12,bA false),(11,.lit (.pointer none)),(10,.mpt 0 0 0)] 1 (X5 ⟨pe,pe,pe,pe,pe,pe,pe,pe,pe,pe,pe,pe,pe,pe,pe,(pb y (nep ti y y y y y y w)),pe,pe,t⟩ ⟨(λ_ _=>⟨_,y,y,sc [0,1,2] (args:=[.mpt 0 0 0,bA false]) (zw a c e f d i l false y) y y y y ⟨(.mpt y),(rnI y),t⟩ ⟨⟨_,y,(KA y ⟨(.msl y),(.msl y),(rnI y),t⟩)⟩,⟨y,mkI (λ_=>y)⟩,⟨y,mkI (λ_=>y)⟩,t⟩<|⟨(.tup []),[],[(28,.tup [])],y,y,kz,y,ZC ⟨pe,pe,pe,pe,pe,pe,pe,pe,pe,pe,pe,pe,pe,pe,pe,(pb y (nep ti y y y y y y w)),pe,pe,t⟩ (zl [0,1,2,3])⟩⟩),t⟩) ?_;cases h;exact ⟨_,y,Xb [0,1,2,3]⟩
 .replace h:=oeS h;obtain ⟨m,s,h⟩:=bs h;refine XA [] (sV a c e f d i (l||(!m)) [sT j]) [18] [0,1,2,3,4,5,6,7,8,9,10,11,12,13,14,15,16,17] [(27,_),(26,_),(25,_),(24,_),(23,_),(22,_),(21,_),(20,_),(19,_),(18,_),(17,_),(16,_),(15,_),(14,_),(13,_),(12,_),(11,_),(10,_)] 1 (Xj ⟨peC,peC,peC,peC,peC,peC,peC,peC,peC,peC,peC,peC,peC,peC,peC,peC,(by exact λ_=>pag (b:=true) y y y y y y (pcs (zjB a c p d j s) y y (.cons (si y) (.cons (si y) (.cons (X9 y (λ_=>y)) (.cons (X9 y (λ_=>y)) .nil)))) XD<|w)),peC,t⟩ (by exact ⟨(λ_ _=>⟨_,y,y,sc [0,1,2] (args:=[.mpt 0 0 0,bA m]) (zw a c e f d i l m y) y y y y ⟨(.mpt y),(rnI y),t⟩ ⟨⟨_,y,(KA y ⟨(.msl y),(.msl y),(rnI y),t⟩)⟩,⟨y,mkI (λ_=>y)⟩,⟨y,mkI (λ_=>y)⟩,t⟩<|⟨(.tup []),[],[(28,_)],y,y,y,y,Xk (z:=Xd [0,1,2,3])⟩⟩),t⟩)) ?_;cases h;exact ⟨_,y,Xb [0,1,2,3]⟩
def zms(a:Bool):Option (Bool):=
  some a
def zeB(a:Int)(b:Bool):zL (Bool×Int) (Bool) (Bool):=
  some (.inl (b,(i64.wrap (a+1))))
def zcX(f:List za)(i:T2)(m:T0)(n:zb)(o:T1)(p:T1)(j:Int)(b:Bool)(c:Int)(a:zT)(d:T0):zL (Bool×Int) (Bool) (Bool):=
  (H1 f i d [84,104,114,111,119,110]).bind λe=>cond ((decide (a.From≤j))&&(decide (j<a.To))) ((ze7 f i m n o p (b||(!e)) a.At [d]).bind λl=>zeB c l) (zeB c (b||(!e)))
def E2(e:List za)(f:T2)(i:T0)(d:zb)(j:T1)(l:T1)(m:Int)(c:Bool)(a:Int):zL (Bool×Int) (Bool) (Bool):=
  cond (decide (a<(length d.Traps:Int))) ((idx d.Traps a).bind λb=>cond (b.C == []) (zcX e f i d j l m c a b [84,104,114,111,119,110]) (zcX e f i d j l m c a b b.C)) (some (.inr (.inl c)))
def zew(a:List za)(c:T2)(d:T0)(e:zb)(f:T1)(i:T1)(j:Bool)(l:Int):Option (Bool):=
  (zp (λz=>E2 a c d e f i l z.1 z.2) (j,0)).bind λo=>zH o (λb=>zms b) some
theorem zmt(c:List za)(d:T2)(e:T0)(a:zb)(f:T1)(i:T1)(B:Bool)(m:Int){r:Bool}(h:zew c d e a f i B m=some r):SC prog 199 [.mpt 0 0 0,iA m] (tV c d e a f i B []) (.tup []) (tV c d e a f i r []):=by
 refine ⟨⟨t,Xw (sz:=1) (λ_=>y),Xw (sz:=1) (λ_=>y),t⟩,zZ func199 y kz y ?_⟩;refine A ?_;obtain ⟨o,ho,h⟩:=bs h;refine lpB ho (λz=>[(0,.mpt 0 0 0),(1,iA m),(11,.isl 4 (map zY a.Traps)),(12,iA (length a.Traps:Int)),(13,iA z.2)]) (λz=>(sV c d e a f i z.1 [])) (λb=>[]) (λb=>(sV c d e a f i b [])) (λr env st=>Ua prog f199 3 (.tup []) (sV c d e a f i r []) env st) (Xd [0,1,2]) ?_ ?_
 .rintro ⟨j,l⟩ r h;refine A ?_;refine ze ?_;apply Xa h y<;>intro D h
  .refine zd ?_;refine Xz (X:=Bool) (λz=>[(0,.mpt 0 0 0),(1,iA m),(11,.isl 4 (map zY a.Traps)),(12,iA (length a.Traps:Int)),(13,iA l)]) (λz=>(sV c d e a f i z [])) (λz=>zeB l z=some r) ?_ ?_
   .refine zh ?_;obtain ⟨n,I,h⟩:=bs h;refine A ?_;refine A ?_;refine Xz (X:=T0) (λz=>[(0,.mpt 0 0 0),(1,iA m),(5,.mpt 3 0 0),(6,sA z),(11,.isl 4 (map zY a.Traps)),(12,iA (length a.Traps:Int)),(13,iA l)]) (λz=>(sV c d e a f i j [some (4,[(zY n)])])) (λz=>zcX c d e a f i m j l n z=some r) ?_ ?_
    .refine A ?_;apply Xa h y<;>intro v h
     .refine A ?_;exact (⟨[84,104,114,111,119,110],h,zl [0,1,2,3]⟩)
     .refine zd ?_;exact ⟨n.C,h,zl [0,1,2,3]⟩
    .rintro q h;obtain ⟨p,E,h⟩:=bs h;refine rg y<|u<|mv y<|u<|mv y<|u<|nc y y<|u<|fa ti y y y<|u<|ld ti y y<|u<|mv y<|u<|pc (EM c d q [84,104,114,111,119,110] E) y y y<|u<|sx [0,1,2] (zw c d e a f i j p y)<|zx (env0:=[(0,.mpt 0 0 0),(1,iA m),(5,.mpt 3 0 0),(6,sA q),(11,.isl 4 (map zY a.Traps)),(12,iA (length a.Traps:Int)),(13,iA l)]) (st0:=(sV c d e a f i (j||(!p)) [some (4,[(zY n)])])) (zl [0,1,2,3])<|zo ?_;refine A ?_;apply Xa h y<;>intro x h
     .obtain ⟨s,F,h⟩:=bs h;refine A ?_;exact u<|sx [0,1,2,4] (zlf c d e a f i (j||(!p)) n.At [q] F)<|zx (env0:=[(0,.mpt 0 0 0),(1,iA m),(11,.isl 4 (map zY a.Traps)),(12,iA (length a.Traps:Int)),(13,iA l)]) (st0:=(sV c d e a f i s [])) (zl [0,1,2])<|zo (⟨s,h,zl [0,1,2]⟩)
     .refine zd ?_;exact ⟨(j||(!p)),h,zl [0,1,2]⟩
   .rintro G h;refine A ?_;cases h;exact ⟨_,y,zl [0,1,2]⟩
  .refine zs ?_;cases h;exact ⟨y,_,y,zl [0,1,2]⟩
 .rintro H rfl;refine zm ?_;cases h;exact ⟨_,y,Xb [0,1,2]⟩
def UC(a:Int)(b:Int)(c:Int):Bool:=
  ((decide (b≤a))&&(decide (a≤c)))
instance (a:Int)(b:Int)(c:Int):PF prog 278 [iA a,iA b,iA c] (some (UC a b c)) bA:=.of λr h=>by
 refine zi func278 y kz y y ?_;unfold UC at h;refine A ?_;refine A ?_;refine zy ?_;obtain rfl:=h;exact ⟨_,y,Xb []⟩
def zG(d:List za)(e:T2)(f:T0)(i:zb)(j:T1)(a:T1)(l:Bool)(b:T0):Option (T1):=
  (Xx 16 a [b]).bind λc=>some c
theorem zD(a:List za)(b:T2)(c:T0)(d:zb)(e:T1)(l:T1)(i:Bool)(j:T0){r:T1}(h:zG a b c d e l i j=some r):SC prog 281 [.mpt 0 0 0,sA j] (tV a b c d e l i []) (.tup []) (tU a b c d e r i []):=by
 refine ⟨⟨t,Xw (sz:=1) (λ_=>y),t,Xw (sz:=1) (λ_=>y),t⟩,zZ func281 y kz y ?_⟩;obtain ⟨n,m,h⟩:=bs h;refine A ?_;refine u<|apM 4 ti y ti y y (by decide) ti y y y y (roX (f:=Xe) (z:=[j]) y y) (λ_=>y) y m<|A ?_;cases h;exact ⟨_,y,Xb [0,1,.dead,4]⟩
def Kt(e:List za)(f:T2)(i:T0)(j:zb)(l:T1)(a:T1)(b:Bool):Option (T0×T1×Bool):=
  cond (((length a):Int) == 0) (some ([84],a,true)) ((idx a (i64.wrap (((length a):Int)-1))).bind λc=>(XJ a 0 (i64.wrap (((length a):Int)-1))).bind λd=>some (c,d,b))
theorem Hk(e:List za)(i:T2)(j:T0)(m:zb)(d:T1)(a:T1)(n:Bool){r:T0×T1×Bool}(h:Kt e i j m d a n=some r):SC prog 341 [.mpt 0 0 0] (tV e i j m d a n []) (sA r.1) (tV e i j m d r.2.1 r.2.2 []):=by
 refine ⟨⟨t,Xw (sz:=1) (λ_=>y),Xw (sz:=1) (λ_=>y),t⟩,zZ func341 y kz y ?_⟩;refine A ?_;refine ze<|A ?_;apply Xa h y<;>intro p h
 .refine A ?_;refine A ?_;exact RT3
 .refine zd ?_;obtain ⟨s,v,h⟩:=bs h;refine rdA [(0,_),(3,_)] (sV e i j m d a n []) [] [0,1,2,3,4,5,6,7,8,9,10,11,12] [(3,_),(24,_),(23,_),(22,_),(21,_),(20,_),(19,_),(18,_),(17,_),(16,_),(15,_),(14,_),(13,_)] 0 (Xk (z:=Xd [0,1,2])) ?_;obtain ⟨q,o,h⟩:=bs h;refine rdA [(3,_)] [some (15,[(vK e i j m (.msl 1 0 (length d)) (.msl 2 0 (length q)) (bA n))]),sT d,sT a] [14] [0,1,2,3,4,5,6,7,8,9,10,11,12,13] [(38,_),(37,_),(36,_),(35,_),(34,_),(33,_),(32,_),(31,_),(30,_),(29,_),(28,_),(27,_),(26,_),(25,_)] 1 (Xj ⟨peC,peC,peC,peC,peC,peC,peC,peC,peC,peC,peC,(by exact pb y (slM (l:=a) (c:=(i64.wrap (((length a):Int)-1))) ti y ti y y y (DA y o) o<|w)),peC,peC,t⟩ (by exact ⟨(λ_ _=>⟨_,y,y,sto ti y y y<|⟨.any,[],[],y,y,y,t,Xk (z:=Xd [0,1,2])⟩⟩),t⟩)) ?_;refine zHh (b:=2) (l:=a) (f:=Xe) (c:=(i64.wrap (((length a):Int)-1))) y y o ?_;refine A ?_;exact RT3
def Br(i:List za)(j:T2)(l:T0)(m:zb)(a:T1)(b:T1)(c:Bool)(n:zr)(d:Bool):Option (T1×T1×Bool):=
  cond d (some (a,b,true)) ((idx a n.A).bind λe=>(zG i j l m a b c e).bind λf=>some (a,f,c))
def Hm(c:List za)(d:T2)(e:T0)(f:zb)(a:T1)(l:T1)(i:Bool)(b:zr):Option (T1×T1×Bool):=
  cond (b.Op == 1) ((zG c d e f a l i [73]).bind λE=>some (a,E,i)) (cond (b.Op == 2) ((zG c d e f a l i [78]).bind λs=>some (a,s,i)) (cond (b.Op == 3) (cond (decide (((length a):Int)≤b.A)) (Br c d e f a l i b true) ((idx a b.A).bind λv=>Br c d e f a l i b (v == [84]))) (cond (b.Op == 4) ((Kt c d e f a l i).bind λn=>cond (decide (((length a):Int)≤b.A)) (some (a,n.2.1,true)) ((Hy a).bind λp=>(idx p b.A).bind λF=>some ((List.set p (Int.toNat b.A) n.1),n.2.1,n.2.2))) (cond (b.Op == 5) ((Kt c d e f a l i).bind λq=>some (a,q.2.1,q.2.2)) (cond (b.Op == 6) ((Kt c d e f a l i).bind λj=>(zG c d e f a j.2.1 j.2.2 j.1).bind λx=>(zG c d e f a x j.2.2 j.1).bind λB=>some (a,B,j.2.2)) (cond (b.Op == 7) ((Kt c d e f a l i).bind λo=>(Kt c d e f a o.2.1 o.2.2).bind λm=>(zG c d e f a m.2.1 m.2.2 o.1).bind λC=>(zG c d e f a C m.2.2 m.1).bind λD=>some (a,D,m.2.2)) (some (a,l,i))))))))
theorem zm1(b:List za)(c:T2)(d:T0)(e:zb)(a:T1)(m:T1)(l:Bool)(n:zr){r:T1×T1×Bool}(h:Hm b c d e a m l n=some r):SC prog 279 [.mpt 0 0 0,.agg (zn n)] (tV b c d e a m l []) (.tup []) [.one 15 (vK b c d e (.msl 3 0 (length r.1)) (.msl 4 0 (length r.2.1)) (bA r.2.2)),.no,.no,.many 1 (map Xe r.1),.many 1 (map Xe r.2.1)]:=by
 refine ⟨⟨t,t,t,Xw (sz:=1) (λ_=>y),Xw (sz:=1) (λ_=>y),t⟩,zZ func279 y kz y ?_⟩;refine A ?_;refine A ?_;refine zh<|A ?_;apply Xa h y<;>intro G h
 .obtain ⟨v9,q2,h⟩:=bs h;refine rl y<|u<|mv y<|u<|sx [0,1,2] (zD b c d e a m l [73] q2)<|zx (env0:=[]) (st0:=(sU b c d e a v9 l [])) (zl [0,1,.dead,4])<|zo ?_;cases h;exact ⟨_,y,Xb [0,.dead,.dead,1,3]⟩
 .refine A ?_;apply Xa h y<;>intro H h
  .obtain ⟨I,q4,h⟩:=bs h;refine rl y<|u<|mv y<|u<|sx [0,1,2] (zD b c d e a m l [78] q4)<|zx (env0:=[]) (st0:=(sU b c d e a I l [])) (zl [0,1,.dead,4])<|zo ?_;cases h;exact ⟨_,y,Xb [0,.dead,.dead,1,3]⟩
  .refine A ?_;apply Xa h y<;>intro J h
   .refine ze ?_;refine Xz (X:=Bool) (λz=>[(0,.mpt 0 0 0),(3,.mpt 3 0 0),(38,bA z)]) (λz=>(sV b c d e a m l [some (4,[(zn n)])])) (λz=>Br b c d e a m l n z=some r) ?_ ?_
    .rcases bb (decide (((length a):Int)≤n.A)) with q |q
     .replace h:=bT q h;exact rdQ [] [0,1,2,3,4,5,6,7,8,9,10,11,12,13,14,15,16,17,18] [(38,_),(37,_),(36,_),(35,_),(34,_),(33,_),(32,_),(31,_),(30,_),(29,_),(28,_),(27,_),(26,_),(25,_),(24,_),(23,_),(22,_),(21,_),(20,_)] 0 (Xk (z:=by exact ⟨true,h,Xd [0,1,2,3]⟩))
     .replace h:=bF q h;obtain ⟨K,q7,h⟩:=bs h;exact rdQ [] [0,1,2,3,4,5,6,7,8,9,10,11,12,13,14,15,16,17,18] [(38,_),(37,_),(36,_),(35,_),(34,_),(33,_),(32,_),(31,_),(30,_),(29,_),(28,_),(27,_),(26,_),(25,_),(24,_),(23,_),(22,_),(21,_),(20,_)] 0 (Xk (z:=by exact ⟨(K == [84]),h,Xd [0,1,2,3]⟩))
    .rintro v12 h;apply Xa h y<;>intro L h
     .refine A ?_;refine zy ?_;cases h;exact ⟨_,y,Ho [0,.dead,.dead,1,2]⟩
     .refine zd ?_;obtain ⟨M,q9,N,O,h⟩:=bs2 h;refine XA [] (sU b c d e a N l []) [9] [0,1,2,3,4,5,6,7,8] [(50,_),(49,_),(48,_),(47,_),(46,_),(45,_),(44,_),(43,_),(42,_)] 1 (Xj (z:=by exact ⟨(λ_ _=>⟨_,y,y,sx [0,1,2] (zD b c d e a m l M O)<|⟨(.tup []),[],[(51,_)],y,y,y,y,Xk (z:=Xd [0,1,.dead,4])⟩⟩),t⟩)) ?_;cases h;exact ⟨_,y,Xb [0,.dead,.dead,1,3]⟩
   .refine A ?_;apply Xa h y<;>intro B h
    .obtain ⟨f,P,h⟩:=bs h;refine rg y<|u<|mv y<|u<|sx [0,1,2] (Hk b c d e a m l P)<|zx (env0:=[(0,.mpt 0 0 0),(3,.mpt 3 0 0),(55,sA f.1)]) (st0:=(sV b c d e a f.2.1 f.2.2 [some (4,[(zn n)])])) (zl [0,1,2,3])<|A ?_;refine ze ?_;refine rdA [(0,_),(3,_),(4,_),(63,_)] (sV b c d e a f.2.1 f.2.2 [some (4,[(zn n)])]) [] [0,1,2,3,4,5,6,7] [(63,_),(62,_),(61,_),(60,_),(59,_),(58,_),(57,_),(56,_)] 0 (Xk (z:=Xd [0,1,2,3])) ?_;apply Xa h y<;>intro C h
     .refine A ?_;refine zy ?_;cases h;exact ⟨_,y,Ho [0,.dead,.dead,1,2]⟩
     .refine zd ?_;obtain ⟨p,Q,h⟩:=bs h;refine A ?_;refine zx (env0:=[(0,.mpt 0 0 0),(3,.mpt 3 0 0),(4,sA f.1),(67,.mpt 0 0 0),(71,tL a)]) (st0:=[some (15,[(vK b c d e (tL a) (.msl 2 0 (length f.2.1)) (bA f.2.2))]),none,sT f.2.1,some (4,[(zn n)])]) (zl [0,.dead,2,3])<|u<|sx [] (zrr a Q)<|zx (env0:=[(0,.mpt 0 0 0),(3,.mpt 3 0 0),(4,sA f.1),(67,.mpt 0 0 0),(72,.msl 4 0 (length p))]) (st0:=[some (15,[(vK b c d e (tL a) (.msl 2 0 (length f.2.1)) (bA f.2.2))]),none,sT f.2.1,some (4,[(zn n)]),sT p]) (zl [0,.dead,2,3,4])<|A ?_;obtain ⟨v17,R,h⟩:=bs h;refine XA [] [some (15,[(vK b c d e (.msl 3 0 (length (List.set p (Int.toNat n.A) f.1))) (.msl 2 0 (length f.2.1)) (bA f.2.2))]),none,sT f.2.1,sT (List.set p (Int.toNat n.A) f.1)] [8] [0,1,2,3,4,5,6,7] [(82,_),(81,_),(80,_),(79,_),(78,_),(77,_),(76,_),(75,_)] 1 (Xj (z:=by exact ⟨(λ_ _=>⟨_,y,y,zGu (c':=f.1) ti y y (zz R).2.2 y y y y y<|⟨.any,[],[],y,y,y,t,Xk (z:=by exact ⟨[0,.dead,2,4],cn,y,⟨⟨_,y,XG (Gp y (by exact ⟨zF8 (by simp) y,.msl y,ci y,t⟩))⟩,⟨_,y,Zb (λ_=>y)⟩,⟨_,y,Zb (λ_=>y)⟩,t⟩,y,k⟩)⟩⟩),t⟩)) ?_;cases h;exact ⟨_,y,Xb [0,.dead,.dead,3,2]⟩
    .refine A ?_;apply Xa h y<;>intro D h
     .obtain ⟨s,S,h⟩:=bs h;refine rl y<|u<|mv y<|u<|sx [0,1,2] (Hk b c d e a m l S)<|zx (env0:=[]) (st0:=(sV b c d e a s.2.1 s.2.2 [])) (zl [0,1,2])<|zo ?_;cases h;exact ⟨_,y,Xb [0,.dead,.dead,1,2]⟩
     .refine A ?_;apply Xa h y<;>intro E h
      .obtain ⟨i,T,h⟩:=bs h;refine rg y<|u<|mv y<|u<|sx [0,1,2] (Hk b c d e a m l T)<|zx (env0:=[(0,.mpt 0 0 0),(90,sA i.1)]) (st0:=(sV b c d e a i.2.1 i.2.2 [])) (zl [0,1,2])<|A ?_;obtain ⟨v,U,h⟩:=bs h;refine rg y<|u<|mv y<|u<|mv y<|u<|sx [0,1,2] (zD b c d e a i.2.1 i.2.2 i.1 U)<|zx (env0:=[(0,.mpt 0 0 0),(5,sA i.1)]) (st0:=(sU b c d e a v i.2.2 [])) (zl [0,1,.dead,3])<|zo ?_;obtain ⟨V,W,h⟩:=bs h;refine rl y<|u<|mv y<|u<|mv y<|u<|sx [0,1,3] (zD b c d e a v i.2.2 i.1 W)<|zx (env0:=[]) (st0:=(sU b c d e a V i.2.2 [])) (zl [0,1,.dead,4])<|zo ?_;cases h;exact ⟨_,y,Xb [0,.dead,.dead,1,3]⟩
      .refine A ?_;apply Xa h y<;>intro F h
       .obtain ⟨o,Y,j,Z,h⟩:=bs2 h;refine rg y<|u<|mv y<|u<|sx [0,1,2] (Hk b c d e a m l Y)<|zx (env0:=[(0,.mpt 0 0 0),(100,sA o.1)]) (st0:=(sV b c d e a o.2.1 o.2.2 [])) (zl [0,1,2])<|u<|mv y<|u<|sx [0,1,2] (Hk b c d e a o.2.1 o.2.2 Z)<|zx (env0:=[(0,.mpt 0 0 0),(100,sA o.1),(102,sA j.1)]) (st0:=(sV b c d e a j.2.1 j.2.2 [])) (zl [0,1,2])<|A ?_;obtain ⟨x,q25,h⟩:=bs h;refine rg y<|u<|mv y<|u<|mv y<|u<|sx [0,1,2] (zD b c d e a j.2.1 j.2.2 o.1 q25)<|zx (env0:=[(0,.mpt 0 0 0),(7,sA j.1)]) (st0:=(sU b c d e a x j.2.2 [])) (zl [0,1,.dead,3])<|zo ?_;obtain ⟨v25,q26,h⟩:=bs h;refine rl y<|u<|mv y<|u<|mv y<|u<|sx [0,1,3] (zD b c d e a x j.2.2 j.1 q26)<|zx (env0:=[]) (st0:=(sU b c d e a v25 j.2.2 [])) (zl [0,1,.dead,4])<|zo ?_;cases h;exact ⟨_,y,Xb [0,.dead,.dead,1,3]⟩
       .refine zd ?_;cases h;exact ⟨_,y,Xb [0,.dead,.dead,1,2]⟩
def zm3(a:T1)(b:Bool):Option (T1×Bool):=
  some (a,b)
def H5(e:List za)(f:T2)(l:T0)(m:zb)(n:T1)(o:T1)(c:T1)(d:Bool)(a:Int):zL (T1×Bool×Int) (T1×Bool) (T1×Bool):=
  cond (decide (0≤a)) ((idx o a).bind λi=>(Kt e f l m n c d).bind λb=>(DZ e f b.1 i).bind λj=>some (.inl (b.2.1,(b.2.2||(!j)),(i64.wrap (a-1))))) (some (.inr (.inl (c,d))))
def zN(c:List za)(d:T2)(e:T0)(f:zb)(i:T1)(j:T1)(l:Bool)(a:T1):Option (T1×Bool):=
  (zp (λz=>H5 c d e f i a z.1 z.2.1 z.2.2) (j,l,(i64.wrap ((length a:Int)-1)))).bind λo=>zH o (λb=>zm3 b.1 b.2) some
theorem zI(a:List za)(c:T2)(d:T0)(e:zb)(f:T1)(m:T1)(n:Bool)(l:T1){r:T1×Bool}(h:zN a c d e f m n l=some r):SC prog 280 [.mpt 0 0 0,tL l] (tV a c d e f m n []) (.tup []) (tV a c d e f r.1 r.2 []):=by
 refine ⟨⟨t,Xw (sz:=1) (λ_=>y),Xw (sz:=1) (λ_=>y),t⟩,zZ func280 y kz y ?_⟩;refine A ?_;obtain ⟨o,ho,h⟩:=bs h;refine lpB ho (λz=>[(0,.mpt 0 0 0),(1,tL l),(4,iA z.2.2)]) (λz=>(sV a c d e f z.1 z.2.1 [])) (λb=>[]) (λb=>(sV a c d e f b.1 b.2 [])) (λr env st=>Ua prog f280 3 (.tup []) (sV a c d e f r.1 r.2 []) env st) (Xd [0,1,2]) ?_ ?_
 .rintro ⟨p,q,x⟩ r h;refine ze<|A ?_;apply Xa h y<;>intro s h
  .refine zd<|ze<|zh ?_;obtain ⟨B,E,i,v,j,F,h⟩:=bs3 h;refine XA [(0,_),(1,_),(4,_)] (sV a c d e f i.2.1 (i.2.2||(!j)) []) [6,12] [0,1,2,3,4,5,7,8,9,10] [(22,_),(21,_),(20,_),(19,_),(17,_),(16,_),(15,_),(14,_),(13,_),(12,_)] 2 (Xj (z:=by exact ⟨(λ_ _=>⟨_,y,y,sx [0,1,2] (Hk a c d e f p q v)<|⟨(sA i.1),[11],[(23,_),(18,_)],y,y,y,y,Xj (z:=by exact ⟨nv,(λ_ _=>⟨_,y,y,sx [0,1,2] (zw a c d e f i.2.1 i.2.2 j y)<|⟨(.tup []),[],[(24,_)],y,y,y,y,Xk (z:=Xd [0,1,2])⟩⟩),t⟩)⟩⟩),nw,t⟩)) ?_;refine A ?_;cases h;exact ⟨_,y,zl [0,1,2]⟩
  .refine zs ?_;cases h;exact ⟨y,_,y,zl [0,1,2]⟩
 .rintro ⟨C,D⟩ rfl;refine zm ?_;cases h;exact ⟨_,y,Xb [0,1,2]⟩
def D8(c:List za)(d:T2)(e:T0)(f:zb)(i:T1)(j:T1)(l:Bool):Option (T0×T1×Bool):=
  (Kt c d e f i j l).bind λa=>(cond (a.1 == [78]) (some true) ((WT a.1).bind λm=>some m)).bind λb=>some (a.1,a.2.1,(a.2.2||(!b)))
theorem zea(b:List za)(c:T2)(d:T0)(e:zb)(f:T1)(j:T1)(l:Bool){r:T0×T1×Bool}(h:D8 b c d e f j l=some r):SC prog 282 [.mpt 0 0 0] (tV b c d e f j l []) (sA r.1) (tV b c d e f r.2.1 r.2.2 []):=by
 refine ⟨⟨t,Xw (sz:=1) (λ_=>y),Xw (sz:=1) (λ_=>y),t⟩,zZ func282 y kz y ?_⟩;refine A ?_;obtain ⟨a,m,h⟩:=bs h;refine rg y<|u<|mv y<|u<|sx [0,1,2] (Hk b c d e f j l m)<|zx (env0:=[(0,.mpt 0 0 0),(5,sA a.1)]) (st0:=(sV b c d e f a.2.1 a.2.2 [])) (zl [0,1,2])<|A ?_;obtain ⟨i,n,h⟩:=bs h;refine A ?_;refine u<|sx [0,1,2] (zw b c d e f a.2.1 a.2.2 i y)<|zx (env0:=[(3,sA a.1)]) (st0:=(sV b c d e f a.2.1 (a.2.2||(!i)) [])) (zl [0,1,2])<|zo ?_;refine A ?_;exact RT3
def zev(c:List za)(d:T2)(f:T0)(i:zb)(j:T1)(l:T1)(e:Bool)(b:zr):Option (T1×Bool):=
  cond (b.Op == 37) ((zQ c d b.C).bind λn=>(zG c d f i j l (e||(!(n.2&&(!n.1.Interface)))) b.C).bind λq=>some (q,(e||(!(n.2&&(!n.1.Interface)))))) ((zin c d b.C b.M).bind λa=>cond (b.Op == 38) ((zN c d f i j l (e||(!(a.2.2&&(a.2.1.Static == ((b.Op == 40)||(b.Op == 41)))))) [b.C]).bind λm=>(zG c d f i j m.1 m.2 a.2.1.Type_).bind λs=>some (s,m.2)) (cond (b.Op == 39) ((zN c d f i j l (e||(!(a.2.2&&(a.2.1.Static == ((b.Op == 40)||(b.Op == 41)))))) [b.C,a.2.1.Type_]).bind λo=>some (o.1,o.2)) (cond (b.Op == 40) ((zG c d f i j l (e||(!(a.2.2&&(a.2.1.Static == ((b.Op == 40)||(b.Op == 41)))))) a.2.1.Type_).bind λv=>some (v,(e||(!(a.2.2&&(a.2.1.Static == ((b.Op == 40)||(b.Op == 41)))))))) ((zN c d f i j l (e||(!(a.2.2&&(a.2.1.Static == ((b.Op == 40)||(b.Op == 41)))))) [a.2.1.Type_]).bind λp=>some (p.1,p.2)))))
theorem zmr(c:List za)(d:T2)(e:T0)(f:zb)(i:T1)(l:T1)(j:Bool)(b:zr){r:T1×Bool}(h:zev c d e f i l j b=some r):SC prog 283 [.mpt 0 0 0,.agg (zn b)] (tV c d e f i l j []) (.tup []) (tU c d e f i r.1 r.2 []):=by
 refine ⟨⟨t,Xw (sz:=1) (λ_=>y),t,Xw (sz:=1) (λ_=>y),t⟩,zZ func283 y kz y ?_⟩;refine A ?_;refine ze<|A ?_;apply Xa h y<;>intro v h
 .obtain ⟨m,L,h⟩:=bs h;refine rdA [(0,_),(3,_),(4,_),(5,_)] (sV c d e f i l j [some (4,[(zn b)]),some (6,[(zf m.1)])]) [10,11] [0,1,2,3,4,5,6,7,8,9] [(21,_),(20,_),(12,_),(19,_),(18,_),(17,_),(16,_),(15,_),(14,_),(13,_)] 2 (Xj (z:=by exact ⟨(λ_ _=>⟨_,y,y,al 4 ti y<|⟨(.mpt 4 0 0),[],[(4,_)],y,y,y,y,Xj (z:=by exact ⟨nv,(λ_ _=>⟨_,y,y,sto ti y y y<|⟨.any,[12],[(5,_)],y,y,y,t,Xk (z:=Xd [0,1,2,3,4])⟩⟩),t⟩)⟩⟩),nw,t⟩)) ?_;refine A ?_;refine u<|sx [0,1,2] (zw c d e f i l j (m.2&&(!m.1.Interface)) y)<|zx (env0:=[(0,.mpt 0 0 0),(3,.mpt 3 0 0)]) (st0:=(sV c d e f i l (j||(!(m.2&&(!m.1.Interface)))) [some (4,[(zn b)])])) (zl [0,1,2,3])<|zo ?_;obtain ⟨x,J,h⟩:=bs h;refine A ?_;refine u<|sx [0,1,2] (zD c d e f i l (j||(!(m.2&&(!m.1.Interface)))) b.C J)<|zx (env0:=[]) (st0:=(sU c d e f i x (j||(!(m.2&&(!m.1.Interface)))) [])) (zl [0,1,.dead,4])<|zo ?_;refine zy ?_;cases h;exact ⟨_,y,Ho [0,1,.dead,3]⟩
 .refine zd ?_;obtain ⟨a,M,h⟩:=bs h;refine rdA [(0,_),(3,_),(7,_),(8,_)] (sV c d e f i l j [some (4,[(zn b)]),some (3,[(zv a.2.1)])]) [13,15] [0,1,2,3,4,5,6,7,8,9,10,11,12] [(46,_),(45,_),(44,_),(34,_),(43,_),(42,_),(41,_),(40,_),(39,_),(38,_),(37,_),(36,_),(35,_)] 2 (Xj (z:=by exact ⟨(λ_ _=>⟨_,y,y,al 4 ti y<|⟨(.mpt 4 0 0),[14],[(6,_),(7,_)],y,y,y,y,Xj (z:=by exact ⟨nv,(λ_ _=>⟨_,y,y,sto ti y y y<|⟨.any,[16],[(8,_)],y,y,y,t,Xk (z:=Xd [0,1,2,3,4])⟩⟩),t⟩)⟩⟩),nw,t⟩)) ?_;refine A ?_;refine u<|sx [0,1,2] (zw c d e f i l j (a.2.2&&(a.2.1.Static == ((b.Op == 40)||(b.Op == 41)))) y)<|zx (env0:=[(0,.mpt 0 0 0),(3,.mpt 3 0 0),(7,.mpt 4 0 0)]) (st0:=(sV c d e f i l (j||(!(a.2.2&&(a.2.1.Static == ((b.Op == 40)||(b.Op == 41)))))) [some (4,[(zn b)]),some (3,[(zv a.2.1)])])) (zl [0,1,2,3,4])<|zo ?_;refine A ?_;refine zh<|A ?_;apply Xa h y<;>intro B h
  .obtain ⟨n,K,h⟩:=bs h;refine A ?_;refine zx (env0:=[(0,.mpt 0 0 0),(7,.mpt 3 0 0),(72,.mpt 0 0 0),(75,.isl 1 (map Xe [b.C]))]) (st0:=(sV c d e f i l (j||(!(a.2.2&&(a.2.1.Static == ((b.Op == 40)||(b.Op == 41)))))) [some (3,[(zv a.2.1)])])) (zl [0,1,2,4])<|u<|sx [0,1,2] (zI c d e f i l (j||(!(a.2.2&&(a.2.1.Static == ((b.Op == 40)||(b.Op == 41)))))) [b.C] K)<|zx (env0:=[(0,.mpt 0 0 0),(7,.mpt 3 0 0)]) (st0:=(sV c d e f i n.1 n.2 [some (3,[(zv a.2.1)])])) (zl [0,1,2,3])<|zo ?_;obtain ⟨D,E,h⟩:=bs h;refine A ?_;refine u<|sx [0,1,2] (zD c d e f i n.1 n.2 a.2.1.Type_ E)<|zx (env0:=[]) (st0:=(sU c d e f i D n.2 [])) (zl [0,1,.dead,4])<|zo ?_;cases h;exact ⟨_,y,Xb [0,1,.dead,3]⟩
  .refine A ?_;apply Xa h y<;>intro q h
   .obtain ⟨o,F,h⟩:=bs h;refine A ?_;refine zx (env0:=[(83,.mpt 0 0 0),(88,.isl 1 (map Xe [b.C,a.2.1.Type_]))]) (st0:=(sV c d e f i l (j||(!(a.2.2&&(a.2.1.Static == ((b.Op == 40)||(b.Op == 41)))))) [])) (zl [0,1,2])<|u<|sx [0,1,2] (zI c d e f i l (j||(!(a.2.2&&(a.2.1.Static == ((b.Op == 40)||(b.Op == 41)))))) [b.C,a.2.1.Type_] F)<|zx (env0:=[]) (st0:=(sV c d e f i o.1 o.2 [])) (zl [0,1,2])<|zo ?_;cases h;exact ⟨_,y,Xb [0,1,.dead,2]⟩
   .refine A ?_;apply Xa h y<;>intro s h
    .obtain ⟨G,H,h⟩:=bs h;refine A ?_;refine u<|sx [0,1,2] (zD c d e f i l (j||(!(a.2.2&&(a.2.1.Static == ((b.Op == 40)||(b.Op == 41)))))) a.2.1.Type_ H)<|zx (env0:=[]) (st0:=(sU c d e f i G (j||(!(a.2.2&&(a.2.1.Static == ((b.Op == 40)||(b.Op == 41)))))) [])) (zl [0,1,.dead,5])<|zo ?_;cases h;exact ⟨_,y,Xb [0,1,.dead,3]⟩
    .obtain ⟨p,I,h⟩:=bs h;refine A ?_;refine zx (env0:=[(65,.mpt 0 0 0),(68,.isl 1 (map Xe [a.2.1.Type_]))]) (st0:=(sV c d e f i l (j||(!(a.2.2&&(a.2.1.Static == ((b.Op == 40)||(b.Op == 41)))))) [])) (zl [0,1,2])<|u<|sx [0,1,2] (zI c d e f i l (j||(!(a.2.2&&(a.2.1.Static == ((b.Op == 40)||(b.Op == 41)))))) [a.2.1.Type_] I)<|zx (env0:=[]) (st0:=(sV c d e f i p.1 p.2 [])) (zl [0,1,2])<|zo ?_;cases h;exact ⟨_,y,Xb [0,1,.dead,2]⟩
def Wi(e:List za)(f:T2)(i:T0)(j:zb)(l:T1)(b:zb)(c:T1)(a:Bool):Option (T1×Bool):=
  cond (!(b.Ret == [86])) ((zG e f i j l c a b.Ret).bind λd=>some (d,a)) (some (c,a))
def Bs(b:List za)(c:T2)(e:T0)(i:zb)(j:T1)(m:zr)(n:T0)(f:zb)(d:T1×Bool)(o:Bool):Option (T1×Bool):=
  cond o ((zN b c e i j d.1 d.2 [m.C]).bind λl=>Wi b c e i j f l.1 l.2) (cond (m.Op == 44) ((Kt b c e i j d.1 d.2).bind λa=>(DZ b c a.1 m.C).bind λp=>cond p ((DZ b c a.1 e).bind λq=>cond q ((GP b c e).bind λs=>(zR s n).bind λv=>Wi b c e i j f a.2.1 (a.2.2||(!v))) (Wi b c e i j f a.2.1 (a.2.2||(!false)))) (Wi b c e i j f a.2.1 (a.2.2||(!false)))) (Wi b c e i j f d.1 d.2))
def EZ(e:List za)(f:T2)(i:T0)(j:zb)(l:T1)(n:T1)(o:Bool)(b:zr)(c:T0)(a:zb)(m:Bool):Option (T1×Bool):=
  (zN e f i j l n (o||(!(m&&(a.Static == (b.Op == 42))))) a.Params).bind λd=>cond (b.Op == 43) (Bs e f i j l b c a d (b.Op == 43)) (Bs e f i j l b c a d (b.Op == 45))
def ER(c:List za)(d:T2)(f:T0)(i:zb)(j:T1)(l:T1)(m:Bool)(a:zr):Option (T1×Bool):=
  (O1 c d a.C a.M).bind λe=>cond (a.Op == 45) ((I6 c d a.C a.M).bind λb=>EZ c d f i j l m a b.1 b.2.1 b.2.2) (EZ c d f i j l m a e.1 e.2.1 (e.2.2&&(!e.2.1.Abstract)))
theorem zm0(c:List za)(d:T2)(e:T0)(f:zb)(i:T1)(p:T1)(q:Bool)(l:zr){r:T1×Bool}(h:ER c d e f i p q l=some r):SC prog 284 [.mpt 0 0 0,.agg (zn l)] (tV c d e f i p q []) (.tup []) (tU c d e f i r.1 r.2 []):=by
 refine ⟨⟨t,Xw (sz:=1) (λ_=>y),t,Xw (sz:=1) (λ_=>y),t⟩,zZ func284 y kz y ?_⟩;refine A ?_;obtain ⟨D,q1,h⟩:=bs h;refine rdA [(0,_),(3,_),(4,_),(5,_),(6,_)] (sV c d e f i p q [some (4,[(zn l)]),some (10,[(zc D.2.1)])]) [13,15] [0,1,2,3,4,5,6,7,8,9,10,11,12] [(20,_),(19,_),(18,_),(8,_),(17,_),(16,_),(15,_),(14,_),(13,_),(12,_),(11,_),(10,_),(9,_)] 2 (Xj (z:=by exact ⟨(λ_ _=>⟨_,y,y,al 4 ti y<|⟨(.mpt 4 0 0),[14],[(4,_),(5,_)],y,y,y,y,Xj (z:=by exact ⟨nv,(λ_ _=>⟨_,y,y,sto ti y y y<|⟨.any,[16],[(6,_)],y,y,y,t,Xk (z:=Xd [0,1,2,3,4])⟩⟩),t⟩)⟩⟩),nw,t⟩)) ?_;refine A ?_;refine Xz (X:=T0×zb×Bool) (λz=>[(0,.mpt 0 0 0),(3,.mpt 3 0 0),(4,sA z.1),(5,.mpt 4 0 0),(6,bA z.2.2)]) (λz=>(sV c d e f i p q [some (4,[(zn l)]),some (10,[(zc z.2.1)])])) (λz=>EZ c d e f i p q l z.1 z.2.1 z.2.2=some r) ?_ ?_
 .refine A ?_;apply Xa h y<;>intro M h
  .obtain ⟨v,q4,h⟩:=bs h;refine XA [(0,_),(3,_),(4,_),(5,_),(6,_)] (sV c d e f i p q [some (4,[(zn l)]),some (10,[(zc v.2.1)])]) [14] [0,1,2,3,4,5,6,7,8,9,10,11,12,13] [(4,_),(42,_),(41,_),(40,_),(30,_),(39,_),(38,_),(37,_),(36,_),(35,_),(34,_),(33,_),(32,_),(31,_)] 1 (Xj (z:=by exact ⟨(λ_ _=>⟨_,y,y,sto ti y y y<|⟨.any,[15],[(6,_)],y,y,y,t,Xk (z:=Xd [0,1,2,3,4])⟩⟩),t⟩)) ?_;exact ⟨⟨v.1,v.2.1,v.2.2⟩,h,zl [0,1,2,3,4]⟩
  .refine zd ?_;exact ⟨⟨D.1,D.2.1,(D.2.2&&(!D.2.1.Abstract))⟩,h,zl [0,1,2,3,4]⟩
 .rintro ⟨o,j,E⟩ h;refine A ?_;refine u<|sx [0,1,2] (zw c d e f i p q (E&&(j.Static == (l.Op == 42))) y)<|zx (env0:=[(0,.mpt 0 0 0),(3,.mpt 3 0 0),(4,sA o),(5,.mpt 4 0 0)]) (st0:=(sV c d e f i p (q||(!(E&&(j.Static == (l.Op == 42))))) [some (4,[(zn l)]),some (10,[(zc j)])])) (zl [0,1,2,3,4])<|zo ?_;obtain ⟨m,V,h⟩:=bs h;refine A ?_;refine u<|sx [0,1,2] (zI c d e f i p (q||(!(E&&(j.Static == (l.Op == 42))))) j.Params V)<|zx (env0:=[(0,.mpt 0 0 0),(3,.mpt 3 0 0),(4,sA o),(5,.mpt 4 0 0)]) (st0:=(sV c d e f i m.1 m.2 [some (4,[(zn l)]),some (10,[(zc j)])])) (zl [0,1,2,3,4])<|zo ?_;refine Xz (X:=T1×Bool) (λz=>[(0,.mpt 0 0 0),(5,.mpt 3 0 0)]) (λz=>(sV c d e f i z.1 z.2 [some (10,[(zc j)])])) (λz=>Wi c d e f i j z.1 z.2=some r) ?_ ?_
  .refine A ?_;refine zh ?_;refine Xz (X:=Bool) (λz=>[(0,.mpt 0 0 0),(3,.mpt 3 0 0),(4,sA o),(5,.mpt 4 0 0),(59,iA l.Op),(60,bA z)]) (λz=>(sV c d e f i m.1 m.2 [some (4,[(zn l)]),some (10,[(zc j)])])) (λz=>Bs c d e f i l o j m z=some r) ?_ ?_
   .refine A ?_;apply Xa h y<;>intro N h
    .refine zd ?_;exact ⟨(l.Op == 43),h,zl [0,1,2,3,4]⟩
    .refine A ?_;exact (⟨(l.Op == 45),h,zl [0,1,2,3,4]⟩)
   .rintro Y h;apply Xa h y<;>intro O h
    .obtain ⟨x,W,h⟩:=bs h;refine A ?_;exact zx (env0:=[(0,.mpt 0 0 0),(5,.mpt 3 0 0),(63,.mpt 0 0 0),(66,.isl 1 (map Xe [l.C]))]) (st0:=(sV c d e f i m.1 m.2 [some (10,[(zc j)])])) (zl [0,1,2,4])<|u<|sx [0,1,2] (zI c d e f i m.1 m.2 [l.C] W)<|zx (env0:=[(0,.mpt 0 0 0),(5,.mpt 3 0 0)]) (st0:=(sV c d e f i x.1 x.2 [some (10,[(zc j)])])) (zl [0,1,2,3])<|zo (⟨⟨x.1,x.2⟩,h,zl [0,1,2,3]⟩)
    .refine A ?_;apply Xa h y<;>intro K h
     .obtain ⟨a,P,h⟩:=bs h;refine rg y<|u<|mv y<|u<|sx [0,1,2] (Hk c d e f i m.1 m.2 P)<|zx (env0:=[(0,.mpt 0 0 0),(3,.mpt 3 0 0),(4,sA o),(5,.mpt 4 0 0),(71,sA a.1)]) (st0:=(sV c d e f i a.2.1 a.2.2 [some (4,[(zn l)]),some (10,[(zc j)])])) (zl [0,1,2,3,4])<|A ?_;obtain ⟨F,H,h⟩:=bs h
      rcases bb F with s |s
      .replace h:=bT s h;obtain ⟨G,Z,h⟩:=bs h
       rcases bb G with n |n
       .replace h:=bT n h;obtain ⟨I,Q,B,R,h⟩:=bs2 h;refine XA [(0,.mpt 0 0 0),(5,.mpt 3 0 0)] (sV c d e f i a.2.1 (a.2.2||(!B)) [some (10,[(zc j)])]) [30,34] [0,1,2,3,4,5,6,7,8,9,10,11,12,13,14,15,16,17,18,19,20,21,22,23,24,25,26,27,28,29,31] [(103,_),(101,_),(100,_),(99,_),(98,_),(97,_),(96,_),(95,_),(94,_),(93,_),(92,_),(91,_),(90,_),(89,_),(88,_),(87,_),(86,_),(85,_),(84,_),(83,_),(82,_),(81,_),(80,_),(79,_),(78,_),(77,_),(76,_),(75,_),(74,_),(73,_),(72,_)] 2 (Xj (z:=by exact ⟨(λ_ _=>⟨_,y,cg (b:=G) y n,sx [] (Wj c d e Q)<|⟨(.msl 5 0 (length I)),[32,33],[(105,_),(104,_),(102,_)],y,y,y,y,Xj ⟨(by exact λ_=>pag (b:=G) y y y y n y (pcs (E3 I o R) y y (.cons (X9 y (λ_=>y)) (.cons (si y) .nil)) XD<|w)),peC,peC,peC,peC,peC,peC,peC,peC,peC,peC,peC,peC,peC,peC,peC,peC,peC,peC,peC,peC,peC,peC,peC,peC,peC,peC,peC,peC,peC,peC,peC,peC,t⟩ (by exact ⟨nv,(λ_ _=>⟨_,y,y,sc [0,1,2] (args:=[.mpt 0 0 0,bA B]) (zw c d e f i a.2.1 a.2.2 B y) y y y y ⟨(.mpt y),(rnI y),t⟩ ⟨⟨_,y,(KA y ⟨(.msl y),(.msl y),(rnI y),t⟩)⟩,⟨y,mkI (λ_=>y)⟩,⟨y,mkI (λ_=>y)⟩,t⟩<|⟨(.tup []),[],[(106,_)],y,y,y,y,Xk (z:=Xd [0,1,2,4])⟩⟩),t⟩)⟩⟩),nw,t⟩)) ?_;exact ⟨⟨a.2.1,(a.2.2||(!B))⟩,h,zl [0,1,2,3]⟩
       .replace h:=bF n h;refine XA [(0,.mpt 0 0 0),(5,.mpt 3 0 0)] (sV c d e f i a.2.1 (a.2.2||(!false)) [some (10,[(zc j)])]) [34] [0,1,2,3,4,5,6,7,8,9,10,11,12,13,14,15,16,17,18,19,20,21,22,23,24,25,26,27,28,29,30,31,32,33] [(105,_),(104,_),(103,_),(102,_),(101,_),(100,_),(99,_),(98,_),(97,_),(96,_),(95,_),(94,_),(93,_),(92,_),(91,_),(90,_),(89,_),(88,_),(87,_),(86,_),(85,_),(84,_),(83,_),(82,_),(81,_),(80,_),(79,_),(78,_),(77,_),(76,_),(75,_),(74,_),(73,_),(72,_)] 1 (Xj (z:=by exact ⟨(λ_ _=>⟨_,y,y,sc [0,1,2] (args:=[.mpt 0 0 0,bA false]) (zw c d e f i a.2.1 a.2.2 false y) y y y y ⟨(.mpt y),(rnI y),t⟩ ⟨⟨_,y,(KA y ⟨(.msl y),(.msl y),(rnI y),t⟩)⟩,⟨y,mkI (λ_=>y)⟩,⟨y,mkI (λ_=>y)⟩,t⟩<|⟨(.tup []),[],[(106,_)],y,y,y,y,Xk (z:=Xd [0,1,2,4])⟩⟩),t⟩)) ?_;exact ⟨⟨a.2.1,(a.2.2||(!false))⟩,h,zl [0,1,2,3]⟩
      .replace h:=bF s h;refine XA [(0,.mpt 0 0 0),(5,.mpt 3 0 0)] (sV c d e f i a.2.1 (a.2.2||(!false)) [some (10,[(zc j)])]) [34] [33,32,31,30,29,28,27,26,25,24,23,22,21,20,19,18,17,16,15,14,13,12,11,10,9,8,7,6,5,4,3,2,1,0] [(105,bA false),(104,.lit undef),(103,.lit undef),(102,.lit undef),(101,.lit undef),(100,.lit undef),(99,.lit undef),(98,.lit undef),(97,.lit undef),(96,.lit undef),(95,.lit undef),(94,.lit undef),(93,bA false),(92,bA false),(91,.lit undef),(90,.lit undef),(89,.lit undef),(88,.lit undef),(87,.lit undef),(86,.lit undef),(85,.lit undef),(84,.lit undef),(83,.lit undef),(82,.lit undef),(81,bA F),(80,bA F),(79,sA l.C),(78,.mpt 3 0 2),(77,sA a.1),(76,.ipt 2 [[cL c,mI d]] 0 0),(75,.mpt 0 0 0),(74,.mpt 0 0 0),(73,.mpt 0 0 0),(72,.mpt 0 0 0)] 1 (X5 ⟨pe,pe,pe,pe,pe,pe,pe,pe,pe,pe,pe,pe,pe,pe,pe,pe,pe,pe,pe,pe,pe,pe,pe,pe,pe,(pb y (pc (zjA c d a.1 l.C H) y y y w)),(pb y (ld ti y y w)),(pb y (fa ti y y y w)),pe,(pb y (ld ti y y w)),(pb y (fa ti y y y w)),pe,pe,pe,t⟩ ⟨(λ_ _=>⟨_,y,y,sc [0,1,2] (args:=[.mpt 0 0 0,bA false]) (zw c d e f i a.2.1 a.2.2 false y) y y y y ⟨(.mpt y),(rnI y),t⟩ ⟨⟨_,y,(KA y ⟨(.msl y),(.msl y),(rnI y),t⟩)⟩,⟨y,mkI (λ_=>y)⟩,⟨y,mkI (λ_=>y)⟩,t⟩<|⟨(.tup []),[],[(106,.tup [])],y,y,kz,y,ZC ⟨pe,pe,pe,pe,pe,pe,pe,pe,pe,pe,pe,pe,pe,pe,pe,pe,pe,pe,pe,pe,pe,pe,pe,pe,pe,(pb y (pc (zjA c d a.1 l.C H) y y y w)),(pb y (ld ti y y w)),(pb y (fa ti y y y w)),pe,(pb y (ld ti y y w)),(pb y (fa ti y y y w)),pe,pe,pe,t⟩ (zl [0,1,2,4])⟩⟩),t⟩) ?_;exact ⟨⟨a.2.1,(a.2.2||(!false))⟩,h,zl [0,1,2,3]⟩
     .refine zd ?_;exact ⟨⟨m.1,m.2⟩,h,zl [0,1,2,4]⟩
  .rintro ⟨S,J⟩ h;refine A ?_;apply Xa h y<;>intro L h
   .obtain ⟨T,U,h⟩:=bs h;refine A ?_;refine u<|sx [0,1,2] (zD c d e f i S J j.Ret U)<|zx (env0:=[]) (st0:=(sU c d e f i T J [])) (zl [0,1,.dead,4])<|zo ?_;cases h;exact ⟨_,y,Xb [0,1,.dead,3]⟩
   .refine zd ?_;cases h;exact ⟨_,y,Xb [0,1,.dead,2]⟩
def En(e:List za)(f:T2)(i:T0)(a:zb)(j:T1)(c:T1)(d:Bool)(l:Int):Option (T1×Bool):=
  cond (l == 46) (some (c,(d||(!(a.Ret == [86]))))) (cond (l == 47) ((zN e f i a j c (d||(!(a.Ret == [73]))) ([[73]])).bind λm=>some (m.1,m.2)) ((WT a.Ret).bind λn=>(zN e f i a j c (d||(!n)) [a.Ret]).bind λb=>some (b.1,b.2)))
theorem znR(b:List za)(c:T2)(d:T0)(a:zb)(e:T1)(f:T1)(i:Bool)(m:Int){r:T1×Bool}(h:En b c d a e f i m=some r):SC prog 285 [.mpt 0 0 0,iA m] (tV b c d a e f i []) (.tup []) (tV b c d a e r.1 r.2 []):=by
 refine ⟨⟨t,Xw (sz:=1) (λ_=>y),Xw (sz:=1) (λ_=>y),t⟩,zZ func285 y kz y ?_⟩;refine zh<|A ?_;apply Xa h y<;>intro n h
 .refine A ?_;refine u<|sx [0,1,2] (zw b c d a e f i (a.Ret == [86]) y)<|zx (env0:=[]) (st0:=(sV b c d a e f (i||(!(a.Ret == [86]))) [])) (zl [0,1,2])<|zo ?_;cases h;exact ⟨_,y,Xb [0,1,2]⟩
 .refine A ?_;apply Xa h y<;>intro o h
  .refine A ?_;refine u<|sx [0,1,2] (zw b c d a e f i (a.Ret == [73]) y)<|zx (env0:=[(0,.mpt 0 0 0)]) (st0:=(sV b c d a e f (i||(!(a.Ret == [73]))) [])) (zl [0,1,2])<|zo ?_;obtain ⟨p,q,h⟩:=bs h;refine A ?_;refine zx (env0:=[(42,.mpt 0 0 0),(43,tL ([[73]]))]) (st0:=(sV b c d a e f (i||(!(a.Ret == [73]))) [])) (zl [0,1,2])<|u<|sx [0,1,2] (zI b c d a e f (i||(!(a.Ret == [73]))) ([[73]]) q)<|zx (env0:=[]) (st0:=(sV b c d a e p.1 p.2 [])) (zl [0,1,2])<|zo ?_;cases h;exact ⟨_,y,Xb [0,1,2]⟩
  .obtain ⟨j,v,h⟩:=bs h;refine A ?_;refine u<|sx [0,1,2] (zw b c d a e f i j y)<|zx (env0:=[(0,.mpt 0 0 0)]) (st0:=(sV b c d a e f (i||(!j)) [])) (zl [0,1,2])<|zo ?_;obtain ⟨l,s,h⟩:=bs h;refine A ?_;refine zx (env0:=[(12,.mpt 0 0 0),(18,.isl 1 (map Xe [a.Ret]))]) (st0:=(sV b c d a e f (i||(!j)) [])) (zl [0,1,2])<|u<|sx [0,1,2] (zI b c d a e f (i||(!j)) [a.Ret] s)<|zx (env0:=[]) (st0:=(sV b c d a e l.1 l.2 [])) (zl [0,1,2])<|zo ?_;cases h;exact ⟨_,y,Xb [0,1,2]⟩
def zn1(a:T0):Option (T0):=
  (G9 a).bind λb=>(cond (!b) (some true) ((Wo [91] a).bind λc=>(G9 c).bind λd=>some (!d))).bind λe=>cond e (some []) ((Wo [91] a).bind λf=>some f)
instance (a:T0):PF prog 221 [sA a] (zn1 a) sA:=⟨λr h=>by
 refine zi func221 y kz y y<|A ?_;refine ze ?_;obtain ⟨c,d,e,f,h⟩:=bs2 h;refine A ?_;apply Xa h y<;>intro b h
 .refine A ?_;exact RT0
 .refine zd ?_;obtain ⟨i,j,h⟩:=bs h;refine A ?_
  exact RT0⟩
def zeu(c:List za)(d:T2)(e:T0)(f:zb)(i:T1)(j:T1)(l:Bool):Option (T0×T1×Bool):=
  (Kt c d e f i j l).bind λa=>(Hc a.1).bind λb=>cond (a.1 == [78]) (some (a.1,a.2.1,(a.2.2||(!((a.1 == [78])||(b.2&&(!(b.1 == [73])))))))) (some (b.1,a.2.1,(a.2.2||(!((a.1 == [78])||(b.2&&(!(b.1 == [73]))))))))
theorem ziA(b:List za)(c:T2)(d:T0)(e:zb)(f:T1)(j:T1)(l:Bool){r:T0×T1×Bool}(h:zeu b c d e f j l=some r):SC prog 342 [.mpt 0 0 0] (tV b c d e f j l []) (sA r.1) (tV b c d e f r.2.1 r.2.2 []):=by
 refine ⟨⟨t,Xw (sz:=1) (λ_=>y),Xw (sz:=1) (λ_=>y),t⟩,zZ func342 y kz y ?_⟩;refine A ?_;obtain ⟨a,n,h⟩:=bs h;refine rg y<|u<|mv y<|u<|sx [0,1,2] (Hk b c d e f j l n)<|zx (env0:=[(0,.mpt 0 0 0),(7,sA a.1)]) (st0:=(sV b c d e f a.2.1 a.2.2 [])) (zl [0,1,2])<|A ?_;obtain ⟨i,o,h⟩:=bs h;refine A ?_;refine A ?_;refine u<|sx [0,1,2] (zw b c d e f a.2.1 a.2.2 ((a.1 == [78])||(i.2&&(!(i.1 == [73])))) y)<|zx (env0:=[(3,sA a.1),(4,sA i.1)]) (st0:=(sV b c d e f a.2.1 (a.2.2||(!((a.1 == [78])||(i.2&&(!(i.1 == [73])))))) [])) (zl [0,1,2])<|zo ?_;refine ze<|A ?_;apply Xa h y<;>intro m h
 .refine A ?_;exact RT3
 .refine zd<|A ?_;exact RT3
def Hl(a:List za)(b:T2)(c:T0)(d:zb)(e:T1)(i:T1)(j:Bool)(l:zr):Option (T1×Bool):=
  cond (l.Op == 49) ((zN a b c d e i j ([[73]])).bind λE=>(zG a b c d e E.1 E.2 [91,73]).bind λF=>some (F,E.2)) (cond (l.Op == 50) ((zn1 l.C).bind λn=>(cond (!(n == [])) ((HZ a b n).bind λG=>some G) (some false)).bind λH=>(zN a b c d e i (j||(!H)) ([[73]])).bind λo=>(zG a b c d e o.1 o.2 n).bind λI=>some (I,o.2)) (cond (l.Op == 51) ((Kt a b c d e i j).bind λf=>(Hc f.1).bind λq=>(zG a b c d e f.2.1 (f.2.2||(!(q.2||(f.1 == [78])))) [73]).bind λJ=>some (J,(f.2.2||(!(q.2||(f.1 == [78])))))) (cond (l.Op == 52) ((zN a b c d e i j ([[91,73],[73]])).bind λp=>(zG a b c d e p.1 p.2 [73]).bind λK=>some (K,p.2)) (cond (l.Op == 53) ((zN a b c d e i j ([[91,73],[73],[73]])).bind λs=>some (s.1,s.2)) (cond (l.Op == 54) ((zN a b c d e i j ([[73]])).bind λv=>(zeu a b c d e v.1 v.2).bind λm=>(zG a b c d e m.2.1 m.2.2 m.1).bind λL=>some (L,m.2.2)) ((D8 a b c d e i j).bind λx=>(zN a b c d e x.2.1 x.2.2 ([[73]])).bind λB=>(zeu a b c d e B.1 B.2).bind λD=>some (D.2.1,D.2.2)))))))
theorem zlH(a:List za)(b:T2)(c:T0)(d:zb)(e:T1)(i:T1)(j:Bool)(I:zr){r:T1×Bool}(h:Hl a b c d e i j I=some r):SC prog 286 [.mpt 0 0 0,.agg (zn I)] (tV a b c d e i j []) (.tup []) (tU a b c d e r.1 r.2 []):=by
 refine ⟨⟨t,Xw (sz:=1) (λ_=>y),t,Xw (sz:=1) (λ_=>y),t⟩,zZ func286 y kz y ?_⟩;refine A ?_;refine A ?_;refine zh<|A ?_;apply Xa h y<;>intro J h
 .obtain ⟨B,q2,h⟩:=bs h;refine A ?_;refine zx (env0:=[(0,.mpt 0 0 0),(19,.mpt 0 0 0),(20,tL ([[73]]))]) (st0:=(sV a b c d e i j [])) (zl [0,1,2])<|u<|sx [0,1,2] (zI a b c d e i j ([[73]]) q2)<|zx (env0:=[(0,.mpt 0 0 0)]) (st0:=(sV a b c d e B.1 B.2 [])) (zl [0,1,2])<|zo ?_;obtain ⟨K,q3,h⟩:=bs h;refine rl y<|u<|mv y<|u<|sx [0,1,2] (zD a b c d e B.1 B.2 [91,73] q3)<|zx (env0:=[]) (st0:=(sU a b c d e K B.2 [])) (zl [0,1,.dead,3])<|zo ?_;cases h;exact ⟨_,y,Xb [0,1,.dead,3]⟩
 .refine A ?_;apply Xa h y<;>intro L h
  .obtain ⟨p,q5,h⟩:=bs h;refine A ?_;obtain ⟨q,q8,h⟩:=bs h;refine A ?_;refine u<|sx [0,1,2] (zw a b c d e i j q y)<|zx (env0:=[(0,.mpt 0 0 0),(4,sA p)]) (st0:=(sV a b c d e i (j||(!q)) [])) (zl [0,1,2])<|zo ?_;obtain ⟨n,q9,h⟩:=bs h;refine A ?_;refine zx (env0:=[(0,.mpt 0 0 0),(4,sA p),(41,.mpt 0 0 0),(42,tL ([[73]]))]) (st0:=(sV a b c d e i (j||(!q)) [])) (zl [0,1,2])<|u<|sx [0,1,2] (zI a b c d e i (j||(!q)) ([[73]]) q9)<|zx (env0:=[(0,.mpt 0 0 0),(4,sA p)]) (st0:=(sV a b c d e n.1 n.2 [])) (zl [0,1,2])<|zo ?_;obtain ⟨M,N,h⟩:=bs h;refine A ?_;refine u<|sx [0,1,2] (zD a b c d e n.1 n.2 p N)<|zx (env0:=[]) (st0:=(sU a b c d e M n.2 [])) (zl [0,1,.dead,3])<|zo ?_;cases h;exact ⟨_,y,Xb [0,1,.dead,3]⟩
  .refine A ?_;apply Xa h y<;>intro E h
   .obtain ⟨f,O,h⟩:=bs h;refine rg y<|u<|mv y<|u<|sx [0,1,2] (Hk a b c d e i j O)<|zx (env0:=[(0,.mpt 0 0 0),(50,sA f.1)]) (st0:=(sV a b c d e f.2.1 f.2.2 [])) (zl [0,1,2])<|A ?_;obtain ⟨s,q13,h⟩:=bs h;refine A ?_;refine A ?_;refine u<|sx [0,1,2] (zw a b c d e f.2.1 f.2.2 (s.2||(f.1 == [78])) y)<|zx (env0:=[(0,.mpt 0 0 0)]) (st0:=(sV a b c d e f.2.1 (f.2.2||(!(s.2||(f.1 == [78])))) [])) (zl [0,1,2])<|zo ?_;obtain ⟨P,Q,h⟩:=bs h;refine rl y<|u<|mv y<|u<|sx [0,1,2] (zD a b c d e f.2.1 (f.2.2||(!(s.2||(f.1 == [78])))) [73] Q)<|zx (env0:=[]) (st0:=(sU a b c d e P (f.2.2||(!(s.2||(f.1 == [78])))) [])) (zl [0,1,.dead,3])<|zo ?_;cases h;exact ⟨_,y,Xb [0,1,.dead,3]⟩
   .refine A ?_;apply Xa h y<;>intro F h
    .obtain ⟨o,R,h⟩:=bs h;refine A ?_;refine zx (env0:=[(0,.mpt 0 0 0),(67,.mpt 0 0 0),(68,tL ([[91,73],[73]]))]) (st0:=(sV a b c d e i j [])) (zl [0,1,2])<|u<|sx [0,1,2] (zI a b c d e i j ([[91,73],[73]]) R)<|zx (env0:=[(0,.mpt 0 0 0)]) (st0:=(sV a b c d e o.1 o.2 [])) (zl [0,1,2])<|zo ?_;obtain ⟨S,T,h⟩:=bs h;refine rl y<|u<|mv y<|u<|sx [0,1,2] (zD a b c d e o.1 o.2 [73] T)<|zx (env0:=[]) (st0:=(sU a b c d e S o.2 [])) (zl [0,1,.dead,3])<|zo ?_;cases h;exact ⟨_,y,Xb [0,1,.dead,3]⟩
    .refine A ?_;apply Xa h y<;>intro G h
     .obtain ⟨C,U,h⟩:=bs h;refine A ?_;refine zx (env0:=[(74,.mpt 0 0 0),(75,tL ([[91,73],[73],[73]]))]) (st0:=(sV a b c d e i j [])) (zl [0,1,2])<|u<|sx [0,1,2] (zI a b c d e i j ([[91,73],[73],[73]]) U)<|zx (env0:=[]) (st0:=(sV a b c d e C.1 C.2 [])) (zl [0,1,2])<|zo ?_;cases h;exact ⟨_,y,Xb [0,1,.dead,2]⟩
     .refine A ?_;apply Xa h y<;>intro H h
      .obtain ⟨v,V,h⟩:=bs h;refine A ?_;refine zx (env0:=[(0,.mpt 0 0 0),(79,.mpt 0 0 0),(80,tL ([[73]]))]) (st0:=(sV a b c d e i j [])) (zl [0,1,2])<|u<|sx [0,1,2] (zI a b c d e i j ([[73]]) V)<|zx (env0:=[(0,.mpt 0 0 0)]) (st0:=(sV a b c d e v.1 v.2 [])) (zl [0,1,2])<|zo ?_;obtain ⟨l,W,X,Y,h⟩:=bs2 h;refine rl y<|u<|mv y<|u<|mv y<|u<|sx [0,1,2] (ziA a b c d e v.1 v.2 W)<|zx (env0:=[(82,.mpt 0 0 0),(84,sA l.1)]) (st0:=(sV a b c d e l.2.1 l.2.2 [])) (zl [0,1,2])<|u<|sx [0,1,2] (zD a b c d e l.2.1 l.2.2 l.1 Y)<|zx (env0:=[]) (st0:=(sU a b c d e X l.2.2 [])) (zl [0,1,.dead,3])<|zo ?_;cases h;exact ⟨_,y,Xb [0,1,.dead,3]⟩
      .obtain ⟨m,Z,h⟩:=bs h;refine rg y<|u<|mv y<|u<|sx [0,1,2] (zea a b c d e i j Z)<|zx (env0:=[(0,.mpt 0 0 0)]) (st0:=(sV a b c d e m.2.1 m.2.2 [])) (zl [0,1,2])<|zo ?_;obtain ⟨x,q26,h⟩:=bs h;refine A ?_;refine zx (env0:=[(0,.mpt 0 0 0),(12,.mpt 0 0 0),(13,tL ([[73]]))]) (st0:=(sV a b c d e m.2.1 m.2.2 [])) (zl [0,1,2])<|u<|sx [0,1,2] (zI a b c d e m.2.1 m.2.2 ([[73]]) q26)<|zx (env0:=[(0,.mpt 0 0 0)]) (st0:=(sV a b c d e x.1 x.2 [])) (zl [0,1,2])<|zo ?_;obtain ⟨D,q27,h⟩:=bs h;refine rl y<|u<|mv y<|u<|sx [0,1,2] (ziA a b c d e x.1 x.2 q27)<|zx (env0:=[]) (st0:=(sV a b c d e D.2.1 D.2.2 [])) (zl [0,1,2])<|zo ?_;cases h;exact ⟨_,y,Xb [0,1,.dead,2]⟩
def Wh(b:List za)(c:T2)(e:T0)(f:zb)(i:T1)(m:T1)(j:Bool)(l:zr)(v:Bool):Option (T1×Bool):=
  cond v ((D8 b c e f i m j).bind λa=>(HZ b c l.C).bind λd=>cond (l.Op == 56) ((zG b c e f i a.2.1 (a.2.2||(!d)) l.C).bind λp=>some (p,(a.2.2||(!d)))) ((zG b c e f i a.2.1 (a.2.2||(!d)) [73]).bind λq=>some (q,(a.2.2||(!d))))) (cond (l.Op == 58) ((zN b c e f i m j ([[84,104,114,111,119,110]])).bind λn=>some (n.1,n.2)) (cond (l.Op == 59) ((zG b c e f i m j [73]).bind λs=>some (s,j)) ((zN b c e f i m j ([[73]])).bind λo=>some (o.1,o.2))))
def Wc(b:List za)(c:T2)(d:T0)(e:zb)(f:T1)(i:T1)(j:Bool)(a:zr):Option (T1×Bool):=
  cond (a.Op == 56) (Wh b c d e f i j a (a.Op == 56)) (Wh b c d e f i j a (a.Op == 57))
theorem zm2(a:List za)(b:T2)(c:T0)(d:zb)(e:T1)(j:T1)(i:Bool)(l:zr){r:T1×Bool}(h:Wc a b c d e j i l=some r):SC prog 287 [.mpt 0 0 0,.agg (zn l)] (tV a b c d e j i []) (.tup []) (tU a b c d e r.1 r.2 []):=by
 refine ⟨⟨t,Xw (sz:=1) (λ_=>y),t,Xw (sz:=1) (λ_=>y),t⟩,zZ func287 y kz y ?_⟩;refine A ?_;refine A ?_;refine zh ?_;refine Xz (X:=Bool) (λz=>[(0,.mpt 0 0 0),(3,.mpt 3 0 0),(5,iA l.Op),(9,bA z)]) (λz=>(sV a b c d e j i [some (4,[(zn l)])])) (λz=>Wh a b c d e j i l z=some r) ?_ ?_
 .refine A ?_;apply Xa h y<;>intro q h
  .refine zd ?_;exact ⟨(l.Op == 56),h,zl [0,1,2,3]⟩
  .refine A ?_;exact (⟨(l.Op == 57),h,zl [0,1,2,3]⟩)
 .rintro L h;apply Xa h y<;>intro s h
  .obtain ⟨f,H,h⟩:=bs h;refine rg y<|u<|mv y<|u<|sx [0,1,2] (zea a b c d e j i H)<|zx (env0:=[(0,.mpt 0 0 0),(3,.mpt 3 0 0)]) (st0:=(sV a b c d e f.2.1 f.2.2 [some (4,[(zn l)])])) (zl [0,1,2,3])<|zo ?_;obtain ⟨m,M,h⟩:=bs h;refine rdA [(0,_),(3,_)] (sV a b c d e f.2.1 (f.2.2||(!m)) [some (4,[(zn l)])]) [8] [0,1,2,3,4,5,6,7] [(21,_),(20,_),(19,_),(18,_),(17,_),(16,_),(15,_),(14,_)] 1 (Xj (z:=by exact ⟨(λ_ _=>⟨_,y,y,sx [0,1,2] (zw a b c d e f.2.1 f.2.2 m y)<|⟨(.tup []),[],[(22,_)],y,y,y,y,Xk (z:=Xd [0,1,2,3])⟩⟩),t⟩)) ?_;refine A ?_;apply Xa h y<;>intro v h
   .obtain ⟨x,I,h⟩:=bs h;refine A ?_;refine u<|sx [0,1,2] (zD a b c d e f.2.1 (f.2.2||(!m)) l.C I)<|zx (env0:=[]) (st0:=(sU a b c d e x (f.2.2||(!m)) [])) (zl [0,1,.dead,4])<|zo ?_;cases h;exact ⟨_,y,Xb [0,1,.dead,3]⟩
   .obtain ⟨B,J,h⟩:=bs h;refine rl y<|u<|mv y<|u<|sx [0,1,2] (zD a b c d e f.2.1 (f.2.2||(!m)) [73] J)<|zx (env0:=[]) (st0:=(sU a b c d e B (f.2.2||(!m)) [])) (zl [0,1,.dead,4])<|zo ?_;cases h;exact ⟨_,y,Xb [0,1,.dead,3]⟩
  .refine A ?_;apply Xa h y<;>intro D h
   .obtain ⟨n,K,h⟩:=bs h;refine A ?_;refine zx (env0:=[(34,.mpt 0 0 0),(35,tL ([[84,104,114,111,119,110]]))]) (st0:=(sV a b c d e j i [])) (zl [0,1,2])<|u<|sx [0,1,2] (zI a b c d e j i ([[84,104,114,111,119,110]]) K)<|zx (env0:=[]) (st0:=(sV a b c d e n.1 n.2 [])) (zl [0,1,2])<|zo ?_;cases h;exact ⟨_,y,Xb [0,1,.dead,2]⟩
   .refine A ?_;apply Xa h y<;>intro p h
    .obtain ⟨E,F,h⟩:=bs h;refine rl y<|u<|mv y<|u<|sx [0,1,2] (zD a b c d e j i [73] F)<|zx (env0:=[]) (st0:=(sU a b c d e E i [])) (zl [0,1,.dead,4])<|zo ?_;cases h;exact ⟨_,y,Xb [0,1,.dead,3]⟩
    .obtain ⟨o,G,h⟩:=bs h;refine A ?_;refine zx (env0:=[(6,.mpt 0 0 0),(7,tL ([[73]]))]) (st0:=(sV a b c d e j i [])) (zl [0,1,2])<|u<|sx [0,1,2] (zI a b c d e j i ([[73]]) G)<|zx (env0:=[]) (st0:=(sV a b c d e o.1 o.2 [])) (zl [0,1,2])<|zo ?_;cases h;exact ⟨_,y,Xb [0,1,.dead,2]⟩
def zg(c:List za)(d:T2)(e:T0)(f:zb)(a:T1)(i:T1)(j:Bool)(b:zr):Option (T1×T1×Bool):=
  cond (UC b.Op 1 7) ((Hm c d e f a i j b).bind λE=>some (E.1,E.2.1,E.2.2)) (cond (b.Op == 13) ((zN c d e f a i j ([[73]])).bind λl=>(zG c d e f a l.1 l.2 [73]).bind λF=>some (a,F,l.2)) (cond (UC b.Op 8 19) ((zN c d e f a i j ([[73],[73]])).bind λm=>(zG c d e f a m.1 m.2 [73]).bind λG=>some (a,G,m.2)) (cond (b.Op == 20) (some (a,i,j)) (cond (UC b.Op 21 26) ((zN c d e f a i j ([[73]])).bind λn=>some (a,n.1,n.2)) (cond (UC b.Op 27 32) ((zN c d e f a i j ([[73],[73]])).bind λo=>some (a,o.1,o.2)) (cond (UC b.Op 33 34) ((D8 c d e f a i j).bind λp=>some (a,p.2.1,p.2.2)) (cond (UC b.Op 35 36) ((D8 c d e f a i j).bind λq=>(D8 c d e f a q.2.1 q.2.2).bind λs=>some (a,s.2.1,s.2.2)) (cond ((b.Op == 37)||(UC b.Op 38 41)) ((zev c d e f a i j b).bind λv=>some (a,v.1,v.2)) (cond (UC b.Op 42 45) ((ER c d e f a i j b).bind λx=>some (a,x.1,x.2)) (cond (UC b.Op 46 48) ((En c d e f a i j b.Op).bind λB=>some (a,B.1,B.2)) (cond (UC b.Op 49 55) ((Hl c d e f a i j b).bind λC=>some (a,C.1,C.2)) ((Wc c d e f a i j b).bind λD=>some (a,D.1,D.2)))))))))))))
theorem znQ(a:List za)(b:T2)(c:T0)(d:zb)(e:T1)(f:T1)(i:Bool)(j:zr){r:T1×T1×Bool}(h:zg a b c d e f i j=some r):SC prog 200 [.mpt 0 0 0,.agg (zn j)] (tV a b c d e f i []) (.tup []) [.one 15 (vK a b c d (.msl 3 0 (length r.1)) (.msl 4 0 (length r.2.1)) (bA r.2.2)),.no,.no,.many 1 (map Xe r.1),.many 1 (map Xe r.2.1)]:=by
 refine ⟨⟨t,t,t,Xw (sz:=1) (λ_=>y),Xw (sz:=1) (λ_=>y),t⟩,zZ func200 y kz y ?_⟩;refine A ?_;refine A ?_;refine zh<|A ?_;apply Xa h y<;>intro N h
 .obtain ⟨o,q2,h⟩:=bs h;refine A ?_;refine u<|sx [0,1,2] (zm1 a b c d e f i j q2)<|zx (env0:=[]) (st0:=[some (15,[(vK a b c d (.msl 3 0 (length o.1)) (.msl 4 0 (length o.2.1)) (bA o.2.2))]),none,none,sT o.1,sT o.2.1]) (zl [0,.dead,.dead,4,5])<|zo ?_;cases h;exact ⟨_,y,Xb [0,.dead,.dead,3,4]⟩
 .refine A ?_;apply Xa h y<;>intro O h
  .obtain ⟨l,q4,h⟩:=bs h;refine A ?_;refine zx (env0:=[(0,.mpt 0 0 0),(19,.mpt 0 0 0),(20,tL ([[73]]))]) (st0:=(sV a b c d e f i [])) (zl [0,1,2])<|u<|sx [0,1,2] (zI a b c d e f i ([[73]]) q4)<|zx (env0:=[(0,.mpt 0 0 0)]) (st0:=(sV a b c d e l.1 l.2 [])) (zl [0,1,2])<|zo ?_;obtain ⟨P,q5,h⟩:=bs h;refine rl y<|u<|mv y<|u<|sx [0,1,2] (zD a b c d e l.1 l.2 [73] q5)<|zx (env0:=[]) (st0:=(sU a b c d e P l.2 [])) (zl [0,1,.dead,3])<|zo ?_;cases h;exact ⟨_,y,Xb [0,.dead,.dead,1,3]⟩
  .refine A ?_;apply Xa h y<;>intro Q h
   .obtain ⟨m,q7,h⟩:=bs h;refine A ?_;refine zx (env0:=[(0,.mpt 0 0 0),(27,.mpt 0 0 0),(28,tL ([[73],[73]]))]) (st0:=(sV a b c d e f i [])) (zl [0,1,2])<|u<|sx [0,1,2] (zI a b c d e f i ([[73],[73]]) q7)<|zx (env0:=[(0,.mpt 0 0 0)]) (st0:=(sV a b c d e m.1 m.2 [])) (zl [0,1,2])<|zo ?_;obtain ⟨R,q8,h⟩:=bs h;refine rl y<|u<|mv y<|u<|sx [0,1,2] (zD a b c d e m.1 m.2 [73] q8)<|zx (env0:=[]) (st0:=(sU a b c d e R m.2 [])) (zl [0,1,.dead,3])<|zo ?_;cases h;exact ⟨_,y,Xb [0,.dead,.dead,1,3]⟩
   .refine A ?_;apply Xa h y<;>intro S h
    .refine zd ?_;cases h;exact ⟨_,y,Xb [0,.dead,.dead,1,2]⟩
    .refine A ?_;apply Xa h y<;>intro F h
     .obtain ⟨p,T,h⟩:=bs h;refine A ?_;refine zx (env0:=[(38,.mpt 0 0 0),(39,tL ([[73]]))]) (st0:=(sV a b c d e f i [])) (zl [0,1,2])<|u<|sx [0,1,2] (zI a b c d e f i ([[73]]) T)<|zx (env0:=[]) (st0:=(sV a b c d e p.1 p.2 [])) (zl [0,1,2])<|zo ?_;cases h;exact ⟨_,y,Xb [0,.dead,.dead,1,2]⟩
     .refine A ?_;apply Xa h y<;>intro G h
      .obtain ⟨q,U,h⟩:=bs h;refine A ?_;refine zx (env0:=[(44,.mpt 0 0 0),(45,tL ([[73],[73]]))]) (st0:=(sV a b c d e f i [])) (zl [0,1,2])<|u<|sx [0,1,2] (zI a b c d e f i ([[73],[73]]) U)<|zx (env0:=[]) (st0:=(sV a b c d e q.1 q.2 [])) (zl [0,1,2])<|zo ?_;cases h;exact ⟨_,y,Xb [0,.dead,.dead,1,2]⟩
      .refine A ?_;apply Xa h y<;>intro H h
       .obtain ⟨s,V,h⟩:=bs h;refine rl y<|u<|mv y<|u<|sx [0,1,2] (zea a b c d e f i V)<|zx (env0:=[]) (st0:=(sV a b c d e s.2.1 s.2.2 [])) (zl [0,1,2])<|zo ?_;cases h;exact ⟨_,y,Xb [0,.dead,.dead,1,2]⟩
       .refine A ?_;apply Xa h y<;>intro I h
        .obtain ⟨n,W,h⟩:=bs h;refine rg y<|u<|mv y<|u<|sx [0,1,2] (zea a b c d e f i W)<|zx (env0:=[(0,.mpt 0 0 0)]) (st0:=(sV a b c d e n.2.1 n.2.2 [])) (zl [0,1,2])<|zo ?_;obtain ⟨v,X,h⟩:=bs h;refine rl y<|u<|mv y<|u<|sx [0,1,2] (zea a b c d e n.2.1 n.2.2 X)<|zx (env0:=[]) (st0:=(sV a b c d e v.2.1 v.2.2 [])) (zl [0,1,2])<|zo ?_;cases h;exact ⟨_,y,Xb [0,.dead,.dead,1,2]⟩
        .refine A ?_;apply Xa h y<;>intro J h
         .obtain ⟨x,Y,h⟩:=bs h;refine A ?_;refine u<|sx [0,1,2] (zmr a b c d e f i j Y)<|zx (env0:=[]) (st0:=(sU a b c d e x.1 x.2 [])) (zl [0,1,.dead,4])<|zo ?_;cases h;exact ⟨_,y,Xb [0,.dead,.dead,1,3]⟩
         .refine A ?_;apply Xa h y<;>intro K h
          .obtain ⟨B,Z,h⟩:=bs h;refine A ?_;refine u<|sx [0,1,2] (zm0 a b c d e f i j Z)<|zx (env0:=[]) (st0:=(sU a b c d e B.1 B.2 [])) (zl [0,1,.dead,4])<|zo ?_;cases h;exact ⟨_,y,Xb [0,.dead,.dead,1,3]⟩
          .refine A ?_;apply Xa h y<;>intro L h
           .obtain ⟨C,q25,h⟩:=bs h;refine rl y<|u<|mv y<|u<|mv y<|u<|sx [0,1,2] (znR a b c d e f i j.Op q25)<|zx (env0:=[]) (st0:=(sV a b c d e C.1 C.2 [])) (zl [0,1,2])<|zo ?_;cases h;exact ⟨_,y,Xb [0,.dead,.dead,1,2]⟩
           .refine A ?_;apply Xa h y<;>intro M h
            .obtain ⟨D,q27,h⟩:=bs h;refine A ?_;refine u<|sx [0,1,2] (zlH a b c d e f i j q27)<|zx (env0:=[]) (st0:=(sU a b c d e D.1 D.2 [])) (zl [0,1,.dead,4])<|zo ?_;cases h;exact ⟨_,y,Xb [0,.dead,.dead,1,3]⟩
            .obtain ⟨E,q28,h⟩:=bs h;refine A ?_;refine u<|sx [0,1,2] (zm2 a b c d e f i j q28)<|zx (env0:=[]) (st0:=(sU a b c d e E.1 E.2 [])) (zl [0,1,.dead,4])<|zo ?_;cases h;exact ⟨_,y,Xb [0,.dead,.dead,1,3]⟩
def zlG(b:T1)(c:T1)(a:Bool):Option (Bool):=
  some (!a)
def O3(e:zb)(b:Int)(c:zr)(a:T1×T1×Bool)(d:Bool):zL (T1×T1×Bool×Bool×Int) (T1×T1×Bool) (Bool):=
  some (.inl (a.1,a.2.1,(d||(!(decide (((length a.2.1):Int)≤e.Stack)))),(!(GC c.Op)),(i64.wrap (b+1))))
def Ku(i:T0)(d:zJ)(e:zb)(j:T1)(m:T1)(n:Bool)(o:Bool)(a:Int):zL (T1×T1×Bool×Bool×Int) (T1×T1×Bool) (Bool):=
  cond (decide (a<(length e.Code:Int))) ((idx e.Code a).bind λf=>(zfU d.l d.at_ i e j m n a o).bind λb=>cond b.2.2 (some (.inr (.inr false))) ((zew d.l d.at_ i e b.1 b.2.1 b.2.2 a).bind λp=>(zg d.l d.at_ i e b.1 b.2.1 p f).bind λc=>cond (UN f.Op) ((EP d.l d.at_ i e c.1 c.2.1 c.2.2 f.A).bind λq=>O3 e a f c q) (O3 e a f c c.2.2))) (some (.inr (.inl (j,m,n))))
def zq4(e:T0)(f:zJ)(i:zb)(a:Bool)(c:Bool)(d:T1):Option (Bool):=
  (zp (λz=>Ku e f i z.1 z.2.1 z.2.2.1 z.2.2.2.1 z.2.2.2.2) (d,[],(a||(!c)),true,0)).bind λo=>zH o (λb=>zlG b.1 b.2.1 b.2.2) some
def zjD(c:zb)(a:T1):zL (T1) (T1) (Bool):=
  cond (decide (((length a):Int)<c.Locals)) ((Xx 16 a ([[84]])).bind λb=>some (.inl b)) (some (.inr (.inl a)))
def zgH(i:T0)(j:zJ)(a:zb)(c:Bool)(d:Bool)(e:T1):Option (Bool):=
  (Xx 16 e a.Params).bind λf=>(zp (λz=>zjD a z) f).bind λo=>zH o (λb=>zq4 i j a c d b) some
def zgG(e:T0)(a:zJ)(b:zb)(c:Bool):Option (Bool):=
  (ziz b.Params a.l a.at_).bind λd=>cond (!b.Static) ((Xx 16 ([]:T1) [e]).bind λf=>zgH e a b c d f) (zgH e a b c d [])
def zjC(d:T0)(b:zJ)(a:zb)(c:Bool):Option (Bool):=
  cond (a.Ret == [86]) (zgG d b a (c||(!true))) ((H1 b.l b.at_ a.Ret a.Ret).bind λe=>zgG d b a (c||(!e)))
def Bb(b:zJ)(e:zb)(c:Bool)(a:Int):zL (Bool×Int) (Bool) (Bool):=
  cond (decide (a<(length e.Maps:Int))) ((idx e.Maps a).bind λd=>(Ot d.Locals b.l b.at_).bind λf=>(cond f ((Ot d.Stack b.l b.at_).bind λi=>some i) (some false)).bind λj=>some (.inl ((c||(!j)),(i64.wrap (a+1))))) (some (.inr (.inl c)))
def KN(i:Option zJ)(e:T0)(a:Int):Option (Bool):=
  Um i (none) (λc=>(zQ c.l c.at_ e).bind λd=>(cond (((!d.2)||(decide (a<0)))||(decide ((length d.1.Methods:Int)≤a))) (some true) ((idx d.1.Methods a).bind λj=>some j.Abstract)).bind λm=>cond m (some false) ((idx d.1.Methods a).bind λf=>(zp (λz=>Bb c f z.1 z.2) (false,0)).bind λo=>zH o (λb=>zjC e c f b) some))
theorem D5(M:Option zJ)(d:T0)(T:Int){r:Bool}(h:KN M d T=some r):Xm prog 118 [XB 2 Zu M,sA d,iA T] (bA r):=by
 refine zi func118 y kz y y ?_;unfold KN at h
 rcases M with _ |a
 .replace h:=oeN h;cases h
 .replace h:=oeS h;refine A ?_;obtain ⟨v5,q1,h⟩:=bs h;refine rg y<|u<|ld ti y y<|u<|mv y<|u<|pc (zjf a.l a.at_ d q1) y y y<|u<|mv y<|u<|ex y y<|u<|ex y y<|u<|al 1 ti y<|u<|sto ti y y y<|u<|asg y<|zo ?_;refine ze ?_;obtain ⟨v7,q6,h⟩:=bs h;refine A ?_;apply Xa h y<;>intro U h
  .refine A ?_;exact RT0
  .refine zd ?_;obtain ⟨c,q8,h⟩:=bs h;refine rdA [(1,sA d),(3,.mpt 0 0 0),(9,.mpt 1 0 0)] [some (1,[[.ipt 2 [[cL a.l,mI a.at_]] 0 0]]),some (15,[(vK a.l a.at_ d c (nS) (nS) (bA false))])] [8] [0,1,2,3,4,5,6,7] [(50,_),(49,_),(48,_),(47,_),(46,_),(45,_),(44,_),(43,_)] 1 (Xj (z:=by exact ⟨(λ_ _=>⟨_,y,y,bx 2 15 y y y y<|⟨(.mpt 2 0 0),[9],[(9,_),(51,_)],y,y,y,y,Xk (z:=Xd [0,2])⟩⟩),t⟩)) ?_;refine ze<|A ?_;obtain ⟨o,ho,h⟩:=bs h;refine lpB ho (λz=>[(1,sA d),(3,.mpt 0 0 0),(9,.mpt 1 0 0),(56,.isl 3 (map zA c.Maps)),(57,iA (length c.Maps:Int)),(58,iA z.2)]) (λz=>[some (1,[[.ipt 2 [[cL a.l,mI a.at_]] 0 0]]),some (15,[(vK a.l a.at_ d c (.msl 2 0 0) (.msl 3 0 0) (bA z.1))]),some (1,map Xe []),some (1,map Xe [])]) (λb=>[(1,sA d),(3,.mpt 0 0 0),(9,.mpt 1 0 0)]) (λb=>[some (1,[[.ipt 2 [[cL a.l,mI a.at_]] 0 0]]),some (15,[(vK a.l a.at_ d c (.msl 2 0 0) (.msl 3 0 0) (bA b))]),some (1,map Xe []),some (1,map Xe [])]) (pG f118 bA) ⟨[0,1,.fresh 1,.fresh 1],ce y y<|cv y (.mpt y)<|cv y (.mpt y)<|ce y y<|ce y y<|ce y y<|cn,y,⟨⟨_,y,XG ⟨ci y,t⟩⟩,⟨_,y,XG (Gp y (by exact ⟨.nilown y,.nilown y,ci y,t⟩))⟩,w,w,t⟩,y,k⟩ ?_ ?_
   .rintro ⟨G,V⟩ r h;refine A ?_;refine ze ?_;apply Xa h y<;>intro N h
    .refine zd<|ze<|zh ?_;obtain ⟨H,q16,h⟩:=bs h;refine A ?_;refine A ?_;obtain ⟨v18,W,E,B,h⟩:=bs2 h;refine A ?_;refine u<|pcs (zmp H.Locals a.l a.at_ W) y y (.cons (si y) (.cons (Zt t ⟨(XO y ⟨(si y),t⟩),t⟩) .nil)) XD<|u<|mv y<|X1 (x:=E) (j:=5) 4 y y y y y gpn (λv=>by replace B:=bT v B;obtain ⟨v19,Y,B⟩:=bs B;obtain rfl:=sm B;exact g y v<|fa ti y y y<|g y v<|ld ti y y<|g y v<|mv y<|g y v<|pcs (zmp H.Stack a.l a.at_ Y) y y (.cons (si y) (.cons (Zt t ⟨(XO y ⟨(si y),t⟩),t⟩) .nil)) XD<|zo (eg [69,70,71,72] 4 y y y y)) (λhb=>(sm (bF hb B)).symm)<|u<|sx [1,2,3] (zw a.l a.at_ d c [] [] G E y)<|zx (env0:=[(1,sA d),(3,.mpt 0 0 0),(9,.mpt 1 0 0),(56,.isl 3 (map zA c.Maps)),(57,iA (length c.Maps:Int)),(58,iA V)]) (st0:=[some (1,[[.ipt 2 [[cL a.l,mI a.at_]] 0 0]]),some (15,[(vK a.l a.at_ d c (.msl 2 0 0) (.msl 3 0 0) (bA (G||(!E))))]),some (1,map Xe []),some (1,map Xe [])]) (zl [0,1,2,3])<|zo ?_;refine A ?_;cases h;exact ⟨_,y,zl [0,1,2,3]⟩
    .refine zs ?_;cases h;exact ⟨y,_,y,zl [0,1,2,3]⟩
   .rintro D rfl;refine zm ?_;refine Xz (X:=Bool) (λz=>[(1,sA d),(3,.mpt 0 0 0),(9,.mpt 1 0 0)]) (λz=>[some (1,[[.ipt 2 [[cL a.l,mI a.at_]] 0 0]]),some (15,[(vK a.l a.at_ d c (.msl 2 0 0) (.msl 3 0 0) (bA z))]),some (1,map Xe []),some (1,map Xe [])]) (λz=>zgG d a c z=some r) ?_ ?_
    .rcases bb (c.Ret == [86]) with e |e
     .replace h:=bT e h;exact rdQ [21] [0,1,2,3,4,5,6,7,8,9,10,11,12,13,14,15,16,17,18,19,20] [(96,_),(95,_),(94,_),(93,_),(92,_),(91,_),(90,_),(89,_),(88,_),(87,_),(86,_),(85,_),(84,_),(83,_),(82,_),(81,_),(80,_),(79,_),(78,_),(77,_),(76,_)] 1 (Xj (z:=by exact ⟨(λ_ _=>⟨_,y,y,sc [1,2,3] (args:=[.mpt 1 0 0,bA true]) (zw a.l a.at_ d c [] [] D true y) y y y y ⟨(.mpt y),(rnI y),t⟩ ⟨⟨_,y,(KA y ⟨(.msl y),(.msl y),(rnI y),t⟩)⟩,⟨y,mkI (λ_=>y)⟩,⟨y,mkI (λ_=>y)⟩,t⟩<|⟨(.tup []),[],[(97,_)],y,y,y,y,Xk (z:=by exact ⟨(D||(!true)),h,Xd [0,1,2,3]⟩)⟩⟩),t⟩))
     .replace h:=bF e h;obtain ⟨C,Z,h⟩:=bs h;exact Gk [21] [20,19,18,17,16,15,14,13,12,11,10,9,8,7,6,5,4,3,2,1,0] [(96,bA C),(95,bA C),(94,sA c.Ret),(93,.mpt 1 0 4),(92,.mpt 1 0 2),(91,.mpt 1 0 0),(90,.mpt 1 0 0),(89,sA c.Ret),(88,.mpt 1 0 4),(87,.mpt 1 0 2),(86,.mpt 1 0 0),(85,.mpt 1 0 0),(84,.ipt 2 [[cL a.l,mI a.at_]] 0 0),(83,bA (c.Ret == [86])),(82,bA (c.Ret == [86])),(81,sA c.Ret),(80,.mpt 1 0 4),(79,.mpt 1 0 2),(78,.mpt 1 0 0),(77,.mpt 1 0 0),(76,.mpt 1 0 0)] 1 kz kz y kz (X5 ⟨pe,(λ_=>pag (b:=(c.Ret == [86])) y y y y e y (pc (EM a.l a.at_ c.Ret c.Ret Z) y y y<|w)),(λ_=>pag (b:=(c.Ret == [86])) y y y y e y (ld ti y y<|w)),(λ_=>pag (b:=(c.Ret == [86])) y y y y e y (fa ti y y y<|w)),(λ_=>pag (b:=(c.Ret == [86])) y y y y e y (fa ti y y y<|w)),pe,pe,(λ_=>pag (b:=(c.Ret == [86])) y y y y e y (ld ti y y<|w)),(λ_=>pag (b:=(c.Ret == [86])) y y y y e y (fa ti y y y<|w)),(λ_=>pag (b:=(c.Ret == [86])) y y y y e y (fa ti y y y<|w)),pe,pe,(λ_=>pag (b:=(c.Ret == [86])) y y y y e y (ld ti y y<|w)),pe,(pb y (seq ti y y w)),(pb y (ld ti y y w)),(pb y (fa ti y y y w)),(pb y (fa ti y y y w)),pe,pe,pe,t⟩ ⟨(λ_ _=>⟨_,y,y,sc [1,2,3] (args:=[.mpt 1 0 0,bA C]) (zw a.l a.at_ d c [] [] D C y) y y y y ⟨(.mpt y),(rnI y),t⟩ ⟨⟨_,y,(KA y ⟨(.msl y),(.msl y),(rnI y),t⟩)⟩,⟨y,mkI (λ_=>y)⟩,⟨y,mkI (λ_=>y)⟩,t⟩<|⟨(.tup []),[],[(97,.tup [])],y,y,kz,y,ZC ⟨pe,pe,(λ_=>pag (b:=(c.Ret == [86])) y y y y e y (ld ti y y<|w)),(λ_=>pag (b:=(c.Ret == [86])) y y y y e y (fa ti y y y<|w)),(λ_=>pag (b:=(c.Ret == [86])) y y y y e y (fa ti y y y<|w)),pe,pe,(λ_=>pag (b:=(c.Ret == [86])) y y y y e y (ld ti y y<|w)),(λ_=>pag (b:=(c.Ret == [86])) y y y y e y (fa ti y y y<|w)),(λ_=>pag (b:=(c.Ret == [86])) y y y y e y (fa ti y y y<|w)),pe,pe,(λ_=>pag (b:=(c.Ret == [86])) y y y y e y (ld ti y y<|w)),pe,(pb y (seq ti y y w)),(pb y (ld ti y y w)),(pb y (fa ti y y y w)),(pb y (fa ti y y y w)),pe,pe,pe,t⟩ ⟨(D||(!C)),h,zl [0,1,2,3]⟩⟩⟩),t⟩)
    .rintro p h;obtain ⟨q,q23,h⟩:=bs h;refine A ?_;refine u<|pcs (zmJ c.Params a.l a.at_ q23) y y (.cons (si y) (.cons (Zt t ⟨(XO y ⟨(si y),t⟩),t⟩) .nil)) XD<|u<|sx [1,2,3] (zw a.l a.at_ d c [] [] p q y)<|zx (env0:=[(1,sA d),(9,.mpt 0 0 0)]) (st0:=[some (15,[(vK a.l a.at_ d c (.msl 1 0 0) (.msl 2 0 0) (bA (p||(!q))))]),some (1,map Xe []),some (1,map Xe [])]) (zl [1,2,3])<|zo ?_;refine Xz (X:=T1) (λz=>[(9,.mpt 0 0 0)]) (λz=>[some (15,[(vK a.l a.at_ d c (.msl 1 0 (length z)) (.msl 2 0 0) (bA (p||(!q))))]),sT z,some (1,map Xe [])]) (λz=>zgH d a c p q z=some r) ?_ ?_
     .refine A ?_;apply Xa h y<;>intro O h
      .obtain ⟨v25,q25,h⟩:=bs h;refine A ?_;refine u<|apM 4 ti y ti y y (by decide) ti y y y y (roX (f:=Xe) (z:=[d]) y y) (λ_=>y) y q25<|A ?_;exact (⟨v25,h,zl [0,4,2]⟩)
      .refine zd ?_;exact ⟨[],h,zl [0,1,2]⟩
     .rintro v26 h;obtain ⟨F,q26,h⟩:=bs h;refine rdA [(9,_)] [some (15,[(vK a.l a.at_ d c (.msl 1 0 (length F)) (.msl 2 0 0) (bA (p||(!q))))]),sT F,some (1,map Xe [])] [10,13] [0,1,2,3,4,5,6,7,8,9] [(132,_),(131,_),(130,_),(129,_),(128,_),(127,_),(126,_),(125,_),(124,_),(123,_)] 2 (Xj (z:=by exact ⟨(λ_ _=>⟨_,y,y,apM 3 ti y ti y y (by decide) ti y y y y roI (λ_=>y) y q26<|⟨(.msl 3 0 (length F)),[11,12],[(135,_),(134,_),(133,_)],y,y,y,y,Xj (z:=by exact ⟨nv,(λ_ _=>⟨_,y,y,sto ti y y y<|⟨.any,[],[],y,y,y,t,Xk (z:=Xd [0,3,2])⟩⟩),t⟩)⟩⟩),nw,t⟩)) ?_;obtain ⟨o,ho,h⟩:=bs h;refine lpA ho (λz=>[(9,.mpt 0 0 0)]) (λz=>[some (15,[(vK a.l a.at_ d c (.msl 1 0 (length z)) (.msl 2 0 0) (bA (p||(!q))))]),sT z,some (1,map Xe [])]) (λb=>[(9,.mpt 0 0 0)]) (λb=>[some (15,[(vK a.l a.at_ d c (.msl 1 0 (length b)) (.msl 2 0 0) (bA (p||(!q))))]),sT b,some (1,map Xe [])]) (pG f118 bA) (Xd [0,1,2]) ?_ ?_
      .rintro I r h;refine ze ?_;refine rdA [(9,_),(146,_)] [some (15,[(vK a.l a.at_ d c (.msl 1 0 (length I)) (.msl 2 0 0) (bA (p||(!q))))]),sT I,some (1,map Xe [])] [] [0,1,2,3,4,5,6,7,8,9,10] [(146,_),(145,_),(144,_),(143,_),(142,_),(141,_),(140,_),(139,_),(138,_),(137,_),(136,_)] 0 (Xk (z:=Xd [0,1,2])) ?_;apply Xa h y<;>intro P h
       .refine zd<|zh ?_;obtain ⟨v31,q30,h⟩:=bs h;refine A ?_;refine u<|apM 4 ti y ti y y (by decide) ti y y y y (roX (f:=Xe) (z:=[[84]]) y y) (λ_=>y) y q30<|A ?_;cases h;exact ⟨_,y,zl [0,4,2]⟩
       .refine zs ?_;cases h;exact ⟨y,_,y,zl [0,1,2]⟩
      .rintro v32 rfl;refine A ?_;refine ze<|A ?_;obtain ⟨o,ho,h⟩:=bs h;refine lpB ho (λz=>[(9,.mpt 0 0 0),(13,bA z.2.2.2.1),(160,.isl 4 (map zn c.Code)),(161,iA (length c.Code:Int)),(162,iA z.2.2.2.2)]) (λz=>(sV a.l a.at_ d c z.1 z.2.1 z.2.2.1 [])) (λb=>[(9,.mpt 0 0 0)]) (λb=>(sV a.l a.at_ d c b.1 b.2.1 b.2.2 [])) (pG f118 bA) (Xd [0,1,2]) ?_ ?_
       .rintro ⟨v44,v45,v46,v47,s⟩ r h;refine A ?_;refine ze ?_;apply Xa h y<;>intro Q h
        .refine zd<|ze<|zh ?_;obtain ⟨n,q40,h⟩:=bs h;refine A ?_;obtain ⟨m,q41,h⟩:=bs h;refine A ?_;refine u<|sx [0,1,2] (zmq a.l a.at_ d c v44 v45 v46 s v47 q41)<|zx (env0:=[(9,.mpt 0 0 0),(14,iA s),(15,.mpt 3 0 0),(160,.isl 4 (map zn c.Code)),(161,iA (length c.Code:Int)),(162,iA s)]) (st0:=(sV a.l a.at_ d c m.1 m.2.1 m.2.2 [some (4,[(zn n)])])) (zl [0,4,5,3])<|zo ?_;refine ze<|A ?_;apply Xa h y<;>intro R h
         .refine A ?_;refine zy ?_;cases h;exact ⟨_,y,_,y,Xb []⟩
         .refine zd ?_;obtain ⟨J,q43,h⟩:=bs h;refine rg y<|u<|mv y<|u<|mv y<|u<|sx [0,1,2] (zmt a.l a.at_ d c m.1 m.2.1 m.2.2 s q43)<|zx (env0:=[(9,.mpt 0 0 0),(15,.mpt 3 0 0),(160,.isl 4 (map zn c.Code)),(161,iA (length c.Code:Int)),(162,iA s)]) (st0:=(sV a.l a.at_ d c m.1 m.2.1 J [some (4,[(zn n)])])) (zl [0,1,2,3])<|zo ?_;obtain ⟨i,q44,h⟩:=bs h;refine A ?_;refine u<|sx [0,1,2] (znQ a.l a.at_ d c m.1 m.2.1 J n q44)<|zx (env0:=[(9,.mpt 0 0 0),(15,.mpt 3 0 0),(160,.isl 4 (map zn c.Code)),(161,iA (length c.Code:Int)),(162,iA s)]) (st0:=(sV a.l a.at_ d c i.1 i.2.1 i.2.2 [some (4,[(zn n)])])) (zl [0,4,5,3])<|zo ?_;refine Xz (X:=Bool) (λz=>[(9,.mpt 0 0 0),(15,.mpt 3 0 0),(160,.isl 4 (map zn c.Code)),(161,iA (length c.Code:Int)),(162,iA s)]) (λz=>(sV a.l a.at_ d c i.1 i.2.1 z [some (4,[(zn n)])])) (λz=>O3 c s n i z=some r) ?_ ?_
          .refine A ?_;apply Xa h y<;>intro S h
           .obtain ⟨K,q46,h⟩:=bs h;refine XA [(9,_),(15,_),(160,_),(161,_),(162,_)] (sV a.l a.at_ d c i.1 i.2.1 K [some (4,[(zn n)])]) [7] [0,1,2,3,4,5,6] [(190,_),(189,_),(188,_),(187,_),(186,_),(185,_),(184,_)] 1 (Xj (z:=by exact ⟨(λ_ _=>⟨_,y,y,sx [0,1,2] (ziK a.l a.at_ d c i.1 i.2.1 i.2.2 n.A q46)<|⟨(.tup []),[],[(191,_)],y,y,y,y,Xk (z:=Xd [0,1,2,3])⟩⟩),t⟩)) ?_;exact ⟨K,h,zl [0,1,2,3]⟩
           .refine zd ?_;exact ⟨i.2.2,h,zl [0,1,2,3]⟩
          .rintro L h;refine rdA [(9,_),(15,_),(160,_),(161,_),(162,_)] (sV a.l a.at_ d c i.1 i.2.1 (L||(!(decide (((length i.2.1):Int)≤c.Stack)))) [some (4,[(zn n)])]) [12] [0,1,2,3,4,5,6,7,8,9,10,11] [(203,_),(202,_),(201,_),(200,_),(199,_),(198,_),(197,_),(196,_),(195,_),(194,_),(193,_),(192,_)] 1 (Xj (z:=by exact ⟨(λ_ _=>⟨_,y,y,sx [0,1,2] (zw a.l a.at_ d c i.1 i.2.1 L (decide (((length i.2.1):Int)≤c.Stack)) y)<|⟨(.tup []),[],[(204,_)],y,y,y,y,Xk (z:=Xd [0,1,2,3])⟩⟩),t⟩)) ?_;refine A ?_;refine A ?_;cases h;exact ⟨_,y,zl [0,1,2]⟩
        .refine zs ?_;cases h;exact ⟨y,_,y,zl [0,1,2]⟩
       .rintro ⟨v55,v56,v57⟩ rfl;refine zm<|A ?_;exact RT0
instance (a:Option zJ)(b:T0)(c:Int):PF prog 118 [XB 2 Zu a,sA b,iA c] (KN a b c) bA:=⟨λ_=>D5 a b c⟩
def zrt(a:(Option zJ)×Int):Option ((Option zJ)×Int):=
  some (a.1,0)
def zm8(a:Int):zL (Int) (Unit) ((Option zJ)×Int):=
  some (.inl (i64.wrap (a+1)))
def Ee(f:(Option zJ)×Int)(b:za)(a:Int):zL (Int) (Unit) ((Option zJ)×Int):=
  cond (decide (a<(length b.Methods:Int))) ((idx b.Methods a).bind λc=>(cond (!c.Abstract) ((KN f.1 b.Name a).bind λd=>some (!d)) (some false)).bind λe=>cond e (some (.inr (.inr (none,5)))) (some (.inl (i64.wrap (a+1))))) (some (.inr (.inl ())))
def Ed(c:List za)(e:(Option zJ)×Int)(a:Int):zL (Int) (Unit) ((Option zJ)×Int):=
  cond (decide (a<(length c:Int))) ((idx c a).bind λd=>(zp (λz=>Ee e d z) 0).bind λo=>zH o (λb=>zm8 a) (λr=>some (.inr (.inr r)))) (some (.inr (.inl ())))
def DP(d:List za)(e:XW):Option ((Option zJ)×Int):=
  (DH d).bind λa=>cond (!(a.2 == 0)) (some (none,a.2)) ((DX a.1).bind λf=>cond (!(f == 0)) (some (none,f)) ((IY a.1 e.C e.M).bind λc=>cond ((((!c.2.2)||(!c.2.1.Static))||(decide (0<(length c.2.1.Params:Int))))||(!(c.2.1.Ret == [86]))) (some (none,4)) ((zp (λz=>Ed d a z) 0).bind λo=>zH o (λb=>zrt a) some)))
theorem zik(d:List za)(i:XW){r:(Option zJ)×Int}(h:DP d i=some r):Xm prog 42 [cL d,.agg (Uj i)] (.tup [XB 2 Zu r.1,iA r.2]):=by
 refine zi func42 y kz y (zxy (Z5 (Zs (λ_=>y)) (y))) ?_;refine A ?_;obtain ⟨e,L,h⟩:=bs h;refine A ?_;refine ze<|A ?_;apply Xa h y<;>intro q h
 .refine A ?_;exact RT0
 .refine zd<|ze ?_;obtain ⟨N,F,h⟩:=bs h;refine rg y<|u<|mv y<|u<|pc (zhG e.1 F) y y (Z5 (Zs (λ_=>y)) (y))<|A ?_;refine A ?_;apply Xa h y<;>intro s h
  .refine A ?_;exact RT0
  .refine zd<|ze ?_;obtain ⟨O,G,h⟩:=bs h;refine A ?_;refine u<|pc (zov e.1 i.C i.M G) y y (Z5 (Zs (λ_=>y)) (y))<|A ?_;refine A ?_;apply Xa h y<;>intro v h
   .refine A ?_;exact RT0
   .refine zd<|ze<|A ?_;obtain ⟨o,ho,h⟩:=bs h;refine lpB ho (λz=>[(6,XB 2 Zu e.1),(57,cL d),(58,iA (length d:Int)),(59,iA z)]) (λz=>[]) (λb=>[(6,XB 2 Zu e.1)]) (λb=>[]) (pG f42 (λr=>.tup [XB 2 Zu r.1,iA r.2])) (Xd []) ?_ ?_
    .rintro l r h;refine A ?_;refine ze ?_;apply Xa h y<;>intro m h
     .refine zd<|ze<|zh ?_;obtain ⟨f,H,h⟩:=bs h;refine A ?_;refine A ?_;obtain ⟨o,ho,h⟩:=bs h;refine lpS ho (λz=>[(6,XB 2 Zu e.1),(13,.mpt 0 0 0),(57,cL d),(58,iA (length d:Int)),(59,iA l),(64,.isl 10 (map zc f.Methods)),(65,iA (length f.Methods:Int)),(66,iA z)]) (λz=>[some (6,[(zf f)])]) (λb=>[(6,XB 2 Zu e.1),(57,cL d),(58,iA (length d:Int)),(59,iA l)]) (λb=>[]) (pG f42 (λr=>.tup [XB 2 Zu r.1,iA r.2])) (Xd [0]) ?_ ?_ ?_
      .rintro B r h;refine A ?_;refine ze ?_;apply Xa h y<;>intro n h
       .refine zd<|ze<|zh ?_;obtain ⟨I,J,h⟩:=bs h;refine A ?_;obtain ⟨D,c,h⟩:=bs h;refine A ?_;refine X1 (x:=D) (j:=3) 6 y y y y y gpn (λa=>by replace c:=bT a c;obtain ⟨K,E,c⟩:=bs c;obtain rfl:=sm c;exact g y a<|mv y<|g y a<|fa ti y y y<|g y a<|ld ti y y<|g y a<|mv y<|g y a<|pc (D5 e.1 f.Name B E) y y (Z5 (Zs (λ_=>y)) (y))<|g y a<|nt y<|zo (eg [75,76,77,78,79,80] 6 y y y y)) (λhb=>(sm (bF hb c)).symm)<|zo ?_;apply Xa h y<;>intro p h
        .refine A ?_;refine zy ?_;cases h;exact ⟨_,y,_,y,Xb []⟩
        .refine zd<|A ?_;cases h;exact ⟨_,y,zl [0]⟩
       .refine zs ?_;cases h;exact ⟨y,_,y,zl []⟩
      .rintro ⟨⟩ rfl;refine zm<|A ?_;cases h;exact ⟨_,y,zl []⟩
      .rintro r' rfl env st hp;cases h;exact ⟨_,y,hp⟩
     .refine zs ?_;cases h;exact ⟨y,_,y,zl []⟩
    .rintro ⟨⟩ rfl;refine zm<|A ?_;exact RT0
instance (a:List za)(b:XW):PF prog 42 [cL a,.agg (Uj b)] (DP a b) (λr=>(.tup [XB 2 Zu r.1,iA r.2])):=⟨λ_=>zik a b⟩
def zn3:Bool:=
  true
theorem zpv{r:Bool}(h:zn3=r):Xm prog 117 [] (bA r):=by
 refine zi func117 y kz y y ?_;unfold zn3 at h;refine A ?_;refine rg y<|u<|pc (ztN y) y y y<|u<|asg y<|zo ?_;refine zy ?_;obtain rfl:=h;exact ⟨_,y,Xb []⟩
instance:PF prog 117 [] (some (zn3)) bA:=.of λ_=>zpv 
def zoQ:Option (Bool):=
  (DH ([(za.mk [70,97,99,101] [79,98,106,101,99,116] true [] [] ([(zb.mk [102] [] [73] false true 0 0 [] [] [])])),(za.mk [65,97] [79,98,106,101,99,116] false ([[70,97,99,101]]) ([(zj.mk [120] [73] false),(zj.mk [115] [73] true)]) ([(zb.mk [102] [] [73] false false 1 1 ([(zr.mk 1 5 [] []),(zr.mk 47 0 [] [])]) [] [])])),(za.mk [66,98] [65,97] false [] ([(zj.mk [121] [91,65,97] false)]) ([(zb.mk [109,97,105,110] [] [86] true false 0 0 ([(zr.mk 46 0 [] [])]) [] [])]))])).bind λa=>(DH ([(za.mk [70,97,99,101] [79,98,106,101,99,116] true [] [] ([(zb.mk [102] [] [73] false true 0 0 [] [] [])])),(za.mk [65,97] [79,98,106,101,99,116] false ([[70,97,99,101]]) ([(zj.mk [120] [73] false),(zj.mk [115] [73] true)]) ([(zb.mk [102] [] [73] false false 1 1 ([(zr.mk 2 0 [] []),(zr.mk 47 0 [] [])]) [] [])])),(za.mk [66,98] [65,97] false [] ([(zj.mk [121] [91,65,97] false)]) ([(zb.mk [109,97,105,110] [] [86] true false 0 0 ([(zr.mk 46 0 [] [])]) [] [])]))])).bind λb=>cond ((!(a.2 == 0))||(!(b.2 == 0))) (some false) ((cond (zn3) ((KN a.1 [65,97] 0).bind λj=>some j) (some false)).bind λl=>(cond l ((KN a.1 [66,98] 0).bind λm=>some m) (some false)).bind λn=>(cond n ((KN b.1 [65,97] 0).bind λo=>some (!o)) (some false)).bind λp=>(cond p ((KN a.1 [70,97,99,101] 0).bind λq=>some (!q)) (some false)).bind λc=>(cond c ((KN a.1 [65,97] 1).bind λd=>some (!d)) (some false)).bind λe=>(cond e ((KN a.1 [90,122] 0).bind λf=>some (!f)) (some false)).bind λi=>some i)
theorem zsI{r:Bool}(h:zoQ=some r):Xm prog 34 [] (bA r):=by
 refine zi func34 y kz y y<|A ?_;obtain ⟨f,H,h⟩:=bs h;refine rg y<|u<|sx [] (IZ y)<|zx (env0:=[(7,.msl 0 0 3)]) (st0:=[some (6,[[sA [70,97,99,101],sA [79,98,106,101,99,116],bA true,nS,nS,.msl 1 0 1],[sA [65,97],sA [79,98,106,101,99,116],bA false,.msl 2 0 1,.msl 3 0 2,.msl 4 0 1],[sA [66,98],sA [65,97],bA false,nS,.msl 6 0 1,.msl 7 0 1]]),some (10,[[sA [102],nS,sA [73],bA false,bA true,iA 0,iA 0,nS,nS,nS]]),some (1,[[sA [70,97,99,101]]]),some (3,[[sA [120],sA [73],bA false],[sA [115],sA [73],bA true]]),some (10,[[sA [102],nS,sA [73],bA false,bA false,iA 1,iA 1,.msl 5 0 2,nS,nS]]),some (4,[[iA 1,iA 5,sA [],sA []],[iA 47,iA 0,sA [],sA []]]),some (3,[[sA [121],sA [91,65,97],bA false]]),some (10,[[sA [109,97,105,110],nS,sA [86],bA true,bA false,iA 0,iA 0,.msl 8 0 1,nS,nS]]),some (4,[[iA 46,iA 0,sA [],sA []]])]) (zl [0,1,2,3,4,5,6,7,8])<|zx (env0:=[(7,.isl 6 (map zf ([(za.mk [70,97,99,101] [79,98,106,101,99,116] true [] [] ([(zb.mk [102] [] [73] false true 0 0 [] [] [])])),(za.mk [65,97] [79,98,106,101,99,116] false ([[70,97,99,101]]) ([(zj.mk [120] [73] false),(zj.mk [115] [73] true)]) ([(zb.mk [102] [] [73] false false 1 1 ([(zr.mk 1 5 [] []),(zr.mk 47 0 [] [])]) [] [])])),(za.mk [66,98] [65,97] false [] ([(zj.mk [121] [91,65,97] false)]) ([(zb.mk [109,97,105,110] [] [86] true false 0 0 ([(zr.mk 46 0 [] [])]) [] [])]))])))]) (st0:=[]) (zl [])<|u<|pc (zoN ([(za.mk [70,97,99,101] [79,98,106,101,99,116] true [] [] ([(zb.mk [102] [] [73] false true 0 0 [] [] [])])),(za.mk [65,97] [79,98,106,101,99,116] false ([[70,97,99,101]]) ([(zj.mk [120] [73] false),(zj.mk [115] [73] true)]) ([(zb.mk [102] [] [73] false false 1 1 ([(zr.mk 1 5 [] []),(zr.mk 47 0 [] [])]) [] [])])),(za.mk [66,98] [65,97] false [] ([(zj.mk [121] [91,65,97] false)]) ([(zb.mk [109,97,105,110] [] [86] true false 0 0 ([(zr.mk 46 0 [] [])]) [] [])]))]) H) y y y<|A ?_;refine rg y<|u<|sx [] (IZ y)<|zx (env0:=[(1,XB 2 Zu f.1),(2,iA f.2),(11,.msl 0 0 3)]) (st0:=[some (6,[[sA [70,97,99,101],sA [79,98,106,101,99,116],bA true,nS,nS,.msl 1 0 1],[sA [65,97],sA [79,98,106,101,99,116],bA false,.msl 2 0 1,.msl 3 0 2,.msl 4 0 1],[sA [66,98],sA [65,97],bA false,nS,.msl 6 0 1,.msl 7 0 1]]),some (10,[[sA [102],nS,sA [73],bA false,bA true,iA 0,iA 0,nS,nS,nS]]),some (1,[[sA [70,97,99,101]]]),some (3,[[sA [120],sA [73],bA false],[sA [115],sA [73],bA true]]),some (10,[[sA [102],nS,sA [73],bA false,bA false,iA 1,iA 1,.msl 5 0 2,nS,nS]]),some (4,[[iA 1,iA 5,sA [],sA []],[iA 47,iA 0,sA [],sA []]]),some (3,[[sA [121],sA [91,65,97],bA false]]),some (10,[[sA [109,97,105,110],nS,sA [86],bA true,bA false,iA 0,iA 0,.msl 8 0 1,nS,nS]]),some (4,[[iA 46,iA 0,sA [],sA []]])]) (zl [0,1,2,3,4,5,6,7,8])<|A ?_;refine rg y<|u<|mv y<|u<|ixX ti y ti y y y<|A ?_;refine u<|ixX ti y ti y y y<|A ?_;refine u<|ixX ti y ti y y y<|A ?_;obtain ⟨I,J,h⟩:=bs h;refine rg y<|u<|mv y<|zx (env0:=[(1,XB 2 Zu f.1),(2,iA f.2),(22,.isl 6 (map zf ([(za.mk [70,97,99,101] [79,98,106,101,99,116] true [] [] ([(zb.mk [102] [] [73] false true 0 0 [] [] [])])),(za.mk [65,97] [79,98,106,101,99,116] false ([[70,97,99,101]]) ([(zj.mk [120] [73] false),(zj.mk [115] [73] true)]) ([(zb.mk [102] [] [73] false false 1 1 ([(zr.mk 2 0 [] []),(zr.mk 47 0 [] [])]) [] [])])),(za.mk [66,98] [65,97] false [] ([(zj.mk [121] [91,65,97] false)]) ([(zb.mk [109,97,105,110] [] [86] true false 0 0 ([(zr.mk 46 0 [] [])]) [] [])]))])))]) (st0:=[]) (zl [])<|u<|pc (zoN ([(za.mk [70,97,99,101] [79,98,106,101,99,116] true [] [] ([(zb.mk [102] [] [73] false true 0 0 [] [] [])])),(za.mk [65,97] [79,98,106,101,99,116] false ([[70,97,99,101]]) ([(zj.mk [120] [73] false),(zj.mk [115] [73] true)]) ([(zb.mk [102] [] [73] false false 1 1 ([(zr.mk 2 0 [] []),(zr.mk 47 0 [] [])]) [] [])])),(za.mk [66,98] [65,97] false [] ([(zj.mk [121] [91,65,97] false)]) ([(zb.mk [109,97,105,110] [] [86] true false 0 0 ([(zr.mk 46 0 [] [])]) [] [])]))]) J) y y y<|A ?_;refine ze<|A ?_;apply Xa h y<;>intro s h
 .refine A ?_;exact RT0
 .refine zd ?_;obtain ⟨K,o,L,a,M,b,v,c,h⟩:=bs4 h;obtain ⟨B,d,C,e,h⟩:=bs2 h;refine rg y<|u<|pc (zpv y) y y y<|u<|mv y<|X1 (x:=K) (j:=1) 2 y y y y y gpn (λp=>by replace o:=bT p o;obtain ⟨R,N,o⟩:=bs o;obtain rfl:=sm o;exact g y p<|mv y<|g y p<|pc (D5 f.1 [65,97] 0 N) y y (Z5 (Zs (λ_=>y)) (y))<|zo (eg [34,35] 2 y y y y)) (λhb=>(sm (bF hb o)).symm)<|u<|mv y<|X1 (x:=L) (j:=5) 2 y y y y y gpn (λq=>by replace a:=bT q a;obtain ⟨S,O,a⟩:=bs a;obtain rfl:=sm a;exact g y q<|mv y<|g y q<|pc (D5 f.1 [66,98] 0 O) y y (Z5 (Zs (λ_=>y)) (y))<|zo (eg [38,39] 2 y y y y)) (λhb=>(sm (bF hb a)).symm)<|u<|mv y<|X1 (x:=M) (j:=9) 3 y y y y y gpn (λi=>by replace b:=bT i b;obtain ⟨T,D,b⟩:=bs b;obtain rfl:=sm b;exact g y i<|mv y<|g y i<|pc (D5 I.1 [65,97] 0 D) y y (Z5 (Zs (λ_=>y)) (y))<|g y i<|nt y<|zo (eg [42,43,44] 3 y y y y)) (λhb=>(sm (bF hb b)).symm)<|u<|mv y<|X1 (x:=v) (j:=14) 3 y y y y y gpn (λl=>by replace c:=bT l c;obtain ⟨U,E,c⟩:=bs c;obtain rfl:=sm c;exact g y l<|mv y<|g y l<|pc (D5 f.1 [70,97,99,101] 0 E) y y (Z5 (Zs (λ_=>y)) (y))<|g y l<|nt y<|zo (eg [47,48,49] 3 y y y y)) (λhb=>(sm (bF hb c)).symm)<|u<|mv y<|X1 (x:=B) (j:=19) 3 y y y y y gpn (λm=>by replace d:=bT m d;obtain ⟨P,F,d⟩:=bs d;obtain rfl:=sm d;exact g y m<|mv y<|g y m<|pc (D5 f.1 [65,97] 1 F) y y (Z5 (Zs (λ_=>y)) (y))<|g y m<|nt y<|zo (eg [52,53,54] 3 y y y y)) (λhb=>(sm (bF hb d)).symm)<|u<|mv y<|X1 (x:=C) (j:=24) 3 y y y y y gpn (λn=>by replace e:=bT n e;obtain ⟨Q,G,e⟩:=bs e;obtain rfl:=sm e;exact g y n<|mv y<|g y n<|pc (D5 f.1 [90,122] 0 G) y y (Z5 (Zs (λ_=>y)) (y))<|g y n<|nt y<|zo (eg [57,58,59] 3 y y y y)) (λhb=>(sm (bF hb e)).symm)<|u<|asg y<|zo ?_;exact RT0
instance:PF prog 34 [] (zoQ) bA:=⟨λ_=>zsI ⟩
def zoP:Option (Bool):=
  (zoQ).bind λa=>some a
theorem zsH{r:Bool}(h:zoP=some r):Xm prog 120 [] (bA r):=by
 refine zi func120 y kz y y<|A ?_;obtain ⟨a,b,h⟩:=bs h;refine A ?_;exact RT0
instance:PF prog 120 [] (zoP) bA:=⟨λ_=>zsH ⟩
def zl5:Option (Bool):=
  (DP ([(za.mk [70,97,99,101] [79,98,106,101,99,116] true [] [] ([(zb.mk [102] [] [73] false true 0 0 [] [] [])])),(za.mk [65,97] [79,98,106,101,99,116] false ([[70,97,99,101]]) ([(zj.mk [120] [73] false),(zj.mk [115] [73] true)]) ([(zb.mk [102] [] [73] false false 1 1 ([(zr.mk 1 5 [] []),(zr.mk 47 0 [] [])]) [] [])])),(za.mk [66,98] [65,97] false [] ([(zj.mk [121] [91,65,97] false)]) ([(zb.mk [109,97,105,110] [] [86] true false 0 0 ([(zr.mk 46 0 [] [])]) [] [])]))]) (XW.mk [66,98] [109,97,105,110])).bind λa=>(DP ([(za.mk [70,97,99,101] [79,98,106,101,99,116] true [] [] ([(zb.mk [102] [] [73] false true 0 0 [] [] [])])),(za.mk [65,97] [79,98,106,101,99,116] false ([[70,97,99,101]]) ([(zj.mk [120] [73] false),(zj.mk [115] [73] true)]) ([(zb.mk [102] [] [73] false false 1 1 ([(zr.mk 1 5 [] []),(zr.mk 47 0 [] [])]) [] [])])),(za.mk [66,98] [65,97] false [] ([(zj.mk [121] [91,65,97] false)]) ([(zb.mk [109,97,105,110] [] [86] true false 0 0 ([(zr.mk 46 0 [] [])]) [] [])]))]) (XW.mk [66,98] [102])).bind λb=>(DP ([(za.mk [70,97,99,101] [79,98,106,101,99,116] true [] [] ([(zb.mk [102] [] [73] false true 0 0 [] [] [])])),(za.mk [65,97] [79,98,106,101,99,116] false ([[70,97,99,101]]) ([(zj.mk [120] [73] false),(zj.mk [115] [73] true)]) []),(za.mk [66,98] [65,97] false [] ([(zj.mk [121] [91,65,97] false)]) ([(zb.mk [109,97,105,110] [] [86] true false 0 0 ([(zr.mk 46 0 [] [])]) [] [])]))]) (XW.mk [66,98] [109,97,105,110])).bind λc=>(zoP).bind λd=>(cond ((((d&&(a.2 == 0))&&(!Option.isNone a.1))&&(b.2 == 4))&&(c.2 == 1)) ((DX a.1).bind λe=>some (e == 0)) (some false)).bind λf=>some f
theorem zot{r:Bool}(h:zl5=some r):Xm prog 36 [] (bA r):=by
 refine zi func36 y kz y y<|A ?_;obtain ⟨b,i,h⟩:=bs h;refine rg y<|u<|sx [] (IZ y)<|zx (env0:=[(9,.msl 0 0 3)]) (st0:=[some (6,[[sA [70,97,99,101],sA [79,98,106,101,99,116],bA true,nS,nS,.msl 1 0 1],[sA [65,97],sA [79,98,106,101,99,116],bA false,.msl 2 0 1,.msl 3 0 2,.msl 4 0 1],[sA [66,98],sA [65,97],bA false,nS,.msl 6 0 1,.msl 7 0 1]]),some (10,[[sA [102],nS,sA [73],bA false,bA true,iA 0,iA 0,nS,nS,nS]]),some (1,[[sA [70,97,99,101]]]),some (3,[[sA [120],sA [73],bA false],[sA [115],sA [73],bA true]]),some (10,[[sA [102],nS,sA [73],bA false,bA false,iA 1,iA 1,.msl 5 0 2,nS,nS]]),some (4,[[iA 1,iA 5,sA [],sA []],[iA 47,iA 0,sA [],sA []]]),some (3,[[sA [121],sA [91,65,97],bA false]]),some (10,[[sA [109,97,105,110],nS,sA [86],bA true,bA false,iA 0,iA 0,.msl 8 0 1,nS,nS]]),some (4,[[iA 46,iA 0,sA [],sA []]])]) (zl [0,1,2,3,4,5,6,7,8])<|u<|bd ti y y y<|zx (env0:=[(9,.isl 6 (map zf ([(za.mk [70,97,99,101] [79,98,106,101,99,116] true [] [] ([(zb.mk [102] [] [73] false true 0 0 [] [] [])])),(za.mk [65,97] [79,98,106,101,99,116] false ([[70,97,99,101]]) ([(zj.mk [120] [73] false),(zj.mk [115] [73] true)]) ([(zb.mk [102] [] [73] false false 1 1 ([(zr.mk 1 5 [] []),(zr.mk 47 0 [] [])]) [] [])])),(za.mk [66,98] [65,97] false [] ([(zj.mk [121] [91,65,97] false)]) ([(zb.mk [109,97,105,110] [] [86] true false 0 0 ([(zr.mk 46 0 [] [])]) [] [])]))]))),(10,.agg [sA [66,98],sA [109,97,105,110]])]) (st0:=[]) (zl [])<|u<|pc (zik ([(za.mk [70,97,99,101] [79,98,106,101,99,116] true [] [] ([(zb.mk [102] [] [73] false true 0 0 [] [] [])])),(za.mk [65,97] [79,98,106,101,99,116] false ([[70,97,99,101]]) ([(zj.mk [120] [73] false),(zj.mk [115] [73] true)]) ([(zb.mk [102] [] [73] false false 1 1 ([(zr.mk 1 5 [] []),(zr.mk 47 0 [] [])]) [] [])])),(za.mk [66,98] [65,97] false [] ([(zj.mk [121] [91,65,97] false)]) ([(zb.mk [109,97,105,110] [] [86] true false 0 0 ([(zr.mk 46 0 [] [])]) [] [])]))]) (XW.mk [66,98] [109,97,105,110]) i) y y y<|A ?_;obtain ⟨e,l,h⟩:=bs h;refine rg y<|u<|sx [] (IZ y)<|zx (env0:=[(1,XB 2 Zu b.1),(2,iA b.2),(15,.msl 0 0 3)]) (st0:=[some (6,[[sA [70,97,99,101],sA [79,98,106,101,99,116],bA true,nS,nS,.msl 1 0 1],[sA [65,97],sA [79,98,106,101,99,116],bA false,.msl 2 0 1,.msl 3 0 2,.msl 4 0 1],[sA [66,98],sA [65,97],bA false,nS,.msl 6 0 1,.msl 7 0 1]]),some (10,[[sA [102],nS,sA [73],bA false,bA true,iA 0,iA 0,nS,nS,nS]]),some (1,[[sA [70,97,99,101]]]),some (3,[[sA [120],sA [73],bA false],[sA [115],sA [73],bA true]]),some (10,[[sA [102],nS,sA [73],bA false,bA false,iA 1,iA 1,.msl 5 0 2,nS,nS]]),some (4,[[iA 1,iA 5,sA [],sA []],[iA 47,iA 0,sA [],sA []]]),some (3,[[sA [121],sA [91,65,97],bA false]]),some (10,[[sA [109,97,105,110],nS,sA [86],bA true,bA false,iA 0,iA 0,.msl 8 0 1,nS,nS]]),some (4,[[iA 46,iA 0,sA [],sA []]])]) (zl [0,1,2,3,4,5,6,7,8])<|u<|bd ti y y y<|zx (env0:=[(1,XB 2 Zu b.1),(2,iA b.2),(15,.isl 6 (map zf ([(za.mk [70,97,99,101] [79,98,106,101,99,116] true [] [] ([(zb.mk [102] [] [73] false true 0 0 [] [] [])])),(za.mk [65,97] [79,98,106,101,99,116] false ([[70,97,99,101]]) ([(zj.mk [120] [73] false),(zj.mk [115] [73] true)]) ([(zb.mk [102] [] [73] false false 1 1 ([(zr.mk 1 5 [] []),(zr.mk 47 0 [] [])]) [] [])])),(za.mk [66,98] [65,97] false [] ([(zj.mk [121] [91,65,97] false)]) ([(zb.mk [109,97,105,110] [] [86] true false 0 0 ([(zr.mk 46 0 [] [])]) [] [])]))]))),(16,.agg [sA [66,98],sA [102]])]) (st0:=[]) (zl [])<|u<|pc (zik ([(za.mk [70,97,99,101] [79,98,106,101,99,116] true [] [] ([(zb.mk [102] [] [73] false true 0 0 [] [] [])])),(za.mk [65,97] [79,98,106,101,99,116] false ([[70,97,99,101]]) ([(zj.mk [120] [73] false),(zj.mk [115] [73] true)]) ([(zb.mk [102] [] [73] false false 1 1 ([(zr.mk 1 5 [] []),(zr.mk 47 0 [] [])]) [] [])])),(za.mk [66,98] [65,97] false [] ([(zj.mk [121] [91,65,97] false)]) ([(zb.mk [109,97,105,110] [] [86] true false 0 0 ([(zr.mk 46 0 [] [])]) [] [])]))]) (XW.mk [66,98] [102]) l) y y y<|A ?_;refine rg y<|u<|sx [] (IZ y)<|zx (env0:=[(1,XB 2 Zu b.1),(2,iA b.2),(4,iA e.2),(20,.msl 0 0 3)]) (st0:=[some (6,[[sA [70,97,99,101],sA [79,98,106,101,99,116],bA true,nS,nS,.msl 1 0 1],[sA [65,97],sA [79,98,106,101,99,116],bA false,.msl 2 0 1,.msl 3 0 2,.msl 4 0 1],[sA [66,98],sA [65,97],bA false,nS,.msl 6 0 1,.msl 7 0 1]]),some (10,[[sA [102],nS,sA [73],bA false,bA true,iA 0,iA 0,nS,nS,nS]]),some (1,[[sA [70,97,99,101]]]),some (3,[[sA [120],sA [73],bA false],[sA [115],sA [73],bA true]]),some (10,[[sA [102],nS,sA [73],bA false,bA false,iA 1,iA 1,.msl 5 0 2,nS,nS]]),some (4,[[iA 1,iA 5,sA [],sA []],[iA 47,iA 0,sA [],sA []]]),some (3,[[sA [121],sA [91,65,97],bA false]]),some (10,[[sA [109,97,105,110],nS,sA [86],bA true,bA false,iA 0,iA 0,.msl 8 0 1,nS,nS]]),some (4,[[iA 46,iA 0,sA [],sA []]])]) (zl [0,1,2,3,4,5,6,7,8])<|A ?_;refine rg y<|u<|mv y<|u<|ixX ti y ti y y y<|A ?_;obtain ⟨o,m,h⟩:=bs h;refine A ?_;refine zx (env0:=[(1,XB 2 Zu b.1),(2,iA b.2),(4,iA e.2),(25,.isl 6 (map zf ([(za.mk [70,97,99,101] [79,98,106,101,99,116] true [] [] ([(zb.mk [102] [] [73] false true 0 0 [] [] [])])),(za.mk [65,97] [79,98,106,101,99,116] false ([[70,97,99,101]]) ([(zj.mk [120] [73] false),(zj.mk [115] [73] true)]) []),(za.mk [66,98] [65,97] false [] ([(zj.mk [121] [91,65,97] false)]) ([(zb.mk [109,97,105,110] [] [86] true false 0 0 ([(zr.mk 46 0 [] [])]) [] [])]))]))),(26,.agg [sA [66,98],sA [109,97,105,110]])]) (st0:=[]) (zl [])<|u<|pc (zik ([(za.mk [70,97,99,101] [79,98,106,101,99,116] true [] [] ([(zb.mk [102] [] [73] false true 0 0 [] [] [])])),(za.mk [65,97] [79,98,106,101,99,116] false ([[70,97,99,101]]) ([(zj.mk [120] [73] false),(zj.mk [115] [73] true)]) []),(za.mk [66,98] [65,97] false [] ([(zj.mk [121] [91,65,97] false)]) ([(zb.mk [109,97,105,110] [] [86] true false 0 0 ([(zr.mk 46 0 [] [])]) [] [])]))]) (XW.mk [66,98] [109,97,105,110]) m) y y y<|A ?_;obtain ⟨p,q,n,a,h⟩:=bs2 h;refine A ?_;refine X1 (j:=5) 2 y y y y y gpn (λd=>g y d<|mv y<|g y d<|zHW ti y y y<|zo (egA [36,37] 2 d y y y y)) Hr<|A ?_;refine X1 (x:=n) (j:=17) 3 y y y y y gpn (λc=>by replace a:=bT c a;obtain ⟨s,f,a⟩:=bs a;obtain rfl:=sm a;exact g y c<|mv y<|g y c<|pc (zhG b.1 f) y y (Z5 (Zs (λ_=>y)) (y))<|g y c<|eql ti y y<|zo (eg [48,49,50] 3 y y y y)) (λhb=>(sm (bF hb a)).symm)<|A ?_;exact RT0
instance:PF prog 36 [] (zl5) bA:=⟨λ_=>zot ⟩
def rK(h0:List za)(c:T0)(m:zb)(x0:AV)(x1:AV)(x2:AV):List AV:=[.ipt 1 [[cL h0]] 0 0,sA c,sA m.Name,tL m.Params,sA m.Ret,bA m.Static,bA m.Abstract,iA m.Locals,iA m.Stack,.isl 4 (map zn m.Code),.isl 3 (map zA m.Maps),.isl 4 (map zY m.Traps),x0,x1,x2]
abbrev sR(h0:List za)(c:T0)(m:zb)(x y:T1)(b:Bool)(t:St):St:=some (15,[rK h0 c m (.isl 1 (x.map Xe)) (.isl 1 (y.map Xe)) (bA b)])::t
abbrev tR(h0:List za)(c:T0)(m:zb)(x y:T1)(b:Bool)(t:List SB):List SB:=.one 15 (rK h0 c m (.isl 1 (x.map Xe)) (.isl 1 (y.map Xe)) (bA b))::t
structure GK where
  locals:T1
  stack:T1
def zy2(x:GK):List AV:=[tL x.locals,tL x.stack]
def zvD(a:T0)(b:Int):Option (T0×Int):=
  some (a,b)
def OB(a:T0)(b:Int):zL (T0×Int) (T0×Int) (T0×Int):=
  (cond (decide (0<(length a:Int))) ((idx a 0).bind λe=>some ((e.toNat:Int) == 91)) (some false)).bind λc=>cond c ((XJ a 1 (length a:Int)).bind λd=>some (.inl (d,(i64.wrap (b+1))))) (some (.inr (.inl (a,b))))
def WU(a:T0):Option (T0×Int):=
  (zp (λz=>OB z.1 z.2) (a,0)).bind λo=>zH o (λb=>zvD b.1 b.2) some
instance (d:T0):PF prog 289 [sA d] (WU d) (λr=>(.tup [sA r.1,iA r.2])):=⟨λr h=>by
 refine zi func289 y kz y y<|A ?_;refine A ?_;obtain ⟨o,ho,h⟩:=bs h;refine lpA ho (λz=>[(0,sA z.1),(4,iA z.2)]) (λz=>[]) (λb=>[(0,sA b.1),(4,iA b.2)]) (λb=>[]) (pG f289 (λr=>.tup [sA r.1,iA r.2])) (Xd []) ?_ ?_
 .rintro ⟨f,n⟩ r h;refine ze ?_;obtain ⟨i,p,h⟩:=bs h;refine A ?_;apply Xa h y<;>intro e h
  .refine zd<|zh ?_;obtain ⟨j,c,h⟩:=bs h;refine rg y<|u<|mv y<|u<|slS (a:=1) (b:=(length f:Int)) ti y y (K5 y c) y c<|A ?_;refine A ?_;cases h;exact ⟨_,y,zl []⟩
  .refine zs ?_;cases h;exact ⟨y,_,y,zl []⟩
 .rintro ⟨l,m⟩ rfl;refine A ?_
  exact RT0⟩
def zO(c:List za)(a:T0):Option (Bool):=
  (Gd a).bind λd=>cond (!d) (some false) ((WU a).bind λb=>(cond (b.1 == [73]) (some true) ((zX c b.1).bind λe=>some (decide (0≤e)))).bind λf=>some f)
instance (a:List za)(b:T0):PF prog 205 [.ipt 1 [[cL a]] 0 0,sA b] (zO a b) bA:=⟨λr h=>by
 refine zi func205 y kz y y<|A ?_;refine ze ?_;obtain ⟨d,e,h⟩:=bs h;refine A ?_;apply Xa h y<;>intro c h
 .refine A ?_;exact RT0
 .refine zd ?_;obtain ⟨f,i,h⟩:=bs h;refine A ?_;obtain ⟨j,l,h⟩:=bs h;refine A ?_
  exact RT0⟩
def zlD(a:List za)(b:T0)(c:zb)(d:Bool)(e:Bool):Unit:=
  ()
theorem E1(a:List za)(b:T0)(c:zb)(d:Bool)(e:Bool){r:Unit}(h:zlD a b c d e=r):SC prog 204 [.mpt 0 0 0,bA e] [.one 15 (rK a b c (nS) (nS) (bA d))] (.tup []) [.one 15 (rK a b c (nS) (nS) (bA (d||(!e))))]:=by
 refine ⟨⟨t,t⟩,zZ func204 y kz y ?_⟩;unfold zlD at h;refine A ?_;obtain rfl:=h;exact ⟨_,y,Xb [0]⟩
def znB(a:T1):Option (T1):=
  some a
def zhc(c:zb)(a:T1):zL (T1) (T1) (T1):=
  cond (decide (((length a):Int)<c.Locals)) ((Xx 16 a ([[84]])).bind λb=>some (.inl b)) (some (.inr (.inl a)))
def zdW(a:zb)(c:T1):Option (T1):=
  (Xx 16 c a.Params).bind λd=>(zp (λz=>zhc a z) d).bind λo=>zH o (λb=>znB b) some
def zfA(e:List za)(c:T0)(a:zb)(b:T1)(f:T1)(i:Bool):Option (T1):=
  cond (!a.Static) ((Xx 16 b [c]).bind λd=>zdW a d) (zdW a b)
theorem zjn(e:List za)(c:T0)(d:zb)(j:T1)(a:T1)(i:Bool){r:T1}(h:zfA e c d j a i=some r):SC prog 206 [.mpt 0 0 0] [.one 15 (rK e c d (.msl 1 0 (length j)) (.msl 2 0 (length a)) (bA i)),.many 1 (map Xe j),.many 1 (map Xe a)] (.tup []) [.one 15 (rK e c d (.msl 3 0 (length r)) (.msl 2 0 (length a)) (bA i)),.no,.many 1 (map Xe a),.many 1 (map Xe r)]:=by
 refine ⟨⟨t,t,Xw (sz:=1) (λ_=>y),Xw (sz:=1) (λ_=>y),t⟩,zZ func206 y kz y ?_⟩;refine Xz (X:=T1) (λz=>[(0,.mpt 0 0 0)]) (λz=>[some (15,[(rK e c d (.msl 3 0 (length z)) (.msl 2 0 (length a)) (bA i))]),none,sT a,sT z]) (λz=>zdW d z=some r) ?_ ?_
 .refine A ?_;apply Xa h y<;>intro p h
  .obtain ⟨l,s,h⟩:=bs h;refine XA [(0,_)] [some (15,[(rK e c d (.msl 3 0 (length l)) (.msl 2 0 (length a)) (bA i))]),none,sT a,sT l] [10,11,15] [0,1,2,3,4,5,6,7,8,9] [(17,_),(16,_),(15,_),(14,_),(13,_),(12,_),(11,_),(10,_),(9,_),(8,_)] 3 (Xj (z:=by exact ⟨(λ_ _=>⟨_,y,y,bl 3 ti y ti y (by decide) (by decide) y y y<|⟨(.msl 3 0 1),[],[(18,_)],y,y,y,y,Xj (z:=by exact ⟨nv,(λ_ _=>⟨_,y,y,apM 4 ti y ti y y (by decide) ti y y y y (roX (f:=Xe) (z:=[c]) y y) (λ_=>y) y s<|⟨(.msl 4 0 (length l)),[12,13,14],[(22,_),(21,_),(20,_),(19,_)],y,y,y,y,Xj (z:=by exact ⟨nv,nv,(λ_ _=>⟨_,y,y,sto ti y y y<|⟨.any,[],[],y,y,y,t,Xk (z:=Xd [0,.dead,2,4])⟩⟩),t⟩)⟩⟩),nw,t⟩)⟩⟩),nw,nw,t⟩)) ?_;exact ⟨l,h,zl [0,.dead,2,3]⟩
  .refine zd ?_;exact ⟨j,h,zl [0,.dead,2,1]⟩
 .rintro D h;obtain ⟨n,v,h⟩:=bs h;refine rdA [(0,_)] [some (15,[(rK e c d (.msl 3 0 (length n)) (.msl 2 0 (length a)) (bA i))]),none,sT a,sT n] [11,15] [0,1,2,3,4,5,6,7,8,9,10] [(33,_),(32,_),(31,_),(30,_),(29,_),(28,_),(27,_),(26,_),(25,_),(24,_),(23,_)] 2 (Xj (z:=by exact ⟨(λ_ _=>⟨_,y,y,apM 4 ti y ti y y (by decide) ti y y y y roI (λ_=>y) y v<|⟨(.msl 4 0 (length n)),[12,13,14],[(37,_),(36,_),(35,_),(34,_)],y,y,y,y,Xj (z:=by exact ⟨nv,(λ_ _=>⟨_,y,y,sto ti y y y<|⟨.any,[],[],y,y,y,t,Xk (z:=Xd [0,.dead,2,4])⟩⟩),t⟩)⟩⟩),nw,t⟩)) ?_;obtain ⟨o,ho,h⟩:=bs h;refine lpB ho (λz=>[(0,.mpt 0 0 0)]) (λz=>[some (15,[(rK e c d (.msl 3 0 (length z)) (.msl 2 0 (length a)) (bA i))]),none,sT a,sT z]) (λb=>[]) (λb=>[some (15,[(rK e c d (.msl 3 0 (length b)) (.msl 2 0 (length a)) (bA i))]),none,sT a,sT b]) (λr env st=>Ua prog f206 3 (.tup []) [some (15,[(rK e c d (.msl 3 0 (length r)) (.msl 2 0 (length a)) (bA i))]),none,sT a,sT r] env st) (Xd [0,.dead,2,3]) ?_ ?_
  .rintro m r h;refine ze ?_;refine rdA [(0,_),(49,_)] [some (15,[(rK e c d (.msl 3 0 (length m)) (.msl 2 0 (length a)) (bA i))]),none,sT a,sT m] [] [0,1,2,3,4,5,6,7,8,9,10,11] [(49,_),(48,_),(47,_),(46,_),(45,_),(44,_),(43,_),(42,_),(41,_),(40,_),(39,_),(38,_)] 0 (Xk (z:=Xd [0,.dead,2,3])) ?_;apply Xa h y<;>intro q h
   .refine zd<|zh ?_;obtain ⟨B,x,h⟩:=bs h;refine A ?_;refine u<|apM 5 ti y ti y y (by decide) ti y y y y (roX (f:=Xe) (z:=[[84]]) y y) (λ_=>y) y x<|A ?_;cases h;exact ⟨_,y,zl [0,.dead,2,5]⟩
   .refine zs ?_;cases h;exact ⟨y,_,y,zl [0,.dead,2,3]⟩
  .rintro C rfl;refine zm ?_;cases h;exact ⟨_,y,Xb [0,.dead,2,3]⟩
def znD:Option (zS×Bool):=
  some ((zS.mk 0 [] []),false)
def EY(b:zb)(e:Int)(a:Int):zL (Int) (Unit) (zS×Bool):=
  cond (decide (a<(length b.Maps:Int))) ((idx b.Maps a).bind λc=>cond (c.At == e) ((idx b.Maps a).bind λd=>some (.inr (.inr (d,true)))) (some (.inl (i64.wrap (a+1))))) (some (.inr (.inl ())))
def Bk(d:List za)(e:T0)(a:zb)(f:T1)(i:T1)(j:Bool)(c:Int):Option (zS×Bool):=
  (zp (λz=>EY a c z) 0).bind λo=>zH o (λb=>znD) some
theorem zfB(a:List za)(c:T0)(d:zb)(e:T1)(f:T1)(i:Bool)(j:Int){r:zS×Bool}(h:Bk a c d e f i j=some r):SC prog 207 [.mpt 0 0 0,iA j] (tR a c d e f i []) (.tup [.agg (zA r.1),bA r.2]) (tR a c d e f i []):=by
 refine ⟨⟨t,t⟩,zZ func207 y kz y ?_⟩;refine A ?_;refine ze<|A ?_;obtain ⟨o,ho,h⟩:=bs h;refine lpB ho (λz=>[(0,.mpt 0 0 0),(1,iA j),(4,.mpt 1 0 0),(6,iA z)]) (λz=>(sR a c d e f i [some (3,[[iA 0,nS,nS]])])) (λb=>[(4,.mpt 1 0 0)]) (λb=>(sR a c d e f i [some (3,[[iA 0,nS,nS]])])) (λr env st=>Ua prog f207 1 (.tup [.agg (zA r.1),bA r.2]) (sR a c d e f i []) env st) (Xd [0,1]) ?_ ?_
 .rintro n r h;refine ze<|A ?_;apply Xa h y<;>intro l h
  .refine zd<|ze<|zh ?_;obtain ⟨p,s,h⟩:=bs h;refine A ?_;apply Xa h y<;>intro m h
   .obtain ⟨q,v,h⟩:=bs h;refine A ?_;refine zy ?_;cases h;exact ⟨_,y,_,y,Xb [0]⟩
   .refine zd<|A ?_;cases h;exact ⟨_,y,zl [0,1]⟩
  .refine zs ?_;cases h;exact ⟨y,_,y,zl [0,1]⟩
 .rintro ⟨⟩ rfl;refine zm<|A ?_;exact RT1
def zmR(a:T1):Option (T1):=
  some a
def Bt(c:List za)(b:T1)(a:Int):zL (T1×Int) (T1) (T1):=
  cond (decide (0≤a)) ((idx c a).bind λd=>(Xx 16 b [d.Name]).bind λe=>(idx c a).bind λf=>(zX c f.Super).bind λi=>some (.inl (e,i))) (some (.inr (.inl b)))
def GO(a:List za)(c:T0):Option (T1):=
  (zX a c).bind λd=>(zp (λz=>Bt a z.1 z.2) ([],d)).bind λo=>zH o (λb=>zmR b) some
theorem H6(a:List za)(c:T0){r:T1}(h:GO a c=some r):SC prog 142 [.ipt 1 [[cL a]] 0 0,sA c] [] (.msl 0 0 (length r)) [.many 1 (map Xe r)]:=by
 refine ⟨⟨Xw (sz:=1) (λ_=>y),t⟩,zZ func142 y kz y ?_⟩;refine A ?_;refine A ?_;refine ze ?_;obtain ⟨x,B,h⟩:=bs h;refine A ?_;obtain ⟨o,ho,h⟩:=bs h;refine lpB ho (λz=>[(0,.ipt 1 [[cL a]] 0 0),(5,.msl 0 0 (length z.1)),(6,iA z.2)]) (λz=>[sT z.1]) (λb=>[(5,.msl 0 0 (length b))]) (λb=>[sT b]) (pF f142 (λr=>.msl 0 0 (length r)) λr=>[sT r]) ⟨[.fresh 1],ce y y<|cv y (.nilown y)<|ce y y<|cn,y,⟨w,t⟩,y,k⟩ ?_ ?_
 .rintro ⟨j,l⟩ r h;refine ze<|A ?_;apply Xa h y<;>intro d h
  .refine zd<|ze<|zh ?_;obtain ⟨e,C,m,i,h⟩:=bs2 h;refine A ?_;refine u<|apM 2 ti y ti y y (by decide) ti y y y y (roX (f:=Xe) (z:=[e.Name]) y y) (λ_=>y) y i<|A ?_;obtain ⟨n,p,q,s,h⟩:=bs2 h;refine A ?_;cases h;exact ⟨_,y,zl [2]⟩
  .refine zs ?_;cases h;exact ⟨y,_,y,zl [0]⟩
 .rintro v rfl;refine zm<|A ?_;exact RT1
def zwI:Option (Bool):=
  some false
def OD(b:T1)(c:T0)(a:Int):zL (Int) (Unit) (Bool):=
  cond (decide (a<(length b:Int))) ((idx b a).bind λd=>cond (d == c) (some (.inr (.inr true))) (some (.inl (i64.wrap (a+1))))) (some (.inr (.inl ())))
def DJ(a:T1)(c:T0):Option (Bool):=
  (zp (λz=>OD a c z) 0).bind λo=>zH o (λb=>zwI) some
theorem DK(a:T1)(c:T0){r:Bool}(h:DJ a c=some r):Xm prog 344 [tL a,sA c] (bA r):=by
 refine zi func344 y kz y y<|A ?_;refine ze<|A ?_;obtain ⟨o,ho,h⟩:=bs h;refine lpB ho (λz=>[(0,tL a),(1,sA c),(5,iA z)]) (λz=>[]) (λb=>[]) (λb=>[]) (pG f344 bA) (Xd []) ?_ ?_
 .rintro f r h;refine ze<|A ?_;apply Xa h y<;>intro d h
  .refine zd<|ze<|zh ?_;obtain ⟨i,j,h⟩:=bs h;refine A ?_;apply Xa h y<;>intro e h
   .refine A ?_;refine zy ?_;cases h;exact ⟨_,y,_,y,Xb []⟩
   .refine zd<|A ?_;cases h;exact ⟨_,y,zl []⟩
  .refine zs ?_;cases h;exact ⟨y,_,y,zl []⟩
 .rintro ⟨⟩ rfl;refine zm<|A ?_;exact RT0
instance (a:T1)(b:T0):PF prog 344 [tL a,sA b] (DJ a b) bA:=⟨λ_=>DK a b⟩
def zoB(a:T1)(j:T0)(b:Int):Option (T1):=
  (XJ a 0 b).bind λc=>(Xx 16 ([]:T1) c).bind λd=>(XJ a b (length a:Int)).bind λe=>(Xx 16 d [j]).bind λf=>(Xx 16 f e).bind λi=>some i
def D0(b:T1)(c:T0)(a:Int):zL (Int) (Int) (T1):=
  (cond (decide (a<(length b:Int))) ((idx b a).bind λd=>some (Op.bytesLess d c)) (some false)).bind λe=>cond e (some (.inl (i64.wrap (a+1)))) (some (.inr (.inl a)))
def zmk(a:T1)(c:T0):Option (T1):=
  (zp (λz=>D0 a c z) 0).bind λo=>zH o (λb=>zoB a c b) some
theorem zsR(d:T1)(e:T0){r:T1}(h:zmk d e=some r):SC prog 351 [tL d,sA e] [] (.msl 0 0 (length r)) [.many 1 (map Xe r)]:=by
 refine ⟨⟨Xw (sz:=1) (λ_=>y),t⟩,zZ func351 y kz y ?_⟩;refine A ?_;refine A ?_;obtain ⟨o,ho,h⟩:=bs h;refine lpA ho (λz=>[(0,tL d),(1,sA e),(5,iA z)]) (λz=>[]) (λb=>[(0,tL d),(1,sA e),(5,iA b)]) (λb=>[]) (pF f351 (λr=>.msl 0 0 (length r)) λr=>[sT r]) (Xd []) ?_ ?_
 .rintro C r h;refine ze ?_;obtain ⟨D,E,h⟩:=bs h;refine A ?_;apply Xa h y<;>intro l h
  .refine zd<|zh<|A ?_;cases h;exact ⟨_,y,zl []⟩
  .refine zs ?_;cases h;exact ⟨y,_,y,zl []⟩
 .rintro j rfl;obtain ⟨v,m,x,n,h⟩:=bs2 h;refine A ?_;refine u<|slI (a:=0) (b:=j) ti y ti y y y (DA y m) m<|u<|apN (f:=Xe) 0 ti y ti y y (by decide) ti y y y roI (λ_=>y) y n<|A ?_;obtain ⟨B,c,p,q,i,s,h⟩:=bs3 h;refine rdA [(4,.msl 0 0 (length i))] [sT i] [2,3,7] [0,1,4,5,6] [(31,_),(30,_),(29,_),(26,_),(25,_)] 3 (Xj ⟨peC,peC,peC,peC,(by exact pb y (slI (a:=j) (b:=(length d:Int)) ti y ti y y (K5 y c) y c<|w)),t⟩ (by exact ⟨(λ_ _=>⟨_,y,y,bl 1 ti y ti y (by decide) (by decide) y y y<|⟨(.msl 1 0 1),[],[(27,_)],y,y,y,y,Xj ⟨peC,peC,peC,peC,(by exact pb y (slI (a:=j) (b:=(length d:Int)) ti y ti y y (K5 y c) y c<|w)),t⟩ (by exact ⟨nv,(λ_ _=>⟨_,y,y,apM 2 ti y ti y y (by decide) ti y y y y (roX (f:=Xe) (z:=[e]) y y) (λ_=>y) y q<|⟨(.msl 2 0 (length p)),[],[(28,_)],y,y,y,y,Xj ⟨peC,peC,peC,peC,(by exact pb y (slI (a:=j) (b:=(length d:Int)) ti y ti y y (K5 y c) y c<|w)),t⟩ (by exact ⟨nv,nv,(λ_ _=>⟨_,y,y,apM 3 ti y ti y y (by decide) ti y y y y roI (λ_=>y) y s<|⟨(.msl 3 0 (length i)),[8],[(4,_),(32,_)],y,y,y,y,Xk (z:=Xd [3])⟩⟩),t⟩)⟩⟩),nw,t⟩)⟩⟩),nw,nw,t⟩)) ?_;exact RT1
def zo1(a:T1):Option (T1):=
  some a
def zgo(a:Int)(b:T1):zL (T1×Int) (T1) (T1):=
  some (.inl (b,(i64.wrap (a+1))))
def H2(i:List za)(c:List Bool)(b:T1)(a:Int):zL (T1×Int) (T1) (T1):=
  cond (decide (a<(length i:Int))) ((idx c a).bind λd=>cond d ((idx i a).bind λe=>(zmk b e.Name).bind λf=>zgo a f) (zgo a b)) (some (.inr (.inl b)))
def zko(c:List za)(a:List Bool):Option (T1):=
  (zp (λz=>H2 c a z.1 z.2) ([],0)).bind λo=>zH o (λb=>zo1 b) some
def zo0(a:List Bool)(b:Bool):zL ((List Bool)×Bool) ((List Bool)) (T1):=
  some (.inl (a,b))
def zgn(a:Int)(b:List Bool)(c:Bool):zL ((List Bool)×Bool×Int) ((List Bool)×Bool) (T1):=
  some (.inl (b,c,(i64.wrap (a+1))))
def zgp(a:Int)(b:List Bool)(c:Bool):zL ((List Bool)×Bool×Int) ((List Bool)×Bool) (T1):=
  zgn a b c
def zgm(a:Int)(b:List Bool)(c:Bool):zL ((List Bool)×Bool×Int) ((List Bool)×Bool) (T1):=
  some (.inl (b,c,(i64.wrap (a+1))))
def EI(j:List za)(d:za)(a:List Bool)(e:Bool)(b:Int):zL ((List Bool)×Bool×Int) ((List Bool)×Bool) (T1):=
  cond (decide (b<(length d.Impl:Int))) ((idx d.Impl b).bind λf=>(zX j f).bind λc=>(idx a c).bind λi=>cond (!i) ((idx a c).bind λl=>zgm b (List.set a (Int.toNat c) true) true) (zgm b a e)) (some (.inr (.inl (a,e))))
def EH(f:List za)(m:T1)(c:List Bool)(d:Bool)(a:Int):zL ((List Bool)×Bool×Int) ((List Bool)×Bool) (T1):=
  cond (decide (a<(length f:Int))) ((idx f a).bind λe=>(idx c a).bind λi=>(cond (!i) ((DJ m e.Name).bind λj=>some (!j)) (some false)).bind λl=>cond l (zgn a c d) ((zp (λz=>EI f e z.1 z.2.1 z.2.2) (c,d,0)).bind λo=>zH o (λb=>zgp a b.1 b.2) (λr=>some (.inr (.inr r))))) (some (.inr (.inl (c,d))))
def zgq(d:List za)(e:T1)(a:List Bool)(c:Bool):zL ((List Bool)×Bool) ((List Bool)) (T1):=
  cond c ((zp (λz=>EH d e z.1 z.2.1 z.2.2) (a,false,0)).bind λo=>zH o (λb=>zo0 b.1 b.2) (λr=>some (.inr (.inr r)))) (some (.inr (.inl a)))
def zfw(a:List za)(c:T0)(d:List Bool):Option (T1):=
  (GO a c).bind λe=>(zp (λz=>zgq a e z.1 z.2) (d,true)).bind λo=>zH o (λb=>zko a b) some
def O0(a:List za)(c:T0):Option (T1):=
  (mkP 1 (length a:Int)).bind λd=>(zX a c).bind λb=>cond (decide (b<0)) (some []) ((idx a b).bind λe=>cond e.Interface ((idx (List.replicate d false) b).bind λf=>zfw a c (List.set (List.replicate d false) (Int.toNat b) true)) (zfw a c (List.replicate d false)))
theorem zit(a:List za)(s:T0){r:T1}(h:O0 a s=some r):SC prog 313 [.ipt 1 [[cL a]] 0 0,sA s] [] (.msl 0 0 (length r)) [.many 1 (map Xe r)]:=by
 refine ⟨⟨Xw (sz:=1) (λ_=>y),t⟩,zZ func313 y kz y ?_⟩;refine A ?_;obtain ⟨R,Z,h⟩:=bs h;refine A ?_;refine u<|mks (f:=rB) (z:=false) 0 ti y ti y y y y y y Z<|A ?_;obtain ⟨v4,q2,h⟩:=bs h;refine A ?_;refine ze<|A ?_;apply Xa h y<;>intro S h
 .refine A ?_;refine zy ?_;cases h;exact ⟨_,y,[.fresh 1],.nilown y,y,⟨w,t⟩,y,k⟩
 .refine zd ?_;refine Xz (X:=(List Bool)) (λz=>[(0,.ipt 1 [[cL a]] 0 0),(1,sA s),(5,.msl 0 0 (length z))]) (λz=>[some (1,map rB z)]) (λz=>zfw a s z=some r) ?_ ?_
  .obtain ⟨v5,q4,h⟩:=bs h;refine A ?_;apply Xa h y<;>intro T h
   .obtain ⟨v6,q6,h⟩:=bs h;refine A ?_;exact u<|zGu (c':=true) ti y y (zz q6).2.2 y y y y y<|zo (⟨(List.set (List.replicate R false) (Int.toNat v4) true),h,[0],ce y y<|ce y y<|cv y (zF8 (by simp) y)<|cn,y,⟨⟨_,y,Zb (λ_=>y)⟩,t⟩,y,k⟩)
   .refine zd ?_;exact ⟨(List.replicate R false),h,zl [0]⟩
  .rintro U h;obtain ⟨c,q7,h⟩:=bs h;refine A ?_;refine u<|sx [] (H6 a s q7)<|zx (env0:=[(0,.ipt 1 [[cL a]] 0 0),(5,.msl 0 0 (length U)),(39,.msl 1 0 (length c))]) (st0:=[some (1,map rB U),sT c]) (zl [0,1])<|A ?_;refine ze<|A ?_;obtain ⟨o,ho,h⟩:=bs h;refine lpB ho (λz=>[(0,.ipt 1 [[cL a]] 0 0),(5,.msl 0 0 (length z.1)),(7,.msl 1 0 (length c)),(8,bA z.2)]) (λz=>[some (1,map rB z.1),sT c]) (λb=>[(0,.ipt 1 [[cL a]] 0 0),(5,.msl 0 0 (length b))]) (λb=>[some (1,map rB b)]) (pF f313 (λr=>.msl 0 0 (length r)) λr=>[sT r]) (Xd [0,1]) ?_ ?_
   .rintro ⟨v71,v72⟩ r h;refine ze<|A ?_;apply Xa h y<;>intro F h
    .refine zd<|zh<|A ?_;refine A ?_;obtain ⟨o,ho,h⟩:=bs h;refine lpS ho (λz=>[(0,.ipt 1 [[cL a]] 0 0),(5,.msl 0 0 (length z.1)),(7,.msl 1 0 (length c)),(8,bA z.2.1),(9,iA z.2.2)]) (λz=>[some (1,map rB z.1),sT c]) (λb=>[(0,.ipt 1 [[cL a]] 0 0),(5,.msl 0 0 (length b.1)),(7,.msl 1 0 (length c)),(8,bA b.2)]) (λb=>[some (1,map rB b.1),sT c]) (pF f313 (λr=>.msl 0 0 (length r)) λr=>[sT r]) (Xd [0,1]) ?_ ?_ ?_
     .rintro ⟨G,H,e⟩ r h;refine ze<|A ?_;apply Xa h y<;>intro I h
      .refine zd ?_;refine Xz (X:=(List Bool)×Bool) (λz=>[(0,.ipt 1 [[cL a]] 0 0),(5,.msl 0 0 (length z.1)),(7,.msl 1 0 (length c)),(8,bA z.2),(9,iA e)]) (λz=>[some (1,map rB z.1),sT c]) (λz=>zgn e z.1 z.2=some r) ?_ ?_
       .refine zh ?_;obtain ⟨n,q67,h⟩:=bs h;refine A ?_;refine ze ?_;obtain ⟨v106,q68,J,l,h⟩:=bs2 h;refine A ?_;refine X1 (x:=J) (j:=5) 5 y y y y y gpn (λi=>by replace l:=bT i l;obtain ⟨v107,V,l⟩:=bs l;obtain rfl:=sm l;exact g y i<|mv y<|g y i<|fa ti y y y<|g y i<|ld ti y y<|g y i<|pcs (DK c n.Name V) y y (.cons (X9 y (λ_=>y)) (.cons (si y) .nil)) XD<|g y i<|nt y<|zo (eg [63,64,65,66,67] 5 y y y y)) (λhb=>(sm (bF hb l)).symm)<|zo ?_;apply Xa h y<;>intro K h
        .refine zs ?_;exact ⟨⟨G,H⟩,h,zl [0,1]⟩
        .refine zd<|A ?_;obtain ⟨o,ho,h⟩:=bs h;refine lpS ho (λz=>[(0,.ipt 1 [[cL a]] 0 0),(5,.msl 0 0 (length z.1)),(7,.msl 1 0 (length c)),(8,bA z.2.1),(9,iA e),(10,.mpt 2 0 0),(11,iA z.2.2)]) (λz=>[some (1,map rB z.1),sT c,some (6,[(zf n)])]) (λb=>[(0,.ipt 1 [[cL a]] 0 0),(5,.msl 0 0 (length b.1)),(7,.msl 1 0 (length c)),(8,bA b.2),(9,iA e)]) (λb=>[some (1,map rB b.1),sT c]) (pF f313 (λr=>.msl 0 0 (length r)) λr=>[sT r]) (Xd [0,1,2]) ?_ ?_ ?_
         .rintro ⟨v,L,B⟩ r h;refine ze<|A ?_;apply Xa h y<;>intro M h
          .refine zd ?_;refine Xz (X:=(List Bool)×Bool) (λz=>[(0,.ipt 1 [[cL a]] 0 0),(5,.msl 0 0 (length z.1)),(7,.msl 1 0 (length c)),(8,bA z.2),(9,iA e),(10,.mpt 2 0 0),(11,iA B)]) (λz=>[some (1,map rB z.1),sT c,some (6,[(zf n)])]) (λz=>zgm B z.1 z.2=some r) ?_ ?_
           .refine zh ?_;obtain ⟨v121,q80,N,q81,h⟩:=bs2 h;refine A ?_;obtain ⟨v123,q82,h⟩:=bs h;refine A ?_;apply Xa h y<;>intro O h
            .obtain ⟨v124,W,h⟩:=bs h;refine A ?_;refine u<|zGu (c':=true) ti y y (zz W).2.2 y y y y y<|A ?_;exact (⟨⟨(List.set v (Int.toNat N) true),true⟩,h,[0,1,2],ce y y<|cv y (zF8 (by simp) y)<|cv y (.msl y)<|ce y y<|ce y y<|cv y (.mpt y)<|ce y y<|cn,y,⟨⟨_,y,Zb (λ_=>y)⟩,⟨_,y,Zb (λ_=>y)⟩,⟨_,y,XG (ciL y)⟩,t⟩,y,k⟩)
            .refine zd ?_;exact ⟨⟨v,L⟩,h,zl [0,1,2]⟩
           .rintro ⟨v125,v126⟩ h;refine A ?_;cases h;exact ⟨_,y,zl [0,1,2]⟩
          .refine zs ?_;cases h;exact ⟨y,_,y,zl [0,1]⟩
         .rintro ⟨C,D⟩ rfl;replace h:zgp e C D=some r:=h;unfold zgp at h;refine zm ?_;exact ⟨⟨C,D⟩,h,zl [0,1]⟩
         .rintro r' rfl env st hp;cases h;exact ⟨_,y,hp⟩
       .rintro ⟨v129,v130⟩ h;refine A ?_;cases h;exact ⟨_,y,zl [0,1]⟩
      .refine zs ?_;cases h;exact ⟨y,_,y,zl [0,1]⟩
     .rintro ⟨v131,v132⟩ rfl;refine zm ?_;cases h;exact ⟨_,y,zl [0,1]⟩
     .rintro r' rfl env st hp;cases h;exact ⟨_,y,hp⟩
    .refine zs ?_;cases h;exact ⟨y,_,y,zl [0]⟩
   .rintro d rfl;refine zm<|A ?_;refine ze<|A ?_;obtain ⟨o,ho,h⟩:=bs h;refine lpB ho (λz=>[(0,.ipt 1 [[cL a]] 0 0),(5,.msl 0 0 (length d)),(13,.msl 1 0 (length z.1)),(14,iA z.2)]) (λz=>[some (1,map rB d),sT z.1]) (λb=>[(13,.msl 0 0 (length b))]) (λb=>[sT b]) (pF f313 (λr=>.msl 0 0 (length r)) λr=>[sT r]) ⟨[0,.fresh 1],ce y y<|cv y (.msl y)<|cv y (.nilown y)<|ce y y<|cn,y,⟨⟨_,y,Zb (λ_=>y)⟩,w,t⟩,y,k⟩ ?_ ?_
    .rintro ⟨p,m⟩ r h;refine ze<|A ?_;apply Xa h y<;>intro P h
     .refine zd ?_;refine Xz (X:=T1) (λz=>[(0,.ipt 1 [[cL a]] 0 0),(5,.msl 0 0 (length d)),(13,.msl 1 0 (length z)),(14,iA m)]) (λz=>[some (1,map rB d),sT z]) (λz=>zgo m z=some r) ?_ ?_
      .refine zh ?_;obtain ⟨v142,q91,h⟩:=bs h;refine A ?_;apply Xa h y<;>intro Q h
       .obtain ⟨E,q93,q,Y,h⟩:=bs2 h;refine A ?_;refine zx (env0:=[(0,.ipt 1 [[cL a]] 0 0),(5,.msl 0 0 (length d)),(14,iA m),(104,tL p),(112,sA E.Name)]) (st0:=[some (1,map rB d)]) (zl [0])<|u<|sx [] (zsR p E.Name Y)<|zx (env0:=[(0,.ipt 1 [[cL a]] 0 0),(5,.msl 0 0 (length d)),(14,iA m),(113,.msl 1 0 (length q))]) (st0:=[some (1,map rB d),sT q]) (zl [0,1])<|A ?_;exact (⟨q,h,zl [0,1]⟩)
       .refine zd ?_;exact ⟨p,h,zl [0,1]⟩
      .rintro v145 h;refine A ?_;cases h;exact ⟨_,y,zl [0,1]⟩
     .refine zs ?_;cases h;exact ⟨y,_,y,zl [1]⟩
    .rintro v146 rfl;refine zm<|A ?_;exact RT1
def We(s:((List za)×T0×T0->Option Bool))(b:List za)(c:T0)(d:T0):Option (Bool):=
  (zO b c).bind λv=>(cond (!v) (some true) ((zO b d).bind λx=>some (!x))).bind λB=>cond B (some false) (cond (c == d) (some true) ((WU c).bind λe=>(WU d).bind λa=>cond ((e.2 == 0)&&(a.2 == 0)) ((cond ((!(e.1 == [73]))&&(!(a.1 == [73]))) ((GO b e.1).bind λC=>(DJ C a.1).bind λj=>(cond j (some true) ((O0 b e.1).bind λl=>(DJ l a.1).bind λm=>some m)).bind λn=>some n) (some false)).bind λo=>some o) (cond (a.2 == 0) (some (a.1 == [79,98,106,101,99,116])) (cond (e.2 == 0) (some false) ((XJ c 1 (length c:Int)).bind λf=>(XJ d 1 (length d:Int)).bind λi=>(cond ((!(f == [73]))&&(!(i == [73]))) ((s (b,f,i)).bind λp=>some p) (some false)).bind λq=>some q)))))
theorem znA(C:((List za)×T0×T0->Option Bool))(hrec:∀z r,C z=some r->Xm prog 291 [.ipt 1 [[cL z.1]] 0 0,sA z.2.1,sA z.2.2] (bA r))(m:List za)(p:T0)(q:T0){r:Bool}(h:We C m p q=some r):Xm prog 291 [.ipt 1 [[cL m]] 0 0,sA p,sA q] (bA r):=by
 refine zi func291 y kz y y<|A ?_;refine ze ?_;obtain ⟨W,X,Y,Z,h⟩:=bs2 h;refine A ?_;apply Xa h y<;>intro D h
 .refine A ?_;exact RT0
 .refine zd<|ze<|A ?_;apply Xa h y<;>intro E h
  .refine A ?_;exact RT0
  .refine zd ?_;obtain ⟨F,q7,h⟩:=bs h;refine A ?_;obtain ⟨G,q8,h⟩:=bs h;refine A ?_;refine ze<|zh<|A ?_;apply Xa h y<;>intro s h
   .obtain ⟨H,d,h⟩:=bs h;refine A ?_;refine zGm (x:=H) (j:=6) 12 2 y y y y y gpn (λc=>by replace d:=bT c d;obtain ⟨S,I,d⟩:=bs d;obtain ⟨T,J,d⟩:=bs d;obtain ⟨K,f,d⟩:=bs d;obtain rfl:=sm d;exact g y c<|mv y<|g y c<|mv y<|g y c<|sx [] (H6 m F.1 I)<|g y c<|mv y<|g y c<|pcs (DK S G.1 J) y y (.cons (X9 y (λ_=>y)) (.cons (si y) .nil)) XD<|g y c<|mv y<|zGn (x:=K) (j:=12) 5 1 y y y y y (gps y y c) (λe=>by replace f:=bF e f;obtain ⟨L,M,f⟩:=bs f;obtain ⟨U,N,f⟩:=bs f;obtain rfl:=sm f;exact g y e<|mv y<|g y e<|mv y<|g y e<|sx [] (zit m F.1 M)<|g y e<|mv y<|g y e<|pcs (DK L G.1 N) y y (.cons (X9 y (λ_=>y)) (.cons (si y) .nil)) XD<|zo (xg [56,57,58,59,60] 5 y y y y y y)) (λhb=>(sm (bT hb f)).symm)<|zo (xg [50,51,52,53,54,55,56,57,58,59,60,61] 7 y y y y y y)) (λhb=>(sm (bF hb d)).symm)<|A ?_;exact RT0
   .refine A ?_;apply Xa h y<;>intro v h
    .refine A ?_;exact RT0
    .refine A ?_;apply Xa h y<;>intro B h
     .refine A ?_;exact RT0
     .refine zd ?_;obtain ⟨O,n,P,o,h⟩:=bs2 h;refine rdA [(0,_),(11,_),(12,_)] [] [] [0,1,2,3,4,5] [(12,_),(11,_),(74,_),(73,_),(72,_),(71,_)] 0 (Xk ⟨peC,(by exact pb y (slS (a:=1) (b:=(length p:Int)) ti y y (K5 y n) y n<|w)),peC,(by exact pb y (slS (a:=1) (b:=(length q:Int)) ti y y (K5 y o) y o<|w)),peC,peC,t⟩ (Xd [])) ?_;obtain ⟨Q,l,h⟩:=bs h;refine A ?_;refine X1 (x:=Q) (j:=6) 4 y y y y y gpn (λi=>by replace l:=bT i l;obtain ⟨V,R,l⟩:=bs l;obtain rfl:=sm l;exact g y i<|mv y<|g y i<|mv y<|g y i<|mv y<|g y i<|pc (hrec (m,O,P) _ R) y y y<|zo (eg [82,83,84,85] 4 y y y y)) (λhb=>(sm (bF hb l)).symm)<|A ?_;exact RT0
def zgD(a:List za)(b:T0)(c:T0):Option Bool:=
  Bx (λd z=>We d z.1 z.2.1 z.2.2) (a,b,c)
theorem zkq(b:List za)(c:T0)(d:T0){r:Bool}(h:zgD b c d=some r):Xm prog 291 [.ipt 1 [[cL b]] 0 0,sA c,sA d] (bA r):=
  zA8 (F:=(λa z=>We a z.1 z.2.1 z.2.2)) (Q:=λz r=>Xm prog 291 [.ipt 1 [[cL z.1]] 0 0,sA z.2.1,sA z.2.2] (bA r)) (λa hv z r h=>znA a hv z.1 z.2.1 z.2.2 h) h
def H3(c:List za)(a:T0)(b:T0):Option (Bool):=
  cond (b == [84]) ((cond ((a == [84])||(a == [78])) (some true) ((zO c a).bind λo=>some o)).bind λp=>some p) (cond (a == [78]) ((cond (b == [78]) (some true) ((cond (!(b == [73])) ((zO c b).bind λq=>some q) (some false)).bind λs=>some s)).bind λv=>some v) (cond (a == b) ((zO c a).bind λx=>some x) ((cond ((a == [73])||(b == [73])) (some true) ((zO c a).bind λe=>some (!e))).bind λf=>(cond f (some true) ((zO c b).bind λi=>some (!i))).bind λj=>cond j (some false) ((zX c b).bind λd=>(cond (decide (0≤d)) ((idx c d).bind λl=>some l.Interface) (some false)).bind λm=>cond m (some true) ((zgD c a b).bind λn=>some n)))))
instance (a:List za)(b:T0)(c:T0):PF prog 343 [.ipt 1 [[cL a]] 0 0,sA b,sA c] (H3 a b c) bA:=⟨λr h=>by
 refine zi func343 y kz y y<|A ?_;refine ze<|zh<|A ?_;apply Xa h y<;>intro i h
 .obtain ⟨E,F,h⟩:=bs h;refine A ?_;exact RT0
 .refine A ?_;apply Xa h y<;>intro j h
  .obtain ⟨G,m,h⟩:=bs h;refine A ?_;exact RT0
  .refine A ?_;apply Xa h y<;>intro d h
   .obtain ⟨H,n,h⟩:=bs h;refine A ?_;exact RT0
   .obtain ⟨o,p,q,s,h⟩:=bs2 h;refine A ?_;apply Xa h y<;>intro e h
    .refine A ?_;exact RT0
    .refine zd<|ze ?_;obtain ⟨v,x,h⟩:=bs h;refine A ?_;obtain ⟨B,C,h⟩:=bs h;refine A ?_;apply Xa h y<;>intro f h
     .refine A ?_;exact RT0
     .refine zd ?_;obtain ⟨D,l,h⟩:=bs h;refine rg y<|u<|mv y<|u<|mv y<|u<|mv y<|u<|pc (zkq a b c l) y y y<|u<|asg y<|zo ?_
      exact RT0⟩
def zoY:Option (Bool):=
  some true
def EL(e:List za)(b:T1)(f:T1)(a:Int):zL (Int) (Unit) (Bool):=
  cond (decide (a<(length b:Int))) ((idx b a).bind λi=>(idx f a).bind λc=>(H3 e i c).bind λd=>cond (!d) (some (.inr (.inr false))) (some (.inl (i64.wrap (a+1))))) (some (.inr (.inl ())))
def D9(d:List za)(a:T1)(c:T1):Option (Bool):=
  cond (!((length a:Int) == (length c:Int))) (some false) ((zp (λz=>EL d a c z) 0).bind λo=>zH o (λb=>zoY) some)
theorem zkn(a:List za)(c:T1)(d:T1){r:Bool}(h:D9 a c d=some r):Xm prog 290 [.ipt 1 [[cL a]] 0 0,tL c,tL d] (bA r):=by
 refine zi func290 y kz y y<|A ?_;refine ze<|A ?_;apply Xa h y<;>intro f h
 .refine A ?_;exact RT0
 .refine zd<|ze<|A ?_;obtain ⟨o,ho,h⟩:=bs h;refine lpB ho (λz=>[(0,.ipt 1 [[cL a]] 0 0),(1,tL c),(2,tL d),(7,iA z)]) (λz=>[]) (λb=>[]) (λb=>[]) (pG f290 bA) (Xd []) ?_ ?_
  .rintro n r h;refine ze<|A ?_;apply Xa h y<;>intro i h
   .refine zd<|ze<|zh ?_;obtain ⟨p,q,j,s,l,m,h⟩:=bs3 h;refine rdA [(0,_),(1,_),(2,_),(7,_),(29,_)] [] [] [0,1,2,3,4,5,6,7,8,9,10] [(29,_),(28,_),(27,_),(26,_),(25,_),(24,_),(23,_),(22,_),(21,_),(20,_),(19,_)] 0 (Xk (z:=Xd [])) ?_;apply Xa h y<;>intro e h
    .refine A ?_;refine zy ?_;cases h;exact ⟨_,y,_,y,Xb []⟩
    .refine zd<|A ?_;cases h;exact ⟨_,y,zl []⟩
   .refine zs ?_;cases h;exact ⟨y,_,y,zl []⟩
  .rintro ⟨⟩ rfl;refine zm<|A ?_;exact RT0
instance (a:List za)(b:T1)(c:T1):PF prog 290 [.ipt 1 [[cL a]] 0 0,tL b,tL c] (D9 a b c) bA:=⟨λ_=>zkn a b c⟩
def zjH(a:List za)(b:T0)(c:zb)(d:T1)(e:T1)(f:Bool)(i:Bool):Unit:=
  ()
theorem zq(a:List za)(b:T0)(c:zb)(d:T1)(e:T1)(f:Bool)(i:Bool){r:Unit}(h:zjH a b c d e f i=r):SC prog 204 [.mpt 0 0 0,bA i] (tR a b c d e f []) (.tup []) (tR a b c d e (f||(!i)) []):=by
 refine ⟨⟨t,t⟩,zZ func204 y kz y ?_⟩;unfold zjH at h;refine A ?_;obtain rfl:=h;exact ⟨_,y,Xb [0]⟩

end
end Go.Proofs.YthmnlfenkhmmhaaGreat
