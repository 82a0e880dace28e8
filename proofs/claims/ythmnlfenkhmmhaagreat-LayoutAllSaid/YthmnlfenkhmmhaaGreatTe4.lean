/- LayoutAll. -/
import Derived.Test.YthmnlfenkhmmhaaGreatTe3
namespace Go.Proofs.YthmnlfenkhmmhaaGreat
noncomputable section
open List (length map)
open IntKind (i64)
open Go.Proofs.Tryz
set_option linter.unusedSimpArgs false
set_option linter.unusedVariables false
set_option maxRecDepth 100000
set_option maxHeartbeats 4000000
structure X1 where
  C:T0
  M:T0
def Kw(x:X1):List AV:=[sA x.C,sA x.M]
def vK(h0:List za)(h1:T2)(c:T0)(m:zb)(x0:AV)(x1:AV)(x2:AV):List AV:=[.ipt 2 [[cL h0,mI h1]] 0 0,sA c,sA m.Name,tL m.Params,sA m.Ret,bA m.Static,bA m.Abstract,iA m.Locals,iA m.Stack,.isl 4 (map zt m.Code),.isl 3 (map zO m.Maps),.isl 4 (map XD m.Traps),x0,x1,x2]
abbrev sV(h0:List za)(h1:T2)(c:T0)(m:zb)(x y:T1)(b:Bool)(t:St):St:=some (15,[vK h0 h1 c m (.msl 1 0 x.length) (.msl 2 0 y.length) (bA b)])::some (1,x.map Xf)::some (1,y.map Xf)::t
abbrev sU(h0:List za)(h1:T2)(c:T0)(m:zb)(x y:T1)(b:Bool)(t:St):St:=some (15,[vK h0 h1 c m (.msl 1 0 x.length) (.msl 3 0 y.length) (bA b)])::some (1,x.map Xf)::none ::some (1,y.map Xf)::t
abbrev tV(h0:List za)(h1:T2)(c:T0)(m:zb)(x y:T1)(b:Bool)(t:List SB):List SB:=.one 15 (vK h0 h1 c m (.msl 1 0 x.length) (.msl 2 0 y.length) (bA b)):: .many 1 (x.map Xf):: .many 1 (y.map Xf)::t
abbrev tU(h0:List za)(h1:T2)(c:T0)(m:zb)(x y:T1)(b:Bool)(t:List SB):List SB:=.one 15 (vK h0 h1 c m (.msl 1 0 x.length) (.msl 3 0 y.length) (bA b)):: .many 1 (x.map Xf):: .no :: .many 1 (y.map Xf)::t
def zzQ(a:T0):Unit:=
  ()
theorem zyJ(a:T0){r:Unit}(h:zzQ a=r):SC prog 21 [sA a] [] (.agg [sA a,sA [79,98,106,101,99,116],bA false,nS,.msl 0 0 1,.msl 1 0 1]) [.xs 3 [[sA [120],sA [73],bA false]],.xs 10 [[sA [109,97,105,110],nS,sA [86],bA true,bA false,iA 0,iA 0,.msl 2 0 1,nS,nS]],.xs 4 [[iA 46,iA 0,sA [],sA []]]]:=by
 refine ⟨⟨t,t,t,t⟩,zR func21 y kz y ?_⟩;unfold zzQ at h;refine A ?_;refine A ?_;refine zA ?_;obtain rfl:=h;exact ⟨_,y,Xc [1,3,2]⟩
def zzR:Unit:=
  ()
theorem OX{r:Unit}(h:zzR=r):SC prog 93 [] [] (.msl 0 0 3) [.xs 6 [[sA [70,97,99,101],sA [79,98,106,101,99,116],bA true,nS,nS,.msl 1 0 1],[sA [65,97],sA [79,98,106,101,99,116],bA false,.msl 2 0 1,.msl 3 0 2,.msl 4 0 1],[sA [66,98],sA [65,97],bA false,nS,.msl 6 0 1,.msl 7 0 1]],.xs 10 [[sA [102],nS,sA [73],bA false,bA true,iA 0,iA 0,nS,nS,nS]],.xs 1 [[sA [70,97,99,101]]],.xs 3 [[sA [120],sA [73],bA false],[sA [115],sA [73],bA true]],.xs 10 [[sA [102],nS,sA [73],bA false,bA false,iA 1,iA 1,.msl 5 0 2,nS,nS]],.xs 4 [[iA 1,iA 5,sA [],sA []],[iA 47,iA 0,sA [],sA []]],.xs 3 [[sA [121],sA [91,65,97],bA false]],.xs 10 [[sA [109,97,105,110],nS,sA [86],bA true,bA false,iA 0,iA 0,.msl 8 0 1,nS,nS]],.xs 4 [[iA 46,iA 0,sA [],sA []]]]:=by
 refine ⟨⟨t,t,t,t,t,t,t,t,t,t⟩,zR func93 y kz y ?_⟩;unfold zzR at h;refine A ?_;refine A ?_;refine rg y<|u<|bl 2 ti y ti y (by decide) (by decide) y y y<|u<|bd ti y y y<|u<|bd ti y y y<|u<|bl 3 ti y ti y (by decide) (by decide) y y y<|u<|bd ti y y y<|u<|bd ti y y y<|u<|bl 4 ti y ti y (by decide) (by decide) y y y<|u<|bd (parts:=[(0,sA [102]),(2,sA [73]),(5,iA 1),(6,iA 1),(7,.msl 4 0 2)]) (cs:=[sA [102],nS,sA [73],bA false,bA false,iA 1,iA 1,.msl 4 0 2,nS,nS]) ti y y kz<|u<|bl 5 ti y ti y (by decide) (by decide) y y y<|u<|bd (parts:=[(0,sA [65,97]),(1,sA [79,98,106,101,99,116]),(3,.msl 2 0 1),(4,.msl 3 0 2),(5,.msl 5 0 1)]) (cs:=[sA [65,97],sA [79,98,106,101,99,116],bA false,.msl 2 0 1,.msl 3 0 2,.msl 5 0 1]) ti y y kz<|u<|al 6 ti y<|u<|sto ti y y y<|zw ?_;refine rg y<|u<|sx [] (zyJ [66,98] y)<|u<|al 10 ti y<|A ?_;refine A ?_;refine A ?_;refine u<|bl 11 ti y ti y (by decide) (by decide) y y y<|A ?_;refine A ?_;refine u<|bl 12 ti y ti y (by decide) (by decide) y y y<|A ?_;refine zA ?_;obtain rfl:=h;exact ⟨_,y,Xc [12,0,2,3,5,4,11,8,9]⟩
def zoH(a:T1):Option (T1):=
  some a
def BQ(b:List za)(c:T1)(a:Int):zL (T1×Int) (T1) (T1):=
  cond (decide (a<(length b:Int))) ((idx b a).bind λe=>(Xx 16 c [e.Name]).bind λd=>some (.inl (d,(i64.wrap (a+1))))) (some (.inr (.inl c)))
def BB(a:List za)(c:T2):Option (T1):=
  (zk (λz=>BQ a z.1 z.2) ([],0)).bind λo=>zB o (λb=>zoH b) some
theorem zf7(a:List za)(c:T2){r:T1}(h:BB a c=some r):SC prog 104 [.ipt 2 [[cL a,mI c]] 0 0] [] (.msl 0 0 (length r)) [.many 1 (map Xf r)]:=by
 refine ⟨⟨Xw (sz:=1) (λ_=>y),t⟩,zR func104 y kz y ?_⟩;refine A ?_;refine ze<|A ?_;refine KM y (λhx=>by cases hx) (λ_=>?_);refine zc<|A ?_;refine ze<|A ?_;obtain ⟨o,ho,h⟩:=bs h;refine lpB ho (λz=>[(3,.msl 0 0 (length z.1)),(11,cL a),(12,iA (length a:Int)),(13,iA z.2)]) (λz=>[sT z.1]) (λb=>[(3,.msl 0 0 (length b))]) (λb=>[sT b]) (pF f104 (λr=>.msl 0 0 (length r)) λr=>[sT r]) ⟨[.fresh 1],cv y (.nilown y)<|ce y y<|ce y y<|ce y y<|cn,y,⟨w,t⟩,y,k⟩ ?_ ?_
 .rintro ⟨m,n⟩ r h;refine A ?_;refine ze ?_;apply Xa h y<;>intro d h
  .refine zc<|ze<|zh ?_;obtain ⟨e,p,h⟩:=bs h;refine A ?_;obtain ⟨j,i,h⟩:=bs h;refine A ?_;refine u<|apM 3 ti y ti y y (by decide) ti y y y y (roX (f:=Xf) (z:=[e.Name]) y y) (λ_=>y) y i<|A ?_;refine A ?_;cases h;exact ⟨_,y,zm [3]⟩
  .refine zp ?_;cases h;exact ⟨y,_,y,zm [0]⟩
 .rintro l rfl;refine zl<|A ?_;exact RT1
def zK(a:List za)(b:T2)(c:T0):Option (za×Bool):=
  cond (!(Kf a b c)) (some ((za.mk [] [] false [] [] []),false)) ((Hl a b c).bind λd=>some (d,true))
theorem zky(a:List za)(b:T2)(c:T0){r:za×Bool}(h:zK a b c=some r):Xo prog 106 [.ipt 2 [[cL a,mI b]] 0 0,sA c] (.tup [.agg (zf r.1),bA r.2]):=by
 refine zi func106 y kz y y<|A ?_;refine ze<|A ?_;apply Xa h y<;>intro d h
 .refine A ?_;exact RT0
 .refine zc ?_;obtain ⟨e,f,h⟩:=bs h;refine A ?_;exact RT0
instance (a:List za)(b:T2)(c:T0):PF prog 106 [.ipt 2 [[cL a,mI b]] 0 0,sA c] (zK a b c) (λr=>(.tup [.agg (zf r.1),bA r.2])):=⟨λ_=>zky a b c⟩
def zkz(b:List za)(c:T2)(a:T0):Option (Bool):=
  some ((a == [73])||(Kf b c a))
def zei(d:T0)(a:T0)(c:Bool):zL (T0×T0×Bool) (T0) (Bool):=
  cond c ((Ge a).bind λb=>some (.inl (a,b.1,b.2))) (some (.inr (.inl d)))
def zf8(d:List za)(e:T2)(a:T0):Option (Bool):=
  (Ge a).bind λc=>(zk (λz=>zei z.1 z.2.1 z.2.2) (a,c.1,c.2)).bind λo=>zB o (λb=>zkz d e b) some
instance (c:List za)(d:T2)(e:T0):PF prog 275 [.ipt 2 [[cL c,mI d]] 0 0,sA e] (zf8 c d e) bA:=⟨λr h=>by
 refine zi func275 y kz y y<|A ?_;refine ze ?_;obtain ⟨p,q,h⟩:=bs h;refine A ?_;obtain ⟨o,ho,h⟩:=bs h;refine lpB ho (λz=>[(0,.ipt 2 [[cL c,mI d]] 0 0),(1,sA z.1),(5,sA z.2.1),(6,bA z.2.2)]) (λz=>[]) (λb=>[(0,.ipt 2 [[cL c,mI d]] 0 0),(1,sA b)]) (λb=>[]) (pG f275 bA) (Xb []) ?_ ?_
 .rintro ⟨s,l,m⟩ r h;refine ze<|A ?_;apply Xa h y<;>intro f h
  .refine zc<|ze<|zh<|A ?_;obtain ⟨n,v,h⟩:=bs h;refine A ?_;cases h;exact ⟨_,y,zm []⟩
  .refine zp ?_;cases h;exact ⟨y,_,y,zm []⟩
 .rintro i rfl;refine zl ?_;refine rg y<|u<|mv y<|u<|nep ti y y y y y y<|u<|mv y<|g y y<|mv y<|g y y<|seq ti y y<|g y y<|mv y<|Ud (j:=5) 3 y y y y y (gps y y y) (λa=>g y a<|mv y<|g y a<|mv y<|g y a<|pc (znY c d i y) y y y<|zw (egO [25,26,27] 3 a y y y y)) orT<|u<|pk (b:=true) y y<|u<|asg y<|zw ?_
  exact RT0⟩
def zoa(a:T1):Option (T1):=
  some a
def BJ(b:List za)(c:T2)(a:T0)(d:T1):zL (T0×T1) (T1) (T1):=
  cond (Kf b c a) ((Xx 16 d [a]).bind λe=>(Hl b c a).bind λf=>some (.inl (f.Super,e))) (some (.inr (.inl d)))
def Gk(a:List za)(c:T2)(d:T0):Option (T1):=
  (zk (λz=>BJ a c z.1 z.2) (d,[])).bind λo=>zB o (λb=>zoa b) some
theorem H9(a:List za)(c:T2)(d:T0){r:T1}(h:Gk a c d=some r):SC prog 109 [.ipt 2 [[cL a,mI c]] 0 0,sA d] [] (.msl 0 0 (length r)) [.many 1 (map Xf r)]:=by
 refine ⟨⟨Xw (sz:=1) (λ_=>y),t⟩,zR func109 y kz y ?_⟩;refine A ?_;refine A ?_;obtain ⟨o,ho,h⟩:=bs h;refine lpA ho (λz=>[(0,.ipt 2 [[cL a,mI c]] 0 0),(1,sA z.1),(5,.msl 0 0 (length z.2))]) (λz=>[sT z.2]) (λb=>[(5,.msl 0 0 (length b))]) (λb=>[sT b]) (pF f109 (λr=>.msl 0 0 (length r)) λr=>[sT r]) ⟨[.fresh 1],ce y y<|ce y y<|cv y (.nilown y)<|cn,y,⟨w,t⟩,y,k⟩ ?_ ?_
 .rintro ⟨i,p⟩ r h;refine ze<|A ?_;apply Xa h y<;>intro e h
  .refine zc<|zh ?_;obtain ⟨l,j,h⟩:=bs h;refine A ?_;refine u<|apM 2 ti y ti y y (by decide) ti y y y y (roX (f:=Xf) (z:=[i]) y y) (λ_=>y) y j<|A ?_;obtain ⟨m,q,h⟩:=bs h;refine A ?_;cases h;exact ⟨_,y,zm [2]⟩
  .refine zp ?_;cases h;exact ⟨y,_,y,zm [0]⟩
 .rintro n rfl;refine A ?_;exact RT1
def zjN(a:T1):Option (T1):=
  (IK a).bind λb=>some b
def zjM(a:Int)(b:T1)(c:T1):zL (T1×T1×Int) (T1) (T1):=
  some (.inl (b,c,(i64.wrap (a+1))))
def zf6(a:Int)(b:T1):zL (T1×Int) (T1) (T1):=
  some (.inl (b,(i64.wrap (a+1))))
def zeg(c:za)(a:T1)(b:Int):zL (T1×Int) (T1) (T1):=
  cond (decide (b<(length c.Impl:Int))) ((idx c.Impl b).bind λd=>(zI a d).bind λe=>cond (!e) ((Xx 16 a [d]).bind λf=>zf6 b f) (zf6 b a)) (some (.inr (.inl a)))
def zef(a:T1)(c:Int)(d:za)(e:T1):zL (T1×T1×Int) (T1) (T1):=
  (zk (λz=>zeg d z.1 z.2) (a,0)).bind λo=>zB o (λb=>zjM c e b) (λr=>some (.inr (.inr r)))
def BK(i:List za)(j:T2)(d:T1)(a:T1)(b:Int):zL (T1×T1×Int) (T1) (T1):=
  cond (decide (b<((length a):Int))) ((idx a b).bind λe=>(Hl i j e).bind λc=>cond c.Interface ((Xx 16 d [c.Name]).bind λf=>zef a b c f) (zef a b c d)) (some (.inr (.inl d)))
def EX(a:List za)(c:T2)(d:T0):Option (T1):=
  cond (!(Kf a c d)) (some []) ((Gk a c d).bind λe=>(zk (λz=>BK a c z.1 z.2.1 z.2.2) ([],e,0)).bind λo=>zB o (λb=>zjN b) some)
theorem zh2(d:List za)(e:T2)(s:T0){r:T1}(h:EX d e s=some r):SC prog 276 [.ipt 2 [[cL d,mI e]] 0 0,sA s] [] (.msl 0 0 (length r)) [.many 1 (map Xf r)]:=by
 refine ⟨⟨Xw (sz:=1) (λ_=>y),t⟩,zR func276 y kz y ?_⟩;refine A ?_;refine ze<|A ?_;apply Xa h y<;>intro D h
 .refine A ?_;refine zA ?_;cases h;exact ⟨_,y,[.fresh 1],.nilown y,y,⟨w,t⟩,y,k⟩
 .refine zc<|A ?_;obtain ⟨E,M,h⟩:=bs h;refine A ?_;refine u<|sx [] (H9 d e s M)<|zu (env0:=[(0,.ipt 2 [[cL d,mI e]] 0 0),(5,nS),(17,.msl 0 0 (length E))]) (st0:=[sT E]) (zm [0])<|A ?_;refine ze<|A ?_;obtain ⟨o,ho,h⟩:=bs h;refine lpB ho (λz=>[(0,.ipt 2 [[cL d,mI e]] 0 0),(5,.msl 0 0 (length z.1)),(6,.msl 1 0 (length z.2.1)),(7,iA z.2.2)]) (λz=>[sT z.1,sT z.2.1]) (λb=>[(5,.msl 0 0 (length b))]) (λb=>[sT b]) (pF f276 (λr=>.msl 0 0 (length r)) λr=>[sT r]) ⟨[.fresh 1,0],ce y y<|cv y (.nilown y)<|cv y (.msl y)<|ce y y<|cn,y,⟨w,⟨_,y,XY (λ_=>y)⟩,t⟩,y,k⟩ ?_ ?_
  .rintro ⟨F,j,i⟩ r h;refine ze<|A ?_;apply Xa h y<;>intro v h
   .refine zc<|ze<|zh ?_;obtain ⟨N,O,a,P,h⟩:=bs2 h;refine A ?_;refine Xz (X:=T1) (λz=>[(0,.ipt 2 [[cL d,mI e]] 0 0),(5,.msl 0 0 (length z)),(6,.msl 1 0 (length j)),(7,iA i),(8,.mpt 2 0 0)]) (λz=>[sT z,sT j,some (6,[(zf a)])]) (λz=>zef j i a z=some r) ?_ ?_
    .refine A ?_;apply Xa h y<;>intro x h
     .obtain ⟨G,H,h⟩:=bs h;refine A ?_;refine u<|apM 4 ti y ti y y (by decide) ti y y y y (roX (f:=Xf) (z:=[a.Name]) y y) (λ_=>y) y H<|A ?_;exact (⟨G,h,zm [4,1,2]⟩)
     .refine zc ?_;exact ⟨F,h,zm [0,1,2]⟩
    .rintro c h;refine A ?_;obtain ⟨o,ho,h⟩:=bs h;refine lpS ho (λz=>[(0,.ipt 2 [[cL d,mI e]] 0 0),(5,.msl 0 0 (length c)),(6,.msl 1 0 (length z.1)),(7,iA i),(38,tL a.Impl),(39,iA (length a.Impl:Int)),(40,iA z.2)]) (λz=>[sT c,sT z.1]) (λb=>[(0,.ipt 2 [[cL d,mI e]] 0 0),(5,.msl 0 0 (length c)),(6,.msl 1 0 (length b)),(7,iA i)]) (λb=>[sT c,sT b]) (pF f276 (λr=>.msl 0 0 (length r)) λr=>[sT r]) (Xb [0,1]) ?_ ?_ ?_
     .rintro ⟨l,m⟩ r h;refine A ?_;refine ze ?_;apply Xa h y<;>intro B h
      .refine zc ?_;refine Xz (X:=T1) (λz=>[(0,.ipt 2 [[cL d,mI e]] 0 0),(5,.msl 0 0 (length c)),(6,.msl 1 0 (length z)),(7,iA i),(38,tL a.Impl),(39,iA (length a.Impl:Int)),(40,iA m)]) (λz=>[sT c,sT z]) (λz=>zf6 m z=some r) ?_ ?_
       .refine zh ?_;obtain ⟨n,Q,h⟩:=bs h;refine A ?_;obtain ⟨R,I,h⟩:=bs h;refine rg y<|u<|mv y<|u<|mv y<|u<|pcs (Wh l n I) y y (.cons (XM y (λ_=>y)) (.cons (si y) .nil)) XA<|A ?_;apply Xa h y<;>intro C h
        .obtain ⟨J,K,h⟩:=bs h;refine A ?_;refine u<|apM 3 ti y ti y y (by decide) ti y y y y (roX (f:=Xf) (z:=[n]) y y) (λ_=>y) y K<|A ?_;exact (⟨J,h,zm [0,3]⟩)
        .refine zc ?_;exact ⟨l,h,zm [0,1]⟩
       .rintro S h;refine A ?_;cases h;exact ⟨_,y,zm [0,1]⟩
      .refine zp ?_;cases h;exact ⟨y,_,y,zm [0,1]⟩
     .rintro T rfl;refine zl<|A ?_;cases h;exact ⟨_,y,zm [0,1]⟩
     .rintro r' rfl env st hp;cases h;exact ⟨_,y,hp⟩
   .refine zp ?_;cases h;exact ⟨y,_,y,zm [0]⟩
  .rintro L rfl;refine zl ?_;obtain ⟨p,q,h⟩:=bs h;refine rg y<|u<|mv y<|u<|sx [0] (zFT L q)<|zu (env0:=[(5,.msl 0 0 (length p))]) (st0:=[sT p]) ⟨[0],cv y (BV (zDT q) y)<|cn,y,⟨⟨_,y,XY (λ_=>y)⟩,t⟩,y,k⟩<|zw ?_;refine A ?_;exact RT1
def Wa(q:((List za)×T2×T0×T0->Option Bool))(b:List za)(c:T2)(d:T0)(a:T0):Option (Bool):=
  (zf8 b c d).bind λs=>(cond (!s) (some true) ((zf8 b c a).bind λv=>some (!v))).bind λx=>cond x (some false) ((Ge d).bind λe=>(Ge a).bind λf=>cond (d == a) (some true) (cond (e.2&&f.2) ((cond ((!(e.1 == [73]))&&(!(f.1 == [73]))) ((q (b,c,e.1,f.1)).bind λi=>some i) (some false)).bind λj=>some j) (cond e.2 (some (a == [79,98,106,101,99,116])) ((Gk b c d).bind λl=>(zI l a).bind λm=>(cond m (some true) ((EX b c d).bind λn=>(zI n a).bind λo=>some o)).bind λp=>some p))))
theorem zoI(p:((List za)×T2×T0×T0->Option Bool))(hrec:∀z r,p z=some r->Xo prog 196 [.ipt 2 [[cL z.1,mI z.2.1]] 0 0,sA z.2.2.1,sA z.2.2.2] (bA r))(e:List za)(f:T2)(i:T0)(l:T0){r:Bool}(h:Wa p e f i l=some r):Xo prog 196 [.ipt 2 [[cL e,mI f]] 0 0,sA i,sA l] (bA r):=by
 refine zi func196 y kz y y<|A ?_;refine ze ?_;obtain ⟨N,O,P,Q,h⟩:=bs2 h;refine A ?_;apply Xa h y<;>intro q h
 .refine A ?_;exact RT0
 .refine zc ?_;obtain ⟨I,R,h⟩:=bs h;refine A ?_;obtain ⟨J,S,h⟩:=bs h;refine A ?_;refine ze<|zh<|A ?_;apply Xa h y<;>intro s h
  .refine A ?_;exact RT0
  .refine A ?_;apply Xa h y<;>intro n h
   .obtain ⟨v,d,h⟩:=bs h;refine A ?_;refine Zi (x:=v) (j:=6) 4 y y y y y gpn (λc=>by replace d:=bT c d;obtain ⟨K,B,d⟩:=bs d;obtain rfl:=sm d;exact g y c<|mv y<|g y c<|mv y<|g y c<|mv y<|g y c<|pc (hrec (e,f,I.1,J.1) _ B) y y y<|zw (eg [47,48,49,50] 4 y y y y)) (λhb=>(sm (bF hb d)).symm)<|A ?_;exact RT0
   .refine A ?_;apply Xa h y<;>intro o h
    .refine A ?_;exact RT0
    .refine zc ?_;obtain ⟨m,C,L,D,E,b,h⟩:=bs3 h;refine A ?_;refine u<|sx [] (H9 e f i C)<|zu (env0:=[(0,.ipt 2 [[cL e,mI f]] 0 0),(1,sA i),(2,sA l),(58,.msl 0 0 (length m))]) (st0:=[sT m]) (zm [0])<|u<|mv y<|u<|pcs (Wh m l D) y y (.cons (XM y (λ_=>y)) (.cons (si y) .nil)) XA<|u<|mv y<|ID (x:=E) (j:=5) 5 1 y y y y y gpn (λa=>by replace b:=bF a b;obtain ⟨F,G,b⟩:=bs b;obtain ⟨M,H,b⟩:=bs b;obtain rfl:=sm b;exact g y a<|mv y<|g y a<|mv y<|g y a<|sx [] (zh2 e f i G)<|g y a<|mv y<|g y a<|pcs (Wh F l H) y y (.cons (XM y (λ_=>y)) (.cons (si y) .nil)) XA<|zw (xg [62,63,64,65,66] 5 y y y y y y)) (λhb=>(sm (bT hb b)).symm)<|A ?_;exact RT0
def H2(a:List za)(b:T2)(c:T0)(d:T0):Option Bool:=
  BT (λe z=>Wa e z.1 z.2.1 z.2.2.1 z.2.2.2) (a,b,c,d)
theorem Ih(b:List za)(c:T2)(d:T0)(e:T0){r:Bool}(h:H2 b c d e=some r):Xo prog 196 [.ipt 2 [[cL b,mI c]] 0 0,sA d,sA e] (bA r):=
  zDC (F:=(λa z=>Wa a z.1 z.2.1 z.2.2.1 z.2.2.2)) (Q:=λz r=>Xo prog 196 [.ipt 2 [[cL z.1,mI z.2.1]] 0 0,sA z.2.2.1,sA z.2.2.2] (bA r)) (λa hv z r h=>zoI a hv z.1 z.2.1 z.2.2.1 z.2.2.2 h) h
def HY(b:List za)(c:T2)(a:T0):Option (Bool):=
  (cond ((a == [78])||(a == [84])) (some true) ((H2 b c a a).bind λd=>some d)).bind λe=>some e
instance (f:List za)(i:T2)(e:T0):PF prog 193 [.ipt 2 [[cL f,mI i]] 0 0,sA e] (HY f i e) bA:=⟨λr h=>by
 refine zi func193 y kz y y<|A ?_;obtain ⟨l,c,h⟩:=bs h;refine rg y<|u<|mv y<|u<|nep ti y y y y y y<|u<|mv y<|g y y<|mv y<|g y y<|seq ti y y<|g y y<|mv y<|Ud (j:=5) 2 y y y y y (gps y y y) (λd=>g y d<|mv y<|g y d<|seq ti y y<|zw (egO [11,12] 2 d y y y y)) orT<|g y y<|mv y<|Ud (x:=l) (j:=9) 4 y y y y y (gps y y y) (λa=>by replace c:=bF a c;obtain ⟨n,m,c⟩:=bs c;obtain rfl:=sm c;exact g y a<|mv y<|g y a<|mv y<|g y a<|mv y<|g y a<|pc (Ih f i e e m) y y y<|zw (eg [15,16,17,18] 4 y y y y)) (λhb=>(sm (bT hb c)).symm)<|u<|pk (b:=true) y y<|u<|asg y<|zw ?_
 exact RT0⟩
def DW(a:T0)(b:List za)(c:T2):Option (Bool):=
  (cond ((!(a == [86]))&&(!(a == []))) ((HY b c a).bind λd=>some (!d)) (some false)).bind λe=>some e
instance (a:T0)(b:List za)(c:T2):PF prog 299 [sA a,.ipt 1 [[.ipt 2 [[cL b,mI c]] 0 0]] 0 0] (DW a b c) bA:=⟨λr h=>by
 refine zi func299 y kz y y<|A ?_;obtain ⟨d,e,h⟩:=bs h;refine A ?_
 exact RT0⟩
def zmv(a:zg)(b:List za)(c:T2):Option (Bool):=
  (DW a.Type_ b c).bind λd=>some d
instance (a:zg)(b:List za)(c:T2):PF prog 300 [.agg (zv a),.ipt 1 [[.fn (.func 299) [] [.ipt 1 [[.ipt 2 [[cL b,mI c]] 0 0]] 0 0]]] 0 0] (zmv a b c) bA:=⟨λr h=>by
 refine zi func300 y kz y y<|A ?_;obtain ⟨d,e,h⟩:=bs h;refine A ?_
 exact RT0⟩
def zdu:Option (Int):=
  some (-1)
def zaM(b:List zg)(c:List za)(d:T2)(a:Int):zL (Int) (Unit) (Int):=
  cond (decide (a<(length b:Int))) ((idx b a).bind λe=>(zmv e c d).bind λf=>cond f (some (.inr (.inr a))) (some (.inl (i64.wrap (a+1))))) (some (.inr (.inl ())))
def zca(a:List zg)(c:List za)(d:T2):Option (Int):=
  (zk (λz=>zaM a c d z) 0).bind λo=>zB o (λb=>zdu) some
instance (a:List zg)(c:List za)(d:T2):PF prog 315 [.isl 3 (map zv a),.fn (.func 300) [] [.ipt 1 [[.fn (.func 299) [] [.ipt 1 [[.ipt 2 [[cL c,mI d]] 0 0]] 0 0]]] 0 0]] (zca a c d) iA:=⟨λr h=>by
 refine zi func315 y kz y y<|A ?_;refine ze<|A ?_;obtain ⟨o,ho,h⟩:=bs h;refine lpB ho (λz=>[(0,.isl 3 (map zv a)),(1,.fn (.func 300) [] [.ipt 1 [[.fn (.func 299) [] [.ipt 1 [[.ipt 2 [[cL c,mI d]] 0 0]] 0 0]]] 0 0]),(7,iA (length a:Int)),(8,iA z)]) (λz=>[]) (λb=>[]) (λb=>[]) (pG f315 iA) (Xb []) ?_ ?_
 .rintro i r h;refine A ?_;refine ze ?_;apply Xa h y<;>intro e h
  .refine zc<|ze<|zh<|A ?_;obtain ⟨j,l,m,n,h⟩:=bs2 h;refine A ?_;apply Xa h y<;>intro f h
   .refine A ?_;refine zA ?_;cases h;exact ⟨_,y,_,y,Xc []⟩
   .refine zc<|A ?_;cases h;exact ⟨_,y,zm []⟩
  .refine zp ?_;cases h;exact ⟨y,_,y,zm []⟩
 .rintro ⟨⟩ rfl;refine zl<|A ?_
  exact RT0⟩
def zan(a:List zg)(b:List za)(c:T2):Option (Bool):=
  (zca a b c).bind λd=>some (decide (0≤d))
theorem zcU(a:List zg)(b:List za)(c:T2){r:Bool}(h:zan a b c=some r):Xo prog 234 [.isl 3 (map zv a),.fn (.func 300) [] [.ipt 1 [[.fn (.func 299) [] [.ipt 1 [[.ipt 2 [[cL b,mI c]] 0 0]] 0 0]]] 0 0]] (bA r):=by
 refine zi func234 y kz y y<|A ?_;obtain ⟨d,e,h⟩:=bs h;refine A ?_;exact RT0
instance (a:List zg)(b:List za)(c:T2):PF prog 234 [.isl 3 (map zv a),.fn (.func 300) [] [.ipt 1 [[.fn (.func 299) [] [.ipt 1 [[.ipt 2 [[cL b,mI c]] 0 0]] 0 0]]] 0 0]] (zan a b c) bA:=⟨λ_=>zcU a b c⟩
def zkQ(a:zU)(b:List za)(c:T2):Option (Bool):=
  (DW a.C b c).bind λd=>some d
instance (a:zU)(b:List za)(c:T2):PF prog 303 [.agg (XD a),.ipt 1 [[.fn (.func 299) [] [.ipt 1 [[.ipt 2 [[cL b,mI c]] 0 0]] 0 0]]] 0 0] (zkQ a b c) bA:=⟨λr h=>by
 refine zi func303 y kz y y<|A ?_;obtain ⟨d,e,h⟩:=bs h;refine A ?_
 exact RT0⟩
def zea:Option (Int):=
  some (-1)
def zaZ(b:List zU)(c:List za)(d:T2)(a:Int):zL (Int) (Unit) (Int):=
  cond (decide (a<(length b:Int))) ((idx b a).bind λe=>(zkQ e c d).bind λf=>cond f (some (.inr (.inr a))) (some (.inl (i64.wrap (a+1))))) (some (.inr (.inl ())))
def zcn(a:List zU)(c:List za)(d:T2):Option (Int):=
  (zk (λz=>zaZ a c d z) 0).bind λo=>zB o (λb=>zea) some
instance (a:List zU)(c:List za)(d:T2):PF prog 348 [.isl 4 (map XD a),.fn (.func 303) [] [.ipt 1 [[.fn (.func 299) [] [.ipt 1 [[.ipt 2 [[cL c,mI d]] 0 0]] 0 0]]] 0 0]] (zcn a c d) iA:=⟨λr h=>by
 refine zi func348 y kz y y<|A ?_;refine ze<|A ?_;obtain ⟨o,ho,h⟩:=bs h;refine lpB ho (λz=>[(0,.isl 4 (map XD a)),(1,.fn (.func 303) [] [.ipt 1 [[.fn (.func 299) [] [.ipt 1 [[.ipt 2 [[cL c,mI d]] 0 0]] 0 0]]] 0 0]),(7,iA (length a:Int)),(8,iA z)]) (λz=>[]) (λb=>[]) (λb=>[]) (pG f348 iA) (Xb []) ?_ ?_
 .rintro i r h;refine A ?_;refine ze ?_;apply Xa h y<;>intro e h
  .refine zc<|ze<|zh<|A ?_;obtain ⟨j,l,m,n,h⟩:=bs2 h;refine A ?_;apply Xa h y<;>intro f h
   .refine A ?_;refine zA ?_;cases h;exact ⟨_,y,_,y,Xc []⟩
   .refine zc<|A ?_;cases h;exact ⟨_,y,zm []⟩
  .refine zp ?_;cases h;exact ⟨y,_,y,zm []⟩
 .rintro ⟨⟩ rfl;refine zl<|A ?_
  exact RT0⟩
def zaY(a:List zU)(b:List za)(c:T2):Option (Bool):=
  (zcn a b c).bind λd=>some (decide (0≤d))
instance (a:List zU)(b:List za)(c:T2):PF prog 302 [.isl 4 (map XD a),.fn (.func 303) [] [.ipt 1 [[.fn (.func 299) [] [.ipt 1 [[.ipt 2 [[cL b,mI c]] 0 0]] 0 0]]] 0 0]] (zaY a b c) bA:=⟨λr h=>by
 refine zi func302 y kz y y<|A ?_;obtain ⟨d,e,h⟩:=bs h;refine A ?_
 exact RT0⟩
def zsI:Option (T0×zg×Bool):=
  some ([],(zg.mk [] [] false),false)
def EJ(i:List za)(j:T2)(l:T0)(e:T1)(a:Int):zL (Int) (Unit) (T0×zg×Bool):=
  cond (decide (a<((length e):Int))) ((idx e a).bind λb=>(zK i j b).bind λc=>(zln c.1 l).bind λd=>cond (decide (0≤d)) ((idx c.1.Fields d).bind λf=>some (.inr (.inr (b,f,true)))) (some (.inl (i64.wrap (a+1))))) (some (.inr (.inl ())))
def Ea(a:List za)(c:T2)(d:T0)(e:T0):Option (T0×zg×Bool):=
  (Gk a c d).bind λf=>(zk (λz=>EJ a c e f z) 0).bind λo=>zB o (λb=>zsI) some
instance (a:List za)(c:T2)(f:T0)(d:T0):PF prog 134 [.ipt 2 [[cL a,mI c]] 0 0,sA f,sA d] (Ea a c f d) (λr=>(.tup [sA r.1,.agg (zv r.2.1),bA r.2.2])):=⟨λr h=>by
 refine zi func134 y kz y y<|A ?_;refine ze ?_;obtain ⟨e,p,h⟩:=bs h;refine A ?_;refine u<|sx [] (H9 a c f p)<|zu (env0:=[(0,.ipt 2 [[cL a,mI c]] 0 0),(2,sA d),(7,.mpt 0 0 0),(16,.msl 1 0 (length e))]) (st0:=[some (3,[[sA [],sA [],bA false]]),sT e]) (zm [0,1])<|A ?_;obtain ⟨o,ho,h⟩:=bs h;refine lpB ho (λz=>[(0,.ipt 2 [[cL a,mI c]] 0 0),(2,sA d),(7,.mpt 0 0 0),(16,.msl 1 0 (length e)),(17,iA ((length e):Int)),(18,iA z)]) (λz=>[some (3,[[sA [],sA [],bA false]]),sT e]) (λb=>[(7,.mpt 0 0 0)]) (λb=>[some (3,[[sA [],sA [],bA false]])]) (pG f134 (λr=>.tup [sA r.1,.agg (zv r.2.1),bA r.2.2])) (Xb [0,1]) ?_ ?_
 .rintro q r h;refine A ?_;refine ze ?_;apply Xa h y<;>intro j h
  .refine zc<|ze<|zh ?_;obtain ⟨s,C,h⟩:=bs h;refine A ?_;obtain ⟨l,v,h⟩:=bs h;refine A ?_;obtain ⟨x,m,h⟩:=bs h;refine rg y<|u<|ld ti y y<|u<|mv y<|u<|pc (zpR l.1 d m) y y y<|u<|asg y<|zw ?_;refine rg y<|u<|mv y<|u<|geq ti y y<|zw ?_;apply Xa h y<;>intro i h
   .obtain ⟨n,B,h⟩:=bs h;refine rdA [(6,_),(7,_),(8,_)] [some (3,[(zv n)])] [7] [0,1,2,3,4,5,6] [(6,_),(38,_),(37,_),(36,_),(35,_),(34,_),(33,_)] 1 (Xi (z:=by exact ⟨(λ_ _=>⟨_,y,y,sto ti y y y<|⟨.any,[8],[(8,_)],y,y,y,t,Xl (z:=Xb [0])⟩⟩),t⟩)) ?_;refine zA ?_;cases h;exact ⟨_,y,_,y,Xc []⟩
   .refine zc<|A ?_;cases h;exact ⟨_,y,zm [0,1]⟩
  .refine zp ?_;cases h;exact ⟨y,_,y,zm [0]⟩
 .rintro ⟨⟩ rfl;refine zl<|A ?_
  exact RT0⟩
def UF(a:zb):Bool:=
  (!(a.Name == [36,105,110,105,116]))
theorem zkT(a:zb){r:Bool}(h:UF a=r):Xo prog 219 [.agg (zd a)] (bA r):=by
 refine zi func219 y kz y y ?_;unfold UF at h;refine A ?_;refine A ?_;refine zA ?_;obtain rfl:=h;exact ⟨_,y,Xc []⟩
instance (a:zb):PF prog 219 [.agg (zd a)] (some (UF a)) bA:=.of λ_=>zkT a
def ztC:Option (T0×zb×Bool):=
  some ([],(zb.mk [] [] [] false false 0 0 [] [] []),false)
def Eo(l:List za)(m:T2)(e:T1)(n:T0)(a:Int):zL (Int) (Unit) (T0×zb×Bool):=
  cond (decide (a<(length e:Int))) ((idx e a).bind λd=>(zK l m d).bind λb=>(HX b.1 n).bind λc=>(cond (decide (0≤c)) ((idx b.1.Methods c).bind λf=>some (UF f)) (some false)).bind λi=>cond i ((idx b.1.Methods c).bind λj=>some (.inr (.inr (d,j,true)))) (some (.inl (i64.wrap (a+1))))) (some (.inr (.inl ())))
def zkC(a:List za)(c:T2)(d:T1)(e:T0):Option (T0×zb×Bool):=
  (zk (λz=>Eo a c d e z) 0).bind λo=>zB o (λb=>ztC) some
instance (i:List za)(l:T2)(d:T1)(e:T0):PF prog 218 [.ipt 2 [[cL i,mI l]] 0 0,tL d,sA e,.fn (.func 219) [] []] (zkC i l d e) (λr=>(.tup [sA r.1,.agg (zd r.2.1),bA r.2.2])):=⟨λr h=>by
 refine zi func218 y kz y y<|A ?_;refine ze<|A ?_;obtain ⟨o,ho,h⟩:=bs h;refine lpB ho (λz=>[(0,.ipt 2 [[cL i,mI l]] 0 0),(2,sA e),(3,.fn (.func 219) [] []),(9,.mpt 0 0 0),(16,tL d),(17,iA (length d:Int)),(18,iA z)]) (λz=>[some (10,[[sA [],nS,sA [],bA false,bA false,iA 0,iA 0,nS,nS,nS]])]) (λb=>[(9,.mpt 0 0 0)]) (λb=>[some (10,[[sA [],nS,sA [],bA false,bA false,iA 0,iA 0,nS,nS,nS]])]) (pG f218 (λr=>.tup [sA r.1,.agg (zd r.2.1),bA r.2.2])) (Xb [0]) ?_ ?_
 .rintro C r h;refine A ?_;refine ze ?_;apply Xa h y<;>intro m h
  .refine zc<|ze<|zh ?_;obtain ⟨D,E,h⟩:=bs h;refine A ?_;obtain ⟨p,F,h⟩:=bs h;refine A ?_;obtain ⟨G,q,h⟩:=bs h;refine rg y<|u<|ld ti y y<|u<|mv y<|u<|pc (zhX p.1 e q) y y y<|u<|asg y<|zw ?_;obtain ⟨s,c,h⟩:=bs h;refine rg y<|u<|mv y<|u<|geq ti y y<|u<|mv y<|Zi (x:=s) (j:=2) 7 y y y y y gpn (λa=>by replace c:=bT a c;obtain ⟨v,f,c⟩:=bs c;obtain rfl:=sm c;exact g y a<|mv y<|g y a<|fa ti y y y<|g y a<|ld ti y y<|g y a<|mv y<|g y a<|ixI ti y ti y y y f<|g y a<|ldI ti y (zQ f).2.2 y<|g y a<|pc (zkT v y) y y y<|zw (eg [34,35,36,37,38,39,40] 7 y y y y)) (λhb=>(sm (bF hb c)).symm)<|zw ?_;apply Xa h y<;>intro n h
   .obtain ⟨B,H,h⟩:=bs h;refine rdA [(8,_),(9,_),(10,_)] [some (10,[(zd B)])] [7] [0,1,2,3,4,5,6] [(8,_),(47,_),(46,_),(45,_),(44,_),(43,_),(42,_)] 1 (Xi (z:=by exact ⟨(λ_ _=>⟨_,y,y,sto ti y y y<|⟨.any,[8],[(10,_)],y,y,y,t,Xl (z:=Xb [0])⟩⟩),t⟩)) ?_;refine zA ?_;cases h;exact ⟨_,y,_,y,Xc []⟩
   .refine zc<|A ?_;cases h;exact ⟨_,y,zm [0]⟩
  .refine zp ?_;cases h;exact ⟨y,_,y,zm [0]⟩
 .rintro ⟨⟩ rfl;refine zl<|A ?_
  exact RT0⟩
def Eh(b:List za)(c:T2)(d:T0)(e:T0):Option (T0×zb×Bool):=
  (Gk b c d).bind λf=>(zkC b c f e).bind λa=>some (a.1,a.2.1,a.2.2)
instance (a:List za)(b:T2)(d:T0)(c:T0):PF prog 124 [.ipt 2 [[cL a,mI b]] 0 0,sA d,sA c] (Eh a b d c) (λr=>(.tup [sA r.1,.agg (zd r.2.1),bA r.2.2])):=⟨λr h=>by
 refine zi func124 y kz y y<|A ?_;obtain ⟨e,f,i,j,h⟩:=bs2 h;refine A ?_;refine u<|sx [] (H9 a b d f)<|zu (env0:=[(2,sA c),(7,.mpt 0 0 0),(9,.ipt 2 [[cL a,mI b]] 0 0),(12,.msl 1 0 (length e))]) (st0:=[some (10,[[sA [],nS,sA [],bA false,bA false,iA 0,iA 0,nS,nS,nS]]),sT e]) (zm [0,1])<|u<|mv y<|zu (env0:=[(7,.mpt 0 0 0),(9,.ipt 2 [[cL a,mI b]] 0 0),(12,tL e),(13,sA c)]) (st0:=[some (10,[[sA [],nS,sA [],bA false,bA false,iA 0,iA 0,nS,nS,nS]])]) (zm [0])<|A ?_
 exact RT0⟩
def Hk(a:zb):Bool:=
  true
theorem zpZ(a:zb){r:Bool}(h:Hk a=r):Xo prog 329 [.agg (zd a)] (bA r):=by
 refine zi func329 y kz y y ?_;unfold Hk at h;refine A ?_;refine A ?_;refine zA ?_;obtain rfl:=h;exact ⟨_,y,Xc []⟩
instance (a:zb):PF prog 329 [.agg (zd a)] (some (Hk a)) bA:=.of λ_=>zpZ a
def ztD:Option (T0×zb×Bool):=
  some ([],(zb.mk [] [] [] false false 0 0 [] [] []),false)
def En(l:List za)(m:T2)(e:T1)(n:T0)(a:Int):zL (Int) (Unit) (T0×zb×Bool):=
  cond (decide (a<(length e:Int))) ((idx e a).bind λd=>(zK l m d).bind λb=>(HX b.1 n).bind λc=>(cond (decide (0≤c)) ((idx b.1.Methods c).bind λf=>some (Hk f)) (some false)).bind λi=>cond i ((idx b.1.Methods c).bind λj=>some (.inr (.inr (d,j,true)))) (some (.inl (i64.wrap (a+1))))) (some (.inr (.inl ())))
def zmi(a:List za)(c:T2)(d:T1)(e:T0):Option (T0×zb×Bool):=
  (zk (λz=>En a c d e z) 0).bind λo=>zB o (λb=>ztD) some
instance (i:List za)(l:T2)(d:T1)(e:T0):PF prog 218 [.ipt 2 [[cL i,mI l]] 0 0,tL d,sA e,.fn (.func 329) [] []] (zmi i l d e) (λr=>(.tup [sA r.1,.agg (zd r.2.1),bA r.2.2])):=⟨λr h=>by
 refine zi func218 y kz y y<|A ?_;refine ze<|A ?_;obtain ⟨o,ho,h⟩:=bs h;refine lpB ho (λz=>[(0,.ipt 2 [[cL i,mI l]] 0 0),(2,sA e),(3,.fn (.func 329) [] []),(9,.mpt 0 0 0),(16,tL d),(17,iA (length d:Int)),(18,iA z)]) (λz=>[some (10,[[sA [],nS,sA [],bA false,bA false,iA 0,iA 0,nS,nS,nS]])]) (λb=>[(9,.mpt 0 0 0)]) (λb=>[some (10,[[sA [],nS,sA [],bA false,bA false,iA 0,iA 0,nS,nS,nS]])]) (pG f218 (λr=>.tup [sA r.1,.agg (zd r.2.1),bA r.2.2])) (Xb [0]) ?_ ?_
 .rintro C r h;refine A ?_;refine ze ?_;apply Xa h y<;>intro m h
  .refine zc<|ze<|zh ?_;obtain ⟨D,E,h⟩:=bs h;refine A ?_;obtain ⟨p,F,h⟩:=bs h;refine A ?_;obtain ⟨G,q,h⟩:=bs h;refine rg y<|u<|ld ti y y<|u<|mv y<|u<|pc (zhX p.1 e q) y y y<|u<|asg y<|zw ?_;obtain ⟨s,c,h⟩:=bs h;refine rg y<|u<|mv y<|u<|geq ti y y<|u<|mv y<|Zi (x:=s) (j:=2) 7 y y y y y gpn (λa=>by replace c:=bT a c;obtain ⟨v,f,c⟩:=bs c;obtain rfl:=sm c;exact g y a<|mv y<|g y a<|fa ti y y y<|g y a<|ld ti y y<|g y a<|mv y<|g y a<|ixI ti y ti y y y f<|g y a<|ldI ti y (zQ f).2.2 y<|g y a<|pc (zpZ v y) y y y<|zw (eg [34,35,36,37,38,39,40] 7 y y y y)) (λhb=>(sm (bF hb c)).symm)<|zw ?_;apply Xa h y<;>intro n h
   .obtain ⟨B,H,h⟩:=bs h;refine rdA [(8,_),(9,_),(10,_)] [some (10,[(zd B)])] [7] [0,1,2,3,4,5,6] [(8,_),(47,_),(46,_),(45,_),(44,_),(43,_),(42,_)] 1 (Xi (z:=by exact ⟨(λ_ _=>⟨_,y,y,sto ti y y y<|⟨.any,[8],[(10,_)],y,y,y,t,Xl (z:=Xb [0])⟩⟩),t⟩)) ?_;refine zA ?_;cases h;exact ⟨_,y,_,y,Xc []⟩
   .refine zc<|A ?_;cases h;exact ⟨_,y,zm [0]⟩
  .refine zp ?_;cases h;exact ⟨y,_,y,zm [0]⟩
 .rintro ⟨⟩ rfl;refine zl<|A ?_
  exact RT0⟩
def zkB(a:List za)(b:T2)(c:T0)(e:T0):Option (T0×zb×Bool):=
  (zK a b c).bind λf=>cond (!f.1.Interface) (some ([],(zb.mk [] [] [] false false 0 0 [] [] []),false)) ((EX a b c).bind λi=>(Xx 16 [c] i).bind λj=>(zmi a b j e).bind λd=>some (d.1,d.2.1,d.2.2))
instance (a:List za)(b:T2)(c:T0)(d:T0):PF prog 252 [.ipt 2 [[cL a,mI b]] 0 0,sA c,sA d] (zkB a b c d) (λr=>(.tup [sA r.1,.agg (zd r.2.1),bA r.2.2])):=⟨λr h=>by
 refine zi func252 y kz y y<|A ?_;obtain ⟨n,o,h⟩:=bs h;refine A ?_;refine ze<|A ?_;apply Xa h y<;>intro e h
 .refine A ?_;exact RT0
 .refine zc ?_;obtain ⟨p,i,j,m,q,s,h⟩:=bs3 h;refine A ?_;refine u<|sx [] (zh2 a b c i)<|u<|apM (l:=[c]) (f:=Xf) 4 ti y ti y y (by decide) ti y y y y (roM y) (λ_=>y) y m<|u<|mv y<|zu (env0:=[(7,.mpt 0 0 0),(21,.ipt 2 [[cL a,mI b]] 0 0),(27,tL j),(28,sA d)]) (st0:=[some (10,[[sA [],nS,sA [],bA false,bA false,iA 0,iA 0,nS,nS,nS]])]) (zm [0])<|A ?_
  exact RT0⟩
def Er(a:Bool):Option (Bool):=
  some a
def zhZ(b:List za)(c:T2)(a:zs)(d:za×Bool)(e:Bool):Option (Bool):=
  cond e ((Eh b c a.C a.M).bind λf=>Er (f.2.2&&(!d.1.Interface))) (cond (a.Op == 45) ((zkB b c a.C a.M).bind λi=>Er i.2.2) (Er true))
def Es(b:List za)(c:T2)(a:zs)(d:za×Bool)(e:Bool):Option (Bool):=
  cond e ((Ea b c a.C a.M).bind λf=>Er f.2.2) (cond (a.Op == 42) (zhZ b c a d (a.Op == 42)) (cond (a.Op == 43) (zhZ b c a d (a.Op == 43)) (zhZ b c a d (a.Op == 44))))
def zmb(b:List za)(c:T2)(a:zs):Option (Bool):=
  (zK b c a.C).bind λd=>cond (a.Op == 38) (Es b c a d (a.Op == 38)) (cond (a.Op == 39) (Es b c a d (a.Op == 39)) (cond (a.Op == 40) (Es b c a d (a.Op == 40)) (Es b c a d (a.Op == 41))))
instance (b:List za)(c:T2)(a:zs):PF prog 306 [.ipt 2 [[cL b,mI c]] 0 0,.agg (zt a)] (zmb b c a) bA:=⟨λr h=>by
 refine zi func306 y kz y y<|A ?_;obtain ⟨d,C,h⟩:=bs h;refine A ?_;refine A ?_;refine Xz (X:=Bool) (λz=>[(7,bA z)]) (λz=>[]) (λz=>Er z=some r) ?_ ?_
 .refine A ?_;refine zh ?_;refine Xz (X:=Bool) (λz=>[(0,.ipt 2 [[cL b,mI c]] 0 0),(3,.mpt 0 0 0),(5,.mpt 1 0 0),(7,bA true),(16,iA a.Op),(17,bA z)]) (λz=>[some (4,[(zt a)]),some (6,[(zf d.1)])]) (λz=>Es b c a d z=some r) ?_ ?_
  .refine A ?_;apply Xa h y<;>intro f h
   .refine zc ?_;exact ⟨(a.Op == 38),h,zm [0,1]⟩
   .refine A ?_;apply Xa h y<;>intro i h
    .refine zc ?_;exact ⟨(a.Op == 39),h,zm [0,1]⟩
    .refine A ?_;apply Xa h y<;>intro j h
     .refine zc ?_;exact ⟨(a.Op == 40),h,zm [0,1]⟩
     .refine A ?_;exact (⟨(a.Op == 41),h,zm [0,1]⟩)
  .rintro D h;apply Xa h y<;>intro l h
   .obtain ⟨p,E,h⟩:=bs h;refine A ?_;exact (⟨p.2.2,h,zm []⟩)
   .refine Xz (X:=Bool) (λz=>[(0,.ipt 2 [[cL b,mI c]] 0 0),(3,.mpt 0 0 0),(5,.mpt 1 0 0),(7,bA true),(16,iA a.Op),(32,bA z)]) (λz=>[some (4,[(zt a)]),some (6,[(zf d.1)])]) (λz=>zhZ b c a d z=some r) ?_ ?_
    .refine A ?_;apply Xa h y<;>intro m h
     .refine zc ?_;exact ⟨(a.Op == 42),h,zm [0,1]⟩
     .refine A ?_;apply Xa h y<;>intro n h
      .refine zc ?_;exact ⟨(a.Op == 43),h,zm [0,1]⟩
      .refine A ?_;exact (⟨(a.Op == 44),h,zm [0,1]⟩)
    .rintro F h;apply Xa h y<;>intro o h
     .obtain ⟨q,v,h⟩:=bs h;refine A ?_;refine A ?_;exact (⟨(q.2.2&&(!d.1.Interface)),h,zm []⟩)
     .refine A ?_;apply Xa h y<;>intro e h
      .obtain ⟨s,x,h⟩:=bs h;refine A ?_;exact (⟨s.2.2,h,zm []⟩)
      .refine zc ?_;exact ⟨true,h,zm []⟩
 .rintro B h;refine A ?_
  exact RT0⟩
def ziR(a:zs)(b:List za)(c:T2)(d:List za)(e:T2):Option (Bool):=
  (DW a.C b c).bind λf=>(cond f (some true) ((zmb d e a).bind λi=>some (!i))).bind λj=>some j
instance (a:zs)(b:List za)(c:T2)(d:List za)(e:T2):PF prog 305 [.agg (zt a),.ipt 1 [[.fn (.func 299) [] [.ipt 1 [[.ipt 2 [[cL b,mI c]] 0 0]] 0 0]]] 0 0,.ipt 1 [[.ipt 2 [[cL d,mI e]] 0 0]] 0 0] (ziR a b c d e) bA:=⟨λr h=>by
 refine zi func305 y kz y y<|A ?_;obtain ⟨f,i,j,l,h⟩:=bs2 h;refine A ?_
 exact RT0⟩
def zeP:Option (Int):=
  some (-1)
def zbb(b:List zs)(e:List za)(f:T2)(i:List za)(j:T2)(a:Int):zL (Int) (Unit) (Int):=
  cond (decide (a<(length b:Int))) ((idx b a).bind λc=>(ziR c e f i j).bind λd=>cond d (some (.inr (.inr a))) (some (.inl (i64.wrap (a+1))))) (some (.inr (.inl ())))
def zcO(a:List zs)(c:List za)(d:T2)(e:List za)(f:T2):Option (Int):=
  (zk (λz=>zbb a c d e f z) 0).bind λo=>zB o (λb=>zeP) some
instance (a:List zs)(c:List za)(d:T2)(e:List za)(f:T2):PF prog 349 [.isl 4 (map zt a),.fn (.func 305) [] [.ipt 1 [[.fn (.func 299) [] [.ipt 1 [[.ipt 2 [[cL c,mI d]] 0 0]] 0 0]]] 0 0,.ipt 1 [[.ipt 2 [[cL e,mI f]] 0 0]] 0 0]] (zcO a c d e f) iA:=⟨λr h=>by
 refine zi func349 y kz y y<|A ?_;refine ze<|A ?_;obtain ⟨o,ho,h⟩:=bs h;refine lpB ho (λz=>[(0,.isl 4 (map zt a)),(1,.fn (.func 305) [] [.ipt 1 [[.fn (.func 299) [] [.ipt 1 [[.ipt 2 [[cL c,mI d]] 0 0]] 0 0]]] 0 0,.ipt 1 [[.ipt 2 [[cL e,mI f]] 0 0]] 0 0]),(7,iA (length a:Int)),(8,iA z)]) (λz=>[]) (λb=>[]) (λb=>[]) (pG f349 iA) (Xb []) ?_ ?_
 .rintro n r h;refine A ?_;refine ze ?_;apply Xa h y<;>intro i h
  .refine zc<|ze<|zh<|A ?_;obtain ⟨l,p,m,q,h⟩:=bs2 h;refine A ?_;apply Xa h y<;>intro j h
   .refine A ?_;refine zA ?_;cases h;exact ⟨_,y,_,y,Xc []⟩
   .refine zc<|A ?_;cases h;exact ⟨_,y,zm []⟩
  .refine zp ?_;cases h;exact ⟨y,_,y,zm []⟩
 .rintro ⟨⟩ rfl;refine zl<|A ?_
  exact RT0⟩
def zba(a:List zs)(b:List za)(c:T2)(d:List za)(e:T2):Option (Bool):=
  (zcO a b c d e).bind λf=>some (decide (0≤f))
instance (a:List zs)(b:List za)(c:T2)(d:List za)(e:T2):PF prog 304 [.isl 4 (map zt a),.fn (.func 305) [] [.ipt 1 [[.fn (.func 299) [] [.ipt 1 [[.ipt 2 [[cL b,mI c]] 0 0]] 0 0]]] 0 0,.ipt 1 [[.ipt 2 [[cL d,mI e]] 0 0]] 0 0]] (zba a b c d e) bA:=⟨λr h=>by
 refine zi func304 y kz y y<|A ?_;obtain ⟨f,i,h⟩:=bs h;refine A ?_
 exact RT0⟩
def zfm:Option (Int):=
  some (-1)
def zbw(b:T1)(c:List za)(d:T2)(a:Int):zL (Int) (Unit) (Int):=
  cond (decide (a<(length b:Int))) ((idx b a).bind λe=>(DW e c d).bind λf=>cond f (some (.inr (.inr a))) (some (.inl (i64.wrap (a+1))))) (some (.inr (.inl ())))
def zdi(a:T1)(c:List za)(d:T2):Option (Int):=
  (zk (λz=>zbw a c d z) 0).bind λo=>zB o (λb=>zfm) some
instance (a:T1)(c:List za)(d:T2):PF prog 181 [tL a,.fn (.func 299) [] [.ipt 1 [[.ipt 2 [[cL c,mI d]] 0 0]] 0 0]] (zdi a c d) iA:=⟨λr h=>by
 refine zi func181 y kz y y<|A ?_;refine ze<|A ?_;obtain ⟨o,ho,h⟩:=bs h;refine lpB ho (λz=>[(0,tL a),(1,.fn (.func 299) [] [.ipt 1 [[.ipt 2 [[cL c,mI d]] 0 0]] 0 0]),(7,iA (length a:Int)),(8,iA z)]) (λz=>[]) (λb=>[]) (λb=>[]) (pG f181 iA) (Xb []) ?_ ?_
 .rintro i r h;refine A ?_;refine ze ?_;apply Xa h y<;>intro e h
  .refine zc<|ze<|zh<|A ?_;obtain ⟨j,l,m,n,h⟩:=bs2 h;refine A ?_;apply Xa h y<;>intro f h
   .refine A ?_;refine zA ?_;cases h;exact ⟨_,y,_,y,Xc []⟩
   .refine zc<|A ?_;cases h;exact ⟨_,y,zm []⟩
  .refine zp ?_;cases h;exact ⟨y,_,y,zm []⟩
 .rintro ⟨⟩ rfl;refine zl<|A ?_
  exact RT0⟩
def zbp(a:T1)(b:List za)(c:T2):Option (Bool):=
  (zdi a b c).bind λd=>some (decide (0≤d))
instance (a:T1)(b:List za)(c:T2):PF prog 99 [tL a,.fn (.func 299) [] [.ipt 1 [[.ipt 2 [[cL b,mI c]] 0 0]] 0 0]] (zbp a b c) bA:=⟨λr h=>by
 refine zi func99 y kz y y<|A ?_;obtain ⟨d,e,h⟩:=bs h;refine A ?_
 exact RT0⟩
def zkk(a:zb)(b:List za)(c:T2)(e:List za)(f:T2):Option (Bool):=
  (zaY a.Traps b c).bind λi=>(zba a.Code b c e f).bind λj=>(DW a.Ret b c).bind λl=>(cond l (some true) ((zbp a.Params b c).bind λm=>some m)).bind λd=>some ((d||i)||j)
instance (a:zb)(b:List za)(c:T2)(d:List za)(e:T2):PF prog 301 [.agg (zd a),.ipt 1 [[.fn (.func 299) [] [.ipt 1 [[.ipt 2 [[cL b,mI c]] 0 0]] 0 0]]] 0 0,.ipt 1 [[.ipt 2 [[cL d,mI e]] 0 0]] 0 0] (zkk a b c d e) bA:=⟨λr h=>by
 refine zi func301 y kz y y<|A ?_;obtain ⟨i,j,h⟩:=bs h;refine A ?_;obtain ⟨l,m,h⟩:=bs h;refine A ?_;obtain ⟨n,o,f,p,h⟩:=bs2 h;refine A ?_
 exact RT0⟩
def zcZ:Option (Int):=
  some (-1)
def zaA(b:List zb)(e:List za)(f:T2)(i:List za)(j:T2)(a:Int):zL (Int) (Unit) (Int):=
  cond (decide (a<(length b:Int))) ((idx b a).bind λc=>(zkk c e f i j).bind λd=>cond d (some (.inr (.inr a))) (some (.inl (i64.wrap (a+1))))) (some (.inr (.inl ())))
def zbO(a:List zb)(c:List za)(d:T2)(e:List za)(f:T2):Option (Int):=
  (zk (λz=>zaA a c d e f z) 0).bind λo=>zB o (λb=>zcZ) some
instance (a:List zb)(c:List za)(d:T2)(e:List za)(f:T2):PF prog 225 [.isl 10 (map zd a),.fn (.func 301) [] [.ipt 1 [[.fn (.func 299) [] [.ipt 1 [[.ipt 2 [[cL c,mI d]] 0 0]] 0 0]]] 0 0,.ipt 1 [[.ipt 2 [[cL e,mI f]] 0 0]] 0 0]] (zbO a c d e f) iA:=⟨λr h=>by
 refine zi func225 y kz y y<|A ?_;refine ze<|A ?_;obtain ⟨o,ho,h⟩:=bs h;refine lpB ho (λz=>[(0,.isl 10 (map zd a)),(1,.fn (.func 301) [] [.ipt 1 [[.fn (.func 299) [] [.ipt 1 [[.ipt 2 [[cL c,mI d]] 0 0]] 0 0]]] 0 0,.ipt 1 [[.ipt 2 [[cL e,mI f]] 0 0]] 0 0]),(7,iA (length a:Int)),(8,iA z)]) (λz=>[]) (λb=>[]) (λb=>[]) (pG f225 iA) (Xb []) ?_ ?_
 .rintro n r h;refine A ?_;refine ze ?_;apply Xa h y<;>intro i h
  .refine zc<|ze<|zh<|A ?_;obtain ⟨l,p,m,q,h⟩:=bs2 h;refine A ?_;apply Xa h y<;>intro j h
   .refine A ?_;refine zA ?_;cases h;exact ⟨_,y,_,y,Xc []⟩
   .refine zc<|A ?_;cases h;exact ⟨_,y,zm []⟩
  .refine zp ?_;cases h;exact ⟨y,_,y,zm []⟩
 .rintro ⟨⟩ rfl;refine zl<|A ?_
  exact RT0⟩
def zah(a:List zb)(b:List za)(c:T2)(d:List za)(e:T2):Option (Bool):=
  (zbO a b c d e).bind λf=>some (decide (0≤f))
theorem zcA(a:List zb)(b:List za)(c:T2)(d:List za)(e:T2){r:Bool}(h:zah a b c d e=some r):Xo prog 239 [.isl 10 (map zd a),.fn (.func 301) [] [.ipt 1 [[.fn (.func 299) [] [.ipt 1 [[.ipt 2 [[cL b,mI c]] 0 0]] 0 0]]] 0 0,.ipt 1 [[.ipt 2 [[cL d,mI e]] 0 0]] 0 0]] (bA r):=by
 refine zi func239 y kz y y<|A ?_;obtain ⟨f,i,h⟩:=bs h;refine A ?_;exact RT0
instance (a:List zb)(b:List za)(c:T2)(d:List za)(e:T2):PF prog 239 [.isl 10 (map zd a),.fn (.func 301) [] [.ipt 1 [[.fn (.func 299) [] [.ipt 1 [[.ipt 2 [[cL b,mI c]] 0 0]] 0 0]]] 0 0,.ipt 1 [[.ipt 2 [[cL d,mI e]] 0 0]] 0 0]] (zah a b c d e) bA:=⟨λ_=>zcA a b c d e⟩
def zkw(a:List za)(b:T2)(c:za):Option (Bool):=
  (zan c.Fields a b).bind λd=>(zah c.Methods a b a b).bind λe=>some ((!d)&&(!e))
theorem zoB(a:List za)(b:T2)(c:za){r:Bool}(h:zkw a b c=some r):Xo prog 213 [.ipt 2 [[cL a,mI b]] 0 0,.agg (zf c)] (bA r):=by
 refine zi func213 y kz y y<|A ?_;refine A ?_;obtain ⟨f,d,h⟩:=bs h;refine A ?_;refine u<|pcs (zcU c.Fields a b d) y y (.cons (si y) (.cons (ZA t ⟨(XR y ⟨(ZA t ⟨(XR y ⟨(si y),t⟩),t⟩),t⟩),t⟩) .nil)) XA<|A ?_;obtain ⟨i,e,h⟩:=bs h;refine A ?_;refine u<|pcs (zcA c.Methods a b a b e) y y (.cons (si y) (.cons (ZA t ⟨(XR y ⟨(ZA t ⟨(XR y ⟨(si y),t⟩),t⟩),t⟩),(XR y ⟨(si y),t⟩),t⟩) .nil)) XA<|A ?_;refine A ?_;exact RT0
instance (a:List za)(b:T2)(c:za):PF prog 213 [.ipt 2 [[cL a,mI b]] 0 0,.agg (zf c)] (zkw a b c) bA:=⟨λ_=>zoB a b c⟩
def zkU:Option (Bool):=
  some true
def zcH(b:T1)(c:T1)(a:Int):zL (Int) (Unit) (Bool):=
  cond (decide (a<(length b:Int))) ((idx b a).bind λd=>(idx c a).bind λe=>cond (!(d == e)) (some (.inr (.inr false))) (some (.inl (i64.wrap (a+1))))) (some (.inr (.inl ())))
def zdy(a:T1)(c:T1):Option (Bool):=
  cond (!((length a:Int) == (length c:Int))) (some false) ((zk (λz=>zcH a c z) 0).bind λo=>zB o (λb=>zkU) some)
instance (a:T1)(c:T1):PF prog 318 [tL a,tL c] (zdy a c) bA:=⟨λr h=>by
 refine zi func318 y kz y y<|A ?_;refine ze<|A ?_;apply Xa h y<;>intro d h
 .refine A ?_;exact RT0
 .refine zc<|ze<|A ?_;obtain ⟨o,ho,h⟩:=bs h;refine lpB ho (λz=>[(0,tL a),(1,tL c),(12,iA (length a:Int)),(13,iA z)]) (λz=>[]) (λb=>[]) (λb=>[]) (pG f318 bA) (Xb []) ?_ ?_
  .rintro i r h;refine A ?_;refine ze ?_;apply Xa h y<;>intro e h
   .refine zc<|ze<|zh<|A ?_;obtain ⟨j,l,m,n,h⟩:=bs2 h;refine rdA [(0,_),(1,_),(12,_),(13,_),(24,_)] [] [] [0,1,2,3,4,5,6,7,8] [(24,_),(23,_),(22,_),(21,_),(20,_),(19,_),(18,_),(17,_),(16,_)] 0 (Xl (z:=Xb [])) ?_;apply Xa h y<;>intro f h
    .refine A ?_;refine zA ?_;cases h;exact ⟨_,y,_,y,Xc []⟩
    .refine zc<|A ?_;cases h;exact ⟨_,y,zm []⟩
   .refine zp ?_;cases h;exact ⟨y,_,y,zm []⟩
  .rintro ⟨⟩ rfl;refine zl<|A ?_
   exact RT0⟩
def W3(a:zb)(b:zb):Option (Bool):=
  (zdy a.Params b.Params).bind λc=>some (c&&(a.Ret == b.Ret))
theorem zk8(a:zb)(b:zb){r:Bool}(h:W3 a b=some r):Xo prog 255 [.agg (zd a),.agg (zd b)] (bA r):=by
 refine zi func255 y kz y y<|A ?_;obtain ⟨c,d,h⟩:=bs h;refine A ?_;exact RT0
instance (a:zb)(b:zb):PF prog 255 [.agg (zd a),.agg (zd b)] (W3 a b) bA:=⟨λ_=>zk8 a b⟩
def zhQ(a:zb)(b:T0)(j:T1)(l:T0)(c:Bool)(m:Bool)(n:Int)(o:Int)(p:List zs)(d:List zV)(e:List zU):Option (Bool):=
  (cond ((a.Name == b)&&(!(b == [36,105,110,105,116]))) ((W3 (zb.mk b j l c m n o p d e) a).bind λf=>some (((!f)||c)||a.Static)) (some false)).bind λi=>some i
instance (i:zb)(l:T0)(m:T1)(n:T0)(o:Bool)(p:Bool)(q:Int)(s:Int)(v:List zs)(c:List zV)(d:List zU):PF prog 307 [.agg (zd i),.ipt 10 [[sA l,tL m,sA n,bA o,bA p,iA q,iA s,.isl 4 (map zt v),.isl 3 (map zO c),.isl 4 (map XD d)]] 0 0] (zhQ i l m n o p q s v c d) bA:=⟨λr h=>by
 refine zi func307 y kz y y<|A ?_;obtain ⟨B,b,h⟩:=bs h;refine A ?_;refine Zi (x:=B) (j:=10) 12 y y y y y gpn (λa=>by replace b:=bT a b;obtain ⟨D,C,b⟩:=bs b;obtain rfl:=sm b;exact g y a<|ld ti y y<|g y a<|ld ti y y<|g y a<|pc (zk8 (zb.mk l m n o p q s v c d) i C) y y y<|g y a<|nt y<|g y a<|mv y<|Ud (j:=15) 2 y y y y y (gps y y a) (λe=>g y e<|fa ti y y y<|g y e<|ld ti y y<|zw (egO [20,21] 2 e y y y y)) orT<|g y a<|mv y<|Ud (j:=19) 2 y y y y y (gps y y a) (λf=>g y f<|fa ti y y y<|g y f<|ld ti y y<|zw (egO [24,25] 2 f y y y y)) orT<|zw (eg [15,16,17,18,19,20,21,22,23,24,25,26] 8 y y y y)) (λhb=>(sm (bF hb b)).symm)<|A ?_
 exact RT0⟩
def zc0:Option (Int):=
  some (-1)
def zaB(b:List zb)(i:T0)(j:T1)(l:T0)(m:Bool)(n:Bool)(o:Int)(p:Int)(q:List zs)(c:List zV)(d:List zU)(a:Int):zL (Int) (Unit) (Int):=
  cond (decide (a<(length b:Int))) ((idx b a).bind λe=>(zhQ e i j l m n o p q c d).bind λf=>cond f (some (.inr (.inr a))) (some (.inl (i64.wrap (a+1))))) (some (.inr (.inl ())))
def zbP(d:List zb)(e:T0)(f:T1)(i:T0)(j:Bool)(l:Bool)(m:Int)(n:Int)(p:List zs)(a:List zV)(c:List zU):Option (Int):=
  (zk (λz=>zaB d e f i j l m n p a c z) 0).bind λo=>zB o (λb=>zc0) some
instance (d:List zb)(e:T0)(f:T1)(i:T0)(j:Bool)(l:Bool)(m:Int)(n:Int)(p:List zs)(a:List zV)(c:List zU):PF prog 225 [.isl 10 (map zd d),.fn (.func 307) [] [.ipt 10 [[sA e,tL f,sA i,bA j,bA l,iA m,iA n,.isl 4 (map zt p),.isl 3 (map zO a),.isl 4 (map XD c)]] 0 0]] (zbP d e f i j l m n p a c) iA:=⟨λr h=>by
 refine zi func225 y kz y y<|A ?_;refine ze<|A ?_;obtain ⟨o,ho,h⟩:=bs h;refine lpB ho (λz=>[(0,.isl 10 (map zd d)),(1,.fn (.func 307) [] [.ipt 10 [[sA e,tL f,sA i,bA j,bA l,iA m,iA n,.isl 4 (map zt p),.isl 3 (map zO a),.isl 4 (map XD c)]] 0 0]),(7,iA (length d:Int)),(8,iA z)]) (λz=>[]) (λb=>[]) (λb=>[]) (pG f225 iA) (Xb []) ?_ ?_
 .rintro v r h;refine A ?_;refine ze ?_;apply Xa h y<;>intro q h
  .refine zc<|ze<|zh<|A ?_;obtain ⟨x,C,B,D,h⟩:=bs2 h;refine A ?_;apply Xa h y<;>intro s h
   .refine A ?_;refine zA ?_;cases h;exact ⟨_,y,_,y,Xc []⟩
   .refine zc<|A ?_;cases h;exact ⟨_,y,zm []⟩
  .refine zp ?_;cases h;exact ⟨y,_,y,zm []⟩
 .rintro ⟨⟩ rfl;refine zl<|A ?_
  exact RT0⟩
def zai(d:List zb)(e:T0)(f:T1)(i:T0)(j:Bool)(l:Bool)(m:Int)(n:Int)(o:List zs)(a:List zV)(b:List zU):Option (Bool):=
  (zbP d e f i j l m n o a b).bind λc=>some (decide (0≤c))
theorem zcB(c:List zb)(d:T0)(e:T1)(f:T0)(i:Bool)(j:Bool)(l:Int)(m:Int)(n:List zs)(a:List zV)(b:List zU){r:Bool}(h:zai c d e f i j l m n a b=some r):Xo prog 239 [.isl 10 (map zd c),.fn (.func 307) [] [.ipt 10 [[sA d,tL e,sA f,bA i,bA j,iA l,iA m,.isl 4 (map zt n),.isl 3 (map zO a),.isl 4 (map XD b)]] 0 0]] (bA r):=by
 refine zi func239 y kz y y<|A ?_;obtain ⟨o,p,h⟩:=bs h;refine A ?_;exact RT0
instance (c:List zb)(d:T0)(e:T1)(f:T0)(i:Bool)(j:Bool)(l:Int)(m:Int)(n:List zs)(a:List zV)(b:List zU):PF prog 239 [.isl 10 (map zd c),.fn (.func 307) [] [.ipt 10 [[sA d,tL e,sA f,bA i,bA j,iA l,iA m,.isl 4 (map zt n),.isl 3 (map zO a),.isl 4 (map XD b)]] 0 0]] (zai c d e f i j l m n a b) bA:=⟨λ_=>zcB c d e f i j l m n a b⟩
def zqh:Option (Bool):=
  some true
def zlr(a:Int):zL (Int) (Unit) (Bool):=
  some (.inl (i64.wrap (a+1)))
def Ij(i:List za)(j:T2)(a:zb)(c:T1)(b:Int):zL (Int) (Unit) (Bool):=
  cond (decide (b<(length c:Int))) ((idx c b).bind λd=>(zK i j d).bind λe=>(zai e.1.Methods a.Name a.Params a.Ret a.Static a.Abstract a.Locals a.Stack a.Code a.Maps a.Traps).bind λf=>cond f (some (.inr (.inr false))) (some (.inl (i64.wrap (b+1))))) (some (.inr (.inl ())))
def Ii(e:List za)(f:T2)(d:za)(a:Int):zL (Int) (Unit) (Bool):=
  cond (decide (a<(length d.Methods:Int))) ((idx d.Methods a).bind λi=>(Gk e f d.Name).bind λc=>(XK c 1 (length c:Int)).bind λj=>(zk (λz=>Ij e f i j z) 0).bind λo=>zB o (λb=>zlr a) (λr=>some (.inr (.inr r)))) (some (.inr (.inl ())))
def zhq(a:List za)(c:T2)(d:za):Option (Bool):=
  (zk (λz=>Ii a c d z) 0).bind λo=>zB o (λb=>zqh) some
theorem zls(e:List za)(f:T2)(d:za){r:Bool}(h:zhq e f d=some r):Xo prog 214 [.ipt 2 [[cL e,mI f]] 0 0,.agg (zf d)] (bA r):=by
 refine zi func214 y kz y y<|A ?_;refine ze<|A ?_;obtain ⟨o,ho,h⟩:=bs h;refine lpB ho (λz=>[(0,.ipt 2 [[cL e,mI f]] 0 0),(3,.mpt 0 0 0),(12,.isl 10 (map zd d.Methods)),(13,iA (length d.Methods:Int)),(14,iA z)]) (λz=>[some (6,[(zf d)])]) (λb=>[]) (λb=>[]) (pG f214 bA) (Xb [0]) ?_ ?_
 .rintro i r h;refine A ?_;refine ze ?_;apply Xa h y<;>intro n h
  .refine zc<|ze<|zh ?_;obtain ⟨c,B,h⟩:=bs h;refine A ?_;obtain ⟨j,s,l,m,h⟩:=bs2 h;refine A ?_;refine u<|sx [] (H9 e f d.Name s)<|zu (env0:=[(0,.ipt 2 [[cL e,mI f]] 0 0),(3,.mpt 0 0 0),(6,.mpt 1 0 0),(12,.isl 10 (map zd d.Methods)),(13,iA (length d.Methods:Int)),(14,iA i),(21,.msl 2 0 (length j))]) (st0:=[some (6,[(zf d)]),some (10,[(zd c)]),sT j]) (zm [0,1,2])<|zu (env0:=[(0,.ipt 2 [[cL e,mI f]] 0 0),(3,.mpt 0 0 0),(6,.mpt 1 0 0),(12,.isl 10 (map zd d.Methods)),(13,iA (length d.Methods:Int)),(14,iA i),(21,tL j)]) (st0:=[some (6,[(zf d)]),some (10,[(zd c)])]) (zm [0,1])<|u<|slI (a:=1) (b:=(length j:Int)) ti y ti y y (KK y m) y m<|A ?_;obtain ⟨o,ho,h⟩:=bs h;refine lpS ho (λz=>[(0,.ipt 2 [[cL e,mI f]] 0 0),(3,.mpt 0 0 0),(6,.mpt 1 0 0),(12,.isl 10 (map zd d.Methods)),(13,iA (length d.Methods:Int)),(14,iA i),(22,tL l),(23,iA (length l:Int)),(24,iA z)]) (λz=>[some (6,[(zf d)]),some (10,[(zd c)])]) (λb=>[(0,.ipt 2 [[cL e,mI f]] 0 0),(3,.mpt 0 0 0),(12,.isl 10 (map zd d.Methods)),(13,iA (length d.Methods:Int)),(14,iA i)]) (λb=>[some (6,[(zf d)])]) (pG f214 bA) (Xb [0,1]) ?_ ?_ ?_
   .rintro C r h;refine A ?_;refine ze ?_;apply Xa h y<;>intro p h
    .refine zc<|ze<|zh ?_;obtain ⟨D,E,h⟩:=bs h;refine A ?_;obtain ⟨v,F,h⟩:=bs h;refine A ?_;obtain ⟨G,x,h⟩:=bs h;refine A ?_;refine u<|pcs (zcB v.1.Methods c.Name c.Params c.Ret c.Static c.Abstract c.Locals c.Stack c.Code c.Maps c.Traps x) y y (.cons (si y) (.cons (ZA t ⟨(XR y ⟨(si y),(si y),(si y),(si y),(si y),(si y),(si y),(si y),(si y),(si y),t⟩),t⟩) .nil)) XA<|zw ?_;apply Xa h y<;>intro q h
     .refine A ?_;refine zA ?_;cases h;exact ⟨_,y,_,y,Xc []⟩
     .refine zc<|A ?_;cases h;exact ⟨_,y,zm [0,1]⟩
    .refine zp ?_;cases h;exact ⟨y,_,y,zm [0]⟩
   .rintro ⟨⟩ rfl;refine zl<|A ?_;cases h;exact ⟨_,y,zm [0]⟩
   .rintro r' rfl env st hp;cases h;exact ⟨_,y,hp⟩
  .refine zp ?_;cases h;exact ⟨y,_,y,zm []⟩
 .rintro ⟨⟩ rfl;refine zl<|A ?_;exact RT0
instance (a:List za)(b:T2)(c:za):PF prog 214 [.ipt 2 [[cL a,mI b]] 0 0,.agg (zf c)] (zhq a b c) bA:=⟨λ_=>zls a b c⟩
def zkj(a:zb)(b:T0)(i:T1)(j:T0)(l:Bool)(m:Bool)(n:Int)(o:Int)(p:List zs)(c:List zV)(d:List zU):Option (Bool):=
  (cond (a.Name == b) ((W3 (zb.mk b i j l m n o p c d) a).bind λe=>some (!e)) (some false)).bind λf=>some f
instance (e:zb)(f:T0)(i:T1)(l:T0)(m:Bool)(n:Bool)(o:Int)(p:Int)(q:List zs)(c:List zV)(d:List zU):PF prog 308 [.agg (zd e),.ipt 10 [[sA f,tL i,sA l,bA m,bA n,iA o,iA p,.isl 4 (map zt q),.isl 3 (map zO c),.isl 4 (map XD d)]] 0 0] (zkj e f i l m n o p q c d) bA:=⟨λr h=>by
 refine zi func308 y kz y y<|A ?_;obtain ⟨s,b,h⟩:=bs h;refine A ?_;refine Zi (x:=s) (j:=5) 4 y y y y y gpn (λa=>by replace b:=bT a b;obtain ⟨B,v,b⟩:=bs b;obtain rfl:=sm b;exact g y a<|ld ti y y<|g y a<|ld ti y y<|g y a<|pc (zk8 (zb.mk f i l m n o p q c d) e v) y y y<|g y a<|nt y<|zw (eg [10,11,12,13] 4 y y y y)) (λhb=>(sm (bF hb b)).symm)<|A ?_
 exact RT0⟩
def zc1:Option (Int):=
  some (-1)
def zaC(b:List zb)(i:T0)(j:T1)(l:T0)(m:Bool)(n:Bool)(o:Int)(p:Int)(q:List zs)(c:List zV)(d:List zU)(a:Int):zL (Int) (Unit) (Int):=
  cond (decide (a<(length b:Int))) ((idx b a).bind λe=>(zkj e i j l m n o p q c d).bind λf=>cond f (some (.inr (.inr a))) (some (.inl (i64.wrap (a+1))))) (some (.inr (.inl ())))
def zbQ(d:List zb)(e:T0)(f:T1)(i:T0)(j:Bool)(l:Bool)(m:Int)(n:Int)(p:List zs)(a:List zV)(c:List zU):Option (Int):=
  (zk (λz=>zaC d e f i j l m n p a c z) 0).bind λo=>zB o (λb=>zc1) some
instance (d:List zb)(e:T0)(f:T1)(i:T0)(j:Bool)(l:Bool)(m:Int)(n:Int)(p:List zs)(a:List zV)(c:List zU):PF prog 225 [.isl 10 (map zd d),.fn (.func 308) [] [.ipt 10 [[sA e,tL f,sA i,bA j,bA l,iA m,iA n,.isl 4 (map zt p),.isl 3 (map zO a),.isl 4 (map XD c)]] 0 0]] (zbQ d e f i j l m n p a c) iA:=⟨λr h=>by
 refine zi func225 y kz y y<|A ?_;refine ze<|A ?_;obtain ⟨o,ho,h⟩:=bs h;refine lpB ho (λz=>[(0,.isl 10 (map zd d)),(1,.fn (.func 308) [] [.ipt 10 [[sA e,tL f,sA i,bA j,bA l,iA m,iA n,.isl 4 (map zt p),.isl 3 (map zO a),.isl 4 (map XD c)]] 0 0]),(7,iA (length d:Int)),(8,iA z)]) (λz=>[]) (λb=>[]) (λb=>[]) (pG f225 iA) (Xb []) ?_ ?_
 .rintro v r h;refine A ?_;refine ze ?_;apply Xa h y<;>intro q h
  .refine zc<|ze<|zh<|A ?_;obtain ⟨x,C,B,D,h⟩:=bs2 h;refine A ?_;apply Xa h y<;>intro s h
   .refine A ?_;refine zA ?_;cases h;exact ⟨_,y,_,y,Xc []⟩
   .refine zc<|A ?_;cases h;exact ⟨_,y,zm []⟩
  .refine zp ?_;cases h;exact ⟨y,_,y,zm []⟩
 .rintro ⟨⟩ rfl;refine zl<|A ?_
  exact RT0⟩
def zaj(d:List zb)(e:T0)(f:T1)(i:T0)(j:Bool)(l:Bool)(m:Int)(n:Int)(o:List zs)(a:List zV)(b:List zU):Option (Bool):=
  (zbQ d e f i j l m n o a b).bind λc=>some (decide (0≤c))
theorem zcC(c:List zb)(d:T0)(e:T1)(f:T0)(i:Bool)(j:Bool)(l:Int)(m:Int)(n:List zs)(a:List zV)(b:List zU){r:Bool}(h:zaj c d e f i j l m n a b=some r):Xo prog 239 [.isl 10 (map zd c),.fn (.func 308) [] [.ipt 10 [[sA d,tL e,sA f,bA i,bA j,iA l,iA m,.isl 4 (map zt n),.isl 3 (map zO a),.isl 4 (map XD b)]] 0 0]] (bA r):=by
 refine zi func239 y kz y y<|A ?_;obtain ⟨o,p,h⟩:=bs h;refine A ?_;exact RT0
instance (c:List zb)(d:T0)(e:T1)(f:T0)(i:Bool)(j:Bool)(l:Int)(m:Int)(n:List zs)(a:List zV)(b:List zU):PF prog 239 [.isl 10 (map zd c),.fn (.func 308) [] [.ipt 10 [[sA d,tL e,sA f,bA i,bA j,iA l,iA m,.isl 4 (map zt n),.isl 3 (map zO a),.isl 4 (map XD b)]] 0 0]] (zaj c d e f i j l m n a b) bA:=⟨λ_=>zcC c d e f i j l m n a b⟩
def KC(a:zb):Bool:=
  ((!a.Static)&&(!a.Abstract))
theorem znZ(a:zb){r:Bool}(h:KC a=r):Xo prog 330 [.agg (zd a)] (bA r):=by
 refine zi func330 y kz y y ?_;unfold KC at h;refine A ?_;refine A ?_;refine zA ?_;obtain rfl:=h;exact ⟨_,y,Xc []⟩
instance (a:zb):PF prog 330 [.agg (zd a)] (some (KC a)) bA:=.of λ_=>znZ a
def ztz:Option (T0×zb×Bool):=
  some ([],(zb.mk [] [] [] false false 0 0 [] [] []),false)
def Ep(l:List za)(m:T2)(e:T1)(n:T0)(a:Int):zL (Int) (Unit) (T0×zb×Bool):=
  cond (decide (a<(length e:Int))) ((idx e a).bind λd=>(zK l m d).bind λb=>(HX b.1 n).bind λc=>(cond (decide (0≤c)) ((idx b.1.Methods c).bind λf=>some (KC f)) (some false)).bind λi=>cond i ((idx b.1.Methods c).bind λj=>some (.inr (.inr (d,j,true)))) (some (.inl (i64.wrap (a+1))))) (some (.inr (.inl ())))
def zmh(a:List za)(c:T2)(d:T1)(e:T0):Option (T0×zb×Bool):=
  (zk (λz=>Ep a c d e z) 0).bind λo=>zB o (λb=>ztz) some
instance (i:List za)(l:T2)(d:T1)(e:T0):PF prog 218 [.ipt 2 [[cL i,mI l]] 0 0,tL d,sA e,.fn (.func 330) [] []] (zmh i l d e) (λr=>(.tup [sA r.1,.agg (zd r.2.1),bA r.2.2])):=⟨λr h=>by
 refine zi func218 y kz y y<|A ?_;refine ze<|A ?_;obtain ⟨o,ho,h⟩:=bs h;refine lpB ho (λz=>[(0,.ipt 2 [[cL i,mI l]] 0 0),(2,sA e),(3,.fn (.func 330) [] []),(9,.mpt 0 0 0),(16,tL d),(17,iA (length d:Int)),(18,iA z)]) (λz=>[some (10,[[sA [],nS,sA [],bA false,bA false,iA 0,iA 0,nS,nS,nS]])]) (λb=>[(9,.mpt 0 0 0)]) (λb=>[some (10,[[sA [],nS,sA [],bA false,bA false,iA 0,iA 0,nS,nS,nS]])]) (pG f218 (λr=>.tup [sA r.1,.agg (zd r.2.1),bA r.2.2])) (Xb [0]) ?_ ?_
 .rintro C r h;refine A ?_;refine ze ?_;apply Xa h y<;>intro m h
  .refine zc<|ze<|zh ?_;obtain ⟨D,E,h⟩:=bs h;refine A ?_;obtain ⟨p,F,h⟩:=bs h;refine A ?_;obtain ⟨G,q,h⟩:=bs h;refine rg y<|u<|ld ti y y<|u<|mv y<|u<|pc (zhX p.1 e q) y y y<|u<|asg y<|zw ?_;obtain ⟨s,c,h⟩:=bs h;refine rg y<|u<|mv y<|u<|geq ti y y<|u<|mv y<|Zi (x:=s) (j:=2) 7 y y y y y gpn (λa=>by replace c:=bT a c;obtain ⟨v,f,c⟩:=bs c;obtain rfl:=sm c;exact g y a<|mv y<|g y a<|fa ti y y y<|g y a<|ld ti y y<|g y a<|mv y<|g y a<|ixI ti y ti y y y f<|g y a<|ldI ti y (zQ f).2.2 y<|g y a<|pc (znZ v y) y y y<|zw (eg [34,35,36,37,38,39,40] 7 y y y y)) (λhb=>(sm (bF hb c)).symm)<|zw ?_;apply Xa h y<;>intro n h
   .obtain ⟨B,H,h⟩:=bs h;refine rdA [(8,_),(9,_),(10,_)] [some (10,[(zd B)])] [7] [0,1,2,3,4,5,6] [(8,_),(47,_),(46,_),(45,_),(44,_),(43,_),(42,_)] 1 (Xi (z:=by exact ⟨(λ_ _=>⟨_,y,y,sto ti y y y<|⟨.any,[8],[(10,_)],y,y,y,t,Xl (z:=Xb [0])⟩⟩),t⟩)) ?_;refine zA ?_;cases h;exact ⟨_,y,_,y,Xc []⟩
   .refine zc<|A ?_;cases h;exact ⟨_,y,zm [0]⟩
  .refine zp ?_;cases h;exact ⟨y,_,y,zm [0]⟩
 .rintro ⟨⟩ rfl;refine zl<|A ?_
  exact RT0⟩
def ziK(a:List za)(b:T2)(d:T0)(e:T0):Option (T0×Bool):=
  (Gk a b d).bind λf=>(zmh a b f e).bind λc=>some (c.1,c.2.2)
instance (a:List za)(b:T2)(d:T0)(c:T0):PF prog 253 [.ipt 2 [[cL a,mI b]] 0 0,sA d,sA c] (ziK a b d c) (λr=>(.tup [sA r.1,bA r.2])):=⟨λr h=>by
 refine zi func253 y kz y y<|A ?_;obtain ⟨e,f,i,j,h⟩:=bs2 h;refine A ?_;refine u<|sx [] (H9 a b d f)<|zu (env0:=[(2,sA c),(12,.ipt 2 [[cL a,mI b]] 0 0),(15,.msl 0 0 (length e))]) (st0:=[sT e]) (zm [0])<|u<|mv y<|zu (env0:=[(12,.ipt 2 [[cL a,mI b]] 0 0),(15,tL e),(16,sA c)]) (st0:=[]) (zm [])<|A ?_;refine A ?_
 exact RT0⟩
def zma(a:zb)(b:T0)(i:T1)(j:T0)(l:Bool)(m:Bool)(n:Int)(o:Int)(p:List zs)(c:List zV)(d:List zU):Option (Bool):=
  (cond (a.Name == b) ((W3 (zb.mk b i j l m n o p c d) a).bind λe=>some e) (some false)).bind λf=>some f
instance (e:zb)(f:T0)(i:T1)(l:T0)(m:Bool)(n:Bool)(o:Int)(p:Int)(q:List zs)(c:List zV)(d:List zU):PF prog 350 [.agg (zd e),.ipt 10 [[sA f,tL i,sA l,bA m,bA n,iA o,iA p,.isl 4 (map zt q),.isl 3 (map zO c),.isl 4 (map XD d)]] 0 0] (zma e f i l m n o p q c d) bA:=⟨λr h=>by
 refine zi func350 y kz y y<|A ?_;obtain ⟨s,b,h⟩:=bs h;refine A ?_;refine Zi (x:=s) (j:=5) 3 y y y y y gpn (λa=>by replace b:=bT a b;obtain ⟨B,v,b⟩:=bs b;obtain rfl:=sm b;exact g y a<|ld ti y y<|g y a<|ld ti y y<|g y a<|pc (zk8 (zb.mk f i l m n o p q c d) e v) y y y<|zw (eg [10,11,12] 3 y y y y)) (λhb=>(sm (bF hb b)).symm)<|A ?_
 exact RT0⟩
def zc3:Option (Int):=
  some (-1)
def zaE(b:List zb)(i:T0)(j:T1)(l:T0)(m:Bool)(n:Bool)(o:Int)(p:Int)(q:List zs)(c:List zV)(d:List zU)(a:Int):zL (Int) (Unit) (Int):=
  cond (decide (a<(length b:Int))) ((idx b a).bind λe=>(zma e i j l m n o p q c d).bind λf=>cond f (some (.inr (.inr a))) (some (.inl (i64.wrap (a+1))))) (some (.inr (.inl ())))
def zbS(d:List zb)(e:T0)(f:T1)(i:T0)(j:Bool)(l:Bool)(m:Int)(n:Int)(p:List zs)(a:List zV)(c:List zU):Option (Int):=
  (zk (λz=>zaE d e f i j l m n p a c z) 0).bind λo=>zB o (λb=>zc3) some
instance (d:List zb)(e:T0)(f:T1)(i:T0)(j:Bool)(l:Bool)(m:Int)(n:Int)(p:List zs)(a:List zV)(c:List zU):PF prog 225 [.isl 10 (map zd d),.fn (.func 350) [] [.ipt 10 [[sA e,tL f,sA i,bA j,bA l,iA m,iA n,.isl 4 (map zt p),.isl 3 (map zO a),.isl 4 (map XD c)]] 0 0]] (zbS d e f i j l m n p a c) iA:=⟨λr h=>by
 refine zi func225 y kz y y<|A ?_;refine ze<|A ?_;obtain ⟨o,ho,h⟩:=bs h;refine lpB ho (λz=>[(0,.isl 10 (map zd d)),(1,.fn (.func 350) [] [.ipt 10 [[sA e,tL f,sA i,bA j,bA l,iA m,iA n,.isl 4 (map zt p),.isl 3 (map zO a),.isl 4 (map XD c)]] 0 0]),(7,iA (length d:Int)),(8,iA z)]) (λz=>[]) (λb=>[]) (λb=>[]) (pG f225 iA) (Xb []) ?_ ?_
 .rintro v r h;refine A ?_;refine ze ?_;apply Xa h y<;>intro q h
  .refine zc<|ze<|zh<|A ?_;obtain ⟨x,C,B,D,h⟩:=bs2 h;refine A ?_;apply Xa h y<;>intro s h
   .refine A ?_;refine zA ?_;cases h;exact ⟨_,y,_,y,Xc []⟩
   .refine zc<|A ?_;cases h;exact ⟨_,y,zm []⟩
  .refine zp ?_;cases h;exact ⟨y,_,y,zm []⟩
 .rintro ⟨⟩ rfl;refine zl<|A ?_
  exact RT0⟩
def zal(d:List zb)(e:T0)(f:T1)(i:T0)(j:Bool)(l:Bool)(m:Int)(n:Int)(o:List zs)(a:List zV)(b:List zU):Option (Bool):=
  (zbS d e f i j l m n o a b).bind λc=>some (decide (0≤c))
theorem zcE(c:List zb)(d:T0)(e:T1)(f:T0)(i:Bool)(j:Bool)(l:Int)(m:Int)(n:List zs)(a:List zV)(b:List zU){r:Bool}(h:zal c d e f i j l m n a b=some r):Xo prog 239 [.isl 10 (map zd c),.fn (.func 350) [] [.ipt 10 [[sA d,tL e,sA f,bA i,bA j,iA l,iA m,.isl 4 (map zt n),.isl 3 (map zO a),.isl 4 (map XD b)]] 0 0]] (bA r):=by
 refine zi func239 y kz y y<|A ?_;obtain ⟨o,p,h⟩:=bs h;refine A ?_;exact RT0
instance (c:List zb)(d:T0)(e:T1)(f:T0)(i:Bool)(j:Bool)(l:Int)(m:Int)(n:List zs)(a:List zV)(b:List zU):PF prog 239 [.isl 10 (map zd c),.fn (.func 350) [] [.ipt 10 [[sA d,tL e,sA f,bA i,bA j,iA l,iA m,.isl 4 (map zt n),.isl 3 (map zO a),.isl 4 (map XD b)]] 0 0]] (zal c d e f i j l m n a b) bA:=⟨λ_=>zcE c d e f i j l m n a b⟩
def zps(b:List za)(c:T2)(e:T0)(a:zb):Option (Bool):=
  (ziK b c e a.Name).bind λd=>cond (!d.2) (some false) ((zK b c d.1).bind λf=>(zal f.1.Methods a.Name a.Params a.Ret a.Static a.Abstract a.Locals a.Stack a.Code a.Maps a.Traps).bind λi=>some i)
instance (b:List za)(c:T2)(d:T0)(a:zb):PF prog 310 [.ipt 2 [[cL b,mI c]] 0 0,sA d,.agg (zd a)] (zps b c d a) bA:=⟨λr h=>by
 refine zi func310 y kz y y<|A ?_;obtain ⟨j,l,h⟩:=bs h;refine A ?_;refine ze<|A ?_;apply Xa h y<;>intro e h
 .refine A ?_;exact RT0
 .refine zc ?_;obtain ⟨f,m,h⟩:=bs h;refine A ?_;obtain ⟨n,i,h⟩:=bs h;refine A ?_;refine u<|pcs (zcE f.1.Methods a.Name a.Params a.Ret a.Static a.Abstract a.Locals a.Stack a.Code a.Maps a.Traps i) y y (.cons (si y) (.cons (ZA t ⟨(XR y ⟨(si y),(si y),(si y),(si y),(si y),(si y),(si y),(si y),(si y),(si y),t⟩),t⟩) .nil)) XA<|A ?_
  exact RT0⟩
def zmu(b:zb)(c:List za)(d:T2)(e:T0)(f:T0)(i:Bool)(j:T1)(l:List zg)(m:List zb):Option (Bool):=
  (zps c d e b).bind λa=>some (!a)
instance (a:zb)(b:List za)(c:T2)(d:T0)(e:T0)(f:Bool)(i:T1)(j:List zg)(l:List zb):PF prog 309 [.agg (zd a),.ipt 1 [[.ipt 2 [[cL b,mI c]] 0 0]] 0 0,.ipt 6 [[sA d,sA e,bA f,tL i,.isl 3 (map zv j),.isl 10 (map zd l)]] 0 0] (zmu a b c d e f i j l) bA:=⟨λr h=>by
 refine zi func309 y kz y y<|A ?_;obtain ⟨m,n,h⟩:=bs h;refine A ?_
 exact RT0⟩
def zc2:Option (Int):=
  some (-1)
def zaD(b:List zb)(e:List za)(f:T2)(i:T0)(j:T0)(l:Bool)(m:T1)(n:List zg)(o:List zb)(a:Int):zL (Int) (Unit) (Int):=
  cond (decide (a<(length b:Int))) ((idx b a).bind λc=>(zmu c e f i j l m n o).bind λd=>cond d (some (.inr (.inr a))) (some (.inl (i64.wrap (a+1))))) (some (.inr (.inl ())))
def zbR(a:List zb)(c:List za)(d:T2)(e:T0)(f:T0)(i:Bool)(j:T1)(l:List zg)(m:List zb):Option (Int):=
  (zk (λz=>zaD a c d e f i j l m z) 0).bind λo=>zB o (λb=>zc2) some
instance (a:List zb)(c:List za)(d:T2)(e:T0)(f:T0)(i:Bool)(j:T1)(l:List zg)(m:List zb):PF prog 225 [.isl 10 (map zd a),.fn (.func 309) [] [.ipt 1 [[.ipt 2 [[cL c,mI d]] 0 0]] 0 0,.ipt 6 [[sA e,sA f,bA i,tL j,.isl 3 (map zv l),.isl 10 (map zd m)]] 0 0]] (zbR a c d e f i j l m) iA:=⟨λr h=>by
 refine zi func225 y kz y y<|A ?_;refine ze<|A ?_;obtain ⟨o,ho,h⟩:=bs h;refine lpB ho (λz=>[(0,.isl 10 (map zd a)),(1,.fn (.func 309) [] [.ipt 1 [[.ipt 2 [[cL c,mI d]] 0 0]] 0 0,.ipt 6 [[sA e,sA f,bA i,tL j,.isl 3 (map zv l),.isl 10 (map zd m)]] 0 0]),(7,iA (length a:Int)),(8,iA z)]) (λz=>[]) (λb=>[]) (λb=>[]) (pG f225 iA) (Xb []) ?_ ?_
 .rintro q r h;refine A ?_;refine ze ?_;apply Xa h y<;>intro n h
  .refine zc<|ze<|zh<|A ?_;obtain ⟨s,x,v,B,h⟩:=bs2 h;refine A ?_;apply Xa h y<;>intro p h
   .refine A ?_;refine zA ?_;cases h;exact ⟨_,y,_,y,Xc []⟩
   .refine zc<|A ?_;cases h;exact ⟨_,y,zm []⟩
  .refine zp ?_;cases h;exact ⟨y,_,y,zm []⟩
 .rintro ⟨⟩ rfl;refine zl<|A ?_
  exact RT0⟩
def zak(b:List zb)(c:List za)(d:T2)(e:T0)(f:T0)(i:Bool)(j:T1)(l:List zg)(m:List zb):Option (Bool):=
  (zbR b c d e f i j l m).bind λa=>some (decide (0≤a))
theorem zcD(a:List zb)(b:List za)(c:T2)(d:T0)(e:T0)(f:Bool)(i:T1)(j:List zg)(l:List zb){r:Bool}(h:zak a b c d e f i j l=some r):Xo prog 239 [.isl 10 (map zd a),.fn (.func 309) [] [.ipt 1 [[.ipt 2 [[cL b,mI c]] 0 0]] 0 0,.ipt 6 [[sA d,sA e,bA f,tL i,.isl 3 (map zv j),.isl 10 (map zd l)]] 0 0]] (bA r):=by
 refine zi func239 y kz y y<|A ?_;obtain ⟨m,n,h⟩:=bs h;refine A ?_;exact RT0
instance (a:List zb)(b:List za)(c:T2)(d:T0)(e:T0)(f:Bool)(i:T1)(j:List zg)(l:List zb):PF prog 239 [.isl 10 (map zd a),.fn (.func 309) [] [.ipt 1 [[.ipt 2 [[cL b,mI c]] 0 0]] 0 0,.ipt 6 [[sA d,sA e,bA f,tL i,.isl 3 (map zv j),.isl 10 (map zd l)]] 0 0]] (zak a b c d e f i j l) bA:=⟨λ_=>zcD a b c d e f i j l⟩
def zoz(d:List za)(e:T2)(a:za)(b:List zb):Option (Bool):=
  cond a.Interface (some true) ((zak b d e a.Name a.Super a.Interface a.Impl a.Fields a.Methods).bind λc=>some (!c))
def zoy(a:Int)(b:List zb):zL ((List zb)×Int) ((List zb)) (Bool):=
  some (.inl (b,(i64.wrap (a+1))))
def Eu(d:za×Bool)(b:List zb)(c:Int):zL ((List zb)×Int) ((List zb)) (Bool):=
  cond (decide (c<(length d.1.Methods:Int))) ((idx d.1.Methods c).bind λa=>(zaj b a.Name a.Params a.Ret a.Static a.Abstract a.Locals a.Stack a.Code a.Maps a.Traps).bind λe=>cond e (some (.inr (.inr false))) ((Xx 152 b [a]).bind λf=>some (.inl (f,(i64.wrap (c+1)))))) (some (.inr (.inl b)))
def Et(i:List za)(j:T2)(d:T1)(c:List zb)(a:Int):zL ((List zb)×Int) ((List zb)) (Bool):=
  cond (decide (a<((length d):Int))) ((idx d a).bind λe=>(zK i j e).bind λf=>(zk (λz=>Eu f z.1 z.2) (c,0)).bind λo=>zB o (λb=>zoy a b) (λr=>some (.inr (.inr r)))) (some (.inr (.inl c)))
def zkv(a:List za)(c:T2)(d:za):Option (Bool):=
  (EX a c d.Name).bind λe=>(zk (λz=>Et a c e z.1 z.2) ([],0)).bind λo=>zB o (λb=>zoz a c d b) some
theorem zoA(e:List za)(i:T2)(c:za){r:Bool}(h:zkv e i c=some r):Xo prog 215 [.ipt 2 [[cL e,mI i]] 0 0,.agg (zf c)] (bA r):=by
 refine zi func215 y kz y y<|A ?_;refine A ?_;refine ze ?_;obtain ⟨d,D,h⟩:=bs h;refine A ?_;refine u<|sx [] (zh2 e i c.Name D)<|zu (env0:=[(2,.mpt 0 0 0),(3,.mpt 1 0 0),(5,nS),(15,.msl 2 0 (length d))]) (st0:=[some (1,[[.ipt 2 [[cL e,mI i]] 0 0]]),some (6,[(zf c)]),sT d]) (zm [0,1,2])<|A ?_;obtain ⟨o,ho,h⟩:=bs h;refine lpB ho (λz=>[(2,.mpt 0 0 0),(3,.mpt 1 0 0),(5,.msl 2 0 (length z.1)),(15,.msl 3 0 (length d)),(16,iA ((length d):Int)),(17,iA z.2)]) (λz=>[some (1,[[.ipt 2 [[cL e,mI i]] 0 0]]),some (6,[(zf c)]),some (10,map zd z.1),sT d]) (λb=>[(2,.mpt 0 0 0),(3,.mpt 1 0 0),(5,.msl 2 0 (length b))]) (λb=>[some (1,[[.ipt 2 [[cL e,mI i]] 0 0]]),some (6,[(zf c)]),some (10,map zd b)]) (pG f215 bA) ⟨[0,1,.fresh 10,2],cv y (.mpt y)<|cv y (.mpt y)<|cv y (.nilown y)<|cv y (.msl y)<|ce y y<|ce y y<|cn,y,⟨⟨_,y,Ze ⟨ci y,t⟩⟩,⟨_,y,Ze (ciL y)⟩,w,⟨_,y,XY (λ_=>y)⟩,t⟩,y,k⟩ ?_ ?_
 .rintro ⟨E,j⟩ r h;refine A ?_;refine ze ?_;apply Xa h y<;>intro m h
  .refine zc<|ze<|zh ?_;obtain ⟨F,G,h⟩:=bs h;refine A ?_;obtain ⟨l,H,h⟩:=bs h;refine A ?_;refine A ?_;obtain ⟨o,ho,h⟩:=bs h;refine lpS ho (λz=>[(2,.mpt 0 0 0),(3,.mpt 1 0 0),(5,.msl 2 0 (length z.1)),(15,.msl 3 0 (length d)),(16,iA ((length d):Int)),(17,iA j),(28,.isl 10 (map zd l.1.Methods)),(29,iA (length l.1.Methods:Int)),(30,iA z.2)]) (λz=>[some (1,[[.ipt 2 [[cL e,mI i]] 0 0]]),some (6,[(zf c)]),some (10,map zd z.1),sT d]) (λb=>[(2,.mpt 0 0 0),(3,.mpt 1 0 0),(5,.msl 2 0 (length b)),(15,.msl 3 0 (length d)),(16,iA ((length d):Int)),(17,iA j)]) (λb=>[some (1,[[.ipt 2 [[cL e,mI i]] 0 0]]),some (6,[(zf c)]),some (10,map zd b),sT d]) (pG f215 bA) (Xb [0,1,2,3]) ?_ ?_ ?_
   .rintro ⟨s,I⟩ r h;refine A ?_;refine ze ?_;apply Xa h y<;>intro n h
    .refine zc<|ze<|zh ?_;obtain ⟨a,J,h⟩:=bs h;refine A ?_;refine ze ?_;obtain ⟨K,v,h⟩:=bs h;refine A ?_;refine u<|pcs (zcC s a.Name a.Params a.Ret a.Static a.Abstract a.Locals a.Stack a.Code a.Maps a.Traps v) y y (.cons (XM y (λ_=>y)) (.cons (ZA t ⟨(XR y ⟨(si y),(si y),(si y),(si y),(si y),(si y),(si y),(si y),(si y),(si y),t⟩),t⟩) .nil)) XA<|zw ?_;apply Xa h y<;>intro p h
     .refine A ?_;refine zA ?_;cases h;exact ⟨_,y,_,y,Xc []⟩
     .refine zc ?_;obtain ⟨L,x,h⟩:=bs h;refine A ?_;refine u<|apM 6 ti y ti y y (by decide) ti y y y y (roX (f:=zd) (z:=[a]) y y) (λ_=>y) y x<|A ?_;refine A ?_;cases h;exact ⟨_,y,zm [0,1,6,3]⟩
    .refine zp ?_;cases h;exact ⟨y,_,y,zm [0,1,2,3]⟩
   .rintro M rfl;refine zl<|A ?_;cases h;exact ⟨_,y,zm [0,1,2,3]⟩
   .rintro r' rfl env st hp;cases h;exact ⟨_,y,hp⟩
  .refine zp ?_;cases h;exact ⟨y,_,y,zm [0,1,2]⟩
 .rintro B rfl;refine zl<|ze<|A ?_;apply Xa h y<;>intro q h
  .refine A ?_;exact RT0
  .refine zc ?_;obtain ⟨N,C,h⟩:=bs h;refine A ?_;refine u<|pcs (zcD B e i c.Name c.Super c.Interface c.Impl c.Fields c.Methods C) y y (.cons (XM y (λ_=>y)) (.cons (ZA t ⟨(XR y ⟨(si y),t⟩),(XR y ⟨(si y),(si y),(si y),(si y),(si y),(si y),t⟩),t⟩) .nil)) XA<|A ?_;exact RT0
instance (a:List za)(b:T2)(c:za):PF prog 215 [.ipt 2 [[cL a,mI b]] 0 0,.agg (zf c)] (zkv a b c) bA:=⟨λ_=>zoA a b c⟩
def zsF:Option (Int):=
  some 0
def EL(a:zD)(c:T1)(b:Int):zL (Int) (Unit) (Int):=
  cond (decide (b<((length c):Int))) ((idx c b).bind λe=>(zK a.l a.at_ e).bind λd=>(zhq a.l a.at_ d.1).bind λf=>(cond (!f) (some true) ((zkv a.l a.at_ d.1).bind λi=>some (!i))).bind λj=>cond j (some (.inr (.inr 1))) (some (.inl (i64.wrap (b+1))))) (some (.inr (.inl ())))
def znW(a:zD):Option (Int):=
  (BB a.l a.at_).bind λc=>(zk (λz=>EL a c z) 0).bind λo=>zB o (λb=>zsF) some
def EM(a:zD)(c:T1)(b:Int):zL (Int) (Unit) (Int):=
  cond (decide (b<((length c):Int))) ((idx c b).bind λf=>(zK a.l a.at_ f).bind λd=>(zkw a.l a.at_ d.1).bind λe=>cond (!e) (some (.inr (.inr 4))) (some (.inl (i64.wrap (b+1))))) (some (.inr (.inl ())))
def Bd(c:Option zD):Option (Int):=
  Zq c (none) (λa=>(BB a.l a.at_).bind λd=>(zk (λz=>EM a d z) 0).bind λo=>zB o (λb=>znW a) some)
theorem zkP(m:Option zD){r:Int}(h:Bd m=some r):Xo prog 121 [Xy 2 Zx m] (iA r):=by
 refine zi func121 y kz y y ?_;unfold Bd at h
 rcases m with _ |a
 .replace h:=oeN h;cases h
 .replace h:=oeS h;refine A ?_;refine ze ?_;obtain ⟨f,G,h⟩:=bs h;refine rg y<|u<|mv y<|u<|sx [] (zf7 a.l a.at_ G)<|zu (env0:=[(0,.ipt 2 [[cL a.l,mI a.at_]] 0 0),(12,.msl 0 0 (length f))]) (st0:=[sT f]) (zm [0])<|A ?_;obtain ⟨o,ho,h⟩:=bs h;refine lpB ho (λz=>[(0,.ipt 2 [[cL a.l,mI a.at_]] 0 0),(12,.msl 0 0 (length f)),(13,iA ((length f):Int)),(14,iA z)]) (λz=>[sT f]) (λb=>[(0,.ipt 2 [[cL a.l,mI a.at_]] 0 0)]) (λb=>[]) (pG f121 iA) (Xb [0]) ?_ ?_
  .rintro O r h;refine A ?_;refine ze ?_;apply Xa h y<;>intro s h
   .refine zc<|ze<|zh ?_;obtain ⟨P,Q,h⟩:=bs h;refine A ?_;obtain ⟨v,R,h⟩:=bs h;refine A ?_;obtain ⟨H,B,h⟩:=bs h;refine rg y<|u<|mv y<|u<|ld ti y y<|u<|pc (zoB a.l a.at_ v.1 B) y y y<|u<|nt y<|zw ?_;apply Xa h y<;>intro n h
    .refine A ?_;refine zA ?_;cases h;exact ⟨_,y,_,y,Xc []⟩
    .refine zc<|A ?_;cases h;exact ⟨_,y,zm [0]⟩
   .refine zp ?_;cases h;exact ⟨y,_,y,zm []⟩
  .rintro ⟨⟩ rfl;refine zl<|ze ?_;obtain ⟨e,C,h⟩:=bs h;refine rg y<|u<|mv y<|u<|sx [] (zf7 a.l a.at_ C)<|zu (env0:=[(0,.ipt 2 [[cL a.l,mI a.at_]] 0 0),(30,.msl 0 0 (length e))]) (st0:=[sT e]) (zm [0])<|A ?_;obtain ⟨o,ho,h⟩:=bs h;refine lpB ho (λz=>[(0,.ipt 2 [[cL a.l,mI a.at_]] 0 0),(30,.msl 0 0 (length e)),(31,iA ((length e):Int)),(32,iA z)]) (λz=>[sT e]) (λb=>[]) (λb=>[]) (pG f121 iA) (Xb [0]) ?_ ?_
   .rintro I r h;refine A ?_;refine ze ?_;apply Xa h y<;>intro p h
    .refine zc<|ze<|zh ?_;obtain ⟨J,K,h⟩:=bs h;refine A ?_;obtain ⟨i,L,h⟩:=bs h;refine A ?_;obtain ⟨M,D,E,d,h⟩:=bs2 h;refine rg y<|u<|mv y<|u<|ld ti y y<|u<|pc (zls a.l a.at_ i.1 D) y y y<|u<|nt y<|u<|mv y<|Ud (x:=E) (j:=4) 4 y y y y y gpn (λc=>by replace d:=bF c d;obtain ⟨N,F,d⟩:=bs d;obtain rfl:=sm d;exact g y c<|mv y<|g y c<|ld ti y y<|g y c<|pc (zoA a.l a.at_ i.1 F) y y y<|g y c<|nt y<|zw (eg [47,48,49,50] 4 y y y y)) (λhb=>(sm (bT hb d)).symm)<|zw ?_;apply Xa h y<;>intro q h
     .refine A ?_;refine zA ?_;cases h;exact ⟨_,y,_,y,Xc []⟩
     .refine zc<|A ?_;cases h;exact ⟨_,y,zm [0]⟩
    .refine zp ?_;cases h;exact ⟨y,_,y,zm []⟩
   .rintro ⟨⟩ rfl;refine zl<|A ?_;exact RT0
instance (a:Option zD):PF prog 121 [Xy 2 Zx a] (Bd a) iA:=⟨λ_=>zkP a⟩
def ziS(a:T0):Bool:=
  false
instance (a:T0):PF prog 102 [.lit (.pointer none),sA a] (some (ziS a)) bA:=.of λr h=>by
 refine zi func102 y kz y y ?_;unfold ziS at h;refine A ?_;refine ze<|A ?_;refine KM y (λ_=>?_) (λhx=>by cases hx);refine A ?_;refine zA ?_;obtain rfl:=h;exact ⟨_,y,Xc []⟩
def zql:Option (T1):=
  some []
def zqm(a:T0):zL (Unit) (Unit) (T1):=
  cond (ziS a) ((Xx 16 ([]:T1) [a]).bind λb=>none) (some (.inr (.inl ())))
def zkR(a:T0):Option (T1):=
  (zk (λz=>zqm a) ()).bind λo=>zB o (λb=>zql) some
theorem zlv(a:T0){r:T1}(h:zkR a=some r):Xo prog 109 [.lit (.pointer none),sA a] (tL r):=by
 refine zi func109 y kz y y<|A ?_;refine A ?_;obtain ⟨o,ho,h⟩:=bs h;refine lpA ho (λz=>[(0,.lit (.pointer none)),(1,sA a),(5,nS)]) (λz=>[]) (λb=>[(5,nS)]) (λb=>[]) (pG f109 (λr=>tL r)) (Xb []) ?_ ?_
 .rintro ⟨⟩ r h;refine ze<|A ?_;apply Xa h y<;>intro c h
  .refine zc<|zh ?_;obtain ⟨e,d,h⟩:=bs h;refine A ?_;refine u<|apN (f:=Xf) 1 ti y ti y y (by decide) ti y y y (roX (f:=Xf) (z:=[a]) y y) (λ_=>y) y d<|A ?_;cases h
  .refine zp ?_;cases h;exact ⟨y,_,y,zm []⟩
 .rintro ⟨⟩ rfl;refine A ?_;exact RT0
instance (a:T0):PF prog 109 [.lit (.pointer none),sA a] (zkR a) (λr=>(tL r)):=⟨λ_=>zlv a⟩
def zmd(a:T0):Option (za×Bool):=
  cond (!(ziS a)) (some ((za.mk [] [] false [] [] []),false)) (none)
instance (a:T0):PF prog 106 [.lit (.pointer none),sA a] (zmd a) (λr=>(.tup [.agg (zf r.1),bA r.2])):=⟨λr h=>by
 refine zi func106 y kz y y<|A ?_;refine ze<|A ?_;apply Xa h y<;>intro b h
 .refine A ?_;exact RT0
 .refine zc ?_
  cases h⟩
def ztA:Option (T0×zb×Bool):=
  some ([],(zb.mk [] [] [] false false 0 0 [] [] []),false)
def ztB(e:T1)(l:T0)(a:Int):zL (Int) (Unit) (T0×zb×Bool):=
  cond (decide (a<(length e:Int))) ((idx e a).bind λd=>(zmd d).bind λb=>(HX b.1 l).bind λc=>(cond (decide (0≤c)) ((idx b.1.Methods c).bind λf=>some (UF f)) (some false)).bind λi=>cond i ((idx b.1.Methods c).bind λj=>some (.inr (.inr (d,j,true)))) (some (.inl (i64.wrap (a+1))))) (some (.inr (.inl ())))
def zoO(a:T1)(c:T0):Option (T0×zb×Bool):=
  (zk (λz=>ztB a c z) 0).bind λo=>zB o (λb=>ztA) some
theorem zoP(d:T1)(e:T0){r:T0×zb×Bool}(h:zoO d e=some r):Xo prog 218 [.lit (.pointer none),tL d,sA e,.fn (.func 219) [] []] (.tup [sA r.1,.agg (zd r.2.1),bA r.2.2]):=by
 refine zi func218 y kz y y<|A ?_;refine ze<|A ?_;obtain ⟨o,ho,h⟩:=bs h;refine lpB ho (λz=>[(0,.lit (.pointer none)),(2,sA e),(3,.fn (.func 219) [] []),(9,.mpt 0 0 0),(16,tL d),(17,iA (length d:Int)),(18,iA z)]) (λz=>[some (10,[[sA [],nS,sA [],bA false,bA false,iA 0,iA 0,nS,nS,nS]])]) (λb=>[(9,.mpt 0 0 0)]) (λb=>[some (10,[[sA [],nS,sA [],bA false,bA false,iA 0,iA 0,nS,nS,nS]])]) (pG f218 (λr=>.tup [sA r.1,.agg (zd r.2.1),bA r.2.2])) (Xb [0]) ?_ ?_
 .rintro v r h;refine A ?_;refine ze ?_;apply Xa h y<;>intro i h
  .refine zc<|ze<|zh ?_;obtain ⟨B,C,h⟩:=bs h;refine A ?_;obtain ⟨m,D,h⟩:=bs h;refine A ?_;obtain ⟨E,n,h⟩:=bs h;refine rg y<|u<|ld ti y y<|u<|mv y<|u<|pc (zhX m.1 e n) y y y<|u<|asg y<|zw ?_;obtain ⟨p,c,h⟩:=bs h;refine rg y<|u<|mv y<|u<|geq ti y y<|u<|mv y<|Zi (x:=p) (j:=2) 7 y y y y y gpn (λa=>by replace c:=bT a c;obtain ⟨q,f,c⟩:=bs c;obtain rfl:=sm c;exact g y a<|mv y<|g y a<|fa ti y y y<|g y a<|ld ti y y<|g y a<|mv y<|g y a<|ixI ti y ti y y y f<|g y a<|ldI ti y (zQ f).2.2 y<|g y a<|pc (zkT q y) y y y<|zw (eg [34,35,36,37,38,39,40] 7 y y y y)) (λhb=>(sm (bF hb c)).symm)<|zw ?_;apply Xa h y<;>intro l h
   .obtain ⟨s,F,h⟩:=bs h;refine rdA [(8,_),(9,_),(10,_)] [some (10,[(zd s)])] [7] [0,1,2,3,4,5,6] [(8,_),(47,_),(46,_),(45,_),(44,_),(43,_),(42,_)] 1 (Xi (z:=by exact ⟨(λ_ _=>⟨_,y,y,sto ti y y y<|⟨.any,[8],[(10,_)],y,y,y,t,Xl (z:=Xb [0])⟩⟩),t⟩)) ?_;refine zA ?_;cases h;exact ⟨_,y,_,y,Xc []⟩
   .refine zc<|A ?_;cases h;exact ⟨_,y,zm [0]⟩
  .refine zp ?_;cases h;exact ⟨y,_,y,zm [0]⟩
 .rintro ⟨⟩ rfl;refine zl<|A ?_;exact RT0
instance (a:T1)(b:T0):PF prog 218 [.lit (.pointer none),tL a,sA b,.fn (.func 219) [] []] (zoO a b) (λr=>(.tup [sA r.1,.agg (zd r.2.1),bA r.2.2])):=⟨λ_=>zoP a b⟩
def zly(f:Option zD)(d:T0)(e:T0):Option (T0×zb×Bool):=
  Zq f ((zkR d).bind λi=>(zoO i e).bind λb=>some (b.1,b.2.1,b.2.2)) (λa=>(Gk a.l a.at_ d).bind λj=>(zkC a.l a.at_ j e).bind λc=>some (c.1,c.2.1,c.2.2))
theorem zp0(d:Option zD)(c:T0)(b:T0){r:T0×zb×Bool}(h:zly d c b=some r):Xo prog 124 [Xy 2 Zx d,sA c,sA b] (.tup [sA r.1,.agg (zd r.2.1),bA r.2.2]):=by
 refine zi func124 y kz y y ?_;unfold zly at h
 rcases d with _ |a
 .replace h:=oeN h;refine A ?_;obtain ⟨f,i,n,j,h⟩:=bs2 h;refine rg y<|u<|mv y<|u<|mv y<|u<|mv y<|u<|pc (zlv c i) y y y<|u<|mv y<|u<|pc (zoP f b j) y y y<|u<|ex y y<|u<|ex y y<|u<|ex y y<|u<|asg y<|u<|sto ti y y y<|u<|asg y<|zw ?_;exact RT0
 .replace h:=oeS h;refine A ?_;obtain ⟨e,m,o,p,h⟩:=bs2 h;refine A ?_;refine u<|sx [] (H9 a.l a.at_ c m)<|zu (env0:=[(2,sA b),(7,.mpt 0 0 0),(9,.ipt 2 [[cL a.l,mI a.at_]] 0 0),(12,.msl 1 0 (length e))]) (st0:=[some (10,[[sA [],nS,sA [],bA false,bA false,iA 0,iA 0,nS,nS,nS]]),sT e]) (zm [0,1])<|u<|mv y<|zu (env0:=[(7,.mpt 0 0 0),(9,.ipt 2 [[cL a.l,mI a.at_]] 0 0),(12,tL e),(13,sA b)]) (st0:=[some (10,[[sA [],nS,sA [],bA false,bA false,iA 0,iA 0,nS,nS,nS]])]) (zm [0])<|A ?_;exact RT0
instance (a:Option zD)(b:T0)(c:T0):PF prog 124 [Xy 2 Zx a,sA b,sA c] (zly a b c) (λr=>(.tup [sA r.1,.agg (zd r.2.1),bA r.2.2])):=⟨λ_=>zp0 a b c⟩
def zlX(a:T0)(b:List za)(c:T2):Option (Bool):=
  (HY b c a).bind λd=>some d
instance (a:T0)(b:List za)(c:T2):PF prog 192 [sA a,.ipt 1 [[.ipt 2 [[cL b,mI c]] 0 0]] 0 0] (zlX a b c) bA:=⟨λr h=>by
 refine zi func192 y kz y y<|A ?_;obtain ⟨d,e,h⟩:=bs h;refine A ?_
 exact RT0⟩
def zpi(a:T0)(b:List za)(c:T2):Option (Bool):=
  (zlX a b c).bind λd=>some (!d)
instance (a:T0)(b:List za)(c:T2):PF prog 274 [sA a,.ipt 1 [[.fn (.func 192) [] [.ipt 1 [[.ipt 2 [[cL b,mI c]] 0 0]] 0 0]]] 0 0] (zpi a b c) bA:=⟨λr h=>by
 refine zi func274 y kz y y<|A ?_;obtain ⟨d,e,h⟩:=bs h;refine A ?_
 exact RT0⟩
def zfk:Option (Int):=
  some (-1)
def zbu(b:T1)(c:List za)(d:T2)(a:Int):zL (Int) (Unit) (Int):=
  cond (decide (a<(length b:Int))) ((idx b a).bind λe=>(zpi e c d).bind λf=>cond f (some (.inr (.inr a))) (some (.inl (i64.wrap (a+1))))) (some (.inr (.inl ())))
def zdg(a:T1)(c:List za)(d:T2):Option (Int):=
  (zk (λz=>zbu a c d z) 0).bind λo=>zB o (λb=>zfk) some
instance (a:T1)(c:List za)(d:T2):PF prog 181 [tL a,.fn (.func 274) [] [.ipt 1 [[.fn (.func 192) [] [.ipt 1 [[.ipt 2 [[cL c,mI d]] 0 0]] 0 0]]] 0 0]] (zdg a c d) iA:=⟨λr h=>by
 refine zi func181 y kz y y<|A ?_;refine ze<|A ?_;obtain ⟨o,ho,h⟩:=bs h;refine lpB ho (λz=>[(0,tL a),(1,.fn (.func 274) [] [.ipt 1 [[.fn (.func 192) [] [.ipt 1 [[.ipt 2 [[cL c,mI d]] 0 0]] 0 0]]] 0 0]),(7,iA (length a:Int)),(8,iA z)]) (λz=>[]) (λb=>[]) (λb=>[]) (pG f181 iA) (Xb []) ?_ ?_
 .rintro i r h;refine A ?_;refine ze ?_;apply Xa h y<;>intro e h
  .refine zc<|ze<|zh<|A ?_;obtain ⟨j,l,m,n,h⟩:=bs2 h;refine A ?_;apply Xa h y<;>intro f h
   .refine A ?_;refine zA ?_;cases h;exact ⟨_,y,_,y,Xc []⟩
   .refine zc<|A ?_;cases h;exact ⟨_,y,zm []⟩
  .refine zp ?_;cases h;exact ⟨y,_,y,zm []⟩
 .rintro ⟨⟩ rfl;refine zl<|A ?_
  exact RT0⟩
def zbn(a:T1)(b:List za)(c:T2):Option (Bool):=
  (zdg a b c).bind λd=>some (decide (0≤d))
theorem zeA(a:T1)(b:List za)(c:T2){r:Bool}(h:zbn a b c=some r):Xo prog 99 [tL a,.fn (.func 274) [] [.ipt 1 [[.fn (.func 192) [] [.ipt 1 [[.ipt 2 [[cL b,mI c]] 0 0]] 0 0]]] 0 0]] (bA r):=by
 refine zi func99 y kz y y<|A ?_;obtain ⟨d,e,h⟩:=bs h;refine A ?_;exact RT0
instance (a:T1)(b:List za)(c:T2):PF prog 99 [tL a,.fn (.func 274) [] [.ipt 1 [[.fn (.func 192) [] [.ipt 1 [[.ipt 2 [[cL b,mI c]] 0 0]] 0 0]]] 0 0]] (zbn a b c) bA:=⟨λ_=>zeA a b c⟩
def OF(a:T1)(b:List za)(c:T2):Option (Bool):=
  (zbn a b c).bind λd=>some (!d)
theorem znP(a:T1)(b:List za)(c:T2){r:Bool}(h:OF a b c=some r):Xo prog 195 [tL a,.fn (.func 192) [] [.ipt 1 [[.ipt 2 [[cL b,mI c]] 0 0]] 0 0]] (bA r):=by
 refine zi func195 y kz y y<|A ?_;obtain ⟨e,d,h⟩:=bs h;refine A ?_;refine u<|pcs (zeA a b c d) y y (.cons (si y) (.cons (ZA t ⟨(XR y ⟨(si y),t⟩),t⟩) .nil)) XA<|A ?_;exact RT0
instance (a:T1)(b:List za)(c:T2):PF prog 195 [tL a,.fn (.func 192) [] [.ipt 1 [[.ipt 2 [[cL b,mI c]] 0 0]] 0 0]] (OF a b c) bA:=⟨λ_=>znP a b c⟩
def zl0(a:List za)(b:T2)(c:T0)(d:zb)(e:T1)(f:T1)(i:Bool)(j:Bool):Unit:=
  ()
theorem zy(a:List za)(b:T2)(c:T0)(d:zb)(e:T1)(f:T1)(i:Bool)(j:Bool){r:Unit}(h:zl0 a b c d e f i j=r):SC prog 194 [.mpt 0 0 0,bA j] (tV a b c d e f i []) (.tup []) (tV a b c d e f (i||(!j)) []):=by
 refine ⟨⟨t,Xw (sz:=1) (λ_=>y),Xw (sz:=1) (λ_=>y),t⟩,zR func194 y kz y ?_⟩;unfold zl0 at h;refine A ?_;obtain rfl:=h;exact ⟨_,y,Xc [0,1,2]⟩
def zlY(a:T0)(b:List za)(c:T2):Option (Bool):=
  (H2 b c a a).bind λd=>some d
instance (a:T0)(b:List za)(c:T2):PF prog 197 [sA a,.ipt 1 [[.ipt 2 [[cL b,mI c]] 0 0]] 0 0] (zlY a b c) bA:=⟨λr h=>by
 refine zi func197 y kz y y<|A ?_;obtain ⟨e,d,h⟩:=bs h;refine rg y<|u<|ld ti y y<|u<|mv y<|u<|mv y<|u<|pc (Ih b c a a d) y y y<|u<|asg y<|zw ?_
 exact RT0⟩
def zlZ(a:T0)(b:List za)(c:T2):Option (Bool):=
  (zlY a b c).bind λd=>some (!d)
instance (a:T0)(b:List za)(c:T2):PF prog 274 [sA a,.ipt 1 [[.fn (.func 197) [] [.ipt 1 [[.ipt 2 [[cL b,mI c]] 0 0]] 0 0]]] 0 0] (zlZ a b c) bA:=⟨λr h=>by
 refine zi func274 y kz y y<|A ?_;obtain ⟨d,e,h⟩:=bs h;refine A ?_
 exact RT0⟩
def zfl:Option (Int):=
  some (-1)
def zbv(b:T1)(c:List za)(d:T2)(a:Int):zL (Int) (Unit) (Int):=
  cond (decide (a<(length b:Int))) ((idx b a).bind λe=>(zlZ e c d).bind λf=>cond f (some (.inr (.inr a))) (some (.inl (i64.wrap (a+1))))) (some (.inr (.inl ())))
def zdh(a:T1)(c:List za)(d:T2):Option (Int):=
  (zk (λz=>zbv a c d z) 0).bind λo=>zB o (λb=>zfl) some
instance (a:T1)(c:List za)(d:T2):PF prog 181 [tL a,.fn (.func 274) [] [.ipt 1 [[.fn (.func 197) [] [.ipt 1 [[.ipt 2 [[cL c,mI d]] 0 0]] 0 0]]] 0 0]] (zdh a c d) iA:=⟨λr h=>by
 refine zi func181 y kz y y<|A ?_;refine ze<|A ?_;obtain ⟨o,ho,h⟩:=bs h;refine lpB ho (λz=>[(0,tL a),(1,.fn (.func 274) [] [.ipt 1 [[.fn (.func 197) [] [.ipt 1 [[.ipt 2 [[cL c,mI d]] 0 0]] 0 0]]] 0 0]),(7,iA (length a:Int)),(8,iA z)]) (λz=>[]) (λb=>[]) (λb=>[]) (pG f181 iA) (Xb []) ?_ ?_
 .rintro i r h;refine A ?_;refine ze ?_;apply Xa h y<;>intro e h
  .refine zc<|ze<|zh<|A ?_;obtain ⟨j,l,m,n,h⟩:=bs2 h;refine A ?_;apply Xa h y<;>intro f h
   .refine A ?_;refine zA ?_;cases h;exact ⟨_,y,_,y,Xc []⟩
   .refine zc<|A ?_;cases h;exact ⟨_,y,zm []⟩
  .refine zp ?_;cases h;exact ⟨y,_,y,zm []⟩
 .rintro ⟨⟩ rfl;refine zl<|A ?_
  exact RT0⟩
def zbo(a:T1)(b:List za)(c:T2):Option (Bool):=
  (zdh a b c).bind λd=>some (decide (0≤d))
theorem zeB(a:T1)(b:List za)(c:T2){r:Bool}(h:zbo a b c=some r):Xo prog 99 [tL a,.fn (.func 274) [] [.ipt 1 [[.fn (.func 197) [] [.ipt 1 [[.ipt 2 [[cL b,mI c]] 0 0]] 0 0]]] 0 0]] (bA r):=by
 refine zi func99 y kz y y<|A ?_;obtain ⟨d,e,h⟩:=bs h;refine A ?_;exact RT0
instance (a:T1)(b:List za)(c:T2):PF prog 99 [tL a,.fn (.func 274) [] [.ipt 1 [[.fn (.func 197) [] [.ipt 1 [[.ipt 2 [[cL b,mI c]] 0 0]] 0 0]]] 0 0]] (zbo a b c) bA:=⟨λ_=>zeB a b c⟩
def zjJ(a:T1)(b:List za)(c:T2):Option (Bool):=
  (zbo a b c).bind λd=>some (!d)
theorem zn7(a:T1)(b:List za)(c:T2){r:Bool}(h:zjJ a b c=some r):Xo prog 195 [tL a,.fn (.func 197) [] [.ipt 1 [[.ipt 2 [[cL b,mI c]] 0 0]] 0 0]] (bA r):=by
 refine zi func195 y kz y y<|A ?_;obtain ⟨e,d,h⟩:=bs h;refine A ?_;refine u<|pcs (zeB a b c d) y y (.cons (si y) (.cons (ZA t ⟨(XR y ⟨(si y),t⟩),t⟩) .nil)) XA<|A ?_;exact RT0
instance (a:T1)(b:List za)(c:T2):PF prog 195 [tL a,.fn (.func 197) [] [.ipt 1 [[.ipt 2 [[cL b,mI c]] 0 0]] 0 0]] (zjJ a b c) bA:=⟨λ_=>zn7 a b c⟩
def zgr(a:zV)(b:Int):Bool:=
  (a.At == b)
instance (a:zV)(b:Int):PF prog 340 [.agg (zO a),.ipt 1 [[iA b]] 0 0] (some (zgr a b)) bA:=.of λr h=>by
 refine zi func340 y kz y y ?_;unfold zgr at h;refine A ?_;refine A ?_;refine zA ?_;obtain rfl:=h;exact ⟨_,y,Xc []⟩
def zfE:Option (Int):=
  some (-1)
def zbC(b:List zV)(c:Int)(a:Int):zL (Int) (Unit) (Int):=
  cond (decide (a<(length b:Int))) ((idx b a).bind λd=>cond (zgr d c) (some (.inr (.inr a))) (some (.inl (i64.wrap (a+1))))) (some (.inr (.inl ())))
def zb4(a:List zV)(c:Int):Option (Int):=
  (zk (λz=>zbC a c z) 0).bind λo=>zB o (λb=>zfE) some
theorem zfF(a:List zV)(c:Int){r:Int}(h:zb4 a c=some r):Xo prog 339 [.isl 3 (map zO a),.fn (.func 340) [] [.ipt 1 [[iA c]] 0 0]] (iA r):=by
 refine zi func339 y kz y y<|A ?_;refine ze<|A ?_;obtain ⟨o,ho,h⟩:=bs h;refine lpB ho (λz=>[(0,.isl 3 (map zO a)),(1,.fn (.func 340) [] [.ipt 1 [[iA c]] 0 0]),(7,iA (length a:Int)),(8,iA z)]) (λz=>[]) (λb=>[]) (λb=>[]) (pG f339 iA) (Xb []) ?_ ?_
 .rintro f r h;refine A ?_;refine ze ?_;apply Xa h y<;>intro d h
  .refine zc<|ze<|zh<|A ?_;obtain ⟨i,j,h⟩:=bs h;refine A ?_;apply Xa h y<;>intro e h
   .refine A ?_;refine zA ?_;cases h;exact ⟨_,y,_,y,Xc []⟩
   .refine zc<|A ?_;cases h;exact ⟨_,y,zm []⟩
  .refine zp ?_;cases h;exact ⟨y,_,y,zm []⟩
 .rintro ⟨⟩ rfl;refine zl<|A ?_;exact RT0
instance (a:List zV)(b:Int):PF prog 339 [.isl 3 (map zO a),.fn (.func 340) [] [.ipt 1 [[iA b]] 0 0]] (zb4 a b) iA:=⟨λ_=>zfF a b⟩
def Il(e:List za)(f:T2)(i:T0)(a:zb)(j:T1)(l:T1)(m:Bool)(d:Int):Option ((Option zV)):=
  (zb4 a.Maps d).bind λb=>cond (decide (b<0)) (some none) ((idx a.Maps b).bind λc=>some (some c))
theorem zhO(b:List za)(c:T2)(d:T0)(a:zb)(e:T1)(f:T1)(i:Bool)(j:Int){r:(Option zV)}(h:Il b c d a e f i j=some r):SC prog 277 [.mpt 0 0 0,iA j] (tV b c d a e f i []) (Xy 3 zO r) (tV b c d a e f i []):=by
 refine ⟨⟨t,Xw (sz:=1) (λ_=>y),Xw (sz:=1) (λ_=>y),t⟩,zR func277 y kz y ?_⟩;refine A ?_;obtain ⟨p,n,h⟩:=bs h;refine A ?_;refine u<|pcs (zfF a.Maps j n) y y (.cons (si y) (.cons (ZA t ⟨(XR y ⟨(si y),t⟩),t⟩) .nil)) XA<|A ?_;refine ze<|A ?_;apply Xa h y<;>intro l h
 .refine A ?_;exact RT3
 .refine zc ?_;obtain ⟨o,m,h⟩:=bs h;refine rg y<|u<|mv y<|u<|nc y y<|u<|fa ti y y y<|u<|fa ti y y y<|u<|ld ti y y<|u<|mv y<|u<|ixI ti y ti y y y m<|zKl m<|u<|asg y<|zw ?_;exact RT3
def OM(b:List za)(c:T2)(a:T0):Option (Bool):=
  (cond (!(a == [73])) ((H2 b c a a).bind λd=>some d) (some false)).bind λe=>some e
instance (d:List za)(e:T2)(c:T0):PF prog 337 [.ipt 2 [[cL d,mI e]] 0 0,sA c] (OM d e c) bA:=⟨λr h=>by
 refine zi func337 y kz y y<|A ?_;obtain ⟨f,b,h⟩:=bs h;refine rg y<|u<|mv y<|u<|sne ti y y<|u<|mv y<|Zi (x:=f) (j:=2) 4 y y y y y gpn (λa=>by replace b:=bT a b;obtain ⟨l,i,b⟩:=bs b;obtain rfl:=sm b;exact g y a<|mv y<|g y a<|mv y<|g y a<|mv y<|g y a<|pc (Ih d e c c i) y y y<|zw (eg [8,9,10,11] 4 y y y y)) (λhb=>(sm (bF hb b)).symm)<|u<|asg y<|zw ?_
 exact RT0⟩
def DO(a:List za)(b:T2)(d:T0)(c:T0):Option (Bool):=
  (HY a b d).bind λm=>(cond (!m) (some true) ((HY a b c).bind λn=>some (!n))).bind λo=>cond o (some false) (cond ((c == [84])||(d == c)) (some true) (cond (d == [78]) ((OM a b c).bind λp=>some p) ((OM a b d).bind λq=>(cond (!q) (some true) ((OM a b c).bind λe=>some (!e))).bind λf=>cond f (some false) ((zK a b c).bind λi=>(cond i.1.Interface (some true) ((H2 a b d c).bind λj=>some j)).bind λl=>some l))))
theorem zkV(c:List za)(d:T2)(e:T0)(f:T0){r:Bool}(h:DO c d e f=some r):Xo prog 271 [.ipt 2 [[cL c,mI d]] 0 0,sA e,sA f] (bA r):=by
 refine zi func271 y kz y y<|A ?_;refine ze<|zh ?_;obtain ⟨E,F,G,H,h⟩:=bs2 h;refine A ?_;apply Xa h y<;>intro l h
 .refine A ?_;exact RT0
 .refine A ?_;apply Xa h y<;>intro m h
  .refine A ?_;exact RT0
  .refine A ?_;apply Xa h y<;>intro n h
   .obtain ⟨I,J,h⟩:=bs h;refine A ?_;exact RT0
   .obtain ⟨K,q,s,v,h⟩:=bs2 h;refine A ?_;apply Xa h y<;>intro i h
    .refine A ?_;exact RT0
    .refine zc ?_;obtain ⟨B,C,h⟩:=bs h;refine A ?_;obtain ⟨o,b,h⟩:=bs h;refine rg y<|u<|fa ti y y y<|u<|ld ti y y<|u<|mv y<|Ud (x:=o) (j:=2) 4 y y y y y gpn (λa=>by replace b:=bF a b;obtain ⟨D,p,b⟩:=bs b;obtain rfl:=sm b;exact g y a<|mv y<|g y a<|mv y<|g y a<|mv y<|g y a<|pc (Ih c d e f p) y y y<|zw (eg [54,55,56,57] 4 y y y y)) (λhb=>(sm (bT hb b)).symm)<|u<|asg y<|zw ?_;exact RT0
instance (a:List za)(b:T2)(c:T0)(d:T0):PF prog 271 [.ipt 2 [[cL a,mI b]] 0 0,sA c,sA d] (DO a b c d) bA:=⟨λ_=>zkV a b c d⟩
def zul:Option (Bool):=
  some true
def EA(f:List za)(i:T2)(b:T1)(j:T1)(a:Int):zL (Int) (Unit) (Bool):=
  cond (decide (a<(length b:Int))) ((idx b a).bind λc=>(idx j a).bind λd=>(DO f i c d).bind λe=>cond (!e) (some (.inr (.inr false))) (some (.inl (i64.wrap (a+1))))) (some (.inr (.inl ())))
def zkN(d:List za)(e:T2)(a:T1)(c:T1):Option (Bool):=
  cond (!((length a:Int) == (length c:Int))) (some false) ((zk (λz=>EA d e a c z) 0).bind λo=>zB o (λb=>zul) some)
instance (c:List za)(d:T2)(a:T1)(e:T1):PF prog 272 [.ipt 2 [[cL c,mI d]] 0 0,tL a,tL e] (zkN c d a e) bA:=⟨λr h=>by
 refine zi func272 y kz y y<|A ?_;refine ze<|A ?_;apply Xa h y<;>intro i h
 .refine A ?_;exact RT0
 .refine zc<|ze<|A ?_;obtain ⟨o,ho,h⟩:=bs h;refine lpB ho (λz=>[(0,.ipt 2 [[cL c,mI d]] 0 0),(1,tL a),(2,tL e),(14,iA (length a:Int)),(15,iA z)]) (λz=>[]) (λb=>[]) (λb=>[]) (pG f272 bA) (Xb []) ?_ ?_
  .rintro q r h;refine A ?_;refine ze ?_;apply Xa h y<;>intro j h
   .refine zc<|ze<|zh<|A ?_;obtain ⟨l,s,m,v,n,p,h⟩:=bs3 h;refine rdA [(0,_),(1,_),(2,_),(14,_),(15,_),(28,_)] [] [] [0,1,2,3,4,5,6,7,8,9,10] [(28,_),(27,_),(26,_),(25,_),(24,_),(23,_),(22,_),(21,_),(20,_),(19,_),(18,_)] 0 (Xl (z:=Xb [])) ?_;apply Xa h y<;>intro f h
    .refine A ?_;refine zA ?_;cases h;exact ⟨_,y,_,y,Xc []⟩
    .refine zc<|A ?_;cases h;exact ⟨_,y,zm []⟩
   .refine zp ?_;cases h;exact ⟨y,_,y,zm []⟩
  .rintro ⟨⟩ rfl;refine zl<|A ?_
   exact RT0⟩
def DN(a:List za)(b:T2)(c:zV)(d:T1)(e:T1):Option (Bool):=
  (zkN a b d c.Locals).bind λf=>(cond f ((zkN a b e c.Stack).bind λi=>some i) (some false)).bind λj=>some j
theorem zkW(a:List za)(b:T2)(c:zV)(d:T1)(e:T1){r:Bool}(h:DN a b c d e=some r):Xo prog 273 [.ipt 2 [[cL a,mI b]] 0 0,.agg (zO c),tL d,tL e] (bA r):=by
 refine zi func273 y kz y y<|A ?_;obtain ⟨f,i,j,l,h⟩:=bs2 h;refine A ?_;exact RT0
instance (a:List za)(b:T2)(c:zV)(d:T1)(e:T1):PF prog 273 [.ipt 2 [[cL a,mI b]] 0 0,.agg (zO c),tL d,tL e] (DN a b c d e) bA:=⟨λ_=>zkW a b c d e⟩
def Ik(b:List za)(c:T2)(j:T0)(l:zb)(d:T1)(e:T1)(a:Bool)(m:Int):Option (Bool):=
  (Il b c j l d e a m).bind λn=>Zq n (some (a||(!false))) (λf=>(DN b c f d e).bind λi=>some (a||(!i)))
theorem zjQ(c:List za)(d:T2)(f:T0)(i:zb)(e:T1)(a:T1)(j:Bool)(m:Int){r:Bool}(h:Ik c d f i e a j m=some r):SC prog 202 [.mpt 0 0 0,iA m,.msl 2 0 (length a)] (tV c d f i e a j []) (.tup []) (tV c d f i e a r []):=by
 refine ⟨⟨t,Xw (sz:=1) (λ_=>y),Xw (sz:=1) (λ_=>y),t⟩,zR func202 y kz y ?_⟩;obtain ⟨n,p,h⟩:=bs h;refine A ?_;refine u<|sx [0,1,2] (zhO c d f i e a j m p)<|zJM zDL<|zu (env0:=[(0,.mpt 0 0 0),(2,.msl 2 0 (length a)),(9,Xy 3 zO n)]) (st0:=(sV c d f i e a j [])) (zm [0,1,2])<|A ?_
 rcases n with _ |o
 .replace h:=oeN h;refine XC [] (sV c d f i e a (j||(!false)) []) [18] [17,16,15,14,13,12,11,10,9,8,7,6,5,4,3,2,1,0] [(27,bA false),(26,.lit undef),(25,.lit undef),(24,.lit undef),(23,.lit undef),(22,.lit undef),(21,.lit undef),(20,.lit undef),(19,.lit undef),(18,.lit undef),(17,.lit undef),(16,.lit undef),(15,.lit undef),(14,.lit undef),(13,bA false),(12,bA false),(11,.lit (.pointer none)),(10,.mpt 0 0 0)] 1 (ZQ ⟨pe,pe,pe,pe,pe,pe,pe,pe,pe,pe,pe,pe,pe,pe,pe,(pb y (nep ti y y y y y y w)),pe,pe,t⟩ ⟨(λ_ _=>⟨_,y,y,sc [0,1,2] (args:=[.mpt 0 0 0,bA false]) (zy c d f i e a j false y) y y y y ⟨(.mpt y),(rnI y),t⟩ ⟨⟨_,y,(KX y ⟨(.msl y),(.msl y),(rnI y),t⟩)⟩,⟨y,mkI (λ_=>y)⟩,⟨y,mkI (λ_=>y)⟩,t⟩<|⟨(.tup []),[],[(28,.tup [])],y,y,kz,y,Ue ⟨pe,pe,pe,pe,pe,pe,pe,pe,pe,pe,pe,pe,pe,pe,pe,(pb y (nep ti y y y y y y w)),pe,pe,t⟩ (zm [0,1,2])⟩⟩),t⟩) ?_;cases h;exact ⟨_,y,Xc [0,1,2]⟩
 .replace h:=oeS h;obtain ⟨l,q,h⟩:=bs h;refine XC [] (sV c d f i e a (j||(!l)) []) [18] [0,1,2,3,4,5,6,7,8,9,10,11,12,13,14,15,16,17] [(27,_),(26,_),(25,_),(24,_),(23,_),(22,_),(21,_),(20,_),(19,_),(18,_),(17,_),(16,_),(15,_),(14,_),(13,_),(12,_),(11,_),(10,_)] 1 (Xi ⟨peC,peC,peC,peC,peC,peC,peC,peC,peC,peC,peC,peC,peC,peC,peC,peC,(by exact λ_=>pag (b:=true) y y y y y y (pcs (zkW c d o e a q) y y (.cons (si y) (.cons (si y) (.cons (XM y (λ_=>y)) (.cons (XM y (λ_=>y)) .nil)))) XA<|w)),peC,t⟩ (by exact ⟨(λ_ _=>⟨_,y,y,sc [0,1,2] (args:=[.mpt 0 0 0,bA l]) (zy c d f i e a j l y) y y y y ⟨(.mpt y),(rnI y),t⟩ ⟨⟨_,y,(KX y ⟨(.msl y),(.msl y),(rnI y),t⟩)⟩,⟨y,mkI (λ_=>y)⟩,⟨y,mkI (λ_=>y)⟩,t⟩<|⟨(.tup []),[],[(28,_)],y,y,y,y,Xl (z:=Xb [0,1,2])⟩⟩),t⟩)) ?_;cases h;exact ⟨_,y,Xc [0,1,2]⟩
def Ks(a:T1):Option T1:=Xx 16 ([]:T1) a
theorem Oz(a:T1){r:T1}(h:Ks a=some r):SC prog 130 [tL a] [] (.msl 0 0 (length r)) [.many 1 (map Xf r)]:=by
 refine ⟨⟨Xw (sz:=1) (λ_=>y),t⟩,zR func130 y kz y ?_⟩;unfold Ks at h;refine A ?_;refine ze ?_;refine rg y<|u<|mv y<|zJL ti y y y<|And.intro ?_ ?_
 · intro hl;refine zw ?_;subst hl
   obtain rfl:[]=r:=by simpa [Xx] using h
   refine KM y (λ_=>?_) (λhx=>by cases hx);refine A ?_;refine zA ?_;exact ⟨_,y,[.fresh 1],.nilown y,y,⟨w,t⟩,y,k⟩
 · refine zw ?_;refine KM y (λhx=>by cases hx) (λ_=>?_);refine zc<|A ?_;refine u<|apM (l:=([]:T1)) (f:=Xf) 1 ti y ti y y (by decide) ti y y y y roI (λ_=>y) y h<|A ?_;refine zA ?_;exact ⟨_,y,Xc [1]⟩
def BL(b:(Option zV))(c:Bool):Option (T1×T1×Bool):=
  Zq b (none) (λa=>(Ks a.Locals).bind λd=>(Ks a.Stack).bind λe=>some (d,e,c))
def zgF(e:List za)(f:T2)(i:T0)(j:zb)(c:T1)(d:T1)(b:Bool)(l:Int)(m:Bool):Option (T1×T1×Bool):=
  (Il e f i j c d b l).bind λa=>cond (Option.isNone a) (some (c,d,(b||(!m)))) (cond m ((Ik e f i j c d b l).bind λn=>BL a n) (BL a b))
theorem znQ(a:List za)(b:T2)(c:T0)(d:zb)(e:T1)(f:T1)(j:Bool)(l:Int)(m:Bool){r:T1×T1×Bool}(h:zgF a b c d e f j l m=some r):SC prog 198 [.mpt 0 0 0,iA l,bA m] (tV a b c d e f j []) (.tup []) [.one 15 (vK a b c d (.msl 3 0 (length r.1)) (.msl 4 0 (length r.2.1)) (bA r.2.2)),.no,.no,.many 1 (map Xf r.1),.many 1 (map Xf r.2.1)]:=by
 refine ⟨⟨t,t,t,Xw (sz:=1) (λ_=>y),Xw (sz:=1) (λ_=>y),t⟩,zR func198 y kz y ?_⟩;obtain ⟨i,B,h⟩:=bs h;refine A ?_;refine u<|sx [0,1,2] (zhO a b c d e f j l B)<|zJM zDL<|zu (env0:=[(0,.mpt 0 0 0),(1,iA l),(2,bA m),(9,Xy 3 zO i)]) (st0:=(sV a b c d e f j [])) (zm [0,1,2])<|A ?_;refine ze ?_;refine rg y<|u<|mv y<|u<|zJY ti y y y<|zw ?_;apply Xa h y<;>intro v h
 .refine A ?_;refine u<|sx [0,1,2] (zy a b c d e f j m y)<|zu (env0:=[]) (st0:=(sV a b c d e f (j||(!m)) [])) (zm [0,1,2])<|zw ?_;refine zA ?_;cases h;exact ⟨_,y,KZ [0,.dead,.dead,1,2]⟩
 .refine zc ?_;refine Xz (X:=Bool) (λz=>[(0,.mpt 0 0 0),(6,Xy 3 zO i)]) (λz=>(sV a b c d e f z [])) (λz=>BL i z=some r) ?_ ?_
  .refine A ?_;apply Xa h y<;>intro x h
   .obtain ⟨p,C,h⟩:=bs h;refine A ?_;exact u<|sx [0,1,2] (zjQ a b c d e f j l C)<|zu (env0:=[(0,.mpt 0 0 0),(6,Xy 3 zO i)]) (st0:=(sV a b c d e f p [])) (zm [0,1,2])<|zw (⟨p,h,zm [0,1,2]⟩)
   .refine zc ?_;exact ⟨j,h,zm [0,1,2]⟩
  .rintro q h;replace h:BL i q=some r:=h;unfold BL at h
   rcases i with _ |s
   .replace h:=oeN h;cases h
   .replace h:=oeS h;obtain ⟨n,D,o,E,h⟩:=bs2 h;refine XC [] [some (15,[(vK a b c d (.msl 3 0 (length n)) (.msl 4 0 (length o)) (bA q))]),sT e,sT f,sT n,sT o] [6,11,14,17] [0,1,2,3,4,5,7,8,9,10] [(33,_),(32,_),(31,_),(30,_),(28,_),(27,_),(26,_),(25,_),(24,_),(23,_)] 4 (Xi (z:=by exact ⟨(λ_ _=>⟨_,y,y,sx [] (Oz s.Locals D)<|⟨(.msl 3 0 (length n)),[],[(29,_)],y,y,y,y,Xi (z:=by exact ⟨nv,(λ_ _=>⟨_,y,y,sx [] (Oz s.Stack E)<|⟨(.msl 4 0 (length o)),[12,13],[(36,_),(35,_),(34,_)],y,y,y,y,Xi (z:=by exact ⟨nv,nv,(λ_ _=>⟨_,y,y,sto ti y y y<|⟨.any,[15,16],[(38,_),(37,_)],y,y,y,t,Xi (z:=by exact ⟨nv,nv,nv,(λ_ _=>⟨_,y,y,sto ti y y y<|⟨.any,[],[],y,y,y,t,Xl (z:=Xb [0,1,2,3,4])⟩⟩),t⟩)⟩⟩),nw,t⟩)⟩⟩),nw,nw,t⟩)⟩⟩),nw,nw,nw,t⟩)) ?_;cases h;exact ⟨_,y,Xc [0,.dead,.dead,3,4]⟩
def zfN(b:List za)(c:T2)(j:T0)(l:zb)(d:T1)(m:T1)(a:Bool)(n:Int)(o:T1):Option (Bool):=
  (Il b c j l d m a n).bind λe=>Zq e (some (a||(!false))) (λf=>(DN b c f d o).bind λi=>some (a||(!i)))
theorem zmC(a:List za)(c:T2)(e:T0)(f:zb)(d:T1)(i:T1)(l:Bool)(o:Int)(j:T1){r:Bool}(h:zfN a c e f d i l o j=some r):SC prog 202 [.mpt 0 0 0,iA o,.msl 3 0 (length j)] (tV a c e f d i l [.many 1 (map Xf j)]) (.tup []) (tV a c e f d i r [.many 1 (map Xf j)]):=by
 refine ⟨⟨t,Xw (sz:=1) (λ_=>y),Xw (sz:=1) (λ_=>y),Xw (sz:=1) (λ_=>y),t⟩,zR func202 y kz y ?_⟩;obtain ⟨n,q,h⟩:=bs h;refine A ?_;refine u<|sx [0,1,2] (zhO a c e f d i l o q)<|zJM zDL<|zu (env0:=[(0,.mpt 0 0 0),(2,.msl 3 0 (length j)),(9,Xy 3 zO n)]) (st0:=(sV a c e f d i l [sT j])) (zm [0,1,2,3])<|A ?_
 rcases n with _ |p
 .replace h:=oeN h;refine XC [] (sV a c e f d i (l||(!false)) [sT j]) [18] [17,16,15,14,13,12,11,10,9,8,7,6,5,4,3,2,1,0] [(27,bA false),(26,.lit undef),(25,.lit undef),(24,.lit undef),(23,.lit undef),(22,.lit undef),(21,.lit undef),(20,.lit undef),(19,.lit undef),(18,.lit undef),(17,.lit undef),(16,.lit undef),(15,.lit undef),(14,.lit undef),(13,bA false),(12,bA false),(11,.lit (.pointer none)),(10,.mpt 0 0 0)] 1 (ZQ ⟨pe,pe,pe,pe,pe,pe,pe,pe,pe,pe,pe,pe,pe,pe,pe,(pb y (nep ti y y y y y y w)),pe,pe,t⟩ ⟨(λ_ _=>⟨_,y,y,sc [0,1,2] (args:=[.mpt 0 0 0,bA false]) (zy a c e f d i l false y) y y y y ⟨(.mpt y),(rnI y),t⟩ ⟨⟨_,y,(KX y ⟨(.msl y),(.msl y),(rnI y),t⟩)⟩,⟨y,mkI (λ_=>y)⟩,⟨y,mkI (λ_=>y)⟩,t⟩<|⟨(.tup []),[],[(28,.tup [])],y,y,kz,y,Ue ⟨pe,pe,pe,pe,pe,pe,pe,pe,pe,pe,pe,pe,pe,pe,pe,(pb y (nep ti y y y y y y w)),pe,pe,t⟩ (zm [0,1,2,3])⟩⟩),t⟩) ?_;cases h;exact ⟨_,y,Xc [0,1,2,3]⟩
 .replace h:=oeS h;obtain ⟨m,s,h⟩:=bs h;refine XC [] (sV a c e f d i (l||(!m)) [sT j]) [18] [0,1,2,3,4,5,6,7,8,9,10,11,12,13,14,15,16,17] [(27,_),(26,_),(25,_),(24,_),(23,_),(22,_),(21,_),(20,_),(19,_),(18,_),(17,_),(16,_),(15,_),(14,_),(13,_),(12,_),(11,_),(10,_)] 1 (Xi ⟨peC,peC,peC,peC,peC,peC,peC,peC,peC,peC,peC,peC,peC,peC,peC,peC,(by exact λ_=>pag (b:=true) y y y y y y (pcs (zkW a c p d j s) y y (.cons (si y) (.cons (si y) (.cons (XM y (λ_=>y)) (.cons (XM y (λ_=>y)) .nil)))) XA<|w)),peC,t⟩ (by exact ⟨(λ_ _=>⟨_,y,y,sc [0,1,2] (args:=[.mpt 0 0 0,bA m]) (zy a c e f d i l m y) y y y y ⟨(.mpt y),(rnI y),t⟩ ⟨⟨_,y,(KX y ⟨(.msl y),(.msl y),(rnI y),t⟩)⟩,⟨y,mkI (λ_=>y)⟩,⟨y,mkI (λ_=>y)⟩,t⟩<|⟨(.tup []),[],[(28,_)],y,y,y,y,Xl (z:=Xb [0,1,2,3])⟩⟩),t⟩)) ?_;cases h;exact ⟨_,y,Xc [0,1,2,3]⟩
def znS(a:Bool):Option (Bool):=
  some a
def ze9(a:Int)(b:Bool):zL (Bool×Int) (Bool) (Bool):=
  some (.inl (b,(i64.wrap (a+1))))
def zdj(f:List za)(i:T2)(m:T0)(n:zb)(o:T1)(p:T1)(j:Int)(b:Bool)(c:Int)(a:zU)(d:T0):zL (Bool×Int) (Bool) (Bool):=
  (H2 f i d [84,104,114,111,119,110]).bind λe=>cond ((decide (a.From≤j))&&(decide (j<a.To))) ((zfN f i m n o p (b||(!e)) a.At [d]).bind λl=>ze9 c l) (ze9 c (b||(!e)))
def Is(e:List za)(f:T2)(i:T0)(d:zb)(j:T1)(l:T1)(m:Int)(c:Bool)(a:Int):zL (Bool×Int) (Bool) (Bool):=
  cond (decide (a<(length d.Traps:Int))) ((idx d.Traps a).bind λb=>cond (b.C == []) (zdj e f i d j l m c a b [84,104,114,111,119,110]) (zdj e f i d j l m c a b b.C)) (some (.inr (.inl c)))
def ze4(a:List za)(c:T2)(d:T0)(e:zb)(f:T1)(i:T1)(j:Bool)(l:Int):Option (Bool):=
  (zk (λz=>Is a c d e f i l z.1 z.2) (j,0)).bind λo=>zB o (λb=>znS b) some
theorem znT(c:List za)(d:T2)(e:T0)(a:zb)(f:T1)(i:T1)(B:Bool)(m:Int){r:Bool}(h:ze4 c d e a f i B m=some r):SC prog 199 [.mpt 0 0 0,iA m] (tV c d e a f i B []) (.tup []) (tV c d e a f i r []):=by
 refine ⟨⟨t,Xw (sz:=1) (λ_=>y),Xw (sz:=1) (λ_=>y),t⟩,zR func199 y kz y ?_⟩;refine A ?_;obtain ⟨o,ho,h⟩:=bs h;refine lpB ho (λz=>[(0,.mpt 0 0 0),(1,iA m),(11,.isl 4 (map XD a.Traps)),(12,iA (length a.Traps:Int)),(13,iA z.2)]) (λz=>(sV c d e a f i z.1 [])) (λb=>[]) (λb=>(sV c d e a f i b [])) (λr env st=>U0 prog f199 3 (.tup []) (sV c d e a f i r []) env st) (Xb [0,1,2]) ?_ ?_
 .rintro ⟨j,l⟩ r h;refine A ?_;refine ze ?_;apply Xa h y<;>intro D h
  .refine zc ?_;refine Xz (X:=Bool) (λz=>[(0,.mpt 0 0 0),(1,iA m),(11,.isl 4 (map XD a.Traps)),(12,iA (length a.Traps:Int)),(13,iA l)]) (λz=>(sV c d e a f i z [])) (λz=>ze9 l z=some r) ?_ ?_
   .refine zh ?_;obtain ⟨n,I,h⟩:=bs h;refine A ?_;refine A ?_;refine Xz (X:=T0) (λz=>[(0,.mpt 0 0 0),(1,iA m),(5,.mpt 3 0 0),(6,sA z),(11,.isl 4 (map XD a.Traps)),(12,iA (length a.Traps:Int)),(13,iA l)]) (λz=>(sV c d e a f i j [some (4,[(XD n)])])) (λz=>zdj c d e a f i m j l n z=some r) ?_ ?_
    .refine A ?_;apply Xa h y<;>intro v h
     .refine A ?_;exact (⟨[84,104,114,111,119,110],h,zm [0,1,2,3]⟩)
     .refine zc ?_;exact ⟨n.C,h,zm [0,1,2,3]⟩
    .rintro q h;obtain ⟨p,E,h⟩:=bs h;refine rg y<|u<|mv y<|u<|mv y<|u<|nc y y<|u<|fa ti y y y<|u<|ld ti y y<|u<|mv y<|u<|pc (Ih c d q [84,104,114,111,119,110] E) y y y<|u<|sx [0,1,2] (zy c d e a f i j p y)<|zu (env0:=[(0,.mpt 0 0 0),(1,iA m),(5,.mpt 3 0 0),(6,sA q),(11,.isl 4 (map XD a.Traps)),(12,iA (length a.Traps:Int)),(13,iA l)]) (st0:=(sV c d e a f i (j||(!p)) [some (4,[(XD n)])])) (zm [0,1,2,3])<|zw ?_;refine A ?_;apply Xa h y<;>intro x h
     .obtain ⟨s,F,h⟩:=bs h;refine A ?_;exact u<|sx [0,1,2,4] (zmC c d e a f i (j||(!p)) n.At [q] F)<|zu (env0:=[(0,.mpt 0 0 0),(1,iA m),(11,.isl 4 (map XD a.Traps)),(12,iA (length a.Traps:Int)),(13,iA l)]) (st0:=(sV c d e a f i s [])) (zm [0,1,2])<|zw (⟨s,h,zm [0,1,2]⟩)
     .refine zc ?_;exact ⟨(j||(!p)),h,zm [0,1,2]⟩
   .rintro G h;refine A ?_;cases h;exact ⟨_,y,zm [0,1,2]⟩
  .refine zp ?_;cases h;exact ⟨y,_,y,zm [0,1,2]⟩
 .rintro H rfl;refine zl ?_;cases h;exact ⟨_,y,Xc [0,1,2]⟩
def UE(a:Int)(b:Int)(c:Int):Bool:=
  ((decide (b≤a))&&(decide (a≤c)))
instance (a:Int)(b:Int)(c:Int):PF prog 278 [iA a,iA b,iA c] (some (UE a b c)) bA:=.of λr h=>by
 refine zi func278 y kz y y ?_;unfold UE at h;refine A ?_;refine A ?_;refine zA ?_;obtain rfl:=h;exact ⟨_,y,Xc []⟩
def zH(d:List za)(e:T2)(f:T0)(i:zb)(j:T1)(a:T1)(l:Bool)(b:T0):Option (T1):=
  (Xx 16 a [b]).bind λc=>some c
theorem zE(a:List za)(b:T2)(c:T0)(d:zb)(e:T1)(l:T1)(i:Bool)(j:T0){r:T1}(h:zH a b c d e l i j=some r):SC prog 281 [.mpt 0 0 0,sA j] (tV a b c d e l i []) (.tup []) (tU a b c d e r i []):=by
 refine ⟨⟨t,Xw (sz:=1) (λ_=>y),t,Xw (sz:=1) (λ_=>y),t⟩,zR func281 y kz y ?_⟩;obtain ⟨n,m,h⟩:=bs h;refine A ?_;refine u<|apM 4 ti y ti y y (by decide) ti y y y y (roX (f:=Xf) (z:=[j]) y y) (λ_=>y) y m<|A ?_;cases h;exact ⟨_,y,Xc [0,1,.dead,4]⟩
def KD(e:List za)(f:T2)(i:T0)(j:zb)(l:T1)(a:T1)(b:Bool):Option (T0×T1×Bool):=
  cond (((length a):Int) == 0) (some ([84],a,true)) ((idx a (i64.wrap (((length a):Int)-1))).bind λc=>(XK a 0 (i64.wrap (((length a):Int)-1))).bind λd=>some (c,d,b))
theorem Ho(e:List za)(i:T2)(j:T0)(m:zb)(d:T1)(a:T1)(n:Bool){r:T0×T1×Bool}(h:KD e i j m d a n=some r):SC prog 341 [.mpt 0 0 0] (tV e i j m d a n []) (sA r.1) (tV e i j m d r.2.1 r.2.2 []):=by
 refine ⟨⟨t,Xw (sz:=1) (λ_=>y),Xw (sz:=1) (λ_=>y),t⟩,zR func341 y kz y ?_⟩;refine A ?_;refine ze<|A ?_;apply Xa h y<;>intro p h
 .refine A ?_;refine A ?_;exact RT3
 .refine zc ?_;obtain ⟨s,v,h⟩:=bs h;refine rdA [(0,_),(3,_)] (sV e i j m d a n []) [] [0,1,2,3,4,5,6,7,8,9,10,11,12] [(3,_),(24,_),(23,_),(22,_),(21,_),(20,_),(19,_),(18,_),(17,_),(16,_),(15,_),(14,_),(13,_)] 0 (Xl (z:=Xb [0,1,2])) ?_;obtain ⟨q,o,h⟩:=bs h;refine rdA [(3,_)] [some (15,[(vK e i j m (.msl 1 0 (length d)) (.msl 2 0 (length q)) (bA n))]),sT d,sT a] [14] [0,1,2,3,4,5,6,7,8,9,10,11,12,13] [(38,_),(37,_),(36,_),(35,_),(34,_),(33,_),(32,_),(31,_),(30,_),(29,_),(28,_),(27,_),(26,_),(25,_)] 1 (Xi ⟨peC,peC,peC,peC,peC,peC,peC,peC,peC,peC,peC,(by exact pb y (slM (l:=a) (c:=(i64.wrap (((length a):Int)-1))) ti y ti y y y (HF y o) o<|w)),peC,peC,t⟩ (by exact ⟨(λ_ _=>⟨_,y,y,sto ti y y y<|⟨.any,[],[],y,y,y,t,Xl (z:=Xb [0,1,2])⟩⟩),t⟩)) ?_;refine zJQ (b:=2) (l:=a) (f:=Xf) (c:=(i64.wrap (((length a):Int)-1))) y y o ?_;refine A ?_;exact RT3
def BC(i:List za)(j:T2)(l:T0)(m:zb)(a:T1)(b:T1)(c:Bool)(n:zs)(d:Bool):Option (T1×T1×Bool):=
  cond d (some (a,b,true)) ((idx a n.A).bind λe=>(zH i j l m a b c e).bind λf=>some (a,f,c))
def Hq(c:List za)(d:T2)(e:T0)(f:zb)(a:T1)(l:T1)(i:Bool)(b:zs):Option (T1×T1×Bool):=
  cond (b.Op == 1) ((zH c d e f a l i [73]).bind λE=>some (a,E,i)) (cond (b.Op == 2) ((zH c d e f a l i [78]).bind λs=>some (a,s,i)) (cond (b.Op == 3) (cond (decide (((length a):Int)≤b.A)) (BC c d e f a l i b true) ((idx a b.A).bind λv=>BC c d e f a l i b (v == [84]))) (cond (b.Op == 4) ((KD c d e f a l i).bind λn=>cond (decide (((length a):Int)≤b.A)) (some (a,n.2.1,true)) ((Ks a).bind λp=>(idx p b.A).bind λF=>some ((List.set p (Int.toNat b.A) n.1),n.2.1,n.2.2))) (cond (b.Op == 5) ((KD c d e f a l i).bind λq=>some (a,q.2.1,q.2.2)) (cond (b.Op == 6) ((KD c d e f a l i).bind λj=>(zH c d e f a j.2.1 j.2.2 j.1).bind λx=>(zH c d e f a x j.2.2 j.1).bind λB=>some (a,B,j.2.2)) (cond (b.Op == 7) ((KD c d e f a l i).bind λo=>(KD c d e f a o.2.1 o.2.2).bind λm=>(zH c d e f a m.2.1 m.2.2 o.1).bind λC=>(zH c d e f a C m.2.2 m.1).bind λD=>some (a,D,m.2.2)) (some (a,l,i))))))))
theorem zor(b:List za)(c:T2)(d:T0)(e:zb)(a:T1)(m:T1)(l:Bool)(n:zs){r:T1×T1×Bool}(h:Hq b c d e a m l n=some r):SC prog 279 [.mpt 0 0 0,.agg (zt n)] (tV b c d e a m l []) (.tup []) [.one 15 (vK b c d e (.msl 3 0 (length r.1)) (.msl 4 0 (length r.2.1)) (bA r.2.2)),.no,.no,.many 1 (map Xf r.1),.many 1 (map Xf r.2.1)]:=by
 refine ⟨⟨t,t,t,Xw (sz:=1) (λ_=>y),Xw (sz:=1) (λ_=>y),t⟩,zR func279 y kz y ?_⟩;refine A ?_;refine A ?_;refine zh<|A ?_;apply Xa h y<;>intro G h
 .obtain ⟨v9,q2,h⟩:=bs h;refine rl y<|u<|mv y<|u<|sx [0,1,2] (zE b c d e a m l [73] q2)<|zu (env0:=[]) (st0:=(sU b c d e a v9 l [])) (zm [0,1,.dead,4])<|zw ?_;cases h;exact ⟨_,y,Xc [0,.dead,.dead,1,3]⟩
 .refine A ?_;apply Xa h y<;>intro H h
  .obtain ⟨I,q4,h⟩:=bs h;refine rl y<|u<|mv y<|u<|sx [0,1,2] (zE b c d e a m l [78] q4)<|zu (env0:=[]) (st0:=(sU b c d e a I l [])) (zm [0,1,.dead,4])<|zw ?_;cases h;exact ⟨_,y,Xc [0,.dead,.dead,1,3]⟩
  .refine A ?_;apply Xa h y<;>intro J h
   .refine ze ?_;refine Xz (X:=Bool) (λz=>[(0,.mpt 0 0 0),(3,.mpt 3 0 0),(38,bA z)]) (λz=>(sV b c d e a m l [some (4,[(zt n)])])) (λz=>BC b c d e a m l n z=some r) ?_ ?_
    .rcases bb (decide (((length a):Int)≤n.A)) with q |q
     .replace h:=bT q h;exact rdQ [] [0,1,2,3,4,5,6,7,8,9,10,11,12,13,14,15,16,17,18] [(38,_),(37,_),(36,_),(35,_),(34,_),(33,_),(32,_),(31,_),(30,_),(29,_),(28,_),(27,_),(26,_),(25,_),(24,_),(23,_),(22,_),(21,_),(20,_)] 0 (Xl (z:=by exact ⟨true,h,Xb [0,1,2,3]⟩))
     .replace h:=bF q h;obtain ⟨K,q7,h⟩:=bs h;exact rdQ [] [0,1,2,3,4,5,6,7,8,9,10,11,12,13,14,15,16,17,18] [(38,_),(37,_),(36,_),(35,_),(34,_),(33,_),(32,_),(31,_),(30,_),(29,_),(28,_),(27,_),(26,_),(25,_),(24,_),(23,_),(22,_),(21,_),(20,_)] 0 (Xl (z:=by exact ⟨(K == [84]),h,Xb [0,1,2,3]⟩))
    .rintro v12 h;apply Xa h y<;>intro L h
     .refine A ?_;refine zA ?_;cases h;exact ⟨_,y,KZ [0,.dead,.dead,1,2]⟩
     .refine zc ?_;obtain ⟨M,q9,N,O,h⟩:=bs2 h;refine XC [] (sU b c d e a N l []) [9] [0,1,2,3,4,5,6,7,8] [(50,_),(49,_),(48,_),(47,_),(46,_),(45,_),(44,_),(43,_),(42,_)] 1 (Xi (z:=by exact ⟨(λ_ _=>⟨_,y,y,sx [0,1,2] (zE b c d e a m l M O)<|⟨(.tup []),[],[(51,_)],y,y,y,y,Xl (z:=Xb [0,1,.dead,4])⟩⟩),t⟩)) ?_;cases h;exact ⟨_,y,Xc [0,.dead,.dead,1,3]⟩
   .refine A ?_;apply Xa h y<;>intro B h
    .obtain ⟨f,P,h⟩:=bs h;refine rg y<|u<|mv y<|u<|sx [0,1,2] (Ho b c d e a m l P)<|zu (env0:=[(0,.mpt 0 0 0),(3,.mpt 3 0 0),(55,sA f.1)]) (st0:=(sV b c d e a f.2.1 f.2.2 [some (4,[(zt n)])])) (zm [0,1,2,3])<|A ?_;refine ze ?_;refine rdA [(0,_),(3,_),(4,_),(63,_)] (sV b c d e a f.2.1 f.2.2 [some (4,[(zt n)])]) [] [0,1,2,3,4,5,6,7] [(63,_),(62,_),(61,_),(60,_),(59,_),(58,_),(57,_),(56,_)] 0 (Xl (z:=Xb [0,1,2,3])) ?_;apply Xa h y<;>intro C h
     .refine A ?_;refine zA ?_;cases h;exact ⟨_,y,KZ [0,.dead,.dead,1,2]⟩
     .refine zc ?_;obtain ⟨p,Q,h⟩:=bs h;refine A ?_;refine zu (env0:=[(0,.mpt 0 0 0),(3,.mpt 3 0 0),(4,sA f.1),(67,.mpt 0 0 0),(71,tL a)]) (st0:=[some (15,[(vK b c d e (tL a) (.msl 2 0 (length f.2.1)) (bA f.2.2))]),none,sT f.2.1,some (4,[(zt n)])]) (zm [0,.dead,2,3])<|u<|sx [] (Oz a Q)<|zu (env0:=[(0,.mpt 0 0 0),(3,.mpt 3 0 0),(4,sA f.1),(67,.mpt 0 0 0),(72,.msl 4 0 (length p))]) (st0:=[some (15,[(vK b c d e (tL a) (.msl 2 0 (length f.2.1)) (bA f.2.2))]),none,sT f.2.1,some (4,[(zt n)]),sT p]) (zm [0,.dead,2,3,4])<|A ?_;obtain ⟨v17,R,h⟩:=bs h;refine XC [] [some (15,[(vK b c d e (.msl 3 0 (length (List.set p (Int.toNat n.A) f.1))) (.msl 2 0 (length f.2.1)) (bA f.2.2))]),none,sT f.2.1,sT (List.set p (Int.toNat n.A) f.1)] [8] [0,1,2,3,4,5,6,7] [(82,_),(81,_),(80,_),(79,_),(78,_),(77,_),(76,_),(75,_)] 1 (Xi (z:=by exact ⟨(λ_ _=>⟨_,y,y,BX (c':=f.1) ti y y (zQ R).2.2 y y y y y<|⟨.any,[],[],y,y,y,t,Xl (z:=by exact ⟨[0,.dead,2,4],cn,y,⟨⟨_,y,Ze (GQ y (by exact ⟨BV (by simp) y,.msl y,ci y,t⟩))⟩,⟨_,y,XY (λ_=>y)⟩,⟨_,y,XY (λ_=>y)⟩,t⟩,y,k⟩)⟩⟩),t⟩)) ?_;cases h;exact ⟨_,y,Xc [0,.dead,.dead,3,2]⟩
    .refine A ?_;apply Xa h y<;>intro D h
     .obtain ⟨s,S,h⟩:=bs h;refine rl y<|u<|mv y<|u<|sx [0,1,2] (Ho b c d e a m l S)<|zu (env0:=[]) (st0:=(sV b c d e a s.2.1 s.2.2 [])) (zm [0,1,2])<|zw ?_;cases h;exact ⟨_,y,Xc [0,.dead,.dead,1,2]⟩
     .refine A ?_;apply Xa h y<;>intro E h
      .obtain ⟨i,T,h⟩:=bs h;refine rg y<|u<|mv y<|u<|sx [0,1,2] (Ho b c d e a m l T)<|zu (env0:=[(0,.mpt 0 0 0),(90,sA i.1)]) (st0:=(sV b c d e a i.2.1 i.2.2 [])) (zm [0,1,2])<|A ?_;obtain ⟨v,U,h⟩:=bs h;refine rg y<|u<|mv y<|u<|mv y<|u<|sx [0,1,2] (zE b c d e a i.2.1 i.2.2 i.1 U)<|zu (env0:=[(0,.mpt 0 0 0),(5,sA i.1)]) (st0:=(sU b c d e a v i.2.2 [])) (zm [0,1,.dead,3])<|zw ?_;obtain ⟨V,W,h⟩:=bs h;refine rl y<|u<|mv y<|u<|mv y<|u<|sx [0,1,3] (zE b c d e a v i.2.2 i.1 W)<|zu (env0:=[]) (st0:=(sU b c d e a V i.2.2 [])) (zm [0,1,.dead,4])<|zw ?_;cases h;exact ⟨_,y,Xc [0,.dead,.dead,1,3]⟩
      .refine A ?_;apply Xa h y<;>intro F h
       .obtain ⟨o,Y,j,Z,h⟩:=bs2 h;refine rg y<|u<|mv y<|u<|sx [0,1,2] (Ho b c d e a m l Y)<|zu (env0:=[(0,.mpt 0 0 0),(100,sA o.1)]) (st0:=(sV b c d e a o.2.1 o.2.2 [])) (zm [0,1,2])<|u<|mv y<|u<|sx [0,1,2] (Ho b c d e a o.2.1 o.2.2 Z)<|zu (env0:=[(0,.mpt 0 0 0),(100,sA o.1),(102,sA j.1)]) (st0:=(sV b c d e a j.2.1 j.2.2 [])) (zm [0,1,2])<|A ?_;obtain ⟨x,q25,h⟩:=bs h;refine rg y<|u<|mv y<|u<|mv y<|u<|sx [0,1,2] (zE b c d e a j.2.1 j.2.2 o.1 q25)<|zu (env0:=[(0,.mpt 0 0 0),(7,sA j.1)]) (st0:=(sU b c d e a x j.2.2 [])) (zm [0,1,.dead,3])<|zw ?_;obtain ⟨v25,q26,h⟩:=bs h;refine rl y<|u<|mv y<|u<|mv y<|u<|sx [0,1,3] (zE b c d e a x j.2.2 j.1 q26)<|zu (env0:=[]) (st0:=(sU b c d e a v25 j.2.2 [])) (zm [0,1,.dead,4])<|zw ?_;cases h;exact ⟨_,y,Xc [0,.dead,.dead,1,3]⟩
       .refine zc ?_;cases h;exact ⟨_,y,Xc [0,.dead,.dead,1,2]⟩
def zot(a:T1)(b:Bool):Option (T1×Bool):=
  some (a,b)
def H8(e:List za)(f:T2)(l:T0)(m:zb)(n:T1)(o:T1)(c:T1)(d:Bool)(a:Int):zL (T1×Bool×Int) (T1×Bool) (T1×Bool):=
  cond (decide (0≤a)) ((idx o a).bind λi=>(KD e f l m n c d).bind λb=>(DO e f b.1 i).bind λj=>some (.inl (b.2.1,(b.2.2||(!j)),(i64.wrap (a-1))))) (some (.inr (.inl (c,d))))
def zN(c:List za)(d:T2)(e:T0)(f:zb)(i:T1)(j:T1)(l:Bool)(a:T1):Option (T1×Bool):=
  (zk (λz=>H8 c d e f i a z.1 z.2.1 z.2.2) (j,l,(i64.wrap ((length a:Int)-1)))).bind λo=>zB o (λb=>zot b.1 b.2) some
theorem zJ(a:List za)(c:T2)(d:T0)(e:zb)(f:T1)(m:T1)(n:Bool)(l:T1){r:T1×Bool}(h:zN a c d e f m n l=some r):SC prog 280 [.mpt 0 0 0,tL l] (tV a c d e f m n []) (.tup []) (tV a c d e f r.1 r.2 []):=by
 refine ⟨⟨t,Xw (sz:=1) (λ_=>y),Xw (sz:=1) (λ_=>y),t⟩,zR func280 y kz y ?_⟩;refine A ?_;obtain ⟨o,ho,h⟩:=bs h;refine lpB ho (λz=>[(0,.mpt 0 0 0),(1,tL l),(4,iA z.2.2)]) (λz=>(sV a c d e f z.1 z.2.1 [])) (λb=>[]) (λb=>(sV a c d e f b.1 b.2 [])) (λr env st=>U0 prog f280 3 (.tup []) (sV a c d e f r.1 r.2 []) env st) (Xb [0,1,2]) ?_ ?_
 .rintro ⟨p,q,x⟩ r h;refine ze<|A ?_;apply Xa h y<;>intro s h
  .refine zc<|ze<|zh ?_;obtain ⟨B,E,i,v,j,F,h⟩:=bs3 h;refine XC [(0,_),(1,_),(4,_)] (sV a c d e f i.2.1 (i.2.2||(!j)) []) [6,12] [0,1,2,3,4,5,7,8,9,10] [(22,_),(21,_),(20,_),(19,_),(17,_),(16,_),(15,_),(14,_),(13,_),(12,_)] 2 (Xi (z:=by exact ⟨(λ_ _=>⟨_,y,y,sx [0,1,2] (Ho a c d e f p q v)<|⟨(sA i.1),[11],[(23,_),(18,_)],y,y,y,y,Xi (z:=by exact ⟨nv,(λ_ _=>⟨_,y,y,sx [0,1,2] (zy a c d e f i.2.1 i.2.2 j y)<|⟨(.tup []),[],[(24,_)],y,y,y,y,Xl (z:=Xb [0,1,2])⟩⟩),t⟩)⟩⟩),nw,t⟩)) ?_;refine A ?_;cases h;exact ⟨_,y,zm [0,1,2]⟩
  .refine zp ?_;cases h;exact ⟨y,_,y,zm [0,1,2]⟩
 .rintro ⟨C,D⟩ rfl;refine zl ?_;cases h;exact ⟨_,y,Xc [0,1,2]⟩
def D5(c:List za)(d:T2)(e:T0)(f:zb)(i:T1)(j:T1)(l:Bool):Option (T0×T1×Bool):=
  (KD c d e f i j l).bind λa=>(cond (a.1 == [78]) (some true) ((WO a.1).bind λm=>some m)).bind λb=>some (a.1,a.2.1,(a.2.2||(!b)))
theorem zeF(b:List za)(c:T2)(d:T0)(e:zb)(f:T1)(j:T1)(l:Bool){r:T0×T1×Bool}(h:D5 b c d e f j l=some r):SC prog 282 [.mpt 0 0 0] (tV b c d e f j l []) (sA r.1) (tV b c d e f r.2.1 r.2.2 []):=by
 refine ⟨⟨t,Xw (sz:=1) (λ_=>y),Xw (sz:=1) (λ_=>y),t⟩,zR func282 y kz y ?_⟩;refine A ?_;obtain ⟨a,m,h⟩:=bs h;refine rg y<|u<|mv y<|u<|sx [0,1,2] (Ho b c d e f j l m)<|zu (env0:=[(0,.mpt 0 0 0),(5,sA a.1)]) (st0:=(sV b c d e f a.2.1 a.2.2 [])) (zm [0,1,2])<|A ?_;obtain ⟨i,n,h⟩:=bs h;refine A ?_;refine u<|sx [0,1,2] (zy b c d e f a.2.1 a.2.2 i y)<|zu (env0:=[(3,sA a.1)]) (st0:=(sV b c d e f a.2.1 (a.2.2||(!i)) [])) (zm [0,1,2])<|zw ?_;refine A ?_;exact RT3
def ze3(c:List za)(d:T2)(f:T0)(i:zb)(j:T1)(l:T1)(e:Bool)(b:zs):Option (T1×Bool):=
  cond (b.Op == 37) ((zK c d b.C).bind λn=>(zH c d f i j l (e||(!(n.2&&(!n.1.Interface)))) b.C).bind λq=>some (q,(e||(!(n.2&&(!n.1.Interface)))))) ((Ea c d b.C b.M).bind λa=>cond (b.Op == 38) ((zN c d f i j l (e||(!(a.2.2&&(a.2.1.Static == ((b.Op == 40)||(b.Op == 41)))))) [b.C]).bind λm=>(zH c d f i j m.1 m.2 a.2.1.Type_).bind λs=>some (s,m.2)) (cond (b.Op == 39) ((zN c d f i j l (e||(!(a.2.2&&(a.2.1.Static == ((b.Op == 40)||(b.Op == 41)))))) [b.C,a.2.1.Type_]).bind λo=>some (o.1,o.2)) (cond (b.Op == 40) ((zH c d f i j l (e||(!(a.2.2&&(a.2.1.Static == ((b.Op == 40)||(b.Op == 41)))))) a.2.1.Type_).bind λv=>some (v,(e||(!(a.2.2&&(a.2.1.Static == ((b.Op == 40)||(b.Op == 41)))))))) ((zN c d f i j l (e||(!(a.2.2&&(a.2.1.Static == ((b.Op == 40)||(b.Op == 41)))))) [a.2.1.Type_]).bind λp=>some (p.1,p.2)))))
theorem znR(c:List za)(d:T2)(e:T0)(f:zb)(i:T1)(l:T1)(j:Bool)(b:zs){r:T1×Bool}(h:ze3 c d e f i l j b=some r):SC prog 283 [.mpt 0 0 0,.agg (zt b)] (tV c d e f i l j []) (.tup []) (tU c d e f i r.1 r.2 []):=by
 refine ⟨⟨t,Xw (sz:=1) (λ_=>y),t,Xw (sz:=1) (λ_=>y),t⟩,zR func283 y kz y ?_⟩;refine A ?_;refine ze<|A ?_;apply Xa h y<;>intro v h
 .obtain ⟨m,L,h⟩:=bs h;refine rdA [(0,_),(3,_),(4,_),(5,_)] (sV c d e f i l j [some (4,[(zt b)]),some (6,[(zf m.1)])]) [10,11] [0,1,2,3,4,5,6,7,8,9] [(21,_),(20,_),(12,_),(19,_),(18,_),(17,_),(16,_),(15,_),(14,_),(13,_)] 2 (Xi (z:=by exact ⟨(λ_ _=>⟨_,y,y,al 4 ti y<|⟨(.mpt 4 0 0),[],[(4,_)],y,y,y,y,Xi (z:=by exact ⟨nv,(λ_ _=>⟨_,y,y,sto ti y y y<|⟨.any,[12],[(5,_)],y,y,y,t,Xl (z:=Xb [0,1,2,3,4])⟩⟩),t⟩)⟩⟩),nw,t⟩)) ?_;refine A ?_;refine u<|sx [0,1,2] (zy c d e f i l j (m.2&&(!m.1.Interface)) y)<|zu (env0:=[(0,.mpt 0 0 0),(3,.mpt 3 0 0)]) (st0:=(sV c d e f i l (j||(!(m.2&&(!m.1.Interface)))) [some (4,[(zt b)])])) (zm [0,1,2,3])<|zw ?_;obtain ⟨x,J,h⟩:=bs h;refine A ?_;refine u<|sx [0,1,2] (zE c d e f i l (j||(!(m.2&&(!m.1.Interface)))) b.C J)<|zu (env0:=[]) (st0:=(sU c d e f i x (j||(!(m.2&&(!m.1.Interface)))) [])) (zm [0,1,.dead,4])<|zw ?_;refine zA ?_;cases h;exact ⟨_,y,KZ [0,1,.dead,3]⟩
 .refine zc ?_;obtain ⟨a,M,h⟩:=bs h;refine rdA [(0,_),(3,_),(7,_),(8,_)] (sV c d e f i l j [some (4,[(zt b)]),some (3,[(zv a.2.1)])]) [13,15] [0,1,2,3,4,5,6,7,8,9,10,11,12] [(46,_),(45,_),(44,_),(34,_),(43,_),(42,_),(41,_),(40,_),(39,_),(38,_),(37,_),(36,_),(35,_)] 2 (Xi (z:=by exact ⟨(λ_ _=>⟨_,y,y,al 4 ti y<|⟨(.mpt 4 0 0),[14],[(6,_),(7,_)],y,y,y,y,Xi (z:=by exact ⟨nv,(λ_ _=>⟨_,y,y,sto ti y y y<|⟨.any,[16],[(8,_)],y,y,y,t,Xl (z:=Xb [0,1,2,3,4])⟩⟩),t⟩)⟩⟩),nw,t⟩)) ?_;refine A ?_;refine u<|sx [0,1,2] (zy c d e f i l j (a.2.2&&(a.2.1.Static == ((b.Op == 40)||(b.Op == 41)))) y)<|zu (env0:=[(0,.mpt 0 0 0),(3,.mpt 3 0 0),(7,.mpt 4 0 0)]) (st0:=(sV c d e f i l (j||(!(a.2.2&&(a.2.1.Static == ((b.Op == 40)||(b.Op == 41)))))) [some (4,[(zt b)]),some (3,[(zv a.2.1)])])) (zm [0,1,2,3,4])<|zw ?_;refine A ?_;refine zh<|A ?_;apply Xa h y<;>intro B h
  .obtain ⟨n,K,h⟩:=bs h;refine A ?_;refine zu (env0:=[(0,.mpt 0 0 0),(7,.mpt 3 0 0),(72,.mpt 0 0 0),(75,.isl 1 (map Xf [b.C]))]) (st0:=(sV c d e f i l (j||(!(a.2.2&&(a.2.1.Static == ((b.Op == 40)||(b.Op == 41)))))) [some (3,[(zv a.2.1)])])) (zm [0,1,2,4])<|u<|sx [0,1,2] (zJ c d e f i l (j||(!(a.2.2&&(a.2.1.Static == ((b.Op == 40)||(b.Op == 41)))))) [b.C] K)<|zu (env0:=[(0,.mpt 0 0 0),(7,.mpt 3 0 0)]) (st0:=(sV c d e f i n.1 n.2 [some (3,[(zv a.2.1)])])) (zm [0,1,2,3])<|zw ?_;obtain ⟨D,E,h⟩:=bs h;refine A ?_;refine u<|sx [0,1,2] (zE c d e f i n.1 n.2 a.2.1.Type_ E)<|zu (env0:=[]) (st0:=(sU c d e f i D n.2 [])) (zm [0,1,.dead,4])<|zw ?_;cases h;exact ⟨_,y,Xc [0,1,.dead,3]⟩
  .refine A ?_;apply Xa h y<;>intro q h
   .obtain ⟨o,F,h⟩:=bs h;refine A ?_;refine zu (env0:=[(83,.mpt 0 0 0),(88,.isl 1 (map Xf [b.C,a.2.1.Type_]))]) (st0:=(sV c d e f i l (j||(!(a.2.2&&(a.2.1.Static == ((b.Op == 40)||(b.Op == 41)))))) [])) (zm [0,1,2])<|u<|sx [0,1,2] (zJ c d e f i l (j||(!(a.2.2&&(a.2.1.Static == ((b.Op == 40)||(b.Op == 41)))))) [b.C,a.2.1.Type_] F)<|zu (env0:=[]) (st0:=(sV c d e f i o.1 o.2 [])) (zm [0,1,2])<|zw ?_;cases h;exact ⟨_,y,Xc [0,1,.dead,2]⟩
   .refine A ?_;apply Xa h y<;>intro s h
    .obtain ⟨G,H,h⟩:=bs h;refine A ?_;refine u<|sx [0,1,2] (zE c d e f i l (j||(!(a.2.2&&(a.2.1.Static == ((b.Op == 40)||(b.Op == 41)))))) a.2.1.Type_ H)<|zu (env0:=[]) (st0:=(sU c d e f i G (j||(!(a.2.2&&(a.2.1.Static == ((b.Op == 40)||(b.Op == 41)))))) [])) (zm [0,1,.dead,5])<|zw ?_;cases h;exact ⟨_,y,Xc [0,1,.dead,3]⟩
    .obtain ⟨p,I,h⟩:=bs h;refine A ?_;refine zu (env0:=[(65,.mpt 0 0 0),(68,.isl 1 (map Xf [a.2.1.Type_]))]) (st0:=(sV c d e f i l (j||(!(a.2.2&&(a.2.1.Static == ((b.Op == 40)||(b.Op == 41)))))) [])) (zm [0,1,2])<|u<|sx [0,1,2] (zJ c d e f i l (j||(!(a.2.2&&(a.2.1.Static == ((b.Op == 40)||(b.Op == 41)))))) [a.2.1.Type_] I)<|zu (env0:=[]) (st0:=(sV c d e f i p.1 p.2 [])) (zm [0,1,2])<|zw ?_;cases h;exact ⟨_,y,Xc [0,1,.dead,2]⟩
def Wd(e:List za)(f:T2)(i:T0)(j:zb)(l:T1)(b:zb)(c:T1)(a:Bool):Option (T1×Bool):=
  cond (!(b.Ret == [86])) ((zH e f i j l c a b.Ret).bind λd=>some (d,a)) (some (c,a))
def BD(b:List za)(c:T2)(e:T0)(i:zb)(j:T1)(m:zs)(n:T0)(f:zb)(d:T1×Bool)(o:Bool):Option (T1×Bool):=
  cond o ((zN b c e i j d.1 d.2 [m.C]).bind λl=>Wd b c e i j f l.1 l.2) (cond (m.Op == 44) ((KD b c e i j d.1 d.2).bind λa=>(DO b c a.1 m.C).bind λp=>cond p ((DO b c a.1 e).bind λq=>cond q ((Gk b c e).bind λs=>(zI s n).bind λv=>Wd b c e i j f a.2.1 (a.2.2||(!v))) (Wd b c e i j f a.2.1 (a.2.2||(!false)))) (Wd b c e i j f a.2.1 (a.2.2||(!false)))) (Wd b c e i j f d.1 d.2))
def Ir(e:List za)(f:T2)(i:T0)(j:zb)(l:T1)(n:T1)(o:Bool)(b:zs)(c:T0)(a:zb)(m:Bool):Option (T1×Bool):=
  (zN e f i j l n (o||(!(m&&(a.Static == (b.Op == 42))))) a.Params).bind λd=>cond (b.Op == 43) (BD e f i j l b c a d (b.Op == 43)) (BD e f i j l b c a d (b.Op == 45))
def Im(c:List za)(d:T2)(f:T0)(i:zb)(j:T1)(l:T1)(m:Bool)(a:zs):Option (T1×Bool):=
  (Eh c d a.C a.M).bind λe=>cond (a.Op == 45) ((zkB c d a.C a.M).bind λb=>Ir c d f i j l m a b.1 b.2.1 b.2.2) (Ir c d f i j l m a e.1 e.2.1 (e.2.2&&(!e.2.1.Abstract)))
theorem zoq(c:List za)(d:T2)(e:T0)(f:zb)(i:T1)(p:T1)(q:Bool)(l:zs){r:T1×Bool}(h:Im c d e f i p q l=some r):SC prog 284 [.mpt 0 0 0,.agg (zt l)] (tV c d e f i p q []) (.tup []) (tU c d e f i r.1 r.2 []):=by
 refine ⟨⟨t,Xw (sz:=1) (λ_=>y),t,Xw (sz:=1) (λ_=>y),t⟩,zR func284 y kz y ?_⟩;refine A ?_;obtain ⟨D,q1,h⟩:=bs h;refine rdA [(0,_),(3,_),(4,_),(5,_),(6,_)] (sV c d e f i p q [some (4,[(zt l)]),some (10,[(zd D.2.1)])]) [13,15] [0,1,2,3,4,5,6,7,8,9,10,11,12] [(20,_),(19,_),(18,_),(8,_),(17,_),(16,_),(15,_),(14,_),(13,_),(12,_),(11,_),(10,_),(9,_)] 2 (Xi (z:=by exact ⟨(λ_ _=>⟨_,y,y,al 4 ti y<|⟨(.mpt 4 0 0),[14],[(4,_),(5,_)],y,y,y,y,Xi (z:=by exact ⟨nv,(λ_ _=>⟨_,y,y,sto ti y y y<|⟨.any,[16],[(6,_)],y,y,y,t,Xl (z:=Xb [0,1,2,3,4])⟩⟩),t⟩)⟩⟩),nw,t⟩)) ?_;refine A ?_;refine Xz (X:=T0×zb×Bool) (λz=>[(0,.mpt 0 0 0),(3,.mpt 3 0 0),(4,sA z.1),(5,.mpt 4 0 0),(6,bA z.2.2)]) (λz=>(sV c d e f i p q [some (4,[(zt l)]),some (10,[(zd z.2.1)])])) (λz=>Ir c d e f i p q l z.1 z.2.1 z.2.2=some r) ?_ ?_
 .refine A ?_;apply Xa h y<;>intro M h
  .obtain ⟨v,q4,h⟩:=bs h;refine XC [(0,_),(3,_),(4,_),(5,_),(6,_)] (sV c d e f i p q [some (4,[(zt l)]),some (10,[(zd v.2.1)])]) [14] [0,1,2,3,4,5,6,7,8,9,10,11,12,13] [(4,_),(42,_),(41,_),(40,_),(30,_),(39,_),(38,_),(37,_),(36,_),(35,_),(34,_),(33,_),(32,_),(31,_)] 1 (Xi (z:=by exact ⟨(λ_ _=>⟨_,y,y,sto ti y y y<|⟨.any,[15],[(6,_)],y,y,y,t,Xl (z:=Xb [0,1,2,3,4])⟩⟩),t⟩)) ?_;exact ⟨⟨v.1,v.2.1,v.2.2⟩,h,zm [0,1,2,3,4]⟩
  .refine zc ?_;exact ⟨⟨D.1,D.2.1,(D.2.2&&(!D.2.1.Abstract))⟩,h,zm [0,1,2,3,4]⟩
 .rintro ⟨o,j,E⟩ h;refine A ?_;refine u<|sx [0,1,2] (zy c d e f i p q (E&&(j.Static == (l.Op == 42))) y)<|zu (env0:=[(0,.mpt 0 0 0),(3,.mpt 3 0 0),(4,sA o),(5,.mpt 4 0 0)]) (st0:=(sV c d e f i p (q||(!(E&&(j.Static == (l.Op == 42))))) [some (4,[(zt l)]),some (10,[(zd j)])])) (zm [0,1,2,3,4])<|zw ?_;obtain ⟨m,V,h⟩:=bs h;refine A ?_;refine u<|sx [0,1,2] (zJ c d e f i p (q||(!(E&&(j.Static == (l.Op == 42))))) j.Params V)<|zu (env0:=[(0,.mpt 0 0 0),(3,.mpt 3 0 0),(4,sA o),(5,.mpt 4 0 0)]) (st0:=(sV c d e f i m.1 m.2 [some (4,[(zt l)]),some (10,[(zd j)])])) (zm [0,1,2,3,4])<|zw ?_;refine Xz (X:=T1×Bool) (λz=>[(0,.mpt 0 0 0),(5,.mpt 3 0 0)]) (λz=>(sV c d e f i z.1 z.2 [some (10,[(zd j)])])) (λz=>Wd c d e f i j z.1 z.2=some r) ?_ ?_
  .refine A ?_;refine zh ?_;refine Xz (X:=Bool) (λz=>[(0,.mpt 0 0 0),(3,.mpt 3 0 0),(4,sA o),(5,.mpt 4 0 0),(59,iA l.Op),(60,bA z)]) (λz=>(sV c d e f i m.1 m.2 [some (4,[(zt l)]),some (10,[(zd j)])])) (λz=>BD c d e f i l o j m z=some r) ?_ ?_
   .refine A ?_;apply Xa h y<;>intro N h
    .refine zc ?_;exact ⟨(l.Op == 43),h,zm [0,1,2,3,4]⟩
    .refine A ?_;exact (⟨(l.Op == 45),h,zm [0,1,2,3,4]⟩)
   .rintro Y h;apply Xa h y<;>intro O h
    .obtain ⟨x,W,h⟩:=bs h;refine A ?_;exact zu (env0:=[(0,.mpt 0 0 0),(5,.mpt 3 0 0),(63,.mpt 0 0 0),(66,.isl 1 (map Xf [l.C]))]) (st0:=(sV c d e f i m.1 m.2 [some (10,[(zd j)])])) (zm [0,1,2,4])<|u<|sx [0,1,2] (zJ c d e f i m.1 m.2 [l.C] W)<|zu (env0:=[(0,.mpt 0 0 0),(5,.mpt 3 0 0)]) (st0:=(sV c d e f i x.1 x.2 [some (10,[(zd j)])])) (zm [0,1,2,3])<|zw (⟨⟨x.1,x.2⟩,h,zm [0,1,2,3]⟩)
    .refine A ?_;apply Xa h y<;>intro K h
     .obtain ⟨a,P,h⟩:=bs h;refine rg y<|u<|mv y<|u<|sx [0,1,2] (Ho c d e f i m.1 m.2 P)<|zu (env0:=[(0,.mpt 0 0 0),(3,.mpt 3 0 0),(4,sA o),(5,.mpt 4 0 0),(71,sA a.1)]) (st0:=(sV c d e f i a.2.1 a.2.2 [some (4,[(zt l)]),some (10,[(zd j)])])) (zm [0,1,2,3,4])<|A ?_;obtain ⟨F,H,h⟩:=bs h
      rcases bb F with s |s
      .replace h:=bT s h;obtain ⟨G,Z,h⟩:=bs h
       rcases bb G with n |n
       .replace h:=bT n h;obtain ⟨I,Q,B,R,h⟩:=bs2 h;refine XC [(0,.mpt 0 0 0),(5,.mpt 3 0 0)] (sV c d e f i a.2.1 (a.2.2||(!B)) [some (10,[(zd j)])]) [30,34] [0,1,2,3,4,5,6,7,8,9,10,11,12,13,14,15,16,17,18,19,20,21,22,23,24,25,26,27,28,29,31] [(103,_),(101,_),(100,_),(99,_),(98,_),(97,_),(96,_),(95,_),(94,_),(93,_),(92,_),(91,_),(90,_),(89,_),(88,_),(87,_),(86,_),(85,_),(84,_),(83,_),(82,_),(81,_),(80,_),(79,_),(78,_),(77,_),(76,_),(75,_),(74,_),(73,_),(72,_)] 2 (Xi (z:=by exact ⟨(λ_ _=>⟨_,y,cg (b:=G) y n,sx [] (H9 c d e Q)<|⟨(.msl 5 0 (length I)),[32,33],[(105,_),(104,_),(102,_)],y,y,y,y,Xi ⟨(by exact λ_=>pag (b:=G) y y y y n y (pcs (Wh I o R) y y (.cons (XM y (λ_=>y)) (.cons (si y) .nil)) XA<|w)),peC,peC,peC,peC,peC,peC,peC,peC,peC,peC,peC,peC,peC,peC,peC,peC,peC,peC,peC,peC,peC,peC,peC,peC,peC,peC,peC,peC,peC,peC,peC,peC,t⟩ (by exact ⟨nv,(λ_ _=>⟨_,y,y,sc [0,1,2] (args:=[.mpt 0 0 0,bA B]) (zy c d e f i a.2.1 a.2.2 B y) y y y y ⟨(.mpt y),(rnI y),t⟩ ⟨⟨_,y,(KX y ⟨(.msl y),(.msl y),(rnI y),t⟩)⟩,⟨y,mkI (λ_=>y)⟩,⟨y,mkI (λ_=>y)⟩,t⟩<|⟨(.tup []),[],[(106,_)],y,y,y,y,Xl (z:=Xb [0,1,2,4])⟩⟩),t⟩)⟩⟩),nw,t⟩)) ?_;exact ⟨⟨a.2.1,(a.2.2||(!B))⟩,h,zm [0,1,2,3]⟩
       .replace h:=bF n h;refine XC [(0,.mpt 0 0 0),(5,.mpt 3 0 0)] (sV c d e f i a.2.1 (a.2.2||(!false)) [some (10,[(zd j)])]) [34] [0,1,2,3,4,5,6,7,8,9,10,11,12,13,14,15,16,17,18,19,20,21,22,23,24,25,26,27,28,29,30,31,32,33] [(105,_),(104,_),(103,_),(102,_),(101,_),(100,_),(99,_),(98,_),(97,_),(96,_),(95,_),(94,_),(93,_),(92,_),(91,_),(90,_),(89,_),(88,_),(87,_),(86,_),(85,_),(84,_),(83,_),(82,_),(81,_),(80,_),(79,_),(78,_),(77,_),(76,_),(75,_),(74,_),(73,_),(72,_)] 1 (Xi (z:=by exact ⟨(λ_ _=>⟨_,y,y,sc [0,1,2] (args:=[.mpt 0 0 0,bA false]) (zy c d e f i a.2.1 a.2.2 false y) y y y y ⟨(.mpt y),(rnI y),t⟩ ⟨⟨_,y,(KX y ⟨(.msl y),(.msl y),(rnI y),t⟩)⟩,⟨y,mkI (λ_=>y)⟩,⟨y,mkI (λ_=>y)⟩,t⟩<|⟨(.tup []),[],[(106,_)],y,y,y,y,Xl (z:=Xb [0,1,2,4])⟩⟩),t⟩)) ?_;exact ⟨⟨a.2.1,(a.2.2||(!false))⟩,h,zm [0,1,2,3]⟩
      .replace h:=bF s h;refine XC [(0,.mpt 0 0 0),(5,.mpt 3 0 0)] (sV c d e f i a.2.1 (a.2.2||(!false)) [some (10,[(zd j)])]) [34] [33,32,31,30,29,28,27,26,25,24,23,22,21,20,19,18,17,16,15,14,13,12,11,10,9,8,7,6,5,4,3,2,1,0] [(105,bA false),(104,.lit undef),(103,.lit undef),(102,.lit undef),(101,.lit undef),(100,.lit undef),(99,.lit undef),(98,.lit undef),(97,.lit undef),(96,.lit undef),(95,.lit undef),(94,.lit undef),(93,bA false),(92,bA false),(91,.lit undef),(90,.lit undef),(89,.lit undef),(88,.lit undef),(87,.lit undef),(86,.lit undef),(85,.lit undef),(84,.lit undef),(83,.lit undef),(82,.lit undef),(81,bA F),(80,bA F),(79,sA l.C),(78,.mpt 3 0 2),(77,sA a.1),(76,.ipt 2 [[cL c,mI d]] 0 0),(75,.mpt 0 0 0),(74,.mpt 0 0 0),(73,.mpt 0 0 0),(72,.mpt 0 0 0)] 1 (ZQ ⟨pe,pe,pe,pe,pe,pe,pe,pe,pe,pe,pe,pe,pe,pe,pe,pe,pe,pe,pe,pe,pe,pe,pe,pe,pe,(pb y (pc (zkV c d a.1 l.C H) y y y w)),(pb y (ld ti y y w)),(pb y (fa ti y y y w)),pe,(pb y (ld ti y y w)),(pb y (fa ti y y y w)),pe,pe,pe,t⟩ ⟨(λ_ _=>⟨_,y,y,sc [0,1,2] (args:=[.mpt 0 0 0,bA false]) (zy c d e f i a.2.1 a.2.2 false y) y y y y ⟨(.mpt y),(rnI y),t⟩ ⟨⟨_,y,(KX y ⟨(.msl y),(.msl y),(rnI y),t⟩)⟩,⟨y,mkI (λ_=>y)⟩,⟨y,mkI (λ_=>y)⟩,t⟩<|⟨(.tup []),[],[(106,.tup [])],y,y,kz,y,Ue ⟨pe,pe,pe,pe,pe,pe,pe,pe,pe,pe,pe,pe,pe,pe,pe,pe,pe,pe,pe,pe,pe,pe,pe,pe,pe,(pb y (pc (zkV c d a.1 l.C H) y y y w)),(pb y (ld ti y y w)),(pb y (fa ti y y y w)),pe,(pb y (ld ti y y w)),(pb y (fa ti y y y w)),pe,pe,pe,t⟩ (zm [0,1,2,4])⟩⟩),t⟩) ?_;exact ⟨⟨a.2.1,(a.2.2||(!false))⟩,h,zm [0,1,2,3]⟩
     .refine zc ?_;exact ⟨⟨m.1,m.2⟩,h,zm [0,1,2,4]⟩
  .rintro ⟨S,J⟩ h;refine A ?_;apply Xa h y<;>intro L h
   .obtain ⟨T,U,h⟩:=bs h;refine A ?_;refine u<|sx [0,1,2] (zE c d e f i S J j.Ret U)<|zu (env0:=[]) (st0:=(sU c d e f i T J [])) (zm [0,1,.dead,4])<|zw ?_;cases h;exact ⟨_,y,Xc [0,1,.dead,3]⟩
   .refine zc ?_;cases h;exact ⟨_,y,Xc [0,1,.dead,2]⟩
def ER(e:List za)(f:T2)(i:T0)(a:zb)(j:T1)(c:T1)(d:Bool)(l:Int):Option (T1×Bool):=
  cond (l == 46) (some (c,(d||(!(a.Ret == [86]))))) (cond (l == 47) ((zN e f i a j c (d||(!(a.Ret == [73]))) ([[73]])).bind λm=>some (m.1,m.2)) ((WO a.Ret).bind λn=>(zN e f i a j c (d||(!n)) [a.Ret]).bind λb=>some (b.1,b.2)))
theorem zpk(b:List za)(c:T2)(d:T0)(a:zb)(e:T1)(f:T1)(i:Bool)(m:Int){r:T1×Bool}(h:ER b c d a e f i m=some r):SC prog 285 [.mpt 0 0 0,iA m] (tV b c d a e f i []) (.tup []) (tV b c d a e r.1 r.2 []):=by
 refine ⟨⟨t,Xw (sz:=1) (λ_=>y),Xw (sz:=1) (λ_=>y),t⟩,zR func285 y kz y ?_⟩;refine zh<|A ?_;apply Xa h y<;>intro n h
 .refine A ?_;refine u<|sx [0,1,2] (zy b c d a e f i (a.Ret == [86]) y)<|zu (env0:=[]) (st0:=(sV b c d a e f (i||(!(a.Ret == [86]))) [])) (zm [0,1,2])<|zw ?_;cases h;exact ⟨_,y,Xc [0,1,2]⟩
 .refine A ?_;apply Xa h y<;>intro o h
  .refine A ?_;refine u<|sx [0,1,2] (zy b c d a e f i (a.Ret == [73]) y)<|zu (env0:=[(0,.mpt 0 0 0)]) (st0:=(sV b c d a e f (i||(!(a.Ret == [73]))) [])) (zm [0,1,2])<|zw ?_;obtain ⟨p,q,h⟩:=bs h;refine A ?_;refine zu (env0:=[(42,.mpt 0 0 0),(43,tL ([[73]]))]) (st0:=(sV b c d a e f (i||(!(a.Ret == [73]))) [])) (zm [0,1,2])<|u<|sx [0,1,2] (zJ b c d a e f (i||(!(a.Ret == [73]))) ([[73]]) q)<|zu (env0:=[]) (st0:=(sV b c d a e p.1 p.2 [])) (zm [0,1,2])<|zw ?_;cases h;exact ⟨_,y,Xc [0,1,2]⟩
  .obtain ⟨j,v,h⟩:=bs h;refine A ?_;refine u<|sx [0,1,2] (zy b c d a e f i j y)<|zu (env0:=[(0,.mpt 0 0 0)]) (st0:=(sV b c d a e f (i||(!j)) [])) (zm [0,1,2])<|zw ?_;obtain ⟨l,s,h⟩:=bs h;refine A ?_;refine zu (env0:=[(12,.mpt 0 0 0),(18,.isl 1 (map Xf [a.Ret]))]) (st0:=(sV b c d a e f (i||(!j)) [])) (zm [0,1,2])<|u<|sx [0,1,2] (zJ b c d a e f (i||(!j)) [a.Ret] s)<|zu (env0:=[]) (st0:=(sV b c d a e l.1 l.2 [])) (zm [0,1,2])<|zw ?_;cases h;exact ⟨_,y,Xc [0,1,2]⟩
def zmN(a:T0):Option (T0):=
  (Hb a).bind λb=>(cond (!b) (some true) ((X2 [91] a).bind λc=>(Hb c).bind λd=>some (!d))).bind λe=>cond e (some []) ((X2 [91] a).bind λf=>some f)
instance (a:T0):PF prog 221 [sA a] (zmN a) sA:=⟨λr h=>by
 refine zi func221 y kz y y<|A ?_;refine ze ?_;obtain ⟨c,d,e,f,h⟩:=bs2 h;refine A ?_;apply Xa h y<;>intro b h
 .refine A ?_;exact RT0
 .refine zc ?_;obtain ⟨i,j,h⟩:=bs h;refine A ?_
  exact RT0⟩
def ze2(c:List za)(d:T2)(e:T0)(f:zb)(i:T1)(j:T1)(l:Bool):Option (T0×T1×Bool):=
  (KD c d e f i j l).bind λa=>(Ge a.1).bind λb=>cond (a.1 == [78]) (some (a.1,a.2.1,(a.2.2||(!((a.1 == [78])||(b.2&&(!(b.1 == [73])))))))) (some (b.1,a.2.1,(a.2.2||(!((a.1 == [78])||(b.2&&(!(b.1 == [73]))))))))
theorem zjK(b:List za)(c:T2)(d:T0)(e:zb)(f:T1)(j:T1)(l:Bool){r:T0×T1×Bool}(h:ze2 b c d e f j l=some r):SC prog 342 [.mpt 0 0 0] (tV b c d e f j l []) (sA r.1) (tV b c d e f r.2.1 r.2.2 []):=by
 refine ⟨⟨t,Xw (sz:=1) (λ_=>y),Xw (sz:=1) (λ_=>y),t⟩,zR func342 y kz y ?_⟩;refine A ?_;obtain ⟨a,n,h⟩:=bs h;refine rg y<|u<|mv y<|u<|sx [0,1,2] (Ho b c d e f j l n)<|zu (env0:=[(0,.mpt 0 0 0),(7,sA a.1)]) (st0:=(sV b c d e f a.2.1 a.2.2 [])) (zm [0,1,2])<|A ?_;obtain ⟨i,o,h⟩:=bs h;refine A ?_;refine A ?_;refine u<|sx [0,1,2] (zy b c d e f a.2.1 a.2.2 ((a.1 == [78])||(i.2&&(!(i.1 == [73])))) y)<|zu (env0:=[(3,sA a.1),(4,sA i.1)]) (st0:=(sV b c d e f a.2.1 (a.2.2||(!((a.1 == [78])||(i.2&&(!(i.1 == [73])))))) [])) (zm [0,1,2])<|zw ?_;refine ze<|A ?_;apply Xa h y<;>intro m h
 .refine A ?_;exact RT3
 .refine zc<|A ?_;exact RT3
def Hp(a:List za)(b:T2)(c:T0)(d:zb)(e:T1)(i:T1)(j:Bool)(l:zs):Option (T1×Bool):=
  cond (l.Op == 49) ((zN a b c d e i j ([[73]])).bind λE=>(zH a b c d e E.1 E.2 [91,73]).bind λF=>some (F,E.2)) (cond (l.Op == 50) ((zmN l.C).bind λn=>(cond (!(n == [])) ((HY a b n).bind λG=>some G) (some false)).bind λH=>(zN a b c d e i (j||(!H)) ([[73]])).bind λo=>(zH a b c d e o.1 o.2 n).bind λI=>some (I,o.2)) (cond (l.Op == 51) ((KD a b c d e i j).bind λf=>(Ge f.1).bind λq=>(zH a b c d e f.2.1 (f.2.2||(!(q.2||(f.1 == [78])))) [73]).bind λJ=>some (J,(f.2.2||(!(q.2||(f.1 == [78])))))) (cond (l.Op == 52) ((zN a b c d e i j ([[91,73],[73]])).bind λp=>(zH a b c d e p.1 p.2 [73]).bind λK=>some (K,p.2)) (cond (l.Op == 53) ((zN a b c d e i j ([[91,73],[73],[73]])).bind λs=>some (s.1,s.2)) (cond (l.Op == 54) ((zN a b c d e i j ([[73]])).bind λv=>(ze2 a b c d e v.1 v.2).bind λm=>(zH a b c d e m.2.1 m.2.2 m.1).bind λL=>some (L,m.2.2)) ((D5 a b c d e i j).bind λx=>(zN a b c d e x.2.1 x.2.2 ([[73]])).bind λB=>(ze2 a b c d e B.1 B.2).bind λD=>some (D.2.1,D.2.2)))))))
theorem zm7(a:List za)(b:T2)(c:T0)(d:zb)(e:T1)(i:T1)(j:Bool)(I:zs){r:T1×Bool}(h:Hp a b c d e i j I=some r):SC prog 286 [.mpt 0 0 0,.agg (zt I)] (tV a b c d e i j []) (.tup []) (tU a b c d e r.1 r.2 []):=by
 refine ⟨⟨t,Xw (sz:=1) (λ_=>y),t,Xw (sz:=1) (λ_=>y),t⟩,zR func286 y kz y ?_⟩;refine A ?_;refine A ?_;refine zh<|A ?_;apply Xa h y<;>intro J h
 .obtain ⟨B,q2,h⟩:=bs h;refine A ?_;refine zu (env0:=[(0,.mpt 0 0 0),(19,.mpt 0 0 0),(20,tL ([[73]]))]) (st0:=(sV a b c d e i j [])) (zm [0,1,2])<|u<|sx [0,1,2] (zJ a b c d e i j ([[73]]) q2)<|zu (env0:=[(0,.mpt 0 0 0)]) (st0:=(sV a b c d e B.1 B.2 [])) (zm [0,1,2])<|zw ?_;obtain ⟨K,q3,h⟩:=bs h;refine rl y<|u<|mv y<|u<|sx [0,1,2] (zE a b c d e B.1 B.2 [91,73] q3)<|zu (env0:=[]) (st0:=(sU a b c d e K B.2 [])) (zm [0,1,.dead,3])<|zw ?_;cases h;exact ⟨_,y,Xc [0,1,.dead,3]⟩
 .refine A ?_;apply Xa h y<;>intro L h
  .obtain ⟨p,q5,h⟩:=bs h;refine A ?_;obtain ⟨q,q8,h⟩:=bs h;refine A ?_;refine u<|sx [0,1,2] (zy a b c d e i j q y)<|zu (env0:=[(0,.mpt 0 0 0),(4,sA p)]) (st0:=(sV a b c d e i (j||(!q)) [])) (zm [0,1,2])<|zw ?_;obtain ⟨n,q9,h⟩:=bs h;refine A ?_;refine zu (env0:=[(0,.mpt 0 0 0),(4,sA p),(41,.mpt 0 0 0),(42,tL ([[73]]))]) (st0:=(sV a b c d e i (j||(!q)) [])) (zm [0,1,2])<|u<|sx [0,1,2] (zJ a b c d e i (j||(!q)) ([[73]]) q9)<|zu (env0:=[(0,.mpt 0 0 0),(4,sA p)]) (st0:=(sV a b c d e n.1 n.2 [])) (zm [0,1,2])<|zw ?_;obtain ⟨M,N,h⟩:=bs h;refine A ?_;refine u<|sx [0,1,2] (zE a b c d e n.1 n.2 p N)<|zu (env0:=[]) (st0:=(sU a b c d e M n.2 [])) (zm [0,1,.dead,3])<|zw ?_;cases h;exact ⟨_,y,Xc [0,1,.dead,3]⟩
  .refine A ?_;apply Xa h y<;>intro E h
   .obtain ⟨f,O,h⟩:=bs h;refine rg y<|u<|mv y<|u<|sx [0,1,2] (Ho a b c d e i j O)<|zu (env0:=[(0,.mpt 0 0 0),(50,sA f.1)]) (st0:=(sV a b c d e f.2.1 f.2.2 [])) (zm [0,1,2])<|A ?_;obtain ⟨s,q13,h⟩:=bs h;refine A ?_;refine A ?_;refine u<|sx [0,1,2] (zy a b c d e f.2.1 f.2.2 (s.2||(f.1 == [78])) y)<|zu (env0:=[(0,.mpt 0 0 0)]) (st0:=(sV a b c d e f.2.1 (f.2.2||(!(s.2||(f.1 == [78])))) [])) (zm [0,1,2])<|zw ?_;obtain ⟨P,Q,h⟩:=bs h;refine rl y<|u<|mv y<|u<|sx [0,1,2] (zE a b c d e f.2.1 (f.2.2||(!(s.2||(f.1 == [78])))) [73] Q)<|zu (env0:=[]) (st0:=(sU a b c d e P (f.2.2||(!(s.2||(f.1 == [78])))) [])) (zm [0,1,.dead,3])<|zw ?_;cases h;exact ⟨_,y,Xc [0,1,.dead,3]⟩
   .refine A ?_;apply Xa h y<;>intro F h
    .obtain ⟨o,R,h⟩:=bs h;refine A ?_;refine zu (env0:=[(0,.mpt 0 0 0),(67,.mpt 0 0 0),(68,tL ([[91,73],[73]]))]) (st0:=(sV a b c d e i j [])) (zm [0,1,2])<|u<|sx [0,1,2] (zJ a b c d e i j ([[91,73],[73]]) R)<|zu (env0:=[(0,.mpt 0 0 0)]) (st0:=(sV a b c d e o.1 o.2 [])) (zm [0,1,2])<|zw ?_;obtain ⟨S,T,h⟩:=bs h;refine rl y<|u<|mv y<|u<|sx [0,1,2] (zE a b c d e o.1 o.2 [73] T)<|zu (env0:=[]) (st0:=(sU a b c d e S o.2 [])) (zm [0,1,.dead,3])<|zw ?_;cases h;exact ⟨_,y,Xc [0,1,.dead,3]⟩
    .refine A ?_;apply Xa h y<;>intro G h
     .obtain ⟨C,U,h⟩:=bs h;refine A ?_;refine zu (env0:=[(74,.mpt 0 0 0),(75,tL ([[91,73],[73],[73]]))]) (st0:=(sV a b c d e i j [])) (zm [0,1,2])<|u<|sx [0,1,2] (zJ a b c d e i j ([[91,73],[73],[73]]) U)<|zu (env0:=[]) (st0:=(sV a b c d e C.1 C.2 [])) (zm [0,1,2])<|zw ?_;cases h;exact ⟨_,y,Xc [0,1,.dead,2]⟩
     .refine A ?_;apply Xa h y<;>intro H h
      .obtain ⟨v,V,h⟩:=bs h;refine A ?_;refine zu (env0:=[(0,.mpt 0 0 0),(79,.mpt 0 0 0),(80,tL ([[73]]))]) (st0:=(sV a b c d e i j [])) (zm [0,1,2])<|u<|sx [0,1,2] (zJ a b c d e i j ([[73]]) V)<|zu (env0:=[(0,.mpt 0 0 0)]) (st0:=(sV a b c d e v.1 v.2 [])) (zm [0,1,2])<|zw ?_;obtain ⟨l,W,X,Y,h⟩:=bs2 h;refine rl y<|u<|mv y<|u<|mv y<|u<|sx [0,1,2] (zjK a b c d e v.1 v.2 W)<|zu (env0:=[(82,.mpt 0 0 0),(84,sA l.1)]) (st0:=(sV a b c d e l.2.1 l.2.2 [])) (zm [0,1,2])<|u<|sx [0,1,2] (zE a b c d e l.2.1 l.2.2 l.1 Y)<|zu (env0:=[]) (st0:=(sU a b c d e X l.2.2 [])) (zm [0,1,.dead,3])<|zw ?_;cases h;exact ⟨_,y,Xc [0,1,.dead,3]⟩
      .obtain ⟨m,Z,h⟩:=bs h;refine rg y<|u<|mv y<|u<|sx [0,1,2] (zeF a b c d e i j Z)<|zu (env0:=[(0,.mpt 0 0 0)]) (st0:=(sV a b c d e m.2.1 m.2.2 [])) (zm [0,1,2])<|zw ?_;obtain ⟨x,q26,h⟩:=bs h;refine A ?_;refine zu (env0:=[(0,.mpt 0 0 0),(12,.mpt 0 0 0),(13,tL ([[73]]))]) (st0:=(sV a b c d e m.2.1 m.2.2 [])) (zm [0,1,2])<|u<|sx [0,1,2] (zJ a b c d e m.2.1 m.2.2 ([[73]]) q26)<|zu (env0:=[(0,.mpt 0 0 0)]) (st0:=(sV a b c d e x.1 x.2 [])) (zm [0,1,2])<|zw ?_;obtain ⟨D,q27,h⟩:=bs h;refine rl y<|u<|mv y<|u<|sx [0,1,2] (zjK a b c d e x.1 x.2 q27)<|zu (env0:=[]) (st0:=(sV a b c d e D.2.1 D.2.2 [])) (zm [0,1,2])<|zw ?_;cases h;exact ⟨_,y,Xc [0,1,.dead,2]⟩
def Wc(b:List za)(c:T2)(e:T0)(f:zb)(i:T1)(m:T1)(j:Bool)(l:zs)(v:Bool):Option (T1×Bool):=
  cond v ((D5 b c e f i m j).bind λa=>(HY b c l.C).bind λd=>cond (l.Op == 56) ((zH b c e f i a.2.1 (a.2.2||(!d)) l.C).bind λp=>some (p,(a.2.2||(!d)))) ((zH b c e f i a.2.1 (a.2.2||(!d)) [73]).bind λq=>some (q,(a.2.2||(!d))))) (cond (l.Op == 58) ((zN b c e f i m j ([[84,104,114,111,119,110]])).bind λn=>some (n.1,n.2)) (cond (l.Op == 59) ((zH b c e f i m j [73]).bind λs=>some (s,j)) ((zN b c e f i m j ([[73]])).bind λo=>some (o.1,o.2))))
def Wb(b:List za)(c:T2)(d:T0)(e:zb)(f:T1)(i:T1)(j:Bool)(a:zs):Option (T1×Bool):=
  cond (a.Op == 56) (Wc b c d e f i j a (a.Op == 56)) (Wc b c d e f i j a (a.Op == 57))
theorem zos(a:List za)(b:T2)(c:T0)(d:zb)(e:T1)(j:T1)(i:Bool)(l:zs){r:T1×Bool}(h:Wb a b c d e j i l=some r):SC prog 287 [.mpt 0 0 0,.agg (zt l)] (tV a b c d e j i []) (.tup []) (tU a b c d e r.1 r.2 []):=by
 refine ⟨⟨t,Xw (sz:=1) (λ_=>y),t,Xw (sz:=1) (λ_=>y),t⟩,zR func287 y kz y ?_⟩;refine A ?_;refine A ?_;refine zh ?_;refine Xz (X:=Bool) (λz=>[(0,.mpt 0 0 0),(3,.mpt 3 0 0),(5,iA l.Op),(9,bA z)]) (λz=>(sV a b c d e j i [some (4,[(zt l)])])) (λz=>Wc a b c d e j i l z=some r) ?_ ?_
 .refine A ?_;apply Xa h y<;>intro q h
  .refine zc ?_;exact ⟨(l.Op == 56),h,zm [0,1,2,3]⟩
  .refine A ?_;exact (⟨(l.Op == 57),h,zm [0,1,2,3]⟩)
 .rintro L h;apply Xa h y<;>intro s h
  .obtain ⟨f,H,h⟩:=bs h;refine rg y<|u<|mv y<|u<|sx [0,1,2] (zeF a b c d e j i H)<|zu (env0:=[(0,.mpt 0 0 0),(3,.mpt 3 0 0)]) (st0:=(sV a b c d e f.2.1 f.2.2 [some (4,[(zt l)])])) (zm [0,1,2,3])<|zw ?_;obtain ⟨m,M,h⟩:=bs h;refine rdA [(0,_),(3,_)] (sV a b c d e f.2.1 (f.2.2||(!m)) [some (4,[(zt l)])]) [8] [0,1,2,3,4,5,6,7] [(21,_),(20,_),(19,_),(18,_),(17,_),(16,_),(15,_),(14,_)] 1 (Xi (z:=by exact ⟨(λ_ _=>⟨_,y,y,sx [0,1,2] (zy a b c d e f.2.1 f.2.2 m y)<|⟨(.tup []),[],[(22,_)],y,y,y,y,Xl (z:=Xb [0,1,2,3])⟩⟩),t⟩)) ?_;refine A ?_;apply Xa h y<;>intro v h
   .obtain ⟨x,I,h⟩:=bs h;refine A ?_;refine u<|sx [0,1,2] (zE a b c d e f.2.1 (f.2.2||(!m)) l.C I)<|zu (env0:=[]) (st0:=(sU a b c d e x (f.2.2||(!m)) [])) (zm [0,1,.dead,4])<|zw ?_;cases h;exact ⟨_,y,Xc [0,1,.dead,3]⟩
   .obtain ⟨B,J,h⟩:=bs h;refine rl y<|u<|mv y<|u<|sx [0,1,2] (zE a b c d e f.2.1 (f.2.2||(!m)) [73] J)<|zu (env0:=[]) (st0:=(sU a b c d e B (f.2.2||(!m)) [])) (zm [0,1,.dead,4])<|zw ?_;cases h;exact ⟨_,y,Xc [0,1,.dead,3]⟩
  .refine A ?_;apply Xa h y<;>intro D h
   .obtain ⟨n,K,h⟩:=bs h;refine A ?_;refine zu (env0:=[(34,.mpt 0 0 0),(35,tL ([[84,104,114,111,119,110]]))]) (st0:=(sV a b c d e j i [])) (zm [0,1,2])<|u<|sx [0,1,2] (zJ a b c d e j i ([[84,104,114,111,119,110]]) K)<|zu (env0:=[]) (st0:=(sV a b c d e n.1 n.2 [])) (zm [0,1,2])<|zw ?_;cases h;exact ⟨_,y,Xc [0,1,.dead,2]⟩
   .refine A ?_;apply Xa h y<;>intro p h
    .obtain ⟨E,F,h⟩:=bs h;refine rl y<|u<|mv y<|u<|sx [0,1,2] (zE a b c d e j i [73] F)<|zu (env0:=[]) (st0:=(sU a b c d e E i [])) (zm [0,1,.dead,4])<|zw ?_;cases h;exact ⟨_,y,Xc [0,1,.dead,3]⟩
    .obtain ⟨o,G,h⟩:=bs h;refine A ?_;refine zu (env0:=[(6,.mpt 0 0 0),(7,tL ([[73]]))]) (st0:=(sV a b c d e j i [])) (zm [0,1,2])<|u<|sx [0,1,2] (zJ a b c d e j i ([[73]]) G)<|zu (env0:=[]) (st0:=(sV a b c d e o.1 o.2 [])) (zm [0,1,2])<|zw ?_;cases h;exact ⟨_,y,Xc [0,1,.dead,2]⟩
def zj(c:List za)(d:T2)(e:T0)(f:zb)(a:T1)(i:T1)(j:Bool)(b:zs):Option (T1×T1×Bool):=
  cond (UE b.Op 1 7) ((Hq c d e f a i j b).bind λE=>some (E.1,E.2.1,E.2.2)) (cond (b.Op == 13) ((zN c d e f a i j ([[73]])).bind λl=>(zH c d e f a l.1 l.2 [73]).bind λF=>some (a,F,l.2)) (cond (UE b.Op 8 19) ((zN c d e f a i j ([[73],[73]])).bind λm=>(zH c d e f a m.1 m.2 [73]).bind λG=>some (a,G,m.2)) (cond (b.Op == 20) (some (a,i,j)) (cond (UE b.Op 21 26) ((zN c d e f a i j ([[73]])).bind λn=>some (a,n.1,n.2)) (cond (UE b.Op 27 32) ((zN c d e f a i j ([[73],[73]])).bind λo=>some (a,o.1,o.2)) (cond (UE b.Op 33 34) ((D5 c d e f a i j).bind λp=>some (a,p.2.1,p.2.2)) (cond (UE b.Op 35 36) ((D5 c d e f a i j).bind λq=>(D5 c d e f a q.2.1 q.2.2).bind λs=>some (a,s.2.1,s.2.2)) (cond ((b.Op == 37)||(UE b.Op 38 41)) ((ze3 c d e f a i j b).bind λv=>some (a,v.1,v.2)) (cond (UE b.Op 42 45) ((Im c d e f a i j b).bind λx=>some (a,x.1,x.2)) (cond (UE b.Op 46 48) ((ER c d e f a i j b.Op).bind λB=>some (a,B.1,B.2)) (cond (UE b.Op 49 55) ((Hp c d e f a i j b).bind λC=>some (a,C.1,C.2)) ((Wb c d e f a i j b).bind λD=>some (a,D.1,D.2)))))))))))))
theorem zpj(a:List za)(b:T2)(c:T0)(d:zb)(e:T1)(f:T1)(i:Bool)(j:zs){r:T1×T1×Bool}(h:zj a b c d e f i j=some r):SC prog 200 [.mpt 0 0 0,.agg (zt j)] (tV a b c d e f i []) (.tup []) [.one 15 (vK a b c d (.msl 3 0 (length r.1)) (.msl 4 0 (length r.2.1)) (bA r.2.2)),.no,.no,.many 1 (map Xf r.1),.many 1 (map Xf r.2.1)]:=by
 refine ⟨⟨t,t,t,Xw (sz:=1) (λ_=>y),Xw (sz:=1) (λ_=>y),t⟩,zR func200 y kz y ?_⟩;refine A ?_;refine A ?_;refine zh<|A ?_;apply Xa h y<;>intro N h
 .obtain ⟨o,q2,h⟩:=bs h;refine A ?_;refine u<|sx [0,1,2] (zor a b c d e f i j q2)<|zu (env0:=[]) (st0:=[some (15,[(vK a b c d (.msl 3 0 (length o.1)) (.msl 4 0 (length o.2.1)) (bA o.2.2))]),none,none,sT o.1,sT o.2.1]) (zm [0,.dead,.dead,4,5])<|zw ?_;cases h;exact ⟨_,y,Xc [0,.dead,.dead,3,4]⟩
 .refine A ?_;apply Xa h y<;>intro O h
  .obtain ⟨l,q4,h⟩:=bs h;refine A ?_;refine zu (env0:=[(0,.mpt 0 0 0),(19,.mpt 0 0 0),(20,tL ([[73]]))]) (st0:=(sV a b c d e f i [])) (zm [0,1,2])<|u<|sx [0,1,2] (zJ a b c d e f i ([[73]]) q4)<|zu (env0:=[(0,.mpt 0 0 0)]) (st0:=(sV a b c d e l.1 l.2 [])) (zm [0,1,2])<|zw ?_;obtain ⟨P,q5,h⟩:=bs h;refine rl y<|u<|mv y<|u<|sx [0,1,2] (zE a b c d e l.1 l.2 [73] q5)<|zu (env0:=[]) (st0:=(sU a b c d e P l.2 [])) (zm [0,1,.dead,3])<|zw ?_;cases h;exact ⟨_,y,Xc [0,.dead,.dead,1,3]⟩
  .refine A ?_;apply Xa h y<;>intro Q h
   .obtain ⟨m,q7,h⟩:=bs h;refine A ?_;refine zu (env0:=[(0,.mpt 0 0 0),(27,.mpt 0 0 0),(28,tL ([[73],[73]]))]) (st0:=(sV a b c d e f i [])) (zm [0,1,2])<|u<|sx [0,1,2] (zJ a b c d e f i ([[73],[73]]) q7)<|zu (env0:=[(0,.mpt 0 0 0)]) (st0:=(sV a b c d e m.1 m.2 [])) (zm [0,1,2])<|zw ?_;obtain ⟨R,q8,h⟩:=bs h;refine rl y<|u<|mv y<|u<|sx [0,1,2] (zE a b c d e m.1 m.2 [73] q8)<|zu (env0:=[]) (st0:=(sU a b c d e R m.2 [])) (zm [0,1,.dead,3])<|zw ?_;cases h;exact ⟨_,y,Xc [0,.dead,.dead,1,3]⟩
   .refine A ?_;apply Xa h y<;>intro S h
    .refine zc ?_;cases h;exact ⟨_,y,Xc [0,.dead,.dead,1,2]⟩
    .refine A ?_;apply Xa h y<;>intro F h
     .obtain ⟨p,T,h⟩:=bs h;refine A ?_;refine zu (env0:=[(38,.mpt 0 0 0),(39,tL ([[73]]))]) (st0:=(sV a b c d e f i [])) (zm [0,1,2])<|u<|sx [0,1,2] (zJ a b c d e f i ([[73]]) T)<|zu (env0:=[]) (st0:=(sV a b c d e p.1 p.2 [])) (zm [0,1,2])<|zw ?_;cases h;exact ⟨_,y,Xc [0,.dead,.dead,1,2]⟩
     .refine A ?_;apply Xa h y<;>intro G h
      .obtain ⟨q,U,h⟩:=bs h;refine A ?_;refine zu (env0:=[(44,.mpt 0 0 0),(45,tL ([[73],[73]]))]) (st0:=(sV a b c d e f i [])) (zm [0,1,2])<|u<|sx [0,1,2] (zJ a b c d e f i ([[73],[73]]) U)<|zu (env0:=[]) (st0:=(sV a b c d e q.1 q.2 [])) (zm [0,1,2])<|zw ?_;cases h;exact ⟨_,y,Xc [0,.dead,.dead,1,2]⟩
      .refine A ?_;apply Xa h y<;>intro H h
       .obtain ⟨s,V,h⟩:=bs h;refine rl y<|u<|mv y<|u<|sx [0,1,2] (zeF a b c d e f i V)<|zu (env0:=[]) (st0:=(sV a b c d e s.2.1 s.2.2 [])) (zm [0,1,2])<|zw ?_;cases h;exact ⟨_,y,Xc [0,.dead,.dead,1,2]⟩
       .refine A ?_;apply Xa h y<;>intro I h
        .obtain ⟨n,W,h⟩:=bs h;refine rg y<|u<|mv y<|u<|sx [0,1,2] (zeF a b c d e f i W)<|zu (env0:=[(0,.mpt 0 0 0)]) (st0:=(sV a b c d e n.2.1 n.2.2 [])) (zm [0,1,2])<|zw ?_;obtain ⟨v,X,h⟩:=bs h;refine rl y<|u<|mv y<|u<|sx [0,1,2] (zeF a b c d e n.2.1 n.2.2 X)<|zu (env0:=[]) (st0:=(sV a b c d e v.2.1 v.2.2 [])) (zm [0,1,2])<|zw ?_;cases h;exact ⟨_,y,Xc [0,.dead,.dead,1,2]⟩
        .refine A ?_;apply Xa h y<;>intro J h
         .obtain ⟨x,Y,h⟩:=bs h;refine A ?_;refine u<|sx [0,1,2] (znR a b c d e f i j Y)<|zu (env0:=[]) (st0:=(sU a b c d e x.1 x.2 [])) (zm [0,1,.dead,4])<|zw ?_;cases h;exact ⟨_,y,Xc [0,.dead,.dead,1,3]⟩
         .refine A ?_;apply Xa h y<;>intro K h
          .obtain ⟨B,Z,h⟩:=bs h;refine A ?_;refine u<|sx [0,1,2] (zoq a b c d e f i j Z)<|zu (env0:=[]) (st0:=(sU a b c d e B.1 B.2 [])) (zm [0,1,.dead,4])<|zw ?_;cases h;exact ⟨_,y,Xc [0,.dead,.dead,1,3]⟩
          .refine A ?_;apply Xa h y<;>intro L h
           .obtain ⟨C,q25,h⟩:=bs h;refine rl y<|u<|mv y<|u<|mv y<|u<|sx [0,1,2] (zpk a b c d e f i j.Op q25)<|zu (env0:=[]) (st0:=(sV a b c d e C.1 C.2 [])) (zm [0,1,2])<|zw ?_;cases h;exact ⟨_,y,Xc [0,.dead,.dead,1,2]⟩
           .refine A ?_;apply Xa h y<;>intro M h
            .obtain ⟨D,q27,h⟩:=bs h;refine A ?_;refine u<|sx [0,1,2] (zm7 a b c d e f i j q27)<|zu (env0:=[]) (st0:=(sU a b c d e D.1 D.2 [])) (zm [0,1,.dead,4])<|zw ?_;cases h;exact ⟨_,y,Xc [0,.dead,.dead,1,3]⟩
            .obtain ⟨E,q28,h⟩:=bs h;refine A ?_;refine u<|sx [0,1,2] (zos a b c d e f i j q28)<|zu (env0:=[]) (st0:=(sU a b c d e E.1 E.2 [])) (zm [0,1,.dead,4])<|zw ?_;cases h;exact ⟨_,y,Xc [0,.dead,.dead,1,3]⟩
def zm6(b:T1)(c:T1)(a:Bool):Option (Bool):=
  some (!a)
def EO(e:zb)(b:Int)(c:zs)(a:T1×T1×Bool)(d:Bool):zL (T1×T1×Bool×Bool×Int) (T1×T1×Bool) (Bool):=
  some (.inl (a.1,a.2.1,(d||(!(decide (((length a.2.1):Int)≤e.Stack)))),(!(GE c.Op)),(i64.wrap (b+1))))
def KE(i:T0)(d:zD)(e:zb)(j:T1)(m:T1)(n:Bool)(o:Bool)(a:Int):zL (T1×T1×Bool×Bool×Int) (T1×T1×Bool) (Bool):=
  cond (decide (a<(length e.Code:Int))) ((idx e.Code a).bind λf=>(zgF d.l d.at_ i e j m n a o).bind λb=>cond b.2.2 (some (.inr (.inr false))) ((ze4 d.l d.at_ i e b.1 b.2.1 b.2.2 a).bind λp=>(zj d.l d.at_ i e b.1 b.2.1 p f).bind λc=>cond (UT f.Op) ((Ik d.l d.at_ i e c.1 c.2.1 c.2.2 f.A).bind λq=>EO e a f c q) (EO e a f c c.2.2))) (some (.inr (.inl (j,m,n))))
def zsR(e:T0)(f:zD)(i:zb)(a:Bool)(c:Bool)(d:T1):Option (Bool):=
  (zk (λz=>KE e f i z.1 z.2.1 z.2.2.1 z.2.2.2.1 z.2.2.2.2) (d,[],(a||(!c)),true,0)).bind λo=>zB o (λb=>zm6 b.1 b.2.1 b.2.2) some
def zkY(c:zb)(a:T1):zL (T1) (T1) (Bool):=
  cond (decide (((length a):Int)<c.Locals)) ((Xx 16 a ([[84]])).bind λb=>some (.inl b)) (some (.inr (.inl a)))
def zhy(i:T0)(j:zD)(a:zb)(c:Bool)(d:Bool)(e:T1):Option (Bool):=
  (Xx 16 e a.Params).bind λf=>(zk (λz=>zkY a z) f).bind λo=>zB o (λb=>zsR i j a c d b) some
def zhx(e:T0)(a:zD)(b:zb)(c:Bool):Option (Bool):=
  (zjJ b.Params a.l a.at_).bind λd=>cond (!b.Static) ((Xx 16 ([]:T1) [e]).bind λf=>zhy e a b c d f) (zhy e a b c d [])
def zkX(d:T0)(b:zD)(a:zb)(c:Bool):Option (Bool):=
  cond (a.Ret == [86]) (zhx d b a (c||(!true))) ((H2 b.l b.at_ a.Ret a.Ret).bind λe=>zhx d b a (c||(!e)))
def Bh(b:zD)(e:zb)(c:Bool)(a:Int):zL (Bool×Int) (Bool) (Bool):=
  cond (decide (a<(length e.Maps:Int))) ((idx e.Maps a).bind λd=>(OF d.Locals b.l b.at_).bind λf=>(cond f ((OF d.Stack b.l b.at_).bind λi=>some i) (some false)).bind λj=>some (.inl ((c||(!j)),(i64.wrap (a+1))))) (some (.inr (.inl c)))
def KS(i:Option zD)(e:T0)(a:Int):Option (Bool):=
  Zq i (none) (λc=>(zK c.l c.at_ e).bind λd=>(cond (((!d.2)||(decide (a<0)))||(decide ((length d.1.Methods:Int)≤a))) (some true) ((idx d.1.Methods a).bind λj=>some j.Abstract)).bind λm=>cond m (some false) ((idx d.1.Methods a).bind λf=>(zk (λz=>Bh c f z.1 z.2) (false,0)).bind λo=>zB o (λb=>zkX e c f b) some))
theorem D3(M:Option zD)(d:T0)(T:Int){r:Bool}(h:KS M d T=some r):Xo prog 118 [Xy 2 Zx M,sA d,iA T] (bA r):=by
 refine zi func118 y kz y y ?_;unfold KS at h
 rcases M with _ |a
 .replace h:=oeN h;cases h
 .replace h:=oeS h;refine A ?_;obtain ⟨v5,q1,h⟩:=bs h;refine rg y<|u<|ld ti y y<|u<|mv y<|u<|pc (zky a.l a.at_ d q1) y y y<|u<|mv y<|u<|ex y y<|u<|ex y y<|u<|al 1 ti y<|u<|sto ti y y y<|u<|asg y<|zw ?_;refine ze ?_;obtain ⟨v7,q6,h⟩:=bs h;refine A ?_;apply Xa h y<;>intro U h
  .refine A ?_;exact RT0
  .refine zc ?_;obtain ⟨c,q8,h⟩:=bs h;refine rdA [(1,sA d),(3,.mpt 0 0 0),(9,.mpt 1 0 0)] [some (1,[[.ipt 2 [[cL a.l,mI a.at_]] 0 0]]),some (15,[(vK a.l a.at_ d c (nS) (nS) (bA false))])] [8] [0,1,2,3,4,5,6,7] [(50,_),(49,_),(48,_),(47,_),(46,_),(45,_),(44,_),(43,_)] 1 (Xi (z:=by exact ⟨(λ_ _=>⟨_,y,y,bx 2 15 y y y y<|⟨(.mpt 2 0 0),[9],[(9,_),(51,_)],y,y,y,y,Xl (z:=Xb [0,2])⟩⟩),t⟩)) ?_;refine ze<|A ?_;obtain ⟨o,ho,h⟩:=bs h;refine lpB ho (λz=>[(1,sA d),(3,.mpt 0 0 0),(9,.mpt 1 0 0),(56,.isl 3 (map zO c.Maps)),(57,iA (length c.Maps:Int)),(58,iA z.2)]) (λz=>[some (1,[[.ipt 2 [[cL a.l,mI a.at_]] 0 0]]),some (15,[(vK a.l a.at_ d c (.msl 2 0 0) (.msl 3 0 0) (bA z.1))]),some (1,map Xf []),some (1,map Xf [])]) (λb=>[(1,sA d),(3,.mpt 0 0 0),(9,.mpt 1 0 0)]) (λb=>[some (1,[[.ipt 2 [[cL a.l,mI a.at_]] 0 0]]),some (15,[(vK a.l a.at_ d c (.msl 2 0 0) (.msl 3 0 0) (bA b))]),some (1,map Xf []),some (1,map Xf [])]) (pG f118 bA) ⟨[0,1,.fresh 1,.fresh 1],ce y y<|cv y (.mpt y)<|cv y (.mpt y)<|ce y y<|ce y y<|ce y y<|cn,y,⟨⟨_,y,Ze ⟨ci y,t⟩⟩,⟨_,y,Ze (GQ y (by exact ⟨.nilown y,.nilown y,ci y,t⟩))⟩,w,w,t⟩,y,k⟩ ?_ ?_
   .rintro ⟨G,V⟩ r h;refine A ?_;refine ze ?_;apply Xa h y<;>intro N h
    .refine zc<|ze<|zh ?_;obtain ⟨H,q16,h⟩:=bs h;refine A ?_;refine A ?_;obtain ⟨v18,W,E,B,h⟩:=bs2 h;refine A ?_;refine u<|pcs (znP H.Locals a.l a.at_ W) y y (.cons (si y) (.cons (ZA t ⟨(XR y ⟨(si y),t⟩),t⟩) .nil)) XA<|u<|mv y<|Zi (x:=E) (j:=5) 4 y y y y y gpn (λv=>by replace B:=bT v B;obtain ⟨v19,Y,B⟩:=bs B;obtain rfl:=sm B;exact g y v<|fa ti y y y<|g y v<|ld ti y y<|g y v<|mv y<|g y v<|pcs (znP H.Stack a.l a.at_ Y) y y (.cons (si y) (.cons (ZA t ⟨(XR y ⟨(si y),t⟩),t⟩) .nil)) XA<|zw (eg [69,70,71,72] 4 y y y y)) (λhb=>(sm (bF hb B)).symm)<|u<|sx [1,2,3] (zy a.l a.at_ d c [] [] G E y)<|zu (env0:=[(1,sA d),(3,.mpt 0 0 0),(9,.mpt 1 0 0),(56,.isl 3 (map zO c.Maps)),(57,iA (length c.Maps:Int)),(58,iA V)]) (st0:=[some (1,[[.ipt 2 [[cL a.l,mI a.at_]] 0 0]]),some (15,[(vK a.l a.at_ d c (.msl 2 0 0) (.msl 3 0 0) (bA (G||(!E))))]),some (1,map Xf []),some (1,map Xf [])]) (zm [0,1,2,3])<|zw ?_;refine A ?_;cases h;exact ⟨_,y,zm [0,1,2,3]⟩
    .refine zp ?_;cases h;exact ⟨y,_,y,zm [0,1,2,3]⟩
   .rintro D rfl;refine zl ?_;refine Xz (X:=Bool) (λz=>[(1,sA d),(3,.mpt 0 0 0),(9,.mpt 1 0 0)]) (λz=>[some (1,[[.ipt 2 [[cL a.l,mI a.at_]] 0 0]]),some (15,[(vK a.l a.at_ d c (.msl 2 0 0) (.msl 3 0 0) (bA z))]),some (1,map Xf []),some (1,map Xf [])]) (λz=>zhx d a c z=some r) ?_ ?_
    .rcases bb (c.Ret == [86]) with e |e
     .replace h:=bT e h;exact rdQ [21] [0,1,2,3,4,5,6,7,8,9,10,11,12,13,14,15,16,17,18,19,20] [(96,_),(95,_),(94,_),(93,_),(92,_),(91,_),(90,_),(89,_),(88,_),(87,_),(86,_),(85,_),(84,_),(83,_),(82,_),(81,_),(80,_),(79,_),(78,_),(77,_),(76,_)] 1 (Xi (z:=by exact ⟨(λ_ _=>⟨_,y,y,sc [1,2,3] (args:=[.mpt 1 0 0,bA true]) (zy a.l a.at_ d c [] [] D true y) y y y y ⟨(.mpt y),(rnI y),t⟩ ⟨⟨_,y,(KX y ⟨(.msl y),(.msl y),(rnI y),t⟩)⟩,⟨y,mkI (λ_=>y)⟩,⟨y,mkI (λ_=>y)⟩,t⟩<|⟨(.tup []),[],[(97,_)],y,y,y,y,Xl (z:=by exact ⟨(D||(!true)),h,Xb [0,1,2,3]⟩)⟩⟩),t⟩))
     .replace h:=bF e h;obtain ⟨C,Z,h⟩:=bs h;exact Gh [21] [20,19,18,17,16,15,14,13,12,11,10,9,8,7,6,5,4,3,2,1,0] [(96,bA C),(95,bA C),(94,sA c.Ret),(93,.mpt 1 0 4),(92,.mpt 1 0 2),(91,.mpt 1 0 0),(90,.mpt 1 0 0),(89,sA c.Ret),(88,.mpt 1 0 4),(87,.mpt 1 0 2),(86,.mpt 1 0 0),(85,.mpt 1 0 0),(84,.ipt 2 [[cL a.l,mI a.at_]] 0 0),(83,bA (c.Ret == [86])),(82,bA (c.Ret == [86])),(81,sA c.Ret),(80,.mpt 1 0 4),(79,.mpt 1 0 2),(78,.mpt 1 0 0),(77,.mpt 1 0 0),(76,.mpt 1 0 0)] 1 kz kz y kz (ZQ ⟨pe,(λ_=>pag (b:=(c.Ret == [86])) y y y y e y (pc (Ih a.l a.at_ c.Ret c.Ret Z) y y y<|w)),(λ_=>pag (b:=(c.Ret == [86])) y y y y e y (ld ti y y<|w)),(λ_=>pag (b:=(c.Ret == [86])) y y y y e y (fa ti y y y<|w)),(λ_=>pag (b:=(c.Ret == [86])) y y y y e y (fa ti y y y<|w)),pe,pe,(λ_=>pag (b:=(c.Ret == [86])) y y y y e y (ld ti y y<|w)),(λ_=>pag (b:=(c.Ret == [86])) y y y y e y (fa ti y y y<|w)),(λ_=>pag (b:=(c.Ret == [86])) y y y y e y (fa ti y y y<|w)),pe,pe,(λ_=>pag (b:=(c.Ret == [86])) y y y y e y (ld ti y y<|w)),pe,(pb y (seq ti y y w)),(pb y (ld ti y y w)),(pb y (fa ti y y y w)),(pb y (fa ti y y y w)),pe,pe,pe,t⟩ ⟨(λ_ _=>⟨_,y,y,sc [1,2,3] (args:=[.mpt 1 0 0,bA C]) (zy a.l a.at_ d c [] [] D C y) y y y y ⟨(.mpt y),(rnI y),t⟩ ⟨⟨_,y,(KX y ⟨(.msl y),(.msl y),(rnI y),t⟩)⟩,⟨y,mkI (λ_=>y)⟩,⟨y,mkI (λ_=>y)⟩,t⟩<|⟨(.tup []),[],[(97,.tup [])],y,y,kz,y,Ue ⟨pe,pe,(λ_=>pag (b:=(c.Ret == [86])) y y y y e y (ld ti y y<|w)),(λ_=>pag (b:=(c.Ret == [86])) y y y y e y (fa ti y y y<|w)),(λ_=>pag (b:=(c.Ret == [86])) y y y y e y (fa ti y y y<|w)),pe,pe,(λ_=>pag (b:=(c.Ret == [86])) y y y y e y (ld ti y y<|w)),(λ_=>pag (b:=(c.Ret == [86])) y y y y e y (fa ti y y y<|w)),(λ_=>pag (b:=(c.Ret == [86])) y y y y e y (fa ti y y y<|w)),pe,pe,(λ_=>pag (b:=(c.Ret == [86])) y y y y e y (ld ti y y<|w)),pe,(pb y (seq ti y y w)),(pb y (ld ti y y w)),(pb y (fa ti y y y w)),(pb y (fa ti y y y w)),pe,pe,pe,t⟩ ⟨(D||(!C)),h,zm [0,1,2,3]⟩⟩⟩),t⟩)
    .rintro p h;obtain ⟨q,q23,h⟩:=bs h;refine A ?_;refine u<|pcs (zn7 c.Params a.l a.at_ q23) y y (.cons (si y) (.cons (ZA t ⟨(XR y ⟨(si y),t⟩),t⟩) .nil)) XA<|u<|sx [1,2,3] (zy a.l a.at_ d c [] [] p q y)<|zu (env0:=[(1,sA d),(9,.mpt 0 0 0)]) (st0:=[some (15,[(vK a.l a.at_ d c (.msl 1 0 0) (.msl 2 0 0) (bA (p||(!q))))]),some (1,map Xf []),some (1,map Xf [])]) (zm [1,2,3])<|zw ?_;refine Xz (X:=T1) (λz=>[(9,.mpt 0 0 0)]) (λz=>[some (15,[(vK a.l a.at_ d c (.msl 1 0 (length z)) (.msl 2 0 0) (bA (p||(!q))))]),sT z,some (1,map Xf [])]) (λz=>zhy d a c p q z=some r) ?_ ?_
     .refine A ?_;apply Xa h y<;>intro O h
      .obtain ⟨v25,q25,h⟩:=bs h;refine A ?_;refine u<|apM 4 ti y ti y y (by decide) ti y y y y (roX (f:=Xf) (z:=[d]) y y) (λ_=>y) y q25<|A ?_;exact (⟨v25,h,zm [0,4,2]⟩)
      .refine zc ?_;exact ⟨[],h,zm [0,1,2]⟩
     .rintro v26 h;obtain ⟨F,q26,h⟩:=bs h;refine rdA [(9,_)] [some (15,[(vK a.l a.at_ d c (.msl 1 0 (length F)) (.msl 2 0 0) (bA (p||(!q))))]),sT F,some (1,map Xf [])] [10,13] [0,1,2,3,4,5,6,7,8,9] [(132,_),(131,_),(130,_),(129,_),(128,_),(127,_),(126,_),(125,_),(124,_),(123,_)] 2 (Xi (z:=by exact ⟨(λ_ _=>⟨_,y,y,apM 3 ti y ti y y (by decide) ti y y y y roI (λ_=>y) y q26<|⟨(.msl 3 0 (length F)),[11,12],[(135,_),(134,_),(133,_)],y,y,y,y,Xi (z:=by exact ⟨nv,(λ_ _=>⟨_,y,y,sto ti y y y<|⟨.any,[],[],y,y,y,t,Xl (z:=Xb [0,3,2])⟩⟩),t⟩)⟩⟩),nw,t⟩)) ?_;obtain ⟨o,ho,h⟩:=bs h;refine lpA ho (λz=>[(9,.mpt 0 0 0)]) (λz=>[some (15,[(vK a.l a.at_ d c (.msl 1 0 (length z)) (.msl 2 0 0) (bA (p||(!q))))]),sT z,some (1,map Xf [])]) (λb=>[(9,.mpt 0 0 0)]) (λb=>[some (15,[(vK a.l a.at_ d c (.msl 1 0 (length b)) (.msl 2 0 0) (bA (p||(!q))))]),sT b,some (1,map Xf [])]) (pG f118 bA) (Xb [0,1,2]) ?_ ?_
      .rintro I r h;refine ze ?_;refine rdA [(9,_),(146,_)] [some (15,[(vK a.l a.at_ d c (.msl 1 0 (length I)) (.msl 2 0 0) (bA (p||(!q))))]),sT I,some (1,map Xf [])] [] [0,1,2,3,4,5,6,7,8,9,10] [(146,_),(145,_),(144,_),(143,_),(142,_),(141,_),(140,_),(139,_),(138,_),(137,_),(136,_)] 0 (Xl (z:=Xb [0,1,2])) ?_;apply Xa h y<;>intro P h
       .refine zc<|zh ?_;obtain ⟨v31,q30,h⟩:=bs h;refine A ?_;refine u<|apM 4 ti y ti y y (by decide) ti y y y y (roX (f:=Xf) (z:=[[84]]) y y) (λ_=>y) y q30<|A ?_;cases h;exact ⟨_,y,zm [0,4,2]⟩
       .refine zp ?_;cases h;exact ⟨y,_,y,zm [0,1,2]⟩
      .rintro v32 rfl;refine A ?_;refine ze<|A ?_;obtain ⟨o,ho,h⟩:=bs h;refine lpB ho (λz=>[(9,.mpt 0 0 0),(13,bA z.2.2.2.1),(160,.isl 4 (map zt c.Code)),(161,iA (length c.Code:Int)),(162,iA z.2.2.2.2)]) (λz=>(sV a.l a.at_ d c z.1 z.2.1 z.2.2.1 [])) (λb=>[(9,.mpt 0 0 0)]) (λb=>(sV a.l a.at_ d c b.1 b.2.1 b.2.2 [])) (pG f118 bA) (Xb [0,1,2]) ?_ ?_
       .rintro ⟨v44,v45,v46,v47,s⟩ r h;refine A ?_;refine ze ?_;apply Xa h y<;>intro Q h
        .refine zc<|ze<|zh ?_;obtain ⟨n,q40,h⟩:=bs h;refine A ?_;obtain ⟨m,q41,h⟩:=bs h;refine A ?_;refine u<|sx [0,1,2] (znQ a.l a.at_ d c v44 v45 v46 s v47 q41)<|zu (env0:=[(9,.mpt 0 0 0),(14,iA s),(15,.mpt 3 0 0),(160,.isl 4 (map zt c.Code)),(161,iA (length c.Code:Int)),(162,iA s)]) (st0:=(sV a.l a.at_ d c m.1 m.2.1 m.2.2 [some (4,[(zt n)])])) (zm [0,4,5,3])<|zw ?_;refine ze<|A ?_;apply Xa h y<;>intro R h
         .refine A ?_;refine zA ?_;cases h;exact ⟨_,y,_,y,Xc []⟩
         .refine zc ?_;obtain ⟨J,q43,h⟩:=bs h;refine rg y<|u<|mv y<|u<|mv y<|u<|sx [0,1,2] (znT a.l a.at_ d c m.1 m.2.1 m.2.2 s q43)<|zu (env0:=[(9,.mpt 0 0 0),(15,.mpt 3 0 0),(160,.isl 4 (map zt c.Code)),(161,iA (length c.Code:Int)),(162,iA s)]) (st0:=(sV a.l a.at_ d c m.1 m.2.1 J [some (4,[(zt n)])])) (zm [0,1,2,3])<|zw ?_;obtain ⟨i,q44,h⟩:=bs h;refine A ?_;refine u<|sx [0,1,2] (zpj a.l a.at_ d c m.1 m.2.1 J n q44)<|zu (env0:=[(9,.mpt 0 0 0),(15,.mpt 3 0 0),(160,.isl 4 (map zt c.Code)),(161,iA (length c.Code:Int)),(162,iA s)]) (st0:=(sV a.l a.at_ d c i.1 i.2.1 i.2.2 [some (4,[(zt n)])])) (zm [0,4,5,3])<|zw ?_;refine Xz (X:=Bool) (λz=>[(9,.mpt 0 0 0),(15,.mpt 3 0 0),(160,.isl 4 (map zt c.Code)),(161,iA (length c.Code:Int)),(162,iA s)]) (λz=>(sV a.l a.at_ d c i.1 i.2.1 z [some (4,[(zt n)])])) (λz=>EO c s n i z=some r) ?_ ?_
          .refine A ?_;apply Xa h y<;>intro S h
           .obtain ⟨K,q46,h⟩:=bs h;refine XC [(9,_),(15,_),(160,_),(161,_),(162,_)] (sV a.l a.at_ d c i.1 i.2.1 K [some (4,[(zt n)])]) [7] [0,1,2,3,4,5,6] [(190,_),(189,_),(188,_),(187,_),(186,_),(185,_),(184,_)] 1 (Xi (z:=by exact ⟨(λ_ _=>⟨_,y,y,sx [0,1,2] (zjQ a.l a.at_ d c i.1 i.2.1 i.2.2 n.A q46)<|⟨(.tup []),[],[(191,_)],y,y,y,y,Xl (z:=Xb [0,1,2,3])⟩⟩),t⟩)) ?_;exact ⟨K,h,zm [0,1,2,3]⟩
           .refine zc ?_;exact ⟨i.2.2,h,zm [0,1,2,3]⟩
          .rintro L h;refine rdA [(9,_),(15,_),(160,_),(161,_),(162,_)] (sV a.l a.at_ d c i.1 i.2.1 (L||(!(decide (((length i.2.1):Int)≤c.Stack)))) [some (4,[(zt n)])]) [12] [0,1,2,3,4,5,6,7,8,9,10,11] [(203,_),(202,_),(201,_),(200,_),(199,_),(198,_),(197,_),(196,_),(195,_),(194,_),(193,_),(192,_)] 1 (Xi (z:=by exact ⟨(λ_ _=>⟨_,y,y,sx [0,1,2] (zy a.l a.at_ d c i.1 i.2.1 L (decide (((length i.2.1):Int)≤c.Stack)) y)<|⟨(.tup []),[],[(204,_)],y,y,y,y,Xl (z:=Xb [0,1,2,3])⟩⟩),t⟩)) ?_;refine A ?_;refine A ?_;cases h;exact ⟨_,y,zm [0,1,2]⟩
        .refine zp ?_;cases h;exact ⟨y,_,y,zm [0,1,2]⟩
       .rintro ⟨v55,v56,v57⟩ rfl;refine zl<|A ?_;exact RT0
instance (a:Option zD)(b:T0)(c:Int):PF prog 118 [Xy 2 Zx a,sA b,iA c] (KS a b c) bA:=⟨λ_=>D3 a b c⟩
def ztj(a:(Option zD)×Int):Option ((Option zD)×Int):=
  some (a.1,0)
def zox(a:Int):zL (Int) (Unit) ((Option zD)×Int):=
  some (.inl (i64.wrap (a+1)))
def Ey(f:(Option zD)×Int)(b:za)(a:Int):zL (Int) (Unit) ((Option zD)×Int):=
  cond (decide (a<(length b.Methods:Int))) ((idx b.Methods a).bind λc=>(cond (!c.Abstract) ((KS f.1 b.Name a).bind λd=>some (!d)) (some false)).bind λe=>cond e (some (.inr (.inr (none,5)))) (some (.inl (i64.wrap (a+1))))) (some (.inr (.inl ())))
def Ex(c:List za)(e:(Option zD)×Int)(a:Int):zL (Int) (Unit) ((Option zD)×Int):=
  cond (decide (a<(length c:Int))) ((idx c a).bind λd=>(zk (λz=>Ey e d z) 0).bind λo=>zB o (λb=>zox a) (λr=>some (.inr (.inr r)))) (some (.inr (.inl ())))
def HW(d:List za)(e:X1):Option ((Option zD)×Int):=
  (WP d).bind λa=>cond (!(a.2 == 0)) (some (none,a.2)) ((Bd a.1).bind λf=>cond (!(f == 0)) (some (none,f)) ((zly a.1 e.C e.M).bind λc=>cond ((((!c.2.2)||(!c.2.1.Static))||(decide (0<(length c.2.1.Params:Int))))||(!(c.2.1.Ret == [86]))) (some (none,4)) ((zk (λz=>Ex d a z) 0).bind λo=>zB o (λb=>ztj a) some)))
theorem Ew(d:List za)(i:X1){r:(Option zD)×Int}(h:HW d i=some r):Xo prog 42 [cL d,.agg (Kw i)] (.tup [Xy 2 Zx r.1,iA r.2]):=by
 refine zi func42 y kz y (zzM (Z8 (Zh (λ_=>y)) (y))) ?_;refine A ?_;obtain ⟨e,L,h⟩:=bs h;refine A ?_;refine ze<|A ?_;apply Xa h y<;>intro q h
 .refine A ?_;exact RT0
 .refine zc<|ze ?_;obtain ⟨N,F,h⟩:=bs h;refine rg y<|u<|mv y<|u<|pc (zkP e.1 F) y y (Z8 (Zh (λ_=>y)) (y))<|A ?_;refine A ?_;apply Xa h y<;>intro s h
  .refine A ?_;exact RT0
  .refine zc<|ze ?_;obtain ⟨O,G,h⟩:=bs h;refine A ?_;refine u<|pc (zp0 e.1 i.C i.M G) y y (Z8 (Zh (λ_=>y)) (y))<|A ?_;refine A ?_;apply Xa h y<;>intro v h
   .refine A ?_;exact RT0
   .refine zc<|ze<|A ?_;obtain ⟨o,ho,h⟩:=bs h;refine lpB ho (λz=>[(6,Xy 2 Zx e.1),(57,cL d),(58,iA (length d:Int)),(59,iA z)]) (λz=>[]) (λb=>[(6,Xy 2 Zx e.1)]) (λb=>[]) (pG f42 (λr=>.tup [Xy 2 Zx r.1,iA r.2])) (Xb []) ?_ ?_
    .rintro l r h;refine A ?_;refine ze ?_;apply Xa h y<;>intro m h
     .refine zc<|ze<|zh ?_;obtain ⟨f,H,h⟩:=bs h;refine A ?_;refine A ?_;obtain ⟨o,ho,h⟩:=bs h;refine lpS ho (λz=>[(6,Xy 2 Zx e.1),(13,.mpt 0 0 0),(57,cL d),(58,iA (length d:Int)),(59,iA l),(64,.isl 10 (map zd f.Methods)),(65,iA (length f.Methods:Int)),(66,iA z)]) (λz=>[some (6,[(zf f)])]) (λb=>[(6,Xy 2 Zx e.1),(57,cL d),(58,iA (length d:Int)),(59,iA l)]) (λb=>[]) (pG f42 (λr=>.tup [Xy 2 Zx r.1,iA r.2])) (Xb [0]) ?_ ?_ ?_
      .rintro B r h;refine A ?_;refine ze ?_;apply Xa h y<;>intro n h
       .refine zc<|ze<|zh ?_;obtain ⟨I,J,h⟩:=bs h;refine A ?_;obtain ⟨D,c,h⟩:=bs h;refine A ?_;refine Zi (x:=D) (j:=3) 6 y y y y y gpn (λa=>by replace c:=bT a c;obtain ⟨K,E,c⟩:=bs c;obtain rfl:=sm c;exact g y a<|mv y<|g y a<|fa ti y y y<|g y a<|ld ti y y<|g y a<|mv y<|g y a<|pc (D3 e.1 f.Name B E) y y (Z8 (Zh (λ_=>y)) (y))<|g y a<|nt y<|zw (eg [75,76,77,78,79,80] 6 y y y y)) (λhb=>(sm (bF hb c)).symm)<|zw ?_;apply Xa h y<;>intro p h
        .refine A ?_;refine zA ?_;cases h;exact ⟨_,y,_,y,Xc []⟩
        .refine zc<|A ?_;cases h;exact ⟨_,y,zm [0]⟩
       .refine zp ?_;cases h;exact ⟨y,_,y,zm []⟩
      .rintro ⟨⟩ rfl;refine zl<|A ?_;cases h;exact ⟨_,y,zm []⟩
      .rintro r' rfl env st hp;cases h;exact ⟨_,y,hp⟩
     .refine zp ?_;cases h;exact ⟨y,_,y,zm []⟩
    .rintro ⟨⟩ rfl;refine zl<|A ?_;exact RT0
instance (a:List za)(b:X1):PF prog 42 [cL a,.agg (Kw b)] (HW a b) (λr=>(.tup [Xy 2 Zx r.1,iA r.2])):=⟨λ_=>Ew a b⟩
def zpx:Bool:=
  true
theorem zrb{r:Bool}(h:zpx=r):Xo prog 117 [] (bA r):=by
 refine zi func117 y kz y y ?_;unfold zpx at h;refine A ?_;refine rg y<|u<|pc (zvY y) y y y<|u<|asg y<|zw ?_;refine zA ?_;obtain rfl:=h;exact ⟨_,y,Xc []⟩
instance:PF prog 117 [] (some (zpx)) bA:=.of λ_=>zrb 
def zqs:Option (Bool):=
  (WP ([(za.mk [70,97,99,101] [79,98,106,101,99,116] true [] [] ([(zb.mk [102] [] [73] false true 0 0 [] [] [])])),(za.mk [65,97] [79,98,106,101,99,116] false ([[70,97,99,101]]) ([(zg.mk [120] [73] false),(zg.mk [115] [73] true)]) ([(zb.mk [102] [] [73] false false 1 1 ([(zs.mk 1 5 [] []),(zs.mk 47 0 [] [])]) [] [])])),(za.mk [66,98] [65,97] false [] ([(zg.mk [121] [91,65,97] false)]) ([(zb.mk [109,97,105,110] [] [86] true false 0 0 ([(zs.mk 46 0 [] [])]) [] [])]))])).bind λa=>(WP ([(za.mk [70,97,99,101] [79,98,106,101,99,116] true [] [] ([(zb.mk [102] [] [73] false true 0 0 [] [] [])])),(za.mk [65,97] [79,98,106,101,99,116] false ([[70,97,99,101]]) ([(zg.mk [120] [73] false),(zg.mk [115] [73] true)]) ([(zb.mk [102] [] [73] false false 1 1 ([(zs.mk 2 0 [] []),(zs.mk 47 0 [] [])]) [] [])])),(za.mk [66,98] [65,97] false [] ([(zg.mk [121] [91,65,97] false)]) ([(zb.mk [109,97,105,110] [] [86] true false 0 0 ([(zs.mk 46 0 [] [])]) [] [])]))])).bind λb=>cond ((!(a.2 == 0))||(!(b.2 == 0))) (some false) ((cond (zpx) ((KS a.1 [65,97] 0).bind λj=>some j) (some false)).bind λl=>(cond l ((KS a.1 [66,98] 0).bind λm=>some m) (some false)).bind λn=>(cond n ((KS b.1 [65,97] 0).bind λo=>some (!o)) (some false)).bind λp=>(cond p ((KS a.1 [70,97,99,101] 0).bind λq=>some (!q)) (some false)).bind λc=>(cond c ((KS a.1 [65,97] 1).bind λd=>some (!d)) (some false)).bind λe=>(cond e ((KS a.1 [90,122] 0).bind λf=>some (!f)) (some false)).bind λi=>some i)
theorem zuw{r:Bool}(h:zqs=some r):Xo prog 34 [] (bA r):=by
 refine zi func34 y kz y y<|A ?_;obtain ⟨f,H,h⟩:=bs h;refine rg y<|u<|sx [] (OX y)<|zu (env0:=[(7,.msl 0 0 3)]) (st0:=[some (6,[[sA [70,97,99,101],sA [79,98,106,101,99,116],bA true,nS,nS,.msl 1 0 1],[sA [65,97],sA [79,98,106,101,99,116],bA false,.msl 2 0 1,.msl 3 0 2,.msl 4 0 1],[sA [66,98],sA [65,97],bA false,nS,.msl 6 0 1,.msl 7 0 1]]),some (10,[[sA [102],nS,sA [73],bA false,bA true,iA 0,iA 0,nS,nS,nS]]),some (1,[[sA [70,97,99,101]]]),some (3,[[sA [120],sA [73],bA false],[sA [115],sA [73],bA true]]),some (10,[[sA [102],nS,sA [73],bA false,bA false,iA 1,iA 1,.msl 5 0 2,nS,nS]]),some (4,[[iA 1,iA 5,sA [],sA []],[iA 47,iA 0,sA [],sA []]]),some (3,[[sA [121],sA [91,65,97],bA false]]),some (10,[[sA [109,97,105,110],nS,sA [86],bA true,bA false,iA 0,iA 0,.msl 8 0 1,nS,nS]]),some (4,[[iA 46,iA 0,sA [],sA []]])]) (zm [0,1,2,3,4,5,6,7,8])<|zu (env0:=[(7,.isl 6 (map zf ([(za.mk [70,97,99,101] [79,98,106,101,99,116] true [] [] ([(zb.mk [102] [] [73] false true 0 0 [] [] [])])),(za.mk [65,97] [79,98,106,101,99,116] false ([[70,97,99,101]]) ([(zg.mk [120] [73] false),(zg.mk [115] [73] true)]) ([(zb.mk [102] [] [73] false false 1 1 ([(zs.mk 1 5 [] []),(zs.mk 47 0 [] [])]) [] [])])),(za.mk [66,98] [65,97] false [] ([(zg.mk [121] [91,65,97] false)]) ([(zb.mk [109,97,105,110] [] [86] true false 0 0 ([(zs.mk 46 0 [] [])]) [] [])]))])))]) (st0:=[]) (zm [])<|u<|pc (zqn ([(za.mk [70,97,99,101] [79,98,106,101,99,116] true [] [] ([(zb.mk [102] [] [73] false true 0 0 [] [] [])])),(za.mk [65,97] [79,98,106,101,99,116] false ([[70,97,99,101]]) ([(zg.mk [120] [73] false),(zg.mk [115] [73] true)]) ([(zb.mk [102] [] [73] false false 1 1 ([(zs.mk 1 5 [] []),(zs.mk 47 0 [] [])]) [] [])])),(za.mk [66,98] [65,97] false [] ([(zg.mk [121] [91,65,97] false)]) ([(zb.mk [109,97,105,110] [] [86] true false 0 0 ([(zs.mk 46 0 [] [])]) [] [])]))]) H) y y y<|A ?_;refine rg y<|u<|sx [] (OX y)<|zu (env0:=[(1,Xy 2 Zx f.1),(2,iA f.2),(11,.msl 0 0 3)]) (st0:=[some (6,[[sA [70,97,99,101],sA [79,98,106,101,99,116],bA true,nS,nS,.msl 1 0 1],[sA [65,97],sA [79,98,106,101,99,116],bA false,.msl 2 0 1,.msl 3 0 2,.msl 4 0 1],[sA [66,98],sA [65,97],bA false,nS,.msl 6 0 1,.msl 7 0 1]]),some (10,[[sA [102],nS,sA [73],bA false,bA true,iA 0,iA 0,nS,nS,nS]]),some (1,[[sA [70,97,99,101]]]),some (3,[[sA [120],sA [73],bA false],[sA [115],sA [73],bA true]]),some (10,[[sA [102],nS,sA [73],bA false,bA false,iA 1,iA 1,.msl 5 0 2,nS,nS]]),some (4,[[iA 1,iA 5,sA [],sA []],[iA 47,iA 0,sA [],sA []]]),some (3,[[sA [121],sA [91,65,97],bA false]]),some (10,[[sA [109,97,105,110],nS,sA [86],bA true,bA false,iA 0,iA 0,.msl 8 0 1,nS,nS]]),some (4,[[iA 46,iA 0,sA [],sA []]])]) (zm [0,1,2,3,4,5,6,7,8])<|A ?_;refine rg y<|u<|mv y<|u<|ixX ti y ti y y y<|A ?_;refine u<|ixX ti y ti y y y<|A ?_;refine u<|ixX ti y ti y y y<|A ?_;obtain ⟨I,J,h⟩:=bs h;refine rg y<|u<|mv y<|zu (env0:=[(1,Xy 2 Zx f.1),(2,iA f.2),(22,.isl 6 (map zf ([(za.mk [70,97,99,101] [79,98,106,101,99,116] true [] [] ([(zb.mk [102] [] [73] false true 0 0 [] [] [])])),(za.mk [65,97] [79,98,106,101,99,116] false ([[70,97,99,101]]) ([(zg.mk [120] [73] false),(zg.mk [115] [73] true)]) ([(zb.mk [102] [] [73] false false 1 1 ([(zs.mk 2 0 [] []),(zs.mk 47 0 [] [])]) [] [])])),(za.mk [66,98] [65,97] false [] ([(zg.mk [121] [91,65,97] false)]) ([(zb.mk [109,97,105,110] [] [86] true false 0 0 ([(zs.mk 46 0 [] [])]) [] [])]))])))]) (st0:=[]) (zm [])<|u<|pc (zqn ([(za.mk [70,97,99,101] [79,98,106,101,99,116] true [] [] ([(zb.mk [102] [] [73] false true 0 0 [] [] [])])),(za.mk [65,97] [79,98,106,101,99,116] false ([[70,97,99,101]]) ([(zg.mk [120] [73] false),(zg.mk [115] [73] true)]) ([(zb.mk [102] [] [73] false false 1 1 ([(zs.mk 2 0 [] []),(zs.mk 47 0 [] [])]) [] [])])),(za.mk [66,98] [65,97] false [] ([(zg.mk [121] [91,65,97] false)]) ([(zb.mk [109,97,105,110] [] [86] true false 0 0 ([(zs.mk 46 0 [] [])]) [] [])]))]) J) y y y<|A ?_;refine ze<|A ?_;apply Xa h y<;>intro s h
 .refine A ?_;exact RT0
 .refine zc ?_;obtain ⟨K,o,L,a,M,b,v,c,h⟩:=bs4 h;obtain ⟨B,d,C,e,h⟩:=bs2 h;refine rg y<|u<|pc (zrb y) y y y<|u<|mv y<|Zi (x:=K) (j:=1) 2 y y y y y gpn (λp=>by replace o:=bT p o;obtain ⟨R,N,o⟩:=bs o;obtain rfl:=sm o;exact g y p<|mv y<|g y p<|pc (D3 f.1 [65,97] 0 N) y y (Z8 (Zh (λ_=>y)) (y))<|zw (eg [34,35] 2 y y y y)) (λhb=>(sm (bF hb o)).symm)<|u<|mv y<|Zi (x:=L) (j:=5) 2 y y y y y gpn (λq=>by replace a:=bT q a;obtain ⟨S,O,a⟩:=bs a;obtain rfl:=sm a;exact g y q<|mv y<|g y q<|pc (D3 f.1 [66,98] 0 O) y y (Z8 (Zh (λ_=>y)) (y))<|zw (eg [38,39] 2 y y y y)) (λhb=>(sm (bF hb a)).symm)<|u<|mv y<|Zi (x:=M) (j:=9) 3 y y y y y gpn (λi=>by replace b:=bT i b;obtain ⟨T,D,b⟩:=bs b;obtain rfl:=sm b;exact g y i<|mv y<|g y i<|pc (D3 I.1 [65,97] 0 D) y y (Z8 (Zh (λ_=>y)) (y))<|g y i<|nt y<|zw (eg [42,43,44] 3 y y y y)) (λhb=>(sm (bF hb b)).symm)<|u<|mv y<|Zi (x:=v) (j:=14) 3 y y y y y gpn (λl=>by replace c:=bT l c;obtain ⟨U,E,c⟩:=bs c;obtain rfl:=sm c;exact g y l<|mv y<|g y l<|pc (D3 f.1 [70,97,99,101] 0 E) y y (Z8 (Zh (λ_=>y)) (y))<|g y l<|nt y<|zw (eg [47,48,49] 3 y y y y)) (λhb=>(sm (bF hb c)).symm)<|u<|mv y<|Zi (x:=B) (j:=19) 3 y y y y y gpn (λm=>by replace d:=bT m d;obtain ⟨P,F,d⟩:=bs d;obtain rfl:=sm d;exact g y m<|mv y<|g y m<|pc (D3 f.1 [65,97] 1 F) y y (Z8 (Zh (λ_=>y)) (y))<|g y m<|nt y<|zw (eg [52,53,54] 3 y y y y)) (λhb=>(sm (bF hb d)).symm)<|u<|mv y<|Zi (x:=C) (j:=24) 3 y y y y y gpn (λn=>by replace e:=bT n e;obtain ⟨Q,G,e⟩:=bs e;obtain rfl:=sm e;exact g y n<|mv y<|g y n<|pc (D3 f.1 [90,122] 0 G) y y (Z8 (Zh (λ_=>y)) (y))<|g y n<|nt y<|zw (eg [57,58,59] 3 y y y y)) (λhb=>(sm (bF hb e)).symm)<|u<|asg y<|zw ?_;exact RT0
instance:PF prog 34 [] (zqs) bA:=⟨λ_=>zuw ⟩
def zqr:Option (Bool):=
  (zqs).bind λa=>some a
theorem zuv{r:Bool}(h:zqr=some r):Xo prog 120 [] (bA r):=by
 refine zi func120 y kz y y<|A ?_;obtain ⟨a,b,h⟩:=bs h;refine A ?_;exact RT0
instance:PF prog 120 [] (zqr) bA:=⟨λ_=>zuv ⟩
def zqu:Option (Bool):=
  (HW ([(za.mk [70,97,99,101] [79,98,106,101,99,116] true [] [] ([(zb.mk [102] [] [73] false true 0 0 [] [] [])])),(za.mk [65,97] [79,98,106,101,99,116] false ([[70,97,99,101]]) ([(zg.mk [120] [73] false),(zg.mk [115] [73] true)]) ([(zb.mk [102] [] [73] false false 1 1 ([(zs.mk 1 5 [] []),(zs.mk 47 0 [] [])]) [] [])])),(za.mk [66,98] [65,97] false [] ([(zg.mk [121] [91,65,97] false)]) ([(zb.mk [109,97,105,110] [] [86] true false 0 0 ([(zs.mk 46 0 [] [])]) [] [])]))]) (X1.mk [66,98] [109,97,105,110])).bind λa=>(HW ([(za.mk [70,97,99,101] [79,98,106,101,99,116] true [] [] ([(zb.mk [102] [] [73] false true 0 0 [] [] [])])),(za.mk [65,97] [79,98,106,101,99,116] false ([[70,97,99,101]]) ([(zg.mk [120] [73] false),(zg.mk [115] [73] true)]) ([(zb.mk [102] [] [73] false false 1 1 ([(zs.mk 1 5 [] []),(zs.mk 47 0 [] [])]) [] [])])),(za.mk [66,98] [65,97] false [] ([(zg.mk [121] [91,65,97] false)]) ([(zb.mk [109,97,105,110] [] [86] true false 0 0 ([(zs.mk 46 0 [] [])]) [] [])]))]) (X1.mk [66,98] [102])).bind λb=>(HW ([(za.mk [70,97,99,101] [79,98,106,101,99,116] true [] [] ([(zb.mk [102] [] [73] false true 0 0 [] [] [])])),(za.mk [65,97] [79,98,106,101,99,116] false ([[70,97,99,101]]) ([(zg.mk [120] [73] false),(zg.mk [115] [73] true)]) []),(za.mk [66,98] [65,97] false [] ([(zg.mk [121] [91,65,97] false)]) ([(zb.mk [109,97,105,110] [] [86] true false 0 0 ([(zs.mk 46 0 [] [])]) [] [])]))]) (X1.mk [66,98] [109,97,105,110])).bind λc=>(zqr).bind λd=>(cond ((((d&&(a.2 == 0))&&(!Option.isNone a.1))&&(b.2 == 4))&&(c.2 == 1)) ((Bd a.1).bind λe=>some (e == 0)) (some false)).bind λf=>some f
theorem zux{r:Bool}(h:zqu=some r):Xo prog 36 [] (bA r):=by
 refine zi func36 y kz y y<|A ?_;obtain ⟨b,i,h⟩:=bs h;refine rg y<|u<|sx [] (OX y)<|zu (env0:=[(9,.msl 0 0 3)]) (st0:=[some (6,[[sA [70,97,99,101],sA [79,98,106,101,99,116],bA true,nS,nS,.msl 1 0 1],[sA [65,97],sA [79,98,106,101,99,116],bA false,.msl 2 0 1,.msl 3 0 2,.msl 4 0 1],[sA [66,98],sA [65,97],bA false,nS,.msl 6 0 1,.msl 7 0 1]]),some (10,[[sA [102],nS,sA [73],bA false,bA true,iA 0,iA 0,nS,nS,nS]]),some (1,[[sA [70,97,99,101]]]),some (3,[[sA [120],sA [73],bA false],[sA [115],sA [73],bA true]]),some (10,[[sA [102],nS,sA [73],bA false,bA false,iA 1,iA 1,.msl 5 0 2,nS,nS]]),some (4,[[iA 1,iA 5,sA [],sA []],[iA 47,iA 0,sA [],sA []]]),some (3,[[sA [121],sA [91,65,97],bA false]]),some (10,[[sA [109,97,105,110],nS,sA [86],bA true,bA false,iA 0,iA 0,.msl 8 0 1,nS,nS]]),some (4,[[iA 46,iA 0,sA [],sA []]])]) (zm [0,1,2,3,4,5,6,7,8])<|u<|bd ti y y y<|zu (env0:=[(9,.isl 6 (map zf ([(za.mk [70,97,99,101] [79,98,106,101,99,116] true [] [] ([(zb.mk [102] [] [73] false true 0 0 [] [] [])])),(za.mk [65,97] [79,98,106,101,99,116] false ([[70,97,99,101]]) ([(zg.mk [120] [73] false),(zg.mk [115] [73] true)]) ([(zb.mk [102] [] [73] false false 1 1 ([(zs.mk 1 5 [] []),(zs.mk 47 0 [] [])]) [] [])])),(za.mk [66,98] [65,97] false [] ([(zg.mk [121] [91,65,97] false)]) ([(zb.mk [109,97,105,110] [] [86] true false 0 0 ([(zs.mk 46 0 [] [])]) [] [])]))]))),(10,.agg [sA [66,98],sA [109,97,105,110]])]) (st0:=[]) (zm [])<|u<|pc (Ew ([(za.mk [70,97,99,101] [79,98,106,101,99,116] true [] [] ([(zb.mk [102] [] [73] false true 0 0 [] [] [])])),(za.mk [65,97] [79,98,106,101,99,116] false ([[70,97,99,101]]) ([(zg.mk [120] [73] false),(zg.mk [115] [73] true)]) ([(zb.mk [102] [] [73] false false 1 1 ([(zs.mk 1 5 [] []),(zs.mk 47 0 [] [])]) [] [])])),(za.mk [66,98] [65,97] false [] ([(zg.mk [121] [91,65,97] false)]) ([(zb.mk [109,97,105,110] [] [86] true false 0 0 ([(zs.mk 46 0 [] [])]) [] [])]))]) (X1.mk [66,98] [109,97,105,110]) i) y y y<|A ?_;obtain ⟨e,l,h⟩:=bs h;refine rg y<|u<|sx [] (OX y)<|zu (env0:=[(1,Xy 2 Zx b.1),(2,iA b.2),(15,.msl 0 0 3)]) (st0:=[some (6,[[sA [70,97,99,101],sA [79,98,106,101,99,116],bA true,nS,nS,.msl 1 0 1],[sA [65,97],sA [79,98,106,101,99,116],bA false,.msl 2 0 1,.msl 3 0 2,.msl 4 0 1],[sA [66,98],sA [65,97],bA false,nS,.msl 6 0 1,.msl 7 0 1]]),some (10,[[sA [102],nS,sA [73],bA false,bA true,iA 0,iA 0,nS,nS,nS]]),some (1,[[sA [70,97,99,101]]]),some (3,[[sA [120],sA [73],bA false],[sA [115],sA [73],bA true]]),some (10,[[sA [102],nS,sA [73],bA false,bA false,iA 1,iA 1,.msl 5 0 2,nS,nS]]),some (4,[[iA 1,iA 5,sA [],sA []],[iA 47,iA 0,sA [],sA []]]),some (3,[[sA [121],sA [91,65,97],bA false]]),some (10,[[sA [109,97,105,110],nS,sA [86],bA true,bA false,iA 0,iA 0,.msl 8 0 1,nS,nS]]),some (4,[[iA 46,iA 0,sA [],sA []]])]) (zm [0,1,2,3,4,5,6,7,8])<|u<|bd ti y y y<|zu (env0:=[(1,Xy 2 Zx b.1),(2,iA b.2),(15,.isl 6 (map zf ([(za.mk [70,97,99,101] [79,98,106,101,99,116] true [] [] ([(zb.mk [102] [] [73] false true 0 0 [] [] [])])),(za.mk [65,97] [79,98,106,101,99,116] false ([[70,97,99,101]]) ([(zg.mk [120] [73] false),(zg.mk [115] [73] true)]) ([(zb.mk [102] [] [73] false false 1 1 ([(zs.mk 1 5 [] []),(zs.mk 47 0 [] [])]) [] [])])),(za.mk [66,98] [65,97] false [] ([(zg.mk [121] [91,65,97] false)]) ([(zb.mk [109,97,105,110] [] [86] true false 0 0 ([(zs.mk 46 0 [] [])]) [] [])]))]))),(16,.agg [sA [66,98],sA [102]])]) (st0:=[]) (zm [])<|u<|pc (Ew ([(za.mk [70,97,99,101] [79,98,106,101,99,116] true [] [] ([(zb.mk [102] [] [73] false true 0 0 [] [] [])])),(za.mk [65,97] [79,98,106,101,99,116] false ([[70,97,99,101]]) ([(zg.mk [120] [73] false),(zg.mk [115] [73] true)]) ([(zb.mk [102] [] [73] false false 1 1 ([(zs.mk 1 5 [] []),(zs.mk 47 0 [] [])]) [] [])])),(za.mk [66,98] [65,97] false [] ([(zg.mk [121] [91,65,97] false)]) ([(zb.mk [109,97,105,110] [] [86] true false 0 0 ([(zs.mk 46 0 [] [])]) [] [])]))]) (X1.mk [66,98] [102]) l) y y y<|A ?_;refine rg y<|u<|sx [] (OX y)<|zu (env0:=[(1,Xy 2 Zx b.1),(2,iA b.2),(4,iA e.2),(20,.msl 0 0 3)]) (st0:=[some (6,[[sA [70,97,99,101],sA [79,98,106,101,99,116],bA true,nS,nS,.msl 1 0 1],[sA [65,97],sA [79,98,106,101,99,116],bA false,.msl 2 0 1,.msl 3 0 2,.msl 4 0 1],[sA [66,98],sA [65,97],bA false,nS,.msl 6 0 1,.msl 7 0 1]]),some (10,[[sA [102],nS,sA [73],bA false,bA true,iA 0,iA 0,nS,nS,nS]]),some (1,[[sA [70,97,99,101]]]),some (3,[[sA [120],sA [73],bA false],[sA [115],sA [73],bA true]]),some (10,[[sA [102],nS,sA [73],bA false,bA false,iA 1,iA 1,.msl 5 0 2,nS,nS]]),some (4,[[iA 1,iA 5,sA [],sA []],[iA 47,iA 0,sA [],sA []]]),some (3,[[sA [121],sA [91,65,97],bA false]]),some (10,[[sA [109,97,105,110],nS,sA [86],bA true,bA false,iA 0,iA 0,.msl 8 0 1,nS,nS]]),some (4,[[iA 46,iA 0,sA [],sA []]])]) (zm [0,1,2,3,4,5,6,7,8])<|A ?_;refine rg y<|u<|mv y<|u<|ixX ti y ti y y y<|A ?_;obtain ⟨o,m,h⟩:=bs h;refine A ?_;refine zu (env0:=[(1,Xy 2 Zx b.1),(2,iA b.2),(4,iA e.2),(25,.isl 6 (map zf ([(za.mk [70,97,99,101] [79,98,106,101,99,116] true [] [] ([(zb.mk [102] [] [73] false true 0 0 [] [] [])])),(za.mk [65,97] [79,98,106,101,99,116] false ([[70,97,99,101]]) ([(zg.mk [120] [73] false),(zg.mk [115] [73] true)]) []),(za.mk [66,98] [65,97] false [] ([(zg.mk [121] [91,65,97] false)]) ([(zb.mk [109,97,105,110] [] [86] true false 0 0 ([(zs.mk 46 0 [] [])]) [] [])]))]))),(26,.agg [sA [66,98],sA [109,97,105,110]])]) (st0:=[]) (zm [])<|u<|pc (Ew ([(za.mk [70,97,99,101] [79,98,106,101,99,116] true [] [] ([(zb.mk [102] [] [73] false true 0 0 [] [] [])])),(za.mk [65,97] [79,98,106,101,99,116] false ([[70,97,99,101]]) ([(zg.mk [120] [73] false),(zg.mk [115] [73] true)]) []),(za.mk [66,98] [65,97] false [] ([(zg.mk [121] [91,65,97] false)]) ([(zb.mk [109,97,105,110] [] [86] true false 0 0 ([(zs.mk 46 0 [] [])]) [] [])]))]) (X1.mk [66,98] [109,97,105,110]) m) y y y<|A ?_;obtain ⟨p,q,n,a,h⟩:=bs2 h;refine A ?_;refine Zi (j:=5) 2 y y y y y gpn (λd=>g y d<|mv y<|g y d<|zKi ti y y y<|zw (egA [36,37] 2 d y y y y)) zJu<|A ?_;refine Zi (x:=n) (j:=17) 3 y y y y y gpn (λc=>by replace a:=bT c a;obtain ⟨s,f,a⟩:=bs a;obtain rfl:=sm a;exact g y c<|mv y<|g y c<|pc (zkP b.1 f) y y (Z8 (Zh (λ_=>y)) (y))<|g y c<|eql ti y y<|zw (eg [48,49,50] 3 y y y y)) (λhb=>(sm (bF hb a)).symm)<|A ?_;exact RT0
instance:PF prog 36 [] (zqu) bA:=⟨λ_=>zux ⟩
def rK(h0:List za)(c:T0)(m:zb)(x0:AV)(x1:AV)(x2:AV):List AV:=[.ipt 1 [[cL h0]] 0 0,sA c,sA m.Name,tL m.Params,sA m.Ret,bA m.Static,bA m.Abstract,iA m.Locals,iA m.Stack,.isl 4 (map zt m.Code),.isl 3 (map zO m.Maps),.isl 4 (map XD m.Traps),x0,x1,x2]
abbrev sR(h0:List za)(c:T0)(m:zb)(x y:T1)(b:Bool)(t:St):St:=some (15,[rK h0 c m (.isl 1 (x.map Xf)) (.isl 1 (y.map Xf)) (bA b)])::t
abbrev tR(h0:List za)(c:T0)(m:zb)(x y:T1)(b:Bool)(t:List SB):List SB:=.one 15 (rK h0 c m (.isl 1 (x.map Xf)) (.isl 1 (y.map Xf)) (bA b))::t
structure GG where
  locals:T1
  stack:T1
def zBt(x:GG):List AV:=[tL x.locals,tL x.stack]
def zxJ(a:T0)(b:Int):Option (T0×Int):=
  some (a,b)
def OO(a:T0)(b:Int):zL (T0×Int) (T0×Int) (T0×Int):=
  (cond (decide (0<(length a:Int))) ((idx a 0).bind λe=>some ((e.toNat:Int) == 91)) (some false)).bind λc=>cond c ((XK a 1 (length a:Int)).bind λd=>some (.inl (d,(i64.wrap (b+1))))) (some (.inr (.inl (a,b))))
def WV(a:T0):Option (T0×Int):=
  (zk (λz=>OO z.1 z.2) (a,0)).bind λo=>zB o (λb=>zxJ b.1 b.2) some
instance (d:T0):PF prog 289 [sA d] (WV d) (λr=>(.tup [sA r.1,iA r.2])):=⟨λr h=>by
 refine zi func289 y kz y y<|A ?_;refine A ?_;obtain ⟨o,ho,h⟩:=bs h;refine lpA ho (λz=>[(0,sA z.1),(4,iA z.2)]) (λz=>[]) (λb=>[(0,sA b.1),(4,iA b.2)]) (λb=>[]) (pG f289 (λr=>.tup [sA r.1,iA r.2])) (Xb []) ?_ ?_
 .rintro ⟨f,n⟩ r h;refine ze ?_;obtain ⟨i,p,h⟩:=bs h;refine A ?_;apply Xa h y<;>intro e h
  .refine zc<|zh ?_;obtain ⟨j,c,h⟩:=bs h;refine rg y<|u<|mv y<|u<|slS (a:=1) (b:=(length f:Int)) ti y y (KK y c) y c<|A ?_;refine A ?_;cases h;exact ⟨_,y,zm []⟩
  .refine zp ?_;cases h;exact ⟨y,_,y,zm []⟩
 .rintro ⟨l,m⟩ rfl;refine A ?_
  exact RT0⟩
def zP(c:List za)(a:T0):Option (Bool):=
  (Ga a).bind λd=>cond (!d) (some false) ((WV a).bind λb=>(cond (b.1 == [73]) (some true) ((zS c b.1).bind λe=>some (decide (0≤e)))).bind λf=>some f)
instance (a:List za)(b:T0):PF prog 205 [.ipt 1 [[cL a]] 0 0,sA b] (zP a b) bA:=⟨λr h=>by
 refine zi func205 y kz y y<|A ?_;refine ze ?_;obtain ⟨d,e,h⟩:=bs h;refine A ?_;apply Xa h y<;>intro c h
 .refine A ?_;exact RT0
 .refine zc ?_;obtain ⟨f,i,h⟩:=bs h;refine A ?_;obtain ⟨j,l,h⟩:=bs h;refine A ?_
  exact RT0⟩
def zm3(a:List za)(b:T0)(c:zb)(d:Bool)(e:Bool):Unit:=
  ()
theorem EY(a:List za)(b:T0)(c:zb)(d:Bool)(e:Bool){r:Unit}(h:zm3 a b c d e=r):SC prog 204 [.mpt 0 0 0,bA e] [.one 15 (rK a b c (nS) (nS) (bA d))] (.tup []) [.one 15 (rK a b c (nS) (nS) (bA (d||(!e))))]:=by
 refine ⟨⟨t,t⟩,zR func204 y kz y ?_⟩;unfold zm3 at h;refine A ?_;obtain rfl:=h;exact ⟨_,y,Xc [0]⟩
def zo4(a:T1):Option (T1):=
  some a
def zih(c:zb)(a:T1):zL (T1) (T1) (T1):=
  cond (decide (((length a):Int)<c.Locals)) ((Xx 16 a ([[84]])).bind λb=>some (.inl b)) (some (.inr (.inl a)))
def zer(a:zb)(c:T1):Option (T1):=
  (Xx 16 c a.Params).bind λd=>(zk (λz=>zih a z) d).bind λo=>zB o (λb=>zo4 b) some
def zgj(e:List za)(c:T0)(a:zb)(b:T1)(f:T1)(i:Bool):Option (T1):=
  cond (!a.Static) ((Xx 16 b [c]).bind λd=>zer a d) (zer a b)
theorem zkF(e:List za)(c:T0)(d:zb)(j:T1)(a:T1)(i:Bool){r:T1}(h:zgj e c d j a i=some r):SC prog 206 [.mpt 0 0 0] [.one 15 (rK e c d (.msl 1 0 (length j)) (.msl 2 0 (length a)) (bA i)),.many 1 (map Xf j),.many 1 (map Xf a)] (.tup []) [.one 15 (rK e c d (.msl 3 0 (length r)) (.msl 2 0 (length a)) (bA i)),.no,.many 1 (map Xf a),.many 1 (map Xf r)]:=by
 refine ⟨⟨t,t,Xw (sz:=1) (λ_=>y),Xw (sz:=1) (λ_=>y),t⟩,zR func206 y kz y ?_⟩;refine Xz (X:=T1) (λz=>[(0,.mpt 0 0 0)]) (λz=>[some (15,[(rK e c d (.msl 3 0 (length z)) (.msl 2 0 (length a)) (bA i))]),none,sT a,sT z]) (λz=>zer d z=some r) ?_ ?_
 .refine A ?_;apply Xa h y<;>intro p h
  .obtain ⟨l,s,h⟩:=bs h;refine XC [(0,_)] [some (15,[(rK e c d (.msl 3 0 (length l)) (.msl 2 0 (length a)) (bA i))]),none,sT a,sT l] [10,11,15] [0,1,2,3,4,5,6,7,8,9] [(17,_),(16,_),(15,_),(14,_),(13,_),(12,_),(11,_),(10,_),(9,_),(8,_)] 3 (Xi (z:=by exact ⟨(λ_ _=>⟨_,y,y,bl 3 ti y ti y (by decide) (by decide) y y y<|⟨(.msl 3 0 1),[],[(18,_)],y,y,y,y,Xi (z:=by exact ⟨nv,(λ_ _=>⟨_,y,y,apM 4 ti y ti y y (by decide) ti y y y y (roX (f:=Xf) (z:=[c]) y y) (λ_=>y) y s<|⟨(.msl 4 0 (length l)),[12,13,14],[(22,_),(21,_),(20,_),(19,_)],y,y,y,y,Xi (z:=by exact ⟨nv,nv,(λ_ _=>⟨_,y,y,sto ti y y y<|⟨.any,[],[],y,y,y,t,Xl (z:=Xb [0,.dead,2,4])⟩⟩),t⟩)⟩⟩),nw,t⟩)⟩⟩),nw,nw,t⟩)) ?_;exact ⟨l,h,zm [0,.dead,2,3]⟩
  .refine zc ?_;exact ⟨j,h,zm [0,.dead,2,1]⟩
 .rintro D h;obtain ⟨n,v,h⟩:=bs h;refine rdA [(0,_)] [some (15,[(rK e c d (.msl 3 0 (length n)) (.msl 2 0 (length a)) (bA i))]),none,sT a,sT n] [11,15] [0,1,2,3,4,5,6,7,8,9,10] [(33,_),(32,_),(31,_),(30,_),(29,_),(28,_),(27,_),(26,_),(25,_),(24,_),(23,_)] 2 (Xi (z:=by exact ⟨(λ_ _=>⟨_,y,y,apM 4 ti y ti y y (by decide) ti y y y y roI (λ_=>y) y v<|⟨(.msl 4 0 (length n)),[12,13,14],[(37,_),(36,_),(35,_),(34,_)],y,y,y,y,Xi (z:=by exact ⟨nv,(λ_ _=>⟨_,y,y,sto ti y y y<|⟨.any,[],[],y,y,y,t,Xl (z:=Xb [0,.dead,2,4])⟩⟩),t⟩)⟩⟩),nw,t⟩)) ?_;obtain ⟨o,ho,h⟩:=bs h;refine lpB ho (λz=>[(0,.mpt 0 0 0)]) (λz=>[some (15,[(rK e c d (.msl 3 0 (length z)) (.msl 2 0 (length a)) (bA i))]),none,sT a,sT z]) (λb=>[]) (λb=>[some (15,[(rK e c d (.msl 3 0 (length b)) (.msl 2 0 (length a)) (bA i))]),none,sT a,sT b]) (λr env st=>U0 prog f206 3 (.tup []) [some (15,[(rK e c d (.msl 3 0 (length r)) (.msl 2 0 (length a)) (bA i))]),none,sT a,sT r] env st) (Xb [0,.dead,2,3]) ?_ ?_
  .rintro m r h;refine ze ?_;refine rdA [(0,_),(49,_)] [some (15,[(rK e c d (.msl 3 0 (length m)) (.msl 2 0 (length a)) (bA i))]),none,sT a,sT m] [] [0,1,2,3,4,5,6,7,8,9,10,11] [(49,_),(48,_),(47,_),(46,_),(45,_),(44,_),(43,_),(42,_),(41,_),(40,_),(39,_),(38,_)] 0 (Xl (z:=Xb [0,.dead,2,3])) ?_;apply Xa h y<;>intro q h
   .refine zc<|zh ?_;obtain ⟨B,x,h⟩:=bs h;refine A ?_;refine u<|apM 5 ti y ti y y (by decide) ti y y y y (roX (f:=Xf) (z:=[[84]]) y y) (λ_=>y) y x<|A ?_;cases h;exact ⟨_,y,zm [0,.dead,2,5]⟩
   .refine zp ?_;cases h;exact ⟨y,_,y,zm [0,.dead,2,3]⟩
  .rintro C rfl;refine zl ?_;cases h;exact ⟨_,y,Xc [0,.dead,2,3]⟩
def zo6:Option (zV×Bool):=
  some ((zV.mk 0 [] []),false)
def Iu(b:zb)(e:Int)(a:Int):zL (Int) (Unit) (zV×Bool):=
  cond (decide (a<(length b.Maps:Int))) ((idx b.Maps a).bind λc=>cond (c.At == e) ((idx b.Maps a).bind λd=>some (.inr (.inr (d,true)))) (some (.inl (i64.wrap (a+1))))) (some (.inr (.inl ())))
def Bl(d:List za)(e:T0)(a:zb)(f:T1)(i:T1)(j:Bool)(c:Int):Option (zV×Bool):=
  (zk (λz=>Iu a c z) 0).bind λo=>zB o (λb=>zo6) some
theorem zgk(a:List za)(c:T0)(d:zb)(e:T1)(f:T1)(i:Bool)(j:Int){r:zV×Bool}(h:Bl a c d e f i j=some r):SC prog 207 [.mpt 0 0 0,iA j] (tR a c d e f i []) (.tup [.agg (zO r.1),bA r.2]) (tR a c d e f i []):=by
 refine ⟨⟨t,t⟩,zR func207 y kz y ?_⟩;refine A ?_;refine ze<|A ?_;obtain ⟨o,ho,h⟩:=bs h;refine lpB ho (λz=>[(0,.mpt 0 0 0),(1,iA j),(4,.mpt 1 0 0),(6,iA z)]) (λz=>(sR a c d e f i [some (3,[[iA 0,nS,nS]])])) (λb=>[(4,.mpt 1 0 0)]) (λb=>(sR a c d e f i [some (3,[[iA 0,nS,nS]])])) (λr env st=>U0 prog f207 1 (.tup [.agg (zO r.1),bA r.2]) (sR a c d e f i []) env st) (Xb [0,1]) ?_ ?_
 .rintro n r h;refine ze<|A ?_;apply Xa h y<;>intro l h
  .refine zc<|ze<|zh ?_;obtain ⟨p,s,h⟩:=bs h;refine A ?_;apply Xa h y<;>intro m h
   .obtain ⟨q,v,h⟩:=bs h;refine A ?_;refine zA ?_;cases h;exact ⟨_,y,_,y,Xc [0]⟩
   .refine zc<|A ?_;cases h;exact ⟨_,y,zm [0,1]⟩
  .refine zp ?_;cases h;exact ⟨y,_,y,zm [0,1]⟩
 .rintro ⟨⟩ rfl;refine zl<|A ?_;exact RT1
def zoh(a:T1):Option (T1):=
  some a
def BE(c:List za)(b:T1)(a:Int):zL (T1×Int) (T1) (T1):=
  cond (decide (0≤a)) ((idx c a).bind λd=>(Xx 16 b [d.Name]).bind λe=>(idx c a).bind λf=>(zS c f.Super).bind λi=>some (.inl (e,i))) (some (.inr (.inl b)))
def KU(a:List za)(c:T0):Option (T1):=
  (zS a c).bind λd=>(zk (λz=>BE a z.1 z.2) ([],d)).bind λo=>zB o (λb=>zoh b) some
theorem GL(a:List za)(c:T0){r:T1}(h:KU a c=some r):SC prog 142 [.ipt 1 [[cL a]] 0 0,sA c] [] (.msl 0 0 (length r)) [.many 1 (map Xf r)]:=by
 refine ⟨⟨Xw (sz:=1) (λ_=>y),t⟩,zR func142 y kz y ?_⟩;refine A ?_;refine A ?_;refine ze ?_;obtain ⟨x,B,h⟩:=bs h;refine A ?_;obtain ⟨o,ho,h⟩:=bs h;refine lpB ho (λz=>[(0,.ipt 1 [[cL a]] 0 0),(5,.msl 0 0 (length z.1)),(6,iA z.2)]) (λz=>[sT z.1]) (λb=>[(5,.msl 0 0 (length b))]) (λb=>[sT b]) (pF f142 (λr=>.msl 0 0 (length r)) λr=>[sT r]) ⟨[.fresh 1],ce y y<|cv y (.nilown y)<|ce y y<|cn,y,⟨w,t⟩,y,k⟩ ?_ ?_
 .rintro ⟨j,l⟩ r h;refine ze<|A ?_;apply Xa h y<;>intro d h
  .refine zc<|ze<|zh ?_;obtain ⟨e,C,m,i,h⟩:=bs2 h;refine A ?_;refine u<|apM 2 ti y ti y y (by decide) ti y y y y (roX (f:=Xf) (z:=[e.Name]) y y) (λ_=>y) y i<|A ?_;obtain ⟨n,p,q,s,h⟩:=bs2 h;refine A ?_;cases h;exact ⟨_,y,zm [2]⟩
  .refine zp ?_;cases h;exact ⟨y,_,y,zm [0]⟩
 .rintro v rfl;refine zl<|A ?_;exact RT1
def zyZ:Option (Bool):=
  some false
def OJ(b:T1)(c:T0)(a:Int):zL (Int) (Unit) (Bool):=
  cond (decide (a<(length b:Int))) ((idx b a).bind λd=>cond (d == c) (some (.inr (.inr true))) (some (.inl (i64.wrap (a+1))))) (some (.inr (.inl ())))
def DF(a:T1)(c:T0):Option (Bool):=
  (zk (λz=>OJ a c z) 0).bind λo=>zB o (λb=>zyZ) some
theorem DL(a:T1)(c:T0){r:Bool}(h:DF a c=some r):Xo prog 344 [tL a,sA c] (bA r):=by
 refine zi func344 y kz y y<|A ?_;refine ze<|A ?_;obtain ⟨o,ho,h⟩:=bs h;refine lpB ho (λz=>[(0,tL a),(1,sA c),(5,iA z)]) (λz=>[]) (λb=>[]) (λb=>[]) (pG f344 bA) (Xb []) ?_ ?_
 .rintro f r h;refine ze<|A ?_;apply Xa h y<;>intro d h
  .refine zc<|ze<|zh ?_;obtain ⟨i,j,h⟩:=bs h;refine A ?_;apply Xa h y<;>intro e h
   .refine A ?_;refine zA ?_;cases h;exact ⟨_,y,_,y,Xc []⟩
   .refine zc<|A ?_;cases h;exact ⟨_,y,zm []⟩
  .refine zp ?_;cases h;exact ⟨y,_,y,zm []⟩
 .rintro ⟨⟩ rfl;refine zl<|A ?_;exact RT0
instance (a:T1)(b:T0):PF prog 344 [tL a,sA b] (DF a b) bA:=⟨λ_=>DL a b⟩
def zp8(a:T1)(j:T0)(b:Int):Option (T1):=
  (XK a 0 b).bind λc=>(Xx 16 ([]:T1) c).bind λd=>(XK a b (length a:Int)).bind λe=>(Xx 16 d [j]).bind λf=>(Xx 16 f e).bind λi=>some i
def DR(b:T1)(c:T0)(a:Int):zL (Int) (Int) (T1):=
  (cond (decide (a<(length b:Int))) ((idx b a).bind λd=>some (Op.bytesLess d c)) (some false)).bind λe=>cond e (some (.inl (i64.wrap (a+1)))) (some (.inr (.inl a)))
def znK(a:T1)(c:T0):Option (T1):=
  (zk (λz=>DR a c z) 0).bind λo=>zB o (λb=>zp8 a c b) some
theorem zuO(d:T1)(e:T0){r:T1}(h:znK d e=some r):SC prog 351 [tL d,sA e] [] (.msl 0 0 (length r)) [.many 1 (map Xf r)]:=by
 refine ⟨⟨Xw (sz:=1) (λ_=>y),t⟩,zR func351 y kz y ?_⟩;refine A ?_;refine A ?_;obtain ⟨o,ho,h⟩:=bs h;refine lpA ho (λz=>[(0,tL d),(1,sA e),(5,iA z)]) (λz=>[]) (λb=>[(0,tL d),(1,sA e),(5,iA b)]) (λb=>[]) (pF f351 (λr=>.msl 0 0 (length r)) λr=>[sT r]) (Xb []) ?_ ?_
 .rintro C r h;refine ze ?_;obtain ⟨D,E,h⟩:=bs h;refine A ?_;apply Xa h y<;>intro l h
  .refine zc<|zh<|A ?_;cases h;exact ⟨_,y,zm []⟩
  .refine zp ?_;cases h;exact ⟨y,_,y,zm []⟩
 .rintro j rfl;obtain ⟨v,m,x,n,h⟩:=bs2 h;refine A ?_;refine u<|slI (a:=0) (b:=j) ti y ti y y y (HF y m) m<|u<|apN (f:=Xf) 0 ti y ti y y (by decide) ti y y y roI (λ_=>y) y n<|A ?_;obtain ⟨B,c,p,q,i,s,h⟩:=bs3 h;refine rdA [(4,.msl 0 0 (length i))] [sT i] [2,3,7] [0,1,4,5,6] [(31,_),(30,_),(29,_),(26,_),(25,_)] 3 (Xi ⟨peC,peC,peC,peC,(by exact pb y (slI (a:=j) (b:=(length d:Int)) ti y ti y y (KK y c) y c<|w)),t⟩ (by exact ⟨(λ_ _=>⟨_,y,y,bl 1 ti y ti y (by decide) (by decide) y y y<|⟨(.msl 1 0 1),[],[(27,_)],y,y,y,y,Xi ⟨peC,peC,peC,peC,(by exact pb y (slI (a:=j) (b:=(length d:Int)) ti y ti y y (KK y c) y c<|w)),t⟩ (by exact ⟨nv,(λ_ _=>⟨_,y,y,apM 2 ti y ti y y (by decide) ti y y y y (roX (f:=Xf) (z:=[e]) y y) (λ_=>y) y q<|⟨(.msl 2 0 (length p)),[],[(28,_)],y,y,y,y,Xi ⟨peC,peC,peC,peC,(by exact pb y (slI (a:=j) (b:=(length d:Int)) ti y ti y y (KK y c) y c<|w)),t⟩ (by exact ⟨nv,nv,(λ_ _=>⟨_,y,y,apM 3 ti y ti y y (by decide) ti y y y y roI (λ_=>y) y s<|⟨(.msl 3 0 (length i)),[8],[(4,_),(32,_)],y,y,y,y,Xl (z:=Xb [3])⟩⟩),t⟩)⟩⟩),nw,t⟩)⟩⟩),nw,nw,t⟩)) ?_;exact RT1
def zqD(a:T1):Option (T1):=
  some a
def zhd(a:Int)(b:T1):zL (T1×Int) (T1) (T1):=
  some (.inl (b,(i64.wrap (a+1))))
def H7(i:List za)(c:List Bool)(b:T1)(a:Int):zL (T1×Int) (T1) (T1):=
  cond (decide (a<(length i:Int))) ((idx c a).bind λd=>cond d ((idx i a).bind λe=>(znK b e.Name).bind λf=>zhd a f) (zhd a b)) (some (.inr (.inl b)))
def zlG(c:List za)(a:List Bool):Option (T1):=
  (zk (λz=>H7 c a z.1 z.2) ([],0)).bind λo=>zB o (λb=>zqD b) some
def zqC(a:List Bool)(b:Bool):zL ((List Bool)×Bool) ((List Bool)) (T1):=
  some (.inl (a,b))
def zhc(a:Int)(b:List Bool)(c:Bool):zL ((List Bool)×Bool×Int) ((List Bool)×Bool) (T1):=
  some (.inl (b,c,(i64.wrap (a+1))))
def zhe(a:Int)(b:List Bool)(c:Bool):zL ((List Bool)×Bool×Int) ((List Bool)×Bool) (T1):=
  zhc a b c
def zhb(a:Int)(b:List Bool)(c:Bool):zL ((List Bool)×Bool×Int) ((List Bool)×Bool) (T1):=
  some (.inl (b,c,(i64.wrap (a+1))))
def Ic(j:List za)(d:za)(a:List Bool)(e:Bool)(b:Int):zL ((List Bool)×Bool×Int) ((List Bool)×Bool) (T1):=
  cond (decide (b<(length d.Impl:Int))) ((idx d.Impl b).bind λf=>(zS j f).bind λc=>(idx a c).bind λi=>cond (!i) ((idx a c).bind λl=>zhb b (List.set a (Int.toNat c) true) true) (zhb b a e)) (some (.inr (.inl (a,e))))
def Ib(f:List za)(m:T1)(c:List Bool)(d:Bool)(a:Int):zL ((List Bool)×Bool×Int) ((List Bool)×Bool) (T1):=
  cond (decide (a<(length f:Int))) ((idx f a).bind λe=>(idx c a).bind λi=>(cond (!i) ((DF m e.Name).bind λj=>some (!j)) (some false)).bind λl=>cond l (zhc a c d) ((zk (λz=>Ic f e z.1 z.2.1 z.2.2) (c,d,0)).bind λo=>zB o (λb=>zhe a b.1 b.2) (λr=>some (.inr (.inr r))))) (some (.inr (.inl (c,d))))
def zhf(d:List za)(e:T1)(a:List Bool)(c:Bool):zL ((List Bool)×Bool) ((List Bool)) (T1):=
  cond c ((zk (λz=>Ib d e z.1 z.2.1 z.2.2) (a,false,0)).bind λo=>zB o (λb=>zqC b.1 b.2) (λr=>some (.inr (.inr r)))) (some (.inr (.inl a)))
def zgf(a:List za)(c:T0)(d:List Bool):Option (T1):=
  (KU a c).bind λe=>(zk (λz=>zhf a e z.1 z.2) (d,true)).bind λo=>zB o (λb=>zlG a b) some
def Em(a:List za)(c:T0):Option (T1):=
  (mkP 1 (length a:Int)).bind λd=>(zS a c).bind λb=>cond (decide (b<0)) (some []) ((idx a b).bind λe=>cond e.Interface ((idx (List.replicate d false) b).bind λf=>zgf a c (List.set (List.replicate d false) (Int.toNat b) true)) (zgf a c (List.replicate d false)))
theorem zjE(a:List za)(s:T0){r:T1}(h:Em a s=some r):SC prog 313 [.ipt 1 [[cL a]] 0 0,sA s] [] (.msl 0 0 (length r)) [.many 1 (map Xf r)]:=by
 refine ⟨⟨Xw (sz:=1) (λ_=>y),t⟩,zR func313 y kz y ?_⟩;refine A ?_;obtain ⟨R,Z,h⟩:=bs h;refine A ?_;refine u<|mks (f:=rB) (z:=false) 0 ti y ti y y y y y y Z<|A ?_;obtain ⟨v4,q2,h⟩:=bs h;refine A ?_;refine ze<|A ?_;apply Xa h y<;>intro S h
 .refine A ?_;refine zA ?_;cases h;exact ⟨_,y,[.fresh 1],.nilown y,y,⟨w,t⟩,y,k⟩
 .refine zc ?_;refine Xz (X:=(List Bool)) (λz=>[(0,.ipt 1 [[cL a]] 0 0),(1,sA s),(5,.msl 0 0 (length z))]) (λz=>[some (1,map rB z)]) (λz=>zgf a s z=some r) ?_ ?_
  .obtain ⟨v5,q4,h⟩:=bs h;refine A ?_;apply Xa h y<;>intro T h
   .obtain ⟨v6,q6,h⟩:=bs h;refine A ?_;exact u<|BX (c':=true) ti y y (zQ q6).2.2 y y y y y<|zw (⟨(List.set (List.replicate R false) (Int.toNat v4) true),h,[0],ce y y<|ce y y<|cv y (BV (by simp) y)<|cn,y,⟨⟨_,y,XY (λ_=>y)⟩,t⟩,y,k⟩)
   .refine zc ?_;exact ⟨(List.replicate R false),h,zm [0]⟩
  .rintro U h;obtain ⟨c,q7,h⟩:=bs h;refine A ?_;refine u<|sx [] (GL a s q7)<|zu (env0:=[(0,.ipt 1 [[cL a]] 0 0),(5,.msl 0 0 (length U)),(39,.msl 1 0 (length c))]) (st0:=[some (1,map rB U),sT c]) (zm [0,1])<|A ?_;refine ze<|A ?_;obtain ⟨o,ho,h⟩:=bs h;refine lpB ho (λz=>[(0,.ipt 1 [[cL a]] 0 0),(5,.msl 0 0 (length z.1)),(7,.msl 1 0 (length c)),(8,bA z.2)]) (λz=>[some (1,map rB z.1),sT c]) (λb=>[(0,.ipt 1 [[cL a]] 0 0),(5,.msl 0 0 (length b))]) (λb=>[some (1,map rB b)]) (pF f313 (λr=>.msl 0 0 (length r)) λr=>[sT r]) (Xb [0,1]) ?_ ?_
   .rintro ⟨v71,v72⟩ r h;refine ze<|A ?_;apply Xa h y<;>intro F h
    .refine zc<|zh<|A ?_;refine A ?_;obtain ⟨o,ho,h⟩:=bs h;refine lpS ho (λz=>[(0,.ipt 1 [[cL a]] 0 0),(5,.msl 0 0 (length z.1)),(7,.msl 1 0 (length c)),(8,bA z.2.1),(9,iA z.2.2)]) (λz=>[some (1,map rB z.1),sT c]) (λb=>[(0,.ipt 1 [[cL a]] 0 0),(5,.msl 0 0 (length b.1)),(7,.msl 1 0 (length c)),(8,bA b.2)]) (λb=>[some (1,map rB b.1),sT c]) (pF f313 (λr=>.msl 0 0 (length r)) λr=>[sT r]) (Xb [0,1]) ?_ ?_ ?_
     .rintro ⟨G,H,e⟩ r h;refine ze<|A ?_;apply Xa h y<;>intro I h
      .refine zc ?_;refine Xz (X:=(List Bool)×Bool) (λz=>[(0,.ipt 1 [[cL a]] 0 0),(5,.msl 0 0 (length z.1)),(7,.msl 1 0 (length c)),(8,bA z.2),(9,iA e)]) (λz=>[some (1,map rB z.1),sT c]) (λz=>zhc e z.1 z.2=some r) ?_ ?_
       .refine zh ?_;obtain ⟨n,q67,h⟩:=bs h;refine A ?_;refine ze ?_;obtain ⟨v106,q68,J,l,h⟩:=bs2 h;refine A ?_;refine Zi (x:=J) (j:=5) 5 y y y y y gpn (λi=>by replace l:=bT i l;obtain ⟨v107,V,l⟩:=bs l;obtain rfl:=sm l;exact g y i<|mv y<|g y i<|fa ti y y y<|g y i<|ld ti y y<|g y i<|pcs (DL c n.Name V) y y (.cons (XM y (λ_=>y)) (.cons (si y) .nil)) XA<|g y i<|nt y<|zw (eg [63,64,65,66,67] 5 y y y y)) (λhb=>(sm (bF hb l)).symm)<|zw ?_;apply Xa h y<;>intro K h
        .refine zp ?_;exact ⟨⟨G,H⟩,h,zm [0,1]⟩
        .refine zc<|A ?_;obtain ⟨o,ho,h⟩:=bs h;refine lpS ho (λz=>[(0,.ipt 1 [[cL a]] 0 0),(5,.msl 0 0 (length z.1)),(7,.msl 1 0 (length c)),(8,bA z.2.1),(9,iA e),(10,.mpt 2 0 0),(11,iA z.2.2)]) (λz=>[some (1,map rB z.1),sT c,some (6,[(zf n)])]) (λb=>[(0,.ipt 1 [[cL a]] 0 0),(5,.msl 0 0 (length b.1)),(7,.msl 1 0 (length c)),(8,bA b.2),(9,iA e)]) (λb=>[some (1,map rB b.1),sT c]) (pF f313 (λr=>.msl 0 0 (length r)) λr=>[sT r]) (Xb [0,1,2]) ?_ ?_ ?_
         .rintro ⟨v,L,B⟩ r h;refine ze<|A ?_;apply Xa h y<;>intro M h
          .refine zc ?_;refine Xz (X:=(List Bool)×Bool) (λz=>[(0,.ipt 1 [[cL a]] 0 0),(5,.msl 0 0 (length z.1)),(7,.msl 1 0 (length c)),(8,bA z.2),(9,iA e),(10,.mpt 2 0 0),(11,iA B)]) (λz=>[some (1,map rB z.1),sT c,some (6,[(zf n)])]) (λz=>zhb B z.1 z.2=some r) ?_ ?_
           .refine zh ?_;obtain ⟨v121,q80,N,q81,h⟩:=bs2 h;refine A ?_;obtain ⟨v123,q82,h⟩:=bs h;refine A ?_;apply Xa h y<;>intro O h
            .obtain ⟨v124,W,h⟩:=bs h;refine A ?_;refine u<|BX (c':=true) ti y y (zQ W).2.2 y y y y y<|A ?_;exact (⟨⟨(List.set v (Int.toNat N) true),true⟩,h,[0,1,2],ce y y<|cv y (BV (by simp) y)<|cv y (.msl y)<|ce y y<|ce y y<|cv y (.mpt y)<|ce y y<|cn,y,⟨⟨_,y,XY (λ_=>y)⟩,⟨_,y,XY (λ_=>y)⟩,⟨_,y,Ze (ciL y)⟩,t⟩,y,k⟩)
            .refine zc ?_;exact ⟨⟨v,L⟩,h,zm [0,1,2]⟩
           .rintro ⟨v125,v126⟩ h;refine A ?_;cases h;exact ⟨_,y,zm [0,1,2]⟩
          .refine zp ?_;cases h;exact ⟨y,_,y,zm [0,1]⟩
         .rintro ⟨C,D⟩ rfl;replace h:zhe e C D=some r:=h;unfold zhe at h;refine zl ?_;exact ⟨⟨C,D⟩,h,zm [0,1]⟩
         .rintro r' rfl env st hp;cases h;exact ⟨_,y,hp⟩
       .rintro ⟨v129,v130⟩ h;refine A ?_;cases h;exact ⟨_,y,zm [0,1]⟩
      .refine zp ?_;cases h;exact ⟨y,_,y,zm [0,1]⟩
     .rintro ⟨v131,v132⟩ rfl;refine zl ?_;cases h;exact ⟨_,y,zm [0,1]⟩
     .rintro r' rfl env st hp;cases h;exact ⟨_,y,hp⟩
    .refine zp ?_;cases h;exact ⟨y,_,y,zm [0]⟩
   .rintro d rfl;refine zl<|A ?_;refine ze<|A ?_;obtain ⟨o,ho,h⟩:=bs h;refine lpB ho (λz=>[(0,.ipt 1 [[cL a]] 0 0),(5,.msl 0 0 (length d)),(13,.msl 1 0 (length z.1)),(14,iA z.2)]) (λz=>[some (1,map rB d),sT z.1]) (λb=>[(13,.msl 0 0 (length b))]) (λb=>[sT b]) (pF f313 (λr=>.msl 0 0 (length r)) λr=>[sT r]) ⟨[0,.fresh 1],ce y y<|cv y (.msl y)<|cv y (.nilown y)<|ce y y<|cn,y,⟨⟨_,y,XY (λ_=>y)⟩,w,t⟩,y,k⟩ ?_ ?_
    .rintro ⟨p,m⟩ r h;refine ze<|A ?_;apply Xa h y<;>intro P h
     .refine zc ?_;refine Xz (X:=T1) (λz=>[(0,.ipt 1 [[cL a]] 0 0),(5,.msl 0 0 (length d)),(13,.msl 1 0 (length z)),(14,iA m)]) (λz=>[some (1,map rB d),sT z]) (λz=>zhd m z=some r) ?_ ?_
      .refine zh ?_;obtain ⟨v142,q91,h⟩:=bs h;refine A ?_;apply Xa h y<;>intro Q h
       .obtain ⟨E,q93,q,Y,h⟩:=bs2 h;refine A ?_;refine zu (env0:=[(0,.ipt 1 [[cL a]] 0 0),(5,.msl 0 0 (length d)),(14,iA m),(104,tL p),(112,sA E.Name)]) (st0:=[some (1,map rB d)]) (zm [0])<|u<|sx [] (zuO p E.Name Y)<|zu (env0:=[(0,.ipt 1 [[cL a]] 0 0),(5,.msl 0 0 (length d)),(14,iA m),(113,.msl 1 0 (length q))]) (st0:=[some (1,map rB d),sT q]) (zm [0,1])<|A ?_;exact (⟨q,h,zm [0,1]⟩)
       .refine zc ?_;exact ⟨p,h,zm [0,1]⟩
      .rintro v145 h;refine A ?_;cases h;exact ⟨_,y,zm [0,1]⟩
     .refine zp ?_;cases h;exact ⟨y,_,y,zm [1]⟩
    .rintro v146 rfl;refine zl<|A ?_;exact RT1
def D7(s:((List za)×T0×T0->Option Bool))(b:List za)(c:T0)(d:T0):Option (Bool):=
  (zP b c).bind λv=>(cond (!v) (some true) ((zP b d).bind λx=>some (!x))).bind λB=>cond B (some false) (cond (c == d) (some true) ((WV c).bind λe=>(WV d).bind λa=>cond ((e.2 == 0)&&(a.2 == 0)) ((cond ((!(e.1 == [73]))&&(!(a.1 == [73]))) ((KU b e.1).bind λC=>(DF C a.1).bind λj=>(cond j (some true) ((Em b e.1).bind λl=>(DF l a.1).bind λm=>some m)).bind λn=>some n) (some false)).bind λo=>some o) (cond (a.2 == 0) (some (a.1 == [79,98,106,101,99,116])) (cond (e.2 == 0) (some false) ((XK c 1 (length c:Int)).bind λf=>(XK d 1 (length d:Int)).bind λi=>(cond ((!(f == [73]))&&(!(i == [73]))) ((s (b,f,i)).bind λp=>some p) (some false)).bind λq=>some q)))))
theorem zo3(C:((List za)×T0×T0->Option Bool))(hrec:∀z r,C z=some r->Xo prog 291 [.ipt 1 [[cL z.1]] 0 0,sA z.2.1,sA z.2.2] (bA r))(m:List za)(p:T0)(q:T0){r:Bool}(h:D7 C m p q=some r):Xo prog 291 [.ipt 1 [[cL m]] 0 0,sA p,sA q] (bA r):=by
 refine zi func291 y kz y y<|A ?_;refine ze ?_;obtain ⟨W,X,Y,Z,h⟩:=bs2 h;refine A ?_;apply Xa h y<;>intro D h
 .refine A ?_;exact RT0
 .refine zc<|ze<|A ?_;apply Xa h y<;>intro E h
  .refine A ?_;exact RT0
  .refine zc ?_;obtain ⟨F,q7,h⟩:=bs h;refine A ?_;obtain ⟨G,q8,h⟩:=bs h;refine A ?_;refine ze<|zh<|A ?_;apply Xa h y<;>intro s h
   .obtain ⟨H,d,h⟩:=bs h;refine A ?_;refine zDB (x:=H) (j:=6) 12 2 y y y y y gpn (λc=>by replace d:=bT c d;obtain ⟨S,I,d⟩:=bs d;obtain ⟨T,J,d⟩:=bs d;obtain ⟨K,f,d⟩:=bs d;obtain rfl:=sm d;exact g y c<|mv y<|g y c<|mv y<|g y c<|sx [] (GL m F.1 I)<|g y c<|mv y<|g y c<|pcs (DL S G.1 J) y y (.cons (XM y (λ_=>y)) (.cons (si y) .nil)) XA<|g y c<|mv y<|ID (x:=K) (j:=12) 5 1 y y y y y (gps y y c) (λe=>by replace f:=bF e f;obtain ⟨L,M,f⟩:=bs f;obtain ⟨U,N,f⟩:=bs f;obtain rfl:=sm f;exact g y e<|mv y<|g y e<|mv y<|g y e<|sx [] (zjE m F.1 M)<|g y e<|mv y<|g y e<|pcs (DL L G.1 N) y y (.cons (XM y (λ_=>y)) (.cons (si y) .nil)) XA<|zw (xg [56,57,58,59,60] 5 y y y y y y)) (λhb=>(sm (bT hb f)).symm)<|zw (xg [50,51,52,53,54,55,56,57,58,59,60,61] 7 y y y y y y)) (λhb=>(sm (bF hb d)).symm)<|A ?_;exact RT0
   .refine A ?_;apply Xa h y<;>intro v h
    .refine A ?_;exact RT0
    .refine A ?_;apply Xa h y<;>intro B h
     .refine A ?_;exact RT0
     .refine zc ?_;obtain ⟨O,n,P,o,h⟩:=bs2 h;refine rdA [(0,_),(11,_),(12,_)] [] [] [0,1,2,3,4,5] [(12,_),(11,_),(74,_),(73,_),(72,_),(71,_)] 0 (Xl ⟨peC,(by exact pb y (slS (a:=1) (b:=(length p:Int)) ti y y (KK y n) y n<|w)),peC,(by exact pb y (slS (a:=1) (b:=(length q:Int)) ti y y (KK y o) y o<|w)),peC,peC,t⟩ (Xb [])) ?_;obtain ⟨Q,l,h⟩:=bs h;refine A ?_;refine Zi (x:=Q) (j:=6) 4 y y y y y gpn (λi=>by replace l:=bT i l;obtain ⟨V,R,l⟩:=bs l;obtain rfl:=sm l;exact g y i<|mv y<|g y i<|mv y<|g y i<|mv y<|g y i<|pc (hrec (m,O,P) _ R) y y y<|zw (eg [82,83,84,85] 4 y y y y)) (λhb=>(sm (bF hb l)).symm)<|A ?_;exact RT0
def zht(a:List za)(b:T0)(c:T0):Option Bool:=
  BT (λd z=>D7 d z.1 z.2.1 z.2.2) (a,b,c)
theorem zlJ(b:List za)(c:T0)(d:T0){r:Bool}(h:zht b c d=some r):Xo prog 291 [.ipt 1 [[cL b]] 0 0,sA c,sA d] (bA r):=
  zDC (F:=(λa z=>D7 a z.1 z.2.1 z.2.2)) (Q:=λz r=>Xo prog 291 [.ipt 1 [[cL z.1]] 0 0,sA z.2.1,sA z.2.2] (bA r)) (λa hv z r h=>zo3 a hv z.1 z.2.1 z.2.2 h) h
def H1(c:List za)(a:T0)(b:T0):Option (Bool):=
  cond (b == [84]) ((cond ((a == [84])||(a == [78])) (some true) ((zP c a).bind λo=>some o)).bind λp=>some p) (cond (a == [78]) ((cond (b == [78]) (some true) ((cond (!(b == [73])) ((zP c b).bind λq=>some q) (some false)).bind λs=>some s)).bind λv=>some v) (cond (a == b) ((zP c a).bind λx=>some x) ((cond ((a == [73])||(b == [73])) (some true) ((zP c a).bind λe=>some (!e))).bind λf=>(cond f (some true) ((zP c b).bind λi=>some (!i))).bind λj=>cond j (some false) ((zS c b).bind λd=>(cond (decide (0≤d)) ((idx c d).bind λl=>some l.Interface) (some false)).bind λm=>cond m (some true) ((zht c a b).bind λn=>some n)))))
instance (a:List za)(b:T0)(c:T0):PF prog 343 [.ipt 1 [[cL a]] 0 0,sA b,sA c] (H1 a b c) bA:=⟨λr h=>by
 refine zi func343 y kz y y<|A ?_;refine ze<|zh<|A ?_;apply Xa h y<;>intro i h
 .obtain ⟨E,F,h⟩:=bs h;refine A ?_;exact RT0
 .refine A ?_;apply Xa h y<;>intro j h
  .obtain ⟨G,m,h⟩:=bs h;refine A ?_;exact RT0
  .refine A ?_;apply Xa h y<;>intro d h
   .obtain ⟨H,n,h⟩:=bs h;refine A ?_;exact RT0
   .obtain ⟨o,p,q,s,h⟩:=bs2 h;refine A ?_;apply Xa h y<;>intro e h
    .refine A ?_;exact RT0
    .refine zc<|ze ?_;obtain ⟨v,x,h⟩:=bs h;refine A ?_;obtain ⟨B,C,h⟩:=bs h;refine A ?_;apply Xa h y<;>intro f h
     .refine A ?_;exact RT0
     .refine zc ?_;obtain ⟨D,l,h⟩:=bs h;refine rg y<|u<|mv y<|u<|mv y<|u<|mv y<|u<|pc (zlJ a b c l) y y y<|u<|asg y<|zw ?_
      exact RT0⟩
def zqA:Option (Bool):=
  some true
def Ie(e:List za)(b:T1)(f:T1)(a:Int):zL (Int) (Unit) (Bool):=
  cond (decide (a<(length b:Int))) ((idx b a).bind λi=>(idx f a).bind λc=>(H1 e i c).bind λd=>cond (!d) (some (.inr (.inr false))) (some (.inl (i64.wrap (a+1))))) (some (.inr (.inl ())))
def D4(d:List za)(a:T1)(c:T1):Option (Bool):=
  cond (!((length a:Int) == (length c:Int))) (some false) ((zk (λz=>Ie d a c z) 0).bind λo=>zB o (λb=>zqA) some)
theorem zlF(a:List za)(c:T1)(d:T1){r:Bool}(h:D4 a c d=some r):Xo prog 290 [.ipt 1 [[cL a]] 0 0,tL c,tL d] (bA r):=by
 refine zi func290 y kz y y<|A ?_;refine ze<|A ?_;apply Xa h y<;>intro f h
 .refine A ?_;exact RT0
 .refine zc<|ze<|A ?_;obtain ⟨o,ho,h⟩:=bs h;refine lpB ho (λz=>[(0,.ipt 1 [[cL a]] 0 0),(1,tL c),(2,tL d),(7,iA z)]) (λz=>[]) (λb=>[]) (λb=>[]) (pG f290 bA) (Xb []) ?_ ?_
  .rintro n r h;refine ze<|A ?_;apply Xa h y<;>intro i h
   .refine zc<|ze<|zh ?_;obtain ⟨p,q,j,s,l,m,h⟩:=bs3 h;refine rdA [(0,_),(1,_),(2,_),(7,_),(29,_)] [] [] [0,1,2,3,4,5,6,7,8,9,10] [(29,_),(28,_),(27,_),(26,_),(25,_),(24,_),(23,_),(22,_),(21,_),(20,_),(19,_)] 0 (Xl (z:=Xb [])) ?_;apply Xa h y<;>intro e h
    .refine A ?_;refine zA ?_;cases h;exact ⟨_,y,_,y,Xc []⟩
    .refine zc<|A ?_;cases h;exact ⟨_,y,zm []⟩
   .refine zp ?_;cases h;exact ⟨y,_,y,zm []⟩
  .rintro ⟨⟩ rfl;refine zl<|A ?_;exact RT0
instance (a:List za)(b:T1)(c:T1):PF prog 290 [.ipt 1 [[cL a]] 0 0,tL b,tL c] (D4 a b c) bA:=⟨λ_=>zlF a b c⟩
def zk4(a:List za)(b:T0)(c:zb)(d:T1)(e:T1)(f:Bool)(i:Bool):Unit:=
  ()
theorem zr(a:List za)(b:T0)(c:zb)(d:T1)(e:T1)(f:Bool)(i:Bool){r:Unit}(h:zk4 a b c d e f i=r):SC prog 204 [.mpt 0 0 0,bA i] (tR a b c d e f []) (.tup []) (tR a b c d e (f||(!i)) []):=by
 refine ⟨⟨t,t⟩,zR func204 y kz y ?_⟩;unfold zk4 at h;refine A ?_;obtain rfl:=h;exact ⟨_,y,Xc [0]⟩

end
end Go.Proofs.YthmnlfenkhmmhaaGreat
