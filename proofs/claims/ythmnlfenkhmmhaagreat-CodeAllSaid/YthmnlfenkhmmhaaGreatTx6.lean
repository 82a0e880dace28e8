/- CodeAll holds. Part 6 of 9. -/
import Derived.Test.YthmnlfenkhmmhaaGreatTx5
namespace Go.Proofs.YthmnlfenkhmmhaaGreat
noncomputable section
open List (length map)
open IntKind (i64)
open Go.Proofs.Tryz
set_option linter.unusedSimpArgs false
set_option linter.unusedVariables false
set_option maxRecDepth 100000
set_option maxHeartbeats 4000000
variable {r:Int}{m:List (T0×zy)}{L a v:Vr}{D:Option zu}{b:T0}{Q d F l:T1}{M G c e:T2}
structure X1 where
  Op:Int
  A:Int
  X:Int
  Y:Int
abbrev VB:=List X1
def Um(x:X1):Vt:=[iA x.Op,iA x.A,iA x.X,iA x.Y]
structure ZO where
  From:Int
  To:Int
  At:Int
  X:Int
abbrev VA:=List ZO
def G4(x:ZO):Vt:=[iA x.From,iA x.To,iA x.At,iA x.X]
structure Zd where
  Args:Int
  Locals:Int
  Stack:Int
  Gives:Bool
  Code:VB
  Traps:VA
def ZZ(x:Zd):Vt:=[iA x.Args,iA x.Locals,iA x.Stack,bA x.Gives,.isl 4 (map Um x.Code),.isl 4 (map G4 x.Traps)]
def og:Option ((Vu)×(Vu)):=(Xu 152 ([(zb.mk [102] [] [73] false false 1 1 ([(zp.mk 1 5 [] []),(zp.mk 47 0 [] [])]) [] [])]) ([(zb.mk [36,105,110,105,116] [] [86] true false 0 1 ([(zp.mk 1 3 [] []),(zp.mk 41 0 [65,97] [115]),(zp.mk 46 0 [] [])]) [] [])])).bind λa=>(Xu 152 ([(zb.mk [109,97,105,110] [] [86] true false 0 0 ([(zp.mk 46 0 [] [])]) [] [])]) ([(zb.mk [36,105,110,105,116] [] [86] true false 0 1 ([(zp.mk 1 4 [] []),(zp.mk 60 0 [] []),(zp.mk 46 0 [] [])]) [] [])])).bind λb=>some (a,b)
theorem mq{r:(Vu)×(Vu)}(h:og=some r):VE 137 [] [] (.msl 0 0 3) [.xs 6 [[sA [70,97,99,101],sA [79,98,106,101,99,116],bA true,nS,nS,.msl 1 0 (length ([(zb.mk [102] [] [73] false true 0 0 [] [] [])]))],[sA [65,97],sA [79,98,106,101,99,116],bA false,.msl 2 0 (length ([[70,97,99,101]])),.msl 3 0 (length ([(zh.mk [120] [73] false),(zh.mk [115] [73] true)])),.msl 4 0 (length r.1)],[sA [66,98],sA [65,97],bA false,nS,.msl 5 0 (length ([(zh.mk [121] [91,65,97] false)])),.msl 6 0 (length r.2)]],.many 10 (map zd ([(zb.mk [102] [] [73] false true 0 0 [] [] [])])),.many 1 (map Xe ([[70,97,99,101]])),.many 3 (map zv ([(zh.mk [120] [73] false),(zh.mk [115] [73] true)])),.many 10 (map zd r.1),.many 3 (map zv ([(zh.mk [121] [91,65,97] false)])),.many 10 (map zd r.2)]:=by refine⟨⟨t,Xo (sz:=10) (λ_=>y),Xo (sz:=1) (λ_=>y),Xo (sz:=3) (λ_=>y),Xo (sz:=10) (λ_=>y),Xo (sz:=3) (λ_=>y),Xo (sz:=10) (λ_=>y),t⟩,zK func137 y kz y ?_⟩;refine A ?_;refine rg y<|u<|sx [] (Wj y)<|A ?_;obtain⟨a,b,h⟩:=bs h;refine A ?_;refine u<|Mz ti y ti y y y<|A ?_;refine u<|bl 9 ti y ti y YB YB y y y<|u<|bd (parts:=[(0,sA [36,105,110,105,116]),(2,sA [86]),(3,bA true),(6,iA 1),(7,.msl 9 0 3)]) (cs:=[sA [36,105,110,105,116],nS,sA [86],bA true,bA false,iA 0,iA 1,.msl 9 0 3,nS,nS]) ti y y kz<|u<|bl 10 ti y ti y YB YB y y y<|zw (VC:=[(1,.msl 0 0 3),(3,.msl 0 0 3),(7,.msl 4 0 (length ([(zb.mk [102] [] [73] false false 1 1 ([(zp.mk 1 5 [] []),(zp.mk 47 0 [] [])]) [] [])]))),(13,.msl 7 0 (length ([(zb.mk [36,105,110,105,116] [] [86] true false 0 1 ([(zp.mk 1 3 [] []),(zp.mk 41 0 [65,97] [115]),(zp.mk 46 0 [] [])]) [] [])])))]) (VJ:=[some (6,[[sA [70,97,99,101],sA [79,98,106,101,99,116],bA true,nS,nS,.msl 1 0 (length ([(zb.mk [102] [] [73] false true 0 0 [] [] [])]))],[sA [65,97],sA [79,98,106,101,99,116],bA false,.msl 2 0 (length ([[70,97,99,101]])),.msl 3 0 (length ([(zh.mk [120] [73] false),(zh.mk [115] [73] true)])),.msl 4 0 (length ([(zb.mk [102] [] [73] false false 1 1 ([(zp.mk 1 5 [] []),(zp.mk 47 0 [] [])]) [] [])]))],[sA [66,98],sA [65,97],bA false,nS,.msl 5 0 (length ([(zh.mk [121] [91,65,97] false)])),.msl 6 0 (length ([(zb.mk [109,97,105,110] [] [86] true false 0 0 ([(zp.mk 46 0 [] [])]) [] [])]))]]),some (10,map zd ([(zb.mk [102] [] [73] false true 0 0 [] [] [])])),sT ([[70,97,99,101]]),some (3,map zv ([(zh.mk [120] [73] false),(zh.mk [115] [73] true)])),some (10,map zd ([(zb.mk [102] [] [73] false false 1 1 ([(zp.mk 1 5 [] []),(zp.mk 47 0 [] [])]) [] [])])),some (3,map zv ([(zh.mk [121] [91,65,97] false)])),some (10,map zd ([(zb.mk [109,97,105,110] [] [86] true false 0 0 ([(zp.mk 46 0 [] [])]) [] [])])),some (10,map zd ([(zb.mk [36,105,110,105,116] [] [86] true false 0 1 ([(zp.mk 1 3 [] []),(zp.mk 41 0 [65,97] [115]),(zp.mk 46 0 [] [])]) [] [])]))]) (zl [0,1,2,3,4,6,7,10])<|u<|Lo 8 ti y ti y y YB ti y y y y (Mx y) (λ_=>y) y b<|u<|Mz ti y ti y y y<|A ?_;obtain⟨d,c,h⟩:=bs h;refine A ?_;refine u<|Mz ti y ti y y y<|A ?_;refine u<|bl 9 ti y ti y YB YB y y y<|u<|bd (parts:=[(0,sA [36,105,110,105,116]),(2,sA [86]),(3,bA true),(6,iA 1),(7,.msl 9 0 3)]) (cs:=[sA [36,105,110,105,116],nS,sA [86],bA true,bA false,iA 0,iA 1,.msl 9 0 3,nS,nS]) ti y y kz<|u<|bl 10 ti y ti y YB YB y y y<|zw (VC:=[(1,.msl 0 0 3),(17,.msl 0 0 3),(21,.msl 6 0 (length ([(zb.mk [109,97,105,110] [] [86] true false 0 0 ([(zp.mk 46 0 [] [])]) [] [])]))),(27,.msl 7 0 (length ([(zb.mk [36,105,110,105,116] [] [86] true false 0 1 ([(zp.mk 1 4 [] []),(zp.mk 60 0 [] []),(zp.mk 46 0 [] [])]) [] [])])))]) (VJ:=[some (6,[[sA [70,97,99,101],sA [79,98,106,101,99,116],bA true,nS,nS,.msl 1 0 (length ([(zb.mk [102] [] [73] false true 0 0 [] [] [])]))],[sA [65,97],sA [79,98,106,101,99,116],bA false,.msl 2 0 (length ([[70,97,99,101]])),.msl 3 0 (length ([(zh.mk [120] [73] false),(zh.mk [115] [73] true)])),.msl 4 0 (length a)],[sA [66,98],sA [65,97],bA false,nS,.msl 5 0 (length ([(zh.mk [121] [91,65,97] false)])),.msl 6 0 (length ([(zb.mk [109,97,105,110] [] [86] true false 0 0 ([(zp.mk 46 0 [] [])]) [] [])]))]]),some (10,map zd ([(zb.mk [102] [] [73] false true 0 0 [] [] [])])),sT ([[70,97,99,101]]),some (3,map zv ([(zh.mk [120] [73] false),(zh.mk [115] [73] true)])),some (10,map zd a),some (3,map zv ([(zh.mk [121] [91,65,97] false)])),some (10,map zd ([(zb.mk [109,97,105,110] [] [86] true false 0 0 ([(zp.mk 46 0 [] [])]) [] [])])),some (10,map zd ([(zb.mk [36,105,110,105,116] [] [86] true false 0 1 ([(zp.mk 1 4 [] []),(zp.mk 60 0 [] []),(zp.mk 46 0 [] [])]) [] [])]))]) (zl [0,1,2,3,8,5,6,10])<|u<|Lo 8 ti y ti y y YB ti y y y y (Mx y) (λ_=>y) y c<|u<|Mz ti y ti y y y<|A ?_;refine A ?_;apply zA;cases h;exact⟨_,y,Kl [0,1,2,3,4,5,8]⟩
def Ua(a:zb):Int:=cond a.Static ((length a.Params:Int)) ((i64.wrap ((length a.Params:Int)+1)))
theorem Ty(c:zb)(h:Ua c=r):VD 144 [.agg (zd c)] (iA r):=by
 refine zi func144 y kz y y<|A ?_;refine ze<|A ?_;apply Xa h y<;>intro a h
 .refine A ?_;apply zA;obtain rfl:=h;exact⟨_,y,Xb []⟩
 refine zc<|A ?_;apply zA;obtain rfl:=h;exact⟨_,y,Xb []⟩
instance (c:zb):VF 144 [.agg (zd c)] (some (Ua c)) iA:=.of λ_=>Ty c
def PQ(c:Vr)(d:T2)(a:T2)(e:List (T0×zy))(f:T1)(b:T0):Int:=(Option.getD (XE b a) 0)
theorem iS(a:Vr)(e:T2)(G:T2)(m:List (T0×zy))(d:T1)(b:T0)(h:PQ a e G m d b=r):VD 97 [.ipt 4 [[.ipt 2 [[cL a,mI e]] 0 0,mI G,.imp (map (F5 (λx=>.agg (zn x))) m),tL d]] 0 0,sA b] (iA r):=by refine zi func97 y kz y y ?_;unfold PQ at h;refine A ?_;refine ze<|A ?_;refine UC y (λhx=>by cases hx) (λ_=>?_);refine zc<|A ?_;refine u<|CG (g:=(λx=>iA x)) (z:=0) (l:=G) y ti y y y y<|A ?_;apply zA;obtain rfl:=h;exact⟨_,y,Xb []⟩
instance :VF 97 [.ipt 4 [[.ipt 2 [[cL a,mI e]] 0 0,mI G,.imp (map (F5 (λx=>.agg (zn x))) m),tL d]] 0 0,sA b] (some (PQ a e G m d b)) iA:=.of λ_=>iS a e G m d b
def Tz(a:T0)(c:Vr)(d:T2)(e:Vr)(f:T2)(i:T2)(j:List (T0×zy))(l:T1):Option (Bool):=(zI c d a).bind λm=>(HM m.1 [36,105,110,105,116]).bind λb=>some ((decide (0<=b))&&(!((PQ e f i j l a)==2)))
instance :VF 140 [sA b,.ipt 1 [[.ipt 2 [[cL a,mI e]] 0 0]] 0 0,.ipt 1 [[.ipt 4 [[.ipt 2 [[cL v,mI G]] 0 0,mI M,.imp (map (F5 (λx=>.agg (zn x))) m),tL d]] 0 0]] 0 0] (Tz b a e v G M m d) bA:=⟨λr h=>by
 refine zi func140 y kz y y<|A ?_;obtain⟨f,n,h⟩:=bs h;refine A ?_;obtain⟨l,i,h⟩:=bs h;refine rg y<|u<|ld ti y y<|u<|pc (Ir f.1 [36,105,110,105,116] i) y y y<|u<|geq ti y y<|u<|mv y<|XV (j:=3) 4 y y y y y Lr (λc=>g y c<|ld ti y y<|g y c<|mv y<|g y c<|pc (iS v G M m d b y) y y y<|g y c<|neq ti y y<|zx (LY [17,18,19,20] 4 c y y y y)) Uu<|u<|Lw y<|zx ?_
 exact F4⟩
def jk:Option (Int):=some (-1)
def Cj(b:T1)(e:Vr)(f:T2)(i:Vr)(j:T2)(l:T2)(m:List (T0×zy))(n:T1)(a:Int):zL (Int) (Unit) (Int):=cond (decide (a<(length b:Int))) ((idx b a).bind λc=>(Tz c e f i j l m n).bind λd=>cond d (some (.inr (.inr a))) (some (.inl (i64.wrap (a+1))))) (some (.inr (.inl ())))
def gR(a:T1)(c:Vr)(d:T2)(e:Vr)(f:T2)(i:T2)(j:List (T0×zy))(l:T1):Option (Int):=(zk (λz=>Cj a c d e f i j l z) 0).bind λo=>zE o (λb=>jk) some
instance :VF 181 [tL d,.fn (.func 140) [] [.ipt 1 [[.ipt 2 [[cL a,mI e]] 0 0]] 0 0,.ipt 1 [[.ipt 4 [[.ipt 2 [[cL v,mI G]] 0 0,mI M,.imp (map (F5 (λx=>.agg (zn x))) m),tL l]] 0 0]] 0 0]] (gR d a e v G M m l) iA:=⟨λr h=>by
 refine zi func181 y kz y y<|A ?_;refine ze<|A ?_;obtain⟨o,ho,h⟩:=bs h;refine F7 ho (λz=>[(0,tL d),(1,.fn (.func 140) [] [.ipt 1 [[.ipt 2 [[cL a,mI e]] 0 0]] 0 0,.ipt 1 [[.ipt 4 [[.ipt 2 [[cL v,mI G]] 0 0,mI M,.imp (map (F5 (λx=>.agg (zn x))) m),tL l]] 0 0]] 0 0]),(7,iA (length d:Int)),(8,iA z)]) (λz=>[]) (λb=>[]) (λb=>[]) (pG f181 iA) (z6 []) ?_ ?_
 .rintro i r h;refine A ?_;apply ze;apply Xa h y<;>intro c h
  .refine zc<|ze<|zg<|A ?_;obtain⟨j,p,n,q,h⟩:=F6 h;refine A ?_;apply Xa h y<;>intro f h
   .refine A ?_;apply zA;cases h;exact⟨_,y,_,y,Xb []⟩
   refine zc<|A ?_;exact LB
  exact Ll
 rintro⟨⟩ rfl;refine zm<|A ?_
 exact F4⟩
def M2(a:T1)(b:Vr)(c:T2)(d:Vr)(e:T2)(f:T2)(i:List (T0×zy))(j:T1):Option (Bool):=(gR a b c d e f i j).bind λl=>some (decide (0<=l))
theorem g6(d:T1)(a:Vr)(e:T2)(v:Vr)(G:T2)(M:T2)(m:List (T0×zy))(l:T1){r:Bool}(h:M2 d a e v G M m l=some r):VD 99 [tL d,.fn (.func 140) [] [.ipt 1 [[.ipt 2 [[cL a,mI e]] 0 0]] 0 0,.ipt 1 [[.ipt 4 [[.ipt 2 [[cL v,mI G]] 0 0,mI M,.imp (map (F5 (λx=>.agg (zn x))) m),tL l]] 0 0]] 0 0]] (bA r):=by refine zi func99 y kz y y<|A ?_;obtain⟨b,c,h⟩:=bs h;refine A ?_;exact F4
instance :VF 99 [tL d,.fn (.func 140) [] [.ipt 1 [[.ipt 2 [[cL a,mI e]] 0 0]] 0 0,.ipt 1 [[.ipt 4 [[.ipt 2 [[cL v,mI G]] 0 0,mI M,.imp (map (F5 (λx=>.agg (zn x))) m),tL l]] 0 0]] 0 0]] (M2 d a e v G M m l) bA:=⟨λ_=>g6 d a e v G M m l⟩
def Pd(b:Vr)(c:T2)(m:Vr)(n:T2)(o:T1)(p:T1)(q:T1)(s:Vr)(v:T2)(d:T2)(e:List (T0×zy))(f:T1)(a:T0):Option (Int):=(Kz b c a).bind λi=>(M2 i b c s v d e f).bind λj=>cond (!j) (some (-1)) ((Gm m n o p q a).bind λl=>some l)
theorem lL(h:Pd a e v G d l F L M c m Q b=some r):VE 64 [.ipt 2 [[cL a,mI e]] 0 0,Vg,Vh,sA b] [.one 4 [.ipt 2 [[cL v,mI G]] 0 0,tL d,tL l,tL F],.one 4 [.ipt 2 [[cL L,mI M]] 0 0,.mmp 2,.mmp 3,.msl 4 0 (length Q)],.many 2 (map (F5 (λx=>iA x)) c),.many 2 (map (F5 (λx=>.agg (zn x))) m),.many 1 (map Xe Q)] (iA r) [.one 4 [.ipt 2 [[cL v,mI G]] 0 0,tL d,tL l,tL F],.one 4 [.ipt 2 [[cL L,mI M]] 0 0,.mmp 2,.mmp 3,.msl 4 0 (length Q)],.many 2 (map (F5 (λx=>iA x)) c),.many 2 (map (F5 (λx=>.agg (zn x))) m),.many 1 (map Xe Q)]:=by
 refine⟨⟨t,t,Xo (sz:=2) (λ_=>y),Xo (sz:=2) (λ_=>y),Xo (sz:=1) (λ_=>y),t⟩,zK func64 y kz y ?_⟩;refine A ?_;apply ze;obtain⟨f,j,p,n,h⟩:=F6 h;refine A ?_;refine u<|sx [] (GM j)<|zw (VC:=[(1,Vg),(3,sA b),(4,Vm),(6,Vn),(11,.msl 7 0 (length f))]) (VJ:=[some (4,[[.ipt 2 [[cL v,mI G]] 0 0,tL d,tL l,tL F]]),Xw L M 2 3 4 Q,some (2,map (F5 (λx=>iA x)) c),some (2,map (F5 (λx=>.agg (zn x))) m),sT Q,some (1,[[.ipt 2 [[cL a,mI e]] 0 0]]),some (1,[[Vh]]),sT f]) (zl [0,1,2,3,4,5,6,7])<|u<|mf y y<|u<|Lj (g6 f a e L M c m Q n) y y (.cons (XU y (λ_=>y)) (.cons (ZB t ⟨(XC y ⟨(si y),t⟩),(XC y ⟨(XC y ⟨(si y),(Ee y (λ_=>y)),(Ee y (λ_=>y)),(XU y (λ_=>y)),t⟩),t⟩),t⟩) .nil)) Xx<|A ?_;apply Xa h y<;>intro i h
 .refine A ?_;exact Nv
 apply zc;obtain⟨q,o,h⟩:=bs h;refine A ?_;refine u<|Lj (HT v G d l F b o) y y (.cons (XC y ⟨(si y),(si y),(si y),(si y),t⟩) (.cons (si y) .nil)) Xx<|A ?_;exact Nv
def Ol(f:Vr)(i:T2)(j:Vr)(l:T2)(m:T1)(n:T1)(o:T1)(p:Vr)(q:T2)(a:T2)(b:List (T0×zy))(c:T1)(d:T0):Option (Int):=(Pd f i j l m n o p q a b c d).bind λe=>some e
theorem gk(h:Ol a e v G d l F L M c m Q b=some r):VE 227 [Vg,sA b] [.one 3 [.ipt 2 [[cL a,mI e]] 0 0,Vh,Vj],.one 4 [.ipt 2 [[cL v,mI G]] 0 0,tL d,tL l,tL F],.one 4 [.ipt 2 [[cL L,mI M]] 0 0,.mmp 3,.mmp 4,.msl 5 0 (length Q)],.many 2 (map (F5 (λx=>iA x)) c),.many 2 (map (F5 (λx=>.agg (zn x))) m),.many 1 (map Xe Q)] (iA r) [.one 3 [.ipt 2 [[cL a,mI e]] 0 0,Vh,Vj],.one 4 [.ipt 2 [[cL v,mI G]] 0 0,tL d,tL l,tL F],.one 4 [.ipt 2 [[cL L,mI M]] 0 0,.mmp 3,.mmp 4,.msl 5 0 (length Q)],.many 2 (map (F5 (λx=>iA x)) c),.many 2 (map (F5 (λx=>.agg (zn x))) m),.many 1 (map Xe Q)]:=by refine⟨⟨t,t,t,Xo (sz:=2) (λ_=>y),Xo (sz:=2) (λ_=>y),Xo (sz:=1) (λ_=>y),t⟩,zK func227 y kz y ?_⟩;refine A ?_;obtain⟨f,i,h⟩:=bs h;refine Lc [(4,_)] [some (3,[[.ipt 2 [[cL a,mI e]] 0 0,Vh,Vj]]),some (4,[[.ipt 2 [[cL v,mI G]] 0 0,tL d,tL l,tL F]]),Xw L M 3 4 5 Q,some (2,map (F5 (λx=>iA x)) c),some (2,map (F5 (λx=>.agg (zn x))) m),sT Q] [13] Y8 [(17,_),(16,_),(15,_),(14,_),(13,_),(12,_),(11,_),(10,_),(9,_),(8,_),(7,_),(6,_),(5,_)] 1 (Xd (z:=by exact⟨(λ_ _=>⟨_,y,y,sx [1,2,3,4,5] (lL i)<|⟨(iA f),[14],[(4,_),(18,_)],y,y,y,y,Xg (z:=z6 [0,1,2,3,4,5])⟩⟩),t⟩)) ?_;exact RZ
def MW(q:Vr)(s:T2)(v:T1)(x:T1)(B:T1)(a:zp)(b:T0)(c:T0)(d:T1)(e:T0)(f:Bool)(i:Bool)(j:Int)(l:Int)(m:Vw)(n:Vy)(o:Vx):Option (Int×Int):=(Ou q s v x B b a.M).bind λp=>some (p,(Ua (zb.mk c d e f i j l m n o)))
def IA(l:Vr)(m:T2)(d:Vr)(e:T2)(f:T1)(i:T1)(j:T1)(x:Vr)(B:T2)(n:T2)(o:List (T0×zy))(p:T1)(b:zp):Option (Int×Int):=(BP l m b.C b.M).bind λa=>cond (b.Op==42) ((Ou d e f i j a.1 b.M).bind λq=>(Ol l m d e f i j x B n o p a.1).bind λs=>some (q,s)) (cond (b.Op==43) ((Oa d e f i j b.C b.M).bind λv=>some (v,(Ua a.2.1))) (cond (b.Op==45) ((E4 l m b.C b.M).bind λc=>MW d e f i j b c.1 c.2.1.Name c.2.1.Params c.2.1.Ret c.2.1.Static c.2.1.Abstract c.2.1.Locals c.2.1.Stack c.2.1.Code c.2.1.Maps c.2.1.Traps) (MW d e f i j b a.1 a.2.1.Name a.2.1.Params a.2.1.Ret a.2.1.Static a.2.1.Abstract a.2.1.Locals a.2.1.Stack a.2.1.Code a.2.1.Maps a.2.1.Traps)))
theorem nO{i:T2}{f:T2}{B:zp}{r:Int×Int}(h:IA a e v G d l F L i f m Q B=some r):VE 228 [Vg,.agg (zs B)] [.one 3 [.ipt 2 [[cL a,mI e]] 0 0,Vh,Vj],.one 4 [.ipt 2 [[cL v,mI G]] 0 0,tL d,tL l,tL F],.one 4 [.ipt 2 [[cL L,mI i]] 0 0,.mmp 3,.mmp 4,.msl 5 0 (length Q)],.many 2 (map (F5 (λx=>iA x)) f),.many 2 (map (F5 (λx=>.agg (zn x))) m),.many 1 (map Xe Q)] (.tup [iA r.1,iA r.2]) [.one 3 [.ipt 2 [[cL a,mI e]] 0 0,Vh,Vj],.one 4 [.ipt 2 [[cL v,mI G]] 0 0,tL d,tL l,tL F],.one 4 [.ipt 2 [[cL L,mI i]] 0 0,.mmp 3,.mmp 4,.msl 5 0 (length Q)],.many 2 (map (F5 (λx=>iA x)) f),.many 2 (map (F5 (λx=>.agg (zn x))) m),.many 1 (map Xe Q)]:=by
 refine⟨⟨t,t,t,Xo (sz:=2) (λ_=>y),Xo (sz:=2) (λ_=>y),Xo (sz:=1) (λ_=>y),t⟩,zK func228 y kz y ?_⟩;refine A ?_;obtain⟨b,Z,h⟩:=bs h;refine Lc [(0,_),(3,_),(6,_),(7,_)] [some (3,[[.ipt 2 [[cL a,mI e]] 0 0,Vh,Vj]]),some (4,[[.ipt 2 [[cL v,mI G]] 0 0,tL d,tL l,tL F]]),Xw L i 3 4 5 Q,some (2,map (F5 (λx=>iA x)) f),some (2,map (F5 (λx=>.agg (zn x))) m),sT Q,some (4,[(zs B)]),some (10,[(zd b.2.1)])] [13,15] Y8 [(21,_),(20,_),(19,_),(9,_),(18,_),(17,_),(16,_),(15,_),(14,_),(13,_),(12,_),(11,_),(10,_)] 2 (Xd (z:=by exact⟨(λ_ _=>⟨_,y,y,al 7 ti y<|⟨(Vo),[14],[(6,_),(7,_)],y,y,y,y,Xd (z:=by exact⟨nv,(λ_ _=>⟨_,y,y,La ti y y y<|⟨.any,[16],[(8,_)],y,y,y,t,Xg (z:=z6 [0,1,2,3,4,5,6,7])⟩⟩),t⟩)⟩⟩),nw,t⟩)) ?_;refine zY (X:=T0×T0×T1×T0×Bool×Bool×Int×Int×(Vw)×(Vy)×(Vx)) (λz=>[(0,Vg),(3,Vn),(6,sA z.1),(7,Vo)]) (λz=>[some (3,[[.ipt 2 [[cL a,mI e]] 0 0,Vh,Vj]]),some (4,[[.ipt 2 [[cL v,mI G]] 0 0,tL d,tL l,tL F]]),Xw L i 3 4 5 Q,some (2,map (F5 (λx=>iA x)) f),some (2,map (F5 (λx=>.agg (zn x))) m),sT Q,some (4,[(zs B)]),some (10,[[sA z.2.1,tL z.2.2.1,sA z.2.2.2.1,bA z.2.2.2.2.1,bA z.2.2.2.2.2.1,iA z.2.2.2.2.2.2.1,iA z.2.2.2.2.2.2.2.1,.isl 4 (map zs z.2.2.2.2.2.2.2.2.1),.isl 3 (map zV z.2.2.2.2.2.2.2.2.2.1),.isl 4 (map XF z.2.2.2.2.2.2.2.2.2.2)]])]) (λz=>MW v G d l F B z.1 z.2.1 z.2.2.1 z.2.2.2.1 z.2.2.2.2.1 z.2.2.2.2.2.1 z.2.2.2.2.2.2.1 z.2.2.2.2.2.2.2.1 z.2.2.2.2.2.2.2.2.1 z.2.2.2.2.2.2.2.2.2.1 z.2.2.2.2.2.2.2.2.2.2=some r) ?_ ?_
 .refine A ?_;refine zg<|A ?_;apply Xa h y<;>intro j h
  .obtain⟨V,R,n,S,h⟩:=F6 h;refine Lc [(4,_),(5,_)] [some (3,[[.ipt 2 [[cL a,mI e]] 0 0,Vh,Vj]]),some (4,[[.ipt 2 [[cL v,mI G]] 0 0,tL d,tL l,tL F]]),Xw L i 3 4 5 Q,some (2,map (F5 (λx=>iA x)) f),some (2,map (F5 (λx=>.agg (zn x))) m),sT Q] [10] Va [(35,_),(34,_),(33,_),(32,_),(31,_),(30,_),(29,_),(28,_),(27,_),(26,_)] 1 (Xd ⟨F1,F1,F1,F1,F1,F1,F1,(by exact pb y (Lj (AW v G d l F b.1 B.M R) y y (.cons (XC y ⟨(si y),(si y),(si y),(si y),t⟩) (.cons (si y) (.cons (si y) .nil))) Xx<|w)),F1,F1,t⟩ (by exact⟨(λ_ _=>⟨_,y,y,sx [0,1,2,3,4,5] (gk S)<|⟨(iA n),[11,12],[(5,_),(4,_),(36,_)],y,y,y,y,Xg (z:=z6 [0,1,2,3,4,5])⟩⟩),t⟩)) ?_;exact RZ
  refine A ?_;apply Xa h y<;>intro o h;.obtain⟨W,T,h⟩:=bs h;refine Lc [(4,_),(5,_)] [some (3,[[.ipt 2 [[cL a,mI e]] 0 0,Vh,Vj]]),some (4,[[.ipt 2 [[cL v,mI G]] 0 0,tL d,tL l,tL F]]),Xw L i 3 4 5 Q,some (2,map (F5 (λx=>iA x)) f),some (2,map (F5 (λx=>.agg (zn x))) m),sT Q] [] Y8 [(5,_),(4,_),(49,_),(48,_),(47,_),(46,_),(45,_),(44,_),(43,_),(42,_),(41,_),(40,_),(39,_)] 0 (Xg ⟨F1,F1,F1,F1,F1,F1,F1,F1,(by exact pb y (Lj (AR v G d l F B.C B.M T) y y (.cons (XC y ⟨(si y),(si y),(si y),(si y),t⟩) (.cons (si y) (.cons (si y) .nil))) Xx<|w)),F1,F1,F1,F1,t⟩ (z6 [0,1,2,3,4,5])) ?_;exact RZ
  refine A ?_;apply Xa h y<;>intro p h;.obtain⟨c,q8,h⟩:=bs h;refine XA [(0,_),(3,_),(6,_),(7,_)] [some (3,[[.ipt 2 [[cL a,mI e]] 0 0,Vh,Vj]]),some (4,[[.ipt 2 [[cL v,mI G]] 0 0,tL d,tL l,tL F]]),Xw L i 3 4 5 Q,some (2,map (F5 (λx=>iA x)) f),some (2,map (F5 (λx=>.agg (zn x))) m),sT Q,some (4,[(zs B)]),some (10,[(zd c.2.1)])] [14] Y9 [(6,_),(64,_),(63,_),(62,_),(52,_),(61,_),(60,_),(59,_),(58,_),(57,_),(56,_),(55,_),(54,_),(53,_)] 1 (Xd (z:=by exact⟨(λ_ _=>⟨_,y,y,La ti y y y<|⟨.any,[],[],y,y,y,t,Xg (z:=z6 [0,1,2,3,4,5,6,7])⟩⟩),t⟩)) ?_;exact⟨⟨c.1,c.2.1.Name,c.2.1.Params,c.2.1.Ret,c.2.1.Static,c.2.1.Abstract,c.2.1.Locals,c.2.1.Stack,c.2.1.Code,c.2.1.Maps,c.2.1.Traps⟩,h,zl [0,1,2,3,4,5,6,7]⟩
  apply zc;exact⟨⟨b.1,b.2.1.Name,b.2.1.Params,b.2.1.Ret,b.2.1.Static,b.2.1.Abstract,b.2.1.Locals,b.2.1.Stack,b.2.1.Code,b.2.1.Maps,b.2.1.Traps⟩,h,zl [0,1,2,3,4,5,6,7]⟩
 rintro⟨q,s,D,E,H,I,J,K,N,O,P⟩ h;obtain⟨Y,U,h⟩:=bs h;refine Lc [(4,_),(5,_)] [some (3,[[.ipt 2 [[cL a,mI e]] 0 0,Vh,Vj]]),some (4,[[.ipt 2 [[cL v,mI G]] 0 0,tL d,tL l,tL F]]),Xw L i 3 4 5 Q,some (2,map (F5 (λx=>iA x)) f),some (2,map (F5 (λx=>.agg (zn x))) m),sT Q] [] Y4 [(5,_),(4,_),(74,_),(73,_),(72,_),(71,_),(70,_),(69,_),(68,_),(67,_),(66,_),(65,_)] 0 (Xg ⟨F1,F1,F1,F1,F1,F1,F1,(by exact pb y (Lj (AW v G d l F q B.M U) y y (.cons (XC y ⟨(si y),(si y),(si y),(si y),t⟩) (.cons (si y) (.cons (si y) .nil))) Xx<|w)),F1,(by exact pb y (pc (Ty (zb.mk s D E H I J K N O P) y) y y y<|w)),F1,F1,t⟩ (z6 [0,1,2,3,4,5])) ?_;exact RZ
def Gn(a:zp)(b:Int)(c:Int):Option (X1):=some (X1.mk a.Op a.A b c)
def I9(d:Vr)(e:T2)(f:T1)(i:T1)(j:T1)(a:zp)(b:Bool):Option (X1):=cond b ((Gm d e f i j a.C).bind λc=>Gn a c 0) (Gn a 0 0)
def GN(s:Vr)(v:T2)(b:Vr)(c:T2)(d:T1)(e:T1)(f:T1)(x:Vr)(B:T2)(j:T2)(l:List (T0×zy))(m:T1)(a:zp)(n:Bool):Option (X1):=cond n ((IA s v b c d e f x B j l m a).bind λi=>Gn a i.1 i.2) (cond (a.Op==49) ((Gm b c d e f [91,73]).bind λo=>Gn a o 0) (cond (a.Op==50) ((ED a.C).bind λp=>(Gm b c d e f p).bind λq=>Gn a q 0) (cond (a.Op==56) (I9 b c d e f a (a.Op==56)) (I9 b c d e f a (a.Op==57)))))
def WN(e:Vr)(f:T2)(i:Vr)(j:T2)(l:T1)(m:T1)(n:T1)(o:Vr)(p:T2)(b:T2)(c:List (T0×zy))(d:T1)(a:zp)(s:Bool):Option (X1):=cond s ((Wq e f a.C a.M).bind λq=>(MU i j l m n q.1 a.M).bind λv=>(Ol e f i j l m n o p b c d q.1).bind λx=>Gn a v x) (cond (a.Op==42) (GN e f i j l m n o p b c d a (a.Op==42)) (cond (a.Op==43) (GN e f i j l m n o p b c d a (a.Op==43)) (cond (a.Op==44) (GN e f i j l m n o p b c d a (a.Op==44)) (GN e f i j l m n o p b c d a (a.Op==45)))))
def WO(f:Vr)(i:T2)(j:Vr)(l:T2)(m:T1)(n:T1)(o:T1)(p:Vr)(q:T2)(b:T2)(c:List (T0×zy))(d:T1)(a:zp)(s:Bool):Option (X1):=cond s ((Wq f i a.C a.M).bind λv=>(IK j l m n o a.C a.M).bind λe=>(Dh v.2.1.Type_).bind λx=>cond x (Gn a e 1) (Gn a e 0)) (cond (a.Op==40) (WN f i j l m n o p q b c d a (a.Op==40)) (WN f i j l m n o p q b c d a (a.Op==41)))
def G9(m:Vr)(n:T2)(e:Vr)(f:T2)(i:T1)(j:T1)(l:T1)(o:Vr)(p:T2)(b:T2)(c:List (T0×zy))(d:T1)(a:zp):Option (X1):=cond (a.Op==37) ((Gm e f i j l a.C).bind λq=>(Ol m n e f i j l o p b c d a.C).bind λs=>Gn a q s) (cond (a.Op==38) (WO m n e f i j l o p b c d a (a.Op==38)) (WO m n e f i j l o p b c d a (a.Op==39)))
theorem nj{b:T2}{B:zp}{r:X1}(h:G9 a e v G d l F L c b m Q B=some r):VE 145 [Vg,.agg (zs B)] [.one 3 [.ipt 2 [[cL a,mI e]] 0 0,Vh,Vj],.one 4 [.ipt 2 [[cL v,mI G]] 0 0,tL d,tL l,tL F],.one 4 [.ipt 2 [[cL L,mI c]] 0 0,.mmp 3,.mmp 4,.msl 5 0 (length Q)],.many 2 (map (F5 (λx=>iA x)) b),.many 2 (map (F5 (λx=>.agg (zn x))) m),.many 1 (map Xe Q)] (.agg (Um r)) [.one 3 [.ipt 2 [[cL a,mI e]] 0 0,Vh,Vj],.one 4 [.ipt 2 [[cL v,mI G]] 0 0,tL d,tL l,tL F],.one 4 [.ipt 2 [[cL L,mI c]] 0 0,.mmp 3,.mmp 4,.msl 5 0 (length Q)],.many 2 (map (F5 (λx=>iA x)) b),.many 2 (map (F5 (λx=>.agg (zn x))) m),.many 1 (map Xe Q)]:=by
 refine⟨⟨t,t,t,Xo (sz:=2) (λ_=>y),Xo (sz:=2) (λ_=>y),Xo (sz:=1) (λ_=>y),t⟩,zK func145 y kz y ?_⟩;refine A ?_;refine A ?_;refine zY (X:=Int×Int) (λz=>[(4,Vn),(5,Vo)]) (λz=>[some (3,[[.ipt 2 [[cL a,mI e]] 0 0,Vh,Vj]]),some (4,[[.ipt 2 [[cL v,mI G]] 0 0,tL d,tL l,tL F]]),Xw L c 3 4 5 Q,some (2,map (F5 (λx=>iA x)) b),some (2,map (F5 (λx=>.agg (zn x))) m),sT Q,some (4,[[iA 0,iA 0,iA 0,iA 0]]),some (4,[[iA B.Op,iA B.A,iA z.1,iA z.2]])]) (λz=>Gn B z.1 z.2=some r) ?_ ?_
 .refine A ?_;refine zg<|A ?_;apply Xa h y<;>intro U h
  .obtain⟨o,q2,i,q3,h⟩:=F6 h;refine XA [(4,Vn),(5,Vo)] [some (3,[[.ipt 2 [[cL a,mI e]] 0 0,Vh,Vj]]),some (4,[[.ipt 2 [[cL v,mI G]] 0 0,tL d,tL l,tL F]]),Xw L c 3 4 5 Q,some (2,map (F5 (λx=>iA x)) b),some (2,map (F5 (λx=>.agg (zn x))) m),sT Q,some (4,[[iA 0,iA 0,iA 0,iA 0]]),some (4,[[iA B.Op,iA B.A,iA o,iA i]])] [10,12,14] [0,1,2,3,4,5,6,7,8,9,11] [(32,_),(30,_),(29,_),(28,_),(27,_),(26,_),(25,_),(24,_),(23,_),(22,_),(21,_)] 3 (Xd ⟨F1,F1,F1,F1,F1,F1,(by exact pb y (Lj (HT v G d l F B.C q2) y y (.cons (XC y ⟨(si y),(si y),(si y),(si y),t⟩) (.cons (si y) .nil)) Xx<|w)),F1,F1,F1,F1,t⟩ (by exact⟨(λ_ _=>⟨_,y,y,sx [0,1,2,3,4,5] (gk q3)<|⟨(iA i),[],[(31,_)],y,y,y,y,Xd (z:=by exact⟨nv,(λ_ _=>⟨_,y,y,La ti y y y<|⟨.any,[13],[(33,_)],y,y,y,t,Xd (z:=by exact⟨nv,nv,(λ_ _=>⟨_,y,y,La ti y y y<|⟨.any,[],[],y,y,y,t,Xg (z:=z6 [0,1,2,3,4,5,7,8])⟩⟩),t⟩)⟩⟩),nw,t⟩)⟩⟩),nw,nw,t⟩)) ?_;exact⟨⟨o,i⟩,h,zl [0,1,2,3,4,5,6,7]⟩
  refine zY (X:=Bool) (λz=>[(0,Vg),(3,Vn),(4,Vo),(5,Vp),(18,iA B.Op),(34,bA z)]) (λz=>[some (3,[[.ipt 2 [[cL a,mI e]] 0 0,Vh,Vj]]),some (4,[[.ipt 2 [[cL v,mI G]] 0 0,tL d,tL l,tL F]]),Xw L c 3 4 5 Q,some (2,map (F5 (λx=>iA x)) b),some (2,map (F5 (λx=>.agg (zn x))) m),sT Q,some (4,[(zs B)]),some (4,[[iA 0,iA 0,iA 0,iA 0]]),some (4,[[iA B.Op,iA B.A,iA 0,iA 0]])]) (λz=>WO a e v G d l F L c b m Q B z=some r) ?_ ?_
  .refine A ?_;apply Xa h y<;>intro V h;.apply zc;exact⟨(B.Op==38),h,zl [0,1,2,3,4,5,6,7,8]⟩
   refine A ?_;exact(⟨(B.Op==39),h,zl [0,1,2,3,4,5,6,7,8]⟩)
  rintro v16 h;apply Xa h y<;>intro W h
  .obtain⟨p,q6,h⟩:=bs h;refine Lc [(0,_),(3,_),(4,_),(5,_),(7,_)] [some (3,[[.ipt 2 [[cL a,mI e]] 0 0,Vh,Vj]]),some (4,[[.ipt 2 [[cL v,mI G]] 0 0,tL d,tL l,tL F]]),Xw L c 3 4 5 Q,some (2,map (F5 (λx=>iA x)) b),some (2,map (F5 (λx=>.agg (zn x))) m),sT Q,some (4,[(zs B)]),some (4,[[iA 0,iA 0,iA 0,iA 0]]),some (4,[[iA B.Op,iA B.A,iA 0,iA 0]]),some (3,[(zv p.2.1)])] [13,15] Y8 [(49,_),(48,_),(47,_),(37,_),(46,_),(45,_),(44,_),(43,_),(42,_),(41,_),(40,_),(39,_),(38,_)] 2 (Xd (z:=by exact⟨(λ_ _=>⟨_,y,y,al 9 ti y<|⟨(.mpt 9 0 0),[14],[(6,_),(7,_)],y,y,y,y,Xd (z:=by exact⟨nv,(λ_ _=>⟨_,y,y,La ti y y y<|⟨.any,[16],[(8,_)],y,y,y,t,Xg (z:=z6 [0,1,2,3,4,5,6,7,8,9])⟩⟩),t⟩)⟩⟩),nw,t⟩)) ?_;obtain⟨j,q7,h⟩:=bs h;refine Lc [(4,Vn),(5,Vo),(7,Vp)] [some (3,[[.ipt 2 [[cL a,mI e]] 0 0,Vh,Vj]]),some (4,[[.ipt 2 [[cL v,mI G]] 0 0,tL d,tL l,tL F]]),Xw L c 3 4 5 Q,some (2,map (F5 (λx=>iA x)) b),some (2,map (F5 (λx=>.agg (zn x))) m),sT Q,some (4,[[iA 0,iA 0,iA 0,iA 0]]),some (4,[[iA B.Op,iA B.A,iA j,iA 0]]),some (3,[(zv p.2.1)])] [10] Va [(59,_),(58,_),(57,_),(56,_),(55,_),(54,_),(53,_),(52,_),(51,_),(50,_)] 1 (Xd ⟨F1,F1,F1,F1,F1,F1,F1,F1,(by exact pb y (Lj (gz v G d l F B.C B.M q7) y y (.cons (XC y ⟨(si y),(si y),(si y),(si y),t⟩) (.cons (si y) (.cons (si y) .nil))) Xx<|w)),F1,t⟩ (by exact⟨(λ_ _=>⟨_,y,y,La ti y y y<|⟨.any,[],[],y,y,y,t,Xg (z:=z6 [0,1,2,3,4,5,7,8,9])⟩⟩),t⟩)) ?_;obtain⟨v19,q8,h⟩:=bs h;refine A ?_;apply Xa h y<;>intro Y h;.refine A ?_;exact(⟨⟨j,1⟩,h,zl [0,1,2,3,4,5,6,7]⟩)
   apply zc;exact⟨⟨j,0⟩,h,zl [0,1,2,3,4,5,6,7]⟩
  refine zY (X:=Bool) (λz=>[(0,Vg),(3,Vn),(4,Vo),(5,Vp),(18,iA B.Op),(64,bA z)]) (λz=>[some (3,[[.ipt 2 [[cL a,mI e]] 0 0,Vh,Vj]]),some (4,[[.ipt 2 [[cL v,mI G]] 0 0,tL d,tL l,tL F]]),Xw L c 3 4 5 Q,some (2,map (F5 (λx=>iA x)) b),some (2,map (F5 (λx=>.agg (zn x))) m),sT Q,some (4,[(zs B)]),some (4,[[iA 0,iA 0,iA 0,iA 0]]),some (4,[[iA B.Op,iA B.A,iA 0,iA 0]])]) (λz=>WN a e v G d l F L c b m Q B z=some r) ?_ ?_
  .refine A ?_;apply Xa h y<;>intro H h;.apply zc;exact⟨(B.Op==40),h,zl [0,1,2,3,4,5,6,7,8]⟩
   refine A ?_;exact(⟨(B.Op==41),h,zl [0,1,2,3,4,5,6,7,8]⟩)
  rintro v20 h;apply Xa h y<;>intro I h;.obtain⟨q,q12,h⟩:=bs h;refine Lc [(0,_),(3,_),(4,_),(5,_),(9,_)] [some (3,[[.ipt 2 [[cL a,mI e]] 0 0,Vh,Vj]]),some (4,[[.ipt 2 [[cL v,mI G]] 0 0,tL d,tL l,tL F]]),Xw L c 3 4 5 Q,some (2,map (F5 (λx=>iA x)) b),some (2,map (F5 (λx=>.agg (zn x))) m),sT Q,some (4,[(zs B)]),some (4,[[iA 0,iA 0,iA 0,iA 0]]),some (4,[[iA B.Op,iA B.A,iA 0,iA 0]])] [13,15] Y8 [(79,_),(78,_),(77,_),(67,_),(76,_),(75,_),(74,_),(73,_),(72,_),(71,_),(70,_),(69,_),(68,_)] 2 (Xd (z:=by exact⟨(λ_ _=>⟨_,y,y,al 9 ti y<|⟨(.mpt 9 0 0),[14],[(9,_),(10,_)],y,y,y,y,Xd (z:=by exact⟨nv,(λ_ _=>⟨_,y,y,La ti y y y<|⟨.any,[16],[(11,_)],y,y,y,t,Xg (z:=z6 [0,1,2,3,4,5,6,7,8])⟩⟩),t⟩)⟩⟩),nw,t⟩)) ?_;obtain⟨s,Z,n,q14,h⟩:=F6 h;refine XA [(4,Vn),(5,Vo)] [some (3,[[.ipt 2 [[cL a,mI e]] 0 0,Vh,Vj]]),some (4,[[.ipt 2 [[cL v,mI G]] 0 0,tL d,tL l,tL F]]),Xw L c 3 4 5 Q,some (2,map (F5 (λx=>iA x)) b),some (2,map (F5 (λx=>.agg (zn x))) m),sT Q,some (4,[[iA 0,iA 0,iA 0,iA 0]]),some (4,[[iA B.Op,iA B.A,iA s,iA n]])] [10,12,14] [0,1,2,3,4,5,6,7,8,9,11] [(91,_),(89,_),(88,_),(87,_),(86,_),(85,_),(84,_),(83,_),(82,_),(81,_),(80,_)] 3 (Xd ⟨F1,F1,F1,F1,F1,F1,F1,(by exact pb y (Lj (gK v G d l F q.1 B.M Z) y y (.cons (XC y ⟨(si y),(si y),(si y),(si y),t⟩) (.cons (si y) (.cons (si y) .nil))) Xx<|w)),F1,F1,F1,t⟩ (by exact⟨(λ_ _=>⟨_,y,y,sx [0,1,2,3,4,5] (gk q14)<|⟨(iA n),[],[(90,_)],y,y,y,y,Xd (z:=by exact⟨nv,(λ_ _=>⟨_,y,y,La ti y y y<|⟨.any,[13],[(92,_)],y,y,y,t,Xd (z:=by exact⟨nv,nv,(λ_ _=>⟨_,y,y,La ti y y y<|⟨.any,[],[],y,y,y,t,Xg (z:=z6 [0,1,2,3,4,5,7,8])⟩⟩),t⟩)⟩⟩),nw,t⟩)⟩⟩),nw,nw,t⟩)) ?_;exact⟨⟨s,n⟩,h,zl [0,1,2,3,4,5,6,7]⟩
  refine zY (X:=Bool) (λz=>[(0,Vg),(3,Vn),(4,Vo),(5,Vp),(18,iA B.Op),(93,bA z)]) (λz=>[some (3,[[.ipt 2 [[cL a,mI e]] 0 0,Vh,Vj]]),some (4,[[.ipt 2 [[cL v,mI G]] 0 0,tL d,tL l,tL F]]),Xw L c 3 4 5 Q,some (2,map (F5 (λx=>iA x)) b),some (2,map (F5 (λx=>.agg (zn x))) m),sT Q,some (4,[(zs B)]),some (4,[[iA 0,iA 0,iA 0,iA 0]]),some (4,[[iA B.Op,iA B.A,iA 0,iA 0]])]) (λz=>GN a e v G d l F L c b m Q B z=some r) ?_ ?_
  .refine A ?_;apply Xa h y<;>intro J h;.apply zc;exact⟨(B.Op==42),h,zl [0,1,2,3,4,5,6,7,8]⟩
   refine A ?_;apply Xa h y<;>intro K h;.apply zc;exact⟨(B.Op==43),h,zl [0,1,2,3,4,5,6,7,8]⟩
   refine A ?_;apply Xa h y<;>intro N h;.apply zc;exact⟨(B.Op==44),h,zl [0,1,2,3,4,5,6,7,8]⟩
   refine A ?_;exact(⟨(B.Op==45),h,zl [0,1,2,3,4,5,6,7,8]⟩)
  rintro v24 h;apply Xa h y<;>intro O h;.obtain⟨f,q19,h⟩:=bs h;refine A ?_;refine u<|sx [0,1,2,3,4,5] (nO q19)<|zw (VC:=[(4,Vn),(5,Vo),(101,.tup [iA f.1,iA f.2])]) (VJ:=[some (3,[[.ipt 2 [[cL a,mI e]] 0 0,Vh,Vj]]),some (4,[[.ipt 2 [[cL v,mI G]] 0 0,tL d,tL l,tL F]]),Xw L c 3 4 5 Q,some (2,map (F5 (λx=>iA x)) b),some (2,map (F5 (λx=>.agg (zn x))) m),sT Q,some (4,[[iA 0,iA 0,iA 0,iA 0]]),some (4,[[iA B.Op,iA B.A,iA 0,iA 0]])]) (zl [0,1,2,3,4,5,7,8])<|A ?_;exact(⟨⟨f.1,f.2⟩,h,zl [0,1,2,3,4,5,6,7]⟩)
  refine A ?_;apply Xa h y<;>intro P h;.obtain⟨v26,q21,h⟩:=bs h;refine A ?_;refine u<|Lj (HT v G d l F [91,73] q21) y y (.cons (XC y ⟨(si y),(si y),(si y),(si y),t⟩) (.cons (si y) .nil)) Xx<|A ?_;exact(⟨⟨v26,0⟩,h,zl [0,1,2,3,4,5,7,8]⟩)
  refine A ?_;apply Xa h y<;>intro R h;.obtain⟨v27,q23,D,q24,h⟩:=F6 h;refine XA [(4,Vn),(5,Vo)] [some (3,[[.ipt 2 [[cL a,mI e]] 0 0,Vh,Vj]]),some (4,[[.ipt 2 [[cL v,mI G]] 0 0,tL d,tL l,tL F]]),Xw L c 3 4 5 Q,some (2,map (F5 (λx=>iA x)) b),some (2,map (F5 (λx=>.agg (zn x))) m),sT Q,some (4,[[iA 0,iA 0,iA 0,iA 0]]),some (4,[[iA B.Op,iA B.A,iA D,iA 0]])] [9] Y1 [(124,_),(123,_),(122,_),(121,_),(120,_),(119,_),(118,_),(117,_),(116,_)] 1 (Xd ⟨F1,F1,F1,F1,F1,F1,F1,(by exact pb y (Lj (HT v G d l F v27 q24) y y (.cons (XC y ⟨(si y),(si y),(si y),(si y),t⟩) (.cons (si y) .nil)) Xx<|w)),F1,t⟩ (by exact⟨(λ_ _=>⟨_,y,y,La ti y y y<|⟨.any,[],[],y,y,y,t,Xg (z:=z6 [0,1,2,3,4,5,7,8])⟩⟩),t⟩)) ?_;exact⟨⟨D,0⟩,h,zl [0,1,2,3,4,5,6,7]⟩
  refine zY (X:=Bool) (λz=>[(0,Vg),(3,Vn),(4,Vo),(5,Vp),(125,bA z)]) (λz=>[some (3,[[.ipt 2 [[cL a,mI e]] 0 0,Vh,Vj]]),some (4,[[.ipt 2 [[cL v,mI G]] 0 0,tL d,tL l,tL F]]),Xw L c 3 4 5 Q,some (2,map (F5 (λx=>iA x)) b),some (2,map (F5 (λx=>.agg (zn x))) m),sT Q,some (4,[(zs B)]),some (4,[[iA 0,iA 0,iA 0,iA 0]]),some (4,[[iA B.Op,iA B.A,iA 0,iA 0]])]) (λz=>I9 v G d l F B z=some r) ?_ ?_
  .refine A ?_;apply Xa h y<;>intro S h;.apply zc;exact⟨(B.Op==56),h,zl [0,1,2,3,4,5,6,7,8]⟩
   refine A ?_;exact(⟨(B.Op==57),h,zl [0,1,2,3,4,5,6,7,8]⟩)
  rintro v29 h;apply Xa h y<;>intro T h;.obtain⟨E,q27,h⟩:=bs h;refine XA [(4,Vn),(5,Vo)] [some (3,[[.ipt 2 [[cL a,mI e]] 0 0,Vh,Vj]]),some (4,[[.ipt 2 [[cL v,mI G]] 0 0,tL d,tL l,tL F]]),Xw L c 3 4 5 Q,some (2,map (F5 (λx=>iA x)) b),some (2,map (F5 (λx=>.agg (zn x))) m),sT Q,some (4,[[iA 0,iA 0,iA 0,iA 0]]),some (4,[[iA B.Op,iA B.A,iA E,iA 0]])] [8] YU [(135,_),(134,_),(133,_),(132,_),(131,_),(130,_),(129,_),(128,_)] 1 (Xd ⟨F1,F1,F1,F1,F1,F1,(by exact pb y (Lj (HT v G d l F B.C q27) y y (.cons (XC y ⟨(si y),(si y),(si y),(si y),t⟩) (.cons (si y) .nil)) Xx<|w)),F1,t⟩ (by exact⟨(λ_ _=>⟨_,y,y,La ti y y y<|⟨.any,[],[],y,y,y,t,Xg (z:=z6 [0,1,2,3,4,5,7,8])⟩⟩),t⟩)) ?_;exact⟨⟨E,0⟩,h,zl [0,1,2,3,4,5,6,7]⟩
  apply zc;exact⟨⟨0,0⟩,h,zl [0,1,2,3,4,5,7,8]⟩
 rintro⟨v31,v32⟩ h;refine A ?_;exact RZ
def mO(a:zb)(b:VB)(c:VA):Option (Zd):=some (Zd.mk (Ua a) a.Locals a.Stack (!(a.Ret==[86])) b c)
def TQ(b:VA)(c:Int)(a:zU)(d:Int):zL ((VA)×Int) ((VA)) (Zd):=(Xu 32 b [(ZO.mk a.From a.To a.At d)]).bind λe=>some (.inl (e,(i64.wrap (c+1))))
def BR(f:Vr)(i:T2)(j:T1)(l:T1)(m:T1)(d:zb)(c:VA)(a:Int):zL ((VA)×Int) ((VA)) (Zd):=cond (decide (a<(length d.Traps:Int))) ((idx d.Traps a).bind λb=>cond (!(b.C==[])) ((Gm f i j l m b.C).bind λe=>TQ c a b e) (TQ c a b (-1))) (some (.inr (.inl c)))
def eu(d:Vr)(e:T2)(f:T1)(i:T1)(j:T1)(a:zb)(c:VB):Option (Zd):=(zk (λz=>BR d e f i j a z.1 z.2) ([],0)).bind λo=>zE o (λb=>mO a c b) some
def BS(n:Vr)(o:T2)(p:T1)(q:T1)(s:T1)(v:Vr)(x:T2)(B:T2)(e:List (T0×zy))(f:T1)(b:zu)(c:zb)(d:VB)(a:Int):zL ((VB)×Int) ((VB)) (Zd):=cond (decide (a<(length c.Code:Int))) ((idx c.Code a).bind λi=>(G9 b.l b.at_ n o p q s v x B e f i).bind λj=>(Xu 32 d [j]).bind λm=>some (.inl (m,(i64.wrap (a+1))))) (some (.inr (.inl d)))
def BF(v:Option zu)(f:Vr)(i:T2)(j:T1)(m:T1)(n:T1)(x:Vr)(B:T2)(C:T2)(p:List (T0×zy))(q:T1)(s:T0)(a:Int):Option (Zd):=ZG v (none) (λc=>(zI c.l c.at_ s).bind λd=>cond ((decide (a<0))||(decide ((length d.1.Methods:Int)<=a))) (some (Zd.mk 0 0 0 false [] [])) ((idx d.1.Methods a).bind λe=>(zk (λz=>BS f i j m n x B C p q c e z.1 z.2) ([],0)).bind λo=>zE o (λb=>eu f i j m n e b) some))
theorem et{p:T1}{E:T0}{i:Int}{r:Zd}(h:BF D a e d p F v G M m Q E i=some r):VE 67 [Xz 2 XX D,Vg,Vh,sA E,iA i] [.one 4 [.ipt 2 [[cL a,mI e]] 0 0,tL d,tL p,tL F],.one 4 [.ipt 2 [[cL v,mI G]] 0 0,.mmp 2,.mmp 3,.msl 4 0 (length Q)],.many 2 (map (F5 (λx=>iA x)) M),.many 2 (map (F5 (λx=>.agg (zn x))) m),.many 1 (map Xe Q)] (.agg (ZZ r)) [.one 4 [.ipt 2 [[cL a,mI e]] 0 0,tL d,tL p,tL F],.one 4 [.ipt 2 [[cL v,mI G]] 0 0,.mmp 2,.mmp 3,.msl 4 0 (length Q)],.many 2 (map (F5 (λx=>iA x)) M),.many 2 (map (F5 (λx=>.agg (zn x))) m),.many 1 (map Xe Q)]:=by
 refine⟨⟨t,t,Xo (sz:=2) (λ_=>y),Xo (sz:=2) (λ_=>y),Xo (sz:=1) (λ_=>y),t⟩,zK func67 y kz y ?_⟩;unfold BF at h
 rcases D with _|n
 .replace h:=L9 h;cases h
 replace h:=L8 h;refine A ?_;obtain⟨v15,Z,h⟩:=bs h;refine rg y<|u<|mv y<|u<|mv y<|u<|pc (gE n.l n.at_ E Z) y y y<|u<|mv y<|u<|ex y y<|u<|ex y y<|u<|al 6 ti y<|u<|La ti y y y<|u<|Lw y<|zx ?_;apply ze;refine rg y<|u<|mv y<|u<|lss ti y y<|u<|mv y<|Uj (j:=2) 5 y y y y y Lr (λs=>g y s<|mv y<|g y s<|fa ti y y y<|g y s<|ld ti y y<|g y s<|Mu ti y y<|g y s<|geq ti y y<|zx (MC [30,31,32,33,34] 5 s y y y y)) Mq<|zx ?_;apply Xa h y<;>intro O h
 .refine A ?_;exact Nv
 apply zc;obtain⟨c,q4,h⟩:=bs h;refine A ?_;refine Lc [(0,.ipt 2 [[cL n.l,mI n.at_]] 0 0),(1,Vg),(2,Vh),(10,Vm),(13,Vn),(14,Vo)] [some (4,[[.ipt 2 [[cL a,mI e]] 0 0,tL d,tL p,tL F]]),Xw v G 2 3 4 Q,some (2,map (F5 (λx=>iA x)) M),some (2,map (F5 (λx=>.agg (zn x))) m),sT Q,some (6,[[iA 0,iA 0,iA 0,bA false,nS,nS]]),some (10,[(zd c)]),some (6,[[iA (Ua c),iA c.Locals,iA c.Stack,bA (!(c.Ret==[86])),nS,nS]])] [10,11] [9,8,7,6,5,4,3,2,1,0] [(51,.agg [iA (Ua c),iA c.Locals,iA c.Stack,bA (!(c.Ret==[86])),nS,nS]),(50,iA c.Stack),(49,.mpt 7 0 6),(48,iA c.Locals),(47,.mpt 7 0 5),(46,bA (!(c.Ret==[86]))),(45,sA c.Ret),(44,.mpt 7 0 2),(43,iA (Ua c)),(42,.agg (zd c))] 2 (Z1 ⟨(pb y (bd ti y y y w)),(pb y (ld ti y y w)),(pb y (fa ti y y y w)),(pb y (ld ti y y w)),(pb y (fa ti y y y w)),(pb y (MI ti y y w)),(pb y (ld ti y y w)),(pb y (fa ti y y y w)),(pb y (pc (Ty c y) y y y w)),(pb y (ld ti y y w)),t⟩ ⟨(λ_ _=>⟨_,y,y,al 8 ti y<|⟨(Vp),[],[(14,Vp)],y,y,kz,y,Z1 ⟨(pb y (bd ti y y y w)),(pb y (ld ti y y w)),(pb y (fa ti y y y w)),(pb y (ld ti y y w)),(pb y (fa ti y y y w)),(pb y (MI ti y y w)),(pb y (ld ti y y w)),(pb y (fa ti y y y w)),(pb y (pc (Ty c y) y y y w)),(pb y (ld ti y y w)),t⟩ ⟨nv,(λ_ _=>⟨_,y,y,La ti y y y<|⟨.any,[],[],y,y,kz,t,M5 (zl [0,1,2,3,4,5,7,8])⟩⟩),t⟩⟩⟩),nw,t⟩) ?_;refine A ?_;refine ze<|A ?_;obtain⟨o,ho,h⟩:=bs h;refine F7 ho (λz=>[(1,Vg),(10,Vm),(13,Vn),(14,Vo),(15,.mpt 9 0 0),(58,.isl 4 (map zs c.Code)),(59,iA (length c.Code:Int)),(60,iA z.2)]) (λz=>[some (4,[[.ipt 2 [[cL a,mI e]] 0 0,tL d,tL p,tL F]]),Xw v G 2 3 4 Q,some (2,map (F5 (λx=>iA x)) M),some (2,map (F5 (λx=>.agg (zn x))) m),sT Q,some (6,[[iA 0,iA 0,iA 0,bA false,nS,nS]]),some (10,[(zd c)]),some (6,[[iA (Ua c),iA c.Locals,iA c.Stack,bA (!(c.Ret==[86])),.msl 8 0 (length z.1),nS]]),some (4,map Um z.1),some (3,[[.ipt 2 [[cL n.l,mI n.at_]] 0 0,Vg,Vh]])]) (λb=>[(1,Vg),(10,Vm),(13,Vn),(14,Vo)]) (λb=>[some (4,[[.ipt 2 [[cL a,mI e]] 0 0,tL d,tL p,tL F]]),Xw v G 2 3 4 Q,some (2,map (F5 (λx=>iA x)) M),some (2,map (F5 (λx=>.agg (zn x))) m),sT Q,some (6,[[iA 0,iA 0,iA 0,bA false,nS,nS]]),some (10,[(zd c)]),some (6,[[iA (Ua c),iA c.Locals,iA c.Stack,bA (!(c.Ret==[86])),.msl 8 0 (length b),nS]]),some (4,map Um b)]) (λr env st=>Uy prog f67 5 (.agg (ZZ r)) [some (4,[[.ipt 2 [[cL a,mI e]] 0 0,tL d,tL p,tL F]]),Xw v G 2 3 4 Q,some (2,map (F5 (λx=>iA x)) M),some (2,map (F5 (λx=>.agg (zn x))) m),sT Q] env st) ⟨[0,1,2,3,4,5,6,7,.fresh 4,8],cv y (.mpt y)<|cv y (.mpt y)<|cv y (.mpt y)<|cv y (.mpt y)<|cv y (.mpt y)<|ce y y<|ce y y<|ce y y<|cn,y,⟨⟨_,y,XN (LO y)⟩,⟨_,y,XN ⟨ci y,.mmp y,.mmp y,.msl y,t⟩⟩,⟨_,y,XL (λ_=>y)⟩,⟨_,y,XL (λ_=>y)⟩,⟨_,y,XL (λ_=>y)⟩,⟨_,y,XN (LO y)⟩,⟨_,y,XN (LO y)⟩,⟨_,y,XN ⟨ci y,ci y,ci y,ci y,.nilown y,ci y,t⟩⟩,w,⟨_,y,XN ⟨ci y,.mpt y,.mpt y,t⟩⟩,t⟩,y,k⟩ ?_ ?_
 .rintro⟨v22,v23⟩ r h;refine A ?_;apply ze;apply Xa h y<;>intro P h;.refine zc<|ze<|zg ?_;obtain⟨R,q10,h⟩:=bs h;refine A ?_;refine u<|al 10 ti y<|A ?_;obtain⟨J,S,H,T,h⟩:=F6 h;refine XA [(1,_),(10,_),(13,_),(14,_),(15,_),(58,_),(59,_),(60,_)] [some (4,[[.ipt 2 [[cL a,mI e]] 0 0,tL d,tL p,tL F]]),Xw v G 2 3 4 Q,some (2,map (F5 (λx=>iA x)) M),some (2,map (F5 (λx=>.agg (zn x))) m),sT Q,some (6,[[iA 0,iA 0,iA 0,bA false,nS,nS]]),some (10,[(zd c)]),some (6,[[iA (Ua c),iA c.Locals,iA c.Stack,bA (!(c.Ret==[86])),.msl 8 0 (length H),nS]]),some (4,map Um H),some (3,[[.ipt 2 [[cL n.l,mI n.at_]] 0 0,Vg,Vh]])] [4,5,6,8] [0,1,2,3] [(67,_),(66,_),(65,_),(64,_)] 4 (Xd (z:=by exact⟨(λ_ _=>⟨_,y,y,sx [9,0,1,2,3,4] (nj S)<|⟨(.agg (Um J)),[],[(68,_)],y,y,y,y,Xd (z:=by exact⟨nv,(λ_ _=>⟨_,y,y,bl 11 ti y ti y YB YB y y y<|⟨(.msl 11 0 1),[],[(69,_)],y,y,y,y,Xd (z:=by exact⟨nv,nv,(λ_ _=>⟨_,y,y,Lo 12 ti y ti y y YB ti y y y y (Lx (f:=Um) (z:=[J]) y y) (λ_=>y) y T<|⟨(.msl 12 0 (length H)),[7],[(71,_),(70,_)],y,y,y,y,Xd (z:=by exact⟨nv,nv,nv,(λ_ _=>⟨_,y,y,La ti y y y<|⟨.any,[],[],y,y,y,t,Xg (z:=z6 [0,1,2,3,4,5,6,7,12,9])⟩⟩),t⟩)⟩⟩),nw,t⟩)⟩⟩),nw,nw,t⟩)⟩⟩),nw,nw,nw,t⟩)) ?_;refine A ?_;cases h;exact⟨_,y,zl [0,1,2,3,4,5,6,7,8,9]⟩
  apply zr;cases h;exact⟨y,_,y,zl [0,1,2,3,4,5,6,7,8]⟩
 rintro B rfl;refine zm<|ze<|A ?_;obtain⟨o,ho,h⟩:=bs h;refine F7 ho (λz=>[(1,Vg),(10,Vm),(14,Vn),(74,.isl 4 (map XF c.Traps)),(75,iA (length c.Traps:Int)),(76,iA z.2)]) (λz=>[some (4,[[.ipt 2 [[cL a,mI e]] 0 0,tL d,tL p,tL F]]),Xw v G 2 3 4 Q,some (2,map (F5 (λx=>iA x)) M),some (2,map (F5 (λx=>.agg (zn x))) m),sT Q,some (6,[[iA 0,iA 0,iA 0,bA false,nS,nS]]),some (6,[[iA (Ua c),iA c.Locals,iA c.Stack,bA (!(c.Ret==[86])),.msl 7 0 (length B),.msl 8 0 (length z.1)]]),some (4,map Um B),some (4,map G4 z.1)]) (λb=>[(10,Vm),(14,Vn)]) (λb=>[some (4,[[.ipt 2 [[cL a,mI e]] 0 0,tL d,tL p,tL F]]),Xw v G 2 3 4 Q,some (2,map (F5 (λx=>iA x)) M),some (2,map (F5 (λx=>.agg (zn x))) m),sT Q,some (6,[[iA 0,iA 0,iA 0,bA false,nS,nS]]),some (6,[[iA (Ua c),iA c.Locals,iA c.Stack,bA (!(c.Ret==[86])),.msl 7 0 (length B),.msl 8 0 (length b)]]),some (4,map Um B),some (4,map G4 b)]) (λr env st=>Uy prog f67 5 (.agg (ZZ r)) [some (4,[[.ipt 2 [[cL a,mI e]] 0 0,tL d,tL p,tL F]]),Xw v G 2 3 4 Q,some (2,map (F5 (λx=>iA x)) M),some (2,map (F5 (λx=>.agg (zn x))) m),sT Q] env st) ⟨[0,1,2,3,4,5,7,8,.fresh 4],cv y (.mpt y)<|cv y (.mpt y)<|cv y (.mpt y)<|ce y y<|ce y y<|ce y y<|cn,y,⟨⟨_,y,XN (LO y)⟩,⟨_,y,XN ⟨ci y,.mmp y,.mmp y,.msl y,t⟩⟩,⟨_,y,XL (λ_=>y)⟩,⟨_,y,XL (λ_=>y)⟩,⟨_,y,XL (λ_=>y)⟩,⟨_,y,XN (LO y)⟩,⟨_,y,XN ⟨ci y,ci y,ci y,ci y,.msl y,.nilown y,t⟩⟩,⟨_,y,XL (λ_=>y)⟩,w,t⟩,y,k⟩ ?_ ?_
 .rintro⟨I,K⟩ r h;refine A ?_;apply ze;apply Xa h y<;>intro L h
  .refine zc<|ze<|zg ?_;obtain⟨q,q19,h⟩:=bs h;refine A ?_;refine u<|al 9 ti y<|A ?_;refine A ?_;refine u<|al 10 ti y<|A ?_;refine zY (X:=Int) (λz=>[(1,Vg),(10,Vm),(14,Vn),(20,.mpt 9 0 0),(74,.isl 4 (map XF c.Traps)),(75,iA (length c.Traps:Int)),(76,iA K)]) (λz=>[some (4,[[.ipt 2 [[cL a,mI e]] 0 0,tL d,tL p,tL F]]),Xw v G 2 3 4 Q,some (2,map (F5 (λx=>iA x)) M),some (2,map (F5 (λx=>.agg (zn x))) m),sT Q,some (6,[[iA 0,iA 0,iA 0,bA false,nS,nS]]),some (6,[[iA (Ua c),iA c.Locals,iA c.Stack,bA (!(c.Ret==[86])),.msl 7 0 (length B),.msl 8 0 (length I)]]),some (4,map Um B),some (4,map G4 I),some (4,[[iA q.From,iA q.To,iA q.At,iA z]])]) (λz=>TQ I K q z=some r) ?_ ?_
   .refine A ?_;apply Xa h y<;>intro N h;.obtain⟨U,V,h⟩:=bs h;refine A ?_;refine u<|Lj (HT a e d p F q.C V) y y (.cons (XC y ⟨(si y),(si y),(si y),(si y),t⟩) (.cons (si y) .nil)) Xx<|A ?_;exact(⟨U,h,zl [0,1,2,3,4,5,6,7,8,10]⟩)
    apply zc;exact⟨(-1),h,zl [0,1,2,3,4,5,6,7,8,10]⟩
   rintro W h;obtain⟨v39,Y,h⟩:=bs h;refine A ?_;refine u<|bl 10 ti y ti y YB YB y y y<|u<|Lo 11 ti y ti y y YB ti y y y y (Lx (f:=G4) (z:=[(ZO.mk q.From q.To q.At W)]) y y) (λ_=>y) y Y<|A ?_;refine A ?_;cases h;exact⟨_,y,zl [0,1,2,3,4,5,6,7,11]⟩
  apply zr;cases h;exact⟨y,_,y,zl [0,1,2,3,4,5,6,7,8]⟩
 rintro v40 rfl;refine zm<|A ?_;exact Nv
variable {r:Bool}{T:List Int}{c:T0}
def BL(j:Option zu)(m:Vr)(n:T2)(o:T1)(p:T1)(q:T1)(s:Vr)(v:T2)(x:T2)(c:List (T0×zy))(d:T1)(b:T0):Option (Int):=ZG j (none) (λa=>(Kz a.l a.at_ b).bind λe=>(M2 e a.l a.at_ s v x c d).bind λf=>cond (!f) (some (-1)) ((Gm m n o p q b).bind λi=>some i))
theorem Am{f:T1}{r:Int}(h:BL D a e d f F v G M m Q b=some r):VE 64 [Xz 2 XX D,Vg,Vh,sA b] [.one 4 [.ipt 2 [[cL a,mI e]] 0 0,tL d,tL f,tL F],.one 4 [.ipt 2 [[cL v,mI G]] 0 0,.mmp 2,.mmp 3,.msl 4 0 (length Q)],.many 2 (map (F5 (λx=>iA x)) M),.many 2 (map (F5 (λx=>.agg (zn x))) m),.many 1 (map Xe Q)] (iA r) [.one 4 [.ipt 2 [[cL a,mI e]] 0 0,tL d,tL f,tL F],.one 4 [.ipt 2 [[cL v,mI G]] 0 0,.mmp 2,.mmp 3,.msl 4 0 (length Q)],.many 2 (map (F5 (λx=>iA x)) M),.many 2 (map (F5 (λx=>.agg (zn x))) m),.many 1 (map Xe Q)]:=by
 refine⟨⟨t,t,Xo (sz:=2) (λ_=>y),Xo (sz:=2) (λ_=>y),Xo (sz:=1) (λ_=>y),t⟩,zK func64 y kz y ?_⟩;unfold BL at h
 rcases D with _|c
 .replace h:=L9 h;cases h
 replace h:=L8 h;refine A ?_;apply ze;obtain⟨i,n,q,o,h⟩:=F6 h;refine A ?_;refine u<|sx [] (GM n)<|zw (VC:=[(1,Vg),(3,sA b),(4,Vm),(6,Vn),(11,.msl 7 0 (length i))]) (VJ:=[some (4,[[.ipt 2 [[cL a,mI e]] 0 0,tL d,tL f,tL F]]),Xw v G 2 3 4 Q,some (2,map (F5 (λx=>iA x)) M),some (2,map (F5 (λx=>.agg (zn x))) m),sT Q,some (1,[[.ipt 2 [[cL c.l,mI c.at_]] 0 0]]),some (1,[[Vh]]),sT i]) (zl [0,1,2,3,4,5,6,7])<|u<|mf y y<|u<|Lj (g6 i c.l c.at_ v G M m Q o) y y (.cons (XU y (λ_=>y)) (.cons (ZB t ⟨(XC y ⟨(si y),t⟩),(XC y ⟨(XC y ⟨(si y),(Ee y (λ_=>y)),(Ee y (λ_=>y)),(XU y (λ_=>y)),t⟩),t⟩),t⟩) .nil)) Xx<|A ?_;apply Xa h y<;>intro j h
 .refine A ?_;exact Nv
 apply zc;obtain⟨s,p,h⟩:=bs h;refine A ?_;refine u<|Lj (HT a e d f F b p) y y (.cons (XC y ⟨(si y),(si y),(si y),(si y),t⟩) (.cons (si y) .nil)) Xx<|A ?_;exact Nv
def uR:Option (Bool):=(uQ).bind λa=>some a
theorem el(h:uR=some r):VD 138 [] (bA r):=by refine zi func138 y kz y y<|A ?_;obtain⟨a,b,h⟩:=bs h;refine A ?_;exact F4
instance:VF 138 [] (uR) bA:=⟨λ_=>el ⟩
def uP:Option (Bool):=(uO).bind λa=>some a
theorem ek(h:uP=some r):VD 139 [] (bA r):=by refine zi func139 y kz y y<|A ?_;obtain⟨a,b,h⟩:=bs h;refine A ?_;exact F4
instance:VF 139 [] (uP) bA:=⟨λ_=>ek ⟩
def Tk:Option (Bool):=(og).bind λe=>(HL ([(za.mk [70,97,99,101] [79,98,106,101,99,116] true [] [] ([(zb.mk [102] [] [73] false true 0 0 [] [] [])])),(za.mk [65,97] [79,98,106,101,99,116] false ([[70,97,99,101]]) ([(zh.mk [120] [73] false),(zh.mk [115] [73] true)]) e.1),(za.mk [66,98] [65,97] false [] ([(zh.mk [121] [91,65,97] false)]) e.2)]) (X9.mk [66,98] [109,97,105,110])).bind λc=>cond (!(c.2==0)) (some false) ((Bz c.1).bind λb=>(Bt c.1).bind λa=>(BF c.1 b.1 b.2.1 b.2.2.1 b.2.2.2.1 b.2.2.2.2 a.1 a.2.1 a.2.2.1 a.2.2.2.1 a.2.2.2.2 [65,97] 1).bind λd=>cond (!((length d.Code:Int)==3)) (some false) ((BL c.1 b.1 b.2.1 b.2.2.1 b.2.2.2.1 b.2.2.2.2 a.1 a.2.1 a.2.2.1 a.2.2.2.1 a.2.2.2.2 [65,97]).bind λm=>(BL c.1 b.1 b.2.1 b.2.2.1 b.2.2.2.1 b.2.2.2.2 a.1 a.2.1 a.2.2.1 a.2.2.2.1 a.2.2.2.2 [79,98,106,101,99,116]).bind λn=>(uR).bind λo=>cond o ((uP).bind λp=>cond p (cond (m==11) (cond (n==((-1):Int)) ((BL c.1 b.1 b.2.1 b.2.2.1 b.2.2.2.1 b.2.2.2.2 a.1 a.2.1 (Kh a.1 a.2.1 a.2.2.1 a.2.2.2.1 a.2.2.2.2 [65,97] 2) a.2.2.2.1 a.2.2.2.2 [65,97]).bind λf=>cond (f==((-1):Int)) ((idx d.Code 1).bind λi=>cond (i.Op==41) ((idx d.Code 1).bind λj=>cond (j.X==0) ((idx d.Code 1).bind λl=>cond (l.Y==11) (some (!d.Gives)) (some false)) (some false)) (some false)) (some false)) (some false)) (some false)) (some false)) (some false)))
theorem mm(h:Tk=some r):VD 63 [] (bA r):=by
 refine zi func63 y kz y y<|A ?_;obtain⟨e,L,d,M,h⟩:=F6 h;refine rg y<|u<|sx [] (mq L)<|u<|bd ti y y y<|zw (VC:=[(9,.isl 6 (map zf ([(za.mk [70,97,99,101] [79,98,106,101,99,116] true [] [] ([(zb.mk [102] [] [73] false true 0 0 [] [] [])])),(za.mk [65,97] [79,98,106,101,99,116] false ([[70,97,99,101]]) ([(zh.mk [120] [73] false),(zh.mk [115] [73] true)]) e.1),(za.mk [66,98] [65,97] false [] ([(zh.mk [121] [91,65,97] false)]) e.2)]))),(10,.agg [sA [66,98],sA [109,97,105,110]])]) (VJ:=[]) (zl [])<|u<|pc (BZ ([(za.mk [70,97,99,101] [79,98,106,101,99,116] true [] [] ([(zb.mk [102] [] [73] false true 0 0 [] [] [])])),(za.mk [65,97] [79,98,106,101,99,116] false ([[70,97,99,101]]) ([(zh.mk [120] [73] false),(zh.mk [115] [73] true)]) e.1),(za.mk [66,98] [65,97] false [] ([(zh.mk [121] [91,65,97] false)]) e.2)]) (X9.mk [66,98] [109,97,105,110]) M) y y y<|A ?_;refine ze<|A ?_;apply Xa h y<;>intro o h
 .refine A ?_;exact F4
 apply zc;obtain⟨c,N,a,O,h⟩:=F6 h;refine rg y<|u<|mv y<|u<|sc [] (kC N) y y y y ⟨(Ln (Zo (λ_=>y))),t⟩ t<|u<|mv y<|u<|sc [] (u7 O) y y y y ⟨(Ln (Zo (λ_=>y))),t⟩ t<|A ?_;obtain⟨f,P,h⟩:=bs h;refine A ?_;refine zw (VC:=[(1,Xz 2 XX d.1),(3,Vg),(4,Vh),(20,Xz 2 XX d.1),(21,Vg),(22,Vh)]) (VJ:=[some (4,[[.ipt 2 [[cL c.1,mI c.2.1]] 0 0,tL c.2.2.1,tL c.2.2.2.1,tL c.2.2.2.2]]),Xw a.1 a.2.1 2 3 4 a.2.2.2.2,some (2,map (F5 (λx=>iA x)) a.2.2.1),some (2,map (F5 (λx=>.agg (zn x))) a.2.2.2.1),sT a.2.2.2.2]) (zl [0,4,5,6,7])<|u<|sc [0,1,2,3,4] (et P) y y y y ⟨(Ln (Zo (λ_=>y))),(.mpt y),(.mpt y),(Ln y),(Ln y),t⟩ ⟨⟨_,y,(Z0 y)⟩,⟨_,y,⟨(Ln y),(.mmp y),(.mmp y),(.msl y),t⟩⟩,⟨y,LD (λ_=>y)⟩,⟨y,LD (λ_=>y)⟩,⟨y,LD (λ_=>y)⟩,t⟩<|zw (VC:=[(1,Xz 2 XX d.1),(3,Vg),(4,Vh),(23,.agg (ZZ f))]) (VJ:=[some (4,[[.ipt 2 [[cL c.1,mI c.2.1]] 0 0,tL c.2.2.1,tL c.2.2.2.1,tL c.2.2.2.2]]),Xw a.1 a.2.1 2 3 4 a.2.2.2.2,some (2,map (F5 (λx=>iA x)) a.2.2.1),some (2,map (F5 (λx=>.agg (zn x))) a.2.2.2.1),sT a.2.2.2.2]) (zl [0,1,2,3,4])<|A ?_;refine ze<|A ?_;apply Xa h y<;>intro p h
 .refine A ?_;exact F4
 apply zc;obtain⟨i,Q,n,R,h⟩:=F6 h;refine A ?_;refine u<|sc [0,1,2,3,4] (Am Q) y y y y ⟨(Ln (Zo (λ_=>y))),(.mpt y),(.mpt y),(Ln y),t⟩ ⟨⟨_,y,(Z0 y)⟩,⟨_,y,⟨(Ln y),(.mmp y),(.mmp y),(.msl y),t⟩⟩,⟨y,LD (λ_=>y)⟩,⟨y,LD (λ_=>y)⟩,⟨y,LD (λ_=>y)⟩,t⟩<|zw (VC:=[(1,Xz 2 XX d.1),(3,Vg),(4,Vh),(5,Vm),(31,iA i)]) (VJ:=[some (4,[[.ipt 2 [[cL c.1,mI c.2.1]] 0 0,tL c.2.2.1,tL c.2.2.2.1,tL c.2.2.2.2]]),Xw a.1 a.2.1 2 3 4 a.2.2.2.2,some (2,map (F5 (λx=>iA x)) a.2.2.1),some (2,map (F5 (λx=>.agg (zn x))) a.2.2.2.1),sT a.2.2.2.2,some (6,[(ZZ f)])]) (zl [0,1,2,3,4,5])<|A ?_;refine u<|sc [0,1,2,3,4] (Am R) y y y y ⟨(Ln (Zo (λ_=>y))),(.mpt y),(.mpt y),(Ln y),t⟩ ⟨⟨_,y,(Z0 y)⟩,⟨_,y,⟨(Ln y),(.mmp y),(.mmp y),(.msl y),t⟩⟩,⟨y,LD (λ_=>y)⟩,⟨y,LD (λ_=>y)⟩,⟨y,LD (λ_=>y)⟩,t⟩<|zw (VC:=[(1,Xz 2 XX d.1),(3,Vg),(4,Vh),(5,Vm),(31,iA i),(35,iA n)]) (VJ:=[some (4,[[.ipt 2 [[cL c.1,mI c.2.1]] 0 0,tL c.2.2.1,tL c.2.2.2.1,tL c.2.2.2.2]]),Xw a.1 a.2.1 2 3 4 a.2.2.2.2,some (2,map (F5 (λx=>iA x)) a.2.2.1),some (2,map (F5 (λx=>.agg (zn x))) a.2.2.2.1),sT a.2.2.2.2,some (6,[(ZZ f)])]) (zl [0,1,2,3,4,5])<|A ?_;refine rg y<|u<|mv y<|u<|sx [1,2,3,4] (Ap a.1 a.2.1 a.2.2.1 a.2.2.2.1 a.2.2.2.2 [65,97] 2 y)<|zw (VC:=[(1,Xz 2 XX d.1),(3,Vg),(4,Vh),(5,Vm),(6,iA i),(7,iA n)]) (VJ:=[some (4,[[.ipt 2 [[cL c.1,mI c.2.1]] 0 0,tL c.2.2.1,tL c.2.2.2.1,tL c.2.2.2.2]]),Xw a.1 a.2.1 2 3 4 a.2.2.2.2,some (2,map (F5 (λx=>iA x)) (Kh a.1 a.2.1 a.2.2.1 a.2.2.2.1 a.2.2.2.2 [65,97] 2)),some (2,map (F5 (λx=>.agg (zn x))) a.2.2.2.1),sT a.2.2.2.2,some (6,[(ZZ f)])]) (zl [0,1,2,3,4,5])<|zx ?_;obtain⟨S,q,h⟩:=bs h;refine rg y<|u<|pc (el q) y y y<|u<|mv y<|?_
 rcases S with _|_
 .replace h:=bF y h;refine F3 y<|u<|pk (b:=false) y y<|u<|mv y<|F3 y<|F3 y<|u<|pk (b:=false) y y<|u<|mv y<|F3 y<|F3 y<|u<|pk (b:=false) y y<|u<|mv y<|F3 y<|F3 y<|F3 y<|F3 y<|F3 y<|u<|pk (b:=false) y y<|u<|mv y<|F3 y<|F3 y<|F3 y<|F3 y<|F3 y<|F3 y<|u<|pk (b:=false) y y<|u<|mv y<|F3 y<|F3 y<|F3 y<|F3 y<|F3 y<|F3 y<|u<|pk (b:=false) y y<|u<|mv y<|F3 y<|F3 y<|F3 y<|F3 y<|F3 y<|F3 y<|u<|pk (b:=false) y y<|u<|mv y<|F3 y<|F3 y<|F3 y<|u<|pk (b:=false) y y<|u<|Lw y<|zx ?_;exact F4
 replace h:=bT y h;obtain⟨T,s,h⟩:=bs h;refine g y y<|pc (ek s) y y y<|u<|pk (b:=true) y y<|u<|mv y<|?_
 rcases T with _|_
 .replace h:=bF y h;refine F3 y<|F3 y<|u<|pk (b:=false) y y<|u<|mv y<|F3 y<|F3 y<|u<|pk (b:=false) y y<|u<|mv y<|F3 y<|F3 y<|F3 y<|F3 y<|F3 y<|u<|pk (b:=false) y y<|u<|mv y<|F3 y<|F3 y<|F3 y<|F3 y<|F3 y<|F3 y<|u<|pk (b:=false) y y<|u<|mv y<|F3 y<|F3 y<|F3 y<|F3 y<|F3 y<|F3 y<|u<|pk (b:=false) y y<|u<|mv y<|F3 y<|F3 y<|F3 y<|F3 y<|F3 y<|F3 y<|u<|pk (b:=false) y y<|u<|mv y<|F3 y<|F3 y<|F3 y<|u<|pk (b:=false) y y<|u<|Lw y<|zx ?_;exact F4
 replace h:=bT y h;refine g y y<|mv y<|g y y<|eql ti y y<|u<|pk (b:=true) y y<|u<|mv y<|?_;generalize (i==11)=v at h ⊢
 rcases v with _|_
 .replace h:=bF y h;refine F3 y<|F3 y<|u<|pk (b:=false) y y<|u<|mv y<|F3 y<|F3 y<|F3 y<|F3 y<|F3 y<|u<|pk (b:=false) y y<|u<|mv y<|F3 y<|F3 y<|F3 y<|F3 y<|F3 y<|F3 y<|u<|pk (b:=false) y y<|u<|mv y<|F3 y<|F3 y<|F3 y<|F3 y<|F3 y<|F3 y<|u<|pk (b:=false) y y<|u<|mv y<|F3 y<|F3 y<|F3 y<|F3 y<|F3 y<|F3 y<|u<|pk (b:=false) y y<|u<|mv y<|F3 y<|F3 y<|F3 y<|u<|pk (b:=false) y y<|u<|Lw y<|zx ?_;exact F4
 replace h:=bT y h;refine g y y<|mv y<|g y y<|eql ti y y<|u<|pk (b:=true) y y<|u<|mv y<|?_;generalize (n==((-1):Int))=B at h ⊢
 rcases B with _|_
 .replace h:=bF y h;refine F3 y<|F3 y<|F3 y<|F3 y<|F3 y<|u<|pk (b:=false) y y<|u<|mv y<|F3 y<|F3 y<|F3 y<|F3 y<|F3 y<|F3 y<|u<|pk (b:=false) y y<|u<|mv y<|F3 y<|F3 y<|F3 y<|F3 y<|F3 y<|F3 y<|u<|pk (b:=false) y y<|u<|mv y<|F3 y<|F3 y<|F3 y<|F3 y<|F3 y<|F3 y<|u<|pk (b:=false) y y<|u<|mv y<|F3 y<|F3 y<|F3 y<|u<|pk (b:=false) y y<|u<|Lw y<|zx ?_;exact F4
 replace h:=bT y h;obtain⟨C,D,h⟩:=bs h;refine g y y<|mv y<|g y y<|mv y<|g y y<|mv y<|g y y<|sc [0,1,2,3,4] (Am D) y y y y ⟨(Ln (Zo (λ_=>y))),(.mpt y),(.mpt y),(Ln y),t⟩ ⟨⟨_,y,(Z0 y)⟩,⟨_,y,⟨(Ln y),(.mmp y),(.mmp y),(.msl y),t⟩⟩,⟨y,LD (λ_=>y)⟩,⟨y,LD (λ_=>y)⟩,⟨y,LD (λ_=>y)⟩,t⟩<|g y y<|eql ti y y<|u<|pk (b:=true) y y<|u<|mv y<|?_;generalize (C==((-1):Int))=E at h ⊢
 rcases E with _|_
 .replace h:=bF y h;refine F3 y<|F3 y<|F3 y<|F3 y<|F3 y<|F3 y<|u<|pk (b:=false) y y<|u<|mv y<|F3 y<|F3 y<|F3 y<|F3 y<|F3 y<|F3 y<|u<|pk (b:=false) y y<|u<|mv y<|F3 y<|F3 y<|F3 y<|F3 y<|F3 y<|F3 y<|u<|pk (b:=false) y y<|u<|mv y<|F3 y<|F3 y<|F3 y<|u<|pk (b:=false) y y<|u<|Lw y<|zx ?_;exact F4
 replace h:=bT y h;obtain⟨F,j,h⟩:=bs h;refine g y y<|fa ti y y y<|g y y<|ld ti y y<|g y y<|Lp ti y ti y y y j<|g y y<|fa ti y y y<|g y y<|Lt ti y (zT j).2.2 y<|g y y<|eql ti y y<|u<|pk (b:=true) y y<|u<|mv y<|?_;generalize (F.Op==41)=G at h ⊢
 rcases G with _|_
 .replace h:=bF y h;refine F3 y<|F3 y<|F3 y<|F3 y<|F3 y<|F3 y<|u<|pk (b:=false) y y<|u<|mv y<|F3 y<|F3 y<|F3 y<|F3 y<|F3 y<|F3 y<|u<|pk (b:=false) y y<|u<|mv y<|F3 y<|F3 y<|F3 y<|u<|pk (b:=false) y y<|u<|Lw y<|zx ?_;exact F4
 replace h:=bT y h;obtain⟨H,l,h⟩:=bs h;refine g y y<|fa ti y y y<|g y y<|ld ti y y<|g y y<|Lp ti y ti y y y l<|g y y<|fa ti y y y<|g y y<|Lt ti y (zT l).2.2 y<|g y y<|eql ti y y<|u<|pk (b:=true) y y<|u<|mv y<|?_;generalize (H.X==0)=I at h ⊢
 rcases I with _|_
 .replace h:=bF y h;refine F3 y<|F3 y<|F3 y<|F3 y<|F3 y<|F3 y<|u<|pk (b:=false) y y<|u<|mv y<|F3 y<|F3 y<|F3 y<|u<|pk (b:=false) y y<|u<|Lw y<|zx ?_;exact F4
 replace h:=bT y h;obtain⟨J,m,h⟩:=bs h;refine g y y<|fa ti y y y<|g y y<|ld ti y y<|g y y<|Lp ti y ti y y y m<|g y y<|fa ti y y y<|g y y<|Lt ti y (zT m).2.2 y<|g y y<|eql ti y y<|u<|pk (b:=true) y y<|u<|mv y<|?_;generalize (J.Y==11)=K at h ⊢
 rcases K with _|_
 .replace h:=bF y h;refine F3 y<|F3 y<|F3 y<|u<|pk (b:=false) y y<|u<|Lw y<|zx ?_;exact F4
 replace h:=bT y h;refine g y y<|fa ti y y y<|g y y<|ld ti y y<|g y y<|nt y<|u<|pk (b:=true) y y<|u<|Lw y<|zx ?_;exact F4
instance:VF 63 [] (Tk) bA:=⟨λ_=>mm ⟩
def ma:Option (Int):=some (-1)
def E9(c:Vr)(n:List Int)(o:T0)(d:T1)(a:Int):zL (Int) (Unit) (Int):=cond (decide (a<((length d):Int))) ((idx d a).bind λe=>(zR c e).bind λb=>(idx c b).bind λf=>(Gk f [36,105,110,105,116]).bind λi=>(cond (decide (0<=i)) ((idx n b).bind λj=>some (!(j==2))) (some false)).bind λl=>cond l ((zR c o).bind λm=>some (.inr (.inr m))) (some (.inl (i64.wrap (a+1))))) (some (.inr (.inl ())))
def Wi(a:Vr)(d:List Int)(c:T0):Option (Int):=(KY a c).bind λe=>(zk (λz=>E9 a d c e z) 0).bind λo=>zE o (λb=>ma) some
instance :VF 65 [.ipt 1 [[cL a]] 0 0,.isl 1 (map (rI .i64) T),sA c] (Wi a T c) iA:=⟨λr h=>by
 refine zi func65 y kz y y<|A ?_;obtain⟨d,i,h⟩:=bs h;refine A ?_;refine u<|sx [] (GL i)<|zw (VC:=[(0,.ipt 1 [[cL a]] 0 0),(1,.isl 1 (map (rI .i64) T)),(2,sA c),(12,.msl 0 0 (length d))]) (VJ:=[sT d]) (zl [0])<|A ?_;refine ze<|A ?_;obtain⟨o,ho,h⟩:=bs h;refine F7 ho (λz=>[(0,.ipt 1 [[cL a]] 0 0),(1,.isl 1 (map (rI .i64) T)),(2,sA c),(7,.msl 0 0 (length d)),(8,iA z)]) (λz=>[sT d]) (λb=>[]) (λb=>[]) (pG f65 iA) (z6 [0]) ?_ ?_
 .rintro j r h;refine ze<|A ?_;apply Xa h y<;>intro e h
  .refine zc<|ze<|zg ?_;obtain⟨l,m,n,p,h⟩:=F6 h;refine A ?_;obtain⟨q,s,v,x,B,C,h⟩:=LA h;refine A ?_;apply Xa h y<;>intro f h
   .obtain⟨D,E,h⟩:=bs h;refine A ?_;apply zA;cases h;exact⟨_,y,_,y,Xb []⟩
   refine zc<|A ?_;exact LC
  exact Ll
 rintro⟨⟩ rfl;refine zm<|A ?_
 exact F4⟩
def ny(a:T1):Option (T1):=some a
def nD(b:Int)(a:T1):zL (T1×Int) (T1) (T1):=some (.inl (a,(i64.wrap (b+1))))
def nE(a:Int)(b:T1):zL (T1×Int) (T1) (T1):=some (.inl (b,(i64.wrap (a+1))))
def PY(a:Int)(b:T1):zL (T1×Int) (T1) (T1):=some (.inl (b,(i64.wrap (a+1))))
def As(a:T1)(b:Int)(c:zp)(d:Bool):zL (T1×Int) (T1) (T1):=cond d ((BI a c.C).bind λe=>PY b e) (PY b a)
def WK(e:za)(d:Int)(c:T1)(b:Int):zL (T1×Int) (T1) (T1):=(idx e.Methods d).bind λf=>cond (decide (b<(length f.Code:Int))) ((idx e.Methods d).bind λi=>(idx i.Code b).bind λa=>cond (a.Op==50) ((EC a.C).bind λj=>(BI c j).bind λl=>PY b l) (cond (a.Op==56) (As c b a (a.Op==56)) (As c b a (a.Op==57)))) (some (.inr (.inl c)))
def B8(d:za)(c:T1)(a:Int):zL (T1×Int) (T1) (T1):=cond (decide (a<(length d.Methods:Int))) ((zk (λz=>WK d a z.1 z.2) (c,0)).bind λo=>zE o (λb=>nE a b) (λr=>some (.inr (.inr r)))) (some (.inr (.inl c)))
def il(a:Int)(c:za)(d:T1):zL (T1×Int) (T1) (T1):=(zk (λz=>B8 c z.1 z.2) (d,0)).bind λo=>zE o (λb=>nD a b) (λr=>some (.inr (.inr r)))
def B9(b:za)(c:T1)(a:Int):zL (T1×Int) (T1) (T1):=cond (decide (a<(length b.Fields:Int))) ((idx b.Fields a).bind λd=>(BI c d.Type_).bind λe=>some (.inl (e,(i64.wrap (a+1))))) (some (.inr (.inl c)))
def Ok(e:Vr)(c:T1)(a:Int):zL (T1×Int) (T1) (T1):=cond (decide (a<(length e:Int))) ((idx e a).bind λd=>(zk (λz=>B9 d z.1 z.2) (c,0)).bind λo=>zE o (λb=>il a d b) (λr=>some (.inr (.inr r)))) (some (.inr (.inl c)))
def iv(d:Vr)(a:T1):Option (T1):=(Xu 16 a ([[91,73]])).bind λc=>(zk (λz=>Ok d z.1 z.2) (c,0)).bind λo=>zE o (λb=>ny b) some
def B3(b:Vr)(c:T1)(a:Int):zL (T1×Int) (T1) (T1):=cond (decide (a<(length b:Int))) ((idx b a).bind λd=>(Xu 16 c [d.Name]).bind λe=>some (.inl (e,(i64.wrap (a+1))))) (some (.inr (.inl c)))
def TN(a:Vr):Option (T1):=(zk (λz=>B3 a z.1 z.2) ([],0)).bind λo=>zE o (λb=>iv a b) some
instance :VF 45 [.ipt 1 [[cL a]] 0 0] (TN a) (λr=>(tL r)):=⟨λr h=>by
 refine zi func45 y kz y y<|A ?_;refine A ?_;refine ze<|A ?_;obtain⟨o,ho,h⟩:=bs h;refine F7 ho (λz=>[(0,.ipt 1 [[cL a]] 0 0),(3,.msl 0 0 (length z.1)),(4,iA z.2)]) (λz=>[sT z.1]) (λb=>[(0,.ipt 1 [[cL a]] 0 0),(3,.msl 0 0 (length b))]) (λb=>[sT b]) (pG f45 (λr=>tL r)) ⟨[.fresh 1],ce y y<|cv y (.nilown y)<|ce y y<|cn,y,⟨w,t⟩,y,k⟩ ?_ ?_
 .rintro⟨v6,v7⟩ r h;refine ze<|A ?_;apply Xa h y<;>intro I h
  .refine zc<|ze<|zg ?_;obtain⟨N,q5,v9,O,h⟩:=F6 h;refine A ?_;refine u<|Lo 2 ti y ti y y YB ti y y y y (Lx (f:=Xe) (z:=[N.Name]) y y) (λ_=>y) y O<|A ?_;refine A ?_;cases h;exact⟨_,y,zl [2]⟩
  exact Lv
 rintro v10 rfl;apply zm;obtain⟨v11,P,h⟩:=bs h;refine A ?_;refine u<|Lo 2 ti y ti y y YB ti y y y y (Lx (f:=Xe) (z:=[[91,73]]) y y) (λ_=>y) y P<|A ?_;refine ze<|A ?_;obtain⟨o,ho,h⟩:=bs h;refine F7 ho (λz=>[(0,.ipt 1 [[cL a]] 0 0),(3,.msl 0 0 (length z.1)),(5,iA z.2)]) (λz=>[sT z.1]) (λb=>[(3,.msl 0 0 (length b))]) (λb=>[sT b]) (pG f45 (λr=>tL r)) (z6 [2]) ?_ ?_
 .rintro⟨v71,c⟩ r h;refine ze<|A ?_;apply Xa h y<;>intro x h
  .refine zc<|ze<|zg ?_;obtain⟨d,q59,h⟩:=bs h;refine A ?_;refine ze<|A ?_;obtain⟨o,ho,h⟩:=bs h;refine LG ho (λz=>[(0,.ipt 1 [[cL a]] 0 0),(3,.msl 0 0 (length z.1)),(5,iA c),(6,Vh),(7,iA z.2)]) (λz=>[sT z.1,some (6,[(zf d)])]) (λb=>[(0,.ipt 1 [[cL a]] 0 0),(3,.msl 0 0 (length b)),(5,iA c),(6,Vh)]) (λb=>[sT b,some (6,[(zf d)])]) (pG f45 (λr=>tL r)) (z6 [0,1]) ?_ ?_ ?_
   .rintro⟨J,K⟩ r h;refine ze<|A ?_;apply Xa h y<;>intro B h
    .refine zc<|ze<|zg ?_;obtain⟨L,q64,v,M,h⟩:=F6 h;refine A ?_;refine u<|sx [0] (kQ M)<|zw (VC:=[(0,.ipt 1 [[cL a]] 0 0),(5,iA c),(6,Vg),(7,iA K),(64,.msl 1 0 (length v))]) (VJ:=[some (6,[(zf d)]),sT v]) (zl [1,2])<|A ?_;refine A ?_;cases h;exact⟨_,y,zl [1,0]⟩
    exact LW
   .rintro v82 rfl;refine zm<|A ?_;obtain⟨o,ho,h⟩:=bs h;refine LG ho (λz=>[(0,.ipt 1 [[cL a]] 0 0),(3,.msl 0 0 (length z.1)),(5,iA c),(6,Vh),(8,iA z.2)]) (λz=>[sT z.1,some (6,[(zf d)])]) (λb=>[(0,.ipt 1 [[cL a]] 0 0),(3,.msl 0 0 (length b)),(5,iA c)]) (λb=>[sT b]) (pG f45 (λr=>tL r)) (z6 [0,1]) ?_ ?_ ?_
    .rintro⟨Q,e⟩ r h;refine ze<|A ?_;apply Xa h y<;>intro D h
     .refine zc<|ze<|zg<|A ?_;obtain⟨o,ho,h⟩:=bs h;refine LG ho (λz=>[(0,.ipt 1 [[cL a]] 0 0),(3,.msl 0 0 (length z.1)),(5,iA c),(6,Vh),(8,iA e),(9,iA z.2)]) (λz=>[sT z.1,some (6,[(zf d)])]) (λb=>[(0,.ipt 1 [[cL a]] 0 0),(3,.msl 0 0 (length b)),(5,iA c),(6,Vh),(8,iA e)]) (λb=>[sT b,some (6,[(zf d)])]) (pG f45 (λr=>tL r)) (z6 [0,1]) ?_ ?_ ?_
      .rintro⟨i,j⟩ r h;apply ze;obtain⟨R,q98,h⟩:=bs h;refine A ?_;apply Xa h y<;>intro E h
       .apply zc;refine zY (X:=T1) (λz=>[(0,.ipt 1 [[cL a]] 0 0),(3,.msl 0 0 (length z)),(5,iA c),(6,Vh),(8,iA e),(9,iA j)]) (λz=>[sT z,some (6,[(zf d)])]) (λz=>PY j z=some r) ?_ ?_
        .apply zg;obtain⟨S,T,l,U,h⟩:=F6 h;refine A ?_;refine A ?_;refine zg<|A ?_;apply Xa h y<;>intro p h
         .obtain⟨F,V,m,G,h⟩:=F6 h;refine A ?_;refine u<|sx [0] (kQ G)<|zw (VC:=[(0,.ipt 1 [[cL a]] 0 0),(5,iA c),(6,Vg),(8,iA e),(9,iA j),(100,.msl 1 0 (length m))]) (VJ:=[some (6,[(zf d)]),sT m]) (zl [1,3])<|A ?_;exact(⟨m,h,zl [1,0]⟩)
         refine zY (X:=Bool) (λz=>[(0,.ipt 1 [[cL a]] 0 0),(3,.msl 0 0 (length i)),(5,iA c),(6,Vh),(8,iA e),(9,iA j),(10,Vj),(101,bA z)]) (λz=>[sT i,some (6,[(zf d)]),some (4,[(zs l)])]) (λz=>As i j l z=some r) ?_ ?_
         .refine A ?_;apply Xa h y<;>intro q h;.apply zc;exact⟨(l.Op==56),h,zl [0,1,2]⟩
          refine A ?_;exact(⟨(l.Op==57),h,zl [0,1,2]⟩)
         rintro W h;apply Xa h y<;>intro s h;.obtain⟨n,H,h⟩:=bs h;refine A ?_;refine u<|sx [0] (kQ H)<|zw (VC:=[(0,.ipt 1 [[cL a]] 0 0),(5,iA c),(6,Vg),(8,iA e),(9,iA j),(107,.msl 1 0 (length n))]) (VJ:=[some (6,[(zf d)]),sT n]) (zl [1,3])<|A ?_;exact(⟨n,h,zl [1,0]⟩)
         apply zc;exact⟨i,h,zl [0,1]⟩
        rintro Y h;refine A ?_;exact LH
       exact LW
      .rintro Z rfl;refine zm<|A ?_;exact LH
      rintro r' rfl env st hp;cases h;exact⟨_,y,hp⟩
     exact Lv
    .rintro v129 rfl;refine zm<|A ?_;exact LC
    rintro r' rfl env st hp;cases h;exact⟨_,y,hp⟩
   rintro r' rfl env st hp;cases h;exact⟨_,y,hp⟩
  exact Lv
 rintro v130 rfl;refine zm<|A ?_
 exact F4⟩
def nY(a:T1):Option (T1):=some a
def nZ(a:Int)(b:T1):zL (T1×Int) (T1) (T1):=some (.inl (b,(i64.wrap (a+1))))
def Ox(d:Vr)(a:Int)(c:T1)(b:Int):zL (T1×Int) (T1) (T1):=(idx d a).bind λe=>cond (decide (b<(length e.Methods:Int))) ((idx d a).bind λf=>(Ze f.Name [46]).bind λi=>(idx d a).bind λj=>(idx j.Methods b).bind λl=>(Ze i l.Name).bind λm=>(Xu 16 c [m]).bind λn=>some (.inl (n,(i64.wrap (b+1))))) (some (.inr (.inl c)))
def Ow(d:Vr)(c:T1)(a:Int):zL (T1×Int) (T1) (T1):=cond (decide (a<(length d:Int))) ((zk (λz=>Ox d a z.1 z.2) (c,0)).bind λo=>zE o (λb=>nZ a b) (λr=>some (.inr (.inr r)))) (some (.inr (.inl c)))
def Aj(a:Vr):Option (T1):=(zk (λz=>Ow a z.1 z.2) ([],0)).bind λo=>zE o (λb=>nY b) some
instance :VF 46 [.ipt 1 [[cL a]] 0 0] (Aj a) (λr=>(tL r)):=⟨λr h=>by
 refine zi func46 y kz y y<|A ?_;refine A ?_;refine ze<|A ?_;obtain⟨o,ho,h⟩:=bs h;refine F7 ho (λz=>[(0,.ipt 1 [[cL a]] 0 0),(3,.msl 0 0 (length z.1)),(4,iA z.2)]) (λz=>[sT z.1]) (λb=>[(3,.msl 0 0 (length b))]) (λb=>[sT b]) (pG f46 (λr=>tL r)) ⟨[.fresh 1],ce y y<|cv y (.nilown y)<|ce y y<|cn,y,⟨w,t⟩,y,k⟩ ?_ ?_
 .rintro⟨F,c⟩ r h;refine ze<|A ?_;apply Xa h y<;>intro q h
  .refine zc<|ze<|zg<|A ?_;obtain⟨o,ho,h⟩:=bs h;refine LG ho (λz=>[(0,.ipt 1 [[cL a]] 0 0),(3,.msl 0 0 (length z.1)),(4,iA c),(5,iA z.2)]) (λz=>[sT z.1]) (λb=>[(0,.ipt 1 [[cL a]] 0 0),(3,.msl 0 0 (length b)),(4,iA c)]) (λb=>[sT b]) (pG f46 (λr=>tL r)) (z6 [0]) ?_ ?_ ?_
   .rintro⟨v,l⟩ r h;apply ze;obtain⟨G,H,h⟩:=bs h;refine A ?_;apply Xa h y<;>intro s h;.refine zc<|ze<|zg ?_;obtain⟨x,d,B,m,n,e,C,i,h⟩:=Me h;obtain⟨p,D,j,E,h⟩:=F6 h;refine XA [(0,.ipt 1 [[cL a]] 0 0),(3,.msl 0 0 (length j)),(4,iA c),(5,iA l)] [sT j] [23,24] YX [(50,sA p),(49,sA C.Name),(48,.ipt 10 (map zd n.Methods) (Int.toNat l) 0),(47,.ipt 10 (map zd n.Methods) (Int.toNat l) 0),(46,iA l),(45,.isl 10 (map zd n.Methods)),(44,.ipt 6 (map zf a) (Int.toNat c) 5),(43,.ipt 6 (map zf a) (Int.toNat c) 0),(42,iA c),(41,cL a),(40,.ipt 1 [[cL a]] 0 0),(39,.ipt 1 [[cL a]] 0 0),(38,.ipt 1 [[cL a]] 0 0),(37,sA B),(36,sA x.Name),(35,.ipt 6 (map zf a) (Int.toNat c) 0),(34,.ipt 6 (map zf a) (Int.toNat c) 0),(33,iA c),(32,cL a),(31,.ipt 1 [[cL a]] 0 0),(30,.ipt 1 [[cL a]] 0 0),(29,.ipt 1 [[cL a]] 0 0),(28,.msl 0 0 (length v))] 2 (Z1 ⟨(pb y (DF ti y y D w)),(pb y (Lt ti y (zT i).2.2 y w)),(pb y (fa ti y y y w)),(pb y (Lp ti y ti y y y i w)),pe,(pb y (Lt ti y (zT e).2.2 y w)),(pb y (fa ti y y y w)),(pb y (Lp ti y ti y y y e w)),pe,(pb y (ld ti y y w)),(pb y (fa ti y y y w)),pe,pe,(pb y (DF ti y y m w)),(pb y (Lt ti y (zT d).2.2 y w)),(pb y (fa ti y y y w)),(pb y (Lp ti y ti y y y d w)),pe,(pb y (ld ti y y w)),(pb y (fa ti y y y w)),pe,pe,pe,t⟩ ⟨(λ_ _=>⟨_,y,y,bl 1 ti y ti y YB YB y y y<|⟨(.msl 1 0 1),[],[(51,.msl 1 0 1)],y,y,kz,y,Z1 ⟨pe,(pb y (Lt ti y (zT i).2.2 y w)),(pb y (fa ti y y y w)),(pb y (Lp ti y ti y y y i w)),pe,(pb y (Lt ti y (zT e).2.2 y w)),(pb y (fa ti y y y w)),(pb y (Lp ti y ti y y y e w)),pe,(pb y (ld ti y y w)),(pb y (fa ti y y y w)),pe,pe,(pb y (DF ti y y m w)),(pb y (Lt ti y (zT d).2.2 y w)),(pb y (fa ti y y y w)),(pb y (Lp ti y ti y y y d w)),pe,(pb y (ld ti y y w)),(pb y (fa ti y y y w)),pe,pe,pe,t⟩ ⟨nv,(λ_ _=>⟨_,y,y,Lo 2 ti y ti y y YB ti y y y y (Lx (f:=Xe) (z:=[p]) y y) (λ_=>y) y E<|⟨(.msl 2 0 (length j)),[25],[(3,.msl 2 0 (length j)),(52,.msl 2 0 (length j))],y,y,kz,y,U5 ⟨pe,pe,(pb y (Lt ti y (zT i).2.2 y w)),(pb y (fa ti y y y w)),(pb y (Lp ti y ti y y y i w)),pe,(pb y (Lt ti y (zT e).2.2 y w)),(pb y (fa ti y y y w)),(pb y (Lp ti y ti y y y e w)),pe,(pb y (ld ti y y w)),(pb y (fa ti y y y w)),pe,pe,(pb y (DF ti y y m w)),(pb y (Lt ti y (zT d).2.2 y w)),(pb y (fa ti y y y w)),(pb y (Lp ti y ti y y y d w)),pe,(pb y (ld ti y y w)),(pb y (fa ti y y y w)),pe,pe,pe,t⟩ (zl [2])⟩⟩),t⟩⟩⟩),nw,t⟩) ?_;refine A ?_;exact LC
    exact Lv
   .rintro I rfl;refine zm<|A ?_;exact LC
   rintro r' rfl env st hp;cases h;exact⟨_,y,hp⟩
  exact Lv
 rintro J rfl;refine zm<|A ?_
 exact F4⟩
def lG:Option (Int):=some (-1)
def Wp(f:T0)(i:T0)(b:T1×(Vv))(a:Int):zL (Int) (Unit) (Int):=cond (decide (0<=a)) ((idx b.1 a).bind λc=>(cond (c==f) ((idx b.2 a).bind λd=>some (d.Name==i)) (some false)).bind λe=>cond e (some (.inr (.inr a))) (some (.inl (i64.wrap (a-1))))) (some (.inr (.inl ())))
def SV(d:Vr)(a:T0)(e:T0):Option (Int):=(Tt d a).bind λc=>(zk (λz=>Wp a e c z) (i64.wrap (((length c.2):Int)-1))).bind λo=>zE o (λb=>lG) some
instance (n:T0):VF 230 [.ipt 1 [[cL a]] 0 0,sA c,sA n] (SV a c n) iA:=⟨λr h=>by
 refine zi func230 y kz y y<|A ?_;obtain⟨d,i,h⟩:=bs h;refine A ?_;refine u<|sx [] (mM i)<|A ?_;refine ze<|A ?_;obtain⟨o,ho,h⟩:=bs h;refine F7 ho (λz=>[(1,sA c),(2,sA n),(7,.msl 0 0 (length d.1)),(8,.msl 1 0 (length d.2)),(9,iA z)]) (λz=>[sT d.1,some (3,map zv d.2)]) (λb=>[]) (λb=>[]) (pG f230 iA) (z6 [0,1]) ?_ ?_
 .rintro p r h;refine ze<|A ?_;apply Xa h y<;>intro f h
  .refine zc<|ze<|zg ?_;obtain⟨j,q,l,m,h⟩:=F6 h;refine A ?_;apply Xa h y<;>intro e h
   .refine A ?_;apply zA;cases h;exact⟨_,y,_,y,Xb []⟩
   refine zc<|A ?_;exact LH
  exact Ll
 rintro⟨⟩ rfl;refine zm<|A ?_
 exact F4⟩
def pr(a:T1):Option (T1):=some a
def nX(a:Int)(b:T1):zL (T1×Int) (T1) (T1):=some (.inl (b,(i64.wrap (a+1))))
def AG(a:Int)(b:T1):zL (T1×Int) (T1) (T1):=some (.inl (b,(i64.wrap (a+1))))
def Ov(d:Vr)(b:Int)(c:T1)(a:Int):zL (T1×Int) (T1) (T1):=(idx d b).bind λe=>cond (decide (a<(length e.Fields:Int))) ((idx d b).bind λf=>(idx f.Fields a).bind λi=>cond i.Static ((idx d b).bind λj=>(Ze j.Name [46]).bind λl=>(idx d b).bind λm=>(idx m.Fields a).bind λn=>(Ze l n.Name).bind λo=>(Xu 16 c [o]).bind λp=>AG a p) (AG a c)) (some (.inr (.inl c)))
def Og(d:Vr)(c:T1)(a:Int):zL (T1×Int) (T1) (T1):=cond (decide (a<(length d:Int))) ((zk (λz=>Ov d a z.1 z.2) (c,0)).bind λo=>zE o (λb=>nX a b) (λr=>some (.inr (.inr r)))) (some (.inr (.inl c)))
def Ai(a:Vr):Option (T1):=(zk (λz=>Og a z.1 z.2) ([],0)).bind λo=>zE o (λb=>pr b) some
instance :VF 47 [.ipt 1 [[cL a]] 0 0] (Ai a) (λr=>(tL r)):=⟨λr h=>by
 refine zi func47 y kz y y<|A ?_;refine A ?_;refine ze<|A ?_;obtain⟨o,ho,h⟩:=bs h;refine F7 ho (λz=>[(0,.ipt 1 [[cL a]] 0 0),(3,.msl 0 0 (length z.1)),(4,iA z.2)]) (λz=>[sT z.1]) (λb=>[(3,.msl 0 0 (length b))]) (λb=>[sT b]) (pG f47 (λr=>tL r)) ⟨[.fresh 1],ce y y<|cv y (.nilown y)<|ce y y<|cn,y,⟨w,t⟩,y,k⟩ ?_ ?_
 .rintro⟨G,c⟩ r h;refine ze<|A ?_;apply Xa h y<;>intro s h
  .refine zc<|ze<|zg<|A ?_;obtain⟨o,ho,h⟩:=bs h;refine LG ho (λz=>[(0,.ipt 1 [[cL a]] 0 0),(3,.msl 0 0 (length z.1)),(4,iA c),(5,iA z.2)]) (λz=>[sT z.1]) (λb=>[(0,.ipt 1 [[cL a]] 0 0),(3,.msl 0 0 (length b)),(4,iA c)]) (λb=>[sT b]) (pG f47 (λr=>tL r)) (z6 [0]) ?_ ?_ ?_
   .rintro⟨p,d⟩ r h;apply ze;obtain⟨H,I,h⟩:=bs h;refine A ?_;apply Xa h y<;>intro v h
    .apply zc;refine zY (X:=T1) (λz=>[(0,.ipt 1 [[cL a]] 0 0),(3,.msl 0 0 (length z)),(4,iA c),(5,iA d)]) (λz=>[sT z]) (λz=>AG d z=some r) ?_ ?_
     .apply zg;obtain⟨J,K,L,M,h⟩:=F6 h;refine A ?_;apply Xa h y<;>intro x h;.obtain⟨B,e,C,m,n,i,D,j,h⟩:=Me h;obtain⟨q,E,l,F,h⟩:=F6 h;refine XA [(0,.ipt 1 [[cL a]] 0 0),(3,.msl 0 0 (length l)),(4,iA c),(5,iA d)] [sT l] [23,24] YX [(62,sA q),(61,sA D.Name),(60,.ipt 3 (map zv n.Fields) (Int.toNat d) 0),(59,.ipt 3 (map zv n.Fields) (Int.toNat d) 0),(58,iA d),(57,.isl 3 (map zv n.Fields)),(56,.ipt 6 (map zf a) (Int.toNat c) 4),(55,.ipt 6 (map zf a) (Int.toNat c) 0),(54,iA c),(53,cL a),(52,.ipt 1 [[cL a]] 0 0),(51,.ipt 1 [[cL a]] 0 0),(50,.ipt 1 [[cL a]] 0 0),(49,sA C),(48,sA B.Name),(47,.ipt 6 (map zf a) (Int.toNat c) 0),(46,.ipt 6 (map zf a) (Int.toNat c) 0),(45,iA c),(44,cL a),(43,.ipt 1 [[cL a]] 0 0),(42,.ipt 1 [[cL a]] 0 0),(41,.ipt 1 [[cL a]] 0 0),(40,.msl 0 0 (length p))] 2 (Z1 ⟨(pb y (DF ti y y E w)),(pb y (Lt ti y (zT j).2.2 y w)),(pb y (fa ti y y y w)),(pb y (Lp ti y ti y y y j w)),pe,(pb y (Lt ti y (zT i).2.2 y w)),(pb y (fa ti y y y w)),(pb y (Lp ti y ti y y y i w)),pe,(pb y (ld ti y y w)),(pb y (fa ti y y y w)),pe,pe,(pb y (DF ti y y m w)),(pb y (Lt ti y (zT e).2.2 y w)),(pb y (fa ti y y y w)),(pb y (Lp ti y ti y y y e w)),pe,(pb y (ld ti y y w)),(pb y (fa ti y y y w)),pe,pe,pe,t⟩ ⟨(λ_ _=>⟨_,y,y,bl 1 ti y ti y YB YB y y y<|⟨(.msl 1 0 1),[],[(63,.msl 1 0 1)],y,y,kz,y,Z1 ⟨pe,(pb y (Lt ti y (zT j).2.2 y w)),(pb y (fa ti y y y w)),(pb y (Lp ti y ti y y y j w)),pe,(pb y (Lt ti y (zT i).2.2 y w)),(pb y (fa ti y y y w)),(pb y (Lp ti y ti y y y i w)),pe,(pb y (ld ti y y w)),(pb y (fa ti y y y w)),pe,pe,(pb y (DF ti y y m w)),(pb y (Lt ti y (zT e).2.2 y w)),(pb y (fa ti y y y w)),(pb y (Lp ti y ti y y y e w)),pe,(pb y (ld ti y y w)),(pb y (fa ti y y y w)),pe,pe,pe,t⟩ ⟨nv,(λ_ _=>⟨_,y,y,Lo 2 ti y ti y y YB ti y y y y (Lx (f:=Xe) (z:=[q]) y y) (λ_=>y) y F<|⟨(.msl 2 0 (length l)),[25],[(3,.msl 2 0 (length l)),(64,.msl 2 0 (length l))],y,y,kz,y,U5 ⟨pe,pe,(pb y (Lt ti y (zT j).2.2 y w)),(pb y (fa ti y y y w)),(pb y (Lp ti y ti y y y j w)),pe,(pb y (Lt ti y (zT i).2.2 y w)),(pb y (fa ti y y y w)),(pb y (Lp ti y ti y y y i w)),pe,(pb y (ld ti y y w)),(pb y (fa ti y y y w)),pe,pe,(pb y (DF ti y y m w)),(pb y (Lt ti y (zT e).2.2 y w)),(pb y (fa ti y y y w)),(pb y (Lp ti y ti y y y e w)),pe,(pb y (ld ti y y w)),(pb y (fa ti y y y w)),pe,pe,pe,t⟩ (zl [2])⟩⟩),t⟩⟩⟩),nw,t⟩) ?_;exact⟨l,h,zl [0]⟩
      apply zc;exact⟨p,h,zl [0]⟩
     rintro N h;refine A ?_;exact LC
    exact Lv
   .rintro O rfl;refine zm<|A ?_;exact LC
   rintro r' rfl env st hp;cases h;exact⟨_,y,hp⟩
  exact Lv
 rintro P rfl;refine zm<|A ?_
 exact F4⟩
def GK(a:zp)(b:Int)(c:Int):Option (X1):=some (X1.mk a.Op a.A b c)
def TM(f:Vr)(a:zp)(c:Int)(b:Int):Option (X1):=cond (a.Op==43) ((TO f a.C).bind λd=>(KU d a.M).bind λe=>GK a e b) (GK a c b)
def TL(a:zp)(d:T1)(b:Bool):Option (X1):=cond b ((KU d a.C).bind λc=>GK a c 0) (GK a 0 0)
def Dv(b:Vr)(B:List Int)(a:zp)(d:T1)(i:T1)(j:Bool):Option (X1):=cond j ((BU b a.C a.M).bind λc=>(Ze c.1 [46]).bind λl=>(Ze l a.M).bind λm=>(KU i m).bind λe=>cond (a.Op==42) ((Wi b B c.1).bind λn=>TM b a e n) (TM b a e (i64.wrap ((length c.2.1.Params:Int)+1)))) (cond (a.Op==45) ((E6 b a.C a.M).bind λf=>(Ze f.1 [46]).bind λo=>(Ze o a.M).bind λp=>(KU i p).bind λq=>GK a q (i64.wrap ((length f.2.1.Params:Int)+1))) (cond (a.Op==49) ((KU d [91,73]).bind λs=>GK a s 0) (cond (a.Op==50) ((EC a.C).bind λv=>(KU d v).bind λx=>GK a x 0) (cond (a.Op==56) (TL a d (a.Op==56)) (TL a d (a.Op==57))))))
def E7(b:Vr)(c:List Int)(a:zp)(e:T1)(f:T1)(i:Bool):Option (X1):=cond i ((BV b a.C a.M).bind λd=>(Ai b).bind λj=>(Ze d.1 [46]).bind λl=>(Ze l a.M).bind λm=>(KU j m).bind λn=>(Wi b c d.1).bind λo=>GK a n o) (cond (a.Op==42) (Dv b c a e f (a.Op==42)) (cond (a.Op==44) (Dv b c a e f (a.Op==44)) (Dv b c a e f (a.Op==43))))
def E8(b:Vr)(d:List Int)(a:zp)(e:T1)(f:T1)(j:Bool):Option (X1):=cond j ((BV b a.C a.M).bind λi=>(SV b i.1 a.M).bind λc=>cond (!(i.2.1.Type_==[73])) (GK a c 1) (GK a c 0)) (cond (a.Op==40) (E7 b d a e f (a.Op==40)) (E7 b d a e f (a.Op==41)))
def Th(b:Vr)(c:List Int)(a:zp):Option (X1):=(TN b).bind λd=>(Aj b).bind λe=>cond (a.Op==37) ((KU d a.C).bind λf=>(Wi b c a.C).bind λi=>GK a f i) (cond (a.Op==38) (E8 b c a d e (a.Op==38)) (E8 b c a d e (a.Op==39)))
instance (B:zp):VF 146 [.ipt 1 [[cL a]] 0 0,.isl 1 (map (rI .i64) T),.agg (zs B)] (Th a T B) (λr=>(.agg (Um r))):=⟨λr h=>by
 refine zi func146 y kz y y<|A ?_;refine A ?_;obtain⟨b,q1,d,q2,h⟩:=F6 h;refine A ?_;refine zY (X:=Int×Int) (λz=>[(6,Vg),(7,Vh)]) (λz=>[some (4,[[iA 0,iA 0,iA 0,iA 0]]),some (4,[[iA B.Op,iA B.A,iA z.1,iA z.2]])]) (λz=>GK B z.1 z.2=some r) ?_ ?_
 .refine A ?_;refine zg<|A ?_;apply Xa h y<;>intro K h
  .obtain⟨L,q4,M,q5,h⟩:=F6 h;refine XA [(6,Vg),(7,Vh)] [some (4,[[iA 0,iA 0,iA 0,iA 0]]),some (4,[[iA B.Op,iA B.A,iA L,iA M]])] [10,12] Va [(44,_),(43,_),(42,_),(41,_),(40,_),(39,_),(38,_),(37,_),(36,_),(35,_)] 2 (Xd (z:=by exact⟨(λ_ _=>⟨_,y,y,La ti y y y<|⟨.any,[11],[(45,_)],y,y,y,t,Xd (z:=by exact⟨nv,(λ_ _=>⟨_,y,y,La ti y y y<|⟨.any,[],[],y,y,y,t,Xg (z:=z6 [1,2])⟩⟩),t⟩)⟩⟩),nw,t⟩)) ?_;exact⟨⟨L,M⟩,h,zl [0,1]⟩
  refine zY (X:=Bool) (λz=>[(0,.ipt 1 [[cL a]] 0 0),(1,.isl 1 (map (rI .i64) T)),(5,Vg),(6,Vh),(7,Vj),(8,tL b),(9,tL d),(32,iA B.Op),(46,bA z)]) (λz=>[some (4,[(zs B)]),some (4,[[iA 0,iA 0,iA 0,iA 0]]),some (4,[[iA B.Op,iA B.A,iA 0,iA 0]])]) (λz=>E8 a T B b d z=some r) ?_ ?_
  .refine A ?_;apply Xa h y<;>intro N h;.apply zc;exact⟨(B.Op==38),h,zl [0,1,2]⟩
   refine A ?_;exact(⟨(B.Op==39),h,zl [0,1,2]⟩)
  rintro v8 h;apply Xa h y<;>intro O h
  .obtain⟨v9,q8,h⟩:=bs h;refine A ?_;obtain⟨f,q9,h⟩:=bs h;refine A ?_;refine A ?_;apply Xa h y<;>intro p h;.refine A ?_;exact(⟨⟨f,1⟩,h,zl [1,2]⟩)
   apply zc;exact⟨⟨f,0⟩,h,zl [1,2]⟩
  refine zY (X:=Bool) (λz=>[(0,.ipt 1 [[cL a]] 0 0),(1,.isl 1 (map (rI .i64) T)),(5,Vg),(6,Vh),(7,Vj),(8,tL b),(9,tL d),(32,iA B.Op),(69,bA z)]) (λz=>[some (4,[(zs B)]),some (4,[[iA 0,iA 0,iA 0,iA 0]]),some (4,[[iA B.Op,iA B.A,iA 0,iA 0]])]) (λz=>E7 a T B b d z=some r) ?_ ?_
  .refine A ?_;apply Xa h y<;>intro q h;.apply zc;exact⟨(B.Op==40),h,zl [0,1,2]⟩
   refine A ?_;exact(⟨(B.Op==41),h,zl [0,1,2]⟩)
  rintro U h;apply Xa h y<;>intro s h;.obtain⟨V,W,h⟩:=bs h;refine A ?_;obtain⟨Y,Z,v14,q15,v15,q16,i,q17,h⟩:=Me h;obtain⟨j,q18,h⟩:=bs h;refine XA [(6,Vg),(7,Vh)] [some (4,[[iA 0,iA 0,iA 0,iA 0]]),some (4,[[iA B.Op,iA B.A,iA i,iA j]])] [13,15] Y8 [(94,_),(93,_),(92,_),(91,_),(90,_),(89,_),(88,_),(87,_),(86,_),(85,_),(84,_),(83,_),(82,_)] 2 (Xd (z:=by exact⟨(λ_ _=>⟨_,y,y,La ti y y y<|⟨.any,[14],[(95,_)],y,y,y,t,Xd (z:=by exact⟨nv,(λ_ _=>⟨_,y,y,La ti y y y<|⟨.any,[],[],y,y,y,t,Xg (z:=z6 [1,2])⟩⟩),t⟩)⟩⟩),nw,t⟩)) ?_;exact⟨⟨i,j⟩,h,zl [0,1]⟩
  refine zY (X:=Bool) (λz=>[(0,.ipt 1 [[cL a]] 0 0),(1,.isl 1 (map (rI .i64) T)),(5,Vg),(6,Vh),(7,Vj),(8,tL b),(9,tL d),(32,iA B.Op),(96,bA z)]) (λz=>[some (4,[(zs B)]),some (4,[[iA 0,iA 0,iA 0,iA 0]]),some (4,[[iA B.Op,iA B.A,iA 0,iA 0]])]) (λz=>Dv a T B b d z=some r) ?_ ?_
  .refine A ?_;apply Xa h y<;>intro v h;.apply zc;exact⟨(B.Op==42),h,zl [0,1,2]⟩
   refine A ?_;apply Xa h y<;>intro x h;.apply zc;exact⟨(B.Op==44),h,zl [0,1,2]⟩
   refine A ?_;exact(⟨(B.Op==43),h,zl [0,1,2]⟩)
  rintro v18 h;apply Xa h y<;>intro C h
  .obtain⟨l,q22,h⟩:=bs h;refine A ?_;obtain⟨v20,q23,v21,q24,c,q25,h⟩:=LA h;refine Lc [(0,_),(1,_),(5,_),(6,_),(7,_),(16,_)] [some (4,[(zs B)]),some (4,[[iA 0,iA 0,iA 0,iA 0]]),some (4,[[iA B.Op,iA B.A,iA c,iA (i64.wrap ((length l.2.1.Params:Int)+1))]])] [12,14] Y4 [(121,_),(120,_),(119,_),(118,_),(117,_),(116,_),(115,_),(114,_),(113,_),(112,_),(111,_),(110,_)] 2 (Xd (z:=by exact⟨(λ_ _=>⟨_,y,y,La ti y y y<|⟨.any,[13],[(122,_)],y,y,y,t,Xd (z:=by exact⟨nv,(λ_ _=>⟨_,y,y,La ti y y y<|⟨.any,[],[],y,y,y,t,Xg (z:=z6 [0,1,2])⟩⟩),t⟩)⟩⟩),nw,t⟩)) ?_;refine zY (X:=Int) (λz=>[(0,.ipt 1 [[cL a]] 0 0),(5,Vg),(6,Vh),(7,Vj)]) (λz=>[some (4,[(zs B)]),some (4,[[iA 0,iA 0,iA 0,iA 0]]),some (4,[[iA B.Op,iA B.A,iA c,iA z]])]) (λz=>TM a B c z=some r) ?_ ?_
   .refine A ?_;apply Xa h y<;>intro D h;.obtain⟨P,q27,h⟩:=bs h;refine A ?_;exact(⟨P,h,zl [0,1,2]⟩)
    apply zc;exact⟨(i64.wrap ((length l.2.1.Params:Int)+1)),h,zl [0,1,2]⟩
   rintro e h;refine A ?_;apply Xa h y<;>intro E h;.obtain⟨v25,q29,m,q30,h⟩:=F6 h;refine XA [(6,Vg),(7,Vh)] [some (4,[[iA 0,iA 0,iA 0,iA 0]]),some (4,[[iA B.Op,iA B.A,iA m,iA e]])] [8] YU [(141,_),(140,_),(139,_),(138,_),(137,_),(136,_),(135,_),(134,_)] 1 (Xd (z:=by exact⟨(λ_ _=>⟨_,y,y,La ti y y y<|⟨.any,[],[],y,y,y,t,Xg (z:=z6 [1,2])⟩⟩),t⟩)) ?_;exact⟨⟨m,e⟩,h,zl [0,1]⟩
   apply zc;exact⟨⟨c,e⟩,h,zl [1,2]⟩
  refine A ?_;apply Xa h y<;>intro F h;.obtain⟨n,q32,h⟩:=bs h;refine A ?_;obtain⟨v28,q33,v29,q34,o,q35,h⟩:=LA h;refine XA [(6,Vg),(7,Vh)] [some (4,[[iA 0,iA 0,iA 0,iA 0]]),some (4,[[iA B.Op,iA B.A,iA o,iA (i64.wrap ((length n.2.1.Params:Int)+1))]])] [12,14] Y4 [(165,_),(164,_),(163,_),(162,_),(161,_),(160,_),(159,_),(158,_),(157,_),(156,_),(155,_),(154,_)] 2 (Xd (z:=by exact⟨(λ_ _=>⟨_,y,y,La ti y y y<|⟨.any,[13],[(166,_)],y,y,y,t,Xd (z:=by exact⟨nv,(λ_ _=>⟨_,y,y,La ti y y y<|⟨.any,[],[],y,y,y,t,Xg (z:=z6 [1,2])⟩⟩),t⟩)⟩⟩),nw,t⟩)) ?_;exact⟨⟨o,(i64.wrap ((length n.2.1.Params:Int)+1))⟩,h,zl [0,1]⟩
  refine A ?_;apply Xa h y<;>intro G h;.obtain⟨Q,q37,h⟩:=bs h;refine A ?_;exact(⟨⟨Q,0⟩,h,zl [1,2]⟩)
  refine A ?_;apply Xa h y<;>intro H h;.obtain⟨v32,q39,R,q40,h⟩:=F6 h;refine A ?_;exact(⟨⟨R,0⟩,h,zl [1,2]⟩)
  refine zY (X:=Bool) (λz=>[(5,Vg),(6,Vh),(7,Vj),(8,tL b),(180,bA z)]) (λz=>[some (4,[(zs B)]),some (4,[[iA 0,iA 0,iA 0,iA 0]]),some (4,[[iA B.Op,iA B.A,iA 0,iA 0]])]) (λz=>TL B b z=some r) ?_ ?_
  .refine A ?_;apply Xa h y<;>intro I h;.apply zc;exact⟨(B.Op==56),h,zl [0,1,2]⟩
   refine A ?_;exact(⟨(B.Op==57),h,zl [0,1,2]⟩)
  rintro v34 h;apply Xa h y<;>intro J h;.obtain⟨S,q43,h⟩:=bs h;refine A ?_;exact(⟨⟨S,0⟩,h,zl [1,2]⟩)
  apply zc;exact⟨⟨0,0⟩,h,zl [1,2]⟩
 rintro⟨v36,v37⟩ h;refine A ?_
 exact F4⟩
def mK(a:zb)(d:Int)(b:VB)(c:VA):Option (Zd):=some (Zd.mk d a.Locals a.Stack (!(a.Ret==[86])) b c)
def BX(i:Vr)(d:zb)(c:VA)(b:Int):zL ((VA)×Int) ((VA)) (Zd):=cond (decide (b<(length d.Traps:Int))) ((idx d.Traps b).bind λa=>(zR i a.C).bind λe=>(Xu 32 c [(ZO.mk a.From a.To a.At e)]).bind λf=>some (.inl (f,(i64.wrap (b+1))))) (some (.inr (.inl c)))
def eM(d:Vr)(a:zb)(e:Int)(c:VB):Option (Zd):=(zk (λz=>BX d a z.1 z.2) ([],0)).bind λo=>zE o (λb=>mK a e c b) some
def BY(i:Vr)(j:List Int)(c:zb)(b:VB)(a:Int):zL ((VB)×Int) ((VB)) (Zd):=cond (decide (a<(length c.Code:Int))) ((idx c.Code a).bind λd=>(Th i j d).bind λe=>(Xu 32 b [e]).bind λf=>some (.inl (f,(i64.wrap (a+1))))) (some (.inr (.inl b)))
def PI(c:Vr)(e:List Int)(a:zb)(d:Int):Option (Zd):=cond a.Abstract (some (Zd.mk d 0 0 (!(a.Ret==[86])) [] [])) ((zk (λz=>BY c e a z.1 z.2) ([],0)).bind λo=>zE o (λb=>eM c a d b) some)
def Ts(b:Vr)(c:List Int)(d:T0)(e:Int):Option (Zd):=(zR b d).bind λf=>(idx b f).bind λi=>(idx i.Methods e).bind λa=>cond (!a.Static) (PI b c a (i64.wrap ((length a.Params:Int)+1))) (PI b c a (length a.Params:Int))
instance (q:T0)(i:Int):VF 68 [.ipt 1 [[cL a]] 0 0,.isl 1 (map (rI .i64) T),sA q,iA i] (Ts a T q i) (λr=>(.agg (ZZ r))):=⟨λr h=>by
 refine zi func68 y kz y y<|A ?_;obtain⟨O,P,Q,R,c,S,h⟩:=LA h;refine Lc [(0,_),(1,_),(8,_),(9,_)] [some (6,[[iA 0,iA 0,iA 0,bA false,nS,nS]]),some (10,[(zd c)])] [13,14] Y8 [(26,_),(25,_),(24,_),(23,_),(22,_),(21,_),(20,_),(19,_),(18,_),(17,_),(16,_),(15,_),(14,_)] 2 (Xd (z:=by exact⟨(λ_ _=>⟨_,y,y,al 1 ti y<|⟨(Vh),[],[(9,_)],y,y,y,y,Xd (z:=by exact⟨nv,(λ_ _=>⟨_,y,y,La ti y y y<|⟨.any,[],[],y,y,y,t,Xg (z:=z6 [0,1])⟩⟩),t⟩)⟩⟩),nw,t⟩)) ?_;refine A ?_;refine zY (X:=Int) (λz=>[(0,.ipt 1 [[cL a]] 0 0),(1,.isl 1 (map (rI .i64) T)),(8,Vg),(9,Vh),(10,Vj)]) (λz=>[some (6,[[iA 0,iA 0,iA 0,bA false,nS,nS]]),some (10,[(zd c)]),some (6,[[iA z,iA 0,iA 0,bA (!(c.Ret==[86])),nS,nS]])]) (λz=>PI a T c z=some r) ?_ ?_
 .refine A ?_;apply Xa h y<;>intro s h;.refine A ?_;exact(⟨(i64.wrap ((length c.Params:Int)+1)),h,zl [0,1,2]⟩)
  apply zc;exact⟨(length c.Params:Int),h,zl [0,1,2]⟩
 rintro e h;refine ze<|A ?_;apply Xa h y<;>intro v h
 .refine A ?_;exact F4
 apply zc;refine Lc [(0,_),(1,_),(8,_),(9,_),(10,_)] [some (6,[[iA 0,iA 0,iA 0,bA false,nS,nS]]),some (10,[(zd c)]),some (6,[[iA e,iA c.Locals,iA c.Stack,bA (!(c.Ret==[86])),nS,nS]])] [5,7] [0,1,2,3,4] [(48,_),(47,_),(46,_),(45,_),(44,_)] 2 (Xd (z:=by exact⟨(λ_ _=>⟨_,y,y,La ti y y y<|⟨.any,[6],[(49,_)],y,y,y,t,Xd (z:=by exact⟨nv,(λ_ _=>⟨_,y,y,La ti y y y<|⟨.any,[],[],y,y,y,t,Xg (z:=z6 [0,1,2])⟩⟩),t⟩)⟩⟩),nw,t⟩)) ?_;refine ze<|A ?_;obtain⟨o,ho,h⟩:=bs h;refine F7 ho (λz=>[(0,.ipt 1 [[cL a]] 0 0),(1,.isl 1 (map (rI .i64) T)),(8,Vg),(9,Vh),(10,Vj),(11,iA z.2)]) (λz=>[some (6,[[iA 0,iA 0,iA 0,bA false,nS,nS]]),some (10,[(zd c)]),some (6,[[iA e,iA c.Locals,iA c.Stack,bA (!(c.Ret==[86])),.msl 3 0 (length z.1),nS]]),some (4,map Um z.1)]) (λb=>[(0,.ipt 1 [[cL a]] 0 0),(8,Vg),(9,Vh),(10,Vj)]) (λb=>[some (6,[[iA 0,iA 0,iA 0,bA false,nS,nS]]),some (10,[(zd c)]),some (6,[[iA e,iA c.Locals,iA c.Stack,bA (!(c.Ret==[86])),.msl 3 0 (length b),nS]]),some (4,map Um b)]) (pG f68 (λr=>.agg (ZZ r))) ⟨[0,1,2,.fresh 4],ce y y<|ce y y<|cv y (.mpt y)<|cv y (.mpt y)<|cv y (.mpt y)<|ce y y<|cn,y,⟨⟨_,y,XN (LO y)⟩,⟨_,y,XN (LO y)⟩,⟨_,y,XN ⟨ci y,ci y,ci y,ci y,.nilown y,ci y,t⟩⟩,w,t⟩,y,k⟩ ?_ ?_
 .rintro⟨E,F⟩ r h;refine ze<|A ?_;apply Xa h y<;>intro n h
  .refine zc<|ze<|zg ?_;obtain⟨G,H,x,I,j,B,h⟩:=LA h;refine XA [(0,_),(1,_),(8,_),(9,_),(10,_),(11,_)] [some (6,[[iA 0,iA 0,iA 0,bA false,nS,nS]]),some (10,[(zd c)]),some (6,[[iA e,iA c.Locals,iA c.Stack,bA (!(c.Ret==[86])),.msl 3 0 (length j),nS]]),some (4,map Um j)] [10,11,13] Va [(66,_),(65,_),(64,_),(63,_),(62,_),(61,_),(60,_),(59,_),(58,_),(57,_)] 3 (Xd (z:=by exact⟨(λ_ _=>⟨_,y,y,bl 4 ti y ti y YB YB y y y<|⟨(.msl 4 0 1),[],[(67,_)],y,y,y,y,Xd (z:=by exact⟨nv,(λ_ _=>⟨_,y,y,Lo 5 ti y ti y y YB ti y y y y (Lx (f:=Um) (z:=[x]) y y) (λ_=>y) y B<|⟨(.msl 5 0 (length j)),[12],[(69,_),(68,_)],y,y,y,y,Xd (z:=by exact⟨nv,nv,(λ_ _=>⟨_,y,y,La ti y y y<|⟨.any,[],[],y,y,y,t,Xg (z:=z6 [0,1,2,5])⟩⟩),t⟩)⟩⟩),nw,t⟩)⟩⟩),nw,nw,t⟩)) ?_;refine A ?_;cases h;exact⟨_,y,zl [0,1,2,3]⟩
  exact Mg
 rintro d rfl;refine zm<|ze<|A ?_;obtain⟨o,ho,h⟩:=bs h;refine F7 ho (λz=>[(0,.ipt 1 [[cL a]] 0 0),(8,Vg),(9,Vh),(10,Vj),(12,iA z.2)]) (λz=>[some (6,[[iA 0,iA 0,iA 0,bA false,nS,nS]]),some (10,[(zd c)]),some (6,[[iA e,iA c.Locals,iA c.Stack,bA (!(c.Ret==[86])),.msl 3 0 (length d),.msl 4 0 (length z.1)]]),some (4,map Um d),some (4,map G4 z.1)]) (λb=>[(8,Vg),(10,Vh)]) (λb=>[some (6,[[iA 0,iA 0,iA 0,bA false,nS,nS]]),some (6,[[iA e,iA c.Locals,iA c.Stack,bA (!(c.Ret==[86])),.msl 2 0 (length d),.msl 3 0 (length b)]]),some (4,map Um d),some (4,map G4 b)]) (pG f68 (λr=>.agg (ZZ r))) ⟨[0,1,2,3,.fresh 4],ce y y<|cv y (.mpt y)<|cv y (.mpt y)<|cv y (.mpt y)<|ce y y<|cn,y,⟨⟨_,y,XN (LO y)⟩,⟨_,y,XN (LO y)⟩,⟨_,y,XN ⟨ci y,ci y,ci y,ci y,.msl y,.nilown y,t⟩⟩,⟨_,y,XL (λ_=>y)⟩,w,t⟩,y,k⟩ ?_ ?_
 .rintro⟨J,K⟩ r h;refine ze<|A ?_;apply Xa h y<;>intro p h
  .refine zc<|ze<|zg ?_;obtain⟨l,L,h⟩:=bs h;refine A ?_;obtain⟨C,M,m,D,h⟩:=F6 h;refine XA [(0,_),(8,_),(9,_),(10,_),(12,_)] [some (6,[[iA 0,iA 0,iA 0,bA false,nS,nS]]),some (10,[(zd c)]),some (6,[[iA e,iA c.Locals,iA c.Stack,bA (!(c.Ret==[86])),.msl 3 0 (length d),.msl 4 0 (length m)]]),some (4,map Um d),some (4,map G4 m)] [13,14,16] Y8 [(94,_),(93,_),(92,_),(91,_),(90,_),(89,_),(88,_),(87,_),(86,_),(85,_),(84,_),(83,_),(82,_)] 3 (Xd (z:=by exact⟨(λ_ _=>⟨_,y,y,bl 6 ti y ti y YB YB y y y<|⟨(.msl 6 0 1),[],[(95,_)],y,y,y,y,Xd (z:=by exact⟨nv,(λ_ _=>⟨_,y,y,Lo 7 ti y ti y y YB ti y y y y (Lx (f:=G4) (z:=[(ZO.mk l.From l.To l.At C)]) y y) (λ_=>y) y D<|⟨(.msl 7 0 (length m)),[15],[(97,_),(96,_)],y,y,y,y,Xd (z:=by exact⟨nv,nv,(λ_ _=>⟨_,y,y,La ti y y y<|⟨.any,[],[],y,y,y,t,Xg (z:=z6 [0,1,2,3,7])⟩⟩),t⟩)⟩⟩),nw,t⟩)⟩⟩),nw,nw,t⟩)) ?_;refine A ?_;cases h;exact⟨_,y,zl [0,1,2,3,4]⟩
  apply zr;cases h;exact⟨y,_,y,zl [0,2,3,4]⟩
 rintro N rfl;refine zm<|A ?_
 exact F4⟩
variable {α:Type}{o:Int}{b:List Bool}{s:List UInt8}{l:List α}{bad:List α->α->Bool}{i:Nat}{c:za}{m:zb}{x:zp}{p ok:α->Bool}{nm:α->List UInt8}
def nh:Option (Bool):=some true
def B0(d:Zd)(e:Zd)(a:Int):zL (Int) (Unit) (Bool):=cond (decide (a<(length d.Traps:Int))) ((idx d.Traps a).bind λb=>(idx e.Traps a).bind λc=>cond ((((!(b.From==c.From))||(!(b.To==c.To)))||(!(b.At==c.At)))||(!(b.X==c.X))) (some (.inr (.inr false))) (some (.inl (i64.wrap (a+1))))) (some (.inr (.inl ())))
def iu(a:Zd)(c:Zd):Option (Bool):=(zk (λz=>B0 a c z) 0).bind λo=>zE o (λb=>nh) some
def B2(d:Zd)(e:Zd)(a:Int):zL (Int) (Unit) (Bool):=cond (decide (a<(length d.Code:Int))) ((idx d.Code a).bind λb=>(idx e.Code a).bind λc=>cond ((((!(b.Op==c.Op))||(!(b.A==c.A)))||(!(b.X==c.X)))||(!(b.Y==c.Y))) (some (.inr (.inr false))) (some (.inl (i64.wrap (a+1))))) (some (.inr (.inl ())))
def PC(a:Zd)(c:Zd):Option (Bool):=cond ((((((!(a.Args==c.Args))||(!(a.Locals==c.Locals)))||(!(a.Stack==c.Stack)))||(!(a.Gives==c.Gives)))||(!((length a.Code:Int)==(length c.Code:Int))))||(!((length a.Traps:Int)==(length c.Traps:Int)))) (some false) ((zk (λz=>B2 a c z) 0).bind λo=>zE o (λb=>iu a c) some)
instance (a:Zd)(c:Zd):VF 66 [.agg (ZZ a),.agg (ZZ c)] (PC a c) bA:=⟨λr h=>by
 refine zi func66 y kz y y<|A ?_;refine ze<|A ?_;apply Xa h y<;>intro j h
 .refine A ?_;exact F4
 refine zc<|ze<|A ?_;obtain⟨o,ho,h⟩:=bs h;refine F7 ho (λz=>[(2,Vg),(3,Vh),(5,iA z)]) (λz=>[some (6,[(ZZ a)]),some (6,[(ZZ c)])]) (λb=>[(2,Vg),(3,Vh)]) (λb=>[some (6,[(ZZ a)]),some (6,[(ZZ c)])]) (pG f66 bA) (z6 [0,1]) ?_ ?_
 .rintro C r h;refine ze<|A ?_;apply Xa h y<;>intro d h
  .refine zc<|ze<|zg ?_;obtain⟨n,q,p,s,h⟩:=F6 h;refine Lc [(2,_),(3,_),(5,_),(6,_),(7,_)] [some (6,[(ZZ a)]),some (6,[(ZZ c)]),some (4,[(Um n)]),some (4,[(Um p)])] [10,11,12,13] Va [(71,_),(70,_),(69,_),(68,_),(67,_),(66,_),(65,_),(64,_),(63,_),(62,_)] 4 (Xd (z:=by exact⟨(λ_ _=>⟨_,y,y,al 2 ti y<|⟨(Vj),[],[(6,_)],y,y,y,y,Xd (z:=by exact⟨nv,(λ_ _=>⟨_,y,y,al 3 ti y<|⟨(Vk),[],[(7,_)],y,y,y,y,Xd (z:=by exact⟨nv,nv,(λ_ _=>⟨_,y,y,La ti y y y<|⟨.any,[],[],y,y,y,t,Xd (z:=by exact⟨nv,nv,nv,(λ_ _=>⟨_,y,y,La ti y y y<|⟨.any,[],[],y,y,y,t,Xg (z:=z6 [0,1,2,3])⟩⟩),t⟩)⟩⟩),nw,t⟩)⟩⟩),nw,nw,t⟩)⟩⟩),(λ_ _=>⟨_,y,y,al 2 ti y<|⟨(Vj),[],[(7,_)],y,y,y,y,Xd (z:=by exact⟨(λ_ _=>⟨_,y,y,al 3 ti y<|⟨(Vk),[],[(6,_)],y,y,y,y,Xd (z:=by exact⟨nv,nv,(λ_ _=>⟨_,y,y,La ti y y y<|⟨.any,[],[],y,y,y,t,Xd (z:=by exact⟨nv,nv,nv,(λ_ _=>⟨_,y,y,La ti y y y<|⟨.any,[],[],y,y,y,t,Xg (z:=z6 [0,1,3,2])⟩⟩),t⟩)⟩⟩),nw,t⟩)⟩⟩),nv,nw,nw,t⟩)⟩⟩),nw,nw,t⟩)) ?_;refine A ?_;apply Xa h y<;>intro e h
   .refine A ?_;apply zA;cases h;exact⟨_,y,_,y,Xb []⟩
   refine zc<|A ?_;exact LH
  exact LW
 rintro⟨⟩ rfl;refine zm<|ze<|A ?_;obtain⟨o,ho,h⟩:=bs h;refine F7 ho (λz=>[(2,Vg),(3,Vh),(8,iA z)]) (λz=>[some (6,[(ZZ a)]),some (6,[(ZZ c)])]) (λb=>[]) (λb=>[]) (pG f66 bA) (z6 [0,1]) ?_ ?_
 .rintro v r h;refine ze<|A ?_;apply Xa h y<;>intro f h
  .refine zc<|ze<|zg ?_;obtain⟨l,x,m,B,h⟩:=F6 h;refine Lc [(2,_),(3,_),(8,_),(9,_),(10,_)] [some (6,[(ZZ a)]),some (6,[(ZZ c)]),some (4,[(G4 l)]),some (4,[(G4 m)])] [10,11,12,13] Va [(114,_),(113,_),(112,_),(111,_),(110,_),(109,_),(108,_),(107,_),(106,_),(105,_)] 4 (Xd (z:=by exact⟨(λ_ _=>⟨_,y,y,al 2 ti y<|⟨(Vj),[],[(9,_)],y,y,y,y,Xd (z:=by exact⟨nv,(λ_ _=>⟨_,y,y,al 3 ti y<|⟨(Vk),[],[(10,_)],y,y,y,y,Xd (z:=by exact⟨nv,nv,(λ_ _=>⟨_,y,y,La ti y y y<|⟨.any,[],[],y,y,y,t,Xd (z:=by exact⟨nv,nv,nv,(λ_ _=>⟨_,y,y,La ti y y y<|⟨.any,[],[],y,y,y,t,Xg (z:=z6 [0,1,2,3])⟩⟩),t⟩)⟩⟩),nw,t⟩)⟩⟩),nw,nw,t⟩)⟩⟩),(λ_ _=>⟨_,y,y,al 2 ti y<|⟨(Vj),[],[(10,_)],y,y,y,y,Xd (z:=by exact⟨(λ_ _=>⟨_,y,y,al 3 ti y<|⟨(Vk),[],[(9,_)],y,y,y,y,Xd (z:=by exact⟨nv,nv,(λ_ _=>⟨_,y,y,La ti y y y<|⟨.any,[],[],y,y,y,t,Xd (z:=by exact⟨nv,nv,nv,(λ_ _=>⟨_,y,y,La ti y y y<|⟨.any,[],[],y,y,y,t,Xg (z:=z6 [0,1,3,2])⟩⟩),t⟩)⟩⟩),nw,t⟩)⟩⟩),nv,nw,nw,t⟩)⟩⟩),nw,nw,t⟩)) ?_;refine A ?_;apply Xa h y<;>intro i h
   .refine A ?_;apply zA;cases h;exact⟨_,y,_,y,Xb []⟩
   refine zc<|A ?_;exact LH
  exact Ll
 rintro⟨⟩ rfl;refine zm<|A ?_
 exact F4⟩
def m8:Option (Bool):=some true
def mZ(a:Int):zL (Int) (Unit) (Bool):=some (.inl (i64.wrap (a+1)))
def Iz(q:(Option zu)×Int)(c:(Vr)×T2×T1×T1×T1)(e:(Vr)×T2×T2×(List (T0×zy))×T1)(a:zG)(f:T2)(i:List Int)(d:Int)(b:Int):zL (Int) (Unit) (Bool):=(idx a.L d).bind λj=>cond (decide (b<(length j.Methods:Int))) ((idx a.L d).bind λl=>(idx a.L d).bind λm=>(BF q.1 c.1 c.2.1 c.2.2.1 c.2.2.2.1 c.2.2.2.2 e.1 e.2.1 f e.2.2.2.1 e.2.2.2.2 l.Name b).bind λn=>(Ts a.L i m.Name b).bind λo=>(PC n o).bind λp=>cond (!p) (some (.inr (.inr false))) (some (.inl (i64.wrap (b+1))))) (some (.inr (.inl ())))
def Iy(j:(Option zu)×Int)(d:(Vr)×T2×T1×T1×T1)(e:(Vr)×T2×T2×(List (T0×zy))×T1)(a:zG)(f:T2)(i:List Int)(c:Int):zL (Int) (Unit) (Bool):=cond (decide (c<(length a.L:Int))) ((idx a.L c).bind λl=>(idx a.L c).bind λm=>(BL j.1 d.1 d.2.1 d.2.2.1 d.2.2.2.1 d.2.2.2.2 e.1 e.2.1 f e.2.2.2.1 e.2.2.2.2 l.Name).bind λn=>(Wi a.L i m.Name).bind λp=>cond (!(n==p)) (some (.inr (.inr false))) ((zk (λz=>Iz j d e a f i c z) 0).bind λo=>zE o (λb=>mZ c) (λr=>some (.inr (.inr r))))) (some (.inr (.inl ())))
def eT(e:(Option zu)×Int)(f:(Vr)×T2×T1×T1×T1)(i:(Vr)×T2×T2×(List (T0×zy))×T1)(a:zG)(c:T2)(d:List Int):Option (Bool):=(zk (λz=>Iy e f i a c d z) 0).bind λo=>zE o (λb=>m8) some
def Ak(a:Int)(b:T2)(c:List Int):zL (T2×(List Int)×Int) (T2×(List Int)) (Bool):=some (.inl (b,c,(i64.wrap (a+1))))
def WE(f:List Bool)(d:(Vr)×T2×T2×(List (T0×zy))×T1)(e:zG)(c:T2)(b:List Int)(a:Int):zL (T2×(List Int)×Int) (T2×(List Int)) (Bool):=cond (decide (a<(length e.L:Int))) ((cond (decide (a<10)) (some true) ((cond (decide ((i64.wrap (a-10))<(length f:Int))) ((idx f (i64.wrap (a-10))).bind λi=>some i) (some false)).bind λj=>some j)).bind λl=>cond l ((idx b a).bind λn=>(idx e.L a).bind λm=>Ak a (Kh d.1 d.2.1 c d.2.2.2.1 d.2.2.2.2 m.Name 2) (List.set b (Int.toNat a) 2)) (Ak a c b)) (some (.inr (.inl (c,b))))
def TZ(j:Vr)(l:X9)(m:List Bool):Option (Bool):=(Tk).bind λn=>cond (!n) (some false) ((Er (G6.mk j l [] 0)).bind λd=>(HL d.L d.E).bind λa=>(Pe d.L d.E).bind λe=>cond ((!(a.2==e.2))||(Option.isNone e.1)) (some (a.2==e.2)) ((Bz a.1).bind λp=>(Bt a.1).bind λf=>ZG e.1 (none) (λc=>(Mj 8 (length c.L:Int)).bind λi=>(zk (λz=>WE m f c z.1 z.2.1 z.2.2) (f.2.2.1,(List.replicate i 0),0)).bind λo=>zE o (λb=>eT a p f c b.1 b.2) some)))
theorem eS(a:Vr)(H:X9)(q:List Bool)(h:TZ a H q=some r):VD 12 [cL a,.agg (KR H),.isl 1 (map rB q)] (bA r):=by
 refine zi func12 y kz y y<|A ?_;obtain⟨v4,q1,h⟩:=bs h;refine A ?_;refine ze<|A ?_;apply Xa h y<;>intro N h
 .refine A ?_;exact F4
 apply zc;obtain⟨C,q3,h⟩:=bs h;refine A ?_;refine u<|pcn (oT (G6.mk a H [] 0) q3) y y ⟨(nlA ⟨(xq y),(xq y),(xq y),(nlN),(xq y),t⟩),t⟩<|A ?_;obtain⟨e,q4,h⟩:=bs h;refine rg y<|u<|fa ti y y y<|u<|ld ti y y<|u<|fa ti y y y<|u<|ld ti y y<|u<|pc (BZ C.L C.E q4) y y y<|u<|mv y<|u<|ex y y<|u<|ex y y<|u<|Lw y<|u<|Lw y<|zx ?_;obtain⟨v7,q5,h⟩:=bs h;refine rg y<|u<|fa ti y y y<|u<|ld ti y y<|u<|fa ti y y y<|u<|ld ti y y<|u<|pc (o5 C.L C.E q5) y y y<|u<|mv y<|u<|ex y y<|u<|ex y y<|u<|Lw y<|u<|Lw y<|zx ?_;refine ze<|A ?_;refine Uj (j:=3) 2 y y y y y Lr (λs=>g y s<|mv y<|g y s<|qj ti y y y<|zx (MC [46,47] 2 s y y y y)) Mq<|zx ?_;apply Xa h y<;>intro O h
 .refine A ?_;exact F4
 apply zc;obtain⟨d,q8,c,q9,h⟩:=F6 h;refine rg y<|u<|mv y<|u<|sc [] (kC q8) y y y y ⟨(Ln (Zo (λ_=>y))),t⟩ t<|u<|mv y<|u<|sc [] (u7 q9) y y y y ⟨(Ln (Zo (λ_=>y))),t⟩ t<|A ?_;refine rg y<|u<|mv y<|?_;generalize v7.1=P at h ⊢
 rcases P with _|i
 .replace h:=L9 h;cases h
 replace h:=L8 h;obtain⟨v12,Q,h⟩:=bs h;refine u<|nc y y<|u<|fa ti y y y<|u<|ld ti y y<|u<|Mu ti y y<|u<|wB (f:=(rI .i64)) (z:=0) 10 ti y ti y y y y y y Q<|u<|Lw y<|zx ?_;refine ze<|A ?_;obtain⟨o,ho,h⟩:=bs h;refine F7 ho (λz=>[(2,.isl 1 (map rB q)),(9,Xz 2 XX e.1),(11,.ipt 1 [[cL i.L]] 0 0),(13,Vg),(14,Vh),(15,.msl 5 0 (length z.2.1)),(16,iA z.2.2)]) (λz=>[some (4,[[.ipt 2 [[cL d.1,mI d.2.1]] 0 0,tL d.2.2.1,tL d.2.2.2.1,tL d.2.2.2.2]]),Xw c.1 c.2.1 2 3 4 c.2.2.2.2,some (2,map (F5 (λx=>iA x)) z.1),some (2,map (F5 (λx=>.agg (zn x))) c.2.2.2.1),sT c.2.2.2.2,some (1,map (rI .i64) z.2.1)]) (λb=>[(9,Xz 2 XX e.1),(11,.ipt 1 [[cL i.L]] 0 0),(13,Vg),(14,Vh),(15,.msl 5 0 (length b.2))]) (λb=>[some (4,[[.ipt 2 [[cL d.1,mI d.2.1]] 0 0,tL d.2.2.1,tL d.2.2.2.1,tL d.2.2.2.2]]),Xw c.1 c.2.1 2 3 4 c.2.2.2.2,some (2,map (F5 (λx=>iA x)) b.1),some (2,map (F5 (λx=>.agg (zn x))) c.2.2.2.1),sT c.2.2.2.2,some (1,map (rI .i64) b.2)]) (pG f12 bA) (z6 [2,6,7,8,9,10]) ?_ ?_
 .rintro⟨n,p,m⟩ r h;refine ze<|A ?_;apply Xa h y<;>intro F h
  .apply zc;refine zY (X:=T2×(List Int)) (λz=>[(2,.isl 1 (map rB q)),(9,Xz 2 XX e.1),(11,.ipt 1 [[cL i.L]] 0 0),(13,Vg),(14,Vh),(15,.msl 5 0 (length z.2)),(16,iA m)]) (λz=>[some (4,[[.ipt 2 [[cL d.1,mI d.2.1]] 0 0,tL d.2.2.1,tL d.2.2.2.1,tL d.2.2.2.2]]),Xw c.1 c.2.1 2 3 4 c.2.2.2.2,some (2,map (F5 (λx=>iA x)) z.1),some (2,map (F5 (λx=>.agg (zn x))) c.2.2.2.1),sT c.2.2.2.2,some (1,map (rI .i64) z.2)]) (λz=>Ak m z.1 z.2=some r) ?_ ?_
   .apply zg;obtain⟨v28,q25,h⟩:=bs h;refine A ?_;apply Xa h y<;>intro G h;.obtain⟨v29,R,h⟩:=bs h;refine A ?_;refine u<|W4 (c':=2) ti y y (zT R).2.2 y y y y y<|zx ?_;obtain⟨v,q28,h⟩:=bs h;refine A ?_;exact u<|sx [1,2,3,4] (Ap c.1 c.2.1 n c.2.2.2.1 c.2.2.2.2 v.Name 2 y)<|zw (VC:=[(2,.isl 1 (map rB q)),(9,Xz 2 XX e.1),(11,.ipt 1 [[cL i.L]] 0 0),(13,Vg),(14,Vh),(15,.msl 5 0 (length (List.set p (Int.toNat m) 2))),(16,iA m)]) (VJ:=[some (4,[[.ipt 2 [[cL d.1,mI d.2.1]] 0 0,tL d.2.2.1,tL d.2.2.2.1,tL d.2.2.2.2]]),Xw c.1 c.2.1 2 3 4 c.2.2.2.2,some (2,map (F5 (λx=>iA x)) (Kh c.1 c.2.1 n c.2.2.2.1 c.2.2.2.2 v.Name 2)),some (2,map (F5 (λx=>.agg (zn x))) c.2.2.2.1),sT c.2.2.2.2,some (1,map (rI .i64) (List.set p (Int.toNat m) 2))]) ⟨[0,1,2,3,4,5],ce y y<|cv y (ci (Zo (λ_=>y)))<|ce y y<|cv y (.mpt y)<|cv y (.mpt y)<|cv y (HX (by simp) y)<|ce y y<|cn,y,⟨⟨_,y,XN (LO y)⟩,⟨_,y,XN ⟨ci y,.mmp y,.mmp y,.msl y,t⟩⟩,⟨_,y,XL (λ_=>y)⟩,⟨_,y,XL (λ_=>y)⟩,⟨_,y,XL (λ_=>y)⟩,⟨_,y,XL (λ_=>y)⟩,t⟩,y,k⟩<|zx (⟨⟨(Kh c.1 c.2.1 n c.2.2.2.1 c.2.2.2.2 v.Name 2),(List.set p (Int.toNat m) 2)⟩,h,zl [0,1,2,3,4,5]⟩)
    apply zc;exact⟨⟨n,p⟩,h,zl [0,1,2,3,4,5]⟩
   rintro⟨v31,v32⟩ h;refine A ?_;cases h;exact⟨_,y,zl [0,1,2,3,4,5]⟩
  apply zr;cases h;exact⟨y,_,y,zl [0,1,2,3,4,5]⟩
 rintro⟨l,B⟩ rfl;refine zm<|ze<|A ?_;obtain⟨o,ho,h⟩:=bs h;refine F7 ho (λz=>[(9,Xz 2 XX e.1),(11,.ipt 1 [[cL i.L]] 0 0),(13,Vg),(14,Vh),(15,.isl 1 (map (rI .i64) B)),(17,iA z)]) (λz=>[some (4,[[.ipt 2 [[cL d.1,mI d.2.1]] 0 0,tL d.2.2.1,tL d.2.2.2.1,tL d.2.2.2.2]]),Xw c.1 c.2.1 2 3 4 c.2.2.2.2,some (2,map (F5 (λx=>iA x)) l),some (2,map (F5 (λx=>.agg (zn x))) c.2.2.2.1),sT c.2.2.2.2]) (λb=>[]) (λb=>[]) (pG f12 bA) (z6 [0,1,2,3,4]) ?_ ?_
 .rintro D r h;refine ze<|A ?_;apply Xa h y<;>intro I h
  .refine zc<|ze<|zg<|ze ?_;obtain⟨S,T,v59,U,V,W,v61,q58,h⟩:=Me h;cases T.symm.trans U;refine Lc [(9,_),(11,_),(13,_),(14,_),(15,_),(17,_),(132,_)] [some (4,[[.ipt 2 [[cL d.1,mI d.2.1]] 0 0,tL d.2.2.1,tL d.2.2.2.1,tL d.2.2.2.2]]),Xw c.1 c.2.1 2 3 4 c.2.2.2.2,some (2,map (F5 (λx=>iA x)) l),some (2,map (F5 (λx=>.agg (zn x))) c.2.2.2.1),sT c.2.2.2.2] [11] [0,1,2,3,4,5,6,7,8,9,10,12,13,14,15,16,17,18,19,20,21] [(130,_),(129,_),(128,_),(127,_),(126,_),(125,_),(124,_),(123,_),(122,_),(121,_),(119,_),(118,_),(117,_),(116,_),(115,_),(114,_),(113,_),(112,_),(111,_),(110,_),(109,_)] 1 (Xd (z:=by exact⟨(λ_ _=>⟨_,y,y,sc [0,1,2,3,4] (Am W) y y y y ⟨(Ln (Zo (λ_=>y))),(.mpt y),(.mpt y),(Ln y),t⟩ ⟨⟨_,y,(Z0 y)⟩,⟨_,y,⟨(Ln y),(.mmp y),(.mmp y),(.msl y),t⟩⟩,⟨y,LD (λ_=>y)⟩,⟨y,LD (λ_=>y)⟩,⟨y,LD (λ_=>y)⟩,t⟩<|⟨(iA V),[22,23],[(132,_),(131,_),(120,_)],y,y,y,y,Xg (z:=z6 [0,1,2,3,4])⟩⟩),t⟩)) ?_;apply Xa h y<;>intro J h
   .refine A ?_;apply zA;cases h;exact⟨_,y,_,y,Xb []⟩
   refine zc<|A ?_;obtain⟨o,ho,h⟩:=bs h;refine LG ho (λz=>[(9,Xz 2 XX e.1),(11,.ipt 1 [[cL i.L]] 0 0),(13,Vg),(14,Vh),(15,.isl 1 (map (rI .i64) B)),(17,iA D),(18,iA z)]) (λz=>[some (4,[[.ipt 2 [[cL d.1,mI d.2.1]] 0 0,tL d.2.2.1,tL d.2.2.2.1,tL d.2.2.2.2]]),Xw c.1 c.2.1 2 3 4 c.2.2.2.2,some (2,map (F5 (λx=>iA x)) l),some (2,map (F5 (λx=>.agg (zn x))) c.2.2.2.1),sT c.2.2.2.2]) (λb=>[(9,Xz 2 XX e.1),(11,.ipt 1 [[cL i.L]] 0 0),(13,Vg),(14,Vh),(15,.isl 1 (map (rI .i64) B)),(17,iA D)]) (λb=>[some (4,[[.ipt 2 [[cL d.1,mI d.2.1]] 0 0,tL d.2.2.1,tL d.2.2.2.1,tL d.2.2.2.2]]),Xw c.1 c.2.1 2 3 4 c.2.2.2.2,some (2,map (F5 (λx=>iA x)) l),some (2,map (F5 (λx=>.agg (zn x))) c.2.2.2.1),sT c.2.2.2.2]) (pG f12 bA) (z6 [0,1,2,3,4]) ?_ ?_ ?_
   .rintro Y r h;apply ze;obtain⟨v70,q68,h⟩:=bs h;refine A ?_;apply Xa h y<;>intro K h
    .refine zc<|ze<|zg ?_;obtain⟨Z,q70,v72,q71,v73,q72,v74,q73,h⟩:=Me h;cases q70.symm.trans q71;obtain⟨v75,q74,h⟩:=bs h;refine Lc [(9,_),(11,_),(13,_),(14,_),(15,_),(17,_),(18,_),(172,_)] [some (4,[[.ipt 2 [[cL d.1,mI d.2.1]] 0 0,tL d.2.2.1,tL d.2.2.2.1,tL d.2.2.2.2]]),Xw c.1 c.2.1 2 3 4 c.2.2.2.2,some (2,map (F5 (λx=>iA x)) l),some (2,map (F5 (λx=>.agg (zn x))) c.2.2.2.1),sT c.2.2.2.2] [12] [0,1,2,3,4,5,6,7,8,9,10,11,13,14,15,16,17,18,19,20,21,22,23] [(169,_),(168,_),(167,_),(166,_),(165,_),(164,_),(163,_),(162,_),(161,_),(160,_),(159,_),(157,_),(156,_),(155,_),(154,_),(153,_),(152,_),(151,_),(150,_),(149,_),(148,_),(147,_),(146,_)] 1 (Xd (z:=by exact⟨(λ_ _=>⟨_,y,y,sc [0,1,2,3,4] (et q72) y y y y ⟨(Ln (Zo (λ_=>y))),(.mpt y),(.mpt y),(Ln y),(Ln y),t⟩ ⟨⟨_,y,(Z0 y)⟩,⟨_,y,⟨(Ln y),(.mmp y),(.mmp y),(.msl y),t⟩⟩,⟨y,LD (λ_=>y)⟩,⟨y,LD (λ_=>y)⟩,⟨y,LD (λ_=>y)⟩,t⟩<|⟨(.agg (ZZ v73)),[24,25,26],[(172,_),(171,_),(170,_),(158,_)],y,y,y,y,Xg (z:=z6 [0,1,2,3,4])⟩⟩),t⟩)) ?_;apply Xa h y<;>intro M h
     .refine A ?_;apply zA;cases h;exact⟨_,y,_,y,Xb []⟩
     refine zc<|A ?_;cases h;exact⟨_,y,zl [0,1,2,3,4]⟩
    apply zr;cases h;exact⟨y,_,y,zl [0,1,2,3,4]⟩
   .rintro⟨⟩ rfl;refine zm<|A ?_;cases h;exact⟨_,y,zl [0,1,2,3,4]⟩
   rintro r' rfl env st hp;cases h;exact⟨_,y,hp⟩
  exact Ll
 rintro⟨⟩ rfl;refine zm<|A ?_;exact F4
instance (H:X9):VF 12 [cL a,.agg (KR H),.isl 1 (map rB b)] (TZ a H b) bA:=⟨λ_=>eS a H b⟩
theorem zo(l:List α)(i:Nat):idx l (i:Int)=l[i]?:=by unfold idx;rw[YK YA,Ja]
theorem HC(l:List α):idx l 0=l[0]?:=zo l 0
theorem ZA{n:Int}(h1:-9223372036854775808<=n)(h2:n<=9223372036854775807):i64.wrap n=n:=IntWalk.i64_in n ⟨h1,h2⟩
theorem zz(h:i<9223372036854775807):i64.wrap ((i:Int)+1)=((i+1:Nat):Int):=by rw[ZA YA YA];omega
theorem br{a b:Int}(h0:0<=a)(h1:a<=b)(h2:b<=l.length):XR l a b=some ((l.drop a.toNat).take (b.toNat-a.toNat)):=by unfold XR;rw[YK ⟨h0,h1,h2⟩]
theorem Ea{b:Nat}(h:b<=l.length):XR l 0 (b:Int)=some (l.take b):=by rw[br YA YA YA];simp
theorem G5{a:Nat}(h:a<=l.length):XR l (a:Int) (l.length:Int)=some (l.drop a):=by rw[br YA YA YA];simp only[Ja];rw[JF YC]
theorem XH{w:Nat}{x:List α}(h:(l.length+x.length)*w<=140737488355328)(h2:l.length+x.length<=9223372036854775807):Xu w l x=some (l++x):=by unfold Xu;rw[YK ⟨h,h2⟩]
theorem Z3{l x:List UInt8}(h:l.length+x.length<=9223372036854775807):Ze l x=some (l++x):=by unfold Ze;rw[YK h]
def XJ{R U:Type}(u:U):Option R->Sum U R
 |some r=>.inr r
 |none=>.inl u
def U6{R U:Type}(i:Nat):Option R->Sum Int (Sum U R)
 |some r=>.inr (.inr r)
 |none=>.inl ((i+1:Nat):Int)
theorem N8{R U:Type}{body:Int->Option (Sum Int (Sum U R))}{g:α->Option R}{u:U}{k:Nat}(hb:∀(i:Nat) x,k<=i->l[i]?=some x->body (i:Int)=some (U6 i (g x)))(he:body (l.length:Int)=some (.inr (.inl u)))(hk:k<=l.length):zk body (k:Int)=some (XJ u ((l.drop k).findSome? g)):=by
 have key:∀d i,l.length-i=d->k<=i->i<=l.length->zk body (i:Int)=some (XJ u ((l.drop i).findSome? g)):=by
  intro d
  induction d with
  |zero =>
   intro i hd hki hi
   have:i=l.length:=YA
   subst this;rw[zH,he,List.drop_length];rfl
  |succ d ih =>
   intro i hd hki hi
   have hlt:i<l.length:=YA
   rw[zH,hb i l[i] hki (Qe hlt),JL hlt,Q7]
   cases g l[i]with
   |some r=>rfl
   |none =>
    show zk body ((i+1:Nat):Int)=_;exact ih (i+1) YA YA YA
 exact key _ k rfl (Qg _) hk
theorem Zq{R U:Type}{body:Int->Option (Sum Int (Sum U R))}{g:α->Option R}{u:U}(hb:∀(i:Nat) x,l[i]?=some x->body (i:Int)=some (U6 i (g x)))(he:body (l.length:Int)=some (.inr (.inl u))):zk body 0=some (XJ u (l.findSome? g)):=N8 (k:=0) (λi x _=>hb i x) he (Qk _)
theorem uv{R U:Type}{body:Int->Option (Sum Int (Sum U R))}{n:Nat}{g:Nat->Option R}{u:U} (hb:∀i,i<n->body (i:Int)=some (U6 i (g i))) (he:body (n:Int)=some (.inr (.inl u))):zk body 0=some (XJ u ((List.range n).findSome? g)):=by
 have h:=Zq (body:=body) (l:=List.range n) (g:=g) (u:=u) (λi x hx=>by
  have hi:i<n:=by
   have:=(Qb.1 hx).1;simpa using this
  have hx':x=i:=by
   have:=(Qb.1 hx).2;simpa using this.symm
  subst hx'
  exact hb x hi) (by rw[List.length_range];exact he)
 exact h
theorem z8{R:Type}(l:List α)(p:α->Bool)(r:R):l.findSome? (λx=>cond (p x) (some r) none)=cond (l.any p) (some r) none:=by
 induction l with
 |nil=>rfl
 |cons x l ih =>
  rw[Q7,Q2]
  cases p x with
  |true=>rfl
  |false=>simpa using ih
def rr(n:Int):Nat:=if n<0 then(-2*n-1).toNat else(2*n).toNat
def qg:Nat->Nat->List UInt8
 |0,_=>[]
 |k+1,u=>if 127<u then UInt8.ofNat (u % 128+128)::qg k (u / 128)else[UInt8.ofNat u]
def put(n:Int):List UInt8:=qg 10 (rr n)
def LV(x:UInt8):Bool:=Kg x||KT x||Wg x
def Na(p:UInt8->Bool):List UInt8->Bool
 |[]=>false
 |x::_=>p x
def KE(s:List UInt8):Bool:=s.all LV&&(!(s==[])&&decide ((s.length:Int)<=8))
def XM(s:List UInt8):Bool:=KE s&&decide (1<(s.length:Int))&&Na KT s
def GT(s:List UInt8):Bool:=(s==[36,105,110,105,116])||(KE s&&Na Kg s)
def X3:List UInt8->List UInt8
 |[]=>[]
 |x::r=>if x=91 then r else x::r
def Xr(s:List UInt8):Bool:=(X3 (X3 s)==[73])||XM (X3 (X3 s))
def Zu(s:List UInt8):Bool:=!(s==[73])&&Xr s
def Ui(s:List UInt8):Bool:=(s==[86])||Xr s
abbrev Lf(s:List UInt8):Prop:=s.length<=9223372036854775807
theorem wn(l:List α)(p:α->Bool):l.any (λx=>!p x)=!l.all p:=by
 induction l with
 |nil=>rfl
 |cons x l ih=>rw[Q2,Yt,ih];cases p x<;>rfl
theorem oV(h:Lf s):N9 s=some (KE s):=by
 have hl:zk (λz=>E5 s z) 0=_:=Zq (l:=s) (g:=λx=>cond (!LV x) (some false) none) (u:=()) (λi x hx=>by
  have hi:=(Qb.1 hx).1;show E5 s (i:Int)=_;unfold E5;rw[zo,hx,YH YA,zz (by unfold Lf at h;omega)];unfold LV
  cases h1:Kg x<;>cases h2:KT x<;>cases h3:Wg x<;>simp[h1,h2,h3,U6]) (by
  show E5 s (s.length:Int)=_;unfold E5;rw[YI YA]
  rfl)
 unfold N9;rw[hl,z8,wn];unfold KE;cases s.all LV<;>rfl
theorem S4(p:UInt8->Bool)(x:UInt8)(r:List UInt8):Na p (x::r)=p x:=rfl
theorem vB(h:KE s=true):∃x r,s=x::r:=by
 cases s with
 |nil=>exact absurd h YB
 |cons x r=>exact⟨x,r,rfl⟩
theorem E2(h:Lf s):Do s=some (XM s):=by
 unfold Do;rw[oV h,HC];unfold XM
 cases hw:KE s with
 |false=>rfl
 |true =>
  obtain⟨x,r,rfl⟩:=vB hw;simp only[Qa,QD,Q3];cases decide (1<((x::r).length:Int))<;>rfl
theorem ko(h:Lf s):Et s=some (GT s):=by
 unfold Et;rw[oV h,HC];unfold GT
 cases s==[36,105,110,105,116]with
 |true=>rfl
 |false =>
  cases hw:KE s with
  |false=>rfl
  |true =>
   obtain⟨x,r,rfl⟩:=vB hw;rfl
theorem Dk(x:UInt8)(r:List UInt8):X3 (x::r)=if x=91 then r else x::r:=rfl
theorem SE(s:List UInt8):(X3 s).length<=s.length:=by
 cases s with
 |nil=>exact Qg _
 |cons x r=>rw[Dk];split<;>simp
theorem yj(h:Lf s):PT s [91]=some (X3 s):=by
 unfold PT gM gN
 cases s with
 |nil=>rfl
 |cons x r =>
  have e1:decide ((List.length [(91:UInt8)]:Int)<=(List.length (x::r):Int))=true:=YH (by simp only[Qw,Q6];omega)
  have e2:XR (x::r) 0 (List.length [(91:UInt8)]:Int)=some [x]:=by
   have:=Ea (l:=x::r) (b:=1) YC;simpa using this
  have e3:XR (x::r) (List.length [(91:UInt8)]:Int) (List.length (x::r):Int)=some r:=by
   have:=G5 (l:=x::r) (a:=1) YC;simpa using this
  rw[e1,e2,e3,Dk];by_cases hx:x=91;.subst hx;rfl
  rw[YM hx]
  have:([x]==[(91:UInt8)])=false:=by simp[hx]
  simp[this]
theorem BD(h:Lf s):HA s=some (Xr s):=by have h1:=SE s;have h2:=SE (X3 s);unfold HA;rw[yj h,Qa,yj (by unfold Lf at *;omega),Qa,E2 (by unfold Lf at *;omega)];unfold Xr;cases X3 (X3 s)==[73]<;>rfl
theorem BC(h:Lf s):Dh s=some (Zu s):=by unfold Dh;rw[BD h];unfold Zu;cases s==[73]<;>rfl
theorem zAy(h:Lf s):Sq s=some (Ui s):=by unfold Sq;rw[BD h];unfold Ui;cases s==[86]<;>rfl
theorem ui(x:UInt8):Pf x=KT x:=rfl
theorem uF(x:UInt8):Pj x=Kg x:=rfl
theorem bo(x:UInt8):Pg x=Wg x:=rfl
theorem EZ(h:Lf s):Dl s=some (XM s):=by
 unfold Dl
 have hend:Dt s (s.length:Int)=some (.inr (.inl ())):=by
  unfold Dt;rw[YI YA];rfl
 cases s with
 |nil=>rw[zH];rfl
 |cons x r =>
  have hrest:zk (λz=>Dt (x::r) z) ((1:Nat):Int)=some (XJ () (((x::r).drop 1).findSome? (λy=>cond (!LV y) (some false) none))):=
   N8 (k:=1) (g:=λy=>cond (!LV y) (some false) none) (λi y hi hy=>by
    have hlt:=(Qb.1 hy).1;show Dt (x::r) (i:Int)=_;unfold Dt;rw[zo,hy,YH YA,zz (by unfold Lf at h;omega)]
    have e:((i:Int)==(0:Int))=false:=by simp;omega
    rw[e];simp only[ui,uF,bo];unfold LV
    cases h1:Kg y<;>cases h2:KT y<;>cases h3:Wg y<;>simp[h1,h2,h3,U6]) hend YC
  have hfirst:Dt (x::r) 0=some (cond (KT x) (.inl 1) (.inr (.inr false))):=by
   unfold Dt;rw[HC,YH (by simp only[Qw,Q6];omega)];simp only[ui]
   have:i64.wrap (0+1)=1:=YB
   rw[this];simp only[Q3,Qa];cases hg:KT x<;>rfl
  rw[zH,hfirst]
  cases hg:KT x with
  |false =>
   have:XM (x::r)=false:=by unfold XM;rw[S4,hg];simp
   rw[this];rfl
  |true =>
   show((zk (λz=>Dt (x::r) z) ((1:Nat):Int)).bind _)=_;rw[hrest,List.drop_one,List.tail_cons,z8,wn]
   have:XM (x::r)=(r.all LV&&(decide (2<=(List.length (x::r):Int))&&decide ((List.length (x::r):Int)<=8))):=by
    unfold XM KE;rw[S4]
    have ho:LV x=true:=by unfold LV;rw[hg];simp
    rw[Yt,ho,hg]
    have e:decide (1<(List.length (x::r):Int))=decide (2<=(List.length (x::r):Int)):=by congr 1
    rw[e];have e2:((x::r)==[])=false:=rfl;rw[e2];cases r.all LV<;>cases decide (2<=(List.length (x::r):Int))<;>cases decide ((List.length (x::r):Int)<=8)<;>rfl
   rw[this];cases r.all LV<;>rfl
theorem kh(h:Lf s):EA s=some (GT s):=by
 unfold EA
 have hend:Ds s (s.length:Int)=some (.inr (.inl ())):=by
  unfold Ds;rw[YI YA];rfl
 unfold GT
 cases s==[36,105,110,105,116]with
 |true=>rfl
 |false =>
 show(zk _ _).bind _=some (KE s&&Na Kg s)
 cases s with
 |nil=>rw[zH];rfl
 |cons x r =>
  have hrest:zk (λz=>Ds (x::r) z) ((1:Nat):Int)=some (XJ () (((x::r).drop 1).findSome? (λy=>cond (!LV y) (some false) none))):=
   N8 (k:=1) (g:=λy=>cond (!LV y) (some false) none) (λi y hi hy=>by
    have hlt:=(Qb.1 hy).1;show Ds (x::r) (i:Int)=_;unfold Ds;rw[zo,hy,YH YA,zz (by unfold Lf at h;omega)]
    have e:((i:Int)==(0:Int))=false:=by simp;omega
    rw[e];simp only[ui,uF,bo];unfold LV
    cases h1:Kg y<;>cases h2:KT y<;>cases h3:Wg y<;>simp[h1,h2,h3,U6]) hend YC
  have hfirst:Ds (x::r) 0=some (cond (Kg x) (.inl 1) (.inr (.inr false))):=by
   unfold Ds;rw[HC,YH (by simp only[Qw,Q6];omega)];simp only[uF]
   have:i64.wrap (0+1)=1:=YB
   rw[this];simp only[Q3,Qa];cases hg:Kg x<;>rfl
  rw[zH,hfirst]
  cases hg:Kg x with
  |false =>
   have:(KE (x::r)&&Na Kg (x::r))=false:=by rw[S4,hg];simp
   rw[this];rfl
  |true =>
   show((zk (λz=>Ds (x::r) z) ((1:Nat):Int)).bind _)=_;rw[hrest,List.drop_one,List.tail_cons,z8,wn]
   have:(KE (x::r)&&Na Kg (x::r))=(r.all LV&&(decide (1<=(List.length (x::r):Int))&&decide ((List.length (x::r):Int)<=8))):=by
    unfold KE;rw[S4]
    have ho:LV x=true:=by unfold LV;rw[hg];simp
    rw[Yt,ho,hg];have e2:((x::r)==[])=false:=rfl;have e3:decide (1<=(List.length (x::r):Int))=true:=YH (by simp only[Qw,Q6];omega);rw[e2,e3];cases r.all LV<;>cases decide ((List.length (x::r):Int)<=8)<;>rfl
   rw[this];cases r.all LV<;>rfl
theorem Dp(h:Lf s):Gz s=some (Xr s):=by
 have step:∀(t:List UInt8) (i:Int),i<2->EV t i=some (match t with|[]=>.inr (.inl [])|x::r=>if x=91 then .inl (r,i64.wrap (i+1))else .inr (.inl (x::r))):=λt i hi=>by
  unfold EV;rw[YH hi]
  cases t with
  |nil=>rfl
  |cons x r =>
   have e1:decide ((0:Int)<(List.length (x::r):Int))=true:=YH (by simp only[Qw,Q6];omega)
   have e3:XR (x::r) 1 (List.length (x::r):Int)=some r:=by
    have:=G5 (l:=x::r) (a:=1) YC;simpa using this
   rw[e1,HC,e3];by_cases hx:x=91;.subst hx;rfl
   have e:((x.toNat:Int)==(91:Int))=false:=by
    rw[beq_eq_false_iff_ne];intro h;apply hx
    have:x.toNat=(91:UInt8).toNat:=by simp;omega
    exact JS.1 this
   simp[e,YM hx]
 have stop:∀t:List UInt8,EV t 2=some (.inr (.inl t)):=λt=>by unfold EV;simp
 have hl:zk (λz:List UInt8×Int=>EV z.1 z.2) (s,0)=some (.inl (X3 (X3 s))):=by
  have w1:i64.wrap (0+1)=1:=YB
  have w2:i64.wrap (1+1)=2:=YB
  rw[zH];simp only[step s 0 YA]
  cases s with
  |nil=>rfl
  |cons x r =>
   rw[Dk];by_cases hx:x=91
   .simp only[YK hx,Qa,JV,w1];rw[zH];simp only[step r 1 YA]
    cases r with
    |nil=>rfl
    |cons y q =>
     by_cases hy:y=91;.simp only[YK hy,Qa,JV,w2];rw[zH];simp only[stop];rw[Dk,YK hy];rfl
     simp only[YM hy,Qa,Sum.elim_inr];rw[Dk,YM hy]
   simp only[YM hx,Qa,Sum.elim_inr];rw[Dk,YM hx]
 have h1:=SE s;have h2:=SE (X3 s);unfold Gz;rw[hl];show u5 _=_;unfold u5 Xr;rw[EZ (by unfold Lf at *;omega)];cases X3 (X3 s)==[73]<;>rfl
theorem zAX(h:Lf s):SA s=some (Zu s):=by unfold SA;rw[Dp h];unfold Zu;cases s==[73]<;>rfl
def CE(v1:Int):Bool:=((((v1==(1:Int))||(v1==(3:Int)))||(v1==(4:Int)))||(Ur v1))
def H5(o:Int)(s:List UInt8):Bool:=cond (GC o) (Zu s) (cond (DH o) (XM s) (s==[]))
def CU(o:Int)(s:List UInt8):Bool:=cond (W5 o) (GT s&&!(s==[36,105,110,105,116])) (s==[])
def UT(x:zp):Bool:=(Bp x.Op&&Dd x.Op x.A)&&H5 x.Op x.C&&CU x.Op x.M
theorem zDx(h:Lf s):Se o s=some (H5 o s):=by unfold Se H5;rw[BC h,E2 h];cases GC o<;>cases DH o<;>rfl
theorem zDy(h:Lf s):Sd o s=some (CU o s):=by unfold Sd CU;rw[ko h];cases W5 o<;>rfl
theorem zFz(hC:Lf x.C)(hM:Lf x.M):C7 x=some (UT x):=by unfold C7 UT;rw[zDx hC,zDy hM];cases(Bp x.Op&&Dd x.Op x.A)<;>cases H5 x.Op x.C<;>rfl
theorem tH(o A:Int):Dd o A=cond (CE o) (Pi o A) (A==0):=by
 have e1:decide (A<=2147483647)=decide (A<2147483648):=by congr 1;apply propext;omega
 have e2:decide (A<=15)=decide (A<16):=by congr 1;apply propext;omega
 have e3:decide (A<=99)=decide (A<100):=by congr 1;apply propext;omega
 unfold Dd CE Pi Wd Ur Gj;rw[e1,e2,e3];by_cases h1:o=1;.subst h1;rfl
 by_cases h3:o=3;.subst h3;rfl
 by_cases h4:o=4;.subst h4;rfl
 have b1:(o==(1:Int))=false:=beq_eq_false_iff_ne.2 h1;have b3:(o==(3:Int))=false:=beq_eq_false_iff_ne.2 h3;have b4:(o==(4:Int))=false:=beq_eq_false_iff_ne.2 h4;rw[b1,b3,b4];cases(decide (20<=o)&&decide (o<=36))<;>rfl
theorem zFH:∀k:_root_.Fin 62,(HI (k.val:Int)).1=CE (k.val:Int)/\(HI (k.val:Int)).2.1=cond (GC (k.val:Int)) 2 (cond (DH (k.val:Int)) 1 0)/\(HI (k.val:Int)).2.2=W5 (k.val:Int):=by decide +kernel
theorem l8(hC:Lf x.C)(hM:Lf x.M):Pk x=some (UT x):=by
 unfold Pk UT Bp Gj;by_cases hk:1<=x.Op/\x.Op<=61;.obtain⟨k,hkk⟩:∃k:Nat,x.Op=k:=⟨x.Op.toNat,YA⟩;obtain⟨p1,p2,p3⟩:=zFH ⟨k,YA⟩;simp only at p1 p2 p3;rw[hkk]at hk ⊢;rw[tH,p1,p2,p3,YI (show ¬(k:Int)<1 by omega),YI (show ¬(61:Int)<k by omega),YH hk.1,YH hk.2,EZ hC,zAX hC,kh hM];unfold H5 CU;cases CE (k:Int)<;>cases Pi (k:Int) x.A<;>cases(x.A==0)<;>cases GC (k:Int)<;>cases DH (k:Int)<;>cases W5 (k:Int)<;>cases(x.C==[])<;>cases XM x.C<;>cases Zu x.C<;>rfl
 have h1:(decide (x.Op<1)||decide (61<x.Op))=true:=by
  rw[Qv];by_cases h:x.Op<1;.exact .inl (YH h)
  exact .inr (YH YA)
 have h2:(decide (1<=x.Op)&&decide (x.Op<=61))=false:=by
  rw[JI];by_cases h:1<=x.Op;.exact .inr (YI YA)
  exact .inl (YI h)
 rw[h1,h2];rfl
def Lq{α:Type}(p:α->Bool):Nat->List α->Int
 |_,[]=>-1
 |k,x::r=>cond (p x) (k:Int) (Lq p (k+1) r)
theorem ZK{α:Type}(p:α->Bool):∀(k:Nat) (l:List α),decide (0<=Lq p k l)=l.any p
 |_,[]=>rfl
 |k,x::r=>by
  unfold Lq;rw[Q2]
  cases p x with
  |true=>exact YH (show(0:Int)<=(k:Int)by omega)
  |false=>exact ZK p (k+1) r
theorem Zt{body:Int->Option (Sum Int (Sum Unit Int))}(hl:l.length<=9223372036854775807)(hb:∀(i:Nat) x,l[i]?=some x->body (i:Int)=cond (p x) (some (.inr (.inr (i:Int)))) (some (.inl (i64.wrap ((i:Int)+1)))))(he:body (l.length:Int)=some (.inr (.inl ()))):(zk body 0).bind (λo=>zE o (λ_=>some (-1:Int)) some)=some (Lq p 0 l):=by
 have key:∀(r pre:List α),l=pre++r->(zk body (pre.length:Int)).bind (λo=>zE o (λ_=>some (-1:Int)) some)=some (Lq p pre.length r):=by
  intro r
  induction r with
  |nil =>
   intro pre h;rw[Qy]at h;subst h;rw[zH,he];rfl
  |cons x r ih =>
   intro pre h
   have VR:l.length=pre.length+(r.length+1):=by rw[h];simp
   have hx:l[pre.length]?=some x:=by rw[h];simp
   rw[zH,hb _ x hx];unfold Lq
   cases p x with
   |true=>rfl
   |false =>
    rw[zz YA];have:=ih (pre++[x]) (by rw[h];simp);rw[show(pre++[x]).length=pre.length+1 by simp]at this;exact this
 exact key l [] rfl
def uB{α:Type}(ok:α->Bool)(nm:α->List UInt8):List α->List α->Bool
 |_,[]=>false
 |pre,x::r=>(!ok x||pre.any (λy=>nm x==nm y))||uB ok nm (pre++[x]) r
theorem ue{body:Int->Option (Sum Int (Sum Unit Bool))}(hl:l.length<=9223372036854775807)(hb:∀(i:Nat) x,l[i]?=some x->body (i:Int)=cond (!ok x||(l.take i).any (λy=>nm x==nm y)) (some (.inr (.inr false))) (some (.inl (i64.wrap ((i:Int)+1)))))(he:body (l.length:Int)=some (.inr (.inl ()))){k:Option Bool}:(zk body 0).bind (λo=>zE o (λ_=>k) some)=cond (uB ok nm [] l) (some false) k:=by
 have key:∀(r pre:List α),l=pre++r->(zk body (pre.length:Int)).bind (λo=>zE o (λ_=>k) some)=cond (uB ok nm pre r) (some false) k:=by
  intro r
  induction r with
  |nil =>
   intro pre h;rw[Qy]at h;subst h;rw[zH,he];rfl
  |cons x r ih =>
   intro pre h
   have VR:l.length=pre.length+(r.length+1):=by rw[h];simp
   have hx:l[pre.length]?=some x:=by rw[h];simp
   have ht:l.take pre.length=pre:=by rw[h];simp
   rw[zH,hb _ x hx,ht];unfold uB
   cases !ok x||pre.any (λy=>nm x==nm y)with
   |true=>rfl
   |false =>
    rw[zz YA];have:=ih (pre++[x]) (by rw[h];simp);rw[show(pre++[x]).length=pre.length+1 by simp]at this;exact this
 exact key l [] rfl
abbrev XP(l:List α):Prop:=l.length<=9223372036854775807
theorem Xl{x:α}(h:l[i]?=some x):decide ((i:Int)<(l.length:Int))=true:=YH (by have:=(Qb.1 h).1;omega)
theorem Xm(l:List α):decide ((l.length:Int)<(l.length:Int))=false:=YI YA
theorem cH{l:Vv}(hl:XP l)(n t:List UInt8)(s:Bool):Rw l n t s=some (l.any λy=>n==y.Name):=by
 unfold Rw hG
 rw[show((zk (λz=>Cc l n t s z) 0).bind λo=>zE o (λb=>jx) some)=_ from Zt (p:=λy:zh=>n==y.Name) hl
  (λi x hx=>by unfold Cc;rw[Xl hx,zo,hx];rfl) (by unfold Cc;rw[Xm];rfl)]
 exact congrArg some (ZK _ 0 l)
theorem zE6{l:Vu}(hl:XP l)(n:List UInt8)(a b c d e f g h i):Rx l n a b c d e f g h i=some (l.any λy=>n==y.Name):=by
 unfold Rx hY
 rw[show((zk (λz=>Cg l n a b c d e f g h i z) 0).bind λo=>zE o (λb=>jT) some)=_ from Zt (p:=λy:zb=>n==y.Name) hl
  (λi x hx=>by unfold Cg;rw[Xl hx,zo,hx];rfl) (by unfold Cg;rw[Xm];rfl)]
 exact congrArg some (ZK _ 0 l)
theorem an{l:List (List UInt8)}(hl:XP l)(n:List UInt8):Rv l n=some (l.any λy=>n==y):=by
 unfold Rv gX
 rw[show((zk (λz=>Cq l n z) 0).bind λo=>zE o (λb=>jq) some)=_ from Zt (p:=λy:List UInt8=>n==y) hl
  (λi x hx=>by unfold Cq;rw[Xl hx,zo,hx];rfl) (by unfold Cq;rw[Xm];rfl)]
 exact congrArg some (ZK _ 0 l)
theorem e6(hl:XP c.Methods)(n:List UInt8):HM c n=some (Lq (λy=>y.Name==n) 0 c.Methods):=by
 unfold HM Cf
 rw[show((zk (λz=>CA c.Methods n z) 0).bind λo=>zE o (λb=>jM) some)=_ from Zt (p:=λy:zb=>y.Name==n) hl
  (λi x hx=>by unfold CA;rw[Xl hx,zo,hx];rfl) (by unfold CA;rw[Xm];rfl)]
 rfl
theorem mS(hl:XP c.Fields)(n:List UInt8):Pp c n=some (Lq (λy=>y.Name==n) 0 c.Fields):=by
 unfold Pp Cb
 rw[show((zk (λz=>CC c.Fields n z) 0).bind λo=>zE o (λb=>jR) some)=_ from Zt (p:=λy:zh=>y.Name==n) hl
  (λi x hx=>by unfold CC;rw[Xl hx,zo,hx];rfl) (by unfold CC;rw[Xm];rfl)]
 rfl
def Gw(f:zh):Bool:=(GT f.Name&&!(f.Name==[36,105,110,105,116]))&&Xr f.Type_
theorem mR{f:zh}(h1:Lf f.Name)(h2:Lf f.Type_):Pn f=some (Gw f):=by unfold Pn Gw;rw[ko h1,BD h2,Qa];cases(GT f.Name&&!(f.Name==[36,105,110,105,116]))<;>rfl
theorem zEf{l:Vv}(hl:XP l)(h:∀f∈l,Lf f.Name/\Lf f.Type_)(n:Int):AJ l n=cond (uB Gw (·.Name) [] l) (some false) (some (decide ((l.length:Int)<=n))):=by
 unfold AJ;refine ue (ok:=Gw) (nm:=(·.Name)) hl (λi x hx=>?_) ?_;.have hm:=h x (Qc hx);have hi:=(Qb.1 hx).1;unfold gy;rw[Xl hx,zo,hx];simp only[Qa,YF];rw[mR hm.1 hm.2,Qa,Ea YA,Qa,cH (by unfold XP at *;rw[QO];omega)];cases Gw x<;>rfl
 unfold gy;rw[Xm];rfl
theorem zGY{l:List (List UInt8)}(hl:XP l)(h:∀s∈l,Lf s)(n:Int):Ao l n=cond (uB XM id [] l) (some false) (some (decide ((l.length:Int)<=n))):=by
 unfold Ao;refine ue (ok:=XM) (nm:=id) hl (λi x hx=>?_) ?_;.have hm:=h x (Qc hx);have hi:=(Qb.1 hx).1;unfold gm;rw[Xl hx,zo,hx];simp only[Qa,YF];rw[E2 hm,Qa,Ea YA,Qa,an (by unfold XP at *;rw[QO];omega)];cases XM x<;>rfl
 unfold gm;rw[Xm];rfl
def NE(l:List (List UInt8)):Bool:=!(l.any λs=>!Xr s)
theorem mP{l:List (List UInt8)}(hl:XP l)(h:∀s∈l,Lf s):Tb l=some (NE l):=by
 unfold Tb A4 gO
 rw[show((zk (λz=>A3 l z) 0).bind λo=>zE o (λb=>jf) some)=_ from Zt (p:=λs=>!Xr s) hl
  (λi x hx=>by
   unfold A3 kr;rw[Xl hx,zo,hx];simp only[Qa,YF];rw[BD (h x (Qc hx))]
   rfl) (by unfold A3;rw[Xm];rfl)]
 rw[Qa,ZK];rfl
def OL(n:Int)(x:zp):Bool:=(!UT x)||(Ur x.Op&&decide (n<=x.A))
def instrN(c:Vw):Bool:=zB (c.length:Int) 1 100&&(c.getLast?.elim false (λy=>Gf y.Op)&&!(c.any (OL (c.length:Int))))
theorem pK(hl:XP m.Code)(h:∀x∈m.Code,Lf x.C/\Lf x.M):P2 m=some (instrN m.Code):=by
 have hc:Ry m.Code (m.Code.length:Int)=some (m.Code.any (OL (m.Code.length:Int))):=by
  unfold Ry gZ
  rw[show((zk (λz=>Ci m.Code (m.Code.length:Int) z) 0).bind λo=>zE o (λb=>je) some)=_ from Zt (p:=OL (m.Code.length:Int)) hl
   (λi x hx=>by
    have hm:=h x (Qc hx);unfold Ci gl;rw[Xl hx,zo,hx];simp only[Qa,YF];rw[zFz hm.1 hm.2]
    rfl) (by unfold Ci;rw[Xm];rfl)]
  exact congrArg some (ZK _ 0 _)
 unfold P2 instrN;rw[hc]
 cases hb:zB (m.Code.length:Int) 1 100 with
 |false=>rfl
 |true =>
  have hb':(decide (1<=(m.Code.length:Int))&&decide ((m.Code.length:Int)<=100))=true:=hb;simp only[Qd,YJ]at hb'
  have e:i64.wrap ((m.Code.length:Int)-1)=((m.Code.length-1:Nat):Int):=by
   rw[ZA YA YA];omega
  rw[e,zo,<-Js]
  cases hg:m.Code.getLast? with
  |none =>
   rw[Yo]at hg;rw[hg]at hb';simp at hb'
  |some y =>
   simp only[Qa,Qo,YG,Yw,QD];cases Gf y.Op<;>rfl
def Hq(n:Int)(y:zU):Bool:=(((decide (y.From<0)||decide (y.To<=y.From))||decide (n<y.To))||!(zB y.At 0 (i64.wrap (n-1))))||(!(y.C==[])&&!XM y.C)
def H7(m:zb):Bool:=!(m.Traps.any (Hq (m.Code.length:Int)))&&decide ((m.Traps.length:Int)<=6)
theorem mQ(hl:XP m.Traps)(h:∀x∈m.Traps,Lf x.C):Tc m=some (H7 m):=by
 unfold Tc A8 gP
 rw[show((zk (λz=>A7 m.Traps m.Name m.Params m.Ret m.Static m.Abstract m.Locals m.Stack m.Code m.Maps m.Traps z) 0).bind λo=>zE o (λb=>jg) some)=_ from Zt (p:=Hq (m.Code.length:Int)) hl
  (λi x hx=>by
   have hm:=h x (Qc hx);unfold A7 ku Hq;rw[Xl hx,zo,hx];simp only[Qa,YF];rw[E2 hm]
   cases(((decide (x.From<0)||decide (x.To<=x.From))||decide ((m.Code.length:Int)<x.To))||!(zB x.At 0 (i64.wrap ((m.Code.length:Int)-1))))with
   |true=>rfl
   |false=>cases(x.C==[])<;>rfl) (by unfold A7;rw[Xm];rfl)]
 rw[Qa,ZK];rfl
def gB{α:Type}(bad:List α->α->Bool):List α->List α->Bool
 |_,[]=>false
 |pre,x::r=>bad pre x||gB bad (pre++[x]) r
theorem Ei{body:Int->Option (Sum Int (Sum Unit Bool))}(hl:l.length<=9223372036854775807)(hb:∀(i:Nat) x,l[i]?=some x->body (i:Int)=cond (bad (l.take i) x) (some (.inr (.inr false))) (some (.inl (i64.wrap ((i:Int)+1)))))(he:body (l.length:Int)=some (.inr (.inl ()))):zk body 0=some (cond (gB bad [] l) (.inr false) (.inl ())):=by
 have key:∀(r pre:List α),l=pre++r->zk body (pre.length:Int)=some (cond (gB bad pre r) (.inr false) (.inl ())):=by
  intro r
  induction r with
  |nil =>
   intro pre h;rw[Qy]at h;subst h;rw[zH,he];rfl
  |cons x r ih =>
   intro pre h
   have VR:l.length=pre.length+(r.length+1):=by rw[h];simp
   have hx:l[pre.length]?=some x:=by rw[h];simp
   have ht:l.take pre.length=pre:=by rw[h];simp
   rw[zH,hb _ x hx,ht];unfold gB
   cases bad pre x with
   |true=>rfl
   |false =>
    rw[zz YA];have:=ih (pre++[x]) (by rw[h];simp);rw[show(pre++[x]).length=pre.length+1 by simp]at this;exact this
 exact key l [] rfl
theorem qS{α:Type}(p:α->Bool):∀(pre r:List α),gB (λ_ x=>p x) pre r=r.any p
 |_,[]=>rfl
 |pre,x::r=>by
  show(p x||gB _ _ r)=_;rw[qS p (pre++[x]) r,Q2]
theorem CM{α:Type}(ok:α->Bool)(nm:α->List UInt8):∀(pre r:List α),uB ok nm pre r=gB (λpre x=>!ok x||pre.any (λy=>nm x==nm y)) pre r
 |_,[]=>rfl
 |pre,x::r=>by
  show(_||uB ok nm (pre++[x]) r)=(_||gB _ (pre++[x]) r);rw[CM ok nm (pre++[x]) r]
theorem HG{body:Int->Option (Sum Int (Sum Unit Bool))}{bad:α->Bool}(hl:l.length<=9223372036854775807)(hb:∀(i:Nat) x,l[i]?=some x->body (i:Int)=cond (bad x) (some (.inr (.inr false))) (some (.inl (i64.wrap ((i:Int)+1)))))(he:body (l.length:Int)=some (.inr (.inl ()))):zk body 0=some (cond (l.any bad) (.inr false) (.inl ())):=by rw[Ei (bad:=λ_ x=>bad x) hl hb he,qS]
def Kn(v:List UInt8):Bool:=(((v==[73])||(v==[78]))||(v==[84]))||Zu v
theorem lM(h:Lf s):S6 s=some (Kn s):=by
 unfold S6 Kn;rw[BC h]
 cases(((s==[73])||(s==[78]))||(s==[84]))<;>rfl
def UV(l:List (List UInt8)):Bool:=!(l.any λs=>!Kn s)
theorem iq{l:List (List UInt8)}(hl:XP l)(h:∀s∈l,Lf s):Pz l=some (UV l):=by
 unfold Pz A6 gY
 rw[show((zk (λz=>Cr l z) 0).bind λo=>zE o (λb=>jr) some)=_ from Zt (p:=λs=>!Kn s) hl
  (λi x hx=>by
   unfold Cr gd;rw[Xl hx,zo,hx];simp only[Qa,YF];rw[lM (h x (Qc hx))]
   rfl) (by unfold Cr;rw[Xm];rfl)]
 rw[Qa,ZK];rfl
theorem Sb{l:List (List UInt8)}(hl:XP l)(n:List UInt8):zO l n=some (l.any λy=>n==y):=by
 unfold zO Ha
 rw[show((zk (λz=>M1 l n z) 0).bind λo=>zE o (λb=>ja) some)=_ from Zt (p:=λy:List UInt8=>n==y) hl
  (λi x hx=>by unfold M1;rw[Xl hx,zo,hx];rfl) (by unfold M1;rw[Xm];rfl)]
 exact congrArg some (ZK _ 0 l)
def WW(m:zb)(pre:Vy)(x:zZ):Bool:=
 ((!(decide (0<=x.At)&&decide (x.At<(m.Code.length:Int))))||(pre.getLast?.elim false (λy=>decide (x.At<=y.At)))) ||
 (((!((x.Locals.length:Int)==m.Locals))||decide (m.Stack<(x.Stack.length:Int)))||((!UV x.Locals||!UV x.Stack)||x.Stack.any (λy=>[84]==y)))
def H6(m:zb):Bool:=!(gB (WW m) [] m.Maps)&&decide ((m.Maps.length:Int)<=100)
structure d7(m:zb):Prop where
 len:XP m.Maps
 code:XP m.Code
 all:∀x∈m.Maps,(XP x.Locals/\∀s∈x.Locals,Lf s)/\(XP x.Stack/\∀s∈x.Stack,Lf s)
theorem wZ(h:i<l.length)(h0:0<i):(l.take i).getLast?=l[i-1]?:=by rw[Js,JP (by simp;omega)];congr 1;simp;omega
theorem lO(h:d7 m):S8 m=some (H6 m):=by
 have j2:∀(i:Nat) (x:zZ) (b:Bool),x∈m.Maps->Ie m (i:Int) x b=cond (b||(((!((x.Locals.length:Int)==m.Locals))||decide (m.Stack<(x.Stack.length:Int)))||((!UV x.Locals||!UV x.Stack)||x.Stack.any (λy=>[84]==y)))) (some (.inr (.inr false))) (some (.inl (i64.wrap ((i:Int)+1)))):=λi x b hx=>by
  obtain⟨⟨h1,h2⟩,h3,h4⟩:=h.all x hx;unfold Ie;rw[iq h1 h2,iq h3 h4,Sb h3]
  cases b with
  |true=>rfl
  |false =>
   cases((!((x.Locals.length:Int)==m.Locals))||decide (m.Stack<(x.Stack.length:Int)))with
   |true=>rfl
   |false =>
    cases UV x.Locals with
    |false=>rfl
    |true=>cases UV x.Stack<;>rfl
 have hl:zk (λz=>E3 m z) 0=_:=Ei (bad:=WW m) h.len (λi x hx=>by
  have hm:=Qc hx;have hi:=(Qb.1 hx).1;have VR:=h.len;have hcode:=h.code;unfold XP at VR hcode;show E3 m (i:Int)=_;unfold E3 WW;rw[Xl hx,zo,hx];simp only[Qa,YF]
  have hb:zB x.At 0 (i64.wrap ((m.Code.length:Int)-1))=(decide (0<=x.At)&&decide (x.At<(m.Code.length:Int))):=by
   show(decide (0<=x.At)&&decide (x.At<=i64.wrap ((m.Code.length:Int)-1)))=_;rw[ZA YA YA];congr 1;exact decide_eq_decide.2 YA
  rw[hb]
  cases(decide (0<=x.At)&&decide (x.At<(m.Code.length:Int)))with
  |false=>exact j2 i x true hm
  |true =>
   rcases Jr i with h0|h0
   .subst h0;exact j2 0 x false hm
   rw[YH (show(0:Int)<(i:Int)by omega),wZ hi h0]
   have e:i64.wrap ((i:Int)-1)=((i-1:Nat):Int):=by
    rw[ZA YA YA];omega
   rw[e,zo,Qe (show i-1<m.Maps.length by omega)]
   exact j2 i x _ hm) (by show E3 m (m.Maps.length:Int)=_;unfold E3;rw[Xm];rfl)
 unfold S8 H6;rw[hl];cases gB (WW m) [] m.Maps<;>rfl
variable {b a:List (List UInt8)}
theorem cy(v:List UInt8):(cond (!(v==[84])&&!(v==[78])) (!Xr v) false)=!Kn v:=by
 by_cases h1:v=[73];.subst h1;decide +kernel
 by_cases h2:v=[78];.subst h2;decide +kernel
 by_cases h3:v=[84];.subst h3;decide +kernel
 unfold Kn Zu;rw[beq_eq_false_iff_ne.2 h1,beq_eq_false_iff_ne.2 h2,beq_eq_false_iff_ne.2 h3];simp
theorem cx(v:List UInt8):(cond (!(v==[78])) (!Xr v) false)=(!Kn v||([84]==v)):=by
 by_cases h1:v=[73];.subst h1;decide +kernel
 by_cases h2:v=[78];.subst h2;decide +kernel
 by_cases h3:v=[84];.subst h3;decide +kernel
 unfold Kn Zu;rw[beq_eq_false_iff_ne.2 h1,beq_eq_false_iff_ne.2 h2,beq_eq_false_iff_ne.2 h3,beq_eq_false_iff_ne.2 (Ne.symm h3)];simp
theorem tO(l:List α)(p q:α->Bool):l.any (λx=>p x||q x)=(l.any p||l.any q):=by
 induction l with
 |nil=>rfl
 |cons x l ih =>
  simp only[Q2,ih];cases p x<;>cases q x<;>simp
theorem fU(h:d7 m):SS m=some (H6 m):=by
 have l7:∀x:zZ,x∈m.Maps->zk (λz=>BK x z) 0=some (cond (!UV x.Locals) (.inr false) (.inl ())):=λx hx=>by
  obtain⟨⟨h1,h2⟩,h3,h4⟩:=h.all x hx
  have:=HG (body:=λz=>BK x z) (bad:=λv=>!Kn v) h1 (λi v hv=>by
   show BK x (i:Int)=_;unfold BK;rw[Xl hv,zo,hv];simp only[Qa,YF];rw[Dp (h2 v (Qc hv)),<-cy]
   cases(!(v==[84])&&!(v==[78]))<;>rfl) (by show BK x (x.Locals.length:Int)=_;unfold BK;rw[Xm];rfl)
  rw[this];unfold UV;rw[Bool.not_not]
 have l9:∀x:zZ,x∈m.Maps->zk (λz=>BJ x z) 0=some (cond (!UV x.Stack||x.Stack.any (λy=>[84]==y)) (.inr false) (.inl ())):=λx hx=>by
  obtain⟨⟨h1,h2⟩,h3,h4⟩:=h.all x hx
  have:=HG (body:=λz=>BJ x z) (bad:=λv=>!Kn v||([84]==v)) h3 (λi v hv=>by
   show BJ x (i:Int)=_;unfold BJ;rw[Xl hv,zo,hv];simp only[Qa,YF];rw[Dp (h4 v (Qc hv)),<-cx]
   cases(!(v==[78]))<;>rfl) (by show BJ x (x.Stack.length:Int)=_;unfold BJ;rw[Xm];rfl)
  rw[this,tO];unfold UV;rw[Bool.not_not]
 have j6:∀(i:Nat) (x:zZ) (b:Bool),x∈m.Maps->GI (i:Int) x b=cond (b||((!UV x.Locals||!UV x.Stack)||x.Stack.any (λy=>[84]==y))) (some (.inr (.inr false))) (some (.inl (i64.wrap ((i:Int)+1)))):=λi x b hx=>by
  unfold GI;rw[l7 x hx]
  cases b with
  |true=>rfl
  |false =>
   cases UV x.Locals with
   |false=>rfl
   |true =>
    show kg (i:Int) x=_;unfold kg;rw[l9 x hx]
    cases UV x.Stack with
    |false=>rfl
    |true=>cases x.Stack.any (λy=>[84]==y)<;>rfl
 have hl:zk (λz=>EY m z) 0=_:=Ei (bad:=WW m) h.len (λi x hx=>by
  have hm:=Qc hx;have hi:=(Qb.1 hx).1;have VR:=h.len;have hcode:=h.code;unfold XP at VR hcode;show EY m (i:Int)=_;unfold EY WW;rw[Xl hx,zo,hx];simp only[Qa,YF];by_cases h1:x.At<0;.rw[YH h1,YI (show ¬0<=x.At by omega)];exact j6 i x true hm
  rw[YI h1,YH (show 0<=x.At by omega)];by_cases h2:(m.Code.length:Int)<=x.At;.rw[YH h2,YI (show ¬x.At<(m.Code.length:Int)by omega)];exact j6 i x true hm
  rw[YI h2,YH (show x.At<(m.Code.length:Int)by omega)]
  rcases Jr i with h0|h0
  .subst h0;show cond (!((x.Locals.length:Int)==m.Locals)) (GI ((0:Nat):Int) x true) (GI ((0:Nat):Int) x (decide (m.Stack<(x.Stack.length:Int))))=_
   cases(!((x.Locals.length:Int)==m.Locals))with
   |true=>exact j6 0 x true hm
   |false=>exact j6 0 x _ hm
  rw[YH (show(0:Int)<(i:Int)by omega),wZ hi h0]
  have e:i64.wrap ((i:Int)-1)=((i-1:Nat):Int):=by
   rw[ZA YA YA];omega
  rw[e,zo,Qe (show i-1<m.Maps.length by omega)];simp only[YF,YG,Qa,Yw]
  cases decide (x.At<=m.Maps[i-1].At)with
  |true=>exact j6 i x true hm
  |false =>
   cases(!((x.Locals.length:Int)==m.Locals))with
   |true=>exact j6 i x true hm
   |false=>exact j6 i x _ hm) (by show EY m (m.Maps.length:Int)=_;unfold EY;rw[Xm];rfl)
 unfold SS H6;rw[hl];by_cases hn:(m.Maps.length:Int)<=100;.rw[YH hn,YI (show ¬100<(m.Maps.length:Int)by omega)];cases gB (WW m) [] m.Maps<;>rfl
 rw[YI hn,YH (show 100<(m.Maps.length:Int)by omega),Jf];rfl
structure ya(m:zb):Prop where
 code:XP m.Code/\∀x∈m.Code,Lf x.C/\Lf x.M
 traps:XP m.Traps/\∀x∈m.Traps,Lf x.C
theorem fX(h:ya m):ST m=some (instrN m.Code&&H7 m):=by
 have hcl:=h.code.1;unfold XP at hcl
 have lc:zk (λz=>EL m z) 0=some (cond (m.Code.any (OL (m.Code.length:Int))) (.inr false) (.inl ())):=
  HG h.code.1 (λi x hx=>by
   have hm:=h.code.2 x (Qc hx);show EL m (i:Int)=_;unfold EL;rw[Xl hx,zo,hx];simp only[Qa,YF];rw[l8 hm.1 hm.2]
   rfl) (by show EL m (m.Code.length:Int)=_;unfold EL;rw[Xm];rfl)
 have lt:zk (λz=>EJ m z) 0=some (cond (m.Traps.any (Hq (m.Code.length:Int))) (.inr false) (.inl ())):=
  HG h.traps.1 (λi x hx=>by
   have hm:=h.traps.2 x (Qc hx);show EJ m (i:Int)=_;unfold EJ;rw[Xl hx,zo,hx];simp only[Qa,YF];rw[EZ hm]
   have hb:(!(zB x.At 0 (i64.wrap ((m.Code.length:Int)-1))))=(decide (x.At<0)||decide ((m.Code.length:Int)<=x.At)):=by
    show(!(decide (0<=x.At)&&decide (x.At<=i64.wrap ((m.Code.length:Int)-1))))=_;rw[ZA YA YA];by_cases h1:x.At<0;.rw[YH h1,YI (show ¬0<=x.At by omega)];rfl
    rw[YI h1,YH (show 0<=x.At by omega)];by_cases h2:(m.Code.length:Int)<=x.At;.rw[YH h2,YI (show ¬x.At<=(m.Code.length:Int)-1 by omega)];rfl
    rw[YI h2,YH (show x.At<=(m.Code.length:Int)-1 by omega)];rfl
   unfold Hq;rw[hb]
   cases decide (x.From<0)<;>cases decide (x.To<=x.From)<;>cases decide ((m.Code.length:Int)<x.To)<;>cases decide (x.At<0)<;>cases decide ((m.Code.length:Int)<=x.At)<;>cases(x.C==[])<;>rfl) (by show EJ m (m.Traps.length:Int)=_;unfold EJ;rw[Xm];rfl)
 have hn:decide (6<(m.Traps.length:Int))=!decide ((m.Traps.length:Int)<=6):=by
  by_cases h6:(m.Traps.length:Int)<=6;.rw[YH h6,YI (show ¬6<(m.Traps.length:Int)by omega)];rfl
  rw[YI h6,YH (show 6<(m.Traps.length:Int)by omega)];rfl
 have k2:Tr m=some (!m.Traps.any (Hq (m.Code.length:Int))):=by
  unfold Tr;rw[lt];cases m.Traps.any (Hq (m.Code.length:Int))<;>rfl
 unfold ST H7 instrN;rw[lc,hn];by_cases h1:(m.Code.length:Int)<1;.rw[YH h1,show zB (m.Code.length:Int) 1 100=false from by show(decide (1<=(m.Code.length:Int))&&_)=false;rw[YI (show ¬1<=(m.Code.length:Int)by omega)];rfl];rfl
 by_cases h2:100<(m.Code.length:Int);.rw[YH h2,show zB (m.Code.length:Int) 1 100=false from by show(decide (1<=(m.Code.length:Int))&&decide ((m.Code.length:Int)<=100))=false;rw[YI (show ¬(m.Code.length:Int)<=100 by omega),Jf],Ju];rfl
 rw[YI h1,YI h2,show zB (m.Code.length:Int) 1 100=true from by show(decide (1<=(m.Code.length:Int))&&decide ((m.Code.length:Int)<=100))=true;rw[YH (show 1<=(m.Code.length:Int)by omega),YH (show(m.Code.length:Int)<=100 by omega)];rfl]
 have e:i64.wrap ((m.Code.length:Int)-1)=((m.Code.length-1:Nat):Int):=by
  rw[ZA YA YA];omega
 rw[e,zo,<-Js]
 cases hg:m.Code.getLast? with
 |none =>
  rw[Yo]at hg;rw[hg]at h1;simp at h1
 |some y =>
  simp only[Qa,Yw];rw[show Di y.Op=Gf y.Op from rfl]
  cases Gf y.Op with
  |false=>rfl
  |true =>
   cases decide ((m.Traps.length:Int)<=6)with
   |false =>
    cases m.Code.any (OL (m.Code.length:Int))<;>cases m.Traps.any (Hq (m.Code.length:Int))<;>rfl
   |true =>
    cases m.Code.any (OL (m.Code.length:Int))with
    |true=>rfl
    |false =>
     show Tr m=_;rw[k2];cases m.Traps.any (Hq (m.Code.length:Int))<;>rfl
structure Ny(m:zb):Prop where
 name:Lf m.Name
 params:m.Params.length<=1000000000000/\∀s∈m.Params,Lf s
 ret:Lf m.Ret
 maps:d7 m
 body:ya m
 small:m.Code.length<=1000000000000/\m.Maps.length<=1000000000000/\m.Traps.length<=1000000000000
def ZX(m:zb):Bool:=
 ((!((!GT m.Name)||decide (6<(m.Params.length:Int)))&&NE m.Params)&&Ui m.Ret)&&cond m.Abstract (HK m)
  (!((m.Name==[36,105,110,105,116])&&(((!m.Static)||decide (0<(m.Params.length:Int)))||(!(m.Ret==[86]))))&&(zB m.Locals (Zx m) 16&&(zB m.Stack 0 16&&((instrN m.Code&&H7 m)&&H6 m))))
theorem qh(h:Ny m):XP m.Params:=by have:=h.params.1;unfold XP;omega
theorem m6(h:Ny m):TE m=some (ZX m):=by
 unfold TE ZX;rw[ko h.name,Qa,mP (qh h) h.params.2,zAy h.ret,pK h.body.code.1 h.body.code.2,lO h.maps,mQ h.body.traps.1 h.body.traps.2]
 cases((!GT m.Name)||decide (6<(m.Params.length:Int)))with
 |true=>rfl
 |false =>
  cases NE m.Params with
  |false=>rfl
  |true =>
   cases Ui m.Ret with
   |false=>rfl
   |true =>
    cases m.Abstract with
    |true=>rfl
    |false =>
     cases((m.Name==[36,105,110,105,116])&&(((!m.Static)||decide (0<(m.Params.length:Int)))||(!(m.Ret==[86]))))with
     |true=>rfl
     |false =>
      cases zB m.Locals (Zx m) 16 with
      |false=>rfl
      |true =>
       cases zB m.Stack 0 16 with
       |false=>rfl
       |true=>cases instrN m.Code<;>cases H6 m<;>cases H7 m<;>rfl
theorem zAY(h:Lf s):Sz s=some (Ui s):=by unfold Sz Ui;rw[Dp h];cases(s==[86])<;>rfl
theorem cV(h:Ny m):HK m=(((((((!m.Static)&&(!(m.Name==[36,105,110,105,116])))&&(m.Locals==(0:Int)))&&(m.Stack==(0:Int)))&&((m.Code.length:Int)==(0:Int)))&&((m.Maps.length:Int)==(0:Int)))&&((m.Traps.length:Int)==(0:Int))):=by
 obtain⟨h1,h2,h3⟩:=h.small
 have key:(((m.Code.length:Int)+(m.Maps.length:Int)+(m.Traps.length:Int))==(0:Int))=((((m.Code.length:Int)==0)&&((m.Maps.length:Int)==0))&&((m.Traps.length:Int)==0)):=by
  by_cases a:(m.Code.length:Int)=0
  .by_cases b:(m.Maps.length:Int)=0;.rw[a,b,Int.zero_add,Int.zero_add];rfl
   rw[beq_eq_false_iff_ne.2 (show((m.Code.length:Int)+m.Maps.length+m.Traps.length)≠0 by omega),beq_eq_false_iff_ne.2 b,Jf,Jm]
  rw[beq_eq_false_iff_ne.2 (show((m.Code.length:Int)+m.Maps.length+m.Traps.length)≠0 by omega),beq_eq_false_iff_ne.2 a,Jm,Jm]
 unfold HK;rw[ZA (n:=(m.Code.length:Int)+(m.Maps.length:Int)) YA YA,ZA YA YA,key];simp only[Bool.and_assoc]
theorem oD(x a b:Int):(decide (x<a)||decide (b<x))=!(zB x a b):=by
 show _=!(decide (a<=x)&&decide (x<=b));by_cases h1:x<a;.rw[YH h1,YI (show ¬a<=x by omega)];rfl
 rw[YI h1,YH (show a<=x by omega)];by_cases h2:b<x;.rw[YH h2,YI (show ¬x<=b by omega)];rfl
 rw[YI h2,YH (show x<=b by omega)];rfl
theorem ne(h:Ny m):PB m=some (ZX m):=by
 have lp:zk (λz=>IO m z) 0=some (cond (m.Params.any λs=>!Xr s) (.inr false) (.inl ())):=
  HG (qh h) (λi x hx=>by
   show IO m (i:Int)=_;unfold IO;rw[Xl hx,zo,hx];simp only[Qa,YF];rw[Dp (h.params.2 x (Qc hx))]
   rfl) (by show IO m (m.Params.length:Int)=_;unfold IO;rw[Xm];rfl)
 have j3:∀a,PO m a=some (zB m.Locals a 16&&(zB m.Stack 0 16&&((instrN m.Code&&H7 m)&&H6 m))):=λa=>by
  unfold PO;rw[oD,JQ,oD,fX h.body,fU h.maps]
  cases zB m.Locals a 16 with
  |false=>rfl
  |true =>
   cases zB m.Stack 0 16 with
   |false=>rfl
   |true=>cases(instrN m.Code&&H7 m)<;>rfl
 have k2:gg m=some (cond m.Abstract (HK m)
  (!((m.Name==[36,105,110,105,116])&&(((!m.Static)||decide (0<(m.Params.length:Int)))||(!(m.Ret==[86]))))&&(zB m.Locals (Zx m) 16&&(zB m.Stack 0 16&&((instrN m.Code&&H7 m)&&H6 m))))):=by
  unfold gg Zx;rw[j3,j3,cV h]
  cases m.Abstract with
  |true=>rfl
  |false =>
   cases((m.Name==[36,105,110,105,116])&&(((!m.Static)||decide (0<(m.Params.length:Int)))||(!(m.Ret==[86]))))with
   |true=>rfl
   |false=>cases m.Static<;>rfl
 unfold PB ZX NE;rw[kh h.name,Qa,zAY h.ret,lp]
 cases((!GT m.Name)||decide (6<(m.Params.length:Int)))with
 |true=>rfl
 |false =>
  cases Ui m.Ret with
  |false=>rw[Jf];rfl
  |true =>
   cases m.Params.any λs=>!Xr s with
   |true=>rfl
   |false=>exact k2
theorem zAk{l:Vu}(hl:XP l)(h:∀m∈l,Ny m)(n:Int)(a b:List UInt8)(i:Bool)(c:List (List UInt8))(d:Vv)(e:Vu):P6 l n a b i c d e=cond (uB (λm=>(m.Abstract==i)&&ZX m) (·.Name) [] l) (some false) (some (decide ((l.length:Int)<=n))):=by
 unfold P6;refine ue (ok:=λm=>(m.Abstract==i)&&ZX m) (nm:=(·.Name)) hl (λj x hx=>?_) ?_
 .have hm:=h x (Qc hx);have hi:=(Qb.1 hx).1;unfold gL Td;rw[Xl hx,zo,hx];simp only[Qa,YF];rw[m6 hm,Ea YA];simp only[Qa];rw[zE6 (by unfold XP at *;rw[QO];omega)]
  cases(x.Abstract==i)with
  |false=>rfl
  |true=>cases ZX x<;>rfl
 unfold gL;rw[Xm];rfl
structure W3(c:za):Prop where
 name:Lf c.Name
 super:Lf c.Super
 impl:XP c.Impl/\∀s∈c.Impl,Lf s
 fields:XP c.Fields/\∀f∈c.Fields,Lf f.Name/\Lf f.Type_
 methods:XP c.Methods/\∀m∈c.Methods,Ny m
def ZT(c:za):Bool:=
 !(c.Interface&&((!(c.Super==[79,98,106,101,99,116]))||decide (0<(c.Fields.length:Int)))) &&
 (((((XM c.Name&&XM c.Super)&&(!(uB XM id [] c.Impl)&&decide ((c.Impl.length:Int)<=4)))&&(!(uB Gw (·.Name) [] c.Fields)&&decide ((c.Fields.length:Int)<=8)))) &&
  (!(uB (λm=>(m.Abstract==c.Interface)&&ZX m) (·.Name) [] c.Methods)&&decide ((c.Methods.length:Int)<=8)))
theorem lP(h:W3 c):SH c=some (ZT c):=by
 have e:∀(b d:Bool),cond b (some false) (some d)=some (!b&&d):=λb d=>by cases b<;>rfl
 unfold SH ZT;rw[zEf h.fields.1 h.fields.2,zAk h.methods.1 h.methods.2,E2 h.name,E2 h.super,zGY h.impl.1 h.impl.2,e,e,e]
 cases(c.Interface&&((!(c.Super==[79,98,106,101,99,116]))||decide (0<(c.Fields.length:Int))))with
 |true=>rfl
 |false =>
  cases XM c.Name with
  |false=>rfl
  |true=>cases XM c.Super<;>rfl
theorem xE{α:Type}(p:α->Bool):∀(l:List α) (k i:Nat) (x:α),l[i]?=some x->p x=true->(Lq p k l==((k+i:Nat):Int))=!((l.take i).any p)
 |[],k,i,x,h,_=>by simp at h
 |y::r,k,0,x,h,hp=>by
  have:y=x:=by simpa using h
  subst this;show(cond (p y) (k:Int) (Lq p (k+1) r)==(k:Int))=true;rw[hp];exact YL _
 |y::r,k,i+1,x,h,hp=>by
  have h':r[i]?=some x:=by simpa using h
  show(cond (p y) (k:Int) (Lq p (k+1) r)==((k+(i+1):Nat):Int))=!(p y||(r.take i).any p)
  cases p y with
  |true=>exact beq_eq_false_iff_ne.2 (show(k:Int)≠((k+(i+1):Nat):Int)by omega)
  |false =>
   have:=xE p r (k+1) i x h' hp;rw[show k+1+i=k+(i+1)by omega]at this;exact this
theorem oW(hl:XP c.Fields)(n:List UInt8):Ph c n=some (Lq (λy=>y.Name==n) 0 c.Fields):=by
 unfold Ph
 rw[show((zk (λz=>TW c n z) 0).bind λo=>zE o (λb=>o8) some)=_ from Zt (p:=λy:zh=>y.Name==n) hl
  (λi x hx=>by unfold TW;rw[Xl hx,zo,hx];rfl) (by unfold TW;rw[Xm];rfl)]
theorem Wu(hl:XP c.Methods)(n:List UInt8):Gk c n=some (Lq (λy=>y.Name==n) 0 c.Methods):=by
 unfold Gk
 rw[show((zk (λz=>TJ c n z) 0).bind λo=>zE o (λb=>ec) some)=_ from Zt (p:=λy:zb=>y.Name==n) hl
  (λi x hx=>by unfold TJ;rw[Xl hx,zo,hx];rfl) (by unfold TJ;rw[Xm];rfl)]
theorem qx(x y:List UInt8):(x==y)=(y==x):=by
 by_cases h:x=y;.rw[h]
 rw[beq_eq_false_iff_ne.2 h,beq_eq_false_iff_ne.2 (Ne.symm h)]
theorem ws(l:List α)(f:α->List UInt8)(n:List UInt8):(l.any λy=>f y==n)=l.any λy=>n==f y:=by congr 1;funext y;exact qx _ _
theorem mV(h:W3 c):TV c=some (ZT c):=by
 have himp:=h.impl.1;unfold XP at himp
 have lf:zk (λz=>Iu c z) 0=some (cond (uB Gw (·.Name) [] c.Fields) (.inr false) (.inl ())):=by
  rw[CM];refine Ei h.fields.1 (λi x hx=>?_) (by show Iu c (c.Fields.length:Int)=_;unfold Iu;rw[Xm];rfl);have hm:=h.fields.2 x (Qc hx);have hfi:=xE (λy:zh=>y.Name==x.Name) c.Fields 0 i x hx (YL _);rw[QN,ws]at hfi;show Iu c (i:Int)=_;unfold Iu Gw;rw[Xl hx,zo,hx];simp only[Qa,YF];rw[kh hm.1,Dp hm.2,oW h.fields.1];simp only[Qa];rw[hfi]
  cases GT x.Name with
  |false=>rfl
  |true =>
   cases(x.Name==[36,105,110,105,116])with
   |true=>rfl
   |false =>
    cases Xr x.Type_ with
    |false=>rfl
    |true=>cases(c.Fields.take i).any λy=>x.Name==y.Name<;>rfl
 have lm:zk (λz=>It c z) 0=some (cond (uB (λm=>(m.Abstract==c.Interface)&&ZX m) (·.Name) [] c.Methods) (.inr false) (.inl ())):=by
  rw[CM];refine Ei h.methods.1 (λi x hx=>?_) (by show It c (c.Methods.length:Int)=_;unfold It;rw[Xm];rfl);have hm:=h.methods.2 x (Qc hx);have hfi:=xE (λy:zb=>y.Name==x.Name) c.Methods 0 i x hx (YL _);rw[QN,ws]at hfi;show It c (i:Int)=_;unfold It;rw[Xl hx,zo,hx];simp only[Qa,YF];rw[ne hm,Wu h.methods.1];simp only[Qa];rw[hfi]
  cases(x.Abstract==c.Interface)with
  |false=>rfl
  |true =>
   cases ZX x with
   |false=>cases(c.Methods.take i).any λy=>x.Name==y.Name<;>rfl
   |true=>cases(c.Methods.take i).any λy=>x.Name==y.Name<;>rfl
 have li:zk (λz=>Iv c z) 0=some (cond (uB XM id [] c.Impl) (.inr false) (.inl ())):=by
  rw[CM];refine Ei h.impl.1 (λi x hx=>?_) (by show Iv c (c.Impl.length:Int)=_;unfold Iv;rw[Xm];rfl);have hm:=h.impl.2 x (Qc hx);have hi:=(Qb.1 hx).1
  have Fm:zk (λz=>Iw c (i:Int) z) 0=some (cond ((c.Impl.take i).any λy=>y==x) (.inr false) (.inl ())):=by
   have ht:(c.Impl.take i).length=i:=by rw[QO];omega
   refine HG YA (λj y hy=>?_) ?_;.have hj:=(Qb.1 hy).1;rw[ht]at hj;rw[JP hj]at hy;show Iw c (i:Int) (j:Int)=_;unfold Iw;rw[YH (show(j:Int)<(i:Int)by omega),zo,hy,zo,hx];rfl
   rw[ht];show Iw c (i:Int) (i:Int)=_;unfold Iw;rw[YI (show ¬(i:Int)<(i:Int)by omega)];rfl
  show Iv c (i:Int)=_;unfold Iv;rw[Xl hx,zo,hx];simp only[Qa,YF];rw[EZ hm,Fm,show((c.Impl.take i).any λy=>y==x)=(c.Impl.take i).any λy=>id x==id y from ws _ id x]
  cases XM x with
  |false=>rfl
  |true=>cases(c.Impl.take i).any λy=>id x==id y<;>rfl
 have hle:∀(n:Nat) (b:Int),decide (b<(n:Int))=!decide ((n:Int)<=b):=λn b=>by
  by_cases hb:(n:Int)<=b;.rw[YH hb,YI (show ¬b<(n:Int)by omega)];rfl
  rw[YI hb,YH (show b<(n:Int)by omega)];rfl
 unfold TV eQ eP ZT;rw[EZ h.name,EZ h.super,li,lf,lm,hle c.Impl.length 4,hle c.Fields.length 8,hle c.Methods.length 8]
 generalize (c.Interface&&((!(c.Super==[79,98,106,101,99,116]))||decide (0<(c.Fields.length:Int))))=B
 generalize uB XM id [] c.Impl=u1;generalize uB Gw (·.Name) [] c.Fields=u2;generalize uB (λm=>(m.Abstract==c.Interface)&&ZX m) (·.Name) [] c.Methods=u3;generalize decide ((c.Impl.length:Int)<=4)=d1;generalize decide ((c.Fields.length:Int)<=8)=d2;generalize decide ((c.Methods.length:Int)<=8)=d3
 cases XM c.Name with
 |false=>cases B<;>rfl
 |true =>
  cases XM c.Super with
  |false=>cases B<;>rfl
  |true=>cases B<;>cases u1<;>cases u2<;>cases u3<;>cases d1<;>cases d2<;>cases d3<;>rfl
theorem bi{body:Int->Option (Sum Int (Sum Unit Bool))}(hl:a.length<=1000000)(hn:a.length=b.length)(hb:∀(i:Nat) x y,a[i]?=some x->b[i]?=some y->body (i:Int)=cond (!(x==y)) (some (.inr (.inr false))) (some (.inl (i64.wrap ((i:Int)+1)))))(he:body (a.length:Int)=some (.inr (.inl ()))):zk body 0=some (cond (a==b) (.inl ()) (.inr false)):=by
 have key:∀(r s pre FJ:List (List UInt8)),pre.length=FJ.length->a=pre++r->b=FJ++s->zk body (pre.length:Int)=some (cond (r==s) (.inl ()) (.inr false)):=by
  intro r
  induction r with
  |nil =>
   intro s pre FJ hp h1 h2
   have:s=[]:=by
    have:a.length=pre.length:=by rw[h1];simp
    have:b.length=FJ.length+s.length:=by rw[h2];simp
    exact Qf YA
   subst this;rw[Qy]at h1;subst h1;rw[zH,he];rfl
  |cons x r ih =>
   intro s pre FJ hp h1 h2
   have VR:a.length=pre.length+(r.length+1):=by rw[h1];simp
   have hlen2:b.length=FJ.length+s.length:=by rw[h2];simp
   cases s with
   |nil=>simp at hlen2;omega
   |cons y s =>
    have hx:a[pre.length]?=some x:=by rw[h1];simp
    have hy:b[pre.length]?=some y:=by rw[h2,hp];simp
    rw[zH,hb _ x y hx hy];rw[show((x::r)==(y::s))=((x==y)&&(r==s))from rfl]
    cases x==y with
    |false=>rfl
    |true =>
     rw[zz YA];have:=ih s (pre++[x]) (FJ++[y]) (by simp[hp]) (by rw[h1];simp) (by rw[h2];simp);rw[show(pre++[x]).length=pre.length+1 by simp]at this;exact this
 exact key a b [] [] rfl rfl rfl
theorem qD{x:α}(h:l[i]?=some x):decide ((i:Int)<(l.length:Int))=true:=YH (by have:=(Qb.1 h).1;omega)
theorem qw:decide ((l.length:Int)<(l.length:Int))=false:=YI YA
theorem qO(h:a.length≠b.length):(a==b)=false:=by refine beq_eq_false_iff_ne.2 λe=>h (by rw[e])
theorem mH(h:a.length<=1000000):AY a b=some (a==b):=by
 unfold AY;by_cases hl:a.length=b.length
 .have e:((a.length:Int)==(b.length:Int))=true:=by rw[hl];exact YL _
  rw[e,show zk (λz=>A5 a b z) 0=_ from bi h hl (λi x y hx hy=>by
   unfold A5
   rw[qD hx,zo,hx,zo,hy];rfl) (by unfold A5;rw[qw];rfl)]
  cases a==b<;>rfl
 have e:((a.length:Int)==(b.length:Int))=false:=beq_eq_false_iff_ne.2 YA;rw[e,qO hl];rfl
theorem mW(h:a.length<=1000000):BG a b=some (a==b):=by
 unfold BG;by_cases hl:a.length=b.length
 .have e:((a.length:Int)==(b.length:Int))=true:=by rw[hl];exact YL _
  rw[e,show zk (λz=>T9 a b z) 0=_ from bi h hl (λi x y hx hy=>by
   unfold T9
   rw[qD hx,zo,hx,zo,hy];rfl) (by unfold T9;rw[qw];rfl)]
  cases a==b<;>rfl
 have e:((a.length:Int)==(b.length:Int))=false:=beq_eq_false_iff_ne.2 YA;rw[e,qO hl];rfl
abbrev Tx:=List UInt8
abbrev Vs:=List Tx
def cl(L:Vr)(n:Tx):Option za:=L.find? (λc=>c.Name==n)
def Lm(L:Vr)(n:Tx):Int:=Lq (λc=>c.Name==n) 0 L
def Xi(L:Vr)(n:Tx):Bool:=L.any (λc=>c.Name==n)
def Lg(L:Vr)(n:Tx):Bool:=match cl L n with|some c=>c.Interface|none=>false
theorem De{α:Type}(p:α->Bool):∀(l:List α) (k:Nat),(∃j x,Lq p k l=((k+j:Nat):Int)/\l[j]?=some x/\p x=true/\l.find? p=some x)\/(Lq p k l=-1/\l.find? p=none)
 |[],k=>.inr ⟨rfl,rfl⟩
 |y::r,k=>by
  unfold Lq
  cases h:p y with
  |true=>exact .inl ⟨0,y,rfl,rfl,h,by simp[List.find?,h]⟩
  |false =>
   rcases De p r (k+1)with ⟨j,x,h1,h2,h3,h4⟩|⟨h1,h2⟩
   .exact .inl ⟨j+1,x,by show Lq p (k+1) r=_;rw[h1];congr 1;omega,by simpa using h2,h3,by simp[List.find?,h,h4]⟩
   exact .inr ⟨h1,by simp[List.find?,h,h2]⟩
theorem S2{α:Type}(p:α->Bool):∀(l r:List α) (k:Nat),Lq p k (l++r)=cond (l.any p) (Lq p k l) (Lq p (k+l.length) r)
 |[],r,k=>rfl
 |y::l,r,k=>by
  show Lq p k (y::(l++r))=_;rw[show Lq p k (y::(l++r))=cond (p y) (k:Int) (Lq p (k+1) (l++r))from rfl,show Lq p k (y::l)=cond (p y) (k:Int) (Lq p (k+1) l)from rfl,Q2]
  cases h:p y with
  |true=>rfl
  |false =>
   rw[QR,YG,YG,S2 p l r (k+1),show k+1+l.length=k+(y::l).length by simp;omega]
theorem Bd(L:Vr)(n:Tx):decide (0<=Lm L n)=Xi L n:=ZK _ 0 L
theorem Gy(L:Vr)(n:Tx):decide (Lm L n<0)=!Xi L n:=by
 rw[<-Bd];by_cases h:0<=Lm L n;.rw[YH h,YI YA];rfl
 rw[YI h,YH YA];rfl
theorem Kp(L:Vr)(n:Tx):idx L (Lm L n)=cl L n:=by
 unfold Lm cl
 rcases De (λc:za=>c.Name==n) L 0 with ⟨j,x,h1,h2,h3,h4⟩|⟨h1,h2⟩
 .rw[h1,h4,zo,QN,h2]
 rw[h1,h2];rfl
theorem d4(L:Vr)(n:Tx):(cl L n).isSome=Xi L n:=by unfold cl Xi;rw[QJ,QB];exact List.find?_isSome
theorem XG{n:Tx}(h:cl L n=some c):c∈L/\c.Name=n:=by unfold cl at h;exact⟨QG h,YP (List.find?_some (p:=λc:za=>c.Name==n) h)⟩
theorem XY{n:Tx}(h:Xi L n=true):∃c,cl L n=some c:=by rw[<-d4]at h;exact Option.isSome_iff_exists.1 h
theorem ZC{n:Tx}(h:cl L n=some c):Xi L n=true:=by rw[<-d4,h];rfl
theorem Db{n:Tx}(h:cl L n=none):Xi L n=false:=by rw[<-d4,h];rfl
theorem KP{n:Tx}:Xi L n=true↔n∈L.map (·.Name):=by
 unfold Xi;rw[QB,QP];constructor;.rintro⟨c,h1,h2⟩;exact⟨c,h1,YP h2⟩
 rintro⟨c,h1,h2⟩;exact⟨c,h1,beq_iff_eq.2 h2⟩
def Nd(L:Vr):Prop:=∀(i j:Nat) (c d:za),L[i]?=some c->L[j]?=some d->c.Name=d.Name->i=j
theorem Nd.at{L:Vr}(h:Nd L){i:Nat}{c:za}(hi:L[i]?=some c):Lm L c.Name=(i:Int):=by
 unfold Lm
 rcases De (λd:za=>d.Name==c.Name) L 0 with ⟨j,x,h1,h2,h3,h4⟩|⟨h1,h2⟩
 .rw[h1,QN,h j i x c h2 hi (YP h3)]
 have:=JT.1 h2 c (Qc hi);simp at this
theorem Nd.cl{L:Vr}(h:Nd L){c:za}(hc:c∈L):cl L c.Name=some c:=by
 obtain⟨i,hi,e⟩:=JO hc
 have VZ:L[i]?=some c:=by rw[Qe hi,e]
 rw[<-Kp,h.at VZ,zo,VZ]
theorem Nd.snoc(h:Nd L)(hc:Xi L c.Name=false):Nd (L++[c]):=by
 have no:∀(i:Nat) d,L[i]?=some d->d.Name≠c.Name:=λi d hi e=>by
  have:Xi L c.Name=true:=KP.2 (QP.2 ⟨d,Qc hi,e⟩);rw[hc]at this;cases this
 have get:∀(i:Nat) d,(L++[c])[i]?=some d->(L[i]?=some d)\/(i=L.length/\d=c):=λi d hi=>by
  rw[List.getElem?_append]at hi;split at hi;.exact .inl hi
  rename_i hlt;right;have h1:=(Qb.1 hi).1;simp at h1
  have h2:i=L.length:=YA
  subst h2;simp at hi;exact⟨rfl,hi.symm⟩
 intro i j d e hi hj hn
 rcases get i d hi with h1|⟨h1,h1'⟩<;>rcases get j e hj with h2|⟨h2,h2'⟩
 .exact h i j d e h1 h2 hn
 .subst h2';exact absurd hn (no i d h1)
 .subst h1';exact absurd hn.symm (no j e h2)
 rw[h1,h2]
theorem cG(L:Vr)(c:za)(n:Tx):Xi (L++[c]) n=(Xi L n||(c.Name==n)):=by unfold Xi;simp
theorem Dn{α:Type}(k k':Tx)(x:α):∀(m:List (Tx×α)),XE k (XO k' x m)=if k=k' then some x else XE k m
 |[]=>by
  unfold XO XE XE;by_cases h:k=k';.rw[YK h,YH h];rfl
  .rw[YM h,YI h];rfl
 |(a,y)::r=>by
  unfold XO;by_cases h':k'=a
  .subst h';rw[YH rfl];show XE k ((k',x)::r)=_;unfold XE;by_cases h:k=k';.rw[YK h,YH h];rfl
   rw[YM h,YI h];rfl
  rw[YI h'];show XE k ((a,y)::XO k' x r)=_;unfold XE;rw[Dn k k' x r];by_cases h:k=k';.subst h;rw[YK rfl,YI h',YK rfl];rfl
  rw[YM h,YM h]
def Xq(L:Vr)(m:List (Tx×Int)):Prop:=∀n,XE n m=cond (Xi L n) (some (Lm L n)) none
theorem Xq.snoc{m:List (Tx×Int)}(h:Xq L m)(hc:Xi L c.Name=false):Xq (L++[c]) (XO c.Name (L.length:Int) m):=by
 intro n;rw[Dn,cG,h n];unfold Lm;rw[S2];show _=cond _ (some (cond (Xi L n) _ _)) none;by_cases e:n=c.Name;.subst e;rw[YK rfl,hc,YL];simp[Lq]
 rw[YM e,beq_eq_false_iff_ne.2 (Ne.symm e)];cases Xi L n<;>rfl
theorem Xq.has{m:List (Tx×Int)}(h:Xq L m)(n:Tx):(XE n m).isSome=Xi L n:=by rw[h n];cases Xi L n<;>rfl
theorem Xq.idx{L:Vr}{m:List (Tx×Int)}(h:Xq L m){n:Tx}(hn:Xi L n=true):idx L ((XE n m).getD 0)=cl L n:=by rw[h n,hn];exact Kp L n
inductive Rc(nx:Tx->Vs):Tx->Tx->Prop
 |one {a b:_}:b∈nx a->Rc nx a b
 |more {a b c:_}:b∈nx a->Rc nx b c->Rc nx a c
theorem Rc.snoc{nx:Tx->Vs}{a b c:Tx}(h:Rc nx a b)(hc:c∈nx b):Rc nx a c:=by
 induction h with
 |one h=>exact .more h (.one hc)
 |more h _ ih=>exact .more h (ih hc)
theorem Rc.into{nx:Tx->Vs}{F:Tx->Prop}(hF:∀x,F x->∀y∈nx x,F y){a b:Tx}(h:Rc nx a b):(∀y∈nx a,F y)->F b:=by
 induction h with
 |one h=>exact λha=>ha _ h
 |more h _ ih=>exact λha=>ih (hF _ (ha _ h))
theorem dS:∀{a b:Vs},a.Nodup->(∀x∈a,x∈b)->a.length<=b.length
 |[],b,_,_=>YC
 |x::r,b,h,hs=>by
  rw[Jh]at h;have hx:=hs x YC;have h1:=dS (a:=r) (b:=b.erase x) h.2 (λy hy=>(List.mem_erase_of_ne (λe=>h.1 (by rw[<-e];exact hy))).2 (hs y (by simp[hy])));have h2:=List.length_erase_of_mem hx;have h3:=List.length_pos_of_mem hx;simp only[Qw];omega
def push(Xc:Vs):Vs->Vs
 |[]=>Xc
 |s::r=>push (cond (Xc.any λy=>s==y) Xc (Xc++[s])) r
theorem yY{s:Tx}{l:Vs}:(l.any λy=>s==y)=true↔s∈l:=by
 rw[QB];constructor;.rintro⟨y,h1,h2⟩;rw[YP h2];exact h1
 intro h;exact⟨s,h,YL _⟩
theorem Dg:∀(l Xc:Vs),∃t,push Xc l=Xc++t/\t.Nodup/\(∀x∈t,x∉Xc/\x∈l)/\∀x∈l,x∈Xc++t
 |[],Xc=>⟨[],by simp[push],YC,λx h=>(by cases h),λx h=>(by cases h)⟩
 |s::r,Xc=>by
  unfold push
  cases h:(Xc.any λy=>s==y)with
  |true =>
   obtain⟨t,h1,h2,h3,h4⟩:=Dg r Xc;refine⟨t,h1,h2,λx hx=>⟨(h3 x hx).1,Jl _ (h3 x hx).2⟩,λx hx=>?_⟩
   rcases Qu.1 hx with e|e
   .rw[e];exact Q8 _ (yY.1 h)
   .exact h4 x e
  |false =>
   have hs:s∉Xc:=λhm=>by rw[yY.2 hm]at h;cases h
   obtain⟨t,h1,h2,h3,h4⟩:=Dg r (Xc++[s]);refine⟨s::t,by show push (Xc++[s]) r=_;rw[h1];simp,Jh.2 ⟨λhm=>(h3 s hm).1 YC,h2⟩,λx hx=>?_,λx hx=>?_⟩
   .rcases Qu.1 hx with e|e
    .rw[e];exact⟨hs,YC⟩
    exact⟨λhm=>(h3 x e).1 (Q8 _ hm),Jl _ (h3 x e).2⟩
   rcases Qu.1 hx with e|e
   .rw[e];simp
   have:=h4 x e;simpa using this
def LM(nx:Tx->Vs):Nat->Nat->Vs->Vs
 |0,_,Xc=>Xc
 |d+1,i,Xc=>match Xc[i]? with|none=>Xc|some x=>LM nx d (i+1) (push Xc (nx x))
def fin(nx:Tx->Vs):Nat->Nat->Vs->Bool
 |0,i,Xc=>decide (Xc.length<=i)
 |d+1,i,Xc=>match Xc[i]? with|none=>true|some x=>fin nx d (i+1) (push Xc (nx x))
def L7(U s0 Xc:Vs):Prop:=∃T,Xc=s0++T/\T.Nodup/\(∀x∈T,x∈U) 
theorem L7.push{U s0 Xc l:Vs}(h:L7 U s0 Xc)(hU:∀y∈l,y∈U):L7 U s0 (push Xc l):=by
 obtain⟨T,h1,h2,h3⟩:=h;obtain⟨t,k1,k2,k3,k4⟩:=Dg l Xc;refine⟨T++t,by rw[k1,h1];simp,Jv.2 ⟨h2,k2,λa ha b hb e=>(k3 b hb).1 (by rw[h1,<-e];exact List.mem_append_right _ ha)⟩,λx hx=>?_⟩
 rcases Qp.1 hx with e|e
 .exact h3 x e
 exact hU x (k3 x e).2
theorem L7.len{U s0 Xc:Vs}(h:L7 U s0 Xc):Xc.length<=s0.length+U.length:=by obtain⟨T,h1,h2,h3⟩:=h;have:=dS h2 h3;rw[h1,Qx];omega
theorem L7.mem{U s0 Xc:Vs}(h:L7 U s0 Xc)(h0:∀x∈s0,x∈U):∀x∈Xc,x∈U:=by
 obtain⟨T,h1,h2,h3⟩:=h;intro x hx;rw[h1]at hx
 rcases Qp.1 hx with e|e
 .exact h0 x e
 exact h3 x e
theorem L7.start{U s0:Vs}:L7 U s0 s0:=⟨[],YC,YC,λx h=>(by cases h)⟩
theorem dZ{nx:Tx->Vs}{U s0:Vs}(hU:∀x y,y∈nx x->y∈U):∀(d i:Nat) (Xc:Vs),L7 U s0 Xc->s0.length+U.length<=d+i->fin nx d i Xc=true
 |0,i,Xc,h,hd=>by
  have:=h.len;exact YH YA
 |d+1,i,Xc,h,hd=>by
  unfold fin
  cases Xc[i]? with
  |none=>rfl
  |some x=>exact dZ hU d (i+1) _ (h.push (hU x)) YA
theorem NV{nx:Tx->Vs}:∀(d i:Nat) (Xc:Vs),∃t,LM nx d i Xc=Xc++t
 |0,i,Xc=>⟨[],by simp[LM]⟩
 |d+1,i,Xc=>by
  unfold LM
  cases Xc[i]? with
  |none=>exact⟨[],YC⟩
  |some x =>
   obtain⟨t,h⟩:=NV (nx:=nx) d (i+1) (push Xc (nx x));obtain⟨u,k,_⟩:=Dg (nx x) Xc;exact⟨u++t,by show LM nx d (i+1) _=_;rw[h,k];simp⟩
theorem yU{nx:Tx->Vs}{U s0:Vs}(hU:∀x y,y∈nx x->y∈U):∀(d i:Nat) (Xc:Vs),L7 U s0 Xc->L7 U s0 (LM nx d i Xc)
 |0,i,Xc,h=>h
 |d+1,i,Xc,h=>by
  unfold LM
  cases Xc[i]? with
  |none=>exact h
  |some x=>exact yU hU d (i+1) _ (h.push (hU x))
theorem un{nx:Tx->Vs}{Q:Tx->Prop}(hQ:∀x,Q x->∀y∈nx x,Q y):∀(d i:Nat) (Xc:Vs),(∀x∈Xc,Q x)->∀x∈LM nx d i Xc,Q x
 |0,i,Xc,h=>h
 |d+1,i,Xc,h=>by
  unfold LM
  cases hi:Xc[i]? with
  |none=>exact h
  |some x =>
   refine un hQ d (i+1) _ λy hy=>?_;obtain⟨u,k1,_,k3,_⟩:=Dg (nx x) Xc;rw[k1]at hy
   rcases Qp.1 hy with e|e
   .exact h y e
   exact hQ x (h x (Qc hi)) y (k3 y e).2
theorem uz{nx:Tx->Vs}:∀(d i:Nat) (Xc:Vs),fin nx d i Xc=true->(∀j x,j<i->Xc[j]?=some x->∀y∈nx x,y∈Xc)->∀x∈LM nx d i Xc,∀y∈nx x,y∈LM nx d i Xc
 |0,i,Xc,hf,h=>λx hx y hy=>by
  have hl:Xc.length<=i:=YO hf;obtain⟨j,hj,e⟩:=JO (show x∈Xc from hx);exact h j x YA (by rw[Qe hj,e]) y hy
 |d+1,i,Xc,hf,h=>by
  unfold fin at hf;unfold LM
  cases hi:Xc[i]? with
  |none =>
   intro x hx y hy;have hl:Xc.length<=i:=JM.1 hi;obtain⟨j,hj,e⟩:=JO (show x∈Xc from hx);exact h j x YA (by rw[Qe hj,e]) y hy
  |some z =>
   rw[hi]at hf;obtain⟨u,k1,_,k3,k4⟩:=Dg (nx z) Xc;have hlt:i<Xc.length:=(Qb.1 hi).1;refine uz d (i+1) _ hf λj x hj hx y hy=>?_;rw[k1]at hx ⊢;rw[Qs YA]at hx;by_cases e:j=i
   .subst e;rw[hi]at hx;cases hx;exact k4 y hy
   exact Q8 _ (h j x YA hx y hy)
theorem tM{nx:Tx->Vs}{d:Nat}{a b:Tx}(hf:fin nx d 0 (nx a)=true):b∈LM nx d 0 (nx a)↔Rc nx a b:=by
 constructor;.exact un (Q:=λx=>Rc nx a x) (λx hx y hy=>hx.snoc hy) d 0 _ (λx hx=>.one hx) b
 intro h;refine h.into (F:=λx=>x∈LM nx d 0 (nx a)) (uz d 0 _ hf (λj x hj=>YA)) λy hy=>?_;obtain⟨t,e⟩:=NV (nx:=nx) d 0 (nx a);rw[e];exact Q8 _ hy
theorem wU{R:Type}{I:Vs->Prop}{nx:Tx->Vs}{stop:Tx->Option R}{body:Vs×Int->Option (Sum (Vs×Int) (Sum Unit R))}
  (hb:∀(i:Nat) Xc x,I Xc->Xc[i]?=some x->body (Xc,(i:Int))=match stop x with|some r=>some (.inr (.inr r))|none=>some (.inl (push Xc (nx x),((i+1:Nat):Int))))
  (he:∀(i:Nat) Xc,I Xc->Xc.length<=i->body (Xc,(i:Int))=some (.inr (.inl ())))
  (hp:∀Xc x,I Xc->x∈Xc->I (push Xc (nx x))):∀(d i:Nat) (Xc:Vs),I Xc->fin nx d i Xc=true->
  zk body (Xc,(i:Int))=some (match((LM nx d i Xc).drop i).findSome? stop with|some r=>(Sum.inr r:Sum Unit R)|none=>Sum.inl ())
 |0,i,Xc,hI,hf=>by
  have hl:Xc.length<=i:=YO hf;rw[zH,he i Xc hI hl]
  show _=some (match(Xc.drop i).findSome? stop with|some r=>(Sum.inr r:Sum Unit R)|none=>Sum.inl ())
  rw[JG hl];rfl
 |d+1,i,Xc,hI,hf=>by
  unfold fin at hf;unfold LM
  cases hi:Xc[i]? with
  |none =>
   have hl:Xc.length<=i:=JM.1 hi;rw[zH,he i Xc hI hl]
   show _=some (match(Xc.drop i).findSome? stop with|some r=>(Sum.inr r:Sum Unit R)|none=>Sum.inl ())
   rw[JG hl];rfl
  |some x =>
   rw[hi]at hf;obtain⟨t,ht⟩:=NV (nx:=nx) d (i+1) (push Xc (nx x));obtain⟨u,hu,_⟩:=Dg (nx x) Xc
   have hx:(LM nx d (i+1) (push Xc (nx x)))[i]?=some x:=by
    rw[ht,hu,Q4,Qs (Qb.1 hi).1,hi]
   obtain⟨hlt,hge⟩:=Qb.1 hx;rw[zH,hb i Xc x hI hi]
   show _=some (match((LM nx d (i+1) (push Xc (nx x))).drop i).findSome? stop with|some r=>(Sum.inr r:Sum Unit R)|none=>Sum.inl ())
   rw[JL hlt,Q7,hge]
   cases stop x with
   |some r=>rfl
   |none=>exact wU hb he hp d (i+1) _ (hp _ _ hI (Qc hi)) hf
def LF(L:Vr)(n:Tx):Vs:=match cl L n with|none=>[]|some c=>(c.Super::c.Impl).filter (λs=>!(s==[]))
def Mn(L:Vr)(n:Tx):Vs:=match cl L n with|none=>[]|some c=>c.Impl
structure DO(L:Vr):Prop where
 nd:Nd L
 noE:Xi L []=false
 closed:∀c∈L,∀s∈c.Super::c.Impl,s≠[]->Xi L s=true
 implE:∀c∈L,[]∉c.Impl
structure Wf(L:Vr):Prop extends DO L where
 acyc:∀n,¬Rc (LF L) n n
 superF:∀c∈L,Lg L c.Super=false
 implF:∀c∈L,∀s∈c.Impl,Lg L s=true
theorem DO.nxA_in(h:DO L)(x y:Tx)(hy:y∈LF L x):y∈L.map (·.Name):=by
 unfold LF at hy;split at hy;.cases hy
 rename_i c hc;rw[Ji]at hy;exact KP.1 (h.closed c (XG hc).1 y hy.1 (by have:=hy.2;simpa using this))
theorem DO.nxI_in(h:DO L)(x y:Tx)(hy:y∈Mn L x):y∈L.map (·.Name):=by
 unfold Mn at hy;split at hy;.cases hy
 rename_i c hc;exact KP.1 (h.closed c (XG hc).1 y (Jl _ hy) (λe=>h.implE c (XG hc).1 (by rw[<-e];exact hy)))
def LE(L:Vr):Nat->Tx->Vs
 |0,_=>[]
 |d+1,n=>match cl L n with|none=>[]|some c=>n::LE L d c.Super
def Ki(L:Vr):Nat->Tx->Bool
 |0,n=>!Xi L n
 |d+1,n=>match cl L n with|none=>true|some c=>Ki L d c.Super
theorem ve{L:Vr}(h:Wf L):∀(d:Nat) (n:Tx),Ki L d n=false->Xi L n=true/\∃r,LE L (d+1) n=n::r/\r.length=d/\(n::r).Nodup/\(∀x∈r,x∈L.map (·.Name)/\Rc (LF L) n x)
 |0,n,hf=>by
  have hn:Xi L n=true:=by simpa[Ki]using hf
  obtain⟨c,hc⟩:=XY hn;exact⟨hn,[],by simp[LE,hc],rfl,YC,λx h=>(by cases h)⟩
 |d+1,n,hf=>by
  unfold Ki at hf;split at hf;.cases hf
  rename_i c hc;obtain⟨h0,r,h1,h2,h3,h4⟩:=ve h d c.Super hf
  have hs:c.Super∈LF L n:=by
   unfold LF;rw[hc];refine Ji.2 ⟨YC,?_⟩
   have:c.Super≠[]:=λe=>by rw[e,h.noE]at h0;cases h0
   simpa using this
  have h5:∀x∈c.Super::r,x∈L.map (·.Name)/\Rc (LF L) n x:=λx hx=>by
   rcases Qu.1 hx with e|e
   .rw[e];exact⟨KP.1 h0,.one hs⟩
   exact⟨(h4 x e).1,.more hs (h4 x e).2⟩
  refine⟨ZC hc,c.Super::r,?_,by simp[h2],Jh.2 ⟨λhm=>h.acyc n (h5 n hm).2,h3⟩,h5⟩
  show(match cl L n with|none=>[]|some c=>n::LE L (d+1) c.Super)=_
  rw[hc];show n::LE L (d+1) c.Super=_;rw[h1]
theorem xA(h:Wf L)(n:Tx):Ki L L.length n=true:=by
 cases hf:Ki L L.length n with
 |true=>rfl
 |false =>
  obtain⟨h0,r,h1,h2,h3,h4⟩:=ve h _ n hf
  have:=dS h3 (b:=L.map (·.Name)) (λx hx=>by
   rcases Qu.1 hx with e|e
   .rw[e];exact KP.1 h0
   exact(h4 x e).1)
  simp at this;omega
def K4:Tx:=[79,98,106,101,99,116]
def DE:Tx:=[84,104,114,111,119,110]
def gC(n s:Tx):za:=za.mk n s false [] [] []
def Lb:Vr:=[gC K4 [],gC DE K4,gC [78,117,108,108,69,114,114] DE,gC [82,97,110,103,101,69,114,114] DE,gC [77,97,116,104,69,114,114] DE,gC [67,97,115,116,69,114,114] DE,
 gC [83,105,122,101,69,114,114] DE,gC [83,116,111,114,101,69,114,114] DE,gC [73,110,105,116,69,114,114] DE,gC [67,108,97,115,115,69,114,114] DE]
theorem lY:ux=some Lb:=by kernel_rfl
theorem lA:uG=some Lb:=by kernel_rfl
def DU(k:Nat)(m:List (Tx×Int)):Vr->List (Tx×Int)
 |[]=>m
 |c::r=>DU (k+1) (XO c.Name (k:Int) m) r
def fresh(pre:Vr):Vr->Bool
 |[]=>true
 |c::r=>!Xi pre c.Name&&fresh (pre++[c]) r
theorem fE:∀(r pre:Vr) (m:List (Tx×Int)),Xq pre m->fresh pre r=true->Xq (pre++r) (DU pre.length m r)
 |[],pre,m,h,_=>by simpa[DU]using h
 |c::r,pre,m,h,hf=>by
  simp only[fresh,Qd,Qm]at hf;have:=fE r (pre++[c]) _ (h.snoc hf.1) hf.2;simpa[DU]using this
theorem fp:∀(r pre:Vr),Nd pre->fresh pre r=true->Nd (pre++r)
 |[],pre,h,_=>by simpa using h
 |c::r,pre,h,hf=>by
  simp only[fresh,Qd,Qm]at hf;have:=fp r (pre++[c]) (h.snoc hf.1) hf.2;simpa using this
theorem aB:zk (λz=>oF Lb z.1 z.2) ([],0)=some (.inl (DU 0 [] Lb)):=by kernel_rfl
theorem zE3:Xq Lb (DU 0 [] Lb):=fE Lb [] [] (λn=>rfl) (by decide +kernel)
theorem OY:Nd Lb:=fp Lb [] (λi j c d h=>by simp at h) (by decide +kernel)
def LX:Vr->Vr->Option (Vr)
 |L,[]=>some L
 |L,c::r=>cond (Xi L c.Name||!ZT c) none (LX (L++[c]) r)
theorem OX:∀(r L L':Vr),Nd L->LX L r=some L'->L'=L++r/\Nd L'/\∀c∈r,ZT c=true
 |[],L,L',h,e=>by
  unfold LX at e;cases e;exact⟨YC,h,λc hc=>by cases hc⟩
 |c::r,L,L',h,e=>by
  unfold LX at e
  cases h1:Xi L c.Name with
  |true=>rw[h1]at e;cases e
  |false =>
   cases h2:ZT c with
   |false=>rw[h1,h2]at e;cases e
   |true =>
    rw[h1,h2]at e;obtain⟨k1,k2,k3⟩:=OX r (L++[c]) L' (h.snoc h1) e;refine⟨by rw[k1];simp,k2,λd hd=>?_⟩
    rcases Qu.1 hd with e|e
    .rw[e];exact h2
    exact k3 d e
theorem j7{w:Nat}(h:L.length<=1000)(hw:w<=1000):Xu w L [c]=some (L++[c]):=by refine XH ?_ (by simp;omega);have:(L.length+[c].length)*w<=1001*1000:=Nat.mul_le_mul (by simp;omega) hw;omega
theorem ff{l:Vr}(hl:l.length<=16)(hc:∀c∈l,W3 c):∀(r pre L:Vr) (m:List (Tx×Int)),l=pre++r->Xq L m->L.length=10+pre.length->
  (LX L r=none->zk (λz=>G8 l z.1 z.2.1 z.2.2) (L,m,(pre.length:Int))=some (.inr (none,1)))/\
  (∀L',LX L r=some L'->∃m',Xq L' m'/\zk (λz=>G8 l z.1 z.2.1 z.2.2) (L,m,(pre.length:Int))=some (.inl (L',m')))
 |[],pre,L,m,e,hm,hL=>by
  rw[Qy]at e;subst e;unfold LX;refine⟨λh=>(by cases h),λL' h=>?_⟩;cases h;refine⟨m,hm,?_⟩;rw[zH];show(G8 l L m (l.length:Int)).bind _=_;unfold G8;rw[Xm];rfl
 |c::r,pre,L,m,e,hm,hL=>by
  have VR:l.length=pre.length+(r.length+1):=by rw[e];simp
  have hx:l[pre.length]?=some c:=by rw[e];simp
  have hcm:c∈l:=Qc hx
  have step:zk (λz=>G8 l z.1 z.2.1 z.2.2) (L,m,(pre.length:Int))=(cond (Xi L c.Name||!ZT c) (some (.inr (.inr (none,1)))) (some (.inl (L++[c],XO c.Name (L.length:Int) m,((pre.length+1:Nat):Int))))).bind (Sum.elim (zk (λz=>G8 l z.1 z.2.1 z.2.2)) some):=by
   rw[zH];show(G8 l L m (pre.length:Int)).bind _=_;congr 1;unfold G8;rw[Xl hx,zo,hx];simp only[YF,Qa];rw[hm.has,lP (hc c hcm),j7 YA YA,zz YA];cases Xi L c.Name<;>cases ZT c<;>rfl
  rw[step];unfold LX
  cases h1:(Xi L c.Name||!ZT c)with
  |true=>exact⟨λ_=>rfl,λL' h=>by cases h⟩
  |false =>
   rw[Qh]at h1;have:=ff hl hc r (pre++[c]) (L++[c]) _ (by rw[e];simp) (hm.snoc h1.1) (by simp;omega);rw[show(pre++[c]).length=pre.length+1 by simp]at this;exact this
structure Mp(c:za):Prop where
 name:c.Name≠[]
 impl:c.Impl.length<=4
 implE:∀s∈c.Impl,s≠[]
theorem Ey{s:Tx}(h:XM s=true):s≠[]:=by intro e;subst e;unfold XM at h;simp at h
theorem OU{α:Type}{ok:α->Bool}{nm:α->List UInt8}:∀{l pre:List α},uB ok nm pre l=false->∀x∈l,ok x=true
 |[],_,_,x,hx=>by cases hx
 |y::r,pre,h,x,hx=>by
  unfold uB at h;simp only[Qh,QT]at h
  rcases Qu.1 hx with e|e
  .rw[e];exact h.1.1
  exact OU h.2 x e
theorem tF(h:ZT c=true):Mp c:=by unfold ZT at h;simp only[Qd,Qm,YJ]at h;obtain⟨_,⟨⟨⟨⟨h1,h2⟩,h3,h4⟩,h5⟩,h6⟩⟩:=h;exact⟨Ey h1,YA,λs hs=>Ey (OU h3 s hs)⟩
theorem ay:∀c∈Lb,Mp c:=by
 intro c hc
 have h:Lb.all (λc=>!(c.Name==[])&&(c.Impl==[]))=true:=by decide +kernel
 have:=Qr.1 h c hc;simp only[Qd,Qm,beq_eq_false_iff_ne,YN]at this;exact⟨this.1,by rw[this.2];simp,λs hs=>by rw[this.2]at hs;cases hs⟩
theorem R9{l:Vr}(h:LX Lb l=some L):∀c∈L,Mp c:=by
 obtain⟨h1,h2,h3⟩:=OX l Lb L OY h;intro c hc;rw[h1]at hc
 rcases Qp.1 hc with e|e
 .exact ay c e
 exact tF (h3 c e)
theorem fe(h:c.Impl.length<=4):Xu 16 [c.Super] c.Impl=some (c.Super::c.Impl):=XH (by simp;omega) (by simp;omega)
theorem kp(h:c.Impl.length<=4):EE c=some (c.Super::c.Impl):=by unfold EE;rw[fe h];rfl
theorem zEF{l:Vs}{m:List (Tx×Int)}(hm:Xq L m)(hl:l.length<=1000):Ru l L m=some (l.any λs=>!Xi L s):=by
 unfold Ru gW
 rw[show((zk (λz=>Cp l L m z) 0).bind λo=>zE o (λb=>jp) some)=_ from Zt (l:=l) (p:=λs=>!Xi L s) YA
  (λi x hx=>by unfold Cp S3 Ky;rw[Xl hx,zo,hx];simp only[YF,Qa];rw[hm.has]) (by unfold Cp;rw[Xm];rfl)]
 exact congrArg some (ZK _ 0 l)
variable {m:List (Tx×Int)}{VK:List Bool}{l:Vs}{act:Nat->Bool}{n:Tx}{nx:za->Vs}
theorem OZ(hm:Xq L m)(hn:Xi L n=true):HO L m n=cl L n:=by unfold HO;rw[hm.idx hn];cases cl L n<;>rfl
theorem zEG(hm:Xq L m)(hl:l.length<=1000)(hh:∀s∈l,Xi L s=true):Rt l L m=some (l.any λs=>!Lg L s):=by
 unfold Rt gV
 rw[show((zk (λz=>Co l L m z) 0).bind λo=>zE o (λb=>jo) some)=_ from Zt (l:=l) (p:=λs=>!Lg L s) YA
  (λi x hx=>by
   obtain⟨c,hc⟩:=XY (hh x (Qc hx));unfold Co k9 Lg
   rw[Xl hx,zo,hx];simp only[YF,Qa];rw[OZ hm (ZC hc),hc];rfl) (by unfold Co;rw[Xm];rfl)]
 exact congrArg some (ZK _ 0 l)
def Mo(L:Vr)(n:Tx):Bool:=@decide (Rc (LF L) n n) (Classical.propDecidable _)
theorem R5:Mo L n=true↔Rc (LF L) n n:=by unfold Mo;exact@decide_eq_true_iff _ (Classical.propDecidable _)
def UJ(L:Vr)(c:za):Bool:=Lg L c.Super||(c.Impl.any (λs=>!Lg L s)||Mo L c.Name)
theorem xY{R:Type}{body:Vs×Int->Option (Sum (Vs×Int) (Sum (Vs) R))}{l:Vs}{p:Tx->Bool}(hl:l.length<=100)
  (hb:∀(i:Nat) x Xc,Xc.length<=1000->l[i]?=some x->body (Xc,(i:Int))=some (.inl (cond (p x&&!(Xc.any λy=>x==y)) (Xc++[x]) Xc,i64.wrap ((i:Int)+1))))
  (he:∀Xc,body (Xc,(l.length:Int))=some (.inr (.inl Xc))):∀(r pre Xc:Vs),l=pre++r->Xc.length+r.length<=1000->zk body (Xc,(pre.length:Int))=some (.inl (push Xc (r.filter p)))
 |[],pre,Xc,e,hs=>by
  rw[Qy]at e;subst e;rw[zH,he];rfl
 |x::r,pre,Xc,e,hs=>by
  have VR:l.length=pre.length+(r.length+1):=by rw[e];simp
  have hx:l[pre.length]?=some x:=by rw[e];simp
  simp only[Qw]at hs;rw[zH,hb _ x Xc YA hx,zz YA];have ih:=λs h=>xY hl hb he r (pre++[x]) s (by rw[e];simp) h;rw[show(pre++[x]).length=pre.length+1 by simp]at ih
  cases h1:p x with
  |false =>
   rw[Yx (by rw[h1];exact Jc)];exact ih Xc YA
  |true =>
   rw[Yy h1];unfold push
   cases h2:(Xc.any λy=>x==y)with
   |true=>exact ih Xc YA
   |false=>exact ih (Xc++[x]) (by simp;omega)
theorem Sr(hl:l.length<=1000)(n:Tx):zO l n=some (l.any λy=>n==y):=Sb (by unfold XP;omega) n
theorem zEW{Xc:Vs}(hl:l.length<=100)(hs:Xc.length+l.length<=1000):zk (λz=>IP l z.1 z.2) (Xc,0)=some (.inl (push Xc (l.filter (λs=>!(s==[]))))):=by
 refine xY (l:=l) (p:=λs=>!(s==[])) hl (λi x s h hx=>?_) (λs=>?_) l [] Xc rfl hs;.show IP l s (i:Int)=_;unfold IP Af;rw[Xl hx,zo,hx];simp only[YF,Qa];rw[Sr h,XH (w:=16) (l:=s) (x:=[x]) (by simp;omega) (by simp;omega)];cases(x==[])<;>cases(s.any λy=>x==y)<;>rfl
 show IP l s (l.length:Int)=_;unfold IP;rw[Xm];rfl
theorem W6(h:cl L n=some c):LF L n=(c.Super::c.Impl).filter (λs=>!(s==[])):=by unfold LF;rw[h]
theorem qN(hL:∀c∈L,Mp c)(n:Tx):(LF L n).length<=5:=by
 unfold LF;split;.simp
 rename_i c hc;have:=(hL c (XG hc).1).impl;exact QK (J1 _ _) (by simp;omega)
theorem cY(l Xc:Vs):(push Xc l).length<=Xc.length+l.length:=by
 induction l generalizing Xc with
 |nil=>simp[push]
 |cons x r ih =>
  unfold push
  cases(Xc.any λy=>x==y)with
  |true=>have:=ih Xc;simp only[YF,Qw];omega
  |false=>have:=ih (Xc++[x]);simp only[YG,Qw];simp at this;omega
theorem aF(hm:Xq L m)(h:DO L)(hO:∀c∈L,Mp c)(VR:L.length<=100)(hc:c∈L)(hs:c.Super≠[]):Id L m c=some (!UJ L c):=by
 have F0:=h.closed c hc;have hsup:Xi L c.Super=true:=F0 c.Super YC hs;obtain⟨x,hx⟩:=XY hsup;have himp:∀s∈c.Impl,Xi L s=true:=λs hm=>F0 s (by simp[hm]) ((hO c hc).implE s hm);have hi4:=(hO c hc).impl
 have e0:(c.Super::c.Impl)=LF L c.Name:=by
  rw[W6 (h.nd.cl hc),List.filter_eq_self.2];intro s hsm
  rcases Qu.1 hsm with e|e
  .rw[e];simpa using hs
  simpa using(hO c hc).implE s e
 unfold Id;rw[OZ hm hsup,hx,zEG hm YA himp,kp hi4];simp only[Qa]
 have eF:Lg L c.Super=x.Interface:=by unfold Lg;rw[hx]
 unfold UJ;rw[eF]
 cases x.Interface with
 |true=>rfl
 |false =>
  cases c.Impl.any (λs=>!Lg L s)with
  |true=>rfl
  |false =>
   have hfin:fin (LF L) (5+L.length) 0 (LF L c.Name)=true:=dZ (U:=L.map (·.Name)) (s0:=LF L c.Name) h.nxA_in _ _ _ .start (by have:=qN hO c.Name;simp;omega)
   have hw:=wU (R:=Bool) (I:=λs=>L7 (List.map (λc:za=>c.Name) L) (LF L c.Name) s) (nx:=LF L) (stop:=λy=>cond (y==c.Name) (some false) none) (body:=λz=>B5 L m c z.1 z.2)
    (λi Xc y hI hy=>by
     have hsl:=hI.len;have h5:=qN hO c.Name;have hym:Xi L y=true:=KP.2 (hI.mem (λz hz=>h.nxA_in _ z hz) y (Qc hy));obtain⟨d,hd⟩:=XY hym;have hd4:=(hO d (XG hd).1).impl;have hpl:=cY (LF L y) Xc;simp only[QY]at hsl;show B5 L m c Xc (i:Int)=_;unfold B5 ip;rw[Xl hy,zo,hy];simp only[YF,Qa];have hilt:=(Qb.1 hy).1;rw[OZ hm hym,hd];simp only[Qa];rw[kp hd4];simp only[Qa];rw[zEW (by simp;omega) (by simp;omega),<-W6 hd,zz YA]
     cases y==c.Name<;>rfl)
    (λi Xc hI hle=>by
     show B5 L m c Xc (i:Int)=_;unfold B5
     rw[YI YA];rfl)
    (λzat y hI hy=>hI.push (h.nxA_in y)) (5+L.length) 0 (LF L c.Name) .start hfin
   rw[e0];rw[show zk (λz=>B5 L m c z.1 z.2) (LF L c.Name,0)=_ from hw,Yj,z8]
   have:(LM (LF L) (5+L.length) 0 (LF L c.Name)).any (λy=>y==c.Name)=Mo L c.Name:=by
    rw[QJ,R5,<-tM hfin,QB];constructor;.rintro⟨y,h1,h2⟩;obtain rfl:=YP h2;exact h1
    intro h1;exact⟨_,h1,YL _⟩
   rw[this];cases Mo L c.Name<;>rfl
def Ld(VK:List Bool)(n:Nat):Bool:=VK.getD n false
def ZS(L:Vr)(VK:List Bool)(s:Tx):Bool:=Xi L s&&!Ld VK (Lm L s).toNat
def mk1(L:Vr)(VK:List Bool)(s:Tx):List Bool:=cond (ZS L VK s) (VK.set (Lm L s).toNat true) VK
def LJ(L:Vr):List Bool->Vs->List Bool
 |VK,[]=>VK
 |VK,s::r=>LJ L (mk1 L VK s) r
theorem OO{s:Tx}(h:Xi L s=true):0<=Lm L s/\(Lm L s).toNat<L.length:=by
 unfold Xi at h;unfold Lm
 rcases De (λc:za=>c.Name==s) L 0 with ⟨j,x,h1,h2,h3,h4⟩|⟨h1,h2⟩
 .have:=(Qb.1 h2).1;rw[h1];omega
 rw[QB]at h;obtain⟨c,k1,k2⟩:=h;have:=JT.1 h2 c k1;exact absurd k2 this
theorem Sg(L:Vr)(VK:List Bool)(s:Tx):(mk1 L VK s).length=VK.length:=by unfold mk1;cases ZS L VK s<;>simp
theorem Bj(L:Vr):∀(l:Vs) (VK:List Bool),(LJ L VK l).length=VK.length
 |[],VK=>rfl
 |s::r,VK=>by unfold LJ;rw[Bj L r,Sg]
theorem qM{n k:Nat}(h:n<VK.length):Ld (VK.set n true) k=(Ld VK k||Nat.beq k n):=by
 unfold Ld;rw[Ql,Ql,List.getElem?_set];by_cases e:n=k;.subst e;simp[h]
 rw[YM e]
 have:Nat.beq k n=false:=by
  cases hb:Nat.beq k n with
  |false=>rfl
  |true=>exact absurd (Qn hb).symm e
 rw[this,Q5]
theorem sE(hl:VK.length=L.length)(s:Tx)(k:Nat):Ld (mk1 L VK s) k=(Ld VK k||(Xi L s&&Nat.beq k (Lm L s).toNat)):=by
 unfold mk1 ZS
 cases h:Xi L s with
 |false=>simp
 |true =>
  cases h2:Ld VK (Lm L s).toNat with
  |false =>
   simp only[QI,JR,YF,QD];exact qM (by rw[hl];exact(OO h).2)
  |true =>
   simp only[Qo,Jf,YG,QD]
   cases h3:Nat.beq k (Lm L s).toNat with
   |false=>simp
   |true=>rw[Qn h3,h2];rfl
theorem xn{L:Vr}:∀(l:Vs) (VK:List Bool),VK.length=L.length->∀k,Ld (LJ L VK l) k=(Ld VK k||l.any (λs=>Xi L s&&Nat.beq k (Lm L s).toNat))
 |[],VK,hl,k=>by simp[LJ]
 |s::r,VK,hl,k=>by
  unfold LJ;rw[xn r _ (by rw[Sg];exact hl),sE hl,Q2,JQ]
theorem wN{L:Vr}:∀(l:Vs) (VK:List Bool),l.any (ZS L VK)=false->LJ L VK l=VK
 |[],VK,_=>rfl
 |s::r,VK,h=>by
  rw[Q2,Qh]at h;unfold LJ
  have:mk1 L VK s=VK:=by unfold mk1;rw[h.1];rfl
  rw[this,wN r VK h.2]
theorem uu{R:Type}{L:Vr}{l:Vs}{body:List Bool×Bool×Int->Option (Sum (List Bool×Bool×Int) (Sum (List Bool×Bool) R))}(hl:l.length<=1000)
  (hb:∀(j:Nat) s VK more,VK.length=L.length->l[j]?=some s->body (VK,more,(j:Int))=some (.inl (mk1 L VK s,more||ZS L VK s,i64.wrap ((j:Int)+1))))
  (he:∀VK more,body (VK,more,(l.length:Int))=some (.inr (.inl (VK,more)))):
  ∀(r pre:Vs) (VK:List Bool) (more:Bool),l=pre++r->VK.length=L.length->zk body (VK,more,(pre.length:Int))=some (.inl (LJ L VK r,more||r.any (ZS L VK)))
 |[],pre,VK,more,e,hi=>by
  rw[Qy]at e;subst e;rw[zH,he];show some _=some _;simp[LJ]
 |s::r,pre,VK,more,e,hi=>by
  have VR:l.length=pre.length+(r.length+1):=by rw[e];simp
  have hx:l[pre.length]?=some s:=by rw[e];simp
  rw[zH,hb _ s VK more hi hx,zz YA];have ih:=λi m h=>uu hl hb he r (pre++[s]) i m (by rw[e];simp) h;rw[show(pre++[s]).length=pre.length+1 by simp]at ih;show zk body (mk1 L VK s,more||ZS L VK s,((pre.length+1:Nat):Int))=_;rw[ih _ _ (by rw[Sg];exact hi),Q2,show LJ L VK (s::r)=LJ L (mk1 L VK s) r from rfl]
  cases h:ZS L VK s with
  |true=>simp
  |false =>
   have:mk1 L VK s=VK:=by unfold mk1;rw[h];rfl
   rw[this];simp
def ZP(L:Vr)(nx:za->Vs)(act:Nat->Bool):List Bool->Nat->Vr->List Bool
 |VK,_,[]=>VK
 |VK,k,c::r=>ZP L nx act (cond (Ld VK k||act k) (LJ L VK (nx c)) VK) (k+1) r
def U9(L:Vr)(nx:za->Vs)(act:Nat->Bool):List Bool->Nat->Vr->Bool
 |_,_,[]=>false
 |VK,k,c::r=>cond (Ld VK k||act k) ((nx c).any (ZS L VK)) false||U9 L nx act (cond (Ld VK k||act k) (LJ L VK (nx c)) VK) (k+1) r
theorem xX:∀(r:Vr) (k:Nat) (VK:List Bool),(ZP L nx act VK k r).length=VK.length
 |[],k,VK=>rfl
 |c::r,k,VK=>by
  unfold ZP;rw[xX r]
  cases Ld VK k||act k
  .rfl
  exact Bj L _ _
theorem yr(hl:VK.length=L.length)(b:Bool)(l:Vs)(n:Nat)(h:Ld VK n=true):Ld (cond b (LJ L VK l) VK) n=true:=by
 cases b with
 |false=>exact h
 |true=>show Ld (LJ L VK l) n=true;rw[xn l VK hl,h];rfl
theorem ua:∀(r:Vr) (k:Nat) (VK:List Bool),VK.length=L.length->∀n,Ld VK n=true->Ld (ZP L nx act VK k r) n=true
 |[],k,VK,hl,n,h=>h
 |c::r,k,VK,hl,n,h=>by
  unfold ZP;refine ua r (k+1) _ ?_ n (yr hl _ _ n h)
  cases Ld VK k||act k
  .exact hl
  exact(Bj L _ _).trans hl
theorem SY:∀(r:Vr) (k:Nat) (VK:List Bool),U9 L nx act VK k r=false->ZP L nx act VK k r=VK/\∀(j:Nat) c,r[j]?=some c->(Ld VK (k+j)||act (k+j))=true->(nx c).any (ZS L VK)=false
 |[],k,VK,_=>⟨rfl,λj c h=>by simp at h⟩
 |c::r,k,VK,h=>by
  unfold U9 at h;unfold ZP;rw[Qh]at h
  have e:cond (Ld VK k||act k) (LJ L VK (nx c)) VK=VK:=by
   cases hb:Ld VK k||act k with
   |false=>rfl
   |true=>rw[hb]at h;exact wN _ _ h.1
  rw[e]at h ⊢;obtain⟨h1,h2⟩:=SY r (k+1) VK h.2;refine⟨h1,λj d hj hb=>?_⟩
  cases j with
  |zero =>
   have:c=d:=by simpa using hj
   subst this;rw[Je]at hb;rw[hb]at h;exact h.1
  |succ j=>exact h2 j d (by simpa using hj) (by rw[show k+1+j=k+(j+1)by omega];exact hb)
theorem vu:∀(r:Vr) (k:Nat) (VK:List Bool),VK.length=L.length->∀(j:Nat) c,r[j]?=some c->(Ld VK (k+j)||act (k+j))=true->∀s∈nx c,Xi L s=true->Ld (ZP L nx act VK k r) (Lm L s).toNat=true
 |[],k,VK,hl,j,c,h,_=>by simp at h
 |d::r,k,VK,hl,j,c,hj,hb=>by
  intro s hs hh;unfold ZP
  have hl2:(cond (Ld VK k||act k) (LJ L VK (nx d)) VK).length=L.length:=by
   cases Ld VK k||act k
   .exact hl
   exact(Bj L _ _).trans hl
  cases j with
  |zero =>
   have:d=c:=by simpa using hj
   subst this;rw[Je]at hb;refine ua r (k+1) _ hl2 _ ?_;rw[hb];show Ld (LJ L VK (nx d)) _=true;rw[xn _ _ hl,Qv];right;rw[QB];exact⟨s,hs,by rw[hh,QD];exact Nat.beq_refl _⟩
  |succ j =>
   refine vu r (k+1) _ hl2 j c (by simpa using hj) ?_ s hs hh;rw[show k+1+j=k+(j+1)by omega];rw[Qv]at hb ⊢
   rcases hb with hb|hb
   .exact .inl (yr hl _ _ _ hb)
   exact .inr hb
theorem uI{Q:Nat->Prop}:∀(r:Vr) (k:Nat) (VK:List Bool),VK.length=L.length->(∀(j:Nat) c,r[j]?=some c->(Q (k+j)\/act (k+j)=true)->∀s∈nx c,Xi L s=true->Q (Lm L s).toNat)->
  (∀n,Ld VK n=true->Q n)->∀n,Ld (ZP L nx act VK k r) n=true->Q n
 |[],k,VK,hl,hQ,h=>h
 |c::r,k,VK,hl,hQ,h=>by
  unfold ZP;refine uI r (k+1) _ ?_ (λj d hj hor=>?_) (λn hn=>?_)
  .cases Ld VK k||act k
   .exact hl
   exact(Bj L _ _).trans hl
  .rw[show k+1+j=k+(j+1)by omega]at hor;exact hQ (j+1) d (by simpa using hj) hor
  cases hb:Ld VK k||act k with
  |false=>rw[hb]at hn;exact h n hn
  |true =>
   rw[hb]at hn;have hn:Ld (LJ L VK (nx c)) n=true:=hn;rw[xn _ _ hl,Qv]at hn
   rcases hn with hn|hn
   .exact h n hn
   rw[QB]at hn;obtain⟨s,hs,hs2⟩:=hn;rw[Qd]at hs2;rw[Qn hs2.2];refine hQ 0 c rfl ?_ s hs hs2.1;rw[Je];rw[Qv]at hb;exact hb.imp (h k) id
def cnt(VK:List Bool):Nat:=VK.count true
theorem vb:∀(VK:List Bool) (n:Nat),n<VK.length->Ld VK n=false->cnt (VK.set n true)=cnt VK+1
 |[],n,h,_=>by simp at h
 |b::r,0,h,hb=>by
  have:b=false:=by simpa[Ld]using hb
  subst this;simp[cnt]
 |b::r,n+1,h,hb=>by
  have:=vb r n (by simpa using h) (by simpa[Ld]using hb);unfold cnt at this ⊢;rw[List.set_cons_succ,List.count_cons,List.count_cons,this];omega
theorem aN(hl:VK.length=L.length)(s:Tx):cnt (mk1 L VK s)=cnt VK+cond (ZS L VK s) 1 0:=by
 unfold mk1
 cases h:ZS L VK s with
 |false=>rfl
 |true =>
  unfold ZS at h;rw[Qd,Qm]at h;exact vb VK _ (by rw[hl];exact(OO h.1).2) h.2
theorem vc:∀(l:Vs) (VK:List Bool),VK.length=L.length->cnt VK+cond (l.any (ZS L VK)) 1 0<=cnt (LJ L VK l)
 |[],VK,hl=>by simp[LJ]
 |s::r,VK,hl=>by
  have ih:=vc r (mk1 L VK s) (by rw[Sg];exact hl);have h1:=aN hl s;unfold LJ;rw[Q2]
  cases h:ZS L VK s with
  |true=>rw[h]at h1;simp only[YF]at h1;simp only[Bool.true_or,YF];omega
  |false =>
   have e:mk1 L VK s=VK:=by unfold mk1;rw[h];rfl
   rw[e]at ih ⊢;simpa using ih
theorem vO:∀(r:Vr) (k:Nat) (VK:List Bool),VK.length=L.length->cnt VK+cond (U9 L nx act VK k r) 1 0<=cnt (ZP L nx act VK k r)
 |[],k,VK,hl=>by simp[ZP,U9]
 |c::r,k,VK,hl=>by
  unfold ZP U9
  have hl2:(cond (Ld VK k||act k) (LJ L VK (nx c)) VK).length=L.length:=by
   cases Ld VK k||act k
   .exact hl
   exact(Bj L _ _).trans hl
  have ih:=vO r (k+1) _ hl2
  have h1:cnt VK+cond (cond (Ld VK k||act k) ((nx c).any (ZS L VK)) false) 1 0<=cnt (cond (Ld VK k||act k) (LJ L VK (nx c)) VK):=by
   cases Ld VK k||act k with
   |false=>simp
   |true=>exact vc _ _ hl
  generalize cond (Ld VK k||act k) ((nx c).any (ZS L VK)) false=x at *
  generalize U9 L nx act (cond (Ld VK k||act k) (LJ L VK (nx c)) VK) (k+1) r=y at *
  cases x<;>cases y<;>simp only[Q5,Ju,YF,YG]at*<;>omega
theorem t7(VK:List Bool):cnt VK<=VK.length:=List.count_le_length
theorem ub{R X:Type}{st:List Bool->Bool->Int->X}{body:X->Option (Sum X (Sum (List Bool×Bool) R))}(hL:L.length<=1000)
  (hb:∀(k:Nat) c VK more,VK.length=L.length->L[k]?=some c->body (st VK more (k:Int))=some (.inl (cond (Ld VK k||act k) (st (LJ L VK (nx c)) (more||(nx c).any (ZS L VK)) ((k+1:Nat):Int)) (st VK more ((k+1:Nat):Int)))))
  (he:∀VK more,body (st VK more (L.length:Int))=some (.inr (.inl (VK,more)))):
  ∀(r pre:Vr) (VK:List Bool) (more:Bool),L=pre++r->VK.length=L.length->zk body (st VK more (pre.length:Int))=some (.inl (ZP L nx act VK pre.length r,more||U9 L nx act VK pre.length r))
 |[],pre,VK,more,e,hi=>by
  rw[Qy]at e;subst e;rw[zH,he];show some _=some _;simp[ZP,U9]
 |c::r,pre,VK,more,e,hi=>by
  have hx:L[pre.length]?=some c:=by rw[e];simp
  rw[zH,hb _ c VK more hi hx];have ih:=λi m h=>ub hL hb he r (pre++[c]) i m (by rw[e];simp) h;rw[show(pre++[c]).length=pre.length+1 by simp]at ih;unfold ZP U9
  cases Ld VK pre.length||act pre.length with
  |false =>
   show zk body (st VK more ((pre.length+1:Nat):Int))=_;rw[ih _ _ hi];simp
  |true =>
   show zk body (st (LJ L VK (nx c)) _ ((pre.length+1:Nat):Int))=_;rw[ih _ _ (by rw[Bj];exact hi),JQ];rfl
def dr(L:Vr)(nx:za->Vs)(act:Nat->Bool)(R:List Bool):Prop:=∀(k:Nat) c,L[k]?=some c->(Ld R k||act k)=true->∀s∈nx c,Xi L s=true->Ld R (Lm L s).toNat=true
theorem th(h:U9 L nx act VK 0 L=false):dr L nx act VK:=λk c hk hb s hs hh=>by
 have:=(SY L 0 VK h).2 k c hk (by rw[QN];exact hb);rw[Qq]at this;have:=this s hs;unfold ZS at this;rw[hh,QD,Qm,Bool.not_eq_false]at this;exact this
theorem uJ{R X:Type}{st:List Bool->Bool->X}{body:X->Option (Sum X (Sum (List Bool) R))}{Q:Nat->Prop}
  (hb:∀VK,VK.length=L.length->body (st VK true)=some (.inl (st (ZP L nx act VK 0 L) (U9 L nx act VK 0 L))))
  (he:∀VK,VK.length=L.length->body (st VK false)=some (.inr (.inl VK)))
  (hQ:∀(j:Nat) c,L[j]?=some c->(Q j\/act j=true)->∀s∈nx c,Xi L s=true->Q (Lm L s).toNat):
  ∀(d:Nat) (VK:List Bool),VK.length=L.length->L.length<=d+cnt VK->(∀n,Ld VK n=true->Q n)->
  ∃F,zk body (st VK true)=some (.inl F)/\F.length=L.length/\dr L nx act F/\(∀n,Ld VK n=true->Ld F n=true)/\(∀n,Ld F n=true->Q n)
 |d,VK,hl,hd,hq=>by
  have hl2:(ZP L nx act VK 0 L).length=L.length:=(xX L 0 VK).trans hl;rw[zH,hb VK hl]
  cases hg:U9 L nx act VK 0 L with
  |false =>
   have e:=(SY L 0 VK hg).1;refine⟨VK,?_,hl,th hg,λn h=>h,hq⟩;show zk body (st _ false)=_;rw[zH,he _ hl2,e];rfl
  |true =>
   have hc:=vO (nx:=nx) (act:=act) L 0 VK hl;rw[hg]at hc;simp only[YF]at hc;have hle:=t7 (ZP L nx act VK 0 L);have hq2:∀n,Ld (ZP L nx act VK 0 L) n=true->Q n:=uI L 0 VK hl (λj c hj hor=>by rw[QN]at hor;exact hQ j c hj hor) hq
   cases d with
   |zero=>omega
   |succ d =>
    obtain⟨F,k1,k2,k3,k4,k5⟩:=uJ hb he hQ d _ hl2 YA hq2;exact⟨F,k1,k2,k3,λn h=>k4 n (ua L 0 VK hl n h),k5⟩
end
end Go.Proofs.YthmnlfenkhmmhaaGreat
